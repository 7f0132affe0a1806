/- A part. -/
import Derived.Test.YtlggbfanooejbaaGreatDoorG3
import Derived.Laws.MakeOwn
import Derived.WalkSpells
import Derived.Laws.BytesString
set_option maxRecDepth 100000
set_option maxHeartbeats 8000000
set_option linter.all false
open Go Go.RowKit Go.Proofs.Tryz Go.Proofs.YtlggbfanooejbaaGreatDoor
variable {x z:It} {Y U b c g hi i j k lo n:Nat} {key:Int} {Z β:Type} {X W V v:Value} {w w':World} {e:TypeId} {R:List Pk} {a o:List It} {p s:ByteArray} {S cs:List Value} {A:Option Addr} {T:List TypeId} {E:gR Z} {xs:List Z}
namespace Go.Proofs.YtlggbfanooejbaaGreatDoor
def be:=@List.setIfInBounds_toArray
def dk:=@List.set_cons_zero
def dl:=@List.set_cons_succ
def fd:=@Go.World.size_setCell
def oE:=@List.length_singleton
def oR:=@Go.bodyPost_ret
def pu:=@List.length_eq_zero_iff
def sx:=@List.getElem?_set_self
def sU:=@List.mem_or_eq_of_mem_set
def sV:=@List.getElem?_set_ne
def tk:=@List.sum_cons
def ul:=@List.Sublist.refl
def um:=@Int.le_refl
def uJ:=@Nat.sub_self
def vz:=@List.drop_length
def vY:=@List.mem_of_getLast?
section
variable {β:Bool}
open Go.RowKit
def aod(p:List Nd->Prop)(w:World)(e:Ending)(w':World):Prop:=∃v a,e=.returned v/\aD nz 122 w' w.heap.size v a/\p a/\Below w.heap.size w w'
def ajN(xs:List Nd)(s:ByteArray)(v:Value)(w:World)(lo hi:Nat)(h:fG w lo hi xs [v])(u:hi<=w.heap.size)(N:xs.length<=1000) :
  Calls (ai β) 65 #[v,.string s] w (aod (λys=>ys.Sublist xs) w):=by
 obtain⟨A,c,rfl⟩:=h.form;go_enter zp,ntmps65;go_wp2;have f:=aC w (.cells #[] 122);have e:aD nz 122 (w.alloc (.cells #[] 122)) w.heap.size (.slice (some ⟨w.heap.size,0,none⟩) 0 0) []:=(dW.new w 122 (am _)).own 2;generalize w.alloc (.cells #[] 122)=w0 at *;go_loopw [5,6] (λz p wr=>∃(k:Nat) (ys:List Nd),k<=xs.length/\p=.int .i64 k/\aD nz 122 wr w.heap.size z ys/\ys.Sublist (xs.take k)/\Below w.heap.size w wr) (λ_ p _=>xs.length-(intOf p).toNat)
 case atStart=>exact⟨0,[],fa _,rfl,e,ul _,f⟩
 case round=>
  clear e f;obtain⟨k,ys,I,rfl,g,j,d⟩:=hrel;obtain⟨D,y,rfl⟩:=g.form;have r:ys.length<=k:=by have:=j.length_le;rw[ff] at this;omega
  by_cases m:k<xs.length
  .obtain⟨x,l⟩:=ak m;obtain⟨G,t,rfl,_,C,H,P,M⟩:=lA (fG.az.below h d u) l;have a:(ys++[x]).Sublist (xs.take (k+1)):=by rw[mp l];exact j.append (ul _)
   have b:ys.Sublist (xs.take (k+1)):=by rw[mp l];exact j.trans (List.sublist_append_left _ _)
   replace a:=ab a;replace b:=ab b;clear l j;cases J:(x.p.toList ==s.toList)
   .go_wp2_with(at_builtin;refine bM (F:=nz) (v:=.slice D ys.length y) rfl (.tmp 21) (.tmp 26) 83 rfl mj x rfl g rfl rfl (by omega) d.size ?_;intro O K n o q;obtain⟨E,L,rfl⟩:=n.form;simp only[ap,fi,lP,lm] at n);go_roundw
    case rel=>
     exact⟨k+1,ys++[x],by omega,by go_num,by simpa using n,a.out,d.trans (o.below d.size λi hi B=>by have:=(g.at_ B).1;omega)⟩
    case measure=>simp[intOf];omega
   .go_wp2;go_roundw
    case rel=>exact⟨k+1,ys,by omega,by go_num,g,b.out,d⟩
    simp[intOf];omega
  .obtain rfl:k=xs.length:=by omega
   go_wp2;go_ret;exact⟨_,ys,rfl,g,by rwa [ga] at j,d⟩
def al4(xs:List Nd)(f:Nd)(hf:nz.good f)(v:Value)(w:World)(lo hi:Nat)(h:fG w lo hi xs [v])(X:hi<=w.heap.size)(hl:xs.length<=1000) :
  Calls (ai β) 102 #[v,.agg #[.string f.p,.string f.b]] w (aod (λa=>(∀y∈a,y∈xs\/y=f)/\a.length<=xs.length+1) w):=by
 obtain⟨A,c,rfl⟩:=h.form;go_enter yN,ntmps102;go_wp2;generalize hG:(w.alloc (.cells #[.string f.p,.string f.b] 122)).alloc (.cells #[] 122)=w0 at *;obtain⟨aP,jh,k0,dv,fg,k1,oP,a5⟩:=agc hG;clear hG;have P:aD nz 122 w0 (w.heap.size+1) (.slice (some ⟨w.heap.size+1,0,none⟩) 0 0) []:=dW.own ⟨_,rfl,am _,k1⟩ 2;clear k1 oP a5 dv fg;go_loopw [5,6,7] (λoo dd ii wr=>∃(k:Nat) (d:Bool) (a:List Nd),k<=xs.length/\ii=.int .i64 k/\dd=.bool d/\aD nz 122 wr (w.heap.size+1) oo a/\(∀y∈a,y∈xs\/y=f)/\a.length<=k+(if d then 1 else 0)/\Below (w.heap.size+1) w0 wr) (λ_ _ ii _=>xs.length-(intOf ii).toNat)
 case atStart=>exact⟨0,false,[],fa _,rfl,rfl,P,λy b=>(by cases b),am _,fm _ _⟩
 case round=>
  clear P;obtain⟨k,d,a,hk,rfl,rfl,q,b,g,n⟩:=hrel;obtain⟨Z,Y,rfl⟩:=q.form;have T:cg wr w.heap.size 122 #[.string f.p,.string f.b]:=(n.block _ (by omega)).trans k0;have l:wr.cell? ⟨w.heap.size,0,none⟩=some (.string f.p):=T.cell 0;have z:wr.cell? ⟨w.heap.size,1,none⟩=some (.string f.b):=T.cell 1;have e:Below w.heap.size w wr:=aP.trans (n.mono (by omega));have G:=ab b;clear b;by_cases a1:k<xs.length
  .obtain⟨x,O⟩:=ak a1;obtain⟨b1,ad,rfl,_,al,hg,M,c1⟩:=lA (fG.az.below h e X) O;have HX:=ab (aE O);replace O:=ab O;clear M c1;cases d
   case' true=>
    go_wp2;have s:=ag l;refine aB (by kernel_rfl) (by kernel_rfl) ?_;repeat(go_big_quiet_step (fail))
    refine gE ?_;intro V m;have j:=aN m;clear m s;have D:=n.trans (j.mono (by have:=n.size;omega));have oz:=q.below j;clear q l z n e T;go_wp2;have r:=G;have p:=g;clear G g;generalize Z=A2 at *;generalize Y=W at *;generalize a=ys2 at *
   case' false=>
    cases U:Op.bytesLess x.p.toList f.p.toList
    case' false=>
     obtain⟨b2,mV,C,_,_,_,M,_⟩:=lA (fG.az.below h e X) O.out;simp only[jt,qd,qh] at C;obtain⟨rfl,rfl⟩:=C;go_wp2;have s:=ag M;have L:=ag l;refine aB (by kernel_rfl) (by kernel_rfl) ?_;repeat(go_big_quiet_step (fail))
     refine gE ?_;intro V m;have j:=aN m;clear m s L;have B:=n.trans (j.mono (by have:=n.size;omega));have I:=q.below j;have a3:=fL j l;have a4:=fL j z;have a9:a.length<=k:=by simpa using g
     clear q M l z U;go_wp2_with(at_builtin;refine bM (F:=nz) (v:=.slice Z a.length Y) rfl (.tmp 27) (.tmp 29) 83 rfl mj f rfl I rfl rfl (by omega) (by have:=B.size;omega) ?_;intro va wa H K a2;obtain⟨A2,W,rfl⟩:=H.form;simp only[ap,fi,lP,lm] at H);have oz:aD nz 122 wa (w.heap.size+1) (.slice A2 (a++[f]).length W) (a++[f]):=by simpa using H
     have D:Below (w.heap.size+1) w0 wa:=B.trans (K.below (by have:=B.size;omega) λi hi S=>by have:=(I.at_ S).1;omega);have r:Hid (∀y∈a++[f],y∈xs\/y=f):=ab λy b=>by
      rcases io.1 b with b|b
      .exact G.out y b
      .exact .inr (ge.1 b)
     have p:(a++[f]).length<=k+(if true then 1 else 0):=by simp;omega
     have E:(a++[f]).length=a.length+1:=by simp
     rw[<-E];clear E H I B n e T g a3 a4;clear G;generalize a++[f]=ys2 at *
    case' true=>
     obtain⟨b2,mV,C,_,_,_,M,_⟩:=lA (fG.az.below h e X) O.out;simp only[jt,qd,qh] at C;obtain⟨rfl,rfl⟩:=C;go_wp2;have s:=ag M;have L:=ag l;refine aB (by kernel_rfl) (by kernel_rfl) ?_;repeat(go_big_quiet_step (fail))
     refine gE ?_;intro V m;have j:=aN m;clear m s L;have D:=n.trans (j.mono (by have:=n.size;omega));have oz:=q.below j;clear q M l z U n e T;go_wp2;have r:=G;have p:=g;clear G g;generalize Z=A2 at *;generalize Y=W at *;generalize a=ys2 at *
   all_goals
    rename World=>wz
    have N:cg wz w.heap.size 122 #[.string f.p,.string f.b]:=((D).block _ (by omega)).trans k0;have t:(wz).cell? ⟨w.heap.size,0,none⟩=some (.string f.p):=N.cell 0;have J:Below w.heap.size w wz:=aP.trans ((D).mono (by omega));obtain⟨b3,a8,C,_,_,_,R,d1⟩:=lA (fG.az.below h J X) O.out;simp only[jt,qd,qh] at C;obtain⟨rfl,rfl⟩:=C;cases Q:(x.p.toList ==f.p.toList)
    .have s:=ag R;have L:=ag t;refine aB (by kernel_rfl) (by kernel_rfl) ?_;repeat(go_big_quiet_step (fail))
     refine gE ?_;intro V m;have j:=aN m;clear m s L;have o:=(D).trans (j.mono (by have:=(D).size;omega));have u:=(oz).below j;have a6:=fL j R;have aa:=fL j d1;have a7:(ys2).length<=k+1:=db p (by simp);have HL:=ab p;clear R d1 t Q J N;go_wp2_with(at_builtin;refine bM (F:=nz) (v:=.slice A2 (ys2).length W) rfl (.tmp 39) (.tmp 44) 83 rfl mj x rfl u rfl rfl (by omega) (by have:=o.size;omega) ?_;intro vb wb ob a0 af;obtain⟨Ab,cb,rfl⟩:=ob.form);go_roundw
     case rel=>
      refine⟨k+1,_,ys2++[x],by omega,by go_num,rfl,by simpa using ob,λy b=> ?_,by have:=HL.out;rw[ap];simp at this ⊢;omega,o.trans (a0.below (by have:=o.size;omega) λi hi S=>by have:=(u.at_ S).1;omega)⟩;rcases io.1 b with b|b
      .exact(r).out y b
      .rw[ge.1 b];exact .inl HX.out
     case measure=>simp[intOf];omega
    .have s:=ag R;have L:=ag t;refine aB (by kernel_rfl) (by kernel_rfl) ?_;repeat(go_big_quiet_step (fail))
     refine gE ?_;intro V m;have j:=aN m;clear m s L;have o:=(D).trans (j.mono (by have:=(D).size;omega));have u:=(oz).below j;have HL:=ab p;clear R d1 t Q J N;go_wp2;go_roundw
     case rel=>exact⟨k+1,_,ys2,by omega,by go_num,rfl,u,(r).out,by have:=HL.out;simp at this ⊢;omega,o⟩
     simp[intOf];omega
  .obtain rfl:k=xs.length:=by omega
   cases d
   .go_wp2_with(at_builtin;refine bM (F:=nz) (v:=.slice Z a.length Y) rfl (.tmp 48) (.tmp 50) 83 rfl mj f rfl q rfl rfl (by simp at g;omega) (by have:=n.size;omega) ?_;intro va wa H K a2;obtain⟨Aa,ca,rfl⟩:=H.form;simp only[ap,fi,lP,lm] at H);go_ret;refine⟨_,a++[f],rfl,(by simpa using H:aD nz 122 wa (w.heap.size+1) (.slice Aa (a.length+1) ca) (a++[f])).base (by omega),⟨λy b=> ?_,by simp at g ⊢;omega⟩,e.trans (K.below e.size λi hi S=>by have:=(q.at_ S).1;omega)⟩;rcases io.1 b with b|b
    .exact G.out y b
    .exact .inr (ge.1 b)
   .go_wp2;go_ret;exact⟨_,a,rfl,q.base (by omega),⟨G.out,by simpa using g⟩,e⟩
def ar3(w:World)(e:Ending)(w':World):Prop:=∃v a q,e=.returned (.tuple #[v,.bool q])/\aD nz 122 w' w.heap.size v a/\kC a/\Below w.heap.size w w'
def aak{b:List Nd}(h:kC b):∀y∈b,nz.good y:=λy c=>by
 have d:=ly (h.1 y c).1;have a:=(h.1 y c).2;unfold dE at a;rw[fk] at a;have e:=sR a.1;exact⟨by unfold maxLen;omega,by unfold maxLen;omega⟩
def adF(xs:List Nd)(p b:ByteArray)(u:p.size<=maxLen)(o:b.size<=maxLen)(v:Value)(w:World)(lo hi:Nat)(h:fG w lo hi xs [v])(l:hi<=w.heap.size)(N:xs.length<=1000) :
  Calls (ai β) 62 #[v,.string p,.string b] w (ar3 w):=by
 obtain⟨A,c,rfl⟩:=h.form;go_enter zv,ntmps62;go_wp2;refine(abe xs _ w lo hi h l).mono ?_;rintro e f ⟨⟨rfl,g⟩|rfl,a⟩
 .replace g:=ab g;go_wp2;refine(jq p u f).mono ?_;rintro e n ⟨rfl,rfl⟩;cases R:gS p
  .go_wp2;exact oR (v:=.tuple #[.slice (some ⟨(f).heap.size,0,none⟩) 0 0,.bool false]) (by simp[results,results62,go_sem]) rfl ⟨_,[],false,rfl,(dW.new f 122 (a).size).own 2,.nil,(a).alloc (a).size _⟩
  .go_wp2;refine(jo b o f).mono ?_;rintro e n ⟨rfl,rfl⟩;cases I:dE b
   .go_wp2;exact oR (v:=.tuple #[.slice (some ⟨(f).heap.size,0,none⟩) 0 0,.bool false]) (by simp[results,results62,go_sem]) rfl ⟨_,[],false,rfl,(dW.new f 122 (a).size).own 2,.nil,(a).alloc (a).size _⟩
   .go_wp2;refine(al4 xs ⟨p,b⟩ ⟨u,o⟩ _ f lo hi (fG.az.below h a l) (db l a.size) N).mono ?_;rintro e n ⟨V,m,rfl,r,⟨D,J⟩,B⟩;obtain⟨Q,L,rfl⟩:=r.form;have s:∀y∈m,nz.good y:=λy O=>by
     rcases D y O with K|rfl
     .exact aak g.out y K
     .exact⟨u,o⟩
    have U:=B.size;have P:=(r.deep s f.heap.size).sl (am _);go_wp2;refine(abe m _ n f.heap.size n.heap.size P (am _)).mono ?_;rintro e E ⟨⟨rfl,k⟩|rfl,q⟩
    .have t:=ab k;have d:=ae (ae a B) q;have M:=(r.below q).base a.size;clear k;go_wp2;exact oR (v:=.tuple #[.slice Q m.length L,.bool true]) (by simp[results,results62,go_sem]) rfl ⟨_,m,true,rfl,M,t.out,d⟩
    .have d:=ae (ae a B) q;have j:=jN (F:=nz) (fG.az.below h d l).1 (db l d.size);have x:=ab j;have i:=aC E (.cells #[] 122);have z:=ab (dW.new E 122 (am _));clear j;go_wp2_with(at_builtin;refine mY (F:=nz) (xs:=xs) i rfl (.tmp 31) (.tmp 32) 83 rfl mj (am _) rfl rfl z.out x.out (by omega) ?_;intro T S C G;obtain⟨A',H,rfl⟩:=G.form);exact oR (v:=.tuple #[.slice A' xs.length H,.bool false]) (by simp[results,results62,go_sem]) rfl ⟨_,xs,false,rfl,G.base d.size,g.out,ae d (ae i C)⟩
 .go_wp2;exact oR (v:=.tuple #[.slice (some ⟨(f).heap.size,0,none⟩) 0 0,.bool false]) (by simp[results,results62,go_sem]) rfl ⟨_,[],false,rfl,(dW.new f 122 (a).size).own 2,.nil,(a).alloc (a).size _⟩
end
section
variable {β:Bool}
open Go.RowKit
def au7(p:Prop):∃q:Bool,q=true↔p:=by
 by_cases h:p
 .exact⟨true,by simp[h]⟩
 .exact⟨false,by simp[h]⟩
def au8{l:List Sp}(h:ixP l):∀x∈l,FSp.good x:=λx a=>by
 have:=h.1 x a;unfold spP at this;refine⟨?_, ?_⟩<;>unfold bX<;>omega
end
section
variable {β:Bool}
open Go.RowKit
def ag8:∀{a l:List Sp} {x:Sp},x∈eA a l->x∈a\/x∈l
 |[],_,_,h=>.inr h
 |s::a,l,x,h=>by
  have b:x∈eA a (fQ s l):=h;rcases ag8 b with h|h
  .exact .inl (by simp[h])
  .rcases ab9 h with rfl|h
   .exact .inl (by simp)
   .exact .inr h
instance aEz:Inhabited Tr:=⟨.nil⟩
end
section
variable {β:Bool}
open Go.RowKit
def aea(l:List Pk)(v:Value)(w:World)(lo hi:Nat)(bE:hi<=w.heap.size)(h:dQ w lo hi l [v])(hn:(dr l).length<=4000000)(r:List Sp)(hr:IOf l r) :
  Calls (ai β) 97 #[v] w (axb w r):=by
 obtain⟨A,c,rfl⟩:=h.form;obtain⟨_,hc,hx⟩:=h.len_;unfold maxLen at hx;have HR:=ab hr;clear hr;go_enter yX,ntmps97;go_wp2;have ba:=aC w (.cells #[] 199);have l0:aD FSp 199 (w.alloc (.cells #[] 199)) w.heap.size (.slice (some ⟨w.heap.size,0,none⟩) 0 0) []:=aD.abJ (dW.new _ _ (am _));generalize w.alloc (.cells #[] 199)=w0 at *;go_loopw [3,4] (λZ ii wr=>∃k:Nat,k<=l.length/\ii=.int .i64 k/\aD FSp 199 wr w.heap.size Z (eA (dr (l.take k)) [])/\(∀s∈dr (l.take k),spP s)/\Below w.heap.size w wr) (λZ ii _=>l.length-(intOf ii).toNat)
 case atStart=>exact⟨0,fa _,rfl,l0,λs t=>(by cases t),ba⟩
 case round=>
  clear l0 ba;obtain⟨k,hk,rfl,i,t,C⟩:=hrel;have HS:=ab t;clear t;have g2:=dQ.az.below h C bE;by_cases a4:k<l.length
  .obtain⟨p,K⟩:=ak a4;replace K:=ab K;have R:Hid (∀s∈cQ l k 0,spP s):=ab (by rw[acd];exact HS.out);rw[<-acd] at i;obtain⟨Ao,co,rfl⟩:=i.form;have M:=i;clear i HS;go_wp2;go_loopw [3,5] (λZ jj wy=>∃j:Nat,j<=p.its.length/\jj=.int .i64 j/\aD FSp 199 wy w.heap.size Z (eA (cQ l k j) [])/\(∀s∈cQ l k j,spP s)/\Below w.heap.size w wy) (λZ jj _=>p.its.length-(intOf jj).toNat)
   case atStart=>exact⟨0,fa _,rfl,M,R.out,C⟩
   case round=>
    clear M R g2 C;obtain⟨j,hj,rfl,i,t,f⟩:=hrel;have HS:=ab t;clear t;obtain⟨b1,ad,A1,c1,rfl,af,J,aa,S,a0,V⟩:=lV h K.out;have a2:=fL f S;have oK:=fL f a0;have jL:=fC.az.below V f bE;obtain⟨_,al,a8⟩:=jL.len_;unfold maxLen at a8;clear S a0 V;have P:=ajI (j:=j) K.out;have N:=ag3 (a:=cQ l k j) (l:=[]);have a5:(eA (cQ l k j) []).length<=4000000:=by simp only[lP,rO] at N;omega
    clear N P;by_cases a1:j<p.its.length
    .obtain⟨y,u⟩:=ak a1;obtain⟨b2,mV,rfl,_,_,a9,cn,cb⟩:=aaG jL u;have d:=aim K.out u;replace u:=ab u;replace d:=ab d;obtain⟨Ao,co,rfl⟩:=i.form;have T:=ab (λb O=>(i.at_ (g:=b) O).2);go_wp2;have aG:=ag a2;have aK:=ag oK;have bc:=ag cn;refine aZ 16 [0,1,2,3,4,5,6,7,8,9,10,11,12,13,14] [15] (h:= ?_);simp only[pick,List.map,mx,mT];repeat(go_big_quiet_step (fail))
     refine gE ?_;clear aG aK bc;apply Exists.intro;apply dy (λv w'=>∃g,v=.pointer (some ⟨g,0,none⟩)/\wr.heap.size<=g/\cg w' g 199 #[.int .i64 0,.int .i64 0])
     .rfl
     .exact λv x y ⟨g,e,hg,hk⟩ hle=>⟨g,e,hg,ar hk hle⟩
     .intro x X Qx E;replace E:=ab E;clear X;go_wp2;exact E.out _ _ (aC _ _) ⟨_,rfl,x.ok.size,cg.new _ _ _⟩
     intro u6;refine cV ?_;intro w2 J xx je X;dsimp only[iv] at X;try rw[je] at X
     clear je xx;obtain⟨⟨g,rfl,hg,kb⟩, -⟩:=X;simp only[List.drop];have gw:=f.size;replace i:=i.below J;replace f:=ae f J;have I:=kb.cell;have a6:=kb.frozen;go_wp2;have n:=(kb.bC 0 (.int .i64 y.n)).bC 1 (.int .i64 p.no);simp only[be,dk,dl] at n;have m:Below w.heap.size w ((w2.setCell ⟨g,0,none⟩ (.int .i64 y.n)).setCell ⟨g,1,none⟩ (.int .i64 p.no)):=(f.setCell (by dsimp only;omega) _).setCell (by dsimp only;omega) _;have o:aD FSp 199 ((w2.setCell ⟨g,0,none⟩ (.int .i64 y.n)).setCell ⟨g,1,none⟩ (.int .i64 p.no)) w.heap.size (.slice Ao (eA (cQ l k j) []).length co) (eA (cQ l k j) []):=
      (i.arP _ (λb O=>by have:=T.out b O;dsimp only;omega)).arP _ (λb O=>by have:=T.out b O;dsimp only;omega)
     clear I a6;generalize (w2.setCell ⟨g,0,none⟩ (.int .i64 y.n)).setCell ⟨g,1,none⟩ (.int .i64 p.no)=w3 at *;have I:=n.cell;obtain⟨q,W⟩:=au7 (spP ⟨y.n,p.no⟩);refine(alS ⟨y.n,p.no⟩ w3 q W).mono ?_;rintro e w4 ⟨rfl,b4⟩;replace n:=ar n b4;have I:=n.cell;replace o:=o.below b4;replace m:=ae m b4;cases q with
     |false=>
      have U:¬spP ⟨y.n,p.no⟩:=λh=>by have:=W.2 h;cases this
      have a3:r=[]:=by
       rcases HR.out with⟨h,_⟩|⟨_,h⟩
       .exact absurd (h _ (ajH (k:=k) (j:=j+1) _ (by rw[d.out];simp))) U
       .exact h
      subst a3;clear W U;have ba:=aC w4 (.cells #[] 199);go_wp2;go_ret;exact⟨_,rfl,aD.abJ (dW.new _ _ (m.size)),ae m ba⟩
     |true=>
      have B:=W.1 rfl;replace B:=ab B;clear W;have D:=ab a5;have Q:=ag2 (a:=cQ l k j) (l:=[]) List.Pairwise.nil;have G:=ab Q;clear Q;have Y:∀z∈eA (cQ l k j) [],FSp.good z:=λz hz=>by
       rcases ag8 hz with h|h
       .have:=HS.out z h;unfold spP at this;show bX z.n/\bX z.p;unfold bX;omega
       .cases h
      have F:=ab Y;clear Y;have fh:eA (cQ l k (j+1)) []=fQ ⟨y.n,p.no⟩ (eA (cQ l k j) []):=by
       rw[d.out,acb];rfl
      have kv:=ab fh;clear fh;have H:∀s∈cQ l k (j+1),spP s:=λs t=>by
       rw[d.out] at t;rcases io.1 t with h|h
       .exact HS.out s h
       .rw[ge.1 h];exact B.out
      replace H:=ab H;revert o D G F kv;generalize eA (cQ l k j) []=L;intro o D G F kv;go_wp2;refine(apG ⟨y.n,p.no⟩ (by have:=B.out;unfold spP at this;unfold bX;omega) L _ w4 _ _ (am _) (o.sl F.out (am _)) G.out (by have:=D.out;omega)).mono ?_;rintro e w5 ⟨v5,rfl,o5,b5⟩;obtain⟨A5,c5,rfl⟩:=o5.form;go_wp2;go_roundw
      case rel=>exact⟨j+1,by omega,by go_num,by rw[kv.out];exact o5.base m.size,H.out,ae m b5⟩
      simp[intOf];omega
    .obtain rfl:j=p.its.length:=by omega
     have he:=ajG K.out;replace he:=ab he;have a7:Hid (∀s∈dr (l.take (k+1)),spP s):=ab (by rw[<-he.out];exact HS.out);obtain⟨Ao,co,rfl⟩:=i.form;go_wp2;go_roundw
     case rel=>exact⟨k+1,by omega,by go_num,by rw[<-he.out];exact i,a7.out,f⟩
     simp[intOf];omega
  .obtain rfl:k=l.length:=by omega
   have gD:r=eA (dr l) []:=by
    have h1:=HS.out;rw[ga] at h1;rcases HR.out with⟨_,h⟩|⟨h,_⟩
    .exact h
    .exact absurd h1 h
   replace gD:=ab gD;clear HS;rw[ga,<-gD.out] at i;obtain⟨Ao,co,rfl⟩:=i.form;go_wp2;go_ret;exact⟨_,rfl,i,C⟩
end
section
variable {β:Bool}
open Go.RowKit
def wU{l:List Z}{x:Z}(h:l[k]?=some x):l.drop k=x::l.drop (k+1):=by
 have a:=aI h;rw[rz a]
 congr 1
 rw[ls a] at h;exact ef h
def al5(xs:List Sp)(n:Int)(v:Value)(w:World)(lo hi:Nat)(h:cB RSp 2 w lo hi xs [v]) :
  Calls (ai β) 138 #[v,.int .i64 n] w λe p=>e=.returned (.int .i64 (eB n xs))/\w=p:=by
 obtain⟨A,c,rfl⟩:=h.form;obtain⟨_,y,q⟩:=h.len_;unfold maxLen at q;go_enter yx,ntmps138;go_wp2
 go_loop [5] (λi=>∃k:Nat,k<=xs.length/\i=.int .i64 k/\eB n xs=eB n (xs.drop k)) (λi=>xs.length-(intOf i).toNat)
 case atStart=>exact⟨0,fa _,rfl,by rw[rc]⟩
 case round=>
  obtain⟨k,u,rfl,a⟩:=hrel;replace a:=ab a;by_cases d:k<xs.length
  .obtain⟨x,f⟩:=ak d;obtain⟨t,o,rfl,_,_,s,g,r⟩:=axa h f;have hd:eB n (xs.drop k)=if x.n=n then x.p else eB n (xs.drop (k+1)):=by rw[wU f];rfl
   replace hd:=ab hd;clear f;by_cases b:x.n=n
   .have m:(x.n ==n)=true:=mt.2 b;have j:=ab (a.out.trans (hd.out.trans (dj b)));clear b;go_wp2;go_ret;exact⟨by rw[j.out];rfl,rfl⟩
   .have m:(x.n ==n)=false:=du.2 b;have j:=ab (a.out.trans (hd.out.trans (bv b)));clear b;go_wp2
    go_round
    case rel=>exact⟨k+1,by omega,by go_num,j.out⟩
    simp[intOf];omega
  .obtain rfl:k=xs.length:=by omega
   have l:eB n xs=0:=by rw[a.out,vz];rfl
   replace l:=ab l;clear a;go_wp2;go_ret;exact⟨by rw[l.out];rfl,rfl⟩
open Classical in
noncomputable def dF(key:Int)(ix:List Sp)(o:List ByteArray)(p:ByteArray):List ByteArray:=if eB (bG key (bs p)) ix=0/\p∉o then o++[p] else o
noncomputable def nT(key:Int)(ix:List Sp)(o l:List ByteArray):List ByteArray:=l.foldl (dF key ix) o
def pN(t:List Nd):List ByteArray:=t.flatMap λf=>fY f.b
noncomputable def aax(key:Int)(ix:List Sp)(t:List Nd):List ByteArray:=nT key ix [] (pN t)
def ajO{ix:List Sp}{o:List ByteArray}(h:eB (bG key (bs p)) ix=0)(a:p∉o):dF key ix o p=o++[p]:=dj ⟨h,a⟩
def afv{ix:List Sp}{o:List ByteArray}(h:¬(eB (bG key (bs p)) ix=0/\p∉o)):dF key ix o p=o:=bv h
def apK{ix:List Sp}{o l:List ByteArray}(h:l[k]?=some p):nT key ix o (l.take (k+1))=dF key ix (nT key ix o (l.take k)) p:=by
 unfold nT;rw[mp h,sS];rfl
def apL{ix:List Sp}{t:List Nd}{f:Nd}(h:t[k]?=some f):aax key ix (t.take (k+1))=nT key ix (aax key ix (t.take k)) (fY f.b):=by
 unfold aax nT pN;rw[mp h,qC,sS];simp
def acg{key:Int}{ix:List Sp}:∀(l o:List ByteArray),(nT key ix o l).length<=o.length+l.length
 |[],o=>am _
 |p::l,o=>by
  have a:=acg (key:=key) (ix:=ix) l (dF key ix o p);have b:(dF key ix o p).length<=o.length+1:=by
   unfold dF;split
   .rw[ap];exact am _
   .exact Nat.le_succ _
  show(nT key ix (dF key ix o p) l).length<=_;rw[fi];omega
def afw{key:Int}{ix:List Sp}{x:ByteArray}:∀{l o:List ByteArray},x∈nT key ix o l->x∈o\/x∈l
 |[],o,h=>.inl h
 |p::l,o,h=>by
  rcases afw (l:=l) (o:=dF key ix o p) h with h|h
  .unfold dF at h;split at h
   .rcases io.1 h with h|h
    .exact .inl h
    .rw[ge.1 h];exact .inr (by simp)
   .exact .inl h
  .exact .inr (qL _ h)
def ac5:∀{t:List Nd},(∀x∈t,dE x.b=true)->(pN t).length<=40*t.length
 |[],_=>fa _
 |f::t,h=>by
  have c:=ac5 (t:=t) λx b=>h x (qL _ b);have d:=ace f.b;have a:=h f (by simp);unfold dE at a;simp only[fk,qJ] at a;show(fY f.b++pN t).length<=_;rw[ap,fi];omega
def fM(h:dE s=true):s.size<=40/\(bs s).all oU=true:=by
 unfold dE at h;simpa using h
def ajP{t:List Nd}(h:∀x∈t,dE x.b=true):∀x∈pN t,aR (bs x):=λx a=>by
 obtain⟨f,b,a⟩:=ph.1 a;exact ju (fM (h f b)).2 x a
def lB{ix:List Sp}{t:List Nd}(h:∀x∈t,dE x.b=true):∀x∈aax key ix t,aR (bs x):=λx b=>by
 rcases afw b with a|a
 .cases a
 .exact ajP h x a
def lD{x:ByteArray}(h:aR (bs x)):ib.good x:=by
 have:=h.1.2;rw[aM] at this;show x.size<=maxLen;unfold maxLen;omega
def au9(w:World)(xs:List ByteArray)(e:Ending)(w':World):Prop:=∃v,e=.returned v/\aD ib 9 w' w.heap.size v xs/\Below w.heap.size w w'
def al6(key:Int)(hk:1<=key/\key<=99)(t:List Nd)(R:∀x∈t,dE x.b=true)(hl:t.length<=1000)(ix:List Sp)(vt vi:Value)(w:World)(lo hi:Nat)(bE:hi<=w.heap.size)(h1:fG w lo hi t [vt])(h2:cB RSp 2 w lo hi ix [vi]) :
  Calls (ai β) 96 #[.int .i64 key,vt,vi] w (au9 w (aax key ix t)):=by
 replace R:=ab R;obtain⟨A,c,rfl⟩:=h1.form;obtain⟨A2,c2,rfl⟩:=h2.form;obtain⟨_,hc,n⟩:=h1.len_;unfold maxLen at n;go_enter yY,ntmps96;go_wp2;have X:=aC w (.cells #[] 9);have Q:aD ib 9 (w.alloc (.cells #[] 9)) w.heap.size (.slice (some ⟨w.heap.size,0,none⟩) 0 0) []:=(dW.new w 9 (am _)).own 1;generalize w.alloc (.cells #[] 9)=w0 at *;go_loopw [7,8] (λoo ii wr=>∃k:Nat,k<=t.length/\ii=.int .i64 k/\aD ib 9 wr w.heap.size oo (aax key ix (t.take k))/\Below w.heap.size w wr) (λ_ ii _=>t.length-(intOf ii).toNat)
 case atStart=>exact⟨0,fa _,rfl,Q,X⟩
 case round=>
  clear Q X;obtain⟨k,b0,rfl,a,l⟩:=hrel;obtain⟨J,ad⟩:∃J,J=wr:=⟨_,rfl⟩;subst ad;by_cases a6:k<t.length
  .obtain⟨f,z⟩:=ak a6;have E:=fM (R.out f (aE z));obtain⟨b1,aP,rfl,_,_,ay,ml,af⟩:=lA (fG.az.below h1 l bE) z;have s:=apL (key:=key) (ix:=ix) z;have a9:(aax key ix (t.take k)).length<=40000:=by
    have a1:=acg (key:=key) (ix:=ix) (pN (t.take k)) [];have a2:=ac5 (t:=t.take k) λx n=>R.out x (oS n);rw[ff] at a2;show(nT key ix [] (pN (t.take k))).length<=_;simp only[lP,lm] at a1;omega
   have a4:=lB (key:=key) (ix:=ix) (t:=t.take k) λx n=>R.out x (oS n);have D:=ju E.2;have kh:=ace f.b;have b3:=E.1;have HS:=ab s;have HP:=ab a4;have S:=ab D;have HC:=ab (ac4 (β:=β) f.b (by omega));clear z s a4 D E;revert HS;revert HP;generalize aax key ix (t.take k)=base at a a9;intro HP HS;obtain⟨A0,c0,rfl⟩:=a.form;go_wp2;refine(HC.out J).mono ?_;rintro e w1 ⟨v1,rfl,op,u⟩;clear HC;obtain⟨Ap,cp,rfl⟩:=op.form;have a3:=a.below u;have C:=ae l u;have W:∀g,(Value.slice A0 base.length c0).ownBlock=some g->g<J.heap.size\/w1.heap.size<=g:=λg hg=>.inl (a.at_ hg).2;have B:=(op.deep (λx n=>lD (S.out x n)) J.heap.size).sl (am _);have zo:=l.size;have z1:=u.size;revert HS;revert S;revert kh;revert B;generalize fY f.b=ps;intro B kh S HS;have HO:=ab a3;replace C:=ab C;have M:=ab B;have d:=ab W;clear a l a3 B op W u af ml;go_wp2;go_loopw [7,10] (λoo jj wr=>∃j:Nat,j<=ps.length/\jj=.int .i64 j/\aD ib 9 wr w.heap.size oo (nT key ix base (ps.take j))/\Below w.heap.size w wr/\cH wr J.heap.size w1.heap.size ps [.slice Ap ps.length cp]/\(∀g,oo.ownBlock=some g->g<J.heap.size\/w1.heap.size<=g)/\w1.heap.size<=wr.heap.size) (λ_ jj _=>ps.length-(intOf jj).toNat)
   case atStart=>exact⟨0,fa _,rfl,HO.out,C.out,M.out,d.out,am _⟩
   case round=>
    clear HO C M d;obtain⟨j,ax,rfl,a,l,hr,a0,hz⟩:=hrel;by_cases al:j<ps.length
    .obtain⟨p,y⟩:=ak al;have an:=S.out p (aE y);obtain⟨b2,mV,rfl,aK,aV,aQ,a8⟩:=iV hr y;have fh:=apK (key:=key) (ix:=ix) (o:=base) y;have L:=acg (key:=key) (ix:=ix) (ps.take j) base;rw[ff] at L;have O:∀x∈nT key ix base (ps.take j),ib.good x:=λx n=>by
      rcases afw n with h|h
      .exact lD (HP.out x h)
      .exact lD (S.out x (oS h))
     have ao:=RSp.loc;have N:cB RSp 2 wr lo hi ix [.slice A2 ix.length c2]:=(cB.loc RSp.loc).below h2 l bE;have Y:=ab fh;have H:=ab O;have aa:=ab N;have d:=ab a0;have M:=ab hr;have T:=ab (nM (β:=β) key p hk an wr);clear ao fh O N a0 hr y;revert Y;revert H;generalize nT key ix base (ps.take j)=o at a L;intro H Y;obtain⟨Ao,co,rfl⟩:=a.form;have K:=(a.deep H.out w.heap.size).sl (am _);replace K:=ab K;have aG:o.length<=50000:=by omega
     clear L;go_wp2;refine T.out.mono ?_;rintro e w2 ⟨rfl,rfl⟩;clear T;have I:=ab (al5 (β:=β) ix (bG key (bs p)) _ wr lo hi aa.out);obtain⟨r,U⟩:∃r,r=eB (bG key (bs p)) ix:=⟨_,rfl⟩;rw[<-U] at I;replace U:=ab U;go_wp2;refine I.out.mono ?_;rintro e w2 ⟨rfl,rfl⟩;clear I;by_cases m:r=0
     .have t1:(r ==0)=true:=mt.2 m;have a5:=ab (U.out.symm.trans m);clear m;obtain⟨q,hq⟩:=ed (p∈o);have V:=ab (apI (β:=β) o p _ wr _ _ K.out q hq);cases q with
      |true=>
       have Z:Hid (dF key ix o p=o):=ab (afv λh=>h.2 (hq.1 rfl));clear hq;go_wp2;refine V.out.mono ?_;rintro e w2 ⟨rfl,rfl⟩;go_wp2;go_roundw
       case rel=>exact⟨j+1,by omega,by go_num,by rw[Y.out,Z.out];exact a,l,M.out,d.out,hz⟩
       simp[intOf];omega
      |false=>
       have Z:Hid (dF key ix o p=o++[p]):=ab (ajO a5.out λh=>by have:=hq.2 h;cases this);clear hq;go_wp2;refine V.out.mono ?_;rintro e w2 ⟨rfl,rfl⟩;have P:∀hs:(Value.slice Ao o.length co).ownBlock=some b2,False:=λhs=>by
        have:=d.out _ hs;omega
       replace P:=ab P;go_wp2_with(at_builtin;refine bM (F:=ib) (v:=.slice Ao o.length co) rfl (.tmp 48) (.tmp 53) 117 rfl pL p rfl a rfl rfl (by omega) l.size ?_;intro va wa oa G a7;obtain⟨Aa,ca,rfl⟩:=oa.form;simp only[ap,fi,lP,lm] at oa);go_roundw
       case rel=>
        refine⟨j+1,by omega,by go_num,by rw[Y.out,Z.out];simpa using oa,l.trans (G.below l.size λi hi n=>by have:=(a.at_ n).1;omega),cH.az.fP M.out G λb b1 b2 _ hs=>by have:=d.out _ hs;omega,λg hg=> ?_,db hz G.size⟩;rcases a7 g (by simpa using hg) with h|h
        .exact d.out g h
        .exact .inr (by omega)
       case measure=>simp[intOf];omega
     .have t1:(r ==0)=false:=du.2 m;have Z:Hid (dF key ix o p=o):=ab (afv λh=>m (U.out.trans h.1));clear m;go_wp2;go_roundw
      case rel=>exact⟨j+1,by omega,by go_num,by rw[Y.out,Z.out];exact a,l,M.out,d.out,hz⟩
      simp[intOf];omega
    .obtain rfl:j=ps.length:=by omega
     rw[ga] at a;rw[<-HS.out] at a;have HO:=ab a;clear a;go_wp2;go_roundw
     case rel=>exact⟨k+1,by omega,by go_num,HO.out,l⟩
     simp[intOf];omega
  .obtain rfl:k=t.length:=by omega
   rw[ga] at a;obtain⟨A0,c0,rfl⟩:=a.form;go_wp2;go_ret;exact⟨_,rfl,a,l⟩
end
section
variable {β:Bool}
open Go.RowKit
def apM {P:Program} (t e:TypeId) (z:Value) (f a:Nat) (j:P.underlying t=some (.slice e)) (c:(P.info? e).map (λi=>(i.zero,i.size,i.bytes))=some (some z,f,a))
  (n:Nat) (b:a*n<=281474976710656) (o:n<=9223372036854775807) (w:World) :
  (Instr.makeSlice t (.int .i64 (n:Int)) (.int .i64 (n:Int))).run P w=.ok (.slice (some ⟨w.heap.size,0,none⟩) n n) (w.alloc (.cells (madeCells z.cells (n*f)) e)):=by
 obtain⟨i,m,p,l,k⟩:=info_parts c;have d:(i.bytes:Int)*(n:Int)<=281474976710656:=by
  have h:((i.bytes*n:Nat):Int)<=281474976710656:=by rw[k];omega
  rwa [Int.natCast_mul] at h
 have g:=run_make (P:=P) w t e i z j m p .i64 .i64 n n (by omega) (um _) d (by omega);simp only[sT,l] at g;exact g
end
section
variable {β:Bool}
open Go.RowKit
section
variable {α:Type} {E:gR α} {T:List TypeId} {sz:Nat} {e:TypeId}
def Els(E:gR α)(sz:Nat)(w:World)(lo hi:Nat)(xs:List α)(cells:List Value):Prop:=
 cells.length=xs.length*sz/\(∀u∈cells,u.oneCell'=true)/\∃m:Nat->Nat,(∀i,m i<=m (i+1))/\lo<=m 0/\m xs.length<=hi/\
  ∀i x,xs[i]?=some x->∃a:List Value,a.length=sz/\E w (m i) (m (i+1)) x a/\∀j u,a[j]?=some u->cells[i*sz+j]?=some u
def eL{m:Nat->Nat}(h:∀i,m i<=m (i+1)){i:Nat}:∀{j:Nat},i<=j->m i<=m j
 |0,hj=>by obtain rfl:i=0:=by omega
           exact am _
 |j+1,hj=>by
  by_cases a:i=j+1
  .rw[a];exact am _
  .exact db (eL h (show i<=j by omega)) (h j)
def Els.nil(h:lo<=hi):Els E sz w lo hi [] []:=⟨by simp,λ_ h=>(by cases h),λ_=>lo,λ_=>am _,am _,h,λi x h=>by simp at h⟩
def Els.go(g:eK E T){pF hi' : Nat}{xs:List α}(h:Els E sz w lo hi xs S)(k:∀b,lo<=b->b<hi->Typed w T b->w'.heap[b]?=w.heap[b]?)(t:pF<=lo)(r:hi<=hi'):Els E sz w' pF hi' xs S:=by
 obtain⟨a,b,m,c,q,s,o⟩:=h;refine⟨a,b,m,c,by omega,by omega,λi x hi=> ?_⟩;obtain⟨j,l,f,n⟩:=o i x hi;have d:=aI hi;have v:=eL c (fa i);have y:=eL c (show i+1<=xs.length by omega);exact⟨j,l,g.go (λb p u e=>k b (by omega) (by omega) e) (am _) (am _) f,n⟩
def Els.snoc{xs:List α}(h:Els E sz w lo Y xs S){y:α}{es:List Value}(o:es.length=sz)(B:∀u∈es,u.oneCell'=true)(H:Y<=hi)(D:E w Y hi y es)(C:∀a b,a<=Y->E w Y hi y es->E w a b y es->True:=λ_ _ _ _ _=>trivial):Lcy E->Els E sz w lo hi (xs++[y]) (S++es):=by
 intro g;clear C;obtain⟨a,b,m,p,q,r,G⟩:=h;refine⟨by rw[ap,ap,a,o,oE,Nat.add_mul,Nat.one_mul],λu d=> ?_,λi=>if i<=xs.length then m i else hi,λi=> ?_, ?_, ?_,λi x c=> ?_⟩
 .rcases io.1 d with d|d
  .exact b u d
  .exact B u d
 .show(if i<=xs.length then m i else hi)<=(if i+1<=xs.length then m (i+1) else hi);by_cases n:i+1<=xs.length
  .rw[dj n,dj (by omega)];exact p i
  .rw[bv n];by_cases k:i<=xs.length
   .rw[dj k];have:=eL p k;omega
   .rw[bv k];exact am _
 .show lo<=(if 0<=xs.length then m 0 else hi);rw[dj (fa _)];exact q
 .show(if(xs++[y]).length<=xs.length then _ else hi)<=hi;rw[bv (by rw[ap,oE];omega)];exact am _
 .rcases pm i xs.length with f|A
  .rw[qE f] at c;obtain⟨l,z,v,F⟩:=G i x c;refine⟨l,z, ?_,λj u d=> ?_⟩
   .show E w (if i<=xs.length then m i else hi) (if i+1<=xs.length then m (i+1) else hi) x l;rw[dj (by omega),dj (by omega)];exact v
   .have I:=aI d;have t:(i+1)*sz<=xs.length*sz:=rH _ f;rw[rE] at t;rw[qE (by omega)];exact F j u d
  .rw[qr A] at c;have s:i-xs.length=0:=by have:=aI c;simp at this;omega
   rw[s] at c;simp at c;subst c;have e:i=xs.length:=by omega
   refine⟨es,o, ?_,λj u d=> ?_⟩
   .show E w (if i<=xs.length then m i else hi) (if i+1<=xs.length then m (i+1) else hi) y es;rw[dj (by omega),bv (by omega),e];exact g.wide D r (am _)
   .rw[e,qr (by omega),a,se];exact d
def Els.at_(K:eK E T){xs:List α}(h:Els E sz w lo hi xs S){x:α}(v:xs[i]?=some x) :
  ∃m l g,lo<=m/\m<=l/\l<=hi/\g.length=sz/\E w m l x g/\(∀j u,g[j]?=some u->S[i*sz+j]?=some u)/\
   ∀(n:World) (y:α) (d:List Value),d.length=sz->(∀u∈d,u.oneCell'=true)->(∀b,lo<=b->b<hi->Typed w T b->¬(m<=b/\b<l)->n.heap[b]?=w.heap[b]?)->E n m l y d->
    ∀c:List Value,c.length=S.length->(∀k,¬(i*sz<=k/\k<i*sz+sz)->c[k]?=S[k]?)->(∀j u,d[j]?=some u->c[i*sz+j]?=some u)->(∀u∈c,u.oneCell'=true)->Els E sz n lo hi (xs.set i y) c:=by
 obtain⟨a,b,m,e,B,C,A⟩:=h;have p:=aI v;obtain⟨g,Q,J,R⟩:=A i x v;have l1:=eL e (fa i);have l2:=eL e (show i+1<=xs.length by omega);refine⟨m i,m (i+1),g,by omega,e i,by omega,Q,J,R,λn y d M X O N c L r q s=>⟨by rw[L,a,qP],s,m,e,B,by rw[qP];exact C,λk z f=> ?_⟩⟩;by_cases o:i=k
 .subst o;rw[sx p] at f;cases f;exact⟨d,M,N,q⟩
 .rw[sV o] at f;obtain⟨G,I,H,P⟩:=A k z f;have D:=aI f;have U:=eL e (fa k);have Z:=eL e (show k+1<=xs.length by omega);refine⟨G,I,K.go (λb V Y F=>O b (by omega) (by omega) F λW=> ?_) (am _) (am _) H,λj u t=> ?_⟩
  .rcases Nat.lt_or_gt_of_ne o with h|h
   .have:=eL e (show i+1<=k by omega);omega
   .have:=eL e (show k+1<=i by omega);omega
  .rw[r _ (by
    have hj:=aI t;rcases Nat.lt_or_gt_of_ne o with h|h
    .have:(i+1)*sz<=k*sz:=rH _ h;rw[rE] at this;omega
    .have:(k+1)*sz<=i*sz:=rH _ h;rw[rE] at this;omega)]
   exact P j u t
def cJ(e:TypeId)(E:gR α)(sz:Nat):gR (List α):=λw b c a d=>
 ∃(v:Value) (cells:List Value),d=[v]/\w.ownsRow b e sz v a.length cells/\(∀g,v.ownBlock=some g->g<c)/\Els E sz w b c a cells
def cJ.form{xs:List α}(h:cJ e E sz w lo hi xs [v]):∃A c,v=.slice A xs.length c:=by
 obtain⟨b,cells,a,h,_⟩:=h;cases a;exact jR h
def cJ.az(o:eK E T):eK (cJ e E sz) (e::T):=by
 refine⟨?_⟩;intro w u B z x s y A l n j h;obtain⟨v,cells,rfl,i,m,f⟩:=h;refine⟨v,cells,rfl,⟨i.1, ?_⟩,λg a=>bd (m g a) j,f.go o (λb p q ⟨t,ht,hd⟩=>l b p q ⟨t,qL _ ht,hd⟩) n j⟩;rcases i.2 with r|⟨g,cap,c,rfl,k,a,d⟩
 .exact .inl r
 .refine .inr ⟨g,cap,c,rfl,db n k, ?_,d⟩;rw[l g k (m g rfl) ⟨e,qV,c,a⟩];exact a
def cJ.sl{k:gR α}(d:Lcy k)(G:∀{w:World} {lo hi:Nat} {x:α} {b:List Value},E w lo hi x b->k w lo hi x b){xs:List α}(h:cJ e E sz w lo hi xs cs):cB k sz w lo hi xs cs:=by
 obtain⟨v,cells,rfl,y,t,a,_,m,o,J,K,H⟩:=h;obtain⟨_,q⟩:=y;rcases q with⟨rfl,r⟩|⟨g,cap,l,rfl,s,A,n,f,C,I⟩
 .exact⟨none,0,by rw[r],by omega,by unfold maxLen;omega,λL=>by omega⟩
 .refine⟨_,cap,rfl,n,f,λ_=>⟨g,0,rfl,s,t g rfl,λi x hi=> ?_⟩⟩;obtain⟨b,D,z,F⟩:=H i x hi;have p:=aI hi;have M:=eL o (fa i);have N:=eL o (show i+1<=xs.length by omega);refine⟨b,D,d.wide (G z) (by omega) (by omega),λj u B=> ?_⟩;have c:=F j u B;rw[<-I,rj] at c;split at c
  .rw[cell_of_row w g (0+i*sz+j) l _ (0,0) A,lm];simpa using c
  .cases c
def cJ.slT{f:gR α}(a:Lcy f)(o:∀{w:World} {lo hi:Nat} {x:α} {i:List Value},E w lo hi x i->f w lo hi x i){xs:List α}(h:cJ e E sz w lo hi xs cs):fq e f sz w lo hi xs cs:=by
 refine⟨h.sl a o,λq b l n c j=> ?_⟩;obtain⟨v,cells,rfl,p,r,_⟩:=h;simp only[qf,qh] at j;subst j;rcases p.2 with⟨d,_⟩|⟨g,cap,k,d,_,m,_⟩
 .cases d
 .cases d;exact⟨_,m⟩
def cJ.some_{xs:List α}(h:cJ e E sz w lo hi xs [v])(k:0<xs.length):∃g c,v=.slice (some ⟨g,0,none⟩) xs.length c/\lo<=g/\g<hi/\g<w.heap.size/\∃j,cg w g e j:=by
 obtain⟨l,cells,i,h,f,_⟩:=h;cases i;rcases h.2 with⟨_,m⟩|⟨g,cap,a,rfl,d,b,_⟩
 .omega
 .exact⟨g,cap,rfl,d,f g rfl,(show cg w g e a from b).lt,a,b⟩
def cJ.frozen{xs:List α}(h:cJ e E sz w lo hi xs [.slice (some ⟨g,0,none⟩) n c])(j:Nat):w.frozen? ⟨g,j,none⟩=false:=by
 obtain⟨d,cells,a,h,i,_⟩:=h;cases a;obtain⟨A,f,b⟩:=jR h;cases b;exact h.frozenAt j
def cJ.at_(P:eK E T)(B:e∉T){xs:List α}(h:cJ e E sz w lo hi xs [.slice (some ⟨g,0,none⟩) n c]){x:α}(I:xs[i]?=some x) :
  ∃m a f,lo<=m/\m<=a/\a<=hi/\f.length=sz/\E w m a x f/\(∀j u,f[j]?=some u->w.cell? ⟨g,i*sz+j,none⟩=some u)/\
   ∀(k:World) (y:α),bV (λb=>m<=b/\b<a/\Typed w T b) w k->E k m a y f->cJ e E sz k lo hi (xs.set i y) [.slice (some ⟨g,0,none⟩) n c]:=by
 obtain⟨V,cells,q,o,K,d⟩:=h;cases q;obtain⟨A,W,C⟩:=jR o;cases C;have r:=aI I;obtain⟨m,a,f,R,S,N,q,C,F,z⟩:=d.at_ P I;refine⟨m,a,f,R,S,N,q,C,λj u p=> ?_,λk y G Q=> ?_⟩
 .have J:=aI p;have l:(i+1)*sz<=xs.length*sz:=rH _ r;rw[rE] at l;rw[o.cellAt _ (by omega)];exact F j u p
 .have D:¬(m<=g/\g<a/\Typed w T g):=λ⟨_,_,t,s,M,hd⟩=>by
   rcases o.2 with⟨v,_⟩|⟨X,cap,O,v,_,L,_⟩
   .cases v
   .cases v;exact B (fF L hd▸s)
  refine⟨_,cells,rfl, ?_,K,z k y f q (λu p=> ?_) (λb U Y s l=> ?_) Q cells rfl (λ_ _=>rfl) F d.2.1⟩
  .rw[qP];exact ah9 o G λb l=>by cases l;exact D
  .obtain⟨j,J⟩:=rq p;exact d.2.1 u (aE (F j u J))
  .obtain⟨t,_,M,hd⟩:=id s;exact G.block b hd.lt λH=>l ⟨H.1,H.2.1⟩
def cJ.put(Q:eK E T)(L:e∉T){xs:List α}(h:cJ e E sz w lo hi xs [.slice (some ⟨g,0,none⟩) n c]){x y:α}{u:Value}(N:xs[i]?=some x)(hj:j<sz)(U:u.oneCell'=true)(W:∀(O:World) (lo hi:Nat) (z:List Value),E O lo hi x z->E O lo hi y (z.set j u)) :
  cJ e E sz (w.setCell ⟨g,i*sz+j,none⟩ u) lo hi (xs.set i y) [.slice (some ⟨g,0,none⟩) n c]:=by
 obtain⟨v',cells,F,D,V,o⟩:=h;cases F;obtain⟨A,c',C⟩:=jR D;cases C;have G:=aI N;have J:=(D.stored (i*sz+j) u).1;obtain⟨m,m',z,l1,l2,Z,F,C,X,K⟩:=o.at_ Q N;have I:¬Typed w T g:=λ⟨t,l,ds,hd⟩=>by
  rcases D.2 with⟨H,_⟩|⟨Y,cap,S,H,_,P,_⟩
  .cases H
  .cases H;exact L (fF P hd▸l)
 have s:∀b,Typed w T b->(w.setCell ⟨g,i*sz+j,none⟩ u).heap[b]?=w.heap[b]?:=λb l=>qw _ _ _ _ (by rintro rfl;exact I l);have d:∀v∈cells.set (i*sz+j) u,v.oneCell'=true:=λv q=>by
  rcases sU q with q|rfl
  .exact o.2.1 v q
  .exact U
 have p:∀f B,(z.set j u)[f]?=some B->(cells.set (i*sz+j) u)[i*sz+f]?=some B:=λf B a=>by
  by_cases r:j=f
  .subst r;rw[sx (by omega)] at a;rw[sx (by
    have R:(i+1)*sz<=xs.length*sz:=rH _ G;rw[rE] at R;rw[o.1];omega)]
   exact a
  .rw[sV r] at a;rw[sV (by omega)];exact X f B a
 refine⟨_,cells.set (i*sz+j) u,rfl,by rw[qP];exact J,V,K _ y (z.set j u) (by rw[qP];exact F) (λv q=> ?_) (λb b1 b2 l _=>s b l) (W _ _ _ _ (Q.go (λb _ _ l=>s b l) (am _) (am _) C)) _ (by rw[qP]) (λk P=> ?_) p d⟩
 .obtain⟨f,M⟩:=rq q;exact d v (aE (p f v M))
 .rw[sV (by omega)]
end
def aD.ac6{F:Flat Z}{base : Nat}(h:aD F e w base v xs)(a:∀x∈xs,F.good x)(b:base<=hi)(c:∀g,v.ownBlock=some g->g<hi):cJ e (bR F) F.sz w base hi xs [v]:=
 ⟨v,dL F xs,rfl,h,c,eT F xs,aah F xs,λ_=>base,λ_=>am _,am _,b,λi x hi=>⟨F.cells x,F.len x,⟨rfl,a x (aE hi)⟩,λ_ _ d=>iF F xs i _ x _ hi d⟩⟩
end
section
variable {β:Bool}
open Go.RowKit
structure Ls where
 p:ByteArray
 ns:List Int
structure Sn where
 no:Int
 all:List Ls
structure Hd where
 b:Int
 s:Int
structure dJ where
 pk:List Pk
 sn:List Sn
 lg:List Hd
def FHd:Flat Hd:=⟨2,λx=>[.int .i64 x.b,.int .i64 x.s],λx=>bX x.b/\bX x.s,λ_=>rfl,λx u a=>by simp at a;rcases a with rfl|rfl<;>rfl,by decide⟩
abbrev afy:gR (List It):=cB (bR oV) 2
def al7:gR Pk:=λw a b x c=>∃v,c=[.int .i64 x.no,v]/\bX x.no/\afy w a b x.its [v]
abbrev kF:gR (List Pk):=cB al7 2
def apN:gR Ls:=λw a b x c=>∃v,c=[.string x.p,v]/\x.p.size<=maxLen/\cB pC 1 w a b x.ns [v]
abbrev fB:gR (List Ls):=cB apN 2
def apO:gR Sn:=λw a b x c=>∃v,c=[.int .i64 x.no,v]/\bX x.no/\fB w a b x.all [v]
abbrev lX:gR (List Sn):=cB apO 2
abbrev mW:gR (List Hd):=cB (bR FHd) 2
def afy.loc:Lcy afy:=cB.loc (bR.loc oV)
def al7.loc:Lcy al7:=⟨λh a b ⟨v,e,i,hr⟩=>⟨v,e,i,afy.loc.go h a b hr⟩⟩
def kF.loc:Lcy kF:=cB.loc al7.loc
def ae2.loc:Lcy (cB pC 1):=cB.loc pC.loc
def apN.loc:Lcy apN:=⟨λh a b ⟨v,e,i,hr⟩=>⟨v,e,i,ae2.loc.go h a b hr⟩⟩
def fB.loc:Lcy fB:=cB.loc apN.loc
def apO.loc:Lcy apO:=⟨λh a b ⟨v,e,i,hr⟩=>⟨v,e,i,fB.loc.go h a b hr⟩⟩
def lX.loc:Lcy lX:=cB.loc apO.loc
def mW.loc:Lcy mW:=cB.loc (bR.loc FHd)
def cB.ayu{g : gR Z}(t:∀{w:World} {lo hi:Nat} {x:Z} {a:List Value},E w lo hi x a->g w lo hi x a)(h:cB E Y w lo hi xs cs):cB g Y w lo hi xs cs:=by
 obtain⟨A,c,f,l,q,p⟩:=h;refine⟨A,c,f,l,q,λo=> ?_⟩;obtain⟨b,e,m,k,j,d⟩:=p o;refine⟨b,e,m,k,j,λi x hi=> ?_⟩;obtain⟨a,r,n,s⟩:=d i x hi;exact⟨a,r,t n,s⟩
def RPk.l{x:Pk}(h:RPk w lo hi x cs):al7 w lo hi x cs:=by
 obtain⟨v,e,i,a⟩:=h;exact⟨v,e,i,a.1⟩
def dQ.l{x:List Pk}(h:dQ w lo hi x cs):kF w lo hi x cs:=cB.ayu RPk.l h.1
abbrev aec:gR (List It):=cJ 64 (bR oV) 2
def OPk:gR Pk:=λw a b x c=>∃v,c=[.int .i64 x.no,v]/\bX x.no/\aec w a b x.its [v]
abbrev gj:gR (List Pk):=cJ 40 OPk 2
abbrev afz:gR (List Int):=cJ 3 (bR fp) 1
def aec.az:eK aec [64]:=cJ.az (bR.az oV)
def OPk.az:eK OPk [64]:=⟨λh a b ⟨v,e,i,hr⟩=>⟨v,e,i,aec.az.go h a b hr⟩⟩
def gj.az:eK gj [40,64]:=cJ.az OPk.az
def afz.az:eK afz [3]:=cJ.az (bR.az fp)
def aec.l{x:List It}(h:aec w lo hi x cs):afy w lo hi x cs:=cJ.sl (bR.loc oV) (λh=>h) h
def aec.t{x:List It}(h:aec w lo hi x cs):fC w lo hi x cs:=cJ.slT (bR.loc oV) (λh=>h) h
def OPk.l{x:Pk}(h:OPk w lo hi x cs):al7 w lo hi x cs:=by
 obtain⟨v,e,i,a⟩:=h;exact⟨v,e,i,aec.l a⟩
def OPk.t{x:Pk}(h:OPk w lo hi x cs):RPk w lo hi x cs:=by
 obtain⟨v,e,i,a⟩:=h;exact⟨v,e,i,aec.t a⟩
def gj.l{x:List Pk}(h:gj w lo hi x cs):kF w lo hi x cs:=cJ.sl al7.loc OPk.l h
def gj.t{x:List Pk}(h:gj w lo hi x cs):dQ w lo hi x cs:=cJ.slT RPk.az.loc OPk.t h
def afz.l{x:List Int}(h:afz w lo hi x cs):cB pC 1 w lo hi x cs:=cJ.sl pC.loc (λh=>h) h
def OLs:gR Ls:=λw a b x c=>∃v,c=[.string x.p,v]/\x.p.size<=maxLen/\afz w a b x.ns [v]
abbrev gV:gR (List Ls):=cJ 68 OLs 2
def OSn:gR Sn:=λw a b x c=>∃v,c=[.int .i64 x.no,v]/\bX x.no/\gV w a b x.all [v]
abbrev gW:gR (List Sn):=cJ 35 OSn 2
abbrev gq:gR (List Hd):=cJ 88 (bR FHd) 2
def OLs.az:eK OLs [3]:=⟨λh a b ⟨v,e,i,hr⟩=>⟨v,e,i,afz.az.go h a b hr⟩⟩
def gV.az:eK gV [68,3]:=cJ.az OLs.az
def OSn.az:eK OSn [68,3]:=⟨λh a b ⟨v,e,i,hr⟩=>⟨v,e,i,gV.az.go h a b hr⟩⟩
def gW.az:eK gW [35,68,3]:=cJ.az OSn.az
def gq.az:eK gq [88]:=cJ.az (bR.az FHd)
def OLs.l{x:Ls}(h:OLs w lo hi x cs):apN w lo hi x cs:=by
 obtain⟨v,e,i,a⟩:=h;exact⟨v,e,i,afz.l a⟩
def gV.l{x:List Ls}(h:gV w lo hi x cs):fB w lo hi x cs:=cJ.sl apN.loc OLs.l h
def OSn.l{x:Sn}(h:OSn w lo hi x cs):apO w lo hi x cs:=by
 obtain⟨v,e,i,a⟩:=h;exact⟨v,e,i,gV.l a⟩
def gW.l{x:List Sn}(h:gW w lo hi x cs):lX w lo hi x cs:=cJ.sl apO.loc OSn.l h
def gq.l{x:List Hd}(h:gq w lo hi x cs):mW w lo hi x cs:=cJ.sl (bR.loc FHd) (λh=>h) h
def dY{α:Type}(f:α->Nat)(l:List α):Nat:=l.length+(l.map f).sum
def aal{a:Type}{f:a->Nat}:∀{l:List a} {x:a},x∈l->f x<=dY f l
 |[],_,h=>by cases h
 |y::l,x,h=>by
  have e:dY f (y::l)=dY f l+1+f y:=by unfold dY;simp only[fi,qK,tk];omega
  rcases me.1 h with rfl|h
  .omega
  .have:=aal (f:=f) h;omega
def jv{f:Z->Nat}{l:List Z}:l.length<=dY f l:=by unfold dY;omega
def bIt(x:It):Nat:=x.b.size
def bPk(x:Pk):Nat:=dY bIt x.its
def bLs(x:Ls):Nat:=x.p.size+x.ns.length
def bSn(x:Sn):Nat:=dY bLs x.all
def pB{α:Type}(n:α->Nat)(l:List α)(j:Nat):Nat:=((l.take j).map n).sum
def mC{α:Type}(n:α->Nat)(l:List α):Nat:=(l.map n).sum
def aaX{n:Z->Nat}{l:List Z}{x:Z}(h:l[j]?=some x):pB n l (j+1)=pB n l j+n x:=by
 unfold pB;rw[mp h,qs,List.sum_append];simp
def agM(n:Z->Nat)(l:List Z):pB n l l.length=mC n l:=by unfold pB mC;rw[ga]
def pw{n:Z->Nat}{l:List Z} :pB n l j<=mC n l:=by
 unfold pB mC;have h:l.map n=(l.take j).map n++(l.drop j).map n:=by rw[<-qs,qZ]
 rw[h,List.sum_append];omega
def aci{c:Type}:∀(l:List c) (j:Nat) (a b:c),(l.set j a).set j b=l.set j b
 |[],_,_,_=>rfl
 |_::_,0,_,_=>rfl
 |x::l,j+1,a,b=>by show x::(l.set j a).set j b=x::l.set j b;rw[aci l j a b]
end
section
variable {β:Bool}
open Go.RowKit
def marks(k:Int):Nat->List Int
 |0=>[]
 |n+1=>marks k n++[k+n]
end
section
variable {β:Bool}
open Go.RowKit
structure aaF (w:World) (lo hi:Nat) (s:dJ) (va vb vc:Value):Prop where
 pk:kF w lo hi s.pk [va]
 sn:lX w lo hi s.sn [vb]
 lg:mW w lo hi s.lg [vc]
def aaF.below{B : Nat}{s:dJ}(h:aaF w lo hi s X W V)(b:Below B w w')(a:hi<=B):aaF w' lo hi s X W V:=⟨kF.loc.below h.pk b a,lX.loc.below h.sn b a,mW.loc.below h.lg b a⟩
structure gJ (w:World) (lo hi:Nat) (s:dJ) (va vb vc:Value):Prop where
 pk:gj w lo hi s.pk [va]
 sn:gW w lo hi s.sn [vb]
 lg:gq w lo hi s.lg [vc]
def gJ.go{pF hi' : Nat}{s:dJ}(h:gJ w lo hi s X W V)(d:∀b,lo<=b->b<hi->w'.heap[b]?=w.heap[b]?)(c:pF<=lo)(a:hi<=hi'):gJ w' pF hi' s X W V:=
 ⟨gj.az.loc.go d c a h.pk,gW.az.loc.go d c a h.sn,gq.az.loc.go d c a h.lg⟩
def gJ.below{B : Nat}{s:dJ}(h:gJ w lo hi s X W V)(a:Below B w w')(d:hi<=B):gJ w' lo hi s X W V:=h.go (λb _ c=>a.block b (by omega)) (am _) (am _)
def gJ.l{s:dJ}(h:gJ w lo hi s X W V):aaF w lo hi s X W V:=⟨gj.l h.pk,gW.l h.sn,gq.l h.lg⟩
def ae3(s:dJ):Nat:=dY bPk s.pk+dY bSn s.sn+s.lg.length
def ayv(w:World)(s:dJ)(e:Ending)(w':World):Prop:=∃c a b,e=.returned (.agg #[c,a,b])/\gJ w' w.heap.size w'.heap.size s c a b/\Below w.heap.size w w'
end
section
variable {β:Bool}
open Go.RowKit
section
variable {P:Program} {α:Type} {E:gR α} {T:List TypeId} {sz:Nat} {e:TypeId}
def lF (H:eK E T) (D:e∉T) {q:Array Oper} {rest:List Oper} {o:Oper} {a:Act} {Q:Exit->Act->World->Prop} (r:o.guard=none) (s x:Operand) (t:TypeId)
  (V:o.op=.call ⟨.builtin .append,#[s,x],#[t,t]⟩)
  (A:iw P t e sz Y)  {xs:List α} (y:α) (Z:a.eval s=v) (m:cJ e E sz w lo U xs [v]) {es:Array Value} {M:TypeId} (hx:a.eval x=.slice (some ⟨g,0,none⟩) 1 1) (N:cg w g M es) (n:es.toList.length=sz) (J:∀u∈es.toList,u.oneCell'=true) (L:U<=hi) (W:E w U hi y es.toList) (bE:hi<=w.heap.size)
  (hn:xs.length<=1099511627775) (f:lo<=w.heap.size)
  (h:∀i c,cJ e E sz c lo c.heap.size (xs++[y]) [i]->bV (λb=>v.ownBlock=some b) w c->(∀b,i.ownBlock=some b->v.ownBlock=some b\/w.heap.size<=b)->wpList P q Q rest (a.put o.dst i) c) :
  wpList P q Q (o::rest) a w:=by
 obtain⟨v0,cells,e1,d,hg,F⟩:=m;cases e1;refine ab5 r s x t V A Z d hx (news:=es.toList) (by rw[n,Nat.one_mul]) (λ_=>⟨_,rfl,λj u X=>by
  have G:(⟨g,0,none⟩:Addr).add j=⟨g,j,none⟩:=by unfold Addr.add;split<;>simp_all
  rw[G,N.cell,<-eg];exact X⟩) J (by omega) f λi c k=>h i c ?_ k.fP k.at_
 have C:∀b,v.ownBlock=some b->∃K,cg w b e K:=λb l=>by
  rcases d.2 with⟨rfl,_⟩|⟨g',cap,S,rfl,_,B,_⟩
  .cases l
  .cases l;exact⟨_,B⟩
 have p:∀b,Typed w T b->c.heap[b]?=w.heap[b]?:=λb ⟨t',ht',K,hd⟩=>k.fP.block b hd.lt λl=>by
  obtain⟨O,I⟩:=C b l;exact D (fF I hd▸ht')
 have R:=k.fP.size;refine⟨i,cells++es.toList,rfl,by rw[ap];exact k.own,λb l=>(k.own.lt b l).2, ?_⟩;have hS:=Els.snoc (E:=E) (F.go (pF:=lo) (hi':=U) H (λb _ _ z=>p b z) (am _) (am _)) (y:=y) (es:=es.toList) n J (hi:=c.heap.size) (by omega) (H.go (λb _ _ z=>p b z) (am _) (by omega) W);exact hS H.loc
end
def aoe:iw (ai β) 25 88 2 16:=iw.mk' yS (z:=.agg #[.int .i64 0,.int .i64 0]) (by kernel_rfl) rfl (by decide) (by decide)
def aof:iw (ai β) 33 68 2 40:=iw.mk' yR (z:=.agg #[.string ⟨#[]⟩,.slice none 0 0]) (by kernel_rfl) rfl (by decide) (by decide)
def aog:iw (ai β) 24 35 2 32:=iw.mk' yT (z:=.agg #[.int .i64 0,.slice none 0 0]) (by kernel_rfl) rfl (by decide) (by decide)
end
section
variable {β:Bool}
open Go.RowKit
def mn{p:Prop}(h:p/\True):p:=h.1
def cJ.ob(h:cJ e E Y w lo hi xs [v])(a:v.ownBlock=some b):lo<=b/\b<hi/\b<w.heap.size:=by
 obtain⟨f,cells,c,h,d,_⟩:=h;cases c;exact⟨(h.lt b a).1,d b a,(h.lt b a).2⟩
end
section
variable {β:Bool}
open Go.RowKit
structure acj where
 k:Int
 n:Int
 m:Int
 b:ByteArray
def tY{α:Type}(l:List α)(i:Nat)(f:α->α):List α:=match l[i]? with|some x=>l.set i (f x)|none=>l
def ag9(l:List Z)(i:Nat)(f:Z->Z):(tY l i f).length=l.length:=by
 unfold tY;split
 .rw[qP]
 .rfl
def aoh(l:acj)(p:Pk):Pk:=if p.no=l.n/\0<=l.m/\l.m<p.its.length then⟨p.no,tY p.its l.m.toNat λx=>⟨x.n,l.b⟩⟩ else p
def adG(x:Hd):Hd:=⟨wrap64 (3-x.b),x.s⟩
def kP(s:dJ)(l:acj):dJ:=
 if l.k=1 then⟨s.pk.filter λp=>!(p.no ==l.n),s.sn,s.lg⟩
 else if l.k=2 then(if 0<=l.n/\l.n<=s.lg.length then⟨s.pk,s.sn.filter λx=>!((s.lg.drop l.n.toNat).any λh=>h.s ==x.no),s.lg.take l.n.toNat⟩ else s)
 else if l.k=3 then⟨s.pk.map (aoh l),s.sn,s.lg⟩
 else if l.k=4 then(if 0<=l.n/\l.n<s.lg.length then⟨s.pk,s.sn,tY s.lg l.n.toNat adG⟩ else s)
 else s
def aip{s:dJ}{l:acj}(h:l.k=1):kP s l=⟨s.pk.filter λp=>!(p.no ==l.n),s.sn,s.lg⟩:=by unfold kP;rw[dj h]
def afA{s:dJ}{l:acj}(h:l.k=2)(a:0<=l.n/\l.n<=s.lg.length):kP s l=⟨s.pk,s.sn.filter λx=>!((s.lg.drop l.n.toNat).any λh=>h.s ==x.no),s.lg.take l.n.toNat⟩:=by unfold kP;rw[bv (by omega),dj h,dj a]
def aiq{s:dJ}{l:acj}(h:l.k=2)(a:¬(0<=l.n/\l.n<=s.lg.length)):kP s l=s:=by unfold kP;rw[bv (by omega),dj h,bv a]
def al8{s:dJ}{l:acj}(h:l.k=3):kP s l=⟨s.pk.map (aoh l),s.sn,s.lg⟩:=by unfold kP;rw[bv (by omega),bv (by omega),dj h]
def al9{s:dJ}{l:acj}(h:l.k=4)(a:0<=l.n/\l.n<s.lg.length):kP s l=⟨s.pk,s.sn,tY s.lg l.n.toNat adG⟩:=by unfold kP;rw[bv (by omega),bv (by omega),bv (by omega),dj h,dj a]
def air{s:dJ}{l:acj}(h:l.k=4)(a:¬(0<=l.n/\l.n<s.lg.length)):kP s l=s:=by unfold kP;rw[bv (by omega),bv (by omega),bv (by omega),dj h,bv a]
def ama{s:dJ}{l:acj}(a:¬l.k=1)(d:¬l.k=2)(b:¬l.k=3)(c:¬l.k=4):kP s l=s:=by unfold kP;rw[bv a,bv d,bv b,bv c]
end
section
variable {β:Bool}
open Go.RowKit
def nh{t:TypeId}{cs:Array Value}(a:cg w g t cs)(c:t∉T):¬Typed w T g:=λ⟨d,b,e,hd⟩=>c (fF a hd▸b)
def aam{U : List TypeId}(h:Typed w U b)(d:∀t∈T,t∉U):¬Typed w T b:=λ⟨e,f,i,hd⟩=>by
 obtain⟨t,c,g,a⟩:=h;exact d e f (fF a hd▸c)
end
section
variable {β:Bool}
open Go.RowKit
def cB.adt(h:cB E Y w lo hi xs [.slice A n c])(z:k<=xs.length):cB E Y w lo hi (xs.drop k) [.slice (if c=k then A else A.map λx=>x.add (k*Y)) (xs.length-k) (c-k)]:=by
 obtain⟨A',y,g,B,C,t⟩:=h;simp only[qf,qa,qh] at g;obtain⟨rfl,rfl,rfl⟩:=g;refine⟨_,c-k,by rw[pi],by rw[pi];omega,by omega,λq=> ?_⟩;rw[pi] at q;have a:¬c=k:=by omega
 have f:0<xs.length:=by omega
 obtain⟨b,e,rfl,o,l,d⟩:=t f;refine⟨b,e+k*Y,by rw[bv a];simp only[qe,nR],o,l,λi x hi=> ?_⟩;rw[tq] at hi;obtain⟨r,s,m,p⟩:=d _ _ hi;refine⟨r,s,m,λj u v=> ?_⟩;have:=p j u v;rw[<-this,Nat.add_mul]
 congr 2
 omega
end
section
variable {β:Bool}
open Go.RowKit
def cJ.obT(h:cJ e E Y w lo hi xs [v])(a:v.ownBlock=some b):∃g,cg w b e g:=by
 obtain⟨i,cells,f,h,_⟩:=h;cases f;rcases h.2 with⟨rfl,_⟩|⟨j,cap,c,rfl,_,d,_⟩
 .cases a
 .cases a;exact⟨_,d⟩
def dW.ac6(h:dW lo e v w)(f:w.heap.size<=hi):cJ e E Y w lo hi [] [v]:=by
 obtain⟨g,rfl,d,c⟩:=h;have:=c.lt;exact⟨_,[],rfl,dW.own ⟨g,rfl,d,c⟩ Y,λb a=>by cases a;dsimp only;omega,Els.nil (by omega)⟩
def dG(h:cJ e E Y w lo hi xs [v])(f:bV (λb=>v.ownBlock=some b) w w'){t:TypeId}{cs:Array Value}(a:cg w g t cs)(c:t≠e):cg w' g t cs:=
 aY a f λd=>by
  obtain⟨i,hd⟩:=h.obT d;exact c (fF a hd)
def jw{β : Type}{D:gR β}{y:β}(h:cJ e E Y w lo hi xs [v])(m:bV (λb=>v.ownBlock=some b) w w')(k:eK D T)(d:D w U c y cs)(f:e∉T):D w' U c y cs:=
 k.fP d m λb _ _ g i=>by
  obtain⟨n,hd⟩:=h.obT i;obtain⟨t,l,j,a⟩:=g;exact f (fF a hd▸l)
def cR{β:Type}{D:gR β}{t:TypeId}{a:Array Value}{y:β}(f:eK D T)(c:D w lo hi y cs)(j:cg w g t a)(d:t∉T)(i:Nat)(u:Value):D (w.setCell ⟨g,i,none⟩ u) lo hi y cs:=
 f.go (λb _ _ e=>qw _ _ _ _ (by rintro rfl;exact nh j d e)) (am _) (am _) c
def ais{β:Type}{D:gR β}{u:Value}{y:β}(c:eK D T)(a:D w lo hi y cs)(e:hi<=g):D (w.setCell ⟨g,i,none⟩ u) lo hi y cs:=
 c.go (λb _ d _=>qw _ _ _ _ (by dsimp only;omega)) (am _) (am _) a
structure ago (w wr:World) (L:Nat) (A B C:Option Addr) (a b c:Nat) (s:dJ) (gm:Nat) (vp vs vl:Value) (pk:List Pk) (sn:List Sn) (H:Nat):Prop where
 k0:cg wr w.heap.size 27 #[.slice A s.pk.length a,.slice B s.sn.length b,.slice C s.lg.length c]
 k1:cg wr (w.heap.size+1) 27 #[.slice none 0 0,.slice none 0 0,.slice none 0 0]
 m:cg wr gm 27 #[vp,vs,vl]
 op:gj wr L H pk [vp]
 os:gW wr L H sn [vs]
 ol:gq wr L H s.lg [vl]
 bl:Below w.heap.size w wr
 gm1:w.heap.size+1<gm
 gm2:gm<wr.heap.size
 hL:w.heap.size<=L
 hH:H<=wr.heap.size
 gmr:gm<H
def ago.below{wr : World}{B C : Option Addr}{a : Nat}{s:dJ}{e:List Sn}(h:ago w wr Y A B C a b c s U X W V R e g)(d:Below wr.heap.size wr w'):ago w w' Y A B C a b c s U X W V R e g:=
 ⟨ar h.k0 d,ar h.k1 d,ar h.m d,gj.az.below h.op d h.hH,gW.az.below h.os d h.hH,gq.az.below h.ol d h.hH,ae h.bl d,h.gm1,bd h.gm2 d.size,h.hL,db h.hH d.size,h.gmr⟩
def adH(s:dJ)(va vb vc:Value)(w:World)(lo hi:Nat)(h:aaF w lo hi s va vb vc)(bE:hi<=w.heap.size)(hl:ae3 s<=1099511627) :
  Calls (ai β) 94 #[.agg #[va,vb,vc]] w (ayv w s):=by
 obtain⟨h1,h2,h3⟩:=h;obtain⟨A,a,rfl⟩:=cB.form h1;obtain⟨B,b,rfl⟩:=cB.form h2;obtain⟨C,c,rfl⟩:=cB.form h3;obtain⟨_,d8,d6⟩:=h1.len_;obtain⟨_,ea,ci⟩:=h2.len_;obtain⟨_,bb,cO⟩:=h3.len_;unfold maxLen at d6 ci cO;unfold ae3 at hl;have dn:=jv (f:=bPk) (l:=s.pk);have e6:=jv (f:=bSn) (l:=s.sn);have cc:=cB.good (F:=FHd) h3;go_enter zc,ntmps94;go_wp2_with(at_builtin;refine mn ?_);refine⟨?_,trivial⟩;have aP:Below w.heap.size w (((((w.alloc (.cells #[.slice A s.pk.length a,.slice B s.sn.length b,.slice C s.lg.length c] 27)).alloc (.cells #[.slice none 0 0,.slice none 0 0,.slice none 0 0] 27)).alloc (.cells #[] 40)).alloc (.cells #[] 35)).alloc (.cells #[] 88)):=cY (cY (cY (cY (aC _ _) _) _) _) _;have k0:cg (((((w.alloc (.cells #[.slice A s.pk.length a,.slice B s.sn.length b,.slice C s.lg.length c] 27)).alloc (.cells #[.slice none 0 0,.slice none 0 0,.slice none 0 0] 27)).alloc (.cells #[] 40)).alloc (.cells #[] 35)).alloc (.cells #[] 88)) (w.heap.size) 27 #[.slice A s.pk.length a,.slice B s.sn.length b,.slice C s.lg.length c]:=by
  have J:=bu (bu (bu (bu (cg.new w 27 #[.slice A s.pk.length a,.slice B s.sn.length b,.slice C s.lg.length c]) (.cells #[.slice none 0 0,.slice none 0 0,.slice none 0 0] 27)) (.cells #[] 40)) (.cells #[] 35)) (.cells #[] 88);exact J
 have k1:cg (((((w.alloc (.cells #[.slice A s.pk.length a,.slice B s.sn.length b,.slice C s.lg.length c] 27)).alloc (.cells #[.slice none 0 0,.slice none 0 0,.slice none 0 0] 27)).alloc (.cells #[] 40)).alloc (.cells #[] 35)).alloc (.cells #[] 88)) (w.heap.size+1) 27 #[.slice none 0 0,.slice none 0 0,.slice none 0 0]:=by
  have J:=bu (bu (bu (cg.new (w.alloc (.cells #[.slice A s.pk.length a,.slice B s.sn.length b,.slice C s.lg.length c] 27)) 27 #[.slice none 0 0,.slice none 0 0,.slice none 0 0]) (.cells #[] 40)) (.cells #[] 35)) (.cells #[] 88);simp only[mw] at J;exact J
 have k2:cg (((((w.alloc (.cells #[.slice A s.pk.length a,.slice B s.sn.length b,.slice C s.lg.length c] 27)).alloc (.cells #[.slice none 0 0,.slice none 0 0,.slice none 0 0] 27)).alloc (.cells #[] 40)).alloc (.cells #[] 35)).alloc (.cells #[] 88)) (w.heap.size+1+1) 40 #[]:=by
  have J:=bu (bu (cg.new ((w.alloc (.cells #[.slice A s.pk.length a,.slice B s.sn.length b,.slice C s.lg.length c] 27)).alloc (.cells #[.slice none 0 0,.slice none 0 0,.slice none 0 0] 27)) 40 #[]) (.cells #[] 35)) (.cells #[] 88);simp only[mw] at J;exact J
 have k3:cg (((((w.alloc (.cells #[.slice A s.pk.length a,.slice B s.sn.length b,.slice C s.lg.length c] 27)).alloc (.cells #[.slice none 0 0,.slice none 0 0,.slice none 0 0] 27)).alloc (.cells #[] 40)).alloc (.cells #[] 35)).alloc (.cells #[] 88)) (w.heap.size+1+1+1) 35 #[]:=by
  have J:=bu (cg.new (((w.alloc (.cells #[.slice A s.pk.length a,.slice B s.sn.length b,.slice C s.lg.length c] 27)).alloc (.cells #[.slice none 0 0,.slice none 0 0,.slice none 0 0] 27)).alloc (.cells #[] 40)) 35 #[]) (.cells #[] 88);simp only[mw] at J;exact J
 have k4:cg (((((w.alloc (.cells #[.slice A s.pk.length a,.slice B s.sn.length b,.slice C s.lg.length c] 27)).alloc (.cells #[.slice none 0 0,.slice none 0 0,.slice none 0 0] 27)).alloc (.cells #[] 40)).alloc (.cells #[] 35)).alloc (.cells #[] 88)) (w.heap.size+1+1+1+1) 88 #[]:=by
  have J:=cg.new ((((w.alloc (.cells #[.slice A s.pk.length a,.slice B s.sn.length b,.slice C s.lg.length c] 27)).alloc (.cells #[.slice none 0 0,.slice none 0 0,.slice none 0 0] 27)).alloc (.cells #[] 40)).alloc (.cells #[] 35)) 88 #[];simp only[mw] at J;exact J
 have jh:w.heap.size+5<=(((((w.alloc (.cells #[.slice A s.pk.length a,.slice B s.sn.length b,.slice C s.lg.length c] 27)).alloc (.cells #[.slice none 0 0,.slice none 0 0,.slice none 0 0] 27)).alloc (.cells #[] 40)).alloc (.cells #[] 35)).alloc (.cells #[] 88)).heap.size:=by simp only[mw];omega
 generalize (((((w.alloc (.cells #[.slice A s.pk.length a,.slice B s.sn.length b,.slice C s.lg.length c] 27)).alloc (.cells #[.slice none 0 0,.slice none 0 0,.slice none 0 0] 27)).alloc (.cells #[] 40)).alloc (.cells #[] 35)).alloc (.cells #[] 88))=w0 at *;have dv:=k0.cell;have fg:=k0.frozen;have oP:=k1.cell;have af:=k1.frozen;have bi:=k2.cell;have b7:=k2.frozen;have ax:=k3.cell;have b4:=k3.frozen;have ch:=k4.cell;have d7:=k4.frozen;have M:=jN (F:=FHd) h3 bE;have bT:dW w.heap.size 88 (.slice (some ⟨w.heap.size+1+1+1+1,0,none⟩) 0 0) w0:=⟨_,rfl,by omega,k4⟩;refine mY (F:=FHd) (xs:=s.lg) aP rfl (.tmp 11) (.tmp 13) 25 rfl aoe (am _) rfl rfl bT M (by omega) ?_;intro vl x1 U t;replace k0:=ar k0 U;replace dv:=k0.cell;replace fg:=k0.frozen;replace k1:=ar k1 U;replace oP:=k1.cell;replace af:=k1.frozen;replace k2:=ar k2 U;replace bi:=k2.cell;replace b7:=k2.frozen;replace k3:=ar k3 U;replace ax:=k3.cell;replace b4:=k3.frozen;replace aP:=ae aP U;obtain⟨Cl,cl,rfl⟩:=t.form;have z1:=U.size;clear k4 ch d7 bT M;go_wp2;generalize hG:x1.alloc (.cells #[.slice (some ⟨w.heap.size+1+1,0,none⟩) 0 0,.slice (some ⟨w.heap.size+1+1+1,0,none⟩) 0 0,.slice Cl s.lg.length cl] 27)=w1 at *;obtain⟨R,ds,m0,jM,ce⟩:=gU hG;clear hG;replace k0:=ar k0 R;replace dv:=k0.cell;replace fg:=k0.frozen;replace k1:=ar k1 R;replace oP:=k1.cell;replace af:=k1.frozen;replace k2:=ar k2 R;replace bi:=k2.cell;replace b7:=k2.frozen;replace k3:=ar k3 R;replace ax:=k3.cell;replace b4:=k3.frozen;have b8:=t.below R;have o:ago w w1 w.heap.size A B C a b c s x1.heap.size (.slice (some ⟨w.heap.size+1+1,0,none⟩) 0 0) (.slice (some ⟨w.heap.size+1+1+1,0,none⟩) 0 0) (.slice Cl s.lg.length cl) [] [] w1.heap.size:=
  ⟨k0,k1,m0,dW.ac6 ⟨_,rfl,by omega,k2⟩ (am _),dW.ac6 ⟨_,rfl,by omega,k3⟩ (am _),b8.ac6 cc (by omega) (λg hg=>(b8.at_ hg).2),ae aP R,by omega,by omega,am _,am _,by omega⟩
 have n:=ab o;obtain⟨K,bp⟩:∃K,K=x1.heap.size:=⟨_,rfl⟩;rw[<-bp] at n ⊢;obtain⟨vs,bL⟩:∃vs,vs=Value.slice (some ⟨w.heap.size+1+1+1,0,none⟩) 0 0:=⟨_,rfl⟩;rw[<-bL] at n;clear bp bL o k0 k1 k2 k3 m0 dv oP bi ax jM fg af b7 b4 ce t b8 aP R U;go_loopw [4] (λii wr=>∃(k:Nat) (vo:Value),k<=s.pk.length/\ii=.int .i64 k/\ago w wr w.heap.size A B C a b c s K vo vs (.slice Cl s.lg.length cl) (s.pk.take k) [] wr.heap.size) (λii _=>s.pk.length-(intOf ii).toNat)
 case atStart=>exact⟨0,_,fa _,rfl,n.out⟩
 case round=>
  clear n;obtain⟨k,vo,J,rfl,o⟩:=hrel;obtain⟨Ao,co,rfl⟩:=o.op.form;have H:(s.pk.take k).length=k:=by rw[ff,rh J]
  rw[H] at o;have dv:wr.cell? ⟨w.heap.size,0,none⟩=some (.slice A s.pk.length a):=o.k0.cell 0;by_cases b0:k<s.pk.length
  .obtain⟨y,dM⟩:=ak b0;have kx:=aal (f:=bPk) (aE dM);have jL:y.its.length<=bPk y:=jv;obtain⟨b',O,es,e0,_,jJ,_,⟨v2,rfl,ao,Y⟩,E⟩:=(kF.loc.below h1 o.bl bE).at_ dM;subst e0;obtain⟨A2,c2,rfl⟩:=cB.form Y;have a9:wr.cell? ⟨b',O+k*2,none⟩=some (.int .i64 y.no):=by simpa using E 0 _ rfl
   have al:wr.cell? ⟨b',O+k*2+1,none⟩=some (.slice A2 y.its.length c2):=by simpa using E 1 _ rfl
   have cm:wr.cell? ⟨K,0,none⟩=some (.slice Ao k co):=o.m.cell 0;have cK:=mp dM;have HN:=ab cK;have W:=ab H;have M:=ab (jN (F:=oV) Y (by have:=o.bl.size;omega));have cW:=ab (cB.good (F:=oV) Y);have n:=ab o;have zr:=o.bl.size;clear E dM cK H Y o;go_wp2;have aG:=ag dv;have aK:=ag a9;have bc:=ag al;have eQ:=ag cm;refine aZ 18 [0,1,2,3,4,5,6,7,9,10,11,12,13,14] [8,15,16,17] (h:= ?_);simp only[pick,List.map,mx,mT];repeat(go_big_quiet_step (fail))
   refine gE ?_;clear aG aK bc eQ;apply Exists.intro;apply dy (dW wr.heap.size 64)
   .rfl
   .exact λv x y h m=>h.keep m
   .intro x _ Qx r;have Q:=ab r;clear r;go_wp2;exact Q.out _ _ (aC _ _) (dW.new _ _ x.ok.size)
   intro u8;apply dy (λv w'=>aD oV 64 w' wr.heap.size v y.its)
   .rfl
   .exact λv x y h m=>h.below m
   .intro x L Qx Q;have hL:=L.1 (by kernel_rfl);exact ajE rfl (.tmp 31) (.tmp 37) 38 rfl aaj (am _) rfl rfl hL M.out (by omega) λv' x' m ho=>Q v' x'.to m ho
   intro dB;apply dy (λv w'=>∃A c,v=.agg #[.int .i64 y.no,.slice A y.its.length c]/\aD oV 64 w' wr.heap.size (.slice A y.its.length c) y.its)
   .rfl
   .exact λv x y ⟨A,c,e,h⟩ m=>⟨A,c,e,h.below m⟩
   .intro x L Qx r;have Q:=ab r;clear r;have ho:=L.1 (by kernel_rfl);obtain⟨A5,c5,rfl⟩:=ho.form;go_wp2;exact Q.out _ _ (fm _ _) ⟨_,_,rfl,ho⟩
   intro d9;apply dy (λv w'=>∃g A c,v=.slice (some ⟨g,0,none⟩) 1 1/\cg w' g 40 #[.int .i64 y.no,.slice A y.its.length c]/\aD oV 64 w' wr.heap.size (.slice A y.its.length c) y.its)
   .rfl
   .exact λv x y ⟨g,A,c,e,J,h⟩ m=>⟨g,A,c,e,ar J m,h.below m⟩
   .intro x L Qx r;have Q:=ab r;clear r;obtain⟨A5,c5,rfl,ho⟩:=L.1 (by kernel_rfl);go_wp2;have ba:=aC x.to (.cells #[.int .i64 y.no,.slice A5 y.its.length c5] 40);exact Q.out _ _ ba ⟨_,_,_,rfl,cg.new _ _ _,ho.below ba⟩
   intro dI;refine cV ?_;intro w6 nG xx je L;dsimp only[iv] at L;try rw[je] at L
   clear je xx;obtain⟨⟨g8,A8,c8,rfl,V,o8⟩, -⟩:=L;simp only[List.drop];have a3:=n.out.below nG;have z6:=nG.size;have aQ:Hid (OPk w6 wr.heap.size w6.heap.size y [.int .i64 y.no,.slice A8 y.its.length c8]):=ab ⟨_,rfl,ao,o8.ac6 cW.out (by omega) λg hg=>(o8.at_ hg).2⟩;replace V:=ab V;have q:=ab a3;clear n nG o8 a3 a9 al cm dv M;go_wp2_with(at_builtin;refine mn ?_);refine⟨?_,trivial⟩;refine lF OPk.az (by decide) (v:=.slice Ao k co) rfl (.tmp 24) (.tmp 40) 23 rfl lY y rfl q.out.op rfl V.out rfl (by simp[Value.oneCell']) z6 aQ.out (am _) (by have:=W.out;omega) (by omega) ?_;intro v9 X o9 G bn;obtain⟨S,P,rfl⟩:=o9.form;rw[ap,oE,W.out] at o9;rw[ap,oE,W.out];have d:=q.out.op;have u:=dG d G q.out.m (by decide);have a2:=dG d G q.out.k0 (by decide);have a7:=dG d G q.out.k1 (by decide);have br:=jw d G gW.az q.out.os (by decide);have a6:=jw d G gq.az q.out.ol (by decide);have nH:Below w.heap.size w X:=q.out.bl.trans (G.below q.out.bl.size λi hi hs=>by have:=d.ob hs;omega);have cy:X.cell? ⟨K,0,none⟩=some (.slice Ao k co):=u.cell 0;have cw:=u.frozen 0;have z9:=G.size;have a0:=q.out.gm1;have d4:=q.out.gm2;have lS:=u.bC 0 (.slice S (k+1) P);simp only[be,dk,dl] at lS;have N:ago w (X.setCell ⟨K,0,none⟩ (.slice S (k+1) P)) w.heap.size _ B C a b c s K (.slice S (k+1) P) vs (.slice Cl s.lg.length cl) (s.pk.take (k+1)) [] (X.setCell ⟨K,0,none⟩ (.slice S (k+1) P)).heap.size:=
    ⟨iT a2 (p:=⟨K,0,none⟩) _ (by dsimp only;omega),iT a7 (p:=⟨K,0,none⟩) _ (by dsimp only;omega),lS,
     by rw[HN.out];simp only[fd];exact cR gj.az o9 u (by decide) 0 _,
     by simp only[fd];exact gW.az.wide (cR gW.az br u (by decide) 0 _) (am _) (db z6 z9),
     by simp only[fd];exact gq.az.wide (cR gq.az a6 u (by decide) 0 _) (am _) (db z6 z9),
     nH.setCell (by dsimp only;omega) _,a0,by simp only[fd];omega,am _,am _,by simp only[fd];omega⟩
   have bf:=ab N;clear N lS br a6 d a2 a7 u;go_wp2;go_roundw
   case rel=>exact⟨k+1,_,by omega,by go_num,bf.out⟩
   simp[intOf];omega
  .obtain rfl:k=s.pk.length:=by omega
   rw[ga] at o;obtain⟨Ap,cA⟩:∃A,A=Ao:=⟨_,rfl⟩;obtain⟨cp,ca⟩:∃c,c=co:=⟨_,rfl⟩;subst cA ca;have n:=ab o;clear o;go_wp2;clear dv;go_loopw [5] (λii wr=>∃(k:Nat) (vo:Value),k<=s.sn.length/\ii=.int .i64 k/\ago w wr w.heap.size A B C a b c s K (.slice Ap s.pk.length cp) vo (.slice Cl s.lg.length cl) s.pk (s.sn.take k) wr.heap.size) (λii _=>s.sn.length-(intOf ii).toNat)
   case atStart=>exact⟨0,_,fa _,rfl,n.out⟩
   case round=>
    clear n;obtain⟨k,vo,J,rfl,o⟩:=hrel;obtain⟨Ao,co,rfl⟩:=o.os.form;have H:(s.sn.take k).length=k:=by rw[ff,rh J]
    rw[H] at o;have dv:wr.cell? ⟨w.heap.size,1,none⟩=some (.slice B s.sn.length b):=o.k0.cell 1;by_cases b0:k<s.sn.length
    .obtain⟨y,dM⟩:=ak b0;have kx:=aal (f:=bSn) (aE dM);have dt:dY bLs y.all=bSn y:=rfl;have dX:y.all.length<=dY bLs y.all:=jv;obtain⟨b',O,es,e0,e8,jJ,_,⟨v2,rfl,ao,Y⟩,E⟩:=(lX.loc.below h2 o.bl bE).at_ dM;subst e0;obtain⟨A2,c2,rfl⟩:=cB.form Y;obtain⟨_,dd,cx⟩:=Y.len_;unfold maxLen at cx;have a9:wr.cell? ⟨b',O+k*2,none⟩=some (.int .i64 y.no):=by simpa using E 0 _ rfl
     have al:wr.cell? ⟨b',O+k*2+1,none⟩=some (.slice A2 y.all.length c2):=by simpa using E 1 _ rfl
     have cK:=mp dM;have HN:=ab cK;have W:=ab H;have HY:=ab dM;have n:=ab o;have zr:=o.bl.size;clear E dM cK H Y o;go_wp2;obtain⟨I,d1⟩:∃I,I=wr:=⟨_,rfl⟩;subst d1;generalize hG:(I.alloc (.cells #[] 68)).alloc (.cells #[.int .i64 y.no,.slice (some ⟨I.heap.size,0,none⟩) 0 0] 35)=w2 at *;obtain⟨jk,dC,n0,cn,d0,n1,an,ck⟩:=agc hG;clear hG;have bz:=n.out.below jk;have bo:=ab bz;have Z:gV w2 I.heap.size w2.heap.size [] [.slice (some ⟨I.heap.size,0,none⟩) 0 0]:=dW.ac6 ⟨_,rfl,am _,n0⟩ (am _);have HST:=ab (And.intro Z n1);clear n bz a9 al dv n0 n1 cn an d0 ck Z;go_loopw [7] (λii wr=>∃(j:Nat) (va:Value),j<=y.all.length/\ii=.int .i64 j/\gV wr I.heap.size wr.heap.size (y.all.take j) [va]/\cg wr (I.heap.size+1) 35 #[.int .i64 y.no,va]/\ago w wr w.heap.size A (some ⟨b',O,none⟩) C a b c s K (.slice Ap s.pk.length cp) (.slice Ao k co) (.slice Cl s.lg.length cl) s.pk (s.sn.take k) I.heap.size) (λii _=>y.all.length-(intOf ii).toNat)
     case atStart=>exact⟨0,_,fa _,rfl,HST.out.1,HST.out.2,bo.out⟩
     case round=>
      clear HST bo;obtain⟨j,va,hj,rfl,t,a1,o⟩:=hrel;obtain⟨Av,cv,rfl⟩:=t.form;have H:(y.all.take j).length=j:=by rw[ff,rh hj]
      rw[H] at t a1;have dv:wr.cell? ⟨w.heap.size,1,none⟩=some (.slice (some ⟨b',O,none⟩) s.sn.length b):=o.k0.cell 1;have zx:=o.hH;have zw:=o.bl.size;obtain⟨b2,mV,es,e0,_,_,_,⟨v2,rfl,dp,Y⟩,E⟩:=(lX.loc.below h2 o.bl bE).at_ HY.out;simp only[jt,qd,qh] at e0;obtain⟨rfl,rfl⟩:=e0;obtain⟨A3,c3,rfl⟩:=cB.form Y;obtain⟨_,dz,cq⟩:=Y.len_;unfold maxLen at cq;have bb:wr.cell? ⟨b',O+k*2+1,none⟩=some (.slice A3 y.all.length c3):=by simpa using E 1 _ rfl
      clear E;by_cases cb:j<y.all.length
      .obtain⟨z,ad⟩:=ak cb;have e2:=aal (f:=bLs) (aE ad);have e4:z.ns.length<=bLs z:=Nat.le_add_left _ _;obtain⟨b3,bO,es,e0,_,_,_,⟨v4,rfl,d5,a5⟩,E⟩:=Y.at_ ad;subst e0;obtain⟨A4,c4,rfl⟩:=cB.form a5;have cC:wr.cell? ⟨b3,bO+j*2,none⟩=some (.string z.p):=by simpa using E 0 _ rfl
       have d3:wr.cell? ⟨b3,bO+j*2+1,none⟩=some (.slice A4 z.ns.length c4):=by simpa using E 1 _ rfl
       have cK:=mp ad;have cS:=ab cK;have bj:=ab H;have a4:=ab o;replace t:=ab t;replace a5:=ab a5;clear E ad cK H Y o;go_wp2;generalize hG:wr.alloc (.cells #[.string z.p,.slice A4 z.ns.length c4] 68)=wa at *;obtain⟨fD,e3,q0,b1,c9⟩:=gU hG;clear hG;have c7:=a4.out.below fD;have bw:=gV.az.below t.out fD (am _);have b9:=ar a1 fD;have b6:=ae2.loc.below a5.out fD (by omega);have M:=ab (jN (F:=fp) b6 (by have:=fD.size;omega));have ct:=ab b6.ao9;have bS:=ab c7;have c6:=ab bw;have an:wa.cell? ⟨I.heap.size+1,1,none⟩=some (.slice Av j cv):=b9.cell 1;have bk:=b1 0;have bl:=b1 1;have bZ:=fD.size;clear a4 t a5 c7 bw b6 cC d3 bb dv a1 fD;have aG:=ag an;have aK:=ag bk;have bc:=ag bl;refine aZ 10 [0,1,2,3,5,6] [4,7,8,9] (h:= ?_);simp only[pick,List.map,mx,mT];repeat(go_big_quiet_step (fail))
       refine gE ?_;clear aG aK bc;apply Exists.intro;apply dy (dW wa.heap.size 3)
       .rfl
       .exact λv x y h m=>h.keep m
       .intro x _ Qx r;have Q:=ab r;clear r;go_wp2;exact Q.out _ _ (aC _ _) (dW.new _ _ x.ok.size)
       intro u4;apply dy (λv w'=>aD fp 3 w' wa.heap.size v z.ns)
       .rfl
       .exact λv x y h m=>h.below m
       .intro x L Qx Q;have hL:=L.1 (by kernel_rfl);exact ajE rfl (.tmp 82) (.tmp 84) 31 rfl lj (am _) rfl rfl hL M.out (by omega) λv' x' m ho=>Q v' x'.to m ho
       intro u7;apply dy (λv w'=>∃A c,v=.agg #[.string z.p,.slice A z.ns.length c]/\aD fp 3 w' wa.heap.size (.slice A z.ns.length c) z.ns)
       .rfl
       .exact λv x y ⟨A,c,e,h⟩ m=>⟨A,c,e,h.below m⟩
       .intro x L Qx r;have Q:=ab r;clear r;have ho:=L.1 (by kernel_rfl);obtain⟨A5,c5,rfl⟩:=ho.form;go_wp2;exact Q.out _ _ (fm _ _) ⟨_,_,rfl,ho⟩
       intro u8;apply dy (λv w'=>∃g A c,v=.slice (some ⟨g,0,none⟩) 1 1/\cg w' g 68 #[.string z.p,.slice A z.ns.length c]/\aD fp 3 w' wa.heap.size (.slice A z.ns.length c) z.ns)
       .rfl
       .exact λv x y ⟨g,A,c,e,J,h⟩ m=>⟨g,A,c,e,ar J m,h.below m⟩
       .intro x L Qx r;have Q:=ab r;clear r;obtain⟨A5,c5,rfl,ho⟩:=L.1 (by kernel_rfl);go_wp2;have ba:=aC x.to (.cells #[.string z.p,.slice A5 z.ns.length c5] 68);exact Q.out _ _ ba ⟨_,_,_,rfl,cg.new _ _ _,ho.below ba⟩
       intro u9;refine cV ?_;intro w6 nG xx je L;dsimp only[iv] at L;try rw[je] at L
       clear je xx;obtain⟨⟨g8,A8,c8,rfl,V,o8⟩, -⟩:=L;simp only[List.drop];have a3:=bS.out.below nG;have aa:=gV.az.below c6.out nG bZ;have bq:=ar b9 nG;have z6:=nG.size;have aQ:Hid (OLs w6 wa.heap.size w6.heap.size z [.string z.p,.slice A8 z.ns.length c8]):=ab ⟨_,rfl,d5,o8.ac6 (λx hx=>ct.out x hx) (by omega) λg hg=>(o8.at_ hg).2⟩;replace V:=ab V;have q:=ab a3;replace aa:=ab aa;clear bS c6 nG o8 a3 M b9 an bk bl q0 b1 c9;go_wp2_with(at_builtin;refine mn ?_);refine⟨?_,trivial⟩;refine lF OLs.az (by decide) (v:=.slice Av j cv) rfl (.tmp 79) (.tmp 87) 33 rfl aof z rfl aa.out rfl V.out rfl (by simp[Value.oneCell']) (show wr.heap.size<=w6.heap.size by omega) (OLs.az.wide aQ.out bZ (am _)) (am _) (by have:=bj.out;omega) (by omega) ?_;intro v9 X o9 G bn;obtain⟨S,P,rfl⟩:=o9.form;rw[ap,oE,bj.out] at o9;rw[ap,oE,bj.out];have d:=aa.out;have z9:=G.size;have a8:=dG d G bq (by decide);have e5:X.cell? ⟨I.heap.size+1,1,none⟩=some (.slice Av j cv):=a8.cell 1;have e9:=a8.frozen 1;have lS:=a8.bC 1 (.slice S (j+1) P);simp only[be,dk,dl] at lS;have a0:=q.out.gm1;have c1:=q.out.gmr;have N:ago w (X.setCell ⟨I.heap.size+1,1,none⟩ (.slice S (j+1) P)) w.heap.size _ _ C a b c s K (.slice Ap s.pk.length cp) (.slice Ao k co) (.slice Cl s.lg.length cl) s.pk (s.sn.take k) I.heap.size:=
        ⟨iT (dG d G q.out.k0 (by decide)) (p:=⟨I.heap.size+1,1,none⟩) _ (by dsimp only;omega),iT (dG d G q.out.k1 (by decide)) (p:=⟨I.heap.size+1,1,none⟩) _ (by dsimp only;omega),iT (dG d G q.out.m (by decide)) (p:=⟨I.heap.size+1,1,none⟩) _ (by dsimp only;omega),
         ais gj.az (jw d G gj.az q.out.op (by decide)) (by omega),ais gW.az (gW.az.fP q.out.os G λb _ hb _ hs=>by have:=d.ob hs;omega) (by omega),ais gq.az (jw d G gq.az q.out.ol (by decide)) (by omega),
         (q.out.bl.trans (G.below q.out.bl.size λi hi hs=>by have:=d.ob hs;omega)).setCell (by dsimp only;omega) _,a0,by simp only[fd];have:=q.out.gm2;omega,am _,by simp only[fd];have:=q.out.hH;omega,c1⟩
       have aV:gV (X.setCell ⟨I.heap.size+1,1,none⟩ (.slice S (j+1) P)) I.heap.size (X.setCell ⟨I.heap.size+1,1,none⟩ (.slice S (j+1) P)).heap.size (y.all.take (j+1)) [.slice S (j+1) P]:=by
        rw[cS.out];simp only[fd];exact cR gV.az o9 a8 (by decide) 1 _
       have cZ:=ab N;replace aV:=ab aV;have d2:=ab lS;clear N lS d a8 bq;go_wp2;go_roundw
       case rel=>exact⟨j+1,_,by omega,by go_num,aV.out,d2.out,cZ.out⟩
       simp[intOf];omega
      .obtain rfl:j=y.all.length:=by omega
       rw[ga] at t;have cr:wr.cell? ⟨I.heap.size+1,0,none⟩=some (.int .i64 y.no):=a1.cell 0;have cd:wr.cell? ⟨I.heap.size+1,1,none⟩=some (.slice Av y.all.length cv):=a1.cell 1;have cf:wr.cell? ⟨K,1,none⟩=some (.slice Ao k co):=o.m.cell 1;have a4:=ab o;replace t:=ab t;clear o;go_wp2_with(at_builtin;refine mn ?_);refine⟨?_,trivial⟩;have bx:=aC wr (.cells #[.int .i64 y.no,.slice Av y.all.length cv] 35);have bI:=a4.out.below bx;have cz:=cg.new wr 35 #[.int .i64 y.no,.slice Av y.all.length cv];have c0:=gV.az.below t.out bx (am _);generalize wr.alloc (.cells #[.int .i64 y.no,.slice Av y.all.length cv] 35)=w6 at *;have z6:=bx.size;have q:=ab bI;have cG:Hid (OSn w6 I.heap.size w6.heap.size y [.int .i64 y.no,.slice Av y.all.length cv]):=ab ⟨_,rfl,ao,gV.az.wide c0 (am _) z6⟩;clear bI c0 a4 t cr cd cf a1 bb Y;refine lF OSn.az (by decide) (v:=.slice Ao k co) rfl (.tmp 91) (.tmp 93) 24 rfl aog y rfl q.out.os rfl cz rfl (by simp[Value.oneCell']) (show I.heap.size<=w6.heap.size by omega) cG.out (am _) (by have:=W.out;omega) (by omega) ?_;intro v9 X o9 G bn;obtain⟨S,P,rfl⟩:=o9.form;rw[ap,oE,W.out] at o9;rw[ap,oE,W.out];have d:=q.out.os;have u:=dG d G q.out.m (by decide);have a2:=dG d G q.out.k0 (by decide);have a7:=dG d G q.out.k1 (by decide);have bt:=jw d G gj.az q.out.op (by decide);have a6:=jw d G gq.az q.out.ol (by decide);have nH:Below w.heap.size w X:=q.out.bl.trans (G.below q.out.bl.size λi hi hs=>by have:=d.ob hs;omega);have cy:X.cell? ⟨K,1,none⟩=some (.slice Ao k co):=u.cell 1;have cw:=u.frozen 1;have z9:=G.size;have a0:=q.out.gm1;have d4:=q.out.gm2;have e1:=q.out.hH;have c1:=q.out.gmr;have lS:=u.bC 1 (.slice S (k+1) P);simp only[be,dk,dl] at lS;have N:ago w (X.setCell ⟨K,1,none⟩ (.slice S (k+1) P)) w.heap.size _ _ C a b c s K (.slice Ap s.pk.length cp) (.slice S (k+1) P) (.slice Cl s.lg.length cl) s.pk (s.sn.take (k+1)) (X.setCell ⟨K,1,none⟩ (.slice S (k+1) P)).heap.size:=
        ⟨iT a2 (p:=⟨K,1,none⟩) _ (by dsimp only;omega),iT a7 (p:=⟨K,1,none⟩) _ (by dsimp only;omega),lS,
         by simp only[fd];exact gj.az.wide (cR gj.az bt u (by decide) 1 _) (am _) (by omega),
         by rw[HN.out];simp only[fd];exact cR gW.az o9 u (by decide) 1 _,
         by simp only[fd];exact gq.az.wide (cR gq.az a6 u (by decide) 1 _) (am _) (by omega),
         nH.setCell (by dsimp only;omega) _,a0,by simp only[fd];omega,am _,am _,by simp only[fd];omega⟩
       have bf:=ab N;clear N lS bt a6 d a2 a7 u;go_wp2;go_roundw
       case rel=>exact⟨k+1,_,by omega,by go_num,bf.out⟩
       simp[intOf];omega
    .obtain rfl:k=s.sn.length:=by omega
     rw[ga] at o;have oP:=o.k1.cell;have af:=o.k1.frozen;have e7:=o.m.cell;have n:=ab o;have zr:=o.bl.size;clear o;go_wp2;have a0:=n.out.gm1;have b5:∀(u1 u2 u3:Value) {β:Type} {D:gR β} {T:List TypeId} {y:β} {cs:List Value},eK D T->27∉T->D wr w.heap.size wr.heap.size y cs->D (((wr.setCell ⟨w.heap.size+1,0,none⟩ u1).setCell ⟨w.heap.size+1,1,none⟩ u2).setCell ⟨w.heap.size+1,2,none⟩ u3) w.heap.size (((wr.setCell ⟨w.heap.size+1,0,none⟩ u1).setCell ⟨w.heap.size+1,1,none⟩ u2).setCell ⟨w.heap.size+1,2,none⟩ u3).heap.size y cs:=λu1 u2 u3 {_ _ _ _ _} hD hT hy=>by
      simp only[fd];exact hD.go (λb _ _ hb=>by
       have ay:b≠w.heap.size+1:=by rintro rfl;exact nh n.out.k1 hT hb
       rw[qw _ _ _ _ ay,qw _ _ _ _ ay,qw _ _ _ _ ay]) (am _) (am _) hy
     refine oR (v:=.agg #[.slice Ap s.pk.length cp,.slice Ao s.sn.length co,.slice Cl s.lg.length cl]) (by simp[results,results94,go_sem,oP]) rfl ⟨_,_,_,rfl,⟨b5 _ _ _ gj.az (by decide) n.out.op,b5 _ _ _ gW.az (by decide) n.out.os,b5 _ _ _ gq.az (by decide) n.out.ol⟩, ?_⟩;exact((n.out.bl.setCell (by dsimp only;omega) _).setCell (by dsimp only;omega) _).setCell (by dsimp only;omega) _
end
section
variable {β:Bool}
open Go.RowKit
def fT(key:Int)(f:Nd):Ls:=⟨f.p,(fY f.b).map λp=>bG key (bs p)⟩
def jS(no key:Int)(t:List Nd):Sn:=⟨no,t.map (fT key)⟩
def aAw(w:World)(s:Sn)(e:Ending)(w':World):Prop:=∃v,e=.returned (.agg #[.int .i64 s.no,v])/\gV w' w.heap.size w'.heap.size s.all [v]/\Below w.heap.size w w'
theorem apP(L key:Int)(hk:1<=key/\key<=99)(c0:bX L)(t:List Nd)(ht:∀x∈t,dE x.b=true)(hl:t.length<=1000)(vt:Value)(w:World)(lo hi:Nat)(bE:hi<=w.heap.size)(h1:fG w lo hi t [vt]) :
  Calls (ai β) 99 #[.int .i64 L,.int .i64 key,vt] w (aAw w (jS L key t)):=by
 have HT:=ab ht;clear ht;have HK:=ab hk;obtain⟨A,c,rfl⟩:=h1.form;obtain⟨_,hc,K⟩:=h1.len_;unfold maxLen at K;go_enter yV,ntmps99;go_wp2;generalize hG:((w.alloc (.cells #[.int .i64 0,.slice none 0 0] 35)).alloc (.cells #[] 68)).alloc (.cells #[.int .i64 L,.slice (some ⟨w.heap.size+1,0,none⟩) 0 0] 35)=w0 at *;obtain⟨aP,jh,B,dv,fg,k1,oP,bi,P,a3,bk⟩:=aAm hG;clear hG;obtain⟨all,q⟩:∃all,all=(jS L key t).all:=⟨_,rfl⟩;have b9:all.length=t.length:=by rw[q];exact pZ _
 have jQ:=ab q;clear q;have a1:gV w0 w.heap.size w0.heap.size [] [.slice (some ⟨w.heap.size+1,0,none⟩) 0 0]:=dW.ac6 ⟨_,rfl,by omega,k1⟩ (am _);have H0:=ab (And.intro a1 (And.intro B (And.intro P aP)));clear a1 B k1 P dv oP a3 fg bi bk aP;go_loopw [8] (λii wr=>∃(k:Nat) (va:Value),k<=t.length/\ii=.int .i64 k/\gV wr w.heap.size wr.heap.size (all.take k) [va]/\cg wr w.heap.size 35 #[.int .i64 0,.slice none 0 0]/\cg wr (w.heap.size+1+1) 35 #[.int .i64 L,va]/\Below w.heap.size w wr) (λii _=>t.length-(intOf ii).toNat)
 case atStart=>exact⟨0,_,fa _,rfl,H0.out.1,H0.out.2.1,H0.out.2.2.1,H0.out.2.2.2⟩
 case round=>
  clear H0;obtain⟨k,va,c3,rfl,a,B,P,M⟩:=hrel;obtain⟨H,bo⟩:∃H,H=wr:=⟨_,rfl⟩;subst bo;obtain⟨Av,cv,rfl⟩:=a.form;have X:(all.take k).length=k:=by rw[ff,rh (by omega)]
  rw[X] at a P;by_cases ba:k<t.length
  .obtain⟨f,r⟩:=ak ba;have N:=fM (HT.out f (aE r));have o:=fG.az.below h1 M bE;obtain⟨b1,bT,rfl,_,c5,b8,ml,bp⟩:=lA o r;have aV:all[k]?=some (fT key f):=by rw[jQ.out];show(t.map (fT key))[k]?=_;rw[qz,r];rfl
   have fh:=mp aV;have kv:=ab fh;have U:=ab X;have a6:=ju N.2;have kh:=ace f.b;have c4:=N.1;have HA:=ab a6;have HC:=ab (ac4 (β:=β) f.b (by omega));have C:=ab a;have bw:=ab b8;have a9:=ab r;clear r o N aV fh a6 X a;go_wp2;refine(HC.out H).mono ?_;rintro e E ⟨v1,rfl,op,T⟩;clear HC;obtain⟨Ap,cp,rfl⟩:=op.form;have I:=(op.deep (λx K=>lD (HA.out x K)) H.heap.size).sl (am _);have zo:=M.size;have z1:=T.size;obtain⟨m,u⟩:∃m,m=(fY f.b).map λp=>bG key (bs p):=⟨_,rfl⟩;have al:fT key f=⟨f.p,m⟩:=by rw[u];rfl
   rw[al] at kv;clear al;revert u;revert HA;revert kh;revert I;generalize fY f.b=ps;intro I kh HA u;have V:=ab u;clear u;go_wp2;have b2:=aC E (.cells #[] 3);have a0:aD fp 3 (E.alloc (.cells #[] 3)) E.heap.size (.slice (some ⟨E.heap.size,0,none⟩) 0 0) []:=(dW.new E 3 (am _)).own 1;have a2:=cH.az.below I b2 (am _);have b3:=ae T b2;have bl:=b2.size;have HO:=ab a0;have HR:=ab a2;have HB:=ab b3;clear a0 I a2 op b2 b3 ml bp T;generalize E.alloc (.cells #[] 3)=w2 at *;go_loopw [10,11] (λnn jj wr=>∃j:Nat,j<=ps.length/\jj=.int .i64 j/\aD fp 3 wr E.heap.size nn (m.take j)/\Below H.heap.size H wr/\cH wr H.heap.size E.heap.size ps [.slice Ap ps.length cp]/\E.heap.size<=wr.heap.size) (λ_ jj _=>ps.length-(intOf jj).toNat)
   case atStart=>exact⟨0,fa _,rfl,HO.out,HB.out,HR.out,bl⟩
   case round=>
    clear HO HB HR;obtain⟨j,bz,rfl,J,d,hr,hz⟩:=hrel;have bx:m.length=ps.length:=by rw[V.out,pZ]
    have W:(m.take j).length=j:=by rw[ff,rh (by omega)]
    obtain⟨Ao,co,rfl⟩:=J.form;rw[W] at J ⊢;by_cases bq:j<ps.length
    .obtain⟨p,D⟩:=ak bq;have br:=HA.out p (aE D);obtain⟨b2,mV,rfl,bS,c2,bZ,bb⟩:=iV hr D;have b6:m[j]?=some (bG key (bs p)):=by rw[V.out,qz,D];rfl
     have fh:=mp b6;have O:=ab fh;have b5:=ab W;have S:=ab (nM (β:=β) key p HK.out br wr);have HR:=ab hr;have n:=mf (key:=key) (l:=bs p);revert S O n;generalize bG key (bs p)=nv;intro O S n;clear b6 fh hr D W;go_wp2;refine S.out.mono ?_;rintro e w3 ⟨rfl,rfl⟩;go_wp2_with(at_builtin;refine bM (F:=fp) (v:=.slice Ao j co) rfl (.tmp 34) (.tmp 41) 31 rfl lj nv rfl J rfl rfl (by have:=b5.out;omega) hz ?_;intro va wa oa Q bL;obtain⟨Aa,ca,rfl⟩:=oa.form;simp only[ap,fi,lP,lm,b5.out] at oa);go_roundw
     case rel=>
      refine⟨j+1,by omega,by go_num,by rw[O.out];simpa using oa,d.trans (Q.below d.size λi hi K=>by have:=(J.at_ K).1;omega),cH.az.fP HR.out Q λb _ M _ hs=>by have:=(J.at_ hs).1;omega,db hz Q.size⟩
     case measure=>simp[intOf];omega
    .obtain rfl:j=ps.length:=by omega
     have af:m.take ps.length=m:=by rw[<-bx,ga]
     rw[af] at J;have o:=fG.az.below h1 (ae M d) bE;have n:∀x∈m,fp.good x:=λx K=>by
      rw[V.out] at K;obtain⟨p,_,rfl⟩:=mc.1 K;have:=mf (key:=key) (l:=bs p);show bX _;unfold bX;omega
     have dC:=ar B d;have R:=ar P d;have a:=gV.az.below C.out d (am _);obtain⟨b3,bI,e0,_,_,_,a8,_⟩:=lA o a9.out;simp only[jt,qd,qh] at e0;obtain⟨rfl,rfl⟩:=e0;have a7:wr.cell? ⟨w.heap.size+1+1,1,none⟩=some (.slice Av k cv):=R.cell 1;have zr:=d.size;have ad:=ab a;have HO:=ab J;have bf:=ab n;have ax:=ab dC;have an:=ab R;have HB:=ab (ae M d);clear a J n dC R o hr C B P M d af a9;go_wp2;have aG:=ag a7;have aK:=ag a8;refine aZ 10 [0,1,2,3,4,5,6,7] [8,9] (h:= ?_);simp only[pick,List.map,mx,mT];repeat(go_big_quiet_step (fail))
     refine gE ?_;clear aG aK;apply Exists.intro;apply eR (.agg #[.string f.p,.slice Ao ps.length co])
     .intro y hF Qx s;have hQ:=ab s;clear s hF;go_wp2;exact hQ.out _ (fm _ _)
     apply dy (λv w'=>∃g,v=.slice (some ⟨g,0,none⟩) 1 1/\cg w' g 68 #[.string f.p,.slice Ao ps.length co])
     .rfl
     .exact λv x y ⟨g,e,hk⟩ hle=>⟨g,e,ar hk hle⟩
     .intro x hF Qx s;have hQ:=ab s;clear s;go_wp2;exact hQ.out _ _ (aC _ _) ⟨_,rfl,cg.new _ _ _⟩
     intro u9;refine cV ?_;intro w6 Y xx je hF;dsimp only[iv] at hF;try rw[je] at hF
     clear je xx;obtain⟨⟨g8,rfl,aQ⟩, -⟩:=hF;simp only[List.drop];have z6:=Y.size;have ay:=gV.az.below ad.out Y zr;have o8:=(HO.out.below Y).base z1;have b7:Hid (OLs w6 H.heap.size w6.heap.size ⟨f.p,m⟩ [.string f.p,.slice Ao ps.length co]):=ab ⟨_,rfl,bw.out.1,o8.ac6 bf.out (by omega) λg hg=>(o8.at_ hg).2⟩;have bj:=ab aQ;have ao:=ab ay;have bt:=ab (ar ax.out Y);have bn:=ab (ar an.out Y);have a5:=ab (ae HB.out Y);clear ad HO Y o8 aQ ay ax an HB a7 a8;go_wp2_with(at_builtin;refine mn ?_);refine⟨?_,trivial⟩;refine lF OLs.az (by decide) (v:=.slice Av k cv) rfl (.tmp 44) (.tmp 52) 33 rfl aof ⟨f.p,m⟩ rfl ao.out rfl bj.out rfl (by simp[Value.oneCell']) (show H.heap.size<=w6.heap.size by omega) b7.out (am _) (by have:=U.out;omega) (by omega) ?_;intro v9 w9 o9 kU bO;obtain⟨A9,Z,rfl⟩:=o9.form;rw[ap,oE,U.out] at o9;rw[ap,oE,U.out];have G:=ao.out;have z9:=kU.size;have z:=dG G kU bn.out (by decide);have aa:=dG G kU bt.out (by decide);have c1:w9.cell? ⟨w.heap.size+1+1,1,none⟩=some (.slice Av k cv):=z.cell 1;have c6:=z.frozen 1;have lS:=z.bC 1 (.slice A9 (k+1) Z);simp only[be,dk,dl] at lS;have a4:gV (w9.setCell ⟨w.heap.size+1+1,1,none⟩ (.slice A9 (k+1) Z)) w.heap.size (w9.setCell ⟨w.heap.size+1+1,1,none⟩ (.slice A9 (k+1) Z)).heap.size (all.take (k+1)) [.slice A9 (k+1) Z]:=by
      rw[kv.out];simp only[fd];exact cR gV.az o9 z (by decide) 1 _
     have nH:Below w.heap.size w (w9.setCell ⟨w.heap.size+1+1,1,none⟩ (.slice A9 (k+1) Z)):=(a5.out.trans (kU.below a5.out.size λi hi hs=>by have:=G.ob hs;omega)).setCell (by dsimp only;omega) _;have b4:=iT aa (p:=⟨w.heap.size+1+1,1,none⟩) (.slice A9 (k+1) Z) (by dsimp only;omega);have HF:=ab (And.intro a4 (And.intro b4 (And.intro lS nH)));clear a4 b4 lS nH G z aa;go_wp2;go_roundw
     case rel=>exact⟨k+1,_,by omega,by go_num,HF.out.1,HF.out.2.1,HF.out.2.2.1,HF.out.2.2.2⟩
     case measure=>simp[intOf];omega
  .obtain rfl:k=t.length:=by omega
   have b0:all.take t.length=all:=by rw[<-b9,ga]
   rw[b0] at a;have a3:=P.cell;have fg:=B.frozen;have dv:=B.cell;have C:=ab a;clear a b0;go_wp2;have k4:=(B.bC 0 (.int .i64 L)).bC 1 (.slice Av t.length cv);simp only[be,dk,dl] at k4;have bc:=k4.cell;refine oR (v:=.agg #[.int .i64 L,.slice Av t.length cv]) (by simp[results,results99,go_sem,bc]) rfl ⟨_,rfl, ?_,(M.setCell (by simp) _).setCell (by simp) _⟩;rw[<-jQ.out];simp only[fd];exact cR gV.az (cR gV.az C.out B (by decide) 0 _) (B.bC 0 _) (by decide) 1 _
end
section
variable {β:Bool}
open Go.RowKit
def kQ(x:It):List It->List It
 |[]=>[x]
 |y::l=>if x.n<y.n then x::y::l else y::kQ x l
def aha{x:It}:∀{a:List It},(∀y∈a,¬x.n<y.n)->kQ x a=a++[x]
 |[],_=>rfl
 |y::a,h=>by
  show(if x.n<y.n then _ else _)=_;rw[bv (h y (by simp)),aha λz b=>h z (by simp[b])];rfl
def ajS{x z:It}:∀{a:List It},(∀y∈a,¬x.n<y.n)->x.n<z.n->kQ x (a++[z])=a++[x]++[z]
 |[],_,b=>by show(if x.n<z.n then _ else _)=_;rw[dj b];rfl
 |y::a,h,b=>by
  show(if x.n<y.n then _ else _)=_;rw[bv (h y (by simp))];show y::kQ x (a++[z])=_;rw[ajS (λz b=>h z (by simp[b])) b];rfl
def ajT{x z:It}:∀{a:List It},(∃y∈a,x.n<y.n)->kQ x (a++[z])=kQ x a++[z]
 |[],h=>by obtain⟨y,b,_⟩:=h;cases b
 |y::a,h=>by
  show(if x.n<y.n then _ else _)=(if x.n<y.n then _ else _)++_;by_cases b:x.n<y.n
  .rw[dj b,dj b];rfl
  .rw[bv b,bv b];show y::kQ x (a++[z])=y::(kQ x a++[z]);rw[ajT];obtain⟨u,d,c⟩:=h;rcases me.1 d with rfl|d
   .exact absurd c b
   .exact⟨u,d,c⟩
def afC(x:It):∀l:List It,(kQ x l).length=l.length+1
 |[]=>rfl
 |y::l=>by
  show(if x.n<y.n then _ else _:List It).length=_;split
  .rfl
  .show(kQ x l).length+1=_;rw[afC x l];rfl
def ajU{x z:It}:∀{l:List It},z∈kQ x l↔z=x\/z∈l
 |[]=>by show z∈[x]↔_;simp
 |y::l=>by
  show z∈(if x.n<y.n then _ else _)↔_;split
  .simp
  .rw[me,ajU,me];constructor
   .rintro(h|h|h)<;>simp[h]
   .rintro(h|h|h)<;>simp[h]
def ack(x:It)(a:List It)(b:Bool)(o:List It):Prop:=(b=false/\o=a/\∀y∈a,¬x.n<y.n)\/(b=true/\o=kQ x a/\∃y∈a,x.n<y.n)
def apQ{b:Bool}(h:ack x a b o):o.length<=a.length+1:=by
 rcases h with⟨_,rfl,_⟩|⟨_,rfl,_⟩
 .omega
 .rw[afC];exact am _
def apR(h:ack x a false o)(b:x.n<z.n):ack x (a++[z]) true (o++[x]++[z]):=by
 rcases h with⟨_,rfl,h⟩|⟨h,_⟩
 .exact .inr ⟨rfl,(ajS h b).symm,z,by simp,b⟩
 .cases h
def ar9(h:ack x a false o)(c:¬x.n<z.n):ack x (a++[z]) false (o++[z]):=by
 rcases h with⟨_,rfl,h⟩|⟨h,_⟩
 .exact .inl ⟨rfl,rfl,λy b=>by
   rcases io.1 b with b|b
   .exact h y b
   .rw[ge.1 b];exact c⟩
 .cases h
def amc(h:ack x a true o):ack x (a++[z]) true (o++[z]):=by
 rcases h with⟨h,_⟩|⟨_,rfl,y,c,b⟩
 .cases h
 .exact .inr ⟨rfl,(ajT ⟨y,c,b⟩).symm,y,by simp[c],b⟩
def apS{b:Bool}(h:ack x a b o):(b=false/\kQ x a=o++[x])\/(b=true/\kQ x a=o):=by
 rcases h with⟨c,rfl,h⟩|⟨c,rfl,_⟩
 .exact .inl ⟨c,aha h⟩
 .exact .inr ⟨c,rfl⟩
def aAC(w:World)(ys:List It)(e:Ending)(w':World):Prop:=∃v,e=.returned v/\aD oV 64 w' w.heap.size v ys/\Below w.heap.size w w'
def apT(x:It)(a3:oV.good x)(xs:List It)(v:Value)(w:World)(lo hi:Nat)(bE:hi<=w.heap.size)(h:fC w lo hi xs [v])(hl:xs.length<=1000000) :
  Calls (ai β) 142 #[v,.agg #[.int .i64 x.n,.string x.b]] w (aAC w (kQ x xs)):=by
 obtain⟨A,c,rfl⟩:=h.form;obtain⟨_,hc,hx⟩:=h.len_;unfold maxLen at hx;go_enter yr,ntmps142;go_wp2;generalize W:(w.alloc (.cells #[.int .i64 x.n,.string x.b] 64)).alloc (.cells #[] 64)=w0 at *;obtain⟨B,jh,k0,dv,fg,G,N,H⟩:=agc W;clear W;have C:w.heap.size+1<=w0.heap.size:=by omega
 have g0:=fC.az.below h B bE;have X:aD oV 64 w0 (w.heap.size+1) (.slice (some ⟨w.heap.size+1,0,none⟩) 0 0) []:=aD.abJ ⟨_,rfl,am _,G⟩;go_loopw [5,6,7] (λoo pp V wr=>∃(k:Nat) (b:Bool) (o:List It),k<=xs.length/\pp=.bool b/\V=.int .i64 k/\aD oV 64 wr (w.heap.size+1) oo o/\ack x (xs.take k) b o/\bV (λb=>w.heap.size+1<=b) w0 wr) (λ_ _ V _=>xs.length-(intOf V).toNat)
 case atStart=>exact⟨0,false,[],fa _,rfl,rfl,X,.inl ⟨rfl,rfl,λy hy=>(by cases hy)⟩,bV.refl _ _⟩
 case round=>
  clear X G N H;obtain⟨k,b,o,hk,rfl,rfl,s,g,a⟩:=hrel;replace g:=ab g;obtain⟨r,t,rfl⟩:=s.form;have S:=apQ g.out;rw[ff] at S;have g1:fC wr lo hi xs [.slice A xs.length c]:=fC.az.fP g0 a λb _ h2 _ h3=>by omega
  have G:=aY k0 a (by omega);have N:=G.cell;have H:=G.frozen;by_cases Q:k<xs.length
  .obtain⟨z,n⟩:=ak Q;obtain⟨b1,a4,rfl,a8,a6,a5,cn,cb⟩:=aaG g1 n;replace n:=ab n;have P:=ab (mp n.out);cases b with
   |true=>
    have D:=ab (amc (z:=z) g.out);go_wp2
    go_quiet (fail)
    have m:aD oV 64 (wr.drewN nq) (w.heap.size+1) (.slice r o.length t) o:=s;go_wp2_with(at_builtin;refine bM (F:=oV) (v:=.slice r o.length t) rfl (.tmp 31) (.tmp 36) 38 rfl aaj z rfl m rfl rfl (by first|omega|(simp only[ap,fi,lP];omega)) (db C (a.drewN nq).size) ?_;intro R u f p q;obtain⟨E,I,rfl⟩:=f.form;simp only[ap,fi,lP,lm] at f;skip);have d:bV (λb=>w.heap.size+1<=b) w0 u:=(a.drewN nq).trans p λb K e=>(m.at_ e).1;go_roundw
    case rel=>exact⟨k+1,true,o++[z],by omega,rfl,by go_num,f,by rw[P.out];exact D.out,d⟩
    simp[intOf];omega
   |false=>
    by_cases j:x.n<z.n
    .have t1:decide (x.n<z.n)=true:=de j;have D:=ab (apR g.out j);clear j;go_wp2
     go_quiet (fail)
     have m:aD oV 64 (wr.drewN nq) (w.heap.size+1) (.slice r o.length t) o:=s;have a1:∀i,(wr.drewN nq).cell? ⟨w.heap.size,i,none⟩=_:=N;go_wp2_with(first|(at_builtin;refine bM (F:=oV) (v:=.slice r o.length t) rfl (.tmp 27) (.tmp 29) 38 rfl aaj x rfl m rfl rfl (by first|omega|(simp only[ap,fi,lP];omega)) (db C (a.drewN nq).size) ?_;intro R u f p q;obtain⟨E,I,rfl⟩:=f.form;simp only[ap,fi,lP,lm] at f;have d:bV (λb=>w.heap.size+1<=b) w0 u:=(a.drewN nq).trans p λb K e=>(m.at_ e).1;have a2:=iU (w:=wr.drewN nq) cn p (λJ=>by have:=(m.at_ J).1;dsimp only at this;omega);have a7:=iU (w:=wr.drewN nq) cb p (λJ=>by have:=(m.at_ J).1;dsimp only at this;omega))|(at_builtin;refine bM (F:=oV) (v:=.slice E (o.length+1) I) rfl (.tmp 31) (.tmp 36) 38 rfl aaj z rfl f rfl rfl (by first|omega|(simp only[ap,fi,lP];omega)) (db C d.size) ?_;intro v4 Z U L a0;obtain⟨A4,c4,rfl⟩:=U.form;simp only[ap,fi,lP,lm] at U;have T:bV (λb=>w.heap.size+1<=b) w0 Z:=d.trans L λb K e=>(f.at_ e).1));go_roundw
     case rel=>exact⟨k+1,true,o++[x]++[z],by omega,rfl,by go_num,U,by rw[P.out];exact D.out,T⟩
     simp[intOf];omega
    .have t1:decide (x.n<z.n)=false:=da j;have D:=ab (ar9 g.out j);clear j;go_wp2
     go_quiet (fail)
     have m:aD oV 64 (wr.drewN nq) (w.heap.size+1) (.slice r o.length t) o:=s;go_wp2_with(at_builtin;refine bM (F:=oV) (v:=.slice r o.length t) rfl (.tmp 31) (.tmp 36) 38 rfl aaj z rfl m rfl rfl (by first|omega|(simp only[ap,fi,lP];omega)) (db C (a.drewN nq).size) ?_;intro R u f p q;obtain⟨E,I,rfl⟩:=f.form;simp only[ap,fi,lP,lm] at f;skip);have d:bV (λb=>w.heap.size+1<=b) w0 u:=(a.drewN nq).trans p λb K e=>(m.at_ e).1;go_roundw
     case rel=>exact⟨k+1,false,o++[z],by omega,rfl,by go_num,f,by rw[P.out];exact D.out,d⟩
     simp[intOf];omega
  .obtain rfl:k=xs.length:=by omega
   have l:=apS g.out;rw[ga] at l;have Y:=ab l;clear l;have M:Below w.heap.size w wr:=B.trans (a.below B.size λi hi J=>by omega);cases b with
   |true=>
    have O:kQ x xs=o:=by
     rcases Y.out with⟨h,_⟩|⟨_,h⟩
     .cases h
     .exact h
    rw[O];go_wp2;go_ret;exact⟨_,rfl,s.base (by omega),M⟩
   |false=>
    have O:kQ x xs=o++[x]:=by
     rcases Y.out with⟨_,h⟩|⟨h,_⟩
     .exact h
     .cases h
    rw[O];go_wp2_with(at_builtin;refine bM (F:=oV) (v:=.slice r o.length t) rfl (.tmp 40) (.tmp 42) 38 rfl aaj x rfl s rfl rfl (by first|omega|(simp only[ap,fi,lP];omega)) (db C a.size) ?_;intro R u f p q;obtain⟨E,I,rfl⟩:=f.form;simp only[ap,fi,lP,lm] at f;skip);have d:bV (λb=>w.heap.size+1<=b) w0 u:=a.trans p λb K e=>(s.at_ e).1;go_ret;exact⟨.slice E (o.length+1) I,rfl,by have:=f.base (base':=w.heap.size) (by omega);simpa using this,B.trans (d.below B.size λi hi J=>by omega)⟩
def iW(key:Int)(s:ByteArray):It:=⟨bG key (bs s),qU (fE (bs s))⟩
def gu(key:Int)(l:List ByteArray):List It:=l.foldl (λa s=>kQ (iW key s) a) []
def nU(key:Int)(l:List ByteArray)(s:ByteArray):gu key (l++[s])=kQ (iW key s) (gu key l):=by
 unfold gu;rw[sS];rfl
def aan(key:Int)(l:List ByteArray):(gu key l).length=l.length:=by
 induction l using nL with
 |h0=>rfl
 |h1 l s a=>rw[nU,afC,a,ap];rfl
def ac7{l:List ByteArray}:x∈gu key l↔∃s∈l,x=iW key s:=by
 induction l using nL with
 |h0=>simp[gu]
 |h1 l s b=>
  rw[nU,ajU,b];constructor
  .rintro(h|⟨t,a,h⟩)
   .exact⟨s,by simp,h⟩
   .exact⟨t,by simp[a],h⟩
  .rintro⟨t,a,h⟩;rcases io.1 a with a|a
   .exact .inr ⟨t,a,h⟩
   .rw[ge.1 a] at h;exact .inl h
def adI(key:Int)(a:aR (bs s)):oV.good (iW key s):=by
 have b:=mf (key:=key) (l:=bs s);show bX (bG key (bs s))/\(qU (fE (bs s))).size<=maxLen;refine⟨by unfold bX;omega, ?_⟩;rw[<-aM,ah8,afc a];have:=(na (n:=(bs s).length)).1;unfold maxLen;omega
def afD{l:List ByteArray}(h:∀s∈l,aR (bs s)):∀x∈gu key l,oV.good x:=λx b=>by
 obtain⟨s,a,rfl⟩:=ac7.1 b;exact adI key (h s a)
def aAD(no:Int)(w:World)(ys:List It)(e:Ending)(w':World):Prop:=∃v,e=.returned (.agg #[.int .i64 no,v])/\aD oV 64 w' w.heap.size v ys/\Below w.heap.size w w'
def amd(B key:Int)(hk:1<=key/\key<=99)(xs:List ByteArray)(I:∀s∈xs,aR (bs s))(hl:xs.length<=100)(v:Value)(w:World)(lo hi:Nat)(bE:hi<=w.heap.size)(h:cH w lo hi xs [v]) :
  Calls (ai β) 98 #[.int .i64 B,.int .i64 key,v] w (aAD B w (gu key xs)):=by
 replace I:=ab I;obtain⟨A,c,rfl⟩:=h.form;go_enter yW,ntmps98;go_wp2;generalize hG:((w.alloc (.cells #[.int .i64 0,.slice none 0 0] 40)).alloc (.cells #[] 64)).alloc (.cells #[.int .i64 B,.slice (some ⟨w.heap.size+1,0,none⟩) 0 0] 40)=w0 at *;obtain⟨aP,jh,i,J,T,k1,oP,Z,d,b,o⟩:=aAm hG;clear hG;have o0:aD oV 64 w0 (w.heap.size+1) (.slice (some ⟨w.heap.size+1,0,none⟩) 0 0) []:=aD.abJ ⟨_,rfl,am _,k1⟩;go_loopw [8] (λii wr=>∃(k:Nat) (U:Value),k<=xs.length/\ii=.int .i64 k/\aD oV 64 wr (w.heap.size+1) U (gu key (xs.take k))/\cg wr w.heap.size 40 #[.int .i64 0,.slice none 0 0]/\cg wr (w.heap.size+1+1) 40 #[.int .i64 B,U]/\Below w.heap.size w wr) (λii _=>xs.length-(intOf ii).toNat)
 case atStart=>exact⟨0,_,fa _,rfl,o0,i,d,aP⟩
 case round=>
  clear o0 i k1 d J oP b T Z o;obtain⟨k,U,a2,rfl,n,i,d,j⟩:=hrel;obtain⟨O,V,rfl⟩:=n.form;have h1:=cH.az.below h j bE;have J:=i.cell;have T:=i.frozen;have b:=d.cell;have o:=d.frozen;have r:Hid (∀x∈gu key (xs.take k),oV.good x):=ab (afD λs hs=>I.out s (oS hs));have F:(gu key (xs.take k)).length<=100:=by rw[aan,ff];omega
  by_cases W:k<xs.length
  .obtain⟨s,m⟩:=ak W;obtain⟨b1,a4,rfl,_,_,P,q⟩:=iV h1 m;have z:=I.out s (aE m);have l:gu key (xs.take (k+1))=kQ (iW key s) (gu key (xs.take k)):=by rw[mp m,nU]
   have HST:=ab l;clear l m;have Q:=ab (adI key z);have X:=ab (λw=>nM (β:=β) key s hk z w);have a0:=ab (λw=>agW (β:=β) s P w);have E:iW key s=⟨bG key (bs s),qU (fE (bs s))⟩:=rfl;have a3:=ab E;have R:=ab (ah8 s);clear z E;have G:=n.deep r.out (w.heap.size+1) |>.sl (am _)
   have K:wr.cell? ⟨w.heap.size+1+1,1,none⟩=some (.slice O (gu key (xs.take k)).length V):=b 1;have C:=ab (λg hg=>n.at_ (g:=g) hg);have a5:w.heap.size+1+1<wr.heap.size:=d.lt;revert HST;revert F;revert K;revert G;revert r;revert C;revert n;revert b;revert d;generalize gu key (xs.take k)=L;intro d b n C r G K F HST;go_wp2;have aG:=ag K;have aK:=ag q;refine aZ 15 [0,1,2,3,4,5,6,8,9,10,11] [7,12,13,14] (h:= ?_);simp only[pick,List.map,mx,mT];repeat(go_big_quiet_step (fail))
   refine gE ?_;clear aG aK;apply Exists.intro;apply eR (.int .i64 (bG key (bs s)))
   .intro y f M a;replace a:=ab a;clear f;go_wp2;refine(X.out y.to).mono ?_;rintro e wy ⟨rfl,rfl⟩;go_wp2;exact a.out _ (fm _ _)
   apply eR (.string (qU (fE (bs s))))
   .intro y f M a;replace a:=ab a;clear f;go_wp2;refine(a0.out y.to).mono ?_;rintro e wy ⟨⟨t,rfl,ht⟩,rfl⟩;have S:t=qU (fE (bs s)):=jm (ht.trans R.out.symm);subst S;go_wp2;exact a.out _ (fm _ _)
   apply eR (.agg #[.int .i64 (bG key (bs s)),.string (qU (fE (bs s)))])
   .intro y f M a;replace a:=ab a;clear f;go_wp2;exact a.out _ (fm _ _)
   apply dy (λv w'=>aD oV 64 w' wr.heap.size v (kQ (iW key s) L))
   .rfl
   .exact λv x y h a1=>h.below a1
   .intro y f M a;replace a:=ab a;clear f;have r1:=fC.az.below G y.ok (am _);go_wp2;refine(apT (iW key s) Q.out L _ y.to _ _ y.ok.size r1 (by omega)).mono ?_;rintro e wy ⟨vy,rfl,oy,N⟩;go_wp2;exact a.out _ _ N (oy.base y.ok.size)
   intro a6;refine cV ?_;intro w2 u xx je f;dsimp only[iv] at f;try rw[je] at f
   clear je xx;obtain⟨A5,c5,rfl⟩:=f.1.form;have o5:=f.1;clear f G;simp only[List.drop];replace i:=ar i u;replace J:=i.cell;replace T:=i.frozen;replace d:=ar d u;replace b:=d.cell;replace o:=d.frozen;replace j:=ae j u;go_wp2;have D:=d.bC 1 (.slice A5 (kQ (iW key s) L).length c5);simp only[be,dk,dl] at D;go_roundw
   case rel=>exact⟨k+1,_,by omega,by go_num,by rw[HST.out];exact(o5.bC _ (by dsimp only;omega)).base (by omega),iT i _ (by dsimp only;omega),D,j.setCell (by dsimp only;omega) _⟩
   simp[intOf];omega
  .obtain rfl:k=xs.length:=by omega
   rw[ga] at n b d;obtain⟨L,H⟩:∃L,L=gu key xs:=⟨_,rfl⟩;rw[<-H] at n b d ⊢;replace H:=ab H;go_wp2;have k4:=(i.bC 0 (.int .i64 B)).bC 1 (.slice O L.length V);simp only[be,dk,dl] at k4;have Y:=k4.cell;exact oR (v:=.agg #[.int .i64 B,.slice O L.length V]) (by simp[results,results98,go_sem,Y]) rfl ⟨_,rfl,by rw[<-H.out];exact aD.base (base:=w.heap.size+1) ((n.bC (p:=⟨w.heap.size,0,none⟩) _ (by dsimp only;omega)).bC (p:=⟨w.heap.size,1,none⟩) _ (by dsimp only;omega)) (by omega),(j.setCell (by simp) _).setCell (by simp) _⟩
end
section
variable {β:Bool}
open Go.RowKit
def eU(l:List Pk):Int:=((l.getLast?).map (·.no)).getD 0+1
def fU(l:List Hd):Int:=l.foldl (λa h=>max a (h.s+1)) 1
def dZ(s:dJ):Int:=match s.sn.getLast? with|some x=>max (fU s.lg) (x.no+1)|none=>fU s.lg
def ame{l:List Hd}{h:Hd}(a:l[k]?=some h):fU (l.take (k+1))=max (fU (l.take k)) (h.s+1):=by
 unfold fU;rw[mp a,sS];rfl
def ajV{l:List Hd}{b:Int}(d:1<=b)(h:∀x∈l,x.s+1<=b):1<=fU l/\fU l<=b:=by
 induction l using nL with
 |h0=>exact⟨um _,d⟩
 |h1 l x a=>
  have e:fU (l++[x])=max (fU l) (x.s+1):=by unfold fU;rw[sS];rfl
  have:=a λy c=>h y (by simp[c]);have:=h x (by simp);rw[e];omega
def ayz(m x:Int):(if m<x then x else m)=max m x:=by rw[Int.max_def];split<;>split<;>omega
def vO{l:List Z}(h:0<l.length):∃x,l[l.length-1]?=some x/\l.getLast?=some x:=by
 obtain⟨x,a⟩:=ak (show l.length-1<l.length by omega);exact⟨x,a,by rw[List.getLast?_eq_getElem?,a]⟩
def amf(b:Int)(s:dJ):Prop:=(∀p∈s.pk,p.no<=b)/\(∀x∈s.sn,x.no<=b)/\∀h∈s.lg,h.s<=b
def ajW(s:dJ)(u:amf 1000000 s)(va vb vc:Value)(w:World)(lo hi:Nat)(h:aaF w lo hi s va vb vc)(V:hi<=w.heap.size) :
  Calls (ai β) 95 #[.agg #[va,vb,vc]] w λe w'=>e=.returned (.tuple #[.int .i64 (eU s.pk),.int .i64 (dZ s)])/\Below w.heap.size w w':=by
 obtain⟨N,K,W⟩:=h;obtain⟨A,a,rfl⟩:=cB.form N;obtain⟨B,b,rfl⟩:=cB.form K;obtain⟨C,c,rfl⟩:=cB.form W;obtain⟨_,a7,a5⟩:=N.len_;obtain⟨_,an,a6⟩:=K.len_;obtain⟨_,af,a4⟩:=W.len_;unfold maxLen at a5 a6 a4;have r:∀p∈s.pk,bX p.no:=λp i=>by
  obtain⟨P,v,_,hg,_⟩:=N.alx p i;exact hg
 have q:∀p∈s.sn,bX p.no:=λp i=>by
  obtain⟨P,v,_,hg,_⟩:=K.alx p i;exact hg
 replace u:=ab u;replace r:=ab r;replace q:=ab q;go_enter yZ,ntmps95;rcases nf s.pk.length with t|t
 case' inl=>
  have t1:=da (show ¬(0<s.pk.length) by omega);have i:eU s.pk=1:=by rw[pu.1 t];rfl
  have HP:=ab i;have HZ:=ab t;clear t i;go_wp2
 case' inr=>
  have t1:=de (show 0<s.pk.length by omega);obtain⟨z,f,E⟩:=vO t;have a9:=u.out.1 z (aE f);have a0:=r.out z (aE f);unfold bX at a0;have i:eU s.pk=z.no+1:=by unfold eU;rw[E];rfl
  have HP:=ab i;replace f:=ab f;clear i E;obtain⟨b4,S,P,D,_,_,_,⟨v4,rfl,X⟩,n⟩:=(kF.loc.below N (aC w (.cells #[.slice A s.pk.length a,.slice B s.sn.length b,.slice C s.lg.length c] 27)) V).at_ f.out;subst D;obtain⟨m4,F⟩:∃m,m=s.pk.length-1:=⟨_,rfl⟩;rw[<-F] at n;have e4:(s.pk.length:Int)-1=((m4:Nat):Int):=by omega
  have aa:m4<s.pk.length:=by omega
  have I:=n 0 _ rfl;rw[rO] at I;clear n X F t f;go_wp2;clear e4 I;generalize some (⟨b4,S,none⟩:Addr)=A at *
 all_goals
  generalize hG:w.alloc (.cells #[.slice A s.pk.length a,.slice B s.sn.length b,.slice C s.lg.length c] 27)=w0 at *;obtain⟨L,jh,k0,dv,fg⟩:=gU hG;clear hG;have a3:=mW.loc.below W L V
  go_loop [5,6] (λss ii=>∃k:Nat,k<=s.lg.length/\ii=.int .i64 k/\ss=.int .i64 (fU (s.lg.take k))) (λ_ ii=>s.lg.length-(intOf ii).toNat)
  case atStart=>exact⟨0,fa _,rfl,rfl⟩
  case round=>
   obtain⟨k,ad,rfl,rfl⟩:=hrel;by_cases Y:k<s.lg.length
   .obtain⟨x,O⟩:=ak Y;have oL:=u.out.2.2 x (aE O);obtain⟨Z,o,P,D,_,_,_,⟨rfl,g⟩,d⟩:=a3.at_ O;subst D;have a1:bX x.s:=g.2;unfold bX at a1;have Q:w0.cell? ⟨Z,o+k*2+1,none⟩=some (.int .i64 x.s):=by simpa using d 1 _ rfl
    have J:=ajV (l:=s.lg.take k) (b:=1000001) (by omega) λy j=>by have:=u.out.2.2 y (oS j);omega
    have fh:=ame O;have U:=ab fh;clear fh O d g;revert U J;generalize fU (s.lg.take k)=m;intro J U;go_wp2
    go_round
    case rel=>exact⟨k+1,by omega,by go_num,by rw[U.out,ayz]⟩
    simp[intOf];omega
   .obtain rfl:k=s.lg.length:=by omega
    rw[ga];have T:=lX.loc.below K L V;rcases nf s.sn.length with j|j
    .have t2:=da (show ¬(0<s.sn.length) by omega);have H:dZ s=fU s.lg:=by unfold dZ;rw[pu.1 j];rfl
     have R:=ab H;have HY:=ab j;clear H j;go_wp2;go_ret2;exact⟨by rw[HP.out,R.out];rfl,L⟩
    .have t2:=de (show 0<s.sn.length by omega);obtain⟨y,M,G⟩:=vO j;have a8:=u.out.2.1 y (aE M);have a2:=q.out y (aE M);unfold bX at a2;have H:dZ s=max (fU s.lg) (y.no+1):=by unfold dZ;rw[G]
     obtain⟨Z,o,P,D,_,_,_,⟨v5,rfl,g⟩,d⟩:=T.at_ M;subst D;obtain⟨m,J⟩:∃m,m=s.sn.length-1:=⟨_,rfl⟩;rw[<-J] at d;have e1:(s.sn.length:Int)-1=((m:Nat):Int):=by omega
     have al:m<s.sn.length:=by omega
     have Q:w0.cell? ⟨Z,o+m*2,none⟩=some (.int .i64 y.no):=by simpa using d 0 _ rfl
     have R:=ab H;clear H G M d g J j;go_wp2;all_goals
      go_ret2;exact⟨by rw[HP.out,R.out];first|(rw[Int.max_eq_right (by omega)];rfl)|(rw[Int.max_eq_left (by omega)];rfl),L⟩
end
section
variable {β:Bool}
open Go.RowKit
def fu(key:Int)(no:Int)(l:List ByteArray):List Pk:=
 if h:l=[] then[] else⟨no,gu key (l.take 4)⟩::fu key (no+1) (l.drop 4)
termination_by l.length
decreasing_by
 have:0<l.length:=List.length_pos_iff.2 h;rw[pi];omega
def iy(key a:Int):fu key a []=[]:=by rw[fu];rfl
def mo(key a:Int){l:List ByteArray}(h:0<l.length):fu key a l=⟨a,gu key (l.take 4)⟩::fu key (a+1) (l.drop 4):=by
 rw[fu,dif_neg (by rintro rfl;simp at h)]
open Classical in
noncomputable def nV(l:List Pk):List Sp:=if ∀s∈dr l,spP s then eA (dr l) [] else[]
def aoi(l:List Pk):IOf l (nV l):=by
 unfold nV;by_cases h:∀s∈dr l,spP s
 .rw[dj h];exact .inl ⟨h,rfl⟩
 .rw[bv h];exact .inr ⟨h,rfl⟩
noncomputable def ac8(key:Int)(s:dJ)(t:List Nd):List Pk:=fu key (eU s.pk) (aax key (nV s.pk) t)
def afE(key:Int)(s:dJ)(t:List Nd):Prop:=(s.pk++ac8 key s t).length<=20/\eU s.pk+(ac8 key s t).length-1<=99/\dZ s<=20/\s.lg.length<9
noncomputable def abf(key:Int)(s:dJ)(by_:Int)(t:List Nd):dJ:=⟨s.pk++ac8 key s t,s.sn++[jS (dZ s) key t],s.lg++[⟨by_,dZ s⟩]⟩
structure agp (w wr:World) (va vb vc:Value) (gm:Nat) (vp vs vl:Value) (pk:List Pk) (sn:List Sn) (lg:List Hd) (H:Nat):Prop where
 k0:cg wr w.heap.size 27 #[va,vb,vc]
 k1:cg wr (w.heap.size+1) 27 #[.slice none 0 0,.slice none 0 0,.slice none 0 0]
 m:cg wr gm 27 #[vp,vs,vl]
 op:gj wr w.heap.size H pk [vp]
 os:gW wr w.heap.size H sn [vs]
 ol:gq wr w.heap.size H lg [vl]
 bl:Below w.heap.size w wr
 gm1:w.heap.size+1<gm
 gm2:gm<wr.heap.size
 hH:H<=wr.heap.size
def agp.below{wr : World}{e c : Value}{b:List Sn}{d:List Hd}(h:agp w wr X W V Y v e c R b d U)(a:Below wr.heap.size wr w'):agp w w' X W V Y v e c R b d U:=
 ⟨ar h.k0 a,ar h.k1 a,ar h.m a,gj.az.below h.op a h.hH,gW.az.below h.os a h.hH,gq.az.below h.ol a h.hH,ae h.bl a,h.gm1,bd h.gm2 a.size,db h.hH a.size⟩
def agp.up{wr : World}{e c : Value}{b:List Sn}{d:List Hd}{H' : Nat}(h:agp w wr X W V Y v e c R b d U)(a:U<=H')(f:H'<=wr.heap.size):agp w wr X W V Y v e c R b d H':=
 ⟨h.k0,h.k1,h.m,gj.az.wide h.op (am _) a,gW.az.wide h.os (am _) a,gq.az.wide h.ol (am _) a,h.bl,h.gm1,h.gm2,f⟩
def aAE:Value->Nat
 |.slice _ n _=>n
 |_=>0
def asa(key:Int)(s:dJ)(by_:Int)(t:List Nd)(w:World)(e:Ending)(w':World):Prop:=
 ∃c b a q r,e=.returned (.tuple #[.agg #[c,b,a],.bool q])/\gJ w' w.heap.size w'.heap.size r c b a/\((q=true/\afE key s t/\r=abf key s by_ t)\/(q=false/\¬afE key s t/\r=s))/\Below w.heap.size w w'
def ajX (key:Int) (hk:1<=key/\key<=99) (s:dJ) (u:Int) (bo:bX u) (t:List Nd) (ht:∀x∈t,dE x.b=true) (hl:t.length<=10) (hs:amf 1000000 s) (ee:(dr s.pk).length<=10000) (bx:ae3 s<=1000000)
  (va vb vc vt:Value) (w:World) (lo hi bi mR:Nat) (h:gJ w lo hi s va vb vc) (bE:hi<=w.heap.size) (h1:fG w bi mR t [vt]) (ca:mR<=w.heap.size) :
  Calls (ai β) 61 #[.int .i64 key,.agg #[va,vb,vc],.int .i64 u,vt] w (asa key s u t w):=by
 replace ht:=ab ht;have HS:=ab hs;have HK:=ab hk;replace bo:=ab bo;clear hs;obtain⟨A,a,rfl⟩:=h.pk.form;obtain⟨B,b,rfl⟩:=h.sn.form;obtain⟨C,c,rfl⟩:=h.lg.form;obtain⟨D,d,rfl⟩:=h1.form;have e9:s.pk.length<=1000000:=by
  have h1:=jv (f:=bPk) (l:=s.pk);unfold ae3 at bx;omega
 have ep:s.sn.length<=1000000:=by
  have h1:=jv (f:=bSn) (l:=s.sn);unfold ae3 at bx;omega
 have ej:s.lg.length<=1000000:=by unfold ae3 at bx;omega
 go_enter zy,ntmps61;go_wp2;generalize hG:(w.alloc (.cells #[.slice A s.pk.length a,.slice B s.sn.length b,.slice C s.lg.length c] 27)).alloc (.cells #[.slice none 0 0,.slice none 0 0,.slice none 0 0] 27)=w0 at *;obtain⟨aP,jh,k0,dv,fg,k1,oP,bT⟩:=agc hG;clear hG;have cG:=h.below aP bE;refine(adH s _ _ _ w0 lo hi cG.l (by omega) (by omega)).mono ?_;rintro e w1 ⟨vp,vs,vl,rfl,oc,b1⟩;obtain⟨Ap,cp,rfl⟩:=oc.pk.form;obtain⟨As,cs,rfl⟩:=oc.sn.form;obtain⟨Al,cl,rfl⟩:=oc.lg.form;replace k0:=ar k0 b1;replace dv:=k0.cell;replace fg:=k0.frozen;replace k1:=ar k1 b1;replace oP:=k1.cell;replace bT:=k1.frozen;replace aP:=ae aP b1;have c3:=ab oc;have z1:=b1.size;clear oc cG;have ax:=aC w1 (.cells #[.slice Ap s.pk.length cp,.slice As s.sn.length cs,.slice Al s.lg.length cl] 27);have dd:=(ar k0 ax).cell;go_wp2;clear ax dd;generalize hG:w1.alloc (.cells #[.slice Ap s.pk.length cp,.slice As s.sn.length cs,.slice Al s.lg.length cl] 27)=w2 at *;obtain⟨jk,ea,m0,jM,d9⟩:=gU hG;clear hG;replace k0:=ar k0 jk;replace dv:=k0.cell;replace fg:=k0.frozen;replace k1:=ar k1 jk;replace oP:=k1.cell;replace bT:=k1.frozen;have b9:=c3.out.below jk (am _);have P:agp w w2 (.slice A s.pk.length a) (.slice B s.sn.length b) (.slice C s.lg.length c) w1.heap.size (.slice Ap s.pk.length cp) (.slice As s.sn.length cs) (.slice Al s.lg.length cl) s.pk s.sn s.lg w1.heap.size:=
  ⟨k0,k1,m0,gj.az.wide b9.pk (by omega) (am _),gW.az.wide b9.sn (by omega) (am _),gq.az.wide b9.lg (by omega) (am _),ae aP jk,by omega,by omega,jk.size⟩
 obtain⟨E,cn⟩:∃E,E=w1.heap.size:=⟨_,rfl⟩;rw[<-cn] at P ⊢;have n:=ab P;have bL:=h.below (ae aP jk) bE;have HST:=ab bL;clear cn P b9 c3 k0 k1 m0 dv oP jM fg bT d9 aP jk b1;refine(ajW s HS.out _ _ _ w2 lo hi bL.l (by have:=n.out.bl.size;omega)).mono ?_;rintro e w3 ⟨rfl,b3⟩;have al:=n.out.below b3;have d1:=ab al;have bf:=HST.out.below b3 (by have:=n.out.bl.size;omega);have cw:=ab bf;have dv:=al.k0.cell;have z3:=al.bl.size;clear al n HST bL b3;go_wp2;refine(aea s.pk _ w3 lo hi (by omega) (gj.t bf.pk) (by omega) (nV s.pk) (aoi _)).mono ?_;rintro e w4 ⟨vi,rfl,oi,b4⟩;clear bf;have c1:=(aoi s.pk).ix;have cd:=((oi.deep (au8 c1) 0).sl (fa _)).1;have aK:=d1.out.below b4;have c7:=ab aK;have cz:=fG.az.wide (fG.az.below h1 aK.bl ca) (fa bi) (show mR<=w4.heap.size by have:=aK.bl.size;omega);obtain⟨Ai,ci,rfl⟩:=oi.form;clear aK d1 dv oi c1 b4;have an:Hid (afE key s t↔((s.pk++fu key (eU s.pk) (aax key (nV s.pk) t)).length<=20/\eU s.pk+(fu key (eU s.pk) (aax key (nV s.pk) t)).length-1<=99/\dZ s<=20/\s.lg.length<9)):=ab Iff.rfl;have b8:Hid (abf key s u t=⟨s.pk++fu key (eU s.pk) (aax key (nV s.pk) t),s.sn++[jS (dZ s) key t],s.lg++[⟨u,dZ s⟩]⟩):=ab rfl;have cW : -9223372036854775807<=eU s.pk/\eU s.pk<=1000001:=by
  rcases nf s.pk.length with hz|hz
  .rw[pu.1 hz];show _<=(1:Int)/\(1:Int)<=_;omega
  .obtain⟨z,ce,dt⟩:=vO hz;have e4:=HS.out.1 z (aE ce);obtain⟨es,v,_,hg,_⟩:=(cw.out.l).pk.alx z (aE ce);unfold bX at hg;unfold eU;rw[dt];show _<=z.no+1/\z.no+1<=_;omega
 have cS : -9223372036854775807<=dZ s/\dZ s<=1000001:=by
  have hm:=ajV (l:=s.lg) (b:=1000001) (by omega) λx hx=>by have:=HS.out.2.2 x hx;omega
  unfold dZ;cases d6:s.sn.getLast? with
  |none=>show _<=fU s.lg/\fU s.lg<=_;omega
  |some x=>
   have:=HS.out.2.1 x (vY d6);show _<=max (fU s.lg) (x.no+1)/\max (fU s.lg) (x.no+1)<=_;omega
 clear cw;have cA:(aax key (nV s.pk) t).length<=400:=by
  have a1:=acg (key:=key) (ix:=nV s.pk) (pN t) [];have a2:=ac5 (t:=t) ht.out;show(nT key (nV s.pk) [] (pN t)).length<=_;simp only[lP,lm] at a1;omega
 have a7:=lB (key:=key) (ix:=nV s.pk) ht.out;have ao:=ab (al6 (β:=β) key HK.out t ht.out (by omega) (nV s.pk) _ _ w4 0 w4.heap.size (am _) cz cd);clear cz cd;revert a7 cA b8 an ao;generalize aax key (nV s.pk) t=pieces;revert cW;generalize eU s.pk=n0;revert cS;generalize dZ s=s0;intro cS cW an b8 cA a7 ao;go_wp2;refine ao.out.mono ?_;rintro e w5 ⟨vq,rfl,oq,b5⟩;clear ao;have cK:=(oq.deep (λx hx=>lD (a7 x hx)) 0).sl (fa _);have bI:=c7.out.below b5;have cb:=bI.up (H':=w5.heap.size) bI.hH (am _);obtain⟨Aq,cq,rfl⟩:=oq.form;have b0:=ab (And.intro cK (And.intro a7 cb));clear c7 cK a7 bI cb oq b5;go_wp2;go_loopw [11,13] (λnn pp wr=>∃(no:Int) (j:List ByteArray) (o:List Pk) (vp:Value),nn=.int .i64 no/\s.pk++fu key n0 pieces=o++fu key no j/\no=n0+((o.length:Int)-s.pk.length)/\o.length+j.length<=s.pk.length+pieces.length/\s.pk.length<=o.length/\w5.heap.size<=wr.heap.size/\cH wr 0 w5.heap.size j [pp]/\(∀x∈j,aR (bs x))/\agp w wr (.slice A s.pk.length a) (.slice B s.sn.length b) (.slice C s.lg.length c) E vp (.slice As s.sn.length cs) (.slice Al s.lg.length cl) o s.sn s.lg wr.heap.size) (λ_ pp _=>aAE pp)
 case atStart=>exact⟨n0,pieces,s.pk,_,rfl,rfl,by omega,am _,am _,am _,b0.out.1,b0.out.2.1,b0.out.2.2⟩
 case round=>
  clear b0;obtain⟨no,j,o,ek,rfl,co,c4,d5,eb,e0,hr,hp,P⟩:=hrel;obtain⟨Ar,cr,rfl⟩:=hr.form;obtain⟨Q,O,rfl⟩:=P.op.form;have bj:=ab co;have bz:=ab c4;have ei : -9223372036854775807<=no/\no<=9000000:=by omega
  have HR:=ab hr;have HP:=ab hp;have n:=ab P;have er:=hr.len_.2.1;have dB:=hr.len_.2.2;unfold maxLen at dB;clear co c4 hr hp P;by_cases iu:0<j.length
  .have t1:decide (0<j.length)=true:=de iu;have jM:=n.out.m.cell 0;by_cases h4:j.length<=4
   case' pos=>
    have t2:=de (show(j.length:Int)<=4 by omega);have g2:((j.length:Nat):Int)<=(cr:Int):=by omega
    have q1:=am j.length;have q2:j.take j.length=j.take 4:=by rw[qj (am _),qj h4]
    have q3:j.drop j.length=j.drop 4:=by rw[rv (am _),rv h4]
   case' neg=>
    have t2:=da (show ¬((j.length:Int)<=4) by omega);have g2:((4:Nat):Int)<=(cr:Int):=by omega
    have q1:4<=j.length:=by omega
    have q2:=@rfl _ (j.take 4);have q3:=@rfl _ (j.drop 4)
   all_goals
    have bq:∀x∈j.take 4,aR (bs x):=λx hx=>HP.out x (oS hx);have ch:∀x∈j.drop 4,aR (bs x):=λx hx=>HP.out x (rT hx);have bt:=HR.out.aji q1;rw[q2] at bt;have bw:=HR.out.adt q1;rw[q3] at bw;have X:=mo key no iu;have ck:(j.take 4).length<=4:=by rw[ff];omega
    have c6:=afD (key:=key) bq;have d3:(gu key (j.take 4)).length<=4:=by rw[aan];exact ck
    have br:w5.heap.size<=wr.heap.size:=e0;have bS:bX no:=by unfold bX;omega
    have cf:=λ(y:World) (hy:Below wr.heap.size wr y)=>amd (β:=β) no key HK.out (j.take 4) bq (by omega) _ y 0 w5.heap.size (db br hy.size) (cH.az.below bt hy br)
    have aQ:=ab cf;have cv:=ab bw;have HST:=ab X;have bZ:=ab c6;have dI:=ab ch;have ds:Hid ((j.drop 4).length+1<=j.length):=ab (by rw[pi];omega);clear cf bw X c6 bt q2 q3 ck bq ch;revert d3;revert bZ;revert HST;revert aQ;generalize gu key (j.take 4)=L;intro aQ HST bZ d3;go_wp2;have aG:=ag jM;refine aZ 9 [0,1,2,3,4,5,6] [7,8] (h:= ?_);simp only[pick,List.map,mx,mT];repeat(go_big_quiet_step (fail))
    refine gE ?_;clear aG;apply Exists.intro;apply dy (λv Z=>∃A c,v=.agg #[.int .i64 no,.slice A L.length c]/\aD oV 64 Z wr.heap.size (.slice A L.length c) L)
    .rfl
    .exact λv x y ⟨A,c,e,h⟩ hle=>⟨A,c,e,h.below hle⟩
    .intro x S Qx r;replace r:=ab r;clear S;go_wp2;refine(aQ.out x.to x.ok).mono ?_;rintro e wy ⟨vy,rfl,oy,bp⟩;obtain⟨Ay,cy,rfl⟩:=oy.form;go_wp2;exact r.out _ _ bp ⟨_,_,rfl,oy.base x.ok.size⟩
    intro u7;apply dy (λv Z=>∃g A c,v=.slice (some ⟨g,0,none⟩) 1 1/\cg Z g 40 #[.int .i64 no,.slice A L.length c]/\aD oV 64 Z wr.heap.size (.slice A L.length c) L)
    .rfl
    .exact λv x y ⟨g,A,c,e,hk,h⟩ hle=>⟨g,A,c,e,ar hk hle,h.below hle⟩
    .intro x S Qx r;replace r:=ab r;obtain⟨A5,c5,rfl,ho⟩:=S.1 (by kernel_rfl);go_wp2;have ba:=aC x.to (.cells #[.int .i64 no,.slice A5 L.length c5] 40);exact r.out _ _ ba ⟨_,_,_,rfl,cg.new _ _ _,ho.below ba⟩
    intro u8;refine cV ?_;intro w6 nG xx je S;dsimp only[iv] at S;try rw[je] at S
    clear je xx;obtain⟨⟨g8,A8,c8,rfl,a8,o8⟩, -⟩:=S;simp only[List.drop];have z6:=nG.size;have N:=n.out.below nG;have c2:=cH.az.below cv.out nG br;have ad:Hid (OPk w6 wr.heap.size w6.heap.size ⟨no,L⟩ [.int .i64 no,.slice A8 L.length c8]):=ab ⟨_,rfl,bS,o8.ac6 bZ.out (by omega) λg hg=>(o8.at_ hg).2⟩;have b6:=ab a8;have k:=ab N;have dz:=ab c2;have zb:=N.bl.size;clear n nG o8 a8 N c2 cv aQ jM HR;go_wp2_with(at_builtin;refine mn ?_);refine⟨?_,trivial⟩;refine lF OPk.az (by decide) (v:=.slice Q o.length O) rfl (.tmp 35) (.tmp 42) 23 rfl lY ⟨no,L⟩ rfl k.out.op rfl b6.out rfl (by simp[Value.oneCell']) (show wr.heap.size<=w6.heap.size by omega) ad.out (am _) (by omega) (by omega) ?_;intro v9 Y o9 F c9;obtain⟨K,J,rfl⟩:=o9.form;rw[ap,oE] at o9;rw[ap,oE];have m:=k.out.op;have z9:=F.size;have bk:=k.out.gm1;have dX:=k.out.gm2;have q:=dG m F k.out.m (by decide);have dC:Y.cell? ⟨E,0,none⟩=some (.slice Q o.length O):=q.cell 0;have e1:=q.frozen 0;have lS:=q.bC 0 (.slice K (o.length+1) J);simp only[be,dk,dl] at lS;have a5:agp w (Y.setCell ⟨E,0,none⟩ (.slice K (o.length+1) J)) _ _ _ E (.slice K (o.length+1) J) (.slice As s.sn.length cs) (.slice Al s.lg.length cl) (o++[⟨no,L⟩]) s.sn s.lg (Y.setCell ⟨E,0,none⟩ (.slice K (o.length+1) J)).heap.size:=
     ⟨iT (dG m F k.out.k0 (by decide)) (p:=⟨E,0,none⟩) _ (by dsimp only;omega),iT (dG m F k.out.k1 (by decide)) (p:=⟨E,0,none⟩) _ (by dsimp only;omega),lS,
      by simp only[fd];exact cR gj.az o9 q (by decide) 0 _,
      by simp only[fd];exact gW.az.wide (cR gW.az (jw m F gW.az k.out.os (by decide)) q (by decide) 0 _) (am _) (by omega),
      by simp only[fd];exact gq.az.wide (cR gq.az (jw m F gq.az k.out.ol (by decide)) q (by decide) 0 _) (am _) (by omega),
      (k.out.bl.trans (F.below k.out.bl.size λi hi hs=>by have:=m.ob hs;omega)).setCell (by dsimp only;omega) _,bk,by simp only[fd];omega,am _⟩
    have d2:cH (Y.setCell ⟨E,0,none⟩ (.slice K (o.length+1) J)) 0 w5.heap.size (j.drop 4) _:=cR cH.az (jw m F cH.az dz.out (by decide)) q (by decide) 0 _;have a0:=ab a5;have d7:=ab d2;have dp:Hid (w5.heap.size<=(Y.setCell ⟨E,0,none⟩ (.slice K (o.length+1) J)).heap.size):=ab (by simp only[fd];omega);clear a5 d2 lS m q;go_wp2;go_roundw
    case rel=>exact⟨no+1,j.drop 4,o++[⟨no,L⟩],_,rfl,by rw[bj.out,HST.out,rY];rfl,by have:=bz.out;rw[ap,oE];omega,by have:=ds.out;rw[ap,oE];omega,by rw[ap,oE];omega,dp.out,by have:=d7.out;first|(simpa only[tA,uJ] using this)|(simp only[bv (show ¬cr=4 by omega),Addr.add] at this;simpa using this),dI.out,a0.out⟩
    simp[aAE];omega
  .have hz:j=[]:=pu.1 (by omega);subst hz;have eP:s.pk++fu key n0 pieces=o:=by rw[bj.out,iy,sM]
   have a6:afE key s t↔(o.length<=20/\no-1<=99/\s0<=20/\s.lg.length<9):=by
    refine an.out.trans ?_;rw[eP];have e:(o.length:Int)=s.pk.length+(fu key n0 pieces).length:=by rw[<-eP,ap];omega
    have:=bz.out;constructor
    .rintro⟨a1,a2,a3,a4⟩;exact⟨a1,by omega,a3,a4⟩
    .rintro⟨a1,a2,a3,a4⟩;exact⟨a1,by omega,a3,a4⟩
   have cZ:abf key s u t=⟨o,s.sn++[jS s0 key t],s.lg++[⟨u,s0⟩]⟩:=by rw[b8.out,eP]
   have b2:=ab a6;have dM:=ab cZ;have ew:o.length<=2000000:=by omega
   clear eP a6 cZ an b8 bj bz HR HP d5;have cm:=n.out.m.cell;have dv:=n.out.k0.cell;have bS:bX (no-1):=by unfold bX;omega
   unfold bX at bS;rcases(by omega:(o.length<=20/\no-1<=99/\s0<=20/\s.lg.length<9)\/¬o.length<=20\/(o.length<=20/\¬no-1<=99)\/(o.length<=20/\no-1<=99/\¬s0<=20)\/(o.length<=20/\no-1<=99/\s0<=20/\¬s.lg.length<9)) with hc|hc|hc|hc|hc
   .have t3:=da (show ¬((20:Int)<(o.length:Int)) by omega);have t4:=da (show ¬(99<no-1) by omega);have t5:=da (show ¬(20<s0) by omega);have t6:=da (show ¬((9:Int)<=(s.lg.length:Int)) by omega);have HY:=ab (b2.out.2 hc);clear hc;clear b2;go_wp2;have ct:=cm 1;have HC:=ab (λ(y:World) (hy:Below wr.heap.size wr y)=>apP (β:=β) s0 key HK.out (by unfold bX;omega) t ht.out (by omega) _ y bi mR (by have:=hy.size;have:=n.out.bl.size;omega) (fG.az.below h1 (ae n.out.bl hy) ca));have aG:=ag ct;refine aZ 7 [0,1,2,3,4] [5,6] (h:= ?_);simp only[pick,List.map,mx,mT];repeat(go_big_quiet_step (fail))
    refine gE ?_;clear aG;apply Exists.intro;apply dy (λv Z=>∃A c,v=.agg #[.int .i64 s0,.slice A (jS s0 key t).all.length c]/\gV Z wr.heap.size Z.heap.size (jS s0 key t).all [.slice A (jS s0 key t).all.length c])
    .rfl
    .exact λv x y ⟨A,c,e,h⟩ hle=>⟨A,c,e,gV.az.wide (gV.az.below h hle (am _)) (am _) hle.size⟩
    .intro x S Qx r;replace r:=ab r;clear S;go_wp2;refine(HC.out x.to x.ok).mono ?_;rintro e wy ⟨vy,rfl,oy,bp⟩;obtain⟨Ay,cy,rfl⟩:=oy.form;go_wp2;exact r.out _ _ bp ⟨_,_,rfl,gV.az.wide oy x.ok.size (am _)⟩
    intro u5;apply dy (λv Z=>∃g A c,v=.slice (some ⟨g,0,none⟩) 1 1/\cg Z g 35 #[.int .i64 s0,.slice A (jS s0 key t).all.length c]/\gV Z wr.heap.size Z.heap.size (jS s0 key t).all [.slice A (jS s0 key t).all.length c])
    .rfl
    .exact λv x y ⟨g,A,c,e,hk,h⟩ hle=>⟨g,A,c,e,ar hk hle,gV.az.wide (gV.az.below h hle (am _)) (am _) hle.size⟩
    .intro x S Qx r;replace r:=ab r;obtain⟨A5,c5,rfl,ho⟩:=S.1 (by kernel_rfl);go_wp2;have ba:=aC x.to (.cells #[.int .i64 s0,.slice A5 (jS s0 key t).all.length c5] 35);exact r.out _ _ ba ⟨_,_,_,rfl,cg.new _ _ _,gV.az.wide (gV.az.below ho ba (am _)) (am _) ba.size⟩
    intro u6;refine cV ?_;intro w6 nG xx je S;dsimp only[iv] at S;try rw[je] at S
    clear je xx;obtain⟨⟨g8,A8,c8,rfl,a8,o8⟩, -⟩:=S;simp only[List.drop];have z6:=nG.size;have N:=n.out.below nG;have ad:Hid (OSn w6 wr.heap.size w6.heap.size (jS s0 key t) [.int .i64 s0,.slice A8 (jS s0 key t).all.length c8]):=ab ⟨_,rfl,by show bX s0;unfold bX;omega,o8⟩;have b6:=ab a8;have k:=ab N;have zb:=N.bl.size;clear n nG o8 a8 N cm ct dv HC;go_wp2_with(at_builtin;refine mn ?_);refine⟨?_,trivial⟩;refine lF OSn.az (by decide) (v:=.slice As s.sn.length cs) rfl (.tmp 72) (.tmp 77) 24 rfl aog (jS s0 key t) rfl k.out.os rfl b6.out rfl (by simp[Value.oneCell']) (show wr.heap.size<=w6.heap.size by omega) ad.out (am _) (by omega) (by omega) ?_;intro v9 Y o9 F c9;obtain⟨K,J,rfl⟩:=o9.form;rw[ap,oE] at o9;rw[ap,oE];have m:=k.out.os;have z9:=F.size;have bk:=k.out.gm1;have dX:=k.out.gm2;have q:=dG m F k.out.m (by decide);have dC:Y.cell? ⟨E,1,none⟩=some (.slice As s.sn.length cs):=q.cell 1;have e1:=q.frozen 1;have lS:=q.bC 1 (.slice K (s.sn.length+1) J);simp only[be,dk,dl] at lS;have a5:agp w (Y.setCell ⟨E,1,none⟩ (.slice K (s.sn.length+1) J)) (.slice A s.pk.length a) (.slice B s.sn.length b) (.slice C s.lg.length c) E (.slice Q o.length O) (.slice K (s.sn.length+1) J) (.slice Al s.lg.length cl) o (s.sn++[jS s0 key t]) s.lg (Y.setCell ⟨E,1,none⟩ (.slice K (s.sn.length+1) J)).heap.size:=
     ⟨iT (dG m F k.out.k0 (by decide)) (p:=⟨E,1,none⟩) _ (by dsimp only;omega),iT (dG m F k.out.k1 (by decide)) (p:=⟨E,1,none⟩) _ (by dsimp only;omega),lS,
      by simp only[fd];exact gj.az.wide (cR gj.az (jw m F gj.az k.out.op (by decide)) q (by decide) 1 _) (am _) (by omega),
      by simp only[fd];exact cR gW.az o9 q (by decide) 1 _,
      by simp only[fd];exact gq.az.wide (cR gq.az (jw m F gq.az k.out.ol (by decide)) q (by decide) 1 _) (am _) (by omega),
      (k.out.bl.trans (F.below k.out.bl.size λi hi hs=>by have:=m.ob hs;omega)).setCell (by dsimp only;omega) _,bk,by simp only[fd];omega,am _⟩
    have a0:=ab a5;clear a5 m q;have cO:=lS.cell;clear lS o9 F c9 k ad b6;go_wp2_with(at_builtin;refine mn ?_);refine⟨?_,trivial⟩;obtain⟨U,bO⟩:∃U,U=Y.setCell ⟨E,1,none⟩ (.slice K (s.sn.length+1) J):=⟨_,rfl⟩;have c0:U.heap.size=Y.heap.size:=by rw[bO];simp only[fd]
    have e3:w6.heap.size<=U.heap.size:=by rw[c0];exact z9
    rw[<-bO] at a0 cO ⊢;clear bO;generalize hG:U.alloc (.cells #[.int .i64 u,.int .i64 s0] 88)=w11 at *;obtain⟨aV,en,q0,d8,d4⟩:=gU hG;clear hG;rw[c0] at q0;clear c0;have G:=a0.out.below aV;have m:=G.ol;refine lF (bR.az FHd) (by decide) (v:=.slice Al s.lg.length cl) rfl (.tmp 81) (.tmp 85) 25 rfl aoe (⟨u,s0⟩:Hd) rfl m rfl q0 rfl (by simp[Value.oneCell']) (show U.heap.size<=w11.heap.size from aV.size) ⟨rfl,bo.out,by show bX s0;unfold bX;omega⟩ (am _) (by omega) (by omega) ?_;intro ey a9 V M dn;obtain⟨I,H,rfl⟩:=V.form;rw[ap,oE] at V;rw[ap,oE];have R:=dG m M G.m (by decide);have W:=dG m M G.k1 (by decide);have eo:=R.cell;have ev:=R.frozen;have ec:=W.cell;have e8:=W.frozen;have af:=jw m M gj.az G.op (by decide);have aa:=jw m M gW.az G.os (by decide);have bb:Below w.heap.size w a9:=G.bl.trans (M.below G.bl.size λi hi hs=>by have:=m.ob hs;omega);have el:=M.size;have ez:=aV.size;have HF:=ab (And.intro af (And.intro aa (And.intro V (And.intro bb (And.intro R W)))));clear af aa V bb R W m G a0 cO aV q0 d8 d4 M dn;go_wp2;obtain⟨af,aa,V,bb,R,W⟩:=HF.out;have ex:=R.bC 2 (.slice I (s.lg.length+1) H);have ay:=iT W (p:=⟨E,2,none⟩) (.slice I (s.lg.length+1) H) (by dsimp only;omega);have k4:=((ay.bC 0 (.slice Q o.length O)).bC 1 (.slice K (s.sn.length+1) J)).bC 2 (.slice I (s.lg.length+1) H);simp only[be,dk,dl] at k4;have bn:=k4.cell;have bl:∀{β:Type} {D:gR β} {T:List TypeId} {y:β} {cs:List Value},eK D T->27∉T->D a9 w.heap.size a9.heap.size y cs->D ((((a9.setCell ⟨E,2,none⟩ (.slice I (s.lg.length+1) H)).setCell ⟨w.heap.size+1,0,none⟩ (.slice Q o.length O)).setCell ⟨w.heap.size+1,1,none⟩ (.slice K (s.sn.length+1) J)).setCell ⟨w.heap.size+1,2,none⟩ (.slice I (s.lg.length+1) H)) w.heap.size ((((a9.setCell ⟨E,2,none⟩ (.slice I (s.lg.length+1) H)).setCell ⟨w.heap.size+1,0,none⟩ (.slice Q o.length O)).setCell ⟨w.heap.size+1,1,none⟩ (.slice K (s.sn.length+1) J)).setCell ⟨w.heap.size+1,2,none⟩ (.slice I (s.lg.length+1) H)).heap.size y cs:=λ{_ _ _ _ _} hD hT hy=>by
     simp only[fd];exact cR hD (cR hD (cR hD (cR hD hy R hT 2 _) ay hT 0 _) (ay.bC 0 _) hT 1 _) ((ay.bC 0 _).bC 1 _) hT 2 _
    refine oR (v:=.tuple #[.agg #[.slice Q o.length O,.slice K (s.sn.length+1) J,.slice I (s.lg.length+1) H],.bool true]) (by simp[results,results61,go_sem,bn]) rfl ⟨_,_,_,true,abf key s u t,rfl, ?_,.inl ⟨rfl,HY.out,rfl⟩,(((bb.setCell (by dsimp only;omega) _).setCell (by simp) _).setCell (by simp) _).setCell (by simp) _⟩;rw[dM.out];exact⟨bl gj.az (by decide) (gj.az.wide af (am _) (by omega)),bl gW.az (by decide) (gW.az.wide aa (am _) (by omega)),bl gq.az (by decide) V⟩
   all_goals
    have HN:Hid (¬afE key s t):=ab λh=>by have:=b2.out.1 h;omega
    first|have t3:=de (show(20:Int)<(o.length:Int) by omega)|have t3:=da (show ¬((20:Int)<(o.length:Int)) by omega)
    first|have t4:=de (show 99<no-1 by omega)|(try have t4:=da (show ¬(99<no-1) by omega))
    first|have t5:=de (show 20<s0 by omega)|(try have t5:=da (show ¬(20<s0) by omega))
    try have t6:=de (show(9:Int)<=(s.lg.length:Int) by omega)
    clear hc;clear b2;go_wp2;have d0:=h.below n.out.bl bE;refine(adH s _ _ _ wr lo hi d0.l (by have:=n.out.bl.size;omega) (by omega)).mono ?_;rintro e w7 ⟨v1,v2,v3,rfl,oc,b7⟩;obtain⟨A1,cx,rfl⟩:=oc.pk.form;obtain⟨A2,cc,rfl⟩:=oc.sn.form;obtain⟨A3,cC,rfl⟩:=oc.lg.form;have kr:=ar n.out.k1 b7;have em:=kr.cell;have e7:=kr.frozen;have z7:=n.out.bl.size;have e2:=ae n.out.bl b7;clear cm dv d0;go_wp2;have k4:=((kr.bC 0 (.slice A1 s.pk.length cx)).bC 1 (.slice A2 s.sn.length cc)).bC 2 (.slice A3 s.lg.length cC);simp only[be,dk,dl] at k4;have bn:=k4.cell;refine oR (v:=.tuple #[.agg #[.slice A1 s.pk.length cx,.slice A2 s.sn.length cc,.slice A3 s.lg.length cC],.bool false]) (by simp[results,results61,go_sem,bn]) rfl ⟨_,_,_,false,s,rfl, ?_,.inr ⟨rfl,HN.out,rfl⟩,((e2.setCell (by simp) _).setCell (by simp) _).setCell (by simp) _⟩;simp only[fd];have e5:=n.out.k1.lt;exact oc.go (λb eQ e6=>by
     have bc:b≠w.heap.size+1:=by omega
     rw[qw _ _ _ _ bc,qw _ _ _ _ bc,qw _ _ _ _ bc]) (by omega) (am _)
end
section
variable {β:Bool}
open Go.RowKit
inductive eC:dJ->Prop
 |nil:eC ⟨[],[],[]⟩
 |save {s:dJ} {b:Int} {t:List Nd}:eC s->b=1\/b=2->kC t->afE 7 s t->eC (abf 7 s b t)
structure WfS (s:dJ):Prop where
 pl:s.pk.length<=20
 pn:∀p∈s.pk,(1<=p.no/\p.no<=99)/\p.its.length<=4/\∀x∈p.its,x.b.size<=8
 sl:s.sn.length=s.lg.length
 sn:∀x∈s.sn,(1<=x.no/\x.no<=20)/\x.all.length<=6/\∀y∈x.all,y.p.size<=3/\y.ns.length<=40
 ll:s.lg.length<=9
 lg:∀h∈s.lg,(1<=h.b/\h.b<=2)/\1<=h.s/\h.s<=20
def jy(key:Int):∀(n:Nat) (no:Int) (l:List ByteArray),l.length<=n->∀p∈fu key no l,no<=p.no/\p.no<no+(fu key no l).length/\∃c:List ByteArray,p.its=gu key c/\1<=c.length/\c.length<=4/\∀x∈c,x∈l
 |0,no,l,h,p,a=>by rw[pu.1 (by omega:l.length=0),iy] at a;cases a
 |n+1,no,l,h,p,a=>by
  rcases nf l.length with d|d
  .rw[pu.1 d,iy] at a;cases a
  .rw[mo key no d] at a ⊢;rw[fi];rcases me.1 a with rfl|a
   .exact⟨um _,by show no<_;omega,l.take 4,rfl,by rw[ff];omega,by rw[ff];omega,λx b=>oS b⟩
   .obtain⟨k,j,c,e,g,i,f⟩:=jy key n (no+1) (l.drop 4) (by rw[pi];omega) p a;exact⟨by omega,by omega,c,e,g,i,λx b=>rT (f x b)⟩
def amk{l:List Pk}(h:∀p∈l,1<=p.no):1<=eU l:=by
 unfold eU;cases a:l.getLast? with
 |none=>show(1:Int)<=0+1;omega
 |some p=>have:=h p (vY a);show(1:Int)<=p.no+1;omega
def adJ:∀(l:List Hd) (a:Int),1<=a->1<=l.foldl (λa h=>max a (h.s+1)) a
 |[],a,ha=>ha
 |x::l,a,ha=>adJ l (max a (x.s+1)) (by omega)
def aml(s:dJ):1<=dZ s:=by
 have a:1<=fU s.lg:=adJ s.lg 1 (by omega);unfold dZ;cases s.sn.getLast? with
 |none=>exact a
 |some x=>show 1<=max (fU s.lg) (x.no+1);omega
def ajZ(h:aR (bs s)):(iW key s).b.size<=8:=by
 show(qU (fE (bs s))).size<=8;rw[<-aM,ah8,afc h];exact na.1
def aao{t:List Nd}(h:kC t):∀x∈t,dE x.b=true:=λx a=>(h.1 x a).2
def WfS.saved{s:dJ}{b:Int}{t:List Nd}(h:WfS s)(D:b=1\/b=2)(j:kC t)(A:afE 7 s t):WfS (abf 7 s b t):=by
 obtain⟨r,F,n,E⟩:=A;have i:=aml s;refine⟨r,λp d=> ?_, ?_,λx a=> ?_, ?_,λy g=> ?_⟩
 .rcases io.1 d with d|d
  .exact h.pn p d
  .obtain⟨k,o,c,m,v,w,B⟩:=jy 7 _ _ _ (am _) p d;have C:=amk (l:=s.pk) λp d=>(h.pn p d).1.1;refine⟨⟨by omega, ?_⟩,by rw[m,aan];exact w,λx a=> ?_⟩
   .have e:(ac8 7 s t).length=(fu 7 (eU s.pk) (aax 7 (nV s.pk) t)).length:=rfl;omega
   .rw[m] at a;obtain⟨q,u,rfl⟩:=ac7.1 a;exact ajZ (lB (aao j) q (B q u))
 .show(s.sn++[_]).length=(s.lg++[_]).length;rw[ap,ap,h.sl];rfl
 .rcases io.1 a with a|a
  .exact h.sn x a
  .rw[ge.1 a];refine⟨⟨i,n⟩,by show(t.map (fT 7)).length<=6;rw[pZ];exact j.2.1,λy g=> ?_⟩;obtain⟨f,z,rfl⟩:=mc.1 g;have k:=j.1 f z;have o:=ly k.1;have m:=ace f.b;have v:=(fM k.2).1;exact⟨by show f.p.size<=3;omega,by show((fY f.b).map _).length<=40;rw[pZ];omega⟩
 .show(s.lg++[_]).length<=9;rw[ap,oE];omega
 .rcases io.1 g with g|g
  .exact h.lg y g
  .rw[ge.1 g];exact⟨by show 1<=b/\b<=2;omega,i,n⟩
def eC.wf{s:dJ}(h:eC s):WfS s:=by
 induction h with
 |nil=>exact⟨fa _,λp a=>(by cases a),rfl,λp a=>(by cases a),fa _,λp a=>(by cases a)⟩
 |save _ e d c b=>exact b.saved e d c
def iX{a:Type}{f:a->Nat}{b:Nat}:∀{l:List a},(∀x∈l,f x<=b)->dY f l<=l.length*(b+1)
 |[],_=>mu (sA _).symm
 |x::l,h=>by
  have g:=h x (by simp);have d:=iX (f:=f) (b:=b) (l:=l) λy c=>h y (by simp[c]);have e:dY f (x::l)=dY f l+1+f x:=by unfold dY;simp only[fi,qK,tk];omega
  rw[e,fi,rE];omega
def WfS.small{s:dJ}(h:WfS s):amf 1000000 s:=⟨λp a=>by have:=(h.pn p a).1;omega,λx c=>by have:=(h.sn x c).1;omega,λy b=>by have:=(h.lg y b).2;omega⟩
def aj0:∀l:List Pk,(∀p∈l,p.its.length<=4)->(dr l).length<=l.length*4
 |[],_=>fa _
 |p::l,hl=>by
  have b:=aj0 l λq a=>hl q (by simp[a]);have d:=hl p (by simp);show(pK p++dr l).length<=_;have c:(pK p).length=p.its.length:=pZ _;rw[ap,fi,rE];omega
def WfS.dr{s:dJ}(h:WfS s):(dr s.pk).length<=10000:=by
 have b:=aj0 s.pk λp a=>(h.pn p a).2.1;have:=h.pl;omega
def WfS.axZ{s:dJ}(h:WfS s):ae3 s<=10000:=by
 have e:dY bPk s.pk<=s.pk.length*(36+1):=iX λp b=>by
  have c:dY bIt p.its<=p.its.length*(8+1):=iX λx a=>(h.pn p b).2.2 x a;have:=(h.pn p b).2.1;show dY bIt p.its<=36;omega
 have f:dY bSn s.sn<=s.sn.length*(264+1):=iX λx a=>by
  have c:dY bLs x.all<=x.all.length*(43+1):=iX λy d=>by
   have:=(h.sn x a).2.2 y d;show y.p.size+y.ns.length<=43;omega
  have:=(h.sn x a).2.1;show dY bLs x.all<=264;omega
 have:=h.pl;have:=h.sl;have:=h.ll;unfold ae3;omega
end
section
variable {β:Bool}
open Go.RowKit
def mr(l:List Int)(g p lo hi:Nat)(w:World)(u:Rd w lo hi g l p)(x:p<=100000) :
  Calls (ai β) 63 #[.pointer (some ⟨g,0,none⟩)] w (apH w lo hi g l p):=by
 go_enter zu,ntmps63;go_wp2;refine(cF _ _ _ _ _ _ 40 u (by omega)).mono ?_;rintro e a ⟨m,rfl,⟨_,v⟩,q,o⟩;clear v;by_cases r:m=0
 .have s:(m ==0)=true:=mt.2 r;clear r;go_wp2;have rl:cH (a.alloc (.cells #[.string ⟨#[]⟩,.string ⟨#[102]⟩,.string ⟨#[97,47]⟩,.string ⟨#[97,98]⟩,.string ⟨#[97,47,98,47,99]⟩,.string ⟨#[47,97]⟩] 9)) a.heap.size (a.alloc (.cells #[.string ⟨#[]⟩,.string ⟨#[102]⟩,.string ⟨#[97,47]⟩,.string ⟨#[97,98]⟩,.string ⟨#[97,47,98,47,99]⟩,.string ⟨#[47,97]⟩] 9)).heap.size [⟨#[]⟩,⟨#[102]⟩,⟨#[97,47]⟩,⟨#[97,98]⟩,⟨#[97,47,98,47,99]⟩,⟨#[47,97]⟩] [.slice (some ⟨a.heap.size,0,none⟩) 6 6]:=
   (aD.deep (F:=ib) (aep (F:=ib) (cg.new a 9 #[.string ⟨#[]⟩,.string ⟨#[102]⟩,.string ⟨#[97,47]⟩,.string ⟨#[97,98]⟩,.string ⟨#[97,47,98,47,99]⟩,.string ⟨#[47,97]⟩]) rfl (am _) rfl (by simp[maxLen])) (abd (by decide)) a.heap.size).sl (am _)
  have n:=(q).alloc (.cells #[.string ⟨#[]⟩,.string ⟨#[102]⟩,.string ⟨#[97,47]⟩,.string ⟨#[97,98]⟩,.string ⟨#[97,47,98,47,99]⟩,.string ⟨#[47,97]⟩] 9);have f:=(o).alloc (.cells #[.string ⟨#[]⟩,.string ⟨#[102]⟩,.string ⟨#[97,47]⟩,.string ⟨#[97,98]⟩,.string ⟨#[97,47,98,47,99]⟩,.string ⟨#[47,97]⟩] 9);generalize (a).alloc (.cells #[.string ⟨#[]⟩,.string ⟨#[102]⟩,.string ⟨#[97,47]⟩,.string ⟨#[97,98]⟩,.string ⟨#[97,47,98,47,99]⟩,.string ⟨#[47,97]⟩] 9)=w3 at *;refine(al0 _ (by simp) _ _ _ _ _ _ _ _ w3 n (by omega) rl).mono ?_;rintro e t ⟨k,b,rfl,d,c⟩;have j:(k).size<=9:=aio (by decide) k b;replace f:=(f).trans c λi _ e=>e;clear b rl;go_wp2;go_ret;exact⟨k,_,rfl,j,d,by omega,f⟩
 .have s:(m ==0)=false:=du.2 r;clear r;go_wp2;have rl:cH (a.alloc (.cells #[.string ⟨#[97]⟩,.string ⟨#[98]⟩,.string ⟨#[99,47,97]⟩,.string ⟨#[99,47,98]⟩,.string ⟨#[100,47,97]⟩,.string ⟨#[101]⟩,.string ⟨#[97,47,98]⟩,.string ⟨#[100]⟩] 9)) a.heap.size (a.alloc (.cells #[.string ⟨#[97]⟩,.string ⟨#[98]⟩,.string ⟨#[99,47,97]⟩,.string ⟨#[99,47,98]⟩,.string ⟨#[100,47,97]⟩,.string ⟨#[101]⟩,.string ⟨#[97,47,98]⟩,.string ⟨#[100]⟩] 9)).heap.size [⟨#[97]⟩,⟨#[98]⟩,⟨#[99,47,97]⟩,⟨#[99,47,98]⟩,⟨#[100,47,97]⟩,⟨#[101]⟩,⟨#[97,47,98]⟩,⟨#[100]⟩] [.slice (some ⟨a.heap.size,0,none⟩) 8 8]:=
   (aD.deep (F:=ib) (aep (F:=ib) (cg.new a 9 #[.string ⟨#[97]⟩,.string ⟨#[98]⟩,.string ⟨#[99,47,97]⟩,.string ⟨#[99,47,98]⟩,.string ⟨#[100,47,97]⟩,.string ⟨#[101]⟩,.string ⟨#[97,47,98]⟩,.string ⟨#[100]⟩]) rfl (am _) rfl (by simp[maxLen])) (abd (by decide)) a.heap.size).sl (am _)
  have n:=(q).alloc (.cells #[.string ⟨#[97]⟩,.string ⟨#[98]⟩,.string ⟨#[99,47,97]⟩,.string ⟨#[99,47,98]⟩,.string ⟨#[100,47,97]⟩,.string ⟨#[101]⟩,.string ⟨#[97,47,98]⟩,.string ⟨#[100]⟩] 9);have f:=(o).alloc (.cells #[.string ⟨#[97]⟩,.string ⟨#[98]⟩,.string ⟨#[99,47,97]⟩,.string ⟨#[99,47,98]⟩,.string ⟨#[100,47,97]⟩,.string ⟨#[101]⟩,.string ⟨#[97,47,98]⟩,.string ⟨#[100]⟩] 9);generalize (a).alloc (.cells #[.string ⟨#[97]⟩,.string ⟨#[98]⟩,.string ⟨#[99,47,97]⟩,.string ⟨#[99,47,98]⟩,.string ⟨#[100,47,97]⟩,.string ⟨#[101]⟩,.string ⟨#[97,47,98]⟩,.string ⟨#[100]⟩] 9)=w3 at *;refine(al0 _ (by simp) _ _ _ _ _ _ _ _ w3 n (by omega) rl).mono ?_;rintro e t ⟨k,b,rfl,d,c⟩;have j:(k).size<=9:=aio (by decide) k b;replace f:=(f).trans c λi _ e=>e;clear b rl;go_wp2;go_ret;exact⟨k,_,rfl,j,d,by omega,f⟩
def asg(w:World)(lo hi g:Nat)(l:List Int)(p:Nat)(e:Ending)(w':World):Prop:=∃s q,e=.returned (.string s)/\s.size<=1000/\Rd w' lo hi g l q/\q<=p+30/\bV (λb=>b=g) w w'
def acm(a b:ByteArray):(a++b).size=a.size+b.size:=by rw[<-aM,gG,ap,aM,aM]
def ash(w:World)(n:Int):∃t:ByteArray,t.size=1/\Sem.run (ai β) (convert 22 9 (.slice (some ⟨w.heap.size,0,none⟩) 1 1)) (w.alloc (.cells #[.int .u8 n] 5))=.ok (.string t) (w.alloc (.cells #[.int .u8 n] 5)):=by
 refine⟨([n].foldl (λr n=>r.push (UInt8.ofNat n.toNat)) ByteArray.empty),rfl, ?_⟩;rw[run_convert_bytes_string _ _ _ 5 _ _ _ wI qU5 qU9];refine run_bytesToString _ _ 1 1 [n] ?_;have c:=(cg.new w 5 #[.int .u8 n]).cell 0;refine run_loadCells_list (a:=⟨w.heap.size,0,none⟩) (cs:=[.int .u8 n]) (w:=w.alloc (.cells #[.int .u8 n] 5)) (P:=(ai β)) (λj v b=> ?_)
 match j,b with
 |0,b=>
  cases b;exact c
def adK(l:List Int)(g p lo hi:Nat)(w:World)(hr:Rd w lo hi g l p)(hp:p<=100000) :
  Calls (ai β) 64 #[.pointer (some ⟨g,0,none⟩)] w (asg w lo hi g l p):=by
 go_enter zt,ntmps64;go_wp2;refine(cF _ _ _ _ _ _ 5 hr (by omega)).mono ?_;rintro e w2 ⟨m,rfl,⟨_,hm⟩,Q,T⟩;have al:=hm (by omega);obtain⟨mm,rfl⟩:=qu (show 0<=m by omega);clear hm;go_wp2;go_loopw [3,4] (λtt G wr=>∃(j q:Nat) (x:ByteArray),j<=4/\G=.int .i64 j/\tt=.string x/\x.size+9*j<=36/\Rd wr lo hi g l q/\q+j<=p+5/\bV (λb=>b=g) w wr) (λ_ G _=>(intOf G).toNat)
 case atStart=>exact⟨mm,_,⟨#[]⟩,by omega,rfl,rfl,by show 0+_<=_;omega,Q,by omega,T⟩
 case round=>
  clear Q T;obtain⟨j,q,x,hj,rfl,rfl,hx,rd,U⟩:=hrel;obtain⟨ao,U⟩:=U;by_cases h0:j=0
  .subst h0;go_wp2;refine(cF _ _ _ _ _ _ 4 rd (by omega)).mono ?_;rintro e w3 ⟨m2,rfl,⟨_,a6⟩,r,A⟩;clear a6;have I:=U.trans A λi _ e=>e;have a4:x.size<=60:=by omega
   have af:x.size<=36:=by omega
   clear rd A hx;by_cases W:m2=0
   .have t1:(m2 ==0)=true:=mt.2 W;clear W;go_wp2;refine(cF _ _ _ _ _ _ 12 r (by omega)).mono ?_;rintro e w5 ⟨m5,rfl,⟨_,N⟩,K,R⟩;have a8:=N (by omega);obtain⟨n5,rfl⟩:=qu (show 0<=m5 by omega);have S:=I.trans R λi _ e=>e;clear N R I r;go_wp2;go_loopw [3,5] (λtt G wr=>∃(j V:Nat) (y:ByteArray),j<=11/\G=.int .i64 j/\tt=.string y/\y.size+j<=47/\Rd wr lo hi g l V/\V+j<=p+18/\bV (λb=>b=g) w wr) (λ_ G _=>(intOf G).toNat)
    case atStart=>exact⟨n5,_,x,by omega,rfl,rfl,by omega,K,by omega,S⟩
    case round=>
     clear K S;obtain⟨j,V,y,f,rfl,rfl,hy,E,aa,C⟩:=hrel;by_cases O:j=0
     .subst O;have a3:y.size<=60:=by omega
      clear hy;have a2:V<=p+20:=by omega
      by_cases a5:40<(y).size
      case' pos=>
       have t4:=de (show(40:Int)<((y).size:Int) by omega);have g2:(40:Int)<=((y).size:Int):=by omega
       obtain⟨z,n,o⟩:∃z,z=(y).extract 0 40/\z.size=40:=⟨_,rfl,by rw[afs _ (by omega)]⟩;have P:=ab n;go_wp2;rw[<-P.out];clear n P
      case' neg=>
       have t4:=da (show ¬((40:Int)<((y).size:Int)) by omega);go_wp2;have o:=a3;obtain⟨z,n⟩:∃z,z=y:=⟨_,rfl⟩;rw[<-n] at o ⊢;clear n
      all_goals
       refine(cF _ _ _ _ _ _ 60 E (by omega)).mono ?_;rintro e X ⟨d,rfl,⟨_,D⟩,a,s⟩;have c:=(C).trans s λi _ e=>e;clear D s;by_cases k:d=0
       .have t5:(d ==0)=true:=mt.2 k;clear k;go_wp2;go_ret;exact⟨_,_,rfl,by rw[acm];have:(⟨#[65]⟩:ByteArray).size=1:=rfl;omega,a,by omega,c⟩
       .have t5:(d ==0)=false:=du.2 k;by_cases u:d=1
        .have t6:(d ==1)=true:=mt.2 u;clear k u;go_wp2;refine(afl ⟨#[97,98,99,100,101]⟩ 9 (by decide) (by decide) (by decide) X).mono ?_;rintro e w5 ⟨⟨t,rfl,ht⟩,rfl⟩;go_wp2;go_ret;exact⟨t,_,rfl,by omega,a,by omega,c⟩
        .have t6:(d ==1)=false:=du.2 u;clear k u;go_wp2;go_ret;exact⟨_,_,rfl,by omega,a,by omega,c⟩
     .have t7:=de (show(0:Int)<(j:Int) by omega);obtain⟨B,H⟩:∃y,y=j-1:=⟨_,rfl⟩;have e7:(j:Int)-1=((B:Nat):Int):=by omega
      have iu:0<(j:Int):=by omega
      have f:j=B+1:=by omega
      clear H O;have v:=ab f;clear f;go_wp2;refine(cF _ _ _ _ _ _ 26 E (by omega)).mono ?_;rintro e w7 ⟨m7,rfl,⟨_,L⟩,Y,M⟩;have ax:=L (by omega);have a7:=C.trans M λi _ e=>e;clear L M C E;have a1:=Y.alloc (.cells #[.int .u8 (97+m7)] 5);have a0:=a7.alloc (.cells #[.int .u8 (97+m7)] 5);obtain⟨t,ht,ad⟩:=ash (β:=β) w7 (97+m7);go_wp2;go_roundw
      case rel=>exact⟨B,_,y++t,by have:=v.out;omega,rfl,rfl,by rw[acm,ht];have:=v.out;omega,a1,by have:=v.out;omega,a0⟩
      simp[intOf];have:=v.out;omega
   .have t1:(m2 ==0)=false:=du.2 W;clear W;have a2:q+1<=p+20:=by omega
    by_cases a5:40<(x).size
    case' pos=>
     have t4:=de (show(40:Int)<((x).size:Int) by omega);have g2:(40:Int)<=((x).size:Int):=by omega
     obtain⟨z,n,o⟩:∃z,z=(x).extract 0 40/\z.size=40:=⟨_,rfl,by rw[afs _ (by omega)]⟩;have P:=ab n;go_wp2;rw[<-P.out];clear n P
    case' neg=>
     have t4:=da (show ¬((40:Int)<((x).size:Int)) by omega);go_wp2;have o:=a4;obtain⟨z,n⟩:∃z,z=x:=⟨_,rfl⟩;rw[<-n] at o ⊢;clear n
    all_goals
     refine(cF _ _ _ _ _ _ 60 r (by omega)).mono ?_;rintro e X ⟨d,rfl,⟨_,D⟩,a,s⟩;have c:=(I).trans s λi _ e=>e;clear D s;by_cases k:d=0
     .have t5:(d ==0)=true:=mt.2 k;clear k;go_wp2;go_ret;exact⟨_,_,rfl,by rw[acm];have:(⟨#[65]⟩:ByteArray).size=1:=rfl;omega,a,by omega,c⟩
     .have t5:(d ==0)=false:=du.2 k;by_cases u:d=1
      .have t6:(d ==1)=true:=mt.2 u;clear k u;go_wp2;refine(afl ⟨#[97,98,99,100,101]⟩ 9 (by decide) (by decide) (by decide) X).mono ?_;rintro e w5 ⟨⟨t,rfl,ht⟩,rfl⟩;go_wp2;go_ret;exact⟨t,_,rfl,by omega,a,by omega,c⟩
      .have t6:(d ==1)=false:=du.2 u;clear k u;go_wp2;go_ret;exact⟨_,_,rfl,by omega,a,by omega,c⟩
  .have t1:=de (show(0:Int)<(j:Int) by omega);have an:x.size<=36:=by omega
   obtain⟨B,H⟩:∃y,y=j-1:=⟨_,rfl⟩;have u:(j:Int)-1=((B:Nat):Int):=by omega
   have iu:0<(j:Int):=by omega
   have f:j=B+1:=by omega
   clear H h0;have v:=ab f;clear f;go_wp2;have rl:cH (wr.alloc (.cells #[.string ⟨#[97,98,99]⟩,.string ⟨#[104,101,108,108,111]⟩,.string ⟨#[119,111,114,108,100]⟩,.string ⟨#[97,97,97,97]⟩,.string ⟨#[107,101,101,112]⟩,.string ⟨#[122,122]⟩,.string ⟨#[98,97,99,107,117,112]⟩,.string ⟨#[113]⟩] 9)) wr.heap.size (wr.alloc (.cells #[.string ⟨#[97,98,99]⟩,.string ⟨#[104,101,108,108,111]⟩,.string ⟨#[119,111,114,108,100]⟩,.string ⟨#[97,97,97,97]⟩,.string ⟨#[107,101,101,112]⟩,.string ⟨#[122,122]⟩,.string ⟨#[98,97,99,107,117,112]⟩,.string ⟨#[113]⟩] 9)).heap.size [⟨#[97,98,99]⟩,⟨#[104,101,108,108,111]⟩,⟨#[119,111,114,108,100]⟩,⟨#[97,97,97,97]⟩,⟨#[107,101,101,112]⟩,⟨#[122,122]⟩,⟨#[98,97,99,107,117,112]⟩,⟨#[113]⟩] [.slice (some ⟨wr.heap.size,0,none⟩) 8 8]:=
    (aD.deep (F:=ib) (aep (F:=ib) (cg.new wr 9 #[.string ⟨#[97,98,99]⟩,.string ⟨#[104,101,108,108,111]⟩,.string ⟨#[119,111,114,108,100]⟩,.string ⟨#[97,97,97,97]⟩,.string ⟨#[107,101,101,112]⟩,.string ⟨#[122,122]⟩,.string ⟨#[98,97,99,107,117,112]⟩,.string ⟨#[113]⟩]) rfl (am _) rfl (by simp[maxLen])) (abd (by decide)) wr.heap.size).sl (am _)
   have r:=(rd).alloc (.cells #[.string ⟨#[97,98,99]⟩,.string ⟨#[104,101,108,108,111]⟩,.string ⟨#[119,111,114,108,100]⟩,.string ⟨#[97,97,97,97]⟩,.string ⟨#[107,101,101,112]⟩,.string ⟨#[122,122]⟩,.string ⟨#[98,97,99,107,117,112]⟩,.string ⟨#[113]⟩] 9);have lz:=(U).alloc (.cells #[.string ⟨#[97,98,99]⟩,.string ⟨#[104,101,108,108,111]⟩,.string ⟨#[119,111,114,108,100]⟩,.string ⟨#[97,97,97,97]⟩,.string ⟨#[107,101,101,112]⟩,.string ⟨#[122,122]⟩,.string ⟨#[98,97,99,107,117,112]⟩,.string ⟨#[113]⟩] 9);generalize (wr).alloc (.cells #[.string ⟨#[97,98,99]⟩,.string ⟨#[104,101,108,108,111]⟩,.string ⟨#[119,111,114,108,100]⟩,.string ⟨#[97,97,97,97]⟩,.string ⟨#[107,101,101,112]⟩,.string ⟨#[122,122]⟩,.string ⟨#[98,97,99,107,117,112]⟩,.string ⟨#[113]⟩] 9)=w3 at *;refine(al0 _ (by simp) _ _ _ _ _ _ _ _ w3 r (by omega) rl).mono ?_;rintro e v3 ⟨s3,J,rfl,Z,A⟩;have a9:(s3).size<=9:=aio (by decide) s3 J;replace lz:=(lz).trans A λi _ e=>e;clear J rl;go_wp2;go_roundw
   case rel=>exact⟨B,_,x++s3,by have:=v.out;omega,rfl,rfl,by rw[acm];have:=v.out;omega,Z,by have:=v.out;omega,lz⟩
   simp[intOf];have:=v.out;omega
end
section
variable {β:Bool}
open Go.RowKit
def apV(w:World)(lo hi g:Nat)(l:List Int)(p:Nat)(e:Ending)(w':World):Prop:=∃v a q,e=.returned v/\aD nz 122 w' w.heap.size v a/\(∀y∈a,nz.good y)/\a.length<=7/\Rd w' lo hi g l q/\q<=p+300/\bV (λb=>b=g) w w'
def aj1(l:List Int)(g p lo hi:Nat)(w:World)(hr:Rd w lo hi g l p)(hp:p<=50000) :
  Calls (ai β) 93 #[.pointer (some ⟨g,0,none⟩)] w (apV w lo hi g l p):=by
 have ax:=hr.lt;go_enter zd,ntmps93;go_wp2;have U:=hr.alloc (.cells #[] 122);have E:=(bV.refl (λb=>b=g) w).alloc (.cells #[] 122);have I:aD nz 122 (w.alloc (.cells #[] 122)) w.heap.size (.slice (some ⟨w.heap.size,0,none⟩) 0 0) []:=(dW.new w 122 (am _)).own 2;generalize w.alloc (.cells #[] 122)=w0 at *;refine(cF _ _ _ _ _ _ 6 U (by omega)).mono ?_;rintro e w1 ⟨m,rfl,⟨_,hm⟩,a2,H⟩;have ay:=hm (by omega);obtain⟨mm,rfl⟩:=qu (show 0<=m by omega);have Y:=I.fP H λb x e=>by have:=(I.at_ x).1;omega
 replace E:=E.trans H λi _ e=>e;clear hm U H I;go_wp2;go_loopw [3,4] (λtt jj wr=>∃(j q:Nat) (o:List Nd),j<=5/\jj=.int .i64 j/\aD nz 122 wr w.heap.size tt o/\kC o/\Rd wr lo hi g l q/\q+40*j<=p+201/\bV (λb=>b=g) w wr) (λ_ jj _=>(intOf jj).toNat)
 case atStart=>exact⟨mm,_,[],by omega,rfl,Y,kC.nil,a2,by omega,E⟩
 case round=>
  clear Y a2 E;obtain⟨j,q,o,hj,rfl,K,L,rd,hq,R⟩:=hrel;obtain⟨A,c,rfl⟩:=K.form;replace L:=ab L;have ao:=R.size;by_cases h0:j=0
  .subst h0;have B:=ab (aak L.out);have af:o.length<=6:=L.out.2.1;go_wp2;refine(cF _ _ _ _ _ _ 40 rd (by omega)).mono ?_;rintro e N ⟨O,rfl,⟨_,a9⟩,a,n⟩;have r:=K.fP n λb x e=>by have:=(K.at_ x).1;omega
   have d:=R.trans n λi _ e=>e;clear a9 rd K n R;by_cases Q:O=0
   .have t5:(O ==0)=true:=mt.2 Q;clear Q;go_wp2;refine(mr l g (q+1) lo hi N a (by omega)).mono ?_;rintro e w3 ⟨s,q3,rfl,a8,C,a7,z⟩;have k:=r.fP z λb x e=>by have:=(r.at_ x).1;omega
    have P:=d.trans z λi _ e=>e;have J:=P.size;clear a r d;go_wp2_with(at_builtin;refine bM (F:=nz) (v:=.slice A o.length c) rfl (.tmp 29) (.tmp 33) 83 rfl mj ⟨s,⟨#[97]⟩⟩ rfl k rfl rfl (by omega) J ?_;intro va wa oa a0 al;obtain⟨Aa,ca,rfl⟩:=oa.form;simp only[ap,fi,lP,lm] at oa);go_ret;refine⟨_,o++[⟨s,⟨#[97]⟩⟩],q3,rfl,by simpa using oa,λy M=> ?_,by simp;omega,C.fP a0 λb x e=> ?_,by omega,P.trans a0 λb x e=> ?_⟩
    .rcases io.1 M with M|M
     .exact B.out y M
     .rw[ge.1 M];exact⟨by show s.size<=maxLen;unfold maxLen;omega,by show(⟨#[97]⟩:ByteArray).size<=maxLen;decide⟩
    .have:=(k.at_ e).1;have:=C.hi_;omega
    .have:=(k.at_ e).1;omega
   .have t5:(O ==0)=false:=du.2 Q;by_cases Z:O=1
    .have t6:(O ==1)=true:=mt.2 Z;clear Q Z;by_cases a1:o.length=0
     .have t7:=da (show ¬(0<o.length) by omega);clear a1;go_wp2;go_ret;exact⟨_,o,q+1,rfl,r,B.out,by omega,a,by omega,d⟩
     .have t7:=de (show 0<o.length by omega);have iu:0<o.length:=by omega
      obtain⟨y0,V⟩:=ak iu;obtain⟨X,c',e⟩:=aD.some_ r iu;simp only[qa] at e;obtain⟨rfl, -,rfl⟩:=e;have an:=(r.at_ rfl).1;have H:N.cell? ⟨X,1,none⟩=some (.string y0.b):=by
       have:=aD.cell r (j:=1) V rfl;simpa using this
      have aG:=aD.frozen r rfl 1;have D:=aD.put r (j:=1) (u:=.string ⟨#[65]⟩) (y:=⟨y0.p,⟨#[65]⟩⟩) V (by decide) rfl;rw[sA,lm] at D;have HP:=ab D;have G:bV (λb=>b=X) N (N.setCell ⟨X,1,none⟩ (.string ⟨#[65]⟩)):=(bV.refl (λb=>b=X) N).setCell (p:=⟨X,1,none⟩) (.inl rfl) _;replace G:=ab G;replace V:=ab V;clear D a1;go_wp2;go_ret;refine⟨_,o.set 0 ⟨y0.p,⟨#[65]⟩⟩,q+1,rfl,HP.out,λy M=> ?_,by rw[qP];omega,a.fP G.out λb x e=> ?_,by omega,d.trans G.out λb x e=> ?_⟩
      .rcases sU M with h1|rfl
       .exact B.out y h1
       .exact⟨(B.out y0 (aE V.out)).1,by show(⟨#[65]⟩:ByteArray).size<=maxLen;decide⟩
      .have:=a.hi_;omega
      .omega
    .have t6:(O ==1)=false:=du.2 Z;clear Q Z;go_wp2;go_ret;exact⟨_,o,q+1,rfl,r,B.out,by omega,a,by omega,d⟩
  .have iu:0<(j:Int):=by omega
   obtain⟨j',ad⟩:∃y,y=j-1:=⟨_,rfl⟩;have Z:(j:Int)-1=((j':Nat):Int):=by omega
   have f:j=j'+1:=by omega
   replace f:=ab f;clear ad h0;go_wp2;refine(mr l g q lo hi wr rd (by omega)).mono ?_;rintro e N ⟨s,q2,rfl,a8,a,aK,n⟩;have r:=K.fP n λb x e=>by have:=(K.at_ x).1;omega
   have d:=R.trans n λi _ e=>e;clear rd K n R;go_wp2;refine(adK l g q2 lo hi N a (by omega)).mono ?_;rintro e w3 ⟨t,q3,rfl,ht,C,a7,z⟩;have k:=r.fP z λb x e=>by have:=(r.at_ x).1;omega
   have P:=d.trans z λi _ e=>e;have r3:=(k.deep (aak L.out) w.heap.size).sl (am _);clear a r z d;go_wp2;refine(adF o s t (by unfold maxLen;omega) (by unfold maxLen;omega) _ w3 w.heap.size w3.heap.size r3 (am _) (by have:=L.out.2.1;omega)).mono ?_;rintro e w4 ⟨v4,zs,a5,rfl,o4,a3,b4⟩;have J:=P.size;have aa:=o4.base J;have a6:=k.below b4;have W:=C.fP (bV.bF (S:=λ_=>False) b4) λ_ _ h=>h;have T:=P.trans (bV.bF (S:=λ_=>False) b4) λ_ _ h=>h.elim;have a4:=ab a3;obtain⟨A4,c4,rfl⟩:=o4.form;clear a3 C P k o4 r3;cases a5
   .go_wp2;go_roundw
    case rel=>exact⟨j',q3,o,by have:=f.out;omega,rfl,a6,L.out,W,by have:=f.out;omega,T⟩
    simp[intOf];have:=f.out;omega
   .go_wp2;go_roundw
    case rel=>exact⟨j',q3,zs,by have:=f.out;omega,rfl,aa,a4.out,W,by have:=f.out;omega,T⟩
    simp[intOf];have:=f.out;omega
def asi(w:World)(lo hi g:Nat)(l:List Int)(p:Nat)(e:Ending)(w':World):Prop:=∃v a q,e=.returned v/\aD nz 122 w' w.heap.size v a/\kC a/\Rd w' lo hi g l q/\q<=p+300/\bV (λb=>b=g) w w'
def aj2(l:List Int)(g p lo hi:Nat)(w:World)(y:Rd w lo hi g l p)(x:p<=50000) :
  Calls (ai β) 60 #[.pointer (some ⟨g,0,none⟩)] w (asi w lo hi g l p):=by
 go_enter zA,ntmps60;go_wp2;refine(aj1 l g p lo hi w y x).mono ?_;rintro e m ⟨C,r,q,rfl,k,f,u,j,n,b⟩;obtain⟨A,c,rfl⟩:=k.form;have B:=b.size;have s:=(k.deep f w.heap.size).sl (am _);clear f;go_wp2;refine(abe r _ m w.heap.size m.heap.size s (am _)).mono ?_;rintro e z ⟨⟨rfl,o⟩|rfl,i⟩
 .have t:=ab o;have v:=k.below i;have d:=j.fP (bV.bF (S:=λ_=>False) i) λ_ _ h=>h;have a:=b.trans (bV.bF (S:=λ_=>False) i) λ_ _ h=>h.elim;clear o;go_wp2;go_ret;exact⟨_,r,q,rfl,v,t.out,d,n,a⟩
 .have d:=j.fP (bV.bF (S:=λ_=>False) i) λ_ _ h=>h;have a:=b.trans (bV.bF (S:=λ_=>False) i) λ_ _ h=>h.elim;go_wp2;go_ret;exact⟨_,[⟨⟨#[97]⟩,⟨#[104,101,108,108,111]⟩⟩],q,rfl,aep (F:=nz) (cg.new z 122 #[.string ⟨#[97]⟩,.string ⟨#[104,101,108,108,111]⟩]) rfl a.size rfl (by simp[maxLen]),kC.one ⟨by decide,by decide⟩,d.alloc _,n,a.alloc _⟩
end
end Go.Proofs.YtlggbfanooejbaaGreatDoor