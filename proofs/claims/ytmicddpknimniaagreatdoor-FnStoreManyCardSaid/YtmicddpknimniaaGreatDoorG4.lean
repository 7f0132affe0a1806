/- A part. -/
import Derived.Test.YtmicddpknimniaaGreatDoorG3
import Derived.Laws.Cover1
import Derived.Laws.MakeOwn
import Derived.WalkSpells
set_option maxRecDepth 100000
set_option maxHeartbeats 8000000
set_option linter.all false
open Go Go.RowKit Go.Proofs.Tryz Go.Proofs.YtmicddpknimniaaGreatDoor
variable {x z:It} {Y U b c g hi i j k lo n:Nat} {key:Int} {Z β:Type} {X W V v:Value} {w w':World} {e:TypeId} {R:List Pk} {a o:List It} {p s:ByteArray} {S cs:List Value} {A:Option Addr} {T:List TypeId} {E:fU Z} {xs:List Z}
namespace Go.Proofs.YtmicddpknimniaaGreatDoor
def dj:=@List.setIfInBounds_toArray
def ef:=@Go.World.size_setCell
def gt:=@List.set_cons_zero
def gE:=@List.set_cons_succ
def nf:=@List.length_singleton
def pe:=@Go.bodyPost_ret
def ph:=@List.length_eq_zero_iff
def qZ:=@List.getElem?_of_mem
def rv:=@UInt8.lt_iff_toNat_lt
def rA:=@List.not_mem_nil
def sj:=@List.getElem?_set_self
def sL:=@List.mem_or_eq_of_mem_set
def sM:=@List.getElem?_set_ne
def tR:=@or_false
def ui:=@Int.le_refl
def um:=@List.sum_cons
def uB:=@Nat.sub_self
def vS:=@List.mem_of_getLast?
section
variable {β:Bool}
open Go.RowKit
structure Nd where
 p:ByteArray
 b:ByteArray
def oQ:Flat Nd:=⟨2,λx=>[.string x.p,.string x.b],λx=>x.p.size<=maxLen/\x.b.size<=maxLen,λ_=>rfl,λx u a=>by simp at a;rcases a with rfl|rfl<;>rfl,by decide⟩
abbrev eY:fU (List Nd):=eL 97 (bY oQ) 2
def eY.aw:dV eY [97]:=eL.aw (bY.aw oQ)
def ni:gJ (ah β) 66 97 2 32:=gJ.mk' yg (z:=.agg #[.string ⟨#[]⟩,.string ⟨#[]⟩]) (by kernel_rfl) rfl (by decide) (by decide)
def afA(x:Nd):Prop:=fW x.p=true/\dn x.b=true
def nM:∀{a b c:List UInt8},Op.bytesLess a b=true->Op.bytesLess b c=true->Op.bytesLess a c=true
 |_,[],_,h,_=>by simp[Op.bytesLess] at h
 |_,_::_,[],_,h=>by simp[Op.bytesLess] at h
 |[],_::_,_::_,_,_=>by simp[Op.bytesLess]
 |x::a,y::b,z::c,e,d=>by
  simp only[Op.bytesLess,qN,qH,fd,mw,rv,<-sx] at e d ⊢;rcases e with e|⟨e,g⟩
  .rcases d with d|⟨d,f⟩
   .exact .inl (by omega)
   .exact .inl (by omega)
  .rcases d with d|⟨d,f⟩
   .exact .inl (by omega)
   .exact .inr ⟨by omega,nM g f⟩
def anf(t:List Nd)(i:Nat)(x:Nd):Prop:=afA x/\(∀y,0<i->t[i-1]?=some y->Op.bytesLess y.p.toList x.p.toList=true)/\∀k y,k<i->t[k]?=some y->iU y.p x.p=false
def aiL(t:List Nd):Prop:=t.length<=6/\∀i x,t[i]?=some x->anf t i x
def adZ{t:List Nd}(h:∀i x,t[i]?=some x->∀y,0<i->t[i-1]?=some y->Op.bytesLess y.p.toList x.p.toList=true):∀(d k:Nat) {x y:Nd},t[k+d+1]?=some x->t[k]?=some y->Op.bytesLess y.p.toList x.p.toList=true
 |0,k,x,y,hx,hy=>h (k+1) x hx y (by omega) hy
 |d+1,k,x,y,hx,hy=>by
  obtain⟨z,a⟩:∃z,t[k+d+1]?=some z:=aq (by have:=aG hx;omega);exact nM (adZ h d k a hy) (h (k+(d+1)+1) x hx z (by omega) a)
def jM(xs:List Nd):Prop:=(∀x∈xs,afA x)/\xs.length<=6/\xs.Pairwise λa b=>Op.bytesLess a.p.toList b.p.toList=true/\iU a.p b.p=false
def jM.nil:jM []:=⟨λy a=>(by cases a),fb _,.nil⟩
def jM.one{x:Nd}(h:afA x):jM [x]:=⟨λy a=>by rw[jn.1 a];exact h,by simp,rK _ _⟩
def jM.sub{xs ys:List Nd}(h:jM xs)(a:ys.Sublist xs):jM ys:=⟨λy b=>h.1 y (a.mem b),bd a.length_le h.2.1,h.2.2.sublist a⟩
def aiM{t:List Nd}:aiL t↔jM t:=by
 unfold jM aiL;rw[qg];constructor
 .rintro⟨g,h⟩;refine⟨λx a=> ?_,g,λi j b m d=>⟨?_, ?_⟩⟩
  .obtain⟨i,b⟩:=qZ a;exact(h i x b).1
  .exact adZ (λi x a=>(h i x a).2.1) (j-i-1) i (by rw[show i+(j-i-1)+1=j by omega];exact li m) (li b)
  .exact(h j t[j] (li m)).2.2 i t[i] d (li b)
 .rintro⟨p,n,l⟩;refine⟨n,λi x a=>⟨p x (da a),λy g c=> ?_,λk y o c=> ?_⟩⟩
  .obtain⟨e,rfl⟩:=mp.1 a;obtain⟨f,rfl⟩:=mp.1 c;exact(l (i-1) i f e (by omega)).1
  .obtain⟨e,rfl⟩:=mp.1 a;obtain⟨f,rfl⟩:=mp.1 c;exact(l k i f e o).2
def kO{xs:List Nd}(h:eY w lo hi xs [.slice A n c]){x:Nd}(i:xs[k]?=some x) :
  ∃b a,A=some ⟨b,a,none⟩/\lo<=b/\b<hi/\oQ.good x/\w.cell? ⟨b,a+k*2,none⟩=some (.string x.p)/\w.cell? ⟨b,a+k*2+1,none⟩=some (.string x.b):=by
 obtain⟨b,a,l,e,j,f,_,⟨rfl,g⟩,d⟩:=h.1.at_ i;exact⟨b,a,e,j,f,g,by simpa using d 0 _ rfl,by simpa using d 1 _ rfl⟩
def aoQ(xs:List Nd)(v:Value)(w:World)(lo hi:Nat)(h:eY w lo hi xs [v])(Z:hi<=w.heap.size)(q:Bool)(g:q=true↔aiL xs) :
  Calls (ah β) 46 #[v] w λe w'=>e=.returned (.bool q)/\Below w.heap.size w w':=by
 have N:=ab g;clear g;obtain⟨A,c,rfl⟩:=h.form;obtain⟨_,hc,hx⟩:=h.1.len_;unfold maxLen at hx;go_enter yS,ntmps46;go_wp2;go_loopw [3] (λii wr=>∃k:Nat,k<=xs.length/\ii=.int .i64 k/\(∀i x,i<k->xs[i]?=some x->anf xs i x)/\Below w.heap.size w wr) (λii _=>xs.length-(intOf ii).toNat)
 case atStart=>exact⟨0,fb _,rfl,λi x hi=>absurd hi (rR i),gc _ _⟩
 case round=>
  obtain⟨k,hk,rfl,p,G⟩:=hrel;replace p:=ab p;by_cases r:k<xs.length
  .obtain⟨x,C⟩:=aq r;obtain⟨b0,a6,rfl,_,a5,B,E,R⟩:=kO (eY.aw.below h G Z) C;replace C:=ab C;cases a:fW x.p
   .replace a:=ab a;have f:q=false:=by
     rw[<-lc,N.out];rintro⟨-,h⟩;have h:=h k x C.out;have h:=h.1.1;rw[a.out] at h;cases h
    have s:=ab f;clear f;go_wp2;have n:=aj E;have o:=aj R;refine aI (by kernel_rfl) (by kernel_rfl) ?_;repeat(go_big_quiet_step (first|(go_at_call 53;refine dv (v:=.bool false) ?_;rw[<-a.out];exact iT x.p B.1 _)))
    refine lE ?_;intro O d;have g:=aU d;clear d n o;go_wp2;go_ret;exact⟨aC s.out.symm,ae G g⟩
   .replace a:=ab a;cases b:dn x.b
    .replace b:=ab b;have f:q=false:=by
      rw[<-lc,N.out];rintro⟨-,h⟩;have h:=h k x C.out;have h:=h.1.2;rw[b.out] at h;cases h
     have s:=ab f;clear f;go_wp2;have n:=aj E;have o:=aj R;refine aI (by kernel_rfl) (by kernel_rfl) ?_;repeat(go_big_quiet_step (first|(go_at_call 53;refine dv (v:=.bool true) ?_;rw[<-a.out];exact iT x.p B.1 _)|(go_at_call 54;refine dv (v:=.bool false) ?_;rw[<-b.out];exact kH x.b B.2 _)))
     refine lE ?_;intro O d;have g:=aU d;clear d n o;go_wp2;go_ret;exact⟨aC s.out.symm,ae G g⟩
    .replace b:=ab b;by_cases fX:k=0
     case' pos=>
      have t1:=bv (show ¬(0<k) by omega);have V:afA x/\∀y,0<k->xs[k-1]?=some y->Op.bytesLess y.p.toList x.p.toList=true:=⟨⟨a.out,b.out⟩,λy h0=>by omega⟩;have Y:=ab V;clear V;clear fX;go_wp2;have n:=aj E;have o:=aj R;refine aI (by kernel_rfl) (by kernel_rfl) ?_;repeat(go_big_quiet_step (first|(go_at_call 53;refine dv (v:=.bool true) ?_;rw[<-a.out];exact iT x.p B.1 _)|(go_at_call 54;refine dv (v:=.bool true) ?_;rw[<-b.out];exact kH x.b B.2 _)))
      refine lE ?_;intro O d;have g:=aU d;clear d n o
     case' neg=>
      obtain⟨k',S⟩:∃m,m=k-1:=⟨_,rfl⟩;have e1:(k:Int)-1=((k':Nat):Int):=by omega
      have a2:k'<xs.length:=by omega
      have t1:=db (show 0<k by omega);obtain⟨z,t⟩:=aq a2;obtain⟨b1,U,F,_,_,a7,P,_⟩:=kO (eY.aw.below h G Z) t;simp only[mt,qv,ql] at F;obtain⟨rfl,rfl⟩:=F;replace t:=ab t;have T:=ab S;have a1:0<k:=by omega
      clear S;cases K:Op.bytesLess z.p.toList x.p.toList
      .have L:=ab K;have f:q=false:=by
        rw[<-lc,N.out];rintro⟨-,h⟩;have h:=h k x C.out;have h:=h.2.1 z a1 (by rw[<-T.out];exact t.out);rw[L.out] at h;cases h
       have s:=ab f;clear f;go_wp2;have n:=aj E;have o:=aj R;have dN:=aj P;refine aI (by kernel_rfl) (by kernel_rfl) ?_;repeat(go_big_quiet_step (first|(go_at_call 53;refine dv (v:=.bool true) ?_;rw[<-a.out];exact iT x.p B.1 _)|(go_at_call 54;refine dv (v:=.bool true) ?_;rw[<-b.out];exact kH x.b B.2 _)))
       refine lE ?_;intro O d;have g:=aU d;clear d n o dN;go_wp2;go_ret;exact⟨aC s.out.symm,ae G g⟩
      have L:=ab K;have V:afA x/\∀y,0<k->xs[k-1]?=some y->Op.bytesLess y.p.toList x.p.toList=true:=⟨⟨a.out,b.out⟩,λy h0 hy=>by
       rw[<-T.out,t.out] at hy;cases hy;exact L.out⟩
      have Y:=ab V;clear V;go_wp2;have n:=aj E;have o:=aj R;have dN:=aj P;refine aI (by kernel_rfl) (by kernel_rfl) ?_;repeat(go_big_quiet_step (first|(go_at_call 53;refine dv (v:=.bool true) ?_;rw[<-a.out];exact iT x.p B.1 _)|(go_at_call 54;refine dv (v:=.bool true) ?_;rw[<-b.out];exact kH x.b B.2 _)))
      refine lE ?_;intro O d;have g:=aU d;clear d n o dN;clear P K e1
     all_goals
      have X:=ae G g;clear E R t1;go_wp2;go_loopw [4] (λjj wr=>∃j:Nat,j<=k/\jj=.int .i64 j/\(∀i y,i<j->xs[i]?=some y->iU y.p x.p=false)/\Below w.heap.size w wr) (λjj _=>k-(intOf jj).toNat)
      case atStart=>exact⟨0,fb _,rfl,λi y hi=>absurd hi (rR i),X⟩
      case round=>
       clear X g;obtain⟨j,hj,rfl,D,u⟩:=hrel;replace D:=ab D;by_cases W:j<k
       .obtain⟨y,Q⟩:=aq (l:=xs) (k:=j) (by omega);obtain⟨b1,U,F,_,_,a4,P,_⟩:=kO (eY.aw.below h u Z) Q;simp only[mt,qv,ql] at F;obtain⟨rfl,rfl⟩:=F;obtain⟨b1,U,F,_,_,_,E,_⟩:=kO (eY.aw.below h u Z) C.out;simp only[mt,qv,ql] at F;obtain⟨rfl,rfl⟩:=F;have a3:0<y.p.size:=by
         have:=kF (p.out j y W Q).1.1;omega
        have a0:0<x.p.size:=by have:=kF Y.out.1.1;omega
        have HC:=ab (λw':World=>ahm (β:=β) y.p x.p ⟨a3,a4.1⟩ ⟨a0,B.1⟩ w');replace Q:=ab Q;cases H:iU y.p x.p
        .replace H:=ab H;have I:∀i z,i<j+1->xs[i]?=some z->iU z.p x.p=false:=λi z hi J=>by
          rcases oR i j with r|nT
          .exact D.out i z r J
          .obtain rfl:i=j:=by omega
           rw[Q.out] at J;cases J;exact H.out
         replace I:=ab I;go_wp2;have n:=aj P;have o:=aj E;refine aI (by kernel_rfl) (by kernel_rfl) ?_;repeat(go_big_quiet_step (first|(go_at_call 84;refine eh (v:=.bool false) ?_;rw[<-H.out];exact HC.out _)))
         refine lE ?_;intro O d;have g:=aU d;clear d n o;go_wp2;go_roundw
         case rel=>exact⟨j+1,by omega,by go_num,I.out,ae u g⟩
         simp[intOf];omega
        .replace H:=ab H;have f:q=false:=by
          rw[<-lc,N.out];rintro⟨-,h⟩;have h:=h k x C.out;have h:=h.2.2 j y W Q.out;rw[H.out] at h;cases h
         have s:=ab f;clear f;go_wp2;have n:=aj P;have o:=aj E;refine aI (by kernel_rfl) (by kernel_rfl) ?_;repeat(go_big_quiet_step (first|(go_at_call 84;refine eh (v:=.bool true) ?_;rw[<-H.out];exact HC.out _)))
         refine lE ?_;intro O d;have g:=aU d;clear d n o;go_wp2;go_ret;exact⟨aC s.out.symm,ae u g⟩
       .obtain rfl:j=k:=by omega
        have M:∀i z,i<j+1->xs[i]?=some z->anf xs i z:=λi z hi J=>by
         rcases oR i j with r|nT
         .exact p.out i z r J
         .obtain rfl:i=j:=by omega
          rw[C.out] at J;cases J;exact⟨Y.out.1,Y.out.2,D.out⟩
        replace M:=ab M;go_wp2;go_roundw
        case rel=>exact⟨j+1,by omega,by go_num,M.out,u⟩
        simp[intOf];omega
  .obtain rfl:k=xs.length:=by omega
   by_cases h6:xs.length<=6
   .have t1:=db (show(xs.length:Int)<=6 by omega);have f:q=true:=N.out.2 ⟨h6,λi x hx=>p.out i x (aG hx) hx⟩;have s:=ab f;clear f;go_wp2;go_ret;exact⟨aC s.out.symm,G⟩
   .have t1:=bv (show ¬((xs.length:Int)<=6) by omega);have f:q=false:=by
     rw[<-lc,N.out];rintro⟨h, -⟩;exact h6 h
    have s:=ab f;clear f;go_wp2;go_ret;exact⟨aC s.out.symm,G⟩
open Classical in
def aaT(xs:List Nd)(v:Value)(w:World)(lo hi:Nat)(h:eY w lo hi xs [v])(b:hi<=w.heap.size) :
  Calls (ah β) 46 #[v] w λe a=>ahl (jM xs) e/\Below w.heap.size w a:=
 (aoQ xs v w lo hi h b (decide (jM xs)) (by rw[decide_eq_true_iff,aiM])).mono λe a ⟨he,hb⟩=>⟨he▸ahl.of λh=>sI h,hb⟩
end
section
variable {β:Bool}
open Go.RowKit
def ang(p:List Nd->Prop)(w:World)(e:Ending)(w':World):Prop:=∃v a,e=.returned v/\aF oQ 97 w' w.heap.size v a/\p a/\Below w.heap.size w w'
def aiP(xs:List Nd)(s:ByteArray)(v:Value)(w:World)(lo hi:Nat)(h:eY w lo hi xs [v])(t:hi<=w.heap.size)(N:xs.length<=1000) :
  Calls (ah β) 37 #[v,.string s] w (ang (λys=>ys.Sublist xs) w):=by
 obtain⟨A,c,rfl⟩:=h.form;go_enter yY,ntmps37;go_wp2;have f:=aA w (.cells #[] 97);have e:aF oQ 97 (w.alloc (.cells #[] 97)) w.heap.size (.slice (some ⟨w.heap.size,0,none⟩) 0 0) []:=(et.new w 97 (am _)).own 2;generalize w.alloc (.cells #[] 97)=w0 at *;go_loopw [5,6] (λz p wr=>∃(k:Nat) (ys:List Nd),k<=xs.length/\p=.int .i64 k/\aF oQ 97 wr w.heap.size z ys/\ys.Sublist (xs.take k)/\Below w.heap.size w wr) (λ_ p _=>xs.length-(intOf p).toNat)
 case atStart=>exact⟨0,[],fb _,rfl,e,List.Sublist.refl _,f⟩
 case round=>
  clear e f;obtain⟨k,ys,I,rfl,g,j,d⟩:=hrel;obtain⟨D,y,rfl⟩:=g.form;have r:ys.length<=k:=by have:=j.length_le;rw[ff] at this;omega
  by_cases m:k<xs.length
  .obtain⟨x,l⟩:=aq m;obtain⟨G,u,rfl,_,C,H,P,M⟩:=kO (eY.aw.below h d t) l;have a:(ys++[x]).Sublist (xs.take (k+1)):=by rw[nF l];exact j.append (List.Sublist.refl _)
   have b:ys.Sublist (xs.take (k+1)):=by rw[nF l];exact j.trans (List.sublist_append_left _ _)
   replace a:=ab a;replace b:=ab b;clear l j;cases J:(x.p.toList ==s.toList)
   .go_wp2_with(at_builtin;refine bU (F:=oQ) (v:=.slice D ys.length y) rfl (.tmp 21) (.tmp 26) 66 rfl ni x rfl g rfl rfl (by omega) d.size ?_;intro O K n o q;obtain⟨E,L,rfl⟩:=n.form;simp only[ap,eg,lw,mc] at n);go_roundw
    case rel=>
     exact⟨k+1,ys++[x],by omega,by go_num,by simpa using n,a.out,d.trans (o.below d.size λi hi B=>by have:=(g.at_ B).1;omega)⟩
    case measure=>simp[intOf];omega
   .go_wp2;go_roundw
    case rel=>exact⟨k+1,ys,by omega,by go_num,g,b.out,d⟩
    simp[intOf];omega
  .obtain rfl:k=xs.length:=by omega
   go_wp2;go_ret;exact⟨_,ys,rfl,g,by rwa [gn] at j,d⟩
def ak4(xs:List Nd)(f:Nd)(hf:oQ.good f)(v:Value)(w:World)(lo hi:Nat)(h:eY w lo hi xs [v])(W:hi<=w.heap.size)(hl:xs.length<=1000) :
  Calls (ah β) 55 #[v,.agg #[.string f.p,.string f.b]] w (ang (λa=>(∀y∈a,y∈xs\/y=f)/\a.length<=xs.length+1) w):=by
 obtain⟨A,c,rfl⟩:=h.form;go_enter yL,ntmps55;go_wp2;generalize hG:(w.alloc (.cells #[.string f.p,.string f.b] 97)).alloc (.cells #[] 97)=w0 at *;obtain⟨aO,mo,k0,eJ,iw,k1,a1,a6⟩:=akM hG;clear hG;have P:aF oQ 97 w0 (w.heap.size+1) (.slice (some ⟨w.heap.size+1,0,none⟩) 0 0) []:=et.own ⟨_,rfl,am _,k1⟩ 2;clear k1 a1 a6 eJ iw;go_loopw [5,6,7] (λoo dd ii wr=>∃(k:Nat) (d:Bool) (a:List Nd),k<=xs.length/\ii=.int .i64 k/\dd=.bool d/\aF oQ 97 wr (w.heap.size+1) oo a/\(∀y∈a,y∈xs\/y=f)/\a.length<=k+(if d then 1 else 0)/\Below (w.heap.size+1) w0 wr) (λ_ _ ii _=>xs.length-(intOf ii).toNat)
 case atStart=>exact⟨0,false,[],fb _,rfl,rfl,P,λy b=>(by cases b),am _,gc _ _⟩
 case round=>
  clear P;obtain⟨k,d,a,hk,rfl,rfl,q,b,g,n⟩:=hrel;obtain⟨Z,Y,rfl⟩:=q.form;have U:bR wr w.heap.size 97 #[.string f.p,.string f.b]:=(n.block _ (by omega)).trans k0;have l:wr.cell? ⟨w.heap.size,0,none⟩=some (.string f.p):=U.cell 0;have z:wr.cell? ⟨w.heap.size,1,none⟩=some (.string f.b):=U.cell 1;have e:Below w.heap.size w wr:=aO.trans (n.mono (by omega));have G:=ab b;clear b;by_cases a2:k<xs.length
  .obtain⟨x,I⟩:=aq a2;obtain⟨b1,af,rfl,_,an,hg,L,c1⟩:=kO (eY.aw.below h e W) I;have HX:=ab (da I);replace I:=ab I;clear L c1;cases d
   case' true=>
    go_wp2;have u:=aj l;refine aI (by kernel_rfl) (by kernel_rfl) ?_;repeat(go_big_quiet_step (fail))
    refine lE ?_;intro V m;have j:=aU m;clear m u;have D:=n.trans (j.mono (by have:=n.size;omega));have oz:=q.below j;clear q l z n e U;go_wp2;have r:=G;have p:=g;clear G g;generalize Z=A2 at *;generalize Y=X at *;generalize a=ys2 at *
   case' false=>
    cases T:Op.bytesLess x.p.toList f.p.toList
    case' false=>
     obtain⟨b2,oM,C,_,_,_,L,_⟩:=kO (eY.aw.below h e W) I.out;simp only[mt,qv,ql] at C;obtain⟨rfl,rfl⟩:=C;go_wp2;have u:=aj L;have M:=aj l;refine aI (by kernel_rfl) (by kernel_rfl) ?_;repeat(go_big_quiet_step (fail))
     refine lE ?_;intro V m;have j:=aU m;clear m u M;have B:=n.trans (j.mono (by have:=n.size;omega));have J:=q.below j;have a4:=dJ j l;have a5:=dJ j z;have a9:a.length<=k:=by simpa using g
     clear q L l z T;go_wp2_with(at_builtin;refine bU (F:=oQ) (v:=.slice Z a.length Y) rfl (.tmp 27) (.tmp 29) 66 rfl ni f rfl J rfl rfl (by omega) (by have:=B.size;omega) ?_;intro va wa H K a3;obtain⟨A2,X,rfl⟩:=H.form;simp only[ap,eg,lw,mc] at H);have oz:aF oQ 97 wa (w.heap.size+1) (.slice A2 (a++[f]).length X) (a++[f]):=by simpa using H
     have D:Below (w.heap.size+1) w0 wa:=B.trans (K.below (by have:=B.size;omega) λi hi S=>by have:=(J.at_ S).1;omega);have r:Hid (∀y∈a++[f],y∈xs\/y=f):=ab λy b=>by
      rcases ge.1 b with b|b
      .exact G.out y b
      .exact .inr (jn.1 b)
     have p:(a++[f]).length<=k+(if true then 1 else 0):=by simp;omega
     have E:(a++[f]).length=a.length+1:=by simp
     rw[<-E];clear E H J B n e U g a4 a5;clear G;generalize a++[f]=ys2 at *
    case' true=>
     obtain⟨b2,oM,C,_,_,_,L,_⟩:=kO (eY.aw.below h e W) I.out;simp only[mt,qv,ql] at C;obtain⟨rfl,rfl⟩:=C;go_wp2;have u:=aj L;have M:=aj l;refine aI (by kernel_rfl) (by kernel_rfl) ?_;repeat(go_big_quiet_step (fail))
     refine lE ?_;intro V m;have j:=aU m;clear m u M;have D:=n.trans (j.mono (by have:=n.size;omega));have oz:=q.below j;clear q L l z T n e U;go_wp2;have r:=G;have p:=g;clear G g;generalize Z=A2 at *;generalize Y=X at *;generalize a=ys2 at *
   all_goals
    rename World=>wz
    have N:bR wz w.heap.size 97 #[.string f.p,.string f.b]:=((D).block _ (by omega)).trans k0;have s:(wz).cell? ⟨w.heap.size,0,none⟩=some (.string f.p):=N.cell 0;have O:Below w.heap.size w wz:=aO.trans ((D).mono (by omega));obtain⟨b3,aa,C,_,_,_,R,d1⟩:=kO (eY.aw.below h O W) I.out;simp only[mt,qv,ql] at C;obtain⟨rfl,rfl⟩:=C;cases Q:(x.p.toList ==f.p.toList)
    .have u:=aj R;have M:=aj s;refine aI (by kernel_rfl) (by kernel_rfl) ?_;repeat(go_big_quiet_step (fail))
     refine lE ?_;intro V m;have j:=aU m;clear m u M;have o:=(D).trans (j.mono (by have:=(D).size;omega));have t:=(oz).below j;have a7:=dJ j R;have ad:=dJ j d1;have a8:(ys2).length<=k+1:=bd p (by simp);have HL:=ab p;clear R d1 s Q O N;go_wp2_with(at_builtin;refine bU (F:=oQ) (v:=.slice A2 (ys2).length X) rfl (.tmp 39) (.tmp 44) 66 rfl ni x rfl t rfl rfl (by omega) (by have:=o.size;omega) ?_;intro vb wb ob a0 al;obtain⟨Ab,cb,rfl⟩:=ob.form);go_roundw
     case rel=>
      refine⟨k+1,_,ys2++[x],by omega,by go_num,rfl,by simpa using ob,λy b=> ?_,by have:=HL.out;rw[ap];simp at this ⊢;omega,o.trans (a0.below (by have:=o.size;omega) λi hi S=>by have:=(t.at_ S).1;omega)⟩;rcases ge.1 b with b|b
      .exact(r).out y b
      .rw[jn.1 b];exact .inl HX.out
     case measure=>simp[intOf];omega
    .have u:=aj R;have M:=aj s;refine aI (by kernel_rfl) (by kernel_rfl) ?_;repeat(go_big_quiet_step (fail))
     refine lE ?_;intro V m;have j:=aU m;clear m u M;have o:=(D).trans (j.mono (by have:=(D).size;omega));have t:=(oz).below j;have HL:=ab p;clear R d1 s Q O N;go_wp2;go_roundw
     case rel=>exact⟨k+1,_,ys2,by omega,by go_num,rfl,t,(r).out,by have:=HL.out;simp at this ⊢;omega,o⟩
     simp[intOf];omega
  .obtain rfl:k=xs.length:=by omega
   cases d
   .go_wp2_with(at_builtin;refine bU (F:=oQ) (v:=.slice Z a.length Y) rfl (.tmp 48) (.tmp 50) 66 rfl ni f rfl q rfl rfl (by simp at g;omega) (by have:=n.size;omega) ?_;intro va wa H K a3;obtain⟨Aa,ca,rfl⟩:=H.form;simp only[ap,eg,lw,mc] at H);go_ret;refine⟨_,a++[f],rfl,(by simpa using H:aF oQ 97 wa (w.heap.size+1) (.slice Aa (a.length+1) ca) (a++[f])).base (by omega),⟨λy b=> ?_,by simp at g ⊢;omega⟩,e.trans (K.below e.size λi hi S=>by have:=(q.at_ S).1;omega)⟩;rcases ge.1 b with b|b
    .exact G.out y b
    .exact .inr (jn.1 b)
   .go_wp2;go_ret;exact⟨_,a,rfl,q.base (by omega),⟨G.out,by simpa using g⟩,e⟩
def arh(w:World)(e:Ending)(w':World):Prop:=∃v a q,e=.returned (.tuple #[v,.bool q])/\aF oQ 97 w' w.heap.size v a/\jM a/\Below w.heap.size w w'
def pL{b:List Nd}(h:jM b):∀y∈b,oQ.good y:=λy c=>by
 have d:=kF (h.1 y c).1;have a:=(h.1 y c).2;unfold dn at a;rw[fd] at a;have e:=sI a.1;exact⟨by unfold maxLen;omega,by unfold maxLen;omega⟩
def adb(xs:List Nd)(p b:ByteArray)(x:p.size<=maxLen)(o:b.size<=maxLen)(v:Value)(w:World)(lo hi:Nat)(h:eY w lo hi xs [v])(j:hi<=w.heap.size)(N:xs.length<=1000) :
  Calls (ah β) 34 #[v,.string p,.string b] w (arh w):=by
 obtain⟨A,c,rfl⟩:=h.form;go_enter zd,ntmps34;go_wp2;refine(aaT xs _ w lo hi h j).mono ?_;rintro e f ⟨⟨rfl,g⟩|rfl,a⟩
 .replace g:=ab g;go_wp2;refine(iT p x f).mono ?_;rintro e n ⟨rfl,rfl⟩;cases R:fW p
  .go_wp2;exact pe (v:=.tuple #[.slice (some ⟨(f).heap.size,0,none⟩) 0 0,.bool false]) (by simp[results,results34,go_sem]) rfl ⟨_,[],false,rfl,(et.new f 97 (a).size).own 2,.nil,(a).alloc (a).size _⟩
  .go_wp2;refine(kH b o f).mono ?_;rintro e n ⟨rfl,rfl⟩;cases I:dn b
   .go_wp2;exact pe (v:=.tuple #[.slice (some ⟨(f).heap.size,0,none⟩) 0 0,.bool false]) (by simp[results,results34,go_sem]) rfl ⟨_,[],false,rfl,(et.new f 97 (a).size).own 2,.nil,(a).alloc (a).size _⟩
   .go_wp2;refine(ak4 xs ⟨p,b⟩ ⟨x,o⟩ _ f lo hi (eY.aw.below h a j) (bd j a.size) N).mono ?_;rintro e n ⟨V,m,rfl,s,⟨r,J⟩,B⟩;obtain⟨Q,L,rfl⟩:=s.form;have t:∀y∈m,oQ.good y:=λy O=>by
     rcases r y O with K|rfl
     .exact pL g.out y K
     .exact⟨x,o⟩
    have U:=B.size;have P:=(s.deep t f.heap.size).sl (am _);go_wp2;refine(aaT m _ n f.heap.size n.heap.size P (am _)).mono ?_;rintro e E ⟨⟨rfl,l⟩|rfl,q⟩
    .have u:=ab l;have d:=ae (ae a B) q;have M:=(s.below q).base a.size;clear l;go_wp2;exact pe (v:=.tuple #[.slice Q m.length L,.bool true]) (by simp[results,results34,go_sem]) rfl ⟨_,m,true,rfl,M,u.out,d⟩
    .have d:=ae (ae a B) q;have k:=ml (F:=oQ) (eY.aw.below h d j).1 (bd j d.size);have z:=ab k;have i:=aA E (.cells #[] 97);have C:=ab (et.new E 97 (am _));clear k;go_wp2_with(at_builtin;refine abF (F:=oQ) (xs:=xs) i rfl (.tmp 31) (.tmp 32) 66 rfl ni (am _) rfl rfl C.out z.out (by omega) ?_;intro T S D G;obtain⟨A',H,rfl⟩:=G.form);exact pe (v:=.tuple #[.slice A' xs.length H,.bool false]) (by simp[results,results34,go_sem]) rfl ⟨_,xs,false,rfl,G.base d.size,g.out,ae d (ae i D)⟩
 .go_wp2;exact pe (v:=.tuple #[.slice (some ⟨(f).heap.size,0,none⟩) 0 0,.bool false]) (by simp[results,results34,go_sem]) rfl ⟨_,[],false,rfl,(et.new f 97 (a).size).own 2,.nil,(a).alloc (a).size _⟩
end
section
variable {β:Bool}
open Go.RowKit
def anh(p:Prop):∃q:Bool,q=true↔p:=by
 by_cases h:p
 .exact⟨true,by simp[h]⟩
 .exact⟨false,by simp[h]⟩
def auj{l:List Sp}(h:ixP l):∀x∈l,pJ.good x:=λx a=>by
 have:=h.1 x a;unfold spP at this;refine⟨?_, ?_⟩<;>unfold bF<;>omega
def ak5{a l:List Sp}{x:Sp}:cN (a++[x]) l=dz x (cN a l):=by rw[mY];rfl
end
section
variable {β:Bool}
open Go.RowKit
def awr(w:World)(lo hi:Nat)(ls:List (Value×List Sp)):Prop:=∀p∈ls,cV RSp 2 w lo hi p.2 [p.1]
def nN(ls:List (Value×List Sp)):List Sp:=(ls.map Prod.snd).flatten
def ak6(a:List (Value×List Sp))(p:Value×List Sp):nN (a++[p])=nN a++p.2:=by simp[nN]
structure jN (w:World) (base:Nat) (t:Tr) (l:List Sp):Prop where
 tin:Tin w t
 nd:t.blocks.Nodup
 list:t.list=cN l []
 at_:∀b∈t.blocks,base<=b
def jN.below{base:Nat}{t:Tr}{l:List Sp}(h:jN w base t l)(a:Below w.heap.size w w'):jN w' base t l:=⟨h.tin.below a,h.nd,h.list,h.at_⟩
def jN.asc{base:Nat}{t:Tr}{l:List Sp}(h:jN w base t l):abG t.list:=by rw[h.list];exact acD List.Pairwise.nil
def acH:∀{a l:List Sp} {x:Sp},x∈cN a l->x∈a\/x∈l
 |[],_,_,h=>.inr h
 |s::a,l,x,h=>by
  have b:x∈cN a (dz s l):=h;rcases acH b with h|h
  .exact .inl (by simp[h])
  .rcases oN h with rfl|h
   .exact .inl (by simp)
   .exact .inr h
def jN.ais{base:Nat}{t:Tr}{l:List Sp}(h:jN w base t l)(b:∀x∈l,bF x.n):∀y∈t.list,bF y.n:=λy a=>by
 rw[h.list] at a;rcases acH a with h|h
 .exact b y h
 .cases h
def ani{xs:List Sp}(h:cV RSp 2 w lo hi xs [v]):∀x∈xs,bF x.n/\bF x.p:=cV.good (F:=pJ) h
def ak7(f:List (Value×List Sp))(g c:Nat)(w:World)(lo hi:Nat)(bZ:hi<=w.heap.size)(hk:bR w g 34 (f.map Prod.fst).toArray)(hs:awr w lo hi f)(hn:f.length<=1000)(hc:f.length<=c)(a3:c<=1000) :
  Calls (ah β) 18 #[.slice (some ⟨g,0,none⟩) f.length c] w λe w'=>∃t:Tr,e=.returned t.ptr/\jN w' w.heap.size t (nN f)/\Below w.heap.size w w':=by
 have hg:=hk.lt;go_enter zn,ntmps18;go_wp2;go_loopw [3,10] (λL F wr=>∃(k:Nat) (t:Tr),k<=f.length/\L=t.ptr/\F=.int .i64 k/\jN wr w.heap.size t (nN (f.take k))/\Below w.heap.size w wr) (λL F _=>f.length-(intOf F).toNat)
 case atStart=>exact⟨0,.nil,fb _,rfl,rfl,⟨trivial,List.nodup_nil,rfl,λb h=>by cases h⟩,gc _ _⟩
 case round=>
  obtain⟨k,t,a1,rfl,rfl,z,m⟩:=hrel;by_cases T:k<f.length
  .obtain⟨p,H⟩:=aq T;have o:wr.cell? ⟨g,k,none⟩=some p.1:=by
    have:=(av hk m).cell k;rw[this];simp[H]
   have s:∀{w9:World},Below w.heap.size w w9->cV RSp 2 w9 lo hi p.2 [p.1]:=λV=>adV RSp.loc (hs p (da H)) V bZ;obtain⟨v,u⟩:=p;dsimp only at o s;obtain⟨A,d,rfl⟩:=(s m).form;have R:nN (f.take (k+1))=nN (f.take k)++u:=by rw[nF H,ak6]
   replace R:=ab R;clear H;have n:=s m;obtain⟨_,hd,C⟩:=n.len_;unfold maxLen at C;have Z:=ani n;replace z:=ab z;obtain⟨pt,D⟩:=t.abH;have X:∀x∈nN (f.take k),bF x.n:=λx hx=>by
    obtain⟨l,hl,S⟩:=List.mem_flatten.1 hx;obtain⟨p,H,rfl⟩:=mT.1 hl;exact(ani (hs p (oS H)) x S).1
   have E:=m.size;go_wp2;go_loopw [3,16] (λL F wz=>∃(j:Nat) (t:Tr),j<=u.length/\L=t.ptr/\F=.int .i64 j/\jN wz w.heap.size t (nN (f.take k)++u.take j)/\Below w.heap.size w wz) (λL F _=>u.length-(intOf F).toNat)
   case atStart=>exact⟨0,t,fb _,by first|rfl|exact D.symm,rfl,by simpa using z.out,m⟩
   case round=>
    clear m o n E;obtain⟨j,G,hj,rfl,rfl,q,m⟩:=hrel;replace q:=ab q;have n:=s m;have E:=m.size;by_cases O:j<u.length
    .obtain⟨x,r⟩:=aq O;obtain⟨b5,a2,rfl,_,_,P,a4,a0⟩:=aqY n r;replace r:=ab r;have ba:=aA wr (.cells #[.int .i64 x.n,.int .i64 x.p] 51);have a:=q.out.below ba;have U:∀y∈nN (f.take k)++u.take j,bF y.n:=λy C=>by
      rcases ge.1 C with C|C
      .exact X y C
      .exact(Z y (oS C)).1
     replace a:=ab a;go_wp2;refine(at2 x P G _ a.out.tin a.out.nd (a.out.ais U)).mono ?_;rintro e w5 ⟨N,rfl,Y,I,M,Q⟩;have W:Below w.heap.size w w5:=(m.trans (ba.mono E)).trans (Q.below (by simp only[me];omega) λi hi h=>by have:=a.out.at_ i h;omega);have K:(G.put N x).list=cN (nN (f.take k)++u.take (j+1)) []:=by
      rw[Tr.aeG a.out.asc,a.out.list,nF r.out,<-tp,ak5]
     have J:∀b∈(G.put N x).blocks,w.heap.size<=b:=λb h=>by
      rcases Tr.kI h with rfl|h
      .simp only[me] at Y;omega
      .exact a.out.at_ b h
     have HL:=ab (jN.mk I M K J);clear K J I M;go_wp2;go_roundw
     case rel=>exact⟨j+1,G.put N x,by omega,rfl,by go_num,HL.out,W⟩
     simp[intOf];omega
    .obtain rfl:j=u.length:=by omega
     have B:jN wr w.heap.size G (nN (f.take (k+1))):=by
      have:=q.out;rw[gn] at this;rw[R.out];exact this
     replace B:=ab B;go_wp2;go_roundw
     case rel=>exact⟨k+1,G,by omega,rfl,by go_num,B.out,m⟩
     simp[intOf];omega
  .obtain rfl:k=f.length:=by omega
   rw[gn] at z;replace z:=ab z;obtain⟨pt,D⟩:=t.abH;go_wp2;go_ret;exact⟨t,by first|rfl|rw[D];rfl,z.out,m⟩
instance aDI:Inhabited Tr:=⟨.nil⟩
end
section
variable {β:Bool}
open Go.RowKit
def adH(l:List Pk)(v:Value)(w:World)(lo hi:Nat)(bZ:hi<=w.heap.size)(h:fP w lo hi l [v])(hn:(bE l).length<=4000000)(r:List Sp)(hr:IOf l r) :
  Calls (ah β) 50 #[v] w (aq1 w r):=by
 obtain⟨A,c,rfl⟩:=h.form;obtain⟨_,hc,hx⟩:=h.len_;unfold maxLen at hx;have HR:=ab hr;clear hr;go_enter yO,ntmps50;go_wp2;have ba:=aA w (.cells #[] 51);have l0:aF pJ 51 (w.alloc (.cells #[] 51)) w.heap.size (.slice (some ⟨w.heap.size,0,none⟩) 0 0) []:=aF.aqR (et.new _ _ (am _));generalize w.alloc (.cells #[] 51)=w0 at *;go_loopw [3,4] (λoo ii wr=>∃k:Nat,k<=l.length/\ii=.int .i64 k/\aF pJ 51 wr w.heap.size oo (cN (bE (l.take k)) [])/\(∀s∈bE (l.take k),spP s)/\Below w.heap.size w wr) (λoo ii _=>l.length-(intOf ii).toNat)
 case atStart=>exact⟨0,fb _,rfl,l0,λs t=>(by cases t),ba⟩
 case round=>
  clear l0 ba;obtain⟨k,hk,rfl,i,t,C⟩:=hrel;have HS:=ab t;clear t;have g2:=fP.aw.below h C bZ;by_cases a5:k<l.length
  .obtain⟨p,K⟩:=aq a5;replace K:=ab K;have R:Hid (∀s∈bC l k 0,spP s):=ab (by rw[iE];exact HS.out);rw[<-iE] at i;obtain⟨Ao,co,rfl⟩:=i.form;have M:=i;clear i HS;go_wp2;go_loopw [3,5] (λoo jj wy=>∃j:Nat,j<=p.its.length/\jj=.int .i64 j/\aF pJ 51 wy w.heap.size oo (cN (bC l k j) [])/\(∀s∈bC l k j,spP s)/\Below w.heap.size w wy) (λoo jj _=>p.its.length-(intOf jj).toNat)
   case atStart=>exact⟨0,fb _,rfl,M,R.out,C⟩
   case round=>
    clear M R g2 C;obtain⟨j,hj,rfl,i,t,f⟩:=hrel;have HS:=ab t;clear t;obtain⟨b1,aa,A1,c1,rfl,af,J,a9,S,U,X⟩:=acZ h K.out;have a3:=dJ f S;have a1:=dJ f U;have Z:=iD.aw.below X f bZ;obtain⟨_,al,a8⟩:=Z.len_;unfold maxLen at a8;clear S U X;have Q:=ac9 (j:=j) K.out;have N:=acE (a:=bC l k j) (l:=[]);have nU:(cN (bC l k j) []).length<=4000000:=by simp only[lw,sS] at N;omega
    clear N Q;by_cases a2:j<p.its.length
    .obtain⟨y,u⟩:=aq a2;obtain⟨b2,oM,rfl,_,_,ad,cn,cb⟩:=af5 Z u;have d:=abI K.out u;replace u:=ab u;replace d:=ab d;obtain⟨Ao,co,rfl⟩:=i.form;have T:=ab (λb O=>(i.at_ (g:=b) O).2);go_wp2;have aJ:=aj a3;have aN:=aj a1;have dN:=aj cn;refine cD 16 [0,1,2,3,4,5,6,7,8,9,10,11,12,13,14] [15] (h:= ?_);simp only[pick,List.map,pi,pm];repeat(go_big_quiet_step (fail))
     refine lE ?_;clear aJ aN dN;apply Exists.intro;apply dm (λv w'=>∃g,v=.pointer (some ⟨g,0,none⟩)/\wr.heap.size<=g/\bR w' g 51 #[.int .i64 0,.int .i64 0])
     .rfl
     .exact λv x y ⟨g,e,hg,hk⟩ hle=>⟨g,e,hg,av hk hle⟩
     .intro x Y Qx F;replace F:=ab F;clear Y;go_wp2;exact F.out _ _ (aA _ _) ⟨_,rfl,x.ok.size,bR.new _ _ _⟩
     intro u6;refine ep ?_;intro w2 J xx nJ Y;dsimp only[js] at Y;try rw[nJ] at Y
     clear nJ xx;obtain⟨⟨g,rfl,hg,kb⟩, -⟩:=Y;simp only[List.drop];have gw:=f.size;replace i:=i.below J;replace f:=ae f J;have I:=kb.cell;have a6:=kb.frozen;go_wp2;have n:=(kb.bM 0 (.int .i64 y.n)).bM 1 (.int .i64 p.no);simp only[dj,gt,gE] at n;have m:Below w.heap.size w ((w2.setCell ⟨g,0,none⟩ (.int .i64 y.n)).setCell ⟨g,1,none⟩ (.int .i64 p.no)):=(f.setCell (by dsimp only;omega) _).setCell (by dsimp only;omega) _;have o:aF pJ 51 ((w2.setCell ⟨g,0,none⟩ (.int .i64 y.n)).setCell ⟨g,1,none⟩ (.int .i64 p.no)) w.heap.size (.slice Ao (cN (bC l k j) []).length co) (cN (bC l k j) []):=
      (i.aqS _ (λb O=>by have:=T.out b O;dsimp only;omega)).aqS _ (λb O=>by have:=T.out b O;dsimp only;omega)
     clear I a6;generalize (w2.setCell ⟨g,0,none⟩ (.int .i64 y.n)).setCell ⟨g,1,none⟩ (.int .i64 p.no)=w3 at *;have I:=n.cell;obtain⟨q,W⟩:=anh (spP ⟨y.n,p.no⟩);refine(akT ⟨y.n,p.no⟩ w3 q W).mono ?_;rintro e w4 ⟨rfl,b4⟩;replace n:=av n b4;have I:=n.cell;replace o:=o.below b4;replace m:=ae m b4;cases q with
     |false=>
      have P:¬spP ⟨y.n,p.no⟩:=λh=>by have:=W.2 h;cases this
      have a4:r=[]:=by
       rcases HR.out with⟨h,_⟩|⟨_,h⟩
       .exact absurd (h _ (ac8 (k:=k) (j:=j+1) _ (by rw[d.out];simp))) P
       .exact h
      subst a4;clear W P;have ba:=aA w4 (.cells #[] 51);go_wp2;go_ret;exact⟨_,rfl,aF.aqR (et.new _ _ (m.size)),ae m ba⟩
     |true=>
      have B:=W.1 rfl;replace B:=ab B;clear W;have D:=ab nU;have V:=acD (a:=bC l k j) (l:=[]) List.Pairwise.nil;have E:=ab V;clear V;have a0:∀z∈cN (bC l k j) [],pJ.good z:=λz hz=>by
       rcases acH hz with h|h
       .have:=HS.out z h;unfold spP at this;show bF z.n/\bF z.p;unfold bF;omega
       .cases h
      have G:=ab a0;clear a0;have eU:cN (bC l k (j+1)) []=dz ⟨y.n,p.no⟩ (cN (bC l k j) []):=by
       rw[d.out,mY];rfl
      have kD:=ab eU;clear eU;have H:∀s∈bC l k (j+1),spP s:=λs t=>by
       rw[d.out] at t;rcases ge.1 t with h|h
       .exact HS.out s h
       .rw[jn.1 h];exact B.out
      replace H:=ab H;revert o D E G kD;generalize cN (bC l k j) []=L;intro o D E G kD;go_wp2;refine(aoM ⟨y.n,p.no⟩ (by have:=B.out;unfold spP at this;unfold bF;omega) L _ w4 _ _ (am _) (o.sl G.out (am _)) E.out (by have:=D.out;omega)).mono ?_;rintro e w5 ⟨v5,rfl,o5,b5⟩;obtain⟨A5,c5,rfl⟩:=o5.form;go_wp2;go_roundw
      case rel=>exact⟨j+1,by omega,by go_num,by rw[kD.out];exact o5.base m.size,H.out,ae m b5⟩
      simp[intOf];omega
    .obtain rfl:j=p.its.length:=by omega
     have he:=ac7 K.out;replace he:=ab he;have a7:Hid (∀s∈bE (l.take (k+1)),spP s):=ab (by rw[<-he.out];exact HS.out);obtain⟨Ao,co,rfl⟩:=i.form;go_wp2;go_roundw
     case rel=>exact⟨k+1,by omega,by go_num,by rw[<-he.out];exact i,a7.out,f⟩
     simp[intOf];omega
  .obtain rfl:k=l.length:=by omega
   have lX:r=cN (bE l) []:=by
    have h1:=HS.out;rw[gn] at h1;rcases HR.out with⟨_,h⟩|⟨h,_⟩
    .exact h
    .exact absurd h1 h
   replace lX:=ab lX;clear HS;rw[gn,<-lX.out] at i;obtain⟨Ao,co,rfl⟩:=i.form;go_wp2;go_ret;exact⟨_,rfl,i,C⟩
def adC(l:List Pk)(v:Value)(w:World)(lo hi:Nat)(bZ:hi<=w.heap.size)(h:fP w lo hi l [v])(hn:(bE l).length<=4000000)(r:List Sp)(hr:IOf l r) :
  Calls (ah β) 8 #[v] w (aq1 w r):=by
 obtain⟨A,c,rfl⟩:=h.form;obtain⟨_,hc,hx⟩:=h.len_;unfold maxLen at hx;have HR:=ab hr;clear hr;go_enter qF8,ntmps8;go_wp2;go_loopw [3,11] (λT ii wr=>∃k:Nat,k<=l.length/\ii=.int .i64 k/\aF pJ 51 wr w.heap.size T (bE (l.take k))/\(∀s∈bE (l.take k),spP s)/\Below w.heap.size w wr) (λT ii _=>l.length-(intOf ii).toNat)
 case atStart=>exact⟨0,fb _,rfl,aF.nil _ _ _,λs f=>(by cases f),gc _ _⟩
 case round=>
  obtain⟨k,hk,rfl,b,f,m⟩:=hrel;have HS:=ab f;clear f;have g2:=fP.aw.below h m bZ;obtain⟨u,x,rfl⟩:=b.form;by_cases ad:k<l.length
  .obtain⟨p,M⟩:=aq ad;replace M:=ab M;have Q:Hid (∀s∈bC l k 0,spP s):=ab (by rw[iE];exact HS.out);rw[<-iE] at b;have o:(bE (l.take k)).length=(bC l k 0).length:=by rw[iE]
   rw[o];clear o HS;obtain⟨b1,b4,A1,c1,rfl,b8,b5,aS,V,X,S⟩:=acZ h M.out;obtain⟨_,b9,aJ⟩:=S.len_;have a8:=dJ m V;have a4:=dJ m X;clear V X;unfold maxLen at aJ;go_wp2;generalize R:wr.alloc (.cells #[.int .i64 p.no,.slice A1 p.its.length c1] 32)=wa at *;obtain⟨fD,b0,g,a0,aM⟩:=iN R;clear R;replace b:=b.below fD;have Y:=ae m fD;go_loopw [3,18] (λT jj wy=>∃j:Nat,j<=p.its.length/\jj=.int .i64 j/\aF pJ 51 wy w.heap.size T (bC l k j)/\(∀s∈bC l k j,spP s)/\Below w.heap.size w wy/\bR wy wr.heap.size 32 #[.int .i64 p.no,.slice A1 p.its.length c1]) (λT jj _=>p.its.length-(intOf jj).toNat)
   case atStart=>exact⟨0,fb _,rfl,b,Q.out,Y,g⟩
   case round=>
    clear b Q g2 g a0 aM a8 a4 Y;obtain⟨j,hj,rfl,b,f,d,g⟩:=hrel;have HS:=ab f;clear f;have al:=iD.aw.below S d bZ;have a0:=g.cell;have P:=ac9 (j:=j) M.out;obtain⟨u,x,rfl⟩:=b.form;by_cases a5:j<p.its.length
    .obtain⟨y,B⟩:=aq a5;obtain⟨b2,oM,rfl,_,_,b7,cn,cb⟩:=af5 al B;have n:=abI M.out B;replace B:=ab B;have HST:=ab n;clear n;have ax:=aA wr (.cells #[.int .i64 y.n,.string y.b] 49);have an:=(av g ax).cell;go_wp2;clear ax an;generalize R:(wr.alloc (.cells #[.int .i64 y.n,.string y.b] 49)).alloc (.cells #[.int .i64 y.n,.int .i64 p.no] 51)=wb at *;obtain⟨H,aZ,m0,b6,b3,m1,ay,aa⟩:=akM R;clear R;replace g:=av g H;replace b:=b.below H;replace d:=ae d H;obtain⟨q,Z⟩:=anh (spP ⟨y.n,p.no⟩);refine(akS ⟨y.n,p.no⟩ wb q Z).mono ?_;rintro e U ⟨rfl,K⟩;replace m1:=av m1 K;replace ay:=m1.cell;replace aa:=m1.frozen;replace g:=av g K;replace b:=b.below K;replace d:=ae d K;cases q with
     |false=>
      have O:¬spP ⟨y.n,p.no⟩:=λh=>by have:=Z.2 h;cases this
      have ao:r=[]:=by
       rcases HR.out with⟨h,_⟩|⟨_,h⟩
       .exact absurd (h _ (ac8 (k:=k) (j:=j+1) _ (by rw[HST.out];simp))) O
       .exact h
      subst ao;clear Z O;go_wp2;go_ret;exact⟨_,rfl,aF.nil _ _ _,d⟩
     |true=>
      have G:=Z.1 rfl;replace G:=ab G;clear Z;have E:Hid ((bC l k j).length<=4000000):=ab (by omega);have J:∀s∈bC l k (j+1),spP s:=λs f=>by
       rw[HST.out] at f;rcases ge.1 f with h|h
       .exact HS.out s h
       .rw[jn.1 h];exact G.out
      replace J:=ab J;clear P;revert b E HST;generalize bC l k j=L;intro HST b E;go_wp2_with(at_builtin;refine bU (F:=pJ) (v:=.slice u L.length x) rfl (.tmp 30) (.tmp 32) 34 rfl ly ⟨y.n,p.no⟩ rfl b rfl rfl (by have:=E.out;omega) d.size ?_;intro v8 w8 o8 N aN;obtain⟨A8,c8,rfl⟩:=o8.form;simp only[ap,eg,lw,mc] at o8);go_roundw
      case rel=>
       refine⟨j+1,by omega,by go_num,by rw[HST.out];exact o8,J.out,d.trans (N.below d.size λi hi f=>by have:=(b.at_ f).1;omega),bH g N λf=> ?_⟩;obtain⟨_,cs,hk⟩:=aqV b f;exact absurd (eA g hk) (by decide)
      case measure=>simp[intOf];omega
    .obtain rfl:j=p.its.length:=by omega
     have he:=ac7 M.out;replace he:=ab he;have af:Hid (∀s∈bE (l.take (k+1)),spP s):=ab (by rw[<-he.out];exact HS.out);go_wp2;go_roundw
     case rel=>exact⟨k+1,by omega,by go_num,by rw[<-he.out];exact b,af.out,d⟩
     simp[intOf];omega
  .obtain rfl:k=l.length:=by omega
   have lX:r=cN (bE l) []:=by
    have h1:=HS.out;rw[gn] at h1;rcases HR.out with⟨_,h⟩|⟨h,_⟩
    .exact h
    .exact absurd h1 h
   have D:=ab lX;clear lX;have a1:=HS;clear HS;rw[gn] at b ⊢;have a3:∀z∈bE l,pJ.good z:=λz hz=>by
    have h1:=a1.out;rw[gn] at h1;have:=h1 z hz;unfold spP at this;show bF z.n/\bF z.p;unfold bF;omega
   have I:=ab a3;clear a3 a1;have nU:(bE l).length<=4000000:=hn;revert b;revert nU;revert I;revert D;generalize bE l=L;intro D I nU b;go_wp2;have ba:=aA wr (.cells #[.slice u L.length x] 34);have W:bR (wr.alloc (.cells #[.slice u L.length x] 34)) wr.heap.size 34 #[.slice u L.length x]:=bR.new _ _ _;have f:awr (wr.alloc (.cells #[.slice u L.length x] 34)) w.heap.size (wr.alloc (.cells #[.slice u L.length x] 34)).heap.size [(.slice u L.length x,L)]:=by
    intro p hp;simp only[jp,rA,tR] at hp;subst hp;exact(b.below ba).sl I.out (am _)
   have a2:=ae m ba;generalize wr.alloc (.cells #[.slice u L.length x] 34)=w3 at *;refine(ak7 [(.slice u L.length x,L)] wr.heap.size 1 w3 _ _ (am _) W f (by simp) (by simp) (by simp)).mono ?_;rintro e U ⟨t,rfl,ht,K⟩;have C:t.list=r:=by
    rw[ht.list,D.out];show cN (L++[]) []=_;rw[tf]
   have aO:t.size<=100000000:=by
    rw[<-Tr.oO,C,D.out];have:=acE (a:=L) (l:=[]);simp only[lw,sS] at this;omega
   have a6:=ht.tin;replace C:=ab C;clear W f ba;go_wp2;refine(aqX t U U.heap.size _ [] (am _) (aF.nil _ _ _) a6 (by simp;omega)).mono ?_;rintro e w5 ⟨v5,rfl,o5,c5,_⟩;have a9:Below U.heap.size U w5:=c5.below (am _) λi _ h=>(by cases h);have a7:=ae (ae a2 K) a9;rw[qW,C.out] at o5;obtain⟨A5,c5,rfl⟩:=o5.form;go_wp2;go_ret;exact⟨_,rfl,o5.base (bd a2.size K.size),a7⟩
end
section
variable {β:Bool}
open Go.RowKit
def wI{l:List Z}{x:Z}(h:l[k]?=some x):l.drop k=x::l.drop (k+1):=by
 have a:=aG h;rw[tO a]
 congr 1
 rw[li a] at h;exact dq h
def ak8(xs:List Sp)(n:Int)(v:Value)(w:World)(lo hi:Nat)(h:cV RSp 2 w lo hi xs [v]) :
  Calls (ah β) 86 #[v,.int .i64 n] w λe p=>e=.returned (.int .i64 (dM n xs))/\w=p:=by
 obtain⟨A,c,rfl⟩:=h.form;obtain⟨_,y,q⟩:=h.len_;unfold maxLen at q;go_enter yz,ntmps86;go_wp2
 go_loop [5] (λi=>∃k:Nat,k<=xs.length/\i=.int .i64 k/\dM n xs=dM n (xs.drop k)) (λi=>xs.length-(intOf i).toNat)
 case atStart=>exact⟨0,fb _,rfl,by rw[rh]⟩
 case round=>
  obtain⟨k,u,rfl,a⟩:=hrel;replace a:=ab a;by_cases d:k<xs.length
  .obtain⟨x,f⟩:=aq d;obtain⟨t,o,rfl,_,_,r,g,s⟩:=aqY h f;have hd:dM n (xs.drop k)=if x.n=n then x.p else dM n (xs.drop (k+1)):=by rw[wI f];rfl
   replace hd:=ab hd;clear f;by_cases b:x.n=n
   .have m:(x.n ==n)=true:=mw.2 b;have j:=ab (a.out.trans (hd.out.trans (dk b)));clear b;go_wp2;go_ret;exact⟨by rw[j.out];rfl,rfl⟩
   .have m:(x.n ==n)=false:=fa.2 b;have j:=ab (a.out.trans (hd.out.trans (be b)));clear b;go_wp2
    go_round
    case rel=>exact⟨k+1,by omega,by go_num,j.out⟩
    simp[intOf];omega
  .obtain rfl:k=xs.length:=by omega
   have l:dM n xs=0:=by rw[a.out,List.drop_length];rfl
   replace l:=ab l;clear a;go_wp2;go_ret;exact⟨by rw[l.out];rfl,rfl⟩
open Classical in
noncomputable def dg(key:Int)(ix:List Sp)(o:List ByteArray)(p:ByteArray):List ByteArray:=if dM (bG key (bs p)) ix=0/\p∉o then o++[p] else o
noncomputable def nj(key:Int)(ix:List Sp)(o l:List ByteArray):List ByteArray:=l.foldl (dg key ix) o
def oT(t:List Nd):List ByteArray:=t.flatMap λf=>gb f.b
noncomputable def aad(key:Int)(ix:List Sp)(t:List Nd):List ByteArray:=nj key ix [] (oT t)
def aiS{ix:List Sp}{o:List ByteArray}(h:dM (bG key (bs p)) ix=0)(a:p∉o):dg key ix o p=o++[p]:=dk ⟨h,a⟩
def aeN{ix:List Sp}{o:List ByteArray}(h:¬(dM (bG key (bs p)) ix=0/\p∉o)):dg key ix o p=o:=be h
def aoT{ix:List Sp}{o l:List ByteArray}(h:l[k]?=some p):nj key ix o (l.take (k+1))=dg key ix (nj key ix o (l.take k)) p:=by
 unfold nj;rw[nF h,sJ];rfl
def aoU{ix:List Sp}{t:List Nd}{f:Nd}(h:t[k]?=some f):aad key ix (t.take (k+1))=nj key ix (aad key ix (t.take k)) (gb f.b):=by
 unfold aad nj oT;rw[nF h,rM,sJ];simp
def abM{key:Int}{ix:List Sp}:∀(l o:List ByteArray),(nj key ix o l).length<=o.length+l.length
 |[],o=>am _
 |p::l,o=>by
  have a:=abM (key:=key) (ix:=ix) l (dg key ix o p);have b:(dg key ix o p).length<=o.length+1:=by
   unfold dg;split
   .rw[ap];exact am _
   .exact Nat.le_succ _
  show(nj key ix (dg key ix o p) l).length<=_;rw[eg];omega
def aeO{key:Int}{ix:List Sp}{x:ByteArray}:∀{l o:List ByteArray},x∈nj key ix o l->x∈o\/x∈l
 |[],o,h=>.inl h
 |p::l,o,h=>by
  rcases aeO (l:=l) (o:=dg key ix o p) h with h|h
  .unfold dg at h;split at h
   .rcases ge.1 h with h|h
    .exact .inl h
    .rw[jn.1 h];exact .inr (by simp)
   .exact .inl h
  .exact .inr (qE _ h)
def acI:∀{t:List Nd},(∀x∈t,dn x.b=true)->(oT t).length<=40*t.length
 |[],_=>fb _
 |f::t,h=>by
  have c:=acI (t:=t) λx b=>h x (qE _ b);have d:=abK f.b;have a:=h f (by simp);unfold dn at a;simp only[fd,qH] at a;show(gb f.b++oT t).length<=_;rw[ap,eg];omega
def iW(h:dn s=true):s.size<=40/\(bs s).all oH=true:=by
 unfold dn at h;simpa using h
def aiT{t:List Nd}(h:∀x∈t,dn x.b=true):∀x∈oT t,bg (bs x):=λx a=>by
 obtain⟨f,b,a⟩:=qa.1 a;exact kN (iW (h f b)).2 x a
def kP{ix:List Sp}{t:List Nd}(h:∀x∈t,dn x.b=true):∀x∈aad key ix t,bg (bs x):=λx b=>by
 rcases aeO b with a|a
 .cases a
 .exact aiT h x a
def kQ{x:ByteArray}(h:bg (bs x)):iF.good x:=by
 have:=h.1.2;rw[aK] at this;show x.size<=maxLen;unfold maxLen;omega
def aul(w:World)(xs:List ByteArray)(e:Ending)(w':World):Prop:=∃v,e=.returned v/\aF iF 9 w' w.heap.size v xs/\Below w.heap.size w w'
def ak9(key:Int)(hk:1<=key/\key<=99)(t:List Nd)(S:∀x∈t,dn x.b=true)(hl:t.length<=1000)(ix:List Sp)(vt vi:Value)(w:World)(lo hi:Nat)(bZ:hi<=w.heap.size)(h1:eY w lo hi t [vt])(h2:cV RSp 2 w lo hi ix [vi]) :
  Calls (ah β) 49 #[.int .i64 key,vt,vi] w (aul w (aad key ix t)):=by
 replace S:=ab S;obtain⟨A,c,rfl⟩:=h1.form;obtain⟨A2,c2,rfl⟩:=h2.form;obtain⟨_,hc,n⟩:=h1.len_;unfold maxLen at n;go_enter yP,ntmps49;go_wp2;have W:=aA w (.cells #[] 9);have R:aF iF 9 (w.alloc (.cells #[] 9)) w.heap.size (.slice (some ⟨w.heap.size,0,none⟩) 0 0) []:=(et.new w 9 (am _)).own 1;generalize w.alloc (.cells #[] 9)=w0 at *;go_loopw [7,8] (λoo ii wr=>∃k:Nat,k<=t.length/\ii=.int .i64 k/\aF iF 9 wr w.heap.size oo (aad key ix (t.take k))/\Below w.heap.size w wr) (λ_ ii _=>t.length-(intOf ii).toNat)
 case atStart=>exact⟨0,fb _,rfl,R,W⟩
 case round=>
  clear R W;obtain⟨k,aO,rfl,a,l⟩:=hrel;obtain⟨J,ad⟩:∃J,J=wr:=⟨_,rfl⟩;subst ad;by_cases a5:k<t.length
  .obtain⟨f,z⟩:=aq a5;have E:=iW (S.out f (da z));obtain⟨b1,aJ,rfl,_,_,ax,lz,af⟩:=kO (eY.aw.below h1 l bZ) z;have s:=aoU (key:=key) (ix:=ix) z;have a9:(aad key ix (t.take k)).length<=40000:=by
    have a1:=abM (key:=key) (ix:=ix) (oT (t.take k)) [];have a2:=acI (t:=t.take k) λx n=>S.out x (oS n);rw[ff] at a2;show(nj key ix [] (oT (t.take k))).length<=_;simp only[lw,mc] at a1;omega
   have a3:=kP (key:=key) (ix:=ix) (t:=t.take k) λx n=>S.out x (oS n);have D:=kN E.2;have jG:=abK f.b;have aS:=E.1;have HS:=ab s;have HP:=ab a3;have T:=ab D;have HC:=ab (af8 (β:=β) f.b (by omega));clear z s a3 D E;revert HS;revert HP;generalize aad key ix (t.take k)=base at a a9;intro HP HS;obtain⟨A0,c0,rfl⟩:=a.form;go_wp2;refine(HC.out J).mono ?_;rintro e w1 ⟨v1,rfl,op,u⟩;clear HC;obtain⟨Ap,cp,rfl⟩:=op.form;have a0:=a.below u;have C:=ae l u;have P:∀g,(Value.slice A0 base.length c0).ownBlock=some g->g<J.heap.size\/w1.heap.size<=g:=λg hg=>.inl (a.at_ hg).2;have B:=(op.deep (λx n=>kQ (T.out x n)) J.heap.size).sl (am _);have zo:=l.size;have z1:=u.size;revert HS;revert T;revert jG;revert B;generalize gb f.b=ps;intro B jG T HS;have HO:=ab a0;replace C:=ab C;have M:=ab B;have d:=ab P;clear a l a0 B op P u af lz;go_wp2;go_loopw [7,10] (λoo jj wr=>∃j:Nat,j<=ps.length/\jj=.int .i64 j/\aF iF 9 wr w.heap.size oo (nj key ix base (ps.take j))/\Below w.heap.size w wr/\df wr J.heap.size w1.heap.size ps [.slice Ap ps.length cp]/\(∀g,oo.ownBlock=some g->g<J.heap.size\/w1.heap.size<=g)/\w1.heap.size<=wr.heap.size) (λ_ jj _=>ps.length-(intOf jj).toNat)
   case atStart=>exact⟨0,fb _,rfl,HO.out,C.out,M.out,d.out,am _⟩
   case round=>
    clear HO C M d;obtain⟨j,ao,rfl,a,l,hr,Z,hz⟩:=hrel;by_cases a8:j<ps.length
    .obtain⟨p,y⟩:=aq a8;have al:=T.out p (da y);obtain⟨b2,oM,rfl,aN,ay,aM,a7⟩:=kL hr y;have eU:=aoT (key:=key) (ix:=ix) (o:=base) y;have L:=abM (key:=key) (ix:=ix) (ps.take j) base;rw[ff] at L;have O:∀x∈nj key ix base (ps.take j),iF.good x:=λx n=>by
      rcases aeO n with h|h
      .exact kQ (HP.out x h)
      .exact kQ (T.out x (oS h))
     have an:=RSp.loc;have N:cV RSp 2 wr lo hi ix [.slice A2 ix.length c2]:=(cV.loc RSp.loc).below h2 l bZ;have Y:=ab eU;have H:=ab O;have aa:=ab N;have d:=ab Z;have M:=ab hr;have U:=ab (aaM (β:=β) key p hk al wr);clear an eU O N Z hr y;revert Y;revert H;generalize nj key ix base (ps.take j)=o at a L;intro H Y;obtain⟨Ao,co,rfl⟩:=a.form;have K:=(a.deep H.out w.heap.size).sl (am _);replace K:=ab K;have nU:o.length<=50000:=by omega
     clear L;go_wp2;refine U.out.mono ?_;rintro e w2 ⟨rfl,rfl⟩;clear U;have I:=ab (ak8 (β:=β) ix (bG key (bs p)) _ wr lo hi aa.out);obtain⟨r,lX⟩:∃r,r=dM (bG key (bs p)) ix:=⟨_,rfl⟩;rw[<-lX] at I;replace lX:=ab lX;go_wp2;refine I.out.mono ?_;rintro e w2 ⟨rfl,rfl⟩;clear I;by_cases m:r=0
     .have t1:(r ==0)=true:=mw.2 m;have a4:=ab (lX.out.symm.trans m);clear m;obtain⟨q,hq⟩:=pC (p∈o);have V:=ab (aoO (β:=β) o p _ wr _ _ K.out q hq);cases q with
      |true=>
       have X:Hid (dg key ix o p=o):=ab (aeN λh=>h.2 (hq.1 rfl));clear hq;go_wp2;refine V.out.mono ?_;rintro e w2 ⟨rfl,rfl⟩;go_wp2;go_roundw
       case rel=>exact⟨j+1,by omega,by go_num,by rw[Y.out,X.out];exact a,l,M.out,d.out,hz⟩
       simp[intOf];omega
      |false=>
       have X:Hid (dg key ix o p=o++[p]):=ab (aiS a4.out λh=>by have:=hq.2 h;cases this);clear hq;go_wp2;refine V.out.mono ?_;rintro e w2 ⟨rfl,rfl⟩;have Q:∀hs:(Value.slice Ao o.length co).ownBlock=some b2,False:=λhs=>by
        have:=d.out _ hs;omega
       replace Q:=ab Q;go_wp2_with(at_builtin;refine bU (F:=iF) (v:=.slice Ao o.length co) rfl (.tmp 48) (.tmp 53) 92 rfl abJ p rfl a rfl rfl (by omega) l.size ?_;intro va wa oa G a6;obtain⟨Aa,ca,rfl⟩:=oa.form;simp only[ap,eg,lw,mc] at oa);go_roundw
       case rel=>
        refine⟨j+1,by omega,by go_num,by rw[Y.out,X.out];simpa using oa,l.trans (G.below l.size λi hi n=>by have:=(a.at_ n).1;omega),df.aw.dQ M.out G λb b1 b2 _ hs=>by have:=d.out _ hs;omega,λg hg=> ?_,bd hz G.size⟩;rcases a6 g (by simpa using hg) with h|h
        .exact d.out g h
        .exact .inr (by omega)
       case measure=>simp[intOf];omega
     .have t1:(r ==0)=false:=fa.2 m;have X:Hid (dg key ix o p=o):=ab (aeN λh=>m (lX.out.trans h.1));clear m;go_wp2;go_roundw
      case rel=>exact⟨j+1,by omega,by go_num,by rw[Y.out,X.out];exact a,l,M.out,d.out,hz⟩
      simp[intOf];omega
    .obtain rfl:j=ps.length:=by omega
     rw[gn] at a;rw[<-HS.out] at a;have HO:=ab a;clear a;go_wp2;go_roundw
     case rel=>exact⟨k+1,by omega,by go_num,HO.out,l⟩
     simp[intOf];omega
  .obtain rfl:k=t.length:=by omega
   rw[gn] at a;obtain⟨A0,c0,rfl⟩:=a.form;go_wp2;go_ret;exact⟨_,rfl,a,l⟩
end
section
variable {β:Bool}
open Go.RowKit
def aoV {P:Program} (t e:TypeId) (z:Value) (f a:Nat) (j:P.underlying t=some (.slice e)) (d:(P.info? e).map (λi=>(i.zero,i.size,i.bytes))=some (some z,f,a))
  (n:Nat) (b:a*n<=281474976710656) (p:n<=9223372036854775807) (w:World) :
  (Instr.makeSlice t (.int .i64 (n:Int)) (.int .i64 (n:Int))).run P w=.ok (.slice (some ⟨w.heap.size,0,none⟩) n n) (w.alloc (.cells (madeCells z.cells (n*f)) e)):=by
 obtain⟨i,m,o,l,k⟩:=info_parts d;have c:(i.bytes:Int)*(n:Int)<=281474976710656:=by
  have h:((i.bytes*n:Nat):Int)<=281474976710656:=by rw[k];omega
  rwa [Int.natCast_mul] at h
 have g:=run_make (P:=P) w t e i z j m o .i64 .i64 n n (by omega) (ui _) c (by omega);simp only[sK,l] at g;exact g
end
section
variable {β:Bool}
open Go.RowKit
section
variable {α:Type} {E:fU α} {T:List TypeId} {sz:Nat} {e:TypeId}
def Els(E:fU α)(sz:Nat)(w:World)(lo hi:Nat)(xs:List α)(cells:List Value):Prop:=
 cells.length=xs.length*sz/\(∀u∈cells,u.oneCell'=true)/\∃m:Nat->Nat,(∀i,m i<=m (i+1))/\lo<=m 0/\m xs.length<=hi/\
  ∀i x,xs[i]?=some x->∃a:List Value,a.length=sz/\E w (m i) (m (i+1)) x a/\∀j u,a[j]?=some u->cells[i*sz+j]?=some u
def dW{m:Nat->Nat}(h:∀i,m i<=m (i+1)){i:Nat}:∀{j:Nat},i<=j->m i<=m j
 |0,hj=>by obtain rfl:i=0:=by omega
           exact am _
 |j+1,hj=>by
  by_cases a:i=j+1
  .rw[a];exact am _
  .exact bd (dW h (show i<=j by omega)) (h j)
def Els.nil(h:lo<=hi):Els E sz w lo hi [] []:=⟨by simp,λ_ h=>(by cases h),λ_=>lo,λ_=>am _,am _,h,λi x h=>by simp at h⟩
def Els.go(g:dV E T){oG hi' : Nat}{xs:List α}(h:Els E sz w lo hi xs S)(k:∀b,lo<=b->b<hi->Typed w T b->w'.heap[b]?=w.heap[b]?)(t:oG<=lo)(r:hi<=hi'):Els E sz w' oG hi' xs S:=by
 obtain⟨a,b,m,c,q,s,o⟩:=h;refine⟨a,b,m,c,by omega,by omega,λi x hi=> ?_⟩;obtain⟨j,l,f,n⟩:=o i x hi;have d:=aG hi;have v:=dW c (fb i);have y:=dW c (show i+1<=xs.length by omega);exact⟨j,l,g.go (λb p u e=>k b (by omega) (by omega) e) (am _) (am _) f,n⟩
def Els.snoc{xs:List α}(h:Els E sz w lo Y xs S){y:α}{es:List Value}(o:es.length=sz)(B:∀u∈es,u.oneCell'=true)(H:Y<=hi)(D:E w Y hi y es)(C:∀a b,a<=Y->E w Y hi y es->E w a b y es->True:=λ_ _ _ _ _=>trivial):Lcy E->Els E sz w lo hi (xs++[y]) (S++es):=by
 intro g;clear C;obtain⟨a,b,m,p,q,r,G⟩:=h;refine⟨by rw[ap,ap,a,o,nf,Nat.add_mul,Nat.one_mul],λu d=> ?_,λi=>if i<=xs.length then m i else hi,λi=> ?_, ?_, ?_,λi x c=> ?_⟩
 .rcases ge.1 d with d|d
  .exact b u d
  .exact B u d
 .show(if i<=xs.length then m i else hi)<=(if i+1<=xs.length then m (i+1) else hi);by_cases n:i+1<=xs.length
  .rw[dk n,dk (by omega)];exact p i
  .rw[be n];by_cases k:i<=xs.length
   .rw[dk k];have:=dW p k;omega
   .rw[be k];exact am _
 .show lo<=(if 0<=xs.length then m 0 else hi);rw[dk (fb _)];exact q
 .show(if(xs++[y]).length<=xs.length then _ else hi)<=hi;rw[be (by rw[ap,nf];omega)];exact am _
 .rcases oR i xs.length with f|z
  .rw[qy f] at c;obtain⟨l,A,v,F⟩:=G i x c;refine⟨l,A, ?_,λj u d=> ?_⟩
   .show E w (if i<=xs.length then m i else hi) (if i+1<=xs.length then m (i+1) else hi) x l;rw[dk (by omega),dk (by omega)];exact v
   .have I:=aG d;have t:(i+1)*sz<=xs.length*sz:=rF _ f;rw[rN] at t;rw[qy (by omega)];exact F j u d
  .rw[qm z] at c;have s:i-xs.length=0:=by have:=aG c;simp at this;omega
   rw[s] at c;simp at c;subst c;have e:i=xs.length:=by omega
   refine⟨es,o, ?_,λj u d=> ?_⟩
   .show E w (if i<=xs.length then m i else hi) (if i+1<=xs.length then m (i+1) else hi) y es;rw[dk (by omega),be (by omega),e];exact g.wide D r (am _)
   .rw[e,qm (by omega),a,rZ];exact d
def Els.at_(L:dV E T){xs:List α}(h:Els E sz w lo hi xs S){x:α}(v:xs[i]?=some x) :
  ∃m l g,lo<=m/\m<=l/\l<=hi/\g.length=sz/\E w m l x g/\(∀j u,g[j]?=some u->S[i*sz+j]?=some u)/\
   ∀(n:World) (y:α) (d:List Value),d.length=sz->(∀u∈d,u.oneCell'=true)->(∀b,lo<=b->b<hi->Typed w T b->¬(m<=b/\b<l)->n.heap[b]?=w.heap[b]?)->E n m l y d->
    ∀c:List Value,c.length=S.length->(∀k,¬(i*sz<=k/\k<i*sz+sz)->c[k]?=S[k]?)->(∀j u,d[j]?=some u->c[i*sz+j]?=some u)->(∀u∈c,u.oneCell'=true)->Els E sz n lo hi (xs.set i y) c:=by
 obtain⟨a,b,m,e,B,C,A⟩:=h;have p:=aG v;obtain⟨g,Q,K,R⟩:=A i x v;have l1:=dW e (fb i);have l2:=dW e (show i+1<=xs.length by omega);refine⟨m i,m (i+1),g,by omega,e i,by omega,Q,K,R,λn y d M X O N c J r q s=>⟨by rw[J,a,qM],s,m,e,B,by rw[qM];exact C,λk z f=> ?_⟩⟩;by_cases o:i=k
 .subst o;rw[sj p] at f;cases f;exact⟨d,M,N,q⟩
 .rw[sM o] at f;obtain⟨G,I,H,P⟩:=A k z f;have D:=aG f;have U:=dW e (fb k);have Z:=dW e (show k+1<=xs.length by omega);refine⟨G,I,L.go (λb V Y F=>O b (by omega) (by omega) F λW=> ?_) (am _) (am _) H,λj u t=> ?_⟩
  .rcases Nat.lt_or_gt_of_ne o with h|h
   .have:=dW e (show i+1<=k by omega);omega
   .have:=dW e (show k+1<=i by omega);omega
  .rw[r _ (by
    have hj:=aG t;rcases Nat.lt_or_gt_of_ne o with h|h
    .have:(i+1)*sz<=k*sz:=rF _ h;rw[rN] at this;omega
    .have:(k+1)*sz<=i*sz:=rF _ h;rw[rN] at this;omega)]
   exact P j u t
def cE(e:TypeId)(E:fU α)(sz:Nat):fU (List α):=λw b c a d=>
 ∃(v:Value) (cells:List Value),d=[v]/\w.ownsRow b e sz v a.length cells/\(∀g,v.ownBlock=some g->g<c)/\Els E sz w b c a cells
def cE.form{xs:List α}(h:cE e E sz w lo hi xs [v]):∃A c,v=.slice A xs.length c:=by
 obtain⟨b,cells,a,h,_⟩:=h;cases a;exact jr h
def cE.aw(o:dV E T):dV (cE e E sz) (e::T):=by
 refine⟨?_⟩;intro w x B z u s y A l n j h;obtain⟨v,cells,rfl,i,m,f⟩:=h;refine⟨v,cells,rfl,⟨i.1, ?_⟩,λg a=>aE (m g a) j,f.go o (λb p q ⟨t,ht,hd⟩=>l b p q ⟨t,qE _ ht,hd⟩) n j⟩;rcases i.2 with r|⟨g,cap,c,rfl,k,a,d⟩
 .exact .inl r
 .refine .inr ⟨g,cap,c,rfl,bd n k, ?_,d⟩;rw[l g k (m g rfl) ⟨e,qQ,c,a⟩];exact a
def cE.sl{k:fU α}(d:Lcy k)(G:∀{w:World} {lo hi:Nat} {x:α} {b:List Value},E w lo hi x b->k w lo hi x b){xs:List α}(h:cE e E sz w lo hi xs cs):cV k sz w lo hi xs cs:=by
 obtain⟨v,cells,rfl,y,t,a,_,m,o,J,K,H⟩:=h;obtain⟨_,q⟩:=y;rcases q with⟨rfl,r⟩|⟨g,cap,l,rfl,s,A,n,f,C,I⟩
 .exact⟨none,0,by rw[r],by omega,by unfold maxLen;omega,λL=>by omega⟩
 .refine⟨_,cap,rfl,n,f,λ_=>⟨g,0,rfl,s,t g rfl,λi x hi=> ?_⟩⟩;obtain⟨b,D,z,F⟩:=H i x hi;have p:=aG hi;have M:=dW o (fb i);have N:=dW o (show i+1<=xs.length by omega);refine⟨b,D,d.wide (G z) (by omega) (by omega),λj u B=> ?_⟩;have c:=F j u B;rw[<-I,qX] at c;split at c
  .rw[cell_of_row w g (0+i*sz+j) l _ (0,0) A,mc];simpa using c
  .cases c
def cE.slT{f:fU α}(a:Lcy f)(o:∀{w:World} {lo hi:Nat} {x:α} {i:List Value},E w lo hi x i->f w lo hi x i){xs:List α}(h:cE e E sz w lo hi xs cs):eL e f sz w lo hi xs cs:=by
 refine⟨h.sl a o,λq b l n c j=> ?_⟩;obtain⟨v,cells,rfl,p,r,_⟩:=h;simp only[qb,ql] at j;subst j;rcases p.2 with⟨d,_⟩|⟨g,cap,k,d,_,m,_⟩
 .cases d
 .cases d;exact⟨_,m⟩
def cE.some_{xs:List α}(h:cE e E sz w lo hi xs [v])(k:0<xs.length):∃g c,v=.slice (some ⟨g,0,none⟩) xs.length c/\lo<=g/\g<hi/\g<w.heap.size/\∃j,bR w g e j:=by
 obtain⟨l,cells,i,h,f,_⟩:=h;cases i;rcases h.2 with⟨_,m⟩|⟨g,cap,a,rfl,d,b,_⟩
 .omega
 .exact⟨g,cap,rfl,d,f g rfl,(show bR w g e a from b).lt,a,b⟩
def cE.frozen{xs:List α}(h:cE e E sz w lo hi xs [.slice (some ⟨g,0,none⟩) n c])(j:Nat):w.frozen? ⟨g,j,none⟩=false:=by
 obtain⟨d,cells,a,h,i,_⟩:=h;cases a;obtain⟨A,f,b⟩:=jr h;cases b;exact h.frozenAt j
def cE.at_(P:dV E T)(B:e∉T){xs:List α}(h:cE e E sz w lo hi xs [.slice (some ⟨g,0,none⟩) n c]){x:α}(I:xs[i]?=some x) :
  ∃m a d,lo<=m/\m<=a/\a<=hi/\d.length=sz/\E w m a x d/\(∀j u,d[j]?=some u->w.cell? ⟨g,i*sz+j,none⟩=some u)/\
   ∀(k:World) (y:α),bq (λb=>m<=b/\b<a/\Typed w T b) w k->E k m a y d->cE e E sz k lo hi (xs.set i y) [.slice (some ⟨g,0,none⟩) n c]:=by
 obtain⟨V,cells,q,o,K,f⟩:=h;cases q;obtain⟨A,W,C⟩:=jr o;cases C;have r:=aG I;obtain⟨m,a,d,R,S,N,q,C,F,z⟩:=f.at_ P I;refine⟨m,a,d,R,S,N,q,C,λj u p=> ?_,λk y G Q=> ?_⟩
 .have J:=aG p;have l:(i+1)*sz<=xs.length*sz:=rF _ r;rw[rN] at l;rw[o.cellAt _ (by omega)];exact F j u p
 .have D:¬(m<=g/\g<a/\Typed w T g):=λ⟨_,_,t,s,M,hd⟩=>by
   rcases o.2 with⟨v,_⟩|⟨X,cap,O,v,_,L,_⟩
   .cases v
   .cases v;exact B (eA L hd▸s)
  refine⟨_,cells,rfl, ?_,K,z k y d q (λu p=> ?_) (λb U Y s l=> ?_) Q cells rfl (λ_ _=>rfl) F f.2.1⟩
  .rw[qM];exact ahb o G λb l=>by cases l;exact D
  .obtain⟨j,J⟩:=qZ p;exact f.2.1 u (da (F j u J))
  .obtain⟨t,_,M,hd⟩:=id s;exact G.block b hd.lt λH=>l ⟨H.1,H.2.1⟩
def cE.put(Q:dV E T)(L:e∉T){xs:List α}(h:cE e E sz w lo hi xs [.slice (some ⟨g,0,none⟩) n c]){x y:α}{u:Value}(N:xs[i]?=some x)(hj:j<sz)(U:u.oneCell'=true)(W:∀(O:World) (lo hi:Nat) (z:List Value),E O lo hi x z->E O lo hi y (z.set j u)) :
  cE e E sz (w.setCell ⟨g,i*sz+j,none⟩ u) lo hi (xs.set i y) [.slice (some ⟨g,0,none⟩) n c]:=by
 obtain⟨v',cells,F,D,V,o⟩:=h;cases F;obtain⟨A,c',C⟩:=jr D;cases C;have G:=aG N;have J:=(D.stored (i*sz+j) u).1;obtain⟨m,m',z,l1,l2,Z,F,C,X,K⟩:=o.at_ Q N;have I:¬Typed w T g:=λ⟨t,l,ds,hd⟩=>by
  rcases D.2 with⟨H,_⟩|⟨Y,cap,S,H,_,P,_⟩
  .cases H
  .cases H;exact L (eA P hd▸l)
 have s:∀b,Typed w T b->(w.setCell ⟨g,i*sz+j,none⟩ u).heap[b]?=w.heap[b]?:=λb l=>qp _ _ _ _ (by rintro rfl;exact I l);have d:∀v∈cells.set (i*sz+j) u,v.oneCell'=true:=λv p=>by
  rcases sL p with p|rfl
  .exact o.2.1 v p
  .exact U
 have r:∀f B,(z.set j u)[f]?=some B->(cells.set (i*sz+j) u)[i*sz+f]?=some B:=λf B a=>by
  by_cases q:j=f
  .subst q;rw[sj (by omega)] at a;rw[sj (by
    have R:(i+1)*sz<=xs.length*sz:=rF _ G;rw[rN] at R;rw[o.1];omega)]
   exact a
  .rw[sM q] at a;rw[sM (by omega)];exact X f B a
 refine⟨_,cells.set (i*sz+j) u,rfl,by rw[qM];exact J,V,K _ y (z.set j u) (by rw[qM];exact F) (λv p=> ?_) (λb b1 b2 l _=>s b l) (W _ _ _ _ (Q.go (λb _ _ l=>s b l) (am _) (am _) C)) _ (by rw[qM]) (λk P=> ?_) r d⟩
 .obtain⟨f,M⟩:=qZ p;exact d v (da (r f v M))
 .rw[sM (by omega)]
end
def aF.acJ{F:Flat Z}{base : Nat}(h:aF F e w base v xs)(b:∀x∈xs,F.good x)(c:base<=hi)(a:∀g,v.ownBlock=some g->g<hi):cE e (bY F) F.sz w base hi xs [v]:=
 ⟨v,dt F xs,rfl,h,a,eu F xs,pH F xs,λ_=>base,λ_=>am _,am _,c,λi x hi=>⟨F.cells x,F.len x,⟨rfl,b x (da hi)⟩,λ_ _ d=>gX F xs i _ x _ hi d⟩⟩
end
section
variable {β:Bool}
open Go.RowKit
structure Ls where
 p:ByteArray
 ns:List Int
structure Sn where
 no:Int
 all:List Ls
structure Hd where
 b:Int
 s:Int
structure dK where
 pk:List Pk
 sn:List Sn
 lg:List Hd
def FHd:Flat Hd:=⟨2,λx=>[.int .i64 x.b,.int .i64 x.s],λx=>bF x.b/\bF x.s,λ_=>rfl,λx u a=>by simp at a;rcases a with rfl|rfl<;>rfl,by decide⟩
abbrev aeQ:fU (List It):=cV (bY nX) 2
def ala:fU Pk:=λw a b x c=>∃v,c=[.int .i64 x.no,v]/\bF x.no/\aeQ w a b x.its [v]
abbrev kR:fU (List Pk):=cV ala 2
def aoW:fU Ls:=λw a b x c=>∃v,c=[.string x.p,v]/\x.p.size<=maxLen/\cV aeu 1 w a b x.ns [v]
abbrev oU:fU (List Ls):=cV aoW 2
def aoX:fU Sn:=λw a b x c=>∃v,c=[.int .i64 x.no,v]/\bF x.no/\oU w a b x.all [v]
abbrev mr:fU (List Sn):=cV aoX 2
abbrev aaq:fU (List Hd):=cV (bY FHd) 2
def aeQ.loc:Lcy aeQ:=cV.loc (bY.loc nX)
def ala.loc:Lcy ala:=⟨λh a b ⟨v,e,i,hr⟩=>⟨v,e,i,aeQ.loc.go h a b hr⟩⟩
def kR.loc:Lcy kR:=cV.loc ala.loc
def alb.loc:Lcy (cV aeu 1):=cV.loc aeu.loc
def aoW.loc:Lcy aoW:=⟨λh a b ⟨v,e,i,hr⟩=>⟨v,e,i,alb.loc.go h a b hr⟩⟩
def oU.loc:Lcy oU:=cV.loc aoW.loc
def aoX.loc:Lcy aoX:=⟨λh a b ⟨v,e,i,hr⟩=>⟨v,e,i,oU.loc.go h a b hr⟩⟩
def mr.loc:Lcy mr:=cV.loc aoX.loc
def aaq.loc:Lcy aaq:=cV.loc (bY.loc FHd)
def cV.axI{g : fU Z}(t:∀{w:World} {lo hi:Nat} {x:Z} {a:List Value},E w lo hi x a->g w lo hi x a)(h:cV E Y w lo hi xs cs):cV g Y w lo hi xs cs:=by
 obtain⟨A,c,f,l,q,p⟩:=h;refine⟨A,c,f,l,q,λo=> ?_⟩;obtain⟨b,e,m,k,j,d⟩:=p o;refine⟨b,e,m,k,j,λi x hi=> ?_⟩;obtain⟨a,r,n,s⟩:=d i x hi;exact⟨a,r,t n,s⟩
def RPk.l{x:Pk}(h:RPk w lo hi x cs):ala w lo hi x cs:=by
 obtain⟨v,e,i,a⟩:=h;exact⟨v,e,i,a.1⟩
def fP.l{x:List Pk}(h:fP w lo hi x cs):kR w lo hi x cs:=cV.axI RPk.l h.1
abbrev adI:fU (List It):=cE 49 (bY nX) 2
def OPk:fU Pk:=λw a b x c=>∃v,c=[.int .i64 x.no,v]/\bF x.no/\adI w a b x.its [v]
abbrev fE:fU (List Pk):=cE 32 OPk 2
abbrev aeR:fU (List Int):=cE 3 (bY gM) 1
def adI.aw:dV adI [49]:=cE.aw (bY.aw nX)
def OPk.aw:dV OPk [49]:=⟨λh a b ⟨v,e,i,hr⟩=>⟨v,e,i,adI.aw.go h a b hr⟩⟩
def fE.aw:dV fE [32,49]:=cE.aw OPk.aw
def aeR.aw:dV aeR [3]:=cE.aw (bY.aw gM)
def adI.l{x:List It}(h:adI w lo hi x cs):aeQ w lo hi x cs:=cE.sl (bY.loc nX) (λh=>h) h
def adI.t{x:List It}(h:adI w lo hi x cs):iD w lo hi x cs:=cE.slT (bY.loc nX) (λh=>h) h
def OPk.l{x:Pk}(h:OPk w lo hi x cs):ala w lo hi x cs:=by
 obtain⟨v,e,i,a⟩:=h;exact⟨v,e,i,adI.l a⟩
def OPk.t{x:Pk}(h:OPk w lo hi x cs):RPk w lo hi x cs:=by
 obtain⟨v,e,i,a⟩:=h;exact⟨v,e,i,adI.t a⟩
def fE.l{x:List Pk}(h:fE w lo hi x cs):kR w lo hi x cs:=cE.sl ala.loc OPk.l h
def fE.t{x:List Pk}(h:fE w lo hi x cs):fP w lo hi x cs:=cE.slT RPk.aw.loc OPk.t h
def aeR.l{x:List Int}(h:aeR w lo hi x cs):cV aeu 1 w lo hi x cs:=cE.sl aeu.loc (λh=>h) h
def OLs:fU Ls:=λw a b x c=>∃v,c=[.string x.p,v]/\x.p.size<=maxLen/\aeR w a b x.ns [v]
abbrev gh:fU (List Ls):=cE 91 OLs 2
def OSn:fU Sn:=λw a b x c=>∃v,c=[.int .i64 x.no,v]/\bF x.no/\gh w a b x.all [v]
abbrev gj:fU (List Sn):=cE 65 OSn 2
abbrev fF:fU (List Hd):=cE 71 (bY FHd) 2
def OLs.aw:dV OLs [3]:=⟨λh a b ⟨v,e,i,hr⟩=>⟨v,e,i,aeR.aw.go h a b hr⟩⟩
def gh.aw:dV gh [91,3]:=cE.aw OLs.aw
def OSn.aw:dV OSn [91,3]:=⟨λh a b ⟨v,e,i,hr⟩=>⟨v,e,i,gh.aw.go h a b hr⟩⟩
def gj.aw:dV gj [65,91,3]:=cE.aw OSn.aw
def fF.aw:dV fF [71]:=cE.aw (bY.aw FHd)
def OLs.l{x:Ls}(h:OLs w lo hi x cs):aoW w lo hi x cs:=by
 obtain⟨v,e,i,a⟩:=h;exact⟨v,e,i,aeR.l a⟩
def gh.l{x:List Ls}(h:gh w lo hi x cs):oU w lo hi x cs:=cE.sl aoW.loc OLs.l h
def OSn.l{x:Sn}(h:OSn w lo hi x cs):aoX w lo hi x cs:=by
 obtain⟨v,e,i,a⟩:=h;exact⟨v,e,i,gh.l a⟩
def gj.l{x:List Sn}(h:gj w lo hi x cs):mr w lo hi x cs:=cE.sl aoX.loc OSn.l h
def fF.l{x:List Hd}(h:fF w lo hi x cs):aaq w lo hi x cs:=cE.sl (bY.loc FHd) (λh=>h) h
def dG{α:Type}(f:α->Nat)(l:List α):Nat:=l.length+(l.map f).sum
def pM{a:Type}{f:a->Nat}:∀{l:List a} {x:a},x∈l->f x<=dG f l
 |[],_,h=>by cases h
 |y::l,x,h=>by
  have e:dG f (y::l)=dG f l+1+f y:=by unfold dG;simp only[eg,qL,um];omega
  rcases jp.1 h with rfl|h
  .omega
  .have:=pM (f:=f) h;omega
def iX{f:Z->Nat}{l:List Z}:l.length<=dG f l:=by unfold dG;omega
def bIt(x:It):Nat:=x.b.size
def bPk(x:Pk):Nat:=dG bIt x.its
def bLs(x:Ls):Nat:=x.p.size+x.ns.length
def bSn(x:Sn):Nat:=dG bLs x.all
def ma{α:Type}(n:α->Nat)(l:List α)(j:Nat):Nat:=((l.take j).map n).sum
def nS{α:Type}(n:α->Nat)(l:List α):Nat:=(l.map n).sum
def aaB{n:Z->Nat}{l:List Z}{x:Z}(h:l[j]?=some x):ma n l (j+1)=ma n l j+n x:=by
 unfold ma;rw[nF h,qR,List.sum_append];simp
def kg(n:Z->Nat)(l:List Z):ma n l l.length=nS n l:=by unfold ma nS;rw[gn]
def oB{n:Z->Nat}{l:List Z} :ma n l j<=nS n l:=by
 unfold ma nS;have h:l.map n=(l.take j).map n++(l.drop j).map n:=by rw[<-qR,tw]
 rw[h,List.sum_append];omega
def abO{c:Type}:∀(l:List c) (j:Nat) (a b:c),(l.set j a).set j b=l.set j b
 |[],_,_,_=>rfl
 |_::_,0,_,_=>rfl
 |x::l,j+1,a,b=>by show x::(l.set j a).set j b=x::l.set j b;rw[abO l j a b]
end
section
variable {β:Bool}
open Go.RowKit
def marks(k:Int):Nat->List Int
 |0=>[]
 |n+1=>marks k n++[k+n]
end
section
variable {β:Bool}
open Go.RowKit
structure aga (w:World) (lo hi:Nat) (s:dK) (va vb vc:Value):Prop where
 pk:kR w lo hi s.pk [va]
 sn:mr w lo hi s.sn [vb]
 lg:aaq w lo hi s.lg [vc]
structure fQ (w:World) (lo hi:Nat) (s:dK) (va vb vc:Value):Prop where
 pk:fE w lo hi s.pk [va]
 sn:gj w lo hi s.sn [vb]
 lg:fF w lo hi s.lg [vc]
def fQ.go{oG hi' : Nat}{s:dK}(h:fQ w lo hi s X W V)(d:∀b,lo<=b->b<hi->w'.heap[b]?=w.heap[b]?)(c:oG<=lo)(a:hi<=hi'):fQ w' oG hi' s X W V:=
 ⟨fE.aw.loc.go d c a h.pk,gj.aw.loc.go d c a h.sn,fF.aw.loc.go d c a h.lg⟩
def fQ.below{B : Nat}{s:dK}(h:fQ w lo hi s X W V)(a:Below B w w')(d:hi<=B):fQ w' lo hi s X W V:=h.go (λb _ c=>a.block b (by omega)) (am _) (am _)
def fQ.l{s:dK}(h:fQ w lo hi s X W V):aga w lo hi s X W V:=⟨fE.l h.pk,gj.l h.sn,fF.l h.lg⟩
def adB(s:dK):Nat:=dG bPk s.pk+dG bSn s.sn+s.lg.length
def axJ(w:World)(s:dK)(e:Ending)(w':World):Prop:=∃c a b,e=.returned (.agg #[c,a,b])/\fQ w' w.heap.size w'.heap.size s c a b/\Below w.heap.size w w'
end
section
variable {β:Bool}
open Go.RowKit
section
variable {P:Program} {α:Type} {E:fU α} {T:List TypeId} {sz:Nat} {e:TypeId}
def kS (F:dV E T) (D:e∉T) {p:Array Oper} {rest:List Oper} {o:Oper} {a:Act} {Q:Exit->Act->World->Prop} (r:o.guard=none) (s x:Operand) (t:TypeId)
  (V:o.op=.call ⟨.builtin .append,#[s,x],#[t,t]⟩)
  (A:gJ P t e sz Y)  {xs:List α} (y:α) (Z:a.eval s=v) (m:cE e E sz w lo U xs [v]) {es:Array Value} {M:TypeId} (hx:a.eval x=.slice (some ⟨g,0,none⟩) 1 1) (N:bR w g M es) (n:es.toList.length=sz) (J:∀u∈es.toList,u.oneCell'=true) (L:U<=hi) (W:E w U hi y es.toList) (bZ:hi<=w.heap.size)
  (hn:xs.length<=1099511627775) (f:lo<=w.heap.size)
  (h:∀i c,cE e E sz c lo c.heap.size (xs++[y]) [i]->bq (λb=>v.ownBlock=some b) w c->(∀b,i.ownBlock=some b->v.ownBlock=some b\/w.heap.size<=b)->wpList P p Q rest (a.put o.dst i) c) :
  wpList P p Q (o::rest) a w:=by
 obtain⟨v0,cells,e1,d,hg,G⟩:=m;cases e1;refine abz r s x t V A Z d hx (news:=es.toList) (by rw[n,Nat.one_mul]) (λ_=>⟨_,rfl,λj u X=>by
  have I:(⟨g,0,none⟩:Addr).add j=⟨g,j,none⟩:=by unfold Addr.add;split<;>simp_all
  rw[I,N.cell,<-dl];exact X⟩) J (by omega) f λi c k=>h i c ?_ k.dQ k.at_
 have C:∀b,v.ownBlock=some b->∃K,bR w b e K:=λb l=>by
  rcases d.2 with⟨rfl,_⟩|⟨g',cap,S,rfl,_,B,_⟩
  .cases l
  .cases l;exact⟨_,B⟩
 have q:∀b,Typed w T b->c.heap[b]?=w.heap[b]?:=λb ⟨t',ht',K,hd⟩=>k.dQ.block b hd.lt λl=>by
  obtain⟨O,H⟩:=C b l;exact D (eA H hd▸ht')
 have R:=k.dQ.size;refine⟨i,cells++es.toList,rfl,by rw[ap];exact k.own,λb l=>(k.own.lt b l).2, ?_⟩;have hS:=Els.snoc (E:=E) (G.go (oG:=lo) (hi':=U) F (λb _ _ z=>q b z) (am _) (am _)) (y:=y) (es:=es.toList) n J (hi:=c.heap.size) (by omega) (F.go (λb _ _ z=>q b z) (am _) (by omega) W);exact hS F.loc
end
def anj:gJ (ah β) 25 71 2 16:=gJ.mk' yl (z:=.agg #[.int .i64 0,.int .i64 0]) (by kernel_rfl) rfl (by decide) (by decide)
def ank:gJ (ah β) 63 91 2 40:=gJ.mk' yh (z:=.agg #[.string ⟨#[]⟩,.slice none 0 0]) (by kernel_rfl) rfl (by decide) (by decide)
def anl:gJ (ah β) 24 65 2 32:=gJ.mk' ym (z:=.agg #[.int .i64 0,.slice none 0 0]) (by kernel_rfl) rfl (by decide) (by decide)
end
section
variable {β:Bool}
open Go.RowKit
def lA{p:Prop}(h:p/\True):p:=h.1
def cE.ob(h:cE e E Y w lo hi xs [v])(a:v.ownBlock=some b):lo<=b/\b<hi/\b<w.heap.size:=by
 obtain⟨f,cells,c,h,d,_⟩:=h;cases c;exact⟨(h.lt b a).1,d b a,(h.lt b a).2⟩
end
section
variable {β:Bool}
open Go.RowKit
structure abP where
 k:Int
 n:Int
 m:Int
 b:ByteArray
def tW{α:Type}(l:List α)(i:Nat)(f:α->α):List α:=match l[i]? with|some x=>l.set i (f x)|none=>l
def agb(l:List Z)(i:Nat)(f:Z->Z):(tW l i f).length=l.length:=by
 unfold tW;split
 .rw[qM]
 .rfl
def anm(l:abP)(p:Pk):Pk:=if p.no=l.n/\0<=l.m/\l.m<p.its.length then⟨p.no,tW p.its l.m.toNat λx=>⟨x.n,l.b⟩⟩ else p
def ade(x:Hd):Hd:=⟨wrap64 (3-x.b),x.s⟩
def jX(s:dK)(l:abP):dK:=
 if l.k=1 then⟨s.pk.filter λp=>!(p.no ==l.n),s.sn,s.lg⟩
 else if l.k=2 then(if 0<=l.n/\l.n<=s.lg.length then⟨s.pk,s.sn.filter λx=>!((s.lg.drop l.n.toNat).any λh=>h.s ==x.no),s.lg.take l.n.toNat⟩ else s)
 else if l.k=3 then⟨s.pk.map (anm l),s.sn,s.lg⟩
 else if l.k=4 then(if 0<=l.n/\l.n<s.lg.length then⟨s.pk,s.sn,tW s.lg l.n.toNat ade⟩ else s)
 else s
def ahy{s:dK}{l:abP}(h:l.k=1):jX s l=⟨s.pk.filter λp=>!(p.no ==l.n),s.sn,s.lg⟩:=by unfold jX;rw[dk h]
def aeS{s:dK}{l:abP}(h:l.k=2)(a:0<=l.n/\l.n<=s.lg.length):jX s l=⟨s.pk,s.sn.filter λx=>!((s.lg.drop l.n.toNat).any λh=>h.s ==x.no),s.lg.take l.n.toNat⟩:=by unfold jX;rw[be (by omega),dk h,dk a]
def ahz{s:dK}{l:abP}(h:l.k=2)(a:¬(0<=l.n/\l.n<=s.lg.length)):jX s l=s:=by unfold jX;rw[be (by omega),dk h,be a]
def alc{s:dK}{l:abP}(h:l.k=3):jX s l=⟨s.pk.map (anm l),s.sn,s.lg⟩:=by unfold jX;rw[be (by omega),be (by omega),dk h]
def ald{s:dK}{l:abP}(h:l.k=4)(a:0<=l.n/\l.n<s.lg.length):jX s l=⟨s.pk,s.sn,tW s.lg l.n.toNat ade⟩:=by unfold jX;rw[be (by omega),be (by omega),be (by omega),dk h,dk a]
def ahA{s:dK}{l:abP}(h:l.k=4)(a:¬(0<=l.n/\l.n<s.lg.length)):jX s l=s:=by unfold jX;rw[be (by omega),be (by omega),be (by omega),dk h,be a]
def ale{s:dK}{l:abP}(a:¬l.k=1)(d:¬l.k=2)(b:¬l.k=3)(c:¬l.k=4):jX s l=s:=by unfold jX;rw[be a,be d,be b,be c]
end
section
variable {β:Bool}
open Go.RowKit
def mv{t:TypeId}{cs:Array Value}(a:bR w g t cs)(c:t∉T):¬Typed w T g:=λ⟨d,b,e,hd⟩=>c (eA a hd▸b)
def pN{U : List TypeId}(h:Typed w U b)(d:∀t∈T,t∉U):¬Typed w T b:=λ⟨e,f,i,hd⟩=>by
 obtain⟨t,c,g,a⟩:=h;exact d e f (eA a hd▸c)
end
section
variable {β:Bool}
open Go.RowKit
def cV.aqT(h:cV E Y w lo hi xs [.slice A n c])(z:k<=xs.length):cV E Y w lo hi (xs.drop k) [.slice (if c=k then A else A.map λx=>x.add (k*Y)) (xs.length-k) (c-k)]:=by
 obtain⟨A',y,g,B,C,t⟩:=h;simp only[qb,pX,ql] at g;obtain⟨rfl,rfl,rfl⟩:=g;refine⟨_,c-k,by rw[pY],by rw[pY];omega,by omega,λq=> ?_⟩;rw[pY] at q;have a:¬c=k:=by omega
 have f:0<xs.length:=by omega
 obtain⟨b,e,rfl,o,l,d⟩:=t f;refine⟨b,e+k*Y,by rw[be a];simp only[qf,aeD],o,l,λi x hi=> ?_⟩;rw[tc] at hi;obtain⟨r,s,m,p⟩:=d _ _ hi;refine⟨r,s,m,λj u v=> ?_⟩;have:=p j u v;rw[<-this,Nat.add_mul]
 congr 2
 omega
end
section
variable {β:Bool}
open Go.RowKit
def cE.obT(h:cE e E Y w lo hi xs [v])(a:v.ownBlock=some b):∃g,bR w b e g:=by
 obtain⟨i,cells,f,h,_⟩:=h;cases f;rcases h.2 with⟨rfl,_⟩|⟨j,cap,c,rfl,_,d,_⟩
 .cases a
 .cases a;exact⟨_,d⟩
def et.acJ(h:et lo e v w)(f:w.heap.size<=hi):cE e E Y w lo hi [] [v]:=by
 obtain⟨g,rfl,d,c⟩:=h;have:=c.lt;exact⟨_,[],rfl,et.own ⟨g,rfl,d,c⟩ Y,λb a=>by cases a;dsimp only;omega,Els.nil (by omega)⟩
def dh(h:cE e E Y w lo hi xs [v])(f:bq (λb=>v.ownBlock=some b) w w'){t:TypeId}{cs:Array Value}(a:bR w g t cs)(c:t≠e):bR w' g t cs:=
 bH a f λd=>by
  obtain⟨i,hd⟩:=h.obT d;exact c (eA a hd)
def iY{β : Type}{D:fU β}{y:β}(h:cE e E Y w lo hi xs [v])(m:bq (λb=>v.ownBlock=some b) w w')(k:dV D T)(d:D w U c y cs)(f:e∉T):D w' U c y cs:=
 k.dQ d m λb _ _ g i=>by
  obtain⟨n,hd⟩:=h.obT i;obtain⟨t,l,j,a⟩:=g;exact f (eA a hd▸l)
def cH{β:Type}{D:fU β}{t:TypeId}{a:Array Value}{y:β}(f:dV D T)(c:D w lo hi y cs)(j:bR w g t a)(d:t∉T)(i:Nat)(u:Value):D (w.setCell ⟨g,i,none⟩ u) lo hi y cs:=
 f.go (λb _ _ e=>qp _ _ _ _ (by rintro rfl;exact mv j d e)) (am _) (am _) c
def ahB{β:Type}{D:fU β}{u:Value}{y:β}(c:dV D T)(a:D w lo hi y cs)(e:hi<=g):D (w.setCell ⟨g,i,none⟩ u) lo hi y cs:=
 c.go (λb _ d _=>qp _ _ _ _ (by dsimp only;omega)) (am _) (am _) a
structure afB (w wr:World) (L:Nat) (A B C:Option Addr) (a b c:Nat) (s:dK) (gm:Nat) (vp vs vl:Value) (pk:List Pk) (sn:List Sn) (H:Nat):Prop where
 k0:bR wr w.heap.size 27 #[.slice A s.pk.length a,.slice B s.sn.length b,.slice C s.lg.length c]
 k1:bR wr (w.heap.size+1) 27 #[.slice none 0 0,.slice none 0 0,.slice none 0 0]
 m:bR wr gm 27 #[vp,vs,vl]
 op:fE wr L H pk [vp]
 os:gj wr L H sn [vs]
 ol:fF wr L H s.lg [vl]
 bl:Below w.heap.size w wr
 gm1:w.heap.size+1<gm
 gm2:gm<wr.heap.size
 hL:w.heap.size<=L
 hH:H<=wr.heap.size
 gmr:gm<H
def afB.below{wr : World}{B C : Option Addr}{a : Nat}{s:dK}{e:List Sn}(h:afB w wr Y A B C a b c s U X W V R e g)(d:Below wr.heap.size wr w'):afB w w' Y A B C a b c s U X W V R e g:=
 ⟨av h.k0 d,av h.k1 d,av h.m d,fE.aw.below h.op d h.hH,gj.aw.below h.os d h.hH,fF.aw.below h.ol d h.hH,ae h.bl d,h.gm1,aE h.gm2 d.size,h.hL,bd h.hH d.size,h.gmr⟩
def adf(s:dK)(va vb vc:Value)(w:World)(lo hi:Nat)(h:aga w lo hi s va vb vc)(bZ:hi<=w.heap.size)(hl:adB s<=1099511627) :
  Calls (ah β) 47 #[.agg #[va,vb,vc]] w (axJ w s):=by
 obtain⟨h1,h2,h3⟩:=h;obtain⟨A,a,rfl⟩:=cV.form h1;obtain⟨B,b,rfl⟩:=cV.form h2;obtain⟨C,c,rfl⟩:=cV.form h3;obtain⟨_,di,dc⟩:=h1.len_;obtain⟨_,em,cn⟩:=h2.len_;obtain⟨_,b9,cX⟩:=h3.len_;unfold maxLen at dc cn cX;unfold adB at hl;have dP:=iX (f:=bPk) (l:=s.pk);have ei:=iX (f:=bSn) (l:=s.sn);have ce:=cV.good (F:=FHd) h3;go_enter yR,ntmps47;go_wp2_with(at_builtin;refine lA ?_);refine⟨?_,trivial⟩;have aO:Below w.heap.size w (((((w.alloc (.cells #[.slice A s.pk.length a,.slice B s.sn.length b,.slice C s.lg.length c] 27)).alloc (.cells #[.slice none 0 0,.slice none 0 0,.slice none 0 0] 27)).alloc (.cells #[] 32)).alloc (.cells #[] 65)).alloc (.cells #[] 71)):=cM (cM (cM (cM (aA _ _) _) _) _) _;have k0:bR (((((w.alloc (.cells #[.slice A s.pk.length a,.slice B s.sn.length b,.slice C s.lg.length c] 27)).alloc (.cells #[.slice none 0 0,.slice none 0 0,.slice none 0 0] 27)).alloc (.cells #[] 32)).alloc (.cells #[] 65)).alloc (.cells #[] 71)) (w.heap.size) 27 #[.slice A s.pk.length a,.slice B s.sn.length b,.slice C s.lg.length c]:=by
  have I:=bh (bh (bh (bh (bR.new w 27 #[.slice A s.pk.length a,.slice B s.sn.length b,.slice C s.lg.length c]) (.cells #[.slice none 0 0,.slice none 0 0,.slice none 0 0] 27)) (.cells #[] 32)) (.cells #[] 65)) (.cells #[] 71);exact I
 have k1:bR (((((w.alloc (.cells #[.slice A s.pk.length a,.slice B s.sn.length b,.slice C s.lg.length c] 27)).alloc (.cells #[.slice none 0 0,.slice none 0 0,.slice none 0 0] 27)).alloc (.cells #[] 32)).alloc (.cells #[] 65)).alloc (.cells #[] 71)) (w.heap.size+1) 27 #[.slice none 0 0,.slice none 0 0,.slice none 0 0]:=by
  have I:=bh (bh (bh (bR.new (w.alloc (.cells #[.slice A s.pk.length a,.slice B s.sn.length b,.slice C s.lg.length c] 27)) 27 #[.slice none 0 0,.slice none 0 0,.slice none 0 0]) (.cells #[] 32)) (.cells #[] 65)) (.cells #[] 71);simp only[me] at I;exact I
 have k2:bR (((((w.alloc (.cells #[.slice A s.pk.length a,.slice B s.sn.length b,.slice C s.lg.length c] 27)).alloc (.cells #[.slice none 0 0,.slice none 0 0,.slice none 0 0] 27)).alloc (.cells #[] 32)).alloc (.cells #[] 65)).alloc (.cells #[] 71)) (w.heap.size+1+1) 32 #[]:=by
  have I:=bh (bh (bR.new ((w.alloc (.cells #[.slice A s.pk.length a,.slice B s.sn.length b,.slice C s.lg.length c] 27)).alloc (.cells #[.slice none 0 0,.slice none 0 0,.slice none 0 0] 27)) 32 #[]) (.cells #[] 65)) (.cells #[] 71);simp only[me] at I;exact I
 have k3:bR (((((w.alloc (.cells #[.slice A s.pk.length a,.slice B s.sn.length b,.slice C s.lg.length c] 27)).alloc (.cells #[.slice none 0 0,.slice none 0 0,.slice none 0 0] 27)).alloc (.cells #[] 32)).alloc (.cells #[] 65)).alloc (.cells #[] 71)) (w.heap.size+1+1+1) 65 #[]:=by
  have I:=bh (bR.new (((w.alloc (.cells #[.slice A s.pk.length a,.slice B s.sn.length b,.slice C s.lg.length c] 27)).alloc (.cells #[.slice none 0 0,.slice none 0 0,.slice none 0 0] 27)).alloc (.cells #[] 32)) 65 #[]) (.cells #[] 71);simp only[me] at I;exact I
 have k4:bR (((((w.alloc (.cells #[.slice A s.pk.length a,.slice B s.sn.length b,.slice C s.lg.length c] 27)).alloc (.cells #[.slice none 0 0,.slice none 0 0,.slice none 0 0] 27)).alloc (.cells #[] 32)).alloc (.cells #[] 65)).alloc (.cells #[] 71)) (w.heap.size+1+1+1+1) 71 #[]:=by
  have I:=bR.new ((((w.alloc (.cells #[.slice A s.pk.length a,.slice B s.sn.length b,.slice C s.lg.length c] 27)).alloc (.cells #[.slice none 0 0,.slice none 0 0,.slice none 0 0] 27)).alloc (.cells #[] 32)).alloc (.cells #[] 65)) 71 #[];simp only[me] at I;exact I
 have mo:w.heap.size+5<=(((((w.alloc (.cells #[.slice A s.pk.length a,.slice B s.sn.length b,.slice C s.lg.length c] 27)).alloc (.cells #[.slice none 0 0,.slice none 0 0,.slice none 0 0] 27)).alloc (.cells #[] 32)).alloc (.cells #[] 65)).alloc (.cells #[] 71)).heap.size:=by simp only[me];omega
 generalize (((((w.alloc (.cells #[.slice A s.pk.length a,.slice B s.sn.length b,.slice C s.lg.length c] 27)).alloc (.cells #[.slice none 0 0,.slice none 0 0,.slice none 0 0] 27)).alloc (.cells #[] 32)).alloc (.cells #[] 65)).alloc (.cells #[] 71))=w0 at *;have eJ:=k0.cell;have iw:=k0.frozen;have a7:=k1.cell;have an:=k1.frozen;have bf:=k2.cell;have b7:=k2.frozen;have ay:=k3.cell;have b5:=k3.frozen;have ck:=k4.cell;have dd:=k4.frozen;have L:=ml (F:=FHd) h3 bZ;have c1:et w.heap.size 71 (.slice (some ⟨w.heap.size+1+1+1+1,0,none⟩) 0 0) w0:=⟨_,rfl,by omega,k4⟩;refine abF (F:=FHd) (xs:=s.lg) aO rfl (.tmp 11) (.tmp 13) 25 rfl anj (am _) rfl rfl c1 L (by omega) ?_;intro vl x1 R P;replace k0:=av k0 R;replace eJ:=k0.cell;replace iw:=k0.frozen;replace k1:=av k1 R;replace a7:=k1.cell;replace an:=k1.frozen;replace k2:=av k2 R;replace bf:=k2.cell;replace b7:=k2.frozen;replace k3:=av k3 R;replace ay:=k3.cell;replace b5:=k3.frozen;replace aO:=ae aO R;obtain⟨Cl,cl,rfl⟩:=P.form;have z1:=R.size;clear k4 ck dd c1 L;go_wp2;generalize hG:x1.alloc (.cells #[.slice (some ⟨w.heap.size+1+1,0,none⟩) 0 0,.slice (some ⟨w.heap.size+1+1+1,0,none⟩) 0 0,.slice Cl s.lg.length cl] 27)=w1 at *;obtain⟨S,ek,m0,ct,ch⟩:=iN hG;clear hG;replace k0:=av k0 S;replace eJ:=k0.cell;replace iw:=k0.frozen;replace k1:=av k1 S;replace a7:=k1.cell;replace an:=k1.frozen;replace k2:=av k2 S;replace bf:=k2.cell;replace b7:=k2.frozen;replace k3:=av k3 S;replace ay:=k3.cell;replace b5:=k3.frozen;have aZ:=P.below S;have o:afB w w1 w.heap.size A B C a b c s x1.heap.size (.slice (some ⟨w.heap.size+1+1,0,none⟩) 0 0) (.slice (some ⟨w.heap.size+1+1+1,0,none⟩) 0 0) (.slice Cl s.lg.length cl) [] [] w1.heap.size:=
  ⟨k0,k1,m0,et.acJ ⟨_,rfl,by omega,k2⟩ (am _),et.acJ ⟨_,rfl,by omega,k3⟩ (am _),aZ.acJ ce (by omega) (λg hg=>(aZ.at_ hg).2),ae aO S,by omega,by omega,am _,am _,by omega⟩
 have n:=ab o;obtain⟨J,bt⟩:∃J,J=x1.heap.size:=⟨_,rfl⟩;rw[<-bt] at n ⊢;obtain⟨vs,bW⟩:∃vs,vs=Value.slice (some ⟨w.heap.size+1+1+1,0,none⟩) 0 0:=⟨_,rfl⟩;rw[<-bW] at n;clear bt bW o k0 k1 k2 k3 m0 eJ a7 bf ay ct iw an b7 b5 ch P aZ aO S R;go_loopw [4] (λii wr=>∃(k:Nat) (vo:Value),k<=s.pk.length/\ii=.int .i64 k/\afB w wr w.heap.size A B C a b c s J vo vs (.slice Cl s.lg.length cl) (s.pk.take k) [] wr.heap.size) (λii _=>s.pk.length-(intOf ii).toNat)
 case atStart=>exact⟨0,_,fb _,rfl,n.out⟩
 case round=>
  clear n;obtain⟨k,vo,I,rfl,o⟩:=hrel;obtain⟨Ao,co,rfl⟩:=o.op.form;have G:(s.pk.take k).length=k:=by rw[ff,qV I]
  rw[G] at o;have eJ:wr.cell? ⟨w.heap.size,0,none⟩=some (.slice A s.pk.length a):=o.k0.cell 0;by_cases b0:k<s.pk.length
  .obtain⟨y,fK⟩:=aq b0;have jL:=pM (f:=bPk) (da fK);have eb:y.its.length<=bPk y:=iX;obtain⟨b',M,es,e0,_,cO,_,⟨v2,rfl,ax,Y⟩,u⟩:=(kR.loc.below h1 o.bl bZ).at_ fK;subst e0;obtain⟨A2,c2,rfl⟩:=cV.form Y;have ad:wr.cell? ⟨b',M+k*2,none⟩=some (.int .i64 y.no):=by simpa using u 0 _ rfl
   have af:wr.cell? ⟨b',M+k*2+1,none⟩=some (.slice A2 y.its.length c2):=by simpa using u 1 _ rfl
   have cm:wr.cell? ⟨J,0,none⟩=some (.slice Ao k co):=o.m.cell 0;have eB:=nF fK;have HN:=ab eB;have W:=ab G;have L:=ab (ml (F:=nX) Y (by have:=o.bl.size;omega));have cc:=ab (cV.good (F:=nX) Y);have n:=ab o;have zr:=o.bl.size;clear u fK eB G Y o;go_wp2;have aJ:=aj eJ;have aN:=aj ad;have dN:=aj af;have cP:=aj cm;refine cD 18 [0,1,2,3,4,5,6,7,9,10,11,12,13,14] [8,15,16,17] (h:= ?_);simp only[pick,List.map,pi,pm];repeat(go_big_quiet_step (fail))
   refine lE ?_;clear aJ aN dN cP;apply Exists.intro;apply dm (et wr.heap.size 49)
   .rfl
   .exact λv x y h m=>h.keep m
   .intro x _ Qx r;have Q:=ab r;clear r;go_wp2;exact Q.out _ _ (aA _ _) (et.new _ _ x.ok.size)
   intro u8;apply dm (λv w'=>aF nX 49 w' wr.heap.size v y.its)
   .rfl
   .exact λv x y h m=>h.below m
   .intro x K Qx Q;have hL:=K.1 (by kernel_rfl);exact aiG rfl (.tmp 31) (.tmp 37) 30 rfl pK (am _) rfl rfl hL L.out (by omega) λv' x' m ho=>Q v' x'.to m ho
   intro e4;apply dm (λv w'=>∃A c,v=.agg #[.int .i64 y.no,.slice A y.its.length c]/\aF nX 49 w' wr.heap.size (.slice A y.its.length c) y.its)
   .rfl
   .exact λv x y ⟨A,c,e,h⟩ m=>⟨A,c,e,h.below m⟩
   .intro x K Qx r;have Q:=ab r;clear r;have ho:=K.1 (by kernel_rfl);obtain⟨A5,c5,rfl⟩:=ho.form;go_wp2;exact Q.out _ _ (gc _ _) ⟨_,_,rfl,ho⟩
   intro dp;apply dm (λv w'=>∃g A c,v=.slice (some ⟨g,0,none⟩) 1 1/\bR w' g 32 #[.int .i64 y.no,.slice A y.its.length c]/\aF nX 49 w' wr.heap.size (.slice A y.its.length c) y.its)
   .rfl
   .exact λv x y ⟨g,A,c,e,I,h⟩ m=>⟨g,A,c,e,av I m,h.below m⟩
   .intro x K Qx r;have Q:=ab r;clear r;obtain⟨A5,c5,rfl,ho⟩:=K.1 (by kernel_rfl);go_wp2;have ba:=aA x.to (.cells #[.int .i64 y.no,.slice A5 y.its.length c5] 32);exact Q.out _ _ ba ⟨_,_,_,rfl,bR.new _ _ _,ho.below ba⟩
   intro e5;refine ep ?_;intro w6 nG xx nJ K;dsimp only[js] at K;try rw[nJ] at K
   clear nJ xx;obtain⟨⟨g8,A8,c8,rfl,V,o8⟩, -⟩:=K;simp only[List.drop];have a3:=n.out.below nG;have z6:=nG.size;have aS:Hid (OPk w6 wr.heap.size w6.heap.size y [.int .i64 y.no,.slice A8 y.its.length c8]):=ab ⟨_,rfl,ax,o8.acJ cc.out (by omega) λg hg=>(o8.at_ hg).2⟩;replace V:=ab V;have q:=ab a3;clear n nG o8 a3 ad af cm eJ L;go_wp2_with(at_builtin;refine lA ?_);refine⟨?_,trivial⟩;refine kS OPk.aw (by decide) (v:=.slice Ao k co) rfl (.tmp 24) (.tmp 40) 23 rfl adY y rfl q.out.op rfl V.out rfl (by simp[Value.oneCell']) z6 aS.out (am _) (by have:=W.out;omega) (by omega) ?_;intro v9 X o9 E br;obtain⟨U,O,rfl⟩:=o9.form;rw[ap,nf,W.out] at o9;rw[ap,nf,W.out];have d:=q.out.op;have t:=dh d E q.out.m (by decide);have a2:=dh d E q.out.k0 (by decide);have a8:=dh d E q.out.k1 (by decide);have bO:=iY d E gj.aw q.out.os (by decide);have a6:=iY d E fF.aw q.out.ol (by decide);have b4:Below w.heap.size w X:=q.out.bl.trans (E.below q.out.bl.size λi hi hs=>by have:=d.ob hs;omega);have cB:X.cell? ⟨J,0,none⟩=some (.slice Ao k co):=t.cell 0;have cy:=t.frozen 0;have z9:=E.size;have a0:=q.out.gm1;have d8:=q.out.gm2;have lh:=t.bM 0 (.slice U (k+1) O);simp only[dj,gt,gE] at lh;have N:afB w (X.setCell ⟨J,0,none⟩ (.slice U (k+1) O)) w.heap.size _ B C a b c s J (.slice U (k+1) O) vs (.slice Cl s.lg.length cl) (s.pk.take (k+1)) [] (X.setCell ⟨J,0,none⟩ (.slice U (k+1) O)).heap.size:=
    ⟨iB a2 (p:=⟨J,0,none⟩) _ (by dsimp only;omega),iB a8 (p:=⟨J,0,none⟩) _ (by dsimp only;omega),lh,
     by rw[HN.out];simp only[ef];exact cH fE.aw o9 t (by decide) 0 _,
     by simp only[ef];exact gj.aw.wide (cH gj.aw bO t (by decide) 0 _) (am _) (bd z6 z9),
     by simp only[ef];exact fF.aw.wide (cH fF.aw a6 t (by decide) 0 _) (am _) (bd z6 z9),
     b4.setCell (by dsimp only;omega) _,a0,by simp only[ef];omega,am _,am _,by simp only[ef];omega⟩
   have bb:=ab N;clear N lh bO a6 d a2 a8 t;go_wp2;go_roundw
   case rel=>exact⟨k+1,_,by omega,by go_num,bb.out⟩
   simp[intOf];omega
  .obtain rfl:k=s.pk.length:=by omega
   rw[gn] at o;obtain⟨Ap,cQ⟩:∃A,A=Ao:=⟨_,rfl⟩;obtain⟨cp,d1⟩:∃c,c=co:=⟨_,rfl⟩;subst cQ d1;have n:=ab o;clear o;go_wp2;clear eJ;go_loopw [5] (λii wr=>∃(k:Nat) (vo:Value),k<=s.sn.length/\ii=.int .i64 k/\afB w wr w.heap.size A B C a b c s J (.slice Ap s.pk.length cp) vo (.slice Cl s.lg.length cl) s.pk (s.sn.take k) wr.heap.size) (λii _=>s.sn.length-(intOf ii).toNat)
   case atStart=>exact⟨0,_,fb _,rfl,n.out⟩
   case round=>
    clear n;obtain⟨k,vo,I,rfl,o⟩:=hrel;obtain⟨Ao,co,rfl⟩:=o.os.form;have G:(s.sn.take k).length=k:=by rw[ff,qV I]
    rw[G] at o;have eJ:wr.cell? ⟨w.heap.size,1,none⟩=some (.slice B s.sn.length b):=o.k0.cell 1;by_cases b0:k<s.sn.length
    .obtain⟨y,fK⟩:=aq b0;have jL:=pM (f:=bSn) (da fK);have e2:dG bLs y.all=bSn y:=rfl;have e6:y.all.length<=dG bLs y.all:=iX;obtain⟨b',M,es,e0,dF,cO,_,⟨v2,rfl,ax,Y⟩,u⟩:=(mr.loc.below h2 o.bl bZ).at_ fK;subst e0;obtain⟨A2,c2,rfl⟩:=cV.form Y;obtain⟨_,ds,cz⟩:=Y.len_;unfold maxLen at cz;have ad:wr.cell? ⟨b',M+k*2,none⟩=some (.int .i64 y.no):=by simpa using u 0 _ rfl
     have af:wr.cell? ⟨b',M+k*2+1,none⟩=some (.slice A2 y.all.length c2):=by simpa using u 1 _ rfl
     have eB:=nF fK;have HN:=ab eB;have W:=ab G;have HY:=ab fK;have n:=ab o;have zr:=o.bl.size;clear u fK eB G Y o;go_wp2;obtain⟨H,d5⟩:∃H,H=wr:=⟨_,rfl⟩;subst d5;generalize hG:(H.alloc (.cells #[] 91)).alloc (.cells #[.int .i64 y.no,.slice (some ⟨H.heap.size,0,none⟩) 0 0] 65)=w2 at *;obtain⟨jl,ec,n0,cr,d4,n1,ao,cq⟩:=akM hG;clear hG;have bL:=n.out.below jl;have bz:=ab bL;have Z:gh w2 H.heap.size w2.heap.size [] [.slice (some ⟨H.heap.size,0,none⟩) 0 0]:=et.acJ ⟨_,rfl,am _,n0⟩ (am _);have HST:=ab (And.intro Z n1);clear n bL ad af eJ n0 n1 cr ao d4 cq Z;go_loopw [7] (λii wr=>∃(j:Nat) (va:Value),j<=y.all.length/\ii=.int .i64 j/\gh wr H.heap.size wr.heap.size (y.all.take j) [va]/\bR wr (H.heap.size+1) 65 #[.int .i64 y.no,va]/\afB w wr w.heap.size A (some ⟨b',M,none⟩) C a b c s J (.slice Ap s.pk.length cp) (.slice Ao k co) (.slice Cl s.lg.length cl) s.pk (s.sn.take k) H.heap.size) (λii _=>y.all.length-(intOf ii).toNat)
     case atStart=>exact⟨0,_,fb _,rfl,HST.out.1,HST.out.2,bz.out⟩
     case round=>
      clear HST bz;obtain⟨j,va,hj,rfl,P,a1,o⟩:=hrel;obtain⟨Av,cv,rfl⟩:=P.form;have G:(y.all.take j).length=j:=by rw[ff,qV hj]
      rw[G] at P a1;have eJ:wr.cell? ⟨w.heap.size,1,none⟩=some (.slice (some ⟨b',M,none⟩) s.sn.length b):=o.k0.cell 1;have zx:=o.hH;have zw:=o.bl.size;obtain⟨b2,oM,es,e0,_,_,_,⟨v2,rfl,e9,Y⟩,u⟩:=(mr.loc.below h2 o.bl bZ).at_ HY.out;simp only[mt,qv,ql] at e0;obtain⟨rfl,rfl⟩:=e0;obtain⟨A3,c3,rfl⟩:=cV.form Y;obtain⟨_,e3,cu⟩:=Y.len_;unfold maxLen at cu;have b9:wr.cell? ⟨b',M+k*2+1,none⟩=some (.slice A3 y.all.length c3):=by simpa using u 1 _ rfl
      clear u;by_cases cd:j<y.all.length
      .obtain⟨z,al⟩:=aq cd;have e8:=pM (f:=bLs) (da al);have ea:z.ns.length<=bLs z:=Nat.le_add_left _ _;obtain⟨b3,bP,es,e0,_,_,_,⟨v4,rfl,d9,a5⟩,u⟩:=Y.at_ al;subst e0;obtain⟨A4,c4,rfl⟩:=cV.form a5;have cS:wr.cell? ⟨b3,bP+j*2,none⟩=some (.string z.p):=by simpa using u 0 _ rfl
       have d7:wr.cell? ⟨b3,bP+j*2+1,none⟩=some (.slice A4 z.ns.length c4):=by simpa using u 1 _ rfl
       have eB:=nF al;have d0:=ab eB;have bi:=ab G;have a4:=ab o;replace P:=ab P;replace a5:=ab a5;clear u al eB G Y o;go_wp2;generalize hG:wr.alloc (.cells #[.string z.p,.slice A4 z.ns.length c4] 91)=wa at *;obtain⟨fD,e1,q0,b1,cb⟩:=iN hG;clear hG;have bw:=a4.out.below fD;have bT:=gh.aw.below P.out fD (am _);have bl:=av a1 fD;have bk:=alb.loc.below a5.out fD (by omega);have L:=ab (ml (F:=gM) bk (by have:=fD.size;omega));have cw:=ab bk.ais;have c0:=ab bw;have ca:=ab bT;have ao:wa.cell? ⟨H.heap.size+1,1,none⟩=some (.slice Av j cv):=bl.cell 1;have bn:=b1 0;have bo:=b1 1;have c6:=fD.size;clear a4 P a5 bw bT bk cS d7 b9 eJ a1 fD;have aJ:=aj ao;have aN:=aj bn;have dN:=aj bo;refine cD 10 [0,1,2,3,5,6] [4,7,8,9] (h:= ?_);simp only[pick,List.map,pi,pm];repeat(go_big_quiet_step (fail))
       refine lE ?_;clear aJ aN dN;apply Exists.intro;apply dm (et wa.heap.size 3)
       .rfl
       .exact λv x y h m=>h.keep m
       .intro x _ Qx r;have Q:=ab r;clear r;go_wp2;exact Q.out _ _ (aA _ _) (et.new _ _ x.ok.size)
       intro u4;apply dm (λv w'=>aF gM 3 w' wa.heap.size v z.ns)
       .rfl
       .exact λv x y h m=>h.below m
       .intro x K Qx Q;have hL:=K.1 (by kernel_rfl);exact aiG rfl (.tmp 82) (.tmp 84) 40 rfl oI (am _) rfl rfl hL L.out (by omega) λv' x' m ho=>Q v' x'.to m ho
       intro u7;apply dm (λv w'=>∃A c,v=.agg #[.string z.p,.slice A z.ns.length c]/\aF gM 3 w' wa.heap.size (.slice A z.ns.length c) z.ns)
       .rfl
       .exact λv x y ⟨A,c,e,h⟩ m=>⟨A,c,e,h.below m⟩
       .intro x K Qx r;have Q:=ab r;clear r;have ho:=K.1 (by kernel_rfl);obtain⟨A5,c5,rfl⟩:=ho.form;go_wp2;exact Q.out _ _ (gc _ _) ⟨_,_,rfl,ho⟩
       intro u8;apply dm (λv w'=>∃g A c,v=.slice (some ⟨g,0,none⟩) 1 1/\bR w' g 91 #[.string z.p,.slice A z.ns.length c]/\aF gM 3 w' wa.heap.size (.slice A z.ns.length c) z.ns)
       .rfl
       .exact λv x y ⟨g,A,c,e,I,h⟩ m=>⟨g,A,c,e,av I m,h.below m⟩
       .intro x K Qx r;have Q:=ab r;clear r;obtain⟨A5,c5,rfl,ho⟩:=K.1 (by kernel_rfl);go_wp2;have ba:=aA x.to (.cells #[.string z.p,.slice A5 z.ns.length c5] 91);exact Q.out _ _ ba ⟨_,_,_,rfl,bR.new _ _ _,ho.below ba⟩
       intro u9;refine ep ?_;intro w6 nG xx nJ K;dsimp only[js] at K;try rw[nJ] at K
       clear nJ xx;obtain⟨⟨g8,A8,c8,rfl,V,o8⟩, -⟩:=K;simp only[List.drop];have a3:=c0.out.below nG;have aa:=gh.aw.below ca.out nG c6;have bA:=av bl nG;have z6:=nG.size;have aS:Hid (OLs w6 wa.heap.size w6.heap.size z [.string z.p,.slice A8 z.ns.length c8]):=ab ⟨_,rfl,d9,o8.acJ (λx hx=>cw.out x hx) (by omega) λg hg=>(o8.at_ hg).2⟩;replace V:=ab V;have q:=ab a3;replace aa:=ab aa;clear c0 ca nG o8 a3 L bl ao bn bo q0 b1 cb;go_wp2_with(at_builtin;refine lA ?_);refine⟨?_,trivial⟩;refine kS OLs.aw (by decide) (v:=.slice Av j cv) rfl (.tmp 79) (.tmp 87) 63 rfl ank z rfl aa.out rfl V.out rfl (by simp[Value.oneCell']) (show wr.heap.size<=w6.heap.size by omega) (OLs.aw.wide aS.out c6 (am _)) (am _) (by have:=bi.out;omega) (by omega) ?_;intro v9 X o9 E br;obtain⟨U,O,rfl⟩:=o9.form;rw[ap,nf,bi.out] at o9;rw[ap,nf,bi.out];have d:=aa.out;have z9:=E.size;have a9:=dh d E bA (by decide);have ee:X.cell? ⟨H.heap.size+1,1,none⟩=some (.slice Av j cv):=a9.cell 1;have el:=a9.frozen 1;have lh:=a9.bM 1 (.slice U (j+1) O);simp only[dj,gt,gE] at lh;have a0:=q.out.gm1;have c9:=q.out.gmr;have N:afB w (X.setCell ⟨H.heap.size+1,1,none⟩ (.slice U (j+1) O)) w.heap.size _ _ C a b c s J (.slice Ap s.pk.length cp) (.slice Ao k co) (.slice Cl s.lg.length cl) s.pk (s.sn.take k) H.heap.size:=
        ⟨iB (dh d E q.out.k0 (by decide)) (p:=⟨H.heap.size+1,1,none⟩) _ (by dsimp only;omega),iB (dh d E q.out.k1 (by decide)) (p:=⟨H.heap.size+1,1,none⟩) _ (by dsimp only;omega),iB (dh d E q.out.m (by decide)) (p:=⟨H.heap.size+1,1,none⟩) _ (by dsimp only;omega),
         ahB fE.aw (iY d E fE.aw q.out.op (by decide)) (by omega),ahB gj.aw (gj.aw.dQ q.out.os E λb _ hb _ hs=>by have:=d.ob hs;omega) (by omega),ahB fF.aw (iY d E fF.aw q.out.ol (by decide)) (by omega),
         (q.out.bl.trans (E.below q.out.bl.size λi hi hs=>by have:=d.ob hs;omega)).setCell (by dsimp only;omega) _,a0,by simp only[ef];have:=q.out.gm2;omega,am _,by simp only[ef];have:=q.out.hH;omega,c9⟩
       have b8:gh (X.setCell ⟨H.heap.size+1,1,none⟩ (.slice U (j+1) O)) H.heap.size (X.setCell ⟨H.heap.size+1,1,none⟩ (.slice U (j+1) O)).heap.size (y.all.take (j+1)) [.slice U (j+1) O]:=by
        rw[d0.out];simp only[ef];exact cH gh.aw o9 a9 (by decide) 1 _
       have d3:=ab N;replace b8:=ab b8;have d6:=ab lh;clear N lh d a9 bA;go_wp2;go_roundw
       case rel=>exact⟨j+1,_,by omega,by go_num,b8.out,d6.out,d3.out⟩
       simp[intOf];omega
      .obtain rfl:j=y.all.length:=by omega
       rw[gn] at P;have cj:wr.cell? ⟨H.heap.size+1,0,none⟩=some (.int .i64 y.no):=a1.cell 0;have d2:wr.cell? ⟨H.heap.size+1,1,none⟩=some (.slice Av y.all.length cv):=a1.cell 1;have ci:wr.cell? ⟨J,1,none⟩=some (.slice Ao k co):=o.m.cell 1;have a4:=ab o;replace P:=ab P;clear o;go_wp2_with(at_builtin;refine lA ?_);refine⟨?_,trivial⟩;have bx:=aA wr (.cells #[.int .i64 y.no,.slice Av y.all.length cv] 65);have bp:=a4.out.below bx;have cC:=bR.new wr 65 #[.int .i64 y.no,.slice Av y.all.length cv];have c7:=gh.aw.below P.out bx (am _);generalize wr.alloc (.cells #[.int .i64 y.no,.slice Av y.all.length cv] 65)=w6 at *;have z6:=bx.size;have q:=ab bp;have cW:Hid (OSn w6 H.heap.size w6.heap.size y [.int .i64 y.no,.slice Av y.all.length cv]):=ab ⟨_,rfl,ax,gh.aw.wide c7 (am _) z6⟩;clear bp c7 a4 P cj d2 ci a1 b9 Y;refine kS OSn.aw (by decide) (v:=.slice Ao k co) rfl (.tmp 91) (.tmp 93) 24 rfl anl y rfl q.out.os rfl cC rfl (by simp[Value.oneCell']) (show H.heap.size<=w6.heap.size by omega) cW.out (am _) (by have:=W.out;omega) (by omega) ?_;intro v9 X o9 E br;obtain⟨U,O,rfl⟩:=o9.form;rw[ap,nf,W.out] at o9;rw[ap,nf,W.out];have d:=q.out.os;have t:=dh d E q.out.m (by decide);have a2:=dh d E q.out.k0 (by decide);have a8:=dh d E q.out.k1 (by decide);have bS:=iY d E fE.aw q.out.op (by decide);have a6:=iY d E fF.aw q.out.ol (by decide);have b4:Below w.heap.size w X:=q.out.bl.trans (E.below q.out.bl.size λi hi hs=>by have:=d.ob hs;omega);have cB:X.cell? ⟨J,1,none⟩=some (.slice Ao k co):=t.cell 1;have cy:=t.frozen 1;have z9:=E.size;have a0:=q.out.gm1;have d8:=q.out.gm2;have e7:=q.out.hH;have c9:=q.out.gmr;have lh:=t.bM 1 (.slice U (k+1) O);simp only[dj,gt,gE] at lh;have N:afB w (X.setCell ⟨J,1,none⟩ (.slice U (k+1) O)) w.heap.size _ _ C a b c s J (.slice Ap s.pk.length cp) (.slice U (k+1) O) (.slice Cl s.lg.length cl) s.pk (s.sn.take (k+1)) (X.setCell ⟨J,1,none⟩ (.slice U (k+1) O)).heap.size:=
        ⟨iB a2 (p:=⟨J,1,none⟩) _ (by dsimp only;omega),iB a8 (p:=⟨J,1,none⟩) _ (by dsimp only;omega),lh,
         by simp only[ef];exact fE.aw.wide (cH fE.aw bS t (by decide) 1 _) (am _) (by omega),
         by rw[HN.out];simp only[ef];exact cH gj.aw o9 t (by decide) 1 _,
         by simp only[ef];exact fF.aw.wide (cH fF.aw a6 t (by decide) 1 _) (am _) (by omega),
         b4.setCell (by dsimp only;omega) _,a0,by simp only[ef];omega,am _,am _,by simp only[ef];omega⟩
       have bb:=ab N;clear N lh bS a6 d a2 a8 t;go_wp2;go_roundw
       case rel=>exact⟨k+1,_,by omega,by go_num,bb.out⟩
       simp[intOf];omega
    .obtain rfl:k=s.sn.length:=by omega
     rw[gn] at o;have a7:=o.k1.cell;have an:=o.k1.frozen;have ej:=o.m.cell;have n:=ab o;have zr:=o.bl.size;clear o;go_wp2;have a0:=n.out.gm1;have b6:∀(u1 u2 u3:Value) {β:Type} {D:fU β} {T:List TypeId} {y:β} {cs:List Value},dV D T->27∉T->D wr w.heap.size wr.heap.size y cs->D (((wr.setCell ⟨w.heap.size+1,0,none⟩ u1).setCell ⟨w.heap.size+1,1,none⟩ u2).setCell ⟨w.heap.size+1,2,none⟩ u3) w.heap.size (((wr.setCell ⟨w.heap.size+1,0,none⟩ u1).setCell ⟨w.heap.size+1,1,none⟩ u2).setCell ⟨w.heap.size+1,2,none⟩ u3).heap.size y cs:=λu1 u2 u3 {_ _ _ _ _} hD hT hy=>by
      simp only[ef];exact hD.go (λb _ _ hb=>by
       have aM:b≠w.heap.size+1:=by rintro rfl;exact mv n.out.k1 hT hb
       rw[qp _ _ _ _ aM,qp _ _ _ _ aM,qp _ _ _ _ aM]) (am _) (am _) hy
     refine pe (v:=.agg #[.slice Ap s.pk.length cp,.slice Ao s.sn.length co,.slice Cl s.lg.length cl]) (by simp[results,results47,go_sem,a7]) rfl ⟨_,_,_,rfl,⟨b6 _ _ _ fE.aw (by decide) n.out.op,b6 _ _ _ gj.aw (by decide) n.out.os,b6 _ _ _ fF.aw (by decide) n.out.ol⟩, ?_⟩;exact((n.out.bl.setCell (by dsimp only;omega) _).setCell (by dsimp only;omega) _).setCell (by dsimp only;omega) _
end
section
variable {β:Bool}
open Go.RowKit
def fg(key:Int)(f:Nd):Ls:=⟨f.p,(gb f.b).map λp=>bG key (bs p)⟩
def jv(no key:Int)(t:List Nd):Sn:=⟨no,t.map (fg key)⟩
def azJ(w:World)(s:Sn)(e:Ending)(w':World):Prop:=∃v,e=.returned (.agg #[.int .i64 s.no,v])/\gh w' w.heap.size w'.heap.size s.all [v]/\Below w.heap.size w w'
theorem aoY(L key:Int)(hk:1<=key/\key<=99)(c2:bF L)(t:List Nd)(ht:∀x∈t,dn x.b=true)(hl:t.length<=1000)(vt:Value)(w:World)(lo hi:Nat)(bZ:hi<=w.heap.size)(h1:eY w lo hi t [vt]) :
  Calls (ah β) 52 #[.int .i64 L,.int .i64 key,vt] w (azJ w (jv L key t)):=by
 have HT:=ab ht;clear ht;have HK:=ab hk;obtain⟨A,c,rfl⟩:=h1.form;obtain⟨_,hc,K⟩:=h1.len_;unfold maxLen at K;go_enter yM,ntmps52;go_wp2;generalize hG:((w.alloc (.cells #[.int .i64 0,.slice none 0 0] 65)).alloc (.cells #[] 91)).alloc (.cells #[.int .i64 L,.slice (some ⟨w.heap.size+1,0,none⟩) 0 0] 65)=w0 at *;obtain⟨aO,mo,B,eJ,iw,k1,bw,bl,P,a2,bp⟩:=azx hG;clear hG;obtain⟨all,n⟩:∃all,all=(jv L key t).all:=⟨_,rfl⟩;have b9:all.length=t.length:=by rw[n];exact pu _
 have mf:=ab n;clear n;have a1:gh w0 w.heap.size w0.heap.size [] [.slice (some ⟨w.heap.size+1,0,none⟩) 0 0]:=et.acJ ⟨_,rfl,by omega,k1⟩ (am _);have H0:=ab (And.intro a1 (And.intro B (And.intro P aO)));clear a1 B k1 P eJ bw a2 iw bl bp aO;go_loopw [8] (λii wr=>∃(k:Nat) (va:Value),k<=t.length/\ii=.int .i64 k/\gh wr w.heap.size wr.heap.size (all.take k) [va]/\bR wr w.heap.size 65 #[.int .i64 0,.slice none 0 0]/\bR wr (w.heap.size+1+1) 65 #[.int .i64 L,va]/\Below w.heap.size w wr) (λii _=>t.length-(intOf ii).toNat)
 case atStart=>exact⟨0,_,fb _,rfl,H0.out.1,H0.out.2.1,H0.out.2.2.1,H0.out.2.2.2⟩
 case round=>
  clear H0;obtain⟨k,va,c7,rfl,z,B,P,M⟩:=hrel;obtain⟨H,bx⟩:∃H,H=wr:=⟨_,rfl⟩;subst bx;obtain⟨Av,cv,rfl⟩:=z.form;have X:(all.take k).length=k:=by rw[ff,qV (by omega)]
  rw[X] at z P;by_cases ba:k<t.length
  .obtain⟨f,o⟩:=aq ba;have N:=iW (HT.out f (da o));have s:=eY.aw.below h1 M bZ;obtain⟨b1,c0,rfl,_,c5,b8,lz,bz⟩:=kO s o;have b0:all[k]?=some (fg key f):=by rw[mf.out];show(t.map (fg key))[k]?=_;rw[qD,o];rfl
   have eU:=nF b0;have kD:=ab eU;have U:=ab X;have ao:=kN N.2;have jG:=abK f.b;have c8:=N.1;have HA:=ab ao;have HC:=ab (af8 (β:=β) f.b (by omega));have C:=ab z;have bL:=ab b8;have a9:=ab o;clear o s N b0 eU ao X z;go_wp2;refine(HC.out H).mono ?_;rintro e E ⟨v1,rfl,op,T⟩;clear HC;obtain⟨Ap,cp,rfl⟩:=op.form;have I:=(op.deep (λx K=>kQ (HA.out x K)) H.heap.size).sl (am _);have zo:=M.size;have z1:=T.size;obtain⟨d,r⟩:∃d,d=(gb f.b).map λp=>bG key (bs p):=⟨_,rfl⟩;have an:fg key f=⟨f.p,d⟩:=by rw[r];rfl
   rw[an] at kD;clear an;revert r;revert HA;revert jG;revert I;generalize gb f.b=ps;intro I jG HA r;have V:=ab r;clear r;go_wp2;have b2:=aA E (.cells #[] 3);have a0:aF gM 3 (E.alloc (.cells #[] 3)) E.heap.size (.slice (some ⟨E.heap.size,0,none⟩) 0 0) []:=(et.new E 3 (am _)).own 1;have a3:=df.aw.below I b2 (am _);have b3:=ae T b2;have bt:=b2.size;have HO:=ab a0;have HR:=ab a3;have HB:=ab b3;clear a0 I a3 op b2 b3 lz bz T;generalize E.alloc (.cells #[] 3)=w2 at *;go_loopw [10,11] (λnn jj wr=>∃j:Nat,j<=ps.length/\jj=.int .i64 j/\aF gM 3 wr E.heap.size nn (d.take j)/\Below H.heap.size H wr/\df wr H.heap.size E.heap.size ps [.slice Ap ps.length cp]/\E.heap.size<=wr.heap.size) (λ_ jj _=>ps.length-(intOf jj).toNat)
   case atStart=>exact⟨0,fb _,rfl,HO.out,HB.out,HR.out,bt⟩
   case round=>
    clear HO HB HR;obtain⟨j,bP,rfl,J,a,hr,hz⟩:=hrel;have bO:d.length=ps.length:=by rw[V.out,pu]
    have W:(d.take j).length=j:=by rw[ff,qV (by omega)]
    obtain⟨Ao,co,rfl⟩:=J.form;rw[W] at J ⊢;by_cases bn:j<ps.length
    .obtain⟨p,D⟩:=aq bn;have bA:=HA.out p (da D);obtain⟨b2,oM,rfl,c4,bS,c1,bb⟩:=kL hr D;have b6:d[j]?=some (bG key (bs p)):=by rw[V.out,qD,D];rfl
     have eU:=nF b6;have O:=ab eU;have b5:=ab W;have S:=ab (aaM (β:=β) key p HK.out bA wr);have HR:=ab hr;have m:=jq (key:=key) (l:=bs p);revert S O m;generalize bG key (bs p)=nv;intro O S m;clear b6 eU hr D W;go_wp2;refine S.out.mono ?_;rintro e w3 ⟨rfl,rfl⟩;go_wp2_with(at_builtin;refine bU (F:=gM) (v:=.slice Ao j co) rfl (.tmp 34) (.tmp 41) 40 rfl oI nv rfl J rfl rfl (by have:=b5.out;omega) hz ?_;intro va wa oa Q bT;obtain⟨Aa,ca,rfl⟩:=oa.form;simp only[ap,eg,lw,mc,b5.out] at oa);go_roundw
     case rel=>
      refine⟨j+1,by omega,by go_num,by rw[O.out];simpa using oa,a.trans (Q.below a.size λi hi K=>by have:=(J.at_ K).1;omega),df.aw.dQ HR.out Q λb _ M _ hs=>by have:=(J.at_ hs).1;omega,bd hz Q.size⟩
     case measure=>simp[intOf];omega
    .obtain rfl:j=ps.length:=by omega
     have al:d.take ps.length=d:=by rw[<-bO,gn]
     rw[al] at J;have s:=eY.aw.below h1 (ae M a) bZ;have m:∀x∈d,gM.good x:=λx K=>by
      rw[V.out] at K;obtain⟨p,_,rfl⟩:=mT.1 K;have:=jq (key:=key) (l:=bs p);show bF _;unfold bF;omega
     have fX:=av B a;have R:=av P a;have z:=gh.aw.below C.out a (am _);obtain⟨b3,c6,e0,_,_,_,ax,_⟩:=kO s a9.out;simp only[mt,qv,ql] at e0;obtain⟨rfl,rfl⟩:=e0;have a8:wr.cell? ⟨w.heap.size+1+1,1,none⟩=some (.slice Av k cv):=R.cell 1;have zr:=a.size;have a7:=ab z;have HO:=ab J;have bk:=ab m;have aZ:=ab fX;have ay:=ab R;have HB:=ab (ae M a);clear z J m fX R s hr C B P M a al a9;go_wp2;have aJ:=aj a8;have aN:=aj ax;refine cD 10 [0,1,2,3,4,5,6,7] [8,9] (h:= ?_);simp only[pick,List.map,pi,pm];repeat(go_big_quiet_step (fail))
     refine lE ?_;clear aJ aN;apply Exists.intro;apply abE (.agg #[.string f.p,.slice Ao ps.length co])
     .intro y hF Qx q;have hQ:=ab q;clear q hF;go_wp2;exact hQ.out _ (gc _ _)
     apply dm (λv w'=>∃g,v=.slice (some ⟨g,0,none⟩) 1 1/\bR w' g 91 #[.string f.p,.slice Ao ps.length co])
     .rfl
     .exact λv x y ⟨g,e,hk⟩ hle=>⟨g,e,av hk hle⟩
     .intro x hF Qx q;have hQ:=ab q;clear q;go_wp2;exact hQ.out _ _ (aA _ _) ⟨_,rfl,bR.new _ _ _⟩
     intro u9;refine ep ?_;intro w6 Y xx nJ hF;dsimp only[js] at hF;try rw[nJ] at hF
     clear nJ xx;obtain⟨⟨g8,rfl,af⟩, -⟩:=hF;simp only[List.drop];have z6:=Y.size;have ad:=gh.aw.below a7.out Y zr;have o8:=(HO.out.below Y).base z1;have b7:Hid (OLs w6 H.heap.size w6.heap.size ⟨f.p,d⟩ [.string f.p,.slice Ao ps.length co]):=ab ⟨_,rfl,bL.out.1,o8.acJ bk.out (by omega) λg hg=>(o8.at_ hg).2⟩;have bo:=ab af;have aS:=ab ad;have bf:=ab (av aZ.out Y);have br:=ab (av ay.out Y);have a5:=ab (ae HB.out Y);clear a7 HO Y o8 af ad aZ ay HB a8 ax;go_wp2_with(at_builtin;refine lA ?_);refine⟨?_,trivial⟩;refine kS OLs.aw (by decide) (v:=.slice Av k cv) rfl (.tmp 44) (.tmp 52) 63 rfl ank ⟨f.p,d⟩ rfl aS.out rfl bo.out rfl (by simp[Value.oneCell']) (show H.heap.size<=w6.heap.size by omega) b7.out (am _) (by have:=U.out;omega) (by omega) ?_;intro v9 w9 o9 ki bW;obtain⟨A9,Z,rfl⟩:=o9.form;rw[ap,nf,U.out] at o9;rw[ap,nf,U.out];have G:=aS.out;have z9:=ki.size;have u:=dh G ki br.out (by decide);have aa:=dh G ki bf.out (by decide);have c3:w9.cell? ⟨w.heap.size+1+1,1,none⟩=some (.slice Av k cv):=u.cell 1;have c9:=u.frozen 1;have lh:=u.bM 1 (.slice A9 (k+1) Z);simp only[dj,gt,gE] at lh;have aM:gh (w9.setCell ⟨w.heap.size+1+1,1,none⟩ (.slice A9 (k+1) Z)) w.heap.size (w9.setCell ⟨w.heap.size+1+1,1,none⟩ (.slice A9 (k+1) Z)).heap.size (all.take (k+1)) [.slice A9 (k+1) Z]:=by
      rw[kD.out];simp only[ef];exact cH gh.aw o9 u (by decide) 1 _
     have a6:Below w.heap.size w (w9.setCell ⟨w.heap.size+1+1,1,none⟩ (.slice A9 (k+1) Z)):=(a5.out.trans (ki.below a5.out.size λi hi hs=>by have:=G.ob hs;omega)).setCell (by dsimp only;omega) _;have a4:=iB aa (p:=⟨w.heap.size+1+1,1,none⟩) (.slice A9 (k+1) Z) (by dsimp only;omega);have HF:=ab (And.intro aM (And.intro a4 (And.intro lh a6)));clear aM a4 lh a6 G u aa;go_wp2;go_roundw
     case rel=>exact⟨k+1,_,by omega,by go_num,HF.out.1,HF.out.2.1,HF.out.2.2.1,HF.out.2.2.2⟩
     case measure=>simp[intOf];omega
  .obtain rfl:k=t.length:=by omega
   have b4:all.take t.length=all:=by rw[<-b9,gn]
   rw[b4] at z;have a2:=P.cell;have iw:=B.frozen;have eJ:=B.cell;have C:=ab z;clear z b4;go_wp2;have k4:=(B.bM 0 (.int .i64 L)).bM 1 (.slice Av t.length cv);simp only[dj,gt,gE] at k4;have bi:=k4.cell;refine pe (v:=.agg #[.int .i64 L,.slice Av t.length cv]) (by simp[results,results52,go_sem,bi]) rfl ⟨_,rfl, ?_,(M.setCell (by simp) _).setCell (by simp) _⟩;rw[<-mf.out];simp only[ef];exact cH gh.aw (cH gh.aw C.out B (by decide) 0 _) (B.bM 0 _) (by decide) 1 _
end
section
variable {β:Bool}
open Go.RowKit
def jY(x:It):List It->List It
 |[]=>[x]
 |y::l=>if x.n<y.n then x::y::l else y::jY x l
def agc{x:It}:∀{a:List It},(∀y∈a,¬x.n<y.n)->jY x a=a++[x]
 |[],_=>rfl
 |y::a,h=>by
  show(if x.n<y.n then _ else _)=_;rw[be (h y (by simp)),agc λz b=>h z (by simp[b])];rfl
def aiX{x z:It}:∀{a:List It},(∀y∈a,¬x.n<y.n)->x.n<z.n->jY x (a++[z])=a++[x]++[z]
 |[],_,b=>by show(if x.n<z.n then _ else _)=_;rw[dk b];rfl
 |y::a,h,b=>by
  show(if x.n<y.n then _ else _)=_;rw[be (h y (by simp))];show y::jY x (a++[z])=_;rw[aiX (λz b=>h z (by simp[b])) b];rfl
def aiY{x z:It}:∀{a:List It},(∃y∈a,x.n<y.n)->jY x (a++[z])=jY x a++[z]
 |[],h=>by obtain⟨y,b,_⟩:=h;cases b
 |y::a,h=>by
  show(if x.n<y.n then _ else _)=(if x.n<y.n then _ else _)++_;by_cases b:x.n<y.n
  .rw[dk b,dk b];rfl
  .rw[be b,be b];show y::jY x (a++[z])=y::(jY x a++[z]);rw[aiY];obtain⟨u,d,c⟩:=h;rcases jp.1 d with rfl|d
   .exact absurd c b
   .exact⟨u,d,c⟩
def aeU(x:It):∀l:List It,(jY x l).length=l.length+1
 |[]=>rfl
 |y::l=>by
  show(if x.n<y.n then _ else _:List It).length=_;split
  .rfl
  .show(jY x l).length+1=_;rw[aeU x l];rfl
def aiZ{x z:It}:∀{l:List It},z∈jY x l↔z=x\/z∈l
 |[]=>by show z∈[x]↔_;simp
 |y::l=>by
  show z∈(if x.n<y.n then _ else _)↔_;split
  .simp
  .rw[jp,aiZ,jp];constructor
   .rintro(h|h|h)<;>simp[h]
   .rintro(h|h|h)<;>simp[h]
def abQ(x:It)(a:List It)(b:Bool)(o:List It):Prop:=(b=false/\o=a/\∀y∈a,¬x.n<y.n)\/(b=true/\o=jY x a/\∃y∈a,x.n<y.n)
def aoZ{b:Bool}(h:abQ x a b o):o.length<=a.length+1:=by
 rcases h with⟨_,rfl,_⟩|⟨_,rfl,_⟩
 .omega
 .rw[aeU];exact am _
def ao0(h:abQ x a false o)(b:x.n<z.n):abQ x (a++[z]) true (o++[x]++[z]):=by
 rcases h with⟨_,rfl,h⟩|⟨h,_⟩
 .exact .inr ⟨rfl,(aiX h b).symm,z,by simp,b⟩
 .cases h
def arp(h:abQ x a false o)(c:¬x.n<z.n):abQ x (a++[z]) false (o++[z]):=by
 rcases h with⟨_,rfl,h⟩|⟨h,_⟩
 .exact .inl ⟨rfl,rfl,λy b=>by
   rcases ge.1 b with b|b
   .exact h y b
   .rw[jn.1 b];exact c⟩
 .cases h
def alg(h:abQ x a true o):abQ x (a++[z]) true (o++[z]):=by
 rcases h with⟨h,_⟩|⟨_,rfl,y,c,b⟩
 .cases h
 .exact .inr ⟨rfl,(aiY ⟨y,c,b⟩).symm,y,by simp[c],b⟩
def ao1{b:Bool}(h:abQ x a b o):(b=false/\jY x a=o++[x])\/(b=true/\jY x a=o):=by
 rcases h with⟨c,rfl,h⟩|⟨c,rfl,_⟩
 .exact .inl ⟨c,agc h⟩
 .exact .inr ⟨c,rfl⟩
def azP(w:World)(ys:List It)(e:Ending)(w':World):Prop:=∃v,e=.returned v/\aF nX 49 w' w.heap.size v ys/\Below w.heap.size w w'
def ao2(x:It)(a1:nX.good x)(xs:List It)(v:Value)(w:World)(lo hi:Nat)(Z:hi<=w.heap.size)(h:iD w lo hi xs [v])(hl:xs.length<=1000000) :
  Calls (ah β) 91 #[v,.agg #[.int .i64 x.n,.string x.b]] w (azP w (jY x xs)):=by
 obtain⟨A,c,rfl⟩:=h.form;obtain⟨_,hc,hx⟩:=h.len_;unfold maxLen at hx;go_enter yu,ntmps91;go_wp2;generalize V:(w.alloc (.cells #[.int .i64 x.n,.string x.b] 49)).alloc (.cells #[] 49)=w0 at *;obtain⟨C,mo,k0,eJ,iw,G,u,H⟩:=akM V;clear V;have K:w.heap.size+1<=w0.heap.size:=by omega
 have g0:=iD.aw.below h C Z;have W:aF nX 49 w0 (w.heap.size+1) (.slice (some ⟨w.heap.size+1,0,none⟩) 0 0) []:=aF.aqR ⟨_,rfl,am _,G⟩;go_loopw [5,6,7] (λoo pp U wr=>∃(k:Nat) (b:Bool) (o:List It),k<=xs.length/\pp=.bool b/\U=.int .i64 k/\aF nX 49 wr (w.heap.size+1) oo o/\abQ x (xs.take k) b o/\bq (λb=>w.heap.size+1<=b) w0 wr) (λ_ _ U _=>xs.length-(intOf U).toNat)
 case atStart=>exact⟨0,false,[],fb _,rfl,rfl,W,.inl ⟨rfl,rfl,λy hy=>(by cases hy)⟩,bq.refl _ _⟩
 case round=>
  clear W G u H;obtain⟨k,b,o,hk,rfl,rfl,s,g,a⟩:=hrel;replace g:=ab g;obtain⟨r,t,rfl⟩:=s.form;have nU:=aoZ g.out;rw[ff] at nU;have g1:iD wr lo hi xs [.slice A xs.length c]:=iD.aw.dQ g0 a λb _ h2 _ h3=>by omega
  have G:=bH k0 a (by omega);have u:=G.cell;have H:=G.frozen;by_cases Q:k<xs.length
  .obtain⟨z,p⟩:=aq Q;obtain⟨b1,a5,rfl,a8,a6,a3,cn,cb⟩:=af5 g1 p;replace p:=ab p;have P:=ab (nF p.out);cases b with
   |true=>
    have D:=ab (alg (z:=z) g.out);go_wp2
    go_quiet (fail)
    have m:aF nX 49 (wr.drewN nq) (w.heap.size+1) (.slice r o.length t) o:=s;go_wp2_with(at_builtin;refine bU (F:=nX) (v:=.slice r o.length t) rfl (.tmp 31) (.tmp 36) 30 rfl pK z rfl m rfl rfl (by first|omega|(simp only[ap,eg,lw];omega)) (bd K (a.drewN nq).size) ?_;intro R B f n q;obtain⟨E,I,rfl⟩:=f.form;simp only[ap,eg,lw,mc] at f;skip);have d:bq (λb=>w.heap.size+1<=b) w0 B:=(a.drewN nq).trans n λb L e=>(m.at_ e).1;go_roundw
    case rel=>exact⟨k+1,true,o++[z],by omega,rfl,by go_num,f,by rw[P.out];exact D.out,d⟩
    simp[intOf];omega
   |false=>
    by_cases j:x.n<z.n
    .have t1:decide (x.n<z.n)=true:=db j;have D:=ab (ao0 g.out j);clear j;go_wp2
     go_quiet (fail)
     have m:aF nX 49 (wr.drewN nq) (w.heap.size+1) (.slice r o.length t) o:=s;have a2:∀i,(wr.drewN nq).cell? ⟨w.heap.size,i,none⟩=_:=u;go_wp2_with(first|(at_builtin;refine bU (F:=nX) (v:=.slice r o.length t) rfl (.tmp 27) (.tmp 29) 30 rfl pK x rfl m rfl rfl (by first|omega|(simp only[ap,eg,lw];omega)) (bd K (a.drewN nq).size) ?_;intro R B f n q;obtain⟨E,I,rfl⟩:=f.form;simp only[ap,eg,lw,mc] at f;have d:bq (λb=>w.heap.size+1<=b) w0 B:=(a.drewN nq).trans n λb L e=>(m.at_ e).1;have a4:=iC (w:=wr.drewN nq) cn n (λJ=>by have:=(m.at_ J).1;dsimp only at this;omega);have a7:=iC (w:=wr.drewN nq) cb n (λJ=>by have:=(m.at_ J).1;dsimp only at this;omega))|(at_builtin;refine bU (F:=nX) (v:=.slice E (o.length+1) I) rfl (.tmp 31) (.tmp 36) 30 rfl pK z rfl f rfl rfl (by first|omega|(simp only[ap,eg,lw];omega)) (bd K d.size) ?_;intro v4 Y T M a0;obtain⟨A4,c4,rfl⟩:=T.form;simp only[ap,eg,lw,mc] at T;have S:bq (λb=>w.heap.size+1<=b) w0 Y:=d.trans M λb L e=>(f.at_ e).1));go_roundw
     case rel=>exact⟨k+1,true,o++[x]++[z],by omega,rfl,by go_num,T,by rw[P.out];exact D.out,S⟩
     simp[intOf];omega
    .have t1:decide (x.n<z.n)=false:=bv j;have D:=ab (arp g.out j);clear j;go_wp2
     go_quiet (fail)
     have m:aF nX 49 (wr.drewN nq) (w.heap.size+1) (.slice r o.length t) o:=s;go_wp2_with(at_builtin;refine bU (F:=nX) (v:=.slice r o.length t) rfl (.tmp 31) (.tmp 36) 30 rfl pK z rfl m rfl rfl (by first|omega|(simp only[ap,eg,lw];omega)) (bd K (a.drewN nq).size) ?_;intro R B f n q;obtain⟨E,I,rfl⟩:=f.form;simp only[ap,eg,lw,mc] at f;skip);have d:bq (λb=>w.heap.size+1<=b) w0 B:=(a.drewN nq).trans n λb L e=>(m.at_ e).1;go_roundw
     case rel=>exact⟨k+1,false,o++[z],by omega,rfl,by go_num,f,by rw[P.out];exact D.out,d⟩
     simp[intOf];omega
  .obtain rfl:k=xs.length:=by omega
   have l:=ao1 g.out;rw[gn] at l;have X:=ab l;clear l;have N:Below w.heap.size w wr:=C.trans (a.below C.size λi hi J=>by omega);cases b with
   |true=>
    have O:jY x xs=o:=by
     rcases X.out with⟨h,_⟩|⟨_,h⟩
     .cases h
     .exact h
    rw[O];go_wp2;go_ret;exact⟨_,rfl,s.base (by omega),N⟩
   |false=>
    have O:jY x xs=o++[x]:=by
     rcases X.out with⟨_,h⟩|⟨h,_⟩
     .exact h
     .cases h
    rw[O];go_wp2_with(at_builtin;refine bU (F:=nX) (v:=.slice r o.length t) rfl (.tmp 40) (.tmp 42) 30 rfl pK x rfl s rfl rfl (by first|omega|(simp only[ap,eg,lw];omega)) (bd K a.size) ?_;intro R B f n q;obtain⟨E,I,rfl⟩:=f.form;simp only[ap,eg,lw,mc] at f;skip);have d:bq (λb=>w.heap.size+1<=b) w0 B:=a.trans n λb L e=>(s.at_ e).1;go_ret;exact⟨.slice E (o.length+1) I,rfl,by have:=f.base (base':=w.heap.size) (by omega);simpa using this,C.trans (d.below C.size λi hi J=>by omega)⟩
def iG(key:Int)(s:ByteArray):It:=⟨bG key (bs s),rE (fN (bs s))⟩
def fG(key:Int)(l:List ByteArray):List It:=l.foldl (λa s=>jY (iG key s) a) []
def nk(key:Int)(l:List ByteArray)(s:ByteArray):fG key (l++[s])=jY (iG key s) (fG key l):=by
 unfold fG;rw[sJ];rfl
def pO(key:Int)(l:List ByteArray):(fG key l).length=l.length:=by
 induction l using mP with
 |h0=>rfl
 |h1 l s a=>rw[nk,aeU,a,ap];rfl
def acK{l:List ByteArray}:x∈fG key l↔∃s∈l,x=iG key s:=by
 induction l using mP with
 |h0=>simp[fG]
 |h1 l s b=>
  rw[nk,aiZ,b];constructor
  .rintro(h|⟨t,a,h⟩)
   .exact⟨s,by simp,h⟩
   .exact⟨t,by simp[a],h⟩
  .rintro⟨t,a,h⟩;rcases ge.1 a with a|a
   .exact .inr ⟨t,a,h⟩
   .rw[jn.1 a] at h;exact .inl h
def adg(key:Int)(a:bg (bs s)):nX.good (iG key s):=by
 have b:=jq (key:=key) (l:=bs s);show bF (bG key (bs s))/\(rE (fN (bs s))).size<=maxLen;refine⟨by unfold bF;omega, ?_⟩;rw[<-aK,aha,aiu a];have:=(pE (n:=(bs s).length)).1;unfold maxLen;omega
def aeV{l:List ByteArray}(h:∀s∈l,bg (bs s)):∀x∈fG key l,nX.good x:=λx b=>by
 obtain⟨s,a,rfl⟩:=acK.1 b;exact adg key (h s a)
def azQ(no:Int)(w:World)(ys:List It)(e:Ending)(w':World):Prop:=∃v,e=.returned (.agg #[.int .i64 no,v])/\aF nX 49 w' w.heap.size v ys/\Below w.heap.size w w'
def alh(B key:Int)(hk:1<=key/\key<=99)(xs:List ByteArray)(I:∀s∈xs,bg (bs s))(hl:xs.length<=100)(v:Value)(w:World)(lo hi:Nat)(bZ:hi<=w.heap.size)(h:df w lo hi xs [v]) :
  Calls (ah β) 51 #[.int .i64 B,.int .i64 key,v] w (azQ B w (fG key xs)):=by
 replace I:=ab I;obtain⟨A,c,rfl⟩:=h.form;go_enter yN,ntmps51;go_wp2;generalize hG:((w.alloc (.cells #[.int .i64 0,.slice none 0 0] 32)).alloc (.cells #[] 49)).alloc (.cells #[.int .i64 B,.slice (some ⟨w.heap.size+1,0,none⟩) 0 0] 32)=w0 at *;obtain⟨aO,mo,i,Y,J,k1,V,a0,d,b,o⟩:=azx hG;clear hG;have o0:aF nX 49 w0 (w.heap.size+1) (.slice (some ⟨w.heap.size+1,0,none⟩) 0 0) []:=aF.aqR ⟨_,rfl,am _,k1⟩;go_loopw [8] (λii wr=>∃(k:Nat) (T:Value),k<=xs.length/\ii=.int .i64 k/\aF nX 49 wr (w.heap.size+1) T (fG key (xs.take k))/\bR wr w.heap.size 32 #[.int .i64 0,.slice none 0 0]/\bR wr (w.heap.size+1+1) 32 #[.int .i64 B,T]/\Below w.heap.size w wr) (λii _=>xs.length-(intOf ii).toNat)
 case atStart=>exact⟨0,_,fb _,rfl,o0,i,d,aO⟩
 case round=>
  clear o0 i k1 d Y V b J a0 o;obtain⟨k,T,a3,rfl,n,i,d,j⟩:=hrel;obtain⟨O,U,rfl⟩:=n.form;have h1:=df.aw.below h j bZ;have Y:=i.cell;have J:=i.frozen;have b:=d.cell;have o:=d.frozen;have r:Hid (∀x∈fG key (xs.take k),nX.good x):=ab (aeV λs hs=>I.out s (oS hs));have F:(fG key (xs.take k)).length<=100:=by rw[pO,ff];omega
  by_cases W:k<xs.length
  .obtain⟨s,m⟩:=aq W;obtain⟨b1,a5,rfl,_,_,P,q⟩:=kL h1 m;have z:=I.out s (da m);have l:fG key (xs.take (k+1))=jY (iG key s) (fG key (xs.take k)):=by rw[nF m,nk]
   have HST:=ab l;clear l m;have Q:=ab (adg key z);have X:=ab (λw=>aaM (β:=β) key s hk z w);have a1:=ab (λw=>aoy (β:=β) s P w);have E:iG key s=⟨bG key (bs s),rE (fN (bs s))⟩:=rfl;have a4:=ab E;have R:=ab (aha s);clear z E;have G:=n.deep r.out (w.heap.size+1) |>.sl (am _)
   have K:wr.cell? ⟨w.heap.size+1+1,1,none⟩=some (.slice O (fG key (xs.take k)).length U):=b 1;have C:=ab (λg hg=>n.at_ (g:=g) hg);have a7:w.heap.size+1+1<wr.heap.size:=d.lt;revert HST;revert F;revert K;revert G;revert r;revert C;revert n;revert b;revert d;generalize fG key (xs.take k)=L;intro d b n C r G K F HST;go_wp2;have aJ:=aj K;have aN:=aj q;refine cD 15 [0,1,2,3,4,5,6,8,9,10,11] [7,12,13,14] (h:= ?_);simp only[pick,List.map,pi,pm];repeat(go_big_quiet_step (fail))
   refine lE ?_;clear aJ aN;apply Exists.intro;apply abE (.int .i64 (bG key (bs s)))
   .intro y f M a;replace a:=ab a;clear f;go_wp2;refine(X.out y.to).mono ?_;rintro e wy ⟨rfl,rfl⟩;go_wp2;exact a.out _ (gc _ _)
   apply abE (.string (rE (fN (bs s))))
   .intro y f M a;replace a:=ab a;clear f;go_wp2;refine(a1.out y.to).mono ?_;rintro e wy ⟨⟨t,rfl,ht⟩,rfl⟩;have S:t=rE (fN (bs s)):=lO (ht.trans R.out.symm);subst S;go_wp2;exact a.out _ (gc _ _)
   apply abE (.agg #[.int .i64 (bG key (bs s)),.string (rE (fN (bs s)))])
   .intro y f M a;replace a:=ab a;clear f;go_wp2;exact a.out _ (gc _ _)
   apply dm (λv w'=>aF nX 49 w' wr.heap.size v (jY (iG key s) L))
   .rfl
   .exact λv x y h a2=>h.below a2
   .intro y f M a;replace a:=ab a;clear f;have r1:=iD.aw.below G y.ok (am _);go_wp2;refine(ao2 (iG key s) Q.out L _ y.to _ _ y.ok.size r1 (by omega)).mono ?_;rintro e wy ⟨vy,rfl,oy,N⟩;go_wp2;exact a.out _ _ N (oy.base y.ok.size)
   intro a6;refine ep ?_;intro w2 u xx nJ f;dsimp only[js] at f;try rw[nJ] at f
   clear nJ xx;obtain⟨A5,c5,rfl⟩:=f.1.form;have o5:=f.1;clear f G;simp only[List.drop];replace i:=av i u;replace Y:=i.cell;replace J:=i.frozen;replace d:=av d u;replace b:=d.cell;replace o:=d.frozen;replace j:=ae j u;go_wp2;have D:=d.bM 1 (.slice A5 (jY (iG key s) L).length c5);simp only[dj,gt,gE] at D;go_roundw
   case rel=>exact⟨k+1,_,by omega,by go_num,by rw[HST.out];exact(o5.bM _ (by dsimp only;omega)).base (by omega),iB i _ (by dsimp only;omega),D,j.setCell (by dsimp only;omega) _⟩
   simp[intOf];omega
  .obtain rfl:k=xs.length:=by omega
   rw[gn] at n b d;obtain⟨L,H⟩:∃L,L=fG key xs:=⟨_,rfl⟩;rw[<-H] at n b d ⊢;replace H:=ab H;go_wp2;have k4:=(i.bM 0 (.int .i64 B)).bM 1 (.slice O L.length U);simp only[dj,gt,gE] at k4;have Z:=k4.cell;exact pe (v:=.agg #[.int .i64 B,.slice O L.length U]) (by simp[results,results51,go_sem,Z]) rfl ⟨_,rfl,by rw[<-H.out];exact aF.base (base:=w.heap.size+1) ((n.bM (p:=⟨w.heap.size,0,none⟩) _ (by dsimp only;omega)).bM (p:=⟨w.heap.size,1,none⟩) _ (by dsimp only;omega)) (by omega),(j.setCell (by simp) _).setCell (by simp) _⟩
end
section
variable {β:Bool}
open Go.RowKit
def eC(l:List Pk):Int:=((l.getLast?).map (·.no)).getD 0+1
def fh(l:List Hd):Int:=l.foldl (λa h=>max a (h.s+1)) 1
def dI(s:dK):Int:=match s.sn.getLast? with|some x=>max (fh s.lg) (x.no+1)|none=>fh s.lg
def ali{l:List Hd}{h:Hd}(a:l[k]?=some h):fh (l.take (k+1))=max (fh (l.take k)) (h.s+1):=by
 unfold fh;rw[nF a,sJ];rfl
def ai0{l:List Hd}{b:Int}(d:1<=b)(h:∀x∈l,x.s+1<=b):1<=fh l/\fh l<=b:=by
 induction l using mP with
 |h0=>exact⟨ui _,d⟩
 |h1 l x a=>
  have e:fh (l++[x])=max (fh l) (x.s+1):=by unfold fh;rw[sJ];rfl
  have:=a λy c=>h y (by simp[c]);have:=h x (by simp);rw[e];omega
def axN(m x:Int):(if m<x then x else m)=max m x:=by rw[Int.max_def];split<;>split<;>omega
def vI{l:List Z}(h:0<l.length):∃x,l[l.length-1]?=some x/\l.getLast?=some x:=by
 obtain⟨x,a⟩:=aq (show l.length-1<l.length by omega);exact⟨x,a,by rw[List.getLast?_eq_getElem?,a]⟩
def alj(b:Int)(s:dK):Prop:=(∀p∈s.pk,p.no<=b)/\(∀x∈s.sn,x.no<=b)/\∀h∈s.lg,h.s<=b
def ai1(s:dK)(u:alj 1000000 s)(va vb vc:Value)(w:World)(lo hi:Nat)(h:aga w lo hi s va vb vc)(S:hi<=w.heap.size) :
  Calls (ah β) 48 #[.agg #[va,vb,vc]] w λe w'=>e=.returned (.tuple #[.int .i64 (eC s.pk),.int .i64 (dI s)])/\Below w.heap.size w w':=by
 obtain⟨O,K,W⟩:=h;obtain⟨A,a,rfl⟩:=cV.form O;obtain⟨B,b,rfl⟩:=cV.form K;obtain⟨C,c,rfl⟩:=cV.form W;obtain⟨_,a7,a5⟩:=O.len_;obtain⟨_,an,a6⟩:=K.len_;obtain⟨_,af,a4⟩:=W.len_;unfold maxLen at a5 a6 a4;have r:∀p∈s.pk,bF p.no:=λp i=>by
  obtain⟨P,v,_,hg,_⟩:=O.aqC p i;exact hg
 have q:∀p∈s.sn,bF p.no:=λp i=>by
  obtain⟨P,v,_,hg,_⟩:=K.aqC p i;exact hg
 replace u:=ab u;replace r:=ab r;replace q:=ab q;go_enter yQ,ntmps48;rcases pa s.pk.length with t|t
 case' inl=>
  have t1:=bv (show ¬(0<s.pk.length) by omega);have i:eC s.pk=1:=by rw[ph.1 t];rfl
  have HP:=ab i;have HZ:=ab t;clear t i;go_wp2
 case' inr=>
  have t1:=db (show 0<s.pk.length by omega);obtain⟨z,f,E⟩:=vI t;have aa:=u.out.1 z (da f);have Z:=r.out z (da f);unfold bF at Z;have i:eC s.pk=z.no+1:=by unfold eC;rw[E];rfl
  have HP:=ab i;replace f:=ab f;clear i E;obtain⟨b4,U,P,D,_,_,_,⟨v4,rfl,a1⟩,n⟩:=(kR.loc.below O (aA w (.cells #[.slice A s.pk.length a,.slice B s.sn.length b,.slice C s.lg.length c] 27)) S).at_ f.out;subst D;obtain⟨m4,F⟩:∃m,m=s.pk.length-1:=⟨_,rfl⟩;rw[<-F] at n;have e4:(s.pk.length:Int)-1=((m4:Nat):Int):=by omega
  have a8:m4<s.pk.length:=by omega
  have I:=n 0 _ rfl;rw[sS] at I;clear n a1 F t f;go_wp2;clear e4 I;generalize some (⟨b4,U,none⟩:Addr)=A at *
 all_goals
  generalize hG:w.alloc (.cells #[.slice A s.pk.length a,.slice B s.sn.length b,.slice C s.lg.length c] 27)=w0 at *;obtain⟨M,mo,k0,eJ,iw⟩:=iN hG;clear hG;have a3:=aaq.loc.below W M S
  go_loop [5,6] (λss ii=>∃k:Nat,k<=s.lg.length/\ii=.int .i64 k/\ss=.int .i64 (fh (s.lg.take k))) (λ_ ii=>s.lg.length-(intOf ii).toNat)
  case atStart=>exact⟨0,fb _,rfl,rfl⟩
  case round=>
   obtain⟨k,ad,rfl,rfl⟩:=hrel;by_cases X:k<s.lg.length
   .obtain⟨x,L⟩:=aq X;have pD:=u.out.2.2 x (da L);obtain⟨Y,o,P,D,_,_,_,⟨rfl,g⟩,d⟩:=a3.at_ L;subst D;have a0:bF x.s:=g.2;unfold bF at a0;have Q:w0.cell? ⟨Y,o+k*2+1,none⟩=some (.int .i64 x.s):=by simpa using d 1 _ rfl
    have J:=ai0 (l:=s.lg.take k) (b:=1000001) (by omega) λy j=>by have:=u.out.2.2 y (oS j);omega
    have eU:=ali L;have V:=ab eU;clear eU L d g;revert V J;generalize fh (s.lg.take k)=m;intro J V;go_wp2
    go_round
    case rel=>exact⟨k+1,by omega,by go_num,by rw[V.out,axN]⟩
    simp[intOf];omega
   .obtain rfl:k=s.lg.length:=by omega
    rw[gn];have T:=mr.loc.below K M S;rcases pa s.sn.length with j|j
    .have t2:=bv (show ¬(0<s.sn.length) by omega);have H:dI s=fh s.lg:=by unfold dI;rw[ph.1 j];rfl
     have R:=ab H;have HY:=ab j;clear H j;go_wp2;go_ret2;exact⟨by rw[HP.out,R.out];rfl,M⟩
    .have t2:=db (show 0<s.sn.length by omega);obtain⟨y,N,G⟩:=vI j;have a9:=u.out.2.1 y (da N);have a2:=q.out y (da N);unfold bF at a2;have H:dI s=max (fh s.lg) (y.no+1):=by unfold dI;rw[G]
     obtain⟨Y,o,P,D,_,_,_,⟨v5,rfl,g⟩,d⟩:=T.at_ N;subst D;obtain⟨m,J⟩:∃m,m=s.sn.length-1:=⟨_,rfl⟩;rw[<-J] at d;have e1:(s.sn.length:Int)-1=((m:Nat):Int):=by omega
     have al:m<s.sn.length:=by omega
     have Q:w0.cell? ⟨Y,o+m*2,none⟩=some (.int .i64 y.no):=by simpa using d 0 _ rfl
     have R:=ab H;clear H G N d g J j;go_wp2;all_goals
      go_ret2;exact⟨by rw[HP.out,R.out];first|(rw[Int.max_eq_right (by omega)];rfl)|(rw[Int.max_eq_left (by omega)];rfl),M⟩
end
section
variable {β:Bool}
open Go.RowKit
def eM(key:Int)(no:Int)(l:List ByteArray):List Pk:=
 if h:l=[] then[] else⟨no,fG key (l.take 4)⟩::eM key (no+1) (l.drop 4)
termination_by l.length
decreasing_by
 have:0<l.length:=List.length_pos_iff.2 h;rw[pY];omega
def gO(key a:Int):eM key a []=[]:=by rw[eM];rfl
def lB(key a:Int){l:List ByteArray}(h:0<l.length):eM key a l=⟨a,fG key (l.take 4)⟩::eM key (a+1) (l.drop 4):=by
 rw[eM,dif_neg (by rintro rfl;simp at h)]
open Classical in
noncomputable def np(l:List Pk):List Sp:=if ∀s∈bE l,spP s then cN (bE l) [] else[]
def ann(l:List Pk):IOf l (np l):=by
 unfold np;by_cases h:∀s∈bE l,spP s
 .rw[dk h];exact .inl ⟨h,rfl⟩
 .rw[be h];exact .inr ⟨h,rfl⟩
noncomputable def acL(key:Int)(s:dK)(t:List Nd):List Pk:=eM key (eC s.pk) (aad key (np s.pk) t)
def aeW(key:Int)(s:dK)(t:List Nd):Prop:=(s.pk++acL key s t).length<=20/\eC s.pk+(acL key s t).length-1<=99/\dI s<=20/\s.lg.length<9
noncomputable def aaV(key:Int)(s:dK)(by_:Int)(t:List Nd):dK:=⟨s.pk++acL key s t,s.sn++[jv (dI s) key t],s.lg++[⟨by_,dI s⟩]⟩
structure afC (w wr:World) (va vb vc:Value) (gm:Nat) (vp vs vl:Value) (pk:List Pk) (sn:List Sn) (lg:List Hd) (H:Nat):Prop where
 k0:bR wr w.heap.size 27 #[va,vb,vc]
 k1:bR wr (w.heap.size+1) 27 #[.slice none 0 0,.slice none 0 0,.slice none 0 0]
 m:bR wr gm 27 #[vp,vs,vl]
 op:fE wr w.heap.size H pk [vp]
 os:gj wr w.heap.size H sn [vs]
 ol:fF wr w.heap.size H lg [vl]
 bl:Below w.heap.size w wr
 gm1:w.heap.size+1<gm
 gm2:gm<wr.heap.size
 hH:H<=wr.heap.size
def afC.below{wr : World}{e c : Value}{b:List Sn}{d:List Hd}(h:afC w wr X W V Y v e c R b d U)(a:Below wr.heap.size wr w'):afC w w' X W V Y v e c R b d U:=
 ⟨av h.k0 a,av h.k1 a,av h.m a,fE.aw.below h.op a h.hH,gj.aw.below h.os a h.hH,fF.aw.below h.ol a h.hH,ae h.bl a,h.gm1,aE h.gm2 a.size,bd h.hH a.size⟩
def afC.up{wr : World}{e c : Value}{b:List Sn}{d:List Hd}{H' : Nat}(h:afC w wr X W V Y v e c R b d U)(a:U<=H')(f:H'<=wr.heap.size):afC w wr X W V Y v e c R b d H':=
 ⟨h.k0,h.k1,h.m,fE.aw.wide h.op (am _) a,gj.aw.wide h.os (am _) a,fF.aw.wide h.ol (am _) a,h.bl,h.gm1,h.gm2,f⟩
def azR:Value->Nat
 |.slice _ n _=>n
 |_=>0
def arq(key:Int)(s:dK)(by_:Int)(t:List Nd)(w:World)(e:Ending)(w':World):Prop:=
 ∃c b a q r,e=.returned (.tuple #[.agg #[c,b,a],.bool q])/\fQ w' w.heap.size w'.heap.size r c b a/\((q=true/\aeW key s t/\r=aaV key s by_ t)\/(q=false/\¬aeW key s t/\r=s))/\Below w.heap.size w w'
def ai2 (key:Int) (hk:1<=key/\key<=99) (s:dK) (r:Int) (bt:bF r) (t:List Nd) (ht:∀x∈t,dn x.b=true) (hl:t.length<=10) (hs:alj 1000000 s) (el:(bE s.pk).length<=10000) (bW:adB s<=1000000)
  (va vb vc vt:Value) (w:World) (lo hi bk mV:Nat) (h:fQ w lo hi s va vb vc) (bZ:hi<=w.heap.size) (h1:eY w bk mV t [vt]) (d2:mV<=w.heap.size) :
  Calls (ah β) 33 #[.int .i64 key,.agg #[va,vb,vc],.int .i64 r,vt] w (arq key s r t w):=by
 replace ht:=ab ht;have HS:=ab hs;have HK:=ab hk;replace bt:=ab bt;clear hs;obtain⟨A,a,rfl⟩:=h.pk.form;obtain⟨B,b,rfl⟩:=h.sn.form;obtain⟨C,c,rfl⟩:=h.lg.form;obtain⟨D,d,rfl⟩:=h1.form;have ej:s.pk.length<=1000000:=by
  have h1:=iX (f:=bPk) (l:=s.pk);unfold adB at bW;omega
 have ez:s.sn.length<=1000000:=by
  have h1:=iX (f:=bSn) (l:=s.sn);unfold adB at bW;omega
 have en:s.lg.length<=1000000:=by unfold adB at bW;omega
 go_enter ze,ntmps33;go_wp2;generalize hG:(w.alloc (.cells #[.slice A s.pk.length a,.slice B s.sn.length b,.slice C s.lg.length c] 27)).alloc (.cells #[.slice none 0 0,.slice none 0 0,.slice none 0 0] 27)=w0 at *;obtain⟨aO,mo,k0,eJ,iw,k1,c3,c1⟩:=akM hG;clear hG;have d3:=h.below aO bZ;refine(adf s _ _ _ w0 lo hi d3.l (by omega) (by omega)).mono ?_;rintro e w1 ⟨vp,vs,vl,rfl,oc,b1⟩;obtain⟨Ap,cp,rfl⟩:=oc.pk.form;obtain⟨As,cs,rfl⟩:=oc.sn.form;obtain⟨Al,cl,rfl⟩:=oc.lg.form;replace k0:=av k0 b1;replace eJ:=k0.cell;replace iw:=k0.frozen;replace k1:=av k1 b1;replace c3:=k1.cell;replace c1:=k1.frozen;replace aO:=ae aO b1;have c7:=ab oc;have z1:=b1.size;clear oc d3;have ax:=aA w1 (.cells #[.slice Ap s.pk.length cp,.slice As s.sn.length cs,.slice Al s.lg.length cl] 27);have dp:=(av k0 ax).cell;go_wp2;clear ax dp;generalize hG:w1.alloc (.cells #[.slice Ap s.pk.length cp,.slice As s.sn.length cs,.slice Al s.lg.length cl] 27)=w2 at *;obtain⟨jl,eS,m0,aN,di⟩:=iN hG;clear hG;replace k0:=av k0 jl;replace eJ:=k0.cell;replace iw:=k0.frozen;replace k1:=av k1 jl;replace c3:=k1.cell;replace c1:=k1.frozen;have aZ:=c7.out.below jl (am _);have P:afC w w2 (.slice A s.pk.length a) (.slice B s.sn.length b) (.slice C s.lg.length c) w1.heap.size (.slice Ap s.pk.length cp) (.slice As s.sn.length cs) (.slice Al s.lg.length cl) s.pk s.sn s.lg w1.heap.size:=
  ⟨k0,k1,m0,fE.aw.wide aZ.pk (by omega) (am _),gj.aw.wide aZ.sn (by omega) (am _),fF.aw.wide aZ.lg (by omega) (am _),ae aO jl,by omega,by omega,jl.size⟩
 obtain⟨u,ct⟩:∃u,u=w1.heap.size:=⟨_,rfl⟩;rw[<-ct] at P ⊢;have E:=ab P;have bA:=h.below (ae aO jl) bZ;have HST:=ab bA;clear ct P aZ c7 k0 k1 m0 eJ c3 aN iw c1 di aO jl b1;refine(ai1 s HS.out _ _ _ w2 lo hi bA.l (by have:=E.out.bl.size;omega)).mono ?_;rintro e w3 ⟨rfl,b3⟩;have al:=E.out.below b3;have cw:=ab al;have bP:=HST.out.below b3 (by have:=E.out.bl.size;omega);have cC:=ab bP;have eJ:=al.k0.cell;have z3:=al.bl.size;clear al E HST bA b3;go_wp2;refine(adH s.pk _ w3 lo hi (by omega) (fE.t bP.pk) (by omega) (np s.pk) (ann _)).mono ?_;rintro e w4 ⟨vi,rfl,oi,b4⟩;clear bP;have c4:=(ann s.pk).ix;have ch:=((oi.deep (auj c4) 0).sl (fb _)).1;have b0:=cw.out.below b4;have cX:=ab b0;have cP:=eY.aw.wide (eY.aw.below h1 b0.bl d2) (fb bk) (show mV<=w4.heap.size by have:=b0.bl.size;omega);obtain⟨Ai,ci,rfl⟩:=oi.form;clear b0 cw eJ oi c4 b4;have af:Hid (aeW key s t↔((s.pk++eM key (eC s.pk) (aad key (np s.pk) t)).length<=20/\eC s.pk+(eM key (eC s.pk) (aad key (np s.pk) t)).length-1<=99/\dI s<=20/\s.lg.length<9)):=ab Iff.rfl;have b9:Hid (aaV key s r t=⟨s.pk++eM key (eC s.pk) (aad key (np s.pk) t),s.sn++[jv (dI s) key t],s.lg++[⟨r,dI s⟩]⟩):=ab rfl;have d4 : -9223372036854775807<=eC s.pk/\eC s.pk<=1000001:=by
  rcases pa s.pk.length with hz|hz
  .rw[ph.1 hz];show _<=(1:Int)/\(1:Int)<=_;omega
  .obtain⟨z,cj,dP⟩:=vI hz;have ea:=HS.out.1 z (da cj);obtain⟨es,v,_,hg,_⟩:=(cC.out.l).pk.aqC z (da cj);unfold bF at hg;unfold eC;rw[dP];show _<=z.no+1/\z.no+1<=_;omega
 have d1 : -9223372036854775807<=dI s/\dI s<=1000001:=by
  have hm:=ai0 (l:=s.lg) (b:=1000001) (by omega) λx hx=>by have:=HS.out.2.2 x hx;omega
  unfold dI;cases dc:s.sn.getLast? with
  |none=>show _<=fh s.lg/\fh s.lg<=_;omega
  |some x=>
   have:=HS.out.2.1 x (vS dc);show _<=max (fh s.lg) (x.no+1)/\max (fh s.lg) (x.no+1)<=_;omega
 clear cC;have cQ:(aad key (np s.pk) t).length<=400:=by
  have a1:=abM (key:=key) (ix:=np s.pk) (oT t) [];have a2:=acI (t:=t) ht.out;show(nj key (np s.pk) [] (oT t)).length<=_;simp only[lw,mc] at a1;omega
 have a6:=kP (key:=key) (ix:=np s.pk) ht.out;have ad:=ab (ak9 (β:=β) key HK.out t ht.out (by omega) (np s.pk) _ _ w4 0 w4.heap.size (am _) cP ch);clear cP ch;revert a6 cQ b9 af ad;generalize aad key (np s.pk) t=pieces;revert d4;generalize eC s.pk=n0;revert d1;generalize dI s=s0;intro d1 d4 af b9 cQ a6 ad;go_wp2;refine ad.out.mono ?_;rintro e w5 ⟨vq,rfl,oq,b5⟩;clear ad;have cW:=(oq.deep (λx hx=>kQ (a6 x hx)) 0).sl (fb _);have bL:=cX.out.below b5;have cc:=bL.up (H':=w5.heap.size) bL.hH (am _);obtain⟨Aq,cq,rfl⟩:=oq.form;have b2:=ab (And.intro cW (And.intro a6 cc));clear cX cW a6 bL cc oq b5;go_wp2;go_loopw [11,13] (λnn pp wr=>∃(no:Int) (j:List ByteArray) (n:List Pk) (vp:Value),nn=.int .i64 no/\s.pk++eM key n0 pieces=n++eM key no j/\no=n0+((n.length:Int)-s.pk.length)/\n.length+j.length<=s.pk.length+pieces.length/\s.pk.length<=n.length/\w5.heap.size<=wr.heap.size/\df wr 0 w5.heap.size j [pp]/\(∀x∈j,bg (bs x))/\afC w wr (.slice A s.pk.length a) (.slice B s.sn.length b) (.slice C s.lg.length c) u vp (.slice As s.sn.length cs) (.slice Al s.lg.length cl) n s.sn s.lg wr.heap.size) (λ_ pp _=>azR pp)
 case atStart=>exact⟨n0,pieces,s.pk,_,rfl,rfl,by omega,am _,am _,am _,b2.out.1,b2.out.2.1,b2.out.2.2⟩
 case round=>
  clear b2;obtain⟨no,j,n,eo,rfl,cv,c9,d9,eU,e3,hr,hp,P⟩:=hrel;obtain⟨Ar,cr,rfl⟩:=hr.form;obtain⟨Q,O,rfl⟩:=P.op.form;have bl:=ab cv;have c0:=ab c9;have ek : -9223372036854775807<=no/\no<=9000000:=by omega
  have HR:=ab hr;have HP:=ab hp;have E:=ab P;have eO:=hr.len_.2.1;have e1:=hr.len_.2.2;unfold maxLen at e1;clear cv c9 hr hp P;by_cases gK:0<j.length
  .have t1:decide (0<j.length)=true:=db gK;have aN:=E.out.m.cell 0;by_cases h4:j.length<=4
   case' pos=>
    have t2:=db (show(j.length:Int)<=4 by omega);have g2:((j.length:Nat):Int)<=(cr:Int):=by omega
    have q1:=am j.length;have q2:j.take j.length=j.take 4:=by rw[qj (am _),qj h4]
    have q3:j.drop j.length=j.drop 4:=by rw[rj (am _),rj h4]
   case' neg=>
    have t2:=bv (show ¬((j.length:Int)<=4) by omega);have g2:((4:Nat):Int)<=(cr:Int):=by omega
    have q1:4<=j.length:=by omega
    have q2:=@rfl _ (j.take 4);have q3:=@rfl _ (j.drop 4)
   all_goals
    have bx:∀x∈j.take 4,bg (bs x):=λx hx=>HP.out x (oS hx);have cn:∀x∈j.drop 4,bg (bs x):=λx hx=>HP.out x (tF hx);have bO:=HR.out.aqU q1;rw[q2] at bO;have bS:=HR.out.aqT q1;rw[q3] at bS;have X:=lB key no gK;have co:(j.take 4).length<=4:=by rw[ff];omega
    have ca:=aeV (key:=key) bx;have d6:(fG key (j.take 4)).length<=4:=by rw[pO];exact co
    have bz:w5.heap.size<=wr.heap.size:=e3;have bi:bF no:=by unfold bF;omega
    have ck:=λ(y:World) (hy:Below wr.heap.size wr y)=>alh (β:=β) no key HK.out (j.take 4) bx (by omega) _ y 0 w5.heap.size (bd bz hy.size) (df.aw.below bO hy bz)
    have ao:=ab ck;have cB:=ab bS;have HST:=ab X;have c2:=ab ca;have e4:=ab cn;have dN:Hid ((j.drop 4).length+1<=j.length):=ab (by rw[pY];omega);clear ck bS X ca bO q2 q3 co bx cn;revert d6;revert c2;revert HST;revert ao;generalize fG key (j.take 4)=L;intro ao HST c2 d6;go_wp2;have aJ:=aj aN;refine cD 9 [0,1,2,3,4,5,6] [7,8] (h:= ?_);simp only[pick,List.map,pi,pm];repeat(go_big_quiet_step (fail))
    refine lE ?_;clear aJ;apply Exists.intro;apply dm (λv Z=>∃A c,v=.agg #[.int .i64 no,.slice A L.length c]/\aF nX 49 Z wr.heap.size (.slice A L.length c) L)
    .rfl
    .exact λv x y ⟨A,c,e,h⟩ hle=>⟨A,c,e,h.below hle⟩
    .intro x R Qx q;replace q:=ab q;clear R;go_wp2;refine(ao.out x.to x.ok).mono ?_;rintro e wy ⟨vy,rfl,oy,bw⟩;obtain⟨Ay,cy,rfl⟩:=oy.form;go_wp2;exact q.out _ _ bw ⟨_,_,rfl,oy.base x.ok.size⟩
    intro u7;apply dm (λv Z=>∃g A c,v=.slice (some ⟨g,0,none⟩) 1 1/\bR Z g 32 #[.int .i64 no,.slice A L.length c]/\aF nX 49 Z wr.heap.size (.slice A L.length c) L)
    .rfl
    .exact λv x y ⟨g,A,c,e,hk,h⟩ hle=>⟨g,A,c,e,av hk hle,h.below hle⟩
    .intro x R Qx q;replace q:=ab q;obtain⟨A5,c5,rfl,ho⟩:=R.1 (by kernel_rfl);go_wp2;have ba:=aA x.to (.cells #[.int .i64 no,.slice A5 L.length c5] 32);exact q.out _ _ ba ⟨_,_,_,rfl,bR.new _ _ _,ho.below ba⟩
    intro u8;refine ep ?_;intro w6 nG xx nJ R;dsimp only[js] at R;try rw[nJ] at R
    clear nJ xx;obtain⟨⟨g8,A8,c8,rfl,a7,o8⟩, -⟩:=R;simp only[List.drop];have z6:=nG.size;have S:=E.out.below nG;have d5:=df.aw.below cB.out nG bz;have aa:Hid (OPk w6 wr.heap.size w6.heap.size ⟨no,L⟩ [.int .i64 no,.slice A8 L.length c8]):=ab ⟨_,rfl,bi,o8.acJ c2.out (by omega) λg hg=>(o8.at_ hg).2⟩;have bb:=ab a7;have k:=ab S;have e0:=ab d5;have zb:=S.bl.size;clear E nG o8 a7 S d5 cB ao aN HR;go_wp2_with(at_builtin;refine lA ?_);refine⟨?_,trivial⟩;refine kS OPk.aw (by decide) (v:=.slice Q n.length O) rfl (.tmp 35) (.tmp 42) 23 rfl adY ⟨no,L⟩ rfl k.out.op rfl bb.out rfl (by simp[Value.oneCell']) (show wr.heap.size<=w6.heap.size by omega) aa.out (am _) (by omega) (by omega) ?_;intro v9 Y o9 F cd;obtain⟨K,J,rfl⟩:=o9.form;rw[ap,nf] at o9;rw[ap,nf];have m:=k.out.op;have z9:=F.size;have bo:=k.out.gm1;have e6:=k.out.gm2;have o:=dh m F k.out.m (by decide);have e2:Y.cell? ⟨u,0,none⟩=some (.slice Q n.length O):=o.cell 0;have e7:=o.frozen 0;have lh:=o.bM 0 (.slice K (n.length+1) J);simp only[dj,gt,gE] at lh;have a0:afC w (Y.setCell ⟨u,0,none⟩ (.slice K (n.length+1) J)) _ _ _ u (.slice K (n.length+1) J) (.slice As s.sn.length cs) (.slice Al s.lg.length cl) (n++[⟨no,L⟩]) s.sn s.lg (Y.setCell ⟨u,0,none⟩ (.slice K (n.length+1) J)).heap.size:=
     ⟨iB (dh m F k.out.k0 (by decide)) (p:=⟨u,0,none⟩) _ (by dsimp only;omega),iB (dh m F k.out.k1 (by decide)) (p:=⟨u,0,none⟩) _ (by dsimp only;omega),lh,
      by simp only[ef];exact cH fE.aw o9 o (by decide) 0 _,
      by simp only[ef];exact gj.aw.wide (cH gj.aw (iY m F gj.aw k.out.os (by decide)) o (by decide) 0 _) (am _) (by omega),
      by simp only[ef];exact fF.aw.wide (cH fF.aw (iY m F fF.aw k.out.ol (by decide)) o (by decide) 0 _) (am _) (by omega),
      (k.out.bl.trans (F.below k.out.bl.size λi hi hs=>by have:=m.ob hs;omega)).setCell (by dsimp only;omega) _,bo,by simp only[ef];omega,am _⟩
    have c6:df (Y.setCell ⟨u,0,none⟩ (.slice K (n.length+1) J)) 0 w5.heap.size (j.drop 4) _:=cH df.aw (iY m F df.aw e0.out (by decide)) o (by decide) 0 _;have a8:=ab a0;have ds:=ab c6;have dF:Hid (w5.heap.size<=(Y.setCell ⟨u,0,none⟩ (.slice K (n.length+1) J)).heap.size):=ab (by simp only[ef];omega);clear a0 c6 lh m o;go_wp2;go_roundw
    case rel=>exact⟨no+1,j.drop 4,n++[⟨no,L⟩],_,rfl,by rw[bl.out,HST.out,tp];rfl,by have:=c0.out;rw[ap,nf];omega,by have:=dN.out;rw[ap,nf];omega,by rw[ap,nf];omega,dF.out,by have:=ds.out;first|(simpa only[tK,uB] using this)|(simp only[be (show ¬cr=4 by omega),Addr.add] at this;simpa using this),e4.out,a8.out⟩
    simp[azR];omega
  .have hz:j=[]:=ph.1 (by omega);subst hz;have gv:s.pk++eM key n0 pieces=n:=by rw[bl.out,gO,tf]
   have a5:aeW key s t↔(n.length<=20/\no-1<=99/\s0<=20/\s.lg.length<9):=by
    refine af.out.trans ?_;rw[gv];have e:(n.length:Int)=s.pk.length+(eM key n0 pieces).length:=by rw[<-gv,ap];omega
    have:=c0.out;constructor
    .rintro⟨a1,a2,a3,a4⟩;exact⟨a1,by omega,a3,a4⟩
    .rintro⟨a1,a2,a3,a4⟩;exact⟨a1,by omega,a3,a4⟩
   have cu:aaV key s r t=⟨n,s.sn++[jv s0 key t],s.lg++[⟨r,s0⟩]⟩:=by rw[b9.out,gv]
   have b6:=ab a5;have e5:=ab cu;have ee:n.length<=2000000:=by omega
   clear gv a5 cu af b9 bl c0 HR HP d9;have cm:=E.out.m.cell;have eJ:=E.out.k0.cell;have bi:bF (no-1):=by unfold bF;omega
   unfold bF at bi;rcases(by omega:(n.length<=20/\no-1<=99/\s0<=20/\s.lg.length<9)\/¬n.length<=20\/(n.length<=20/\¬no-1<=99)\/(n.length<=20/\no-1<=99/\¬s0<=20)\/(n.length<=20/\no-1<=99/\s0<=20/\¬s.lg.length<9)) with hc|hc|hc|hc|hc
   .have t3:=bv (show ¬((20:Int)<(n.length:Int)) by omega);have t4:=bv (show ¬(99<no-1) by omega);have t5:=bv (show ¬(20<s0) by omega);have t6:=bv (show ¬((9:Int)<=(s.lg.length:Int)) by omega);have HY:=ab (b6.out.2 hc);clear hc;clear b6;go_wp2;have cz:=cm 1;have HC:=ab (λ(y:World) (hy:Below wr.heap.size wr y)=>aoY (β:=β) s0 key HK.out (by unfold bF;omega) t ht.out (by omega) _ y bk mV (by have:=hy.size;have:=E.out.bl.size;omega) (eY.aw.below h1 (ae E.out.bl hy) d2));have aJ:=aj cz;refine cD 7 [0,1,2,3,4] [5,6] (h:= ?_);simp only[pick,List.map,pi,pm];repeat(go_big_quiet_step (fail))
    refine lE ?_;clear aJ;apply Exists.intro;apply dm (λv Z=>∃A c,v=.agg #[.int .i64 s0,.slice A (jv s0 key t).all.length c]/\gh Z wr.heap.size Z.heap.size (jv s0 key t).all [.slice A (jv s0 key t).all.length c])
    .rfl
    .exact λv x y ⟨A,c,e,h⟩ hle=>⟨A,c,e,gh.aw.wide (gh.aw.below h hle (am _)) (am _) hle.size⟩
    .intro x R Qx q;replace q:=ab q;clear R;go_wp2;refine(HC.out x.to x.ok).mono ?_;rintro e wy ⟨vy,rfl,oy,bw⟩;obtain⟨Ay,cy,rfl⟩:=oy.form;go_wp2;exact q.out _ _ bw ⟨_,_,rfl,gh.aw.wide oy x.ok.size (am _)⟩
    intro u5;apply dm (λv Z=>∃g A c,v=.slice (some ⟨g,0,none⟩) 1 1/\bR Z g 65 #[.int .i64 s0,.slice A (jv s0 key t).all.length c]/\gh Z wr.heap.size Z.heap.size (jv s0 key t).all [.slice A (jv s0 key t).all.length c])
    .rfl
    .exact λv x y ⟨g,A,c,e,hk,h⟩ hle=>⟨g,A,c,e,av hk hle,gh.aw.wide (gh.aw.below h hle (am _)) (am _) hle.size⟩
    .intro x R Qx q;replace q:=ab q;obtain⟨A5,c5,rfl,ho⟩:=R.1 (by kernel_rfl);go_wp2;have ba:=aA x.to (.cells #[.int .i64 s0,.slice A5 (jv s0 key t).all.length c5] 65);exact q.out _ _ ba ⟨_,_,_,rfl,bR.new _ _ _,gh.aw.wide (gh.aw.below ho ba (am _)) (am _) ba.size⟩
    intro u6;refine ep ?_;intro w6 nG xx nJ R;dsimp only[js] at R;try rw[nJ] at R
    clear nJ xx;obtain⟨⟨g8,A8,c8,rfl,a7,o8⟩, -⟩:=R;simp only[List.drop];have z6:=nG.size;have S:=E.out.below nG;have aa:Hid (OSn w6 wr.heap.size w6.heap.size (jv s0 key t) [.int .i64 s0,.slice A8 (jv s0 key t).all.length c8]):=ab ⟨_,rfl,by show bF s0;unfold bF;omega,o8⟩;have bb:=ab a7;have k:=ab S;have zb:=S.bl.size;clear E nG o8 a7 S cm cz eJ HC;go_wp2_with(at_builtin;refine lA ?_);refine⟨?_,trivial⟩;refine kS OSn.aw (by decide) (v:=.slice As s.sn.length cs) rfl (.tmp 72) (.tmp 77) 24 rfl anl (jv s0 key t) rfl k.out.os rfl bb.out rfl (by simp[Value.oneCell']) (show wr.heap.size<=w6.heap.size by omega) aa.out (am _) (by omega) (by omega) ?_;intro v9 Y o9 F cd;obtain⟨K,J,rfl⟩:=o9.form;rw[ap,nf] at o9;rw[ap,nf];have m:=k.out.os;have z9:=F.size;have bo:=k.out.gm1;have e6:=k.out.gm2;have o:=dh m F k.out.m (by decide);have e2:Y.cell? ⟨u,1,none⟩=some (.slice As s.sn.length cs):=o.cell 1;have e7:=o.frozen 1;have lh:=o.bM 1 (.slice K (s.sn.length+1) J);simp only[dj,gt,gE] at lh;have a0:afC w (Y.setCell ⟨u,1,none⟩ (.slice K (s.sn.length+1) J)) (.slice A s.pk.length a) (.slice B s.sn.length b) (.slice C s.lg.length c) u (.slice Q n.length O) (.slice K (s.sn.length+1) J) (.slice Al s.lg.length cl) n (s.sn++[jv s0 key t]) s.lg (Y.setCell ⟨u,1,none⟩ (.slice K (s.sn.length+1) J)).heap.size:=
     ⟨iB (dh m F k.out.k0 (by decide)) (p:=⟨u,1,none⟩) _ (by dsimp only;omega),iB (dh m F k.out.k1 (by decide)) (p:=⟨u,1,none⟩) _ (by dsimp only;omega),lh,
      by simp only[ef];exact fE.aw.wide (cH fE.aw (iY m F fE.aw k.out.op (by decide)) o (by decide) 1 _) (am _) (by omega),
      by simp only[ef];exact cH gj.aw o9 o (by decide) 1 _,
      by simp only[ef];exact fF.aw.wide (cH fF.aw (iY m F fF.aw k.out.ol (by decide)) o (by decide) 1 _) (am _) (by omega),
      (k.out.bl.trans (F.below k.out.bl.size λi hi hs=>by have:=m.ob hs;omega)).setCell (by dsimp only;omega) _,bo,by simp only[ef];omega,am _⟩
    have a8:=ab a0;clear a0 m o;have d0:=lh.cell;clear lh o9 F cd k aa bb;go_wp2_with(at_builtin;refine lA ?_);refine⟨?_,trivial⟩;obtain⟨U,bT⟩:∃U,U=Y.setCell ⟨u,1,none⟩ (.slice K (s.sn.length+1) J):=⟨_,rfl⟩;have bn:U.heap.size=Y.heap.size:=by rw[bT];simp only[ef]
    have e9:w6.heap.size<=U.heap.size:=by rw[bn];exact z9
    rw[<-bT] at a8 d0 ⊢;clear bT;generalize hG:U.alloc (.cells #[.int .i64 r,.int .i64 s0] 71)=w11 at *;obtain⟨aS,er,q0,dd,d7⟩:=iN hG;clear hG;rw[bn] at q0;clear bn;have I:=a8.out.below aS;have m:=I.ol;refine kS (bY.aw FHd) (by decide) (v:=.slice Al s.lg.length cl) rfl (.tmp 81) (.tmp 85) 25 rfl anj (⟨r,s0⟩:Hd) rfl m rfl q0 rfl (by simp[Value.oneCell']) (show U.heap.size<=w11.heap.size from aS.size) ⟨rfl,bt.out,by show bF s0;unfold bF;omega⟩ (am _) (by omega) (by omega) ?_;intro eV a9 V N d8;obtain⟨H,G,rfl⟩:=V.form;rw[ap,nf] at V;rw[ap,nf];have M:=dh m N I.m (by decide);have W:=dh m N I.k1 (by decide);have ex:=M.cell;have f0:=M.frozen;have ey:=W.cell;have eB:=W.frozen;have b8:=iY m N fE.aw I.op (by decide);have ay:=iY m N gj.aw I.os (by decide);have aM:Below w.heap.size w a9:=I.bl.trans (N.below I.bl.size λi hi hs=>by have:=m.ob hs;omega);have ev:=N.size;have f1:=aS.size;have HF:=ab (And.intro b8 (And.intro ay (And.intro V (And.intro aM (And.intro M W)))));clear b8 ay V aM M W m I a8 d0 aS q0 dd d7 N d8;go_wp2;obtain⟨b8,ay,V,aM,M,W⟩:=HF.out;have em:=M.bM 2 (.slice H (s.lg.length+1) G);have an:=iB W (p:=⟨u,2,none⟩) (.slice H (s.lg.length+1) G) (by dsimp only;omega);have k4:=((an.bM 0 (.slice Q n.length O)).bM 1 (.slice K (s.sn.length+1) J)).bM 2 (.slice H (s.lg.length+1) G);simp only[dj,gt,gE] at k4;have br:=k4.cell;have bp:∀{β:Type} {D:fU β} {T:List TypeId} {y:β} {cs:List Value},dV D T->27∉T->D a9 w.heap.size a9.heap.size y cs->D ((((a9.setCell ⟨u,2,none⟩ (.slice H (s.lg.length+1) G)).setCell ⟨w.heap.size+1,0,none⟩ (.slice Q n.length O)).setCell ⟨w.heap.size+1,1,none⟩ (.slice K (s.sn.length+1) J)).setCell ⟨w.heap.size+1,2,none⟩ (.slice H (s.lg.length+1) G)) w.heap.size ((((a9.setCell ⟨u,2,none⟩ (.slice H (s.lg.length+1) G)).setCell ⟨w.heap.size+1,0,none⟩ (.slice Q n.length O)).setCell ⟨w.heap.size+1,1,none⟩ (.slice K (s.sn.length+1) J)).setCell ⟨w.heap.size+1,2,none⟩ (.slice H (s.lg.length+1) G)).heap.size y cs:=λ{_ _ _ _ _} hD hT hy=>by
     simp only[ef];exact cH hD (cH hD (cH hD (cH hD hy M hT 2 _) an hT 0 _) (an.bM 0 _) hT 1 _) ((an.bM 0 _).bM 1 _) hT 2 _
    refine pe (v:=.tuple #[.agg #[.slice Q n.length O,.slice K (s.sn.length+1) J,.slice H (s.lg.length+1) G],.bool true]) (by simp[results,results33,go_sem,br]) rfl ⟨_,_,_,true,aaV key s r t,rfl, ?_,.inl ⟨rfl,HY.out,rfl⟩,(((aM.setCell (by dsimp only;omega) _).setCell (by simp) _).setCell (by simp) _).setCell (by simp) _⟩;rw[e5.out];exact⟨bp fE.aw (by decide) (fE.aw.wide b8 (am _) (by omega)),bp gj.aw (by decide) (gj.aw.wide ay (am _) (by omega)),bp fF.aw (by decide) V⟩
   all_goals
    have HN:Hid (¬aeW key s t):=ab λh=>by have:=b6.out.1 h;omega
    first|have t3:=db (show(20:Int)<(n.length:Int) by omega)|have t3:=bv (show ¬((20:Int)<(n.length:Int)) by omega)
    first|have t4:=db (show 99<no-1 by omega)|(try have t4:=bv (show ¬(99<no-1) by omega))
    first|have t5:=db (show 20<s0 by omega)|(try have t5:=bv (show ¬(20<s0) by omega))
    try have t6:=db (show(9:Int)<=(s.lg.length:Int) by omega)
    clear hc;clear b6;go_wp2;have cb:=h.below E.out.bl bZ;refine(adf s _ _ _ wr lo hi cb.l (by have:=E.out.bl.size;omega) (by omega)).mono ?_;rintro e w7 ⟨v1,v2,v3,rfl,oc,b7⟩;obtain⟨A1,cO,rfl⟩:=oc.pk.form;obtain⟨A2,ce,rfl⟩:=oc.sn.form;obtain⟨A3,cS,rfl⟩:=oc.lg.form;have kr:=av E.out.k1 b7;have ew:=kr.cell;have ei:=kr.frozen;have z7:=E.out.bl.size;have e8:=ae E.out.bl b7;clear cm eJ cb;go_wp2;have k4:=((kr.bM 0 (.slice A1 s.pk.length cO)).bM 1 (.slice A2 s.sn.length ce)).bM 2 (.slice A3 s.lg.length cS);simp only[dj,gt,gE] at k4;have br:=k4.cell;refine pe (v:=.tuple #[.agg #[.slice A1 s.pk.length cO,.slice A2 s.sn.length ce,.slice A3 s.lg.length cS],.bool false]) (by simp[results,results33,go_sem,br]) rfl ⟨_,_,_,false,s,rfl, ?_,.inr ⟨rfl,HN.out,rfl⟩,((e8.setCell (by simp) _).setCell (by simp) _).setCell (by simp) _⟩;simp only[ef];have eb:=E.out.k1.lt;exact oc.go (λb f2 ec=>by
     have bf:b≠w.heap.size+1:=by omega
     rw[qp _ _ _ _ bf,qp _ _ _ _ bf,qp _ _ _ _ bf]) (by omega) (am _)
end
section
variable {β:Bool}
open Go.RowKit
inductive dH:dK->Prop
 |nil:dH ⟨[],[],[]⟩
 |save {s:dK} {b:Int} {t:List Nd}:dH s->b=1\/b=2->jM t->aeW 7 s t->dH (aaV 7 s b t)
structure WfS (s:dK):Prop where
 pl:s.pk.length<=20
 pn:∀p∈s.pk,(1<=p.no/\p.no<=99)/\p.its.length<=4/\∀x∈p.its,x.b.size<=8
 sl:s.sn.length=s.lg.length
 sn:∀x∈s.sn,(1<=x.no/\x.no<=20)/\x.all.length<=6/\∀y∈x.all,y.p.size<=3/\y.ns.length<=40
 ll:s.lg.length<=9
 lg:∀h∈s.lg,(1<=h.b/\h.b<=2)/\1<=h.s/\h.s<=20
def iZ(key:Int):∀(n:Nat) (no:Int) (l:List ByteArray),l.length<=n->∀p∈eM key no l,no<=p.no/\p.no<no+(eM key no l).length/\∃c:List ByteArray,p.its=fG key c/\1<=c.length/\c.length<=4/\∀x∈c,x∈l
 |0,no,l,h,p,a=>by rw[ph.1 (by omega:l.length=0),gO] at a;cases a
 |n+1,no,l,h,p,a=>by
  rcases pa l.length with d|d
  .rw[ph.1 d,gO] at a;cases a
  .rw[lB key no d] at a ⊢;rw[eg];rcases jp.1 a with rfl|a
   .exact⟨ui _,by show no<_;omega,l.take 4,rfl,by rw[ff];omega,by rw[ff];omega,λx b=>oS b⟩
   .obtain⟨k,j,c,e,g,i,f⟩:=iZ key n (no+1) (l.drop 4) (by rw[pY];omega) p a;exact⟨by omega,by omega,c,e,g,i,λx b=>tF (f x b)⟩
def alp{l:List Pk}(h:∀p∈l,1<=p.no):1<=eC l:=by
 unfold eC;cases a:l.getLast? with
 |none=>show(1:Int)<=0+1;omega
 |some p=>have:=h p (vS a);show(1:Int)<=p.no+1;omega
def adh:∀(l:List Hd) (a:Int),1<=a->1<=l.foldl (λa h=>max a (h.s+1)) a
 |[],a,ha=>ha
 |x::l,a,ha=>adh l (max a (x.s+1)) (by omega)
def alq(s:dK):1<=dI s:=by
 have a:1<=fh s.lg:=adh s.lg 1 (by omega);unfold dI;cases s.sn.getLast? with
 |none=>exact a
 |some x=>show 1<=max (fh s.lg) (x.no+1);omega
def ai5(h:bg (bs s)):(iG key s).b.size<=8:=by
 show(rE (fN (bs s))).size<=8;rw[<-aK,aha,aiu h];exact pE.1
def pQ{t:List Nd}(h:jM t):∀x∈t,dn x.b=true:=λx a=>(h.1 x a).2
def WfS.saved{s:dK}{b:Int}{t:List Nd}(h:WfS s)(D:b=1\/b=2)(j:jM t)(A:aeW 7 s t):WfS (aaV 7 s b t):=by
 obtain⟨r,F,n,E⟩:=A;have i:=alq s;refine⟨r,λp d=> ?_, ?_,λx a=> ?_, ?_,λy g=> ?_⟩
 .rcases ge.1 d with d|d
  .exact h.pn p d
  .obtain⟨k,o,c,m,v,w,B⟩:=iZ 7 _ _ _ (am _) p d;have C:=alp (l:=s.pk) λp d=>(h.pn p d).1.1;refine⟨⟨by omega, ?_⟩,by rw[m,pO];exact w,λx a=> ?_⟩
   .have e:(acL 7 s t).length=(eM 7 (eC s.pk) (aad 7 (np s.pk) t)).length:=rfl;omega
   .rw[m] at a;obtain⟨q,u,rfl⟩:=acK.1 a;exact ai5 (kP (pQ j) q (B q u))
 .show(s.sn++[_]).length=(s.lg++[_]).length;rw[ap,ap,h.sl];rfl
 .rcases ge.1 a with a|a
  .exact h.sn x a
  .rw[jn.1 a];refine⟨⟨i,n⟩,by show(t.map (fg 7)).length<=6;rw[pu];exact j.2.1,λy g=> ?_⟩;obtain⟨f,z,rfl⟩:=mT.1 g;have k:=j.1 f z;have o:=kF k.1;have m:=abK f.b;have v:=(iW k.2).1;exact⟨by show f.p.size<=3;omega,by show((gb f.b).map _).length<=40;rw[pu];omega⟩
 .show(s.lg++[_]).length<=9;rw[ap,nf];omega
 .rcases ge.1 g with g|g
  .exact h.lg y g
  .rw[jn.1 g];exact⟨by show 1<=b/\b<=2;omega,i,n⟩
def dH.wf{s:dK}(h:dH s):WfS s:=by
 induction h with
 |nil=>exact⟨fb _,λp a=>(by cases a),rfl,λp a=>(by cases a),fb _,λp a=>(by cases a)⟩
 |save _ e d c b=>exact b.saved e d c
def iH{a:Type}{f:a->Nat}{b:Nat}:∀{l:List a},(∀x∈l,f x<=b)->dG f l<=l.length*(b+1)
 |[],_=>mu (uA _).symm
 |x::l,h=>by
  have g:=h x (by simp);have d:=iH (f:=f) (b:=b) (l:=l) λy c=>h y (by simp[c]);have e:dG f (x::l)=dG f l+1+f x:=by unfold dG;simp only[eg,qL,um];omega
  rw[e,eg,rN];omega
def WfS.small{s:dK}(h:WfS s):alj 1000000 s:=⟨λp a=>by have:=(h.pn p a).1;omega,λx c=>by have:=(h.sn x c).1;omega,λy b=>by have:=(h.lg y b).2;omega⟩
def ai6:∀l:List Pk,(∀p∈l,p.its.length<=4)->(bE l).length<=l.length*4
 |[],_=>fb _
 |p::l,hl=>by
  have b:=ai6 l λq a=>hl q (by simp[a]);have d:=hl p (by simp);show(ng p++bE l).length<=_;have c:(ng p).length=p.its.length:=pu _;rw[ap,eg,rN];omega
def WfS.bE{s:dK}(h:WfS s):(bE s.pk).length<=10000:=by
 have b:=ai6 s.pk λp a=>(h.pn p a).2.1;have:=h.pl;omega
def WfS.atz{s:dK}(h:WfS s):adB s<=10000:=by
 have e:dG bPk s.pk<=s.pk.length*(36+1):=iH λp b=>by
  have c:dG bIt p.its<=p.its.length*(8+1):=iH λx a=>(h.pn p b).2.2 x a;have:=(h.pn p b).2.1;show dG bIt p.its<=36;omega
 have f:dG bSn s.sn<=s.sn.length*(264+1):=iH λx a=>by
  have c:dG bLs x.all<=x.all.length*(43+1):=iH λy d=>by
   have:=(h.sn x a).2.2 y d;show y.p.size+y.ns.length<=43;omega
  have:=(h.sn x a).2.1;show dG bLs x.all<=264;omega
 have:=h.pl;have:=h.sl;have:=h.ll;unfold adB;omega
end
end Go.Proofs.YtmicddpknimniaaGreatDoor