/- A part of the proof. -/
import Derived.Test.YtpbbcfocomejmaaGreatDoorG6
import Derived.Lib.IndexLaws
import Derived.Lib.Bytealg
import Derived.OrdersIn
set_option maxRecDepth 100000
set_option maxHeartbeats 8000000
set_option linter.all false
open Go Go.RowKit Go.Proofs.Tryz Go.Proofs.YtpbbcfocomejmaaGreatDoor
variable {p:Pk} {s:dS} {Z g hi hi' i jR k:Nat} {key n:Int} {V:Type} {Y X W:Value} {w w':World} {f:ByteArray} {cs:List Value} {U S:Act→World→Prop}
namespace Go.Proofs.YtpbbcfocomejmaaGreatDoor
def sb:=@_root_.beq_self_eq_true
def sH:=@_root_.Bool.and_eq_false_iff
def sY:=@_root_.List.getElem?_cons_zero
def tk:=@_root_.List.length_eq_one_iff
def vN:=@_root_.List.length_pos_of_mem
def vV:=@_root_.Go.IntWalk.i64_in
section
variable {β:Bool}
open Go.RowKit
def apI(w:World)(lo hi g:Nat)(l:List Int)(p:Nat)(e:Ending)(w':World):Prop:=∃v a q,e=.returned v/\aH pF 89 w' w.heap.size v a/\(∀y∈a,pF.good y)/\a.length<=7/\Rd w' lo hi g l q/\q<=p+300/\bM (λb=>b=g) w w'
def ajS(l:List Int)(g p P hi:Nat)(w:World)(hr:Rd w P hi g l p)(hp:p<=50000) :
  Calls (ah β) 44 #[.pointer (some ⟨g,0,none⟩)] w (apI w P hi g l p):=by
 have ax:=hr.lt;go_enter zj,ntmps44;go_wp2;have V:=hr.alloc (.cells #[] 89);have E:=(bM.refl (λb=>b=g) w).alloc (.cells #[] 89);have I:aH pF 89 (w.alloc (.cells #[] 89)) w.heap.size (.slice (some ⟨w.heap.size,0,none⟩) 0 0) []:=(eJ.new w 89 (am _)).own 2;generalize w.alloc (.cells #[] 89)=w0 at *;refine(cT _ _ _ _ _ _ 6 V (by omega)).mono ?_;rintro e w1 ⟨m,rfl,⟨_,hm⟩,a2,H⟩;have ay:=hm (by omega);obtain⟨mm,rfl⟩:=qr (show 0<=m by omega);have Y:=I.fc H λb x e=>by have:=(I.at_ x).1;omega
 replace E:=E.trans H λi _ e=>e;clear hm V H I;go_wp2;go_loopw [3,4] (λtt jj wr=>∃(j q:Nat) (o:List Nd),j<=5/\jj=.int .i64 j/\aH pF 89 wr w.heap.size tt o/\jU o/\Rd wr P hi g l q/\q+40*j<=p+201/\bM (λb=>b=g) w wr) (λ_ jj _=>(intOf jj).toNat)
 case atStart=>exact⟨mm,_,[],by omega,rfl,Y,jU.nil,a2,by omega,E⟩
 case round=>
  clear Y a2 E;obtain⟨j,q,o,hj,rfl,K,L,rd,hq,T⟩:=hrel;obtain⟨A,c,rfl⟩:=K.form;replace L:=ab L;have ao:=T.size;by_cases h0:j=0
  .subst h0;have B:=ab (aah L.out);have af:o.length<=6:=L.out.2.1;go_wp2;refine(cT _ _ _ _ _ _ 40 rd (by omega)).mono ?_;rintro e N ⟨Q,rfl,⟨_,a9⟩,a,n⟩;have r:=K.fc n λb x e=>by have:=(K.at_ x).1;omega
   have d:=T.trans n λi _ e=>e;clear a9 rd K n T;by_cases R:Q=0
   .have t5:(Q ==0)=true:=mp.2 R;clear R;go_wp2;refine(lY l g (q+1) P hi N a (by omega)).mono ?_;rintro e w3 ⟨s,q3,rfl,a8,C,a7,z⟩;have k:=r.fc z λb x e=>by have:=(r.at_ x).1;omega
    have O:=d.trans z λi _ e=>e;have J:=O.size;clear a r d;go_wp2_with(at_builtin;refine bN (F:=pF) (v:=.slice A o.length c) rfl (.tmp 29) (.tmp 33) 59 rfl nM ⟨s,⟨#[97]⟩⟩ rfl k rfl rfl (by omega) J ?_;intro va wa oa a0 al;obtain⟨Aa,ca,rfl⟩:=oa.form;simp only[ap,ff,ls,jt] at oa);go_ret;refine⟨_,o++[⟨s,⟨#[97]⟩⟩],q3,rfl,by simpa using oa,λy M=> ?_,by simp;omega,C.fc a0 λb x e=> ?_,by omega,O.trans a0 λb x e=> ?_⟩
    .rcases me.1 M with M|M
     .exact B.out y M
     .rw[lc.1 M];exact⟨by show s.size<=maxLen;unfold maxLen;omega,by show(⟨#[97]⟩:ByteArray).size<=maxLen;decide⟩
    .have:=(k.at_ e).1;have:=C.hi_;omega
    .have:=(k.at_ e).1;omega
   .have t5:(Q ==0)=false:=dq.2 R;by_cases Z:Q=1
    .have t6:(Q ==1)=true:=mp.2 Z;clear R Z;by_cases a1:o.length=0
     .have t7:=bv (show ¬(0<o.length) by omega);clear a1;go_wp2;go_ret;exact⟨_,o,q+1,rfl,r,B.out,by omega,a,by omega,d⟩
     .have t7:=db (show 0<o.length by omega);have gS:0<o.length:=by omega
      obtain⟨y0,dV⟩:=ar gS;obtain⟨X,c',e⟩:=aH.some_ r gS;simp only[pv] at e;obtain⟨rfl, -,rfl⟩:=e;have an:=(r.at_ rfl).1;have H:N.cell? ⟨X,1,none⟩=some (.string y0.b):=by
       have:=aH.cell r (j:=1) dV rfl;simpa using this
      have aJ:=aH.frozen r rfl 1;have D:=aH.put r (j:=1) (u:=.string ⟨#[65]⟩) (y:=⟨y0.p,⟨#[65]⟩⟩) dV (by decide) rfl;rw[tT,jt] at D;have HP:=ab D;have G:bM (λb=>b=X) N (N.setCell ⟨X,1,none⟩ (.string ⟨#[65]⟩)):=(bM.refl (λb=>b=X) N).setCell (p:=⟨X,1,none⟩) (.inl rfl) _;replace G:=ab G;replace dV:=ab dV;clear D a1;go_wp2;go_ret;refine⟨_,o.set 0 ⟨y0.p,⟨#[65]⟩⟩,q+1,rfl,HP.out,λy M=> ?_,by rw[qL];omega,a.fc G.out λb x e=> ?_,by omega,d.trans G.out λb x e=> ?_⟩
      .rcases sO M with h1|rfl
       .exact B.out y h1
       .exact⟨(B.out y0 (da dV.out)).1,by show(⟨#[65]⟩:ByteArray).size<=maxLen;decide⟩
      .have:=a.hi_;omega
      .omega
    .have t6:(Q ==1)=false:=dq.2 Z;clear R Z;go_wp2;go_ret;exact⟨_,o,q+1,rfl,r,B.out,by omega,a,by omega,d⟩
  .have gS:0<(j:Int):=by omega
   obtain⟨j',ad⟩:∃y,y=j-1:=⟨_,rfl⟩;have Z:(j:Int)-1=((j':Nat):Int):=by omega
   have f:j=j'+1:=by omega
   replace f:=ab f;clear ad h0;go_wp2;refine(lY l g q P hi wr rd (by omega)).mono ?_;rintro e N ⟨s,q2,rfl,a8,a,aK,n⟩;have r:=K.fc n λb x e=>by have:=(K.at_ x).1;omega
   have d:=T.trans n λi _ e=>e;clear rd K n T;go_wp2;refine(adn l g q2 P hi N a (by omega)).mono ?_;rintro e w3 ⟨t,q3,rfl,ht,C,a7,z⟩;have k:=r.fc z λb x e=>by have:=(r.at_ x).1;omega
   have O:=d.trans z λi _ e=>e;have r3:=(k.deep (aah L.out) w.heap.size).sl (am _);clear a r z d;go_wp2;refine(adg o s t (by unfold maxLen;omega) (by unfold maxLen;omega) _ w3 w.heap.size w3.heap.size r3 (am _) (by have:=L.out.2.1;omega)).mono ?_;rintro e w4 ⟨v4,zs,a6,rfl,o4,a3,b4⟩;have J:=O.size;have aa:=o4.base J;have a4:=k.below b4;have W:=C.fc (bM.bF (S:=λ_=>False) b4) λ_ _ h=>h;have U:=O.trans (bM.bF (S:=λ_=>False) b4) λ_ _ h=>h.elim;have a5:=ab a3;obtain⟨A4,c4,rfl⟩:=o4.form;clear a3 C O k o4 r3;cases a6
   .go_wp2;go_roundw
    case rel=>exact⟨j',q3,o,by have:=f.out;omega,rfl,a4,L.out,W,by have:=f.out;omega,U⟩
    simp[intOf];have:=f.out;omega
   .go_wp2;go_roundw
    case rel=>exact⟨j',q3,zs,by have:=f.out;omega,rfl,aa,a5.out,W,by have:=f.out;omega,U⟩
    simp[intOf];have:=f.out;omega
def asE(w:World)(lo hi g:Nat)(l:List Int)(p:Nat)(e:Ending)(w':World):Prop:=∃v a q,e=.returned v/\aH pF 89 w' w.heap.size v a/\jU a/\Rd w' lo hi g l q/\q<=p+300/\bM (λb=>b=g) w w'
theorem ajT(l:List Int)(g p m hi:Nat)(w:World)(z:Rd w m hi g l p)(y:p<=50000) :
  Calls (ah β) 22 #[.pointer (some ⟨g,0,none⟩)] w (asE w m hi g l p):=by
 go_enter zG,ntmps22;go_wp2;refine(ajS l g p m hi w z y).mono ?_;rintro e n ⟨D,s,q,rfl,k,f,v,j,o,b⟩;obtain⟨A,c,rfl⟩:=k.form;have C:=b.size;have t:=(k.deep f w.heap.size).sl (am _);clear f;go_wp2;refine(aba s _ n w.heap.size n.heap.size t (am _)).mono ?_;rintro e B ⟨⟨rfl,r⟩|rfl,i⟩
 .have u:=ab r;have x:=k.below i;have d:=j.fc (bM.bF (S:=λ_=>False) i) λ_ _ h=>h;have a:=b.trans (bM.bF (S:=λ_=>False) i) λ_ _ h=>h.elim;clear r;go_wp2;go_ret;exact⟨_,s,q,rfl,x,u.out,d,o,a⟩
 .have d:=j.fc (bM.bF (S:=λ_=>False) i) λ_ _ h=>h;have a:=b.trans (bM.bF (S:=λ_=>False) i) λ_ _ h=>h.elim;go_wp2;go_ret;exact⟨_,[⟨⟨#[97]⟩,⟨#[104,101,108,108,111]⟩⟩],q,rfl,abX (F:=pF) (xs:=[⟨⟨#[97]⟩,⟨#[104,101,108,108,111]⟩⟩]) (bW.new B 89 #[.string ⟨#[97]⟩,.string ⟨#[104,101,108,108,111]⟩]) rfl a.size rfl (by simp[maxLen]),jU.one ⟨by decide,by decide⟩,d.alloc _,o,a.alloc _⟩
end
section
variable {β:Bool}
open Go.RowKit
def fh.set(h:fh w Z hi s Y X W){cs:Array Value}(a:bW w g 27 cs)(i:Nat)(u:Value):fh (w.setCell ⟨g,i,none⟩ u) Z hi s Y X W:=
 ⟨cL dG.av h.pk a (by decide) i u,cL dH.av h.sn a (by decide) i u,cL dD.av h.lg a (by decide) i u⟩
def fh.wide(h:fh w Z hi s Y X W)(b:jR<=Z)(a:hi<=hi'):fh w jR hi' s Y X W:=h.go (λ_ _ _=>rfl) b a
def fh.form(h:fh w Z hi s Y X W):(∃A a,Y=.slice A s.pk.length a)/\(∃B b,X=.slice B s.sn.length b)/\∃C c,W=.slice C s.lg.length c:=⟨h.pk.form,h.sn.form,h.lg.form⟩
def fh.fc(h:fh w Z hi s Y X W){S:Nat->Prop}(e:bM S w w')(c:∀b,Z<=b->b<hi->b<w.heap.size/\¬S b):fh w' Z hi s Y X W:=
 h.go (λb d a=>e.block b (c b d a).1 (c b d a).2) (am _) (am _)
def asF{cs:Array Value}(h:cs.size=3):∃a b c,cs=#[a,b,c]:=by
 obtain⟨l⟩:=cs
 match l,h with
 |[a,b,c],_=>exact⟨a,b,c,rfl⟩
def kC(w:World)(g:Nat)(a b c:Value):bM (λx=>x=g) w (((w.setCell ⟨g,0,none⟩ a).setCell ⟨g,1,none⟩ b).setCell ⟨g,2,none⟩ c):=(((bM.refl (λx=>x=g) w).setCell (S:=λx=>x=g) (p:=⟨g,0,none⟩) (.inl rfl) a).setCell (S:=λx=>x=g) (p:=⟨g,1,none⟩) (.inl rfl) b).setCell (S:=λx=>x=g) (p:=⟨g,2,none⟩) (.inl rfl) c
section
variable {w:World} {lo hi g:Nat} {l:List Int} {N s ia ic bk:Nat} {fx:Bool} {ty:TypeId} {n:Nat} {S:Nat->Prop} {pre:List Nat}
def abg(u:Value)(x:aI w lo hi g l N s ia ic bk fx ty n S pre):Prop:=
 ∃d c a q r L H,u=.tuple #[.agg #[d,c,a],.bool q]/\fh x.to L H r d c a/\(∀b,L<=b->b<H->x.free b)/\w.heap.size<=L/\H<=x.to.heap.size/\(q=true->eN r)
def abg.le{u:Value}{x y:aI w lo hi g l N s ia ic bk fx ty n S pre}(h:abg u x)(a:aI.le x y):abg u y:=by
 obtain⟨j,o,k,q,r,L,H,rfl,f,e,p,i,m⟩:=h;exact⟨j,o,k,q,r,L,H,rfl,f.go (λb d c=>a.fc.block b (e b d c).1 (a.not (e b d c))) (am _) (am _),λb d c=>a.free (e b d c),p,bd i a.fc.size,m⟩
def abg.new{r:dS}{q:Bool}(x:aI w lo hi g l N s ia ic bk fx ty n S pre){w2:World}(d:Below x.to.heap.size x.to w2)(a:fh w2 x.to.heap.size w2.heap.size r Y X W)(j:q=true->eN r)(k:g<w.heap.size)(v:Value):abg (.tuple #[.agg #[Y,X,W],.bool q]) (x.told d v):=by
 have f:=x.ok.size;exact⟨Y,X,W,q,r,_,_,rfl,a,λb o c=>⟨c,by omega,λe=>(by
  obtain⟨_,_,m,_,i⟩:=x.bx b e;have:=i.lt;omega),λe=>(by have:=x.sf b e;omega)⟩,f,am _,j⟩
def ah6(x:aI w lo hi g l N s ia ic bk fx ty n S pre):Prop:=
 x.done=true/\∃b d c a q,x.box=some b/\x.res=some (.tuple #[.agg #[d,c,a],.bool q])/\bW x.to b ty #[d,c,a]
def ah6.le{x y:aI w lo hi g l N s ia ic bk fx ty n S pre}(h:ah6 x)(a:aI.le x y):ah6 y:=by
 obtain⟨hd,b,d,m,k,q,i,e,j⟩:=h;obtain⟨o,c,f⟩:=a.full hd i j;exact⟨o,b,d,m,k,q,c,a.res _ e,f⟩
end
structure afs (u va vb vc:Value) (q:Bool):Prop where
 eq:u=.tuple #[.agg #[va,vb,vc],.bool q]
 a:∃A m c,va=.slice A m c
 b:∃A m c,vb=.slice A m c
 c:∃A m c,vc=.slice A m c
def afs.of{r:dS}{q:Bool}(h:fh w Z hi r Y X W):afs (.tuple #[.agg #[Y,X,W],.bool q]) Y X W q:=by
 obtain⟨⟨A,a,rfl⟩,⟨B,b,rfl⟩,C,c,rfl⟩:=h.form;exact⟨rfl,⟨_,_,_,rfl⟩,⟨_,_,_,rfl⟩,⟨_,_,_,rfl⟩⟩
def apJ(w:World)(lo hi g:Nat)(l:List Int)(p:Nat)(e:Ending)(w':World):Prop:=
 ∃d c a s q,e=.returned (.agg #[d,c,a])/\fh w' w.heap.size w'.heap.size s d c a/\eN s/\Rd w' lo hi g l q/\q<=p+700/\bM (λb=>b=g) w w'
structure ah7 (w wr:World) (lo hi g:Nat) (l:List Int) (q gs:Nat) (va vb vc tt:Value) (s:dS) (t:List Nd):Prop where
 k0:bW wr w.heap.size 27 #[.slice none 0 0,.slice none 0 0,.slice none 0 0]
 ks:bW wr gs 27 #[va,vb,vc]
 os:fh wr w.heap.size wr.heap.size s va vb vc
 sv:eN s
 ot:aH pF 89 wr w.heap.size tt t
 ft:jU t
 rd:Rd wr lo hi g l q
 ch:bM (λb=>b=g) w wr
 gs1:w.heap.size<gs
 gw:g<w.heap.size
def ah7.fc{wr : World}{l:List Int}{q gs : Nat}{c : Value}{t:List Nd}(h:ah7 w wr Z hi g l q gs Y X W c s t)(a:bM (λb=>b=g) wr w')(j:Rd w' Z hi g l hi'):ah7 w w' Z hi g l hi' gs Y X W c s t:=by
 have m:=h.gw;have d:=h.gs1;exact⟨bq h.k0 a (by omega),bq h.ks a (by omega),(h.os.fc a λb d f=>⟨f,by omega⟩).wide (am _) a.size,h.sv,h.ot.fc a λb k e=>by have:=(h.ot.at_ k).1;omega,h.ft,j,h.ch.trans a λi _ e=>e,d,m⟩
def ah7.tree{wr : World}{l:List Int}{q gs:Nat}{e a : Value}{t b:List Nd}(h:ah7 w wr Z hi g l q gs Y X W e s t)(d:aH pF 89 wr w.heap.size a b)(c:jU b):ah7 w wr Z hi g l q gs Y X W a s b:=
 ⟨h.k0,h.ks,h.os,h.sv,d,c,h.rd,h.ch,h.gs1,h.gw⟩
def acb{t:List Nd}(h:jU t):∀x∈t,pF.good x:=aah h
def ah8(l:List Int)(g p X hi:Nat)(w:World)(hr:Rd w X hi g l p)(hp:p<=10000) :
  Calls (ah β) 12 #[.pointer (some ⟨g,0,none⟩)] w (apJ w X hi g l p):=by
 have cd:=hr.lt;have cm:=hr.hi_;go_enter zO,ntmps12;go_wp2;have aK:Below w.heap.size w (((((w.alloc (.cells #[.slice none 0 0,.slice none 0 0,.slice none 0 0] 27)).alloc (.cells #[] 36)).alloc (.cells #[] 83)).alloc (.cells #[] 72)).alloc (.cells #[.slice (some ⟨w.heap.size+1,0,none⟩) 0 0,.slice (some ⟨w.heap.size+1+1,0,none⟩) 0 0,.slice (some ⟨w.heap.size+1+1+1,0,none⟩) 0 0] 27)):=cQ (cQ (cQ (cQ (aA _ _) _) _) _) _;have k0:bW (((((w.alloc (.cells #[.slice none 0 0,.slice none 0 0,.slice none 0 0] 27)).alloc (.cells #[] 36)).alloc (.cells #[] 83)).alloc (.cells #[] 72)).alloc (.cells #[.slice (some ⟨w.heap.size+1,0,none⟩) 0 0,.slice (some ⟨w.heap.size+1+1,0,none⟩) 0 0,.slice (some ⟨w.heap.size+1+1+1,0,none⟩) 0 0] 27)) (w.heap.size) 27 #[.slice none 0 0,.slice none 0 0,.slice none 0 0]:=by
  have I:=bc (bc (bc (bc (bW.new w 27 #[.slice none 0 0,.slice none 0 0,.slice none 0 0]) (.cells #[] 36)) (.cells #[] 83)) (.cells #[] 72)) (.cells #[.slice (some ⟨w.heap.size+1,0,none⟩) 0 0,.slice (some ⟨w.heap.size+1+1,0,none⟩) 0 0,.slice (some ⟨w.heap.size+1+1+1,0,none⟩) 0 0] 27);exact I
 have k1:bW (((((w.alloc (.cells #[.slice none 0 0,.slice none 0 0,.slice none 0 0] 27)).alloc (.cells #[] 36)).alloc (.cells #[] 83)).alloc (.cells #[] 72)).alloc (.cells #[.slice (some ⟨w.heap.size+1,0,none⟩) 0 0,.slice (some ⟨w.heap.size+1+1,0,none⟩) 0 0,.slice (some ⟨w.heap.size+1+1+1,0,none⟩) 0 0] 27)) (w.heap.size+1) 36 #[]:=by
  have I:=bc (bc (bc (bW.new (w.alloc (.cells #[.slice none 0 0,.slice none 0 0,.slice none 0 0] 27)) 36 #[]) (.cells #[] 83)) (.cells #[] 72)) (.cells #[.slice (some ⟨w.heap.size+1,0,none⟩) 0 0,.slice (some ⟨w.heap.size+1+1,0,none⟩) 0 0,.slice (some ⟨w.heap.size+1+1+1,0,none⟩) 0 0] 27);simp only[mu] at I;exact I
 have k2:bW (((((w.alloc (.cells #[.slice none 0 0,.slice none 0 0,.slice none 0 0] 27)).alloc (.cells #[] 36)).alloc (.cells #[] 83)).alloc (.cells #[] 72)).alloc (.cells #[.slice (some ⟨w.heap.size+1,0,none⟩) 0 0,.slice (some ⟨w.heap.size+1+1,0,none⟩) 0 0,.slice (some ⟨w.heap.size+1+1+1,0,none⟩) 0 0] 27)) (w.heap.size+1+1) 83 #[]:=by
  have I:=bc (bc (bW.new ((w.alloc (.cells #[.slice none 0 0,.slice none 0 0,.slice none 0 0] 27)).alloc (.cells #[] 36)) 83 #[]) (.cells #[] 72)) (.cells #[.slice (some ⟨w.heap.size+1,0,none⟩) 0 0,.slice (some ⟨w.heap.size+1+1,0,none⟩) 0 0,.slice (some ⟨w.heap.size+1+1+1,0,none⟩) 0 0] 27);simp only[mu] at I;exact I
 have k3:bW (((((w.alloc (.cells #[.slice none 0 0,.slice none 0 0,.slice none 0 0] 27)).alloc (.cells #[] 36)).alloc (.cells #[] 83)).alloc (.cells #[] 72)).alloc (.cells #[.slice (some ⟨w.heap.size+1,0,none⟩) 0 0,.slice (some ⟨w.heap.size+1+1,0,none⟩) 0 0,.slice (some ⟨w.heap.size+1+1+1,0,none⟩) 0 0] 27)) (w.heap.size+1+1+1) 72 #[]:=by
  have I:=bc (bW.new (((w.alloc (.cells #[.slice none 0 0,.slice none 0 0,.slice none 0 0] 27)).alloc (.cells #[] 36)).alloc (.cells #[] 83)) 72 #[]) (.cells #[.slice (some ⟨w.heap.size+1,0,none⟩) 0 0,.slice (some ⟨w.heap.size+1+1,0,none⟩) 0 0,.slice (some ⟨w.heap.size+1+1+1,0,none⟩) 0 0] 27);simp only[mu] at I;exact I
 have k4:bW (((((w.alloc (.cells #[.slice none 0 0,.slice none 0 0,.slice none 0 0] 27)).alloc (.cells #[] 36)).alloc (.cells #[] 83)).alloc (.cells #[] 72)).alloc (.cells #[.slice (some ⟨w.heap.size+1,0,none⟩) 0 0,.slice (some ⟨w.heap.size+1+1,0,none⟩) 0 0,.slice (some ⟨w.heap.size+1+1+1,0,none⟩) 0 0] 27)) (w.heap.size+1+1+1+1) 27 #[.slice (some ⟨w.heap.size+1,0,none⟩) 0 0,.slice (some ⟨w.heap.size+1+1,0,none⟩) 0 0,.slice (some ⟨w.heap.size+1+1+1,0,none⟩) 0 0]:=by
  have I:=bW.new ((((w.alloc (.cells #[.slice none 0 0,.slice none 0 0,.slice none 0 0] 27)).alloc (.cells #[] 36)).alloc (.cells #[] 83)).alloc (.cells #[] 72)) 27 #[.slice (some ⟨w.heap.size+1,0,none⟩) 0 0,.slice (some ⟨w.heap.size+1+1,0,none⟩) 0 0,.slice (some ⟨w.heap.size+1+1+1,0,none⟩) 0 0];simp only[mu] at I;exact I
 have iv:w.heap.size+5<=(((((w.alloc (.cells #[.slice none 0 0,.slice none 0 0,.slice none 0 0] 27)).alloc (.cells #[] 36)).alloc (.cells #[] 83)).alloc (.cells #[] 72)).alloc (.cells #[.slice (some ⟨w.heap.size+1,0,none⟩) 0 0,.slice (some ⟨w.heap.size+1+1,0,none⟩) 0 0,.slice (some ⟨w.heap.size+1+1+1,0,none⟩) 0 0] 27)).heap.size:=by simp only[mu];omega
 generalize (((((w.alloc (.cells #[.slice none 0 0,.slice none 0 0,.slice none 0 0] 27)).alloc (.cells #[] 36)).alloc (.cells #[] 83)).alloc (.cells #[] 72)).alloc (.cells #[.slice (some ⟨w.heap.size+1,0,none⟩) 0 0,.slice (some ⟨w.heap.size+1+1,0,none⟩) 0 0,.slice (some ⟨w.heap.size+1+1+1,0,none⟩) 0 0] 27))=w0 at *;have dP:=k0.cell;have fu:=k0.frozen;have iA:=k1.cell;have jT:=k1.frozen;have mY:=k2.cell;have c3:=k2.frozen;have bz:=k3.cell;have bT:=k3.frozen;have a7:=k4.cell;have ci:=k4.frozen;have bf:fh w0 w.heap.size w0.heap.size ⟨[],[],[]⟩ (.slice (some ⟨w.heap.size+1,0,none⟩) 0 0) (.slice (some ⟨w.heap.size+1+1,0,none⟩) 0 0) (.slice (some ⟨w.heap.size+1+1+1,0,none⟩) 0 0):=
  ⟨eJ.acP ⟨_,rfl,by omega,k1⟩ (am _),eJ.acP ⟨_,rfl,by omega,k2⟩ (am _),eJ.acP ⟨_,rfl,by omega,k3⟩ (am _)⟩
 have ay:bM (λb=>b=g) w w0:=bM.bF aK;have bn:=hr.fc (bM.bF (S:=λ_=>False) aK) λ_ _ h=>h;clear k1 k2 k3 dP iA mY bz a7 fu jT c3 bT ci aK hr;refine(ajT l g p X hi w0 bn (by omega)).mono ?_;rintro e w1 ⟨vt,t0,q1,rfl,ot,bx,b5,cC,J⟩;have k:ah7 w w1 X hi g l q1 (w.heap.size+1+1+1+1) (.slice (some ⟨w.heap.size+1,0,none⟩) 0 0) (.slice (some ⟨w.heap.size+1+1,0,none⟩) 0 0) (.slice (some ⟨w.heap.size+1+1+1,0,none⟩) 0 0) vt ⟨[],[],[]⟩ t0:=
  ⟨bq k0 J (by omega),bq k4 J (by omega),(bf.fc J λb h1 h2=>⟨h2,by omega⟩).wide (am _) J.size,eN.nil,ot.base (by omega),bx,b5,ay.trans J λi _ e=>e,by omega,cd⟩
 clear k0 k4 bf ay ot bx J bn;obtain⟨o,b7⟩:∃o,o=w.heap.size+1+1+1+1:=⟨_,rfl⟩;rw[<-b7] at k ⊢;clear b7;go_wp2;refine(cT _ _ _ _ _ _ 5 k.rd (by omega)).mono ?_;rintro e w2 ⟨m,rfl,⟨_,hm⟩,bp,b4⟩;have cr:=hm (by omega);obtain⟨mm,rfl⟩:=qr (show 0<=m by omega);have b9:=ab (k.fc b4 bp);clear hm b5 bp b4 k;go_wp2;go_loopw [4,5] (λtt jj wr=>∃(j q:Nat) (s:dS) (t:List Nd) (O P U:Value),j<=4/\jj=.int .i64 j/\ah7 w wr X hi g l q o O P U tt s t/\q+60*j<=p+600) (λ_ jj _=>(intOf jj).toNat)
 case atStart=>exact⟨mm,_,_,_,_,_,_,by omega,rfl,b9.out,by omega⟩
 case round=>
  clear b9;obtain⟨j,q,s,t,O,P,U,hj,rfl,k,hq⟩:=hrel;obtain⟨⟨A,a,rfl⟩,⟨B,b,rfl⟩,C,c,rfl⟩:=k.os.form;obtain⟨T,d,rfl⟩:=k.ot.form;have bm:wr.cell? ⟨o,0,none⟩=some (.slice A s.pk.length a):=k.ks.cell 0;have ad:wr.cell? ⟨o,1,none⟩=some (.slice B s.sn.length b):=k.ks.cell 1;have bt:wr.cell? ⟨o,2,none⟩=some (.slice C s.lg.length c):=k.ks.cell 2;have bV:=k.gs1;have bC:=k.gw;have co:=k.ks.lt;have zr:=k.ch.size;have HD:=ab k;by_cases h0:j=0
  .subst h0;have dP:=k.k0.cell;have fu:=k.k0.frozen;clear k;go_wp2;have k4:=((HD.out.k0.cf 0 (.slice A s.pk.length a)).cf 1 (.slice B s.sn.length b)).cf 2 (.slice C s.lg.length c);simp only[de,fi,ga] at k4;have a7:=k4.cell;refine oR (v:=.agg #[.slice A s.pk.length a,.slice B s.sn.length b,.slice C s.lg.length c]) (by simp[results,results12,go_sem,a7]) rfl ⟨_,_,_,s,q,rfl, ?_,HD.out.sv, ?_,by omega, ?_⟩
   .simp only[dj];exact((HD.out.os.set HD.out.k0 0 _).set (HD.out.k0.cf 0 _) 1 _).set ((HD.out.k0.cf 0 _).cf 1 _) 2 _
   .exact HD.out.rd.fc (kC _ _ _ _ _) λb G e=>by have:=HD.out.gw;omega
   .exact HD.out.ch.trans (kC _ _ _ _ _) λi hi e=>by omega
  .have t0:=db (show 0<j by omega);clear k;have rd:=HD.out.rd;go_wp2;refine alP (N:=q+12) (s:=10) (ia:=9) (ic:=5) (bk:=wr.heap.size) (fx:=false) (ty:=27) (n:=3) (S:=λ_=>False) (pre:=[]) 12 q [1,4] [0,2,3,5,6,7,8,9,10,11] (by kernel_rfl) (by kernel_rfl) (by kernel_rfl) rd (am _) none (λb G=>by cases G) (λh=>by cases h) (λb G=>G.elim) (λb G=>by cases G) (.inl rfl) ?_;simp only[pick,List.map,mT,nf];repeat(go_big_quiet_step (fail))
   refine gt ?_;apply Exists.intro;apply anR (λv=>v=.agg #[.slice A s.pk.length a,.slice B s.sn.length b,.slice C s.lg.length c])
   .rfl
   .intro x _ Y f;replace f:=ab f;have ca:=aa9 (x:=x) bm (by show o≠g;omega) (by show o≠_;omega) (λh=>h);have cb:=aa9 (x:=x) ad (by show o≠g;omega) (by show o≠_;omega) (λh=>h);have cc:=aa9 (x:=x) bt (by show o≠g;omega) (by show o≠_;omega) (λh=>h);go_wp2;exact f.out _ rfl
   intro ux;simp only[Act.put,de,fi,ga];apply avc (λv=>∃m:Int,v=.int .i64 m/\0<=m/\m<2)
   .rfl
   .intro x _ hN Y f;replace f:=ab f;go_wp2;refine(cT _ _ _ _ _ _ 2 x.rd (by omega)).mono ?_;rintro e wy ⟨m,rfl,⟨_,q1⟩,ce,bR⟩;obtain⟨q2,q3⟩:=q1 (by omega);go_wp2;exact f.out _ _ ce bR ⟨m,rfl,q2,q3⟩
   intro u2;apply anR (λv=>∃m:Int,v=.int .i64 m/\1<=m/\m<=2)
   .rfl
   .intro x z Y f;replace f:=ab f;obtain⟨m,rfl,q1,q2⟩:=z.1 (by kernel_rfl);go_wp2;exact f.out _ ⟨_,rfl,by omega,by omega⟩
   intro u3;apply avd (λv x=>abg v x)
   .rfl
   .rfl
   .exact λv x y h hl=>h.le hl
   .intro x z Y f;replace f:=ab f;obtain⟨m3,rfl,i1,i2⟩:=z.1 (by kernel_rfl);cases z.2.2.1 (by kernel_rfl);clear z;have bo:∀b,w.heap.size<=b->b<wr.heap.size->b<wr.heap.size/\¬(b=g\/x.box=some b\/x.done=true/\False):=λb h1 h2=>⟨h2,λe=>by
     rcases e with e|e|e
     .have:=HD.out.gw;omega
     .rcases x.bw b e with e|e<;>omega
     .exact e.2⟩
    have ox:=HD.out.os.fc x.ok bo;have tx:=HD.out.ot.fc x.ok λb G=>(bo b (HD.out.ot.at_ G).1 (HD.out.ot.at_ G).2).2;have zx:=x.ok.size;have wf:=HD.out.sv.wf;have tr:=(tx.deep (acb HD.out.ft) 0).sl (fa _);go_wp2;refine(ajM 7 (by omega) s m3 (by unfold cA;omega) t (aai HD.out.ft) (by have:=HD.out.ft.2.1;omega) wf.small wf.dc (by have:=wf.at6;omega) _ _ _ _ x.to _ _ 0 x.to.heap.size ox zx tr (am _)).mono ?_;rintro e wy ⟨v1,v2,v3,qq,r,rfl,oy,bI,b3⟩;go_wp2;exact f.out _ _ b3 (abg.new x b3 oy (λc2=>by
     rcases bI with⟨_,h1,rfl⟩|⟨h1,_⟩
     .exact HD.out.sv.save (by omega) HD.out.ft h1
     .rw[c2] at h1;cases h1) (by have:=HD.out.gw;omega) _)
   intro u5;simp only[Act.put,de,fi,ga];apply ahY (λv u=>v=u/\∃O P U q,afs u O P U q)
   .rfl
   .intro x z Y f;replace f:=ab f;obtain⟨⟨v1,v2,v3,qq,r,L,H,rfl,ho,_⟩,K⟩:=z.1 (by kernel_rfl);clear z;go_wp2;exact f.out _ _ K ⟨rfl,_,_,_,_,afs.of ho⟩
   intro u6;simp only[Act.put,de,fi,ga];apply ahY (λv u=>∃O P U q,afs u O P U q/\v=.agg #[O,P,U])
   .rfl
   .intro x z Y f;replace f:=ab f;obtain⟨u,K,rfl,v1,v2,v3,qq,E⟩:=z.1 (by kernel_rfl);have e:=E.eq;subst e;clear z;go_wp2;exact f.out _ _ K ⟨_,_,_,_,E,rfl⟩
   intro u7;simp only[Act.put,de,fi,ga];apply ahY (λv u=>∃O P U q,afs u O P U q/\v=.bool q)
   .rfl
   .intro x z Y f;replace f:=ab f;obtain⟨u,K,rfl,v1,v2,v3,qq,E⟩:=z.2.1 (by kernel_rfl);have e:=E.eq;subst e;clear z;go_wp2;exact f.out _ _ K ⟨_,_,_,_,E,rfl⟩
   intro u8;simp only[Act.put,de,fi,ga];apply asg (cs:=#[.slice none 0 0,.slice none 0 0,.slice none 0 0])
   .rfl
   .rfl
   .decide
   .have:=HD.out.gw;omega
   .rfl
   .intro x Y f;replace f:=ab f;go_wp2;exact f.out
   intro u9;simp only[Act.put,de,fi,ga];apply ash (λx=>ah6 x)
   .rfl
   .exact λj hj=>(by cases hj)
   .exact λx y h hl=>h.le hl
   .intro x z aT Y f;replace f:=ab f;obtain⟨b6,rfl,ly,a6⟩:=z.1 (by kernel_rfl);obtain⟨u,K,v1,v2,v3,qq,E,rfl⟩:=z.2.2.1 (by kernel_rfl);clear z;have e:=E.eq;subst e;obtain⟨A1,m1,c1,rfl⟩:=E.a;obtain⟨B1,k1,d1,rfl⟩:=E.b;obtain⟨C1,k2,d2,rfl⟩:=E.c;obtain⟨cy,d3,cs,c0,V⟩:=x.bx _ a6;obtain⟨ca,cb,cc,rfl⟩:=asF c0;have ad:=V.cell;have cq:=V.frozen;go_wp2;exact f.out _ a6 _ (kC _ _ _ _ _) _ rfl (((V.cf 0 _).cf 1 _).cf 2 _) ⟨rfl,_,_,_,_,_,a6,K,((V.cf 0 _).cf 1 _).cf 2 _⟩
   .rfl
   simp only[Act.put,de,fi,ga];apply ahY (λv u=>∃O P U q,afs u O P U q/\v=.bool q)
   .rfl
   .intro x z Y f;replace f:=ab f;obtain⟨u,K,v1,v2,v3,qq,E,rfl⟩:=z.2.2.1 (by kernel_rfl);clear z;go_wp2;exact f.out _ _ K ⟨_,_,_,_,E,rfl⟩
   intro cE;simp only[Act.put,de,fi,ga];refine ays λx z=> ?_;simp only[gU] at z;obtain⟨⟨u,K,v1,v2,v3,qq,E,rfl⟩,⟨aT,gy,cz,cn,d4,d5,bw,ao,ky⟩,⟨cv,rfl,ct,br⟩, -, -, -,⟨⟨x1,x2,x3,d7,r,L,H,rfl,oy,fy,hL,hH,M⟩,bl⟩, -⟩:=z;have e:=E.eq;subst e;rw[K] at ao bl;cases ao;cases bl;rw[bw] at br;cases br;obtain⟨⟨A1,a1,rfl⟩,⟨B1,b1,rfl⟩,C1,c1,rfl⟩:=oy.form;have a2:bM (λb=>b=g) wr x.to:=x.ok.mono λb G e=>by
    rcases e with e|e|⟨_,e⟩
    .exact e
    .rcases x.bw b e with e|e<;>omega
    .exact e.elim
   have Q:=HD.out.fc a2 x.rd;have c6:x.q<=q+12:=x.lim;have zx:=a2.size;simp only[List.drop];clear K E aT bw fy HD rd bm ad bt a2;revert zx;revert hH;revert oy;revert ky;revert c6;revert Q;generalize x.to=w4;generalize x.q=q4;clear x;intro Q cp ky oy hH zx;have HD:=ab Q;have cW:=Q.ks.lt;replace M:=ab M;clear Q;cases qq
   case' false=>
    clear ky oy M;go_wp2;revert HD;generalize w4=w5;intro HD
   case' true=>
    have bS:=ky.cell;have c4:=HD.out.ks.cell;have bL:=HD.out.ks.frozen;have a8:=((HD.out.ks.cf 0 (.slice A1 r.pk.length a1)).cf 1 (.slice B1 r.sn.length b1)).cf 2 (.slice C1 r.lg.length c1);simp only[de,fi,ga] at a8;have R:=kC w4 o (.slice A1 r.pk.length a1) (.slice B1 r.sn.length b1) (.slice C1 r.lg.length c1);have aL:fh (((w4.setCell ⟨o,0,none⟩ (.slice A1 r.pk.length a1)).setCell ⟨o,1,none⟩ (.slice B1 r.sn.length b1)).setCell ⟨o,2,none⟩ (.slice C1 r.lg.length c1)) L H r (.slice A1 r.pk.length a1) (.slice B1 r.sn.length b1) (.slice C1 r.lg.length c1):=((oy.set HD.out.ks 0 _).set (HD.out.ks.cf 0 _) 1 _).set ((HD.out.ks.cf 0 _).cf 1 _) 2 _
    have W:ah7 w (((w4.setCell ⟨o,0,none⟩ (.slice A1 r.pk.length a1)).setCell ⟨o,1,none⟩ (.slice B1 r.sn.length b1)).setCell ⟨o,2,none⟩ (.slice C1 r.lg.length c1)) X hi g l q4 o (.slice A1 r.pk.length a1) (.slice B1 r.sn.length b1) (.slice C1 r.lg.length c1) (.slice T t.length d) r t:=
     ⟨bq HD.out.k0 R (by omega),a8,by simp only[dj];exact fh.wide aL (by omega) hH,M.out rfl,HD.out.ot.fc R λb G e=>by
       have:=aH.deep HD.out.ot (acb HD.out.ft) 0;obtain⟨ds,k⟩:=this.blk G;have e':b=o:=e;subst e';exact absurd (dC HD.out.ks k) (by decide),HD.out.ft,HD.out.rd.fc R λb G e=>by omega,HD.out.ch.trans R λi hi e=>by have e':i=o:=e;omega,bV,bC⟩
    replace W:=ab W;clear a8 R aL oy HD M;go_wp2;have HD:=W;clear W;revert HD;generalize ((w4.setCell ⟨o,0,none⟩ (.slice A1 r.pk.length a1)).setCell ⟨o,1,none⟩ (.slice B1 r.sn.length b1)).setCell ⟨o,2,none⟩ (.slice C1 r.lg.length c1)=w5;intro HD;clear bS c4 bL ky
   all_goals
    refine(lY l g q4 X hi w5 HD.out.rd (by omega)).mono ?_;rintro e w6 ⟨sp,q6,rfl,d0,b2,d8,ba⟩;have a4:=ab (HD.out.fc ba b2);clear b2 ba HD;go_wp2;refine(adn l g q6 X hi w6 a4.out.rd (by omega)).mono ?_;rintro e w7 ⟨tx,q7,rfl,cl,al,cR,aP⟩;have F:=ab (a4.out.fc aP al);clear al aP a4;have r7:=((F.out.ot.deep (acb F.out.ft) 0).sl (fa _));replace r7:=ab r7;go_wp2;refine(adg t sp tx (by unfold maxLen;omega) (by unfold maxLen;omega) _ w7 0 w7.heap.size r7.out (am _) (by have:=F.out.ft.2.1;omega)).mono ?_;rintro e w8 ⟨v8,zs,put,rfl,o8,bb,b8⟩;have z7:=F.out.ch.size;have a3:=ab (F.out.fc (bM.bF (S:=λb=>b=g) b8) (F.out.rd.fc (bM.bF (S:=λ_=>False) b8) λ_ _ h=>h));have a5:=ab (And.intro (o8.base z7) bb);obtain⟨A8,c8,rfl⟩:=o8.form;clear F r7 o8 bb b8;cases put
    case' false=>
     clear a5;have Z:=a3
    case' true=>have Z:=ab (a3.out.tree a5.out.1 a5.out.2)
    all_goals
     clear a3;go_wp2;refine(cT _ _ _ _ _ _ 3 (Z).out.rd (by omega)).mono ?_;rintro e c5 ⟨aa,rfl,⟨_,bO⟩,aX,ax⟩;have a0:=ab ((Z).out.fc ax aX);clear bO aX ax Z;by_cases m0:aa=0
     .have t5:(aa ==0)=true:=mp.2 m0;clear m0;go_wp2;refine(lY l g _ X hi c5 a0.out.rd (by omega)).mono ?_;rintro e bi ⟨c7,cg,rfl,ck,b0,cw,bu⟩;have D:=ab (a0.out.fc bu b0);clear b0 bu a0;have aJ:=ab ((D.out.ot.deep (acb D.out.ft) 0).sl (fa _));go_wp2;refine(ajC _ c7 _ bi 0 bi.heap.size aJ.out (am _) (by have:=D.out.ft.2.1;omega)).mono ?_;rintro e d6 ⟨cO,ys,rfl,a9,an,af⟩;have ch:=D.out.ch.size;have c9:=ab ((D.out.fc (bM.bF (S:=λb=>b=g) af) (D.out.rd.fc (bM.bF (S:=λ_=>False) af) λ_ _ h=>h)).tree (a9.base ch) (D.out.ft.sub an));obtain⟨cS,cu,rfl⟩:=a9.form;clear D aJ a9 an af;go_wp2;go_roundw
      case rel=>exact⟨j-1,cg,_,_,_,_,_,by omega,by go_num,c9.out,by omega⟩
      simp[intOf];omega
     .have t5:(aa ==0)=false:=dq.2 m0;clear m0;go_wp2;go_roundw
      case rel=>exact⟨j-1,_,_,_,_,_,_,by omega,by go_num,a0.out,by omega⟩
      simp[intOf];omega
end
section
variable {β:Bool}
open Go.RowKit
def agI:List ByteArray:=[⟨#[122,122]⟩,⟨#[98,46]⟩,⟨#[97,98,99,46]⟩,⟨#[104,101,108,108,111,46,46,46]⟩,⟨#[]⟩]
structure amh (L:lG) (nc:Nat):Prop where
 k:0<=L.k/\L.k<=5
 n:0<=L.n/\L.n<=20
 nl:L.k=2\/L.k=4->L.n<=nc
 m:0<=L.m/\L.m<=3
 b:L.b∈agI
def avs(w:World)(lo hi g:Nat)(l:List Int)(p nc:Nat)(e:Ending)(w':World):Prop:=
 ∃L q,e=.returned (.agg (ajG L))/\amh L nc/\Rd w' lo hi g l q/\q<=p+10/\bM (λb=>b=g) w w'
def acd(w:World)(g:Nat)(a b c d:Value):bM (λx=>x=g) w ((((w.setCell ⟨g,0,none⟩ a).setCell ⟨g,1,none⟩ b).setCell ⟨g,2,none⟩ c).setCell ⟨g,3,none⟩ d):=(kC w g a b c).setCell (S:=λx=>x=g) (p:=⟨g,3,none⟩) (.inl rfl) d
def ami(l:List Int)(g p lo hi:Nat)(w:World)(hr:Rd w lo hi g l p)(hp:p<=100000)(A B C:Option Addr)(na a nb b nc c:Nat)(b4:nc<=9) :
  Calls (ah β) 14 #[.pointer (some ⟨g,0,none⟩),.agg #[.slice A na a,.slice B nb b,.slice C nc c]] w (avs w lo hi g l p nc):=by
 have b8:=hr.lt;have b2:=hr.hi_;go_enter zN,ntmps14;go_wp2;generalize hG:(w.alloc (.cells #[.slice A na a,.slice B nb b,.slice C nc c] 27)).alloc (.cells #[.int .i64 0,.int .i64 0,.int .i64 0,.string ⟨#[]⟩] 45)=w0 at *;obtain⟨aK,iv,L,dP,fu,E,iA,jT⟩:=aeK hG;clear hG;have af:bM (λb=>b=g) w w0:=bM.bF aK;have a3:=hr.fc (bM.bF (S:=λ_=>False) aK) λ_ _ h=>h;clear dP iA fu jT aK hr;refine(cT _ _ _ _ _ _ 5 a3 (by omega)).mono ?_;rintro e w1 ⟨m,rfl,⟨_,I⟩,ao,U⟩;have bb:=I (by omega);have al:=af.trans U λi _ e=>e;replace L:=bq L U (by omega);replace E:=bq E U (by omega);clear I U af a3;go_wp2;refine(cT _ _ _ _ _ _ 5 ao (by omega)).mono ?_;rintro e w2 ⟨K,rfl,⟨_,I⟩,a7,Q⟩;have bi:=I (by omega);have a9:=al.trans Q λi _ e=>e;replace L:=bq L Q (by omega);replace E:=bq E Q (by omega);clear I Q al ao;go_wp2;refine(cT _ _ _ _ _ _ 4 a7 (by omega)).mono ?_;rintro e W ⟨r,rfl,⟨_,I⟩,ad,T⟩;have b5:=I (by omega);have mv:=a9.trans T λi _ e=>e;replace L:=bq L T (by omega);replace E:=bq E T (by omega);clear I T a9 a7;go_wp2;have rl:dr (W.alloc (.cells #[.string ⟨#[122,122]⟩,.string ⟨#[98,46]⟩,.string ⟨#[97,98,99,46]⟩,.string ⟨#[104,101,108,108,111,46,46,46]⟩,.string ⟨#[]⟩] 9)) W.heap.size (W.alloc (.cells #[.string ⟨#[122,122]⟩,.string ⟨#[98,46]⟩,.string ⟨#[97,98,99,46]⟩,.string ⟨#[104,101,108,108,111,46,46,46]⟩,.string ⟨#[]⟩] 9)).heap.size [⟨#[122,122]⟩,⟨#[98,46]⟩,⟨#[97,98,99,46]⟩,⟨#[104,101,108,108,111,46,46,46]⟩,⟨#[]⟩] [.slice (some ⟨W.heap.size,0,none⟩) 5 5]:=
  (aH.deep (F:=gZ) (abX (F:=gZ) (bW.new W 9 #[.string ⟨#[122,122]⟩,.string ⟨#[98,46]⟩,.string ⟨#[97,98,99,46]⟩,.string ⟨#[104,101,108,108,111,46,46,46]⟩,.string ⟨#[]⟩]) rfl (am _) rfl (by simp[maxLen])) (nK (by decide)) W.heap.size).sl (am _)
 have a4:=(ad).alloc (.cells #[.string ⟨#[122,122]⟩,.string ⟨#[98,46]⟩,.string ⟨#[97,98,99,46]⟩,.string ⟨#[104,101,108,108,111,46,46,46]⟩,.string ⟨#[]⟩] 9);have D:=(mv).alloc (.cells #[.string ⟨#[122,122]⟩,.string ⟨#[98,46]⟩,.string ⟨#[97,98,99,46]⟩,.string ⟨#[104,101,108,108,111,46,46,46]⟩,.string ⟨#[]⟩] 9);have Z:=aA (W) (.cells #[.string ⟨#[122,122]⟩,.string ⟨#[98,46]⟩,.string ⟨#[97,98,99,46]⟩,.string ⟨#[104,101,108,108,111,46,46,46]⟩,.string ⟨#[]⟩] 9);generalize (W).alloc (.cells #[.string ⟨#[122,122]⟩,.string ⟨#[98,46]⟩,.string ⟨#[97,98,99,46]⟩,.string ⟨#[104,101,108,108,111,46,46,46]⟩,.string ⟨#[]⟩] 9)=w5 at *;refine(ah0 _ (by simp) _ _ _ _ _ _ _ _ w5 a4 (by omega) rl).mono ?_;rintro e v5 ⟨y,a8,rfl,an,O⟩;replace D:=(D).trans O λi _ e=>e;clear rl;replace L:=bq (ak L Z) O (by omega);replace E:=bq (ak E Z) O (by omega);have z5:=D.size;clear Z O a4 ad mv;obtain⟨o,k⟩:∃o,o=v5.heap.size:=⟨_,rfl⟩;have ax:=aA v5 (.cells #[.int .i64 m,.int .i64 (1+K),.int .i64 r,.string y] 45);have n:=bW.new v5 45 #[.int .i64 m,.int .i64 (1+K),.int .i64 r,.string y];have f:=D.alloc (.cells #[.int .i64 m,.int .i64 (1+K),.int .i64 r,.string y] 45);have j:=an.alloc (.cells #[.int .i64 m,.int .i64 (1+K),.int .i64 r,.string y] 45);have s:=ak L ax;have d:=ak E ax;have aa:=s.cell;have aJ:w.heap.size+1<o:=by rw[k];exact E.lt
 have H:=ab (And.intro n (And.intro f (And.intro j (And.intro s d))));clear n f j s d ax L E an D;have b9:=Nat.le_of_lt_succ (Nat.lt_succ_of_lt aJ);replace k:=ab k;by_cases V:m=2\/m=4
 case' pos=>
  rcases V with V|V
  all_goals
   first
    |have t1:(m ==2)=true:=mp.2 V
    |(have t1:(m ==2)=false:=dq.2 (by omega);have t2:(m ==4)=true:=mp.2 V)
   clear V;go_wp2;rw[<-k.out];obtain⟨n,f,j,s,d⟩:=H.out;rw[<-k.out] at n;clear H aa k;revert d;revert n;revert j;revert f;clear s;generalize v5.alloc (.cells #[.int .i64 m,.int .i64 (1+K),.int .i64 r,.string y] 45)=w7;intro f j n d;refine(cT _ _ _ _ _ _ _ j (by omega)).mono ?_;rintro e w8 ⟨t,rfl,⟨_,I⟩,a6,R⟩;have b6:=I (by omega);have X:=f.trans R λi _ e=>e;replace n:=bq n R (by omega);replace d:=bq d R (by omega);clear I R f j;have cl:=n.cell;have fl:=n.frozen;have z:=n.cf 1 (.int .i64 t);simp only[de,fi,ga] at z;have z8:=X.size;have q:=eI d (p:=⟨o,1,none⟩) (.int .i64 t) (by dsimp only;omega);have cg:=(bM.refl (λx=>x=o) w8).setCell (S:=λx=>x=o) (p:=⟨o,1,none⟩) (.inl rfl) (.int .i64 t);have a5:=X.trans cg λi hi e=>by have e':i=o:=e;omega
   have a2:=a6.fc cg λb hb e=>by omega
   have H9:=ab (And.intro a5 (And.intro a2 (And.intro z q)));clear cg a5 a2 z q X a6 d;go_wp2;obtain⟨f,j,z,d⟩:=H9.out;clear H9 cl fl n;revert d;revert z;revert j;revert f;generalize w8.setCell ⟨o,1,none⟩ (.int .i64 t)=w8';intro f j n d;have a1:((m:Int)=2\/(m:Int)=4)->t<=(nc:Int):=λ_=>by omega
   have Y:0<=t/\t<=20:=by omega
 case' neg=>
  have t1:(m ==2)=false:=dq.2 (by omega);have t2:(m ==4)=false:=dq.2 (by omega);have aL:=ab V;clear V;go_wp2;rw[<-k.out];obtain⟨n,f,j,s,d⟩:=H.out;rw[<-k.out] at n;clear H aa t1 t2 k;revert d;revert n;revert j;revert f;clear s;generalize v5.alloc (.cells #[.int .i64 m,.int .i64 (1+K),.int .i64 r,.string y] 45)=w8';intro f j n d;have a1:(m=2\/m=4)->1+K<=(nc:Int):=λh=>absurd h aL.out;have Y:0<=1+K/\1+K<=20:=by omega
  generalize 1+K=t at *
 all_goals
  have aX:=ab a1;clear a1;refine(cT _ _ _ _ _ _ 24 j (by omega)).mono ?_;rintro e w9 ⟨m9,rfl,⟨_,aT⟩,ay,P⟩;have jL:=(f).trans P λi _ e=>e;have J:=bq n P (by omega);have q:=bq d P (by omega);have z9:=jL.size;clear aT P;by_cases m0:m9=0
  .have t9:(m9 ==0)=true:=mp.2 m0;clear m0;have G:=J.cf 0 (.int .i64 5);simp only[de,fi,ga] at G;have u:=eI q (p:=⟨o,0,none⟩) (.int .i64 5) (by dsimp only;omega);have M:=jL.trans (((bM.refl (λx=>x=o) w9).setCell (S:=λx=>x=o) (p:=⟨o,0,none⟩) (.inl rfl) (.int .i64 5))) λi hi e=>by have e':i=o:=e;omega
   have N:=ay.fc (((bM.refl (λx=>x=o) w9).setCell (S:=λx=>x=o) (p:=⟨o,0,none⟩) (.inl rfl) (.int .i64 5))) λb hb e=>by omega
   have aP:=J.cell;have bf:=J.frozen;have b0:=G.cell;have b1:=u.frozen;have b7:=u.cell;have H:=ab (And.intro G (And.intro u (And.intro M N)));clear G u M N J q;go_wp2;obtain⟨G,u,M,N⟩:=H.out;have k4:=(((u.cf 0 (.int .i64 5)).cf 1 (.int .i64 (t))).cf 2 (.int .i64 r)).cf 3 (.string y);simp only[de,fi,ga] at k4;have a0:=k4.cell;refine oR (v:=.agg #[.int .i64 5,.int .i64 (t),.int .i64 r,.string y]) (by simp[results,results14,go_sem,a0]) rfl ⟨⟨5,t,r,y⟩,_,rfl,⟨⟨show(0:Int)<=5 by omega,show(5:Int)<=5 by omega⟩,Y,(λh=>by have h:(5:Int)=2\/(5:Int)=4:=h;omega),by show 0<=r/\r<=3;omega,a8⟩,N.fc (acd _ _ _ _ _ _) λb hb e=>by omega,by omega,M.trans (acd _ _ _ _ _ _) λi hi e=>by omega⟩
  .have t9:(m9 ==0)=false:=dq.2 m0;clear m0;have aP:=J.cell;have ba:=q.frozen;have b3:=q.cell;go_wp2;have k4:=(((q.cf 0 (.int .i64 (m))).cf 1 (.int .i64 (t))).cf 2 (.int .i64 r)).cf 3 (.string y);simp only[de,fi,ga] at k4;have a0:=k4.cell;refine oR (v:=.agg #[.int .i64 (m),.int .i64 (t),.int .i64 r,.string y]) (by simp[results,results14,go_sem,a0]) rfl ⟨⟨m,t,r,y⟩,_,rfl,⟨by show 0<=(m:Int)/\(m:Int)<=5;omega,Y,(λh=>aX.out (by first|exact h|simp)),by show 0<=r/\r<=3;omega,a8⟩,ay.fc (acd _ _ _ _ _ _) λb hb e=>by omega,by omega,jL.trans (acd _ _ _ _ _ _) λi hi e=>by omega⟩
end
section
variable {β:Bool}
open Go.RowKit
structure SmS (s:dS):Prop where
 pl:s.pk.length<=20
 pn:∀p∈s.pk,p.its.length<=4/\∀x∈p.its,x.b.size<=8
 sl:s.sn.length<=9
 sn:∀x∈s.sn,x.all.length<=6/\∀y∈x.all,y.p.size<=3/\y.ns.length<=40
 ll:s.lg.length<=9
def WfS.sm(h:WfS s):SmS s:=⟨h.pl,λp a=>(h.pn p a).2,by have:=h.sl;have:=h.ll;omega,λx b=>(h.sn x b).2,h.ll⟩
def SmS.at6(h:SmS s):lz s<=10000:=by
 have e:dU bPk s.pk<=s.pk.length*(36+1):=iO λp b=>by
  have c:dU bIt p.its<=p.its.length*(8+1):=iO λx a=>(h.pn p b).2 x a;have:=(h.pn p b).1;show dU bIt p.its<=36;omega
 have f:dU bSn s.sn<=s.sn.length*(264+1):=iO λx a=>by
  have c:dU bLs x.all<=x.all.length*(43+1):=iO λy d=>by
   have:=(h.sn x a).2 y d;show y.p.size+y.ns.length<=43;omega
  have:=(h.sn x a).1;show dU bLs x.all<=264;omega
 have:=h.pl;have:=h.sl;have:=h.ll;unfold lz;omega
def agJ{l:List V}{f:V->V}{y:V}(h:y∈sj l i f):y∈l\/∃x,l[i]?=some x/\y=f x:=by
 unfold sj at h;split at h
 .rename_i x a;rcases sO h with h|h
  .exact .inl h
  .exact .inr ⟨x,a,h⟩
 .exact .inl h
def SmS.lie(h:SmS s){l:lG}(j:l.b.size<=8):SmS (dA s l):=by
 by_cases g:l.k=1
 .rw[pH g];exact⟨bd (rQ _ _) h.pl,λp b=>h.pn p ((qQ.1 b).1),h.sl,h.sn,h.ll⟩
 by_cases f:l.k=2
 .by_cases c:0<=l.n/\l.n<=s.lg.length
  .rw[nP f c];exact⟨h.pl,h.pn,bd (rQ _ _) h.sl,λx a=>h.sn x ((qQ.1 a).1),bd (by rw[fb];omega) h.ll⟩
  .rw[nQ f c];exact h
 by_cases i:l.k=3
 .rw[abb i];refine⟨by rw[pe];exact h.pl,λp b=> ?_,h.sl,h.sn,h.ll⟩;obtain⟨q,k,rfl⟩:=mw.1 b;have e:=h.pn q k;unfold jE;split
  .refine⟨by show(sj q.its _ _).length<=4;rw[mL];exact e.1,λx a=> ?_⟩;rcases agJ a with a|⟨y,m,rfl⟩
   .exact e.2 x a
   .exact j
  .exact e
 by_cases d:l.k=4
 .by_cases c:0<=l.n/\l.n<s.lg.length
  .rw[abc d c];exact⟨h.pl,h.pn,h.sl,h.sn,by show(sj s.lg _ _).length<=9;rw[mL];exact h.ll⟩
  .rw[nR d c];exact h
 rw[abd g f i d];exact h
def amh.bs{L:lG}(h:amh L Z):L.b.size<=8:=by
 have:=h.b;unfold agI at this;simp only[mc,rA,tQ] at this;rcases this with e|e|e|e|e<;>rw[e]<;>decide
end
section
open Go.RowKit
def WfS.okl(h:WfS s):nY s.lg:=⟨h.ll,h.lg⟩
def nY.take{l:List Hd}(h:nY l)(n:Nat):nY (l.take n):=⟨by have:=h.1;rw[fb];omega,λx a=>h.2 x (pu a)⟩
def ah9{z:Int}(a:0<=z)(b:z<3):wrap64 z=z:=by unfold wrap64;omega
def an2{x:Hd}(h:ajR x):(mM x).b=3-x.b/\(mM x).s=x.s:=by
 have:=h.1;exact⟨ah9 (by omega) (by omega),rfl⟩
def nY.fork{l:List Hd}(h:nY l)(n:Nat):nY (sj l n mM):=⟨by rw[mL];exact h.1,λx b=>by
 rcases agJ b with b|⟨y,c,rfl⟩
 .exact h.2 x b
 .have a:=h.2 y (da c);obtain⟨d,e⟩:=an2 a;have:=a.1;have:=a.2;unfold ajR;omega⟩
def amj(x:V)(l:List V)(f:V->V):sj (x::l) 0 f=f x::l:=rfl
def amk(x:V)(l:List V)(n:Nat)(f:V->V):sj (x::l) (n+1) f=x::sj l n f:=by
 unfold sj;simp only[List.getElem?_cons_succ];cases l[n]?<;>rfl
def afU:Int->List Hd->Int
 |a,[]=>a
 |a,x::l=>afU (a*64+21*x.b+x.s) l
def aml(l:List Hd):Int:=afU 0 l
def ajV:∀{l:List Hd} {a b:Int},afU a l=afU b l->a=b
 |[],_,_,h=>h
 |x::l,a,b,h=>by
  have h:afU (a*64+21*x.b+x.s) l=afU (b*64+21*x.b+x.s) l:=h;have:=ajV h;omega
def agK:∀{l:List Hd} {n:Nat} {a:Int},(∀x∈l,ajR x)->n<l.length->afU a (sj l n mM)≠afU a l
 |[],n,_,_,h=>by simp at h
 |x::l,0,a,hk,_=>λe=>by
  rw[amj] at e;have e:afU (a*64+21*(mM x).b+(mM x).s) l=afU (a*64+21*x.b+x.s) l:=e;have:=ajV e;obtain⟨i,g⟩:=an2 (hk x (by simp));have:=hk x (by simp);obtain⟨⟨c,d⟩,f,j⟩:=this;omega
 |x::l,n+1,a,hk,h=>λe=>by
  rw[amk] at e;exact agK (l:=l) (n:=n) (λy b=>hk y (by simp[b])) (by simpa using h) e
def avu(long sum:Int)(l:List Hd):Int×Int×Int:=if(l.length:Int)<long\/long<0 then(long,sum,1) else if aml (l.take long.toNat)=sum then((l.length:Int),aml l,0) else(long,sum,2)
end
section
variable {β:Bool}
open Go.RowKit
def an3:∀(l:List Hd) (a:Int),a<=l.foldl (λa h=>max a (h.s+1)) a/\∀x∈l,x.s+1<=l.foldl (λa h=>max a (h.s+1)) a
 |[],a=>⟨ur _,λx b=>(by cases b)⟩
 |y::l,a=>by
  obtain⟨d,c⟩:=an3 l (max a (y.s+1));show a<=l.foldl (λa h=>max a (h.s+1)) (max a (y.s+1))/\∀x∈y::l,x.s+1<=l.foldl (λa h=>max a (h.s+1)) (max a (y.s+1));refine⟨by omega,λx b=> ?_⟩;rcases mc.1 b with rfl|b
  .omega
  .exact c x b
def avv :∀x∈s.lg,x.s<dW s:=λx a=>by
 have b:x.s+1<=fG s.lg:=(an3 s.lg 1).2 x a;unfold dW;cases s.sn.getLast? with
 |none=>show x.s<fG s.lg;omega
 |some y=>show x.s<max (fG s.lg) (y.no+1);omega
def eN.asc(h:eN s):s.lg.Pairwise λa b=>a.s<b.s:=by
 induction h with
 |nil=>exact .nil
 |save j i g f c=>
  refine rR.2 ⟨c,rK _ _,λx e y d=> ?_⟩;rw[lc.1 d];exact avv x e
def found(h:eN s){L:lG}(k:amh L s.lg.length) :
  (L.k=2->L.n<s.lg.length->avu s.lg.length (aml s.lg) (dA s L).lg=((s.lg.length:Int),aml s.lg,1))/\
  (L.k=4->L.n<s.lg.length->avu s.lg.length (aml s.lg) (dA s L).lg=((s.lg.length:Int),aml s.lg,2))/\
  (¬(L.k=2/\L.n<s.lg.length)->¬(L.k=4/\L.n<s.lg.length)->(dA s L).lg=s.lg):=by
 refine⟨λe b=> ?_,λf b=> ?_,λe f=> ?_⟩
 .by_cases g:0<=L.n
  .rw[nP e ⟨g,by omega⟩];unfold avu;rw[dl (.inl (by rw[fb];omega))]
  .exfalso;have:=k.n.1;omega
 .have g:=k.n.1;rw[abc f ⟨g,b⟩];unfold avu;rw[be (by rw[mL];omega),be];show ¬aml ((sj s.lg L.n.toNat mM).take (s.lg.length:Int).toNat)=_;rw[sN,qe (by rw[mL];exact am _)];exact agK h.wf.lg (by omega)
 .by_cases i:L.k=1
  .rw[pH i]
  by_cases a:L.k=2
  .by_cases b:0<=L.n/\L.n<=s.lg.length
   .rw[nP a b];have:L.n.toNat=s.lg.length:=by
     by_cases d:L.n<s.lg.length
     .exact absurd ⟨a,d⟩ e
     .omega
    rw[this,ge]
   .rw[nQ a b]
  by_cases j:L.k=3
  .rw[abb j]
  by_cases c:L.k=4
  .by_cases b:0<=L.n/\L.n<s.lg.length
   .exact absurd ⟨c,b.2⟩ f
   .rw[nR c b]
  rw[abd i a j c]
def nY.lie(h:nY s.lg)(L:lG):nY (dA s L).lg:=by
 by_cases d:L.k=1
 .rw[pH d];exact h
 by_cases b:L.k=2
 .by_cases a:0<=L.n/\L.n<=s.lg.length
  .rw[nP b a];exact h.take _
  .rw[nQ b a];exact h
 by_cases e:L.k=3
 .rw[abb e];exact h
 by_cases c:L.k=4
 .by_cases a:0<=L.n/\L.n<s.lg.length
  .rw[abc c a];exact h.fork _
  .rw[nR c a];exact h
 rw[abd d b e c];exact h
def agL{c:Type}(q:c->Bool)(a:c->Int)(n:Int)(d:∀x,a x=n->q x=true):∀l:List c,(l.filter q).find? (λx=>a x ==n)=l.find? (λx=>a x ==n)
 |[]=>rfl
 |y::l=>by
  rw[sF];by_cases b:a y=n
  .rw[rO,dl (d y b),sF,show(a y ==n)=true from mp.2 b]
  .rw[show(a y ==n)=false from dq.2 b,<-agL q a n d l];by_cases e:q y=true
   .rw[rO,dl e,sF,show(a y ==n)=false from dq.2 b]
   .rw[rO,be e]
def old(h:eN s){x:Hd}(m:k<=s.lg.length)(hi:i<k)(c:s.lg[i]?=some x):adk 7 (dA s ⟨2,k,0,⟨#[]⟩⟩) x.s=adk 7 s x.s/\(dA s ⟨2,k,0,⟨#[]⟩⟩).lg=s.lg.take k:=by
 rw[nP rfl ⟨by show(0:Int)<=k;omega,by show(k:Int)<=_;omega⟩];refine⟨?_,rfl⟩;unfold adk;show(match(s.sn.filter λy=>!((s.lg.drop k).any λh=>h.s ==y.no)).find? (λy=>y.no ==x.s) with|some y=>gb 7 (ju s.pk) y.all|none=>none)=_
 suffices nZ:∀y:Sn,y.no=x.s->(!((s.lg.drop k).any λh=>h.s ==y.no))=true by
  rw[agL _ (λy:Sn=>y.no) x.s nZ s.sn];all_goals(cases s.sn.find? (λy=>y.no ==x.s)<;>rfl)
 intro y a;have a:y.no=x.s:=a;rw[a,uq,<-lP,List.any_eq_true];rintro⟨z,l,d⟩;have d:=mp.1 d;obtain⟨j,b⟩:=qF l;rw[tc] at b;have e:=pZ.1 h.asc i (k+j) (aB c) (aB b) (by omega);have f:=(li.1 c).2;have g:=(li.1 b).2;rw[f,g] at e;omega
end
section
variable {β:Bool}
open Go.RowKit
def my:∀(a b:List UInt8),(Op.bytesLess a b||a ==b)=!(Op.bytesLess b a)
 |[],[]=>by simp[Op.bytesLess]
 |[],_::_=>by simp[Op.bytesLess]
 |_::_,[]=>by simp[Op.bytesLess]
 |x::a,y::b=>by
  have j:=my a b;by_cases i:x.toNat<y.toNat
  .have c:decide (x<y)=true:=db (rv.2 i);have g:decide (y<x)=false:=bv λh=>by have:=rv.1 h;omega
   have d:(y ==x)=false:=dq.2 λh=>by rw[h] at i;omega
   simp[Op.bytesLess,c,g,d]
  .by_cases e:y.toNat<x.toNat
   .have c:decide (y<x)=true:=db (rv.2 e);have g:decide (x<y)=false:=bv λh=>by have:=rv.1 h;omega
    have d:(x ==y)=false:=dq.2 λh=>by rw[h] at e;omega
    have f:(x::a ==y::b)=false:=dq.2 λh=>by rw[qi] at h;rw[h.1] at e;omega
    rw[f];simp[Op.bytesLess,c,g,d]
   .obtain rfl:x=y:=sA.1 (by omega);have c:decide (x<x)=false:=bv λh=>by have:=rv.1 h;omega
    have f:(x::a ==x::b)=(a ==b):=by rw[List.cons_beq_cons,sb,uy]
    rw[f];simp only[Op.bytesLess,c,uz,sb,uy];exact j
def agM(s:ByteArray):bs s=s.toList.map UInt8.toNat:=by rw[qN];rfl
def jG{s:ByteArray}(h:k<s.size):s.toList[k]?=some (s[k]'h):=by
 rw[qN,du];exact fm h
def lj(s:ByteArray):s.toList.length=s.size:=by rw[qN,qO];rfl
def agN{s:ByteArray}(h:gp s=true):(∃a,s.toList=[a])\/∃a c,s.toList=[a,47,c]:=by
 have e:=lj s;unfold gp at h;split at h
 .rename_i i;left;rw[i] at e;obtain⟨a,g⟩:=tk.1 e;exact⟨a,g⟩
 .split at h
  .rename_i j;right;simp only[fd,qH] at h;have d:=jG (s:=s) (k:=1) (by omega);have f:s[1]'(by omega)=47:=sA.1 (by rw[h.2.1];rfl);rw[f] at d;rw[j] at e
   match hs:s.toList,e,d with
   |[a,b,c],_,d=>
    simp at d;subst d;exact⟨a,c,rfl⟩
  .cases h
def amm{g : ByteArray}{a b:UInt8}{x y:List UInt8}(j:g.toList=a::x)(e:f.toList=b::y):je g f=(decide (x.length≠y.length)&&(a ==b)):=by
 have l:=lj g;have i:=lj f;rw[j] at l;rw[e] at i;simp only[ff] at l i;have c:=jG (s:=g) (k:=0) (by omega);have d:=jG (s:=f) (k:=0) (by omega);rw[j] at c;rw[e] at d;simp only[sY,jp] at c d;unfold je;rw[tq ⟨by omega,by omega⟩];by_cases h:g.size=f.size
 .rw[dl h,bv (by omega),uf]
 .rw[be h,db (by omega),uy,<-c,<-d,qj,mp,mp,<-sA];omega
def agO{g : ByteArray}(n:gp g=true)(m:gp f=true)(k:Op.bytesLess g.toList f.toList=true):aaq g f=je g f:=by
 have e:aaq g f=(g.toList++[47]).isPrefixOf f.toList:=by
  unfold aaq;rw[agM,agM];generalize g.toList=x;generalize f.toList=y;have l:([47]:List Nat)=[(47:UInt8)].map UInt8.toNat:=rfl;rw[l,<-qK];generalize x++[47]=x
  induction x generalizing y with
  |nil=>rfl
  |cons a x o=>
   cases y with
   |nil=>rfl
   |cons b y=>
    simp only[qP,List.isPrefixOf_cons₂,o]
    congr 1
    rw[qj,mp,mp,sA]
 rw[e];rcases agN n with⟨a,i⟩|⟨a,c,i⟩<;>rcases agN m with⟨b,j⟩|⟨b,d,j⟩<;>rw[amm i j,i,j]
 .simp[List.isPrefixOf]
 .simp[List.isPrefixOf]
 .rw[i,j] at k;have:(a ==b)=false:=by
   simp[Op.bytesLess] at k;exact dq.2 λh=>by rw[h,rv] at k;omega
  simp[List.isPrefixOf,this]
 .simp[List.isPrefixOf]
def apL{t:List Nd}:agH t↔ajw t:=by
 unfold agH ajw anT;constructor
 .rintro⟨d,h⟩;refine⟨d,λi x a=>⟨(h i x a).1,(h i x a).2.1,λk y c b=> ?_⟩⟩;rw[<-agO (h k y b).1.1 (h i x a).1.1 (ad0 (λi x a=>(h i x a).2.1) (i-k-1) k (by rw[show k+(i-k-1)+1=i by omega];exact a) b)];exact(h i x a).2.2 k y c b
 .rintro⟨d,h⟩;refine⟨d,λi x a=>⟨(h i x a).1,(h i x a).2.1,λk y c b=> ?_⟩⟩;rw[agO (h k y b).1.1 (h i x a).1.1 (ad0 (λi x a=>(h i x a).2.1) (i-k-1) k (by rw[show k+(i-k-1)+1=i by omega];exact a) b)];exact(h i x a).2.2 k y c b
end
section
variable {β:Bool}
open Go.RowKit
def avw{l:List Pk}(h:l.Pairwise λa b=>a.no<b.no):∀p∈l,p.no<eM l:=by
 intro p j;unfold eM;obtain⟨z,c,e⟩:=vS (l:=l) (vN j);rw[e];show p.no<z.no+1;obtain⟨i,d⟩:=qF j;have g:=aB d;rcases pa i (l.length-1) with f|k
 .have:=pZ.1 h i (l.length-1) g (by omega) f;rw[(li.1 d).2,(li.1 c).2] at this;omega
 .have:i=l.length-1:=by omega
  subst this;rw[c] at d;cases d;omega
def aft(key:Int):∀(n:Nat) (no:Int) (l:List ByteArray),l.length<=n->(eW key no l).Pairwise λa b=>a.no<b.no
 |0,no,l,h=>by rw[pi.1 (by omega:l.length=0),ib];exact .nil
 |n+1,no,l,h=>by
  rcases oS l.length with c|c
  .rw[pi.1 c,ib];exact .nil
  .rw[lX key no c];refine .cons (λp d=> ?_) (aft key n (no+1) (l.drop 4) (by rw[qc];omega));have:=(ld key n (no+1) (l.drop 4) (by rw[qc];omega) p d).1;show no<p.no;omega
def eN.aqM(h:eN s):s.pk.Pairwise λa b=>a.no<b.no:=by
 induction h with
 |nil=>exact .nil
 |save l k j g c=>
  refine rR.2 ⟨c,aft 7 _ _ _ (am _),λp d q e=> ?_⟩;have i:=avw c p d;have f:=(ld 7 _ _ _ (am _) q e).1;omega
def avx(h:s.sn.Pairwise λa b=>a.no<b.no):∀x∈s.sn,x.no<dW s:=by
 intro p k;obtain⟨z,c,e⟩:=vS (l:=s.sn) (vN k);have g:z.no<dW s:=by
  unfold dW;rw[e];show z.no<max (fG s.lg) (z.no+1);omega
 obtain⟨i,d⟩:=qF k;have j:=aB d;rcases pa i (s.sn.length-1) with f|m
 .have:=pZ.1 h i (s.sn.length-1) j (by omega) f;rw[(li.1 d).2,(li.1 c).2] at this;omega
 .have:i=s.sn.length-1:=by omega
  subst this;rw[c] at d;cases d;exact g
def eN.aAW(h:eN s):s.sn.Pairwise λa b=>a.no<b.no:=by
 induction h with
 |nil=>exact .nil
 |save j i g f c=>
  refine rR.2 ⟨c,rK _ _,λx e y d=> ?_⟩;rw[lc.1 d];exact avx c x e
def agP{d:Type}(c:d->Int):∀{l:List d} {x:d},l.Pairwise (λa b=>c a<c b)->x∈l->l.find? (λy=>c y ==c x)=some x
 |[],_,_,h=>by cases h
 |y::l,x,hp,h=>by
  rw[sF];rcases mc.1 h with rfl|h
  .rw[sb]
  .have e:=(so.1 hp).1 x h;rw[show(c y ==c x)=false from dq.2 (by omega)];exact agP c (so.1 hp).2 h
def eO(l:List Pk):List Int:=l.flatMap λp=>p.its.map (·.n)
def aia(l:List Pk):eO l=(dc l).map (·.n):=by
 unfold eO dc pB;rw[List.map_flatMap]
 congr 1
 funext p
 rw[tU];rfl
def afu{n:Int}:∀{a:List Sp} {l:List Sp},(∀x∈a,¬x.p=0)->(∃x∈a,x.n=n)\/¬ep n l=0->¬ep n (eh a l)=0
 |[],l,_,h=>by
  rcases h with⟨x,b,_⟩|h
  .cases b
  .exact h
 |y::a,l,hz,h=>by
  show ¬ep n (eh a (fB y l))=0;refine afu (λx b=>hz x (by simp[b])) ?_;rw[acN];by_cases c:y.n=n
  .rw[dl c];exact .inr (hz y (by simp))
  .rw[be c];rcases h with⟨x,b,d⟩|h
   .rcases mc.1 b with rfl|b
    .exact absurd d c
    .exact .inl ⟨x,b,d⟩
   .exact .inr h
def afv{n:Int}:∀{a:List Sp} {l:List Sp},(∀x∈a,¬x.n=n)->ep n (eh a l)=ep n l
 |[],l,_=>rfl
 |y::a,l,h=>by
  show ep n (eh a (fB y l))=_;rw[afv λx b=>h x (by simp[b]),acN,be (h y (by simp))]
def an4{l:List Pk}(h:∀s∈dc l,spP s) :ep n (nS l)=0↔n∉eO l:=by
 unfold nS;rw[dl h,aia];constructor
 .intro d a;obtain⟨x,b,rfl⟩:=mw.1 a;exact afu (l:=[]) (λy c=>by have:=(h y c).2;omega) (.inl ⟨x,b,rfl⟩) d
 .intro a;rw[afv (l:=[]) λx b e=>a (mw.2 ⟨x,b,e⟩)];rfl
def afV{ix:List Sp}{o:List ByteArray}{p:ByteArray}(h:o.Nodup):(dw key ix o p).Nodup:=by
 unfold dw;split
 .rename_i d;exact um.2 ⟨h,by simp,λa c b f e=>by rw[lc.1 f] at e;rw[e] at c;exact d.2 c⟩
 .exact h
def afw{key:Int}{ix:List Sp}:∀{l o:List ByteArray},o.Nodup->(nO key ix o l).Nodup
 |[],_,h=>h
 |p::l,o,h=>afw (l:=l) (afV h)
def ajW{key:Int}{ix:List Sp}{x:ByteArray}:∀{l o:List ByteArray},x∈o->x∈nO key ix o l
 |[],_,h=>h
 |p::l,o,h=>ajW (l:=l) (by
  unfold dw;split
  .exact rS _ h
  .exact h)
def agQ{key:Int}{ix:List Sp}{x:ByteArray}:∀{l o:List ByteArray},(x∈o->ep (bA key (bs x)) ix=0)->x∈nO key ix o l->ep (bA key (bs x)) ix=0
 |[],_,h,hx=>h hx
 |p::l,o,h,hx=>agQ (l:=l) (o:=dw key ix o p) (λa=>by
  unfold dw at a;split at a
  .rename_i b;rcases me.1 a with a|a
   .exact h a
   .rw[lc.1 a];exact b.1
  .exact h a) hx
def ajX{key:Int}{ix:List Sp}:∀{l o:List ByteArray},∀p∈l,¬ep (bA key (bs p)) ix=0\/p∈nO key ix o l
 |[],_,p,h=>by cases h
 |q::l,o,p,h=>by
  show _\/p∈nO key ix (dw key ix o q) l;rcases mc.1 h with rfl|h
  .by_cases b:ep (bA key (bs p)) ix=0
   .refine .inr (ajW ?_);unfold dw;by_cases a:p∈o
    .rw[be λc=>c.2 a];exact a
    .rw[dl ⟨b,a⟩];simp
   .exact .inl b
  .exact ajX p h
def apM(x:It):∀l:List It,(kv x l).Perm (x::l):=by
 intro l
 induction l with
 |nil=>exact .refl _
 |cons y l a=>
  unfold kv;split
  .exact .refl _
  .exact((a.cons y).trans (.swap _ _ _))
def amn(key:Int)(l:List ByteArray):(fR key l).Perm (l.map (iN key)):=by
 induction l using nt with
 |h0=>exact .refl _
 |h1 l s a=>
  rw[nN,qK];exact(apM _ _).trans ((a.cons _).trans (by simpa using(List.perm_append_singleton (iN key s) (l.map (iN key))).symm))
def ace(key:Int):∀(n:Nat) (no:Int) (l:List ByteArray),l.length<=n->(eO (eW key no l)).Perm (l.map λp=>bA key (bs p))
 |0,no,l,h=>by rw[pi.1 (by omega:l.length=0),ib];exact .refl _
 |n+1,no,l,h=>by
  rcases oS l.length with a|a
  .rw[pi.1 a,ib];exact .refl _
  .rw[lX key no a];have c:=ace key n (no+1) (l.drop 4) (by rw[qc];omega);have d:((fR key (l.take 4)).map (·.n)).Perm ((l.take 4).map λp=>bA key (bs p)):=by
    have:=(amn key (l.take 4)).map (·.n);rw[tU] at this;exact this
   have b:=d.append c;rw[<-qK,tz] at b;exact b
def agR{d β:Type}{f:d->β}:∀{l:List d},l.Nodup->(∀x∈l,∀y∈l,f x=f y->x=y)->(l.map f).Nodup
 |[],_,_=>.nil
 |x::l,h,hf=>by
  obtain⟨k,j⟩:=tN.1 h;refine tN.2 ⟨λg=> ?_,agR j λa i b m=>hf a (by simp[i]) b (by simp[m])⟩;obtain⟨y,c,e⟩:=mw.1 g;exact k (hf x (by simp) y (by simp[c]) e.symm▸c)
def eN.dc(h:eN s):∀x∈dc s.pk,spP x:=λx a=>by
 obtain⟨p,b,a⟩:=qg.1 a;obtain⟨y,c,rfl⟩:=mw.1 a;have e:=(h.wf.pn p b).1;obtain⟨q,d,f⟩:=h.items p b y c;have:=lS (key:=7) (l:=q);exact⟨by show 0<=y.n/\y.n<=_;omega,by show 1<=p.no/\p.no<=99;omega⟩
structure Whole (s:dS):Prop where
 once:(eO s.pk).Nodup
 trees:∀x∈s.sn,∃t,jU t/\x=jF x.no 7 t/\∀f∈t,∀p∈gu f.b,bA 7 (bs p)∈eO s.pk
def eN.whole(h:eN s):Whole s:=by
 induction h with
 |nil=>exact⟨.nil,λx d=>(by cases d)⟩
 |@save s b t C G r H u=>
  have m:=C.dc;have k:=kW (key:=7) (ix:=nS s.pk) (aai r);have i:=ace 7 _ (eM s.pk) (aap 7 (nS s.pk) t) (am _);have g:eO (abe 7 s b t).pk=eO s.pk++eO (acU 7 s t):=by
   show eO (s.pk++acU 7 s t)=_;unfold eO;rw[rM]
  refine⟨?_,λx d=> ?_⟩
  .rw[g];refine um.2 ⟨u.once, ?_,λa E c F e=> ?_⟩
   .refine i.nodup_iff.2 (agR (afw .nil) λx d y A e=>kL (abf (k x d) (k y A) e))
   .subst e;obtain⟨p,j,rfl⟩:=mw.1 (i.mem_iff.1 F);exact(an4 m).1 (agQ (l:=pG t) (o:=[]) (λh=>by cases h) j) E
  .rcases me.1 d with d|d
   .obtain⟨w,z,v,B⟩:=u.trees x d;exact⟨w,z,v,λf q p j=>by rw[g];exact rS _ (B f q p j)⟩
   .rw[lc.1 d];refine⟨t,r,rfl,λf q p j=> ?_⟩;rw[g];rcases ajX (key:=7) (ix:=nS s.pk) (o:=[]) p (qg.2 ⟨f,q,j⟩:p∈pG t) with n|n
    .refine rS _ (qA λD=>n ((an4 m).2 D))
    .exact rP _ (i.mem_iff.2 (mw.2 ⟨p,n,rfl⟩))
end
section
variable {β:Bool}
open Go.RowKit
def apN{b:ByteArray}(h:dE b=true):iP (gu b)=(b,true):=by
 unfold iP;rw[apq,awE,dl ⟨h,rfl⟩]
def agS{nm:Int}:∀{l:List (Int×ByteArray)},(∃x∈l,x.1=nm)->∃k:Nat,ed nm l=k
 |[],⟨x,a,_⟩=>by cases a
 |y::l,⟨x,a,e⟩=>by
  show ∃k:Nat,(if y.1=nm then 0 else let j:=ed nm l;if j<0 then -1 else j+1:Int)=k;by_cases b:y.1=nm
  .rw[dl b];exact⟨0,rfl⟩
  .rw[be b];rcases mc.1 a with rfl|a
   .exact absurd e b
   .obtain⟨k,c⟩:=agS ⟨x,a,e⟩;refine⟨k+1, ?_⟩;show(if ed nm l<0 then -1 else ed nm l+1:Int)=_;rw[c,be (by omega)];omega
def agT{l:List Pk}(d:∀p∈l,∀x∈p.its,gJ 7 x){nm:Int}:(cN 7 (ju l) nm).2=true↔nm∈eO l:=by
 rw[mO];constructor
 .rintro⟨p,a,g⟩;obtain⟨q,n,rfl⟩:=mw.1 a;obtain⟨k,x, -,b,f, -⟩:=afp g;rw[an1] at b;obtain⟨y,c,rfl⟩:=gE.1 b;exact qg.2 ⟨q,n,mw.2 ⟨y,da c,f⟩⟩
 .intro h;obtain⟨p,a,j⟩:=qg.1 h;obtain⟨x,i,e⟩:=mw.1 j;obtain⟨k,m⟩:=agS (nm:=nm) (l:=(pkd p).2) ⟨(x.n,x.b),mw.2 ⟨x,i,rfl⟩,e⟩;exact⟨pkd p,tL a,afr (d p a) m⟩
def ado{l:List Pk}(f:∀p∈l,∀x∈p.its,gJ 7 x){p:ByteArray}(d:aU (bs p))(h:bA 7 (bs p)∈eO l):cN 7 (ju l) (bA 7 (bs p))=(p,true):=by
 have c:=(agT f).2 h;obtain⟨a,b⟩:=lh c;have e:=kL (abf a d b);generalize cN 7 (ju l) (bA 7 (bs p))=r at c e;obtain⟨i,g⟩:=r;dsimp only at c e;rw[c,e]
def apO{l:List Pk}(d:∀p∈l,∀x∈p.its,gJ 7 x){f:Nd}(c:afR f)(h:∀p∈gu f.b,bA 7 (bs p)∈eO l):iQ 7 (ju l) (fF 7 f)=some f:=by
 have b:=kU (jf c.2).2;have g:al9 7 (ju l) (fF 7 f).ns:=λn i=>by
  obtain⟨p,a,rfl⟩:=mw.1 i;rw[ado d (b p a) (h p a)]
 have e:nT 7 (ju l) (fF 7 f).ns=gu f.b:=by
  unfold nT fF;rw[tU]
  conv=>rhs;rw[<-List.map_id (gu f.b)]
  exact uS λp a=>by
   show(cN 7 (ju l) (bA 7 (bs p))).1=p;rw[ado d (b p a) (h p a)]
 unfold iQ;rw[e,apN c.2,dl ⟨g,rfl⟩];rfl
def apP{l:List Pk}(e:∀p∈l,∀x∈p.its,gJ 7 x){t:List Nd}(b:jU t)(h:∀f∈t,∀p∈gu f.b,bA 7 (bs p)∈eO l):gb 7 (ju l) (t.map (fF 7))=some t:=by
 have c:∀f∈t,iQ 7 (ju l) (fF 7 f)=some f:=λf a=>apO e (b.1 f a) (h f a);have d:fD 7 (ju l) (t.map (fF 7))=t:=by
  clear h b;unfold fD
  induction t with
  |nil=>rfl
  |cons f t k=>
   rw[qP,uT,c f (by simp)];show f::_=_;rw[k λg i=>c g (by simp[i])]
 unfold gb;rw[d,dl ⟨λx j=>by
  obtain⟨f,a,rfl⟩:=mw.1 j;rw[c f a];rfl,apL.2 (ajx.2 b)⟩]
def amp{l:List Pk}(c:∀p∈l,∀x∈p.its,gJ 7 x){xs:List Ls}{x:Ls}(d:x∈xs)(e:n∈x.ns)(h:n∉eO l):gb 7 (ju l) xs=none:=by
 unfold gb;rw[be];rintro⟨a, -⟩;have a:=a x d;unfold iQ at a;split at a
 .rename_i b;exact h ((agT c).1 (b.1 n e))
 .cases a
def aw6(s:dS)(no:Int):dS:=dA s ⟨1,no,0,⟨#[]⟩⟩
def ayK(x:Sn):List Int:=x.all.flatMap λy=>y.ns
def afx{l:List Pk}(v:l.Pairwise λa b=>a.no<b.no)(B:(eO l).Nodup)(o:p∈l) :
  n∈eO (l.filter λq=>!(q.no ==p.no))↔n∈eO l/\n∉p.its.map (·.n):=by
 constructor
 .intro h;obtain⟨q,d,k⟩:=qg.1 h;obtain⟨g,c⟩:=qQ.1 d;have c:q.no≠p.no:=by simpa using c
  refine⟨qg.2 ⟨q,g,k⟩,λs=>c ?_⟩;clear v c h d
  induction l with
  |nil=>cases g
  |cons y l C=>
   obtain⟨D,A,w⟩:=um.1 (show(y.its.map (·.n)++eO l).Nodup from B);rcases mc.1 g with rfl|d<;>rcases mc.1 o with rfl|o
   .rfl
   .exact absurd rfl (w n k n (qg.2 ⟨p,o,s⟩))
   .exact absurd rfl (w n s n (qg.2 ⟨q,d,k⟩))
   .exact C A o d
 .rintro⟨h,s⟩;obtain⟨q,d,k⟩:=qg.1 h;refine qg.2 ⟨q,qQ.2 ⟨d, ?_⟩,k⟩;rw[uq,dq];intro e;have:q=p:=by
   obtain⟨i,x⟩:=qF d;obtain⟨j,z⟩:=qF o;have r:=aB x;have m:=aB z;have u:=(li.1 x).2;have t:=(li.1 z).2;rcases tl i j with f|rfl|f
   .have:=pZ.1 v i j r m f;rw[u,t] at this;omega
   .rw[<-u,<-t]
   .have:=pZ.1 v j i m r f;rw[u,t] at this;omega
  exact s (this▸k)
def other(h:eN s)(k:p∈s.pk){x:Sn}(r:x∈s.sn):(adk 7 (aw6 s p.no) x.no).isSome=true↔∀n∈ayK x,n∉p.its.map (·.n):=by
 have d:=h.whole;obtain⟨t,w,i,z⟩:=d.trees x r;have e:aw6 s p.no=⟨s.pk.filter λq=>!(q.no ==p.no),s.sn,s.lg⟩:=pH rfl;have m:∀q∈s.pk.filter λq=>!(q.no ==p.no),∀y∈q.its,gJ 7 y:=λq c=>h.items q (qQ.1 c).1;have a:x.all=t.map (fF 7):=by rw[i];rfl
 rw[e];unfold adk;show(match s.sn.find? (λy=>y.no ==x.no) with|some y=>gb 7 (ju _) y.all|none=>none:Option (List Nd)).isSome=true↔_;rw[agP (λy:Sn=>y.no) h.aAW r];show(gb 7 (ju (s.pk.filter λq=>!(q.no ==p.no))) x.all).isSome=true↔_;constructor
 .intro o n A j;obtain⟨y,u,g⟩:=qg.1 A;rw[amp m u g λv=>((afx h.aqM d.once k).1 v).2 j] at o;cases o
 .intro b;rw[a,apP m w λf l q c=>(afx h.aqM d.once k).2 ⟨z f l q c,b _ (qg.2 ⟨fF 7 f,by rw[a];exact tL l,mw.2 ⟨q,c,rfl⟩⟩)⟩];rfl
end
section
variable {β:Bool}
open Go.RowKit
open Classical in
noncomputable def ko(key:Int)(l:List Pk):List Int:=(l.filter λp=>!decide (lK key p)).map λp=>p.no
def aet{l:List Pk}(h:l[k]?=some p)(a:lK key p):ko key (l.take (k+1))=ko key (l.take k):=by
 unfold ko;rw[mx h,tV];simp[a]
def ahh{l:List Pk}(h:l[k]?=some p)(a:¬lK key p):ko key (l.take (k+1))=ko key (l.take k)++[p.no]:=by
 unfold ko;rw[mx h,tV];simp[a]
def aer(key:Int)(l:List Pk):(ko key l).length<=l.length:=by
 unfold ko;rw[pe];exact rQ _ _
def aqO{l:List Pk}(o:l.Pairwise λa b=>a.no<b.no)(n:p∈l):p.no∈ko key l↔¬lK key p:=by
 unfold ko;constructor
 .intro h;obtain⟨q,s,e⟩:=mw.1 h;obtain⟨d,r⟩:=qQ.1 s;have:q=p:=by
   obtain⟨i,f⟩:=qF d;obtain⟨j,k⟩:=qF n;have g:=(li.1 f).2;have m:=(li.1 k).2;rcases tl i j with c|rfl|c
   .have:=pZ.1 o i j (aB f) (aB k) c;rw[g,m] at this;omega
   .rw[<-g,<-m]
   .have:=pZ.1 o j i (aB k) (aB f) c;rw[g,m] at this;omega
  subst this;simpa using r
 .intro h;exact mw.2 ⟨p,qQ.2 ⟨n,by simpa using h⟩,rfl⟩
def aoG{l:List Pk}(h:∀p∈l,lK key p):ko key l=[]:=by
 unfold ko;rw[List.map_eq_nil_iff,vO];intro p a;simp[h p a]
def at7(f:s.pk.Pairwise λa b=>a.no<b.no)(L:lG):(dA s L).pk.Pairwise λa b=>a.no<b.no:=by
 have same:(dA s L).pk=s.pk->(dA s L).pk.Pairwise λa b=>a.no<b.no:=λe=>by rw[e];exact f
 by_cases j:L.k=1
 .rw[pH j];exact f.filter _
 by_cases g:L.k=2
 .by_cases d:0<=L.n/\L.n<=s.lg.length
  .exact same (by rw[nP g d])
  .exact same (by rw[nQ g d])
 by_cases k:L.k=3
 .rw[abb k];have c:∀q:Pk,(jE L q).no=q.no:=λq=>by unfold jE;split<;>rfl
  rw[List.pairwise_map];exact f.imp λh=>by rw[c,c];exact h
 by_cases i:L.k=4
 .by_cases d:0<=L.n/\L.n<s.lg.length
  .exact same (by rw[abc i d])
  .exact same (by rw[nR i d])
 exact same (by rw[abd j g k i])
end
section
variable {β:Bool}
open Go.RowKit
def an5(w:World)(ys:List Int)(e:Ending)(w':World):Prop:=∃v,e=.returned v/\aH fM 3 w' w.heap.size v ys/\Below w.heap.size w w'
def iR(its:List It):List Int:=its.map λx=>x.n
def pI(a:List It):(iR a).length=a.length:=by unfold iR;rw[pe]
def aib{a:List It}{x:It}(h:a[k]?=some x):iR (a.take (k+1))=iR (a.take k)++[x.n]:=by
 unfold iR;rw[mx h,qK];rfl
def acf(t:Int)(a:List It)(v:Value)(w:World)(O hi:Nat)(C:hi<=w.heap.size)(h:iM w O hi a [v])(W:a.length<=100000000) :
  Calls (ah β) 61 #[.agg #[.int .i64 t,v]] w (an5 w (iR a)):=by
 obtain⟨A,c,rfl⟩:=h.form;obtain⟨_,R,K⟩:=h.len_;unfold maxLen at K;go_enter yU,ntmps61;go_wp2;generalize x:w.alloc (.cells #[.int .i64 t,.slice A a.length c] 36)=wa at *;obtain⟨z,M,E,m,q⟩:=gT x;clear x;go_loopw [3,9] (λu s wr=>∃k:Nat,k<=a.length/\s=.int .i64 k/\aH fM 3 wr w.heap.size u (iR (a.take k))/\Below w.heap.size w wr) (λu s _=>a.length-(intOf s).toNat)
 case atStart=>exact⟨0,fa _,rfl,aH.nil _ _ _,z⟩
 case round=>
  clear E m q z;obtain⟨k,D,rfl,e,b⟩:=hrel;obtain⟨N,I,rfl⟩:=e.form;by_cases j:k<a.length
  .obtain⟨y,g⟩:=ar j;have f:=pI (a.take k);rw[fb,qY D] at f;have d:=aib g;have HST:=ab d;clear d;obtain⟨V,Q,rfl,_,_,G,T,S⟩:=ae6 (iM.av.below h b C) g;replace g:=ab g;revert f HST e;generalize iR (a.take k)=L;intro e f HST;have H:=ab f;clear f;have p:=aA wr (.cells #[.int .i64 y.n,.string y.b] 48);replace e:=e.below p;replace b:=ae b p;have HO:=ab e;clear e;clear p;have r:Hid ((wr.alloc (.cells #[.int .i64 y.n,.string y.b] 48)).heap.size=wr.heap.size+1):=ab (by simp);go_wp2_with(at_builtin;refine bN (F:=fM) (v:=.slice N L.length I) rfl (.tmp 13) (.tmp 16) 30 rfl kO y.n rfl HO.out (fk (λn=>Value.slice (some ⟨n,0,none⟩) 1 1) r.out.symm) rfl (by have:=H.out;omega) b.size ?_;intro Y X o l B;obtain⟨U,P,rfl⟩:=o.form;simp only[ap,ff,ls,jt] at o);go_roundw
   case rel=>exact⟨k+1,by omega,by go_num,by rw[HST.out];exact o,b.trans (l.below b.size λi hi J=>by have:=(HO.out.at_ J).1;omega)⟩
   simp[intOf];omega
  .obtain rfl:k=a.length:=by omega
   rw[ge] at e ⊢;go_wp2;go_ret;exact⟨_,rfl,e,b⟩
end
section
variable {β:Bool}
open Go.RowKit
def dG.T{xs:List Pk}(h:dG w Z hi xs cs):eE 36 OPk 2 w Z hi xs cs:=aZ.slT OPk.av.loc (λh=>h) h
def dH.T{xs:List Sn}(h:dH w Z hi xs cs):eE 83 OSn 2 w Z hi xs cs:=aZ.slT OSn.av.loc (λh=>h) h
def dD.T{xs:List Hd}(h:dD w Z hi xs cs):eE 72 (cx FHd) 2 w Z hi xs cs:=aZ.slT (cx.av FHd).loc (λh=>h) h
def OHw.T{xs:List Hd}(h:OHw w Z hi xs cs):eE 72 (cx FHd) 2 w Z hi xs cs:=by
 refine⟨OHw.l h,λj b k n c e=> ?_⟩;obtain⟨A,o,rfl,a,p,r,d,f⟩:=h;obtain⟨g,i,rfl,m,q,l,s⟩:=f j;simp only[qi,pv,jp,qk,qm] at e;obtain⟨⟨rfl, -⟩, -, -⟩:=e;exact⟨i,l⟩
abbrev tPk:dO (eE 36 OPk 2) [36,48]:=eE.av OPk.av
abbrev tSn:dO (eE 83 OSn 2) [83,101,3]:=eE.av OSn.av
abbrev tHd:dO (eE 72 (cx FHd) 2) [72]:=eE.av (cx.av FHd)
structure jv (w:World) (lo hi:Nat) (s:dS) (va vb vc:Value):Prop where
 pk:eE 36 OPk 2 w lo hi s.pk [va]
 sn:eE 83 OSn 2 w lo hi s.sn [vb]
 lg:eE 72 (cx FHd) 2 w lo hi s.lg [vc]
abbrev aCP:List TypeId:=[36,48,83,101,3,72]
def Typed.more{T U:List TypeId}{b:Nat}(h:Typed w T b)(d:∀t∈T,t∈U):Typed w U b:=by
 obtain⟨t,c,a⟩:=h;exact⟨t,d t c,a⟩
def jv.typed(h:jv w Z hi s Y X W)(g:∀b,Z<=b->b<hi->Typed w aCP b->w'.heap[b]?=w.heap[b]?)(f:jR<=Z)(e:hi<=hi'):jv w' jR hi' s Y X W:=
 ⟨tPk.go (λb a c d=>g b a c (d.more (by decide))) f e h.pk,tSn.go (λb a c d=>g b a c (d.more (by decide))) f e h.sn,tHd.go (λb a c d=>g b a c (d.more (by decide))) f e h.lg⟩
def jv.go(h:jv w Z hi s Y X W)(f:∀b,Z<=b->b<hi->w'.heap[b]?=w.heap[b]?)(d:jR<=Z)(c:hi<=hi'):jv w' jR hi' s Y X W:=h.typed (λb a e _=>f b a e) d c
def jv.below{B : Nat}(h:jv w Z hi s Y X W)(a:Below B w w')(d:hi<=B):jv w' Z hi s Y X W:=h.go (λb _ c=>a.block b (by omega)) (am _) (am _)
def jv.wide(h:jv w Z hi s Y X W)(b:jR<=Z)(a:hi<=hi'):jv w jR hi' s Y X W:=h.go (λ_ _ _=>rfl) b a
def jv.l(h:jv w Z hi s Y X W):lL w Z hi s Y X W:=⟨cG.axF OPk.l h.pk.1,cG.axF OSn.l h.sn.1,h.lg.1⟩
def jv.form(h:jv w Z hi s Y X W):∃A a B b C c,Y=.slice A s.pk.length a/\X=.slice B s.sn.length b/\W=.slice C s.lg.length c:=by
 obtain⟨A,a,rfl⟩:=eE.form h.pk;obtain⟨B,b,rfl⟩:=eE.form h.sn;obtain⟨C,c,rfl⟩:=eE.form h.lg;exact⟨A,a,B,b,C,c,rfl,rfl,rfl⟩
def fh.t(h:fh w Z hi s Y X W):jv w Z hi s Y X W:=⟨dG.T h.pk,dH.T h.sn,dD.T h.lg⟩
def abh(w:World)(lo:Nat)(s:dS)(e:Ending)(w':World):Prop:=∃c a b,e=.returned (.agg #[c,a,b])/\jv w' lo w'.heap.size s c a b/\Below w.heap.size w w'
def asH{l:List V}{p:V->Bool}{x:V}(h:l[k]?=some x):(l.take (k+1)).any p=((l.take k).any p||p x):=by
 rw[mx h,List.any_append];simp
def ajY(s:dS)(l:lG)(hk:l.k=2)(va vb vc:Value)(w:World)(F hi:Nat)(h:fh w F hi s va vb vc)(bu:hi<=w.heap.size)(hl:lz s<=1099511627) :
  Calls (ah β) 30 #[.agg #[va,vb,vc],.int .i64 l.n] w (abh w F (dA s l)):=by
 obtain⟨h1,h2,h3⟩:=h;obtain⟨A,a,rfl⟩:=aZ.form h1;obtain⟨B,b,rfl⟩:=aZ.form h2;obtain⟨C,c,rfl⟩:=aZ.form h3;obtain⟨_,c1,D⟩:=(dH.l h2).len_;obtain⟨_,c4,bf⟩:=(dD.l h3).len_;unfold maxLen at D bf;unfold lz at hl;have bT:=fp (f:=bSn) (l:=s.sn);have bz:F<=hi:=by
  obtain⟨_,_,_,_,_,bi⟩:=h1;exact bi.le
 by_cases Z:0<=l.n/\l.n<=(s.lg.length:Int)
 .rw[nP hk Z];have jH:(decide (0<=l.n)&&decide (l.n<=(s.lg.length:Int)))=true:=by rw[fd];exact⟨db Z.1,db Z.2⟩
  have Q:=ab jH;obtain⟨d,a8⟩:=qr Z.1;have ax:l.n.toNat=d:=by omega
  rw[ax];have b1:d<=s.lg.length:=by omega
  rw[a8] at Q ⊢;have bk:l.n=((d:Nat):Int):=a8;clear jH Z ax a8;have g1:¬(((d:Nat):Int)<0):=by omega
  have g2:((d:Nat):Int)<=(s.lg.length:Int):=by omega
  have g3:((d:Nat):Int)<=(c:Int):=by omega
  have K:lN w F hi (s.lg.drop d) [.slice (if c=d then C else Option.map (λx=>x.add (d*2)) C) (s.lg.length-d) (c-d)]:=cG.ar4 (dD.l h3) b1;have bo:eE 72 (cx FHd) 2 w F hi (s.lg.take d) [.slice C d c]:=eE.awU (dD.T h3) b1;obtain⟨AD,a9⟩:∃AD,(if c=d then C else Option.map (λx=>x.add (d*2)) C)=AD:=⟨_,rfl⟩;rw[a9] at K;clear bk;go_enter xD,ntmps30;go_wp2;generalize hG:(w.alloc (.cells #[.slice A s.pk.length a,.slice B s.sn.length b,.slice C s.lg.length c] 27)).alloc (.cells #[.slice none 0 0,.slice none 0 0,.slice none 0 0] 27)=w0 at *;obtain⟨aK,iv,k0,dP,fu,k1,iA,jT⟩:=aeK hG;clear hG;refine(gC ((d:Nat):Int) 0 s.lg.length w0).mono ?_;rintro e w1 ⟨rfl,rfl⟩;rw[Q.out];go_wp2;have a5:=k0.cf 2 (.slice C d c);simp only[de,fi,ga] at a5;have ba:=aA (w0.setCell ⟨w.heap.size,2,none⟩ (.slice C d c)) (.cells #[] 83);have X:=ak a5 ba;have q1:=ak (eI k1 (p:=⟨w.heap.size,2,none⟩) (.slice C d c) (by dsimp only;omega)) ba;have aT:=ae (aK.setCell (p:=⟨w.heap.size,2,none⟩) (by dsimp only;omega) (.slice C d c)) ba;have af:=eJ.new (w0.setCell ⟨w.heap.size,2,none⟩ (.slice C d c)) 83 (am _);have bV:((w0.setCell ⟨w.heap.size,2,none⟩ (.slice C d c)).alloc (.cells #[] 83)).heap.size=w0.heap.size+1:=by simp
  have N:gY OSn 2 83 ((w0.setCell ⟨w.heap.size,2,none⟩ (.slice C d c)).alloc (.cells #[] 83)) F w.heap.size (.slice (some ⟨w0.heap.size,0,none⟩) 0 0) []:=gY.ahE (by
   have:=af;simp only[dj] at this;obtain⟨g,e,_,hk⟩:=this;cases e;exact⟨_,rfl,by omega,hk⟩)
  clear k0 k1 dP iA fu jT a5 ba af;generalize (w0.setCell ⟨w.heap.size,2,none⟩ (.slice C d c)).alloc (.cells #[] 83)=w2 at *;have T:(s.lg.drop d).length=s.lg.length-d:=qc;have bO:=ab T;rw[<-T];rw[<-T] at K;clear T a9;obtain⟨o,W⟩:∃o,o=s.lg.drop d:=⟨_,rfl⟩;rw[<-W] at K ⊢;obtain⟨_,bL,bn⟩:=K.len_;unfold maxLen at bn;have HI:=ab (And.intro X (And.intro q1 aT));replace N:=ab N;replace W:=ab W;clear X q1 aT;go_loopw [6,7] (λoo ii wr=>∃k:Nat,k<=s.sn.length/\ii=.int .i64 k/\gY OSn 2 83 wr F w.heap.size oo ((s.sn.take k).filter λx=>!(o.any λh=>h.s ==x.no))/\bW wr w.heap.size 27 #[.slice A s.pk.length a,.slice B s.sn.length b,.slice C d c]/\bW wr (w.heap.size+1) 27 #[.slice none 0 0,.slice none 0 0,.slice none 0 0]/\Below w.heap.size w wr) (λ_ ii _=>s.sn.length-(intOf ii).toNat)
  case atStart=>exact⟨0,fa _,rfl,N.out,HI.out⟩
  case round=>
   clear N HI;obtain⟨k,bx,rfl,L,X,q1,R⟩:=hrel;obtain⟨Ao,co,rfl⟩:=L.form;have cq:wr.cell? ⟨w.heap.size,1,none⟩=some (.slice B s.sn.length b):=X.cell 1;by_cases b9:k<s.sn.length
   .obtain⟨y,dV⟩:=ar b9;obtain⟨b',a4,S,e0,_,ly,_,⟨v2,rfl,bt,hr⟩,J⟩:=(jW.loc.below (dH.l h2) R bu).at_ dV;subst e0;obtain⟨A2,c2,rfl⟩:=cG.form hr;replace dV:=ab dV;replace L:=ab L;clear J hr;go_wp2;obtain⟨wo,bl⟩:∃wo,wo=wr:=⟨_,rfl⟩;subst bl;go_loopw [8,9] (λgg jj wr=>∃(j:Nat) (q:Bool),j<=o.length/\jj=.int .i64 j/\gg=.bool q/\q=((o.take j).any λh=>h.s ==y.no)/\Below wo.heap.size wo wr) (λ_ jj _=>o.length-(intOf jj).toNat)
    case atStart=>exact⟨0,false,fa _,rfl,rfl,rfl,gn _ _⟩
    case round=>
     obtain⟨j,q,hj,rfl,rfl,hq,t⟩:=hrel;replace hq:=ab hq;have D:=ae R t;have ad:=bQ t cq;obtain⟨b2,mE,S,e0,_,_,_,⟨v2,rfl,bC,hr⟩,J⟩:=(jW.loc.below (dH.l h2) D bu).at_ dV.out;simp only[jp,qk,qm] at e0;obtain⟨rfl,rfl⟩:=e0;obtain⟨A3,c3,rfl⟩:=cG.form hr;have ao:wr.cell? ⟨b',a4+k*2,none⟩=some (.int .i64 y.no):=by simpa using J 0 _ rfl
     have ay:wr.cell? ⟨b',a4+k*2+1,none⟩=some (.slice A3 y.all.length c3):=by simpa using J 1 _ rfl
     clear J hr;by_cases b5:j<o.length
     .obtain⟨z,a1⟩:=ar b5;obtain⟨b3,bp,S,e0,_,_,_,⟨rfl,c0⟩,G⟩:=(lN.loc.below K D bu).at_ a1;subst e0;have b0:wr.cell? ⟨b3,bp+j*2+1,none⟩=some (.int .i64 z.s):=by simpa using G 1 _ rfl
      have r:=asH (p:=λh:Hd=>h.s ==y.no) a1;replace r:=ab r;clear G a1 ay;cases q
      .go_wp2;have aJ:=aj ad;have aL:=aj ao;have bm:=aj b0;refine aQ 15 [0,1,2,3,4,5,6,7,8,9,10,11,12,13,14] [] (h:= ?_);simp only[pick,List.map,mT,nf];repeat(go_big_quiet_step (fail))
       refine gt ?_;clear aJ aL bm;apply Exists.intro;refine bY ?_;intro wz hz xx gI hF;dsimp only[gU] at hF;try rw[gI] at hF
       clear gI xx;simp only[List.drop];clear hF;go_wp2;go_roundw
       case rel=>exact⟨j+1,_,by omega,by go_num,rfl,by rw[r.out,<-hq.out];rfl,ae t hz⟩
       simp[intOf];omega
      .go_wp2;have aJ:=aj ad;have aL:=aj ao;have bm:=aj b0;refine aQ 15 [0,1,2,3,4,5,6,7,8,9,10,11,12,13,14] [] (h:= ?_);simp only[pick,List.map,mT,nf];repeat(go_big_quiet_step (fail))
       refine gt ?_;clear aJ aL bm;apply Exists.intro;refine bY ?_;intro wz hz xx gI hF;dsimp only[gU] at hF;try rw[gI] at hF
       clear gI xx;simp only[List.drop];clear hF;go_wp2;go_roundw
       case rel=>exact⟨j+1,_,by omega,by go_num,rfl,by rw[r.out,<-hq.out];rfl,ae t hz⟩
       simp[intOf];omega
     .obtain rfl:j=o.length:=by omega
      have a2:=hq.out;rw[ge] at a2;have an:=ab a2;have zo:=t.size;have iU:=L.out.below OSn.av t;have U:=ak X t;have P:=ak q1 t;clear a2;cases q
      .have hp:(o.any λh=>h.s ==y.no)=false:=an.out.symm;have H:=adh (p:=λx:Sn=>o.any λh=>h.s ==x.no) dV.out hp;have HF:=ab H;obtain⟨m,m',S,l1,l2,l3,aP,⟨v5,rfl,b4,I⟩,n, -⟩:∃m m' S,F<=m/\m<=m'/\m'<=hi/\S.length=2/\OSn wr m m' y S/\(∀j u,S[j]?=some u->wr.cell? ⟨b',a4+k*2+j,none⟩=some u)/\True:=by
        have aa:=dH.av.below h2 D bu;obtain⟨g,c9,e9,g1,g2,g3,ds,bR⟩:=aZ.some_ aa (by omega);simp only[pv,jp,qk,qm] at e9;obtain⟨⟨rfl,rfl⟩, -,rfl⟩:=e9;obtain⟨m,m',S,l1,l2,l3,aP,hE,n, -⟩:=aZ.at_ OSn.av (by decide) aa dV.out;exact⟨m,m',S,l1,l2,l3,aP,hE,λj u hu=>by rw[jt];exact n j u hu,trivial⟩
       obtain⟨A6,c6,rfl⟩:=aZ.form I;have a6:=n 1 _ rfl;rw[ay] at a6;simp only[jp,pv,true_and] at a6;obtain⟨rfl,rfl⟩:=a6;have b7:((s.sn.take k).filter λx=>!(o.any λh=>h.s ==x.no)).length<=s.sn.length:=bd (rQ _ _) (by rw[fb];omega);have aX:OSn wr F wr.heap.size y [.int .i64 y.no,.slice A3 y.all.length c3]:=
        OSn.av.wide (⟨_,rfl,b4,I⟩:OSn wr m m' y [.int .i64 y.no,.slice A3 y.all.length c3]) l1 (by have:=D.size;omega)
       have Y:=ab iU;have bb:=ab aX;have a7:=ab D;have V:=ab (And.intro U P);clear iU aX n I U P H L;obtain⟨M,hM⟩:∃M,M=((s.sn.take k).filter λx=>!(o.any λh=>h.s ==x.no)):=⟨_,rfl⟩;rw[<-hM] at Y HF b7 ⊢;clear hM;go_wp2_with(at_builtin;refine jq ?_);refine⟨?_,trivial⟩;refine ajl OSn.av (by decide) rfl (.tmp 57) (.tmp 63) 24 rfl ah2 y rfl Y.out rfl rfl (by simp[Value.oneCell']) bb.out (by omega) (by have:=a7.out.size;omega) ?_;intro v8 w8 o8 a0 bw;obtain⟨A8,c8,rfl⟩:=o8.form;simp only[ap,ff,ls,jt] at o8;go_wp2;go_roundw
       case rel=>
        have iZ:∀b,(Value.slice Ao M.length co).ownBlock=some b->w.heap.size<=b/\∃ds,bW wr b 83 ds:=λb hb=>⟨(Y.out.at_ hb).1,Y.out.blk hb⟩;refine⟨k+1,by omega,by go_num,by rw[HF.out];exact o8,bq V.out.1 a0 λE=> ?_,bq V.out.2 a0 λE=> ?_,a7.out.trans (a0.below a7.out.size λi hi E=>by have:=(iZ i E).1;omega)⟩
        .obtain⟨_,ds,hd⟩:=iZ _ E;exact absurd (dC V.out.1 hd) (by decide)
        .obtain⟨_,ds,hd⟩:=iZ _ E;exact absurd (dC V.out.2 hd) (by decide)
       case measure=>simp[intOf];omega
      .have hp:(o.any λh=>h.s ==y.no)=true:=an.out.symm;have H:=adi (p:=λx:Sn=>o.any λh=>h.s ==x.no) dV.out hp;have HF:=ab H;have a3:=ab (And.intro iU (And.intro U P));clear H hp iU U P;go_wp2;go_roundw
       case rel=>exact⟨k+1,by omega,by go_num,by rw[HF.out];exact a3.out.1,a3.out.2.1,a3.out.2.2,D⟩
       simp[intOf];omega
   .obtain rfl:k=s.sn.length:=by omega
    rw[ge] at L;have bI:=X.cell;have br:=X.frozen;have b6:=q1.cell;have bS:=q1.frozen;replace L:=ab L;go_wp2;obtain⟨wz,al⟩:∃wz,wz=((((wr.setCell ⟨w.heap.size,1,none⟩ (.slice Ao (s.sn.filter λx=>!(o.any λh=>h.s ==x.no)).length co)).setCell ⟨w.heap.size+1,0,none⟩ (.slice A s.pk.length a)).setCell ⟨w.heap.size+1,1,none⟩ (.slice Ao (s.sn.filter λx=>!(o.any λh=>h.s ==x.no)).length co)).setCell ⟨w.heap.size+1,2,none⟩ (.slice C d c)):=⟨_,rfl⟩;have G:bM (λb=>b=w.heap.size\/b=w.heap.size+1) wr wz:=by
     rw[al];exact((((bM.refl _ wr).setCell (.inl (.inl rfl)) _).setCell (.inl (.inr rfl)) _).setCell (.inl (.inr rfl)) _).setCell (.inl (.inr rfl)) _
    have O:Below w.heap.size w wz:=R.trans (G.below R.size λi hi E=>by rcases E with E|E<;>omega);have b8:gY OSn 2 83 wz F w.heap.size (.slice Ao (s.sn.filter λx=>!(o.any λh=>h.s ==x.no)).length co) (s.sn.filter λx=>!(o.any λh=>h.s ==x.no)):=by
     refine L.out.fc OSn.av G (λb hb E=> ?_) (λb _ ht E=> ?_)
     .obtain⟨ds,hd⟩:=L.out.blk hb;rcases E with rfl|rfl
      .exact absurd (dC X hd) (by decide)
      .exact absurd (dC q1 hd) (by decide)
     .rcases E with rfl|rfl
      .exact kZ X (by decide) ht
      .exact kZ q1 (by decide) ht
    refine oR (v:=.agg #[.slice A s.pk.length a,.slice Ao (s.sn.filter λx=>!(o.any λh=>h.s ==x.no)).length co,.slice C d c]) (by simp[results,results30,go_sem,b6]) rfl ?_;rw[<-al,<-W.out];have zb:=O.size;exact⟨_,_,_,rfl,⟨tPk.wide (tPk.below (dG.T h1) O bu) (am _) (by omega),gY.sl b8 (by omega),by
     have:=tHd.wide (jR:=F) (hi':=wz.heap.size) (tHd.below bo O bu) (am _) (by omega);have e:(s.lg.take d).length=d:=by rw[fb];omega
     exact this⟩,O⟩
 .rw[nQ hk Z];have jH:(decide (0<=l.n)&&decide (l.n<=(s.lg.length:Int)))=false:=by
   rw[sH];by_cases h0:0<=l.n
   .exact .inr (bv λh=>Z ⟨h0,h⟩)
   .exact .inl (bv h0)
  have Q:=ab jH;clear jH Z;go_enter xD,ntmps30;go_wp2;generalize hG:(w.alloc (.cells #[.slice A s.pk.length a,.slice B s.sn.length b,.slice C s.lg.length c] 27)).alloc (.cells #[.slice none 0 0,.slice none 0 0,.slice none 0 0] 27)=w0 at *;obtain⟨aK,iv,k0,dP,fu,k1,iA,jT⟩:=aeK hG;clear hG;refine(gC l.n 0 s.lg.length w0).mono ?_;rintro e w1 ⟨rfl,rfl⟩;rw[Q.out];go_wp2;refine oR (v:=.agg #[.slice A s.pk.length a,.slice B s.sn.length b,.slice C s.lg.length c]) (by simp[results,results30,go_sem,iA]) rfl ⟨_,_,_,rfl, ?_,((aK.setCell (by first|omega|(dsimp only;omega)) _).setCell (by first|omega|(dsimp only;omega)) _).setCell (by first|omega|(dsimp only;omega)) _⟩;have hr:jv w F hi s (.slice A s.pk.length a) (.slice B s.sn.length b) (.slice C s.lg.length c):=⟨dG.T h1,dH.T h2,dD.T h3⟩;refine(hr.below (B:=w.heap.size) ?_ bu).wide (am _) ?_
  .exact((aK.setCell (by first|omega|(dsimp only;omega)) _).setCell (by first|omega|(dsimp only;omega)) _).setCell (by first|omega|(dsimp only;omega)) _
  .simp only[dj];omega
end
section
variable {β:Bool}
open Go.RowKit
def mP(w:World)(g:Nat)(u1 c d:Value)(b:Nat)(a:b≠g):(((w.setCell ⟨g,0,none⟩ u1).setCell ⟨g,1,none⟩ c).setCell ⟨g,2,none⟩ d).heap[b]?=w.heap[b]?:=by
 rw[qb _ _ _ _ a,qb _ _ _ _ a,qb _ _ _ _ a]
def amq{B:Nat}{t:TypeId}{cs:Array Value}(h:bW w g t cs)(a:Below B w w')(b:g<B):bW w' g t cs:=(a.block g b).trans h
def asI(s:dS)(f E G:Int)(lb:ByteArray)(W:¬f=1)(X:¬f=2)(L:¬f=3)(Q:¬f=4)(D I J:Value)(w:World)(F hi:Nat)(h:lL w F hi s D I J)(H:hi<=w.heap.size)(N:lz s<=1099511627) :
  Calls (ah β) 13 #[.agg #[D,I,J],.agg (ajG ⟨f,E,G,lb⟩)] w (abh w w.heap.size s):=by
 have t1:(f ==1)=false:=dq.2 W;have t2:(f ==2)=false:=dq.2 X;have t3:(f ==3)=false:=dq.2 L;have Y:(f ==4)=false:=dq.2 Q;obtain⟨C,c,rfl⟩:=cG.form h.lg;obtain⟨A,a,rfl⟩:=cG.form h.pk;obtain⟨B,b,rfl⟩:=cG.form h.sn;go_enter wC,ntmps13;go_wp2;generalize O:((w.alloc (.cells #[.slice A s.pk.length a,.slice B s.sn.length b,.slice C s.lg.length c] 27)).alloc (.cells #[.int .i64 f,.int .i64 E,.int .i64 G,.string lb] 45)).alloc (.cells #[.slice none 0 0,.slice none 0 0,.slice none 0 0] 27)=w0 at *;obtain⟨k,iv,k0,dP,fu,l,U,T,j,K,o⟩:=aiU O;refine(eT s _ _ _ w0 F hi (h.below k H) (bd H k.size) N).mono ?_;rintro e r ⟨v1,v2,v3,rfl,n,m⟩;obtain⟨p,y,rfl⟩:=aZ.form n.pk;obtain⟨q,g,rfl⟩:=aZ.form n.sn;obtain⟨x,u,rfl⟩:=aZ.form n.lg;replace l:=ak l m;replace U:=l.cell;replace T:=l.frozen;replace j:=ak j m;replace K:=j.cell;replace o:=j.frozen;replace k:=ae k m;have z1:=m.size;have d:=aA r (.cells #[.slice p s.pk.length y,.slice q s.sn.length g,.slice x s.lg.length u] 27);have S:=(ak l d).cell;have i:=ak j d;have t:=i.cell;have R:=i.frozen;have z:=ab (ae k d);have M:jv (r.alloc (.cells #[.slice p s.pk.length y,.slice q s.sn.length g,.slice x s.lg.length u] 27)) w0.heap.size r.heap.size s _ _ _:=n.t.below d (am _);have P:=ab M;have V:=ab d.size;go_wp2;refine oR (v:=.agg #[.slice p s.pk.length y,.slice q s.sn.length g,.slice x s.lg.length u]) (by simp[results,results13,go_sem,t]) rfl ⟨_,_,_,rfl, ?_, ?_⟩
 .refine P.out.go (λb Z _=>mP _ _ _ _ _ b (by omega)) (by omega) ?_;simp only[dj];exact V.out
 .exact((z.out.setCell (by dsimp only;omega) _).setCell (by dsimp only;omega) _).setCell (by dsimp only;omega) _
def asJ(s:dS)(i j:Int)(lb:ByteArray)(H L Q:Value)(w:World)(J hi:Nat)(h:lL w J hi s H L Q)(K:hi<=w.heap.size)(G:lz s<=1099511627) :
  Calls (ah β) 13 #[.agg #[H,L,Q],.agg (ajG ⟨2,i,j,lb⟩)] w (abh w w.heap.size (dA s ⟨2,i,j,lb⟩)):=by
 obtain⟨C,c,rfl⟩:=cG.form h.lg;obtain⟨A,a,rfl⟩:=cG.form h.pk;obtain⟨B,b,rfl⟩:=cG.form h.sn;go_enter wC,ntmps13;go_wp2;generalize x:((w.alloc (.cells #[.slice A s.pk.length a,.slice B s.sn.length b,.slice C s.lg.length c] 27)).alloc (.cells #[.int .i64 2,.int .i64 i,.int .i64 j,.string lb] 45)).alloc (.cells #[.slice none 0 0,.slice none 0 0,.slice none 0 0] 27)=w0 at *;obtain⟨o,iv,k0,dP,fu,f,O,N,d,E,n⟩:=aiU x;refine(eT s _ _ _ w0 J hi (h.below o K) (bd K o.size) G).mono ?_;rintro e q ⟨v1,v2,v3,rfl,l,r⟩;obtain⟨F,R,rfl⟩:=aZ.form l.pk;obtain⟨I,p,rfl⟩:=aZ.form l.sn;obtain⟨P,M,rfl⟩:=aZ.form l.lg;replace f:=ak f r;replace O:=f.cell;replace N:=f.frozen;replace d:=ak d r;replace E:=d.cell;replace n:=d.frozen;replace o:=ae o r;have z1:=r.size;have y:=aA q (.cells #[.slice F s.pk.length R,.slice I s.sn.length p,.slice P s.lg.length M] 27);have a1:=(ak f y).cell;go_wp2;generalize x:q.alloc (.cells #[.slice F s.pk.length R,.slice I s.sn.length p,.slice P s.lg.length M] 27)=w3 at *;obtain⟨g,S,m0,lJ,a0⟩:=gT x;replace f:=ak f g;replace O:=f.cell;replace N:=f.frozen;replace d:=ak d g;replace E:=d.cell;replace n:=d.frozen;have D:=ae o g;have V:fh w3 w0.heap.size q.heap.size s _ _ _:=⟨dG.av.below l.pk g (am _),dH.av.below l.sn g (am _),dD.av.below l.lg g (am _)⟩;have z3:=g.size;refine(ajY s ⟨2,i,j,lb⟩ rfl _ _ _ w3 w0.heap.size q.heap.size V (by omega) G).mono ?_;rintro e w5 ⟨ua,ub,uc,rfl,t,k⟩;have T:=ak m0 k;have m:=ak d k;have u:=ae D k;have z5:=k.size;have a2:=T.cell;have z:=m.cell;have W:=m.frozen;obtain⟨Z,U,B5,k,X,Y,rfl,rfl,rfl⟩:=t.form;replace t:=ab t;replace u:=ab u;go_wp2;refine oR (v:=.agg #[.slice Z (dA s ⟨2,i,j,lb⟩).pk.length U,.slice B5 (dA s ⟨2,i,j,lb⟩).sn.length k,.slice X (dA s ⟨2,i,j,lb⟩).lg.length Y]) (by simp[results,results13,go_sem,z]) rfl ⟨_,_,_,rfl, ?_, ?_⟩
 .refine t.out.go (λb hb _=>mP _ _ _ _ _ b (by omega)) (by omega) ?_;simp only[dj];omega
 .exact((u.out.setCell (by dsimp only;omega) _).setCell (by dsimp only;omega) _).setCell (by dsimp only;omega) _
def asL(s:dS)(t O:Int)(lb:ByteArray)(va vb vc:Value)(w:World)(lo hi:Nat)(h:lL w lo hi s va vb vc)(bu:hi<=w.heap.size)(hl:lz s<=1099511627) :
  Calls (ah β) 13 #[.agg #[va,vb,vc],.agg (ajG ⟨4,t,O,lb⟩)] w (abh w w.heap.size (dA s ⟨4,t,O,lb⟩)):=by
 obtain⟨C,c,rfl⟩:=cG.form h.lg;obtain⟨_,b2,ad⟩:=h.lg.len_;unfold maxLen at ad;have b1:IntKind.i64.wrap ((s.lg.length:Int)-1)=(s.lg.length:Int)-1:=vV _ (by omega);by_cases V:0<=t/\t<(s.lg.length:Int)
 .rw[abc (l:=⟨4,t,O,lb⟩) rfl V];have jH:(decide (0<=t)&&decide (t<=(s.lg.length:Int)-1))=true:=by rw[fd];exact⟨db V.1,db (by omega)⟩
  have K:=ab jH;obtain⟨m,rfl⟩:=qr V.1;obtain⟨y,W⟩:=ar (l:=s.lg) (k:=m) (by omega);have a7:sj s.lg ((m:Nat):Int).toNat mM=s.lg.set m (mM y):=by
   have:((m:Nat):Int).toNat=m:=by omega
   rw[this,afj W]
  dsimp only;rw[a7];have b0:m<s.lg.length:=by omega
  replace W:=ab W;obtain⟨A,a,rfl⟩:=cG.form h.pk;obtain⟨B,b,rfl⟩:=cG.form h.sn;go_enter wC,ntmps13;go_wp2;generalize I:((w.alloc (.cells #[.slice A s.pk.length a,.slice B s.sn.length b,.slice C s.lg.length c] 27)).alloc (.cells #[.int .i64 4,.int .i64 ((m:Nat):Int),.int .i64 O,.string lb] 45)).alloc (.cells #[.slice none 0 0,.slice none 0 0,.slice none 0 0] 27)=w0 at *;obtain⟨z,iv,k0,dP,fu,f,P,Z,d,R,x⟩:=aiU I;refine(eT s _ _ _ w0 lo hi (h.below z bu) (bd bu z.size) hl).mono ?_;rintro e u ⟨v1,v2,v3,rfl,q,D⟩;obtain⟨F,H,rfl⟩:=aZ.form q.pk;obtain⟨G,i,rfl⟩:=aZ.form q.sn;obtain⟨Q,E,rfl⟩:=aZ.form q.lg;replace f:=ak f D;replace P:=f.cell;replace Z:=f.frozen;replace d:=ak d D;replace R:=d.cell;replace x:=d.frozen;replace z:=ae z D;have z1:=D.size;have J:=aA u (.cells #[.slice F s.pk.length H,.slice G s.sn.length i,.slice Q s.lg.length E] 27);have a9:=(ak f J).cell;go_wp2;generalize I:u.alloc (.cells #[.slice F s.pk.length H,.slice G s.sn.length i,.slice Q s.lg.length E] 27)=w3 at *;obtain⟨n,a3,m0,lJ,a8⟩:=gT I;replace f:=ak f n;replace P:=f.cell;replace Z:=f.frozen;replace d:=ak d n;replace R:=d.cell;replace x:=d.frozen;have N:=ae z n;have o3:fh w3 w0.heap.size u.heap.size s _ _ _:=⟨dG.av.below q.pk n (am _),dH.av.below q.sn n (am _),dD.av.below q.lg n (am _)⟩;have z3:=n.size;refine(gC _ _ _ w3).mono ?_;rintro e w4 ⟨rfl,rfl⟩;rw[K.out];obtain⟨op,os,ol⟩:=o3;have hw:=dD.w ol;obtain⟨g,c',e,aT,aX,b3,af⟩:=OHw.some_ hw (by omega);simp only[pv] at e;obtain⟨rfl, -,rfl⟩:=e;obtain⟨a5,X,an⟩:=OHw.at_ hw W.out;have po:FHd.good (mM y):=by
   refine⟨?_,a5.2⟩;show cA (wrap64 (3-y.b));unfold cA wrap64;omega
  have a2:w3.cell? ⟨u.heap.size,2,none⟩=some (.slice (some ⟨g,0,none⟩) s.lg.length E):=lJ 2;have aa:w3.cell? ⟨w.heap.size+1,1,none⟩=some (.int .i64 ((m:Nat):Int)):=P 1;go_wp2;have aJ:=aj a2;have aL:=aj aa;have bm:=aj X;refine aQ 12 [0,1,2,3,4,5,6,7,8,9,10,11] [] (h:= ?_);simp only[pick,List.map,mT,nf];repeat(go_big_quiet_step (fail))
  refine gt ?_;apply Exists.intro;refine bY ?_;intro Y r xx gI hF;dsimp only[gU] at hF;try rw[gI] at hF
  simp only[List.drop];have zz:=r.size;have a1:=ak af r;have ao:=a1.frozen (m*2);have ax:=bQ r X;have oG:=(ae N r).setCell (p:=⟨g,m*2,none⟩) (by dsimp only;omega) (.int .i64 (wrap64 (3-y.b)));have k5:=eI (ak m0 r) (p:=⟨g,m*2,none⟩) (.int .i64 (wrap64 (3-y.b))) (by dsimp only;omega);have o:=eI (ak d r) (p:=⟨g,m*2,none⟩) (.int .i64 (wrap64 (3-y.b))) (by dsimp only;omega);have S:∀{T:List TypeId} (b:Nat),72∉T->Typed Y T b->(Y.setCell ⟨g,m*2,none⟩ (.int .i64 (wrap64 (3-y.b)))).heap[b]?=Y.heap[b]?:=λb hT U=>qb _ _ _ _ (by rintro rfl;exact kZ a1 hT U);have r5:jv (Y.setCell ⟨g,m*2,none⟩ (.int .i64 (wrap64 (3-y.b)))) w0.heap.size u.heap.size ⟨s.pk,s.sn,s.lg.set m (mM y)⟩ (.slice F s.pk.length H) (.slice G s.sn.length i) (.slice (some ⟨g,0,none⟩) s.lg.length E):=
   ⟨dG.T (dG.av.go (jR:=w0.heap.size) (hi':=u.heap.size) (λb _ _ U=>S b (by decide) U) (am _) (am _) (dG.av.below op r (by omega))),
    dH.T (dH.av.go (jR:=w0.heap.size) (hi':=u.heap.size) (λb _ _ U=>S b (by decide) U) (am _) (am _) (dH.av.below os r (by omega))),
    OHw.T (OHw.put (j:=0) (OHw.av.below hw r (by omega)) W.out (by decide) po rfl)⟩
  have al:=k5.cell;have a0:=o.cell;have a6:=o.frozen;have z5:u.heap.size<=(Y.setCell ⟨g,m*2,none⟩ (.int .i64 (wrap64 (3-y.b)))).heap.size:=by simp only[dj];omega
  have aK:=(ak m0 r).cell;have ay:=(ak d r).cell;have aP:=(ak d r).frozen;have a4:=ab o;have M:=ab r5;have L:=ab oG;go_wp2;refine oR (v:=.agg #[.slice F s.pk.length H,.slice G s.sn.length i,.slice (some ⟨g,0,none⟩) s.lg.length E]) (by simp[results,results13,go_sem,a4.out.cell]) rfl ⟨_,_,_,rfl, ?_, ?_⟩
  .refine M.out.go (λb hb _=>mP _ _ _ _ _ b (by omega)) (by omega) ?_;simp only[dj];omega
  .exact((L.out.setCell (by dsimp only;omega) _).setCell (by dsimp only;omega) _).setCell (by dsimp only;omega) _
 .rw[nR (l:=⟨4,t,O,lb⟩) rfl V];have jH:(decide (0<=t)&&decide (t<=(s.lg.length:Int)-1))=false:=by
   rw[sH];by_cases h0:0<=t
   .exact .inr (bv λh=>V ⟨h0,by omega⟩)
   .exact .inl (bv h0)
  have K:=ab jH;obtain⟨A,a,rfl⟩:=cG.form h.pk;obtain⟨B,b,rfl⟩:=cG.form h.sn;go_enter wC,ntmps13;go_wp2;generalize I:((w.alloc (.cells #[.slice A s.pk.length a,.slice B s.sn.length b,.slice C s.lg.length c] 27)).alloc (.cells #[.int .i64 4,.int .i64 t,.int .i64 O,.string lb] 45)).alloc (.cells #[.slice none 0 0,.slice none 0 0,.slice none 0 0] 27)=w0 at *;obtain⟨z,iv,k0,dP,fu,f,P,Z,d,R,x⟩:=aiU I;refine(eT s _ _ _ w0 lo hi (h.below z bu) (bd bu z.size) hl).mono ?_;rintro e u ⟨v1,v2,v3,rfl,q,D⟩;obtain⟨F,H,rfl⟩:=aZ.form q.pk;obtain⟨G,i,rfl⟩:=aZ.form q.sn;obtain⟨Q,E,rfl⟩:=aZ.form q.lg;replace f:=ak f D;replace P:=f.cell;replace Z:=f.frozen;replace d:=ak d D;replace R:=d.cell;replace x:=d.frozen;replace z:=ae z D;have z1:=D.size;have J:=aA u (.cells #[.slice F s.pk.length H,.slice G s.sn.length i,.slice Q s.lg.length E] 27);have a9:=(ak f J).cell;go_wp2;generalize I:u.alloc (.cells #[.slice F s.pk.length H,.slice G s.sn.length i,.slice Q s.lg.length E] 27)=w3 at *;obtain⟨n,a3,m0,lJ,a8⟩:=gT I;replace f:=ak f n;replace P:=f.cell;replace Z:=f.frozen;replace d:=ak d n;replace R:=d.cell;replace x:=d.frozen;have N:=ae z n;have o3:fh w3 w0.heap.size u.heap.size s _ _ _:=⟨dG.av.below q.pk n (am _),dH.av.below q.sn n (am _),dD.av.below q.lg n (am _)⟩;have z3:=n.size;refine(gC _ _ _ w3).mono ?_;rintro e w5 ⟨rfl,rfl⟩;rw[K.out];have k5:=m0;have o:=d;have oG:=N;have r5:=o3.t;have z5:=z3;have al:=k5.cell;have a0:=o.cell;have a6:=o.frozen;have M:=ab r5;have L:=ab oG;go_wp2;refine oR (v:=.agg #[.slice F s.pk.length H,.slice G s.sn.length i,.slice Q s.lg.length E]) (by simp[results,results13,go_sem,a0]) rfl ⟨_,_,_,rfl, ?_, ?_⟩
  .refine M.out.go (λb hb _=>mP _ _ _ _ _ b (by omega)) (by omega) ?_;simp only[dj];omega
  .exact((L.out.setCell (by dsimp only;omega) _).setCell (by dsimp only;omega) _).setCell (by dsimp only;omega) _
end
section
variable {β:Bool}
open Go.RowKit
def asM(s:dS)(d lm:Int)(lb:ByteArray)(va vb vc:Value)(w:World)(lo hi:Nat)(h:lL w lo hi s va vb vc)(bu:hi<=w.heap.size)(hl:lz s<=1099511627) :
  Calls (ah β) 13 #[.agg #[va,vb,vc],.agg (ajG ⟨1,d,lm,lb⟩)] w (abh w w.heap.size (dA s ⟨1,d,lm,lb⟩)):=by
 rw[pH (l:=⟨1,d,lm,lb⟩) rfl];dsimp only;have a8:=fp (f:=bPk) (l:=s.pk);have b9:s.pk.length<=1099511627:=by unfold lz at hl;omega
 clear a8;obtain⟨C,c,rfl⟩:=cG.form h.lg;obtain⟨A,a,rfl⟩:=cG.form h.pk;obtain⟨B,b,rfl⟩:=cG.form h.sn;go_enter wC,ntmps13;go_wp2;generalize X:((w.alloc (.cells #[.slice A s.pk.length a,.slice B s.sn.length b,.slice C s.lg.length c] 27)).alloc (.cells #[.int .i64 1,.int .i64 d,.int .i64 lm,.string lb] 45)).alloc (.cells #[.slice none 0 0,.slice none 0 0,.slice none 0 0] 27)=w0 at *;obtain⟨S,iv,k0,dP,fu,u,iA,jT,x,mY,O⟩:=aiU X;clear X;refine(eT s _ _ _ w0 lo hi (h.below S bu) (bd bu S.size) hl).mono ?_;rintro e n ⟨v1,v2,v3,rfl,L,b1⟩;obtain⟨A1,a1,rfl⟩:=aZ.form L.pk;obtain⟨B1,z,rfl⟩:=aZ.form L.sn;obtain⟨C1,c1,rfl⟩:=aZ.form L.lg;replace u:=ak u b1;replace iA:=u.cell;replace jT:=u.frozen;replace x:=ak x b1;replace mY:=x.cell;replace O:=x.frozen;replace S:=ae S b1;have z1:=b1.size;clear k0 dP fu;have Y:=aA n (.cells #[.slice A1 s.pk.length a1,.slice B1 s.sn.length z,.slice C1 s.lg.length c1] 27);have ad:=(ak u Y).cell;go_wp2;clear Y ad;generalize X:(n.alloc (.cells #[.slice A1 s.pk.length a1,.slice B1 s.sn.length z,.slice C1 s.lg.length c1] 27)).alloc (.cells #[] 36)=w3 at *;obtain⟨F,ba,m0,lJ,aa,m1,ao,a7⟩:=aeK X;clear X;replace u:=ak u F;replace iA:=u.cell;replace jT:=u.frozen;replace x:=ak x F;replace mY:=x.cell;replace O:=x.frozen;have al:=ae S F;have o3:fh w3 w0.heap.size n.heap.size s _ _ _:=⟨dG.av.below L.pk F (am _),dH.av.below L.sn F (am _),dD.av.below L.lg F (am _)⟩;have z3:=F.size;clear L S F b1;have HO:=ab (show gY OPk 2 36 w3 w0.heap.size (n.heap.size+1) (.slice (some ⟨n.heap.size+1,0,none⟩) 0 0) [] from gY.ahE ⟨_,rfl,am _,m1⟩);have aX:w.heap.size+1+1<n.heap.size:=by omega
 clear m1 ao a7 iA jT mY O lJ aa;go_loopw [6,7] (λoo ii wr=>∃k:Nat,k<=s.pk.length/\ii=.int .i64 k/\gY OPk 2 36 wr w0.heap.size (n.heap.size+1) oo ((s.pk.take k).filter λp=>!(p.no ==d))/\Below (n.heap.size+1) w3 wr) (λ_ ii _=>s.pk.length-(intOf ii).toNat)
 case atStart=>exact⟨0,fa _,rfl,HO.out,gn _ _⟩
 case round=>
  clear HO;obtain⟨k,b2,rfl,J,j⟩:=hrel;obtain⟨E,G,rfl⟩:=J.form;have H:=amq m0 j (by omega);have q1:=amq u j (by omega);have q2:=amq x j (by omega);have zr:=j.size;have cm:wr.cell? ⟨n.heap.size,0,none⟩=some (.slice A1 s.pk.length a1):=H.cell 0;have R:wr.cell? ⟨w.heap.size+1,1,none⟩=some (.int .i64 d):=q1.cell 1;by_cases a9:k<s.pk.length
  .obtain⟨y,dV⟩:=ar a9;have P:=dG.av.below o3.pk j (by omega);obtain⟨g,c',e,b7,bi,b5,aP,aK⟩:=aZ.some_ P (by omega);simp only[pv] at e;obtain⟨rfl, -,rfl⟩:=e;obtain⟨m,m',es,l1,l2,l3,bb,⟨v2,rfl,a4,t⟩,o, -⟩:=aZ.at_ OPk.av (by decide) P dV;obtain⟨A2,c2,rfl⟩:=aZ.form t;have D:wr.cell? ⟨g,k*2,none⟩=some (.int .i64 y.no):=o 0 _ rfl;have a3:wr.cell? ⟨g,k*2+1,none⟩=some (.slice A2 y.its.length c2):=o 1 _ rfl;have HY:=ab dV;have HR:=ab t;have HO:=ab J;have a6:((s.pk.take k).filter λp=>!(p.no ==d)).length<=s.pk.length:=bd (rQ _ _) (by rw[fb];omega);clear o dV t J P aP aK;by_cases hp:y.no=d
   .have t1:(y.no ==d)=true:=mp.2 hp;have r:=adi (p:=λp:Pk=>p.no ==d) HY.out t1;have HF:=ab r;clear r hp;go_wp2;have aJ:=aj cm;have aL:=aj D;have bm:=aj R;refine aQ 9 [0,1,2,3,4,5,6,7,8] [] (h:= ?_);simp only[pick,List.map,mT,nf];repeat(go_big_quiet_step (fail))
    refine gt ?_;clear aJ aL bm;apply Exists.intro;refine bY ?_;intro wz q xx gI K;dsimp only[gU] at K;try rw[gI] at K
    clear gI xx;simp only[List.drop];clear K;have zz:=q.size;go_wp2;go_roundw
    case rel=>exact⟨k+1,by omega,by go_num,by rw[HF.out];exact HO.out.below OPk.av q,j.trans (q.mono (by omega))⟩
    simp[intOf];omega
   .have t1:(y.no ==d)=false:=dq.2 hp;have r:=adh (p:=λp:Pk=>p.no ==d) HY.out t1;have HF:=ab r;clear r hp;go_wp2;have aJ:=aj cm;have aL:=aj D;have bm:=aj R;refine aQ 9 [0,1,2,3,4,5,6,7,8] [] (h:= ?_);simp only[pick,List.map,mT,nf];repeat(go_big_quiet_step (fail))
    refine gt ?_;clear aJ aL bm;apply Exists.intro;refine bY ?_;intro wz q xx gI K;dsimp only[gU] at K;try rw[gI] at K
    clear gI xx;simp only[List.drop];clear K;have zz:=q.size;have b8:=bQ q cm;have bk:=bQ q D;have b4:=bQ q a3;have Q:=ab (HO.out.below OPk.av q);have af:=ab (show OPk wz w0.heap.size wz.heap.size y [.int .i64 y.no,.slice A2 y.its.length c2] from OPk.av.wide (OPk.av.below (⟨_,rfl,a4,HR.out⟩:OPk wr m m' y [.int .i64 y.no,.slice A2 y.its.length c2]) q (by omega)) l1 (by omega));have a2:=ab (j.trans (q.mono (by omega)):Below (n.heap.size+1) w3 wz);clear HO HR cm D a3 R H q1 q2;obtain⟨M,hM⟩:∃M,M=((s.pk.take k).filter λp=>!(p.no ==d)):=⟨_,rfl⟩;rw[<-hM] at Q HF a6 ⊢;clear hM;go_wp2_with(at_builtin;refine jq ?_);refine⟨?_,trivial⟩;refine ajl OPk.av (by decide) rfl (.tmp 32) (.tmp 38) 23 rfl ahU y rfl Q.out rfl rfl (by simp[Value.oneCell']) af.out (by omega) (by have:=a2.out.size;omega) ?_;intro v8 w8 o8 a5 b0;obtain⟨A8,c8,rfl⟩:=o8.form;simp only[ap,ff,ls,jt] at o8;go_wp2;go_roundw
    case rel=>
     refine⟨k+1,by omega,by go_num,by rw[HF.out];exact o8,a2.out.trans (a5.below (by omega) λi hi hs=> ?_)⟩;have:=(Q.out.at_ hs).1;omega
    case measure=>simp[intOf];omega
  .obtain rfl:k=s.pk.length:=by omega
   rw[ge] at J;have V:Below w.heap.size w wr:=al.trans (j.mono (by omega));have Z:bM (λb=>b=n.heap.size) wr (wr.setCell ⟨n.heap.size,0,none⟩ (.slice E (s.pk.filter λp=>!(p.no ==d)).length G)):=(bM.refl (λb=>b=n.heap.size) wr).setCell (p:=⟨n.heap.size,0,none⟩) (.inl rfl) _;have W:=J.fc OPk.av Z (λb hb hs=>by have:=(J.at_ hb).1;omega) (λb _ I hs=>by have an:b=n.heap.size:=hs;subst an;exact kZ H (by decide) I);have oG:=V.setCell (p:=⟨n.heap.size,0,none⟩) (by dsimp only;omega) (.slice E (s.pk.filter λp=>!(p.no ==d)).length G);have a0:=H.cf 0 (.slice E (s.pk.filter λp=>!(p.no ==d)).length G);simp only[de,fi,ga] at a0;have U:=eI q2 (p:=⟨n.heap.size,0,none⟩) (.slice E (s.pk.filter λp=>!(p.no ==d)).length G) (by dsimp only;omega);have N:∀{T:List TypeId} (b:Nat),27∉T->Typed wr T b->(wr.setCell ⟨n.heap.size,0,none⟩ (.slice E (s.pk.filter λp=>!(p.no ==d)).length G)).heap[b]?=wr.heap[b]?:=λb hT I=>qb _ _ _ _ (by rintro rfl;exact kZ H hT I);have r5:jv (wr.setCell ⟨n.heap.size,0,none⟩ (.slice E (s.pk.filter λp=>!(p.no ==d)).length G)) w0.heap.size wr.heap.size ⟨s.pk.filter λp=>!(p.no ==d),s.sn,s.lg⟩ (.slice E (s.pk.filter λp=>!(p.no ==d)).length G) (.slice B1 s.sn.length z) (.slice C1 s.lg.length c1):=by
    refine⟨?_, ?_, ?_⟩
    .have:=gY.sl W (by omega);simpa using this
    .exact tSn.wide (dH.T (dH.av.go (jR:=w0.heap.size) (hi':=n.heap.size) (λb _ _ I=>N b (by decide) I) (am _) (am _) (dH.av.below o3.sn j (by omega)))) (am _) (by omega)
    .exact tHd.wide (dD.T (dD.av.go (jR:=w0.heap.size) (hi':=n.heap.size) (λb _ _ I=>N b (by decide) I) (am _) (am _) (dD.av.below o3.lg j (by omega)))) (am _) (by omega)
   have K5:=ab U;have ay:=ab r5;have ax:=ab oG;have b6:=H.cell;have aT:=H.frozen;have bf:=q2.cell;have b3:=q2.frozen;clear J W U r5 oG a0 N Z H q1 q2 V;go_wp2;refine oR (v:=.agg #[.slice E (s.pk.filter λp=>!(p.no ==d)).length G,.slice B1 s.sn.length z,.slice C1 s.lg.length c1]) (by simp[results,results13,go_sem,K5.out.cell]) rfl ⟨_,_,_,rfl, ?_, ?_⟩
   .refine ay.out.go (λb hb _=>mP _ _ _ _ _ b (by omega)) (by omega) ?_;simp only[dj];omega
   .exact((ax.out.setCell (by dsimp only;omega) _).setCell (by dsimp only;omega) _).setCell (by dsimp only;omega) _
end
section
variable {β:Bool}
open Go.RowKit
def asN(s:dS)(q k:Int)(lb:ByteArray)(bf:lb.size<=maxLen)(va vb vc:Value)(w:World)(lo hi:Nat)(h:lL w lo hi s va vb vc)(bu:hi<=w.heap.size)(hl:lz s<=1099511627) :
  Calls (ah β) 13 #[.agg #[va,vb,vc],.agg (ajG ⟨3,q,k,lb⟩)] w (abh w w.heap.size (dA s ⟨3,q,k,lb⟩)):=by
 rw[abb (l:=⟨3,q,k,lb⟩) rfl];have bo:=fp (f:=bPk) (l:=s.pk);have bI:s.pk.length<=1099511627:=by unfold lz at hl;omega
 obtain⟨C,c,rfl⟩:=cG.form h.lg;obtain⟨A,a,rfl⟩:=cG.form h.pk;obtain⟨B,b,rfl⟩:=cG.form h.sn;go_enter wC,ntmps13;go_wp2;generalize hG:((w.alloc (.cells #[.slice A s.pk.length a,.slice B s.sn.length b,.slice C s.lg.length c] 27)).alloc (.cells #[.int .i64 3,.int .i64 q,.int .i64 k,.string lb] 45)).alloc (.cells #[.slice none 0 0,.slice none 0 0,.slice none 0 0] 27)=w0 at *;obtain⟨aK,iv,k0,dP,fu,I,iA,jT,K,mY,a8⟩:=aiU hG;refine(eT s _ _ _ w0 lo hi (h.below aK bu) (bd bu aK.size) hl).mono ?_;rintro e H ⟨v1,v2,v3,rfl,o1,L⟩;obtain⟨A1,a1,rfl⟩:=aZ.form o1.pk;obtain⟨B1,N,rfl⟩:=aZ.form o1.sn;obtain⟨C1,c1,rfl⟩:=aZ.form o1.lg;replace I:=ak I L;replace iA:=I.cell;replace jT:=I.frozen;replace K:=ak K L;replace mY:=K.cell;replace a8:=K.frozen;replace aK:=ae aK L;have z1:=L.size;have af:=aA H (.cells #[.slice A1 s.pk.length a1,.slice B1 s.sn.length N,.slice C1 s.lg.length c1] 27);have bz:=(ak I af).cell;go_wp2;generalize hG:H.alloc (.cells #[.slice A1 s.pk.length a1,.slice B1 s.sn.length N,.slice C1 s.lg.length c1] 27)=w3 at *;obtain⟨dg,bL,m0,lJ,bw⟩:=gT hG;replace I:=ak I dg;replace iA:=I.cell;replace jT:=I.frozen;replace K:=ak K dg;replace mY:=K.cell;replace a8:=K.frozen;have b3:=ae aK dg;have o3:fh w3 w0.heap.size H.heap.size s _ _ _:=⟨dG.av.below o1.pk dg (am _),dH.av.below o1.sn dg (am _),dD.av.below o1.lg dg (am _)⟩;have z3:=dg.size;obtain⟨op,os,ol⟩:=o3;have HO:=ab op;have bi:w.heap.size+1+1<w0.heap.size:=by omega
 go_loopw [8] (λii wr=>∃j:Nat,j<=s.pk.length/\ii=.int .i64 j/\dG wr w0.heap.size H.heap.size (mN (jE ⟨3,q,k,lb⟩) s.pk j) [.slice A1 s.pk.length a1]/\bM (λb=>w0.heap.size<=b/\b<H.heap.size/\Typed w3 [48] b) w3 wr) (λii _=>s.pk.length-(intOf ii).toNat)
 case atStart=>exact⟨0,fa _,rfl,by rw[alX];exact HO.out,bM.refl _ _⟩
 case round=>
  obtain⟨j,hj,rfl,ho,G⟩:=hrel;have zr:=G.size;have q0:=bq m0 G λJ=>by omega
  have q1:=bq I G λJ=>by omega
  have q2:=bq K G λJ=>by omega
  have cm:wr.cell? ⟨H.heap.size,0,none⟩=some (.slice A1 s.pk.length a1):=q0.cell 0;have a5:wr.cell? ⟨w.heap.size+1,1,none⟩=some (.int .i64 q):=q1.cell 1;have M:wr.cell? ⟨w.heap.size+1,2,none⟩=some (.int .i64 k):=q1.cell 2;have b0:wr.cell? ⟨w.heap.size+1,3,none⟩=some (.string lb):=q1.cell 3;by_cases an:j<s.pk.length
  .obtain⟨x,eu⟩:=ar an;have aT:=agG (jE ⟨3,q,k,lb⟩) eu;have aP:=apz (jE ⟨3,q,k,lb⟩) s.pk j;obtain⟨g,c',e,bx,bS,bt,bl,c0⟩:=aZ.some_ ho (by rw[aP];omega);simp only[pv] at e;obtain⟨rfl, -,rfl⟩:=e;have HX:=ab eu;have ba:=ab aT;have z:=afk (jE ⟨3,q,k,lb⟩) eu;replace z:=ab z;obtain⟨m,m',es,l1,l2,l3,bO,⟨v2,rfl,ad,n⟩,F,a4⟩:=aZ.at_ OPk.av (by decide) ho ba.out;obtain⟨A2,c2,rfl⟩:=aZ.form n;obtain⟨_,mo,nD⟩:=(adH.l n).len_;unfold maxLen at nD;have O:wr.cell? ⟨g,j*2,none⟩=some (.int .i64 x.no):=F 0 _ rfl;have Q:wr.cell? ⟨g,j*2+1,none⟩=some (.slice A2 x.its.length c2):=F 1 _ rfl;replace n:=ab n;replace a4:=ab a4;by_cases R:x.no=q
   .have t1:(x.no ==q)=true:=mp.2 R;replace R:=ab R;by_cases E:0<=k/\k<(x.its.length:Int)
    .have jH:(decide (0<=k)&&decide (k<=(x.its.length:Int)-1))=true:=by rw[fd];exact⟨db E.1,db (by omega)⟩
     have W:=ab jH;replace E:=ab E;have b1:IntKind.i64.wrap ((x.its.length:Int)-1)=(x.its.length:Int)-1:=vV _ (by omega);go_wp2;have aJ:=aj cm;have aL:=aj O;have bm:=aj Q;have gK:=aj a5;have a7:=aj M;refine aQ 22 [0,1,2,3,4,5,6,7,8,9,10,11,12,13,14,15,16,17,18,19] [20,21] (h:= ?_);simp only[pick,List.map,mT,nf];repeat(go_big_quiet_step (fail))
     refine gt ?_;apply Exists.intro;apply gF (.bool true)
     .intro y o Qx d;replace d:=ab d;go_wp2;refine(gC _ _ _ y.to).mono ?_;rintro e wy ⟨rfl,rfl⟩;rw[W.out];go_wp2;exact d.out _ (gn _ _)
     apply gF (.bool true)
     .intro y o Qx d;replace d:=ab d;go_wp2;exact d.out _ (gn _ _)
     simp only[Act.put,de,fi,ga];refine bY ?_;intro wz r xx gI o;dsimp only[gU] at o;try rw[gI] at o
     simp only[List.drop];have zz:=r.size;obtain⟨U,a3⟩:=qr E.out.1;have b4:U<x.its.length:=by have:=E.out.2;omega
     obtain⟨y,dV⟩:=ar b4;obtain⟨gi,ci,ei,al,b6,br,bb,b5⟩:=aZ.some_ n.out (by omega);simp only[pv] at ei;obtain⟨rfl, -,rfl⟩:=ei;have ay:=bQ r cm;have bT:=bQ r O;have ao:=bQ r Q;have a6:=bQ r M;have aX:=bQ r b0;have b9:k=((U:Nat):Int):=a3;have V:jE ⟨3,q,k,lb⟩ x=⟨x.no,x.its.set U ⟨y.n,lb⟩⟩:=by
      unfold jE;rw[dl ⟨R.out,E.out.1,E.out.2⟩,afj (x:=y) (by dsimp only;rw[a3];exact dV)];dsimp only;rw[a3];rfl
     replace V:=ab V;rw[b9] at a6;go_wp2;have aJ:=aj ay;have aL:=aj ao;have bm:=aj a6;have gK:=aj aX;refine aQ 10 [0,1,2,3,4,5,6,7,8,9] [] (h:= ?_);simp only[pick,List.map,mT,nf];repeat(go_big_quiet_step (fail))
     refine gt ?_;apply Exists.intro;refine bY ?_;intro wy hy xx gI o;dsimp only[gU] at o;try rw[gI] at o
     simp only[List.drop];have zy:=hy.size;have L:=ae r hy;have D:=adH.av.below n.out L (by omega);obtain⟨n1,n2,bp, -, -, -, -,⟨rfl,bk⟩,ax, -⟩:=aZ.at_ (cx.av oL) (by decide) D dV;have bV:wy.cell? ⟨gi,U*2+1,none⟩=some (.string y.b):=ax 1 _ rfl;have bR:=aZ.frozen D (U*2+1);have aa:=aZ.put (j:=1) (u:=.string lb) (cx.av oL) (by decide) D dV (y:=(⟨y.n,lb⟩:It)) (by decide) rfl (λw' lo hi es hh=>⟨by rw[hh.1];rfl,hh.2.1,bf⟩);have b8:Typed wr [48] gi:=⟨_,qR,bb,b5⟩;have a9:bM (λb=>m<=b/\b<m'/\Typed wr [48] b) wr (wy.setCell ⟨gi,U*2+1,none⟩ (.string lb)):=
      (bM.bF (S:=λb=>m<=b/\b<m'/\Typed wr [48] b) L).setCell (p:=⟨gi,U*2+1,none⟩) (.inl ⟨al,b6,b8⟩) (.string lb)
     have P:=a4.out _ ⟨x.no,x.its.set U ⟨y.n,lb⟩⟩ a9 ⟨.slice (some ⟨gi,0,none⟩) x.its.length c2,rfl,ad,aa⟩;rw[<-V.out,z.out] at P;have a2:=G.trans a9 λb hb J=>⟨by omega,by omega,alM G (T:=[48]) (λt ht=>ht) (show b<H.heap.size by omega) (by omega) (λhs=>hs.2.2) J.2.2⟩;replace P:=ab P;replace a2:=ab a2;go_wp2;go_roundw
     case rel=>exact⟨j+1,by omega,by go_num,P.out,a2.out⟩
     simp[intOf];omega
    .have jH:(decide (0<=k)&&decide (k<=(x.its.length:Int)-1))=false:=by
      rw[sH];by_cases h0:0<=k
      .exact .inr (bv λh=>E ⟨h0,by omega⟩)
      .exact .inl (bv h0)
     have W:=ab jH;replace E:=ab E;have b1:IntKind.i64.wrap ((x.its.length:Int)-1)=(x.its.length:Int)-1:=vV _ (by omega);go_wp2;have aJ:=aj cm;have aL:=aj O;have bm:=aj Q;have gK:=aj a5;have a7:=aj M;refine aQ 22 [0,1,2,3,4,5,6,7,8,9,10,11,12,13,14,15,16,17,18,19] [20,21] (h:= ?_);simp only[pick,List.map,mT,nf];repeat(go_big_quiet_step (fail))
     refine gt ?_;apply Exists.intro;apply gF (.bool false)
     .intro y o Qx d;replace d:=ab d;go_wp2;refine(gC _ _ _ y.to).mono ?_;rintro e wy ⟨rfl,rfl⟩;rw[W.out];go_wp2;exact d.out _ (gn _ _)
     apply gF (.bool false)
     .intro y o Qx d;replace d:=ab d;go_wp2;exact d.out _ (gn _ _)
     simp only[Act.put,de,fi,ga];refine bY ?_;intro wz r xx gI o;dsimp only[gU] at o;try rw[gI] at o
     simp only[List.drop];have zz:=r.size;have a0:=afl (jE ⟨3,q,k,lb⟩) HX.out (ajH (λh=>E.out h.2));have HS:=ab a0;have iU:=dG.av.below ho r (by omega);have Y:=G.trans (bM.bF (S:=λ_=>False) r) λ_ _ h=>h.elim;have X:=ab iU;have Z:=ab Y;go_wp2;go_roundw
     case rel=>exact⟨j+1,by omega,by go_num,by rw[HS.out];exact X.out,Z.out⟩
     simp[intOf];omega
   .have t1:(x.no ==q)=false:=dq.2 R;replace R:=ab R;go_wp2;have aJ:=aj cm;have aL:=aj O;have bm:=aj Q;have gK:=aj a5;have a7:=aj M;refine aQ 22 [0,1,2,3,4,5,6,7,8,9,10,11,12,13,14,15,16,17,18,19] [20,21] (h:= ?_);simp only[pick,List.map,mT,nf];repeat(go_big_quiet_step (fail))
    refine gt ?_;apply Exists.intro;apply gF (undef)
    .intro y o Qx d;replace d:=ab d;go_wp2;exact d.out _ (gn _ _)
    apply gF (.bool false)
    .intro y o Qx d;replace d:=ab d;go_wp2;exact d.out _ (gn _ _)
    refine bY ?_;intro wz r xx gI o;dsimp only[gU] at o;try rw[gI] at o
    simp only[List.drop];have zz:=r.size;have a0:=afl (jE ⟨3,q,k,lb⟩) HX.out (ajH (λh=>R.out h.1));have HS:=ab a0;have iU:=dG.av.below ho r (by omega);have Y:=G.trans (bM.bF (S:=λ_=>False) r) λ_ _ h=>h.elim;have X:=ab iU;have Z:=ab Y;go_wp2;go_roundw
    case rel=>exact⟨j+1,by omega,by go_num,by rw[HS.out];exact X.out,Z.out⟩
    simp[intOf];omega
  .obtain rfl:j=s.pk.length:=by omega
   rw[apy] at ho;have o2:=dH.av.go (w':=wr) (jR:=w0.heap.size) (hi':=H.heap.size) (λb L b2 ht=>G.block b (by omega) λJ=>agF ht (by decide) J.2.2) (am _) (am _) os;have o3:=dD.av.go (w':=wr) (jR:=w0.heap.size) (hi':=H.heap.size) (λb L b2 ht=>G.block b (by omega) λJ=>agF ht (by decide) J.2.2) (am _) (am _) ol;have oG:Below w.heap.size w wr:=b3.trans (G.below (by omega) λi hi J=>by omega);have r5:jv wr w0.heap.size H.heap.size ⟨s.pk.map (jE ⟨3,q,k,lb⟩),s.sn,s.lg⟩ (.slice A1 s.pk.length a1) (.slice B1 s.sn.length N) (.slice C1 s.lg.length c1):=⟨dG.T ho,dH.T o2,dD.T o3⟩;have bC:=q0.cell;have b7:=q2.cell;have bn:=q2.frozen;have z5:H.heap.size<=wr.heap.size:=by omega
   replace r5:=ab r5;replace oG:=ab oG;go_wp2;refine oR (v:=.agg #[.slice A1 s.pk.length a1,.slice B1 s.sn.length N,.slice C1 s.lg.length c1]) (by simp[results,results13,go_sem,b7]) rfl ⟨_,_,_,rfl, ?_, ?_⟩
   .refine r5.out.go (λb hb _=>mP _ _ _ _ _ b (by omega)) (by omega) ?_;simp only[dj];omega
   .exact((oG.out.setCell (by dsimp only;omega) _).setCell (by dsimp only;omega) _).setCell (by dsimp only;omega) _
def adM(s:dS)(l:lG)(a d c:Value)(w:World)(e hi:Nat)(h:lL w e hi s a d c)(g:hi<=w.heap.size)(f:lz s<=1099511627)(q:l.b.size<=maxLen) :
  Calls (ah β) 13 #[.agg #[a,d,c],.agg (ajG l)] w (abh w w.heap.size (dA s l)):=by
 obtain⟨k,n,m,b⟩:=l;by_cases j:k=1
 .subst j;exact asM s n m b a d c w e hi h g f
 by_cases i:k=2
 .subst i;exact asJ s n m b a d c w e hi h g f
 by_cases o:k=3
 .subst o;exact asN s n m b q a d c w e hi h g f
 by_cases p:k=4
 .subst p;exact asL s n m b a d c w e hi h g f
 rw[abd (l:=⟨k,n,m,b⟩) j i o p];exact asI s k n m b j i o p a d c w e hi h g f
end
section
variable {β:Bool}
open Go.RowKit
def ahg(key:Int)(j:1<=key/\key<=99)(l:List Pk)(B C:Option Addr)(z b M J:Nat)(v:Value)(w:World)(H hi:Nat)(h:jM w H hi l [v])(K:hi<=w.heap.size)(hl:l.length<=100000000) :
  Calls (ah β) 5 #[.int .i64 key,.agg #[v,.slice B z b,.slice C M J]] w (an5 w (ko key l)):=by
 obtain⟨A,c,rfl⟩:=h.form;obtain⟨_,hc,R⟩:=h.len_;unfold maxLen at R;go_enter qF5,ntmps5;go_wp2;generalize r:w.alloc (.cells #[.slice A l.length c,.slice B z b,.slice C M J] 27)=w0 at *;obtain⟨s,iv,k0,dP,fu⟩:=gT r;have h0:=jM.av.below h s K;have z0:=s.size;go_loopw [5,11] (λoo i wr=>∃k:Nat,k<=l.length/\i=.int .i64 k/\aH fM 3 wr w.heap.size oo (ko key (l.take k))/\Below w.heap.size w wr) (λ_ i _=>l.length-(intOf i).toNat)
 case atStart=>exact⟨0,fa _,rfl,aH.nil _ _ _,s⟩
 case round=>
  obtain⟨k,hk,rfl,f,a⟩:=hrel;obtain⟨T,Q,rfl⟩:=f.form;have zr:=a.size;by_cases t:k<l.length
  .obtain⟨p,o⟩:=ar t;have V:=jM.av.below h a K;obtain⟨b1,W,X,Y,rfl, -, -,a2,O,a0,S⟩:=aaw V o;have d:=aer key (l.take k);rw[fb] at d;obtain⟨q,u⟩:=lM (lK key p);go_wp2;generalize r:wr.alloc (.cells #[.int .i64 p.no,.slice X p.its.length Y] 36)=wa at *;obtain⟨E,a1,m,G,x⟩:=gT r;have HI:=iM.av.below S E (by omega);refine(mF (β:=β) key j p _ wa H hi (by omega) HI q u).mono ?_;rintro e w5 ⟨rfl,I⟩;replace m:=ak m I;replace G:=m.cell;replace x:=m.frozen;have D:=ae E I;replace f:=f.below D;replace a:=ae a D;have U:=G 0;cases q with
   |true=>
    have g:=aet o (u.1 rfl);have HST:=ab g;go_wp2;go_roundw
    case rel=>exact⟨k+1,by omega,by go_num,by rw[HST.out];exact f,a⟩
    simp[intOf];omega
   |false=>
    have g:=ahh o (λh=>by have:=u.2 h;cases this);have HST:=ab g;revert f;revert HST;revert d;generalize ko key (l.take k)=L;intro d HST f;have P:=ab d;have HO:=ab f;go_wp2_with(at_builtin;refine bN (F:=fM) (v:=.slice T L.length Q) rfl (.tmp 19) (.tmp 22) 30 rfl kO p.no rfl HO.out rfl rfl (by have:=P.out;omega) a.size ?_;intro v8 w8 y n N;obtain⟨A8,c8,rfl⟩:=y.form;simp only[ap,ff,ls,jt] at y);go_roundw
    case rel=>exact⟨k+1,by omega,by go_num,by rw[HST.out];exact y,a.trans (n.below a.size λi hi Z=>by have:=(HO.out.at_ Z).1;omega)⟩
    simp[intOf];omega
  .obtain rfl:k=l.length:=by omega
   rw[ge] at f ⊢;go_wp2;go_ret;exact⟨_,rfl,f,a⟩
def aeq(key:Int)(l:List Pk)(B C:Option Addr)(t b H y:Nat)(v:Value)(w:World)(J hi:Nat)(h:jM w J hi l [v])(Y:hi<=w.heap.size)(hl:l.length<=100000000) :
  Calls (ah β) 7 #[.int .i64 key,.agg #[v,.slice B t b,.slice C H y]] w (an5 w (ko key l)):=by
 obtain⟨A,c,rfl⟩:=h.form;obtain⟨_,hc,T⟩:=h.len_;unfold maxLen at T;go_enter qF7,ntmps7;go_wp2;generalize S:(w.alloc (.cells #[.slice A l.length c,.slice B t b,.slice C H y] 27)).alloc (.cells #[] 3)=w0 at *;obtain⟨V,iv,g,I,O,X,iA,jT⟩:=aeK S;have o0:aH fM 3 w0 w.heap.size (.slice (some ⟨w.heap.size+1,0,none⟩) 0 0) []:=aH.ahE ⟨_,rfl,by omega,X⟩;go_loopw [5,6] (λM i wr=>∃k:Nat,k<=l.length/\i=.int .i64 k/\aH fM 3 wr w.heap.size M (ko key (l.take k))/\bW wr w.heap.size 27 #[.slice A l.length c,.slice B t b,.slice C H y]/\(∀b,M.ownBlock=some b->w.heap.size<b)/\Below w.heap.size w wr) (λ_ i _=>l.length-(intOf i).toNat)
 case atStart=>exact⟨0,fa _,rfl,o0,g,(by intro b e;cases e;exact Nat.lt_succ_self _),V⟩
 case round=>
  obtain⟨k,hk,rfl,j,g,f,a⟩:=hrel;obtain⟨W,R,rfl⟩:=j.form;have zr:=a.size;have I:=g.cell 0;by_cases x:k<l.length
  .obtain⟨p,s⟩:=ar x;have K:=jM.av.below h a Y;obtain⟨b1,a0,A5,c5,rfl, -, -,a1,u,G,U⟩:=aaw K s;have d:=aer key (l.take k);rw[fb] at d;obtain⟨q,z⟩:=lM (lK key p);go_wp2;refine(afa key p _ wr J hi (by omega) U q z).mono ?_;rintro e w5 ⟨rfl,r⟩;replace g:=ak g r;replace I:=g.cell;replace O:=g.frozen;replace j:=j.below r;have E:=jM.av.below K r (by omega);obtain⟨b2,mE,A6,c6,Z, -, -, -,u,G,P⟩:=aaw E s;cases Z;replace a:=ae a r;have z5:=r.size;cases q with
   |true=>
    have m:=aet s (z.1 rfl);have HST:=ab m;go_wp2;go_roundw
    case rel=>exact⟨k+1,by omega,by go_num,by rw[HST.out];exact j,g,f,a⟩
    simp[intOf];omega
   |false=>
    have m:=ahh s (λh=>by have:=z.2 h;cases this);have HST:=ab m;revert j;revert HST;revert d;revert f;generalize ko key (l.take k)=L;intro f d HST j;have Q:=ab d;have HO:=ab j;go_wp2_with(at_builtin;refine bN (F:=fM) (v:=.slice W L.length R) rfl (.tmp 23) (.tmp 30) 30 rfl kO p.no rfl HO.out rfl rfl (by have:=Q.out;omega) a.size ?_;intro v8 w8 D n o;obtain⟨A8,c8,rfl⟩:=D.form;simp only[ap,ff,ls,jt] at D o);go_roundw
    case rel=>exact⟨k+1,by omega,by go_num,by rw[HST.out];exact D,bq g n (λe=>by have:=f _ e;omega),(λb N=>(o b N).elim (f b) λh=>by have:=g.lt;omega),a.trans (n.below a.size λi hi hs=>by have:=(HO.out.at_ hs).1;omega)⟩
    simp[intOf];omega
  .obtain rfl:k=l.length:=by omega
   rw[ge] at j ⊢;go_wp2;go_ret;exact⟨_,rfl,j,a⟩
def avz(w:World)(e:Ending)(w':World):Prop:=
 ∃c b a s L,e=.returned (.tuple #[.int .i64 7,.agg #[c,b,a]])/\jv w' w.heap.size w'.heap.size (dA s L) c b a/\eN s/\amh L s.lg.length/\Below w.heap.size w w'
def aep(A:Option Addr)(n c:Nat)(l:List Int)(w:World)(h:cG jw 1 w 0 w.heap.size l [.slice A n c]) :
  Calls (ah β) 4 #[.slice A n c] w (avz w):=by
 go_enter qF4,ntmps4;go_wp2;generalize hG:w.alloc (.cells #[.slice none 0 0,.slice none 0 0,.slice none 0 0] 27)=w0 at *;obtain⟨D,iv,J,dP,fu⟩:=gT hG;refine(ase l A n c w0 0 w.heap.size (anx jw.loc h D (am _)) D.size).mono ?_;rintro e w1 ⟨g,rfl,hr,hg,r⟩;have ao:=hr.lt;replace J:=ak J r;replace dP:=J.cell;replace fu:=J.frozen;replace D:=ae D r;go_wp2;refine(ah8 _ g 0 _ _ w1 hr (by omega)).mono ?_;rintro e E ⟨G,I,M,s,q,rfl,os,t,a2,hq,z⟩;obtain⟨⟨O,W,rfl⟩,⟨P,Q,rfl⟩,V,T,rfl⟩:=os.form;have f:=bq J z (by omega);have z2:=z.size;have z0:=r.size;have B:Below w.heap.size w E:=D.trans (z.below D.size λi hi e=>by have e':i=g:=e;omega);have a0:=ab t;have a3:=t.wf.ll;have X:=ab t.wf.sm;have a8:Hid (lz s<=1099511627):=ab (by have:=X.out.at6;omega);have ax:=aA E (.cells #[.slice O s.pk.length W,.slice P s.sn.length Q,.slice V s.lg.length T] 27);have km:=(bW.new E 27 #[.slice O s.pk.length W,.slice P s.sn.length Q,.slice V s.lg.length T]).cell;go_wp2;generalize hG:E.alloc (.cells #[.slice O s.pk.length W,.slice P s.sn.length Q,.slice V s.lg.length T] 27)=w3 at *;obtain⟨F,aa,m0,lJ,aK⟩:=gT hG;replace f:=ak f F;replace ad:=f.cell;replace ay:=f.frozen;have a1:=os.below F (am _);have a6:=a2.fc (bM.bF (S:=λ_=>False) F) λ_ _ h=>h;have N:=ae B F;have z3:=F.size;have aJ:=nJ (s:=3) (ty:=58) (S:=λb=>b=g) (pre:=[]) (lJ 0) (by dsimp only;omega);have an:=nJ (s:=3) (ty:=58) (S:=λb=>b=g) (pre:=[]) (lJ 1) (by dsimp only;omega);have af:=nJ (s:=3) (ty:=58) (S:=λb=>b=g) (pre:=[]) (lJ 2) (by dsimp only;omega);refine ae5 3 58 (λb=>b=g) [] 6 [0,1,2] [3,4,5] (by kernel_rfl) (by kernel_rfl) (by kernel_rfl) ?_;simp only[pick,List.map,mT,nf];repeat(go_big_quiet_step (fail))
 refine gt ?_;apply Exists.intro;apply ar6 (λv x=>x.done=true/\∃L,v=.agg (ajG L)/\amh L s.lg.length)
 .rfl
 .rfl
 .exact λj hj=>(by cases hj)
 .exact λv x y h k=>⟨(k.from_ h.1).1,h.2⟩
 .intro x _ o Qx a;replace a:=ab a;have a4:=x.till o;go_wp2;refine(ami _ g q _ _ x.to (a6.fc (bM.bF (S:=λ_=>False) a4) λ_ _ h=>h) (by omega) O P V _ W _ Q _ T a3).mono ?_;rintro e wy ⟨L,q2,rfl,m,_,_,a5⟩;go_wp2;exact a.out _ _ (a5.mono λb hb e=>.inl e) ⟨rfl,L,rfl,m⟩
 intro aL;simp only[Act.put,de,fi,ga];apply ar5 (λv x=>x.done=true/\∃L G I M,v=.agg #[G,I,M]/\amh L s.lg.length/\jv x.to E.heap.size x.to.heap.size (dA s L) G I M)
 .rfl
 .exact λv x y ⟨hd,L,G,I,M,e,m,h⟩ k=>⟨(k.from_ hd).1,L,G,I,M,e,m,(h.below (k.from_ hd).2 (am _)).wide (am _) (k.from_ hd).2.size⟩
 .intro x U _ Qx a;replace a:=ab a;obtain⟨o,L,rfl,m⟩:=U.1 (by kernel_rfl);have d:bM (λb=>b=g) w3 x.to:=x.ok.mono λb _ h=>h.2;have Y:=a1.fc d λb h1 h2=>⟨by omega,by omega⟩;have zx:=d.size;have C:L.b.size<=maxLen:=by have:=m.bs;unfold maxLen;omega
  have HL:=ab m;replace C:=ab C;go_wp2;refine(adM s L _ _ _ x.to _ _ Y.t.l (by omega) a8.out C.out).mono ?_;rintro e wy ⟨u5,u6,u7,rfl,r5,a7⟩;go_wp2;exact a.out _ _ a7 ⟨o,L,u5,u6,u7,rfl,HL.out,r5.wide (by omega) (am _)⟩
 intro al;simp only[Act.put,de,fi,ga];apply acO (.int .i64 7)
 .intro x _ _ Qx a;replace a:=ab a;go_wp2;exact a.out _ (gn _ _)
 simp only[Act.put,de,fi,ga];refine ar7 λx U=> ?_;simp only[gU] at U;obtain⟨⟨o,L,xa,xb,xc,rfl,m,R⟩, -⟩:=U;have d:bM (λb=>b=g) w3 x.to:=x.ok.mono λb _ h=>h.2;have u:=bq f d (by omega);have p:Below w.heap.size w x.to:=N.trans (d.below N.size λi hi e=>by have e':i=g:=e;omega);obtain⟨A9,a9,B9,b9,C9,c9,rfl,rfl,rfl⟩:=R.form;have zx:=d.size;have H:=ab (And.intro R (And.intro u (And.intro p m)));revert H zx;generalize x.to=w4;intro zx H;have dP:=H.out.2.1.cell;have fu:=H.out.2.1.frozen;simp only[List.drop];go_wp2;obtain⟨R,u,p,m⟩:=H.out;have K:=((u.cf 0 (.slice A9 (dA s L).pk.length a9)).cf 1 (.slice B9 (dA s L).sn.length b9)).cf 2 (.slice C9 (dA s L).lg.length c9);simp only[de,fi,ga] at K;have c5:=K.cell;have h3:=kC w4 w.heap.size (.slice A9 (dA s L).pk.length a9) (.slice B9 (dA s L).sn.length b9) (.slice C9 (dA s L).lg.length c9);have Z:=R.go (λb r B=>h3.block b B λe=>by have e':b=w.heap.size:=e;omega) (show w.heap.size<=E.heap.size by omega) h3.size;exact oR (v:=.tuple #[.int .i64 7,.agg #[.slice A9 (dA s L).pk.length a9,.slice B9 (dA s L).sn.length b9,.slice C9 (dA s L).lg.length c9]]) (by simp[results,results4,go_sem,c5]) rfl ⟨_,_,_,s,L,rfl,Z,a0.out,m,p.trans (h3.below p.size λi hi e=>by have e':i=w.heap.size:=e;omega)⟩
end
section
variable {β:Bool}
open Go.RowKit
def mQ(s:ByteArray)(f:s.size<=maxLen)(w:World) :
  Calls (ah β) 104 #[.string s] w λe d=>e=.returned (.bool (dE s))/\w=d:=by
 by_cases b:s.size<=40
 .have a:(bs s).all oJ=dE s:=by unfold dE;rw[db b,uy]
  replace a:=ab a;have c:=db (show(s.size:Int)<=40 by omega);go_enter xm,ntmps104;go_wp2;refine(agl s f w).mono ?_;rintro e g ⟨rfl,rfl⟩;rw[a.out];go_wp2;go_ret;exact⟨rfl,rfl⟩
 .have c:=bv (show ¬((s.size:Int)<=40) by omega);have e:dE s=false:=by unfold dE;rw[bv b,uf]
  rw[e];go_enter xm,ntmps104;go_wp2;go_ret;exact⟨rfl,rfl⟩
def amt(s:ByteArray)(p:Nat)(v:3<=p/\p<s.size)(r:s.size<=maxLen)(w:World) :
  Calls (ah β) 179 #[.string s,.int .i64 p] w λe o=>e=.returned (.bool (pD (bs s) p))/\Below w.heap.size w o:=by
 unfold maxLen at r;obtain⟨a,l⟩:∃a,a=p-1:=⟨_,rfl⟩;obtain⟨b,j⟩:∃b,b=p-2:=⟨_,rfl⟩;obtain⟨c,n⟩:∃c,c=p-3:=⟨_,rfl⟩;have m:a<s.size:=by omega
 have f:b<s.size:=by omega
 have i:c<s.size:=by omega
 have y:(p:Int)-1=((a:Nat):Int):=by omega
 have x:(p:Int)-2=((b:Nat):Int):=by omega
 have z:(p:Int)-3=((c:Nat):Int):=by omega
 have t:(p:Int)<=9223372036854775807:=by omega
 have k:pD (bs s) p=((dig (s[a]'m).toNat+2*dig (s[b]'f).toNat+3*dig (s[c]'i).toNat) % 5 ==0):=by unfold pD;rw[<-l,<-j,<-n,aag m,aag f,aag i]
 rw[k];clear l j n k;go_enter xV,ntmps179;go_wp2;refine aQ 21 [0,1,2,3,4,5,6,7,8,9,10,11,12,13,14,15,16,17,18,19,20] [] (h:= ?_);simp only[pick,List.map,mT,nf];repeat(go_big_quiet_step (fail))
 refine gt ?_;apply Exists.intro;refine bY ?_;intro A u q g d;dsimp only[gU] at d;try rw[g] at d
 clear g q;simp only[List.drop];clear d;go_wp2;go_ret;exact⟨aC (by rw[qj];simp only[mp];unfold dig;omega),u⟩
def avA(s:ByteArray)(p:Nat)(C:p<s.size)(E:s.size<=1000000)(w:World) :
  Calls (ah β) 169 #[.string s,.int .i64 p] w λe v=>e=.returned (.int .i64 (oM (bs s) p:Nat))/\Below w.heap.size w v:=by
 have o:s.size<=maxLen:=by unfold maxLen;omega
 go_enter xY,ntmps169;go_wp2;go_loopw [5] (λq wr=>∃k f:Nat,k+f=8/\3<=k/\q=.int .i64 ((p+k:Nat):Int)/\oM (bs s) p=atF (bs s) p f k/\Below w.heap.size w wr) (λq _=>p+8-(intOf q).toNat)
 case atStart=>exact⟨3,5,rfl,by omega,by go_num,rfl,gn _ _⟩
 case round=>
  obtain⟨k,f,z,D,rfl,b,g⟩:=hrel;replace b:=ab b;by_cases B:k<8
  .obtain⟨i,rfl⟩:∃i,f=i+1:=⟨f-1,by omega⟩;have a:atF (bs s) p (i+1) k=if s.size<=p+k then s.size else if pD (bs s) (p+k)=true then p+k else atF (bs s) p i (k+1):=by
    show(if(bs s).length<=p+k then(bs s).length else _)=_;rw[aM]
   have HS:=ab a;obtain⟨d,j⟩:∃m,m=p+k:=⟨_,rfl⟩;rw[<-j] at HS ⊢;have n:3<=d/\d<p+8:=by omega
   have x:=db (show(d:Int)<(p:Int)+8 by omega);by_cases l:s.size<=d
   .have y:=bv (show ¬(d<s.size) by omega);rw[dl l] at HS;have c:=ab (b.out.trans HS.out);have r:=bv (show ¬((p:Int)+8<=(s.size:Int)) by omega);go_wp2;go_ret;exact⟨by rw[c.out];simp,g⟩
   .have y:=db (show d<s.size by omega);rw[be l] at HS;replace j:=ab j;go_wp2;refine(amt s d ⟨n.1,by omega⟩ o wr).mono ?_;rintro e A ⟨rfl,t⟩;cases u:pD (bs s) d with
    |true=>
     have c:=ab (b.out.trans (HS.out.trans (dl u)));go_wp2;go_ret;exact⟨by rw[c.out];rfl,ae g t⟩
    |false=>
     have c:=ab (b.out.trans (HS.out.trans (be (by rw[u];exact qp))));go_wp2;go_roundw
     case rel=>exact⟨k+1,i,by omega,by omega,by have:=j.out;go_num,c.out,ae g t⟩
     simp[intOf];omega
  .obtain rfl:k=8:=by omega
   obtain rfl:f=0:=by omega
   have a:atF (bs s) p 0 8=min (p+8) s.size:=by
    show min (p+8) (bs s).length=_;rw[aM]
   have c:=ab (b.out.trans a);have x:=bv (show ¬(((p+8:Nat):Int)<(p:Int)+8) by omega);by_cases l:p+8<=s.size
   .have r:=db (show(p:Int)+8<=(s.size:Int) by omega);rw[qY l] at c;go_wp2;go_ret;exact⟨by rw[c.out];simp,g⟩
   .have r:=bv (show ¬((p:Int)+8<=(s.size:Int)) by omega);rw[Nat.min_eq_right (by omega)] at c;go_wp2;go_ret;exact⟨by rw[c.out];simp,g⟩
end
section
variable {β:Bool}
open Go.RowKit
def ajZ(s:ByteArray)(w:World) :
  Calls (ah β) 181 #[.string s,.int .u8 47] w λe a=>e=.returned (.int .i64 (Lib.indexByte s.data.toList 47))/\w=a:=by
 go_enter xU,ntmps181;go_wp2;rw[run_callFunc_extern xT (by kernel_rfl) (by kernel_rfl) (by kernel_rfl) (e:=Extern.BytealgIndexByte.indexByte) (by kernel_rfl),Lib.run_indexByteString];simp only[Result.andThen];rw[Oper.upon_value];go_wp2;go_ret;exact⟨rfl,rfl⟩
noncomputable def amu:Code:=gP (f180.body.getD .skip)
def aCY:Code->Code
 |.seq a _=>a
 |c=>c
def asQ:Code->Code
 |.cond _ _ b=>b
 |c=>c
def ayP:Code->Code
 |.block _ b=>b
 |c=>c
noncomputable def aA0:Code:=bZ (bZ (bZ amu))
noncomputable def aA1:Code:=asQ (bZ (asQ (bZ (ayP (aCY (bZ (bZ amu)))))))
noncomputable def xIx:Func:={f180 with body:=some ((Code.region 0 #[⟨some 4,Op.assign (Operand.const (Value.int IntKind.i64 0)),3,"strings.go:28",#[],none⟩] false).seq ((Code.region 1 #[⟨some 14,Op.move (Operand.tmp 1),9,"strings.go:29",#[],none⟩,⟨some 15,Op.call ⟨Callee.builtin Builtin.len,#[Operand.tmp 14],#[9]⟩,3,"strings.go:29",#[⟨0,Ground.data⟩],none⟩,⟨some 5,Op.assign (Operand.tmp 15),3,"strings.go:29",#[⟨1,Ground.data⟩,⟨0,Ground.phase⟩,⟨1,Ground.phase⟩],none⟩] false).seq ((Code.block 0 ((Code.region 2 #[⟨some 17,Op.move (Operand.tmp 5),3,"strings.go:31",#[],none⟩,⟨some 18,Op.binOp BinOp.eql 3 (Operand.tmp 17) (Operand.const (Value.int IntKind.i64 0)) 3,4,"strings.go:31",#[⟨0,Ground.data⟩],none⟩,⟨some 19,Op.move (Operand.tmp 18),4,"strings.go:31",#[⟨1,Ground.data⟩],none⟩,⟨some 20,Op.move (Operand.tmp 1),9,"strings.go:31",#[⟨2,Ground.guard⟩],some (2,false)⟩,⟨some 21,Op.move (Operand.tmp 0),9,"strings.go:31",#[⟨2,Ground.guard⟩],some (2,false)⟩,⟨some 22,Op.binOp BinOp.eql 9 (Operand.tmp 20) (Operand.tmp 21) 9,4,"strings.go:31",#[⟨3,Ground.data⟩,⟨4,Ground.data⟩,⟨2,Ground.guard⟩],some (2,false)⟩,⟨some 23,Op.pick (Operand.tmp 19) (Operand.const (Value.bool true)) (Operand.tmp 22),4,"strings.go:31",#[⟨2,Ground.data⟩,⟨5,Ground.data⟩],none⟩,⟨some 16,Op.assign (Operand.tmp 23),4,"strings.go:31",#[⟨6,Ground.data⟩,⟨2,Ground.chain⟩],none⟩] false).seq (Code.cond (Operand.tmp 16) ((Code.region 3 #[⟨some 4,Op.assign (Operand.const (Value.int IntKind.i64 0)),3,"strings.go:32",#[],none⟩] false).seq Code.ret) ((Code.region 4 #[⟨some 25,Op.move (Operand.tmp 5),3,"strings.go:33",#[],none⟩,⟨some 26,Op.binOp BinOp.eql 3 (Operand.tmp 25) (Operand.const (Value.int IntKind.i64 1)) 3,4,"strings.go:33",#[⟨0,Ground.data⟩],none⟩,⟨some 24,Op.assign (Operand.tmp 26),4,"strings.go:33",#[⟨1,Ground.data⟩],none⟩] false).seq (Code.cond (Operand.tmp 24) ((Code.region 5 #[⟨some 27,Op.move (Operand.tmp 0),9,"strings.go:34",#[],none⟩,⟨some 28,Op.move (Operand.tmp 1),9,"strings.go:34",#[],none⟩,⟨some 29,Op.index 9 (Operand.tmp 28) (Operand.const (Value.int IntKind.i64 0)),5,"strings.go:34",#[⟨1,Ground.data⟩],none⟩,⟨some 30,Op.call ⟨Callee.value (Operand.func 181),#[Operand.tmp 27,Operand.tmp 29],#[9,5]⟩,3,"strings.go:34",#[⟨0,Ground.data⟩,⟨2,Ground.data⟩],none⟩,⟨some 4,Op.assign (Operand.tmp 30),3,"strings.go:34",#[⟨3,Ground.data⟩,⟨3,Ground.chain⟩,⟨0,Ground.phase⟩,⟨1,Ground.phase⟩,⟨2,Ground.phase⟩,⟨3,Ground.phase⟩],none⟩] false).seq Code.ret) aA1))))).seq aA0)))}
def asR:f180.body.map gP=xIx.body:=by
 unfold xIx aA1 aA0 amu gP
 kernel_rfl
def amv:(ah β).funcs[180]?=some xIx:=by
 refine(akT β (by decide) (by decide)).trans ?_;have e:Option.map pf (prog.funcs[180]?)=Option.map pf (some f180):=fk _ func180;rw[e,qh];unfold pf;rw[asR];rfl
@[go_sem] theorem aA2(args:Array Value)(w:World):(callFunc 180 args).run (ah β) w=.ok (.enter 180 args) w:=by
 have a:=cH func180;exact kK amv a rfl args w
def avB(s:ByteArray)(w:World) :
  Calls (ah β) 180 #[.string s,.string ⟨#[47]⟩] w λe g=>e=.returned (.int .i64 (Lib.indexByte s.data.toList 47))/\w=g:=by
 have d:xIx.ntmps=143:=ntmps180;have c:xIx.results=#[.tmp 4]:=results180;by_cases a:s.toList=[47]
 .have f:([47] ==s.toList)=true:=by rw[a];rfl
  have b:Lib.indexByte s.data.toList 47=0:=by
   rw[show s.data.toList=s.toList by rw[qN],a];rfl
  replace b:=ab b;go_enter amv,d;go_wp2;exact oR (v:=.int .i64 0) (by simp[results,c,go_sem]) rfl ⟨by rw[b.out],rfl⟩
 .have f:([47] ==s.toList)=false:=dq.2 λe=>a e.symm;go_enter amv,d;go_wp2;refine(ajZ s w).mono ?_;rintro e i ⟨rfl,rfl⟩;go_wp2;exact oR (v:=.int .i64 (Lib.indexByte s.data.toList 47)) (by simp[results,c,go_sem]) rfl ⟨rfl,rfl⟩
open Classical in
noncomputable def dh(s:ByteArray):ByteArray×ByteArray×Bool:=if Lib.indexByte s.data.toList 47<0 then(s,⟨#[]⟩,false) else(s.extract 0 (Lib.indexByte s.data.toList 47).toNat,s.extract ((Lib.indexByte s.data.toList 47).toNat+1) s.size,true)
def aj0(s:ByteArray):Lib.indexByte s.data.toList 47=-1\/∃k:Nat,Lib.indexByte s.data.toList 47=k/\k<s.size:=by
 rcases Int.lt_or_le (Lib.indexByte s.data.toList 47) 0 with h|h
 .left;have:=Lib.indexByte_ge s.data.toList 47;omega
 .right;obtain⟨k,a⟩:=qr h;refine⟨k,a, ?_⟩;have:=aB (Lib.indexByte_some a).1;rw[qO] at this;exact this
def ayQ(s:ByteArray)(i:s.size<=maxLen)(w:World) :
  Calls (ah β) 170 #[.string s,.string ⟨#[47]⟩] w λe f=>e=.returned (.tuple #[.string (dh s).1,.string (dh s).2.1,.bool (dh s).2.2])/\Below w.heap.size w f:=by
 unfold maxLen at i;have HC:=ab (avB (β:=β) s w);rcases aj0 s with h|⟨k,h,n⟩
 .have b:dh s=(s,⟨#[]⟩,false):=by unfold dh;rw[dl (by omega)]
  have a:=ab b;rw[h] at HC;go_enter xj,ntmps170;go_wp2;refine HC.out.mono ?_;rintro e d ⟨rfl,rfl⟩;go_wp2
  go_ret3
  rw[a.out];exact⟨rfl,gn _ _⟩
 .have b:dh s=(s.extract 0 k,s.extract (k+1) s.size,true):=by unfold dh;rw[be (by omega),h];rfl
  have a:=ab b;rw[h] at HC;have l:=db (show 0<=(k:Int) by omega);go_enter xj,ntmps170;go_wp2;refine HC.out.mono ?_;rintro e d ⟨rfl,rfl⟩;go_wp2;refine aQ 12 [0,1,2,3,4,5,6,7,8,9,10,11] [] (h:= ?_);simp only[pick,List.map,mT,nf];repeat(go_big_quiet_step (fail))
  refine gt ?_;apply Exists.intro;refine bY ?_;intro o j m g c;dsimp only[gU] at c;try rw[g] at c
  simp only[List.drop];go_wp2
  go_ret3
  rw[a.out];exact⟨rfl,j⟩
def aA3(s:ByteArray)(c:s.size<=maxLen)(w:World) :
  Calls (ah β) 148 #[.string s,.string ⟨#[47]⟩] w λe a=>e=.returned (.tuple #[.string (dh s).1,.string (dh s).2.1,.bool (dh s).2.2])/\Below w.heap.size w a:=by
 go_enter ye,ntmps148;go_wp2;refine(ayQ s c w).mono ?_;rintro e d ⟨rfl,b⟩;go_wp2
 go_ret3
 exact⟨rfl,b⟩
def acg(s:ByteArray):Bool:=if h:s.size=1 then nm (s[0]'(by omega)).toNat else false
def pJ(s:ByteArray)(m:s.size<=maxLen)(w:World) :
  Calls (ah β) 149 #[.string s] w λe l=>e=.returned (.bool (acg s))/\w=l:=by
 unfold maxLen at m;by_cases d:s.size=1
 .have a:0<s.size:=by omega
  have k:((s.size:Int) ==1)=true:=by rw[d];rfl
  have b:acg s=nm (s[0]'a).toNat:=by unfold acg;rw[tq d]
  rw[b];clear b;by_cases g:97<=(s[0]'a).toNat
  .by_cases i:(s[0]'a).toNat<=101
   .have e:nm (s[0]'a).toNat=true:=by unfold nm;rw[db g,db i];rfl
    have c:=ab e;clear e;have j:=db (show((s[0]'a).toNat:Int)<=101 by omega);have f:=db (show 97<=((s[0]'a).toNat:Int) by omega);go_enter wG,ntmps149;go_wp2;go_ret;exact⟨by rw[c.out];rfl,rfl⟩
   .have e:nm (s[0]'a).toNat=false:=by unfold nm;rw[bv i,Bool.and_false]
    have c:=ab e;clear e;have j:=bv (show ¬(((s[0]'a).toNat:Int)<=101) by omega);have f:=db (show 97<=((s[0]'a).toNat:Int) by omega);go_enter wG,ntmps149;go_wp2;go_ret;exact⟨by rw[c.out];rfl,rfl⟩
  .have e:nm (s[0]'a).toNat=false:=by unfold nm;rw[bv g,uf]
   have c:=ab e;clear e;have f:=bv (show ¬(97<=((s[0]'a).toNat:Int)) by omega);go_enter wG,ntmps149;go_wp2;go_ret;exact⟨by rw[c.out];rfl,rfl⟩
 .have k:((s.size:Int) ==1)=false:=dq.2 (by omega);have b:acg s=false:=by unfold acg;rw[dif_neg d]
  have n:=ab b;clear b;go_enter wG,ntmps149;go_wp2;go_ret;exact⟨by rw[n.out];rfl,rfl⟩
def acV{s:ByteArray}:acg s=match s.toList with|[a]=>nm a.toNat|_=>false:=by
 have c:=lj s;unfold acg;split
 .rename_i h;rw[h] at c;obtain⟨a,d⟩:=tk.1 c;have:=jG (s:=s) (k:=0) (by omega);rw[d] at this ⊢;simp only[sY,jp] at this;rw[<-this]
 .rename_i h
  match hs:s.toList,c with
  |[],_=>rfl
  |[a],c=>exact absurd c.symm h
  |a::b::l,_=>rfl
def afy{s:ByteArray}:gp s=match s.toList with|[a]=>nm a.toNat|[a,b,c]=>nm a.toNat&&(decide (b=47)&&nm c.toNat)|_=>false:=by
 have e:=lj s;unfold gp;split
 .rename_i h;rw[h] at e;obtain⟨a,m⟩:=tk.1 e;have:=jG (s:=s) (k:=0) (by omega);rw[m] at this ⊢;simp only[sY,jp] at this;rw[<-this]
 .rename_i n;split
  .rename_i j;have i:=jG (s:=s) (k:=0) (by omega);have g:=jG (s:=s) (k:=1) (by omega);have f:=jG (s:=s) (k:=2) (by omega)
   match hs:s.toList,e,i,g,f with
   |[a,b,c],_,i,g,f=>
    simp at i g f;show _=(nm a.toNat&&(decide (b=47)&&nm c.toNat));rw[i,g,f]
    congr 2
    rw[uD,<-sA];exact Iff.rfl
   |[],e,_,_,_=>simp at e;omega
   |[a],e,_,_,_=>simp at e;omega
   |[a,b],e,_,_,_=>simp at e;omega
   |a::b::c::d::l,e,_,_,_=>simp at e;omega
  .rename_i j
   match hs:s.toList,e with
   |[],_=>rfl
   |[a],e=>exact absurd e.symm n
   |[a,b],_=>rfl
   |[a,b,c],e=>exact absurd e.symm j
   |a::b::c::d::l,_=>rfl
def aj1(s:ByteArray)(a b:Nat):(s.extract a b).toList=(s.toList.take b).drop a:=by
 rw[qN,qN,vQ,tG,vw,List.take_drop];by_cases h:a<=b
 .congr 2;omega
 .have:b-a=0:=by omega
  rw[this,rm (by simp;omega),rm (by simp;omega)]
def aj2(s:ByteArray):gp s=(acg (dh s).1&&(!(dh s).2.2||acg (dh s).2.1)):=by
 have hd:s.data.toList=s.toList:=by rw[qN]
 rcases aj0 s with h|⟨k,h,f⟩
 .have i:dh s=(s,⟨#[]⟩,false):=by unfold dh;rw[dl (by omega)]
  rw[i];show _=(acg s&&true);rw[uA,acV,afy];have m:=Lib.indexByte_none h;rw[hd] at m
  match hs:s.toList with
  |[]=>rfl
  |[a]=>rfl
  |[a,b]=>rfl
  |[a,b,c]=>
   have:=m 1;rw[hs] at this;have j:b≠47:=by simpa using this
   show(nm a.toNat&&(decide (b=47)&&nm c.toNat))=false;rw[bv j];simp
  |a::b::c::d::l=>rfl
 .have i:dh s=(s.extract 0 k,s.extract (k+1) s.size,true):=by unfold dh;rw[be (by omega),h];rfl
  rw[i];show _=(acg (s.extract 0 k)&&(false||acg (s.extract (k+1) s.size)));rw[uz,acV,acV,aj1,aj1,afy,qX,<-lj,ge];obtain⟨e,g⟩:=Lib.indexByte_some h;rw[hd] at e g;rw[<-lj] at f
  match hs:s.toList,k,e,g,f with
  |[],_,_,_,f=>simp at f
  |[a],0,e,_,_=>
   simp at e;subst e;rfl
  |[a],k+1,_,_,f=>simp at f
  |[a,b],0,_,_,_=>rfl
  |[a,b],1,_,_,_=>simp
  |[a,b],k+2,_,_,f=>simp at f;omega
  |[a,b,c],0,e,_,_=>
   simp at e;subst e;rfl
  |[a,b,c],1,e,_,_=>
   simp at e;subst e;simp
  |[a,b,c],2,e,g,_=>
   have:=g 1 (by omega);have j:b≠47:=by simpa using this
   simp[j]
  |[a,b,c],k+3,_,_,f=>simp at f;omega
  |a::b::c::d::l,0,_,_,_=>rfl
  |a::b::c::d::l,1,_,_,_=>simp
  |a::b::c::d::l,k+2,_,_,_=>simp
def pK(s:ByteArray)(i:s.size<=maxLen)(w:World) :
  Calls (ah β) 107 #[.string s] w λe l=>e=.returned (.bool (gp s))/\Below w.heap.size w l:=by
 have d:(dh s).1.size<=maxLen/\(dh s).2.1.size<=maxLen:=by
  unfold dh;split
  .exact⟨i,fa _⟩
  .refine⟨?_, ?_⟩
   .show(s.extract _ _).size<=_;rw[<-aM,cF,qc,fb,aM];omega
   .show(s.extract _ _).size<=_;rw[<-aM,cF,qc,fb,aM];omega
 have c:=ab (aj2 s);have HC:=ab (aA3 (β:=β) s i w);generalize dh s=r at c HC d;obtain⟨a,b,q⟩:=r;dsimp only at c HC d;have n:=ab d.1;have m:=ab d.2;go_enter yp,ntmps107;go_wp2;refine HC.out.mono ?_;rintro e g ⟨rfl,f⟩;go_wp2;refine(pJ a n.out g).mono ?_;rintro e o ⟨rfl,rfl⟩;cases k:acg a
 .rw[k] at c;go_wp2;go_ret;exact⟨by rw[c.out];simp,f⟩
 .rw[k] at c;cases q
  .go_wp2;go_ret;exact⟨by rw[c.out];simp,f⟩
  .go_wp2;refine(pJ b m.out g).mono ?_;rintro e o ⟨rfl,rfl⟩;cases j:acg b<;>rw[j] at c<;>clear j
   .go_wp2;go_ret;exact⟨by rw[c.out];simp,f⟩
   .go_wp2;go_ret;exact⟨by rw[c.out];simp,f⟩
end
section
variable {β:Bool}
open Go.RowKit
def an6{s t:ByteArray}(h:s=t):(s.toList ==t.toList)=true:=by subst h;exact sb _
def amw(xs f:List ByteArray)(K N:Value)(w:World)(T hi H O:Nat)(C:dr w T hi xs [K])(I:dr w H O f [N])(D:hi<=w.heap.size)(E:O<=w.heap.size)(q:Bool)(j:q=true↔xs=f) :
  Calls (ah β) 105 #[K,N] w λe R=>e=.returned (.bool q)/\Below w.heap.size w R:=by
 have z:=ab j;clear j;obtain⟨A,c,rfl⟩:=C.form;obtain⟨B,d,rfl⟩:=I.form;obtain⟨_,hc,Z⟩:=C.len_;unfold maxLen at Z;go_enter yr,ntmps105;by_cases a:xs.length=f.length
 .have X:((xs.length:Int) !=f.length)=false:=by rw[tJ];omega
  replace a:=ab a;go_wp2;go_loopw [13] (λi wr=>∃k:Nat,k<=xs.length/\i=.int .i64 k/\xs.take k=f.take k/\Below w.heap.size w wr) (λi _=>xs.length-(intOf i).toNat)
  case atStart=>exact⟨0,fa _,rfl,rfl,gn _ _⟩
  case round=>
   obtain⟨k,hk,rfl,g,b⟩:=hrel;have P:=ab g;clear g;by_cases u:k<xs.length
   .obtain⟨x,p⟩:=ar u;obtain⟨y,r⟩:=ar (l:=f) (k:=k) (by have:=a.out;omega);obtain⟨b1,Y,rfl,_,_,U,L⟩:=kT (dr.av.below C b D) p;obtain⟨b2,mE,rfl,_,_,V,M⟩:=kT (dr.av.below I b E) r;have W:(k:Int)<(f.length:Int):=by have:=a.out;omega
    replace p:=ab p;replace r:=ab r;by_cases g:x=y
    .have Q:=an6 g;have F:xs.take (k+1)=f.take (k+1):=by rw[mx p.out,mx r.out,P.out,g]
     replace F:=ab F;clear g;go_wp2;have G:=aj L;have v:=aj M;refine aG (by kernel_rfl) (by kernel_rfl) ?_;repeat(go_big_quiet_step (fail))
     refine gt ?_;intro S m;have j:=aN m;clear m G v;go_wp2;go_roundw
     case rel=>exact⟨k+1,by omega,by go_num,F.out,ae b j⟩
     simp[intOf];omega
    .have Q:=acE (s:=y) (t:=x) g;have o:q=false:=by
      rw[<-lP,z.out];rintro rfl;exact g (ef (p.out.symm.trans r.out))
     have n:=ab o;clear o g;go_wp2;have G:=aj L;have v:=aj M;refine aG (by kernel_rfl) (by kernel_rfl) ?_;repeat(go_big_quiet_step (fail))
     refine gt ?_;intro S m;have j:=aN m;clear m G v;go_wp2;go_ret;exact⟨aC n.out.symm,ae b j⟩
   .obtain rfl:k=xs.length:=by omega
    have J:q=true:=by
     rw[z.out];have:=P.out
     rwa [ge,qe (by have:=a.out;omega)] at this
    have n:=ab J;clear J;go_wp2;go_ret;exact⟨aC n.out.symm,b⟩
 .have X:((xs.length:Int) !=f.length)=true:=by rw[tY];omega
  have o:q=false:=by
   rw[<-lP,z.out];rintro rfl;exact a rfl
  have n:=ab o;clear o;replace a:=ab a;go_wp2;go_ret;exact⟨aC n.out.symm,gn _ _⟩
end
section
variable {β:Bool}
open Go.RowKit
def avC(p s:ByteArray):(bs p).isPrefixOf (bs s)=true↔p.size<=s.size/\s.extract 0 p.size=p:=by
 rw[List.isPrefixOf_iff_prefix,List.prefix_iff_eq_take,aM];constructor
 .intro h;have a:=fk List.length h;rw[fb,aM,aM] at a;exact⟨by omega,kL (by rw[cF,qX];exact h.symm)⟩
 .rintro⟨-,h⟩;have:=fk bs h;rw[cF,qX] at this;exact this.symm
def aic(s p:ByteArray)(m:s.size<=100)(l:p.size<=100)(w:World)(q:Bool)(k:q=(bs p).isPrefixOf (bs s)) :
  Calls (ah β) 151 #[.string s,.string p] w λe j=>e=.returned (.bool q)/\w=j:=by
 have b:q=true↔p.size<=s.size/\s.extract 0 p.size=p:=by rw[k,avC]
 replace b:=ab b;by_cases f:p.size<=s.size
 .have i:decide (p.size<=s.size)=true:=db f;by_cases d:s.extract 0 p.size=p
  .have g:=an6 d;have a:q=true:=b.out.2 ⟨f,d⟩;have c:=ab a;go_enter wS,ntmps151;go_wp2;go_ret;exact⟨by rw[c.out];rfl,rfl⟩
  .have g:=acE (s:=p) (t:=s.extract 0 p.size) d;have a:q=false:=by
    rw[<-lP,b.out];exact λh=>d h.2
   have c:=ab a;go_enter wS,ntmps151;go_wp2;go_ret;exact⟨by rw[c.out];rfl,rfl⟩
 .have i:decide (p.size<=s.size)=false:=bv f;have a:q=false:=by
   rw[<-lP,b.out];exact λh=>f h.1
  have c:=ab a;go_enter wS,ntmps151;go_wp2;go_ret;exact⟨by rw[c.out];rfl,rfl⟩
def aj3(s p:ByteArray)(d:s.size<=100)(b:p.size<=100)(w:World)(q:Bool)(a:q=(bs p).isPrefixOf (bs s)) :
  Calls (ah β) 110 #[.string s,.string p] w λe c=>e=.returned (.bool q)/\w=c:=by
 replace a:=ab a;go_enter yn,ntmps110;go_wp2;refine(aic s p d b w q a.out).mono ?_;rintro e f ⟨rfl,rfl⟩;go_wp2;go_ret;exact⟨rfl,rfl⟩
def aA4:bs ⟨#[47]⟩=[47]:=rfl
def apQ(y f:Nd)(n:y.p.size<=3)(l:f.p.size<=3)(g:Nat)(w:World)(i:w.cell? ⟨g,0,none⟩=some (.string f.p)) :
  Calls (ah β) 109 #[.agg #[.string y.p,.string y.b],.pointer (some ⟨g,0,none⟩)] w λe j=>e=.returned (.bool (aaq y.p f.p))/\Below w.heap.size w j:=by
 have d:=aA w (.cells #[.string y.p,.string y.b] 89);have k:(w.alloc (.cells #[.string y.p,.string y.b] 89)).cell? ⟨g,0,none⟩=some (.string f.p):=(qv (d.block g (fZ i))).trans i;have a:(y.p++⟨#[47]⟩:ByteArray).size<=100:=by
  rw[<-aM,ik,ap,aM,aA4,oE];omega
 have b:aaq y.p f.p=(bs (y.p++⟨#[47]⟩)).isPrefixOf (bs f.p):=by rw[ik,aA4];unfold aaq;exact Eq.refl _
 replace b:=ab b;replace a:=ab a;go_enter xl,ntmps109;go_wp2;have c:f.p.size<=100:=by omega
 have HC:=aj3 (β:=β) f.p (y.p++⟨#[47]⟩) c a.out (w.alloc (.cells #[.string y.p,.string y.b] 89)) (aaq y.p f.p) b.out;refine HC.mono ?_;rintro e m ⟨rfl,rfl⟩;go_wp2;go_ret;exact⟨rfl,d⟩
def avD:auF (β:=β) 109:=ax1 xl (by kernel_rfl) rfl
def aid(f:Nd)(I:f.p.size<=3)(xs:List Nd)(n:Nat)(Q:n<=xs.length)(t:∀y∈xs.take n,y.p.size<=3)(A:Option Addr)(c g:Nat)(w:World)(L hi:Nat)(h:fC w L hi xs [.slice A xs.length c])(H:hi<=w.heap.size)(C:w.cell? ⟨g,0,none⟩=some (.string f.p)) :
  Calls (ah β) 150 #[.slice A n c,.func (.func 109) #[] #[.pointer (some ⟨g,0,none⟩)]] w λe B=>∃j:Int,e=.returned (.int .i64 j)/\((0<=j/\∃k y,k<n/\xs[k]?=some y/\aaq y.p f.p=true)\/(j=-1/\∀k y,k<n->xs[k]?=some y->aaq y.p f.p=false))/\Below w.heap.size w B:=by
 obtain⟨_,P,K⟩:=h.1.len_;unfold maxLen at K;have s:=fZ C;replace t:=ab t;go_enter yd,ntmps150;go_wp2;go_loopw [8] (λi wr=>∃k:Nat,k<=n/\i=.int .i64 k/\(∀j y,j<k->xs[j]?=some y->aaq y.p f.p=false)/\Below w.heap.size w wr) (λi _=>n-(intOf i).toNat)
 case atStart=>exact⟨0,fa _,rfl,λj y E=>absurd E (sE j),gn _ _⟩
 case round=>
  obtain⟨k,O,rfl,a,q⟩:=hrel;replace a:=ab a;have v:wr.cell? ⟨g,0,none⟩=some (.string f.p):=(qv (q.block g s)).trans C;by_cases p:k<n
  .obtain⟨x,o⟩:=ar (l:=xs) (k:=k) (by omega);obtain⟨b,J,rfl,_,_,F,G,M⟩:=kV (fC.av.below h q H) o;have r:x.p.size<=3:=t.out x (by
    have:(xs.take n)[k]?=some x:=by rw[rB,dl p];exact o
    exact da this)
   replace o:=ab o;have N:=avD (β:=β) (#[.agg #[.string x.p,.string x.b]]++#[.pointer (some ⟨g,0,none⟩)]) wr;go_wp2;refine(apQ x f r I g wr v).mono ?_;rintro e B ⟨rfl,m⟩;replace m:=ae q m;cases d:aaq x.p f.p
   .have z:∀j y,j<k+1->xs[j]?=some y->aaq y.p f.p=false:=λj y E u=>by
     rcases pa j k with D|D
     .exact a.out j y D u
     .obtain rfl:j=k:=by omega
      rw[o.out] at u;cases u;exact d
    replace z:=ab z;go_wp2;go_roundw
    case rel=>exact⟨k+1,by omega,by go_num,z.out,m⟩
    simp[intOf];omega
   .replace d:=ab d;go_wp2;go_ret;exact⟨k,rfl,.inl ⟨by omega,k,x,p,o.out,d.out⟩,m⟩
  .obtain rfl:k=n:=by omega
   go_wp2;go_ret;exact⟨-1,rfl,.inr ⟨rfl,a.out⟩,q⟩
def ov(f:Nd)(l:f.p.size<=3)(xs:List Nd)(n:Nat)(s:n<=xs.length)(b:∀y∈xs.take n,y.p.size<=3)(A:Option Addr)(c g:Nat)(w:World)(i hi:Nat)(h:fC w i hi xs [.slice A xs.length c])(r:hi<=w.heap.size)(p:w.cell? ⟨g,0,none⟩=some (.string f.p)) :
  Calls (ah β) 108 #[.slice A n c,.func (.func 109) #[] #[.pointer (some ⟨g,0,none⟩)]] w λe m=>∃q:Bool,e=.returned (.bool q)/\((q=true/\∃k y,k<n/\xs[k]?=some y/\aaq y.p f.p=true)\/(q=false/\∀k y,k<n->xs[k]?=some y->aaq y.p f.p=false))/\Below w.heap.size w m:=by
 replace b:=ab b;go_enter yo,ntmps108;go_wp2;refine(aid f l xs n s b.out A c g w i hi h r p).mono ?_;rintro e u ⟨j,rfl,t,d⟩;rcases t with⟨o,a⟩|⟨rfl,a⟩
 .have v:decide (0<=j)=true:=db o;replace a:=ab a;go_wp2;go_ret;exact⟨true,rfl,.inl ⟨rfl,a.out⟩,d⟩
 .replace a:=ab a;go_wp2;go_ret;exact⟨false,rfl,.inr ⟨rfl,a.out⟩,d⟩
end
section
variable {β:Bool}
open Go.RowKit
def eP(l:List ByteArray):List UInt8:=l.flatMap λs=>s.data.toList
def agU(l:List ByteArray):(eP l).map UInt8.toNat=ir l:=by
 unfold eP ir;rw[List.map_flatMap];rfl
def afz(l:List ByteArray):∀b∈ir l,b<256:=λb a=>by
 obtain⟨s,_,a⟩:=qg.1 a;exact arb b a
def apR(l:List ByteArray):(⟨(eP l).toArray⟩:ByteArray)=rF (ir l):=kL (by
 rw[anl (afz l),<-agU];rfl)
def abi{l:List ByteArray}{x:ByteArray}(h:l[k]?=some x):eP (l.take (k+1))=eP (l.take k)++x.data.toList:=by
 rw[mx h];unfold eP;rw[rM];simp
def acW:∀{l:List ByteArray},(∀s∈l,s.size<=8)->(eP l).length<=8*l.length
 |[],_=>fa _
 |x::l,h=>by
  have b:=acW (l:=l) λs a=>h s (by simp[a]);have d:=h x (by simp);show(x.data.toList++eP l).length<=_;have c:x.data.toList.length=x.size:=by rw[qO];rfl
  rw[ap,ff];omega
def fS{s:ByteArray}(h:aU (bs s)):1<=s.size/\s.size<=8:=by have:=h.1;rw[aM] at this;exact this
def asS(x:ByteArray):x.data.toList.length=x.size:=by rw[qO];rfl
def aw9(x:ByteArray)(l:List UInt8):Lib.byteCells l++Lib.strCells x=Lib.byteCells (l++x.data.toList):=by
 simp[Lib.byteCells,Lib.strCells]
def ayR(l:List ByteArray)(z:∀s∈l,aU (bs s))(hl:l.length<=2147483647)(v:Value)(w:World)(lo hi:Nat)(h:dr w lo hi l [v])(Y:hi<=w.heap.size) :
  Calls (ah β) 103 #[v,.string ⟨#[]⟩] w λe w'=>e=.returned (.string (rF (ir l)))/\Below w.heap.size w w':=by
 obtain⟨A,c,rfl⟩:=h.form;obtain⟨_,hc,L⟩:=h.len_;unfold maxLen at L;replace z:=ab z;rcases pa l.length 2 with J|nu
 .rcases oS l.length with N|N
  .obtain rfl:=pi.1 N;go_enter wT,ntmps103;go_wp2;exact oR (v:=.string ⟨#[]⟩) (by simp[results,results103,go_sem]) rfl ⟨rfl,gn _ _⟩
  .obtain⟨x,rfl⟩:=tk.1 (show l.length=1 by omega);obtain⟨b,o,rfl,_,_,F,I⟩:=kT h (k:=0) rfl;rw[sU] at I;have R:rF (ir [x])=x:=by show rF (bs x++[])=x;rw[sG,awE]
   replace R:=ab R;go_enter wT,ntmps103;go_wp2;exact oR (v:=.string x) (by simp[results,results103,go_sem]) rfl ⟨by rw[R.out],gn _ _⟩
 .have t0:((l.length:Int) ==0)=false:=dq.2 (by omega);have t1:((l.length:Int) ==1)=false:=dq.2 (by omega);go_enter wT,ntmps103;go_wp2
  go_loop [5,41] (λnn D=>∃k:Nat,k<=l.length/\D=.int .i64 k/\nn=.int .i64 (eP (l.take k)).length/\(eP (l.take k)).length<=8*k) (λ_ D=>l.length-(intOf D).toNat)
  case atStart=>exact⟨0,fa _,rfl,rfl,fa _⟩
  case round=>
   obtain⟨k,hk,rfl,rfl,C⟩:=hrel;by_cases J:k<l.length
   .obtain⟨x,O⟩:=ar J;obtain⟨b,o,rfl,_,_,F,I⟩:=kT h O;have S:=(fS (z.out x (da O))).2;have d:(eP (l.take (k+1))).length=(eP (l.take k)).length+x.size:=by rw[abi O,ap,asS]
    have HST:=ab d;clear d O;obtain⟨n,E⟩:∃n,n=(eP (l.take k)).length:=⟨_,rfl⟩;rw[<-E] at C HST ⊢;clear E;have t3:=bv (show ¬(9223372036854775807-(n:Int)<(x.size:Int)) by omega);go_wp2
    go_round
    case rel=>exact⟨k+1,by omega,by go_num,by rw[HST.out];go_num,by rw[HST.out];omega⟩
    simp[intOf];omega
   .obtain rfl:k=l.length:=by omega
    rw[ge] at C ⊢;obtain⟨n,E⟩:∃n,n=(eP l).length:=⟨_,rfl⟩;rw[<-E] at C ⊢;have HN:=ab E;clear E;go_wp2;generalize u:w.alloc (.cells #[.pointer none,.slice none 0 0] 174)=w0;have V:w0.heap[w.heap.size]?=some (.cells #[.pointer none,.slice none 0 0] 174 (0,0)):=by
     rw[<-u];show(w.heap.push _)[w.heap.size]?=_;rw[qM]
    have B:Below w.heap.size w w0:=by rw[<-u];exact(gn _ w).alloc (am _) _
    refine(ann w.heap.size w.heap.size n w0 (am _) V B.size (by omega)).mono ?_;rintro e w2 ⟨rfl,f,g⟩;replace g:=B.trans g;clear B V u;obtain⟨x,a⟩:=ar (l:=l) (k:=0) (by omega);obtain⟨b,o,rfl,_,_,F,I⟩:=kT (dr.av.below h g Y) a;rw[sU] at I;have S:=(fS (z.out x (da a))).2;have d:x.data.toList=eP (l.take 1):=by rw[abi (k:=0) a];simp[eP]
    have K:1<=x.size:=(fS (z.out x (da a))).1;have T:=ab K;have q:x=l.headD ⟨#[]⟩:=by
     cases l with
     |nil=>simp at a
     |cons y m=>simp at a;rw[a];rfl
    replace q:=ab q;have HST:=ab d;clear d a K;go_wp2;refine(pg w.heap.size w.heap.size [] x w2 (.inr (.of f)) (by show 0+x.size<=_;omega) g.size).mono ?_;rintro e w3 ⟨rfl,t,p⟩;replace p:=g.trans p;have e3:([]:List Value)++Lib.strCells x=Lib.byteCells (eP (l.take 1)):=by
     have:=aw9 x [];rw[rr,HST.out] at this;exact this
    rw[e3] at t;clear g f e3 I HST;go_wp2;have Q:l.length-1+1=l.length:=by omega
    go_loopw [65] (λD wr=>∃k:Nat,k+1<=l.length/\D=.int .i64 k/\Lib.IsBuilderF 174 5 w.heap.size w.heap.size (Lib.byteCells (eP (l.take (k+1)))) wr/\Below w.heap.size w wr) (λD _=>l.length-(intOf D).toNat)
    case atStart=>exact⟨0,by omega,rfl,.inr t,p⟩
    case round=>
     clear t p;obtain⟨k,hk,rfl,f,i⟩:=hrel;have W:(Lib.byteCells (eP (l.take (k+1)))).length<=8*l.length:=by
      rw[rH];refine bd (acW λs hs=>(fS (z.out s (pu hs))).2) ?_;rw[fb];omega
     by_cases a0:k<l.length-1
     .obtain⟨y,M⟩:=ar (l:=l) (k:=k+1) (by omega);obtain⟨b1,a3,U,_,_,a2,d0⟩:=kT (dr.av.below h i Y) M;simp only[jp,qk,qm] at U;obtain⟨rfl,rfl⟩:=U;rw[show o+(k+1)=o+1+k by omega] at d0;have a1:=(fS (z.out y (da M))).2;have d:=abi M;have HST:=ab d;clear d M;go_wp2;refine(pg w.heap.size w.heap.size _ ⟨#[]⟩ wr f (by show _+0<=_;omega) i.size).mono ?_;rintro e w4 ⟨rfl,r,j⟩;replace j:=i.trans j;have X:Lib.byteCells (eP (l.take (k+1)))++Lib.strCells ⟨#[]⟩=Lib.byteCells (eP (l.take (k+1))):=sG _;rw[X] at r;clear f i X;go_wp2;refine(pg w.heap.size w.heap.size _ y w4 (.inr r) (by omega) j.size).mono ?_;rintro e w5 ⟨rfl,H,G⟩;replace G:=j.trans G;rw[aw9,<-HST.out] at H;clear r j;go_wp2;go_roundw
      case rel=>exact⟨k+1,by omega,by go_num,.inr H,G⟩
      simp[intOf];omega
     .obtain rfl:k=l.length-1:=by omega
      rw[Q,ge] at f;have P:eP l≠[]:=by
       intro N;have L:x.data.toList <+: eP l:=by
        obtain⟨y,m,rfl⟩:∃y m,l=y::m:=by
         cases l with
         |nil=>simp at nu
         |cons y m=>exact⟨y,m,rfl⟩
        have e:=q.out;show x.data.toList <+: _;have e:x=y:=e;rw[e];exact⟨eP m,by simp[eP]⟩
       rw[N] at L;have:=List.prefix_nil.1 L;have Z:=asS x;rw[this] at Z;have:=T.out;simp at Z;omega
      have HJ:=ab (apR l);go_wp2;refine(acG w.heap.size w.heap.size (eP l) wr f P).mono ?_;rintro e w5 ⟨rfl, -,G⟩;go_wp2;exact oR (v:=.string ⟨(eP l).toArray⟩) (by simp[results,results103,go_sem]) rfl ⟨by rw[HJ.out],i.trans G⟩
end
section
variable {β:Bool}
open Go.RowKit
def acX:Op->Bool
 |.move .. | .assign .. | .load .. | .slice .. | .buildSlice .. | .store .. =>true
 |.call c=>match c.callee with
  |.builtin .append=>true
  |_=>false
 |_=>false
def asT{P:Program}{o:Oper}(h:acX o.op=true){ρ:Operand->Value}{i:Next}(d:(execOp ρ o).run P w=.ok i w'):(∃v,i=.value v)\/i=.skip:=by
 obtain⟨dst,op,j,k,after,g⟩:=o;cases op<;>simp only[acX,kw] at h
 case call c=>
  obtain⟨a,args,e⟩:=c;cases a with
  |value x=>cases h
  |invoke x n=>cases h
  |builtin b=>
   cases b<;>first
    |(exfalso;cases h;done)
    |(revert d
      simp only[execOp,resolve,invoke,builtin,tu,tS,uk];generalize (Sem.run P (Builtin.append_ _ _ _) w:Result _)=r;cases r with
      |ok v f=>simp only[Result.andThen];intro d;cases d;exact .inl ⟨_,rfl⟩
      |halt x f=>simp[Result.andThen])
 all_goals
  revert d;simp only[execOp,tu,tS]
 all_goals
  first
   |(intro d;cases d;exact .inl ⟨_,rfl⟩)
   |(generalize (Sem.run P _ w:Result _)=r
     cases r with
     |ok v f=>simp only[Result.andThen];intro d;cases d;first|exact .inl ⟨_,rfl⟩|exact .inr rfl
     |halt x f=>simp[Result.andThen])
section
variable {F:Fence} {m:Nat} {P:Program} {Q:Exit->Act->World->Prop} {md:Region.Mode} {ops:Array Oper}
def avE{o:Oper}{a:Act}{r:Result Next}(e:∀b c,r=.ok b c->(∃v,b=.value v)\/b=.skip)(d:∀a w,U a w->S a w)(h:o.upon P a U Q r):o.uponIn F m P a S Q r:=by
 cases r with
 |ok b c=>
  rcases e b c rfl with⟨v,rfl⟩|rfl
  .exact d _ _ h
  .exact d _ _ h
 |halt x c=>cases x<;>first|exact h|exact h.elim
def avF(k:∀f,F.fn f)(p:∀o∈ops,acX o.op=true)(n:¬LetsOut Q)(j:∀a w,U a w->S a w){a:Act}(h:wpOp P ops Q i U a w):wpOpIn F m P ops Q i S a w:=by
 unfold wpOp at h;unfold wpOpIn;cases e:ops[i]? with
 |none=>rw[e] at h;exact j _ _ h
 |some o=>
  rw[e] at h;have b:=p o (qx e);dsimp only at h ⊢;split
  .rename_i d;rw[dl d] at h;rcases h with h|h
   .refine⟨λf _=>k f, ?_⟩;rw[Oper.semAt_plain F _ _ (by intro c g;rw[g] at b;cases b)];exact avE (λr q l=>asT b l) j h
   .exact absurd h.2 n
  .rename_i d;rw[be d] at h;exact⟨λf _=>k f,j _ _ h⟩
def aj4(e:∀f,F.fn f)(d:∀o∈ops,acX o.op=true)(c:¬LetsOut Q):∀(k:Nat) (b:Array Bool) (a:Act) (w:World),wpAny P md ops Q k b a w->wpAnyIn F m P md ops Q k b a w
 |0,_,_,_,h=>h
 |k+1,b,a,w,h=>⟨h.1,λi g=>avF e d c (λa w h=>aj4 e d c k _ a w h) (h.2 i g)⟩
end
section
variable {F:Fence} {m:Nat} {P:Program} {Q:Exit->Act->World->Prop} {X:Type} [Nonempty X] [aW X]
def aj5 (A:∀f,F.fn f) {l:List Oper} (j:(l.all λo=>acX o.op)=true) (s:¬LetsOut Q) {g:Act} (to:X->World) (le:X->X->Prop) (k:∀x,le x x) (n:Nat) (d b:List Nat) (v:P.follows .mixedOrders=true) (z:aiS l n d b=true) (p:aeF l.toArray n g.tmps.size=true)
  (a:X) (c:∀m,m<=n->aW.live m a) (e:∀i,i<n->aW.pend i a) (t:to a=w.drew)
  (h:wpQuiet P l.toArray (λr=>∃x,r=to x) (λy=>∃u,cI P l.toArray to le (wpList P l.toArray Q (l.drop n)) (pick l b) [] u y) ((pick l d).map (·.2)) g):(Code.region Z l.toArray true).wpIn F m P Q g w:=
 wpIn_region_any v (aj4 A (λo q=>jn.1 j o (by simpa using q)) s _ _ _ _ (aiT to le k n d b z p a c e t h))
def afX (r:∀f,F.fn f) {l:List Oper} (d:(l.all λo=>acX o.op)=true) (i:¬LetsOut Q) {c:Act} (n:Nat) (b a:List Nat) (k:P.follows .mixedOrders=true) (q:aiS l n b a=true) (e:aeF l.toArray n c.tmps.size=true)
  (h:wpQuiet P l.toArray (λg=>∃x:gh w,g=x.to) (λp=>∃j:List (iI (gh w)),cI P l.toArray (gh.to (w:=w)) (gh.le (w:=w)) (wpList P l.toArray Q (l.drop n)) (pick l a) [] j p) ((pick l b).map (·.2)) c):(Code.region Z l.toArray true).wpIn F m P Q c w:=
 aj5 r d i (gh.to (w:=w)) (gh.le (w:=w)) gh.le_refl n b a k q e ⟨w.drew,⟨rfl,rfl,rfl,am _,λ_ _=>rfl⟩⟩ (λ_ _=>trivial) (λ_ _=>trivial) rfl h
end
end
end Go.Proofs.YtpbbcfocomejmaaGreatDoor