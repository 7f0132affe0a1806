/- A part. -/
import Derived.Test.YtgjaikdifcbnkaaGreatDoorG7
set_option maxRecDepth 100000
set_option maxHeartbeats 8000000
set_option linter.all false
open Go Go.RowKit Go.Proofs.Tryz Go.Proofs.YtgjaikdifcbnkaaGreatDoor
variable {s:dJ} {x:Hd} {Z fg g hi hi' i k:Nat} {V:Type} {Y X W v:Value} {w w':World} {xs:List Hd} {cs:List Value} {A p:Option Addr} {o:Option (List Nd)}
namespace Go.Proofs.YtgjaikdifcbnkaaGreatDoor
def sW:=@Bool.and_eq_false_iff
def wh:=@Go.IntWalk.i64_in
def wB:=@List.drop_eq_nil_iff
section
variable {β:Bool}
open Go.RowKit
def eY.set(h:eY w Z hi s Y X W){cs:Array Value}(a:aX w g 27 cs)(i:Nat)(u:Value):eY (w.setCell ⟨g,i,none⟩ u) Z hi s Y X W:=
 ⟨cT bH.ar h.pk a (by decide) i u,cT bW.ar h.sn a (by decide) i u,cT dF.ar h.lg a (by decide) i u⟩
def eY.wide(h:eY w Z hi s Y X W)(b:fg<=Z)(a:hi<=hi'):eY w fg hi' s Y X W:=h.go (λ_ _ _=>rfl) b a
def eY.form(h:eY w Z hi s Y X W):(∃A a,Y=.slice A s.pk.length a)/\(∃B b,X=.slice B s.sn.length b)/\∃C c,W=.slice C s.lg.length c:=⟨h.pk.form,h.sn.form,h.lg.form⟩
def eY.fe(h:eY w Z hi s Y X W){S:Nat->Prop}(e:bh S w w')(c:∀b,Z<=b->b<hi->b<w.heap.size/\¬S b):eY w' Z hi s Y X W:=
 h.go (λb d a=>e.block b (c b d a).1 (c b d a).2) (am _) (am _)
def ass{cs:Array Value}(h:cs.size=3):∃a b c,cs=#[a,b,c]:=by
 obtain⟨l⟩:=cs
 match l,h with
 |[a,b,c],_=>exact⟨a,b,c,rfl⟩
def ld(w:World)(g:Nat)(a b c:Value):bh (λx=>x=g) w (((w.setCell ⟨g,0,none⟩ a).setCell ⟨g,1,none⟩ b).setCell ⟨g,2,none⟩ c):=(((bh.refl (λx=>x=g) w).setCell (S:=λx=>x=g) (p:=⟨g,0,none⟩) (.inl rfl) a).setCell (S:=λx=>x=g) (p:=⟨g,1,none⟩) (.inl rfl) b).setCell (S:=λx=>x=g) (p:=⟨g,2,none⟩) (.inl rfl) c
section
variable {w:World} {lo hi g:Nat} {l:List Int} {N s ia ic bk:Nat} {fx:Bool} {ty:TypeId} {n:Nat} {S:Nat->Prop} {pre:List Nat}
def abn(u:Value)(x:aK w lo hi g l N s ia ic bk fx ty n S pre):Prop:=
 ∃d c a q r L H,u=.tuple #[.agg #[d,c,a],.bool q]/\eY x.to L H r d c a/\(∀b,L<=b->b<H->x.free b)/\w.heap.size<=L/\H<=x.to.heap.size/\(q=true->iP r)
def abn.le{u:Value}{x y:aK w lo hi g l N s ia ic bk fx ty n S pre}(h:abn u x)(a:aK.le x y):abn u y:=by
 obtain⟨j,o,k,q,r,L,H,rfl,f,e,p,i,m⟩:=h;exact⟨j,o,k,q,r,L,H,rfl,f.go (λb d c=>a.fe.block b (e b d c).1 (a.not (e b d c))) (am _) (am _),λb d c=>a.free (e b d c),p,ap i a.fe.size,m⟩
def abn.new{r:dJ}{q:Bool}(x:aK w lo hi g l N s ia ic bk fx ty n S pre){w2:World}(d:Below x.to.heap.size x.to w2)(a:eY w2 x.to.heap.size w2.heap.size r Y X W)(j:q=true->iP r)(k:g<w.heap.size)(v:Value):abn (.tuple #[.agg #[Y,X,W],.bool q]) (x.told d v):=by
 have f:=x.ok.size;exact⟨Y,X,W,q,r,_,_,rfl,a,λb o c=>⟨c,by omega,λe=>(by
  obtain⟨_,_,m,_,i⟩:=x.bx b e;have:=i.lt;omega),λe=>(by have:=x.sf b e;omega)⟩,f,am _,j⟩
def ahP(x:aK w lo hi g l N s ia ic bk fx ty n S pre):Prop:=
 x.done=true/\∃b d c a q,x.box=some b/\x.res=some (.tuple #[.agg #[d,c,a],.bool q])/\aX x.to b ty #[d,c,a]
def ahP.le{x y:aK w lo hi g l N s ia ic bk fx ty n S pre}(h:ahP x)(a:aK.le x y):ahP y:=by
 obtain⟨hd,b,d,m,k,q,i,e,j⟩:=h;obtain⟨o,c,f⟩:=a.full hd i j;exact⟨o,b,d,m,k,q,c,a.res _ e,f⟩
end
structure afj (u va vb vc:Value) (q:Bool):Prop where
 eq:u=.tuple #[.agg #[va,vb,vc],.bool q]
 a:∃A m c,va=.slice A m c
 b:∃A m c,vb=.slice A m c
 c:∃A m c,vc=.slice A m c
def afj.of{r:dJ}{q:Bool}(h:eY w Z hi r Y X W):afj (.tuple #[.agg #[Y,X,W],.bool q]) Y X W q:=by
 obtain⟨⟨A,a,rfl⟩,⟨B,b,rfl⟩,C,c,rfl⟩:=h.form;exact⟨rfl,⟨_,_,_,rfl⟩,⟨_,_,_,rfl⟩,⟨_,_,_,rfl⟩⟩
def apr(w:World)(lo hi g:Nat)(l:List Int)(p:Nat)(e:Ending)(w':World):Prop:=
 ∃d c a s q,e=.returned (.agg #[d,c,a])/\eY w' w.heap.size w'.heap.size s d c a/\iP s/\Rd w' lo hi g l q/\q<=p+700/\bh (λb=>b=g) w w'
structure ahQ (w wr:World) (lo hi g:Nat) (l:List Int) (q gs:Nat) (va vb vc tt:Value) (s:dJ) (t:List Nd):Prop where
 k0:aX wr w.heap.size 27 #[.slice none 0 0,.slice none 0 0,.slice none 0 0]
 ks:aX wr gs 27 #[va,vb,vc]
 os:eY wr w.heap.size wr.heap.size s va vb vc
 sv:iP s
 ot:aL mP 79 wr w.heap.size tt t
 ft:lK t
 rd:Rd wr lo hi g l q
 ch:bh (λb=>b=g) w wr
 gs1:w.heap.size<gs
 gw:g<w.heap.size
def ahQ.fe{wr : World}{l:List Int}{q gs : Nat}{t:List Nd}(h:ahQ w wr Z hi g l q gs Y X W v s t)(a:bh (λb=>b=g) wr w')(f:Rd w' Z hi g l fg):ahQ w w' Z hi g l fg gs Y X W v s t:=by
 have k:=h.gw;have c:=h.gs1;exact⟨aQ h.k0 a (by omega),aQ h.ks a (by omega),(h.os.fe a λb c d=>⟨d,by omega⟩).wide (am _) a.size,h.sv,h.ot.fe a λb j e=>by have:=(h.ot.at_ j).1;omega,h.ft,f,h.ch.trans a λi _ e=>e,c,k⟩
def ahQ.tree{wr : World}{l:List Int}{q gs:Nat}{a : Value}{t b:List Nd}(h:ahQ w wr Z hi g l q gs Y X W v s t)(d:aL mP 79 wr w.heap.size a b)(c:lK b):ahQ w wr Z hi g l q gs Y X W a s b:=
 ⟨h.k0,h.ks,h.os,h.sv,d,c,h.rd,h.ch,h.gs1,h.gw⟩
def acs{t:List Nd}(h:lK t):∀x∈t,mP.good x:=aan h
def ahR(l:List Int)(g p R hi:Nat)(w:World)(hr:Rd w R hi g l p)(hp:p<=10000) :
  Calls (ai β) 13 #[.pointer (some ⟨g,0,none⟩)] w (apr w R hi g l p):=by
 have c3:=hr.lt;have cf:=hr.hi_;go_enter Am,ntmps13;go_wp2;have aH:Below w.heap.size w (((((w.alloc (.cells #[.slice none 0 0,.slice none 0 0,.slice none 0 0] 27)).alloc (.cells #[] 59)).alloc (.cells #[] 63)).alloc (.cells #[] 42)).alloc (.cells #[.slice (some ⟨w.heap.size+1,0,none⟩) 0 0,.slice (some ⟨w.heap.size+1+1,0,none⟩) 0 0,.slice (some ⟨w.heap.size+1+1+1,0,none⟩) 0 0] 27)):=cY (cY (cY (cY (av _ _) _) _) _) _;have k0:aX (((((w.alloc (.cells #[.slice none 0 0,.slice none 0 0,.slice none 0 0] 27)).alloc (.cells #[] 59)).alloc (.cells #[] 63)).alloc (.cells #[] 42)).alloc (.cells #[.slice (some ⟨w.heap.size+1,0,none⟩) 0 0,.slice (some ⟨w.heap.size+1+1,0,none⟩) 0 0,.slice (some ⟨w.heap.size+1+1+1,0,none⟩) 0 0] 27)) (w.heap.size) 27 #[.slice none 0 0,.slice none 0 0,.slice none 0 0]:=by
  have G:=bE (bE (bE (bE (aX.new w 27 #[.slice none 0 0,.slice none 0 0,.slice none 0 0]) (.cells #[] 59)) (.cells #[] 63)) (.cells #[] 42)) (.cells #[.slice (some ⟨w.heap.size+1,0,none⟩) 0 0,.slice (some ⟨w.heap.size+1+1,0,none⟩) 0 0,.slice (some ⟨w.heap.size+1+1+1,0,none⟩) 0 0] 27);exact G
 have k1:aX (((((w.alloc (.cells #[.slice none 0 0,.slice none 0 0,.slice none 0 0] 27)).alloc (.cells #[] 59)).alloc (.cells #[] 63)).alloc (.cells #[] 42)).alloc (.cells #[.slice (some ⟨w.heap.size+1,0,none⟩) 0 0,.slice (some ⟨w.heap.size+1+1,0,none⟩) 0 0,.slice (some ⟨w.heap.size+1+1+1,0,none⟩) 0 0] 27)) (w.heap.size+1) 59 #[]:=by
  have G:=bE (bE (bE (aX.new (w.alloc (.cells #[.slice none 0 0,.slice none 0 0,.slice none 0 0] 27)) 59 #[]) (.cells #[] 63)) (.cells #[] 42)) (.cells #[.slice (some ⟨w.heap.size+1,0,none⟩) 0 0,.slice (some ⟨w.heap.size+1+1,0,none⟩) 0 0,.slice (some ⟨w.heap.size+1+1+1,0,none⟩) 0 0] 27);simp only[mx] at G;exact G
 have k2:aX (((((w.alloc (.cells #[.slice none 0 0,.slice none 0 0,.slice none 0 0] 27)).alloc (.cells #[] 59)).alloc (.cells #[] 63)).alloc (.cells #[] 42)).alloc (.cells #[.slice (some ⟨w.heap.size+1,0,none⟩) 0 0,.slice (some ⟨w.heap.size+1+1,0,none⟩) 0 0,.slice (some ⟨w.heap.size+1+1+1,0,none⟩) 0 0] 27)) (w.heap.size+1+1) 63 #[]:=by
  have G:=bE (bE (aX.new ((w.alloc (.cells #[.slice none 0 0,.slice none 0 0,.slice none 0 0] 27)).alloc (.cells #[] 59)) 63 #[]) (.cells #[] 42)) (.cells #[.slice (some ⟨w.heap.size+1,0,none⟩) 0 0,.slice (some ⟨w.heap.size+1+1,0,none⟩) 0 0,.slice (some ⟨w.heap.size+1+1+1,0,none⟩) 0 0] 27);simp only[mx] at G;exact G
 have k3:aX (((((w.alloc (.cells #[.slice none 0 0,.slice none 0 0,.slice none 0 0] 27)).alloc (.cells #[] 59)).alloc (.cells #[] 63)).alloc (.cells #[] 42)).alloc (.cells #[.slice (some ⟨w.heap.size+1,0,none⟩) 0 0,.slice (some ⟨w.heap.size+1+1,0,none⟩) 0 0,.slice (some ⟨w.heap.size+1+1+1,0,none⟩) 0 0] 27)) (w.heap.size+1+1+1) 42 #[]:=by
  have G:=bE (aX.new (((w.alloc (.cells #[.slice none 0 0,.slice none 0 0,.slice none 0 0] 27)).alloc (.cells #[] 59)).alloc (.cells #[] 63)) 42 #[]) (.cells #[.slice (some ⟨w.heap.size+1,0,none⟩) 0 0,.slice (some ⟨w.heap.size+1+1,0,none⟩) 0 0,.slice (some ⟨w.heap.size+1+1+1,0,none⟩) 0 0] 27);simp only[mx] at G;exact G
 have k4:aX (((((w.alloc (.cells #[.slice none 0 0,.slice none 0 0,.slice none 0 0] 27)).alloc (.cells #[] 59)).alloc (.cells #[] 63)).alloc (.cells #[] 42)).alloc (.cells #[.slice (some ⟨w.heap.size+1,0,none⟩) 0 0,.slice (some ⟨w.heap.size+1+1,0,none⟩) 0 0,.slice (some ⟨w.heap.size+1+1+1,0,none⟩) 0 0] 27)) (w.heap.size+1+1+1+1) 27 #[.slice (some ⟨w.heap.size+1,0,none⟩) 0 0,.slice (some ⟨w.heap.size+1+1,0,none⟩) 0 0,.slice (some ⟨w.heap.size+1+1+1,0,none⟩) 0 0]:=by
  have G:=aX.new ((((w.alloc (.cells #[.slice none 0 0,.slice none 0 0,.slice none 0 0] 27)).alloc (.cells #[] 59)).alloc (.cells #[] 63)).alloc (.cells #[] 42)) 27 #[.slice (some ⟨w.heap.size+1,0,none⟩) 0 0,.slice (some ⟨w.heap.size+1+1,0,none⟩) 0 0,.slice (some ⟨w.heap.size+1+1+1,0,none⟩) 0 0];simp only[mx] at G;exact G
 have iz:w.heap.size+5<=(((((w.alloc (.cells #[.slice none 0 0,.slice none 0 0,.slice none 0 0] 27)).alloc (.cells #[] 59)).alloc (.cells #[] 63)).alloc (.cells #[] 42)).alloc (.cells #[.slice (some ⟨w.heap.size+1,0,none⟩) 0 0,.slice (some ⟨w.heap.size+1+1,0,none⟩) 0 0,.slice (some ⟨w.heap.size+1+1+1,0,none⟩) 0 0] 27)).heap.size:=by simp only[mx];omega
 generalize (((((w.alloc (.cells #[.slice none 0 0,.slice none 0 0,.slice none 0 0] 27)).alloc (.cells #[] 59)).alloc (.cells #[] 63)).alloc (.cells #[] 42)).alloc (.cells #[.slice (some ⟨w.heap.size+1,0,none⟩) 0 0,.slice (some ⟨w.heap.size+1+1,0,none⟩) 0 0,.slice (some ⟨w.heap.size+1+1+1,0,none⟩) 0 0] 27))=w0 at *;have cQ:=k0.cell;have dW:=k0.frozen;have cJ:=k1.cell;have dz:=k1.frozen;have fA:=k2.cell;have iN:=k2.frozen;have bf:=k3.cell;have bw:=k3.frozen;have a5:=k4.cell;have cd:=k4.frozen;have aR:eY w0 w.heap.size w0.heap.size ⟨[],[],[]⟩ (.slice (some ⟨w.heap.size+1,0,none⟩) 0 0) (.slice (some ⟨w.heap.size+1+1,0,none⟩) 0 0) (.slice (some ⟨w.heap.size+1+1+1,0,none⟩) 0 0):=
  ⟨eE.aat ⟨_,rfl,by omega,k1⟩ (am _),eE.aat ⟨_,rfl,by omega,k2⟩ (am _),eE.aat ⟨_,rfl,by omega,k3⟩ (am _)⟩
 have af:bh (λb=>b=g) w w0:=bh.aM aH;have b2:=hr.fe (bh.aM (S:=λ_=>False) aH) λ_ _ h=>h;clear k1 k2 k3 cQ cJ fA bf a5 dW dz iN bw cd aH hr;refine(ajS l g p R hi w0 b2 (by omega)).mono ?_;rintro e w1 ⟨vt,t0,q1,rfl,ot,ba,ay,cA,J⟩;have o:ahQ w w1 R hi g l q1 (w.heap.size+1+1+1+1) (.slice (some ⟨w.heap.size+1,0,none⟩) 0 0) (.slice (some ⟨w.heap.size+1+1,0,none⟩) 0 0) (.slice (some ⟨w.heap.size+1+1+1,0,none⟩) 0 0) vt ⟨[],[],[]⟩ t0:=
  ⟨aQ k0 J (by omega),aQ k4 J (by omega),(aR.fe J λb h1 h2=>⟨h2,by omega⟩).wide (am _) J.size,iP.nil,ot.base (by omega),ba,ay,af.trans J λi _ e=>e,by omega,c3⟩
 clear k0 k4 aR af ot ba J b2;obtain⟨k,aF⟩:∃k,k=w.heap.size+1+1+1+1:=⟨_,rfl⟩;rw[<-aF] at o ⊢;clear aF;go_wp2;refine(dm _ _ _ _ _ _ 5 o.rd (by omega)).mono ?_;rintro e w2 ⟨m,rfl,⟨_,hm⟩,b4,ax⟩;have cq:=hm (by omega);obtain⟨mm,rfl⟩:=ql (show 0<=m by omega);have aJ:=ab (o.fe ax b4);clear hm ay b4 ax o;go_wp2;go_loopw [4,5] (λtt jj wr=>∃(j q:Nat) (s:dJ) (t:List Nd) (K M P:Value),j<=4/\jj=.int .i64 j/\ahQ w wr R hi g l q k K M P tt s t/\q+60*j<=p+600) (λ_ jj _=>(intOf jj).toNat)
 case atStart=>exact⟨mm,_,_,_,_,_,_,by omega,rfl,aJ.out,by omega⟩
 case round=>
  clear aJ;obtain⟨j,q,s,t,K,M,P,hj,rfl,o,hq⟩:=hrel;obtain⟨⟨A,a,rfl⟩,⟨B,b,rfl⟩,C,c,rfl⟩:=o.os.form;obtain⟨T,d,rfl⟩:=o.ot.form;have bN:wr.cell? ⟨k,0,none⟩=some (.slice A s.pk.length a):=o.ks.cell 0;have b7:wr.cell? ⟨k,1,none⟩=some (.slice B s.sn.length b):=o.ks.cell 1;have c1:wr.cell? ⟨k,2,none⟩=some (.slice C s.lg.length c):=o.ks.cell 2;have bx:=o.gs1;have bi:=o.gw;have ck:=o.ks.lt;have zr:=o.ch.size;have HD:=ab o;by_cases h0:j=0
  .subst h0;have cQ:=o.k0.cell;have dW:=o.k0.frozen;clear o;go_wp2;have k4:=((HD.out.k0.bj 0 (.slice A s.pk.length a)).bj 1 (.slice B s.sn.length b)).bj 2 (.slice C s.lg.length c);simp only[bv,ef,fd] at k4;have a5:=k4.cell;refine nf (v:=.agg #[.slice A s.pk.length a,.slice B s.sn.length b,.slice C s.lg.length c]) (by simp[results,results13,go_sem,a5]) rfl ⟨_,_,_,s,q,rfl, ?_,HD.out.sv, ?_,by omega, ?_⟩
   .simp only[be];exact((HD.out.os.set HD.out.k0 0 _).set (HD.out.k0.bj 0 _) 1 _).set ((HD.out.k0.bj 0 _).bj 1 _) 2 _
   .exact HD.out.rd.fe (ld _ _ _ _ _) λb F e=>by have:=HD.out.gw;omega
   .exact HD.out.ch.trans (ld _ _ _ _ _) λi hi e=>by omega
  .have t0:=dj (show 0<j by omega);clear o;have rd:=HD.out.rd;go_wp2;refine ak2 (N:=q+12) (s:=10) (ia:=9) (ic:=5) (bk:=wr.heap.size) (fx:=false) (ty:=27) (n:=3) (S:=λ_=>False) (pre:=[]) 12 q [1,4] [0,2,3,5,6,7,8,9,10,11] (by kernel_rfl) (by kernel_rfl) (by kernel_rfl) rd (am _) none (λb F=>by cases F) (λh=>by cases h) (λb F=>F.elim) (λb F=>by cases F) (.inl rfl) ?_;simp only[pick,List.map,gt,gE];repeat(go_big_quiet_step (fail))
   refine io ?_;apply Exists.intro;apply ana (λv=>v=.agg #[.slice A s.pk.length a,.slice B s.sn.length b,.slice C s.lg.length c])
   .rfl
   .intro x _ U f;replace f:=ab f;have ca:=aa9 (x:=x) bN (by show k≠g;omega) (by show k≠_;omega) (λh=>h);have cb:=aa9 (x:=x) b7 (by show k≠g;omega) (by show k≠_;omega) (λh=>h);have cc:=aa9 (x:=x) c1 (by show k≠g;omega) (by show k≠_;omega) (λh=>h);go_wp2;exact f.out _ rfl
   intro ux;simp only[Act.put,bv,ef,fd];apply aup (λv=>∃m:Int,v=.int .i64 m/\0<=m/\m<2)
   .rfl
   .intro x _ hN U f;replace f:=ab f;go_wp2;refine(dm _ _ _ _ _ _ 2 x.rd (by omega)).mono ?_;rintro e wy ⟨m,rfl,⟨_,q1⟩,c5,bt⟩;obtain⟨q2,q3⟩:=q1 (by omega);go_wp2;exact f.out _ _ c5 bt ⟨m,rfl,q2,q3⟩
   intro u2;apply ana (λv=>∃m:Int,v=.int .i64 m/\1<=m/\m<=2)
   .rfl
   .intro x z U f;replace f:=ab f;obtain⟨m,rfl,q1,q2⟩:=z.1 (by kernel_rfl);go_wp2;exact f.out _ ⟨_,rfl,by omega,by omega⟩
   intro u3;apply auq (λv x=>abn v x)
   .rfl
   .rfl
   .exact λv x y h hl=>h.le hl
   .intro x z U f;replace f:=ab f;obtain⟨m3,rfl,i1,i2⟩:=z.1 (by kernel_rfl);cases z.2.2.1 (by kernel_rfl);clear z;have b3:∀b,w.heap.size<=b->b<wr.heap.size->b<wr.heap.size/\¬(b=g\/x.box=some b\/x.done=true/\False):=λb h1 h2=>⟨h2,λe=>by
     rcases e with e|e|e
     .have:=HD.out.gw;omega
     .rcases x.bw b e with e|e<;>omega
     .exact e.2⟩
    have ox:=HD.out.os.fe x.ok b3;have tx:=HD.out.ot.fe x.ok λb F=>(b3 b (HD.out.ot.at_ F).1 (HD.out.ot.at_ F).2).2;have zx:=x.ok.size;have wf:=HD.out.sv.wf;have tr:=(tx.deep (acs HD.out.ft) 0).sl (ff _);go_wp2;refine(ajz 7 (by omega) s m3 (by unfold cE;omega) t (acV HD.out.ft) (by have:=HD.out.ft.2.1;omega) wf.small wf.ep (by have:=wf.ave;omega) _ _ _ _ x.to _ _ 0 x.to.heap.size ox zx tr (am _)).mono ?_;rintro e wy ⟨v1,v2,v3,qq,r,rfl,oy,bl,ao⟩;go_wp2;exact f.out _ _ ao (abn.new x ao oy (λbO=>by
     rcases bl with⟨_,h1,rfl⟩|⟨h1,_⟩
     .exact HD.out.sv.save (by omega) HD.out.ft h1
     .rw[bO] at h1;cases h1) (by have:=HD.out.gw;omega) _)
   intro u5;simp only[Act.put,bv,ef,fd];apply ahk (λv u=>v=u/\∃K M P q,afj u K M P q)
   .rfl
   .intro x z U f;replace f:=ab f;obtain⟨⟨v1,v2,v3,qq,r,L,H,rfl,ho,_⟩,O⟩:=z.1 (by kernel_rfl);clear z;go_wp2;exact f.out _ _ O ⟨rfl,_,_,_,_,afj.of ho⟩
   intro u6;simp only[Act.put,bv,ef,fd];apply ahk (λv u=>∃K M P q,afj u K M P q/\v=.agg #[K,M,P])
   .rfl
   .intro x z U f;replace f:=ab f;obtain⟨u,O,rfl,v1,v2,v3,qq,E⟩:=z.1 (by kernel_rfl);have e:=E.eq;subst e;clear z;go_wp2;exact f.out _ _ O ⟨_,_,_,_,E,rfl⟩
   intro u7;simp only[Act.put,bv,ef,fd];apply ahk (λv u=>∃K M P q,afj u K M P q/\v=.bool q)
   .rfl
   .intro x z U f;replace f:=ab f;obtain⟨u,O,rfl,v1,v2,v3,qq,E⟩:=z.2.1 (by kernel_rfl);have e:=E.eq;subst e;go_wp2;exact f.out _ _ O ⟨_,_,_,_,E,rfl⟩
   intro u8;simp only[Act.put,bv,ef,fd];apply aqU (cs:=#[.slice none 0 0,.slice none 0 0,.slice none 0 0])
   .rfl
   .rfl
   .decide
   .have:=HD.out.gw;omega
   .rfl
   .intro x U f;replace f:=ab f;go_wp2;exact f.out
   intro u9;simp only[Act.put,bv,ef,fd];apply aqV (λx=>ahP x)
   .rfl
   .exact λj hj=>(by cases hj)
   .exact λx y h hl=>h.le hl
   .intro x z bp U f;replace f:=ab f;obtain⟨b6,rfl,ch,a4⟩:=z.1 (by kernel_rfl);obtain⟨u,O,v1,v2,v3,qq,E,rfl⟩:=z.2.2.1 (by kernel_rfl);have e:=E.eq;subst e;obtain⟨X,m1,Z,rfl⟩:=E.a;obtain⟨Y,k1,d1,rfl⟩:=E.b;obtain⟨C1,k2,d2,rfl⟩:=E.c;obtain⟨cw,cW,cs,bz,Q⟩:=x.bx _ a4;obtain⟨ca,cb,cc,rfl⟩:=ass bz;have b7:=Q.cell;have co:=Q.frozen;go_wp2;exact f.out _ a4 _ (ld _ _ _ _ _) _ rfl (((Q.bj 0 _).bj 1 _).bj 2 _) ⟨rfl,_,_,_,_,_,a4,O,((Q.bj 0 _).bj 1 _).bj 2 _⟩
   .rfl
   simp only[Act.put,bv,ef,fd];apply ahk (λv u=>∃K M P q,afj u K M P q/\v=.bool q)
   .rfl
   .intro x z U f;replace f:=ab f;obtain⟨u,O,v1,v2,v3,qq,E,rfl⟩:=z.2.2.1 (by kernel_rfl);go_wp2;exact f.out _ _ O ⟨_,_,_,_,E,rfl⟩
   intro cB;simp only[Act.put,bv,ef,fd];refine axH λx z=> ?_;simp only[dP] at z;obtain⟨⟨u,O,v1,v2,v3,qq,E,rfl⟩,⟨bp,gy,cy,cg,cX,cZ,c4,aa,ky⟩,⟨cv,rfl,cn,a8⟩, -, -, -,⟨⟨x1,x2,x3,d3,r,L,H,rfl,oy,fy,hL,hH,a0⟩,aZ⟩, -⟩:=z;have e:=E.eq;subst e;rw[O] at aa aZ;cases aa;cases aZ;rw[c4] at a8;cases a8;obtain⟨⟨X,a1,rfl⟩,⟨Y,b1,rfl⟩,C1,Z,rfl⟩:=oy.form;have a9:bh (λb=>b=g) wr x.to:=x.ok.mono λb F e=>by
    rcases e with e|e|⟨_,e⟩
    .exact e
    .rcases x.bw b e with e|e<;>omega
    .exact e.elim
   have V:=HD.out.fe a9 x.rd;have bX:x.q<=q+12:=x.lim;have zx:=a9.size;simp only[List.drop];revert zx;revert hH;revert oy;revert ky;revert bX;revert V;generalize x.to=w4;generalize x.q=q4;intro V cl ky oy hH zx;have HD:=ab V;have cO:=V.ks.lt;replace a0:=ab a0;cases qq
   case' false=>
    go_wp2;revert HD;generalize w4=w5;intro HD
   case' true=>
    have cp:=ky.cell;have cz:=HD.out.ks.cell;have ci:=HD.out.ks.frozen;have b0:=((HD.out.ks.bj 0 (.slice X r.pk.length a1)).bj 1 (.slice Y r.sn.length b1)).bj 2 (.slice C1 r.lg.length Z);simp only[bv,ef,fd] at b0;have W:=ld w4 k (.slice X r.pk.length a1) (.slice Y r.sn.length b1) (.slice C1 r.lg.length Z);have bn:eY (((w4.setCell ⟨k,0,none⟩ (.slice X r.pk.length a1)).setCell ⟨k,1,none⟩ (.slice Y r.sn.length b1)).setCell ⟨k,2,none⟩ (.slice C1 r.lg.length Z)) L H r (.slice X r.pk.length a1) (.slice Y r.sn.length b1) (.slice C1 r.lg.length Z):=((oy.set HD.out.ks 0 _).set (HD.out.ks.bj 0 _) 1 _).set ((HD.out.ks.bj 0 _).bj 1 _) 2 _
    have a3:ahQ w (((w4.setCell ⟨k,0,none⟩ (.slice X r.pk.length a1)).setCell ⟨k,1,none⟩ (.slice Y r.sn.length b1)).setCell ⟨k,2,none⟩ (.slice C1 r.lg.length Z)) R hi g l q4 k (.slice X r.pk.length a1) (.slice Y r.sn.length b1) (.slice C1 r.lg.length Z) (.slice T t.length d) r t:=
     ⟨aQ HD.out.k0 W (by omega),b0,by simp only[be];exact eY.wide bn (by omega) hH,a0.out rfl,HD.out.ot.fe W λb F e=>by
       have:=aL.deep HD.out.ot (acs HD.out.ft) 0;obtain⟨ds,o⟩:=this.blk F;have e':b=k:=e;subst e';exact absurd (cI HD.out.ks o) (by decide),HD.out.ft,HD.out.rd.fe W λb F e=>by omega,HD.out.ch.trans W λi hi e=>by have e':i=k:=e;omega,bx,bi⟩
    replace a3:=ab a3;go_wp2;have HD:=a3;revert HD;generalize ((w4.setCell ⟨k,0,none⟩ (.slice X r.pk.length a1)).setCell ⟨k,1,none⟩ (.slice Y r.sn.length b1)).setCell ⟨k,2,none⟩ (.slice C1 r.lg.length Z)=w5;intro HD
   all_goals
    refine(mB l g q4 R hi w5 HD.out.rd (by omega)).mono ?_;rintro e w6 ⟨sp,q6,rfl,cS,br,d4,bA⟩;have al:=ab (HD.out.fe bA br);go_wp2;refine(ads l g q6 R hi w6 al.out.rd (by omega)).mono ?_;rintro e w7 ⟨tx,q7,rfl,ce,bb,cD,bo⟩;have I:=ab (al.out.fe bo bb);have r7:=((I.out.ot.deep (acs I.out.ft) 0).sl (ff _));replace r7:=ab r7;go_wp2;refine(adn t sp tx (by unfold maxLen;omega) (by unfold maxLen;omega) _ w7 0 w7.heap.size r7.out (am _) (by have:=I.out.ft.2.1;omega)).mono ?_;rintro e w8 ⟨v8,zs,put,rfl,o8,bI,b8⟩;have z7:=I.out.ch.size;have ad:=ab (I.out.fe (bh.aM (S:=λb=>b=g) b8) (I.out.rd.fe (bh.aM (S:=λ_=>False) b8) λ_ _ h=>h));have an:=ab (And.intro (o8.base z7) bI);obtain⟨A8,c8,rfl⟩:=o8.form;cases put
    case' false=>
     have a6:=ad
    case' true=>have a6:=ab (ad.out.tree an.out.1 an.out.2)
    all_goals
     go_wp2;refine(dm _ _ _ _ _ _ 3 (a6).out.rd (by omega)).mono ?_;rintro e bT ⟨a7,rfl,⟨_,cr⟩,bq,bL⟩;have a2:=ab ((a6).out.fe bL bq);by_cases m0:a7=0
     .have t5:(a7 ==0)=true:=oE.2 m0;go_wp2;refine(mB l g _ R hi bT a2.out.rd (by omega)).mono ?_;rintro e aU ⟨c0,c6,rfl,cN,c7,cm,bR⟩;have D:=ab (a2.out.fe bR c7);have bS:=ab ((D.out.ot.deep (acs D.out.ft) 0).sl (ff _));go_wp2;refine(ajp _ c0 _ aU 0 aU.heap.size bS.out (am _) (by have:=D.out.ft.2.1;omega)).mono ?_;rintro e d0 ⟨cC,ys,rfl,b5,bg,b9⟩;have c9:=D.out.ch.size;have c2:=ab ((D.out.fe (bh.aM (S:=λb=>b=g) b9) (D.out.rd.fe (bh.aM (S:=λ_=>False) b9) λ_ _ h=>h)).tree (b5.base c9) (D.out.ft.sub bg));obtain⟨cL,ct,rfl⟩:=b5.form;go_wp2;go_roundw
      case rel=>exact⟨j-1,c6,_,_,_,_,_,by omega,by go_num,c2.out,by omega⟩
      simp[intOf];omega
     .have t5:(a7 ==0)=false:=dk.2 m0;go_wp2;go_roundw
      case rel=>exact⟨j-1,_,_,_,_,_,_,by omega,by go_num,a2.out,by omega⟩
      simp[intOf];omega
end
section
variable {β:Bool}
open Go.RowKit
def agw:List ByteArray:=[⟨#[122,122]⟩,⟨#[98,46]⟩,⟨#[97,98,99,46]⟩,⟨#[104,101,108,108,111,46,46,46]⟩,⟨#[]⟩]
structure aps (L:iU) (nc:Nat):Prop where
 k:0<=L.k/\L.k<=5
 n:0<=L.n/\L.n<=20
 nl:L.k=2\/L.k=4->L.n<=nc
 m:0<=L.m/\L.m<=3
 b:L.b∈agw
def avt(w:World)(lo hi g:Nat)(l:List Int)(p nc:Nat)(e:Ending)(w':World):Prop:=
 ∃L q,e=.returned (.agg (nz L))/\aps L nc/\Rd w' lo hi g l q/\q<=p+10/\bh (λb=>b=g) w w'
def qb(w:World)(g:Nat)(a b c d:Value):bh (λx=>x=g) w ((((w.setCell ⟨g,0,none⟩ a).setCell ⟨g,1,none⟩ b).setCell ⟨g,2,none⟩ c).setCell ⟨g,3,none⟩ d):=(ld w g a b c).setCell (S:=λx=>x=g) (p:=⟨g,3,none⟩) (.inl rfl) d
def apt(w:World)(g k:Nat)(a b c d e f h:Value):bh (λx=>x=g\/x=k) w (((((((w.setCell ⟨g,0,none⟩ a).setCell ⟨g,1,none⟩ b).setCell ⟨g,2,none⟩ c).setCell ⟨k,0,none⟩ d).setCell ⟨k,1,none⟩ e).setCell ⟨k,2,none⟩ f).setCell ⟨k,3,none⟩ h):=((ld w g a b c).mono λ_ _ h=>.inl h).trans (qb _ k d e f h) λi _ e=>.inr e
def amc(l:List Int)(g p lo hi:Nat)(w:World)(hr:Rd w lo hi g l p)(hp:p<=100000)(A B C:Option Addr)(na a nb b nc c:Nat)(b2:nc<=9) :
  Calls (ai β) 14 #[.pointer (some ⟨g,0,none⟩),.agg #[.slice A na a,.slice B nb b,.slice C nc c]] w (avt w lo hi g l p nc):=by
 have b7:=hr.lt;have b0:=hr.hi_;go_enter Ak,ntmps14;go_wp2;generalize hG:(w.alloc (.cells #[.slice A na a,.slice B nb b,.slice C nc c] 27)).alloc (.cells #[.int .i64 0,.int .i64 0,.int .i64 0,.string ⟨#[]⟩] 29)=w0 at *;obtain⟨aH,iz,G,cQ,dW,z,cJ,dz⟩:=oP hG;clear hG;have a7:bh (λb=>b=g) w w0:=bh.aM aH;have a1:=hr.fe (bh.aM (S:=λ_=>False) aH) λ_ _ h=>h;clear cQ cJ dW dz aH hr;refine(dm _ _ _ _ _ _ 5 a1 (by omega)).mono ?_;rintro e w1 ⟨m,rfl,⟨_,I⟩,aa,P⟩;have ba:=I (by omega);have a8:=a7.trans P λi _ e=>e;replace G:=aQ G P (by omega);replace z:=aQ z P (by omega);clear I P a7 a1;go_wp2;refine(dm _ _ _ _ _ _ 5 aa (by omega)).mono ?_;rintro e w2 ⟨E,rfl,⟨_,I⟩,a3,M⟩;have bb:=I (by omega);have a5:=a8.trans M λi _ e=>e;replace G:=aQ G M (by omega);replace z:=aQ z M (by omega);clear I M a8 aa;go_wp2;refine(dm _ _ _ _ _ _ 4 a3 (by omega)).mono ?_;rintro e Q ⟨q,rfl,⟨_,I⟩,a6,O⟩;have b5:=I (by omega);have mM:=a5.trans O λi _ e=>e;replace G:=aQ G O (by omega);replace z:=aQ z O (by omega);clear I O a5 a3;go_wp2;have rl:dA (Q.alloc (.cells #[.string ⟨#[122,122]⟩,.string ⟨#[98,46]⟩,.string ⟨#[97,98,99,46]⟩,.string ⟨#[104,101,108,108,111,46,46,46]⟩,.string ⟨#[]⟩] 9)) Q.heap.size (Q.alloc (.cells #[.string ⟨#[122,122]⟩,.string ⟨#[98,46]⟩,.string ⟨#[97,98,99,46]⟩,.string ⟨#[104,101,108,108,111,46,46,46]⟩,.string ⟨#[]⟩] 9)).heap.size [⟨#[122,122]⟩,⟨#[98,46]⟩,⟨#[97,98,99,46]⟩,⟨#[104,101,108,108,111,46,46,46]⟩,⟨#[]⟩] [.slice (some ⟨Q.heap.size,0,none⟩) 5 5]:=
  (aL.deep (F:=iA) (ab0 (F:=iA) (aX.new Q 9 #[.string ⟨#[122,122]⟩,.string ⟨#[98,46]⟩,.string ⟨#[97,98,99,46]⟩,.string ⟨#[104,101,108,108,111,46,46,46]⟩,.string ⟨#[]⟩]) rfl (am _) rfl (by simp[maxLen])) (nS (by decide)) Q.heap.size).sl (am _)
 have a2:=(a6).alloc (.cells #[.string ⟨#[122,122]⟩,.string ⟨#[98,46]⟩,.string ⟨#[97,98,99,46]⟩,.string ⟨#[104,101,108,108,111,46,46,46]⟩,.string ⟨#[]⟩] 9);have y:=(mM).alloc (.cells #[.string ⟨#[122,122]⟩,.string ⟨#[98,46]⟩,.string ⟨#[97,98,99,46]⟩,.string ⟨#[104,101,108,108,111,46,46,46]⟩,.string ⟨#[]⟩] 9);have R:=av (Q) (.cells #[.string ⟨#[122,122]⟩,.string ⟨#[98,46]⟩,.string ⟨#[97,98,99,46]⟩,.string ⟨#[104,101,108,108,111,46,46,46]⟩,.string ⟨#[]⟩] 9);generalize (Q).alloc (.cells #[.string ⟨#[122,122]⟩,.string ⟨#[98,46]⟩,.string ⟨#[97,98,99,46]⟩,.string ⟨#[104,101,108,108,111,46,46,46]⟩,.string ⟨#[]⟩] 9)=w5 at *;refine(ahm _ (by simp) _ _ _ _ _ _ _ _ w5 a2 (by omega) rl).mono ?_;rintro e v5 ⟨u,a4,rfl,a9,L⟩;replace y:=(y).trans L λi _ e=>e;clear rl;replace G:=aQ (ah G R) L (by omega);replace z:=aQ (ah z R) L (by omega);have z5:=y.size;clear R L a2 a6 mM;obtain⟨o,n⟩:∃o,o=v5.heap.size:=⟨_,rfl⟩;have ax:=av v5 (.cells #[.int .i64 m,.int .i64 (1+E),.int .i64 q,.string u] 29);have k:=aX.new v5 29 #[.int .i64 m,.int .i64 (1+E),.int .i64 q,.string u];have f:=y.alloc (.cells #[.int .i64 m,.int .i64 (1+E),.int .i64 q,.string u] 29);have j:=a9.alloc (.cells #[.int .i64 m,.int .i64 (1+E),.int .i64 q,.string u] 29);have s:=ah G ax;have d:=ah z ax;have aJ:=s.cell;have al:w.heap.size+1<o:=by rw[n];exact z.lt
 have H:=ab (And.intro k (And.intro f (And.intro j (And.intro s d))));clear k f j s d ax G z a9 y;have b8:=Nat.le_of_lt_succ (Nat.lt_succ_of_lt al);replace n:=ab n;by_cases T:m=2\/m=4
 case' pos=>
  rcases T with T|T
  all_goals
   first
    |have t1:(m ==2)=true:=oE.2 T
    |(have t1:(m ==2)=false:=dk.2 (by omega);have t2:(m ==4)=true:=oE.2 T)
   clear T;go_wp2;rw[<-n.out];obtain⟨k,f,j,s,d⟩:=H.out;rw[<-n.out] at k;clear H aJ n;revert d;revert k;revert j;revert f;clear s;generalize v5.alloc (.cells #[.int .i64 m,.int .i64 (1+E),.int .i64 q,.string u] 29)=w7;intro f j k d;refine(dm _ _ _ _ _ _ _ j (by omega)).mono ?_;rintro e w8 ⟨r,rfl,⟨_,I⟩,ay,Y⟩;have bf:=I (by omega);have a0:=f.trans Y λi _ e=>e;replace k:=aQ k Y (by omega);replace d:=aQ d Y (by omega);have cl:=k.cell;have fl:=k.frozen;have K:=k.bj 1 (.int .i64 r);simp only[bv,ef,fd] at K;have z8:=a0.size;have t:=bZ d (p:=⟨o,1,none⟩) (.int .i64 r) (by dsimp only;omega);have cg:=(bh.refl (λx=>x=o) w8).setCell (S:=λx=>x=o) (p:=⟨o,1,none⟩) (.inl rfl) (.int .i64 r);have aU:=a0.trans cg λi hi e=>by have e':i=o:=e;omega
   have aR:=ay.fe cg λb hb e=>by omega
   have H9:=ab (And.intro aU (And.intro aR (And.intro K t)));go_wp2;obtain⟨f,j,K,d⟩:=H9.out;revert d;revert K;revert j;revert f;generalize w8.setCell ⟨o,1,none⟩ (.int .i64 r)=w8';intro f j k d;have ad:((m:Int)=2\/(m:Int)=4)->r<=(nc:Int):=λ_=>by omega
   have Z:0<=r/\r<=20:=by omega
 case' neg=>
  have t1:(m ==2)=false:=dk.2 (by omega);have t2:(m ==4)=false:=dk.2 (by omega);have an:=ab T;go_wp2;rw[<-n.out];obtain⟨k,f,j,s,d⟩:=H.out;rw[<-n.out] at k;revert d;revert k;revert j;revert f;generalize v5.alloc (.cells #[.int .i64 m,.int .i64 (1+E),.int .i64 q,.string u] 29)=w8';intro f j k d;have ad:(m=2\/m=4)->1+E<=(nc:Int):=λh=>absurd h an.out;have Z:0<=1+E/\1+E<=20:=by omega
  generalize 1+E=r at *
 all_goals
  have aF:=ab ad;refine(dm _ _ _ _ _ _ 24 j (by omega)).mono ?_;rintro e w9 ⟨m9,rfl,⟨_,b3⟩,af,X⟩;have gu:=(f).trans X λi _ e=>e;have N:=aQ k X (by omega);have t:=aQ d X (by omega);have z9:=gu.size;by_cases m0:m9=0
  .have t9:(m9 ==0)=true:=oE.2 m0;have J:=N.bj 0 (.int .i64 5);simp only[bv,ef,fd] at J;have D:=bZ t (p:=⟨o,0,none⟩) (.int .i64 5) (by dsimp only;omega);have U:=gu.trans (((bh.refl (λx=>x=o) w9).setCell (S:=λx=>x=o) (p:=⟨o,0,none⟩) (.inl rfl) (.int .i64 5))) λi hi e=>by have e':i=o:=e;omega
   have V:=af.fe (((bh.refl (λx=>x=o) w9).setCell (S:=λx=>x=o) (p:=⟨o,0,none⟩) (.inl rfl) (.int .i64 5))) λb hb e=>by omega
   have ao:=N.cell;have bg:=N.frozen;have b6:=J.cell;have aZ:=D.frozen;have b4:=D.cell;have H:=ab (And.intro J (And.intro D (And.intro U V)));go_wp2;obtain⟨J,D,U,V⟩:=H.out;have k4:=(((D.bj 0 (.int .i64 5)).bj 1 (.int .i64 (r))).bj 2 (.int .i64 q)).bj 3 (.string u);simp only[bv,ef,fd] at k4;have W:=k4.cell;refine nf (v:=.agg #[.int .i64 5,.int .i64 (r),.int .i64 q,.string u]) (by simp[results,results14,go_sem,W]) rfl ⟨⟨5,r,q,u⟩,_,rfl,⟨⟨show(0:Int)<=5 by omega,show(5:Int)<=5 by omega⟩,Z,(λh=>by have h:(5:Int)=2\/(5:Int)=4:=h;omega),by show 0<=q/\q<=3;omega,a4⟩,V.fe (qb _ _ _ _ _ _) λb hb e=>by omega,by omega,U.trans (qb _ _ _ _ _ _) λi hi e=>by omega⟩
  .have t9:(m9 ==0)=false:=dk.2 m0;have ao:=N.cell;have b9:=t.frozen;have b1:=t.cell;go_wp2;have k4:=(((t.bj 0 (.int .i64 (m))).bj 1 (.int .i64 (r))).bj 2 (.int .i64 q)).bj 3 (.string u);simp only[bv,ef,fd] at k4;have W:=k4.cell;refine nf (v:=.agg #[.int .i64 (m),.int .i64 (r),.int .i64 q,.string u]) (by simp[results,results14,go_sem,W]) rfl ⟨⟨m,r,q,u⟩,_,rfl,⟨by show 0<=(m:Int)/\(m:Int)<=5;omega,Z,(λh=>aF.out (by first|exact h|simp)),by show 0<=q/\q<=3;omega,a4⟩,af.fe (qb _ _ _ _ _ _) λb hb e=>by omega,by omega,gu.trans (qb _ _ _ _ _ _) λi hi e=>by omega⟩
def avv(w:World)(e:Ending)(w':World):Prop:=
 ∃c b a s L,e=.returned (.tuple #[.agg #[c,b,a],.agg (nz L)])/\eY w' w.heap.size w'.heap.size s c b a/\iP s/\aps L s.lg.length/\Below w.heap.size w w'
def adO(A:Option Addr)(n c:Nat)(l:List Int)(w:World)(h:bB iG 1 w 0 w.heap.size l [.slice A n c]) :
  Calls (ai β) 4 #[.slice A n c] w (avv w):=by
 go_enter qF4,ntmps4;go_wp2;generalize Z:(w.alloc (.cells #[.slice none 0 0,.slice none 0 0,.slice none 0 0] 27)).alloc (.cells #[.int .i64 0,.int .i64 0,.int .i64 0,.string ⟨#[]⟩] 29)=w0 at *;obtain⟨I,iz,P,U,V,O,W,X⟩:=oP Z;refine(aqS l A n c w0 0 w.heap.size (am8 iG.loc h I (am _)) I.size).mono ?_;rintro e w1 ⟨g,rfl,hr,hg,t⟩;have an:=hr.lt;replace P:=ah P t;replace U:=P.cell;replace V:=P.frozen;replace O:=ah O t;replace W:=O.cell;replace X:=O.frozen;replace I:=ag I t;go_wp2;refine(ahR _ g 0 _ _ w1 hr (by omega)).mono ?_;rintro e R ⟨va,vb,vc,s,q,rfl,os,J,a1,hq,o⟩;obtain⟨⟨u,E,rfl⟩,⟨z,B,rfl⟩,D,C,rfl⟩:=os.form;have m:=aQ P o (by omega);have f:=aQ O o (by omega);have z2:=o.size;have z0:=t.size;have a6:Below w.heap.size w R:=I.trans (o.below I.size λi hi e=>by have e':i=g:=e;omega);have pU:=ab J;have a2:=J.wf.ll;have ax:=av R (.cells #[.slice u s.pk.length E,.slice z s.sn.length B,.slice D s.lg.length C] 27);have km:=(aX.new R 27 #[.slice u s.pk.length E,.slice z s.sn.length B,.slice D s.lg.length C]).cell;go_wp2;generalize Z:R.alloc (.cells #[.slice u s.pk.length E,.slice z s.sn.length B,.slice D s.lg.length C] 27)=w3 at *;obtain⟨Q,ay,m0,mz,aF⟩:=mK Z;replace m:=ah m Q;replace a9:=m.cell;replace ad:=m.frozen;replace f:=ah f Q;replace aH:=f.cell;replace aa:=f.frozen;have a0:=os.below Q (am _);have a5:=a1.fe (bh.aM (S:=λ_=>False) Q) λ_ _ h=>h;have T:=ag a6 Q;have ao:=eH (s:=3) (ty:=81) (S:=λb=>b=g) (pre:=[]) (mz 0) (by dsimp only;omega);have al:=eH (s:=3) (ty:=81) (S:=λb=>b=g) (pre:=[]) (mz 1) (by dsimp only;omega);have af:=eH (s:=3) (ty:=81) (S:=λb=>b=g) (pre:=[]) (mz 2) (by dsimp only;omega);refine aeO 3 81 (λb=>b=g) [] 4 [0,1,2] [3] (by kernel_rfl) (by kernel_rfl) (by kernel_rfl) ?_;simp only[pick,List.map,gt,gE];repeat(go_big_quiet_step (fail))
 refine io ?_;apply Exists.intro;apply axB (λv x=>x.done=true/\∃L,v=.agg (nz L)/\aps L s.lg.length)
 .rfl
 .rfl
 .exact λj hj=>(by cases hj)
 .exact λv x y h a8=>⟨(a8.from_ h.1).1,h.2⟩
 .intro x _ N Qx G;replace G:=ab G;have a3:=x.till N;go_wp2;refine(amc _ g q _ _ x.to (a5.fe (bh.aM (S:=λ_=>False) a3) λ_ _ h=>h) (by omega) u z D _ E _ B _ C a2).mono ?_;rintro e wy ⟨L,q2,rfl,K,_,_,a4⟩;go_wp2;exact G.out _ _ (a4.mono λb hb e=>.inl e) ⟨rfl,L,rfl,K⟩
 intro aJ;refine aqN λx hF=> ?_;simp only[dP] at hF;obtain⟨⟨N,L,rfl,K⟩, -⟩:=hF;have d:bh (λb=>b=g) w3 x.to:=x.ok.mono λb _ h=>h.2;have F:=a0.fe d λb h1 h2=>⟨by omega,by omega⟩;have k:=aQ m d (by omega);have a:=aQ f d (by omega);have r:Below w.heap.size w x.to:=T.trans (d.below T.size λi hi e=>by have e':i=g:=e;omega);have V:=k.frozen;have X:=a.frozen;have U:=k.cell;have W:=a.cell;have zx:=d.size;simp only[List.drop];have H:=ab (And.intro F (And.intro k (And.intro a (And.intro r K))));revert H U W V X zx;generalize x.to=w4;intro V X U W zx H;go_wp2;obtain⟨F,k,a,r,K⟩:=H.out;have zk:=a.lt;have Y:=bZ (bZ (bZ a (p:=⟨w.heap.size,0,none⟩) (.slice u s.pk.length E) (by dsimp only;omega)) (p:=⟨w.heap.size,1,none⟩) (.slice z s.sn.length B) (by dsimp only;omega)) (p:=⟨w.heap.size,2,none⟩) (.slice D s.lg.length C) (by dsimp only;omega);have k4:=(((Y.bj 0 (.int .i64 L.k)).bj 1 (.int .i64 L.n)).bj 2 (.int .i64 L.m)).bj 3 (.string L.b);simp only[bv,ef,fd] at k4;have a7:=((k.bj 0 (.slice u s.pk.length E)).bj 1 (.slice z s.sn.length B)).bj 2 (.slice D s.lg.length C);have M:=bZ (bZ (bZ (bZ a7 (p:=⟨w.heap.size+1,0,none⟩) (.int .i64 L.k) (by dsimp only;omega)) (p:=⟨w.heap.size+1,1,none⟩) (.int .i64 L.n) (by dsimp only;omega)) (p:=⟨w.heap.size+1,2,none⟩) (.int .i64 L.m) (by dsimp only;omega)) (p:=⟨w.heap.size+1,3,none⟩) (.string L.b) (by dsimp only;omega);simp only[bv,ef,fd] at M;have c4:=k4.cell;have c5:=M.cell;have h7:=apt w4 w.heap.size (w.heap.size+1) (.slice u s.pk.length E) (.slice z s.sn.length B) (.slice D s.lg.length C) (.int .i64 L.k) (.int .i64 L.n) (.int .i64 L.m) (.string L.b);have z7:=ap (show R.heap.size<=w4.heap.size by omega) h7.size;refine nf (v:=.tuple #[.agg #[.slice u s.pk.length E,.slice z s.sn.length B,.slice D s.lg.length C],.agg (nz L)]) (by simp[results,results4,go_sem,c4,c5,nz]) rfl ⟨_,_,_,s,L,rfl,(F.fe h7 λb h1 h2=>⟨by omega,by omega⟩).wide (by omega) z7,pU.out,K,r.trans (h7.below r.size λi hi e=>by have e':i=w.heap.size\/i=w.heap.size+1:=e;omega)⟩
end
section
variable {β:Bool}
open Go.RowKit
structure SmS (s:dJ):Prop where
 pl:s.pk.length<=20
 pn:∀p∈s.pk,p.its.length<=4/\∀x∈p.its,x.b.size<=8
 sl:s.sn.length<=9
 sn:∀x∈s.sn,x.all.length<=6/\∀y∈x.all,y.p.size<=3/\y.ns.length<=40
 ll:s.lg.length<=9
def WfS.sm(h:WfS s):SmS s:=⟨h.pl,λp a=>(h.pn p a).2,by have:=h.sl;have:=h.ll;omega,λx b=>(h.sn x b).2,h.ll⟩
def SmS.ave(h:SmS s):kD s<=10000:=by
 have e:et bPk s.pk<=s.pk.length*(36+1):=jl λp b=>by
  have c:et bIt p.its<=p.its.length*(8+1):=jl λx a=>(h.pn p b).2 x a;have:=(h.pn p b).1;show et bIt p.its<=36;omega
 have f:et bSn s.sn<=s.sn.length*(264+1):=jl λx a=>by
  have c:et bLs x.all<=x.all.length*(43+1):=jl λy d=>by
   have:=(h.sn x a).2 y d;show y.p.size+y.ns.length<=43;omega
  have:=(h.sn x a).1;show et bLs x.all<=264;omega
 have:=h.pl;have:=h.sl;have:=h.ll;unfold kD;omega
def agx{l:List V}{f:V->V}{y:V}(h:y∈sd l i f):y∈l\/∃x,l[i]?=some x/\y=f x:=by
 unfold sd at h;split at h
 .rename_i x a;rcases tj h with h|h
  .exact .inl h
  .exact .inr ⟨x,a,h⟩
 .exact .inl h
def SmS.lie(h:SmS s){l:iU}(j:l.b.size<=8):SmS (dK s l):=by
 by_cases g:l.k=1
 .rw[pO g];exact⟨ap (rZ _ _) h.pl,λp b=>h.pn p ((sU.1 b).1),h.sl,h.sn,h.ll⟩
 by_cases f:l.k=2
 .by_cases c:0<=l.n/\l.n<=s.lg.length
  .rw[mQ f c];exact⟨h.pl,h.pn,ap (rZ _ _) h.sl,λx a=>h.sn x ((sU.1 a).1),ap (by rw[fa];omega) h.ll⟩
  .rw[kT f c];exact h
 by_cases i:l.k=3
 .rw[pP i];refine⟨by rw[qi];exact h.pl,λp b=> ?_,h.sl,h.sn,h.ll⟩;obtain⟨q,k,rfl⟩:=qu.1 b;have e:=h.pn q k;unfold fN;split
  .refine⟨by show(sd q.its _ _).length<=4;rw[kZ];exact e.1,λx a=> ?_⟩;rcases agx a with a|⟨y,m,rfl⟩
   .exact e.2 x a
   .exact j
  .exact e
 by_cases d:l.k=4
 .by_cases c:0<=l.n/\l.n<s.lg.length
  .rw[pQ d c];exact⟨h.pl,h.pn,h.sl,h.sn,by show(sd s.lg _ _).length<=9;rw[kZ];exact h.ll⟩
  .rw[kU d c];exact h
 rw[pR g f i d];exact h
def aps.bs{L:iU}(h:aps L Z):L.b.size<=8:=by
 have:=h.b;unfold agw at this;simp only[pb,rG,uf] at this;rcases this with e|e|e|e|e<;>rw[e]<;>decide
end
section
open Go.RowKit
def ahS(x:Sn)(b:Value)(a:Int)(g:Nat)(w:World)(c:w.cell? ⟨g,0,none⟩=some (.int .i64 a)) :
  Calls (ai true) 29 #[.agg #[.int .i64 x.no,b],.pointer (some ⟨g,0,none⟩)] w λe j=>e=.returned (.bool (x.no ==a))/\Below w.heap.size w j:=by
 have d:=av w (.cells #[.int .i64 x.no,b] 63);have k:(w.alloc (.cells #[.int .i64 x.no,b] 63)).cell? ⟨g,0,none⟩=some (.int .i64 a):=(qy (d.block g (eO c))).trans c;have f:=eO c;have i:(x.no ==a)=decide (x.no=a):=rfl;rw[i];go_enter yg,ntmps29;go_wp2;go_ret;exact⟨by rfl,d⟩
def avw:aa7 (β:=true) 29:=adI yg (by kernel_rfl) rfl
def asu{xs:List Sn}{n c:Nat}(h:gZ w Z hi xs [.slice A n c]){x:Sn}(i:xs[k]?=some x) :
  ∃b a A' d,A=some ⟨b,a,none⟩/\Z<=b/\b<hi/\cE x.no/\w.cell? ⟨b,a+k*2,none⟩=some (.int .i64 x.no)/\w.cell? ⟨b,a+k*2+1,none⟩=some (.slice A' x.all.length d)/\gb w Z hi x.all [.slice A' x.all.length d]:=by
 obtain⟨b,a,m,rfl,j,g,l,⟨v,rfl,f,hi⟩,e⟩:=h.at_ i;obtain⟨A',d,rfl⟩:=hi.form;exact⟨b,a,A',d,rfl,j,g,f,by simpa using e 0 _ rfl,e 1 _ rfl,hi⟩
def asv(xs:List Sn)(f:Int)(A:Option Addr)(c g:Nat)(w:World)(J hi:Nat)(h:gZ w J hi xs [.slice A xs.length c])(H:hi<=w.heap.size)(z:w.cell? ⟨g,0,none⟩=some (.int .i64 f)) :
  Calls (ai true) 28 #[.slice A xs.length c,.func (.func 29) #[] #[.pointer (some ⟨g,0,none⟩)]] w λe v=>∃j:Int,e=.returned (.int .i64 j)/\((∃(k:Nat) (y:Sn),j=k/\k<xs.length/\xs[k]?=some y/\xs.find? (λx=>x.no ==f)=some y)\/(j=-1/\xs.find? (λx=>x.no ==f)=none))/\Below w.heap.size w v:=by
 obtain⟨_,M,G⟩:=h.len_;unfold maxLen at G;have u:=eO z;go_enter yh,ntmps28;go_wp2;go_loopw [8] (λi wr=>∃k:Nat,k<=xs.length/\i=.int .i64 k/\xs.find? (λx=>x.no ==f)=(xs.drop k).find? (λx=>x.no ==f)/\Below w.heap.size w wr) (λi _=>xs.length-(intOf i).toNat)
 case atStart=>exact⟨0,ff _,rfl,rfl,du _ _⟩
 case round=>
  obtain⟨k,L,rfl,a,q⟩:=hrel;replace a:=ab a;have r:wr.cell? ⟨g,0,none⟩=some (.int .i64 f):=(qy (q.block g u)).trans z;by_cases n:k<xs.length
  .obtain⟨x,p⟩:=aq n;obtain⟨b,F,B,d,rfl,_,_,I,C,K,N⟩:=asu (gZ.loc.below h q H) p;have l:xs.drop k=x::xs.drop (k+1):=by
    obtain⟨E,D⟩:=qv.1 p;rw[sb E,D]
   replace p:=ab p;replace l:=ab l;have O:=avw (#[.agg #[.int .i64 x.no,.slice B x.all.length d]]++#[.pointer (some ⟨g,0,none⟩)]) wr;go_wp2;refine(ahS x _ f g wr r).mono ?_;rintro e v ⟨rfl,m⟩;replace m:=ag q m;cases o:(x.no ==f)
   .have t:xs.find? (λx=>x.no ==f)=(xs.drop (k+1)).find? (λx=>x.no ==f):=by rw[a.out,l.out,sg,o]
    have s:=ab t;go_wp2;go_roundw
    case rel=>exact⟨k+1,by omega,by go_num,s.out,m⟩
    simp[intOf];omega
   .have t:xs.find? (λx=>x.no ==f)=some x:=by rw[a.out,l.out,sg,o]
    have s:=ab t;go_wp2;go_ret;exact⟨k,rfl,.inl ⟨k,x,rfl,n,p.out,s.out⟩,m⟩
  .obtain rfl:k=xs.length:=by omega
   go_wp2;go_ret;exact⟨-1,rfl,.inr ⟨rfl,by rw[a.out,uH];rfl⟩,q⟩
def iL.akM{l:List Pk}(h:iL w Z hi l [v]):∀p∈acW l,cE p.1:=λp a=>by
 obtain⟨A,c,rfl⟩:=bB.form h;obtain⟨q,d,rfl⟩:=qu.1 a;obtain⟨i,hi⟩:=rE.1 d;obtain⟨_,_,_,_,_,_,_,⟨_,_,b,_⟩,_⟩:=bB.at_ h hi;exact b
def adt(s:dJ)(hs:SmS s)(F:∀p∈s.pk,1<=p.its.length)(f:Int)(va vb vc:Value)(V hi:Nat)(w:World)(hg:Glo w)(P:hi<=w.heap.size)(h:fL w V hi s va vb vc) :
  Calls (ai true) 10 #[.int .i64 7,.agg #[va,vb,vc],.int .i64 f] w (qa (dE 7 s f) w):=by
 obtain⟨t,D,h3⟩:=h;obtain⟨A,a,rfl⟩:=bB.form t;obtain⟨B,b,rfl⟩:=bB.form D;have iw:∀p∈acW s.pk,1<=p.2.length/\cE p.1:=λp hp=>⟨by
  obtain⟨q,X,rfl⟩:=qu.1 hp;have:=F q X;unfold pkd;simpa using this,t.akM p hp⟩
 obtain⟨-,ha,K⟩:=bB.len_ t;obtain⟨-,hb,a4⟩:=bB.len_ D;have HM:=ab K;have a1:=ab iw;have HS:=ab hs;have i:dE 7 s f=match s.sn.find? (λx=>x.no ==f) with
  |some x=>kO 7 (acW s.pk) x.all
  |none=>none:=rfl
 replace i:=ab i;clear iw hs F K;unfold maxLen at a4;go_enter Au,ntmps10;go_wp2;generalize hG:(w.alloc (.cells #[.slice A s.pk.length a,.slice B s.sn.length b,vc] 27)).alloc (.cells #[.int .i64 f] 3)=w0 at *;obtain⟨M,iz,O,T,dW,k1,cJ,dz⟩:=oP hG;clear hG;have I:w0.cell? ⟨w.heap.size+1,0,none⟩=some (.int .i64 f):=cJ 0;have a3:=iL.loc.below t M P;have H:=gZ.loc.below D M P;have a8:=M.size;refine(asv s.sn f B b _ w0 V hi H (by omega) I).mono ?_;rintro e w1 ⟨j,rfl,hj,b1⟩;have g:=ag M b1;rcases hj with⟨k,y,rfl,a7,cX,n⟩|⟨rfl,n⟩
 .obtain⟨bb,aa,C,d,rfl,_,_,ad,Q,a5,U⟩:=asu (gZ.loc.below D g P) cX;have J:=HS.out.sn y (de cX);have m:dE 7 s f=kO 7 (acW s.pk) y.all:=by rw[i.out,n]
  have r:=ab m;have a0:=ab J;have H1:=ab (iL.loc.below t g P);replace U:=ab U;clear m n cX J a3 H t D I i;replace O:=ah O b1;replace T:=O.cell;replace dW:=O.frozen;have f0:=T 0;have f1:=T 1;have a9:=g.size;have R:=hg.below g;go_wp2;have aF:=ae f0;have aJ:=ae f1;have bg:=ae Q;have dD:=ae a5;refine aC 11 [0,1,2,3,4,5,6,7] [8,9,10] (h:= ?_);simp only[pick,List.map,gt,gE];repeat(go_big_quiet_step (fail))
  refine io ?_;apply Exists.intro;apply bc (λv W=>∃u,v=.tuple #[u,.bool (dE 7 s f).isSome]/\aL mP 79 W w.heap.size u ((dE 7 s f).getD [])/\∀y∈(dE 7 s f).getD [],mP.good y)
  .rfl
  .exact λv x y ⟨u,e,ho,hgd⟩ hle=>⟨u,e,ho.below hle,hgd⟩
  .intro z o Qx c;replace c:=ab c;have a2:=R.below z.ok;have a6:=z.ok.size;have mV:=(iL.loc.below H1.out z.ok (by omega)).pkl (by omega);have L:=gb.loc.below U.out z.ok (by omega);have Y:=a0.out;have E:(acW s.pk).length=s.pk.length:=qi _;have N:=al9 (acW s.pk) A a y _ V hi z.to a2 (by omega) mV (by rw[E];exact ha) HM.out a1.out L (λq X=>by have:=(Y.2 q X).2;omega) (by omega);rw[E] at N;replace N:=ab N;go_wp2;refine N.out.mono ?_;rintro e w5 ⟨u,rfl,G,l,b5⟩;go_wp2;rw[<-r.out] at G l ⊢;exact c.out _ _ b5 ⟨_,rfl,G.base (by omega),l⟩
  intro v8;apply bc (λv W=>aL mP 79 W w.heap.size v ((dE 7 s f).getD [])/\∀y∈(dE 7 s f).getD [],mP.good y)
  .rfl
  .exact λv x y ⟨ho,hgd⟩ hle=>⟨ho.below hle,hgd⟩
  .intro z o Qx c;replace c:=ab c;obtain⟨u,rfl,G,l⟩:=o.1 (by kernel_rfl);go_wp2;exact c.out _ _ (du _ _) ⟨G,l⟩
  intro v9;apply dL (.bool (dE 7 s f).isSome)
  .intro z o Qx c;replace c:=ab c;obtain⟨u,rfl,G,l⟩:=o.2.1 (by kernel_rfl);go_wp2;exact c.out _ (du _ _)
  refine aS ?_;intro w6 iC xx df o;dsimp only[dP] at o;try rw[df] at o
  obtain⟨⟨o9,Z⟩, -⟩:=o;simp only[List.drop];have S:=ag g iC;go_wp2;go_ret2;exact⟨_,rfl,o9,Z,S⟩
 .have m:dE 7 s f=none:=by rw[i.out,n]
  have r:=ab m;go_wp2;go_ret2;exact qa.no r.out g
def ajU{a b:ByteArray}(h:(a.toList ==b.toList)=true):a=b:=by
 have h:=eq_of_beq h;rw[qR,qR] at h;obtain⟨⟨x⟩⟩:=a;obtain⟨⟨y⟩⟩:=b;have h:x=y:=h;rw[h]
def aBj{x y:Nd}(f:(x.p.toList ==y.p.toList)=true)(e:(x.b.toList ==y.b.toList)=true):x=y:=by
 have a:=ajU f;have d:=ajU e;obtain⟨p,b⟩:=x;obtain⟨q,c⟩:=y;dsimp only at a d;rw[a,d]
def awM{x y:Nd}(h:(x.p.toList ==y.p.toList)=false\/(x.b.toList ==y.b.toList)=false):x≠y:=by
 rintro rfl;rcases h with h|h<;>simp at h
def asw(xs s:List Nd)(P R:Value)(w:World)(V hi L S:Nat)(E:eL w V hi xs [P])(M:eL w L S s [R])(G:hi<=w.heap.size)(H:S<=w.heap.size)(q:Bool)(g:q=true↔xs=s) :
  Calls (ai true) 11 #[P,R] w λe U=>e=.returned (.bool q)/\Below w.heap.size w U:=by
 have C:=ab g;clear g;obtain⟨A,c,rfl⟩:=E.form;obtain⟨B,d,rfl⟩:=M.form;obtain⟨_,hc,W⟩:=E.len_;unfold maxLen at W;go_enter An,ntmps11;by_cases j:xs.length=s.length
 .go_wp2;go_loopw [5] (λi wr=>∃k:Nat,k<=xs.length/\i=.int .i64 k/\xs.take k=s.take k/\Below w.heap.size w wr) (λi _=>xs.length-(intOf i).toNat)
  case atStart=>exact⟨0,ff _,rfl,rfl,du _ _⟩
  case round=>
   obtain⟨k,Z,rfl,b,o⟩:=hrel;replace b:=ab b;by_cases D:k<xs.length
   .obtain⟨x,r⟩:=aq D;obtain⟨y,p⟩:=aq (l:=s) (k:=k) (by omega);obtain⟨Y,X,rfl,_,_,_,I,J⟩:=jV (eL.ar.below E o G) r;obtain⟨b2,iT,rfl,_,_,_,K,F⟩:=jV (eL.ar.below M o H) p;replace r:=ab r;replace p:=ab p;go_wp2;cases T:(x.p.toList ==y.p.toList)
    .have a:q=false:=by
      rw[<-mc,C.out];intro e;have:some x=some y:=by rw[<-r.out,<-p.out,e]
      exact awM (.inl T) (dq this)
     have m:=ab a;clear a;have v:=ae I;have z:=ae J;have u:=ae K;have t:=ae F;refine aN (by kernel_rfl) (by kernel_rfl) ?_;repeat(go_big_quiet_step (fail))
     refine io ?_;intro N f;have g:=bC f;clear f v z u t;go_wp2;go_ret;exact⟨aB m.out.symm,ag o g⟩
    .cases Q:(x.b.toList ==y.b.toList)
     .have a:q=false:=by
       rw[<-mc,C.out];intro e;have:some x=some y:=by rw[<-r.out,<-p.out,e]
       exact awM (.inr Q) (dq this)
      have m:=ab a;clear a;have v:=ae I;have z:=ae J;have u:=ae K;have t:=ae F;refine aN (by kernel_rfl) (by kernel_rfl) ?_;repeat(go_big_quiet_step (fail))
      refine io ?_;intro N f;have g:=bC f;clear f v z u t;go_wp2;go_ret;exact⟨aB m.out.symm,ag o g⟩
     .have O:=aBj T Q;have n:xs.take (k+1)=s.take (k+1):=by rw[li r.out,li p.out,b.out,O]
      replace n:=ab n;clear O;have v:=ae I;have z:=ae J;have u:=ae K;have t:=ae F;refine aN (by kernel_rfl) (by kernel_rfl) ?_;repeat(go_big_quiet_step (fail))
      refine io ?_;intro N f;have g:=bC f;clear f v z u t;go_wp2;go_roundw
      case rel=>exact⟨k+1,by omega,by go_num,n.out,ag o g⟩
      simp[intOf];omega
   .obtain rfl:k=xs.length:=by omega
    have a:q=true:=C.out.2 (by
     have:=b.out;rw[ip,j,ip] at this;exact this)
    have m:=ab a;clear a;go_wp2;go_ret;exact⟨aB m.out.symm,o⟩
 .have a:q=false:=by
   rw[<-mc,C.out];rintro rfl;exact j rfl
  have m:=ab a;clear a;go_wp2;go_ret;exact⟨aB m.out.symm,du _ _⟩
def asx(o:Option (List Nd))(base:Nat)(v:Value)(w:World):Prop:=∃u,v=.tuple #[u,.bool o.isSome]/\aL mP 79 w base u (o.getD [])/\∀y∈o.getD [],mP.good y
def aav(o:Option (List Nd))(base:Nat)(v:Value)(w:World):Prop:=aL mP 79 w base v (o.getD [])/\∀y∈o.getD [],mP.good y
def asx.below{base:Nat}{x y:World}(h:asx o base v x)(c:Below x.heap.size x y):asx o base v y:=by
 obtain⟨u,e,b,a⟩:=h;exact⟨u,e,b.below c,a⟩
def aav.below{base:Nat}{x y:World}(h:aav o base v x)(a:Below x.heap.size x y):aav o base v y:=⟨h.1.below a,h.2⟩
def aav.nds{base:Nat}(h:aav o base v w):eL w base w.heap.size (o.getD []) [v]:=gX.sl (aL.deep h.1 h.2 base) (am _)
def avx(h:∀p∈s.pk,1<=p.its.length)(L:iU):∀p∈(dK s L).pk,1<=p.its.length:=by
 have same:(dK s L).pk=s.pk->∀p∈(dK s L).pk,1<=p.its.length:=λe=>by rw[e];exact h
 by_cases f:L.k=1
 .rw[pO f];exact λp b=>h p (sU.1 b).1
 by_cases c:L.k=2
 .by_cases a:0<=L.n/\L.n<=s.lg.length
  .exact same (by rw[mQ c a])
  .exact same (by rw[kT c a])
 by_cases g:L.k=3
 .rw[pP g];intro p b;obtain⟨q,i,rfl⟩:=qu.1 b;have:=h q i;unfold fN;split
  .show 1<=(sd q.its L.m.toNat _).length;rw[kZ];exact this
  .exact this
 by_cases d:L.k=4
 .by_cases a:0<=L.n/\L.n<s.lg.length
  .exact same (by rw[pQ d a])
  .exact same (by rw[kU d a])
 exact same (by rw[pR f c g d])
end
section
variable {β:Bool}
open Go.RowKit
def ahT(x:Hd):Prop:=(1<=x.b/\x.b<=2)/\1<=x.s/\x.s<=20
def jr(l:List Hd):Prop:=l.length<=9/\∀x∈l,ahT x
def amd(x:Hd)(f:ahT x)(w:World):Calls (ai β) 55 #[.agg #[.int .i64 x.b,.int .i64 x.s]] w λe b=>e=.returned (.bool true)/\Below w.heap.size w b:=by
 obtain⟨⟨k,j⟩,d,c⟩:=f;have i:decide (1<=x.s)=true:=dj d;have l:decide (x.s<=20)=true:=dj c;by_cases e:x.b=1
 .have a:(x.b ==1)=true:=oE.2 e;go_enter xV,ntmps55;go_wp2;go_ret;exact⟨rfl,by repeat(first|exact du _ _|refine sN ?_ (by simp) _)⟩
 .have a:(x.b ==1)=false:=dk.2 e;have g:(x.b ==2)=true:=oE.2 (by omega);go_enter xV,ntmps55;go_wp2;go_ret;exact⟨rfl,by repeat(first|exact du _ _|refine sN ?_ (by simp) _)⟩
def apv(x:Hd)(d:ahT x)(w:World):Calls (ai β) 54 #[.agg #[.int .i64 x.b,.int .i64 x.s]] w λe b=>e=.returned (.bool false)/\Below w.heap.size w b:=by
 go_enter xW,ntmps54;go_wp2;refine(amd x d _).mono ?_;rintro e f ⟨rfl,a⟩;have c:=(av w (.cells #[.int .i64 x.b,.int .i64 x.s] 42));go_wp2;go_ret;exact⟨rfl,ag c a⟩
def avy:aa7 (β:=β) 54:=adI xW (by kernel_rfl) rfl
def ahU(xs:List Hd)(i:∀x∈xs,ahT x)(v:Value)(w:World)(u hi:Nat)(h:cj w u hi xs [v])(t:hi<=w.heap.size) :
  Calls (ai β) 74 #[v,.func (.func 54) #[] #[]] w λe l=>e=.returned (.int .i64 (-1))/\Below w.heap.size w l:=by
 obtain⟨A,c,rfl⟩:=bB.form h;obtain⟨_,C,s⟩:=h.len_;unfold maxLen at s;replace i:=ab i;go_enter xR,ntmps74;go_wp2;go_loopw [8] (λj wr=>∃k:Nat,k<=xs.length/\j=.int .i64 k/\Below w.heap.size w wr) (λj _=>xs.length-(intOf j).toNat)
 case atStart=>exact⟨0,ff _,rfl,du _ _⟩
 case round=>
  obtain⟨k,B,rfl,a⟩:=hrel;by_cases g:k<xs.length
  .obtain⟨x,m⟩:=aq g;obtain⟨b,f,E,o,_,r,_,⟨rfl,n⟩,d⟩:=(cj.loc.below h a t).at_ m;subst o;have q:wr.cell? ⟨b,f+k*2,none⟩=some (.int .i64 x.b):=by simpa using d 0 _ rfl
   have y:wr.cell? ⟨b,f+k*2+1,none⟩=some (.int .i64 x.s):=by simpa using d 1 _ rfl
   have z:=ab (i.out x (de m));have D:=avy (β:=β) (#[.agg #[.int .i64 x.b,.int .i64 x.s]]++#[]) wr;go_wp2;refine(apv x z.out wr).mono ?_;rintro e l ⟨rfl,p⟩;go_wp2;go_roundw
   case rel=>exact⟨k+1,by omega,by go_num,ag a p⟩
   simp[intOf];omega
  .obtain rfl:k=xs.length:=by omega
   go_wp2;go_ret;exact⟨rfl,a⟩
def adP(xs:List Hd)(a:∀x∈xs,ahT x)(v:Value)(w:World)(b hi:Nat)(h:cj w b hi xs [v])(f:hi<=w.heap.size) :
  Calls (ai β) 48 #[v,.func (.func 54) #[] #[]] w λe g=>e=.returned (.bool false)/\Below w.heap.size w g:=by
 obtain⟨A,c,rfl⟩:=bB.form h;replace a:=ab a;go_enter yb,ntmps48;go_wp2;refine(ahU xs a.out _ w b hi h f).mono ?_;rintro e i ⟨rfl,d⟩;go_wp2;go_ret;exact⟨rfl,d⟩
def aaL(xs:List Hd)(i:jr xs)(v:Value)(w:World)(b hi:Nat)(h:cj w b hi xs [v])(d:hi<=w.heap.size) :
  Calls (ai β) 23 #[v] w λe g=>e=.returned (.bool true)/\Below w.heap.size w g:=by
 obtain⟨A,c,rfl⟩:=bB.form h;obtain⟨k,a⟩:=i;have l:=dj (show(xs.length:Int)<=9 by omega);replace a:=ab a;go_enter A7,ntmps23;go_wp2;refine(adP xs a.out _ w b hi h d).mono ?_;rintro e j ⟨rfl,f⟩;go_wp2;go_ret;exact⟨rfl,f⟩
def afk(xs:List Hd)(A:Option Addr)(c a hi:Nat)(w:World)(d:cj w a hi xs [.slice A xs.length c])(b:hi<=w.heap.size) :
  Calls (ai β) 24 #[.slice A xs.length c] w λe W'=>∃p,e=.returned (.pointer p)/\LkL w.heap.size W' p xs/\Below w.heap.size w W':=
 callsIn_wide.1 (aph Fence.wide 6 trivial trivial trivial rfl (am _) xs A c a hi w d b)
def LkL.cons{W:World}(h:LkL Z W p (x::xs)):∃(b:Nat) (q:Option Addr),p=some ⟨b,0,none⟩/\Z<=b/\aX W b 106 #[.int .i64 x.b,.int .i64 x.s,.pointer q]/\LkL Z W q xs:=h
def LkL.aDM{W:World}(h:LkL Z W p []):p=none:=h
end
section
open Go.RowKit
def WfS.okl(h:WfS s):jr s.lg:=⟨h.ll,h.lg⟩
def jr.take{l:List Hd}(h:jr l)(n:Nat):jr (l.take n):=⟨by have:=h.1;rw[fa];omega,λx a=>h.2 x (pu a)⟩
def ahV{z:Int}(a:0<=z)(b:z<3):wrap64 z=z:=by unfold wrap64;omega
def anw(h:ahT x):(jX x).b=3-x.b/\(jX x).s=x.s:=by
 have:=h.1;exact⟨ahV (by omega) (by omega),rfl⟩
def jr.fork{l:List Hd}(h:jr l)(n:Nat):jr (sd l n jX):=⟨by rw[kZ];exact h.1,λx b=>by
 rcases agx b with b|⟨y,c,rfl⟩
 .exact h.2 x b
 .have a:=h.2 y (de c);obtain⟨d,e⟩:=anw a;have:=a.1;have:=a.2;unfold ahT;omega⟩
def ame(x:V)(l:List V)(f:V->V):sd (x::l) 0 f=f x::l:=rfl
def amf(x:V)(l:List V)(n:Nat)(f:V->V):sd (x::l) (n+1) f=x::sd l n f:=by
 unfold sd;simp only[List.getElem?_cons_succ];cases l[n]?<;>rfl
def qc:Int->List Hd->Int
 |a,[]=>a
 |a,x::l=>qc (a*64+21*x.b+x.s) l
def eM(l:List Hd):Int:=qc 0 l
def ajV:∀(l m:List Hd) (a:Int),qc a (l++m)=qc (qc a l) m
 |[],_,_=>rfl
 |x::l,m,a=>ajV l m _
def ajW:∀{l:List Hd} {a b:Int},qc a l=qc b l->a=b
 |[],_,_,h=>h
 |x::l,a,b,h=>by
  have h:qc (a*64+21*x.b+x.s) l=qc (b*64+21*x.b+x.s) l:=h;have:=ajW h;omega
def anx:∀{l:List Hd} {a B:Int},(∀x∈l,ahT x)->0<=a->a<B->0<=qc a l/\qc a l<B*64 ^ l.length
 |[],a,B,_,h0,h1=>by show 0<=a/\a<B*64 ^ 0;rw[Int.pow_zero,Int.mul_one];exact⟨h0,h1⟩
 |x::l,a,B,h,h0,h1=>by
  obtain⟨⟨c,d⟩,e,f⟩:=h x (by simp);have:=anx (l:=l) (a:=a*64+21*x.b+x.s) (B:=B*64) (λy b=>h y (by simp[b])) (by omega) (by omega);show 0<=qc (a*64+21*x.b+x.s) l/\qc (a*64+21*x.b+x.s) l<B*64 ^ (l.length+1);rw[Int.pow_succ,Int.mul_comm (64 ^ l.length) 64,<-Int.mul_assoc];exact this
def amg{l:List Hd}(h:jr l):0<=eM l/\eM l<18014398509481984:=by
 have b:=anx (l:=l) (a:=0) (B:=1) h.2 (by omega) (by omega);have c:(64:Int) ^ l.length<=64 ^ 9:=by
  have:(64:Nat) ^ l.length<=64 ^ 9:=uQ (by omega) h.1
  exact_mod_cast this
 have e:(64:Int) ^ 9=18014398509481984:=by decide
 unfold eM;omega
def agy:∀{l:List Hd} {n:Nat} {a:Int},(∀x∈l,ahT x)->n<l.length->qc a (sd l n jX)≠qc a l
 |[],n,_,_,h=>by simp at h
 |x::l,0,a,hk,_=>λe=>by
  rw[ame] at e;have e:qc (a*64+21*(jX x).b+(jX x).s) l=qc (a*64+21*x.b+x.s) l:=e;have:=ajW e;obtain⟨i,g⟩:=anw (hk x (by simp));have:=hk x (by simp);obtain⟨⟨c,d⟩,f,j⟩:=this;omega
 |x::l,n+1,a,hk,h=>λe=>by
  rw[amf] at e;exact agy (l:=l) (n:=n) (λy b=>hk y (by simp[b])) (by simpa using h) e
def mf(long sum:Int)(l:List Hd):Int×Int×Int:=if(l.length:Int)<long\/long<0 then(long,sum,1) else if eM (l.take long.toNat)=sum then((l.length:Int),eM l,0) else(long,sum,2)
def apw{l:List Hd}:mf 0 0 l=((l.length:Int),eM l,0):=by
 unfold mf;rw[da (by omega),eg (show eM (l.take (Int.toNat 0))=0 from rfl)]
def apx{l:List Hd}(h:l[k]?=some x):eM (l.take (k+1))=eM (l.take k)*64+21*x.b+x.s:=by
 rw[li h];unfold eM;rw[ajV];rfl
def anz(xs:List Hd)(o:jr xs)(n:Nat)(Z:n<=9223372036854775807)(p:Option Addr)(w:World)(F:Nat)(h:LkL F w p xs) :
  Calls (ai true) 25 #[.pointer p,.int .i64 n] w λe I=>e=.returned (.int .i64 (eM (xs.take n)))/\Below w.heap.size w I:=by
 replace o:=ab o;go_enter zY,ntmps25;go_wp2;go_loopw [0,1,5] (λP u M wr=>∃(k m:Nat) (p:Option Addr) (z:Int),k<=xs.length/\k+m=n/\P=.pointer p/\u=.int .i64 m/\M=.int .i64 z/\z=eM (xs.take k)/\LkL F wr p (xs.drop k)/\Below w.heap.size w wr) (λ_ u _ _=>(intOf u).toNat)
 case atStart=>exact⟨0,n,p,0,ff _,me _,rfl,rfl,rfl,rfl,h,du _ _⟩
 case round=>
  obtain⟨k,m,p,z,R,q,rfl,rfl,rfl,f,g,d⟩:=hrel;have A:=amg (o.out.take k);rw[<-f] at A;replace f:=ab f;cases b:xs.drop k with
  |nil=>
   rw[b] at g;obtain rfl:=g.aDM;have r:xs.length<=k:=wB.1 b;have v:z=eM (xs.take n):=by rw[f.out,pa r,pa (by omega)]
   have s:=ab v;go_wp2;go_ret;exact⟨ag4 s.out,d⟩
  |cons x L=>
   rw[b] at g;obtain⟨Q,N,rfl, -,c,y⟩:=g.cons;by_cases J:m=0
   .subst J;have v:z=eM (xs.take n):=by rw[f.out,<-q,tv]
    have s:=ab v;go_wp2;go_ret;exact⟨ag4 s.out,d⟩
   .obtain⟨l,rfl⟩:∃l,m=l+1:=⟨m-1,by omega⟩;have W:=dj (show 0<(((l+1:Nat):Int)) by omega);have G:k<xs.length:=by
     rcases pr k xs.length with h|h
     .exact h
     .rw[wB.2 h] at b;cases b
    have ext:xs.drop (k+1)=L:=by rw[<-List.tail_drop,b];rfl
    have E:xs[k]?=some x:=by
     have:=sO (xs:=xs) (i:=k) (j:=0);rw[b] at this;simpa using this.symm
    have t:=o.out.2 x (de E);obtain⟨⟨V,T⟩,X,Y⟩:=t;have a:=apx E;rw[<-f.out] at a;have S:=c.cell 0;have U:=c.cell 1;have K:=c.cell 2;replace ext:=ab ext;replace a:=ab a;obtain⟨D,O⟩:∃D,D=x.b:=⟨_,rfl⟩;obtain⟨C,H⟩:∃C,C=x.s:=⟨_,rfl⟩;go_wp2
    go_quiet (fail)
    have B:=sM d nq;go_wp2;go_roundw
    case rel=>exact⟨k+1,l,N,z*64+21*x.b+x.s,by omega,by omega,rfl,by go_num,by go_num,a.out.symm,by rw[ext.out];exact y.below (sM (du _ _) nq),B⟩
    first|(simp[intOf];done)|(simp[intOf];omega)
def asy(xs:List Hd)(a:jr xs)(v:Value)(w:World)(g hi:Nat)(h:cj w g hi xs [v])(f:hi<=w.heap.size) :
  Calls (ai true) 26 #[v] w λe j=>e=.returned (.int .i64 (eM xs))/\Below w.heap.size w j:=by
 obtain⟨A,c,rfl⟩:=bB.form h;have r:=a.1;replace a:=ab a;go_enter zX,ntmps26;go_wp2;refine(aaL (β:=true) xs a.out _ w g hi h f).mono ?_;rintro e i ⟨rfl,b⟩;have n:=cj.loc.below h b f;go_wp2;refine(afk (β:=true) xs A c g hi i n (ap f b.size)).mono ?_;rintro e o ⟨p,rfl,m,k⟩;have d:=ag b k;go_wp2;refine(anz xs a.out xs.length (by omega) p o _ m).mono ?_;rintro e q ⟨rfl,l⟩;rw[ip];go_wp2;go_ret;exact⟨rfl,ag d l⟩
def adu(xs:List Hd)(F:jr xs)(long sum:Int)(a1:long<=9223372036854775807)(v:Value)(w:World)(J hi:Nat)(h:cj w J hi xs [v])(K:hi<=w.heap.size) :
  Calls (ai true) 8 #[.agg #[.int .i64 long,.int .i64 sum],v] w λe T=>e=.returned (.tuple #[.agg #[.int .i64 (mf long sum xs).1,.int .i64 (mf long sum xs).2.1],.int .i64 (mf long sum xs).2.2])/\Below w.heap.size w T:=by
 obtain⟨A,c,rfl⟩:=bB.form h;have h9:=F.1;replace F:=ab F;obtain⟨r,E⟩:∃r,r=mf long sum xs:=⟨_,rfl⟩;rw[<-E];replace E:=ab E;go_enter qF8,ntmps8;go_wp2;generalize hG:(w.alloc (.cells #[.int .i64 long,.int .i64 sum] 35)).alloc (.cells #[.int .i64 0,.int .i64 0] 35)=w0 at *;obtain⟨Q,iz,g,G,P,a,f,i⟩:=oP hG;have h0:=cj.loc.below h Q K;refine(aaL (β:=true) xs F.out _ w0 J hi h0 (ap K Q.size)).mono ?_;rintro e m ⟨rfl,S⟩;replace g:=ah g S;replace G:=g.cell;replace P:=g.frozen;replace a:=ah a S;replace f:=a.cell;replace i:=a.frozen;have j:=ag Q S;by_cases N:(xs.length:Int)<long
 .have s:r=(long,sum,1):=by rw[E.out];unfold mf;rw[eg (.inl N)]
  have C:=ab s;have t2:decide ((xs.length:Int)<long)=true:=dj N;go_wp2;have u:=(j.setCell (p:=⟨w.heap.size+1,0,none⟩) (by show w.heap.size<=w.heap.size+1;omega) (.int .i64 long)).setCell (p:=⟨w.heap.size+1,1,none⟩) (by show w.heap.size<=w.heap.size+1;omega) (.int .i64 sum);replace a:=a.bj 0 (.int .i64 long);simp only[bv,ef,fd] at a;have B:m.heap.size<=(m.setCell ⟨(w.heap.size+1),0,none⟩ (.int .i64 long)).heap.size:=by simp only[be];exact am _
  generalize m.setCell ⟨(w.heap.size+1),0,none⟩ (.int .i64 long)=w11 at *;replace f:=a.cell;replace i:=a.frozen;replace a:=a.bj 1 (.int .i64 sum);simp only[bv,ef,fd] at a;have q:w11.heap.size<=(w11.setCell ⟨(w.heap.size+1),1,none⟩ (.int .i64 sum)).heap.size:=by simp only[be];exact am _
  generalize w11.setCell ⟨(w.heap.size+1),1,none⟩ (.int .i64 sum)=w12 at *;replace f:=a.cell;replace i:=a.frozen;have o:=f 0;have t:=f 1;exact nf (v:=.tuple #[.agg #[.int .i64 long,.int .i64 sum],.int .i64 1]) (by simp[results,results8,go_sem,o,t]) rfl ⟨by rw[C.out],u⟩
 have t2:decide ((xs.length:Int)<long)=false:=db N;by_cases R:long<0
 .have s:r=(long,sum,1):=by rw[E.out];unfold mf;rw[eg (.inr R)]
  have C:=ab s;have Z:decide (long<0)=true:=dj R;go_wp2;have u:=(j.setCell (p:=⟨w.heap.size+1,0,none⟩) (by show w.heap.size<=w.heap.size+1;omega) (.int .i64 long)).setCell (p:=⟨w.heap.size+1,1,none⟩) (by show w.heap.size<=w.heap.size+1;omega) (.int .i64 sum);replace a:=a.bj 0 (.int .i64 long);simp only[bv,ef,fd] at a;have B:m.heap.size<=(m.setCell ⟨(w.heap.size+1),0,none⟩ (.int .i64 long)).heap.size:=by simp only[be];exact am _
  generalize m.setCell ⟨(w.heap.size+1),0,none⟩ (.int .i64 long)=w11 at *;replace f:=a.cell;replace i:=a.frozen;replace a:=a.bj 1 (.int .i64 sum);simp only[bv,ef,fd] at a;have q:w11.heap.size<=(w11.setCell ⟨(w.heap.size+1),1,none⟩ (.int .i64 sum)).heap.size:=by simp only[be];exact am _
  generalize w11.setCell ⟨(w.heap.size+1),1,none⟩ (.int .i64 sum)=w12 at *;replace f:=a.cell;replace i:=a.frozen;have o:=f 0;have t:=f 1;exact nf (v:=.tuple #[.agg #[.int .i64 long,.int .i64 sum],.int .i64 1]) (by simp[results,results8,go_sem,o,t]) rfl ⟨by rw[C.out],u⟩
 have Z:decide (long<0)=false:=db R;obtain⟨n,rfl⟩:∃n:Nat,long=n:=⟨long.toNat,by omega⟩;have t5:=db (show ¬(xs.length<n) by omega);have f0:m.cell? ⟨w.heap.size,0,none⟩=some (.int .i64 n):=G 0;have f1:m.cell? ⟨w.heap.size,1,none⟩=some (.int .i64 sum):=G 1;have h1:=cj.loc.below h j K;have z1:=j.size;have X:n<=9223372036854775807:=by omega
 obtain⟨d,hd⟩:∃d,d=eM (xs.take n):=⟨_,rfl⟩;have k:r=if d=sum then((xs.length:Int),eM xs,0) else((n:Int),sum,2):=by
  rw[E.out,hd];unfold mf;rw[da (by omega),sB]
 replace k:=ab k;replace hd:=ab hd;go_wp2;have aF:=ae f0;have aJ:=ae f1;refine aC 8 [0,2,3,5,6] [1,4,7] (h:= ?_);simp only[pick,List.map,gt,gE];repeat(go_big_quiet_step (fail))
 refine io ?_;apply Exists.intro;apply bc (λv T=>∃p,v=.pointer p/\LkL w.heap.size T p xs)
 .rfl
 .exact λv x y ⟨p,e,H⟩ hle=>⟨p,e,LkL.below hle H⟩
 .intro z D Y b;replace b:=ab b;have hz:=cj.loc.below h1 z.ok (by omega);have a0:=z.ok.size;go_wp2;refine(afk (β:=true) xs A c J hi z.to hz (by omega)).mono ?_;rintro e w2 ⟨p,rfl,H,W⟩;go_wp2;exact b.out _ _ W ⟨p,rfl,LkL.asb (by omega) H⟩
 intro v1;apply dL (.int .i64 d)
 .intro z D Y b;replace b:=ab b;obtain⟨p,rfl,H⟩:=D.1 (by kernel_rfl);go_wp2;refine(anz xs F.out n X p z.to _ H).mono ?_;rintro e w2 ⟨rfl,W⟩;rw[<-hd.out];go_wp2;exact b.out _ W
 apply dL (.bool (d !=sum))
 .intro z D Y b;replace b:=ab b;go_wp2;exact b.out _ (du _ _)
 refine aS ?_;intro L O xx df D;dsimp only[dP] at D;try rw[df] at D
 simp only[List.drop];replace g:=ah g O;replace G:=g.cell;replace P:=g.frozen;replace a:=ah a O;replace f:=a.cell;replace i:=a.frozen;have l:=ag j O;by_cases I:d=sum
 .have s:r=((xs.length:Int),eM xs,0):=by rw[k.out,eg I]
  have C:=ab s;have M:(d !=sum)=false:=by rw[I];simp
  rw[M];have h5:=cj.loc.below h l K;go_wp2;refine(asy xs F.out _ L J hi h5 (by have:=l.size;omega)).mono ?_;rintro e V ⟨rfl,U⟩;replace g:=ah g U;replace G:=g.cell;replace P:=g.frozen;replace a:=ah a U;replace f:=a.cell;replace i:=a.frozen;have iC:=ag l U;go_wp2;have u:=(iC.setCell (p:=⟨w.heap.size+1,0,none⟩) (by show w.heap.size<=w.heap.size+1;omega) (.int .i64 (xs.length:Int))).setCell (p:=⟨w.heap.size+1,1,none⟩) (by show w.heap.size<=w.heap.size+1;omega) (.int .i64 (eM xs));replace a:=a.bj 0 (.int .i64 (xs.length:Int));simp only[bv,ef,fd] at a;have B:V.heap.size<=(V.setCell ⟨(w.heap.size+1),0,none⟩ (.int .i64 (xs.length:Int))).heap.size:=by simp only[be];exact am _
  generalize V.setCell ⟨(w.heap.size+1),0,none⟩ (.int .i64 (xs.length:Int))=w11 at *;replace f:=a.cell;replace i:=a.frozen;replace a:=a.bj 1 (.int .i64 (eM xs));simp only[bv,ef,fd] at a;have q:w11.heap.size<=(w11.setCell ⟨(w.heap.size+1),1,none⟩ (.int .i64 (eM xs))).heap.size:=by simp only[be];exact am _
  generalize w11.setCell ⟨(w.heap.size+1),1,none⟩ (.int .i64 (eM xs))=w12 at *;replace f:=a.cell;replace i:=a.frozen;have o:=f 0;have t:=f 1;exact nf (v:=.tuple #[.agg #[.int .i64 (xs.length:Int),.int .i64 (eM xs)],.int .i64 0]) (by simp[results,results8,go_sem,o,t]) rfl ⟨by rw[C.out],u⟩
 .have s:r=((n:Int),sum,2):=by rw[k.out,da I]
  have C:=ab s;have M:(d !=sum)=true:=by simp[I]
  rw[M];go_wp2;have u:=(l.setCell (p:=⟨w.heap.size+1,0,none⟩) (by show w.heap.size<=w.heap.size+1;omega) (.int .i64 (n:Int))).setCell (p:=⟨w.heap.size+1,1,none⟩) (by show w.heap.size<=w.heap.size+1;omega) (.int .i64 sum);replace a:=a.bj 0 (.int .i64 (n:Int));simp only[bv,ef,fd] at a;have B:L.heap.size<=(L.setCell ⟨(w.heap.size+1),0,none⟩ (.int .i64 (n:Int))).heap.size:=by simp only[be];exact am _
  generalize L.setCell ⟨(w.heap.size+1),0,none⟩ (.int .i64 (n:Int))=w11 at *;replace f:=a.cell;replace i:=a.frozen;replace a:=a.bj 1 (.int .i64 sum);simp only[bv,ef,fd] at a;have q:w11.heap.size<=(w11.setCell ⟨(w.heap.size+1),1,none⟩ (.int .i64 sum)).heap.size:=by simp only[be];exact am _
  generalize w11.setCell ⟨(w.heap.size+1),1,none⟩ (.int .i64 sum)=w12 at *;replace f:=a.cell;replace i:=a.frozen;have o:=f 0;have t:=f 1;exact nf (v:=.tuple #[.agg #[.int .i64 (n:Int),.int .i64 sum],.int .i64 2]) (by simp[results,results8,go_sem,o,t]) rfl ⟨by rw[C.out],u⟩
end
section
variable {β:Bool}
open Go.RowKit
structure eJ (w:World) (g:Nat) (T:TypeId) (old new:Array Value) where
 to:World
 ok:bh (λb=>b=g) w to
 bk:aX to g T old\/aX to g T new
section
variable {w:World} {g:Nat} {T:TypeId} {old new:Array Value}
instance awN:bm (eJ w g T old new):=⟨λ_ _=>True,λ_ _ _=>trivial,λ_ _=>True⟩
def eJ.le(x y:eJ w g T old new):Prop:=bh (λb=>b=g) x.to y.to/\(aX x.to g T new->aX y.to g T new)
def eJ.le_refl(x:eJ w g T old new):eJ.le x x:=⟨bh.refl _ _,id⟩
def afl{p:Addr}(h:w.cell? p=some v)(b:p.block≠g):∀x:eJ w g T old new,x.to.cell? p=some v:=λx=>by
 have a:=tC w p h;unfold World.cell? at h ⊢;rw[x.ok.block p.block a b];exact h
variable {P:Program}
def amh {Q:Exit->Act->World->Prop} {l:List Oper} {a:Act} (n:Nat) (b c:List Nat) (e:P.follows .mixedOrders=true) (k:ahd l n b c=true) (d:adF l.toArray n a.tmps.size=true) (f:aX w g T old)
  (h:wpQuiet P l.toArray (λi=>∃x:eJ w g T old new,i=x.to) (λj=>∃m:List (gW (eJ w g T old new)),bY P l.toArray (@eJ.to w g T old new) (@eJ.le w g T old new) (wpList P l.toArray Q (l.drop n)) (pick l c) [] m j) ((pick l b).map (·.2)) a):(Code.region Z l.toArray true).wp P Q a w:=
 nP (@eJ.to w g T old new) (@eJ.le w g T old new) eJ.le_refl n b c e k d ⟨w.drew,(bh.refl _ _).drew,.inl f⟩ (λ_ _=>trivial) (λ_ _=>trivial) rfl h
variable {ops:Array Oper} {Qt:Act->World->Prop} {i:Nat} {o:Oper} {L:List (Nat×Oper)} {F:List (Nat×(eJ w g T old new->Prop))} {Rs:List (gW (eJ w g T old new))} {a:Act}
def asz (n:o.dst=none)
  (s:∀x:eJ w g T old new,oO F o x->∀d:Exit->Act->World->Prop,(∀c,bh (λb=>b=g) x.to c->aX c g T new->d .normal a c)->wpList P ops d [o] a x.to)
  (p:bY P ops (@eJ.to w g T old new) (@eJ.le w g T old new) Qt L ((i,λx=>aX x.to g T new)::F) Rs a):bY P ops (@eJ.to w g T old new) (@eJ.le w g T old new) Qt ((i,o)::L) F (.any (λ_ x=>aX x.to g T new)::Rs) a:=by
 have k:∀v,a.put o.dst v=a:=λv=>by rw[n];rfl
 refine je (X:=eJ w g T old new) (to:=@eJ.to w g T old new) (le:=@eJ.le w g T old new) (λ_ x=>aX x.to g T new) (.inr λ_ _ _ h=>h) (λv x y h j=>j.2 h) (λx r m _ _ d q=>s x r d λc l f=> ?_) λv=>by rw[k];exact p
 have:=q undef ⟨c,x.ok.trans l λ_ _ e=>e,.inr f⟩ ⟨l,λ_=>f⟩ trivial (λ_ _ _ _=>trivial) f;rw[k] at this;exact this
def ayI(h:∀c,bh (λb=>b=g) w c->aX c g T new->Qt a c):bY P ops (@eJ.to w g T old new) (@eJ.le w g T old new) Qt [] [(i,λx:eJ w g T old new=>aX x.to g T new)] [] a:=
 adY λx d=>h x.to x.ok d.1
end
end
section
open Go.RowKit
def avz{long sum:Int}{l:List Hd}(h:(mf long sum l).2.2≠0):(mf long sum l).1=long/\(mf long sum l).2.1=sum:=by
 unfold mf at h ⊢;split
 .exact⟨rfl,rfl⟩
 .rename_i a;rw[da a] at h;split
  .rename_i b;rw[eg b] at h;exact absurd rfl h
  .exact⟨rfl,rfl⟩
def ami(r:Int×Int×Int)(o:Option (List Nd))(w:World)(e:Ending)(w':World):Prop:=
 ∃u,e=.returned (.tuple #[u,.int .i64 r.2.2,.agg #[.int .i64 r.1,.int .i64 r.2.1],.bool (if r.2.2=0 then o else none).isSome])/\aav (if r.2.2=0 then o else none) w.heap.size u w'/\Below w.heap.size w w'
def apy(s:dJ)(hs:SmS s)(a1:∀p∈s.pk,1<=p.its.length)(lV:jr s.lg)(long sum K:Int)(a6:long<=9223372036854775807)(va vb vc:Value)(lo hi:Nat)(w:World)(hg:Glo w)(aR:hi<=w.heap.size)(h:fL w lo hi s va vb vc) :
  Calls (ai true) 9 #[.int .i64 7,.agg #[.int .i64 long,.int .i64 sum],.agg #[va,vb,vc],.int .i64 K] w (ami (mf long sum s.lg) (dE 7 s K) w):=by
 have HS:=ab hs;have HO:=ab a1;have HK:=ab lV;have HB:=ab (avz (long:=long) (sum:=sum) (l:=s.lg));have HM:=λ(y:World) (V:Below w.heap.size w y)=>adu s.lg lV long sum a6 vc y lo hi (cj.loc.below h.lg V aR) (ap aR V.size)
 replace HM:=ab HM;generalize mf long sum s.lg=r at *;obtain⟨f,j,U⟩:=r;obtain⟨⟨A,a,rfl⟩,⟨B,b,rfl⟩,C,c,rfl⟩:(∃A a,va=.slice A s.pk.length a)/\(∃A a,vb=.slice A s.sn.length a)/\(∃A a,vc=.slice A s.lg.length a):=⟨bB.form h.pk,bB.form h.sn,bB.form h.lg⟩;go_enter qF9,ntmps9;go_wp2;generalize hG:((w.alloc (.cells #[.int .i64 long,.int .i64 sum] 35)).alloc (.cells #[.slice A s.pk.length a,.slice B s.sn.length b,.slice C s.lg.length c] 27)).alloc (.cells #[.int .i64 0,.int .i64 0] 35)=w0 at *;obtain⟨o,iz,n,I,W,m,X,Y,d,t,G⟩:=adG hG;refine(ag7 (β:=true) 7 _ true (by simp)).mono ?_;rintro e k ⟨rfl,rfl⟩;go_wp2;refine(HM.out _ o).mono ?_;rintro e k ⟨rfl,N⟩;replace n:=ah n N;replace I:=n.cell;replace W:=n.frozen;replace m:=ah m N;replace X:=m.cell;replace Y:=m.frozen;replace d:=ah d N;replace t:=d.cell;replace G:=d.frozen;have aa:=ag o N;replace o:=aa;have z1:=N.size;by_cases J:U=0
 .subst J;have H:=av k (.cells #[.int .i64 f,.int .i64 j] 35);have a8:=(ah n H).cell;have a3:=(ah m H).cell;have a0:=(ah d H).cell;go_wp2;have D:Below k.heap.size k (k.alloc (.cells #[.int .i64 f,.int .i64 j] 35)):=av _ _;have E:aX (k.alloc (.cells #[.int .i64 f,.int .i64 j] 35)) (k.heap.size) 35 #[.int .i64 f,.int .i64 j]:=aX.new _ _ _;have a2:k.heap.size+1<=(k.alloc (.cells #[.int .i64 f,.int .i64 j] 35)).heap.size:=by simp only[mx];omega
  generalize (k.alloc (.cells #[.int .i64 f,.int .i64 j] 35))=w2 at *;have Z:=E.cell;have P:=E.frozen;replace n:=ah n D;replace I:=n.cell;replace W:=n.frozen;replace m:=ah m D;replace X:=m.cell;replace Y:=m.frozen;replace d:=ah d D;replace t:=d.cell;replace G:=d.frozen;replace o:=ag o D;have h2:=h.below o aR;have a7:=hg.below o;have z2:=o.size;have n1:k.heap.size≠w.heap.size+1+1:=by omega
  refine(adt s HS.out HO.out K _ _ _ lo hi w2 a7 (by omega) h2).mono ?_;rintro e F ⟨u,rfl,o3,a9,L⟩;replace n:=ah n L;replace I:=n.cell;replace W:=n.frozen;replace m:=ah m L;replace X:=m.cell;replace Y:=m.frozen;replace d:=ah d L;replace t:=d.cell;replace G:=d.frozen;replace E:=ah E L;replace Z:=E.cell;replace P:=E.frozen;replace o:=ag o L;have a5:F.cell? ⟨k.heap.size,0,none⟩=some (.int .i64 f):=Z 0;have a4:F.cell? ⟨k.heap.size,1,none⟩=some (.int .i64 j):=Z 1;go_wp2;have aF:=afl (g:=w.heap.size+1+1) (T:=35) (old:=#[.int .i64 0,.int .i64 0]) (new:=#[.int .i64 f,.int .i64 j]) a5 n1;have aJ:=afl (g:=w.heap.size+1+1) (T:=35) (old:=#[.int .i64 0,.int .i64 0]) (new:=#[.int .i64 f,.int .i64 j]) a4 n1
  haveI:Nonempty (eJ F (w.heap.size+1+1) 35 #[.int .i64 0,.int .i64 0] #[.int .i64 f,.int .i64 j]):=⟨⟨F,bh.refl _ _,.inl d⟩⟩
  refine amh (new:=#[.int .i64 f,.int .i64 j]) 6 [0,1,2,3,4] [5] (by kernel_rfl) (by kernel_rfl) (by kernel_rfl) d ?_;simp only[pick,List.map,gt,gE];repeat(go_big_quiet_step (fail))
  refine io ?_;apply Exists.intro;apply asz
  .rfl
  .intro x _ Qx z;replace z:=ab z;rcases x.bk with q|q
   .have c0:=q.cell 0;have c1:=q.cell 1;have M:=q.frozen 0;have O:=q.frozen 1;go_wp2;exact z.out _ (((bh.refl (λb=>b=w.heap.size+1+1) x.to).setCell (p:=⟨w.heap.size+1+1,0,none⟩) (.inl rfl) _).setCell (p:=⟨w.heap.size+1+1,1,none⟩) (.inl rfl) _) ((q.bj 0 (.int .i64 f)).bj 1 (.int .i64 j))
   .have c0:=q.cell 0;have c1:=q.cell 1;have M:=q.frozen 0;have O:=q.frozen 1;go_wp2;exact z.out _ (((bh.refl (λb=>b=w.heap.size+1+1) x.to).setCell (p:=⟨w.heap.size+1+1,0,none⟩) (.inl rfl) _).setCell (p:=⟨w.heap.size+1+1,1,none⟩) (.inl rfl) _) ((q.bj 0 (.int .i64 f)).bj 1 (.int .i64 j))
  refine ayI ?_;intro w4 R Q;simp only[List.drop];have M:w4.cell? ⟨w.heap.size+1+1,0,none⟩=some (.int .i64 f):=Q.cell 0;have O:w4.cell? ⟨w.heap.size+1+1,1,none⟩=some (.int .i64 j):=Q.cell 1;have hf:=o.trans (R.below o.size λi _ e=>by omega);have o4:aav (dE 7 s K) w.heap.size u w4:=⟨(o3.fe R λb V e=>by have:=(o3.at_ V).1;omega).base (by omega),a9⟩;go_wp2;exact nf (v:=.tuple #[u,.int .i64 0,.agg #[.int .i64 f,.int .i64 j],.bool (dE 7 s K).isSome]) (by simp[results,results9,go_sem,M,O]) rfl ⟨_,by rw[eg rfl],by rw[eg rfl];exact o4,hf⟩
 .have t3:(U !=0)=true:=by simp[J]
  obtain⟨rfl,rfl⟩:=HB.out J;replace J:=ab J;have H:=av k (.cells #[.int .i64 f,.int .i64 j] 35);have a8:=(ah n H).cell;have a3:=(ah m H).cell;have a0:=(ah d H).cell;go_wp2;have D:Below k.heap.size k (k.alloc (.cells #[.int .i64 f,.int .i64 j] 35)):=av _ _;have E:aX (k.alloc (.cells #[.int .i64 f,.int .i64 j] 35)) (k.heap.size) 35 #[.int .i64 f,.int .i64 j]:=aX.new _ _ _;have a2:k.heap.size+1<=(k.alloc (.cells #[.int .i64 f,.int .i64 j] 35)).heap.size:=by simp only[mx];omega
  generalize (k.alloc (.cells #[.int .i64 f,.int .i64 j] 35))=w2 at *;have Z:=E.cell;have P:=E.frozen;replace n:=ah n D;replace I:=n.cell;replace W:=n.frozen;replace m:=ah m D;replace X:=m.cell;replace Y:=m.frozen;replace d:=ah d D;replace t:=d.cell;replace G:=d.frozen;replace o:=ag o D;have f0:=I 0;have f1:=I 1;have aF:=ae f0;have aJ:=ae f1;refine aC 4 [0,1,2,3] [] (h:= ?_);simp only[pick,List.map,gt,gE];repeat(go_big_quiet_step (fail))
  refine io ?_;apply Exists.intro;refine aS ?_;intro F S xx df hF;dsimp only[dP] at hF;try rw[df] at hF
  simp only[List.drop];replace d:=ah d S;replace t:=d.cell;replace G:=d.frozen;replace o:=ag o S;go_wp2;have hf:=(o.setCell (p:=⟨w.heap.size+1+1,0,none⟩) (by show w.heap.size<=w.heap.size+1+1;omega) (.int .i64 f)).setCell (p:=⟨w.heap.size+1+1,1,none⟩) (by show w.heap.size<=w.heap.size+1+1;omega) (.int .i64 j);replace d:=d.bj 0 (.int .i64 f);simp only[bv,ef,fd] at d;have af:F.heap.size<=(F.setCell ⟨(w.heap.size+1+1),0,none⟩ (.int .i64 f)).heap.size:=by simp only[be];exact am _
  generalize F.setCell ⟨(w.heap.size+1+1),0,none⟩ (.int .i64 f)=w11 at *;replace t:=d.cell;replace G:=d.frozen;replace d:=d.bj 1 (.int .i64 j);simp only[bv,ef,fd] at d;have ad:w11.heap.size<=(w11.setCell ⟨(w.heap.size+1+1),1,none⟩ (.int .i64 j)).heap.size:=by simp only[be];exact am _
  generalize w11.setCell ⟨(w.heap.size+1+1),1,none⟩ (.int .i64 j)=w12 at *;replace t:=d.cell;replace G:=d.frozen;have M:=t 0;have O:=t 1;have ho:(if U=0 then dE 7 s K else none)=none:=da J.out;exact nf (v:=.tuple #[.slice none 0 0,.int .i64 U,.agg #[.int .i64 f,.int .i64 j],.bool false]) (by simp[results,results9,go_sem,M,O]) rfl ⟨_,by rw[ho];rfl,by rw[ho];exact⟨aL.nil _ _ _,λy hy=>(by cases hy)⟩,hf⟩
def ami.yes{a b:Int}{e:Ending}(h:ami (a,b,0) o w e w'):∃u,e=.returned (.tuple #[u,.int .i64 0,.agg #[.int .i64 a,.int .i64 b],.bool o.isSome])/\aav o w.heap.size u w'/\Below w.heap.size w w':=by
 obtain⟨u,c,d,f⟩:=h;exact⟨u,c,d,f⟩
end
section
variable {β:Bool}
open Go.RowKit
def agz(xs o:List Hd)(L M:Value)(w:World)(lo hi fg hi':Nat)(D:cj w lo hi xs [L])(I:cj w fg hi' o [M])(E:hi<=w.heap.size)(F:hi'<=w.heap.size)(b:Bool)(s:b=true↔xs=o) :
  Calls (ai β) 17 #[L,M] w λe Q=>e=.returned (.bool b)/\Below w.heap.size w Q:=by
 replace s:=ab s;obtain⟨A,c,rfl⟩:=D.form;obtain⟨B,d,rfl⟩:=I.form;obtain⟨_,hc,Y⟩:=D.len_;unfold maxLen at Y;go_enter Ag,ntmps17;by_cases a:xs.length=o.length
 .have W:((xs.length:Int) !=o.length)=false:=by rw[qJ];omega
  replace a:=ab a;go_wp2;go_loopw [5] (λi wr=>∃k:Nat,k<=xs.length/\i=.int .i64 k/\xs.take k=o.take k/\Below w.heap.size w wr) (λi _=>xs.length-(intOf i).toNat)
  case atStart=>exact⟨0,ff _,rfl,rfl,du _ _⟩
  case round=>
   obtain⟨k,hk,rfl,u,j⟩:=hrel;replace u:=ab u;by_cases C:k<xs.length
   .obtain⟨x,r⟩:=aq C;obtain⟨y,q⟩:=aq (l:=o) (k:=k) (by have:=a.out;omega);obtain⟨H,t,X,rfl,_,G,_,⟨rfl,S⟩,f⟩:=(cj.loc.below D j E).at_ r;have R:wr.cell? ⟨H,t+k*2,none⟩=some (.int .i64 x.b):=by simpa using f 0 _ rfl
    have a0:wr.cell? ⟨H,t+k*2+1,none⟩=some (.int .i64 x.s):=by simpa using f 1 _ rfl
    clear f;obtain⟨N,K,X,rfl,_,G,_,⟨rfl,T⟩,f⟩:=(cj.loc.below I j F).at_ q;have Z:wr.cell? ⟨N,K+k*2,none⟩=some (.int .i64 y.b):=by simpa using f 0 _ rfl
    have U:wr.cell? ⟨N,K+k*2+1,none⟩=some (.int .i64 y.s):=by simpa using f 1 _ rfl
    clear f;have V:(k:Int)<(o.length:Int):=by have:=a.out;omega
    replace r:=ab r;replace q:=ab q;by_cases g:x.b=y.b
    .have O:(x.b ==y.b)=true:=oE.2 g;by_cases m:x.s=y.s
     .have P:(x.s ==y.s)=true:=oE.2 m;have z:x=y:=by cases x;cases y;simp only[Hd.mk.injEq];exact⟨g,m⟩
      replace z:=ab z;clear g m;go_wp2
      go_quiet (fail)
      have v:=sM j nq;go_wp2;go_roundw
      case rel=>first|exact⟨k+1,by omega,by go_num,by rw[li r.out,li q.out,u.out,z.out],v⟩|((repeat apply Exists.intro);refine⟨?_,rfl⟩;exact⟨k+1,by omega,by go_num,by rw[li r.out,li q.out,u.out,z.out],v⟩)
      simp[intOf];omega
     .have P:(x.s ==y.s)=false:=dk.2 m;have n:b=false:=by
       rw[<-mc,s.out];rintro rfl;exact m (jt Hd.s (dq (r.out.symm.trans q.out)))
      have p:=ab n;clear n;clear g m;go_wp2
      go_quiet (fail)
      go_wp2;go_ret;exact⟨aB p.out.symm,sM j _⟩
    .have O:(x.b ==y.b)=false:=dk.2 g;have n:b=false:=by
      rw[<-mc,s.out];rintro rfl;exact g (jt Hd.b (dq (r.out.symm.trans q.out)))
     have p:=ab n;clear n;clear g;go_wp2
     go_quiet (fail)
     go_wp2;go_ret;exact⟨aB p.out.symm,sM j _⟩
   .obtain rfl:k=xs.length:=by omega
    have J:b=true:=by
     rw[s.out];have:=u.out
     rwa [ip,pa (by have:=a.out;omega)] at this
    have p:=ab J;clear J;go_wp2;go_ret;exact⟨aB p.out.symm,j⟩
 .have W:((xs.length:Int) !=o.length)=true:=by rw[rM];omega
  have n:b=false:=by
   rw[<-mc,s.out];rintro rfl;exact a rfl
  have p:=ab n;clear n;replace a:=ab a;go_wp2;go_ret;exact⟨aB p.out.symm,du _ _⟩
def afm(x y:Pk)(M N:Value)(w:World)(lo hi G Q:Nat)(I:jk w lo hi x.its [M])(J:jk w G Q y.its [N])(aR:hi<=w.heap.size)(lO:Q<=w.heap.size)(b:Bool)(r:b=true↔x=y) :
  Calls (ai β) 18 #[.agg #[.int .i64 x.no,M],.agg #[.int .i64 y.no,N]] w λe w'=>e=.returned (.bool b)/\Below w.heap.size w w':=by
 replace r:=ab r;obtain⟨A,c,rfl⟩:=bB.form I;obtain⟨A2,U,rfl⟩:=bB.form J;obtain⟨_,hc,hx⟩:=bB.len_ I;unfold maxLen at hx;go_enter Af,ntmps18;by_cases o:x.no=y.no
 .have T:(x.no !=y.no)=false:=by rw[qJ];exact o
  replace o:=ab o;by_cases a:x.its.length=y.its.length
  .have X:((x.its.length:Int) !=y.its.length)=false:=by rw[qJ];omega
   replace a:=ab a;go_wp2;generalize O:(w.alloc (.cells #[.int .i64 x.no,.slice A x.its.length c] 59)).alloc (.cells #[.int .i64 y.no,.slice A2 y.its.length U] 59)=w0 at *;obtain⟨aH,iz,E,Y,Z,D,cJ,dz⟩:=oP O;clear O;go_loopw [5] (λi wr=>∃k:Nat,k<=x.its.length/\i=.int .i64 k/\x.its.take k=y.its.take k/\Below w0.heap.size w0 wr) (λi _=>x.its.length-(intOf i).toNat)
   case atStart=>exact⟨0,ff _,rfl,rfl,du _ _⟩
   case round=>
    obtain⟨k,hk,rfl,u,n⟩:=hrel;replace u:=ab u;replace E:=ah E n;replace Y:=E.cell;replace Z:=E.frozen;replace D:=ah D n;replace cJ:=D.cell;replace dz:=D.frozen;have z:=ag aH n;by_cases H:k<x.its.length
    .obtain⟨p,s⟩:=aq H;obtain⟨q,t⟩:=aq (l:=y.its) (k:=k) (by have:=a.out;omega);obtain⟨P,v,es,rfl,_,F,_,⟨rfl,a1⟩,f⟩:=(jk.loc.below I z aR).at_ s;have S:wr.cell? ⟨P,v+k*2,none⟩=some (.int .i64 p.n):=by simpa using f 0 _ rfl
     have a3:wr.cell? ⟨P,v+k*2+1,none⟩=some (.string p.b):=by simpa using f 1 _ rfl
     clear f;obtain⟨R,L,es,rfl,_,F,_,⟨rfl,a2⟩,f⟩:=(jk.loc.below J z lO).at_ t;have a0:wr.cell? ⟨R,L+k*2,none⟩=some (.int .i64 q.n):=by simpa using f 0 _ rfl
     have V:wr.cell? ⟨R,L+k*2+1,none⟩=some (.string q.b):=by simpa using f 1 _ rfl
     clear f;have W:(k:Int)<(y.its.length:Int):=by have:=a.out;omega
     replace s:=ab s;replace t:=ab t;by_cases d:p.n=q.n
     .have t2:(p.n ==q.n)=true:=oE.2 d;by_cases g:p.b=q.b
      .have t3:(p.b.toList ==q.b.toList)=true:=by rw[g,oE]
       have C:p=q:=by cases p;cases q;simp only[It.mk.injEq];exact⟨d,g⟩
       replace C:=ab C;clear d g;go_wp2
       go_quiet (fail)
       have B:=sM n nq;go_wp2;go_roundw
       case rel=>first|exact⟨k+1,by omega,by go_num,by rw[li s.out,li t.out,u.out,C.out],B⟩|((repeat apply Exists.intro);refine⟨?_,rfl⟩;exact⟨k+1,by omega,by go_num,by rw[li s.out,li t.out,u.out,C.out],B⟩)
       simp[intOf];omega
      .have t3:(p.b.toList ==q.b.toList)=false:=aa3 g;have j:b=false:=by
        rw[<-mc,r.out];rintro rfl;exact g (jt It.b (dq (s.out.symm.trans t.out)))
       have m:=ab j;clear j;clear d g;go_wp2
       go_quiet (fail)
       go_wp2;go_ret;exact⟨aB m.out.symm,sM z _⟩
     .have t2:(p.n ==q.n)=false:=dk.2 d;have j:b=false:=by
       rw[<-mc,r.out];rintro rfl;exact d (jt It.n (dq (s.out.symm.trans t.out)))
      have m:=ab j;clear j;clear d;go_wp2
      go_quiet (fail)
      go_wp2;go_ret;exact⟨aB m.out.symm,sM z _⟩
    .obtain rfl:k=x.its.length:=by omega
     have K:b=true:=by
      rw[r.out];have:=u.out;rw[ip,pa (by have:=a.out;omega)] at this;have:=o.out;cases x;cases y;simp only[Pk.mk.injEq];exact⟨by assumption,by assumption⟩
     have m:=ab K;clear K;go_wp2;go_ret;exact⟨aB m.out.symm,z⟩
  .have X:((x.its.length:Int) !=y.its.length)=true:=by rw[rM];omega
   have j:b=false:=by
    rw[<-mc,r.out];rintro rfl;exact a rfl
   have m:=ab j;clear j;replace a:=ab a;go_wp2;go_ret;exact⟨aB m.out.symm,by repeat(first|exact du _ _|refine sN ?_ (by simp) _)⟩
 .have T:(x.no !=y.no)=true:=by rw[rM];exact o
  have j:b=false:=by
   rw[<-mc,r.out];rintro rfl;exact o rfl
  have m:=ab j;clear j;clear o;go_wp2;go_ret;exact⟨aB m.out.symm,by repeat(first|exact du _ _|refine sN ?_ (by simp) _)⟩
def ajX(xs a:List Int)(d c:Value)(w:World)(i hi fg hi':Nat)(k:bB aaq 1 w i hi xs [d])(j:bB aaq 1 w fg hi' a [c])(b:Bool)(g:b=true↔xs=a) :
  Calls (ai β) 53 #[d,c] w λe f=>e=.returned (.bool b)/\Below w.heap.size w f:=by
 refine(akU xs a d c w i hi fg hi' k j).mono ?_;rintro e f ⟨rfl,n,rfl⟩;refine⟨aB ?_,sM (du _ _) _⟩;cases b
 .rw[tA,<-g];simp
 .rw[decide_eq_true_iff,<-g]
def afn(x y:Sn)(v1 Q:Value)(w:World)(lo hi X jy:Nat)(h1:gb w lo hi x.all [v1])(h2:gb w X jy y.all [Q])(aR:hi<=w.heap.size)(Z:jy<=w.heap.size)(b:Bool)(B:b=true↔x=y) :
  Calls (ai β) 19 #[.agg #[.int .i64 x.no,v1],.agg #[.int .i64 y.no,Q]] w λe w'=>e=.returned (.bool b)/\Below w.heap.size w w':=by
 replace B:=ab B;obtain⟨A,c,rfl⟩:=bB.form h1;obtain⟨A2,c2,rfl⟩:=bB.form h2;obtain⟨_,hc,hx⟩:=bB.len_ h1;unfold maxLen at hx;go_enter Ad,ntmps19;by_cases v:x.no=y.no
 .have t0:(x.no !=y.no)=false:=by rw[qJ];exact v
  replace v:=ab v;by_cases a:x.all.length=y.all.length
  .have t1:((x.all.length:Int) !=y.all.length)=false:=by rw[qJ];omega
   replace a:=ab a;go_wp2;generalize hG:(w.alloc (.cells #[.int .i64 x.no,.slice A x.all.length c] 63)).alloc (.cells #[.int .i64 y.no,.slice A2 y.all.length c2] 63)=w0 at *;obtain⟨aH,iz,S,cQ,dW,R,cJ,dz⟩:=oP hG;clear hG;go_loopw [5] (λi wr=>∃k:Nat,k<=x.all.length/\i=.int .i64 k/\x.all.take k=y.all.take k/\Below w0.heap.size w0 wr) (λi _=>x.all.length-(intOf i).toNat)
   case atStart=>exact⟨0,ff _,rfl,rfl,du _ _⟩
   case round=>
    obtain⟨k,hk,rfl,J,j⟩:=hrel;replace J:=ab J;replace S:=ah S j;replace cQ:=S.cell;replace dW:=S.frozen;replace R:=ah R j;replace cJ:=R.cell;replace dz:=R.frozen;have u:=ag aH j;by_cases Y:k<x.all.length
    .obtain⟨p,W⟩:=aq Y;obtain⟨q,cX⟩:=aq (l:=y.all) (k:=k) (by have:=a.out;omega);obtain⟨b1,N,es,rfl,_,V,_,⟨Q,rfl,a1,n⟩,g⟩:=(gb.loc.below h1 u aR).at_ W;obtain⟨A3,c3,rfl⟩:=bB.form n;have z:wr.cell? ⟨b1,N+k*2,none⟩=some (.string p.p):=by simpa using g 0 _ rfl
     have E:wr.cell? ⟨b1,N+k*2+1,none⟩=some (.slice A3 p.ns.length c3):=by simpa using g 1 _ rfl
     clear g;obtain⟨b2,iT,es,rfl,_,V,_,⟨Q,rfl,a2,m⟩,g⟩:=(gb.loc.below h2 u Z).at_ cX;obtain⟨A4,c4,rfl⟩:=bB.form m;have D:wr.cell? ⟨b2,iT+k*2,none⟩=some (.string q.p):=by simpa using g 0 _ rfl
     have C:wr.cell? ⟨b2,iT+k*2+1,none⟩=some (.slice A4 q.ns.length c4):=by simpa using g 1 _ rfl
     clear g;have a0:(k:Int)<(y.all.length:Int):=by have:=a.out;omega
     have T:=ab W;have P:=ab cX;replace n:=ab n;replace m:=ab m;have r:=ab u.size;clear W cX;have f0:=cQ 1;have g0:=cJ 1;by_cases d:p.p=q.p
     .have t2:(p.p.toList ==q.p.toList)=true:=by rw[d,oE]
      have U:(p.p.toList !=q.p.toList)=false:=by rw[d,qJ]
      by_cases f:p.ns=q.ns
      .have O:p=q:=by cases p;cases q;simp only[Ls.mk.injEq];exact⟨d,f⟩
       replace O:=ab O;replace f:=ab f;clear d;go_wp2;have I:=ae z;have K:=ae E;have M:=ae D;have G:=ae C;have L:=ae f0;have H:=ae g0;refine aN (by kernel_rfl) (by kernel_rfl) ?_;repeat(go_big_quiet_step (first|(go_at_call 53;refine dS (ajX p.ns q.ns _ _ _ _ _ _ _ (nY.loc.below n.out (fp.ok _) (ap aR r.out)) (nY.loc.below m.out (fp.ok _) (ap Z r.out)) true ?_);(simp only[tM];exact f.out))))
       refine io ?_;intro wq t;have F:=bC t;clear t I K M G L H;go_wp2;go_roundw
       case rel=>first|exact⟨k+1,by omega,by go_num,by rw[li T.out,li P.out,J.out,O.out],j.trans (F.mono j.size)⟩|((repeat apply Exists.intro);refine⟨?_,rfl⟩;exact⟨k+1,by omega,by go_num,by rw[li T.out,li P.out,J.out,O.out],j.trans (F.mono j.size)⟩)
       simp[intOf];omega
      .have o:b=false:=by
        rw[<-mc,B.out];rintro rfl;exact f (jt Ls.ns (dq (T.out.symm.trans P.out)))
       have s:=ab o;clear o;replace f:=ab f;clear d;go_wp2;have I:=ae z;have K:=ae E;have M:=ae D;have G:=ae C;have L:=ae f0;have H:=ae g0;refine aN (by kernel_rfl) (by kernel_rfl) ?_;repeat(go_big_quiet_step (first|(go_at_call 53;refine dS (ajX p.ns q.ns _ _ _ _ _ _ _ (nY.loc.below n.out (fp.ok _) (ap aR r.out)) (nY.loc.below m.out (fp.ok _) (ap Z r.out)) false ?_);(simp only[lc,uK];exact f.out))))
       refine io ?_;intro wq t;have F:=bC t;clear t I K M G L H;go_wp2;go_ret;exact⟨aB s.out.symm,u.trans (F.mono u.size)⟩
     .have t2:(p.p.toList ==q.p.toList)=false:=aa3 d;have U:(p.p.toList !=q.p.toList)=true:=by rw[bne,aa3 d];rfl
      have o:b=false:=by
       rw[<-mc,B.out];rintro rfl;exact d (jt Ls.p (dq (T.out.symm.trans P.out)))
      have s:=ab o;clear o;clear d;go_wp2;have I:=ae z;have K:=ae E;have M:=ae D;have G:=ae C;have L:=ae f0;have H:=ae g0;refine aN (by kernel_rfl) (by kernel_rfl) ?_;repeat(go_big_quiet_step (fail))
      refine io ?_;intro wq t;have F:=bC t;clear t I K M G L H;go_wp2;go_ret;exact⟨aB s.out.symm,u.trans (F.mono u.size)⟩
    .obtain rfl:k=x.all.length:=by omega
     have ht:b=true:=by
      rw[B.out];have:=J.out;rw[ip,pa (by have:=a.out;omega)] at this;have:=v.out;cases x;cases y;simp only[Sn.mk.injEq];exact⟨by assumption,by assumption⟩
     have s:=ab ht;clear ht;go_wp2;go_ret;exact⟨aB s.out.symm,u⟩
  .have t1:((x.all.length:Int) !=y.all.length)=true:=by rw[rM];omega
   have o:b=false:=by
    rw[<-mc,B.out];rintro rfl;exact a rfl
   have s:=ab o;clear o;replace a:=ab a;go_wp2;go_ret;exact⟨aB s.out.symm,by repeat(first|exact du _ _|refine sN ?_ (by simp) _)⟩
 .have t0:(x.no !=y.no)=true:=by rw[rM];exact v
  have o:b=false:=by
   rw[<-mc,B.out];rintro rfl;exact v rfl
  have s:=ab o;clear o;clear v;go_wp2;go_ret;exact⟨aB s.out.symm,by repeat(first|exact du _ _|refine sN ?_ (by simp) _)⟩
def ajY(s t:dJ)(va vb vc vd ve vf:Value)(w:World)(lo hi a0 jy:Nat)(hs:fL w lo hi s va vb vc)(ht:fL w a0 jy t vd ve vf)(z:hi<=w.heap.size)(x:jy<=w.heap.size)(b:Bool)(Q:b=true↔s=t) :
  Calls (ai β) 6 #[.agg #[va,vb,vc],.agg #[vd,ve,vf]] w λe w'=>e=.returned (.bool b)/\Below w.heap.size w w':=by
 replace Q:=ab Q;obtain⟨h1,h2,h3⟩:=hs;obtain⟨A,a,rfl⟩:=bB.form h1;obtain⟨B,bb,rfl⟩:=bB.form h2;obtain⟨C,c,rfl⟩:=bB.form h3;obtain⟨g1,g2,g3⟩:=ht;obtain⟨A2,a2,rfl⟩:=bB.form g1;obtain⟨B2,b2,rfl⟩:=bB.form g2;obtain⟨C2,c2,rfl⟩:=bB.form g3;obtain⟨_,hc,hx⟩:=bB.len_ h1;obtain⟨_,a7,a3⟩:=bB.len_ h2;unfold maxLen at hx a3;go_enter qF6,ntmps6;by_cases u:s.pk.length=t.pk.length
 .have t1:((s.pk.length:Int) !=t.pk.length)=false:=by rw[qJ];omega
  replace u:=ab u;by_cases r:s.sn.length=t.sn.length
  .have t2:((s.sn.length:Int) !=t.sn.length)=false:=by rw[qJ];omega
   replace r:=ab r;go_wp2;generalize hG:(w.alloc (.cells #[.slice A s.pk.length a,.slice B s.sn.length bb,.slice C s.lg.length c] 27)).alloc (.cells #[.slice A2 t.pk.length a2,.slice B2 t.sn.length b2,.slice C2 t.lg.length c2] 27)=w0 at *;obtain⟨o,iz,G,cQ,dW,E,cJ,dz⟩:=oP hG;clear hG;by_cases R:s.lg=t.lg
   .replace R:=ab R;refine(agz s.lg t.lg _ _ _ lo hi a0 jy (cj.loc.below h3 o z) (cj.loc.below g3 o x) (ap z o.size) (ap x o.size) true (by simp only[tM];exact R.out)).mono ?_;rintro e w1 ⟨rfl,F⟩;replace G:=ah G F;replace cQ:=G.cell;replace dW:=G.frozen;replace E:=ah E F;replace cJ:=E.cell;replace dz:=E.frozen;replace o:=ag o F;clear F;go_wp2;go_loopw [5] (λi wr=>∃k:Nat,k<=s.pk.length/\i=.int .i64 k/\s.pk.take k=t.pk.take k/\Below w1.heap.size w1 wr) (λi _=>s.pk.length-(intOf i).toNat)
    case atStart=>exact⟨0,ff _,rfl,rfl,du _ _⟩
    case round=>
     obtain⟨k,hk,rfl,D,f⟩:=hrel;replace D:=ab D;replace G:=ah G f;replace cQ:=G.cell;replace dW:=G.frozen;replace E:=ah E f;replace cJ:=E.cell;replace dz:=E.frozen;have v:=ag o f;by_cases L:k<s.pk.length
     .obtain⟨p,Y⟩:=aq L;obtain⟨q,cX⟩:=aq (l:=t.pk) (k:=k) (by have:=u.out;omega);obtain⟨F,N,es,rfl,_,V,_,⟨v2,rfl,a5,m⟩,g⟩:=(iL.loc.below h1 v z).at_ Y;obtain⟨A3,c3,rfl⟩:=bB.form m;have H:wr.cell? ⟨F,N+k*2,none⟩=some (.int .i64 p.no):=by simpa using g 0 _ rfl
      have O:wr.cell? ⟨F,N+k*2+1,none⟩=some (.slice A3 p.its.length c3):=by simpa using g 1 _ rfl
      clear g;obtain⟨b2,iT,es,rfl,_,V,_,⟨v2,rfl,a6,j⟩,g⟩:=(iL.loc.below g1 v x).at_ cX;obtain⟨A4,c4,rfl⟩:=bB.form j;have K:wr.cell? ⟨b2,iT+k*2,none⟩=some (.int .i64 q.no):=by simpa using g 0 _ rfl
      have J:wr.cell? ⟨b2,iT+k*2+1,none⟩=some (.slice A4 q.its.length c4):=by simpa using g 1 _ rfl
      clear g;have a4:(k:Int)<(t.pk.length:Int):=by have:=u.out;omega
      have HX:=ab Y;have X:=ab cX;replace m:=ab m;replace j:=ab j;have d:=ab v.size;clear Y cX;have f0:=cQ 0;have g0:=cJ 0;by_cases n:p=q
      .replace n:=ab n;go_wp2;have W:=ae H;have Z:=ae O;have bg:=ae K;have S:=ae J;have ij:=ae f0;have U:=ae g0;refine aN (by kernel_rfl) (by kernel_rfl) ?_;repeat(go_big_quiet_step (first|(go_at_call 18;refine dS (afm p q _ _ _ _ _ _ _ (jk.loc.below m.out (fp.ok _) (ap z d.out)) (jk.loc.below j.out (fp.ok _) (ap x d.out)) (ap z (ap d.out (fp.ok _).size)) (ap x (ap d.out (fp.ok _).size)) true ?_);(simp only[tM];exact n.out))))
       refine io ?_;intro wq I;have P:=bC I;clear I W Z bg S ij U;go_wp2;go_roundw
       case rel=>first|exact⟨k+1,by omega,by go_num,by rw[li HX.out,li X.out,D.out,n.out],f.trans (P.mono f.size)⟩|((repeat apply Exists.intro);refine⟨?_,rfl⟩;exact⟨k+1,by omega,by go_num,by rw[li HX.out,li X.out,D.out,n.out],f.trans (P.mono f.size)⟩)
       simp[intOf];omega
      .have y:b=false:=by
        rw[<-mc,Q.out];rintro rfl;exact n (dq (HX.out.symm.trans X.out))
       have M:=ab y;clear y;replace n:=ab n;go_wp2;have W:=ae H;have Z:=ae O;have bg:=ae K;have S:=ae J;have ij:=ae f0;have U:=ae g0;refine aN (by kernel_rfl) (by kernel_rfl) ?_;repeat(go_big_quiet_step (first|(go_at_call 18;refine dS (afm p q _ _ _ _ _ _ _ (jk.loc.below m.out (fp.ok _) (ap z d.out)) (jk.loc.below j.out (fp.ok _) (ap x d.out)) (ap z (ap d.out (fp.ok _).size)) (ap x (ap d.out (fp.ok _).size)) false ?_);(simp only[lc,uK];exact n.out))))
       refine io ?_;intro wq I;have P:=bC I;clear I W Z bg S ij U;go_wp2;go_ret;exact⟨aB M.out.symm,v.trans (P.mono v.size)⟩
     .obtain rfl:k=s.pk.length:=by omega
      have a1:s.pk=t.pk:=by
       have:=D.out
       rwa [ip,pa (by have:=u.out;omega)] at this
      replace a1:=ab a1;clear D L hk;replace o:=v;clear v f;go_wp2;go_loopw [6] (λi wy=>∃k:Nat,k<=s.sn.length/\i=.int .i64 k/\s.sn.take k=t.sn.take k/\Below wr.heap.size wr wy) (λi _=>s.sn.length-(intOf i).toNat)
      case atStart=>exact⟨0,ff _,rfl,rfl,du _ _⟩
      case round=>
       obtain⟨k,hk,rfl,D,f⟩:=hrel;replace D:=ab D;replace G:=ah G f;replace cQ:=G.cell;replace dW:=G.frozen;replace E:=ah E f;replace cJ:=E.cell;replace dz:=E.frozen;have v:=ag o f;by_cases L:k<s.sn.length
       .obtain⟨p,Y⟩:=aq L;obtain⟨q,cX⟩:=aq (l:=t.sn) (k:=k) (by have:=r.out;omega);obtain⟨F,N,es,rfl,_,V,_,⟨v2,rfl,a5,m⟩,g⟩:=(gZ.loc.below h2 v z).at_ Y;obtain⟨A3,c3,rfl⟩:=bB.form m;have H:wr.cell? ⟨F,N+k*2,none⟩=some (.int .i64 p.no):=by simpa using g 0 _ rfl
        have O:wr.cell? ⟨F,N+k*2+1,none⟩=some (.slice A3 p.all.length c3):=by simpa using g 1 _ rfl
        clear g;obtain⟨b2,iT,es,rfl,_,V,_,⟨v2,rfl,a6,j⟩,g⟩:=(gZ.loc.below g2 v x).at_ cX;obtain⟨A4,c4,rfl⟩:=bB.form j;have K:wr.cell? ⟨b2,iT+k*2,none⟩=some (.int .i64 q.no):=by simpa using g 0 _ rfl
        have J:wr.cell? ⟨b2,iT+k*2+1,none⟩=some (.slice A4 q.all.length c4):=by simpa using g 1 _ rfl
        clear g;have a4:(k:Int)<(t.sn.length:Int):=by have:=r.out;omega
        have HX:=ab Y;have X:=ab cX;replace m:=ab m;replace j:=ab j;have d:=ab v.size;clear Y cX;have f0:=cQ 1;have g0:=cJ 1;by_cases n:p=q
        .replace n:=ab n;go_wp2;have W:=ae H;have Z:=ae O;have bg:=ae K;have S:=ae J;have ij:=ae f0;have U:=ae g0;refine aN (by kernel_rfl) (by kernel_rfl) ?_;repeat(go_big_quiet_step (first|(go_at_call 19;refine dS (afn p q _ _ _ _ _ _ _ (gb.loc.below m.out (fp.ok _) (ap z d.out)) (gb.loc.below j.out (fp.ok _) (ap x d.out)) (ap z (ap d.out (fp.ok _).size)) (ap x (ap d.out (fp.ok _).size)) true ?_);(simp only[tM];exact n.out))))
         refine io ?_;intro wq I;have P:=bC I;clear I W Z bg S ij U;go_wp2;go_roundw
         case rel=>first|exact⟨k+1,by omega,by go_num,by rw[li HX.out,li X.out,D.out,n.out],f.trans (P.mono f.size)⟩|((repeat apply Exists.intro);refine⟨?_,rfl⟩;exact⟨k+1,by omega,by go_num,by rw[li HX.out,li X.out,D.out,n.out],f.trans (P.mono f.size)⟩)
         simp[intOf];omega
        .have y:b=false:=by
          rw[<-mc,Q.out];rintro rfl;exact n (dq (HX.out.symm.trans X.out))
         have M:=ab y;clear y;replace n:=ab n;go_wp2;have W:=ae H;have Z:=ae O;have bg:=ae K;have S:=ae J;have ij:=ae f0;have U:=ae g0;refine aN (by kernel_rfl) (by kernel_rfl) ?_;repeat(go_big_quiet_step (first|(go_at_call 19;refine dS (afn p q _ _ _ _ _ _ _ (gb.loc.below m.out (fp.ok _) (ap z d.out)) (gb.loc.below j.out (fp.ok _) (ap x d.out)) (ap z (ap d.out (fp.ok _).size)) (ap x (ap d.out (fp.ok _).size)) false ?_);(simp only[lc,uK];exact n.out))))
         refine io ?_;intro wq I;have P:=bC I;clear I W Z bg S ij U;go_wp2;go_ret;exact⟨aB M.out.symm,v.trans (P.mono v.size)⟩
       .obtain rfl:k=s.sn.length:=by omega
        have T:s.sn=t.sn:=by
         have:=D.out
         rwa [ip,pa (by have:=r.out;omega)] at this
        replace T:=ab T;clear D L hk;replace o:=v;clear v f;have ht:b=true:=by
         rw[Q.out];have h1:=a1.out;have h2:=T.out;have h3:=R.out;cases s;cases t;simp only[dJ.mk.injEq];exact⟨h1,h2,h3⟩
        have M:=ab ht;clear ht;go_wp2;go_ret;exact⟨aB M.out.symm,o⟩
   .replace R:=ab R;refine(agz s.lg t.lg _ _ _ lo hi a0 jy (cj.loc.below h3 o z) (cj.loc.below g3 o x) (ap z o.size) (ap x o.size) false (by simp only[lc,uK];exact R.out)).mono ?_;rintro e w1 ⟨rfl,F⟩;have y:b=false:=by
     rw[<-mc,Q.out];rintro rfl;exact R.out rfl
    have M:=ab y;clear y;go_wp2;go_ret;exact⟨aB M.out.symm,ag o F⟩
  .have t2:((s.sn.length:Int) !=t.sn.length)=true:=by rw[rM];omega
   have y:b=false:=by
    rw[<-mc,Q.out];rintro rfl;exact r rfl
   have M:=ab y;clear y;clear r;go_wp2;go_ret;exact⟨aB M.out.symm,by repeat(first|exact du _ _|refine sN ?_ (by simp) _)⟩
 .have t1:((s.pk.length:Int) !=t.pk.length)=true:=by rw[rM];omega
  have y:b=false:=by
   rw[<-mc,Q.out];rintro rfl;exact u rfl
  have M:=ab y;clear y;clear u;go_wp2;go_ret;exact⟨aB M.out.symm,by repeat(first|exact du _ _|refine sN ?_ (by simp) _)⟩
end
section
variable {β:Bool}
open Go.RowKit
def bB.adk{E:fW V}{xs:List V}{n c : Nat}(h:bB E Z w fg hi xs [.slice A n c])(q:k<=xs.length):bB E Z w fg hi (xs.take k) [.slice A k c]:=by
 obtain⟨A',p,f,r,m,l⟩:=h;simp only[qj,nF,qx] at f;obtain⟨rfl,rfl,rfl⟩:=f;have d:(xs.take k).length=k:=by rw[fa];omega
 refine⟨_,c,by rw[d],by rw[d];omega,m,λg=> ?_⟩;rw[d] at g;obtain⟨b,a,rfl,o,j,e⟩:=l (by omega);refine⟨b,a,rfl,o,j,λi x hi=> ?_⟩;rw[qA] at hi;split at hi
 .exact e _ _ hi
 .cases hi
def bH.T{xs:List Pk}(h:bH w Z hi xs cs):eK 59 kL 2 w Z hi xs cs:=aP.slT kL.ar.loc (λh=>h) h
def bW.T{xs:List Sn}(h:bW w Z hi xs cs):eK 63 ma 2 w Z hi xs cs:=aP.slT ma.ar.loc (λh=>h) h
def dF.T(h:dF w Z hi xs cs):eK 42 (bV oQ) 2 w Z hi xs cs:=aP.slT (bV.ar oQ).loc (λh=>h) h
def jJ.T(h:jJ w Z hi xs cs):eK 42 (bV oQ) 2 w Z hi xs cs:=by
 refine⟨jJ.l h,λj b k n c e=> ?_⟩;obtain⟨A,o,rfl,a,p,r,d,f⟩:=h;obtain⟨g,i,rfl,m,q,l,s⟩:=f j;simp only[qj,nF,mt,qC,qx] at e;obtain⟨⟨rfl, -⟩, -, -⟩:=e;exact⟨i,l⟩
abbrev tPk:dM (eK 59 kL 2) [59,68]:=eK.ar kL.ar
abbrev tSn:dM (eK 63 ma 2) [63,100,3]:=eK.ar ma.ar
abbrev tHd:dM (eK 42 (bV oQ) 2) [42]:=eK.ar (bV.ar oQ)
structure kV (w:World) (lo hi:Nat) (s:dJ) (va vb vc:Value):Prop where
 pk:eK 59 kL 2 w lo hi s.pk [va]
 sn:eK 63 ma 2 w lo hi s.sn [vb]
 lg:eK 42 (bV oQ) 2 w lo hi s.lg [vc]
abbrev aDN:List TypeId:=[59,68,63,100,3,42]
def Typed.more{T U:List TypeId}{b:Nat}(h:Typed w T b)(d:∀t∈T,t∈U):Typed w U b:=by
 obtain⟨t,c,a⟩:=h;exact⟨t,d t c,a⟩
def kV.typed(h:kV w Z hi s Y X W)(g:∀b,Z<=b->b<hi->Typed w aDN b->w'.heap[b]?=w.heap[b]?)(f:fg<=Z)(e:hi<=hi'):kV w' fg hi' s Y X W:=
 ⟨tPk.go (λb a c d=>g b a c (d.more (by decide))) f e h.pk,tSn.go (λb a c d=>g b a c (d.more (by decide))) f e h.sn,tHd.go (λb a c d=>g b a c (d.more (by decide))) f e h.lg⟩
def kV.go(h:kV w Z hi s Y X W)(f:∀b,Z<=b->b<hi->w'.heap[b]?=w.heap[b]?)(d:fg<=Z)(c:hi<=hi'):kV w' fg hi' s Y X W:=h.typed (λb a e _=>f b a e) d c
def kV.below{B : Nat}(h:kV w Z hi s Y X W)(a:Below B w w')(d:hi<=B):kV w' Z hi s Y X W:=h.go (λb _ c=>a.block b (by omega)) (am _) (am _)
def kV.wide(h:kV w Z hi s Y X W)(b:fg<=Z)(a:hi<=hi'):kV w fg hi' s Y X W:=h.go (λ_ _ _=>rfl) b a
def kV.l(h:kV w Z hi s Y X W):fL w Z hi s Y X W:=⟨bB.aAt kL.l h.pk.1,bB.aAt ma.l h.sn.1,h.lg.1⟩
def kV.form(h:kV w Z hi s Y X W):∃A a B b C c,Y=.slice A s.pk.length a/\X=.slice B s.sn.length b/\W=.slice C s.lg.length c:=by
 obtain⟨A,a,rfl⟩:=eK.form h.pk;obtain⟨B,b,rfl⟩:=eK.form h.sn;obtain⟨C,c,rfl⟩:=eK.form h.lg;exact⟨A,a,B,b,C,c,rfl,rfl,rfl⟩
def eY.t(h:eY w Z hi s Y X W):kV w Z hi s Y X W:=⟨bH.T h.pk,bW.T h.sn,dF.T h.lg⟩
def abo(w:World)(lo:Nat)(s:dJ)(e:Ending)(w':World):Prop:=∃c a b,e=.returned (.agg #[c,a,b])/\kV w' lo w'.heap.size s c a b/\Below w.heap.size w w'
def asB{l:List V}{p:V->Bool}{x:V}(h:l[k]?=some x):(l.take (k+1)).any p=((l.take k).any p||p x):=by
 rw[li h,List.any_append];simp
def ajZ(s:dJ)(l:iU)(hk:l.k=2)(va vb vc:Value)(w:World)(F hi:Nat)(h:eY w F hi s va vb vc)(aR:hi<=w.heap.size)(hl:kD s<=1099511627) :
  Calls (ai β) 21 #[.agg #[va,vb,vc],.int .i64 l.n] w (abo w F (dK s l)):=by
 obtain⟨h1,h2,h3⟩:=h;obtain⟨A,a,rfl⟩:=aP.form h1;obtain⟨B,b,rfl⟩:=aP.form h2;obtain⟨C,c,rfl⟩:=aP.form h3;obtain⟨_,bX,D⟩:=(bW.l h2).len_;obtain⟨_,c0,bi⟩:=(dF.l h3).len_;unfold maxLen at D bi;unfold kD at hl;have bR:=dU (f:=bSn) (l:=s.sn);have bA:F<=hi:=by
  obtain⟨_,_,_,_,_,b5⟩:=h1;exact b5.le
 by_cases kF:0<=l.n/\l.n<=(s.lg.length:Int)
 .rw[mQ hk kF];have jZ:(decide (0<=l.n)&&decide (l.n<=(s.lg.length:Int)))=true:=by rw[ge];exact⟨dj kF.1,dj kF.2⟩
  have P:=ab jZ;obtain⟨d,a8⟩:=ql kF.1;have ao:l.n.toNat=d:=by omega
  rw[ao];have b0:d<=s.lg.length:=by omega
  rw[a8] at P ⊢;have bp:l.n=((d:Nat):Int):=a8;clear jZ kF ao a8;have g1:¬(((d:Nat):Int)<0):=by omega
  have g2:((d:Nat):Int)<=(s.lg.length:Int):=by omega
  have g3:((d:Nat):Int)<=(c:Int):=by omega
  have K:cj w F hi (s.lg.drop d) [.slice (if c=d then C else Option.map (λx=>x.add (d*2)) C) (s.lg.length-d) (c-d)]:=bB.am9 (dF.l h3) b0;have bo:eK 42 (bV oQ) 2 w F hi (s.lg.take d) [.slice C d c]:=eK.adk (dF.T h3) b0;obtain⟨AD,a9⟩:∃AD,(if c=d then C else Option.map (λx=>x.add (d*2)) C)=AD:=⟨_,rfl⟩;rw[a9] at K;clear bp;go_enter yk,ntmps21;go_wp2;generalize hG:(w.alloc (.cells #[.slice A s.pk.length a,.slice B s.sn.length b,.slice C s.lg.length c] 27)).alloc (.cells #[.slice none 0 0,.slice none 0 0,.slice none 0 0] 27)=w0 at *;obtain⟨aH,iz,k0,cQ,dW,k1,cJ,dz⟩:=oP hG;clear hG;refine(lz ((d:Nat):Int) 0 s.lg.length w0).mono ?_;rintro e w1 ⟨rfl,rfl⟩;rw[P.out];go_wp2;have a5:=k0.bj 2 (.slice C d c);simp only[bv,ef,fd] at a5;have ba:=av (w0.setCell ⟨w.heap.size,2,none⟩ (.slice C d c)) (.cells #[] 63);have W:=ah a5 ba;have q1:=ah (bZ k1 (p:=⟨w.heap.size,2,none⟩) (.slice C d c) (by dsimp only;omega)) ba;have ay:=ag (aH.setCell (p:=⟨w.heap.size,2,none⟩) (by dsimp only;omega) (.slice C d c)) ba;have b1:=eE.new (w0.setCell ⟨w.heap.size,2,none⟩ (.slice C d c)) 63 (am _);have bS:((w0.setCell ⟨w.heap.size,2,none⟩ (.slice C d c)).alloc (.cells #[] 63)).heap.size=w0.heap.size+1:=by simp
  have Y:gX ma 2 63 ((w0.setCell ⟨w.heap.size,2,none⟩ (.slice C d c)).alloc (.cells #[] 63)) F w.heap.size (.slice (some ⟨w0.heap.size,0,none⟩) 0 0) []:=gX.aiS (by
   have:=b1;simp only[be] at this;obtain⟨g,e,_,hk⟩:=this;cases e;exact⟨_,rfl,by omega,hk⟩)
  clear k0 k1 cQ cJ dW dz a5 ba b1;generalize (w0.setCell ⟨w.heap.size,2,none⟩ (.slice C d c)).alloc (.cells #[] 63)=w2 at *;have S:(s.lg.drop d).length=s.lg.length-d:=qr;have bN:=ab S;rw[<-S];rw[<-S] at K;clear S a9;obtain⟨o,V⟩:∃o,o=s.lg.drop d:=⟨_,rfl⟩;rw[<-V] at K ⊢;obtain⟨_,bL,bn⟩:=K.len_;unfold maxLen at bn;have HI:=ab (And.intro W (And.intro q1 ay));replace Y:=ab Y;replace V:=ab V;clear W q1 ay;go_loopw [6,7] (λoo ii wr=>∃k:Nat,k<=s.sn.length/\ii=.int .i64 k/\gX ma 2 63 wr F w.heap.size oo ((s.sn.take k).filter λx=>!(o.any λh=>h.s ==x.no))/\aX wr w.heap.size 27 #[.slice A s.pk.length a,.slice B s.sn.length b,.slice C d c]/\aX wr (w.heap.size+1) 27 #[.slice none 0 0,.slice none 0 0,.slice none 0 0]/\Below w.heap.size w wr) (λ_ ii _=>s.sn.length-(intOf ii).toNat)
  case atStart=>exact⟨0,ff _,rfl,Y.out,HI.out⟩
  case round=>
   clear Y HI;obtain⟨k,bx,rfl,L,W,q1,Q⟩:=hrel;obtain⟨Ao,co,rfl⟩:=L.form;have cq:wr.cell? ⟨w.heap.size,1,none⟩=some (.slice B s.sn.length b):=W.cell 1;by_cases b9:k<s.sn.length
   .obtain⟨y,cX⟩:=aq b9;obtain⟨b',a4,R,e0,_,bz,_,⟨v2,rfl,br,hr⟩,J⟩:=(gZ.loc.below (bW.l h2) Q aR).at_ cX;subst e0;obtain⟨A2,c2,rfl⟩:=bB.form hr;replace cX:=ab cX;replace L:=ab L;clear J hr;go_wp2;obtain⟨wo,bl⟩:∃wo,wo=wr:=⟨_,rfl⟩;subst bl;go_loopw [8,9] (λgg jj wr=>∃(j:Nat) (q:Bool),j<=o.length/\jj=.int .i64 j/\gg=.bool q/\q=((o.take j).any λh=>h.s ==y.no)/\Below wo.heap.size wo wr) (λ_ jj _=>o.length-(intOf jj).toNat)
    case atStart=>exact⟨0,false,ff _,rfl,rfl,rfl,du _ _⟩
    case round=>
     obtain⟨j,q,hj,rfl,rfl,hq,t⟩:=hrel;replace hq:=ab hq;have D:=ag Q t;have ad:=aT t cq;obtain⟨b2,iT,R,e0,_,_,_,⟨v2,rfl,bt,hr⟩,J⟩:=(gZ.loc.below (bW.l h2) D aR).at_ cX.out;simp only[mt,qC,qx] at e0;obtain⟨rfl,rfl⟩:=e0;obtain⟨A3,c3,rfl⟩:=bB.form hr;have an:wr.cell? ⟨b',a4+k*2,none⟩=some (.int .i64 y.no):=by simpa using J 0 _ rfl
     have pN:wr.cell? ⟨b',a4+k*2+1,none⟩=some (.slice A3 y.all.length c3):=by simpa using J 1 _ rfl
     clear J hr;by_cases b4:j<o.length
     .obtain⟨z,a1⟩:=aq b4;obtain⟨b3,bb,R,e0,_,_,_,⟨rfl,bT⟩,G⟩:=(cj.loc.below K D aR).at_ a1;subst e0;have aZ:wr.cell? ⟨b3,bb+j*2+1,none⟩=some (.int .i64 z.s):=by simpa using G 1 _ rfl
      have r:=asB (p:=λh:Hd=>h.s ==y.no) a1;replace r:=ab r;clear G a1 pN;cases q
      .go_wp2;have aF:=ae ad;have aJ:=ae an;have bg:=ae aZ;refine aC 15 [0,1,2,3,4,5,6,7,8,9,10,11,12,13,14] [] (h:= ?_);simp only[pick,List.map,gt,gE];repeat(go_big_quiet_step (fail))
       refine io ?_;clear aF aJ bg;apply Exists.intro;refine aS ?_;intro Z hz xx df hF;dsimp only[dP] at hF;try rw[df] at hF
       clear df xx;simp only[List.drop];clear hF;go_wp2;go_roundw
       case rel=>exact⟨j+1,_,by omega,by go_num,rfl,by rw[r.out,<-hq.out];rfl,ag t hz⟩
       simp[intOf];omega
      .go_wp2;have aF:=ae ad;have aJ:=ae an;have bg:=ae aZ;refine aC 15 [0,1,2,3,4,5,6,7,8,9,10,11,12,13,14] [] (h:= ?_);simp only[pick,List.map,gt,gE];repeat(go_big_quiet_step (fail))
       refine io ?_;clear aF aJ bg;apply Exists.intro;refine aS ?_;intro Z hz xx df hF;dsimp only[dP] at hF;try rw[df] at hF
       clear df xx;simp only[List.drop];clear hF;go_wp2;go_roundw
       case rel=>exact⟨j+1,_,by omega,by go_num,rfl,by rw[r.out,<-hq.out];rfl,ag t hz⟩
       simp[intOf];omega
     .obtain rfl:j=o.length:=by omega
      have a2:=hq.out;rw[ip] at a2;have al:=ab a2;have zo:=t.size;have fu:=L.out.below ma.ar t;have T:=ah W t;have O:=ah q1 t;clear a2;cases q
      .have hp:(o.any λh=>h.s ==y.no)=false:=al.out.symm;have H:=jW (p:=λx:Sn=>o.any λh=>h.s ==x.no) cX.out hp;have HF:=ab H;obtain⟨m,m',R,l1,l2,l3,ax,⟨v5,rfl,bk,I⟩,n, -⟩:∃m m' R,F<=m/\m<=m'/\m'<=hi/\R.length=2/\ma wr m m' y R/\(∀j u,R[j]?=some u->wr.cell? ⟨b',a4+k*2+j,none⟩=some u)/\True:=by
        have aa:=bW.ar.below h2 D aR;obtain⟨g,c9,e9,g1,g2,g3,ds,oU⟩:=aP.some_ aa (by omega);simp only[nF,mt,qC,qx] at e9;obtain⟨⟨rfl,rfl⟩, -,rfl⟩:=e9;obtain⟨m,m',R,l1,l2,l3,ax,hE,n, -⟩:=aP.at_ ma.ar (by decide) aa cX.out;exact⟨m,m',R,l1,l2,l3,ax,hE,λj u hu=>by rw[me];exact n j u hu,trivial⟩
       obtain⟨A6,c6,rfl⟩:=aP.form I;have a6:=n 1 _ rfl;rw[pN] at a6;simp only[mt,nF,true_and] at a6;obtain⟨rfl,rfl⟩:=a6;have b7:((s.sn.take k).filter λx=>!(o.any λh=>h.s ==x.no)).length<=s.sn.length:=ap (rZ _ _) (by rw[fa];omega);have aU:ma wr F wr.heap.size y [.int .i64 y.no,.slice A3 y.all.length c3]:=
        ma.ar.wide (⟨_,rfl,bk,I⟩:ma wr m m' y [.int .i64 y.no,.slice A3 y.all.length c3]) l1 (by have:=D.size;omega)
       have X:=ab fu;have bf:=ab aU;have a7:=ab D;have U:=ab (And.intro T O);clear fu aU n I T O H L;obtain⟨M,hM⟩:∃M,M=((s.sn.take k).filter λx=>!(o.any λh=>h.s ==x.no)):=⟨_,rfl⟩;rw[<-hM] at X HF b7 ⊢;clear hM;go_wp2_with(at_builtin;refine gK ?_);refine⟨?_,trivial⟩;refine aiV ma.ar (by decide) rfl (.tmp 57) (.tmp 63) 24 rfl ad2 y rfl X.out rfl rfl (by simp[Value.oneCell']) bf.out (by omega) (by have:=a7.out.size;omega) ?_;intro v8 w8 o8 a0 bw;obtain⟨A8,c8,rfl⟩:=o8.form;simp only[aE,gc,mp,me] at o8;go_wp2;go_roundw
       case rel=>
        have jg:∀b,(Value.slice Ao M.length co).ownBlock=some b->w.heap.size<=b/\∃ds,aX wr b 63 ds:=λb hb=>⟨(X.out.at_ hb).1,X.out.blk hb⟩;refine⟨k+1,by omega,by go_num,by rw[HF.out];exact o8,aQ U.out.1 a0 λE=> ?_,aQ U.out.2 a0 λE=> ?_,a7.out.trans (a0.below a7.out.size λi hi E=>by have:=(jg i E).1;omega)⟩
        .obtain⟨_,ds,hd⟩:=jg _ E;exact absurd (cI U.out.1 hd) (by decide)
        .obtain⟨_,ds,hd⟩:=jg _ E;exact absurd (cI U.out.2 hd) (by decide)
       case measure=>simp[intOf];omega
      .have hp:(o.any λh=>h.s ==y.no)=true:=al.out.symm;have H:=iO (p:=λx:Sn=>o.any λh=>h.s ==x.no) cX.out hp;have HF:=ab H;have a3:=ab (And.intro fu (And.intro T O));clear H hp fu T O;go_wp2;go_roundw
       case rel=>exact⟨k+1,by omega,by go_num,by rw[HF.out];exact a3.out.1,a3.out.2.1,a3.out.2.2,D⟩
       simp[intOf];omega
   .obtain rfl:k=s.sn.length:=by omega
    rw[ip] at L;have bI:=W.cell;have bq:=W.frozen;have b6:=q1.cell;have bO:=q1.frozen;replace L:=ab L;go_wp2;obtain⟨Z,af⟩:∃Z,Z=((((wr.setCell ⟨w.heap.size,1,none⟩ (.slice Ao (s.sn.filter λx=>!(o.any λh=>h.s ==x.no)).length co)).setCell ⟨w.heap.size+1,0,none⟩ (.slice A s.pk.length a)).setCell ⟨w.heap.size+1,1,none⟩ (.slice Ao (s.sn.filter λx=>!(o.any λh=>h.s ==x.no)).length co)).setCell ⟨w.heap.size+1,2,none⟩ (.slice C d c)):=⟨_,rfl⟩;have G:bh (λb=>b=w.heap.size\/b=w.heap.size+1) wr Z:=by
     rw[af];exact((((bh.refl _ wr).setCell (.inl (.inl rfl)) _).setCell (.inl (.inr rfl)) _).setCell (.inl (.inr rfl)) _).setCell (.inl (.inr rfl)) _
    have N:Below w.heap.size w Z:=Q.trans (G.below Q.size λi hi E=>by rcases E with E|E<;>omega);have b8:gX ma 2 63 Z F w.heap.size (.slice Ao (s.sn.filter λx=>!(o.any λh=>h.s ==x.no)).length co) (s.sn.filter λx=>!(o.any λh=>h.s ==x.no)):=by
     refine L.out.fe ma.ar G (λb hb E=> ?_) (λb _ ht E=> ?_)
     .obtain⟨ds,hd⟩:=L.out.blk hb;rcases E with rfl|rfl
      .exact absurd (cI W hd) (by decide)
      .exact absurd (cI q1 hd) (by decide)
     .rcases E with rfl|rfl
      .exact dC W (by decide) ht
      .exact dC q1 (by decide) ht
    refine nf (v:=.agg #[.slice A s.pk.length a,.slice Ao (s.sn.filter λx=>!(o.any λh=>h.s ==x.no)).length co,.slice C d c]) (by simp[results,results21,go_sem,b6]) rfl ?_;rw[<-af,<-V.out];have zb:=N.size;exact⟨_,_,_,rfl,⟨tPk.wide (tPk.below (bH.T h1) N aR) (am _) (by omega),gX.sl b8 (by omega),by
     have:=tHd.wide (fg:=F) (hi':=Z.heap.size) (tHd.below bo N aR) (am _) (by omega);have e:(s.lg.take d).length=d:=by rw[fa];omega
     exact this⟩,N⟩
 .rw[kT hk kF];have jZ:(decide (0<=l.n)&&decide (l.n<=(s.lg.length:Int)))=false:=by
   rw[sW];by_cases h0:0<=l.n
   .exact .inr (db λh=>kF ⟨h0,h⟩)
   .exact .inl (db h0)
  have P:=ab jZ;clear jZ kF;go_enter yk,ntmps21;go_wp2;generalize hG:(w.alloc (.cells #[.slice A s.pk.length a,.slice B s.sn.length b,.slice C s.lg.length c] 27)).alloc (.cells #[.slice none 0 0,.slice none 0 0,.slice none 0 0] 27)=w0 at *;obtain⟨aH,iz,k0,cQ,dW,k1,cJ,dz⟩:=oP hG;clear hG;refine(lz l.n 0 s.lg.length w0).mono ?_;rintro e w1 ⟨rfl,rfl⟩;rw[P.out];go_wp2;refine nf (v:=.agg #[.slice A s.pk.length a,.slice B s.sn.length b,.slice C s.lg.length c]) (by simp[results,results21,go_sem,cJ]) rfl ⟨_,_,_,rfl, ?_,((aH.setCell (by first|omega|(dsimp only;omega)) _).setCell (by first|omega|(dsimp only;omega)) _).setCell (by first|omega|(dsimp only;omega)) _⟩;have hr:kV w F hi s (.slice A s.pk.length a) (.slice B s.sn.length b) (.slice C s.lg.length c):=⟨bH.T h1,bW.T h2,dF.T h3⟩;refine(hr.below (B:=w.heap.size) ?_ aR).wide (am _) ?_
  .exact((aH.setCell (by first|omega|(dsimp only;omega)) _).setCell (by first|omega|(dsimp only;omega)) _).setCell (by first|omega|(dsimp only;omega)) _
  .simp only[be];omega
end
section
variable {β:Bool}
open Go.RowKit
def fL.form(h:fL w Z hi s Y X W):∃A a B b C c,Y=.slice A s.pk.length a/\X=.slice B s.sn.length b/\W=.slice C s.lg.length c:=by
 obtain⟨A,a,rfl⟩:=bB.form h.pk;obtain⟨B,b,rfl⟩:=bB.form h.sn;obtain⟨C,c,rfl⟩:=bB.form h.lg;exact⟨A,a,B,b,C,c,rfl,rfl,rfl⟩
def nB(w:World)(g:Nat)(u1 c d:Value)(b:Nat)(a:b≠g):(((w.setCell ⟨g,0,none⟩ u1).setCell ⟨g,1,none⟩ c).setCell ⟨g,2,none⟩ d).heap[b]?=w.heap[b]?:=by
 rw[iS _ _ _ _ a,iS _ _ _ _ a,iS _ _ _ _ a]
def amj{B:Nat}{t:TypeId}{cs:Array Value}(h:aX w g t cs)(a:Below B w w')(b:g<B):aX w' g t cs:=(a.block g b).trans h
def asC(s:dJ)(d D F:Int)(lb:ByteArray)(W:¬d=1)(X:¬d=2)(K:¬d=3)(T:¬d=4)(z G H:Value)(w:World)(E hi:Nat)(h:fL w E hi s z G H)(I:hi<=w.heap.size)(M:kD s<=1099511627) :
  Calls (ai β) 7 #[.agg #[z,G,H],.agg (nz ⟨d,D,F,lb⟩)] w (abo w w.heap.size s):=by
 have t1:(d ==1)=false:=dk.2 W;have t2:(d ==2)=false:=dk.2 X;have t3:(d ==3)=false:=dk.2 K;have Y:(d ==4)=false:=dk.2 T;obtain⟨C,c,rfl⟩:=bB.form h.lg;obtain⟨A,a,rfl⟩:=bB.form h.pk;obtain⟨B,b,rfl⟩:=bB.form h.sn;go_enter qF7,ntmps7;go_wp2;generalize O:((w.alloc (.cells #[.slice A s.pk.length a,.slice B s.sn.length b,.slice C s.lg.length c] 27)).alloc (.cells #[.int .i64 d,.int .i64 D,.int .i64 F,.string lb] 29)).alloc (.cells #[.slice none 0 0,.slice none 0 0,.slice none 0 0] 27)=w0 at *;obtain⟨j,iz,k0,cQ,dW,k,Q,U,i,J,N⟩:=adG O;refine(fq s _ _ _ w0 E hi (h.below j I) (ap I j.size) M).mono ?_;rintro e q ⟨v1,v2,v3,rfl,m,l⟩;obtain⟨n,x,rfl⟩:=aP.form m.pk;obtain⟨o,r,rfl⟩:=aP.form m.sn;obtain⟨u,t,rfl⟩:=aP.form m.lg;replace k:=ah k l;replace Q:=k.cell;replace U:=k.frozen;replace i:=ah i l;replace J:=i.cell;replace N:=i.frozen;replace j:=ag j l;have z1:=l.size;have f:=av q (.cells #[.slice n s.pk.length x,.slice o s.sn.length r,.slice u s.lg.length t] 27);have P:=(ah k f).cell;have g:=ah i f;have p:=g.cell;have S:=g.frozen;have y:=ab (ag j f);have L:kV (q.alloc (.cells #[.slice n s.pk.length x,.slice o s.sn.length r,.slice u s.lg.length t] 27)) w0.heap.size q.heap.size s _ _ _:=m.t.below f (am _);have R:=ab L;have V:=ab f.size;go_wp2;refine nf (v:=.agg #[.slice n s.pk.length x,.slice o s.sn.length r,.slice u s.lg.length t]) (by simp[results,results7,go_sem,p]) rfl ⟨_,_,_,rfl, ?_, ?_⟩
 .refine R.out.go (λb Z _=>nB _ _ _ _ _ b (by omega)) (by omega) ?_;simp only[be];exact V.out
 .exact((y.out.setCell (by dsimp only;omega) _).setCell (by dsimp only;omega) _).setCell (by dsimp only;omega) _
def asD(s:dJ)(g i:Int)(lb:ByteArray)(F K O:Value)(w:World)(I hi:Nat)(h:fL w I hi s F K O)(P:hi<=w.heap.size)(D:kD s<=1099511627) :
  Calls (ai β) 7 #[.agg #[F,K,O],.agg (nz ⟨2,g,i,lb⟩)] w (abo w w.heap.size (dK s ⟨2,g,i,lb⟩)):=by
 obtain⟨C,c,rfl⟩:=bB.form h.lg;obtain⟨A,a,rfl⟩:=bB.form h.pk;obtain⟨B,b,rfl⟩:=bB.form h.sn;go_enter qF7,ntmps7;go_wp2;generalize t:((w.alloc (.cells #[.slice A s.pk.length a,.slice B s.sn.length b,.slice C s.lg.length c] 27)).alloc (.cells #[.int .i64 2,.int .i64 g,.int .i64 i,.string lb] 29)).alloc (.cells #[.slice none 0 0,.slice none 0 0,.slice none 0 0] 27)=w0 at *;obtain⟨n,iz,k0,cQ,dW,f,H,L,d,y,E⟩:=adG t;refine(fq s _ _ _ w0 I hi (h.below n P) (ap P n.size) D).mono ?_;rintro e o ⟨v1,v2,v3,rfl,l,p⟩;obtain⟨z,Q,rfl⟩:=aP.form l.pk;obtain⟨G,J,rfl⟩:=aP.form l.sn;obtain⟨N,M,rfl⟩:=aP.form l.lg;replace f:=ah f p;replace H:=f.cell;replace L:=f.frozen;replace d:=ah d p;replace y:=d.cell;replace E:=d.frozen;replace n:=ag n p;have z1:=p.size;have W:=av o (.cells #[.slice z s.pk.length Q,.slice G s.sn.length J,.slice N s.lg.length M] 27);have X:=(ah f W).cell;go_wp2;generalize t:o.alloc (.cells #[.slice z s.pk.length Q,.slice G s.sn.length J,.slice N s.lg.length M] 27)=w3 at *;obtain⟨j,Z,m0,mz,a0⟩:=mK t;replace f:=ah f j;replace H:=f.cell;replace L:=f.frozen;replace d:=ah d j;replace y:=d.cell;replace E:=d.frozen;have x:=ag n j;have T:eY w3 w0.heap.size o.heap.size s _ _ _:=⟨bH.ar.below l.pk j (am _),bW.ar.below l.sn j (am _),dF.ar.below l.lg j (am _)⟩;have z3:=j.size;refine(ajZ s ⟨2,g,i,lb⟩ rfl _ _ _ w3 w0.heap.size o.heap.size T (by omega) D).mono ?_;rintro e w5 ⟨ua,ub,uc,rfl,q,k⟩;have R:=ah m0 k;have m:=ah d k;have r:=ag x k;have z5:=k.size;have a1:=R.cell;have u:=m.cell;have Y:=m.frozen;obtain⟨A5,S,B5,k,U,V,rfl,rfl,rfl⟩:=q.form;replace q:=ab q;replace r:=ab r;go_wp2;refine nf (v:=.agg #[.slice A5 (dK s ⟨2,g,i,lb⟩).pk.length S,.slice B5 (dK s ⟨2,g,i,lb⟩).sn.length k,.slice U (dK s ⟨2,g,i,lb⟩).lg.length V]) (by simp[results,results7,go_sem,u]) rfl ⟨_,_,_,rfl, ?_, ?_⟩
 .refine q.out.go (λb hb _=>nB _ _ _ _ _ b (by omega)) (by omega) ?_;simp only[be];omega
 .exact((r.out.setCell (by dsimp only;omega) _).setCell (by dsimp only;omega) _).setCell (by dsimp only;omega) _
def asE(s:dJ)(r N:Int)(lb:ByteArray)(va vb vc:Value)(w:World)(lo hi:Nat)(h:fL w lo hi s va vb vc)(aR:hi<=w.heap.size)(hl:kD s<=1099511627) :
  Calls (ai β) 7 #[.agg #[va,vb,vc],.agg (nz ⟨4,r,N,lb⟩)] w (abo w w.heap.size (dK s ⟨4,r,N,lb⟩)):=by
 obtain⟨C,c,rfl⟩:=bB.form h.lg;obtain⟨_,b2,aa⟩:=h.lg.len_;unfold maxLen at aa;have b1:IntKind.i64.wrap ((s.lg.length:Int)-1)=(s.lg.length:Int)-1:=wh _ (by omega);by_cases S:0<=r/\r<(s.lg.length:Int)
 .rw[pQ (l:=⟨4,r,N,lb⟩) rfl S];have jZ:(decide (0<=r)&&decide (r<=(s.lg.length:Int)-1))=true:=by rw[ge];exact⟨dj S.1,dj (by omega)⟩
  have I:=ab jZ;obtain⟨i,rfl⟩:=ql S.1;obtain⟨y,Y⟩:=aq (l:=s.lg) (k:=i) (by omega);have a6:sd s.lg ((i:Nat):Int).toNat jX=s.lg.set i (jX y):=by
   have:((i:Nat):Int).toNat=i:=by omega
   rw[this,oh Y]
  dsimp only;rw[a6];have aZ:i<s.lg.length:=by omega
  replace Y:=ab Y;obtain⟨A,a,rfl⟩:=bB.form h.pk;obtain⟨B,b,rfl⟩:=bB.form h.sn;go_enter qF7,ntmps7;go_wp2;generalize H:((w.alloc (.cells #[.slice A s.pk.length a,.slice B s.sn.length b,.slice C s.lg.length c] 27)).alloc (.cells #[.int .i64 4,.int .i64 ((i:Nat):Int),.int .i64 N,.string lb] 29)).alloc (.cells #[.slice none 0 0,.slice none 0 0,.slice none 0 0] 27)=w0 at *;obtain⟨u,iz,k0,cQ,dW,f,M,W,d,P,U⟩:=adG H;refine(fq s _ _ _ w0 lo hi (h.below u aR) (ap aR u.size) hl).mono ?_;rintro e t ⟨v1,v2,v3,rfl,o,x⟩;obtain⟨D,G,rfl⟩:=aP.form o.pk;obtain⟨E,F,rfl⟩:=aP.form o.sn;obtain⟨O,z,rfl⟩:=aP.form o.lg;replace f:=ah f x;replace M:=f.cell;replace W:=f.frozen;replace d:=ah d x;replace P:=d.cell;replace U:=d.frozen;replace u:=ag u x;have z1:=x.size;have oL:=av t (.cells #[.slice D s.pk.length G,.slice E s.sn.length F,.slice O s.lg.length z] 27);have a4:=(ah f oL).cell;go_wp2;generalize H:t.alloc (.cells #[.slice D s.pk.length G,.slice E s.sn.length F,.slice O s.lg.length z] 27)=w3 at *;obtain⟨m,a7,m0,mz,a8⟩:=mK H;replace f:=ah f m;replace M:=f.cell;replace W:=f.frozen;replace d:=ah d m;replace P:=d.cell;replace U:=d.frozen;have L:=ag u m;have o3:eY w3 w0.heap.size t.heap.size s _ _ _:=⟨bH.ar.below o.pk m (am _),bW.ar.below o.sn m (am _),dF.ar.below o.lg m (am _)⟩;have z3:=m.size;refine(lz _ _ _ w3).mono ?_;rintro e w4 ⟨rfl,rfl⟩;rw[I.out];obtain⟨op,os,ol⟩:=o3;have hw:=dF.w ol;obtain⟨g,c',e,aH,aU,b3,ad⟩:=jJ.some_ hw (by omega);simp only[nF] at e;obtain⟨rfl, -,rfl⟩:=e;obtain⟨a3,V,al⟩:=jJ.at_ hw Y.out;have jd:oQ.good (jX y):=by
   refine⟨?_,a3.2⟩;show cE (wrap64 (3-y.b));unfold cE wrap64;omega
  have a1:w3.cell? ⟨t.heap.size,2,none⟩=some (.slice (some ⟨g,0,none⟩) s.lg.length z):=mz 2;have a9:w3.cell? ⟨w.heap.size+1,1,none⟩=some (.int .i64 ((i:Nat):Int)):=M 1;go_wp2;have aF:=ae a1;have aJ:=ae a9;have bg:=ae V;refine aC 12 [0,1,2,3,4,5,6,7,8,9,10,11] [] (h:= ?_);simp only[pick,List.map,gt,gE];repeat(go_big_quiet_step (fail))
  refine io ?_;apply Exists.intro;refine aS ?_;intro X q xx df hF;dsimp only[dP] at hF;try rw[df] at hF
  simp only[List.drop];have zz:=q.size;have Z:=ah ad q;have ax:=Z.frozen (i*2);have ay:=aT q V;have nu:=(ag L q).setCell (p:=⟨g,i*2,none⟩) (by dsimp only;omega) (.int .i64 (wrap64 (3-y.b)));have k5:=bZ (ah m0 q) (p:=⟨g,i*2,none⟩) (.int .i64 (wrap64 (3-y.b))) (by dsimp only;omega);have n:=bZ (ah d q) (p:=⟨g,i*2,none⟩) (.int .i64 (wrap64 (3-y.b))) (by dsimp only;omega);have Q:∀{T:List TypeId} (b:Nat),42∉T->Typed X T b->(X.setCell ⟨g,i*2,none⟩ (.int .i64 (wrap64 (3-y.b)))).heap[b]?=X.heap[b]?:=λb hT R=>iS _ _ _ _ (by rintro rfl;exact dC Z hT R);have r5:kV (X.setCell ⟨g,i*2,none⟩ (.int .i64 (wrap64 (3-y.b)))) w0.heap.size t.heap.size ⟨s.pk,s.sn,s.lg.set i (jX y)⟩ (.slice D s.pk.length G) (.slice E s.sn.length F) (.slice (some ⟨g,0,none⟩) s.lg.length z):=
   ⟨bH.T (bH.ar.go (fg:=w0.heap.size) (hi':=t.heap.size) (λb _ _ R=>Q b (by decide) R) (am _) (am _) (bH.ar.below op q (by omega))),
    bW.T (bW.ar.go (fg:=w0.heap.size) (hi':=t.heap.size) (λb _ _ R=>Q b (by decide) R) (am _) (am _) (bW.ar.below os q (by omega))),
    jJ.T (jJ.put (j:=0) (jJ.ar.below hw q (by omega)) Y.out (by decide) jd rfl)⟩
  have af:=k5.cell;have a0:=n.cell;have a5:=n.frozen;have z5:t.heap.size<=(X.setCell ⟨g,i*2,none⟩ (.int .i64 (wrap64 (3-y.b)))).heap.size:=by simp only[be];omega
  have ao:=(ah m0 q).cell;have an:=(ah d q).cell;have b0:=(ah d q).frozen;have a2:=ab n;have K:=ab r5;have J:=ab nu;go_wp2;refine nf (v:=.agg #[.slice D s.pk.length G,.slice E s.sn.length F,.slice (some ⟨g,0,none⟩) s.lg.length z]) (by simp[results,results7,go_sem,a2.out.cell]) rfl ⟨_,_,_,rfl, ?_, ?_⟩
  .refine K.out.go (λb hb _=>nB _ _ _ _ _ b (by omega)) (by omega) ?_;simp only[be];omega
  .exact((J.out.setCell (by dsimp only;omega) _).setCell (by dsimp only;omega) _).setCell (by dsimp only;omega) _
 .rw[kU (l:=⟨4,r,N,lb⟩) rfl S];have jZ:(decide (0<=r)&&decide (r<=(s.lg.length:Int)-1))=false:=by
   rw[sW];by_cases h0:0<=r
   .exact .inr (db λh=>S ⟨h0,by omega⟩)
   .exact .inl (db h0)
  have I:=ab jZ;obtain⟨A,a,rfl⟩:=bB.form h.pk;obtain⟨B,b,rfl⟩:=bB.form h.sn;go_enter qF7,ntmps7;go_wp2;generalize H:((w.alloc (.cells #[.slice A s.pk.length a,.slice B s.sn.length b,.slice C s.lg.length c] 27)).alloc (.cells #[.int .i64 4,.int .i64 r,.int .i64 N,.string lb] 29)).alloc (.cells #[.slice none 0 0,.slice none 0 0,.slice none 0 0] 27)=w0 at *;obtain⟨u,iz,k0,cQ,dW,f,M,W,d,P,U⟩:=adG H;refine(fq s _ _ _ w0 lo hi (h.below u aR) (ap aR u.size) hl).mono ?_;rintro e t ⟨v1,v2,v3,rfl,o,x⟩;obtain⟨D,G,rfl⟩:=aP.form o.pk;obtain⟨E,F,rfl⟩:=aP.form o.sn;obtain⟨O,z,rfl⟩:=aP.form o.lg;replace f:=ah f x;replace M:=f.cell;replace W:=f.frozen;replace d:=ah d x;replace P:=d.cell;replace U:=d.frozen;replace u:=ag u x;have z1:=x.size;have oL:=av t (.cells #[.slice D s.pk.length G,.slice E s.sn.length F,.slice O s.lg.length z] 27);have a4:=(ah f oL).cell;go_wp2;generalize H:t.alloc (.cells #[.slice D s.pk.length G,.slice E s.sn.length F,.slice O s.lg.length z] 27)=w3 at *;obtain⟨m,a7,m0,mz,a8⟩:=mK H;replace f:=ah f m;replace M:=f.cell;replace W:=f.frozen;replace d:=ah d m;replace P:=d.cell;replace U:=d.frozen;have L:=ag u m;have o3:eY w3 w0.heap.size t.heap.size s _ _ _:=⟨bH.ar.below o.pk m (am _),bW.ar.below o.sn m (am _),dF.ar.below o.lg m (am _)⟩;have z3:=m.size;refine(lz _ _ _ w3).mono ?_;rintro e w5 ⟨rfl,rfl⟩;rw[I.out];have k5:=m0;have n:=d;have nu:=L;have r5:=o3.t;have z5:=z3;have af:=k5.cell;have a0:=n.cell;have a5:=n.frozen;have K:=ab r5;have J:=ab nu;go_wp2;refine nf (v:=.agg #[.slice D s.pk.length G,.slice E s.sn.length F,.slice O s.lg.length z]) (by simp[results,results7,go_sem,a0]) rfl ⟨_,_,_,rfl, ?_, ?_⟩
  .refine K.out.go (λb hb _=>nB _ _ _ _ _ b (by omega)) (by omega) ?_;simp only[be];omega
  .exact((J.out.setCell (by dsimp only;omega) _).setCell (by dsimp only;omega) _).setCell (by dsimp only;omega) _
end
section
variable {β:Bool}
open Go.RowKit
def asF(s:dJ)(d lm:Int)(lb:ByteArray)(va vb vc:Value)(w:World)(lo hi:Nat)(h:fL w lo hi s va vb vc)(aR:hi<=w.heap.size)(hl:kD s<=1099511627) :
  Calls (ai β) 7 #[.agg #[va,vb,vc],.agg (nz ⟨1,d,lm,lb⟩)] w (abo w w.heap.size (dK s ⟨1,d,lm,lb⟩)):=by
 rw[pO (l:=⟨1,d,lm,lb⟩) rfl];dsimp only;have a9:=dU (f:=bPk) (l:=s.pk);have ba:s.pk.length<=1099511627:=by unfold kD at hl;omega
 clear a9;obtain⟨C,c,rfl⟩:=bB.form h.lg;obtain⟨A,a,rfl⟩:=bB.form h.pk;obtain⟨B,b,rfl⟩:=bB.form h.sn;go_enter qF7,ntmps7;go_wp2;generalize U:((w.alloc (.cells #[.slice A s.pk.length a,.slice B s.sn.length b,.slice C s.lg.length c] 27)).alloc (.cells #[.int .i64 1,.int .i64 d,.int .i64 lm,.string lb] 29)).alloc (.cells #[.slice none 0 0,.slice none 0 0,.slice none 0 0] 27)=w0 at *;obtain⟨Q,iz,k0,cQ,dW,u,cJ,dz,x,fA,iN⟩:=adG U;clear U;refine(fq s _ _ _ w0 lo hi (h.below Q aR) (ap aR Q.size) hl).mono ?_;rintro e n ⟨v1,v2,v3,rfl,K,W⟩;obtain⟨A1,a1,rfl⟩:=aP.form K.pk;obtain⟨B1,og,rfl⟩:=aP.form K.sn;obtain⟨C1,c1,rfl⟩:=aP.form K.lg;replace u:=ah u W;replace cJ:=u.cell;replace dz:=u.frozen;replace x:=ah x W;replace fA:=x.cell;replace iN:=x.frozen;replace Q:=ag Q W;have z1:=W.size;clear k0 cQ dW;have oL:=av n (.cells #[.slice A1 s.pk.length a1,.slice B1 s.sn.length og,.slice C1 s.lg.length c1] 27);have ax:=(ah u oL).cell;go_wp2;clear oL ax;generalize U:(n.alloc (.cells #[.slice A1 s.pk.length a1,.slice B1 s.sn.length og,.slice C1 s.lg.length c1] 27)).alloc (.cells #[] 59)=w3 at *;obtain⟨E,bi,m0,mz,ad,m1,ao,a8⟩:=oP U;clear U;replace u:=ah u E;replace cJ:=u.cell;replace dz:=u.frozen;replace x:=ah x E;replace fA:=x.cell;replace iN:=x.frozen;have al:=ag Q E;have o3:eY w3 w0.heap.size n.heap.size s _ _ _:=⟨bH.ar.below K.pk E (am _),bW.ar.below K.sn E (am _),dF.ar.below K.lg E (am _)⟩;have z3:=E.size;clear K Q E W;have HO:=ab (show gX kL 2 59 w3 w0.heap.size (n.heap.size+1) (.slice (some ⟨n.heap.size+1,0,none⟩) 0 0) [] from gX.aiS ⟨_,rfl,am _,m1⟩);have b0:w.heap.size+1+1<n.heap.size:=by omega
 clear m1 ao a8 cJ dz fA iN mz ad;go_loopw [6,7] (λoo ii wr=>∃k:Nat,k<=s.pk.length/\ii=.int .i64 k/\gX kL 2 59 wr w0.heap.size (n.heap.size+1) oo ((s.pk.take k).filter λp=>!(p.no ==d))/\Below (n.heap.size+1) w3 wr) (λ_ ii _=>s.pk.length-(intOf ii).toNat)
 case atStart=>exact⟨0,ff _,rfl,HO.out,du _ _⟩
 case round=>
  clear HO;obtain⟨k,b2,rfl,I,j⟩:=hrel;obtain⟨D,F,rfl⟩:=I.form;have G:=amj m0 j (by omega);have q1:=amj u j (by omega);have Y:=amj x j (by omega);have zr:=j.size;have cm:wr.cell? ⟨n.heap.size,0,none⟩=some (.slice A1 s.pk.length a1):=G.cell 0;have P:wr.cell? ⟨w.heap.size+1,1,none⟩=some (.int .i64 d):=q1.cell 1;by_cases aa:k<s.pk.length
  .obtain⟨y,cX⟩:=aq aa;have N:=bH.ar.below o3.pk j (by omega);obtain⟨g,c',e,b7,bk,b5,a6,aU⟩:=aP.some_ N (by omega);simp only[nF] at e;obtain⟨rfl, -,rfl⟩:=e;obtain⟨m,m',es,l1,l2,l3,bb,⟨v2,rfl,a4,t⟩,o, -⟩:=aP.at_ kL.ar (by decide) N cX;obtain⟨A2,c2,rfl⟩:=aP.form t;have z:wr.cell? ⟨g,k*2,none⟩=some (.int .i64 y.no):=o 0 _ rfl;have a3:wr.cell? ⟨g,k*2+1,none⟩=some (.slice A2 y.its.length c2):=o 1 _ rfl;have HY:=ab cX;have HR:=ab t;have HO:=ab I;have a7:((s.pk.take k).filter λp=>!(p.no ==d)).length<=s.pk.length:=ap (rZ _ _) (by rw[fa];omega);clear o cX t I N a6 aU;by_cases hp:y.no=d
   .have t1:(y.no ==d)=true:=oE.2 hp;have r:=iO (p:=λp:Pk=>p.no ==d) HY.out t1;have HF:=ab r;clear r hp;go_wp2;have aF:=ae cm;have aJ:=ae z;have bg:=ae P;refine aC 9 [0,1,2,3,4,5,6,7,8] [] (h:= ?_);simp only[pick,List.map,gt,gE];repeat(go_big_quiet_step (fail))
    refine io ?_;clear aF aJ bg;apply Exists.intro;refine aS ?_;intro wz q xx Z J;dsimp only[dP] at J;try rw[Z] at J
    clear Z xx;simp only[List.drop];clear J;have zz:=q.size;go_wp2;go_roundw
    case rel=>exact⟨k+1,by omega,by go_num,by rw[HF.out];exact HO.out.below kL.ar q,j.trans (q.mono (by omega))⟩
    simp[intOf];omega
   .have t1:(y.no ==d)=false:=dk.2 hp;have r:=jW (p:=λp:Pk=>p.no ==d) HY.out t1;have HF:=ab r;clear r hp;go_wp2;have aF:=ae cm;have aJ:=ae z;have bg:=ae P;refine aC 9 [0,1,2,3,4,5,6,7,8] [] (h:= ?_);simp only[pick,List.map,gt,gE];repeat(go_big_quiet_step (fail))
    refine io ?_;clear aF aJ bg;apply Exists.intro;refine aS ?_;intro wz q xx Z J;dsimp only[dP] at J;try rw[Z] at J
    clear Z xx;simp only[List.drop];clear J;have zz:=q.size;have b8:=aT q cm;have b4:=aT q z;have b9:=aT q a3;have O:=ab (HO.out.below kL.ar q);have af:=ab (show kL wz w0.heap.size wz.heap.size y [.int .i64 y.no,.slice A2 y.its.length c2] from kL.ar.wide (kL.ar.below (⟨_,rfl,a4,HR.out⟩:kL wr m m' y [.int .i64 y.no,.slice A2 y.its.length c2]) q (by omega)) l1 (by omega));have a2:=ab (j.trans (q.mono (by omega)):Below (n.heap.size+1) w3 wz);clear HO HR cm z a3 P G q1 Y;obtain⟨M,hM⟩:∃M,M=((s.pk.take k).filter λp=>!(p.no ==d)):=⟨_,rfl⟩;rw[<-hM] at O HF a7 ⊢;clear hM;go_wp2_with(at_builtin;refine gK ?_);refine⟨?_,trivial⟩;refine aiV kL.ar (by decide) rfl (.tmp 32) (.tmp 38) 23 rfl adZ y rfl O.out rfl rfl (by simp[Value.oneCell']) af.out (by omega) (by have:=a2.out.size;omega) ?_;intro v8 w8 o8 a5 b1;obtain⟨A8,c8,rfl⟩:=o8.form;simp only[aE,gc,mp,me] at o8;go_wp2;go_roundw
    case rel=>
     refine⟨k+1,by omega,by go_num,by rw[HF.out];exact o8,a2.out.trans (a5.below (by omega) λi hi hs=> ?_)⟩;have:=(O.out.at_ hs).1;omega
    case measure=>simp[intOf];omega
  .obtain rfl:k=s.pk.length:=by omega
   rw[ip] at I;have a0:Below w.heap.size w wr:=al.trans (j.mono (by omega));have V:bh (λb=>b=n.heap.size) wr (wr.setCell ⟨n.heap.size,0,none⟩ (.slice D (s.pk.filter λp=>!(p.no ==d)).length F)):=(bh.refl (λb=>b=n.heap.size) wr).setCell (p:=⟨n.heap.size,0,none⟩) (.inl rfl) _;have S:=I.fe kL.ar V (λb hb hs=>by have:=(I.at_ hb).1;omega) (λb _ H hs=>by have an:b=n.heap.size:=hs;subst an;exact dC G (by decide) H);have nu:=a0.setCell (p:=⟨n.heap.size,0,none⟩) (by dsimp only;omega) (.slice D (s.pk.filter λp=>!(p.no ==d)).length F);have X:=G.bj 0 (.slice D (s.pk.filter λp=>!(p.no ==d)).length F);simp only[bv,ef,fd] at X;have R:=bZ Y (p:=⟨n.heap.size,0,none⟩) (.slice D (s.pk.filter λp=>!(p.no ==d)).length F) (by dsimp only;omega);have L:∀{T:List TypeId} (b:Nat),27∉T->Typed wr T b->(wr.setCell ⟨n.heap.size,0,none⟩ (.slice D (s.pk.filter λp=>!(p.no ==d)).length F)).heap[b]?=wr.heap[b]?:=λb hT H=>iS _ _ _ _ (by rintro rfl;exact dC G hT H);have r5:kV (wr.setCell ⟨n.heap.size,0,none⟩ (.slice D (s.pk.filter λp=>!(p.no ==d)).length F)) w0.heap.size wr.heap.size ⟨s.pk.filter λp=>!(p.no ==d),s.sn,s.lg⟩ (.slice D (s.pk.filter λp=>!(p.no ==d)).length F) (.slice B1 s.sn.length og) (.slice C1 s.lg.length c1):=by
    refine⟨?_, ?_, ?_⟩
    .have:=gX.sl S (by omega);simpa using this
    .exact tSn.wide (bW.T (bW.ar.go (fg:=w0.heap.size) (hi':=n.heap.size) (λb _ _ H=>L b (by decide) H) (am _) (am _) (bW.ar.below o3.sn j (by omega)))) (am _) (by omega)
    .exact tHd.wide (dF.T (dF.ar.go (fg:=w0.heap.size) (hi':=n.heap.size) (λb _ _ H=>L b (by decide) H) (am _) (am _) (dF.ar.below o3.lg j (by omega)))) (am _) (by omega)
   have K5:=ab R;have aH:=ab r5;have ay:=ab nu;have b6:=G.cell;have aZ:=G.frozen;have bf:=Y.cell;have b3:=Y.frozen;clear I S R r5 nu X L V G q1 Y a0;go_wp2;refine nf (v:=.agg #[.slice D (s.pk.filter λp=>!(p.no ==d)).length F,.slice B1 s.sn.length og,.slice C1 s.lg.length c1]) (by simp[results,results7,go_sem,K5.out.cell]) rfl ⟨_,_,_,rfl, ?_, ?_⟩
   .refine aH.out.go (λb hb _=>nB _ _ _ _ _ b (by omega)) (by omega) ?_;simp only[be];omega
   .exact((ay.out.setCell (by dsimp only;omega) _).setCell (by dsimp only;omega) _).setCell (by dsimp only;omega) _
end
section
variable {β:Bool}
open Go.RowKit
def asG(s:dJ)(q k:Int)(lb:ByteArray)(b9:lb.size<=maxLen)(va vb vc:Value)(w:World)(lo hi:Nat)(h:fL w lo hi s va vb vc)(aR:hi<=w.heap.size)(hl:kD s<=1099511627) :
  Calls (ai β) 7 #[.agg #[va,vb,vc],.agg (nz ⟨3,q,k,lb⟩)] w (abo w w.heap.size (dK s ⟨3,q,k,lb⟩)):=by
 rw[pP (l:=⟨3,q,k,lb⟩) rfl];have bk:=dU (f:=bPk) (l:=s.pk);have bt:s.pk.length<=1099511627:=by unfold kD at hl;omega
 obtain⟨C,c,rfl⟩:=bB.form h.lg;obtain⟨A,a,rfl⟩:=bB.form h.pk;obtain⟨B,b,rfl⟩:=bB.form h.sn;go_enter qF7,ntmps7;go_wp2;generalize hG:((w.alloc (.cells #[.slice A s.pk.length a,.slice B s.sn.length b,.slice C s.lg.length c] 27)).alloc (.cells #[.int .i64 3,.int .i64 q,.int .i64 k,.string lb] 29)).alloc (.cells #[.slice none 0 0,.slice none 0 0,.slice none 0 0] 27)=w0 at *;obtain⟨aH,iz,k0,cQ,dW,I,cJ,dz,K,fA,iN⟩:=adG hG;refine(fq s _ _ _ w0 lo hi (h.below aH aR) (ap aR aH.size) hl).mono ?_;rintro e H ⟨v1,v2,v3,rfl,o1,L⟩;obtain⟨A1,a1,rfl⟩:=aP.form o1.pk;obtain⟨B1,og,rfl⟩:=aP.form o1.sn;obtain⟨C1,c1,rfl⟩:=aP.form o1.lg;replace I:=ah I L;replace cJ:=I.cell;replace dz:=I.frozen;replace K:=ah K L;replace fA:=K.cell;replace iN:=K.frozen;replace aH:=ag aH L;have z1:=L.size;have oL:=av H (.cells #[.slice A1 s.pk.length a1,.slice B1 s.sn.length og,.slice C1 s.lg.length c1] 27);have bz:=(ah I oL).cell;go_wp2;generalize hG:H.alloc (.cells #[.slice A1 s.pk.length a1,.slice B1 s.sn.length og,.slice C1 s.lg.length c1] 27)=w3 at *;obtain⟨V,bI,m0,mz,bo⟩:=mK hG;replace I:=ah I V;replace cJ:=I.cell;replace dz:=I.frozen;replace K:=ah K V;replace fA:=K.cell;replace iN:=K.frozen;have b0:=ag aH V;have o3:eY w3 w0.heap.size H.heap.size s _ _ _:=⟨bH.ar.below o1.pk V (am _),bW.ar.below o1.sn V (am _),dF.ar.below o1.lg V (am _)⟩;have z3:=V.size;obtain⟨op,os,ol⟩:=o3;have HO:=ab op;have ba:w.heap.size+1+1<w0.heap.size:=by omega
 go_loopw [8] (λii wr=>∃j:Nat,j<=s.pk.length/\ii=.int .i64 j/\bH wr w0.heap.size H.heap.size (mA (fN ⟨3,q,k,lb⟩) s.pk j) [.slice A1 s.pk.length a1]/\bh (λb=>w0.heap.size<=b/\b<H.heap.size/\Typed w3 [68] b) w3 wr) (λii _=>s.pk.length-(intOf ii).toNat)
 case atStart=>exact⟨0,ff _,rfl,by rw[afc];exact HO.out,bh.refl _ _⟩
 case round=>
  obtain⟨j,hj,rfl,ho,F⟩:=hrel;have zr:=F.size;have q0:=aQ m0 F λJ=>by omega
  have q1:=aQ I F λJ=>by omega
  have q2:=aQ K F λJ=>by omega
  have cm:wr.cell? ⟨H.heap.size,0,none⟩=some (.slice A1 s.pk.length a1):=q0.cell 0;have a4:wr.cell? ⟨w.heap.size+1,1,none⟩=some (.int .i64 q):=q1.cell 1;have M:wr.cell? ⟨w.heap.size+1,2,none⟩=some (.int .i64 k):=q1.cell 2;have ay:wr.cell? ⟨w.heap.size+1,3,none⟩=some (.string lb):=q1.cell 3;by_cases aa:j<s.pk.length
  .obtain⟨x,cD⟩:=aq aa;have ao:=acT (fN ⟨3,q,k,lb⟩) cD;have an:=agt (fN ⟨3,q,k,lb⟩) s.pk j;obtain⟨g,c',e,bp,bL,bn,bi,bO⟩:=aP.some_ ho (by rw[an];omega);simp only[nF] at e;obtain⟨rfl, -,rfl⟩:=e;have HX:=ab cD;have b7:=ab ao;have z:=abk (fN ⟨3,q,k,lb⟩) cD;replace z:=ab z;obtain⟨m,m',es,l1,l2,l3,bw,⟨v2,rfl,a8,n⟩,E,a3⟩:=aP.at_ kL.ar (by decide) ho b7.out;obtain⟨A2,c2,rfl⟩:=aP.form n;obtain⟨_,mn,jy⟩:=(abg.l n).len_;unfold maxLen at jy;have N:wr.cell? ⟨g,j*2,none⟩=some (.int .i64 x.no):=E 0 _ rfl;have O:wr.cell? ⟨g,j*2+1,none⟩=some (.slice A2 x.its.length c2):=E 1 _ rfl;replace n:=ab n;replace a3:=ab a3;by_cases P:x.no=q
   .have t1:(x.no ==q)=true:=oE.2 P;replace P:=ab P;by_cases G:0<=k/\k<(x.its.length:Int)
    .have jZ:(decide (0<=k)&&decide (k<=(x.its.length:Int)-1))=true:=by rw[ge];exact⟨dj G.1,dj (by omega)⟩
     have R:=ab jZ;replace G:=ab G;have aZ:IntKind.i64.wrap ((x.its.length:Int)-1)=(x.its.length:Int)-1:=wh _ (by omega);go_wp2;have aF:=ae cm;have aJ:=ae N;have bg:=ae O;have dD:=ae a4;have ij:=ae M;refine aC 22 [0,1,2,3,4,5,6,7,8,9,10,11,12,13,14,15,16,17,18,19] [20,21] (h:= ?_);simp only[pick,List.map,gt,gE];repeat(go_big_quiet_step (fail))
     refine io ?_;apply Exists.intro;apply dL (.bool true)
     .intro y o Qx d;replace d:=ab d;go_wp2;refine(lz _ _ _ y.to).mono ?_;rintro e wy ⟨rfl,rfl⟩;rw[R.out];go_wp2;exact d.out _ (du _ _)
     apply dL (.bool true)
     .intro y o Qx d;replace d:=ab d;go_wp2;exact d.out _ (du _ _)
     simp only[Act.put,bv,ef,fd];refine aS ?_;intro wz r xx Z o;dsimp only[dP] at o;try rw[Z] at o
     simp only[List.drop];have zz:=r.size;obtain⟨Q,a0⟩:=ql G.out.1;have b1:Q<x.its.length:=by have:=G.out.2;omega
     obtain⟨y,cX⟩:=aq b1;obtain⟨gi,ci,ei,b3,af,bq,b8,b4⟩:=aP.some_ n.out (by omega);simp only[nF] at ei;obtain⟨rfl, -,rfl⟩:=ei;have al:=aT r cm;have bf:=aT r N;have aU:=aT r O;have a5:=aT r M;have a9:=aT r ay;have b6:k=((Q:Nat):Int):=a0;have a2:fN ⟨3,q,k,lb⟩ x=⟨x.no,x.its.set Q ⟨y.n,lb⟩⟩:=by
      unfold fN;rw[eg ⟨P.out,G.out.1,G.out.2⟩,oh (x:=y) (by dsimp only;rw[a0];exact cX)];dsimp only;rw[a0];rfl
     replace a2:=ab a2;rw[b6] at a5;go_wp2;have aF:=ae al;have aJ:=ae aU;have bg:=ae a5;have dD:=ae a9;refine aC 10 [0,1,2,3,4,5,6,7,8,9] [] (h:= ?_);simp only[pick,List.map,gt,gE];repeat(go_big_quiet_step (fail))
     refine io ?_;apply Exists.intro;refine aS ?_;intro wy hy xx Z o;dsimp only[dP] at o;try rw[Z] at o
     simp only[List.drop];have zy:=hy.size;have L:=ag r hy;have D:=abg.ar.below n.out L (by omega);obtain⟨n1,n2,bl, -, -, -, -,⟨rfl,bb⟩,ad, -⟩:=aP.at_ (bV.ar mN) (by decide) D cX;have bN:wy.cell? ⟨gi,Q*2+1,none⟩=some (.string y.b):=ad 1 _ rfl;have bx:=aP.frozen D (Q*2+1);have a7:=aP.put (j:=1) (u:=.string lb) (bV.ar mN) (by decide) D cX (y:=(⟨y.n,lb⟩:It)) (by decide) rfl (λw' lo hi es hh=>⟨by rw[hh.1];rfl,hh.2.1,b9⟩);have b5:Typed wr [68] gi:=⟨_,qD,b8,b4⟩;have a6:bh (λb=>m<=b/\b<m'/\Typed wr [68] b) wr (wy.setCell ⟨gi,Q*2+1,none⟩ (.string lb)):=
      (bh.aM (S:=λb=>m<=b/\b<m'/\Typed wr [68] b) L).setCell (p:=⟨gi,Q*2+1,none⟩) (.inl ⟨b3,af,b5⟩) (.string lb)
     have oF:=a3.out _ ⟨x.no,x.its.set Q ⟨y.n,lb⟩⟩ a6 ⟨.slice (some ⟨gi,0,none⟩) x.its.length c2,rfl,a8,a7⟩;rw[<-a2.out,z.out] at oF;have Y:=F.trans a6 λb hb J=>⟨by omega,by omega,lJ F (T:=[68]) (λt ht=>ht) (show b<H.heap.size by omega) (by omega) (λhs=>hs.2.2) J.2.2⟩;replace oF:=ab oF;replace Y:=ab Y;go_wp2;go_roundw
     case rel=>exact⟨j+1,by omega,by go_num,oF.out,Y.out⟩
     simp[intOf];omega
    .have jZ:(decide (0<=k)&&decide (k<=(x.its.length:Int)-1))=false:=by
      rw[sW];by_cases h0:0<=k
      .exact .inr (db λh=>G ⟨h0,by omega⟩)
      .exact .inl (db h0)
     have R:=ab jZ;replace G:=ab G;have aZ:IntKind.i64.wrap ((x.its.length:Int)-1)=(x.its.length:Int)-1:=wh _ (by omega);go_wp2;have aF:=ae cm;have aJ:=ae N;have bg:=ae O;have dD:=ae a4;have ij:=ae M;refine aC 22 [0,1,2,3,4,5,6,7,8,9,10,11,12,13,14,15,16,17,18,19] [20,21] (h:= ?_);simp only[pick,List.map,gt,gE];repeat(go_big_quiet_step (fail))
     refine io ?_;apply Exists.intro;apply dL (.bool false)
     .intro y o Qx d;replace d:=ab d;go_wp2;refine(lz _ _ _ y.to).mono ?_;rintro e wy ⟨rfl,rfl⟩;rw[R.out];go_wp2;exact d.out _ (du _ _)
     apply dL (.bool false)
     .intro y o Qx d;replace d:=ab d;go_wp2;exact d.out _ (du _ _)
     simp only[Act.put,bv,ef,fd];refine aS ?_;intro wz r xx Z o;dsimp only[dP] at o;try rw[Z] at o
     simp only[List.drop];have zz:=r.size;have kJ:=lN (fN ⟨3,q,k,lb⟩) HX.out (pT (λh=>G.out h.2));have HS:=ab kJ;have fu:=bH.ar.below ho r (by omega);have W:=F.trans (bh.aM (S:=λ_=>False) r) λ_ _ h=>h.elim;have U:=ab fu;have X:=ab W;go_wp2;go_roundw
     case rel=>exact⟨j+1,by omega,by go_num,by rw[HS.out];exact U.out,X.out⟩
     simp[intOf];omega
   .have t1:(x.no ==q)=false:=dk.2 P;replace P:=ab P;go_wp2;have aF:=ae cm;have aJ:=ae N;have bg:=ae O;have dD:=ae a4;have ij:=ae M;refine aC 22 [0,1,2,3,4,5,6,7,8,9,10,11,12,13,14,15,16,17,18,19] [20,21] (h:= ?_);simp only[pick,List.map,gt,gE];repeat(go_big_quiet_step (fail))
    refine io ?_;apply Exists.intro;apply dL (undef)
    .intro y o Qx d;replace d:=ab d;go_wp2;exact d.out _ (du _ _)
    apply dL (.bool false)
    .intro y o Qx d;replace d:=ab d;go_wp2;exact d.out _ (du _ _)
    refine aS ?_;intro wz r xx Z o;dsimp only[dP] at o;try rw[Z] at o
    simp only[List.drop];have zz:=r.size;have kJ:=lN (fN ⟨3,q,k,lb⟩) HX.out (pT (λh=>P.out h.1));have HS:=ab kJ;have fu:=bH.ar.below ho r (by omega);have W:=F.trans (bh.aM (S:=λ_=>False) r) λ_ _ h=>h.elim;have U:=ab fu;have X:=ab W;go_wp2;go_roundw
    case rel=>exact⟨j+1,by omega,by go_num,by rw[HS.out];exact U.out,X.out⟩
    simp[intOf];omega
  .obtain rfl:j=s.pk.length:=by omega
   rw[ags] at ho;have o2:=bW.ar.go (w':=wr) (fg:=w0.heap.size) (hi':=H.heap.size) (λb L b2 ht=>F.block b (by omega) λJ=>gM ht (by decide) J.2.2) (am _) (am _) os;have o3:=dF.ar.go (w':=wr) (fg:=w0.heap.size) (hi':=H.heap.size) (λb L b2 ht=>F.block b (by omega) λJ=>gM ht (by decide) J.2.2) (am _) (am _) ol;have nu:Below w.heap.size w wr:=b0.trans (F.below (by omega) λi hi J=>by omega);have r5:kV wr w0.heap.size H.heap.size ⟨s.pk.map (fN ⟨3,q,k,lb⟩),s.sn,s.lg⟩ (.slice A1 s.pk.length a1) (.slice B1 s.sn.length og) (.slice C1 s.lg.length c1):=⟨bH.T ho,bW.T o2,dF.T o3⟩;have br:=q0.cell;have ax:=q2.cell;have bA:=q2.frozen;have z5:H.heap.size<=wr.heap.size:=by omega
   replace r5:=ab r5;replace nu:=ab nu;go_wp2;refine nf (v:=.agg #[.slice A1 s.pk.length a1,.slice B1 s.sn.length og,.slice C1 s.lg.length c1]) (by simp[results,results7,go_sem,ax]) rfl ⟨_,_,_,rfl, ?_, ?_⟩
   .refine r5.out.go (λb hb _=>nB _ _ _ _ _ b (by omega)) (by omega) ?_;simp only[be];omega
   .exact((nu.out.setCell (by dsimp only;omega) _).setCell (by dsimp only;omega) _).setCell (by dsimp only;omega) _
def adQ(s:dJ)(l:iU)(a d c:Value)(w:World)(e hi:Nat)(h:fL w e hi s a d c)(g:hi<=w.heap.size)(f:kD s<=1099511627)(q:l.b.size<=maxLen) :
  Calls (ai β) 7 #[.agg #[a,d,c],.agg (nz l)] w (abo w w.heap.size (dK s l)):=by
 obtain⟨k,n,m,b⟩:=l;by_cases j:k=1
 .subst j;exact asF s n m b a d c w e hi h g f
 by_cases i:k=2
 .subst i;exact asD s n m b a d c w e hi h g f
 by_cases o:k=3
 .subst o;exact asG s n m b q a d c w e hi h g f
 by_cases p:k=4
 .subst p;exact asE s n m b a d c w e hi h g f
 rw[pR (l:=⟨k,n,m,b⟩) j i o p];exact asC s k n m b j i o p a d c w e hi h g f
end
section
variable {β:Bool}
open Go.RowKit
def anB:∀(l:List Hd) (a:Int),a<=l.foldl (λa h=>max a (h.s+1)) a/\∀x∈l,x.s+1<=l.foldl (λa h=>max a (h.s+1)) a
 |[],a=>⟨vg _,λx b=>(by cases b)⟩
 |y::l,a=>by
  obtain⟨d,c⟩:=anB l (max a (y.s+1));show a<=l.foldl (λa h=>max a (h.s+1)) (max a (y.s+1))/\∀x∈y::l,x.s+1<=l.foldl (λa h=>max a (h.s+1)) (max a (y.s+1));refine⟨by omega,λx b=> ?_⟩;rcases pb.1 b with rfl|b
  .omega
  .exact c x b
def avB :∀x∈s.lg,x.s<fB s:=λx a=>by
 have b:x.s+1<=gj s.lg:=(anB s.lg 1).2 x a;unfold fB;cases s.sn.getLast? with
 |none=>show x.s<gj s.lg;omega
 |some y=>show x.s<max (gj s.lg) (y.no+1);omega
def iP.asc(h:iP s):s.lg.Pairwise λa b=>a.s<b.s:=by
 induction h with
 |nil=>exact .nil
 |save j i g f c=>
  refine wu.2 ⟨c,un _ _,λx e y d=> ?_⟩;rw[pi.1 d];exact avB x e
def found(h:iP s){L:iU}(k:aps L s.lg.length) :
  (L.k=2->L.n<s.lg.length->mf s.lg.length (eM s.lg) (dK s L).lg=((s.lg.length:Int),eM s.lg,1))/\
  (L.k=4->L.n<s.lg.length->mf s.lg.length (eM s.lg) (dK s L).lg=((s.lg.length:Int),eM s.lg,2))/\
  (¬(L.k=2/\L.n<s.lg.length)->¬(L.k=4/\L.n<s.lg.length)->(dK s L).lg=s.lg):=by
 refine⟨λe b=> ?_,λf b=> ?_,λe f=> ?_⟩
 .by_cases g:0<=L.n
  .rw[mQ e ⟨g,by omega⟩];unfold mf;rw[eg (.inl (by rw[fa];omega))]
  .exfalso;have:=k.n.1;omega
 .have g:=k.n.1;rw[pQ f ⟨g,b⟩];unfold mf;rw[da (by rw[kZ];omega),da];show ¬eM ((sd s.lg L.n.toNat jX).take (s.lg.length:Int).toNat)=_;rw[sB,pa (by rw[kZ];exact am _)];exact agy h.wf.lg (by omega)
 .by_cases i:L.k=1
  .rw[pO i]
  by_cases a:L.k=2
  .by_cases b:0<=L.n/\L.n<=s.lg.length
   .rw[mQ a b];have:L.n.toNat=s.lg.length:=by
     by_cases d:L.n<s.lg.length
     .exact absurd ⟨a,d⟩ e
     .omega
    rw[this,ip]
   .rw[kT a b]
  by_cases j:L.k=3
  .rw[pP j]
  by_cases c:L.k=4
  .by_cases b:0<=L.n/\L.n<s.lg.length
   .exact absurd ⟨c,b.2⟩ f
   .rw[kU c b]
  rw[pR i a j c]
def jr.lie(h:jr s.lg)(L:iU):jr (dK s L).lg:=by
 by_cases d:L.k=1
 .rw[pO d];exact h
 by_cases b:L.k=2
 .by_cases a:0<=L.n/\L.n<=s.lg.length
  .rw[mQ b a];exact h.take _
  .rw[kT b a];exact h
 by_cases e:L.k=3
 .rw[pP e];exact h
 by_cases c:L.k=4
 .by_cases a:0<=L.n/\L.n<s.lg.length
  .rw[pQ c a];exact h.fork _
  .rw[kU c a];exact h
 rw[pR d b e c];exact h
def agA{c:Type}(q:c->Bool)(a:c->Int)(n:Int)(d:∀x,a x=n->q x=true):∀l:List c,(l.filter q).find? (λx=>a x ==n)=l.find? (λx=>a x ==n)
 |[]=>rfl
 |y::l=>by
  rw[sg];by_cases b:a y=n
  .rw[rX,eg (d y b),sg,show(a y ==n)=true from oE.2 b]
  .rw[show(a y ==n)=false from dk.2 b,<-agA q a n d l];by_cases e:q y=true
   .rw[rX,eg e,sg,show(a y ==n)=false from dk.2 b]
   .rw[rX,da e]
def old(h:iP s)(m:k<=s.lg.length)(hi:i<k)(c:s.lg[i]?=some x):dE 7 (dK s ⟨2,k,0,⟨#[]⟩⟩) x.s=dE 7 s x.s/\(dK s ⟨2,k,0,⟨#[]⟩⟩).lg=s.lg.take k:=by
 rw[mQ rfl ⟨by show(0:Int)<=k;omega,by show(k:Int)<=_;omega⟩];refine⟨?_,rfl⟩;unfold dE;show(match(s.sn.filter λy=>!((s.lg.drop k).any λh=>h.s ==y.no)).find? (λy=>y.no ==x.s) with|some y=>kO 7 (acW s.pk) y.all|none=>none)=_
 suffices kK:∀y:Sn,y.no=x.s->(!((s.lg.drop k).any λh=>h.s ==y.no))=true by
  rw[agA _ (λy:Sn=>y.no) x.s kK s.sn];all_goals(cases s.sn.find? (λy=>y.no ==x.s)<;>rfl)
 intro y a;have a:y.no=x.s:=a;rw[a,vH,<-mc,List.any_eq_true];rintro⟨z,l,d⟩;have d:=oE.1 d;obtain⟨j,b⟩:=se l;rw[sO] at b;have e:=vK.1 h.asc i (k+j) (aD c) (aD b) (by omega);have f:=(qv.1 c).2;have g:=(qv.1 b).2;rw[f,g] at e;omega
def avC(h:jr s.lg)(b:k<=s.lg.length):mf k (eM (s.lg.take k)) (s.lg.take k)=((k:Int),eM (s.lg.take k),0):=by
 have a:(s.lg.take k).length=k:=by rw[fa];omega
 unfold mf;rw[da (by rw[a];omega),sB,pa (by rw[a];exact am _),eg rfl,a]
end
end Go.Proofs.YtgjaikdifcbnkaaGreatDoor