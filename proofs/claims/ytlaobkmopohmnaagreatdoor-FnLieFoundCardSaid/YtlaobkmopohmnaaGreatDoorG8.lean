/- A part of the proof. -/
import Derived.Test.YtlaobkmopohmnaaGreatDoorG7
import Derived.HandedShaped
import Derived.Carry
set_option maxRecDepth 100000
set_option maxHeartbeats 8000000
set_option linter.all false
open Go Go.RowKit Go.Proofs.Tryz Go.Proofs.YtlaobkmopohmnaaGreatDoor
variable {s:dH} {x:Hd} {Z eY g hi hi' i k:Nat} {a b:Int} {V:Type} {Y X W v:Value} {w w':World} {e:Ending} {xs:List Hd} {U:Nat→Bool} {cs:List Value} {p:List MemPlace} {o:Option (List Nd)}
namespace Go.Proofs.YtlaobkmopohmnaaGreatDoor
def sV:=@_root_.Bool.and_eq_false_iff
def wd:=@_root_.Go.IntWalk.i64_in
def wx:=@_root_.List.drop_eq_nil_iff
section
variable {β:Bool}
open Go.RowKit
def eT.set(h:eT w Z hi s Y X W){cs:Array Value}(a:aX w g 27 cs)(i:Nat)(u:Value):eT (w.setCell ⟨g,i,none⟩ u) Z hi s Y X W:=
 ⟨cQ bF.ar h.pk a (by decide) i u,cQ bV.ar h.sn a (by decide) i u,cQ dD.ar h.lg a (by decide) i u⟩
def eT.wide(h:eT w Z hi s Y X W)(b:eY<=Z)(a:hi<=hi'):eT w eY hi' s Y X W:=h.go (λ_ _ _=>rfl) b a
def eT.form(h:eT w Z hi s Y X W):(∃A a,Y=.slice A s.pk.length a)/\(∃B b,X=.slice B s.sn.length b)/\∃C c,W=.slice C s.lg.length c:=⟨h.pk.form,h.sn.form,h.lg.form⟩
def eT.eZ(h:eT w Z hi s Y X W){S:Nat->Prop}(e:aZ S w w')(c:∀b,Z<=b->b<hi->b<w.heap.size/\¬S b):eT w' Z hi s Y X W:=
 h.go (λb d a=>e.block b (c b d a).1 (c b d a).2) (am _) (am _)
def asi{cs:Array Value}(h:cs.size=3):∃a b c,cs=#[a,b,c]:=by
 obtain⟨l⟩:=cs
 match l,h with
 |[a,b,c],_=>exact⟨a,b,c,rfl⟩
def kY(w:World)(g:Nat)(a b c:Value):aZ (λx=>x=g) w (((w.setCell ⟨g,0,none⟩ a).setCell ⟨g,1,none⟩ b).setCell ⟨g,2,none⟩ c):=(((aZ.refl (λx=>x=g) w).setCell (S:=λx=>x=g) (p:=⟨g,0,none⟩) (.inl rfl) a).setCell (S:=λx=>x=g) (p:=⟨g,1,none⟩) (.inl rfl) b).setCell (S:=λx=>x=g) (p:=⟨g,2,none⟩) (.inl rfl) c
section
variable {w:World} {lo hi g:Nat} {l:List Int} {N s ia ic bk:Nat} {fx:Bool} {ty:TypeId} {n:Nat} {S:Nat->Prop} {pre:List Nat}
def abj(u:Value)(x:aK w lo hi g l N s ia ic bk fx ty n S pre):Prop:=
 ∃d c a q r L H,u=.tuple #[.agg #[d,c,a],.bool q]/\eT x.to L H r d c a/\(∀b,L<=b->b<H->x.free b)/\w.heap.size<=L/\H<=x.to.heap.size/\(q=true->iM r)
def abj.le{u:Value}{x y:aK w lo hi g l N s ia ic bk fx ty n S pre}(h:abj u x)(a:aK.le x y):abj u y:=by
 obtain⟨j,o,k,q,r,L,H,rfl,f,e,p,i,m⟩:=h;exact⟨j,o,k,q,r,L,H,rfl,f.go (λb d c=>a.eZ.block b (e b d c).1 (a.not (e b d c))) (am _) (am _),λb d c=>a.free (e b d c),p,ap i a.eZ.size,m⟩
def abj.new{r:dH}{q:Bool}(x:aK w lo hi g l N s ia ic bk fx ty n S pre){w2:World}(d:Below x.to.heap.size x.to w2)(a:eT w2 x.to.heap.size w2.heap.size r Y X W)(j:q=true->iM r)(k:g<w.heap.size)(v:Value):abj (.tuple #[.agg #[Y,X,W],.bool q]) (x.told d v):=by
 have f:=x.ok.size;exact⟨Y,X,W,q,r,_,_,rfl,a,λb o c=>⟨c,by omega,λe=>(by
  obtain⟨_,_,m,_,i⟩:=x.bx b e;have:=i.lt;omega),λe=>(by have:=x.sf b e;omega)⟩,f,am _,j⟩
def ahI(x:aK w lo hi g l N s ia ic bk fx ty n S pre):Prop:=
 x.done=true/\∃b d c a q,x.box=some b/\x.res=some (.tuple #[.agg #[d,c,a],.bool q])/\aX x.to b ty #[d,c,a]
def ahI.le{x y:aK w lo hi g l N s ia ic bk fx ty n S pre}(h:ahI x)(a:aK.le x y):ahI y:=by
 obtain⟨hd,b,d,m,k,q,i,e,j⟩:=h;obtain⟨o,c,f⟩:=a.full hd i j;exact⟨o,b,d,m,k,q,c,a.res _ e,f⟩
end
structure afc (u va vb vc:Value) (q:Bool):Prop where
 eq:u=.tuple #[.agg #[va,vb,vc],.bool q]
 a:∃A m c,va=.slice A m c
 b:∃A m c,vb=.slice A m c
 c:∃A m c,vc=.slice A m c
def afc.of{r:dH}{q:Bool}(h:eT w Z hi r Y X W):afc (.tuple #[.agg #[Y,X,W],.bool q]) Y X W q:=by
 obtain⟨⟨A,a,rfl⟩,⟨B,b,rfl⟩,C,c,rfl⟩:=h.form;exact⟨rfl,⟨_,_,_,rfl⟩,⟨_,_,_,rfl⟩,⟨_,_,_,rfl⟩⟩
def api(w:World)(lo hi g:Nat)(l:List Int)(p:Nat)(e:Ending)(w':World):Prop:=
 ∃d c a s q,e=.returned (.agg #[d,c,a])/\eT w' w.heap.size w'.heap.size s d c a/\iM s/\Rd w' lo hi g l q/\q<=p+700/\aZ (λb=>b=g) w w'
structure ahJ (w wr:World) (lo hi g:Nat) (l:List Int) (q gs:Nat) (va vb vc tt:Value) (s:dH) (t:List Nd):Prop where
 k0:aX wr w.heap.size 27 #[.slice none 0 0,.slice none 0 0,.slice none 0 0]
 ks:aX wr gs 27 #[va,vb,vc]
 os:eT wr w.heap.size wr.heap.size s va vb vc
 sv:iM s
 ot:aL np 106 wr w.heap.size tt t
 ft:lH t
 rd:Rd wr lo hi g l q
 ch:aZ (λb=>b=g) w wr
 gs1:w.heap.size<gs
 gw:g<w.heap.size
def ahJ.eZ{wr : World}{l:List Int}{q gs : Nat}{t:List Nd}(h:ahJ w wr Z hi g l q gs Y X W v s t)(a:aZ (λb=>b=g) wr w')(f:Rd w' Z hi g l eY):ahJ w w' Z hi g l eY gs Y X W v s t:=by
 have k:=h.gw;have c:=h.gs1;exact⟨aO h.k0 a (by omega),aO h.ks a (by omega),(h.os.eZ a λb c d=>⟨d,by omega⟩).wide (am _) a.size,h.sv,h.ot.eZ a λb j e=>by have:=(h.ot.at_ j).1;omega,h.ft,f,h.ch.trans a λi _ e=>e,c,k⟩
def ahJ.tree{wr : World}{l:List Int}{q gs:Nat}{a : Value}{t b:List Nd}(h:ahJ w wr Z hi g l q gs Y X W v s t)(d:aL np 106 wr w.heap.size a b)(c:lH b):ahJ w wr Z hi g l q gs Y X W a s b:=
 ⟨h.k0,h.ks,h.os,h.sv,d,c,h.rd,h.ch,h.gs1,h.gw⟩
def acp{t:List Nd}(h:lH t):∀x∈t,np.good x:=aaj h
def ahK(l:List Int)(g p X hi:Nat)(w:World)(hr:Rd w X hi g l p)(hp:p<=10000) :
  Calls (ai β) 11 #[.pointer (some ⟨g,0,none⟩)] w (api w X hi g l p):=by
 have c6:=hr.lt;have ci:=hr.hi_;go_enter Am,ntmps11;go_wp2;have aG:Below w.heap.size w (((((w.alloc (.cells #[.slice none 0 0,.slice none 0 0,.slice none 0 0] 27)).alloc (.cells #[] 54)).alloc (.cells #[] 58)).alloc (.cells #[] 65)).alloc (.cells #[.slice (some ⟨w.heap.size+1,0,none⟩) 0 0,.slice (some ⟨w.heap.size+1+1,0,none⟩) 0 0,.slice (some ⟨w.heap.size+1+1+1,0,none⟩) 0 0] 27)):=cU (cU (cU (cU (au _ _) _) _) _) _;have k0:aX (((((w.alloc (.cells #[.slice none 0 0,.slice none 0 0,.slice none 0 0] 27)).alloc (.cells #[] 54)).alloc (.cells #[] 58)).alloc (.cells #[] 65)).alloc (.cells #[.slice (some ⟨w.heap.size+1,0,none⟩) 0 0,.slice (some ⟨w.heap.size+1+1,0,none⟩) 0 0,.slice (some ⟨w.heap.size+1+1+1,0,none⟩) 0 0] 27)) (w.heap.size) 27 #[.slice none 0 0,.slice none 0 0,.slice none 0 0]:=by
  have I:=bq (bq (bq (bq (aX.new w 27 #[.slice none 0 0,.slice none 0 0,.slice none 0 0]) (.cells #[] 54)) (.cells #[] 58)) (.cells #[] 65)) (.cells #[.slice (some ⟨w.heap.size+1,0,none⟩) 0 0,.slice (some ⟨w.heap.size+1+1,0,none⟩) 0 0,.slice (some ⟨w.heap.size+1+1+1,0,none⟩) 0 0] 27);exact I
 have k1:aX (((((w.alloc (.cells #[.slice none 0 0,.slice none 0 0,.slice none 0 0] 27)).alloc (.cells #[] 54)).alloc (.cells #[] 58)).alloc (.cells #[] 65)).alloc (.cells #[.slice (some ⟨w.heap.size+1,0,none⟩) 0 0,.slice (some ⟨w.heap.size+1+1,0,none⟩) 0 0,.slice (some ⟨w.heap.size+1+1+1,0,none⟩) 0 0] 27)) (w.heap.size+1) 54 #[]:=by
  have I:=bq (bq (bq (aX.new (w.alloc (.cells #[.slice none 0 0,.slice none 0 0,.slice none 0 0] 27)) 54 #[]) (.cells #[] 58)) (.cells #[] 65)) (.cells #[.slice (some ⟨w.heap.size+1,0,none⟩) 0 0,.slice (some ⟨w.heap.size+1+1,0,none⟩) 0 0,.slice (some ⟨w.heap.size+1+1+1,0,none⟩) 0 0] 27);simp only[mp] at I;exact I
 have k2:aX (((((w.alloc (.cells #[.slice none 0 0,.slice none 0 0,.slice none 0 0] 27)).alloc (.cells #[] 54)).alloc (.cells #[] 58)).alloc (.cells #[] 65)).alloc (.cells #[.slice (some ⟨w.heap.size+1,0,none⟩) 0 0,.slice (some ⟨w.heap.size+1+1,0,none⟩) 0 0,.slice (some ⟨w.heap.size+1+1+1,0,none⟩) 0 0] 27)) (w.heap.size+1+1) 58 #[]:=by
  have I:=bq (bq (aX.new ((w.alloc (.cells #[.slice none 0 0,.slice none 0 0,.slice none 0 0] 27)).alloc (.cells #[] 54)) 58 #[]) (.cells #[] 65)) (.cells #[.slice (some ⟨w.heap.size+1,0,none⟩) 0 0,.slice (some ⟨w.heap.size+1+1,0,none⟩) 0 0,.slice (some ⟨w.heap.size+1+1+1,0,none⟩) 0 0] 27);simp only[mp] at I;exact I
 have k3:aX (((((w.alloc (.cells #[.slice none 0 0,.slice none 0 0,.slice none 0 0] 27)).alloc (.cells #[] 54)).alloc (.cells #[] 58)).alloc (.cells #[] 65)).alloc (.cells #[.slice (some ⟨w.heap.size+1,0,none⟩) 0 0,.slice (some ⟨w.heap.size+1+1,0,none⟩) 0 0,.slice (some ⟨w.heap.size+1+1+1,0,none⟩) 0 0] 27)) (w.heap.size+1+1+1) 65 #[]:=by
  have I:=bq (aX.new (((w.alloc (.cells #[.slice none 0 0,.slice none 0 0,.slice none 0 0] 27)).alloc (.cells #[] 54)).alloc (.cells #[] 58)) 65 #[]) (.cells #[.slice (some ⟨w.heap.size+1,0,none⟩) 0 0,.slice (some ⟨w.heap.size+1+1,0,none⟩) 0 0,.slice (some ⟨w.heap.size+1+1+1,0,none⟩) 0 0] 27);simp only[mp] at I;exact I
 have k4:aX (((((w.alloc (.cells #[.slice none 0 0,.slice none 0 0,.slice none 0 0] 27)).alloc (.cells #[] 54)).alloc (.cells #[] 58)).alloc (.cells #[] 65)).alloc (.cells #[.slice (some ⟨w.heap.size+1,0,none⟩) 0 0,.slice (some ⟨w.heap.size+1+1,0,none⟩) 0 0,.slice (some ⟨w.heap.size+1+1+1,0,none⟩) 0 0] 27)) (w.heap.size+1+1+1+1) 27 #[.slice (some ⟨w.heap.size+1,0,none⟩) 0 0,.slice (some ⟨w.heap.size+1+1,0,none⟩) 0 0,.slice (some ⟨w.heap.size+1+1+1,0,none⟩) 0 0]:=by
  have I:=aX.new ((((w.alloc (.cells #[.slice none 0 0,.slice none 0 0,.slice none 0 0] 27)).alloc (.cells #[] 54)).alloc (.cells #[] 58)).alloc (.cells #[] 65)) 27 #[.slice (some ⟨w.heap.size+1,0,none⟩) 0 0,.slice (some ⟨w.heap.size+1+1,0,none⟩) 0 0,.slice (some ⟨w.heap.size+1+1+1,0,none⟩) 0 0];simp only[mp] at I;exact I
 have iw:w.heap.size+5<=(((((w.alloc (.cells #[.slice none 0 0,.slice none 0 0,.slice none 0 0] 27)).alloc (.cells #[] 54)).alloc (.cells #[] 58)).alloc (.cells #[] 65)).alloc (.cells #[.slice (some ⟨w.heap.size+1,0,none⟩) 0 0,.slice (some ⟨w.heap.size+1+1,0,none⟩) 0 0,.slice (some ⟨w.heap.size+1+1+1,0,none⟩) 0 0] 27)).heap.size:=by simp only[mp];omega
 generalize (((((w.alloc (.cells #[.slice none 0 0,.slice none 0 0,.slice none 0 0] 27)).alloc (.cells #[] 54)).alloc (.cells #[] 58)).alloc (.cells #[] 65)).alloc (.cells #[.slice (some ⟨w.heap.size+1,0,none⟩) 0 0,.slice (some ⟨w.heap.size+1+1,0,none⟩) 0 0,.slice (some ⟨w.heap.size+1+1+1,0,none⟩) 0 0] 27))=w0 at *;have cN:=k0.cell;have dS:=k0.frozen;have bZ:=k1.cell;have dx:=k1.frozen;have fq:=k2.cell;have iK:=k2.frozen;have bA:=k3.cell;have bT:=k3.frozen;have a7:=k4.cell;have ce:=k4.frozen;have bb:eT w0 w.heap.size w0.heap.size ⟨[],[],[]⟩ (.slice (some ⟨w.heap.size+1,0,none⟩) 0 0) (.slice (some ⟨w.heap.size+1+1,0,none⟩) 0 0) (.slice (some ⟨w.heap.size+1+1+1,0,none⟩) 0 0):=
  ⟨eD.aap ⟨_,rfl,by omega,k1⟩ (am _),eD.aap ⟨_,rfl,by omega,k2⟩ (am _),eD.aap ⟨_,rfl,by omega,k3⟩ (am _)⟩
 have ay:aZ (λb=>b=g) w w0:=aZ.aM aG;have bn:=hr.eZ (aZ.aM (S:=λ_=>False) aG) λ_ _ h=>h;clear k1 k2 k3 cN bZ fq bA a7 dS dx iK bT ce aG hr;refine(ajJ l g p X hi w0 bn (by omega)).mono ?_;rintro e w1 ⟨vt,t0,q1,rfl,ot,bz,b3,cy,J⟩;have k:ahJ w w1 X hi g l q1 (w.heap.size+1+1+1+1) (.slice (some ⟨w.heap.size+1,0,none⟩) 0 0) (.slice (some ⟨w.heap.size+1+1,0,none⟩) 0 0) (.slice (some ⟨w.heap.size+1+1+1,0,none⟩) 0 0) vt ⟨[],[],[]⟩ t0:=
  ⟨aO k0 J (by omega),aO k4 J (by omega),(bb.eZ J λb h1 h2=>⟨h2,by omega⟩).wide (am _) J.size,iM.nil,ot.base (by omega),bz,b3,ay.trans J λi _ e=>e,by omega,c6⟩
 clear k0 k4 bb ay ot bz J bn;obtain⟨o,b4⟩:∃o,o=w.heap.size+1+1+1+1:=⟨_,rfl⟩;rw[<-b4] at k ⊢;clear b4;go_wp2;refine(dm _ _ _ _ _ _ 5 k.rd (by omega)).mono ?_;rintro e w2 ⟨m,rfl,⟨_,hm⟩,bp,b2⟩;have cp:=hm (by omega);obtain⟨mm,rfl⟩:=qk (show 0<=m by omega);have b5:=ab (k.eZ b2 bp);clear hm b3 bp b2 k;go_wp2;go_loopw [4,5] (λtt jj wr=>∃(j q:Nat) (s:dH) (t:List Nd) (O P U:Value),j<=4/\jj=.int .i64 j/\ahJ w wr X hi g l q o O P U tt s t/\q+60*j<=p+600) (λ_ jj _=>(intOf jj).toNat)
 case atStart=>exact⟨mm,_,_,_,_,_,_,by omega,rfl,b5.out,by omega⟩
 case round=>
  clear b5;obtain⟨j,q,s,t,O,P,U,hj,rfl,k,hq⟩:=hrel;obtain⟨⟨A,a,rfl⟩,⟨B,b,rfl⟩,C,c,rfl⟩:=k.os.form;obtain⟨T,d,rfl⟩:=k.ot.form;have bi:wr.cell? ⟨o,0,none⟩=some (.slice A s.pk.length a):=k.ks.cell 0;have ad:wr.cell? ⟨o,1,none⟩=some (.slice B s.sn.length b):=k.ks.cell 1;have bt:wr.cell? ⟨o,2,none⟩=some (.slice C s.lg.length c):=k.ks.cell 2;have bX:=k.gs1;have bB:=k.gw;have cm:=k.ks.lt;have zr:=k.ch.size;have HD:=ab k;by_cases h0:j=0
  .subst h0;have cN:=k.k0.cell;have dS:=k.k0.frozen;clear k;go_wp2;have k4:=((HD.out.k0.bc 0 (.slice A s.pk.length a)).bc 1 (.slice B s.sn.length b)).bc 2 (.slice C s.lg.length c);simp only[de,ff,gc] at k4;have a7:=k4.cell;refine mx (v:=.agg #[.slice A s.pk.length a,.slice B s.sn.length b,.slice C s.lg.length c]) (by simp[results,results11,go_sem,a7]) rfl ⟨_,_,_,s,q,rfl, ?_,HD.out.sv, ?_,by omega, ?_⟩
   .simp only[be];exact((HD.out.os.set HD.out.k0 0 _).set (HD.out.k0.bc 0 _) 1 _).set ((HD.out.k0.bc 0 _).bc 1 _) 2 _
   .exact HD.out.rd.eZ (kY _ _ _ _ _) λb G e=>by have:=HD.out.gw;omega
   .exact HD.out.ch.trans (kY _ _ _ _ _) λi hi e=>by omega
  .have t0:=dj (show 0<j by omega);clear k;have rd:=HD.out.rd;go_wp2;refine akV (N:=q+12) (s:=10) (ia:=9) (ic:=5) (bk:=wr.heap.size) (fx:=false) (ty:=27) (n:=3) (S:=λ_=>False) (pre:=[]) 12 q [1,4] [0,2,3,5,6,7,8,9,10,11] (by kernel_rfl) (by kernel_rfl) (by kernel_rfl) rd (am _) none (λb G=>by cases G) (λh=>by cases h) (λb G=>G.elim) (λb G=>by cases G) (.inl rfl) ?_;simp only[pick,List.map,gn,gt];repeat(go_big_quiet_step (fail))
   refine ip ?_;apply Exists.intro;apply am2 (λv=>v=.agg #[.slice A s.pk.length a,.slice B s.sn.length b,.slice C s.lg.length c])
   .rfl
   .intro x _ Y f;replace f:=ab f;have ca:=aa5 (x:=x) bi (by show o≠g;omega) (by show o≠_;omega) (λh=>h);have cb:=aa5 (x:=x) ad (by show o≠g;omega) (by show o≠_;omega) (λh=>h);have cc:=aa5 (x:=x) bt (by show o≠g;omega) (by show o≠_;omega) (λh=>h);go_wp2;exact f.out _ rfl
   intro ux;simp only[Act.put,de,ff,gc];apply auh (λv=>∃m:Int,v=.int .i64 m/\0<=m/\m<2)
   .rfl
   .intro x _ hN Y f;replace f:=ab f;go_wp2;refine(dm _ _ _ _ _ _ 2 x.rd (by omega)).mono ?_;rintro e wy ⟨m,rfl,⟨_,q1⟩,c7,bQ⟩;obtain⟨q2,q3⟩:=q1 (by omega);go_wp2;exact f.out _ _ c7 bQ ⟨m,rfl,q2,q3⟩
   intro u2;apply am2 (λv=>∃m:Int,v=.int .i64 m/\1<=m/\m<=2)
   .rfl
   .intro x z Y f;replace f:=ab f;obtain⟨m,rfl,q1,q2⟩:=z.1 (by kernel_rfl);go_wp2;exact f.out _ ⟨_,rfl,by omega,by omega⟩
   intro u3;apply aui (λv x=>abj v x)
   .rfl
   .rfl
   .exact λv x y h hl=>h.le hl
   .intro x z Y f;replace f:=ab f;obtain⟨m3,rfl,i1,i2⟩:=z.1 (by kernel_rfl);cases z.2.2.1 (by kernel_rfl);clear z;have bo:∀b,w.heap.size<=b->b<wr.heap.size->b<wr.heap.size/\¬(b=g\/x.box=some b\/x.done=true/\False):=λb h1 h2=>⟨h2,λe=>by
     rcases e with e|e|e
     .have:=HD.out.gw;omega
     .rcases x.bw b e with e|e<;>omega
     .exact e.2⟩
    have ox:=HD.out.os.eZ x.ok bo;have tx:=HD.out.ot.eZ x.ok λb G=>(bo b (HD.out.ot.at_ G).1 (HD.out.ot.at_ G).2).2;have zx:=x.ok.size;have wf:=HD.out.sv.wf;have tr:=(tx.deep (acp HD.out.ft) 0).sl (fa _);go_wp2;refine(ajq 7 (by omega) s m3 (by unfold cA;omega) t (acT HD.out.ft) (by have:=HD.out.ft.2.1;omega) wf.small wf.ed (by have:=wf.au7;omega) _ _ _ _ x.to _ _ 0 x.to.heap.size ox zx tr (am _)).mono ?_;rintro e wy ⟨v1,v2,v3,qq,r,rfl,oy,bH,b0⟩;go_wp2;exact f.out _ _ b0 (abj.new x b0 oy (λc0=>by
     rcases bH with⟨_,h1,rfl⟩|⟨h1,_⟩
     .exact HD.out.sv.save (by omega) HD.out.ft h1
     .rw[c0] at h1;cases h1) (by have:=HD.out.gw;omega) _)
   intro u5;simp only[Act.put,de,ff,gc];apply ahc (λv u=>v=u/\∃O P U q,afc u O P U q)
   .rfl
   .intro x z Y f;replace f:=ab f;obtain⟨⟨v1,v2,v3,qq,r,L,H,rfl,ho,_⟩,K⟩:=z.1 (by kernel_rfl);clear z;go_wp2;exact f.out _ _ K ⟨rfl,_,_,_,_,afc.of ho⟩
   intro u6;simp only[Act.put,de,ff,gc];apply ahc (λv u=>∃O P U q,afc u O P U q/\v=.agg #[O,P,U])
   .rfl
   .intro x z Y f;replace f:=ab f;obtain⟨u,K,rfl,v1,v2,v3,qq,E⟩:=z.1 (by kernel_rfl);have e:=E.eq;subst e;clear z;go_wp2;exact f.out _ _ K ⟨_,_,_,_,E,rfl⟩
   intro u7;simp only[Act.put,de,ff,gc];apply ahc (λv u=>∃O P U q,afc u O P U q/\v=.bool q)
   .rfl
   .intro x z Y f;replace f:=ab f;obtain⟨u,K,rfl,v1,v2,v3,qq,E⟩:=z.2.1 (by kernel_rfl);have e:=E.eq;subst e;clear z;go_wp2;exact f.out _ _ K ⟨_,_,_,_,E,rfl⟩
   intro u8;simp only[Act.put,de,ff,gc];apply aqM (cs:=#[.slice none 0 0,.slice none 0 0,.slice none 0 0])
   .rfl
   .rfl
   .decide
   .have:=HD.out.gw;omega
   .rfl
   .intro x Y f;replace f:=ab f;go_wp2;exact f.out
   intro u9;simp only[Act.put,de,ff,gc];apply aqN (λx=>ahI x)
   .rfl
   .exact λj hj=>(by cases hj)
   .exact λx y h hl=>h.le hl
   .intro x z aJ Y f;replace f:=ab f;obtain⟨b6,rfl,cl,a5⟩:=z.1 (by kernel_rfl);obtain⟨u,K,v1,v2,v3,qq,E,rfl⟩:=z.2.2.1 (by kernel_rfl);clear z;have e:=E.eq;subst e;obtain⟨A1,m1,c1,rfl⟩:=E.a;obtain⟨B1,k1,d1,rfl⟩:=E.b;obtain⟨C1,k2,d2,rfl⟩:=E.c;obtain⟨cv,cS,cs,bY,V⟩:=x.bx _ a5;obtain⟨ca,cb,cc,rfl⟩:=asi bY;have ad:=V.cell;have co:=V.frozen;go_wp2;exact f.out _ a5 _ (kY _ _ _ _ _) _ rfl (((V.bc 0 _).bc 1 _).bc 2 _) ⟨rfl,_,_,_,_,_,a5,K,((V.bc 0 _).bc 1 _).bc 2 _⟩
   .rfl
   simp only[Act.put,de,ff,gc];apply ahc (λv u=>∃O P U q,afc u O P U q/\v=.bool q)
   .rfl
   .intro x z Y f;replace f:=ab f;obtain⟨u,K,v1,v2,v3,qq,E,rfl⟩:=z.2.2.1 (by kernel_rfl);clear z;go_wp2;exact f.out _ _ K ⟨_,_,_,_,E,rfl⟩
   intro cz;simp only[Act.put,de,ff,gc];refine axx λx z=> ?_;simp only[dV] at z;obtain⟨⟨u,K,v1,v2,v3,qq,E,rfl⟩,⟨aJ,gy,cw,ck,cV,cW,bx,ao,ky⟩,⟨ct,rfl,cq,aT⟩, -, -, -,⟨⟨x1,x2,x3,cZ,r,L,H,rfl,oy,fy,hL,hH,M⟩,bh⟩, -⟩:=z;have e:=E.eq;subst e;rw[K] at ao bh;cases ao;cases bh;rw[bx] at aT;cases aT;obtain⟨⟨A1,a1,rfl⟩,⟨B1,b1,rfl⟩,C1,c1,rfl⟩:=oy.form;have a2:aZ (λb=>b=g) wr x.to:=x.ok.mono λb G e=>by
    rcases e with e|e|⟨_,e⟩
    .exact e
    .rcases x.bw b e with e|e<;>omega
    .exact e.elim
   have Q:=HD.out.eZ a2 x.rd;have c4:x.q<=q+12:=x.lim;have zx:=a2.size;simp only[List.drop];clear K E aJ bx fy HD rd bi ad bt a2;revert zx;revert hH;revert oy;revert ky;revert c4;revert Q;generalize x.to=w4;generalize x.q=q4;clear x;intro Q cn ky oy hH zx;have HD:=ab Q;have cI:=Q.ks.lt;replace M:=ab M;clear Q;cases qq
   case' false=>
    clear ky oy M;go_wp2;revert HD;generalize w4=w5;intro HD
   case' true=>
    have bS:=ky.cell;have c2:=HD.out.ks.cell;have bN:=HD.out.ks.frozen;have a8:=((HD.out.ks.bc 0 (.slice A1 r.pk.length a1)).bc 1 (.slice B1 r.sn.length b1)).bc 2 (.slice C1 r.lg.length c1);simp only[de,ff,gc] at a8;have R:=kY w4 o (.slice A1 r.pk.length a1) (.slice B1 r.sn.length b1) (.slice C1 r.lg.length c1);have br:eT (((w4.setCell ⟨o,0,none⟩ (.slice A1 r.pk.length a1)).setCell ⟨o,1,none⟩ (.slice B1 r.sn.length b1)).setCell ⟨o,2,none⟩ (.slice C1 r.lg.length c1)) L H r (.slice A1 r.pk.length a1) (.slice B1 r.sn.length b1) (.slice C1 r.lg.length c1):=((oy.set HD.out.ks 0 _).set (HD.out.ks.bc 0 _) 1 _).set ((HD.out.ks.bc 0 _).bc 1 _) 2 _
    have W:ahJ w (((w4.setCell ⟨o,0,none⟩ (.slice A1 r.pk.length a1)).setCell ⟨o,1,none⟩ (.slice B1 r.sn.length b1)).setCell ⟨o,2,none⟩ (.slice C1 r.lg.length c1)) X hi g l q4 o (.slice A1 r.pk.length a1) (.slice B1 r.sn.length b1) (.slice C1 r.lg.length c1) (.slice T t.length d) r t:=
     ⟨aO HD.out.k0 R (by omega),a8,by simp only[be];exact eT.wide br (by omega) hH,M.out rfl,HD.out.ot.eZ R λb G e=>by
       have:=aL.deep HD.out.ot (acp HD.out.ft) 0;obtain⟨ds,k⟩:=this.blk G;have e':b=o:=e;subst e';exact absurd (cL HD.out.ks k) (by decide),HD.out.ft,HD.out.rd.eZ R λb G e=>by omega,HD.out.ch.trans R λi hi e=>by have e':i=o:=e;omega,bX,bB⟩
    replace W:=ab W;clear a8 R br oy HD M;go_wp2;have HD:=W;clear W;revert HD;generalize ((w4.setCell ⟨o,0,none⟩ (.slice A1 r.pk.length a1)).setCell ⟨o,1,none⟩ (.slice B1 r.sn.length b1)).setCell ⟨o,2,none⟩ (.slice C1 r.lg.length c1)=w5;intro HD;clear bS c2 bN ky
   all_goals
    refine(mA l g q4 X hi w5 HD.out.rd (by omega)).mono ?_;rintro e w6 ⟨sp,q6,rfl,cO,aY,d0,b7⟩;have a4:=ab (HD.out.eZ b7 aY);clear aY b7 HD;go_wp2;refine(adp l g q6 X hi w6 a4.out.rd (by omega)).mono ?_;rintro e w7 ⟨tx,q7,rfl,ch,al,cC,aI⟩;have F:=ab (a4.out.eZ aI al);clear al aI a4;have r7:=((F.out.ot.deep (acp F.out.ft) 0).sl (fa _));replace r7:=ab r7;go_wp2;refine(adk t sp tx (by unfold maxLen;omega) (by unfold maxLen;omega) _ w7 0 w7.heap.size r7.out (am _) (by have:=F.out.ft.2.1;omega)).mono ?_;rintro e w8 ⟨v8,zs,put,rfl,o8,ba,b8⟩;have z7:=F.out.ch.size;have a3:=ab (F.out.eZ (aZ.aM (S:=λb=>b=g) b8) (F.out.rd.eZ (aZ.aM (S:=λ_=>False) b8) λ_ _ h=>h));have a6:=ab (And.intro (o8.base z7) ba);obtain⟨A8,c8,rfl⟩:=o8.form;clear F r7 o8 ba b8;cases put
    case' false=>
     clear a6;have a0:=a3
    case' true=>have a0:=ab (a3.out.tree a6.out.1 a6.out.2)
    all_goals
     clear a3;go_wp2;refine(dm _ _ _ _ _ _ 3 (a0).out.rd (by omega)).mono ?_;rintro e c3 ⟨aa,rfl,⟨_,bO⟩,b9,bw⟩;have Z:=ab ((a0).out.eZ bw b9);clear bO b9 bw a0;by_cases m0:aa=0
     .have t5:(aa ==0)=true:=nf.2 m0;clear m0;go_wp2;refine(mA l g _ X hi c3 Z.out.rd (by omega)).mono ?_;rintro e bf ⟨c5,c9,rfl,cg,aR,cu,bl⟩;have D:=ab (Z.out.eZ bl aR);clear aR bl Z;have ax:=ab ((D.out.ot.deep (acp D.out.ft) 0).sl (fa _));go_wp2;refine(ajg _ c5 _ bf 0 bf.heap.size ax.out (am _) (by have:=D.out.ft.2.1;omega)).mono ?_;rintro e cX ⟨cB,ys,rfl,a9,an,af⟩;have cd:=D.out.ch.size;have bL:=ab ((D.out.eZ (aZ.aM (S:=λb=>b=g) af) (D.out.rd.eZ (aZ.aM (S:=λ_=>False) af) λ_ _ h=>h)).tree (a9.base cd) (D.out.ft.sub an));obtain⟨cH,cr,rfl⟩:=a9.form;clear D ax a9 an af;go_wp2;go_roundw
      case rel=>exact⟨j-1,c9,_,_,_,_,_,by omega,by go_num,bL.out,by omega⟩
      simp[intOf];omega
     .have t5:(aa ==0)=false:=dk.2 m0;clear m0;go_wp2;go_roundw
      case rel=>exact⟨j-1,_,_,_,_,_,_,by omega,by go_num,Z.out,by omega⟩
      simp[intOf];omega
end
section
variable {β:Bool}
open Go.RowKit
def agn:List ByteArray:=[⟨#[122,122]⟩,⟨#[98,46]⟩,⟨#[97,98,99,46]⟩,⟨#[104,101,108,108,111,46,46,46]⟩,⟨#[]⟩]
structure apj (L:iQ) (nc:Nat):Prop where
 k:0<=L.k/\L.k<=5
 n:0<=L.n/\L.n<=20
 nl:L.k=2\/L.k=4->L.n<=nc
 m:0<=L.m/\L.m<=3
 b:L.b∈agn
def avm(w:World)(lo hi g:Nat)(l:List Int)(p nc:Nat)(e:Ending)(w':World):Prop:=
 ∃L q,e=.returned (.agg (nt L))/\apj L nc/\Rd w' lo hi g l q/\q<=p+10/\aZ (λb=>b=g) w w'
def pW(w:World)(g:Nat)(a b c d:Value):aZ (λx=>x=g) w ((((w.setCell ⟨g,0,none⟩ a).setCell ⟨g,1,none⟩ b).setCell ⟨g,2,none⟩ c).setCell ⟨g,3,none⟩ d):=(kY w g a b c).setCell (S:=λx=>x=g) (p:=⟨g,3,none⟩) (.inl rfl) d
def apk(w:World)(g k:Nat)(a b c d e f h:Value):aZ (λx=>x=g\/x=k) w (((((((w.setCell ⟨g,0,none⟩ a).setCell ⟨g,1,none⟩ b).setCell ⟨g,2,none⟩ c).setCell ⟨k,0,none⟩ d).setCell ⟨k,1,none⟩ e).setCell ⟨k,2,none⟩ f).setCell ⟨k,3,none⟩ h):=((kY w g a b c).mono λ_ _ h=>.inl h).trans (pW _ k d e f h) λi _ e=>.inr e
def al6(l:List Int)(g p lo hi:Nat)(w:World)(hr:Rd w lo hi g l p)(hp:p<=100000)(A B C:Option Addr)(na a nb b nc c:Nat)(b4:nc<=9) :
  Calls (ai β) 12 #[.pointer (some ⟨g,0,none⟩),.agg #[.slice A na a,.slice B nb b,.slice C nc c]] w (avm w lo hi g l p nc):=by
 have b8:=hr.lt;have b2:=hr.hi_;go_enter Ak,ntmps12;go_wp2;generalize hG:(w.alloc (.cells #[.slice A na a,.slice B nb b,.slice C nc c] 27)).alloc (.cells #[.int .i64 0,.int .i64 0,.int .i64 0,.string ⟨#[]⟩] 29)=w0 at *;obtain⟨aG,iw,L,cN,dS,E,bZ,dx⟩:=oK hG;clear hG;have af:aZ (λb=>b=g) w w0:=aZ.aM aG;have a4:=hr.eZ (aZ.aM (S:=λ_=>False) aG) λ_ _ h=>h;clear cN bZ dS dx aG hr;refine(dm _ _ _ _ _ _ 5 a4 (by omega)).mono ?_;rintro e w1 ⟨m,rfl,⟨_,I⟩,ao,U⟩;have bb:=I (by omega);have al:=af.trans U λi _ e=>e;replace L:=aO L U (by omega);replace E:=aO E U (by omega);clear I U af a4;go_wp2;refine(dm _ _ _ _ _ _ 5 ao (by omega)).mono ?_;rintro e w2 ⟨K,rfl,⟨_,I⟩,a7,Q⟩;have bh:=I (by omega);have a9:=al.trans Q λi _ e=>e;replace L:=aO L Q (by omega);replace E:=aO E Q (by omega);clear I Q al ao;go_wp2;refine(dm _ _ _ _ _ _ 4 a7 (by omega)).mono ?_;rintro e W ⟨r,rfl,⟨_,I⟩,ad,M⟩;have b5:=I (by omega);have mK:=a9.trans M λi _ e=>e;replace L:=aO L M (by omega);replace E:=aO E M (by omega);clear I M a9 a7;go_wp2;have rl:dA (W.alloc (.cells #[.string ⟨#[122,122]⟩,.string ⟨#[98,46]⟩,.string ⟨#[97,98,99,46]⟩,.string ⟨#[104,101,108,108,111,46,46,46]⟩,.string ⟨#[]⟩] 9)) W.heap.size (W.alloc (.cells #[.string ⟨#[122,122]⟩,.string ⟨#[98,46]⟩,.string ⟨#[97,98,99,46]⟩,.string ⟨#[104,101,108,108,111,46,46,46]⟩,.string ⟨#[]⟩] 9)).heap.size [⟨#[122,122]⟩,⟨#[98,46]⟩,⟨#[97,98,99,46]⟩,⟨#[104,101,108,108,111,46,46,46]⟩,⟨#[]⟩] [.slice (some ⟨W.heap.size,0,none⟩) 5 5]:=
  (aL.deep (F:=iy) (abY (F:=iy) (aX.new W 9 #[.string ⟨#[122,122]⟩,.string ⟨#[98,46]⟩,.string ⟨#[97,98,99,46]⟩,.string ⟨#[104,101,108,108,111,46,46,46]⟩,.string ⟨#[]⟩]) rfl (am _) rfl (by simp[maxLen])) (nP (by decide)) W.heap.size).sl (am _)
 have a5:=(ad).alloc (.cells #[.string ⟨#[122,122]⟩,.string ⟨#[98,46]⟩,.string ⟨#[97,98,99,46]⟩,.string ⟨#[104,101,108,108,111,46,46,46]⟩,.string ⟨#[]⟩] 9);have D:=(mK).alloc (.cells #[.string ⟨#[122,122]⟩,.string ⟨#[98,46]⟩,.string ⟨#[97,98,99,46]⟩,.string ⟨#[104,101,108,108,111,46,46,46]⟩,.string ⟨#[]⟩] 9);have Y:=au (W) (.cells #[.string ⟨#[122,122]⟩,.string ⟨#[98,46]⟩,.string ⟨#[97,98,99,46]⟩,.string ⟨#[104,101,108,108,111,46,46,46]⟩,.string ⟨#[]⟩] 9);generalize (W).alloc (.cells #[.string ⟨#[122,122]⟩,.string ⟨#[98,46]⟩,.string ⟨#[97,98,99,46]⟩,.string ⟨#[104,101,108,108,111,46,46,46]⟩,.string ⟨#[]⟩] 9)=w5 at *;refine(ahe _ (by simp) _ _ _ _ _ _ _ _ w5 a5 (by omega) rl).mono ?_;rintro e v5 ⟨y,a8,rfl,an,O⟩;replace D:=(D).trans O λi _ e=>e;clear rl;replace L:=aO (ah L Y) O (by omega);replace E:=aO (ah E Y) O (by omega);have z5:=D.size;clear Y O a5 ad mK;obtain⟨o,k⟩:∃o,o=v5.heap.size:=⟨_,rfl⟩;have ax:=au v5 (.cells #[.int .i64 m,.int .i64 (1+K),.int .i64 r,.string y] 29);have n:=aX.new v5 29 #[.int .i64 m,.int .i64 (1+K),.int .i64 r,.string y];have f:=D.alloc (.cells #[.int .i64 m,.int .i64 (1+K),.int .i64 r,.string y] 29);have j:=an.alloc (.cells #[.int .i64 m,.int .i64 (1+K),.int .i64 r,.string y] 29);have s:=ah L ax;have d:=ah E ax;have aa:=s.cell;have aY:w.heap.size+1<o:=by rw[k];exact E.lt
 have H:=ab (And.intro n (And.intro f (And.intro j (And.intro s d))));clear n f j s d ax L E an D;have b9:=Nat.le_of_lt_succ (Nat.lt_succ_of_lt aY);replace k:=ab k;by_cases V:m=2\/m=4
 case' pos=>
  rcases V with V|V
  all_goals
   first
    |have t1:(m ==2)=true:=nf.2 V
    |(have t1:(m ==2)=false:=dk.2 (by omega);have t2:(m ==4)=true:=nf.2 V)
   clear V;go_wp2;rw[<-k.out];obtain⟨n,f,j,s,d⟩:=H.out;rw[<-k.out] at n;clear H aa k;revert d;revert n;revert j;revert f;clear s;generalize v5.alloc (.cells #[.int .i64 m,.int .i64 (1+K),.int .i64 r,.string y] 29)=w7;intro f j n d;refine(dm _ _ _ _ _ _ _ j (by omega)).mono ?_;rintro e w8 ⟨t,rfl,⟨_,I⟩,a6,R⟩;have b6:=I (by omega);have X:=f.trans R λi _ e=>e;replace n:=aO n R (by omega);replace d:=aO d R (by omega);clear I R f j;have cl:=n.cell;have fl:=n.frozen;have z:=n.bc 1 (.int .i64 t);simp only[de,ff,gc] at z;have z8:=X.size;have q:=bW d (p:=⟨o,1,none⟩) (.int .i64 t) (by dsimp only;omega);have cg:=(aZ.refl (λx=>x=o) w8).setCell (S:=λx=>x=o) (p:=⟨o,1,none⟩) (.inl rfl) (.int .i64 t);have a2:=X.trans cg λi hi e=>by have e':i=o:=e;omega
   have a3:=a6.eZ cg λb hb e=>by omega
   have H9:=ab (And.intro a2 (And.intro a3 (And.intro z q)));clear cg a2 a3 z q X a6 d;go_wp2;obtain⟨f,j,z,d⟩:=H9.out;clear H9 cl fl n;revert d;revert z;revert j;revert f;generalize w8.setCell ⟨o,1,none⟩ (.int .i64 t)=w8';intro f j n d;have a1:((m:Int)=2\/(m:Int)=4)->t<=(nc:Int):=λ_=>by omega
   have a0:0<=t/\t<=20:=by omega
 case' neg=>
  have t1:(m ==2)=false:=dk.2 (by omega);have t2:(m ==4)=false:=dk.2 (by omega);have aI:=ab V;clear V;go_wp2;rw[<-k.out];obtain⟨n,f,j,s,d⟩:=H.out;rw[<-k.out] at n;clear H aa t1 t2 k;revert d;revert n;revert j;revert f;clear s;generalize v5.alloc (.cells #[.int .i64 m,.int .i64 (1+K),.int .i64 r,.string y] 29)=w8';intro f j n d;have a1:(m=2\/m=4)->1+K<=(nc:Int):=λh=>absurd h aI.out;have a0:0<=1+K/\1+K<=20:=by omega
  generalize 1+K=t at *
 all_goals
  have aT:=ab a1;clear a1;refine(dm _ _ _ _ _ _ 24 j (by omega)).mono ?_;rintro e w9 ⟨m9,rfl,⟨_,aR⟩,ay,P⟩;have gp:=(f).trans P λi _ e=>e;have J:=aO n P (by omega);have q:=aO d P (by omega);have z9:=gp.size;clear aR P;by_cases m0:m9=0
  .have t9:(m9 ==0)=true:=nf.2 m0;clear m0;have G:=J.bc 0 (.int .i64 5);simp only[de,ff,gc] at G;have u:=bW q (p:=⟨o,0,none⟩) (.int .i64 5) (by dsimp only;omega);have N:=gp.trans (((aZ.refl (λx=>x=o) w9).setCell (S:=λx=>x=o) (p:=⟨o,0,none⟩) (.inl rfl) (.int .i64 5))) λi hi e=>by have e':i=o:=e;omega
   have T:=ay.eZ (((aZ.refl (λx=>x=o) w9).setCell (S:=λx=>x=o) (p:=⟨o,0,none⟩) (.inl rfl) (.int .i64 5))) λb hb e=>by omega
   have aJ:=J.cell;have bf:=J.frozen;have b0:=G.cell;have b1:=u.frozen;have b7:=u.cell;have H:=ab (And.intro G (And.intro u (And.intro N T)));clear G u N T J q;go_wp2;obtain⟨G,u,N,T⟩:=H.out;have k4:=(((u.bc 0 (.int .i64 5)).bc 1 (.int .i64 (t))).bc 2 (.int .i64 r)).bc 3 (.string y);simp only[de,ff,gc] at k4;have Z:=k4.cell;refine mx (v:=.agg #[.int .i64 5,.int .i64 (t),.int .i64 r,.string y]) (by simp[results,results12,go_sem,Z]) rfl ⟨⟨5,t,r,y⟩,_,rfl,⟨⟨show(0:Int)<=5 by omega,show(5:Int)<=5 by omega⟩,a0,(λh=>by have h:(5:Int)=2\/(5:Int)=4:=h;omega),by show 0<=r/\r<=3;omega,a8⟩,T.eZ (pW _ _ _ _ _ _) λb hb e=>by omega,by omega,N.trans (pW _ _ _ _ _ _) λi hi e=>by omega⟩
  .have t9:(m9 ==0)=false:=dk.2 m0;clear m0;have aJ:=J.cell;have ba:=q.frozen;have b3:=q.cell;go_wp2;have k4:=(((q.bc 0 (.int .i64 (m))).bc 1 (.int .i64 (t))).bc 2 (.int .i64 r)).bc 3 (.string y);simp only[de,ff,gc] at k4;have Z:=k4.cell;refine mx (v:=.agg #[.int .i64 (m),.int .i64 (t),.int .i64 r,.string y]) (by simp[results,results12,go_sem,Z]) rfl ⟨⟨m,t,r,y⟩,_,rfl,⟨by show 0<=(m:Int)/\(m:Int)<=5;omega,a0,(λh=>aT.out (by first|exact h|simp)),by show 0<=r/\r<=3;omega,a8⟩,ay.eZ (pW _ _ _ _ _ _) λb hb e=>by omega,by omega,gp.trans (pW _ _ _ _ _ _) λi hi e=>by omega⟩
def avo(w:World)(e:Ending)(w':World):Prop:=
 ∃c b a s L,e=.returned (.tuple #[.agg #[c,b,a],.agg (nt L)])/\eT w' w.heap.size w'.heap.size s c b a/\iM s/\apj L s.lg.length/\Below w.heap.size w w'
def adK(A:Option Addr)(n c:Nat)(l:List Int)(w:World)(h:bC jK 1 w 0 w.heap.size l [.slice A n c]) :
  Calls (ai β) 4 #[.slice A n c] w (avo w):=by
 go_enter qF4,ntmps4;go_wp2;generalize hG:(w.alloc (.cells #[.slice none 0 0,.slice none 0 0,.slice none 0 0] 27)).alloc (.cells #[.int .i64 0,.int .i64 0,.int .i64 0,.string ⟨#[]⟩] 29)=w0 at *;obtain⟨I,iw,P,U,W,O,V,X⟩:=oK hG;refine(aqK l A n c w0 0 w.heap.size (am0 jK.loc h I (am _)) I.size).mono ?_;rintro e w1 ⟨g,rfl,hr,hg,t⟩;have af:=hr.lt;replace P:=ah P t;replace U:=P.cell;replace W:=P.frozen;replace O:=ah O t;replace V:=O.cell;replace X:=O.frozen;replace I:=ag I t;go_wp2;refine(ahK _ g 0 _ _ w1 hr (by omega)).mono ?_;rintro e T ⟨va,vb,vc,s,q,rfl,os,J,a1,hq,o⟩;obtain⟨⟨u,E,rfl⟩,⟨z,B,rfl⟩,D,C,rfl⟩:=os.form;have m:=aO P o (by omega);have f:=aO O o (by omega);have z2:=o.size;have z0:=t.size;have a6:Below w.heap.size w T:=I.trans (o.below I.size λi hi e=>by have e':i=g:=e;omega);have Y:=ab J;have a2:=J.wf.ll;have ax:=au T (.cells #[.slice u s.pk.length E,.slice z s.sn.length B,.slice D s.lg.length C] 27);have km:=(aX.new T 27 #[.slice u s.pk.length E,.slice z s.sn.length B,.slice D s.lg.length C]).cell;go_wp2;generalize hG:T.alloc (.cells #[.slice u s.pk.length E,.slice z s.sn.length B,.slice D s.lg.length C] 27)=w3 at *;obtain⟨Q,a9,m0,ma,aI⟩:=nh hG;replace m:=ah m Q;replace an:=m.cell;replace aG:=m.frozen;replace f:=ah f Q;replace ay:=f.cell;replace ao:=f.frozen;have a0:=os.below Q (am _);have a5:=a1.eZ (aZ.aM (S:=λ_=>False) Q) λ_ _ h=>h;have R:=ag a6 Q;have al:=aa2 (s:=3) (ty:=75) (S:=λb=>b=g) (pre:=[]) (ma 0) (by dsimp only;omega);have ad:=aa2 (s:=3) (ty:=75) (S:=λb=>b=g) (pre:=[]) (ma 1) (by dsimp only;omega);have aa:=aa2 (s:=3) (ty:=75) (S:=λb=>b=g) (pre:=[]) (ma 2) (by dsimp only;omega);refine akM 3 75 (λb=>b=g) [] 4 [0,1,2] [3] (by kernel_rfl) (by kernel_rfl) (by kernel_rfl) ?_;simp only[pick,List.map,gn,gt];repeat(go_big_quiet_step (fail))
 refine ip ?_;apply Exists.intro;apply axr (λv x=>x.done=true/\∃L,v=.agg (nt L)/\apj L s.lg.length)
 .rfl
 .rfl
 .exact λj hj=>(by cases hj)
 .exact λv x y h a8=>⟨(a8.from_ h.1).1,h.2⟩
 .intro x _ N Qx G;replace G:=ab G;have a3:=x.till N;go_wp2;refine(al6 _ g q _ _ x.to (a5.eZ (aZ.aM (S:=λ_=>False) a3) λ_ _ h=>h) (by omega) u z D _ E _ B _ C a2).mono ?_;rintro e wy ⟨L,q2,rfl,K,_,_,a4⟩;go_wp2;exact G.out _ _ (a4.mono λb hb e=>.inl e) ⟨rfl,L,rfl,K⟩
 intro aJ;refine axs λx hF=> ?_;simp only[dV] at hF;obtain⟨⟨N,L,rfl,K⟩, -⟩:=hF;have d:aZ (λb=>b=g) w3 x.to:=x.ok.mono λb _ h=>h.2;have F:=a0.eZ d λb h1 h2=>⟨by omega,by omega⟩;have k:=aO m d (by omega);have a:=aO f d (by omega);have r:Below w.heap.size w x.to:=R.trans (d.below R.size λi hi e=>by have e':i=g:=e;omega);have W:=k.frozen;have X:=a.frozen;have U:=k.cell;have V:=a.cell;have zx:=d.size;simp only[List.drop];have H:=ab (And.intro F (And.intro k (And.intro a (And.intro r K))));revert H U V W X zx;generalize x.to=w4;intro W X U V zx H;go_wp2;obtain⟨F,k,a,r,K⟩:=H.out;have zk:=a.lt;have Z:=bW (bW (bW a (p:=⟨w.heap.size,0,none⟩) (.slice u s.pk.length E) (by dsimp only;omega)) (p:=⟨w.heap.size,1,none⟩) (.slice z s.sn.length B) (by dsimp only;omega)) (p:=⟨w.heap.size,2,none⟩) (.slice D s.lg.length C) (by dsimp only;omega);have k4:=(((Z.bc 0 (.int .i64 L.k)).bc 1 (.int .i64 L.n)).bc 2 (.int .i64 L.m)).bc 3 (.string L.b);simp only[de,ff,gc] at k4;have a7:=((k.bc 0 (.slice u s.pk.length E)).bc 1 (.slice z s.sn.length B)).bc 2 (.slice D s.lg.length C);have M:=bW (bW (bW (bW a7 (p:=⟨w.heap.size+1,0,none⟩) (.int .i64 L.k) (by dsimp only;omega)) (p:=⟨w.heap.size+1,1,none⟩) (.int .i64 L.n) (by dsimp only;omega)) (p:=⟨w.heap.size+1,2,none⟩) (.int .i64 L.m) (by dsimp only;omega)) (p:=⟨w.heap.size+1,3,none⟩) (.string L.b) (by dsimp only;omega);simp only[de,ff,gc] at M;have c4:=k4.cell;have c5:=M.cell;have h7:=apk w4 w.heap.size (w.heap.size+1) (.slice u s.pk.length E) (.slice z s.sn.length B) (.slice D s.lg.length C) (.int .i64 L.k) (.int .i64 L.n) (.int .i64 L.m) (.string L.b);have z7:=ap (show T.heap.size<=w4.heap.size by omega) h7.size;refine mx (v:=.tuple #[.agg #[.slice u s.pk.length E,.slice z s.sn.length B,.slice D s.lg.length C],.agg (nt L)]) (by simp[results,results4,go_sem,c4,c5,nt]) rfl ⟨_,_,_,s,L,rfl,(F.eZ h7 λb h1 h2=>⟨by omega,by omega⟩).wide (by omega) z7,Y.out,K,r.trans (h7.below r.size λi hi e=>by have e':i=w.heap.size\/i=w.heap.size+1:=e;omega)⟩
end
section
variable {β:Bool}
open Go.RowKit
structure SmS (s:dH):Prop where
 pl:s.pk.length<=20
 pn:∀p∈s.pk,p.its.length<=4/\∀x∈p.its,x.b.size<=8
 sl:s.sn.length<=9
 sn:∀x∈s.sn,x.all.length<=6/\∀y∈x.all,y.p.size<=3/\y.ns.length<=40
 ll:s.lg.length<=9
def WfS.sm(h:WfS s):SmS s:=⟨h.pl,λp a=>(h.pn p a).2,by have:=h.sl;have:=h.ll;omega,λx b=>(h.sn x b).2,h.ll⟩
def SmS.au7(h:SmS s):kq s<=10000:=by
 have e:eh bPk s.pk<=s.pk.length*(36+1):=jh λp b=>by
  have c:eh bIt p.its<=p.its.length*(8+1):=jh λx a=>(h.pn p b).2 x a;have:=(h.pn p b).1;show eh bIt p.its<=36;omega
 have f:eh bSn s.sn<=s.sn.length*(264+1):=jh λx a=>by
  have c:eh bLs x.all<=x.all.length*(43+1):=jh λy d=>by
   have:=(h.sn x a).2 y d;show y.p.size+y.ns.length<=43;omega
  have:=(h.sn x a).1;show eh bLs x.all<=264;omega
 have:=h.pl;have:=h.sl;have:=h.ll;unfold kq;omega
def ago{l:List V}{f:V->V}{y:V}(h:y∈sb l i f):y∈l\/∃x,l[i]?=some x/\y=f x:=by
 unfold sb at h;split at h
 .rename_i x a;rcases th h with h|h
  .exact .inl h
  .exact .inr ⟨x,a,h⟩
 .exact .inl h
def SmS.lie(h:SmS s){l:iQ}(j:l.b.size<=8):SmS (dJ s l):=by
 by_cases g:l.k=1
 .rw[pK g];exact⟨ap (rY _ _) h.pl,λp b=>h.pn p ((sT.1 b).1),h.sl,h.sn,h.ll⟩
 by_cases f:l.k=2
 .by_cases c:0<=l.n/\l.n<=s.lg.length
  .rw[mN f c];exact⟨h.pl,h.pn,ap (rY _ _) h.sl,λx a=>h.sn x ((sT.1 a).1),ap (by rw[eg];omega) h.ll⟩
  .rw[kR f c];exact h
 by_cases i:l.k=3
 .rw[pL i];refine⟨by rw[qh];exact h.pl,λp b=> ?_,h.sl,h.sn,h.ll⟩;obtain⟨q,k,rfl⟩:=qs.1 b;have e:=h.pn q k;unfold fK;split
  .refine⟨by show(sb q.its _ _).length<=4;rw[kX];exact e.1,λx a=> ?_⟩;rcases ago a with a|⟨y,m,rfl⟩
   .exact e.2 x a
   .exact j
  .exact e
 by_cases d:l.k=4
 .by_cases c:0<=l.n/\l.n<s.lg.length
  .rw[pM d c];exact⟨h.pl,h.pn,h.sl,h.sn,by show(sb s.lg _ _).length<=9;rw[kX];exact h.ll⟩
  .rw[kS d c];exact h
 rw[pN g f i d];exact h
def apj.bs{L:iQ}(h:apj L Z):L.b.size<=8:=by
 have:=h.b;unfold agn at this;simp only[pa,rF,ue] at this;rcases this with e|e|e|e|e<;>rw[e]<;>decide
end
section
open Go.RowKit
def ahL(x:Sn)(b:Value)(a:Int)(g:Nat)(w:World)(c:w.cell? ⟨g,0,none⟩=some (.int .i64 a)) :
  Calls (ai true) 54 #[.agg #[.int .i64 x.no,b],.pointer (some ⟨g,0,none⟩)] w λe j=>e=.returned (.bool (x.no ==a))/\Below w.heap.size w j:=by
 have d:=au w (.cells #[.int .i64 x.no,b] 58);have k:(w.alloc (.cells #[.int .i64 x.no,b] 58)).cell? ⟨g,0,none⟩=some (.int .i64 a):=(qx (d.block g (eK c))).trans c;have f:=eK c;have i:(x.no ==a)=decide (x.no=a):=rfl;rw[i];go_enter xU,ntmps54;go_wp2;go_ret;exact⟨by rfl,d⟩
def avp:aa3 (β:=true) 54:=adC xU (by kernel_rfl) rfl
def asl{xs:List Sn}{A:Option Addr}{n c:Nat}(h:gV w Z hi xs [.slice A n c]){x:Sn}(i:xs[k]?=some x) :
  ∃b a A' d,A=some ⟨b,a,none⟩/\Z<=b/\b<hi/\cA x.no/\w.cell? ⟨b,a+k*2,none⟩=some (.int .i64 x.no)/\w.cell? ⟨b,a+k*2+1,none⟩=some (.slice A' x.all.length d)/\fY w Z hi x.all [.slice A' x.all.length d]:=by
 obtain⟨b,a,m,rfl,j,g,l,⟨v,rfl,f,hi⟩,e⟩:=h.at_ i;obtain⟨A',d,rfl⟩:=hi.form;exact⟨b,a,A',d,rfl,j,g,f,by simpa using e 0 _ rfl,e 1 _ rfl,hi⟩
def asm(xs:List Sn)(f:Int)(A:Option Addr)(c g:Nat)(w:World)(J hi:Nat)(h:gV w J hi xs [.slice A xs.length c])(H:hi<=w.heap.size)(z:w.cell? ⟨g,0,none⟩=some (.int .i64 f)) :
  Calls (ai true) 53 #[.slice A xs.length c,.func (.func 54) #[] #[.pointer (some ⟨g,0,none⟩)]] w λe v=>∃j:Int,e=.returned (.int .i64 j)/\((∃(k:Nat) (y:Sn),j=k/\k<xs.length/\xs[k]?=some y/\xs.find? (λx=>x.no ==f)=some y)\/(j=-1/\xs.find? (λx=>x.no ==f)=none))/\Below w.heap.size w v:=by
 obtain⟨_,N,G⟩:=h.len_;unfold maxLen at G;have r:=eK z;go_enter xV,ntmps53;go_wp2;go_loopw [8] (λi wr=>∃k:Nat,k<=xs.length/\i=.int .i64 k/\xs.find? (λx=>x.no ==f)=(xs.drop k).find? (λx=>x.no ==f)/\Below w.heap.size w wr) (λi _=>xs.length-(intOf i).toNat)
 case atStart=>exact⟨0,fa _,rfl,rfl,fd _ _⟩
 case round=>
  obtain⟨k,L,rfl,a,q⟩:=hrel;replace a:=ab a;have t:wr.cell? ⟨g,0,none⟩=some (.int .i64 f):=(qx (q.block g r)).trans z;by_cases n:k<xs.length
  .obtain⟨x,p⟩:=aq n;obtain⟨b,F,B,d,rfl,_,_,I,C,K,O⟩:=asl (gV.loc.below h q H) p;have l:xs.drop k=x::xs.drop (k+1):=by
    obtain⟨E,D⟩:=qu.1 p;rw[rZ E,D]
   replace p:=ab p;replace l:=ab l;have M:=avp (#[.agg #[.int .i64 x.no,.slice B x.all.length d]]++#[.pointer (some ⟨g,0,none⟩)]) wr;go_wp2;refine(ahL x _ f g wr t).mono ?_;rintro e v ⟨rfl,m⟩;replace m:=ag q m;cases o:(x.no ==f)
   .have s:xs.find? (λx=>x.no ==f)=(xs.drop (k+1)).find? (λx=>x.no ==f):=by rw[a.out,l.out,se,o]
    have u:=ab s;go_wp2;go_roundw
    case rel=>exact⟨k+1,by omega,by go_num,u.out,m⟩
    simp[intOf];omega
   .have s:xs.find? (λx=>x.no ==f)=some x:=by rw[a.out,l.out,se,o]
    have u:=ab s;go_wp2;go_ret;exact⟨k,rfl,.inl ⟨k,x,rfl,n,p.out,u.out⟩,m⟩
  .obtain rfl:k=xs.length:=by omega
   go_wp2;go_ret;exact⟨-1,rfl,.inr ⟨rfl,by rw[a.out,uG];rfl⟩,q⟩
def iI.akE{l:List Pk}(h:iI w Z hi l [v]):∀p∈acU l,cA p.1:=λp a=>by
 obtain⟨A,c,rfl⟩:=bC.form h;obtain⟨q,d,rfl⟩:=qs.1 a;obtain⟨i,hi⟩:=rD.1 d;obtain⟨_,_,_,_,_,_,_,⟨_,_,b,_⟩,_⟩:=bC.at_ h hi;exact b
def ajL(s:dH)(hs:SmS s)(O:∀p∈s.pk,1<=p.its.length)(f:Int)(va vb vc:Value)(X hi:Nat)(w:World)(hg:Glo w)(S:hi<=w.heap.size)(h:fI w X hi s va vb vc) :
  Calls (ai true) 26 #[.int .i64 7,.agg #[va,vb,vc],.int .i64 f] w (pV (iN 7 s f) w):=by
 obtain⟨G,H,h3⟩:=h;obtain⟨A,a,rfl⟩:=bC.form G;obtain⟨B,b,rfl⟩:=bC.form H;have iq:∀p∈acU s.pk,1<=p.2.length/\cA p.1:=λp hp=>⟨by
  obtain⟨q,hq,rfl⟩:=qs.1 hp;have:=O q hq;unfold pkd;simpa using this,G.akE p hp⟩
 obtain⟨-,ha,N⟩:=bC.len_ G;obtain⟨-,hb,a2⟩:=bC.len_ H;have HM:=ab N;have Z:=ab iq;have HS:=ab hs;have g:iN 7 s f=match s.sn.find? (λx=>x.no ==f) with
  |some x=>kK 7 (acU s.pk) x.all
  |none=>none:=rfl
 replace g:=ab g;clear iq hs O N;unfold maxLen at a2;go_enter zW,ntmps26;go_wp2;generalize hG:(w.alloc (.cells #[.slice A s.pk.length a,.slice B s.sn.length b,vc] 27)).alloc (.cells #[.int .i64 f] 3)=w0 at *;obtain⟨P,iw,R,U,dS,k1,bZ,dx⟩:=oK hG;clear hG;have F:w0.cell? ⟨w.heap.size+1,0,none⟩=some (.int .i64 f):=bZ 0;have M:=iI.loc.below G P S;have E:=gV.loc.below H P S;have a6:=P.size;refine(asm s.sn f B b _ w0 X hi E (by omega) F).mono ?_;rintro e w1 ⟨j,rfl,hj,b1⟩;have i:=ag P b1;rcases hj with⟨k,y,rfl,a5,cV,m⟩|⟨rfl,m⟩
 .obtain⟨bb,a8,C,d,rfl,_,_,a9,T,a3,oH⟩:=asl (gV.loc.below H i S) cV;have J:=HS.out.sn y (db cV);have l:iN 7 s f=kK 7 (acU s.pk) y.all:=by rw[g.out,m]
  have t:=ab l;have a1:=ab J;have H1:=ab (iI.loc.below G i S);replace oH:=ab oH;clear l m cV J M E G H F g;replace R:=ah R b1;replace U:=R.cell;replace dS:=R.frozen;have f0:=U 0;have f1:=U 1;have a7:=i.size;have V:=hg.below i;go_wp2;have aI:=ae f0;have aJ:=ae f1;have bB:=ae T;have eU:=ae a3;refine aD 11 [0,1,2,3,4,5,6,7] [8,9,10] (h:= ?_);simp only[pick,List.map,gn,gt];repeat(go_big_quiet_step (fail))
  refine ip ?_;clear aI aJ bB eU;apply Exists.intro;apply bu (λv Y=>∃u,v=.tuple #[u,.bool (iN 7 s f).isSome]/\aL np 106 Y w.heap.size u ((iN 7 s f).getD [])/\∀y∈(iN 7 s f).getD [],np.good y)
  .rfl
  .exact λv x y ⟨u,e,ho,hgd⟩ hle=>⟨u,e,ho.below hle,hgd⟩
  .intro z o Qx c;replace c:=ab c;clear o;have L:=V.below z.ok;have a4:=z.ok.size;have mR:=(iI.loc.below H1.out z.ok (by omega)).pkl (by omega);have r:=fY.loc.below oH.out z.ok (by omega);have K:=a1.out;have D:(acU s.pk).length=s.pk.length:=qh _;have Q:=al3 (acU s.pk) A a y _ X hi z.to L (by omega) mR (by rw[D];exact ha) HM.out Z.out r (λq hq=>by have:=(K.2 q hq).2;omega) (by omega);rw[D] at Q;replace Q:=ab Q;clear mR r K L D;go_wp2;refine Q.out.mono ?_;rintro e w5 ⟨u,rfl,I,n,b5⟩;go_wp2;rw[<-t.out] at I n ⊢;exact c.out _ _ b5 ⟨_,rfl,I.base (by omega),n⟩
  intro v8;apply bu (λv Y=>aL np 106 Y w.heap.size v ((iN 7 s f).getD [])/\∀y∈(iN 7 s f).getD [],np.good y)
  .rfl
  .exact λv x y ⟨ho,hgd⟩ hle=>⟨ho.below hle,hgd⟩
  .intro z o Qx c;replace c:=ab c;obtain⟨u,rfl,I,n⟩:=o.1 (by kernel_rfl);go_wp2;exact c.out _ _ (fd _ _) ⟨I,n⟩
  intro v9;apply dW (.bool (iN 7 s f).isSome)
  .intro z o Qx c;replace c:=ab c;obtain⟨u,rfl,I,n⟩:=o.2.1 (by kernel_rfl);go_wp2;exact c.out _ (fd _ _)
  refine aS ?_;intro w6 iA xx dh o;dsimp only[dV] at o;try rw[dh] at o
  clear dh xx;obtain⟨⟨o9,a0⟩, -⟩:=o;simp only[List.drop];have W:=ag i iA;go_wp2;go_ret2;exact⟨_,rfl,o9,a0,W⟩
 .have l:iN 7 s f=none:=by rw[g.out,m]
  have t:=ab l;clear l m M E G H F g;go_wp2;go_ret2;exact pV.no t.out i
def apm(o:Option (List Nd))(base:Nat)(v:Value)(w:World):Prop:=aL np 106 w base v (o.getD [])/\∀y∈o.getD [],np.good y
def apm.below{base:Nat}{x y:World}(h:apm o base v x)(a:Below x.heap.size x y):apm o base v y:=⟨h.1.below a,h.2⟩
def avq(h:∀p∈s.pk,1<=p.its.length)(L:iQ):∀p∈(dJ s L).pk,1<=p.its.length:=by
 have same:(dJ s L).pk=s.pk->∀p∈(dJ s L).pk,1<=p.its.length:=λe=>by rw[e];exact h
 by_cases f:L.k=1
 .rw[pK f];exact λp b=>h p (sT.1 b).1
 by_cases c:L.k=2
 .by_cases a:0<=L.n/\L.n<=s.lg.length
  .exact same (by rw[mN c a])
  .exact same (by rw[kR c a])
 by_cases g:L.k=3
 .rw[pL g];intro p b;obtain⟨q,i,rfl⟩:=qs.1 b;have:=h q i;unfold fK;split
  .show 1<=(sb q.its L.m.toNat _).length;rw[kX];exact this
  .exact this
 by_cases d:L.k=4
 .by_cases a:0<=L.n/\L.n<s.lg.length
  .exact same (by rw[pM d a])
  .exact same (by rw[kS d a])
 exact same (by rw[pN f c g d])
end
section
variable {β:Bool}
open Go.RowKit
def ahM(x:Hd):Prop:=(1<=x.b/\x.b<=2)/\1<=x.s/\x.s<=20
def jm(l:List Hd):Prop:=l.length<=9/\∀x∈l,ahM x
def al7(x:Hd)(f:ahM x)(w:World):Calls (ai β) 51 #[.agg #[.int .i64 x.b,.int .i64 x.s]] w λe b=>e=.returned (.bool true)/\Below w.heap.size w b:=by
 obtain⟨⟨k,j⟩,d,c⟩:=f;have i:decide (1<=x.s)=true:=dj d;have l:decide (x.s<=20)=true:=dj c;by_cases e:x.b=1
 .have a:(x.b ==1)=true:=nf.2 e;go_enter xW,ntmps51;go_wp2;go_ret;exact⟨rfl,by repeat(first|exact fd _ _|refine sM ?_ (by simp) _)⟩
 .have a:(x.b ==1)=false:=dk.2 e;have g:(x.b ==2)=true:=nf.2 (by omega);go_enter xW,ntmps51;go_wp2;go_ret;exact⟨rfl,by repeat(first|exact fd _ _|refine sM ?_ (by simp) _)⟩
def apn(x:Hd)(d:ahM x)(w:World):Calls (ai β) 50 #[.agg #[.int .i64 x.b,.int .i64 x.s]] w λe b=>e=.returned (.bool false)/\Below w.heap.size w b:=by
 go_enter xX,ntmps50;go_wp2;refine(al7 x d _).mono ?_;rintro e f ⟨rfl,a⟩;have c:=(au w (.cells #[.int .i64 x.b,.int .i64 x.s] 65));go_wp2;go_ret;exact⟨rfl,ag c a⟩
def avr:aa3 (β:=β) 50:=adC xX (by kernel_rfl) rfl
def ahN(xs:List Hd)(i:∀x∈xs,ahM x)(v:Value)(w:World)(u hi:Nat)(h:cx w u hi xs [v])(t:hi<=w.heap.size) :
  Calls (ai β) 70 #[v,.func (.func 50) #[] #[]] w λe l=>e=.returned (.int .i64 (-1))/\Below w.heap.size w l:=by
 obtain⟨A,c,rfl⟩:=bC.form h;obtain⟨_,D,s⟩:=h.len_;unfold maxLen at s;replace i:=ab i;go_enter xQ,ntmps70;go_wp2;go_loopw [8] (λj wr=>∃k:Nat,k<=xs.length/\j=.int .i64 k/\Below w.heap.size w wr) (λj _=>xs.length-(intOf j).toNat)
 case atStart=>exact⟨0,fa _,rfl,fd _ _⟩
 case round=>
  obtain⟨k,B,rfl,a⟩:=hrel;by_cases g:k<xs.length
  .obtain⟨x,m⟩:=aq g;obtain⟨b,f,E,o,_,r,_,⟨rfl,n⟩,d⟩:=(cx.loc.below h a t).at_ m;subst o;have q:wr.cell? ⟨b,f+k*2,none⟩=some (.int .i64 x.b):=by simpa using d 0 _ rfl
   have y:wr.cell? ⟨b,f+k*2+1,none⟩=some (.int .i64 x.s):=by simpa using d 1 _ rfl
   have z:=ab (i.out x (db m));have C:=avr (β:=β) (#[.agg #[.int .i64 x.b,.int .i64 x.s]]++#[]) wr;go_wp2;refine(apn x z.out wr).mono ?_;rintro e l ⟨rfl,p⟩;go_wp2;go_roundw
   case rel=>exact⟨k+1,by omega,by go_num,ag a p⟩
   simp[intOf];omega
  .obtain rfl:k=xs.length:=by omega
   go_wp2;go_ret;exact⟨rfl,a⟩
def adL(xs:List Hd)(a:∀x∈xs,ahM x)(v:Value)(w:World)(b hi:Nat)(h:cx w b hi xs [v])(f:hi<=w.heap.size) :
  Calls (ai β) 44 #[v,.func (.func 50) #[] #[]] w λe g=>e=.returned (.bool false)/\Below w.heap.size w g:=by
 obtain⟨A,c,rfl⟩:=bC.form h;replace a:=ab a;go_enter yc,ntmps44;go_wp2;refine(ahN xs a.out _ w b hi h f).mono ?_;rintro e i ⟨rfl,d⟩;go_wp2;go_ret;exact⟨rfl,d⟩
def aaG(xs:List Hd)(i:jm xs)(v:Value)(w:World)(b hi:Nat)(h:cx w b hi xs [v])(d:hi<=w.heap.size) :
  Calls (ai β) 21 #[v] w λe g=>e=.returned (.bool true)/\Below w.heap.size w g:=by
 obtain⟨A,c,rfl⟩:=bC.form h;obtain⟨k,a⟩:=i;have l:=dj (show(xs.length:Int)<=9 by omega);replace a:=ab a;go_enter A7,ntmps21;go_wp2;refine(adL xs a.out _ w b hi h d).mono ?_;rintro e j ⟨rfl,f⟩;go_wp2;go_ret;exact⟨rfl,f⟩
def afd(xs:List Hd)(A:Option Addr)(c a hi:Nat)(w:World)(d:cx w a hi xs [.slice A xs.length c])(b:hi<=w.heap.size) :
  Calls (ai β) 22 #[.slice A xs.length c] w λe W'=>∃p,e=.returned (.pointer p)/\LkL w.heap.size W' p xs/\Below w.heap.size w W':=
 callsIn_wide.1 (ao9 Fence.wide 6 trivial trivial trivial rfl (am _) xs A c a hi w d b)
def LkL.cons{W:World}{p:Option Addr}(h:LkL Z W p (x::xs)):∃(b:Nat) (q:Option Addr),p=some ⟨b,0,none⟩/\Z<=b/\aX W b 101 #[.int .i64 x.b,.int .i64 x.s,.pointer q]/\LkL Z W q xs:=h
def LkL.aDv{W:World}{p:Option Addr}(h:LkL Z W p []):p=none:=h
end
section
open Go.RowKit
def WfS.okl(h:WfS s):jm s.lg:=⟨h.ll,h.lg⟩
def jm.take{l:List Hd}(h:jm l)(n:Nat):jm (l.take n):=⟨by have:=h.1;rw[eg];omega,λx a=>h.2 x (pr a)⟩
def ahO{z:Int}(a:0<=z)(b:z<3):wrap64 z=z:=by unfold wrap64;omega
def anq(h:ahM x):(jS x).b=3-x.b/\(jS x).s=x.s:=by
 have:=h.1;exact⟨ahO (by omega) (by omega),rfl⟩
def jm.fork{l:List Hd}(h:jm l)(n:Nat):jm (sb l n jS):=⟨by rw[kX];exact h.1,λx b=>by
 rcases ago b with b|⟨y,c,rfl⟩
 .exact h.2 x b
 .have a:=h.2 y (db c);obtain⟨d,e⟩:=anq a;have:=a.1;have:=a.2;unfold ahM;omega⟩
def al8(x:V)(l:List V)(f:V->V):sb (x::l) 0 f=f x::l:=rfl
def al9(x:V)(l:List V)(n:Nat)(f:V->V):sb (x::l) (n+1) f=x::sb l n f:=by
 unfold sb;simp only[List.getElem?_cons_succ];cases l[n]?<;>rfl
def pX:Int->List Hd->Int
 |a,[]=>a
 |a,x::l=>pX (a*64+21*x.b+x.s) l
def ep(l:List Hd):Int:=pX 0 l
def ajM:∀(l m:List Hd) (a:Int),pX a (l++m)=pX (pX a l) m
 |[],_,_=>rfl
 |x::l,m,a=>ajM l m _
def ajN:∀{l:List Hd} {a b:Int},pX a l=pX b l->a=b
 |[],_,_,h=>h
 |x::l,a,b,h=>by
  have h:pX (a*64+21*x.b+x.s) l=pX (b*64+21*x.b+x.s) l:=h;have:=ajN h;omega
def anr:∀{l:List Hd} {a B:Int},(∀x∈l,ahM x)->0<=a->a<B->0<=pX a l/\pX a l<B*64 ^ l.length
 |[],a,B,_,h0,h1=>by show 0<=a/\a<B*64 ^ 0;rw[Int.pow_zero,Int.mul_one];exact⟨h0,h1⟩
 |x::l,a,B,h,h0,h1=>by
  obtain⟨⟨c,d⟩,e,f⟩:=h x (by simp);have:=anr (l:=l) (a:=a*64+21*x.b+x.s) (B:=B*64) (λy b=>h y (by simp[b])) (by omega) (by omega);show 0<=pX (a*64+21*x.b+x.s) l/\pX (a*64+21*x.b+x.s) l<B*64 ^ (l.length+1);rw[Int.pow_succ,Int.mul_comm (64 ^ l.length) 64,<-Int.mul_assoc];exact this
def ama{l:List Hd}(h:jm l):0<=ep l/\ep l<18014398509481984:=by
 have b:=anr (l:=l) (a:=0) (B:=1) h.2 (by omega) (by omega);have c:(64:Int) ^ l.length<=64 ^ 9:=by
  have:(64:Nat) ^ l.length<=64 ^ 9:=uP (by omega) h.1
  exact_mod_cast this
 have e:(64:Int) ^ 9=18014398509481984:=by decide
 unfold ep;omega
def agp:∀{l:List Hd} {n:Nat} {a:Int},(∀x∈l,ahM x)->n<l.length->pX a (sb l n jS)≠pX a l
 |[],n,_,_,h=>by simp at h
 |x::l,0,a,hk,_=>λe=>by
  rw[al8] at e;have e:pX (a*64+21*(jS x).b+(jS x).s) l=pX (a*64+21*x.b+x.s) l:=e;have:=ajN e;obtain⟨i,g⟩:=anq (hk x (by simp));have:=hk x (by simp);obtain⟨⟨c,d⟩,f,j⟩:=this;omega
 |x::l,n+1,a,hk,h=>λe=>by
  rw[al9] at e;exact agp (l:=l) (n:=n) (λy b=>hk y (by simp[b])) (by simpa using h) e
def mb(long sum:Int)(l:List Hd):Int×Int×Int:=if(l.length:Int)<long\/long<0 then(long,sum,1) else if ep (l.take long.toNat)=sum then((l.length:Int),ep l,0) else(long,sum,2)
def apo{l:List Hd}:mb 0 0 l=((l.length:Int),ep l,0):=by
 unfold mb;rw[da (by omega),du (show ep (l.take (Int.toNat 0))=0 from rfl)]
def apq{l:List Hd}(h:l[k]?=some x):ep (l.take (k+1))=ep (l.take k)*64+21*x.b+x.s:=by
 rw[lE h];unfold ep;rw[ajM];rfl
def ans(xs:List Hd)(l:jm xs)(n:Nat)(Z:n<=9223372036854775807)(p:Option Addr)(w:World)(F:Nat)(h:LkL F w p xs) :
  Calls (ai true) 23 #[.pointer p,.int .i64 n] w λe H=>e=.returned (.int .i64 (ep (xs.take n)))/\Below w.heap.size w H:=by
 replace l:=ab l;go_enter zY,ntmps23;go_wp2;go_loopw [0,1,5] (λP u M wr=>∃(k m:Nat) (p:Option Addr) (z:Int),k<=xs.length/\k+m=n/\P=.pointer p/\u=.int .i64 m/\M=.int .i64 z/\z=ep (xs.take k)/\LkL F wr p (xs.drop k)/\Below w.heap.size w wr) (λ_ u _ _=>(intOf u).toNat)
 case atStart=>exact⟨0,n,p,0,fa _,lP _,rfl,rfl,rfl,rfl,h,fd _ _⟩
 case round=>
  obtain⟨k,m,p,z,R,q,rfl,rfl,rfl,f,g,d⟩:=hrel;have A:=ama (l.out.take k);rw[<-f] at A;replace f:=ab f;cases b:xs.drop k with
  |nil=>
   rw[b] at g;obtain rfl:=g.aDv;have r:xs.length<=k:=wx.1 b;have v:z=ep (xs.take n):=by rw[f.out,oS r,oS (by omega)]
   have s:=ab v;go_wp2;go_ret;exact⟨agX s.out,d⟩
  |cons x L=>
   rw[b] at g;obtain⟨Q,N,rfl, -,c,y⟩:=g.cons;by_cases I:m=0
   .subst I;have v:z=ep (xs.take n):=by rw[f.out,<-q,tu]
    have s:=ab v;go_wp2;go_ret;exact⟨agX s.out,d⟩
   .obtain⟨o,rfl⟩:∃o,m=o+1:=⟨m-1,by omega⟩;have W:=dj (show 0<(((o+1:Nat):Int)) by omega);have G:k<xs.length:=by
     rcases pm k xs.length with h|h
     .exact h
     .rw[wx.2 h] at b;cases b
    have ext:xs.drop (k+1)=L:=by rw[<-List.tail_drop,b];rfl
    have E:xs[k]?=some x:=by
     have:=sN (xs:=xs) (i:=k) (j:=0);rw[b] at this;simpa using this.symm
    have t:=l.out.2 x (db E);obtain⟨⟨V,T⟩,X,Y⟩:=t;have a:=apq E;rw[<-f.out] at a;have S:=c.cell 0;have U:=c.cell 1;have J:=c.cell 2;replace ext:=ab ext;replace a:=ab a;obtain⟨D,O⟩:∃D,D=x.b:=⟨_,rfl⟩;obtain⟨C,K⟩:∃C,C=x.s:=⟨_,rfl⟩;go_wp2
    go_quiet (fail)
    have B:=sL d nq;go_wp2;go_roundw
    case rel=>exact⟨k+1,o,N,z*64+21*x.b+x.s,by omega,by omega,rfl,by go_num,by go_num,a.out.symm,by rw[ext.out];exact y.below (sL (fd _ _) nq),B⟩
    first|(simp[intOf];done)|(simp[intOf];omega)
def aso(xs:List Hd)(a:jm xs)(v:Value)(w:World)(g hi:Nat)(h:cx w g hi xs [v])(f:hi<=w.heap.size) :
  Calls (ai true) 24 #[v] w λe j=>e=.returned (.int .i64 (ep xs))/\Below w.heap.size w j:=by
 obtain⟨A,c,rfl⟩:=bC.form h;have r:=a.1;replace a:=ab a;go_enter zX,ntmps24;go_wp2;refine(aaG (β:=true) xs a.out _ w g hi h f).mono ?_;rintro e i ⟨rfl,b⟩;have n:=cx.loc.below h b f;go_wp2;refine(afd (β:=true) xs A c g hi i n (ap f b.size)).mono ?_;rintro e o ⟨p,rfl,m,k⟩;have d:=ag b k;go_wp2;refine(ans xs a.out xs.length (by omega) p o _ m).mono ?_;rintro e q ⟨rfl,l⟩;rw[gE];go_wp2;go_ret;exact⟨rfl,ag d l⟩
def adq(xs:List Hd)(G:jm xs)(long sum:Int)(a1:long<=9223372036854775807)(v:Value)(w:World)(J hi:Nat)(h:cx w J hi xs [v])(K:hi<=w.heap.size) :
  Calls (ai true) 8 #[.agg #[.int .i64 long,.int .i64 sum],v] w λe R=>e=.returned (.tuple #[.agg #[.int .i64 (mb long sum xs).1,.int .i64 (mb long sum xs).2.1],.int .i64 (mb long sum xs).2.2])/\Below w.heap.size w R:=by
 obtain⟨A,c,rfl⟩:=bC.form h;have h9:=G.1;replace G:=ab G;obtain⟨r,F⟩:∃r,r=mb long sum xs:=⟨_,rfl⟩;rw[<-F];replace F:=ab F;go_enter qF8,ntmps8;go_wp2;generalize hG:(w.alloc (.cells #[.int .i64 long,.int .i64 sum] 35)).alloc (.cells #[.int .i64 0,.int .i64 0] 35)=w0 at *;obtain⟨N,iw,g,H,V,a,f,j⟩:=oK hG;have h0:=cx.loc.below h N K;refine(aaG (β:=true) xs G.out _ w0 J hi h0 (ap K N.size)).mono ?_;rintro e o ⟨rfl,Q⟩;replace g:=ah g Q;replace H:=g.cell;replace V:=g.frozen;replace a:=ah a Q;replace f:=a.cell;replace j:=a.frozen;have i:=ag N Q;by_cases O:(xs.length:Int)<long
 .have s:r=(long,sum,1):=by rw[F.out];unfold mb;rw[du (.inl O)]
  have D:=ab s;have t2:decide ((xs.length:Int)<long)=true:=dj O;go_wp2;have B:=(i.setCell (p:=⟨w.heap.size+1,0,none⟩) (by show w.heap.size<=w.heap.size+1;omega) (.int .i64 long)).setCell (p:=⟨w.heap.size+1,1,none⟩) (by show w.heap.size<=w.heap.size+1;omega) (.int .i64 sum);replace a:=a.bc 0 (.int .i64 long);simp only[de,ff,gc] at a;have t:o.heap.size<=(o.setCell ⟨(w.heap.size+1),0,none⟩ (.int .i64 long)).heap.size:=by simp only[be];exact am _
  generalize o.setCell ⟨(w.heap.size+1),0,none⟩ (.int .i64 long)=w11 at *;replace f:=a.cell;replace j:=a.frozen;replace a:=a.bc 1 (.int .i64 sum);simp only[de,ff,gc] at a;have C:w11.heap.size<=(w11.setCell ⟨(w.heap.size+1),1,none⟩ (.int .i64 sum)).heap.size:=by simp only[be];exact am _
  generalize w11.setCell ⟨(w.heap.size+1),1,none⟩ (.int .i64 sum)=w12 at *;replace f:=a.cell;replace j:=a.frozen;have q:=f 0;have u:=f 1;exact mx (v:=.tuple #[.agg #[.int .i64 long,.int .i64 sum],.int .i64 1]) (by simp[results,results8,go_sem,q,u]) rfl ⟨by rw[D.out],B⟩
 have t2:decide ((xs.length:Int)<long)=false:=bv O;by_cases P:long<0
 .have s:r=(long,sum,1):=by rw[F.out];unfold mb;rw[du (.inr P)]
  have D:=ab s;have Z:decide (long<0)=true:=dj P;go_wp2;have B:=(i.setCell (p:=⟨w.heap.size+1,0,none⟩) (by show w.heap.size<=w.heap.size+1;omega) (.int .i64 long)).setCell (p:=⟨w.heap.size+1,1,none⟩) (by show w.heap.size<=w.heap.size+1;omega) (.int .i64 sum);replace a:=a.bc 0 (.int .i64 long);simp only[de,ff,gc] at a;have t:o.heap.size<=(o.setCell ⟨(w.heap.size+1),0,none⟩ (.int .i64 long)).heap.size:=by simp only[be];exact am _
  generalize o.setCell ⟨(w.heap.size+1),0,none⟩ (.int .i64 long)=w11 at *;replace f:=a.cell;replace j:=a.frozen;replace a:=a.bc 1 (.int .i64 sum);simp only[de,ff,gc] at a;have C:w11.heap.size<=(w11.setCell ⟨(w.heap.size+1),1,none⟩ (.int .i64 sum)).heap.size:=by simp only[be];exact am _
  generalize w11.setCell ⟨(w.heap.size+1),1,none⟩ (.int .i64 sum)=w12 at *;replace f:=a.cell;replace j:=a.frozen;have q:=f 0;have u:=f 1;exact mx (v:=.tuple #[.agg #[.int .i64 long,.int .i64 sum],.int .i64 1]) (by simp[results,results8,go_sem,q,u]) rfl ⟨by rw[D.out],B⟩
 have Z:decide (long<0)=false:=bv P;obtain⟨n,rfl⟩:∃n:Nat,long=n:=⟨long.toNat,by omega⟩;have t5:=bv (show ¬(xs.length<n) by omega);have f0:o.cell? ⟨w.heap.size,0,none⟩=some (.int .i64 n):=H 0;have f1:o.cell? ⟨w.heap.size,1,none⟩=some (.int .i64 sum):=H 1;have h1:=cx.loc.below h i K;have z1:=i.size;have X:n<=9223372036854775807:=by omega
 obtain⟨d,hd⟩:∃d,d=ep (xs.take n):=⟨_,rfl⟩;have l:r=if d=sum then((xs.length:Int),ep xs,0) else((n:Int),sum,2):=by
  rw[F.out,hd];unfold mb;rw[da (by omega),sA]
 replace l:=ab l;replace hd:=ab hd;go_wp2;have aI:=ae f0;have aJ:=ae f1;refine aD 8 [0,2,3,5,6] [1,4,7] (h:= ?_);simp only[pick,List.map,gn,gt];repeat(go_big_quiet_step (fail))
 refine ip ?_;apply Exists.intro;apply bu (λv R=>∃p,v=.pointer p/\LkL w.heap.size R p xs)
 .rfl
 .exact λv x y ⟨p,e,I⟩ hle=>⟨p,e,LkL.below hle I⟩
 .intro z E Y b;replace b:=ab b;have hz:=cx.loc.below h1 z.ok (by omega);have a0:=z.ok.size;go_wp2;refine(afd (β:=true) xs A c J hi z.to hz (by omega)).mono ?_;rintro e w2 ⟨p,rfl,I,U⟩;go_wp2;exact b.out _ _ U ⟨p,rfl,LkL.ar2 (by omega) I⟩
 intro v1;apply dW (.int .i64 d)
 .intro z E Y b;replace b:=ab b;obtain⟨p,rfl,I⟩:=E.1 (by kernel_rfl);go_wp2;refine(ans xs G.out n X p z.to _ I).mono ?_;rintro e w2 ⟨rfl,U⟩;rw[<-hd.out];go_wp2;exact b.out _ U
 apply dW (.bool (d !=sum))
 .intro z E Y b;replace b:=ab b;go_wp2;exact b.out _ (fd _ _)
 refine aS ?_;intro L W xx dh E;dsimp only[dV] at E;try rw[dh] at E
 simp only[List.drop];replace g:=ah g W;replace H:=g.cell;replace V:=g.frozen;replace a:=ah a W;replace f:=a.cell;replace j:=a.frozen;have m:=ag i W;by_cases k:d=sum
 .have s:r=((xs.length:Int),ep xs,0):=by rw[l.out,du k]
  have D:=ab s;have M:(d !=sum)=false:=by rw[k];simp
  rw[M];have h5:=cx.loc.below h m K;go_wp2;refine(aso xs G.out _ L J hi h5 (by have:=m.size;omega)).mono ?_;rintro e T ⟨rfl,S⟩;replace g:=ah g S;replace H:=g.cell;replace V:=g.frozen;replace a:=ah a S;replace f:=a.cell;replace j:=a.frozen;have iA:=ag m S;go_wp2;have B:=(iA.setCell (p:=⟨w.heap.size+1,0,none⟩) (by show w.heap.size<=w.heap.size+1;omega) (.int .i64 (xs.length:Int))).setCell (p:=⟨w.heap.size+1,1,none⟩) (by show w.heap.size<=w.heap.size+1;omega) (.int .i64 (ep xs));replace a:=a.bc 0 (.int .i64 (xs.length:Int));simp only[de,ff,gc] at a;have t:T.heap.size<=(T.setCell ⟨(w.heap.size+1),0,none⟩ (.int .i64 (xs.length:Int))).heap.size:=by simp only[be];exact am _
  generalize T.setCell ⟨(w.heap.size+1),0,none⟩ (.int .i64 (xs.length:Int))=w11 at *;replace f:=a.cell;replace j:=a.frozen;replace a:=a.bc 1 (.int .i64 (ep xs));simp only[de,ff,gc] at a;have C:w11.heap.size<=(w11.setCell ⟨(w.heap.size+1),1,none⟩ (.int .i64 (ep xs))).heap.size:=by simp only[be];exact am _
  generalize w11.setCell ⟨(w.heap.size+1),1,none⟩ (.int .i64 (ep xs))=w12 at *;replace f:=a.cell;replace j:=a.frozen;have q:=f 0;have u:=f 1;exact mx (v:=.tuple #[.agg #[.int .i64 (xs.length:Int),.int .i64 (ep xs)],.int .i64 0]) (by simp[results,results8,go_sem,q,u]) rfl ⟨by rw[D.out],B⟩
 .have s:r=((n:Int),sum,2):=by rw[l.out,da k]
  have D:=ab s;have M:(d !=sum)=true:=by simp[k]
  rw[M];go_wp2;have B:=(m.setCell (p:=⟨w.heap.size+1,0,none⟩) (by show w.heap.size<=w.heap.size+1;omega) (.int .i64 (n:Int))).setCell (p:=⟨w.heap.size+1,1,none⟩) (by show w.heap.size<=w.heap.size+1;omega) (.int .i64 sum);replace a:=a.bc 0 (.int .i64 (n:Int));simp only[de,ff,gc] at a;have t:L.heap.size<=(L.setCell ⟨(w.heap.size+1),0,none⟩ (.int .i64 (n:Int))).heap.size:=by simp only[be];exact am _
  generalize L.setCell ⟨(w.heap.size+1),0,none⟩ (.int .i64 (n:Int))=w11 at *;replace f:=a.cell;replace j:=a.frozen;replace a:=a.bc 1 (.int .i64 sum);simp only[de,ff,gc] at a;have C:w11.heap.size<=(w11.setCell ⟨(w.heap.size+1),1,none⟩ (.int .i64 sum)).heap.size:=by simp only[be];exact am _
  generalize w11.setCell ⟨(w.heap.size+1),1,none⟩ (.int .i64 sum)=w12 at *;replace f:=a.cell;replace j:=a.frozen;have q:=f 0;have u:=f 1;exact mx (v:=.tuple #[.agg #[.int .i64 (n:Int),.int .i64 sum],.int .i64 2]) (by simp[results,results8,go_sem,q,u]) rfl ⟨by rw[D.out],B⟩
end
section
variable {β:Bool}
open Go.RowKit
structure eH (w:World) (g:Nat) (T:TypeId) (old new:Array Value) where
 to:World
 ok:aZ (λb=>b=g) w to
 bk:aX to g T old\/aX to g T new
section
variable {w:World} {g:Nat} {T:TypeId} {old new:Array Value}
instance awF:bg (eH w g T old new):=⟨λ_ _=>True,λ_ _ _=>trivial,λ_ _=>True⟩
def eH.le(x y:eH w g T old new):Prop:=aZ (λb=>b=g) x.to y.to/\(aX x.to g T new->aX y.to g T new)
def eH.le_refl(x:eH w g T old new):eH.le x x:=⟨aZ.refl _ _,id⟩
def afe{p:Addr}(h:w.cell? p=some v)(b:p.block≠g):∀x:eH w g T old new,x.to.cell? p=some v:=λx=>by
 have a:=tA w p h;unfold World.cell? at h ⊢;rw[x.ok.block p.block a b];exact h
variable {P:Program}
def amb {Q:Exit->Act->World->Prop} {l:List Oper} {a:Act} (n:Nat) (c b:List Nat) (e:P.follows .mixedOrders=true) (k:ag6 l n c b=true) (d:adz l.toArray n a.tmps.size=true) (f:aX w g T old)
  (h:wpQuiet P l.toArray (λi=>∃x:eH w g T old new,i=x.to) (λj=>∃m:List (iu (eH w g T old new)),cK P l.toArray (@eH.to w g T old new) (@eH.le w g T old new) (wpList P l.toArray Q (l.drop n)) (pick l b) [] m j) ((pick l c).map (·.2)) a):(Code.region Z l.toArray true).wp P Q a w:=
 nM (@eH.to w g T old new) (@eH.le w g T old new) eH.le_refl n c b e k d ⟨w.drew,(aZ.refl _ _).drew,.inl f⟩ (λ_ _=>trivial) (λ_ _=>trivial) rfl h
variable {ops:Array Oper} {Qt:Act->World->Prop} {i:Nat} {o:Oper} {L:List (Nat×Oper)} {F:List (Nat×(eH w g T old new->Prop))} {Rs:List (iu (eH w g T old new))} {a:Act}
def asp (n:o.dst=none)
  (s:∀x:eH w g T old new,aaZ F o x->∀d:Exit->Act->World->Prop,(∀c,aZ (λb=>b=g) x.to c->aX c g T new->d .normal a c)->wpList P ops d [o] a x.to)
  (p:cK P ops (@eH.to w g T old new) (@eH.le w g T old new) Qt L ((i,λx=>aX x.to g T new)::F) Rs a):cK P ops (@eH.to w g T old new) (@eH.le w g T old new) Qt ((i,o)::L) F (.any (λ_ x=>aX x.to g T new)::Rs) a:=by
 have k:∀v,a.put o.dst v=a:=λv=>by rw[n];rfl
 refine kP (X:=eH w g T old new) (to:=@eH.to w g T old new) (le:=@eH.le w g T old new) (λ_ x=>aX x.to g T new) (.inr λ_ _ _ h=>h) (λv x y h j=>j.2 h) (λx r m _ _ d q=>s x r d λc l f=> ?_) λv=>by rw[k];exact p
 have:=q undef ⟨c,x.ok.trans l λ_ _ e=>e,.inr f⟩ ⟨l,λ_=>f⟩ trivial (λ_ _ _ _=>trivial) f;rw[k] at this;exact this
def ayy(h:∀c,aZ (λb=>b=g) w c->aX c g T new->Qt a c):cK P ops (@eH.to w g T old new) (@eH.le w g T old new) Qt [] [(i,λx:eH w g T old new=>aX x.to g T new)] [] a:=
 adU λx d=>h x.to x.ok d.1
end
end
section
open Go.RowKit
def avs{long sum:Int}{l:List Hd}(h:(mb long sum l).2.2≠0):(mb long sum l).1=long/\(mb long sum l).2.1=sum:=by
 unfold mb at h ⊢;split
 .exact⟨rfl,rfl⟩
 .rename_i a;rw[da a] at h;split
  .rename_i b;rw[du b] at h;exact absurd rfl h
  .exact⟨rfl,rfl⟩
def abk(r:Int×Int×Int)(o:Option (List Nd))(w:World)(e:Ending)(w':World):Prop:=
 ∃u,e=.returned (.tuple #[u,.int .i64 r.2.2,.agg #[.int .i64 r.1,.int .i64 r.2.1],.bool (if r.2.2=0 then o else none).isSome])/\apm (if r.2.2=0 then o else none) w.heap.size u w'/\Below w.heap.size w w'
def apr(s:dH)(hs:SmS s)(a9:∀p∈s.pk,1<=p.its.length)(lU:jm s.lg)(long sum K:Int)(a5:long<=9223372036854775807)(va vb Z:Value)(lo hi:Nat)(w:World)(hg:Glo w)(aR:hi<=w.heap.size)(h:fI w lo hi s va vb Z) :
  Calls (ai true) 9 #[.int .i64 7,.agg #[.int .i64 long,.int .i64 sum],.agg #[va,vb,Z],.int .i64 K] w (abk (mb long sum s.lg) (iN 7 s K) w):=by
 have HS:=ab hs;have HO:=ab a9;have HK:=ab lU;have HB:=ab (avs (long:=long) (sum:=sum) (l:=s.lg));have HM:=λ(y:World) (V:Below w.heap.size w y)=>adq s.lg lU long sum a5 Z y lo hi (cx.loc.below h.lg V aR) (ap aR V.size)
 replace HM:=ab HM;generalize mb long sum s.lg=r at *;obtain⟨f,j,U⟩:=r;obtain⟨⟨A,a,rfl⟩,⟨B,b,rfl⟩,C,c,rfl⟩:(∃A a,va=.slice A s.pk.length a)/\(∃A a,vb=.slice A s.sn.length a)/\(∃A a,Z=.slice A s.lg.length a):=⟨bC.form h.pk,bC.form h.sn,bC.form h.lg⟩;go_enter qF9,ntmps9;go_wp2;generalize hG:((w.alloc (.cells #[.int .i64 long,.int .i64 sum] 35)).alloc (.cells #[.slice A s.pk.length a,.slice B s.sn.length b,.slice C s.lg.length c] 27)).alloc (.cells #[.int .i64 0,.int .i64 0] 35)=w0 at *;obtain⟨o,iw,n,I,Y,m,W,dx,d,E,G⟩:=adA hG;refine(ag0 (β:=true) 7 _ true (by simp)).mono ?_;rintro e k ⟨rfl,rfl⟩;go_wp2;refine(HM.out _ o).mono ?_;rintro e k ⟨rfl,N⟩;replace n:=ah n N;replace I:=n.cell;replace Y:=n.frozen;replace m:=ah m N;replace W:=m.cell;replace dx:=m.frozen;replace d:=ah d N;replace E:=d.cell;replace G:=d.frozen;have aa:=ag o N;replace o:=aa;have z1:=N.size;by_cases J:U=0
 .subst J;have H:=au k (.cells #[.int .i64 f,.int .i64 j] 35);have a2:=(ah n H).cell;have a1:=(ah m H).cell;have a7:=(ah d H).cell;go_wp2;have D:Below k.heap.size k (k.alloc (.cells #[.int .i64 f,.int .i64 j] 35)):=au _ _;have z:aX (k.alloc (.cells #[.int .i64 f,.int .i64 j] 35)) (k.heap.size) 35 #[.int .i64 f,.int .i64 j]:=aX.new _ _ _;have a0:k.heap.size+1<=(k.alloc (.cells #[.int .i64 f,.int .i64 j] 35)).heap.size:=by simp only[mp];omega
  generalize (k.alloc (.cells #[.int .i64 f,.int .i64 j] 35))=w2 at *;have X:=z.cell;have P:=z.frozen;replace n:=ah n D;replace I:=n.cell;replace Y:=n.frozen;replace m:=ah m D;replace W:=m.cell;replace dx:=m.frozen;replace d:=ah d D;replace E:=d.cell;replace G:=d.frozen;replace o:=ag o D;have h2:=h.below o aR;have a6:=hg.below o;have z2:=o.size;have n1:k.heap.size≠w.heap.size+1+1:=by omega
  refine(ajL s HS.out HO.out K _ _ _ lo hi w2 a6 (by omega) h2).mono ?_;rintro e F ⟨u,rfl,o3,a8,L⟩;replace n:=ah n L;replace I:=n.cell;replace Y:=n.frozen;replace m:=ah m L;replace W:=m.cell;replace dx:=m.frozen;replace d:=ah d L;replace E:=d.cell;replace G:=d.frozen;replace z:=ah z L;replace X:=z.cell;replace P:=z.frozen;replace o:=ag o L;have a4:F.cell? ⟨k.heap.size,0,none⟩=some (.int .i64 f):=X 0;have a3:F.cell? ⟨k.heap.size,1,none⟩=some (.int .i64 j):=X 1;go_wp2;have aI:=afe (g:=w.heap.size+1+1) (T:=35) (old:=#[.int .i64 0,.int .i64 0]) (new:=#[.int .i64 f,.int .i64 j]) a4 n1;have aJ:=afe (g:=w.heap.size+1+1) (T:=35) (old:=#[.int .i64 0,.int .i64 0]) (new:=#[.int .i64 f,.int .i64 j]) a3 n1
  haveI:Nonempty (eH F (w.heap.size+1+1) 35 #[.int .i64 0,.int .i64 0] #[.int .i64 f,.int .i64 j]):=⟨⟨F,aZ.refl _ _,.inl d⟩⟩
  refine amb (new:=#[.int .i64 f,.int .i64 j]) 6 [0,1,2,3,4] [5] (by kernel_rfl) (by kernel_rfl) (by kernel_rfl) d ?_;simp only[pick,List.map,gn,gt];repeat(go_big_quiet_step (fail))
  refine ip ?_;apply Exists.intro;apply asp
  .rfl
  .intro x _ Qx t;replace t:=ab t;rcases x.bk with q|q
   .have c0:=q.cell 0;have c1:=q.cell 1;have M:=q.frozen 0;have O:=q.frozen 1;go_wp2;exact t.out _ (((aZ.refl (λb=>b=w.heap.size+1+1) x.to).setCell (p:=⟨w.heap.size+1+1,0,none⟩) (.inl rfl) _).setCell (p:=⟨w.heap.size+1+1,1,none⟩) (.inl rfl) _) ((q.bc 0 (.int .i64 f)).bc 1 (.int .i64 j))
   .have c0:=q.cell 0;have c1:=q.cell 1;have M:=q.frozen 0;have O:=q.frozen 1;go_wp2;exact t.out _ (((aZ.refl (λb=>b=w.heap.size+1+1) x.to).setCell (p:=⟨w.heap.size+1+1,0,none⟩) (.inl rfl) _).setCell (p:=⟨w.heap.size+1+1,1,none⟩) (.inl rfl) _) ((q.bc 0 (.int .i64 f)).bc 1 (.int .i64 j))
  refine ayy ?_;intro w4 Q R;simp only[List.drop];have M:w4.cell? ⟨w.heap.size+1+1,0,none⟩=some (.int .i64 f):=R.cell 0;have O:w4.cell? ⟨w.heap.size+1+1,1,none⟩=some (.int .i64 j):=R.cell 1;have hf:=o.trans (Q.below o.size λi _ e=>by omega);have o4:apm (iN 7 s K) w.heap.size u w4:=⟨(o3.eZ Q λb V e=>by have:=(o3.at_ V).1;omega).base (by omega),a8⟩;go_wp2;exact mx (v:=.tuple #[u,.int .i64 0,.agg #[.int .i64 f,.int .i64 j],.bool (iN 7 s K).isSome]) (by simp[results,results9,go_sem,M,O]) rfl ⟨_,by rw[du rfl],by rw[du rfl];exact o4,hf⟩
 .have t3:(U !=0)=true:=by simp[J]
  obtain⟨rfl,rfl⟩:=HB.out J;replace J:=ab J;have H:=au k (.cells #[.int .i64 f,.int .i64 j] 35);have a2:=(ah n H).cell;have a1:=(ah m H).cell;have a7:=(ah d H).cell;go_wp2;have D:Below k.heap.size k (k.alloc (.cells #[.int .i64 f,.int .i64 j] 35)):=au _ _;have z:aX (k.alloc (.cells #[.int .i64 f,.int .i64 j] 35)) (k.heap.size) 35 #[.int .i64 f,.int .i64 j]:=aX.new _ _ _;have a0:k.heap.size+1<=(k.alloc (.cells #[.int .i64 f,.int .i64 j] 35)).heap.size:=by simp only[mp];omega
  generalize (k.alloc (.cells #[.int .i64 f,.int .i64 j] 35))=w2 at *;have X:=z.cell;have P:=z.frozen;replace n:=ah n D;replace I:=n.cell;replace Y:=n.frozen;replace m:=ah m D;replace W:=m.cell;replace dx:=m.frozen;replace d:=ah d D;replace E:=d.cell;replace G:=d.frozen;replace o:=ag o D;have f0:=I 0;have f1:=I 1;have aI:=ae f0;have aJ:=ae f1;refine aD 4 [0,1,2,3] [] (h:= ?_);simp only[pick,List.map,gn,gt];repeat(go_big_quiet_step (fail))
  refine ip ?_;apply Exists.intro;refine aS ?_;intro F S xx dh hF;dsimp only[dV] at hF;try rw[dh] at hF
  simp only[List.drop];replace d:=ah d S;replace E:=d.cell;replace G:=d.frozen;replace o:=ag o S;go_wp2;have hf:=(o.setCell (p:=⟨w.heap.size+1+1,0,none⟩) (by show w.heap.size<=w.heap.size+1+1;omega) (.int .i64 f)).setCell (p:=⟨w.heap.size+1+1,1,none⟩) (by show w.heap.size<=w.heap.size+1+1;omega) (.int .i64 j);replace d:=d.bc 0 (.int .i64 f);simp only[de,ff,gc] at d;have ad:F.heap.size<=(F.setCell ⟨(w.heap.size+1+1),0,none⟩ (.int .i64 f)).heap.size:=by simp only[be];exact am _
  generalize F.setCell ⟨(w.heap.size+1+1),0,none⟩ (.int .i64 f)=w11 at *;replace E:=d.cell;replace G:=d.frozen;replace d:=d.bc 1 (.int .i64 j);simp only[de,ff,gc] at d;have af:w11.heap.size<=(w11.setCell ⟨(w.heap.size+1+1),1,none⟩ (.int .i64 j)).heap.size:=by simp only[be];exact am _
  generalize w11.setCell ⟨(w.heap.size+1+1),1,none⟩ (.int .i64 j)=w12 at *;replace E:=d.cell;replace G:=d.frozen;have M:=E 0;have O:=E 1;have ho:(if U=0 then iN 7 s K else none)=none:=da J.out;exact mx (v:=.tuple #[.slice none 0 0,.int .i64 U,.agg #[.int .i64 f,.int .i64 j],.bool false]) (by simp[results,results9,go_sem,M,O]) rfl ⟨_,by rw[ho];rfl,by rw[ho];exact⟨aL.nil _ _ _,λy hy=>(by cases hy)⟩,hf⟩
def abk.no{n : Int}(h:abk (a,b,n) o w e w')(f:n≠0):∃u,e=.returned (.tuple #[u,.int .i64 n,.agg #[.int .i64 a,.int .i64 b],.bool false])/\Below w.heap.size w w':=by
 obtain⟨u,c, -,d⟩:=h;refine⟨u, ?_,d⟩;rw[c];show Ending.returned (.tuple #[u,.int .i64 n,.agg #[.int .i64 a,.int .i64 b],.bool (if n=0 then o else none).isSome])=_;rw[da f];rfl
def abk.yes(h:abk (a,b,0) o w e w'):∃u,e=.returned (.tuple #[u,.int .i64 0,.agg #[.int .i64 a,.int .i64 b],.bool o.isSome])/\apm o w.heap.size u w'/\Below w.heap.size w w':=by
 obtain⟨u,c,d,f⟩:=h;exact⟨u,c,d,f⟩
end
section
variable {β:Bool}
open Go.RowKit
def agq(xs o:List Hd)(K L:Value)(w:World)(lo hi eY hi':Nat)(D:cx w lo hi xs [K])(I:cx w eY hi' o [L])(E:hi<=w.heap.size)(F:hi'<=w.heap.size)(b:Bool)(s:b=true↔xs=o) :
  Calls (ai β) 15 #[K,L] w λe Q=>e=.returned (.bool b)/\Below w.heap.size w Q:=by
 replace s:=ab s;obtain⟨A,c,rfl⟩:=D.form;obtain⟨B,d,rfl⟩:=I.form;obtain⟨_,hc,Y⟩:=D.len_;unfold maxLen at Y;go_enter Ag,ntmps15;by_cases a:xs.length=o.length
 .have W:((xs.length:Int) !=o.length)=false:=by rw[qI];omega
  replace a:=ab a;go_wp2;go_loopw [5] (λi wr=>∃k:Nat,k<=xs.length/\i=.int .i64 k/\xs.take k=o.take k/\Below w.heap.size w wr) (λi _=>xs.length-(intOf i).toNat)
  case atStart=>exact⟨0,fa _,rfl,rfl,fd _ _⟩
  case round=>
   obtain⟨k,hk,rfl,u,j⟩:=hrel;replace u:=ab u;by_cases C:k<xs.length
   .obtain⟨x,r⟩:=aq C;obtain⟨y,q⟩:=aq (l:=o) (k:=k) (by have:=a.out;omega);obtain⟨H,t,X,rfl,_,G,_,⟨rfl,S⟩,f⟩:=(cx.loc.below D j E).at_ r;have R:wr.cell? ⟨H,t+k*2,none⟩=some (.int .i64 x.b):=by simpa using f 0 _ rfl
    have a0:wr.cell? ⟨H,t+k*2+1,none⟩=some (.int .i64 x.s):=by simpa using f 1 _ rfl
    clear f;obtain⟨M,N,X,rfl,_,G,_,⟨rfl,T⟩,f⟩:=(cx.loc.below I j F).at_ q;have Z:wr.cell? ⟨M,N+k*2,none⟩=some (.int .i64 y.b):=by simpa using f 0 _ rfl
    have U:wr.cell? ⟨M,N+k*2+1,none⟩=some (.int .i64 y.s):=by simpa using f 1 _ rfl
    clear f;have V:(k:Int)<(o.length:Int):=by have:=a.out;omega
    replace r:=ab r;replace q:=ab q;by_cases g:x.b=y.b
    .have O:(x.b ==y.b)=true:=nf.2 g;by_cases m:x.s=y.s
     .have P:(x.s ==y.s)=true:=nf.2 m;have z:x=y:=by cases x;cases y;simp only[Hd.mk.injEq];exact⟨g,m⟩
      replace z:=ab z;clear g m;go_wp2
      go_quiet (fail)
      have v:=sL j nq;go_wp2;go_roundw
      case rel=>first|exact⟨k+1,by omega,by go_num,by rw[lE r.out,lE q.out,u.out,z.out],v⟩|((repeat apply Exists.intro);refine⟨?_,rfl⟩;exact⟨k+1,by omega,by go_num,by rw[lE r.out,lE q.out,u.out,z.out],v⟩)
      simp[intOf];omega
     .have P:(x.s ==y.s)=false:=dk.2 m;have n:b=false:=by
       rw[<-mT,s.out];rintro rfl;exact m (jp Hd.s (dq (r.out.symm.trans q.out)))
      have p:=ab n;clear n;clear g m;go_wp2
      go_quiet (fail)
      go_wp2;go_ret;exact⟨aF p.out.symm,sL j _⟩
    .have O:(x.b ==y.b)=false:=dk.2 g;have n:b=false:=by
      rw[<-mT,s.out];rintro rfl;exact g (jp Hd.b (dq (r.out.symm.trans q.out)))
     have p:=ab n;clear n;clear g;go_wp2
     go_quiet (fail)
     go_wp2;go_ret;exact⟨aF p.out.symm,sL j _⟩
   .obtain rfl:k=xs.length:=by omega
    have J:b=true:=by
     rw[s.out];have:=u.out
     rwa [gE,oS (by have:=a.out;omega)] at this
    have p:=ab J;clear J;go_wp2;go_ret;exact⟨aF p.out.symm,j⟩
 .have W:((xs.length:Int) !=o.length)=true:=by rw[rL];omega
  have n:b=false:=by
   rw[<-mT,s.out];rintro rfl;exact a rfl
  have p:=ab n;clear n;replace a:=ab a;go_wp2;go_ret;exact⟨aF p.out.symm,fd _ _⟩
def aff(x y:Pk)(M N:Value)(w:World)(lo hi G L:Nat)(I:jg w lo hi x.its [M])(J:jg w G L y.its [N])(aR:hi<=w.heap.size)(V:L<=w.heap.size)(b:Bool)(r:b=true↔x=y) :
  Calls (ai β) 16 #[.agg #[.int .i64 x.no,M],.agg #[.int .i64 y.no,N]] w λe w'=>e=.returned (.bool b)/\Below w.heap.size w w':=by
 replace r:=ab r;obtain⟨A,c,rfl⟩:=bC.form I;obtain⟨A2,X,rfl⟩:=bC.form J;obtain⟨_,hc,hx⟩:=bC.len_ I;unfold maxLen at hx;go_enter Af,ntmps16;by_cases o:x.no=y.no
 .have W:(x.no !=y.no)=false:=by rw[qI];exact o
  replace o:=ab o;by_cases a:x.its.length=y.its.length
  .have t1:((x.its.length:Int) !=y.its.length)=false:=by rw[qI];omega
   replace a:=ab a;go_wp2;generalize O:(w.alloc (.cells #[.int .i64 x.no,.slice A x.its.length c] 54)).alloc (.cells #[.int .i64 y.no,.slice A2 y.its.length X] 54)=w0 at *;obtain⟨aG,iw,E,T,dS,D,U,dx⟩:=oK O;clear O;go_loopw [5] (λi wr=>∃k:Nat,k<=x.its.length/\i=.int .i64 k/\x.its.take k=y.its.take k/\Below w0.heap.size w0 wr) (λi _=>x.its.length-(intOf i).toNat)
   case atStart=>exact⟨0,fa _,rfl,rfl,fd _ _⟩
   case round=>
    obtain⟨k,hk,rfl,u,n⟩:=hrel;replace u:=ab u;replace E:=ah E n;replace T:=E.cell;replace dS:=E.frozen;replace D:=ah D n;replace U:=D.cell;replace dx:=D.frozen;have v:=ag aG n;by_cases H:k<x.its.length
    .obtain⟨p,s⟩:=aq H;obtain⟨q,t⟩:=aq (l:=y.its) (k:=k) (by have:=a.out;omega);obtain⟨P,z,es,rfl,_,F,_,⟨rfl,a1⟩,f⟩:=(jg.loc.below I v aR).at_ s;have S:wr.cell? ⟨P,z+k*2,none⟩=some (.int .i64 p.n):=by simpa using f 0 _ rfl
     have a3:wr.cell? ⟨P,z+k*2+1,none⟩=some (.string p.b):=by simpa using f 1 _ rfl
     clear f;obtain⟨Q,R,es,rfl,_,F,_,⟨rfl,a2⟩,f⟩:=(jg.loc.below J v V).at_ t;have a0:wr.cell? ⟨Q,R+k*2,none⟩=some (.int .i64 q.n):=by simpa using f 0 _ rfl
     have Y:wr.cell? ⟨Q,R+k*2+1,none⟩=some (.string q.b):=by simpa using f 1 _ rfl
     clear f;have Z:(k:Int)<(y.its.length:Int):=by have:=a.out;omega
     replace s:=ab s;replace t:=ab t;by_cases d:p.n=q.n
     .have t2:(p.n ==q.n)=true:=nf.2 d;by_cases g:p.b=q.b
      .have t3:(p.b.toList ==q.b.toList)=true:=by rw[g,nf]
       have C:p=q:=by cases p;cases q;simp only[It.mk.injEq];exact⟨d,g⟩
       replace C:=ab C;clear d g;go_wp2
       go_quiet (fail)
       have B:=sL n nq;go_wp2;go_roundw
       case rel=>first|exact⟨k+1,by omega,by go_num,by rw[lE s.out,lE t.out,u.out,C.out],B⟩|((repeat apply Exists.intro);refine⟨?_,rfl⟩;exact⟨k+1,by omega,by go_num,by rw[lE s.out,lE t.out,u.out,C.out],B⟩)
       simp[intOf];omega
      .have t3:(p.b.toList ==q.b.toList)=false:=aaX g;have j:b=false:=by
        rw[<-mT,r.out];rintro rfl;exact g (jp It.b (dq (s.out.symm.trans t.out)))
       have m:=ab j;clear j;clear d g;go_wp2
       go_quiet (fail)
       go_wp2;go_ret;exact⟨aF m.out.symm,sL v _⟩
     .have t2:(p.n ==q.n)=false:=dk.2 d;have j:b=false:=by
       rw[<-mT,r.out];rintro rfl;exact d (jp It.n (dq (s.out.symm.trans t.out)))
      have m:=ab j;clear j;clear d;go_wp2
      go_quiet (fail)
      go_wp2;go_ret;exact⟨aF m.out.symm,sL v _⟩
    .obtain rfl:k=x.its.length:=by omega
     have K:b=true:=by
      rw[r.out];have:=u.out;rw[gE,oS (by have:=a.out;omega)] at this;have:=o.out;cases x;cases y;simp only[Pk.mk.injEq];exact⟨by assumption,by assumption⟩
     have m:=ab K;clear K;go_wp2;go_ret;exact⟨aF m.out.symm,v⟩
  .have t1:((x.its.length:Int) !=y.its.length)=true:=by rw[rL];omega
   have j:b=false:=by
    rw[<-mT,r.out];rintro rfl;exact a rfl
   have m:=ab j;clear j;replace a:=ab a;go_wp2;go_ret;exact⟨aF m.out.symm,by repeat(first|exact fd _ _|refine sM ?_ (by simp) _)⟩
 .have W:(x.no !=y.no)=true:=by rw[rL];exact o
  have j:b=false:=by
   rw[<-mT,r.out];rintro rfl;exact o rfl
  have m:=ab j;clear j;clear o;go_wp2;go_ret;exact⟨aF m.out.symm,by repeat(first|exact fd _ _|refine sM ?_ (by simp) _)⟩
def ajO(xs a:List Int)(d c:Value)(w:World)(i hi eY hi':Nat)(k:bC aam 1 w i hi xs [d])(j:bC aam 1 w eY hi' a [c])(b:Bool)(g:b=true↔xs=a) :
  Calls (ai β) 49 #[d,c] w λe f=>e=.returned (.bool b)/\Below w.heap.size w f:=by
 refine(akN xs a d c w i hi eY hi' k j).mono ?_;rintro e f ⟨rfl,n,rfl⟩;refine⟨aF ?_,sL (fd _ _) _⟩;cases b
 .rw[tz,<-g];simp
 .rw[decide_eq_true_iff,<-g]
def afg(x y:Sn)(v1 P:Value)(w:World)(lo hi Y jX:Nat)(h1:fY w lo hi x.all [v1])(h2:fY w Y jX y.all [P])(aR:hi<=w.heap.size)(V:jX<=w.heap.size)(b:Bool)(B:b=true↔x=y) :
  Calls (ai β) 17 #[.agg #[.int .i64 x.no,v1],.agg #[.int .i64 y.no,P]] w λe w'=>e=.returned (.bool b)/\Below w.heap.size w w':=by
 replace B:=ab B;obtain⟨A,c,rfl⟩:=bC.form h1;obtain⟨A2,c2,rfl⟩:=bC.form h2;obtain⟨_,hc,hx⟩:=bC.len_ h1;unfold maxLen at hx;go_enter Ad,ntmps17;by_cases v:x.no=y.no
 .have t0:(x.no !=y.no)=false:=by rw[qI];exact v
  replace v:=ab v;by_cases a:x.all.length=y.all.length
  .have t1:((x.all.length:Int) !=y.all.length)=false:=by rw[qI];omega
   replace a:=ab a;go_wp2;generalize hG:(w.alloc (.cells #[.int .i64 x.no,.slice A x.all.length c] 58)).alloc (.cells #[.int .i64 y.no,.slice A2 y.all.length c2] 58)=w0 at *;obtain⟨aG,iw,S,cN,dS,R,bZ,dx⟩:=oK hG;clear hG;go_loopw [5] (λi wr=>∃k:Nat,k<=x.all.length/\i=.int .i64 k/\x.all.take k=y.all.take k/\Below w0.heap.size w0 wr) (λi _=>x.all.length-(intOf i).toNat)
   case atStart=>exact⟨0,fa _,rfl,rfl,fd _ _⟩
   case round=>
    obtain⟨k,hk,rfl,I,j⟩:=hrel;replace I:=ab I;replace S:=ah S j;replace cN:=S.cell;replace dS:=S.frozen;replace R:=ah R j;replace bZ:=R.cell;replace dx:=R.frozen;have u:=ag aG j;by_cases Z:k<x.all.length
    .obtain⟨p,X⟩:=aq Z;obtain⟨q,cV⟩:=aq (l:=y.all) (k:=k) (by have:=a.out;omega);obtain⟨b1,M,es,rfl,_,W,_,⟨P,rfl,a1,n⟩,g⟩:=(fY.loc.below h1 u aR).at_ X;obtain⟨A3,c3,rfl⟩:=bC.form n;have z:wr.cell? ⟨b1,M+k*2,none⟩=some (.string p.p):=by simpa using g 0 _ rfl
     have E:wr.cell? ⟨b1,M+k*2+1,none⟩=some (.slice A3 p.ns.length c3):=by simpa using g 1 _ rfl
     clear g;obtain⟨b2,jb,es,rfl,_,W,_,⟨P,rfl,a2,m⟩,g⟩:=(fY.loc.below h2 u V).at_ cV;obtain⟨A4,c4,rfl⟩:=bC.form m;have D:wr.cell? ⟨b2,jb+k*2,none⟩=some (.string q.p):=by simpa using g 0 _ rfl
     have C:wr.cell? ⟨b2,jb+k*2+1,none⟩=some (.slice A4 q.ns.length c4):=by simpa using g 1 _ rfl
     clear g;have a0:(k:Int)<(y.all.length:Int):=by have:=a.out;omega
     have T:=ab X;have O:=ab cV;replace n:=ab n;replace m:=ab m;have r:=ab u.size;clear X cV;have f0:=cN 1;have g0:=bZ 1;by_cases d:p.p=q.p
     .have t2:(p.p.toList ==q.p.toList)=true:=by rw[d,nf]
      have U:(p.p.toList !=q.p.toList)=false:=by rw[d,qI]
      by_cases f:p.ns=q.ns
      .have Q:p=q:=by cases p;cases q;simp only[Ls.mk.injEq];exact⟨d,f⟩
       replace Q:=ab Q;replace f:=ab f;clear d;go_wp2;have G:=ae z;have J:=ae E;have K:=ae D;have H:=ae C;have N:=ae f0;have L:=ae g0;refine aQ (by kernel_rfl) (by kernel_rfl) ?_;repeat(go_big_quiet_step (first|(go_at_call 49;refine dO (ajO p.ns q.ns _ _ _ _ _ _ _ (nV.loc.below n.out (fg.ok _) (ap aR r.out)) (nV.loc.below m.out (fg.ok _) (ap V r.out)) true ?_);(simp only[tK];exact f.out))))
       refine ip ?_;intro wq t;have F:=bG t;clear t G J K H N L;go_wp2;go_roundw
       case rel=>first|exact⟨k+1,by omega,by go_num,by rw[lE T.out,lE O.out,I.out,Q.out],j.trans (F.mono j.size)⟩|((repeat apply Exists.intro);refine⟨?_,rfl⟩;exact⟨k+1,by omega,by go_num,by rw[lE T.out,lE O.out,I.out,Q.out],j.trans (F.mono j.size)⟩)
       simp[intOf];omega
      .have o:b=false:=by
        rw[<-mT,B.out];rintro rfl;exact f (jp Ls.ns (dq (T.out.symm.trans O.out)))
       have s:=ab o;clear o;replace f:=ab f;clear d;go_wp2;have G:=ae z;have J:=ae E;have K:=ae D;have H:=ae C;have N:=ae f0;have L:=ae g0;refine aQ (by kernel_rfl) (by kernel_rfl) ?_;repeat(go_big_quiet_step (first|(go_at_call 49;refine dO (ajO p.ns q.ns _ _ _ _ _ _ _ (nV.loc.below n.out (fg.ok _) (ap aR r.out)) (nV.loc.below m.out (fg.ok _) (ap V r.out)) false ?_);(simp only[kw,uJ];exact f.out))))
       refine ip ?_;intro wq t;have F:=bG t;clear t G J K H N L;go_wp2;go_ret;exact⟨aF s.out.symm,u.trans (F.mono u.size)⟩
     .have t2:(p.p.toList ==q.p.toList)=false:=aaX d;have U:(p.p.toList !=q.p.toList)=true:=by rw[bne,aaX d];rfl
      have o:b=false:=by
       rw[<-mT,B.out];rintro rfl;exact d (jp Ls.p (dq (T.out.symm.trans O.out)))
      have s:=ab o;clear o;clear d;go_wp2;have G:=ae z;have J:=ae E;have K:=ae D;have H:=ae C;have N:=ae f0;have L:=ae g0;refine aQ (by kernel_rfl) (by kernel_rfl) ?_;repeat(go_big_quiet_step (fail))
      refine ip ?_;intro wq t;have F:=bG t;clear t G J K H N L;go_wp2;go_ret;exact⟨aF s.out.symm,u.trans (F.mono u.size)⟩
    .obtain rfl:k=x.all.length:=by omega
     have ht:b=true:=by
      rw[B.out];have:=I.out;rw[gE,oS (by have:=a.out;omega)] at this;have:=v.out;cases x;cases y;simp only[Sn.mk.injEq];exact⟨by assumption,by assumption⟩
     have s:=ab ht;clear ht;go_wp2;go_ret;exact⟨aF s.out.symm,u⟩
  .have t1:((x.all.length:Int) !=y.all.length)=true:=by rw[rL];omega
   have o:b=false:=by
    rw[<-mT,B.out];rintro rfl;exact a rfl
   have s:=ab o;clear o;replace a:=ab a;go_wp2;go_ret;exact⟨aF s.out.symm,by repeat(first|exact fd _ _|refine sM ?_ (by simp) _)⟩
 .have t0:(x.no !=y.no)=true:=by rw[rL];exact v
  have o:b=false:=by
   rw[<-mT,B.out];rintro rfl;exact v rfl
  have s:=ab o;clear o;clear v;go_wp2;go_ret;exact⟨aF s.out.symm,by repeat(first|exact fd _ _|refine sM ?_ (by simp) _)⟩
def ajP(s t:dH)(va vb vc vd ve vf:Value)(w:World)(lo hi a0 jX:Nat)(hs:fI w lo hi s va vb vc)(ht:fI w a0 jX t vd ve vf)(z:hi<=w.heap.size)(x:jX<=w.heap.size)(b:Bool)(Q:b=true↔s=t) :
  Calls (ai β) 6 #[.agg #[va,vb,vc],.agg #[vd,ve,vf]] w λe w'=>e=.returned (.bool b)/\Below w.heap.size w w':=by
 replace Q:=ab Q;obtain⟨h1,h2,h3⟩:=hs;obtain⟨A,a,rfl⟩:=bC.form h1;obtain⟨B,bb,rfl⟩:=bC.form h2;obtain⟨C,c,rfl⟩:=bC.form h3;obtain⟨g1,g2,g3⟩:=ht;obtain⟨A2,a2,rfl⟩:=bC.form g1;obtain⟨B2,b2,rfl⟩:=bC.form g2;obtain⟨C2,c2,rfl⟩:=bC.form g3;obtain⟨_,hc,hx⟩:=bC.len_ h1;obtain⟨_,a6,a1⟩:=bC.len_ h2;unfold maxLen at hx a1;go_enter qF6,ntmps6;by_cases u:s.pk.length=t.pk.length
 .have t1:((s.pk.length:Int) !=t.pk.length)=false:=by rw[qI];omega
  replace u:=ab u;by_cases r:s.sn.length=t.sn.length
  .have t2:((s.sn.length:Int) !=t.sn.length)=false:=by rw[qI];omega
   replace r:=ab r;go_wp2;generalize hG:(w.alloc (.cells #[.slice A s.pk.length a,.slice B s.sn.length bb,.slice C s.lg.length c] 27)).alloc (.cells #[.slice A2 t.pk.length a2,.slice B2 t.sn.length b2,.slice C2 t.lg.length c2] 27)=w0 at *;obtain⟨o,iw,G,cN,dS,E,bZ,dx⟩:=oK hG;clear hG;by_cases R:s.lg=t.lg
   .replace R:=ab R;refine(agq s.lg t.lg _ _ _ lo hi a0 jX (cx.loc.below h3 o z) (cx.loc.below g3 o x) (ap z o.size) (ap x o.size) true (by simp only[tK];exact R.out)).mono ?_;rintro e w1 ⟨rfl,F⟩;replace G:=ah G F;replace cN:=G.cell;replace dS:=G.frozen;replace E:=ah E F;replace bZ:=E.cell;replace dx:=E.frozen;replace o:=ag o F;clear F;go_wp2;go_loopw [5] (λi wr=>∃k:Nat,k<=s.pk.length/\i=.int .i64 k/\s.pk.take k=t.pk.take k/\Below w1.heap.size w1 wr) (λi _=>s.pk.length-(intOf i).toNat)
    case atStart=>exact⟨0,fa _,rfl,rfl,fd _ _⟩
    case round=>
     obtain⟨k,hk,rfl,D,f⟩:=hrel;replace D:=ab D;replace G:=ah G f;replace cN:=G.cell;replace dS:=G.frozen;replace E:=ah E f;replace bZ:=E.cell;replace dx:=E.frozen;have v:=ag o f;by_cases L:k<s.pk.length
     .obtain⟨p,X⟩:=aq L;obtain⟨q,cV⟩:=aq (l:=t.pk) (k:=k) (by have:=u.out;omega);obtain⟨F,N,es,rfl,_,T,_,⟨v2,rfl,a4,m⟩,g⟩:=(iI.loc.below h1 v z).at_ X;obtain⟨A3,c3,rfl⟩:=bC.form m;have H:wr.cell? ⟨F,N+k*2,none⟩=some (.int .i64 p.no):=by simpa using g 0 _ rfl
      have O:wr.cell? ⟨F,N+k*2+1,none⟩=some (.slice A3 p.its.length c3):=by simpa using g 1 _ rfl
      clear g;obtain⟨b2,jb,es,rfl,_,T,_,⟨v2,rfl,a5,j⟩,g⟩:=(iI.loc.below g1 v x).at_ cV;obtain⟨A4,c4,rfl⟩:=bC.form j;have K:wr.cell? ⟨b2,jb+k*2,none⟩=some (.int .i64 q.no):=by simpa using g 0 _ rfl
      have I:wr.cell? ⟨b2,jb+k*2+1,none⟩=some (.slice A4 q.its.length c4):=by simpa using g 1 _ rfl
      clear g;have a3:(k:Int)<(t.pk.length:Int):=by have:=u.out;omega
      have HX:=ab X;have U:=ab cV;replace m:=ab m;replace j:=ab j;have d:=ab v.size;clear X cV;have f0:=cN 0;have g0:=bZ 0;by_cases n:p=q
      .replace n:=ab n;go_wp2;have S:=ae H;have Z:=ae O;have bB:=ae K;have V:=ae I;have gZ:=ae f0;have lO:=ae g0;refine aQ (by kernel_rfl) (by kernel_rfl) ?_;repeat(go_big_quiet_step (first|(go_at_call 16;refine dO (aff p q _ _ _ _ _ _ _ (jg.loc.below m.out (fg.ok _) (ap z d.out)) (jg.loc.below j.out (fg.ok _) (ap x d.out)) (ap z (ap d.out (fg.ok _).size)) (ap x (ap d.out (fg.ok _).size)) true ?_);(simp only[tK];exact n.out))))
       refine ip ?_;intro wq J;have P:=bG J;clear J S Z bB V gZ lO;go_wp2;go_roundw
       case rel=>first|exact⟨k+1,by omega,by go_num,by rw[lE HX.out,lE U.out,D.out,n.out],f.trans (P.mono f.size)⟩|((repeat apply Exists.intro);refine⟨?_,rfl⟩;exact⟨k+1,by omega,by go_num,by rw[lE HX.out,lE U.out,D.out,n.out],f.trans (P.mono f.size)⟩)
       simp[intOf];omega
      .have y:b=false:=by
        rw[<-mT,Q.out];rintro rfl;exact n (dq (HX.out.symm.trans U.out))
       have M:=ab y;clear y;replace n:=ab n;go_wp2;have S:=ae H;have Z:=ae O;have bB:=ae K;have V:=ae I;have gZ:=ae f0;have lO:=ae g0;refine aQ (by kernel_rfl) (by kernel_rfl) ?_;repeat(go_big_quiet_step (first|(go_at_call 16;refine dO (aff p q _ _ _ _ _ _ _ (jg.loc.below m.out (fg.ok _) (ap z d.out)) (jg.loc.below j.out (fg.ok _) (ap x d.out)) (ap z (ap d.out (fg.ok _).size)) (ap x (ap d.out (fg.ok _).size)) false ?_);(simp only[kw,uJ];exact n.out))))
       refine ip ?_;intro wq J;have P:=bG J;clear J S Z bB V gZ lO;go_wp2;go_ret;exact⟨aF M.out.symm,v.trans (P.mono v.size)⟩
     .obtain rfl:k=s.pk.length:=by omega
      have Y:s.pk=t.pk:=by
       have:=D.out
       rwa [gE,oS (by have:=u.out;omega)] at this
      replace Y:=ab Y;clear D L hk;replace o:=v;clear v f;go_wp2;go_loopw [6] (λi wy=>∃k:Nat,k<=s.sn.length/\i=.int .i64 k/\s.sn.take k=t.sn.take k/\Below wr.heap.size wr wy) (λi _=>s.sn.length-(intOf i).toNat)
      case atStart=>exact⟨0,fa _,rfl,rfl,fd _ _⟩
      case round=>
       obtain⟨k,hk,rfl,D,f⟩:=hrel;replace D:=ab D;replace G:=ah G f;replace cN:=G.cell;replace dS:=G.frozen;replace E:=ah E f;replace bZ:=E.cell;replace dx:=E.frozen;have v:=ag o f;by_cases L:k<s.sn.length
       .obtain⟨p,X⟩:=aq L;obtain⟨q,cV⟩:=aq (l:=t.sn) (k:=k) (by have:=r.out;omega);obtain⟨F,N,es,rfl,_,T,_,⟨v2,rfl,a4,m⟩,g⟩:=(gV.loc.below h2 v z).at_ X;obtain⟨A3,c3,rfl⟩:=bC.form m;have H:wr.cell? ⟨F,N+k*2,none⟩=some (.int .i64 p.no):=by simpa using g 0 _ rfl
        have O:wr.cell? ⟨F,N+k*2+1,none⟩=some (.slice A3 p.all.length c3):=by simpa using g 1 _ rfl
        clear g;obtain⟨b2,jb,es,rfl,_,T,_,⟨v2,rfl,a5,j⟩,g⟩:=(gV.loc.below g2 v x).at_ cV;obtain⟨A4,c4,rfl⟩:=bC.form j;have K:wr.cell? ⟨b2,jb+k*2,none⟩=some (.int .i64 q.no):=by simpa using g 0 _ rfl
        have I:wr.cell? ⟨b2,jb+k*2+1,none⟩=some (.slice A4 q.all.length c4):=by simpa using g 1 _ rfl
        clear g;have a3:(k:Int)<(t.sn.length:Int):=by have:=r.out;omega
        have HX:=ab X;have U:=ab cV;replace m:=ab m;replace j:=ab j;have d:=ab v.size;clear X cV;have f0:=cN 1;have g0:=bZ 1;by_cases n:p=q
        .replace n:=ab n;go_wp2;have S:=ae H;have Z:=ae O;have bB:=ae K;have V:=ae I;have gZ:=ae f0;have lO:=ae g0;refine aQ (by kernel_rfl) (by kernel_rfl) ?_;repeat(go_big_quiet_step (first|(go_at_call 17;refine dO (afg p q _ _ _ _ _ _ _ (fY.loc.below m.out (fg.ok _) (ap z d.out)) (fY.loc.below j.out (fg.ok _) (ap x d.out)) (ap z (ap d.out (fg.ok _).size)) (ap x (ap d.out (fg.ok _).size)) true ?_);(simp only[tK];exact n.out))))
         refine ip ?_;intro wq J;have P:=bG J;clear J S Z bB V gZ lO;go_wp2;go_roundw
         case rel=>first|exact⟨k+1,by omega,by go_num,by rw[lE HX.out,lE U.out,D.out,n.out],f.trans (P.mono f.size)⟩|((repeat apply Exists.intro);refine⟨?_,rfl⟩;exact⟨k+1,by omega,by go_num,by rw[lE HX.out,lE U.out,D.out,n.out],f.trans (P.mono f.size)⟩)
         simp[intOf];omega
        .have y:b=false:=by
          rw[<-mT,Q.out];rintro rfl;exact n (dq (HX.out.symm.trans U.out))
         have M:=ab y;clear y;replace n:=ab n;go_wp2;have S:=ae H;have Z:=ae O;have bB:=ae K;have V:=ae I;have gZ:=ae f0;have lO:=ae g0;refine aQ (by kernel_rfl) (by kernel_rfl) ?_;repeat(go_big_quiet_step (first|(go_at_call 17;refine dO (afg p q _ _ _ _ _ _ _ (fY.loc.below m.out (fg.ok _) (ap z d.out)) (fY.loc.below j.out (fg.ok _) (ap x d.out)) (ap z (ap d.out (fg.ok _).size)) (ap x (ap d.out (fg.ok _).size)) false ?_);(simp only[kw,uJ];exact n.out))))
         refine ip ?_;intro wq J;have P:=bG J;clear J S Z bB V gZ lO;go_wp2;go_ret;exact⟨aF M.out.symm,v.trans (P.mono v.size)⟩
       .obtain rfl:k=s.sn.length:=by omega
        have W:s.sn=t.sn:=by
         have:=D.out
         rwa [gE,oS (by have:=r.out;omega)] at this
        replace W:=ab W;clear D L hk;replace o:=v;clear v f;have ht:b=true:=by
         rw[Q.out];have h1:=Y.out;have h2:=W.out;have h3:=R.out;cases s;cases t;simp only[dH.mk.injEq];exact⟨h1,h2,h3⟩
        have M:=ab ht;clear ht;go_wp2;go_ret;exact⟨aF M.out.symm,o⟩
   .replace R:=ab R;refine(agq s.lg t.lg _ _ _ lo hi a0 jX (cx.loc.below h3 o z) (cx.loc.below g3 o x) (ap z o.size) (ap x o.size) false (by simp only[kw,uJ];exact R.out)).mono ?_;rintro e w1 ⟨rfl,F⟩;have y:b=false:=by
     rw[<-mT,Q.out];rintro rfl;exact R.out rfl
    have M:=ab y;clear y;go_wp2;go_ret;exact⟨aF M.out.symm,ag o F⟩
  .have t2:((s.sn.length:Int) !=t.sn.length)=true:=by rw[rL];omega
   have y:b=false:=by
    rw[<-mT,Q.out];rintro rfl;exact r rfl
   have M:=ab y;clear y;clear r;go_wp2;go_ret;exact⟨aF M.out.symm,by repeat(first|exact fd _ _|refine sM ?_ (by simp) _)⟩
 .have t1:((s.pk.length:Int) !=t.pk.length)=true:=by rw[rL];omega
  have y:b=false:=by
   rw[<-mT,Q.out];rintro rfl;exact u rfl
  have M:=ab y;clear y;clear u;go_wp2;go_ret;exact⟨aF M.out.symm,by repeat(first|exact fd _ _|refine sM ?_ (by simp) _)⟩
end
section
variable {β:Bool}
open Go.RowKit
def bF.T{xs:List Pk}(h:bF w Z hi xs cs):eI 54 kI 2 w Z hi xs cs:=aP.slT kI.ar.loc (λh=>h) h
def bV.T{xs:List Sn}(h:bV w Z hi xs cs):eI 58 lY 2 w Z hi xs cs:=aP.slT lY.ar.loc (λh=>h) h
def dD.T(h:dD w Z hi xs cs):eI 65 (bU oL) 2 w Z hi xs cs:=aP.slT (bU.ar oL).loc (λh=>h) h
def jT.T(h:jT w Z hi xs cs):eI 65 (bU oL) 2 w Z hi xs cs:=by
 refine⟨jT.l h,λj b k n c e=> ?_⟩;obtain⟨A,o,rfl,a,p,r,d,f⟩:=h;obtain⟨g,i,rfl,m,q,l,s⟩:=f j;simp only[qi,nF,me,qA,qw] at e;obtain⟨⟨rfl, -⟩, -, -⟩:=e;exact⟨i,l⟩
abbrev tPk:dI (eI 54 kI 2) [54,63]:=eI.ar kI.ar
abbrev tSn:dI (eI 58 lY 2) [58,95,3]:=eI.ar lY.ar
abbrev tHd:dI (eI 65 (bU oL) 2) [65]:=eI.ar (bU.ar oL)
structure kT (w:World) (lo hi:Nat) (s:dH) (va vb vc:Value):Prop where
 pk:eI 54 kI 2 w lo hi s.pk [va]
 sn:eI 58 lY 2 w lo hi s.sn [vb]
 lg:eI 65 (bU oL) 2 w lo hi s.lg [vc]
abbrev aDw:List TypeId:=[54,63,58,95,3,65]
def Typed.more{T U:List TypeId}{b:Nat}(h:Typed w T b)(d:∀t∈T,t∈U):Typed w U b:=by
 obtain⟨t,c,a⟩:=h;exact⟨t,d t c,a⟩
def kT.typed(h:kT w Z hi s Y X W)(g:∀b,Z<=b->b<hi->Typed w aDw b->w'.heap[b]?=w.heap[b]?)(f:eY<=Z)(e:hi<=hi'):kT w' eY hi' s Y X W:=
 ⟨tPk.go (λb a c d=>g b a c (d.more (by decide))) f e h.pk,tSn.go (λb a c d=>g b a c (d.more (by decide))) f e h.sn,tHd.go (λb a c d=>g b a c (d.more (by decide))) f e h.lg⟩
def kT.go(h:kT w Z hi s Y X W)(f:∀b,Z<=b->b<hi->w'.heap[b]?=w.heap[b]?)(d:eY<=Z)(c:hi<=hi'):kT w' eY hi' s Y X W:=h.typed (λb a e _=>f b a e) d c
def kT.below{B : Nat}(h:kT w Z hi s Y X W)(a:Below B w w')(d:hi<=B):kT w' Z hi s Y X W:=h.go (λb _ c=>a.block b (by omega)) (am _) (am _)
def kT.wide(h:kT w Z hi s Y X W)(b:eY<=Z)(a:hi<=hi'):kT w eY hi' s Y X W:=h.go (λ_ _ _=>rfl) b a
def kT.l(h:kT w Z hi s Y X W):fI w Z hi s Y X W:=⟨bC.aAk kI.l h.pk.1,bC.aAk lY.l h.sn.1,h.lg.1⟩
def kT.form(h:kT w Z hi s Y X W):∃A a B b C c,Y=.slice A s.pk.length a/\X=.slice B s.sn.length b/\W=.slice C s.lg.length c:=by
 obtain⟨A,a,rfl⟩:=eI.form h.pk;obtain⟨B,b,rfl⟩:=eI.form h.sn;obtain⟨C,c,rfl⟩:=eI.form h.lg;exact⟨A,a,B,b,C,c,rfl,rfl,rfl⟩
def eT.t(h:eT w Z hi s Y X W):kT w Z hi s Y X W:=⟨bF.T h.pk,bV.T h.sn,dD.T h.lg⟩
def abl(w:World)(lo:Nat)(s:dH)(e:Ending)(w':World):Prop:=∃c a b,e=.returned (.agg #[c,a,b])/\kT w' lo w'.heap.size s c a b/\Below w.heap.size w w'
def asq{l:List V}{p:V->Bool}{x:V}(h:l[k]?=some x):(l.take (k+1)).any p=((l.take k).any p||p x):=by
 rw[lE h,List.any_append];simp
def ajQ(s:dH)(l:iQ)(hk:l.k=2)(va vb vc:Value)(w:World)(F hi:Nat)(h:eT w F hi s va vb vc)(aR:hi<=w.heap.size)(hl:kq s<=1099511627) :
  Calls (ai β) 19 #[.agg #[va,vb,vc],.int .i64 l.n] w (abl w F (dJ s l)):=by
 obtain⟨h1,h2,h3⟩:=h;obtain⟨A,a,rfl⟩:=aP.form h1;obtain⟨B,b,rfl⟩:=aP.form h2;obtain⟨C,c,rfl⟩:=aP.form h3;obtain⟨_,bY,D⟩:=(bV.l h2).len_;obtain⟨_,c0,bf⟩:=(dD.l h3).len_;unfold maxLen at D bf;unfold kq at hl;have bT:=dQ (f:=bSn) (l:=s.sn);have bz:F<=hi:=by
  obtain⟨_,_,_,_,_,bh⟩:=h1;exact bh.le
 by_cases kC:0<=l.n/\l.n<=(s.lg.length:Int)
 .rw[mN hk kC];have jV:(decide (0<=l.n)&&decide (l.n<=(s.lg.length:Int)))=true:=by rw[ga];exact⟨dj kC.1,dj kC.2⟩
  have P:=ab jV;obtain⟨d,a8⟩:=qk kC.1;have ao:l.n.toNat=d:=by omega
  rw[ao];have b1:d<=s.lg.length:=by omega
  rw[a8] at P ⊢;have bo:l.n=((d:Nat):Int):=a8;clear jV kC ao a8;have g1:¬(((d:Nat):Int)<0):=by omega
  have g2:((d:Nat):Int)<=(s.lg.length:Int):=by omega
  have g3:((d:Nat):Int)<=(c:Int):=by omega
  have K:cx w F hi (s.lg.drop d) [.slice (if c=d then C else Option.map (λx=>x.add (d*2)) C) (s.lg.length-d) (c-d)]:=bC.am1 (dD.l h3) b1;have bn:eI 65 (bU oL) 2 w F hi (s.lg.take d) [.slice C d c]:=eI.af3 (dD.T h3) b1;obtain⟨AD,a9⟩:∃AD,(if c=d then C else Option.map (λx=>x.add (d*2)) C)=AD:=⟨_,rfl⟩;rw[a9] at K;clear bo;go_enter yj,ntmps19;go_wp2;generalize hG:(w.alloc (.cells #[.slice A s.pk.length a,.slice B s.sn.length b,.slice C s.lg.length c] 27)).alloc (.cells #[.slice none 0 0,.slice none 0 0,.slice none 0 0] 27)=w0 at *;obtain⟨aG,iw,k0,cN,dS,k1,bZ,dx⟩:=oK hG;clear hG;refine(lu ((d:Nat):Int) 0 s.lg.length w0).mono ?_;rintro e w1 ⟨rfl,rfl⟩;rw[P.out];go_wp2;have a6:=k0.bc 2 (.slice C d c);simp only[de,ff,gc] at a6;have ba:=au (w0.setCell ⟨w.heap.size,2,none⟩ (.slice C d c)) (.cells #[] 58);have X:=ah a6 ba;have q1:=ah (bW k1 (p:=⟨w.heap.size,2,none⟩) (.slice C d c) (by dsimp only;omega)) ba;have aT:=ag (aG.setCell (p:=⟨w.heap.size,2,none⟩) (by dsimp only;omega) (.slice C d c)) ba;have ay:=eD.new (w0.setCell ⟨w.heap.size,2,none⟩ (.slice C d c)) 58 (am _);have bA:((w0.setCell ⟨w.heap.size,2,none⟩ (.slice C d c)).alloc (.cells #[] 58)).heap.size=w0.heap.size+1:=by simp
  have V:iv lY 2 58 ((w0.setCell ⟨w.heap.size,2,none⟩ (.slice C d c)).alloc (.cells #[] 58)) F w.heap.size (.slice (some ⟨w0.heap.size,0,none⟩) 0 0) []:=iv.aiJ (by
   have:=ay;simp only[be] at this;obtain⟨g,e,_,hk⟩:=this;cases e;exact⟨_,rfl,by omega,hk⟩)
  clear k0 k1 cN bZ dS dx a6 ba ay;generalize (w0.setCell ⟨w.heap.size,2,none⟩ (.slice C d c)).alloc (.cells #[] 58)=w2 at *;have S:(s.lg.drop d).length=s.lg.length-d:=qp;have bO:=ab S;rw[<-S];rw[<-S] at K;clear S a9;obtain⟨o,W⟩:∃o,o=s.lg.drop d:=⟨_,rfl⟩;rw[<-W] at K ⊢;obtain⟨_,bN,bl⟩:=K.len_;unfold maxLen at bl;have HI:=ab (And.intro X (And.intro q1 aT));replace V:=ab V;replace W:=ab W;clear X q1 aT;go_loopw [6,7] (λoo ii wr=>∃k:Nat,k<=s.sn.length/\ii=.int .i64 k/\iv lY 2 58 wr F w.heap.size oo ((s.sn.take k).filter λx=>!(o.any λh=>h.s ==x.no))/\aX wr w.heap.size 27 #[.slice A s.pk.length a,.slice B s.sn.length b,.slice C d c]/\aX wr (w.heap.size+1) 27 #[.slice none 0 0,.slice none 0 0,.slice none 0 0]/\Below w.heap.size w wr) (λ_ ii _=>s.sn.length-(intOf ii).toNat)
  case atStart=>exact⟨0,fa _,rfl,V.out,HI.out⟩
  case round=>
   clear V HI;obtain⟨k,bw,rfl,L,X,q1,Q⟩:=hrel;obtain⟨Ao,co,rfl⟩:=L.form;have cq:wr.cell? ⟨w.heap.size,1,none⟩=some (.slice B s.sn.length b):=X.cell 1;by_cases b9:k<s.sn.length
   .obtain⟨y,cV⟩:=aq b9;obtain⟨b',a4,R,e0,_,bx,_,⟨v2,rfl,br,hr⟩,J⟩:=(gV.loc.below (bV.l h2) Q aR).at_ cV;subst e0;obtain⟨A2,c2,rfl⟩:=bC.form hr;replace cV:=ab cV;replace L:=ab L;clear J hr;go_wp2;obtain⟨wo,bk⟩:∃wo,wo=wr:=⟨_,rfl⟩;subst bk;go_loopw [8,9] (λgg jj wr=>∃(j:Nat) (q:Bool),j<=o.length/\jj=.int .i64 j/\gg=.bool q/\q=((o.take j).any λh=>h.s ==y.no)/\Below wo.heap.size wo wr) (λ_ jj _=>o.length-(intOf jj).toNat)
    case atStart=>exact⟨0,false,fa _,rfl,rfl,rfl,fd _ _⟩
    case round=>
     obtain⟨j,q,hj,rfl,rfl,hq,t⟩:=hrel;replace hq:=ab hq;have D:=ag Q t;have ad:=aU t cq;obtain⟨b2,jb,R,e0,_,_,_,⟨v2,rfl,bH,hr⟩,J⟩:=(gV.loc.below (bV.l h2) D aR).at_ cV.out;simp only[me,qA,qw] at e0;obtain⟨rfl,rfl⟩:=e0;obtain⟨A3,c3,rfl⟩:=bC.form hr;have an:wr.cell? ⟨b',a4+k*2,none⟩=some (.int .i64 y.no):=by simpa using J 0 _ rfl
     have pJ:wr.cell? ⟨b',a4+k*2+1,none⟩=some (.slice A3 y.all.length c3):=by simpa using J 1 _ rfl
     clear J hr;by_cases b4:j<o.length
     .obtain⟨z,a1⟩:=aq b4;obtain⟨b3,b5,R,e0,_,_,_,⟨rfl,bX⟩,G⟩:=(cx.loc.below K D aR).at_ a1;subst e0;have b0:wr.cell? ⟨b3,b5+j*2+1,none⟩=some (.int .i64 z.s):=by simpa using G 1 _ rfl
      have r:=asq (p:=λh:Hd=>h.s ==y.no) a1;replace r:=ab r;clear G a1 pJ;cases q
      .go_wp2;have aI:=ae ad;have aJ:=ae an;have bB:=ae b0;refine aD 15 [0,1,2,3,4,5,6,7,8,9,10,11,12,13,14] [] (h:= ?_);simp only[pick,List.map,gn,gt];repeat(go_big_quiet_step (fail))
       refine ip ?_;clear aI aJ bB;apply Exists.intro;refine aS ?_;intro Z hz xx dh hF;dsimp only[dV] at hF;try rw[dh] at hF
       clear dh xx;simp only[List.drop];clear hF;go_wp2;go_roundw
       case rel=>exact⟨j+1,_,by omega,by go_num,rfl,by rw[r.out,<-hq.out];rfl,ag t hz⟩
       simp[intOf];omega
      .go_wp2;have aI:=ae ad;have aJ:=ae an;have bB:=ae b0;refine aD 15 [0,1,2,3,4,5,6,7,8,9,10,11,12,13,14] [] (h:= ?_);simp only[pick,List.map,gn,gt];repeat(go_big_quiet_step (fail))
       refine ip ?_;clear aI aJ bB;apply Exists.intro;refine aS ?_;intro Z hz xx dh hF;dsimp only[dV] at hF;try rw[dh] at hF
       clear dh xx;simp only[List.drop];clear hF;go_wp2;go_roundw
       case rel=>exact⟨j+1,_,by omega,by go_num,rfl,by rw[r.out,<-hq.out];rfl,ag t hz⟩
       simp[intOf];omega
     .obtain rfl:j=o.length:=by omega
      have a2:=hq.out;rw[gE] at a2;have al:=ab a2;have zo:=t.size;have fj:=L.out.below lY.ar t;have T:=ah X t;have O:=ah q1 t;clear a2;cases q
      .have hp:(o.any λh=>h.s ==y.no)=false:=al.out.symm;have H:=jR (p:=λx:Sn=>o.any λh=>h.s ==x.no) cV.out hp;have HF:=ab H;obtain⟨m,m',R,l1,l2,l3,ax,⟨v5,rfl,bi,I⟩,n, -⟩:∃m m' R,F<=m/\m<=m'/\m'<=hi/\R.length=2/\lY wr m m' y R/\(∀j u,R[j]?=some u->wr.cell? ⟨b',a4+k*2+j,none⟩=some u)/\True:=by
        have aa:=bV.ar.below h2 D aR;obtain⟨g,c9,e9,g1,g2,g3,ds,bQ⟩:=aP.some_ aa (by omega);simp only[nF,me,qA,qw] at e9;obtain⟨⟨rfl,rfl⟩, -,rfl⟩:=e9;obtain⟨m,m',R,l1,l2,l3,ax,hE,n, -⟩:=aP.at_ lY.ar (by decide) aa cV.out;exact⟨m,m',R,l1,l2,l3,ax,hE,λj u hu=>by rw[lP];exact n j u hu,trivial⟩
       obtain⟨A6,c6,rfl⟩:=aP.form I;have a5:=n 1 _ rfl;rw[pJ] at a5;simp only[me,nF,true_and] at a5;obtain⟨rfl,rfl⟩:=a5;have b7:((s.sn.take k).filter λx=>!(o.any λh=>h.s ==x.no)).length<=s.sn.length:=ap (rY _ _) (by rw[eg];omega);have aY:lY wr F wr.heap.size y [.int .i64 y.no,.slice A3 y.all.length c3]:=
        lY.ar.wide (⟨_,rfl,bi,I⟩:lY wr m m' y [.int .i64 y.no,.slice A3 y.all.length c3]) l1 (by have:=D.size;omega)
       have Y:=ab fj;have bb:=ab aY;have a7:=ab D;have U:=ab (And.intro T O);clear fj aY n I T O H L;obtain⟨M,hM⟩:∃M,M=((s.sn.take k).filter λx=>!(o.any λh=>h.s ==x.no)):=⟨_,rfl⟩;rw[<-hM] at Y HF b7 ⊢;clear hM;go_wp2_with(at_builtin;refine gI ?_);refine⟨?_,trivial⟩;refine aiM lY.ar (by decide) rfl (.tmp 57) (.tmp 63) 24 rfl adY y rfl Y.out rfl rfl (by simp[Value.oneCell']) bb.out (by omega) (by have:=a7.out.size;omega) ?_;intro v8 w8 o8 a0 bt;obtain⟨A8,c8,rfl⟩:=o8.form;simp only[aE,fi,mc,lP] at o8;go_wp2;go_roundw
       case rel=>
        have jd:∀b,(Value.slice Ao M.length co).ownBlock=some b->w.heap.size<=b/\∃ds,aX wr b 58 ds:=λb hb=>⟨(Y.out.at_ hb).1,Y.out.blk hb⟩;refine⟨k+1,by omega,by go_num,by rw[HF.out];exact o8,aO U.out.1 a0 λE=> ?_,aO U.out.2 a0 λE=> ?_,a7.out.trans (a0.below a7.out.size λi hi E=>by have:=(jd i E).1;omega)⟩
        .obtain⟨_,ds,hd⟩:=jd _ E;exact absurd (cL U.out.1 hd) (by decide)
        .obtain⟨_,ds,hd⟩:=jd _ E;exact absurd (cL U.out.2 hd) (by decide)
       case measure=>simp[intOf];omega
      .have hp:(o.any λh=>h.s ==y.no)=true:=al.out.symm;have H:=iL (p:=λx:Sn=>o.any λh=>h.s ==x.no) cV.out hp;have HF:=ab H;have a3:=ab (And.intro fj (And.intro T O));clear H hp fj T O;go_wp2;go_roundw
       case rel=>exact⟨k+1,by omega,by go_num,by rw[HF.out];exact a3.out.1,a3.out.2.1,a3.out.2.2,D⟩
       simp[intOf];omega
   .obtain rfl:k=s.sn.length:=by omega
    rw[gE] at L;have bL:=X.cell;have bp:=X.frozen;have b6:=q1.cell;have bS:=q1.frozen;replace L:=ab L;go_wp2;obtain⟨Z,af⟩:∃Z,Z=((((wr.setCell ⟨w.heap.size,1,none⟩ (.slice Ao (s.sn.filter λx=>!(o.any λh=>h.s ==x.no)).length co)).setCell ⟨w.heap.size+1,0,none⟩ (.slice A s.pk.length a)).setCell ⟨w.heap.size+1,1,none⟩ (.slice Ao (s.sn.filter λx=>!(o.any λh=>h.s ==x.no)).length co)).setCell ⟨w.heap.size+1,2,none⟩ (.slice C d c)):=⟨_,rfl⟩;have G:aZ (λb=>b=w.heap.size\/b=w.heap.size+1) wr Z:=by
     rw[af];exact((((aZ.refl _ wr).setCell (.inl (.inl rfl)) _).setCell (.inl (.inr rfl)) _).setCell (.inl (.inr rfl)) _).setCell (.inl (.inr rfl)) _
    have N:Below w.heap.size w Z:=Q.trans (G.below Q.size λi hi E=>by rcases E with E|E<;>omega);have b8:iv lY 2 58 Z F w.heap.size (.slice Ao (s.sn.filter λx=>!(o.any λh=>h.s ==x.no)).length co) (s.sn.filter λx=>!(o.any λh=>h.s ==x.no)):=by
     refine L.out.eZ lY.ar G (λb hb E=> ?_) (λb _ ht E=> ?_)
     .obtain⟨ds,hd⟩:=L.out.blk hb;rcases E with rfl|rfl
      .exact absurd (cL X hd) (by decide)
      .exact absurd (cL q1 hd) (by decide)
     .rcases E with rfl|rfl
      .exact dC X (by decide) ht
      .exact dC q1 (by decide) ht
    refine mx (v:=.agg #[.slice A s.pk.length a,.slice Ao (s.sn.filter λx=>!(o.any λh=>h.s ==x.no)).length co,.slice C d c]) (by simp[results,results19,go_sem,b6]) rfl ?_;rw[<-af,<-W.out];have zb:=N.size;exact⟨_,_,_,rfl,⟨tPk.wide (tPk.below (bF.T h1) N aR) (am _) (by omega),iv.sl b8 (by omega),by
     have:=tHd.wide (eY:=F) (hi':=Z.heap.size) (tHd.below bn N aR) (am _) (by omega);have e:(s.lg.take d).length=d:=by rw[eg];omega
     exact this⟩,N⟩
 .rw[kR hk kC];have jV:(decide (0<=l.n)&&decide (l.n<=(s.lg.length:Int)))=false:=by
   rw[sV];by_cases h0:0<=l.n
   .exact .inr (bv λh=>kC ⟨h0,h⟩)
   .exact .inl (bv h0)
  have P:=ab jV;clear jV kC;go_enter yj,ntmps19;go_wp2;generalize hG:(w.alloc (.cells #[.slice A s.pk.length a,.slice B s.sn.length b,.slice C s.lg.length c] 27)).alloc (.cells #[.slice none 0 0,.slice none 0 0,.slice none 0 0] 27)=w0 at *;obtain⟨aG,iw,k0,cN,dS,k1,bZ,dx⟩:=oK hG;clear hG;refine(lu l.n 0 s.lg.length w0).mono ?_;rintro e w1 ⟨rfl,rfl⟩;rw[P.out];go_wp2;refine mx (v:=.agg #[.slice A s.pk.length a,.slice B s.sn.length b,.slice C s.lg.length c]) (by simp[results,results19,go_sem,bZ]) rfl ⟨_,_,_,rfl, ?_,((aG.setCell (by first|omega|(dsimp only;omega)) _).setCell (by first|omega|(dsimp only;omega)) _).setCell (by first|omega|(dsimp only;omega)) _⟩;have hr:kT w F hi s (.slice A s.pk.length a) (.slice B s.sn.length b) (.slice C s.lg.length c):=⟨bF.T h1,bV.T h2,dD.T h3⟩;refine(hr.below (B:=w.heap.size) ?_ aR).wide (am _) ?_
  .exact((aG.setCell (by first|omega|(dsimp only;omega)) _).setCell (by first|omega|(dsimp only;omega)) _).setCell (by first|omega|(dsimp only;omega)) _
  .simp only[be];omega
end
section
variable {β:Bool}
open Go.RowKit
def fI.form(h:fI w Z hi s Y X W):∃A a B b C c,Y=.slice A s.pk.length a/\X=.slice B s.sn.length b/\W=.slice C s.lg.length c:=by
 obtain⟨A,a,rfl⟩:=bC.form h.pk;obtain⟨B,b,rfl⟩:=bC.form h.sn;obtain⟨C,c,rfl⟩:=bC.form h.lg;exact⟨A,a,B,b,C,c,rfl,rfl,rfl⟩
def nz(w:World)(g:Nat)(u1 c d:Value)(b:Nat)(a:b≠g):(((w.setCell ⟨g,0,none⟩ u1).setCell ⟨g,1,none⟩ c).setCell ⟨g,2,none⟩ d).heap[b]?=w.heap[b]?:=by
 rw[io _ _ _ _ a,io _ _ _ _ a,io _ _ _ _ a]
def ame{B:Nat}{t:TypeId}{cs:Array Value}(h:aX w g t cs)(a:Below B w w')(b:g<B):aX w' g t cs:=(a.block g b).trans h
def asr(s:dH)(d D F:Int)(lb:ByteArray)(V:¬d=1)(X:¬d=2)(K:¬d=3)(Q:¬d=4)(z G H:Value)(w:World)(E hi:Nat)(h:fI w E hi s z G H)(I:hi<=w.heap.size)(N:kq s<=1099511627) :
  Calls (ai β) 7 #[.agg #[z,G,H],.agg (nt ⟨d,D,F,lb⟩)] w (abl w w.heap.size s):=by
 have t1:(d ==1)=false:=dk.2 V;have t2:(d ==2)=false:=dk.2 X;have t3:(d ==3)=false:=dk.2 K;have Z:(d ==4)=false:=dk.2 Q;obtain⟨C,c,rfl⟩:=bC.form h.lg;obtain⟨A,a,rfl⟩:=bC.form h.pk;obtain⟨B,b,rfl⟩:=bC.form h.sn;go_enter qF7,ntmps7;go_wp2;generalize O:((w.alloc (.cells #[.slice A s.pk.length a,.slice B s.sn.length b,.slice C s.lg.length c] 27)).alloc (.cells #[.int .i64 d,.int .i64 D,.int .i64 F,.string lb] 29)).alloc (.cells #[.slice none 0 0,.slice none 0 0,.slice none 0 0] 27)=w0 at *;obtain⟨f,Y,k0,cN,dS,j,L,W,i,U,J⟩:=adA O;refine(fh s _ _ _ w0 E hi (h.below f I) (ap I f.size) N).mono ?_;rintro e p ⟨v1,v2,v3,rfl,m,l⟩;obtain⟨n,x,rfl⟩:=aP.form m.pk;obtain⟨o,q,rfl⟩:=aP.form m.sn;obtain⟨t,r,rfl⟩:=aP.form m.lg;replace j:=ah j l;replace L:=j.cell;replace W:=j.frozen;replace i:=ah i l;replace U:=i.cell;replace J:=i.frozen;replace f:=ag f l;have z1:=l.size;have k:=au p (.cells #[.slice n s.pk.length x,.slice o s.sn.length q,.slice t s.lg.length r] 27);have R:=(ah j k).cell;have g:=ah i k;have u:=g.cell;have S:=g.frozen;have y:=ab (ag f k);have M:kT (p.alloc (.cells #[.slice n s.pk.length x,.slice o s.sn.length q,.slice t s.lg.length r] 27)) w0.heap.size p.heap.size s _ _ _:=m.t.below k (am _);have P:=ab M;have T:=ab k.size;go_wp2;refine mx (v:=.agg #[.slice n s.pk.length x,.slice o s.sn.length q,.slice t s.lg.length r]) (by simp[results,results7,go_sem,u]) rfl ⟨_,_,_,rfl, ?_, ?_⟩
 .refine P.out.go (λb hb _=>nz _ _ _ _ _ b (by omega)) (by omega) ?_;simp only[be];exact T.out
 .exact((y.out.setCell (by dsimp only;omega) _).setCell (by dsimp only;omega) _).setCell (by dsimp only;omega) _
def ass(s:dH)(g i:Int)(lb:ByteArray)(F I M:Value)(w:World)(H hi:Nat)(h:fI w H hi s F I M)(O:hi<=w.heap.size)(E:kq s<=1099511627) :
  Calls (ai β) 7 #[.agg #[F,I,M],.agg (nt ⟨2,g,i,lb⟩)] w (abl w w.heap.size (dJ s ⟨2,g,i,lb⟩)):=by
 obtain⟨C,c,rfl⟩:=bC.form h.lg;obtain⟨A,a,rfl⟩:=bC.form h.pk;obtain⟨B,b,rfl⟩:=bC.form h.sn;go_enter qF7,ntmps7;go_wp2;generalize r:((w.alloc (.cells #[.slice A s.pk.length a,.slice B s.sn.length b,.slice C s.lg.length c] 27)).alloc (.cells #[.int .i64 2,.int .i64 g,.int .i64 i,.string lb] 29)).alloc (.cells #[.slice none 0 0,.slice none 0 0,.slice none 0 0] 27)=w0 at *;obtain⟨n,iw,k0,cN,dS,f,D,Q,d,N,y⟩:=adA r;refine(fh s _ _ _ w0 H hi (h.below n O) (ap O n.size) E).mono ?_;rintro e o ⟨v1,v2,v3,rfl,l,p⟩;obtain⟨z,P,rfl⟩:=aP.form l.pk;obtain⟨G,J,rfl⟩:=aP.form l.sn;obtain⟨L,K,rfl⟩:=aP.form l.lg;replace f:=ah f p;replace D:=f.cell;replace Q:=f.frozen;replace d:=ah d p;replace N:=d.cell;replace y:=d.frozen;replace n:=ag n p;have z1:=p.size;have oH:=au o (.cells #[.slice z s.pk.length P,.slice G s.sn.length J,.slice L s.lg.length K] 27);have Y:=(ah f oH).cell;go_wp2;generalize r:o.alloc (.cells #[.slice z s.pk.length P,.slice G s.sn.length J,.slice L s.lg.length K] 27)=w3 at *;obtain⟨j,R,m0,ma,Z⟩:=nh r;replace f:=ah f j;replace D:=f.cell;replace Q:=f.frozen;replace d:=ah d j;replace N:=d.cell;replace y:=d.frozen;have x:=ag n j;have U:eT w3 w0.heap.size o.heap.size s _ _ _:=⟨bF.ar.below l.pk j (am _),bV.ar.below l.sn j (am _),dD.ar.below l.lg j (am _)⟩;have z3:=j.size;refine(ajQ s ⟨2,g,i,lb⟩ rfl _ _ _ w3 w0.heap.size o.heap.size U (by omega) E).mono ?_;rintro e w5 ⟨ua,ub,uc,rfl,q,k⟩;have S:=ah m0 k;have m:=ah d k;have u:=ag x k;have z5:=k.size;have a0:=S.cell;have t:=m.cell;have X:=m.frozen;obtain⟨A5,T,B5,k,V,W,rfl,rfl,rfl⟩:=q.form;replace q:=ab q;replace u:=ab u;go_wp2;refine mx (v:=.agg #[.slice A5 (dJ s ⟨2,g,i,lb⟩).pk.length T,.slice B5 (dJ s ⟨2,g,i,lb⟩).sn.length k,.slice V (dJ s ⟨2,g,i,lb⟩).lg.length W]) (by simp[results,results7,go_sem,t]) rfl ⟨_,_,_,rfl, ?_, ?_⟩
 .refine q.out.go (λb hb _=>nz _ _ _ _ _ b (by omega)) (by omega) ?_;simp only[be];omega
 .exact((u.out.setCell (by dsimp only;omega) _).setCell (by dsimp only;omega) _).setCell (by dsimp only;omega) _
def ast(s:dH)(r N:Int)(lb:ByteArray)(va vb vc:Value)(w:World)(lo hi:Nat)(h:fI w lo hi s va vb vc)(aR:hi<=w.heap.size)(hl:kq s<=1099511627) :
  Calls (ai β) 7 #[.agg #[va,vb,vc],.agg (nt ⟨4,r,N,lb⟩)] w (abl w w.heap.size (dJ s ⟨4,r,N,lb⟩)):=by
 obtain⟨C,c,rfl⟩:=bC.form h.lg;obtain⟨_,b1,a9⟩:=h.lg.len_;unfold maxLen at a9;have b0:IntKind.i64.wrap ((s.lg.length:Int)-1)=(s.lg.length:Int)-1:=wd _ (by omega);by_cases S:0<=r/\r<(s.lg.length:Int)
 .rw[pM (l:=⟨4,r,N,lb⟩) rfl S];have jV:(decide (0<=r)&&decide (r<=(s.lg.length:Int)-1))=true:=by rw[ga];exact⟨dj S.1,dj (by omega)⟩
  have I:=ab jV;obtain⟨i,rfl⟩:=qk S.1;obtain⟨y,V⟩:=aq (l:=s.lg) (k:=i) (by omega);have a2:sb s.lg ((i:Nat):Int).toNat jS=s.lg.set i (jS y):=by
   have:((i:Nat):Int).toNat=i:=by omega
   rw[this,nY V]
  dsimp only;rw[a2];have aY:i<s.lg.length:=by omega
  replace V:=ab V;obtain⟨A,a,rfl⟩:=bC.form h.pk;obtain⟨B,b,rfl⟩:=bC.form h.sn;go_enter qF7,ntmps7;go_wp2;generalize H:((w.alloc (.cells #[.slice A s.pk.length a,.slice B s.sn.length b,.slice C s.lg.length c] 27)).alloc (.cells #[.int .i64 4,.int .i64 ((i:Nat):Int),.int .i64 N,.string lb] 29)).alloc (.cells #[.slice none 0 0,.slice none 0 0,.slice none 0 0] 27)=w0 at *;obtain⟨u,iw,k0,cN,dS,f,M,dx,d,Z,Q⟩:=adA H;refine(fh s _ _ _ w0 lo hi (h.below u aR) (ap aR u.size) hl).mono ?_;rintro e t ⟨v1,v2,v3,rfl,o,x⟩;obtain⟨D,G,rfl⟩:=aP.form o.pk;obtain⟨E,F,rfl⟩:=aP.form o.sn;obtain⟨O,z,rfl⟩:=aP.form o.lg;replace f:=ah f x;replace M:=f.cell;replace dx:=f.frozen;replace d:=ah d x;replace Z:=d.cell;replace Q:=d.frozen;replace u:=ag u x;have z1:=x.size;have oH:=au t (.cells #[.slice D s.pk.length G,.slice E s.sn.length F,.slice O s.lg.length z] 27);have a6:=(ah f oH).cell;go_wp2;generalize H:t.alloc (.cells #[.slice D s.pk.length G,.slice E s.sn.length F,.slice O s.lg.length z] 27)=w3 at *;obtain⟨m,a0,m0,ma,a7⟩:=nh H;replace f:=ah f m;replace M:=f.cell;replace dx:=f.frozen;replace d:=ah d m;replace Z:=d.cell;replace Q:=d.frozen;have L:=ag u m;have o3:eT w3 w0.heap.size t.heap.size s _ _ _:=⟨bF.ar.below o.pk m (am _),bV.ar.below o.sn m (am _),dD.ar.below o.lg m (am _)⟩;have z3:=m.size;refine(lu _ _ _ w3).mono ?_;rintro e w4 ⟨rfl,rfl⟩;rw[I.out];obtain⟨op,os,ol⟩:=o3;have hw:=dD.w ol;obtain⟨g,c',e,aG,aT,b2,aa⟩:=jT.some_ hw (by omega);simp only[nF] at e;obtain⟨rfl, -,rfl⟩:=e;obtain⟨a4,U,af⟩:=jT.at_ hw V.out;have ja:oL.good (jS y):=by
   refine⟨?_,a4.2⟩;show cA (wrap64 (3-y.b));unfold cA wrap64;omega
  have a1:w3.cell? ⟨t.heap.size,2,none⟩=some (.slice (some ⟨g,0,none⟩) s.lg.length z):=ma 2;have a8:w3.cell? ⟨w.heap.size+1,1,none⟩=some (.int .i64 ((i:Nat):Int)):=M 1;go_wp2;have aI:=ae a1;have aJ:=ae a8;have bB:=ae U;refine aD 12 [0,1,2,3,4,5,6,7,8,9,10,11] [] (h:= ?_);simp only[pick,List.map,gn,gt];repeat(go_big_quiet_step (fail))
  refine ip ?_;apply Exists.intro;refine aS ?_;intro W q xx dh hF;dsimp only[dV] at hF;try rw[dh] at hF
  simp only[List.drop];have zz:=q.size;have Y:=ah aa q;have ao:=Y.frozen (i*2);have ay:=aU q U;have mS:=(ag L q).setCell (p:=⟨g,i*2,none⟩) (by dsimp only;omega) (.int .i64 (wrap64 (3-y.b)));have k5:=bW (ah m0 q) (p:=⟨g,i*2,none⟩) (.int .i64 (wrap64 (3-y.b))) (by dsimp only;omega);have n:=bW (ah d q) (p:=⟨g,i*2,none⟩) (.int .i64 (wrap64 (3-y.b))) (by dsimp only;omega);have P:∀{T:List TypeId} (b:Nat),65∉T->Typed W T b->(W.setCell ⟨g,i*2,none⟩ (.int .i64 (wrap64 (3-y.b)))).heap[b]?=W.heap[b]?:=λb hT R=>io _ _ _ _ (by rintro rfl;exact dC Y hT R);have r5:kT (W.setCell ⟨g,i*2,none⟩ (.int .i64 (wrap64 (3-y.b)))) w0.heap.size t.heap.size ⟨s.pk,s.sn,s.lg.set i (jS y)⟩ (.slice D s.pk.length G) (.slice E s.sn.length F) (.slice (some ⟨g,0,none⟩) s.lg.length z):=
   ⟨bF.T (bF.ar.go (eY:=w0.heap.size) (hi':=t.heap.size) (λb _ _ R=>P b (by decide) R) (am _) (am _) (bF.ar.below op q (by omega))),
    bV.T (bV.ar.go (eY:=w0.heap.size) (hi':=t.heap.size) (λb _ _ R=>P b (by decide) R) (am _) (am _) (bV.ar.below os q (by omega))),
    jT.T (jT.put (j:=0) (jT.ar.below hw q (by omega)) V.out (by decide) ja rfl)⟩
  have ad:=k5.cell;have X:=n.cell;have a5:=n.frozen;have z5:t.heap.size<=(W.setCell ⟨g,i*2,none⟩ (.int .i64 (wrap64 (3-y.b)))).heap.size:=by simp only[be];omega
  have ax:=(ah m0 q).cell;have an:=(ah d q).cell;have al:=(ah d q).frozen;have a3:=ab n;have K:=ab r5;have J:=ab mS;go_wp2;refine mx (v:=.agg #[.slice D s.pk.length G,.slice E s.sn.length F,.slice (some ⟨g,0,none⟩) s.lg.length z]) (by simp[results,results7,go_sem,a3.out.cell]) rfl ⟨_,_,_,rfl, ?_, ?_⟩
  .refine K.out.go (λb hb _=>nz _ _ _ _ _ b (by omega)) (by omega) ?_;simp only[be];omega
  .exact((J.out.setCell (by dsimp only;omega) _).setCell (by dsimp only;omega) _).setCell (by dsimp only;omega) _
 .rw[kS (l:=⟨4,r,N,lb⟩) rfl S];have jV:(decide (0<=r)&&decide (r<=(s.lg.length:Int)-1))=false:=by
   rw[sV];by_cases h0:0<=r
   .exact .inr (bv λh=>S ⟨h0,by omega⟩)
   .exact .inl (bv h0)
  have I:=ab jV;obtain⟨A,a,rfl⟩:=bC.form h.pk;obtain⟨B,b,rfl⟩:=bC.form h.sn;go_enter qF7,ntmps7;go_wp2;generalize H:((w.alloc (.cells #[.slice A s.pk.length a,.slice B s.sn.length b,.slice C s.lg.length c] 27)).alloc (.cells #[.int .i64 4,.int .i64 r,.int .i64 N,.string lb] 29)).alloc (.cells #[.slice none 0 0,.slice none 0 0,.slice none 0 0] 27)=w0 at *;obtain⟨u,iw,k0,cN,dS,f,M,dx,d,Z,Q⟩:=adA H;refine(fh s _ _ _ w0 lo hi (h.below u aR) (ap aR u.size) hl).mono ?_;rintro e t ⟨v1,v2,v3,rfl,o,x⟩;obtain⟨D,G,rfl⟩:=aP.form o.pk;obtain⟨E,F,rfl⟩:=aP.form o.sn;obtain⟨O,z,rfl⟩:=aP.form o.lg;replace f:=ah f x;replace M:=f.cell;replace dx:=f.frozen;replace d:=ah d x;replace Z:=d.cell;replace Q:=d.frozen;replace u:=ag u x;have z1:=x.size;have oH:=au t (.cells #[.slice D s.pk.length G,.slice E s.sn.length F,.slice O s.lg.length z] 27);have a6:=(ah f oH).cell;go_wp2;generalize H:t.alloc (.cells #[.slice D s.pk.length G,.slice E s.sn.length F,.slice O s.lg.length z] 27)=w3 at *;obtain⟨m,a0,m0,ma,a7⟩:=nh H;replace f:=ah f m;replace M:=f.cell;replace dx:=f.frozen;replace d:=ah d m;replace Z:=d.cell;replace Q:=d.frozen;have L:=ag u m;have o3:eT w3 w0.heap.size t.heap.size s _ _ _:=⟨bF.ar.below o.pk m (am _),bV.ar.below o.sn m (am _),dD.ar.below o.lg m (am _)⟩;have z3:=m.size;refine(lu _ _ _ w3).mono ?_;rintro e w5 ⟨rfl,rfl⟩;rw[I.out];have k5:=m0;have n:=d;have mS:=L;have r5:=o3.t;have z5:=z3;have ad:=k5.cell;have X:=n.cell;have a5:=n.frozen;have K:=ab r5;have J:=ab mS;go_wp2;refine mx (v:=.agg #[.slice D s.pk.length G,.slice E s.sn.length F,.slice O s.lg.length z]) (by simp[results,results7,go_sem,X]) rfl ⟨_,_,_,rfl, ?_, ?_⟩
  .refine K.out.go (λb hb _=>nz _ _ _ _ _ b (by omega)) (by omega) ?_;simp only[be];omega
  .exact((J.out.setCell (by dsimp only;omega) _).setCell (by dsimp only;omega) _).setCell (by dsimp only;omega) _
end
section
variable {β:Bool}
open Go.RowKit
def asu(s:dH)(d lm:Int)(lb:ByteArray)(va vb vc:Value)(w:World)(lo hi:Nat)(h:fI w lo hi s va vb vc)(aR:hi<=w.heap.size)(hl:kq s<=1099511627) :
  Calls (ai β) 7 #[.agg #[va,vb,vc],.agg (nt ⟨1,d,lm,lb⟩)] w (abl w w.heap.size (dJ s ⟨1,d,lm,lb⟩)):=by
 rw[pK (l:=⟨1,d,lm,lb⟩) rfl];dsimp only;have a8:=dQ (f:=bPk) (l:=s.pk);have ba:s.pk.length<=1099511627:=by unfold kq at hl;omega
 clear a8;obtain⟨C,c,rfl⟩:=bC.form h.lg;obtain⟨A,a,rfl⟩:=bC.form h.pk;obtain⟨B,b,rfl⟩:=bC.form h.sn;go_enter qF7,ntmps7;go_wp2;generalize V:((w.alloc (.cells #[.slice A s.pk.length a,.slice B s.sn.length b,.slice C s.lg.length c] 27)).alloc (.cells #[.int .i64 1,.int .i64 d,.int .i64 lm,.string lb] 29)).alloc (.cells #[.slice none 0 0,.slice none 0 0,.slice none 0 0] 27)=w0 at *;obtain⟨Q,iw,k0,cN,dS,u,bZ,dx,x,fq,iK⟩:=adA V;clear V;refine(fh s _ _ _ w0 lo hi (h.below Q aR) (ap aR Q.size) hl).mono ?_;rintro e n ⟨v1,v2,v3,rfl,K,X⟩;obtain⟨A1,a1,rfl⟩:=aP.form K.pk;obtain⟨B1,oM,rfl⟩:=aP.form K.sn;obtain⟨C1,c1,rfl⟩:=aP.form K.lg;replace u:=ah u X;replace bZ:=u.cell;replace dx:=u.frozen;replace x:=ah x X;replace fq:=x.cell;replace iK:=x.frozen;replace Q:=ag Q X;have z1:=X.size;clear k0 cN dS;have oH:=au n (.cells #[.slice A1 s.pk.length a1,.slice B1 s.sn.length oM,.slice C1 s.lg.length c1] 27);have ax:=(ah u oH).cell;go_wp2;clear oH ax;generalize V:(n.alloc (.cells #[.slice A1 s.pk.length a1,.slice B1 s.sn.length oM,.slice C1 s.lg.length c1] 27)).alloc (.cells #[] 54)=w3 at *;obtain⟨E,b9,m0,ma,aa,m1,an,a7⟩:=oK V;clear V;replace u:=ah u E;replace bZ:=u.cell;replace dx:=u.frozen;replace x:=ah x E;replace fq:=x.cell;replace iK:=x.frozen;have af:=ag Q E;have o3:eT w3 w0.heap.size n.heap.size s _ _ _:=⟨bF.ar.below K.pk E (am _),bV.ar.below K.sn E (am _),dD.ar.below K.lg E (am _)⟩;have z3:=E.size;clear K Q E X;have HO:=ab (show iv kI 2 54 w3 w0.heap.size (n.heap.size+1) (.slice (some ⟨n.heap.size+1,0,none⟩) 0 0) [] from iv.aiJ ⟨_,rfl,am _,m1⟩);have aY:w.heap.size+1+1<n.heap.size:=by omega
 clear m1 an a7 bZ dx fq iK ma aa;go_loopw [6,7] (λoo ii wr=>∃k:Nat,k<=s.pk.length/\ii=.int .i64 k/\iv kI 2 54 wr w0.heap.size (n.heap.size+1) oo ((s.pk.take k).filter λp=>!(p.no ==d))/\Below (n.heap.size+1) w3 wr) (λ_ ii _=>s.pk.length-(intOf ii).toNat)
 case atStart=>exact⟨0,fa _,rfl,HO.out,fd _ _⟩
 case round=>
  clear HO;obtain⟨k,b1,rfl,I,j⟩:=hrel;obtain⟨D,F,rfl⟩:=I.form;have G:=ame m0 j (by omega);have q1:=ame u j (by omega);have q2:=ame x j (by omega);have zr:=j.size;have cm:wr.cell? ⟨n.heap.size,0,none⟩=some (.slice A1 s.pk.length a1):=G.cell 0;have P:wr.cell? ⟨w.heap.size+1,1,none⟩=some (.int .i64 d):=q1.cell 1;by_cases a9:k<s.pk.length
  .obtain⟨y,cV⟩:=aq a9;have N:=bF.ar.below o3.pk j (by omega);obtain⟨g,c',e,b7,bh,b4,a5,aG⟩:=aP.some_ N (by omega);simp only[nF] at e;obtain⟨rfl, -,rfl⟩:=e;obtain⟨m,m',es,l1,l2,l3,bb,⟨v2,rfl,a3,t⟩,o, -⟩:=aP.at_ kI.ar (by decide) N cV;obtain⟨A2,c2,rfl⟩:=aP.form t;have z:wr.cell? ⟨g,k*2,none⟩=some (.int .i64 y.no):=o 0 _ rfl;have a2:wr.cell? ⟨g,k*2+1,none⟩=some (.slice A2 y.its.length c2):=o 1 _ rfl;have HY:=ab cV;have HR:=ab t;have HO:=ab I;have a6:((s.pk.take k).filter λp=>!(p.no ==d)).length<=s.pk.length:=ap (rY _ _) (by rw[eg];omega);clear o cV t I N a5 aG;by_cases hp:y.no=d
   .have t1:(y.no ==d)=true:=nf.2 hp;have r:=iL (p:=λp:Pk=>p.no ==d) HY.out t1;have HF:=ab r;clear r hp;go_wp2;have aI:=ae cm;have aJ:=ae z;have bB:=ae P;refine aD 9 [0,1,2,3,4,5,6,7,8] [] (h:= ?_);simp only[pick,List.map,gn,gt];repeat(go_big_quiet_step (fail))
    refine ip ?_;clear aI aJ bB;apply Exists.intro;refine aS ?_;intro wz q xx S J;dsimp only[dV] at J;try rw[S] at J
    clear S xx;simp only[List.drop];clear J;have zz:=q.size;go_wp2;go_roundw
    case rel=>exact⟨k+1,by omega,by go_num,by rw[HF.out];exact HO.out.below kI.ar q,j.trans (q.mono (by omega))⟩
    simp[intOf];omega
   .have t1:(y.no ==d)=false:=dk.2 hp;have r:=jR (p:=λp:Pk=>p.no ==d) HY.out t1;have HF:=ab r;clear r hp;go_wp2;have aI:=ae cm;have aJ:=ae z;have bB:=ae P;refine aD 9 [0,1,2,3,4,5,6,7,8] [] (h:= ?_);simp only[pick,List.map,gn,gt];repeat(go_big_quiet_step (fail))
    refine ip ?_;clear aI aJ bB;apply Exists.intro;refine aS ?_;intro wz q xx S J;dsimp only[dV] at J;try rw[S] at J
    clear S xx;simp only[List.drop];clear J;have zz:=q.size;have b8:=aU q cm;have b3:=aU q z;have b6:=aU q a2;have O:=ab (HO.out.below kI.ar q);have ad:=ab (show kI wz w0.heap.size wz.heap.size y [.int .i64 y.no,.slice A2 y.its.length c2] from kI.ar.wide (kI.ar.below (⟨_,rfl,a3,HR.out⟩:kI wr m m' y [.int .i64 y.no,.slice A2 y.its.length c2]) q (by omega)) l1 (by omega));have a0:=ab (j.trans (q.mono (by omega)):Below (n.heap.size+1) w3 wz);clear HO HR cm z a2 P G q1 q2;obtain⟨M,hM⟩:∃M,M=((s.pk.take k).filter λp=>!(p.no ==d)):=⟨_,rfl⟩;rw[<-hM] at O HF a6 ⊢;clear hM;go_wp2_with(at_builtin;refine gI ?_);refine⟨?_,trivial⟩;refine aiM kI.ar (by decide) rfl (.tmp 32) (.tmp 38) 23 rfl adV y rfl O.out rfl rfl (by simp[Value.oneCell']) ad.out (by omega) (by have:=a0.out.size;omega) ?_;intro v8 w8 o8 a4 b0;obtain⟨A8,c8,rfl⟩:=o8.form;simp only[aE,fi,mc,lP] at o8;go_wp2;go_roundw
    case rel=>
     refine⟨k+1,by omega,by go_num,by rw[HF.out];exact o8,a0.out.trans (a4.below (by omega) λi hi hs=> ?_)⟩;have:=(O.out.at_ hs).1;omega
    case measure=>simp[intOf];omega
  .obtain rfl:k=s.pk.length:=by omega
   rw[gE] at I;have Y:Below w.heap.size w wr:=af.trans (j.mono (by omega));have W:aZ (λb=>b=n.heap.size) wr (wr.setCell ⟨n.heap.size,0,none⟩ (.slice D (s.pk.filter λp=>!(p.no ==d)).length F)):=(aZ.refl (λb=>b=n.heap.size) wr).setCell (p:=⟨n.heap.size,0,none⟩) (.inl rfl) _;have U:=I.eZ kI.ar W (λb hb hs=>by have:=(I.at_ hb).1;omega) (λb _ H hs=>by have al:b=n.heap.size:=hs;subst al;exact dC G (by decide) H);have mS:=Y.setCell (p:=⟨n.heap.size,0,none⟩) (by dsimp only;omega) (.slice D (s.pk.filter λp=>!(p.no ==d)).length F);have Z:=G.bc 0 (.slice D (s.pk.filter λp=>!(p.no ==d)).length F);simp only[de,ff,gc] at Z;have R:=bW q2 (p:=⟨n.heap.size,0,none⟩) (.slice D (s.pk.filter λp=>!(p.no ==d)).length F) (by dsimp only;omega);have L:∀{T:List TypeId} (b:Nat),27∉T->Typed wr T b->(wr.setCell ⟨n.heap.size,0,none⟩ (.slice D (s.pk.filter λp=>!(p.no ==d)).length F)).heap[b]?=wr.heap[b]?:=λb hT H=>io _ _ _ _ (by rintro rfl;exact dC G hT H);have r5:kT (wr.setCell ⟨n.heap.size,0,none⟩ (.slice D (s.pk.filter λp=>!(p.no ==d)).length F)) w0.heap.size wr.heap.size ⟨s.pk.filter λp=>!(p.no ==d),s.sn,s.lg⟩ (.slice D (s.pk.filter λp=>!(p.no ==d)).length F) (.slice B1 s.sn.length oM) (.slice C1 s.lg.length c1):=by
    refine⟨?_, ?_, ?_⟩
    .have:=iv.sl U (by omega);simpa using this
    .exact tSn.wide (bV.T (bV.ar.go (eY:=w0.heap.size) (hi':=n.heap.size) (λb _ _ H=>L b (by decide) H) (am _) (am _) (bV.ar.below o3.sn j (by omega)))) (am _) (by omega)
    .exact tHd.wide (dD.T (dD.ar.go (eY:=w0.heap.size) (hi':=n.heap.size) (λb _ _ H=>L b (by decide) H) (am _) (am _) (dD.ar.below o3.lg j (by omega)))) (am _) (by omega)
   have K5:=ab R;have ay:=ab r5;have ao:=ab mS;have b5:=G.cell;have aT:=G.frozen;have bf:=q2.cell;have b2:=q2.frozen;clear I U R r5 mS Z L W G q1 q2 Y;go_wp2;refine mx (v:=.agg #[.slice D (s.pk.filter λp=>!(p.no ==d)).length F,.slice B1 s.sn.length oM,.slice C1 s.lg.length c1]) (by simp[results,results7,go_sem,K5.out.cell]) rfl ⟨_,_,_,rfl, ?_, ?_⟩
   .refine ay.out.go (λb hb _=>nz _ _ _ _ _ b (by omega)) (by omega) ?_;simp only[be];omega
   .exact((ao.out.setCell (by dsimp only;omega) _).setCell (by dsimp only;omega) _).setCell (by dsimp only;omega) _
end
section
variable {β:Bool}
open Go.RowKit
def asv(s:dH)(q k:Int)(lb:ByteArray)(b9:lb.size<=maxLen)(va vb vc:Value)(w:World)(lo hi:Nat)(h:fI w lo hi s va vb vc)(aR:hi<=w.heap.size)(hl:kq s<=1099511627) :
  Calls (ai β) 7 #[.agg #[va,vb,vc],.agg (nt ⟨3,q,k,lb⟩)] w (abl w w.heap.size (dJ s ⟨3,q,k,lb⟩)):=by
 rw[pL (l:=⟨3,q,k,lb⟩) rfl];have bk:=dQ (f:=bPk) (l:=s.pk);have bx:s.pk.length<=1099511627:=by unfold kq at hl;omega
 obtain⟨C,c,rfl⟩:=bC.form h.lg;obtain⟨A,a,rfl⟩:=bC.form h.pk;obtain⟨B,b,rfl⟩:=bC.form h.sn;go_enter qF7,ntmps7;go_wp2;generalize hG:((w.alloc (.cells #[.slice A s.pk.length a,.slice B s.sn.length b,.slice C s.lg.length c] 27)).alloc (.cells #[.int .i64 3,.int .i64 q,.int .i64 k,.string lb] 29)).alloc (.cells #[.slice none 0 0,.slice none 0 0,.slice none 0 0] 27)=w0 at *;obtain⟨aG,iw,k0,cN,dS,I,bZ,dx,K,fq,iK⟩:=adA hG;refine(fh s _ _ _ w0 lo hi (h.below aG aR) (ap aR aG.size) hl).mono ?_;rintro e G ⟨v1,v2,v3,rfl,o1,L⟩;obtain⟨A1,a1,rfl⟩:=aP.form o1.pk;obtain⟨B1,oM,rfl⟩:=aP.form o1.sn;obtain⟨C1,c1,rfl⟩:=aP.form o1.lg;replace I:=ah I L;replace bZ:=I.cell;replace dx:=I.frozen;replace K:=ah K L;replace fq:=K.cell;replace iK:=K.frozen;replace aG:=ag aG L;have z1:=L.size;have oH:=au G (.cells #[.slice A1 s.pk.length a1,.slice B1 s.sn.length oM,.slice C1 s.lg.length c1] 27);have bL:=(ah I oH).cell;go_wp2;generalize hG:G.alloc (.cells #[.slice A1 s.pk.length a1,.slice B1 s.sn.length oM,.slice C1 s.lg.length c1] 27)=w3 at *;obtain⟨W,bw,m0,ma,bo⟩:=nh hG;replace I:=ah I W;replace bZ:=I.cell;replace dx:=I.frozen;replace K:=ah K W;replace fq:=K.cell;replace iK:=K.frozen;have aT:=ag aG W;have o3:eT w3 w0.heap.size G.heap.size s _ _ _:=⟨bF.ar.below o1.pk W (am _),bV.ar.below o1.sn W (am _),dD.ar.below o1.lg W (am _)⟩;have z3:=W.size;obtain⟨op,os,ol⟩:=o3;have HO:=ab op;have ba:w.heap.size+1+1<w0.heap.size:=by omega
 go_loopw [8] (λii wr=>∃j:Nat,j<=s.pk.length/\ii=.int .i64 j/\bF wr w0.heap.size G.heap.size (mz (fK ⟨3,q,k,lb⟩) s.pk j) [.slice A1 s.pk.length a1]/\aZ (λb=>w0.heap.size<=b/\b<G.heap.size/\Typed w3 [63] b) w3 wr) (λii _=>s.pk.length-(intOf ii).toNat)
 case atStart=>exact⟨0,fa _,rfl,by rw[ae6];exact HO.out,aZ.refl _ _⟩
 case round=>
  obtain⟨j,hj,rfl,ho,H⟩:=hrel;have zr:=H.size;have q0:=aO m0 H λJ=>by omega
  have q1:=aO I H λJ=>by omega
  have q2:=aO K H λJ=>by omega
  have cm:wr.cell? ⟨G.heap.size,0,none⟩=some (.slice A1 s.pk.length a1):=q0.cell 0;have a4:wr.cell? ⟨w.heap.size+1,1,none⟩=some (.int .i64 q):=q1.cell 1;have M:wr.cell? ⟨w.heap.size+1,2,none⟩=some (.int .i64 k):=q1.cell 2;have ay:wr.cell? ⟨w.heap.size+1,3,none⟩=some (.string lb):=q1.cell 3;by_cases a9:j<s.pk.length
  .obtain⟨x,cH⟩:=aq a9;have ax:=acR (fK ⟨3,q,k,lb⟩) cH;have ao:=agk (fK ⟨3,q,k,lb⟩) s.pk j;obtain⟨g,c',e,bp,bN,bn,bf,bO⟩:=aP.some_ ho (by rw[ao];omega);simp only[nF] at e;obtain⟨rfl, -,rfl⟩:=e;have HX:=ab cH;have b7:=ab ax;have z:=abg (fK ⟨3,q,k,lb⟩) cH;replace z:=ab z;obtain⟨m,m',es,l1,l2,l3,bz,⟨v2,rfl,a8,n⟩,E,a3⟩:=aP.at_ kI.ar (by decide) ho b7.out;obtain⟨A2,c2,rfl⟩:=aP.form n;obtain⟨_,ml,jX⟩:=(abc.l n).len_;unfold maxLen at jX;have N:wr.cell? ⟨g,j*2,none⟩=some (.int .i64 x.no):=E 0 _ rfl;have O:wr.cell? ⟨g,j*2+1,none⟩=some (.slice A2 x.its.length c2):=E 1 _ rfl;replace n:=ab n;replace a3:=ab a3;by_cases P:x.no=q
   .have t1:(x.no ==q)=true:=nf.2 P;replace P:=ab P;by_cases F:0<=k/\k<(x.its.length:Int)
    .have jV:(decide (0<=k)&&decide (k<=(x.its.length:Int)-1))=true:=by rw[ga];exact⟨dj F.1,dj (by omega)⟩
     have U:=ab jV;replace F:=ab F;have aY:IntKind.i64.wrap ((x.its.length:Int)-1)=(x.its.length:Int)-1:=wd _ (by omega);go_wp2;have aI:=ae cm;have aJ:=ae N;have bB:=ae O;have eU:=ae a4;have gZ:=ae M;refine aD 22 [0,1,2,3,4,5,6,7,8,9,10,11,12,13,14,15,16,17,18,19] [20,21] (h:= ?_);simp only[pick,List.map,gn,gt];repeat(go_big_quiet_step (fail))
     refine ip ?_;apply Exists.intro;apply dW (.bool true)
     .intro y o Qx d;replace d:=ab d;go_wp2;refine(lu _ _ _ y.to).mono ?_;rintro e wy ⟨rfl,rfl⟩;rw[U.out];go_wp2;exact d.out _ (fd _ _)
     apply dW (.bool true)
     .intro y o Qx d;replace d:=ab d;go_wp2;exact d.out _ (fd _ _)
     simp only[Act.put,de,ff,gc];refine aS ?_;intro wz r xx R o;dsimp only[dV] at o;try rw[R] at o
     simp only[List.drop];have zz:=r.size;obtain⟨Q,a2⟩:=qk F.out.1;have b1:Q<x.its.length:=by have:=F.out.2;omega
     obtain⟨y,cV⟩:=aq b1;obtain⟨gi,ci,ei,b3,b0,bi,b8,aa⟩:=aP.some_ n.out (by omega);simp only[nF] at ei;obtain⟨rfl, -,rfl⟩:=ei;have an:=aU r cm;have bh:=aU r N;have af:=aU r O;have a5:=aU r M;have b5:=aU r ay;have b6:k=((Q:Nat):Int):=a2;have a0:fK ⟨3,q,k,lb⟩ x=⟨x.no,x.its.set Q ⟨y.n,lb⟩⟩:=by
      unfold fK;rw[du ⟨P.out,F.out.1,F.out.2⟩,nY (x:=y) (by dsimp only;rw[a2];exact cV)];dsimp only;rw[a2];rfl
     replace a0:=ab a0;rw[b6] at a5;go_wp2;have aI:=ae an;have aJ:=ae af;have bB:=ae a5;have eU:=ae b5;refine aD 10 [0,1,2,3,4,5,6,7,8,9] [] (h:= ?_);simp only[pick,List.map,gn,gt];repeat(go_big_quiet_step (fail))
     refine ip ?_;apply Exists.intro;refine aS ?_;intro wy hy xx R o;dsimp only[dV] at o;try rw[R] at o
     simp only[List.drop];have zy:=hy.size;have L:=ag r hy;have D:=abc.ar.below n.out L (by omega);obtain⟨n1,n2,bl, -, -, -, -,⟨rfl,bb⟩,ad, -⟩:=aP.at_ (bU.ar mL) (by decide) D cV;have br:wy.cell? ⟨gi,Q*2+1,none⟩=some (.string y.b):=ad 1 _ rfl;have bA:=aP.frozen D (Q*2+1);have a7:=aP.put (j:=1) (u:=.string lb) (bU.ar mL) (by decide) D cV (y:=(⟨y.n,lb⟩:It)) (by decide) rfl (λw' lo hi es hh=>⟨by rw[hh.1];rfl,hh.2.1,b9⟩);have b4:Typed wr [63] gi:=⟨_,qB,b8,aa⟩;have a6:aZ (λb=>m<=b/\b<m'/\Typed wr [63] b) wr (wy.setCell ⟨gi,Q*2+1,none⟩ (.string lb)):=
      (aZ.aM (S:=λb=>m<=b/\b<m'/\Typed wr [63] b) L).setCell (p:=⟨gi,Q*2+1,none⟩) (.inl ⟨b3,b0,b4⟩) (.string lb)
     have oC:=a3.out _ ⟨x.no,x.its.set Q ⟨y.n,lb⟩⟩ a6 ⟨.slice (some ⟨gi,0,none⟩) x.its.length c2,rfl,a8,a7⟩;rw[<-a0.out,z.out] at oC;have Z:=H.trans a6 λb hb J=>⟨by omega,by omega,lG H (T:=[63]) (λt ht=>ht) (show b<G.heap.size by omega) (by omega) (λhs=>hs.2.2) J.2.2⟩;replace oC:=ab oC;replace Z:=ab Z;go_wp2;go_roundw
     case rel=>exact⟨j+1,by omega,by go_num,oC.out,Z.out⟩
     simp[intOf];omega
    .have jV:(decide (0<=k)&&decide (k<=(x.its.length:Int)-1))=false:=by
      rw[sV];by_cases h0:0<=k
      .exact .inr (bv λh=>F ⟨h0,by omega⟩)
      .exact .inl (bv h0)
     have U:=ab jV;replace F:=ab F;have aY:IntKind.i64.wrap ((x.its.length:Int)-1)=(x.its.length:Int)-1:=wd _ (by omega);go_wp2;have aI:=ae cm;have aJ:=ae N;have bB:=ae O;have eU:=ae a4;have gZ:=ae M;refine aD 22 [0,1,2,3,4,5,6,7,8,9,10,11,12,13,14,15,16,17,18,19] [20,21] (h:= ?_);simp only[pick,List.map,gn,gt];repeat(go_big_quiet_step (fail))
     refine ip ?_;apply Exists.intro;apply dW (.bool false)
     .intro y o Qx d;replace d:=ab d;go_wp2;refine(lu _ _ _ y.to).mono ?_;rintro e wy ⟨rfl,rfl⟩;rw[U.out];go_wp2;exact d.out _ (fd _ _)
     apply dW (.bool false)
     .intro y o Qx d;replace d:=ab d;go_wp2;exact d.out _ (fd _ _)
     simp only[Act.put,de,ff,gc];refine aS ?_;intro wz r xx R o;dsimp only[dV] at o;try rw[R] at o
     simp only[List.drop];have zz:=r.size;have kF:=lL (fK ⟨3,q,k,lb⟩) HX.out (pP (λh=>F.out h.2));have HS:=ab kF;have fj:=bF.ar.below ho r (by omega);have X:=H.trans (aZ.aM (S:=λ_=>False) r) λ_ _ h=>h.elim;have V:=ab fj;have Y:=ab X;go_wp2;go_roundw
     case rel=>exact⟨j+1,by omega,by go_num,by rw[HS.out];exact V.out,Y.out⟩
     simp[intOf];omega
   .have t1:(x.no ==q)=false:=dk.2 P;replace P:=ab P;go_wp2;have aI:=ae cm;have aJ:=ae N;have bB:=ae O;have eU:=ae a4;have gZ:=ae M;refine aD 22 [0,1,2,3,4,5,6,7,8,9,10,11,12,13,14,15,16,17,18,19] [20,21] (h:= ?_);simp only[pick,List.map,gn,gt];repeat(go_big_quiet_step (fail))
    refine ip ?_;apply Exists.intro;apply dW (undef)
    .intro y o Qx d;replace d:=ab d;go_wp2;exact d.out _ (fd _ _)
    apply dW (.bool false)
    .intro y o Qx d;replace d:=ab d;go_wp2;exact d.out _ (fd _ _)
    refine aS ?_;intro wz r xx R o;dsimp only[dV] at o;try rw[R] at o
    simp only[List.drop];have zz:=r.size;have kF:=lL (fK ⟨3,q,k,lb⟩) HX.out (pP (λh=>P.out h.1));have HS:=ab kF;have fj:=bF.ar.below ho r (by omega);have X:=H.trans (aZ.aM (S:=λ_=>False) r) λ_ _ h=>h.elim;have V:=ab fj;have Y:=ab X;go_wp2;go_roundw
    case rel=>exact⟨j+1,by omega,by go_num,by rw[HS.out];exact V.out,Y.out⟩
    simp[intOf];omega
  .obtain rfl:j=s.pk.length:=by omega
   rw[agj] at ho;have o2:=bV.ar.go (w':=wr) (eY:=w0.heap.size) (hi':=G.heap.size) (λb L b2 ht=>H.block b (by omega) λJ=>gJ ht (by decide) J.2.2) (am _) (am _) os;have o3:=dD.ar.go (w':=wr) (eY:=w0.heap.size) (hi':=G.heap.size) (λb L b2 ht=>H.block b (by omega) λJ=>gJ ht (by decide) J.2.2) (am _) (am _) ol;have mS:Below w.heap.size w wr:=aT.trans (H.below (by omega) λi hi J=>by omega);have r5:kT wr w0.heap.size G.heap.size ⟨s.pk.map (fK ⟨3,q,k,lb⟩),s.sn,s.lg⟩ (.slice A1 s.pk.length a1) (.slice B1 s.sn.length oM) (.slice C1 s.lg.length c1):=⟨bF.T ho,bV.T o2,dD.T o3⟩;have bt:=q0.cell;have al:=q2.cell;have bH:=q2.frozen;have z5:G.heap.size<=wr.heap.size:=by omega
   replace r5:=ab r5;replace mS:=ab mS;go_wp2;refine mx (v:=.agg #[.slice A1 s.pk.length a1,.slice B1 s.sn.length oM,.slice C1 s.lg.length c1]) (by simp[results,results7,go_sem,al]) rfl ⟨_,_,_,rfl, ?_, ?_⟩
   .refine r5.out.go (λb hb _=>nz _ _ _ _ _ b (by omega)) (by omega) ?_;simp only[be];omega
   .exact((mS.out.setCell (by dsimp only;omega) _).setCell (by dsimp only;omega) _).setCell (by dsimp only;omega) _
def adM(s:dH)(l:iQ)(a d c:Value)(w:World)(e hi:Nat)(h:fI w e hi s a d c)(g:hi<=w.heap.size)(f:kq s<=1099511627)(q:l.b.size<=maxLen) :
  Calls (ai β) 7 #[.agg #[a,d,c],.agg (nt l)] w (abl w w.heap.size (dJ s l)):=by
 obtain⟨k,n,m,b⟩:=l;by_cases j:k=1
 .subst j;exact asu s n m b a d c w e hi h g f
 by_cases i:k=2
 .subst i;exact ass s n m b a d c w e hi h g f
 by_cases o:k=3
 .subst o;exact asv s n m b q a d c w e hi h g f
 by_cases p:k=4
 .subst p;exact ast s n m b a d c w e hi h g f
 rw[pN (l:=⟨k,n,m,b⟩) j i o p];exact asr s k n m b j i o p a d c w e hi h g f
end
section
variable {β:Bool}
open Go.RowKit
def anu:∀(l:List Hd) (a:Int),a<=l.foldl (λa h=>max a (h.s+1)) a/\∀x∈l,x.s+1<=l.foldl (λa h=>max a (h.s+1)) a
 |[],a=>⟨uZ _,λx b=>(by cases b)⟩
 |y::l,a=>by
  obtain⟨d,c⟩:=anu l (max a (y.s+1));show a<=l.foldl (λa h=>max a (h.s+1)) (max a (y.s+1))/\∀x∈y::l,x.s+1<=l.foldl (λa h=>max a (h.s+1)) (max a (y.s+1));refine⟨by omega,λx b=> ?_⟩;rcases pa.1 b with rfl|b
  .omega
  .exact c x b
def avu :∀x∈s.lg,x.s<fu s:=λx a=>by
 have b:x.s+1<=gb s.lg:=(anu s.lg 1).2 x a;unfold fu;cases s.sn.getLast? with
 |none=>show x.s<gb s.lg;omega
 |some y=>show x.s<max (gb s.lg) (y.no+1);omega
def iM.asc(h:iM s):s.lg.Pairwise λa b=>a.s<b.s:=by
 induction h with
 |nil=>exact .nil
 |save j i g f c=>
  refine wn.2 ⟨c,um _ _,λx e y d=> ?_⟩;rw[ph.1 d];exact avu x e
def found(h:iM s){L:iQ}(k:apj L s.lg.length) :
  (L.k=2->L.n<s.lg.length->mb s.lg.length (ep s.lg) (dJ s L).lg=((s.lg.length:Int),ep s.lg,1))/\
  (L.k=4->L.n<s.lg.length->mb s.lg.length (ep s.lg) (dJ s L).lg=((s.lg.length:Int),ep s.lg,2))/\
  (¬(L.k=2/\L.n<s.lg.length)->¬(L.k=4/\L.n<s.lg.length)->(dJ s L).lg=s.lg):=by
 refine⟨λe b=> ?_,λf b=> ?_,λe f=> ?_⟩
 .by_cases g:0<=L.n
  .rw[mN e ⟨g,by omega⟩];unfold mb;rw[du (.inl (by rw[eg];omega))]
  .exfalso;have:=k.n.1;omega
 .have g:=k.n.1;rw[pM f ⟨g,b⟩];unfold mb;rw[da (by rw[kX];omega),da];show ¬ep ((sb s.lg L.n.toNat jS).take (s.lg.length:Int).toNat)=_;rw[sA,oS (by rw[kX];exact am _)];exact agp h.wf.lg (by omega)
 .by_cases i:L.k=1
  .rw[pK i]
  by_cases a:L.k=2
  .by_cases b:0<=L.n/\L.n<=s.lg.length
   .rw[mN a b];have:L.n.toNat=s.lg.length:=by
     by_cases d:L.n<s.lg.length
     .exact absurd ⟨a,d⟩ e
     .omega
    rw[this,gE]
   .rw[kR a b]
  by_cases j:L.k=3
  .rw[pL j]
  by_cases c:L.k=4
  .by_cases b:0<=L.n/\L.n<s.lg.length
   .exact absurd ⟨c,b.2⟩ f
   .rw[kS c b]
  rw[pN i a j c]
def jm.lie(h:jm s.lg)(L:iQ):jm (dJ s L).lg:=by
 by_cases d:L.k=1
 .rw[pK d];exact h
 by_cases b:L.k=2
 .by_cases a:0<=L.n/\L.n<=s.lg.length
  .rw[mN b a];exact h.take _
  .rw[kR b a];exact h
 by_cases e:L.k=3
 .rw[pL e];exact h
 by_cases c:L.k=4
 .by_cases a:0<=L.n/\L.n<s.lg.length
  .rw[pM c a];exact h.fork _
  .rw[kS c a];exact h
 rw[pN d b e c];exact h
def ags{c:Type}(q:c->Bool)(a:c->Int)(n:Int)(d:∀x,a x=n->q x=true):∀l:List c,(l.filter q).find? (λx=>a x ==n)=l.find? (λx=>a x ==n)
 |[]=>rfl
 |y::l=>by
  rw[se];by_cases b:a y=n
  .rw[rV,du (d y b),se,show(a y ==n)=true from nf.2 b]
  .rw[show(a y ==n)=false from dk.2 b,<-ags q a n d l];by_cases e:q y=true
   .rw[rV,du e,se,show(a y ==n)=false from dk.2 b]
   .rw[rV,da e]
def old(h:iM s)(m:k<=s.lg.length)(hi:i<k)(c:s.lg[i]?=some x):iN 7 (dJ s ⟨2,k,0,⟨#[]⟩⟩) x.s=iN 7 s x.s/\(dJ s ⟨2,k,0,⟨#[]⟩⟩).lg=s.lg.take k:=by
 rw[mN rfl ⟨by show(0:Int)<=k;omega,by show(k:Int)<=_;omega⟩];refine⟨?_,rfl⟩;unfold iN;show(match(s.sn.filter λy=>!((s.lg.drop k).any λh=>h.s ==y.no)).find? (λy=>y.no ==x.s) with|some y=>kK 7 (acU s.pk) y.all|none=>none)=_
 suffices kH:∀y:Sn,y.no=x.s->(!((s.lg.drop k).any λh=>h.s ==y.no))=true by
  rw[ags _ (λy:Sn=>y.no) x.s kH s.sn];all_goals(cases s.sn.find? (λy=>y.no ==x.s)<;>rfl)
 intro y a;have a:y.no=x.s:=a;rw[a,vG,<-mT,List.any_eq_true];rintro⟨z,l,d⟩;have d:=nf.1 d;obtain⟨j,b⟩:=sd l;rw[sN] at b;have e:=vJ.1 h.asc i (k+j) (aB c) (aB b) (by omega);have f:=(qu.1 c).2;have g:=(qu.1 b).2;rw[f,g] at e;omega
def avv(h:jm s.lg)(b:k<=s.lg.length):mb k (ep (s.lg.take k)) (s.lg.take k)=((k:Int),ep (s.lg.take k),0):=by
 have a:(s.lg.take k).length=k:=by rw[eg];omega
 unfold mb;rw[da (by rw[a];omega),sA,oS (by rw[a];exact am _),du rfl,a]
end
end Go.Proofs.YtlaobkmopohmnaaGreatDoor
namespace Go.Proofs.YtlaobkmopohmnaaGreatDoor.lawlf
open Go.RowKit
def _root_.Go.Proofs.YtlaobkmopohmnaaGreatDoor.abk.ok(h:abk (a,b,0) o w e w'):∃u,e=.returned (.tuple #[u,.int .i64 0,.agg #[.int .i64 a,.int .i64 b],.bool o.isSome])/\Below w.heap.size w w':=by
 obtain⟨u,c, -,d⟩:=h.yes;exact⟨u,c,d⟩
def walk(hg:Glo w)(l:List Int)(h:bC jK 1 w 0 w.heap.size l [v])(w':World)(hw:w'=w:=by rfl) :
  Calls (ai true) 3 #[v] w' λe w'=>e=.returned (.bool true)/\Below w.heap.size w w':=by
 subst hw;obtain⟨A,c,rfl⟩:=h.form;have M:l.length<=maxLen:=by obtain⟨_,h1,h2⟩:=h.len_;omega
 unfold maxLen at M;by_cases b0:1048576<l.length
 .go_enter qF3,ntmps3;go_wp2;go_ret;exact⟨rfl,fd _ _⟩
 go_enter qF3,ntmps3;go_wp2;refine(adK A _ c l _ h).mono ?_;rintro e w1 ⟨O,P,Z,s,L,rfl,os,f,R,bb⟩;replace f:=ab f;obtain⟨⟨A1,a1,rfl⟩,⟨B1,b1,rfl⟩,C1,c1,rfl⟩:=os.form;replace R:=ab R;have s1:=bb.size;have a0:L.b.size<=maxLen:=by have:=R.out.bs;unfold maxLen;omega
 have J:=ab f.out.wf.sm;have X:=ab (J.out.lie R.out.bs);have Q:Hid (kq s<=1099511627):=ab (by have:=J.out.au7;omega);have b7:Hid (kq (dJ s L)<=1099511627):=ab (by have:=X.out.au7;omega);go_wp2;generalize hG:(w1.alloc (.cells #[.slice A1 s.pk.length a1,.slice B1 s.sn.length b1,.slice C1 s.lg.length c1] 27)).alloc (.cells #[.int .i64 L.k,.int .i64 L.n,.int .i64 L.m,.string L.b] 29)=w2 at *;obtain⟨ku,bf,b,n,F,a,g,D⟩:=oK hG;have U:=os.below ku (am _);replace ku:=ag bb ku;refine(adJ s L _ _ _ w2 _ _ U.l (by omega) Q.out a0).mono ?_;rintro e w3 ⟨u1,u2,u3,rfl,N,K⟩;replace b:=ah b K;replace n:=b.cell;replace F:=b.frozen;replace a:=ah a K;replace g:=a.cell;replace D:=a.frozen;have aa:=U.below K (by omega);have a8:=ag ku K;have z3:=K.size;obtain⟨A3,a3,rfl⟩:=aP.form N.pk;obtain⟨B3,a4,rfl⟩:=aP.form N.sn;obtain⟨C3,c3,rfl⟩:=jT.form N.lg;obtain⟨x,r⟩:∃x,x=dJ s L:=⟨_,rfl⟩;rw[<-r] at N ⊢;replace r:=ab r;go_wp2;generalize hG:w3.alloc (.cells #[.slice A3 x.pk.length a3,.slice B3 x.sn.length a4,.slice C3 x.lg.length c3] 27)=w4 at *;obtain⟨i,b6,j,H,z⟩:=nh hG;replace b:=ah b i;replace n:=b.cell;replace F:=b.frozen;replace a:=ah a i;replace g:=a.cell;replace D:=a.frozen;have S:=aa.below i (by omega);have o4:=N.below i (am _);have ao:=ag a8 i;have z4:=i.size;have f0:=n 0;have f1:=n 1;have f2:=n 2;have g0:=g 0;have g1:=g 1;have g2:=g 2;have g3:=g 3;have al:=H 0;have a6:=H 1;have a5:=H 2;have aI:=ae f0;have aJ:=ae f1;have bB:=ae f2;have eU:=ae g0;have gZ:=ae g1;have lO:=ae g2;have b5:=ae g3;have b9:=ae al;have b3:=ae a6;have b2:=ae a5;refine aD 6 [0,1,2] [3,4,5] (h:= ?_);simp only[pick,List.map,gn,gt];repeat(go_big_quiet_step (fail))
 refine ip ?_;apply Exists.intro;apply bu (λv w'=>∃O P Z,v=.agg #[O,P,Z]/\kT w' w4.heap.size w'.heap.size (dJ s L) O P Z)
 .rfl
 .exact λv x y ⟨O,P,Z,e,h⟩ hle=>⟨O,P,Z,e,(h.below hle (am _)).wide (am _) hle.size⟩
 .intro y G Qx d;replace d:=ab d;have hd:=S.below y.ok (by omega);have T:=y.ok.size;go_wp2;refine(adM s L _ _ _ y.to _ _ hd.l (by omega) Q.out a0).mono ?_;rintro e wy ⟨u5,u6,u7,rfl,r5,B⟩;go_wp2;exact d.out _ _ B ⟨u5,u6,u7,rfl,r5.wide T (am _)⟩
 intro vw;apply dW (.bool true)
 .intro y G Qx d;replace d:=ab d;obtain⟨v5,v6,v7,rfl,o5⟩:=G.1 (by kernel_rfl);have T:=y.ok.size;go_wp2;refine(ajP x (dJ s L) _ _ _ _ _ _ y.to _ _ _ _ (o4.below y.ok (by omega)).l o5.l (by omega) (am _) true (by simp only[tK];exact r.out)).mono ?_;rintro e wy ⟨rfl,B⟩;go_wp2;exact d.out _ B
 apply dW (.bool false)
 .intro y G Qx d;replace d:=ab d;go_wp2;exact d.out _ (fd _ _)
 refine aS ?_;intro w5 C xx dh G;dsimp only[dV] at G;try rw[dh] at G
 simp only[List.drop];replace b:=ah b C;replace n:=b.cell;replace F:=b.frozen;replace a:=ah a C;replace g:=a.cell;replace D:=a.frozen;replace j:=ah j C;replace H:=j.cell;replace z:=j.frozen;have a2:=S.below C (by omega);have o5:=o4.below C (by omega);have o:=ag ao C;have z5:=C.size;have a9:Hid (∀p∈x.pk,1<=p.its.length):=ab (by rw[r.out];exact avq f.out.one L);have ax:Hid (SmS x):=ab (by rw[r.out];exact X.out);have an:Hid (jm x.lg):=ab (by rw[r.out];exact f.out.wf.okl.lie L);have HF:=ab (found f.out R.out);rw[<-r.out] at HF;have ay:=hg.below o;have ba:=f.out.wf.ll;have HM:=adq s.lg f.out.wf.okl 0 0 (by omega) _ w5 _ _ a2.l.lg (by omega);rw[apo] at HM;replace HM:=ab HM;have Y:=ab (avv f.out.wf.okl (am s.lg.length));rw[gE] at Y;have a7:=ab o5.l;go_wp2;refine HM.out.mono ?_;rintro e k ⟨rfl,u⟩;replace b:=ah b u;replace n:=b.cell;replace F:=b.frozen;replace a:=ah a u;replace g:=a.cell;replace D:=a.frozen;replace j:=ah j u;replace H:=j.cell;replace z:=j.frozen;replace o:=ag o u;have z6:=u.size;have W:=λ(y:World) (hy:Below k.heap.size k y)=>apr x ax.out a9.out an.out (s.lg.length:Int) (ep s.lg) 1 (by omega) _ _ _ _ _ y ((ay.below u).below hy) (by have:=hy.size;omega) ((a7.out.below u (by omega)).below hy (by omega))
 rcases(by omega:(L.k=2/\L.n<s.lg.length)\/(L.k=4/\L.n<s.lg.length)\/(L.k=2/\¬L.n<s.lg.length)\/(L.k=4/\¬L.n<s.lg.length)\/(L.k≠2/\L.k≠4)) with t|t|t|t|t
 case' inl=>have er:=HF.out.1 t.1 t.2
 case' inr.inl=>have er:=HF.out.2.1 t.1 t.2
 case' inr.inr.inl|inr.inr.inr.inl|inr.inr.inr.inr=>have er:mb s.lg.length (ep s.lg) x.lg=((s.lg.length:Int),ep s.lg,0):=by rw[HF.out.2.2 (by omega) (by omega)];exact Y.out
 all_goals
  first
   |have t1:(L.k ==2)=true:=nf.2 (by omega)
   |have t1:(L.k ==2)=false:=dk.2 (by omega)
  first
   |have t3:(L.k ==4)=true:=nf.2 (by omega)
   |have t3:(L.k ==4)=false:=dk.2 (by omega)
  first
   |have t2:=dj (show L.n<(s.lg.length:Int) by omega)
   |have t2:=bv (show ¬(L.n<(s.lg.length:Int)) by omega)
   |skip
  rw[er] at W;have I:=au k (.cells #[.int .i64 (s.lg.length:Int),.int .i64 (ep s.lg)] 35);have af:=(ah b I).cell;have ad:=(ah a I).cell;have bh:=(ah j I).cell;go_wp2;have m:Below k.heap.size k (k.alloc (.cells #[.int .i64 (s.lg.length:Int),.int .i64 (ep s.lg)] 35)):=au _ _;have p0:aX (k.alloc (.cells #[.int .i64 (s.lg.length:Int),.int .i64 (ep s.lg)] 35)) (k.heap.size) 35 #[.int .i64 (s.lg.length:Int),.int .i64 (ep s.lg)]:=aX.new _ _ _;have b4:k.heap.size+1<=(k.alloc (.cells #[.int .i64 (s.lg.length:Int),.int .i64 (ep s.lg)] 35)).heap.size:=by simp only[mp];omega
  generalize (k.alloc (.cells #[.int .i64 (s.lg.length:Int),.int .i64 (ep s.lg)] 35))=w7 at *;have aT:=p0.cell;have bi:=p0.frozen;replace b:=ah b m;replace n:=b.cell;replace F:=b.frozen;replace a:=ah a m;replace g:=a.cell;replace D:=a.frozen;replace j:=ah j m;replace H:=j.cell;replace z:=j.frozen;replace o:=ag o m;refine(W w7 m).mono ?_;rintro e q V;first|obtain⟨u8,rfl,b8⟩:=V.ok|obtain⟨u8,rfl,b8⟩:=V.no (by omega)
  replace b:=ah b b8;replace n:=b.cell;replace F:=b.frozen;replace a:=ah a b8;replace g:=a.cell;replace D:=a.frozen;replace o:=ag o b8;have f0:=g 0;have f1:=g 1;have I:=au q (.cells #[.int .i64 (s.lg.length:Int),.int .i64 (ep s.lg)] 35);have af:=(ah b I).cell;have ad:=(ah a I).cell;go_wp2;have E:Below q.heap.size q (q.alloc (.cells #[.int .i64 (s.lg.length:Int),.int .i64 (ep s.lg)] 35)):=au _ _;have q0:aX (q.alloc (.cells #[.int .i64 (s.lg.length:Int),.int .i64 (ep s.lg)] 35)) (q.heap.size) 35 #[.int .i64 (s.lg.length:Int),.int .i64 (ep s.lg)]:=aX.new _ _ _;have aR:q.heap.size+1<=(q.alloc (.cells #[.int .i64 (s.lg.length:Int),.int .i64 (ep s.lg)] 35)).heap.size:=by simp only[mp];omega
  generalize (q.alloc (.cells #[.int .i64 (s.lg.length:Int),.int .i64 (ep s.lg)] 35))=w9 at *;have aY:=q0.cell;have aG:=q0.frozen;replace b:=ah b E;replace n:=b.cell;replace F:=b.frozen;replace a:=ah a E;replace g:=a.cell;replace D:=a.frozen;replace o:=ag o E;go_ret;exact⟨rfl,o⟩
end Go.Proofs.YtlaobkmopohmnaaGreatDoor.lawlf
namespace Go.Proofs.YtlaobkmopohmnaaGreatDoor
section
open Go.RowKit Go.ChangeShapes Go.WideShapes Go.ChangeAt
section
variable {H:Type} {enc:TypeId×Value->H} {P:Program}
def aaH(i:laidOutB P=true){W l:World}{e:Nat->Bool}:∀{g:List TypeId} {j:List Value} {k:List (DataW H)} {f:List MemPlace},
  (∀t∈g,P.readableRec t=true/\t<P.types.size)->DataW.TrodAll enc P W 0 (λ_=>true) true g j k f->(∀p∈f,W.sameAt l p)->(∀p∈f,e p.block=true)->
  DataW.TrodAll enc P l 0 e true g j k f
 |[],_,_,_,_,h,_,_=>by
  obtain⟨rfl,rfl,rfl⟩:=trodAll_nil h;exact trodAll_mk0
 |t::g,_,_,_,hr,h,hs,hsp=>by
  obtain⟨v,q,d,m,a,b,rfl,rfl,rfl,u,n⟩:=trodAll_cons h;obtain⟨o,s⟩:=hr t (by simp);refine trodAll_cons_mk (WideElems.Trod_stays i o s u (λp c=>hs p (by simp[c])) (λp c=>hsp p (by simp[c]))) ?_;exact aaH i (λt r=>hr t (by simp[r])) n (λp c=>hs p (by simp[c])) (λp c=>hsp p (by simp[c]))
def ac8{w:World}{base:Nat}{c:Nat->Bool}{e:Bool}:∀{f:List TypeId} {m:List Value} {g:List (DataW H)} {l:List MemPlace},DataW.TrodAll enc P w base c e f m g l->g.length=f.length
 |[],_,_,_,h=>by
  obtain⟨_,rfl,_⟩:=trodAll_nil h;rfl
 |t::f,_,_,_,h=>by
  obtain⟨v,k,d,i,a,b,rfl,rfl,rfl,n,j⟩:=trodAll_cons h;rw[fi,fi,ac8 j]
end
def own:ownKnob prog.godebug=none:=by kernel_rfl
def xF:laidOutB prog=true:=by kernel_rfl
section
variable {H:Type} {enc:TypeId×Value->H} {P:Program}
def aps {base:Nat} {n:Bool} {r:Reach} {t e:TypeId} {k:IntKind} {d:DataW H} {E:fW Int} (D:P.underlying t=some (.slice e)) (T:P.underlying e=some (.int k)) (X:P.cellsOf e=1)
  (N:∀(w:World) (L l:Nat) (x:Int),(Lit.int k x).wf=true->E w L l x [.int k x])
  (V:Value.okWide P w r Z t v) (h:DataW.Trod enc P w base U n t v d p) (s:∀x∈p,x.block<w.heap.size) :
  ∃R:List Int,bC E 1 w 0 w.heap.size R [v]:=by
 obtain⟨a0,len,cap,rfl⟩:=okWide_slice D V;obtain⟨J,Q⟩:=h;rcases open_ints D T X Q with⟨c,B⟩|⟨a,G,F,m,c,_,Y,S,I,B,g,z⟩
 .simp[Value.cells] at c;obtain⟨rfl,rfl,rfl⟩:=c;exact⟨[],none,0,rfl,am _,by unfold maxLen;omega,λh=>absurd h (by simp)⟩
 .simp[Value.cells] at c;obtain⟨rfl,rfl,rfl⟩:=c;have f:(m.take len).length=len:=by
   rw[eg,I];split<;>omega
  refine⟨m.take len,some a,cap,by rw[f],by omega,S,λO=> ?_⟩;rw[f] at O;have M:len<=m.length:=by rw[I];split<;>omega
  obtain⟨b,q,rfl,y⟩:=ints_at g (by omega);refine⟨b,q,rfl,fa _, ?_,λi x l=> ?_⟩
  .simp only[vm] at B;have C:MemPlace.cell b q∈p:=by
    rw[B.2];have:m.length=(m.length-1)+1:=by omega
    simp[MemPlace.row];omega
   exact s _ C
  .have o:i<len:=by have:=aB l;omega
   have K:m.getD i 0=x:=by
    rw[tv o] at l;rw[sY,l];rfl
   refine⟨[.int k x],rfl,N _ _ _ _ (z x ?_),λj u A=> ?_⟩
   .rw[tv o] at l;exact db l
   .have W:j=0:=by have:=aB A;simpa using this
    subst W;simp at A;subst A;have:=y i (by omega);rw[K] at this;simpa using this
end
def wN {enc:TypeId×Value->V} {base:Nat} {a:Bool} {r:Reach} {d:DataW V} 
  (c:Value.okWide prog w r Z 22 v) (h:DataW.Trod enc prog w base U a 22 v d p) (b:∀x∈p,x.block<w.heap.size):∃e:List Int,bC jK 1 w 0 w.heap.size e [v]:=
 aps underlying22 underlying5 (by kernel_rfl) (λ_ _ _ x f=>⟨rfl,by simp[Lit.wf,IntKind.min,IntKind.max,IntKind.signed,IntKind.bits] at f;exact⟨by omega,by omega⟩⟩) c h b
end
end Go.Proofs.YtlaobkmopohmnaaGreatDoor