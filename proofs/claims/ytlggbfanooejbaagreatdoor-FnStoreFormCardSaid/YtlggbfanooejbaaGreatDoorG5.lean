/- A part. -/
import Derived.Test.YtlggbfanooejbaaGreatDoorG4
import Derived.Lib.Builder
import Derived.Lib.Strings
import Derived.Lib.Slices
import Derived.Lib.AppendStr
import Derived.Lib.FrozenHead
import Derived.Lib.UnsafeStr
import Derived.Lib.MakeNoZero
import Derived.Shelf.RegionOpenPlain
import Derived.Laws.Externs
import Derived.Laws.IdiomCopy
import Derived.Laws.BitsLemmas
import Derived.Conc.CrowdRun
import Derived.Conc.Beside
set_option maxRecDepth 100000
set_option maxHeartbeats 8000000
set_option linter.all false
open Go Go.Conc Go.ConcN Go.RowKit Go.Proofs.Tryz Go.Proofs.YtlggbfanooejbaaGreatDoor
variable {s:dJ} {V B Wg b g hi i k lo m' κ:Nat} {l:Loc} {U:Next} {Z Y X:Value} {W w:World} {e:Event} {x:Touch} {pos:String} {t:List Nd} {T:Goroutine} {cs:Array Value} {es:Array Event} {Own:Nat→Loc→Prop}
namespace Go.Proofs.YtlggbfanooejbaaGreatDoor
def lE:=@Go.Conc.mem_ofEvents
def ql:=@Go.ConcN.upd_same
def qA:=@Go.Conc.Goes.stop
def qH:=@Option.bind_some
def qN:=@Go.ConcN.upd_ne
def qS:=@Array.getElem?_push_size
def qW:=@Go.Lib.cell_of_heap
def rr:=@Go.Conc.Deaf_other
def ru:=@Go.Sem.runT_fst
def rA:=@Go.Conc.getElem?_append_cases
def rK:=@Go.Lib.byteCells_length
def rL:=@Go.Conc.Goes.cases
def sD:=@Go.Conc.Goes.running
def sH:=@Go.Result.ok.injEq
def sP:=@Go.Conc.aside_setCell
def sX:=@Go.ConcN.get_map_set
def sY:=@Go.Conc.woken_quitsD
def tj:=@Go.Conc.runT_crowd_go
def tw:=@Go.Conc.Goes.rely
def tD:=@Bool.not_eq_true'
def tE:=@Go.Conc.goes_go
def tH:=@Go.ConcN.deafBehind_idle
def tZ:=@Go.ConcN.RW.refl
def uj:=@List.size_toArray
def un:=@Array.getElem?_push_lt
def uq:=@Go.ConcN.cell_of_block
def uy:=@Go.ConcN.get_map_set_same
def uA:=@Go.Conc.awake_of
def uS:=@Go.Lib.frozen_of_heap
def uU:=@Prod.mk.injEq
def vh:=@Bool.eq_false_iff
def vx:=@Nat.lt_succ_self
def vN:=@Array.mem_iff_getElem?
def we:=@Array.map_congr_left
section
variable {β:Bool}
open Go.RowKit
def gJ.set(h:gJ w lo hi s Z Y X)(a:cg w g 27 cs)(i:Nat)(u:Value):gJ (w.setCell ⟨g,i,none⟩ u) lo hi s Z Y X:=
 ⟨cR gj.az h.pk a (by decide) i u,cR gW.az h.sn a (by decide) i u,cR gq.az h.lg a (by decide) i u⟩
def gJ.wide{pF hi' : Nat}(h:gJ w lo hi s Z Y X)(b:pF<=lo)(a:hi<=hi'):gJ w pF hi' s Z Y X:=h.go (λ_ _ _=>rfl) b a
def gJ.form(h:gJ w lo hi s Z Y X):(∃A a,Z=.slice A s.pk.length a)/\(∃B b,Y=.slice B s.sn.length b)/\∃C c,X=.slice C s.lg.length c:=⟨h.pk.form,h.sn.form,h.lg.form⟩
def gJ.fP{w' : World}(h:gJ w lo hi s Z Y X){S:Nat->Prop}(e:bV S w w')(c:∀b,lo<=b->b<hi->b<w.heap.size/\¬S b):gJ w' lo hi s Z Y X:=
 h.go (λb d a=>e.block b (c b d a).1 (c b d a).2) (am _) (am _)
def asj(h:cs.size=3):∃a b c,cs=#[a,b,c]:=by
 obtain⟨l⟩:=cs
 match l,h with
 |[a,b,c],_=>exact⟨a,b,c,rfl⟩
def dH(w:World)(g:Nat)(a b c:Value):bV (λx=>x=g) w (((w.setCell ⟨g,0,none⟩ a).setCell ⟨g,1,none⟩ b).setCell ⟨g,2,none⟩ c):=(((bV.refl (λx=>x=g) w).setCell (S:=λx=>x=g) (p:=⟨g,0,none⟩) (.inl rfl) a).setCell (S:=λx=>x=g) (p:=⟨g,1,none⟩) (.inl rfl) b).setCell (S:=λx=>x=g) (p:=⟨g,2,none⟩) (.inl rfl) c
section
variable {w:World} {lo hi g:Nat} {l:List Int} {N s ia ic bk:Nat} {fx:Bool} {ty:TypeId} {n:Nat} {S:Nat->Prop} {pre:List Nat}
def abg(u:Value)(x:aJ w lo hi g l N s ia ic bk fx ty n S pre):Prop:=
 ∃d c a q r L H,u=.tuple #[.agg #[d,c,a],.bool q]/\gJ x.to L H r d c a/\(∀b,L<=b->b<H->x.free b)/\w.heap.size<=L/\H<=x.to.heap.size/\(q=true->eC r)
def abg.le{u:Value}{x y:aJ w lo hi g l N s ia ic bk fx ty n S pre}(h:abg u x)(a:aJ.le x y):abg u y:=by
 obtain⟨j,o,k,q,r,L,H,rfl,f,e,p,i,m⟩:=h;exact⟨j,o,k,q,r,L,H,rfl,f.go (λb d c=>a.fP.block b (e b d c).1 (a.not (e b d c))) (am _) (am _),λb d c=>a.free (e b d c),p,db i a.fP.size,m⟩
def abg.new{r:dJ}{q:Bool}(x:aJ w lo hi g l N s ia ic bk fx ty n S pre){w2:World}(d:Below x.to.heap.size x.to w2)(a:gJ w2 x.to.heap.size w2.heap.size r Z Y X)(j:q=true->eC r)(k:g<w.heap.size)(v:Value):abg (.tuple #[.agg #[Z,Y,X],.bool q]) (x.told d v):=by
 have f:=x.ok.size;exact⟨Z,Y,X,q,r,_,_,rfl,a,λb o c=>⟨c,by omega,λe=>(by
  obtain⟨_,_,m,_,i⟩:=x.bx b e;have:=i.lt;omega),λe=>(by have:=x.sf b e;omega)⟩,f,am _,j⟩
def aiu(x:aJ w lo hi g l N s ia ic bk fx ty n S pre):Prop:=
 x.done=true/\∃b d c a q,x.box=some b/\x.res=some (.tuple #[.agg #[d,c,a],.bool q])/\cg x.to b ty #[d,c,a]
def aiu.le{x y:aJ w lo hi g l N s ia ic bk fx ty n S pre}(h:aiu x)(a:aJ.le x y):aiu y:=by
 obtain⟨hd,b,d,m,k,q,i,e,j⟩:=h;obtain⟨o,c,f⟩:=a.full hd i j;exact⟨o,b,d,m,k,q,c,a.res _ e,f⟩
end
structure afF (u va vb vc:Value) (q:Bool):Prop where
 eq:u=.tuple #[.agg #[va,vb,vc],.bool q]
 a:∃A m c,va=.slice A m c
 b:∃A m c,vb=.slice A m c
 c:∃A m c,vc=.slice A m c
def afF.of{r:dJ}{q:Bool}(h:gJ w lo hi r Z Y X):afF (.tuple #[.agg #[Z,Y,X],.bool q]) Z Y X q:=by
 obtain⟨⟨A,a,rfl⟩,⟨B,b,rfl⟩,C,c,rfl⟩:=h.form;exact⟨rfl,⟨_,_,_,rfl⟩,⟨_,_,_,rfl⟩,⟨_,_,_,rfl⟩⟩
def apW(w:World)(lo hi g:Nat)(l:List Int)(p:Nat)(e:Ending)(w':World):Prop:=
 ∃d c a s q,e=.returned (.agg #[d,c,a])/\gJ w' w.heap.size w'.heap.size s d c a/\eC s/\Rd w' lo hi g l q/\q<=p+700/\bV (λb=>b=g) w w'
structure aiv (w wr:World) (lo hi g:Nat) (l:List Int) (q gs:Nat) (va vb vc tt:Value) (s:dJ) (t:List Nd):Prop where
 k0:cg wr w.heap.size 27 #[.slice none 0 0,.slice none 0 0,.slice none 0 0]
 ks:cg wr gs 27 #[va,vb,vc]
 os:gJ wr w.heap.size wr.heap.size s va vb vc
 sv:eC s
 ot:aD nz 122 wr w.heap.size tt t
 ft:kC t
 rd:Rd wr lo hi g l q
 ch:bV (λb=>b=g) w wr
 gs1:w.heap.size<gs
 gw:g<w.heap.size
def aiv.fP{wr w' : World}{l:List Int}{q gs : Nat}{c : Value}(h:aiv w wr lo hi g l q gs Z Y X c s t)(a:bV (λb=>b=g) wr w')(j:Rd w' lo hi g l V):aiv w w' lo hi g l V gs Z Y X c s t:=by
 have m:=h.gw;have d:=h.gs1;exact⟨aY h.k0 a (by omega),aY h.ks a (by omega),(h.os.fP a λb d f=>⟨f,by omega⟩).wide (am _) a.size,h.sv,h.ot.fP a λb k e=>by have:=(h.ot.at_ k).1;omega,h.ft,j,h.ch.trans a λi _ e=>e,d,m⟩
def aiv.tree{wr : World}{l:List Int}{q gs:Nat}{e a : Value}{b : List Nd}(h:aiv w wr lo hi g l q gs Z Y X e s t)(d:aD nz 122 wr w.heap.size a b)(c:kC b):aiv w wr lo hi g l q gs Z Y X a s b:=
 ⟨h.k0,h.ks,h.os,h.sv,d,c,h.rd,h.ch,h.gs1,h.gw⟩
def acn(h:kC t):∀x∈t,nz.good x:=aak h
def aiw(l:List Int)(g p lo hi:Nat)(w:World)(hr:Rd w lo hi g l p)(hp:p<=10000) :
  Calls (ai β) 40 #[.pointer (some ⟨g,0,none⟩)] w (apW w lo hi g l p):=by
 have c9:=hr.lt;have cl:=hr.hi_;go_enter zI,ntmps40;go_wp2;have aP:Below w.heap.size w (((((w.alloc (.cells #[.slice none 0 0,.slice none 0 0,.slice none 0 0] 27)).alloc (.cells #[] 40)).alloc (.cells #[] 35)).alloc (.cells #[] 88)).alloc (.cells #[.slice (some ⟨w.heap.size+1,0,none⟩) 0 0,.slice (some ⟨w.heap.size+1+1,0,none⟩) 0 0,.slice (some ⟨w.heap.size+1+1+1,0,none⟩) 0 0] 27)):=cY (cY (cY (cY (aC _ _) _) _) _) _;have k0:cg (((((w.alloc (.cells #[.slice none 0 0,.slice none 0 0,.slice none 0 0] 27)).alloc (.cells #[] 40)).alloc (.cells #[] 35)).alloc (.cells #[] 88)).alloc (.cells #[.slice (some ⟨w.heap.size+1,0,none⟩) 0 0,.slice (some ⟨w.heap.size+1+1,0,none⟩) 0 0,.slice (some ⟨w.heap.size+1+1+1,0,none⟩) 0 0] 27)) (w.heap.size) 27 #[.slice none 0 0,.slice none 0 0,.slice none 0 0]:=by
  have I:=bu (bu (bu (bu (cg.new w 27 #[.slice none 0 0,.slice none 0 0,.slice none 0 0]) (.cells #[] 40)) (.cells #[] 35)) (.cells #[] 88)) (.cells #[.slice (some ⟨w.heap.size+1,0,none⟩) 0 0,.slice (some ⟨w.heap.size+1+1,0,none⟩) 0 0,.slice (some ⟨w.heap.size+1+1+1,0,none⟩) 0 0] 27);exact I
 have k1:cg (((((w.alloc (.cells #[.slice none 0 0,.slice none 0 0,.slice none 0 0] 27)).alloc (.cells #[] 40)).alloc (.cells #[] 35)).alloc (.cells #[] 88)).alloc (.cells #[.slice (some ⟨w.heap.size+1,0,none⟩) 0 0,.slice (some ⟨w.heap.size+1+1,0,none⟩) 0 0,.slice (some ⟨w.heap.size+1+1+1,0,none⟩) 0 0] 27)) (w.heap.size+1) 40 #[]:=by
  have I:=bu (bu (bu (cg.new (w.alloc (.cells #[.slice none 0 0,.slice none 0 0,.slice none 0 0] 27)) 40 #[]) (.cells #[] 35)) (.cells #[] 88)) (.cells #[.slice (some ⟨w.heap.size+1,0,none⟩) 0 0,.slice (some ⟨w.heap.size+1+1,0,none⟩) 0 0,.slice (some ⟨w.heap.size+1+1+1,0,none⟩) 0 0] 27);simp only[mw] at I;exact I
 have k2:cg (((((w.alloc (.cells #[.slice none 0 0,.slice none 0 0,.slice none 0 0] 27)).alloc (.cells #[] 40)).alloc (.cells #[] 35)).alloc (.cells #[] 88)).alloc (.cells #[.slice (some ⟨w.heap.size+1,0,none⟩) 0 0,.slice (some ⟨w.heap.size+1+1,0,none⟩) 0 0,.slice (some ⟨w.heap.size+1+1+1,0,none⟩) 0 0] 27)) (w.heap.size+1+1) 35 #[]:=by
  have I:=bu (bu (cg.new ((w.alloc (.cells #[.slice none 0 0,.slice none 0 0,.slice none 0 0] 27)).alloc (.cells #[] 40)) 35 #[]) (.cells #[] 88)) (.cells #[.slice (some ⟨w.heap.size+1,0,none⟩) 0 0,.slice (some ⟨w.heap.size+1+1,0,none⟩) 0 0,.slice (some ⟨w.heap.size+1+1+1,0,none⟩) 0 0] 27);simp only[mw] at I;exact I
 have k3:cg (((((w.alloc (.cells #[.slice none 0 0,.slice none 0 0,.slice none 0 0] 27)).alloc (.cells #[] 40)).alloc (.cells #[] 35)).alloc (.cells #[] 88)).alloc (.cells #[.slice (some ⟨w.heap.size+1,0,none⟩) 0 0,.slice (some ⟨w.heap.size+1+1,0,none⟩) 0 0,.slice (some ⟨w.heap.size+1+1+1,0,none⟩) 0 0] 27)) (w.heap.size+1+1+1) 88 #[]:=by
  have I:=bu (cg.new (((w.alloc (.cells #[.slice none 0 0,.slice none 0 0,.slice none 0 0] 27)).alloc (.cells #[] 40)).alloc (.cells #[] 35)) 88 #[]) (.cells #[.slice (some ⟨w.heap.size+1,0,none⟩) 0 0,.slice (some ⟨w.heap.size+1+1,0,none⟩) 0 0,.slice (some ⟨w.heap.size+1+1+1,0,none⟩) 0 0] 27);simp only[mw] at I;exact I
 have k4:cg (((((w.alloc (.cells #[.slice none 0 0,.slice none 0 0,.slice none 0 0] 27)).alloc (.cells #[] 40)).alloc (.cells #[] 35)).alloc (.cells #[] 88)).alloc (.cells #[.slice (some ⟨w.heap.size+1,0,none⟩) 0 0,.slice (some ⟨w.heap.size+1+1,0,none⟩) 0 0,.slice (some ⟨w.heap.size+1+1+1,0,none⟩) 0 0] 27)) (w.heap.size+1+1+1+1) 27 #[.slice (some ⟨w.heap.size+1,0,none⟩) 0 0,.slice (some ⟨w.heap.size+1+1,0,none⟩) 0 0,.slice (some ⟨w.heap.size+1+1+1,0,none⟩) 0 0]:=by
  have I:=cg.new ((((w.alloc (.cells #[.slice none 0 0,.slice none 0 0,.slice none 0 0] 27)).alloc (.cells #[] 40)).alloc (.cells #[] 35)).alloc (.cells #[] 88)) 27 #[.slice (some ⟨w.heap.size+1,0,none⟩) 0 0,.slice (some ⟨w.heap.size+1+1,0,none⟩) 0 0,.slice (some ⟨w.heap.size+1+1+1,0,none⟩) 0 0];simp only[mw] at I;exact I
 have jh:w.heap.size+5<=(((((w.alloc (.cells #[.slice none 0 0,.slice none 0 0,.slice none 0 0] 27)).alloc (.cells #[] 40)).alloc (.cells #[] 35)).alloc (.cells #[] 88)).alloc (.cells #[.slice (some ⟨w.heap.size+1,0,none⟩) 0 0,.slice (some ⟨w.heap.size+1+1,0,none⟩) 0 0,.slice (some ⟨w.heap.size+1+1+1,0,none⟩) 0 0] 27)).heap.size:=by simp only[mw];omega
 generalize (((((w.alloc (.cells #[.slice none 0 0,.slice none 0 0,.slice none 0 0] 27)).alloc (.cells #[] 40)).alloc (.cells #[] 35)).alloc (.cells #[] 88)).alloc (.cells #[.slice (some ⟨w.heap.size+1,0,none⟩) 0 0,.slice (some ⟨w.heap.size+1+1,0,none⟩) 0 0,.slice (some ⟨w.heap.size+1+1+1,0,none⟩) 0 0] 27))=w0 at *;have dv:=k0.cell;have fg:=k0.frozen;have oP:=k1.cell;have bT:=k1.frozen;have bz:=k2.cell;have c3:=k2.frozen;have bt:=k3.cell;have bO:=k3.frozen;have a5:=k4.cell;have ci:=k4.frozen;have b9:gJ w0 w.heap.size w0.heap.size ⟨[],[],[]⟩ (.slice (some ⟨w.heap.size+1,0,none⟩) 0 0) (.slice (some ⟨w.heap.size+1+1,0,none⟩) 0 0) (.slice (some ⟨w.heap.size+1+1+1,0,none⟩) 0 0):=
  ⟨dW.ac6 ⟨_,rfl,by omega,k1⟩ (am _),dW.ac6 ⟨_,rfl,by omega,k2⟩ (am _),dW.ac6 ⟨_,rfl,by omega,k3⟩ (am _)⟩
 have ao:bV (λb=>b=g) w w0:=bV.bF aP;have bf:=hr.fP (bV.bF (S:=λ_=>False) aP) λ_ _ h=>h;clear k1 k2 k3 dv oP bz bt a5 fg bT c3 bO ci aP hr;refine(aj2 l g p lo hi w0 bf (by omega)).mono ?_;rintro e w1 ⟨vt,t0,q1,rfl,ot,br,b2,cA,J⟩;have k:aiv w w1 lo hi g l q1 (w.heap.size+1+1+1+1) (.slice (some ⟨w.heap.size+1,0,none⟩) 0 0) (.slice (some ⟨w.heap.size+1+1,0,none⟩) 0 0) (.slice (some ⟨w.heap.size+1+1+1,0,none⟩) 0 0) vt ⟨[],[],[]⟩ t0:=
  ⟨aY k0 J (by omega),aY k4 J (by omega),(b9.fP J λb h1 h2=>⟨h2,by omega⟩).wide (am _) J.size,eC.nil,ot.base (by omega),br,b2,ao.trans J λi _ e=>e,by omega,c9⟩
 clear k0 k4 b9 ao ot br J bf;obtain⟨o,b3⟩:∃o,o=w.heap.size+1+1+1+1:=⟨_,rfl⟩;rw[<-b3] at k ⊢;clear b3;go_wp2;refine(cF _ _ _ _ _ _ 5 k.rd (by omega)).mono ?_;rintro e w2 ⟨m,rfl,⟨_,hm⟩,bl,b0⟩;have cq:=hm (by omega);obtain⟨mm,rfl⟩:=qu (show 0<=m by omega);have b4:=ab (k.fP b0 bl);clear hm b2 bl b0 k;go_wp2;go_loopw [4,5] (λtt jj wr=>∃(j q:Nat) (s:dJ) (t:List Nd) (O P U:Value),j<=4/\jj=.int .i64 j/\aiv w wr lo hi g l q o O P U tt s t/\q+60*j<=p+600) (λ_ jj _=>(intOf jj).toNat)
 case atStart=>exact⟨mm,_,_,_,_,_,_,by omega,rfl,b4.out,by omega⟩
 case round=>
  clear b4;obtain⟨j,q,s,t,O,P,U,hj,rfl,k,hq⟩:=hrel;obtain⟨⟨A,a,rfl⟩,⟨B,b,rfl⟩,C,c,rfl⟩:=k.os.form;obtain⟨T,d,rfl⟩:=k.ot.form;have bc:wr.cell? ⟨o,0,none⟩=some (.slice A s.pk.length a):=k.ks.cell 0;have a9:wr.cell? ⟨o,1,none⟩=some (.slice B s.sn.length b):=k.ks.cell 1;have bo:wr.cell? ⟨o,2,none⟩=some (.slice C s.lg.length c):=k.ks.cell 2;have bS:=k.gs1;have bw:=k.gw;have cn:=k.ks.lt;have zr:=k.ch.size;have HD:=ab k;by_cases h0:j=0
  .subst h0;have dv:=k.k0.cell;have fg:=k.k0.frozen;clear k;go_wp2;have k4:=((HD.out.k0.bC 0 (.slice A s.pk.length a)).bC 1 (.slice B s.sn.length b)).bC 2 (.slice C s.lg.length c);simp only[be,dk,dl] at k4;have a5:=k4.cell;refine oR (v:=.agg #[.slice A s.pk.length a,.slice B s.sn.length b,.slice C s.lg.length c]) (by simp[results,results40,go_sem,a5]) rfl ⟨_,_,_,s,q,rfl, ?_,HD.out.sv, ?_,by omega, ?_⟩
   .simp only[fd];exact((HD.out.os.set HD.out.k0 0 _).set (HD.out.k0.bC 0 _) 1 _).set ((HD.out.k0.bC 0 _).bC 1 _) 2 _
   .exact HD.out.rd.fP (dH _ _ _ _ _) λb G e=>by have:=HD.out.gw;omega
   .exact HD.out.ch.trans (dH _ _ _ _ _) λi hi e=>by omega
  .have t0:=de (show 0<j by omega);clear k;have rd:=HD.out.rd;go_wp2;refine alZ (N:=q+12) (s:=10) (ia:=9) (ic:=5) (bk:=wr.heap.size) (fx:=false) (ty:=27) (n:=3) (S:=λ_=>False) (pre:=[]) 12 q [1,4] [0,2,3,5,6,7,8,9,10,11] (by kernel_rfl) (by kernel_rfl) (by kernel_rfl) rd (am _) none (λb G=>by cases G) (λh=>by cases h) (λb G=>G.elim) (λb G=>by cases G) (.inl rfl) ?_;simp only[pick,List.map,mx,mT];repeat(go_big_quiet_step (fail))
   refine gE ?_;apply Exists.intro;apply aoa (λv=>v=.agg #[.slice A s.pk.length a,.slice B s.sn.length b,.slice C s.lg.length c])
   .rfl
   .intro x _ X f;replace f:=ab f;have ca:=abc (x:=x) bc (by show o≠g;omega) (by show o≠_;omega) (λh=>h);have cb:=abc (x:=x) a9 (by show o≠g;omega) (by show o≠_;omega) (λh=>h);have cc:=abc (x:=x) bo (by show o≠g;omega) (by show o≠_;omega) (λh=>h);go_wp2;exact f.out _ rfl
   intro ux;simp only[Act.put,be,dk,dl];apply au4 (λv=>∃m:Int,v=.int .i64 m/\0<=m/\m<2)
   .rfl
   .intro x _ hN X f;replace f:=ab f;go_wp2;refine(cF _ _ _ _ _ _ 2 x.rd (by omega)).mono ?_;rintro e wy ⟨m,rfl,⟨_,q1⟩,ce,bI⟩;obtain⟨q2,q3⟩:=q1 (by omega);go_wp2;exact f.out _ _ ce bI ⟨m,rfl,q2,q3⟩
   intro u2;apply aoa (λv=>∃m:Int,v=.int .i64 m/\1<=m/\m<=2)
   .rfl
   .intro x z X f;replace f:=ab f;obtain⟨m,rfl,q1,q2⟩:=z.1 (by kernel_rfl);go_wp2;exact f.out _ ⟨_,rfl,by omega,by omega⟩
   intro u3;apply au5 (λv x=>abg v x)
   .rfl
   .rfl
   .exact λv x y h hl=>h.le hl
   .intro x z X f;replace f:=ab f;obtain⟨m3,rfl,i1,i2⟩:=z.1 (by kernel_rfl);cases z.2.2.1 (by kernel_rfl);clear z;have bj:∀b,w.heap.size<=b->b<wr.heap.size->b<wr.heap.size/\¬(b=g\/x.box=some b\/x.done=true/\False):=λb h1 h2=>⟨h2,λe=>by
     rcases e with e|e|e
     .have:=HD.out.gw;omega
     .rcases x.bw b e with e|e<;>omega
     .exact e.2⟩
    have ox:=HD.out.os.fP x.ok bj;have tx:=HD.out.ot.fP x.ok λb G=>(bj b (HD.out.ot.at_ G).1 (HD.out.ot.at_ G).2).2;have zx:=x.ok.size;have wf:=HD.out.sv.wf;have tr:=(tx.deep (acn HD.out.ft) 0).sl (fa _);go_wp2;refine(ajX 7 (by omega) s m3 (by unfold bX;omega) t (aao HD.out.ft) (by have:=HD.out.ft.2.1;omega) wf.small wf.dr (by have:=wf.axZ;omega) _ _ _ _ x.to _ _ 0 x.to.heap.size ox zx tr (am _)).mono ?_;rintro e wy ⟨v1,v2,v3,qq,r,rfl,oy,bx,aV⟩;go_wp2;exact f.out _ _ aV (abg.new x aV oy (λc2=>by
     rcases bx with⟨_,h1,rfl⟩|⟨h1,_⟩
     .exact HD.out.sv.save (by omega) HD.out.ft h1
     .rw[c2] at h1;cases h1) (by have:=HD.out.gw;omega) _)
   intro u5;simp only[Act.put,be,dk,dl];apply ain (λv u=>v=u/\∃O P U q,afF u O P U q)
   .rfl
   .intro x z X f;replace f:=ab f;obtain⟨⟨v1,v2,v3,qq,r,L,H,rfl,ho,_⟩,K⟩:=z.1 (by kernel_rfl);clear z;go_wp2;exact f.out _ _ K ⟨rfl,_,_,_,_,afF.of ho⟩
   intro u6;simp only[Act.put,be,dk,dl];apply ain (λv u=>∃O P U q,afF u O P U q/\v=.agg #[O,P,U])
   .rfl
   .intro x z X f;replace f:=ab f;obtain⟨u,K,rfl,v1,v2,v3,qq,E⟩:=z.1 (by kernel_rfl);have e:=E.eq;subst e;clear z;go_wp2;exact f.out _ _ K ⟨_,_,_,_,E,rfl⟩
   intro u7;simp only[Act.put,be,dk,dl];apply ain (λv u=>∃O P U q,afF u O P U q/\v=.bool q)
   .rfl
   .intro x z X f;replace f:=ab f;obtain⟨u,K,rfl,v1,v2,v3,qq,E⟩:=z.2.1 (by kernel_rfl);have e:=E.eq;subst e;clear z;go_wp2;exact f.out _ _ K ⟨_,_,_,_,E,rfl⟩
   intro u8;simp only[Act.put,be,dk,dl];apply arW (cs:=#[.slice none 0 0,.slice none 0 0,.slice none 0 0])
   .rfl
   .rfl
   .decide
   .have:=HD.out.gw;omega
   .rfl
   .intro x X f;replace f:=ab f;go_wp2;exact f.out
   intro u9;simp only[Act.put,be,dk,dl];apply arX (λx=>aiu x)
   .rfl
   .exact λj hj=>(by cases hj)
   .exact λx y h hl=>h.le hl
   .intro x z px X f;replace f:=ab f;obtain⟨b6,rfl,jJ,jb⟩:=z.1 (by kernel_rfl);obtain⟨u,K,v1,v2,v3,qq,E,rfl⟩:=z.2.2.1 (by kernel_rfl);clear z;have e:=E.eq;subst e;obtain⟨A1,m1,c1,rfl⟩:=E.a;obtain⟨B1,k1,d1,rfl⟩:=E.b;obtain⟨C1,k2,d2,rfl⟩:=E.c;obtain⟨cx,cZ,cs,bZ,V⟩:=x.bx _ jb;obtain⟨ca,cb,cc,rfl⟩:=asj bZ;have a9:=V.cell;have cp:=V.frozen;go_wp2;exact f.out _ jb _ (dH _ _ _ _ _) _ rfl (((V.bC 0 _).bC 1 _).bC 2 _) ⟨rfl,_,_,_,_,_,jb,K,((V.bC 0 _).bC 1 _).bC 2 _⟩
   .rfl
   simp only[Act.put,be,dk,dl];apply ain (λv u=>∃O P U q,afF u O P U q/\v=.bool q)
   .rfl
   .intro x z X f;replace f:=ab f;obtain⟨u,K,v1,v2,v3,qq,E,rfl⟩:=z.2.2.1 (by kernel_rfl);clear z;go_wp2;exact f.out _ _ K ⟨_,_,_,_,E,rfl⟩
   intro cC;simp only[Act.put,be,dk,dl];refine ayq λx z=> ?_;simp only[iv] at z;obtain⟨⟨u,K,v1,v2,v3,qq,E,rfl⟩,⟨px,gy,cz,cm,d0,d3,bq,al,ky⟩,⟨ct,rfl,cv,bn⟩, -, -, -,⟨⟨x1,x2,x3,d5,r,L,H,rfl,oy,fy,hL,hH,M⟩,bb⟩, -⟩:=z;have e:=E.eq;subst e;rw[K] at al bb;cases al;cases bb;rw[bq] at bn;cases bn;obtain⟨⟨A1,a1,rfl⟩,⟨B1,b1,rfl⟩,C1,c1,rfl⟩:=oy.form;have a0:bV (λb=>b=g) wr x.to:=x.ok.mono λb G e=>by
    rcases e with e|e|⟨_,e⟩
    .exact e
    .rcases x.bw b e with e|e<;>omega
    .exact e.elim
   have Q:=HD.out.fP a0 x.rd;have c6:x.q<=q+12:=x.lim;have zx:=a0.size;simp only[List.drop];clear K E px bq fy HD rd bc a9 bo a0;revert zx;revert hH;revert oy;revert ky;revert c6;revert Q;generalize x.to=w4;generalize x.q=q4;clear x;intro Q co ky oy hH zx;have HD:=ab Q;have cS:=Q.ks.lt;replace M:=ab M;clear Q;cases qq
   case' false=>
    clear ky oy M;go_wp2;revert HD;generalize w4=w5;intro HD
   case' true=>
    have bL:=ky.cell;have c4:=HD.out.ks.cell;have bE:=HD.out.ks.frozen;have a6:=((HD.out.ks.bC 0 (.slice A1 r.pk.length a1)).bC 1 (.slice B1 r.sn.length b1)).bC 2 (.slice C1 r.lg.length c1);simp only[be,dk,dl] at a6;have R:=dH w4 o (.slice A1 r.pk.length a1) (.slice B1 r.sn.length b1) (.slice C1 r.lg.length c1);have ay:gJ (((w4.setCell ⟨o,0,none⟩ (.slice A1 r.pk.length a1)).setCell ⟨o,1,none⟩ (.slice B1 r.sn.length b1)).setCell ⟨o,2,none⟩ (.slice C1 r.lg.length c1)) L H r (.slice A1 r.pk.length a1) (.slice B1 r.sn.length b1) (.slice C1 r.lg.length c1):=((oy.set HD.out.ks 0 _).set (HD.out.ks.bC 0 _) 1 _).set ((HD.out.ks.bC 0 _).bC 1 _) 2 _
    have W:aiv w (((w4.setCell ⟨o,0,none⟩ (.slice A1 r.pk.length a1)).setCell ⟨o,1,none⟩ (.slice B1 r.sn.length b1)).setCell ⟨o,2,none⟩ (.slice C1 r.lg.length c1)) lo hi g l q4 o (.slice A1 r.pk.length a1) (.slice B1 r.sn.length b1) (.slice C1 r.lg.length c1) (.slice T t.length d) r t:=
     ⟨aY HD.out.k0 R (by omega),a6,by simp only[fd];exact gJ.wide ay (by omega) hH,M.out rfl,HD.out.ot.fP R λb G e=>by
       have:=aD.deep HD.out.ot (acn HD.out.ft) 0;obtain⟨ds,k⟩:=this.blk G;have e':b=o:=e;subst e';exact absurd (fF HD.out.ks k) (by decide),HD.out.ft,HD.out.rd.fP R λb G e=>by omega,HD.out.ch.trans R λi hi e=>by have e':i=o:=e;omega,bS,bw⟩
    replace W:=ab W;clear a6 R ay oy HD M;go_wp2;have HD:=W;clear W;revert HD;generalize ((w4.setCell ⟨o,0,none⟩ (.slice A1 r.pk.length a1)).setCell ⟨o,1,none⟩ (.slice B1 r.sn.length b1)).setCell ⟨o,2,none⟩ (.slice C1 r.lg.length c1)=w5;intro HD;clear bL c4 bE ky
   all_goals
    refine(mr l g q4 lo hi w5 HD.out.rd (by omega)).mono ?_;rintro e w6 ⟨sp,q6,rfl,cW,aQ,d6,b5⟩;have a3:=ab (HD.out.fP b5 aQ);clear aQ b5 HD;go_wp2;refine(adK l g q6 lo hi w6 a3.out.rd (by omega)).mono ?_;rintro e w7 ⟨tx,q7,rfl,ck,ad,cK,aG⟩;have F:=ab (a3.out.fP aG ad);clear ad aG a3;have r7:=((F.out.ot.deep (acn F.out.ft) 0).sl (fa _));replace r7:=ab r7;go_wp2;refine(adF t sp tx (by unfold maxLen;omega) (by unfold maxLen;omega) _ w7 0 w7.heap.size r7.out (am _) (by have:=F.out.ft.2.1;omega)).mono ?_;rintro e w8 ⟨v8,zs,put,rfl,o8,b7,b8⟩;have z7:=F.out.ch.size;have a2:=ab (F.out.fP (bV.bF (S:=λb=>b=g) b8) (F.out.rd.fP (bV.bF (S:=λ_=>False) b8) λ_ _ h=>h));have a4:=ab (And.intro (o8.base z7) b7);obtain⟨A8,c8,rfl⟩:=o8.form;clear F r7 o8 b7 b8;cases put
    case' false=>
     clear a4;have Z:=a2
    case' true=>have Z:=ab (a2.out.tree a4.out.1 a4.out.2)
    all_goals
     clear a2;go_wp2;refine(cF _ _ _ _ _ _ 3 (Z).out.rd (by omega)).mono ?_;rintro e c5 ⟨a8,rfl,⟨_,cd⟩,an,aK⟩;have Y:=ab ((Z).out.fP aK an);clear cd an aK Z;by_cases m0:a8=0
     .have t5:(a8 ==0)=true:=mt.2 m0;clear m0;go_wp2;refine(mr l g _ lo hi c5 Y.out.rd (by omega)).mono ?_;rintro e ba ⟨c7,cf,rfl,cy,bp,cw,ax⟩;have D:=ab (Y.out.fP ax bp);clear bp ax Y;have bi:=ab ((D.out.ot.deep (acn D.out.ft) 0).sl (fa _));go_wp2;refine(ajN _ c7 _ ba 0 ba.heap.size bi.out (am _) (by have:=D.out.ft.2.1;omega)).mono ?_;rintro e d4 ⟨cG,ys,rfl,a7,af,aa⟩;have ch:=D.out.ch.size;have c0:=ab ((D.out.fP (bV.bF (S:=λb=>b=g) aa) (D.out.rd.fP (bV.bF (S:=λ_=>False) aa) λ_ _ h=>h)).tree (a7.base ch) (D.out.ft.sub af));obtain⟨cO,cr,rfl⟩:=a7.form;clear D bi a7 af aa;go_wp2;go_roundw
      case rel=>exact⟨j-1,cf,_,_,_,_,_,by omega,by go_num,c0.out,by omega⟩
      simp[intOf];omega
     .have t5:(a8 ==0)=false:=du.2 m0;clear m0;go_wp2;go_roundw
      case rel=>exact⟨j-1,_,_,_,_,_,_,by omega,by go_num,Y.out,by omega⟩
      simp[intOf];omega
end
section
variable {β:Bool}
open Go.RowKit
def apX:List ByteArray:=[⟨#[122,122]⟩,⟨#[98,46]⟩,⟨#[97,98,99,46]⟩,⟨#[104,101,108,108,111,46,46,46]⟩,⟨#[]⟩]
structure aC7 (L:acj) (nc:Nat):Prop where
 k:0<=L.k/\L.k<=5
 n:0<=L.n/\L.n<=20
 nl:L.k=2\/L.k=4->L.n<=nc
 m:0<=L.m/\L.m<=3
 b:L.b∈apX
end
section
variable {β:Bool}
open Go.RowKit
structure SmS (s:dJ):Prop where
 pl:s.pk.length<=20
 pn:∀p∈s.pk,p.its.length<=4/\∀x∈p.its,x.b.size<=8
 sl:s.sn.length<=9
 sn:∀x∈s.sn,x.all.length<=6/\∀y∈x.all,y.p.size<=3/\y.ns.length<=40
 ll:s.lg.length<=9
def WfS.sm(h:WfS s):SmS s:=⟨h.pl,λp a=>(h.pn p a).2,by have:=h.sl;have:=h.ll;omega,λx b=>(h.sn x b).2,h.ll⟩
def SmS.axZ(h:SmS s):ae3 s<=10000:=by
 have e:dY bPk s.pk<=s.pk.length*(36+1):=iX λp b=>by
  have c:dY bIt p.its<=p.its.length*(8+1):=iX λx a=>(h.pn p b).2 x a;have:=(h.pn p b).1;show dY bIt p.its<=36;omega
 have f:dY bSn s.sn<=s.sn.length*(264+1):=iX λx a=>by
  have c:dY bLs x.all<=x.all.length*(43+1):=iX λy d=>by
   have:=(h.sn x a).2 y d;show y.p.size+y.ns.length<=43;omega
  have:=(h.sn x a).1;show dY bLs x.all<=264;omega
 have:=h.pl;have:=h.sl;have:=h.ll;unfold ae3;omega
end
section
variable {β:Bool}
open Go.RowKit
def abR(x:Int)(w:World)(b:Bool)(a:b=true↔1<=x/\x<=99):Calls (ai β) 19 #[.int .i64 x] w λe c=>e=.returned (.bool b)/\w=c:=by
 replace a:=ab a;by_cases h:1<=x
 .go_enter xz,ntmps19;go_wp2;go_ret;exact⟨av (by rw[qc,a.out];simp[h]),rfl⟩
 .go_enter xz,ntmps19;go_wp2;go_ret;exact⟨av (by rw[qc,a.out];simp[h];omega),rfl⟩
def ahb(s:ByteArray)(n:s.size<=maxLen)(w:World) :
  Calls (ai β) 172 #[.string s] w λe m=>e=.returned (.bool ((bs s).all oU))/\w=m:=by
 unfold maxLen at n;go_enter yj,ntmps172;go_wp2
 go_loop [6] (λi=>∃k:Nat,k<=s.size/\i=.int .i64 k/\((bs s).take k).all oU=true) (λi=>s.size-(intOf i).toNat)
 case atStart=>exact⟨0,fa _,rfl,rfl⟩
 case round=>
  obtain⟨k,p,rfl,f⟩:=hrel;replace f:=ab f;by_cases b:k<s.size
  .have c:=pG b;replace c:=ab c;by_cases q:(s[k]'b).toNat<97
   .have l:=de (show((s[k]'b).toNat:Int)<97 by omega);have a:(bs s).all oU=false:=by
     rw[uk];exact⟨_,aE c.out,by unfold oU;simp;omega⟩
    have d:=ab a;clear a;go_wp2;go_ret;exact⟨av d.out.symm,rfl⟩
   .have l:=da (show ¬(((s[k]'b).toNat:Int)<97) by omega);by_cases o:122<(s[k]'b).toNat
    .have j:=de (show 122<((s[k]'b).toNat:Int) by omega);have a:(bs s).all oU=false:=by
      rw[uk];exact⟨_,aE c.out,by unfold oU;simp;omega⟩
     have d:=ab a;clear a;go_wp2;go_ret;exact⟨av d.out.symm,rfl⟩
    .have j:=da (show ¬(122<((s[k]'b).toNat:Int)) by omega);have g:((bs s).take (k+1)).all oU=true:=by
      rw[mp c.out,tv,f.out];simp[oU];omega
     replace g:=ab g;go_wp2
     go_round
     case rel=>exact⟨k+1,by omega,by go_num,g.out⟩
     simp[intOf];omega
  .obtain rfl:k=s.size:=by omega
   have a:(bs s).all oU=true:=by
    have:=f.out
    rwa [qj (by rw[aM];exact am _)] at this
   have d:=ab a;clear a;go_wp2;go_ret;exact⟨av d.out.symm,rfl⟩
def aap(s:ByteArray)(j:s.size<=maxLen)(w:World)(b:Bool)(g:b=true↔aR (bs s)) :
  Calls (ai β) 147 #[.string s] w λe l=>e=.returned (.bool b)/\w=l:=by
 replace g:=ab g;have HS:=j;unfold maxLen at j;have a:b=(decide (1<=(s.size:Int))&&decide ((s.size:Int)<=8)&&(bs s).all oU):=by
  rw[qc,g.out];unfold aR;rw[aM];simp only[fk,qJ];exact⟨λ⟨⟨k,i⟩,f⟩=>⟨⟨by omega,by omega⟩,f⟩,λ⟨⟨k,i⟩,f⟩=>⟨⟨by omega,by omega⟩,f⟩⟩
 replace a:=ab a;by_cases k:1<=s.size
 .have c:=de (show 1<=(s.size:Int) by omega);by_cases i:s.size<=8
  .have d:=de (show(s.size:Int)<=8 by omega);go_enter wO,ntmps147;go_wp2;refine(ahb s HS w).mono ?_;rintro e m ⟨rfl,rfl⟩;go_wp2;go_ret;exact⟨av (by rw[a.out,c,d];simp),rfl⟩
  .have d:=da (show ¬((s.size:Int)<=8) by omega);go_enter wO,ntmps147;go_wp2;go_ret;exact⟨av (by rw[a.out,c,d];simp),rfl⟩
 .have c:=da (show ¬(1<=(s.size:Int)) by omega);go_enter wO,ntmps147;go_wp2;go_ret;exact⟨av (by rw[a.out,c];simp),rfl⟩
end
section
variable {β:Bool}
open Go.RowKit
def amn{s:ByteArray}(h:k<s.size):code ((bs s).take (k+1))=27*code ((bs s).take k)+((s[k]'h).toNat-97)+1:=agV (pG h)
def aj4{l:List Nat}(h:aR l)(k:Nat):code (l.take k)<282429536481:=by
 rcases nf k with a|a
 .subst a;simp[code,eu]
 .refine ab4 ⟨⟨?_, ?_⟩, ?_⟩
  .rw[ff];have:=h.1.1;omega
  .rw[ff];have:=h.1.2;omega
  .rw[lc];exact λx b=>lc.1 h.2 x (oS b)
def avj(key:Int)(s:ByteArray)(r:1<=key/\key<=99)(b:aR (bs s))(w:World) :
  Calls (ai β) 149 #[.int .i64 key,.string s] w λe q=>e=.returned (.tuple #[.int .i64 (bG key (bs s)),.nilIface])/\w=q:=by
 have u:1<=s.size/\s.size<=8:=by have:=b.1;rw[aM] at this;exact this
 have j:s.size<=maxLen:=by unfold maxLen;omega
 have n:=ab4 b;replace b:=ab b;replace j:=ab j;have l:bG key (bs s)=((code (bs s):Int)*(2*key+1)+7919*key) % 999999999989:=by unfold bG;rw[Int.mul_comm key 7919]
 have g:=ab l;clear l;go_enter yn,ntmps149;go_wp2;refine(abR key w true (by simp;exact r)).mono ?_;rintro e o ⟨rfl,rfl⟩;go_wp2;refine(aap s j.out w true (by simp only[sO];exact b.out)).mono ?_;rintro e o ⟨rfl,rfl⟩;go_wp2
 go_loop [6,20] (λc i=>∃k:Nat,k<=s.size/\i=.int .i64 k/\c=.int .i64 (code ((bs s).take k))) (λ_ i=>s.size-(intOf i).toNat)
 case atStart=>exact⟨0,fa _,rfl,rfl⟩
 case round=>
  obtain⟨k,p,rfl,rfl⟩:=hrel;by_cases a:k<s.size
  .have d:=amn a;have v:=aj4 b.out k;have t:=aj4 b.out (k+1);have A:97<=(s[k]'a).toNat/\(s[k]'a).toNat<=122:=by
    have:=lc.1 b.out.2 _ (aE (pG a));unfold oU at this;simpa using this
   replace d:=ab d;generalize f:code ((bs s).take k)=cd at *;replace f:=ab f;go_wp2
   go_round
   case rel=>exact⟨k+1,by omega,by go_num,by rw[d.out];congr 1;omega⟩
   simp[intOf];omega
  .obtain rfl:k=s.size:=by omega
   have m:(bs s).take s.size=bs s:=qj (by rw[aM];exact am _);rw[m];clear m;revert g;revert n;generalize code (bs s)=c;intro n g;have y:0<=(c:Int)*(2*key+1)/\(c:Int)*(2*key+1)<=282429536481*199:=by
    constructor
    .exact Int.mul_nonneg (by omega) (by omega)
    .exact Int.mul_le_mul (by omega) (by omega) (by omega) (by omega)
   have C:wrap64 (2*key)=2*key:=by unfold wrap64;omega
   have x:wrap64 (2*key+1)=2*key+1:=by unfold wrap64;omega
   have D:wrap64 ((c:Int)*(2*key+1))=(c:Int)*(2*key+1):=by unfold wrap64;omega
   have z:wrap64 (7919*key)=7919*key:=by unfold wrap64;omega
   have B:wrap64 ((c:Int)*(2*key+1)+7919*key)=(c:Int)*(2*key+1)+7919*key:=by unfold wrap64;omega
   have E:((c:Int)*(2*key+1)+7919*key).tmod 999999999989=((c:Int)*(2*key+1)+7919*key) % 999999999989:=uX (by omega);go_wp2;go_ret2;exact⟨by rw[g.out];rfl,rfl⟩
def asl(key:Int)(s:ByteArray)(nm:Int)(c:1<=key/\key<=99)(b:aR (bs s))(w:World) :
  Calls (ai β) 106 #[.int .i64 key,.string s,.int .i64 nm] w λe d=>e=.returned (.bool (decide (bG key (bs s)=nm)))/\w=d:=by
 replace b:=ab b;go_enter yJ,ntmps106;go_wp2;refine(avj key s c b.out w).mono ?_;rintro e f ⟨rfl,rfl⟩;obtain⟨y,a⟩:∃y,y=bG key (bs s):=⟨_,rfl⟩;rw[<-a];replace a:=ab a;by_cases h:y=nm
 .subst h;go_wp2;go_ret;exact⟨av (by rw[<-a.out];simp),rfl⟩
 .have g:(y ==nm)=false:=du.2 h;go_wp2;go_ret;exact⟨av (by rw[<-a.out];simp[h]),rfl⟩
end
section
variable {β:Bool}
open Go.RowKit
def apY(n:Nat)(m:1<=n/\n<=8)(w:World) :
  Calls (ai β) 190 #[.int .i64 n] w λe f=>e=.returned (.int .i64 (cu n))/\w=f:=by
 have i:((1<=n/\n<=2)/\cu n=2)\/((3<=n/\n<=4)/\cu n=4)\/((5<=n/\n<=8)/\cu n=8):=by
  unfold cu;split<;>(try split)<;>(try split)<;>omega
 obtain⟨a,b⟩:∃a,a=cu n:=⟨_,rfl⟩;rw[<-b] at i ⊢;replace b:=ab b;have l:=da (show ¬((n:Int)<1) by omega);have j:=da (show ¬(8<(n:Int)) by omega);go_enter yc,ntmps190;go_wp2
 go_loop [3] (λv=>∃k:Nat,v=.int .i64 k/\(k=2\/k=4\/k=8)/\k<=a) (λv=>8-(intOf v).toNat)
 case atStart=>exact⟨2,rfl,.inl rfl,by omega⟩
 case round=>
  obtain⟨k,rfl,o,g⟩:=hrel;by_cases d:k<n
  .have c:=de (show(k:Int)<(n:Int) by omega);go_wp2
   go_round
   case rel=>exact⟨k*2,by go_num,by omega,by omega⟩
   simp[intOf];omega
  .have c:=da (show ¬((k:Int)<(n:Int)) by omega);obtain rfl:k=a:=by omega
   go_wp2;go_ret;exact⟨rfl,rfl⟩
def amo(s:ByteArray)(r:s.size<=maxLen)(w:World) :
  Calls (ai β) 185 #[.string s,.int .u8 46] w λe q=>e=.returned (.string (s.extract 0 (di (bs s) s.size)))/\w=q:=by
 unfold maxLen at r;go_enter yd,ntmps185;go_wp2
 go_loop [0] (λv=>∃(t:ByteArray) (k:Nat),v=.string t/\k<=s.size/\t=s.extract 0 k/\di (bs s) s.size=di (bs s) k) (λv=>match v with|.string t=>t.size|_=>0)
 case atStart=>exact⟨s,s.size,rfl,am _,by rw[ByteArray.extract_zero_size],rfl⟩
 case round=>
  obtain⟨t,k,rfl,x,c,a⟩:=hrel;have u:t.size=k:=by rw[c,uH x]
  replace c:=ab c;replace a:=ab a;rcases nf k with n|n
  .have p:=da (show ¬(0<(t.size:Int)) by omega);go_wp2;go_ret;exact⟨by rw[a.out,c.out,n];rfl,rfl⟩
  .obtain⟨j,rfl⟩:∃j,k=j+1:=⟨k-1,by omega⟩;have p:=de (show 0<(t.size:Int) by omega);have z:((j+1:Nat):Int)-1=(j:Int):=by omega
   have f:j<t.size:=by omega
   have g:(bs s)[j]?=some (t[j]'f).toNat:=by
    rw[<-pG f,c.out,cI,rc,ta (by omega)]
   replace g:=ab g;by_cases b:(t[j]'f).toNat=46
   .have o:(((t[j]'f).toNat:Int) ==46)=true:=mt.2 (by omega);have l:di (bs s) s.size=di (bs s) j:=by
     rw[a.out];show(if(bs s)[j]?=some 46 then di (bs s) j else j+1)=_;rw[dj (by rw[g.out,b])]
    replace l:=ab l;clear b;have m:t.extract 0 j=s.extract 0 j:=by
     apply jm;rw[cI,cI,c.out,cI,rc,rc,rc,vP]
     congr 1;omega
    have y:(t.extract 0 j).size=j:=uH (by omega);replace m:=ab m;go_wp2
    go_round
    case rel=>exact⟨_,j,rfl,by omega,m.out,l.out⟩
    case measure=>
     show(t.extract 0 j).size<t.size;omega
   .have o:(((t[j]'f).toNat:Int) ==46)=false:=du.2 (by omega);have d:di (bs s) (j+1)=j+1:=by
     show(if(bs s)[j]?=some 46 then di (bs s) j else j+1)=_;rw[bv (by rw[g.out];intro h;exact b (ef h))]
    replace d:=ab d;clear b;go_wp2;go_ret;have i:t=s.extract 0 (di (bs s) s.size):=by rw[a.out,d.out];exact c.out
    exact⟨by rw[<-i];rfl,rfl⟩
def aj5(s:ByteArray)(b:s.size<=maxLen)(w:World) :
  Calls (ai β) 146 #[.string s,.string ⟨#[46]⟩] w λe c=>e=.returned (.string (s.extract 0 (di (bs s) s.size)))/\w=c:=by
 by_cases d:s.size=0
 .have a:s=ByteArray.empty:=jm (by
   have:(bs s).length=0:=by rw[aM];exact d
   rw[sd this];rfl)
  subst a;go_enter xg,ntmps146;go_wp2;go_ret;exact⟨rfl,rfl⟩
 .have g:s.toList.isEmpty=false:=by
   rw[vh];intro h;rw[List.isEmpty_iff,qT] at h;apply d;have:s.data=#[]:=uB.1 h;show s.data.size=0;rw[this];rfl
  have f:¬(128:Int)<=(((⟨#[46]⟩:ByteArray)[0]'Nat.zero_lt_one).toNat:Int):=by decide
  replace b:=ab b;go_enter xg,ntmps146;go_wp2_with(go_at_call 185;refine(amo s b.out w).mono ?_;rintro e c ⟨rfl,rfl⟩);go_ret;exact⟨rfl,rfl⟩
end
section
variable {β:Bool}
open Go.RowKit
def amp {P:Program} {a ty d t e:TypeId} {j:TypeInfo}  (l:P.underlying a=some (.pointer t)) (hi:P.info? t=some j) (m:j.bytes<18446744073709551616)
  (c:w.shape? b=some (e,V)) (g:liesAt P P.depth e (V / P.cellsOf e) 0 t 1=true) :
  (Builtin.unsafeSlice_ #[a,d] ty #[.pointer (some ⟨b,0,none⟩),.int .i64 1]).run P w=.ok (.slice (some ⟨b,0,none⟩) 1 1) w:=by
 have i:¬(18446744073709551616:Nat)<=j.bytes:=by omega
 unfold Builtin.unsafeSlice_;refine(qO P (asInt (.int .i64 1)) _ w).trans ?_;have f:(asInt (.int .i64 1)).run P w=.ok 1 w:=by simp[asInt,asIntOf]
 rw[f];refine(qO P (elemOf a) _ w).trans ?_;have k:(elemOf a).run P w=.ok t w:=by simp[elemOf,lw l]
 rw[k];simp only[Result.andThen];simp[variablesAt,c,g,typeInfo,hi,sizeOf,IntKind.max,IntKind.signed,IntKind.bits,i]
noncomputable def xCC:Func:=by
 apply(λ(x:Func) (_:{f198 with body:=some nI}=x)=>x)
 case x=>dsimp only[nI,pE,ah1,alE,iE,f198]
def aol:xCC.results=#[]:=results198
def amq:(ai β).funcs[198]?=some xCC:=acT β
@[go_sem] theorem aAV(args:Array Value)(w:World):(callFunc 198 args).run (ai β) w=.ok (.enter 198 args) w:=by
 have a:=cL func198;exact lu amq a rfl args w
def avk:((ai β).info? 227).map (λi=>(i.bytes,i.size))=some (32,2):=by kernel_rfl
def avl:liesAt (ai β) (ai β).depth 227 (2 / (ai β).cellsOf 227) 0 227 1=true:=by kernel_rfl
def aj6(a:w.shape? b=some (227,2)):(Builtin.unsafeSlice_ #[225,3] 0 #[.pointer (some ⟨b,0,none⟩),.int .i64 1]).run (ai β) w=.ok (.slice (some ⟨b,0,none⟩) 1 1) w:=by
 obtain⟨j,d,c⟩:=iS.1 (avk (β:=β));simp only[uU] at c;exact amp xE d (by omega) a avl
def aj7(b:Nat)(w:World)(g:w.cell? ⟨b,0,none⟩=some (.pointer none))(a:w.shape? b=some (227,2))(d:w.frozen? ⟨b,0,none⟩=false) :
  Calls (ai β) 198 #[.pointer (some ⟨b,0,none⟩)] w λe c=>e=.returned (.tuple #[])/\c=w.setCell ⟨b,0,none⟩ (.pointer (some ⟨b,0,none⟩)):=by
 have i:=aj6 (β:=β) a;have f:xCC.ntmps=20:=ntmps198;go_enter amq,f;go_wp2;refine oR (results_none aol _ _ _) rfl ?_;exact⟨rfl,rfl⟩
def ayH(B b:Nat)(bs:List Value)(w:World)(h:Lib.IsBuilderF 227 5 B b bs w) :
  Calls (ai β) 198 #[.pointer (some ⟨b,0,none⟩)] w λe a=>e=.returned (.tuple #[])/\(Lib.BuilderAtF 227 5 B b (.pointer (some ⟨b,0,none⟩)) bs a/\Below B w a):=by
 rcases h with h|h
 .refine(aj7 b w h.cell0 h.shape h.frozen0).mono ?_;rintro e a ⟨rfl,rfl⟩;exact⟨rfl,h.used _,(fm B w).setCell (p:=⟨b,0,none⟩) h.1 _⟩
 .have j:=aj6 (β:=β) h.shape;have g:xCC.ntmps=20:=ntmps198;have i:=h.cell0;have k:=h.frozen0;have c:=h.used (.pointer none);have f:=c.cell0;have d:=c.frozen0;go_enter amq,g;go_wp2;refine oR (results_none aol _ _ _) rfl ?_;refine⟨rfl,c.used _,((fm B w).setCell (p:=⟨b,0,none⟩) h.1 _).setCell (p:=⟨b,0,none⟩) h.1 _⟩
def amr(B b:Nat)(bs:List Value)(w:World)(h:Lib.IsBuilderF 227 5 B b bs w) :
  Calls (ai β) 208 #[.pointer (some ⟨b,0,none⟩)] w λe j=>e=.returned (.int .i64 bs.length)/\j=w:=by
 obtain⟨p,n,v,k,a,i⟩:∃p,Lib.BuilderAtF 227 5 B b p bs w:=by
  rcases h with h|h
  .exact⟨_,h⟩
  .exact⟨_,h⟩
 obtain⟨c,cap,rfl⟩:∃c cap,v=.slice c bs.length cap:=by
  rcases a.2 with⟨d,l⟩|⟨g,cap,f,m,d,_⟩
  .exact⟨none,0,by rw[d,l]⟩
  .exact⟨_,_,d⟩
 have o:w.cell? ⟨b,1,none⟩=some (.slice c bs.length cap):=by rw[qW k];rfl
 go_enter xW,ntmps208;go_wp2;go_ret;exact⟨rfl,rfl⟩
def avm:((ai β).info? 5).map (λi=>(i.zero,i.size,i.bytes))=some (some (.int .u8 0),1,1):=by kernel_rfl
def pO(B b:Nat)(bs:List Value)(s:ByteArray)(w:World)(h:Lib.IsBuilderF 227 5 B b bs w)(C:bs.length+s.size<=140737488355328)(J:B<=w.heap.size) :
  Calls (ai β) 170 #[.pointer (some ⟨b,0,none⟩),.string s] w λe z=>e=.returned (.tuple #[.int .i64 s.size,.nilIface])/\(Lib.BuilderAtF 227 5 B b (.pointer (some ⟨b,0,none⟩)) (bs++Lib.strCells s) z/\Below B w z):=by
 obtain⟨I,K,q,t,u⟩:=info_parts (avm (β:=β));go_enter yk,ntmps170;go_wp2_with(go_at_call 198;refine(ayH B b bs _ h).mono ?_);rintro e j ⟨rfl,G,i⟩;obtain⟨D,v,l,f,o⟩:=G;have Q:j.cell? ⟨b,0,none⟩=some (.pointer (some ⟨b,0,none⟩)):=by rw[qW l];rfl
 have O:j.cell? ⟨b,1,none⟩=some v:=by rw[qW l];rfl
 go_wp2_with(at_builtin;refine Lib.wpList_append_own_stringF _ rfl _ _ 22 9 rfl B 5 I wI qU9 K q t u _ _ _ rfl f s rfl ?c3 ?c4 ?c5 ?_)
 case c3=>unfold maxLen;omega
 case c4=>omega
 case c5=>have:=i.size;omega
 intro E m a c _;have n:b<j.heap.size:=by
  rcases pm b j.heap.size with r|r
  .exact r
  .simp[qg r] at l
 have d:m.heap[b]?=some (.cells #[.pointer (some ⟨b,0,none⟩),v] 227 (0,0)):=by
  rw[c.block b n (λe=>o e.symm)];exact l
 have P:m.cell? ⟨b,0,none⟩=some (.pointer (some ⟨b,0,none⟩)):=by rw[qW d];rfl
 have N:m.cell? ⟨b,1,none⟩=some v:=by rw[qW d];rfl
 have M:m.frozen? ⟨b,1,none⟩=false:=uS d 1;obtain⟨A,y,cap,rfl⟩:∃A y cap,E=.slice A y cap:=by
  rcases a.2 with⟨x,_⟩|⟨g,cap,H,L,x,_⟩
  .exact⟨_,_,_,x⟩
  .exact⟨_,_,_,x⟩
 go_wp2;go_ret2;refine⟨rfl, ?_, ?_⟩
 .exact Lib.BuilderAtF.put (T:=227) (e:=5) D d (bs':=bs++Lib.strCells s) (by simpa[Lib.strCells_length] using a) (by decide)
 .exact(i.grown c (by have:=i.size;omega) (λk F=>(f.lt k F).1)).setCell (p:=⟨b,1,none⟩) D _
end
section
variable {β:Bool}
open Go.RowKit
def aer:((ai β)).follows .mixedOrders=true:=by kernel_rfl
def avn(B b n:Nat)(w:World)(r:B<=b)(d:w.heap[b]?=some (.cells #[.pointer (some ⟨b,0,none⟩),.slice none 0 0] 227 (0,0)))(g:B<=w.heap.size)(p:n<=281474976710656) :
  Calls (ai β) 199 #[.pointer (some ⟨b,0,none⟩),.int .i64 n] w λe m=>e=.returned (.tuple #[])/\(Lib.BuilderAt 227 5 B b (.pointer (some ⟨b,0,none⟩)) [] m/\Below B w m):=by
 obtain⟨cs,f,q,j⟩:=Lib.run_makeNoZero (P:=(ai β)) w.drew #[3] 22 5 wI n p;have l:IntKind.i64.wrap (IntKind.i64.wrap 0+(n:Int))=n:=by
  rw[tc,tc];omega
 have t:(callFunc 210 #[.int .i64 (IntKind.i64.wrap (IntKind.i64.wrap 0+(n:Int)))]).run (ai β) w.drew=.ok (.value (.slice (some ⟨w.drew.heap.size,0,none⟩) n cs.size)) (w.drew.drew.drew.alloc (.cells cs 5)):=by
  rw[l,run_callFunc_extern xV (by kernel_rfl) (by kernel_rfl) (by kernel_rfl) (e:=Extern.BytealgMakeNoZero.makeNoZero #[3] #[22]) (by kernel_rfl),f];rfl
 have v:w.drew.cell? ⟨b,1,none⟩=some (.slice none 0 0):=by
  have:w.drew.heap[b]?=_:=d;rw[qW this];rfl
 have s:(w.alloc (.cells cs 5)).cell? ⟨b,1,none⟩=some (.slice none 0 0):=by
  have a:b<w.heap.size:=by
   rcases pm b w.heap.size with c|c
   .exact c
   .simp[qg c] at d
  have:(w.alloc (.cells cs 5)).heap[b]?=_:=(Lib.alloc_old w _ b a).trans d;rw[qW this];rfl
 have u:(w.alloc (.cells cs 5)).frozen? ⟨b,1,none⟩=false:=by
  have a:b<w.heap.size:=by
   rcases pm b w.heap.size with c|c
   .exact c
   .simp[qg c] at d
  exact uS ((Lib.alloc_old w _ b a).trans d) 1
 have o:∀W:World,(Builtin.copy_ #[22,22] 3 #[.slice (some ⟨w.heap.size,0,none⟩) 0 cs.size,.slice none 0 0]).run (ai β) W=.ok (goInt 0) W:=
  λW=>run_copy_none W 22 22 3 5 _ _ 0 cs.size 0 0 wI (by kernel_rfl) rfl
 clear l;have k:=aer (β:=β);go_enter ya,ntmps199;go_wp2;have i:=Lib.grown_fresh (T:=227) (e:=5) (cs:=cs) r d g (j (by unfold maxLen;omega)) (by decide)
 go_region_o
 all_goals(go_wp2;go_end0;exact⟨rfl,i⟩)
def aom(B b n:Nat)(w:World)(j:B<=b)(f:w.heap[b]?=some (.cells #[.pointer none,.slice none 0 0] 227 (0,0)))(g:B<=w.heap.size)(m:n<=281474976710656) :
  Calls (ai β) 169 #[.pointer (some ⟨b,0,none⟩),.int .i64 n] w λe d=>e=.returned (.tuple #[])/\(Lib.BuilderAt 227 5 B b (.pointer (some ⟨b,0,none⟩)) [] d/\Below B w d):=by
 have a:(w.setCell ⟨b,0,none⟩ (.pointer (some ⟨b,0,none⟩))).heap[b]?=some (.cells #[.pointer (some ⟨b,0,none⟩),.slice none 0 0] 227 (0,0)):=by
  simp[World.setCell,pe,f]
 have r:(w.setCell ⟨b,0,none⟩ (.pointer (some ⟨b,0,none⟩))).cell? ⟨b,1,none⟩=some (.slice none 0 0):=by rw[qW a];rfl
 have c:Below B w (w.setCell ⟨b,0,none⟩ (.pointer (some ⟨b,0,none⟩))):=(fm B w).setCell (p:=⟨b,0,none⟩) j _;have i:=aer (β:=β);go_enter yl,ntmps169;have q:Lib.BuilderAt 227 5 B b (.pointer (some ⟨b,0,none⟩)) [] (w.setCell ⟨b,0,none⟩ (.pointer (some ⟨b,0,none⟩))):=⟨j,.slice none 0 0,a,vd _ _ _ _,by simp[Value.ownBlock]⟩;have l:(w.setCell ⟨b,0,none⟩ (.pointer (some ⟨b,0,none⟩))).drew.cell? ⟨b,1,none⟩=some (.slice none 0 0):=r;go_wp2_with(go_at_call 198;refine(aj7 b w (by rw[qW f];rfl) (by simp[World.shape?,f]) (uS f 0)).mono ?_;rintro e d ⟨rfl,rfl⟩)
 go_region_o
 all_goals go_wp2_with(go_at_call 199;refine(avn B b n (w.setCell ⟨b,0,none⟩ (.pointer (some ⟨b,0,none⟩))).drew j a (by simpa[World.setCell,World.drew, -World.drew_eq] using g) m).mono ?_;rintro e d ⟨rfl,o,k⟩)
 all_goals first
  |(go_end0;exact⟨rfl,o,c.drew.trans k⟩)
  |(go_end0;exact⟨rfl,q.drew,c.drew⟩)
end
section
variable {β:Bool}
open Go.RowKit
def avo:Code->Code
 |.seq a b=>.seq (avo a) (avo b)
 |.region i ⟨ops⟩ d=>.region i (ops.map λo=>{o with type:=match o.op with|.call ⟨.builtin .unsafeSliceData,_,_⟩=>3|_=>o.type}).toArray d
 |.ret=>.ret
 |_=>.skip
noncomputable def xSt:Func:=by
 apply(λ(x:Func) (_:{f171 with body:=f171.body.map avo}=x)=>x)
 case x=>dsimp only[avo,f171,Option.map,List.map]
def asm:f171.body.map gP=xSt.body:=by unfold gP;kernel_rfl
def asn:(ai β).funcs[171]?=some xSt:=by
 refine(alF β (by decide) (by decide)).trans ?_;have e:Option.map pf (prog.funcs[171]?)=Option.map pf (some f171):=gn _ func171;rw[e,qe];unfold pf;rw[asm];rfl
@[go_sem] theorem aAW(args:Array Value)(w:World):(callFunc 171 args).run (ai β) w=.ok (.enter 171 args) w:=by
 have a:=cL func171;exact lu asn a rfl args w
def ac9(B b:Nat)(l:List UInt8)(w:World)(h:Lib.IsBuilderF 227 5 B b (Lib.byteCells l) w)(y:l≠[]) :
  Calls (ai β) 171 #[.pointer (some ⟨b,0,none⟩)] w λe t=>e=.returned (.string ⟨l.toArray⟩)/\(Lib.IsBuilderF 227 5 B b (Lib.byteCells l) t/\Below B w t):=by
 obtain⟨p,F,s⟩:∃p,(p=.pointer none\/p=.pointer (some ⟨b,0,none⟩))/\Lib.BuilderAtF 227 5 B b p (Lib.byteCells l) w:=by
  rcases h with h|h
  .exact⟨_,.inl rfl,h⟩
  .exact⟨_,.inr rfl,h⟩
 obtain⟨O,v,u,c,f⟩:=s;have i:l.length≠0:=by simpa using y
 rw[rK] at c;obtain⟨g,cap,a,d,rfl,q,A,P,H,k,J,Q⟩:∃g cap a d,v=.slice (some ⟨g,0,none⟩) l.length cap/\B<=g/\w.heap[g]?=some (.cells a 5 d)/\d.2<=l.length*1/\l.length<=cap/\cap<=maxLen/\a.size=cap*1/\a.toList.take (l.length*1)=Lib.byteCells l:=by
  rcases c.2 with⟨_,G⟩|⟨g,cap,a,d,N,r⟩
  .exact absurd G i
  .exact⟨g,cap,a,d,N,r⟩
 have D:w.drew.cell? ⟨b,1,none⟩=some (.slice (some ⟨g,0,none⟩) l.length cap):=by
  have:w.drew.heap[b]?=some (.cells #[p,.slice (some ⟨g,0,none⟩) l.length cap] 227 (0,0)):=u;rw[qW this];rfl
 have E:(Builtin.unsafeSliceData_ #[22] 3 #[.slice (some ⟨g,0,none⟩) l.length cap]).run (ai β) w.drew=.ok (.pointer (some ⟨g,0,none⟩)) w.drew:=
  Lib.run_unsafeSliceData_row _ _ _ _ _ _ (by omega)
 have z:(Builtin.unsafeString_ #[257,3] 9 #[.pointer (some ⟨g,0,none⟩),.int .i64 l.length]).run (ai β) w.drew=.ok (.string ⟨l.toArray⟩) (w.drew.freeze ⟨g,0,none⟩ l.length):=by
  refine Lib.run_unsafeString_row w.drew 257 3 9 5 xC (by kernel_rfl) g a.size (by have M:w.drew.heap[g]?=some (.cells a 5 d):=A;simp[World.shape?,M]) l y (by omega) (by unfold maxLen at k;omega) ?_;intro j x K;have:=c.cells (g:=g) rfl j (.int .u8 x.toNat) (by simp[Lib.byteCells,K]);exact this
 have o:Lib.IsBuilderF 227 5 B b (Lib.byteCells l) (w.drew.freeze ⟨g,0,none⟩ l.length):=by
  have C:Lib.BuilderAtF 227 5 B b p (Lib.byteCells l) w.drew:=⟨O,_,u,by rw[rK];exact c,f⟩;have n:=C.froze (g:=g) (cap:=cap) (by rw[rK];exact D);rw[rK] at n;rcases F with rfl|rfl
  .exact .inl n
  .exact .inr n
 have m:=aer (β:=β);have L:xSt.ntmps=14:=ntmps171;have I:xSt.results=#[.tmp 2]:=results171;go_enter asn,L;go_wp2
 go_region_o
 all_goals(go_wp2;refine oR (results_tmp I _ _ _) rfl ?_;exact⟨rfl,o,Lib.below_freeze (Below.drew (fm B w)) (p:=⟨g,0,none⟩) q _⟩)
end
section
variable {β:Bool}
open Go.RowKit
def avp(n:Nat)(c:n<=8)(w:World):Calls (ai β) 218 #[.int .u64 1,.int .u64 n] w λe a=>e=.returned (.tuple #[.int .u64 0,.int .u64 n])/\w=a:=by
 have b:n=0\/n=1\/n=2\/n=3\/n=4\/n=5\/n=6\/n=7\/n=8:=by omega
 clear c;rcases b with rfl|rfl|rfl|rfl|rfl|rfl|rfl|rfl|rfl
 all_goals
  go_enter xS,ntmps218;go_wp2;go_ret2;exact⟨rfl,rfl⟩
def aAX(n:Nat)(b:n<=8)(w:World):Calls (ai β) 207 #[.int .u64 1,.int .u64 n] w λe a=>e=.returned (.tuple #[.int .u64 0,.int .u64 n])/\w=a:=by
 go_enter xX,ntmps207;go_wp2;refine(avp n b w).mono ?_;rintro e c ⟨rfl,rfl⟩;go_wp2;go_ret2;exact⟨rfl,rfl⟩
def ams(b:Nat)(w:World):Nat:=match w.cell? ⟨b,1,none⟩ with|some (.slice _ l _)=>l|_=>0
def ahc{T e:TypeId}{l:List UInt8}(h:Lib.IsBuilderF T e B b (Lib.byteCells l) w):ams b w=l.length:=by
 replace h:∃p,Lib.BuilderAtF T e B b p (Lib.byteCells l) w:=by
  rcases h with h|h
  .exact⟨_,h⟩
  .exact⟨_,h⟩
 obtain⟨p,h⟩:=h;obtain⟨n,v,i,a,f⟩:=h;have k:w.cell? ⟨b,1,none⟩=some v:=by rw[qW i];rfl
 unfold ams;rw[k];rw[rK] at a;rcases a.2 with⟨c,j⟩|⟨g,cap,d,m,c,_⟩
 .rw[c,j]
 .rw[c]
def kR(q:Nat):List UInt8:=List.replicate q 46
def aso(n:Nat)(Q:n=2\/n=3)(w:World):Calls (ai β) 189 #[.string ⟨#[46]⟩,.int .i64 n] w λe G=>e=.returned (.string ⟨(kR n).toArray⟩)/\Below w.heap.size w G:=by
 have B:((n:Int) ==0)=false:=du.2 (by omega);have z:((n:Int) ==1)=false:=du.2 (by omega);go_enter wK,ntmps189;go_wp2;refine(aAX n (by omega) w).mono ?_;rintro e O ⟨rfl,rfl⟩;go_wp2;generalize r:w.alloc (.cells #[.pointer none,.slice none 0 0] 227)=w0;have A:w0.heap[w.heap.size]?=some (.cells #[.pointer none,.slice none 0 0] 227 (0,0)):=by
  rw[<-r];show(w.heap.push _)[w.heap.size]?=_;rw[qS]
 have o:Below w.heap.size w w0:=by rw[<-r];exact(fm _ w).alloc (am _) _
 refine(aom w.heap.size w.heap.size n w0 (am _) A o.size (by omega)).mono ?_;rintro e M ⟨rfl,a,d⟩;replace d:=o.trans d;clear o A r;go_wp2;refine(pO w.heap.size w.heap.size [] ⟨#[46]⟩ M (.inr (.of a)) (by decide) d.size).mono ?_;rintro e P ⟨rfl,m,k⟩;replace k:=d.trans k;clear d a;have C:([]:List Value)++Lib.strCells ⟨#[46]⟩=Lib.byteCells (kR 1):=rfl;rw[C] at m;clear C;go_wp2;go_loopw [10] (λ_ wr=>∃q:Nat,1<=q/\q<=n/\Lib.IsBuilderF 227 5 w.heap.size w.heap.size (Lib.byteCells (kR q)) wr/\Below w.heap.size w wr) (λ_ wr=>n-ams w.heap.size wr)
 case atStart=>exact⟨1,am _,by omega,.inr m,k⟩
 case round=>
  clear m k;obtain⟨q,F,L,a,i⟩:=hrel;have s:=ahc a;have b:(Lib.byteCells (kR q)).length=q:=by rw[rK];exact qv ..
  have f:(kR q).length=q:=qv ..;have g:kR q≠[]:=by intro h;rw[h] at f;simp at f;omega
  go_wp2;refine(amr w.heap.size w.heap.size (Lib.byteCells (kR q)) wr a).mono ?_;rintro e y ⟨rfl,rfl⟩;rw[b];by_cases E:q<n
  .have u:=de (show(q:Int)<(n:Int) by omega);go_wp2;refine(amr w.heap.size w.heap.size (Lib.byteCells (kR q)) y a).mono ?_;rintro e D ⟨rfl,rfl⟩;rw[b];go_wp2;refine(amr w.heap.size w.heap.size (Lib.byteCells (kR q)) D a).mono ?_;rintro e H ⟨rfl,rfl⟩;rw[b];have c:(n=2/\q=1)\/(n=3/\q=1)\/(n=3/\q=2):=by omega
   have v:∀W:World,(Builtin.min_ #[3,3,3] 3 #[.int .i64 ((n:Int)-(q:Int)),.int .i64 q,.int .i64 n]).run (ai β) W=.ok (.int .i64 1) W:=λW=>by
    clear a i b f g s u B z;rcases c with⟨rfl,rfl⟩|⟨rfl,rfl⟩|⟨rfl,rfl⟩<;>simp[Builtin.min_,Builtin.min2]
   have R:(⟨(kR q).toArray⟩:ByteArray).extract 0 1=⟨#[46]⟩:=by
    clear v a i b f g s u B z;rcases c with⟨rfl,rfl⟩|⟨rfl,rfl⟩|⟨rfl,rfl⟩<;>rfl
   have J:(⟨(kR q).toArray⟩:ByteArray).size=q:=by show(kR q).toArray.size=q;rw[uj];exact f
   replace c:=ab c;go_wp2;refine(ac9 w.heap.size w.heap.size (kR q) H a g).mono ?_;rintro e I ⟨rfl,t,j⟩;replace j:=i.trans j;go_wp2;refine(pO w.heap.size w.heap.size (Lib.byteCells (kR q)) ⟨#[46]⟩ I t (by rw[b];have:=c.out;show q+1<=_;omega) j.size).mono ?_;rintro e S ⟨rfl,l,p⟩;replace p:=j.trans p;have K:Lib.byteCells (kR q)++Lib.strCells ⟨#[46]⟩=Lib.byteCells (kR (q+1)):=by
    have:kR (q+1)=kR q++[46]:=vX;rw[this];simp[Lib.byteCells,Lib.strCells]
   rw[K] at l;have T:=ahc (.inr l);have N:(kR (q+1)).length=q+1:=qv ..;go_wp2;go_roundw
   case rel=>exact⟨q+1,by omega,by omega,.inr l,p⟩
   omega
  .obtain rfl:q=n:=by omega
   have u:=da (show ¬((q:Int)<(q:Int)) by omega);go_wp2;refine(ac9 w.heap.size w.heap.size (kR q) y a g).mono ?_;rintro e D ⟨rfl, -,x⟩;go_wp2;go_ret;exact⟨rfl,i.trans x⟩
end
section
variable {β:Bool}
open Go.RowKit
def amu(n:Nat)(d:n<=3)(w:World):Calls (ai β) 189 #[.string ⟨#[46]⟩,.int .i64 n] w λe c=>e=.returned (.string ⟨(kR n).toArray⟩)/\Below w.heap.size w c:=by
 by_cases b:n=0
 .subst b;go_enter wK,ntmps189;go_wp2;go_ret;exact⟨rfl,fm _ _⟩
 .by_cases a:n=1
  .subst a;go_enter wK,ntmps189;go_wp2;go_ret;exact⟨rfl,fm _ _⟩
  .exact aso n (by omega) w
def avq(n:Nat):bs ⟨(kR n).toArray⟩=List.replicate n 46:=by
 unfold bs kR;simp[List.map_replicate]
def avr(s:ByteArray)(a:aR (bs s))(w:World) :
  Calls (ai β) 148 #[.string s] w λe i=>∃t:ByteArray,e=.returned (.string t)/\bs t=fE (bs s)/\Below w.heap.size w i:=by
 have c:1<=s.size/\s.size<=8:=by have:=a.1;rw[aM] at this;exact this
 have b:s.size<=maxLen:=by unfold maxLen;omega
 have f:s.size<=cu s.size/\cu s.size-s.size<=3:=by
  unfold cu;split<;>(try split)<;>(try split)<;>omega
 replace a:=ab a;replace b:=ab b;go_enter yo,ntmps148;go_wp2;refine(aap s b.out w true (by simp only[sO];exact a.out)).mono ?_;rintro e d ⟨rfl,rfl⟩;go_wp2;refine(apY s.size c w).mono ?_;rintro e d ⟨rfl,rfl⟩;have g:((cu s.size:Nat):Int)-(s.size:Int)=((cu s.size-s.size:Nat):Int):=by omega
 go_wp2;try rw[g]
 refine(amu (cu s.size-s.size) f.2 w).mono ?_;rintro e d ⟨rfl,j⟩;have hd:(kR (cu s.size-s.size)).length=cu s.size-s.size:=qv ..;go_wp2;go_ret;refine⟨_,rfl, ?_,j⟩;rw[gG,avq];unfold fE;rw[aM]
def agq(s:ByteArray):ByteArray:=s.extract 0 (di (bs s) s.size)
def aco(s:ByteArray):bs (agq s)=tl (bs s):=by
 unfold agq tl;rw[cI,rc,aM]
open Classical in
noncomputable def eD(s:ByteArray):ByteArray×Bool:=if aR (bs (agq s))/\fE (bs (agq s))=bs s then(agq s,true) else(⟨#[]⟩,false)
def apZ(s:ByteArray)(k:s.size<=maxLen)(w:World) :
  Calls (ai β) 105 #[.string s] w λe o=>e=.returned (.tuple #[.string (eD s).1,.bool (eD s).2])/\Below w.heap.size w o:=by
 have a:(agq s).size<=maxLen:=by
  unfold agq;rw[uH (acZ _ _)];exact db (acZ _ _) k
 replace k:=ab k;replace a:=ab a;have g:s.extract 0 (di (bs s) s.size)=agq s:=rfl;replace g:=ab g;go_enter yK,ntmps105;go_wp2;refine(aj5 s k.out w).mono ?_;rintro e l ⟨rfl,rfl⟩;rw[g.out];obtain⟨p,d⟩:∃p,p=agq s:=⟨_,rfl⟩;have b:eD s=eD s:=rfl;by_cases c:aR (bs (agq s))
 .replace c:=ab c;rw[<-d] at a c ⊢;replace d:=ab d;clear b;go_wp2;refine(aap p a.out w true (by simp only[sO];exact c.out)).mono ?_;rintro e l ⟨rfl,rfl⟩;go_wp2;refine(avr p c.out w).mono ?_;rintro e l ⟨t,rfl,j,n⟩;by_cases f:t=s
  .subst f;replace j:=ab j;go_wp2;go_ret2;have i:eD t=(p,true):=by
    unfold eD;rw[<-d.out,dj ⟨c.out,j.out.symm⟩]
   rw[i];exact⟨rfl,n⟩
  .have q:=aa7 f;have i:eD s=(⟨#[]⟩,false):=by
    unfold eD;rw[<-d.out,bv λh=>f (jm (j.trans h.2))]
   have m:=ab i;clear i j;go_wp2;go_ret2;rw[m.out];exact⟨rfl,n⟩
 .have i:eD s=(⟨#[]⟩,false):=by
   unfold eD;rw[bv λh=>c h.1]
  have m:=ab i;clear i;replace c:=ab c;rw[<-d] at a c ⊢;clear d b;go_wp2;refine(aap p a.out w false (by simp only[jp,uC];exact c.out)).mono ?_;rintro e l ⟨rfl,rfl⟩;go_wp2;go_ret2;rw[m.out];exact⟨rfl,fm _ _⟩
end
section
variable {β:Bool}
open Go.RowKit
open Classical in
noncomputable def dR(key:Int)(x:Int×ByteArray):ByteArray×Bool:=if(eD x.2).2=true/\bG key (bs (eD x.2).1)=x.1 then((eD x.2).1,true) else(⟨#[]⟩,false)
def ahd{s:ByteArray}(h:(eD s).2=true):aR (bs (eD s).1):=by
 unfold eD at h ⊢;split
 .rename_i a;exact a.1
 .rename_i a;rw[bv a] at h;cases h
def aon(key:Int)(x:Int×ByteArray)(y:1<=key/\key<=99)(i:x.2.size<=maxLen)(w:World) :
  Calls (ai β) 66 #[.agg #[.int .i64 x.1,.string x.2],.int .i64 key] w λe q=>e=.returned (.tuple #[.string (dR key x).1,.bool (dR key x).2])/\Below w.heap.size w q:=by
 obtain⟨n,s⟩:=x;dsimp only at i ⊢;replace i:=ab i;go_enter zn,ntmps66;go_wp2;generalize l:w.alloc (.cells #[.int .i64 n,.string s] 64)=w0 at *;obtain⟨u,A,j,t,v⟩:=gU l;clear l;refine(apZ s i.out w0).mono ?_;rintro e m ⟨rfl,d⟩;replace j:=ar j d;replace t:=j.cell;replace v:=j.frozen;replace d:=ae u d;cases b:eD s with
 |mk p o=>
  cases o with
  |false=>
   have f:dR key (n,s)=(⟨#[]⟩,false):=by
    unfold dR;rw[bv];intro h;have:=h.1;rw[show(eD (n,s).2).2=false by rw[show eD (n,s).2=_ from b]] at this;cases this
   have HC:=ab f;clear f;replace b:=ab b;go_wp2;go_ret2;rw[HC.out];exact⟨rfl,d⟩
  |true=>
   have k:aR (bs p):=by
    have:=ahd (s:=s) (by rw[b]);rw[b] at this;exact this
   have f:dR key (n,s)=if bG key (bs p)=n then(p,true) else(⟨#[]⟩,false):=by
    unfold dR;rw[show eD (n,s).2=(p,true) from b];by_cases h:bG key (bs p)=n
    .rw[dj ⟨rfl,h⟩,dj h]
    .rw[bv λr=>h r.2,bv h]
   have HC:=ab f;clear f;replace b:=ab b;replace k:=ab k;go_wp2;refine(asl key p n y k.out m).mono ?_;rintro e z ⟨rfl,rfl⟩;by_cases h:bG key (bs p)=n
   .have a:=HC.out;rw[dj h] at a;have c:=ab a;clear a HC;have g:decide (bG key (bs p)=n)=true:=de h;rw[g];clear h g;go_wp2;go_ret2;rw[c.out];exact⟨rfl,d⟩
   .have a:=HC.out;rw[bv h] at a;have c:=ab a;clear a HC;have g:decide (bG key (bs p)=n)=false:=da h;rw[g];clear h g;go_wp2;go_ret2;rw[c.out];exact⟨rfl,d⟩
end
section
def opJ(J:Nat->Bool):Operand->Bool
 |.tmp t=>!J t
 |_=>true
def jT:Op->Bool
 |.move _|.assign _|.load .. | .binOp .. | .unOp .. | .alloc _|.store .. | .fieldAddr .. | .indexAddr .. | .buildSlice .. =>true
 |.call c=>match c.callee with
  |.builtin .len|.builtin .append=>true
  |_=>false
 |_=>false
def aoo(J:Nat->Bool)(o:Oper):Bool:=o.guard.isNone&&(jT o.op&&o.op.operands.toList.all (opJ J))
def kH(J:Nat->Bool):Code->Bool
 |.skip|.ret|.exit _=>true
 |.region _ d draw=>!draw&&d.toList.all (aoo J)
 |.seq a b=>kH J a&&kH J b
 |.cond c a b=>opJ J c&&(kH J a&&kH J b)
 |.block _ a|.loop a=>kH J a
 |_=>false
def mv(J:Nat->Bool):Item->Bool
 |.code c|.inLoop c=>kH J c
 |.inBlock _=>true
 |.inRegion a _=>a.toList.all (aoo J)
 |_=>false
structure JR (J:Nat->Bool) (fr cG:Frame):Prop where
 fn:cG.fn=fr.fn
 todo:cG.todo=fr.todo
 defers:fr.defers=[]/\cG.defers=[]
 mode:cG.mode=fr.mode
 kind:fr.kind=.normal/\cG.kind=.normal
 round:fr.roundOf=none/\cG.roundOf=none
 size:cG.tmps.size=fr.tmps.size
 agree:∀i,J i=false->cG.tmps[i]?=fr.tmps[i]?
 items:fr.todo.all (mv J)=true
section
variable {P:Program} {J:Nat->Bool} {fr cG:Frame}
def JR.eval(h:JR J fr cG){x:Operand}(a:opJ J x=true):cG.eval x=fr.eval x:=by
 cases x with
 |tmp t=>
  have:=h.agree t (by simpa[opJ] using a);show cG.tmps.getD t undef=fr.tmps.getD t undef;rw[ip,ip,this]
 |_=>rfl
def amv{e e':Operand->Value}{o:Oper}(j:jT o.op=true)(h:∀x∈o.op.operands.toList,e x=e' x):execOp e o=execOp e' o:=by
 obtain⟨dst,op,m,q,after,l⟩:=o;dsimp only at j h;have parts:∀(g:Array (Nat×Operand)),(∀x∈(g.toList.map (·.2)),e x=e' x)->(g.map λ(i,x)=>(i,e x))=g.map λ(i,x)=>(i,e' x):=λg p=>by
  apply we;rintro⟨i,x⟩ k;have:=p x (mc.2 ⟨(i,x),by simpa using k,rfl⟩);simp only[this]
 cases op with
 |move x=>simp only[execOp];rw[h x (by simp[Op.operands])]
 |assign x=>simp only[execOp];rw[h x (by simp[Op.operands])]
 |load t a=>simp only[execOp];rw[h a (by simp[Op.operands])]
 |unOp op t x=>simp only[execOp];rw[h x (by simp[Op.operands])]
 |alloc t=>rfl
 |fieldAddr t x f=>simp only[execOp];rw[h x (by simp[Op.operands])]
 |store t a x=>simp only[execOp];rw[h a (by simp[Op.operands]),h x (by simp[Op.operands])]
 |binOp op t x y u=>simp only[execOp];rw[h x (by simp[Op.operands]),h y (by simp[Op.operands])]
 |indexAddr t x i=>simp only[execOp];rw[h x (by simp[Op.operands]),h i (by simp[Op.operands])]
 |buildSlice t n g=>simp only[execOp];rw[parts g (by simpa[Op.operands] using h)]
 |call c=>
  obtain⟨d,args,s⟩:=c;cases d with
  |builtin b=>
   have r:args.map e=args.map e':=we λx k=>h x (by simp[Op.operands,Call.operands];exact k);simp only[execOp,resolve,r]
  |_=>simp[jT] at j
 |_=>simp[jT] at j
def gv{s:Sem Value}(h:(s.bind λa=>Sem.pure (Next.value a)).run P w=.ok U W):∃v,U=.value v:=by
 have e:=qO P s (λa=>Sem.pure (Next.value a)) w;rw[e] at h;cases b:s.run P w with
 |ok a c=>rw[b] at h;simp only[Result.andThen,Sem.run,sH] at h;exact⟨a,h.1.symm⟩
 |halt q c=>rw[b] at h;simp only[Result.andThen] at h;cases h
def ap0{s:Sem Unit}(h:(s.bind λ_=>Sem.pure Next.skip).run P w=.ok U W):U=.skip:=by
 have e:=qO P s (λ_=>Sem.pure Next.skip) w;rw[e] at h;cases b:s.run P w with
 |ok a c=>rw[b] at h;simp only[Result.andThen,Sem.run,sH] at h;exact h.1.symm
 |halt q c=>rw[b] at h;simp only[Result.andThen] at h;cases h
def aj8{e:Operand->Value}{o:Oper}(g:jT o.op=true)(h:(execOp e o).run P w=.ok U W):(∃v,U=.value v)\/U=.skip:=by
 obtain⟨dst,op,k,l,after,j⟩:=o;dsimp only at g;cases op with
 |move x=>simp only[execOp] at h;cases h;exact .inl ⟨_,rfl⟩
 |assign x=>simp only[execOp] at h;cases h;exact .inl ⟨_,rfl⟩
 |load t a=>exact .inl (gv h)
 |unOp op t x=>exact .inl (gv h)
 |alloc t=>exact .inl (gv h)
 |fieldAddr t x f=>exact .inl (gv h)
 |store t a x=>exact .inr (ap0 h)
 |binOp op t x y q=>exact .inl (gv h)
 |indexAddr t x i=>exact .inl (gv h)
 |buildSlice t n m=>exact .inl (gv h)
 |call c=>
  obtain⟨d,args,p⟩:=c;cases d with
  |builtin b=>cases b<;>first|exact .inl (gv h)|simp[jT] at g
  |_=>simp[jT] at g
 |_=>simp[jT] at g
def JR.set(h:JR J fr cG)(d:Nat)(v:Value):(cG.tmps.setIfInBounds d v).size=(fr.tmps.setIfInBounds d v).size/\∀i,J i=false->(cG.tmps.setIfInBounds d v)[i]?=(fr.tmps.setIfInBounds d v)[i]?:=by
 refine⟨by simpa using h.size,λi a=> ?_⟩;rw[qk,qk,h.size];split
 .rfl
 .exact h.agree i a
def abh:∀{k l:List Item} {id:Nat},exitTo id k=some l->k.all (mv J)=true->l.all (mv J)=true
 |[],_,_,h,_=>by cases h
 |x::k,l,id,h,hk=>by
  simp only[qx,fk] at hk;unfold exitTo at h;split at h
  .rename_i a b e;cases e;split at h
   .cases h;exact hk.2
   .exact abh h hk.2
  .rename_i e;cases e;exact abh h hk.2
  .rename_i e;cases e
def amw{fr:Frame}{cs:List Frame}(h:early P fr cs none g w=.go T W es) :
  T.frame.kind=.early\/(T=⟨fr,cs,.running,none,none⟩/\∀(cG:Frame) (a:List Frame),cG.kind=fr.kind->early P cG a none g w=.go ⟨cG,a,.running,none,none⟩ W es):=by
 have d:∀{w W:World} {T:Goroutine} {es:Array Event},(match w.heap[g]? with
   |some (.pending c b)=>GStep.go ⟨fr,cs,.running,none,none⟩ {w with heap:=w.heap.setIfInBounds g (.cells c b)}
   |_=>.ended (.stuck "early: the variable does not wait" (fr.pos P)) w)=.go T W es->T=⟨fr,cs,.running,none,none⟩/\∀(cG:Frame) (a:List Frame),(match w.heap[g]? with
   |some (.pending c b)=>GStep.go ⟨cG,a,.running,none,none⟩ {w with heap:=w.heap.setIfInBounds g (.cells c b)}
   |_=>.ended (.stuck "early: the variable does not wait" (cG.pos P)) w)=.go ⟨cG,a,.running,none,none⟩ W es:=λ{w W T es} h=>by
  split at h
  .rename_i c b e;injection h with k j o
   subst k j o;exact⟨rfl,λcG a=>rfl⟩
  .cases h
 unfold early at h ⊢;dsimp only at h ⊢;by_cases k:(!P.follows .staticDataAhead)=true
 .simp only[k,pr] at h ⊢;exact .inr ⟨(d h).1,λcG a _=>(d h).2 cG a⟩
 .simp only[k,qG,jp] at h ⊢;cases j:P.stepOf g with
  |none=>simp only[j] at h;cases h
  |some f=>
   simp only[j] at h ⊢;by_cases o:((P.code? f).any P.atRunTime)=true
   .simp only[o,pr] at h ⊢;exact .inr ⟨(d h).1,λcG a _=>(d h).2 cG a⟩
   .simp only[o,qG,jp] at h ⊢;by_cases s:(((P.code? f).bind λc=>(readies c).getLast?).bind w.shape?).isSome=true
    .simp only[s,pr] at h ⊢;exact .inr ⟨(d h).1,λcG a _=>(d h).2 cG a⟩
    .simp only[s,qG,jp] at h ⊢;have r:∀cG:Frame,cG.kind=fr.kind->(cG.kind ==CallKind.early)=(fr.kind ==CallKind.early):=λcG e=>by rw[e]
     cases u:P.found w P.funcs.size f<;>cases p:(fr.kind ==CallKind.early)<;>simp only[u,p] at h
     .cases h
     .cases h
     .exact .inr ⟨(d h).1,λcG a e=>by rw[r cG e,p];exact(d h).2 cG a⟩
     .cases h
     .by_cases l:((P.code? f).any P.plainData)=true
      .simp only[l,pr] at h;injection h with i;subst i;exact .inl rfl
      .simp only[l,qG,jp] at h;by_cases m:(!(P.code? f).any P.bareCopy)=true
       .simp only[m,pr] at h;exact .inr ⟨(d h).1,λcG a e=>by rw[r cG e,p];simp only[l,m,qG,pr,jp];exact(d h).2 cG a⟩
       .simp only[m,qG,jp] at h;cases t:(choose (.early g)).run P w with
        |ok n v=>
         rw[t] at h;cases n with
         |zero=>exact .inr ⟨(d h).1,λcG a e=>by rw[r cG e,p];simp only[l,m,qG,jp];exact(d h).2 cG a⟩
         |succ n=>injection h with i;subst i;exact .inl rfl
        |halt q v=>rw[t] at h;cases h
     .injection h with i;subst i;exact .inl rfl
theorem asp (h:JR J fr cG) (hm:fr.mode=.run) {cs Y:List Frame} {main:Bool} {w w1:World} {es:Array Event} {B:Frame}
  (D:stepG P main ⟨fr,cs,.running,none,none⟩ w=.go ⟨B,Y,.running,none,none⟩ w1 es) (K:B.mode=.run\/B.mode=.returning) (af:B.kind=.normal) :
  Y=cs/\B.fn=fr.fn/\∃I,JR J B I/\∀C,stepG P main ⟨cG,C,.running,none,none⟩ w=.go ⟨I,C,.running,none,none⟩ w1 es:=by
 have h0:=h;obtain⟨fn,n,an,ds,md,kd,ro⟩:=fr;obtain⟨p,F,fR,ax,ao,aG,ay⟩:=cG;obtain⟨E,e2,⟨e3,e4⟩,e5,⟨e6,e7⟩,⟨e8,e9⟩,hz,ha,hi⟩:=h;dsimp only at E e2 e3 e4 e5 e6 e7 e8 e9 hz ha hi hm;subst E e2 e3 e4 e5 e6 e7 e8 e9 hm;have H:∀{k:List Item},k.all (mv J)=true->JR J ⟨p,n,k,[],.run,.normal,none⟩ ⟨p,F,k,[],.run,.normal,none⟩:=λ{k} hk=>⟨rfl,rfl,⟨rfl,rfl⟩,rfl,⟨rfl,rfl⟩,⟨rfl,rfl⟩,hz,ha,hk⟩
 have ret:JR J ⟨p,n,fR,[],.returning,.normal,none⟩ ⟨p,F,fR,[],.returning,.normal,none⟩:=⟨rfl,rfl,⟨rfl,rfl⟩,rfl,⟨rfl,rfl⟩,⟨rfl,rfl⟩,hz,ha,hi⟩;have fin:∀{t:Array Value} {t':Array Value} {k:List Item},t'.size=t.size->(∀i,J i=false->t'[i]?=t[i]?)->k.all (mv J)=true->JR J ⟨p,t,k,[],.run,.normal,none⟩ ⟨p,t',k,[],.run,.normal,none⟩:=λa b hk=>⟨rfl,rfl,⟨rfl,rfl⟩,rfl,⟨rfl,rfl⟩,⟨rfl,rfl⟩,a,b,hk⟩;have still:∀{x x':Frame},stepG P main ⟨⟨p,n,fR,[],.run,.normal,none⟩,cs,.running,none,none⟩ w=.go ⟨x,cs,.running,none,none⟩ w->
   (∀C,stepG P main ⟨⟨p,F,fR,[],.run,.normal,none⟩,C,.running,none,none⟩ w=.go ⟨x',C,.running,none,none⟩ w)->JR J x x'->(U:x.fn=p:=by rfl)->
   Y=cs/\B.fn=p/\∃I,JR J B I/\∀C,stepG P main ⟨⟨p,F,fR,[],.run,.normal,none⟩,C,.running,none,none⟩ w=.go ⟨I,C,.running,none,none⟩ w1 es:=λ{x x'} a b c U=>by
  rw[a] at D;injection D with X V g3
  injection X with S Z
  subst V g3 S Z;exact⟨rfl,U,x',c,b⟩
 cases fR with
 |nil=>exact still rfl (λ_=>rfl) ret
 |cons it k=>
  simp only[qx,fk] at hi;obtain⟨A,G⟩:=hi;cases it with
  |inBlock id=>exact still rfl (λ_=>rfl) (H G)
  |inLoop c=>exact still rfl (λ_=>rfl) (H (by simp only[qx,fk];exact⟨A,A,G⟩))
  |code c=>
   cases c with
   |skip=>exact still rfl (λ_=>rfl) (H G)
   |ret=>exact still rfl (λ_=>rfl) ret
   |seq a b=>
    simp only[mv,kH,fk] at A;exact still rfl (λ_=>rfl) (H (by simp only[qx,fk];exact⟨A.1,A.2,G⟩))
   |block id a=>exact still rfl (λ_=>rfl) (H (by simp only[qx,fk];exact⟨A,rfl,G⟩))
   |loop a=>exact still rfl (λ_=>rfl) (H (by simp only[qx,fk];exact⟨A,A,G⟩))
   |region id j draw=>
    simp only[mv,kH,fk,tD] at A;obtain⟨rfl,O⟩:=A;exact still rfl (λ_=>rfl) (H (by simp only[qx,fk];exact⟨O,G⟩))
   |exit id=>
    cases s:exitTo id k with
    |none=>exact absurd D (by
      have:stepG P main ⟨⟨p,n,.code (.exit id)::k,[],.run,.normal,none⟩,cs,.running,none,none⟩ w=.ended (.stuck "exit, goto: no such block or label" (Frame.pos P ⟨p,n,.code (.exit id)::k,[],.run,.normal,none⟩)) w:=by
       simp[stepG,stepG.exec,s]
      rw[this];intro e;cases e)
    |some l=>
     have E:∀(t:Array Value) (c:List Frame),stepG P main ⟨⟨p,t,.code (.exit id)::k,[],.run,.normal,none⟩,c,.running,none,none⟩ w=.go ⟨⟨p,t,l,[],.run,.normal,none⟩,c,.running,none,none⟩ w:=λt c=>by
      simp[stepG,stepG.exec,s]
     exact still (E _ _) (λ_=>E _ _) (H (abh s G))
   |cond c a b=>
    simp only[mv,kH,fk] at A;have U:=h0.eval A.1;cases hv:Frame.eval ⟨p,n,.code (.cond c a b)::k,[],.run,.normal,none⟩ c with
    |bool q=>
     rw[hv] at U;have E:∀(t:Array Value) (cc:List Frame),Frame.eval ⟨p,t,.code (.cond c a b)::k,[],.run,.normal,none⟩ c=.bool q->stepG P main ⟨⟨p,t,.code (.cond c a b)::k,[],.run,.normal,none⟩,cc,.running,none,none⟩ w=.go ⟨⟨p,t,.code (if q then a else b)::k,[],.run,.normal,none⟩,cc,.running,none,none⟩ w:=λt cc ht=>by
      simp[stepG,stepG.exec,ht]
     exact still (E _ _ hv) (λ_=>E _ _ U) (H (by simp only[qx,fk];cases q<;>first|exact⟨A.2.1,G⟩|exact⟨A.2.2,G⟩))
    |_=>
     exfalso;have:∃o,stepG P main ⟨⟨p,n,.code (.cond c a b)::k,[],.run,.normal,none⟩,cs,.running,none,none⟩ w=.ended o w:=by
      simp[stepG,stepG.exec,hv]
     obtain⟨o,e⟩:=this;rw[e] at D;cases D
   |_=>cases A
  |inRegion j il=>
   cases il with
   |nil=>exact still rfl (λ_=>rfl) (H G)
   |cons i f=>
    have R:∀l,(Item.inRegion j l::k).all (mv J)=true:=λl=>by simp only[qx,fk];exact⟨A,G⟩
    cases ho:j[i]? with
    |none=>
     have E:∀(t:Array Value) (c:List Frame),stepG P main ⟨⟨p,t,.inRegion j (i::f)::k,[],.run,.normal,none⟩,c,.running,none,none⟩ w=.go ⟨⟨p,t,.inRegion j f::k,[],.run,.normal,none⟩,c,.running,none,none⟩ w:=λt c=>by
      simp[stepG,stepG.exec,ho,Frame.finish]
     exact still (E _ _) (λ_=>E _ _) (H (R _))
    |some o=>
     have a0:aoo J o=true:=lc.1 A o (rU.2 (qB ho));simp only[aoo,fk] at a0;obtain⟨hg,a4,O⟩:=a0;have mg:o.guard=none:=by simpa using hg
     have hw:∀y,Region.wanted o y=true:=λy=>by unfold Region.wanted;rw[mg]
     have al:execOp (Frame.eval ⟨p,F,.inRegion j (i::f)::k,[],.run,.normal,none⟩) o=execOp (Frame.eval ⟨p,n,.inRegion j (i::f)::k,[],.run,.normal,none⟩) o:=
      amv a4 λx s=>h0.eval (lc.1 O x s)
     have E:∀(t:Array Value) (c:List Frame),stepG P main ⟨⟨p,t,.inRegion j (i::f)::k,[],.run,.normal,none⟩,c,.running,none,none⟩ w =
       stepG.apply P true ⟨p,t,.inRegion j (i::f)::k,[],.run,.normal,none⟩ c none (execOp (Frame.eval ⟨p,t,.inRegion j (i::f)::k,[],.run,.normal,none⟩) o) w:=λt c=>by
      simp[stepG,stepG.exec,stepG.oper,Frame.oper?,ho,hw]
     rw[E] at D;cases hr:(execOp (Frame.eval ⟨p,n,.inRegion j (i::f)::k,[],.run,.normal,none⟩) o).runT P w #[] with
     |mk r a2=>
      have a3:(execOp (Frame.eval ⟨p,n,.inRegion j (i::f)::k,[],.run,.normal,none⟩) o).run P w=r:=by rw[<-ru _ _ _ #[],hr]
      have a5:∀(v:Value),(Frame.finish ⟨p,n,.inRegion j (i::f)::k,[],.run,.normal,none⟩ v).fn=p:=λv=>by
       simp only[Frame.finish,ho,qH]
      have a6:∀(v:Value),JR J (Frame.finish ⟨p,n,.inRegion j (i::f)::k,[],.run,.normal,none⟩ v) (Frame.finish ⟨p,F,.inRegion j (i::f)::k,[],.run,.normal,none⟩ v):=λv=>by
       simp only[Frame.finish,ho,qH];cases o.dst with
       |none=>exact H (R _)
       |some d=>exact fin (h0.set d v).1 (h0.set d v).2 (R _)
      have e2:∀c,stepG.apply P true ⟨p,F,.inRegion j (i::f)::k,[],.run,.normal,none⟩ c none (execOp (Frame.eval ⟨p,F,.inRegion j (i::f)::k,[],.run,.normal,none⟩) o) w =
        stepG.apply P true ⟨p,F,.inRegion j (i::f)::k,[],.run,.normal,none⟩ c none (execOp (Frame.eval ⟨p,n,.inRegion j (i::f)::k,[],.run,.normal,none⟩) o) w:=λc=>by rw[al]
      cases r with
      |ok nx w2=>
       have dC:(CallKind.normal ==CallKind.early)=false:=rfl;rcases aj8 a4 a3 with⟨v,rfl⟩|rfl
       .have a1:∀(t:Array Value) (c:List Frame),stepG.apply P true ⟨p,t,.inRegion j (i::f)::k,[],.run,.normal,none⟩ c none (execOp (Frame.eval ⟨p,n,.inRegion j (i::f)::k,[],.run,.normal,none⟩) o) w=.go ⟨Frame.finish ⟨p,t,.inRegion j (i::f)::k,[],.run,.normal,none⟩ v,c,.running,none,none⟩ w2 (seen P p a2):=λt c=>by
         unfold stepG.apply;simp only[hr,pr];simp[GStep.after,dC]
        rw[a1] at D;injection D with X V g3
        injection X with S Z
        subst V g3 S Z;exact⟨rfl,a5 v,_,a6 v,λc=>by rw[E,e2,a1]⟩
       .have a1:∀(t:Array Value) (c:List Frame),stepG.apply P true ⟨p,t,.inRegion j (i::f)::k,[],.run,.normal,none⟩ c none (execOp (Frame.eval ⟨p,n,.inRegion j (i::f)::k,[],.run,.normal,none⟩) o) w=.go ⟨Frame.finish ⟨p,t,.inRegion j (i::f)::k,[],.run,.normal,none⟩ undef,c,.running,none,none⟩ w2 (seen P p a2):=λt c=>by
         unfold stepG.apply;simp only[hr,pr];simp[GStep.after,dC]
        rw[a1] at D;injection D with X V g3
        injection X with S Z
        subst V g3 S Z;exact⟨rfl,a5 undef,_,a6 undef,λc=>by rw[E,e2,a1]⟩
      |halt q w2=>
       have hq:∀(t:Array Value) (c:List Frame),∃u,(q=.unsupported (.initOrder u)/\stepG.apply P true ⟨p,t,.inRegion j (i::f)::k,[],.run,.normal,none⟩ c none (execOp (Frame.eval ⟨p,n,.inRegion j (i::f)::k,[],.run,.normal,none⟩) o) w=GStep.after (seen P p #[]) (early P ⟨p,t,.inRegion j (i::f)::k,[],.run,.normal,none⟩ c none u w2))\/
         (∀(T:Goroutine) ww ee,stepG.apply P true ⟨p,t,.inRegion j (i::f)::k,[],.run,.normal,none⟩ c none (execOp (Frame.eval ⟨p,n,.inRegion j (i::f)::k,[],.run,.normal,none⟩) o) w=.go T ww ee->T.status=.running->T.dying=none->T.frame.mode ≠ .run/\T.frame.mode ≠ .returning):=λt c=>by
        have M:(CallKind.normal ==CallKind.early)=false:=rfl;by_cases a7:∃u,q=.unsupported (.initOrder u)
        .obtain⟨u,rfl⟩:=a7;refine⟨u,.inl ⟨rfl, ?_⟩⟩;unfold stepG.apply;simp only[hr,pr];simp[M]
        .refine⟨0,.inr λT ww ee s h1 h2=> ?_⟩;unfold stepG.apply at s;simp only[hr,pr] at s;cases q with
         |unsupported u=>
          cases u with
          |initOrder g=>exact absurd ⟨g,rfl⟩ a7
          |_=>simp[GStep.after] at s
         |panic v=>simp[GStep.after] at s;obtain⟨rfl, -⟩:=s;exact⟨by simp[Frame.raise],by simp[Frame.raise]⟩
         |goexit=>simp[GStep.after] at s;obtain⟨rfl, -⟩:=s;exact⟨by simp[Frame.raise],by simp[Frame.raise]⟩
         |blocked=>simp[GStep.after] at s;obtain⟨rfl, -⟩:=s;cases h1
         |waiting=>simp[GStep.after] at s;obtain⟨rfl, -⟩:=s;cases h1
         |exit c=>simp[GStep.after] at s
         |stuck c=>simp[GStep.after] at s
         |throw m=>simp[GStep.after,endThrow,dieOf] at s;obtain⟨rfl, -⟩:=s;cases h2
         |fatal m=>
          exfalso;dsimp only at s;unfold endFatal at s;dsimp only at s;generalize Sem.run P _ w2=z at s;cases z with
          |ok z1 z2=>simp[GStep.after,dieOf] at s;obtain⟨rfl, -⟩:=s;cases h2
          |halt z1 z2=>cases z1<;>simp[GStep.after] at s
       obtain⟨u,N⟩:=hq n cs;rcases N with⟨rfl,U⟩|ad
       .rw[U] at D;cases Q:early P ⟨p,n,.inRegion j (i::f)::k,[],.run,.normal,none⟩ cs none u w2 with
        |go T ww ee=>
         rw[Q] at D;simp only[GStep.after] at D;injection D with X V g3
         subst X V g3;rcases amw Q with W|⟨aa,L⟩
         .dsimp only at W;rw[af] at W;cases W
         .injection aa with S Z
          subst S Z;refine⟨rfl,rfl,_,h0,λc=> ?_⟩;rw[E,e2];obtain⟨u',N⟩:=hq F c;rcases N with⟨hu,a9⟩|a8
          .cases hu;rw[a9,L ⟨p,F,.inRegion j (i::f)::k,[],.run,.normal,none⟩ c rfl];rfl
          .exfalso;have:=hq F c;obtain⟨u2,h2⟩:=this;have M:(CallKind.normal ==CallKind.early)=false:=rfl;have s:stepG.apply P true ⟨p,F,.inRegion j (i::f)::k,[],.run,.normal,none⟩ c none (execOp (Frame.eval ⟨p,n,.inRegion j (i::f)::k,[],.run,.normal,none⟩) o) w=GStep.after (seen P p #[]) (early P ⟨p,F,.inRegion j (i::f)::k,[],.run,.normal,none⟩ c none u w2):=by
            unfold stepG.apply;simp only[hr,pr];simp[M]
           rw[L ⟨p,F,.inRegion j (i::f)::k,[],.run,.normal,none⟩ c rfl] at s;exact(a8 _ _ _ s rfl rfl).1 rfl
        |_=>rw[Q] at D;cases D
       .exfalso;have:=ad _ _ _ D rfl rfl;rcases K with K|K
        .exact this.1 K
        .exact this.2 K
  |_=>cases A
def asq(h:JR J fr cG)(m:fr.mode=.returning)(b:∃fn,P.funcs[fr.fn]?=some fn/\results fn cG.tmps=results fn fr.tmps){c:Frame}{cs:List Frame}{main:Bool} :
  stepG P main ⟨cG,c::cs,.running,none,none⟩ w=stepG P main ⟨fr,c::cs,.running,none,none⟩ w:=by
 obtain⟨fn,a,s,K,I,H,G⟩:=fr;obtain⟨k,F,i,x,u,D,B⟩:=cG;obtain⟨n,j,⟨o,p⟩,d,⟨g,e⟩,⟨l,f⟩,y,E,C⟩:=h;dsimp only at n j o p d g e l f y E C m b;subst n j o p d g e l f m;show unwind P main ⟨k,F,i,[],.returning,.normal,none⟩ (c::cs) none w=unwind P main ⟨k,a,i,[],.returning,.normal,none⟩ (c::cs) none w;unfold unwind;dsimp only;obtain⟨fn,A,b⟩:=b;rw[A];dsimp only;rw[b];generalize (results fn a).runT P w #[]=z;obtain⟨r,L⟩:=z;cases r with
 |ok v t=>rfl
 |halt q t=>cases q<;>rfl
end
end
section
open Go.Conc Go.ConcN
open Go.ConcR (KK wgBlock WgAt stA smA rd wr mk Payload DC0 Bk g_of_ofEvents ofEvent_mk)
abbrev aq:=Nat->Prop
def In(S:aq):Loc->Prop
 |.cell a=>S a.block
 |.obj r=>S r
 |_=>False
inductive jH where
 |leaf
 |node (f:World->jH)
def jH.Lt(a b:jH):Prop:=∃f w,b=.node f/\a=f w
def jH.wf:WellFounded jH.Lt:=⟨λt=>by
 induction t with
 |leaf=>exact⟨_,by rintro _ ⟨g,w,e,rfl⟩;cases e⟩
 |node f a=>exact⟨_,by rintro _ ⟨g,w,e,rfl⟩;cases e;exact a w⟩⟩
def VLt(N:Nat)(f g:Nat->jH):Prop:=∃i,i<N/\jH.Lt (f i) (g i)/\∀k,k≠i->f k=g k
def aop:∀(N:Nat) (g:Nat->jH),Acc (VLt N) g
 |0,g=>⟨_,λf ⟨i,hi,_⟩=>absurd hi (sI i)⟩
 |N+1,g=>by
  have a:∀t:jH,∀g:Nat->jH,g N=t->Acc (VLt (N+1)) g:=by
   intro t
   induction t using jH.wf.induction with
   |_ t d=>
    intro g
    induction aop N g with
    |intro g _ b=>
     intro c;refine⟨_,λf ⟨i,hi,hlt,hk⟩=> ?_⟩;by_cases e:i=N
     .subst e;exact d (f i) (c▸hlt) f rfl
     .exact b f ⟨i,by omega,hlt,hk⟩ ((hk N (sj e)).trans c)
  exact a _ g rfl
abbrev Mu:=Nat×((Nat->jH)×Nat)
def abi(N:Nat):Mu->Mu->Prop:=Prod.Lex (· < ·) (Prod.Lex (VLt N) (· < ·))
def avs(N:Nat):WellFounded (abi N):=(Prod.lex Nat.lt_wfRel ⟨_,(Prod.lex ⟨_,⟨aop N⟩⟩ Nat.lt_wfRel).wf⟩).wf
section
variable (P:Program) (main:Bool) (Rl:aq->World->World->Prop) (Gr:aq->aq->World->World->Array Event->Prop) (Stop:aq->Goroutine->World->Prop)
def GoT:jH->aq->Goroutine->World->Prop
 |.leaf,S,g,w=>∀a,Rl S w a->Stop S g a
 |.node f,S,g,w=>(∀a,Rl S w a->Stop S g a)\/(g.status=.running/\∀a,Rl S w a->∃e b d c,stepG P main g a=.go e b d/\Gr S c a b d/\GoT (f a) c e b)
def bK(S:aq)(g:Goroutine)(w:World):Prop:=∃T,GoT P main Rl Gr Stop T S g w
end
section
variable {P:Program} {main:Bool} {Rl:aq->World->World->Prop} {Gr:aq->aq->World->World->Array Event->Prop} {Stop afG:aq->Goroutine->World->Prop} {S:aq} {g:Goroutine} {w w₁:World}
def GoT.cases{T:jH}(h:GoT P main Rl Gr Stop T S g w):(∀w₁,Rl S w w₁->Stop S g w₁)\/∃f,T=.node f/\g.status=.running/\∀w₁,Rl S w w₁->∃d a c b,stepG P main g w₁=.go d a c/\Gr S b w₁ a c/\GoT P main Rl Gr Stop (f w₁) b d a:=by
 cases T with
 |leaf=>exact .inl h
 |node f=>exact Or.imp id (λx=>⟨f,rfl,x⟩) h
def bK.stop(h:∀w₁,Rl S w w₁->Stop S g w₁):bK P main Rl Gr Stop S g w:=⟨.leaf,h⟩
def bK.step(l:g.status=.running)(h:∀w₁,Rl S w w₁->∃d a c b,stepG P main g w₁=.go d a c/\Gr S b w₁ a c/\bK P main Rl Gr Stop b d a):bK P main Rl Gr Stop S g w:=by
 classical
 have f:∀w₁,∃T,Rl S w w₁->∃d a c b,stepG P main g w₁=.go d a c/\Gr S b w₁ a c/\GoT P main Rl Gr Stop T b d a:=λw₁=>by
  by_cases e:Rl S w w₁
  .obtain⟨d,a,c,b,j,i,T,k⟩:=h w₁ e;exact⟨T,λ_=>⟨d,a,c,b,j,i,k⟩⟩
  .exact⟨.leaf,λx=>absurd x e⟩
 exact⟨.node λw₁=>(f w₁).choose,.inr ⟨l,λw₁ e=>(f w₁).choose_spec e⟩⟩
def GoT.rely(i:∀S a b c,Rl S a b->Rl S b c->Rl S a c){T:jH}(h:GoT P main Rl Gr Stop T S g w)(j:Rl S w w₁):GoT P main Rl Gr Stop T S g w₁:=by
 cases T with
 |leaf=>exact λe d=>h e (i _ _ _ _ j d)
 |node f=>exact Or.imp (λh e d=>h e (i _ _ _ _ j d)) (λx=>⟨x.1,λe d=>x.2 e (i _ _ _ _ j d)⟩) h
def bK.bind(d:∀S w,Rl S w w)(e:∀S a b c,Rl S a b->Rl S b c->Rl S a c)(h:bK P main Rl Gr Stop S g w)(i:∀S g w,Stop S g w->bK P main Rl Gr afG S g w):bK P main Rl Gr afG S g w:=by
 obtain⟨T,h⟩:=h
 induction T generalizing S g w with
 |leaf=>exact i _ _ _ (h w (d _ _))
 |node f q=>
  rcases h with h|⟨o,h⟩
  .exact i _ _ _ (h w (d _ _))
  .exact bK.step o λw₁ l=>let⟨s,j,m,p,r,k,n⟩:=h w₁ l;⟨s,j,m,p,r,k,q w₁ n⟩
def bK.acp{R:World->World->Prop}{D:World->World->Array Event->Prop}{St:Goroutine->World->Prop}(d:∀w w₁,Rl S w w₁->R w w₁)(i:∀w b c,D w b c->Gr S S w b c)(e:∀g w,St g w->Stop S g w) :
  ∀{n:Nat} {g:Goroutine} {w:World},Goes P main R D St n g w->bK P main Rl Gr Stop S g w
 |0,_,_,h=>.stop λw₁ a=>e _ _ (h w₁ (d _ _ a))
 |n+1,g,w,h=>by
  rcases h with h|⟨j,h⟩
  .exact .stop λw₁ a=>e _ _ (h w₁ (d _ _ a))
  .refine .step j λw₁ a=> ?_;have:=h w₁ (d _ _ a);cases f:stepG P main g w₁ with
   |go k b c=>
    rw[f,tE] at this;exact⟨k,b,c,S,rfl,i _ _ _ this.1,bK.acp d i e this.2⟩
   |_=>rw[f] at this;exact this.elim
def GoT.running(b:∀S g w,Stop S g w->g.status=.running)(a:∀S w,Rl S w w){T:jH}(h:GoT P main Rl Gr Stop T S g w):g.status=.running:=by
 rcases h.cases with h|⟨_,_,h,_⟩
 .exact b _ _ _ (h w (a _ _))
 .exact h
end
section
variable [Payload] (ty:TypeId) (Wg C N:Nat)
structure jV (R cl S:aq) (w w₁:World):Prop where
 keep:∀b,S b\/R b->w₁.heap[b]?=w.heap[b]?
 size:w.heap.size<=w₁.heap.size
 os:w₁.ou=w.ou
 live:WgLive ty Wg w->WgLive ty Wg w₁
 pay:PayAt C N w->PayAt C N w₁
 cell:∀i,cl i->w₁.cell? ⟨C,i,none⟩=w.cell? ⟨C,i,none⟩
structure EvP (R cl S:aq) (B:Nat) (e:Event):Prop where
 touch:∀x,(MemAct.ofEvent e).touch?=some x->In S x.loc\/(∃a,x.loc=.cell a/\a.block=C/\cl a.off)\/(In R x.loc/\x.write=false)
 dis:e.loc ≠ .mark .disable
 en:e.loc ≠ .mark .enable
 rel:e.loc ≠ .mark (.release (stA Wg))
 low:(MemAct.ofEvent e).low B
structure Gua (R cl S S':aq) (w w':World) (es:Array Event):Prop where
 keep:∀b,b<w.heap.size->¬S b->b≠C->w'.heap[b]?=w.heap[b]?
 size:w.heap.size<=w'.heap.size
 os:w'.ou=w.ou
 pay:PayAt C N w->PayAt C N w'
 cell:∀i,¬cl i->w'.cell? ⟨C,i,none⟩=w.cell? ⟨C,i,none⟩
 mono:∀b,S b->S' b
 new:∀b,S' b->S b\/(w.heap.size<=b/\b<w'.heap.size)
 ev:∀e∈es,EvP Wg C R cl S' w'.heap.size e
end
section
variable [Payload] {ty:TypeId} {Wg C N:Nat} {R cl S S' avt asr avu:aq} {w w₁ w₂ w':World} {es:Array Event}
def jV.refl(R cl S:aq)(w:World):jV ty Wg C N R cl S w w:=⟨λ_ _=>rfl,am _,rfl,id,id,λ_ _=>rfl⟩
def jV.trans(h:jV ty Wg C N R cl S w w₁)(k:jV ty Wg C N R cl S w₁ w₂):jV ty Wg C N R cl S w w₂:=
 ⟨λb a=>(k.keep b a).trans (h.keep b a),db h.size k.size,k.os.trans h.os,k.live∘h.live,k.pay∘h.pay,λi c=>(k.cell i c).trans (h.cell i c)⟩
def jV.at(R cl S:aq)(w:World)(d:Nat):jV ty Wg C N R cl S w (w.at d):=⟨λ_ _=>rfl,am _,rfl,id,id,λ_ _=>rfl⟩
def jV.amy(h:Gua Wg C N R cl S S' w w' es)(a:∀b,avu b\/avt b->b<w.heap.size/\¬S b/\b≠C)(g:∀i,asr i->¬cl i)(c:Wg<w.heap.size/\¬S Wg/\Wg≠C):jV ty Wg C N avt asr avu w w':=
 ⟨λb d=>h.keep b (a b d).1 (a b d).2.1 (a b d).2.2,h.size,h.os,λ⟨j,sm,e⟩=>⟨j,sm,e.of_block (h.keep Wg c.1 c.2.1 c.2.2)⟩,h.pay,λi f=>h.cell i (g i f)⟩
def jV.of_wg(h:Aside Wg w w')(d:WgLive ty Wg w')(c:∀b,avu b\/avt b->b≠Wg)(a:C≠Wg):jV ty Wg C N avt asr avu w w':=
 ⟨λb g=>h.block b (c b g),mu h.size.symm,azM h.os h.output,λ_=>d,λ⟨e,j,f⟩=>⟨e,(h.block C a).trans j,f⟩,λi _=>uq (h.block C a) i⟩
def jV.rw(h:jV ty Wg C N R cl S w w')(hi:cl i):RW ty Wg C N 0 i w w':=⟨λb a=>absurd a (sI b),h.live,h.pay,h.cell i hi⟩
end
section
variable {Sh:Loc->Prop} {Own Rd ayL Rd':Nat->Loc->Prop} {t:Trace} {j:Nat}
def ahe(h:CT Sh Own Rd t j)(n:∀k,1<=k->k<=j->∀l,ayL k l->Own k l\/∀i a,touchAt t i=some a->a.loc≠l)(m:∀k,1<=k->k<=j->∀l,Own k l->ayL k l)(g:∀k,1<=k->k<=j->∀l,Rd' k l↔Rd k l):CT Sh ayL Rd' t j:=
 ⟨h.quiet,λk b c l d=>(n k b c l d).elim (h.own k b c l) λo i a p e=>absurd e (o i a p),λk b c l d=>h.rd k b c l ((g k b c l).1 d),
  λl f d=>h.free l f λk b c=>⟨λx=>(d k b c).1 (m k b c l x),λx=>(d k b c).2 ((g k b c l).2 x)⟩,λl f d=>h.mine l f λk b c x=>d k b c (m k b c l x),h.nr,h.gs⟩
end
variable [Payload]
def dS(κ:Nat):aq:=λi=>i / 2=κ
def noC:aq:=λ_=>False
abbrev FF:Nat->Loc->Prop:=λ_ _=>False
section
variable (P:Program) (ty:TypeId) (Wg C n K0:Nat) (val:Nat->Value) (aV:aq)
def ahf(κ:Nat):aq->Goroutine->World->Prop:=λ_ g w=>AtR0 P ty Wg C (2*n) 0 (2*κ+1) (val (2*κ)) g w/\Has C (2*κ+1) (val (2*κ+1)) w
abbrev GW(κ:Nat)(R:aq):jH->aq->Goroutine->World->Prop:=GoT P false (jV ty Wg C (2*n) R (dS κ)) (Gua Wg C (2*n) R (dS κ)) (ahf P ty Wg C n val κ)
inductive WK (κ:Nat) (R:aq):Nat->Nat->Nat->jH->aq->Goroutine->World->Prop
 |work {T:jH} {S:aq} {g:Goroutine} {w:World}:GW P ty Wg C n val κ R T S g w->WK κ R 7 0 0 T S g w
 |rest {s m d:Nat} {T:jH} {S:aq} {g:Goroutine} {w:World}:s<=6->WSit P ty Wg C (2*n) FF FF 0 (2*κ+1) (val (2*κ)) s m d g w->WK κ R s m d T S g w
abbrev RM(R S:aq):World->World->Prop:=jV ty Wg C (2*n) R noC S
def abj(e:Event):Prop:=∃a:Addr,a.block=Wg/\(e=mk (.read a)\/e=mk (.write a))
def DSd(w w':World)(es:Array Event):Prop:=w'=w/\∀e∈es,abj Wg e
section
variable (R S:aq) (aQ Fin:aq->aq->Goroutine->World->Prop)
abbrev GP(St:Goroutine->World->Prop)(m:Nat)(g:Goroutine)(w:World):Prop:=Goes P true (RM ty Wg C n R S) (DSd Wg) St m g w
def ayM(g:Goroutine)(w:World):Prop:=g.status=.running/\∃a,stepG P true g w=.go a w #[mk (.acquire (stA Wg))]/\Fin R S a w
def MKe(g:Goroutine)(w:World):Prop:=g.status=.running/\∃a,stepG P true g w=.go a w #[mk .enable]/\∃m,GP P ty Wg C n R S (ayM P Wg R S Fin) m a w
def MW4(g:Goroutine)(w:World):Prop:=g.status=.running/\(WgAt ty Wg w 0 0->∃a,stepG P true g w=.go a w #[rd (stA Wg)]/\∃m,GP P ty Wg C n R S (MKe P ty Wg C n R S Fin) m a w)
def MW3(g:Goroutine)(w:World):Prop:=g.status=.running/\g.offers=none/\
  ((∃b,WgAt ty Wg w b 0)->stepG P true g w=.go {g with status:=.blocked} w #[])/\
  (WgAt ty Wg w 0 1->∃a,stepG P true g w=.go a (w.setCell (smA Wg) (.int .u32 0)) (semEvents (smA Wg))/\∃m,GP P ty Wg C n R S (MW4 P ty Wg C n R S Fin) m a (w.setCell (smA Wg) (.int .u32 0)))
def MW2(vs:Nat)(g:Goroutine)(w:World):Prop:=g.status=.running/\∀v:Nat,v<2147483648->WgAt ty Wg w (v*KK) 0->
  (v=vs->∃a,stepG P true g w=.go a (w.setCell (stA Wg) (.int .u64 (v*KK+1))) #[rd (stA Wg),wr (stA Wg)]/\∃m,GP P ty Wg C n R S (MW3 P ty Wg C n R S Fin) m a (w.setCell (stA Wg) (.int .u64 (v*KK+1))))/\
  (v≠vs->∃a,stepG P true g w=.go a w #[rd (stA Wg)]/\∃m,GP P ty Wg C n R S (aQ R S) m a w)
def MW1(g:Goroutine)(w:World):Prop:=g.status=.running/\∀v:Nat,v<2147483648->WgAt ty Wg w (v*KK) 0->∃a,stepG P true g w=.go a w #[rd (stA Wg)]/\
  (v=0->∃m,GP P ty Wg C n R S (MKe P ty Wg C n R S Fin) m a w)/\(v≠0->∃m,GP P ty Wg C n R S (MW2 P ty Wg C n R S aQ Fin v) m a w)
def MKd(g:Goroutine)(w:World):Prop:=g.status=.running/\∃a,stepG P true g w=.go a w #[mk .disable]/\∃m,GP P ty Wg C n R S (aQ R S) m a w
end
abbrev GM(R:aq)(St:aq->Goroutine->World->Prop):jH->aq->Goroutine->World->Prop:=GoT P true (jV ty Wg C (2*n) R noC) (Gua Wg C (2*n) R noC) St
section
variable (j:Nat) (Next:aq->Goroutine->World->Prop) (R S:aq)
def MGo(S:aq)(g:Goroutine)(w:World):Prop:=g.status=.running/\∃d a c,stepG P true g w=.spawn d a w #[]/\(∀b,c b->S b\/R b)/\
  (PayAt C (2*n) w->WgLive ty Wg w->∃T,GW P ty Wg C n val j c T (λ_=>False) a w)/\Next (λb=>S b\/R b) d w
def ayN(g:Goroutine)(w:World):Prop:=g.status=.running/\∃a,stepG P true g w=.go a w #[mk .enable]/\∃T,GM P ty Wg C n R (MGo P ty Wg C n val j Next R) T S a w
def MA1(g:Goroutine)(w:World):Prop:=g.status=.running/\∀v:Nat,v<2147483647->WgAt ty Wg w (v*KK) 0->
  ∃a,stepG P true g w=.go a (w.setCell (stA Wg) (.int .u64 ((v+1)*KK))) #[rd (stA Wg),wr (stA Wg)]/\∃m,GP P ty Wg C n R S (ayN P ty Wg C n val j Next R S) m a (w.setCell (stA Wg) (.int .u64 ((v+1)*KK)))
def ass(g:Goroutine)(w:World):Prop:=g.status=.running/\∃a,stepG P true g w=.go a w #[mk .disable]/\∃m,GP P ty Wg C n R S (MA1 P ty Wg C n val j Next R S) m a w
end
variable (aQ Fin:aq->aq->Goroutine->World->Prop)
def tM:Nat->aq->Goroutine->World->Prop
 |0,R,g,w=>∃T,GM P ty Wg C n R (λS g w=>MKd P ty Wg C n R S aQ g w) T (λ_=>False) g w
 |r+1,R,g,w=>∃T,GM P ty Wg C n R (λS g w=>ass P ty Wg C n val (n-(r+1)) (tM r) R S g w) T (λ_=>False) g w
inductive fH:CTag->Nat->aq->aq->jH->Nat->Nat->Goroutine->World->Prop
 |skd {r:Nat} {R S:aq} {T:jH} {g:Goroutine} {w:World}:r<n->GM P ty Wg C n R (λS g w=>ass P ty Wg C n val (n-(r+1)) (tM P ty Wg C n val aQ r) R S g w) T S g w->fH (.sp r 5) (n-(r+1)) R S T 0 0 g w
 |sa1 {r m:Nat} {R S:aq} {T:jH} {g:Goroutine} {w:World}:r<n->GP P ty Wg C n R S (MA1 P ty Wg C n val (n-(r+1)) (tM P ty Wg C n val aQ r) R S) m g w->fH (.sp r 4) (n-(r+1)) R S T m 1 g w
 |ske {r m:Nat} {R S:aq} {T:jH} {g:Goroutine} {w:World}:r<n->GP P ty Wg C n R S (ayN P ty Wg C n val (n-(r+1)) (tM P ty Wg C n val aQ r) R S) m g w->fH (.sp r 3) (n-(r+1)) R S T m 1 g w
 |sgo {r:Nat} {R S:aq} {T:jH} {g:Goroutine} {w:World}:r<n->GM P ty Wg C n R (MGo P ty Wg C n val (n-(r+1)) (tM P ty Wg C n val aQ r) R) T S g w->fH (.sp r 2) (n-(r+1)) R S T 0 0 g w
 |kd {R S:aq} {T:jH} {g:Goroutine} {w:World}:GM P ty Wg C n R (λS g w=>MKd P ty Wg C n R S aQ g w) T S g w->fH .kd n R S T 0 0 g w
 |anch {m:Nat} {R S:aq} {T:jH} {g:Goroutine} {w:World}:GP P ty Wg C n R S (aQ R S) m g w->fH .anch n R S T m 1 g w
 |w1 {m:Nat} {R S:aq} {T:jH} {g:Goroutine} {w:World}:GP P ty Wg C n R S (MW1 P ty Wg C n R S aQ Fin) m g w->fH .w1 n R S T m 1 g w
 |w2 {vs m:Nat} {R S:aq} {T:jH} {g:Goroutine} {w:World}:GP P ty Wg C n R S (MW2 P ty Wg C n R S aQ Fin vs) m g w->fH (.w2 vs) n R S T m 1 g w
 |w3 {m:Nat} {R S:aq} {T:jH} {g:Goroutine} {w:World}:GP P ty Wg C n R S (MW3 P ty Wg C n R S Fin) m g w->fH .w3 n R S T (m+1) 1 g w
 |blk {R S:aq} {T:jH} {g:Goroutine} {w:World}:(∀w₁,RM ty Wg C n R S w w₁->MW3 P ty Wg C n R S Fin g w₁)->fH .blk n R S T 0 1 {g with status:=.blocked} w
 |w4 {m:Nat} {R S:aq} {T:jH} {g:Goroutine} {w:World}:GP P ty Wg C n R S (MW4 P ty Wg C n R S Fin) m g w->fH .w4 n R S T m 1 g w
 |ke {m:Nat} {R S:aq} {T:jH} {g:Goroutine} {w:World}:GP P ty Wg C n R S (MKe P ty Wg C n R S Fin) m g w->fH .ke n R S T m 1 g w
 |acq {m:Nat} {R S:aq} {T:jH} {g:Goroutine} {w:World}:GP P ty Wg C n R S (ayM P Wg R S Fin) m g w->fH .acq n R S T m 0 g w
def Shr(Wg:Nat)(aV:aq)(l:Loc):Prop:=∃a,l=.cell a/\(a.block=Wg\/aV a.block)
def abk(C K0:Nat)(O:Nat->aq)(k:Nat)(l:Loc):Prop:=∃b,k=K0+1+b/\(In (O b) l\/∃a,l=.cell a/\a.block=C/\a.off / 2=b)
def RdL(K0:Nat)(Rk:Nat->aq)(k:Nat)(l:Loc):Prop:=∃a,k=K0+1+a/\In (Rk a) l
structure Sets (w:World) (R S:aq) (O Rk:Nat->aq):Prop where
 rlt:∀b,R b->b<w.heap.size
 slt:∀b,S b->b<w.heap.size
 olt:∀κ b,O κ b->b<w.heap.size
 rk:∀κ b,Rk κ b->R b
 rs:∀b,R b->¬S b
 orr:∀κ b,O κ b->¬R b
 os:∀κ b,O κ b->¬S b
 oo:∀κ gT b,O κ b->O gT b->κ=gT
 wlt:Wg<w.heap.size
 clt:C<w.heap.size
 cw:C≠Wg
 wr:¬R Wg
 ws:¬S Wg
 wo:∀κ,¬O κ Wg
 cr:¬R C
 cs:¬S C
 co:∀κ,¬O κ C
 shr:∀b,aV b->¬R b
 shs:∀b,aV b->¬S b
 sho:∀κ b,aV b->¬O κ b
 shc:¬aV C
 aj9:∀b,aV b->b<w.heap.size
end
section
variable {Wg C K0:Nat} {aV R S:aq} {w w':World} {O Rk:Nat->aq}
omit [Payload] in
def In.mono{S a:aq}(h:∀b,S b->a b)(x:In S l):In a l:=by
 cases l<;>first|exact h _ x|exact x.elim
omit [Payload] in
def In.no{S a:aq}(h:∀b,S b->¬a b)(x:In S l):¬In a l:=by
 cases l<;>first|exact h _ x|exact x.elim
omit [Payload] in
def In.block{S:aq}(x:In S l){a:Addr}(e:l=.cell a):S a.block:=by subst e;exact x
omit [Payload] in
def Sets.apart(h:Sets Wg C aV w R S O Rk):Apart (Shr Wg aV) (abk C K0 O) (RdL K0 Rk) where
 own:=by
  rintro k m l ⟨f,rfl,d⟩ ⟨i,rfl,c⟩;have:f=i:=by
   rcases d with d|⟨a,rfl,g,o⟩<;>rcases c with c|⟨b,e,j,n⟩
   .cases l<;>first|exact h.oo _ _ _ d c|exact d.elim
   .subst e;exact absurd (j▸d) (h.co f)
   .exact absurd (g▸c) (h.co i)
   .cases e;omega
  rw[this]
 ownRd:=by
  rintro k m l ⟨f,rfl,d⟩ ⟨i,rfl,c⟩;rcases d with d|⟨a,rfl,g, -⟩
  .cases l<;>first|exact h.orr _ _ d (h.rk _ _ c)|exact d.elim
  .exact h.cr (g▸h.rk _ _ c)
 ownSh:=by
  rintro k l ⟨f,rfl,d⟩ ⟨a,rfl,c⟩;rcases d with d|⟨b,e,g, -⟩
  .rcases c with c|c
   .exact h.wo f (c▸d)
   .exact h.sho f _ c d
  .cases e;rcases c with c|c
   .exact h.cw (g.symm.trans c)
   .exact h.shc (g▸c)
 rdSh:=by
  rintro k l ⟨f,rfl,d⟩ ⟨a,rfl,c⟩;rcases c with c|c
  .exact h.wr (c▸h.rk _ _ d)
  .exact h.shr _ c (h.rk _ _ d)
omit [Payload] in
def Sets.at(h:Sets Wg C aV w R S O Rk)(d:Nat):Sets Wg C aV (w.at d) R S O Rk:=⟨h.rlt,h.slt,h.olt,h.rk,h.rs,h.orr,h.os,h.oo,h.wlt,h.clt,h.cw,h.wr,h.ws,h.wo,h.cr,h.cs,h.co,h.shr,h.shs,h.sho,h.shc,h.aj9⟩
omit [Payload] in
def Sets.size(h:Sets Wg C aV w R S O Rk)(a:w.heap.size<=w'.heap.size):Sets Wg C aV w' R S O Rk:=
 ⟨λb x=>bd (h.rlt b x) a,λb x=>bd (h.slt b x) a,λc b x=>bd (h.olt c b x) a,h.rk,h.rs,h.orr,h.os,h.oo,bd h.wlt a,bd h.clt a,h.cw,h.wr,h.ws,h.wo,h.cr,h.cs,h.co,h.shr,h.shs,h.sho,h.shc,λb x=>bd (h.aj9 b x) a⟩
omit [Payload] in
def Sets.aA1(h:Sets Wg C aV w R S O Rk)(o:w.heap.size<=w'.heap.size){g:aq}(l:∀b,g b->O κ b\/(w.heap.size<=b/\b<w'.heap.size)):Sets Wg C aV w' R S (upd O κ g) Rk:=by
 have a:∀{c:Nat} {b:Nat},upd O κ g c b->O c b\/(c=κ/\w.heap.size<=b/\b<w'.heap.size):=λ{c b} x=>by
  by_cases e:c=κ
  .subst e;rw[ql] at x;exact(l b x).imp id λy=>⟨rfl,y⟩
  .rw[qN O _ e] at x;exact .inl x
 have d:=h.size o;refine⟨d.rlt,d.slt,λc b x=> ?_,h.rk,h.rs,λc b x=> ?_,λc b x=> ?_,λk j b x y=> ?_,d.wlt,d.clt,h.cw,h.wr,h.ws,λc x=> ?_,h.cr,h.cs,λc x=> ?_,h.shr,h.shs,λc b i x=> ?_,h.shc,d.aj9⟩
 .rcases a x with x|⟨-, -,x⟩
  .exact d.olt _ _ x
  .exact x
 .rcases a x with x|⟨-,x, -⟩
  .exact h.orr _ _ x
  .intro f;have:=h.rlt b f;omega
 .rcases a x with x|⟨-,x, -⟩
  .exact h.os _ _ x
  .intro f;have:=h.slt b f;omega
 .rcases a x with x|⟨m,x, -⟩<;>rcases a y with y|⟨n,y, -⟩
  .exact h.oo _ _ _ x y
  .have:=h.olt _ _ x;omega
  .have:=h.olt _ _ y;omega
  .rw[m,n]
 .rcases a x with x|⟨-,x, -⟩
  .exact h.wo _ x
  .have:=h.wlt;omega
 .rcases a x with x|⟨-,x, -⟩
  .exact h.co _ x
  .have:=h.clt;omega
 .rcases a x with x|⟨-,x, -⟩
  .exact h.sho _ _ i x
  .have:=h.aj9 b i;omega
omit [Payload] in
def Sets.axj(h:Sets Wg C aV w R S O Rk)(j:w.heap.size<=w'.heap.size){d:aq}(c:∀b,d b->S b\/(w.heap.size<=b/\b<w'.heap.size)):Sets Wg C aV w' R d O Rk:=by
 have a:=h.size j;refine⟨a.rlt,λb x=> ?_,a.olt,h.rk,λb f x=> ?_,h.orr,λi b e x=> ?_,h.oo,a.wlt,a.clt,h.cw,h.wr,λx=> ?_,h.wo,h.cr,λx=> ?_,h.co,h.shr,λb g x=> ?_,h.sho,h.shc,a.aj9⟩
 .rcases c b x with x|x
  .exact a.slt b x
  .exact x.2
 .rcases c b x with x|x
  .exact h.rs b f x
  .have:=h.rlt b f;omega
 .rcases c b x with x|x
  .exact h.os i b e x
  .have:=h.olt i b e;omega
 .rcases c _ x with x|x
  .exact h.ws x
  .have:=h.wlt;omega
 .rcases c _ x with x|x
  .exact h.cs x
  .have:=h.clt;omega
 .rcases c _ x with x|x
  .exact h.shs b g x
  .have:=h.aj9 b g;omega
omit [Payload] in
def Sets.hand(h:Sets Wg C aV w R S O Rk)(κ:Nat){X:aq}(d:∀b,X b->S b\/R b):Sets Wg C aV w (λb=>S b\/R b) (λ_=>False) O (upd Rk κ X):=by
 refine⟨λb x=>x.elim (h.slt b) (h.rlt b),λb x=>x.elim,h.olt,λa b x=> ?_,λb _ x=>x,λa b x y=>y.elim (h.os a b x) (h.orr a b x),λa b _ x=>x,h.oo,h.wlt,h.clt,h.cw,λx=>x.elim h.ws h.wr,id,h.wo,λx=>x.elim h.cs h.cr,id,h.co,λb c x=>x.elim (h.shs b c) (h.shr b c),λb _ x=>x,h.sho,h.shc,h.aj9⟩;by_cases e:a=κ
 .subst e;rw[ql] at x;exact d b x
 .rw[qN Rk _ e] at x;exact .inr (h.rk a b x)
end
end
section
open Go.Conc Go.ConcN
open Go.ConcR (KK wgBlock WgAt stA smA rd wr mk Payload DC0 Bk g_of_ofEvents ofEvent_mk ofEvent_loc_mark loc_of_ofEvent)
def ShL(aV:aq)(l:Loc):Prop:=∃a,l=.cell a/\aV a.block
structure eW (aV:aq) (K B:Nat) (t:Trace):Prop where
 clean:∀said,¬Race said t
 known:∀(i:Nat) (op:MemOp) (x:Touch),t[i]?=some op->op.act.touch?=some x->¬ShL aV x.loc->Knows t 0 i
 quiet:Quiet (ShL aV) t
 over:t.HandedOver
 hears:Deaf t 0=0
 seen:∀op∈t,op.act.low B
 gs:∀op∈t,op.g<=K
def nW(Wg:Nat)(aV:aq)(t:Trace)(k r:Nat):Prop:=∀(i:Nat) (op:MemOp) (x:Touch),r<i->t[i]?=some op->op.g=k->op.act.touch?=some x->Shr Wg aV x.loc
def nW.app{aV:aq}{t u:Trace}{r : Nat}(h:nW Wg aV t k r)(f:∀op∈u,op.g=k->∀x,op.act.touch?=some x->Shr Wg aV x.loc):nW Wg aV (t++u) k r:=λi op x g d b c=>by
 rcases rA d with⟨_,e⟩|⟨_,a⟩
 .exact h i op x g e b c
 .exact f op a b x c
structure TI (Wg C K0:Nat) (aV:aq) (j:Nat) (t:Trace) (D:Nat->WD) (O Rk:Nat->aq) (d0 B:Nat):Prop where
 ct:CT (Shr Wg aV) (abk C K0 O) (RdL K0 Rk) t (K0+j)
 norel:NoRelease (stA Wg) t
 deaf0:Deaf t 0=d0
 deafW:∀κ,κ<j->Deaf t (K0+1+κ)=(D κ).deaf
 rel:∀κ,κ<j->(D κ).stage<=6->∃r,RelBy (stA Wg) t (K0+1+κ) r/\nW Wg aV t (K0+1+κ) r
 seen:∀op∈t,op.act.low B
 over:∀(i g:Nat),t.g? i=some g->g≠0->g<=K0->t.counts i->∃p,t.g? p=some 0/\HappensBefore t i p
 known:∀(i:Nat) (op:MemOp) (x:Touch),t[i]?=some op->op.g<=K0->op.act.touch?=some x->¬Shr Wg aV x.loc->Knows t 0 i
section
variable {Wg C K0:Nat} {aV:aq} {j:Nat} {t u:Trace} {D:Nat->WD} {O Rk:Nat->aq} {d0 B B':Nat}
def acr(h:∀(i g:Nat),t.g? i=some g->g≠0->g<=K0->t.counts i->∃p,t.g? p=some 0/\HappensBefore t i p)(o:∀op∈u,op.g=0\/K0<op.g\/op.act.touch?=none) :
  ∀(i g:Nat),(t++u).g? i=some g->g≠0->g<=K0->(t++u).counts i->∃p,(t++u).g? p=some 0/\HappensBefore (t++u) i p:=by
 intro i g l d k n;obtain⟨x,r,y,A⟩:=id n;obtain⟨op,a,b⟩:=touch_of r;have v:op.g=g:=by simpa[Trace.g?,a] using l
 rcases rA a with⟨m,s⟩|⟨_,e⟩
 .obtain⟨p,c,q⟩:=h i g (by rw[<-g?_old (u:=u) m];exact l) d k ((counts_old m).1 n);have f:p<t.size:=by
   unfold Trace.g? at c;obtain⟨z,w,_⟩:=iS.1 c;exact lt_size_of_getElem? w
  exact⟨p,by rw[g?_old f];exact c,hb_app u q⟩
 .rcases o op e with j|j|j
  .omega
  .omega
  .rw[j] at b;cases b
def aaq(h:∀(i:Nat) (op:MemOp) (x:Touch),t[i]?=some op->op.g<=K0->op.act.touch?=some x->¬Shr Wg aV x.loc->Knows t 0 i)(f:∀op∈u,op.g=0\/K0<op.g\/op.act.touch?=none) :
  ∀(i:Nat) (op:MemOp) (x:Touch),(t++u)[i]?=some op->op.g<=K0->op.act.touch?=some x->¬Shr Wg aV x.loc->Knows (t++u) 0 i:=by
 intro i op x d g c j;rcases rA d with⟨_,e⟩|⟨_,b⟩
 .exact(h i op x e g c j).app u
 .rcases f op b with a|a|a
  .have:=knows_own d;rwa [a] at this
  .omega
  .rw[a] at c;cases c
def ada(h:∀op∈t,op.act.low B)(b:B<=B'):∀op∈t,op.act.low B':=λop a=>MemAct.low_mono b (h op a)
def ahg(h:∀op∈t,op.act.low B)(n:touchAt t i=some x){S:aq}(k:∀b,S b->B<=b)(d:In S x.loc):False:=by
 obtain⟨op,l,a⟩:=touch_of n;have c:=h op (qB l);obtain⟨g,fn,o,f⟩:=op;cases f with
 |access e=>
  simp only[MemAct.touch?,jt] at a;subst a;obtain⟨loc,wr,p⟩:=e;cases loc<;>first|exact d.elim|(have j:=k _ d;exact absurd c (Nat.not_lt.2 j))
 |mark m=>
  cases m<;>simp only[MemAct.touch?,jt,reduceCtorEq] at a<;>(subst a;have j:=k _ d;exact absurd c (Nat.not_lt.2 j))
 |_=>simp[MemAct.touch?] at a
def TI.appW (h:TI Wg C K0 aV j t D O Rk d0 B) (H:B<=B') (I:κ<j) {o:aq} {s' : Nat} {fn:FuncId}  
  (A:Apart (Shr Wg aV) (abk C K0 (upd O κ o)) (RdL K0 Rk))
  (E:∀b,O κ b->o b) (w:∀b,o b->O κ b\/B<=b)
  (y:∀op∈MemOp.ofEvents (K0+1+κ) fn pos es,OkW (Shr Wg aV) (abk C K0 (upd O κ o)) (RdL K0 Rk) (K0+1+κ) op) (s:∀e∈es,e.loc ≠ .mark (.release (stA Wg)))
  (q:deafBehind (D κ).deaf es=V) (v:∀op∈MemOp.ofEvents (K0+1+κ) fn pos es,op.act.low B')
  (hrel:s'<=6->∃r,RelBy (stA Wg) (t++MemOp.ofEvents (K0+1+κ) fn pos es) (K0+1+κ) r/\nW Wg aV (t++MemOp.ofEvents (K0+1+κ) fn pos es) (K0+1+κ) r) :
  TI Wg C K0 aV j (t++MemOp.ofEvents (K0+1+κ) fn pos es) (upd D κ ⟨s',m',V⟩) (upd O κ o) Rk d0 B':=by
 have n:∀op∈MemOp.ofEvents (K0+1+κ) fn pos es,op.g=K0+1+κ:=g_of_ofEvents;have u:CT (Shr Wg aV) (abk C K0 (upd O κ o)) (RdL K0 Rk) t (K0+j):=ahe h.ct (λk _ _ l c=>by
   obtain⟨d,rfl,c⟩:=c;by_cases e:d=κ
   .subst e;rw[ql] at c;rcases c with c|c
    .have:In (O d) l\/In (λb=>B<=b) l:=by
      cases l<;>first|exact w _ c|exact c.elim
     rcases this with x|x
     .exact .inl ⟨d,rfl,.inl x⟩
     .exact .inr λi a G e=>ahg h.seen G (λb p=>p) (e▸x)
    .exact .inl ⟨d,rfl,.inr c⟩
   .rw[qN O _ e] at c;exact .inl ⟨d,rfl,c⟩) (λk _ _ l c=>by
   obtain⟨d,rfl,c⟩:=c;refine⟨d,rfl, ?_⟩;by_cases e:d=κ
   .subst e;rw[ql];exact c.imp (In.mono E) id
   .rw[qN O _ e];exact c) (λ_ _ _ _=>Iff.rfl)
 refine⟨u.appW A (by omega) (by omega) y,h.norel.app (norel_of s),by rw[rr t (by omega) _ n,h.deaf0],λd g=> ?_,λd g m=> ?_,seen_app (ada h.seen H) v,
  acr h.over λop f=>.inr (.inl (by rw[n op f];omega)),aaq h.known λop f=>.inr (.inl (by rw[n op f];omega))⟩
 .by_cases e:d=κ
  .subst e;rw[Deaf_own,h.deafW d g,ql];exact q
  .rw[rr t (by omega) _ n,h.deafW d g,qN D _ e]
 .by_cases e:d=κ
  .subst e;rw[ql] at m;exact hrel m
  .rw[qN D _ e] at m;obtain⟨r,F,p⟩:=h.rel d g m;exact⟨r,F.appOther n (by omega),p.app λop f z=>by rw[n op f] at z;omega⟩
def TI.app0 (h:TI Wg C K0 aV j t D O Rk d0 B) (n:B<=B') (A:Apart (Shr Wg aV) (abk C K0 O) (RdL K0 Rk)) {fn:FuncId}  
  (i:∀op∈MemOp.ofEvents 0 fn pos es,Ok0 (Shr Wg aV) (abk C K0 O) (RdL K0 Rk) (K0+j) op) (k:∀e∈es,e.loc ≠ .mark (.release (stA Wg))) (d:∀op∈MemOp.ofEvents 0 fn pos es,op.act.low B') :
  TI Wg C K0 aV j (t++MemOp.ofEvents 0 fn pos es) D O Rk (deafBehind d0 es) B':=by
 have b:∀op∈MemOp.ofEvents 0 fn pos es,op.g=0:=g_of_ofEvents;refine⟨h.ct.app0 A i,h.norel.app (norel_of k),by rw[Deaf_own,h.deaf0],λf c=>by rw[rr t (by omega) _ b,h.deafW f c],λf c g=> ?_,seen_app (ada h.seen n) d,
  acr h.over λop a=>.inl (b op a),aaq h.known λop a=>.inl (b op a)⟩
 obtain⟨r,l,m⟩:=h.rel f c g;exact⟨r,l.appOther b (by omega),m.app λop a o=>by rw[b op a] at o;omega⟩
def TI.ayO(h:TI Wg C K0 aV j t D O Rk d0 B)(R:i≠0)(hi:i<=K0){fn:FuncId}(I:∀e∈es,e.mute=true) :
  TI Wg C K0 aV j (t++MemOp.ofEvents i fn pos es) D O Rk d0 B:=by
 have n:∀op∈MemOp.ofEvents i fn pos es,op.g=i:=g_of_ofEvents;have u:∀op∈MemOp.ofEvents i fn pos es,op.act.touch?=none:=λop c=>by obtain⟨e,p,rfl⟩:=lE c;exact touch_mute (I e p)
 have g:∀op∈MemOp.ofEvents i fn pos es,op.act.low B:=λop c=>by obtain⟨e,p,rfl⟩:=lE c;exact low_mute (I e p) B
 have old:∀{q:Nat} {a:Touch},touchAt (t++MemOp.ofEvents i fn pos es) q=some a->touchAt t q=some a:=λ{q a} Q=>by
  obtain⟨z,L,m⟩:=touch_of Q;rcases rA L with⟨_,J⟩|⟨_,F⟩
  .rw[touchAt_of J];exact m
  .rw[u z F] at m;cases m
 have f:∀op∈MemOp.ofEvents i fn pos es,∀b,op.act.touch?=some b->False:=λop c b d=>by rw[u op c] at d;cases d
 refine⟨⟨h.ct.quiet.app λop c x P _=>(f op c x P).elim,λk v E l g=>(h.ct.own k v E l g).app λop c b d _=>(f op c b d).elim,λk v E l g=>(h.ct.rd k v E l g).app λop c b d _ _=>(f op c b d).elim,
   λl H g=>(h.ct.free l H g).app λop c b d _=>(f op c b d).elim,λl H g=>(h.ct.mine l H g).app λop c b d _ _=>(f op c b d).elim,λo=>noRace_append (h.ct.nr o) n λ_ _ _ op c b d _=>(f op c b d).elim,λq op M=> ?_⟩,
  h.norel.app λop c e=> ?_,by rw[rr t (by omega) _ n,h.deaf0],λy G=>by rw[rr t (by omega) _ n,h.deafW y G],λy G A=> ?_,seen_app h.seen g,acr h.over λop c=>.inr (.inr (u op c)),aaq h.known λop c=>.inr (.inr (u op c))⟩
 .rcases rA M with⟨_,K⟩|⟨_,w⟩
  .exact h.ct.gs q op K
  .rw[n op w];omega
 .obtain⟨s,p,rfl⟩:=lE c;have g:=loc_of_ofEvent e;have:=I s p;obtain⟨loc,wr,S⟩:=s;dsimp only at g;subst g;simp[Event.mute] at this
 .obtain⟨r,N,d⟩:=h.rel y G A;exact⟨r,N.appOther n (by omega),d.app λop c s=>by rw[n op c] at s;omega⟩
def TI.fork(h:TI Wg C K0 aV j t D O Rk 0 B){X:aq}(A:Apart (Shr Wg aV) (abk C K0 O) (RdL K0 (upd Rk j X))){x y:MemOp}(i:x.g=0/\x.act=.go (K0+j+1))(g:y.g=K0+j+1/\y.act=.start) :
  TI Wg C K0 aV (j+1) (t++#[x,y]) (upd D j ⟨7,m',0⟩) O (upd Rk j X) 0 B:=by
 have n:∀op∈#[x,y],op=x\/op=y:=by intro op b;simpa using b
 have m:∀op∈#[x,y],op.act ≠ .mark .disable/\op.act ≠ .mark .enable:=by
  intro op b;rcases n op b with rfl|rfl
  .rw[i.2];exact⟨by simp,by simp⟩
  .rw[g.2];exact⟨by simp,by simp⟩
 have q:∀op∈#[x,y],op.act.touch?=none:=by
  intro op b;rcases n op b with rfl|rfl
  .rw[i.2];rfl
  .rw[g.2];rfl
 have p:CT (Shr Wg aV) (abk C K0 O) (RdL K0 (upd Rk j X)) t (K0+j):=ahe h.ct (λ_ _ _ _ d=>.inl d) (λ_ _ _ _ d=>d) (λk _ G l=>by
  constructor
  .rintro⟨c,rfl,d⟩;rw[qN Rk _ (by omega)] at d;exact⟨c,rfl,d⟩
  .rintro⟨c,rfl,d⟩;exact⟨c,rfl,by rw[qN Rk _ (by omega)];exact d⟩)
 refine⟨?_,h.norel.app λop b=> ?_,by rw[Deaf_still t 0 _ m,h.deaf0],λc w=> ?_,λc w o=> ?_,seen_app h.seen λop b=> ?_,acr h.over λop b=>.inr (.inr (q op b)),aaq h.known λop b=>.inr (.inr (q op b))⟩
 .have:=p.fork A i g h.deaf0
  rwa [uW] at this
 .rcases n op b with rfl|rfl
  .rw[i.2];simp
  .rw[g.2];simp
 .rw[Deaf_still t _ _ m];rcases pm c j with f|v
  .rw[h.deafW c f,qN D _ (by omega)]
  .obtain rfl:c=j:=by omega
   rw[ql];exact Deaf_absent λa op F e=>by have:=h.ct.gs a op F;omega
 .rcases pm c j with f|v
  .rw[qN D _ (by omega)] at o;obtain⟨r,E,u⟩:=h.rel c f o;refine⟨r,E.appNot λop b=> ?_,u.app λop b H z s=>by rw[q op b] at s;cases s⟩;rcases n op b with rfl|rfl
   .rw[i.1];omega
   .rw[g.1];omega
  .obtain rfl:c=j:=by omega
   rw[ql] at o;simp at o
 .rcases n op b with rfl|rfl
  .rw[i.2];trivial
  .rw[g.2];trivial
def TI.join(h:TI Wg C K0 aV j t D O Rk 0 B)(P:∀d,d<j->(D d).stage<=6)(A:Apart (Shr Wg aV) (abk C K0 O) (RdL K0 Rk))(fn:FuncId)(pos:String)(N:Wg<B) :
  eW (λb=>b=Wg\/aV b) (K0+j) B (t++MemOp.ofEvents 0 fn pos #[Go.ConcR.mk (.acquire (stA Wg))]):=by
 have I:MemOp.ofEvents 0 fn pos #[Go.ConcR.mk (.acquire (stA Wg))]=#[{g:=0,fn,pos,act:=.mark (.acquire (stA Wg))}]:=by rw[ofEvents_eq];simp[ofEvent_mk]
 have E:(t++#[({g:=0,fn,pos,act:=.mark (.acquire (stA Wg))}:MemOp)])[t.size]?=some {g:=0,fn,pos,act:=.mark (.acquire (stA Wg))}:=by simp
 have f:=h.app0 (am B) A (fn:=fn) (pos:=pos) (es:=#[Go.ConcR.mk (.acquire (stA Wg))]) (λop a=>by
   rw[I] at a;simp at a;subst a;exact⟨rfl,λx v=>by simp[MemAct.touch?] at v⟩) (by intro e l;simp at l;subst l;simp[Go.ConcR.mk]) (λop a=>by
   rw[I] at a;simp at a;subst a;exact N)
 rw[I] at f ⊢;have F:(t++#[({g:=0,fn,pos,act:=.mark (.acquire (stA Wg))}:MemOp)]).act? t.size=some (.mark (.acquire (stA Wg))):=by rw[act?_of E]
 have n:(t++#[({g:=0,fn,pos,act:=.mark (.acquire (stA Wg))}:MemOp)]).g? t.size=some 0:=by simp[Trace.g?]
 have H:(t++#[({g:=0,fn,pos,act:=.mark (.acquire (stA Wg))}:MemOp)]).heard t.size:=⟨0,n,by rw[deaf_old (am _)];exact h.deaf0⟩;have q:∀d,d<j->∃r,RelBy (stA Wg) (t++#[({g:=0,fn,pos,act:=.mark (.acquire (stA Wg))}:MemOp)]) (K0+1+d) r/\nW Wg aV (t++#[({g:=0,fn,pos,act:=.mark (.acquire (stA Wg))}:MemOp)]) (K0+1+d) r/\
   HappensBefore (t++#[({g:=0,fn,pos,act:=.mark (.acquire (stA Wg))}:MemOp)]) r t.size:=λd K=>by
  obtain⟨r,o,s⟩:=h.rel d K (P d K);have G:=lt_of_act? o.act;have m:RelBy (stA Wg) (t++#[({g:=0,fn,pos,act:=.mark (.acquire (stA Wg))}:MemOp)]) (K0+1+d) r:=o.appNot λop a=>by simp at a;subst a;show 0≠_;omega
  exact⟨r,m,s.app λop a e=>by simp at a;subst a;have:(0:Nat)=K0+1+d:=e;omega,.single (.inr ⟨.marked G (.inr m.act) F (λk _ _=>f.norel k),m.heard,H⟩)⟩
 refine⟨f.ct.nr,λi op x p v L=> ?_,f.ct.quiet,λi g u y M=> ?_,by rw[f.deaf0];rfl,f.seen,λop a=> ?_⟩
 .rcases pm K0 op.g with w|z
  .obtain⟨d,J⟩:∃d,op.g=K0+1+d:=⟨op.g-(K0+1),by omega⟩;have:=f.ct.gs i op p;obtain⟨r,o,s,l⟩:=q d (by omega);rcases ui r i with c|c|c
   .exact absurd (s i op x c p J v) L
   .subst c;exact⟨t.size,_,E,rfl,.inr l⟩
   .exact⟨t.size,_,E,rfl,.inr (.trans (.single (.inl ⟨c,_,by simp only[Trace.g?,p,qe];rw[J],o.g⟩)) l)⟩
  .exact f.known i op x p z v L
 .rcases pm K0 g with w|z
  .obtain⟨d,rfl⟩:∃d,g=K0+1+d:=⟨g-(K0+1),by omega⟩;obtain⟨op,p,R⟩:=iS.1 u;have:=f.ct.gs i op p;obtain⟨r,o,s,l⟩:=q d (by omega);rcases ui r i with c|c|c
   .exact absurd M (o.after i c u)
   .subst c;exact⟨t.size,n,l⟩
   .exact⟨t.size,n,.trans (.single (.inl ⟨c,_,u,o.g⟩)) l⟩
  .exact f.over i g u y z M
 .obtain⟨i,Q⟩:=vN.1 a;exact f.ct.gs i op Q
def TI.begin(h:eW aV K0 B t)(E:∀(i:Nat) (x:Touch),touchAt t i=some x->∀a,x.loc=.cell a->a.block≠Wg)(A:NoRelease (stA Wg) t):TI Wg C K0 aV 0 t D O Rk 0 B:=by
 have j:∀k,k<=K0->∀l,¬abk C K0 O k l:=λk H l ⟨q,e,_⟩=>by omega
 have s:∀(i:Nat) (x:Touch),touchAt t i=some x->Shr Wg aV x.loc->ShL aV x.loc:=λi x f ⟨a,e,h⟩=>⟨a,e,h.resolve_left (E i x f a e)⟩;have u:∀l,¬Shr Wg aV l->Perm t 0 l:=λl n i a F e=>by
  obtain⟨op,d,r⟩:=touch_of F;exact h.known i op a d r λ⟨b,p,c⟩=>n (e▸⟨b,p,.inr c⟩)
 refine⟨⟨λi op x d f c=>h.quiet i op x d f (s i x (by rw[touchAt_of d];exact f) c),λk w v l n=>absurd n (j k v l),λk w v l ⟨q,e,_⟩=>by omega,λl c _=>u l c,λl c _=>.of (u l c),h.clean,λi op d=>h.gs op (qB d)⟩,
  A,h.hears,λq y=>by omega,λq y=>by omega,h.seen,λi g z m _ G=>h.over i g z m G,λi op x d _ f c=>h.known i op x d f λ⟨b,p,o⟩=>c ⟨b,p,.inr o⟩⟩
end
end
section
open Go.Conc Go.ConcN
open Go.ConcR (KK wgBlock WgAt stA smA rd wr mk Payload DC0 Bk g_of_ofEvents ofEvent_mk ofEvent_loc_mark loc_of_ofEvent bk_of_mute again_blocked)
variable [Payload]
section
variable {P:Program} {ty:TypeId} {Wg C n:Nat} {val:Nat->Value} {κ s m d:Nat} {R S:aq} {T:jH} {g:Goroutine} {w w':World}
def WK.rely(h:WK P ty Wg C n val κ R s m d T S g w)(b:jV ty Wg C (2*n) R (dS κ) S w w'):WK P ty Wg C n val κ R s m d T S g w':=by
 cases h with
 |work h=>
  have a:∀S x y z,jV ty Wg C (2*n) R (dS κ) S x y->jV ty Wg C (2*n) R (dS κ) S y z->jV ty Wg C (2*n) R (dS κ) S x z:=λ_ _ _ _ e c=>e.trans c;exact .work (GoT.rely a h b)
 |rest f h=>exact .rest f (h.rely (by rw[Nat.add_sub_cancel];exact b.rw (i:=2*κ) (by unfold dS;omega)))
def WK.status(h:WK P ty Wg C n val κ R s m d T S g w):g.status=.running\/g.status=.finished:=by
 cases h with
 |work h=>exact .inl (GoT.running (λ_ _ _ x=>x.1.1) (λ_ _=>jV.refl _ _ _ _) h)
 |rest a h=>exact h.status
def WK.woken(h:WK P ty Wg C n val κ R s m d T S g w)(a b:Goroutine)(w':World):woken P a b w' g=g:=by
 unfold Go.Conc.woken;split
 .exact again_running _ h.status
 .rfl
def WK.running_of(h:WK P ty Wg C n val κ R s m d T S g w)(a:s≠1):g.status=.running:=by
 cases h with
 |work h=>exact GoT.running (λ_ _ _ x=>x.1.1) (λ_ _=>jV.refl _ _ _ _) h
 |rest _ h=>exact h.running_of a
end
section
variable {P:Program} {ty:TypeId} {Wg C n:Nat} {val:Nat->Value} {aQ Fin:aq->aq->Goroutine->World->Prop} {tag:CTag} {j f d:Nat} {R S:aq} {T:jH} {a:Goroutine} {w w':World}
def fH.rely(h:fH P ty Wg C n val aQ Fin tag j R S T f d a w)(b:RM ty Wg C n R S w w'):fH P ty Wg C n val aQ Fin tag j R S T f d a w':=by
 have c:∀x y z,RM ty Wg C n R S x y->RM ty Wg C n R S y z->RM ty Wg C n R S x z:=λ_ _ _ m l=>m.trans l;have e:∀S x y z,jV ty Wg C (2*n) R noC S x y->jV ty Wg C (2*n) R noC S y z->jV ty Wg C (2*n) R noC S x z:=λ_ _ _ _ m l=>m.trans l;cases h with
 |skd g h=>exact .skd g (GoT.rely e h b)
 |sa1 g h=>exact .sa1 g (tw c h b)
 |ske g h=>exact .ske g (tw c h b)
 |sgo g h=>exact .sgo g (GoT.rely e h b)
 |kd h=>exact .kd (GoT.rely e h b)
 |anch h=>exact .anch (tw c h b)
 |w1 h=>exact .w1 (tw c h b)
 |w2 h=>exact .w2 (tw c h b)
 |w3 h=>exact .w3 (tw c h b)
 |blk h=>exact .blk (λk i=>h k (b.trans i))
 |w4 h=>exact .w4 (tw c h b)
 |ke h=>exact .ke (tw c h b)
 |acq h=>exact .acq (tw c h b)
def fH.status(c:∀R S g w,aQ R S g w->g.status=.running)(h:fH P ty Wg C n val aQ Fin tag j R S T f d a w):(a.status=.running/\tag ≠ .blk)\/(a.status=.blocked/\tag=.blk):=by
 have b:RM ty Wg C n R S w w:=.refl _ _ _ _;cases h with
 |skd _ h=>exact .inl ⟨GoT.running (λ_ _ _ x=>x.1) (λ_ _=>jV.refl _ _ _ _) h,by simp⟩
 |sa1 _ h=>exact .inl ⟨sD (λ_ _ x=>x.1) w b h,by simp⟩
 |ske _ h=>exact .inl ⟨sD (λ_ _ x=>x.1) w b h,by simp⟩
 |sgo _ h=>exact .inl ⟨GoT.running (λ_ _ _ x=>x.1) (λ_ _=>jV.refl _ _ _ _) h,by simp⟩
 |kd h=>exact .inl ⟨GoT.running (λ_ _ _ x=>x.1) (λ_ _=>jV.refl _ _ _ _) h,by simp⟩
 |anch h=>exact .inl ⟨sD (c _ _) w b h,by simp⟩
 |w1 h=>exact .inl ⟨sD (λ_ _ x=>x.1) w b h,by simp⟩
 |w2 h=>exact .inl ⟨sD (λ_ _ x=>x.1) w b h,by simp⟩
 |w3 h=>exact .inl ⟨sD (λ_ _ x=>x.1) w b h,by simp⟩
 |blk h=>exact .inr ⟨rfl,rfl⟩
 |w4 h=>exact .inl ⟨sD (λ_ _ x=>x.1) w b h,by simp⟩
 |ke h=>exact .inl ⟨sD (λ_ _ x=>x.1) w b h,by simp⟩
 |acq h=>exact .inl ⟨sD (λ_ _ x=>x.1) w b h,by simp⟩
def fH.wokenBy(i:∀R S g w,aQ R S g w->g.status=.running)(h:fH P ty Wg C n val aQ Fin tag j R S T f d a w)(p:RM ty Wg C n R S w w')(g g':Goroutine) :
  ∃c k,fH P ty Wg C n val aQ Fin c j R S T k d (woken P g g' w' a) w'/\k<=f+1/\(c=tag\/(tag=.blk/\c=.w3))/\(mayWake P g=true->g'.status=.running->c ≠ .blk):=by
 have b:=h.rely p;unfold Go.Conc.woken;split
 .rcases b.status i with⟨q,e⟩|⟨_,rfl⟩
  .exact⟨tag,f,by rw[again_running _ (.inl q)];exact b,by omega,.inl rfl,λ_ _=>e⟩
  .cases b with
   |blk m=>
    rename_i t;have l:=m w' (.refl _ _ _ _);exact⟨.w3,0+1,by rw[again_blocked l.1 l.2.1];exact .w3 (qA m),by omega,.inr ⟨rfl,rfl⟩,λ_ _=>by simp⟩
 .rename_i s;exact⟨tag,f,b,by omega,.inl rfl,λr o=>absurd (by simp[r,o]) s⟩
def fH.bound(h:fH P ty Wg C n val aQ Fin tag j R S T f d a w):j+pend tag<=n:=by
 cases h<;>simp only[pend]<;>(try simp)<;>omega
end
section
variable (P:Program) (ty:TypeId) (Wg C n K0:Nat) (val:Nat->Value) (aV:aq) (aQ Fin:aq->aq->Goroutine->World->Prop)
structure MI (j:Nat) (gs:Array Goroutine) (w:World) (t:Trace) (D:Nat->WD) (TV:Nat->jH) (R S:aq) (O Rk:Nat->aq) (q:Nat->Nat) (d0:Nat):Prop where
 size:gs.size=K0+1+j
 old:∀i g,0<i->i<=K0->gs[i]?=some g->QuitsD P (q i) (Deaf t i) g
 wk:∀κ,κ<j->∃g,gs[K0+1+κ]?=some g/\WK P ty Wg C n val κ (Rk κ) (D κ).stage (D κ).fuel (D κ).deaf (TV (κ+1)) (O κ) g w
 ti:TI Wg C K0 aV j t D O Rk d0 w.heap.size
 cA:Sets Wg C aV w R S O Rk
 has:∀κ,κ<j->(D κ).stage<=6->Has C (2*κ) (val (2*κ)) w/\Has C (2*κ+1) (val (2*κ+1)) w
 pay:PayAt C (2*n) w
 unO:∀κ,j<=κ->O κ=λ_=>False
def aay(μ:Mu)(m:Machine)(t:Trace):Prop:=
 ∃(d:Array Goroutine) (w:World) (sl:Option (Nat×Nat)) (j:Nat) (D:Nat->WD) (c:Nat->jH) (R S:aq) (O i:Nat->aq) (q:Nat->Nat) (b:CTag) (g e:Nat) (a:Goroutine) (f sm:Int),
  m=crowd d w sl/\d[0]?=some a/\fH P ty Wg C n val aQ Fin b j R S (c 0) g e a w/\MI P ty Wg C n K0 val aV j d w t D c R S O i q e/\WgAt ty Wg w f sm/\ConcN.Mode j D b f sm/\
  μ=(phi n (Vc j D) b+Ssum j D,(c,g+2*Fsum j D+2*sumTo (K0+1) q))
def aoq(m:Machine)(t:Trace):Prop:=
 ∃(d:Array Goroutine) (w:World) (sl:Option (Nat×Nat)) (a:Goroutine) (q:Nat->Nat) (R S:aq),
  m=crowd d w sl/\d[0]?=some a/\d.size=K0+1+n/\Fin R S a w/\Leavers P t d q/\eW (λb=>b=Wg\/aV b) (K0+n) w.heap.size t/\PayAt C (2*n) w/\(∀c,c<n->Has C (2*c) (val (2*c)) w/\Has C (2*c+1) (val (2*c+1)) w)/\WgLive ty Wg w/\
  (∀b,aV b\/b=Wg->¬R b/\¬S b/\b≠C/\b<w.heap.size)
end
section
variable {P:Program} {ty:TypeId} {Wg C n K0:Nat} {val:Nat->Value} {aV:aq} {aQ Fin:aq->aq->Goroutine->World->Prop}
 {gs:Array Goroutine} {w w':World} {sl:Option (Nat×Nat)} {j:Nat} {D:Nat->WD} {TV:Nat->jH} {R S:aq} {O Rk:Nat->aq} {q:Nat->Nat} {tag:CTag} {f0 d0:Nat} {a:Goroutine} {t:Trace} {st sm:Int}
omit [Payload] in
def aka{a:Type}(f:Nat->a)(i:Nat):upd f i (f i)=f:=by
 funext x
 by_cases e:x=i
 .subst e;rw[ql]
 .rw[qN f _ e]
def MI.at(h:MI P ty Wg C n K0 val aV j gs w t D TV R S O Rk q d0)(d:Nat):MI P ty Wg C n K0 val aV j gs (w.at d) t D TV R S O Rk q d0:=
 ⟨h.size,h.old,λc b=>let⟨g,a,e⟩:=h.wk c b;⟨g,a,e.rely (.at _ _ _ w d)⟩,h.ti,h.cA.at d,h.has,h.pay,h.unO⟩
def pP (a3:∀R S g w,aQ R S g w->g.status=.running) (ha:gs[0]?=some a) (lS:fH P ty Wg C n val aQ Fin tag j R S (TV 0) f0 d0 a w) (m:MI P ty Wg C n K0 val aV j gs w t D TV R S O Rk q d0)
  (M:κ<j) {g g':Goroutine} {s' : Nat} {T':jH} {F:aq} {A u:Int} (hg:gs[K0+1+κ]?=some g) (a5:stepG P false g w=.go g' w' es)
  (p:RM ty Wg C n R S w w') (G:∀c,c<j->c≠κ->jV ty Wg C (2*n) (Rk c) (dS c) (O c) w w')
  (T:WK P ty Wg C n val κ (Rk κ) s' m' V T' F g' w') (hO:∀b,O κ b->F b) (I:∀b,F b->O κ b\/(w.heap.size<=b/\b<w'.heap.size))
  (Z:∀op∈MemOp.ofEvents (K0+1+κ) g.frame.fn g.frame.place es,OkW (Shr Wg aV) (abk C K0 (upd O κ F)) (RdL K0 Rk) (K0+1+κ) op) (X:∀e∈es,e.loc ≠ .mark (.release (stA Wg)))
  (U:deafBehind (D κ).deaf es=V) (a4:∀op∈MemOp.ofEvents (K0+1+κ) g.frame.fn g.frame.place es,op.act.low w'.heap.size)
  (hrel:s'<=6->∃r,RelBy (stA Wg) (t++MemOp.ofEvents (K0+1+κ) g.frame.fn g.frame.place es) (K0+1+κ) r/\nW Wg aV (t++MemOp.ofEvents (K0+1+κ) g.frame.fn g.frame.place es) (K0+1+κ) r)
  (a0:s'<=6->Has C (2*κ) (val (2*κ)) w'/\Has C (2*κ+1) (val (2*κ+1)) w') (a2:PayAt C (2*n) w') (fA:WgAt ty Wg w' A u)
  (bj:∀o,(o=tag\/(tag=.blk/\o=.w3))->(mayWake P g=true->g'.status=.running->o ≠ .blk)->ConcN.Mode j (upd D κ ⟨s',m',V⟩) o A u)
  (a1:(s'<(D κ).stage/\cnt ⟨s',m',V⟩<=cnt (D κ))\/(s'=(D κ).stage/\jH.Lt T' (TV (κ+1)))\/(s'=(D κ).stage/\T'=TV (κ+1)/\m'+1=(D κ).fuel)) :
  ∃l H mM,runT P (crowd gs w sl) (K0+1+κ)=(.next l,H)/\abi (n+1) mM (phi n (Vc j D) tag+Ssum j D,(TV,f0+2*Fsum j D+2*sumTo (K0+1) q))/\aay P ty Wg C n K0 val aV aQ Fin mM l (t++H):=by
 obtain⟨o,f',pQ,a6,J,Y⟩:=lS.wokenBy a3 p g g';have s:(K0+1+κ ==0)=false:=by simp
 have B:=tj (P:=P) (sl:=sl) (i:=K0+1+κ) hg (by rw[s];exact a5);have e1:=sumTo_upd D (⟨s',m',V⟩:WD) cnt M;have e2:=sumTo_upd D (⟨s',m',V⟩:WD) WD.stage M;have e3:=sumTo_upd D (⟨s',m',V⟩:WD) WD.fuel M;have hb:=lS.bound;have E:=m.cA.aA1 (w':=w') p.size I;refine⟨_,_,(phi n (Vc j (upd D κ ⟨s',m',V⟩)) o+Ssum j (upd D κ ⟨s',m',V⟩),(upd TV (κ+1) T',f'+2*Fsum j (upd D κ ⟨s',m',V⟩)+2*sumTo (K0+1) q)),B, ?_,
  _,w',sl,j,upd D κ ⟨s',m',V⟩,upd TV (κ+1) T',R,S,upd O κ F,Rk,q,o,f',d0,woken P g g' w' a,A,u,rfl,by rw[sX _ _ _ _ (by omega),ha];rfl,by rw[qN TV _ (by omega)];exact pQ, ?_,fA,bj o J Y,rfl⟩
 .rw[phi_retag n _ J];simp only[Vc,Ssum,Fsum] at *;rcases a1 with⟨Q,L⟩|⟨Q,L⟩|⟨Q,L,h3⟩
  .refine Prod.Lex.left _ _ ?_;have:=phi_mono n (v':=sumTo j λa=>cnt (upd D κ ⟨s',m',V⟩ a)) (v:=sumTo j λa=>cnt (D a)) (by omega) tag;omega
  .have ec:cnt (⟨s',m',V⟩:WD)=cnt (D κ):=by simp only[cnt,Q]
   have W:(sumTo j λa=>cnt (upd D κ ⟨s',m',V⟩ a))=sumTo j λa=>cnt (D a):=by omega
   have z:(sumTo j λa=>(upd D κ ⟨s',m',V⟩ a).stage)=sumTo j λa=>(D a).stage:=by omega
   rw[W,z];refine Prod.Lex.right _ (Prod.Lex.left _ _ ⟨κ+1,by omega,by rw[ql];exact L,λk hk=>qN TV _ hk⟩)
  .have ec:cnt (⟨s',m',V⟩:WD)=cnt (D κ):=by simp only[cnt,Q]
   have W:(sumTo j λa=>cnt (upd D κ ⟨s',m',V⟩ a))=sumTo j λa=>cnt (D a):=by omega
   have z:(sumTo j λa=>(upd D κ ⟨s',m',V⟩ a).stage)=sumTo j λa=>(D a).stage:=by omega
   rw[W,z,L,aka];refine Prod.Lex.right _ (Prod.Lex.right _ ?_);omega
 .refine⟨by simp[m.size],λi x s hi N=> ?_,λc d=> ?_,m.ti.appW p.size M E.apart hO (λb x=>(I b x).imp id (·.1)) Z X U a4 hrel,E,λc d f=> ?_,a2,λc d=>by rw[qN O _ (by omega)];exact m.unO c d⟩
  .rw[sX _ _ _ _ (by omega)] at N;obtain⟨y,hy,rfl⟩:=iS.1 N;have hq:=m.old i y s hi hy;rw[sY hq,rr t (by omega) _ g_of_ofEvents];exact hq
  .by_cases e:c=κ
   .subst e;exact⟨g',uy _ _ _ (by rw[m.size];omega),by rw[ql,ql,ql];exact T⟩
   .obtain⟨x,N,K⟩:=m.wk c d;refine⟨x,by rw[sX _ _ _ _ (by omega),N,qe,K.woken], ?_⟩;rw[qN D _ e,qN TV _ (by omega),qN O _ e];exact K.rely (G c d e)
  .by_cases e:c=κ
   .subst e;rw[ql] at f;exact a0 f
   .rw[qN D _ e] at f;have hh:=m.has c d f;have hr:=G c d e;exact⟨(hr.cell (2*c) (by unfold dS;omega)).trans hh.1,(hr.cell (2*c+1) (by unfold dS;omega)).trans hh.2⟩
def jW (ha:gs[0]?=some a) (d:MI P ty Wg C n K0 val aV j gs w t D TV R S O Rk q d0)
  {dX:CTag} {f':Nat} {T':jH} {I:aq} {l g:Int} (G:stepG P true a w=.go T w' es)
  (N:w.heap.size<=w'.heap.size) (m:∀c,c<j->jV ty Wg C (2*n) (Rk c) (dS c) (O c) w w') (E:∀b,I b->S b\/(w.heap.size<=b/\b<w'.heap.size))
  (J:∀op∈MemOp.ofEvents 0 a.frame.fn a.frame.place es,Ok0 (Shr Wg aV) (abk C K0 O) (RdL K0 Rk) (K0+j) op) (B:∀e∈es,e.loc ≠ .mark (.release (stA Wg))) (F:∀op∈MemOp.ofEvents 0 a.frame.fn a.frame.place es,op.act.low w'.heap.size)
  (z:PayAt C (2*n) w') (Y:fH P ty Wg C n val aQ Fin dX j R I T' f' (deafBehind d0 es) T w') (X:WgAt ty Wg w' l g) (bj:ConcN.Mode j D dX l g)
  (v:phi n (Vc j D) dX<phi n (Vc j D) tag\/(phi n (Vc j D) dX=phi n (Vc j D) tag/\(jH.Lt T' (TV 0)\/(T'=TV 0/\f'<f0)))) :
  ∃f p V,runT P (crowd gs w sl) 0=(.next f,p)/\abi (n+1) V (phi n (Vc j D) tag+Ssum j D,(TV,f0+2*Fsum j D+2*sumTo (K0+1) q))/\aay P ty Wg C n K0 val aV aQ Fin V f (t++p):=by
 have r:=tj (P:=P) (sl:=sl) (i:=0) ha (by simpa using G);have H:=d.cA.axj (w':=w') N E;refine⟨_,_,(phi n (Vc j D) dX+Ssum j D,(upd TV 0 T',f'+2*Fsum j D+2*sumTo (K0+1) q)),r, ?_,
  _,w',sl,j,D,upd TV 0 T',R,I,O,Rk,q,dX,f',deafBehind d0 es,T,l,g,rfl,uy _ _ _ (by rw[d.size];omega),by rw[ql];exact Y, ?_,X,bj,rfl⟩
 .rcases v with h|⟨M,h|⟨W,h3⟩⟩
  .exact Prod.Lex.left _ _ (by omega)
  .rw[M];exact Prod.Lex.right _ (Prod.Lex.left _ _ ⟨0,by omega,by rw[ql];exact h,λk Z=>qN TV _ Z⟩)
  .rw[M,W,aka];exact Prod.Lex.right _ (Prod.Lex.right _ (by omega))
 .refine⟨by simp[d.size],λi x K hi u=> ?_,λc o=> ?_,d.ti.app0 N d.cA.apart J B F,H,λc o A=> ?_,z,d.unO⟩
  .rw[sX _ _ _ _ (by omega)] at u;obtain⟨y,hy,rfl⟩:=iS.1 u;have L:=d.old i y K hi hy;rw[sY L,rr t (by omega) _ g_of_ofEvents];exact L
  .obtain⟨x,u,s⟩:=d.wk c o;refine⟨x,by rw[sX _ _ _ _ (by omega),u,qe,s.woken], ?_⟩;rw[qN TV _ (by omega)];exact s.rely (m c o)
  .have Q:=d.has c o A;have U:=m c o;exact⟨(U.cell (2*c) (by unfold dS;omega)).trans Q.1,(U.cell (2*c+1) (by unfold dS;omega)).trans Q.2⟩
def asu (z:∀R S g w,aQ R S g w->g.status=.running) (ha:gs[0]?=some a) (U:fH P ty Wg C n val aQ Fin tag j R S (TV 0) f0 d0 a w) (c:MI P ty Wg C n K0 val aV j gs w t D TV R S O Rk q d0) (N:WgAt ty Wg w st sm) (bj:ConcN.Mode j D tag st sm)
  (l:0<i) (hi:i<=K0) {g:Goroutine} (G:gs[i]?=some g) (b:g.status=.running) :
  ∃d o J,runT P (crowd gs w sl) i=(.next d,o)/\abi (n+1) J (phi n (Vc j D) tag+Ssum j D,(TV,f0+2*Fsum j D+2*sumTo (K0+1) q))/\aay P ty Wg C n K0 val aV aQ Fin J d (t++o):=by
 have u:=c.old i g l hi G;cases f:q i with
 |zero=>rw[f] at u;rw[u.1] at b;cases b
 |succ k=>
  rw[f] at u;rcases u with⟨W,_⟩|⟨_,H,es,hm,A,F⟩
  .rw[W] at b;cases b
  have v:(i ==0)=false:=by simp;omega
  have B:=tj (P:=P) (sl:=sl) (i:=i) G (by rw[v];exact A w);obtain⟨L,I,Q,V,r,X⟩:=U.wokenBy z (.refl _ _ _ w) g H;have M:sumTo (K0+1) (upd q i k)+(k+1)=sumTo (K0+1) q+k:=by
   have:=sumTo_upd q k id (show i<K0+1 by omega);simpa[f] using this
  refine⟨_,_,(phi n (Vc j D) L+Ssum j D,(TV,I+2*Fsum j D+2*sumTo (K0+1) (upd q i k))),B, ?_,
   _,w,sl,j,D,TV,R,S,O,Rk,upd q i k,L,I,d0,woken P g H w a,st,sm,rfl,by rw[sX _ _ _ _ (by omega),ha];rfl,Q, ?_,N,bj.retag r,rfl⟩
  .rw[phi_retag n _ r];exact Prod.Lex.right _ (Prod.Lex.right _ (by omega))
  .refine⟨by simp[c.size],λK x l E m=> ?_,λT Y=> ?_,c.ti.ayO (by omega) hi hm,c.cA,c.has,c.pay,c.unO⟩
   .by_cases e:i=K
    .subst e;rw[uy _ _ _ (by rw[c.size];omega)] at m;obtain rfl:=ef m;rw[ql,Deaf_own];exact F
    .rw[sX _ _ _ _ e] at m;obtain⟨y,Z,rfl⟩:=iS.1 m;have p:=c.old K y l E Z;rw[sY p,qN q k (sj e),rr t e _ g_of_ofEvents];exact p
   .obtain⟨x,m,s⟩:=c.wk T Y;exact⟨x,by rw[sX _ _ _ _ (by omega),m,qe,s.woken],s⟩
end
end
section
open Go.Conc Go.ConcN
open Go.ConcR (KK wgBlock WgAt stA smA rd wr mk Payload DC0 Bk g_of_ofEvents ofEvent_mk ofEvent_loc_mark loc_of_ofEvent bk_of_mute again_blocked)
section
variable {Wg C K0:Nat} {aV:aq}
def amB(h:ShN Wg l):Shr Wg aV l:=let⟨a,e,h⟩:=h;⟨a,e,.inl h⟩
def akb(h:Bk Wg e)(b:(MemAct.ofEvent e).touch?=some x):Shr Wg aV x.loc:=by
 rcases h with h|h|⟨a,wr,rfl,c⟩
 .rw[ofEvent_loc_mark h] at b;cases b
 .rw[ofEvent_loc_mark h] at b;cases b
 .simp[MemAct.ofEvent,MemAct.touch?] at b;subst b;exact⟨a,rfl,.inl c⟩
def ayQ(h:Bk Wg e)(b:Wg<B):(MemAct.ofEvent e).low B:=by
 rcases h with h|h|⟨a,wr,rfl,c⟩
 .rw[ofEvent_loc_mark h];trivial
 .rw[ofEvent_loc_mark h];trivial
 .show a.block<B;omega
def ayR{Rd : Nat->Loc->Prop}{fn:FuncId}(h:∀e∈es,Bk Wg e):∀op∈MemOp.ofEvents k fn pos es,OkW (Shr Wg aV) Own Rd k op:=λop c=>
 let⟨g,d⟩:=okW_of_Bk (Own:=Own) (Rd:=Rd) h op c;⟨g,λx f=>(d x f).imp (λ⟨a,b⟩=>⟨amB a,b⟩) id⟩
def asv{Rd : Nat->Loc->Prop}{j:Nat}{fn:FuncId}(h:∀e∈es,Bk Wg e):∀op∈MemOp.ofEvents 0 fn pos es,Ok0 (Shr Wg aV) Own Rd j op:=λop c=>by
 obtain⟨e,d,rfl⟩:=lE c;exact⟨rfl,λx b=>.inl ⟨akb (h e d) b,by
  rcases h e d with h|h|⟨a,wr,rfl,f⟩
  .simp only[ofEvent_loc_mark h] at b;cases b
  .simp only[ofEvent_loc_mark h] at b;cases b
  .simp[MemAct.ofEvent,MemAct.touch?] at b;subst b;simp⟩⟩
def avv{R d:aq}{O c:Nat->aq}{fn:FuncId}(k:O κ=d)(j:c κ=R)(h:∀e∈es,EvP Wg C R (dS κ) d B e) :
  ∀op∈MemOp.ofEvents (K0+1+κ) fn pos es,OkW (Shr Wg aV) (abk C K0 O) (RdL K0 c) (K0+1+κ) op:=λop b=>by
 obtain⟨e,i,rfl⟩:=lE b;refine⟨rfl,λx g=> ?_⟩;rcases(h e i).touch x g with a|a|⟨a,f⟩
 .exact .inr (.inl ⟨κ,rfl,.inl (k▸a)⟩)
 .exact .inr (.inl ⟨κ,rfl,.inr a⟩)
 .exact .inr (.inr ⟨⟨κ,rfl,j▸a⟩,f⟩)
def aor{R c b:aq}{fn:FuncId}(h:∀e∈es,EvP Wg C R c b B e):∀op∈MemOp.ofEvents g fn pos es,op.act.low B:=λop a=>by
 obtain⟨e,d,rfl⟩:=lE a;exact(h e d).low
def aix(b:Wg<B){fn:FuncId}(h:∀e∈es,Bk Wg e):∀op∈MemOp.ofEvents g fn pos es,op.act.low B:=λop a=>by
 obtain⟨e,c,rfl⟩:=lE a;exact ayQ (h e c) b
end
section
variable [Payload] {P:Program} {ty:TypeId} {Wg C n K0:Nat} {val:Nat->Value} {aV:aq} {aQ Fin:aq->aq->Goroutine->World->Prop}
 {gs:Array Goroutine} {w w':World} {sl:Option (Nat×Nat)} {j:Nat} {D:Nat->WD} {TV:Nat->jH} {R S:aq} {O Rk:Nat->aq} {q:Nat->Nat} {tag:CTag} {f0 d0:Nat} {a:Goroutine} {t:Trace} {st sm:Int}
def MI.wgO(h:MI P ty Wg C n K0 val aV j gs w t D TV R S O Rk q d0)(d:Aside Wg w w')(a:WgLive ty Wg w')(κ:Nat):jV ty Wg C (2*n) (Rk κ) (dS κ) (O κ) w w':=
 .of_wg d a (λb c e=>by subst e;exact c.elim (h.cA.wo κ) λx=>h.cA.wr (h.cA.rk κ _ x)) h.cA.cw
def MI.wgM(h:MI P ty Wg C n K0 val aV j gs w t D TV R S O Rk q d0)(c:Aside Wg w w')(d:WgLive ty Wg w'):RM ty Wg C n R S w w':=
 .of_wg c d (λb a e=>by subst e;exact a.elim h.cA.ws h.cA.wr) h.cA.cw
def akc (hn:n<2147483648) (an:∀R S g w,aQ R S g w->g.status=.running) (N:gs[0]?=some a) (lS:fH P ty Wg C n val aQ Fin tag j R S (TV 0) f0 d0 a w) (p:MI P ty Wg C n K0 val aV j gs w t D TV R S O Rk q d0) (G:WgAt ty Wg w st sm) (bj:ConcN.Mode j D tag st sm)
  (F:κ<j) {g:Goroutine} (hg:gs[K0+1+κ]?=some g) (U:g.status=.running) :
  ∃l E mM,runT P (crowd gs w sl) (K0+1+κ)=(.next l,E)/\abi (n+1) mM (phi n (Vc j D) tag+Ssum j D,(TV,f0+2*Fsum j D+2*sumTo (K0+1) q))/\aay P ty Wg C n K0 val aV aQ Fin mM l (t++E):=by
 obtain⟨b0,aP,hs⟩:=p.wk κ F;obtain rfl:g=b0:=by rw[hg] at aP;exact ef aP
 have hb:=lS.bound;have bk:=Vc_le j D;have a9:=p.ti.deafW κ F;have hW:=p.cA.wlt;generalize A:(D κ).stage=s at hs;generalize b6:(D κ).fuel=m at hs;generalize a3:(D κ).deaf=dd at hs;rw[a3] at a9;cases hs with
 |work h=>
  rcases h.cases with bZ|⟨f,hT,_,d⟩
  .obtain⟨⟨_,a0,u,c,B,hk⟩,b4⟩:=bZ w (.refl _ _ _ w);rw[Nat.add_sub_cancel] at a0;have e1:MemOp.ofEvents (K0+1+κ) g.frame.fn g.frame.place #[mk (.releaseMerge (stA Wg))]=#[{g:=K0+1+κ,fn:=g.frame.fn,pos:=g.frame.place,act:=.mark (.releaseMerge (stA Wg))}]:=by rw[ofEvents_eq];simp[ofEvent_mk]
   refine pP (T':=TV (κ+1)) an N lS p F hg c (.refl _ _ _ w) (λ_ _ _=>.refl _ _ _ w) (.rest (by omega) (.k1 hk)) (λ_ x=>x) (λ_ x=>.inl x) (λop J=> ?_) (by intro e k;simp at k;subst k;simp[mk]) (by rw[a3];rfl) (λop J=> ?_)
    (λ_=>⟨t.size,RelBy.new a9 _ _,λi op x hi ho _ _=> ?_⟩) (λ_=>⟨a0,b4⟩) p.pay G (λ_ ht _=>(bj.counted F (by omega) (.inl rfl) _ _).retag ht) (.inl ⟨by omega,by simp[cnt,A]⟩)
   .rw[e1] at J;simp at J;subst J;exact⟨rfl,λx hx=>by simp[MemAct.touch?] at hx⟩
   .rw[e1] at J;simp at J;subst J;exact hW
   .have:=lt_size_of_getElem? ho;rw[e1] at this;simp at this;omega
  .obtain⟨u,w',es,S',c,hG,b7⟩:=d w (.refl _ _ _ w);have Z:Wg<w.heap.size/\¬O κ Wg/\Wg≠C:=⟨hW,p.cA.wo κ,λe=>p.cA.cw e.symm⟩;have b8:WgAt ty Wg w' st sm:=G.of_block (hG.keep Wg Z.1 Z.2.1 Z.2.2);refine pP an N lS p F hg c
    (.amy hG (λb hb=>hb.elim (λx=>⟨p.cA.slt b x,λy=>p.cA.os κ b y x,λe=>p.cA.cs (e▸x)⟩) λx=>⟨p.cA.rlt b x,λy=>p.cA.orr κ b y x,λe=>p.cA.cr (e▸x)⟩) (λi x=>x.elim) Z)
    (λgT _ ax=>.amy hG (λb hb=>hb.elim (λx=>⟨p.cA.olt gT b x,λy=>ax (p.cA.oo gT κ b x y),λe=>p.cA.co gT (e▸x)⟩) λx=>⟨p.cA.rlt b (p.cA.rk gT b x),λy=>p.cA.orr κ b y (p.cA.rk gT b x),λe=>p.cA.cr (e▸p.cA.rk gT b x)⟩) (λi x y=>ax (x.symm.trans y)) Z)
    (.work b7) hG.mono hG.new (avv (by rw[ql]) rfl hG.ev) (λe k=>(hG.ev e k).rel) (by rw[a3];exact tH (λe k=>⟨(hG.ev e k).dis,(hG.ev e k).en⟩) 0) (aor hG.ev)
    (λh=>by omega) (λh=>by omega) (hG.pay p.pay) b8 (λ_ ht _=>ConcN.Mode.retag (by have:=bj.same (i:=κ) 0 0;rwa [A] at this) ht) (.inr (.inl ⟨A.symm,by rw[hT];exact⟨f,w,rfl,rfl⟩⟩))
 |rest h6 h=>
  have ay:∀{u:Goroutine} {w':World} {es:Array Event} {V I H:Nat} {W Y:Int},stepG P false g w=.go u w' es->Aside Wg w w'->WgAt ty Wg w' W Y->(∀e∈es,Bk Wg e)->
    (∀jx e,es[jx]?=some e->(MemAct.ofEvent e).touch?=none\/0<deafBehind dd (es.extract 0 jx))->WSit P ty Wg C (2*n) FF FF 0 (2*κ+1) (val (2*κ)) V I H u w'->deafBehind dd es=H->V<=6->
    (∀dX,(dX=tag\/(tag=.blk/\dX=.w3))->(mayWake P g=true->u.status=.running->dX ≠ .blk)->ConcN.Mode j (upd D κ ⟨V,I,H⟩) dX W Y)->((V<s/\cnt ⟨V,I,H⟩<=cnt (D κ))\/(V=s/\I+1=m))->
    ∃l E mM,runT P (crowd gs w sl) (K0+1+κ)=(.next l,E)/\abi (n+1) mM (phi n (Vc j D) tag+Ssum j D,(TV,f0+2*Fsum j D+2*sumTo (K0+1) q))/\aay P ty Wg C n K0 val aV aQ Fin mM l (t++E):=by
   intro u w' es V I H W Y c Q a4 kx hd a1 af bb a6 aa;obtain⟨cs,b9,b3⟩:=p.pay;have hl:WgLive ty Wg w':=⟨_,_,a4⟩;have a0:=p.has κ F (by omega);have ec:∀o,w'.cell? ⟨C,o,none⟩=w.cell? ⟨C,o,none⟩:=uq (Q.block C p.cA.cw);exact pP an N lS p F hg c (p.wgM Q hl) (λgT _ _=>p.wgO Q hl gT) (.rest bb a1) (λ_ x=>x) (λ_ x=>.inl x) (ayR kx) (norel_of_Bk kx) (by rw[a3];exact af) (aix (by rw[Q.size];exact hW) kx)
    (λ_=>let⟨r,hr,ba⟩:=p.ti.rel κ F (by omega);⟨r,hr.book a9 _ _ kx hd,ba.app λop J _ x hx=>by obtain⟨e,k,rfl⟩:=lE J;exact akb (kx e k) hx⟩)
    (λ_=>⟨(ec _).trans a0.1,(ec _).trans a0.2⟩) ⟨cs,(Q.block C p.cA.cw).trans b9,b3⟩ a4 a6
    (by rw[A,b6];exact aa.imp id λx=>.inr ⟨x.1,rfl,x.2⟩)
  have z:∀{u:Goroutine} {w':World} {es:Array Event} {V I H:Nat} {W Y:Int},stepG P false g w=.go u w' es->Aside Wg w w'->WgAt ty Wg w' W Y->(∀e∈es,Bk Wg e)->
    (∀jx e,es[jx]?=some e->(MemAct.ofEvent e).touch?=none\/0<deafBehind dd (es.extract 0 jx))->WSit P ty Wg C (2*n) FF FF 0 (2*κ+1) (val (2*κ)) V I H u w'->deafBehind dd es=H->V<=6->
    ConcN.Mode j (upd D κ ⟨V,I,H⟩) tag W Y->((V<s/\cnt ⟨V,I,H⟩<=cnt (D κ))\/(V=s/\I+1=m))->
    ∃l E mM,runT P (crowd gs w sl) (K0+1+κ)=(.next l,E)/\abi (n+1) mM (phi n (Vc j D) tag+Ssum j D,(TV,f0+2*Fsum j D+2*sumTo (K0+1) q))/\aay P ty Wg C n K0 val aV aQ Fin mM l (t++E):=
   λc Q a4 kx hd a1 af h6 a6 aa=>ay c Q a4 kx hd a1 af h6 (λ_ ht _=>a6.retag ht) aa
  have K:∀{u:Goroutine} {I:Nat},stepG P false g w=.go u w #[]->WSit P ty Wg C (2*n) FF FF 0 (2*κ+1) (val (2*κ)) s I dd u w->I+1=m->
    ∃l E mM,runT P (crowd gs w sl) (K0+1+κ)=(.next l,E)/\abi (n+1) mM (phi n (Vc j D) tag+Ssum j D,(TV,f0+2*Fsum j D+2*sumTo (K0+1) q))/\aay P ty Wg C n K0 val aV aQ Fin mM l (t++E):=by
   intro u I c a1 hm;exact z c (.refl Wg w) G (by simp) (by simp) a1 rfl h6 (by have:=bj.same (i:=κ) I dd;rwa [A] at this) (.inr ⟨rfl,hm⟩)
  cases h with
  |r0 h=>omega
  |k1 h=>
   rcases rL h with bZ|⟨I,rfl,d⟩
   .obtain⟨_,u,c,B,hk⟩:=bZ w (tZ w);exact z c (.refl Wg w) G (by intro e k;simp at k;subst k;exact .inl rfl) (by intro jx e k;exact .inl (by have:=qB k;simp at this;subst this;rfl)) (.d1 hk) rfl (by omega)
     (bj.counted F (by omega) (.inr rfl) _ _) (.inl ⟨by omega,by simp[cnt,A]⟩)
   .obtain⟨u,w',es,c,⟨rfl,rfl⟩,mg⟩:=d w (tZ w);exact K c (.k1 mg) rfl
  |d1 h=>
   rcases rL h with bZ|⟨I,rfl,d⟩
   .obtain⟨_,a5⟩:=bZ w (tZ w);have bf:cnt (D κ)=1:=by simp[cnt,A]
    have bi:1<=Vc j D:=by have:=le_sumTo (f:=λx=>cnt (D x)) F;simp only[Vc];omega
    have a7:∀e∈#[rd (stA Wg),wr (stA Wg)],Bk Wg e:=by intro e k;simp at k;rcases k with rfl|rfl<;>exact ConcN.bk_cell _ _ rfl
    have ad:∀jx e,(#[rd (stA Wg),wr (stA Wg)]:Array Event)[jx]?=some e->(MemAct.ofEvent e).touch?=none\/0<deafBehind 1 ((#[rd (stA Wg),wr (stA Wg)]:Array Event).extract 0 jx):=by
     intro jx e k
     match jx,k with
     |0,_=>exact .inr (by simp[deafBehind])
     |1,_=>exact .inr (by simp[deafBehind,rd])
     |jx+2,k=>simp at k
    have aG:∀q,cnt (⟨1,q,1⟩:WD)=0:=λ_=>rfl;have aK:∀q,OpenSt j D->OpenSt j (upd D κ ⟨1,q,1⟩):=λq h a N=>by
     by_cases e:a=κ
     .subst e;rw[ql];simp
     .rw[qN D _ e];exact h a N
    cases bj with
    |opn h1 h2 h3=>
     obtain⟨v,hv⟩:∃v,Vc j D+pend tag=v+1:=⟨Vc j D+pend tag-1,by omega⟩;rw[hv] at G;have bq:WgAt ty Wg w (((v:Nat)+1)*KK+((0:Nat):Int)) 0:=by simpa using G
     obtain⟨u,c,_,X⟩:=a5 v 0 (by omega) (by omega) bq;obtain⟨M,X⟩:=X (by omega);have al:Vc j (upd D κ ⟨1,M,1⟩)+pend tag=v:=by have:=Vc_upd D (⟨1,M,1⟩:WD) F;have:=aG M;omega
     refine z c (sP w (stA Wg) _) (G.setSt _) a7 ad (.quit X) rfl (by omega) ?_ (.inl ⟨by omega,by simp[cnt]⟩);have e:((v:Nat):Int)*KK+((0:Nat):Int)=((Vc j (upd D κ ⟨1,M,1⟩)+pend tag:Nat):Int)*KK:=by rw[al];simp
     rw[e];exact .opn h1 (aK M h2) (λvs ev=>by have:=h3 vs ev;omega)
    |reg h1 h2 h3=>
     obtain⟨v,hv⟩:∃v,Vc j D=v+1:=⟨Vc j D-1,by omega⟩;rw[hv] at G;have hp:pend tag=0:=by cases tag<;>first|rfl|exact h1.elim
     have bq:WgAt ty Wg w (((v:Nat)+1)*KK+((1:Nat):Int)) 0:=by simpa using G
     obtain⟨u,c,hl,X⟩:=a5 v 1 (by omega) (by omega) bq;by_cases bc:v=0
     .subst bc;obtain⟨B,hk⟩:=hl ⟨rfl,rfl⟩;refine z c (sP w (stA Wg) _) (G.setSt _) a7 ad (.d2 hk) rfl (by omega) ?_ (.inl ⟨by omega,by simp[cnt]⟩);have T:∀a,a<j->a≠κ->(D a).stage=1:=λa N e=>by
       have c0:=others_uncounted F hv bf a N e;have:=h2 a N;simp only[cnt] at c0;split at c0<;>omega
      have:=ConcN.Mode.last (j:=j) (D:=upd D κ ⟨4,B,1⟩) (tag:=tag) κ h1 F (by rw[ql];simp) (λa N e=>by rw[qN D _ e];exact T a N e);rw[ql] at this;simpa using this
     .obtain⟨M,X⟩:=X (by omega);have al:Vc j (upd D κ ⟨1,M,1⟩)=v:=by have:=Vc_upd D (⟨1,M,1⟩:WD) F;have:=aG M;omega
      refine z c (sP w (stA Wg) _) (G.setSt _) a7 ad (.quit X) rfl (by omega) ?_ (.inl ⟨by omega,by simp[cnt]⟩);have e:((v:Nat):Int)*KK+((1:Nat):Int)=((Vc j (upd D κ ⟨1,M,1⟩):Nat):Int)*KK+1:=by rw[al];simp
      rw[e];exact .reg h1 (aK M h2) (by omega)
    |last L _ h2 h3 h4=>
     by_cases e:κ=L
     .subst e;omega
     .have:=h4 κ F e;omega
    |sema h2=>have:=h2 κ F;omega
    |fin _ h2=>have:=h2 κ F;omega
   .obtain⟨u,w',es,c,⟨rfl,rfl⟩,mg⟩:=d w (tZ w);exact K c (.d1 mg) rfl
  |d2 h=>
   rcases rL h with bZ|⟨I,rfl,d⟩
   .obtain⟨_,hx⟩:=bZ w (tZ w);obtain⟨a2,T,rfl,rfl⟩:=bj.isLast F (by omega);simp only[A] at G;obtain⟨u,c,B,hk⟩:=hx (by simpa using G);refine z c (.refl Wg w) G (by intro e k;simp at k;subst k;exact ConcN.bk_cell _ _ rfl) (by intro jx e k;match jx,k with|0,_=>exact .inr (by simp[deafBehind])|jx+1,k=>simp at k) (.d3 hk) rfl (by omega) ?_ (.inl ⟨by omega,by simp[cnt]⟩);have:=ConcN.Mode.last (j:=j) (D:=upd D κ ⟨3,B,1⟩) (tag:=tag) κ a2 F (by rw[ql];simp) (λa N e=>by rw[qN D _ e];exact T a N e);rw[ql] at this;simpa using this
   .obtain⟨u,w',es,c,⟨rfl,rfl⟩,mg⟩:=d w (tZ w);exact K c (.d2 mg) rfl
  |d3 h=>
   rcases rL h with bZ|⟨I,rfl,d⟩
   .obtain⟨_,hx⟩:=bZ w (tZ w);obtain⟨a2,T,rfl,rfl⟩:=bj.isLast F (by omega);simp only[A] at G;obtain⟨u,c,B,hk⟩:=hx (by simpa using G);refine z c (sP w (stA Wg) _) (G.setSt 0) (by intro e k;simp at k;subst k;exact ConcN.bk_cell _ _ rfl) (by intro jx e k;match jx,k with|0,_=>exact .inr (by simp[deafBehind])|jx+1,k=>simp at k) (.d4 hk) rfl (by omega) ?_ (.inl ⟨by omega,by simp[cnt]⟩);have:=ConcN.Mode.last (j:=j) (D:=upd D κ ⟨2,B,1⟩) (tag:=tag) κ a2 F (by rw[ql];simp) (λa N e=>by rw[qN D _ e];exact T a N e);rw[ql] at this;simpa using this
   .obtain⟨u,w',es,c,⟨rfl,rfl⟩,mg⟩:=d w (tZ w);exact K c (.d3 mg) rfl
  |d4 h=>
   rcases rL h with bZ|⟨I,rfl,d⟩
   .obtain⟨_,b1,hx⟩:=bZ w (tZ w);obtain⟨a2,T,rfl,rfl⟩:=bj.isLast F (by omega);simp only[A] at G;obtain⟨u,c,M,X⟩:=hx (by simpa using G);have a8:u.status=.running:=by
     cases M with
     |zero=>exact absurd X.2 (by decide)
     |succ M=>exact X.elim (λx=>absurd x.2 (by decide)) (λx=>x.1)
    refine ay c (sP w (smA Wg) _) (G.setSm 1) (es:=semEvents (smA Wg)) ?_ ?_ (.quit X) (by simp[deafBehind,semEvents]) (by omega) ?_ (.inl ⟨by omega,by simp[cnt]⟩)
    .exact bk_sem
    .intro jx e k
     match jx,k with
     |0,k=>simp[semEvents] at k;subst k;exact .inl rfl
     |1,_=>exact .inr (by simp[deafBehind,semEvents])
     |2,_=>exact .inr (by simp[deafBehind,semEvents])
     |3,k=>simp[semEvents] at k;subst k;exact .inl rfl
     |jx+4,k=>simp[semEvents] at k
    .intro dX ht hw;have b5:=hw b1 a8;have e3:dX=.w3:=by
      rcases ht with rfl|⟨_,rfl⟩
      .cases dX<;>first|rfl|exact a2.elim|exact absurd rfl b5
      .rfl
     subst e3;simp only[pr];exact .sema λa N=>by
      by_cases e:a=κ
      .subst e;rw[ql]
      .rw[qN D _ e];exact T a N e
   .obtain⟨u,w',es,c,⟨rfl,rfl⟩,mg⟩:=d w (tZ w);exact K c (.d4 mg) rfl
  |quit h=>
   cases m with
   |zero=>rw[h.1] at U;cases U
   |succ M=>
    rcases h with⟨hf,_⟩|⟨_,u,es,ao,d,X⟩
    .rw[hf] at U;cases U
    .have kx:∀e∈es,Bk Wg e:=λe k=>bk_of_mute (ao e k);have b2:∀jx e,es[jx]?=some e->(MemAct.ofEvent e).touch?=none\/0<deafBehind dd (es.extract 0 jx):=λjx e k=>.inl (touch_mute (ao e (qB k)));exact z (d w) (.refl Wg w) G kx b2 (.quit X) rfl (by omega) (by have:=bj.same (i:=κ) M (deafBehind dd es);rwa [A] at this) (.inr ⟨rfl,rfl⟩)
end
variable [Payload]
omit [Payload] in
def aar(h:abj Wg e):e.loc ≠ .mark .disable/\e.loc ≠ .mark .enable/\e.loc ≠ .mark (.release (stA Wg)):=by
 obtain⟨a,_,rfl|rfl⟩:=h<;>simp[mk]
omit [Payload] in
def nX(h:abj Wg e)(b:(MemAct.ofEvent e).touch?=some x):ShN Wg x.loc/\x.kind ≠ .plain:=by
 obtain⟨a,c,rfl|rfl⟩:=h<;>(simp[mk,MemAct.ofEvent,MemAct.touch?] at b;subst b;exact⟨⟨a,rfl,c⟩,by simp⟩)
omit [Payload] in
def akd(h:abj Wg e)(b:Wg<B):(MemAct.ofEvent e).low B:=by
 obtain⟨a,c,rfl|rfl⟩:=h<;>(show a.block<B;omega)
section
variable {P:Program} {ty:TypeId} {Wg C n K0:Nat} {val:Nat->Value} {aV:aq} {aQ Fin:aq->aq->Goroutine->World->Prop}
 {gs:Array Goroutine} {w w':World} {sl:Option (Nat×Nat)} {j:Nat} {D:Nat->WD} {TV:Nat->jH} {R S S':aq} {O Rk:Nat->aq} {q:Nat->Nat} {tag dX:CTag} {f0 f' d0:Nat} {a a':Goroutine} {t:Trace} {st sm st' sm':Int} {es:Array Event} {T':jH}
def kD (y:gs[0]?=some a) (f:MI P ty Wg C n K0 val aV j gs w t D TV R S O Rk q d0) (p:stepG P true a w=.go a' w' es) (c:Aside Wg w w') (i:WgAt ty Wg w' st' sm') (l:∀e∈es,Bk Wg e)
  (u:fH P ty Wg C n val aQ Fin dX j R S (TV 0) f' (deafBehind d0 es) a' w') (m:ConcN.Mode j D dX st' sm')
  (k:phi n (Vc j D) dX<phi n (Vc j D) tag\/(phi n (Vc j D) dX=phi n (Vc j D) tag/\f'<f0)) :
  ∃d g s,runT P (crowd gs w sl) 0=(.next d,g)/\abi (n+1) s (phi n (Vc j D) tag+Ssum j D,(TV,f0+2*Fsum j D+2*sumTo (K0+1) q))/\aay P ty Wg C n K0 val aV aQ Fin s d (t++g):=by
 obtain⟨z,r,o⟩:=f.pay;exact jW y f p (mu c.size.symm) (λv _=>f.wgO c ⟨_,_,i⟩ v) (λb x=>.inl x) (asv l) (norel_of_Bk l) (aix (by rw[c.size];exact f.cA.wlt) l) ⟨z,(c.block C f.cA.cw).trans r,o⟩ u i m
  (k.imp id λx=>⟨x.1,.inr ⟨rfl,x.2⟩⟩)
def ayS (y:gs[0]?=some a) (f:MI P ty Wg C n K0 val aV j gs w t D TV R S O Rk q d0) (p:stepG P true a w=.go a' w' es) (c:Aside Wg w w') (i:WgAt ty Wg w' st' sm') (l:∀e∈es,Bk Wg e)
  (u:fH P ty Wg C n val aQ Fin dX j R S T' f' (deafBehind d0 es) a' w') (m:ConcN.Mode j D dX st' sm') (k:phi n (Vc j D) dX<phi n (Vc j D) tag) :
  ∃d g s,runT P (crowd gs w sl) 0=(.next d,g)/\abi (n+1) s (phi n (Vc j D) tag+Ssum j D,(TV,f0+2*Fsum j D+2*sumTo (K0+1) q))/\aay P ty Wg C n K0 val aV aQ Fin s d (t++g):=by
 obtain⟨z,r,o⟩:=f.pay;exact jW y f p (mu c.size.symm) (λv _=>f.wgO c ⟨_,_,i⟩ v) (λb x=>.inl x) (asv l) (norel_of_Bk l) (aix (by rw[c.size];exact f.cA.wlt) l) ⟨z,(c.block C f.cA.cw).trans r,o⟩ u i m (.inl k)
def nY (y:gs[0]?=some a) (k:MI P ty Wg C n K0 val aV j gs w t D TV R S O Rk q d0) (s:WgAt ty Wg w st sm) (z:ConcN.Mode j D tag st sm) (l:stepG P true a w=.go a' w' es) (v:DSd Wg w w' es)
  (u:fH P ty Wg C n val aQ Fin tag j R S (TV 0) f' d0 a' w') (r:f'<f0) :
  ∃f i p,runT P (crowd gs w sl) 0=(.next f,i)/\abi (n+1) p (phi n (Vc j D) tag+Ssum j D,(TV,f0+2*Fsum j D+2*sumTo (K0+1) q))/\aay P ty Wg C n K0 val aV aQ Fin p f (t++i):=by
 obtain⟨rfl,c⟩:=v;have m:deafBehind d0 es=d0:=tH (λe d=>⟨(aar (c e d)).1,(aar (c e d)).2.1⟩) d0;refine jW y k l (am _) (λ_ _=>.refl _ _ _ _) (λb x=>.inl x) (λop g=> ?_) (λe d=>(aar (c e d)).2.2) (λop g=> ?_) k.pay (by rw[m];exact u) s z (.inr ⟨rfl,.inr ⟨rfl,r⟩⟩)
 .obtain⟨e,d,rfl⟩:=lE g;exact⟨rfl,λx o=>.inl ⟨amB (nX (c e d) o).1,(nX (c e d) o).2⟩⟩
 .obtain⟨e,d,rfl⟩:=lE g;exact akd (c e d) k.cA.wlt
def amD (T:gs[0]?=some a) (c:MI P ty Wg C n K0 val aV j gs w t D TV R S O Rk q d0) (K:WgAt ty Wg w st sm) (U:ConcN.Mode j D tag st sm) (G:stepG P true a w=.go a' w' es) (f:Gua Wg C (2*n) R noC S S' w w' es)
  (L:fH P ty Wg C n val aQ Fin tag j R S' T' f' d0 a' w') (M:jH.Lt T' (TV 0)) :
  ∃o s I,runT P (crowd gs w sl) 0=(.next o,s)/\abi (n+1) I (phi n (Vc j D) tag+Ssum j D,(TV,f0+2*Fsum j D+2*sumTo (K0+1) q))/\aay P ty Wg C n K0 val aV aQ Fin I o (t++s):=by
 have B:deafBehind d0 es=d0:=tH (λe p=>⟨(f.ev e p).dis,(f.ev e p).en⟩) d0;have l:Wg<w.heap.size/\¬S Wg/\Wg≠C:=⟨c.cA.wlt,c.cA.ws,λe=>c.cA.cw e.symm⟩;have g:=c.cA.axj f.size f.new;refine jW T c G f.size (λd _=>.amy f (λb z=>z.elim (λx=>⟨c.cA.olt d b x,λy=>c.cA.os d b x y,λe=>c.cA.co d (e▸x)⟩) λx=>⟨c.cA.rlt b (c.cA.rk d b x),λy=>c.cA.rs b (c.cA.rk d b x) y,λe=>c.cA.cr (e▸c.cA.rk d b x)⟩) (λi _ y=>y.elim) l)
  f.new (λop A=> ?_) (λe p=>(f.ev e p).rel) (aor f.ev) (f.pay c.pay) (by rw[B];exact L) (K.of_block (f.keep Wg l.1 l.2.1 l.2.2)) U (.inr ⟨rfl,.inl M⟩)
 obtain⟨e,p,rfl⟩:=lE A;refine⟨rfl,λx Q=>.inr ?_⟩;have r:∀{Z:aq},(¬Z Wg)->(∀b,aV b->¬Z b)->In Z x.loc->¬Shr Wg aV x.loc:=λF E v ⟨N,e,h⟩=>by
  have:=In.block v e;rcases h with h|h
  .rw[h] at this;exact F this
  .exact E _ h this
 have u:∀{Z:aq},(∀d b,O d b->¬Z b)->(¬Z C)->In Z x.loc->∀k,¬abk C K0 O k x.loc:=λF E v k ⟨d,_,h⟩=>by
  rcases h with h|⟨N,e,h,_⟩
  .exact In.no (F d) h v
  .have:=In.block v e;rw[h] at this;exact E this
 rcases(f.ev e p).touch x Q with m|⟨_,_,_,m⟩|⟨m,J⟩
 .refine⟨r g.ws g.shs m,λk _ _=>u g.os g.cs m k,λ_ k _ _ ⟨d,_,hr⟩=> ?_⟩;exact In.no (λb z=>g.rs b (c.cA.rk d b z)) hr m
 .exact m.elim
 .refine⟨r c.cA.wr c.cA.shr m,λk _ _=>u c.cA.orr c.cA.cr m k,λH=> ?_⟩;rw[J] at H;cases H
def ap1 (hn:n<2147483648) (b8:∀R S g w,aQ R S g w->∃m,GP P ty Wg C n R S (MW1 P ty Wg C n R S aQ Fin) m g w)
  (v:gs[0]?=some a) (lS:fH P ty Wg C n val aQ Fin tag j R S (TV 0) f0 d0 a w) (k:MI P ty Wg C n K0 val aV j gs w t D TV R S O Rk q d0) (o:WgAt ty Wg w st sm) (z:ConcN.Mode j D tag st sm) (ad:a.status=.running) :
  (∃B M,runT P (crowd gs w sl) 0=(.next B,M)/\aoq P ty Wg C n K0 val aV Fin B (t++M))\/
  (∃B M mM,runT P (crowd gs w sl) 0=(.next B,M)/\abi (n+1) mM (phi n (Vc j D) tag+Ssum j D,(TV,f0+2*Fsum j D+2*sumTo (K0+1) q))/\aay P ty Wg C n K0 val aV aQ Fin mM B (t++M)):=by
 have b5:=Vc_le j D;have F:RM ty Wg C n R S w w:=.refl _ _ _ _;have ao:∀{m':Nat} {tag:CTag},j=n->d0=1->isOpen tag->pend tag=0->phi n (Vc n D) .w1<=phi n (Vc n D) tag->f0=f0->(tag=.w1->m'<=f0)->ConcN.Mode j D tag st sm->GP P ty Wg C n R S (MW1 P ty Wg C n R S aQ Fin) m' a w->
   (∃B M mM,runT P (crowd gs w sl) 0=(.next B,M)/\abi (n+1) mM (phi n (Vc j D) tag+Ssum j D,(TV,f0+2*Fsum j D+2*sumTo (K0+1) q))/\aay P ty Wg C n K0 val aV aQ Fin mM B (t++M)):=by
  intro m' tag hj hd J hp Q _ hm z h;subst hj hd;have a3:ConcN.Mode j D .w1 st sm:=z.reopen J trivial (by rw[hp];rfl) (by simp);rcases rL h with E|⟨m',rfl,c⟩
  .obtain⟨_,N⟩:=E w F;obtain⟨W,rfl,rfl,_⟩:=a3.open_inv trivial;obtain⟨a',d,h0,ay⟩:=N (Vc j D) (by omega) (by simpa[pend] using o);by_cases hv:Vc j D=0
   .obtain⟨s,A⟩:=h0 hv;refine kD v k d (.refl Wg w) o bk_rd (dX:=.ke) (.ke A) ?_ (.inl (by simp only[phi] at Q ⊢;omega));have e:((Vc j D+pend .w1:Nat):Int)*KK=0:=by rw[hv];simp[pend]
    rw[e];exact .fin trivial (allQuit_of W hv)
   .obtain⟨s,A⟩:=ay hv;exact kD v k d (.refl Wg w) o bk_rd (dX:=.w2 (Vc j D)) (.w2 A) (a3.reopen trivial trivial rfl (λvs e=>by cases e;omega)) (.inl (by simp only[phi] at Q ⊢;omega))
  .obtain⟨a',w',es,d,K,I⟩:=c w F;rcases Nat.lt_or_eq_of_le Q with Q|Q
   .obtain⟨rfl,U⟩:=K;have b3:deafBehind 1 es=1:=tH (λe he=>⟨(aar (U e he)).1,(aar (U e he)).2.1⟩) 1;refine jW v k d (am _) (λ_ _=>.refl _ _ _ _) (λb x=>.inl x) (λop J=> ?_) (λe he=>(aar (U e he)).2.2) (λop J=> ?_) k.pay (T':=TV 0) (dX:=.w1) (by rw[b3];exact .w1 I) o a3 (.inl Q)
    .obtain⟨e,he,rfl⟩:=lE J;exact⟨rfl,λx Y=>.inl ⟨amB (nX (U e he) Y).1,(nX (U e he) Y).2⟩⟩
    .obtain⟨e,he,rfl⟩:=lE J;exact akd (U e he) k.cA.wlt
   .have b9:tag=.w1:=by
     cases tag<;>first|rfl|exact J.elim|(simp only[phi] at Q;omega)
    subst b9;exact nY v k o z d K (.w1 I) (by have:=hm rfl;omega)
 cases lS with
 |skd Z h=>
  rcases h.cases with E|⟨f,hT,_,c⟩
  .obtain⟨_,a',d,s,A⟩:=E w F;exact .inr (kD v k d (.refl Wg w) o bk_dis (.sa1 Z A) (z.reopen trivial trivial rfl (by simp)) (.inl (by simp only[phi];omega)))
  .obtain⟨a',w',es,S',d,hG,V⟩:=c w F;exact .inr (amD v k o z d hG (.skd Z V) (by rw[hT];exact⟨f,w,rfl,rfl⟩))
 |sa1 Z h=>
  rename_i r;rcases rL h with E|⟨m',rfl,c⟩
  .obtain⟨_,N⟩:=E w F;obtain⟨W,rfl,rfl,_⟩:=z.open_inv trivial;obtain⟨a',d,s,A⟩:=N (Vc (n-(r+1)) D) (by omega) (by simpa[pend] using o);refine .inr (kD v k d (sP w (stA Wg) _) (o.setSt _) bk_rw (.ske Z A) ?_ (.inl (by simp only[phi];omega)));have e:(((Vc (n-(r+1)) D:Nat):Int)+1)*KK=((Vc (n-(r+1)) D+pend (.sp r 3):Nat):Int)*KK:=by simp[pend]
   rw[e];exact .opn trivial W (by simp)
  .obtain⟨a',w',es,d,K,I⟩:=c w F;exact .inr (nY v k o z d K (.sa1 Z I) (by omega))
 |ske Z h=>
  rcases rL h with E|⟨m',rfl,c⟩
  .obtain⟨_,a',d,ba,A⟩:=E w F;exact .inr (ayS v k d (.refl Wg w) o bk_en (.sgo Z A) (z.reopen trivial trivial rfl (by simp)) (by simp only[phi];omega))
  .obtain⟨a',w',es,d,K,I⟩:=c w F;exact .inr (nY v k o z d K (.ske Z I) (by omega))
 |sgo Z h=>
  rename_i r;rcases h.cases with E|⟨f,hT,_,c⟩
  .obtain⟨_,a',H,X,b2,hX,aP,cK⟩:=E w F;obtain⟨W,rfl,rfl,_⟩:=z.open_inv trivial;obtain⟨Tc,aa⟩:=aP k.pay ⟨_,_,o⟩;obtain⟨l,b4⟩:∃l,n-(r+1)=l:=⟨_,rfl⟩;rw[b4] at k o z W aa b5 ⊢;have G:=runT_crowd_spawn (P:=P) (sl:=sl) (i:=0) v (by simpa using b2);rw[k.size] at G;have af:=k.cA.hand l hX;have b7:=k.ti.fork (X:=X) (m':=0) af.apart (x:={g:=0,fn:=a.frame.fn,pos:=a.frame.place,act:=.go (K0+1+l)}) (y:={g:=K0+1+l,fn:=H.frame.fn,pos:=a.frame.place,act:=.start})
    ⟨rfl,by rw[show K0+1+l=K0+l+1 by omega]⟩ ⟨by show K0+1+l=_;omega,rfl⟩
   have eV:Vc (l+1) (upd D l ⟨7,0,0⟩)=Vc l D+1:=by
    simp only[Vc,sumTo,ql];rw[sumTo_upd_out D _ cnt (am _)];rfl
   have eS:Ssum (l+1) (upd D l ⟨7,0,0⟩)=Ssum l D+7:=by
    simp only[Ssum,sumTo,ql];rw[sumTo_upd_out D _ WD.stage (am _)]
   have oT:OpenSt (l+1) (upd D l ⟨7,0,0⟩):=λi hi=>by
    by_cases e:i=l
    .subst e;rw[ql];simp
    .rw[qN D _ e];exact W i (by omega)
   have ax:((gs.setIfInBounds 0 a').push H)[0]?=some a':=by
    have an:0<gs.size:=by rw[k.size];omega
    rw[un (by simpa using an),<-gt];simp[an]
   have ej:l+1=n-r:=by omega
   have a7:∀dX,pend dX=0->((Vc l D+pend (.sp r 2):Nat):Int)*KK=((Vc (l+1) (upd D l ⟨7,0,0⟩)+pend dX:Nat):Int)*KK:=λdX hp=>by rw[eV,hp];simp[pend]
   have mi:∀T0,MI P ty Wg C n K0 val aV (l+1) ((gs.setIfInBounds 0 a').push H) w (t++#[{g:=0,fn:=a.frame.fn,pos:=a.frame.place,act:=.go (K0+1+l)},{g:=K0+1+l,fn:=H.frame.fn,pos:=a.frame.place,act:=.start}]) (upd D l ⟨7,0,0⟩) (upd (upd TV (l+1) Tc) 0 T0) (λb=>S b\/R b) (λ_=>False) O (upd Rk l X) q 0:=λT0=>by
    refine⟨by simp[k.size];omega,λi x a4 hi Y=> ?_,λu ie=> ?_,b7,af,λu ie hs=> ?_,k.pay,λu ie=>k.unO u (by omega)⟩
    .rw[un (by simp[k.size];omega),<-gt,jn (by omega)] at Y;rw[Deaf_still t i _ (λop J=>by simp at J;rcases J with rfl|rfl<;>simp)];exact k.old i x a4 hi Y
    .rw[qN _ _ (show u+1≠0 by omega)];rcases pm u l with a0|oM
     .obtain⟨g,hg,b6⟩:=k.wk u a0;refine⟨g, ?_,by rw[qN D _ (by omega),qN Rk _ (by omega),qN TV _ (by omega)];exact b6⟩;rw[un (by simp[k.size];omega),<-gt,jn (by omega)];exact hg
     .obtain rfl:u=l:=by omega
      refine⟨H, ?_,by rw[ql,ql,ql,k.unO u (am _)];exact .work aa⟩;rw[show K0+1+u=(gs.setIfInBounds 0 a').size by simp[k.size],qS]
    .rcases pm u l with a0|oM
     .rw[qN D _ (by omega)] at hs;exact k.has u a0 hs
     .obtain rfl:u=l:=by omega
      rw[ql] at hs;simp at hs
   cases r with
   |zero=>
    obtain⟨T,A⟩:=cK;have a2:l+1=n:=by omega
    have a5:fH P ty Wg C n val aQ Fin .kd (l+1) (λb=>S b\/R b) (λ_=>False) (upd (upd TV (l+1) Tc) 0 T 0) 0 0 a' w:=by
     rw[ql,a2];exact .kd A
    refine .inr ⟨_,_,(phi n (Vc (l+1) (upd D l ⟨7,0,0⟩)) .kd+Ssum (l+1) (upd D l ⟨7,0,0⟩),(upd (upd TV (l+1) Tc) 0 T,0+2*Fsum (l+1) (upd D l ⟨7,0,0⟩)+2*sumTo (K0+1) q)),G,Prod.Lex.left _ _ (by simp only[phi];omega),
     _,w,sl,l+1,_,_,_,_,O,_,q,.kd,0,0,a',_,_,rfl,ax,a5,mi T,o, ?_,rfl⟩
    rw[a7 .kd rfl];exact .opn trivial oT (by simp)
   |succ r'=>
    obtain⟨T,A⟩:=cK;have a2:l+1=n-(r'+1):=by omega
    have a5:fH P ty Wg C n val aQ Fin (.sp r' 5) (l+1) (λb=>S b\/R b) (λ_=>False) (upd (upd TV (l+1) Tc) 0 T 0) 0 0 a' w:=by
     rw[ql,a2];exact .skd (by omega) A
    refine .inr ⟨_,_,(phi n (Vc (l+1) (upd D l ⟨7,0,0⟩)) (.sp r' 5)+Ssum (l+1) (upd D l ⟨7,0,0⟩),(upd (upd TV (l+1) Tc) 0 T,0+2*Fsum (l+1) (upd D l ⟨7,0,0⟩)+2*sumTo (K0+1) q)),G,Prod.Lex.left _ _ (by simp only[phi];omega),
     _,w,sl,l+1,_,_,_,_,O,_,q,.sp r' 5,0,0,a',_,_,rfl,ax,a5,mi T,o, ?_,rfl⟩
    rw[a7 (.sp r' 5) rfl];exact .opn trivial oT (by simp)
  .obtain⟨a',w',es,S',d,hG,V⟩:=c w F;exact .inr (amD v k o z d hG (.sgo Z V) (by rw[hT];exact⟨f,w,rfl,rfl⟩))
 |kd h=>
  rcases h.cases with E|⟨f,hT,_,c⟩
  .obtain⟨_,a',d,s,A⟩:=E w F;exact .inr (kD v k d (.refl Wg w) o bk_dis (.anch A) (z.reopen trivial trivial rfl (by simp)) (.inl (by simp only[phi];omega)))
  .obtain⟨a',w',es,S',d,hG,V⟩:=c w F;exact .inr (amD v k o z d hG (.kd V) (by rw[hT];exact⟨f,w,rfl,rfl⟩))
 |anch h=>
  rcases rL h with E|⟨m',rfl,c⟩
  .obtain⟨s,A⟩:=b8 R S a w (E w F);exact .inr (ao rfl rfl trivial rfl (by simp only[phi];omega) rfl (by simp) z A)
  .obtain⟨a',w',es,d,K,I⟩:=c w F;exact .inr (nY v k o z d K (.anch I) (by omega))
 |w1 h=>exact .inr (ao rfl rfl trivial rfl (am _) rfl (λ_=>am _) z h)
 |w2 h=>
  rename_i vs;rcases rL h with E|⟨m',rfl,c⟩
  .obtain⟨_,N⟩:=E w F;obtain⟨W,rfl,rfl,aK⟩:=z.open_inv trivial;obtain⟨bc,h1⟩:=aK vs rfl;obtain⟨b1,b0⟩:=N (Vc n D) (by omega) (by simpa[pend] using o);by_cases e:Vc n D=vs
   .obtain⟨a',d,s,A⟩:=b1 e;exact .inr (kD v k d (sP w (stA Wg) _) (o.setSt _) bk_rw (.w3 A) (.reg trivial W (by omega)) (.inl (by simp only[phi];omega)))
   .obtain⟨a',d,s,A⟩:=b0 e;exact .inr (kD v k d (.refl Wg w) o bk_rd (.anch A) (z.reopen trivial trivial rfl (by simp)) (.inl (by simp only[phi];omega)))
  .obtain⟨a',w',es,d,K,I⟩:=c w F;exact .inr (nY v k o z d K (.w2 I) (by omega))
 |w3 h=>
  rcases rL h with E|⟨m',rfl,c⟩
  .obtain⟨_,bb,a1,oB⟩:=E w F;cases z with
   |opn h1 _ _=>exact h1.elim
   |reg h1 h2 h3=>exact .inr (kD v k (a1 ⟨_,o⟩) (.refl Wg w) o (by simp) (.blk E) (.reg trivial h2 h3) (.inr ⟨rfl,by omega⟩))
   |last L h1 h2 h3 h4=>exact .inr (kD v k (a1 ⟨_,o⟩) (.refl Wg w) o (by simp) (.blk E) (.last L trivial h2 h3 h4) (.inr ⟨rfl,by omega⟩))
   |sema h2=>
    obtain⟨a',d,s,A⟩:=oB o;exact .inr (kD v k d (sP w (smA Wg) _) (o.setSm 0) bk_sem (.w4 A) (.fin trivial h2) (.inl (by simp only[phi];omega)))
   |fin h1 _=>exact h1.elim
  .obtain⟨a',w',es,d,K,I⟩:=c w F;exact .inr (nY v k o z d K (.w3 I) (by omega))
 |blk h=>simp at ad
 |w4 h=>
  rcases rL h with E|⟨m',rfl,c⟩
  .obtain⟨_,Y⟩:=E w F;obtain⟨hq,rfl,rfl⟩:=z.fin_inv trivial;obtain⟨a',d,s,A⟩:=Y o;exact .inr (kD v k d (.refl Wg w) o bk_rd (.ke A) (.fin trivial hq) (.inl (by simp only[phi];omega)))
  .obtain⟨a',w',es,d,K,I⟩:=c w F;exact .inr (nY v k o z d K (.w4 I) (by omega))
 |ke h=>
  rcases rL h with E|⟨m',rfl,c⟩
  .obtain⟨_,a',d,s,A⟩:=E w F;obtain⟨hq,rfl,rfl⟩:=z.fin_inv trivial;exact .inr (kD v k d (.refl Wg w) o bk_en (.acq A) (.fin trivial hq) (.inl (by simp only[phi];omega)))
  .obtain⟨a',w',es,d,K,I⟩:=c w F;exact .inr (nY v k o z d K (.ke I) (by omega))
 |acq h=>
  rcases rL h with E|⟨m',rfl,c⟩
  .obtain⟨_,a',d,aG⟩:=E w F;obtain⟨hq,rfl,rfl⟩:=z.fin_inv trivial;have G:=tj (P:=P) (sl:=sl) (i:=0) v (by simpa using d);have h6:∀u,u<n->(D u).stage<=6:=λu ie=>by rw[hq u ie];omega
   have al:=k.ti.join h6 k.cA.apart a.frame.fn a.frame.place k.cA.wlt;refine .inl ⟨_,_,G,_,w,sl,a',λi=>if i<=K0 then q i else(D (i-(K0+1))).fuel,R,S,rfl,uy _ _ _ (by rw[k.size];omega),by simp[k.size],aG,⟨λi x a4 Y=> ?_,λi hi=> ?_⟩,al,k.pay,λu ie=>k.has u ie (h6 u ie),⟨_,_,o⟩,λb hb=> ?_⟩
   .rw[sX _ _ _ _ (by omega)] at Y;obtain⟨y,hy,rfl⟩:=iS.1 Y;rw[rr t (g':=0) (by omega) _ g_of_ofEvents];by_cases hi:i<=K0
    .have a9:=k.old i y a4 hi hy;rw[sY a9];simp only[dj hi];exact a9
    .have a0:i<K0+1+n:=by have:=(dq.1 hy).1;rw[k.size] at this;omega
     obtain⟨u,rfl⟩:∃u,i=K0+1+u:=⟨i-(K0+1),by omega⟩;obtain⟨g',I,a8⟩:=k.wk u (by omega);rw[hy] at I;cases I;have hd:=k.ti.deafW u (by omega);have h1:=hq u (by omega);rw[h1] at a8;have a6:QuitsD P (D u).fuel (D u).deaf y:=by
      cases a8 with
      |rest _ h=>exact h.quits rfl
     rw[sY a6,hd];simp only[bv hi];rw[show K0+1+u-(K0+1)=u by omega];exact a6
   .refine Deaf_absent λp op W e=> ?_;have h1:=al.gs op (qB W);simp[k.size] at hi;omega
   .rcases hb with hb|rfl
    .exact⟨k.cA.shr b hb,k.cA.shs b hb,λe=>k.cA.shc (e▸hb),k.cA.aj9 b hb⟩
    .exact⟨k.cA.wr,k.cA.ws,λe=>k.cA.cw e.symm,k.cA.wlt⟩
  .obtain⟨a',w',es,d,K,I⟩:=c w F;exact .inr (nY v k o z d K (.acq I) (by omega))
end
end
section
open Go.Conc Go.ConcN
open Go.ConcR (KK wgBlock WgAt stA smA rd wr mk Payload DC0 Bk g_of_ofEvents ofEvent_mk ofEvent_loc_mark loc_of_ofEvent bk_of_mute again_blocked)
variable [Payload]
section
variable {P:Program} {ty:TypeId} {Wg C n K0:Nat} {val:Nat->Value} {aV:aq} {aQ Fin:aq->aq->Goroutine->World->Prop}
 {gs:Array Goroutine} {w:World} {sl:Option (Nat×Nat)} {j:Nat} {D:Nat->WD} {TV:Nat->jH} {R S:aq} {O Rk:Nat->aq} {q:Nat->Nat} {tag:CTag} {f0 d0:Nat} {a:Goroutine} {t:Trace} {st sm:Int}
def ags(d:∀R S g w,aQ R S g w->g.status=.running)(p:gs[0]?=some a)(o:fH P ty Wg C n val aQ Fin tag j R S (TV 0) f0 d0 a w)(f:MI P ty Wg C n K0 val aV j gs w t D TV R S O Rk q d0)(r:ConcN.Mode j D tag st sm) :
  ∃(i:Nat) (g:Goroutine),gs[i]?=some g/\g.status=.running:=by
 rcases o.status d with⟨b,_⟩|⟨_,rfl⟩
 .exact⟨0,a,p,b⟩
 .cases r with
  |opn e _ _=>exact e.elim
  |reg _ _ k=>
   obtain⟨i,m,s⟩:=exists_counted k;obtain⟨g,c,b⟩:=f.wk i m;exact⟨K0+1+i,g,c,b.running_of (by omega)⟩
  |last L _ l k _=>
   obtain⟨g,c,b⟩:=f.wk L l;exact⟨K0+1+L,g,c,b.running_of (by omega)⟩
  |fin e _=>exact e.elim
def amH(f:∀R S g w,aQ R S g w->g.status=.running)(p:gs[0]?=some a)(r:fH P ty Wg C n val aQ Fin tag j R S (TV 0) f0 d0 a w)(d:MI P ty Wg C n K0 val aV j gs w t D TV R S O Rk q d0):∀g∈gs,awake g:=by
 intro g o;obtain⟨i,c⟩:=vN.1 o;rcases nf i with rfl|s
 .rw[p] at c;cases c;rcases r.status f with⟨b,_⟩|⟨b,_⟩
  .exact uA (.inl b)
  .exact uA (.inr (.inl b))
 .by_cases k:i<=K0
  .exact uA ((d.old i g s k c).status.elim .inl λx=>.inr (.inr x))
  .have m:i<K0+1+j:=by have:=(dq.1 c).1;rw[d.size] at this;exact this
   obtain⟨e,rfl⟩:∃e,i=K0+1+e:=⟨i-(K0+1),by omega⟩;obtain⟨u,l,b⟩:=d.wk e (by omega);rw[c] at l;cases l;exact uA (b.status.elim .inl λx=>.inr (.inr x))
def ake (F:n<2147483648) (f:∀R S g w,aQ R S g w->g.status=.running) (z:∀R S g w,aQ R S g w->∃m,GP P ty Wg C n R S (MW1 P ty Wg C n R S aQ Fin) m g w) (B:Mu) (m:Machine) (t:Trace)
  (h:aay P ty Wg C n K0 val aV aQ Fin B m t) :
  (∃b e,stepT P m=(.next b,e)/\aoq P ty Wg C n K0 val aV Fin b (t++e))\/(∃b e G,stepT P m=(.next b,e)/\abi (n+1) G B/\aay P ty Wg C n K0 val aV aQ Fin G b (t++e)):=by
 obtain⟨gs,w,sl,j,D,TV,R,S,O,Rk,q,tag,f0,d0,a,st,sm,rfl,r,y,u,I,v,rfl⟩:=h;obtain⟨i,g,d,p,s,c,l⟩:=crowd_pick (P:=P) (w:=w) (sl:=sl) (amH f r y u) (ags f r y u v);rw[l];have x:=y.rely (.at _ _ _ w d);have o:=u.at d;have k:WgAt ty Wg (w.at d) st sm:=I;rcases nf i with rfl|J
 .rw[r] at s;cases s;exact ap1 (sl:=p) F z r x o k v c
 .by_cases A:i<=K0
  .exact .inr (asu (sl:=p) f r x o k v J A s c)
  .have H:i<K0+1+j:=by have:=(dq.1 s).1;rw[u.size] at this;exact this
   obtain⟨E,rfl⟩:∃E,i=K0+1+E:=⟨i-(K0+1),by omega⟩;exact .inr (akc (sl:=p) F f r x o k v (by omega) s c)
def afI(p:n<2147483648)(l:∀R S g w,aQ R S g w->g.status=.running)(i:∀R S g w,aQ R S g w->∃m,GP P ty Wg C n R S (MW1 P ty Wg C n R S aQ Fin) m g w) :
  ∀(c:Mu) (m:Machine) (t:Trace),aay P ty Wg C n K0 val aV aQ Fin c m t->∃N e d,runNT P N m t=(.next e,d)/\aoq P ty Wg C n K0 val aV Fin e d:=by
 intro c
 induction c using(avs (n+1)).induction with
 |_ c q=>
  intro m t h;rcases ake p l i c m t h with⟨a,b,j,k⟩|⟨a,b,r,j,f,k⟩
  .exact⟨1,a,t++b,by rw[runNT_succ_next j];rfl,k⟩
  .obtain⟨N,e,d,s,o⟩:=q r f a (t++b) k;exact⟨N+1,e,d,by rw[runNT_succ_next j];exact s,o⟩
def akf (B:n<2147483648) (b:∀R S g w,aQ R S g w->g.status=.running) (c:∀R S g w,aQ R S g w->∃m,GP P ty Wg C n R S (MW1 P ty Wg C n R S aQ Fin) m g w)
  (v:gs[0]?=some a) (p:gs.size=K0+1) (L:Leavers P t gs q) (Q:eW aV K0 w.heap.size t) (d:tM P ty Wg C n val aQ n R a w) (s:WgAt ty Wg w 0 0) (f:PayAt C (2*n) w)
  (J:∀(i:Nat) (x:Touch),touchAt t i=some x->∀a,x.loc=.cell a->a.block≠Wg) (k:NoRelease (stA Wg) t) (U:Sets Wg C aV w R (λ_=>False) (λ_ _=>False) (λ_ _=>False)) :
  ∃N A u,runNT P N (crowd gs w sl) t=(.next A,u)/\aoq P ty Wg C n K0 val aV Fin A u:=by
 have y:∀T0,MI P ty Wg C n K0 val aV 0 gs w t (λ_=>⟨0,0,0⟩) (upd (λ_=>jH.leaf) 0 T0) R (λ_=>False) (λ_ _=>False) (λ_ _=>False) q 0:=λT0=>
  ⟨p,λi g z _ I=>L.old i g z I,λH M=>by omega,.begin Q J k,U,λH M=>by omega,f,λ_ _=>rfl⟩
 have E:∀tag,isOpen tag->pend tag=0->(∀o,tag ≠ .w2 o)->ConcN.Mode 0 (λ_=>(⟨0,0,0⟩:WD)) tag 0 0:=λtag K G O=>by
  have:=ConcN.Mode.opn (j:=0) (D:=λ_=>(⟨0,0,0⟩:WD)) K (λi z=>by omega) (λo e=>absurd e (O o));simpa[Vc,sumTo,G] using this
 cases n with
 |zero=>
  obtain⟨T,l⟩:=d;exact afI B b c _ _ _ ⟨gs,w,sl,0,_,_,R,_,_,_,q,.kd,0,0,a,0,0,rfl,v,.kd (by rw[ql];exact l),y T,s,E .kd trivial rfl (by simp),rfl⟩
 |succ r=>
  obtain⟨T,l⟩:=d;have F:=fH.skd (Fin:=Fin) (vx r) l;rw[uJ] at F;exact afI B b c _ _ _ ⟨gs,w,sl,0,_,_,R,_,_,_,q,.sp r 5,0,0,a,0,0,rfl,v,by rw[ql];exact F,y T,s,E (.sp r 5) trivial rfl (by simp),rfl⟩
end
end
end Go.Proofs.YtlggbfanooejbaaGreatDoor