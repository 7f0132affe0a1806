/- A part. -/
import Derived.Test.YtepfjblhjlefiaaGreatDoorG4
import Derived.Lib.Builder
import Derived.Lib.Strings
import Derived.Lib.Slices
import Derived.Lib.AppendStr
import Derived.Lib.FrozenHead
import Derived.Lib.UnsafeStr
import Derived.Lib.MakeNoZero
import Derived.Shelf.RegionOpenPlain
import Derived.Laws.Externs
import Derived.Laws.IdiomCopy
import Derived.Laws.BitsLemmas
import Derived.Conc.CrowdRun
import Derived.Conc.Beside
set_option maxRecDepth 100000
set_option maxHeartbeats 8000000
set_option linter.all false
open Go Go.Conc Go.ConcN Go.RowKit Go.Proofs.Tryz Go.Proofs.YtepfjblhjlefiaaGreatDoor
variable {s:dE} {V B Wg b g hi i k lo m' κ:Nat} {l:Loc} {U:Next} {Z Y X:Value} {W w:World} {e:Event} {x:Touch} {pos:String} {t:List Nd} {T:Goroutine} {cs:Array Value} {es:Array Event} {Own:Nat→Loc→Prop}
namespace Go.Proofs.YtepfjblhjlefiaaGreatDoor
def lP:=@Go.Conc.mem_ofEvents
def qd:=@Go.ConcN.upd_same
def qv:=@Go.Conc.Goes.stop
def qC:=@Option.bind_some
def qH:=@Go.ConcN.upd_ne
def qM:=@Array.getElem?_push_size
def qS:=@Go.Lib.cell_of_heap
def rb:=@Go.Conc.Deaf_other
def rc:=@Go.Sem.runT_fst
def ru:=@Go.Conc.getElem?_append_cases
def rD:=@Go.Lib.byteCells_length
def rE:=@Go.Conc.Goes.cases
def sg:=@Go.Conc.Goes.running
def su:=@Go.Result.ok.injEq
def sF:=@Go.Conc.aside_setCell
def sN:=@Go.ConcN.get_map_set
def sP:=@Go.Conc.woken_quitsD
def sW:=@Go.Conc.runT_crowd_go
def te:=@Go.Conc.Goes.rely
def tj:=@Go.Conc.goes_go
def tn:=@Go.ConcN.deafBehind_idle
def tR:=@Go.ConcN.RW.refl
def tZ:=@List.size_toArray
def ud:=@Bool.not_eq_true'
def uf:=@Array.getElem?_push_lt
def uh:=@Go.ConcN.cell_of_block
def un:=@Go.ConcN.get_map_set_same
def uq:=@Go.Conc.awake_of
def uM:=@Go.Lib.frozen_of_heap
def uO:=@Prod.mk.injEq
def uX:=@Bool.eq_false_iff
def vG:=@Array.mem_iff_getElem?
def vV:=@Array.map_congr_left
section
variable {β:Bool}
open Go.RowKit
def gq.set(h:gq w lo hi s Z Y X)(a:bW w g 27 cs)(i:Nat)(u:Value):gq (w.setCell ⟨g,i,none⟩ u) lo hi s Z Y X:=
 ⟨cN fT.aw h.pk a (by decide) i u,cN gO.aw h.sn a (by decide) i u,cN fU.aw h.lg a (by decide) i u⟩
def gq.wide{oF hi' : Nat}(h:gq w lo hi s Z Y X)(b:oF<=lo)(a:hi<=hi'):gq w oF hi' s Z Y X:=h.go (λ_ _ _=>rfl) b a
def gq.form(h:gq w lo hi s Z Y X):(∃A a,Z=.slice A s.pk.length a)/\(∃B b,Y=.slice B s.sn.length b)/\∃C c,X=.slice C s.lg.length c:=⟨h.pk.form,h.sn.form,h.lg.form⟩
def gq.eY{w' : World}(h:gq w lo hi s Z Y X){S:Nat->Prop}(e:bJ S w w')(c:∀b,lo<=b->b<hi->b<w.heap.size/\¬S b):gq w' lo hi s Z Y X:=
 h.go (λb d a=>e.block b (c b d a).1 (c b d a).2) (am _) (am _)
def arQ(h:cs.size=3):∃a b c,cs=#[a,b,c]:=by
 obtain⟨l⟩:=cs
 match l,h with
 |[a,b,c],_=>exact⟨a,b,c,rfl⟩
def fE(w:World)(g:Nat)(a b c:Value):bJ (λx=>x=g) w (((w.setCell ⟨g,0,none⟩ a).setCell ⟨g,1,none⟩ b).setCell ⟨g,2,none⟩ c):=(((bJ.refl (λx=>x=g) w).setCell (S:=λx=>x=g) (p:=⟨g,0,none⟩) (.inl rfl) a).setCell (S:=λx=>x=g) (p:=⟨g,1,none⟩) (.inl rfl) b).setCell (S:=λx=>x=g) (p:=⟨g,2,none⟩) (.inl rfl) c
section
variable {w:World} {lo hi g:Nat} {l:List Int} {N s ia ic bk:Nat} {fx:Bool} {ty:TypeId} {n:Nat} {S:Nat->Prop} {pre:List Nat}
def aaR(u:Value)(x:aI w lo hi g l N s ia ic bk fx ty n S pre):Prop:=
 ∃d c a q r L H,u=.tuple #[.agg #[d,c,a],.bool q]/\gq x.to L H r d c a/\(∀b,L<=b->b<H->x.free b)/\w.heap.size<=L/\H<=x.to.heap.size/\(q=true->dT r)
def aaR.le{u:Value}{x y:aI w lo hi g l N s ia ic bk fx ty n S pre}(h:aaR u x)(a:aI.le x y):aaR u y:=by
 obtain⟨j,o,k,q,r,L,H,rfl,f,e,p,i,m⟩:=h;exact⟨j,o,k,q,r,L,H,rfl,f.go (λb d c=>a.eY.block b (e b d c).1 (a.not (e b d c))) (am _) (am _),λb d c=>a.free (e b d c),p,da i a.eY.size,m⟩
def aaR.new{r:dE}{q:Bool}(x:aI w lo hi g l N s ia ic bk fx ty n S pre){w2:World}(d:Below x.to.heap.size x.to w2)(a:gq w2 x.to.heap.size w2.heap.size r Z Y X)(j:q=true->dT r)(k:g<w.heap.size)(v:Value):aaR (.tuple #[.agg #[Z,Y,X],.bool q]) (x.told d v):=by
 have f:=x.ok.size;exact⟨Z,Y,X,q,r,_,_,rfl,a,λb o c=>⟨c,by omega,λe=>(by
  obtain⟨_,_,m,_,i⟩:=x.bx b e;have:=i.lt;omega),λe=>(by have:=x.sf b e;omega)⟩,f,am _,j⟩
def ahQ(x:aI w lo hi g l N s ia ic bk fx ty n S pre):Prop:=
 x.done=true/\∃b d c a q,x.box=some b/\x.res=some (.tuple #[.agg #[d,c,a],.bool q])/\bW x.to b ty #[d,c,a]
def ahQ.le{x y:aI w lo hi g l N s ia ic bk fx ty n S pre}(h:ahQ x)(a:aI.le x y):ahQ y:=by
 obtain⟨hd,b,d,m,k,q,i,e,j⟩:=h;obtain⟨o,c,f⟩:=a.full hd i j;exact⟨o,b,d,m,k,q,c,a.res _ e,f⟩
end
structure aeZ (u va vb vc:Value) (q:Bool):Prop where
 eq:u=.tuple #[.agg #[va,vb,vc],.bool q]
 a:∃A m c,va=.slice A m c
 b:∃A m c,vb=.slice A m c
 c:∃A m c,vc=.slice A m c
def aeZ.of{r:dE}{q:Bool}(h:gq w lo hi r Z Y X):aeZ (.tuple #[.agg #[Z,Y,X],.bool q]) Z Y X q:=by
 obtain⟨⟨A,a,rfl⟩,⟨B,b,rfl⟩,C,c,rfl⟩:=h.form;exact⟨rfl,⟨_,_,_,rfl⟩,⟨_,_,_,rfl⟩,⟨_,_,_,rfl⟩⟩
def apf(w:World)(lo hi g:Nat)(l:List Int)(p:Nat)(e:Ending)(w':World):Prop:=
 ∃d c a s q,e=.returned (.agg #[d,c,a])/\gq w' w.heap.size w'.heap.size s d c a/\dT s/\Rd w' lo hi g l q/\q<=p+700/\bJ (λb=>b=g) w w'
structure ahR (w wr:World) (lo hi g:Nat) (l:List Int) (q gs:Nat) (va vb vc tt:Value) (s:dE) (t:List Nd):Prop where
 k0:bW wr w.heap.size 27 #[.slice none 0 0,.slice none 0 0,.slice none 0 0]
 ks:bW wr gs 27 #[va,vb,vc]
 os:gq wr w.heap.size wr.heap.size s va vb vc
 sv:dT s
 ot:aD jT 50 wr w.heap.size tt t
 ft:kg t
 rd:Rd wr lo hi g l q
 ch:bJ (λb=>b=g) w wr
 gs1:w.heap.size<gs
 gw:g<w.heap.size
def ahR.eY{wr w' : World}{l:List Int}{q gs : Nat}{c : Value}(h:ahR w wr lo hi g l q gs Z Y X c s t)(a:bJ (λb=>b=g) wr w')(j:Rd w' lo hi g l V):ahR w w' lo hi g l V gs Z Y X c s t:=by
 have m:=h.gw;have d:=h.gs1;exact⟨bQ h.k0 a (by omega),bQ h.ks a (by omega),(h.os.eY a λb d f=>⟨f,by omega⟩).wide (am _) a.size,h.sv,h.ot.eY a λb k e=>by have:=(h.ot.at_ k).1;omega,h.ft,j,h.ch.trans a λi _ e=>e,d,m⟩
def ahR.tree{wr : World}{l:List Int}{q gs:Nat}{e a : Value}{b : List Nd}(h:ahR w wr lo hi g l q gs Z Y X e s t)(d:aD jT 50 wr w.heap.size a b)(c:kg b):ahR w wr lo hi g l q gs Z Y X a s b:=
 ⟨h.k0,h.ks,h.os,h.sv,d,c,h.rd,h.ch,h.gs1,h.gw⟩
def abQ(h:kg t):∀x∈t,jT.good x:=pH h
def ahS(l:List Int)(g p lo hi:Nat)(w:World)(hr:Rd w lo hi g l p)(hp:p<=10000) :
  Calls (ah β) 23 #[.pointer (some ⟨g,0,none⟩)] w (apf w lo hi g l p):=by
 have ci:=hr.lt;have cq:=hr.hi_;go_enter zB,ntmps23;go_wp2;have aM:Below w.heap.size w (((((w.alloc (.cells #[.slice none 0 0,.slice none 0 0,.slice none 0 0] 27)).alloc (.cells #[] 62)).alloc (.cells #[] 37)).alloc (.cells #[] 78)).alloc (.cells #[.slice (some ⟨w.heap.size+1,0,none⟩) 0 0,.slice (some ⟨w.heap.size+1+1,0,none⟩) 0 0,.slice (some ⟨w.heap.size+1+1+1,0,none⟩) 0 0] 27)):=cU (cU (cU (cU (aB _ _) _) _) _) _;have k0:bW (((((w.alloc (.cells #[.slice none 0 0,.slice none 0 0,.slice none 0 0] 27)).alloc (.cells #[] 62)).alloc (.cells #[] 37)).alloc (.cells #[] 78)).alloc (.cells #[.slice (some ⟨w.heap.size+1,0,none⟩) 0 0,.slice (some ⟨w.heap.size+1+1,0,none⟩) 0 0,.slice (some ⟨w.heap.size+1+1+1,0,none⟩) 0 0] 27)) (w.heap.size) 27 #[.slice none 0 0,.slice none 0 0,.slice none 0 0]:=by
  have I:=bc (bc (bc (bc (bW.new w 27 #[.slice none 0 0,.slice none 0 0,.slice none 0 0]) (.cells #[] 62)) (.cells #[] 37)) (.cells #[] 78)) (.cells #[.slice (some ⟨w.heap.size+1,0,none⟩) 0 0,.slice (some ⟨w.heap.size+1+1,0,none⟩) 0 0,.slice (some ⟨w.heap.size+1+1+1,0,none⟩) 0 0] 27);exact I
 have k1:bW (((((w.alloc (.cells #[.slice none 0 0,.slice none 0 0,.slice none 0 0] 27)).alloc (.cells #[] 62)).alloc (.cells #[] 37)).alloc (.cells #[] 78)).alloc (.cells #[.slice (some ⟨w.heap.size+1,0,none⟩) 0 0,.slice (some ⟨w.heap.size+1+1,0,none⟩) 0 0,.slice (some ⟨w.heap.size+1+1+1,0,none⟩) 0 0] 27)) (w.heap.size+1) 62 #[]:=by
  have I:=bc (bc (bc (bW.new (w.alloc (.cells #[.slice none 0 0,.slice none 0 0,.slice none 0 0] 27)) 62 #[]) (.cells #[] 37)) (.cells #[] 78)) (.cells #[.slice (some ⟨w.heap.size+1,0,none⟩) 0 0,.slice (some ⟨w.heap.size+1+1,0,none⟩) 0 0,.slice (some ⟨w.heap.size+1+1+1,0,none⟩) 0 0] 27);simp only[mw] at I;exact I
 have k2:bW (((((w.alloc (.cells #[.slice none 0 0,.slice none 0 0,.slice none 0 0] 27)).alloc (.cells #[] 62)).alloc (.cells #[] 37)).alloc (.cells #[] 78)).alloc (.cells #[.slice (some ⟨w.heap.size+1,0,none⟩) 0 0,.slice (some ⟨w.heap.size+1+1,0,none⟩) 0 0,.slice (some ⟨w.heap.size+1+1+1,0,none⟩) 0 0] 27)) (w.heap.size+1+1) 37 #[]:=by
  have I:=bc (bc (bW.new ((w.alloc (.cells #[.slice none 0 0,.slice none 0 0,.slice none 0 0] 27)).alloc (.cells #[] 62)) 37 #[]) (.cells #[] 78)) (.cells #[.slice (some ⟨w.heap.size+1,0,none⟩) 0 0,.slice (some ⟨w.heap.size+1+1,0,none⟩) 0 0,.slice (some ⟨w.heap.size+1+1+1,0,none⟩) 0 0] 27);simp only[mw] at I;exact I
 have k3:bW (((((w.alloc (.cells #[.slice none 0 0,.slice none 0 0,.slice none 0 0] 27)).alloc (.cells #[] 62)).alloc (.cells #[] 37)).alloc (.cells #[] 78)).alloc (.cells #[.slice (some ⟨w.heap.size+1,0,none⟩) 0 0,.slice (some ⟨w.heap.size+1+1,0,none⟩) 0 0,.slice (some ⟨w.heap.size+1+1+1,0,none⟩) 0 0] 27)) (w.heap.size+1+1+1) 78 #[]:=by
  have I:=bc (bW.new (((w.alloc (.cells #[.slice none 0 0,.slice none 0 0,.slice none 0 0] 27)).alloc (.cells #[] 62)).alloc (.cells #[] 37)) 78 #[]) (.cells #[.slice (some ⟨w.heap.size+1,0,none⟩) 0 0,.slice (some ⟨w.heap.size+1+1,0,none⟩) 0 0,.slice (some ⟨w.heap.size+1+1+1,0,none⟩) 0 0] 27);simp only[mw] at I;exact I
 have k4:bW (((((w.alloc (.cells #[.slice none 0 0,.slice none 0 0,.slice none 0 0] 27)).alloc (.cells #[] 62)).alloc (.cells #[] 37)).alloc (.cells #[] 78)).alloc (.cells #[.slice (some ⟨w.heap.size+1,0,none⟩) 0 0,.slice (some ⟨w.heap.size+1+1,0,none⟩) 0 0,.slice (some ⟨w.heap.size+1+1+1,0,none⟩) 0 0] 27)) (w.heap.size+1+1+1+1) 27 #[.slice (some ⟨w.heap.size+1,0,none⟩) 0 0,.slice (some ⟨w.heap.size+1+1,0,none⟩) 0 0,.slice (some ⟨w.heap.size+1+1+1,0,none⟩) 0 0]:=by
  have I:=bW.new ((((w.alloc (.cells #[.slice none 0 0,.slice none 0 0,.slice none 0 0] 27)).alloc (.cells #[] 62)).alloc (.cells #[] 37)).alloc (.cells #[] 78)) 27 #[.slice (some ⟨w.heap.size+1,0,none⟩) 0 0,.slice (some ⟨w.heap.size+1+1,0,none⟩) 0 0,.slice (some ⟨w.heap.size+1+1+1,0,none⟩) 0 0];simp only[mw] at I;exact I
 have jU:w.heap.size+5<=(((((w.alloc (.cells #[.slice none 0 0,.slice none 0 0,.slice none 0 0] 27)).alloc (.cells #[] 62)).alloc (.cells #[] 37)).alloc (.cells #[] 78)).alloc (.cells #[.slice (some ⟨w.heap.size+1,0,none⟩) 0 0,.slice (some ⟨w.heap.size+1+1,0,none⟩) 0 0,.slice (some ⟨w.heap.size+1+1+1,0,none⟩) 0 0] 27)).heap.size:=by simp only[mw];omega
 generalize (((((w.alloc (.cells #[.slice none 0 0,.slice none 0 0,.slice none 0 0] 27)).alloc (.cells #[] 62)).alloc (.cells #[] 37)).alloc (.cells #[] 78)).alloc (.cells #[.slice (some ⟨w.heap.size+1,0,none⟩) 0 0,.slice (some ⟨w.heap.size+1+1,0,none⟩) 0 0,.slice (some ⟨w.heap.size+1+1+1,0,none⟩) 0 0] 27))=w0 at *;have dV:=k0.cell;have gz:=k0.frozen;have ce:=k1.cell;have c0:=k1.frozen;have bL:=k2.cell;have c5:=k2.frozen;have bz:=k3.cell;have bT:=k3.frozen;have a6:=k4.cell;have cn:=k4.frozen;have bb:gq w0 w.heap.size w0.heap.size ⟨[],[],[]⟩ (.slice (some ⟨w.heap.size+1,0,none⟩) 0 0) (.slice (some ⟨w.heap.size+1+1,0,none⟩) 0 0) (.slice (some ⟨w.heap.size+1+1+1,0,none⟩) 0 0):=
  ⟨eD.acE ⟨_,rfl,by omega,k1⟩ (am _),eD.acE ⟨_,rfl,by omega,k2⟩ (am _),eD.acE ⟨_,rfl,by omega,k3⟩ (am _)⟩
 have ao:bJ (λb=>b=g) w w0:=bJ.bh aM;have bn:=hr.eY (bJ.bh (S:=λ_=>False) aM) λ_ _ h=>h;clear k1 k2 k3 dV ce bL bz a6 gz c0 c5 bT cn aM hr;refine(ajo l g p lo hi w0 bn (by omega)).mono ?_;rintro e w1 ⟨vt,t0,q1,rfl,ot,bw,b2,cV,J⟩;have k:ahR w w1 lo hi g l q1 (w.heap.size+1+1+1+1) (.slice (some ⟨w.heap.size+1,0,none⟩) 0 0) (.slice (some ⟨w.heap.size+1+1,0,none⟩) 0 0) (.slice (some ⟨w.heap.size+1+1+1,0,none⟩) 0 0) vt ⟨[],[],[]⟩ t0:=
  ⟨bQ k0 J (by omega),bQ k4 J (by omega),(bb.eY J λb h1 h2=>⟨h2,by omega⟩).wide (am _) J.size,dT.nil,ot.base (by omega),bw,b2,ao.trans J λi _ e=>e,by omega,ci⟩
 clear k0 k4 bb ao ot bw J bn;obtain⟨o,b3⟩:∃o,o=w.heap.size+1+1+1+1:=⟨_,rfl⟩;rw[<-b3] at k ⊢;clear b3;go_wp2;refine(cF _ _ _ _ _ _ 5 k.rd (by omega)).mono ?_;rintro e w2 ⟨m,rfl,⟨_,hm⟩,br,b0⟩;have cy:=hm (by omega);obtain⟨mm,rfl⟩:=qi (show 0<=m by omega);have b4:=ab (k.eY b0 br);clear hm b2 br b0 k;go_wp2;go_loopw [4,5] (λtt jj wr=>∃(j q:Nat) (s:dE) (t:List Nd) (O P U:Value),j<=4/\jj=.int .i64 j/\ahR w wr lo hi g l q o O P U tt s t/\q+60*j<=p+600) (λ_ jj _=>(intOf jj).toNat)
 case atStart=>exact⟨mm,_,_,_,_,_,_,by omega,rfl,b4.out,by omega⟩
 case round=>
  clear b4;obtain⟨j,q,s,t,O,P,U,hj,rfl,k,hq⟩:=hrel;obtain⟨⟨A,a,rfl⟩,⟨B,b,rfl⟩,C,c,rfl⟩:=k.os.form;obtain⟨T,d,rfl⟩:=k.ot.form;have bl:wr.cell? ⟨o,0,none⟩=some (.slice A s.pk.length a):=k.ks.cell 0;have aa:wr.cell? ⟨o,1,none⟩=some (.slice B s.sn.length b):=k.ks.cell 1;have bt:wr.cell? ⟨o,2,none⟩=some (.slice C s.lg.length c):=k.ks.cell 2;have bY:=k.gs1;have bF:=k.gw;have cv:=k.ks.lt;have zr:=k.ch.size;have HD:=ab k;by_cases h0:j=0
  .subst h0;have dV:=k.k0.cell;have gz:=k.k0.frozen;clear k;go_wp2;have k4:=((HD.out.k0.bZ 0 (.slice A s.pk.length a)).bZ 1 (.slice B s.sn.length b)).bZ 2 (.slice C s.lg.length c);simp only[db,fd,ga] at k4;have a6:=k4.cell;refine ph (v:=.agg #[.slice A s.pk.length a,.slice B s.sn.length b,.slice C s.lg.length c]) (by simp[results,results23,go_sem,a6]) rfl ⟨_,_,_,s,q,rfl, ?_,HD.out.sv, ?_,by omega, ?_⟩
   .simp only[eg];exact((HD.out.os.set HD.out.k0 0 _).set (HD.out.k0.bZ 0 _) 1 _).set ((HD.out.k0.bZ 0 _).bZ 1 _) 2 _
   .exact HD.out.rd.eY (fE _ _ _ _ _) λb G e=>by have:=HD.out.gw;omega
   .exact HD.out.ch.trans (fE _ _ _ _ _) λi hi e=>by omega
  .have t0:=de (show 0<j by omega);clear k;have rd:=HD.out.rd;go_wp2;refine ala (N:=q+12) (s:=10) (ia:=9) (ic:=5) (bk:=wr.heap.size) (fx:=false) (ty:=27) (n:=3) (S:=λ_=>False) (pre:=[]) 12 q [1,4] [0,2,3,5,6,7,8,9,10,11] (by kernel_rfl) (by kernel_rfl) (by kernel_rfl) rd (am _) none (λb G=>by cases G) (λh=>by cases h) (λb G=>G.elim) (λb G=>by cases G) (.inl rfl) ?_;simp only[pick,List.map,pa,pb];repeat(go_big_quiet_step (fail))
   refine iS ?_;apply Exists.intro;apply anw (λv=>v=.agg #[.slice A s.pk.length a,.slice B s.sn.length b,.slice C s.lg.length c])
   .rfl
   .intro x _ X f;replace f:=ab f;have ca:=aaN (x:=x) bl (by show o≠g;omega) (by show o≠_;omega) (λh=>h);have cb:=aaN (x:=x) aa (by show o≠g;omega) (by show o≠_;omega) (λh=>h);have cc:=aaN (x:=x) bt (by show o≠g;omega) (by show o≠_;omega) (λh=>h);go_wp2;exact f.out _ rfl
   intro ux;simp only[Act.put,db,fd,ga];apply auE (λv=>∃m:Int,v=.int .i64 m/\0<=m/\m<2)
   .rfl
   .intro x _ hN X f;replace f:=ab f;go_wp2;refine(cF _ _ _ _ _ _ 2 x.rd (by omega)).mono ?_;rintro e wy ⟨m,rfl,⟨_,q1⟩,ck,bP⟩;obtain⟨q2,q3⟩:=q1 (by omega);go_wp2;exact f.out _ _ ck bP ⟨m,rfl,q2,q3⟩
   intro u2;apply anw (λv=>∃m:Int,v=.int .i64 m/\1<=m/\m<=2)
   .rfl
   .intro x z X f;replace f:=ab f;obtain⟨m,rfl,q1,q2⟩:=z.1 (by kernel_rfl);go_wp2;exact f.out _ ⟨_,rfl,by omega,by omega⟩
   intro u3;apply auF (λv x=>aaR v x)
   .rfl
   .rfl
   .exact λv x y h hl=>h.le hl
   .intro x z X f;replace f:=ab f;obtain⟨m3,rfl,i1,i2⟩:=z.1 (by kernel_rfl);cases z.2.2.1 (by kernel_rfl);clear z;have bp:∀b,w.heap.size<=b->b<wr.heap.size->b<wr.heap.size/\¬(b=g\/x.box=some b\/x.done=true/\False):=λb h1 h2=>⟨h2,λe=>by
     rcases e with e|e|e
     .have:=HD.out.gw;omega
     .rcases x.bw b e with e|e<;>omega
     .exact e.2⟩
    have ox:=HD.out.os.eY x.ok bp;have tx:=HD.out.ot.eY x.ok λb G=>(bp b (HD.out.ot.at_ G).1 (HD.out.ot.at_ G).2).2;have zx:=x.ok.size;have wf:=HD.out.sv.wf;have tr:=(tx.deep (abQ HD.out.ft) 0).sl (fa _);go_wp2;refine(ajj 7 (by omega) s m3 (by unfold cA;omega) t (pM HD.out.ft) (by have:=HD.out.ft.2.1;omega) wf.small wf.dh (by have:=wf.axI;omega) _ _ _ _ x.to _ _ 0 x.to.heap.size ox zx tr (am _)).mono ?_;rintro e wy ⟨v1,v2,v3,qq,r,rfl,oy,bG,aY⟩;go_wp2;exact f.out _ _ aY (aaR.new x aY oy (λc4=>by
     rcases bG with⟨_,h1,rfl⟩|⟨h1,_⟩
     .exact HD.out.sv.save (by omega) HD.out.ft h1
     .rw[c4] at h1;cases h1) (by have:=HD.out.gw;omega) _)
   intro u5;simp only[Act.put,db,fd,ga];apply ahJ (λv u=>v=u/\∃O P U q,aeZ u O P U q)
   .rfl
   .intro x z X f;replace f:=ab f;obtain⟨⟨v1,v2,v3,qq,r,L,H,rfl,ho,_⟩,K⟩:=z.1 (by kernel_rfl);clear z;go_wp2;exact f.out _ _ K ⟨rfl,_,_,_,_,aeZ.of ho⟩
   intro u6;simp only[Act.put,db,fd,ga];apply ahJ (λv u=>∃O P U q,aeZ u O P U q/\v=.agg #[O,P,U])
   .rfl
   .intro x z X f;replace f:=ab f;obtain⟨u,K,rfl,v1,v2,v3,qq,E⟩:=z.1 (by kernel_rfl);have e:=E.eq;subst e;clear z;go_wp2;exact f.out _ _ K ⟨_,_,_,_,E,rfl⟩
   intro u7;simp only[Act.put,db,fd,ga];apply ahJ (λv u=>∃O P U q,aeZ u O P U q/\v=.bool q)
   .rfl
   .intro x z X f;replace f:=ab f;obtain⟨u,K,rfl,v1,v2,v3,qq,E⟩:=z.2.1 (by kernel_rfl);have e:=E.eq;subst e;clear z;go_wp2;exact f.out _ _ K ⟨_,_,_,_,E,rfl⟩
   intro u8;simp only[Act.put,db,fd,ga];apply arv (cs:=#[.slice none 0 0,.slice none 0 0,.slice none 0 0])
   .rfl
   .rfl
   .decide
   .have:=HD.out.gw;omega
   .rfl
   .intro x X f;replace f:=ab f;go_wp2;exact f.out
   intro u9;simp only[Act.put,db,fd,ga];apply arw (λx=>ahQ x)
   .rfl
   .exact λj hj=>(by cases hj)
   .exact λx y h hl=>h.le hl
   .intro x z aJ X f;replace f:=ab f;obtain⟨b6,rfl,ct,a4⟩:=z.1 (by kernel_rfl);obtain⟨u,K,v1,v2,v3,qq,E,rfl⟩:=z.2.2.1 (by kernel_rfl);clear z;have e:=E.eq;subst e;obtain⟨A1,m1,c1,rfl⟩:=E.a;obtain⟨B1,k1,d1,rfl⟩:=E.b;obtain⟨C1,k2,d2,rfl⟩:=E.c;obtain⟨cO,d6,cs,c2,V⟩:=x.bx _ a4;obtain⟨ca,cb,cc,rfl⟩:=arQ c2;have aa:=V.cell;have cx:=V.frozen;go_wp2;exact f.out _ a4 _ (fE _ _ _ _ _) _ rfl (((V.bZ 0 _).bZ 1 _).bZ 2 _) ⟨rfl,_,_,_,_,_,a4,K,((V.bZ 0 _).bZ 1 _).bZ 2 _⟩
   .rfl
   simp only[Act.put,db,fd,ga];apply ahJ (λv u=>∃O P U q,aeZ u O P U q/\v=.bool q)
   .rfl
   .intro x z X f;replace f:=ab f;obtain⟨u,K,v1,v2,v3,qq,E,rfl⟩:=z.2.2.1 (by kernel_rfl);clear z;go_wp2;exact f.out _ _ K ⟨_,_,_,_,E,rfl⟩
   intro cW;simp only[Act.put,db,fd,ga];refine ax6 λx z=> ?_;simp only[iZ] at z;obtain⟨⟨u,K,v1,v2,v3,qq,E,rfl⟩,⟨aJ,gy,cS,cr,d7,d8,bu,an,ky⟩,⟨cC,rfl,cz,bx⟩, -, -, -,⟨⟨x1,x2,x3,dd,r,L,H,rfl,oy,fy,hL,hH,M⟩,bi⟩, -⟩:=z;have e:=E.eq;subst e;rw[K] at an bi;cases an;cases bi;rw[bu] at bx;cases bx;obtain⟨⟨A1,a1,rfl⟩,⟨B1,b1,rfl⟩,C1,c1,rfl⟩:=oy.form;have a0:bJ (λb=>b=g) wr x.to:=x.ok.mono λb G e=>by
    rcases e with e|e|⟨_,e⟩
    .exact e
    .rcases x.bw b e with e|e<;>omega
    .exact e.elim
   have Q:=HD.out.eY a0 x.rd;have cd:x.q<=q+12:=x.lim;have zx:=a0.size;simp only[List.drop];clear K E aJ bu fy HD rd bl aa bt a0;revert zx;revert hH;revert oy;revert ky;revert cd;revert Q;generalize x.to=w4;generalize x.q=q4;clear x;intro Q cw ky oy hH zx;have HD:=ab Q;have d4:=Q.ks.lt;replace M:=ab M;clear Q;cases qq
   case' false=>
    clear ky oy M;go_wp2;revert HD;generalize w4=w5;intro HD
   case' true=>
    have bS:=ky.cell;have c7:=HD.out.ks.cell;have bO:=HD.out.ks.frozen;have a7:=((HD.out.ks.bZ 0 (.slice A1 r.pk.length a1)).bZ 1 (.slice B1 r.sn.length b1)).bZ 2 (.slice C1 r.lg.length c1);simp only[db,fd,ga] at a7;have R:=fE w4 o (.slice A1 r.pk.length a1) (.slice B1 r.sn.length b1) (.slice C1 r.lg.length c1);have b5:gq (((w4.setCell ⟨o,0,none⟩ (.slice A1 r.pk.length a1)).setCell ⟨o,1,none⟩ (.slice B1 r.sn.length b1)).setCell ⟨o,2,none⟩ (.slice C1 r.lg.length c1)) L H r (.slice A1 r.pk.length a1) (.slice B1 r.sn.length b1) (.slice C1 r.lg.length c1):=((oy.set HD.out.ks 0 _).set (HD.out.ks.bZ 0 _) 1 _).set ((HD.out.ks.bZ 0 _).bZ 1 _) 2 _
    have W:ahR w (((w4.setCell ⟨o,0,none⟩ (.slice A1 r.pk.length a1)).setCell ⟨o,1,none⟩ (.slice B1 r.sn.length b1)).setCell ⟨o,2,none⟩ (.slice C1 r.lg.length c1)) lo hi g l q4 o (.slice A1 r.pk.length a1) (.slice B1 r.sn.length b1) (.slice C1 r.lg.length c1) (.slice T t.length d) r t:=
     ⟨bQ HD.out.k0 R (by omega),a7,by simp only[eg];exact gq.wide b5 (by omega) hH,M.out rfl,HD.out.ot.eY R λb G e=>by
       have:=aD.deep HD.out.ot (abQ HD.out.ft) 0;obtain⟨ds,k⟩:=this.blk G;have e':b=o:=e;subst e';exact absurd (fp HD.out.ks k) (by decide),HD.out.ft,HD.out.rd.eY R λb G e=>by omega,HD.out.ch.trans R λi hi e=>by have e':i=o:=e;omega,bY,bF⟩
    replace W:=ab W;clear a7 R b5 oy HD M;go_wp2;have HD:=W;clear W;revert HD;generalize ((w4.setCell ⟨o,0,none⟩ (.slice A1 r.pk.length a1)).setCell ⟨o,1,none⟩ (.slice B1 r.sn.length b1)).setCell ⟨o,2,none⟩ (.slice C1 r.lg.length c1)=w5;intro HD;clear bS c7 bO ky
   all_goals
    refine(lN l g q4 lo hi w5 HD.out.rd (by omega)).mono ?_;rintro e w6 ⟨sp,q6,rfl,d5,aU,di,b9⟩;have a3:=ab (HD.out.eY b9 aU);clear aU b9 HD;go_wp2;refine(adb l g q6 lo hi w6 a3.out.rd (by omega)).mono ?_;rintro e w7 ⟨tx,q7,rfl,cp,af,d0,ay⟩;have F:=ab (a3.out.eY ay af);clear af ay a3;have r7:=((F.out.ot.deep (abQ F.out.ft) 0).sl (fa _));replace r7:=ab r7;go_wp2;refine(ac6 t sp tx (by unfold maxLen;omega) (by unfold maxLen;omega) _ w7 0 w7.heap.size r7.out (am _) (by have:=F.out.ft.2.1;omega)).mono ?_;rintro e w8 ⟨v8,zs,put,rfl,o8,ba,b8⟩;have z7:=F.out.ch.size;have a2:=ab (F.out.eY (bJ.bh (S:=λb=>b=g) b8) (F.out.rd.eY (bJ.bh (S:=λ_=>False) b8) λ_ _ h=>h));have a5:=ab (And.intro (o8.base z7) ba);obtain⟨A8,c8,rfl⟩:=o8.form;clear F r7 o8 ba b8;cases put
    case' false=>
     clear a5;have Z:=a2
    case' true=>have Z:=ab (a2.out.tree a5.out.1 a5.out.2)
    all_goals
     clear a2;go_wp2;refine(cF _ _ _ _ _ _ 3 (Z).out.rd (by omega)).mono ?_;rintro e c9 ⟨a9,rfl,⟨_,c3⟩,aL,bo⟩;have Y:=ab ((Z).out.eY bo aL);clear c3 aL bo Z;by_cases m0:a9=0
     .have t5:(a9 ==0)=true:=mp.2 m0;clear m0;go_wp2;refine(lN l g _ lo hi c9 Y.out.rd (by omega)).mono ?_;rintro e bf ⟨ch,cl,rfl,co,aP,cG,ax⟩;have D:=ab (Y.out.eY ax aP);clear aP ax Y;have b7:=ab ((D.out.ot.deep (abQ D.out.ft) 0).sl (fa _));go_wp2;refine(ai8 _ ch _ bf 0 bf.heap.size b7.out (am _) (by have:=D.out.ft.2.1;omega)).mono ?_;rintro e d9 ⟨cY,ys,rfl,a8,al,ad⟩;have cm:=D.out.ch.size;have c6:=ab ((D.out.eY (bJ.bh (S:=λb=>b=g) ad) (D.out.rd.eY (bJ.bh (S:=λ_=>False) ad) λ_ _ h=>h)).tree (a8.base cm) (D.out.ft.sub al));obtain⟨d3,cB,rfl⟩:=a8.form;clear D b7 a8 al ad;go_wp2;go_roundw
      case rel=>exact⟨j-1,cl,_,_,_,_,_,by omega,by go_num,c6.out,by omega⟩
      simp[intOf];omega
     .have t5:(a9 ==0)=false:=dq.2 m0;clear m0;go_wp2;go_roundw
      case rel=>exact⟨j-1,_,_,_,_,_,_,by omega,by go_num,Y.out,by omega⟩
      simp[intOf];omega
end
section
variable {β:Bool}
open Go.RowKit
def apg:List ByteArray:=[⟨#[122,122]⟩,⟨#[98,46]⟩,⟨#[97,98,99,46]⟩,⟨#[104,101,108,108,111,46,46,46]⟩,⟨#[]⟩]
structure aCG (L:abN) (nc:Nat):Prop where
 k:0<=L.k/\L.k<=5
 n:0<=L.n/\L.n<=20
 nl:L.k=2\/L.k=4->L.n<=nc
 m:0<=L.m/\L.m<=3
 b:L.b∈apg
end
section
variable {β:Bool}
open Go.RowKit
structure SmS (s:dE):Prop where
 pl:s.pk.length<=20
 pn:∀p∈s.pk,p.its.length<=4/\∀x∈p.its,x.b.size<=8
 sl:s.sn.length<=9
 sn:∀x∈s.sn,x.all.length<=6/\∀y∈x.all,y.p.size<=3/\y.ns.length<=40
 ll:s.lg.length<=9
def WfS.sm(h:WfS s):SmS s:=⟨h.pl,λp a=>(h.pn p a).2,by have:=h.sl;have:=h.ll;omega,λx b=>(h.sn x b).2,h.ll⟩
def SmS.axI(h:SmS s):aeq s<=10000:=by
 have e:dS bPk s.pk<=s.pk.length*(36+1):=iQ λp b=>by
  have c:dS bIt p.its<=p.its.length*(8+1):=iQ λx a=>(h.pn p b).2 x a;have:=(h.pn p b).1;show dS bIt p.its<=36;omega
 have f:dS bSn s.sn<=s.sn.length*(264+1):=iQ λx a=>by
  have c:dS bLs x.all<=x.all.length*(43+1):=iQ λy d=>by
   have:=(h.sn x a).2 y d;show y.p.size+y.ns.length<=43;omega
  have:=(h.sn x a).1;show dS bLs x.all<=264;omega
 have:=h.pl;have:=h.sl;have:=h.ll;unfold aeq;omega
end
section
variable {β:Bool}
open Go.RowKit
def py(x:Int)(w:World)(b:Bool)(a:b=true↔1<=x/\x<=99):Calls (ah β) 19 #[.int .i64 x] w λe c=>e=.returned (.bool b)/\w=c:=by
 replace a:=ab a;by_cases h:1<=x
 .go_enter xp,ntmps19;go_wp2;go_ret;exact⟨aA (by rw[qh,a.out];simp[h]),rfl⟩
 .go_enter xp,ntmps19;go_wp2;go_ret;exact⟨aA (by rw[qh,a.out];simp[h];omega),rfl⟩
def agu(s:ByteArray)(n:s.size<=maxLen)(w:World) :
  Calls (ah β) 101 #[.string s] w λe m=>e=.returned (.bool ((bs s).all nU))/\w=m:=by
 unfold maxLen at n;go_enter yp,ntmps101;go_wp2
 go_loop [6] (λi=>∃k:Nat,k<=s.size/\i=.int .i64 k/\((bs s).take k).all nU=true) (λi=>s.size-(intOf i).toNat)
 case atStart=>exact⟨0,fa _,rfl,rfl⟩
 case round=>
  obtain⟨k,p,rfl,f⟩:=hrel;replace f:=ab f;by_cases b:k<s.size
  .have d:=oG b;replace d:=ab d;by_cases q:(s[k]'b).toNat<97
   .have l:=de (show((s[k]'b).toNat:Int)<97 by omega);have a:(bs s).all nU=false:=by
     rw[uc];exact⟨_,be d.out,by unfold nU;simp;omega⟩
    have c:=ab a;clear a;go_wp2;go_ret;exact⟨aA c.out.symm,rfl⟩
   .have l:=bv (show ¬(((s[k]'b).toNat:Int)<97) by omega);by_cases o:122<(s[k]'b).toNat
    .have j:=de (show 122<((s[k]'b).toNat:Int) by omega);have a:(bs s).all nU=false:=by
      rw[uc];exact⟨_,be d.out,by unfold nU;simp;omega⟩
     have c:=ab a;clear a;go_wp2;go_ret;exact⟨aA c.out.symm,rfl⟩
    .have j:=bv (show ¬(122<((s[k]'b).toNat:Int)) by omega);have g:((bs s).take (k+1)).all nU=true:=by
      rw[mu d.out,tc,f.out];simp[nU];omega
     replace g:=ab g;go_wp2
     go_round
     case rel=>exact⟨k+1,by omega,by go_num,g.out⟩
     simp[intOf];omega
  .obtain rfl:k=s.size:=by omega
   have a:(bs s).all nU=true:=by
    have:=f.out
    rwa [qb (by rw[aK];exact am _)] at this
   have c:=ab a;clear a;go_wp2;go_ret;exact⟨aA c.out.symm,rfl⟩
def pN(s:ByteArray)(j:s.size<=maxLen)(w:World)(b:Bool)(g:b=true↔aQ (bs s)) :
  Calls (ah β) 145 #[.string s] w λe l=>e=.returned (.bool b)/\w=l:=by
 replace g:=ab g;have HS:=j;unfold maxLen at j;have a:b=(decide (1<=(s.size:Int))&&decide ((s.size:Int)<=8)&&(bs s).all nU):=by
  rw[qh,g.out];unfold aQ;rw[aK];simp only[fb,qG];exact⟨λ⟨⟨k,i⟩,f⟩=>⟨⟨by omega,by omega⟩,f⟩,λ⟨⟨k,i⟩,f⟩=>⟨⟨by omega,by omega⟩,f⟩⟩
 replace a:=ab a;by_cases k:1<=s.size
 .have c:=de (show 1<=(s.size:Int) by omega);by_cases i:s.size<=8
  .have d:=de (show(s.size:Int)<=8 by omega);go_enter wC,ntmps145;go_wp2;refine(agu s HS w).mono ?_;rintro e m ⟨rfl,rfl⟩;go_wp2;go_ret;exact⟨aA (by rw[a.out,c,d];simp),rfl⟩
  .have d:=bv (show ¬((s.size:Int)<=8) by omega);go_enter wC,ntmps145;go_wp2;go_ret;exact⟨aA (by rw[a.out,c,d];simp),rfl⟩
 .have c:=bv (show ¬(1<=(s.size:Int)) by omega);go_enter wC,ntmps145;go_wp2;go_ret;exact⟨aA (by rw[a.out,c];simp),rfl⟩
end
section
variable {β:Bool}
open Go.RowKit
def alD{s:ByteArray}(h:k<s.size):code ((bs s).take (k+1))=27*code ((bs s).take k)+((s[k]'h).toNat-97)+1:=aga (oG h)
def ajq{l:List Nat}(h:aQ l)(k:Nat):code (l.take k)<282429536481:=by
 rcases oE k with a|a
 .subst a;simp[code,dX]
 .refine abx ⟨⟨?_, ?_⟩, ?_⟩
  .rw[fi];have:=h.1.1;omega
  .rw[fi];have:=h.1.2;omega
  .rw[kw];exact λx b=>kw.1 h.2 x (pr b)
def auT(key:Int)(s:ByteArray)(r:1<=key/\key<=99)(b:aQ (bs s))(w:World) :
  Calls (ah β) 147 #[.int .i64 key,.string s] w λe q=>e=.returned (.tuple #[.int .i64 (bm key (bs s)),.nilIface])/\w=q:=by
 have u:1<=s.size/\s.size<=8:=by have:=b.1;rw[aK] at this;exact this
 have j:s.size<=maxLen:=by unfold maxLen;omega
 have n:=abx b;replace b:=ab b;replace j:=ab j;have l:bm key (bs s)=((code (bs s):Int)*(2*key+1)+7919*key) % 999999999989:=by unfold bm;rw[Int.mul_comm key 7919]
 have g:=ab l;clear l;go_enter xU,ntmps147;go_wp2;refine(py key w true (by simp;exact r)).mono ?_;rintro e o ⟨rfl,rfl⟩;go_wp2;refine(pN s j.out w true (by simp only[sQ];exact b.out)).mono ?_;rintro e o ⟨rfl,rfl⟩;go_wp2
 go_loop [6,20] (λc i=>∃k:Nat,k<=s.size/\i=.int .i64 k/\c=.int .i64 (code ((bs s).take k))) (λ_ i=>s.size-(intOf i).toNat)
 case atStart=>exact⟨0,fa _,rfl,rfl⟩
 case round=>
  obtain⟨k,p,rfl,rfl⟩:=hrel;by_cases a:k<s.size
  .have d:=alD a;have v:=ajq b.out k;have t:=ajq b.out (k+1);have A:97<=(s[k]'a).toNat/\(s[k]'a).toNat<=122:=by
    have:=kw.1 b.out.2 _ (be (oG a));unfold nU at this;simpa using this
   replace d:=ab d;generalize f:code ((bs s).take k)=cd at *;replace f:=ab f;go_wp2
   go_round
   case rel=>exact⟨k+1,by omega,by go_num,by rw[d.out];congr 1;omega⟩
   simp[intOf];omega
  .obtain rfl:k=s.size:=by omega
   have m:(bs s).take s.size=bs s:=qb (by rw[aK];exact am _);rw[m];clear m;revert g;revert n;generalize code (bs s)=c;intro n g;have y:0<=(c:Int)*(2*key+1)/\(c:Int)*(2*key+1)<=282429536481*199:=by
    constructor
    .exact Int.mul_nonneg (by omega) (by omega)
    .exact Int.mul_le_mul (by omega) (by omega) (by omega) (by omega)
   have C:wrap64 (2*key)=2*key:=by unfold wrap64;omega
   have x:wrap64 (2*key+1)=2*key+1:=by unfold wrap64;omega
   have D:wrap64 ((c:Int)*(2*key+1))=(c:Int)*(2*key+1):=by unfold wrap64;omega
   have z:wrap64 (7919*key)=7919*key:=by unfold wrap64;omega
   have B:wrap64 ((c:Int)*(2*key+1)+7919*key)=(c:Int)*(2*key+1)+7919*key:=by unfold wrap64;omega
   have E:((c:Int)*(2*key+1)+7919*key).tmod 999999999989=((c:Int)*(2*key+1)+7919*key) % 999999999989:=uR (by omega);go_wp2;go_ret2;exact⟨by rw[g.out];rfl,rfl⟩
def arR(key:Int)(s:ByteArray)(nm:Int)(c:1<=key/\key<=99)(b:aQ (bs s))(w:World) :
  Calls (ah β) 108 #[.int .i64 key,.string s,.int .i64 nm] w λe d=>e=.returned (.bool (decide (bm key (bs s)=nm)))/\w=d:=by
 replace b:=ab b;go_enter yk,ntmps108;go_wp2;refine(auT key s c b.out w).mono ?_;rintro e f ⟨rfl,rfl⟩;obtain⟨y,a⟩:∃y,y=bm key (bs s):=⟨_,rfl⟩;rw[<-a];replace a:=ab a;by_cases h:y=nm
 .subst h;go_wp2;go_ret;exact⟨aA (by rw[<-a.out];simp),rfl⟩
 .have g:(y ==nm)=false:=dq.2 h;go_wp2;go_ret;exact⟨aA (by rw[<-a.out];simp[h]),rfl⟩
end
section
variable {β:Bool}
open Go.RowKit
def aph(n:Nat)(m:1<=n/\n<=8)(w:World) :
  Calls (ah β) 167 #[.int .i64 n] w λe f=>e=.returned (.int .i64 (cu n))/\w=f:=by
 have i:((1<=n/\n<=2)/\cu n=2)\/((3<=n/\n<=4)/\cu n=4)\/((5<=n/\n<=8)/\cu n=8):=by
  unfold cu;split<;>(try split)<;>(try split)<;>omega
 obtain⟨a,b⟩:∃a,a=cu n:=⟨_,rfl⟩;rw[<-b] at i ⊢;replace b:=ab b;have l:=bv (show ¬((n:Int)<1) by omega);have j:=bv (show ¬(8<(n:Int)) by omega);go_enter xN,ntmps167;go_wp2
 go_loop [3] (λv=>∃k:Nat,v=.int .i64 k/\(k=2\/k=4\/k=8)/\k<=a) (λv=>8-(intOf v).toNat)
 case atStart=>exact⟨2,rfl,.inl rfl,by omega⟩
 case round=>
  obtain⟨k,rfl,o,g⟩:=hrel;by_cases d:k<n
  .have c:=de (show(k:Int)<(n:Int) by omega);go_wp2
   go_round
   case rel=>exact⟨k*2,by go_num,by omega,by omega⟩
   simp[intOf];omega
  .have c:=bv (show ¬((k:Int)<(n:Int)) by omega);obtain rfl:k=a:=by omega
   go_wp2;go_ret;exact⟨rfl,rfl⟩
def alE(s:ByteArray)(r:s.size<=maxLen)(w:World) :
  Calls (ah β) 162 #[.string s,.int .u8 46] w λe q=>e=.returned (.string (s.extract 0 (df (bs s) s.size)))/\w=q:=by
 unfold maxLen at r;go_enter xO,ntmps162;go_wp2
 go_loop [0] (λv=>∃(t:ByteArray) (k:Nat),v=.string t/\k<=s.size/\t=s.extract 0 k/\df (bs s) s.size=df (bs s) k) (λv=>match v with|.string t=>t.size|_=>0)
 case atStart=>exact⟨s,s.size,rfl,am _,by rw[ByteArray.extract_zero_size],rfl⟩
 case round=>
  obtain⟨t,k,rfl,x,c,a⟩:=hrel;have u:t.size=k:=by rw[c,uw x]
  replace c:=ab c;replace a:=ab a;rcases oE k with n|n
  .have p:=bv (show ¬(0<(t.size:Int)) by omega);go_wp2;go_ret;exact⟨by rw[a.out,c.out,n];rfl,rfl⟩
  .obtain⟨j,rfl⟩:∃j,k=j+1:=⟨k-1,by omega⟩;have p:=de (show 0<(t.size:Int) by omega);have z:((j+1:Nat):Int)-1=(j:Int):=by omega
   have f:j<t.size:=by omega
   have g:(bs s)[j]?=some (t[j]'f).toNat:=by
    rw[<-oG f,c.out,cI,qV,sS (by omega)]
   replace g:=ab g;by_cases b:(t[j]'f).toNat=46
   .have o:(((t[j]'f).toNat:Int) ==46)=true:=mp.2 (by omega);have m:df (bs s) s.size=df (bs s) j:=by
     rw[a.out];show(if(bs s)[j]?=some 46 then df (bs s) j else j+1)=_;rw[dj (by rw[g.out,b])]
    replace m:=ab m;clear b;have l:t.extract 0 j=s.extract 0 j:=by
     apply jb;rw[cI,cI,c.out,cI,qV,qV,qV,vI]
     congr 1;omega
    have y:(t.extract 0 j).size=j:=uw (by omega);replace l:=ab l;go_wp2
    go_round
    case rel=>exact⟨_,j,rfl,by omega,l.out,m.out⟩
    case measure=>
     show(t.extract 0 j).size<t.size;omega
   .have o:(((t[j]'f).toNat:Int) ==46)=false:=dq.2 (by omega);have d:df (bs s) (j+1)=j+1:=by
     show(if(bs s)[j]?=some 46 then df (bs s) j else j+1)=_;rw[bd (by rw[g.out];intro h;exact b (dl h))]
    replace d:=ab d;clear b;go_wp2;go_ret;have i:t=s.extract 0 (df (bs s) s.size):=by rw[a.out,d.out];exact c.out
    exact⟨by rw[<-i];rfl,rfl⟩
def ajr(s:ByteArray)(b:s.size<=maxLen)(w:World) :
  Calls (ah β) 144 #[.string s,.string ⟨#[46]⟩] w λe c=>e=.returned (.string (s.extract 0 (df (bs s) s.size)))/\w=c:=by
 by_cases d:s.size=0
 .have a:s=ByteArray.empty:=jb (by
   have:(bs s).length=0:=by rw[aK];exact d
   rw[rT this];rfl)
  subst a;go_enter wU,ntmps144;go_wp2;go_ret;exact⟨rfl,rfl⟩
 .have g:s.toList.isEmpty=false:=by
   rw[uX];intro h;rw[List.isEmpty_iff,qx] at h;apply d;have:s.data=#[]:=ur.1 h;show s.data.size=0;rw[this];rfl
  have f:¬(128:Int)<=(((⟨#[46]⟩:ByteArray)[0]'Nat.zero_lt_one).toNat:Int):=by decide
  replace b:=ab b;go_enter wU,ntmps144;go_wp2_with(go_at_call 162;refine(alE s b.out w).mono ?_;rintro e c ⟨rfl,rfl⟩);go_ret;exact⟨rfl,rfl⟩
end
section
variable {β:Bool}
open Go.RowKit
def alF {P:Program} {a ty c t e:TypeId} {j:TypeInfo}  (k:P.underlying a=some (.pointer t)) (hi:P.info? t=some j) (m:j.bytes<18446744073709551616)
  (l:w.shape? b=some (e,V)) (f:liesAt P P.depth e (V / P.cellsOf e) 0 t 1=true) :
  (Builtin.unsafeSlice_ #[a,c] ty #[.pointer (some ⟨b,0,none⟩),.int .i64 1]).run P w=.ok (.slice (some ⟨b,0,none⟩) 1 1) w:=by
 have g:¬(18446744073709551616:Nat)<=j.bytes:=by omega
 unfold Builtin.unsafeSlice_;refine(qI P (asInt (.int .i64 1)) _ w).trans ?_;have d:(asInt (.int .i64 1)).run P w=.ok 1 w:=by simp[asInt,asIntOf]
 rw[d];refine(qI P (elemOf a) _ w).trans ?_;have i:(elemOf a).run P w=.ok t w:=by simp[elemOf,lE k]
 rw[i];simp only[Result.andThen];simp[variablesAt,l,f,typeInfo,hi,sizeOf,IntKind.max,IntKind.signed,IntKind.bits,g]
noncomputable def xCC:Func:=by
 apply(λ(x:Func) (_:{f139 with body:=some mQ}=x)=>x)
 case x=>dsimp only[mQ,oD,ahk,akQ,iv,f139]
def anI:xCC.results=#[]:=results139
def alG:(ah β).funcs[139]?=some xCC:=acp β
@[go_sem] theorem aAA(args:Array Value)(w:World):(callFunc 139 args).run (ah β) w=.ok (.enter 139 args) w:=by
 have a:=cK func139;exact kS alG a rfl args w
def auU:((ah β).info? 145).map (λi=>(i.bytes,i.size))=some (32,2):=by kernel_rfl
def auV:liesAt (ah β) (ah β).depth 145 (2 / (ah β).cellsOf 145) 0 145 1=true:=by kernel_rfl
def ajs(d:w.shape? b=some (145,2)):(Builtin.unsafeSlice_ #[143,3] 0 #[.pointer (some ⟨b,0,none⟩),.int .i64 1]).run (ah β) w=.ok (.slice (some ⟨b,0,none⟩) 1 1) w:=by
 obtain⟨j,c,a⟩:=io.1 (auU (β:=β));simp only[uO] at a;exact alF xC c (by omega) d auV
def ajt(b:Nat)(w:World)(g:w.cell? ⟨b,0,none⟩=some (.pointer none))(f:w.shape? b=some (145,2))(c:w.frozen? ⟨b,0,none⟩=false) :
  Calls (ah β) 139 #[.pointer (some ⟨b,0,none⟩)] w λe a=>e=.returned (.tuple #[])/\a=w.setCell ⟨b,0,none⟩ (.pointer (some ⟨b,0,none⟩)):=by
 have i:=ajs (β:=β) f;have d:xCC.ntmps=20:=ntmps139;go_enter alG,d;go_wp2;refine ph (results_none anI _ _ _) rfl ?_;exact⟨rfl,rfl⟩
def ayo(B b:Nat)(bs:List Value)(w:World)(h:Lib.IsBuilderF 145 5 B b bs w) :
  Calls (ah β) 139 #[.pointer (some ⟨b,0,none⟩)] w λe a=>e=.returned (.tuple #[])/\(Lib.BuilderAtF 145 5 B b (.pointer (some ⟨b,0,none⟩)) bs a/\Below B w a):=by
 rcases h with h|h
 .refine(ajt b w h.cell0 h.shape h.frozen0).mono ?_;rintro e a ⟨rfl,rfl⟩;exact⟨rfl,h.used _,(ff B w).setCell (p:=⟨b,0,none⟩) h.1 _⟩
 .have j:=ajs (β:=β) h.shape;have g:xCC.ntmps=20:=ntmps139;have i:=h.cell0;have k:=h.frozen0;have c:=h.used (.pointer none);have f:=c.cell0;have d:=c.frozen0;go_enter alG,g;go_wp2;refine ph (results_none anI _ _ _) rfl ?_;refine⟨rfl,c.used _,((ff B w).setCell (p:=⟨b,0,none⟩) h.1 _).setCell (p:=⟨b,0,none⟩) h.1 _⟩
def alH(B b:Nat)(bs:List Value)(w:World)(h:Lib.IsBuilderF 145 5 B b bs w) :
  Calls (ah β) 179 #[.pointer (some ⟨b,0,none⟩)] w λe j=>e=.returned (.int .i64 bs.length)/\j=w:=by
 obtain⟨p,n,v,l,a,i⟩:∃p,Lib.BuilderAtF 145 5 B b p bs w:=by
  rcases h with h|h
  .exact⟨_,h⟩
  .exact⟨_,h⟩
 obtain⟨c,cap,rfl⟩:∃c cap,v=.slice c bs.length cap:=by
  rcases a.2 with⟨d,k⟩|⟨g,cap,f,m,d,_⟩
  .exact⟨none,0,by rw[d,k]⟩
  .exact⟨_,_,d⟩
 have o:w.cell? ⟨b,1,none⟩=some (.slice c bs.length cap):=by rw[qS l];rfl
 go_enter xI,ntmps179;go_wp2;go_ret;exact⟨rfl,rfl⟩
def auW:((ah β).info? 5).map (λi=>(i.zero,i.size,i.bytes))=some (some (.int .u8 0),1,1):=by kernel_rfl
def oP(B b:Nat)(bs:List Value)(s:ByteArray)(w:World)(h:Lib.IsBuilderF 145 5 B b bs w)(C:bs.length+s.size<=140737488355328)(J:B<=w.heap.size) :
  Calls (ah β) 99 #[.pointer (some ⟨b,0,none⟩),.string s] w λe z=>e=.returned (.tuple #[.int .i64 s.size,.nilIface])/\(Lib.BuilderAtF 145 5 B b (.pointer (some ⟨b,0,none⟩)) (bs++Lib.strCells s) z/\Below B w z):=by
 obtain⟨I,K,q,t,u⟩:=info_parts (auW (β:=β));go_enter yC,ntmps99;go_wp2_with(go_at_call 139;refine(ayo B b bs _ h).mono ?_);rintro e j ⟨rfl,G,i⟩;obtain⟨D,v,l,f,o⟩:=G;have Q:j.cell? ⟨b,0,none⟩=some (.pointer (some ⟨b,0,none⟩)):=by rw[qS l];rfl
 have O:j.cell? ⟨b,1,none⟩=some v:=by rw[qS l];rfl
 go_wp2_with(at_builtin;refine Lib.wpList_append_own_stringF _ rfl _ _ 22 9 rfl B 5 I wA qU9 K q t u _ _ _ rfl f s rfl ?c3 ?c4 ?c5 ?_)
 case c3=>unfold maxLen;omega
 case c4=>omega
 case c5=>have:=i.size;omega
 intro E m a c _;have n:b<j.heap.size:=by
  rcases oR b j.heap.size with r|r
  .exact r
  .simp[pY r] at l
 have d:m.heap[b]?=some (.cells #[.pointer (some ⟨b,0,none⟩),v] 145 (0,0)):=by
  rw[c.block b n (λe=>o e.symm)];exact l
 have P:m.cell? ⟨b,0,none⟩=some (.pointer (some ⟨b,0,none⟩)):=by rw[qS d];rfl
 have N:m.cell? ⟨b,1,none⟩=some v:=by rw[qS d];rfl
 have M:m.frozen? ⟨b,1,none⟩=false:=uM d 1;obtain⟨A,y,cap,rfl⟩:∃A y cap,E=.slice A y cap:=by
  rcases a.2 with⟨x,_⟩|⟨g,cap,H,L,x,_⟩
  .exact⟨_,_,_,x⟩
  .exact⟨_,_,_,x⟩
 go_wp2;go_ret2;refine⟨rfl, ?_, ?_⟩
 .exact Lib.BuilderAtF.put (T:=145) (e:=5) D d (bs':=bs++Lib.strCells s) (by simpa[Lib.strCells_length] using a) (by decide)
 .exact(i.grown c (by have:=i.size;omega) (λk F=>(f.lt k F).1)).setCell (p:=⟨b,1,none⟩) D _
end
section
variable {β:Bool}
open Go.RowKit
def adU:((ah β)).follows .mixedOrders=true:=by kernel_rfl
def auX(B b n:Nat)(w:World)(r:B<=b)(d:w.heap[b]?=some (.cells #[.pointer (some ⟨b,0,none⟩),.slice none 0 0] 145 (0,0)))(i:B<=w.heap.size)(p:n<=281474976710656) :
  Calls (ah β) 140 #[.pointer (some ⟨b,0,none⟩),.int .i64 n] w λe m=>e=.returned (.tuple #[])/\(Lib.BuilderAt 145 5 B b (.pointer (some ⟨b,0,none⟩)) [] m/\Below B w m):=by
 obtain⟨cs,f,q,g⟩:=Lib.run_makeNoZero (P:=(ah β)) w.drew #[3] 22 5 wA n p;have l:IntKind.i64.wrap (IntKind.i64.wrap 0+(n:Int))=n:=by
  rw[rY,rY];omega
 have u:(callFunc 159 #[.int .i64 (IntKind.i64.wrap (IntKind.i64.wrap 0+(n:Int)))]).run (ah β) w.drew=.ok (.value (.slice (some ⟨w.drew.heap.size,0,none⟩) n cs.size)) (w.drew.drew.drew.alloc (.cells cs 5)):=by
  rw[l,run_callFunc_extern xQ (by kernel_rfl) (by kernel_rfl) (by kernel_rfl) (e:=Extern.BytealgMakeNoZero.makeNoZero #[3] #[22]) (by kernel_rfl),f];rfl
 have v:w.drew.cell? ⟨b,1,none⟩=some (.slice none 0 0):=by
  have:w.drew.heap[b]?=_:=d;rw[qS this];rfl
 have s:(w.alloc (.cells cs 5)).cell? ⟨b,1,none⟩=some (.slice none 0 0):=by
  have a:b<w.heap.size:=by
   rcases oR b w.heap.size with c|c
   .exact c
   .simp[pY c] at d
  have:(w.alloc (.cells cs 5)).heap[b]?=_:=(Lib.alloc_old w _ b a).trans d;rw[qS this];rfl
 have t:(w.alloc (.cells cs 5)).frozen? ⟨b,1,none⟩=false:=by
  have a:b<w.heap.size:=by
   rcases oR b w.heap.size with c|c
   .exact c
   .simp[pY c] at d
  exact uM ((Lib.alloc_old w _ b a).trans d) 1
 have o:∀W:World,(Builtin.copy_ #[22,22] 3 #[.slice (some ⟨w.heap.size,0,none⟩) 0 cs.size,.slice none 0 0]).run (ah β) W=.ok (goInt 0) W:=
  λW=>run_copy_none W 22 22 3 5 _ _ 0 cs.size 0 0 wA (by kernel_rfl) rfl
 clear l;have k:=adU (β:=β);go_enter xX,ntmps140;go_wp2;have j:=Lib.grown_fresh (T:=145) (e:=5) (cs:=cs) r d i (g (by unfold maxLen;omega)) (by decide)
 go_region_o
 all_goals(go_wp2;go_end0;exact⟨rfl,j⟩)
def anJ(B b n:Nat)(w:World)(j:B<=b)(f:w.heap[b]?=some (.cells #[.pointer none,.slice none 0 0] 145 (0,0)))(g:B<=w.heap.size)(m:n<=281474976710656) :
  Calls (ah β) 98 #[.pointer (some ⟨b,0,none⟩),.int .i64 n] w λe d=>e=.returned (.tuple #[])/\(Lib.BuilderAt 145 5 B b (.pointer (some ⟨b,0,none⟩)) [] d/\Below B w d):=by
 have a:(w.setCell ⟨b,0,none⟩ (.pointer (some ⟨b,0,none⟩))).heap[b]?=some (.cells #[.pointer (some ⟨b,0,none⟩),.slice none 0 0] 145 (0,0)):=by
  simp[World.setCell,nF,f]
 have r:(w.setCell ⟨b,0,none⟩ (.pointer (some ⟨b,0,none⟩))).cell? ⟨b,1,none⟩=some (.slice none 0 0):=by rw[qS a];rfl
 have c:Below B w (w.setCell ⟨b,0,none⟩ (.pointer (some ⟨b,0,none⟩))):=(ff B w).setCell (p:=⟨b,0,none⟩) j _;have i:=adU (β:=β);go_enter yD,ntmps98;have q:Lib.BuilderAt 145 5 B b (.pointer (some ⟨b,0,none⟩)) [] (w.setCell ⟨b,0,none⟩ (.pointer (some ⟨b,0,none⟩))):=⟨j,.slice none 0 0,a,uV _ _ _ _,by simp[Value.ownBlock]⟩;have l:(w.setCell ⟨b,0,none⟩ (.pointer (some ⟨b,0,none⟩))).drew.cell? ⟨b,1,none⟩=some (.slice none 0 0):=r;go_wp2_with(go_at_call 139;refine(ajt b w (by rw[qS f];rfl) (by simp[World.shape?,f]) (uM f 0)).mono ?_;rintro e d ⟨rfl,rfl⟩)
 go_region_o
 all_goals go_wp2_with(go_at_call 140;refine(auX B b n (w.setCell ⟨b,0,none⟩ (.pointer (some ⟨b,0,none⟩))).drew j a (by simpa[World.setCell,World.drew, -World.drew_eq] using g) m).mono ?_;rintro e d ⟨rfl,o,k⟩)
 all_goals first
  |(go_end0;exact⟨rfl,o,c.drew.trans k⟩)
  |(go_end0;exact⟨rfl,q.drew,c.drew⟩)
end
section
variable {β:Bool}
open Go.RowKit
def auY:Code->Code
 |.seq a b=>.seq (auY a) (auY b)
 |.region i ⟨ops⟩ d=>.region i (ops.map λo=>{o with type:=match o.op with|.call ⟨.builtin .unsafeSliceData,_,_⟩=>3|_=>o.type}).toArray d
 |.ret=>.ret
 |_=>.skip
noncomputable def xSt:Func:=by
 apply(λ(x:Func) (_:{f100 with body:=f100.body.map auY}=x)=>x)
 case x=>dsimp only[auY,f100,Option.map,List.map]
def arS:f100.body.map gP=xSt.body:=by unfold gP;kernel_rfl
def arT:(ah β).funcs[100]?=some xSt:=by
 refine(akR β (by decide) (by decide)).trans ?_;have e:Option.map pf (prog.funcs[100]?)=Option.map pf (some f100):=gc _ func100;rw[e,qf];unfold pf;rw[arS];rfl
@[go_sem] theorem aAB(args:Array Value)(w:World):(callFunc 100 args).run (ah β) w=.ok (.enter 100 args) w:=by
 have a:=cK func100;exact kS arT a rfl args w
def acH(B b:Nat)(l:List UInt8)(w:World)(h:Lib.IsBuilderF 145 5 B b (Lib.byteCells l) w)(u:l≠[]) :
  Calls (ah β) 100 #[.pointer (some ⟨b,0,none⟩)] w λe t=>e=.returned (.string ⟨l.toArray⟩)/\(Lib.IsBuilderF 145 5 B b (Lib.byteCells l) t/\Below B w t):=by
 obtain⟨p,G,s⟩:∃p,(p=.pointer none\/p=.pointer (some ⟨b,0,none⟩))/\Lib.BuilderAtF 145 5 B b p (Lib.byteCells l) w:=by
  rcases h with h|h
  .exact⟨_,.inl rfl,h⟩
  .exact⟨_,.inr rfl,h⟩
 obtain⟨O,v,y,c,f⟩:=s;have i:l.length≠0:=by simpa using u
 rw[rD] at c;obtain⟨g,cap,a,d,rfl,o,A,P,I,k,K,Q⟩:∃g cap a d,v=.slice (some ⟨g,0,none⟩) l.length cap/\B<=g/\w.heap[g]?=some (.cells a 5 d)/\d.2<=l.length*1/\l.length<=cap/\cap<=maxLen/\a.size=cap*1/\a.toList.take (l.length*1)=Lib.byteCells l:=by
  rcases c.2 with⟨_,H⟩|⟨g,cap,a,d,N,r⟩
  .exact absurd H i
  .exact⟨g,cap,a,d,N,r⟩
 have E:w.drew.cell? ⟨b,1,none⟩=some (.slice (some ⟨g,0,none⟩) l.length cap):=by
  have:w.drew.heap[b]?=some (.cells #[p,.slice (some ⟨g,0,none⟩) l.length cap] 145 (0,0)):=y;rw[qS this];rfl
 have F:(Builtin.unsafeSliceData_ #[22] 3 #[.slice (some ⟨g,0,none⟩) l.length cap]).run (ah β) w.drew=.ok (.pointer (some ⟨g,0,none⟩)) w.drew:=
  Lib.run_unsafeSliceData_row _ _ _ _ _ _ (by omega)
 have z:(Builtin.unsafeString_ #[190,3] 9 #[.pointer (some ⟨g,0,none⟩),.int .i64 l.length]).run (ah β) w.drew=.ok (.string ⟨l.toArray⟩) (w.drew.freeze ⟨g,0,none⟩ l.length):=by
  refine Lib.run_unsafeString_row w.drew 190 3 9 5 xy (by kernel_rfl) g a.size (by have C:w.drew.heap[g]?=some (.cells a 5 d):=A;simp[World.shape?,C]) l u (by omega) (by unfold maxLen at k;omega) ?_;intro j x L;have:=c.cells (g:=g) rfl j (.int .u8 x.toNat) (by simp[Lib.byteCells,L]);exact this
 have q:Lib.IsBuilderF 145 5 B b (Lib.byteCells l) (w.drew.freeze ⟨g,0,none⟩ l.length):=by
  have D:Lib.BuilderAtF 145 5 B b p (Lib.byteCells l) w.drew:=⟨O,_,y,by rw[rD];exact c,f⟩;have n:=D.froze (g:=g) (cap:=cap) (by rw[rD];exact E);rw[rD] at n;rcases G with rfl|rfl
  .exact .inl n
  .exact .inr n
 have m:=adU (β:=β);have M:xSt.ntmps=14:=ntmps100;have J:xSt.results=#[.tmp 2]:=results100;go_enter arT,M;go_wp2
 go_region_o
 all_goals(go_wp2;refine ph (results_tmp J _ _ _) rfl ?_;exact⟨rfl,q,Lib.below_freeze (Below.drew (ff B w)) (p:=⟨g,0,none⟩) o _⟩)
end
section
variable {β:Bool}
open Go.RowKit
def auZ(n:Nat)(c:n<=8)(w:World):Calls (ah β) 186 #[.int .u64 1,.int .u64 n] w λe a=>e=.returned (.tuple #[.int .u64 0,.int .u64 n])/\w=a:=by
 have b:n=0\/n=1\/n=2\/n=3\/n=4\/n=5\/n=6\/n=7\/n=8:=by omega
 clear c;rcases b with rfl|rfl|rfl|rfl|rfl|rfl|rfl|rfl|rfl
 all_goals
  go_enter xG,ntmps186;go_wp2;go_ret2;exact⟨rfl,rfl⟩
def aAC(n:Nat)(b:n<=8)(w:World):Calls (ah β) 178 #[.int .u64 1,.int .u64 n] w λe a=>e=.returned (.tuple #[.int .u64 0,.int .u64 n])/\w=a:=by
 go_enter xJ,ntmps178;go_wp2;refine(auZ n b w).mono ?_;rintro e c ⟨rfl,rfl⟩;go_wp2;go_ret2;exact⟨rfl,rfl⟩
def alI(b:Nat)(w:World):Nat:=match w.cell? ⟨b,1,none⟩ with|some (.slice _ l _)=>l|_=>0
def agv{T e:TypeId}{l:List UInt8}(h:Lib.IsBuilderF T e B b (Lib.byteCells l) w):alI b w=l.length:=by
 replace h:∃p,Lib.BuilderAtF T e B b p (Lib.byteCells l) w:=by
  rcases h with h|h
  .exact⟨_,h⟩
  .exact⟨_,h⟩
 obtain⟨p,h⟩:=h;obtain⟨n,v,j,a,f⟩:=h;have k:w.cell? ⟨b,1,none⟩=some v:=by rw[qS j];rfl
 unfold alI;rw[k];rw[rD] at a;rcases a.2 with⟨c,i⟩|⟨g,cap,d,m,c,_⟩
 .rw[c,i]
 .rw[c]
def kH(q:Nat):List UInt8:=List.replicate q 46
def arU(n:Nat)(R:n=2\/n=3)(w:World):Calls (ah β) 166 #[.string ⟨#[46]⟩,.int .i64 n] w λe G=>e=.returned (.string ⟨(kH n).toArray⟩)/\Below w.heap.size w G:=by
 have B:((n:Int) ==0)=false:=dq.2 (by omega);have z:((n:Int) ==1)=false:=dq.2 (by omega);go_enter wB,ntmps166;go_wp2;refine(aAC n (by omega) w).mono ?_;rintro e P ⟨rfl,rfl⟩;go_wp2;generalize r:w.alloc (.cells #[.pointer none,.slice none 0 0] 145)=w0;have A:w0.heap[w.heap.size]?=some (.cells #[.pointer none,.slice none 0 0] 145 (0,0)):=by
  rw[<-r];show(w.heap.push _)[w.heap.size]?=_;rw[qM]
 have l:Below w.heap.size w w0:=by rw[<-r];exact(ff _ w).alloc (am _) _
 refine(anJ w.heap.size w.heap.size n w0 (am _) A l.size (by omega)).mono ?_;rintro e N ⟨rfl,a,d⟩;replace d:=l.trans d;clear l A r;go_wp2;refine(oP w.heap.size w.heap.size [] ⟨#[46]⟩ N (.inr (.of a)) (by decide) d.size).mono ?_;rintro e Q ⟨rfl,p,k⟩;replace k:=d.trans k;clear d a;have C:([]:List Value)++Lib.strCells ⟨#[46]⟩=Lib.byteCells (kH 1):=rfl;rw[C] at p;clear C;go_wp2;go_loopw [10] (λ_ wr=>∃q:Nat,1<=q/\q<=n/\Lib.IsBuilderF 145 5 w.heap.size w.heap.size (Lib.byteCells (kH q)) wr/\Below w.heap.size w wr) (λ_ wr=>n-alI w.heap.size wr)
 case atStart=>exact⟨1,am _,by omega,.inr p,k⟩
 case round=>
  clear p k;obtain⟨q,F,M,a,i⟩:=hrel;have s:=agv a;have b:(Lib.byteCells (kH q)).length=q:=by rw[rD];exact qr ..
  have f:(kH q).length=q:=qr ..;have g:kH q≠[]:=by intro h;rw[h] at f;simp at f;omega
  go_wp2;refine(alH w.heap.size w.heap.size (Lib.byteCells (kH q)) wr a).mono ?_;rintro e y ⟨rfl,rfl⟩;rw[b];by_cases E:q<n
  .have t:=de (show(q:Int)<(n:Int) by omega);go_wp2;refine(alH w.heap.size w.heap.size (Lib.byteCells (kH q)) y a).mono ?_;rintro e D ⟨rfl,rfl⟩;rw[b];go_wp2;refine(alH w.heap.size w.heap.size (Lib.byteCells (kH q)) D a).mono ?_;rintro e H ⟨rfl,rfl⟩;rw[b];have c:(n=2/\q=1)\/(n=3/\q=1)\/(n=3/\q=2):=by omega
   have x:∀W:World,(Builtin.min_ #[3,3,3] 3 #[.int .i64 ((n:Int)-(q:Int)),.int .i64 q,.int .i64 n]).run (ah β) W=.ok (.int .i64 1) W:=λW=>by
    clear a i b f g s t B z;rcases c with⟨rfl,rfl⟩|⟨rfl,rfl⟩|⟨rfl,rfl⟩<;>simp[Builtin.min_,Builtin.min2]
   have S:(⟨(kH q).toArray⟩:ByteArray).extract 0 1=⟨#[46]⟩:=by
    clear x a i b f g s t B z;rcases c with⟨rfl,rfl⟩|⟨rfl,rfl⟩|⟨rfl,rfl⟩<;>rfl
   have K:(⟨(kH q).toArray⟩:ByteArray).size=q:=by show(kH q).toArray.size=q;rw[tZ];exact f
   replace c:=ab c;go_wp2;refine(acH w.heap.size w.heap.size (kH q) H a g).mono ?_;rintro e I ⟨rfl,v,j⟩;replace j:=i.trans j;go_wp2;refine(oP w.heap.size w.heap.size (Lib.byteCells (kH q)) ⟨#[46]⟩ I v (by rw[b];have:=c.out;show q+1<=_;omega) j.size).mono ?_;rintro e T ⟨rfl,m,o⟩;replace o:=j.trans o;have L:Lib.byteCells (kH q)++Lib.strCells ⟨#[46]⟩=Lib.byteCells (kH (q+1)):=by
    have:kH (q+1)=kH q++[46]:=vQ;rw[this];simp[Lib.byteCells,Lib.strCells]
   rw[L] at m;have J:=agv (.inr m);have O:(kH (q+1)).length=q+1:=qr ..;go_wp2;go_roundw
   case rel=>exact⟨q+1,by omega,by omega,.inr m,o⟩
   omega
  .obtain rfl:q=n:=by omega
   have t:=bv (show ¬((q:Int)<(q:Int)) by omega);go_wp2;refine(acH w.heap.size w.heap.size (kH q) y a g).mono ?_;rintro e D ⟨rfl, -,u⟩;go_wp2;go_ret;exact⟨rfl,i.trans u⟩
end
section
variable {β:Bool}
open Go.RowKit
def alK(n:Nat)(d:n<=3)(w:World):Calls (ah β) 166 #[.string ⟨#[46]⟩,.int .i64 n] w λe c=>e=.returned (.string ⟨(kH n).toArray⟩)/\Below w.heap.size w c:=by
 by_cases b:n=0
 .subst b;go_enter wB,ntmps166;go_wp2;go_ret;exact⟨rfl,ff _ _⟩
 .by_cases a:n=1
  .subst a;go_enter wB,ntmps166;go_wp2;go_ret;exact⟨rfl,ff _ _⟩
  .exact arU n (by omega) w
def au0(n:Nat):bs ⟨(kH n).toArray⟩=List.replicate n 46:=by
 unfold bs kH;simp[List.map_replicate]
def au1(s:ByteArray)(a:aQ (bs s))(w:World) :
  Calls (ah β) 146 #[.string s] w λe g=>∃t:ByteArray,e=.returned (.string t)/\bs t=fj (bs s)/\Below w.heap.size w g:=by
 have c:1<=s.size/\s.size<=8:=by have:=a.1;rw[aK] at this;exact this
 have b:s.size<=maxLen:=by unfold maxLen;omega
 have i:s.size<=cu s.size/\cu s.size-s.size<=3:=by
  unfold cu;split<;>(try split)<;>(try split)<;>omega
 replace a:=ab a;replace b:=ab b;go_enter xV,ntmps146;go_wp2;refine(pN s b.out w true (by simp only[sQ];exact a.out)).mono ?_;rintro e d ⟨rfl,rfl⟩;go_wp2;refine(aph s.size c w).mono ?_;rintro e d ⟨rfl,rfl⟩;have f:((cu s.size:Nat):Int)-(s.size:Int)=((cu s.size-s.size:Nat):Int):=by omega
 go_wp2;try rw[f]
 refine(alK (cu s.size-s.size) i.2 w).mono ?_;rintro e d ⟨rfl,j⟩;have hd:(kH (cu s.size-s.size)).length=cu s.size-s.size:=qr ..;go_wp2;go_ret;refine⟨_,rfl, ?_,j⟩;rw[gh,au0];unfold fj;rw[aK]
def afI(s:ByteArray):ByteArray:=s.extract 0 (df (bs s) s.size)
def abR(s:ByteArray):bs (afI s)=sX (bs s):=by
 unfold afI sX;rw[cI,qV,aK]
open Classical in
noncomputable def ed(s:ByteArray):ByteArray×Bool:=if aQ (bs (afI s))/\fj (bs (afI s))=bs s then(afI s,true) else(⟨#[]⟩,false)
def api(s:ByteArray)(k:s.size<=maxLen)(w:World) :
  Calls (ah β) 107 #[.string s] w λe o=>e=.returned (.tuple #[.string (ed s).1,.bool (ed s).2])/\Below w.heap.size w o:=by
 have a:(afI s).size<=maxLen:=by
  unfold afI;rw[uw (acx _ _)];exact da (acx _ _) k
 replace k:=ab k;replace a:=ab a;have g:s.extract 0 (df (bs s) s.size)=afI s:=rfl;replace g:=ab g;go_enter yl,ntmps107;go_wp2;refine(ajr s k.out w).mono ?_;rintro e l ⟨rfl,rfl⟩;rw[g.out];obtain⟨p,d⟩:∃p,p=afI s:=⟨_,rfl⟩;have b:ed s=ed s:=rfl;by_cases c:aQ (bs (afI s))
 .replace c:=ab c;rw[<-d] at a c ⊢;replace d:=ab d;clear b;go_wp2;refine(pN p a.out w true (by simp only[sQ];exact c.out)).mono ?_;rintro e l ⟨rfl,rfl⟩;go_wp2;refine(au1 p c.out w).mono ?_;rintro e l ⟨t,rfl,j,n⟩;by_cases f:t=s
  .subst f;replace j:=ab j;go_wp2;go_ret2;have i:ed t=(p,true):=by
    unfold ed;rw[<-d.out,dj ⟨c.out,j.out.symm⟩]
   rw[i];exact⟨rfl,n⟩
  .have q:=aaI f;have i:ed s=(⟨#[]⟩,false):=by
    unfold ed;rw[<-d.out,bd λh=>f (jb (j.trans h.2))]
   have m:=ab i;clear i j;go_wp2;go_ret2;rw[m.out];exact⟨rfl,n⟩
 .have i:ed s=(⟨#[]⟩,false):=by
   unfold ed;rw[bd λh=>c h.1]
  have m:=ab i;clear i;replace c:=ab c;rw[<-d] at a c ⊢;clear d b;go_wp2;refine(pN p a.out w false (by simp only[jn,ut];exact c.out)).mono ?_;rintro e l ⟨rfl,rfl⟩;go_wp2;go_ret2;rw[m.out];exact⟨rfl,ff _ _⟩
end
section
variable {β:Bool}
open Go.RowKit
open Classical in
noncomputable def dL(key:Int)(x:Int×ByteArray):ByteArray×Bool:=if(ed x.2).2=true/\bm key (bs (ed x.2).1)=x.1 then((ed x.2).1,true) else(⟨#[]⟩,false)
def agw{s:ByteArray}(h:(ed s).2=true):aQ (bs (ed s).1):=by
 unfold ed at h ⊢;split
 .rename_i a;exact a.1
 .rename_i a;rw[bd a] at h;cases h
def anK(key:Int)(x:Int×ByteArray)(u:1<=key/\key<=99)(i:x.2.size<=maxLen)(w:World) :
  Calls (ah β) 58 #[.agg #[.int .i64 x.1,.string x.2],.int .i64 key] w λe r=>e=.returned (.tuple #[.string (dL key x).1,.bool (dL key x).2])/\Below w.heap.size w r:=by
 obtain⟨n,s⟩:=x;dsimp only at i ⊢;replace i:=ab i;go_enter yU,ntmps58;go_wp2;generalize l:w.alloc (.cells #[.int .i64 n,.string s] 59)=w0 at *;obtain⟨v,A,j,y,o⟩:=iB l;clear l;refine(api s i.out w0).mono ?_;rintro e m ⟨rfl,d⟩;replace j:=av j d;replace y:=j.cell;replace o:=j.frozen;replace d:=ae v d;cases b:ed s with
 |mk p q=>
  cases q with
  |false=>
   have f:dL key (n,s)=(⟨#[]⟩,false):=by
    unfold dL;rw[bd];intro h;have:=h.1;rw[show(ed (n,s).2).2=false by rw[show ed (n,s).2=_ from b]] at this;cases this
   have HC:=ab f;clear f;replace b:=ab b;go_wp2;go_ret2;rw[HC.out];exact⟨rfl,d⟩
  |true=>
   have k:aQ (bs p):=by
    have:=agw (s:=s) (by rw[b]);rw[b] at this;exact this
   have f:dL key (n,s)=if bm key (bs p)=n then(p,true) else(⟨#[]⟩,false):=by
    unfold dL;rw[show ed (n,s).2=(p,true) from b];by_cases h:bm key (bs p)=n
    .rw[dj ⟨rfl,h⟩,dj h]
    .rw[bd λt=>h t.2,bd h]
   have HC:=ab f;clear f;replace b:=ab b;replace k:=ab k;go_wp2;refine(arR key p n u k.out m).mono ?_;rintro e z ⟨rfl,rfl⟩;by_cases h:bm key (bs p)=n
   .have a:=HC.out;rw[dj h] at a;have c:=ab a;clear a HC;have g:decide (bm key (bs p)=n)=true:=de h;rw[g];clear h g;go_wp2;go_ret2;rw[c.out];exact⟨rfl,d⟩
   .have a:=HC.out;rw[bd h] at a;have c:=ab a;clear a HC;have g:decide (bm key (bs p)=n)=false:=bv h;rw[g];clear h g;go_wp2;go_ret2;rw[c.out];exact⟨rfl,d⟩
end
section
def opJ(J:Nat->Bool):Operand->Bool
 |.tmp t=>!J t
 |_=>true
def jK:Op->Bool
 |.move _|.assign _|.load .. | .binOp .. | .unOp .. | .alloc _|.store .. | .fieldAddr .. | .indexAddr .. | .buildSlice .. =>true
 |.call c=>match c.callee with
  |.builtin .len|.builtin .append=>true
  |_=>false
 |_=>false
def anL(J:Nat->Bool)(o:Oper):Bool:=o.guard.isNone&&(jK o.op&&o.op.operands.toList.all (opJ J))
def kq(J:Nat->Bool):Code->Bool
 |.skip|.ret|.exit _=>true
 |.region _ d draw=>!draw&&d.toList.all (anL J)
 |.seq a b=>kq J a&&kq J b
 |.cond c a b=>opJ J c&&(kq J a&&kq J b)
 |.block _ a|.loop a=>kq J a
 |_=>false
def lO(J:Nat->Bool):Item->Bool
 |.code c|.inLoop c=>kq J c
 |.inBlock _=>true
 |.inRegion a _=>a.toList.all (anL J)
 |_=>false
structure JR (J:Nat->Bool) (fr cG:Frame):Prop where
 fn:cG.fn=fr.fn
 todo:cG.todo=fr.todo
 defers:fr.defers=[]/\cG.defers=[]
 mode:cG.mode=fr.mode
 kind:fr.kind=.normal/\cG.kind=.normal
 round:fr.roundOf=none/\cG.roundOf=none
 size:cG.tmps.size=fr.tmps.size
 agree:∀i,J i=false->cG.tmps[i]?=fr.tmps[i]?
 items:fr.todo.all (lO J)=true
section
variable {P:Program} {J:Nat->Bool} {fr cG:Frame}
def JR.eval(h:JR J fr cG){x:Operand}(a:opJ J x=true):cG.eval x=fr.eval x:=by
 cases x with
 |tmp t=>
  have:=h.agree t (by simpa[opJ] using a);show cG.tmps.getD t undef=fr.tmps.getD t undef;rw[gn,gn,this]
 |_=>rfl
def alL{e e':Operand->Value}{o:Oper}(j:jK o.op=true)(h:∀x∈o.op.operands.toList,e x=e' x):execOp e o=execOp e' o:=by
 obtain⟨dst,op,m,q,after,l⟩:=o;dsimp only at j h;have parts:∀(g:Array (Nat×Operand)),(∀x∈(g.toList.map (·.2)),e x=e' x)->(g.map λ(i,x)=>(i,e x))=g.map λ(i,x)=>(i,e' x):=λg p=>by
  apply vV;rintro⟨i,x⟩ k;have:=p x (mx.2 ⟨(i,x),by simpa using k,rfl⟩);simp only[this]
 cases op with
 |move x=>simp only[execOp];rw[h x (by simp[Op.operands])]
 |assign x=>simp only[execOp];rw[h x (by simp[Op.operands])]
 |load t a=>simp only[execOp];rw[h a (by simp[Op.operands])]
 |unOp op t x=>simp only[execOp];rw[h x (by simp[Op.operands])]
 |alloc t=>rfl
 |fieldAddr t x f=>simp only[execOp];rw[h x (by simp[Op.operands])]
 |store t a x=>simp only[execOp];rw[h a (by simp[Op.operands]),h x (by simp[Op.operands])]
 |binOp op t x y u=>simp only[execOp];rw[h x (by simp[Op.operands]),h y (by simp[Op.operands])]
 |indexAddr t x i=>simp only[execOp];rw[h x (by simp[Op.operands]),h i (by simp[Op.operands])]
 |buildSlice t n g=>simp only[execOp];rw[parts g (by simpa[Op.operands] using h)]
 |call c=>
  obtain⟨d,args,s⟩:=c;cases d with
  |builtin b=>
   have r:args.map e=args.map e':=vV λx k=>h x (by simp[Op.operands,Call.operands];exact k);simp only[execOp,resolve,r]
  |_=>simp[jK] at j
 |_=>simp[jK] at j
def fW{s:Sem Value}(h:(s.bind λa=>Sem.pure (Next.value a)).run P w=.ok U W):∃v,U=.value v:=by
 have e:=qI P s (λa=>Sem.pure (Next.value a)) w;rw[e] at h;cases b:s.run P w with
 |ok a c=>rw[b] at h;simp only[Result.andThen,Sem.run,su] at h;exact⟨a,h.1.symm⟩
 |halt q c=>rw[b] at h;simp only[Result.andThen] at h;cases h
def apj{s:Sem Unit}(h:(s.bind λ_=>Sem.pure Next.skip).run P w=.ok U W):U=.skip:=by
 have e:=qI P s (λ_=>Sem.pure Next.skip) w;rw[e] at h;cases b:s.run P w with
 |ok a c=>rw[b] at h;simp only[Result.andThen,Sem.run,su] at h;exact h.1.symm
 |halt q c=>rw[b] at h;simp only[Result.andThen] at h;cases h
def aju{e:Operand->Value}{o:Oper}(g:jK o.op=true)(h:(execOp e o).run P w=.ok U W):(∃v,U=.value v)\/U=.skip:=by
 obtain⟨dst,op,k,l,after,j⟩:=o;dsimp only at g;cases op with
 |move x=>simp only[execOp] at h;cases h;exact .inl ⟨_,rfl⟩
 |assign x=>simp only[execOp] at h;cases h;exact .inl ⟨_,rfl⟩
 |load t a=>exact .inl (fW h)
 |unOp op t x=>exact .inl (fW h)
 |alloc t=>exact .inl (fW h)
 |fieldAddr t x f=>exact .inl (fW h)
 |store t a x=>exact .inr (apj h)
 |binOp op t x y q=>exact .inl (fW h)
 |indexAddr t x i=>exact .inl (fW h)
 |buildSlice t n m=>exact .inl (fW h)
 |call c=>
  obtain⟨d,args,p⟩:=c;cases d with
  |builtin b=>cases b<;>first|exact .inl (fW h)|simp[jK] at g
  |_=>simp[jK] at g
 |_=>simp[jK] at g
def JR.set(h:JR J fr cG)(d:Nat)(v:Value):(cG.tmps.setIfInBounds d v).size=(fr.tmps.setIfInBounds d v).size/\∀i,J i=false->(cG.tmps.setIfInBounds d v)[i]?=(fr.tmps.setIfInBounds d v)[i]?:=by
 refine⟨by simpa using h.size,λi a=> ?_⟩;rw[qc,qc,h.size];split
 .rfl
 .exact h.agree i a
def aaS:∀{k l:List Item} {id:Nat},exitTo id k=some l->k.all (lO J)=true->l.all (lO J)=true
 |[],_,_,h,_=>by cases h
 |x::k,l,id,h,hk=>by
  simp only[qu,fb] at hk;unfold exitTo at h;split at h
  .rename_i a b e;cases e;split at h
   .cases h;exact hk.2
   .exact aaS h hk.2
  .rename_i e;cases e;exact aaS h hk.2
  .rename_i e;cases e
def alM{fr:Frame}{cs:List Frame}(h:early P fr cs none g w=.go T W es) :
  T.frame.kind=.early\/(T=⟨fr,cs,.running,none,none⟩/\∀(cG:Frame) (a:List Frame),cG.kind=fr.kind->early P cG a none g w=.go ⟨cG,a,.running,none,none⟩ W es):=by
 have d:∀{w W:World} {T:Goroutine} {es:Array Event},(match w.heap[g]? with
   |some (.pending c b)=>GStep.go ⟨fr,cs,.running,none,none⟩ {w with heap:=w.heap.setIfInBounds g (.cells c b)}
   |_=>.ended (.stuck "early: the variable does not wait" (fr.pos P)) w)=.go T W es->T=⟨fr,cs,.running,none,none⟩/\∀(cG:Frame) (a:List Frame),(match w.heap[g]? with
   |some (.pending c b)=>GStep.go ⟨cG,a,.running,none,none⟩ {w with heap:=w.heap.setIfInBounds g (.cells c b)}
   |_=>.ended (.stuck "early: the variable does not wait" (cG.pos P)) w)=.go ⟨cG,a,.running,none,none⟩ W es:=λ{w W T es} h=>by
  split at h
  .rename_i c b e;injection h with k j o
   subst k j o;exact⟨rfl,λcG a=>rfl⟩
  .cases h
 unfold early at h ⊢;dsimp only at h ⊢;by_cases k:(!P.follows .staticDataAhead)=true
 .simp only[k,oS] at h ⊢;exact .inr ⟨(d h).1,λcG a _=>(d h).2 cG a⟩
 .simp only[k,qB,jn] at h ⊢;cases j:P.stepOf g with
  |none=>simp only[j] at h;cases h
  |some f=>
   simp only[j] at h ⊢;by_cases o:((P.code? f).any P.atRunTime)=true
   .simp only[o,oS] at h ⊢;exact .inr ⟨(d h).1,λcG a _=>(d h).2 cG a⟩
   .simp only[o,qB,jn] at h ⊢;by_cases s:(((P.code? f).bind λc=>(readies c).getLast?).bind w.shape?).isSome=true
    .simp only[s,oS] at h ⊢;exact .inr ⟨(d h).1,λcG a _=>(d h).2 cG a⟩
    .simp only[s,qB,jn] at h ⊢;have r:∀cG:Frame,cG.kind=fr.kind->(cG.kind ==CallKind.early)=(fr.kind ==CallKind.early):=λcG e=>by rw[e]
     cases u:P.found w P.funcs.size f<;>cases p:(fr.kind ==CallKind.early)<;>simp only[u,p] at h
     .cases h
     .cases h
     .exact .inr ⟨(d h).1,λcG a e=>by rw[r cG e,p];exact(d h).2 cG a⟩
     .cases h
     .by_cases l:((P.code? f).any P.plainData)=true
      .simp only[l,oS] at h;injection h with i;subst i;exact .inl rfl
      .simp only[l,qB,jn] at h;by_cases m:(!(P.code? f).any P.bareCopy)=true
       .simp only[m,oS] at h;exact .inr ⟨(d h).1,λcG a e=>by rw[r cG e,p];simp only[l,m,qB,oS,jn];exact(d h).2 cG a⟩
       .simp only[m,qB,jn] at h;cases t:(choose (.early g)).run P w with
        |ok n v=>
         rw[t] at h;cases n with
         |zero=>exact .inr ⟨(d h).1,λcG a e=>by rw[r cG e,p];simp only[l,m,qB,jn];exact(d h).2 cG a⟩
         |succ n=>injection h with i;subst i;exact .inl rfl
        |halt q v=>rw[t] at h;cases h
     .injection h with i;subst i;exact .inl rfl
theorem arV (h:JR J fr cG) (hm:fr.mode=.run) {cs X:List Frame} {main:Bool} {w w1:World} {es:Array Event} {B:Frame}
  (D:stepG P main ⟨fr,cs,.running,none,none⟩ w=.go ⟨B,X,.running,none,none⟩ w1 es) (I:B.mode=.run\/B.mode=.returning) (ad:B.kind=.normal) :
  X=cs/\B.fn=fr.fn/\∃K,JR J B K/\∀C,stepG P main ⟨cG,C,.running,none,none⟩ w=.go ⟨K,C,.running,none,none⟩ w1 es:=by
 have h0:=h;obtain⟨fn,n,an,ds,md,kd,ro⟩:=fr;obtain⟨p,F,fH,ax,ao,aJ,ay⟩:=cG;obtain⟨E,e2,⟨e3,e4⟩,e5,⟨e6,e7⟩,⟨e8,e9⟩,hz,ha,hi⟩:=h;dsimp only at E e2 e3 e4 e5 e6 e7 e8 e9 hz ha hi hm;subst E e2 e3 e4 e5 e6 e7 e8 e9 hm;have G:∀{k:List Item},k.all (lO J)=true->JR J ⟨p,n,k,[],.run,.normal,none⟩ ⟨p,F,k,[],.run,.normal,none⟩:=λ{k} hk=>⟨rfl,rfl,⟨rfl,rfl⟩,rfl,⟨rfl,rfl⟩,⟨rfl,rfl⟩,hz,ha,hk⟩
 have ret:JR J ⟨p,n,fH,[],.returning,.normal,none⟩ ⟨p,F,fH,[],.returning,.normal,none⟩:=⟨rfl,rfl,⟨rfl,rfl⟩,rfl,⟨rfl,rfl⟩,⟨rfl,rfl⟩,hz,ha,hi⟩;have fin:∀{t:Array Value} {t':Array Value} {k:List Item},t'.size=t.size->(∀i,J i=false->t'[i]?=t[i]?)->k.all (lO J)=true->JR J ⟨p,t,k,[],.run,.normal,none⟩ ⟨p,t',k,[],.run,.normal,none⟩:=λa b hk=>⟨rfl,rfl,⟨rfl,rfl⟩,rfl,⟨rfl,rfl⟩,⟨rfl,rfl⟩,a,b,hk⟩;have still:∀{x x':Frame},stepG P main ⟨⟨p,n,fH,[],.run,.normal,none⟩,cs,.running,none,none⟩ w=.go ⟨x,cs,.running,none,none⟩ w->
   (∀C,stepG P main ⟨⟨p,F,fH,[],.run,.normal,none⟩,C,.running,none,none⟩ w=.go ⟨x',C,.running,none,none⟩ w)->JR J x x'->(T:x.fn=p:=by rfl)->
   X=cs/\B.fn=p/\∃K,JR J B K/\∀C,stepG P main ⟨⟨p,F,fH,[],.run,.normal,none⟩,C,.running,none,none⟩ w=.go ⟨K,C,.running,none,none⟩ w1 es:=λ{x x'} a b c T=>by
  rw[a] at D;injection D with W U g3
  injection W with R Y
  subst U g3 R Y;exact⟨rfl,T,x',c,b⟩
 cases fH with
 |nil=>exact still rfl (λ_=>rfl) ret
 |cons it k=>
  simp only[qu,fb] at hi;obtain⟨A,H⟩:=hi;cases it with
  |inBlock id=>exact still rfl (λ_=>rfl) (G H)
  |inLoop c=>exact still rfl (λ_=>rfl) (G (by simp only[qu,fb];exact⟨A,A,H⟩))
  |code c=>
   cases c with
   |skip=>exact still rfl (λ_=>rfl) (G H)
   |ret=>exact still rfl (λ_=>rfl) ret
   |seq a b=>
    simp only[lO,kq,fb] at A;exact still rfl (λ_=>rfl) (G (by simp only[qu,fb];exact⟨A.1,A.2,H⟩))
   |block id a=>exact still rfl (λ_=>rfl) (G (by simp only[qu,fb];exact⟨A,rfl,H⟩))
   |loop a=>exact still rfl (λ_=>rfl) (G (by simp only[qu,fb];exact⟨A,A,H⟩))
   |region id j draw=>
    simp only[lO,kq,fb,ud] at A;obtain⟨rfl,Z⟩:=A;exact still rfl (λ_=>rfl) (G (by simp only[qu,fb];exact⟨Z,H⟩))
   |exit id=>
    cases s:exitTo id k with
    |none=>exact absurd D (by
      have:stepG P main ⟨⟨p,n,.code (.exit id)::k,[],.run,.normal,none⟩,cs,.running,none,none⟩ w=.ended (.stuck "exit, goto: no such block or label" (Frame.pos P ⟨p,n,.code (.exit id)::k,[],.run,.normal,none⟩)) w:=by
       simp[stepG,stepG.exec,s]
      rw[this];intro e;cases e)
    |some l=>
     have E:∀(t:Array Value) (c:List Frame),stepG P main ⟨⟨p,t,.code (.exit id)::k,[],.run,.normal,none⟩,c,.running,none,none⟩ w=.go ⟨⟨p,t,l,[],.run,.normal,none⟩,c,.running,none,none⟩ w:=λt c=>by
      simp[stepG,stepG.exec,s]
     exact still (E _ _) (λ_=>E _ _) (G (aaS s H))
   |cond c a b=>
    simp only[lO,kq,fb] at A;have T:=h0.eval A.1;cases hv:Frame.eval ⟨p,n,.code (.cond c a b)::k,[],.run,.normal,none⟩ c with
    |bool q=>
     rw[hv] at T;have E:∀(t:Array Value) (cc:List Frame),Frame.eval ⟨p,t,.code (.cond c a b)::k,[],.run,.normal,none⟩ c=.bool q->stepG P main ⟨⟨p,t,.code (.cond c a b)::k,[],.run,.normal,none⟩,cc,.running,none,none⟩ w=.go ⟨⟨p,t,.code (if q then a else b)::k,[],.run,.normal,none⟩,cc,.running,none,none⟩ w:=λt cc ht=>by
      simp[stepG,stepG.exec,ht]
     exact still (E _ _ hv) (λ_=>E _ _ T) (G (by simp only[qu,fb];cases q<;>first|exact⟨A.2.1,H⟩|exact⟨A.2.2,H⟩))
    |_=>
     exfalso;have:∃o,stepG P main ⟨⟨p,n,.code (.cond c a b)::k,[],.run,.normal,none⟩,cs,.running,none,none⟩ w=.ended o w:=by
      simp[stepG,stepG.exec,hv]
     obtain⟨o,e⟩:=this;rw[e] at D;cases D
   |_=>cases A
  |inRegion j il=>
   cases il with
   |nil=>exact still rfl (λ_=>rfl) (G H)
   |cons i f=>
    have Q:∀l,(Item.inRegion j l::k).all (lO J)=true:=λl=>by simp only[qu,fb];exact⟨A,H⟩
    cases ho:j[i]? with
    |none=>
     have E:∀(t:Array Value) (c:List Frame),stepG P main ⟨⟨p,t,.inRegion j (i::f)::k,[],.run,.normal,none⟩,c,.running,none,none⟩ w=.go ⟨⟨p,t,.inRegion j f::k,[],.run,.normal,none⟩,c,.running,none,none⟩ w:=λt c=>by
      simp[stepG,stepG.exec,ho,Frame.finish]
     exact still (E _ _) (λ_=>E _ _) (G (Q _))
    |some o=>
     have a0:anL J o=true:=kw.1 A o (rO.2 (qw ho));simp only[anL,fb] at a0;obtain⟨hg,a4,Z⟩:=a0;have lI:o.guard=none:=by simpa using hg
     have hw:∀y,Region.wanted o y=true:=λy=>by unfold Region.wanted;rw[lI]
     have af:execOp (Frame.eval ⟨p,F,.inRegion j (i::f)::k,[],.run,.normal,none⟩) o=execOp (Frame.eval ⟨p,n,.inRegion j (i::f)::k,[],.run,.normal,none⟩) o:=
      alL a4 λx s=>h0.eval (kw.1 Z x s)
     have E:∀(t:Array Value) (c:List Frame),stepG P main ⟨⟨p,t,.inRegion j (i::f)::k,[],.run,.normal,none⟩,c,.running,none,none⟩ w =
       stepG.apply P true ⟨p,t,.inRegion j (i::f)::k,[],.run,.normal,none⟩ c none (execOp (Frame.eval ⟨p,t,.inRegion j (i::f)::k,[],.run,.normal,none⟩) o) w:=λt c=>by
      simp[stepG,stepG.exec,stepG.oper,Frame.oper?,ho,hw]
     rw[E] at D;cases hr:(execOp (Frame.eval ⟨p,n,.inRegion j (i::f)::k,[],.run,.normal,none⟩) o).runT P w #[] with
     |mk r a2=>
      have a3:(execOp (Frame.eval ⟨p,n,.inRegion j (i::f)::k,[],.run,.normal,none⟩) o).run P w=r:=by rw[<-rc _ _ _ #[],hr]
      have a5:∀(v:Value),(Frame.finish ⟨p,n,.inRegion j (i::f)::k,[],.run,.normal,none⟩ v).fn=p:=λv=>by
       simp only[Frame.finish,ho,qC]
      have a6:∀(v:Value),JR J (Frame.finish ⟨p,n,.inRegion j (i::f)::k,[],.run,.normal,none⟩ v) (Frame.finish ⟨p,F,.inRegion j (i::f)::k,[],.run,.normal,none⟩ v):=λv=>by
       simp only[Frame.finish,ho,qC];cases o.dst with
       |none=>exact G (Q _)
       |some d=>exact fin (h0.set d v).1 (h0.set d v).2 (Q _)
      have e2:∀c,stepG.apply P true ⟨p,F,.inRegion j (i::f)::k,[],.run,.normal,none⟩ c none (execOp (Frame.eval ⟨p,F,.inRegion j (i::f)::k,[],.run,.normal,none⟩) o) w =
        stepG.apply P true ⟨p,F,.inRegion j (i::f)::k,[],.run,.normal,none⟩ c none (execOp (Frame.eval ⟨p,n,.inRegion j (i::f)::k,[],.run,.normal,none⟩) o) w:=λc=>by rw[af]
      cases r with
      |ok nx w2=>
       have fS:(CallKind.normal ==CallKind.early)=false:=rfl;rcases aju a4 a3 with⟨v,rfl⟩|rfl
       .have a1:∀(t:Array Value) (c:List Frame),stepG.apply P true ⟨p,t,.inRegion j (i::f)::k,[],.run,.normal,none⟩ c none (execOp (Frame.eval ⟨p,n,.inRegion j (i::f)::k,[],.run,.normal,none⟩) o) w=.go ⟨Frame.finish ⟨p,t,.inRegion j (i::f)::k,[],.run,.normal,none⟩ v,c,.running,none,none⟩ w2 (seen P p a2):=λt c=>by
         unfold stepG.apply;simp only[hr,oS];simp[GStep.after,fS]
        rw[a1] at D;injection D with W U g3
        injection W with R Y
        subst U g3 R Y;exact⟨rfl,a5 v,_,a6 v,λc=>by rw[E,e2,a1]⟩
       .have a1:∀(t:Array Value) (c:List Frame),stepG.apply P true ⟨p,t,.inRegion j (i::f)::k,[],.run,.normal,none⟩ c none (execOp (Frame.eval ⟨p,n,.inRegion j (i::f)::k,[],.run,.normal,none⟩) o) w=.go ⟨Frame.finish ⟨p,t,.inRegion j (i::f)::k,[],.run,.normal,none⟩ undef,c,.running,none,none⟩ w2 (seen P p a2):=λt c=>by
         unfold stepG.apply;simp only[hr,oS];simp[GStep.after,fS]
        rw[a1] at D;injection D with W U g3
        injection W with R Y
        subst U g3 R Y;exact⟨rfl,a5 undef,_,a6 undef,λc=>by rw[E,e2,a1]⟩
      |halt q w2=>
       have hq:∀(t:Array Value) (c:List Frame),∃u,(q=.unsupported (.initOrder u)/\stepG.apply P true ⟨p,t,.inRegion j (i::f)::k,[],.run,.normal,none⟩ c none (execOp (Frame.eval ⟨p,n,.inRegion j (i::f)::k,[],.run,.normal,none⟩) o) w=GStep.after (seen P p #[]) (early P ⟨p,t,.inRegion j (i::f)::k,[],.run,.normal,none⟩ c none u w2))\/
         (∀(S:Goroutine) ww ee,stepG.apply P true ⟨p,t,.inRegion j (i::f)::k,[],.run,.normal,none⟩ c none (execOp (Frame.eval ⟨p,n,.inRegion j (i::f)::k,[],.run,.normal,none⟩) o) w=.go S ww ee->S.status=.running->S.dying=none->S.frame.mode ≠ .run/\S.frame.mode ≠ .returning):=λt c=>by
        have M:(CallKind.normal ==CallKind.early)=false:=rfl;by_cases a7:∃u,q=.unsupported (.initOrder u)
        .obtain⟨u,rfl⟩:=a7;refine⟨u,.inl ⟨rfl, ?_⟩⟩;unfold stepG.apply;simp only[hr,oS];simp[M]
        .refine⟨0,.inr λS ww ee s h1 h2=> ?_⟩;unfold stepG.apply at s;simp only[hr,oS] at s;cases q with
         |unsupported u=>
          cases u with
          |initOrder g=>exact absurd ⟨g,rfl⟩ a7
          |_=>simp[GStep.after] at s
         |panic v=>simp[GStep.after] at s;obtain⟨rfl, -⟩:=s;exact⟨by simp[Frame.raise],by simp[Frame.raise]⟩
         |goexit=>simp[GStep.after] at s;obtain⟨rfl, -⟩:=s;exact⟨by simp[Frame.raise],by simp[Frame.raise]⟩
         |blocked=>simp[GStep.after] at s;obtain⟨rfl, -⟩:=s;cases h1
         |waiting=>simp[GStep.after] at s;obtain⟨rfl, -⟩:=s;cases h1
         |exit c=>simp[GStep.after] at s
         |stuck c=>simp[GStep.after] at s
         |throw m=>simp[GStep.after,endThrow,dieOf] at s;obtain⟨rfl, -⟩:=s;cases h2
         |fatal m=>
          exfalso;dsimp only at s;unfold endFatal at s;dsimp only at s;generalize Sem.run P _ w2=z at s;cases z with
          |ok z1 z2=>simp[GStep.after,dieOf] at s;obtain⟨rfl, -⟩:=s;cases h2
          |halt z1 z2=>cases z1<;>simp[GStep.after] at s
       obtain⟨u,N⟩:=hq n cs;rcases N with⟨rfl,T⟩|aa
       .rw[T] at D;cases O:early P ⟨p,n,.inRegion j (i::f)::k,[],.run,.normal,none⟩ cs none u w2 with
        |go S ww ee=>
         rw[O] at D;simp only[GStep.after] at D;injection D with W U g3
         subst W U g3;rcases alM O with V|⟨a9,L⟩
         .dsimp only at V;rw[ad] at V;cases V
         .injection a9 with R Y
          subst R Y;refine⟨rfl,rfl,_,h0,λc=> ?_⟩;rw[E,e2];obtain⟨u',N⟩:=hq F c;rcases N with⟨hu,a8⟩|al
          .cases hu;rw[a8,L ⟨p,F,.inRegion j (i::f)::k,[],.run,.normal,none⟩ c rfl];rfl
          .exfalso;have:=hq F c;obtain⟨u2,h2⟩:=this;have M:(CallKind.normal ==CallKind.early)=false:=rfl;have s:stepG.apply P true ⟨p,F,.inRegion j (i::f)::k,[],.run,.normal,none⟩ c none (execOp (Frame.eval ⟨p,n,.inRegion j (i::f)::k,[],.run,.normal,none⟩) o) w=GStep.after (seen P p #[]) (early P ⟨p,F,.inRegion j (i::f)::k,[],.run,.normal,none⟩ c none u w2):=by
            unfold stepG.apply;simp only[hr,oS];simp[M]
           rw[L ⟨p,F,.inRegion j (i::f)::k,[],.run,.normal,none⟩ c rfl] at s;exact(al _ _ _ s rfl rfl).1 rfl
        |_=>rw[O] at D;cases D
       .exfalso;have:=aa _ _ _ D rfl rfl;rcases I with I|I
        .exact this.1 I
        .exact this.2 I
  |_=>cases A
def arW(h:JR J fr cG)(m:fr.mode=.returning)(b:∃fn,P.funcs[fr.fn]?=some fn/\results fn cG.tmps=results fn fr.tmps){c:Frame}{cs:List Frame}{main:Bool} :
  stepG P main ⟨cG,c::cs,.running,none,none⟩ w=stepG P main ⟨fr,c::cs,.running,none,none⟩ w:=by
 obtain⟨fn,a,s,K,I,H,G⟩:=fr;obtain⟨d,t,f,y,x,E,C⟩:=cG;obtain⟨n,k,⟨o,p⟩,e,⟨j,g⟩,⟨l,i⟩,A,F,D⟩:=h;dsimp only at n k o p e j g l i A F D m b;subst n k o p e j g l i m;show unwind P main ⟨d,t,f,[],.returning,.normal,none⟩ (c::cs) none w=unwind P main ⟨d,a,f,[],.returning,.normal,none⟩ (c::cs) none w;unfold unwind;dsimp only;obtain⟨fn,B,b⟩:=b;rw[B];dsimp only;rw[b];generalize (results fn a).runT P w #[]=z;obtain⟨r,L⟩:=z;cases r with
 |ok v u=>rfl
 |halt q u=>cases q<;>rfl
end
end
section
open Go.Conc Go.ConcN
open Go.ConcR (KK wgBlock WgAt stA smA rd wr mk Payload DC0 Bk g_of_ofEvents ofEvent_mk)
abbrev ak:=Nat->Prop
def In(S:ak):Loc->Prop
 |.cell a=>S a.block
 |.obj r=>S r
 |_=>False
inductive jw where
 |leaf
 |node (f:World->jw)
def jw.Lt(a b:jw):Prop:=∃f w,b=.node f/\a=f w
def jw.wf:WellFounded jw.Lt:=⟨λt=>by
 induction t with
 |leaf=>exact⟨_,by rintro _ ⟨g,w,e,rfl⟩;cases e⟩
 |node f a=>exact⟨_,by rintro _ ⟨g,w,e,rfl⟩;cases e;exact a w⟩⟩
def VLt(N:Nat)(f g:Nat->jw):Prop:=∃i,i<N/\jw.Lt (f i) (g i)/\∀k,k≠i->f k=g k
def anM:∀(N:Nat) (g:Nat->jw),Acc (VLt N) g
 |0,g=>⟨_,λf ⟨i,hi,_⟩=>absurd hi (sx i)⟩
 |N+1,g=>by
  have a:∀t:jw,∀g:Nat->jw,g N=t->Acc (VLt (N+1)) g:=by
   intro t
   induction t using jw.wf.induction with
   |_ t d=>
    intro g
    induction anM N g with
    |intro g _ b=>
     intro c;refine⟨_,λf ⟨i,hi,hlt,hk⟩=> ?_⟩;by_cases e:i=N
     .subst e;exact d (f i) (c▸hlt) f rfl
     .exact b f ⟨i,by omega,hlt,hk⟩ ((hk N (sO e)).trans c)
  exact a _ g rfl
abbrev Mu:=Nat×((Nat->jw)×Nat)
def aaT(N:Nat):Mu->Mu->Prop:=Prod.Lex (· < ·) (Prod.Lex (VLt N) (· < ·))
def au2(N:Nat):WellFounded (aaT N):=(Prod.lex Nat.lt_wfRel ⟨_,(Prod.lex ⟨_,⟨anM N⟩⟩ Nat.lt_wfRel).wf⟩).wf
section
variable (P:Program) (main:Bool) (Rl:ak->World->World->Prop) (Gr:ak->ak->World->World->Array Event->Prop) (Stop:ak->Goroutine->World->Prop)
def pP:jw->ak->Goroutine->World->Prop
 |.leaf,S,g,w=>∀a,Rl S w a->Stop S g a
 |.node f,S,g,w=>(∀a,Rl S w a->Stop S g a)\/(g.status=.running/\∀a,Rl S w a->∃e b d c,stepG P main g a=.go e b d/\Gr S c a b d/\pP (f a) c e b)
def bC(S:ak)(g:Goroutine)(w:World):Prop:=∃T,pP P main Rl Gr Stop T S g w
end
section
variable {P:Program} {main:Bool} {Rl:ak->World->World->Prop} {Gr:ak->ak->World->World->Array Event->Prop} {Stop ae0:ak->Goroutine->World->Prop} {S:ak} {g:Goroutine} {w w₁:World}
def pP.cases{T:jw}(h:pP P main Rl Gr Stop T S g w):(∀w₁,Rl S w w₁->Stop S g w₁)\/∃f,T=.node f/\g.status=.running/\∀w₁,Rl S w w₁->∃d a c b,stepG P main g w₁=.go d a c/\Gr S b w₁ a c/\pP P main Rl Gr Stop (f w₁) b d a:=by
 cases T with
 |leaf=>exact .inl h
 |node f=>exact Or.imp id (λx=>⟨f,rfl,x⟩) h
def bC.stop(h:∀w₁,Rl S w w₁->Stop S g w₁):bC P main Rl Gr Stop S g w:=⟨.leaf,h⟩
def bC.step(l:g.status=.running)(h:∀w₁,Rl S w w₁->∃d a c b,stepG P main g w₁=.go d a c/\Gr S b w₁ a c/\bC P main Rl Gr Stop b d a):bC P main Rl Gr Stop S g w:=by
 classical
 have f:∀w₁,∃T,Rl S w w₁->∃d a c b,stepG P main g w₁=.go d a c/\Gr S b w₁ a c/\pP P main Rl Gr Stop T b d a:=λw₁=>by
  by_cases e:Rl S w w₁
  .obtain⟨d,a,c,b,j,i,T,k⟩:=h w₁ e;exact⟨T,λ_=>⟨d,a,c,b,j,i,k⟩⟩
  .exact⟨.leaf,λx=>absurd x e⟩
 exact⟨.node λw₁=>(f w₁).choose,.inr ⟨l,λw₁ e=>(f w₁).choose_spec e⟩⟩
def pP.rely(i:∀S a b c,Rl S a b->Rl S b c->Rl S a c){T:jw}(h:pP P main Rl Gr Stop T S g w)(j:Rl S w w₁):pP P main Rl Gr Stop T S g w₁:=by
 cases T with
 |leaf=>exact λe d=>h e (i _ _ _ _ j d)
 |node f=>exact Or.imp (λh e d=>h e (i _ _ _ _ j d)) (λx=>⟨x.1,λe d=>x.2 e (i _ _ _ _ j d)⟩) h
def bC.bind(d:∀S w,Rl S w w)(e:∀S a b c,Rl S a b->Rl S b c->Rl S a c)(h:bC P main Rl Gr Stop S g w)(i:∀S g w,Stop S g w->bC P main Rl Gr ae0 S g w):bC P main Rl Gr ae0 S g w:=by
 obtain⟨T,h⟩:=h
 induction T generalizing S g w with
 |leaf=>exact i _ _ _ (h w (d _ _))
 |node f q=>
  rcases h with h|⟨o,h⟩
  .exact i _ _ _ (h w (d _ _))
  .exact bC.step o λw₁ l=>let⟨s,j,m,p,r,k,n⟩:=h w₁ l;⟨s,j,m,p,r,k,q w₁ n⟩
def bC.abS{R:World->World->Prop}{D:World->World->Array Event->Prop}{St:Goroutine->World->Prop}(d:∀w w₁,Rl S w w₁->R w w₁)(i:∀w b c,D w b c->Gr S S w b c)(e:∀g w,St g w->Stop S g w) :
  ∀{n:Nat} {g:Goroutine} {w:World},Goes P main R D St n g w->bC P main Rl Gr Stop S g w
 |0,_,_,h=>.stop λw₁ a=>e _ _ (h w₁ (d _ _ a))
 |n+1,g,w,h=>by
  rcases h with h|⟨j,h⟩
  .exact .stop λw₁ a=>e _ _ (h w₁ (d _ _ a))
  .refine .step j λw₁ a=> ?_;have:=h w₁ (d _ _ a);cases f:stepG P main g w₁ with
   |go k b c=>
    rw[f,tj] at this;exact⟨k,b,c,S,rfl,i _ _ _ this.1,bC.abS d i e this.2⟩
   |_=>rw[f] at this;exact this.elim
def pP.running(b:∀S g w,Stop S g w->g.status=.running)(a:∀S w,Rl S w w){T:jw}(h:pP P main Rl Gr Stop T S g w):g.status=.running:=by
 rcases h.cases with h|⟨_,_,h,_⟩
 .exact b _ _ _ (h w (a _ _))
 .exact h
end
section
variable [Payload] (ty:TypeId) (Wg C N:Nat)
structure jM (R cl S:ak) (w w₁:World):Prop where
 keep:∀b,S b\/R b->w₁.heap[b]?=w.heap[b]?
 size:w.heap.size<=w₁.heap.size
 os:w₁.ou=w.ou
 live:WgLive ty Wg w->WgLive ty Wg w₁
 pay:PayAt C N w->PayAt C N w₁
 cell:∀i,cl i->w₁.cell? ⟨C,i,none⟩=w.cell? ⟨C,i,none⟩
structure EvP (R cl S:ak) (B:Nat) (e:Event):Prop where
 touch:∀x,(MemAct.ofEvent e).touch?=some x->In S x.loc\/(∃a,x.loc=.cell a/\a.block=C/\cl a.off)\/(In R x.loc/\x.write=false)
 dis:e.loc ≠ .mark .disable
 en:e.loc ≠ .mark .enable
 rel:e.loc ≠ .mark (.release (stA Wg))
 low:(MemAct.ofEvent e).low B
structure Gua (R cl S S':ak) (w w':World) (es:Array Event):Prop where
 keep:∀b,b<w.heap.size->¬S b->b≠C->w'.heap[b]?=w.heap[b]?
 size:w.heap.size<=w'.heap.size
 os:w'.ou=w.ou
 pay:PayAt C N w->PayAt C N w'
 cell:∀i,¬cl i->w'.cell? ⟨C,i,none⟩=w.cell? ⟨C,i,none⟩
 mono:∀b,S b->S' b
 new:∀b,S' b->S b\/(w.heap.size<=b/\b<w'.heap.size)
 ev:∀e∈es,EvP Wg C R cl S' w'.heap.size e
end
section
variable [Payload] {ty:TypeId} {Wg C N:Nat} {R cl S S' au3 arX au4:ak} {w w₁ w₂ w':World} {es:Array Event}
def jM.refl(R cl S:ak)(w:World):jM ty Wg C N R cl S w w:=⟨λ_ _=>rfl,am _,rfl,id,id,λ_ _=>rfl⟩
def jM.trans(h:jM ty Wg C N R cl S w w₁)(k:jM ty Wg C N R cl S w₁ w₂):jM ty Wg C N R cl S w w₂:=
 ⟨λb a=>(k.keep b a).trans (h.keep b a),da h.size k.size,k.os.trans h.os,k.live∘h.live,k.pay∘h.pay,λi c=>(k.cell i c).trans (h.cell i c)⟩
def jM.at(R cl S:ak)(w:World)(d:Nat):jM ty Wg C N R cl S w (w.at d):=⟨λ_ _=>rfl,am _,rfl,id,id,λ_ _=>rfl⟩
def jM.alO(h:Gua Wg C N R cl S S' w w' es)(a:∀b,au4 b\/au3 b->b<w.heap.size/\¬S b/\b≠C)(g:∀i,arX i->¬cl i)(c:Wg<w.heap.size/\¬S Wg/\Wg≠C):jM ty Wg C N au3 arX au4 w w':=
 ⟨λb d=>h.keep b (a b d).1 (a b d).2.1 (a b d).2.2,h.size,h.os,λ⟨j,sm,e⟩=>⟨j,sm,e.of_block (h.keep Wg c.1 c.2.1 c.2.2)⟩,h.pay,λi f=>h.cell i (g i f)⟩
def jM.of_wg(h:Aside Wg w w')(d:WgLive ty Wg w')(c:∀b,au4 b\/au3 b->b≠Wg)(a:C≠Wg):jM ty Wg C N au3 arX au4 w w':=
 ⟨λb g=>h.block b (c b g),mt h.size.symm,azv h.os h.output,λ_=>d,λ⟨e,j,f⟩=>⟨e,(h.block C a).trans j,f⟩,λi _=>uh (h.block C a) i⟩
def jM.rw(h:jM ty Wg C N R cl S w w')(hi:cl i):RW ty Wg C N 0 i w w':=⟨λb a=>absurd a (sx b),h.live,h.pay,h.cell i hi⟩
end
section
variable {Sh:Loc->Prop} {Own Rd ays Rd':Nat->Loc->Prop} {t:Trace} {j:Nat}
def agx(h:CT Sh Own Rd t j)(n:∀k,1<=k->k<=j->∀l,ays k l->Own k l\/∀i a,touchAt t i=some a->a.loc≠l)(m:∀k,1<=k->k<=j->∀l,Own k l->ays k l)(g:∀k,1<=k->k<=j->∀l,Rd' k l↔Rd k l):CT Sh ays Rd' t j:=
 ⟨h.quiet,λk b c l d=>(n k b c l d).elim (h.own k b c l) λo i a p e=>absurd e (o i a p),λk b c l d=>h.rd k b c l ((g k b c l).1 d),
  λl f d=>h.free l f λk b c=>⟨λx=>(d k b c).1 (m k b c l x),λx=>(d k b c).2 ((g k b c l).2 x)⟩,λl f d=>h.mine l f λk b c x=>d k b c (m k b c l x),h.nr,h.gs⟩
end
variable [Payload]
def dM(κ:Nat):ak:=λi=>i / 2=κ
def noC:ak:=λ_=>False
abbrev FF:Nat->Loc->Prop:=λ_ _=>False
section
variable (P:Program) (ty:TypeId) (Wg C n K0:Nat) (val:Nat->Value) (aU:ak)
def agy(κ:Nat):ak->Goroutine->World->Prop:=λ_ g w=>AtR0 P ty Wg C (2*n) 0 (2*κ+1) (val (2*κ)) g w/\Has C (2*κ+1) (val (2*κ+1)) w
abbrev GW(κ:Nat)(R:ak):jw->ak->Goroutine->World->Prop:=pP P false (jM ty Wg C (2*n) R (dM κ)) (Gua Wg C (2*n) R (dM κ)) (agy P ty Wg C n val κ)
inductive WK (κ:Nat) (R:ak):Nat->Nat->Nat->jw->ak->Goroutine->World->Prop
 |work {T:jw} {S:ak} {g:Goroutine} {w:World}:GW P ty Wg C n val κ R T S g w->WK κ R 7 0 0 T S g w
 |rest {s m d:Nat} {T:jw} {S:ak} {g:Goroutine} {w:World}:s<=6->WSit P ty Wg C (2*n) FF FF 0 (2*κ+1) (val (2*κ)) s m d g w->WK κ R s m d T S g w
abbrev RM(R S:ak):World->World->Prop:=jM ty Wg C (2*n) R noC S
def aaU(e:Event):Prop:=∃a:Addr,a.block=Wg/\(e=mk (.read a)\/e=mk (.write a))
def DSd(w w':World)(es:Array Event):Prop:=w'=w/\∀e∈es,aaU Wg e
section
variable (R S:ak) (aP Fin:ak->ak->Goroutine->World->Prop)
abbrev GP(St:Goroutine->World->Prop)(m:Nat)(g:Goroutine)(w:World):Prop:=Goes P true (RM ty Wg C n R S) (DSd Wg) St m g w
def ayt(g:Goroutine)(w:World):Prop:=g.status=.running/\∃a,stepG P true g w=.go a w #[mk (.acquire (stA Wg))]/\Fin R S a w
def MKe(g:Goroutine)(w:World):Prop:=g.status=.running/\∃a,stepG P true g w=.go a w #[mk .enable]/\∃m,GP P ty Wg C n R S (ayt P Wg R S Fin) m a w
def MW4(g:Goroutine)(w:World):Prop:=g.status=.running/\(WgAt ty Wg w 0 0->∃a,stepG P true g w=.go a w #[rd (stA Wg)]/\∃m,GP P ty Wg C n R S (MKe P ty Wg C n R S Fin) m a w)
def MW3(g:Goroutine)(w:World):Prop:=g.status=.running/\g.offers=none/\
  ((∃b,WgAt ty Wg w b 0)->stepG P true g w=.go {g with status:=.blocked} w #[])/\
  (WgAt ty Wg w 0 1->∃a,stepG P true g w=.go a (w.setCell (smA Wg) (.int .u32 0)) (semEvents (smA Wg))/\∃m,GP P ty Wg C n R S (MW4 P ty Wg C n R S Fin) m a (w.setCell (smA Wg) (.int .u32 0)))
def MW2(vs:Nat)(g:Goroutine)(w:World):Prop:=g.status=.running/\∀v:Nat,v<2147483648->WgAt ty Wg w (v*KK) 0->
  (v=vs->∃a,stepG P true g w=.go a (w.setCell (stA Wg) (.int .u64 (v*KK+1))) #[rd (stA Wg),wr (stA Wg)]/\∃m,GP P ty Wg C n R S (MW3 P ty Wg C n R S Fin) m a (w.setCell (stA Wg) (.int .u64 (v*KK+1))))/\
  (v≠vs->∃a,stepG P true g w=.go a w #[rd (stA Wg)]/\∃m,GP P ty Wg C n R S (aP R S) m a w)
def MW1(g:Goroutine)(w:World):Prop:=g.status=.running/\∀v:Nat,v<2147483648->WgAt ty Wg w (v*KK) 0->∃a,stepG P true g w=.go a w #[rd (stA Wg)]/\
  (v=0->∃m,GP P ty Wg C n R S (MKe P ty Wg C n R S Fin) m a w)/\(v≠0->∃m,GP P ty Wg C n R S (MW2 P ty Wg C n R S aP Fin v) m a w)
def MKd(g:Goroutine)(w:World):Prop:=g.status=.running/\∃a,stepG P true g w=.go a w #[mk .disable]/\∃m,GP P ty Wg C n R S (aP R S) m a w
end
abbrev GM(R:ak)(St:ak->Goroutine->World->Prop):jw->ak->Goroutine->World->Prop:=pP P true (jM ty Wg C (2*n) R noC) (Gua Wg C (2*n) R noC) St
section
variable (j:Nat) (Next:ak->Goroutine->World->Prop) (R S:ak)
def MGo(S:ak)(g:Goroutine)(w:World):Prop:=g.status=.running/\∃d a c,stepG P true g w=.spawn d a w #[]/\(∀b,c b->S b\/R b)/\
  (PayAt C (2*n) w->WgLive ty Wg w->∃T,GW P ty Wg C n val j c T (λ_=>False) a w)/\Next (λb=>S b\/R b) d w
def ayu(g:Goroutine)(w:World):Prop:=g.status=.running/\∃a,stepG P true g w=.go a w #[mk .enable]/\∃T,GM P ty Wg C n R (MGo P ty Wg C n val j Next R) T S a w
def MA1(g:Goroutine)(w:World):Prop:=g.status=.running/\∀v:Nat,v<2147483647->WgAt ty Wg w (v*KK) 0->
  ∃a,stepG P true g w=.go a (w.setCell (stA Wg) (.int .u64 ((v+1)*KK))) #[rd (stA Wg),wr (stA Wg)]/\∃m,GP P ty Wg C n R S (ayu P ty Wg C n val j Next R S) m a (w.setCell (stA Wg) (.int .u64 ((v+1)*KK)))
def arY(g:Goroutine)(w:World):Prop:=g.status=.running/\∃a,stepG P true g w=.go a w #[mk .disable]/\∃m,GP P ty Wg C n R S (MA1 P ty Wg C n val j Next R S) m a w
end
variable (aP Fin:ak->ak->Goroutine->World->Prop)
def tA:Nat->ak->Goroutine->World->Prop
 |0,R,g,w=>∃T,GM P ty Wg C n R (λS g w=>MKd P ty Wg C n R S aP g w) T (λ_=>False) g w
 |r+1,R,g,w=>∃T,GM P ty Wg C n R (λS g w=>arY P ty Wg C n val (n-(r+1)) (tA r) R S g w) T (λ_=>False) g w
inductive fq:CTag->Nat->ak->ak->jw->Nat->Nat->Goroutine->World->Prop
 |skd {r:Nat} {R S:ak} {T:jw} {g:Goroutine} {w:World}:r<n->GM P ty Wg C n R (λS g w=>arY P ty Wg C n val (n-(r+1)) (tA P ty Wg C n val aP r) R S g w) T S g w->fq (.sp r 5) (n-(r+1)) R S T 0 0 g w
 |sa1 {r m:Nat} {R S:ak} {T:jw} {g:Goroutine} {w:World}:r<n->GP P ty Wg C n R S (MA1 P ty Wg C n val (n-(r+1)) (tA P ty Wg C n val aP r) R S) m g w->fq (.sp r 4) (n-(r+1)) R S T m 1 g w
 |ske {r m:Nat} {R S:ak} {T:jw} {g:Goroutine} {w:World}:r<n->GP P ty Wg C n R S (ayu P ty Wg C n val (n-(r+1)) (tA P ty Wg C n val aP r) R S) m g w->fq (.sp r 3) (n-(r+1)) R S T m 1 g w
 |sgo {r:Nat} {R S:ak} {T:jw} {g:Goroutine} {w:World}:r<n->GM P ty Wg C n R (MGo P ty Wg C n val (n-(r+1)) (tA P ty Wg C n val aP r) R) T S g w->fq (.sp r 2) (n-(r+1)) R S T 0 0 g w
 |kd {R S:ak} {T:jw} {g:Goroutine} {w:World}:GM P ty Wg C n R (λS g w=>MKd P ty Wg C n R S aP g w) T S g w->fq .kd n R S T 0 0 g w
 |anch {m:Nat} {R S:ak} {T:jw} {g:Goroutine} {w:World}:GP P ty Wg C n R S (aP R S) m g w->fq .anch n R S T m 1 g w
 |w1 {m:Nat} {R S:ak} {T:jw} {g:Goroutine} {w:World}:GP P ty Wg C n R S (MW1 P ty Wg C n R S aP Fin) m g w->fq .w1 n R S T m 1 g w
 |w2 {vs m:Nat} {R S:ak} {T:jw} {g:Goroutine} {w:World}:GP P ty Wg C n R S (MW2 P ty Wg C n R S aP Fin vs) m g w->fq (.w2 vs) n R S T m 1 g w
 |w3 {m:Nat} {R S:ak} {T:jw} {g:Goroutine} {w:World}:GP P ty Wg C n R S (MW3 P ty Wg C n R S Fin) m g w->fq .w3 n R S T (m+1) 1 g w
 |blk {R S:ak} {T:jw} {g:Goroutine} {w:World}:(∀w₁,RM ty Wg C n R S w w₁->MW3 P ty Wg C n R S Fin g w₁)->fq .blk n R S T 0 1 {g with status:=.blocked} w
 |w4 {m:Nat} {R S:ak} {T:jw} {g:Goroutine} {w:World}:GP P ty Wg C n R S (MW4 P ty Wg C n R S Fin) m g w->fq .w4 n R S T m 1 g w
 |ke {m:Nat} {R S:ak} {T:jw} {g:Goroutine} {w:World}:GP P ty Wg C n R S (MKe P ty Wg C n R S Fin) m g w->fq .ke n R S T m 1 g w
 |acq {m:Nat} {R S:ak} {T:jw} {g:Goroutine} {w:World}:GP P ty Wg C n R S (ayt P Wg R S Fin) m g w->fq .acq n R S T m 0 g w
def Shr(Wg:Nat)(aU:ak)(l:Loc):Prop:=∃a,l=.cell a/\(a.block=Wg\/aU a.block)
def aaV(C K0:Nat)(O:Nat->ak)(k:Nat)(l:Loc):Prop:=∃b,k=K0+1+b/\(In (O b) l\/∃a,l=.cell a/\a.block=C/\a.off / 2=b)
def RdL(K0:Nat)(Rk:Nat->ak)(k:Nat)(l:Loc):Prop:=∃a,k=K0+1+a/\In (Rk a) l
structure Sets (w:World) (R S:ak) (O Rk:Nat->ak):Prop where
 rlt:∀b,R b->b<w.heap.size
 slt:∀b,S b->b<w.heap.size
 olt:∀κ b,O κ b->b<w.heap.size
 rk:∀κ b,Rk κ b->R b
 rs:∀b,R b->¬S b
 orr:∀κ b,O κ b->¬R b
 os:∀κ b,O κ b->¬S b
 oo:∀κ gJ b,O κ b->O gJ b->κ=gJ
 wlt:Wg<w.heap.size
 clt:C<w.heap.size
 cw:C≠Wg
 wr:¬R Wg
 ws:¬S Wg
 wo:∀κ,¬O κ Wg
 cr:¬R C
 cs:¬S C
 co:∀κ,¬O κ C
 shr:∀b,aU b->¬R b
 shs:∀b,aU b->¬S b
 sho:∀κ b,aU b->¬O κ b
 shc:¬aU C
 ajv:∀b,aU b->b<w.heap.size
end
section
variable {Wg C K0:Nat} {aU R S:ak} {w w':World} {O Rk:Nat->ak}
omit [Payload] in
def In.mono{S a:ak}(h:∀b,S b->a b)(x:In S l):In a l:=by
 cases l<;>first|exact h _ x|exact x.elim
omit [Payload] in
def In.no{S a:ak}(h:∀b,S b->¬a b)(x:In S l):¬In a l:=by
 cases l<;>first|exact h _ x|exact x.elim
omit [Payload] in
def In.block{S:ak}(x:In S l){a:Addr}(e:l=.cell a):S a.block:=by subst e;exact x
omit [Payload] in
def Sets.apart(h:Sets Wg C aU w R S O Rk):Apart (Shr Wg aU) (aaV C K0 O) (RdL K0 Rk) where
 own:=by
  rintro k m l ⟨f,rfl,d⟩ ⟨i,rfl,c⟩;have:f=i:=by
   rcases d with d|⟨a,rfl,g,o⟩<;>rcases c with c|⟨b,e,j,n⟩
   .cases l<;>first|exact h.oo _ _ _ d c|exact d.elim
   .subst e;exact absurd (j▸d) (h.co f)
   .exact absurd (g▸c) (h.co i)
   .cases e;omega
  rw[this]
 ownRd:=by
  rintro k m l ⟨f,rfl,d⟩ ⟨i,rfl,c⟩;rcases d with d|⟨a,rfl,g, -⟩
  .cases l<;>first|exact h.orr _ _ d (h.rk _ _ c)|exact d.elim
  .exact h.cr (g▸h.rk _ _ c)
 ownSh:=by
  rintro k l ⟨f,rfl,d⟩ ⟨a,rfl,c⟩;rcases d with d|⟨b,e,g, -⟩
  .rcases c with c|c
   .exact h.wo f (c▸d)
   .exact h.sho f _ c d
  .cases e;rcases c with c|c
   .exact h.cw (g.symm.trans c)
   .exact h.shc (g▸c)
 rdSh:=by
  rintro k l ⟨f,rfl,d⟩ ⟨a,rfl,c⟩;rcases c with c|c
  .exact h.wr (c▸h.rk _ _ d)
  .exact h.shr _ c (h.rk _ _ d)
omit [Payload] in
def Sets.at(h:Sets Wg C aU w R S O Rk)(d:Nat):Sets Wg C aU (w.at d) R S O Rk:=⟨h.rlt,h.slt,h.olt,h.rk,h.rs,h.orr,h.os,h.oo,h.wlt,h.clt,h.cw,h.wr,h.ws,h.wo,h.cr,h.cs,h.co,h.shr,h.shs,h.sho,h.shc,h.ajv⟩
omit [Payload] in
def Sets.size(h:Sets Wg C aU w R S O Rk)(a:w.heap.size<=w'.heap.size):Sets Wg C aU w' R S O Rk:=
 ⟨λb x=>aE (h.rlt b x) a,λb x=>aE (h.slt b x) a,λc b x=>aE (h.olt c b x) a,h.rk,h.rs,h.orr,h.os,h.oo,aE h.wlt a,aE h.clt a,h.cw,h.wr,h.ws,h.wo,h.cr,h.cs,h.co,h.shr,h.shs,h.sho,h.shc,λb x=>aE (h.ajv b x) a⟩
omit [Payload] in
def Sets.aAG(h:Sets Wg C aU w R S O Rk)(o:w.heap.size<=w'.heap.size){g:ak}(l:∀b,g b->O κ b\/(w.heap.size<=b/\b<w'.heap.size)):Sets Wg C aU w' R S (upd O κ g) Rk:=by
 have a:∀{c:Nat} {b:Nat},upd O κ g c b->O c b\/(c=κ/\w.heap.size<=b/\b<w'.heap.size):=λ{c b} x=>by
  by_cases e:c=κ
  .subst e;rw[qd] at x;exact(l b x).imp id λy=>⟨rfl,y⟩
  .rw[qH O _ e] at x;exact .inl x
 have d:=h.size o;refine⟨d.rlt,d.slt,λc b x=> ?_,h.rk,h.rs,λc b x=> ?_,λc b x=> ?_,λj k b x y=> ?_,d.wlt,d.clt,h.cw,h.wr,h.ws,λc x=> ?_,h.cr,h.cs,λc x=> ?_,h.shr,h.shs,λc b i x=> ?_,h.shc,d.ajv⟩
 .rcases a x with x|⟨-, -,x⟩
  .exact d.olt _ _ x
  .exact x
 .rcases a x with x|⟨-,x, -⟩
  .exact h.orr _ _ x
  .intro f;have:=h.rlt b f;omega
 .rcases a x with x|⟨-,x, -⟩
  .exact h.os _ _ x
  .intro f;have:=h.slt b f;omega
 .rcases a x with x|⟨m,x, -⟩<;>rcases a y with y|⟨n,y, -⟩
  .exact h.oo _ _ _ x y
  .have:=h.olt _ _ x;omega
  .have:=h.olt _ _ y;omega
  .rw[m,n]
 .rcases a x with x|⟨-,x, -⟩
  .exact h.wo _ x
  .have:=h.wlt;omega
 .rcases a x with x|⟨-,x, -⟩
  .exact h.co _ x
  .have:=h.clt;omega
 .rcases a x with x|⟨-,x, -⟩
  .exact h.sho _ _ i x
  .have:=h.ajv b i;omega
omit [Payload] in
def Sets.awY(h:Sets Wg C aU w R S O Rk)(j:w.heap.size<=w'.heap.size){d:ak}(c:∀b,d b->S b\/(w.heap.size<=b/\b<w'.heap.size)):Sets Wg C aU w' R d O Rk:=by
 have a:=h.size j;refine⟨a.rlt,λb x=> ?_,a.olt,h.rk,λb f x=> ?_,h.orr,λi b e x=> ?_,h.oo,a.wlt,a.clt,h.cw,h.wr,λx=> ?_,h.wo,h.cr,λx=> ?_,h.co,h.shr,λb g x=> ?_,h.sho,h.shc,a.ajv⟩
 .rcases c b x with x|x
  .exact a.slt b x
  .exact x.2
 .rcases c b x with x|x
  .exact h.rs b f x
  .have:=h.rlt b f;omega
 .rcases c b x with x|x
  .exact h.os i b e x
  .have:=h.olt i b e;omega
 .rcases c _ x with x|x
  .exact h.ws x
  .have:=h.wlt;omega
 .rcases c _ x with x|x
  .exact h.cs x
  .have:=h.clt;omega
 .rcases c _ x with x|x
  .exact h.shs b g x
  .have:=h.ajv b g;omega
omit [Payload] in
def Sets.hand(h:Sets Wg C aU w R S O Rk)(κ:Nat){X:ak}(d:∀b,X b->S b\/R b):Sets Wg C aU w (λb=>S b\/R b) (λ_=>False) O (upd Rk κ X):=by
 refine⟨λb x=>x.elim (h.slt b) (h.rlt b),λb x=>x.elim,h.olt,λa b x=> ?_,λb _ x=>x,λa b x y=>y.elim (h.os a b x) (h.orr a b x),λa b _ x=>x,h.oo,h.wlt,h.clt,h.cw,λx=>x.elim h.ws h.wr,id,h.wo,λx=>x.elim h.cs h.cr,id,h.co,λb c x=>x.elim (h.shs b c) (h.shr b c),λb _ x=>x,h.sho,h.shc,h.ajv⟩;by_cases e:a=κ
 .subst e;rw[qd] at x;exact d b x
 .rw[qH Rk _ e] at x;exact .inr (h.rk a b x)
end
end
section
open Go.Conc Go.ConcN
open Go.ConcR (KK wgBlock WgAt stA smA rd wr mk Payload DC0 Bk g_of_ofEvents ofEvent_mk ofEvent_loc_mark loc_of_ofEvent)
def ShL(aU:ak)(l:Loc):Prop:=∃a,l=.cell a/\aU a.block
structure eP (aU:ak) (K B:Nat) (t:Trace):Prop where
 clean:∀said,¬Race said t
 known:∀(i:Nat) (op:MemOp) (x:Touch),t[i]?=some op->op.act.touch?=some x->¬ShL aU x.loc->Knows t 0 i
 quiet:Quiet (ShL aU) t
 over:t.HandedOver
 hears:Deaf t 0=0
 seen:∀op∈t,op.act.low B
 gs:∀op∈t,op.g<=K
def np(Wg:Nat)(aU:ak)(t:Trace)(k r:Nat):Prop:=∀(i:Nat) (op:MemOp) (x:Touch),r<i->t[i]?=some op->op.g=k->op.act.touch?=some x->Shr Wg aU x.loc
def np.app{aU:ak}{t u:Trace}{r : Nat}(h:np Wg aU t k r)(f:∀op∈u,op.g=k->∀x,op.act.touch?=some x->Shr Wg aU x.loc):np Wg aU (t++u) k r:=λi op x g d b c=>by
 rcases ru d with⟨_,e⟩|⟨_,a⟩
 .exact h i op x g e b c
 .exact f op a b x c
structure TI (Wg C K0:Nat) (aU:ak) (j:Nat) (t:Trace) (D:Nat->WD) (O Rk:Nat->ak) (d0 B:Nat):Prop where
 ct:CT (Shr Wg aU) (aaV C K0 O) (RdL K0 Rk) t (K0+j)
 norel:NoRelease (stA Wg) t
 deaf0:Deaf t 0=d0
 deafW:∀κ,κ<j->Deaf t (K0+1+κ)=(D κ).deaf
 rel:∀κ,κ<j->(D κ).stage<=6->∃r,RelBy (stA Wg) t (K0+1+κ) r/\np Wg aU t (K0+1+κ) r
 seen:∀op∈t,op.act.low B
 over:∀(i g:Nat),t.g? i=some g->g≠0->g<=K0->t.counts i->∃p,t.g? p=some 0/\HappensBefore t i p
 known:∀(i:Nat) (op:MemOp) (x:Touch),t[i]?=some op->op.g<=K0->op.act.touch?=some x->¬Shr Wg aU x.loc->Knows t 0 i
section
variable {Wg C K0:Nat} {aU:ak} {j:Nat} {t u:Trace} {D:Nat->WD} {O Rk:Nat->ak} {d0 B B':Nat}
def abT(h:∀(i g:Nat),t.g? i=some g->g≠0->g<=K0->t.counts i->∃p,t.g? p=some 0/\HappensBefore t i p)(o:∀op∈u,op.g=0\/K0<op.g\/op.act.touch?=none) :
  ∀(i g:Nat),(t++u).g? i=some g->g≠0->g<=K0->(t++u).counts i->∃p,(t++u).g? p=some 0/\HappensBefore (t++u) i p:=by
 intro i g l d k n;obtain⟨x,r,y,A⟩:=id n;obtain⟨op,a,b⟩:=touch_of r;have s:op.g=g:=by simpa[Trace.g?,a] using l
 rcases ru a with⟨m,v⟩|⟨_,j⟩
 .obtain⟨p,c,q⟩:=h i g (by rw[<-g?_old (u:=u) m];exact l) d k ((counts_old m).1 n);have e:p<t.size:=by
   unfold Trace.g? at c;obtain⟨z,w,_⟩:=io.1 c;exact lt_size_of_getElem? w
  exact⟨p,by rw[g?_old e];exact c,hb_app u q⟩
 .rcases o op j with f|f|f
  .omega
  .omega
  .rw[f] at b;cases b
def pQ(h:∀(i:Nat) (op:MemOp) (x:Touch),t[i]?=some op->op.g<=K0->op.act.touch?=some x->¬Shr Wg aU x.loc->Knows t 0 i)(f:∀op∈u,op.g=0\/K0<op.g\/op.act.touch?=none) :
  ∀(i:Nat) (op:MemOp) (x:Touch),(t++u)[i]?=some op->op.g<=K0->op.act.touch?=some x->¬Shr Wg aU x.loc->Knows (t++u) 0 i:=by
 intro i op x d g c j;rcases ru d with⟨_,e⟩|⟨_,b⟩
 .exact(h i op x e g c j).app u
 .rcases f op b with a|a|a
  .have:=knows_own d;rwa [a] at this
  .omega
  .rw[a] at c;cases c
def acI(h:∀op∈t,op.act.low B)(b:B<=B'):∀op∈t,op.act.low B':=λop a=>MemAct.low_mono b (h op a)
def agz(h:∀op∈t,op.act.low B)(n:touchAt t i=some x){S:ak}(k:∀b,S b->B<=b)(d:In S x.loc):False:=by
 obtain⟨op,l,a⟩:=touch_of n;have c:=h op (qw l);obtain⟨g,fn,o,f⟩:=op;cases f with
 |access e=>
  simp only[MemAct.touch?,lw] at a;subst a;obtain⟨loc,wr,p⟩:=e;cases loc<;>first|exact d.elim|(have j:=k _ d;exact absurd c (Nat.not_lt.2 j))
 |mark m=>
  cases m<;>simp only[MemAct.touch?,lw,reduceCtorEq] at a<;>(subst a;have j:=k _ d;exact absurd c (Nat.not_lt.2 j))
 |_=>simp[MemAct.touch?] at a
def TI.appW (h:TI Wg C K0 aU j t D O Rk d0 B) (H:B<=B') (I:κ<j) {o:ak} {s' : Nat} {fn:FuncId}  
  (A:Apart (Shr Wg aU) (aaV C K0 (upd O κ o)) (RdL K0 Rk))
  (E:∀b,O κ b->o b) (v:∀b,o b->O κ b\/B<=b)
  (w:∀op∈MemOp.ofEvents (K0+1+κ) fn pos es,OkW (Shr Wg aU) (aaV C K0 (upd O κ o)) (RdL K0 Rk) (K0+1+κ) op) (q:∀e∈es,e.loc ≠ .mark (.release (stA Wg)))
  (y:deafBehind (D κ).deaf es=V) (s:∀op∈MemOp.ofEvents (K0+1+κ) fn pos es,op.act.low B')
  (hrel:s'<=6->∃r,RelBy (stA Wg) (t++MemOp.ofEvents (K0+1+κ) fn pos es) (K0+1+κ) r/\np Wg aU (t++MemOp.ofEvents (K0+1+κ) fn pos es) (K0+1+κ) r) :
  TI Wg C K0 aU j (t++MemOp.ofEvents (K0+1+κ) fn pos es) (upd D κ ⟨s',m',V⟩) (upd O κ o) Rk d0 B':=by
 have n:∀op∈MemOp.ofEvents (K0+1+κ) fn pos es,op.g=K0+1+κ:=g_of_ofEvents;have u:CT (Shr Wg aU) (aaV C K0 (upd O κ o)) (RdL K0 Rk) t (K0+j):=agx h.ct (λk _ _ l c=>by
   obtain⟨d,rfl,c⟩:=c;by_cases e:d=κ
   .subst e;rw[qd] at c;rcases c with c|c
    .have:In (O d) l\/In (λb=>B<=b) l:=by
      cases l<;>first|exact v _ c|exact c.elim
     rcases this with x|x
     .exact .inl ⟨d,rfl,.inl x⟩
     .exact .inr λi a G e=>agz h.seen G (λb p=>p) (e▸x)
    .exact .inl ⟨d,rfl,.inr c⟩
   .rw[qH O _ e] at c;exact .inl ⟨d,rfl,c⟩) (λk _ _ l c=>by
   obtain⟨d,rfl,c⟩:=c;refine⟨d,rfl, ?_⟩;by_cases e:d=κ
   .subst e;rw[qd];exact c.imp (In.mono E) id
   .rw[qH O _ e];exact c) (λ_ _ _ _=>Iff.rfl)
 refine⟨u.appW A (by omega) (by omega) w,h.norel.app (norel_of q),by rw[rb t (by omega) _ n,h.deaf0],λd m=> ?_,λd m g=> ?_,seen_app (acI h.seen H) s,
  abT h.over λop f=>.inr (.inl (by rw[n op f];omega)),pQ h.known λop f=>.inr (.inl (by rw[n op f];omega))⟩
 .by_cases e:d=κ
  .subst e;rw[Deaf_own,h.deafW d m,qd];exact y
  .rw[rb t (by omega) _ n,h.deafW d m,qH D _ e]
 .by_cases e:d=κ
  .subst e;rw[qd] at g;exact hrel g
  .rw[qH D _ e] at g;obtain⟨r,F,p⟩:=h.rel d m g;exact⟨r,F.appOther n (by omega),p.app λop f z=>by rw[n op f] at z;omega⟩
def TI.app0 (h:TI Wg C K0 aU j t D O Rk d0 B) (n:B<=B') (A:Apart (Shr Wg aU) (aaV C K0 O) (RdL K0 Rk)) {fn:FuncId}  
  (g:∀op∈MemOp.ofEvents 0 fn pos es,Ok0 (Shr Wg aU) (aaV C K0 O) (RdL K0 Rk) (K0+j) op) (i:∀e∈es,e.loc ≠ .mark (.release (stA Wg))) (k:∀op∈MemOp.ofEvents 0 fn pos es,op.act.low B') :
  TI Wg C K0 aU j (t++MemOp.ofEvents 0 fn pos es) D O Rk (deafBehind d0 es) B':=by
 have b:∀op∈MemOp.ofEvents 0 fn pos es,op.g=0:=g_of_ofEvents;refine⟨h.ct.app0 A g,h.norel.app (norel_of i),by rw[Deaf_own,h.deaf0],λd c=>by rw[rb t (by omega) _ b,h.deafW d c],λd c f=> ?_,seen_app (acI h.seen n) k,
  abT h.over λop a=>.inl (b op a),pQ h.known λop a=>.inl (b op a)⟩
 obtain⟨r,l,m⟩:=h.rel d c f;exact⟨r,l.appOther b (by omega),m.app λop a o=>by rw[b op a] at o;omega⟩
def TI.ayv(h:TI Wg C K0 aU j t D O Rk d0 B)(R:i≠0)(hi:i<=K0){fn:FuncId}(I:∀e∈es,e.mute=true) :
  TI Wg C K0 aU j (t++MemOp.ofEvents i fn pos es) D O Rk d0 B:=by
 have n:∀op∈MemOp.ofEvents i fn pos es,op.g=i:=g_of_ofEvents;have u:∀op∈MemOp.ofEvents i fn pos es,op.act.touch?=none:=λop c=>by obtain⟨e,p,rfl⟩:=lP c;exact touch_mute (I e p)
 have g:∀op∈MemOp.ofEvents i fn pos es,op.act.low B:=λop c=>by obtain⟨e,p,rfl⟩:=lP c;exact low_mute (I e p) B
 have old:∀{q:Nat} {a:Touch},touchAt (t++MemOp.ofEvents i fn pos es) q=some a->touchAt t q=some a:=λ{q a} Q=>by
  obtain⟨z,L,m⟩:=touch_of Q;rcases ru L with⟨_,J⟩|⟨_,F⟩
  .rw[touchAt_of J];exact m
  .rw[u z F] at m;cases m
 have f:∀op∈MemOp.ofEvents i fn pos es,∀b,op.act.touch?=some b->False:=λop c b d=>by rw[u op c] at d;cases d
 refine⟨⟨h.ct.quiet.app λop c x P _=>(f op c x P).elim,λk v E l g=>(h.ct.own k v E l g).app λop c b d _=>(f op c b d).elim,λk v E l g=>(h.ct.rd k v E l g).app λop c b d _ _=>(f op c b d).elim,
   λl H g=>(h.ct.free l H g).app λop c b d _=>(f op c b d).elim,λl H g=>(h.ct.mine l H g).app λop c b d _ _=>(f op c b d).elim,λo=>noRace_append (h.ct.nr o) n λ_ _ _ op c b d _=>(f op c b d).elim,λq op M=> ?_⟩,
  h.norel.app λop c e=> ?_,by rw[rb t (by omega) _ n,h.deaf0],λy G=>by rw[rb t (by omega) _ n,h.deafW y G],λy G A=> ?_,seen_app h.seen g,abT h.over λop c=>.inr (.inr (u op c)),pQ h.known λop c=>.inr (.inr (u op c))⟩
 .rcases ru M with⟨_,K⟩|⟨_,w⟩
  .exact h.ct.gs q op K
  .rw[n op w];omega
 .obtain⟨s,p,rfl⟩:=lP c;have g:=loc_of_ofEvent e;have:=I s p;obtain⟨loc,wr,S⟩:=s;dsimp only at g;subst g;simp[Event.mute] at this
 .obtain⟨r,N,d⟩:=h.rel y G A;exact⟨r,N.appOther n (by omega),d.app λop c s=>by rw[n op c] at s;omega⟩
def TI.fork(h:TI Wg C K0 aU j t D O Rk 0 B){X:ak}(A:Apart (Shr Wg aU) (aaV C K0 O) (RdL K0 (upd Rk j X))){x y:MemOp}(i:x.g=0/\x.act=.go (K0+j+1))(g:y.g=K0+j+1/\y.act=.start) :
  TI Wg C K0 aU (j+1) (t++#[x,y]) (upd D j ⟨7,m',0⟩) O (upd Rk j X) 0 B:=by
 have n:∀op∈#[x,y],op=x\/op=y:=by intro op b;simpa using b
 have m:∀op∈#[x,y],op.act ≠ .mark .disable/\op.act ≠ .mark .enable:=by
  intro op b;rcases n op b with rfl|rfl
  .rw[i.2];exact⟨by simp,by simp⟩
  .rw[g.2];exact⟨by simp,by simp⟩
 have q:∀op∈#[x,y],op.act.touch?=none:=by
  intro op b;rcases n op b with rfl|rfl
  .rw[i.2];rfl
  .rw[g.2];rfl
 have p:CT (Shr Wg aU) (aaV C K0 O) (RdL K0 (upd Rk j X)) t (K0+j):=agx h.ct (λ_ _ _ _ d=>.inl d) (λ_ _ _ _ d=>d) (λk _ G l=>by
  constructor
  .rintro⟨c,rfl,d⟩;rw[qH Rk _ (by omega)] at d;exact⟨c,rfl,d⟩
  .rintro⟨c,rfl,d⟩;exact⟨c,rfl,by rw[qH Rk _ (by omega)];exact d⟩)
 refine⟨?_,h.norel.app λop b=> ?_,by rw[Deaf_still t 0 _ m,h.deaf0],λc w=> ?_,λc w o=> ?_,seen_app h.seen λop b=> ?_,abT h.over λop b=>.inr (.inr (q op b)),pQ h.known λop b=>.inr (.inr (q op b))⟩
 .have:=p.fork A i g h.deaf0
  rwa [uQ] at this
 .rcases n op b with rfl|rfl
  .rw[i.2];simp
  .rw[g.2];simp
 .rw[Deaf_still t _ _ m];rcases oR c j with f|u
  .rw[h.deafW c f,qH D _ (by omega)]
  .obtain rfl:c=j:=by omega
   rw[qd];exact Deaf_absent λa op F e=>by have:=h.ct.gs a op F;omega
 .rcases oR c j with f|u
  .rw[qH D _ (by omega)] at o;obtain⟨r,E,v⟩:=h.rel c f o;refine⟨r,E.appNot λop b=> ?_,v.app λop b H z s=>by rw[q op b] at s;cases s⟩;rcases n op b with rfl|rfl
   .rw[i.1];omega
   .rw[g.1];omega
  .obtain rfl:c=j:=by omega
   rw[qd] at o;simp at o
 .rcases n op b with rfl|rfl
  .rw[i.2];trivial
  .rw[g.2];trivial
def TI.join(h:TI Wg C K0 aU j t D O Rk 0 B)(P:∀d,d<j->(D d).stage<=6)(A:Apart (Shr Wg aU) (aaV C K0 O) (RdL K0 Rk))(fn:FuncId)(pos:String)(N:Wg<B) :
  eP (λb=>b=Wg\/aU b) (K0+j) B (t++MemOp.ofEvents 0 fn pos #[Go.ConcR.mk (.acquire (stA Wg))]):=by
 have I:MemOp.ofEvents 0 fn pos #[Go.ConcR.mk (.acquire (stA Wg))]=#[{g:=0,fn,pos,act:=.mark (.acquire (stA Wg))}]:=by rw[ofEvents_eq];simp[ofEvent_mk]
 have E:(t++#[({g:=0,fn,pos,act:=.mark (.acquire (stA Wg))}:MemOp)])[t.size]?=some {g:=0,fn,pos,act:=.mark (.acquire (stA Wg))}:=by simp
 have f:=h.app0 (am B) A (fn:=fn) (pos:=pos) (es:=#[Go.ConcR.mk (.acquire (stA Wg))]) (λop a=>by
   rw[I] at a;simp at a;subst a;exact⟨rfl,λx v=>by simp[MemAct.touch?] at v⟩) (by intro e l;simp at l;subst l;simp[Go.ConcR.mk]) (λop a=>by
   rw[I] at a;simp at a;subst a;exact N)
 rw[I] at f ⊢;have F:(t++#[({g:=0,fn,pos,act:=.mark (.acquire (stA Wg))}:MemOp)]).act? t.size=some (.mark (.acquire (stA Wg))):=by rw[act?_of E]
 have n:(t++#[({g:=0,fn,pos,act:=.mark (.acquire (stA Wg))}:MemOp)]).g? t.size=some 0:=by simp[Trace.g?]
 have H:(t++#[({g:=0,fn,pos,act:=.mark (.acquire (stA Wg))}:MemOp)]).heard t.size:=⟨0,n,by rw[deaf_old (am _)];exact h.deaf0⟩;have q:∀d,d<j->∃r,RelBy (stA Wg) (t++#[({g:=0,fn,pos,act:=.mark (.acquire (stA Wg))}:MemOp)]) (K0+1+d) r/\np Wg aU (t++#[({g:=0,fn,pos,act:=.mark (.acquire (stA Wg))}:MemOp)]) (K0+1+d) r/\
   HappensBefore (t++#[({g:=0,fn,pos,act:=.mark (.acquire (stA Wg))}:MemOp)]) r t.size:=λd K=>by
  obtain⟨r,o,s⟩:=h.rel d K (P d K);have G:=lt_of_act? o.act;have m:RelBy (stA Wg) (t++#[({g:=0,fn,pos,act:=.mark (.acquire (stA Wg))}:MemOp)]) (K0+1+d) r:=o.appNot λop a=>by simp at a;subst a;show 0≠_;omega
  exact⟨r,m,s.app λop a e=>by simp at a;subst a;have:(0:Nat)=K0+1+d:=e;omega,.single (.inr ⟨.marked G (.inr m.act) F (λk _ _=>f.norel k),m.heard,H⟩)⟩
 refine⟨f.ct.nr,λi op x p v L=> ?_,f.ct.quiet,λi g u z M=> ?_,by rw[f.deaf0];rfl,f.seen,λop a=> ?_⟩
 .rcases oR K0 op.g with y|w
  .obtain⟨d,J⟩:∃d,op.g=K0+1+d:=⟨op.g-(K0+1),by omega⟩;have:=f.ct.gs i op p;obtain⟨r,o,s,l⟩:=q d (by omega);rcases tY r i with c|c|c
   .exact absurd (s i op x c p J v) L
   .subst c;exact⟨t.size,_,E,rfl,.inr l⟩
   .exact⟨t.size,_,E,rfl,.inr (.trans (.single (.inl ⟨c,_,by simp only[Trace.g?,p,qf];rw[J],o.g⟩)) l)⟩
  .exact f.known i op x p w v L
 .rcases oR K0 g with y|w
  .obtain⟨d,rfl⟩:∃d,g=K0+1+d:=⟨g-(K0+1),by omega⟩;obtain⟨op,p,R⟩:=io.1 u;have:=f.ct.gs i op p;obtain⟨r,o,s,l⟩:=q d (by omega);rcases tY r i with c|c|c
   .exact absurd M (o.after i c u)
   .subst c;exact⟨t.size,n,l⟩
   .exact⟨t.size,n,.trans (.single (.inl ⟨c,_,u,o.g⟩)) l⟩
  .exact f.over i g u z w M
 .obtain⟨i,Q⟩:=vG.1 a;exact f.ct.gs i op Q
def TI.begin(h:eP aU K0 B t)(E:∀(i:Nat) (x:Touch),touchAt t i=some x->∀a,x.loc=.cell a->a.block≠Wg)(z:NoRelease (stA Wg) t):TI Wg C K0 aU 0 t D O Rk 0 B:=by
 have j:∀k,k<=K0->∀l,¬aaV C K0 O k l:=λk H l ⟨q,e,_⟩=>by omega
 have A:∀(i:Nat) (x:Touch),touchAt t i=some x->Shr Wg aU x.loc->ShL aU x.loc:=λi x f ⟨a,e,h⟩=>⟨a,e,h.resolve_left (E i x f a e)⟩;have s:∀l,¬Shr Wg aU l->Perm t 0 l:=λl n i a F e=>by
  obtain⟨op,d,r⟩:=touch_of F;exact h.known i op a d r λ⟨b,p,c⟩=>n (e▸⟨b,p,.inr c⟩)
 refine⟨⟨λi op x d f c=>h.quiet i op x d f (A i x (by rw[touchAt_of d];exact f) c),λk v u l n=>absurd n (j k u l),λk v u l ⟨q,e,_⟩=>by omega,λl c _=>s l c,λl c _=>.of (s l c),h.clean,λi op d=>h.gs op (qw d)⟩,
  z,h.hears,λq w=>by omega,λq w=>by omega,h.seen,λi g y m _ G=>h.over i g y m G,λi op x d _ f c=>h.known i op x d f λ⟨b,p,o⟩=>c ⟨b,p,.inr o⟩⟩
end
end
section
open Go.Conc Go.ConcN
open Go.ConcR (KK wgBlock WgAt stA smA rd wr mk Payload DC0 Bk g_of_ofEvents ofEvent_mk ofEvent_loc_mark loc_of_ofEvent bk_of_mute again_blocked)
variable [Payload]
section
variable {P:Program} {ty:TypeId} {Wg C n:Nat} {val:Nat->Value} {κ s m d:Nat} {R S:ak} {T:jw} {g:Goroutine} {w w':World}
def WK.rely(h:WK P ty Wg C n val κ R s m d T S g w)(b:jM ty Wg C (2*n) R (dM κ) S w w'):WK P ty Wg C n val κ R s m d T S g w':=by
 cases h with
 |work h=>
  have a:∀S x y z,jM ty Wg C (2*n) R (dM κ) S x y->jM ty Wg C (2*n) R (dM κ) S y z->jM ty Wg C (2*n) R (dM κ) S x z:=λ_ _ _ _ e c=>e.trans c;exact .work (pP.rely a h b)
 |rest f h=>exact .rest f (h.rely (by rw[Nat.add_sub_cancel];exact b.rw (i:=2*κ) (by unfold dM;omega)))
def WK.status(h:WK P ty Wg C n val κ R s m d T S g w):g.status=.running\/g.status=.finished:=by
 cases h with
 |work h=>exact .inl (pP.running (λ_ _ _ x=>x.1.1) (λ_ _=>jM.refl _ _ _ _) h)
 |rest a h=>exact h.status
def WK.woken(h:WK P ty Wg C n val κ R s m d T S g w)(a b:Goroutine)(w':World):woken P a b w' g=g:=by
 unfold Go.Conc.woken;split
 .exact again_running _ h.status
 .rfl
def WK.running_of(h:WK P ty Wg C n val κ R s m d T S g w)(a:s≠1):g.status=.running:=by
 cases h with
 |work h=>exact pP.running (λ_ _ _ x=>x.1.1) (λ_ _=>jM.refl _ _ _ _) h
 |rest _ h=>exact h.running_of a
end
section
variable {P:Program} {ty:TypeId} {Wg C n:Nat} {val:Nat->Value} {aP Fin:ak->ak->Goroutine->World->Prop} {tag:CTag} {j f d:Nat} {R S:ak} {T:jw} {a:Goroutine} {w w':World}
def fq.rely(h:fq P ty Wg C n val aP Fin tag j R S T f d a w)(b:RM ty Wg C n R S w w'):fq P ty Wg C n val aP Fin tag j R S T f d a w':=by
 have c:∀x y z,RM ty Wg C n R S x y->RM ty Wg C n R S y z->RM ty Wg C n R S x z:=λ_ _ _ m l=>m.trans l;have e:∀S x y z,jM ty Wg C (2*n) R noC S x y->jM ty Wg C (2*n) R noC S y z->jM ty Wg C (2*n) R noC S x z:=λ_ _ _ _ m l=>m.trans l;cases h with
 |skd g h=>exact .skd g (pP.rely e h b)
 |sa1 g h=>exact .sa1 g (te c h b)
 |ske g h=>exact .ske g (te c h b)
 |sgo g h=>exact .sgo g (pP.rely e h b)
 |kd h=>exact .kd (pP.rely e h b)
 |anch h=>exact .anch (te c h b)
 |w1 h=>exact .w1 (te c h b)
 |w2 h=>exact .w2 (te c h b)
 |w3 h=>exact .w3 (te c h b)
 |blk h=>exact .blk (λk i=>h k (b.trans i))
 |w4 h=>exact .w4 (te c h b)
 |ke h=>exact .ke (te c h b)
 |acq h=>exact .acq (te c h b)
def fq.status(c:∀R S g w,aP R S g w->g.status=.running)(h:fq P ty Wg C n val aP Fin tag j R S T f d a w):(a.status=.running/\tag ≠ .blk)\/(a.status=.blocked/\tag=.blk):=by
 have b:RM ty Wg C n R S w w:=.refl _ _ _ _;cases h with
 |skd _ h=>exact .inl ⟨pP.running (λ_ _ _ x=>x.1) (λ_ _=>jM.refl _ _ _ _) h,by simp⟩
 |sa1 _ h=>exact .inl ⟨sg (λ_ _ x=>x.1) w b h,by simp⟩
 |ske _ h=>exact .inl ⟨sg (λ_ _ x=>x.1) w b h,by simp⟩
 |sgo _ h=>exact .inl ⟨pP.running (λ_ _ _ x=>x.1) (λ_ _=>jM.refl _ _ _ _) h,by simp⟩
 |kd h=>exact .inl ⟨pP.running (λ_ _ _ x=>x.1) (λ_ _=>jM.refl _ _ _ _) h,by simp⟩
 |anch h=>exact .inl ⟨sg (c _ _) w b h,by simp⟩
 |w1 h=>exact .inl ⟨sg (λ_ _ x=>x.1) w b h,by simp⟩
 |w2 h=>exact .inl ⟨sg (λ_ _ x=>x.1) w b h,by simp⟩
 |w3 h=>exact .inl ⟨sg (λ_ _ x=>x.1) w b h,by simp⟩
 |blk h=>exact .inr ⟨rfl,rfl⟩
 |w4 h=>exact .inl ⟨sg (λ_ _ x=>x.1) w b h,by simp⟩
 |ke h=>exact .inl ⟨sg (λ_ _ x=>x.1) w b h,by simp⟩
 |acq h=>exact .inl ⟨sg (λ_ _ x=>x.1) w b h,by simp⟩
def fq.wokenBy(i:∀R S g w,aP R S g w->g.status=.running)(h:fq P ty Wg C n val aP Fin tag j R S T f d a w)(p:RM ty Wg C n R S w w')(g g':Goroutine) :
  ∃c k,fq P ty Wg C n val aP Fin c j R S T k d (woken P g g' w' a) w'/\k<=f+1/\(c=tag\/(tag=.blk/\c=.w3))/\(mayWake P g=true->g'.status=.running->c ≠ .blk):=by
 have b:=h.rely p;unfold Go.Conc.woken;split
 .rcases b.status i with⟨q,e⟩|⟨_,rfl⟩
  .exact⟨tag,f,by rw[again_running _ (.inl q)];exact b,by omega,.inl rfl,λ_ _=>e⟩
  .cases b with
   |blk m=>
    rename_i t;have l:=m w' (.refl _ _ _ _);exact⟨.w3,0+1,by rw[again_blocked l.1 l.2.1];exact .w3 (qv m),by omega,.inr ⟨rfl,rfl⟩,λ_ _=>by simp⟩
 .rename_i s;exact⟨tag,f,b,by omega,.inl rfl,λr o=>absurd (by simp[r,o]) s⟩
def fq.bound(h:fq P ty Wg C n val aP Fin tag j R S T f d a w):j+pend tag<=n:=by
 cases h<;>simp only[pend]<;>(try simp)<;>omega
end
section
variable (P:Program) (ty:TypeId) (Wg C n K0:Nat) (val:Nat->Value) (aU:ak) (aP Fin:ak->ak->Goroutine->World->Prop)
structure MI (j:Nat) (gs:Array Goroutine) (w:World) (t:Trace) (D:Nat->WD) (TV:Nat->jw) (R S:ak) (O Rk:Nat->ak) (q:Nat->Nat) (d0:Nat):Prop where
 size:gs.size=K0+1+j
 old:∀i g,0<i->i<=K0->gs[i]?=some g->QuitsD P (q i) (Deaf t i) g
 wk:∀κ,κ<j->∃g,gs[K0+1+κ]?=some g/\WK P ty Wg C n val κ (Rk κ) (D κ).stage (D κ).fuel (D κ).deaf (TV (κ+1)) (O κ) g w
 ti:TI Wg C K0 aU j t D O Rk d0 w.heap.size
 cx:Sets Wg C aU w R S O Rk
 has:∀κ,κ<j->(D κ).stage<=6->Has C (2*κ) (val (2*κ)) w/\Has C (2*κ+1) (val (2*κ+1)) w
 pay:PayAt C (2*n) w
 unO:∀κ,j<=κ->O κ=λ_=>False
def aab(μ:Mu)(m:Machine)(t:Trace):Prop:=
 ∃(d:Array Goroutine) (w:World) (sl:Option (Nat×Nat)) (j:Nat) (D:Nat->WD) (c:Nat->jw) (R S:ak) (O i:Nat->ak) (q:Nat->Nat) (b:CTag) (g e:Nat) (a:Goroutine) (f sm:Int),
  m=crowd d w sl/\d[0]?=some a/\fq P ty Wg C n val aP Fin b j R S (c 0) g e a w/\MI P ty Wg C n K0 val aU j d w t D c R S O i q e/\WgAt ty Wg w f sm/\ConcN.Mode j D b f sm/\
  μ=(phi n (Vc j D) b+Ssum j D,(c,g+2*Fsum j D+2*sumTo (K0+1) q))
def anN(m:Machine)(t:Trace):Prop:=
 ∃(d:Array Goroutine) (w:World) (sl:Option (Nat×Nat)) (a:Goroutine) (q:Nat->Nat) (R S:ak),
  m=crowd d w sl/\d[0]?=some a/\d.size=K0+1+n/\Fin R S a w/\Leavers P t d q/\eP (λb=>b=Wg\/aU b) (K0+n) w.heap.size t/\PayAt C (2*n) w/\(∀c,c<n->Has C (2*c) (val (2*c)) w/\Has C (2*c+1) (val (2*c+1)) w)/\WgLive ty Wg w/\
  (∀b,aU b\/b=Wg->¬R b/\¬S b/\b≠C/\b<w.heap.size)
end
section
variable {P:Program} {ty:TypeId} {Wg C n K0:Nat} {val:Nat->Value} {aU:ak} {aP Fin:ak->ak->Goroutine->World->Prop}
 {gs:Array Goroutine} {w w':World} {sl:Option (Nat×Nat)} {j:Nat} {D:Nat->WD} {TV:Nat->jw} {R S:ak} {O Rk:Nat->ak} {q:Nat->Nat} {tag:CTag} {f0 d0:Nat} {a:Goroutine} {t:Trace} {st sm:Int}
omit [Payload] in
def ajw{a:Type}(f:Nat->a)(i:Nat):upd f i (f i)=f:=by
 funext x
 by_cases e:x=i
 .subst e;rw[qd]
 .rw[qH f _ e]
def MI.at(h:MI P ty Wg C n K0 val aU j gs w t D TV R S O Rk q d0)(d:Nat):MI P ty Wg C n K0 val aU j gs (w.at d) t D TV R S O Rk q d0:=
 ⟨h.size,h.old,λb c=>let⟨g,a,e⟩:=h.wk b c;⟨g,a,e.rely (.at _ _ _ w d)⟩,h.ti,h.cx.at d,h.has,h.pay,h.unO⟩
def oQ (a2:∀R S g w,aP R S g w->g.status=.running) (ha:gs[0]?=some a) (lz:fq P ty Wg C n val aP Fin tag j R S (TV 0) f0 d0 a w) (o:MI P ty Wg C n K0 val aU j gs w t D TV R S O Rk q d0)
  (Q:κ<j) {g g':Goroutine} {s' : Nat} {T':jw} {E:ak} {A u:Int} (hg:gs[K0+1+κ]?=some g) (a4:stepG P false g w=.go g' w' es)
  (p:RM ty Wg C n R S w w') (G:∀c,c<j->c≠κ->jM ty Wg C (2*n) (Rk c) (dM c) (O c) w w')
  (T:WK P ty Wg C n val κ (Rk κ) s' m' V T' E g' w') (hO:∀b,O κ b->E b) (I:∀b,E b->O κ b\/(w.heap.size<=b/\b<w'.heap.size))
  (Y:∀op∈MemOp.ofEvents (K0+1+κ) g.frame.fn g.frame.place es,OkW (Shr Wg aU) (aaV C K0 (upd O κ E)) (RdL K0 Rk) (K0+1+κ) op) (W:∀e∈es,e.loc ≠ .mark (.release (stA Wg)))
  (Z:deafBehind (D κ).deaf es=V) (a3:∀op∈MemOp.ofEvents (K0+1+κ) g.frame.fn g.frame.place es,op.act.low w'.heap.size)
  (hrel:s'<=6->∃r,RelBy (stA Wg) (t++MemOp.ofEvents (K0+1+κ) g.frame.fn g.frame.place es) (K0+1+κ) r/\np Wg aU (t++MemOp.ofEvents (K0+1+κ) g.frame.fn g.frame.place es) (K0+1+κ) r)
  (a5:s'<=6->Has C (2*κ) (val (2*κ)) w'/\Has C (2*κ+1) (val (2*κ+1)) w') (a0:PayAt C (2*n) w') (fg:WgAt ty Wg w' A u)
  (aY:∀m,(m=tag\/(tag=.blk/\m=.w3))->(mayWake P g=true->g'.status=.running->m ≠ .blk)->ConcN.Mode j (upd D κ ⟨s',m',V⟩) m A u)
  (a1:(s'<(D κ).stage/\cnt ⟨s',m',V⟩<=cnt (D κ))\/(s'=(D κ).stage/\jw.Lt T' (TV (κ+1)))\/(s'=(D κ).stage/\T'=TV (κ+1)/\m'+1=(D κ).fuel)) :
  ∃l H lZ,runT P (crowd gs w sl) (K0+1+κ)=(.next l,H)/\aaT (n+1) lZ (phi n (Vc j D) tag+Ssum j D,(TV,f0+2*Fsum j D+2*sumTo (K0+1) q))/\aab P ty Wg C n K0 val aU aP Fin lZ l (t++H):=by
 obtain⟨m,f',oT,a6,F,X⟩:=lz.wokenBy a2 p g g';have s:(K0+1+κ ==0)=false:=by simp
 have B:=sW (P:=P) (sl:=sl) (i:=K0+1+κ) hg (by rw[s];exact a4);have e1:=sumTo_upd D (⟨s',m',V⟩:WD) cnt Q;have e2:=sumTo_upd D (⟨s',m',V⟩:WD) WD.stage Q;have e3:=sumTo_upd D (⟨s',m',V⟩:WD) WD.fuel Q;have hb:=lz.bound;have K:=o.cx.aAG (w':=w') p.size I;refine⟨_,_,(phi n (Vc j (upd D κ ⟨s',m',V⟩)) m+Ssum j (upd D κ ⟨s',m',V⟩),(upd TV (κ+1) T',f'+2*Fsum j (upd D κ ⟨s',m',V⟩)+2*sumTo (K0+1) q)),B, ?_,
  _,w',sl,j,upd D κ ⟨s',m',V⟩,upd TV (κ+1) T',R,S,upd O κ E,Rk,q,m,f',d0,woken P g g' w' a,A,u,rfl,by rw[sN _ _ _ _ (by omega),ha];rfl,by rw[qH TV _ (by omega)];exact oT, ?_,fg,aY m F X,rfl⟩
 .rw[phi_retag n _ F];simp only[Vc,Ssum,Fsum] at *;rcases a1 with⟨N,L⟩|⟨N,L⟩|⟨N,L,h3⟩
  .refine Prod.Lex.left _ _ ?_;have:=phi_mono n (v':=sumTo j λa=>cnt (upd D κ ⟨s',m',V⟩ a)) (v:=sumTo j λa=>cnt (D a)) (by omega) tag;omega
  .have ec:cnt (⟨s',m',V⟩:WD)=cnt (D κ):=by simp only[cnt,N]
   have U:(sumTo j λa=>cnt (upd D κ ⟨s',m',V⟩ a))=sumTo j λa=>cnt (D a):=by omega
   have z:(sumTo j λa=>(upd D κ ⟨s',m',V⟩ a).stage)=sumTo j λa=>(D a).stage:=by omega
   rw[U,z];refine Prod.Lex.right _ (Prod.Lex.left _ _ ⟨κ+1,by omega,by rw[qd];exact L,λk hk=>qH TV _ hk⟩)
  .have ec:cnt (⟨s',m',V⟩:WD)=cnt (D κ):=by simp only[cnt,N]
   have U:(sumTo j λa=>cnt (upd D κ ⟨s',m',V⟩ a))=sumTo j λa=>cnt (D a):=by omega
   have z:(sumTo j λa=>(upd D κ ⟨s',m',V⟩ a).stage)=sumTo j λa=>(D a).stage:=by omega
   rw[U,z,L,ajw];refine Prod.Lex.right _ (Prod.Lex.right _ ?_);omega
 .refine⟨by simp[o.size],λi x s hi M=> ?_,λc d=> ?_,o.ti.appW p.size Q K.apart hO (λb x=>(I b x).imp id (·.1)) Y W Z a3 hrel,K,λc d f=> ?_,a0,λc d=>by rw[qH O _ (by omega)];exact o.unO c d⟩
  .rw[sN _ _ _ _ (by omega)] at M;obtain⟨y,hy,rfl⟩:=io.1 M;have hq:=o.old i y s hi hy;rw[sP hq,rb t (by omega) _ g_of_ofEvents];exact hq
  .by_cases e:c=κ
   .subst e;exact⟨g',un _ _ _ (by rw[o.size];omega),by rw[qd,qd,qd];exact T⟩
   .obtain⟨x,M,J⟩:=o.wk c d;refine⟨x,by rw[sN _ _ _ _ (by omega),M,qf,J.woken], ?_⟩;rw[qH D _ e,qH TV _ (by omega),qH O _ e];exact J.rely (G c d e)
  .by_cases e:c=κ
   .subst e;rw[qd] at f;exact a5 f
   .rw[qH D _ e] at f;have hh:=o.has c d f;have hr:=G c d e;exact⟨(hr.cell (2*c) (by unfold dM;omega)).trans hh.1,(hr.cell (2*c+1) (by unfold dM;omega)).trans hh.2⟩
def jN (ha:gs[0]?=some a) (d:MI P ty Wg C n K0 val aU j gs w t D TV R S O Rk q d0)
  {dR:CTag} {f':Nat} {T':jw} {G:ak} {l g:Int} (F:stepG P true a w=.go T w' es)
  (Q:w.heap.size<=w'.heap.size) (m:∀c,c<j->jM ty Wg C (2*n) (Rk c) (dM c) (O c) w w') (E:∀b,G b->S b\/(w.heap.size<=b/\b<w'.heap.size))
  (H:∀op∈MemOp.ofEvents 0 a.frame.fn a.frame.place es,Ok0 (Shr Wg aU) (aaV C K0 O) (RdL K0 Rk) (K0+j) op) (A:∀e∈es,e.loc ≠ .mark (.release (stA Wg))) (B:∀op∈MemOp.ofEvents 0 a.frame.fn a.frame.place es,op.act.low w'.heap.size)
  (K:PayAt C (2*n) w') (X:fq P ty Wg C n val aP Fin dR j R G T' f' (deafBehind d0 es) T w') (fg:WgAt ty Wg w' l g) (aY:ConcN.Mode j D dR l g)
  (v:phi n (Vc j D) dR<phi n (Vc j D) tag\/(phi n (Vc j D) dR=phi n (Vc j D) tag/\(jw.Lt T' (TV 0)\/(T'=TV 0/\f'<f0)))) :
  ∃f o L,runT P (crowd gs w sl) 0=(.next f,o)/\aaT (n+1) L (phi n (Vc j D) tag+Ssum j D,(TV,f0+2*Fsum j D+2*sumTo (K0+1) q))/\aab P ty Wg C n K0 val aU aP Fin L f (t++o):=by
 have p:=sW (P:=P) (sl:=sl) (i:=0) ha (by simpa using F);have J:=d.cx.awY (w':=w') Q E;refine⟨_,_,(phi n (Vc j D) dR+Ssum j D,(upd TV 0 T',f'+2*Fsum j D+2*sumTo (K0+1) q)),p, ?_,
  _,w',sl,j,D,upd TV 0 T',R,G,O,Rk,q,dR,f',deafBehind d0 es,T,l,g,rfl,un _ _ _ (by rw[d.size];omega),by rw[qd];exact X, ?_,fg,aY,rfl⟩
 .rcases v with h|⟨N,h|⟨W,h3⟩⟩
  .exact Prod.Lex.left _ _ (by omega)
  .rw[N];exact Prod.Lex.right _ (Prod.Lex.left _ _ ⟨0,by omega,by rw[qd];exact h,λk Y=>qH TV _ Y⟩)
  .rw[N,W,ajw];exact Prod.Lex.right _ (Prod.Lex.right _ (by omega))
 .refine⟨by simp[d.size],λi x I hi u=> ?_,λc r=> ?_,d.ti.app0 Q d.cx.apart H A B,J,λc r z=> ?_,K,d.unO⟩
  .rw[sN _ _ _ _ (by omega)] at u;obtain⟨y,Z,rfl⟩:=io.1 u;have M:=d.old i y I hi Z;rw[sP M,rb t (by omega) _ g_of_ofEvents];exact M
  .obtain⟨x,u,s⟩:=d.wk c r;refine⟨x,by rw[sN _ _ _ _ (by omega),u,qf,s.woken], ?_⟩;rw[qH TV _ (by omega)];exact s.rely (m c r)
  .have U:=d.has c r z;have V:=m c r;exact⟨(V.cell (2*c) (by unfold dM;omega)).trans U.1,(V.cell (2*c+1) (by unfold dM;omega)).trans U.2⟩
def ar0 (z:∀R S g w,aP R S g w->g.status=.running) (ha:gs[0]?=some a) (X:fq P ty Wg C n val aP Fin tag j R S (TV 0) f0 d0 a w) (c:MI P ty Wg C n K0 val aU j gs w t D TV R S O Rk q d0) (Y:WgAt ty Wg w st sm) (Z:ConcN.Mode j D tag st sm)
  (l:0<i) (hi:i<=K0) {g:Goroutine} (H:gs[i]?=some g) (b:g.status=.running) :
  ∃d p G,runT P (crowd gs w sl) i=(.next d,p)/\aaT (n+1) G (phi n (Vc j D) tag+Ssum j D,(TV,f0+2*Fsum j D+2*sumTo (K0+1) q))/\aab P ty Wg C n K0 val aU aP Fin G d (t++p):=by
 have u:=c.old i g l hi H;cases f:q i with
 |zero=>rw[f] at u;rw[u.1] at b;cases b
 |succ k=>
  rw[f] at u;rcases u with⟨T,_⟩|⟨_,J,es,hm,E,B⟩
  .rw[T] at b;cases b
  have v:(i ==0)=false:=by simp;omega
  have F:=sW (P:=P) (sl:=sl) (i:=i) H (by rw[v];exact E w);obtain⟨I,K,M,Q,o,U⟩:=X.wokenBy z (.refl _ _ _ w) g J;have a0:sumTo (K0+1) (upd q i k)+(k+1)=sumTo (K0+1) q+k:=by
   have:=sumTo_upd q k id (show i<K0+1 by omega);simpa[f] using this
  refine⟨_,_,(phi n (Vc j D) I+Ssum j D,(TV,K+2*Fsum j D+2*sumTo (K0+1) (upd q i k))),F, ?_,
   _,w,sl,j,D,TV,R,S,O,Rk,upd q i k,I,K,d0,woken P g J w a,st,sm,rfl,by rw[sN _ _ _ _ (by omega),ha];rfl,M, ?_,Y,Z.retag o,rfl⟩
  .rw[phi_retag n _ o];exact Prod.Lex.right _ (Prod.Lex.right _ (by omega))
  .refine⟨by simp[c.size],λL x l A m=> ?_,λN V=> ?_,c.ti.ayv (by omega) hi hm,c.cx,c.has,c.pay,c.unO⟩
   .by_cases e:i=L
    .subst e;rw[un _ _ _ (by rw[c.size];omega)] at m;obtain rfl:=dl m;rw[qd,Deaf_own];exact B
    .rw[sN _ _ _ _ e] at m;obtain⟨y,W,rfl⟩:=io.1 m;have r:=c.old L y l A W;rw[sP r,qH q k (sO e),rb t e _ g_of_ofEvents];exact r
   .obtain⟨x,m,s⟩:=c.wk N V;exact⟨x,by rw[sN _ _ _ _ (by omega),m,qf,s.woken],s⟩
end
end
section
open Go.Conc Go.ConcN
open Go.ConcR (KK wgBlock WgAt stA smA rd wr mk Payload DC0 Bk g_of_ofEvents ofEvent_mk ofEvent_loc_mark loc_of_ofEvent bk_of_mute again_blocked)
section
variable {Wg C K0:Nat} {aU:ak}
def alR(h:ShN Wg l):Shr Wg aU l:=let⟨a,e,h⟩:=h;⟨a,e,.inl h⟩
def ajx(h:Bk Wg e)(b:(MemAct.ofEvent e).touch?=some x):Shr Wg aU x.loc:=by
 rcases h with h|h|⟨a,wr,rfl,c⟩
 .rw[ofEvent_loc_mark h] at b;cases b
 .rw[ofEvent_loc_mark h] at b;cases b
 .simp[MemAct.ofEvent,MemAct.touch?] at b;subst b;exact⟨a,rfl,.inl c⟩
def ayx(h:Bk Wg e)(b:Wg<B):(MemAct.ofEvent e).low B:=by
 rcases h with h|h|⟨a,wr,rfl,c⟩
 .rw[ofEvent_loc_mark h];trivial
 .rw[ofEvent_loc_mark h];trivial
 .show a.block<B;omega
def ayy{Rd : Nat->Loc->Prop}{fn:FuncId}(h:∀e∈es,Bk Wg e):∀op∈MemOp.ofEvents k fn pos es,OkW (Shr Wg aU) Own Rd k op:=λop c=>
 let⟨g,d⟩:=okW_of_Bk (Own:=Own) (Rd:=Rd) h op c;⟨g,λx f=>(d x f).imp (λ⟨a,b⟩=>⟨alR a,b⟩) id⟩
def ar1{Rd : Nat->Loc->Prop}{j:Nat}{fn:FuncId}(h:∀e∈es,Bk Wg e):∀op∈MemOp.ofEvents 0 fn pos es,Ok0 (Shr Wg aU) Own Rd j op:=λop c=>by
 obtain⟨e,d,rfl⟩:=lP c;exact⟨rfl,λx b=>.inl ⟨ajx (h e d) b,by
  rcases h e d with h|h|⟨a,wr,rfl,f⟩
  .simp only[ofEvent_loc_mark h] at b;cases b
  .simp only[ofEvent_loc_mark h] at b;cases b
  .simp[MemAct.ofEvent,MemAct.touch?] at b;subst b;simp⟩⟩
def au5{R d:ak}{O c:Nat->ak}{fn:FuncId}(k:O κ=d)(j:c κ=R)(h:∀e∈es,EvP Wg C R (dM κ) d B e) :
  ∀op∈MemOp.ofEvents (K0+1+κ) fn pos es,OkW (Shr Wg aU) (aaV C K0 O) (RdL K0 c) (K0+1+κ) op:=λop b=>by
 obtain⟨e,i,rfl⟩:=lP b;refine⟨rfl,λx g=> ?_⟩;rcases(h e i).touch x g with a|a|⟨a,f⟩
 .exact .inr (.inl ⟨κ,rfl,.inl (k▸a)⟩)
 .exact .inr (.inl ⟨κ,rfl,.inr a⟩)
 .exact .inr (.inr ⟨⟨κ,rfl,j▸a⟩,f⟩)
def anO{R c b:ak}{fn:FuncId}(h:∀e∈es,EvP Wg C R c b B e):∀op∈MemOp.ofEvents g fn pos es,op.act.low B:=λop a=>by
 obtain⟨e,d,rfl⟩:=lP a;exact(h e d).low
def ahT(b:Wg<B){fn:FuncId}(h:∀e∈es,Bk Wg e):∀op∈MemOp.ofEvents g fn pos es,op.act.low B:=λop a=>by
 obtain⟨e,c,rfl⟩:=lP a;exact ayx (h e c) b
end
section
variable [Payload] {P:Program} {ty:TypeId} {Wg C n K0:Nat} {val:Nat->Value} {aU:ak} {aP Fin:ak->ak->Goroutine->World->Prop}
 {gs:Array Goroutine} {w w':World} {sl:Option (Nat×Nat)} {j:Nat} {D:Nat->WD} {TV:Nat->jw} {R S:ak} {O Rk:Nat->ak} {q:Nat->Nat} {tag:CTag} {f0 d0:Nat} {a:Goroutine} {t:Trace} {st sm:Int}
def MI.wgO(h:MI P ty Wg C n K0 val aU j gs w t D TV R S O Rk q d0)(d:Aside Wg w w')(a:WgLive ty Wg w')(κ:Nat):jM ty Wg C (2*n) (Rk κ) (dM κ) (O κ) w w':=
 .of_wg d a (λb c e=>by subst e;exact c.elim (h.cx.wo κ) λx=>h.cx.wr (h.cx.rk κ _ x)) h.cx.cw
def MI.wgM(h:MI P ty Wg C n K0 val aU j gs w t D TV R S O Rk q d0)(c:Aside Wg w w')(d:WgLive ty Wg w'):RM ty Wg C n R S w w':=
 .of_wg c d (λb a e=>by subst e;exact a.elim h.cx.ws h.cx.wr) h.cx.cw
def ajy (hn:n<2147483648) (an:∀R S g w,aP R S g w->g.status=.running) (N:gs[0]?=some a) (lz:fq P ty Wg C n val aP Fin tag j R S (TV 0) f0 d0 a w) (p:MI P ty Wg C n K0 val aU j gs w t D TV R S O Rk q d0) (G:WgAt ty Wg w st sm) (aY:ConcN.Mode j D tag st sm)
  (F:κ<j) {g:Goroutine} (hg:gs[K0+1+κ]?=some g) (U:g.status=.running) :
  ∃l E lZ,runT P (crowd gs w sl) (K0+1+κ)=(.next l,E)/\aaT (n+1) lZ (phi n (Vc j D) tag+Ssum j D,(TV,f0+2*Fsum j D+2*sumTo (K0+1) q))/\aab P ty Wg C n K0 val aU aP Fin lZ l (t++E):=by
 obtain⟨b0,aL,hs⟩:=p.wk κ F;obtain rfl:g=b0:=by rw[hg] at aL;exact dl aL
 have hb:=lz.bound;have bl:=Vc_le j D;have a8:=p.ti.deafW κ F;have hW:=p.cx.wlt;generalize A:(D κ).stage=s at hs;generalize b4:(D κ).fuel=m at hs;generalize a4:(D κ).deaf=dd at hs;rw[a4] at a8;cases hs with
 |work h=>
  rcases h.cases with bY|⟨f,hT,_,d⟩
  .obtain⟨⟨_,a0,u,c,B,hk⟩,b8⟩:=bY w (.refl _ _ _ w);rw[Nat.add_sub_cancel] at a0;have e1:MemOp.ofEvents (K0+1+κ) g.frame.fn g.frame.place #[mk (.releaseMerge (stA Wg))]=#[{g:=K0+1+κ,fn:=g.frame.fn,pos:=g.frame.place,act:=.mark (.releaseMerge (stA Wg))}]:=by rw[ofEvents_eq];simp[ofEvent_mk]
   refine oQ (T':=TV (κ+1)) an N lz p F hg c (.refl _ _ _ w) (λ_ _ _=>.refl _ _ _ w) (.rest (by omega) (.k1 hk)) (λ_ x=>x) (λ_ x=>.inl x) (λop J=> ?_) (by intro e k;simp at k;subst k;simp[mk]) (by rw[a4];rfl) (λop J=> ?_)
    (λ_=>⟨t.size,RelBy.new a8 _ _,λi op x hi ho _ _=> ?_⟩) (λ_=>⟨a0,b8⟩) p.pay G (λ_ ht _=>(aY.counted F (by omega) (.inl rfl) _ _).retag ht) (.inl ⟨by omega,by simp[cnt,A]⟩)
   .rw[e1] at J;simp at J;subst J;exact⟨rfl,λx hx=>by simp[MemAct.touch?] at hx⟩
   .rw[e1] at J;simp at J;subst J;exact hW
   .have:=lt_size_of_getElem? ho;rw[e1] at this;simp at this;omega
  .obtain⟨u,w',es,S',c,hG,b6⟩:=d w (.refl _ _ _ w);have Z:Wg<w.heap.size/\¬O κ Wg/\Wg≠C:=⟨hW,p.cx.wo κ,λe=>p.cx.cw e.symm⟩;have b7:WgAt ty Wg w' st sm:=G.of_block (hG.keep Wg Z.1 Z.2.1 Z.2.2);refine oQ an N lz p F hg c
    (.alO hG (λb hb=>hb.elim (λx=>⟨p.cx.slt b x,λy=>p.cx.os κ b y x,λe=>p.cx.cs (e▸x)⟩) λx=>⟨p.cx.rlt b x,λy=>p.cx.orr κ b y x,λe=>p.cx.cr (e▸x)⟩) (λi x=>x.elim) Z)
    (λgJ _ ao=>.alO hG (λb hb=>hb.elim (λx=>⟨p.cx.olt gJ b x,λy=>ao (p.cx.oo gJ κ b x y),λe=>p.cx.co gJ (e▸x)⟩) λx=>⟨p.cx.rlt b (p.cx.rk gJ b x),λy=>p.cx.orr κ b y (p.cx.rk gJ b x),λe=>p.cx.cr (e▸p.cx.rk gJ b x)⟩) (λi x y=>ao (x.symm.trans y)) Z)
    (.work b6) hG.mono hG.new (au5 (by rw[qd]) rfl hG.ev) (λe k=>(hG.ev e k).rel) (by rw[a4];exact tn (λe k=>⟨(hG.ev e k).dis,(hG.ev e k).en⟩) 0) (anO hG.ev)
    (λh=>by omega) (λh=>by omega) (hG.pay p.pay) b7 (λ_ ht _=>ConcN.Mode.retag (by have:=aY.same (i:=κ) 0 0;rwa [A] at this) ht) (.inr (.inl ⟨A.symm,by rw[hT];exact⟨f,w,rfl,rfl⟩⟩))
 |rest h6 h=>
  have aM:∀{u:Goroutine} {w':World} {es:Array Event} {V I H:Nat} {W Y:Int},stepG P false g w=.go u w' es->Aside Wg w w'->WgAt ty Wg w' W Y->(∀e∈es,Bk Wg e)->
    (∀jx e,es[jx]?=some e->(MemAct.ofEvent e).touch?=none\/0<deafBehind dd (es.extract 0 jx))->WSit P ty Wg C (2*n) FF FF 0 (2*κ+1) (val (2*κ)) V I H u w'->deafBehind dd es=H->V<=6->
    (∀dR,(dR=tag\/(tag=.blk/\dR=.w3))->(mayWake P g=true->u.status=.running->dR ≠ .blk)->ConcN.Mode j (upd D κ ⟨V,I,H⟩) dR W Y)->((V<s/\cnt ⟨V,I,H⟩<=cnt (D κ))\/(V=s/\I+1=m))->
    ∃l E lZ,runT P (crowd gs w sl) (K0+1+κ)=(.next l,E)/\aaT (n+1) lZ (phi n (Vc j D) tag+Ssum j D,(TV,f0+2*Fsum j D+2*sumTo (K0+1) q))/\aab P ty Wg C n K0 val aU aP Fin lZ l (t++E):=by
   intro u w' es V I H W Y c Q a3 jZ hd a1 ad bb af a9;obtain⟨cs,ba,b5⟩:=p.pay;have hl:WgLive ty Wg w':=⟨_,_,a3⟩;have a0:=p.has κ F (by omega);have ec:∀o,w'.cell? ⟨C,o,none⟩=w.cell? ⟨C,o,none⟩:=uh (Q.block C p.cx.cw);exact oQ an N lz p F hg c (p.wgM Q hl) (λgJ _ _=>p.wgO Q hl gJ) (.rest bb a1) (λ_ x=>x) (λ_ x=>.inl x) (ayy jZ) (norel_of_Bk jZ) (by rw[a4];exact ad) (ahT (by rw[Q.size];exact hW) jZ)
    (λ_=>let⟨r,hr,b9⟩:=p.ti.rel κ F (by omega);⟨r,hr.book a8 _ _ jZ hd,b9.app λop J _ x hx=>by obtain⟨e,k,rfl⟩:=lP J;exact ajx (jZ e k) hx⟩)
    (λ_=>⟨(ec _).trans a0.1,(ec _).trans a0.2⟩) ⟨cs,(Q.block C p.cx.cw).trans ba,b5⟩ a3 af
    (by rw[A,b4];exact a9.imp id λx=>.inr ⟨x.1,rfl,x.2⟩)
  have z:∀{u:Goroutine} {w':World} {es:Array Event} {V I H:Nat} {W Y:Int},stepG P false g w=.go u w' es->Aside Wg w w'->WgAt ty Wg w' W Y->(∀e∈es,Bk Wg e)->
    (∀jx e,es[jx]?=some e->(MemAct.ofEvent e).touch?=none\/0<deafBehind dd (es.extract 0 jx))->WSit P ty Wg C (2*n) FF FF 0 (2*κ+1) (val (2*κ)) V I H u w'->deafBehind dd es=H->V<=6->
    ConcN.Mode j (upd D κ ⟨V,I,H⟩) tag W Y->((V<s/\cnt ⟨V,I,H⟩<=cnt (D κ))\/(V=s/\I+1=m))->
    ∃l E lZ,runT P (crowd gs w sl) (K0+1+κ)=(.next l,E)/\aaT (n+1) lZ (phi n (Vc j D) tag+Ssum j D,(TV,f0+2*Fsum j D+2*sumTo (K0+1) q))/\aab P ty Wg C n K0 val aU aP Fin lZ l (t++E):=
   λc Q a3 jZ hd a1 ad h6 af a9=>aM c Q a3 jZ hd a1 ad h6 (λ_ ht _=>af.retag ht) a9
  have K:∀{u:Goroutine} {I:Nat},stepG P false g w=.go u w #[]->WSit P ty Wg C (2*n) FF FF 0 (2*κ+1) (val (2*κ)) s I dd u w->I+1=m->
    ∃l E lZ,runT P (crowd gs w sl) (K0+1+κ)=(.next l,E)/\aaT (n+1) lZ (phi n (Vc j D) tag+Ssum j D,(TV,f0+2*Fsum j D+2*sumTo (K0+1) q))/\aab P ty Wg C n K0 val aU aP Fin lZ l (t++E):=by
   intro u I c a1 hm;exact z c (.refl Wg w) G (by simp) (by simp) a1 rfl h6 (by have:=aY.same (i:=κ) I dd;rwa [A] at this) (.inr ⟨rfl,hm⟩)
  cases h with
  |r0 h=>omega
  |k1 h=>
   rcases rE h with bY|⟨I,rfl,d⟩
   .obtain⟨_,u,c,B,hk⟩:=bY w (tR w);exact z c (.refl Wg w) G (by intro e k;simp at k;subst k;exact .inl rfl) (by intro jx e k;exact .inl (by have:=qw k;simp at this;subst this;rfl)) (.d1 hk) rfl (by omega)
     (aY.counted F (by omega) (.inr rfl) _ _) (.inl ⟨by omega,by simp[cnt,A]⟩)
   .obtain⟨u,w',es,c,⟨rfl,rfl⟩,lI⟩:=d w (tR w);exact K c (.k1 lI) rfl
  |d1 h=>
   rcases rE h with bY|⟨I,rfl,d⟩
   .obtain⟨_,a5⟩:=bY w (tR w);have bi:cnt (D κ)=1:=by simp[cnt,A]
    have bk:1<=Vc j D:=by have:=le_sumTo (f:=λx=>cnt (D x)) F;simp only[Vc];omega
    have a6:∀e∈#[rd (stA Wg),wr (stA Wg)],Bk Wg e:=by intro e k;simp at k;rcases k with rfl|rfl<;>exact ConcN.bk_cell _ _ rfl
    have aa:∀jx e,(#[rd (stA Wg),wr (stA Wg)]:Array Event)[jx]?=some e->(MemAct.ofEvent e).touch?=none\/0<deafBehind 1 ((#[rd (stA Wg),wr (stA Wg)]:Array Event).extract 0 jx):=by
     intro jx e k
     match jx,k with
     |0,_=>exact .inr (by simp[deafBehind])
     |1,_=>exact .inr (by simp[deafBehind,rd])
     |jx+2,k=>simp at k
    have ay:∀q,cnt (⟨1,q,1⟩:WD)=0:=λ_=>rfl;have aJ:∀q,OpenSt j D->OpenSt j (upd D κ ⟨1,q,1⟩):=λq h a N=>by
     by_cases e:a=κ
     .subst e;rw[qd];simp
     .rw[qH D _ e];exact h a N
    cases aY with
    |opn h1 h2 h3=>
     obtain⟨v,hv⟩:∃v,Vc j D+pend tag=v+1:=⟨Vc j D+pend tag-1,by omega⟩;rw[hv] at G;have bF:WgAt ty Wg w (((v:Nat)+1)*KK+((0:Nat):Int)) 0:=by simpa using G
     obtain⟨u,c,_,X⟩:=a5 v 0 (by omega) (by omega) bF;obtain⟨M,X⟩:=X (by omega);have al:Vc j (upd D κ ⟨1,M,1⟩)+pend tag=v:=by have:=Vc_upd D (⟨1,M,1⟩:WD) F;have:=ay M;omega
     refine z c (sF w (stA Wg) _) (G.setSt _) a6 aa (.quit X) rfl (by omega) ?_ (.inl ⟨by omega,by simp[cnt]⟩);have e:((v:Nat):Int)*KK+((0:Nat):Int)=((Vc j (upd D κ ⟨1,M,1⟩)+pend tag:Nat):Int)*KK:=by rw[al];simp
     rw[e];exact .opn h1 (aJ M h2) (λvs ev=>by have:=h3 vs ev;omega)
    |reg h1 h2 h3=>
     obtain⟨v,hv⟩:∃v,Vc j D=v+1:=⟨Vc j D-1,by omega⟩;rw[hv] at G;have hp:pend tag=0:=by cases tag<;>first|rfl|exact h1.elim
     have bF:WgAt ty Wg w (((v:Nat)+1)*KK+((1:Nat):Int)) 0:=by simpa using G
     obtain⟨u,c,hl,X⟩:=a5 v 1 (by omega) (by omega) bF;by_cases bf:v=0
     .subst bf;obtain⟨B,hk⟩:=hl ⟨rfl,rfl⟩;refine z c (sF w (stA Wg) _) (G.setSt _) a6 aa (.d2 hk) rfl (by omega) ?_ (.inl ⟨by omega,by simp[cnt]⟩);have T:∀a,a<j->a≠κ->(D a).stage=1:=λa N e=>by
       have c0:=others_uncounted F hv bi a N e;have:=h2 a N;simp only[cnt] at c0;split at c0<;>omega
      have:=ConcN.Mode.last (j:=j) (D:=upd D κ ⟨4,B,1⟩) (tag:=tag) κ h1 F (by rw[qd];simp) (λa N e=>by rw[qH D _ e];exact T a N e);rw[qd] at this;simpa using this
     .obtain⟨M,X⟩:=X (by omega);have al:Vc j (upd D κ ⟨1,M,1⟩)=v:=by have:=Vc_upd D (⟨1,M,1⟩:WD) F;have:=ay M;omega
      refine z c (sF w (stA Wg) _) (G.setSt _) a6 aa (.quit X) rfl (by omega) ?_ (.inl ⟨by omega,by simp[cnt]⟩);have e:((v:Nat):Int)*KK+((1:Nat):Int)=((Vc j (upd D κ ⟨1,M,1⟩):Nat):Int)*KK+1:=by rw[al];simp
      rw[e];exact .reg h1 (aJ M h2) (by omega)
    |last L _ h2 h3 h4=>
     by_cases e:κ=L
     .subst e;omega
     .have:=h4 κ F e;omega
    |sema h2=>have:=h2 κ F;omega
    |fin _ h2=>have:=h2 κ F;omega
   .obtain⟨u,w',es,c,⟨rfl,rfl⟩,lI⟩:=d w (tR w);exact K c (.d1 lI) rfl
  |d2 h=>
   rcases rE h with bY|⟨I,rfl,d⟩
   .obtain⟨_,hx⟩:=bY w (tR w);obtain⟨a2,T,rfl,rfl⟩:=aY.isLast F (by omega);simp only[A] at G;obtain⟨u,c,B,hk⟩:=hx (by simpa using G);refine z c (.refl Wg w) G (by intro e k;simp at k;subst k;exact ConcN.bk_cell _ _ rfl) (by intro jx e k;match jx,k with|0,_=>exact .inr (by simp[deafBehind])|jx+1,k=>simp at k) (.d3 hk) rfl (by omega) ?_ (.inl ⟨by omega,by simp[cnt]⟩);have:=ConcN.Mode.last (j:=j) (D:=upd D κ ⟨3,B,1⟩) (tag:=tag) κ a2 F (by rw[qd];simp) (λa N e=>by rw[qH D _ e];exact T a N e);rw[qd] at this;simpa using this
   .obtain⟨u,w',es,c,⟨rfl,rfl⟩,lI⟩:=d w (tR w);exact K c (.d2 lI) rfl
  |d3 h=>
   rcases rE h with bY|⟨I,rfl,d⟩
   .obtain⟨_,hx⟩:=bY w (tR w);obtain⟨a2,T,rfl,rfl⟩:=aY.isLast F (by omega);simp only[A] at G;obtain⟨u,c,B,hk⟩:=hx (by simpa using G);refine z c (sF w (stA Wg) _) (G.setSt 0) (by intro e k;simp at k;subst k;exact ConcN.bk_cell _ _ rfl) (by intro jx e k;match jx,k with|0,_=>exact .inr (by simp[deafBehind])|jx+1,k=>simp at k) (.d4 hk) rfl (by omega) ?_ (.inl ⟨by omega,by simp[cnt]⟩);have:=ConcN.Mode.last (j:=j) (D:=upd D κ ⟨2,B,1⟩) (tag:=tag) κ a2 F (by rw[qd];simp) (λa N e=>by rw[qH D _ e];exact T a N e);rw[qd] at this;simpa using this
   .obtain⟨u,w',es,c,⟨rfl,rfl⟩,lI⟩:=d w (tR w);exact K c (.d3 lI) rfl
  |d4 h=>
   rcases rE h with bY|⟨I,rfl,d⟩
   .obtain⟨_,b1,hx⟩:=bY w (tR w);obtain⟨a2,T,rfl,rfl⟩:=aY.isLast F (by omega);simp only[A] at G;obtain⟨u,c,M,X⟩:=hx (by simpa using G);have a7:u.status=.running:=by
     cases M with
     |zero=>exact absurd X.2 (by decide)
     |succ M=>exact X.elim (λx=>absurd x.2 (by decide)) (λx=>x.1)
    refine aM c (sF w (smA Wg) _) (G.setSm 1) (es:=semEvents (smA Wg)) ?_ ?_ (.quit X) (by simp[deafBehind,semEvents]) (by omega) ?_ (.inl ⟨by omega,by simp[cnt]⟩)
    .exact bk_sem
    .intro jx e k
     match jx,k with
     |0,k=>simp[semEvents] at k;subst k;exact .inl rfl
     |1,_=>exact .inr (by simp[deafBehind,semEvents])
     |2,_=>exact .inr (by simp[deafBehind,semEvents])
     |3,k=>simp[semEvents] at k;subst k;exact .inl rfl
     |jx+4,k=>simp[semEvents] at k
    .intro dR ht hw;have b3:=hw b1 a7;have e3:dR=.w3:=by
      rcases ht with rfl|⟨_,rfl⟩
      .cases dR<;>first|rfl|exact a2.elim|exact absurd rfl b3
      .rfl
     subst e3;simp only[oS];exact .sema λa N=>by
      by_cases e:a=κ
      .subst e;rw[qd]
      .rw[qH D _ e];exact T a N e
   .obtain⟨u,w',es,c,⟨rfl,rfl⟩,lI⟩:=d w (tR w);exact K c (.d4 lI) rfl
  |quit h=>
   cases m with
   |zero=>rw[h.1] at U;cases U
   |succ M=>
    rcases h with⟨hf,_⟩|⟨_,u,es,ax,d,X⟩
    .rw[hf] at U;cases U
    .have jZ:∀e∈es,Bk Wg e:=λe k=>bk_of_mute (ax e k);have b2:∀jx e,es[jx]?=some e->(MemAct.ofEvent e).touch?=none\/0<deafBehind dd (es.extract 0 jx):=λjx e k=>.inl (touch_mute (ax e (qw k)));exact z (d w) (.refl Wg w) G jZ b2 (.quit X) rfl (by omega) (by have:=aY.same (i:=κ) M (deafBehind dd es);rwa [A] at this) (.inr ⟨rfl,rfl⟩)
end
variable [Payload]
omit [Payload] in
def pR(h:aaU Wg e):e.loc ≠ .mark .disable/\e.loc ≠ .mark .enable/\e.loc ≠ .mark (.release (stA Wg)):=by
 obtain⟨a,_,rfl|rfl⟩:=h<;>simp[mk]
omit [Payload] in
def nt(h:aaU Wg e)(b:(MemAct.ofEvent e).touch?=some x):ShN Wg x.loc/\x.kind ≠ .plain:=by
 obtain⟨a,c,rfl|rfl⟩:=h<;>(simp[mk,MemAct.ofEvent,MemAct.touch?] at b;subst b;exact⟨⟨a,rfl,c⟩,by simp⟩)
omit [Payload] in
def ajz(h:aaU Wg e)(b:Wg<B):(MemAct.ofEvent e).low B:=by
 obtain⟨a,c,rfl|rfl⟩:=h<;>(show a.block<B;omega)
section
variable {P:Program} {ty:TypeId} {Wg C n K0:Nat} {val:Nat->Value} {aU:ak} {aP Fin:ak->ak->Goroutine->World->Prop}
 {gs:Array Goroutine} {w w':World} {sl:Option (Nat×Nat)} {j:Nat} {D:Nat->WD} {TV:Nat->jw} {R S S':ak} {O Rk:Nat->ak} {q:Nat->Nat} {tag dR:CTag} {f0 f' d0:Nat} {a a':Goroutine} {t:Trace} {st sm st' sm':Int} {es:Array Event} {T':jw}
def kh (y:gs[0]?=some a) (g:MI P ty Wg C n K0 val aU j gs w t D TV R S O Rk q d0) (m:stepG P true a w=.go a' w' es) (c:Aside Wg w w') (f:WgAt ty Wg w' st' sm') (o:∀e∈es,Bk Wg e)
  (u:fq P ty Wg C n val aP Fin dR j R S (TV 0) f' (deafBehind d0 es) a' w') (p:ConcN.Mode j D dR st' sm')
  (k:phi n (Vc j D) dR<phi n (Vc j D) tag\/(phi n (Vc j D) dR=phi n (Vc j D) tag/\f'<f0)) :
  ∃d i s,runT P (crowd gs w sl) 0=(.next d,i)/\aaT (n+1) s (phi n (Vc j D) tag+Ssum j D,(TV,f0+2*Fsum j D+2*sumTo (K0+1) q))/\aab P ty Wg C n K0 val aU aP Fin s d (t++i):=by
 obtain⟨z,r,l⟩:=g.pay;exact jN y g m (mt c.size.symm) (λv _=>g.wgO c ⟨_,_,f⟩ v) (λb x=>.inl x) (ar1 o) (norel_of_Bk o) (ahT (by rw[c.size];exact g.cx.wlt) o) ⟨z,(c.block C g.cx.cw).trans r,l⟩ u f p
  (k.imp id λx=>⟨x.1,.inr ⟨rfl,x.2⟩⟩)
def ayz (y:gs[0]?=some a) (g:MI P ty Wg C n K0 val aU j gs w t D TV R S O Rk q d0) (m:stepG P true a w=.go a' w' es) (c:Aside Wg w w') (f:WgAt ty Wg w' st' sm') (o:∀e∈es,Bk Wg e)
  (u:fq P ty Wg C n val aP Fin dR j R S T' f' (deafBehind d0 es) a' w') (p:ConcN.Mode j D dR st' sm') (k:phi n (Vc j D) dR<phi n (Vc j D) tag) :
  ∃d i s,runT P (crowd gs w sl) 0=(.next d,i)/\aaT (n+1) s (phi n (Vc j D) tag+Ssum j D,(TV,f0+2*Fsum j D+2*sumTo (K0+1) q))/\aab P ty Wg C n K0 val aU aP Fin s d (t++i):=by
 obtain⟨z,r,l⟩:=g.pay;exact jN y g m (mt c.size.symm) (λv _=>g.wgO c ⟨_,_,f⟩ v) (λb x=>.inl x) (ar1 o) (norel_of_Bk o) (ahT (by rw[c.size];exact g.cx.wlt) o) ⟨z,(c.block C g.cx.cw).trans r,l⟩ u f p (.inl k)
def nu (z:gs[0]?=some a) (k:MI P ty Wg C n K0 val aU j gs w t D TV R S O Rk q d0) (u:WgAt ty Wg w st sm) (y:ConcN.Mode j D tag st sm) (l:stepG P true a w=.go a' w' es) (v:DSd Wg w w' es)
  (s:fq P ty Wg C n val aP Fin tag j R S (TV 0) f' d0 a' w') (r:f'<f0) :
  ∃f i o,runT P (crowd gs w sl) 0=(.next f,i)/\aaT (n+1) o (phi n (Vc j D) tag+Ssum j D,(TV,f0+2*Fsum j D+2*sumTo (K0+1) q))/\aab P ty Wg C n K0 val aU aP Fin o f (t++i):=by
 obtain⟨rfl,c⟩:=v;have m:deafBehind d0 es=d0:=tn (λe d=>⟨(pR (c e d)).1,(pR (c e d)).2.1⟩) d0;refine jN z k l (am _) (λ_ _=>.refl _ _ _ _) (λb x=>.inl x) (λop g=> ?_) (λe d=>(pR (c e d)).2.2) (λop g=> ?_) k.pay (by rw[m];exact s) u y (.inr ⟨rfl,.inr ⟨rfl,r⟩⟩)
 .obtain⟨e,d,rfl⟩:=lP g;exact⟨rfl,λx p=>.inl ⟨alR (nt (c e d) p).1,(nt (c e d) p).2⟩⟩
 .obtain⟨e,d,rfl⟩:=lP g;exact ajz (c e d) k.cx.wlt
def alT (U:gs[0]?=some a) (c:MI P ty Wg C n K0 val aU j gs w t D TV R S O Rk q d0) (N:WgAt ty Wg w st sm) (T:ConcN.Mode j D tag st sm) (G:stepG P true a w=.go a' w' es) (f:Gua Wg C (2*n) R noC S S' w w' es)
  (K:fq P ty Wg C n val aP Fin tag j R S' T' f' d0 a' w') (L:jw.Lt T' (TV 0)) :
  ∃o u H,runT P (crowd gs w sl) 0=(.next o,u)/\aaT (n+1) H (phi n (Vc j D) tag+Ssum j D,(TV,f0+2*Fsum j D+2*sumTo (K0+1) q))/\aab P ty Wg C n K0 val aU aP Fin H o (t++u):=by
 have B:deafBehind d0 es=d0:=tn (λe p=>⟨(f.ev e p).dis,(f.ev e p).en⟩) d0;have l:Wg<w.heap.size/\¬S Wg/\Wg≠C:=⟨c.cx.wlt,c.cx.ws,λe=>c.cx.cw e.symm⟩;have g:=c.cx.awY f.size f.new;refine jN U c G f.size (λd _=>.alO f (λb z=>z.elim (λx=>⟨c.cx.olt d b x,λy=>c.cx.os d b x y,λe=>c.cx.co d (e▸x)⟩) λx=>⟨c.cx.rlt b (c.cx.rk d b x),λy=>c.cx.rs b (c.cx.rk d b x) y,λe=>c.cx.cr (e▸c.cx.rk d b x)⟩) (λi _ y=>y.elim) l)
  f.new (λop A=> ?_) (λe p=>(f.ev e p).rel) (anO f.ev) (f.pay c.pay) (by rw[B];exact K) (N.of_block (f.keep Wg l.1 l.2.1 l.2.2)) T (.inr ⟨rfl,.inl L⟩)
 obtain⟨e,p,rfl⟩:=lP A;refine⟨rfl,λx Q=>.inr ?_⟩;have r:∀{Z:ak},(¬Z Wg)->(∀b,aU b->¬Z b)->In Z x.loc->¬Shr Wg aU x.loc:=λF E v ⟨M,e,h⟩=>by
  have:=In.block v e;rcases h with h|h
  .rw[h] at this;exact F this
  .exact E _ h this
 have s:∀{Z:ak},(∀d b,O d b->¬Z b)->(¬Z C)->In Z x.loc->∀k,¬aaV C K0 O k x.loc:=λF E v k ⟨d,_,h⟩=>by
  rcases h with h|⟨M,e,h,_⟩
  .exact In.no (F d) h v
  .have:=In.block v e;rw[h] at this;exact E this
 rcases(f.ev e p).touch x Q with m|⟨_,_,_,m⟩|⟨m,J⟩
 .refine⟨r g.ws g.shs m,λk _ _=>s g.os g.cs m k,λ_ k _ _ ⟨d,_,hr⟩=> ?_⟩;exact In.no (λb z=>g.rs b (c.cx.rk d b z)) hr m
 .exact m.elim
 .refine⟨r c.cx.wr c.cx.shr m,λk _ _=>s c.cx.orr c.cx.cr m k,λI=> ?_⟩;rw[J] at I;cases I
def apk (hn:n<2147483648) (b8:∀R S g w,aP R S g w->∃m,GP P ty Wg C n R S (MW1 P ty Wg C n R S aP Fin) m g w)
  (v:gs[0]?=some a) (lz:fq P ty Wg C n val aP Fin tag j R S (TV 0) f0 d0 a w) (k:MI P ty Wg C n K0 val aU j gs w t D TV R S O Rk q d0) (o:WgAt ty Wg w st sm) (z:ConcN.Mode j D tag st sm) (ad:a.status=.running) :
  (∃B M,runT P (crowd gs w sl) 0=(.next B,M)/\anN P ty Wg C n K0 val aU Fin B (t++M))\/
  (∃B M lZ,runT P (crowd gs w sl) 0=(.next B,M)/\aaT (n+1) lZ (phi n (Vc j D) tag+Ssum j D,(TV,f0+2*Fsum j D+2*sumTo (K0+1) q))/\aab P ty Wg C n K0 val aU aP Fin lZ B (t++M)):=by
 have b4:=Vc_le j D;have F:RM ty Wg C n R S w w:=.refl _ _ _ _;have an:∀{m':Nat} {tag:CTag},j=n->d0=1->isOpen tag->pend tag=0->phi n (Vc n D) .w1<=phi n (Vc n D) tag->f0=f0->(tag=.w1->m'<=f0)->ConcN.Mode j D tag st sm->GP P ty Wg C n R S (MW1 P ty Wg C n R S aP Fin) m' a w->
   (∃B M lZ,runT P (crowd gs w sl) 0=(.next B,M)/\aaT (n+1) lZ (phi n (Vc j D) tag+Ssum j D,(TV,f0+2*Fsum j D+2*sumTo (K0+1) q))/\aab P ty Wg C n K0 val aU aP Fin lZ B (t++M)):=by
  intro m' tag hj hd J hp Q _ hm z h;subst hj hd;have a4:ConcN.Mode j D .w1 st sm:=z.reopen J trivial (by rw[hp];rfl) (by simp);rcases rE h with E|⟨m',rfl,c⟩
  .obtain⟨_,N⟩:=E w F;obtain⟨W,rfl,rfl,_⟩:=a4.open_inv trivial;obtain⟨a',d,h0,ay⟩:=N (Vc j D) (by omega) (by simpa[pend] using o);by_cases hv:Vc j D=0
   .obtain⟨s,A⟩:=h0 hv;refine kh v k d (.refl Wg w) o bk_rd (dR:=.ke) (.ke A) ?_ (.inl (by simp only[phi] at Q ⊢;omega));have e:((Vc j D+pend .w1:Nat):Int)*KK=0:=by rw[hv];simp[pend]
    rw[e];exact .fin trivial (allQuit_of W hv)
   .obtain⟨s,A⟩:=ay hv;exact kh v k d (.refl Wg w) o bk_rd (dR:=.w2 (Vc j D)) (.w2 A) (a4.reopen trivial trivial rfl (λvs e=>by cases e;omega)) (.inl (by simp only[phi] at Q ⊢;omega))
  .obtain⟨a',w',es,d,K,I⟩:=c w F;rcases Nat.lt_or_eq_of_le Q with Q|Q
   .obtain⟨rfl,U⟩:=K;have b1:deafBehind 1 es=1:=tn (λe he=>⟨(pR (U e he)).1,(pR (U e he)).2.1⟩) 1;refine jN v k d (am _) (λ_ _=>.refl _ _ _ _) (λb x=>.inl x) (λop J=> ?_) (λe he=>(pR (U e he)).2.2) (λop J=> ?_) k.pay (T':=TV 0) (dR:=.w1) (by rw[b1];exact .w1 I) o a4 (.inl Q)
    .obtain⟨e,he,rfl⟩:=lP J;exact⟨rfl,λx Y=>.inl ⟨alR (nt (U e he) Y).1,(nt (U e he) Y).2⟩⟩
    .obtain⟨e,he,rfl⟩:=lP J;exact ajz (U e he) k.cx.wlt
   .have b0:tag=.w1:=by
     cases tag<;>first|rfl|exact J.elim|(simp only[phi] at Q;omega)
    subst b0;exact nu v k o z d K (.w1 I) (by have:=hm rfl;omega)
 cases lz with
 |skd Z h=>
  rcases h.cases with E|⟨f,hT,_,c⟩
  .obtain⟨_,a',d,s,A⟩:=E w F;exact .inr (kh v k d (.refl Wg w) o bk_dis (.sa1 Z A) (z.reopen trivial trivial rfl (by simp)) (.inl (by simp only[phi];omega)))
  .obtain⟨a',w',es,S',d,hG,V⟩:=c w F;exact .inr (alT v k o z d hG (.skd Z V) (by rw[hT];exact⟨f,w,rfl,rfl⟩))
 |sa1 Z h=>
  rename_i r;rcases rE h with E|⟨m',rfl,c⟩
  .obtain⟨_,N⟩:=E w F;obtain⟨W,rfl,rfl,_⟩:=z.open_inv trivial;obtain⟨a',d,s,A⟩:=N (Vc (n-(r+1)) D) (by omega) (by simpa[pend] using o);refine .inr (kh v k d (sF w (stA Wg) _) (o.setSt _) bk_rw (.ske Z A) ?_ (.inl (by simp only[phi];omega)));have e:(((Vc (n-(r+1)) D:Nat):Int)+1)*KK=((Vc (n-(r+1)) D+pend (.sp r 3):Nat):Int)*KK:=by simp[pend]
   rw[e];exact .opn trivial W (by simp)
  .obtain⟨a',w',es,d,K,I⟩:=c w F;exact .inr (nu v k o z d K (.sa1 Z I) (by omega))
 |ske Z h=>
  rcases rE h with E|⟨m',rfl,c⟩
  .obtain⟨_,a',d,b9,A⟩:=E w F;exact .inr (ayz v k d (.refl Wg w) o bk_en (.sgo Z A) (z.reopen trivial trivial rfl (by simp)) (by simp only[phi];omega))
  .obtain⟨a',w',es,d,K,I⟩:=c w F;exact .inr (nu v k o z d K (.ske Z I) (by omega))
 |sgo Z h=>
  rename_i r;rcases h.cases with E|⟨f,hT,_,c⟩
  .obtain⟨_,a',H,X,aY,hX,b2,eM⟩:=E w F;obtain⟨W,rfl,rfl,_⟩:=z.open_inv trivial;obtain⟨Tc,aa⟩:=b2 k.pay ⟨_,_,o⟩;obtain⟨l,b3⟩:∃l,n-(r+1)=l:=⟨_,rfl⟩;rw[b3] at k o z W aa b4 ⊢;have G:=runT_crowd_spawn (P:=P) (sl:=sl) (i:=0) v (by simpa using aY);rw[k.size] at G;have ax:=k.cx.hand l hX;have b6:=k.ti.fork (X:=X) (m':=0) ax.apart (x:={g:=0,fn:=a.frame.fn,pos:=a.frame.place,act:=.go (K0+1+l)}) (y:={g:=K0+1+l,fn:=H.frame.fn,pos:=a.frame.place,act:=.start})
    ⟨rfl,by rw[show K0+1+l=K0+l+1 by omega]⟩ ⟨by show K0+1+l=_;omega,rfl⟩
   have eV:Vc (l+1) (upd D l ⟨7,0,0⟩)=Vc l D+1:=by
    simp only[Vc,sumTo,qd];rw[sumTo_upd_out D _ cnt (am _)];rfl
   have eS:Ssum (l+1) (upd D l ⟨7,0,0⟩)=Ssum l D+7:=by
    simp only[Ssum,sumTo,qd];rw[sumTo_upd_out D _ WD.stage (am _)]
   have nT:OpenSt (l+1) (upd D l ⟨7,0,0⟩):=λi hi=>by
    by_cases e:i=l
    .subst e;rw[qd];simp
    .rw[qH D _ e];exact W i (by omega)
   have ao:((gs.setIfInBounds 0 a').push H)[0]?=some a':=by
    have al:0<gs.size:=by rw[k.size];omega
    rw[uf (by simpa using al),<-ge];simp[al]
   have ej:l+1=n-r:=by omega
   have a7:∀dR,pend dR=0->((Vc l D+pend (.sp r 2):Nat):Int)*KK=((Vc (l+1) (upd D l ⟨7,0,0⟩)+pend dR:Nat):Int)*KK:=λdR hp=>by rw[eV,hp];simp[pend]
   have mi:∀T0,MI P ty Wg C n K0 val aU (l+1) ((gs.setIfInBounds 0 a').push H) w (t++#[{g:=0,fn:=a.frame.fn,pos:=a.frame.place,act:=.go (K0+1+l)},{g:=K0+1+l,fn:=H.frame.fn,pos:=a.frame.place,act:=.start}]) (upd D l ⟨7,0,0⟩) (upd (upd TV (l+1) Tc) 0 T0) (λb=>S b\/R b) (λ_=>False) O (upd Rk l X) q 0:=λT0=>by
    refine⟨by simp[k.size];omega,λi x a3 hi Y=> ?_,λu gT=> ?_,b6,ax,λu gT hs=> ?_,k.pay,λu gT=>k.unO u (by omega)⟩
    .rw[uf (by simp[k.size];omega),<-ge,ip (by omega)] at Y;rw[Deaf_still t i _ (λop J=>by simp at J;rcases J with rfl|rfl<;>simp)];exact k.old i x a3 hi Y
    .rw[qH _ _ (show u+1≠0 by omega)];rcases oR u l with a0|nR
     .obtain⟨g,hg,b5⟩:=k.wk u a0;refine⟨g, ?_,by rw[qH D _ (by omega),qH Rk _ (by omega),qH TV _ (by omega)];exact b5⟩;rw[uf (by simp[k.size];omega),<-ge,ip (by omega)];exact hg
     .obtain rfl:u=l:=by omega
      refine⟨H, ?_,by rw[qd,qd,qd,k.unO u (am _)];exact .work aa⟩;rw[show K0+1+u=(gs.setIfInBounds 0 a').size by simp[k.size],qM]
    .rcases oR u l with a0|nR
     .rw[qH D _ (by omega)] at hs;exact k.has u a0 hs
     .obtain rfl:u=l:=by omega
      rw[qd] at hs;simp at hs
   cases r with
   |zero=>
    obtain⟨T,A⟩:=eM;have a2:l+1=n:=by omega
    have a5:fq P ty Wg C n val aP Fin .kd (l+1) (λb=>S b\/R b) (λ_=>False) (upd (upd TV (l+1) Tc) 0 T 0) 0 0 a' w:=by
     rw[qd,a2];exact .kd A
    refine .inr ⟨_,_,(phi n (Vc (l+1) (upd D l ⟨7,0,0⟩)) .kd+Ssum (l+1) (upd D l ⟨7,0,0⟩),(upd (upd TV (l+1) Tc) 0 T,0+2*Fsum (l+1) (upd D l ⟨7,0,0⟩)+2*sumTo (K0+1) q)),G,Prod.Lex.left _ _ (by simp only[phi];omega),
     _,w,sl,l+1,_,_,_,_,O,_,q,.kd,0,0,a',_,_,rfl,ao,a5,mi T,o, ?_,rfl⟩
    rw[a7 .kd rfl];exact .opn trivial nT (by simp)
   |succ r'=>
    obtain⟨T,A⟩:=eM;have a2:l+1=n-(r'+1):=by omega
    have a5:fq P ty Wg C n val aP Fin (.sp r' 5) (l+1) (λb=>S b\/R b) (λ_=>False) (upd (upd TV (l+1) Tc) 0 T 0) 0 0 a' w:=by
     rw[qd,a2];exact .skd (by omega) A
    refine .inr ⟨_,_,(phi n (Vc (l+1) (upd D l ⟨7,0,0⟩)) (.sp r' 5)+Ssum (l+1) (upd D l ⟨7,0,0⟩),(upd (upd TV (l+1) Tc) 0 T,0+2*Fsum (l+1) (upd D l ⟨7,0,0⟩)+2*sumTo (K0+1) q)),G,Prod.Lex.left _ _ (by simp only[phi];omega),
     _,w,sl,l+1,_,_,_,_,O,_,q,.sp r' 5,0,0,a',_,_,rfl,ao,a5,mi T,o, ?_,rfl⟩
    rw[a7 (.sp r' 5) rfl];exact .opn trivial nT (by simp)
  .obtain⟨a',w',es,S',d,hG,V⟩:=c w F;exact .inr (alT v k o z d hG (.sgo Z V) (by rw[hT];exact⟨f,w,rfl,rfl⟩))
 |kd h=>
  rcases h.cases with E|⟨f,hT,_,c⟩
  .obtain⟨_,a',d,s,A⟩:=E w F;exact .inr (kh v k d (.refl Wg w) o bk_dis (.anch A) (z.reopen trivial trivial rfl (by simp)) (.inl (by simp only[phi];omega)))
  .obtain⟨a',w',es,S',d,hG,V⟩:=c w F;exact .inr (alT v k o z d hG (.kd V) (by rw[hT];exact⟨f,w,rfl,rfl⟩))
 |anch h=>
  rcases rE h with E|⟨m',rfl,c⟩
  .obtain⟨s,A⟩:=b8 R S a w (E w F);exact .inr (an rfl rfl trivial rfl (by simp only[phi];omega) rfl (by simp) z A)
  .obtain⟨a',w',es,d,K,I⟩:=c w F;exact .inr (nu v k o z d K (.anch I) (by omega))
 |w1 h=>exact .inr (an rfl rfl trivial rfl (am _) rfl (λ_=>am _) z h)
 |w2 h=>
  rename_i vs;rcases rE h with E|⟨m',rfl,c⟩
  .obtain⟨_,N⟩:=E w F;obtain⟨W,rfl,rfl,aJ⟩:=z.open_inv trivial;obtain⟨bb,h1⟩:=aJ vs rfl;obtain⟨aL,aM⟩:=N (Vc n D) (by omega) (by simpa[pend] using o);by_cases e:Vc n D=vs
   .obtain⟨a',d,s,A⟩:=aL e;exact .inr (kh v k d (sF w (stA Wg) _) (o.setSt _) bk_rw (.w3 A) (.reg trivial W (by omega)) (.inl (by simp only[phi];omega)))
   .obtain⟨a',d,s,A⟩:=aM e;exact .inr (kh v k d (.refl Wg w) o bk_rd (.anch A) (z.reopen trivial trivial rfl (by simp)) (.inl (by simp only[phi];omega)))
  .obtain⟨a',w',es,d,K,I⟩:=c w F;exact .inr (nu v k o z d K (.w2 I) (by omega))
 |w3 h=>
  rcases rE h with E|⟨m',rfl,c⟩
  .obtain⟨_,ba,a1,nH⟩:=E w F;cases z with
   |opn h1 _ _=>exact h1.elim
   |reg h1 h2 h3=>exact .inr (kh v k (a1 ⟨_,o⟩) (.refl Wg w) o (by simp) (.blk E) (.reg trivial h2 h3) (.inr ⟨rfl,by omega⟩))
   |last L h1 h2 h3 h4=>exact .inr (kh v k (a1 ⟨_,o⟩) (.refl Wg w) o (by simp) (.blk E) (.last L trivial h2 h3 h4) (.inr ⟨rfl,by omega⟩))
   |sema h2=>
    obtain⟨a',d,s,A⟩:=nH o;exact .inr (kh v k d (sF w (smA Wg) _) (o.setSm 0) bk_sem (.w4 A) (.fin trivial h2) (.inl (by simp only[phi];omega)))
   |fin h1 _=>exact h1.elim
  .obtain⟨a',w',es,d,K,I⟩:=c w F;exact .inr (nu v k o z d K (.w3 I) (by omega))
 |blk h=>simp at ad
 |w4 h=>
  rcases rE h with E|⟨m',rfl,c⟩
  .obtain⟨_,Y⟩:=E w F;obtain⟨hq,rfl,rfl⟩:=z.fin_inv trivial;obtain⟨a',d,s,A⟩:=Y o;exact .inr (kh v k d (.refl Wg w) o bk_rd (.ke A) (.fin trivial hq) (.inl (by simp only[phi];omega)))
  .obtain⟨a',w',es,d,K,I⟩:=c w F;exact .inr (nu v k o z d K (.w4 I) (by omega))
 |ke h=>
  rcases rE h with E|⟨m',rfl,c⟩
  .obtain⟨_,a',d,s,A⟩:=E w F;obtain⟨hq,rfl,rfl⟩:=z.fin_inv trivial;exact .inr (kh v k d (.refl Wg w) o bk_en (.acq A) (.fin trivial hq) (.inl (by simp only[phi];omega)))
  .obtain⟨a',w',es,d,K,I⟩:=c w F;exact .inr (nu v k o z d K (.ke I) (by omega))
 |acq h=>
  rcases rE h with E|⟨m',rfl,c⟩
  .obtain⟨_,a',d,b7⟩:=E w F;obtain⟨hq,rfl,rfl⟩:=z.fin_inv trivial;have G:=sW (P:=P) (sl:=sl) (i:=0) v (by simpa using d);have h6:∀u,u<n->(D u).stage<=6:=λu gT=>by rw[hq u gT];omega
   have af:=k.ti.join h6 k.cx.apart a.frame.fn a.frame.place k.cx.wlt;refine .inl ⟨_,_,G,_,w,sl,a',λi=>if i<=K0 then q i else(D (i-(K0+1))).fuel,R,S,rfl,un _ _ _ (by rw[k.size];omega),by simp[k.size],b7,⟨λi x a3 Y=> ?_,λi hi=> ?_⟩,af,k.pay,λu gT=>k.has u gT (h6 u gT),⟨_,_,o⟩,λb hb=> ?_⟩
   .rw[sN _ _ _ _ (by omega)] at Y;obtain⟨y,hy,rfl⟩:=io.1 Y;rw[rb t (g':=0) (by omega) _ g_of_ofEvents];by_cases hi:i<=K0
    .have a9:=k.old i y a3 hi hy;rw[sP a9];simp only[dj hi];exact a9
    .have a0:i<K0+1+n:=by have:=(dk.1 hy).1;rw[k.size] at this;omega
     obtain⟨u,rfl⟩:∃u,i=K0+1+u:=⟨i-(K0+1),by omega⟩;obtain⟨g',I,a8⟩:=k.wk u (by omega);rw[hy] at I;cases I;have hd:=k.ti.deafW u (by omega);have h1:=hq u (by omega);rw[h1] at a8;have a6:QuitsD P (D u).fuel (D u).deaf y:=by
      cases a8 with
      |rest _ h=>exact h.quits rfl
     rw[sP a6,hd];simp only[bd hi];rw[show K0+1+u-(K0+1)=u by omega];exact a6
   .refine Deaf_absent λp op W e=> ?_;have h1:=af.gs op (qw W);simp[k.size] at hi;omega
   .rcases hb with hb|rfl
    .exact⟨k.cx.shr b hb,k.cx.shs b hb,λe=>k.cx.shc (e▸hb),k.cx.ajv b hb⟩
    .exact⟨k.cx.wr,k.cx.ws,λe=>k.cx.cw e.symm,k.cx.wlt⟩
  .obtain⟨a',w',es,d,K,I⟩:=c w F;exact .inr (nu v k o z d K (.acq I) (by omega))
end
end
section
open Go.Conc Go.ConcN
open Go.ConcR (KK wgBlock WgAt stA smA rd wr mk Payload DC0 Bk g_of_ofEvents ofEvent_mk ofEvent_loc_mark loc_of_ofEvent bk_of_mute again_blocked)
variable [Payload]
section
variable {P:Program} {ty:TypeId} {Wg C n K0:Nat} {val:Nat->Value} {aU:ak} {aP Fin:ak->ak->Goroutine->World->Prop}
 {gs:Array Goroutine} {w:World} {sl:Option (Nat×Nat)} {j:Nat} {D:Nat->WD} {TV:Nat->jw} {R S:ak} {O Rk:Nat->ak} {q:Nat->Nat} {tag:CTag} {f0 d0:Nat} {a:Goroutine} {t:Trace} {st sm:Int}
def afJ(d:∀R S g w,aP R S g w->g.status=.running)(r:gs[0]?=some a)(m:fq P ty Wg C n val aP Fin tag j R S (TV 0) f0 d0 a w)(f:MI P ty Wg C n K0 val aU j gs w t D TV R S O Rk q d0)(p:ConcN.Mode j D tag st sm) :
  ∃(i:Nat) (g:Goroutine),gs[i]?=some g/\g.status=.running:=by
 rcases m.status d with⟨b,_⟩|⟨_,rfl⟩
 .exact⟨0,a,r,b⟩
 .cases p with
  |opn e _ _=>exact e.elim
  |reg _ _ k=>
   obtain⟨i,o,s⟩:=exists_counted k;obtain⟨g,c,b⟩:=f.wk i o;exact⟨K0+1+i,g,c,b.running_of (by omega)⟩
  |last L _ l k _=>
   obtain⟨g,c,b⟩:=f.wk L l;exact⟨K0+1+L,g,c,b.running_of (by omega)⟩
  |fin e _=>exact e.elim
def alX(f:∀R S g w,aP R S g w->g.status=.running)(s:gs[0]?=some a)(o:fq P ty Wg C n val aP Fin tag j R S (TV 0) f0 d0 a w)(d:MI P ty Wg C n K0 val aU j gs w t D TV R S O Rk q d0):∀g∈gs,awake g:=by
 intro g p;obtain⟨i,c⟩:=vG.1 p;rcases oE i with rfl|r
 .rw[s] at c;cases c;rcases o.status f with⟨b,_⟩|⟨b,_⟩
  .exact uq (.inl b)
  .exact uq (.inr (.inl b))
 .by_cases k:i<=K0
  .exact uq ((d.old i g r k c).status.elim .inl λx=>.inr (.inr x))
  .have m:i<K0+1+j:=by have:=(dk.1 c).1;rw[d.size] at this;exact this
   obtain⟨e,rfl⟩:∃e,i=K0+1+e:=⟨i-(K0+1),by omega⟩;obtain⟨u,l,b⟩:=d.wk e (by omega);rw[c] at l;cases l;exact uq (b.status.elim .inl λx=>.inr (.inr x))
def ajA (G:n<2147483648) (f:∀R S g w,aP R S g w->g.status=.running) (z:∀R S g w,aP R S g w->∃m,GP P ty Wg C n R S (MW1 P ty Wg C n R S aP Fin) m g w) (B:Mu) (m:Machine) (t:Trace)
  (h:aab P ty Wg C n K0 val aU aP Fin B m t) :
  (∃b e,stepT P m=(.next b,e)/\anN P ty Wg C n K0 val aU Fin b (t++e))\/(∃b e E,stepT P m=(.next b,e)/\aaT (n+1) E B/\aab P ty Wg C n K0 val aU aP Fin E b (t++e)):=by
 obtain⟨gs,w,sl,j,D,TV,R,S,O,Rk,q,tag,f0,d0,a,st,sm,rfl,r,y,u,I,v,rfl⟩:=h;obtain⟨i,g,d,p,s,c,l⟩:=crowd_pick (P:=P) (w:=w) (sl:=sl) (alX f r y u) (afJ f r y u v);rw[l];have x:=y.rely (.at _ _ _ w d);have o:=u.at d;have k:WgAt ty Wg (w.at d) st sm:=I;rcases oE i with rfl|J
 .rw[r] at s;cases s;exact apk (sl:=p) G z r x o k v c
 .by_cases A:i<=K0
  .exact .inr (ar0 (sl:=p) f r x o k v J A s c)
  .have H:i<K0+1+j:=by have:=(dk.1 s).1;rw[u.size] at this;exact this
   obtain⟨F,rfl⟩:∃F,i=K0+1+F:=⟨i-(K0+1),by omega⟩;exact .inr (ajy (sl:=p) G f r x o k v (by omega) s c)
def ae3(q:n<2147483648)(l:∀R S g w,aP R S g w->g.status=.running)(i:∀R S g w,aP R S g w->∃m,GP P ty Wg C n R S (MW1 P ty Wg C n R S aP Fin) m g w) :
  ∀(c:Mu) (m:Machine) (t:Trace),aab P ty Wg C n K0 val aU aP Fin c m t->∃N e d,runNT P N m t=(.next e,d)/\anN P ty Wg C n K0 val aU Fin e d:=by
 intro c
 induction c using(au2 (n+1)).induction with
 |_ c r=>
  intro m t h;rcases ajA q l i c m t h with⟨a,b,j,k⟩|⟨a,b,p,j,f,k⟩
  .exact⟨1,a,t++b,by rw[runNT_succ_next j];rfl,k⟩
  .obtain⟨N,e,d,s,o⟩:=r p f a (t++b) k;exact⟨N+1,e,d,by rw[runNT_succ_next j];exact s,o⟩
def ajB (B:n<2147483648) (b:∀R S g w,aP R S g w->g.status=.running) (c:∀R S g w,aP R S g w->∃m,GP P ty Wg C n R S (MW1 P ty Wg C n R S aP Fin) m g w)
  (u:gs[0]?=some a) (o:gs.size=K0+1) (L:Leavers P t gs q) (Q:eP aU K0 w.heap.size t) (d:tA P ty Wg C n val aP n R a w) (y:WgAt ty Wg w 0 0) (p:PayAt C (2*n) w)
  (J:∀(i:Nat) (x:Touch),touchAt t i=some x->∀a,x.loc=.cell a->a.block≠Wg) (f:NoRelease (stA Wg) t) (U:Sets Wg C aU w R (λ_=>False) (λ_ _=>False) (λ_ _=>False)) :
  ∃N A s,runNT P N (crowd gs w sl) t=(.next A,s)/\anN P ty Wg C n K0 val aU Fin A s:=by
 have v:∀T0,MI P ty Wg C n K0 val aU 0 gs w t (λ_=>⟨0,0,0⟩) (upd (λ_=>jw.leaf) 0 T0) R (λ_=>False) (λ_ _=>False) (λ_ _=>False) q 0:=λT0=>
  ⟨o,λi g z _ I=>L.old i g z I,λH M=>by omega,.begin Q J f,U,λH M=>by omega,p,λ_ _=>rfl⟩
 have E:∀tag,isOpen tag->pend tag=0->(∀l,tag ≠ .w2 l)->ConcN.Mode 0 (λ_=>(⟨0,0,0⟩:WD)) tag 0 0:=λtag K G O=>by
  have:=ConcN.Mode.opn (j:=0) (D:=λ_=>(⟨0,0,0⟩:WD)) K (λi z=>by omega) (λl e=>absurd e (O l));simpa[Vc,sumTo,G] using this
 cases n with
 |zero=>
  obtain⟨T,k⟩:=d;exact ae3 B b c _ _ _ ⟨gs,w,sl,0,_,_,R,_,_,_,q,.kd,0,0,a,0,0,rfl,u,.kd (by rw[qd];exact k),v T,y,E .kd trivial rfl (by simp),rfl⟩
 |succ r=>
  obtain⟨T,k⟩:=d;have F:=fq.skd (Fin:=Fin) (Nat.lt_succ_self r) k;rw[uB] at F;exact ae3 B b c _ _ _ ⟨gs,w,sl,0,_,_,R,_,_,_,q,.sp r 5,0,0,a,0,0,rfl,u,by rw[qd];exact F,v T,y,E (.sp r 5) trivial rfl (by simp),rfl⟩
end
end
end Go.Proofs.YtepfjblhjlefiaaGreatDoor