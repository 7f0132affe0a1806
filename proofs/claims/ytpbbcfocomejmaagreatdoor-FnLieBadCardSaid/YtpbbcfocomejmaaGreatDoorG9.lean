/- A part of the proof. -/
import Derived.Test.YtpbbcfocomejmaaGreatDoorG8
import Derived.Orders
import Derived.Conc.AppendWalk
import Derived.DuoClaim
import Derived.Conc.LeavingOf
import Derived.SizedLaws
import Derived.Shelf.Slices.Cells
import Derived.Shelf.SortM.Plain
import Derived.Shelf.SortM.SortNone
import Derived.Sort.OwnSortedInts
set_option maxRecDepth 100000
set_option maxHeartbeats 8000000
set_option linter.all false
open Go Go.Conc Go.ConcN Go.RowKit Go.Proofs.Tryz Go.Proofs.YtpbbcfocomejmaaGreatDoor
variable {R aT:aq} {Y b c i j n:Nat} {key:Int} {a:Addr} {o:Oper} {V W w:World} {fr:Frame} {t:Trace} {v:Value} {f:FuncId} {ty:TypeId} {P:Program} {d:TypeDesc} {l:List Int} {rest:List Nat} {g:Goroutine} {k:List Item} {U:Array Oper} {af:Array Edge} {listed:Array Bool} {xs:List Frame} {X:Array Value} {S A:Option Addr} {es:Array Event} {e:Operand→Value} {gd:Option (Nat × Bool)} {T:Goroutine→World→Prop} {Stop:aq→Goroutine→World→Prop} {Z:Int→List iw→Int→ByteArray × Bool}
namespace Go.Proofs.YtpbbcfocomejmaaGreatDoor
def vA:=@_root_.Go.Proofs.Tryz.zeroValue30
def vM:=@_root_.List.toArray_replicate
def vX:=@_root_.Bool.and_assoc
def wl:=@_root_.Bool.or_eq_false_iff
section
open Go.Conc Go.ConcN Go.RowKit
open Go.ConcR (KK wgBlock WgAt stA smA rd wr mk Payload DC0)
abbrev nCl:FuncId:=99
def lr:Code->Code
 |.seq a _=>a
 |c=>c
def uu:Code->Array Oper
 |.region _ o _=>o
 |_=>#[]
noncomputable def aod:Code:=f99.body.getD .skip
noncomputable def oA:Array Oper:=uu (lr aod)
noncomputable def aS:Array Oper:=uu (bZ aod)
def ato:aod=.seq (.region 0 oA false) (.region 1 aS true):=rfl
def aoe:aS.size=8:=rfl
def aBt:∃p,aS[0]?=some ⟨some 6,.load 149 (.tmp 4),149,p,#[],none⟩:=⟨_,rfl⟩
def aBu:∃p,aS[1]?=some ⟨some 7,.load 3 (.tmp 5),3,p,#[],none⟩:=⟨_,rfl⟩
def aBv:∃p,aS[2]?=some ⟨some 8,.load 3 (.tmp 1),3,p,#[],none⟩:=⟨_,rfl⟩
def aBw:∃p,aS[3]?=some ⟨some 9,.load 23 (.tmp 2),23,p,#[],none⟩:=⟨_,rfl⟩
def aBx:∃p,aS[4]?=some ⟨some 10,.load 3 (.tmp 3),3,p,#[],none⟩:=⟨_,rfl⟩
def aBy:∃p,aS[5]?=some ⟨some 11,.call ⟨.value (.func 101),#[.tmp 8,.tmp 9,.tmp 10],#[3,23,3]⟩,160,p,#[⟨2,.data⟩,⟨3,.data⟩,⟨4,.data⟩],none⟩:=⟨_,rfl⟩
def aBz:∃p,aS[6]?=some ⟨some 12,.indexAddr 149 (.tmp 6) (.tmp 7),0,p,#[⟨0,.data⟩,⟨1,.data⟩,⟨0,.phase⟩,⟨1,.phase⟩,⟨2,.phase⟩,⟨3,.phase⟩,⟨4,.phase⟩,⟨5,.phase⟩],none⟩:=⟨_,rfl⟩
def aBA:∃p,aS[7]?=some ⟨none,.store 160 (.tmp 12) (.tmp 11),0,p,#[⟨6,.data⟩,⟨5,.data⟩,⟨5,.chain⟩,⟨0,.phase⟩,⟨1,.phase⟩,⟨2,.phase⟩,⟨3,.phase⟩,⟨4,.phase⟩,⟨5,.phase⟩],none⟩:=⟨_,rfl⟩
def jI(L:Nat->Bool):Nat->Bool
 |5=>L 2&&L 3&&L 4
 |6=>L 0&&L 1&&L 2&&L 3&&L 4&&L 5
 |7=>L 6&&L 5&&L 0&&L 1&&L 2&&L 3&&L 4
 |_=>true
def aof(L:Nat->Bool)(hi:i<8):((aS[i]?).map (λo:Oper=>o.after.all λe=>!Region.binds .any e||L e.on)).getD false=jI L i:=by
 have:i=0\/i=1\/i=2\/i=3\/i=4\/i=5\/i=6\/i=7:=by omega
 rcases this with rfl|rfl|rfl|rfl|rfl|rfl|rfl|rfl
 .obtain⟨p,e⟩:=aBt;rw[e];simp[jI]
 .obtain⟨p,e⟩:=aBu;rw[e];simp[jI]
 .obtain⟨p,e⟩:=aBv;rw[e];simp[jI]
 .obtain⟨p,e⟩:=aBw;rw[e];simp[jI]
 .obtain⟨p,e⟩:=aBx;rw[e];simp[jI]
 .obtain⟨p,e⟩:=aBy;rw[e];simp[Region.binds,jI,vX]
 .obtain⟨p,e⟩:=aBz;rw[e];simp[Region.binds,jI];cases L 0<;>cases L 1<;>simp[vX]
 .obtain⟨p,e⟩:=aBA;rw[e];simp[Region.binds,jI];cases L 5<;>cases L 6<;>simp[vX]
def afC(d:listed.size=8) :i∈Region.ready .any aS listed↔i<8/\listed.getD i false=false/\jI (λj=>listed.getD j false) i=true:=by
 unfold Region.ready;rw[qQ,ql,aoe];constructor
 .rintro⟨b,a⟩;rw[aof (λj=>listed.getD j false) b] at a;simp only[fd,uq] at a;refine⟨b, ?_,a.2⟩;have:=a.1;rw[gc,fm (by omega)] at this ⊢;exact this
 .rintro⟨b,a,c⟩;refine⟨b, ?_⟩;rw[aof (λj=>listed.getD j false) b,c];rw[gc,fm (by omega)] at a ⊢;simp only[qn] at a ⊢;rw[a];rfl
def unW(listed:Array Bool):Nat:=(List.range 8).countP λi=>!listed.getD i false
def ag0{p q:Nat->Bool}:∀{l:List Nat} {x:Nat},(∀y,q y=true->p y=true)->x∈l->p x=true->q x=false->l.countP q<l.countP p
 |[],x,_,b,_,_=>by cases b
 |a::l,x,h,b,hp,hq=>by
  rw[List.countP_cons,List.countP_cons];have e:l.countP q<=l.countP p:=List.countP_mono_left λy _=>h y;rcases mc.1 b with rfl|b
  .rw[hp,hq];simp;omega
  .have:=ag0 h b hp hq;have f:=h a;cases d:q a<;>cases c:p a<;>simp_all<;>omega
def iu(hi:i<listed.size):(listed.setIfInBounds i true).getD j false=if j=i then true else listed.getD j false:=by
 rw[gc,gc,pm];by_cases e:i=j
 .subst e;simp[hi]
 .rw[be e,be (λx=>e x.symm)]
def avT(b:listed.size=8)(hi:i<8)(h:listed.getD i false=false):unW (listed.setIfInBounds i true)<unW listed:=by
 refine ag0 (x:=i) (λy a=> ?_) (ql.2 hi) (by rw[h];rfl) (by rw[iu (by omega)];simp);rw[iu (by omega)] at a;by_cases e:y=i
 .simp[e] at a
 .simpa[e] using a
def aBB(m:listed.size=8)(h:Region.ready .any aS listed=[]\/unW listed=0):∀i,i<8->listed.getD i false=true:=by
 rcases h with h|h
 .have a:∀i,i<8->jI (λj=>listed.getD j false) i=true->listed.getD i false=true:=λi b hd=>by
   cases e:listed.getD i false with
   |true=>rfl
   |false=>
    have:i∈Region.ready .any aS listed:=(afC m).2 ⟨b,e,hd⟩;rw[h] at this;cases this
  have g:=a 0 (by omega) rfl;have k:=a 1 (by omega) rfl;have c:=a 2 (by omega) rfl;have d:=a 3 (by omega) rfl;have f:=a 4 (by omega) rfl;have l:=a 5 (by omega) (by simp only[jI,c,d,f];rfl);have n:=a 6 (by omega) (by simp only[jI,g,k,c,d,f,l];rfl);have o:=a 7 (by omega) (by simp only[jI,g,k,c,d,f,l,n];rfl);intro i b;have:i=0\/i=1\/i=2\/i=3\/i=4\/i=5\/i=6\/i=7:=by omega
  rcases this with rfl|rfl|rfl|rfl|rfl|rfl|rfl|rfl<;>assumption
 .intro i b;have:=List.countP_eq_zero.1 h i (ql.2 b);simpa using this
def Wx.cap(X:Wx):Nat->Value
 |1=>.pointer (some ⟨X.bk,0,none⟩)
 |2=>.pointer (some ⟨X.bp,0,none⟩)
 |3=>.pointer (some ⟨X.bn,0,none⟩)
 |4=>.pointer (some ⟨X.ba,0,none⟩)
 |_=>.pointer (some ⟨X.bi,0,none⟩)
def Wx.val(X:Wx)(v:ByteArray×Bool):Nat->Value
 |0=>.slice (some ⟨X.C,0,none⟩) X.n2 X.n2
 |1=>.int .i64 X.κ
 |2=>.int .i64 X.key
 |3=>.slice X.A X.n X.c
 |4=>.int .i64 X.nm
 |5=>.agg #[.string v.1,.bool v.2]
 |_=>.pointer (some ⟨X.C,2*X.κ,none⟩)
abbrev FW(dd:Deferred)(T:Array Value)(k:List Item):Frame:=⟨nCl,T,k,[dd],.run,.deferred,none⟩
structure RI (X:Wx) (v:ByteArray×Bool) (listed:Array Bool) (T:Array Value) (S:aq) (w:World):Prop where
 sz:T.size=13
 cap:∀t,1<=t->t<=5->T.getD t undef=X.cap t
 done:∀j,j<7->listed.getD j false=true->T.getD (6+j) undef=X.val v j
 st:listed.getD 7 false=true->Has X.C (2*X.κ) (.string v.1) w/\Has X.C (2*X.κ+1) (.bool v.2) w
 ord:listed.getD 7 false=true->∀j,j<7->listed.getD j false=true
 inv:X.Inv S w
section
variable {P:Program} {m:Bool} {fr:Frame} {xs base:List Frame} {ops:Array Oper} {i:Nat} {rest:List Nat} {k:List Item} {o:Oper} {w w2:World} {es:Array Event} {v:Value}
def atp (f:fr.mode=.run) (g:(fr.kind ==.early)=false) (b:fr.roundOf=none) (e:fr.todo=.inRegion ops (i::rest)::k) (n:ops[i]?=some o) (q:o.guard=none)
  (p:(execOp fr.eval o).runT P w #[]=(.ok (.value v) w2,es)):stepG P m (Gl (fr::xs) base) w=.go (Gl (fr.finish v::xs) base) w2 (seen P fr.fn es):=by
 obtain⟨fn,a,j,d,t,c,s⟩:=fr;dsimp only at f g b e;subst f b e;have l:∀y,Region.wanted o y=true:=λy=>by unfold Region.wanted;rw[q]
 have r:stepG P m (Gl (⟨fn,a,.inRegion ops (i::rest)::k,d,.run,c,none⟩::xs) base) w =
   stepG.apply P true ⟨fn,a,.inRegion ops (i::rest)::k,d,.run,c,none⟩ (xs++base) none (execOp (Frame.eval ⟨fn,a,.inRegion ops (i::rest)::k,d,.run,c,none⟩) o) w:=by
  simp[Gl,stepG,stepG.exec,stepG.oper,Frame.oper?,n,l]
 rw[r];unfold stepG.apply;simp only[p,ph];simp[GStep.after,g,Gl]
def aki (f:fr.mode=.run) (g:(fr.kind ==.early)=false) (b:fr.roundOf=none) (e:fr.todo=.inRegion ops (i::rest)::k) (n:ops[i]?=some o) (q:o.guard=none)
  (p:(execOp fr.eval o).runT P w #[]=(.ok .skip w2,es)):stepG P m (Gl (fr::xs) base) w=.go (Gl (fr.finish undef::xs) base) w2 (seen P fr.fn es):=by
 obtain⟨fn,a,j,d,t,c,s⟩:=fr;dsimp only at f g b e;subst f b e;have l:∀y,Region.wanted o y=true:=λy=>by unfold Region.wanted;rw[q]
 have r:stepG P m (Gl (⟨fn,a,.inRegion ops (i::rest)::k,d,.run,c,none⟩::xs) base) w =
   stepG.apply P true ⟨fn,a,.inRegion ops (i::rest)::k,d,.run,c,none⟩ (xs++base) none (execOp (Frame.eval ⟨fn,a,.inRegion ops (i::rest)::k,d,.run,c,none⟩) o) w:=by
  simp[Gl,stepG,stepG.exec,stepG.oper,Frame.oper?,n,l]
 rw[r];unfold stepG.apply;simp only[p,ph];simp[GStep.after,g,Gl]
end
noncomputable def eX:Frame:={(default:Frame) with fn:=prog.funcs.size,defers:=[],mode:=.panicking [goexitEntry]}
section
variable {X:Wx} {v:ByteArray×Bool} {listed:Array Bool} {T T':Array Value} {S:aq} {w w1:World} {dd:Deferred} {k:List Item} {rest:List Nat}
def acj(h:Has X.C (2*X.κ) (.string v.1) w/\Has X.C (2*X.κ+1) (.bool v.2) w)(a:X.Rl S w w1):Has X.C (2*X.κ) (.string v.1) w1/\Has X.C (2*X.κ+1) (.bool v.2) w1:=
 ⟨(a.cell (2*X.κ) (by show 2*X.κ / 2=X.κ;omega)).trans h.1,(a.cell (2*X.κ+1) (by show(2*X.κ+1) / 2=X.κ;omega)).trans h.2⟩
def RI.rely(h:RI X v listed T S w)(a:X.Rl S w w1):RI X v listed T S w1:=⟨h.sz,h.cap,h.done,λe=>acj (h.st e) a,h.ord,h.inv.rely a⟩
def RI.put(h:RI X v listed T S w)(k:listed.size=8)(hi:i<7)(b:Tm [6+i] T T')(d:T'.getD (6+i) undef=X.val v i):RI X v (listed.setIfInBounds i true) T' S w:=by
 refine⟨b.size.trans h.sz,λt f g=>(b.same t (by simp;omega)).trans (h.cap t f g),λj c e=> ?_,λe=> ?_,λe j c=> ?_,h.inv⟩
 .by_cases a:j=i
  .subst a;exact d
  .rw[iu (by omega),be a] at e;exact(b.same (6+j) (by simp;omega)).trans (h.done j c e)
 .rw[iu (by omega),be (by omega)] at e;exact h.st e
 .rw[iu (by omega),be (by omega)] at e;rw[iu (by omega)];by_cases a:j=i
  .rw[dl a]
  .rw[be a];exact h.ord e j c
def atq(hi:X.Inv S w)(g:X.Ok)(c:X.R b):X.Gr S S w w (seen prog f #[⟨.cell ⟨b,0,none⟩,false,false⟩]):=by
 refine⟨λ_ _ _ _=>rfl,am _,rfl,id,λ_ _=>rfl,λ_ h=>h,λ_ h=>.inl h,λe i=> ?_⟩;have a:=sT i;simp only[sd,mc,rA,tQ] at a;subst a;refine⟨λx d=>.inr (.inr ?_),(λe=>by cases e),(λe=>by cases e),(λe=>by cases e), ?_⟩
 .simp[MemAct.ofEvent,MemAct.touch?] at d;rw[<-d];exact⟨c,rfl⟩
 .exact aE (g.rlt b c) hi.sz
def akj :X.Gr S S w w (seen prog f #[]):=
 ⟨λ_ _ _ _=>rfl,am _,rfl,id,λ_ _=>rfl,λ_ h=>h,λ_ h=>.inl h,λe a=>by cases(by simpa using sT a:False)⟩
def akk{x:Operand}{t:TypeId}{A:Addr}{u:Value}{dst:Option Tmp}{pos:String}(b:P.underlying t=some d)(a:aje d=true)(c:e x=.pointer (some A))(f:w.cell? A=some u) :
  (execOp e ⟨dst,.load t x,ty,pos,af,gd⟩).runT P w #[]=(.ok (.value u) w,#[⟨.cell A,false,false⟩]):=by
 cases d<;>first|(cases a;done)|simp[execOp,c,Instr.loadAt,Instr.sureAddr,loadVar,isAgg,lw b,f]
def ack (n:X.Ok) (h:RI X v listed T S w) {t ty : Nat}  (hi:i<5) (a:∃p,aS[i]?=some ⟨some (6+i),.load ty (.tmp t),ty,p,#[],none⟩) (q:prog.underlying ty=some d) (l:aje d=true)
  (c:T.getD t undef=.pointer (some ⟨b,0,none⟩)) (e:X.R b/\X.w0.cell? ⟨b,0,none⟩=some (X.val v i))
  (K:∀T' g,RI X v listed T S g->Tm [6+i] T T'->T'.getD (6+i) undef=X.val v i->bE prog false X.Rl X.Gr Stop S (Gl [FW dd T' (.inRegion aS rest::k)] [eX]) g) :
  bE prog false X.Rl X.Gr Stop S (Gl [FW dd T (.inRegion aS (i::rest)::k)] [eX]) w:=by
 obtain⟨p,a⟩:=a;refine .step rfl λw1 o=> ?_;have f:=h.rely o;refine⟨_,w1,_,S,atp (xs:=[]) (base:=[eX]) rfl rfl rfl rfl a rfl (akk q l (x:=.tmp t) (A:=⟨b,0,none⟩) c (f.inv.cell e.1 e.2)),atq f.inv n e.1, ?_⟩;have m:Frame.finish (FW dd T (.inRegion aS (i::rest)::k)) (X.val v i)=FW dd (T.setIfInBounds (6+i) (X.val v i)) (.inRegion aS rest::k):=by
  simp only[Frame.finish,a,qC]
 rw[m];have j:6+i<T.size:=by rw[h.sz];omega
 exact K _ w1 f (.one (by simp) λt c=>by rw[aF j,be c]) (by rw[aF j,dl rfl])
def atr(F:FaT P){x y:Operand}{dst:Option Tmp}{pos:String}(f:e x=.slice (some a) n c)(b:e y=.int .i64 j)(g:j<n) :
  (execOp e ⟨dst,.indexAddr 149 x y,ty,pos,af,gd⟩).runT P w #[]=(.ok (.value (.pointer (some (a.add (j*2))))) w,#[]):=by
 obtain⟨i,d,k, -⟩:=F.adF;simp[execOp,f,b,Instr.indexAt,asIntOf,lw F.ahJ,g,sizeOf,typeInfo,d,k]
def att (e:X.Ok) (h:RI X v listed T S w) (g:listed.getD 0 false=true) (l:listed.getD 1 false=true)
  (K:∀T' b,RI X v listed T S b->Tm [6+6] T T'->T'.getD (6+6) undef=X.val v 6->bE prog false X.Rl X.Gr Stop S (Gl [FW dd T' (.inRegion aS rest::k)] [eX]) b) :
  bE prog false X.Rl X.Gr Stop S (Gl [FW dd T (.inRegion aS (6::rest)::k)] [eX]) w:=by
 obtain⟨p,a⟩:=aBz;refine .step rfl λw1 f=> ?_;refine⟨_,w1,_,S,atp (xs:=[]) (base:=[eX]) rfl rfl rfl rfl a rfl (atr faT (x:=.tmp 6) (y:=.tmp 7) (h.done 0 (by omega) g) (h.done 1 (by omega) l) e.kn),akj, ?_⟩;have j:(⟨X.C,0,none⟩:Addr).add (X.κ*2)=⟨X.C,2*X.κ,none⟩:=by rw[iK,jt,tw]
 rw[j];have d:Frame.finish (FW dd T (.inRegion aS (6::rest)::k)) (X.val v 6)=FW dd (T.setIfInBounds 12 (X.val v 6)) (.inRegion aS rest::k):=by
  simp only[Frame.finish,a,qC]
 have c:12<T.size:=by rw[h.sz];omega
 have:=K (T.setIfInBounds 12 (X.val v 6)) w1 (h.rely f) (.one (by simp) λt i=>by rw[aF c,be i]) (by rw[aF c,dl rfl]);rw[<-d] at this;exact this
end
def aif{args:Array Value} :(callFunc 101 args).runT prog w #[]=(.ok (.enter 101 args) w,#[]):=by
 have a:=cH func101;have c:¬f101.name= "runtime.NumGoroutine" :=by simpa using a
 have b:¬f101.body=none:=λe=>by have:=afA;rw[e] at this;cases this
 unfold callFunc;simp[func101,c,b]
def akl {m:Bool} {base : List Frame}     {w2 : World}  {args:Array Value} (j:fr.mode=.run) (l:(fr.kind ==.early)=false) (b:fr.roundOf=none) (g:fr.todo=.inRegion U (i::rest)::k) (p:U[i]?=some o) (r:o.guard=none)
  (q:(execOp fr.eval o).runT P w #[]=(.ok (.enter f args) w2,es)):stepG P m (Gl (fr::xs) base) w=.go (Gl (Frame.enter P f args .normal::fr::xs) base) w2 (seen P fr.fn es):=by
 obtain⟨fn,a,e,d,u,c,t⟩:=fr;dsimp only at j l b g;subst j b g;have n:∀y,Region.wanted o y=true:=λy=>by unfold Region.wanted;rw[r]
 have s:stepG P m (Gl (⟨fn,a,.inRegion U (i::rest)::k,d,.run,c,none⟩::xs) base) w =
   stepG.apply P true ⟨fn,a,.inRegion U (i::rest)::k,d,.run,c,none⟩ (xs++base) none (execOp (Frame.eval ⟨fn,a,.inRegion U (i::rest)::k,d,.run,c,none⟩) o) w:=by
  simp[Gl,stepG,stepG.exec,stepG.oper,Frame.oper?,p,n]
 rw[s];unfold stepG.apply;simp only[q,ph];simp[GStep.after,l,Gl]
section
variable {X:Wx} {v:ByteArray×Bool} {listed:Array Bool} {T T':Array Value} {S:aq} {w w1:World} {dd:Deferred} {k:List Item} {rest:List Nat}
def avU(a:X.Ok)(q:eF Z)(j:∀d nm,Z d [] nm=(⟨#[]⟩,false))(hi:X.Inv S w){cfr:Frame} :
  bE prog false X.Rl X.Gr (λn g w1=>g=⟨cfr.finish (.agg #[.string (Z X.key X.l X.nm).1,.bool (Z X.key X.l X.nm).2]),[eX],.running,none,none⟩/\X.Inv n w1) S
   (Gl (Frame.enter prog 101 #[.int .i64 X.key,.slice X.A X.n X.c,.int .i64 X.nm] .normal::[]) [cfr,eX]) w:=by
 by_cases k:X.n=0
 .have l:X.l=[]:=by have:=a.hl;rw[k] at this;exact pi.1 this
  rw[l,j,k];exact Wx.lift a (avR X.mS) hi
 .have m:∀(A:Addr) (u:Value),X.w0.cell? A=some u->X.Rg A.block->plV (λb=>X.Rg b/\eD X.w0 b) u->w.cell? A=some u:=λA u o p _=>(fX (hi.r _ (a.rows _ p))).trans o;exact Wx.lift a (ate (Rg:=X.Rg) q (bd a.hN hi.sz) (λg i=>by
   obtain⟨c,t,z,e⟩:=a.gr g i;exact⟨a.gl g i,c,t,z,(hi.r g (a.rows g (a.gl g i))).trans e⟩) a.k1 a.k2 a.hl a.hc a.hcm (a.rd.mask a.rgp a.al m) (a.rgp.move a.al λb f=>hi.r b (a.rows b f)) a.al (by omega) a.nm X.mS (λb f=>a.rows b f.1)) hi
def atu (B:X.Ok) (x:eF Z) (a:∀b nm,Z b [] nm=(⟨#[]⟩,false)) (h:RI X (Z X.key X.l X.nm) listed T S w) (f:listed.getD 5 false=false) (n:listed.getD 2 false=true) (D:listed.getD 3 false=true) (q:listed.getD 4 false=true)
  (K:∀T' l d,RI X (Z X.key X.l X.nm) listed T l d->Tm [6+5] T T'->T'.getD (6+5) undef=X.val (Z X.key X.l X.nm) 5->bE prog false X.Rl X.Gr Stop l (Gl [FW dd T' (.inRegion aS rest::k)] [eX]) d) :
  bE prog false X.Rl X.Gr Stop S (Gl [FW dd T (.inRegion aS (5::rest)::k)] [eX]) w:=by
 obtain⟨p,j⟩:=aBy;refine .step rfl λw1 C=> ?_;have r:=h.rely C;have m:∀w,(execOp (Frame.eval (FW dd T (.inRegion aS (5::rest)::k))) ⟨some 11,.call ⟨.value (.func 101),#[.tmp 8,.tmp 9,.tmp 10],#[3,23,3]⟩,160,p,#[⟨2,.data⟩,⟨3,.data⟩,⟨4,.data⟩],none⟩).runT prog w #[]=(.ok (.enter 101 #[.int .i64 X.key,.slice X.A X.n X.c,.int .i64 X.nm]) w,#[]):=λw=>by
  have E:Array.map (Frame.eval (FW dd T (.inRegion aS (5::rest)::k))) #[.tmp 8,.tmp 9,.tmp 10]=#[.int .i64 X.key,.slice X.A X.n X.c,.int .i64 X.nm]:=by
   have G:T.getD 8 undef=.int .i64 X.key:=h.done 2 (by omega) n;have v:T.getD 9 undef=.slice X.A X.n X.c:=h.done 3 (by omega) D;have y:T.getD 10 undef=.int .i64 X.nm:=h.done 4 (by omega) q;rw[<-G,<-v,<-y];simp[Frame.eval]
  have F:execOp (Frame.eval (FW dd T (.inRegion aS (5::rest)::k))) ⟨some 11,.call ⟨.value (.func 101),#[.tmp 8,.tmp 9,.tmp 10],#[3,23,3]⟩,160,p,#[⟨2,.data⟩,⟨3,.data⟩,⟨4,.data⟩],none⟩=callFunc 101 #[.int .i64 X.key,.slice X.A X.n X.c,.int .i64 X.nm]:=by
   simp only[execOp,resolve];rw[E];simp[Deferred.ofValue,invoke,Frame.eval];try rfl
  exact(fk (λs=>Sem.runT prog s w #[]) F).trans aif
 refine⟨_,w1,_,S,akl (xs:=[]) (base:=[eX]) rfl rfl rfl rfl j rfl (m w1),akj, ?_⟩;refine bE.bind X.mS.fN X.mS.tr (avU B x a r.inv (cfr:=FW dd T (.inRegion aS (5::rest)::k))) λz g H ⟨hg,nD⟩=> ?_;subst hg;have i:11<T.size:=by rw[h.sz];omega
 have A:Frame.finish (FW dd T (.inRegion aS (5::rest)::k)) (X.val (Z X.key X.l X.nm) 5)=FW dd (T.setIfInBounds 11 (X.val (Z X.key X.l X.nm) 5)) (.inRegion aS rest::k):=by
  simp only[Frame.finish,j,qC]
 have u:listed.getD 7 false=false:=by
  cases e:listed.getD 7 false with
  |false=>rfl
  |true=>rw[h.ord e 5 (by omega)] at f;cases f
 have:=K (T.setIfInBounds 11 (X.val (Z X.key X.l X.nm) 5)) z H ⟨h.sz,h.cap,h.done,λe=>(by rw[u] at e;cases e),h.ord,nD⟩ (.one (by simp) λt o=>by rw[aF i,be o]) (by rw[aF i,dl rfl]);rw[<-A] at this;exact this
end
section
variable {X:Wx} {v:ByteArray×Bool} {listed:Array Bool} {T T':Array Value} {S:aq} {w w1:World} {dd:Deferred} {k:List Item} {rest:List Nat}
def aqb (B:X.Ok) (h:RI X v listed T S w) (M:listed.getD 5 false=true) (U:listed.getD 6 false=true)
  (K:∀s,X.Inv S s->(Has X.C (2*X.κ) (.string v.1) s/\Has X.C (2*X.κ+1) (.bool v.2) s)->bE prog false X.Rl X.Gr Stop S (Gl [FW dd T (.inRegion aS rest::k)] [eX]) s) :
  bE prog false X.Rl X.Gr Stop S (Gl [FW dd T (.inRegion aS (7::rest)::k)] [eX]) w:=by
 obtain⟨p,F⟩:=aBA;refine .step rfl λw1 Q=> ?_;have E:=h.rely Q;obtain⟨t,g,H⟩:=E.inv.pay;have g:w1.heap[X.C]?=some (.cells t 160 (0,0)):=g;have L:=B.kn;obtain⟨u0,C⟩:∃u,t[2*X.κ]?=some u:=⟨_,fm (by omega)⟩;obtain⟨u1,z⟩:∃u,t[2*X.κ+1]?=some u:=⟨_,fm (by omega)⟩;have D:(⟨X.C,2*X.κ,none⟩:Addr).add 1=⟨X.C,2*X.κ+1,none⟩:=iK _ _ _;have q:=agY faT (w:=w1) (e:=Frame.eval (FW dd T (.inRegion aS (7::rest)::k))) (x:=.tmp 12) (y:=.tmp 11) (dst:=none) (ty:=0) (pos:=p) (af:=#[⟨6,.data⟩,⟨5,.data⟩,⟨5,.chain⟩,⟨0,.phase⟩,⟨1,.phase⟩,⟨2,.phase⟩,⟨3,.phase⟩,⟨4,.phase⟩,⟨5,.phase⟩]) (gd:=none) (A:=⟨X.C,2*X.κ,none⟩) (u0:=.string v.1) (u1:=.bool v.2) rfl rfl
  (h.done 6 (by omega) U) (h.done 5 (by omega) M) ((eQ g).trans C) (ie g) (by rw[D];exact(eQ g).trans z) (by rw[D];exact ie g)
 rw[D] at q;have a:((w1.setCell ⟨X.C,2*X.κ,none⟩ (.string v.1)).setCell ⟨X.C,2*X.κ+1,none⟩ (.bool v.2)).heap[X.C]?=some (.cells ((t.setIfInBounds (2*X.κ) (.string v.1)).setIfInBounds (2*X.κ+1) (.bool v.2)) 160 (0,0)):=vz (vz g);have c:((w1.setCell ⟨X.C,2*X.κ,none⟩ (.string v.1)).setCell ⟨X.C,2*X.κ+1,none⟩ (.bool v.2)).heap.size=w1.heap.size:=by rw[dj,dj]
 have d:∀b,b≠X.C->((w1.setCell ⟨X.C,2*X.κ,none⟩ (.string v.1)).setCell ⟨X.C,2*X.κ+1,none⟩ (.bool v.2)).heap[b]?=w1.heap[b]?:=λb j=>by
  rw[aY _ _ _ (λe=>j e.symm),aY _ _ _ (λe=>j e.symm)]
 have n:((w1.setCell ⟨X.C,2*X.κ,none⟩ (.string v.1)).setCell ⟨X.C,2*X.κ+1,none⟩ (.bool v.2)).ou=w1.ou:=rfl;have l:=aki (m:=false) (xs:=[]) (base:=[eX]) (k:=k) (fr:=FW dd T (.inRegion aS (7::rest)::k)) rfl rfl rfl rfl F rfl q;generalize ((w1.setCell ⟨X.C,2*X.κ,none⟩ (.string v.1)).setCell ⟨X.C,2*X.κ+1,none⟩ (.bool v.2))=w2 at a c d n l;have O:Frame.finish (FW dd T (.inRegion aS (7::rest)::k)) undef=FW dd T (.inRegion aS rest::k):=by
  simp only[Frame.finish,F,qC]
 rw[O] at l;have f:=E.inv;have o:X.Inv S w2:=by
  refine⟨λb j=>(d b (λe=>B.rC (e▸j))).trans (f.r b j),f.s,by rw[c];exact f.c,by rw[c];exact f.wg,by rw[c];exact f.sz, ?_,⟨_,a,by simpa using H⟩,n.trans f.os⟩;obtain⟨R,sm,P⟩:=f.live;exact⟨R,sm,(d X.Wg (λe=>B.cW e.symm)).trans P⟩
 refine⟨_,w2,_,S,l,⟨λb _ _ j=>d b j,mt c.symm,n,λ_=>⟨_,a,by simpa using H⟩,λi I=> ?_,λ_ h=>h,λ_ h=>.inl h,λe V=> ?_⟩,K w2 o ⟨?_, ?_⟩⟩
 .have N:i≠2*X.κ:=λe=>I (by show i / 2=X.κ;omega);have W:i≠2*X.κ+1:=λe=>I (by show i / 2=X.κ;omega);rw[eQ a,eQ g,io (λe=>W e.symm),io (λe=>N e.symm)]
 .have G:=sT V;simp only[sd,mc,rA,tQ] at G;have J:X.C<w2.heap.size:=by rw[c];exact f.c
  rcases G with rfl|rfl
  .refine⟨λx r=>.inr (.inl ⟨⟨X.C,2*X.κ,none⟩, ?_,rfl, ?_⟩),(λe=>by cases e),(λe=>by cases e),(λe=>by cases e),J⟩
   .simp[MemAct.ofEvent,MemAct.touch?] at r;rw[<-r]
   .show 2*X.κ / 2=X.κ;omega
  .refine⟨λx r=>.inr (.inl ⟨⟨X.C,2*X.κ+1,none⟩, ?_,rfl, ?_⟩),(λe=>by cases e),(λe=>by cases e),(λe=>by cases e),J⟩
   .simp[MemAct.ofEvent,MemAct.touch?] at r;rw[<-r]
   .show(2*X.κ+1) / 2=X.κ;omega
 .show w2.cell? ⟨X.C,2*X.κ,none⟩=_;rw[eQ a,io (by omega),pY (by omega)]
 .show w2.cell? ⟨X.C,2*X.κ+1,none⟩=_;rw[eQ a,pY (by simp;omega)]
def axh(X:Wx)(v:ByteArray×Bool)(dd:Deferred)(k:List Item):aq->Goroutine->World->Prop:=λS g w=>∃T,g=Gl [FW dd T (.inRegion aS []::k)] [eX]/\T.size=13/\X.Inv S w/\Has X.C (2*X.κ) (.string v.1) w/\Has X.C (2*X.κ+1) (.bool v.2) w
def ag1(c:X.Ok){o:Int->List iw->Int->ByteArray×Bool}(B:eF o)(p:∀v nm,o v [] nm=(⟨#[]⟩,false)):∀(fuel t:Nat) (listed:Array Bool) (T:Array Value) (S:aq) (w:World),listed.size=8->unW listed<=fuel->RI X (o X.key X.l X.nm) listed T S w->
  bE prog false X.Rl X.Gr (axh X (o X.key X.l X.nm) dd k) S (Gl [FW dd T (.inRegion aS (Region.linearise.go .any aS fuel t listed [])::k)] [eX]) w
 |0,t,listed,T,S,w,d,hf,h=>by
  have l:=aBB d (.inr (by omega));exact .stop λw1 m=>⟨T,rfl,h.sz,h.inv.rely m,acj (h.st (l 7 (by omega))) m⟩
 |fuel+1,t,listed,T,S,w,d,hf,h=>by
  simp only[Region.linearise.go];change bE _ _ _ _ _ S (Gl [FW dd T (.inRegion aS (match(Region.ready .any aS listed)[t % (Region.ready .any aS listed).length]? with
   |some i=>Region.linearise.go .any aS fuel (t / (Region.ready .any aS listed).length) (listed.setIfInBounds i true) [i]
   |none=>[].reverse)::k)] [eX]) w
  cases A:(Region.ready .any aS listed)[t % (Region.ready .any aS listed).length]? with
  |none=>
   have q:Region.ready .any aS listed=[]:=by
    cases m:Region.ready .any aS listed with
    |nil=>rfl
    |cons x D=>
     rw[m] at A;have r:t % (x::D).length<(x::D).length:=ud _ (by simp);simp at A;simp at r;omega
   have l:=aBB d (.inl q);exact .stop λw1 m=>⟨T,rfl,h.sz,h.inv.rely m,acj (h.st (l 7 (by omega))) m⟩
  |some i=>
   simp only[];rw[linearise_go_acc,List.reverse_singleton,List.singleton_append];obtain⟨z,C,hd⟩:=(afC d).1 (da A);have F:=avT d z C;have s:(listed.setIfInBounds i true).size=8:=by simpa using d
   have next:∀T' n a,RI X (o X.key X.l X.nm) (listed.setIfInBounds i true) T' n a->bE prog false X.Rl X.Gr (axh X (o X.key X.l X.nm) dd k) n (Gl [FW dd T' (.inRegion aS (Region.linearise.go .any aS fuel (t / (Region.ready .any aS listed).length) (listed.setIfInBounds i true) [])::k)] [eX]) a:=
    λT' n a b=>ag1 c B p fuel _ _ T' n a s (by omega) b
   generalize Region.linearise.go .any aS fuel (t / (Region.ready .any aS listed).length) (listed.setIfInBounds i true) []=rest at next ⊢
   have:i=0\/i=1\/i=2\/i=3\/i=4\/i=5\/i=6\/i=7:=by omega
   rcases this with rfl|rfl|rfl|rfl|rfl|rfl|rfl|rfl
   .exact ack c h (by omega) aBt faT.ahJ rfl (h.cap 4 (by omega) (by omega)) c.ra λT' a b f g=>next T' S a (b.put d (by omega) f g)
   .exact ack c h (by omega) aBu faT.u3 rfl (h.cap 5 (by omega) (by omega)) c.ri λT' a b f g=>next T' S a (b.put d (by omega) f g)
   .exact ack c h (by omega) aBv faT.u3 rfl (h.cap 1 (by omega) (by omega)) c.rk λT' a b f g=>next T' S a (b.put d (by omega) f g)
   .exact ack c h (by omega) aBw faT.u23 rfl (h.cap 2 (by omega) (by omega)) c.rp λT' a b f g=>next T' S a (b.put d (by omega) f g)
   .exact ack c h (by omega) aBx faT.u3 rfl (h.cap 3 (by omega) (by omega)) c.rn λT' a b f g=>next T' S a (b.put d (by omega) f g)
   .simp only[jI,fd] at hd;exact atu c B p h C hd.1.1 hd.1.2 hd.2 λT' n a b f g=>next T' n a (b.put d (by omega) f g)
   .simp only[jI,fd] at hd;exact att c h hd.1.1.1.1.1 hd.1.1.1.1.2 λT' a b f g=>next T' S a (b.put d (by omega) f g)
   .simp only[jI,fd] at hd;refine aqb c h hd.1.1.1.1.1.2 hd.1.1.1.1.1.1 λa u y=>next T S a ⟨h.sz,h.cap,λj E e=> ?_,λ_=>y,λ_ j E=> ?_,u⟩
    .rw[iu (by omega),be (by omega)] at e;exact h.done j E e
    .rw[iu (by omega),be (by omega)];have:j=0\/j=1\/j=2\/j=3\/j=4\/j=5\/j=6:=by omega
     rcases this with rfl|rfl|rfl|rfl|rfl|rfl|rfl
     .exact hd.1.1.1.1.2
     .exact hd.1.1.1.2
     .exact hd.1.1.2
     .exact hd.1.2
     .exact hd.2
     .exact hd.1.1.1.1.1.2
     .exact hd.1.1.1.1.1.1
end
end
section
open Go.Conc Go.ConcN Go.RowKit Go.Conc.Lib Go.ConcR.Gen Go.ConcN.Gen
open Go.ConcR (KK wgBlock WgAt stA smA rd wr mk Payload DC0)
section
variable {X:Wx} {v:ByteArray×Bool} {T:Array Value} {S:aq} {w w1:World} {dd:Deferred} {k:List Item} {Stop:aq->Goroutine->World->Prop}
def acm {fr2 : Frame} {es:World->Array Event} {g:World->World} (hi:X.Inv S w) (p:∀w,X.Inv S w->stepG prog false (Gl [fr] [eX]) w=.go (Gl [fr2] [eX]) (g w) (es w)) (q:∀w,(g w).heap=w.heap/\(g w).ou=w.ou) (s:∀w,X.Inv S w->∀e∈es w,False)
  (K:∀k,X.Inv S k->bE prog false X.Rl X.Gr Stop S (Gl [fr2] [eX]) k):bE prog false X.Rl X.Gr Stop S (Gl [fr] [eX]) w:=by
 refine .step rfl λw1 n=> ?_;have d:=hi.rely n;obtain⟨c,l⟩:=q w1;have f:∀a,(g w1).cell? a=w1.cell? a:=λa=>by unfold World.cell?;rw[c]
 refine⟨_,g w1,_,S,p w1 d,⟨λb _ _ _=>by rw[c],mt (by rw[c]),l,λ⟨j,a,b⟩=>⟨j,by rw[c];exact a,b⟩,λi _=>f _,λ_ h=>h,λ_ h=>.inl h,λe h=>(s w1 d e h).elim⟩,K _ ⟨λb o=>by rw[c];exact d.r b o,d.s,by rw[c];exact d.c,by rw[c];exact d.wg,by rw[c];exact d.sz, ?_, ?_,l.trans d.os⟩⟩
 .obtain⟨r,sm,m⟩:=d.live;exact⟨r,sm,by unfold WgAt;rw[c];exact m⟩
 .obtain⟨j,a,b⟩:=d.pay;exact⟨j,by rw[c];exact a,b⟩
abbrev ddW(Wg:Nat):Deferred:=⟨.fn (.func eG.done) #[],#[.pointer (some ⟨Wg,0,none⟩)]⟩
def aDg:∃p,oA[0]?=some ⟨none,.defer ⟨.value (.func eG.done),#[.tmp 0],#[157]⟩,0,p,#[],none⟩:=⟨_,rfl⟩
def avV(T:Array Value):QuitsD prog 2 0 (G ⟨nCl,T,[],[],.returning,.deferred,none⟩ [eX]):=by
 refine QuitsD.ctl (g':=G eX []) rfl (λw=> ?_) ?_
 .have a:(results f99 T).runT prog w #[]=(.ok (.tuple #[]) w,#[]):=by
   have:f99.results=#[]:=rfl;simp[results,this]
  simp only[G,stepG,unwind,func99,a];simp[doReturn,GStep.after,seen,eX,goexitEntry]
 refine QuitsD.ctl (g':={G eX [] with status:=.finished}) rfl (λw=> ?_) ⟨rfl,rfl⟩;simp[G,stepG,unwind,eX,goexitEntry,Frame.catches];rfl
def ac0 {fr2 : Frame} {cs cs2:List Frame} (hi:X.Inv S w) (c:Has X.C (2*X.κ) (.string v.1) w/\Has X.C (2*X.κ+1) (.bool v.2) w) {es:World->Array Event} (f:∀w,stepG prog false (G fr cs) w=.go (G fr2 cs2) w (es w)) (d:∀w,∀e∈es w,False)
  (K:∀a,X.Inv S a->Has X.C (2*X.κ) (.string v.1) a/\Has X.C (2*X.κ+1) (.bool v.2) a->bE prog false X.Rl X.Gr Stop S (G fr2 cs2) a):bE prog false X.Rl X.Gr Stop S (G fr cs) w:=by
 refine .step rfl λw1 b=> ?_;exact⟨_,w1,_,S,f w1,⟨λ_ _ _ _=>rfl,am _,rfl,id,λ_ _=>rfl,λ_ h=>h,λ_ h=>.inl h,λe h=>(d w1 e h).elim⟩,K w1 (hi.rely b) (acj c b)⟩
def acn  :∀e∈seen P f #[],False:=λe h=>by simpa using sT h
def akm{args:Array Value} :(callFunc eG.done args).runT prog w #[]=(.ok (.enter eG.done args) w,#[]):=by
 have h:=aaI.f_done;have b:¬(doneFn eG).name= "runtime.NumGoroutine" :=by decide
 have a:¬(doneFn eG).body=none:=λe=>by cases e
 unfold callFunc;simp[h,b,a]
def ay9(r:X.Ok)(k:X.tWg=eG.tWg){val:Nat->Value}(q:val (2*X.κ)=.string v.1)(p:val (2*X.κ+1)=.bool v.2)(hi:X.Inv S w)(o:Has X.C (2*X.κ) (.string v.1) w/\Has X.C (2*X.κ+1) (.bool v.2) w) :
  bE prog false X.Rl X.Gr (ags prog X.tWg X.Wg X.C X.n2 val X.κ) S (G (FW (ddW X.Wg) T [.inRegion aS []]) [eX]) w:=by
 refine ac0 (fr2:=FW (ddW X.Wg) T []) (cs2:=[eX]) hi o (es:=λ_=>#[]) (λw=>by simp[G,stepG,stepG.exec]) (λ_ e h=>by simpa using h) λt m f=> ?_;refine ac0 (fr2:=⟨nCl,T,[],[ddW X.Wg],.returning,.deferred,none⟩) (cs2:=[eX]) m f (es:=λ_=>#[]) (λw=>by simp[G,stepG,stepG.exec]) (λ_ e h=>by simpa using h) λs g d=> ?_;have j:Frame.enter prog eG.done #[.pointer (some ⟨X.Wg,0,none⟩)] .deferred=(baseD eG.done).at ⟨#[.pointer (some ⟨X.Wg,0,none⟩),undef,undef,undef],[]⟩ [.code (body_done eG)]:=by
  unfold Frame.enter;rw[aaI.f_done];rfl
 refine ac0 (fr2:=(baseD eG.done).at ⟨#[.pointer (some ⟨X.Wg,0,none⟩),undef,undef,undef],[]⟩ [.code (body_done eG)]) (cs2:=[⟨nCl,T,[],[],.returning,.deferred,none⟩,eX]) g d (es:=λw=>seen prog nCl #[]) (λw=> ?_) (λ_=>acn) λl i b=> ?_
 .have a:(invoke (ddW X.Wg).target (ddW X.Wg).args).runT prog w #[]=(.ok (.enter eG.done #[.pointer (some ⟨X.Wg,0,none⟩)]) w,#[]):=akm;simp only[G,stepG,unwind,callDeferred,a,j];simp[GStep.after]
 .have:=aqa (κ:=X.κ) (n:=X.n2) (R:=X.R) (S:=S) (val:=val) (c:=⟨nCl,T,[],[],.returning,.deferred,none⟩) (cs:=[eX]) aaI rfl (avV T) l (k▸i.live) (by rw[q];exact b.1) (by rw[p];exact b.2);rw[<-k] at this;exact this
end
abbrev Wx.nV(X:Wx):Array Value:=#[.pointer (some ⟨X.Wg,0,none⟩),.pointer (some ⟨X.bk,0,none⟩),.pointer (some ⟨X.bp,0,none⟩),.pointer (some ⟨X.bn,0,none⟩),.pointer (some ⟨X.ba,0,none⟩),.pointer (some ⟨X.bi,0,none⟩)]
abbrev FD(T:Array Value)(k:List Item):Frame:=⟨nCl,T,k,[],.run,.deferred,none⟩
def avW{a:Array Value}:Frame.enter prog nCl a .deferred=FD (a++Array.replicate (13-a.size) undef) [.code aod]:=by
 unfold Frame.enter;rw[func99];rfl
def aza:prog.follows .mixedOrders=true:=by kernel_rfl
section
variable {X:Wx} {S:aq} {w:World}
def akn(ok:X.Ok)(hF:eF Z)(u:∀D nm,Z D [] nm=(⟨#[]⟩,false))(M:X.tWg=eG.tWg){val:Nat->Value}(v0:val (2*X.κ)=.string (Z X.key X.l X.nm).1)(P:val (2*X.κ+1)=.bool (Z X.key X.l X.nm).2)(hi:X.Inv S w) :
  bE prog false X.Rl X.Gr (ags prog X.tWg X.Wg X.C X.n2 val X.κ) S (G (Frame.enter prog nCl X.nV .deferred) [eX]) w:=by
 rw[avW];obtain⟨T,hT,Q,g0,z⟩:∃T:Array Value,T=X.nV++Array.replicate (13-X.nV.size) undef/\T.size=13/\T.getD 0 undef=.pointer (some ⟨X.Wg,0,none⟩)/\∀t,1<=t->t<=5->T.getD t undef=X.cap t:=by
  refine⟨_,rfl,by simp, ?_,λt K m=> ?_⟩
  .rw[gc,rN (by simp)];rfl
  .rw[gc,rN (by simp;omega)];have:t=1\/t=2\/t=3\/t=4\/t=5:=by omega
   rcases this with rfl|rfl|rfl|rfl|rfl<;>rfl
 rw[<-hT];rw[ato];refine acm (fr:=FD T [.code (.seq (.region 0 oA false) (.region 1 aS true))]) (fr2:=FD T [.code (.region 0 oA false),.code (.region 1 aS true)]) (g:=id) (es:=λ_=>#[]) hi (λw _=>by simp[Gl,stepG,stepG.exec]) (λ_=>⟨rfl,rfl⟩) (λ_ _ e h=>by simpa using h) λw1 K=> ?_;have A:List.range oA.size=[0]:=rfl;refine acm (fr2:=FD T [.inRegion oA [0],.code (.region 1 aS true)]) (g:=id) (es:=λ_=>#[]) K (λw _=>by simp[Gl,stepG,stepG.exec,A]) (λ_=>⟨rfl,rfl⟩) (λ_ _ e h=>by simpa using h) λw2 L=> ?_;obtain⟨p,I⟩:=aDg;refine acm (fr2:=FW (ddW X.Wg) T [.inRegion oA [],.code (.region 1 aS true)]) (g:=id) (es:=λ_=>seen prog nCl #[]) L (λw _=> ?_) (λ_=>⟨rfl,rfl⟩) (λ_ _=>acn) λw3 V=> ?_
 .have F:(execOp (Frame.eval (FD T [.inRegion oA [0],.code (.region 1 aS true)])) ⟨none,.defer ⟨.value (.func eG.done),#[.tmp 0],#[157]⟩,0,p,#[],none⟩).runT prog w #[]=(.ok (.defer (ddW X.Wg)) w,#[]):=by
   have hm:Array.map (Frame.eval (FD T [.inRegion oA [0],.code (.region 1 aS true)])) #[.tmp 0]=#[.pointer (some ⟨X.Wg,0,none⟩)]:=by
    rw[<-g0];simp[Frame.eval]
   simp only[execOp,resolve];rw[hm];simp[Deferred.ofValue,Frame.eval]
  have R:∀y,Region.wanted ⟨none,.defer ⟨.value (.func eG.done),#[.tmp 0],#[157]⟩,0,p,#[],none⟩ y=true:=λy=>rfl;have Y:stepG prog false (Gl [FD T [.inRegion oA [0],.code (.region 1 aS true)]] [eX]) w =
    stepG.apply prog true (FD T [.inRegion oA [0],.code (.region 1 aS true)]) [eX] none (execOp (Frame.eval (FD T [.inRegion oA [0],.code (.region 1 aS true)])) ⟨none,.defer ⟨.value (.func eG.done),#[.tmp 0],#[157]⟩,0,p,#[],none⟩) w:=by
   simp[Gl,stepG,stepG.exec,stepG.oper,Frame.oper?,I,R]
  rw[Y];unfold stepG.apply;simp only[F,ph];have C:(CallKind.deferred ==CallKind.early)=false:=rfl;simp[GStep.after,C,Gl,Frame.finish,I]
 refine acm (fr2:=FW (ddW X.Wg) T [.code (.region 1 aS true)]) (g:=id) (es:=λ_=>#[]) V (λw _=>by simp[Gl,stepG,stepG.exec]) (λ_=>⟨rfl,rfl⟩) (λ_ _ e h=>by simpa using h) λw4 O=> ?_;refine .step rfl λr s=> ?_;have m:=O.rely s;have B:∃(t:Nat) (f:World),f.heap=r.heap/\f.ou=r.ou/\stepG prog false (Gl [FW (ddW X.Wg) T [.code (.region 1 aS true)]] [eX]) r=.go (Gl [FW (ddW X.Wg) T [.inRegion aS (Region.linearise.go .any aS 8 t (Array.replicate 8 false) [])]] [eX]) f #[]:=by
  have v:∀t,Region.schedule (prog.follows .mixedOrders) aS t=Region.linearise.go .any aS 8 t (Array.replicate 8 false) []:=λt=>by
   simp only[Region.schedule,aza,Bool.true_or,ph,Region.linearise,aoe]
  simp only[Gl,stepG,stepG.exec,v,vh,kw,qB];cases d:(choose (.order nCl 1)).run prog r with
  |ok t f=>
   refine⟨t,f, ?_⟩;have:f.heap=r.heap/\f.ou=r.ou:=by
    unfold choose at d;rw[Sem.run] at d;split at d
    .cases d;exact⟨rfl,rfl⟩
    .cases d;exact⟨rfl,rfl⟩
   exact⟨this.1,this.2,rfl⟩
  |halt q f=>
   exfalso;unfold choose at d;rw[Sem.run] at d;split at d<;>cases d
 obtain⟨t,f,l,J,E⟩:=B;have o:∀a,f.cell? a=r.cell? a:=λa=>by unfold World.cell?;rw[l]
 have h6:X.Inv S f:=by
  refine⟨λb N=>by rw[l];exact m.r b N,m.s,by rw[l];exact m.c,by rw[l];exact m.wg,by rw[l];exact m.sz, ?_, ?_,J.trans m.os⟩
  .obtain⟨W,sm,U⟩:=m.live;exact⟨W,sm,by unfold WgAt;rw[l];exact U⟩
  .obtain⟨x,a,b⟩:=m.pay;exact⟨x,by rw[l];exact a,b⟩
 have n:∀j,(Array.replicate 8 false).getD j false=false:=λj=>by
  rw[gc,tW];split<;>rfl
 refine⟨_,f,_,S,E,⟨λb _ _ _=>by rw[l],mt (by rw[l]),J,λ⟨x,a,b⟩=>⟨x,by rw[l];exact a,b⟩,λi _=>o _,λ_ h=>h,λ_ h=>.inl h,λe h=>by simp at h⟩, ?_⟩;have H:=ag1 (dd:=ddW X.Wg) (k:=[]) ok hF u 8 t (Array.replicate 8 false) T S f (by simp) (List.countP_le_length) ⟨Q,z,λj _ e=>(by rw[n] at e;cases e),λe=>(by rw[n] at e;cases e),λe=>(by rw[n] at e;cases e),h6⟩;refine bE.bind X.mS.fN X.mS.tr H λS2 g w7 ⟨T2,hg,_,hi7,hv0,hv1⟩=> ?_;subst hg;exact ay9 ok M v0 P hi7 ⟨hv0,hv1⟩
def aqc{args:Array Value} :(callFunc nCl args).runT prog w #[]=(.ok (.enter nCl args) w,#[]):=by
 have a:=cH func99;have c:¬f99.name= "runtime.NumGoroutine" :=by simpa using a
 have b:¬f99.body=none:=λe=>by cases e
 unfold callFunc;simp[func99,c,b]
def ako(i:X.Ok)(n:eF Z)(g:∀d nm,Z d [] nm=(⟨#[]⟩,false))(k:X.tWg=eG.tWg){val:Nat->Value}(m:val (2*X.κ)=.string (Z X.key X.l X.nm).1)(l:val (2*X.κ+1)=.bool (Z X.key X.l X.nm).2)(hi:X.Inv S w) :
  bE prog false X.Rl X.Gr (ags prog X.tWg X.Wg X.C X.n2 val X.κ) S (born prog ⟨.fn (.func nCl) X.nV,#[]⟩) w:=by
 refine .step rfl λa j=> ?_;have b:(invoke (Target.fn (.func nCl) X.nV) #[]).runT prog a #[]=(.ok (.enter nCl X.nV) a,#[]):=aqc;have f:stepG prog false (born prog ⟨.fn (.func nCl) X.nV,#[]⟩) a=.go (G (Frame.enter prog nCl X.nV .deferred) [eX]) a (seen prog prog.funcs.size #[]):=by
  simp only[born,stepG,unwind,callDeferred,b];simp[GStep.after,G,eX]
 exact⟨_,a,_,S,f,⟨λ_ _ _ _=>rfl,am _,rfl,id,λ_ _=>rfl,λ_ h=>h,λ_ h=>.inl h,λe h=>(acn e h).elim⟩,akn i n g k m l (hi.rely j)⟩
end
section
variable {P:Program} {R:World->World->Prop} {Q:World->Prop} {St:Goroutine->World->Prop}
def eR{main:Bool}(c:∀w d,Q w->R w d->Q d) :
  ∀{n:Nat} {g:Goroutine} {w:World},Q w->Goes P main R DC0 St n g w->Goes P main R DC0 (λg w=>St g w/\Q w) n g w
 |0,_,_,hq,h=>λa b=>⟨h a b,c _ _ hq b⟩
 |n+1,g,w,hq,h=>by
  rcases h with h|⟨f,h⟩
  .exact .inl λa b=>⟨h a b,c _ _ hq b⟩
  .refine .inr ⟨f,λa b=> ?_⟩;have:=h a b;cases e:stepG P main g a with
   |go k i j=>
    rw[e,tp] at this;rw[tp];exact⟨this.1,eR c (this.1.1▸c _ _ hq b) this.2⟩
   |_=>rw[e] at this;exact this.elim
def fj{main:Bool}(a:∀g w,St g w->T g w)(h:Goes P main R DC0 St n g w):Goes P main R DC0 T n g w:=nU (λ_ _ _ x=>x) a h
def jJ(c:∀w a,Q w->R w a->Q a){e:Mark}{m:Nat}(b:Q w)(h:oF P R e m St g w):oF P R e m (λg w=>St g w/\Q w) g w:=
 ⟨h.1,let⟨f,d,k⟩:=h.2;⟨f,d,eR c b k⟩⟩
def aco(b:∀g w,St g w->T g w){e:Mark}{m:Nat}(h:oF P R e m St g w):oF P R e m T g w:=
 ⟨h.1,let⟨c,a,k⟩:=h.2;⟨c,a,fj b k⟩⟩
def aqd{Wg:Nat}(a:∀w d,Q w->R w d->Q d)(k:∀w v i,Q w->WgAt ty Wg w v 0->Q (w.setCell (stA Wg) (.int .u64 i)))(l:Q w)(h:akg P R ty Wg St g w):akg P R ty Wg (λg w=>St g w/\Q w) g w:=
 ⟨h.1,λv m c=>by
  obtain⟨p,e,n,f⟩:=h.2 v m c;have b:=k w _ ((v+1)*KK) l c;exact⟨p,e,λj=>fj (λg w x=>aco (λg w x=>jJ a x.2 x.1) (jJ a x.2 x.1)) (eR a b (n j)),λo=>fj (λg w x=>jJ a x.2 x.1) (eR a b (f o))⟩⟩
end
section
variable [Payload] {P:Program} {L:WgLink} {Wg C n:Nat} {R S:aq}
 {b₀:Frame} {a₀:Act} {ops₀:Array Oper} {i₀:Nat} {rest₀:List Nat} {k₀:List Item} {cs:List Frame}
def azd{w' : World}(h:DC0 w w' es):Gua Wg C n R aT S S w w' es:=by
 obtain⟨rfl,rfl⟩:=h;exact⟨λ_ _ _ _=>rfl,am _,rfl,id,λ_ _=>rfl,λ_ h=>h,λ_ h=>.inl h,by simp⟩
omit [Payload] in
def aqe:(#[.pointer (some ⟨Wg,0,none⟩),.int .i64 1]:Array Value)++(List.replicate 115 undef).toArray=#[.pointer (some ⟨Wg,0,none⟩),.int .i64 1,undef,undef,undef,undef,undef,undef,undef,undef,undef,undef,undef,undef,undef,undef,undef,undef,undef,undef,undef,undef,undef,undef,undef,undef,undef,undef,undef,undef,undef,undef,undef,undef,undef,undef,undef,undef,undef,undef,undef,undef,undef,undef,undef,undef,undef,undef,undef,undef,undef,undef,undef,undef,undef,undef,undef,undef,undef,undef,undef,undef,undef,undef,undef,undef,undef,undef,undef,undef,undef,undef,undef,undef,undef,undef,undef,undef,undef,undef,undef,undef,undef,undef,undef,undef,undef,undef,undef,undef,undef,undef,undef,undef,undef,undef,undef,undef,undef,undef,undef,undef,undef,undef,undef,undef,undef,undef,undef,undef,undef,undef,undef,undef,undef,undef,undef]:=by
 simp[List.replicate]
def aqf (H:WgLib P L) {val:Nat->Value} {d:aq->Goroutine->World->Prop} {Q:World->Prop} (e:∀w i,Q w->RM L.tWg Wg C n R S w i->Q i) (q:∀w v l,Q w->WgAt L.tWg Wg w v 0->Q (w.setCell (stA Wg) (.int .u64 l)))
  (s:∀w,WgLive L.tWg Wg w->Q w->bE P true (jC L.tWg Wg C (2*n) R noC) (Gua Wg C (2*n) R noC) (MGo P L.tWg Wg C n val j d R) S (G (b₀.at (a₀.put ((ops₀[i₀]?).bind (·.dst)) (.tuple #[])) (.inRegion ops₀ rest₀::k₀)) cs) w)
  (w:World) (u:WgLive L.tWg Wg w) (f:Q w) :
  bE P true (jC L.tWg Wg C (2*n) R noC) (Gua Wg C (2*n) R noC) (λS g w=>arx P L.tWg Wg C n val j d R S g w) S
   (G ((base L.add).at ⟨#[.pointer (some ⟨Wg,0,none⟩),.int .i64 1]++(List.replicate 115 undef).toArray,[]⟩ [.code (body_add L)]) (b₀.at a₀ (.inRegion ops₀ (i₀::rest₀)::k₀)::cs)) w:=by
 rw[aqe];have t:=atk (b₀:=b₀) (a₀:=a₀) (ops₀:=ops₀) (i₀:=i₀) (rest₀:=rest₀) (k₀:=k₀) (cs:=cs) (R:=RM L.tWg Wg C n R S) (S:=λg w=>g=G (b₀.at (a₀.put ((ops₀[i₀]?).bind (·.dst)) (.tuple #[])) (.inRegion ops₀ rest₀::k₀)) cs/\WgLive L.tWg Wg w) H (λ_ _ h r=>r.live h) (λ_ h=>⟨rfl,h⟩) w u;have m:=fj (λg w x=>aco (λg w x=>aqd e q x.2 x.1) (jJ e x.2 x.1)) (eR (Q:=Q) e f t);refine bE.abN (R:=RM L.tWg Wg C n R S) (λ_ _ h=>h) (λ_ _ _ h=>azd h) (λ_ _ h=>ay7 (λg w p=> ?_) h) m;refine bE.bind (λS w=>jC.refl R noC S w) (λS a b c=>jC.trans) (bE.abN (S:=S) (R:=RM L.tWg Wg C n R S) (Stop:=λk g w=>k=S/\(g=G (b₀.at (a₀.put ((ops₀[i₀]?).bind (·.dst)) (.tuple #[])) (.inRegion ops₀ rest₀::k₀)) cs/\WgLive L.tWg Wg w)/\Q w) (λ_ _ h=>h) (λ_ _ _ h=>azd h) (λ_ _ h=>⟨rfl,h⟩) p) ?_;rintro k g w ⟨rfl,⟨rfl,o⟩,f⟩;exact s w o f
end
end
section
open Go.Conc Go.ConcN Go.RowKit
open Go.ConcR (KK wgBlock WgAt stA smA rd wr mk Payload DC0)
noncomputable def acp:Code:=f64.body.getD .skip
noncomputable def ag2:Array Oper:=uu (lr acp)
noncomputable def ads:Array Oper:=uu (lr (bZ acp))
noncomputable def oB:Array Oper:=uu (lr (bZ (bZ acp)))
noncomputable def axi:Code:=lr (bZ (bZ (bZ acp)))
noncomputable def ag3:Array Oper:=uu (lr axi)
def aze:Code->Code
 |.block _ (.loop c)=>c
 |c=>c
def avX:Code->Code
 |.block _ c=>c
 |c=>c
noncomputable def jh:Code:=aze (bZ axi)
noncomputable def atv:Array Oper:=uu (lr jh)
noncomputable def amL:Code:=avX (lr (bZ (bZ jh)))
noncomputable def acr:Array Oper:=uu (lr amL)
noncomputable def aaK:Array Oper:=uu (lr (bZ amL))
noncomputable def lZ:Array Oper:=uu (bZ (bZ amL))
noncomputable def akp:Array Oper:=uu (bZ (bZ (bZ jh)))
noncomputable def jK:Array Oper:=uu (lr (bZ (bZ (bZ (bZ acp)))))
def atw:acp=.seq (.region 0 ag2 false) (.seq (.region 1 ads false) (.seq (.region 2 oB false) (.seq (.seq (.region 3 ag3 false) (.block 0 (.loop jh))) (.seq (.region 9 jK false) cM)))):=rfl
def ag4:jh=.seq (.region 4 atv false) (.seq (.cond (.tmp 21) .skip (.exit 0)) (.seq (.block 1 (.seq (.region 5 acr false) (.seq (.region 6 aaK false) (.region 7 lZ false)))) (.region 8 akp false))):=rfl
def aDi:∃p a,ag2[0]?=some ⟨some 3,.box 3 (.tmp 0),0,p,a,none⟩:=⟨_,_,rfl⟩
def aDj:∃p a,ag2[1]?=some ⟨some 4,.box 23 (.tmp 1),0,p,a,none⟩:=⟨_,_,rfl⟩
def aDk:∃p a,ag2[2]?=some ⟨some 6,.assign (.const (.slice none 0 0)),74,p,a,none⟩:=⟨_,_,rfl⟩
def aDl:∃p a,ag2[3]?=some ⟨some 7,.assign (.const (.bool false)),4,p,a,none⟩:=⟨_,_,rfl⟩
def aDm:∃p a,ads[0]?=some ⟨some 15,.move (.tmp 2),30,p,a,none⟩:=⟨_,_,rfl⟩
def aDn:∃p a,ads[1]?=some ⟨some 16,.call ⟨.builtin .len,#[.tmp 15],#[30]⟩,3,p,a,none⟩:=⟨_,_,rfl⟩
def aDo:∃p a,ads[2]?=some ⟨some 17,.makeSlice 149 (.tmp 16) (.tmp 16),149,p,a,none⟩:=⟨_,_,rfl⟩
def aDp:∃p a,ads[3]?=some ⟨some 8,.alloc 149,0,p,a,none⟩:=⟨_,_,rfl⟩
def aDq:∃p a,ads[4]?=some ⟨none,.store 149 (.tmp 8) (.tmp 17),0,p,a,none⟩:=⟨_,_,rfl⟩
def aDr:∃p a,oB[0]?=some ⟨some 9,.alloc eG.tWg,0,p,a,none⟩:=⟨_,_,rfl⟩
def aDs:∃p a,ag3[0]?=some ⟨some 18,.move (.tmp 2),30,p,a,none⟩:=⟨_,_,rfl⟩
def aDt:∃p a,ag3[1]?=some ⟨some 19,.call ⟨.builtin .len,#[.tmp 18],#[30]⟩,3,p,a,none⟩:=⟨_,_,rfl⟩
def aDu:∃p a,ag3[2]?=some ⟨some 20,.move (.const (.int .i64 0)),3,p,a,none⟩:=⟨_,_,rfl⟩
def aDv:∃p a,atv[0]?=some ⟨some 21,.binOp .lss 3 (.tmp 20) (.tmp 19) 3,0,p,a,none⟩:=⟨_,_,rfl⟩
def aDw:∃p a,acr[0]?=some ⟨some 22,.move (.tmp 20),3,p,a,none⟩:=⟨_,_,rfl⟩
def aDx:∃p a,acr[1]?=some ⟨some 23,.indexAddr 30 (.tmp 18) (.tmp 20),0,p,a,none⟩:=⟨_,_,rfl⟩
def aDy:∃p a,acr[2]?=some ⟨some 24,.load 3 (.tmp 23),3,p,a,none⟩:=⟨_,_,rfl⟩
def aDz:∃p a,acr[3]?=some ⟨some 10,.alloc 3,0,p,a,none⟩:=⟨_,_,rfl⟩
def aDA:∃p a,acr[4]?=some ⟨some 11,.alloc 3,0,p,a,none⟩:=⟨_,_,rfl⟩
def aDB:∃p a,acr[5]?=some ⟨none,.store 3 (.tmp 10) (.tmp 22),0,p,a,none⟩:=⟨_,_,rfl⟩
def aDC:∃p a,acr[6]?=some ⟨none,.store 3 (.tmp 11) (.tmp 24),0,p,a,none⟩:=⟨_,_,rfl⟩
def aBD:∃p a,aaK[0]?=some ⟨some 25,.call ⟨.value (.func eG.add),#[.tmp 9,.const (.int .i64 1)],#[eG.tWg,3]⟩,0,p,a,none⟩:=⟨_,_,rfl⟩
def aDD:∃p a,lZ[0]?=some ⟨some 26,.makeFunc (.func nCl) #[] #[.tmp 9,.tmp 3,.tmp 4,.tmp 11,.tmp 8,.tmp 10],1,p,a,none⟩:=⟨_,_,rfl⟩
def aDE:∃p a,lZ[1]?=some ⟨none,.go ⟨.value (.tmp 26),#[],#[]⟩,0,p,a,none⟩:=⟨_,_,rfl⟩
def aDF:∃p a,akp[0]?=some ⟨some 27,.binOp .add 3 (.tmp 20) (.const (.int .i64 1)) 3,3,p,a,none⟩:=⟨_,_,rfl⟩
def aDG:∃p a,akp[1]?=some ⟨some 20,.move (.tmp 27),3,p,a,none⟩:=⟨_,_,rfl⟩
def aBE:∃p a,jK[0]?=some ⟨some 28,.call ⟨.value (.func eG.wait),#[.tmp 9],#[eG.tWg]⟩,0,p,a,none⟩:=⟨_,_,rfl⟩
def wF  :seen P f #[]=#[]:=by
 rw[Array.eq_empty_iff_size_eq_zero];rcases h:(seen P f #[]).size with _|n
 .rfl
 .exact(acn _ (Array.getElem_mem (xs:=seen P f #[]) (i:=0) (by omega))).elim
def avY{T:Array Value}{base : List Frame}(h:T.getD 26 undef=.func (.func nCl) #[] X) :
  stepG prog true (Gl (FQ cB T (.inRegion lZ [1]::k)::xs) base) w=.spawn (Gl (FQ cB T (.inRegion lZ []::k)::xs) base) (born prog ⟨.fn (.func nCl) X,#[]⟩) w #[]:=by
 obtain⟨p,a,e⟩:=aDE;have b:(execOp (Frame.eval (FQ cB T (.inRegion lZ [1]::k))) ⟨none,.go ⟨.value (.tmp 26),#[],#[]⟩,0,p,a,none⟩).runT prog w #[]=(.ok (.spawn ⟨.fn (.func nCl) X,#[]⟩) w,#[]):=by
  have i:Frame.eval (FQ cB T (.inRegion lZ [1]::k)) (.tmp 26)=.func (.func nCl) #[] X:=h;simp only[execOp,resolve,i];simp[Deferred.ofValue]
 have f:∀y,Region.wanted ⟨none,.go ⟨.value (.tmp 26),#[],#[]⟩,0,p,a,none⟩ y=true:=λy=>rfl;have g:stepG prog true (Gl (FQ cB T (.inRegion lZ [1]::k)::xs) base) w =
   stepG.apply prog true (FQ cB T (.inRegion lZ [1]::k)) (xs++base) none (execOp (Frame.eval (FQ cB T (.inRegion lZ [1]::k))) ⟨none,.go ⟨.value (.tmp 26),#[],#[]⟩,0,p,a,none⟩) w:=by
  simp[Gl,stepG,stepG.exec,stepG.oper,Frame.oper?,e,f]
 rw[g];unfold stepG.apply;simp only[b,ph];have d:(CallKind.normal ==CallKind.early)=false:=rfl;simp[GStep.after,d,Gl,Frame.finish,e,born,wF]
section
variable {P:Program} {w:World} {e:Operand->Value} {x y:Operand} {v:Value} {dst:Option Tmp} {t ty:TypeId} {pos:String} {af:Array Edge} {gd:Option (Nat×Bool)}
def atx(h:e x=v)(a:v.cells=#[v]):(execOp e ⟨dst,.box t x,ty,pos,af,gd⟩).runT P w #[]=(.ok (.value (.pointer (some ⟨w.heap.size,0,none⟩))) (w.alloc (.cells #[v] t)),#[]):=by
 simp[execOp,Instr.box,newVar,newRow,h,a]
def ag5(h:e x=v):(execOp e ⟨dst,.assign x,ty,pos,af,gd⟩).runT P w #[]=(.ok (.value v) w,#[]):=by
 simp[execOp,h]
def aaj{i:TypeInfo}(hi:P.info? t=some i)(a:i.zero=some v):(execOp e ⟨dst,.alloc t,ty,pos,af,gd⟩).runT P w #[]=(.ok (.value (.pointer (some ⟨w.heap.size,0,none⟩))) (w.alloc (.cells v.cells t)),#[]):=by
 simp[execOp,Instr.alloc,zeroValue,typeInfo,hi,a,newVar,newRow]
def ag6{i:TypeInfo}{A:Addr}{u:Value}(hi:P.info? t=some i)(n:i.size=1)(k:alB v=true)(a:v.cells=#[v])(m:e x=.pointer (some A))(j:e y=v)(l:w.cell? A=some u)(d:w.frozen? A=false) :
  (execOp e ⟨dst,.store t x y,ty,pos,af,gd⟩).runT P w #[]=(.ok .skip (w.setCell A v),#[⟨.cell A,true,false⟩]):=by
 have b:(storeCells A [v] 0).runT P w #[]=(.ok () (w.setCell A v),#[⟨.cell A,true,false⟩]):=by
  show(Sem.store .plain (A.add 0) v (Sem.pure ())).runT P w #[]=_;have f:A.add 0=A:=by unfold Addr.add;simp
  rw[f,abj k l d];rfl
 have c:(storeCells A [v] 0).run P w=.ok () (w.setCell A v):=by
  rw[<-rh _ _ _ #[]];exact fk Prod.fst b
 have g:(storeCells A [v] 0).events P w #[]=#[⟨.cell A,true,false⟩]:=fk Prod.snd b;simp[execOp,m,j,Instr.storeAt,Instr.sureAddr,storeVar,sizeOf,typeInfo,hi,n,a,c,g]
def akq(F:FaT P){s:Tmp}(h:e (.tmp s)=.slice A n c):(execOp e ⟨dst,.call ⟨.builtin .len,#[.tmp s],#[30]⟩,ty,pos,af,gd⟩).runT P w #[]=(.ok (.value (.int .i64 n)) w,#[]):=by
 rw[pz (s:=λv=>Builtin.len_ #[30] ty #[v]) λ_ v=>rfl,h];change Sem.runT P (Builtin.len_ #[30] ty #[.slice A n c] >>=λu=>pure (Next.value u)) w #[]=_;simp[Builtin.len_,lw F.u31,goInt]
def akr{fn:Fn}{a:Array Operand}(h:a.map e=X):(execOp e ⟨dst,.makeFunc fn #[] a,ty,pos,af,gd⟩).runT P w #[]=(.ok (.value (.func fn #[] X)) w,#[]):=by
 simp[execOp,Instr.makeFunc,h]
def avZ(F:FaT P)(m:(n:Int)<=2147483647)(b:e x=.int .i64 n):∃c:Array Value,c.size=2*n/\(execOp e ⟨dst,.makeSlice 149 x x,ty,pos,af,gd⟩).runT P w #[]=(.ok (.value (.slice (some ⟨w.heap.size,0,none⟩) n n)) (w.alloc (.cells c 160)),#[]):=by
 obtain⟨c,k,g⟩:=anM F (w:=w) (dst:=dst) (ty:=ty) (pos:=pos) (af:=af) (gd:=gd) m b;refine⟨c,k,Prod.ext ((rh _ _ _ _).trans g) ?_⟩;obtain⟨i,l,o,a,f⟩:=F.adF;have d:=events_make w 149 160 i _ F.ahJ l f .i64 .i64 n n (by omega) (ur _) (by rw[a];omega) (by omega) (by rw[a];omega) #[];show(execOp e ⟨dst,.makeSlice 149 x x,ty,pos,af,gd⟩).events P w #[]=#[];have j:execOp e ⟨dst,.makeSlice 149 x x,ty,pos,af,gd⟩=(Instr.makeSlice 149 (e x) (e x)).bind λv=>Sem.pure (.value v):=rfl;rw[j,b,Sem.events_bind',d];cases(Instr.makeSlice 149 (.int .i64 n) (.int .i64 n)).run P w<;>rfl
def av0{a:Int}{y:Operand}(d:e x=.int .i64 a)(c:e y=.int .i64 1)(g:0<=a)(f:a<2147483647):(execOp e ⟨dst,.binOp .add 3 x y 3,ty,pos,af,gd⟩).runT P w #[]=(.ok (.value (.int .i64 (a+1))) w,#[]):=by
 have:execOp e ⟨dst,.binOp .add 3 x y 3,ty,pos,af,gd⟩=(binOp .add 3 (e x) (e y)).bind λv=>Sem.pure (.value v):=rfl;rw[this,d,c];have b:IntKind.i64.wrap (a+1)=a+1:=by rw[uF];omega
 show(Result.ok (Next.value (.int .i64 (IntKind.i64.wrap (a+1)))) w,#[])=_;rw[b]
end
end
section
open Go.Conc Go.ConcN Go.RowKit
section
variable {Rl:aq->World->World->Prop} {St:aq->Goroutine->World->Prop} {S Rr:aq} {w0:World} {T:Array Value} {k:List Item} {xs base:List Frame}
structure Kp (S Rr:aq) (w0:World) (S':aq) (w':World):Prop where
 keep:∀b,b<w0.heap.size->S b\/Rr b->w'.heap[b]?=w0.heap[b]?
 size:w0.heap.size<=w'.heap.size
 os:w'.ou=w0.ou
 mono:∀b,S b->S' b
 new:∀b,S' b->S b\/(w0.heap.size<=b/\b<w'.heap.size)
def Kp.rl(H:pO Rl Rr)(h:Rl S w0 V):Kp S Rr w0 S V:=let⟨a,b,c⟩:=H.rl _ _ _ h;⟨λx _ d=>a x d,b,c,λ_ h=>h,λ_ h=>.inl h⟩
def Kp.alloc(S Rr:aq)(w:World)(ob:Obj):Kp S Rr w (SN S w (w.alloc ob)) (w.alloc ob):=
 ⟨λb a _=>se w _ b a,by rw[mu];omega,rfl,λ_ h=>.inl h,λ_ h=>h⟩
def Kp.trans{w2 : World}(a:Kp S Rr w0 R V)(b:Kp R Rr V aT w2):Kp S Rr w0 aT w2:=
 ⟨λx c h=>(b.keep x (aE c a.size) (h.imp (a.mono x) id)).trans (a.keep x c h),bd a.size b.size,b.os.trans a.os,λx h=>b.mono x (a.mono x h),λx h=>(b.new x h).elim (λh=>(a.new x h).imp id λh=>⟨h.1,aE h.2 b.size⟩) λh=>.inr ⟨bd a.size h.1,h.2⟩⟩
def kD(w:World)(ob:Obj):(w.alloc ob).heap[w.heap.size]?=some ob:=by
 show(w.heap.push _)[_]?=_;rw[qM]
def lu(S:aq)(w:World)(ob:Obj):SN S w (w.alloc ob) w.heap.size:=.inr ⟨am _,by rw[mu];omega⟩
def av1 (H:pO Rl Rr) (hZ:45<=Y) (hz:T.size=Y)   (N:T.getD 0 undef=.int .i64 key) (P:T.getD 1 undef=.slice A n c)
  (K:∀(T':Array Value) (i:aq) (e:World) (f g:Nat),T'.size=Y->(∀t,t≠3->t≠4->t≠6->t≠7->T'.getD t undef=T.getD t undef)->T'.getD 3 undef=.pointer (some ⟨f,0,none⟩)->T'.getD 4 undef=.pointer (some ⟨g,0,none⟩)->
   T'.getD 6 undef=.slice none 0 0->T'.getD 7 undef=.bool false->Kp S Rr w0 i e->i f->i g->w0.heap.size<=f->f<g->e.heap[f]?=some (.cells #[.int .i64 key] 3)->e.heap[g]?=some (.cells #[.slice A n c] 23)->bE prog true Rl (pN Rr) St i (Gl (FQ cB T' k::xs) base) e) :
  bE prog true Rl (pN Rr) St S (Gl (FQ cB T (.inRegion ag2 [0,1,2,3]::k)::xs) base) w0:=by
 obtain⟨p0,a0,y⟩:=aDi;obtain⟨p1,a1,G⟩:=aDj;obtain⟨X,a2,D⟩:=aDk;obtain⟨W,a3,V⟩:=aDl;refine mR H (d:=3) (ob:=.cells #[.int .i64 key] 3) (by show(3:Nat)<_;omega) y rfl rfl (λw=>atx (x:=.tmp 0) N rfl) (λa I T1 z1 B s=> ?_) w0 (H.fN _ _);refine mR H (d:=4) (ob:=.cells #[.slice A n c] 23) (by show(4:Nat)<_;omega) G rfl rfl (λw=>atx (x:=.tmp 1) ((s 1 (by decide)).trans P) rfl) (λb z T2 z2 F u=> ?_);refine bJ H.cmp (d:=6) (v:=.slice none 0 0) (es:=#[]) (by show(6:Nat)<_;omega) D rfl rfl (λw _=>ag5 rfl) (λw _=>bg _) (λT3 z3 M l=> ?_);refine bJ H.cmp (d:=7) (v:=.bool false) (es:=#[]) (by show(7:Nat)<_;omega) V rfl rfl (λw _=>ag5 rfl) (λw _=>bg _) (λE Z U j=> ?_);refine gV H.cmp λe m=> ?_;have r:=Kp.rl H I;have J:=Kp.alloc S Rr a (.cells #[.int .i64 key] 3);have q:=Kp.rl H z;have p:=Kp.alloc (SN S a (a.alloc (.cells #[.int .i64 key] 3))) Rr b (.cells #[.slice A n c] 23);have o:=Kp.rl H m;have s1:(a.alloc (.cells #[.int .i64 key] 3)).heap.size=a.heap.size+1:=mu _ _;have s2:(b.alloc (.cells #[.slice A n c] 23)).heap.size=b.heap.size+1:=mu _ _;have Q:=r.size;have g2:=q.size;refine K E _ e a.heap.size b.heap.size (by omega) (λt O L C R=> ?_) ?_ ?_ ?_ U ((((r.trans J).trans q).trans p).trans o) (p.mono _ (lu S a _)) (lu _ b _) Q (by omega) ?_ ?_
 .rw[j t R,l t C,u t L,s t O]
 .rw[j 3 (by decide),l 3 (by decide),u 3 (by decide),B]
 .rw[j 4 (by decide),l 4 (by decide),F]
 .rw[j 6 (by decide),M]
 .rw[((q.trans p).trans o).keep a.heap.size (by omega) (.inl (lu S a _)),kD]
 .rw[o.keep b.heap.size (by omega) (.inl (lu _ b _)),kD]
end
section
variable {P:Program} {main:Bool} {Rl:aq->World->World->Prop} {St:aq->Goroutine->World->Prop} {S Rr:aq} {w0:World} {f:FuncId} {T:Array Value} {k:List Item} {xs base:List Frame}
def azf (H:pO Rl Rr)    {d:Tmp} {Q:Value->Obj->World->Prop} (l:d<T.size) (m:U[i]?=some o) (u:o.guard=none) (g:o.dst=some d)
  (q:∀w,∃v ob,Q v ob w/\(execOp (FQ f T (.inRegion U (i::rest)::k)).eval o).runT P w #[]=(.ok (.value v) (w.alloc ob),#[]))
  (x:∀w,Rl S w0 w->∀v ob,Q v ob w->∀T':Array Value,T'.size=T.size->T'.getD d undef=v->(∀t,t≠d->T'.getD t undef=T.getD t undef)->∀a,Rl (SN S w (w.alloc ob)) (w.alloc ob) a->bE P main Rl (pN Rr) St (SN S w (w.alloc ob)) (Gl (FQ f T' (.inRegion U rest::k)::xs) base) a) :
  ∀w,Rl S w0 w->bE P main Rl (pN Rr) St S (Gl (FQ f T (.inRegion U (i::rest)::k)::xs) base) w:=λw n=>by
 refine .step rfl λa j=> ?_;have p:=H.tr _ _ _ _ n j;obtain⟨v,ob,y,c⟩:=q a;refine⟨_,_,_,_,anI rfl rfl rfl rfl m u c,⟨λb s _=>se a _ b s,by rw[mu];omega,rfl,rfl,λe z=>by cases(by simpa using sT z:False)⟩, ?_⟩;have:Frame.finish (FQ f T (.inRegion U (i::rest)::k)) v=FQ f (T.setIfInBounds d v) (.inRegion U rest::k):=by
  simp only[Frame.finish,m,qC,g]
 rw[this];exact x a p _ _ y _ (by simp) (by rw[aF l,dl rfl]) (λt r=>by rw[aF l,be r]) _ (H.fN _ _)
end
section
variable {w:World} {b:Nat} {u v:Value} {t:TypeId}
def tE(h:w.heap[b]?=some (.cells #[u] t)):w.cell? ⟨b,0,none⟩=some u/\w.frozen? ⟨b,0,none⟩=false:=by
 constructor
 .simp[World.cell?,h]
 .simp[World.frozen?,h]
def wD(h:w.heap[b]?=some (.cells #[u] t)):(w.setCell ⟨b,0,none⟩ v).heap[b]?=some (.cells #[v] t):=by
 simp[World.setCell,pb,h]
end
section
variable {Rl:aq->World->World->Prop} {St:aq->Goroutine->World->Prop} {S Rr:aq} {w0:World} {T:Array Value} {k:List Item} {xs base:List Frame}
def av2 (H:pO Rl Rr) (hZ:45<=Y) (hz:T.size=Y)  (hn:(n:Int)<=2147483647) (Z:T.getD 2 undef=.slice A n c)
  (K:∀(T':Array Value) (p:aq) (l:World) (C B:Nat) (g:Array Value),T'.size=Y->(∀t,t≠15->t≠16->t≠17->t≠8->T'.getD t undef=T.getD t undef)->T'.getD 8 undef=.pointer (some ⟨B,0,none⟩)->T'.getD 17 undef=.slice (some ⟨C,0,none⟩) n n->
   Kp S Rr w0 p l->p C->p B->w0.heap.size<=C->C<B->g.size=2*n->l.heap[C]?=some (.cells g 160)->l.heap[B]?=some (.cells #[.slice (some ⟨C,0,none⟩) n n] 149)->bE prog true Rl (pN Rr) St p (Gl (FQ cB T' k::xs) base) l) :
  bE prog true Rl (pN Rr) St S (Gl (FQ cB T (.inRegion ads [0,1,2,3,4]::k)::xs) base) w0:=by
 obtain⟨p0,a0,V⟩:=aDm;obtain⟨p1,a1,e1⟩:=aDn;obtain⟨p2,a2,e2⟩:=aDo;obtain⟨p3,a3,e3⟩:=aDp;obtain⟨p4,a4,e4⟩:=aDq;obtain⟨a6,P,F,L⟩:=faT.alv;refine bJ H.cmp (d:=15) (v:=.slice A n c) (es:=#[]) (by show(15:Nat)<_;omega) V rfl rfl (λw _=>fg (x:=.tmp 2) Z) (λw _=>bg _) (λT1 z1 v1 r1=> ?_) w0 (H.fN _ _);refine bJ H.cmp (d:=16) (v:=.int .i64 n) (es:=#[]) (by show(16:Nat)<_;omega) e1 rfl rfl (λw _=>akq faT (s:=15) v1) (λw _=>bg _) (λT2 z2 v2 r2=> ?_);refine azf H (d:=17) (Q:=λv ob w=>v=.slice (some ⟨w.heap.size,0,none⟩) n n/\∃g:Array Value,g.size=2*n/\ob=.cells g 160) (by show(17:Nat)<_;omega) e2 rfl rfl (λw=> ?_) (λa ha vv ob hq T3 z3 v3 W=> ?_)
 .obtain⟨g,q,hr⟩:=avZ faT (w:=w) (x:=.tmp 16) (e:=Frame.eval (FQ cB T2 (.inRegion ads [2,3,4]::k))) hn v2;exact⟨_,_,⟨rfl,g,q,rfl⟩,hr⟩
 obtain⟨rfl,g,J,rfl⟩:=hq;refine mR H (d:=8) (ob:=.cells #[.slice none 0 0] 149) (by show(8:Nat)<_;omega) e3 rfl rfl (λw=>aaj P L) (λf D O z4 U R=> ?_);have o:O.getD 17 undef=.slice (some ⟨a.heap.size,0,none⟩) n n:=by rw[R 17 (by decide),v3]
 have s1:(a.alloc (.cells g 160)).heap.size=a.heap.size+1:=mu _ _;have s2:(f.alloc (.cells #[.slice none 0 0] 149)).heap.size=f.heap.size+1:=mu _ _;have N:=Kp.rl H ha;have kb:=Kp.alloc S Rr a (.cells g 160);have M:=Kp.rl H D;have r:=Kp.alloc (SN S a (a.alloc (.cells g 160))) Rr f (.cells #[.slice none 0 0] 149);have g1:=N.size;have g2:=M.size;have i:=lu (SN S a (a.alloc (.cells g 160))) f (.cells #[.slice none 0 0] 149);have I:∀{w},Rl (SN (SN S a (a.alloc (.cells g 160))) f (f.alloc (.cells #[.slice none 0 0] 149))) (f.alloc (.cells #[.slice none 0 0] 149)) w->w.heap[f.heap.size]?=some (.cells #[.slice none 0 0] 149):=λ{w} h=>by
  rw[(Kp.rl H h).keep f.heap.size (by omega) (.inl i),kD]
 refine aeX H.cmp (A:=⟨f.heap.size,0,none⟩) (u:=.slice (some ⟨a.heap.size,0,none⟩) n n) e4 rfl rfl (λw h=>ag6 (x:=.tmp 8) (y:=.tmp 17) P F rfl rfl U o (tE (I h)).1 (tE (I h)).2) i (λw h=>abS i (by have:=(Kp.rl H h).size;show f.heap.size<_;omega)) (λz q w1 X=> ?_);refine gV H.cmp (λl E=> ?_) w1 X;have G:=Kp.rl H q;have m:=Kp.rl H E;have g3:=G.size;have a5:(z.setCell ⟨f.heap.size,0,none⟩ (.slice (some ⟨a.heap.size,0,none⟩) n n)).heap.size=z.heap.size:=dj _ _ _;have other:∀b,b≠f.heap.size->(z.setCell ⟨f.heap.size,0,none⟩ (.slice (some ⟨a.heap.size,0,none⟩) n n)).heap[b]?=z.heap[b]?:=λb h=>aY _ _ _ (λe=>h e.symm);have j:=((N.trans kb).trans M).trans (r.trans G);have g4:=m.size;refine K O _ l a.heap.size f.heap.size g (by omega) (λt q1 q2 q3 q4=> ?_) U o ⟨λb D h=> ?_,by have:=j.size;omega, ?_,j.mono,λb h=>(j.new b h).imp id λh=>⟨h.1,by omega⟩⟩ (r.mono _ (lu S a _)) i g1 (by omega) J ?_ ?_
 .rw[R t q4,W t q3,r2 t q2,r1 t q1]
 .exact(m.keep b (by have:=j.size;omega) (h.imp (j.mono b) id)).trans ((other b (by omega)).trans (j.keep b D h))
 .exact m.os.trans j.os
 .exact(m.keep a.heap.size (by omega) (.inl (r.mono _ (lu S a _)))).trans ((other _ (by omega)).trans (((M.trans (r.trans G)).keep a.heap.size (by omega) (.inl (lu S a _))).trans (kD a _)))
 .exact(m.keep f.heap.size (by omega) (.inl i)).trans (wD (I q))
end
end
section
open Go.Conc Go.ConcN Go.RowKit
open Go.ConcR (KK wgBlock WgAt stA smA rd wr mk Payload DC0)
def aty:(prog.info? eG.tWg).map (λi=>i.zero.map (·.cells))=some (some #[.int .u64 0,.int .u32 0]):=by kernel_rfl
def av3:∃i z,prog.info? eG.tWg=some i/\i.zero=some z/\z.cells=#[.int .u64 0,.int .u32 0]:=by
 have h:=aty;cases b:prog.info? eG.tWg with
 |none=>rw[b] at h;cases h
 |some i=>
  rw[b] at h;cases a:i.zero with
  |none=>simp[a] at h
  |some z=>
   simp only[qh,a,jp] at h;exact⟨i,z,rfl,a,h⟩
def ji{o:Obj}(h:w.heap[b]?=some o):b<w.heap.size:=(dk.1 h).1
noncomputable def gv:Code:=.seq (.seq (.region 3 ag3 false) (.block 0 (.loop jh))) (.seq (.region 9 jK false) cM)
section
variable {Rl:aq->World->World->Prop} {St:aq->Goroutine->World->Prop} {S Rr:aq} {w0:World} {T:Array Value} {k:List Item} {xs base:List Frame}
def amM (H:pO Rl Rr) (E:45<=Y) (O:T.size=Y) {A2 : Option Addr} (hn:(b:Int)<=2147483647) (h0:T.getD 0 undef=.int .i64 key) (h1:T.getD 1 undef=.slice A n c) (F:T.getD 2 undef=.slice A2 b i)
  (K:∀(T':Array Value) (x:aq) (g:World) (e d C j:Nat) (o:Array Value),T'.size=Y->(∀t,(t<3\/aaH t=true)->T'.getD t undef=T.getD t undef)->
   T'.getD 3 undef=.pointer (some ⟨e,0,none⟩)/\T'.getD 4 undef=.pointer (some ⟨d,0,none⟩)/\T'.getD 6 undef=.slice none 0 0/\T'.getD 7 undef=.bool false/\T'.getD 8 undef=.pointer (some ⟨j,0,none⟩)/\T'.getD 17 undef=.slice (some ⟨C,0,none⟩) b b->
   Kp S Rr w0 x g->w0.heap.size<=e/\e<d/\d<C/\C<j->g.heap[e]?=some (.cells #[.int .i64 key] 3)->g.heap[d]?=some (.cells #[.slice A n c] 23)->o.size=2*b->g.heap[C]?=some (.cells o 160)->g.heap[j]?=some (.cells #[.slice (some ⟨C,0,none⟩) b b] 149)->
   bE prog true Rl (pN Rr) St x (Gl (FQ cB T' (.code (.region 2 oB false) :: .code gv::k)::xs) base) g) :
  bE prog true Rl (pN Rr) St S (Gl (FQ cB T (.code acp::k)::xs) base) w0:=by
 rw[atw];refine eB H.cmp (fQ H.cmp (l:=[0,1,2,3]) rfl λwa R=>av1 H E O h0 h1 λT1 S1 w1 e d M B t3 G J I k1 L sp lk N ck y=> ?_) w0 (H.fN _ _);refine eB H.cmp (fQ H.cmp (l:=[0,1,2,3,4]) rfl λwb w=>av2 H E M hn ((B 2 (by decide) (by decide) (by decide) (by decide)).trans F) λZ S2 w2 C j o z2 m t8 q P U Q lC la u W D=> ?_) w1 (H.fN _ _);refine eB H.cmp (λwc X=> ?_) w2 (H.fN _ _);have z:=Kp.rl H R;have s:=(Kp.rl H w).trans P;have f:=Kp.rl H X;have a1:=ji y;have a0:=ji D;have g1:=z.size;have g2:=(Kp.rl H w).size;have g3:=f.size;refine K Z S2 wc e d C j o z2 (λt a=> ?_) ⟨?_, ?_, ?_, ?_,t8,q⟩ (((z.trans k1).trans s).trans f) ⟨by omega,N,by omega,la⟩ ?_ ?_ u ?_ ?_
 .have p:t≠15:=by rintro rfl;exact absurd a (by decide)
  have r:t≠16:=by rintro rfl;exact absurd a (by decide)
  have v:t≠17:=by rintro rfl;exact absurd a (by decide)
  have e8:t≠8:=by rintro rfl;exact absurd a (by decide)
  have e3:t≠3:=by rintro rfl;exact absurd a (by decide)
  have V:t≠4:=by rintro rfl;exact absurd a (by decide)
  have e6:t≠6:=by rintro rfl;exact absurd a (by decide)
  have e7:t≠7:=by rintro rfl;exact absurd a (by decide)
  rw[m t p r v e8,B t e3 V e6 e7]
 .rw[m 3 (by decide) (by decide) (by decide) (by decide),t3]
 .rw[m 4 (by decide) (by decide) (by decide) (by decide),G]
 .rw[m 6 (by decide) (by decide) (by decide) (by decide),J]
 .rw[m 7 (by decide) (by decide) (by decide) (by decide),I]
 .rw[(s.trans f).keep e (by omega) (.inl L),ck]
 .rw[(s.trans f).keep d (by omega) (.inl sp),y]
 .rw[f.keep C (by omega) (.inl U),W]
 .rw[f.keep j (by omega) (.inl Q),D]
end
end
section
open Go.Conc Go.ConcN Go.RowKit
section
variable {Rl:aq->World->World->Prop} {St:aq->Goroutine->World->Prop} {S Rr:aq} {w0:World} {T:Array Value} {k:List Item} {xs base:List Frame}
def av4 (H:pO Rl Rr) (G:45<=Y) (E:T.size=Y)  (i:T.getD 2 undef=.slice A n c)
  (K:∀T':Array Value,T'.size=Y->(∀t,t≠18->t≠19->t≠20->T'.getD t undef=T.getD t undef)->T'.getD 18 undef=.slice A n c->T'.getD 19 undef=.int .i64 n->T'.getD 20 undef=.int .i64 0->
   ∀b,Rl S w0 b->bE prog true Rl (pN Rr) St S (Gl (FQ cB T' k::xs) base) b) :
  bE prog true Rl (pN Rr) St S (Gl (FQ cB T (.inRegion ag3 [0,1,2]::k)::xs) base) w0:=by
 obtain⟨L,J,g⟩:=aDs;obtain⟨F,M,u⟩:=aDt;obtain⟨z,N,q⟩:=aDu;refine bJ H.cmp (d:=18) (v:=.slice A n c) (es:=#[]) (by show(18:Nat)<_;omega) g rfl rfl (λw _=>fg (x:=.tmp 2) i) (λw _=>bg _) (λB D e j=> ?_) w0 (H.fN _ _);refine bJ H.cmp (d:=19) (v:=.int .i64 n) (es:=#[]) (by show(19:Nat)<_;omega) u rfl rfl (λw _=>akq faT (s:=18) e) (λw _=>bg _) (λO C r f=> ?_);refine bJ H.cmp (d:=20) (v:=.int .i64 0) (es:=#[]) (by show(20:Nat)<_;omega) q rfl rfl (λw _=>fg rfl) (λw _=>bg _) (λm I l a=> ?_);refine gV H.cmp (K m (by omega) (λt o y p=>by rw[a t p,f t y,j t o]) (by rw[a 18 (by decide),f 18 (by decide),e]) (by rw[a 19 (by decide),r]) l)
def aog (H:pO Rl Rr) (l:45<=Y) (q:T.size=Y) (a:T.getD 20 undef=.int .i64 i) (b:T.getD 19 undef=.int .i64 n)
  (K:∀T':Array Value,T'.size=Y->(∀t,t≠21->T'.getD t undef=T.getD t undef)->T'.getD 21 undef=.bool (decide (i<n))->
   ∀c,Rl S w0 c->bE prog true Rl (pN Rr) St S (Gl (FQ cB T' k::xs) base) c) :
  bE prog true Rl (pN Rr) St S (Gl (FQ cB T (.inRegion atv [0]::k)::xs) base) w0:=by
 obtain⟨o,m,e⟩:=aDv;refine bJ H.cmp (d:=21) (v:=.bool (decide ((i:Int)<n))) (es:=#[]) (by show(21:Nat)<_;omega) e rfl rfl (λw _=>ath (x:=.tmp 20) (y:=.tmp 19) a b) (λw _=>bg _) (λg p j f=> ?_) w0 (H.fN _ _);exact gV H.cmp (K g (by omega) f (by rw[j];congr 1;exact uD.2 (by omega)))
end
def aqg:(prog.info? 3).map (λi=>(i.size,i.zero))=some (1,some (.int .i64 0)):=by kernel_rfl
def aks:∃i,prog.info? 3=some i/\i.size=1/\i.zero=some (.int .i64 0):=by
 have h:=aqg;cases a:prog.info? 3 with
 |none=>rw[a] at h;cases h
 |some i=>
  rw[a] at h;simp only[qh,jp,uY] at h;exact⟨i,rfl,h⟩
section
variable {P:Program} {w:World} {e:Operand->Value} {x y:Operand} {dst:Option Tmp} {ty:TypeId} {pos:String} {af:Array Edge} {gd:Option (Nat×Bool)}
def amN{i:TypeInfo}(g:P.underlying 30=some (.slice 3))(hi:P.info? 3=some i)(f:i.size=1)(k:e x=.slice (some a) n c)(d:e y=.int .i64 j)(b:j<n) :
  (execOp e ⟨dst,.indexAddr 30 x y,ty,pos,af,gd⟩).runT P w #[]=(.ok (.value (.pointer (some (a.add j)))) w,#[]):=by
 simp[execOp,k,d,Instr.indexAt,asIntOf,lw g,b,sizeOf,typeInfo,hi,f]
end
section
variable {Rl:aq->World->World->Prop} {St:aq->Goroutine->World->Prop} {S Rr:aq} {w0:World} {T:Array Value} {k:List Item} {xs base:List Frame}
def atz (H:pO Rl Rr)   {p:String} {d s:Tmp} {u v:Int} (F:U[i]?=some ⟨none,.store 3 (.tmp d) (.tmp s),0,p,af,none⟩) (t:T.getD d undef=.pointer (some ⟨b,0,none⟩)) (G:T.getD s undef=.int .i64 v)
  (n:S b) (q:w0.heap[b]?=some (.cells #[.int .i64 u] 3))
  (K:∀a,Kp S Rr (w0.setCell ⟨b,0,none⟩ (.int .i64 v)) S a->(∀x,x≠b->S x\/Rr x->a.heap[x]?=w0.heap[x]?)->w0.heap.size<=a.heap.size->a.ou=w0.ou->a.heap[b]?=some (.cells #[.int .i64 v] 3)->bE prog true Rl (pN Rr) St S (Gl (FQ cB T (.inRegion U rest::k)::xs) base) a) :
  bE prog true Rl (pN Rr) St S (Gl (FQ cB T (.inRegion U (i::rest)::k)::xs) base) w0:=by
 obtain⟨M,I,D, -⟩:=aks;have B:=ji q;have l:∀{w},Rl S w0 w->w.heap[b]?=some (.cells #[.int .i64 u] 3):=λ{w} h=>by rw[(Kp.rl H h).keep b B (.inl n),q]
 refine aeX H.cmp (A:=⟨b,0,none⟩) (u:=.int .i64 v) F rfl rfl (λw h=>ag6 (x:=.tmp d) (y:=.tmp s) I D rfl rfl t G (tE (l h)).1 (tE (l h)).2) n (λw h=>abS n (ji (l h))) (λj f o z=> ?_) w0 (H.fN _ _);have g:=H.rl _ _ _ f;have c:=H.rl _ _ _ z;have C:(j.setCell ⟨b,0,none⟩ (.int .i64 v)).heap.size=j.heap.size:=dj _ _ _;have other:∀x,x≠b->(j.setCell ⟨b,0,none⟩ (.int .i64 v)).heap[x]?=j.heap[x]?:=λx h=>aY _ _ _ (λe=>h e.symm);have r:o.heap[b]?=some (.cells #[.int .i64 v] 3):=(c.1 b (.inl n)).trans (wD (l f));have same:∀x,x≠b->S x\/Rr x->o.heap[x]?=w0.heap[x]?:=λx h m=>(c.1 x m).trans ((other x h).trans (g.1 x m));have E:(w0.setCell ⟨b,0,none⟩ (.int .i64 v)).heap.size=w0.heap.size:=dj _ _ _;have L:=g.2.1;have J:=c.2.1;refine K o ⟨λx _ m=> ?_,by omega,(c.2.2.trans g.2.2),λ_ h=>h,λ_ h=>.inl h⟩ same (by omega) (c.2.2.trans g.2.2) r;by_cases e:x=b
 .rw[e,r,wD q]
 .rw[same x e m,aY _ _ _ (λh=>e h.symm)]
end
section
variable {P:Program} {S Rr:aq}
def av5{A:Addr}{B:Nat}(d:Rr A.block)(g:A.block<B):∀e∈seen P f #[⟨.cell A,false,false⟩],mK S Rr B e:=λe c=>by
 have h:=sT c;simp only[sd,mc,rA,tQ] at h;subst h;refine⟨λx a=>.inr ?_,λm b=>(by cases b),g⟩;simp[MemAct.ofEvent,MemAct.touch?] at a;rw[<-a];exact⟨d,rfl⟩
end
section
variable {Rl:aq->World->World->Prop} {St:aq->Goroutine->World->Prop} {S Rr:aq} {w0:World} {T:Array Value} {k:List Item} {xs base:List Frame}
def av6 (H:pO Rl Rr) (hZ:45<=Y) (hz:T.size=Y)  {nm:Int} (W:T.getD 18 undef=.slice A n c) (B:T.getD 20 undef=.int .i64 j) (hj:j<n) (V:ajk w0 A j nm) (hR:∀a,A=some a->Rr a.block)
  (K:∀(T':Array Value) (F:aq) (G:World) (u E:Nat),T'.size=Y->(∀t,t≠22->t≠23->t≠24->t≠10->t≠11->T'.getD t undef=T.getD t undef)->T'.getD 10 undef=.pointer (some ⟨u,0,none⟩)->T'.getD 11 undef=.pointer (some ⟨E,0,none⟩)->
   Kp S Rr w0 F G->F u->F E->w0.heap.size<=u->u<E->G.heap[u]?=some (.cells #[.int .i64 j] 3)->G.heap[E]?=some (.cells #[.int .i64 nm] 3)->bE prog true Rl (pN Rr) St F (Gl (FQ cB T' k::xs) base) G) :
  bE prog true Rl (pN Rr) St S (Gl (FQ cB T (.inRegion acr [0,1,2,3,4,5,6]::k)::xs) base) w0:=by
 obtain⟨p0,a0,e0⟩:=aDw;obtain⟨p1,a1,e1⟩:=aDx;obtain⟨p2,a2,e2⟩:=aDy;obtain⟨p3,a3,e3⟩:=aDz;obtain⟨p4,a4,e4⟩:=aDA;obtain⟨p5,a5,e5⟩:=aDB;obtain⟨p6,a6,e6⟩:=aDC;obtain⟨a,rfl,g,jX⟩:=V;obtain⟨i3,o,R,s⟩:=aks;have C:=hR a rfl;have m:(a.add j).block=a.block:=rq a j;have Q:=fZ g;have jm:∀{w},Rl S w0 w->w.cell? (a.add j)=some (.int .i64 nm):=λ{w} h=>(fX (by rw[m];exact(H.rl _ _ _ h).1 a.block (.inr C))).trans g
 refine bJ H.cmp (d:=22) (v:=.int .i64 j) (es:=#[]) (by show(22:Nat)<_;omega) e0 rfl rfl (λw _=>fg (x:=.tmp 20) B) (λw _=>bg _) (λT1 z1 v1 r1=> ?_) w0 (H.fN _ _);refine bJ H.cmp (d:=23) (v:=.pointer (some (a.add j))) (es:=#[]) (by show(23:Nat)<_;omega) e1 rfl rfl (λw _=>amN faT.u31 o R (x:=.tmp 18) (y:=.tmp 20) ((r1 18 (by decide)).trans W) ((r1 20 (by decide)).trans B) hj) (λw _=>bg _) (λT2 z2 v2 r2=> ?_);refine bJ H.cmp (d:=24) (v:=.int .i64 nm) (es:=#[⟨.cell (a.add j),false,false⟩]) (by show(24:Nat)<_;omega) e2 rfl rfl (λw P=>akk underlying3 rfl (x:=.tmp 23) v2 (jm P)) (λw P=>av5 (by rw[m];exact C) (aE Q (H.rl _ _ _ P).2.1)) (λT3 z3 v3 r3=> ?_);refine mR H (d:=10) (ob:=.cells #[.int .i64 0] 3) (by show(10:Nat)<_;omega) e3 rfl rfl (λw=>aaj o s) (λe ha T4 z4 v4 r4=> ?_);refine mR H (d:=11) (ob:=.cells #[.int .i64 0] 3) (by show(11:Nat)<_;omega) e4 rfl rfl (λw=>aaj o s) (λl hb J z5 v5 L w1 bI=> ?_);have s1:(e.alloc (.cells #[.int .i64 0] 3)).heap.size=e.heap.size+1:=mu _ _;have s2:(l.alloc (.cells #[.int .i64 0] 3)).heap.size=l.heap.size+1:=mu _ _;have ka:=(Kp.rl H ha).trans (Kp.alloc S Rr e (.cells #[.int .i64 0] 3));have X:=Kp.rl H hb;have kc:=Kp.alloc (SN S e (e.alloc (.cells #[.int .i64 0] 3))) Rr l (.cells #[.int .i64 0] 3);have I:=Kp.rl H bI;have g0:=(Kp.rl H ha).size;have g1:=X.size;have g2:=I.size;have i:=kc.mono _ (lu S e (.cells #[.int .i64 0] 3));have f:=lu (SN S e (e.alloc (.cells #[.int .i64 0] 3))) l (.cells #[.int .i64 0] 3);have ci:w1.heap[e.heap.size]?=some (.cells #[.int .i64 0] 3):=by
  rw[((X.trans kc).trans I).keep e.heap.size (by omega) (.inl (lu S e _)),kD]
 have cn:w1.heap[l.heap.size]?=some (.cells #[.int .i64 0] 3):=by
  rw[I.keep l.heap.size (by omega) (.inl f),kD]
 have D:J.getD 10 undef=.pointer (some ⟨e.heap.size,0,none⟩):=by rw[L 10 (by decide),v4]
 have M:J.getD 22 undef=.int .i64 j:=by rw[L 22 (by decide),r4 22 (by decide),r3 22 (by decide),r2 22 (by decide),v1]
 have U:J.getD 24 undef=.int .i64 nm:=by rw[L 24 (by decide),r4 24 (by decide),v3]
 refine atz H e5 D M i ci (λw2 _ r z6 o6 a7=> ?_);have a8:w2.heap[l.heap.size]?=some (.cells #[.int .i64 0] 3):=(r _ (by omega) (.inl f)).trans cn;refine atz H e6 v5 U f a8 (λw3 _ z z7 o7 Z=> ?_);refine gV H.cmp (λw4 N=> ?_) w3 (H.fN _ _);have q:=Kp.rl H N;have p:=((ka.trans X).trans kc).trans I;have aa:=p.size;refine K J _ w4 e.heap.size l.heap.size (by omega) (λt q1 q2 q3 q4 q5=> ?_) D v5 ⟨λb a9 h=> ?_, ?_, ?_,p.mono,λb h=>(p.new b h).imp id λh=>⟨h.1, ?_⟩⟩ i f g0 (by omega) ?_ ?_
 .rw[L t q5,r4 t q4,r3 t q3,r2 t q2,r1 t q1]
 .have O:=h.imp (p.mono b) id;rw[q.keep b (by omega) O,z b (by omega) O,r b (by omega) O,p.keep b a9 h]
 .have:=q.size;omega
 .rw[q.os,o7,o6,p.os]
 .have:=q.size;omega
 .rw[q.keep _ (by omega) (.inl i),z _ (by omega) (.inl i),a7]
 .rw[q.keep _ (by omega) (.inl f),Z]
end
end
section
open Go.Conc Go.ConcN Go.RowKit
open Go.ConcR (KK wgBlock WgAt stA smA rd wr mk Payload DC0)
structure Mx where
 wE:World
 Wg:Nat
 C:Nat
 n2:Nat
 Rg:Nat->Prop
 key:Int
 A:Option Addr
 n:Nat
 c:Nat
 l:List iw
 A2:Option Addr
 c2:Nat
 dy:List Int
 bk:Nat
 bp:Nat
 ba:Nat
 sv:Nat->Value
 Z:Nat
 V:aq
structure Mx.Ok (X:Mx):Prop where
 hN:gN<=X.wE.heap.size
 gl:∀g∈gL,X.Rg g
 k1:1<=X.key
 k2:X.key<=99
 hl:X.l.length=X.n
 hc:X.n<=X.c
 hcm:(X.c:Int)<=9223372036854775807
 gr:∀g∈gL,eD X.wE g
 rd:RdP X.wE X.A 0 X.l
 rgp:RgP X.Rg X.wE X.A X.l
 al:∀a,X.A=some a->X.Rg a.block
 al2:∀a,X.A2=some a->X.Rg a.block
 nm:∀i nm,X.dy[i]?=some nm->ajk X.wE X.A2 i nm
 nn:X.dy.length=X.n2
 n2m:(X.n2:Int)<=2147483647
 cW:X.C≠X.Wg
 vr:∀b,X.Rg b->X.V b
structure Mx.At (X:Mx) (R:aq) (w:World):Prop where
 keep:∀b,X.V b->w.heap[b]?=X.wE.heap[b]?
 sz:X.wE.heap.size<=w.heap.size
 os:w.ou=X.wE.ou
 rows:∀b,X.V b->R b
 rk:R X.bk/\w.heap[X.bk]?=some (.cells #[.int .i64 X.key] 3)
 rp:R X.bp/\w.heap[X.bp]?=some (.cells #[.slice X.A X.n X.c] 23)
 ra:R X.ba/\w.heap[X.ba]?=some (.cells #[.slice (some ⟨X.C,0,none⟩) X.n2 X.n2] 149)
 rlt:∀b,R b->b<w.heap.size
 rC:¬R X.C
 rW:¬R X.Wg
 ltC:X.C<w.heap.size
 ltW:X.Wg<w.heap.size
section
variable {X:Mx} {R S S':aq} {w w':World} {es:Array Event}
def Mx.At.move(h:X.At R w)(a:∀b,R b->w'.heap[b]?=w.heap[b]?)(d:w.heap.size<=w'.heap.size)(e:w'.ou=w.ou):X.At R w':=
 ⟨λb c=>(a b (h.rows b c)).trans (h.keep b c),bd h.sz d,e.trans h.os,h.rows,⟨h.rk.1,(a _ h.rk.1).trans h.rk.2⟩,⟨h.rp.1,(a _ h.rp.1).trans h.rp.2⟩,⟨h.ra.1,(a _ h.ra.1).trans h.ra.2⟩,
  λb c=>aE (h.rlt b c) d,h.rC,h.rW,aE h.ltC d,aE h.ltW d⟩
def Mx.At.grow(h:X.At R w)(c:∀b,S b->b<w.heap.size/\b≠X.C/\b≠X.Wg):X.At (λb=>S b\/R b) w:=
 ⟨h.keep,h.sz,h.os,λb a=>.inr (h.rows b a),⟨.inr h.rk.1,h.rk.2⟩,⟨.inr h.rp.1,h.rp.2⟩,⟨.inr h.ra.1,h.ra.2⟩,λb a=>a.elim (λx=>(c b x).1) (h.rlt b),
  λa=>a.elim (λx=>(c _ x).2.1 rfl) h.rC,λa=>a.elim (λx=>(c _ x).2.2 rfl) h.rW,h.ltC,h.ltW⟩
def Mx.At.rgp(a:X.Ok)(h:X.At R w):RgP X.Rg w X.A X.l:=a.rgp.move a.al λb c=>h.keep b (a.vr b c)
def Mx.At.gr(a:X.Ok)(h:X.At R w):∀g∈gL,eD w g:=λg b=>by
 obtain⟨c,t,z,e⟩:=a.gr g b;exact⟨c,t,z,(h.keep g (a.vr g (a.gl g b))).trans e⟩
def Mx.At.rd(a:X.Ok)(h:X.At R w):RdP w X.A 0 X.l:=a.rd.mask a.rgp a.al λ_ _ c b _=>(fX (h.keep _ (a.vr _ b))).trans c
def Mx.At.nm(b:X.Ok)(h:X.At R w){nm:Int}(hi:X.dy[i]?=some nm):ajk w X.A2 i nm:=by
 obtain⟨a,e,d,c⟩:=b.nm i nm hi;exact⟨a,e,(fX (by rw[rq];exact h.keep _ (b.vr _ (b.al2 a e)))).trans d,c⟩
abbrev Mx.Rl(X:Mx)(R:aq):aq->World->World->Prop:=jC eG.tWg X.Wg X.C (2*X.n2) R noC
abbrev Mx.Gr(X:Mx)(R:aq):aq->aq->World->World->Array Event->Prop:=Gua X.Wg X.C (2*X.n2) R noC
def Mx.mS(X:Mx)(R:aq):pO (X.Rl R) R:=⟨λS w=>jC.refl _ _ _ _,λ_ _ _ _=>jC.trans,λ_ _ _ h=>⟨h.keep,h.size,h.os⟩⟩
structure Mx.Inv (X:Mx) (R S:aq) (w:World):Prop where
 s:∀b,S b->b<w.heap.size/\b≠X.C/\b≠X.Wg
 at_:X.At R w
 live:WgLive eG.tWg X.Wg w
 sr:∀b,R b->¬S b
def Mx.Inv.rely(h:X.Inv R S w)(a:X.Rl R S w w'):X.Inv R S w':=
 ⟨λb c=>⟨aE (h.s b c).1 a.size,(h.s b c).2⟩,h.at_.move (λb c=>a.keep b (.inr c)) a.size a.os,a.live h.live,h.sr⟩
def Mx.step(h:X.Inv R S w)(g:pN R S S' w w' es):X.Gr R S S' w w' es/\X.Inv R S' w':=by
 obtain⟨k,l,p,rfl,z⟩:=g;have o:w'.heap[X.C]?=w.heap[X.C]?:=k _ h.at_.ltC λd=>(h.s _ d).2.1 rfl;have q:w'.heap[X.Wg]?=w.heap[X.Wg]?:=k _ h.at_.ltW λd=>(h.s _ d).2.2 rfl;refine⟨⟨λb c v _=>k b c v,l,p,λ⟨r,a,b⟩=>⟨r,o.trans a,b⟩,λi _=>uv o i,λb c=>.inl c,λb c=>c,λe C=> ?_⟩, ?_⟩
 .obtain⟨A,m,B⟩:=z e C;refine⟨λx t=>(A x t).elim .inl λy=>.inr (.inr y),λj=> ?_,λj=> ?_,λj=> ?_,B⟩
  .rcases m _ j with⟨f,e⟩|e<;>cases e
  .rcases m _ j with⟨f,e⟩|e<;>cases e
  .rcases m _ j with⟨f,e⟩|e<;>cases e
 .refine⟨λb c=> ?_,h.at_.move (λb c=>k b (h.at_.rlt b c) (h.sr b c)) l p, ?_,λb c d=> ?_⟩
  .rcases c with c|⟨c,n⟩
   .exact⟨aE (h.s b c).1 l,(h.s b c).2⟩
   .have E:=h.at_.ltC;have D:=h.at_.ltW;exact⟨n,by omega,by omega⟩
  .obtain⟨u,sm,s⟩:=h.live;exact⟨u,sm,q.trans s⟩
  .rcases d with d|⟨d,_⟩
   .exact h.sr b c d
   .have:=h.at_.rlt b c;omega
def Mx.lift(h:bE prog true (X.Rl R) (pN R) Stop S g w)(hi:X.Inv R S w):bE prog true (X.Rl R) (X.Gr R) (λS g w=>Stop S g w/\X.Inv R S w) S g w:=
 bE.inv (Rl:=X.Rl R) (Gr:=pN R) (Gr2:=X.Gr R) (Stop:=Stop) (Inv:=X.Inv R) (λ_ _ _ a b=>a.rely b) (λ_ _ _ _ _ a b=>Mx.step a b) (λ_ _ _ a b=>⟨a,b⟩) h hi
def amO(t:Nat):Bool:=t ==0||t ==1||t ==2||t ==6||t ==7||t ==17||aaH t
structure Mx.Sl (X:Mx) (T:Array Value) (j:Nat):Prop where
 z:T.size=X.Z
 zz:45<=X.Z
 s3:T.getD 3 undef=.pointer (some ⟨X.bk,0,none⟩)
 s4:T.getD 4 undef=.pointer (some ⟨X.bp,0,none⟩)
 s8:T.getD 8 undef=.pointer (some ⟨X.ba,0,none⟩)
 s9:T.getD 9 undef=.pointer (some ⟨X.Wg,0,none⟩)
 s18:T.getD 18 undef=.slice X.A2 X.n2 X.c2
 s19:T.getD 19 undef=.int .i64 X.n2
 gW:T.getD 20 undef=.int .i64 j
 sv:∀t,amO t=true->T.getD t undef=X.sv t
def wrM(t:Nat):Bool:=t ==10||t ==11||(21<=t&&t<=28)
def azg{t:Nat}(h:amO t=true):wrM t=false:=by
 simp only[amO,aaH,qT,mp,qH] at h;simp only[wrM,wl,dq,sH,sW];omega
def Mx.Sl.keep{T T':Array Value}(h:X.Sl T j)(c:T'.size=X.Z)(a:∀t,wrM t=false->T'.getD t undef=T.getD t undef):X.Sl T' j:=
 ⟨c,h.zz,(a 3 rfl).trans h.s3,(a 4 rfl).trans h.s4,(a 8 rfl).trans h.s8,(a 9 rfl).trans h.s9,(a 18 rfl).trans h.s18,(a 19 rfl).trans h.s19,(a 20 rfl).trans h.gW,λt b=>(a t (azg b)).trans (h.sv t b)⟩
end
section
variable {P:Program} {main:Bool} {Rl:aq->World->World->Prop} {Gr:aq->aq->World->World->Array Event->Prop} {St:aq->Goroutine->World->Prop} {S Rr:aq} {w0:World} {f h:FuncId} {T:Array Value} {k:List Item} {xs bs:List Frame}
def akt (C:Cmp Rl Gr Rr)    {args:Array Value} (a:U[i]?=some o) (c:o.guard=none)
  (b:∀w,(execOp (FQ f T (.inRegion U (i::rest)::k)).eval o).runT P w #[]=(.ok (.enter h args) w,#[]))
  (d:∀w,Rl S w0 w->bE P main Rl Gr St S (Gl (Frame.enter P h args .normal::FQ f T (.inRegion U (i::rest)::k)::xs) bs) w):∀w,Rl S w0 w->bE P main Rl Gr St S (Gl (FQ f T (.inRegion U (i::rest)::k)::xs) bs) w:=
 bE.still C (l2:=Frame.enter P h args .normal::FQ f T (.inRegion U (i::rest)::k)::xs) (es:=λ_=>seen P f #[]) (λw _=>akl rfl rfl rfl rfl a c (b w)) (λw _=>bg _) d
end
def amP{args:Array Value} :(callFunc eG.add args).runT prog w #[]=(.ok (.enter eG.add args) w,#[]):=by
 have h:=aaI.f_add;have b:¬(Go.Conc.Lib.addFn eG).name= "runtime.NumGoroutine" :=by decide
 have a:¬(Go.Conc.Lib.addFn eG).body=none:=λe=>by cases e
 unfold callFunc;simp[h,b,a]
def aku{args:Array Value} :(callFunc eG.wait args).runT prog w #[]=(.ok (.enter eG.wait args) w,#[]):=by
 have h:=aaI.f_wait;have b:¬(Go.Conc.Lib.waitFn eG).name= "runtime.NumGoroutine" :=by decide
 have a:¬(Go.Conc.Lib.waitFn eG).body=none:=λe=>by cases e
 unfold callFunc;simp[h,b,a]
noncomputable abbrev kM:List Item:=[.code (.seq (.region 9 jK false) cM)]
noncomputable abbrev kB:List Item:=.inLoop jh :: .inBlock 0::kM
noncomputable abbrev kA:List Item:=.code (.region 7 lZ false) :: .inBlock 1 :: .code (.region 8 akp false)::kB
section
variable {X:Mx} {R:aq} {w:World} {T:Array Value} {j:Nat} {xs bs:List Frame}
def StA(X:Mx)(j:Nat)(xs bs:List Frame)(S:aq)(g:Goroutine)(w:World):Prop:=
 ∃(T':Array Value) (b a:Nat) (nm:Int),X.dy[j]?=some nm/\X.Sl T' j/\T'.getD 10 undef=.pointer (some ⟨b,0,none⟩)/\T'.getD 11 undef=.pointer (some ⟨a,0,none⟩)/\S b/\S a/\w.heap[b]?=some (.cells #[.int .i64 j] 3)/\w.heap[a]?=some (.cells #[.int .i64 nm] 3)/\
  g=Gl (Frame.enter prog eG.add #[.pointer (some ⟨X.Wg,0,none⟩),.int .i64 1] .normal::FQ cB T' (.inRegion aaK [0]::kA)::xs) bs
def StW(X:Mx)(xs bs:List Frame)(S:aq)(g:Goroutine)(_:World):Prop:=
 ∃T':Array Value,X.Sl T' X.n2/\S=(λ_=>False)/\g=Gl (Frame.enter prog eG.wait #[.pointer (some ⟨X.Wg,0,none⟩)] .normal::FQ cB T' (.inRegion jK [0]::[.code cM])::xs) bs
def aqh(n:X.Ok)(g:X.Sl T j)(v:j<X.n2)(r:X.At R w):bE prog true (X.Rl R) (pN R) (StA X j xs bs) (λ_=>False) (Gl (FQ cB T (.code jh::kB)::xs) bs) w:=by
 have H:=X.mS R;obtain⟨nm,m⟩:∃nm,X.dy[j]?=some nm:=⟨_,iS (by rw[n.nn];exact v)⟩;rw[ag4];refine eB H.cmp (fQ H.cmp (l:=[0]) rfl λwa x=>aog H g.zz g.z g.gW g.s19 λM D K i=> ?_) w (H.fN _ _);rw[db v] at i;refine eB H.cmp (abR H.cmp i (anJ H.cmp (eB H.cmp (aeV H.cmp (eB H.cmp (fQ H.cmp (l:=[0,1,2,3,4,5,6]) rfl λP q=> ?_))))));have f:X.Sl M j:=g.keep D λt d=>K t (by rintro rfl;cases d);have I:X.At R P:=(r.move (λb e=>x.keep b (.inr e)) x.size x.os).move (λb e=>q.keep b (.inr e)) q.size q.os;refine av6 H g.zz D f.s18 f.gW v (I.nm n m) (λa A=>I.rows _ (n.vr _ (n.al2 a A))) λo S2 Z G B N V z u kp C F lb J S Q=> ?_;have k:X.Sl o j:=f.keep N λt d=>V t (by rintro rfl;cases d) (by rintro rfl;cases d) (by rintro rfl;cases d) (by rintro rfl;cases d) (by rintro rfl;cases d);obtain⟨L,U,O⟩:=aBD;refine eB H.cmp (fQ H.cmp (l:=[0]) rfl (akt H.cmp (h:=eG.add) (args:=#[.pointer (some ⟨X.Wg,0,none⟩),.int .i64 1]) O rfl (λw=> ?_) λw5 y=>.stop λw6 p=> ?_)) Z (H.fN _ _)
 .have W:Array.map (Frame.eval (FQ cB o (.inRegion aaK [0]::kA))) #[.tmp 9,.const (.int .i64 1)]=#[.pointer (some ⟨X.Wg,0,none⟩),.int .i64 1]:=by
   rw[<-k.s9];simp[Frame.eval]
  have Y:execOp (Frame.eval (FQ cB o (.inRegion aaK [0]::kA))) ⟨some 25,.call ⟨.value (.func eG.add),#[.tmp 9,.const (.int .i64 1)],#[eG.tWg,3]⟩,0,L,U,none⟩=callFunc eG.add #[.pointer (some ⟨X.Wg,0,none⟩),.int .i64 1]:=by
   simp only[execOp,resolve];rw[W];simp[Deferred.ofValue,invoke,Frame.eval];try rfl
  exact(fk (λs=>Sem.runT prog s w #[]) Y).trans amP
 .have E:=H.tr _ _ _ _ y p;exact⟨o,G,B,nm,m,k,z,u,C,F,(E.keep G (.inl C)).trans S,(E.keep B (.inl F)).trans Q,rfl⟩
def aqj(b:X.Sl T X.n2):bE prog true (X.Rl R) (pN R) (StW X xs bs) (λ_=>False) (Gl (FQ cB T (.code jh::kB)::xs) bs) w:=by
 have H:=X.mS R;rw[ag4];refine eB H.cmp (fQ H.cmp (l:=[0]) rfl λv u=>aog H b.zz b.z b.gW b.s19 λe p f a=> ?_) w (H.fN _ _);rw[bv (Nat.lt_irrefl _)] at a;have d:X.Sl e X.n2:=b.keep p λt j=>f t (by rintro rfl;cases j);obtain⟨n,i,k⟩:=aBE;refine eB H.cmp (abR H.cmp a (anL H.cmp (k2:=kM) rfl (eB H.cmp (fQ H.cmp (l:=[0]) rfl (akt H.cmp (h:=eG.wait) (args:=#[.pointer (some ⟨X.Wg,0,none⟩)]) k rfl (λw=> ?_) λx q=>.stop λr g=>⟨e,d,rfl,rfl⟩)))));have m:Array.map (Frame.eval (FQ cB e (.inRegion jK [0]::[.code cM]))) #[.tmp 9]=#[.pointer (some ⟨X.Wg,0,none⟩)]:=by
  rw[<-d.s9];simp[Frame.eval]
 have o:execOp (Frame.eval (FQ cB e (.inRegion jK [0]::[.code cM]))) ⟨some 28,.call ⟨.value (.func eG.wait),#[.tmp 9],#[eG.tWg]⟩,0,n,i,none⟩=callFunc eG.wait #[.pointer (some ⟨X.Wg,0,none⟩)]:=by
  simp only[execOp,resolve];rw[m];simp[Deferred.ofValue,invoke,Frame.eval];try rfl
 exact(fk (λs=>Sem.runT prog s w #[]) o).trans aku
end
end
section
open Go.Conc Go.ConcN Go.RowKit Go.Conc.Lib Go.ConcR.Gen Go.ConcN.Gen
open Go.ConcR (KK wgBlock WgAt stA smA rd wr mk Payload DC0)
section
variable {P:Program} {R:World->World->Prop} {Q:World->Prop} {St A:Goroutine->World->Prop} {ty:TypeId} {Wg:Nat}
 (hQ:∀w w1,Q w->R w w1->Q w1) (hW:∀(w:World) (a:Addr) v,a.block=Wg->Q w->Q (w.setCell a v))
include hQ
theorem aoh(a:Q w)(h:WKe P R Wg St g w):WKe P R Wg (λg w=>St g w/\Q w) g w:=aco (λ_ _ x=>jJ hQ x.2 x.1) (jJ hQ a h)
theorem av7(b:Q w)(h:WW4 P R ty Wg St g w):WW4 P R ty Wg (λg w=>St g w/\Q w) g w:=
 ⟨h.1,λa=>let⟨c,e,k⟩:=h.2 a;⟨c,e,fj (λ_ _ x=>aoh hQ x.2 x.1) (eR hQ b k)⟩⟩
include hW
theorem av8(b:Q w)(h:WW3 P R ty Wg St g w):WW3 P R ty Wg (λg w=>St g w/\Q w) g w:=
 ⟨h.1,h.2.1,h.2.2.1,λa=>let⟨c,e,k⟩:=h.2.2.2 a;⟨c,e,fj (λ_ _ x=>av7 hQ x.2 x.1) (eR hQ (hW _ _ _ rfl b) k)⟩⟩
theorem av9{v:Nat}(d:Q w)(h:WW2 P R ty Wg A St v g w):WW2 P R ty Wg (λg w=>A g w/\Q w) (λg w=>St g w/\Q w) v g w:=
 ⟨h.1,λf i c=>⟨λe=>let⟨b,a,k⟩:=(h.2 f i c).1 e;⟨b,a,fj (λ_ _ x=>aco (λ_ _ x=>av8 hQ hW x.2 x.1) (jJ hQ x.2 x.1)) (eR hQ (hW _ _ _ rfl d) k)⟩,
  λe=>let⟨b,a,k⟩:=(h.2 f i c).2 e;⟨b,a,eR hQ d k⟩⟩⟩
theorem awa(a:Q w)(h:WW1 P R ty Wg A St g w):WW1 P R ty Wg (λg w=>A g w/\Q w) (λg w=>St g w/\Q w) g w:=
 ⟨h.1,λv d c=>let⟨i,e,f,b⟩:=h.2 v d c;⟨i,e,λe=>fj (λ_ _ x=>aoh hQ x.2 x.1) (eR hQ a (f e)),λe=>fj (λ_ _ x=>av9 hQ hW x.2 x.1) (eR hQ a (b e))⟩⟩
end
section
variable (X:Mx) (xs bs:List Frame)
noncomputable abbrev frW(T:Array Value):Frame:=(FQ cB #[] []).at ⟨T,[]⟩ (.inRegion jK [0]::[.code cM])
def adt(R _S:aq)(g:Goroutine)(w:World):Prop:=X.At R w/\∃T,X.Sl T X.n2/\akh eG X.Wg (frW T) (xs++bs) g w
def aBG(R S:aq)(g:Goroutine)(w:World):Prop:=
 ∃T,X.Sl T X.n2/\Goes prog true (RM eG.tWg X.Wg X.C X.n2 R S) DC0 (λg w=>(g=Gl (FQ cB T (.inRegion jK []::[.code cM])::xs) bs/\WgLive eG.tWg X.Wg w)/\X.At R w) 20 g w
end
section
variable {X:Mx} {xs bs:List Frame} {R S:aq} {w w1:World} {T:Array Value}
def Mx.At.rely(h:X.At R w)(a:jC eG.tWg X.Wg X.C (2*X.n2) R noC S w w1):X.At R w1:=h.move (λb c=>a.keep b (.inr c)) a.size a.os
def Mx.At.wg(h:X.At R w)(a:Addr)(v:Value)(d:a.block=X.Wg):X.At R (w.setCell a v):=
 h.move (λb c=>aY _ _ _ (λe=>h.rW (by rw[<-d,e];exact c))) (mt (dj _ _ _).symm) rfl
def awb(a:X.Sl T X.n2):∃T',X.Sl T' X.n2/\G ((FQ cB #[] []).at ((⟨T,[]⟩:Act).put ((jK[0]?).bind (·.dst)) (.tuple #[])) (.inRegion jK []::[.code cM])) (xs++bs)=Gl (FQ cB T' (.inRegion jK []::[.code cM])::xs) bs:=by
 obtain⟨d,e,c⟩:=aBE;refine⟨T.setIfInBounds 28 (.tuple #[]),a.keep (by simpa using a.z) λt b=> ?_,by rw[c];rfl⟩;rw[aF (by rw[a.z];exact aE (by decide) a.zz),be (by rintro rfl;cases b)]
def awc(h:adt X xs bs R S g w):∃m,GP prog eG.tWg X.Wg X.C X.n2 R S (MW1 prog eG.tWg X.Wg X.C X.n2 R S (adt X xs bs) (aBG X xs bs)) m g w:=by
 obtain⟨c,T,d,i⟩:=h;have j:=amI (R:=RM eG.tWg X.Wg X.C X.n2 R S) (S:=λg w=>g=G ((FQ cB #[] []).at ((⟨T,[]⟩:Act).put ((jK[0]?).bind (·.dst)) (.tuple #[])) (.inRegion jK []::[.code cM])) (xs++bs)/\WgLive eG.tWg X.Wg w) aaI (λ_ _ h r=>r.live h) (λ_ h=>⟨rfl,h⟩) g w i;have f:=fj (λg w x=>awa (Q:=X.At R) (λ_ _ h r=>h.rely r) (λ_ a v e h=>h.wg a v e) x.2 x.1) (eR (Q:=X.At R) (λ_ _ h r=>h.rely r) c j);obtain⟨T',b,k⟩:=awb (xs:=xs) (bs:=bs) d;refine⟨30,aaJ (λ_ _ x=>aBq (λg w y=>⟨T',b,fj (λg w z=>⟨⟨z.1.1.trans k,z.1.2⟩,z.2⟩) y⟩) (λg w y=>⟨y.2,T,d,y.1⟩) x) f⟩
def amQ:Frame.enter prog eG.wait #[.pointer (some ⟨X.Wg,0,none⟩)] .normal=(base eG.wait).at ⟨#[.pointer (some ⟨X.Wg,0,none⟩)]++(List.replicate 83 undef).toArray,[]⟩ [.code (body_wait eG)]:=by
 rw[vM];have h:=enter_at (c:=body_wait eG) #[.pointer (some ⟨X.Wg,0,none⟩)] aaI.f_wait rfl;have e:(Go.Conc.Lib.waitFn eG).ntmps-(#[.pointer (some ⟨X.Wg,0,none⟩)]:Array Value).size=83:=rfl;rw[e] at h;exact h
def aqk:Frame.enter prog eG.add #[.pointer (some ⟨X.Wg,0,none⟩),.int .i64 1] .normal=(base eG.add).at ⟨#[.pointer (some ⟨X.Wg,0,none⟩),.int .i64 1]++(List.replicate 115 undef).toArray,[]⟩ [.code (body_add eG)]:=by
 rw[vM];have h:=enter_at (c:=body_add eG) #[.pointer (some ⟨X.Wg,0,none⟩),.int .i64 1] aaI.f_add rfl;have e:(Go.Conc.Lib.addFn eG).ntmps-(#[.pointer (some ⟨X.Wg,0,none⟩),.int .i64 1]:Array Value).size=115:=rfl;rw[e] at h;exact h
def aih(d:X.Sl T X.n2)(hi:X.Inv R S w) :
  bE prog true (X.Rl R) (X.Gr R) (λS g w=>MKd prog eG.tWg X.Wg X.C X.n2 R S (adt X xs bs) g w) S (Gl (Frame.enter prog eG.wait #[.pointer (some ⟨X.Wg,0,none⟩)] .normal::FQ cB T (.inRegion jK [0]::[.code cM])::xs) bs) w:=by
 rw[amQ];have c:=amH (b₀:=FQ cB #[] []) (a₀:=⟨T,[]⟩) (ops₀:=jK) (i₀:=0) (rest₀:=[]) (k₀:=[.code cM]) (cs:=xs++bs) (R:=RM eG.tWg X.Wg X.C X.n2 R S) aaI (λ_ _ h r=>r.live h) w hi.live;have b:=fj (λg w x=>jJ (Q:=X.At R) (λ_ _ h r=>h.rely r) x.2 x.1) (eR (Q:=X.At R) (λ_ _ h r=>h.rely r) hi.at_ c);have a:∀g w,(akh eG X.Wg (frW T) (xs++bs) g w/\X.At R w)->adt X xs bs R S g w:=λg w y=>⟨y.2,T,d,y.1⟩;exact bE.abN (R:=RM eG.tWg X.Wg X.C X.n2 R S) (λ_ _ h=>h) (λ_ _ _ h=>azd h) (λ_ _ h=>aBr a h) b
end
end
section
open Go.Conc Go.ConcN Go.RowKit
open Go.ConcR (KK wgBlock WgAt stA smA rd wr mk Payload DC0)
section
variable {X:Mx} {R S:aq} {w:World} {T:Array Value} {j:Nat} {xs bs:List Frame} {bi bn:Nat} {nm:Int}
noncomputable abbrev kG:List Item:=.inBlock 1 :: .code (.region 8 akp false)::kB
abbrev Mx.nV(X:Mx)(bi bn:Nat):Array Value:=#[.pointer (some ⟨X.Wg,0,none⟩),.pointer (some ⟨X.bk,0,none⟩),.pointer (some ⟨X.bp,0,none⟩),.pointer (some ⟨bn,0,none⟩),.pointer (some ⟨X.ba,0,none⟩),.pointer (some ⟨bi,0,none⟩)]
def aql(b:X.Sl T j)(k:T.getD 10 undef=.pointer (some ⟨bi,0,none⟩))(m:T.getD 11 undef=.pointer (some ⟨bn,0,none⟩))(z:S bi)(q:S bn)(u:w.heap[bi]?=some (.cells #[.int .i64 j] 3))(o:w.heap[bn]?=some (.cells #[.int .i64 nm] 3)) :
  bE prog true (X.Rl R) (pN R) (λA g f=>A=S/\f.heap[bi]?=some (.cells #[.int .i64 j] 3)/\f.heap[bn]?=some (.cells #[.int .i64 nm] 3)/\∃T',X.Sl T' j/\T'.getD 26 undef=.func (.func nCl) #[] (X.nV bi bn)/\g=Gl (FQ cB T' (.inRegion lZ [1]::kG)::xs) bs) S
   (Gl (FQ cB T (.inRegion aaK []::kA)::xs) bs) w:=by
 have H:=X.mS R;obtain⟨p,a,e⟩:=aDD;refine gV H.cmp (fQ H.cmp (l:=[0,1]) rfl (bJ H.cmp (d:=26) (v:=.func (.func nCl) #[] (X.nV bi bn)) (es:=#[]) (by rw[b.z];exact aE (by decide) b.zz) e rfl rfl (λw _=>akr ?_) (λw _=>bg _) λy B C s f r=>.stop λD i=> ?_)) w (H.fN _ _)
 .have:∀T:Array Value,Array.map (Frame.eval (FQ cB T (.inRegion lZ [0,1]::kG))) #[.tmp 9,.tmp 3,.tmp 4,.tmp 11,.tmp 8,.tmp 10]=#[T.getD 9 undef,T.getD 3 undef,T.getD 4 undef,T.getD 11 undef,T.getD 8 undef,T.getD 10 undef]:=λT=>by simp[Frame.eval]
  rw[this,b.s9,b.s3,b.s4,b.s8,k,m]
 .have n:=H.tr _ _ _ _ r i;exact⟨rfl,(n.keep bi (.inl z)).trans u,(n.keep bn (.inl q)).trans o,y,b.keep (B.trans b.z) λt x=>s t (by rintro rfl;cases x),C,rfl⟩
def aqm(k:X.Ok)(b:X.Sl T j)(F:j<X.n2) :
  bE prog true (X.Rl R) (pN R) (λu g _=>u=S/\∃T',X.Sl T' (j+1)/\g=Gl (FQ cB T' (.code jh::kB)::xs) bs) S
   (Gl (FQ cB T (.inRegion lZ []::kG)::xs) bs) w:=by
 have H:=X.mS R;obtain⟨E,D,i⟩:=aDF;obtain⟨B,G,s⟩:=aDG;have p:=k.n2m;refine gV H.cmp (ajc H.cmp (fQ H.cmp (l:=[0,1]) rfl (bJ H.cmp (d:=27) (v:=.int .i64 ((j:Int)+1)) (es:=#[]) (by rw[b.z];exact aE (by decide) b.zz) i rfl rfl (λw _=>av0 (x:=.tmp 20) b.gW rfl (by omega) (by omega)) (λw _=>bg _) λo f y m=>
  bJ H.cmp (d:=20) (v:=.int .i64 ((j:Int)+1)) (es:=#[]) (by rw[f,b.z];exact aE (by decide) b.zz) s rfl rfl (λw _=>fg (x:=.tmp 27) y) (λw _=>bg _) λz r n c=>
   gV H.cmp (arO H.cmp λA C=>.stop λI q=>⟨rfl,z, ?_,rfl⟩)))) w (H.fN _ _)
 have a:=b.keep (T':=o) (f.trans b.z) λt e=>m t (by rintro rfl;cases e);refine⟨r.trans a.z,a.zz,(c 3 (by decide)).trans a.s3,(c 4 (by decide)).trans a.s4,(c 8 (by decide)).trans a.s8,(c 9 (by decide)).trans a.s9,(c 18 (by decide)).trans a.s18,(c 19 (by decide)).trans a.s19,by rw[n];rfl,λt e=>(c t (by rintro rfl;cases e)).trans (a.sv t e)⟩
def afD{val:Nat->Value}{A:aq->aq->Goroutine->World->Prop}{r:Nat}(h:bE prog true (X.Rl R) (X.Gr R) (λS g w=>(S=λ_=>False)/\tH prog eG.tWg X.Wg X.C X.n2 val A r R g w) (λ_=>False) g w):tH prog eG.tWg X.Wg X.C X.n2 val A r R g w:=by
 cases r with
 |zero=>exact bE.bind (X.mS _).fN (X.mS _).tr h λS g w ⟨hS,h⟩=>by subst hS;exact h
 |succ r=>exact bE.bind (X.mS _).fN (X.mS _).tr h λS g w ⟨hS,h⟩=>by subst hS;exact h
def adu(f:X.Ok){x:Int->List iw->Int->ByteArray×Bool}(N:eF x)(u:∀k nm,x k [] nm=(⟨#[]⟩,false)){val:Nat->Value}(i:∀C nm,X.dy[C]?=some nm->val (2*C)=.string (x X.key X.l nm).1/\val (2*C+1)=.bool (x X.key X.l nm).2) :
  ∀(r j:Nat) (R:aq) (T:Array Value) (w:World),j+r=X.n2->X.At R w->WgLive eG.tWg X.Wg w->X.Sl T j->tH prog eG.tWg X.Wg X.C X.n2 val (adt X xs bs) r R (Gl (FQ cB T (.code jh::kB)::xs) bs) w
 |0,j,R,T,w,hj,hat,o,hs=>by
  obtain rfl:j=X.n2:=hj;have M:X.Inv R (λ_=>False) w:=⟨λb h=>h.elim,hat,o,λb _ h=>h⟩;exact bE.bind (X.mS R).fN (X.mS R).tr (Mx.lift (aqj hs) M) λS g w ⟨⟨T',c,hS,hg⟩,d⟩=>by
   rw[hg];exact aih c d
 |r+1,j,R,T,w,hj,hat,o,hs=>by
  have l:j<X.n2:=by omega
  have M:X.Inv R (λ_=>False) w:=⟨λb h=>h.elim,hat,o,λb _ h=>h⟩;have F:X.n2-(r+1)=j:=by omega
  show bE prog true (X.Rl R) (X.Gr R) (λS g w=>arx prog eG.tWg X.Wg X.C X.n2 val (X.n2-(r+1)) (tH prog eG.tWg X.Wg X.C X.n2 val (adt X xs bs) r) R S g w) (λ_=>False) _ w;rw[F];refine bE.bind (X.mS R).fN (X.mS R).tr (Mx.lift (aqh f hs l hat) M) λS g w ⟨⟨T',bi,bn,nm,hnm,c,d10,d11,si,sn,ci,cn,hg⟩,d⟩=> ?_;rw[hg,aqk];have hI:=d.at_.nm f hnm;obtain⟨-, -, -,P⟩:=hI;refine aqf (b₀:=FQ cB #[] []) (a₀:=⟨T',[]⟩) (ops₀:=aaK) (i₀:=0) (rest₀:=[]) (k₀:=kA) (cs:=xs++bs) aaI (Q:=λw=>X.Inv R S w/\w.heap[bi]?=some (.cells #[.int .i64 j] 3)/\w.heap[bn]?=some (.cells #[.int .i64 nm] 3))
   (λw q h I=>⟨h.1.rely I,(I.keep bi (.inl si)).trans h.2.1,(I.keep bn (.inl sn)).trans h.2.2⟩) (λw v A h W=> ?_) (λw o h=> ?_) w d.live ⟨d,ci,cn⟩
  .have s:∀b,S b->(w.setCell (stA X.Wg) (.int .u64 A)).heap[b]?=w.heap[b]?:=λb n=>aY _ _ _ λe=>(h.1.s b n).2.2 e.symm;refine⟨⟨λb n=>⟨by rw[dj];exact(h.1.s b n).1,(h.1.s b n).2⟩,h.1.at_.wg _ _ rfl, ?_,h.1.sr⟩,(s bi si).trans h.2.1,(s bn sn).trans h.2.2⟩;exact⟨A,0,W.setSt A⟩
  .obtain⟨p6,a6,U⟩:=aBD;have O:G ((FQ cB #[] []).at ((⟨T',[]⟩:Act).put ((aaK[0]?).bind (·.dst)) (.tuple #[])) (.inRegion aaK []::kA)) (xs++bs)=Gl (FQ cB (T'.setIfInBounds 25 (.tuple #[])) (.inRegion aaK []::kA)::xs) bs:=by rw[U];rfl
   rw[O];have m:∀t,t≠25->(T'.setIfInBounds 25 (.tuple #[])).getD t undef=T'.getD t undef:=λt B=>by rw[aF (by rw[c.z];exact aE (by decide) c.zz),be B]
   have J:X.Sl (T'.setIfInBounds 25 (.tuple #[])) j:=c.keep (by simpa using c.z) λt B=>m t (by rintro rfl;cases B);refine bE.weak (λ_ _ _ h=>h) (λ_ _ _ _ _ h=>h) (λp g q h=> ?_) (Mx.lift (aql (nm:=nm) J ((m 10 (by decide)).trans d10) ((m 11 (by decide)).trans d11) si sn h.2.1 h.2.2) h.1);obtain⟨⟨rfl,E,K,T2,z,H,rfl⟩,y⟩:=h;have a:X.At (λb=>p b\/R b) q:=y.at_.grow y.s;refine⟨rfl,_,_,λb=>p b\/R b,avY H,λ_ h=>h,λZ o=> ?_, ?_⟩
   .obtain⟨v0,V⟩:=i j nm hnm
    let Y:Wx:=⟨q,X.Wg,X.C,X.n2,j,λb=>p b\/R b,X.Rg,X.key,X.A,X.n,X.c,X.l,nm,X.bk,X.bp,bn,X.ba,bi,eG.tWg⟩
    have D:Y.Ok:=⟨bd f.hN a.sz,f.gl,a.gr f,f.k1,f.k2,f.hl,f.hc,f.hcm,a.rd f,a.rgp f,f.al,P,l,λb n=>a.rows b (f.vr b n),⟨a.rk.1,(tE a.rk.2).1⟩,⟨a.rp.1,(tE a.rp.2).1⟩,⟨.inl sn,(tE K).1⟩,⟨a.ra.1,(tE a.ra.2).1⟩,⟨.inl si,(tE E).1⟩,a.rlt,a.rC,a.rW,f.cW⟩;have L:Y.Inv (λ_=>False) q:=⟨λ_ _=>rfl,λb h=>h.elim,a.ltC,a.ltW,am _,o,Z,rfl⟩;exact ako (X:=Y) D N u rfl v0 V L
   .-- the rounds that are left
    have nD:X.Inv (λb=>p b\/R b) (λ_=>False) q:=⟨λb h=>h.elim,a,y.live,λb _ h=>h⟩;have hx:=Mx.lift (aqm (S:=λ_=>False) (xs:=xs) (bs:=bs) f z l) nD;have k:∀(g:Goroutine) (w:World) (S:aq),((S=λ_=>False)/\∃T',X.Sl T' (j+1)/\g=Gl (FQ cB T' (.code jh::kB)::xs) bs)/\X.Inv (λb=>p b\/R b) S w->S=(λ_=>False)/\tH prog eG.tWg X.Wg X.C X.n2 val (adt X xs bs) r (λb=>p b\/R b) g w:=by
     rintro g w S ⟨⟨rfl,T',c,rfl⟩,d⟩;exact⟨rfl,adu f N u i r (j+1) _ T' w (by omega) d.at_ d.live c⟩
    exact afD (bE.weak (λ_ _ _ h=>h) (λ_ _ _ _ _ h=>h) (λS g w h=>k g w S h) hx)
end
def amR(Rr:aq):pO RlB Rr:=⟨λ_ w=>atRel_refl w,λ_ a b c h k=>atRel_trans a b c h k,λ_ w f ⟨d,e⟩=>by subst e;exact⟨λ_ _=>rfl,am _,rfl⟩⟩
def amS(aT S:aq)(w:World):Prop:=(∀b,S b->¬aT b)/\∀b,aT b->b<w.heap.size
def amS.rely{S : aq}(h:amS aT S w)(c:RlB S w V):amS aT S V:=⟨h.1,λb a=>aE (h.2 b a) ((amR S).rl _ _ _ c).2.1⟩
def atA{Rr S : aq}{w' : World}(s:∀b,Rr b->¬aT b)(i:amS aT S w)(g:pN Rr S R w w' es):GrB aT S R w w' es/\amS aT R w':=by
 obtain⟨t,l,u,rfl,o⟩:=g;have m:∀b,S b\/(w.heap.size<=b/\b<w'.heap.size)->¬aT b:=λb c d=>by
  rcases c with c|c
  .exact i.1 b c d
  .have:=i.2 b d;omega
 refine⟨⟨l,λe r=> ?_⟩,m,λb c=>aE (i.2 b c) l⟩;obtain⟨p,k,q⟩:=o e r;refine⟨λx n ⟨a,hl,d⟩=> ?_,λj=> ?_,λj=> ?_,q⟩
 .rcases p x n with h|⟨h, -⟩
  .rw[hl] at h;exact m _ h d
  .rw[hl] at h;exact s _ h d
 .rcases k _ j with⟨f,e⟩|e<;>cases e
 .rcases k _ j with⟨f,e⟩|e<;>cases e
section
variable {gs:Array Goroutine} {w:World} {sl:Option (Nat×Nat)} {t:Trace} {q:Nat->Nat} {aT V:aq} {T:Array Value} {xs:List Frame}
def aDI (J:gs[0]?=some (Gl (FQ cB X [.code acp]::xs) [])) (U:45<=X.size) {A2 : Option Addr} (Z:(Y:Int)<=2147483647) (M:X.getD 0 undef=.int .i64 key) (s1:X.getD 1 undef=.slice A n c) (L:X.getD 2 undef=.slice A2 Y i)
  (P:Leavers prog t gs q) (hP:eK aT (gs.size-1) w.heap.size t) (x:∀b,aT b->b<w.heap.size) (I:∀b,V b->b<w.heap.size/\¬aT b) :
  ∃(N:Nat) (l:Array Goroutine) (f:World) (r:Option (Nat×Nat)) (s:Trace) (y:Nat->Nat) (T:Array Value) (m j C o:Nat) (p:Array Value),runNT prog N (crowd gs w sl) t=(.next (crowd l f r),s)/\l.size=gs.size/\
   l[0]?=some (Gl (FQ cB T [.code (.region 2 oB false),.code gv]::xs) [])/\Leavers prog s l y/\eK aT (gs.size-1) f.heap.size s/\T.size=X.size/\(∀t,(t<3\/aaH t=true)->T.getD t undef=X.getD t undef)/\
   (T.getD 3 undef=.pointer (some ⟨m,0,none⟩)/\T.getD 4 undef=.pointer (some ⟨j,0,none⟩)/\T.getD 6 undef=.slice none 0 0/\T.getD 7 undef=.bool false/\T.getD 8 undef=.pointer (some ⟨o,0,none⟩)/\T.getD 17 undef=.slice (some ⟨C,0,none⟩) Y Y)/\
   ((∀b,V b->f.heap[b]?=w.heap[b]?)/\w.heap.size<=f.heap.size/\f.ou=w.ou)/\(w.heap.size<=m/\m<j/\j<C/\C<o)/\f.heap[m]?=some (.cells #[.int .i64 key] 3)/\f.heap[j]?=some (.cells #[.slice A n c] 23)/\p.size=2*Y/\f.heap[C]?=some (.cells p 160)/\f.heap[o]?=some (.cells #[.slice (some ⟨C,0,none⟩) Y Y] 149):=by
 have W:=amM (xs:=xs) (base:=[]) (k:=[]) (S:=λ_=>False) (w0:=w) (Rr:=V)
  (St:=λ_ g f=>∃(T:Array Value) (m j C o:Nat) (p:Array Value),g=Gl (FQ cB T [.code (.region 2 oB false),.code gv]::xs) []/\T.size=X.size/\(∀t,(t<3\/aaH t=true)->T.getD t undef=X.getD t undef)/\
   (T.getD 3 undef=.pointer (some ⟨m,0,none⟩)/\T.getD 4 undef=.pointer (some ⟨j,0,none⟩)/\T.getD 6 undef=.slice none 0 0/\T.getD 7 undef=.bool false/\T.getD 8 undef=.pointer (some ⟨o,0,none⟩)/\T.getD 17 undef=.slice (some ⟨C,0,none⟩) Y Y)/\
   ((∀b,V b->f.heap[b]?=w.heap[b]?)/\w.heap.size<=f.heap.size/\f.ou=w.ou)/\(w.heap.size<=m/\m<j/\j<C/\C<o)/\f.heap[m]?=some (.cells #[.int .i64 key] 3)/\f.heap[j]?=some (.cells #[.slice A n c] 23)/\p.size=2*Y/\f.heap[C]?=some (.cells p 160)/\f.heap[o]?=some (.cells #[.slice (some ⟨C,0,none⟩) Y Y] 149))
  (amR V) U rfl Z M s1 L λT S' f m j C o p B K F v R Q cp E cC O=>.stop λw1 ⟨d,e⟩=>by
   subst e;exact⟨T,m,j,C,o,p,rfl,B,K,F,⟨λb u=>v.keep b (I b u).1 (.inr u),v.size,v.os⟩,R,Q,cp,E,cC,O⟩
 have H:=bE.inv (Gr2:=GrB aT) (Inv:=amS aT) (agX:=λ_ g f=>_) (λ_ _ _ h D=>h.rely D) (λ_ _ _ _ _ h g=>atA (λb u=>(I b u).2) h g) (λ_ _ _ h _=>h) W ⟨λ_ h=>h.elim,x⟩;obtain⟨N,l,a,f,r,s,y,S',D,B,ha,⟨T,m,j,C,o,p,rfl,F⟩,G,z⟩:=aac (sl:=sl) aa7 J P hP H;exact⟨N,l,f,r,s,y,T,m,j,C,o,p,D,B,ha,G,z,F⟩
def GrE(_ _:aq)(w w':World)(es:Array Event):Prop:=es=#[]/\w.heap.size<=w'.heap.size
def afZ{B0:Nat}:ayb GrE (λK B t=>eK aT K B t/\∀op∈t,op.act.low B0) where
 own:=λ{K t S l w k f} fn c ⟨b,hz⟩ ⟨hP,hl⟩=>by
  subst b;refine⟨hP.own hz λe h=>by simp at h,λop a=> ?_⟩;rcases vG.1 a with h|h
  .exact hl op h
  .obtain⟨e,b, -⟩:=lE h;simp at b
 mute:=λ{K B t g f} fn c i j d ⟨hP,hl⟩=>by
  refine⟨hP.mute i j d,seen_app hl λop a=> ?_⟩;obtain⟨e,b,rfl⟩:=lE a;exact low_mute (d e b) B0
def aDJ(C:gs[0]?=some (Gl (FQ cB T [.code (.region 2 oB false),.code gv]::xs) []))(v:45<=T.size)(F:Leavers prog t gs q)(x:eK aT (gs.size-1) w.heap.size t) :
  ∃(N:Nat) (b:Array Goroutine) (c:World) (d:Option (Nat×Nat)) (e:Trace) (s:Nat->Nat) (T':Array Value),runNT prog N (crowd gs w sl) t=(.next (crowd b c d),e)/\b.size=gs.size/\b[0]?=some (Gl (FQ cB T' [.code gv]::xs) [])/\Leavers prog e b s/\
   eK aT (gs.size-1) c.heap.size e/\(∀op∈e,op.act.low w.heap.size)/\T'.size=T.size/\T'.getD 9 undef=.pointer (some ⟨w.heap.size,0,none⟩)/\(∀t,t≠9->T'.getD t undef=T.getD t undef)/\c.heap=w.heap.push (wgBlock eG.tWg 0 0)/\c.ou=w.ou:=by
 obtain⟨R,Q,u⟩:=aDr;obtain⟨i,z,J,l,M⟩:=av3;have o:List.range oB.size=[0]:=rfl;have K:bE prog true RlB GrE (λ_ g c=>g=Gl (FQ cB (T.setIfInBounds 9 (.pointer (some ⟨w.heap.size,0,none⟩))) [.code gv]::xs) []/\c.heap=w.heap.push (wgBlock eG.tWg 0 0)/\c.ou=w.ou) (λ_=>False) (Gl (FQ cB T [.code (.region 2 oB false),.code gv]::xs) []) w:=by
  refine .step rfl λy ⟨d1,e1⟩=>⟨Gl (FQ cB T [.inRegion oB [0],.code gv]::xs) [],y,#[],λ_=>False,by simp[Gl,stepG,stepG.exec,o],⟨rfl,am _⟩, ?_⟩;refine .step rfl λj ⟨d2,e2⟩=> ?_;have f:=anI (m:=true) (fr:=FQ cB T [.inRegion oB [0],.code gv]) (xs:=xs) (base:=[]) (w:=j) rfl rfl rfl rfl u rfl (aaj (w:=j) J l);rw[wF,M] at f;refine⟨_,_,#[],λ_=>False,f,⟨rfl,by rw[mu];omega⟩, ?_⟩;have k:j.heap.size=w.heap.size:=by rw[e2,e1];rfl
  have H:Frame.finish (FQ cB T [.inRegion oB [0],.code gv]) (.pointer (some ⟨j.heap.size,0,none⟩))=FQ cB (T.setIfInBounds 9 (.pointer (some ⟨w.heap.size,0,none⟩))) [.inRegion oB [],.code gv]:=by
   simp only[Frame.finish,u,qC,k]
  rw[H];refine .step rfl λB ⟨d3,e3⟩=>⟨Gl (FQ cB (T.setIfInBounds 9 (.pointer (some ⟨w.heap.size,0,none⟩))) [.code gv]::xs) [],B,#[],λ_=>False,by simp[Gl,stepG,stepG.exec],⟨rfl,am _⟩,.stop λO ⟨d4,e4⟩=>⟨rfl, ?_, ?_⟩⟩
  .rw[e4,e3,e2,e1];rfl
  .rw[e4,e3,e2,e1];rfl
 obtain⟨N,b,a,c,d,e,s,P,I,G,L,⟨rfl,E,A⟩,r,n,p⟩:=aac (sl:=sl) (afZ (aT:=aT) (B0:=w.heap.size)) C F ⟨x,x.seen⟩ K;exact⟨N,b,c,d,e,s,_,I,G,L,r,n,p,by simp,by rw[aF (aE (by decide) v),dl rfl],λt D=>by rw[aF (aE (by decide) v),be D],E,A⟩
end
def lv{N : Nat}{m m':Machine}{a : Trace}{r:Stepped×Trace}(h:runNT P N m t=(.next m',a))(b:runNT P Y m' a=r):runNT P (N+Y) m t=r:=by
 rw[runNT_add,h];exact b
section
variable {X:Mx} {R:aq} {T:Array Value} {w:World} {xs bs:List Frame}
structure Mx.Pre (X:Mx) (T:Array Value):Prop where
 z:T.size=X.Z
 zz:45<=X.Z
 s2:T.getD 2 undef=.slice X.A2 X.n2 X.c2
 s3:T.getD 3 undef=.pointer (some ⟨X.bk,0,none⟩)
 s4:T.getD 4 undef=.pointer (some ⟨X.bp,0,none⟩)
 s8:T.getD 8 undef=.pointer (some ⟨X.ba,0,none⟩)
 s9:T.getD 9 undef=.pointer (some ⟨X.Wg,0,none⟩)
 sv:∀t,amO t=true->T.getD t undef=X.sv t
def akv(a:X.Pre T):bE prog true (X.Rl R) (pN R) (λS g _=>(S=λ_=>False)/\∃c,X.Sl c 0/\g=Gl (FQ cB c (.code jh::kB)::xs) bs) (λ_=>False) (Gl (FQ cB T [.code gv]::xs) bs) w:=by
 have H:=X.mS R;unfold gv;refine eB H.cmp (eB H.cmp (fQ H.cmp (l:=[0,1,2]) rfl λq o=>av4 H a.zz a.z a.s2 λc k b e d f=>aeV H.cmp (anK H.cmp λm n=>.stop λp j=>⟨rfl,c, ?_,rfl⟩))) w (H.fN _ _);refine⟨k,a.zz,(b 3 (by decide) (by decide) (by decide)).trans a.s3,(b 4 (by decide) (by decide) (by decide)).trans a.s4,(b 8 (by decide) (by decide) (by decide)).trans a.s8,(b 9 (by decide) (by decide) (by decide)).trans a.s9,e,d,f,λt i=>(b t ?_ ?_ ?_).trans (a.sv t i)⟩<;>(rintro rfl;cases i)
end
def af0(h:∀op∈t,op.act.low a.block):NoRelease a t:=λi d=>by
 unfold Trace.act? at d;obtain⟨op,e,b⟩:=gE.1 d;have c:=h op (qx e);rw[b] at c;exact Nat.lt_irrefl _ c
section
variable {X:Mx} {R:aq} {gs:Array Goroutine} {w:World} {sl:Option (Nat×Nat)} {t:Trace} {q:Nat->Nat} {aT:aq} {T:Array Value} {xs:List Frame}
def aDK (D:X.Ok) (hF:eF Z) (M:∀a4 nm,Z a4 [] nm=(⟨#[]⟩,false)) (h0:gs[0]?=some (Gl (FQ cB T [.code gv]::xs) [])) (hs:X.Pre T)
  (hL:Leavers prog t gs q) (hP:eK aT (gs.size-1) w.heap.size t) (z:∀op∈t,op.act.low X.Wg) (eY:WgAt eG.tWg X.Wg w 0 0) (L:PayAt X.C (2*X.n2) w) (j:X.At R w) (u:∀b,aT b->¬R b/\b≠X.C/\b<w.heap.size) :
  ∃(N:Nat) (n:Array Goroutine) (m:World) (an:Option (Nat×Nat)) (H:Trace) (q':Nat->Nat) (T':Array Value) (R':aq),runNT prog N (crowd gs w sl) t=(.next (crowd n m an),H)/\
   n[0]?=some (Gl (FQ cB T' [.code cM]::xs) [])/\Leavers prog H n q'/\eK (λb=>b=X.Wg\/aT b) (n.size-1) m.heap.size H/\X.Sl T' X.n2/\X.At R' m/\PayAt X.C (2*X.n2) m/\
   (∀f nm,X.dy[f]?=some nm->Has X.C (2*f) (.string (Z X.key X.l nm).1) m/\Has X.C (2*f+1) (.bool (Z X.key X.l nm).2) m)/\(∀b,b=X.Wg\/aT b->b<m.heap.size):=by
 have gS:0<gs.size:=(dk.1 h0).1
 let val:Nat->Value:=λi=>if i % 2=0 then .string (Z X.key X.l (X.dy.getD (i / 2) 0)).1 else .bool (Z X.key X.l (X.dy.getD (i / 2) 0)).2
 have o:∀f nm,X.dy[f]?=some nm->val (2*f)=.string (Z X.key X.l nm).1/\val (2*f+1)=.bool (Z X.key X.l nm).2:=λf nm h=>by
  have e1:2*f % 2=0:=by omega
  have Q:(2*f+1) % 2≠0:=by omega
  have e3:2*f / 2=f:=by omega
  have e4:(2*f+1) / 2=f:=by omega
  have e5:X.dy.getD f 0=nm:=by rw[sK,h];rfl
  exact⟨by simp only[val,e1,e3,e5,ph],by simp only[val,be Q,e4,e5]⟩
 have hi:X.Inv R (λ_=>False) w:=⟨λb h=>h.elim,j,⟨_,_,eY⟩,λb _ h=>h⟩;have V:tH prog eG.tWg X.Wg X.C X.n2 val (adt X xs []) X.n2 R (Gl (FQ cB T [.code gv]::xs) []) w:=
  afD (bE.weak (λ_ _ _ h=>h) (λ_ _ _ _ _ h=>h) (λS g w h=>by
   obtain⟨⟨rfl,s,r,rfl⟩,v⟩:=h;exact⟨rfl,adu D hF M o X.n2 0 R s w (by omega) v.at_ v.live r⟩) (Mx.lift (akv hs) hi))
 have F:Sets X.Wg X.C aT w R (λ_=>False) (λ_ _=>False) (λ_ _=>False):=
  ⟨j.rlt,λb h=>h.elim,λ_ b h=>h.elim,λ_ b h=>h.elim,λb _ h=>h,λ_ b h=>h.elim,λ_ b h=>h.elim,λ_ _ b h=>h.elim,j.ltW,j.ltC,D.cW,j.rW,λh=>h,λ_ h=>h,j.rC,λh=>h,λ_ h=>h,λb h=>(u b h).1,λ_ _ h=>h,λ_ _ _ h=>h,λh=>(u _ h).2.1 rfl,λb h=>(u b h).2.2⟩
 have ax:=D.n2m;obtain⟨N,m',t1,U,a0,C,ad,a,q1,y,S1,rfl,W,ao,⟨s,r,a8⟩,a1,K,a5,a7, -,J⟩:=
  ai5 (sl:=sl) (K0:=gs.size-1) (Fin:=aBG X xs []) (by omega) (λR S g w ⟨_,T,_,T2,e,_⟩=>by rw[e];rfl) (λR S g w h=>awc h) h0 (by omega) hL hP V eY L
   (λi x hx a W e=>agt (S:=λb=>b=X.Wg) z hx (λb I=>mt I.symm) (by rw[W];exact e)) (af0 z) F
 have hG:bE prog true RlB (λS S' w m es=>m=w/\es=#[]/\S'=S) (λ_ g w=>(g=Gl (FQ cB s [.code cM]::xs) []/\X.At y w)) (λ_=>False) a C:=by
  refine bE.bind (λ_ w=>atRel_refl w) (λ_ a b c h k=>atRel_trans a b c h k) (bE.abN (R:=RM eG.tWg X.Wg X.C X.n2 y S1) (Stop:=λS g w=>S=(λ_=>False)/\(g=Gl (FQ cB s (.inRegion jK []::[.code cM])::xs) []/\WgLive eG.tWg X.Wg w)/\X.At y w) (λw C ⟨d,e⟩=>e▸jC.at _ _ _ _ _) (λw m es h=>⟨h.1,h.2,rfl⟩) (λg w h=>⟨rfl,h⟩) a8) ?_;rintro S g w ⟨rfl,⟨rfl, -⟩,j⟩;exact .step rfl λE ⟨d2,Q⟩=>⟨Gl (FQ cB s [.code cM]::xs) [],E,#[],λ_=>False,by simp[Gl,stepG,stepG.exec],⟨rfl,rfl,rfl⟩,.stop λw3 ⟨d3,e3⟩=>⟨rfl,by rw[e3,Q];exact j.move (λ_ _=>rfl) (am _) rfl⟩⟩
 have af:=bE.inv (Gr2:=GrB λb=>b=X.Wg\/aT b) (Inv:=λ_ w=>w.heap=C.heap) (agX:=λS g w=>(g=Gl (FQ cB s [.code cM]::xs) []/\X.At y w)/\w.heap=C.heap) (λ_ _ _ h ⟨d,e⟩=>by rw[e];exact h) (λ_ _ _ _ _ h g=>by
  obtain⟨rfl,rfl,rfl⟩:=g;exact⟨⟨am _,λe h=>by simp at h⟩,h⟩) (λ_ _ _ h k=>⟨h,k⟩) hG rfl
 have Y:a0.size-1=gs.size-1+X.n2:=by omega
 obtain⟨N2,a6,a2,E,aa,t2,q2,S2,G,P,a9,⟨⟨rfl,O⟩,p⟩,al,a3⟩:=aac (sl:=ad) (aa7 (aT:=λb=>b=X.Wg\/aT b)) W a1 (by rw[Y];exact K) af;refine⟨N+N2,a6,E,aa,t2,q2,s,y, ?_,a9,al,by rw[P];exact a3,r,O, ?_,λf nm B=> ?_,λb I=> ?_⟩
 .exact lv U G
 .obtain⟨cs,h1,h2⟩:=a5;exact⟨cs,by rw[p];exact h1,h2⟩
 .obtain⟨v0,v1⟩:=o f nm B;have gG:f<X.n2:=by rw[<-D.nn];exact(li.1 B).1
  obtain⟨g0,g1⟩:=a7 f gG;rw[v0] at g0;rw[v1] at g1;have l:∀A,E.cell? A=C.cell? A:=λA=>fX (by rw[p]);exact⟨(l _).trans g0,(l _).trans g1⟩
 .rw[p];exact(J b (I.elim .inr .inl)).2.2.2
end
def JW(t:Nat):Bool:=t ==3||t ==4||t ==5||t ==9||t ==10||t ==11||t ==13||t ==15||t ==16||(decide (18<=t)&&decide (t<=28))
def awd:jY JW cM=true:=by kernel_rfl
def aBJ:jY JW (f158.body.getD .skip)=false:=by kernel_rfl
def aBK:jY JW (f64.body.getD .skip)=false:=by kernel_rfl
def azh :Frame.enter prog cB X .normal=FQ cB (T0F X) [.code acp]:=by
 have a:prog.funcs[cB]?=some f64:=func64;unfold Frame.enter;rw[a];rfl
def amT{t : Array Value}(_:X.size=t.size)(h:∀i,JW i=false->X[i]?=t[i]?):results f64 X=results f64 t:=by
 have e:∀i,JW i=false->X.getD i undef=t.getD i undef:=λi c=>by rw[gc,gc,h i c]
 have a:=e 6 rfl;have b:=e 7 rfl;simp only[gc] at a b;simp[results,results64,a,b]
section
variable {gs:Array Goroutine} {w:World} {sl:Option (Nat×Nat)} {t:Trace} {q:Nat->Nat} {aT:aq}
def atB (hF:eF Z) (af:∀v nm,Z v [] nm=(⟨#[]⟩,false)) {R:List Frame->World->Prop} {c:Cfg} {ρ:Ren} {a O:Array Value} {m m':List Frame}
  (bw:cZ ρ a O) (Y:iz (ah true) ρ m m') (hc:c.l=Frame.enter (ah true) cB a .normal::m) (hw:WR ρ c.w w) (hg:GlR ρ) (hW:jQ (ah true) R c)
  (h0:gs[0]?=some (Gl (Frame.enter prog cB O .normal::m') [])) (hL:Leavers prog t gs q) (hP:eK aT (gs.size-1) w.heap.size t) (a0:∀b,aT b->b<w.heap.size) (bS:∀b f,ρ.r b f->¬aT f) :
  ∃(N:Nat) (B:Array Goroutine) (D:World) (c4:Option (Nat×Nat)) (t':Trace) (q':Nat->Nat) (Wg:Nat) (I:Cfg) (x:Ren) (l1 lR:List Frame),runNT prog N (crowd gs w sl) t=(.next (crowd B D c4),t')/\
   B[0]?=some (Gl lR [])/\Leavers prog t' B q'/\eK (λb=>b=Wg\/aT b) (B.size-1) D.heap.size t'/\w.heap.size<=Wg/\(∀b,b=Wg\/aT b->b<D.heap.size)/\
   im (ah true) I c/\ρ.Le x/\iz (ah true) x I.l l1/\WR x I.w D/\jQ (ah true) R I/\(∀b f,x.r b f->ρ.r b f\/(w.heap.size<=f/\f≠Wg))/\Rt prog JW l1 lR/\(∀b,b<w.heap.size->¬aT b->D.heap[b]?=w.heap[b]?)/\D.ou=w.ou/\w.heap.size<=D.heap.size/\PkG ρ c.w w I.w D:=by
 obtain⟨v,A,n,cc,l,A2,n2,c2,dy,I,e,ax,bp,a1,a6⟩:=ap5 hF bw Y hc hw hg hW;have U:45<=(T0F O).size:=by simp only[T0F,rX,sQ];omega
 rw[azh] at h0
 let V:aq:=λb=>b<w.heap.size/\¬aT b
 obtain⟨N1,c5,o,bf,t1,q1,T,bk,S,C,P,cs,ay,b0,a8,b5,a3,W,p,⟨u3,u4,u6,u7,u8,bu⟩,⟨bO,a4,bz⟩,⟨lk,lp,lC,la⟩,ck,cp,b7,cC,ca⟩:=aDI (sl:=sl) (V:=V) h0 U e.n2m e.s0 e.s1 e.s2 hL hP a0 λb d=>d;rw[<-b0] at a3;obtain⟨N2,c6,w2,bV,t2,q2,T',a9,an,c1,bm,a5,bo,ad,u9,bt,L,iU⟩:=aDJ (sl:=bf) a8 (by rw[W];exact U) b5 a3;rw[<-an] at a5;have bT:=ji cC;have aL:=ji ca;have r:∀b,b<o.heap.size->w2.heap[b]?=o.heap[b]?:=λb d=>by rw[L,qy,be (by omega)]
 have c7:w2.heap.size=o.heap.size+1:=by rw[L,Array.size_push]
 let X:Mx:=⟨w,o.heap.size,C,n2,λb=>∃a,ρ.r a b,v,A,n,cc,l,A2,c2,dy,bk,S,P,λt=>T'.getD t undef,T'.size,V⟩
 have H:∀b,(∃a,ρ.r a b)->V b:=λb ⟨a,hab⟩=>⟨(hw.lt hab).2,bS a b hab⟩;have ok:X.Ok:=⟨hw.kE.2,λg bn=>⟨g,hg g bn⟩,e.k1,e.k2,e.ln,e.nc,e.cm,e.gl,e.rd,e.rg,e.al,e.al2,e.nm,e.nn,e.n2m,(by show C≠o.heap.size;omega),H⟩
 let R0:aq:=λb=>V b\/b=bk\/b=S\/b=P
 have bR:X.At R0 w2:=by
  refine⟨λb d=>(r b (aE d.1 a4)).trans (bO b d), ?_,iU.trans bz,λb d=>.inl d,⟨.inr (.inl rfl),(r bk (by omega)).trans ck⟩,⟨.inr (.inr (.inl rfl)),(r S (by omega)).trans cp⟩,⟨.inr (.inr (.inr rfl)),(r P aL).trans ca⟩,λb d=> ?_,λd=> ?_,λd=> ?_, ?_, ?_⟩
  .show w.heap.size<=w2.heap.size;omega
  .rcases d with d|rfl|rfl|rfl
   .have:=d.1;omega
   all_goals omega
  .rcases d with d|d|d|d
   .have:C<w.heap.size:=d.1;omega
   .have:C=bk:=d;omega
   .have:C=S:=d;omega
   .have:C=P:=d;omega
  .rcases d with d|d|d|d
   .have:o.heap.size<w.heap.size:=d.1;omega
   .have:o.heap.size=bk:=d;omega
   .have:o.heap.size=S:=d;omega
   .have:o.heap.size=P:=d;omega
  .show C<_;omega
  .show o.heap.size<_;omega
 have s:∀t,t≠9->T'.getD t undef=T.getD t undef:=bt;have bL:X.Pre T':=⟨rfl,by show 45<=T'.size;omega,(s 2 (by decide)).trans ((p 2 (.inl (by decide))).trans e.s2),(s 3 (by decide)).trans u3,(s 4 (by decide)).trans u4,(s 8 (by decide)).trans u8,u9,λt ht=>rfl⟩;obtain⟨N3,b8,w3,aa,t3,q3,G,R3,ba,b1,ao,br,F,k,⟨M,K,c0⟩,Q,bI⟩:=aDK (X:=X) (sl:=bV) ok hF af c1 bL bm a5 bo
  (by show w2.heap[o.heap.size]?=_;rw[L,qM]) ⟨cs,(r C bT).trans cC,b7⟩ bR λb d=>by
   have c8:=a0 b d;refine⟨λh=> ?_,(by show b≠C;omega),by omega⟩;rcases h with h|h|h|h
   .exact h.2 d
   all_goals omega
 have a7:w.heap.size<=w3.heap.size:=k.sz;have bb:∀E nm,dy[E]?=some nm->M[2*E]?=some (.string (Z v l nm).1)/\M[2*E+1]?=some (.bool (Z v l nm).2):=λE nm h=>
  ⟨akd (A:=⟨C,2*E,none⟩) (z:=(0,0)) (t:=160) K (Q E nm h).1,akd (A:=⟨C,2*E+1,none⟩) (z:=(0,0)) (t:=160) K (Q E nm h).2⟩
 obtain⟨b4,T2,bi,b6,aJ,c3,aK,J,t6,t7,t8,b2,bx⟩:=a6 w3 C P M (λb f d=>k.keep f (H f ⟨b,d⟩)) k.os a7 (by omega) (by omega) (by omega) K c0 bb k.ra.2;obtain⟨_,_,y,ys,e1,aX⟩:=Y.ne';have bl:G.size=(T0F O).size:=F.z.trans (ad.trans W);have b3:∀i,i<(T0F O).size->G.getD i undef=T2.getD i undef->G[i]?=T2[i]?:=λi hi h=>by
  rw[vx (by omega),vx (by omega),h]
 refine⟨N1+(N2+N3),b8,w3,aa,t3,q3,o.heap.size,I,b4,FQ cB T2 [.code cM]::m',FQ cB G [.code cM]::m',lv ay (lv a9 ba),b1,ao,br,a4,bI,ax,bi,b6,aJ,bp,λb f d=> ?_, ?_,λb d hn=>k.keep b ⟨d,hn⟩,k.os,a7,λb f d a2=>⟨(a1 b f d a2).1,λi u hu bC=>⟨(a1 b f d a2).2 i u hu bC,iW (k.keep f (H f ⟨b,d⟩))⟩⟩⟩
 .rcases c3 b f d with h|rfl|rfl
  .exact .inl h
  .exact .inr ⟨by omega,by omega⟩
  .exact .inr ⟨by omega,by omega⟩
 .refine .inr ⟨FQ cB T2 [.code cM],FQ cB G [.code cM],m',rfl,rfl,by rw[aX];simp,⟨rfl,rfl,⟨rfl,rfl⟩,rfl,⟨rfl,rfl⟩,⟨rfl,rfl⟩,bl.trans aK.symm,λi hi=> ?_, ?_⟩,_,func64,λt t' hz h=>amT hz h⟩
  .refine(pa i (T0F O).size).elim (λaP=> ?_) λnu=> ?_
   case refine_2=> 
    show G[i]?=T2[i]?;rw[qa (by omega),qa (by omega)]
   have al:i=0\/i=1\/i=2\/i=6\/i=7\/i=8\/i=17\/aaH i=true:=by
    simp only[JW,wl,dq,sH,sW] at hi;simp only[aaH,qT,mp,qH];omega
   refine b3 i aP ?_;have j:∀t,amO t=true->G.getD t undef=T'.getD t undef:=F.sv;rcases al with rfl|rfl|rfl|rfl|rfl|rfl|rfl|hid
   .rw[j 0 rfl,s 0 (by decide),p 0 (.inl (by decide)),J 0 (by decide)]
   .rw[j 1 rfl,s 1 (by decide),p 1 (.inl (by decide)),J 1 (by decide)]
   .rw[j 2 rfl,s 2 (by decide),p 2 (.inl (by decide)),J 2 (by decide)]
   .rw[j 6 rfl,s 6 (by decide),u6,t6]
   .rw[j 7 rfl,s 7 (by decide),u7,t7]
   .rw[F.s8,t8]
   .rw[j 17 rfl,s 17 (by decide),bu,b2]
   .have b9:amO i=true:=by simp only[amO,hid,Bool.or_true]
    rw[j i b9,s i (by rintro rfl;cases hid),p i (.inr hid),bx i hid]
  .simp only[qu,vF,uA,lV];exact awd
end
structure aoi (R:List Frame->World->Prop) (W:World) (S0:aq) (aT:aq) (ρ:Ren) (c:Cfg) (w:World):Prop where
 lax:ρ.lax=false
 wr:WR ρ c.w w
 gl:GlR ρ
 will:jQ (ah true) R c
 rng:∀b b',ρ.r b b'->S0 b'\/(W.heap.size<=b'/\¬aT b')
 sh:∀b,aT b->W.heap.size<=b/\b<w.heap.size
 s0:∀b,S0 b->b<W.heap.size
 keep:∀b,b<W.heap.size->¬S0 b->w.heap[b]?=W.heap[b]?
 os:w.ou=W.ou
 sz:W.heap.size<=w.heap.size
structure amV (W:World) (S0 aT S:aq) (w:World):Prop where
 s:∀b,S b->S0 b\/(W.heap.size<=b/\¬aT b)
 sh:∀b,aT b->b<w.heap.size
 keep:∀b,b<W.heap.size->¬S0 b->w.heap[b]?=W.heap[b]?
 os:w.ou=W.ou
 sz:W.heap.size<=w.heap.size
section
variable {W:World} {S0 aT S S':aq} {w w':World} {es:Array Event}
def amV.rely(h:amV W S0 aT S w)(a:RlB S w w'):amV W S0 aT S w':=by
 obtain⟨d,rfl⟩:=a;exact⟨h.s,h.sh,h.keep,h.os,h.sz⟩
def amV.step(f:∀b,S0 b->b<W.heap.size)(l:∀b,aT b->W.heap.size<=b)(h:amV W S0 aT S w)(g:pN (λ_=>False) S S' w w' es):GrB aT S S' w w' es/\amV W S0 aT S' w':=by
 have j:amS aT S w:=⟨λb a c=>(h.s b a).elim (λx=>by have:=f b x;have:=l b c;omega) λx=>x.2 c,h.sh⟩;obtain⟨m,e⟩:=atA (λ_ h=>h.elim) j g;obtain⟨i,k,n,rfl,o⟩:=g;refine⟨m,λb a=> ?_,e.2,λb a d=> ?_,n.trans h.os,bd h.sz k⟩
 .rcases a with a|a
  .exact h.s b a
  .exact .inr ⟨bd h.sz a.1,λc=>by have:=h.sh b c;omega⟩
 .rw[i b (aE a h.sz) λc=> ?_]
  .exact h.keep b a d
  .rcases h.s b c with x|x
   .exact d x
   .omega
end
theorem atC{fv:Int->List iw->Int->ByteArray×Bool}(hF:eF fv)(hF0:∀key nm,fv key [] nm=(⟨#[]⟩,false)){R:List Frame->World->Prop}{W:World}{S0:aq}{c:Cfg}(alq:Acc (im (ah true)) c) :
  ∀{ρ:Ren} {aT:aq} {l' lR:List Frame} {w:World} {gs:Array Goroutine} {sl:Option (Nat×Nat)} {t:Trace} {q:Nat->Nat},aoi R W S0 aT ρ c w->iz (ah true) ρ c.l l'->Rt prog JW l' lR->gs[0]?=some (Gl lR [])->Leavers prog t gs q->eK aT (gs.size-1) w.heap.size t->
   ∃(N:Nat) (gs':Array Goroutine) (w':World) (sl':Option (Nat×Nat)) (t':Trace) (q':Nat->Nat) (aBO:aq) (c1:Cfg) (ρ1:Ren) (l1:List Frame),runNT prog N (crowd gs w sl) t=(.next (crowd gs' w' sl'),t')/\
    gs'[0]?=some (Gl l1 [])/\Leavers prog t' gs' q'/\eK aBO (gs'.size-1) w'.heap.size t'/\aoi R W S0 aBO ρ1 c1 w'/\oX c1.l/\iz (ah true) ρ1 c1.l l1/\ρ.Le ρ1/\PkG ρ c.w w c1.w w':=by
 induction alq with
 |intro c _ ih=>
  intro ρ aT l' lR w gs sl t q h hst hR h0 hL hP;have alq:Acc (im (ah true)) c:=h.will.acc.transGen;have Hb:=amR (λ_=>False);have ay5:ai7 (ah true) R (λ_=>False) (λb=>S0 b\/(W.heap.size<=b/\¬aT b)) ρ c l' w:=⟨hst,h.wr,h.gl,h.will,λb b' hb=>.inl (h.rng b b' hb)⟩;have atf:=ai9 (lQ true) (awC true) Hb.fN Hb.tr Hb.rl Hb.cmp.gr (axf aBJ aBK) (agu Hb.cmp) (main:=true) (base:=[]) alq ay5 hR;have hG:=bE.inv (Gr2:=GrB aT) (Inv:=amV W S0 aT) (λ_ _ _ a b=>a.rely b) (λ_ _ _ _ _ a b=>a.step h.s0 (λb hb=>(h.sh b hb).1) b) (λ_ _ _ a b=>And.intro a b) atf ⟨λb hb=>hb,λb hb=>(h.sh b hb).2,h.keep,h.os,h.sz⟩;obtain⟨N,gs1,a1,w1,sl1,t1,q1,S1,hr1,hz1,ha1,⟨⟨c1,ρ1,l1,hor,hle, -,rfl,bI,hg1,hW1,py,awe,hend⟩,mo⟩,hL1,hP1⟩:=aac (sl:=sl) aa7 h0 hL hP hG;rw[<-hz1] at hP1;have ahD:∀b b',ρ1.r b b'->S0 b'\/(W.heap.size<=b'/\¬aT b'):=λb b' hb=>(py b b' hb).elim (mo.s b') λx=>x.1.elim;have aBP:ρ1.lax=false:=hle.lax.symm.trans h.lax;rcases hend with⟨hf,aqn⟩|⟨a,a',m,m',hva,aDT,hc1,hl1⟩
  .exact⟨N,gs1,w1,sl1,t1,q1,aT,c1,ρ1,l1,hr1,ha1,hL1,hP1,⟨aBP,bI,hg1,hW1,ahD,λb hb=>⟨(h.sh b hb).1,mo.sh b hb⟩,h.s0,mo.keep,mo.os,mo.sz⟩,hf,aqn,hle,awe⟩
  .rw[hl1] at ha1;have hns:∀b b',ρ1.r b b'->¬aT b':=λb b' hb hs=>(ahD b b' hb).elim (λx=>by have:=h.s0 _ x;have:=(h.sh _ hs).1;omega) λx=>x.2 hs;obtain⟨N2,gs2,w2,sl2,t2,q2,Wg,c2,ρ2,l2,lR2,hr2,ha2,hL2,hP2,hWg,aDU,axm,ap0,aeD,hw2,hW2,aBQ,hR2,hk2,iU,hz2,asl⟩:=atB (sl:=sl1) hF hF0 hva aDT hc1 bI hg1 hW1 ha1 hL1 hP1 mo.sh hns;have arV:im (ah true) c2 c:=by
    rcases hor with e|e
    .rw[<-e];exact axm
    .exact sX axm e
   have hS2:aoi R W S0 (λb=>b=Wg\/aT b) ρ2 c2 w2:=by
    refine⟨ap0.lax.symm.trans aBP,hw2,hg1.mono ap0,hW2,λb b' hb=> ?_,λb hb=>⟨?_,aDU b hb⟩,h.s0,λb hb hn=> ?_,iU.trans mo.os,bd mo.sz hz2⟩
    .rcases aBQ b b' hb with hb|⟨h1,h2⟩
     .rcases ahD b b' hb with x|⟨x,y⟩
      .exact .inl x
      .refine .inr ⟨x,λe=>e.elim (λe=> ?_) y⟩;have:=(bI.lt hb).2;omega
     .exact .inr ⟨bd mo.sz h1,λe=>e.elim h2 λhs=>by have:=mo.sh _ hs;omega⟩
    .rcases hb with rfl|hb
     .exact bd mo.sz hWg
     .exact(h.sh b hb).1
    .rw[hk2 b (aE hb mo.sz) λhs=>by have:=(h.sh b hs).1;omega];exact mo.keep b hb hn
   obtain⟨N3,gs3,w3,sl3,t3,q3,aDV,c3,ρ3,l3,hr3,ha3,hL3,hP3,hS3,hf3,al3,aDW,aDX⟩:=ih c2 arV hS2 aeD hR2 ha2 hL2 hP2;exact⟨N+(N2+N3),gs3,w3,sl3,t3,q3,aDV,c3,ρ3,l3,lv hr1 (lv hr2 hr3),ha3,hL3,hP3,hS3,hf3,al3,(hle.trans ap0).trans aDW,awe.trans hle (asl.trans ap0 aDX)⟩
end
section
open Go.Conc Go.ConcN Go.RowKit
open Go.ConcR (DC0)
mutual
inductive mZ (V:Nat->Prop):Value->Prop
 |bool (b:Bool):mZ V (.bool b)
 |int (k:IntKind) (n:Int):mZ V (.int k n)
 |string (s:ByteArray):mZ V (.string s)
 |nilPtr:mZ V (.pointer none)
 |pointer {a:Addr} (h:V a.block):mZ V (.pointer (some a))
 |pP (l c:Nat):mZ V (.slice none l c)
 |slice {a:Addr} (h:V a.block) (l c:Nat):mZ V (.slice (some a) l c)
 |nilFunc:mZ V .nilFunc
 |iface (t:TypeId) {v:Value} (h:mZ V v):mZ V (.iface t v)
 |nilIface:mZ V .nilIface
 |agg {c:Array Value} (h:mU V c.toList):mZ V (.agg c)
inductive mU (V:Nat->Prop):List Value->Prop
 |nil:mU V []
 |cons {v:Value} {l:List Value} (h:mZ V v) (hl:mU V l):mU V (v::l)
end
mutual
def mZ.mono{V U:Nat->Prop}(h:∀b,V b->U b):∀{v:Value},mZ V v->mZ U v
 |_,.bool b=>.bool b
 |_,.int k n=>.int k n
 |_,.string s=>.string s
 |_,.nilPtr=>.nilPtr
 |_,.pointer h'=>.pointer (h _ h')
 |_,.pP l c=>.pP l c
 |_,.slice h' l c=>.slice (h _ h') l c
 |_,.nilFunc=>.nilFunc
 |_,.iface t h'=>.iface t (mZ.mono h h')
 |_,.nilIface=>.nilIface
 |_,.agg h'=>.agg (mU.mono h h')
def mU.mono{V U:Nat->Prop}(h:∀b,V b->U b):∀{l:List Value},mU V l->mU U l
 |_,.nil=>.nil
 |_,.cons h1 h2=>.cons (mZ.mono h h1) (mU.mono h h2)
end
section
variable {V:Nat->Prop} {ρ:Ren} (hV:∀b,V b->ρ.r b b)
include hV
theorem aoj(h:V a.block):AR ρ a a:=by
 obtain⟨b,o,s⟩:=a;exact .mk (hV _ h) o s
theorem axn{b : Addr}(h:V a.block)(k:AR ρ a b):b=a:=by
 cases k with
 |mk c o s=>rw[ρ.fn c (hV _ h)]
mutual
theorem mZ.self:∀{v:Value},mZ V v->VR ρ v v
 |_,.bool b=>.bool b
 |_,.int k n=>.int k n
 |_,.string s=>.string s
 |_,.nilPtr=>.pointer .none
 |_,.pointer h=>.pointer (.some (aoj hV h))
 |_,.pP l c=>.slice .none l c
 |_,.slice h l c=>.slice (.some (aoj hV h)) l c
 |_,.nilFunc=>.nilFunc
 |_,.iface t h=>.iface t (mZ.self h)
 |_,.nilIface=>.nilIface
 |_,.agg h=>.agg (mU.self h)
theorem mU.self:∀{l:List Value},mU V l->bP ρ l l
 |_,.nil=>.nil
 |_,.cons h1 h2=>.cons (mZ.self h1) (mU.self h2)
end
mutual
def mZ.fn:∀{v d:Value},mZ V v->VR ρ v d->d=v
 |_,_,.bool b,k=>by cases k;rfl
 |_,_,.int _ n,k=>by cases k;rfl
 |_,_,.string s,k=>by cases k;rfl
 |_,_,.nilPtr,k=>by
  cases k with
  |pointer h=>cases h;rfl
 |_,_,.pointer h,k=>by
  cases k with
  |pointer a=>cases a with
   |some a=>rw[axn hV h a]
 |_,_,.pP l c,k=>by
  cases k with
  |slice h=>cases h;rfl
 |_,_,.slice h l c,k=>by
  cases k with
  |slice a=>cases a with
   |some a=>rw[axn hV h a]
 |_,_,.nilFunc,k=>by cases k;rfl
 |_,_,.iface t h,k=>by
  cases k with
  |iface _ a=>rw[mZ.fn h a]
 |_,_,.nilIface,k=>by cases k;rfl
 |_,_,.agg (c:=c) h,k=>by
  cases k with
  |@agg _ f a=>
   have e:=mU.fn h a;rw[uG.1 e]
def mU.fn:∀{l a:List Value},mU V l->bP ρ l a->a=l
 |_,_,.nil,k=>by cases k;rfl
 |_,_,.cons h1 h2,k=>by
  cases k with
  |cons b c=>rw[mZ.fn h1 b,mU.fn h2 c]
end
end
def eK.past{B : Nat}(h:eK aT Y B t):Past (ShL aT) B t:=by
 refine⟨h.clean,λi a j _=> ?_,h.over,h.hears,h.seen⟩;obtain⟨op,c,b⟩:=touch_of j;by_cases d:ShL aT a.loc
 .obtain⟨k,f⟩:=h.quiet i op a c b d;cases e:a.kind with
  |plain=>exact absurd e k
  |atomic=>exact .inr ⟨d,rfl⟩
  |said=>
   have g:=f e;have:=knows_own (t:=t) c;rw[g] at this;exact .inl this
 .exact .inl (h.known i op a c b d)
def aii(W:World)(v:Value)(w':World):Prop:=v=.bool true/\Below W.heap.size W {w' with tape:=W.tape}
structure aij (W:World) (S0:aq) (P:Nat->Nat->Prop) (WL:World):Prop where
 size:WL.heap.size=W.heap.size
 out:∀b,¬S0 b->WL.heap[b]?=W.heap[b]?
 row:∀b,S0 b->∃(c c':Array Value) (t:TypeId) (z:Nat×Nat),W.heap[b]?=some (.cells c t z)/\WL.heap[b]?=some (.cells c' t z)/\c'.size=c.size/\∀i v,P b i->c[i]?=some v->c'[i]?=some v
theorem aDY{W:World}{S0:aq}{P:Nat->Nat->Prop}(hrow:∀b,S0 b->eD W b)(hP:∀b i v,S0 b->P b i->W.cell? ⟨b,i,none⟩=some v->mZ S0 v)(hN:gN<=W.heap.size) :
  ∃WL,aij W S0 P WL/\WL.ou=W.ou/\WR (Ren.rows S0 false (eU W)) WL W/\∀b i u v,S0 b->WL.cell? ⟨b,i,none⟩=some u->W.cell? ⟨b,i,none⟩=some v->(u=v/\mZ S0 v)\/ad3 u\/∀(σ:Ren) v',σ.al=akb (eU W)->VR σ u v'->v'=v:=by
 classical
 have hid:∀b,S0 b->(Ren.rows S0 false (eU W)).r b b:=λb hb=>⟨rfl,hb⟩;have row:∀b,S0 b->∃(c:Array Value) (t:TypeId) (z:Nat×Nat) (xs:List Value),W.heap[b]?=some (.cells c t z)/\bP (Ren.rows S0 false (eU W)) xs c.toList/\
   ∀(i:Nat) v,c.toList[i]?=some v->∃u,xs[i]?=some u/\((P b i->u=v)/\((u=v/\mZ S0 v)\/ad3 u\/∀(σ:Ren) v',σ.al=akb (eU W)->VR σ u v'->v'=v)):=λb hb=>by
  obtain⟨c,t,z,hc⟩:=hrow b hb;obtain⟨xs,h1,h2⟩:=amE (ρ:=Ren.rows S0 false (eU W)) (Q:=λi u v=>(P b i->u=v)/\((u=v/\mZ S0 v)\/ad3 u\/∀(σ:Ren) v',σ.al=akb (eU W)->VR σ u v'->v'=v)) c.toList 0 λi v hi=>by
   rw[jt];have hi':c[i]?=some v:=by rw[<-du];exact hi
   by_cases hp:P b i
   .have jm:=hP b i v hb hp (by unfold World.cell?;rw[hc];exact hi');exact⟨v,mZ.self hid jm,λ_=>rfl,.inl ⟨rfl,jm⟩⟩
   .obtain⟨u,h1, -,h3⟩:=ay3 (ρ:=Ren.rows S0 false (eU W)) rfl v λx hx=>akc (agW hc hi' hx);exact⟨u,h1,λh=>absurd h hp,.inr h3⟩
  exact⟨c,t,z,xs,hc,h1,λi v hi=>by
   have:=h2 i v hi;simpa only[jt] using this⟩
 let F:∀b,S0 b->Obj:=λb hb=>.cells ⟨(row b hb).choose_spec.choose_spec.choose_spec.choose⟩ (row b hb).choose_spec.choose (row b hb).choose_spec.choose_spec.choose
 have hF:∀b (hb:S0 b),∃(c:Array Value) (t:TypeId) (z:Nat×Nat) (xs:List Value),W.heap[b]?=some (.cells c t z)/\bP (Ren.rows S0 false (eU W)) xs c.toList/\(∀(i:Nat) v,c.toList[i]?=some v->∃u,xs[i]?=some u/\((P b i->u=v)/\((u=v/\mZ S0 v)\/ad3 u\/∀(σ:Ren) v',σ.al=akb (eU W)->VR σ u v'->v'=v)))/\F b hb=.cells ⟨xs⟩ t z:=λb hb=>
  let h:=(row b hb).choose_spec.choose_spec.choose_spec.choose_spec
  ⟨_,_,_,_,h.1,h.2.1,h.2.2,rfl⟩
 obtain⟨heap,hs,h1,h2⟩:=axe W F;have aaZ:∀b,S0 b->∃(c:Array Value) (t:TypeId) (z:Nat×Nat) (xs:List Value),W.heap[b]?=some (.cells c t z)/\heap[b]?=some (.cells ⟨xs⟩ t z)/\bP (Ren.rows S0 false (eU W)) xs c.toList/\(∀(i:Nat) v,c.toList[i]?=some v->∃u,xs[i]?=some u/\((P b i->u=v)/\((u=v/\mZ S0 v)\/ad3 u\/∀(σ:Ren) v',σ.al=akb (eU W)->VR σ u v'->v'=v))):=λb hb=>by
  obtain⟨c,t,z,xs,k1,k2,k3,k4⟩:=hF b hb;exact⟨c,t,z,xs,k1,(h1 b hb (dk.1 k1).1).trans (fk some k4),k2,k3⟩
 refine⟨{W with heap},⟨hs,h2,λb hb=> ?_⟩,rfl,⟨λ{b b'} hb=> ?_,rfl,by show gN<=heap.size;omega,hN⟩,λb i u v hb hu hv=> ?_⟩
 .obtain⟨c,t,z,xs,k1,k2,k3,k4⟩:=aaZ b hb;refine⟨c,⟨xs⟩,t,z,k1,k2,by have:=k3.length;simpa using this,λi v hp hv=> ?_⟩;obtain⟨u,q1,q2, -⟩:=k4 i v (by rw[du];exact hv);have q1':(⟨xs⟩:Array Value)[i]?=some u:=by simpa using q1
  rw[q1',q2 hp]
 .obtain⟨rfl,hb⟩:=hb;obtain⟨c,t,z,xs,k1,k2,k3, -⟩:=aaZ b hb;exact⟨_,_,k2,k1,.cells k3 t (.inl rfl)⟩
 .obtain⟨c,t,z,xs,k1,k2,k3,k4⟩:=aaZ b hb;have hu':(⟨xs⟩:Array Value)[i]?=some u:=by
   have:({W with heap}:World).heap[b]?=some (.cells ⟨xs⟩ t z):=k2;unfold World.cell? at hu;rw[this] at hu;exact hu
  have hv':c[i]?=some v:=by
   unfold World.cell? at hv;rw[k1] at hv;exact hv
  obtain⟨u',q1, -,q2⟩:=k4 i v (by rw[du];exact hv');have:u'=u:=by
   have q1':(⟨xs⟩:Array Value)[i]?=some u':=by simpa using q1
   rw[q1'] at hu';exact ef hu'
  subst this;exact q2
theorem atD {fv:Int->List iw->Int->ByteArray×Bool} (hF:eF fv) (hF0:∀key nm,fv key [] nm=(⟨#[]⟩,false)) {W:World} {S0:aq} {P:Nat->Nat->Prop} {f:FuncId} {fn:Func} {k:Tmp} {args:Array Value}
  (hrow:∀b,S0 b->eD W b) (hP:∀b i v,S0 b->P b i->W.cell? ⟨b,i,none⟩=some v->mZ S0 v) (hgl:∀g∈gL,S0 g) (hgN:gN<=W.heap.size) (aax:mU S0 args.toList)
  (hf:gH f=false) (hfn:prog.funcs[f]?=some fn) (hq:(ah true).funcs[f]?=some fn) (hres:fn.results=#[.tmp k]) (hni:prog.inits.idxOf? f=none)
  (kN:∀WL:World,aij W S0 P WL->∀t:Tape,Calls (ah true) f args (WL.dK t) λe w'=>∃v,e=.returned v/\(v=.bool true/\∀b,b<W.heap.size->w'.heap[b]?=WL.heap[b]?)) :
  ∃N last o w' t',runNT prog (N+1) (solo (G (Frame.enter prog f args .normal) []) W) #[]=(.ended o w',t')/\runN prog N (solo (G (Frame.enter prog f args .normal) []) W)=.next last/\step prog last=.ended o w'/\Go.Conc.Good prog (aii W) last o w' t':=by
 obtain⟨WL,axo,hou,hwr,aDZ⟩:=aDY hrow hP hgN;have hid:∀b,S0 b->(Ren.rows S0 false (eU W)).r b b:=λb hb=>⟨rfl,hb⟩;have hs0:∀b,S0 b->b<W.heap.size:=λb hb=>let⟨_,_,_,h⟩:=hrow b hb;ji h
 have hW:jQ (ah true) (λl w'=>∃fr v,l=[fr]/\fr.fn=f/\fr.leaving (ah true) w' (.returned v)/\(v=.bool true/\∀b,b<W.heap.size->w'.heap[b]?=WL.heap[b]?)) ⟨[Frame.enter (ah true) f args .normal],WL,λ_ _=>0⟩:=
  aaz (Post:=λv w'=>v=.bool true/\∀b,b<W.heap.size->w'.heap[b]?=WL.heap[b]?) λt _=>kN WL axo t
 have hst:iz (ah true) (Ren.rows S0 false (eU W)) [Frame.enter (ah true) f args .normal] [Frame.enter prog f args .normal]:=.one (ahj (lQ true) hf (mU.self hid aax)) adr;have hS:aoi _ W S0 (λ_=>False) (Ren.rows S0 false (eU W)) ⟨[Frame.enter (ah true) f args .normal],WL,λ_ _=>0⟩ W:=⟨rfl,hwr,λg hg=>hid g (hgl g hg),hW,λb b' hb=>.inl (hb.1▸hb.2),λ_ h=>h.elim,hs0,λ_ _ _=>rfl,rfl,am _⟩;obtain⟨N1,gs1,w1,sl1,t1,q1,aT,c1,ρ1,l1,hr1,ha1,hL1,hP1,hS1,hf1,aqn,afm,awe⟩:=atC hF hF0 hW.acc.transGen (gs:=#[G (Frame.enter prog f args .normal) []]) (sl:=none) (t:=#[]) (q:=λ_=>0) hS hst (.inl rfl) rfl (leavers_one _ _) (eK.nil _);obtain⟨fr,v,hl,mj,hlv,hv,hb⟩:=hS1.will.fin hf1 acD c1.t λ_ _ _=>rfl;obtain⟨x,xs,y,ys, -,hy⟩:=aqn.ne';have e4:=aqn.lone hl hy;subst e4 hy;rw[hl] at aqn;have aBR:=aqn.head;obtain⟨-, -, -,fn1,auK,hrv⟩:=hlv;rw[mj,hq] at auK;cases auK;have hv1:v=fr.tmps.getD k undef:=by
  have e:(results fn fr.tmps).run (ah true) (c1.w.dK c1.t)=.ok (fr.tmps.getD k undef) (c1.w.dK c1.t):=by simp[results,hres]
  rw[e] at hrv;cases hrv;rfl
 have hy1:y.tmps.getD k undef=.bool true:=by
  rw[hv] at hv1;have hk:fr.tmps[k]?=some (.bool true):=by
   rw[gc] at hv1;cases h:fr.tmps[k]? with
   |none=>rw[h] at hv1;cases hv1
   |some u=>rw[h] at hv1;exact fk some hv1.symm
  obtain⟨u,hu,hr⟩:=bP.get aBR.tmps (i:=k) (v:=.bool true) (by rw[du];exact hk);rw[du] at hu;rw[aoa hu];cases hr;rfl
 have aBS:∀w1:World,stepG prog true (Gl [y] []) w1=.ended (.done (.bool true)) w1 (seen prog y.fn #[]):=λw1=>by
  have hr:(results fn y.tmps).runT prog w1 #[]=(.ok (.bool true) w1,#[]):=by
   have e:(results fn y.tmps).runT prog w1 #[]=(.ok (y.tmps.getD k undef) w1,#[]):=by simp[results,hres]
   rw[e,hy1]
  obtain⟨g0,hg0,gm,gd,gk⟩:=hf1;rw[hl] at hg0;cases hg0;obtain⟨f',tm',fE,d',md',kd',r'⟩:=y;obtain⟨f0,tm0,aEb,d0,md0,kd0,r0⟩:=fr;obtain⟨h1,h2,h3,h4,h5,h6,h7⟩:=aBR;dsimp only at h1 h2 h3 h4 h5 h6 h7 gm gd gk mj hr;subst h1 gm gd gk mj;obtain rfl:md'=.returning:=by
   rcases h5 with h5|h5
   .cases h5.1
   .exact h5.2
  obtain⟨-,rfl⟩:=h6;obtain rfl:d'=[]:=by cases h4;rfl
  have e:doReturn prog true ⟨f0,tm',fE,[],.returning,.normal,r'⟩ [] none (.bool true) w1=.ended (.done (.bool true)) w1:=by
   unfold doReturn;dsimp only;rw[hni];rfl
  simp only[Gl,stepG,unwind,hfn,hr,rr,e];simp[GStep.after]
 have hblk:∀b,b<W.heap.size->w1.heap[b]?=W.heap[b]?:=λb hbl=>by
  by_cases h0:S0 b
  .have hr0:=hid b h0;have hr:=afm.r hr0;obtain⟨c,c',t,z,hW1,hWL,hsz, -⟩:=axo.row b h0;obtain⟨o,o',k1,k2,k3⟩:=hS1.wr.obj hr;have e:c1.w.heap[b]?=WL.heap[b]?:=hb b hbl;rw[e,hWL] at k1;cases k1;cases k3 with
   |@cells _ c'' k4 _ _ z' hz=>
    have hz':z=z':=by
     rcases hz with e|⟨e,_⟩
     .exact e
     .rw[hS1.lax] at e;cases e
    have hlen:c''.size=c'.size:=by have:=k4.length;simpa using this.symm
    have hc:c''=c:=by
     apply sx;intro i;rcases pa i c.size with hi|hi
     .have hu:c'[i]?=some c'[i]:=fm (by omega);have hv:c[i]?=some c[i]:=fm hi;have hv2:c''[i]?=some c''[i]:=fm (by omega);have hrel:=cZ.at k4 hu hv2;have cell:∀{w:World} {a:Array Value},w.heap[b]?=some (.cells a t z)->w.cell? ⟨b,i,none⟩=a[i]?:=λh=>by unfold World.cell?;rw[h];rfl
      rcases aDZ b i _ _ h0 ((cell hWL).trans hu) ((cell hW1).trans hv) with⟨e1,e2⟩|h1|h1
      .rw[e1] at hrel;rw[hv2,hv,mZ.fn (V:=S0) (λb hb=>afm.r (hid b hb)) e2 hrel]
      .have hp:=(awe b b hr0 ⟨c',t,z,hWL⟩).2 i _ h1 ((cell (e.trans hWL)).trans hu);have h2:=hp.2;rw[cell hW1] at h2;subst hz';rw[cell k2] at h2;exact h2
      .rw[hv2,hv,h1 ρ1 _ afm.al.symm hrel]
     .rw[qa (by omega),qa (by omega)]
    rw[k2,hW1,hc,hz']
  .exact hS1.keep b hbl h0
 have hend:∀w2,Go.Conc.AtRel w1 w2->AtEnd prog (ShL aT) w1.heap.size (aii W) (Gl [y] []) w2:=λw2 ⟨d,e⟩=>by
  subst e;exact⟨rfl,_,_,aBS _,λe he=>(acn e he).elim,rfl,azm hS1.os,rfl,axt hS1.os,hS1.sz,hblk⟩
 obtain⟨N2,last,o,w2,t2,hr2,hn2,hs2,hg2⟩:=beside_ends (D:=DC0) (Shun:=ShL aT) (B:=w1.heap.size) (Post:=aii W) (sl:=sl1) (n:=0) (λw w' es h e he=>by rw[h.2] at he;simp at he) ha1 hL1 hP1.past (qw hend);refine⟨N1+N2,last,o,w2,t2, ?_, ?_,hs2,hg2⟩
 .rw[vd,runNT_add,show runNT prog N1 (solo (G (Frame.enter prog f args .normal) []) W) #[]=_ from hr1];exact hr2
 .have hn1:runN prog N1 (solo (G (Frame.enter prog f args .normal) []) W)=.next (crowd gs1 w1 sl1):=by
   rw[<-runNT_fst _ _ _ #[],show runNT prog N1 (solo (G (Frame.enter prog f args .normal) []) W) #[]=_ from hr1]
  rw[runN_add,hn1];exact hn2
end
section
open Go Go.Conc Go.RowKit Go.ChangeShapes Go.WideShapes Go.ChangeAt
def aqo:decide (prog.globals.size<(begin prog (λ_ _=>0) default).world.heap.size)=true:=by kernel_rfl
def aBT(h:W.ShapedOpen prog):gN<=W.heap.size:=by
 have b:=sL aqo;obtain⟨o,c,a, -⟩:=h.2 _ (am _) b;have:=(dk.1 a).1;unfold gN;omega
def axp(k:FuncId)(W:World)(args:Array Value):Prop:=
 ∃(a:aq) (P:Nat->Nat->Prop),(∀b,a b->eD W b)/\(∀b i v,a b->P b i->W.cell? ⟨b,i,none⟩=some v->mZ a v)/\(∀g∈gL,a g)/\mU a args.toList/\
  ∀c:World,aij W a P c->∀t:Tape,Calls (ah true) k args (c.dK t) λe d=>∃v,e=.returned v/\(v=.bool true/\∀b,b<W.heap.size->d.heap[b]?=c.heap[b]?)
def wJ (hF:eF Z) (D:∀U nm,Z U [] nm=(⟨#[]⟩,false)) {os:Os} {k:FuncId} {f:Func} {kt:Tmp} {s:ChangeSpec} {b:Bool} {H:Type} {enc:TypeId×Value->H} {X:World->Array Value->Prop}
  (hX:∀(w w':World) (args:Array Value),w.heap=w'.heap->X w args->X w' args)
  (E:ownKnob prog.godebug=none) (c:os.Started) (M:prog.inits.idxOf? k=none) (z:prog.funcs[k]?=some f) (hq:(ah true).funcs[k]?=some f) (I:gH k=false) (T:f.results=#[.tmp kt])
  (hl:laidOutB prog=true) (hr:(f.params.toList.all λt=>prog.readableRec t&&decide (t<prog.types.size))=true) (r:f.resultTypes=#[ty]) (O:prog.underlying ty=some .bool) (F:varsRowed prog s.vars=true)
  (L:∀l n:List (DataW H),l.length=f.params.toList.length->n.length=s.vars.length->s.fn H (l++n)={results:=[.lit (.bool true)],args:=l,vars:=n})
  (d:∃(w:World) (a:Tape) (i:Input),w.os=os/\(w.forCall a i).Shaped prog/\i.vars=[]/\Input.okWide prog (w.forCall a i) .any w.heap.size k i/\
   ((s.pre enc prog f [] b (w.forCall a i).memory i.args/\X (w.forCall a i).memory i.args)/\sizedMet enc prog f (OpenSpec.ofChange s) b (w.forCall a i).memory i.args)/\Assume.holds {} prog (lone (Frame.enter prog k i.args .normal) [] (w.forCall a i)))
  (y:∀(W:World) (base:Nat) (args:Array Value) (l:List (DataW H)) (p:List MemPlace),
   (∀(j:Nat) t v,f.params[j]?=some t->args[j]?=some v->Value.okWide prog W .any base t v)->
   DataW.TrodAll enc prog W 0 (λ_=>true) true f.params.toList args.toList l p->(∀x∈p,x.block<W.heap.size)->X W args->axp k W args) :
  ReturnsInLeavingWide {} Tryz.checked os k .any (λw args=>(s.pre enc prog f [] b w args/\X w args)/\sizedMet enc prog f (OpenSpec.ofChange s) b w args) (s.post enc prog f b true false false):=by
 refine returnsInLeavingWide_of_good E c d ?_;intro w a i _ pU _ J Q _;obtain⟨_,_,_,Y,K,_,_,_,_,u⟩:=J;have e:Y=f:=ef (K.symm.trans z);subst e;obtain⟨⟨⟨l,n,g,hw,hc⟩,G⟩,hz⟩:=Q;have m:=DataW.Whole.of_heap (w':=w.forCall a i) (by rfl) hw;have A:X (w.forCall a i) i.args:=hX _ _ _ (by rfl) G;have R:∀p∈g,p.block<(w.forCall a i).heap.size:=λp V=>by simpa using m.lt p V
 have B:∀t∈Y.params.toList,prog.readableRec t=true/\t<prog.types.size:=λt ht=>by
  have:=jn.1 hr t ht;simpa using this
 obtain⟨p,q,hA,hV,S,a1,a0⟩:=id m;obtain⟨S0,P,h1,h2,h3,h4,h5⟩:=y (w.forCall a i) w.heap.size i.args l p u hA (λx G=>R x (by rw[S];simp[G])) A;obtain⟨N,last,o,w',t',g1,g2,g3,g4⟩:=atD hF D h1 h2 h3 (aBT pU) h4 I z hq T M h5;refine⟨N,last,o,w',t',g1,g2,g3,g4.mono λv hv=> ?_⟩;obtain⟨rfl,C⟩:=hv;have V:=ap2 hl B r O F (L l n (adp hA) (aci hV)) m C;have C:=ChangeSpec.post_blind V;exact C
end
section
open Go.RowKit Go.ChangeAt
def aBU:∀g∈gL,g=0\/g=1:=by
 have h:(gL.all λg=>g ==0||g ==1)=true:=by unfold gL;kernel_rfl
 intro g a;have:=jn.1 h g a;simpa using this
def akx{P:Program}{w:World}{n:String}{d:DataW Unit}:∀{l:List (String×DataW Unit)} {f:List MemPlace},DataW.LaidVars P w l f->(n,d)∈l->
  ∃g t b a p,P.globalNamed n=some g/\(P.globals[g]?).map (·.type)=some t/\w.var? P n=some b/\DataW.trod (λ_=>()) P w 0 (λ_=>true) false a t b.toList=some (d,p)
 |[],_,_,h=>by cases h
 |(m,e)::l,f,h,c=>by
  obtain⟨g,t,b,a,p,q,r,i,k,o,s, -⟩:=h;rcases mc.1 c with j|c
  .cases j;exact⟨g,t,b,a,p,r,i,k,o⟩
  .exact akx s c
def atE{t:TypeId}{d:DataW Unit}{p:List MemPlace}(b:∃m,P.underlying t=some (.interface m)):DataW.trod (λ_=>()) P w 0 (λ_=>true) false Y t []≠some (d,p):=by
 obtain⟨m,a⟩:=b;cases Y with
 |zero=>simp[DataW.trod]
 |succ f=>simp[DataW.trod,a]
def awf{n:String}{cs:Array Value}{g:Nat}(a:P.globalNamed n=some g)(h:w.var? P n=some cs):∃t z,w.heap[g]?=some (.cells cs t z):=by
 unfold World.var? at h;rw[a] at h;simp only[qC] at h;split at h
 .rename_i c t z b;cases h;exact⟨t,z,b⟩
 .cases h
def awg:∃m,prog.underlying 107=some (.interface m):=⟨_,underlying107⟩
def awh:prog.globalNamed "loop.example/depositary/impl.errKey" =some 0:=by kernel_rfl
def aqp:prog.globalNamed "loop.example/depositary/impl.errPiece" =some 1:=by kernel_rfl
def atG:(prog.globals[0]?).map (·.type)=some 107:=by kernel_rfl
def amW:(prog.globals[1]?).map (·.type)=some 107:=by kernel_rfl
def aky:(laidL.all λx=>x.2.handleName?.isNone)=true:=by kernel_rfl
def atH(j:laidMetH prog laidL W):(∀g∈gL,eD W g)/\Glo W:=by
 rw[vu _ _ _ aky] at j;obtain⟨A,w, -, -⟩:=j;have one:∀{n:String} {d:DataW Unit} {a:Nat},(n,d)∈laidL->prog.globalNamed n=some a->(prog.globals[a]?).map (·.type)=some 107->eD W a/\∃x,W.cell? ⟨a,0,none⟩=some x:=λ{n d a} v i y=>by
  obtain⟨g,t,b,k,p,q,e,s,o⟩:=akx w v;rw[i] at q;cases q;rw[y] at e;cases e;obtain⟨t,z,f⟩:=awf i s;refine⟨⟨b,t,z,f⟩, ?_⟩;cases r:b.toList with
  |nil=>rw[r] at o;exact absurd o (atE awg)
  |cons x l=>
   refine⟨x, ?_⟩;unfold World.cell?;rw[f];show b[0]?=some x;rw[<-du,r];rfl
 have m:=one (n:= "loop.example/depositary/impl.errKey") (d:=Rows.laid_loop_example_depositary_impl_errKey) (by simp[laidL]) awh atG;have c:=one (n:= "loop.example/depositary/impl.errPiece") (d:=Rows.laid_loop_example_depositary_impl_errPiece) (by simp[laidL]) aqp amW;refine⟨λg u=> ?_,m.2,c.2⟩;rcases aBU g u with rfl|rfl
 .exact m.1
 .exact c.1
def atI(W:World)(b i:Nat):Prop:=∀v,W.cell? ⟨b,i,none⟩=some v->mZ (eD W) v
def aij.cell(h:aij W (eD W) (atI W) V)(a:W.cell? ⟨b,i,none⟩=some v)(k:mZ (eD W) v):V.cell? ⟨b,i,none⟩=some v:=by
 have j:atI W b i:=λu e=>by rw[a] at e;cases e;exact k
 unfold World.cell? at a ⊢;dsimp only at a ⊢;cases d:W.heap[b]? with
 |none=>rw[d] at a;simp at a
 |some o=>
  cases o with
  |cells c t z=>
   obtain⟨r,m,n,q,f,g,p,l⟩:=h.row b ⟨c,t,z,d⟩;rw[d] at f a;cases f;rw[g];exact l i v j a
  |_=>rw[d] at a;simp at a
def aij.glo(h:aij W (eD W) (atI W) V)(a:∀g∈gL,eD W g)(b:Glo W)(j:0∈gL)(e:1∈gL):Glo V:=by
 have one:∀{g:Nat},eD W g->(∃x,W.cell? ⟨g,0,none⟩=some x)->∃x,V.cell? ⟨g,0,none⟩=some x:=λ{g} a ⟨x,hx⟩=>by
  obtain⟨c,f,t,z,d,i,k, -⟩:=h.row g a;unfold World.cell? at hx ⊢;dsimp only at hx ⊢;rw[d] at hx;rw[i];have:0<c.size:=(dk.1 (show c[0]?=some x from hx)).1;exact⟨f[0]'(by omega),fm (by omega)⟩
 exact⟨one (a _ j) b.key,one (a _ e) b.piece⟩
def aij.bytes(h:aij W (eD W) (atI W) V)(r:cG jw 1 W 0 W.heap.size l [v])(t:Tape):cG jw 1 (V.dK t) 0 (V.dK t).heap.size l [v]:=by
 obtain⟨A,c,B,n,g,w⟩:=r;refine⟨A,c,B,n,g,λq=> ?_⟩;obtain⟨b,d,p,f,z,k⟩:=w q;refine⟨b,d,p,f,by show b<V.heap.size;rw[h.size];exact z,λi x y=> ?_⟩;obtain⟨s,m,e,o⟩:=k i x y;refine⟨s,m,e,λj u a=> ?_⟩;have D:=o j u a;have C:mZ (eD W) u:=by
  obtain⟨rfl, -⟩:=e;have:j=0:=by have:=aB a;simp at this;omega
  subst this;simp at a;subst a;exact .int _ _
 exact h.cell D C
def awi(b:Value.okWide prog W .any Y 22 v):mZ (eD W) v:=by
 have d:=underlying22;unfold Value.okWide at b;rw[d] at b;dsimp only at b;unfold Cell.okWide at b;rw[d] at b;have b:Cell.ok prog W .any Y 22 v:=b;unfold Cell.ok at b;rw[d] at b;cases v with
 |slice A n c=>
  cases A with
  |none=>exact .pP _ _
  |some a=>
   obtain⟨-, -, -, -,f,cells,e, -⟩:=b;refine .slice ?_ _ _;unfold World.shape? at e;split at e
   .rename_i g t z i;exact⟨g,t,z,i⟩
   .cases e
 |_=>exact b.elim
def xr {k:FuncId} (n:laidMetH prog laidL W)   (q:Value.okWide prog W .any Y 22 v) (h:cG jw 1 W 0 W.heap.size l [v])
  (r:∀w:World,Glo w->cG jw 1 w 0 w.heap.size l [v]->Calls (ah true) k #[v] w λe f=>e=.returned (.bool true)/\Below w.heap.size w f):axp k W #[v]:=by
 obtain⟨g,p⟩:=atH n;refine⟨eD W,atI W,λ_ h=>h,λb i v _ o c=>o v c,g,.cons (awi q) .nil,λj d t=> ?_⟩;refine(r (j.dK t) ?_ (d.bytes h t)).mono ?_
 .have:=d.glo g p (ahP arZ) (ahP aji);exact⟨this.key,this.piece⟩
 .rintro e f ⟨rfl,m⟩;exact⟨_,rfl,rfl,λb a=>m.block b (by show b<j.heap.size;rw[d.size];exact a)⟩
end
section
open Go.RowKit
def xp:Tryz.pinned.checked.prog.mainIs=some (true, "9948cdd48a885527938386b37bc83bf9d0b7220a6b8b8b60a8e089eebec73924".toList):=by kernel_rfl
def xG:false=Tryz.pinned.checked.prog.looks []:=by kernel_rfl
end
section
open Go.Shelf Go.RowKit
variable {β:Bool}
def ag7:(ah β).follows .mixedOrders=true:=by cases β<;>kernel_rfl
def acs:Go.Shelf.Ren:=⟨fun|20=>39|n=>n,fun|22=>30|3=>3|4=>4|0=>0|n=>n,fun|n=>n⟩
def aaL:Go.Proofs.Lays2.n20 (ah β) acs:={
 mixed:=ag7
 f20:=qF39.trans (fk some (by kernel_rfl))
 t0:=qU0
 a0:=λw=>(bX _ w).trans (Tryz.isAgg0 w)
 z0:=λw=>(bB _ w).trans (Tryz.sizeOf0 w)
 v0:=λw=>(aO _ w).trans (vI w)
 t3:=qU3
 a3:=λw=>(bX _ w).trans (vL w)
 z3:=λw=>(bB _ w).trans (vC w)
 v3:=λw=>(aO _ w).trans (uL w)
 t4:=qU4
 a4:=λw=>(bX _ w).trans (Tryz.isAgg4 w)
 z4:=λw=>(bB _ w).trans (Tryz.sizeOf4 w)
 v4:=λw=>(aO _ w).trans (vH w)
 t22:=wN
 a22:=λw=>(bX _ w).trans (Tryz.isAgg30 w)
 z22:=λw=>(bB _ w).trans (Tryz.sizeOf30 w)
 v22:=λw=>(aO _ w).trans (vA w)
 i3:=by first|kernel_rfl|(cases β<;>kernel_rfl)}
open Go.RowKit Go.Lib Go.Sort in
def nW(b a cap:Nat)(c:List Int)(w:World)(i:Holds (Value.int .i64) w b a c.toArray)(f:c.length<=9223372036854775807)(d:c.length<=cap) :
  Calls (ah β) 39 #[.slice (some ⟨b,a,none⟩) c.length cap] w λe g=>e=.returned (.slice (some ⟨b,a,none⟩) (Lib.compact c).length cap)/\∃q,g=putRow (Value.int .i64) (Sort.ahead w q) b a (Lib.compact c++List.replicate (c.length-(Lib.compact c).length) 0).toArray:=Any.slices_Compact_int aaL b a cap c w i f d
open Go.RowKit Go.Lib Go.Sort in
def jV(a:Option Addr)(cap:Nat)(w:World) :
  Calls (ah β) 39 #[.slice a 0 cap] w λe b=>e=.returned (.slice a 0 cap)/\b=w:=Any.slices_Compact_int_empty aaL a cap w
def pQ:Go.Shelf.Ren:=⟨fun|5=>38|8=>63|7=>62|19=>96|20=>97|10=>87|11=>88|12=>89|13=>90|14=>91|15=>92|16=>93|17=>94|18=>95|30=>122|31=>123|32=>124|33=>125|34=>126|35=>127|40=>160|n=>n,fun|23=>30|25=>3|3=>3|32=>113|22=>30|0=>0|44=>146|46=>148|4=>4|36=>138|35=>137|41=>143|5=>5|9=>9|53=>179|57=>183|63=>214|64=>90|n=>n,fun|n=>n⟩
def mV:Go.Proofs.SlLaysM.n5 (ah β) pQ:={
 mixed:=ag7
 f5:=⟨f38.name,by decide,qF38.trans (fk some (by kernel_rfl))⟩
 f7:=⟨f62.name,by decide,qF62.trans (fk some (by kernel_rfl))⟩
 f8:=qF63.trans (fk some (by kernel_rfl))
 f10:=⟨f87.name,by decide,qF87.trans (fk some (by kernel_rfl))⟩
 f11:=⟨f88.name,by decide,qF88.trans (fk some (by kernel_rfl))⟩
 f12:=⟨f89.name,by decide,qF89.trans (fk some (by kernel_rfl))⟩
 f13:=⟨f90.name,by decide,qF90.trans (fk some (by kernel_rfl))⟩
 f14:=⟨f91.name,by decide,qF91.trans (fk some (by kernel_rfl))⟩
 f15:=⟨f92.name,by decide,qF92.trans (fk some (by kernel_rfl))⟩
 f16:=⟨f93.name,by decide,qF93.trans (fk some (by kernel_rfl))⟩
 f17:=⟨f94.name,by decide,qF94.trans (fk some (by kernel_rfl))⟩
 f18:=⟨f95.name,by decide,qF95.trans (fk some (by kernel_rfl))⟩
 f19:=qF96.trans (fk some (by kernel_rfl))
 f20:=qF97.trans (fk some (by kernel_rfl))
 f30:=⟨f122.name,by decide,qF122.trans (fk some (by kernel_rfl))⟩
 f31:=qF123.trans (fk some (by kernel_rfl))
 f32:=qF124.trans (fk some (by kernel_rfl))
 f33:=⟨f125.name,by decide,qF125.trans (fk some (by kernel_rfl))⟩
 f34:=⟨f126.name,by decide,qF126.trans (fk some (by kernel_rfl))⟩
 f35:=⟨f127.name,by decide,qF127.trans (fk some (by kernel_rfl))⟩
 f40:=⟨f160.name,by decide,qF160.trans (fk some (by kernel_rfl))⟩
 t0:=qU0
 a0:=λw=>(bX _ w).trans (Tryz.isAgg0 w)
 z0:=λw=>(bB _ w).trans (Tryz.sizeOf0 w)
 v0:=λw=>(aO _ w).trans (vI w)
 t3:=qU3
 a3:=λw=>(bX _ w).trans (vL w)
 z3:=λw=>(bB _ w).trans (vC w)
 v3:=λw=>(aO _ w).trans (uL w)
 t4:=qU4
 a4:=λw=>(bX _ w).trans (Tryz.isAgg4 w)
 z4:=λw=>(bB _ w).trans (Tryz.sizeOf4 w)
 v4:=λw=>(aO _ w).trans (vH w)
 t5:=qU5
 a5:=λw=>(bX _ w).trans (Tryz.isAgg5 w)
 z5:=λw=>(bB _ w).trans (Tryz.sizeOf5 w)
 v5:=λw=>(aO _ w).trans (Tryz.zeroValue5 w)
 t9:=qU9
 a9:=λw=>(bX _ w).trans (Tryz.isAgg9 w)
 z9:=λw=>(bB _ w).trans (Tryz.sizeOf9 w)
 v9:=λw=>(aO _ w).trans (Tryz.zeroValue9 w)
 t22:=wN
 a22:=λw=>(bX _ w).trans (Tryz.isAgg30 w)
 z22:=λw=>(bB _ w).trans (Tryz.sizeOf30 w)
 v22:=λw=>(aO _ w).trans (vA w)
 t23:=wN
 a23:=λw=>(bX _ w).trans (Tryz.isAgg30 w)
 z23:=λw=>(bB _ w).trans (Tryz.sizeOf30 w)
 v23:=λw=>(aO _ w).trans (vA w)
 t25:=qU3
 a25:=λw=>(bX _ w).trans (vL w)
 z25:=λw=>(bB _ w).trans (vC w)
 v25:=λw=>(aO _ w).trans (uL w)
 t32:=xS
 a32:=λw=>(bX _ w).trans (Tryz.isAgg113 w)
 z32:=λw=>(bB _ w).trans (Tryz.sizeOf113 w)
 v32:=λw=>(aO _ w).trans (Tryz.zeroValue113 w)
 t35:=xR
 a35:=λw=>(bX _ w).trans (Tryz.isAgg137 w)
 z35:=λw=>(bB _ w).trans (Tryz.sizeOf137 w)
 v35:=λw=>(aO _ w).trans (Tryz.zeroValue137 w)
 t36:=xQ
 a36:=λw=>(bX _ w).trans (Tryz.isAgg138 w)
 z36:=λw=>(bB _ w).trans (Tryz.sizeOf138 w)
 v36:=λw=>(aO _ w).trans (Tryz.zeroValue138 w)
 t41:=xP
 a41:=λw=>(bX _ w).trans (Tryz.isAgg143 w)
 z41:=λw=>(bB _ w).trans (Tryz.sizeOf143 w)
 v41:=λw=>(aO _ w).trans (Tryz.zeroValue143 w)
 t44:=xO
 a44:=λw=>(bX _ w).trans (Tryz.isAgg146 w)
 z44:=λw=>(bB _ w).trans (Tryz.sizeOf146 w)
 v44:=λw=>(aO _ w).trans (Tryz.zeroValue146 w)
 t46:=xN
 a46:=λw=>(bX _ w).trans (Tryz.isAgg148 w)
 z46:=λw=>(bB _ w).trans (Tryz.sizeOf148 w)
 v46:=λw=>(aO _ w).trans (Tryz.zeroValue148 w)
 t53:=xK
 a53:=λw=>(bX _ w).trans (Tryz.isAgg179 w)
 z53:=λw=>(bB _ w).trans (Tryz.sizeOf179 w)
 v53:=λw=>(aO _ w).trans (Tryz.zeroValue179 w)
 t57:=xJ
 a57:=λw=>(bX _ w).trans (Tryz.isAgg183 w)
 z57:=λw=>(bB _ w).trans (Tryz.sizeOf183 w)
 v57:=λw=>(aO _ w).trans (Tryz.zeroValue183 w)
 t63:=xH
 a63:=λw=>(bX _ w).trans (Tryz.isAgg214 w)
 z63:=λw=>(bB _ w).trans (Tryz.sizeOf214 w)
 v63:=λw=>(aO _ w).trans (Tryz.zeroValue214 w)
 t64:=yw
 a64:=λw=>(bX _ w).trans (Tryz.isAgg90 w)
 z64:=λw=>(bB _ w).trans (Tryz.sizeOf90 w)
 v64:=λw=>(aO _ w).trans (Tryz.zeroValue90 w)}
open Go.Sort Go.RowKit in
def aas(a b cap:Nat)(d:List Int)(w:World)(j:Holds (Value.int .i64) w a b d.toArray)(c:a<w.heap.size)(f:d.length<4611686018427387904) :
  Calls (ah β) 38 #[.slice (some ⟨a,b,none⟩) d.length cap] w λe g=>
   e=.returned (.tuple #[])/\∃n i,g=grow (putRow (Value.int .i64) (Sort.ahead w n) a b (d.mergeSort λx y=>decide (x<=y)).toArray) i:=AnyM.slices_Sort_int mV a b cap d w j c f
open Go.RowKit Go.Sort in
def mA(p:Option Addr)(cap:Nat)(w:World) :
  Calls (ah β) 38 #[.slice p 0 cap] w λe a=>e=.returned (.tuple #[])/\a=w:=AnyM.slices_Sort_int_none mV p cap w
end
section
variable {β:Bool}
open Go.RowKit
def jZ(l:List Int):List Int:=l.mergeSort λx y=>decide (x<=y)
def mW(l:List Int):(jZ l).length=l.length:=List.length_mergeSort l
def atJ{base:Nat}(p:aH fM 3 w base v l)(q:l.length<4611686018427387904) :
  Calls (ah β) 38 #[v] w λe c=>e=.returned (.tuple #[])/\aH fM 3 c base v (jZ l)/\bM (λb=>v.ownBlock=some b) w c:=by
 obtain⟨A,⟨rfl,x⟩|⟨g,cap,d,rfl,u,j,z,r,t,m⟩⟩:=p
 .obtain rfl:=pi.1 x;refine(mA none 0 w).mono ?_;rintro e c ⟨rfl,rfl⟩;refine⟨rfl, ?_,bM.refl _ _⟩;rw[show jZ []=[] from pi.1 (mW [])];exact aH.nil _ _ _
 .have o:dm fM l=l.map (Value.int .i64):=pX l;rw[o] at m;have f:d.toList.take l.length=l.map (Value.int .i64):=by rw[<-m];show _=List.take (l.length*1) _;rw[tI]
  refine(aas g 0 cap l w (holds_of_blockI j f) (dk.1 j).1 q).mono ?_;rintro e c ⟨rfl,n,os,rfl⟩;have a:=grownBy_sortedI (w:=w) (g:=g) (n:=n) (os:=os) (jZ l).toArray;refine⟨rfl, ?_,a.os,a.tape,a.output,a.size,λk y i=>a.block k y λe=>i (by cases e;rfl)⟩;have s:=ownsRow_sortedI (w:=w) (base:=base) (g:=g) (cap:=cap) (n:=n) (os:=os) (ss:=l) (ts:=jZ l) (mW l) u j z r t;unfold aH;rw[pX,mW];exact s
def akA{base:Nat}(E:aH fM 3 w base v l)(F:l.length<=9223372036854775807) :
  Calls (ah β) 39 #[v] w λe d=>∃p,e=.returned p/\aH fM 3 d base p (Lib.compact l)/\bM (λb=>v.ownBlock=some b) w d:=by
 obtain⟨L,⟨rfl,H⟩|⟨g,cap,j,rfl,t,s,x,A,G,u⟩⟩:=E
 .obtain rfl:=pi.1 H;refine(jV none 0 w).mono ?_;rintro e d ⟨rfl,rfl⟩;refine⟨_,rfl, ?_,bM.refl _ _⟩;rw[show Lib.compact ([]:List Int)=[] from pi.1 (Nat.le_zero.1 (Lib.compact_length_le []))];exact aH.nil _ _ _
 .have D:dm fM l=l.map (Value.int .i64):=pX l;rw[D] at u;have f:j.toList.take l.length=l.map (Value.int .i64):=by rw[<-u];show _=List.take (l.length*1) _;rw[tI]
  have J:=Lib.compact_length_le l;refine(nW g 0 cap l w (holds_of_blockI s f) F x).mono ?_;rintro e d ⟨rfl,q,rfl⟩;have z:Sort.putRow (Value.int .i64) (Sort.ahead w q) g 0 (Lib.compact l++List.replicate (l.length-(Lib.compact l).length) 0).toArray=Sort.grow (Sort.putRow (Value.int .i64) (Sort.ahead w q) g 0 (Lib.compact l++List.replicate (l.length-(Lib.compact l).length) 0).toArray) #[]:=by rw[Sort.grow_empty]
  rw[z];have a:=grownBy_sortedI (w:=w) (g:=g) (n:=q) (os:=#[]) (Lib.compact l++List.replicate (l.length-(Lib.compact l).length) 0).toArray;refine⟨_,rfl, ?_,a.os,a.tape,a.output,a.size,λk B i=>a.block k B λe=>i (by cases e;rfl)⟩;obtain⟨-,⟨m, -⟩|⟨M,r,c,m, -,o,K,I,C,y⟩⟩:=ownsRow_sortedI (w:=w) (base:=base) (g:=g) (cap:=cap) (n:=q) (os:=#[]) (ss:=l) (ts:=Lib.compact l++List.replicate (l.length-(Lib.compact l).length) 0) (by simp;omega) t s x A G
  .cases m
  .cases m;unfold aH;rw[pX];refine⟨by rw[pe];exact(tI _).symm,.inr ⟨g,cap,c,rfl,t,o,by omega,I,C, ?_⟩⟩;show List.take ((Lib.compact l).length*1) _=_;rw[tI] at y ⊢;have:=fk (List.take (Lib.compact l).length) y;rw[vT,qY J,qK,List.take_left' (by rw[pe])] at this;exact this
end
section
variable {β:Bool}
open Go.RowKit
def aqq(l:List Int):(jZ l).Pairwise λa b=>a<=b:=by
 have h:=List.pairwise_mergeSort (le:=λx y:Int=>decide (x<=y)) (λa b c e d=>by simp at *;omega) (λa b=>by simp;omega) l;exact h.imp λh=>by simpa using h
def amY(l:List Int):(jZ l).Perm l:=List.mergeSort_perm _ _
def aik :(Lib.compact (jZ l)).length=l.length↔l.Nodup:=by
 rw[<-(amY l).nodup_iff,<-mW l];have c:=aqq l;generalize jZ l=z at c;constructor
 .intro h;have g:∀j,j<z.length->Lib.keeps z.toArray j=true:=λj a=>by
   unfold Lib.compact Lib.compactUpTo at h;rw[pe] at h;have d:((List.range z.length).filter (Lib.keeps z.toArray)).length=(List.range z.length).length:=by rw[h,List.length_range]
   exact List.length_filter_eq_length_iff.1 d j (ql.2 a)
  refine pZ.2 λi j m a n=> ?_;have f:=g j a;unfold Lib.keeps at f;have b:¬j=0:=by omega
  have k:z[j]≠z[j-1]:=by
   intro e;simp[b,getElem!_pos,a,show j-1<z.length by omega,e] at f
  have d:=pZ.1 c (j-1) j (by omega) a (by omega);have o:z[i]<=z[j-1]:=by
   by_cases e:i=j-1
   .subst e;exact ur _
   .exact pZ.1 c i (j-1) m (by omega) (by omega)
  omega
 .intro h;rw[Lib.compact_all z λj a=> ?_];unfold Lib.keeps;by_cases b:j=0
  .simp[b]
  .have:=pZ.1 h (j-1) j (by omega) a (by omega);simp[b,getElem!_pos,a,show j-1<z.length by omega];omega
end
section
open Go.RowKit
def abz{α:Type}(P:α->Prop)(f:α->Int)(l:List α):Prop:=(∀x∈l,P x)/\l.Pairwise λa b=>f a<f b
section
variable {α:Type} {P:α->Prop} {f:α->Int} {xs:List α} {x y:α} {j k:Nat}
def ahf:abz P f []:=⟨λx h=>(by cases h),List.Pairwise.nil⟩
def afE:abz P f (xs++[x])↔abz P f xs/\P x/\∀y∈xs,f y<f x:=by
 unfold abz;rw[rR];constructor
 .intro⟨d,e,_,g⟩;exact⟨⟨λy c=>d y (by simp[c]),e⟩,d x (by simp),λy c=>g y c x (by simp)⟩
 .intro⟨⟨d,e⟩,g,j⟩;refine⟨λy c=> ?_,e,rK _ _,λa i b k=> ?_⟩
  .rcases me.1 c with c|c
   .exact d y c
   .rw[lc.1 c];exact g
  .rw[lc.1 k];exact j a i
def aiu(b:xs[0]?=some x)(h:P x):abz P f (xs.take 1):=by
 rw[mx b];exact afE.2 ⟨ahf,h,λy a=>(by cases a)⟩
def am8(c:abz P f (xs.take (j+1)))(d:xs[j]?=some y)(e:xs[j+1]?=some x)(h:P x)(b:f y<f x):abz P f (xs.take (j+1+1)):=by
 rw[mx e];refine afE.2 ⟨c,h,λz a=> ?_⟩;rw[mx d] at a c;rcases me.1 a with a|a
 .have:=(afE.1 c).2.2 z a;omega
 .rw[lc.1 a];exact b
def am7(b:xs[j]?=some y)(c:xs[j+1]?=some x)(h:¬f y<f x):¬abz P f xs:=λd=>by
 have a:=pZ.1 d.2 j (j+1) (aB b) (aB c) (by omega);rw[(li.1 b).2,(li.1 c).2] at a;exact h a
end
def aqL(key:Int)(l:List Pk):Prop:=abz (lK key) Pk.no l/\l.length<=20/\(bG l).Nodup
def aoB(key:Int)(pk:List Pk)(x:Sn):Prop:=(1<=x.no/\x.no<=20)/\(gb key (ju pk) x.all).isSome=true
def aqG(key:Int)(pk:List Pk)(l:List Sn):Prop:=abz (aoB key pk) Sn.no l
def aqJ(key:Int)(s:dS):Prop:=aqL key s.pk/\aqG key s.pk s.sn
end
section
variable {β:Bool}
open Go.RowKit
def af9(key:Int)(o:1<=key/\key<=99)(l:List Pk)(B C:Option Addr)(nb b nc c':Nat)(v:Value)(w:World)(U hi:Nat)(h:jM w U hi l [v])(bu:hi<=w.heap.size)(hl:afH pkN l<=100000000)(r:Bool)(hr:r=true↔aqL key l) :
  Calls (ah β) 19 #[.agg #[v,.slice B nb b,.slice C nc c'],.int .i64 key] w λe w'=>e=.returned (.bool r)/\Below w.heap.size w w':=by
 replace hr:=ab hr;obtain⟨A,c,rfl⟩:=h.form;obtain⟨_,hc,hx⟩:=h.len_;unfold maxLen at hx;go_enter zJ,ntmps19;go_wp2;generalize hG:w.alloc (.cells #[.slice A l.length c,.slice B nb b,.slice C nc c'] 54)=w0 at *;obtain⟨Z,iv,k0,dP,fu⟩:=gT hG;clear hG;have h0:=jM.av.below h Z bu;have z0:=Z.size;go_loopw [11] (λi wr=>∃k:Nat,k<=l.length/\i=.int .i64 k/\abz (lK key) Pk.no (l.take k)/\Below w0.heap.size w0 wr) (λi _=>l.length-(intOf i).toNat)
 case atStart=>exact⟨0,fa _,rfl,ahf,gn _ _⟩
 case round=>
  obtain⟨k,hk,rfl,hn,g⟩:=hrel;have HN:=ab hn;clear hn;have H:=ak k0 g;clear k0 dP fu;have zr:=g.size;by_cases a7:k<l.length
  .obtain⟨p,W⟩:=ar a7;have X:=jM.av.below h0 g (by omega);obtain⟨b1,aK,A5,c5,rfl, -, -,ao,a5,ad,oC⟩:=aaw X W;replace W:=ab W;have HH:=ab bu;obtain⟨q,t⟩:=lM (lK key p);have HQ:=ab t;clear t;go_wp2;generalize hG:wr.alloc (.cells #[.int .i64 p.no,.slice A5 p.its.length c5] 36)=wa at *;obtain⟨Y,aP,m0,lJ,al⟩:=gT hG;clear hG;have ha:=jM.av.below X Y (by omega);have HI:=ab (iM.av.below oC Y (by omega));have ka:=ak H Y;have D:=ae g Y;have za:=Y.size;have P:Hid (hi<=wa.heap.size):=ab (by omega);have f0:=ka.cell 0;have N:=lJ 0;have K:=lJ 1;clear H oC a5 ad X Y;cases q with
   |false=>
    have d:r=false:=by
     rw[<-lP,hr.out];intro hp;have:=HQ.out.2 (hp.1.1 p (da W.out));cases this
    have I:=ab d;clear d;go_wp2;have J:=aj f0;have Q:=aj N;have R:=aj K;refine aG (by kernel_rfl) (by kernel_rfl) ?_;repeat(go_big_quiet_step (first|(go_at_call 8;refine cY (mF (β:=β) key o p _ _ U hi (bd P.out (gh.ok _).size) (iM.av.below HI.out (gh.ok _) P.out) _ HQ.out))))
    refine gt ?_;intro wq n;have t:=aN n;clear n J Q R;go_wp2;go_ret;exact⟨aC I.out.symm,ae Z (ae D t)⟩
   |true=>
    have z:=HQ.out.1 rfl;have m:=ab z;clear z;rcases oS k with a3|a3
    .subst a3;have dz:=aiu (f:=Pk.no) W.out m.out;have HK:=ab dz;clear dz;go_wp2;have J:=aj f0;have Q:=aj N;have R:=aj K;refine aG (by kernel_rfl) (by kernel_rfl) ?_;repeat(go_big_quiet_step (first|(go_at_call 8;refine cY (mF (β:=β) key o p _ _ U hi (bd P.out (gh.ok _).size) (iM.av.below HI.out (gh.ok _) P.out) true ⟨λ_=>m.out,λ_=>rfl⟩))))
     refine gt ?_;intro wq n;have t:=aN n;clear n J Q R;go_wp2;go_roundw
     case rel=>first|exact⟨1,by omega,by go_num,HK.out,ae D t⟩|((repeat apply Exists.intro);refine⟨?_,rfl⟩;exact⟨1,by omega,by go_num,HK.out,ae D t⟩)
     simp[intOf];omega
    .obtain⟨j,rfl⟩:∃j,k=j+1:=⟨k-1,by omega⟩;have e1:((j+1:Nat):Int)-1=(j:Int):=by omega
     obtain⟨y,dV⟩:=ar (l:=l) (k:=j) (by omega);obtain⟨b2,mE,A7,c7,a1, -, -,aL,a4, -, -⟩:=aaw ha dV;simp only[jp,qk,qm] at a1;obtain⟨rfl,rfl⟩:=a1;replace dV:=ab dV;by_cases L:y.no<p.no
     .have u1:=bv (show ¬(p.no<=y.no) by omega);have dz:=am8 HN.out dV.out W.out m.out L;have HK:=ab dz;clear dz L;go_wp2;have J:=aj f0;have Q:=aj N;have R:=aj K;have gK:=aj a4;refine aG (by kernel_rfl) (by kernel_rfl) ?_;repeat(go_big_quiet_step (first|(go_at_call 8;refine cY (mF (β:=β) key o p _ _ U hi (bd P.out (gh.ok _).size) (iM.av.below HI.out (gh.ok _) P.out) true ⟨λ_=>m.out,λ_=>rfl⟩))))
      refine gt ?_;intro wq n;have t:=aN n;clear n J Q R gK;go_wp2;go_roundw
      case rel=>first|exact⟨j+1+1,by omega,by go_num,HK.out,ae D t⟩|((repeat apply Exists.intro);refine⟨?_,rfl⟩;exact⟨j+1+1,by omega,by go_num,HK.out,ae D t⟩)
      simp[intOf];omega
     .have u1:=db (show p.no<=y.no by omega);have d:r=false:=by
       rw[<-lP,hr.out];exact λhp=>am7 dV.out W.out L hp.1
      have I:=ab d;clear d L;go_wp2;have J:=aj f0;have Q:=aj N;have R:=aj K;have gK:=aj a4;refine aG (by kernel_rfl) (by kernel_rfl) ?_;repeat(go_big_quiet_step (first|(go_at_call 8;refine cY (mF (β:=β) key o p _ _ U hi (bd P.out (gh.ok _).size) (iM.av.below HI.out (gh.ok _) P.out) true ⟨λ_=>m.out,λ_=>rfl⟩))))
      refine gt ?_;intro wq n;have t:=aN n;clear n J Q R gK;go_wp2;go_ret;exact⟨aC I.out.symm,ae Z (ae D t)⟩
  .obtain rfl:k=l.length:=by omega
   have z:=HN.out;rw[ge] at z;have m:=ab z;clear z HN;have f0:=H.cell 0;have X:=jM.av.below h0 g (by omega);go_wp2;refine(ow l _ _ U hi (by omega) X hl).mono ?_;rintro e w1 ⟨v1,rfl,o1,b1⟩;have hn:(bG l).length=afH pkN l:=by
    have:=ach l l.length;rw[ge,apm] at this;exact this
   go_wp2;refine(atJ o1 (by omega)).mono ?_;rintro e w2 ⟨rfl,o2,a2⟩;have hS:∀b,v1.ownBlock=some b->wr.heap.size<=b:=λb hb=>(o1.at_ hb).1;have G:Below wr.heap.size wr w2:=b1.trans (a2.below b1.size λi hi e=>by have:=hS i e;omega);have z2:=G.size;have k2:=ak H G;have h2:=jM.av.below X G (by omega);have f2:=k2.cell 0;obtain⟨A2,c2,rfl⟩:=o2.form;have a8:=mW (bG l);have jm:=Lib.compact_length_le (jZ (bG l));have a0:=ae Z (ae g G);have HC:=ab (aik (l:=bG l));have af:Hid ((jZ (bG l)).length<=9223372036854775807):=ab (by omega);have a9:=ab o2;have aa:Hid ((bG l).length<=100000000):=ab (by omega);clear H f0 X o1 b1 a2 o2 hn Z g G h0 h k2;obtain⟨M,hM⟩:∃M,M=Lib.compact (jZ (bG l)):=⟨_,rfl⟩;rw[<-hM] at HC jm;replace hM:=ab hM;have an:Hid (M.length<=100000000):=ab (by have:=aa.out;omega);clear a8 jm;by_cases F:(l.length:Int)<=20
   case' neg=>
    have u1:decide ((l.length:Int)<=20)=false:=bv F;have d:r=false:=by
     rw[<-lP,hr.out];exact λhp=>F (by have:=hp.2.1;omega)
    have I:=ab d;clear d F;go_wp2;have J:=aj f2;refine aG (by kernel_rfl) (by kernel_rfl) ?_;repeat(go_big_quiet_step (fail))
    refine gt ?_;intro wq n;have t:=aN n;clear n J;go_wp2;go_ret;exact⟨aC I.out.symm,ae a0 t⟩
   have u1:decide ((l.length:Int)<=20)=true:=db F;have u2:((M.length:Int) ==((bG l).length:Int))=r:=by
    have h3:r=true↔M.length=(bG l).length:=by
     rw[hr.out,HC.out];exact⟨λh=>h.2.2,λh=>⟨m.out,by omega,h⟩⟩
    rw[qj,h3,mp];omega
   clear F;have U2:=ab u2;clear u2;go_wp2;have aJ:=nJ (s:=6) (ty:=3) (S:=λb=>(Value.slice A2 (jZ (bG l)).length c2).ownBlock=some b) (pre:=[]) f2 (λe=>by have:=hS _ e;dsimp only at this;omega);refine ae5 6 3 (λb=>(Value.slice A2 (jZ (bG l)).length c2).ownBlock=some b) [] 15 [0,1,2,3,4,5,8,9] [6,7,10,11,12,13,14] (by kernel_rfl) (by kernel_rfl) (by kernel_rfl) ?_;simp only[pick,List.map,mT,nf];repeat(go_big_quiet_step (fail))
   refine gt ?_;apply Exists.intro;apply ar6 (λv x=>x.done=true/\aH fM 3 x.to wr.heap.size v M)
   .rfl
   .rfl
   .exact λj hj=>(by cases hj)
   .exact λv x y ⟨hd,ho⟩ hle=>⟨(hle.from_ hd).1,ho.below (hle.from_ hd).2⟩
   .intro x _ E Qx a;replace a:=ab a;have u:=x.till E;have ox:=a9.out.below u;go_wp2;refine(akA ox af.out).mono ?_;rintro e wy ⟨v5,rfl,O,c5⟩;rw[<-hM.out] at O;go_wp2;exact a.out _ _ (c5.mono λb hb e=>.inl e) ⟨rfl,O⟩
   intro ay;simp only[Act.put,de,fi,ga];apply acO (.int .i64 M.length)
   .intro x V _ Qx a;replace a:=ab a;obtain⟨E,O⟩:=V.1 (by kernel_rfl);obtain⟨A5,c5,rfl⟩:=O.form;go_wp2;exact a.out _ (gn _ _)
   simp only[Act.put,de,fi,ga];apply ar5 (λv x=>x.done=true/\aH fM 3 x.to wr.heap.size v (bG l))
   .rfl
   .exact λv x y ⟨hd,ho⟩ hle=>⟨(hle.from_ hd).1,ho.below (hle.from_ hd).2⟩
   .intro x V _ Qx a;replace a:=ab a;obtain⟨E, -⟩:=V.1 (by kernel_rfl);have u:Below wr.heap.size w2 x.to:=(x.ok.mono (T:=λb=>(Value.slice A2 (jZ (bG l)).length c2).ownBlock=some b) λb _ h=>h.2).below z2 λi hi e=>by have:=hS i e;omega
    have h3:=jM.av.below h2 u (by omega);have zx:=x.ok.size;go_wp2;refine(ow l _ _ U hi (by omega) h3 hl).mono ?_;rintro e wy ⟨v5,rfl,O,b5⟩;go_wp2;exact a.out _ _ b5 ⟨E,O.base (by omega)⟩
   intro ax;simp only[Act.put,de,fi,ga];apply acO (.int .i64 (bG l).length)
   .intro x V _ Qx a;replace a:=ab a;obtain⟨E,O⟩:=V.1 (by kernel_rfl);obtain⟨A5,c5,rfl⟩:=O.form;go_wp2;exact a.out _ (gn _ _)
   simp only[Act.put,de,fi,ga];apply acO (.bool r)
   .intro x _ _ Qx a;replace a:=ab a;have u2:=U2.out;go_wp2;exact a.out _ (gn _ _)
   simp only[Act.put,de,fi,ga];apply acO (.bool r)
   .intro x _ _ Qx a;replace a:=ab a;go_wp2;exact a.out _ (gn _ _)
   simp only[Act.put,de,fi,ga];apply acO (.bool r)
   .intro x _ _ Qx a;replace a:=ab a;go_wp2;exact a.out _ (gn _ _)
   simp only[Act.put,de,fi,ga];refine ar7 λx V=> ?_;have u:Below wr.heap.size w2 x.to:=(x.ok.mono (T:=λb=>(Value.slice A2 (jZ (bG l)).length c2).ownBlock=some b) λb _ h=>h.2).below z2 λi hi e=>by have:=hS i e;omega
   have a6:=a0.trans (u.mono (by omega));clear V u;simp only[List.drop];go_wp2;go_ret;exact⟨rfl,a6⟩
end
end Go.Proofs.YtpbbcfocomejmaaGreatDoor