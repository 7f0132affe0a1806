/- A part. -/
import Derived.Test.YtlggbfanooejbaaGreatDoorG8
import Derived.Conc.AppendWalk
import Derived.DuoClaim
import Derived.Conc.LeavingOf
import Derived.SizedLaws
import Derived.Shelf.Sort.Plain
import Derived.Shelf.Slices.CompactI
import Derived.Shelf.Slices.In.SortNone
import Derived.Sort.OwnSortedInts
import Derived.Lib.RowBridge
set_option maxRecDepth 100000
set_option maxHeartbeats 8000000
set_option linter.all false
open Go Go.Conc Go.ConcN Go.RowKit Go.Proofs.Tryz Go.Proofs.YtlggbfanooejbaaGreatDoor
variable {R aV:aq} {Y b c i j n:Nat} {key:Int} {a:Addr} {o:Oper} {V W w:World} {fr:Frame} {t:Trace} {v:Value} {f:FuncId} {ty:TypeId} {P:Program} {d:TypeDesc} {l:List Int} {rest:List Nat} {g:Goroutine} {k:List Item} {U:Array Oper} {af:Array Edge} {xs:List Frame} {X:Array Value} {S A:Option Addr} {es:Array Event} {e:Operand→Value} {gd:Option (Nat × Bool)} {T:Goroutine→World→Prop} {Stop:aq→Goroutine→World→Prop} {Z:Int→List ig→Int→ByteArray × Bool}
namespace Go.Proofs.YtlggbfanooejbaaGreatDoor
def uE:=@Go.Lib.compact_length_le
def vJ:=@List.toArray_replicate
def vT:=@Bool.and_eq_false_iff
def wd:=@Bool.or_eq_false_iff
section
open Go.Conc Go.ConcN Go.RowKit
open Go.ConcR (KK wgBlock WgAt stA smA rd wr mk Payload DC0)
def Wx.cap(X:Wx):Nat->Value
 |1=>.pointer (some ⟨X.bk,0,none⟩)
 |2=>.pointer (some ⟨X.bp,0,none⟩)
 |3=>.pointer (some ⟨X.bn,0,none⟩)
 |4=>.pointer (some ⟨X.ba,0,none⟩)
 |_=>.pointer (some ⟨X.bi,0,none⟩)
def Wx.val(X:Wx)(v:ByteArray×Bool):Nat->Value
 |0=>.slice (some ⟨X.C,0,none⟩) X.n2 X.n2
 |1=>.int .i64 X.κ
 |2=>.int .i64 X.key
 |3=>.slice X.A X.n X.c
 |4=>.int .i64 X.nm
 |5=>.agg #[.string v.1,.bool v.2]
 |_=>.pointer (some ⟨X.C,2*X.κ,none⟩)
abbrev FW(dd:Deferred)(T:Array Value)(k:List Item):Frame:=⟨nCl,T,k,[dd],.run,.deferred,none⟩
structure RI (X:Wx) (v:ByteArray×Bool) (listed:Array Bool) (T:Array Value) (S:aq) (w:World):Prop where
 sz:T.size=13
 cap:∀t,1<=t->t<=5->T.getD t undef=X.cap t
 done:∀j,j<7->listed.getD j false=true->T.getD (6+j) undef=X.val v j
 st:listed.getD 7 false=true->Has X.C (2*X.κ) (.string v.1) w/\Has X.C (2*X.κ+1) (.bool v.2) w
 ord:listed.getD 7 false=true->∀j,j<7->listed.getD j false=true
 inv:X.Inv S w
section
variable {P:Program} {m:Bool} {fr:Frame} {xs base:List Frame} {ops:Array Oper} {i:Nat} {rest:List Nat} {k:List Item} {o:Oper} {w w2:World} {es:Array Event} {v:Value}
def atK (f:fr.mode=.run) (g:(fr.kind ==.early)=false) (b:fr.roundOf=none) (e:fr.todo=.inRegion ops (i::rest)::k) (n:ops[i]?=some o) (q:o.guard=none)
  (p:(execOp fr.eval o).runT P w #[]=(.ok (.value v) w2,es)):stepG P m (Gl (fr::xs) base) w=.go (Gl (fr.finish v::xs) base) w2 (seen P fr.fn es):=by
 obtain⟨fn,a,j,d,t,c,s⟩:=fr;dsimp only at f g b e;subst f b e;have l:∀y,Region.wanted o y=true:=λy=>by unfold Region.wanted;rw[q]
 have r:stepG P m (Gl (⟨fn,a,.inRegion ops (i::rest)::k,d,.run,c,none⟩::xs) base) w =
   stepG.apply P true ⟨fn,a,.inRegion ops (i::rest)::k,d,.run,c,none⟩ (xs++base) none (execOp (Frame.eval ⟨fn,a,.inRegion ops (i::rest)::k,d,.run,c,none⟩) o) w:=by
  simp[Gl,stepG,stepG.exec,stepG.oper,Frame.oper?,n,l]
 rw[r];unfold stepG.apply;simp only[p,pr];simp[GStep.after,g,Gl]
def akR (f:fr.mode=.run) (g:(fr.kind ==.early)=false) (b:fr.roundOf=none) (e:fr.todo=.inRegion ops (i::rest)::k) (n:ops[i]?=some o) (q:o.guard=none)
  (p:(execOp fr.eval o).runT P w #[]=(.ok .skip w2,es)):stepG P m (Gl (fr::xs) base) w=.go (Gl (fr.finish undef::xs) base) w2 (seen P fr.fn es):=by
 obtain⟨fn,a,j,d,t,c,s⟩:=fr;dsimp only at f g b e;subst f b e;have l:∀y,Region.wanted o y=true:=λy=>by unfold Region.wanted;rw[q]
 have r:stepG P m (Gl (⟨fn,a,.inRegion ops (i::rest)::k,d,.run,c,none⟩::xs) base) w =
   stepG.apply P true ⟨fn,a,.inRegion ops (i::rest)::k,d,.run,c,none⟩ (xs++base) none (execOp (Frame.eval ⟨fn,a,.inRegion ops (i::rest)::k,d,.run,c,none⟩) o) w:=by
  simp[Gl,stepG,stepG.exec,stepG.oper,Frame.oper?,n,l]
 rw[r];unfold stepG.apply;simp only[p,pr];simp[GStep.after,g,Gl]
end
noncomputable def fw:Frame:={(default:Frame) with fn:=prog.funcs.size,defers:=[],mode:=.panicking [goexitEntry]}
section
variable {X:Wx} {v:ByteArray×Bool} {listed:Array Bool} {T T':Array Value} {S:aq} {w w1:World} {dd:Deferred} {k:List Item} {rest:List Nat}
def acE(h:Has X.C (2*X.κ) (.string v.1) w/\Has X.C (2*X.κ+1) (.bool v.2) w)(a:X.Rl S w w1):Has X.C (2*X.κ) (.string v.1) w1/\Has X.C (2*X.κ+1) (.bool v.2) w1:=
 ⟨(a.cell (2*X.κ) (by show 2*X.κ / 2=X.κ;omega)).trans h.1,(a.cell (2*X.κ+1) (by show(2*X.κ+1) / 2=X.κ;omega)).trans h.2⟩
def RI.rely(h:RI X v listed T S w)(a:X.Rl S w w1):RI X v listed T S w1:=⟨h.sz,h.cap,h.done,λe=>acE (h.st e) a,h.ord,h.inv.rely a⟩
def RI.put(h:RI X v listed T S w)(k:listed.size=8)(hi:i<7)(b:Tm [6+i] T T')(d:T'.getD (6+i) undef=X.val v i):RI X v (listed.setIfInBounds i true) T' S w:=by
 refine⟨b.size.trans h.sz,λt f g=>(b.same t (by simp;omega)).trans (h.cap t f g),λj c e=> ?_,λe=> ?_,λe j c=> ?_,h.inv⟩
 .by_cases a:j=i
  .subst a;exact d
  .rw[iI (by omega),bv a] at e;exact(b.same (6+j) (by simp;omega)).trans (h.done j c e)
 .rw[iI (by omega),bv (by omega)] at e;exact h.st e
 .rw[iI (by omega),bv (by omega)] at e;rw[iI (by omega)];by_cases a:j=i
  .rw[dj a]
  .rw[bv a];exact h.ord e j c
def atM(hi:X.Inv S w)(g:X.Ok)(c:X.R b):X.Gr S S w w (seen prog f #[⟨.cell ⟨b,0,none⟩,false,false⟩]):=by
 refine⟨λ_ _ _ _=>rfl,am _,rfl,id,λ_ _=>rfl,λ_ h=>h,λ_ h=>.inl h,λe i=> ?_⟩;have a:=sZ i;simp only[so,me,rQ,uw] at a;subst a;refine⟨λx d=>.inr (.inr ?_),(λe=>by cases e),(λe=>by cases e),(λe=>by cases e), ?_⟩
 .simp[MemAct.ofEvent,MemAct.touch?] at d;rw[<-d];exact⟨c,rfl⟩
 .exact bd (g.rlt b c) hi.sz
def akS :X.Gr S S w w (seen prog f #[]):=
 ⟨λ_ _ _ _=>rfl,am _,rfl,id,λ_ _=>rfl,λ_ h=>h,λ_ h=>.inl h,λe a=>by cases(by simpa using sZ a:False)⟩
def akT{x:Operand}{t:TypeId}{A:Addr}{u:Value}{dst:Option Tmp}{pos:String}(b:P.underlying t=some d)(a:ako d=true)(c:e x=.pointer (some A))(f:w.cell? A=some u) :
  (execOp e ⟨dst,.load t x,ty,pos,af,gd⟩).runT P w #[]=(.ok (.value u) w,#[⟨.cell A,false,false⟩]):=by
 cases d<;>first|(cases a;done)|simp[execOp,c,Instr.loadAt,Instr.sureAddr,loadVar,isAgg,lw b,f]
def acF (n:X.Ok) (h:RI X v listed T S w) {t ty : Nat}  (hi:i<5) (a:∃p,aT[i]?=some ⟨some (6+i),.load ty (.tmp t),ty,p,#[],none⟩) (q:prog.underlying ty=some d) (l:ako d=true)
  (c:T.getD t undef=.pointer (some ⟨b,0,none⟩)) (e:X.R b/\X.w0.cell? ⟨b,0,none⟩=some (X.val v i))
  (K:∀T' g,RI X v listed T S g->Tm [6+i] T T'->T'.getD (6+i) undef=X.val v i->bK prog false X.Rl X.Gr Stop S (Gl [FW dd T' (.inRegion aT rest::k)] [fw]) g) :
  bK prog false X.Rl X.Gr Stop S (Gl [FW dd T (.inRegion aT (i::rest)::k)] [fw]) w:=by
 obtain⟨p,a⟩:=a;refine .step rfl λw1 o=> ?_;have f:=h.rely o;refine⟨_,w1,_,S,atK (xs:=[]) (base:=[fw]) rfl rfl rfl rfl a rfl (akT q l (x:=.tmp t) (A:=⟨b,0,none⟩) c (f.inv.cell e.1 e.2)),atM f.inv n e.1, ?_⟩;have m:Frame.finish (FW dd T (.inRegion aT (i::rest)::k)) (X.val v i)=FW dd (T.setIfInBounds (6+i) (X.val v i)) (.inRegion aT rest::k):=by
  simp only[Frame.finish,a,qH]
 rw[m];have j:6+i<T.size:=by rw[h.sz];omega
 exact K _ w1 f (.one (by simp) λt c=>by rw[aH j,bv c]) (by rw[aH j,dj rfl])
def atN(F:FaT P){x y:Operand}{dst:Option Tmp}{pos:String}(f:e x=.slice (some a) n c)(b:e y=.int .i64 j)(g:j<n) :
  (execOp e ⟨dst,.indexAddr 160 x y,ty,pos,af,gd⟩).runT P w #[]=(.ok (.value (.pointer (some (a.add (j*2))))) w,#[]):=by
 obtain⟨i,d,k, -⟩:=F.i258;simp[execOp,f,b,Instr.indexAt,asIntOf,lw F.aiB,g,sizeOf,typeInfo,d,k]
def atO (e:X.Ok) (h:RI X v listed T S w) (g:listed.getD 0 false=true) (l:listed.getD 1 false=true)
  (K:∀T' b,RI X v listed T S b->Tm [6+6] T T'->T'.getD (6+6) undef=X.val v 6->bK prog false X.Rl X.Gr Stop S (Gl [FW dd T' (.inRegion aT rest::k)] [fw]) b) :
  bK prog false X.Rl X.Gr Stop S (Gl [FW dd T (.inRegion aT (6::rest)::k)] [fw]) w:=by
 obtain⟨p,a⟩:=aB2;refine .step rfl λw1 f=> ?_;refine⟨_,w1,_,S,atK (xs:=[]) (base:=[fw]) rfl rfl rfl rfl a rfl (atN faT (x:=.tmp 6) (y:=.tmp 7) (h.done 0 (by omega) g) (h.done 1 (by omega) l) e.kn),akS, ?_⟩;have j:(⟨X.C,0,none⟩:Addr).add (X.κ*2)=⟨X.C,2*X.κ,none⟩:=by rw[iZ,lm,tU]
 rw[j];have d:Frame.finish (FW dd T (.inRegion aT (6::rest)::k)) (X.val v 6)=FW dd (T.setIfInBounds 12 (X.val v 6)) (.inRegion aT rest::k):=by
  simp only[Frame.finish,a,qH]
 have c:12<T.size:=by rw[h.sz];omega
 have:=K (T.setIfInBounds 12 (X.val v 6)) w1 (h.rely f) (.one (by simp) λt i=>by rw[aH c,bv i]) (by rw[aH c,dj rfl]);rw[<-d] at this;exact this
end
def aiU{args:Array Value} :(callFunc 110 args).runT prog w #[]=(.ok (.enter 110 args) w,#[]):=by
 have a:=cL func110;have c:¬f110.name= "runtime.NumGoroutine" :=by simpa using a
 have b:¬f110.body=none:=λe=>by have:=af5;rw[e] at this;cases this
 unfold callFunc;simp[func110,c,b]
def akU {m:Bool} {base : List Frame}     {w2 : World}  {args:Array Value} (j:fr.mode=.run) (l:(fr.kind ==.early)=false) (b:fr.roundOf=none) (g:fr.todo=.inRegion U (i::rest)::k) (p:U[i]?=some o) (r:o.guard=none)
  (q:(execOp fr.eval o).runT P w #[]=(.ok (.enter f args) w2,es)):stepG P m (Gl (fr::xs) base) w=.go (Gl (Frame.enter P f args .normal::fr::xs) base) w2 (seen P fr.fn es):=by
 obtain⟨fn,a,e,d,u,c,t⟩:=fr;dsimp only at j l b g;subst j b g;have n:∀y,Region.wanted o y=true:=λy=>by unfold Region.wanted;rw[r]
 have s:stepG P m (Gl (⟨fn,a,.inRegion U (i::rest)::k,d,.run,c,none⟩::xs) base) w =
   stepG.apply P true ⟨fn,a,.inRegion U (i::rest)::k,d,.run,c,none⟩ (xs++base) none (execOp (Frame.eval ⟨fn,a,.inRegion U (i::rest)::k,d,.run,c,none⟩) o) w:=by
  simp[Gl,stepG,stepG.exec,stepG.oper,Frame.oper?,p,n]
 rw[s];unfold stepG.apply;simp only[q,pr];simp[GStep.after,l,Gl]
section
variable {X:Wx} {v:ByteArray×Bool} {listed:Array Bool} {T T':Array Value} {S:aq} {w w1:World} {dd:Deferred} {k:List Item} {rest:List Nat}
def awi(a:X.Ok)(q:eM Z)(j:∀d nm,Z d [] nm=(⟨#[]⟩,false))(hi:X.Inv S w){cfr:Frame} :
  bK prog false X.Rl X.Gr (λn g w1=>g=⟨cfr.finish (.agg #[.string (Z X.key X.l X.nm).1,.bool (Z X.key X.l X.nm).2]),[fw],.running,none,none⟩/\X.Inv n w1) S
   (Gl (Frame.enter prog 110 #[.int .i64 X.key,.slice X.A X.n X.c,.int .i64 X.nm] .normal::[]) [cfr,fw]) w:=by
 by_cases k:X.n=0
 .have l:X.l=[]:=by have:=a.hl;rw[k] at this;exact pu.1 this
  rw[l,j,k];exact Wx.lift a (awf X.np) hi
 .have m:∀(A:Addr) (u:Value),X.w0.cell? A=some u->X.Rg A.block->plV (λb=>X.Rg b/\eJ X.w0 b) u->w.cell? A=some u:=λA u o p _=>(gK (hi.r _ (a.rows _ p))).trans o;exact Wx.lift a (aty (Rg:=X.Rg) q (db a.hN hi.sz) (λg i=>by
   obtain⟨c,t,z,e⟩:=a.gr g i;exact⟨a.gl g i,c,t,z,(hi.r g (a.rows g (a.gl g i))).trans e⟩) a.k1 a.k2 a.hl a.hc a.hcm (a.rd.mask a.rgp a.al m) (a.rgp.move a.al λb f=>hi.r b (a.rows b f)) a.al (by omega) a.nm X.np (λb f=>a.rows b f.1)) hi
def atP (B:X.Ok) (x:eM Z) (a:∀b nm,Z b [] nm=(⟨#[]⟩,false)) (h:RI X (Z X.key X.l X.nm) listed T S w) (f:listed.getD 5 false=false) (n:listed.getD 2 false=true) (D:listed.getD 3 false=true) (q:listed.getD 4 false=true)
  (K:∀T' l d,RI X (Z X.key X.l X.nm) listed T l d->Tm [6+5] T T'->T'.getD (6+5) undef=X.val (Z X.key X.l X.nm) 5->bK prog false X.Rl X.Gr Stop l (Gl [FW dd T' (.inRegion aT rest::k)] [fw]) d) :
  bK prog false X.Rl X.Gr Stop S (Gl [FW dd T (.inRegion aT (5::rest)::k)] [fw]) w:=by
 obtain⟨p,j⟩:=aB1;refine .step rfl λw1 C=> ?_;have r:=h.rely C;have m:∀w,(execOp (Frame.eval (FW dd T (.inRegion aT (5::rest)::k))) ⟨some 11,.call ⟨.value (.func 110),#[.tmp 8,.tmp 9,.tmp 10],#[3,23,3]⟩,171,p,#[⟨2,.data⟩,⟨3,.data⟩,⟨4,.data⟩],none⟩).runT prog w #[]=(.ok (.enter 110 #[.int .i64 X.key,.slice X.A X.n X.c,.int .i64 X.nm]) w,#[]):=λw=>by
  have E:Array.map (Frame.eval (FW dd T (.inRegion aT (5::rest)::k))) #[.tmp 8,.tmp 9,.tmp 10]=#[.int .i64 X.key,.slice X.A X.n X.c,.int .i64 X.nm]:=by
   have G:T.getD 8 undef=.int .i64 X.key:=h.done 2 (by omega) n;have v:T.getD 9 undef=.slice X.A X.n X.c:=h.done 3 (by omega) D;have y:T.getD 10 undef=.int .i64 X.nm:=h.done 4 (by omega) q;rw[<-G,<-v,<-y];simp[Frame.eval]
  have F:execOp (Frame.eval (FW dd T (.inRegion aT (5::rest)::k))) ⟨some 11,.call ⟨.value (.func 110),#[.tmp 8,.tmp 9,.tmp 10],#[3,23,3]⟩,171,p,#[⟨2,.data⟩,⟨3,.data⟩,⟨4,.data⟩],none⟩=callFunc 110 #[.int .i64 X.key,.slice X.A X.n X.c,.int .i64 X.nm]:=by
   simp only[execOp,resolve];rw[E];simp[Deferred.ofValue,invoke,Frame.eval];try rfl
  exact(gn (λs=>Sem.runT prog s w #[]) F).trans aiU
 refine⟨_,w1,_,S,akU (xs:=[]) (base:=[fw]) rfl rfl rfl rfl j rfl (m w1),akS, ?_⟩;refine bK.bind X.np.fZ X.np.tr (awi B x a r.inv (cfr:=FW dd T (.inRegion aT (5::rest)::k))) λz g H ⟨hg,mR⟩=> ?_;subst hg;have i:11<T.size:=by rw[h.sz];omega
 have A:Frame.finish (FW dd T (.inRegion aT (5::rest)::k)) (X.val (Z X.key X.l X.nm) 5)=FW dd (T.setIfInBounds 11 (X.val (Z X.key X.l X.nm) 5)) (.inRegion aT rest::k):=by
  simp only[Frame.finish,j,qH]
 have u:listed.getD 7 false=false:=by
  cases e:listed.getD 7 false with
  |false=>rfl
  |true=>rw[h.ord e 5 (by omega)] at f;cases f
 have:=K (T.setIfInBounds 11 (X.val (Z X.key X.l X.nm) 5)) z H ⟨h.sz,h.cap,h.done,λe=>(by rw[u] at e;cases e),h.ord,mR⟩ (.one (by simp) λt o=>by rw[aH i,bv o]) (by rw[aH i,dj rfl]);rw[<-A] at this;exact this
end
section
variable {X:Wx} {v:ByteArray×Bool} {listed:Array Bool} {T T':Array Value} {S:aq} {w w1:World} {dd:Deferred} {k:List Item} {rest:List Nat}
def aqD (B:X.Ok) (h:RI X v listed T S w) (M:listed.getD 5 false=true) (U:listed.getD 6 false=true)
  (K:∀s,X.Inv S s->(Has X.C (2*X.κ) (.string v.1) s/\Has X.C (2*X.κ+1) (.bool v.2) s)->bK prog false X.Rl X.Gr Stop S (Gl [FW dd T (.inRegion aT rest::k)] [fw]) s) :
  bK prog false X.Rl X.Gr Stop S (Gl [FW dd T (.inRegion aT (7::rest)::k)] [fw]) w:=by
 obtain⟨p,F⟩:=aB3;refine .step rfl λw1 Q=> ?_;have E:=h.rely Q;obtain⟨t,g,H⟩:=E.inv.pay;have g:w1.heap[X.C]?=some (.cells t 171 (0,0)):=g;have L:=B.kn;obtain⟨u0,C⟩:∃u,t[2*X.κ]?=some u:=⟨_,gt (by omega)⟩;obtain⟨u1,z⟩:∃u,t[2*X.κ+1]?=some u:=⟨_,gt (by omega)⟩;have D:(⟨X.C,2*X.κ,none⟩:Addr).add 1=⟨X.C,2*X.κ+1,none⟩:=iZ _ _ _;have q:=ahy faT (w:=w1) (e:=Frame.eval (FW dd T (.inRegion aT (7::rest)::k))) (x:=.tmp 12) (y:=.tmp 11) (dst:=none) (ty:=0) (pos:=p) (af:=#[⟨6,.data⟩,⟨5,.data⟩,⟨5,.chain⟩,⟨0,.phase⟩,⟨1,.phase⟩,⟨2,.phase⟩,⟨3,.phase⟩,⟨4,.phase⟩,⟨5,.phase⟩]) (gd:=none) (A:=⟨X.C,2*X.κ,none⟩) (u0:=.string v.1) (u1:=.bool v.2) rfl rfl
  (h.done 6 (by omega) U) (h.done 5 (by omega) M) ((fc g).trans C) (iB g) (by rw[D];exact(fc g).trans z) (by rw[D];exact iB g)
 rw[D] at q;have a:((w1.setCell ⟨X.C,2*X.κ,none⟩ (.string v.1)).setCell ⟨X.C,2*X.κ+1,none⟩ (.bool v.2)).heap[X.C]?=some (.cells ((t.setIfInBounds (2*X.κ) (.string v.1)).setIfInBounds (2*X.κ+1) (.bool v.2)) 171 (0,0)):=vw (vw g);have c:((w1.setCell ⟨X.C,2*X.κ,none⟩ (.string v.1)).setCell ⟨X.C,2*X.κ+1,none⟩ (.bool v.2)).heap.size=w1.heap.size:=by rw[fd,fd]
 have d:∀b,b≠X.C->((w1.setCell ⟨X.C,2*X.κ,none⟩ (.string v.1)).setCell ⟨X.C,2*X.κ+1,none⟩ (.bool v.2)).heap[b]?=w1.heap[b]?:=λb j=>by
  rw[bm _ _ _ (λe=>j e.symm),bm _ _ _ (λe=>j e.symm)]
 have n:((w1.setCell ⟨X.C,2*X.κ,none⟩ (.string v.1)).setCell ⟨X.C,2*X.κ+1,none⟩ (.bool v.2)).ou=w1.ou:=rfl;have l:=akR (m:=false) (xs:=[]) (base:=[fw]) (k:=k) (fr:=FW dd T (.inRegion aT (7::rest)::k)) rfl rfl rfl rfl F rfl q;generalize ((w1.setCell ⟨X.C,2*X.κ,none⟩ (.string v.1)).setCell ⟨X.C,2*X.κ+1,none⟩ (.bool v.2))=w2 at a c d n l;have O:Frame.finish (FW dd T (.inRegion aT (7::rest)::k)) undef=FW dd T (.inRegion aT rest::k):=by
  simp only[Frame.finish,F,qH]
 rw[O] at l;have f:=E.inv;have o:X.Inv S w2:=by
  refine⟨λb j=>(d b (λe=>B.rC (e▸j))).trans (f.r b j),f.s,by rw[c];exact f.c,by rw[c];exact f.wg,by rw[c];exact f.sz, ?_,⟨_,a,by simpa using H⟩,n.trans f.os⟩;obtain⟨R,sm,P⟩:=f.live;exact⟨R,sm,(d X.Wg (λe=>B.cW e.symm)).trans P⟩
 refine⟨_,w2,_,S,l,⟨λb _ _ j=>d b j,mu c.symm,n,λ_=>⟨_,a,by simpa using H⟩,λi I=> ?_,λ_ h=>h,λ_ h=>.inl h,λe V=> ?_⟩,K w2 o ⟨?_, ?_⟩⟩
 .have N:i≠2*X.κ:=λe=>I (by show i / 2=X.κ;omega);have W:i≠2*X.κ+1:=λe=>I (by show i / 2=X.κ;omega);rw[fc a,fc g,jn (λe=>W e.symm),jn (λe=>N e.symm)]
 .have G:=sZ V;simp only[so,me,rQ,uw] at G;have J:X.C<w2.heap.size:=by rw[c];exact f.c
  rcases G with rfl|rfl
  .refine⟨λx r=>.inr (.inl ⟨⟨X.C,2*X.κ,none⟩, ?_,rfl, ?_⟩),(λe=>by cases e),(λe=>by cases e),(λe=>by cases e),J⟩
   .simp[MemAct.ofEvent,MemAct.touch?] at r;rw[<-r]
   .show 2*X.κ / 2=X.κ;omega
  .refine⟨λx r=>.inr (.inl ⟨⟨X.C,2*X.κ+1,none⟩, ?_,rfl, ?_⟩),(λe=>by cases e),(λe=>by cases e),(λe=>by cases e),J⟩
   .simp[MemAct.ofEvent,MemAct.touch?] at r;rw[<-r]
   .show(2*X.κ+1) / 2=X.κ;omega
 .show w2.cell? ⟨X.C,2*X.κ,none⟩=_;rw[fc a,jn (by omega),qb (by omega)]
 .show w2.cell? ⟨X.C,2*X.κ+1,none⟩=_;rw[fc a,qb (by simp;omega)]
def axD(X:Wx)(v:ByteArray×Bool)(dd:Deferred)(k:List Item):aq->Goroutine->World->Prop:=λS g w=>∃T,g=Gl [FW dd T (.inRegion aT []::k)] [fw]/\T.size=13/\X.Inv S w/\Has X.C (2*X.κ) (.string v.1) w/\Has X.C (2*X.κ+1) (.bool v.2) w
def ahB(c:X.Ok){o:Int->List ig->Int->ByteArray×Bool}(B:eM o)(p:∀y nm,o y [] nm=(⟨#[]⟩,false)):∀(fuel t:Nat) (listed:Array Bool) (T:Array Value) (S:aq) (w:World),listed.size=8->unW listed<=fuel->RI X (o X.key X.l X.nm) listed T S w->
  bK prog false X.Rl X.Gr (axD X (o X.key X.l X.nm) dd k) S (Gl [FW dd T (.inRegion aT (Region.linearise.go .any aT fuel t listed [])::k)] [fw]) w
 |0,t,listed,T,S,w,d,hf,h=>by
  have l:=aB4 d (.inr (by omega));exact .stop λw1 m=>⟨T,rfl,h.sz,h.inv.rely m,acE (h.st (l 7 (by omega))) m⟩
 |fuel+1,t,listed,T,S,w,d,hf,h=>by
  simp only[Region.linearise.go];change bK _ _ _ _ _ S (Gl [FW dd T (.inRegion aT (match(Region.ready .any aT listed)[t % (Region.ready .any aT listed).length]? with
   |some i=>Region.linearise.go .any aT fuel (t / (Region.ready .any aT listed).length) (listed.setIfInBounds i true) [i]
   |none=>[].reverse)::k)] [fw]) w
  cases A:(Region.ready .any aT listed)[t % (Region.ready .any aT listed).length]? with
  |none=>
   have q:Region.ready .any aT listed=[]:=by
    cases m:Region.ready .any aT listed with
    |nil=>rfl
    |cons x D=>
     rw[m] at A;have s:t % (x::D).length<(x::D).length:=ua _ (by simp);simp at A;simp at s;omega
   have l:=aB4 d (.inl q);exact .stop λw1 m=>⟨T,rfl,h.sz,h.inv.rely m,acE (h.st (l 7 (by omega))) m⟩
  |some i=>
   simp only[];rw[linearise_go_acc,List.reverse_singleton,List.singleton_append];obtain⟨z,C,hd⟩:=(af7 d).1 (aE A);have F:=awh d z C;have u:(listed.setIfInBounds i true).size=8:=by simpa using d
   have next:∀T' n a,RI X (o X.key X.l X.nm) (listed.setIfInBounds i true) T' n a->bK prog false X.Rl X.Gr (axD X (o X.key X.l X.nm) dd k) n (Gl [FW dd T' (.inRegion aT (Region.linearise.go .any aT fuel (t / (Region.ready .any aT listed).length) (listed.setIfInBounds i true) [])::k)] [fw]) a:=
    λT' n a b=>ahB c B p fuel _ _ T' n a u (by omega) b
   generalize Region.linearise.go .any aT fuel (t / (Region.ready .any aT listed).length) (listed.setIfInBounds i true) []=rest at next ⊢
   have:i=0\/i=1\/i=2\/i=3\/i=4\/i=5\/i=6\/i=7:=by omega
   rcases this with rfl|rfl|rfl|rfl|rfl|rfl|rfl|rfl
   .exact acF c h (by omega) aBW faT.aiB rfl (h.cap 4 (by omega) (by omega)) c.ra λT' a b f g=>next T' S a (b.put d (by omega) f g)
   .exact acF c h (by omega) aBX faT.u3 rfl (h.cap 5 (by omega) (by omega)) c.ri λT' a b f g=>next T' S a (b.put d (by omega) f g)
   .exact acF c h (by omega) aBY faT.u3 rfl (h.cap 1 (by omega) (by omega)) c.rk λT' a b f g=>next T' S a (b.put d (by omega) f g)
   .exact acF c h (by omega) aBZ faT.u23 rfl (h.cap 2 (by omega) (by omega)) c.rp λT' a b f g=>next T' S a (b.put d (by omega) f g)
   .exact acF c h (by omega) aB0 faT.u3 rfl (h.cap 3 (by omega) (by omega)) c.rn λT' a b f g=>next T' S a (b.put d (by omega) f g)
   .simp only[jY,fk] at hd;exact atP c B p h C hd.1.1 hd.1.2 hd.2 λT' n a b f g=>next T' n a (b.put d (by omega) f g)
   .simp only[jY,fk] at hd;exact atO c h hd.1.1.1.1.1 hd.1.1.1.1.2 λT' a b f g=>next T' S a (b.put d (by omega) f g)
   .simp only[jY,fk] at hd;refine aqD c h hd.1.1.1.1.1.2 hd.1.1.1.1.1.1 λa v r=>next T S a ⟨h.sz,h.cap,λj E e=> ?_,λ_=>r,λ_ j E=> ?_,v⟩
    .rw[iI (by omega),bv (by omega)] at e;exact h.done j E e
    .rw[iI (by omega),bv (by omega)];have:j=0\/j=1\/j=2\/j=3\/j=4\/j=5\/j=6:=by omega
     rcases this with rfl|rfl|rfl|rfl|rfl|rfl|rfl
     .exact hd.1.1.1.1.2
     .exact hd.1.1.1.2
     .exact hd.1.1.2
     .exact hd.1.2
     .exact hd.2
     .exact hd.1.1.1.1.1.2
     .exact hd.1.1.1.1.1.1
end
end
section
open Go.Conc Go.ConcN Go.RowKit Go.Conc.Lib Go.ConcR.Gen Go.ConcN.Gen
open Go.ConcR (KK wgBlock WgAt stA smA rd wr mk Payload DC0)
section
variable {X:Wx} {v:ByteArray×Bool} {T:Array Value} {S:aq} {w w1:World} {dd:Deferred} {k:List Item} {Stop:aq->Goroutine->World->Prop}
def acG {fr2 : Frame} {es:World->Array Event} {g:World->World} (hi:X.Inv S w) (p:∀w,X.Inv S w->stepG prog false (Gl [fr] [fw]) w=.go (Gl [fr2] [fw]) (g w) (es w)) (q:∀w,(g w).heap=w.heap/\(g w).ou=w.ou) (s:∀w,X.Inv S w->∀e∈es w,False)
  (K:∀k,X.Inv S k->bK prog false X.Rl X.Gr Stop S (Gl [fr2] [fw]) k):bK prog false X.Rl X.Gr Stop S (Gl [fr] [fw]) w:=by
 refine .step rfl λw1 n=> ?_;have d:=hi.rely n;obtain⟨c,l⟩:=q w1;have f:∀a,(g w1).cell? a=w1.cell? a:=λa=>by unfold World.cell?;rw[c]
 refine⟨_,g w1,_,S,p w1 d,⟨λb _ _ _=>by rw[c],mu (by rw[c]),l,λ⟨j,a,b⟩=>⟨j,by rw[c];exact a,b⟩,λi _=>f _,λ_ h=>h,λ_ h=>.inl h,λe h=>(s w1 d e h).elim⟩,K _ ⟨λb o=>by rw[c];exact d.r b o,d.s,by rw[c];exact d.c,by rw[c];exact d.wg,by rw[c];exact d.sz, ?_, ?_,l.trans d.os⟩⟩
 .obtain⟨r,sm,m⟩:=d.live;exact⟨r,sm,by unfold WgAt;rw[c];exact m⟩
 .obtain⟨j,a,b⟩:=d.pay;exact⟨j,by rw[c];exact a,b⟩
abbrev ddW(Wg:Nat):Deferred:=⟨.fn (.func eN.done) #[],#[.pointer (some ⟨Wg,0,none⟩)]⟩
def aDN:∃p,oI[0]?=some ⟨none,.defer ⟨.value (.func eN.done),#[.tmp 0],#[168]⟩,0,p,#[],none⟩:=⟨_,rfl⟩
def awj(T:Array Value):QuitsD prog 2 0 (G ⟨nCl,T,[],[],.returning,.deferred,none⟩ [fw]):=by
 refine QuitsD.ctl (g':=G fw []) rfl (λw=> ?_) ?_
 .have a:(results f108 T).runT prog w #[]=(.ok (.tuple #[]) w,#[]):=by
   have:f108.results=#[]:=rfl;simp[results,this]
  simp only[G,stepG,unwind,func108,a];simp[doReturn,GStep.after,seen,fw,goexitEntry]
 refine QuitsD.ctl (g':={G fw [] with status:=.finished}) rfl (λw=> ?_) ⟨rfl,rfl⟩;simp[G,stepG,unwind,fw,goexitEntry,Frame.catches];rfl
def adl {fr2 : Frame} {cs cs2:List Frame} (hi:X.Inv S w) (c:Has X.C (2*X.κ) (.string v.1) w/\Has X.C (2*X.κ+1) (.bool v.2) w) {es:World->Array Event} (f:∀w,stepG prog false (G fr cs) w=.go (G fr2 cs2) w (es w)) (d:∀w,∀e∈es w,False)
  (K:∀a,X.Inv S a->Has X.C (2*X.κ) (.string v.1) a/\Has X.C (2*X.κ+1) (.bool v.2) a->bK prog false X.Rl X.Gr Stop S (G fr2 cs2) a):bK prog false X.Rl X.Gr Stop S (G fr cs) w:=by
 refine .step rfl λw1 b=> ?_;exact⟨_,w1,_,S,f w1,⟨λ_ _ _ _=>rfl,am _,rfl,id,λ_ _=>rfl,λ_ h=>h,λ_ h=>.inl h,λe h=>(d w1 e h).elim⟩,K w1 (hi.rely b) (acE c b)⟩
def acH  :∀e∈seen P f #[],False:=λe h=>by simpa using sZ h
def akV{args:Array Value} :(callFunc eN.done args).runT prog w #[]=(.ok (.enter eN.done args) w,#[]):=by
 have h:=aaR.f_done;have b:¬(doneFn eN).name= "runtime.NumGoroutine" :=by decide
 have a:¬(doneFn eN).body=none:=λe=>by cases e
 unfold callFunc;simp[h,b,a]
def azy(r:X.Ok)(k:X.tWg=eN.tWg){val:Nat->Value}(q:val (2*X.κ)=.string v.1)(p:val (2*X.κ+1)=.bool v.2)(hi:X.Inv S w)(o:Has X.C (2*X.κ) (.string v.1) w/\Has X.C (2*X.κ+1) (.bool v.2) w) :
  bK prog false X.Rl X.Gr (ahf prog X.tWg X.Wg X.C X.n2 val X.κ) S (G (FW (ddW X.Wg) T [.inRegion aT []]) [fw]) w:=by
 refine adl (fr2:=FW (ddW X.Wg) T []) (cs2:=[fw]) hi o (es:=λ_=>#[]) (λw=>by simp[G,stepG,stepG.exec]) (λ_ e h=>by simpa using h) λt m f=> ?_;refine adl (fr2:=⟨nCl,T,[],[ddW X.Wg],.returning,.deferred,none⟩) (cs2:=[fw]) m f (es:=λ_=>#[]) (λw=>by simp[G,stepG,stepG.exec]) (λ_ e h=>by simpa using h) λs g d=> ?_;have j:Frame.enter prog eN.done #[.pointer (some ⟨X.Wg,0,none⟩)] .deferred=(baseD eN.done).at ⟨#[.pointer (some ⟨X.Wg,0,none⟩),undef,undef,undef],[]⟩ [.code (body_done eN)]:=by
  unfold Frame.enter;rw[aaR.f_done];rfl
 refine adl (fr2:=(baseD eN.done).at ⟨#[.pointer (some ⟨X.Wg,0,none⟩),undef,undef,undef],[]⟩ [.code (body_done eN)]) (cs2:=[⟨nCl,T,[],[],.returning,.deferred,none⟩,fw]) g d (es:=λw=>seen prog nCl #[]) (λw=> ?_) (λ_=>acH) λl i b=> ?_
 .have a:(invoke (ddW X.Wg).target (ddW X.Wg).args).runT prog w #[]=(.ok (.enter eN.done #[.pointer (some ⟨X.Wg,0,none⟩)]) w,#[]):=akV;simp only[G,stepG,unwind,callDeferred,a,j];simp[GStep.after]
 .have:=aqC (κ:=X.κ) (n:=X.n2) (R:=X.R) (S:=S) (val:=val) (c:=⟨nCl,T,[],[],.returning,.deferred,none⟩) (cs:=[fw]) aaR rfl (awj T) l (k▸i.live) (by rw[q];exact b.1) (by rw[p];exact b.2);rw[<-k] at this;exact this
end
abbrev Wx.oh(X:Wx):Array Value:=#[.pointer (some ⟨X.Wg,0,none⟩),.pointer (some ⟨X.bk,0,none⟩),.pointer (some ⟨X.bp,0,none⟩),.pointer (some ⟨X.bn,0,none⟩),.pointer (some ⟨X.ba,0,none⟩),.pointer (some ⟨X.bi,0,none⟩)]
abbrev FD(T:Array Value)(k:List Item):Frame:=⟨nCl,T,k,[],.run,.deferred,none⟩
def awk{a:Array Value}:Frame.enter prog nCl a .deferred=FD (a++Array.replicate (13-a.size) undef) [.code aoL]:=by
 unfold Frame.enter;rw[func108];rfl
def azz:prog.follows .mixedOrders=true:=by kernel_rfl
section
variable {X:Wx} {S:aq} {w:World}
def akW(ok:X.Ok)(hF:eM Z)(v:∀B nm,Z B [] nm=(⟨#[]⟩,false))(M:X.tWg=eN.tWg){val:Nat->Value}(v0:val (2*X.κ)=.string (Z X.key X.l X.nm).1)(P:val (2*X.κ+1)=.bool (Z X.key X.l X.nm).2)(hi:X.Inv S w) :
  bK prog false X.Rl X.Gr (ahf prog X.tWg X.Wg X.C X.n2 val X.κ) S (G (Frame.enter prog nCl X.oh .deferred) [fw]) w:=by
 rw[awk];obtain⟨T,J,Q,g0,x⟩:∃T:Array Value,T=X.oh++Array.replicate (13-X.oh.size) undef/\T.size=13/\T.getD 0 undef=.pointer (some ⟨X.Wg,0,none⟩)/\∀t,1<=t->t<=5->T.getD t undef=X.cap t:=by
  refine⟨_,rfl,by simp, ?_,λt K m=> ?_⟩
  .rw[ip,rP (by simp)];rfl
  .rw[ip,rP (by simp;omega)];have:t=1\/t=2\/t=3\/t=4\/t=5:=by omega
   rcases this with rfl|rfl|rfl|rfl|rfl<;>rfl
 rw[<-J];clear J;rw[atJ];refine acG (fr:=FD T [.code (.seq (.region 0 oI false) (.region 1 aT true))]) (fr2:=FD T [.code (.region 0 oI false),.code (.region 1 aT true)]) (g:=id) (es:=λ_=>#[]) hi (λw _=>by simp[Gl,stepG,stepG.exec]) (λ_=>⟨rfl,rfl⟩) (λ_ _ e h=>by simpa using h) λw1 K=> ?_;have A:List.range oI.size=[0]:=rfl;refine acG (fr2:=FD T [.inRegion oI [0],.code (.region 1 aT true)]) (g:=id) (es:=λ_=>#[]) K (λw _=>by simp[Gl,stepG,stepG.exec,A]) (λ_=>⟨rfl,rfl⟩) (λ_ _ e h=>by simpa using h) λw2 L=> ?_;obtain⟨p,H⟩:=aDN;refine acG (fr2:=FW (ddW X.Wg) T [.inRegion oI [],.code (.region 1 aT true)]) (g:=id) (es:=λ_=>seen prog nCl #[]) L (λw _=> ?_) (λ_=>⟨rfl,rfl⟩) (λ_ _=>acH) λw3 V=> ?_
 .have F:(execOp (Frame.eval (FD T [.inRegion oI [0],.code (.region 1 aT true)])) ⟨none,.defer ⟨.value (.func eN.done),#[.tmp 0],#[168]⟩,0,p,#[],none⟩).runT prog w #[]=(.ok (.defer (ddW X.Wg)) w,#[]):=by
   have hm:Array.map (Frame.eval (FD T [.inRegion oI [0],.code (.region 1 aT true)])) #[.tmp 0]=#[.pointer (some ⟨X.Wg,0,none⟩)]:=by
    rw[<-g0];simp[Frame.eval]
   simp only[execOp,resolve];rw[hm];simp[Deferred.ofValue,Frame.eval]
  have R:∀y,Region.wanted ⟨none,.defer ⟨.value (.func eN.done),#[.tmp 0],#[168]⟩,0,p,#[],none⟩ y=true:=λy=>rfl;have Y:stepG prog false (Gl [FD T [.inRegion oI [0],.code (.region 1 aT true)]] [fw]) w =
    stepG.apply prog true (FD T [.inRegion oI [0],.code (.region 1 aT true)]) [fw] none (execOp (Frame.eval (FD T [.inRegion oI [0],.code (.region 1 aT true)])) ⟨none,.defer ⟨.value (.func eN.done),#[.tmp 0],#[168]⟩,0,p,#[],none⟩) w:=by
   simp[Gl,stepG,stepG.exec,stepG.oper,Frame.oper?,H,R]
  rw[Y];unfold stepG.apply;simp only[F,pr];have dC:(CallKind.deferred ==CallKind.early)=false:=rfl;simp[GStep.after,dC,Gl,Frame.finish,H]
 refine acG (fr2:=FW (ddW X.Wg) T [.code (.region 1 aT true)]) (g:=id) (es:=λ_=>#[]) V (λw _=>by simp[Gl,stepG,stepG.exec]) (λ_=>⟨rfl,rfl⟩) (λ_ _ e h=>by simpa using h) λw4 O=> ?_;refine .step rfl λr s=> ?_;have m:=O.rely s;have C:∃(t:Nat) (f:World),f.heap=r.heap/\f.ou=r.ou/\stepG prog false (Gl [FW (ddW X.Wg) T [.code (.region 1 aT true)]] [fw]) r=.go (Gl [FW (ddW X.Wg) T [.inRegion aT (Region.linearise.go .any aT 8 t (Array.replicate 8 false) [])]] [fw]) f #[]:=by
  have u:∀t,Region.schedule (prog.follows .mixedOrders) aT t=Region.linearise.go .any aT 8 t (Array.replicate 8 false) []:=λt=>by
   simp only[Region.schedule,azz,Bool.true_or,pr,Region.linearise,aoM]
  simp only[Gl,stepG,stepG.exec,u,uY,jp,qG];cases d:(choose (.order nCl 1)).run prog r with
  |ok t f=>
   refine⟨t,f, ?_⟩;have:f.heap=r.heap/\f.ou=r.ou:=by
    unfold choose at d;rw[Sem.run] at d;split at d
    .cases d;exact⟨rfl,rfl⟩
    .cases d;exact⟨rfl,rfl⟩
   exact⟨this.1,this.2,rfl⟩
  |halt q f=>
   exfalso;unfold choose at d;rw[Sem.run] at d;split at d<;>cases d
 obtain⟨t,f,l,I,D⟩:=C;have o:∀a,f.cell? a=r.cell? a:=λa=>by unfold World.cell?;rw[l]
 have h6:X.Inv S f:=by
  refine⟨λb N=>by rw[l];exact m.r b N,m.s,by rw[l];exact m.c,by rw[l];exact m.wg,by rw[l];exact m.sz, ?_, ?_,I.trans m.os⟩
  .obtain⟨W,sm,U⟩:=m.live;exact⟨W,sm,by unfold WgAt;rw[l];exact U⟩
  .obtain⟨z,a,b⟩:=m.pay;exact⟨z,by rw[l];exact a,b⟩
 have n:∀j,(Array.replicate 8 false).getD j false=false:=λj=>by
  rw[ip,tW];split<;>rfl
 refine⟨_,f,_,S,D,⟨λb _ _ _=>by rw[l],mu (by rw[l]),I,λ⟨z,a,b⟩=>⟨z,by rw[l];exact a,b⟩,λi _=>o _,λ_ h=>h,λ_ h=>.inl h,λe h=>by simp at h⟩, ?_⟩;have E:=ahB (dd:=ddW X.Wg) (k:=[]) ok hF v 8 t (Array.replicate 8 false) T S f (by simp) (List.countP_le_length) ⟨Q,x,λj _ e=>(by rw[n] at e;cases e),λe=>(by rw[n] at e;cases e),λe=>(by rw[n] at e;cases e),h6⟩;refine bK.bind X.np.fZ X.np.tr E λS2 g w7 ⟨T2,hg,_,hi7,hv0,hv1⟩=> ?_;subst hg;exact azy ok M v0 P hi7 ⟨hv0,hv1⟩
def aqE{args:Array Value} :(callFunc nCl args).runT prog w #[]=(.ok (.enter nCl args) w,#[]):=by
 have a:=cL func108;have c:¬f108.name= "runtime.NumGoroutine" :=by simpa using a
 have b:¬f108.body=none:=λe=>by cases e
 unfold callFunc;simp[func108,c,b]
def akX(i:X.Ok)(n:eM Z)(g:∀d nm,Z d [] nm=(⟨#[]⟩,false))(k:X.tWg=eN.tWg){val:Nat->Value}(m:val (2*X.κ)=.string (Z X.key X.l X.nm).1)(l:val (2*X.κ+1)=.bool (Z X.key X.l X.nm).2)(hi:X.Inv S w) :
  bK prog false X.Rl X.Gr (ahf prog X.tWg X.Wg X.C X.n2 val X.κ) S (born prog ⟨.fn (.func nCl) X.oh,#[]⟩) w:=by
 refine .step rfl λa j=> ?_;have b:(invoke (Target.fn (.func nCl) X.oh) #[]).runT prog a #[]=(.ok (.enter nCl X.oh) a,#[]):=aqE;have f:stepG prog false (born prog ⟨.fn (.func nCl) X.oh,#[]⟩) a=.go (G (Frame.enter prog nCl X.oh .deferred) [fw]) a (seen prog prog.funcs.size #[]):=by
  simp only[born,stepG,unwind,callDeferred,b];simp[GStep.after,G,fw]
 exact⟨_,a,_,S,f,⟨λ_ _ _ _=>rfl,am _,rfl,id,λ_ _=>rfl,λ_ h=>h,λ_ h=>.inl h,λe h=>(acH e h).elim⟩,akW i n g k m l (hi.rely j)⟩
end
section
variable {P:Program} {R:World->World->Prop} {Q:World->Prop} {St:Goroutine->World->Prop}
def fe{main:Bool}(c:∀w d,Q w->R w d->Q d) :
  ∀{n:Nat} {g:Goroutine} {w:World},Q w->Goes P main R DC0 St n g w->Goes P main R DC0 (λg w=>St g w/\Q w) n g w
 |0,_,_,hq,h=>λa b=>⟨h a b,c _ _ hq b⟩
 |n+1,g,w,hq,h=>by
  rcases h with h|⟨f,h⟩
  .exact .inl λa b=>⟨h a b,c _ _ hq b⟩
  .refine .inr ⟨f,λa b=> ?_⟩;have:=h a b;cases e:stepG P main g a with
   |go k i j=>
    rw[e,tE] at this;rw[tE];exact⟨this.1,fe c (this.1.1▸c _ _ hq b) this.2⟩
   |_=>rw[e] at this;exact this.elim
def fK{main:Bool}(a:∀g w,St g w->T g w)(h:Goes P main R DC0 St n g w):Goes P main R DC0 T n g w:=og (λ_ _ _ x=>x) a h
def jZ(c:∀w a,Q w->R w a->Q a){e:Mark}{m:Nat}(b:Q w)(h:oO P R e m St g w):oO P R e m (λg w=>St g w/\Q w) g w:=
 ⟨h.1,let⟨f,d,k⟩:=h.2;⟨f,d,fe c b k⟩⟩
def acI(b:∀g w,St g w->T g w){e:Mark}{m:Nat}(h:oO P R e m St g w):oO P R e m T g w:=
 ⟨h.1,let⟨c,a,k⟩:=h.2;⟨c,a,fK b k⟩⟩
def aqF{Wg:Nat}(a:∀w d,Q w->R w d->Q d)(k:∀w v i,Q w->WgAt ty Wg w v 0->Q (w.setCell (stA Wg) (.int .u64 i)))(l:Q w)(h:akP P R ty Wg St g w):akP P R ty Wg (λg w=>St g w/\Q w) g w:=
 ⟨h.1,λv m c=>by
  obtain⟨p,e,n,f⟩:=h.2 v m c;have b:=k w _ ((v+1)*KK) l c;exact⟨p,e,λj=>fK (λg w x=>acI (λg w x=>jZ a x.2 x.1) (jZ a x.2 x.1)) (fe a b (n j)),λo=>fK (λg w x=>jZ a x.2 x.1) (fe a b (f o))⟩⟩
end
section
variable [Payload] {P:Program} {L:WgLink} {Wg C n:Nat} {R S:aq}
 {b₀:Frame} {a₀:Act} {ops₀:Array Oper} {i₀:Nat} {rest₀:List Nat} {k₀:List Item} {cs:List Frame}
def azC{w' : World}(h:DC0 w w' es):Gua Wg C n R aV S S w w' es:=by
 obtain⟨rfl,rfl⟩:=h;exact⟨λ_ _ _ _=>rfl,am _,rfl,id,λ_ _=>rfl,λ_ h=>h,λ_ h=>.inl h,by simp⟩
omit [Payload] in
def aqG:(#[.pointer (some ⟨Wg,0,none⟩),.int .i64 1]:Array Value)++(List.replicate 115 undef).toArray=#[.pointer (some ⟨Wg,0,none⟩),.int .i64 1,undef,undef,undef,undef,undef,undef,undef,undef,undef,undef,undef,undef,undef,undef,undef,undef,undef,undef,undef,undef,undef,undef,undef,undef,undef,undef,undef,undef,undef,undef,undef,undef,undef,undef,undef,undef,undef,undef,undef,undef,undef,undef,undef,undef,undef,undef,undef,undef,undef,undef,undef,undef,undef,undef,undef,undef,undef,undef,undef,undef,undef,undef,undef,undef,undef,undef,undef,undef,undef,undef,undef,undef,undef,undef,undef,undef,undef,undef,undef,undef,undef,undef,undef,undef,undef,undef,undef,undef,undef,undef,undef,undef,undef,undef,undef,undef,undef,undef,undef,undef,undef,undef,undef,undef,undef,undef,undef,undef,undef,undef,undef,undef,undef,undef,undef]:=by
 simp[List.replicate]
def aqH (H:WgLib P L) {val:Nat->Value} {d:aq->Goroutine->World->Prop} {Q:World->Prop} (e:∀w i,Q w->RM L.tWg Wg C n R S w i->Q i) (q:∀w v l,Q w->WgAt L.tWg Wg w v 0->Q (w.setCell (stA Wg) (.int .u64 l)))
  (s:∀w,WgLive L.tWg Wg w->Q w->bK P true (jV L.tWg Wg C (2*n) R noC) (Gua Wg C (2*n) R noC) (MGo P L.tWg Wg C n val j d R) S (G (b₀.at (a₀.put ((ops₀[i₀]?).bind (·.dst)) (.tuple #[])) (.inRegion ops₀ rest₀::k₀)) cs) w)
  (w:World) (u:WgLive L.tWg Wg w) (f:Q w) :
  bK P true (jV L.tWg Wg C (2*n) R noC) (Gua Wg C (2*n) R noC) (λS g w=>ass P L.tWg Wg C n val j d R S g w) S
   (G ((base L.add).at ⟨#[.pointer (some ⟨Wg,0,none⟩),.int .i64 1]++(List.replicate 115 undef).toArray,[]⟩ [.code (body_add L)]) (b₀.at a₀ (.inRegion ops₀ (i₀::rest₀)::k₀)::cs)) w:=by
 rw[aqG];have t:=atE (b₀:=b₀) (a₀:=a₀) (ops₀:=ops₀) (i₀:=i₀) (rest₀:=rest₀) (k₀:=k₀) (cs:=cs) (R:=RM L.tWg Wg C n R S) (S:=λg w=>g=G (b₀.at (a₀.put ((ops₀[i₀]?).bind (·.dst)) (.tuple #[])) (.inRegion ops₀ rest₀::k₀)) cs/\WgLive L.tWg Wg w) H (λ_ _ h r=>r.live h) (λ_ h=>⟨rfl,h⟩) w u;have m:=fK (λg w x=>acI (λg w x=>aqF e q x.2 x.1) (jZ e x.2 x.1)) (fe (Q:=Q) e f t);refine bK.acp (R:=RM L.tWg Wg C n R S) (λ_ _ h=>h) (λ_ _ _ h=>azC h) (λ_ _ h=>azw (λg w p=> ?_) h) m;refine bK.bind (λS w=>jV.refl R noC S w) (λS a b c=>jV.trans) (bK.acp (S:=S) (R:=RM L.tWg Wg C n R S) (Stop:=λk g w=>k=S/\(g=G (b₀.at (a₀.put ((ops₀[i₀]?).bind (·.dst)) (.tuple #[])) (.inRegion ops₀ rest₀::k₀)) cs/\WgLive L.tWg Wg w)/\Q w) (λ_ _ h=>h) (λ_ _ _ h=>azC h) (λ_ _ h=>⟨rfl,h⟩) p) ?_;rintro k g w ⟨rfl,⟨rfl,o⟩,f⟩;exact s w o f
end
end
section
open Go.Conc Go.ConcN Go.RowKit
open Go.ConcR (KK wgBlock WgAt stA smA rd wr mk Payload DC0)
noncomputable def acJ:Code:=f67.body.getD .skip
noncomputable def ahC:Array Oper:=uo (lK acJ)
noncomputable def adT:Array Oper:=uo (lK (cj acJ))
noncomputable def oJ:Array Oper:=uo (lK (cj (cj acJ)))
noncomputable def axE:Code:=lK (cj (cj (cj acJ)))
noncomputable def ahD:Array Oper:=uo (lK axE)
def azD:Code->Code
 |.block _ (.loop c)=>c
 |c=>c
def awl:Code->Code
 |.block _ c=>c
 |c=>c
noncomputable def jD:Code:=azD (cj axE)
noncomputable def atQ:Array Oper:=uo (lK jD)
noncomputable def ans:Code:=awl (lK (cj (cj jD)))
noncomputable def acK:Array Oper:=uo (lK ans)
noncomputable def aaT:Array Oper:=uo (lK (cj ans))
noncomputable def my:Array Oper:=uo (cj (cj ans))
noncomputable def akY:Array Oper:=uo (cj (cj (cj jD)))
noncomputable def kg:Array Oper:=uo (lK (cj (cj (cj (cj acJ)))))
def atS:acJ=.seq (.region 0 ahC false) (.seq (.region 1 adT false) (.seq (.region 2 oJ false) (.seq (.seq (.region 3 ahD false) (.block 0 (.loop jD))) (.seq (.region 9 kg false) cT)))):=rfl
def ahE:jD=.seq (.region 4 atQ false) (.seq (.cond (.tmp 21) .skip (.exit 0)) (.seq (.block 1 (.seq (.region 5 acK false) (.seq (.region 6 aaT false) (.region 7 my false)))) (.region 8 akY false))):=rfl
def aDP:∃p a,ahC[0]?=some ⟨some 3,.box 3 (.tmp 0),0,p,a,none⟩:=⟨_,_,rfl⟩
def aDQ:∃p a,ahC[1]?=some ⟨some 4,.box 23 (.tmp 1),0,p,a,none⟩:=⟨_,_,rfl⟩
def aDR:∃p a,ahC[2]?=some ⟨some 6,.assign (.const (.slice none 0 0)),117,p,a,none⟩:=⟨_,_,rfl⟩
def aDS:∃p a,ahC[3]?=some ⟨some 7,.assign (.const (.bool false)),4,p,a,none⟩:=⟨_,_,rfl⟩
def aDT:∃p a,adT[0]?=some ⟨some 15,.move (.tmp 2),31,p,a,none⟩:=⟨_,_,rfl⟩
def aDU:∃p a,adT[1]?=some ⟨some 16,.call ⟨.builtin .len,#[.tmp 15],#[31]⟩,3,p,a,none⟩:=⟨_,_,rfl⟩
def aDV:∃p a,adT[2]?=some ⟨some 17,.makeSlice 160 (.tmp 16) (.tmp 16),160,p,a,none⟩:=⟨_,_,rfl⟩
def aDW:∃p a,adT[3]?=some ⟨some 8,.alloc 160,0,p,a,none⟩:=⟨_,_,rfl⟩
def aDX:∃p a,adT[4]?=some ⟨none,.store 160 (.tmp 8) (.tmp 17),0,p,a,none⟩:=⟨_,_,rfl⟩
def aDY:∃p a,oJ[0]?=some ⟨some 9,.alloc eN.tWg,0,p,a,none⟩:=⟨_,_,rfl⟩
def aDZ:∃p a,ahD[0]?=some ⟨some 18,.move (.tmp 2),31,p,a,none⟩:=⟨_,_,rfl⟩
def aD0:∃p a,ahD[1]?=some ⟨some 19,.call ⟨.builtin .len,#[.tmp 18],#[31]⟩,3,p,a,none⟩:=⟨_,_,rfl⟩
def aD1:∃p a,ahD[2]?=some ⟨some 20,.move (.const (.int .i64 0)),3,p,a,none⟩:=⟨_,_,rfl⟩
def aD2:∃p a,atQ[0]?=some ⟨some 21,.binOp .lss 3 (.tmp 20) (.tmp 19) 3,0,p,a,none⟩:=⟨_,_,rfl⟩
def aD3:∃p a,acK[0]?=some ⟨some 22,.move (.tmp 20),3,p,a,none⟩:=⟨_,_,rfl⟩
def aD4:∃p a,acK[1]?=some ⟨some 23,.indexAddr 31 (.tmp 18) (.tmp 20),0,p,a,none⟩:=⟨_,_,rfl⟩
def aD5:∃p a,acK[2]?=some ⟨some 24,.load 3 (.tmp 23),3,p,a,none⟩:=⟨_,_,rfl⟩
def aD6:∃p a,acK[3]?=some ⟨some 10,.alloc 3,0,p,a,none⟩:=⟨_,_,rfl⟩
def aD7:∃p a,acK[4]?=some ⟨some 11,.alloc 3,0,p,a,none⟩:=⟨_,_,rfl⟩
def aD8:∃p a,acK[5]?=some ⟨none,.store 3 (.tmp 10) (.tmp 22),0,p,a,none⟩:=⟨_,_,rfl⟩
def aD9:∃p a,acK[6]?=some ⟨none,.store 3 (.tmp 11) (.tmp 24),0,p,a,none⟩:=⟨_,_,rfl⟩
def aB6:∃p a,aaT[0]?=some ⟨some 25,.call ⟨.value (.func eN.add),#[.tmp 9,.const (.int .i64 1)],#[eN.tWg,3]⟩,0,p,a,none⟩:=⟨_,_,rfl⟩
def aEa:∃p a,my[0]?=some ⟨some 26,.makeFunc (.func nCl) #[] #[.tmp 9,.tmp 3,.tmp 4,.tmp 11,.tmp 8,.tmp 10],1,p,a,none⟩:=⟨_,_,rfl⟩
def aEb:∃p a,my[1]?=some ⟨none,.go ⟨.value (.tmp 26),#[],#[]⟩,0,p,a,none⟩:=⟨_,_,rfl⟩
def aEc:∃p a,akY[0]?=some ⟨some 27,.binOp .add 3 (.tmp 20) (.const (.int .i64 1)) 3,3,p,a,none⟩:=⟨_,_,rfl⟩
def aEd:∃p a,akY[1]?=some ⟨some 20,.move (.tmp 27),3,p,a,none⟩:=⟨_,_,rfl⟩
def aB7:∃p a,kg[0]?=some ⟨some 28,.call ⟨.value (.func eN.wait),#[.tmp 9],#[eN.tWg]⟩,0,p,a,none⟩:=⟨_,_,rfl⟩
def wC  :seen P f #[]=#[]:=by
 rw[Array.eq_empty_iff_size_eq_zero];rcases h:(seen P f #[]).size with _|n
 .rfl
 .exact(acH _ (Array.getElem_mem (xs:=seen P f #[]) (i:=0) (by omega))).elim
def awm{T:Array Value}{base : List Frame}(h:T.getD 26 undef=.func (.func nCl) #[] X) :
  stepG prog true (Gl (FQ cD T (.inRegion my [1]::k)::xs) base) w=.spawn (Gl (FQ cD T (.inRegion my []::k)::xs) base) (born prog ⟨.fn (.func nCl) X,#[]⟩) w #[]:=by
 obtain⟨p,a,d⟩:=aEb;have b:(execOp (Frame.eval (FQ cD T (.inRegion my [1]::k))) ⟨none,.go ⟨.value (.tmp 26),#[],#[]⟩,0,p,a,none⟩).runT prog w #[]=(.ok (.spawn ⟨.fn (.func nCl) X,#[]⟩) w,#[]):=by
  have i:Frame.eval (FQ cD T (.inRegion my [1]::k)) (.tmp 26)=.func (.func nCl) #[] X:=h;simp only[execOp,resolve,i];simp[Deferred.ofValue]
 have e:∀y,Region.wanted ⟨none,.go ⟨.value (.tmp 26),#[],#[]⟩,0,p,a,none⟩ y=true:=λy=>rfl;have g:stepG prog true (Gl (FQ cD T (.inRegion my [1]::k)::xs) base) w =
   stepG.apply prog true (FQ cD T (.inRegion my [1]::k)) (xs++base) none (execOp (Frame.eval (FQ cD T (.inRegion my [1]::k))) ⟨none,.go ⟨.value (.tmp 26),#[],#[]⟩,0,p,a,none⟩) w:=by
  simp[Gl,stepG,stepG.exec,stepG.oper,Frame.oper?,d,e]
 rw[g];unfold stepG.apply;simp only[b,pr];have f:(CallKind.normal ==CallKind.early)=false:=rfl;simp[GStep.after,f,Gl,Frame.finish,d,born,wC]
section
variable {P:Program} {w:World} {e:Operand->Value} {x y:Operand} {v:Value} {dst:Option Tmp} {t ty:TypeId} {pos:String} {af:Array Edge} {gd:Option (Nat×Bool)}
def atT(h:e x=v)(a:v.cells=#[v]):(execOp e ⟨dst,.box t x,ty,pos,af,gd⟩).runT P w #[]=(.ok (.value (.pointer (some ⟨w.heap.size,0,none⟩))) (w.alloc (.cells #[v] t)),#[]):=by
 simp[execOp,Instr.box,newVar,newRow,h,a]
def ahF(h:e x=v):(execOp e ⟨dst,.assign x,ty,pos,af,gd⟩).runT P w #[]=(.ok (.value v) w,#[]):=by
 simp[execOp,h]
def aat{i:TypeInfo}(hi:P.info? t=some i)(a:i.zero=some v):(execOp e ⟨dst,.alloc t,ty,pos,af,gd⟩).runT P w #[]=(.ok (.value (.pointer (some ⟨w.heap.size,0,none⟩))) (w.alloc (.cells v.cells t)),#[]):=by
 simp[execOp,Instr.alloc,zeroValue,typeInfo,hi,a,newVar,newRow]
def ahG{i:TypeInfo}{A:Addr}{u:Value}(hi:P.info? t=some i)(n:i.size=1)(k:amQ v=true)(a:v.cells=#[v])(m:e x=.pointer (some A))(j:e y=v)(l:w.cell? A=some u)(d:w.frozen? A=false) :
  (execOp e ⟨dst,.store t x y,ty,pos,af,gd⟩).runT P w #[]=(.ok .skip (w.setCell A v),#[⟨.cell A,true,false⟩]):=by
 have b:(storeCells A [v] 0).runT P w #[]=(.ok () (w.setCell A v),#[⟨.cell A,true,false⟩]):=by
  show(Sem.store .plain (A.add 0) v (Sem.pure ())).runT P w #[]=_;have f:A.add 0=A:=by unfold Addr.add;simp
  rw[f,abr k l d];rfl
 have c:(storeCells A [v] 0).run P w=.ok () (w.setCell A v):=by
  rw[<-ru _ _ _ #[]];exact gn Prod.fst b
 have g:(storeCells A [v] 0).events P w #[]=#[⟨.cell A,true,false⟩]:=gn Prod.snd b;simp[execOp,m,j,Instr.storeAt,Instr.sureAddr,storeVar,sizeOf,typeInfo,hi,n,a,c,g]
def akZ(F:FaT P){s:Tmp}(h:e (.tmp s)=.slice A n c):(execOp e ⟨dst,.call ⟨.builtin .len,#[.tmp s],#[31]⟩,ty,pos,af,gd⟩).runT P w #[]=(.ok (.value (.int .i64 n)) w,#[]):=by
 rw[pS (s:=λv=>Builtin.len_ #[31] ty #[v]) λ_ v=>rfl,h];change Sem.runT P (Builtin.len_ #[31] ty #[.slice A n c] >>=λu=>pure (Next.value u)) w #[]=_;simp[Builtin.len_,lw F.u31,goInt]
def ak0{fn:Fn}{a:Array Operand}(h:a.map e=X):(execOp e ⟨dst,.makeFunc fn #[] a,ty,pos,af,gd⟩).runT P w #[]=(.ok (.value (.func fn #[] X)) w,#[]):=by
 simp[execOp,Instr.makeFunc,h]
def awn(F:FaT P)(m:(n:Int)<=2147483647)(b:e x=.int .i64 n):∃c:Array Value,c.size=2*n/\(execOp e ⟨dst,.makeSlice 160 x x,ty,pos,af,gd⟩).runT P w #[]=(.ok (.value (.slice (some ⟨w.heap.size,0,none⟩) n n)) (w.alloc (.cells c 171)),#[]):=by
 obtain⟨c,k,g⟩:=aoA F (w:=w) (dst:=dst) (ty:=ty) (pos:=pos) (af:=af) (gd:=gd) m b;refine⟨c,k,Prod.ext ((ru _ _ _ _).trans g) ?_⟩;obtain⟨i,l,o,a,f⟩:=F.i258;have d:=events_make w 160 171 i _ F.aiB l f .i64 .i64 n n (by omega) (um _) (by rw[a];omega) (by omega) (by rw[a];omega) #[];show(execOp e ⟨dst,.makeSlice 160 x x,ty,pos,af,gd⟩).events P w #[]=#[];have j:execOp e ⟨dst,.makeSlice 160 x x,ty,pos,af,gd⟩=(Instr.makeSlice 160 (e x) (e x)).bind λv=>Sem.pure (.value v):=rfl;rw[j,b,Sem.events_bind',d];cases(Instr.makeSlice 160 (.int .i64 n) (.int .i64 n)).run P w<;>rfl
def awo{a:Int}{y:Operand}(d:e x=.int .i64 a)(c:e y=.int .i64 1)(g:0<=a)(f:a<2147483647):(execOp e ⟨dst,.binOp .add 3 x y 3,ty,pos,af,gd⟩).runT P w #[]=(.ok (.value (.int .i64 (a+1))) w,#[]):=by
 have:execOp e ⟨dst,.binOp .add 3 x y 3,ty,pos,af,gd⟩=(binOp .add 3 (e x) (e y)).bind λv=>Sem.pure (.value v):=rfl;rw[this,d,c];have b:IntKind.i64.wrap (a+1)=a+1:=by rw[tc];omega
 show(Result.ok (Next.value (.int .i64 (IntKind.i64.wrap (a+1)))) w,#[])=_;rw[b]
end
end
section
open Go.Conc Go.ConcN Go.RowKit
section
variable {Rl:aq->World->World->Prop} {St:aq->Goroutine->World->Prop} {S Rr:aq} {w0:World} {T:Array Value} {k:List Item} {xs base:List Frame}
structure Kp (S Rr:aq) (w0:World) (S':aq) (w':World):Prop where
 keep:∀b,b<w0.heap.size->S b\/Rr b->w'.heap[b]?=w0.heap[b]?
 size:w0.heap.size<=w'.heap.size
 os:w'.ou=w0.ou
 mono:∀b,S b->S' b
 new:∀b,S' b->S b\/(w0.heap.size<=b/\b<w'.heap.size)
def Kp.rl(H:pY Rl Rr)(h:Rl S w0 V):Kp S Rr w0 S V:=let⟨a,b,c⟩:=H.rl _ _ _ h;⟨λx _ d=>a x d,b,c,λ_ h=>h,λ_ h=>.inl h⟩
def Kp.alloc(S Rr:aq)(w:World)(ob:Obj):Kp S Rr w (SN S w (w.alloc ob)) (w.alloc ob):=
 ⟨λb a _=>sq w _ b a,by rw[mw];omega,rfl,λ_ h=>.inl h,λ_ h=>h⟩
def Kp.trans{w2 : World}(a:Kp S Rr w0 R V)(b:Kp R Rr V aV w2):Kp S Rr w0 aV w2:=
 ⟨λx c h=>(b.keep x (bd c a.size) (h.imp (a.mono x) id)).trans (a.keep x c h),db a.size b.size,b.os.trans a.os,λx h=>b.mono x (a.mono x h),λx h=>(b.new x h).elim (λh=>(a.new x h).imp id λh=>⟨h.1,bd h.2 b.size⟩) λh=>.inr ⟨db a.size h.1,h.2⟩⟩
def kV(w:World)(ob:Obj):(w.alloc ob).heap[w.heap.size]?=some ob:=by
 show(w.heap.push _)[_]?=_;rw[qS]
def lL(S:aq)(w:World)(ob:Obj):SN S w (w.alloc ob) w.heap.size:=.inr ⟨am _,by rw[mw];omega⟩
def awp (H:pY Rl Rr) (hZ:45<=Y) (hz:T.size=Y)   (N:T.getD 0 undef=.int .i64 key) (P:T.getD 1 undef=.slice A n c)
  (K:∀(T':Array Value) (i:aq) (e:World) (f g:Nat),T'.size=Y->(∀t,t≠3->t≠4->t≠6->t≠7->T'.getD t undef=T.getD t undef)->T'.getD 3 undef=.pointer (some ⟨f,0,none⟩)->T'.getD 4 undef=.pointer (some ⟨g,0,none⟩)->
   T'.getD 6 undef=.slice none 0 0->T'.getD 7 undef=.bool false->Kp S Rr w0 i e->i f->i g->w0.heap.size<=f->f<g->e.heap[f]?=some (.cells #[.int .i64 key] 3)->e.heap[g]?=some (.cells #[.slice A n c] 23)->bK prog true Rl (pX Rr) St i (Gl (FQ cD T' k::xs) base) e) :
  bK prog true Rl (pX Rr) St S (Gl (FQ cD T (.inRegion ahC [0,1,2,3]::k)::xs) base) w0:=by
 obtain⟨p0,a0,y⟩:=aDP;obtain⟨p1,a1,G⟩:=aDQ;obtain⟨X,a2,D⟩:=aDR;obtain⟨W,a3,V⟩:=aDS;refine nk H (d:=3) (ob:=.cells #[.int .i64 key] 3) (by show(3:Nat)<_;omega) y rfl rfl (λw=>atT (x:=.tmp 0) N rfl) (λa I T1 z1 B s=> ?_) w0 (H.fZ _ _);refine nk H (d:=4) (ob:=.cells #[.slice A n c] 23) (by show(4:Nat)<_;omega) G rfl rfl (λw=>atT (x:=.tmp 1) ((s 1 (by decide)).trans P) rfl) (λb z T2 z2 F u=> ?_);refine bP H.cmp (d:=6) (v:=.slice none 0 0) (es:=#[]) (by show(6:Nat)<_;omega) D rfl rfl (λw _=>ahF rfl) (λw _=>bA _) (λT3 z3 M l=> ?_);refine bP H.cmp (d:=7) (v:=.bool false) (es:=#[]) (by show(7:Nat)<_;omega) V rfl rfl (λw _=>ahF rfl) (λw _=>bA _) (λE Z U j=> ?_);refine iz H.cmp λe m=> ?_;have r:=Kp.rl H I;have J:=Kp.alloc S Rr a (.cells #[.int .i64 key] 3);have q:=Kp.rl H z;have p:=Kp.alloc (SN S a (a.alloc (.cells #[.int .i64 key] 3))) Rr b (.cells #[.slice A n c] 23);have o:=Kp.rl H m;have s1:(a.alloc (.cells #[.int .i64 key] 3)).heap.size=a.heap.size+1:=mw _ _;have s2:(b.alloc (.cells #[.slice A n c] 23)).heap.size=b.heap.size+1:=mw _ _;have Q:=r.size;have g2:=q.size;refine K E _ e a.heap.size b.heap.size (by omega) (λt O L C R=> ?_) ?_ ?_ ?_ U ((((r.trans J).trans q).trans p).trans o) (p.mono _ (lL S a _)) (lL _ b _) Q (by omega) ?_ ?_
 .rw[j t R,l t C,u t L,s t O]
 .rw[j 3 (by decide),l 3 (by decide),u 3 (by decide),B]
 .rw[j 4 (by decide),l 4 (by decide),F]
 .rw[j 6 (by decide),M]
 .rw[((q.trans p).trans o).keep a.heap.size (by omega) (.inl (lL S a _)),kV]
 .rw[o.keep b.heap.size (by omega) (.inl (lL _ b _)),kV]
end
section
variable {P:Program} {main:Bool} {Rl:aq->World->World->Prop} {St:aq->Goroutine->World->Prop} {S Rr:aq} {w0:World} {f:FuncId} {T:Array Value} {k:List Item} {xs base:List Frame}
def azE (H:pY Rl Rr)    {d:Tmp} {Q:Value->Obj->World->Prop} (l:d<T.size) (m:U[i]?=some o) (s:o.guard=none) (g:o.dst=some d)
  (p:∀w,∃v ob,Q v ob w/\(execOp (FQ f T (.inRegion U (i::rest)::k)).eval o).runT P w #[]=(.ok (.value v) (w.alloc ob),#[]))
  (u:∀w,Rl S w0 w->∀v ob,Q v ob w->∀T':Array Value,T'.size=T.size->T'.getD d undef=v->(∀t,t≠d->T'.getD t undef=T.getD t undef)->∀a,Rl (SN S w (w.alloc ob)) (w.alloc ob) a->bK P main Rl (pX Rr) St (SN S w (w.alloc ob)) (Gl (FQ f T' (.inRegion U rest::k)::xs) base) a) :
  ∀w,Rl S w0 w->bK P main Rl (pX Rr) St S (Gl (FQ f T (.inRegion U (i::rest)::k)::xs) base) w:=λw n=>by
 refine .step rfl λa j=> ?_;have x:=H.tr _ _ _ _ n j;obtain⟨v,ob,y,c⟩:=p a;refine⟨_,_,_,_,aow rfl rfl rfl rfl m s c,⟨λb r _=>sq a _ b r,by rw[mw];omega,rfl,rfl,λe z=>by cases(by simpa using sZ z:False)⟩, ?_⟩;have:Frame.finish (FQ f T (.inRegion U (i::rest)::k)) v=FQ f (T.setIfInBounds d v) (.inRegion U rest::k):=by
  simp only[Frame.finish,m,qH,g]
 rw[this];exact u a x _ _ y _ (by simp) (by rw[aH l,dj rfl]) (λt q=>by rw[aH l,bv q]) _ (H.fZ _ _)
end
section
variable {w:World} {b:Nat} {u v:Value} {t:TypeId}
def tJ(h:w.heap[b]?=some (.cells #[u] t)):w.cell? ⟨b,0,none⟩=some u/\w.frozen? ⟨b,0,none⟩=false:=by
 constructor
 .simp[World.cell?,h]
 .simp[World.frozen?,h]
def wB(h:w.heap[b]?=some (.cells #[u] t)):(w.setCell ⟨b,0,none⟩ v).heap[b]?=some (.cells #[v] t):=by
 simp[World.setCell,pe,h]
end
section
variable {Rl:aq->World->World->Prop} {St:aq->Goroutine->World->Prop} {S Rr:aq} {w0:World} {T:Array Value} {k:List Item} {xs base:List Frame}
def awq (H:pY Rl Rr) (hZ:45<=Y) (hz:T.size=Y)  (hn:(n:Int)<=2147483647) (Z:T.getD 2 undef=.slice A n c)
  (K:∀(T':Array Value) (p:aq) (l:World) (C B:Nat) (g:Array Value),T'.size=Y->(∀t,t≠15->t≠16->t≠17->t≠8->T'.getD t undef=T.getD t undef)->T'.getD 8 undef=.pointer (some ⟨B,0,none⟩)->T'.getD 17 undef=.slice (some ⟨C,0,none⟩) n n->
   Kp S Rr w0 p l->p C->p B->w0.heap.size<=C->C<B->g.size=2*n->l.heap[C]?=some (.cells g 171)->l.heap[B]?=some (.cells #[.slice (some ⟨C,0,none⟩) n n] 160)->bK prog true Rl (pX Rr) St p (Gl (FQ cD T' k::xs) base) l) :
  bK prog true Rl (pX Rr) St S (Gl (FQ cD T (.inRegion adT [0,1,2,3,4]::k)::xs) base) w0:=by
 obtain⟨p0,a0,W⟩:=aDT;obtain⟨p1,a1,e1⟩:=aDU;obtain⟨p2,a2,e2⟩:=aDV;obtain⟨p3,a3,e3⟩:=aDW;obtain⟨p4,a4,e4⟩:=aDX;obtain⟨R,P,F,L⟩:=faT.i247;refine bP H.cmp (d:=15) (v:=.slice A n c) (es:=#[]) (by show(15:Nat)<_;omega) W rfl rfl (λw _=>fI (x:=.tmp 2) Z) (λw _=>bA _) (λT1 z1 v1 r1=> ?_) w0 (H.fZ _ _);refine bP H.cmp (d:=16) (v:=.int .i64 n) (es:=#[]) (by show(16:Nat)<_;omega) e1 rfl rfl (λw _=>akZ faT (s:=15) v1) (λw _=>bA _) (λT2 z2 v2 r2=> ?_);refine azE H (d:=17) (Q:=λv ob w=>v=.slice (some ⟨w.heap.size,0,none⟩) n n/\∃g:Array Value,g.size=2*n/\ob=.cells g 171) (by show(17:Nat)<_;omega) e2 rfl rfl (λw=> ?_) (λa ha vv ob hq T3 z3 v3 X=> ?_)
 .obtain⟨g,q,hr⟩:=awn faT (w:=w) (x:=.tmp 16) (e:=Frame.eval (FQ cD T2 (.inRegion adT [2,3,4]::k))) hn v2;exact⟨_,_,⟨rfl,g,q,rfl⟩,hr⟩
 obtain⟨rfl,g,J,rfl⟩:=hq;refine nk H (d:=8) (ob:=.cells #[.slice none 0 0] 160) (by show(8:Nat)<_;omega) e3 rfl rfl (λw=>aat P L) (λf D O z4 V U=> ?_);have o:O.getD 17 undef=.slice (some ⟨a.heap.size,0,none⟩) n n:=by rw[U 17 (by decide),v3]
 have s1:(a.alloc (.cells g 171)).heap.size=a.heap.size+1:=mw _ _;have s2:(f.alloc (.cells #[.slice none 0 0] 160)).heap.size=f.heap.size+1:=mw _ _;have N:=Kp.rl H ha;have kb:=Kp.alloc S Rr a (.cells g 171);have M:=Kp.rl H D;have r:=Kp.alloc (SN S a (a.alloc (.cells g 171))) Rr f (.cells #[.slice none 0 0] 160);have g1:=N.size;have g2:=M.size;have i:=lL (SN S a (a.alloc (.cells g 171))) f (.cells #[.slice none 0 0] 160);have I:∀{w},Rl (SN (SN S a (a.alloc (.cells g 171))) f (f.alloc (.cells #[.slice none 0 0] 160))) (f.alloc (.cells #[.slice none 0 0] 160)) w->w.heap[f.heap.size]?=some (.cells #[.slice none 0 0] 160):=λ{w} h=>by
  rw[(Kp.rl H h).keep f.heap.size (by omega) (.inl i),kV]
 refine afO H.cmp (A:=⟨f.heap.size,0,none⟩) (u:=.slice (some ⟨a.heap.size,0,none⟩) n n) e4 rfl rfl (λw h=>ahG (x:=.tmp 8) (y:=.tmp 17) P F rfl rfl V o (tJ (I h)).1 (tJ (I h)).2) i (λw h=>acw i (by have:=(Kp.rl H h).size;show f.heap.size<_;omega)) (λz q w1 bq=> ?_);refine iz H.cmp (λl E=> ?_) w1 bq;have G:=Kp.rl H q;have m:=Kp.rl H E;have g3:=G.size;have a5:(z.setCell ⟨f.heap.size,0,none⟩ (.slice (some ⟨a.heap.size,0,none⟩) n n)).heap.size=z.heap.size:=fd _ _ _;have other:∀b,b≠f.heap.size->(z.setCell ⟨f.heap.size,0,none⟩ (.slice (some ⟨a.heap.size,0,none⟩) n n)).heap[b]?=z.heap[b]?:=λb h=>bm _ _ _ (λe=>h e.symm);have j:=((N.trans kb).trans M).trans (r.trans G);have g4:=m.size;refine K O _ l a.heap.size f.heap.size g (by omega) (λt q1 q2 q3 q4=> ?_) V o ⟨λb D h=> ?_,by have:=j.size;omega, ?_,j.mono,λb h=>(j.new b h).imp id λh=>⟨h.1,by omega⟩⟩ (r.mono _ (lL S a _)) i g1 (by omega) J ?_ ?_
 .rw[U t q4,X t q3,r2 t q2,r1 t q1]
 .exact(m.keep b (by have:=j.size;omega) (h.imp (j.mono b) id)).trans ((other b (by omega)).trans (j.keep b D h))
 .exact m.os.trans j.os
 .exact(m.keep a.heap.size (by omega) (.inl (r.mono _ (lL S a _)))).trans ((other _ (by omega)).trans (((M.trans (r.trans G)).keep a.heap.size (by omega) (.inl (lL S a _))).trans (kV a _)))
 .exact(m.keep f.heap.size (by omega) (.inl i)).trans (wB (I q))
end
end
section
open Go.Conc Go.ConcN Go.RowKit
open Go.ConcR (KK wgBlock WgAt stA smA rd wr mk Payload DC0)
def atU:(prog.info? eN.tWg).map (λi=>i.zero.map (·.cells))=some (some #[.int .u64 0,.int .u32 0]):=by kernel_rfl
def awr:∃i z,prog.info? eN.tWg=some i/\i.zero=some z/\z.cells=#[.int .u64 0,.int .u32 0]:=by
 have h:=atU;cases b:prog.info? eN.tWg with
 |none=>rw[b] at h;cases h
 |some i=>
  rw[b] at h;cases a:i.zero with
  |none=>simp[a] at h
  |some z=>
   simp only[qe,a,jt] at h;exact⟨i,z,rfl,a,h⟩
def jE{o:Obj}(h:w.heap[b]?=some o):b<w.heap.size:=(dq.1 h).1
noncomputable def gX:Code:=.seq (.seq (.region 3 ahD false) (.block 0 (.loop jD))) (.seq (.region 9 kg false) cT)
section
variable {Rl:aq->World->World->Prop} {St:aq->Goroutine->World->Prop} {S Rr:aq} {w0:World} {T:Array Value} {k:List Item} {xs base:List Frame}
def ant (H:pY Rl Rr) (E:45<=Y) (O:T.size=Y) {A2 : Option Addr} (hn:(b:Int)<=2147483647) (h0:T.getD 0 undef=.int .i64 key) (h1:T.getD 1 undef=.slice A n c) (F:T.getD 2 undef=.slice A2 b i)
  (K:∀(T':Array Value) (x:aq) (g:World) (e d C j:Nat) (o:Array Value),T'.size=Y->(∀t,(t<3\/aaQ t=true)->T'.getD t undef=T.getD t undef)->
   T'.getD 3 undef=.pointer (some ⟨e,0,none⟩)/\T'.getD 4 undef=.pointer (some ⟨d,0,none⟩)/\T'.getD 6 undef=.slice none 0 0/\T'.getD 7 undef=.bool false/\T'.getD 8 undef=.pointer (some ⟨j,0,none⟩)/\T'.getD 17 undef=.slice (some ⟨C,0,none⟩) b b->
   Kp S Rr w0 x g->w0.heap.size<=e/\e<d/\d<C/\C<j->g.heap[e]?=some (.cells #[.int .i64 key] 3)->g.heap[d]?=some (.cells #[.slice A n c] 23)->o.size=2*b->g.heap[C]?=some (.cells o 171)->g.heap[j]?=some (.cells #[.slice (some ⟨C,0,none⟩) b b] 160)->
   bK prog true Rl (pX Rr) St x (Gl (FQ cD T' (.code (.region 2 oJ false) :: .code gX::k)::xs) base) g) :
  bK prog true Rl (pX Rr) St S (Gl (FQ cD T (.code acJ::k)::xs) base) w0:=by
 rw[atS];refine eI H.cmp (gz H.cmp (l:=[0,1,2,3]) rfl λwa R=>awp H E O h0 h1 λT1 S1 w1 e d M B t3 G J I k1 L sp lk N ck y=> ?_) w0 (H.fZ _ _);refine eI H.cmp (gz H.cmp (l:=[0,1,2,3,4]) rfl λwb w=>awq H E M hn ((B 2 (by decide) (by decide) (by decide) (by decide)).trans F) λZ S2 w2 C j o z2 m t8 q P U Q lC la u W D=> ?_) w1 (H.fZ _ _);refine eI H.cmp (λwc X=> ?_) w2 (H.fZ _ _);have z:=Kp.rl H R;have s:=(Kp.rl H w).trans P;have f:=Kp.rl H X;have a1:=jE y;have a0:=jE D;have g1:=z.size;have g2:=(Kp.rl H w).size;have g3:=f.size;refine K Z S2 wc e d C j o z2 (λt a=> ?_) ⟨?_, ?_, ?_, ?_,t8,q⟩ (((z.trans k1).trans s).trans f) ⟨by omega,N,by omega,la⟩ ?_ ?_ u ?_ ?_
 .have p:t≠15:=by rintro rfl;exact absurd a (by decide)
  have r:t≠16:=by rintro rfl;exact absurd a (by decide)
  have v:t≠17:=by rintro rfl;exact absurd a (by decide)
  have e8:t≠8:=by rintro rfl;exact absurd a (by decide)
  have e3:t≠3:=by rintro rfl;exact absurd a (by decide)
  have V:t≠4:=by rintro rfl;exact absurd a (by decide)
  have e6:t≠6:=by rintro rfl;exact absurd a (by decide)
  have e7:t≠7:=by rintro rfl;exact absurd a (by decide)
  rw[m t p r v e8,B t e3 V e6 e7]
 .rw[m 3 (by decide) (by decide) (by decide) (by decide),t3]
 .rw[m 4 (by decide) (by decide) (by decide) (by decide),G]
 .rw[m 6 (by decide) (by decide) (by decide) (by decide),J]
 .rw[m 7 (by decide) (by decide) (by decide) (by decide),I]
 .rw[(s.trans f).keep e (by omega) (.inl L),ck]
 .rw[(s.trans f).keep d (by omega) (.inl sp),y]
 .rw[f.keep C (by omega) (.inl U),W]
 .rw[f.keep j (by omega) (.inl Q),D]
end
end
section
open Go.Conc Go.ConcN Go.RowKit
section
variable {Rl:aq->World->World->Prop} {St:aq->Goroutine->World->Prop} {S Rr:aq} {w0:World} {T:Array Value} {k:List Item} {xs base:List Frame}
def aws (H:pY Rl Rr) (G:45<=Y) (E:T.size=Y)  (i:T.getD 2 undef=.slice A n c)
  (K:∀T':Array Value,T'.size=Y->(∀t,t≠18->t≠19->t≠20->T'.getD t undef=T.getD t undef)->T'.getD 18 undef=.slice A n c->T'.getD 19 undef=.int .i64 n->T'.getD 20 undef=.int .i64 0->
   ∀b,Rl S w0 b->bK prog true Rl (pX Rr) St S (Gl (FQ cD T' k::xs) base) b) :
  bK prog true Rl (pX Rr) St S (Gl (FQ cD T (.inRegion ahD [0,1,2]::k)::xs) base) w0:=by
 obtain⟨L,J,g⟩:=aDZ;obtain⟨F,M,u⟩:=aD0;obtain⟨z,N,q⟩:=aD1;refine bP H.cmp (d:=18) (v:=.slice A n c) (es:=#[]) (by show(18:Nat)<_;omega) g rfl rfl (λw _=>fI (x:=.tmp 2) i) (λw _=>bA _) (λB D e j=> ?_) w0 (H.fZ _ _);refine bP H.cmp (d:=19) (v:=.int .i64 n) (es:=#[]) (by show(19:Nat)<_;omega) u rfl rfl (λw _=>akZ faT (s:=18) e) (λw _=>bA _) (λO C r f=> ?_);refine bP H.cmp (d:=20) (v:=.int .i64 0) (es:=#[]) (by show(20:Nat)<_;omega) q rfl rfl (λw _=>fI rfl) (λw _=>bA _) (λm I l a=> ?_);refine iz H.cmp (K m (by omega) (λt o y p=>by rw[a t p,f t y,j t o]) (by rw[a 18 (by decide),f 18 (by decide),e]) (by rw[a 19 (by decide),r]) l)
def aoO (H:pY Rl Rr) (l:45<=Y) (q:T.size=Y) (a:T.getD 20 undef=.int .i64 i) (b:T.getD 19 undef=.int .i64 n)
  (K:∀T':Array Value,T'.size=Y->(∀t,t≠21->T'.getD t undef=T.getD t undef)->T'.getD 21 undef=.bool (decide (i<n))->
   ∀c,Rl S w0 c->bK prog true Rl (pX Rr) St S (Gl (FQ cD T' k::xs) base) c) :
  bK prog true Rl (pX Rr) St S (Gl (FQ cD T (.inRegion atQ [0]::k)::xs) base) w0:=by
 obtain⟨o,m,e⟩:=aD2;refine bP H.cmp (d:=21) (v:=.bool (decide ((i:Int)<n))) (es:=#[]) (by show(21:Nat)<_;omega) e rfl rfl (λw _=>atB (x:=.tmp 20) (y:=.tmp 19) a b) (λw _=>bA _) (λg p j f=> ?_) w0 (H.fZ _ _);exact iz H.cmp (K g (by omega) f (by rw[j];congr 1;exact uz.2 (by omega)))
end
def aqI:(prog.info? 3).map (λi=>(i.size,i.zero))=some (1,some (.int .i64 0)):=by kernel_rfl
def ak1:∃i,prog.info? 3=some i/\i.size=1/\i.zero=some (.int .i64 0):=by
 have h:=aqI;cases a:prog.info? 3 with
 |none=>rw[a] at h;cases h
 |some i=>
  rw[a] at h;simp only[qe,jt,uU] at h;exact⟨i,rfl,h⟩
section
variable {P:Program} {w:World} {e:Operand->Value} {x y:Operand} {dst:Option Tmp} {ty:TypeId} {pos:String} {af:Array Edge} {gd:Option (Nat×Bool)}
def anu{i:TypeInfo}(g:P.underlying 31=some (.slice 3))(hi:P.info? 3=some i)(f:i.size=1)(k:e x=.slice (some a) n c)(d:e y=.int .i64 j)(b:j<n) :
  (execOp e ⟨dst,.indexAddr 31 x y,ty,pos,af,gd⟩).runT P w #[]=(.ok (.value (.pointer (some (a.add j)))) w,#[]):=by
 simp[execOp,k,d,Instr.indexAt,asIntOf,lw g,b,sizeOf,typeInfo,hi,f]
end
section
variable {Rl:aq->World->World->Prop} {St:aq->Goroutine->World->Prop} {S Rr:aq} {w0:World} {T:Array Value} {k:List Item} {xs base:List Frame}
def atV (H:pY Rl Rr)   {p:String} {d s:Tmp} {u v:Int} (D:U[i]?=some ⟨none,.store 3 (.tmp d) (.tmp s),0,p,af,none⟩) (t:T.getD d undef=.pointer (some ⟨b,0,none⟩)) (F:T.getD s undef=.int .i64 v)
  (n:S b) (q:w0.heap[b]?=some (.cells #[.int .i64 u] 3))
  (K:∀a,Kp S Rr (w0.setCell ⟨b,0,none⟩ (.int .i64 v)) S a->(∀x,x≠b->S x\/Rr x->a.heap[x]?=w0.heap[x]?)->w0.heap.size<=a.heap.size->a.ou=w0.ou->a.heap[b]?=some (.cells #[.int .i64 v] 3)->bK prog true Rl (pX Rr) St S (Gl (FQ cD T (.inRegion U rest::k)::xs) base) a) :
  bK prog true Rl (pX Rr) St S (Gl (FQ cD T (.inRegion U (i::rest)::k)::xs) base) w0:=by
 obtain⟨M,G,C, -⟩:=ak1;have z:=jE q;have l:∀{w},Rl S w0 w->w.heap[b]?=some (.cells #[.int .i64 u] 3):=λ{w} h=>by rw[(Kp.rl H h).keep b z (.inl n),q]
 refine afO H.cmp (A:=⟨b,0,none⟩) (u:=.int .i64 v) D rfl rfl (λw h=>ahG (x:=.tmp d) (y:=.tmp s) G C rfl rfl t F (tJ (l h)).1 (tJ (l h)).2) n (λw h=>acw n (jE (l h))) (λj f o B=> ?_) w0 (H.fZ _ _);have g:=H.rl _ _ _ f;have c:=H.rl _ _ _ B;have E:(j.setCell ⟨b,0,none⟩ (.int .i64 v)).heap.size=j.heap.size:=fd _ _ _;have other:∀x,x≠b->(j.setCell ⟨b,0,none⟩ (.int .i64 v)).heap[x]?=j.heap[x]?:=λx h=>bm _ _ _ (λe=>h e.symm);have r:o.heap[b]?=some (.cells #[.int .i64 v] 3):=(c.1 b (.inl n)).trans (wB (l f));have same:∀x,x≠b->S x\/Rr x->o.heap[x]?=w0.heap[x]?:=λx h m=>(c.1 x m).trans ((other x h).trans (g.1 x m));have I:(w0.setCell ⟨b,0,none⟩ (.int .i64 v)).heap.size=w0.heap.size:=fd _ _ _;have L:=g.2.1;have J:=c.2.1;refine K o ⟨λx _ m=> ?_,by omega,(c.2.2.trans g.2.2),λ_ h=>h,λ_ h=>.inl h⟩ same (by omega) (c.2.2.trans g.2.2) r;by_cases e:x=b
 .rw[e,r,wB q]
 .rw[same x e m,bm _ _ _ (λh=>e h.symm)]
end
section
variable {P:Program} {S Rr:aq}
def awt{A:Addr}{B:Nat}(d:Rr A.block)(g:A.block<B):∀e∈seen P f #[⟨.cell A,false,false⟩],ni S Rr B e:=λe c=>by
 have h:=sZ c;simp only[so,me,rQ,uw] at h;subst h;refine⟨λx a=>.inr ?_,λm b=>(by cases b),g⟩;simp[MemAct.ofEvent,MemAct.touch?] at a;rw[<-a];exact⟨d,rfl⟩
end
section
variable {Rl:aq->World->World->Prop} {St:aq->Goroutine->World->Prop} {S Rr:aq} {w0:World} {T:Array Value} {k:List Item} {xs base:List Frame}
def awu (H:pY Rl Rr) (hZ:45<=Y) (hz:T.size=Y)  {nm:Int} (W:T.getD 18 undef=.slice A n c) (B:T.getD 20 undef=.int .i64 j) (hj:j<n) (V:aku w0 A j nm) (hR:∀a,A=some a->Rr a.block)
  (K:∀(T':Array Value) (F:aq) (G:World) (s E:Nat),T'.size=Y->(∀t,t≠22->t≠23->t≠24->t≠10->t≠11->T'.getD t undef=T.getD t undef)->T'.getD 10 undef=.pointer (some ⟨s,0,none⟩)->T'.getD 11 undef=.pointer (some ⟨E,0,none⟩)->
   Kp S Rr w0 F G->F s->F E->w0.heap.size<=s->s<E->G.heap[s]?=some (.cells #[.int .i64 j] 3)->G.heap[E]?=some (.cells #[.int .i64 nm] 3)->bK prog true Rl (pX Rr) St F (Gl (FQ cD T' k::xs) base) G) :
  bK prog true Rl (pX Rr) St S (Gl (FQ cD T (.inRegion acK [0,1,2,3,4,5,6]::k)::xs) base) w0:=by
 obtain⟨p0,a0,e0⟩:=aD3;obtain⟨p1,a1,e1⟩:=aD4;obtain⟨p2,a2,e2⟩:=aD5;obtain⟨p3,a3,e3⟩:=aD6;obtain⟨p4,a4,e4⟩:=aD7;obtain⟨p5,a5,e5⟩:=aD8;obtain⟨p6,a6,e6⟩:=aD9;obtain⟨a,rfl,g,ad⟩:=V;obtain⟨i3,o,R,r⟩:=ak1;have C:=hR a rfl;have m:(a.add j).block=a.block:=rx a j;have P:=gO g;have kh:∀{w},Rl S w0 w->w.cell? (a.add j)=some (.int .i64 nm):=λ{w} h=>(gK (by rw[m];exact(H.rl _ _ _ h).1 a.block (.inr C))).trans g
 refine bP H.cmp (d:=22) (v:=.int .i64 j) (es:=#[]) (by show(22:Nat)<_;omega) e0 rfl rfl (λw _=>fI (x:=.tmp 20) B) (λw _=>bA _) (λT1 z1 v1 r1=> ?_) w0 (H.fZ _ _);refine bP H.cmp (d:=23) (v:=.pointer (some (a.add j))) (es:=#[]) (by show(23:Nat)<_;omega) e1 rfl rfl (λw _=>anu faT.u31 o R (x:=.tmp 18) (y:=.tmp 20) ((r1 18 (by decide)).trans W) ((r1 20 (by decide)).trans B) hj) (λw _=>bA _) (λT2 z2 v2 r2=> ?_);refine bP H.cmp (d:=24) (v:=.int .i64 nm) (es:=#[⟨.cell (a.add j),false,false⟩]) (by show(24:Nat)<_;omega) e2 rfl rfl (λw Q=>akT underlying3 rfl (x:=.tmp 23) v2 (kh Q)) (λw Q=>awt (by rw[m];exact C) (bd P (H.rl _ _ _ Q).2.1)) (λT3 z3 v3 r3=> ?_);refine nk H (d:=10) (ob:=.cells #[.int .i64 0] 3) (by show(10:Nat)<_;omega) e3 rfl rfl (λw=>aat o r) (λe ha T4 z4 v4 r4=> ?_);refine nk H (d:=11) (ob:=.cells #[.int .i64 0] 3) (by show(11:Nat)<_;omega) e4 rfl rfl (λw=>aat o r) (λl hb J z5 v5 L w1 bq=> ?_);have s1:(e.alloc (.cells #[.int .i64 0] 3)).heap.size=e.heap.size+1:=mw _ _;have s2:(l.alloc (.cells #[.int .i64 0] 3)).heap.size=l.heap.size+1:=mw _ _;have ka:=(Kp.rl H ha).trans (Kp.alloc S Rr e (.cells #[.int .i64 0] 3));have X:=Kp.rl H hb;have kc:=Kp.alloc (SN S e (e.alloc (.cells #[.int .i64 0] 3))) Rr l (.cells #[.int .i64 0] 3);have I:=Kp.rl H bq;have g0:=(Kp.rl H ha).size;have g1:=X.size;have g2:=I.size;have i:=kc.mono _ (lL S e (.cells #[.int .i64 0] 3));have f:=lL (SN S e (e.alloc (.cells #[.int .i64 0] 3))) l (.cells #[.int .i64 0] 3);have ci:w1.heap[e.heap.size]?=some (.cells #[.int .i64 0] 3):=by
  rw[((X.trans kc).trans I).keep e.heap.size (by omega) (.inl (lL S e _)),kV]
 have cn:w1.heap[l.heap.size]?=some (.cells #[.int .i64 0] 3):=by
  rw[I.keep l.heap.size (by omega) (.inl f),kV]
 have D:J.getD 10 undef=.pointer (some ⟨e.heap.size,0,none⟩):=by rw[L 10 (by decide),v4]
 have M:J.getD 22 undef=.int .i64 j:=by rw[L 22 (by decide),r4 22 (by decide),r3 22 (by decide),r2 22 (by decide),v1]
 have U:J.getD 24 undef=.int .i64 nm:=by rw[L 24 (by decide),r4 24 (by decide),v3]
 refine atV H e5 D M i ci (λw2 _ z z6 o6 a7=> ?_);have a8:w2.heap[l.heap.size]?=some (.cells #[.int .i64 0] 3):=(z _ (by omega) (.inl f)).trans cn;refine atV H e6 v5 U f a8 (λw3 _ u z7 o7 Z=> ?_);refine iz H.cmp (λw4 N=> ?_) w3 (H.fZ _ _);have q:=Kp.rl H N;have p:=((ka.trans X).trans kc).trans I;have aa:=p.size;refine K J _ w4 e.heap.size l.heap.size (by omega) (λt q1 q2 q3 q4 q5=> ?_) D v5 ⟨λb a9 h=> ?_, ?_, ?_,p.mono,λb h=>(p.new b h).imp id λh=>⟨h.1, ?_⟩⟩ i f g0 (by omega) ?_ ?_
 .rw[L t q5,r4 t q4,r3 t q3,r2 t q2,r1 t q1]
 .have O:=h.imp (p.mono b) id;rw[q.keep b (by omega) O,u b (by omega) O,z b (by omega) O,p.keep b a9 h]
 .have:=q.size;omega
 .rw[q.os,o7,o6,p.os]
 .have:=q.size;omega
 .rw[q.keep _ (by omega) (.inl i),u _ (by omega) (.inl i),a7]
 .rw[q.keep _ (by omega) (.inl f),Z]
end
end
section
open Go.Conc Go.ConcN Go.RowKit
open Go.ConcR (KK wgBlock WgAt stA smA rd wr mk Payload DC0)
structure Mx where
 wE:World
 Wg:Nat
 C:Nat
 n2:Nat
 Rg:Nat->Prop
 key:Int
 A:Option Addr
 n:Nat
 c:Nat
 l:List ig
 A2:Option Addr
 c2:Nat
 dI:List Int
 bk:Nat
 bp:Nat
 ba:Nat
 sv:Nat->Value
 Z:Nat
 V:aq
structure Mx.Ok (X:Mx):Prop where
 hN:gN<=X.wE.heap.size
 gl:∀g∈gL,X.Rg g
 k1:1<=X.key
 k2:X.key<=99
 hl:X.l.length=X.n
 hc:X.n<=X.c
 hcm:(X.c:Int)<=9223372036854775807
 gr:∀g∈gL,eJ X.wE g
 rd:RdP X.wE X.A 0 X.l
 rgp:RgP X.Rg X.wE X.A X.l
 al:∀a,X.A=some a->X.Rg a.block
 al2:∀a,X.A2=some a->X.Rg a.block
 nm:∀i nm,X.dI[i]?=some nm->aku X.wE X.A2 i nm
 nn:X.dI.length=X.n2
 n2m:(X.n2:Int)<=2147483647
 cW:X.C≠X.Wg
 vr:∀b,X.Rg b->X.V b
structure Mx.At (X:Mx) (R:aq) (w:World):Prop where
 keep:∀b,X.V b->w.heap[b]?=X.wE.heap[b]?
 sz:X.wE.heap.size<=w.heap.size
 os:w.ou=X.wE.ou
 rows:∀b,X.V b->R b
 rk:R X.bk/\w.heap[X.bk]?=some (.cells #[.int .i64 X.key] 3)
 rp:R X.bp/\w.heap[X.bp]?=some (.cells #[.slice X.A X.n X.c] 23)
 ra:R X.ba/\w.heap[X.ba]?=some (.cells #[.slice (some ⟨X.C,0,none⟩) X.n2 X.n2] 160)
 rlt:∀b,R b->b<w.heap.size
 rC:¬R X.C
 rW:¬R X.Wg
 ltC:X.C<w.heap.size
 ltW:X.Wg<w.heap.size
section
variable {X:Mx} {R S S':aq} {w w':World} {es:Array Event}
def Mx.At.move(h:X.At R w)(a:∀b,R b->w'.heap[b]?=w.heap[b]?)(d:w.heap.size<=w'.heap.size)(e:w'.ou=w.ou):X.At R w':=
 ⟨λb c=>(a b (h.rows b c)).trans (h.keep b c),db h.sz d,e.trans h.os,h.rows,⟨h.rk.1,(a _ h.rk.1).trans h.rk.2⟩,⟨h.rp.1,(a _ h.rp.1).trans h.rp.2⟩,⟨h.ra.1,(a _ h.ra.1).trans h.ra.2⟩,
  λb c=>bd (h.rlt b c) d,h.rC,h.rW,bd h.ltC d,bd h.ltW d⟩
def Mx.At.grow(h:X.At R w)(c:∀b,S b->b<w.heap.size/\b≠X.C/\b≠X.Wg):X.At (λb=>S b\/R b) w:=
 ⟨h.keep,h.sz,h.os,λb a=>.inr (h.rows b a),⟨.inr h.rk.1,h.rk.2⟩,⟨.inr h.rp.1,h.rp.2⟩,⟨.inr h.ra.1,h.ra.2⟩,λb a=>a.elim (λx=>(c b x).1) (h.rlt b),
  λa=>a.elim (λx=>(c _ x).2.1 rfl) h.rC,λa=>a.elim (λx=>(c _ x).2.2 rfl) h.rW,h.ltC,h.ltW⟩
def Mx.At.rgp(a:X.Ok)(h:X.At R w):RgP X.Rg w X.A X.l:=a.rgp.move a.al λb c=>h.keep b (a.vr b c)
def Mx.At.gr(a:X.Ok)(h:X.At R w):∀g∈gL,eJ w g:=λg b=>by
 obtain⟨c,t,z,e⟩:=a.gr g b;exact⟨c,t,z,(h.keep g (a.vr g (a.gl g b))).trans e⟩
def Mx.At.rd(a:X.Ok)(h:X.At R w):RdP w X.A 0 X.l:=a.rd.mask a.rgp a.al λ_ _ c b _=>(gK (h.keep _ (a.vr _ b))).trans c
def Mx.At.nm(c:X.Ok)(h:X.At R w){nm:Int}(hi:X.dI[i]?=some nm):aku w X.A2 i nm:=by
 obtain⟨a,e,d,b⟩:=c.nm i nm hi;exact⟨a,e,(gK (by rw[rx];exact h.keep _ (c.vr _ (c.al2 a e)))).trans d,b⟩
abbrev Mx.Rl(X:Mx)(R:aq):aq->World->World->Prop:=jV eN.tWg X.Wg X.C (2*X.n2) R noC
abbrev Mx.Gr(X:Mx)(R:aq):aq->aq->World->World->Array Event->Prop:=Gua X.Wg X.C (2*X.n2) R noC
def Mx.np(X:Mx)(R:aq):pY (X.Rl R) R:=⟨λS w=>jV.refl _ _ _ _,λ_ _ _ _=>jV.trans,λ_ _ _ h=>⟨h.keep,h.size,h.os⟩⟩
structure Mx.Inv (X:Mx) (R S:aq) (w:World):Prop where
 s:∀b,S b->b<w.heap.size/\b≠X.C/\b≠X.Wg
 at_:X.At R w
 live:WgLive eN.tWg X.Wg w
 sr:∀b,R b->¬S b
def Mx.Inv.rely(h:X.Inv R S w)(a:X.Rl R S w w'):X.Inv R S w':=
 ⟨λb c=>⟨bd (h.s b c).1 a.size,(h.s b c).2⟩,h.at_.move (λb c=>a.keep b (.inr c)) a.size a.os,a.live h.live,h.sr⟩
def Mx.step(h:X.Inv R S w)(g:pX R S S' w w' es):X.Gr R S S' w w' es/\X.Inv R S' w':=by
 obtain⟨k,l,p,rfl,z⟩:=g;have o:w'.heap[X.C]?=w.heap[X.C]?:=k _ h.at_.ltC λd=>(h.s _ d).2.1 rfl;have q:w'.heap[X.Wg]?=w.heap[X.Wg]?:=k _ h.at_.ltW λd=>(h.s _ d).2.2 rfl;refine⟨⟨λb c v _=>k b c v,l,p,λ⟨r,a,b⟩=>⟨r,o.trans a,b⟩,λi _=>uq o i,λb c=>.inl c,λb c=>c,λe C=> ?_⟩, ?_⟩
 .obtain⟨A,m,B⟩:=z e C;refine⟨λx t=>(A x t).elim .inl λy=>.inr (.inr y),λj=> ?_,λj=> ?_,λj=> ?_,B⟩
  .rcases m _ j with⟨f,e⟩|e<;>cases e
  .rcases m _ j with⟨f,e⟩|e<;>cases e
  .rcases m _ j with⟨f,e⟩|e<;>cases e
 .refine⟨λb c=> ?_,h.at_.move (λb c=>k b (h.at_.rlt b c) (h.sr b c)) l p, ?_,λb c d=> ?_⟩
  .rcases c with c|⟨c,n⟩
   .exact⟨bd (h.s b c).1 l,(h.s b c).2⟩
   .have E:=h.at_.ltC;have D:=h.at_.ltW;exact⟨n,by omega,by omega⟩
  .obtain⟨u,sm,s⟩:=h.live;exact⟨u,sm,q.trans s⟩
  .rcases d with d|⟨d,_⟩
   .exact h.sr b c d
   .have:=h.at_.rlt b c;omega
def Mx.lift(h:bK prog true (X.Rl R) (pX R) Stop S g w)(hi:X.Inv R S w):bK prog true (X.Rl R) (X.Gr R) (λS g w=>Stop S g w/\X.Inv R S w) S g w:=
 bK.inv (Rl:=X.Rl R) (Gr:=pX R) (Gr2:=X.Gr R) (Stop:=Stop) (Inv:=X.Inv R) (λ_ _ _ a b=>a.rely b) (λ_ _ _ _ _ a b=>Mx.step a b) (λ_ _ _ a b=>⟨a,b⟩) h hi
def anv(t:Nat):Bool:=t ==0||t ==1||t ==2||t ==6||t ==7||t ==17||aaQ t
structure Mx.Sl (X:Mx) (T:Array Value) (j:Nat):Prop where
 z:T.size=X.Z
 zz:45<=X.Z
 s3:T.getD 3 undef=.pointer (some ⟨X.bk,0,none⟩)
 s4:T.getD 4 undef=.pointer (some ⟨X.bp,0,none⟩)
 s8:T.getD 8 undef=.pointer (some ⟨X.ba,0,none⟩)
 s9:T.getD 9 undef=.pointer (some ⟨X.Wg,0,none⟩)
 s18:T.getD 18 undef=.slice X.A2 X.n2 X.c2
 s19:T.getD 19 undef=.int .i64 X.n2
 iA:T.getD 20 undef=.int .i64 j
 sv:∀t,anv t=true->T.getD t undef=X.sv t
def wrM(t:Nat):Bool:=t ==10||t ==11||(21<=t&&t<=28)
def azF{t:Nat}(h:anv t=true):wrM t=false:=by
 simp only[anv,aaQ,qQ,mt,qJ] at h;simp only[wrM,wd,du,vT,decide_eq_false_iff_not];omega
def Mx.Sl.keep{T T':Array Value}(h:X.Sl T j)(c:T'.size=X.Z)(a:∀t,wrM t=false->T'.getD t undef=T.getD t undef):X.Sl T' j:=
 ⟨c,h.zz,(a 3 rfl).trans h.s3,(a 4 rfl).trans h.s4,(a 8 rfl).trans h.s8,(a 9 rfl).trans h.s9,(a 18 rfl).trans h.s18,(a 19 rfl).trans h.s19,(a 20 rfl).trans h.iA,λt b=>(a t (azF b)).trans (h.sv t b)⟩
end
section
variable {P:Program} {main:Bool} {Rl:aq->World->World->Prop} {Gr:aq->aq->World->World->Array Event->Prop} {St:aq->Goroutine->World->Prop} {S Rr:aq} {w0:World} {f h:FuncId} {T:Array Value} {k:List Item} {xs bs:List Frame}
def ak2 (C:Cmp Rl Gr Rr)    {args:Array Value} (a:U[i]?=some o) (c:o.guard=none)
  (b:∀w,(execOp (FQ f T (.inRegion U (i::rest)::k)).eval o).runT P w #[]=(.ok (.enter h args) w,#[]))
  (d:∀w,Rl S w0 w->bK P main Rl Gr St S (Gl (Frame.enter P h args .normal::FQ f T (.inRegion U (i::rest)::k)::xs) bs) w):∀w,Rl S w0 w->bK P main Rl Gr St S (Gl (FQ f T (.inRegion U (i::rest)::k)::xs) bs) w:=
 bK.still C (l2:=Frame.enter P h args .normal::FQ f T (.inRegion U (i::rest)::k)::xs) (es:=λ_=>seen P f #[]) (λw _=>akU rfl rfl rfl rfl a c (b w)) (λw _=>bA _) d
end
def anw{args:Array Value} :(callFunc eN.add args).runT prog w #[]=(.ok (.enter eN.add args) w,#[]):=by
 have h:=aaR.f_add;have b:¬(Go.Conc.Lib.addFn eN).name= "runtime.NumGoroutine" :=by decide
 have a:¬(Go.Conc.Lib.addFn eN).body=none:=λe=>by cases e
 unfold callFunc;simp[h,b,a]
def ak3{args:Array Value} :(callFunc eN.wait args).runT prog w #[]=(.ok (.enter eN.wait args) w,#[]):=by
 have h:=aaR.f_wait;have b:¬(Go.Conc.Lib.waitFn eN).name= "runtime.NumGoroutine" :=by decide
 have a:¬(Go.Conc.Lib.waitFn eN).body=none:=λe=>by cases e
 unfold callFunc;simp[h,b,a]
noncomputable abbrev kM:List Item:=[.code (.seq (.region 9 kg false) cT)]
noncomputable abbrev kB:List Item:=.inLoop jD :: .inBlock 0::kM
noncomputable abbrev kA:List Item:=.code (.region 7 my false) :: .inBlock 1 :: .code (.region 8 akY false)::kB
section
variable {X:Mx} {R:aq} {w:World} {T:Array Value} {j:Nat} {xs bs:List Frame}
def StA(X:Mx)(j:Nat)(xs bs:List Frame)(S:aq)(g:Goroutine)(w:World):Prop:=
 ∃(T':Array Value) (b a:Nat) (nm:Int),X.dI[j]?=some nm/\X.Sl T' j/\T'.getD 10 undef=.pointer (some ⟨b,0,none⟩)/\T'.getD 11 undef=.pointer (some ⟨a,0,none⟩)/\S b/\S a/\w.heap[b]?=some (.cells #[.int .i64 j] 3)/\w.heap[a]?=some (.cells #[.int .i64 nm] 3)/\
  g=Gl (Frame.enter prog eN.add #[.pointer (some ⟨X.Wg,0,none⟩),.int .i64 1] .normal::FQ cD T' (.inRegion aaT [0]::kA)::xs) bs
def StW(X:Mx)(xs bs:List Frame)(S:aq)(g:Goroutine)(_:World):Prop:=
 ∃T':Array Value,X.Sl T' X.n2/\S=(λ_=>False)/\g=Gl (Frame.enter prog eN.wait #[.pointer (some ⟨X.Wg,0,none⟩)] .normal::FQ cD T' (.inRegion kg [0]::[.code cT])::xs) bs
def aqJ(n:X.Ok)(g:X.Sl T j)(v:j<X.n2)(r:X.At R w):bK prog true (X.Rl R) (pX R) (StA X j xs bs) (λ_=>False) (Gl (FQ cD T (.code jD::kB)::xs) bs) w:=by
 have H:=X.np R;obtain⟨nm,m⟩:∃nm,X.dI[j]?=some nm:=⟨_,ls (by rw[n.nn];exact v)⟩;rw[ahE];refine eI H.cmp (gz H.cmp (l:=[0]) rfl λwa x=>aoO H g.zz g.z g.iA g.s19 λL D J i=> ?_) w (H.fZ _ _);rw[de v] at i;refine eI H.cmp (acv H.cmp i (aox H.cmp (eI H.cmp (afM H.cmp (eI H.cmp (gz H.cmp (l:=[0,1,2,3,4,5,6]) rfl λO q=> ?_))))));have e:X.Sl L j:=g.keep D λt d=>J t (by rintro rfl;cases d);have G:X.At R O:=(r.move (λb f=>x.keep b (.inr f)) x.size x.os).move (λb f=>q.keep b (.inr f)) q.size q.os;refine awu H g.zz D e.s18 e.iA v (G.nm n m) (λa A=>G.rows _ (n.vr _ (n.al2 a A))) λo S2 Y F B M U z u Z C sn lb I Q P=> ?_;have k:X.Sl o j:=e.keep M λt d=>U t (by rintro rfl;cases d) (by rintro rfl;cases d) (by rintro rfl;cases d) (by rintro rfl;cases d) (by rintro rfl;cases d);obtain⟨K,S,N⟩:=aB6;refine eI H.cmp (gz H.cmp (l:=[0]) rfl (ak2 H.cmp (h:=eN.add) (args:=#[.pointer (some ⟨X.Wg,0,none⟩),.int .i64 1]) N rfl (λw=> ?_) λw5 y=>.stop λw6 p=> ?_)) Y (H.fZ _ _)
 .have V:Array.map (Frame.eval (FQ cD o (.inRegion aaT [0]::kA))) #[.tmp 9,.const (.int .i64 1)]=#[.pointer (some ⟨X.Wg,0,none⟩),.int .i64 1]:=by
   rw[<-k.s9];simp[Frame.eval]
  have W:execOp (Frame.eval (FQ cD o (.inRegion aaT [0]::kA))) ⟨some 25,.call ⟨.value (.func eN.add),#[.tmp 9,.const (.int .i64 1)],#[eN.tWg,3]⟩,0,K,S,none⟩=callFunc eN.add #[.pointer (some ⟨X.Wg,0,none⟩),.int .i64 1]:=by
   simp only[execOp,resolve];rw[V];simp[Deferred.ofValue,invoke,Frame.eval];try rfl
  exact(gn (λs=>Sem.runT prog s w #[]) W).trans anw
 .have E:=H.tr _ _ _ _ y p;exact⟨o,F,B,nm,m,k,z,u,C,sn,(E.keep F (.inl C)).trans Q,(E.keep B (.inl sn)).trans P,rfl⟩
def aqL(b:X.Sl T X.n2):bK prog true (X.Rl R) (pX R) (StW X xs bs) (λ_=>False) (Gl (FQ cD T (.code jD::kB)::xs) bs) w:=by
 have H:=X.np R;rw[ahE];refine eI H.cmp (gz H.cmp (l:=[0]) rfl λx u=>aoO H b.zz b.z b.iA b.s19 λe p f a=> ?_) w (H.fZ _ _);rw[da (Nat.lt_irrefl _)] at a;have d:X.Sl e X.n2:=b.keep p λt j=>f t (by rintro rfl;cases j);obtain⟨n,i,k⟩:=aB7;refine eI H.cmp (acv H.cmp a (aoz H.cmp (k2:=kM) rfl (eI H.cmp (gz H.cmp (l:=[0]) rfl (ak2 H.cmp (h:=eN.wait) (args:=#[.pointer (some ⟨X.Wg,0,none⟩)]) k rfl (λw=> ?_) λv q=>.stop λr g=>⟨e,d,rfl,rfl⟩)))));have m:Array.map (Frame.eval (FQ cD e (.inRegion kg [0]::[.code cT]))) #[.tmp 9]=#[.pointer (some ⟨X.Wg,0,none⟩)]:=by
  rw[<-d.s9];simp[Frame.eval]
 have o:execOp (Frame.eval (FQ cD e (.inRegion kg [0]::[.code cT]))) ⟨some 28,.call ⟨.value (.func eN.wait),#[.tmp 9],#[eN.tWg]⟩,0,n,i,none⟩=callFunc eN.wait #[.pointer (some ⟨X.Wg,0,none⟩)]:=by
  simp only[execOp,resolve];rw[m];simp[Deferred.ofValue,invoke,Frame.eval];try rfl
 exact(gn (λs=>Sem.runT prog s w #[]) o).trans ak3
end
end
section
open Go.Conc Go.ConcN Go.RowKit Go.Conc.Lib Go.ConcR.Gen Go.ConcN.Gen
open Go.ConcR (KK wgBlock WgAt stA smA rd wr mk Payload DC0)
section
variable {P:Program} {R:World->World->Prop} {Q:World->Prop} {St A:Goroutine->World->Prop} {ty:TypeId} {Wg:Nat}
 (hQ:∀w w1,Q w->R w w1->Q w1) (hW:∀(w:World) (a:Addr) v,a.block=Wg->Q w->Q (w.setCell a v))
include hQ
theorem aoP(a:Q w)(h:WKe P R Wg St g w):WKe P R Wg (λg w=>St g w/\Q w) g w:=acI (λ_ _ x=>jZ hQ x.2 x.1) (jZ hQ a h)
theorem awv(b:Q w)(h:WW4 P R ty Wg St g w):WW4 P R ty Wg (λg w=>St g w/\Q w) g w:=
 ⟨h.1,λa=>let⟨c,e,k⟩:=h.2 a;⟨c,e,fK (λ_ _ x=>aoP hQ x.2 x.1) (fe hQ b k)⟩⟩
include hW
theorem aww(b:Q w)(h:WW3 P R ty Wg St g w):WW3 P R ty Wg (λg w=>St g w/\Q w) g w:=
 ⟨h.1,h.2.1,h.2.2.1,λa=>let⟨c,e,k⟩:=h.2.2.2 a;⟨c,e,fK (λ_ _ x=>awv hQ x.2 x.1) (fe hQ (hW _ _ _ rfl b) k)⟩⟩
theorem awx{v:Nat}(d:Q w)(h:WW2 P R ty Wg A St v g w):WW2 P R ty Wg (λg w=>A g w/\Q w) (λg w=>St g w/\Q w) v g w:=
 ⟨h.1,λf i c=>⟨λe=>let⟨b,a,k⟩:=(h.2 f i c).1 e;⟨b,a,fK (λ_ _ x=>acI (λ_ _ x=>aww hQ hW x.2 x.1) (jZ hQ x.2 x.1)) (fe hQ (hW _ _ _ rfl d) k)⟩,
  λe=>let⟨b,a,k⟩:=(h.2 f i c).2 e;⟨b,a,fe hQ d k⟩⟩⟩
theorem awy(a:Q w)(h:WW1 P R ty Wg A St g w):WW1 P R ty Wg (λg w=>A g w/\Q w) (λg w=>St g w/\Q w) g w:=
 ⟨h.1,λv d c=>let⟨i,e,f,b⟩:=h.2 v d c;⟨i,e,λe=>fK (λ_ _ x=>aoP hQ x.2 x.1) (fe hQ a (f e)),λe=>fK (λ_ _ x=>awx hQ hW x.2 x.1) (fe hQ a (b e))⟩⟩
end
section
variable (X:Mx) (xs bs:List Frame)
noncomputable abbrev frW(T:Array Value):Frame:=(FQ cD #[] []).at ⟨T,[]⟩ (.inRegion kg [0]::[.code cT])
def adU(R _S:aq)(g:Goroutine)(w:World):Prop:=X.At R w/\∃T,X.Sl T X.n2/\akQ eN X.Wg (frW T) (xs++bs) g w
def aB9(R S:aq)(g:Goroutine)(w:World):Prop:=
 ∃T,X.Sl T X.n2/\Goes prog true (RM eN.tWg X.Wg X.C X.n2 R S) DC0 (λg w=>(g=Gl (FQ cD T (.inRegion kg []::[.code cT])::xs) bs/\WgLive eN.tWg X.Wg w)/\X.At R w) 20 g w
end
section
variable {X:Mx} {xs bs:List Frame} {R S:aq} {w w1:World} {T:Array Value}
def Mx.At.rely(h:X.At R w)(a:jV eN.tWg X.Wg X.C (2*X.n2) R noC S w w1):X.At R w1:=h.move (λb c=>a.keep b (.inr c)) a.size a.os
def Mx.At.wg(h:X.At R w)(a:Addr)(v:Value)(d:a.block=X.Wg):X.At R (w.setCell a v):=
 h.move (λb c=>bm _ _ _ (λe=>h.rW (by rw[<-d,e];exact c))) (mu (fd _ _ _).symm) rfl
def awz(a:X.Sl T X.n2):∃T',X.Sl T' X.n2/\G ((FQ cD #[] []).at ((⟨T,[]⟩:Act).put ((kg[0]?).bind (·.dst)) (.tuple #[])) (.inRegion kg []::[.code cT])) (xs++bs)=Gl (FQ cD T' (.inRegion kg []::[.code cT])::xs) bs:=by
 obtain⟨d,e,c⟩:=aB7;refine⟨T.setIfInBounds 28 (.tuple #[]),a.keep (by simpa using a.z) λt b=> ?_,by rw[c];rfl⟩;rw[aH (by rw[a.z];exact bd (by decide) a.zz),bv (by rintro rfl;cases b)]
def awA(h:adU X xs bs R S g w):∃m,GP prog eN.tWg X.Wg X.C X.n2 R S (MW1 prog eN.tWg X.Wg X.C X.n2 R S (adU X xs bs) (aB9 X xs bs)) m g w:=by
 obtain⟨c,T,d,i⟩:=h;have j:=anp (R:=RM eN.tWg X.Wg X.C X.n2 R S) (S:=λg w=>g=G ((FQ cD #[] []).at ((⟨T,[]⟩:Act).put ((kg[0]?).bind (·.dst)) (.tuple #[])) (.inRegion kg []::[.code cT])) (xs++bs)/\WgLive eN.tWg X.Wg w) aaR (λ_ _ h r=>r.live h) (λ_ h=>⟨rfl,h⟩) g w i;have f:=fK (λg w x=>awy (Q:=X.At R) (λ_ _ h r=>h.rely r) (λ_ a v e h=>h.wg a v e) x.2 x.1) (fe (Q:=X.At R) (λ_ _ h r=>h.rely r) c j);obtain⟨T',b,k⟩:=awz (xs:=xs) (bs:=bs) d;refine⟨30,aaS (λ_ _ x=>aBT (λg w y=>⟨T',b,fK (λg w z=>⟨⟨z.1.1.trans k,z.1.2⟩,z.2⟩) y⟩) (λg w y=>⟨y.2,T,d,y.1⟩) x) f⟩
def anx:Frame.enter prog eN.wait #[.pointer (some ⟨X.Wg,0,none⟩)] .normal=(base eN.wait).at ⟨#[.pointer (some ⟨X.Wg,0,none⟩)]++(List.replicate 83 undef).toArray,[]⟩ [.code (body_wait eN)]:=by
 rw[vJ];have h:=enter_at (c:=body_wait eN) #[.pointer (some ⟨X.Wg,0,none⟩)] aaR.f_wait rfl;have e:(Go.Conc.Lib.waitFn eN).ntmps-(#[.pointer (some ⟨X.Wg,0,none⟩)]:Array Value).size=83:=rfl;rw[e] at h;exact h
def aqM:Frame.enter prog eN.add #[.pointer (some ⟨X.Wg,0,none⟩),.int .i64 1] .normal=(base eN.add).at ⟨#[.pointer (some ⟨X.Wg,0,none⟩),.int .i64 1]++(List.replicate 115 undef).toArray,[]⟩ [.code (body_add eN)]:=by
 rw[vJ];have h:=enter_at (c:=body_add eN) #[.pointer (some ⟨X.Wg,0,none⟩),.int .i64 1] aaR.f_add rfl;have e:(Go.Conc.Lib.addFn eN).ntmps-(#[.pointer (some ⟨X.Wg,0,none⟩),.int .i64 1]:Array Value).size=115:=rfl;rw[e] at h;exact h
def aiV(d:X.Sl T X.n2)(hi:X.Inv R S w) :
  bK prog true (X.Rl R) (X.Gr R) (λS g w=>MKd prog eN.tWg X.Wg X.C X.n2 R S (adU X xs bs) g w) S (Gl (Frame.enter prog eN.wait #[.pointer (some ⟨X.Wg,0,none⟩)] .normal::FQ cD T (.inRegion kg [0]::[.code cT])::xs) bs) w:=by
 rw[anx];have c:=ano (b₀:=FQ cD #[] []) (a₀:=⟨T,[]⟩) (ops₀:=kg) (i₀:=0) (rest₀:=[]) (k₀:=[.code cT]) (cs:=xs++bs) (R:=RM eN.tWg X.Wg X.C X.n2 R S) aaR (λ_ _ h r=>r.live h) w hi.live;have b:=fK (λg w x=>jZ (Q:=X.At R) (λ_ _ h r=>h.rely r) x.2 x.1) (fe (Q:=X.At R) (λ_ _ h r=>h.rely r) hi.at_ c);have a:∀g w,(akQ eN X.Wg (frW T) (xs++bs) g w/\X.At R w)->adU X xs bs R S g w:=λg w y=>⟨y.2,T,d,y.1⟩;exact bK.acp (R:=RM eN.tWg X.Wg X.C X.n2 R S) (λ_ _ h=>h) (λ_ _ _ h=>azC h) (λ_ _ h=>aBU a h) b
end
end
section
open Go.Conc Go.ConcN Go.RowKit
open Go.ConcR (KK wgBlock WgAt stA smA rd wr mk Payload DC0)
section
variable {X:Mx} {R S:aq} {w:World} {T:Array Value} {j:Nat} {xs bs:List Frame} {bi bn:Nat} {nm:Int}
noncomputable abbrev kG:List Item:=.inBlock 1 :: .code (.region 8 akY false)::kB
abbrev Mx.oh(X:Mx)(bi bn:Nat):Array Value:=#[.pointer (some ⟨X.Wg,0,none⟩),.pointer (some ⟨X.bk,0,none⟩),.pointer (some ⟨X.bp,0,none⟩),.pointer (some ⟨bn,0,none⟩),.pointer (some ⟨X.ba,0,none⟩),.pointer (some ⟨bi,0,none⟩)]
def aqN(b:X.Sl T j)(k:T.getD 10 undef=.pointer (some ⟨bi,0,none⟩))(m:T.getD 11 undef=.pointer (some ⟨bn,0,none⟩))(z:S bi)(q:S bn)(s:w.heap[bi]?=some (.cells #[.int .i64 j] 3))(o:w.heap[bn]?=some (.cells #[.int .i64 nm] 3)) :
  bK prog true (X.Rl R) (pX R) (λA g f=>A=S/\f.heap[bi]?=some (.cells #[.int .i64 j] 3)/\f.heap[bn]?=some (.cells #[.int .i64 nm] 3)/\∃T',X.Sl T' j/\T'.getD 26 undef=.func (.func nCl) #[] (X.oh bi bn)/\g=Gl (FQ cD T' (.inRegion my [1]::kG)::xs) bs) S
   (Gl (FQ cD T (.inRegion aaT []::kA)::xs) bs) w:=by
 have H:=X.np R;obtain⟨p,a,e⟩:=aEa;refine iz H.cmp (gz H.cmp (l:=[0,1]) rfl (bP H.cmp (d:=26) (v:=.func (.func nCl) #[] (X.oh bi bn)) (es:=#[]) (by rw[b.z];exact bd (by decide) b.zz) e rfl rfl (λw _=>ak0 ?_) (λw _=>bA _) λx B C r f y=>.stop λD i=> ?_)) w (H.fZ _ _)
 .have:∀T:Array Value,Array.map (Frame.eval (FQ cD T (.inRegion my [0,1]::kG))) #[.tmp 9,.tmp 3,.tmp 4,.tmp 11,.tmp 8,.tmp 10]=#[T.getD 9 undef,T.getD 3 undef,T.getD 4 undef,T.getD 11 undef,T.getD 8 undef,T.getD 10 undef]:=λT=>by simp[Frame.eval]
  rw[this,b.s9,b.s3,b.s4,b.s8,k,m]
 .have n:=H.tr _ _ _ _ y i;exact⟨rfl,(n.keep bi (.inl z)).trans s,(n.keep bn (.inl q)).trans o,x,b.keep (B.trans b.z) λt u=>r t (by rintro rfl;cases u),C,rfl⟩
def aqO(k:X.Ok)(b:X.Sl T j)(F:j<X.n2) :
  bK prog true (X.Rl R) (pX R) (λu g _=>u=S/\∃T',X.Sl T' (j+1)/\g=Gl (FQ cD T' (.code jD::kB)::xs) bs) S
   (Gl (FQ cD T (.inRegion my []::kG)::xs) bs) w:=by
 have H:=X.np R;obtain⟨E,D,i⟩:=aEc;obtain⟨B,G,s⟩:=aEd;have p:=k.n2m;refine iz H.cmp (akm H.cmp (gz H.cmp (l:=[0,1]) rfl (bP H.cmp (d:=27) (v:=.int .i64 ((j:Int)+1)) (es:=#[]) (by rw[b.z];exact bd (by decide) b.zz) i rfl rfl (λw _=>awo (x:=.tmp 20) b.iA rfl (by omega) (by omega)) (λw _=>bA _) λo f y m=>
  bP H.cmp (d:=20) (v:=.int .i64 ((j:Int)+1)) (es:=#[]) (by rw[f,b.z];exact bd (by decide) b.zz) s rfl rfl (λw _=>fI (x:=.tmp 27) y) (λw _=>bA _) λz r n c=>
   iz H.cmp (asJ H.cmp λA C=>.stop λI q=>⟨rfl,z, ?_,rfl⟩)))) w (H.fZ _ _)
 have a:=b.keep (T':=o) (f.trans b.z) λt e=>m t (by rintro rfl;cases e);refine⟨r.trans a.z,a.zz,(c 3 (by decide)).trans a.s3,(c 4 (by decide)).trans a.s4,(c 8 (by decide)).trans a.s8,(c 9 (by decide)).trans a.s9,(c 18 (by decide)).trans a.s18,(c 19 (by decide)).trans a.s19,by rw[n];rfl,λt e=>(c t (by rintro rfl;cases e)).trans (a.sv t e)⟩
def af8{val:Nat->Value}{A:aq->aq->Goroutine->World->Prop}{r:Nat}(h:bK prog true (X.Rl R) (X.Gr R) (λS g w=>(S=λ_=>False)/\tM prog eN.tWg X.Wg X.C X.n2 val A r R g w) (λ_=>False) g w):tM prog eN.tWg X.Wg X.C X.n2 val A r R g w:=by
 cases r with
 |zero=>exact bK.bind (X.np _).fZ (X.np _).tr h λS g w ⟨hS,h⟩=>by subst hS;exact h
 |succ r=>exact bK.bind (X.np _).fZ (X.np _).tr h λS g w ⟨hS,h⟩=>by subst hS;exact h
def adV(f:X.Ok){x:Int->List ig->Int->ByteArray×Bool}(O:eM x)(u:∀k nm,x k [] nm=(⟨#[]⟩,false)){val:Nat->Value}(i:∀B nm,X.dI[B]?=some nm->val (2*B)=.string (x X.key X.l nm).1/\val (2*B+1)=.bool (x X.key X.l nm).2) :
  ∀(r j:Nat) (R:aq) (T:Array Value) (w:World),j+r=X.n2->X.At R w->WgLive eN.tWg X.Wg w->X.Sl T j->tM prog eN.tWg X.Wg X.C X.n2 val (adU X xs bs) r R (Gl (FQ cD T (.code jD::kB)::xs) bs) w
 |0,j,R,T,w,hj,hat,o,hs=>by
  obtain rfl:j=X.n2:=hj;have N:X.Inv R (λ_=>False) w:=⟨λb h=>h.elim,hat,o,λb _ h=>h⟩;exact bK.bind (X.np R).fZ (X.np R).tr (Mx.lift (aqL hs) N) λS g w ⟨⟨T',c,hS,hg⟩,d⟩=>by
   rw[hg];exact aiV c d
 |r+1,j,R,T,w,hj,hat,o,hs=>by
  have l:j<X.n2:=by omega
  have N:X.Inv R (λ_=>False) w:=⟨λb h=>h.elim,hat,o,λb _ h=>h⟩;have H:X.n2-(r+1)=j:=by omega
  show bK prog true (X.Rl R) (X.Gr R) (λS g w=>ass prog eN.tWg X.Wg X.C X.n2 val (X.n2-(r+1)) (tM prog eN.tWg X.Wg X.C X.n2 val (adU X xs bs) r) R S g w) (λ_=>False) _ w;rw[H];refine bK.bind (X.np R).fZ (X.np R).tr (Mx.lift (aqJ f hs l hat) N) λS g w ⟨⟨T',bi,bn,nm,hnm,c,d10,d11,si,sn,ci,cn,hg⟩,d⟩=> ?_;rw[hg,aqM];have hI:=d.at_.nm f hnm;obtain⟨-, -, -,F⟩:=hI;refine aqH (b₀:=FQ cD #[] []) (a₀:=⟨T',[]⟩) (ops₀:=aaT) (i₀:=0) (rest₀:=[]) (k₀:=kA) (cs:=xs++bs) aaR (Q:=λw=>X.Inv R S w/\w.heap[bi]?=some (.cells #[.int .i64 j] 3)/\w.heap[bn]?=some (.cells #[.int .i64 nm] 3))
   (λw q h J=>⟨h.1.rely J,(J.keep bi (.inl si)).trans h.2.1,(J.keep bn (.inl sn)).trans h.2.2⟩) (λw v z h Z=> ?_) (λw o h=> ?_) w d.live ⟨d,ci,cn⟩
  .have s:∀b,S b->(w.setCell (stA X.Wg) (.int .u64 z)).heap[b]?=w.heap[b]?:=λb n=>bm _ _ _ λe=>(h.1.s b n).2.2 e.symm;refine⟨⟨λb n=>⟨by rw[fd];exact(h.1.s b n).1,(h.1.s b n).2⟩,h.1.at_.wg _ _ rfl, ?_,h.1.sr⟩,(s bi si).trans h.2.1,(s bn sn).trans h.2.2⟩;exact⟨z,0,Z.setSt z⟩
  .obtain⟨p6,a6,V⟩:=aB6;have U:G ((FQ cD #[] []).at ((⟨T',[]⟩:Act).put ((aaT[0]?).bind (·.dst)) (.tuple #[])) (.inRegion aaT []::kA)) (xs++bs)=Gl (FQ cD (T'.setIfInBounds 25 (.tuple #[])) (.inRegion aaT []::kA)::xs) bs:=by rw[V];rfl
   rw[U];have m:∀t,t≠25->(T'.setIfInBounds 25 (.tuple #[])).getD t undef=T'.getD t undef:=λt A=>by rw[aH (by rw[c.z];exact bd (by decide) c.zz),bv A]
   have K:X.Sl (T'.setIfInBounds 25 (.tuple #[])) j:=c.keep (by simpa using c.z) λt A=>m t (by rintro rfl;cases A);refine bK.weak (λ_ _ _ h=>h) (λ_ _ _ _ _ h=>h) (λp g q h=> ?_) (Mx.lift (aqN (nm:=nm) K ((m 10 (by decide)).trans d10) ((m 11 (by decide)).trans d11) si sn h.2.1 h.2.2) h.1);obtain⟨⟨rfl,E,L,T2,y,I,rfl⟩,D⟩:=h;have a:X.At (λb=>p b\/R b) q:=D.at_.grow D.s;refine⟨rfl,_,_,λb=>p b\/R b,awm I,λ_ h=>h,λhp o=> ?_, ?_⟩
   .obtain⟨v0,W⟩:=i j nm hnm
    let Y:Wx:=⟨q,X.Wg,X.C,X.n2,j,λb=>p b\/R b,X.Rg,X.key,X.A,X.n,X.c,X.l,nm,X.bk,X.bp,bn,X.ba,bi,eN.tWg⟩
    have C:Y.Ok:=⟨db f.hN a.sz,f.gl,a.gr f,f.k1,f.k2,f.hl,f.hc,f.hcm,a.rd f,a.rgp f,f.al,F,l,λb n=>a.rows b (f.vr b n),⟨a.rk.1,(tJ a.rk.2).1⟩,⟨a.rp.1,(tJ a.rp.2).1⟩,⟨.inl sn,(tJ L).1⟩,⟨a.ra.1,(tJ a.ra.2).1⟩,⟨.inl si,(tJ E).1⟩,a.rlt,a.rC,a.rW,f.cW⟩;have M:Y.Inv (λ_=>False) q:=⟨λ_ _=>rfl,λb h=>h.elim,a.ltC,a.ltW,am _,o,hp,rfl⟩;exact akX (X:=Y) C O u rfl v0 W M
   .-- the rounds that are left
    have P:X.Inv (λb=>p b\/R b) (λ_=>False) q:=⟨λb h=>h.elim,a,D.live,λb _ h=>h⟩;have hx:=Mx.lift (aqO (S:=λ_=>False) (xs:=xs) (bs:=bs) f y l) P;have k:∀(g:Goroutine) (w:World) (S:aq),((S=λ_=>False)/\∃T',X.Sl T' (j+1)/\g=Gl (FQ cD T' (.code jD::kB)::xs) bs)/\X.Inv (λb=>p b\/R b) S w->S=(λ_=>False)/\tM prog eN.tWg X.Wg X.C X.n2 val (adU X xs bs) r (λb=>p b\/R b) g w:=by
     rintro g w S ⟨⟨rfl,T',c,rfl⟩,d⟩;exact⟨rfl,adV f O u i r (j+1) _ T' w (by omega) d.at_ d.live c⟩
    exact af8 (bK.weak (λ_ _ _ h=>h) (λ_ _ _ _ _ h=>h) (λS g w h=>k g w S h) hx)
end
def anz(Rr:aq):pY RlB Rr:=⟨λ_ w=>atRel_refl w,λ_ a b c h k=>atRel_trans a b c h k,λ_ w f ⟨d,e⟩=>by subst e;exact⟨λ_ _=>rfl,am _,rfl⟩⟩
def anA(aV S:aq)(w:World):Prop:=(∀b,S b->¬aV b)/\∀b,aV b->b<w.heap.size
def anA.rely{S : aq}(h:anA aV S w)(c:RlB S w V):anA aV S V:=⟨h.1,λb a=>bd (h.2 b a) ((anz S).rl _ _ _ c).2.1⟩
def atW{Rr S : aq}{w' : World}(s:∀b,Rr b->¬aV b)(i:anA aV S w)(g:pX Rr S R w w' es):GrB aV S R w w' es/\anA aV R w':=by
 obtain⟨t,l,u,rfl,o⟩:=g;have m:∀b,S b\/(w.heap.size<=b/\b<w'.heap.size)->¬aV b:=λb c d=>by
  rcases c with c|c
  .exact i.1 b c d
  .have:=i.2 b d;omega
 refine⟨⟨l,λe r=> ?_⟩,m,λb c=>bd (i.2 b c) l⟩;obtain⟨p,k,q⟩:=o e r;refine⟨λx n ⟨a,hl,d⟩=> ?_,λj=> ?_,λj=> ?_,q⟩
 .rcases p x n with h|⟨h, -⟩
  .rw[hl] at h;exact m _ h d
  .rw[hl] at h;exact s _ h d
 .rcases k _ j with⟨f,e⟩|e<;>cases e
 .rcases k _ j with⟨f,e⟩|e<;>cases e
section
variable {gs:Array Goroutine} {w:World} {sl:Option (Nat×Nat)} {t:Trace} {q:Nat->Nat} {aV V:aq} {T:Array Value} {xs:List Frame}
def aEe (J:gs[0]?=some (Gl (FQ cD X [.code acJ]::xs) [])) (U:45<=X.size) {A2 : Option Addr} (Z:(Y:Int)<=2147483647) (M:X.getD 0 undef=.int .i64 key) (s1:X.getD 1 undef=.slice A n c) (L:X.getD 2 undef=.slice A2 Y i)
  (P:Leavers prog t gs q) (hP:eW aV (gs.size-1) w.heap.size t) (x:∀b,aV b->b<w.heap.size) (I:∀b,V b->b<w.heap.size/\¬aV b) :
  ∃(N:Nat) (l:Array Goroutine) (f:World) (r:Option (Nat×Nat)) (s:Trace) (y:Nat->Nat) (T:Array Value) (m j C o:Nat) (p:Array Value),runNT prog N (crowd gs w sl) t=(.next (crowd l f r),s)/\l.size=gs.size/\
   l[0]?=some (Gl (FQ cD T [.code (.region 2 oJ false),.code gX]::xs) [])/\Leavers prog s l y/\eW aV (gs.size-1) f.heap.size s/\T.size=X.size/\(∀t,(t<3\/aaQ t=true)->T.getD t undef=X.getD t undef)/\
   (T.getD 3 undef=.pointer (some ⟨m,0,none⟩)/\T.getD 4 undef=.pointer (some ⟨j,0,none⟩)/\T.getD 6 undef=.slice none 0 0/\T.getD 7 undef=.bool false/\T.getD 8 undef=.pointer (some ⟨o,0,none⟩)/\T.getD 17 undef=.slice (some ⟨C,0,none⟩) Y Y)/\
   ((∀b,V b->f.heap[b]?=w.heap[b]?)/\w.heap.size<=f.heap.size/\f.ou=w.ou)/\(w.heap.size<=m/\m<j/\j<C/\C<o)/\f.heap[m]?=some (.cells #[.int .i64 key] 3)/\f.heap[j]?=some (.cells #[.slice A n c] 23)/\p.size=2*Y/\f.heap[C]?=some (.cells p 171)/\f.heap[o]?=some (.cells #[.slice (some ⟨C,0,none⟩) Y Y] 160):=by
 have W:=ant (xs:=xs) (base:=[]) (k:=[]) (S:=λ_=>False) (w0:=w) (Rr:=V)
  (St:=λ_ g f=>∃(T:Array Value) (m j C o:Nat) (p:Array Value),g=Gl (FQ cD T [.code (.region 2 oJ false),.code gX]::xs) []/\T.size=X.size/\(∀t,(t<3\/aaQ t=true)->T.getD t undef=X.getD t undef)/\
   (T.getD 3 undef=.pointer (some ⟨m,0,none⟩)/\T.getD 4 undef=.pointer (some ⟨j,0,none⟩)/\T.getD 6 undef=.slice none 0 0/\T.getD 7 undef=.bool false/\T.getD 8 undef=.pointer (some ⟨o,0,none⟩)/\T.getD 17 undef=.slice (some ⟨C,0,none⟩) Y Y)/\
   ((∀b,V b->f.heap[b]?=w.heap[b]?)/\w.heap.size<=f.heap.size/\f.ou=w.ou)/\(w.heap.size<=m/\m<j/\j<C/\C<o)/\f.heap[m]?=some (.cells #[.int .i64 key] 3)/\f.heap[j]?=some (.cells #[.slice A n c] 23)/\p.size=2*Y/\f.heap[C]?=some (.cells p 171)/\f.heap[o]?=some (.cells #[.slice (some ⟨C,0,none⟩) Y Y] 160))
  (anz V) U rfl Z M s1 L λT S' f m j C o p B K F v R Q cp E cC O=>.stop λw1 ⟨d,e⟩=>by
   subst e;exact⟨T,m,j,C,o,p,rfl,B,K,F,⟨λb u=>v.keep b (I b u).1 (.inr u),v.size,v.os⟩,R,Q,cp,E,cC,O⟩
 have H:=bK.inv (Gr2:=GrB aV) (Inv:=anA aV) (ahx:=λ_ g f=>_) (λ_ _ _ h D=>h.rely D) (λ_ _ _ _ _ h g=>atW (λb u=>(I b u).2) h g) (λ_ _ _ h _=>h) W ⟨λ_ h=>h.elim,x⟩;obtain⟨N,l,a,f,r,s,y,S',D,B,ha,⟨T,m,j,C,o,p,rfl,F⟩,G,z⟩:=aas (sl:=sl) abn J P hP H;exact⟨N,l,f,r,s,y,T,m,j,C,o,p,D,B,ha,G,z,F⟩
def GrE(_ _:aq)(w w':World)(es:Array Event):Prop:=es=#[]/\w.heap.size<=w'.heap.size
def agA{B0:Nat}:ayT GrE (λK B t=>eW aV K B t/\∀op∈t,op.act.low B0) where
 own:=λ{K t S l w k f} fn c ⟨b,hz⟩ ⟨hP,hl⟩=>by
  subst b;refine⟨hP.own hz λe h=>by simp at h,λop a=> ?_⟩;rcases vC.1 a with h|h
  .exact hl op h
  .obtain⟨e,b, -⟩:=lE h;simp at b
 mute:=λ{K B t g f} fn c i j d ⟨hP,hl⟩=>by
  refine⟨hP.mute i j d,seen_app hl λop a=> ?_⟩;obtain⟨e,b,rfl⟩:=lE a;exact low_mute (d e b) B0
def aEf(C:gs[0]?=some (Gl (FQ cD T [.code (.region 2 oJ false),.code gX]::xs) []))(v:45<=T.size)(F:Leavers prog t gs q)(x:eW aV (gs.size-1) w.heap.size t) :
  ∃(N:Nat) (b:Array Goroutine) (c:World) (d:Option (Nat×Nat)) (e:Trace) (s:Nat->Nat) (T':Array Value),runNT prog N (crowd gs w sl) t=(.next (crowd b c d),e)/\b.size=gs.size/\b[0]?=some (Gl (FQ cD T' [.code gX]::xs) [])/\Leavers prog e b s/\
   eW aV (gs.size-1) c.heap.size e/\(∀op∈e,op.act.low w.heap.size)/\T'.size=T.size/\T'.getD 9 undef=.pointer (some ⟨w.heap.size,0,none⟩)/\(∀t,t≠9->T'.getD t undef=T.getD t undef)/\c.heap=w.heap.push (wgBlock eN.tWg 0 0)/\c.ou=w.ou:=by
 obtain⟨R,Q,u⟩:=aDY;obtain⟨i,z,J,l,M⟩:=awr;have o:List.range oJ.size=[0]:=rfl;have K:bK prog true RlB GrE (λ_ g c=>g=Gl (FQ cD (T.setIfInBounds 9 (.pointer (some ⟨w.heap.size,0,none⟩))) [.code gX]::xs) []/\c.heap=w.heap.push (wgBlock eN.tWg 0 0)/\c.ou=w.ou) (λ_=>False) (Gl (FQ cD T [.code (.region 2 oJ false),.code gX]::xs) []) w:=by
  refine .step rfl λy ⟨d1,e1⟩=>⟨Gl (FQ cD T [.inRegion oJ [0],.code gX]::xs) [],y,#[],λ_=>False,by simp[Gl,stepG,stepG.exec,o],⟨rfl,am _⟩, ?_⟩;refine .step rfl λj ⟨d2,e2⟩=> ?_;have f:=aow (m:=true) (fr:=FQ cD T [.inRegion oJ [0],.code gX]) (xs:=xs) (base:=[]) (w:=j) rfl rfl rfl rfl u rfl (aat (w:=j) J l);rw[wC,M] at f;refine⟨_,_,#[],λ_=>False,f,⟨rfl,by rw[mw];omega⟩, ?_⟩;have k:j.heap.size=w.heap.size:=by rw[e2,e1];rfl
  have H:Frame.finish (FQ cD T [.inRegion oJ [0],.code gX]) (.pointer (some ⟨j.heap.size,0,none⟩))=FQ cD (T.setIfInBounds 9 (.pointer (some ⟨w.heap.size,0,none⟩))) [.inRegion oJ [],.code gX]:=by
   simp only[Frame.finish,u,qH,k]
  rw[H];refine .step rfl λB ⟨d3,e3⟩=>⟨Gl (FQ cD (T.setIfInBounds 9 (.pointer (some ⟨w.heap.size,0,none⟩))) [.code gX]::xs) [],B,#[],λ_=>False,by simp[Gl,stepG,stepG.exec],⟨rfl,am _⟩,.stop λO ⟨d4,e4⟩=>⟨rfl, ?_, ?_⟩⟩
  .rw[e4,e3,e2,e1];rfl
  .rw[e4,e3,e2,e1];rfl
 obtain⟨N,b,a,c,d,e,s,P,I,G,L,⟨rfl,E,A⟩,r,n,p⟩:=aas (sl:=sl) (agA (aV:=aV) (B0:=w.heap.size)) C F ⟨x,x.seen⟩ K;exact⟨N,b,c,d,e,s,_,I,G,L,r,n,p,by simp,by rw[aH (bd (by decide) v),dj rfl],λt D=>by rw[aH (bd (by decide) v),bv D],E,A⟩
end
def lM{N : Nat}{m m':Machine}{a : Trace}{r:Stepped×Trace}(h:runNT P N m t=(.next m',a))(b:runNT P Y m' a=r):runNT P (N+Y) m t=r:=by
 rw[runNT_add,h];exact b
section
variable {X:Mx} {R:aq} {T:Array Value} {w:World} {xs bs:List Frame}
structure Mx.Pre (X:Mx) (T:Array Value):Prop where
 z:T.size=X.Z
 zz:45<=X.Z
 s2:T.getD 2 undef=.slice X.A2 X.n2 X.c2
 s3:T.getD 3 undef=.pointer (some ⟨X.bk,0,none⟩)
 s4:T.getD 4 undef=.pointer (some ⟨X.bp,0,none⟩)
 s8:T.getD 8 undef=.pointer (some ⟨X.ba,0,none⟩)
 s9:T.getD 9 undef=.pointer (some ⟨X.Wg,0,none⟩)
 sv:∀t,anv t=true->T.getD t undef=X.sv t
def ak4(a:X.Pre T):bK prog true (X.Rl R) (pX R) (λS g _=>(S=λ_=>False)/\∃c,X.Sl c 0/\g=Gl (FQ cD c (.code jD::kB)::xs) bs) (λ_=>False) (Gl (FQ cD T [.code gX]::xs) bs) w:=by
 have H:=X.np R;unfold gX;refine eI H.cmp (eI H.cmp (gz H.cmp (l:=[0,1,2]) rfl λq o=>aws H a.zz a.z a.s2 λc k b e d f=>afM H.cmp (aoy H.cmp λm n=>.stop λp j=>⟨rfl,c, ?_,rfl⟩))) w (H.fZ _ _);refine⟨k,a.zz,(b 3 (by decide) (by decide) (by decide)).trans a.s3,(b 4 (by decide) (by decide) (by decide)).trans a.s4,(b 8 (by decide) (by decide) (by decide)).trans a.s8,(b 9 (by decide) (by decide) (by decide)).trans a.s9,e,d,f,λt i=>(b t ?_ ?_ ?_).trans (a.sv t i)⟩<;>(rintro rfl;cases i)
end
def agB(h:∀op∈t,op.act.low a.block):NoRelease a t:=λi d=>by
 unfold Trace.act? at d;obtain⟨op,e,b⟩:=iS.1 d;have c:=h op (qB e);rw[b] at c;exact Nat.lt_irrefl _ c
section
variable {X:Mx} {R:aq} {gs:Array Goroutine} {w:World} {sl:Option (Nat×Nat)} {t:Trace} {q:Nat->Nat} {aV:aq} {T:Array Value} {xs:List Frame}
def aEg (D:X.Ok) (hF:eM Z) (K:∀a4 nm,Z a4 [] nm=(⟨#[]⟩,false)) (h0:gs[0]?=some (Gl (FQ cD T [.code gX]::xs) [])) (hs:X.Pre T)
  (hL:Leavers prog t gs q) (hP:eW aV (gs.size-1) w.heap.size t) (C:∀op∈t,op.act.low X.Wg) (fA:WgAt eN.tWg X.Wg w 0 0) (Y:PayAt X.C (2*X.n2) w) (j:X.At R w) (u:∀b,aV b->¬R b/\b≠X.C/\b<w.heap.size) :
  ∃(N:Nat) (n:Array Goroutine) (m:World) (an:Option (Nat×Nat)) (H:Trace) (q':Nat->Nat) (T':Array Value) (R':aq),runNT prog N (crowd gs w sl) t=(.next (crowd n m an),H)/\
   n[0]?=some (Gl (FQ cD T' [.code cT]::xs) [])/\Leavers prog H n q'/\eW (λb=>b=X.Wg\/aV b) (n.size-1) m.heap.size H/\X.Sl T' X.n2/\X.At R' m/\PayAt X.C (2*X.n2) m/\
   (∀f nm,X.dI[f]?=some nm->Has X.C (2*f) (.string (Z X.key X.l nm).1) m/\Has X.C (2*f+1) (.bool (Z X.key X.l nm).2) m)/\(∀b,b=X.Wg\/aV b->b<m.heap.size):=by
 have iu:0<gs.size:=(dq.1 h0).1
 let val:Nat->Value:=λi=>if i % 2=0 then .string (Z X.key X.l (X.dI.getD (i / 2) 0)).1 else .bool (Z X.key X.l (X.dI.getD (i / 2) 0)).2
 have o:∀f nm,X.dI[f]?=some nm->val (2*f)=.string (Z X.key X.l nm).1/\val (2*f+1)=.bool (Z X.key X.l nm).2:=λf nm h=>by
  have e1:2*f % 2=0:=by omega
  have L:(2*f+1) % 2≠0:=by omega
  have e3:2*f / 2=f:=by omega
  have e4:(2*f+1) / 2=f:=by omega
  have e5:X.dI.getD f 0=nm:=by rw[sQ,h];rfl
  exact⟨by simp only[val,e1,e3,e5,pr],by simp only[val,bv L,e4,e5]⟩
 have hi:X.Inv R (λ_=>False) w:=⟨λb h=>h.elim,j,⟨_,_,fA⟩,λb _ h=>h⟩;have Q:tM prog eN.tWg X.Wg X.C X.n2 val (adU X xs []) X.n2 R (Gl (FQ cD T [.code gX]::xs) []) w:=
  af8 (bK.weak (λ_ _ _ h=>h) (λ_ _ _ _ _ h=>h) (λS g w h=>by
   obtain⟨⟨rfl,s,r,rfl⟩,v⟩:=h;exact⟨rfl,adV D hF K o X.n2 0 R s w (by omega) v.at_ v.live r⟩) (Mx.lift (ak4 hs) hi))
 have O:Sets X.Wg X.C aV w R (λ_=>False) (λ_ _=>False) (λ_ _=>False):=
  ⟨j.rlt,λb h=>h.elim,λ_ b h=>h.elim,λ_ b h=>h.elim,λb _ h=>h,λ_ b h=>h.elim,λ_ b h=>h.elim,λ_ _ b h=>h.elim,j.ltW,j.ltC,D.cW,j.rW,λh=>h,λ_ h=>h,j.rC,λh=>h,λ_ h=>h,λb h=>(u b h).1,λ_ _ h=>h,λ_ _ _ h=>h,λh=>(u _ h).2.1 rfl,λb h=>(u b h).2.2⟩
 have ax:=D.n2m;obtain⟨N,m',t1,P,W,B,aa,a,q1,y,S1,rfl,U,ao,⟨s,r,a6⟩,a1,J,F,V, -,af⟩:=
  akf (sl:=sl) (K0:=gs.size-1) (Fin:=aB9 X xs []) (by omega) (λR S g w ⟨_,T,_,T2,e,_⟩=>by rw[e];rfl) (λR S g w h=>awA h) h0 (by omega) hL hP Q fA Y
   (λi x hx a U e=>ahg (S:=λb=>b=X.Wg) C hx (λb I=>mu I.symm) (by rw[U];exact e)) (agB C) O
 have hG:bK prog true RlB (λS S' w m es=>m=w/\es=#[]/\S'=S) (λ_ g w=>(g=Gl (FQ cD s [.code cT]::xs) []/\X.At y w)) (λ_=>False) a B:=by
  refine bK.bind (λ_ w=>atRel_refl w) (λ_ a b c h k=>atRel_trans a b c h k) (bK.acp (R:=RM eN.tWg X.Wg X.C X.n2 y S1) (Stop:=λS g w=>S=(λ_=>False)/\(g=Gl (FQ cD s (.inRegion kg []::[.code cT])::xs) []/\WgLive eN.tWg X.Wg w)/\X.At y w) (λw B ⟨d,e⟩=>e▸jV.at _ _ _ _ _) (λw m es h=>⟨h.1,h.2,rfl⟩) (λg w h=>⟨rfl,h⟩) a6) ?_;rintro S g w ⟨rfl,⟨rfl, -⟩,j⟩;exact .step rfl λE ⟨d2,L⟩=>⟨Gl (FQ cD s [.code cT]::xs) [],E,#[],λ_=>False,by simp[Gl,stepG,stepG.exec],⟨rfl,rfl,rfl⟩,.stop λw3 ⟨d3,e3⟩=>⟨rfl,by rw[e3,L];exact j.move (λ_ _=>rfl) (am _) rfl⟩⟩
 have ad:=bK.inv (Gr2:=GrB λb=>b=X.Wg\/aV b) (Inv:=λ_ w=>w.heap=B.heap) (ahx:=λS g w=>(g=Gl (FQ cD s [.code cT]::xs) []/\X.At y w)/\w.heap=B.heap) (λ_ _ _ h ⟨d,e⟩=>by rw[e];exact h) (λ_ _ _ _ _ h g=>by
  obtain⟨rfl,rfl,rfl⟩:=g;exact⟨⟨am _,λe h=>by simp at h⟩,h⟩) (λ_ _ _ h k=>⟨h,k⟩) hG rfl
 have M:W.size-1=gs.size-1+X.n2:=by omega
 obtain⟨N2,a5,a2,E,a8,t2,q2,S2,G,a9,a7,⟨⟨rfl,a0⟩,p⟩,al,a3⟩:=aas (sl:=aa) (abn (aV:=λb=>b=X.Wg\/aV b)) U a1 (by rw[M];exact J) ad;refine⟨N+N2,a5,E,a8,t2,q2,s,y, ?_,a7,al,by rw[a9];exact a3,r,a0, ?_,λf nm z=> ?_,λb I=> ?_⟩
 .exact lM P G
 .obtain⟨cs,h1,h2⟩:=F;exact⟨cs,by rw[p];exact h1,h2⟩
 .obtain⟨v0,v1⟩:=o f nm z;have ie:f<X.n2:=by rw[<-D.nn];exact(li.1 z).1
  obtain⟨g0,g1⟩:=V f ie;rw[v0] at g0;rw[v1] at g1;have l:∀A,E.cell? A=B.cell? A:=λA=>gK (by rw[p]);exact⟨(l _).trans g0,(l _).trans g1⟩
 .rw[p];exact(af b (I.elim .inr .inl)).2.2.2
end
def JW(t:Nat):Bool:=t ==3||t ==4||t ==5||t ==9||t ==10||t ==11||t ==13||t ==15||t ==16||(decide (18<=t)&&decide (t<=28))
def awB:kH JW cT=true:=by kernel_rfl
def aCc:kH JW (f198.body.getD .skip)=false:=by kernel_rfl
def aCd:kH JW (f67.body.getD .skip)=false:=by kernel_rfl
def azG :Frame.enter prog cD X .normal=FQ cD (T0F X) [.code acJ]:=by
 have a:prog.funcs[cD]?=some f67:=func67;unfold Frame.enter;rw[a];rfl
def anB{t : Array Value}(_:X.size=t.size)(h:∀i,JW i=false->X[i]?=t[i]?):results f67 X=results f67 t:=by
 have e:∀i,JW i=false->X.getD i undef=t.getD i undef:=λi c=>by rw[ip,ip,h i c]
 have a:=e 6 rfl;have b:=e 7 rfl;simp only[ip] at a b;simp[results,results67,a,b]
section
variable {gs:Array Goroutine} {w:World} {sl:Option (Nat×Nat)} {t:Trace} {q:Nat->Nat} {aV:aq}
def atX (hF:eM Z) (af:∀v nm,Z v [] nm=(⟨#[]⟩,false)) {R:List Frame->World->Prop} {c:Cfg} {ρ:Ren} {a O:Array Value} {m m':List Frame}
  (bw:dm ρ a O) (Y:iJ (ai true) ρ m m') (hc:c.l=Frame.enter (ai true) cD a .normal::m) (hw:WR ρ c.w w) (hg:GlR ρ) (hW:ku (ai true) R c)
  (h0:gs[0]?=some (Gl (Frame.enter prog cD O .normal::m') [])) (hL:Leavers prog t gs q) (hP:eW aV (gs.size-1) w.heap.size t) (a0:∀b,aV b->b<w.heap.size) (bT:∀b f,ρ.r b f->¬aV f) :
  ∃(N:Nat) (B:Array Goroutine) (D:World) (c5:Option (Nat×Nat)) (t':Trace) (q':Nat->Nat) (Wg:Nat) (J:Cfg) (x:Ren) (l1 lR:List Frame),runNT prog N (crowd gs w sl) t=(.next (crowd B D c5),t')/\
   B[0]?=some (Gl lR [])/\Leavers prog t' B q'/\eW (λb=>b=Wg\/aV b) (B.size-1) D.heap.size t'/\w.heap.size<=Wg/\(∀b,b=Wg\/aV b->b<D.heap.size)/\
   iG (ai true) J c/\ρ.Le x/\iJ (ai true) x J.l l1/\WR x J.w D/\ku (ai true) R J/\(∀b f,x.r b f->ρ.r b f\/(w.heap.size<=f/\f≠Wg))/\Rt prog JW l1 lR/\(∀b,b<w.heap.size->¬aV b->D.heap[b]?=w.heap[b]?)/\D.ou=w.ou/\w.heap.size<=D.heap.size/\PkG ρ c.w w J.w D:=by
 obtain⟨v,A,n,cc,l,A2,n2,c2,dI,J,e,bn,bo,a1,a6⟩:=aqx hF bw Y hc hw hg hW;have U:45<=(T0F O).size:=by simp only[T0F,rZ,sW];omega
 rw[azG] at h0
 let V:aq:=λb=>b<w.heap.size/\¬aV b
 obtain⟨N1,c6,o,bc,t1,q1,T,bk,S,C,P,cs,ao,b2,a8,b6,a3,W,p,⟨u3,u4,u6,u7,u8,bt⟩,⟨bI,a4,bz⟩,⟨lk,lp,lC,la⟩,ck,cp,b7,cC,ca⟩:=aEe (sl:=sl) (V:=V) h0 U e.n2m e.s0 e.s1 e.s2 hL hP a0 λb d=>d;rw[<-b2] at a3;obtain⟨N2,c7,w2,c1,t2,q2,T',aa,ba,c3,bi,a5,bZ,ay,u9,br,L,kO⟩:=aEf (sl:=bc) a8 (by rw[W];exact U) b6 a3;rw[<-ba] at a5;have c0:=jE cC;have aK:=jE ca;have s:∀b,b<o.heap.size->w2.heap[b]?=o.heap[b]?:=λb d=>by rw[L,qD,bv (by omega)]
 have c8:w2.heap.size=o.heap.size+1:=by rw[L,Array.size_push]
 let X:Mx:=⟨w,o.heap.size,C,n2,λb=>∃a,ρ.r a b,v,A,n,cc,l,A2,c2,dI,bk,S,P,λt=>T'.getD t undef,T'.size,V⟩
 have I:∀b,(∃a,ρ.r a b)->V b:=λb ⟨a,hab⟩=>⟨(hw.lt hab).2,bT a b hab⟩;have ok:X.Ok:=⟨hw.kW.2,λg bj=>⟨g,hg g bj⟩,e.k1,e.k2,e.ln,e.nc,e.cm,e.gl,e.rd,e.rg,e.al,e.al2,e.nm,e.nn,e.n2m,(by show C≠o.heap.size;omega),I⟩
 let R0:aq:=λb=>V b\/b=bk\/b=S\/b=P
 have bO:X.At R0 w2:=by
  refine⟨λb d=>(s b (bd d.1 a4)).trans (bI b d), ?_,kO.trans bz,λb d=>.inl d,⟨.inr (.inl rfl),(s bk (by omega)).trans ck⟩,⟨.inr (.inr (.inl rfl)),(s S (by omega)).trans cp⟩,⟨.inr (.inr (.inr rfl)),(s P aK).trans ca⟩,λb d=> ?_,λd=> ?_,λd=> ?_, ?_, ?_⟩
  .show w.heap.size<=w2.heap.size;omega
  .rcases d with d|rfl|rfl|rfl
   .have:=d.1;omega
   all_goals omega
  .rcases d with d|d|d|d
   .have:C<w.heap.size:=d.1;omega
   .have:C=bk:=d;omega
   .have:C=S:=d;omega
   .have:C=P:=d;omega
  .rcases d with d|d|d|d
   .have:o.heap.size<w.heap.size:=d.1;omega
   .have:o.heap.size=bk:=d;omega
   .have:o.heap.size=S:=d;omega
   .have:o.heap.size=P:=d;omega
  .show C<_;omega
  .show o.heap.size<_;omega
 have r:∀t,t≠9->T'.getD t undef=T.getD t undef:=br;have bL:X.Pre T':=⟨rfl,by show 45<=T'.size;omega,(r 2 (by decide)).trans ((p 2 (.inl (by decide))).trans e.s2),(r 3 (by decide)).trans u3,(r 4 (by decide)).trans u4,(r 8 (by decide)).trans u8,u9,λt ht=>rfl⟩;obtain⟨N3,b8,w3,ad,t3,q3,G,R3,bb,b0,an,bq,F,k,⟨M,K,b4⟩,Q,a9⟩:=aEg (X:=X) (sl:=c1) ok hF af c3 bL bi a5 bZ
  (by show w2.heap[o.heap.size]?=_;rw[L,qS]) ⟨cs,(s C c0).trans cC,b7⟩ bO λb d=>by
   have c9:=a0 b d;refine⟨λh=> ?_,(by show b≠C;omega),by omega⟩;rcases h with h|h|h|h
   .exact h.2 d
   all_goals omega
 have a7:w.heap.size<=w3.heap.size:=k.sz;have c4:∀E nm,dI[E]?=some nm->M[2*E]?=some (.string (Z v l nm).1)/\M[2*E+1]?=some (.bool (Z v l nm).2):=λE nm h=>
  ⟨akM (A:=⟨C,2*E,none⟩) (z:=(0,0)) (t:=171) K (Q E nm h).1,akM (A:=⟨C,2*E+1,none⟩) (z:=(0,0)) (t:=171) K (Q E nm h).2⟩
 obtain⟨b5,T2,bf,aG,bp,b3,ax,H,t6,t7,t8,b1,bx⟩:=a6 w3 C P M (λb f d=>k.keep f (I f ⟨b,d⟩)) k.os a7 (by omega) (by omega) (by omega) K b4 c4 k.ra.2;obtain⟨_,_,y,ys,e1,aQ⟩:=Y.ne';have bl:G.size=(T0F O).size:=F.z.trans (ay.trans W);have bS:∀i,i<(T0F O).size->G.getD i undef=T2.getD i undef->G[i]?=T2[i]?:=λi hi h=>by
  rw[vu (by omega),vu (by omega),h]
 refine⟨N1+(N2+N3),b8,w3,ad,t3,q3,o.heap.size,J,b5,FQ cD T2 [.code cT]::m',FQ cD G [.code cT]::m',lM ao (lM aa bb),b0,an,bq,a4,a9,bn,bf,aG,bp,bo,λb f d=> ?_, ?_,λb d hn=>k.keep b ⟨d,hn⟩,k.os,a7,λb f d a2=>⟨(a1 b f d a2).1,λi u hu bE=>⟨(a1 b f d a2).2 i u hu bE,jf (k.keep f (I f ⟨b,d⟩))⟩⟩⟩
 .rcases b3 b f d with h|rfl|rfl
  .exact .inl h
  .exact .inr ⟨by omega,by omega⟩
  .exact .inr ⟨by omega,by omega⟩
 .refine .inr ⟨FQ cD T2 [.code cT],FQ cD G [.code cT],m',rfl,rfl,by rw[aQ];simp,⟨rfl,rfl,⟨rfl,rfl⟩,rfl,⟨rfl,rfl⟩,⟨rfl,rfl⟩,bl.trans ax.symm,λi hi=> ?_, ?_⟩,_,func67,λt t' hz h=>anB hz h⟩
  .refine(pm i (T0F O).size).elim (λaP=> ?_) λoM=> ?_
   case refine_2=> 
    show G[i]?=T2[i]?;rw[qg (by omega),qg (by omega)]
   have al:i=0\/i=1\/i=2\/i=6\/i=7\/i=8\/i=17\/aaQ i=true:=by
    simp only[JW,wd,du,vT,decide_eq_false_iff_not] at hi;simp only[aaQ,qQ,mt,qJ];omega
   refine bS i aP ?_;have j:∀t,anv t=true->G.getD t undef=T'.getD t undef:=F.sv;rcases al with rfl|rfl|rfl|rfl|rfl|rfl|rfl|hid
   .rw[j 0 rfl,r 0 (by decide),p 0 (.inl (by decide)),H 0 (by decide)]
   .rw[j 1 rfl,r 1 (by decide),p 1 (.inl (by decide)),H 1 (by decide)]
   .rw[j 2 rfl,r 2 (by decide),p 2 (.inl (by decide)),H 2 (by decide)]
   .rw[j 6 rfl,r 6 (by decide),u6,t6]
   .rw[j 7 rfl,r 7 (by decide),u7,t7]
   .rw[F.s8,t8]
   .rw[j 17 rfl,r 17 (by decide),bt,b1]
   .have b9:anv i=true:=by simp only[anv,hid,Bool.or_true]
    rw[j i b9,r i (by rintro rfl;cases hid),p i (.inr hid),bx i hid]
  .simp only[qx,vA,uv,mv];exact awB
end
structure aoQ (R:List Frame->World->Prop) (W:World) (S0:aq) (aV:aq) (ρ:Ren) (c:Cfg) (w:World):Prop where
 lax:ρ.lax=false
 wr:WR ρ c.w w
 gl:GlR ρ
 will:ku (ai true) R c
 rng:∀b b',ρ.r b b'->S0 b'\/(W.heap.size<=b'/\¬aV b')
 sh:∀b,aV b->W.heap.size<=b/\b<w.heap.size
 s0:∀b,S0 b->b<W.heap.size
 keep:∀b,b<W.heap.size->¬S0 b->w.heap[b]?=W.heap[b]?
 os:w.ou=W.ou
 sz:W.heap.size<=w.heap.size
structure anD (W:World) (S0 aV S:aq) (w:World):Prop where
 s:∀b,S b->S0 b\/(W.heap.size<=b/\¬aV b)
 sh:∀b,aV b->b<w.heap.size
 keep:∀b,b<W.heap.size->¬S0 b->w.heap[b]?=W.heap[b]?
 os:w.ou=W.ou
 sz:W.heap.size<=w.heap.size
section
variable {W:World} {S0 aV S S':aq} {w w':World} {es:Array Event}
def anD.rely(h:anD W S0 aV S w)(a:RlB S w w'):anD W S0 aV S w':=by
 obtain⟨d,rfl⟩:=a;exact⟨h.s,h.sh,h.keep,h.os,h.sz⟩
def anD.step(f:∀b,S0 b->b<W.heap.size)(i:∀b,aV b->W.heap.size<=b)(h:anD W S0 aV S w)(g:pX (λ_=>False) S S' w w' es):GrB aV S S' w w' es/\anD W S0 aV S' w':=by
 have k:anA aV S w:=⟨λb a c=>(h.s b a).elim (λx=>by have:=f b x;have:=i b c;omega) λx=>x.2 c,h.sh⟩;obtain⟨m,e⟩:=atW (λ_ h=>h.elim) k g;obtain⟨j,l,n,rfl,o⟩:=g;refine⟨m,λb a=> ?_,e.2,λb a d=> ?_,n.trans h.os,db h.sz l⟩
 .rcases a with a|a
  .exact h.s b a
  .exact .inr ⟨db h.sz a.1,λc=>by have:=h.sh b c;omega⟩
 .rw[j b (bd a h.sz) λc=> ?_]
  .exact h.keep b a d
  .rcases h.s b c with x|x
   .exact d x
   .omega
end
theorem atY{fv:Int->List ig->Int->ByteArray×Bool}(hF:eM fv)(hF0:∀key nm,fv key [] nm=(⟨#[]⟩,false)){R:List Frame->World->Prop}{W:World}{S0:aq}{c:Cfg}(amI:Acc (iG (ai true)) c) :
  ∀{ρ:Ren} {aV:aq} {l' lR:List Frame} {w:World} {gs:Array Goroutine} {sl:Option (Nat×Nat)} {t:Trace} {q:Nat->Nat},aoQ R W S0 aV ρ c w->iJ (ai true) ρ c.l l'->Rt prog JW l' lR->gs[0]?=some (Gl lR [])->Leavers prog t gs q->eW aV (gs.size-1) w.heap.size t->
   ∃(N:Nat) (gs':Array Goroutine) (w':World) (sl':Option (Nat×Nat)) (t':Trace) (q':Nat->Nat) (aCh:aq) (c1:Cfg) (ρ1:Ren) (l1:List Frame),runNT prog N (crowd gs w sl) t=(.next (crowd gs' w' sl'),t')/\
    gs'[0]?=some (Gl l1 [])/\Leavers prog t' gs' q'/\eW aCh (gs'.size-1) w'.heap.size t'/\aoQ R W S0 aCh ρ1 c1 w'/\pD c1.l/\iJ (ai true) ρ1 c1.l l1/\ρ.Le ρ1/\PkG ρ c.w w c1.w w':=by
 induction amI with
 |intro c _ ih=>
  intro ρ aV l' lR w gs sl t q h hst hR h0 hL hP;have amI:Acc (iG (ai true)) c:=h.will.acc.transGen;have Hb:=anz (λ_=>False);have azu:akh (ai true) R (λ_=>False) (λb=>S0 b\/(W.heap.size<=b/\¬aV b)) ρ c l' w:=⟨hst,h.wr,h.gl,h.will,λb b' hb=>.inl (h.rng b b' hb)⟩;have atz:=akj (mb true) (awZ true) Hb.fZ Hb.tr Hb.rl Hb.cmp.gr (axB aCc aCd) (ahh Hb.cmp) (main:=true) (base:=[]) amI azu hR;have hG:=bK.inv (Gr2:=GrB aV) (Inv:=anD W S0 aV) (λ_ _ _ a b=>a.rely b) (λ_ _ _ _ _ a b=>a.step h.s0 (λb hb=>(h.sh b hb).1) b) (λ_ _ _ a b=>And.intro a b) atz ⟨λb hb=>hb,λb hb=>(h.sh b hb).2,h.keep,h.os,h.sz⟩;obtain⟨N,gs1,a1,w1,sl1,t1,q1,S1,hr1,hz1,ha1,⟨⟨c1,ρ1,l1,hor,hle, -,rfl,bq,hg1,hW1,pR,awC,hend⟩,mL⟩,hL1,hP1⟩:=aas (sl:=sl) abn h0 hL hP hG;rw[<-hz1] at hP1;have aii:∀b b',ρ1.r b b'->S0 b'\/(W.heap.size<=b'/\¬aV b'):=λb b' hb=>(pR b b' hb).elim (mL.s b') λx=>x.1.elim;have aCi:ρ1.lax=false:=hle.lax.symm.trans h.lax;rcases hend with⟨hf,aqP⟩|⟨a,a',m,m',hva,aEp,hc1,hl1⟩
  .exact⟨N,gs1,w1,sl1,t1,q1,aV,c1,ρ1,l1,hr1,ha1,hL1,hP1,⟨aCi,bq,hg1,hW1,aii,λb hb=>⟨(h.sh b hb).1,mL.sh b hb⟩,h.s0,mL.keep,mL.os,mL.sz⟩,hf,aqP,hle,awC⟩
  .rw[hl1] at ha1;have hns:∀b b',ρ1.r b b'->¬aV b':=λb b' hb hs=>(aii b b' hb).elim (λx=>by have:=h.s0 _ x;have:=(h.sh _ hs).1;omega) λx=>x.2 hs;obtain⟨N2,gs2,w2,sl2,t2,q2,Wg,c2,ρ2,l2,lR2,hr2,ha2,hL2,hP2,hWg,aEq,axI,agd,aff,hw2,hW2,aCj,hR2,hk2,kO,hz2,ar0⟩:=atX (sl:=sl1) hF hF0 hva aEp hc1 bq hg1 hW1 ha1 hL1 hP1 mL.sh hns;have asQ:iG (ai true) c2 c:=by
    rcases hor with e|e
    .rw[<-e];exact axI
    .exact tf axI e
   have hS2:aoQ R W S0 (λb=>b=Wg\/aV b) ρ2 c2 w2:=by
    refine⟨agd.lax.symm.trans aCi,hw2,hg1.mono agd,hW2,λb b' hb=> ?_,λb hb=>⟨?_,aEq b hb⟩,h.s0,λb hb hn=> ?_,kO.trans mL.os,db mL.sz hz2⟩
    .rcases aCj b b' hb with hb|⟨h1,h2⟩
     .rcases aii b b' hb with x|⟨x,y⟩
      .exact .inl x
      .refine .inr ⟨x,λe=>e.elim (λe=> ?_) y⟩;have:=(bq.lt hb).2;omega
     .exact .inr ⟨db mL.sz h1,λe=>e.elim h2 λhs=>by have:=mL.sh _ hs;omega⟩
    .rcases hb with rfl|hb
     .exact db mL.sz hWg
     .exact(h.sh b hb).1
    .rw[hk2 b (bd hb mL.sz) λhs=>by have:=(h.sh b hs).1;omega];exact mL.keep b hb hn
   obtain⟨N3,gs3,w3,sl3,t3,q3,aEr,c3,ρ3,l3,hr3,ha3,hL3,hP3,hS3,hf3,amg,aEs,aEt⟩:=ih c2 asQ hS2 aff hR2 ha2 hL2 hP2;exact⟨N+(N2+N3),gs3,w3,sl3,t3,q3,aEr,c3,ρ3,l3,lM hr1 (lM hr2 hr3),ha3,hL3,hP3,hS3,hf3,amg,(hle.trans agd).trans aEs,awC.trans hle (ar0.trans agd aEt)⟩
end
section
open Go.Conc Go.ConcN Go.RowKit
open Go.ConcR (DC0)
mutual
inductive nA (V:Nat->Prop):Value->Prop
 |bool (b:Bool):nA V (.bool b)
 |int (k:IntKind) (n:Int):nA V (.int k n)
 |string (s:ByteArray):nA V (.string s)
 |nilPtr:nA V (.pointer none)
 |pointer {a:Addr} (h:V a.block):nA V (.pointer (some a))
 |aaa (l c:Nat):nA V (.slice none l c)
 |slice {a:Addr} (h:V a.block) (l c:Nat):nA V (.slice (some a) l c)
 |nilFunc:nA V .nilFunc
 |iface (t:TypeId) {v:Value} (h:nA V v):nA V (.iface t v)
 |nilIface:nA V .nilIface
 |agg {c:Array Value} (h:nt V c.toList):nA V (.agg c)
inductive nt (V:Nat->Prop):List Value->Prop
 |nil:nt V []
 |cons {v:Value} {l:List Value} (h:nA V v) (hl:nt V l):nt V (v::l)
end
mutual
def nA.mono{V U:Nat->Prop}(h:∀b,V b->U b):∀{v:Value},nA V v->nA U v
 |_,.bool b=>.bool b
 |_,.int k n=>.int k n
 |_,.string s=>.string s
 |_,.nilPtr=>.nilPtr
 |_,.pointer h'=>.pointer (h _ h')
 |_,.aaa l c=>.aaa l c
 |_,.slice h' l c=>.slice (h _ h') l c
 |_,.nilFunc=>.nilFunc
 |_,.iface t h'=>.iface t (nA.mono h h')
 |_,.nilIface=>.nilIface
 |_,.agg h'=>.agg (nt.mono h h')
def nt.mono{V U:Nat->Prop}(h:∀b,V b->U b):∀{l:List Value},nt V l->nt U l
 |_,.nil=>.nil
 |_,.cons h1 h2=>.cons (nA.mono h h1) (nt.mono h h2)
end
section
variable {V:Nat->Prop} {ρ:Ren} (hV:∀b,V b->ρ.r b b)
include hV
theorem aoR(h:V a.block):AR ρ a a:=by
 obtain⟨b,o,s⟩:=a;exact .mk (hV _ h) o s
theorem axJ{b : Addr}(h:V a.block)(k:AR ρ a b):b=a:=by
 cases k with
 |mk c o s=>rw[ρ.fn c (hV _ h)]
mutual
theorem nA.self:∀{v:Value},nA V v->VR ρ v v
 |_,.bool b=>.bool b
 |_,.int k n=>.int k n
 |_,.string s=>.string s
 |_,.nilPtr=>.pointer .none
 |_,.pointer h=>.pointer (.some (aoR hV h))
 |_,.aaa l c=>.slice .none l c
 |_,.slice h l c=>.slice (.some (aoR hV h)) l c
 |_,.nilFunc=>.nilFunc
 |_,.iface t h=>.iface t (nA.self h)
 |_,.nilIface=>.nilIface
 |_,.agg h=>.agg (nt.self h)
theorem nt.self:∀{l:List Value},nt V l->bU ρ l l
 |_,.nil=>.nil
 |_,.cons h1 h2=>.cons (nA.self h1) (nt.self h2)
end
mutual
def nA.fn:∀{v d:Value},nA V v->VR ρ v d->d=v
 |_,_,.bool b,k=>by cases k;rfl
 |_,_,.int _ n,k=>by cases k;rfl
 |_,_,.string s,k=>by cases k;rfl
 |_,_,.nilPtr,k=>by
  cases k with
  |pointer h=>cases h;rfl
 |_,_,.pointer h,k=>by
  cases k with
  |pointer a=>cases a with
   |some a=>rw[axJ hV h a]
 |_,_,.aaa l c,k=>by
  cases k with
  |slice h=>cases h;rfl
 |_,_,.slice h l c,k=>by
  cases k with
  |slice a=>cases a with
   |some a=>rw[axJ hV h a]
 |_,_,.nilFunc,k=>by cases k;rfl
 |_,_,.iface t h,k=>by
  cases k with
  |iface _ a=>rw[nA.fn h a]
 |_,_,.nilIface,k=>by cases k;rfl
 |_,_,.agg (c:=c) h,k=>by
  cases k with
  |@agg _ f a=>
   have e:=nt.fn h a;rw[uB.1 e]
def nt.fn:∀{l a:List Value},nt V l->bU ρ l a->a=l
 |_,_,.nil,k=>by cases k;rfl
 |_,_,.cons h1 h2,k=>by
  cases k with
  |cons b c=>rw[nA.fn h1 b,nt.fn h2 c]
end
end
def eW.past{B : Nat}(h:eW aV Y B t):Past (ShL aV) B t:=by
 refine⟨h.clean,λi a j _=> ?_,h.over,h.hears,h.seen⟩;obtain⟨op,c,b⟩:=touch_of j;by_cases d:ShL aV a.loc
 .obtain⟨k,f⟩:=h.quiet i op a c b d;cases e:a.kind with
  |plain=>exact absurd e k
  |atomic=>exact .inr ⟨d,rfl⟩
  |said=>
   have g:=f e;have:=knows_own (t:=t) c;rw[g] at this;exact .inl this
 .exact .inl (h.known i op a c b d)
def aiW(W:World)(v:Value)(w':World):Prop:=v=.bool true/\Below W.heap.size W {w' with tape:=W.tape}
structure aiX (W:World) (S0:aq) (P:Nat->Nat->Prop) (WL:World):Prop where
 size:WL.heap.size=W.heap.size
 out:∀b,¬S0 b->WL.heap[b]?=W.heap[b]?
 row:∀b,S0 b->∃(c c':Array Value) (t:TypeId) (z:Nat×Nat),W.heap[b]?=some (.cells c t z)/\WL.heap[b]?=some (.cells c' t z)/\c'.size=c.size/\∀i v,P b i->c[i]?=some v->c'[i]?=some v
theorem aEu{W:World}{S0:aq}{P:Nat->Nat->Prop}(hrow:∀b,S0 b->eJ W b)(hP:∀b i v,S0 b->P b i->W.cell? ⟨b,i,none⟩=some v->nA S0 v)(hN:gN<=W.heap.size) :
  ∃WL,aiX W S0 P WL/\WL.ou=W.ou/\WR (Ren.rows S0 false (fj W)) WL W/\∀b i u v,S0 b->WL.cell? ⟨b,i,none⟩=some u->W.cell? ⟨b,i,none⟩=some v->(u=v/\nA S0 v)\/aev u\/∀(σ:Ren) v',σ.al=akK (fj W)->VR σ u v'->v'=v:=by
 classical
 have hid:∀b,S0 b->(Ren.rows S0 false (fj W)).r b b:=λb hb=>⟨rfl,hb⟩;have row:∀b,S0 b->∃(c:Array Value) (t:TypeId) (z:Nat×Nat) (xs:List Value),W.heap[b]?=some (.cells c t z)/\bU (Ren.rows S0 false (fj W)) xs c.toList/\
   ∀(i:Nat) v,c.toList[i]?=some v->∃u,xs[i]?=some u/\((P b i->u=v)/\((u=v/\nA S0 v)\/aev u\/∀(σ:Ren) v',σ.al=akK (fj W)->VR σ u v'->v'=v)):=λb hb=>by
  obtain⟨c,t,z,hc⟩:=hrow b hb;obtain⟨xs,h1,h2⟩:=anl (ρ:=Ren.rows S0 false (fj W)) (Q:=λi u v=>(P b i->u=v)/\((u=v/\nA S0 v)\/aev u\/∀(σ:Ren) v',σ.al=akK (fj W)->VR σ u v'->v'=v)) c.toList 0 λi v hi=>by
   rw[lm];have hi':c[i]?=some v:=by rw[<-eg];exact hi
   by_cases hp:P b i
   .have kh:=hP b i v hb hp (by unfold World.cell?;rw[hc];exact hi');exact⟨v,nA.self hid kh,λ_=>rfl,.inl ⟨rfl,kh⟩⟩
   .obtain⟨u,h1, -,h3⟩:=azs (ρ:=Ren.rows S0 false (fj W)) rfl v λx hx=>akL (ahw hc hi' hx);exact⟨u,h1,λh=>absurd h hp,.inr h3⟩
  exact⟨c,t,z,xs,hc,h1,λi v hi=>by
   have:=h2 i v hi;simpa only[lm] using this⟩
 let F:∀b,S0 b->Obj:=λb hb=>.cells ⟨(row b hb).choose_spec.choose_spec.choose_spec.choose⟩ (row b hb).choose_spec.choose (row b hb).choose_spec.choose_spec.choose
 have hF:∀b (hb:S0 b),∃(c:Array Value) (t:TypeId) (z:Nat×Nat) (xs:List Value),W.heap[b]?=some (.cells c t z)/\bU (Ren.rows S0 false (fj W)) xs c.toList/\(∀(i:Nat) v,c.toList[i]?=some v->∃u,xs[i]?=some u/\((P b i->u=v)/\((u=v/\nA S0 v)\/aev u\/∀(σ:Ren) v',σ.al=akK (fj W)->VR σ u v'->v'=v)))/\F b hb=.cells ⟨xs⟩ t z:=λb hb=>
  let h:=(row b hb).choose_spec.choose_spec.choose_spec.choose_spec
  ⟨_,_,_,_,h.1,h.2.1,h.2.2,rfl⟩
 obtain⟨heap,hs,h1,h2⟩:=axA W F;have aba:∀b,S0 b->∃(c:Array Value) (t:TypeId) (z:Nat×Nat) (xs:List Value),W.heap[b]?=some (.cells c t z)/\heap[b]?=some (.cells ⟨xs⟩ t z)/\bU (Ren.rows S0 false (fj W)) xs c.toList/\(∀(i:Nat) v,c.toList[i]?=some v->∃u,xs[i]?=some u/\((P b i->u=v)/\((u=v/\nA S0 v)\/aev u\/∀(σ:Ren) v',σ.al=akK (fj W)->VR σ u v'->v'=v))):=λb hb=>by
  obtain⟨c,t,z,xs,k1,k2,k3,k4⟩:=hF b hb;exact⟨c,t,z,xs,k1,(h1 b hb (dq.1 k1).1).trans (gn some k4),k2,k3⟩
 refine⟨{W with heap},⟨hs,h2,λb hb=> ?_⟩,rfl,⟨λ{b b'} hb=> ?_,rfl,by show gN<=heap.size;omega,hN⟩,λb i u v hb hu hv=> ?_⟩
 .obtain⟨c,t,z,xs,k1,k2,k3,k4⟩:=aba b hb;refine⟨c,⟨xs⟩,t,z,k1,k2,by have:=k3.length;simpa using this,λi v hp hv=> ?_⟩;obtain⟨u,q1,q2, -⟩:=k4 i v (by rw[eg];exact hv);have q1':(⟨xs⟩:Array Value)[i]?=some u:=by simpa using q1
  rw[q1',q2 hp]
 .obtain⟨rfl,hb⟩:=hb;obtain⟨c,t,z,xs,k1,k2,k3, -⟩:=aba b hb;exact⟨_,_,k2,k1,.cells k3 t (.inl rfl)⟩
 .obtain⟨c,t,z,xs,k1,k2,k3,k4⟩:=aba b hb;have hu':(⟨xs⟩:Array Value)[i]?=some u:=by
   have:({W with heap}:World).heap[b]?=some (.cells ⟨xs⟩ t z):=k2;unfold World.cell? at hu;rw[this] at hu;exact hu
  have hv':c[i]?=some v:=by
   unfold World.cell? at hv;rw[k1] at hv;exact hv
  obtain⟨u',q1, -,q2⟩:=k4 i v (by rw[eg];exact hv');have:u'=u:=by
   have q1':(⟨xs⟩:Array Value)[i]?=some u':=by simpa using q1
   rw[q1'] at hu';exact ef hu'
  subst this;exact q2
theorem atZ {fv:Int->List ig->Int->ByteArray×Bool} (hF:eM fv) (hF0:∀key nm,fv key [] nm=(⟨#[]⟩,false)) {W:World} {S0:aq} {P:Nat->Nat->Prop} {f:FuncId} {fn:Func} {k:Tmp} {args:Array Value}
  (hrow:∀b,S0 b->eJ W b) (hP:∀b i v,S0 b->P b i->W.cell? ⟨b,i,none⟩=some v->nA S0 v) (hgl:∀g∈gL,S0 g) (hgN:gN<=W.heap.size) (aaH:nt S0 args.toList)
  (hf:gH f=false) (hfn:prog.funcs[f]?=some fn) (hq:(ai true).funcs[f]?=some fn) (hres:fn.results=#[.tmp k]) (hni:prog.inits.idxOf? f=none)
  (jd:∀WL:World,aiX W S0 P WL->∀t:Tape,Calls (ai true) f args (WL.dN t) λe w'=>∃v,e=.returned v/\(v=.bool true/\∀b,b<W.heap.size->w'.heap[b]?=WL.heap[b]?)) :
  ∃N last o w' t',runNT prog (N+1) (solo (G (Frame.enter prog f args .normal) []) W) #[]=(.ended o w',t')/\runN prog N (solo (G (Frame.enter prog f args .normal) []) W)=.next last/\step prog last=.ended o w'/\Go.Conc.Good prog (aiW W) last o w' t':=by
 obtain⟨WL,axK,hou,hwr,aEv⟩:=aEu hrow hP hgN;have hid:∀b,S0 b->(Ren.rows S0 false (fj W)).r b b:=λb hb=>⟨rfl,hb⟩;have hs0:∀b,S0 b->b<W.heap.size:=λb hb=>let⟨_,_,_,h⟩:=hrow b hb;jE h
 have hW:ku (ai true) (λl w'=>∃fr v,l=[fr]/\fr.fn=f/\fr.leaving (ai true) w' (.returned v)/\(v=.bool true/\∀b,b<W.heap.size->w'.heap[b]?=WL.heap[b]?)) ⟨[Frame.enter (ai true) f args .normal],WL,λ_ _=>0⟩:=
  aaJ (Post:=λv w'=>v=.bool true/\∀b,b<W.heap.size->w'.heap[b]?=WL.heap[b]?) λt _=>jd WL axK t
 have hst:iJ (ai true) (Ren.rows S0 false (fj W)) [Frame.enter (ai true) f args .normal] [Frame.enter prog f args .normal]:=.one (ahW (mb true) hf (nt.self hid aaH)) adS;have hS:aoQ _ W S0 (λ_=>False) (Ren.rows S0 false (fj W)) ⟨[Frame.enter (ai true) f args .normal],WL,λ_ _=>0⟩ W:=⟨rfl,hwr,λg hg=>hid g (hgl g hg),hW,λb b' hb=>.inl (hb.1▸hb.2),λ_ h=>h.elim,hs0,λ_ _ _=>rfl,rfl,am _⟩;obtain⟨N1,gs1,w1,sl1,t1,q1,aV,c1,ρ1,l1,hr1,ha1,hL1,hP1,hS1,hf1,aqP,afB,awC⟩:=atY hF hF0 hW.acc.transGen (gs:=#[G (Frame.enter prog f args .normal) []]) (sl:=none) (t:=#[]) (q:=λ_=>0) hS hst (.inl rfl) rfl (leavers_one _ _) (eW.nil _);obtain⟨fr,v,hl,mG,hlv,hv,hb⟩:=hS1.will.fin hf1 acY c1.t λ_ _ _=>rfl;obtain⟨x,xs,y,ys, -,hy⟩:=aqP.ne';have e4:=aqP.lone hl hy;subst e4 hy;rw[hl] at aqP;have aCk:=aqP.head;obtain⟨-, -, -,fn1,avw,hrv⟩:=hlv;rw[mG,hq] at avw;cases avw;have hv1:v=fr.tmps.getD k undef:=by
  have e:(results fn fr.tmps).run (ai true) (c1.w.dN c1.t)=.ok (fr.tmps.getD k undef) (c1.w.dN c1.t):=by simp[results,hres]
  rw[e] at hrv;cases hrv;rfl
 have hy1:y.tmps.getD k undef=.bool true:=by
  rw[hv] at hv1;have hk:fr.tmps[k]?=some (.bool true):=by
   rw[ip] at hv1;cases h:fr.tmps[k]? with
   |none=>rw[h] at hv1;cases hv1
   |some u=>rw[h] at hv1;exact gn some hv1.symm
  obtain⟨u,hu,hr⟩:=bU.get aCk.tmps (i:=k) (v:=.bool true) (by rw[eg];exact hk);rw[eg] at hu;rw[aoI hu];cases hr;rfl
 have aCl:∀w1:World,stepG prog true (Gl [y] []) w1=.ended (.done (.bool true)) w1 (seen prog y.fn #[]):=λw1=>by
  have hr:(results fn y.tmps).runT prog w1 #[]=(.ok (.bool true) w1,#[]):=by
   have e:(results fn y.tmps).runT prog w1 #[]=(.ok (y.tmps.getD k undef) w1,#[]):=by simp[results,hres]
   rw[e,hy1]
  obtain⟨g0,hg0,gm,gd,gk⟩:=hf1;rw[hl] at hg0;cases hg0;obtain⟨f',tm',fR,d',md',kd',r'⟩:=y;obtain⟨f0,tm0,aEF,d0,md0,kd0,r0⟩:=fr;obtain⟨h1,h2,h3,h4,h5,h6,h7⟩:=aCk;dsimp only at h1 h2 h3 h4 h5 h6 h7 gm gd gk mG hr;subst h1 gm gd gk mG;obtain rfl:md'=.returning:=by
   rcases h5 with h5|h5
   .cases h5.1
   .exact h5.2
  obtain⟨-,rfl⟩:=h6;obtain rfl:d'=[]:=by cases h4;rfl
  have e:doReturn prog true ⟨f0,tm',fR,[],.returning,.normal,r'⟩ [] none (.bool true) w1=.ended (.done (.bool true)) w1:=by
   unfold doReturn;dsimp only;rw[hni];rfl
  simp only[Gl,stepG,unwind,hfn,hr,ry,e];simp[GStep.after]
 have hblk:∀b,b<W.heap.size->w1.heap[b]?=W.heap[b]?:=λb hbl=>by
  by_cases h0:S0 b
  .have hr0:=hid b h0;have hr:=afB.r hr0;obtain⟨c,c',t,z,hW1,hWL,hsz, -⟩:=axK.row b h0;obtain⟨o,o',k1,k2,k3⟩:=hS1.wr.obj hr;have e:c1.w.heap[b]?=WL.heap[b]?:=hb b hbl;rw[e,hWL] at k1;cases k1;cases k3 with
   |@cells _ c'' k4 _ _ z' hz=>
    have hz':z=z':=by
     rcases hz with e|⟨e,_⟩
     .exact e
     .rw[hS1.lax] at e;cases e
    have hlen:c''.size=c'.size:=by have:=k4.length;simpa using this.symm
    have hc:c''=c:=by
     apply sF;intro i;rcases pm i c.size with hi|hi
     .have hu:c'[i]?=some c'[i]:=gt (by omega);have hv:c[i]?=some c[i]:=gt hi;have hv2:c''[i]?=some c''[i]:=gt (by omega);have hrel:=dm.at k4 hu hv2;have cell:∀{w:World} {a:Array Value},w.heap[b]?=some (.cells a t z)->w.cell? ⟨b,i,none⟩=a[i]?:=λh=>by unfold World.cell?;rw[h];rfl
      rcases aEv b i _ _ h0 ((cell hWL).trans hu) ((cell hW1).trans hv) with⟨e1,e2⟩|h1|h1
      .rw[e1] at hrel;rw[hv2,hv,nA.fn (V:=S0) (λb hb=>afB.r (hid b hb)) e2 hrel]
      .have hp:=(awC b b hr0 ⟨c',t,z,hWL⟩).2 i _ h1 ((cell (e.trans hWL)).trans hu);have h2:=hp.2;rw[cell hW1] at h2;subst hz';rw[cell k2] at h2;exact h2
      .rw[hv2,hv,h1 ρ1 _ afB.al.symm hrel]
     .rw[qg (by omega),qg (by omega)]
    rw[k2,hW1,hc,hz']
  .exact hS1.keep b hbl h0
 have hend:∀w2,Go.Conc.AtRel w1 w2->AtEnd prog (ShL aV) w1.heap.size (aiW W) (Gl [y] []) w2:=λw2 ⟨d,e⟩=>by
  subst e;exact⟨rfl,_,_,aCl _,λe he=>(acH e he).elim,rfl,azL hS1.os,rfl,axN hS1.os,hS1.sz,hblk⟩
 obtain⟨N2,last,o,w2,t2,hr2,hn2,hs2,hg2⟩:=beside_ends (D:=DC0) (Shun:=ShL aV) (B:=w1.heap.size) (Post:=aiW W) (sl:=sl1) (n:=0) (λw w' es h e he=>by rw[h.2] at he;simp at he) ha1 hL1 hP1.past (qA hend);refine⟨N1+N2,last,o,w2,t2, ?_, ?_,hs2,hg2⟩
 .rw[uW,runNT_add,show runNT prog N1 (solo (G (Frame.enter prog f args .normal) []) W) #[]=_ from hr1];exact hr2
 .have hn1:runN prog N1 (solo (G (Frame.enter prog f args .normal) []) W)=.next (crowd gs1 w1 sl1):=by
   rw[<-runNT_fst _ _ _ #[],show runNT prog N1 (solo (G (Frame.enter prog f args .normal) []) W) #[]=_ from hr1]
  rw[runN_add,hn1];exact hn2
end
section
open Go Go.Conc Go.RowKit Go.ChangeShapes Go.WideShapes Go.ChangeAt
def aqQ:decide (prog.globals.size<(begin prog (λ_ _=>0) default).world.heap.size)=true:=by kernel_rfl
def aCm(h:W.ShapedOpen prog):gN<=W.heap.size:=by
 have b:=sR aqQ;obtain⟨o,c,a, -⟩:=h.2 _ (am _) b;have:=(dq.1 a).1;unfold gN;omega
def axL(k:FuncId)(W:World)(args:Array Value):Prop:=
 ∃(a:aq) (P:Nat->Nat->Prop),(∀b,a b->eJ W b)/\(∀b i v,a b->P b i->W.cell? ⟨b,i,none⟩=some v->nA a v)/\(∀g∈gL,a g)/\nt a args.toList/\
  ∀c:World,aiX W a P c->∀t:Tape,Calls (ai true) k args (c.dN t) λe d=>∃v,e=.returned v/\(v=.bool true/\∀b,b<W.heap.size->d.heap[b]?=c.heap[b]?)
def wG (hF:eM Z) (D:∀T nm,Z T [] nm=(⟨#[]⟩,false)) {os:Os} {k:FuncId} {f:Func} {kt:Tmp} {s:ChangeSpec} {b:Bool} {H:Type} {enc:TypeId×Value->H} {X:World->Array Value->Prop}
  (hX:∀(w w':World) (args:Array Value),w.heap=w'.heap->X w args->X w' args)
  (E:ownKnob prog.godebug=none) (c:os.Started) (Y:prog.inits.idxOf? k=none) (n:prog.funcs[k]?=some f) (hq:(ai true).funcs[k]?=some f) (G:gH k=false) (R:f.results=#[.tmp kt])
  (hl:laidOutB prog=true) (hr:(f.params.toList.all λt=>prog.readableRec t&&decide (t<prog.types.size))=true) (u:f.resultTypes=#[ty]) (L:prog.underlying ty=some .bool) (K:varsRowed prog s.vars=true)
  (J:∀l r:List (DataW H),l.length=f.params.toList.length->r.length=s.vars.length->s.fn H (l++r)={results:=[.lit (.bool true)],args:=l,vars:=r})
  (d:∃(w:World) (a:Tape) (i:Input),w.os=os/\(w.forCall a i).Shaped prog/\i.vars=[]/\Input.okWide prog (w.forCall a i) .any w.heap.size k i/\
   ((s.pre enc prog f [] b (w.forCall a i).memory i.args/\X (w.forCall a i).memory i.args)/\sizedMet enc prog f (OpenSpec.ofChange s) b (w.forCall a i).memory i.args)/\Assume.holds {} prog (lone (Frame.enter prog k i.args .normal) [] (w.forCall a i)))
  (z:∀(W:World) (base:Nat) (args:Array Value) (l:List (DataW H)) (p:List MemPlace),
   (∀(j:Nat) t v,f.params[j]?=some t->args[j]?=some v->Value.okWide prog W .any base t v)->
   DataW.TrodAll enc prog W 0 (λ_=>true) true f.params.toList args.toList l p->(∀x∈p,x.block<W.heap.size)->X W args->axL k W args) :
  ReturnsInLeavingWide {} Tryz.checked os k .any (λw args=>(s.pre enc prog f [] b w args/\X w args)/\sizedMet enc prog f (OpenSpec.ofChange s) b w args) (s.post enc prog f b true false false):=by
 refine returnsInLeavingWide_of_good E c d ?_;intro w a i _ U _ I Q _;obtain⟨_,_,_,dt,V,_,_,_,_,y⟩:=I;have e:dt=f:=ef (V.symm.trans n);subst e;obtain⟨⟨⟨l,r,g,hw,hc⟩,F⟩,hz⟩:=Q;have m:=DataW.Whole.of_heap (w':=w.forCall a i) (by rfl) hw;have A:X (w.forCall a i) i.args:=hX _ _ _ (by rfl) F;have M:∀p∈g,p.block<(w.forCall a i).heap.size:=λp S=>by simpa using m.lt p S
 have B:∀t∈dt.params.toList,prog.readableRec t=true/\t<prog.types.size:=λt ht=>by
  have:=lc.1 hr t ht;simpa using this
 obtain⟨p,q,hA,hV,O,a1,a0⟩:=id m;obtain⟨S0,P,h1,h2,h3,h4,h5⟩:=z (w.forCall a i) w.heap.size i.args l p y hA (λx F=>M x (by rw[O];simp[F])) A;obtain⟨N,last,o,w',t',g1,g2,g3,g4⟩:=atZ hF D h1 h2 h3 (aCm U) h4 G n hq R Y h5;refine⟨N,last,o,w',t',g1,g2,g3,g4.mono λv hv=> ?_⟩;obtain⟨rfl,C⟩:=hv;have S:=aqu hl B u L K (J l r (adQ hA) (acD hV)) m C;have C:=ChangeSpec.post_blind S;exact C
end
section
open Go.RowKit Go.ChangeAt
def aCn:∀g∈gL,g=0\/g=1:=by
 have h:(gL.all λg=>g ==0||g ==1)=true:=by unfold gL;kernel_rfl
 intro g a;have:=lc.1 h g a;simpa using this
def ak6{P:Program}{w:World}{n:String}{d:DataW Unit}:∀{l:List (String×DataW Unit)} {f:List MemPlace},DataW.LaidVars P w l f->(n,d)∈l->
  ∃g t b a p,P.globalNamed n=some g/\(P.globals[g]?).map (·.type)=some t/\w.var? P n=some b/\DataW.trod (λ_=>()) P w 0 (λ_=>true) false a t b.toList=some (d,p)
 |[],_,_,h=>by cases h
 |(m,e)::l,f,h,c=>by
  obtain⟨g,t,b,a,p,q,r,i,k,o,s, -⟩:=h;rcases me.1 c with j|c
  .cases j;exact⟨g,t,b,a,p,r,i,k,o⟩
  .exact ak6 s c
def at0{t:TypeId}{d:DataW Unit}{p:List MemPlace}(b:∃m,P.underlying t=some (.interface m)):DataW.trod (λ_=>()) P w 0 (λ_=>true) false Y t []≠some (d,p):=by
 obtain⟨m,a⟩:=b;cases Y with
 |zero=>simp[DataW.trod]
 |succ f=>simp[DataW.trod,a]
def awD{n:String}{cs:Array Value}{g:Nat}(a:P.globalNamed n=some g)(h:w.var? P n=some cs):∃t z,w.heap[g]?=some (.cells cs t z):=by
 unfold World.var? at h;rw[a] at h;simp only[qH] at h;split at h
 .rename_i c t z b;cases h;exact⟨t,z,b⟩
 .cases h
def awE:∃m,prog.underlying 207=some (.interface m):=⟨_,underlying207⟩
def awF:prog.globalNamed "loop.example/depositary/impl.errKey" =some 0:=by kernel_rfl
def aqR:prog.globalNamed "loop.example/depositary/impl.errPiece" =some 1:=by kernel_rfl
def at1:(prog.globals[0]?).map (·.type)=some 207:=by kernel_rfl
def anE:(prog.globals[1]?).map (·.type)=some 207:=by kernel_rfl
def ak7:(laidL.all λx=>x.2.handleName?.isNone)=true:=by kernel_rfl
def at2(j:laidMetH prog laidL W):(∀g∈gL,eJ W g)/\Glo W:=by
 rw[vj _ _ _ ak7] at j;obtain⟨A,w, -, -⟩:=j;have one:∀{n:String} {d:DataW Unit} {a:Nat},(n,d)∈laidL->prog.globalNamed n=some a->(prog.globals[a]?).map (·.type)=some 207->eJ W a/\∃x,W.cell? ⟨a,0,none⟩=some x:=λ{n d a} v i y=>by
  obtain⟨g,t,b,k,p,q,e,s,o⟩:=ak6 w v;rw[i] at q;cases q;rw[y] at e;cases e;obtain⟨t,z,f⟩:=awD i s;refine⟨⟨b,t,z,f⟩, ?_⟩;cases r:b.toList with
  |nil=>rw[r] at o;exact absurd o (at0 awE)
  |cons x l=>
   refine⟨x, ?_⟩;unfold World.cell?;rw[f];show b[0]?=some x;rw[<-eg,r];rfl
 have m:=one (n:= "loop.example/depositary/impl.errKey") (d:=Rows.laid_loop_example_depositary_impl_errKey) (by simp[laidL]) awF at1;have c:=one (n:= "loop.example/depositary/impl.errPiece") (d:=Rows.laid_loop_example_depositary_impl_errPiece) (by simp[laidL]) aqR anE;refine⟨λg u=> ?_,m.2,c.2⟩;rcases aCn g u with rfl|rfl
 .exact m.1
 .exact c.1
def at5(W:World)(b i:Nat):Prop:=∀v,W.cell? ⟨b,i,none⟩=some v->nA (eJ W) v
def aiX.cell(h:aiX W (eJ W) (at5 W) V)(a:W.cell? ⟨b,i,none⟩=some v)(k:nA (eJ W) v):V.cell? ⟨b,i,none⟩=some v:=by
 have j:at5 W b i:=λu e=>by rw[a] at e;cases e;exact k
 unfold World.cell? at a ⊢;dsimp only at a ⊢;cases d:W.heap[b]? with
 |none=>rw[d] at a;simp at a
 |some o=>
  cases o with
  |cells c t z=>
   obtain⟨r,m,n,q,f,g,p,l⟩:=h.row b ⟨c,t,z,d⟩;rw[d] at f a;cases f;rw[g];exact l i v j a
  |_=>rw[d] at a;simp at a
def aiX.glo(h:aiX W (eJ W) (at5 W) V)(a:∀g∈gL,eJ W g)(b:Glo W)(j:0∈gL)(e:1∈gL):Glo V:=by
 have one:∀{g:Nat},eJ W g->(∃x,W.cell? ⟨g,0,none⟩=some x)->∃x,V.cell? ⟨g,0,none⟩=some x:=λ{g} a ⟨x,hx⟩=>by
  obtain⟨c,f,t,z,d,i,k, -⟩:=h.row g a;unfold World.cell? at hx ⊢;dsimp only at hx ⊢;rw[d] at hx;rw[i];have:0<c.size:=(dq.1 (show c[0]?=some x from hx)).1;exact⟨f[0]'(by omega),gt (by omega)⟩
 exact⟨one (a _ j) b.key,one (a _ e) b.piece⟩
def aiX.bytes(h:aiX W (eJ W) (at5 W) V)(s:cB iD 1 W 0 W.heap.size l [v])(t:Tape):cB iD 1 (V.dN t) 0 (V.dN t).heap.size l [v]:=by
 obtain⟨A,c,C,n,g,y⟩:=s;refine⟨A,c,C,n,g,λr=> ?_⟩;obtain⟨b,d,p,f,B,k⟩:=y r;refine⟨b,d,p,f,by show b<V.heap.size;rw[h.size];exact B,λi x z=> ?_⟩;obtain⟨w,m,e,o⟩:=k i x z;refine⟨w,m,e,λj u a=> ?_⟩;have D:=o j u a;have q:nA (eJ W) u:=by
  obtain⟨rfl, -⟩:=e;have:j=0:=by have:=aI a;simp at this;omega
  subst this;simp at a;subst a;exact .int _ _
 exact h.cell D q
def aoS(b:Value.okWide prog W .any Y 22 v):nA (eJ W) v:=by
 have e:=underlying22;unfold Value.okWide at b;rw[e] at b;dsimp only at b;unfold Cell.okWide at b;rw[e] at b;have b:Cell.ok prog W .any Y 22 v:=b;unfold Cell.ok at b;rw[e] at b;cases v with
 |slice A n c=>
  cases A with
  |none=>exact .aaa _ _
  |some a=>
   obtain⟨-, -, -, -,f,cells,d, -⟩:=b;refine .slice ?_ _ _;unfold World.shape? at d;split at d
   .rename_i g t z i;exact⟨g,t,z,i⟩
   .cases d
 |_=>exact b.elim
def xp {k:FuncId} (q:laidMetH prog laidL W) {l2 : List Int} {a : Value} (u:Value.okWide prog W .any Y 22 v) (f:Value.okWide prog W .any Y 22 a) (h:cB iD 1 W 0 W.heap.size l [v]) (o:cB iD 1 W 0 W.heap.size l2 [a])
  (x:∀w:World,Glo w->cB iD 1 w 0 w.heap.size l [v]->cB iD 1 w 0 w.heap.size l2 [a]->Calls (ai true) k #[v,a] w λe j=>e=.returned (.bool true)/\Below w.heap.size w j):axL k W #[v,a]:=by
 obtain⟨m,s⟩:=at2 q;refine⟨eJ W,at5 W,λ_ h=>h,λb i v _ r g=>r v g,m,.cons (aoS u) (.cons (aoS f) .nil),λn c t=> ?_⟩;refine(x (n.dN t) ?_ (c.bytes h t) (c.bytes o t)).mono ?_
 .have:=c.glo m s (aiH asU) (aiH aks);exact⟨this.key,this.piece⟩
 .rintro e j ⟨rfl,p⟩;exact⟨_,rfl,rfl,λb d=>p.block b (by show b<n.heap.size;rw[c.size];exact d)⟩
end
section
open Go.RowKit
def xm:Tryz.pinned.checked.prog.mainIs=some (true, "4b07ddab0e2aa06f1e07655ecf29eb2407f2fb79b122da1f2d08244689efd3a4".toList):=by kernel_rfl
def xB:false=Tryz.pinned.checked.prog.looks []:=by kernel_rfl
end
section
open Go.Shelf Go.RowKit
variable {β:Bool}
def ahH:(ai β).follows .mixedOrders=true:=by cases β<;>kernel_rfl
def aef:Go.Shelf.Ren:=⟨fun|189=>29|125=>51|257=>50|128=>85|129=>86|294=>76|295=>77|296=>78|297=>79|298=>80|299=>81|216=>82|300=>83|301=>84|328=>126|329=>127|330=>128|331=>129|332=>130|215=>131|343=>180|n=>n,fun|28=>31|3=>3|46=>93|0=>0|51=>138|53=>140|4=>4|183=>130|182=>129|131=>135|5=>5|9=>9|218=>182|222=>186|228=>238|229=>148|n=>n,fun|n=>n⟩
def adW:Go.Proofs.Lays.n189 (ai β) aef:={
 mixed:=ahH
 f125:=qF51.trans (gn some (by kernel_rfl))
 f128:=qF85.trans (gn some (by kernel_rfl))
 f129:=qF86.trans (gn some (by kernel_rfl))
 f189:=qF29.trans (gn some (by kernel_rfl))
 f215:=qF131.trans (gn some (by kernel_rfl))
 f216:=qF82.trans (gn some (by kernel_rfl))
 f257:=qF50.trans (gn some (by kernel_rfl))
 f294:=qF76.trans (gn some (by kernel_rfl))
 f295:=qF77.trans (gn some (by kernel_rfl))
 f296:=qF78.trans (gn some (by kernel_rfl))
 f297:=qF79.trans (gn some (by kernel_rfl))
 f298:=qF80.trans (gn some (by kernel_rfl))
 f299:=qF81.trans (gn some (by kernel_rfl))
 f300:=qF83.trans (gn some (by kernel_rfl))
 f301:=qF84.trans (gn some (by kernel_rfl))
 f328:=qF126.trans (gn some (by kernel_rfl))
 f329:=qF127.trans (gn some (by kernel_rfl))
 f330:=qF128.trans (gn some (by kernel_rfl))
 f331:=qF129.trans (gn some (by kernel_rfl))
 f332:=qF130.trans (gn some (by kernel_rfl))
 f343:=qF180.trans (gn some (by kernel_rfl))
 t0:=qU0
 a0:=λw=>(cM _ w).trans (Tryz.isAgg0 w)
 z0:=λw=>(bW _ w).trans (Tryz.sizeOf0 w)
 v0:=λw=>(aU _ w).trans (vG w)
 t3:=qU3
 a3:=λw=>(cM _ w).trans (Tryz.isAgg3 w)
 z3:=λw=>(bW _ w).trans (Tryz.sizeOf3 w)
 v3:=λw=>(aU _ w).trans (vF w)
 t4:=qU4
 a4:=λw=>(cM _ w).trans (Tryz.isAgg4 w)
 z4:=λw=>(bW _ w).trans (Tryz.sizeOf4 w)
 v4:=λw=>(aU _ w).trans (vE w)
 t5:=qU5
 a5:=λw=>(cM _ w).trans (Tryz.isAgg5 w)
 z5:=λw=>(bW _ w).trans (Tryz.sizeOf5 w)
 v5:=λw=>(aU _ w).trans (Tryz.zeroValue5 w)
 t9:=qU9
 a9:=λw=>(cM _ w).trans (Tryz.isAgg9 w)
 z9:=λw=>(bW _ w).trans (Tryz.sizeOf9 w)
 v9:=λw=>(aU _ w).trans (Tryz.zeroValue9 w)
 t28:=wZ
 a28:=λw=>(cM _ w).trans (Tryz.isAgg31 w)
 z28:=λw=>(bW _ w).trans (Tryz.sizeOf31 w)
 v28:=λw=>(aU _ w).trans (Tryz.zeroValue31 w)
 t46:=yO
 a46:=λw=>(cM _ w).trans (Tryz.isAgg93 w)
 z46:=λw=>(bW _ w).trans (Tryz.sizeOf93 w)
 v46:=λw=>(aU _ w).trans (Tryz.zeroValue93 w)
 t51:=xL
 a51:=λw=>(cM _ w).trans (Tryz.isAgg138 w)
 z51:=λw=>(bW _ w).trans (Tryz.sizeOf138 w)
 v51:=λw=>(aU _ w).trans (Tryz.zeroValue138 w)
 t53:=xK
 a53:=λw=>(cM _ w).trans (Tryz.isAgg140 w)
 z53:=λw=>(bW _ w).trans (Tryz.sizeOf140 w)
 v53:=λw=>(aU _ w).trans (Tryz.zeroValue140 w)
 t131:=xM
 a131:=λw=>(cM _ w).trans (Tryz.isAgg135 w)
 z131:=λw=>(bW _ w).trans (Tryz.sizeOf135 w)
 v131:=λw=>(aU _ w).trans (Tryz.zeroValue135 w)
 t182:=xO
 a182:=λw=>(cM _ w).trans (Tryz.isAgg129 w)
 z182:=λw=>(bW _ w).trans (Tryz.sizeOf129 w)
 v182:=λw=>(aU _ w).trans (Tryz.zeroValue129 w)
 t183:=xN
 a183:=λw=>(cM _ w).trans (Tryz.isAgg130 w)
 z183:=λw=>(bW _ w).trans (Tryz.sizeOf130 w)
 v183:=λw=>(aU _ w).trans (Tryz.zeroValue130 w)
 t218:=xG
 a218:=λw=>(cM _ w).trans (Tryz.isAgg182 w)
 z218:=λw=>(bW _ w).trans (Tryz.sizeOf182 w)
 v218:=λw=>(aU _ w).trans (Tryz.zeroValue182 w)
 t222:=xF
 a222:=λw=>(cM _ w).trans (Tryz.isAgg186 w)
 z222:=λw=>(bW _ w).trans (Tryz.sizeOf186 w)
 v222:=λw=>(aU _ w).trans (Tryz.zeroValue186 w)
 t228:=xD
 a228:=λw=>(cM _ w).trans (Tryz.isAgg238 w)
 z228:=λw=>(bW _ w).trans (Tryz.sizeOf238 w)
 v228:=λw=>(aU _ w).trans (Tryz.zeroValue238 w)
 t229:=xJ
 a229:=λw=>(cM _ w).trans (Tryz.isAgg148 w)
 z229:=λw=>(bW _ w).trans (Tryz.sizeOf148 w)
 v229:=λw=>(aU _ w).trans (Tryz.zeroValue148 w)}
open Go.Sort Go.RowKit in
def aaB(a b cap:Nat)(d:List Int)(w:World)(j:Holds (Value.int .i64) w a b d.toArray)(c:a<w.heap.size)(f:d.length<4611686018427387904) :
  Calls (ai β) 29 #[.slice (some ⟨a,b,none⟩) d.length cap] w λe g=>
   e=.returned (.tuple #[])/\∃n i,g=grow (putRow (Value.int .i64) (Sort.ahead w n) a b (d.mergeSort λx y=>decide (x<=y)).toArray) i:=Any.slices_Sort_int adW a b cap d w j c f
def acL:Go.Shelf.Ren:=⟨fun|20=>30|n=>n,fun|22=>31|3=>3|4=>4|0=>0|n=>n,fun|n=>n⟩
def aaU:Go.Proofs.Lays2.n20 (ai β) acL:={
 mixed:=ahH
 f20:=qF30.trans (gn some (by kernel_rfl))
 t0:=qU0
 a0:=λw=>(cM _ w).trans (Tryz.isAgg0 w)
 z0:=λw=>(bW _ w).trans (Tryz.sizeOf0 w)
 v0:=λw=>(aU _ w).trans (vG w)
 t3:=qU3
 a3:=λw=>(cM _ w).trans (Tryz.isAgg3 w)
 z3:=λw=>(bW _ w).trans (Tryz.sizeOf3 w)
 v3:=λw=>(aU _ w).trans (vF w)
 t4:=qU4
 a4:=λw=>(cM _ w).trans (Tryz.isAgg4 w)
 z4:=λw=>(bW _ w).trans (Tryz.sizeOf4 w)
 v4:=λw=>(aU _ w).trans (vE w)
 t22:=wZ
 a22:=λw=>(cM _ w).trans (Tryz.isAgg31 w)
 z22:=λw=>(bW _ w).trans (Tryz.sizeOf31 w)
 v22:=λw=>(aU _ w).trans (Tryz.zeroValue31 w)
 i3:=by first|kernel_rfl|(cases β<;>kernel_rfl)}
open Go.RowKit Go.Lib Go.Sort in
def om(b a cap:Nat)(c:List Int)(w:World)(i:Holds (Value.int .i64) w b a c.toArray)(f:c.length<=9223372036854775807)(d:c.length<=cap) :
  Calls (ai β) 30 #[.slice (some ⟨b,a,none⟩) c.length cap] w λe g=>e=.returned (.slice (some ⟨b,a,none⟩) (Lib.compact c).length cap)/\∃q,g=putRow (Value.int .i64) (Sort.ahead w q) b a (Lib.compact c++List.replicate (c.length-(Lib.compact c).length) 0).toArray:=Any.slices_Compact_int aaU b a cap c w i f d
open Go.RowKit Go.Lib Go.Sort in
def kE(a:Option Addr)(cap:Nat)(w:World) :
  Calls (ai β) 30 #[.slice a 0 cap] w λe b=>e=.returned (.slice a 0 cap)/\b=w:=Any.slices_Compact_int_empty aaU a cap w
open Go.RowKit Go.Sort in
def mP(p:Option Addr)(cap:Nat)(w:World) :
  Calls (ai β) 29 #[.slice p 0 cap] w λe a=>e=.returned (.tuple #[])/\a=w:=Any.slices_Sort_int_none adW p cap w
end
section
variable {β:Bool}
open Go.RowKit
def gQ(l:List Int):List Int:=l.mergeSort λx y=>decide (x<=y)
def ji(l:List Int):(gQ l).length=l.length:=List.length_mergeSort l
def agO{x:Int}:x∈gQ l↔x∈l:=List.mem_mergeSort
def aja{base:Nat}(p:aD fp 3 w base v l)(q:l.length<4611686018427387904) :
  Calls (ai β) 29 #[v] w λe c=>e=.returned (.tuple #[])/\aD fp 3 c base v (gQ l)/\bV (λb=>v.ownBlock=some b) w c:=by
 obtain⟨A,⟨rfl,x⟩|⟨g,cap,d,rfl,u,j,z,r,t,m⟩⟩:=p
 .obtain rfl:=pu.1 x;refine(mP none 0 w).mono ?_;rintro e c ⟨rfl,rfl⟩;refine⟨rfl, ?_,bV.refl _ _⟩;rw[show gQ []=[] from pu.1 (ji [])];exact aD.nil _ _ _
 .have o:dL fp l=l.map (Value.int .i64):=ng l;rw[o] at m;have f:d.toList.take l.length=l.map (Value.int .i64):=by rw[<-m];show _=List.take (l.length*1) _;rw[tA]
  refine(aaB g 0 cap l w (holds_of_blockI j f) (dq.1 j).1 q).mono ?_;rintro e c ⟨rfl,n,os,rfl⟩;have a:=grownBy_sortedI (w:=w) (g:=g) (n:=n) (os:=os) (gQ l).toArray;refine⟨rfl, ?_,a.os,a.tape,a.output,a.size,λk y i=>a.block k y λe=>i (by cases e;rfl)⟩;have s:=ownsRow_sortedI (w:=w) (base:=base) (g:=g) (cap:=cap) (n:=n) (os:=os) (ss:=l) (ts:=gQ l) (ji l) u j z r t;unfold aD;rw[ng,ji];exact s
def adq{base:Nat}(F:aD fp 3 w base v l)(G:l.length<=9223372036854775807) :
  Calls (ai β) 30 #[v] w λe d=>∃p,e=.returned p/\aD fp 3 d base p (Lib.compact l)/\bV (λb=>v.ownBlock=some b) w d:=by
 obtain⟨L,⟨rfl,I⟩|⟨g,cap,j,rfl,t,s,x,A,H,u⟩⟩:=F
 .obtain rfl:=pu.1 I;refine(kE none 0 w).mono ?_;rintro e d ⟨rfl,rfl⟩;refine⟨_,rfl, ?_,bV.refl _ _⟩;rw[show Lib.compact ([]:List Int)=[] from pu.1 (Nat.le_zero.1 (uE []))];exact aD.nil _ _ _
 .have E:dL fp l=l.map (Value.int .i64):=ng l;rw[E] at u;have f:j.toList.take l.length=l.map (Value.int .i64):=by rw[<-u];show _=List.take (l.length*1) _;rw[tA]
  have D:=uE l;refine(om g 0 cap l w (holds_of_blockI s f) G x).mono ?_;rintro e d ⟨rfl,q,rfl⟩;have z:Sort.putRow (Value.int .i64) (Sort.ahead w q) g 0 (Lib.compact l++List.replicate (l.length-(Lib.compact l).length) 0).toArray=Sort.grow (Sort.putRow (Value.int .i64) (Sort.ahead w q) g 0 (Lib.compact l++List.replicate (l.length-(Lib.compact l).length) 0).toArray) #[]:=by rw[Sort.grow_empty]
  rw[z];have a:=grownBy_sortedI (w:=w) (g:=g) (n:=q) (os:=#[]) (Lib.compact l++List.replicate (l.length-(Lib.compact l).length) 0).toArray;refine⟨_,rfl, ?_,a.os,a.tape,a.output,a.size,λk B i=>a.block k B λe=>i (by cases e;rfl)⟩;obtain⟨-,⟨m, -⟩|⟨M,r,c,m, -,o,K,J,C,y⟩⟩:=ownsRow_sortedI (w:=w) (base:=base) (g:=g) (cap:=cap) (n:=q) (os:=#[]) (ss:=l) (ts:=Lib.compact l++List.replicate (l.length-(Lib.compact l).length) 0) (by simp;omega) t s x A H
  .cases m
  .cases m;unfold aD;rw[ng];refine⟨by rw[pZ];exact(tA _).symm,.inr ⟨g,cap,c,rfl,t,o,by omega,J,C, ?_⟩⟩;show List.take ((Lib.compact l).length*1) _=_;rw[tA] at y ⊢;have:=gn (List.take (Lib.compact l).length) y;rw[vP,rh D,qs,List.take_left' (by rw[pZ])] at this;exact this
end
section
variable {β:Bool}
open Go.RowKit
def aqS(l:List Int):(gQ l).Pairwise λa b=>a<=b:=by
 have h:=List.pairwise_mergeSort (le:=λx y:Int=>decide (x<=y)) (λa b c e d=>by simp at *;omega) (λa b=>by simp;omega) l;exact h.imp λh=>by simpa using h
def anF(l:List Int):(gQ l).Perm l:=List.mergeSort_perm _ _
def ahQ :(Lib.compact (gQ l)).length=l.length↔l.Nodup:=by
 rw[<-(anF l).nodup_iff,<-ji l];have c:=aqS l;generalize gQ l=z at c;constructor
 .intro h;have g:∀j,j<z.length->Lib.keeps z.toArray j=true:=λj a=>by
   unfold Lib.compact Lib.compactUpTo at h;rw[pZ] at h;have d:((List.range z.length).filter (Lib.keeps z.toArray)).length=(List.range z.length).length:=by rw[h,List.length_range]
   exact List.length_filter_eq_length_iff.1 d j (qn.2 a)
  refine qm.2 λi j m a n=> ?_;have f:=g j a;unfold Lib.keeps at f;have b:¬j=0:=by omega
  have k:z[j]≠z[j-1]:=by
   intro e;simp[b,getElem!_pos,a,show j-1<z.length by omega,e] at f
  have d:=qm.1 c (j-1) j (by omega) a (by omega);have o:z[i]<=z[j-1]:=by
   by_cases e:i=j-1
   .subst e;exact um _
   .exact qm.1 c i (j-1) m (by omega) (by omega)
  omega
 .intro h;rw[Lib.compact_all z λj a=> ?_];unfold Lib.keeps;by_cases b:j=0
  .simp[b]
  .have:=qm.1 h (j-1) j (by omega) a (by omega);simp[b,getElem!_pos,a,show j-1<z.length by omega];omega
end
section
open Go.RowKit
def lO{α:Type}(P:α->Prop)(f:α->Int)(l:List α):Prop:=(∀x∈l,P x)/\l.Pairwise λa b=>f a<f b
section
variable {α:Type} {P:α->Prop} {f:α->Int} {xs:List α} {x y:α} {j k:Nat}
def abL:lO P f []:=⟨λx h=>(by cases h),List.Pairwise.nil⟩
def af9:lO P f (xs++[x])↔lO P f xs/\P x/\∀y∈xs,f y<f x:=by
 unfold lO;rw[rI];constructor
 .intro⟨d,e,_,g⟩;exact⟨⟨λy c=>d y (by simp[c]),e⟩,d x (by simp),λy c=>g y c x (by simp)⟩
 .intro⟨⟨d,e⟩,g,j⟩;refine⟨λy c=> ?_,e,rM _ _,λa i b k=> ?_⟩
  .rcases io.1 c with c|c
   .exact d y c
   .rw[ge.1 c];exact g
  .rw[ge.1 k];exact j a i
def abM(b:xs[0]?=some x)(h:P x):lO P f (xs.take 1):=by
 rw[mp b];exact af9.2 ⟨abL,h,λy a=>(by cases a)⟩
def aek(c:lO P f (xs.take (j+1)))(d:xs[j]?=some y)(e:xs[j+1]?=some x)(h:P x)(b:f y<f x):lO P f (xs.take (j+1+1)):=by
 rw[mp e];refine af9.2 ⟨c,h,λz a=> ?_⟩;rw[mp d] at a c;rcases io.1 a with a|a
 .have:=(af9.1 c).2.2 z a;omega
 .rw[ge.1 a];exact b
def axX(a:xs[k]?=some x)(h:¬P x):¬lO P f xs:=λb=>h (b.1 x (aE a))
def aej(b:xs[j]?=some y)(c:xs[j+1]?=some x)(h:¬f y<f x):¬lO P f xs:=λd=>by
 have a:=qm.1 d.2 j (j+1) (aI b) (aI c) (by omega);rw[(li.1 b).2,(li.1 c).2] at a;exact h a
end
def ai8(key:Int)(l:List Pk):Prop:=lO (abK key) Pk.no l/\l.length<=20/\(aL l).Nodup
def ai7(key:Int)(pk:List Pk)(x:Sn):Prop:=(1<=x.no/\x.no<=20)/\(dx key (aX pk) x.all).isSome=true
def ara(key:Int)(pk:List Pk)(l:List Sn):Prop:=lO (ai7 key pk) Sn.no l
def abH(key:Int)(s:dJ):Prop:=ai8 key s.pk/\ara key s.pk s.sn
end
section
open Go.RowKit
def abN{a:List It}{k:Nat}{x:It}(h:a[k]?=some x):aO (a.take (k+1))=aO (a.take k)++[x.n]:=by
 rw[mp h];unfold aO;rw[qs];rfl
def alo{n:Int}(h:l.Nodup)(f:n∉l):(l++[n]).Nodup:=by
 rw[qY];exact⟨h,tp.2 ⟨by simp,List.nodup_nil⟩,λa c b d e=>f (by rw[ge.1 d] at e;exact e▸c)⟩
def aur{l:List Pk}{k : Nat}{p:Pk}{x:It}(c:l[i]?=some p)(g:p.its[k]?=some x)(h:x.n∈aL (l.take i)++aO (p.its.take k)):¬(aL l).Nodup:=by
 intro b;have d:l=l.take (i+1)++l.drop (i+1):=(qZ _ _).symm;have f:aL l=aL (l.take (i+1))++aL (l.drop (i+1)):=by
  conv=>lhs;rw[d]
  exact qC
 rw[f,qY] at b;have a:=b.1;rw[mD c] at a;have e:aO p.its=aO (p.its.take (k+1))++aO (p.its.drop (k+1)):=by
  unfold aO;rw[<-qs,qZ]
 rw[e,abN g,<-rY,<-rY,qY,qY] at a;exact a.1.2.2 x.n h x.n (ge.2 rfl) rfl
end
end Go.Proofs.YtlggbfanooejbaaGreatDoor