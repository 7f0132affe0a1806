/- A part of the proof. -/
import Derived.Test.YtbeafkpaghapeaaGreatDoorG4
import Derived.Below
import Derived.Laws.Cover1
set_option maxRecDepth 100000
set_option maxHeartbeats 8000000
set_option linter.all false
open Go Go.Conc Go.ConcN Go.RowKit Go.Proofs.Tryz Go.Proofs.YtbeafkpaghapeaaGreatDoor
variable {x z:It} {Z c g hi i j n:Nat} {V:Type} {A:Addr} {a b:Code} {o:Oper} {q:Bool} {R w w':World} {u v:Value} {y:Frame} {X e t0:TypeId} {f:FuncId} {P:Program} {O rest:List Nat} {d:TypeDesc} {k k2:List Item} {Y:Array Oper} {W xs:List Frame} {U cs:List Value} {af:Array Edge} {S:Array Field} {Q T':Array Value} {B:Option Addr} {es:Array Event} {Post:Value→World→Prop} {gd:Option (Nat × Bool)}
namespace Go.Proofs.YtbeafkpaghapeaaGreatDoor
def be:=@_root_.Go.World.size_setCell
def ef:=@_root_.List.setIfInBounds_toArray
def ip:=@_root_.List.set_cons_zero
def jt:=@_root_.List.set_cons_succ
def mp:=@_root_.List.length_singleton
def rq:=@_root_.List.getElem?_set_self
def rz:=@_root_.List.not_mem_nil
def rG:=@_root_.List.getElem?_set_ne
def rP:=@_root_.UInt8.lt_iff_toNat_lt
def rS:=@_root_.List.getElem?_of_mem
def so:=@_root_.List.mem_toArray
def sP:=@_root_.List.mem_or_eq_of_mem_set
def sQ:=@_root_.Array.size_replicate
def sT:=@_root_.Go.Conc.mem_seen
def tj:=@_root_.List.contains_cons
def tv:=@_root_.List.ext_getElem?
def tN:=@_root_.Go.World.cell?_setCell_other
def tQ:=@_root_.or_false
def uv:=@_root_.List.drop_length
def uA:=@_root_.Go.World.frozen?_setCell
def vx:=@_root_.List.pairwise_iff_getElem
section
open Go.Conc Go.ConcN
abbrev T0C(a:Array Value):Array Value:=a++Array.replicate (20-a.size) undef
section
variable {β:Bool} {R:List Frame->World->Prop} {c0 c:Cfg} {iy ρ:Ren} {w0 w w2:World} {T:Array Value} {k:List Item} {y:Frame} {ys m:List Frame} {a a':Array Value}
def atP:Frame.enter (ah β) nCC a' .normal=FC (T0C a') [.code mY]:=by
 have a:(ah β).funcs[nCC]?=some qCC:=acs β;unfold Frame.enter;rw[a];rfl
def fY(e:w'.heap[A.block]?=w.heap[A.block]?):w'.cell? A=w.cell? A:=by
 unfold World.cell?;rw[e]
def wV{xs:Array Obj}{f:Obj->Obj}(h:∀o,xs[i]?=some o->f o=o):xs.modify i f=xs:=by
 apply sD;intro j;rw[ph];by_cases e:i=j
 .subst e;rw[dq rfl];cases a:xs[i]? with
  |none=>rfl
  |some o=>simp[h o a]
 .rw[bv e]
def ag3{xs:Array Obj}{f g:Obj->Obj}(h:∀o,g (f o)=g o):(xs.modify i f).modify i g=xs.modify i g:=by
 apply sD;intro j;rw[ph,ph,ph];by_cases e:i=j
 .simp only[e,pr,Option.map_map]
  congr 1
  funext o
  exact h o
 .simp only[e,qF]
def ag4(h:w.cell? A=some v):w.setCell A v=w:=by
 unfold World.setCell;rw[wV];intro o b;unfold World.cell? at h;rw[b] at h;cases o with
 |cells c t z=>
  cases a:A.spot with
  |some s=>simp[a] at h
  |none=>
   simp[a] at h;simp only[tc,kw,qF]
   congr 1
   apply sD;intro j;rw[mT];by_cases e:A.off=j
   .subst e;rw[dq rfl,h];rw[dq (dl.1 h).1]
   .rw[bv e]
 |_=>rfl
def afi   :(w.setCell A u).setCell A v=w.setCell A v:=by
 unfold World.setCell;dsimp only;rw[ag3];intro o;cases o with
 |cells c t z=>
  dsimp only;split
  .rfl
  .simp
 |_=>rfl
def atQ(S:dh iy a a')(O:iF (ah β) iy m (y::ys))(hc:c0.l=Frame.enter (ah β) nCC a .normal::m)(hw:WR iy c0.w w0)(Y:GlR iy)(Z:jP (ah β) R c0) :
  ∃A v e n g σ,(T0C a').getD 0 undef=.pointer (some A)/\w0.shape? A.block=some (e,n)/\liesAt (ah β) (ah β).depth e (n / (ah β).cellsOf e) A.off 162 1=true/\w0.cell? A=some v/\w0.frozen? A=false/\(v=.pointer none\/v=.pointer (some A))/\
   (∃z,AR iy z A)/\(∀E,iy.r E A.block->bH c0.w E->NoB c0.w E->False)/\gV β R c0 iy w0 g σ (y.finish (.tuple #[])::ys) (w0.setCell A (.pointer (some A)))/\ir (ah β) g c0:=by
 have hz:20<=(T0C a').size:=by simp only[T0C,rZ,sQ];omega
 have h:gV β R c0 iy w0 c0 iy (FC (T0C a') [.code mY]::y::ys) w0:=⟨.inl rfl,.refl _,by rw[hc,<-atP (β:=β)];exact .cons (aeF β S) O,hw,Y,Z,Kept.refl _ _ _⟩;generalize T0C a'=T at hz h ⊢;unfold mY at h;obtain⟨g,c,h, -⟩:=h.seq;obtain⟨g,c,h, -⟩:=h.region;have l:List.range oO.size=[0,1,2,3]:=rfl;rw[l] at h;obtain⟨A,e,n,U,p,D,⟨z,P⟩,x,G,h', -⟩:=h.slice;have C:∃z,AR iy z A:=by
  refine⟨z, ?_⟩;obtain⟨l,o,s⟩:=P;rename_i bl br;rcases h.kept.new l with r|⟨_,r⟩
  .exact .mk r o s
  .exfalso;dsimp only at x;simp only[World.shape?] at x;cases j:w0.heap[br]? with
   |none=>rw[j] at x;cases x
   |some q=>have:=(dl.1 j).1;omega
 replace h:=h';obtain⟨g,c,h, -⟩:=h.field rfl D;obtain⟨v,g,c,f,h, -⟩:=h.load (A:=A) rfl (by rw[aH (by omega)];rfl);obtain⟨b,g,c,j,h, -⟩:=h.eql rfl;obtain⟨g,c,h, -⟩:=h.jb;obtain⟨g,c,h, -⟩:=h.seq;have X:((T.setIfInBounds 4 (.pointer (some A))).setIfInBounds 5 v).getD 5 undef=v:=by rw[aH (by simp;omega)];rfl
 rw[X] at j;obtain⟨g,c,h, -⟩:=h.cond (q:=b) (by rw[aH (by simp;omega)];rfl);have k:∀{J:Array Value} {U:Cfg} {p:Ren} {w2:World},gV β R c0 iy w0 U p (FC J [.code (.seq (.region 1 agE false) .ret)]::y::ys) w2->J.getD 4 undef=.pointer (some A)->J.getD 0 undef=.pointer (some A)->
   ∃w i,w2.frozen? A=false/\gV β R c0 iy w0 w i (y.finish (.tuple #[])::ys) (w2.setCell A (.pointer (some A)))/\ir (ah β) w c0:=λ{J U p w2} h g4 g0=>by
  obtain⟨g,c,h, -⟩:=h.seq;obtain⟨g,c,h, -⟩:=h.region;have l:List.range agE.size=[0]:=rfl;rw[l] at h;obtain⟨g,c,H, -,h, -⟩:=h.store (A:=A) (u:=some A) rfl g4 g0;obtain⟨g,c,h, -⟩:=h.jb;obtain⟨g,c,h, -,F⟩:=h.ret;exact⟨g,c,H,h,F⟩
 rcases j with⟨rfl,rfl⟩|⟨B,rfl,rfl⟩
 .simp only[pr] at h;obtain⟨g,c,h, -⟩:=h.skip;obtain⟨w,i,H,h,F⟩:=k h (by rw[aH (by simp;omega),bv (by decide),aH (by simp;omega),bv (by decide),aH (by omega),dq rfl]) (by rw[aH (by simp;omega),bv (by decide),aH (by simp;omega),bv (by decide),aH (by omega),bv (by decide)];exact D);refine⟨A,_,e,n,w,i,D,x,G,f,H,.inl rfl,C,λE r L V=> ?_,h,F⟩;have:=(h.kept.still r L V).2;have W:(w0.setCell A (.pointer (some A))).cell? A=some (.pointer (some A)):=World.cell?_setCell_same _ _ _ f;rw[fY this,f] at W;cases W
 .simp only[qF,kw] at h;obtain⟨g,c,h, -⟩:=h.seq;obtain⟨g,c,h, -⟩:=h.region;have l:List.range aj8.size=[0,1,2,3]:=rfl;rw[l] at h;obtain⟨g,c,h, -⟩:=h.field (A:=B) (t:=5) (d:=7) rfl (by rw[aH (by simp;omega),bv (by decide)];exact X);obtain⟨g,c,N,⟨vB,a0⟩,h, -⟩:=h.store (A:=B) (u:=none) (t:=7) rfl (by rw[aH (by simp;omega)];rfl) rfl;have hk:=h.kept;obtain⟨u,g,c,I,h, -⟩:=h.load (A:=A) (t:=4) (d:=8) rfl (by rw[aH (by simp;omega),bv (by decide),aH (by simp;omega),bv (by decide),aH (by simp;omega),bv (by decide),aH (by omega),dq rfl]);obtain⟨b,g,c,j,h, -⟩:=h.eql (t:=8) (d:=9) rfl;rw[aH (by simp;omega),dq rfl] at j;obtain⟨g,c,h, -⟩:=h.jb;obtain⟨g,c,h, -⟩:=h.cond (q:=b) (by rw[aH (by simp;omega)];rfl);rcases j with⟨rfl,rfl⟩|⟨B',rfl,rfl⟩
  .have Q:A=B:=by
    refine qN λK=> ?_;rw[tN _ _ _ _ (λe=>K e.symm),f] at I;cases I
   subst Q;simp only[pr] at h;obtain⟨g,c,h, -⟩:=h.skip;obtain⟨w,i,H,h,F⟩:=k h
    (by rw[aH (by simp;omega),bv (by decide),aH (by simp;omega),bv (by decide),aH (by simp;omega),bv (by decide),aH (by simp;omega),bv (by decide),aH (by simp;omega),bv (by decide),aH (by omega),dq rfl])
    (by rw[aH (by simp;omega),bv (by decide),aH (by simp;omega),bv (by decide),aH (by simp;omega),bv (by decide),aH (by simp;omega),bv (by decide),aH (by simp;omega),bv (by decide),aH (by omega),bv (by decide)];exact D)
   have M:(w0.setCell A (.pointer none)).setCell A (.pointer (some A))=w0.setCell A (.pointer (some A)):=afi;rw[M] at h;refine⟨A,_,e,n,w,i,D,x,G,f,N,.inr rfl,C,λE r L V=> ?_,h,F⟩;have:=(hk.still r L V).2;rw[fY this,f] at I;cases I
  .exfalso;simp only[qF,kw] at h;exact h.no rfl true (o:=_) (w2:=w0.setCell B (.pointer none)) (by simp only[Gl,stepG,stepG.exec];rfl)
end
end
section
open Go.Conc Go.ConcN Go.RowKit Go.Lib
section
variable {P:Program} (T:CcT P) {w:World} {e:Operand->Value} {x y:Operand} {A:Addr} {v:Value} {dst:Option Tmp} {ty:TypeId} {pos:String} {af:Array Edge} {gd:Option (Nat×Bool)}
def atS:(execOp e ⟨dst,.move x,ty,pos,af,gd⟩).runT P w #[]=(.ok (.value (e x)) w,#[]):=rfl
def akU(h:e x=.pointer (some A)):(execOp e ⟨dst,.nilCheck x,ty,pos,af,gd⟩).runT P w #[]=(.ok (.value (.pointer (some A))) w,#[]):=by
 simp only[execOp,h];rfl
include T
theorem aeG(h:e x=.pointer (some A)):(execOp e ⟨dst,.fieldAddr 162 x 0,ty,pos,af,gd⟩).runT P w #[]=(.ok (.value (.pointer (some A))) w,#[]):=by
 obtain⟨k,g,c,a,d,b⟩:=T.f;obtain⟨i,f,j⟩:=T.i6;simp[execOp,h,Instr.fieldAt,Instr.sureAddr,me c,a,fieldPlace,sizeOf,typeInfo,b,f,j,d,Addr.add]
theorem amP(h:e x=.pointer (some A))(a:w.cell? A=some v):(execOp e ⟨dst,.load 160 x,ty,pos,af,gd⟩).runT P w #[]=(.ok (.value v) w,#[⟨.cell A,false,false⟩]):=by
 simp[execOp,h,Instr.loadAt,Instr.sureAddr,loadVar,isAgg,me T.u,a]
theorem axb{a:Option Addr}(h:e x=.pointer a)(f:e y=.pointer none):(execOp e ⟨dst,.binOp .eql 160 x y 160,ty,pos,af,gd⟩).runT P w #[]=(.ok (.value (.bool a.isNone)) w,#[]):=by
 have b:∀(d:Nat),(Op.equalIn (d+1) 160 (.pointer a) (.pointer none)).run P w=.ok a.isNone w:=λd=>by
  cases a<;>simp[Op.equalIn,me T.u]
 have c:∀(d:Nat),(Op.equalIn (d+1) 160 (.pointer a) (.pointer none)).events P w #[]=#[]:=λd=>by
  cases a<;>simp[Op.equalIn,me T.u]
 simp only[execOp,h,f,eqG,binOp];simp[Op.equal,Op.maxDepth,b 9999,c 9999]
theorem axc(h:e x=.pointer (some A))(g:e y=.pointer (some A)):(execOp e ⟨dst,.binOp .neq 160 x y 160,ty,pos,af,gd⟩).runT P w #[]=(.ok (.value (.bool false)) w,#[]):=by
 obtain⟨i,a,j, -⟩:=T.i8;have b:∀(d:Nat),(Op.equalIn (d+1) 160 (.pointer (some A)) (.pointer (some A))).run P w=.ok true w:=λd=>by
  simp[Op.equalIn,me T.u,sizeOf,typeInfo,a,run_sameAddr_same]
 have f:∀(d:Nat),(Op.equalIn (d+1) 160 (.pointer (some A)) (.pointer (some A))).events P w #[]=#[]:=λd=>by
  simp[Op.equalIn,me T.u,sizeOf,typeInfo,a,j,sameAddr]
 have c:eqGuard .neq 160 x y (.pointer (some A)) (.pointer (some A))=Sem.pure ():=rfl;simp only[execOp,h,g,c,binOp];simp[Op.equal,Op.maxDepth,b 9999,f 9999]
theorem axd(h:e x=.pointer (some A))(a:w.shape? A.block=some (X,n))(f:A.off<n):(execOp e ⟨dst,.convert 160 144 x,ty,pos,af,gd⟩).runT P w #[]=(.ok (.value (.pointer (some A))) w,#[]):=by
 obtain⟨i,b,d, -⟩:=T.i8;have c:¬n<=A.off:=by omega
 simp[execOp,h,convert,me T.u,me T.up,Conv.unsafePointer,Conv.seenAt,viewAt,cellsIn,a,sizeOf,typeInfo,b,d,c]
theorem aqC(h:e x=.pointer (some A))(a:w.shape? A.block=some (X,n))(b:liesAt P P.depth X (n / P.cellsOf X) A.off 162 1=true):(execOp e ⟨dst,.convert 144 160 x,ty,pos,af,gd⟩).runT P w #[]=(.ok (.value (.pointer (some A))) w,#[]):=by
 obtain⟨i,c,d, -⟩:=T.i8;simp[execOp,h,convert,me T.u,me T.up,Conv.unsafePointer,Conv.seenAt,viewAt,a,variablesAt,b,sizeOf,typeInfo,c,d]
theorem aqD{u:Option Addr}(h:e x=.pointer (some A))(d:e y=.pointer u)(g:w.cell? A=some v)(c:w.frozen? A=false):(execOp e ⟨dst,.store 160 x y,ty,pos,af,gd⟩).runT P w #[]=(.ok .skip (w.setCell A (.pointer u)),#[⟨.cell A,true,false⟩]):=by
 obtain⟨i,j,k⟩:=T.i6;have a:(Sem.store .plain A (.pointer u) (Sem.pure ())).runT P w #[]=(.ok () (w.setCell A (.pointer u)),#[⟨.cell A,true,false⟩]):=by
  unfold Sem.runT;simp only[g,c,kw,qF];rfl
 have f:(store A (.pointer u)).run P w=.ok () (w.setCell A (.pointer u)):=by
  rw[<-rj _ _ _ #[]];exact jn Prod.fst a
 have b:(store A (.pointer u)).events P w #[]=#[⟨.cell A,true,false⟩]:=jn Prod.snd a;simp[execOp,h,d,Instr.storeAt,Instr.sureAddr,storeVar,sizeOf,typeInfo,j,k,Value.cells,storeCells,Addr.add,f,b]
end
end
section
open Go.Conc Go.ConcN
abbrev nNE:FuncId:=137
def atT:f137.body.isNone=true:=by kernel_rfl
def ne_next:Extern.findNext f137=none:=by kernel_rfl
def atU:Extern.find f137=some Extern.AbiNoEscape.same:=by kernel_rfl
def afj{fn:Func}{s:Array Value->Sem Value}{args:Array Value}(c:P.funcs[f]?=some fn)(e:(fn.name == "runtime.NumGoroutine")=false)(g:fn.body.isNone=true)(j:Extern.findNext fn=none)(d:Extern.find fn=some s)(i:s args=Sem.pure v) :
  (callFunc f args).runT P w #[]=(.ok (.value v) w,#[⟨.mark (.extern f),false,true⟩]):=by
 unfold callFunc;have a:¬fn.name= "runtime.NumGoroutine" :=by simpa using e
 have b:fn.body=none:=by simpa using g
 simp[c,a,b,j,d,i]
section
variable {w:World} {e:Operand->Value} {x:Operand} {v:Value} {dst:Option Tmp} {ty:TypeId} {pos:String} {af:Array Edge} {gd:Option (Nat×Bool)} {ts:Array TypeId}
def aqE(d:e (.func nNE)=.func (.func nNE) #[] #[]):(execOp e ⟨dst,.call ⟨.value (.func nNE),#[x],ts⟩,ty,pos,af,gd⟩).runT prog w #[]=(.ok (.value (e x)) w,#[⟨.mark (.extern nNE),false,true⟩]):=by
 have a:Array.map e #[x]=#[e x]:=by simp
 have b:execOp e ⟨dst,.call ⟨.value (.func nNE),#[x],ts⟩,ty,pos,af,gd⟩=callFunc nNE #[e x]:=by
  simp only[execOp,resolve,a,d];simp[Deferred.ofValue,invoke];try rfl
 rw[b];exact afj func137 (cB func137) atT ne_next atU rfl
def aob(a:e (.func nNE)=.func (.func nNE) #[] #[])(h:e x=v):(execOp e ⟨dst,.call ⟨.value (.func nNE),#[x],ts⟩,ty,pos,af,gd⟩).runT prog w #[]=(.ok (.value v) w,#[⟨.mark (.extern nNE),false,true⟩]):=by
 rw[aqE a,h]
end
section
variable {P:Program} {m:Bool} {fr:Frame} {xs base:List Frame} {ops:Array Oper} {i:Nat} {rest:List Nat} {k:List Item} {o:Oper} {w w2:World} {es:Array Event} {v:Value}
def amb (f:fr.mode=.run) (g:fr.kind=.normal) (b:fr.roundOf=none) (e:fr.todo=.inRegion ops (i::rest)::k) (n:ops[i]?=some o) (q:o.guard=none)
  (p:(execOp fr.eval o).runT P w #[]=(.ok (.value v) w2,es)):stepG P m (Gl (fr::xs) base) w=.go (Gl (fr.finish v::xs) base) w2 (seen P fr.fn es):=by
 obtain⟨fn,a,j,d,u,t,s⟩:=fr;dsimp only at f g b e;subst f g b e;have l:∀y,Region.wanted o y=true:=λy=>by unfold Region.wanted;rw[q]
 have r:stepG P m (Gl (⟨fn,a,.inRegion ops (i::rest)::k,d,.run,.normal,none⟩::xs) base) w =
   stepG.apply P true ⟨fn,a,.inRegion ops (i::rest)::k,d,.run,.normal,none⟩ (xs++base) none (execOp (Frame.eval ⟨fn,a,.inRegion ops (i::rest)::k,d,.run,.normal,none⟩) o) w:=by
  simp[Gl,stepG,stepG.exec,stepG.oper,Frame.oper?,n,l]
 rw[r];unfold stepG.apply;simp only[p,pr];have c:(CallKind.normal ==CallKind.early)=false:=rfl;simp[GStep.after,c,Gl]
def aeH (f:fr.mode=.run) (g:fr.kind=.normal) (b:fr.roundOf=none) (e:fr.todo=.inRegion ops (i::rest)::k) (n:ops[i]?=some o) (q:o.guard=none)
  (p:(execOp fr.eval o).runT P w #[]=(.ok .skip w2,es)):stepG P m (Gl (fr::xs) base) w=.go (Gl (fr.finish undef::xs) base) w2 (seen P fr.fn es):=by
 obtain⟨fn,a,j,d,u,t,s⟩:=fr;dsimp only at f g b e;subst f g b e;have l:∀y,Region.wanted o y=true:=λy=>by unfold Region.wanted;rw[q]
 have r:stepG P m (Gl (⟨fn,a,.inRegion ops (i::rest)::k,d,.run,.normal,none⟩::xs) base) w =
   stepG.apply P true ⟨fn,a,.inRegion ops (i::rest)::k,d,.run,.normal,none⟩ (xs++base) none (execOp (Frame.eval ⟨fn,a,.inRegion ops (i::rest)::k,d,.run,.normal,none⟩) o) w:=by
  simp[Gl,stepG,stepG.exec,stepG.oper,Frame.oper?,n,l]
 rw[r];unfold stepG.apply;simp only[p,pr];have c:(CallKind.normal ==CallKind.early)=false:=rfl;simp[GStep.after,c,Gl]
end
section
variable {P:Program} {main:Bool} {Rl:au->World->World->Prop} {Gr:au->au->World->World->Array Event->Prop} {St:au->Goroutine->World->Prop} {S Rr:au} {w0:World}
structure Cmp (Rl:au->World->World->Prop) (Gr:au->au->World->World->Array Event->Prop) (Rr:au):Prop where
 fK:∀S w,Rl S w w
 tr:∀S a b c,Rl S a b->Rl S b c->Rl S a c
 rl:∀S w w1,Rl S w w1->(∀b,S b\/Rr b->w1.heap[b]?=w.heap[b]?)/\w.heap.size<=w1.heap.size/\w1.ou=w.ou
 gr:∀S w w' es,(∀b,b<w.heap.size->¬S b->w'.heap[b]?=w.heap[b]?)->w.heap.size<=w'.heap.size->w'.ou=w.ou->(∀e∈es,mP (λb=>S b\/(w.heap.size<=b/\b<w'.heap.size)) Rr w'.heap.size e)->
   Gr S (λb=>S b\/(w.heap.size<=b/\b<w'.heap.size)) w w' es
def Cmp.same(C:Cmp Rl Gr Rr)(c:∀b,b<w.heap.size->¬S b->w'.heap[b]?=w.heap[b]?)(a:w'.heap.size=w.heap.size)(d:w'.ou=w.ou)(f:∀e∈es,mP S Rr w.heap.size e):Gr S S w w' es:=by
 have e:(λb=>S b\/(w.heap.size<=b/\b<w'.heap.size))=S:=by
  funext b
  rw[a];exact propext ⟨λh=>h.elim id λh=>absurd h.1 (by omega),.inl⟩
 have:=C.gr S w w' es c (oS a.symm) d (by rw[e,a];exact f);rw[e] at this;exact this
def bI.still (C:Cmp Rl Gr Rr) {fr:Frame} {base l2 : List Frame} {es:World->Array Event} (f:∀w,Rl S w0 w->stepG P main (Gl (fr::xs) base) w=.go (Gl l2 base) w (es w)) (d:∀w,Rl S w0 w->∀e∈es w,mP S Rr w.heap.size e)
  (g:∀w,Rl S w0 w->bI P main Rl Gr St S (Gl l2 base) w):∀w,Rl S w0 w->bI P main Rl Gr St S (Gl (fr::xs) base) w:=λw a=>
 .step rfl λb c=>⟨_,_,_,S,f b (C.tr _ _ _ _ a c),C.same (λ_ _ _=>rfl) rfl rfl (d b (C.tr _ _ _ _ a c)),g b (C.tr _ _ _ _ a c)⟩
variable {f:FuncId} {T:Array Value} {k:List Item} {xs base:List Frame}
def ep(C:Cmp Rl Gr Rr)(c:∀w,Rl S w0 w->bI P main Rl Gr St S (Gl (FQ f T (.code a :: .code b::k)::xs) base) w):∀w,Rl S w0 w->bI P main Rl Gr St S (Gl (FQ f T (.code (.seq a b)::k)::xs) base) w:=
 bI.still C (es:=λ_=>#[]) (λw _=>by simp[Gl,stepG,stepG.exec]) (λ_ _ e h=>by cases(by simpa using h:False)) c
def fN(C:Cmp Rl Gr Rr){id:Nat}{l:List Nat}(a:List.range Y.size=l)(b:∀w,Rl S w0 w->bI P main Rl Gr St S (Gl (FQ f T (.inRegion Y l::k)::xs) base) w):∀w,Rl S w0 w->bI P main Rl Gr St S (Gl (FQ f T (.code (.region id Y false)::k)::xs) base) w:=
 bI.still C (es:=λ_=>#[]) (λw _=>by subst a;simp[Gl,stepG,stepG.exec]) (λ_ _ e h=>by cases(by simpa using h:False)) b
def ig(C:Cmp Rl Gr Rr)(a:∀w,Rl S w0 w->bI P main Rl Gr St S (Gl (FQ f T k::xs) base) w):∀w,Rl S w0 w->bI P main Rl Gr St S (Gl (FQ f T (.inRegion Y []::k)::xs) base) w:=
 bI.still C (es:=λ_=>#[]) (λw _=>by simp[Gl,stepG,stepG.exec]) (λ_ _ e h=>by cases(by simpa using h:False)) a
def amQ(C:Cmp Rl Gr Rr)(a:∀w,Rl S w0 w->bI P main Rl Gr St S (Gl (FQ f T k::xs) base) w):∀w,Rl S w0 w->bI P main Rl Gr St S (Gl (FQ f T (.code .skip::k)::xs) base) w:=
 bI.still C (es:=λ_=>#[]) (λw _=>by simp[Gl,stepG,stepG.exec]) (λ_ _ e h=>by cases(by simpa using h:False)) a
def abW(C:Cmp Rl Gr Rr){t:Tmp}(c:T.getD t undef=.bool q)(g:∀w,Rl S w0 w->bI P main Rl Gr St S (Gl (FQ f T (.code (if q then a else b)::k)::xs) base) w):∀w,Rl S w0 w->bI P main Rl Gr St S (Gl (FQ f T (.code (.cond (.tmp t) a b)::k)::xs) base) w:=
 have d:Frame.eval (FQ f T (.code (.cond (.tmp t) a b)::k)) (.tmp t)=.bool q:=c
 bI.still C (es:=λ_=>#[]) (λw _=>by simp[Gl,stepG,stepG.exec,d]) (λ_ _ e h=>by cases(by simpa using h:False)) g
def azn (C:Cmp Rl Gr Rr)    {d:Tmp}  (a:Y[i]?=some o) (l:o.guard=none) (b:o.dst=some d)
  (j:∀w,Rl S w0 w->(execOp (FQ f T (.inRegion Y (i::rest)::k)).eval o).runT P w #[]=(.ok (.value v) w,es)) (g:∀w,Rl S w0 w->∀e∈seen P f es,mP S Rr w.heap.size e)
  (m:∀w,Rl S w0 w->bI P main Rl Gr St S (Gl (FQ f (T.setIfInBounds d v) (.inRegion Y rest::k)::xs) base) w):∀w,Rl S w0 w->bI P main Rl Gr St S (Gl (FQ f T (.inRegion Y (i::rest)::k)::xs) base) w:=
 bI.still C (l2:=FQ f (T.setIfInBounds d v) (.inRegion Y rest::k)::xs) (es:=λ_=>seen P f es) (λw c=>by
  rw[amb rfl rfl rfl rfl a l (j w c)];have:Frame.finish (FQ f T (.inRegion Y (i::rest)::k)) v=FQ f (T.setIfInBounds d v) (.inRegion Y rest::k):=by
   simp only[Frame.finish,a,qG,b]
  rw[this]) g m
def aiD(C:Cmp Rl Gr Rr){fn:Func}(b:P.funcs[f]?=some fn)(a:fn.results=#[])(d:∀w,Rl S w0 w->bI P main Rl Gr St S (Gl (y.finish (.tuple #[])::W) base) w):∀w,Rl S w0 w->bI P main Rl Gr St S (Gl (FQ f T []::y::W) base) w:=
 bI.still C (l2:=⟨f,T,[],[],.returning,.normal,none⟩::y::W) (es:=λ_=>#[]) (λw _=>by simp[Gl,stepG,stepG.exec]) (λ_ _ e h=>by cases(by simpa using h:False))
  (bI.still C (es:=λ_=>#[]) (λw _=>by
   have c:(results fn T).runT P w #[]=(.ok (.tuple #[]) w,#[]):=by simp[results,a]
   simp only[Gl,stepG,unwind,b,c];simp[doReturn,GStep.after,seen]) (λ_ _ e h=>by cases(by simpa using h:False)) d)
def aec(C:Cmp Rl Gr Rr){id:Nat}(b:∀w,Rl S w0 w->bI P main Rl Gr St S (Gl (FQ f T (.code a :: .inBlock id::k)::xs) base) w):∀w,Rl S w0 w->bI P main Rl Gr St S (Gl (FQ f T (.code (.block id a)::k)::xs) base) w:=
 bI.still C (es:=λ_=>#[]) (λw _=>by simp[Gl,stepG,stepG.exec]) (λ_ _ e h=>by cases(by simpa using h:False)) b
def amc(C:Cmp Rl Gr Rr)(b:∀w,Rl S w0 w->bI P main Rl Gr St S (Gl (FQ f T (.code a :: .inLoop a::k)::xs) base) w):∀w,Rl S w0 w->bI P main Rl Gr St S (Gl (FQ f T (.code (.loop a)::k)::xs) base) w:=
 bI.still C (es:=λ_=>#[]) (λw _=>by simp[Gl,stepG,stepG.exec]) (λ_ _ e h=>by cases(by simpa using h:False)) b
def aqF(C:Cmp Rl Gr Rr)(b:∀w,Rl S w0 w->bI P main Rl Gr St S (Gl (FQ f T (.code a :: .inLoop a::k)::xs) base) w):∀w,Rl S w0 w->bI P main Rl Gr St S (Gl (FQ f T (.inLoop a::k)::xs) base) w:=
 bI.still C (es:=λ_=>#[]) (λw _=>by simp[Gl,stepG,stepG.exec]) (λ_ _ e h=>by cases(by simpa using h:False)) b
def aiE(C:Cmp Rl Gr Rr){id:Nat}(a:∀w,Rl S w0 w->bI P main Rl Gr St S (Gl (FQ f T k::xs) base) w):∀w,Rl S w0 w->bI P main Rl Gr St S (Gl (FQ f T (.inBlock id::k)::xs) base) w:=
 bI.still C (es:=λ_=>#[]) (λw _=>by simp[Gl,stepG,stepG.exec]) (λ_ _ e h=>by cases(by simpa using h:False)) a
def amR(C:Cmp Rl Gr Rr){id:Nat}(a:exitTo id k=some k2)(b:∀w,Rl S w0 w->bI P main Rl Gr St S (Gl (FQ f T k2::xs) base) w):∀w,Rl S w0 w->bI P main Rl Gr St S (Gl (FQ f T (.code (.exit id)::k)::xs) base) w:=
 bI.still C (es:=λ_=>#[]) (λw _=>by simp[Gl,stepG,stepG.exec,a]) (λ_ _ e h=>by cases(by simpa using h:False)) b
end
section
variable {P:Program} {w:World} {e:Operand->Value} {x:Operand} {v:Value} {dst:Option Tmp} {ty:TypeId} {pos:String} {af:Array Edge} {gd:Option (Nat×Bool)}
def fp(h:e x=v):(execOp e ⟨dst,.move x,ty,pos,af,gd⟩).runT P w #[]=(.ok (.value v) w,#[]):=by rw[atS,h]
end
section
variable {P:Program} {main:Bool} {Rl:au->World->World->Prop} {Gr:au->au->World->World->Array Event->Prop} {St:au->Goroutine->World->Prop} {S Rr:au} {w0:World}
def bA(B:Nat):∀e∈seen P f #[],mP S Rr B e:=λe a=>by cases(by simpa using sT a:False)
def abX{wr:Bool}{B:Nat}(d:S A.block)(g:A.block<B):∀e∈seen P f #[⟨.cell A,wr,false⟩],mP S Rr B e:=λe c=>by
 have h:=sT c;simp only[so,oE,rz,tQ] at h;subst h;refine⟨λx a=>.inl ?_,λm b=>(by cases b),g⟩;simp[MemAct.ofEvent,MemAct.touch?] at a;rw[<-a];exact d
def axe{g : FuncId}{B:Nat}:∀e∈seen P f #[⟨.mark (.extern g),false,true⟩],mP S Rr B e:=λe b=>by
 have h:=sT b;simp only[so,oE,rz,tQ] at h;subst h;refine⟨λx c=> ?_,λm a=>.inl ⟨g,by cases a;rfl⟩,trivial⟩;simp[MemAct.ofEvent,MemAct.touch?] at c
def aeI(C:Cmp Rl Gr Rr)(a:S A.block)(h:Rl S w0 w):w.cell? A=w0.cell? A/\w.frozen? A=w0.frozen? A/\w.shape? A.block=w0.shape? A.block/\w0.heap.size<=w.heap.size:=by
 obtain⟨b,c, -⟩:=C.rl _ _ _ h;have e:=b A.block (.inl a);refine⟨fY e, ?_, ?_,c⟩
 .unfold World.frozen?;rw[e]
 .unfold World.shape?;rw[e]
def bj(w:World)(A:Addr)(v:Value){b:Nat}(h:A.block≠b):(w.setCell A v).heap[b]?=w.heap[b]?:=by
 unfold World.setCell;simp only[ph,bv h]
def aeJ (C:Cmp Rl Gr Rr) {T:Array Value} {base : List Frame}       (g:Y[i]?=some o) (n:o.guard=none) (j:o.dst=none)
  (m:∀w,Rl S w0 w->(execOp (FQ f T (.inRegion Y (i::rest)::k)).eval o).runT P w #[]=(.ok .skip (w.setCell A u),es)) (s:S A.block) (r:∀w,Rl S w0 w->∀e∈seen P f es,mP S Rr w.heap.size e)
  (q:∀w,Rl S w0 w->∀a,Rl S (w.setCell A u) a->bI P main Rl Gr St S (Gl (FQ f T (.inRegion Y rest::k)::xs) base) a):∀w,Rl S w0 w->bI P main Rl Gr St S (Gl (FQ f T (.inRegion Y (i::rest)::k)::xs) base) w:=λw l=>by
 refine .step rfl λa d=> ?_;have c:=C.tr _ _ _ _ l d;refine⟨_,_,_,S,aeH rfl rfl rfl rfl g n (m a c),C.same (λb _ p=>bj _ _ _ (λe=>p (e▸s))) (be _ _ _) rfl (r a c), ?_⟩;have:Frame.finish (FQ f T (.inRegion Y (i::rest)::k)) undef=FQ f T (.inRegion Y rest::k):=by
  simp only[Frame.finish,g,qG,j]
 rw[this];exact q a c _ (C.fK _ _)
def bK (C:Cmp Rl Gr Rr) {T:Array Value} {base : List Frame}    {d:Tmp}  (b:d<T.size) (c:Y[i]?=some o) (l:o.guard=none) (a:o.dst=some d)
  (g:∀w,Rl S w0 w->(execOp (FQ f T (.inRegion Y (i::rest)::k)).eval o).runT P w #[]=(.ok (.value v) w,es)) (n:∀w,Rl S w0 w->∀e∈seen P f es,mP S Rr w.heap.size e)
  (m:∀T':Array Value,T'.size=T.size->T'.getD d undef=v->(∀t,t≠d->T'.getD t undef=T.getD t undef)->∀w,Rl S w0 w->bI P main Rl Gr St S (Gl (FQ f T' (.inRegion Y rest::k)::xs) base) w):∀w,Rl S w0 w->bI P main Rl Gr St S (Gl (FQ f T (.inRegion Y (i::rest)::k)::xs) base) w:=
 azn C c l a g n (m _ (by simp) (by rw[aH b,dq rfl]) λt j=>by rw[aH b,bv j])
def aqG:Code->Code
 |.seq _ (.cond _ a _)=>a
 |c=>c
def aqH:Code->Code
 |.seq _ (.cond _ _ b)=>b
 |c=>c
def azo(C:Cmp Rl Gr Rr){T:Array Value}{base : List Frame}(c:20<=T.size)(e:T.getD 0 undef=.pointer (some A))(p:S A.block)(D:A.block<w0.heap.size)(s:w0.shape? A.block=some (X,n))(x:A.off<n)(z:liesAt prog prog.depth X (n / prog.cellsOf X) A.off 162 1=true)(E:w0.cell? A=some (.pointer none))(t:w0.frozen? A=false)(B:∀w,Rl S w0 w->∀r,Rl S (w.setCell A (.pointer (some A))) r->bI prog main Rl Gr St S (Gl (y.finish (.tuple #[])::W) base) r) :
  ∀w,Rl S w0 w->bI prog main Rl Gr St S (Gl (FC T [.code (aqG (f129.body.getD .skip))]::y::W) base) w:=by
 have F:=λw (h:Rl S w0 w)=>aeI (A:=A) C p h;simp only[f129,qo,aqG];refine fN C (l:=[0,1,2,3,4,5,6,7]) rfl ?_;refine bK C (d:=7) (v:=.pointer (some A)) (es:=#[]) (bd (by decide) c) rfl rfl rfl (λw b=>fp e) (λw b=>bA _) ?_;intro T a g o;replace c:=ap c (oS a.symm);replace e:=(o 0 (by decide)).trans e;refine bK C (d:=8) (v:=.pointer (some A)) (es:=#[]) (bd (by decide) c) rfl rfl rfl (λw b=>fp e) (λw b=>bA _) ?_;intro T a j o;replace c:=ap c (oS a.symm);replace e:=(o 0 (by decide)).trans e;replace g:=(o 7 (by decide)).trans g;refine bK C (d:=9) (v:=.pointer (some A)) (es:=#[]) (bd (by decide) c) rfl rfl rfl (λw b=>axd ccT j ((F w b).2.2.1.trans s) x) (λw b=>bA _) ?_;intro T a k o;replace c:=ap c (oS a.symm);replace e:=(o 0 (by decide)).trans e;replace g:=(o 7 (by decide)).trans g;replace j:=(o 8 (by decide)).trans j;refine bK C (d:=10) (v:=.pointer (some A)) (bd (by decide) c) rfl rfl rfl (λw b=>aob rfl k) (λw b=>axe) ?_;intro T a f o;replace c:=ap c (oS a.symm);replace e:=(o 0 (by decide)).trans e;replace g:=(o 7 (by decide)).trans g;replace j:=(o 8 (by decide)).trans j;replace k:=(o 9 (by decide)).trans k;refine bK C (d:=11) (v:=.pointer (some A)) (es:=#[]) (bd (by decide) c) rfl rfl rfl (λw b=>aqC ccT f ((F w b).2.2.1.trans s) z) (λw b=>bA _) ?_;intro T a i o;replace c:=ap c (oS a.symm);replace e:=(o 0 (by decide)).trans e;replace g:=(o 7 (by decide)).trans g;replace j:=(o 8 (by decide)).trans j;replace k:=(o 9 (by decide)).trans k;replace f:=(o 10 (by decide)).trans f;refine bK C (d:=12) (v:=.pointer (some A)) (es:=#[]) (bd (by decide) c) rfl rfl rfl (λw b=>akU g) (λw b=>bA _) ?_;intro T a m o;replace c:=ap c (oS a.symm);replace e:=(o 0 (by decide)).trans e;replace g:=(o 7 (by decide)).trans g;replace j:=(o 8 (by decide)).trans j;replace k:=(o 9 (by decide)).trans k;replace f:=(o 10 (by decide)).trans f;replace i:=(o 11 (by decide)).trans i;refine bK C (d:=13) (v:=.pointer (some A)) (es:=#[]) (bd (by decide) c) rfl rfl rfl (λw b=>aeG ccT m) (λw b=>bA _) ?_;intro T a q o;replace c:=ap c (oS a.symm);replace e:=(o 0 (by decide)).trans e;replace g:=(o 7 (by decide)).trans g;replace j:=(o 8 (by decide)).trans j;replace k:=(o 9 (by decide)).trans k;replace f:=(o 10 (by decide)).trans f;replace i:=(o 11 (by decide)).trans i;replace m:=(o 12 (by decide)).trans m;refine aeJ C (A:=A) (u:=.pointer (some A)) rfl rfl rfl (λw b=>aqD ccT (A:=A) (u:=some A) q i ((F w b).1.trans E) ((F w b).2.1.trans t)) p (λw b=>abX p (bd D (F w b).2.2.2)) ?_;intro w b;exact ig C (aiD C func129 rfl (B w b))
def azp(C:Cmp Rl Gr Rr){T:Array Value}{base : List Frame}(e:20<=T.size)(i:T.getD 0 undef=.pointer (some A))(m:S A.block)(t:A.block<w0.heap.size)(r:w0.cell? A=some (.pointer (some A)))(s:∀w,Rl S w0 w->∀p,Rl S (w.setCell A (.pointer (some A))) p->bI prog main Rl Gr St S (Gl (y.finish (.tuple #[])::W) base) p) :
  ∀w,Rl S w0 w->bI prog main Rl Gr St S (Gl (FC T [.code (aqH (f129.body.getD .skip))]::y::W) base) w:=by
 have F:=λw (h:Rl S w0 w)=>aeI (A:=A) C m h;simp only[f129,qo,aqH];refine ep C ?_;refine fN C (l:=[0,1,2,3,4,5]) rfl ?_;refine bK C (d:=14) (v:=.pointer (some A)) (es:=#[]) (bd (by decide) e) rfl rfl rfl (λw f=>fp i) (λw f=>bA _) ?_;intro T a b o;replace e:=ap e (oS a.symm);replace i:=(o 0 (by decide)).trans i;refine bK C (d:=15) (v:=.pointer (some A)) (es:=#[]) (bd (by decide) e) rfl rfl rfl (λw f=>akU b) (λw f=>bA _) ?_;intro T a c o;replace e:=ap e (oS a.symm);replace i:=(o 0 (by decide)).trans i;replace b:=(o 14 (by decide)).trans b;refine bK C (d:=16) (v:=.pointer (some A)) (es:=#[]) (bd (by decide) e) rfl rfl rfl (λw f=>aeG ccT c) (λw f=>bA _) ?_;intro T a g o;replace e:=ap e (oS a.symm);replace i:=(o 0 (by decide)).trans i;replace b:=(o 14 (by decide)).trans b;replace c:=(o 15 (by decide)).trans c;refine bK C (d:=17) (v:=.pointer (some A)) (bd (by decide) e) rfl rfl rfl (λw f=>amP ccT g ((F w f).1.trans r)) (λw f=>abX m (bd t (F w f).2.2.2)) ?_;intro T a j o;replace e:=ap e (oS a.symm);replace i:=(o 0 (by decide)).trans i;replace b:=(o 14 (by decide)).trans b;replace c:=(o 15 (by decide)).trans c;replace g:=(o 16 (by decide)).trans g;refine bK C (d:=18) (v:=.pointer (some A)) (es:=#[]) (bd (by decide) e) rfl rfl rfl (λw f=>fp i) (λw f=>bA _) ?_;intro T a k o;replace e:=ap e (oS a.symm);replace i:=(o 0 (by decide)).trans i;replace b:=(o 14 (by decide)).trans b;replace c:=(o 15 (by decide)).trans c;replace g:=(o 16 (by decide)).trans g;replace j:=(o 17 (by decide)).trans j;refine bK C (d:=19) (v:=.bool false) (es:=#[]) (bd (by decide) e) rfl rfl rfl (λw f=>axc ccT (A:=A) j k) (λw f=>bA _) ?_;intro T a n o;replace e:=ap e (oS a.symm);replace i:=(o 0 (by decide)).trans i;replace b:=(o 14 (by decide)).trans b;replace c:=(o 15 (by decide)).trans c;replace g:=(o 16 (by decide)).trans g;replace j:=(o 17 (by decide)).trans j;replace k:=(o 18 (by decide)).trans k;refine ig C ?_;refine abW C (q:=false) n ?_;simp only[qF,kw];refine amQ C ?_;refine aiD C func129 rfl ?_;intro w f;refine s w f w ?_;rw[ag4 ((F w f).1.trans r)];exact C.fK _ _
def aqI(C:Cmp Rl Gr Rr){T:Array Value}{base : List Frame}(c:20<=T.size)(g:T.getD 0 undef=.pointer (some A))(j:S A.block)(t:A.block<w0.heap.size)(J:w0.shape? A.block=some (X,n))(H:A.off<n)(I:liesAt prog prog.depth X (n / prog.cellsOf X) A.off 162 1=true)(u:w0.cell? A=some v)(G:w0.frozen? A=false)(E:v=.pointer none\/v=.pointer (some A))(B:∀w,Rl S w0 w->∀z,Rl S (w.setCell A (.pointer (some A))) z->bI prog main Rl Gr St S (Gl (y.finish (.tuple #[])::W) base) z) :
  ∀w,Rl S w0 w->bI prog main Rl Gr St S (Gl (FC T [.code (f129.body.getD .skip)]::y::W) base) w:=by
 have F:=λw (h:Rl S w0 w)=>aeI (A:=A) C j h;obtain⟨a,rfl⟩:∃a,v=.pointer a:=E.elim (λe=>⟨_,e⟩) λe=>⟨_,e⟩;have x:=λ(p:Array Value) (b:20<=p.size) (f:p.getD 0 undef=.pointer (some A)) (k:w0.cell? A=some (.pointer none))=>azo (T:=p) C b f j t J H I k G B
 have D:=λ(p:Array Value) (b:20<=p.size) (f:p.getD 0 undef=.pointer (some A)) (k:w0.cell? A=some (.pointer (some A)))=>azp (T:=p) C b f j t k B
 simp only[f129,qo,aqG,aqH] at x D ⊢;refine ep C ?_;refine fN C (l:=[0,1,2,3,4]) rfl ?_;refine bK C (d:=2) (v:=.pointer (some A)) (es:=#[]) (bd (by decide) c) rfl rfl rfl (λw i=>fp g) (λw i=>bA _) ?_;intro T b f o;replace c:=ap c (oS b.symm);replace g:=(o 0 (by decide)).trans g;refine bK C (d:=3) (v:=.pointer (some A)) (es:=#[]) (bd (by decide) c) rfl rfl rfl (λw i=>akU f) (λw i=>bA _) ?_;intro T b m o;replace c:=ap c (oS b.symm);replace g:=(o 0 (by decide)).trans g;replace f:=(o 2 (by decide)).trans f;refine bK C (d:=4) (v:=.pointer (some A)) (es:=#[]) (bd (by decide) c) rfl rfl rfl (λw i=>aeG ccT m) (λw i=>bA _) ?_;intro T b r o;replace c:=ap c (oS b.symm);replace g:=(o 0 (by decide)).trans g;replace f:=(o 2 (by decide)).trans f;replace m:=(o 3 (by decide)).trans m;refine bK C (d:=5) (v:=.pointer a) (bd (by decide) c) rfl rfl rfl (λw i=>amP ccT r ((F w i).1.trans u)) (λw i=>abX j (bd t (F w i).2.2.2)) ?_;intro T b s o;replace c:=ap c (oS b.symm);replace g:=(o 0 (by decide)).trans g;replace f:=(o 2 (by decide)).trans f;replace m:=(o 3 (by decide)).trans m;replace r:=(o 4 (by decide)).trans r;refine bK C (d:=6) (v:=.bool a.isNone) (bd (by decide) c) rfl rfl rfl (λw i=>axb ccT (a:=a) s rfl) (λw i=>bA _) ?_;intro T b K o;replace c:=ap c (oS b.symm);replace g:=(o 0 (by decide)).trans g;replace f:=(o 2 (by decide)).trans f;replace m:=(o 3 (by decide)).trans m;replace r:=(o 4 (by decide)).trans r;replace s:=(o 5 (by decide)).trans s;refine ig C ?_;refine abW C (q:=a.isNone) K ?_;rcases E with e|e
 .cases e;simp only[Option.isNone_none,pr];exact x _ c g u
 .cases e;simp only[Option.isNone_some,qF,kw];exact D _ c g u
end
noncomputable def aqJ(f:FuncId):Bool:=match prog.funcs[f]? with
 |some fn=>!(fn.name == "loop.example/depositary/impl.fetchAll" || fn.name == "(*strings.Builder).copyCheck")||f ==cf||f ==nCC
 |none=>true
def akV:(List.range prog.funcs.size).all aqJ=true:=by kernel_rfl
def xp(h:gH f=true):f=cf\/f=nCC:=by
 unfold gH at h;cases b:prog.funcs[f]? with
 |none=>rw[b] at h;cases h
 |some fn=>
  rw[b] at h;have a:=lE.1 akV f (qr.2 (dl.1 b).1);unfold aqJ at a;rw[b] at a;dsimp only at h a;rw[h] at a;simpa using a
def aqK :Frame.enter prog nCC Q .normal=FC (T0C Q) [.code (f129.body.getD .skip)]:=by
 unfold Frame.enter;rw[func129];rfl
def aqL(d:w.shape? A.block=some (e,n))(a:w.cell? A=some v):A.off<n:=by
 unfold World.shape? at d;unfold World.cell? at a;cases f:w.heap[A.block]? with
 |none=>rw[f] at a;simp at a
 |some o=>
  rw[f] at d a;cases o with
  |cells c t z=>
   cases b:A.spot with
   |some s=>simp[b] at a
   |none=>
    simp[b] at a d;have:=(dl.1 a).1;omega
  |_=>simp at a
def aap{b:Nat}(h:R.heap[b]?=w.heap[b]?):(R.setCell A u).heap[b]?=(w.setCell A u).heap[b]?:=by
 unfold World.setCell;simp only[ph,h]
section
variable {β main:Bool} {Rl:au->World->World->Prop} {Gr:au->au->World->World->Array Event->Prop} {Rr:au} {R:List Frame->World->Prop}
def afD(C:Cmp Rl Gr Rr){base:List Frame}:xd (ah β) prog R Rr main Rl Gr base:=by
 intro f c ρ a T m m' l S hf q ha M hc G hg hW E;obtain rfl:f=nCC:=(xp hf).resolve_left q;obtain⟨_,_,y,ys,rfl,rfl⟩:=M.ne';obtain⟨A,v,e,n,c1,X,h0,I,V,d,P,Z,⟨N,r⟩,B,i,z⟩:=atQ ha M hc G hg hW;have j:ρ.r N.block A.block:=by cases r with|mk h o s=>exact h
 have x:S A.block:=by
  rcases E _ _ j with h|⟨_,Q,W⟩
  .exact h
  .exact(B _ j Q W).elim
 have hB:A.block<l.heap.size:=(G.lt j).2;have U:20<=(T0C T).size:=by simp only[T0C,rZ,sQ];omega
 rw[aqK];have F:liesAt prog prog.depth e (n / prog.cellsOf e) A.off 162 1=true:=by
  rw[<-V];exact(apO prog _ _ _ _ _ _ _).symm
 refine aqI C U h0 x hB I (aqL I d) F d P Z (λw cE w1 u=> ?_) l (C.fK _ _);refine .stop λw2 t=> ?_;have K:=i.kept;have p:(l.setCell A (.pointer (some A))).heap.size=l.heap.size:=be _ _ _;have g:=E.step i.wr K;have hS:(λb=>S b\/(l.heap.size<=b/\b<(l.setCell A (.pointer (some A))).heap.size))=S:=by
  funext b
  rw[p];exact propext ⟨λh=>h.elim id λh=>absurd h.1 (by omega),.inl⟩
 rw[hS] at g;obtain⟨J,r2,O⟩:=C.rl _ _ _ cE;obtain⟨H,s2,Y⟩:=C.rl _ _ _ (C.tr _ _ _ _ u t);refine⟨c1,X,_,z,i.le,λ_ k=>k,rfl,⟨i.st, ?_,i.gl,i.will,g⟩,.amM K λb D k=> ?_⟩
 case refine_2=>
  have L:=(E b D k).imp (λh=>h) (λh=>h.1);exact(H D L).trans (aap (J D L))
 refine i.wr.rely g (λb k=>(H b k).trans (aap (J b k))) ?_ ?_
 .rw[p];have:(w.setCell A (.pointer (some A))).heap.size=w.heap.size:=be _ _ _;omega
 .exact Y.trans O
end
structure FaT (P:Program):Prop where
 u3:P.underlying 3=some (.int .i64)
 u9:P.underlying 9=some .string
 u23:P.underlying 23=some (.slice 54)
 u31:P.underlying 87=some (.slice 3)
 u38:P.underlying 52=some (.slice 60)
 ag5:P.underlying 111=some (.slice 124)
 atV:∃ms,P.underlying 164=some (.interface ms)
 u40:∃fs g0 g1,P.underlying 54=some (.struct fs)/\fs[0]?=some g0/\fs[1]?=some g1/\g0.offset=0/\g0.type=3/\g1.offset=1/\g1.type=52
 atW:∃fs g0 g1,P.underlying 60=some (.struct fs)/\fs[0]?=some g0/\fs[1]?=some g1/\g0.offset=0/\g0.type=3/\g1.offset=1/\g1.type=9
 atX:∃fs,P.underlying 124=some (.struct fs)
 i3:∃i,P.info? 3=some i/\i.size=1
 i40:∃i,P.info? 54=some i/\i.size=2
 i110:∃i,P.info? 60=some i/\i.size=2
 adw:∃i,P.info? 124=some i/\i.size=2/\i.bytes=24/\i.zero=some (.agg #[.string ⟨#[]⟩,.bool false])
 akW:∃i,P.info? 111=some i/\i.size=1/\i.zero=some (.slice none 0 0)
def atY:((prog.info? 3).map (·.size ==1)=some true/\(prog.info? 54).map (·.size ==2)=some true)/\((prog.info? 60).map (·.size ==2)=some true/\(prog.info? 124).map (λi=>i.size ==2&&i.bytes ==24)=some true):=by
 refine⟨⟨?_, ?_⟩, ?_, ?_⟩<;>kernel_rfl
def azq:(prog.info? 124).map (·.zero)=some (some (.agg #[.string ⟨#[]⟩,.bool false])):=by kernel_rfl
def azr:(prog.info? 111).map (λi=>(i.size,i.zero))=some (1,some (.slice none 0 0)):=by kernel_rfl
def faT:FaT prog where
 u3:=underlying3
 u9:=underlying9
 u23:=underlying23
 u31:=underlying87
 u38:=underlying52
 ag5:=underlying111
 atV:=⟨_,underlying164⟩
 u40:=⟨_,_,_,underlying54,rfl,rfl,rfl,rfl,rfl,rfl⟩
 atW:=⟨_,_,_,underlying60,rfl,rfl,rfl,rfl,rfl,rfl⟩
 atX:=⟨_,underlying124⟩
 i3:=let⟨i,h,k⟩:=lc.1 atY.1.1;⟨i,h,by simpa using k⟩
 i40:=let⟨i,h,k⟩:=lc.1 atY.1.2;⟨i,h,by simpa using k⟩
 i110:=let⟨i,h,k⟩:=lc.1 atY.2.1;⟨i,h,by simpa using k⟩
 adw:=by
  obtain⟨i,h,k⟩:=lc.1 atY.2.2;have z:=azq;rw[h] at z;simp only[ff,nF] at k;exact⟨i,h,k.1,k.2,by simpa using z⟩
 akW:=by
  obtain⟨i,h,k⟩:=lc.1 azr;simp only[uT] at k;exact⟨i,h,k.1,k.2⟩
def faQ(β:Bool):FaT (ah β) where
 u3:=(cF prog _ _).trans faT.u3
 u9:=(cF prog _ _).trans faT.u9
 u23:=(cF prog _ _).trans faT.u23
 u31:=(cF prog _ _).trans faT.u31
 u38:=(cF prog _ _).trans faT.u38
 ag5:=(cF prog _ _).trans faT.ag5
 atV:=let⟨d,h⟩:=faT.atV;⟨d,(cF prog _ _).trans h⟩
 u40:=let⟨a,b,c,h,k⟩:=faT.u40;⟨a,b,c,(cF prog _ _).trans h,k⟩
 atW:=let⟨a,b,c,h,k⟩:=faT.atW;⟨a,b,c,(cF prog _ _).trans h,k⟩
 atX:=let⟨d,h⟩:=faT.atX;⟨d,(cF prog _ _).trans h⟩
 i3:=let⟨i,h,k⟩:=faT.i3;⟨i,(jR prog _ _).trans h,k⟩
 i40:=let⟨i,h,k⟩:=faT.i40;⟨i,(jR prog _ _).trans h,k⟩
 i110:=let⟨i,h,k⟩:=faT.i110;⟨i,(jR prog _ _).trans h,k⟩
 adw:=let⟨i,h,k⟩:=faT.adw;⟨i,(jR prog _ _).trans h,k⟩
 akW:=let⟨i,h,k⟩:=faT.akW;⟨i,(jR prog _ _).trans h,k⟩
def ld{s:Sem Value}{a:Next}(h:(s.bind λv=>Sem.pure (Next.value v)).run P w=.ok a R):∃v,a=.value v/\s.run P w=.ok v R:=by
 obtain⟨v,b,d,c⟩:=dS (s:=s) h;cases(show Result.ok (Next.value v) b=Result.ok a R from c);exact⟨v,rfl,d⟩
section
variable {P:Program} {w w3:World} {e:Operand->Value} {x y:Operand} {nx:Next} {a b:Int} {dst:Option Tmp} {ty:TypeId} {pos:String} {af:Array Edge} {gd:Option (Nat×Bool)}
def jm(h:(execOp e ⟨dst,.assign x,ty,pos,af,gd⟩).run P w=.ok nx w3):∃v,nx=.value v/\(v=e x/\w3=w):=by
 cases(show Result.ok (Next.value (e x)) w=Result.ok nx w3 from h);exact⟨_,rfl,rfl,rfl⟩
def ag6(h:(execOp e ⟨dst,.move x,ty,pos,af,gd⟩).run P w=.ok nx w3):∃v,nx=.value v/\(v=e x/\w3=w):=by
 cases(show Result.ok (Next.value (e x)) w=Result.ok nx w3 from h);exact⟨_,rfl,rfl,rfl⟩
def aqM(d:e y=.int .i64 b)(h:(execOp e ⟨dst,.binOp .lss 3 x y 3,ty,pos,af,gd⟩).run P w=.ok nx w3):∃v,nx=.value v/\(∃a,e x=.int .i64 a/\v=.bool (decide (a<b))/\w3=w):=by
 obtain⟨v,rfl,f⟩:=ld (s:=binOp .lss 3 (e x) (e y)) h;have h:=f;refine⟨v,rfl, ?_⟩;rw[d] at h;generalize e x=u at h ⊢;cases u with
 |int k n=>
  by_cases c:k=.i64
  .subst c;cases(show Result.ok (.bool (decide (n<b))) w=Result.ok v w3 from h);exact⟨_,rfl,rfl,rfl⟩
  .simp only[binOp,c,ne_eq,not_false_eq_true,pr] at h;cases(show Result.halt _ _=Result.ok v w3 from h)
 |pointer p=>cases p<;>cases(show Result.halt _ _=Result.ok v w3 from h)
 |_=>cases(show Result.halt _ _=Result.ok v w3 from h)
def gj(i:e x=.int .i64 a)(d:e y=.int .i64 b)(h:(execOp e ⟨dst,.binOp .lss 3 x y 3,ty,pos,af,gd⟩).run P w=.ok nx w3):∃v,nx=.value v/\(v=.bool (decide (a<b))/\w3=w):=by
 obtain⟨v,rfl,j,c,f,g⟩:=aqM d h;rw[i] at c;cases c;exact⟨_,rfl,f,g⟩
def akX(h:(execOp e ⟨dst,.binOp .mul 3 x (.const (.int .i64 1)) 3,ty,pos,af,gd⟩).run P w=.ok nx w3)(c:e (.const (.int .i64 1))=.int .i64 1):∃v,nx=.value v/\(∃a,e x=.int .i64 a/\v=.int .i64 (IntKind.i64.wrap (a*1))/\w3=w):=by
 obtain⟨v,rfl,d⟩:=ld (s:=binOp .mul 3 (e x) (e (.const (.int .i64 1)))) h;have h:=d;refine⟨v,rfl, ?_⟩;rw[c] at h;generalize e x=u at h ⊢;cases u with
 |int k n=>
  by_cases b:k=.i64
  .subst b;cases(show Result.ok (.int .i64 (IntKind.i64.wrap (n*1))) w=Result.ok v w3 from h);exact⟨_,rfl,rfl,rfl⟩
  .simp only[binOp,b,ne_eq,not_false_eq_true,pr] at h;cases(show Result.halt _ _=Result.ok v w3 from h)
 |pointer p=>cases p<;>cases(show Result.halt _ _=Result.ok v w3 from h)
 |_=>cases(show Result.halt _ _=Result.ok v w3 from h)
def akY(d:e x=.int .i64 a)(c:e (.const (.int .i64 1))=.int .i64 1)(h:(execOp e ⟨dst,.binOp .add 3 x (.const (.int .i64 1)) 3,ty,pos,af,gd⟩).run P w=.ok nx w3):∃v,nx=.value v/\(v=.int .i64 (IntKind.i64.wrap (a+1))/\w3=w):=by
 obtain⟨v,rfl,b⟩:=ld (s:=binOp .add 3 (e x) (e (.const (.int .i64 1)))) h;have h:=b;rw[d,c] at h;cases(show Result.ok (.int .i64 (IntKind.i64.wrap (a+1))) w=Result.ok v w3 from h);exact⟨_,rfl,rfl,rfl⟩
def akZ(f:e x=.int .i64 a)(d:e y=.int .i64 b)(h:(execOp e ⟨dst,.binOp .eql 3 x y 3,ty,pos,af,gd⟩).run P w=.ok nx w3):∃v,nx=.value v/\(v=.bool (a ==b)/\w3=w):=by
 have g:eqGuard .eql 3 x y (e x) (e y)=Sem.pure ():=by rw[f,d];rfl
 have c:(((eqGuard .eql 3 x y (e x) (e y)).bind λ_=>binOp .eql 3 (e x) (e y)).bind λv=>Sem.pure (Next.value v)).run P w=.ok nx w3:=h;clear h;rw[g] at c;obtain⟨v,rfl,h⟩:=ld (s:=binOp .eql 3 (e x) (e y)) c;clear c;rw[f,d] at h;cases(show Result.ok (.bool (a ==b)) w=Result.ok v w3 from h);exact⟨_,rfl,rfl,rfl⟩
def po{a:Builtin}{t:Tmp}{s:Value->Sem Value}(d:∀c v,builtin a #[t0] ty c #[v]=(s v).bind λu=>Sem.pure (.value u)):execOp e ⟨dst,.call ⟨.builtin a,#[.tmp t],#[t0]⟩,ty,pos,af,gd⟩=(s (e (.tmp t))).bind λu=>Sem.pure (.value u):=by
 have b:Array.map e #[.tmp t]=#[e (.tmp t)]:=by simp
 simp only[execOp,resolve];rw[b];exact d _ _
def ag7{t:Tmp}(k:P.underlying t0=some (.slice X))(h:(execOp e ⟨dst,.call ⟨.builtin .len,#[.tmp t],#[t0]⟩,ty,pos,af,gd⟩).run P w=.ok nx w3) :
  ∃v,nx=.value v/\(∃A n c,e (.tmp t)=.slice A n c/\v=.int .i64 n/\w3=w):=by
 rw[po (s:=λv=>Builtin.len_ #[t0] ty #[v]) λ_ v=>rfl] at h;obtain⟨v,rfl,g⟩:=ld h;have h:=g;refine⟨v,rfl, ?_⟩;generalize e (.tmp t)=u at h ⊢;obtain⟨d,l,g,j⟩:=dS (s:=underlying t0) (f:=λd=>match d,u with
  |.string,.string s=>pure (goInt s.size)
  |.array n _,_=>pure (goInt n)
  |.pointer arr,_=>(underlying arr).bind λd=>match d with
   |.array n _=>pure (goInt n)
   |_=>stuck "len: pointer to array expected"
  |.slice _,.slice _ n _=>pure (goInt n)
  |.map _ _,.map none|.chan _ _,.chan none=>pure (goInt 0)
  |.map _ _,.map (some r)=>(getObj r).bind λo=>match o with
   |.map a _=>pure (goInt a.size)
   |_=>stuck "len: map expected"
  |.chan _ _,.chan (some r)=>(getObj r).bind λo=>match o with
   |.chan _ i _ _ _ b=>pure (goInt (if b then 0 else i.size))
   |_=>stuck "len: channel expected"
  |_,_=>stuck "len: string, array, pointer to array, slice, map or channel expected") h
 rw[me k] at g;cases g;cases u with
 |slice A n c=>
  cases(show Result.ok (.int .i64 n) w=Result.ok v w3 from j);exact⟨A,n,c,rfl,rfl,rfl⟩
 |_=>cases(show Result.halt _ _=Result.ok v w3 from j)
end
def aiF:TypeDesc->Bool
 |.struct _|.array .. =>false
 |_=>true
def atZ{s:Sem V}(h:kO P s){v:V}:s.run P w ≠ .ok v w':=λe=>by
 obtain⟨q,b,c,a, -⟩:=Leaves.au7 h w #[];rw[<-rj _ _ _ #[],a] at e;cases e
def aiG(k:IntKind)(x y:Int)(c:BoundsCode):kO P (boundsPanic k x y c:Sem V):=by
 rw[acn];refine iG ?_ λa=>eh _;split
 .exact λ_=>trivial
 .exact trivial
section
variable {P:Program} (F:FaT P) {w w3:World} {e:Operand->Value} {x y:Operand} {nx:Next} {dst:Option Tmp} {ty:TypeId} {pos:String} {af:Array Edge} {gd:Option (Nat×Bool)}
def ak0{t:Tmp}{A:Option Addr}(b:P.underlying t0=some (.slice X))(d:e (.tmp t)=.slice A n c)(h:(execOp e ⟨dst,.call ⟨.builtin .cap,#[.tmp t],#[t0]⟩,ty,pos,af,gd⟩).run P w=.ok nx w3) :
  ∃v,nx=.value v/\(v=.int .i64 c/\w3=w):=by
 rw[po (s:=λv=>Builtin.cap_ #[t0] ty #[v]) λ_ v=>rfl,d] at h;obtain⟨v,rfl,a⟩:=ld h;refine⟨v,rfl, ?_⟩;have:(Builtin.cap_ #[t0] ty #[.slice A n c]).run P w=.ok (.int .i64 c) w:=by
  simp[Builtin.cap_,me b,goInt]
 rw[this] at a;cases a;exact⟨rfl,rfl⟩
include F in
theorem at0{t:Tmp}(h:(execOp e ⟨dst,.call ⟨.builtin .len,#[.tmp t],#[9]⟩,ty,pos,af,gd⟩).run P w=.ok nx w3) :
  ∃v,nx=.value v/\(∃s:ByteArray,e (.tmp t)=.string s/\v=.int .i64 s.size/\w3=w):=by
 rw[po (s:=λv=>Builtin.len_ #[9] ty #[v]) λ_ v=>rfl] at h;obtain⟨v,rfl,a⟩:=ld h;refine⟨v,rfl, ?_⟩;generalize e (.tmp t)=u at a ⊢;cases u with
 |string s=>
  have:(Builtin.len_ #[9] ty #[.string s]).run P w=.ok (.int .i64 s.size) w:=by
   simp[Builtin.len_,me F.u9,goInt]
  rw[this] at a;cases a;exact⟨s,rfl,rfl,rfl⟩
 |_=>simp[Builtin.len_,me F.u9,stuck] at a
theorem aaq{t:TypeId}{a:TypeDesc}(b:P.underlying t=some a):Leaves P (λd=>d=a) (underlying t):=by
 unfold underlying;show Leaves P (λd=>d=a) (match P.underlying t with
  |some d=>pure d
  |none=>stuck "no such type")
 rw[b];exact rfl
theorem at1{t:TypeId}(a:P.underlying t=some (.struct S)):(isAgg t).run P w=.ok true w:=by simp[isAgg,me a]
theorem aiH{t:TypeId}(a:P.underlying t=some d)(b:aiF d=true):(isAgg t).run P w=.ok false w:=by
 cases d<;>first|(cases b;done)|simp[isAgg,me a]
theorem aeK(b:NoV P w A)(h:(load A).run P w=.ok v w3):w3=w/\w.cell? A=some v:=by
 have h:(Sem.load .plain A Sem.pure).run P w=.ok v w3:=h;unfold Sem.run at h;cases a:w.cell? A with
 |some u=>
  simp only[a,Sem.run,sE] at h;exact⟨h.2.symm,by rw[h.1]⟩
 |none=>
  obtain⟨e,c⟩:=(b.2 a).1 (Mode.plain ==.atomic);simp only[a,c] at h;cases h
theorem ag8{t:TypeId}(j:P.underlying t=some d)(i:aiF d=true)(l:e x=.pointer (some A))(m:NoV P w A)(h:(execOp e ⟨dst,.load t x,ty,pos,af,gd⟩).run P w=.ok nx w3) :
  ∃v,nx=.value v/\(w.cell? A=some v/\w3=w):=by
 obtain⟨v,rfl,g⟩:=ld (s:=Instr.loadAt t (e x)) h;refine⟨v,rfl, ?_⟩;rw[l] at g;obtain⟨q,r,a,k⟩:=dS (s:=isAgg t) (f:=λb=>if b then(sizeOf t).bind λn=>(loadCells A n).bind λc=>Sem.pure (Value.agg c) else load A) g;rw[aiH j i] at a;cases a;obtain⟨o,p⟩:=aeK m k;exact⟨p,o⟩
theorem aiI{t:TypeId}{i:TypeInfo}(D:P.underlying t=some (.struct S))(hi:P.info? t=some i)(B:i.size=2)(F:e x=.pointer (some A))(I:NoV P w A)(k:NoV P w (A.add 1))(h:(execOp e ⟨dst,.load t x,ty,pos,af,gd⟩).run P w=.ok nx w3) :
  ∃v,nx=.value v/\(∃d a,v=.agg #[d,a]/\w.cell? A=some d/\w.cell? (A.add 1)=some a/\w3=w):=by
 obtain⟨v,rfl,u⟩:=ld (s:=Instr.loadAt t (e x)) h;refine⟨v,rfl, ?_⟩;rw[F] at u;obtain⟨q,g,p,E⟩:=dS (s:=isAgg t) (f:=λb=>if b then(sizeOf t).bind λn=>(loadCells A n).bind λc=>Sem.pure (Value.agg c) else load A) u;rw[at1 D] at p;cases p;obtain⟨n,g,r,z⟩:=dS (s:=sizeOf t) (f:=λn=>(loadCells A n).bind λc=>Sem.pure (Value.agg c)) E;have:(sizeOf t).run P w=.ok 2 w:=by simp[sizeOf,typeInfo,hi,B]
 rw[this] at r;cases r;obtain⟨c,g,G,y⟩:=dS (s:=loadCells A 2) (f:=λc=>Sem.pure (Value.agg c)) z;cases(show Result.ok (.agg c) g=Result.ok v w3 from y);obtain⟨d,K,C,H⟩:=dS (s:=load (A.add 0)) (f:=λd=>(load (A.add 1)).bind λa=>Sem.pure #[d,a]) G;obtain⟨rfl,l⟩:=aeK I C;obtain⟨a,J,o,m⟩:=dS (s:=load (A.add 1)) (f:=λa=>Sem.pure #[d,a]) H;obtain⟨rfl,j⟩:=aeK k o;cases(show Result.ok #[d,a] _=Result.ok c _ from m);exact⟨d,a,rfl,l,j,rfl⟩
theorem abY{t:TypeId}{g:Field}{f:Nat}{cs:Array Value}(i:P.underlying t=some (.struct S))(c:S[f]?=some g)(j:P.underlying g.type=some d)(b:aiF d=true)(l:e x=.agg cs)(k:cs[g.offset]?=some u)(h:(execOp e ⟨dst,.field t x f,ty,pos,af,gd⟩).run P w=.ok nx w3) :
  ∃v,nx=.value v/\(v=u/\w3=w):=by
 obtain⟨v,rfl,a⟩:=ld (s:=Instr.field t (e x) f) h;refine⟨v,rfl, ?_⟩;rw[l] at a;have:(Instr.field t (.agg cs) f).run P w=.ok u w:=by
  simp[Instr.field,me i,c,asAgg,part,aiH j b,k]
 rw[this] at a;cases a;exact⟨rfl,rfl⟩
theorem abZ{t : TypeId}{i:TypeInfo}{A:Option Addr}{k : Nat}(f:P.underlying t=some (.slice X))(hi:P.info? X=some i)(l:e x=.slice A n c)(j:e y=.int .i64 k)(m:k<n)(h:(execOp e ⟨dst,.indexAddr t x y,ty,pos,af,gd⟩).run P w=.ok nx w3) :
  ∃v,nx=.value v/\(∃a,A=some a/\v=.pointer (some (a.add (k*i.size)))/\w3=w):=by
 obtain⟨v,rfl,b⟩:=ld (s:=Instr.indexAt t (e x) (e y)) h;refine⟨v,rfl, ?_⟩;rw[l,j] at b;have o:(0:Int)<=k/\(k:Int)<n:=by omega
 cases A with
 |none=>
  exfalso;have hd:kO P (Instr.indexAt t (.slice none n c) (.int .i64 k)):=by
   unfold Instr.indexAt;refine Leaves.bind (A:=λq=>q=(IntKind.i64,(k:Int))) rfl λq g=> ?_;subst g;refine Leaves.bind (aaq f) λd hd=> ?_;subst hd;refine Leaves.bind (s:=Sem.pure (none,n,X)) (A:=λq=>q=(none,n,X)) rfl λq g=> ?_;subst g;exact Leaves.bind (aaq f) λd hd=>aiG _ _ _ _
  exact atZ hd b
 |some a=>
  have:(Instr.indexAt t (.slice (some a) n c) (.int .i64 k)).run P w=.ok (.pointer (some (a.add (k*i.size)))) w:=by
   simp[Instr.indexAt,asIntOf,me f,m,sizeOf,typeInfo,hi]
  rw[this] at b;cases b;exact⟨a,rfl,rfl,rfl⟩
end
def ak1:Value->Bool
 |.agg _|.tuple _=>false
 |_=>true
section
variable {P:Program} (F:FaT P) {w w3:World} {e:Operand->Value} {x y:Operand} {nx:Next} {dst:Option Tmp} {ty:TypeId} {pos:String} {af:Array Edge} {gd:Option (Nat×Bool)}
def acH{c : Value}(b:ak1 u=true)(f:w.cell? A=some c)(d:w.frozen? A=false)(k:Sem V):(Sem.store .plain A u k).run P w=k.run P (w.setCell A u):=by
 have a:(∀x,u ≠ .agg x)/\∀x,u ≠ .tuple x:=⟨λx e=>(by subst e;cases b),λx e=>(by subst e;cases b)⟩;rw[<-rj _ _ _ #[],sb _ _ _ _ _ _ _ a.1 a.2];simp only[f,d,kw,qF];rw[rj]
def aqN :A.add 1≠A:=by
 unfold Addr.add;intro e;have:=jn Addr.off e;simp at this
include F in
theorem aoc{u0 u1 c0 c1:Value}(k:ak1 u0=true)(r:ak1 u1=true)(o:e x=.pointer (some A))(j:e y=.agg #[u0,u1])(a:w.cell? A=some c0)(d:w.frozen? A=false)(f:w.cell? (A.add 1)=some c1)(b:w.frozen? (A.add 1)=false) :
  (execOp e ⟨dst,.store 124 x y,ty,pos,af,gd⟩).run P w=.ok .skip ((w.setCell A u0).setCell (A.add 1) u1):=by
 obtain⟨i,m,t, -⟩:=F.adw;have p:(storeCells A [u0,u1] 0).run P w=.ok () ((w.setCell A u0).setCell (A.add 1) u1):=by
  show(Sem.store .plain (A.add 0) u0 (Sem.store .plain (A.add 1) u1 (Sem.pure ()))).run P w=_;have g:A.add 0=A:=by unfold Addr.add;simp
  rw[g,acH k a d,acH r (c:=c1) (by rw[tN _ _ _ _ (λe=>aqN e.symm)];exact f) (by rw[uA];exact b)];rfl
 have s:(storeVar 124 A (.agg #[u0,u1])).run P w=.ok () ((w.setCell A u0).setCell (A.add 1) u1):=by
  have l:(sizeOf 124).run P w=.ok 2 w:=by simp[sizeOf,typeInfo,m,t]
  unfold storeVar;show((sizeOf 124).bind λn=>if(Value.agg #[u0,u1]).cells.size≠n then stuck _ else storeCells A (Value.agg #[u0,u1]).cells.toList 0).run P w=_;rw[qP,l];exact p
 have:execOp e ⟨dst,.store 124 x y,ty,pos,af,gd⟩=(Instr.storeAt 124 (e x) (e y)).bind λ_=>Sem.pure .skip:=rfl;rw[this,o,j,qP];have q:(Instr.storeAt 124 (.pointer (some A)) (.agg #[u0,u1])).run P w=.ok () ((w.setCell A u0).setCell (A.add 1) u1):=s;rw[q];rfl
include F in
theorem aod{c0 : Value}(j:∃a n c,u=.slice a n c)(o:e x=.pointer (some A))(g:e y=u)(b:w.cell? A=some c0)(d:w.frozen? A=false) :
  (execOp e ⟨dst,.store 111 x y,ty,pos,af,gd⟩).run P w=.ok .skip (w.setCell A u):=by
 obtain⟨i,l,s, -⟩:=F.akW;obtain⟨a,n,c,rfl⟩:=j;have p:(storeCells A [.slice a n c] 0).run P w=.ok () (w.setCell A (.slice a n c)):=by
  show(Sem.store .plain (A.add 0) (.slice a n c) (Sem.pure ())).run P w=_;have f:A.add 0=A:=by unfold Addr.add;simp
  rw[f,acH rfl b d];rfl
 have r:(storeVar 111 A (.slice a n c)).run P w=.ok () (w.setCell A (.slice a n c)):=by
  have k:(sizeOf 111).run P w=.ok 1 w:=by simp[sizeOf,typeInfo,l,s]
  unfold storeVar;show((sizeOf 111).bind λm=>if(Value.slice a n c).cells.size≠m then stuck _ else storeCells A (Value.slice a n c).cells.toList 0).run P w=_;rw[qP,k];exact p
 have:execOp e ⟨dst,.store 111 x y,ty,pos,af,gd⟩=(Instr.storeAt 111 (e x) (e y)).bind λ_=>Sem.pure .skip:=rfl;rw[this,o,g,qP];have q:(Instr.storeAt 111 (.pointer (some A)) (.slice a n c)).run P w=.ok () (w.setCell A (.slice a n c)):=r;rw[q];rfl
include F in
theorem aqO:(execOp e ⟨dst,.alloc 111,ty,pos,af,gd⟩).run P w=.ok (.value (.pointer (some ⟨w.heap.size,0,none⟩))) (w.alloc (.cells #[.slice none 0 0] 111)):=by
 obtain⟨i,b,c,a⟩:=F.akW;have:execOp e ⟨dst,.alloc 111,ty,pos,af,gd⟩=(Instr.alloc 111 true (.tuple #[])).bind λv=>Sem.pure (.value v):=rfl;rw[this,qP];have:(Instr.alloc 111 true (.tuple #[])).run P w=.ok (.pointer (some ⟨w.heap.size,0,none⟩)) (w.alloc (.cells #[.slice none 0 0] 111)):=by
  simp[Instr.alloc,zeroValue,typeInfo,b,a,newVar,newRow,Value.cells]
 rw[this];rfl
include F in
theorem amS(t:(n:Int)<=2147483647)(o:e x=.int .i64 n):∃c:Array Value,c.size=2*n/\(execOp e ⟨dst,.makeSlice 111 x x,ty,pos,af,gd⟩).run P w=.ok (.value (.slice (some ⟨w.heap.size,0,none⟩) n n)) (w.alloc (.cells c 124)):=by
 obtain⟨i,a,r,g,p⟩:=F.adw;have k:IntKind.i64.wrap (n:Int)=n:=by
  unfold IntKind.wrap;simp[IntKind.signed,IntKind.bits];omega
 have q:¬(n:Int)<0:=by omega
 have s:¬(2:Int) ^ 48<24*n:=by omega
 have:execOp e ⟨dst,.makeSlice 111 x x,ty,pos,af,gd⟩=(Instr.makeSlice 111 (e x) (e x)).bind λv=>Sem.pure (.value v):=rfl;rw[this,o];have l:¬(281474976710656:Int)<24*n:=by omega
 have j:∀w,(sizeOf 124).run P w=.ok 2 w:=λw=>by simp[sizeOf,typeInfo,a,r]
 have d:∀m:Nat,(askRoom m).run P w=.ok () w:=λm=>by
  unfold askRoom;split<;>rfl
 by_cases f:n=0
 .subst f;refine⟨(Array.range 0).map λ_=>default,by simp, ?_⟩;rw[qP];have:(Instr.makeSlice 111 (.int .i64 (0:Nat)) (.int .i64 (0:Nat))).run P w=.ok (.slice (some ⟨w.heap.size,0,none⟩) 0 0) (w.alloc (.cells ((Array.range 0).map λ_=>default) 124)):=by
   simp[Instr.makeSlice,me F.ag5,asInt,asIntOf,typeInfo,a,g,d,j,newRow,(show IntKind.i64.wrap 0=0 by decide)]
  rw[this];rfl
 .refine⟨(Array.range (n*2)).map λi=>(#[.string ⟨#[]⟩,.bool false]:Array Value)[i % 2]!,by simp;omega, ?_⟩;rw[qP];have:(Instr.makeSlice 111 (.int .i64 n) (.int .i64 n)).run P w=.ok (.slice (some ⟨w.heap.size,0,none⟩) n n) (w.alloc (.cells ((Array.range (n*2)).map λi=>(#[.string ⟨#[]⟩,.bool false]:Array Value)[i % 2]!) 124)):=by
   have b:∀w,(zeroValue 124).run P w=.ok (.agg #[.string ⟨#[]⟩,.bool false]) w:=λw=>by simp[zeroValue,typeInfo,a,p]
   simp[Instr.makeSlice,me F.ag5,asInt,asIntOf,typeInfo,a,g,k,q,l,d,j,b,newRow,f,Value.cells];intro h;omega
  rw[this];rfl
end
def eG(h:w.cell? A=some v):A.block<w.heap.size:=by
 unfold World.cell? at h;cases a:w.heap[A.block]? with
 |none=>rw[a] at h;simp at h
 |some o=>exact(dl.1 a).1
structure Cx where
 R:List Frame->World->Prop
 c0:Cfg
 iy:Ren
 w0:World
 y:Frame
 ys:List Frame
def At(X:Cx)(T:Array Value)(k:List Item)(w:World):Prop:=45<=T.size/\∃c a,gV true X.R X.c0 X.iy X.w0 c a (FQ cf T k::X.y::X.ys) w
structure Tm (M:List Nat) (T T':Array Value):Prop where
 size:T'.size=T.size
 same:∀t,M.contains t=false->T'.getD t undef=T.getD t undef
def Tm.refl(M:List Nat)(T:Array Value):Tm M T T:=⟨rfl,λ_ _=>rfl⟩
def Tm.trans{T : Array Value}(h:Tm O T T')(k:Tm O T' Q):Tm O T Q:=⟨k.size.trans h.size,λt a=>(k.same t a).trans (h.same t a)⟩
def Tm.mono{T : Array Value}(h:Tm O T T')(b:∀t,O.contains t=true->rest.contains t=true):Tm rest T T':=⟨h.size,λt a=>h.same t (by
 cases e:O.contains t with
 |false=>rfl
 |true=>rw[b t e] at a;cases a)⟩
def Tm.sw{T : Array Value}{d:Nat}(h:Tm [d] T T')(b:cK.contains d=true):Tm cK T T':=h.mono λt a=>by
 simp at a;subst a;exact b
def Tm.one{T : Array Value}{d:Nat}(b:T'.size=T.size)(h:∀t,t≠d->T'.getD t undef=T.getD t undef):Tm [d] T T':=⟨b,λt a=>h t λe=>by subst e;simp at a⟩
def aeL{e:Operand->Value}{n:Tmp}{t ty:TypeId}{dst:Option Tmp}{pos:String}(f:e (.tmp n)=.tuple #[]):∀c a,(execOp e ⟨dst,.load t (.tmp n),ty,pos,af,gd⟩).run P w ≠ .ok c a:=λc a g=>by
 obtain⟨v,d,b,i⟩:=dS (s:=Instr.loadAt t (e (.tmp n))) g;rw[f] at b;cases(show Result.halt _ _=Result.ok v d from b)
section
variable {X:Cx} {T:Array Value} {k:List Item} {w w2:World}
def At.go(h:At X T k w)(b:∀base,stepG (ah true) true (Gl (FQ cf T k::X.y::X.ys) base) w=.go (Gl (FQ cf T k2::X.y::X.ys) base) w2 es):At X T k2 w2:=
 let⟨e,_,_,h⟩:=h;let⟨d,c,a,_,_⟩:=h.go rfl true b;⟨e,d,c,a⟩
def At.seq(h:At X T (.code (.seq a b)::k) w):At X T (.code a :: .code b::k) w:=h.go (es:=#[]) λbase=>by simp[Gl,stepG,stepG.exec]
def At.region{id:Nat}{l:List Nat}(a:List.range Y.size=l)(h:At X T (.code (.region id Y false)::k) w):At X T (.inRegion Y l::k) w:=h.go (es:=#[]) λbase=>by subst a;simp[Gl,stepG,stepG.exec]
def At.jb(h:At X T (.inRegion Y []::k) w):At X T k w:=h.go (es:=#[]) λbase=>by simp[Gl,stepG,stepG.exec]
def AtL(X:Cx)(T:Array Value)(k:List Item)(w:World):Prop:=45<=T.size/\∃c a,gV true X.R X.c0 X.iy X.w0 c a (FQ cf T k::X.y::X.ys) w/\ir (ah true) c X.c0
def At.azs(h:At X T (.inRegion Y []::k) w):AtL X T k w:=
 let⟨e,_,_,h⟩:=h;let⟨d,c,b,a,_⟩:=h.go (w2:=w) (x2:=FQ cf T k) (xs2:=X.y::X.ys) (es:=#[]) rfl true λbase=>by simp[Gl,stepG,stepG.exec]
 ⟨e,d,c,b,a⟩
def At.skip(h:At X T (.code .skip::k) w):At X T k w:=h.go (es:=#[]) λbase=>by simp[Gl,stepG,stepG.exec]
def At.cond{t:Tmp}(d:T.getD t undef=.bool q)(h:At X T (.code (.cond (.tmp t) a b)::k) w):At X T (.code (if q then a else b)::k) w:=h.go (es:=#[]) λbase=>by
 have c:Frame.eval (FQ cf T (.code (.cond (.tmp t) a b)::k)) (.tmp t)=.bool q:=d;simp[Gl,stepG,stepG.exec,c]
def At.block{id:Nat}(h:At X T (.code (.block id a)::k) w):At X T (.code a :: .inBlock id::k) w:=h.go (es:=#[]) λbase=>by simp[Gl,stepG,stepG.exec]
def At.loop(h:At X T (.code (.loop a)::k) w):At X T (.code a :: .inLoop a::k) w:=h.go (es:=#[]) λbase=>by simp[Gl,stepG,stepG.exec]
def At.again(h:At X T (.inLoop a::k) w):At X T (.code a :: .inLoop a::k) w:=h.go (es:=#[]) λbase=>by simp[Gl,stepG,stepG.exec]
def At.exit{id:Nat}(a:exitTo id k=some k2)(h:At X T (.code (.exit id)::k) w):At X T k2 w:=h.go (es:=#[]) λbase=>by simp[Gl,stepG,stepG.exec,a]
def At.no(h:At X T (.code (.refuse "")::k) w):False:=by
 obtain⟨a,c,b,h⟩:=h;exact h.no rfl true (o:=_) (w2:=w) (by simp only[Gl,stepG,stepG.exec];rfl)
def At.jo    {d:Tmp} {Φ:Value->World->Prop} (h:At X T (.inRegion Y (i::rest)::k) w) (A:Y[i]?=some o) (y:o.guard=none) (s:o.dst=some d) (l:d<45)
  (a:∀m j,(execOp (FQ cf T (.inRegion Y (i::rest)::k)).eval o).run (ah true) w=.ok m j->∃v,m=.value v/\Φ v j) :
  ∃v b n,Φ v b/\Tm [d] T n/\n.getD d undef=v/\At X n (.inRegion Y rest::k) b:=by
 obtain⟨f,c,D,h⟩:=h;obtain⟨v,b,z,C,q,r, -⟩:=h.op A y λm j g=>.inl (let⟨v,e,_⟩:=a m j g;⟨v,e⟩);have p:Φ v b:=by
  rcases q with g|⟨g, -⟩
  .obtain⟨u,e,B⟩:=a _ _ g;cases e;exact B
  .obtain⟨u,e, -⟩:=a _ _ g;cases e
 rw[s] at r;replace l:d<T.size:=bd l f;exact⟨v,b,_,p,.one (by simp) (λt x=>by rw[aH l,bv x]),by rw[aH l,dq rfl],by simpa using f,z,C,r⟩
def At.opk    (h:At X T (.inRegion Y (i::rest)::k) w) (j:Y[i]?=some o) (l:o.guard=none) (g:o.dst=none)
  (b:(execOp (FQ cf T (.inRegion Y (i::rest)::k)).eval o).run (ah true) w=.ok .skip w2):At X T (.inRegion Y rest::k) w2:=by
 obtain⟨d,c,q,h⟩:=h;obtain⟨v,p,n,m,e,f, -⟩:=h.op j l λs r a=>.inr (by rw[b] at a;cases a;rfl);rw[g] at f;rcases e with a|⟨a, -⟩
 .rw[b] at a;cases a
 .rw[b] at a;cases a;exact⟨d,n,m,f⟩
def At.noV    {t:Tmp} (h:At X T (.inRegion Y (i::rest)::k) w) (g:Y[i]?=some o) (m:o.guard=none) (b:pZ gA gL o.op=false) (e:T.getD t undef=.pointer (some A))
  (d:∀(e:Operand->Value) (w:World),e (.tmp t)=.tuple #[]->∀p j,(execOp e o).run (ah true) w ≠ .ok p j):NoV (ah true) w A/\NoV (ah true) w (A.add 1):=by
 obtain⟨l,c,q,h⟩:=h;obtain⟨x,f,n⟩:=h.aoa g m b t d;rw[e] at f;cases f with
 |pointer a=>cases a with
  |some a=>exact⟨h.wr.noV a,h.wr.noV (a.add 1)⟩
 |fH=>exact absurd rfl n
def At.azt(b:g∈gL)(h:At X T k w):NoV (ah true) w ⟨g,0,none⟩:=by
 obtain⟨a,c,d,h⟩:=h;exact h.wr.noV (.mk (h.gl g b) 0 none)
def At.chk{t:Tmp}(a:T.getD t undef=.bool q)(h:At X T (.code (.cond (.tmp t) (.refuse "") .skip)::k) w):q=false/\At X T k w:=by
 have h:=h.cond a;cases q with
 |true=>exact(h.no).elim
 |false=>exact⟨rfl,h.skip⟩
def At.axf{t:Tmp}(a:T.getD t undef=.bool q)(h:At X T (.code (.cond (.tmp t) .skip (.refuse ""))::k) w):q=true/\At X T k w:=by
 have h:=h.cond a;cases q with
 |false=>exact(h.no).elim
 |true=>exact⟨rfl,h.skip⟩
end
def In_(x:Int):Prop:= -9223372036854775808<=x/\x<=9223372036854775807
def aaY{x:Int}(h:(IntKind.i64.wrap (x*1) ==x)=true):In_ x:=by
 rw[nF] at h;unfold IntKind.wrap at h;simp[IntKind.signed,IntKind.bits] at h;unfold In_;omega
def aeM(h:(n:Int)<9223372036854775807):IntKind.i64.wrap ((n:Int)+1)=((n+1:Nat):Int):=by
 unfold IntKind.wrap;simp[IntKind.signed,IntKind.bits];omega
def eL{a b:Int}(h:decide (a<b)=false):b<=a:=by simpa using h
structure ag9 (w:World) (B:Option Addr) (i:Nat) (x:Int×ByteArray):Prop where
 c:∃a,B=some a/\w.cell? (a.add (i*2))=some (.int .i64 x.1)/\w.cell? ((a.add (i*2)).add 1)=some (.string x.2)
 i:In_ x.1
 s:(x.2.size:Int)<=9223372036854775807
def RdI(w:World)(B:Option Addr)(j:Nat)(l:List (Int×ByteArray)):Prop:=∀i x,l[i]?=some x->ag9 w B (j+i) x
abbrev inC(k:List Item):List Item:=.inLoop aaG :: .inBlock 52::k
abbrev mI:List Nat:=[4,5,9,10,11,13,15,26,25,22]
def Tm.mi{T : Array Value}{d:Nat}(h:Tm [d] T T')(b:mI.contains d=true):Tm mI T T':=h.mono λt a=>by
 simp at a;subst a;exact b
section
variable {X:Cx} {T:Array Value} {k:List Item} {w:World}
def At.azu{m : Nat}(h:At X T (.code aaG::inC k) w)(V:T.getD 27 undef=.slice B m c)(ja:T.getD 28 undef=.int .i64 m)(n:T.getD 5 undef=.int .i64 j)(hj:j<=m)(hm:(m:Int)<=9223372036854775807) :
  (j=m/\∃T',Tm mI T T'/\At X T' k w)\/(j<m/\∃x T',ag9 w B j x/\Tm mI T T'/\T'.getD 5 undef=.int .i64 (j+1:Nat)/\At X T' (.code aaG::inC k) w):=by
 have o:=Tm.refl mI T;unfold Go.Proofs.YtbeafkpaghapeaaGreatDoor.aaG at h;have h:=h.seq;replace h:=h.region (l:=[0]) rfl;obtain⟨v,A,T1,⟨g,f⟩,m,s4,b⟩:=h.jo (d:=4) (Φ:=λv i=>v=.bool (decide ((j:Int)<m))/\i=w) rfl rfl rfl (by decide) λy i q=>gj (by exact n) (by exact ja) q;rw[g] at s4;rw[f] at b;clear g f;replace n:=(m.same 5 rfl).trans n;replace V:=(m.same 27 rfl).trans V;replace o:=o.trans (m.mi rfl);clear m;replace h:=b;clear b;replace h:=h.jb.seq.cond s4;by_cases F:(j:Int)<m
 .right;rw[dj F] at h;simp only[pr] at h;replace h:=h.skip.seq.seq;replace h:=h.region (l:=[0,1,2,3,4]) rfl;obtain⟨ii,hi,hz⟩:=(faQ true).i110;obtain⟨fs,g0,g1,O,U,Y,Z,W,Q,M⟩:=(faQ true).atW;obtain⟨v,A,T2,⟨a,hB,g,f⟩,m,R,b⟩:=h.jo (d:=9) (Φ:=λv i=>∃a,B=some a/\v=.pointer (some (a.add (j*ii.size)))/\i=w) rfl rfl rfl (by decide) λy i q=>abZ (faQ true).u38 hi (by exact V) (by exact n) (by omega) q;rw[g,hz] at R;rw[f] at b;clear g f;replace n:=(m.same 5 rfl).trans n;replace o:=o.trans (m.mi rfl);clear m;replace h:=b;clear b;have hv:=h.noV (t:=9) rfl rfl rfl R (λe w he=>aeL he);obtain⟨v,A,T3,⟨E,C,g,L,a1,f⟩,m,r,b⟩:=h.jo (d:=10) (Φ:=λv i=>∃E C,v=.agg #[E,C]/\w.cell? (a.add (j*2))=some E/\w.cell? ((a.add (j*2)).add 1)=some C/\i=w) rfl rfl rfl (by decide) λy i q=>aiI O hi hz (by exact R) hv.1 hv.2 q;rw[g] at r;rw[f] at b;clear g f;replace n:=(m.same 5 rfl).trans n;replace o:=o.trans (m.mi rfl);clear m;replace h:=b;clear b;obtain⟨v,A,T4,⟨g,f⟩,m,u,b⟩:=h.jo (d:=11) (Φ:=λv i=>v=E/\i=w) rfl rfl rfl (by decide) λy i q=>abY O U (by rw[W];exact(faQ true).u3) rfl (by exact r) (by rw[Z];rfl) q;rw[g] at u;rw[f] at b;clear g f;replace n:=(m.same 5 rfl).trans n;replace r:=(m.same 10 rfl).trans r;replace o:=o.trans (m.mi rfl);clear m;replace h:=b;clear b;obtain⟨v,A,T5,⟨z,P,g,f⟩,m,I,b⟩:=h.jo (d:=13) (Φ:=λv i=>∃z,E=.int .i64 z/\v=.int .i64 (IntKind.i64.wrap (z*1))/\i=w) rfl rfl rfl (by decide) λy i q=>let⟨v,J,z,D,H,N⟩:=akX q rfl;⟨v,J,z,u.symm.trans D,H,N⟩
  rw[g] at I;rw[f] at b;clear g f;replace n:=(m.same 5 rfl).trans n;replace r:=(m.same 10 rfl).trans r;replace u:=(m.same 11 rfl).trans u;replace o:=o.trans (m.mi rfl);clear m;replace h:=b;clear b;subst P;obtain⟨v,A,T6,⟨g,f⟩,m,p,b⟩:=h.jo (d:=15) (Φ:=λv i=>v=.bool (IntKind.i64.wrap (z*1) ==z)/\i=w) rfl rfl rfl (by decide) λy i q=>akZ (by exact I) (by exact u) q;rw[g] at p;rw[f] at b;clear g f;replace n:=(m.same 5 rfl).trans n;replace r:=(m.same 10 rfl).trans r;replace o:=o.trans (m.mi rfl);clear m;replace h:=b;clear b;obtain⟨hq,b⟩:=h.jb.axf p;replace h:=b.seq.seq;clear b;replace h:=h.region (l:=[0,1,2]) rfl;obtain⟨v,A,T7,⟨g,f⟩,m,G,b⟩:=h.jo (d:=26) (Φ:=λv i=>v=C/\i=w) rfl rfl rfl (by decide) λy i q=>abY O Y (by rw[M];exact(faQ true).u9) rfl (by exact r) (by rw[Q];rfl) q;rw[g] at G;rw[f] at b;clear g f;replace n:=(m.same 5 rfl).trans n;replace p:=(m.same 15 rfl).trans p;replace o:=o.trans (m.mi rfl);clear m;replace h:=b;clear b;obtain⟨v,A,T8,⟨s,S,g,f⟩,m,K,b⟩:=h.jo (d:=25) (Φ:=λv i=>∃s:ByteArray,C=.string s/\v=.int .i64 s.size/\i=w) rfl rfl rfl (by decide) λy i q=>let⟨v,J,z,D,H,N⟩:=at0 (faQ true) q;⟨v,J,z,G.symm.trans D,H,N⟩
  rw[g] at K;rw[f] at b;clear g f;replace n:=(m.same 5 rfl).trans n;replace p:=(m.same 15 rfl).trans p;replace o:=o.trans (m.mi rfl);clear m;replace h:=b;clear b;subst S;clear p;obtain⟨v,A,T9,⟨g,f⟩,m,p,b⟩:=h.jo (d:=15) (Φ:=λv i=>v=.bool (decide ((9223372036854775807:Int)<s.size))/\i=w) rfl rfl rfl (by decide) λy i q=>gj rfl (by exact K) q;rw[g] at p;rw[f] at b;clear g f;replace n:=(m.same 5 rfl).trans n;replace o:=o.trans (m.mi rfl);clear m;replace h:=b;clear b;obtain⟨a0,b⟩:=h.jb.chk p;replace h:=b.region (l:=[0,1]) rfl;clear b;obtain⟨v,A,a3,⟨g,f⟩,m,oA,b⟩:=h.jo (d:=22) (Φ:=λv i=>v=.int .i64 (IntKind.i64.wrap ((j:Int)+1))/\i=w) rfl rfl rfl (by decide) λy i q=>akY (by exact n) rfl q;rw[g] at oA;rw[f] at b;clear g f;replace n:=(m.same 5 rfl).trans n;replace o:=o.trans (m.mi rfl);clear m;replace h:=b;clear b;clear n;obtain⟨v,A,a2,⟨g,f⟩,m,n,b⟩:=h.jo (d:=5) (Φ:=λv i=>v=.int .i64 (IntKind.i64.wrap ((j:Int)+1))/\i=w) rfl rfl rfl (by decide) λy i q=>let⟨v,J,D,H⟩:=ag6 q;⟨v,J,D.trans oA,H⟩
  rw[g] at n;rw[f] at b;clear g f;replace o:=o.trans (m.mi rfl);clear m;replace h:=b;clear b;rw[aeM (by omega)] at n;exact⟨by omega,(z,s),_,⟨⟨a,hB,L,a1⟩,aaY hq,eL a0⟩,o,n,h.jb.again⟩
 .left;rw[da F] at h;simp only[kw,qF] at h;exact⟨by omega,_,o,h.exit rfl⟩
def At.avU{B:Option Addr}{m c:Nat}(g:(m:Int)<=9223372036854775807):∀(n j:Nat) {T:Array Value},m=j+n->At X T (.code Go.Proofs.YtbeafkpaghapeaaGreatDoor.aaG::inC k) w->T.getD 27 undef=.slice B m c->T.getD 28 undef=.int .i64 m->T.getD 5 undef=.int .i64 j->
  ∃l T',l.length=n/\RdI w B j l/\Tm mI T T'/\At X T' k w
 |0,j,T,e,h,iR,ja,s5=>by
  rcases h.azu iR ja s5 (by omega) g with⟨_,T',u,t⟩|⟨d,_⟩
  .exact⟨[],T',rfl,λi x b=>by simp at b,u,t⟩
  .omega
 |n+1,j,T,e,h,iR,ja,s5=>by
  rcases h.azu iR ja s5 (by omega) g with⟨A,_⟩|⟨d,x,z,s,a,o,v⟩
  .omega
  .obtain⟨l,T',p,r,f,q⟩:=At.avU g n (j+1) (by omega) v ((a.same 27 rfl).trans iR) ((a.same 28 rfl).trans ja) o;refine⟨x::l,T',by simp[p],λi y b=> ?_,a.trans f,q⟩;cases i with
   |zero=>simp at b;subst b;exact s
   |succ i=>
    have:=r i y (by simpa using b);have e:j+1+i=j+(i+1):=by omega
    rwa [e] at this
end
structure azv (w:World) (A:Option Addr) (i:Nat) (x:Int×List (Int×ByteArray)):Prop where
 c:∃a B c,A=some a/\w.cell? (a.add (i*2))=some (.int .i64 x.1)/\w.cell? ((a.add (i*2)).add 1)=some (.slice B x.2.length c)/\1<=x.2.length/\x.2.length<=c/\(c:Int)<=9223372036854775807/\RdI w B 0 x.2
 i:In_ x.1
def RdP(w:World)(A:Option Addr)(j:Nat)(l:List (Int×List (Int×ByteArray))):Prop:=∀i x,l[i]?=some x->azv w A (j+i) x
def Rgd(X:Cx)(b:Nat):Prop:=(∃a,X.iy.r a b)\/X.w0.heap.size<=b
def PkR(X:Cx)(w:World)(A:Option Addr)(i:Nat):Prop:=∀a b n c,A=some a->w.cell? ((a.add (i*2)).add 1)=some (.slice (some b) n c)->Rgd X b.block
abbrev inB(k:List Item):List Item:=.inLoop aaH :: .inBlock 51::k
def azw(t:Nat)(h:mI.contains t=true):cK.contains t=true:=by
 simp only[mI,tj,List.contains_nil,uY,qV,nF] at h;rcases h with rfl|rfl|rfl|rfl|rfl|rfl|rfl|rfl|rfl|rfl<;>rfl
section
variable {X:Cx} {T:Array Value} {k:List Item} {w:World}
def adM{e:Operand->Value}{n:Tmp}{i ty : TypeId}{dst:Option Tmp}{pos:String}(g:P.underlying t0=some (.slice i))(j:e (.tmp n)=.tuple #[]):∀d a,(execOp e ⟨dst,.call ⟨.builtin .len,#[.tmp n],#[t0]⟩,ty,pos,af,gd⟩).run P w ≠ .ok d a:=λd a f=>by
 obtain⟨v,_,A,m,c,b,_⟩:=ag7 g f;rw[j] at b;cases b
def At.at2    {t:Tmp} (h:At X T (.inRegion Y (i::rest)::k) w) (j:Y[i]?=some o) (q:o.guard=none) (b:pZ gA gL o.op=false)
  (d:∀(e:Operand->Value) (w:World),e (.tmp t)=.tuple #[]->∀s l,(execOp e o).run (ah true) w ≠ .ok s l):∀a n c,T.getD t undef=.slice (some a) n c->a.block<w.heap.size:=λa n c e=>by
 obtain⟨p,c,u,h⟩:=h;obtain⟨x,g,r⟩:=h.aoa j q b t d;rw[e] at g;cases g with
 |slice f=>cases f with
  |some f=>obtain⟨m,_,_⟩:=f;exact(h.wr.lt m).2
 |fH=>exact absurd rfl r
def At.aha    {t:Tmp} (h:At X T (.inRegion Y (i::rest)::k) w) (j:Y[i]?=some o) (q:o.guard=none) (b:pZ gA gL o.op=false)
  (d:∀(e:Operand->Value) (w:World),e (.tmp t)=.tuple #[]->∀s l,(execOp e o).run (ah true) w ≠ .ok s l):∀a n c,T.getD t undef=.slice (some a) n c->Rgd X a.block:=λa n c e=>by
 obtain⟨p,c,u,h⟩:=h;obtain⟨x,g,r⟩:=h.aoa j q b t d;rw[e] at g;cases g with
 |slice f=>cases f with
  |some f=>
   obtain⟨m,_,_⟩:=f;exact(h.kept.new m).imp (λh=>⟨_,h⟩) (·.2)
 |fH=>exact absurd rfl r
def At.azx{A:Option Addr}{c0 : Nat}(h:At X T (.code aaH::inB k) w)(s1:T.getD 1 undef=.slice A n c0)(C:T.getD 16 undef=.int .i64 n)(y:T.getD 20 undef=.int .i64 j)(hj:j<=n)(hm:(n:Int)<=9223372036854775807) :
  (j=n/\∃T',Tm cK T T'/\At X T' k w)\/(j<n/\∃x T',azv w A j x/\PkR X w A j/\Tm cK T T'/\T'.getD 16 undef=.int .i64 n/\T'.getD 20 undef=.int .i64 (j+1:Nat)/\At X T' (.code aaH::inB k) w):=by
 have D:=Tm.refl cK T;unfold Go.Proofs.YtbeafkpaghapeaaGreatDoor.aaH at h;have h:=h.seq;replace h:=h.region (l:=[0]) rfl;obtain⟨v,K,af,⟨r,q⟩,m,g,f⟩:=h.jo (d:=21) (Φ:=λv s=>v=.bool (decide ((j:Int)<n))/\s=w) rfl rfl rfl (by decide) λJ s E=>gj (by exact y) (by exact C) E;rw[r] at g;rw[q] at f;clear r q;replace s1:=(m.same 1 rfl).trans s1;replace C:=(m.same 16 rfl).trans C;replace y:=(m.same 20 rfl).trans y;replace D:=D.trans (m.sw rfl);clear m;replace h:=f;clear f;replace h:=h.jb.seq.cond g;by_cases V:(j:Int)<n
 .right;rw[dj V] at h;simp only[pr] at h;replace h:=h.skip.seq.seq;replace h:=h.region (l:=[0,1,2,3,4]) rfl;obtain⟨ii,hi,hz⟩:=(faQ true).i40;obtain⟨fs,g0,g1,hu,a8,aa,ad,a9,a6,a3⟩:=(faQ true).u40;obtain⟨v,K,aI,⟨a,hB,r,q⟩,m,i,f⟩:=h.jo (d:=23) (Φ:=λv s=>∃a,A=some a/\v=.pointer (some (a.add (j*ii.size)))/\s=w) rfl rfl rfl (by decide) λJ s E=>abZ (faQ true).u23 hi (by exact s1) (by exact y) (by omega) E;rw[r,hz] at i;rw[q] at f;clear r q;replace s1:=(m.same 1 rfl).trans s1;replace C:=(m.same 16 rfl).trans C;replace y:=(m.same 20 rfl).trans y;replace g:=(m.same 21 rfl).trans g;replace D:=D.trans (m.sw rfl);clear m;replace h:=f;clear f;have hv:=h.noV (t:=23) rfl rfl rfl i (λe w he=>aeL he);obtain⟨v,K,al,⟨S,P,r,a2,a0,q⟩,m,o,f⟩:=h.jo (d:=24) (Φ:=λv s=>∃S P,v=.agg #[S,P]/\w.cell? (a.add (j*2))=some S/\w.cell? ((a.add (j*2)).add 1)=some P/\s=w) rfl rfl rfl (by decide) λJ s E=>aiI hu hi hz (by exact i) hv.1 hv.2 E;rw[r] at o;rw[q] at f;clear r q;replace s1:=(m.same 1 rfl).trans s1;replace C:=(m.same 16 rfl).trans C;replace y:=(m.same 20 rfl).trans y;replace g:=(m.same 21 rfl).trans g;replace i:=(m.same 23 rfl).trans i;replace D:=D.trans (m.sw rfl);clear m;replace h:=f;clear f;obtain⟨v,K,ao,⟨r,q⟩,m,p,f⟩:=h.jo (d:=25) (Φ:=λv s=>v=S/\s=w) rfl rfl rfl (by decide) λJ s E=>abY hu a8 (by rw[a9];exact(faQ true).u3) rfl (by exact o) (by rw[ad];rfl) E;rw[r] at p;rw[q] at f;clear r q;replace s1:=(m.same 1 rfl).trans s1;replace C:=(m.same 16 rfl).trans C;replace y:=(m.same 20 rfl).trans y;replace g:=(m.same 21 rfl).trans g;replace i:=(m.same 23 rfl).trans i;replace o:=(m.same 24 rfl).trans o;replace D:=D.trans (m.sw rfl);clear m;replace h:=f;clear f;obtain⟨v,K,ax,⟨z,a5,r,q⟩,m,u,f⟩:=h.jo (d:=26) (Φ:=λv s=>∃z,S=.int .i64 z/\v=.int .i64 (IntKind.i64.wrap (z*1))/\s=w) rfl rfl rfl (by decide) λJ s E=>let⟨v,a1,z,O,Y,a4⟩:=akX E rfl;⟨v,a1,z,p.symm.trans O,Y,a4⟩
  rw[r] at u;rw[q] at f;clear r q;replace s1:=(m.same 1 rfl).trans s1;replace C:=(m.same 16 rfl).trans C;replace y:=(m.same 20 rfl).trans y;replace g:=(m.same 21 rfl).trans g;replace i:=(m.same 23 rfl).trans i;replace o:=(m.same 24 rfl).trans o;replace p:=(m.same 25 rfl).trans p;replace D:=D.trans (m.sw rfl);clear m;replace h:=f;clear f;subst a5;obtain⟨v,K,aL,⟨r,q⟩,m,G,f⟩:=h.jo (d:=22) (Φ:=λv s=>v=.bool (IntKind.i64.wrap (z*1) ==z)/\s=w) rfl rfl rfl (by decide) λJ s E=>akZ (by exact u) (by exact p) E;rw[r] at G;rw[q] at f;clear r q;replace s1:=(m.same 1 rfl).trans s1;replace C:=(m.same 16 rfl).trans C;replace y:=(m.same 20 rfl).trans y;replace g:=(m.same 21 rfl).trans g;replace i:=(m.same 23 rfl).trans i;replace o:=(m.same 24 rfl).trans o;replace p:=(m.same 25 rfl).trans p;replace u:=(m.same 26 rfl).trans u;replace D:=D.trans (m.sw rfl);clear m;replace h:=f;clear f;obtain⟨hq,f⟩:=h.jb.axf G;replace h:=f.seq.seq;clear f;replace h:=h.region (l:=[0,1,2,3]) rfl;obtain⟨v,K,an,⟨r,q⟩,m,H,f⟩:=h.jo (d:=27) (Φ:=λv s=>v=P/\s=w) rfl rfl rfl (by decide) λJ s E=>abY hu aa (by rw[a3];exact(faQ true).u38) rfl (by exact o) (by rw[a6];rfl) E;rw[r] at H;rw[q] at f;clear r q;replace s1:=(m.same 1 rfl).trans s1;replace C:=(m.same 16 rfl).trans C;replace y:=(m.same 20 rfl).trans y;replace g:=(m.same 21 rfl).trans g;replace G:=(m.same 22 rfl).trans G;replace i:=(m.same 23 rfl).trans i;replace o:=(m.same 24 rfl).trans o;replace p:=(m.same 25 rfl).trans p;replace u:=(m.same 26 rfl).trans u;replace D:=D.trans (m.sw rfl);clear m;replace h:=f;clear f;have W:=h.aha (t:=27) rfl rfl rfl λe w he=>adM (faQ true).u38 he;rw[H] at W;obtain⟨v,K,aX,⟨B,m,c,a7,r,q⟩,m,I,f⟩:=h.jo (d:=28) (Φ:=λv s=>∃B m c,P=.slice B m c/\v=.int .i64 m/\s=w) rfl rfl rfl (by decide) λJ s E=>let⟨v,a1,B,m,c,O,Y,a4⟩:=ag7 (faQ true).u38 E;⟨v,a1,B,m,c,H.symm.trans O,Y,a4⟩
  rw[r] at I;rw[q] at f;clear r q;replace s1:=(m.same 1 rfl).trans s1;replace C:=(m.same 16 rfl).trans C;replace y:=(m.same 20 rfl).trans y;replace g:=(m.same 21 rfl).trans g;replace G:=(m.same 22 rfl).trans G;replace i:=(m.same 23 rfl).trans i;replace o:=(m.same 24 rfl).trans o;replace p:=(m.same 25 rfl).trans p;replace u:=(m.same 26 rfl).trans u;replace H:=(m.same 27 rfl).trans H;replace D:=D.trans (m.sw rfl);clear m;replace h:=f;clear f;subst a7;obtain⟨v,K,aY,⟨r,q⟩,m,M,f⟩:=h.jo (d:=3) (Φ:=λv s=>v=.int .i64 c/\s=w) rfl rfl rfl (by decide) λJ s E=>ak0 (faQ true).u38 (by exact H) E;rw[r] at M;rw[q] at f;clear r q;replace s1:=(m.same 1 rfl).trans s1;replace C:=(m.same 16 rfl).trans C;replace y:=(m.same 20 rfl).trans y;replace g:=(m.same 21 rfl).trans g;replace G:=(m.same 22 rfl).trans G;replace i:=(m.same 23 rfl).trans i;replace o:=(m.same 24 rfl).trans o;replace p:=(m.same 25 rfl).trans p;replace u:=(m.same 26 rfl).trans u;replace H:=(m.same 27 rfl).trans H;replace I:=(m.same 28 rfl).trans I;replace D:=D.trans (m.sw rfl);clear m;replace h:=f;clear f;obtain⟨v,K,aG,⟨r,q⟩,m,L,f⟩:=h.jo (d:=4) (Φ:=λv s=>v=.bool (decide ((m:Int)<1))/\s=w) rfl rfl rfl (by decide) λJ s E=>gj (by exact I) rfl E;rw[r] at L;rw[q] at f;clear r q;replace s1:=(m.same 1 rfl).trans s1;replace M:=(m.same 3 rfl).trans M;replace C:=(m.same 16 rfl).trans C;replace y:=(m.same 20 rfl).trans y;replace g:=(m.same 21 rfl).trans g;replace G:=(m.same 22 rfl).trans G;replace i:=(m.same 23 rfl).trans i;replace o:=(m.same 24 rfl).trans o;replace p:=(m.same 25 rfl).trans p;replace u:=(m.same 26 rfl).trans u;replace H:=(m.same 27 rfl).trans H;replace I:=(m.same 28 rfl).trans I;replace D:=D.trans (m.sw rfl);clear m;replace h:=f;clear f;obtain⟨U,f⟩:=h.jb.chk L;replace h:=f.seq.seq;clear f;replace h:=h.region (l:=[0]) rfl;clear L;obtain⟨v,K,b1,⟨r,q⟩,m,L,f⟩:=h.jo (d:=4) (Φ:=λv s=>v=.bool (decide ((9223372036854775807:Int)<c))/\s=w) rfl rfl rfl (by decide) λJ s E=>gj rfl (by exact M) E;rw[r] at L;rw[q] at f;clear r q;replace s1:=(m.same 1 rfl).trans s1;replace M:=(m.same 3 rfl).trans M;replace C:=(m.same 16 rfl).trans C;replace y:=(m.same 20 rfl).trans y;replace g:=(m.same 21 rfl).trans g;replace G:=(m.same 22 rfl).trans G;replace i:=(m.same 23 rfl).trans i;replace o:=(m.same 24 rfl).trans o;replace p:=(m.same 25 rfl).trans p;replace u:=(m.same 26 rfl).trans u;replace H:=(m.same 27 rfl).trans H;replace I:=(m.same 28 rfl).trans I;replace D:=D.trans (m.sw rfl);clear m;replace h:=f;clear f;obtain⟨N,f⟩:=h.jb.chk L;replace h:=f.seq.seq;clear f;replace h:=h.region (l:=[0]) rfl;clear L;obtain⟨v,K,aZ,⟨r,q⟩,m,L,f⟩:=h.jo (d:=4) (Φ:=λv s=>v=.bool (decide ((c:Int)<m))/\s=w) rfl rfl rfl (by decide) λJ s E=>gj (by exact M) (by exact I) E;rw[r] at L;rw[q] at f;clear r q;replace s1:=(m.same 1 rfl).trans s1;replace M:=(m.same 3 rfl).trans M;replace C:=(m.same 16 rfl).trans C;replace y:=(m.same 20 rfl).trans y;replace g:=(m.same 21 rfl).trans g;replace G:=(m.same 22 rfl).trans G;replace i:=(m.same 23 rfl).trans i;replace o:=(m.same 24 rfl).trans o;replace p:=(m.same 25 rfl).trans p;replace u:=(m.same 26 rfl).trans u;replace H:=(m.same 27 rfl).trans H;replace I:=(m.same 28 rfl).trans I;replace D:=D.trans (m.sw rfl);clear m;replace h:=f;clear f;obtain⟨R,f⟩:=h.jb.chk L;replace h:=f.seq;clear f;replace h:=h.region (l:=[0]) rfl;obtain⟨v,K,b0,⟨r,q⟩,m,s5,f⟩:=h.jo (d:=5) (Φ:=λv s=>v=.int .i64 (0:Nat)/\s=w) rfl rfl rfl (by decide) λJ s E=>jm E;rw[r] at s5;rw[q] at f;clear r q;replace s1:=(m.same 1 rfl).trans s1;replace M:=(m.same 3 rfl).trans M;replace L:=(m.same 4 rfl).trans L;replace C:=(m.same 16 rfl).trans C;replace y:=(m.same 20 rfl).trans y;replace g:=(m.same 21 rfl).trans g;replace G:=(m.same 22 rfl).trans G;replace i:=(m.same 23 rfl).trans i;replace o:=(m.same 24 rfl).trans o;replace p:=(m.same 25 rfl).trans p;replace u:=(m.same 26 rfl).trans u;replace H:=(m.same 27 rfl).trans H;replace I:=(m.same 28 rfl).trans I;replace D:=D.trans (m.sw rfl);clear m;replace h:=f;clear f;replace U:=eL U;replace N:=eL N;replace R:=eL R;replace h:=h.jb.seq.block.loop;obtain⟨l,T2,hl,E,F,f⟩:=At.avU (by omega) m 0 (by omega) h H I s5;replace h:=f.region (l:=[0,1]) rfl;clear f;replace s1:=(F.same 1 rfl).trans s1;replace M:=(F.same 3 rfl).trans M;clear L;clear s5;replace C:=(F.same 16 rfl).trans C;replace y:=(F.same 20 rfl).trans y;replace g:=(F.same 21 rfl).trans g;clear G;replace i:=(F.same 23 rfl).trans i;replace o:=(F.same 24 rfl).trans o;clear p;clear u;replace H:=(F.same 27 rfl).trans H;replace I:=(F.same 28 rfl).trans I;replace D:=D.trans (F.mono azw);clear F;obtain⟨v,K,ay,⟨r,q⟩,m,G,f⟩:=h.jo (d:=22) (Φ:=λv s=>v=.int .i64 (IntKind.i64.wrap ((j:Int)+1))/\s=w) rfl rfl rfl (by decide) λJ s E=>akY (by exact y) rfl E;rw[r] at G;rw[q] at f;clear r q;replace C:=(m.same 16 rfl).trans C;replace y:=(m.same 20 rfl).trans y;replace D:=D.trans (m.sw rfl);clear m;replace h:=f;clear f;clear y;obtain⟨v,K,aT,⟨r,q⟩,m,y,f⟩:=h.jo (d:=20) (Φ:=λv s=>v=.int .i64 (IntKind.i64.wrap ((j:Int)+1))/\s=w) rfl rfl rfl (by decide) λJ s E=>let⟨v,a1,O,Y⟩:=ag6 E;⟨v,a1,O.trans G,Y⟩
  rw[r] at y;rw[q] at f;clear r q;replace C:=(m.same 16 rfl).trans C;replace D:=D.trans (m.sw rfl);clear m;replace h:=f;clear f;rw[aeM (by omega)] at y;subst hl;exact⟨by omega,(z,l),_,⟨⟨a,B,c,hB,a2,a0,(by show 1<=l.length;omega),(by show l.length<=c;omega),N,E⟩,aaY hq⟩,λO b n2 c2 Q Z=>(by rw[hB] at Q;cases Q;rw[a0] at Z;exact W b n2 c2 (dk Z)),D,C,y,h.jb.again⟩
 .left;rw[da V] at h;simp only[kw,qF] at h;exact⟨by omega,_,D,h.exit rfl⟩
def At.avV{A:Option Addr}{m c:Nat}(o:(m:Int)<=9223372036854775807):∀(n j:Nat) {T:Array Value},m=j+n->At X T (.code aaH::inB k) w->T.getD 1 undef=.slice A m c->T.getD 16 undef=.int .i64 m->T.getD 20 undef=.int .i64 j->
  ∃l T',l.length=n/\RdP w A j l/\(∀i,i<n->PkR X w A (j+i))/\Tm cK T T'/\At X T' k w
 |0,j,T,e,h,s1,dv,ij=>by
  rcases h.azx s1 dv ij (by omega) o with⟨_,T',B,v⟩|⟨d,_⟩
  .exact⟨[],T',rfl,λi x a=>by simp at a,λi a=>absurd a (sF i),B,v⟩
  .omega
 |n+1,j,T,e,h,s1,dv,ij=>by
  rcases h.azx s1 dv ij (by omega) o with⟨E,_⟩|⟨d,x,D,u,q,b,g,p,C⟩
  .omega
  .obtain⟨l,T',r,t,z,f,s⟩:=At.avV o n (j+1) (by omega) C ((b.same 1 rfl).trans s1) g p;refine⟨x::l,T',by simp[r],λi y a=> ?_,λi a=> ?_,b.trans f,s⟩
   case refine_2=>
    cases i with
    |zero=>exact q
    |succ i=>
     have:=z i (by omega);have e:j+1+i=j+(i+1):=by omega
     rwa [e] at this
   cases i with
   |zero=>simp at a;subst a;exact u
   |succ i=>
    have:=t i y (by simpa using a);have e:j+1+i=j+(i+1):=by omega
    rwa [e] at this
end
def apB:gL.contains 1=true:=by unfold gL;kernel_rfl
def ahU:gL.contains 2=true:=by unfold gL;kernel_rfl
def agy(h:gL.contains g=true):g∈gL:=by simpa using h
abbrev mH:List Nat:=6::7::cK
def Tm.mh{T : Array Value}{d:Nat}(h:Tm [d] T T')(b:mH.contains d=true):Tm mH T T':=h.mono λt a=>by
 simp at a;subst a;exact b
def azy(t:Nat)(h:cK.contains t=true):mH.contains t=true:=by
 simp only[mH,tj,qV];exact .inr (.inr h)
noncomputable def aiJ:Code:=.seq (.region 58 ahZ false) (.seq (.region 59 ac1 false) cJ)
noncomputable def aqP:Code:=.seq (aaE 54 apK 19) (.seq (aaE 55 apL 19) (.seq (aaE 56 apM 19) (.seq (.region 57 ami false) (.seq (.block 53 (.loop mg)) aiJ))))
section
variable {X:Cx} {T:Array Value} {k:List Item} {w:World}
def At.head(h:At X T (.code jQ::k) w):∃u A n c l T',T.getD 0 undef=.int .i64 u/\1<=u/\u<=99/\(∃v,w.cell? ⟨1,0,none⟩=some v)/\(∃v,w.cell? ⟨2,0,none⟩=some v)/\
  T.getD 1 undef=.slice A n c/\n<=c/\(c:Int)<=9223372036854775807/\l.length=n/\RdP w A 0 l/\(∀i,i<n->PkR X w A i)/\(∀a,A=some a->Rgd X a.block)/\Tm mH T T'/\T'.getD 6 undef=.slice none 0 0/\T'.getD 7 undef=.bool false/\At X T' (.code aqP::k) w:=by
 have j:=Tm.refl mH T;unfold jQ at h;have h:=h.seq.seq;replace h:=h.region (l:=[0,1,2]) rfl;obtain⟨v,E,Z,⟨x,q⟩,m,p,f⟩:=h.jo (d:=6) (Φ:=λv g=>v=.slice none 0 0/\g=w) rfl rfl rfl (by decide) λD g o=>jm o;rw[x] at p;rw[q] at f;replace j:=j.trans (m.mh rfl);replace h:=f;obtain⟨v,E,a1,⟨x,q⟩,m,r,f⟩:=h.jo (d:=7) (Φ:=λv g=>v=.bool false/\g=w) rfl rfl rfl (by decide) λD g o=>jm o;rw[x] at r;rw[q] at f;replace p:=(m.same 6 rfl).trans p;replace j:=j.trans (m.mh rfl);replace h:=f;obtain⟨v,E,a2,⟨u,V,x,q⟩,m,s,f⟩:=h.jo (d:=16) (Φ:=λv g=>∃u,T.getD 0 undef=.int .i64 u/\v=.bool (decide (u<1))/\g=w) rfl rfl rfl (by decide) λD g o=>let⟨v,U,z,P,Q,O⟩:=aqM (b:=1) rfl o;⟨v,U,z,(j.same 0 rfl).symm.trans P,Q,O⟩
 rw[x] at s;rw[q] at f;replace p:=(m.same 6 rfl).trans p;replace r:=(m.same 7 rfl).trans r;replace j:=j.trans (m.mh rfl);replace h:=f;obtain⟨I,f⟩:=h.jb.chk s;replace h:=f.seq.seq;replace h:=h.region (l:=[0]) rfl;obtain⟨v,E,a6,⟨x,q⟩,m,s,f⟩:=h.jo (d:=16) (Φ:=λv g=>v=.bool (decide ((99:Int)<u))/\g=w) rfl rfl rfl (by decide) λD g o=>gj rfl (by exact(j.same 0 rfl).trans V) o;rw[x] at s;rw[q] at f;replace p:=(m.same 6 rfl).trans p;replace r:=(m.same 7 rfl).trans r;replace j:=j.trans (m.mh rfl);replace h:=f;obtain⟨J,f⟩:=h.jb.chk s;replace h:=f.seq.seq;replace h:=h.region (l:=[0,1,2,3,4,5]) rfl;obtain⟨ms,W⟩:=(faQ true).atV;have hv:=h.azt (agy apB);obtain⟨v,E,a5,⟨R,q⟩,m,s,f⟩:=h.jo (d:=16) (Φ:=λv g=>w.cell? ⟨1,0,none⟩=some v/\g=w) rfl rfl rfl (by decide) λD g o=>ag8 W rfl rfl hv o;rw[q] at f;replace p:=(m.same 6 rfl).trans p;replace r:=(m.same 7 rfl).trans r;replace j:=j.trans (m.mh rfl);replace h:=f;have N:=h.azt (agy ahU);obtain⟨v,E,a0,⟨S,q⟩,m,s,f⟩:=h.jo (d:=16) (Φ:=λv g=>w.cell? ⟨2,0,none⟩=some v/\g=w) rfl rfl rfl (by decide) λD g o=>ag8 W rfl rfl N o;rw[q] at f;replace p:=(m.same 6 rfl).trans p;replace r:=(m.same 7 rfl).trans r;replace j:=j.trans (m.mh rfl);replace h:=f;have M:=h.aha (t:=1) rfl rfl rfl λe w he=>adM (faQ true).u23 he;rw[j.same 1 rfl] at M;obtain⟨v,E,a4,⟨A,n,c,F,x,q⟩,m,s,f⟩:=h.jo (d:=16) (Φ:=λv g=>∃A n c,T.getD 1 undef=.slice A n c/\v=.int .i64 n/\g=w) rfl rfl rfl (by decide) λD g o=>let⟨v,U,B,m,c,P,Q,O⟩:=ag7 (faQ true).u23 o;⟨v,U,B,m,c,(j.same 1 rfl).symm.trans P,Q,O⟩
 rw[x] at s;rw[q] at f;replace p:=(m.same 6 rfl).trans p;replace r:=(m.same 7 rfl).trans r;replace j:=j.trans (m.mh rfl);replace h:=f;obtain⟨v,E,a3,⟨x,q⟩,m,y,f⟩:=h.jo (d:=18) (Φ:=λv g=>v=.int .i64 c/\g=w) rfl rfl rfl (by decide) λD g o=>ak0 (faQ true).u23 (by exact(j.same 1 rfl).trans F) o;rw[x] at y;rw[q] at f;replace p:=(m.same 6 rfl).trans p;replace r:=(m.same 7 rfl).trans r;replace s:=(m.same 16 rfl).trans s;replace j:=j.trans (m.mh rfl);replace h:=f;obtain⟨v,E,a7,⟨x,q⟩,m,K,f⟩:=h.jo (d:=20) (Φ:=λv g=>v=.int .i64 (0:Nat)/\g=w) rfl rfl rfl (by decide) λD g o=>jm o;rw[x] at K;rw[q] at f;replace p:=(m.same 6 rfl).trans p;replace r:=(m.same 7 rfl).trans r;replace s:=(m.same 16 rfl).trans s;replace y:=(m.same 18 rfl).trans y;replace j:=j.trans (m.mh rfl);replace h:=f;obtain⟨v,E,a8,⟨x,q⟩,m,C,f⟩:=h.jo (d:=19) (Φ:=λv g=>v=.bool (decide ((9223372036854775807:Int)<c))/\g=w) rfl rfl rfl (by decide) λD g o=>gj rfl (by exact y) o;rw[x] at C;rw[q] at f;replace p:=(m.same 6 rfl).trans p;replace r:=(m.same 7 rfl).trans r;replace s:=(m.same 16 rfl).trans s;replace y:=(m.same 18 rfl).trans y;replace K:=(m.same 20 rfl).trans K;replace j:=j.trans (m.mh rfl);replace h:=f;obtain⟨H,f⟩:=h.jb.chk C;replace h:=f.seq.seq;replace h:=h.region (l:=[0]) rfl;obtain⟨v,E,Y,⟨x,q⟩,m,C,f⟩:=h.jo (d:=19) (Φ:=λv g=>v=.bool (decide ((c:Int)<n))/\g=w) rfl rfl rfl (by decide) λD g o=>gj (by exact y) (by exact s) o;rw[x] at C;rw[q] at f;replace p:=(m.same 6 rfl).trans p;replace r:=(m.same 7 rfl).trans r;replace s:=(m.same 16 rfl).trans s;replace K:=(m.same 20 rfl).trans K;replace j:=j.trans (m.mh rfl);replace h:=f;obtain⟨L,f⟩:=h.jb.chk C;replace h:=f.seq.block.loop;replace I:=eL I;replace J:=eL J;replace H:=eL H;replace L:=eL L;obtain⟨l,T2,hl,o,hR,G,f⟩:=At.avV (by omega) n 0 (by omega) h ((j.same 1 rfl).trans F) s K;exact⟨u,A,n,c,l,T2,V,I,J,⟨_,R⟩,⟨_,S⟩,F,by omega,H,hl,o,λi hi=>(by have:=hR i hi;rwa [mc] at this),λa e=>M a n c (by rw[F,e]),j.trans (G.mono azy),(G.same 6 rfl).trans p,(G.same 7 rfl).trans r,f⟩
def At.names(h:At X T (.code aqP::k) w):∃A n c C T',T.getD 2 undef=.slice A n c/\(∀a,A=some a->a.block<w.heap.size)/\(∀a,A=some a->Rgd X a.block)/\(n:Int)<=2147483647/\n<=c/\(c:Int)<=9223372036854775807/\C.size=2*n/\Tm cK T T'/\
  T'.getD 16 undef=.int .i64 n/\T'.getD 27 undef=.slice (some ⟨w.heap.size,0,none⟩) n n/\T'.getD 28 undef=.int .i64 (0:Nat)/\At X T' (.code (.block 53 (.loop mg)) :: .code aiJ::k) (w.alloc (.cells C 124)):=by
 have j:=Tm.refl cK T;unfold aqP at h;have h:=h.seq.seq;replace h:=h.region (l:=[0,1,2]) rfl;have G:=h.at2 (t:=2) rfl rfl rfl λe w M=>adM (faQ true).u31 M;have J:=h.aha (t:=2) rfl rfl rfl λe w M=>adM (faQ true).u31 M;obtain⟨v,z,Q,⟨A,n,c,u,r,p⟩,m,g,b⟩:=h.jo (d:=16) (Φ:=λv f=>∃A n c,T.getD 2 undef=.slice A n c/\v=.int .i64 n/\f=w) rfl rfl rfl (by decide) λD f q=>let⟨v,Y,B,m,c,Z,R,S⟩:=ag7 (faQ true).u31 q;⟨v,Y,B,m,c,Z,R,S⟩
 rw[r] at g;rw[p] at b;replace j:=j.trans (m.sw rfl);replace h:=b;obtain⟨v,z,O,⟨r,p⟩,m,o,b⟩:=h.jo (d:=18) (Φ:=λv f=>v=.int .i64 c/\f=w) rfl rfl rfl (by decide) λD f q=>ak0 (faQ true).u31 (by exact(j.same 2 rfl).trans u) q;rw[r] at o;rw[p] at b;replace g:=(m.same 16 rfl).trans g;replace j:=j.trans (m.sw rfl);replace h:=b;obtain⟨v,z,U,⟨r,p⟩,m,i,b⟩:=h.jo (d:=19) (Φ:=λv f=>v=.bool (decide ((2147483647:Int)<n))/\f=w) rfl rfl rfl (by decide) λD f q=>gj rfl (by exact g) q;rw[r] at i;rw[p] at b;replace g:=(m.same 16 rfl).trans g;replace o:=(m.same 18 rfl).trans o;replace j:=j.trans (m.sw rfl);replace h:=b;obtain⟨s,b⟩:=h.jb.chk i;replace h:=b.seq.seq;replace h:=h.region (l:=[0]) rfl;obtain⟨v,z,W,⟨r,p⟩,m,i,b⟩:=h.jo (d:=19) (Φ:=λv f=>v=.bool (decide ((9223372036854775807:Int)<c))/\f=w) rfl rfl rfl (by decide) λD f q=>gj rfl (by exact o) q;rw[r] at i;rw[p] at b;replace g:=(m.same 16 rfl).trans g;replace o:=(m.same 18 rfl).trans o;replace j:=j.trans (m.sw rfl);replace h:=b;obtain⟨y,b⟩:=h.jb.chk i;replace h:=b.seq.seq;replace h:=h.region (l:=[0]) rfl;obtain⟨v,z,H,⟨r,p⟩,m,i,b⟩:=h.jo (d:=19) (Φ:=λv f=>v=.bool (decide ((c:Int)<n))/\f=w) rfl rfl rfl (by decide) λD f q=>gj (by exact o) (by exact g) q;rw[r] at i;rw[p] at b;replace g:=(m.same 16 rfl).trans g;replace j:=j.trans (m.sw rfl);replace h:=b;obtain⟨E,b⟩:=h.jb.chk i;replace h:=b.seq;replace h:=h.region (l:=[0,1]) rfl;replace s:=eL s;replace y:=eL y;replace E:=eL E;obtain⟨C,L,K⟩:=amS (faQ true) (w:=w) (e:=(FQ cf H (.inRegion ami (0::[1]) :: .code (.seq (.block 53 (.loop mg)) aiJ)::k)).eval) (x:=.tmp 16) (dst:=some 40) (ty:=111) (pos:= "") (af:=#[]) (gd:=none) s (by exact g);obtain⟨v,z,V,⟨r,p⟩,m,F,b⟩:=h.jo (d:=27) (Φ:=λv f=>v=.slice (some ⟨w.heap.size,0,none⟩) n n/\f=w.alloc (.cells C 124)) rfl rfl rfl (by decide) λD f q=>by have I:=K.symm.trans q;cases I;exact⟨_,rfl,rfl,rfl⟩
 rw[r] at F;rw[p] at b;replace g:=(m.same 16 rfl).trans g;replace j:=j.trans (m.sw rfl);replace h:=b;obtain⟨v,z,P,⟨r,p⟩,m,N,b⟩:=h.jo (d:=28) (Φ:=λv f=>v=.int .i64 (0:Nat)/\f=w.alloc (.cells C 124)) rfl rfl rfl (by decide) λD f q=>jm q;rw[r] at N;rw[p] at b;replace g:=(m.same 16 rfl).trans g;replace F:=(m.same 27 rfl).trans F;replace j:=j.trans (m.sw rfl);replace h:=b;exact⟨A,n,c,C,_,u,λa e=>G a n c (by rw[u,e]),λa e=>J a n c (by rw[u,e]),s,by omega,y,L,j,g,F,N,h.jb.seq⟩
end
section
variable {β:Bool} {R:List Frame->World->Prop} {c0 c:Cfg} {iy ρ:Ren} {w0 w w2:World} {l l2:List Frame}
def aqQ   :∃o a,step P (mZ ⟨(jS P).finish v,[],.running,none,none⟩ w)=.ended o a:=by
 have h:∃o a b,stepG P true ⟨(jS P).finish v,[],.running,none,none⟩ w=.ended o a b:=by
  simp only[jS,Frame.finish,stepG,stepG.exec,acp];exact⟨_,_,_,rfl⟩
 obtain⟨o,a,b,h⟩:=h;exact⟨o,a,cj rfl h⟩
def aqR(g:iF (ah β) ρ c.l l)(E:oL c.l):(∃o a,step (ah β) (mZ (Gl l [jS (ah β)]) w)=.ended o a)\/∃v a,step (ah β) (mZ (Gl l [jS (ah β)]) w)=.next (mZ ⟨(jS (ah β)).finish v,[],.running,none,none⟩ a):=by
 obtain⟨L,m,G,hd,K⟩:=E;obtain⟨x,M,y,O,N,k⟩:=g.ne';have H:=g.lone m k;subst H k;rw[m] at g;have t:=g.head;obtain⟨fn,s,e,D,B,z,u⟩:=y;obtain⟨C,F,J,j,b,p,A⟩:=t;dsimp only at C F J j b p A;obtain rfl:B=.returning:=by
  rcases b with b|b
  .rw[G] at b;cases b.1
  .exact b.2
 obtain rfl:D=[]:=by rw[hd] at j;cases j;rfl
 obtain rfl:z=.normal:=p.2;have i:∀{r:GStep},stepG (ah β) true (Gl [⟨fn,s,e,[],.returning,.normal,u⟩] [jS (ah β)]) w=r->(∃o a d,r=.ended o a d)\/(∃v a d,r=.go ⟨(jS (ah β)).finish v,[],.running,none,none⟩ a d):=by
  intro r n;subst n;simp only[Gl,stepG,unwind,ru];cases I:(ah β).funcs[fn]? with
  |none=>exact .inr ⟨_,_,_,rfl⟩
  |some f=>
   dsimp only;cases n:(results f s).runT (ah β) w #[] with
   |mk q d=>
    cases q with
    |ok v a=>exact .inr ⟨v,a,_,rfl⟩
    |halt q a=>cases q<;>exact .inl ⟨_,_,_,rfl⟩
 rcases i rfl with⟨o,a,d,h⟩|⟨v,a,d,h⟩
 .exact .inl ⟨o,a,cj rfl h⟩
 .exact .inr ⟨v,a,dG rfl h⟩
def gV.runs:∀(n:Nat) {c:Cfg} {ρ:Ren} {l:List Frame} {w:World},gV β R c0 iy w0 c ρ l w->runN (ah β) n (mZ (Gl l [jS (ah β)]) w)=.next (mZ (Gl l2 [jS (ah β)]) w2)->l2≠[]->∃i g,gV β R c0 iy w0 i g l2 w2
 |0,c,ρ,l,w,h,hr,hne=>by
  simp only[runN,qJ] at hr;obtain⟨b,rfl⟩:=gU hr;obtain⟨_,_,y,m,_,a⟩:=h.st.ne';obtain rfl:=nh (by rw[a];simp) hne b;exact⟨c,ρ,h⟩
 |n+1,c,ρ,l,w,h,hr,hne=>by
  obtain⟨_,_,y,m,_,a⟩:=h.st.ne';have j:l≠[]:=by rw[a];simp
  unfold runN at hr;by_cases d:oL c.l
  .exfalso;rcases aqR (w:=w) h.st d with⟨o,f,e⟩|⟨v,f,e⟩
   .rw[e] at hr;cases hr
   .rw[e] at hr;cases n with
    |zero=>
     simp only[runN,qJ] at hr;obtain⟨b, -⟩:=gU hr;cases l2 with
     |nil=>exact hne rfl
     |cons x t=>
      have:=jn Goroutine.callers b;simp[Gl] at this
    |succ n=>
     unfold runN at hr;obtain⟨o,s,p⟩:=aqQ (P:=ah β) (v:=v) (w:=f);simp only[p] at hr;cases hr
  .obtain⟨i,g,z,r,u,q, -, -,k, -⟩:=h.ac6 true d;rw[dG (jh j _) (k _)] at hr;exact gV.runs n q hr hne
def gV.calls{args:Array Value}(h:gV β R c0 iy w0 c ρ (Frame.enter (ah β) f args .normal::y::W) w)(t:Calls (ah β) f args w λe a=>∃v,e=.returned v/\Post v a) :
  ∃k o v i,gV β R c0 iy w0 k o (y.finish v::W) i/\Post v i:=by
 obtain⟨e,a,g,⟨v,rfl,A⟩,⟨n,E⟩,F,C⟩:=t (y::W++[jS (ah β)]);obtain⟨k,o,z⟩:=h.runs (l2:=g::y::W) (w2:=a) n E (by simp);have d:∀base,stepG (ah β) true (Gl (g::y::W) base) a=.go (Gl (y.finish v::W) base) a (seen (ah β) g.fn ((results ((ah β).funcs[g.fn]?.getD default) g.tmps).runT (ah β) a #[]).2):=λbase=>by
  obtain⟨p,hd,j,fn,l,m⟩:=C;obtain⟨I,r,s,K,J,H,G⟩:=g;dsimp only at p hd j l m;subst p hd j;have b:((results fn r).runT (ah β) a #[]).1=.ok v a:=by rw[rj];exact m
  simp only[Gl,stepG,unwind,l,qo,qW];cases x:(results fn r).runT (ah β) a #[] with
  |mk q L=>
   rw[x] at b;dsimp only at b;subst b;simp[doReturn,GStep.after]
 obtain⟨B,D,u, -, -⟩:=z.go rfl true d;exact⟨B,D,v,a,u,A⟩
end
end
section
open Go.Conc Go.ConcN Go.RowKit
abbrev iD:=Int×List (Int×ByteArray)
def eF(fv:Int->List iD->Int->ByteArray×Bool):Prop:=∀(b:Bool) (w:World) (a:Int) (A:Option Addr) (n c:Nat) (l:List iD) (nm:Int),1<=a->a<=99->l.length=n->n<=c->(c:Int)<=9223372036854775807->RdP w A 0 l->In_ nm->
 Calls (ah b) 69 #[.int .i64 a,.slice A n c,.int .i64 nm] w λe d=>∃v,e=.returned v/\(v=.agg #[.string (fv a l nm).1,.bool (fv a l nm).2]/\Below w.heap.size w d)
def aiK(w:World)(A:Option Addr)(i:Nat)(nm:Int):Prop:=∃a,A=some a/\w.cell? (a.add i)=some (.int .i64 nm)/\In_ nm
def ag9.below{x:Int×ByteArray}(h:ag9 w B i x)(f:∀b,b<w.heap.size->w'.heap[b]?=w.heap[b]?):ag9 w' B i x:=by
 obtain⟨⟨a,j,d,e⟩,g,l⟩:=h;have k:∀{A:Addr} {v:Value},w.cell? A=some v->w'.cell? A=some v:=λ{A v} c=>by
  rw[fY (f A.block (eG c))];exact c
 exact⟨⟨a,j,k d,k e⟩,g,l⟩
def RdP.below{A:Option Addr}{l:List iD}(h:RdP w A j l)(d:∀b,b<w.heap.size->w'.heap[b]?=w.heap[b]?):RdP w' A j l:=λi x o=>by
 obtain⟨⟨a,B,c,r,g,n,q,t,p,s⟩,f⟩:=h i x o;have k:∀{A:Addr} {v:Value},w.cell? A=some v->w'.cell? A=some v:=λ{A v} e=>by
  rw[fY (d A.block (eG e))];exact e
 exact⟨⟨a,B,c,r,k g,k n,q,t,p,λi y m=>(s i y m).below d⟩,f⟩
def rr(a:Addr)(n:Nat):(a.add n).block=a.block:=by unfold Addr.add;split<;>rfl
def iT(b o n:Nat):(⟨b,o,none⟩:Addr).add n=⟨b,o+n,none⟩:=by
 unfold Addr.add;by_cases h:n=0
 .subst h;simp
 .simp[h]
section
variable {X:Cx} {T:Array Value} {k:List Item} {w:World}
def At.call    {d:Tmp} {args:Array Value} (h:At X T (.inRegion Y (i::rest)::k) w) (n:Y[i]?=some o) (u:o.guard=none) (p:o.dst=some d) (j:d<45)
  (D:∀w,(execOp (FQ cf T (.inRegion Y (i::rest)::k)).eval o).runT (ah true) w #[]=(.ok (.enter f args) w,#[])) (q:Calls (ah true) f args w λe r=>∃v,e=.returned v/\Post v r) :
  ∃v g l,Post v g/\Tm [d] T l/\l.getD d undef=v/\At X l (.inRegion Y rest::k) g:=by
 obtain⟨b,c,H,h⟩:=h;have a:∀base,stepG (ah true) true (Gl (FQ cf T (.inRegion Y (i::rest)::k)::X.y::X.ys) base) w=.go (Gl (Frame.enter (ah true) f args .normal::FQ cf T (.inRegion Y (i::rest)::k)::X.y::X.ys) base) w (seen (ah true) cf #[]):=λbase=>by
  have z:∀y,Region.wanted o y=true:=λy=>by unfold Region.wanted;rw[u]
  have F:stepG (ah true) true (Gl (FQ cf T (.inRegion Y (i::rest)::k)::X.y::X.ys) base) w =
    stepG.apply (ah true) true (FQ cf T (.inRegion Y (i::rest)::k)) (X.y::X.ys++base) none (execOp (FQ cf T (.inRegion Y (i::rest)::k)).eval o) w:=by
   simp[Gl,stepG,stepG.exec,stepG.oper,Frame.oper?,n,z]
  rw[F];unfold stepG.apply;simp only[D,pr];simp[GStep.after,Gl]
 obtain⟨G,I,x, -, -⟩:=h.go rfl true a;obtain⟨A,E,v,g,m,C⟩:=x.calls q;have B:Frame.finish (FQ cf T (.inRegion Y (i::rest)::k)) v=FQ cf (T.setIfInBounds d v) (.inRegion Y rest::k):=by
  simp only[Frame.finish,n,qG,p]
 rw[B] at m;replace j:d<T.size:=bd j b;exact⟨v,g,_,C,.one (by simp) (λt s=>by rw[aH j,bv s]),by rw[aH j,dq rfl],by simpa using b,A,E,m⟩
end
end
section
variable {β:Bool}
open Go.RowKit
def ab0{a:Addr}(h:w.cell? a=some v):a.spot=none:=by
 unfold World.cell? at h;split at h
 .split at h
  .cases h
  .rename_i b;cases c:a.spot with
   |none=>rfl
   |some x=>rw[c] at b;exact absurd rfl b
 .cases h
def ItL(w:World)(A:Option Addr)(l:List (Int×ByteArray)):Prop:=∀i x,l[i]?=some x->∃b a,A=some ⟨b,a,none⟩/\b<w.heap.size/\w.cell? ⟨b,a+i*2,none⟩=some (.int .i64 x.1)/\w.cell? ⟨b,a+i*2+1,none⟩=some (.string x.2)/\bZ x.1/\x.2.size<=maxLen
def ItL.of{A:Option Addr}{l:List (Int×ByteArray)}(h:RdI w A 0 l):ItL w A l:=λi x k=>by
 obtain⟨e,j⟩:∃e,l[0]?=some e:=aq (by have:=aC k;omega);obtain⟨⟨p,m,f, -⟩, -, -⟩:=h 0 e j;obtain⟨⟨a,rfl,d,c⟩,o,q⟩:=h i x k;obtain rfl:=dk m;rw[mc] at d c;obtain⟨b,g,n⟩:=a;obtain rfl:n=none:=by
  have:=ab0 f;unfold Addr.add at this;simpa using this
 rw[iT] at d c;rw[iT] at c;refine⟨b,g,rfl,eG d,d,c,o,by unfold maxLen;omega⟩
def ItL.below{A:Option Addr}{l:List (Int×ByteArray)}(h:ItL w A l)(d:Below w.heap.size w w'):ItL w' A l:=λi x g=>by
 obtain⟨b,a,k,c,f,j,m⟩:=h i x g;have e:=d.block b c;exact⟨b,a,k,bd c d.size,(qp e).trans f,(qp e).trans j,m⟩
def ak2(n m:Int)(s:ByteArray)(g:Nat)(w:World)(b:w.cell? ⟨g,0,none⟩=some (.int .i64 m)) :
  Calls (ah β) 126 #[.agg #[.int .i64 n,.string s],.pointer (some ⟨g,0,none⟩)] w λe c=>e=.returned (.bool (decide (n=m)))/\Below w.heap.size w c:=by
 have i:g≠w.heap.size:=λe=>by
  have:=eG b;simp only at this;omega
 have a:=av w (.cells #[.int .i64 n,.string s] 60);have d:(w.alloc (.cells #[.int .i64 n,.string s] 60)).cell? ⟨g,0,none⟩=some (.int .i64 m):=(qp (a.block g (eG b))).trans b;by_cases h:n=m
 .subst h;go_enter wT,ntmps126;go_wp2;go_ret;exact⟨aB (by simp),a⟩
 .have f:(n ==m)=false:=de.2 h;go_enter wT,ntmps126;go_wp2;go_ret;exact⟨aB (by simp[h]),a⟩
def fq(nm:Int):List (Int×ByteArray)->Int
 |[]=> -1
 |x::l=>if x.1=nm then 0 else let j:=fq nm l;if j<0 then -1 else j+1
def aeN{nm:Int}:∀{l:List (Int×ByteArray)},(∀y∈l,y.1≠nm)->fq nm l=-1
 |[],_=>rfl
 |x::l,h=>by
  show(if x.1=nm then _ else _)=_;rw[bv (h x (by simp)),aeN λy a=>h y (by simp[a])];rfl
def af1{nm:Int}{x:Int×ByteArray}:∀{l:List (Int×ByteArray)} {k:Nat},(∀y∈l.take k,y.1≠nm)->l[k]?=some x->x.1=nm->fq nm l=k
 |[],k,_,h,_=>by simp at h
 |y::l,0,_,h,hx=>by
  simp at h;subst h;show(if y.1=nm then _ else _)=_;rw[dq hx];rfl
 |y::l,k+1,hn,h,hx=>by
  show(if y.1=nm then _ else _)=_;rw[bv (hn y (by simp)),af1 (l:=l) (k:=k) (λz a=>hn z (by simp[a])) (by simpa using h) hx];show(if((k:Nat):Int)<0 then _ else _)=_;rw[bv (by omega)];omega
end
section
variable {β:Bool}
open Go.RowKit
def axh:abQ (β:=β) 126:=aez wT (by kernel_rfl) rfl
def ahb(nm:Int)(l:List (Int×ByteArray))(A:Option Addr)(c g:Nat)(w:World)(E:ItL w A l)(G:l.length<=c)(I:c<=maxLen)(v:w.cell? ⟨g,0,none⟩=some (.int .i64 nm)) :
  Calls (ah β) 125 #[.slice A l.length c,.func (.func 126) #[] #[.pointer (some ⟨g,0,none⟩)]] w λe u=>e=.returned (.int .i64 (fq nm l))/\Below w.heap.size w u:=by
 unfold maxLen at I;have t:=eG v;go_enter yr,ntmps125;go_wp2;go_loopw [8] (λi wr=>∃k:Nat,k<=l.length/\i=.int .i64 k/\(∀y∈l.take k,y.1≠nm)/\Below w.heap.size w wr) (λi _=>l.length-(intOf i).toNat)
 case atStart=>exact⟨0,fb _,rfl,by simp,fd _ _⟩
 case round=>
  obtain⟨k,J,rfl,m,n⟩:=hrel;replace m:=ab m;have r:wr.cell? ⟨g,0,none⟩=some (.int .i64 nm):=(qp (n.block g t)).trans v;by_cases o:k<l.length
  .obtain⟨x,j⟩:=aq o;obtain⟨b,D,rfl,z,B,F,H,C⟩:=(E.below n) k x j;replace j:=ab j;have K:=axh (β:=β) (#[.agg #[.int .i64 x.1,.string x.2]]++#[.pointer (some ⟨g,0,none⟩)]) wr;go_wp2;refine(ak2 x.1 nm x.2 g wr r).mono ?_;rintro e u ⟨rfl,a⟩;replace a:=ag n a;by_cases h:x.1=nm
   .have d:fq nm l=k:=af1 m.out j.out h;have p:=ab d;have q:decide (x.1=nm)=true:=dj h;rw[q];go_wp2;go_ret;exact⟨by rw[p.out];rfl,a⟩
   .have s:∀y∈l.take (k+1),y.1≠nm:=by
     intro y f;rw[li j.out,mx] at f;rcases f with f|f
     .exact m.out y f
     .rw[pe.1 f];exact h
    replace s:=ab s;have q:decide (x.1=nm)=false:=da h;rw[q];go_wp2;go_roundw
    case rel=>exact⟨k+1,by omega,by go_num,s.out,a⟩
    simp[intOf];omega
  .obtain rfl:k=l.length:=by omega
   have d:fq nm l=-1:=aeN (by have:=m.out;rwa [gc] at this);have p:=ab d;go_wp2;go_ret;exact⟨by rw[p.out];rfl,n⟩
end
section
variable {β:Bool}
open Go.RowKit
noncomputable def ik(key:Int)(l:List (Int×ByteArray))(nm:Int):ByteArray×Bool:=match l[(fq nm l).toNat]? with
 |some x=>if fq nm l<0 then(⟨#[]⟩,false) else gF key x
 |none=>(⟨#[]⟩,false)
def ab1(nm:Int):∀l:List (Int×ByteArray),fq nm l=-1\/∃(k:Nat) (x:Int×ByteArray),fq nm l=k/\l[k]?=some x
 |[]=>.inl rfl
 |y::l=>by
  show(if y.1=nm then _ else _)=(-1:Int)\/∃(k:Nat) (x:Int×ByteArray),(if y.1=nm then _ else _:Int)=k/\_;by_cases h:y.1=nm
  .rw[dq h];exact .inr ⟨0,y,rfl,rfl⟩
  .rw[bv h];rcases ab1 nm l with a|⟨k,x,a,b⟩
   .rw[a];exact .inl rfl
   .rw[a];refine .inr ⟨k+1,x, ?_,by simpa using b⟩;show(if((k:Nat):Int)<0 then _ else _)=_;rw[bv (by omega)];omega
def aoe(key r nm:Int)(z:1<=key/\key<=99)(l:List (Int×ByteArray))(A:Option Addr)(c:Nat)(w:World)(F:ItL w A l)(o:l.length<=c)(t:c<=maxLen) :
  Calls (ah β) 103 #[.int .i64 key,.agg #[.int .i64 r,.slice A l.length c],.int .i64 nm] w λe v=>e=.returned (.tuple #[.string (ik key l nm).1,.bool (ik key l nm).2])/\Below w.heap.size w v:=by
 have HC:=ab t;unfold maxLen at t;go_enter yC,ntmps103;go_wp2;generalize f:(w.alloc (.cells #[.int .i64 r,.slice A l.length c] 54)).alloc (.cells #[.int .i64 nm] 3)=w0 at *;obtain⟨q,L,i,I,C,g,s,H⟩:=oV f;have d:=F.below q;refine(ahb nm l A c (w.heap.size+1) w0 d o HC.out (s 0)).mono ?_;rintro e u ⟨rfl,a⟩;have p:=d.below a;replace i:=ak i a;replace I:=i.cell;replace C:=i.frozen;replace g:=ak g a;replace s:=g.cell;replace H:=g.frozen;replace a:=ag q a;rcases ab1 nm l with h|⟨k,x,h,n⟩
 .have f:ik key l nm=(⟨#[]⟩,false):=by
   unfold ik;rw[h];split
   .rw[dq (by omega)]
   .rfl
  have HG:=ab f;rw[h];go_wp2;go_ret2;rw[HG.out];exact⟨rfl,a⟩
 .have f:ik key l nm=gF key x:=by
   unfold ik;rw[h,show((k:Nat):Int).toNat=k from rfl,n];show(if((k:Nat):Int)<0 then _ else _)=_;rw[bv (by omega)]
  have HG:=ab f;obtain⟨b,E,rfl,B,D,G,J,j⟩:=p k x n;have y:=aC n;have K:=da (show ¬((k:Int)<0) by omega);rw[h];go_wp2;refine(atE key x z j u).mono ?_;rintro e M ⟨rfl,m⟩;replace a:=ag a m;go_wp2;go_ret2;rw[HG.out];exact⟨rfl,a⟩
end
section
variable {β:Bool}
open Go.RowKit
noncomputable def cQ(key:Int):List iD->Int->ByteArray×Bool
 |[],_=>(⟨#[]⟩,false)
 |p::l,nm=>if(ik key p.2 nm).2=true then((ik key p.2 nm).1,true) else cQ key l nm
def ahc{key nm:Int}:∀{l:List iD} {k:Nat},(∀p∈l.take k,(ik key p.2 nm).2=false)->cQ key l nm=cQ key (l.drop k) nm
 |[],k,_=>by simp
 |p::l,0,_=>rfl
 |p::l,k+1,h=>by
  show(if(ik key p.2 nm).2=true then _ else cQ key l nm)=_;rw[bv (by rw[h p (by simp)];simp),List.drop_succ_cons];exact ahc λq a=>h q (by simp[a])
def PkL(w:World)(A:Option Addr)(l:List iD):Prop:=∀i x,l[i]?=some x->∃b a B c,A=some ⟨b,a,none⟩/\b<w.heap.size/\w.cell? ⟨b,a+i*2,none⟩=some (.int .i64 x.1)/\w.cell? ⟨b,a+i*2+1,none⟩=some (.slice B x.2.length c)/\x.2.length<=c/\c<=maxLen/\ItL w B x.2
def PkL.of{A:Option Addr}{l:List iD}(h:RdP w A 0 l):PkL w A l:=λi x m=>by
 obtain⟨f,k⟩:∃f,l[0]?=some f:=aq (by have:=aC m;omega);obtain⟨⟨s,r,u,n,g, -⟩, -⟩:=h 0 f k;obtain⟨⟨a,B,c,rfl,e,d, -,q,t,p⟩, -⟩:=h i x m;obtain rfl:=dk n;rw[mc] at e d;obtain⟨b,j,o⟩:=a;obtain rfl:o=none:=by
  have:=ab0 g;unfold Addr.add at this;simpa using this
 rw[iT] at e d;rw[iT] at d;exact⟨b,j,B,c,rfl,eG e,e,d,q,by unfold maxLen;omega,ItL.of p⟩
def PkL.below{A:Option Addr}{l:List iD}(h:PkL w A l)(d:Below w.heap.size w w'):PkL w' A l:=λi x j=>by
 obtain⟨b,a,B,c,n,f,g,m,p,k,o⟩:=h i x j;have e:=d.block b f;exact⟨b,a,B,c,n,bd f d.size,(qp e).trans g,(qp e).trans m,p,k,o.below d⟩
def amT(w:World)(key:Int)(A:Option Addr)(c:Nat)(l:List iD)(nm:Int)(T:1<=key)(P:key<=99)(Z:l.length<=c)(hc:(c:Int)<=9223372036854775807)(X:PkL w A l)(a1:In_ nm) :
  Calls (ah β) 69 #[.int .i64 key,.slice A l.length c,.int .i64 nm] w λe O=>∃v,e=.returned v/\(v=.agg #[.string (cQ key l nm).1,.bool (cQ key l nm).2]/\Below w.heap.size w O):=by
 go_enter yV,ntmps69;go_wp2;generalize E:w.alloc (.cells #[.string ⟨#[]⟩,.bool false] 124)=w0 at *;obtain⟨L,iP,a,G,C⟩:=mL E;go_loopw [13] (λi wr=>∃k:Nat,k<=l.length/\i=.int .i64 k/\(∀p∈l.take k,(ik key p.2 nm).2=false)/\Below w0.heap.size w0 wr) (λi _=>l.length-(intOf i).toNat)
 case atStart=>exact⟨0,fb _,rfl,by simp,fd _ _⟩
 case round=>
  obtain⟨k,hk,rfl,f,r⟩:=hrel;replace f:=ab f;replace a:=ak a r;replace G:=a.cell;replace C:=a.frozen;have H:=(X.below L).below r;have d:=ag L r;by_cases j:k<l.length
  .obtain⟨p,o⟩:=aq j;obtain⟨b,W,B,M,rfl,S,V,a0,I,u,z⟩:=H k p o;replace o:=ab o;go_wp2;generalize E:wr.alloc (.cells #[.int .i64 p.1,.slice B p.2.length M] 54)=w5 at *;obtain⟨g,U,q0,R,N⟩:=mL E;replace a:=ak a g;replace G:=a.cell;replace C:=a.frozen;replace d:=ag d g;refine(aoe key p.1 nm ⟨T,P⟩ p.2 B M w5 (z.below g) I u).mono ?_;rintro e Q ⟨rfl,s⟩;replace a:=ak a s;replace G:=a.cell;replace C:=a.frozen;replace d:=ag d s;cases K:ik key p.2 nm with
   |mk t Y=>
    cases Y with
    |true=>
     have D:cQ key l nm=(t,true):=by
      rw[ahc (k:=k) f.out,rR j];have e1:l[k]=p:=by have:=o.out;rw[iS j] at this;exact dk this
      rw[e1];show(if(ik key p.2 nm).2=true then _ else _)=_;rw[K];rfl
     have x:=ab D;go_wp2;have q:=(a.bF 0 (.string t)).bF 1 (.bool true);simp only[ef,ip,jt] at q;have m:=q.cell;exact pa (v:=.agg #[.string t,.bool true]) (by simp[results,results69,go_sem,m]) rfl ⟨_,rfl,by rw[x.out],(d.setCell (by simp) _).setCell (by simp) _⟩
    |false=>
     have J:∀y∈l.take (k+1),(ik key y.2 nm).2=false:=by
      intro y n;rw[li o.out,mx] at n;rcases n with n|n
      .exact f.out y n
      .rw[pe.1 n,K]
     replace J:=ab J;have F:Below w0.heap.size w0 Q:=ag (ag r g) s;go_wp2;go_roundw
     case rel=>exact⟨k+1,by omega,by go_num,J.out,F⟩
     simp[intOf];omega
  .obtain rfl:k=l.length:=by omega
   have D:cQ key l nm=(⟨#[]⟩,false):=by
    rw[ahc (k:=l.length) f.out,uv];rfl
   have x:=ab D;go_wp2;have q:=(a.bF 0 (.string ⟨#[]⟩)).bF 1 (.bool false);simp only[ef,ip,jt] at q;have m:=q.cell;exact pa (v:=.agg #[.string ⟨#[]⟩,.bool false]) (by simp[results,results69,go_sem,m]) rfl ⟨_,rfl,by rw[x.out],(d.setCell (by simp) _).setCell (by simp) _⟩
def xj:eF cQ:=λ_ w a A n c l nm g e j b i f d=>by
 subst j;exact amT w a A c l nm g e b i (PkL.of f) d
def wW(key nm:Int):cQ key [] nm=(⟨#[]⟩,false):=rfl
end
section
variable {β:Bool}
open Go.RowKit
section
variable {α:Type} {E:fV α} {T:List TypeId} {sz:Nat} {e:TypeId}
def Els(E:fV α)(sz:Nat)(w:World)(lo hi:Nat)(xs:List α)(cells:List Value):Prop:=
 cells.length=xs.length*sz/\(∀u∈cells,u.oneCell'=true)/\∃m:Nat->Nat,(∀i,m i<=m (i+1))/\lo<=m 0/\m xs.length<=hi/\
  ∀i x,xs[i]?=some x->∃a:List Value,a.length=sz/\E w (m i) (m (i+1)) x a/\∀j u,a[j]?=some u->cells[i*sz+j]?=some u
def dD{m:Nat->Nat}(h:∀i,m i<=m (i+1)){i:Nat}:∀{j:Nat},i<=j->m i<=m j
 |0,hj=>by obtain rfl:i=0:=by omega
           exact am _
 |j+1,hj=>by
  by_cases a:i=j+1
  .rw[a];exact am _
  .exact ap (dD h (show i<=j by omega)) (h j)
def Els.nil(h:Z<=hi):Els E sz w Z hi [] []:=⟨by simp,λ_ h=>(by cases h),λ_=>Z,λ_=>am _,am _,h,λi x h=>by simp at h⟩
def Els.le{xs:List α}(h:Els E sz w Z hi xs U):Z<=hi:=by
 obtain⟨_,_,m,b,a,c,_⟩:=h;exact ap a (ap (dD b (fb _)) c)
def Els.go(g:dC E T){fE hi' : Nat}{xs:List α}(h:Els E sz w Z hi xs U)(k:∀b,Z<=b->b<hi->Typed w T b->w'.heap[b]?=w.heap[b]?)(t:fE<=Z)(r:hi<=hi'):Els E sz w' fE hi' xs U:=by
 obtain⟨a,b,m,c,q,s,o⟩:=h;refine⟨a,b,m,c,by omega,by omega,λi x hi=> ?_⟩;obtain⟨j,l,f,n⟩:=o i x hi;have d:=aC hi;have v:=dD c (fb i);have y:=dD c (show i+1<=xs.length by omega);exact⟨j,l,g.go (λb p u e=>k b (by omega) (by omega) e) (am _) (am _) f,n⟩
def Els.snoc{xs:List α}(h:Els E sz w Z c xs U){y:α}{es:List Value}(p:es.length=sz)(B:∀u∈es,u.oneCell'=true)(I:c<=hi)(D:E w c hi y es)(H:∀a b,a<=c->E w c hi y es->E w a b y es->True:=λ_ _ _ _ _=>trivial):Lcy E->Els E sz w Z hi (xs++[y]) (U++es):=by
 intro k;obtain⟨a,b,m,q,r,s,G⟩:=h;refine⟨by rw[aE,aE,a,p,mp,Nat.add_mul,Nat.one_mul],λu e=> ?_,λi=>if i<=xs.length then m i else hi,λi=> ?_, ?_, ?_,λi x d=> ?_⟩
 .rcases mx.1 e with e|e
  .exact b u e
  .exact B u e
 .show(if i<=xs.length then m i else hi)<=(if i+1<=xs.length then m (i+1) else hi);by_cases o:i+1<=xs.length
  .rw[dq o,dq (by omega)];exact q i
  .rw[bv o];by_cases l:i<=xs.length
   .rw[dq l];have:=dD q l;omega
   .rw[bv l];exact am _
 .show Z<=(if 0<=xs.length then m 0 else hi);rw[dq (fb _)];exact r
 .show(if(xs++[y]).length<=xs.length then _ else hi)<=hi;rw[bv (by rw[aE,mp];omega)];exact am _
 .rcases pi i xs.length with g|C
  .rw[qn g] at d;obtain⟨n,A,z,F⟩:=G i x d;refine⟨n,A, ?_,λj u e=> ?_⟩
   .show E w (if i<=xs.length then m i else hi) (if i+1<=xs.length then m (i+1) else hi) x n;rw[dq (by omega),dq (by omega)];exact z
   .have J:=aC e;have v:(i+1)*sz<=xs.length*sz:=qI _ g;rw[rm] at v;rw[qn (by omega)];exact F j u e
  .rw[qg C] at d;have t:i-xs.length=0:=by have:=aC d;simp at this;omega
   rw[t] at d;simp at d;subst d;have f:i=xs.length:=by omega
   refine⟨es,p, ?_,λj u e=> ?_⟩
   .show E w (if i<=xs.length then m i else hi) (if i+1<=xs.length then m (i+1) else hi) y es;rw[dq (by omega),bv (by omega),f];exact k.wide D s (am _)
   .rw[f,qg (by omega),a,rK];exact e
def Els.at_(L:dC E T){xs:List α}(h:Els E sz w Z hi xs U){x:α}(v:xs[i]?=some x) :
  ∃m l g,Z<=m/\m<=l/\l<=hi/\g.length=sz/\E w m l x g/\(∀j u,g[j]?=some u->U[i*sz+j]?=some u)/\
   ∀(n:World) (y:α) (d:List Value),d.length=sz->(∀u∈d,u.oneCell'=true)->(∀b,Z<=b->b<hi->Typed w T b->¬(m<=b/\b<l)->n.heap[b]?=w.heap[b]?)->E n m l y d->
    ∀c:List Value,c.length=U.length->(∀k,¬(i*sz<=k/\k<i*sz+sz)->c[k]?=U[k]?)->(∀j u,d[j]?=some u->c[i*sz+j]?=some u)->(∀u∈c,u.oneCell'=true)->Els E sz n Z hi (xs.set i y) c:=by
 obtain⟨a,b,m,e,B,C,A⟩:=h;have p:=aC v;obtain⟨g,Q,K,R⟩:=A i x v;have l1:=dD e (fb i);have l2:=dD e (show i+1<=xs.length by omega);refine⟨m i,m (i+1),g,by omega,e i,by omega,Q,K,R,λn y d M X O N c I r q s=>⟨by rw[I,a,qQ],s,m,e,B,by rw[qQ];exact C,λk z f=> ?_⟩⟩;by_cases o:i=k
 .subst o;rw[rq p] at f;cases f;exact⟨d,M,N,q⟩
 .rw[rG o] at f;obtain⟨G,J,H,P⟩:=A k z f;have D:=aC f;have S:=dD e (fb k);have k2:=dD e (show k+1<=xs.length by omega);refine⟨G,J,L.go (λb V Y F=>O b (by omega) (by omega) F λW=> ?_) (am _) (am _) H,λj u t=> ?_⟩
  .rcases Nat.lt_or_gt_of_ne o with h|h
   .have:=dD e (show i+1<=k by omega);omega
   .have:=dD e (show k+1<=i by omega);omega
  .rw[r _ (by
    have hj:=aC t;rcases Nat.lt_or_gt_of_ne o with h|h
    .have:(i+1)*sz<=k*sz:=qI _ h;rw[rm] at this;omega
    .have:(k+1)*sz<=i*sz:=qI _ h;rw[rm] at this;omega)]
   exact P j u t
def aQ(e:TypeId)(E:fV α)(sz:Nat):fV (List α):=λw b c a d=>
 ∃(v:Value) (cells:List Value),d=[v]/\w.ownsRow b e sz v a.length cells/\(∀g,v.ownBlock=some g->g<c)/\Els E sz w b c a cells
def aQ.form{xs:List α}(h:aQ e E sz w Z hi xs [v]):∃A c,v=.slice A xs.length c:=by
 obtain⟨b,cells,a,h,_⟩:=h;cases a;exact gK h
def aQ.nil(h:Z<=hi):aQ e E sz w Z hi [] [.slice none 0 0]:=⟨_,[],rfl,ug _ _ _ _,λ_ h=>(by cases h),Els.nil h⟩
def aQ.ar(o:dC E T):dC (aQ e E sz) (e::T):=by
 refine⟨?_⟩;intro w x B z u s y A l n j h;obtain⟨v,cells,rfl,i,m,f⟩:=h;refine⟨v,cells,rfl,⟨i.1, ?_⟩,λg a=>bd (m g a) j,f.go o (λb p q ⟨t,ht,hd⟩=>l b p q ⟨t,qU _ ht,hd⟩) n j⟩;rcases i.2 with r|⟨g,cap,c,rfl,k,a,d⟩
 .exact .inl r
 .refine .inr ⟨g,cap,c,rfl,ap n k, ?_,d⟩;rw[l g k (m g rfl) ⟨e,qv,c,a⟩];exact a
def aQ.sl{k:fV α}(d:Lcy k)(H:∀{w:World} {Z hi:Nat} {x:α} {b:List Value},E w Z hi x b->k w Z hi x b){xs:List α}(h:aQ e E sz w Z hi xs cs):bE k sz w Z hi xs cs:=by
 obtain⟨v,cells,rfl,z,y,a,_,m,o,J,K,I⟩:=h;obtain⟨_,q⟩:=z;rcases q with⟨rfl,s⟩|⟨g,cap,l,rfl,t,B,n,f,D,r⟩
 .exact⟨none,0,by rw[s],by omega,by unfold maxLen;omega,λL=>by omega⟩
 .refine⟨_,cap,rfl,n,f,λ_=>⟨g,0,rfl,t,y g rfl,λi x hi=> ?_⟩⟩;obtain⟨b,F,A,G⟩:=I i x hi;have p:=aC hi;have M:=dD o (fb i);have N:=dD o (show i+1<=xs.length by omega);refine⟨b,F,d.wide (H A) (by omega) (by omega),λj u C=> ?_⟩;have c:=G j u C;rw[<-r,qx] at c;split at c
  .rw[cell_of_row w g (0+i*sz+j) l _ (0,0) B,mc];simpa using c
  .cases c
def aQ.slT{f:fV α}(a:Lcy f)(o:∀{w:World} {Z hi:Nat} {x:α} {i:List Value},E w Z hi x i->f w Z hi x i){xs:List α}(h:aQ e E sz w Z hi xs cs):eB e f sz w Z hi xs cs:=by
 refine⟨h.sl a o,λq b l n c j=> ?_⟩;obtain⟨v,cells,rfl,p,r,_⟩:=h;simp only[qf,qu] at j;subst j;rcases p.2 with⟨d,_⟩|⟨g,cap,k,d,_,m,_⟩
 .cases d
 .cases d;exact⟨_,m⟩
def aQ.some_{xs:List α}(h:aQ e E sz w Z hi xs [v])(k:0<xs.length):∃g c,v=.slice (some ⟨g,0,none⟩) xs.length c/\Z<=g/\g<hi/\g<w.heap.size/\∃j,bg w g e j:=by
 obtain⟨l,cells,i,h,f,_⟩:=h;cases i;rcases h.2 with⟨_,m⟩|⟨g,cap,a,rfl,d,b,_⟩
 .omega
 .exact⟨g,cap,rfl,d,f g rfl,(show bg w g e a from b).lt,a,b⟩
def aQ.frozen{xs:List α}(h:aQ e E sz w Z hi xs [.slice (some ⟨g,0,none⟩) n c])(j:Nat):w.frozen? ⟨g,j,none⟩=false:=by
 obtain⟨d,cells,a,h,i,_⟩:=h;cases a;obtain⟨A,f,b⟩:=gK h;cases b;exact h.frozenAt j
def aQ.at_(P:dC E T)(B:e∉T){xs:List α}(h:aQ e E sz w Z hi xs [.slice (some ⟨g,0,none⟩) n c]){x:α}(I:xs[i]?=some x) :
  ∃m a f,Z<=m/\m<=a/\a<=hi/\f.length=sz/\E w m a x f/\(∀j u,f[j]?=some u->w.cell? ⟨g,i*sz+j,none⟩=some u)/\
   ∀(k:World) (y:α),bq (λb=>m<=b/\b<a/\Typed w T b) w k->E k m a y f->aQ e E sz k Z hi (xs.set i y) [.slice (some ⟨g,0,none⟩) n c]:=by
 obtain⟨V,cells,q,o,K,d⟩:=h;cases q;obtain⟨A,W,C⟩:=gK o;cases C;have r:=aC I;obtain⟨m,a,f,R,S,N,q,C,F,z⟩:=d.at_ P I;refine⟨m,a,f,R,S,N,q,C,λj u p=> ?_,λk y G Q=> ?_⟩
 .have J:=aC p;have l:(i+1)*sz<=xs.length*sz:=qI _ r;rw[rm] at l;rw[o.cellAt _ (by omega)];exact F j u p
 .have D:¬(m<=g/\g<a/\Typed w T g):=λ⟨_,_,t,s,M,hd⟩=>by
   rcases o.2 with⟨v,_⟩|⟨X,cap,O,v,_,L,_⟩
   .cases v
   .cases v;exact B (cD L hd▸s)
  refine⟨_,cells,rfl, ?_,K,z k y f q (λu p=> ?_) (λb U Y s l=> ?_) Q cells rfl (λ_ _=>rfl) F d.2.1⟩
  .rw[qQ];exact adJ o G λb l=>by cases l;exact D
  .obtain⟨j,J⟩:=rS p;exact d.2.1 u (db (F j u J))
  .obtain⟨t,_,M,hd⟩:=id s;exact G.block b hd.lt λH=>l ⟨H.1,H.2.1⟩
def aQ.put(P:dC E T)(K:e∉T){xs:List α}(h:aQ e E sz w Z hi xs [.slice (some ⟨g,0,none⟩) n c]){x y:α}(M:xs[i]?=some x)(hj:j<sz)(U:u.oneCell'=true)(W:∀(N:World) (Z hi:Nat) (s:List Value),E N Z hi x s->E N Z hi y (s.set j u)) :
  aQ e E sz (w.setCell ⟨g,i*sz+j,none⟩ u) Z hi (xs.set i y) [.slice (some ⟨g,0,none⟩) n c]:=by
 obtain⟨v',cells,D,C,V,o⟩:=h;cases D;obtain⟨A,c',B⟩:=gK C;cases B;have F:=aC M;have I:=(C.stored (i*sz+j) u).1;obtain⟨m,m',s,l1,l2,l3,D,B,X,J⟩:=o.at_ P M;have H:¬Typed w T g:=λ⟨t,l,ds,hd⟩=>by
  rcases C.2 with⟨G,_⟩|⟨Y,cap,S,G,_,O,_⟩
  .cases G
  .cases G;exact K (cD O hd▸l)
 have Q:∀b,Typed w T b->(w.setCell ⟨g,i*sz+j,none⟩ u).heap[b]?=w.heap[b]?:=λb l=>io _ _ _ _ (by rintro rfl;exact H l);have d:∀v∈cells.set (i*sz+j) u,v.oneCell'=true:=λv q=>by
  rcases sP q with q|rfl
  .exact o.2.1 v q
  .exact U
 have p:∀f z,(s.set j u)[f]?=some z->(cells.set (i*sz+j) u)[i*sz+f]?=some z:=λf z a=>by
  by_cases r:j=f
  .subst r;rw[rq (by omega)] at a;rw[rq (by
    have R:(i+1)*sz<=xs.length*sz:=qI _ F;rw[rm] at R;rw[o.1];omega)]
   exact a
  .rw[rG r] at a;rw[rG (by omega)];exact X f z a
 refine⟨_,cells.set (i*sz+j) u,rfl,by rw[qQ];exact I,V,J _ y (s.set j u) (by rw[qQ];exact D) (λv q=> ?_) (λb b1 b2 l _=>Q b l) (W _ _ _ _ (P.go (λb _ _ l=>Q b l) (am _) (am _) B)) _ (by rw[qQ]) (λk O=> ?_) p d⟩
 .obtain⟨f,L⟩:=rS q;exact d v (db (p f v L))
 .rw[rG (by omega)]
end
def aK.aae{F:Flat V}{base : Nat}{xs:List V}(h:aK F e w base v xs)(b:∀x∈xs,F.good x)(c:base<=hi)(a:∀g,v.ownBlock=some g->g<hi):aQ e (bP F) F.sz w base hi xs [v]:=
 ⟨v,dV F xs,rfl,h,a,dY F xs,acB F xs,λ_=>base,λ_=>am _,am _,c,λi x hi=>⟨F.cells x,F.len x,⟨rfl,b x (db hi)⟩,λ_ _ d=>dZ F xs i _ x _ hi d⟩⟩
def aQ.flat{F:Flat V}{xs:List V}(h:aQ e (bP F) F.sz w Z hi xs [v]):aK F e w Z v xs/\(∀x∈xs,F.good x)/\Z<=hi/\∀g,v.ownBlock=some g->g<hi:=by
 obtain⟨A,cells,y,j,p,a⟩:=h;cases y;have d:=a.le;obtain⟨D,C,m,E,z,B,o⟩:=a;have s:∀x∈xs,F.good x:=λx b=>by
  obtain⟨i,hi⟩:=rS b;obtain⟨u,_,t,_⟩:=o i x hi;exact t.2
 refine⟨?_,s,d,p⟩;have:cells=dV F xs:=by
  apply tv;intro k;rcases pi k (xs.length*F.sz) with c|c
  .have hi:k / F.sz<xs.length:=vW (by rw[tC];exact c);have b:=iS hi;obtain⟨u,q,⟨rfl,_⟩,r⟩:=o _ _ b;have n:k % F.sz<(F.cells xs[k / F.sz]).length:=by rw[F.len];exact tI _ F.pos
   have l:=r (k % F.sz) _ (iS n);have f:=dZ F xs (k / F.sz) (k % F.sz) _ _ b (iS n);rw[vD] at l f;rw[l,f]
  .rw[qY (by omega),qY (by rw[dY];exact c)]
 rw[this] at j;exact j
end
section
variable {β:Bool}
open Go.RowKit
structure Ls where
 p:ByteArray
 ns:List Int
structure Sn where
 no:Int
 all:List Ls
structure Hd where
 b:Int
 s:Int
structure dK where
 pk:List Pk
 sn:List Sn
 lg:List Hd
def og:Flat Hd:=⟨2,λx=>[.int .i64 x.b,.int .i64 x.s],λx=>bZ x.b/\bZ x.s,λ_=>rfl,λx u a=>by simp at a;rcases a with rfl|rfl<;>rfl,by decide⟩
abbrev iU:fV (List It):=bE (bP mo) 2
def aof:fV Pk:=λw a b x c=>∃v,c=[.int .i64 x.no,v]/\bZ x.no/\iU w a b x.its [v]
abbrev iV:fV (List Pk):=bE aof 2
def aog:fV Ls:=λw a b x c=>∃v,c=[.string x.p,v]/\x.p.size<=maxLen/\bE aab 1 w a b x.ns [v]
abbrev fP:fV (List Ls):=bE aog 2
def aoh:fV Sn:=λw a b x c=>∃v,c=[.int .i64 x.no,v]/\bZ x.no/\fP w a b x.all [v]
abbrev gQ:fV (List Sn):=bE aoh 2
abbrev fG:fV (List Hd):=bE (bP og) 2
def iU.loc:Lcy iU:=bE.loc (bP.loc mo)
def aof.loc:Lcy aof:=⟨λh a b ⟨v,e,i,hr⟩=>⟨v,e,i,iU.loc.go h a b hr⟩⟩
def iV.loc:Lcy iV:=bE.loc aof.loc
def nG.loc:Lcy (bE aab 1):=bE.loc aab.loc
def aog.loc:Lcy aog:=⟨λh a b ⟨v,e,i,hr⟩=>⟨v,e,i,nG.loc.go h a b hr⟩⟩
def fP.loc:Lcy fP:=bE.loc aog.loc
def aoh.loc:Lcy aoh:=⟨λh a b ⟨v,e,i,hr⟩=>⟨v,e,i,fP.loc.go h a b hr⟩⟩
def gQ.loc:Lcy gQ:=bE.loc aoh.loc
def fG.loc:Lcy fG:=bE.loc (bP.loc og)
def bE.azA{E g:fV V}(t:∀{w:World} {c hi:Nat} {x:V} {a:List Value},E w c hi x a->g w c hi x a){xs:List V}(h:bE E Z w c hi xs cs):bE g Z w c hi xs cs:=by
 obtain⟨A,c,f,l,q,p⟩:=h;refine⟨A,c,f,l,q,λo=> ?_⟩;obtain⟨b,e,m,k,j,d⟩:=p o;refine⟨b,e,m,k,j,λi x hi=> ?_⟩;obtain⟨a,r,n,s⟩:=d i x hi;exact⟨a,r,t n,s⟩
abbrev aaZ:fV (List It):=aQ 60 (bP mo) 2
def ki:fV Pk:=λw a b x c=>∃v,c=[.int .i64 x.no,v]/\bZ x.no/\aaZ w a b x.its [v]
abbrev bD:fV (List Pk):=aQ 54 ki 2
abbrev iz:fV (List Int):=aQ 3 (bP mM) 1
def aaZ.ar:dC aaZ [60]:=aQ.ar (bP.ar mo)
def ki.ar:dC ki [60]:=⟨λh a b ⟨v,e,i,hr⟩=>⟨v,e,i,aaZ.ar.go h a b hr⟩⟩
def bD.ar:dC bD [54,60]:=aQ.ar ki.ar
def iz.ar:dC iz [3]:=aQ.ar (bP.ar mM)
def aaZ.l{x:List It}(h:aaZ w Z hi x cs):iU w Z hi x cs:=aQ.sl (bP.loc mo) (λh=>h) h
def aaZ.t{x:List It}(h:aaZ w Z hi x cs):acD w Z hi x cs:=aQ.slT (bP.loc mo) (λh=>h) h
def ki.l{x:Pk}(h:ki w Z hi x cs):aof w Z hi x cs:=by
 obtain⟨v,e,i,a⟩:=h;exact⟨v,e,i,aaZ.l a⟩
def ki.t{x:Pk}(h:ki w Z hi x cs):RPk w Z hi x cs:=by
 obtain⟨v,e,i,a⟩:=h;exact⟨v,e,i,aaZ.t a⟩
def bD.l{x:List Pk}(h:bD w Z hi x cs):iV w Z hi x cs:=aQ.sl aof.loc ki.l h
def bD.t{x:List Pk}(h:bD w Z hi x cs):an0 w Z hi x cs:=aQ.slT RPk.ar.loc ki.t h
def iz.l{x:List Int}(h:iz w Z hi x cs):bE aab 1 w Z hi x cs:=aQ.sl aab.loc (λh=>h) h
def OLs:fV Ls:=λw a b x c=>∃v,c=[.string x.p,v]/\x.p.size<=maxLen/\iz w a b x.ns [v]
abbrev fu:fV (List Ls):=aQ 89 OLs 2
def lI:fV Sn:=λw a b x c=>∃v,c=[.int .i64 x.no,v]/\bZ x.no/\fu w a b x.all [v]
abbrev bQ:fV (List Sn):=aQ 39 lI 2
abbrev dy:fV (List Hd):=aQ 62 (bP og) 2
def OLs.ar:dC OLs [3]:=⟨λh a b ⟨v,e,i,hr⟩=>⟨v,e,i,iz.ar.go h a b hr⟩⟩
def fu.ar:dC fu [89,3]:=aQ.ar OLs.ar
def lI.ar:dC lI [89,3]:=⟨λh a b ⟨v,e,i,hr⟩=>⟨v,e,i,fu.ar.go h a b hr⟩⟩
def bQ.ar:dC bQ [39,89,3]:=aQ.ar lI.ar
def dy.ar:dC dy [62]:=aQ.ar (bP.ar og)
def OLs.l{x:Ls}(h:OLs w Z hi x cs):aog w Z hi x cs:=by
 obtain⟨v,e,i,a⟩:=h;exact⟨v,e,i,iz.l a⟩
def fu.l{x:List Ls}(h:fu w Z hi x cs):fP w Z hi x cs:=aQ.sl aog.loc OLs.l h
def lI.l{x:Sn}(h:lI w Z hi x cs):aoh w Z hi x cs:=by
 obtain⟨v,e,i,a⟩:=h;exact⟨v,e,i,fu.l a⟩
def bQ.l{x:List Sn}(h:bQ w Z hi x cs):gQ w Z hi x cs:=aQ.sl aoh.loc lI.l h
def dy.l{x:List Hd}(h:dy w Z hi x cs):fG w Z hi x cs:=aQ.sl (bP.loc og) (λh=>h) h
def dX{α:Type}(f:α->Nat)(l:List α):Nat:=l.length+(l.map f).sum
def jq{a:Type}{f:a->Nat}:∀{l:List a} {x:a},x∈l->f x<=dX f l
 |[],_,h=>by cases h
 |y::l,x,h=>by
  have e:dX f (y::l)=dX f l+1+f y:=by unfold dX;simp only[ga,sd,List.sum_cons];omega
  rcases oE.1 h with rfl|h
  .omega
  .have:=jq (f:=f) h;omega
def dL{f:V->Nat}{l:List V}:l.length<=dX f l:=by unfold dX;omega
def bIt(x:It):Nat:=x.b.size
def bPk(x:Pk):Nat:=dX bIt x.its
def bLs(x:Ls):Nat:=x.p.size+x.ns.length
def bSn(x:Sn):Nat:=dX bLs x.all
def ab2{c:Type}:∀(l:List c) (j:Nat) (a b:c),(l.set j a).set j b=l.set j b
 |[],_,_,_=>rfl
 |_::_,0,_,_=>rfl
 |x::l,j+1,a,b=>by show x::(l.set j a).set j b=x::l.set j b;rw[ab2 l j a b]
def lf{S:Nat->Prop}(h:bq S w w'){T U:List TypeId}(d:∀t∈T,t∈U){b : Nat}(j:b<hi)(i:hi<=w.heap.size)(c:S b->Typed w U b)(f:Typed w' T b):Typed w U b:=by
 by_cases a:S b
 .exact c a
 .obtain⟨t,e,g,hd⟩:=f;exact⟨t,d t e,g,(h.block b (by omega) a).symm.trans hd⟩
end
section
variable {β:Bool}
open Go.RowKit
structure Nd where
 p:ByteArray
 b:ByteArray
def mv:Flat Nd:=⟨2,λx=>[.string x.p,.string x.b],λx=>x.p.size<=maxLen/\x.b.size<=maxLen,λ_=>rfl,λx u a=>by simp at a;rcases a with rfl|rfl<;>rfl,by decide⟩
abbrev eD:fV (List Nd):=eB 67 (bP mv) 2
def eD.ar:dC eD [67]:=eB.ar (bP.ar mv)
def nH:ib (ah β) 34 67 2 32:=ib.mk' yG (z:=.agg #[.string ⟨#[]⟩,.string ⟨#[]⟩]) (by kernel_rfl) rfl (by decide) (by decide)
def ahd(x:Nd):Prop:=jc x.p=true/\dH x.b=true
def nT:∀{a b c:List UInt8},Op.bytesLess a b=true->Op.bytesLess b c=true->Op.bytesLess a c=true
 |_,[],_,h,_=>by simp[Op.bytesLess] at h
 |_,_::_,[],_,h=>by simp[Op.bytesLess] at h
 |[],_::_,_::_,_,_=>by simp[Op.bytesLess]
 |x::a,y::b,z::c,e,d=>by
  simp only[Op.bytesLess,qV,qS,ff,nF,rP,<-uD] at e d ⊢;rcases e with e|⟨e,g⟩
  .rcases d with d|⟨d,f⟩
   .exact .inl (by omega)
   .exact .inl (by omega)
  .rcases d with d|⟨d,f⟩
   .exact .inl (by omega)
   .exact .inr ⟨by omega,nT g f⟩
def aqU(t:List Nd)(i:Nat)(x:Nd):Prop:=ahd x/\(∀y,0<i->t[i-1]?=some y->Op.bytesLess y.p.toList x.p.toList=true)/\∀k y,k<i->t[k]?=some y->ml y.p x.p=false
def aqV(t:List Nd):Prop:=t.length<=6/\∀i x,t[i]?=some x->aqU t i x
def amU{t:List Nd}(h:∀i x,t[i]?=some x->∀y,0<i->t[i-1]?=some y->Op.bytesLess y.p.toList x.p.toList=true):∀(d k:Nat) {x y:Nd},t[k+d+1]?=some x->t[k]?=some y->Op.bytesLess y.p.toList x.p.toList=true
 |0,k,x,y,hx,hy=>h (k+1) x hx y (by omega) hy
 |d+1,k,x,y,hx,hy=>by
  obtain⟨z,a⟩:∃z,t[k+d+1]?=some z:=aq (by have:=aC hx;omega);exact nT (amU h d k a hy) (h (k+(d+1)+1) x hx z (by omega) a)
def lh(xs:List Nd):Prop:=(∀x∈xs,ahd x)/\xs.length<=6/\xs.Pairwise λa b=>Op.bytesLess a.p.toList b.p.toList=true/\ml a.p b.p=false
def lh.nil:lh []:=⟨λy a=>(by cases a),fb _,.nil⟩
def lh.one{x:Nd}(h:ahd x):lh [x]:=⟨λy a=>by rw[pe.1 a];exact h,by simp,tY _ _⟩
def lh.sub{xs ys:List Nd}(h:lh xs)(a:ys.Sublist xs):lh ys:=⟨λy b=>h.1 y (a.mem b),ap a.length_le h.2.1,h.2.2.sublist a⟩
def aqW{t:List Nd}:aqV t↔lh t:=by
 unfold lh aqV;rw[vx];constructor
 .rintro⟨g,h⟩;refine⟨λx a=> ?_,g,λi j b m d=>⟨?_, ?_⟩⟩
  .obtain⟨i,b⟩:=rS a;exact(h i x b).1
  .exact amU (λi x a=>(h i x a).2.1) (j-i-1) i (by rw[show i+(j-i-1)+1=j by omega];exact iS m) (iS b)
  .exact(h j t[j] (iS m)).2.2 i t[i] d (iS b)
 .rintro⟨p,n,l⟩;refine⟨n,λi x a=>⟨p x (db a),λy g c=> ?_,λk y o c=> ?_⟩⟩
  .obtain⟨e,rfl⟩:=qm.1 a;obtain⟨f,rfl⟩:=qm.1 c;exact(l (i-1) i f e (by omega)).1
  .obtain⟨e,rfl⟩:=qm.1 a;obtain⟨f,rfl⟩:=qm.1 c;exact(l k i f e o).2
def jJ{xs:List Nd}{A:Option Addr}(h:eD w Z hi xs [.slice A n c]){k:Nat}{x:Nd}(i:xs[k]?=some x) :
  ∃b a,A=some ⟨b,a,none⟩/\Z<=b/\b<hi/\mv.good x/\w.cell? ⟨b,a+k*2,none⟩=some (.string x.p)/\w.cell? ⟨b,a+k*2+1,none⟩=some (.string x.b):=by
 obtain⟨b,a,l,e,j,f,_,⟨rfl,g⟩,d⟩:=h.1.at_ i;exact⟨b,a,e,j,f,g,by simpa using d 0 _ rfl,by simpa using d 1 _ rfl⟩
def aoi(xs:List Nd)(v:Value)(w:World)(lo hi:Nat)(h:eD w lo hi xs [v])(Z:hi<=w.heap.size)(q:Bool)(g:q=true↔aqV xs) :
  Calls (ah β) 52 #[v] w λe w'=>e=.returned (.bool q)/\Below w.heap.size w w':=by
 have N:=ab g;clear g;obtain⟨A,c,rfl⟩:=h.form;obtain⟨_,hc,Y⟩:=h.1.len_;unfold maxLen at Y;go_enter zh,ntmps52;go_wp2;go_loopw [3] (λii wr=>∃k:Nat,k<=xs.length/\ii=.int .i64 k/\(∀i x,i<k->xs[i]?=some x->aqU xs i x)/\Below w.heap.size w wr) (λii _=>xs.length-(intOf ii).toNat)
 case atStart=>exact⟨0,fb _,rfl,λi x hi=>absurd hi (sF i),fd _ _⟩
 case round=>
  obtain⟨k,hk,rfl,p,G⟩:=hrel;replace p:=ab p;by_cases r:k<xs.length
  .obtain⟨x,E⟩:=aq r;obtain⟨b0,a7,rfl,_,a6,B,D,Q⟩:=jJ (eD.ar.below h G Z) E;replace E:=ab E;cases a:jc x.p
   .replace a:=ab a;have f:q=false:=by
     rw[<-lP,N.out];rintro⟨-,h⟩;have h:=h k x E.out;have h:=h.1.1;rw[a.out] at h;cases h
    have s:=ab f;clear f;go_wp2;have o:=ae D;have n:=ae Q;refine aM (by kernel_rfl) (by kernel_rfl) ?_;repeat(go_big_quiet_step (first|(go_at_call 58;refine dJ (v:=.bool false) ?_;rw[<-a.out];exact jk x.p B.1 _)))
    refine gt ?_;intro O d;have g:=bm d;clear d o n;go_wp2;go_ret;exact⟨aB s.out.symm,ag G g⟩
   .replace a:=ab a;cases b:dH x.b
    .replace b:=ab b;have f:q=false:=by
      rw[<-lP,N.out];rintro⟨-,h⟩;have h:=h k x E.out;have h:=h.1.2;rw[b.out] at h;cases h
     have s:=ab f;clear f;go_wp2;have o:=ae D;have n:=ae Q;refine aM (by kernel_rfl) (by kernel_rfl) ?_;repeat(go_big_quiet_step (first|(go_at_call 58;refine dJ (v:=.bool true) ?_;rw[<-a.out];exact jk x.p B.1 _)|(go_at_call 59;refine dJ (v:=.bool false) ?_;rw[<-b.out];exact kX x.b B.2 _)))
     refine gt ?_;intro O d;have g:=bm d;clear d o n;go_wp2;go_ret;exact⟨aB s.out.symm,ag G g⟩
    .replace b:=ab b;by_cases a4:k=0
     case' pos=>
      have X:=da (show ¬(0<k) by omega);have W:ahd x/\∀y,0<k->xs[k-1]?=some y->Op.bytesLess y.p.toList x.p.toList=true:=⟨⟨a.out,b.out⟩,λy h0=>by omega⟩;have kU:=ab W;clear W;clear a4;go_wp2;have o:=ae D;have n:=ae Q;refine aM (by kernel_rfl) (by kernel_rfl) ?_;repeat(go_big_quiet_step (first|(go_at_call 58;refine dJ (v:=.bool true) ?_;rw[<-a.out];exact jk x.p B.1 _)|(go_at_call 59;refine dJ (v:=.bool true) ?_;rw[<-b.out];exact kX x.b B.2 _)))
      refine gt ?_;intro O d;have g:=bm d;clear d o n
     case' neg=>
      obtain⟨k',ow⟩:∃m,m=k-1:=⟨_,rfl⟩;have e1:(k:Int)-1=((k':Nat):Int):=by omega
      have a2:k'<xs.length:=by omega
      have X:=dj (show 0<k by omega);obtain⟨z,t⟩:=aq a2;obtain⟨b1,U,F,_,_,a8,P,_⟩:=jJ (eD.ar.below h G Z) t;simp only[mt,qz,qu] at F;obtain⟨rfl,rfl⟩:=F;replace t:=ab t;have S:=ab ow;have a1:0<k:=by omega
      clear ow;cases L:Op.bytesLess z.p.toList x.p.toList
      .have M:=ab L;have f:q=false:=by
        rw[<-lP,N.out];rintro⟨-,h⟩;have h:=h k x E.out;have h:=h.2.1 z a1 (by rw[<-S.out];exact t.out);rw[M.out] at h;cases h
       have s:=ab f;clear f;go_wp2;have o:=ae D;have n:=ae Q;have aZ:=ae P;refine aM (by kernel_rfl) (by kernel_rfl) ?_;repeat(go_big_quiet_step (first|(go_at_call 58;refine dJ (v:=.bool true) ?_;rw[<-a.out];exact jk x.p B.1 _)|(go_at_call 59;refine dJ (v:=.bool true) ?_;rw[<-b.out];exact kX x.b B.2 _)))
       refine gt ?_;intro O d;have g:=bm d;clear d o n aZ;go_wp2;go_ret;exact⟨aB s.out.symm,ag G g⟩
      have M:=ab L;have W:ahd x/\∀y,0<k->xs[k-1]?=some y->Op.bytesLess y.p.toList x.p.toList=true:=⟨⟨a.out,b.out⟩,λy h0 hy=>by
       rw[<-S.out,t.out] at hy;cases hy;exact M.out⟩
      have kU:=ab W;clear W;go_wp2;have o:=ae D;have n:=ae Q;have aZ:=ae P;refine aM (by kernel_rfl) (by kernel_rfl) ?_;repeat(go_big_quiet_step (first|(go_at_call 58;refine dJ (v:=.bool true) ?_;rw[<-a.out];exact jk x.p B.1 _)|(go_at_call 59;refine dJ (v:=.bool true) ?_;rw[<-b.out];exact kX x.b B.2 _)))
      refine gt ?_;intro O d;have g:=bm d;clear d o n aZ;clear P L e1
     all_goals
      have V:=ag G g;clear D Q X;go_wp2;go_loopw [4] (λjj wr=>∃j:Nat,j<=k/\jj=.int .i64 j/\(∀i y,i<j->xs[i]?=some y->ml y.p x.p=false)/\Below w.heap.size w wr) (λjj _=>k-(intOf jj).toNat)
      case atStart=>exact⟨0,fb _,rfl,λi y hi=>absurd hi (sF i),V⟩
      case round=>
       clear V g;obtain⟨j,hj,rfl,C,u⟩:=hrel;replace C:=ab C;by_cases T:j<k
       .obtain⟨y,R⟩:=aq (l:=xs) (k:=j) (by omega);obtain⟨b1,U,F,_,_,a5,P,_⟩:=jJ (eD.ar.below h u Z) R;simp only[mt,qz,qu] at F;obtain⟨rfl,rfl⟩:=F;obtain⟨b1,U,F,_,_,_,D,_⟩:=jJ (eD.ar.below h u Z) E.out;simp only[mt,qz,qu] at F;obtain⟨rfl,rfl⟩:=F;have a3:0<y.p.size:=by
         have:=kW (p.out j y T R).1.1;omega
        have a0:0<x.p.size:=by have:=kW kU.out.1.1;omega
        have HC:=ab (λw':World=>agS (β:=β) y.p x.p ⟨a3,a5.1⟩ ⟨a0,B.1⟩ w');replace R:=ab R;cases H:ml y.p x.p
        .replace H:=ab H;have I:∀i z,i<j+1->xs[i]?=some z->ml z.p x.p=false:=λi z hi J=>by
          rcases pi i j with r|nZ
          .exact C.out i z r J
          .obtain rfl:i=j:=by omega
           rw[R.out] at J;cases J;exact H.out
         replace I:=ab I;go_wp2;have o:=ae P;have n:=ae D;refine aM (by kernel_rfl) (by kernel_rfl) ?_;repeat(go_big_quiet_step (first|(go_at_call 79;refine dI (v:=.bool false) ?_;rw[<-H.out];exact HC.out _)))
         refine gt ?_;intro O d;have g:=bm d;clear d o n;go_wp2;go_roundw
         case rel=>exact⟨j+1,by omega,by go_num,I.out,ag u g⟩
         simp[intOf];omega
        .replace H:=ab H;have f:q=false:=by
          rw[<-lP,N.out];rintro⟨-,h⟩;have h:=h k x E.out;have h:=h.2.2 j y T R.out;rw[H.out] at h;cases h
         have s:=ab f;clear f;go_wp2;have o:=ae P;have n:=ae D;refine aM (by kernel_rfl) (by kernel_rfl) ?_;repeat(go_big_quiet_step (first|(go_at_call 79;refine dI (v:=.bool true) ?_;rw[<-H.out];exact HC.out _)))
         refine gt ?_;intro O d;have g:=bm d;clear d o n;go_wp2;go_ret;exact⟨aB s.out.symm,ag u g⟩
       .obtain rfl:j=k:=by omega
        have K:∀i z,i<j+1->xs[i]?=some z->aqU xs i z:=λi z hi J=>by
         rcases pi i j with r|nZ
         .exact p.out i z r J
         .obtain rfl:i=j:=by omega
          rw[E.out] at J;cases J;exact⟨kU.out.1,kU.out.2,C.out⟩
        replace K:=ab K;go_wp2;go_roundw
        case rel=>exact⟨j+1,by omega,by go_num,K.out,u⟩
        simp[intOf];omega
  .obtain rfl:k=xs.length:=by omega
   by_cases h6:xs.length<=6
   .have X:=dj (show(xs.length:Int)<=6 by omega);have f:q=true:=N.out.2 ⟨h6,λi x Y=>p.out i x (aC Y) Y⟩;have s:=ab f;clear f;go_wp2;go_ret;exact⟨aB s.out.symm,G⟩
   .have X:=da (show ¬((xs.length:Int)<=6) by omega);have f:q=false:=by
     rw[<-lP,N.out];rintro⟨h, -⟩;exact h6 h
    have s:=ab f;clear f;go_wp2;go_ret;exact⟨aB s.out.symm,G⟩
open Classical in
def aa0(xs:List Nd)(v:Value)(w:World)(b hi:Nat)(h:eD w b hi xs [v])(c:hi<=w.heap.size) :
  Calls (ah β) 52 #[v] w λe a=>agR (lh xs) e/\Below w.heap.size w a:=
 (aoi xs v w b hi h c (decide (lh xs)) (by rw[decide_eq_true_iff,aqW])).mono λe a ⟨he,hb⟩=>⟨he▸agR.of λh=>sM h,hb⟩
end
section
variable {β:Bool}
open Go.RowKit
def lJ(x:It):List It->List It
 |[]=>[x]
 |y::l=>if x.n<y.n then x::y::l else y::lJ x l
def af2{x:It}:∀{a:List It},(∀y∈a,¬x.n<y.n)->lJ x a=a++[x]
 |[],_=>rfl
 |y::a,h=>by
  show(if x.n<y.n then _ else _)=_;rw[bv (h y (by simp)),af2 λz b=>h z (by simp[b])];rfl
def aiM{x z:It}:∀{a:List It},(∀y∈a,¬x.n<y.n)->x.n<z.n->lJ x (a++[z])=a++[x]++[z]
 |[],_,b=>by show(if x.n<z.n then _ else _)=_;rw[dq b];rfl
 |y::a,h,b=>by
  show(if x.n<y.n then _ else _)=_;rw[bv (h y (by simp))];show y::lJ x (a++[z])=_;rw[aiM (λz b=>h z (by simp[b])) b];rfl
def aiN{x z:It}:∀{a:List It},(∃y∈a,x.n<y.n)->lJ x (a++[z])=lJ x a++[z]
 |[],h=>by obtain⟨y,b,_⟩:=h;cases b
 |y::a,h=>by
  show(if x.n<y.n then _ else _)=(if x.n<y.n then _ else _)++_;by_cases b:x.n<y.n
  .rw[dq b,dq b];rfl
  .rw[bv b,bv b];show y::lJ x (a++[z])=y::(lJ x a++[z]);rw[aiN];obtain⟨u,d,c⟩:=h;rcases oE.1 d with rfl|d
   .exact absurd c b
   .exact⟨u,d,c⟩
def aeO(x:It):∀l:List It,(lJ x l).length=l.length+1
 |[]=>rfl
 |y::l=>by
  show(if x.n<y.n then _ else _:List It).length=_;split
  .rfl
  .show(lJ x l).length+1=_;rw[aeO x l];rfl
def aiO{x z:It}:∀{l:List It},z∈lJ x l↔z=x\/z∈l
 |[]=>by show z∈[x]↔_;simp
 |y::l=>by
  show z∈(if x.n<y.n then _ else _)↔_;split
  .simp
  .rw[oE,aiO,oE];constructor
   .rintro(h|h|h)<;>simp[h]
   .rintro(h|h|h)<;>simp[h]
def ab3(x:It)(a:List It)(b:Bool)(o:List It):Prop:=(b=false/\o=a/\∀y∈a,¬x.n<y.n)\/(b=true/\o=lJ x a/\∃y∈a,x.n<y.n)
def aoj{a o:List It}{b:Bool}(h:ab3 x a b o):o.length<=a.length+1:=by
 rcases h with⟨_,rfl,_⟩|⟨_,rfl,_⟩
 .omega
 .rw[aeO];exact am _
def aok{a o:List It}(h:ab3 x a false o)(b:x.n<z.n):ab3 x (a++[z]) true (o++[x]++[z]):=by
 rcases h with⟨_,rfl,h⟩|⟨h,_⟩
 .exact .inr ⟨rfl,(aiM h b).symm,z,by simp,b⟩
 .cases h
def aqZ{a o:List It}(h:ab3 x a false o)(c:¬x.n<z.n):ab3 x (a++[z]) false (o++[z]):=by
 rcases h with⟨_,rfl,h⟩|⟨h,_⟩
 .exact .inl ⟨rfl,rfl,λy b=>by
   rcases mx.1 b with b|b
   .exact h y b
   .rw[pe.1 b];exact c⟩
 .cases h
def ak3{a o:List It}(h:ab3 x a true o):ab3 x (a++[z]) true (o++[z]):=by
 rcases h with⟨h,_⟩|⟨_,rfl,y,b,c⟩
 .cases h
 .exact .inr ⟨rfl,(aiN ⟨y,b,c⟩).symm,y,by simp[b],c⟩
def aol{a o:List It}{b:Bool}(h:ab3 x a b o):(b=false/\lJ x a=o++[x])\/(b=true/\lJ x a=o):=by
 rcases h with⟨c,rfl,h⟩|⟨c,rfl,_⟩
 .exact .inl ⟨c,af2 h⟩
 .exact .inr ⟨c,rfl⟩
def azB(w:World)(ys:List It)(e:Ending)(w':World):Prop:=∃v,e=.returned v/\aK mo 60 w' w.heap.size v ys/\Below w.heap.size w w'
def aom(x:It)(W:mo.good x)(xs:List It)(v:Value)(w:World)(S hi:Nat)(aX:hi<=w.heap.size)(h:acD w S hi xs [v])(hl:xs.length<=1000000) :
  Calls (ah β) 86 #[v,.agg #[.int .i64 x.n,.string x.b]] w (azB w (lJ x xs)):=by
 obtain⟨A,c,rfl⟩:=h.form;obtain⟨_,hc,hx⟩:=h.len_;unfold maxLen at hx;go_enter yJ,ntmps86;go_wp2;generalize hG:(w.alloc (.cells #[.int .i64 x.n,.string x.b] 60)).alloc (.cells #[] 60)=w0 at *;obtain⟨B,iP,k0,cZ,eK,J,T,ed⟩:=oV hG;have E:w.heap.size+1<=w0.heap.size:=by omega
 have g0:=acD.ar.below h B aX;have o0:aK mo 60 w0 (w.heap.size+1) (.slice (some ⟨w.heap.size+1,0,none⟩) 0 0) []:=aK.aif ⟨_,rfl,am _,J⟩;go_loopw [5,6,7] (λoo pp R wr=>∃(k:Nat) (b:Bool) (o:List It),k<=xs.length/\pp=.bool b/\R=.int .i64 k/\aK mo 60 wr (w.heap.size+1) oo o/\ab3 x (xs.take k) b o/\bq (λb=>w.heap.size+1<=b) w0 wr) (λ_ _ R _=>xs.length-(intOf R).toNat)
 case atStart=>exact⟨0,false,[],fb _,rfl,rfl,o0,.inl ⟨rfl,rfl,λy hy=>(by cases hy)⟩,bq.refl _ _⟩
 case round=>
  obtain⟨k,b,o,hk,rfl,rfl,s,f,g⟩:=hrel;replace f:=ab f;obtain⟨r,t,rfl⟩:=s.form;have pT:=aoj f.out;rw[fa] at pT;have g1:acD wr S hi xs [.slice A xs.length c]:=acD.ar.fc g0 g λb _ h2 _ h3=>by omega
  have J:=aP k0 g (by omega);have T:=J.cell;have ed:=J.frozen;by_cases N:k<xs.length
  .obtain⟨z,m⟩:=aq N;obtain⟨b1,a1,rfl,a5,a3,a2,Z,cb⟩:=avK g1 m;replace m:=ab m;have M:=ab (li m.out);cases b with
   |true=>
    have C:=ab (ak3 (z:=z) f.out);go_wp2
    go_quiet (fail)
    have j:aK mo 60 (wr.drewN nq) (w.heap.size+1) (.slice r o.length t) o:=s;go_wp2_with(at_builtin;refine cu (F:=mo) (v:=.slice r o.length t) rfl (.tmp 31) (.tmp 36) 52 rfl nu z rfl j rfl rfl (by first|omega|(simp only[aE,ga,mw];omega)) (ap E (g.drewN nq).size) ?_;intro O u d n q;obtain⟨D,G,rfl⟩:=d.form;simp only[aE,ga,mw,mc] at d;skip);have a:bq (λb=>w.heap.size+1<=b) w0 u:=(g.drewN nq).trans n λb I e=>(j.at_ e).1;go_roundw
    case rel=>exact⟨k+1,true,o++[z],by omega,rfl,by go_num,d,by rw[M.out];exact C.out,a⟩
    simp[intOf];omega
   |false=>
    by_cases l:x.n<z.n
    .have t1:decide (x.n<z.n)=true:=dj l;have C:=ab (aok f.out l);go_wp2
     go_quiet (fail)
     have j:aK mo 60 (wr.drewN nq) (w.heap.size+1) (.slice r o.length t) o:=s;have gp:∀i,(wr.drewN nq).cell? ⟨w.heap.size,i,none⟩=_:=T;go_wp2_with(first|(at_builtin;refine cu (F:=mo) (v:=.slice r o.length t) rfl (.tmp 27) (.tmp 29) 52 rfl nu x rfl j rfl rfl (by first|omega|(simp only[aE,ga,mw];omega)) (ap E (g.drewN nq).size) ?_;intro O u d n q;obtain⟨D,G,rfl⟩:=d.form;simp only[aE,ga,mw,mc] at d;have a:bq (λb=>w.heap.size+1<=b) w0 u:=(g.drewN nq).trans n λb I e=>(j.at_ e).1;have a0:=iO (w:=wr.drewN nq) Z n (λH=>by have:=(j.at_ H).1;dsimp only at this;omega);have a4:=iO (w:=wr.drewN nq) cb n (λH=>by have:=(j.at_ H).1;dsimp only at this;omega))|(at_builtin;refine cu (F:=mo) (v:=.slice D (o.length+1) G) rfl (.tmp 31) (.tmp 36) 52 rfl nu z rfl d rfl rfl (by first|omega|(simp only[aE,ga,mw];omega)) (ap E a.size) ?_;intro v4 V Q K X;obtain⟨A4,c4,rfl⟩:=Q.form;simp only[aE,ga,mw,mc] at Q;have P:bq (λb=>w.heap.size+1<=b) w0 V:=a.trans K λb I e=>(d.at_ e).1));go_roundw
     case rel=>exact⟨k+1,true,o++[x]++[z],by omega,rfl,by go_num,Q,by rw[M.out];exact C.out,P⟩
     simp[intOf];omega
    .have t1:decide (x.n<z.n)=false:=da l;have C:=ab (aqZ f.out l);go_wp2
     go_quiet (fail)
     have j:aK mo 60 (wr.drewN nq) (w.heap.size+1) (.slice r o.length t) o:=s;go_wp2_with(at_builtin;refine cu (F:=mo) (v:=.slice r o.length t) rfl (.tmp 31) (.tmp 36) 52 rfl nu z rfl j rfl rfl (by first|omega|(simp only[aE,ga,mw];omega)) (ap E (g.drewN nq).size) ?_;intro O u d n q;obtain⟨D,G,rfl⟩:=d.form;simp only[aE,ga,mw,mc] at d;skip);have a:bq (λb=>w.heap.size+1<=b) w0 u:=(g.drewN nq).trans n λb I e=>(j.at_ e).1;go_roundw
     case rel=>exact⟨k+1,false,o++[z],by omega,rfl,by go_num,d,by rw[M.out];exact C.out,a⟩
     simp[intOf];omega
  .obtain rfl:k=xs.length:=by omega
   have p:=aol f.out;rw[gc] at p;have U:=ab p;have Y:Below w.heap.size w wr:=B.trans (g.below B.size λi hi H=>by omega);cases b with
   |true=>
    have L:lJ x xs=o:=by
     rcases U.out with⟨h,_⟩|⟨_,h⟩
     .cases h
     .exact h
    rw[L];go_wp2;go_ret;exact⟨_,rfl,s.base (by omega),Y⟩
   |false=>
    have L:lJ x xs=o++[x]:=by
     rcases U.out with⟨_,h⟩|⟨h,_⟩
     .exact h
     .cases h
    rw[L];go_wp2_with(at_builtin;refine cu (F:=mo) (v:=.slice r o.length t) rfl (.tmp 40) (.tmp 42) 52 rfl nu x rfl s rfl rfl (by first|omega|(simp only[aE,ga,mw];omega)) (ap E g.size) ?_;intro O u d n q;obtain⟨D,G,rfl⟩:=d.form;simp only[aE,ga,mw,mc] at d;skip);have a:bq (λb=>w.heap.size+1<=b) w0 u:=g.trans n λb I e=>(s.at_ e).1;go_ret;exact⟨.slice D (o.length+1) G,rfl,by have:=d.base (base':=w.heap.size) (by omega);simpa using this,B.trans (a.below B.size λi hi H=>by omega)⟩
def lj(key:Int)(s:ByteArray):It:=⟨cP key (bs s),rE (gb (bs s))⟩
def gR(key:Int)(l:List ByteArray):List It:=l.foldl (λa s=>lJ (lj key s) a) []
def aa1(key:Int)(l:List ByteArray)(s:ByteArray):gR key (l++[s])=lJ (lj key s) (gR key l):=by
 unfold gR;rw[sN];rfl
def pX(key:Int)(l:List ByteArray):(gR key l).length=l.length:=by
 induction l using pN with
 |h0=>rfl
 |h1 l s a=>rw[aa1,aeO,a,aE];rfl
def acI{key:Int}{l:List ByteArray}:x∈gR key l↔∃s∈l,x=lj key s:=by
 induction l using pN with
 |h0=>simp[gR]
 |h1 l s b=>
  rw[aa1,aiO,b];constructor
  .rintro(h|⟨t,a,h⟩)
   .exact⟨s,by simp,h⟩
   .exact⟨t,by simp[a],h⟩
  .rintro⟨t,a,h⟩;rcases mx.1 a with a|a
   .exact .inr ⟨t,a,h⟩
   .rw[pe.1 a] at h;exact .inl h
def ac9(key:Int){s:ByteArray}(a:bB (bs s)):mo.good (lj key s):=by
 have b:=oT (key:=key) (l:=bs s);show bZ (cP key (bs s))/\(rE (gb (bs s))).size<=maxLen;refine⟨by unfold bZ;omega, ?_⟩;rw[<-aO,agK,ah4 a];have:=(pO (n:=(bs s).length)).1;unfold maxLen;omega
def aeP{key:Int}{l:List ByteArray}(h:∀s∈l,bB (bs s)):∀x∈gR key l,mo.good x:=λx b=>by
 obtain⟨s,a,rfl⟩:=acI.1 b;exact ac9 key (h s a)
def azC(no:Int)(w:World)(ys:List It)(e:Ending)(w':World):Prop:=∃v,e=.returned (.agg #[.int .i64 no,v])/\aK mo 60 w' w.heap.size v ys/\Below w.heap.size w w'
def ak4(u key:Int)(hk:1<=key/\key<=99)(xs:List ByteArray)(F:∀s∈xs,bB (bs s))(hl:xs.length<=100)(v:Value)(w:World)(lo hi:Nat)(aX:hi<=w.heap.size)(h:dt w lo hi xs [v]) :
  Calls (ah β) 56 #[.int .i64 u,.int .i64 key,v] w (azC u w (gR key xs)):=by
 replace F:=ab F;obtain⟨A,c,rfl⟩:=h.form;go_enter zd,ntmps56;go_wp2;generalize hG:((w.alloc (.cells #[.int .i64 0,.slice none 0 0] 54)).alloc (.cells #[] 60)).alloc (.cells #[.int .i64 u,.slice (some ⟨w.heap.size+1,0,none⟩) 0 0] 54)=w0 at *;obtain⟨aL,iP,f,cZ,eK,k1,dx,ed,b,m,jw⟩:=aes hG;have o0:aK mo 60 w0 (w.heap.size+1) (.slice (some ⟨w.heap.size+1,0,none⟩) 0 0) []:=aK.aif ⟨_,rfl,am _,k1⟩;go_loopw [8] (λY wr=>∃(k:Nat) (Q:Value),k<=xs.length/\Y=.int .i64 k/\aK mo 60 wr (w.heap.size+1) Q (gR key (xs.take k))/\bg wr w.heap.size 54 #[.int .i64 0,.slice none 0 0]/\bg wr (w.heap.size+1+1) 54 #[.int .i64 u,Q]/\Below w.heap.size w wr) (λY _=>xs.length-(intOf Y).toNat)
 case atStart=>exact⟨0,_,fb _,rfl,o0,f,b,aL⟩
 case round=>
  obtain⟨k,Q,a1,rfl,i,f,b,d⟩:=hrel;obtain⟨K,R,rfl⟩:=i.form;have h1:=dt.ar.below h d aX;have cZ:=f.cell;have eK:=f.frozen;have m:=b.cell;have jw:=b.frozen;have q:Hid (∀x∈gR key (xs.take k),mo.good x):=ab (aeP λs hs=>F.out s (pu hs));have C:(gR key (xs.take k)).length<=100:=by rw[pX,fa];omega
  by_cases S:k<xs.length
  .obtain⟨s,l⟩:=aq S;obtain⟨b1,a3,rfl,_,_,M,n⟩:=kZ h1 l;have D:=F.out s (db l);have o:gR key (xs.take (k+1))=lJ (lj key s) (gR key (xs.take k)):=by rw[li l,aa1]
   have HST:=ab o;have N:=ab (ac9 key D);have T:=ab (λw=>aaM (β:=β) key s hk D w);have W:=ab (λw=>anM (β:=β) s M w);have U:lj key s=⟨cP key (bs s),rE (gb (bs s))⟩:=rfl;have a2:=ab U;have O:=ab (agK s);have I:=i.deep q.out (w.heap.size+1) |>.sl (am _)
   have G:wr.cell? ⟨w.heap.size+1+1,1,none⟩=some (.slice K (gR key (xs.take k)).length R):=m 1;have z:=ab (λg hg=>i.at_ (g:=g) hg);have a0:w.heap.size+1+1<wr.heap.size:=b.lt;revert HST;revert C;revert G;revert I;revert q;revert z;revert i;revert m;revert b;generalize gR key (xs.take k)=L;intro b m i z q I G C HST;go_wp2;have aG:=ae G;have aI:=ae n;refine aF 15 [0,1,2,3,4,5,6,8,9,10,11] [7,12,13,14] (h:= ?_);simp only[pick,List.map,ge,gn];repeat(go_big_quiet_step (fail))
   refine gt ?_;apply Exists.intro;apply dQ (.int .i64 (cP key (bs s)))
   .intro y j H a;replace a:=ab a;go_wp2;refine(T.out y.to).mono ?_;rintro e Z ⟨rfl,rfl⟩;go_wp2;exact a.out _ (fd _ _)
   apply dQ (.string (rE (gb (bs s))))
   .intro y j H a;replace a:=ab a;go_wp2;refine(W.out y.to).mono ?_;rintro e Z ⟨⟨t,rfl,ht⟩,rfl⟩;have P:t=rE (gb (bs s)):=oP (ht.trans O.out.symm);subst P;go_wp2;exact a.out _ (fd _ _)
   apply dQ (.agg #[.int .i64 (cP key (bs s)),.string (rE (gb (bs s)))])
   .intro y j H a;replace a:=ab a;go_wp2;exact a.out _ (fd _ _)
   apply aU (λv w'=>aK mo 60 w' wr.heap.size v (lJ (lj key s) L))
   .rfl
   .exact λv x y h X=>h.below X
   .intro y j H a;replace a:=ab a;have r1:=acD.ar.below I y.ok (am _);go_wp2;refine(aom (lj key s) N.out L _ y.to _ _ y.ok.size r1 (by omega)).mono ?_;rintro e Z ⟨vy,rfl,oy,J⟩;go_wp2;exact a.out _ _ J (oy.base y.ok.size)
   intro a4;refine aS ?_;intro w2 r xx cT j;dsimp only[dP] at j;try rw[cT] at j
   obtain⟨A5,c5,rfl⟩:=j.1.form;have o5:=j.1;simp only[List.drop];replace f:=ak f r;replace cZ:=f.cell;replace eK:=f.frozen;replace b:=ak b r;replace m:=b.cell;replace jw:=b.frozen;replace d:=ag d r;go_wp2;have B:=b.bF 1 (.slice A5 (lJ (lj key s) L).length c5);simp only[ef,ip,jt] at B;go_roundw
   case rel=>exact⟨k+1,_,by omega,by go_num,by rw[HST.out];exact(o5.bF _ (by dsimp only;omega)).base (by omega),bV f _ (by dsimp only;omega),B,d.setCell (by dsimp only;omega) _⟩
   simp[intOf];omega
  .obtain rfl:k=xs.length:=by omega
   rw[gc] at i m b;obtain⟨L,E⟩:∃L,L=gR key xs:=⟨_,rfl⟩;rw[<-E] at i m b ⊢;replace E:=ab E;go_wp2;have k4:=(f.bF 0 (.int .i64 u)).bF 1 (.slice K L.length R);simp only[ef,ip,jt] at k4;have V:=k4.cell;exact pa (v:=.agg #[.int .i64 u,.slice K L.length R]) (by simp[results,results56,go_sem,V]) rfl ⟨_,rfl,by rw[<-E.out];exact aK.base (base:=w.heap.size+1) ((i.bF (p:=⟨w.heap.size,0,none⟩) _ (by dsimp only;omega)).bF (p:=⟨w.heap.size,1,none⟩) _ (by dsimp only;omega)) (by omega),(d.setCell (by simp) _).setCell (by simp) _⟩
end
section
variable {β:Bool}
open Go.RowKit
def amV(p:List Nd->Prop)(w:World)(e:Ending)(w':World):Prop:=∃v a,e=.returned v/\aK mv 67 w' w.heap.size v a/\p a/\Below w.heap.size w w'
def aiP(xs:List Nd)(s:ByteArray)(v:Value)(w:World)(E hi:Nat)(h:eD w E hi xs [v])(D:hi<=w.heap.size)(O:xs.length<=1000) :
  Calls (ah β) 30 #[v,.string s] w (amV (λys=>ys.Sublist xs) w):=by
 obtain⟨A,c,rfl⟩:=h.form;go_enter zA,ntmps30;go_wp2;have m:=av w (.cells #[] 67);have l:aK mv 67 (w.alloc (.cells #[] 67)) w.heap.size (.slice (some ⟨w.heap.size,0,none⟩) 0 0) []:=(eb.new w 67 (am _)).own 2;generalize w.alloc (.cells #[] 67)=w0 at *;go_loopw [5,6] (λy p wr=>∃(k:Nat) (ys:List Nd),k<=xs.length/\p=.int .i64 k/\aK mv 67 wr w.heap.size y ys/\ys.Sublist (xs.take k)/\Below w.heap.size w wr) (λ_ p _=>xs.length-(intOf p).toNat)
 case atStart=>exact⟨0,[],fb _,rfl,l,List.Sublist.refl _,m⟩
 case round=>
  obtain⟨k,ys,J,rfl,e,f,d⟩:=hrel;obtain⟨C,u,rfl⟩:=e.form;have r:ys.length<=k:=by have:=f.length_le;rw[fa] at this;omega
  by_cases g:k<xs.length
  .obtain⟨x,j⟩:=aq g;obtain⟨H,t,rfl,_,B,I,Q,N⟩:=jJ (eD.ar.below h d D) j;have a:(ys++[x]).Sublist (xs.take (k+1)):=by rw[li j];exact f.append (List.Sublist.refl _)
   have b:ys.Sublist (xs.take (k+1)):=by rw[li j];exact f.trans (List.sublist_append_left _ _)
   replace a:=ab a;replace b:=ab b;cases K:(x.p.toList ==s.toList)
   .go_wp2_with(at_builtin;refine cu (F:=mv) (v:=.slice C ys.length u) rfl (.tmp 21) (.tmp 26) 34 rfl nH x rfl e rfl rfl (by omega) d.size ?_;intro P L n o q;obtain⟨G,M,rfl⟩:=n.form;simp only[aE,ga,mw,mc] at n);go_roundw
    case rel=>
     exact⟨k+1,ys++[x],by omega,by go_num,by simpa using n,a.out,d.trans (o.below d.size λi hi z=>by have:=(e.at_ z).1;omega)⟩
    case measure=>simp[intOf];omega
   .go_wp2;go_roundw
    case rel=>exact⟨k+1,ys,by omega,by go_num,e,b.out,d⟩
    simp[intOf];omega
  .obtain rfl:k=xs.length:=by omega
   go_wp2;go_ret;exact⟨_,ys,rfl,e,by rwa [gc] at f,d⟩
def ak5(xs:List Nd)(f:Nd)(hf:mv.good f)(v:Value)(w:World)(lo hi:Nat)(h:eD w lo hi xs [v])(Y:hi<=w.heap.size)(hl:xs.length<=1000) :
  Calls (ah β) 60 #[v,.agg #[.string f.p,.string f.b]] w (amV (λa=>(∀y∈a,y∈xs\/y=f)/\a.length<=xs.length+1) w):=by
 obtain⟨A,c,rfl⟩:=h.form;go_enter yZ,ntmps60;go_wp2;generalize hG:(w.alloc (.cells #[.string f.p,.string f.b] 67)).alloc (.cells #[] 67)=w0 at *;obtain⟨aL,iP,k0,cZ,eK,k1,dx,ed⟩:=oV hG;clear hG;have P:aK mv 67 w0 (w.heap.size+1) (.slice (some ⟨w.heap.size+1,0,none⟩) 0 0) []:=eb.own ⟨_,rfl,am _,k1⟩ 2;clear k1 dx ed cZ eK;go_loopw [5,6,7] (λoo dd ii wr=>∃(k:Nat) (d:Bool) (a:List Nd),k<=xs.length/\ii=.int .i64 k/\dd=.bool d/\aK mv 67 wr (w.heap.size+1) oo a/\(∀y∈a,y∈xs\/y=f)/\a.length<=k+(if d then 1 else 0)/\Below (w.heap.size+1) w0 wr) (λ_ _ ii _=>xs.length-(intOf ii).toNat)
 case atStart=>exact⟨0,false,[],fb _,rfl,rfl,P,λy b=>(by cases b),am _,fd _ _⟩
 case round=>
  clear P;obtain⟨k,d,a,hk,rfl,rfl,p,b,e,m⟩:=hrel;obtain⟨Z,X,rfl⟩:=p.form;have U:bg wr w.heap.size 67 #[.string f.p,.string f.b]:=(m.block _ (by omega)).trans k0;have j:wr.cell? ⟨w.heap.size,0,none⟩=some (.string f.p):=U.cell 0;have z:wr.cell? ⟨w.heap.size,1,none⟩=some (.string f.b):=U.cell 1;have r:Below w.heap.size w wr:=aL.trans (m.mono (by omega));have G:=ab b;clear b;by_cases a1:k<xs.length
  .obtain⟨x,O⟩:=aq a1;obtain⟨b1,aa,rfl,_,af,hg,M,c1⟩:=jJ (eD.ar.below h r Y) O;have HX:=ab (db O);replace O:=ab O;clear M c1;cases d
   case' true=>
    go_wp2;have s:=ae j;refine aM (by kernel_rfl) (by kernel_rfl) ?_;repeat(go_big_quiet_step (fail))
    refine gt ?_;intro V l;have g:=bm l;clear l s;have D:=m.trans (g.mono (by have:=m.size;omega));have oz:=p.below g;clear p j z m r U;go_wp2;have q:=G;have o:=e;clear G e;generalize Z=A2 at *;generalize X=W at *;generalize a=ys2 at *
   case' false=>
    cases T:Op.bytesLess x.p.toList f.p.toList
    case' false=>
     obtain⟨b2,iE,C,_,_,_,M,_⟩:=jJ (eD.ar.below h r Y) O.out;simp only[mt,qz,qu] at C;obtain⟨rfl,rfl⟩:=C;go_wp2;have s:=ae M;have I:=ae j;refine aM (by kernel_rfl) (by kernel_rfl) ?_;repeat(go_big_quiet_step (fail))
     refine gt ?_;intro V l;have g:=bm l;clear l s I;have B:=m.trans (g.mono (by have:=m.size;omega));have K:=p.below g;have a3:=aR g j;have a4:=aR g z;have a6:a.length<=k:=by simpa using e
     clear p M j z T;go_wp2_with(at_builtin;refine cu (F:=mv) (v:=.slice Z a.length X) rfl (.tmp 27) (.tmp 29) 34 rfl nH f rfl K rfl rfl (by omega) (by have:=B.size;omega) ?_;intro va wa H L a2;obtain⟨A2,W,rfl⟩:=H.form;simp only[aE,ga,mw,mc] at H);have oz:aK mv 67 wa (w.heap.size+1) (.slice A2 (a++[f]).length W) (a++[f]):=by simpa using H
     have D:Below (w.heap.size+1) w0 wa:=B.trans (L.below (by have:=B.size;omega) λi hi S=>by have:=(K.at_ S).1;omega);have q:Hid (∀y∈a++[f],y∈xs\/y=f):=ab λy b=>by
      rcases mx.1 b with b|b
      .exact G.out y b
      .exact .inr (pe.1 b)
     have o:(a++[f]).length<=k+(if true then 1 else 0):=by simp;omega
     have E:(a++[f]).length=a.length+1:=by simp
     rw[<-E];clear E H K B m r U e a3 a4;clear G;generalize a++[f]=ys2 at *
    case' true=>
     obtain⟨b2,iE,C,_,_,_,M,_⟩:=jJ (eD.ar.below h r Y) O.out;simp only[mt,qz,qu] at C;obtain⟨rfl,rfl⟩:=C;go_wp2;have s:=ae M;have I:=ae j;refine aM (by kernel_rfl) (by kernel_rfl) ?_;repeat(go_big_quiet_step (fail))
     refine gt ?_;intro V l;have g:=bm l;clear l s I;have D:=m.trans (g.mono (by have:=m.size;omega));have oz:=p.below g;clear p M j z T m r U;go_wp2;have q:=G;have o:=e;clear G e;generalize Z=A2 at *;generalize X=W at *;generalize a=ys2 at *
   all_goals
    rename World=>wz
    have N:bg wz w.heap.size 67 #[.string f.p,.string f.b]:=((D).block _ (by omega)).trans k0;have t:(wz).cell? ⟨w.heap.size,0,none⟩=some (.string f.p):=N.cell 0;have J:Below w.heap.size w wz:=aL.trans ((D).mono (by omega));obtain⟨b3,a8,C,_,_,_,R,d1⟩:=jJ (eD.ar.below h J Y) O.out;simp only[mt,qz,qu] at C;obtain⟨rfl,rfl⟩:=C;cases Q:(x.p.toList ==f.p.toList)
    .have s:=ae R;have I:=ae t;refine aM (by kernel_rfl) (by kernel_rfl) ?_;repeat(go_big_quiet_step (fail))
     refine gt ?_;intro V l;have g:=bm l;clear l s I;have n:=(D).trans (g.mono (by have:=(D).size;omega));have u:=(oz).below g;have a5:=aR g R;have a9:=aR g d1;have a7:(ys2).length<=k+1:=ap o (by simp);have HL:=ab o;clear R d1 t Q J N;go_wp2_with(at_builtin;refine cu (F:=mv) (v:=.slice A2 (ys2).length W) rfl (.tmp 39) (.tmp 44) 34 rfl nH x rfl u rfl rfl (by omega) (by have:=n.size;omega) ?_;intro vb wb ob a0 ad;obtain⟨Ab,cb,rfl⟩:=ob.form);go_roundw
     case rel=>
      refine⟨k+1,_,ys2++[x],by omega,by go_num,rfl,by simpa using ob,λy b=> ?_,by have:=HL.out;rw[aE];simp at this ⊢;omega,n.trans (a0.below (by have:=n.size;omega) λi hi S=>by have:=(u.at_ S).1;omega)⟩;rcases mx.1 b with b|b
      .exact(q).out y b
      .rw[pe.1 b];exact .inl HX.out
     case measure=>simp[intOf];omega
    .have s:=ae R;have I:=ae t;refine aM (by kernel_rfl) (by kernel_rfl) ?_;repeat(go_big_quiet_step (fail))
     refine gt ?_;intro V l;have g:=bm l;clear l s I;have n:=(D).trans (g.mono (by have:=(D).size;omega));have u:=(oz).below g;have HL:=ab o;clear R d1 t Q J N;go_wp2;go_roundw
     case rel=>exact⟨k+1,_,ys2,by omega,by go_num,rfl,u,(q).out,by have:=HL.out;simp at this ⊢;omega,n⟩
     simp[intOf];omega
  .obtain rfl:k=xs.length:=by omega
   cases d
   .go_wp2_with(at_builtin;refine cu (F:=mv) (v:=.slice Z a.length X) rfl (.tmp 48) (.tmp 50) 34 rfl nH f rfl p rfl rfl (by simp at e;omega) (by have:=m.size;omega) ?_;intro va wa H L a2;obtain⟨Aa,ca,rfl⟩:=H.form;simp only[aE,ga,mw,mc] at H);go_ret;refine⟨_,a++[f],rfl,(by simpa using H:aK mv 67 wa (w.heap.size+1) (.slice Aa (a.length+1) ca) (a++[f])).base (by omega),⟨λy b=> ?_,by simp at e ⊢;omega⟩,r.trans (L.below r.size λi hi S=>by have:=(p.at_ S).1;omega)⟩;rcases mx.1 b with b|b
    .exact G.out y b
    .exact .inr (pe.1 b)
   .go_wp2;go_ret;exact⟨_,a,rfl,p.base (by omega),⟨G.out,by simpa using e⟩,r⟩
def aq0(w:World)(e:Ending)(w':World):Prop:=∃v a q,e=.returned (.tuple #[v,.bool q])/\aK mv 67 w' w.heap.size v a/\lh a/\Below w.heap.size w w'
def pY{b:List Nd}(h:lh b):∀y∈b,mv.good y:=λy c=>by
 have d:=kW (h.1 y c).1;have a:=(h.1 y c).2;unfold dH at a;rw[ff] at a;have e:=sM a.1;exact⟨by unfold maxLen;omega,by unfold maxLen;omega⟩
def ada(xs:List Nd)(p b:ByteArray)(t:p.size<=maxLen)(m:b.size<=maxLen)(v:Value)(w:World)(D hi:Nat)(h:eD w D hi xs [v])(j:hi<=w.heap.size)(O:xs.length<=1000) :
  Calls (ah β) 27 #[v,.string p,.string b] w (aq0 w):=by
 obtain⟨A,c,rfl⟩:=h.form;go_enter zD,ntmps27;go_wp2;refine(aa0 xs _ w D hi h j).mono ?_;rintro e f ⟨⟨rfl,g⟩|rfl,a⟩
 .replace g:=ab g;go_wp2;refine(jk p t f).mono ?_;rintro e l ⟨rfl,rfl⟩;cases S:jc p
  .go_wp2;exact pa (v:=.tuple #[.slice (some ⟨(f).heap.size,0,none⟩) 0 0,.bool false]) (by simp[results,results27,go_sem]) rfl ⟨_,[],false,rfl,(eb.new f 67 (a).size).own 2,.nil,(a).alloc (a).size _⟩
  .go_wp2;refine(kX b m f).mono ?_;rintro e l ⟨rfl,rfl⟩;cases J:dH b
   .go_wp2;exact pa (v:=.tuple #[.slice (some ⟨(f).heap.size,0,none⟩) 0 0,.bool false]) (by simp[results,results27,go_sem]) rfl ⟨_,[],false,rfl,(eb.new f 67 (a).size).own 2,.nil,(a).alloc (a).size _⟩
   .go_wp2;refine(ak5 xs ⟨p,b⟩ ⟨t,m⟩ _ f D hi (eD.ar.below h a j) (ap j a.size) O).mono ?_;rintro e l ⟨W,k,rfl,q,⟨C,K⟩,z⟩;obtain⟨R,M,rfl⟩:=q.form;have r:∀y∈k,mv.good y:=λy P=>by
     rcases C y P with L|rfl
     .exact pY g.out y L
     .exact⟨t,m⟩
    have V:=z.size;have Q:=(q.deep r f.heap.size).sl (am _);go_wp2;refine(aa0 k _ l f.heap.size l.heap.size Q (am _)).mono ?_;rintro e G ⟨⟨rfl,x⟩|rfl,n⟩
    .have s:=ab x;have d:=ag (ag a z) n;have N:=(q.below n).base a.size;go_wp2;exact pa (v:=.tuple #[.slice R k.length M,.bool true]) (by simp[results,results27,go_sem]) rfl ⟨_,k,true,rfl,N,s.out,d⟩
    .have d:=ag (ag a z) n;have E:=kY (F:=mv) (eD.ar.below h d j).1 (ap j d.size);have u:=ab E;have i:=av G (.cells #[] 67);have o:=ab (eb.new G 67 (am _));go_wp2_with(at_builtin;refine mN (F:=mv) (xs:=xs) i rfl (.tmp 31) (.tmp 32) 34 rfl nH (am _) rfl rfl o.out u.out (by omega) ?_;intro U T B H;obtain⟨A',I,rfl⟩:=H.form);exact pa (v:=.tuple #[.slice A' xs.length I,.bool false]) (by simp[results,results27,go_sem]) rfl ⟨_,xs,false,rfl,H.base d.size,g.out,ag d (ag i B)⟩
 .go_wp2;exact pa (v:=.tuple #[.slice (some ⟨(f).heap.size,0,none⟩) 0 0,.bool false]) (by simp[results,results27,go_sem]) rfl ⟨_,[],false,rfl,(eb.new f 67 (a).size).own 2,.nil,(a).alloc (a).size _⟩
end
section
variable {β:Bool}
open Go.RowKit
def at6(p:Prop):∃q:Bool,q=true↔p:=by
 by_cases h:p
 .exact⟨true,by simp[h]⟩
 .exact⟨false,by simp[h]⟩
def at7{l:List Sp}(h:ixP l):∀x∈l,FSp.good x:=λx a=>by
 have:=h.1 x a;unfold spP at this;refine⟨?_, ?_⟩<;>unfold bZ<;>omega
end
section
variable {β:Bool}
open Go.RowKit
def af3:∀{a l:List Sp} {x:Sp},x∈fg a l->x∈a\/x∈l
 |[],_,_,h=>.inr h
 |s::a,l,x,h=>by
  have b:x∈fg a (gO s l):=h;rcases af3 b with h|h
  .exact .inl (by simp[h])
  .rcases abN h with rfl|h
   .exact .inl (by simp)
   .exact .inr h
instance aDp:Inhabited Tr:=⟨.nil⟩
end
end Go.Proofs.YtbeafkpaghapeaaGreatDoor