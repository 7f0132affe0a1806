/- A part of the proof. -/
import Derived.Test.YtlaobkmopohmnaaGreatDoorG4
import Derived.Below
import Derived.Laws.Cover1
set_option maxRecDepth 100000
set_option maxHeartbeats 8000000
set_option linter.all false
open Go Go.Conc Go.ConcN Go.RowKit Go.Proofs.Tryz Go.Proofs.YtlaobkmopohmnaaGreatDoor
variable {x z:It} {Z c g hi i j n:Nat} {V:Type} {A:Addr} {a b:Code} {o:Oper} {q:Bool} {R w w':World} {u v:Value} {y:Frame} {X e t0:TypeId} {f:FuncId} {P:Program} {O rest:List Nat} {d:TypeDesc} {k k2:List Item} {Y:Array Oper} {W xs:List Frame} {U cs:List Value} {af:Array Edge} {S:Array Field} {Q T':Array Value} {B:Option Addr} {es:Array Event} {Post:Value→World→Prop} {gd:Option (Nat × Bool)}
namespace Go.Proofs.YtlaobkmopohmnaaGreatDoor
def be:=@_root_.Go.World.size_setCell
def de:=@_root_.List.setIfInBounds_toArray
def ff:=@_root_.List.set_cons_zero
def gc:=@_root_.List.set_cons_succ
def mu:=@_root_.List.length_singleton
def rz:=@_root_.List.getElem?_set_self
def rF:=@_root_.List.not_mem_nil
def rM:=@_root_.List.getElem?_set_ne
def rX:=@_root_.UInt8.lt_iff_toNat_lt
def sd:=@_root_.List.getElem?_of_mem
def sI:=@_root_.List.mem_toArray
def th:=@_root_.List.mem_or_eq_of_mem_set
def tj:=@_root_.Array.size_replicate
def tn:=@_root_.Go.Conc.mem_seen
def tG:=@_root_.List.contains_cons
def tL:=@_root_.List.ext_getElem?
def tY:=@_root_.Go.World.cell?_setCell_other
def ue:=@_root_.or_false
def uG:=@_root_.List.drop_length
def uK:=@_root_.Go.World.frozen?_setCell
def vJ:=@_root_.List.pairwise_iff_getElem
section
open Go.Conc Go.ConcN
abbrev T0C(a:Array Value):Array Value:=a++Array.replicate (20-a.size) undef
section
variable {β:Bool} {R:List Frame->World->Prop} {c0 c:Cfg} {iH ρ:Ren} {w0 w w2:World} {T:Array Value} {k:List Item} {y:Frame} {ys m:List Frame} {a a':Array Value}
def auE:Frame.enter (ai β) nCC a' .normal=FC (T0C a') [.code nD]:=by
 have a:(ai β).funcs[nCC]?=some qCC:=acA β;unfold Frame.enter;rw[a];rfl
def gu(e:w'.heap[A.block]?=w.heap[A.block]?):w'.cell? A=w.cell? A:=by
 unfold World.cell?;rw[e]
def xi{xs:Array Obj}{f:Obj->Obj}(h:∀o,xs[i]?=some o->f o=o):xs.modify i f=xs:=by
 apply sQ;intro j;rw[pi];by_cases e:i=j
 .subst e;rw[du rfl];cases a:xs[i]? with
  |none=>rfl
  |some o=>simp[h o a]
 .rw[da e]
def ahj{xs:Array Obj}{f g:Obj->Obj}(h:∀o,g (f o)=g o):(xs.modify i f).modify i g=xs.modify i g:=by
 apply sQ;intro j;rw[pi,pi,pi];by_cases e:i=j
 .simp only[e,pu,Option.map_map]
  congr 1
  funext o
  exact h o
 .simp only[e,qK]
def ahk(h:w.cell? A=some v):w.setCell A v=w:=by
 unfold World.setCell;rw[xi];intro o b;unfold World.cell? at h;rw[b] at h;cases o with
 |cells c t z=>
  cases a:A.spot with
  |some s=>simp[a] at h
  |none=>
   simp[a] at h;simp only[tE,kw,qK]
   congr 1
   apply sQ;intro j;rw[oR];by_cases e:A.off=j
   .subst e;rw[du rfl,h];rw[du (dl.1 h).1]
   .rw[da e]
 |_=>rfl
def afv   :(w.setCell A u).setCell A v=w.setCell A v:=by
 unfold World.setCell;dsimp only;rw[ahj];intro o;cases o with
 |cells c t z=>
  dsimp only;split
  .rfl
  .simp
 |_=>rfl
def auF(Q:dw iH a a')(O:iR (ai β) iH m (y::ys))(hc:c0.l=Frame.enter (ai β) nCC a .normal::m)(hw:WR iH c0.w w0)(Y:GlR iH)(Z:jY (ai β) R c0) :
  ∃A v e n g σ,(T0C a').getD 0 undef=.pointer (some A)/\w0.shape? A.block=some (e,n)/\liesAt (ai β) (ai β).depth e (n / (ai β).cellsOf e) A.off 179 1=true/\w0.cell? A=some v/\w0.frozen? A=false/\(v=.pointer none\/v=.pointer (some A))/\
   (∃z,AR iH z A)/\(∀F,iH.r F A.block->bI c0.w F->NoB c0.w F->False)/\ie β R c0 iH w0 g σ (y.finish (.tuple #[])::ys) (w0.setCell A (.pointer (some A)))/\iD (ai β) g c0:=by
 have hz:20<=(T0C a').size:=by simp only[T0C,sB,tj];omega
 have h:ie β R c0 iH w0 c0 iH (FC (T0C a') [.code nD]::y::ys) w0:=⟨.inl rfl,.refl _,by rw[hc,<-auE (β:=β)];exact .cons (aeQ β Q) O,hw,Y,Z,Kept.refl _ _ _⟩;generalize T0C a'=T at hz h ⊢;unfold nD at h;obtain⟨g,c,h, -⟩:=h.seq;obtain⟨g,c,h, -⟩:=h.region;have l:List.range pw.size=[0,1,2,3]:=rfl;rw[l] at h;obtain⟨A,e,n,U,p,E,⟨z,S⟩,w,C,h', -⟩:=h.slice;have D:∃z,AR iH z A:=by
  refine⟨z, ?_⟩;obtain⟨l,o,s⟩:=S;rename_i bl br;rcases h.kept.new l with r|⟨_,r⟩
  .exact .mk r o s
  .exfalso;dsimp only at w;simp only[World.shape?] at w;cases j:w0.heap[br]? with
   |none=>rw[j] at w;cases w
   |some q=>have:=(dl.1 j).1;omega
 replace h:=h';obtain⟨g,c,h, -⟩:=h.field rfl E;obtain⟨v,g,c,f,h, -⟩:=h.load (A:=A) rfl (by rw[aH (by omega)];rfl);obtain⟨b,g,c,j,h, -⟩:=h.eql rfl;obtain⟨g,c,h, -⟩:=h.jk;obtain⟨g,c,h, -⟩:=h.seq;have X:((T.setIfInBounds 4 (.pointer (some A))).setIfInBounds 5 v).getD 5 undef=v:=by rw[aH (by simp;omega)];rfl
 rw[X] at j;obtain⟨g,c,h, -⟩:=h.cond (q:=b) (by rw[aH (by simp;omega)];rfl);have k:∀{J:Array Value} {U:Cfg} {p:Ren} {w2:World},ie β R c0 iH w0 U p (FC J [.code (.seq (.region 1 agS false) .ret)]::y::ys) w2->J.getD 4 undef=.pointer (some A)->J.getD 0 undef=.pointer (some A)->
   ∃x i,w2.frozen? A=false/\ie β R c0 iH w0 x i (y.finish (.tuple #[])::ys) (w2.setCell A (.pointer (some A)))/\iD (ai β) x c0:=λ{J U p w2} h g4 g0=>by
  obtain⟨g,c,h, -⟩:=h.seq;obtain⟨g,c,h, -⟩:=h.region;have l:List.range agS.size=[0]:=rfl;rw[l] at h;obtain⟨g,c,H, -,h, -⟩:=h.store (A:=A) (u:=some A) rfl g4 g0;obtain⟨g,c,h, -⟩:=h.jk;obtain⟨g,c,h, -,G⟩:=h.ret;exact⟨g,c,H,h,G⟩
 rcases j with⟨rfl,rfl⟩|⟨B,rfl,rfl⟩
 .simp only[pu] at h;obtain⟨g,c,h, -⟩:=h.skip;obtain⟨x,i,H,h,G⟩:=k h (by rw[aH (by simp;omega),da (by decide),aH (by simp;omega),da (by decide),aH (by omega),du rfl]) (by rw[aH (by simp;omega),da (by decide),aH (by simp;omega),da (by decide),aH (by omega),da (by decide)];exact E);refine⟨A,_,e,n,x,i,E,w,C,f,H,.inl rfl,D,λF r L V=> ?_,h,G⟩;have:=(h.kept.still r L V).2;have W:(w0.setCell A (.pointer (some A))).cell? A=some (.pointer (some A)):=World.cell?_setCell_same _ _ _ f;rw[gu this,f] at W;cases W
 .simp only[qK,kw] at h;obtain⟨g,c,h, -⟩:=h.seq;obtain⟨g,c,h, -⟩:=h.region;have l:List.range akz.size=[0,1,2,3]:=rfl;rw[l] at h;obtain⟨g,c,h, -⟩:=h.field (A:=B) (t:=5) (d:=7) rfl (by rw[aH (by simp;omega),da (by decide)];exact X);obtain⟨g,c,N,⟨vB,a0⟩,h, -⟩:=h.store (A:=B) (u:=none) (t:=7) rfl (by rw[aH (by simp;omega)];rfl) rfl;have hk:=h.kept;obtain⟨u,g,c,I,h, -⟩:=h.load (A:=A) (t:=4) (d:=8) rfl (by rw[aH (by simp;omega),da (by decide),aH (by simp;omega),da (by decide),aH (by simp;omega),da (by decide),aH (by omega),du rfl]);obtain⟨b,g,c,j,h, -⟩:=h.eql (t:=8) (d:=9) rfl;rw[aH (by simp;omega),du rfl] at j;obtain⟨g,c,h, -⟩:=h.jk;obtain⟨g,c,h, -⟩:=h.cond (q:=b) (by rw[aH (by simp;omega)];rfl);rcases j with⟨rfl,rfl⟩|⟨B',rfl,rfl⟩
  .have P:A=B:=by
    refine qS λK=> ?_;rw[tY _ _ _ _ (λe=>K e.symm),f] at I;cases I
   subst P;simp only[pu] at h;obtain⟨g,c,h, -⟩:=h.skip;obtain⟨x,i,H,h,G⟩:=k h
    (by rw[aH (by simp;omega),da (by decide),aH (by simp;omega),da (by decide),aH (by simp;omega),da (by decide),aH (by simp;omega),da (by decide),aH (by simp;omega),da (by decide),aH (by omega),du rfl])
    (by rw[aH (by simp;omega),da (by decide),aH (by simp;omega),da (by decide),aH (by simp;omega),da (by decide),aH (by simp;omega),da (by decide),aH (by simp;omega),da (by decide),aH (by omega),da (by decide)];exact E)
   have M:(w0.setCell A (.pointer none)).setCell A (.pointer (some A))=w0.setCell A (.pointer (some A)):=afv;rw[M] at h;refine⟨A,_,e,n,x,i,E,w,C,f,N,.inr rfl,D,λF r L V=> ?_,h,G⟩;have:=(hk.still r L V).2;rw[gu this,f] at I;cases I
  .exfalso;simp only[qK,kw] at h;exact h.no rfl true (o:=_) (w2:=w0.setCell B (.pointer none)) (by simp only[Gl,stepG,stepG.exec];rfl)
end
end
section
open Go.Conc Go.ConcN Go.RowKit Go.Lib
section
variable {P:Program} (T:CcT P) {w:World} {e:Operand->Value} {x y:Operand} {A:Addr} {v:Value} {dst:Option Tmp} {ty:TypeId} {pos:String} {af:Array Edge} {gd:Option (Nat×Bool)}
def auG:(execOp e ⟨dst,.move x,ty,pos,af,gd⟩).runT P w #[]=(.ok (.value (e x)) w,#[]):=rfl
def alk(h:e x=.pointer (some A)):(execOp e ⟨dst,.nilCheck x,ty,pos,af,gd⟩).runT P w #[]=(.ok (.value (.pointer (some A))) w,#[]):=by
 simp only[execOp,h];rfl
include T
theorem aeR(h:e x=.pointer (some A)):(execOp e ⟨dst,.fieldAddr 179 x 0,ty,pos,af,gd⟩).runT P w #[]=(.ok (.value (.pointer (some A))) w,#[]):=by
 obtain⟨k,g,c,a,d,b⟩:=T.f;obtain⟨i,f,j⟩:=T.i6;simp[execOp,h,Instr.fieldAt,Instr.sureAddr,mt c,a,fieldPlace,sizeOf,typeInfo,b,f,j,d,Addr.add]
theorem ane(h:e x=.pointer (some A))(a:w.cell? A=some v):(execOp e ⟨dst,.load 177 x,ty,pos,af,gd⟩).runT P w #[]=(.ok (.value v) w,#[⟨.cell A,false,false⟩]):=by
 simp[execOp,h,Instr.loadAt,Instr.sureAddr,loadVar,isAgg,mt T.u,a]
theorem axP{a:Option Addr}(h:e x=.pointer a)(f:e y=.pointer none):(execOp e ⟨dst,.binOp .eql 177 x y 177,ty,pos,af,gd⟩).runT P w #[]=(.ok (.value (.bool a.isNone)) w,#[]):=by
 have b:∀(d:Nat),(Op.equalIn (d+1) 177 (.pointer a) (.pointer none)).run P w=.ok a.isNone w:=λd=>by
  cases a<;>simp[Op.equalIn,mt T.u]
 have c:∀(d:Nat),(Op.equalIn (d+1) 177 (.pointer a) (.pointer none)).events P w #[]=#[]:=λd=>by
  cases a<;>simp[Op.equalIn,mt T.u]
 simp only[execOp,h,f,eqG,binOp];simp[Op.equal,Op.maxDepth,b 9999,c 9999]
theorem axQ(h:e x=.pointer (some A))(g:e y=.pointer (some A)):(execOp e ⟨dst,.binOp .neq 177 x y 177,ty,pos,af,gd⟩).runT P w #[]=(.ok (.value (.bool false)) w,#[]):=by
 obtain⟨i,a,j, -⟩:=T.i8;have b:∀(d:Nat),(Op.equalIn (d+1) 177 (.pointer (some A)) (.pointer (some A))).run P w=.ok true w:=λd=>by
  simp[Op.equalIn,mt T.u,sizeOf,typeInfo,a,run_sameAddr_same]
 have f:∀(d:Nat),(Op.equalIn (d+1) 177 (.pointer (some A)) (.pointer (some A))).events P w #[]=#[]:=λd=>by
  simp[Op.equalIn,mt T.u,sizeOf,typeInfo,a,j,sameAddr]
 have c:eqGuard .neq 177 x y (.pointer (some A)) (.pointer (some A))=Sem.pure ():=rfl;simp only[execOp,h,g,c,binOp];simp[Op.equal,Op.maxDepth,b 9999,f 9999]
theorem axR(h:e x=.pointer (some A))(a:w.shape? A.block=some (X,n))(f:A.off<n):(execOp e ⟨dst,.convert 177 161 x,ty,pos,af,gd⟩).runT P w #[]=(.ok (.value (.pointer (some A))) w,#[]):=by
 obtain⟨i,b,d, -⟩:=T.i8;have c:¬n<=A.off:=by omega
 simp[execOp,h,convert,mt T.u,mt T.up,Conv.unsafePointer,Conv.seenAt,viewAt,cellsIn,a,sizeOf,typeInfo,b,d,c]
theorem arb(h:e x=.pointer (some A))(a:w.shape? A.block=some (X,n))(b:liesAt P P.depth X (n / P.cellsOf X) A.off 179 1=true):(execOp e ⟨dst,.convert 161 177 x,ty,pos,af,gd⟩).runT P w #[]=(.ok (.value (.pointer (some A))) w,#[]):=by
 obtain⟨i,c,d, -⟩:=T.i8;simp[execOp,h,convert,mt T.u,mt T.up,Conv.unsafePointer,Conv.seenAt,viewAt,a,variablesAt,b,sizeOf,typeInfo,c,d]
theorem arc{u:Option Addr}(h:e x=.pointer (some A))(d:e y=.pointer u)(g:w.cell? A=some v)(c:w.frozen? A=false):(execOp e ⟨dst,.store 177 x y,ty,pos,af,gd⟩).runT P w #[]=(.ok .skip (w.setCell A (.pointer u)),#[⟨.cell A,true,false⟩]):=by
 obtain⟨i,j,k⟩:=T.i6;have a:(Sem.store .plain A (.pointer u) (Sem.pure ())).runT P w #[]=(.ok () (w.setCell A (.pointer u)),#[⟨.cell A,true,false⟩]):=by
  unfold Sem.runT;simp only[g,c,kw,qK];rfl
 have f:(store A (.pointer u)).run P w=.ok () (w.setCell A (.pointer u)):=by
  rw[<-rx _ _ _ #[]];exact jp Prod.fst a
 have b:(store A (.pointer u)).events P w #[]=#[⟨.cell A,true,false⟩]:=jp Prod.snd a;simp[execOp,h,d,Instr.storeAt,Instr.sureAddr,storeVar,sizeOf,typeInfo,j,k,Value.cells,storeCells,Addr.add,f,b]
end
end
section
open Go.Conc Go.ConcN
abbrev nNE:FuncId:=147
def auH:f147.body.isNone=true:=by kernel_rfl
def ne_next:Extern.findNext f147=none:=by kernel_rfl
def auI:Extern.find f147=some Extern.AbiNoEscape.same:=by kernel_rfl
def afw{fn:Func}{s:Array Value->Sem Value}{args:Array Value}(c:P.funcs[f]?=some fn)(e:(fn.name == "runtime.NumGoroutine")=false)(g:fn.body.isNone=true)(j:Extern.findNext fn=none)(d:Extern.find fn=some s)(i:s args=Sem.pure v) :
  (callFunc f args).runT P w #[]=(.ok (.value v) w,#[⟨.mark (.extern f),false,true⟩]):=by
 unfold callFunc;have a:¬fn.name= "runtime.NumGoroutine" :=by simpa using e
 have b:fn.body=none:=by simpa using g
 simp[c,a,b,j,d,i]
section
variable {w:World} {e:Operand->Value} {x:Operand} {v:Value} {dst:Option Tmp} {ty:TypeId} {pos:String} {af:Array Edge} {gd:Option (Nat×Bool)} {ts:Array TypeId}
def ard(d:e (.func nNE)=.func (.func nNE) #[] #[]):(execOp e ⟨dst,.call ⟨.value (.func nNE),#[x],ts⟩,ty,pos,af,gd⟩).runT prog w #[]=(.ok (.value (e x)) w,#[⟨.mark (.extern nNE),false,true⟩]):=by
 have a:Array.map e #[x]=#[e x]:=by simp
 have b:execOp e ⟨dst,.call ⟨.value (.func nNE),#[x],ts⟩,ty,pos,af,gd⟩=callFunc nNE #[e x]:=by
  simp only[execOp,resolve,a,d];simp[Deferred.ofValue,invoke];try rfl
 rw[b];exact afw func147 (cJ func147) auH ne_next auI rfl
def aoG(a:e (.func nNE)=.func (.func nNE) #[] #[])(h:e x=v):(execOp e ⟨dst,.call ⟨.value (.func nNE),#[x],ts⟩,ty,pos,af,gd⟩).runT prog w #[]=(.ok (.value v) w,#[⟨.mark (.extern nNE),false,true⟩]):=by
 rw[ard a,h]
end
section
variable {P:Program} {m:Bool} {fr:Frame} {xs base:List Frame} {ops:Array Oper} {i:Nat} {rest:List Nat} {k:List Item} {o:Oper} {w w2:World} {es:Array Event} {v:Value}
def amx (f:fr.mode=.run) (g:fr.kind=.normal) (b:fr.roundOf=none) (e:fr.todo=.inRegion ops (i::rest)::k) (n:ops[i]?=some o) (q:o.guard=none)
  (p:(execOp fr.eval o).runT P w #[]=(.ok (.value v) w2,es)):stepG P m (Gl (fr::xs) base) w=.go (Gl (fr.finish v::xs) base) w2 (seen P fr.fn es):=by
 obtain⟨fn,a,j,d,u,t,s⟩:=fr;dsimp only at f g b e;subst f g b e;have l:∀y,Region.wanted o y=true:=λy=>by unfold Region.wanted;rw[q]
 have r:stepG P m (Gl (⟨fn,a,.inRegion ops (i::rest)::k,d,.run,.normal,none⟩::xs) base) w =
   stepG.apply P true ⟨fn,a,.inRegion ops (i::rest)::k,d,.run,.normal,none⟩ (xs++base) none (execOp (Frame.eval ⟨fn,a,.inRegion ops (i::rest)::k,d,.run,.normal,none⟩) o) w:=by
  simp[Gl,stepG,stepG.exec,stepG.oper,Frame.oper?,n,l]
 rw[r];unfold stepG.apply;simp only[p,pu];have c:(CallKind.normal ==CallKind.early)=false:=rfl;simp[GStep.after,c,Gl]
def aeS (f:fr.mode=.run) (g:fr.kind=.normal) (b:fr.roundOf=none) (e:fr.todo=.inRegion ops (i::rest)::k) (n:ops[i]?=some o) (q:o.guard=none)
  (p:(execOp fr.eval o).runT P w #[]=(.ok .skip w2,es)):stepG P m (Gl (fr::xs) base) w=.go (Gl (fr.finish undef::xs) base) w2 (seen P fr.fn es):=by
 obtain⟨fn,a,j,d,u,t,s⟩:=fr;dsimp only at f g b e;subst f g b e;have l:∀y,Region.wanted o y=true:=λy=>by unfold Region.wanted;rw[q]
 have r:stepG P m (Gl (⟨fn,a,.inRegion ops (i::rest)::k,d,.run,.normal,none⟩::xs) base) w =
   stepG.apply P true ⟨fn,a,.inRegion ops (i::rest)::k,d,.run,.normal,none⟩ (xs++base) none (execOp (Frame.eval ⟨fn,a,.inRegion ops (i::rest)::k,d,.run,.normal,none⟩) o) w:=by
  simp[Gl,stepG,stepG.exec,stepG.oper,Frame.oper?,n,l]
 rw[r];unfold stepG.apply;simp only[p,pu];have c:(CallKind.normal ==CallKind.early)=false:=rfl;simp[GStep.after,c,Gl]
end
section
variable {P:Program} {main:Bool} {Rl:av->World->World->Prop} {Gr:av->av->World->World->Array Event->Prop} {St:av->Goroutine->World->Prop} {S Rr:av} {w0:World}
structure Cmp (Rl:av->World->World->Prop) (Gr:av->av->World->World->Array Event->Prop) (Rr:av):Prop where
 fR:∀S w,Rl S w w
 tr:∀S a b c,Rl S a b->Rl S b c->Rl S a c
 rl:∀S w w1,Rl S w w1->(∀b,S b\/Rr b->w1.heap[b]?=w.heap[b]?)/\w.heap.size<=w1.heap.size/\w1.ou=w.ou
 gr:∀S w w' es,(∀b,b<w.heap.size->¬S b->w'.heap[b]?=w.heap[b]?)->w.heap.size<=w'.heap.size->w'.ou=w.ou->(∀e∈es,mX (λb=>S b\/(w.heap.size<=b/\b<w'.heap.size)) Rr w'.heap.size e)->
   Gr S (λb=>S b\/(w.heap.size<=b/\b<w'.heap.size)) w w' es
def Cmp.same(C:Cmp Rl Gr Rr)(c:∀b,b<w.heap.size->¬S b->w'.heap[b]?=w.heap[b]?)(a:w'.heap.size=w.heap.size)(d:w'.ou=w.ou)(f:∀e∈es,mX S Rr w.heap.size e):Gr S S w w' es:=by
 have e:(λb=>S b\/(w.heap.size<=b/\b<w'.heap.size))=S:=by
  funext b
  rw[a];exact propext ⟨λh=>h.elim id λh=>absurd h.1 (by omega),.inl⟩
 have:=C.gr S w w' es c (pb a.symm) d (by rw[e,a];exact f);rw[e] at this;exact this
def bJ.still (C:Cmp Rl Gr Rr) {fr:Frame} {base l2 : List Frame} {es:World->Array Event} (f:∀w,Rl S w0 w->stepG P main (Gl (fr::xs) base) w=.go (Gl l2 base) w (es w)) (d:∀w,Rl S w0 w->∀e∈es w,mX S Rr w.heap.size e)
  (g:∀w,Rl S w0 w->bJ P main Rl Gr St S (Gl l2 base) w):∀w,Rl S w0 w->bJ P main Rl Gr St S (Gl (fr::xs) base) w:=λw a=>
 .step rfl λb c=>⟨_,_,_,S,f b (C.tr _ _ _ _ a c),C.same (λ_ _ _=>rfl) rfl rfl (d b (C.tr _ _ _ _ a c)),g b (C.tr _ _ _ _ a c)⟩
variable {f:FuncId} {T:Array Value} {k:List Item} {xs base:List Frame}
def eF(C:Cmp Rl Gr Rr)(c:∀w,Rl S w0 w->bJ P main Rl Gr St S (Gl (FQ f T (.code a :: .code b::k)::xs) base) w):∀w,Rl S w0 w->bJ P main Rl Gr St S (Gl (FQ f T (.code (.seq a b)::k)::xs) base) w:=
 bJ.still C (es:=λ_=>#[]) (λw _=>by simp[Gl,stepG,stepG.exec]) (λ_ _ e h=>by cases(by simpa using h:False)) c
def fV(C:Cmp Rl Gr Rr){id:Nat}{l:List Nat}(a:List.range Y.size=l)(b:∀w,Rl S w0 w->bJ P main Rl Gr St S (Gl (FQ f T (.inRegion Y l::k)::xs) base) w):∀w,Rl S w0 w->bJ P main Rl Gr St S (Gl (FQ f T (.code (.region id Y false)::k)::xs) base) w:=
 bJ.still C (es:=λ_=>#[]) (λw _=>by subst a;simp[Gl,stepG,stepG.exec]) (λ_ _ e h=>by cases(by simpa using h:False)) b
def ik(C:Cmp Rl Gr Rr)(a:∀w,Rl S w0 w->bJ P main Rl Gr St S (Gl (FQ f T k::xs) base) w):∀w,Rl S w0 w->bJ P main Rl Gr St S (Gl (FQ f T (.inRegion Y []::k)::xs) base) w:=
 bJ.still C (es:=λ_=>#[]) (λw _=>by simp[Gl,stepG,stepG.exec]) (λ_ _ e h=>by cases(by simpa using h:False)) a
def amz(C:Cmp Rl Gr Rr)(a:∀w,Rl S w0 w->bJ P main Rl Gr St S (Gl (FQ f T k::xs) base) w):∀w,Rl S w0 w->bJ P main Rl Gr St S (Gl (FQ f T (.code .skip::k)::xs) base) w:=
 bJ.still C (es:=λ_=>#[]) (λw _=>by simp[Gl,stepG,stepG.exec]) (λ_ _ e h=>by cases(by simpa using h:False)) a
def abF(C:Cmp Rl Gr Rr){t:Tmp}(c:T.getD t undef=.bool q)(g:∀w,Rl S w0 w->bJ P main Rl Gr St S (Gl (FQ f T (.code (if q then a else b)::k)::xs) base) w):∀w,Rl S w0 w->bJ P main Rl Gr St S (Gl (FQ f T (.code (.cond (.tmp t) a b)::k)::xs) base) w:=
 have d:Frame.eval (FQ f T (.code (.cond (.tmp t) a b)::k)) (.tmp t)=.bool q:=c
 bJ.still C (es:=λ_=>#[]) (λw _=>by simp[Gl,stepG,stepG.exec,d]) (λ_ _ e h=>by cases(by simpa using h:False)) g
def az7 (C:Cmp Rl Gr Rr)    {d:Tmp}  (a:Y[i]?=some o) (l:o.guard=none) (b:o.dst=some d)
  (j:∀w,Rl S w0 w->(execOp (FQ f T (.inRegion Y (i::rest)::k)).eval o).runT P w #[]=(.ok (.value v) w,es)) (g:∀w,Rl S w0 w->∀e∈seen P f es,mX S Rr w.heap.size e)
  (m:∀w,Rl S w0 w->bJ P main Rl Gr St S (Gl (FQ f (T.setIfInBounds d v) (.inRegion Y rest::k)::xs) base) w):∀w,Rl S w0 w->bJ P main Rl Gr St S (Gl (FQ f T (.inRegion Y (i::rest)::k)::xs) base) w:=
 bJ.still C (l2:=FQ f (T.setIfInBounds d v) (.inRegion Y rest::k)::xs) (es:=λ_=>seen P f es) (λw c=>by
  rw[amx rfl rfl rfl rfl a l (j w c)];have:Frame.finish (FQ f T (.inRegion Y (i::rest)::k)) v=FQ f (T.setIfInBounds d v) (.inRegion Y rest::k):=by
   simp only[Frame.finish,a,qL,b]
  rw[this]) g m
def ai6(C:Cmp Rl Gr Rr){fn:Func}(b:P.funcs[f]?=some fn)(a:fn.results=#[])(d:∀w,Rl S w0 w->bJ P main Rl Gr St S (Gl (y.finish (.tuple #[])::W) base) w):∀w,Rl S w0 w->bJ P main Rl Gr St S (Gl (FQ f T []::y::W) base) w:=
 bJ.still C (l2:=⟨f,T,[],[],.returning,.normal,none⟩::y::W) (es:=λ_=>#[]) (λw _=>by simp[Gl,stepG,stepG.exec]) (λ_ _ e h=>by cases(by simpa using h:False))
  (bJ.still C (es:=λ_=>#[]) (λw _=>by
   have c:(results fn T).runT P w #[]=(.ok (.tuple #[]) w,#[]):=by simp[results,a]
   simp only[Gl,stepG,unwind,b,c];simp[doReturn,GStep.after,seen]) (λ_ _ e h=>by cases(by simpa using h:False)) d)
def aeo(C:Cmp Rl Gr Rr){id:Nat}(b:∀w,Rl S w0 w->bJ P main Rl Gr St S (Gl (FQ f T (.code a :: .inBlock id::k)::xs) base) w):∀w,Rl S w0 w->bJ P main Rl Gr St S (Gl (FQ f T (.code (.block id a)::k)::xs) base) w:=
 bJ.still C (es:=λ_=>#[]) (λw _=>by simp[Gl,stepG,stepG.exec]) (λ_ _ e h=>by cases(by simpa using h:False)) b
def amC(C:Cmp Rl Gr Rr)(b:∀w,Rl S w0 w->bJ P main Rl Gr St S (Gl (FQ f T (.code a :: .inLoop a::k)::xs) base) w):∀w,Rl S w0 w->bJ P main Rl Gr St S (Gl (FQ f T (.code (.loop a)::k)::xs) base) w:=
 bJ.still C (es:=λ_=>#[]) (λw _=>by simp[Gl,stepG,stepG.exec]) (λ_ _ e h=>by cases(by simpa using h:False)) b
def apX(C:Cmp Rl Gr Rr)(b:∀w,Rl S w0 w->bJ P main Rl Gr St S (Gl (FQ f T (.code a :: .inLoop a::k)::xs) base) w):∀w,Rl S w0 w->bJ P main Rl Gr St S (Gl (FQ f T (.inLoop a::k)::xs) base) w:=
 bJ.still C (es:=λ_=>#[]) (λw _=>by simp[Gl,stepG,stepG.exec]) (λ_ _ e h=>by cases(by simpa using h:False)) b
def aia(C:Cmp Rl Gr Rr){id:Nat}(a:∀w,Rl S w0 w->bJ P main Rl Gr St S (Gl (FQ f T k::xs) base) w):∀w,Rl S w0 w->bJ P main Rl Gr St S (Gl (FQ f T (.inBlock id::k)::xs) base) w:=
 bJ.still C (es:=λ_=>#[]) (λw _=>by simp[Gl,stepG,stepG.exec]) (λ_ _ e h=>by cases(by simpa using h:False)) a
def amA(C:Cmp Rl Gr Rr){id:Nat}(a:exitTo id k=some k2)(b:∀w,Rl S w0 w->bJ P main Rl Gr St S (Gl (FQ f T k2::xs) base) w):∀w,Rl S w0 w->bJ P main Rl Gr St S (Gl (FQ f T (.code (.exit id)::k)::xs) base) w:=
 bJ.still C (es:=λ_=>#[]) (λw _=>by simp[Gl,stepG,stepG.exec,a]) (λ_ _ e h=>by cases(by simpa using h:False)) b
end
section
variable {P:Program} {w:World} {e:Operand->Value} {x:Operand} {v:Value} {dst:Option Tmp} {ty:TypeId} {pos:String} {af:Array Edge} {gd:Option (Nat×Bool)}
def fB(h:e x=v):(execOp e ⟨dst,.move x,ty,pos,af,gd⟩).runT P w #[]=(.ok (.value v) w,#[]):=by rw[auG,h]
end
section
variable {P:Program} {main:Bool} {Rl:av->World->World->Prop} {Gr:av->av->World->World->Array Event->Prop} {St:av->Goroutine->World->Prop} {S Rr:av} {w0:World}
def bm(B:Nat):∀e∈seen P f #[],mX S Rr B e:=λe a=>by cases(by simpa using tn a:False)
def abC{wr:Bool}{B:Nat}(d:S A.block)(g:A.block<B):∀e∈seen P f #[⟨.cell A,wr,false⟩],mX S Rr B e:=λe c=>by
 have h:=tn c;simp only[sI,pa,rF,ue] at h;subst h;refine⟨λx a=>.inl ?_,λm b=>(by cases b),g⟩;simp[MemAct.ofEvent,MemAct.touch?] at a;rw[<-a];exact d
def axS{g : FuncId}{B:Nat}:∀e∈seen P f #[⟨.mark (.extern g),false,true⟩],mX S Rr B e:=λe b=>by
 have h:=tn b;simp only[sI,pa,rF,ue] at h;subst h;refine⟨λx c=> ?_,λm a=>.inl ⟨g,by cases a;rfl⟩,trivial⟩;simp[MemAct.ofEvent,MemAct.touch?] at c
def aeT(C:Cmp Rl Gr Rr)(a:S A.block)(h:Rl S w0 w):w.cell? A=w0.cell? A/\w.frozen? A=w0.frozen? A/\w.shape? A.block=w0.shape? A.block/\w0.heap.size<=w.heap.size:=by
 obtain⟨b,c, -⟩:=C.rl _ _ _ h;have e:=b A.block (.inl a);refine⟨gu e, ?_, ?_,c⟩
 .unfold World.frozen?;rw[e]
 .unfold World.shape?;rw[e]
def bj(w:World)(A:Addr)(v:Value){b:Nat}(h:A.block≠b):(w.setCell A v).heap[b]?=w.heap[b]?:=by
 unfold World.setCell;simp only[pi,da h]
def aen (C:Cmp Rl Gr Rr) {T:Array Value} {base : List Frame}       (g:Y[i]?=some o) (n:o.guard=none) (j:o.dst=none)
  (m:∀w,Rl S w0 w->(execOp (FQ f T (.inRegion Y (i::rest)::k)).eval o).runT P w #[]=(.ok .skip (w.setCell A u),es)) (s:S A.block) (r:∀w,Rl S w0 w->∀e∈seen P f es,mX S Rr w.heap.size e)
  (q:∀w,Rl S w0 w->∀a,Rl S (w.setCell A u) a->bJ P main Rl Gr St S (Gl (FQ f T (.inRegion Y rest::k)::xs) base) a):∀w,Rl S w0 w->bJ P main Rl Gr St S (Gl (FQ f T (.inRegion Y (i::rest)::k)::xs) base) w:=λw l=>by
 refine .step rfl λa c=> ?_;have d:=C.tr _ _ _ _ l c;refine⟨_,_,_,S,aeS rfl rfl rfl rfl g n (m a d),C.same (λb _ p=>bj _ _ _ (λe=>p (e▸s))) (be _ _ _) rfl (r a d), ?_⟩;have:Frame.finish (FQ f T (.inRegion Y (i::rest)::k)) undef=FQ f T (.inRegion Y rest::k):=by
  simp only[Frame.finish,g,qL,j]
 rw[this];exact q a d _ (C.fR _ _)
def bM (C:Cmp Rl Gr Rr) {T:Array Value} {base : List Frame}    {d:Tmp}  (b:d<T.size) (c:Y[i]?=some o) (l:o.guard=none) (a:o.dst=some d)
  (g:∀w,Rl S w0 w->(execOp (FQ f T (.inRegion Y (i::rest)::k)).eval o).runT P w #[]=(.ok (.value v) w,es)) (n:∀w,Rl S w0 w->∀e∈seen P f es,mX S Rr w.heap.size e)
  (m:∀T':Array Value,T'.size=T.size->T'.getD d undef=v->(∀t,t≠d->T'.getD t undef=T.getD t undef)->∀w,Rl S w0 w->bJ P main Rl Gr St S (Gl (FQ f T' (.inRegion Y rest::k)::xs) base) w):∀w,Rl S w0 w->bJ P main Rl Gr St S (Gl (FQ f T (.inRegion Y (i::rest)::k)::xs) base) w:=
 az7 C c l a g n (m _ (by simp) (by rw[aH b,du rfl]) λt j=>by rw[aH b,da j])
def arf:Code->Code
 |.seq _ (.cond _ a _)=>a
 |c=>c
def arh:Code->Code
 |.seq _ (.cond _ _ b)=>b
 |c=>c
def az8(C:Cmp Rl Gr Rr){T:Array Value}{base : List Frame}(c:20<=T.size)(e:T.getD 0 undef=.pointer (some A))(p:S A.block)(D:A.block<w0.heap.size)(s:w0.shape? A.block=some (X,n))(x:A.off<n)(z:liesAt prog prog.depth X (n / prog.cellsOf X) A.off 179 1=true)(E:w0.cell? A=some (.pointer none))(t:w0.frozen? A=false)(B:∀w,Rl S w0 w->∀r,Rl S (w.setCell A (.pointer (some A))) r->bJ prog main Rl Gr St S (Gl (y.finish (.tuple #[])::W) base) r) :
  ∀w,Rl S w0 w->bJ prog main Rl Gr St S (Gl (FC T [.code (arf (f139.body.getD .skip))]::y::W) base) w:=by
 have F:=λw (h:Rl S w0 w)=>aeT (A:=A) C p h;simp only[f139,qo,arf];refine fV C (l:=[0,1,2,3,4,5,6,7]) rfl ?_;refine bM C (d:=7) (v:=.pointer (some A)) (es:=#[]) (bd (by decide) c) rfl rfl rfl (λw b=>fB e) (λw b=>bm _) ?_;intro T a g o;replace c:=ap c (pb a.symm);replace e:=(o 0 (by decide)).trans e;refine bM C (d:=8) (v:=.pointer (some A)) (es:=#[]) (bd (by decide) c) rfl rfl rfl (λw b=>fB e) (λw b=>bm _) ?_;intro T a j o;replace c:=ap c (pb a.symm);replace e:=(o 0 (by decide)).trans e;replace g:=(o 7 (by decide)).trans g;refine bM C (d:=9) (v:=.pointer (some A)) (es:=#[]) (bd (by decide) c) rfl rfl rfl (λw b=>axR ccT j ((F w b).2.2.1.trans s) x) (λw b=>bm _) ?_;intro T a k o;replace c:=ap c (pb a.symm);replace e:=(o 0 (by decide)).trans e;replace g:=(o 7 (by decide)).trans g;replace j:=(o 8 (by decide)).trans j;refine bM C (d:=10) (v:=.pointer (some A)) (bd (by decide) c) rfl rfl rfl (λw b=>aoG rfl k) (λw b=>axS) ?_;intro T a f o;replace c:=ap c (pb a.symm);replace e:=(o 0 (by decide)).trans e;replace g:=(o 7 (by decide)).trans g;replace j:=(o 8 (by decide)).trans j;replace k:=(o 9 (by decide)).trans k;refine bM C (d:=11) (v:=.pointer (some A)) (es:=#[]) (bd (by decide) c) rfl rfl rfl (λw b=>arb ccT f ((F w b).2.2.1.trans s) z) (λw b=>bm _) ?_;intro T a i o;replace c:=ap c (pb a.symm);replace e:=(o 0 (by decide)).trans e;replace g:=(o 7 (by decide)).trans g;replace j:=(o 8 (by decide)).trans j;replace k:=(o 9 (by decide)).trans k;replace f:=(o 10 (by decide)).trans f;refine bM C (d:=12) (v:=.pointer (some A)) (es:=#[]) (bd (by decide) c) rfl rfl rfl (λw b=>alk g) (λw b=>bm _) ?_;intro T a m o;replace c:=ap c (pb a.symm);replace e:=(o 0 (by decide)).trans e;replace g:=(o 7 (by decide)).trans g;replace j:=(o 8 (by decide)).trans j;replace k:=(o 9 (by decide)).trans k;replace f:=(o 10 (by decide)).trans f;replace i:=(o 11 (by decide)).trans i;refine bM C (d:=13) (v:=.pointer (some A)) (es:=#[]) (bd (by decide) c) rfl rfl rfl (λw b=>aeR ccT m) (λw b=>bm _) ?_;intro T a q o;replace c:=ap c (pb a.symm);replace e:=(o 0 (by decide)).trans e;replace g:=(o 7 (by decide)).trans g;replace j:=(o 8 (by decide)).trans j;replace k:=(o 9 (by decide)).trans k;replace f:=(o 10 (by decide)).trans f;replace i:=(o 11 (by decide)).trans i;replace m:=(o 12 (by decide)).trans m;refine aen C (A:=A) (u:=.pointer (some A)) rfl rfl rfl (λw b=>arc ccT (A:=A) (u:=some A) q i ((F w b).1.trans E) ((F w b).2.1.trans t)) p (λw b=>abC p (bd D (F w b).2.2.2)) ?_;intro w b;exact ik C (ai6 C func139 rfl (B w b))
def az9(C:Cmp Rl Gr Rr){T:Array Value}{base : List Frame}(e:20<=T.size)(i:T.getD 0 undef=.pointer (some A))(m:S A.block)(t:A.block<w0.heap.size)(r:w0.cell? A=some (.pointer (some A)))(s:∀w,Rl S w0 w->∀p,Rl S (w.setCell A (.pointer (some A))) p->bJ prog main Rl Gr St S (Gl (y.finish (.tuple #[])::W) base) p) :
  ∀w,Rl S w0 w->bJ prog main Rl Gr St S (Gl (FC T [.code (arh (f139.body.getD .skip))]::y::W) base) w:=by
 have F:=λw (h:Rl S w0 w)=>aeT (A:=A) C m h;simp only[f139,qo,arh];refine eF C ?_;refine fV C (l:=[0,1,2,3,4,5]) rfl ?_;refine bM C (d:=14) (v:=.pointer (some A)) (es:=#[]) (bd (by decide) e) rfl rfl rfl (λw f=>fB i) (λw f=>bm _) ?_;intro T a b o;replace e:=ap e (pb a.symm);replace i:=(o 0 (by decide)).trans i;refine bM C (d:=15) (v:=.pointer (some A)) (es:=#[]) (bd (by decide) e) rfl rfl rfl (λw f=>alk b) (λw f=>bm _) ?_;intro T a c o;replace e:=ap e (pb a.symm);replace i:=(o 0 (by decide)).trans i;replace b:=(o 14 (by decide)).trans b;refine bM C (d:=16) (v:=.pointer (some A)) (es:=#[]) (bd (by decide) e) rfl rfl rfl (λw f=>aeR ccT c) (λw f=>bm _) ?_;intro T a g o;replace e:=ap e (pb a.symm);replace i:=(o 0 (by decide)).trans i;replace b:=(o 14 (by decide)).trans b;replace c:=(o 15 (by decide)).trans c;refine bM C (d:=17) (v:=.pointer (some A)) (bd (by decide) e) rfl rfl rfl (λw f=>ane ccT g ((F w f).1.trans r)) (λw f=>abC m (bd t (F w f).2.2.2)) ?_;intro T a j o;replace e:=ap e (pb a.symm);replace i:=(o 0 (by decide)).trans i;replace b:=(o 14 (by decide)).trans b;replace c:=(o 15 (by decide)).trans c;replace g:=(o 16 (by decide)).trans g;refine bM C (d:=18) (v:=.pointer (some A)) (es:=#[]) (bd (by decide) e) rfl rfl rfl (λw f=>fB i) (λw f=>bm _) ?_;intro T a k o;replace e:=ap e (pb a.symm);replace i:=(o 0 (by decide)).trans i;replace b:=(o 14 (by decide)).trans b;replace c:=(o 15 (by decide)).trans c;replace g:=(o 16 (by decide)).trans g;replace j:=(o 17 (by decide)).trans j;refine bM C (d:=19) (v:=.bool false) (es:=#[]) (bd (by decide) e) rfl rfl rfl (λw f=>axQ ccT (A:=A) j k) (λw f=>bm _) ?_;intro T a n o;replace e:=ap e (pb a.symm);replace i:=(o 0 (by decide)).trans i;replace b:=(o 14 (by decide)).trans b;replace c:=(o 15 (by decide)).trans c;replace g:=(o 16 (by decide)).trans g;replace j:=(o 17 (by decide)).trans j;replace k:=(o 18 (by decide)).trans k;refine ik C ?_;refine abF C (q:=false) n ?_;simp only[qK,kw];refine amz C ?_;refine ai6 C func139 rfl ?_;intro w f;refine s w f w ?_;rw[ahk ((F w f).1.trans r)];exact C.fR _ _
def ari(C:Cmp Rl Gr Rr){T:Array Value}{base : List Frame}(c:20<=T.size)(g:T.getD 0 undef=.pointer (some A))(j:S A.block)(t:A.block<w0.heap.size)(H:w0.shape? A.block=some (X,n))(I:A.off<n)(J:liesAt prog prog.depth X (n / prog.cellsOf X) A.off 179 1=true)(u:w0.cell? A=some v)(G:w0.frozen? A=false)(E:v=.pointer none\/v=.pointer (some A))(B:∀w,Rl S w0 w->∀z,Rl S (w.setCell A (.pointer (some A))) z->bJ prog main Rl Gr St S (Gl (y.finish (.tuple #[])::W) base) z) :
  ∀w,Rl S w0 w->bJ prog main Rl Gr St S (Gl (FC T [.code (f139.body.getD .skip)]::y::W) base) w:=by
 have F:=λw (h:Rl S w0 w)=>aeT (A:=A) C j h;obtain⟨a,rfl⟩:∃a,v=.pointer a:=E.elim (λe=>⟨_,e⟩) λe=>⟨_,e⟩;have x:=λ(p:Array Value) (b:20<=p.size) (f:p.getD 0 undef=.pointer (some A)) (k:w0.cell? A=some (.pointer none))=>az8 (T:=p) C b f j t H I J k G B
 have D:=λ(p:Array Value) (b:20<=p.size) (f:p.getD 0 undef=.pointer (some A)) (k:w0.cell? A=some (.pointer (some A)))=>az9 (T:=p) C b f j t k B
 simp only[f139,qo,arf,arh] at x D ⊢;refine eF C ?_;refine fV C (l:=[0,1,2,3,4]) rfl ?_;refine bM C (d:=2) (v:=.pointer (some A)) (es:=#[]) (bd (by decide) c) rfl rfl rfl (λw i=>fB g) (λw i=>bm _) ?_;intro T b f o;replace c:=ap c (pb b.symm);replace g:=(o 0 (by decide)).trans g;refine bM C (d:=3) (v:=.pointer (some A)) (es:=#[]) (bd (by decide) c) rfl rfl rfl (λw i=>alk f) (λw i=>bm _) ?_;intro T b m o;replace c:=ap c (pb b.symm);replace g:=(o 0 (by decide)).trans g;replace f:=(o 2 (by decide)).trans f;refine bM C (d:=4) (v:=.pointer (some A)) (es:=#[]) (bd (by decide) c) rfl rfl rfl (λw i=>aeR ccT m) (λw i=>bm _) ?_;intro T b r o;replace c:=ap c (pb b.symm);replace g:=(o 0 (by decide)).trans g;replace f:=(o 2 (by decide)).trans f;replace m:=(o 3 (by decide)).trans m;refine bM C (d:=5) (v:=.pointer a) (bd (by decide) c) rfl rfl rfl (λw i=>ane ccT r ((F w i).1.trans u)) (λw i=>abC j (bd t (F w i).2.2.2)) ?_;intro T b s o;replace c:=ap c (pb b.symm);replace g:=(o 0 (by decide)).trans g;replace f:=(o 2 (by decide)).trans f;replace m:=(o 3 (by decide)).trans m;replace r:=(o 4 (by decide)).trans r;refine bM C (d:=6) (v:=.bool a.isNone) (bd (by decide) c) rfl rfl rfl (λw i=>axP ccT (a:=a) s rfl) (λw i=>bm _) ?_;intro T b K o;replace c:=ap c (pb b.symm);replace g:=(o 0 (by decide)).trans g;replace f:=(o 2 (by decide)).trans f;replace m:=(o 3 (by decide)).trans m;replace r:=(o 4 (by decide)).trans r;replace s:=(o 5 (by decide)).trans s;refine ik C ?_;refine abF C (q:=a.isNone) K ?_;rcases E with e|e
 .cases e;simp only[Option.isNone_none,pu];exact x _ c g u
 .cases e;simp only[Option.isNone_some,qK,kw];exact D _ c g u
end
noncomputable def arj(f:FuncId):Bool:=match prog.funcs[f]? with
 |some fn=>!(fn.name == "loop.example/depositary/impl.fetchAll" || fn.name == "(*strings.Builder).copyCheck")||f ==cD||f ==nCC
 |none=>true
def alm:(List.range prog.funcs.size).all arj=true:=by kernel_rfl
def xD(h:gH f=true):f=cD\/f=nCC:=by
 unfold gH at h;cases b:prog.funcs[f]? with
 |none=>rw[b] at h;cases h
 |some fn=>
  rw[b] at h;have a:=lw.1 alm f (qy.2 (dl.1 b).1);unfold arj at a;rw[b] at a;dsimp only at h a;rw[h] at a;simpa using a
def ark :Frame.enter prog nCC Q .normal=FC (T0C Q) [.code (f139.body.getD .skip)]:=by
 unfold Frame.enter;rw[func139];rfl
def arl(d:w.shape? A.block=some (e,n))(a:w.cell? A=some v):A.off<n:=by
 unfold World.shape? at d;unfold World.cell? at a;cases f:w.heap[A.block]? with
 |none=>rw[f] at a;simp at a
 |some o=>
  rw[f] at d a;cases o with
  |cells c t z=>
   cases b:A.spot with
   |some s=>simp[b] at a
   |none=>
    simp[b] at a d;have:=(dl.1 a).1;omega
  |_=>simp at a
def aaD{b:Nat}(h:R.heap[b]?=w.heap[b]?):(R.setCell A u).heap[b]?=(w.setCell A u).heap[b]?:=by
 unfold World.setCell;simp only[pi,h]
section
variable {β main:Bool} {Rl:av->World->World->Prop} {Gr:av->av->World->World->Array Event->Prop} {Rr:av} {R:List Frame->World->Prop}
def afR(C:Cmp Rl Gr Rr){base:List Frame}:xp (ai β) prog R Rr main Rl Gr base:=by
 intro f c ρ a T m m' l S hf q ha M hc H hg hW E;obtain rfl:f=nCC:=(xD hf).resolve_left q;obtain⟨_,_,y,ys,rfl,rfl⟩:=M.ne';obtain⟨A,v,e,n,c1,X,h0,I,V,d,Q,hv,⟨N,r⟩,z,g,B⟩:=auF ha M hc H hg hW;have i:ρ.r N.block A.block:=by cases r with|mk h o s=>exact h
 have x:S A.block:=by
  rcases E _ _ i with h|⟨_,P,W⟩
  .exact h
  .exact(z _ i P W).elim
 have hB:A.block<l.heap.size:=(H.lt i).2;have U:20<=(T0C T).size:=by simp only[T0C,sB,tj];omega
 rw[ark];have F:liesAt prog prog.depth e (n / prog.cellsOf e) A.off 179 1=true:=by
  rw[<-V];exact(aqo prog _ _ _ _ _ _ _).symm
 refine ari C U h0 x hB I (arl I d) F d Q hv (λw Y w1 u=> ?_) l (C.fR _ _);refine .stop λw2 t=> ?_;have L:=g.kept;have p:(l.setCell A (.pointer (some A))).heap.size=l.heap.size:=be _ _ _;have j:=E.step g.wr L;have hS:(λb=>S b\/(l.heap.size<=b/\b<(l.setCell A (.pointer (some A))).heap.size))=S:=by
  funext b
  rw[p];exact propext ⟨λh=>h.elim id λh=>absurd h.1 (by omega),.inl⟩
 rw[hS] at j;obtain⟨K,r2,O⟩:=C.rl _ _ _ Y;obtain⟨J,s2,Z⟩:=C.rl _ _ _ (C.tr _ _ _ _ u t);refine⟨c1,X,_,B,g.le,λ_ k=>k,rfl,⟨g.st, ?_,g.gl,g.will,j⟩,.ana L λb D k=> ?_⟩
 case refine_2=>
  have G:=(E b D k).imp (λh=>h) (λh=>h.1);exact(J D G).trans (aaD (K D G))
 refine g.wr.rely j (λb k=>(J b k).trans (aaD (K b k))) ?_ ?_
 .rw[p];have:(w.setCell A (.pointer (some A))).heap.size=w.heap.size:=be _ _ _;omega
 .exact Z.trans O
end
structure FaT (P:Program):Prop where
 u3:P.underlying 3=some (.int .i64)
 u9:P.underlying 9=some .string
 u23:P.underlying 23=some (.slice 54)
 u31:P.underlying 93=some (.slice 3)
 u38:P.underlying 52=some (.slice 63)
 ahl:P.underlying 138=some (.slice 151)
 auJ:∃ms,P.underlying 181=some (.interface ms)
 u40:∃fs g0 g1,P.underlying 54=some (.struct fs)/\fs[0]?=some g0/\fs[1]?=some g1/\g0.offset=0/\g0.type=3/\g1.offset=1/\g1.type=52
 auK:∃fs g0 g1,P.underlying 63=some (.struct fs)/\fs[0]?=some g0/\fs[1]?=some g1/\g0.offset=0/\g0.type=3/\g1.offset=1/\g1.type=9
 auL:∃fs,P.underlying 151=some (.struct fs)
 i3:∃i,P.info? 3=some i/\i.size=1
 i40:∃i,P.info? 54=some i/\i.size=2
 i110:∃i,P.info? 63=some i/\i.size=2
 adF:∃i,P.info? 151=some i/\i.size=2/\i.bytes=24/\i.zero=some (.agg #[.string ⟨#[]⟩,.bool false])
 ake:∃i,P.info? 138=some i/\i.size=1/\i.zero=some (.slice none 0 0)
def auM:((prog.info? 3).map (·.size ==1)=some true/\(prog.info? 54).map (·.size ==2)=some true)/\((prog.info? 63).map (·.size ==2)=some true/\(prog.info? 151).map (λi=>i.size ==2&&i.bytes ==24)=some true):=by
 refine⟨⟨?_, ?_⟩, ?_, ?_⟩<;>kernel_rfl
def aAa:(prog.info? 151).map (·.zero)=some (some (.agg #[.string ⟨#[]⟩,.bool false])):=by kernel_rfl
def aAb:(prog.info? 138).map (λi=>(i.size,i.zero))=some (1,some (.slice none 0 0)):=by kernel_rfl
def faT:FaT prog where
 u3:=underlying3
 u9:=underlying9
 u23:=underlying23
 u31:=underlying93
 u38:=underlying52
 ahl:=underlying138
 auJ:=⟨_,underlying181⟩
 u40:=⟨_,_,_,underlying54,rfl,rfl,rfl,rfl,rfl,rfl⟩
 auK:=⟨_,_,_,underlying63,rfl,rfl,rfl,rfl,rfl,rfl⟩
 auL:=⟨_,underlying151⟩
 i3:=let⟨i,h,k⟩:=lc.1 auM.1.1;⟨i,h,by simpa using k⟩
 i40:=let⟨i,h,k⟩:=lc.1 auM.1.2;⟨i,h,by simpa using k⟩
 i110:=let⟨i,h,k⟩:=lc.1 auM.2.1;⟨i,h,by simpa using k⟩
 adF:=by
  obtain⟨i,h,k⟩:=lc.1 auM.2.2;have z:=aAa;rw[h] at z;simp only[ga,nf] at k;exact⟨i,h,k.1,k.2,by simpa using z⟩
 ake:=by
  obtain⟨i,h,k⟩:=lc.1 aAb;simp only[vm] at k;exact⟨i,h,k.1,k.2⟩
def faQ(β:Bool):FaT (ai β) where
 u3:=(cM prog _ _).trans faT.u3
 u9:=(cM prog _ _).trans faT.u9
 u23:=(cM prog _ _).trans faT.u23
 u31:=(cM prog _ _).trans faT.u31
 u38:=(cM prog _ _).trans faT.u38
 ahl:=(cM prog _ _).trans faT.ahl
 auJ:=let⟨d,h⟩:=faT.auJ;⟨d,(cM prog _ _).trans h⟩
 u40:=let⟨a,b,c,h,k⟩:=faT.u40;⟨a,b,c,(cM prog _ _).trans h,k⟩
 auK:=let⟨a,b,c,h,k⟩:=faT.auK;⟨a,b,c,(cM prog _ _).trans h,k⟩
 auL:=let⟨d,h⟩:=faT.auL;⟨d,(cM prog _ _).trans h⟩
 i3:=let⟨i,h,k⟩:=faT.i3;⟨i,(kg prog _ _).trans h,k⟩
 i40:=let⟨i,h,k⟩:=faT.i40;⟨i,(kg prog _ _).trans h,k⟩
 i110:=let⟨i,h,k⟩:=faT.i110;⟨i,(kg prog _ _).trans h,k⟩
 adF:=let⟨i,h,k⟩:=faT.adF;⟨i,(kg prog _ _).trans h,k⟩
 ake:=let⟨i,h,k⟩:=faT.ake;⟨i,(kg prog _ _).trans h,k⟩
def lF{s:Sem Value}{a:Next}(h:(s.bind λv=>Sem.pure (Next.value v)).run P w=.ok a R):∃v,a=.value v/\s.run P w=.ok v R:=by
 obtain⟨v,b,d,c⟩:=dY (s:=s) h;cases(show Result.ok (Next.value v) b=Result.ok a R from c);exact⟨v,rfl,d⟩
section
variable {P:Program} {w w3:World} {e:Operand->Value} {x y:Operand} {nx:Next} {a b:Int} {dst:Option Tmp} {ty:TypeId} {pos:String} {af:Array Edge} {gd:Option (Nat×Bool)}
def jy(h:(execOp e ⟨dst,.assign x,ty,pos,af,gd⟩).run P w=.ok nx w3):∃v,nx=.value v/\(v=e x/\w3=w):=by
 cases(show Result.ok (Next.value (e x)) w=Result.ok nx w3 from h);exact⟨_,rfl,rfl,rfl⟩
def ahm(h:(execOp e ⟨dst,.move x,ty,pos,af,gd⟩).run P w=.ok nx w3):∃v,nx=.value v/\(v=e x/\w3=w):=by
 cases(show Result.ok (Next.value (e x)) w=Result.ok nx w3 from h);exact⟨_,rfl,rfl,rfl⟩
def arn(d:e y=.int .i64 b)(h:(execOp e ⟨dst,.binOp .lss 3 x y 3,ty,pos,af,gd⟩).run P w=.ok nx w3):∃v,nx=.value v/\(∃a,e x=.int .i64 a/\v=.bool (decide (a<b))/\w3=w):=by
 obtain⟨v,rfl,f⟩:=lF (s:=binOp .lss 3 (e x) (e y)) h;have h:=f;refine⟨v,rfl, ?_⟩;rw[d] at h;generalize e x=u at h ⊢;cases u with
 |int k n=>
  by_cases c:k=.i64
  .subst c;cases(show Result.ok (.bool (decide (n<b))) w=Result.ok v w3 from h);exact⟨_,rfl,rfl,rfl⟩
  .simp only[binOp,c,ne_eq,not_false_eq_true,pu] at h;cases(show Result.halt _ _=Result.ok v w3 from h)
 |pointer p=>cases p<;>cases(show Result.halt _ _=Result.ok v w3 from h)
 |_=>cases(show Result.halt _ _=Result.ok v w3 from h)
def gF(i:e x=.int .i64 a)(d:e y=.int .i64 b)(h:(execOp e ⟨dst,.binOp .lss 3 x y 3,ty,pos,af,gd⟩).run P w=.ok nx w3):∃v,nx=.value v/\(v=.bool (decide (a<b))/\w3=w):=by
 obtain⟨v,rfl,j,c,f,g⟩:=arn d h;rw[i] at c;cases c;exact⟨_,rfl,f,g⟩
def aln(h:(execOp e ⟨dst,.binOp .mul 3 x (.const (.int .i64 1)) 3,ty,pos,af,gd⟩).run P w=.ok nx w3)(c:e (.const (.int .i64 1))=.int .i64 1):∃v,nx=.value v/\(∃a,e x=.int .i64 a/\v=.int .i64 (IntKind.i64.wrap (a*1))/\w3=w):=by
 obtain⟨v,rfl,d⟩:=lF (s:=binOp .mul 3 (e x) (e (.const (.int .i64 1)))) h;have h:=d;refine⟨v,rfl, ?_⟩;rw[c] at h;generalize e x=u at h ⊢;cases u with
 |int k n=>
  by_cases b:k=.i64
  .subst b;cases(show Result.ok (.int .i64 (IntKind.i64.wrap (n*1))) w=Result.ok v w3 from h);exact⟨_,rfl,rfl,rfl⟩
  .simp only[binOp,b,ne_eq,not_false_eq_true,pu] at h;cases(show Result.halt _ _=Result.ok v w3 from h)
 |pointer p=>cases p<;>cases(show Result.halt _ _=Result.ok v w3 from h)
 |_=>cases(show Result.halt _ _=Result.ok v w3 from h)
def alo(d:e x=.int .i64 a)(c:e (.const (.int .i64 1))=.int .i64 1)(h:(execOp e ⟨dst,.binOp .add 3 x (.const (.int .i64 1)) 3,ty,pos,af,gd⟩).run P w=.ok nx w3):∃v,nx=.value v/\(v=.int .i64 (IntKind.i64.wrap (a+1))/\w3=w):=by
 obtain⟨v,rfl,b⟩:=lF (s:=binOp .add 3 (e x) (e (.const (.int .i64 1)))) h;have h:=b;rw[d,c] at h;cases(show Result.ok (.int .i64 (IntKind.i64.wrap (a+1))) w=Result.ok v w3 from h);exact⟨_,rfl,rfl,rfl⟩
def alp(f:e x=.int .i64 a)(d:e y=.int .i64 b)(h:(execOp e ⟨dst,.binOp .eql 3 x y 3,ty,pos,af,gd⟩).run P w=.ok nx w3):∃v,nx=.value v/\(v=.bool (a ==b)/\w3=w):=by
 have g:eqGuard .eql 3 x y (e x) (e y)=Sem.pure ():=by rw[f,d];rfl
 have c:(((eqGuard .eql 3 x y (e x) (e y)).bind λ_=>binOp .eql 3 (e x) (e y)).bind λv=>Sem.pure (Next.value v)).run P w=.ok nx w3:=h;clear h;rw[g] at c;obtain⟨v,rfl,h⟩:=lF (s:=binOp .eql 3 (e x) (e y)) c;clear c;rw[f,d] at h;cases(show Result.ok (.bool (a ==b)) w=Result.ok v w3 from h);exact⟨_,rfl,rfl,rfl⟩
def pI{a:Builtin}{t:Tmp}{s:Value->Sem Value}(d:∀c v,builtin a #[t0] ty c #[v]=(s v).bind λu=>Sem.pure (.value u)):execOp e ⟨dst,.call ⟨.builtin a,#[.tmp t],#[t0]⟩,ty,pos,af,gd⟩=(s (e (.tmp t))).bind λu=>Sem.pure (.value u):=by
 have b:Array.map e #[.tmp t]=#[e (.tmp t)]:=by simp
 simp only[execOp,resolve];rw[b];exact d _ _
def ahn{t:Tmp}(k:P.underlying t0=some (.slice X))(h:(execOp e ⟨dst,.call ⟨.builtin .len,#[.tmp t],#[t0]⟩,ty,pos,af,gd⟩).run P w=.ok nx w3) :
  ∃v,nx=.value v/\(∃A n c,e (.tmp t)=.slice A n c/\v=.int .i64 n/\w3=w):=by
 rw[pI (s:=λv=>Builtin.len_ #[t0] ty #[v]) λ_ v=>rfl] at h;obtain⟨v,rfl,g⟩:=lF h;have h:=g;refine⟨v,rfl, ?_⟩;generalize e (.tmp t)=u at h ⊢;obtain⟨d,l,g,j⟩:=dY (s:=underlying t0) (f:=λd=>match d,u with
  |.string,.string s=>pure (goInt s.size)
  |.array n _,_=>pure (goInt n)
  |.pointer arr,_=>(underlying arr).bind λd=>match d with
   |.array n _=>pure (goInt n)
   |_=>stuck "len: pointer to array expected"
  |.slice _,.slice _ n _=>pure (goInt n)
  |.map _ _,.map none|.chan _ _,.chan none=>pure (goInt 0)
  |.map _ _,.map (some r)=>(getObj r).bind λo=>match o with
   |.map a _=>pure (goInt a.size)
   |_=>stuck "len: map expected"
  |.chan _ _,.chan (some r)=>(getObj r).bind λo=>match o with
   |.chan _ i _ _ _ b=>pure (goInt (if b then 0 else i.size))
   |_=>stuck "len: channel expected"
  |_,_=>stuck "len: string, array, pointer to array, slice, map or channel expected") h
 rw[mt k] at g;cases g;cases u with
 |slice A n c=>
  cases(show Result.ok (.int .i64 n) w=Result.ok v w3 from j);exact⟨A,n,c,rfl,rfl,rfl⟩
 |_=>cases(show Result.halt _ _=Result.ok v w3 from j)
end
def ai7:TypeDesc->Bool
 |.struct _|.array .. =>false
 |_=>true
def auN{s:Sem V}(h:ld P s){v:V}:s.run P w ≠ .ok v w':=λe=>by
 obtain⟨q,b,c,a, -⟩:=Leaves.avI h w #[];rw[<-rx _ _ _ #[],a] at e;cases e
def ai8(k:IntKind)(x y:Int)(c:BoundsCode):ld P (boundsPanic k x y c:Sem V):=by
 rw[acw];refine iT ?_ λa=>eE _;split
 .exact λ_=>trivial
 .exact trivial
section
variable {P:Program} (F:FaT P) {w w3:World} {e:Operand->Value} {x y:Operand} {nx:Next} {dst:Option Tmp} {ty:TypeId} {pos:String} {af:Array Edge} {gd:Option (Nat×Bool)}
def alq{t:Tmp}{A:Option Addr}(b:P.underlying t0=some (.slice X))(d:e (.tmp t)=.slice A n c)(h:(execOp e ⟨dst,.call ⟨.builtin .cap,#[.tmp t],#[t0]⟩,ty,pos,af,gd⟩).run P w=.ok nx w3) :
  ∃v,nx=.value v/\(v=.int .i64 c/\w3=w):=by
 rw[pI (s:=λv=>Builtin.cap_ #[t0] ty #[v]) λ_ v=>rfl,d] at h;obtain⟨v,rfl,a⟩:=lF h;refine⟨v,rfl, ?_⟩;have:(Builtin.cap_ #[t0] ty #[.slice A n c]).run P w=.ok (.int .i64 c) w:=by
  simp[Builtin.cap_,mt b,goInt]
 rw[this] at a;cases a;exact⟨rfl,rfl⟩
include F in
theorem auO{t:Tmp}(h:(execOp e ⟨dst,.call ⟨.builtin .len,#[.tmp t],#[9]⟩,ty,pos,af,gd⟩).run P w=.ok nx w3) :
  ∃v,nx=.value v/\(∃s:ByteArray,e (.tmp t)=.string s/\v=.int .i64 s.size/\w3=w):=by
 rw[pI (s:=λv=>Builtin.len_ #[9] ty #[v]) λ_ v=>rfl] at h;obtain⟨v,rfl,a⟩:=lF h;refine⟨v,rfl, ?_⟩;generalize e (.tmp t)=u at a ⊢;cases u with
 |string s=>
  have:(Builtin.len_ #[9] ty #[.string s]).run P w=.ok (.int .i64 s.size) w:=by
   simp[Builtin.len_,mt F.u9,goInt]
  rw[this] at a;cases a;exact⟨s,rfl,rfl,rfl⟩
 |_=>simp[Builtin.len_,mt F.u9,stuck] at a
theorem aaE{t:TypeId}{a:TypeDesc}(b:P.underlying t=some a):Leaves P (λd=>d=a) (underlying t):=by
 unfold underlying;show Leaves P (λd=>d=a) (match P.underlying t with
  |some d=>pure d
  |none=>stuck "no such type")
 rw[b];exact rfl
theorem auP{t:TypeId}(a:P.underlying t=some (.struct S)):(isAgg t).run P w=.ok true w:=by simp[isAgg,mt a]
theorem ai9{t:TypeId}(a:P.underlying t=some d)(b:ai7 d=true):(isAgg t).run P w=.ok false w:=by
 cases d<;>first|(cases b;done)|simp[isAgg,mt a]
theorem aeU(b:NoV P w A)(h:(load A).run P w=.ok v w3):w3=w/\w.cell? A=some v:=by
 have h:(Sem.load .plain A Sem.pure).run P w=.ok v w3:=h;unfold Sem.run at h;cases a:w.cell? A with
 |some u=>
  simp only[a,Sem.run,sR] at h;exact⟨h.2.symm,by rw[h.1]⟩
 |none=>
  obtain⟨e,c⟩:=(b.2 a).1 (Mode.plain ==.atomic);simp only[a,c] at h;cases h
theorem aho{t:TypeId}(j:P.underlying t=some d)(i:ai7 d=true)(l:e x=.pointer (some A))(m:NoV P w A)(h:(execOp e ⟨dst,.load t x,ty,pos,af,gd⟩).run P w=.ok nx w3) :
  ∃v,nx=.value v/\(w.cell? A=some v/\w3=w):=by
 obtain⟨v,rfl,g⟩:=lF (s:=Instr.loadAt t (e x)) h;refine⟨v,rfl, ?_⟩;rw[l] at g;obtain⟨q,r,a,k⟩:=dY (s:=isAgg t) (f:=λb=>if b then(sizeOf t).bind λn=>(loadCells A n).bind λc=>Sem.pure (Value.agg c) else load A) g;rw[ai9 j i] at a;cases a;obtain⟨o,p⟩:=aeU m k;exact⟨p,o⟩
theorem aja{t:TypeId}{i:TypeInfo}(D:P.underlying t=some (.struct S))(hi:P.info? t=some i)(B:i.size=2)(F:e x=.pointer (some A))(I:NoV P w A)(k:NoV P w (A.add 1))(h:(execOp e ⟨dst,.load t x,ty,pos,af,gd⟩).run P w=.ok nx w3) :
  ∃v,nx=.value v/\(∃d a,v=.agg #[d,a]/\w.cell? A=some d/\w.cell? (A.add 1)=some a/\w3=w):=by
 obtain⟨v,rfl,u⟩:=lF (s:=Instr.loadAt t (e x)) h;refine⟨v,rfl, ?_⟩;rw[F] at u;obtain⟨q,g,p,E⟩:=dY (s:=isAgg t) (f:=λb=>if b then(sizeOf t).bind λn=>(loadCells A n).bind λc=>Sem.pure (Value.agg c) else load A) u;rw[auP D] at p;cases p;obtain⟨n,g,r,z⟩:=dY (s:=sizeOf t) (f:=λn=>(loadCells A n).bind λc=>Sem.pure (Value.agg c)) E;have:(sizeOf t).run P w=.ok 2 w:=by simp[sizeOf,typeInfo,hi,B]
 rw[this] at r;cases r;obtain⟨c,g,G,y⟩:=dY (s:=loadCells A 2) (f:=λc=>Sem.pure (Value.agg c)) z;cases(show Result.ok (.agg c) g=Result.ok v w3 from y);obtain⟨d,K,C,H⟩:=dY (s:=load (A.add 0)) (f:=λd=>(load (A.add 1)).bind λa=>Sem.pure #[d,a]) G;obtain⟨rfl,l⟩:=aeU I C;obtain⟨a,J,o,m⟩:=dY (s:=load (A.add 1)) (f:=λa=>Sem.pure #[d,a]) H;obtain⟨rfl,j⟩:=aeU k o;cases(show Result.ok #[d,a] _=Result.ok c _ from m);exact⟨d,a,rfl,l,j,rfl⟩
theorem ab7{t:TypeId}{g:Field}{f:Nat}{cs:Array Value}(i:P.underlying t=some (.struct S))(c:S[f]?=some g)(j:P.underlying g.type=some d)(b:ai7 d=true)(l:e x=.agg cs)(k:cs[g.offset]?=some u)(h:(execOp e ⟨dst,.field t x f,ty,pos,af,gd⟩).run P w=.ok nx w3) :
  ∃v,nx=.value v/\(v=u/\w3=w):=by
 obtain⟨v,rfl,a⟩:=lF (s:=Instr.field t (e x) f) h;refine⟨v,rfl, ?_⟩;rw[l] at a;have:(Instr.field t (.agg cs) f).run P w=.ok u w:=by
  simp[Instr.field,mt i,c,asAgg,part,ai9 j b,k]
 rw[this] at a;cases a;exact⟨rfl,rfl⟩
theorem ab8{t : TypeId}{i:TypeInfo}{A:Option Addr}{k : Nat}(f:P.underlying t=some (.slice X))(hi:P.info? X=some i)(l:e x=.slice A n c)(j:e y=.int .i64 k)(m:k<n)(h:(execOp e ⟨dst,.indexAddr t x y,ty,pos,af,gd⟩).run P w=.ok nx w3) :
  ∃v,nx=.value v/\(∃a,A=some a/\v=.pointer (some (a.add (k*i.size)))/\w3=w):=by
 obtain⟨v,rfl,b⟩:=lF (s:=Instr.indexAt t (e x) (e y)) h;refine⟨v,rfl, ?_⟩;rw[l,j] at b;have o:(0:Int)<=k/\(k:Int)<n:=by omega
 cases A with
 |none=>
  exfalso;have hd:ld P (Instr.indexAt t (.slice none n c) (.int .i64 k)):=by
   unfold Instr.indexAt;refine Leaves.bind (A:=λq=>q=(IntKind.i64,(k:Int))) rfl λq g=> ?_;subst g;refine Leaves.bind (aaE f) λd hd=> ?_;subst hd;refine Leaves.bind (s:=Sem.pure (none,n,X)) (A:=λq=>q=(none,n,X)) rfl λq g=> ?_;subst g;exact Leaves.bind (aaE f) λd hd=>ai8 _ _ _ _
  exact auN hd b
 |some a=>
  have:(Instr.indexAt t (.slice (some a) n c) (.int .i64 k)).run P w=.ok (.pointer (some (a.add (k*i.size)))) w:=by
   simp[Instr.indexAt,asIntOf,mt f,m,sizeOf,typeInfo,hi]
  rw[this] at b;cases b;exact⟨a,rfl,rfl,rfl⟩
end
def alr:Value->Bool
 |.agg _|.tuple _=>false
 |_=>true
section
variable {P:Program} (F:FaT P) {w w3:World} {e:Operand->Value} {x y:Operand} {nx:Next} {dst:Option Tmp} {ty:TypeId} {pos:String} {af:Array Edge} {gd:Option (Nat×Bool)}
def acO{c : Value}(b:alr u=true)(f:w.cell? A=some c)(d:w.frozen? A=false)(k:Sem V):(Sem.store .plain A u k).run P w=k.run P (w.setCell A u):=by
 have a:(∀x,u ≠ .agg x)/\∀x,u ≠ .tuple x:=⟨λx e=>(by subst e;cases b),λx e=>(by subst e;cases b)⟩;rw[<-rx _ _ _ #[],sD _ _ _ _ _ _ _ a.1 a.2];simp only[f,d,kw,qK];rw[rx]
def aro :A.add 1≠A:=by
 unfold Addr.add;intro e;have:=jp Addr.off e;simp at this
include F in
theorem aoH{u0 u1 c0 c1:Value}(k:alr u0=true)(r:alr u1=true)(o:e x=.pointer (some A))(j:e y=.agg #[u0,u1])(a:w.cell? A=some c0)(d:w.frozen? A=false)(f:w.cell? (A.add 1)=some c1)(b:w.frozen? (A.add 1)=false) :
  (execOp e ⟨dst,.store 151 x y,ty,pos,af,gd⟩).run P w=.ok .skip ((w.setCell A u0).setCell (A.add 1) u1):=by
 obtain⟨i,m,t, -⟩:=F.adF;have p:(storeCells A [u0,u1] 0).run P w=.ok () ((w.setCell A u0).setCell (A.add 1) u1):=by
  show(Sem.store .plain (A.add 0) u0 (Sem.store .plain (A.add 1) u1 (Sem.pure ()))).run P w=_;have g:A.add 0=A:=by unfold Addr.add;simp
  rw[g,acO k a d,acO r (c:=c1) (by rw[tY _ _ _ _ (λe=>aro e.symm)];exact f) (by rw[uK];exact b)];rfl
 have s:(storeVar 151 A (.agg #[u0,u1])).run P w=.ok () ((w.setCell A u0).setCell (A.add 1) u1):=by
  have l:(sizeOf 151).run P w=.ok 2 w:=by simp[sizeOf,typeInfo,m,t]
  unfold storeVar;show((sizeOf 151).bind λn=>if(Value.agg #[u0,u1]).cells.size≠n then stuck _ else storeCells A (Value.agg #[u0,u1]).cells.toList 0).run P w=_;rw[qU,l];exact p
 have:execOp e ⟨dst,.store 151 x y,ty,pos,af,gd⟩=(Instr.storeAt 151 (e x) (e y)).bind λ_=>Sem.pure .skip:=rfl;rw[this,o,j,qU];have q:(Instr.storeAt 151 (.pointer (some A)) (.agg #[u0,u1])).run P w=.ok () ((w.setCell A u0).setCell (A.add 1) u1):=s;rw[q];rfl
include F in
theorem aoI{c0 : Value}(j:∃a n c,u=.slice a n c)(o:e x=.pointer (some A))(g:e y=u)(b:w.cell? A=some c0)(d:w.frozen? A=false) :
  (execOp e ⟨dst,.store 138 x y,ty,pos,af,gd⟩).run P w=.ok .skip (w.setCell A u):=by
 obtain⟨i,l,s, -⟩:=F.ake;obtain⟨a,n,c,rfl⟩:=j;have p:(storeCells A [.slice a n c] 0).run P w=.ok () (w.setCell A (.slice a n c)):=by
  show(Sem.store .plain (A.add 0) (.slice a n c) (Sem.pure ())).run P w=_;have f:A.add 0=A:=by unfold Addr.add;simp
  rw[f,acO rfl b d];rfl
 have r:(storeVar 138 A (.slice a n c)).run P w=.ok () (w.setCell A (.slice a n c)):=by
  have k:(sizeOf 138).run P w=.ok 1 w:=by simp[sizeOf,typeInfo,l,s]
  unfold storeVar;show((sizeOf 138).bind λm=>if(Value.slice a n c).cells.size≠m then stuck _ else storeCells A (Value.slice a n c).cells.toList 0).run P w=_;rw[qU,k];exact p
 have:execOp e ⟨dst,.store 138 x y,ty,pos,af,gd⟩=(Instr.storeAt 138 (e x) (e y)).bind λ_=>Sem.pure .skip:=rfl;rw[this,o,g,qU];have q:(Instr.storeAt 138 (.pointer (some A)) (.slice a n c)).run P w=.ok () (w.setCell A (.slice a n c)):=r;rw[q];rfl
include F in
theorem arp:(execOp e ⟨dst,.alloc 138,ty,pos,af,gd⟩).run P w=.ok (.value (.pointer (some ⟨w.heap.size,0,none⟩))) (w.alloc (.cells #[.slice none 0 0] 138)):=by
 obtain⟨i,b,c,a⟩:=F.ake;have:execOp e ⟨dst,.alloc 138,ty,pos,af,gd⟩=(Instr.alloc 138 true (.tuple #[])).bind λv=>Sem.pure (.value v):=rfl;rw[this,qU];have:(Instr.alloc 138 true (.tuple #[])).run P w=.ok (.pointer (some ⟨w.heap.size,0,none⟩)) (w.alloc (.cells #[.slice none 0 0] 138)):=by
  simp[Instr.alloc,zeroValue,typeInfo,b,a,newVar,newRow,Value.cells]
 rw[this];rfl
include F in
theorem anf(t:(n:Int)<=2147483647)(o:e x=.int .i64 n):∃c:Array Value,c.size=2*n/\(execOp e ⟨dst,.makeSlice 138 x x,ty,pos,af,gd⟩).run P w=.ok (.value (.slice (some ⟨w.heap.size,0,none⟩) n n)) (w.alloc (.cells c 151)):=by
 obtain⟨i,a,r,g,p⟩:=F.adF;have k:IntKind.i64.wrap (n:Int)=n:=by
  unfold IntKind.wrap;simp[IntKind.signed,IntKind.bits];omega
 have q:¬(n:Int)<0:=by omega
 have s:¬(2:Int) ^ 48<24*n:=by omega
 have:execOp e ⟨dst,.makeSlice 138 x x,ty,pos,af,gd⟩=(Instr.makeSlice 138 (e x) (e x)).bind λv=>Sem.pure (.value v):=rfl;rw[this,o];have l:¬(281474976710656:Int)<24*n:=by omega
 have j:∀w,(sizeOf 151).run P w=.ok 2 w:=λw=>by simp[sizeOf,typeInfo,a,r]
 have d:∀m:Nat,(askRoom m).run P w=.ok () w:=λm=>by
  unfold askRoom;split<;>rfl
 by_cases f:n=0
 .subst f;refine⟨(Array.range 0).map λ_=>default,by simp, ?_⟩;rw[qU];have:(Instr.makeSlice 138 (.int .i64 (0:Nat)) (.int .i64 (0:Nat))).run P w=.ok (.slice (some ⟨w.heap.size,0,none⟩) 0 0) (w.alloc (.cells ((Array.range 0).map λ_=>default) 151)):=by
   simp[Instr.makeSlice,mt F.ahl,asInt,asIntOf,typeInfo,a,g,d,j,newRow,(show IntKind.i64.wrap 0=0 by decide)]
  rw[this];rfl
 .refine⟨(Array.range (n*2)).map λi=>(#[.string ⟨#[]⟩,.bool false]:Array Value)[i % 2]!,by simp;omega, ?_⟩;rw[qU];have:(Instr.makeSlice 138 (.int .i64 n) (.int .i64 n)).run P w=.ok (.slice (some ⟨w.heap.size,0,none⟩) n n) (w.alloc (.cells ((Array.range (n*2)).map λi=>(#[.string ⟨#[]⟩,.bool false]:Array Value)[i % 2]!) 151)):=by
   have b:∀w,(zeroValue 151).run P w=.ok (.agg #[.string ⟨#[]⟩,.bool false]) w:=λw=>by simp[zeroValue,typeInfo,a,p]
   simp[Instr.makeSlice,mt F.ahl,asInt,asIntOf,typeInfo,a,g,k,q,l,d,j,b,newRow,f,Value.cells];intro h;omega
  rw[this];rfl
end
def eK(h:w.cell? A=some v):A.block<w.heap.size:=by
 unfold World.cell? at h;cases a:w.heap[A.block]? with
 |none=>rw[a] at h;simp at h
 |some o=>exact(dl.1 a).1
structure Cx where
 R:List Frame->World->Prop
 c0:Cfg
 iH:Ren
 w0:World
 y:Frame
 ys:List Frame
def At(X:Cx)(T:Array Value)(k:List Item)(w:World):Prop:=45<=T.size/\∃c a,ie true X.R X.c0 X.iH X.w0 c a (FQ cD T k::X.y::X.ys) w
structure Tm (M:List Nat) (T T':Array Value):Prop where
 size:T'.size=T.size
 same:∀t,M.contains t=false->T'.getD t undef=T.getD t undef
def Tm.refl(M:List Nat)(T:Array Value):Tm M T T:=⟨rfl,λ_ _=>rfl⟩
def Tm.trans{T : Array Value}(h:Tm O T T')(k:Tm O T' Q):Tm O T Q:=⟨k.size.trans h.size,λt a=>(k.same t a).trans (h.same t a)⟩
def Tm.mono{T : Array Value}(h:Tm O T T')(b:∀t,O.contains t=true->rest.contains t=true):Tm rest T T':=⟨h.size,λt a=>h.same t (by
 cases e:O.contains t with
 |false=>rfl
 |true=>rw[b t e] at a;cases a)⟩
def Tm.sw{T : Array Value}{d:Nat}(h:Tm [d] T T')(b:cT.contains d=true):Tm cT T T':=h.mono λt a=>by
 simp at a;subst a;exact b
def Tm.one{T : Array Value}{d:Nat}(b:T'.size=T.size)(h:∀t,t≠d->T'.getD t undef=T.getD t undef):Tm [d] T T':=⟨b,λt a=>h t λe=>by subst e;simp at a⟩
def aeV{e:Operand->Value}{n:Tmp}{t ty:TypeId}{dst:Option Tmp}{pos:String}(f:e (.tmp n)=.tuple #[]):∀c a,(execOp e ⟨dst,.load t (.tmp n),ty,pos,af,gd⟩).run P w ≠ .ok c a:=λc a g=>by
 obtain⟨v,d,b,i⟩:=dY (s:=Instr.loadAt t (e (.tmp n))) g;rw[f] at b;cases(show Result.halt _ _=Result.ok v d from b)
section
variable {X:Cx} {T:Array Value} {k:List Item} {w w2:World}
def At.go(h:At X T k w)(b:∀base,stepG (ai true) true (Gl (FQ cD T k::X.y::X.ys) base) w=.go (Gl (FQ cD T k2::X.y::X.ys) base) w2 es):At X T k2 w2:=
 let⟨e,_,_,h⟩:=h;let⟨d,c,a,_,_⟩:=h.go rfl true b;⟨e,d,c,a⟩
def At.seq(h:At X T (.code (.seq a b)::k) w):At X T (.code a :: .code b::k) w:=h.go (es:=#[]) λbase=>by simp[Gl,stepG,stepG.exec]
def At.region{id:Nat}{l:List Nat}(a:List.range Y.size=l)(h:At X T (.code (.region id Y false)::k) w):At X T (.inRegion Y l::k) w:=h.go (es:=#[]) λbase=>by subst a;simp[Gl,stepG,stepG.exec]
def At.jk(h:At X T (.inRegion Y []::k) w):At X T k w:=h.go (es:=#[]) λbase=>by simp[Gl,stepG,stepG.exec]
def AtL(X:Cx)(T:Array Value)(k:List Item)(w:World):Prop:=45<=T.size/\∃c a,ie true X.R X.c0 X.iH X.w0 c a (FQ cD T k::X.y::X.ys) w/\iD (ai true) c X.c0
def At.aAc(h:At X T (.inRegion Y []::k) w):AtL X T k w:=
 let⟨e,_,_,h⟩:=h;let⟨d,c,b,a,_⟩:=h.go (w2:=w) (x2:=FQ cD T k) (xs2:=X.y::X.ys) (es:=#[]) rfl true λbase=>by simp[Gl,stepG,stepG.exec]
 ⟨e,d,c,b,a⟩
def At.skip(h:At X T (.code .skip::k) w):At X T k w:=h.go (es:=#[]) λbase=>by simp[Gl,stepG,stepG.exec]
def At.cond{t:Tmp}(d:T.getD t undef=.bool q)(h:At X T (.code (.cond (.tmp t) a b)::k) w):At X T (.code (if q then a else b)::k) w:=h.go (es:=#[]) λbase=>by
 have c:Frame.eval (FQ cD T (.code (.cond (.tmp t) a b)::k)) (.tmp t)=.bool q:=d;simp[Gl,stepG,stepG.exec,c]
def At.block{id:Nat}(h:At X T (.code (.block id a)::k) w):At X T (.code a :: .inBlock id::k) w:=h.go (es:=#[]) λbase=>by simp[Gl,stepG,stepG.exec]
def At.loop(h:At X T (.code (.loop a)::k) w):At X T (.code a :: .inLoop a::k) w:=h.go (es:=#[]) λbase=>by simp[Gl,stepG,stepG.exec]
def At.again(h:At X T (.inLoop a::k) w):At X T (.code a :: .inLoop a::k) w:=h.go (es:=#[]) λbase=>by simp[Gl,stepG,stepG.exec]
def At.exit{id:Nat}(a:exitTo id k=some k2)(h:At X T (.code (.exit id)::k) w):At X T k2 w:=h.go (es:=#[]) λbase=>by simp[Gl,stepG,stepG.exec,a]
def At.no(h:At X T (.code (.refuse "")::k) w):False:=by
 obtain⟨a,c,b,h⟩:=h;exact h.no rfl true (o:=_) (w2:=w) (by simp only[Gl,stepG,stepG.exec];rfl)
def At.jz    {d:Tmp} {Φ:Value->World->Prop} (h:At X T (.inRegion Y (i::rest)::k) w) (A:Y[i]?=some o) (y:o.guard=none) (s:o.dst=some d) (l:d<45)
  (a:∀m j,(execOp (FQ cD T (.inRegion Y (i::rest)::k)).eval o).run (ai true) w=.ok m j->∃v,m=.value v/\Φ v j) :
  ∃v b n,Φ v b/\Tm [d] T n/\n.getD d undef=v/\At X n (.inRegion Y rest::k) b:=by
 obtain⟨f,c,D,h⟩:=h;obtain⟨v,b,z,C,q,r, -⟩:=h.op A y λm j g=>.inl (let⟨v,e,_⟩:=a m j g;⟨v,e⟩);have p:Φ v b:=by
  rcases q with g|⟨g, -⟩
  .obtain⟨u,e,B⟩:=a _ _ g;cases e;exact B
  .obtain⟨u,e, -⟩:=a _ _ g;cases e
 rw[s] at r;replace l:d<T.size:=bd l f;exact⟨v,b,_,p,.one (by simp) (λt x=>by rw[aH l,da x]),by rw[aH l,du rfl],by simpa using f,z,C,r⟩
def At.opk    (h:At X T (.inRegion Y (i::rest)::k) w) (j:Y[i]?=some o) (l:o.guard=none) (g:o.dst=none)
  (b:(execOp (FQ cD T (.inRegion Y (i::rest)::k)).eval o).run (ai true) w=.ok .skip w2):At X T (.inRegion Y rest::k) w2:=by
 obtain⟨d,c,q,h⟩:=h;obtain⟨v,p,n,m,e,f, -⟩:=h.op j l λs r a=>.inr (by rw[b] at a;cases a;rfl);rw[g] at f;rcases e with a|⟨a, -⟩
 .rw[b] at a;cases a
 .rw[b] at a;cases a;exact⟨d,n,m,f⟩
def At.noV    {t:Tmp} (h:At X T (.inRegion Y (i::rest)::k) w) (g:Y[i]?=some o) (m:o.guard=none) (b:aak gA gL o.op=false) (e:T.getD t undef=.pointer (some A))
  (d:∀(e:Operand->Value) (w:World),e (.tmp t)=.tuple #[]->∀p j,(execOp e o).run (ai true) w ≠ .ok p j):NoV (ai true) w A/\NoV (ai true) w (A.add 1):=by
 obtain⟨l,c,q,h⟩:=h;obtain⟨x,f,n⟩:=h.aoF g m b t d;rw[e] at f;cases f with
 |pointer a=>cases a with
  |some a=>exact⟨h.wr.noV a,h.wr.noV (a.add 1)⟩
 |fO=>exact absurd rfl n
def At.aAd(b:g∈gL)(h:At X T k w):NoV (ai true) w ⟨g,0,none⟩:=by
 obtain⟨a,c,d,h⟩:=h;exact h.wr.noV (.mk (h.gl g b) 0 none)
def At.chk{t:Tmp}(a:T.getD t undef=.bool q)(h:At X T (.code (.cond (.tmp t) (.refuse "") .skip)::k) w):q=false/\At X T k w:=by
 have h:=h.cond a;cases q with
 |true=>exact(h.no).elim
 |false=>exact⟨rfl,h.skip⟩
def At.axT{t:Tmp}(a:T.getD t undef=.bool q)(h:At X T (.code (.cond (.tmp t) .skip (.refuse ""))::k) w):q=true/\At X T k w:=by
 have h:=h.cond a;cases q with
 |false=>exact(h.no).elim
 |true=>exact⟨rfl,h.skip⟩
end
def In_(x:Int):Prop:= -9223372036854775808<=x/\x<=9223372036854775807
def abb{x:Int}(h:(IntKind.i64.wrap (x*1) ==x)=true):In_ x:=by
 rw[nf] at h;unfold IntKind.wrap at h;simp[IntKind.signed,IntKind.bits] at h;unfold In_;omega
def aeW(h:(n:Int)<9223372036854775807):IntKind.i64.wrap ((n:Int)+1)=((n+1:Nat):Int):=by
 unfold IntKind.wrap;simp[IntKind.signed,IntKind.bits];omega
def eR{a b:Int}(h:decide (a<b)=false):b<=a:=by simpa using h
structure ahp (w:World) (B:Option Addr) (i:Nat) (x:Int×ByteArray):Prop where
 c:∃a,B=some a/\w.cell? (a.add (i*2))=some (.int .i64 x.1)/\w.cell? ((a.add (i*2)).add 1)=some (.string x.2)
 i:In_ x.1
 s:(x.2.size:Int)<=9223372036854775807
def RdI(w:World)(B:Option Addr)(j:Nat)(l:List (Int×ByteArray)):Prop:=∀i x,l[i]?=some x->ahp w B (j+i) x
abbrev inC(k:List Item):List Item:=.inLoop aaS :: .inBlock 52::k
abbrev mI:List Nat:=[4,5,9,10,11,13,15,26,25,22]
def Tm.mi{T : Array Value}{d:Nat}(h:Tm [d] T T')(b:mI.contains d=true):Tm mI T T':=h.mono λt a=>by
 simp at a;subst a;exact b
section
variable {X:Cx} {T:Array Value} {k:List Item} {w:World}
def At.aAe{m : Nat}(h:At X T (.code aaS::inC k) w)(V:T.getD 27 undef=.slice B m c)(ji:T.getD 28 undef=.int .i64 m)(n:T.getD 5 undef=.int .i64 j)(hj:j<=m)(hm:(m:Int)<=9223372036854775807) :
  (j=m/\∃T',Tm mI T T'/\At X T' k w)\/(j<m/\∃x T',ahp w B j x/\Tm mI T T'/\T'.getD 5 undef=.int .i64 (j+1:Nat)/\At X T' (.code aaS::inC k) w):=by
 have o:=Tm.refl mI T;unfold Go.Proofs.YtlaobkmopohmnaaGreatDoor.aaS at h;have h:=h.seq;replace h:=h.region (l:=[0]) rfl;obtain⟨v,A,T1,⟨g,f⟩,m,s4,b⟩:=h.jz (d:=4) (Φ:=λv i=>v=.bool (decide ((j:Int)<m))/\i=w) rfl rfl rfl (by decide) λy i q=>gF (by exact n) (by exact ji) q;rw[g] at s4;rw[f] at b;clear g f;replace n:=(m.same 5 rfl).trans n;replace V:=(m.same 27 rfl).trans V;replace o:=o.trans (m.mi rfl);clear m;replace h:=b;clear b;replace h:=h.jk.seq.cond s4;by_cases F:(j:Int)<m
 .right;rw[dj F] at h;simp only[pu] at h;replace h:=h.skip.seq.seq;replace h:=h.region (l:=[0,1,2,3,4]) rfl;obtain⟨ii,hi,hz⟩:=(faQ true).i110;obtain⟨fs,g0,g1,O,U,Y,Z,W,Q,M⟩:=(faQ true).auK;obtain⟨v,A,T2,⟨a,hB,g,f⟩,m,R,b⟩:=h.jz (d:=9) (Φ:=λv i=>∃a,B=some a/\v=.pointer (some (a.add (j*ii.size)))/\i=w) rfl rfl rfl (by decide) λy i q=>ab8 (faQ true).u38 hi (by exact V) (by exact n) (by omega) q;rw[g,hz] at R;rw[f] at b;clear g f;replace n:=(m.same 5 rfl).trans n;replace o:=o.trans (m.mi rfl);clear m;replace h:=b;clear b;have hv:=h.noV (t:=9) rfl rfl rfl R (λe w he=>aeV he);obtain⟨v,A,T3,⟨E,C,g,L,a1,f⟩,m,r,b⟩:=h.jz (d:=10) (Φ:=λv i=>∃E C,v=.agg #[E,C]/\w.cell? (a.add (j*2))=some E/\w.cell? ((a.add (j*2)).add 1)=some C/\i=w) rfl rfl rfl (by decide) λy i q=>aja O hi hz (by exact R) hv.1 hv.2 q;rw[g] at r;rw[f] at b;clear g f;replace n:=(m.same 5 rfl).trans n;replace o:=o.trans (m.mi rfl);clear m;replace h:=b;clear b;obtain⟨v,A,T4,⟨g,f⟩,m,u,b⟩:=h.jz (d:=11) (Φ:=λv i=>v=E/\i=w) rfl rfl rfl (by decide) λy i q=>ab7 O U (by rw[W];exact(faQ true).u3) rfl (by exact r) (by rw[Z];rfl) q;rw[g] at u;rw[f] at b;clear g f;replace n:=(m.same 5 rfl).trans n;replace r:=(m.same 10 rfl).trans r;replace o:=o.trans (m.mi rfl);clear m;replace h:=b;clear b;obtain⟨v,A,T5,⟨z,P,g,f⟩,m,I,b⟩:=h.jz (d:=13) (Φ:=λv i=>∃z,E=.int .i64 z/\v=.int .i64 (IntKind.i64.wrap (z*1))/\i=w) rfl rfl rfl (by decide) λy i q=>let⟨v,J,z,D,H,N⟩:=aln q rfl;⟨v,J,z,u.symm.trans D,H,N⟩
  rw[g] at I;rw[f] at b;clear g f;replace n:=(m.same 5 rfl).trans n;replace r:=(m.same 10 rfl).trans r;replace u:=(m.same 11 rfl).trans u;replace o:=o.trans (m.mi rfl);clear m;replace h:=b;clear b;subst P;obtain⟨v,A,T6,⟨g,f⟩,m,p,b⟩:=h.jz (d:=15) (Φ:=λv i=>v=.bool (IntKind.i64.wrap (z*1) ==z)/\i=w) rfl rfl rfl (by decide) λy i q=>alp (by exact I) (by exact u) q;rw[g] at p;rw[f] at b;clear g f;replace n:=(m.same 5 rfl).trans n;replace r:=(m.same 10 rfl).trans r;replace o:=o.trans (m.mi rfl);clear m;replace h:=b;clear b;obtain⟨hq,b⟩:=h.jk.axT p;replace h:=b.seq.seq;clear b;replace h:=h.region (l:=[0,1,2]) rfl;obtain⟨v,A,T7,⟨g,f⟩,m,G,b⟩:=h.jz (d:=26) (Φ:=λv i=>v=C/\i=w) rfl rfl rfl (by decide) λy i q=>ab7 O Y (by rw[M];exact(faQ true).u9) rfl (by exact r) (by rw[Q];rfl) q;rw[g] at G;rw[f] at b;clear g f;replace n:=(m.same 5 rfl).trans n;replace p:=(m.same 15 rfl).trans p;replace o:=o.trans (m.mi rfl);clear m;replace h:=b;clear b;obtain⟨v,A,T8,⟨s,S,g,f⟩,m,K,b⟩:=h.jz (d:=25) (Φ:=λv i=>∃s:ByteArray,C=.string s/\v=.int .i64 s.size/\i=w) rfl rfl rfl (by decide) λy i q=>let⟨v,J,z,D,H,N⟩:=auO (faQ true) q;⟨v,J,z,G.symm.trans D,H,N⟩
  rw[g] at K;rw[f] at b;clear g f;replace n:=(m.same 5 rfl).trans n;replace p:=(m.same 15 rfl).trans p;replace o:=o.trans (m.mi rfl);clear m;replace h:=b;clear b;subst S;clear p;obtain⟨v,A,T9,⟨g,f⟩,m,p,b⟩:=h.jz (d:=15) (Φ:=λv i=>v=.bool (decide ((9223372036854775807:Int)<s.size))/\i=w) rfl rfl rfl (by decide) λy i q=>gF rfl (by exact K) q;rw[g] at p;rw[f] at b;clear g f;replace n:=(m.same 5 rfl).trans n;replace o:=o.trans (m.mi rfl);clear m;replace h:=b;clear b;obtain⟨a0,b⟩:=h.jk.chk p;replace h:=b.region (l:=[0,1]) rfl;clear b;obtain⟨v,A,a3,⟨g,f⟩,m,oQ,b⟩:=h.jz (d:=22) (Φ:=λv i=>v=.int .i64 (IntKind.i64.wrap ((j:Int)+1))/\i=w) rfl rfl rfl (by decide) λy i q=>alo (by exact n) rfl q;rw[g] at oQ;rw[f] at b;clear g f;replace n:=(m.same 5 rfl).trans n;replace o:=o.trans (m.mi rfl);clear m;replace h:=b;clear b;clear n;obtain⟨v,A,a2,⟨g,f⟩,m,n,b⟩:=h.jz (d:=5) (Φ:=λv i=>v=.int .i64 (IntKind.i64.wrap ((j:Int)+1))/\i=w) rfl rfl rfl (by decide) λy i q=>let⟨v,J,D,H⟩:=ahm q;⟨v,J,D.trans oQ,H⟩
  rw[g] at n;rw[f] at b;clear g f;replace o:=o.trans (m.mi rfl);clear m;replace h:=b;clear b;rw[aeW (by omega)] at n;exact⟨by omega,(z,s),_,⟨⟨a,hB,L,a1⟩,abb hq,eR a0⟩,o,n,h.jk.again⟩
 .left;rw[bv F] at h;simp only[kw,qK] at h;exact⟨by omega,_,o,h.exit rfl⟩
def At.awx{B:Option Addr}{m c:Nat}(g:(m:Int)<=9223372036854775807):∀(n j:Nat) {T:Array Value},m=j+n->At X T (.code Go.Proofs.YtlaobkmopohmnaaGreatDoor.aaS::inC k) w->T.getD 27 undef=.slice B m c->T.getD 28 undef=.int .i64 m->T.getD 5 undef=.int .i64 j->
  ∃l T',l.length=n/\RdI w B j l/\Tm mI T T'/\At X T' k w
 |0,j,T,e,h,je,ji,s5=>by
  rcases h.aAe je ji s5 (by omega) g with⟨_,T',u,t⟩|⟨d,_⟩
  .exact⟨[],T',rfl,λi x b=>by simp at b,u,t⟩
  .omega
 |n+1,j,T,e,h,je,ji,s5=>by
  rcases h.aAe je ji s5 (by omega) g with⟨A,_⟩|⟨d,x,z,s,a,o,v⟩
  .omega
  .obtain⟨l,T',p,r,f,q⟩:=At.awx g n (j+1) (by omega) v ((a.same 27 rfl).trans je) ((a.same 28 rfl).trans ji) o;refine⟨x::l,T',by simp[p],λi y b=> ?_,a.trans f,q⟩;cases i with
   |zero=>simp at b;subst b;exact s
   |succ i=>
    have:=r i y (by simpa using b);have e:j+1+i=j+(i+1):=by omega
    rwa [e] at this
end
structure aAf (w:World) (A:Option Addr) (i:Nat) (x:Int×List (Int×ByteArray)):Prop where
 c:∃a B c,A=some a/\w.cell? (a.add (i*2))=some (.int .i64 x.1)/\w.cell? ((a.add (i*2)).add 1)=some (.slice B x.2.length c)/\1<=x.2.length/\x.2.length<=c/\(c:Int)<=9223372036854775807/\RdI w B 0 x.2
 i:In_ x.1
def RdP(w:World)(A:Option Addr)(j:Nat)(l:List (Int×List (Int×ByteArray))):Prop:=∀i x,l[i]?=some x->aAf w A (j+i) x
def Rgd(X:Cx)(b:Nat):Prop:=(∃a,X.iH.r a b)\/X.w0.heap.size<=b
def PkR(X:Cx)(w:World)(A:Option Addr)(i:Nat):Prop:=∀a b n c,A=some a->w.cell? ((a.add (i*2)).add 1)=some (.slice (some b) n c)->Rgd X b.block
abbrev inB(k:List Item):List Item:=.inLoop aaT :: .inBlock 51::k
def aAg(t:Nat)(h:mI.contains t=true):cT.contains t=true:=by
 simp only[mI,tG,List.contains_nil,vC,rc,nf] at h;rcases h with rfl|rfl|rfl|rfl|rfl|rfl|rfl|rfl|rfl|rfl<;>rfl
section
variable {X:Cx} {T:Array Value} {k:List Item} {w:World}
def adX{e:Operand->Value}{n:Tmp}{i ty : TypeId}{dst:Option Tmp}{pos:String}(g:P.underlying t0=some (.slice i))(j:e (.tmp n)=.tuple #[]):∀d a,(execOp e ⟨dst,.call ⟨.builtin .len,#[.tmp n],#[t0]⟩,ty,pos,af,gd⟩).run P w ≠ .ok d a:=λd a f=>by
 obtain⟨v,_,A,m,c,b,_⟩:=ahn g f;rw[j] at b;cases b
def At.auQ    {t:Tmp} (h:At X T (.inRegion Y (i::rest)::k) w) (j:Y[i]?=some o) (q:o.guard=none) (b:aak gA gL o.op=false)
  (d:∀(e:Operand->Value) (w:World),e (.tmp t)=.tuple #[]->∀s l,(execOp e o).run (ai true) w ≠ .ok s l):∀a n c,T.getD t undef=.slice (some a) n c->a.block<w.heap.size:=λa n c e=>by
 obtain⟨p,c,u,h⟩:=h;obtain⟨x,g,r⟩:=h.aoF j q b t d;rw[e] at g;cases g with
 |slice f=>cases f with
  |some f=>obtain⟨m,_,_⟩:=f;exact(h.wr.lt m).2
 |fO=>exact absurd rfl r
def At.ahq    {t:Tmp} (h:At X T (.inRegion Y (i::rest)::k) w) (j:Y[i]?=some o) (q:o.guard=none) (b:aak gA gL o.op=false)
  (d:∀(e:Operand->Value) (w:World),e (.tmp t)=.tuple #[]->∀s l,(execOp e o).run (ai true) w ≠ .ok s l):∀a n c,T.getD t undef=.slice (some a) n c->Rgd X a.block:=λa n c e=>by
 obtain⟨p,c,u,h⟩:=h;obtain⟨x,g,r⟩:=h.aoF j q b t d;rw[e] at g;cases g with
 |slice f=>cases f with
  |some f=>
   obtain⟨m,_,_⟩:=f;exact(h.kept.new m).imp (λh=>⟨_,h⟩) (·.2)
 |fO=>exact absurd rfl r
def At.aAh{A:Option Addr}{c0 : Nat}(h:At X T (.code aaT::inB k) w)(s1:T.getD 1 undef=.slice A n c0)(D:T.getD 16 undef=.int .i64 n)(y:T.getD 20 undef=.int .i64 j)(hj:j<=n)(hm:(n:Int)<=9223372036854775807) :
  (j=n/\∃T',Tm cT T T'/\At X T' k w)\/(j<n/\∃x T',aAf w A j x/\PkR X w A j/\Tm cT T T'/\T'.getD 16 undef=.int .i64 n/\T'.getD 20 undef=.int .i64 (j+1:Nat)/\At X T' (.code aaT::inB k) w):=by
 have C:=Tm.refl cT T;unfold Go.Proofs.YtlaobkmopohmnaaGreatDoor.aaT at h;have h:=h.seq;replace h:=h.region (l:=[0]) rfl;obtain⟨v,K,af,⟨r,q⟩,m,g,f⟩:=h.jz (d:=21) (Φ:=λv s=>v=.bool (decide ((j:Int)<n))/\s=w) rfl rfl rfl (by decide) λJ s E=>gF (by exact y) (by exact D) E;rw[r] at g;rw[q] at f;clear r q;replace s1:=(m.same 1 rfl).trans s1;replace D:=(m.same 16 rfl).trans D;replace y:=(m.same 20 rfl).trans y;replace C:=C.trans (m.sw rfl);clear m;replace h:=f;clear f;replace h:=h.jk.seq.cond g;by_cases V:(j:Int)<n
 .right;rw[dj V] at h;simp only[pu] at h;replace h:=h.skip.seq.seq;replace h:=h.region (l:=[0,1,2,3,4]) rfl;obtain⟨ii,hi,hz⟩:=(faQ true).i40;obtain⟨fs,g0,g1,hu,a8,aa,ad,a9,a6,a3⟩:=(faQ true).u40;obtain⟨v,K,aI,⟨a,hB,r,q⟩,m,i,f⟩:=h.jz (d:=23) (Φ:=λv s=>∃a,A=some a/\v=.pointer (some (a.add (j*ii.size)))/\s=w) rfl rfl rfl (by decide) λJ s E=>ab8 (faQ true).u23 hi (by exact s1) (by exact y) (by omega) E;rw[r,hz] at i;rw[q] at f;clear r q;replace s1:=(m.same 1 rfl).trans s1;replace D:=(m.same 16 rfl).trans D;replace y:=(m.same 20 rfl).trans y;replace g:=(m.same 21 rfl).trans g;replace C:=C.trans (m.sw rfl);clear m;replace h:=f;clear f;have hv:=h.noV (t:=23) rfl rfl rfl i (λe w he=>aeV he);obtain⟨v,K,al,⟨S,P,r,a2,a0,q⟩,m,o,f⟩:=h.jz (d:=24) (Φ:=λv s=>∃S P,v=.agg #[S,P]/\w.cell? (a.add (j*2))=some S/\w.cell? ((a.add (j*2)).add 1)=some P/\s=w) rfl rfl rfl (by decide) λJ s E=>aja hu hi hz (by exact i) hv.1 hv.2 E;rw[r] at o;rw[q] at f;clear r q;replace s1:=(m.same 1 rfl).trans s1;replace D:=(m.same 16 rfl).trans D;replace y:=(m.same 20 rfl).trans y;replace g:=(m.same 21 rfl).trans g;replace i:=(m.same 23 rfl).trans i;replace C:=C.trans (m.sw rfl);clear m;replace h:=f;clear f;obtain⟨v,K,ao,⟨r,q⟩,m,p,f⟩:=h.jz (d:=25) (Φ:=λv s=>v=S/\s=w) rfl rfl rfl (by decide) λJ s E=>ab7 hu a8 (by rw[a9];exact(faQ true).u3) rfl (by exact o) (by rw[ad];rfl) E;rw[r] at p;rw[q] at f;clear r q;replace s1:=(m.same 1 rfl).trans s1;replace D:=(m.same 16 rfl).trans D;replace y:=(m.same 20 rfl).trans y;replace g:=(m.same 21 rfl).trans g;replace i:=(m.same 23 rfl).trans i;replace o:=(m.same 24 rfl).trans o;replace C:=C.trans (m.sw rfl);clear m;replace h:=f;clear f;obtain⟨v,K,ax,⟨z,a5,r,q⟩,m,u,f⟩:=h.jz (d:=26) (Φ:=λv s=>∃z,S=.int .i64 z/\v=.int .i64 (IntKind.i64.wrap (z*1))/\s=w) rfl rfl rfl (by decide) λJ s E=>let⟨v,a1,z,O,Y,a4⟩:=aln E rfl;⟨v,a1,z,p.symm.trans O,Y,a4⟩
  rw[r] at u;rw[q] at f;clear r q;replace s1:=(m.same 1 rfl).trans s1;replace D:=(m.same 16 rfl).trans D;replace y:=(m.same 20 rfl).trans y;replace g:=(m.same 21 rfl).trans g;replace i:=(m.same 23 rfl).trans i;replace o:=(m.same 24 rfl).trans o;replace p:=(m.same 25 rfl).trans p;replace C:=C.trans (m.sw rfl);clear m;replace h:=f;clear f;subst a5;obtain⟨v,K,aJ,⟨r,q⟩,m,G,f⟩:=h.jz (d:=22) (Φ:=λv s=>v=.bool (IntKind.i64.wrap (z*1) ==z)/\s=w) rfl rfl rfl (by decide) λJ s E=>alp (by exact u) (by exact p) E;rw[r] at G;rw[q] at f;clear r q;replace s1:=(m.same 1 rfl).trans s1;replace D:=(m.same 16 rfl).trans D;replace y:=(m.same 20 rfl).trans y;replace g:=(m.same 21 rfl).trans g;replace i:=(m.same 23 rfl).trans i;replace o:=(m.same 24 rfl).trans o;replace p:=(m.same 25 rfl).trans p;replace u:=(m.same 26 rfl).trans u;replace C:=C.trans (m.sw rfl);clear m;replace h:=f;clear f;obtain⟨hq,f⟩:=h.jk.axT G;replace h:=f.seq.seq;clear f;replace h:=h.region (l:=[0,1,2,3]) rfl;obtain⟨v,K,an,⟨r,q⟩,m,H,f⟩:=h.jz (d:=27) (Φ:=λv s=>v=P/\s=w) rfl rfl rfl (by decide) λJ s E=>ab7 hu aa (by rw[a3];exact(faQ true).u38) rfl (by exact o) (by rw[a6];rfl) E;rw[r] at H;rw[q] at f;clear r q;replace s1:=(m.same 1 rfl).trans s1;replace D:=(m.same 16 rfl).trans D;replace y:=(m.same 20 rfl).trans y;replace g:=(m.same 21 rfl).trans g;replace G:=(m.same 22 rfl).trans G;replace i:=(m.same 23 rfl).trans i;replace o:=(m.same 24 rfl).trans o;replace p:=(m.same 25 rfl).trans p;replace u:=(m.same 26 rfl).trans u;replace C:=C.trans (m.sw rfl);clear m;replace h:=f;clear f;have W:=h.ahq (t:=27) rfl rfl rfl λe w he=>adX (faQ true).u38 he;rw[H] at W;obtain⟨v,K,aT,⟨B,m,c,a7,r,q⟩,m,I,f⟩:=h.jz (d:=28) (Φ:=λv s=>∃B m c,P=.slice B m c/\v=.int .i64 m/\s=w) rfl rfl rfl (by decide) λJ s E=>let⟨v,a1,B,m,c,O,Y,a4⟩:=ahn (faQ true).u38 E;⟨v,a1,B,m,c,H.symm.trans O,Y,a4⟩
  rw[r] at I;rw[q] at f;clear r q;replace s1:=(m.same 1 rfl).trans s1;replace D:=(m.same 16 rfl).trans D;replace y:=(m.same 20 rfl).trans y;replace g:=(m.same 21 rfl).trans g;replace G:=(m.same 22 rfl).trans G;replace i:=(m.same 23 rfl).trans i;replace o:=(m.same 24 rfl).trans o;replace p:=(m.same 25 rfl).trans p;replace u:=(m.same 26 rfl).trans u;replace H:=(m.same 27 rfl).trans H;replace C:=C.trans (m.sw rfl);clear m;replace h:=f;clear f;subst a7;obtain⟨v,K,aY,⟨r,q⟩,m,M,f⟩:=h.jz (d:=3) (Φ:=λv s=>v=.int .i64 c/\s=w) rfl rfl rfl (by decide) λJ s E=>alq (faQ true).u38 (by exact H) E;rw[r] at M;rw[q] at f;clear r q;replace s1:=(m.same 1 rfl).trans s1;replace D:=(m.same 16 rfl).trans D;replace y:=(m.same 20 rfl).trans y;replace g:=(m.same 21 rfl).trans g;replace G:=(m.same 22 rfl).trans G;replace i:=(m.same 23 rfl).trans i;replace o:=(m.same 24 rfl).trans o;replace p:=(m.same 25 rfl).trans p;replace u:=(m.same 26 rfl).trans u;replace H:=(m.same 27 rfl).trans H;replace I:=(m.same 28 rfl).trans I;replace C:=C.trans (m.sw rfl);clear m;replace h:=f;clear f;obtain⟨v,K,aG,⟨r,q⟩,m,L,f⟩:=h.jz (d:=4) (Φ:=λv s=>v=.bool (decide ((m:Int)<1))/\s=w) rfl rfl rfl (by decide) λJ s E=>gF (by exact I) rfl E;rw[r] at L;rw[q] at f;clear r q;replace s1:=(m.same 1 rfl).trans s1;replace M:=(m.same 3 rfl).trans M;replace D:=(m.same 16 rfl).trans D;replace y:=(m.same 20 rfl).trans y;replace g:=(m.same 21 rfl).trans g;replace G:=(m.same 22 rfl).trans G;replace i:=(m.same 23 rfl).trans i;replace o:=(m.same 24 rfl).trans o;replace p:=(m.same 25 rfl).trans p;replace u:=(m.same 26 rfl).trans u;replace H:=(m.same 27 rfl).trans H;replace I:=(m.same 28 rfl).trans I;replace C:=C.trans (m.sw rfl);clear m;replace h:=f;clear f;obtain⟨U,f⟩:=h.jk.chk L;replace h:=f.seq.seq;clear f;replace h:=h.region (l:=[0]) rfl;clear L;obtain⟨v,K,b2,⟨r,q⟩,m,L,f⟩:=h.jz (d:=4) (Φ:=λv s=>v=.bool (decide ((9223372036854775807:Int)<c))/\s=w) rfl rfl rfl (by decide) λJ s E=>gF rfl (by exact M) E;rw[r] at L;rw[q] at f;clear r q;replace s1:=(m.same 1 rfl).trans s1;replace M:=(m.same 3 rfl).trans M;replace D:=(m.same 16 rfl).trans D;replace y:=(m.same 20 rfl).trans y;replace g:=(m.same 21 rfl).trans g;replace G:=(m.same 22 rfl).trans G;replace i:=(m.same 23 rfl).trans i;replace o:=(m.same 24 rfl).trans o;replace p:=(m.same 25 rfl).trans p;replace u:=(m.same 26 rfl).trans u;replace H:=(m.same 27 rfl).trans H;replace I:=(m.same 28 rfl).trans I;replace C:=C.trans (m.sw rfl);clear m;replace h:=f;clear f;obtain⟨N,f⟩:=h.jk.chk L;replace h:=f.seq.seq;clear f;replace h:=h.region (l:=[0]) rfl;clear L;obtain⟨v,K,b0,⟨r,q⟩,m,L,f⟩:=h.jz (d:=4) (Φ:=λv s=>v=.bool (decide ((c:Int)<m))/\s=w) rfl rfl rfl (by decide) λJ s E=>gF (by exact M) (by exact I) E;rw[r] at L;rw[q] at f;clear r q;replace s1:=(m.same 1 rfl).trans s1;replace M:=(m.same 3 rfl).trans M;replace D:=(m.same 16 rfl).trans D;replace y:=(m.same 20 rfl).trans y;replace g:=(m.same 21 rfl).trans g;replace G:=(m.same 22 rfl).trans G;replace i:=(m.same 23 rfl).trans i;replace o:=(m.same 24 rfl).trans o;replace p:=(m.same 25 rfl).trans p;replace u:=(m.same 26 rfl).trans u;replace H:=(m.same 27 rfl).trans H;replace I:=(m.same 28 rfl).trans I;replace C:=C.trans (m.sw rfl);clear m;replace h:=f;clear f;obtain⟨R,f⟩:=h.jk.chk L;replace h:=f.seq;clear f;replace h:=h.region (l:=[0]) rfl;obtain⟨v,K,b1,⟨r,q⟩,m,s5,f⟩:=h.jz (d:=5) (Φ:=λv s=>v=.int .i64 (0:Nat)/\s=w) rfl rfl rfl (by decide) λJ s E=>jy E;rw[r] at s5;rw[q] at f;clear r q;replace s1:=(m.same 1 rfl).trans s1;replace M:=(m.same 3 rfl).trans M;replace L:=(m.same 4 rfl).trans L;replace D:=(m.same 16 rfl).trans D;replace y:=(m.same 20 rfl).trans y;replace g:=(m.same 21 rfl).trans g;replace G:=(m.same 22 rfl).trans G;replace i:=(m.same 23 rfl).trans i;replace o:=(m.same 24 rfl).trans o;replace p:=(m.same 25 rfl).trans p;replace u:=(m.same 26 rfl).trans u;replace H:=(m.same 27 rfl).trans H;replace I:=(m.same 28 rfl).trans I;replace C:=C.trans (m.sw rfl);clear m;replace h:=f;clear f;replace U:=eR U;replace N:=eR N;replace R:=eR R;replace h:=h.jk.seq.block.loop;obtain⟨l,T2,hl,E,F,f⟩:=At.awx (by omega) m 0 (by omega) h H I s5;replace h:=f.region (l:=[0,1]) rfl;clear f;replace s1:=(F.same 1 rfl).trans s1;replace M:=(F.same 3 rfl).trans M;clear L;clear s5;replace D:=(F.same 16 rfl).trans D;replace y:=(F.same 20 rfl).trans y;replace g:=(F.same 21 rfl).trans g;clear G;replace i:=(F.same 23 rfl).trans i;replace o:=(F.same 24 rfl).trans o;clear p;clear u;replace H:=(F.same 27 rfl).trans H;replace I:=(F.same 28 rfl).trans I;replace C:=C.trans (F.mono aAg);clear F;obtain⟨v,K,ay,⟨r,q⟩,m,G,f⟩:=h.jz (d:=22) (Φ:=λv s=>v=.int .i64 (IntKind.i64.wrap ((j:Int)+1))/\s=w) rfl rfl rfl (by decide) λJ s E=>alo (by exact y) rfl E;rw[r] at G;rw[q] at f;clear r q;replace D:=(m.same 16 rfl).trans D;replace y:=(m.same 20 rfl).trans y;replace C:=C.trans (m.sw rfl);clear m;replace h:=f;clear f;clear y;obtain⟨v,K,aR,⟨r,q⟩,m,y,f⟩:=h.jz (d:=20) (Φ:=λv s=>v=.int .i64 (IntKind.i64.wrap ((j:Int)+1))/\s=w) rfl rfl rfl (by decide) λJ s E=>let⟨v,a1,O,Y⟩:=ahm E;⟨v,a1,O.trans G,Y⟩
  rw[r] at y;rw[q] at f;clear r q;replace D:=(m.same 16 rfl).trans D;replace C:=C.trans (m.sw rfl);clear m;replace h:=f;clear f;rw[aeW (by omega)] at y;subst hl;exact⟨by omega,(z,l),_,⟨⟨a,B,c,hB,a2,a0,(by show 1<=l.length;omega),(by show l.length<=c;omega),N,E⟩,abb hq⟩,λO b n2 c2 Q Z=>(by rw[hB] at Q;cases Q;rw[a0] at Z;exact W b n2 c2 (dq Z)),C,D,y,h.jk.again⟩
 .left;rw[bv V] at h;simp only[kw,qK] at h;exact⟨by omega,_,C,h.exit rfl⟩
def At.awy{A:Option Addr}{m c:Nat}(g:(m:Int)<=9223372036854775807):∀(n j:Nat) {T:Array Value},m=j+n->At X T (.code aaT::inB k) w->T.getD 1 undef=.slice A m c->T.getD 16 undef=.int .i64 m->T.getD 20 undef=.int .i64 j->
  ∃l T',l.length=n/\RdP w A j l/\(∀i,i<n->PkR X w A (j+i))/\Tm cT T T'/\At X T' k w
 |0,j,T,e,h,s1,dB,im=>by
  rcases h.aAh s1 dB im (by omega) g with⟨_,T',B,v⟩|⟨d,_⟩
  .exact⟨[],T',rfl,λi x a=>by simp at a,λi a=>absurd a (sS i),B,v⟩
  .omega
 |n+1,j,T,e,h,s1,dB,im=>by
  rcases h.aAh s1 dB im (by omega) g with⟨E,_⟩|⟨d,x,D,u,q,b,o,p,C⟩
  .omega
  .obtain⟨l,T',r,t,z,f,s⟩:=At.awy g n (j+1) (by omega) C ((b.same 1 rfl).trans s1) o p;refine⟨x::l,T',by simp[r],λi y a=> ?_,λi a=> ?_,b.trans f,s⟩
   case refine_2=>
    cases i with
    |zero=>exact q
    |succ i=>
     have:=z i (by omega);have e:j+1+i=j+(i+1):=by omega
     rwa [e] at this
   cases i with
   |zero=>simp at a;subst a;exact u
   |succ i=>
    have:=t i y (by simpa using a);have e:j+1+i=j+(i+1):=by omega
    rwa [e] at this
end
def aqb:gL.contains 1=true:=by unfold gL;kernel_rfl
def aip:gL.contains 2=true:=by unfold gL;kernel_rfl
def agM(h:gL.contains g=true):g∈gL:=by simpa using h
abbrev mH:List Nat:=6::7::cT
def Tm.mh{T : Array Value}{d:Nat}(h:Tm [d] T T')(b:mH.contains d=true):Tm mH T T':=h.mono λt a=>by
 simp at a;subst a;exact b
def aAi(t:Nat)(h:cT.contains t=true):mH.contains t=true:=by
 simp only[mH,tG,rc];exact .inr (.inr h)
noncomputable def ajb:Code:=.seq (.region 58 aiu false) (.seq (.region 59 ac9 false) cR)
noncomputable def arq:Code:=.seq (aaQ 54 aqk 19) (.seq (aaQ 55 aql 19) (.seq (aaQ 56 aqm 19) (.seq (.region 57 amI false) (.seq (.block 53 (.loop mF)) ajb))))
section
variable {X:Cx} {T:Array Value} {k:List Item} {w:World}
def At.head(h:At X T (.code jZ::k) w):∃s A n c l T',T.getD 0 undef=.int .i64 s/\1<=s/\s<=99/\(∃v,w.cell? ⟨1,0,none⟩=some v)/\(∃v,w.cell? ⟨2,0,none⟩=some v)/\
  T.getD 1 undef=.slice A n c/\n<=c/\(c:Int)<=9223372036854775807/\l.length=n/\RdP w A 0 l/\(∀i,i<n->PkR X w A i)/\(∀a,A=some a->Rgd X a.block)/\Tm mH T T'/\T'.getD 6 undef=.slice none 0 0/\T'.getD 7 undef=.bool false/\At X T' (.code arq::k) w:=by
 have j:=Tm.refl mH T;unfold jZ at h;have h:=h.seq.seq;replace h:=h.region (l:=[0,1,2]) rfl;obtain⟨v,E,Z,⟨x,q⟩,m,p,f⟩:=h.jz (d:=6) (Φ:=λv g=>v=.slice none 0 0/\g=w) rfl rfl rfl (by decide) λD g o=>jy o;rw[x] at p;rw[q] at f;replace j:=j.trans (m.mh rfl);replace h:=f;obtain⟨v,E,a1,⟨x,q⟩,m,r,f⟩:=h.jz (d:=7) (Φ:=λv g=>v=.bool false/\g=w) rfl rfl rfl (by decide) λD g o=>jy o;rw[x] at r;rw[q] at f;replace p:=(m.same 6 rfl).trans p;replace j:=j.trans (m.mh rfl);replace h:=f;obtain⟨v,E,a2,⟨s,V,x,q⟩,m,u,f⟩:=h.jz (d:=16) (Φ:=λv g=>∃s,T.getD 0 undef=.int .i64 s/\v=.bool (decide (s<1))/\g=w) rfl rfl rfl (by decide) λD g o=>let⟨v,U,z,P,Q,O⟩:=arn (b:=1) rfl o;⟨v,U,z,(j.same 0 rfl).symm.trans P,Q,O⟩
 rw[x] at u;rw[q] at f;replace p:=(m.same 6 rfl).trans p;replace r:=(m.same 7 rfl).trans r;replace j:=j.trans (m.mh rfl);replace h:=f;obtain⟨I,f⟩:=h.jk.chk u;replace h:=f.seq.seq;replace h:=h.region (l:=[0]) rfl;obtain⟨v,E,a6,⟨x,q⟩,m,u,f⟩:=h.jz (d:=16) (Φ:=λv g=>v=.bool (decide ((99:Int)<s))/\g=w) rfl rfl rfl (by decide) λD g o=>gF rfl (by exact(j.same 0 rfl).trans V) o;rw[x] at u;rw[q] at f;replace p:=(m.same 6 rfl).trans p;replace r:=(m.same 7 rfl).trans r;replace j:=j.trans (m.mh rfl);replace h:=f;obtain⟨J,f⟩:=h.jk.chk u;replace h:=f.seq.seq;replace h:=h.region (l:=[0,1,2,3,4,5]) rfl;obtain⟨ms,W⟩:=(faQ true).auJ;have hv:=h.aAd (agM aqb);obtain⟨v,E,a5,⟨R,q⟩,m,u,f⟩:=h.jz (d:=16) (Φ:=λv g=>w.cell? ⟨1,0,none⟩=some v/\g=w) rfl rfl rfl (by decide) λD g o=>aho W rfl rfl hv o;rw[q] at f;replace p:=(m.same 6 rfl).trans p;replace r:=(m.same 7 rfl).trans r;replace j:=j.trans (m.mh rfl);replace h:=f;have N:=h.aAd (agM aip);obtain⟨v,E,a0,⟨S,q⟩,m,u,f⟩:=h.jz (d:=16) (Φ:=λv g=>w.cell? ⟨2,0,none⟩=some v/\g=w) rfl rfl rfl (by decide) λD g o=>aho W rfl rfl N o;rw[q] at f;replace p:=(m.same 6 rfl).trans p;replace r:=(m.same 7 rfl).trans r;replace j:=j.trans (m.mh rfl);replace h:=f;have M:=h.ahq (t:=1) rfl rfl rfl λe w he=>adX (faQ true).u23 he;rw[j.same 1 rfl] at M;obtain⟨v,E,a4,⟨A,n,c,F,x,q⟩,m,u,f⟩:=h.jz (d:=16) (Φ:=λv g=>∃A n c,T.getD 1 undef=.slice A n c/\v=.int .i64 n/\g=w) rfl rfl rfl (by decide) λD g o=>let⟨v,U,B,m,c,P,Q,O⟩:=ahn (faQ true).u23 o;⟨v,U,B,m,c,(j.same 1 rfl).symm.trans P,Q,O⟩
 rw[x] at u;rw[q] at f;replace p:=(m.same 6 rfl).trans p;replace r:=(m.same 7 rfl).trans r;replace j:=j.trans (m.mh rfl);replace h:=f;obtain⟨v,E,a3,⟨x,q⟩,m,y,f⟩:=h.jz (d:=18) (Φ:=λv g=>v=.int .i64 c/\g=w) rfl rfl rfl (by decide) λD g o=>alq (faQ true).u23 (by exact(j.same 1 rfl).trans F) o;rw[x] at y;rw[q] at f;replace p:=(m.same 6 rfl).trans p;replace r:=(m.same 7 rfl).trans r;replace u:=(m.same 16 rfl).trans u;replace j:=j.trans (m.mh rfl);replace h:=f;obtain⟨v,E,a7,⟨x,q⟩,m,K,f⟩:=h.jz (d:=20) (Φ:=λv g=>v=.int .i64 (0:Nat)/\g=w) rfl rfl rfl (by decide) λD g o=>jy o;rw[x] at K;rw[q] at f;replace p:=(m.same 6 rfl).trans p;replace r:=(m.same 7 rfl).trans r;replace u:=(m.same 16 rfl).trans u;replace y:=(m.same 18 rfl).trans y;replace j:=j.trans (m.mh rfl);replace h:=f;obtain⟨v,E,a8,⟨x,q⟩,m,C,f⟩:=h.jz (d:=19) (Φ:=λv g=>v=.bool (decide ((9223372036854775807:Int)<c))/\g=w) rfl rfl rfl (by decide) λD g o=>gF rfl (by exact y) o;rw[x] at C;rw[q] at f;replace p:=(m.same 6 rfl).trans p;replace r:=(m.same 7 rfl).trans r;replace u:=(m.same 16 rfl).trans u;replace y:=(m.same 18 rfl).trans y;replace K:=(m.same 20 rfl).trans K;replace j:=j.trans (m.mh rfl);replace h:=f;obtain⟨H,f⟩:=h.jk.chk C;replace h:=f.seq.seq;replace h:=h.region (l:=[0]) rfl;obtain⟨v,E,Y,⟨x,q⟩,m,C,f⟩:=h.jz (d:=19) (Φ:=λv g=>v=.bool (decide ((c:Int)<n))/\g=w) rfl rfl rfl (by decide) λD g o=>gF (by exact y) (by exact u) o;rw[x] at C;rw[q] at f;replace p:=(m.same 6 rfl).trans p;replace r:=(m.same 7 rfl).trans r;replace u:=(m.same 16 rfl).trans u;replace K:=(m.same 20 rfl).trans K;replace j:=j.trans (m.mh rfl);replace h:=f;obtain⟨L,f⟩:=h.jk.chk C;replace h:=f.seq.block.loop;replace I:=eR I;replace J:=eR J;replace H:=eR H;replace L:=eR L;obtain⟨l,T2,hl,o,hR,G,f⟩:=At.awy (by omega) n 0 (by omega) h ((j.same 1 rfl).trans F) u K;exact⟨s,A,n,c,l,T2,V,I,J,⟨_,R⟩,⟨_,S⟩,F,by omega,H,hl,o,λi hi=>(by have:=hR i hi;rwa [lP] at this),λa e=>M a n c (by rw[F,e]),j.trans (G.mono aAi),(G.same 6 rfl).trans p,(G.same 7 rfl).trans r,f⟩
def At.names(h:At X T (.code arq::k) w):∃A n c C T',T.getD 2 undef=.slice A n c/\(∀a,A=some a->a.block<w.heap.size)/\(∀a,A=some a->Rgd X a.block)/\(n:Int)<=2147483647/\n<=c/\(c:Int)<=9223372036854775807/\C.size=2*n/\Tm cT T T'/\
  T'.getD 16 undef=.int .i64 n/\T'.getD 27 undef=.slice (some ⟨w.heap.size,0,none⟩) n n/\T'.getD 28 undef=.int .i64 (0:Nat)/\At X T' (.code (.block 53 (.loop mF)) :: .code ajb::k) (w.alloc (.cells C 151)):=by
 have j:=Tm.refl cT T;unfold arq at h;have h:=h.seq.seq;replace h:=h.region (l:=[0,1,2]) rfl;have G:=h.auQ (t:=2) rfl rfl rfl λe w M=>adX (faQ true).u31 M;have J:=h.ahq (t:=2) rfl rfl rfl λe w M=>adX (faQ true).u31 M;obtain⟨v,z,Q,⟨A,n,c,u,r,p⟩,m,i,b⟩:=h.jz (d:=16) (Φ:=λv f=>∃A n c,T.getD 2 undef=.slice A n c/\v=.int .i64 n/\f=w) rfl rfl rfl (by decide) λD f q=>let⟨v,Y,B,m,c,Z,R,S⟩:=ahn (faQ true).u31 q;⟨v,Y,B,m,c,Z,R,S⟩
 rw[r] at i;rw[p] at b;replace j:=j.trans (m.sw rfl);replace h:=b;obtain⟨v,z,O,⟨r,p⟩,m,o,b⟩:=h.jz (d:=18) (Φ:=λv f=>v=.int .i64 c/\f=w) rfl rfl rfl (by decide) λD f q=>alq (faQ true).u31 (by exact(j.same 2 rfl).trans u) q;rw[r] at o;rw[p] at b;replace i:=(m.same 16 rfl).trans i;replace j:=j.trans (m.sw rfl);replace h:=b;obtain⟨v,z,U,⟨r,p⟩,m,g,b⟩:=h.jz (d:=19) (Φ:=λv f=>v=.bool (decide ((2147483647:Int)<n))/\f=w) rfl rfl rfl (by decide) λD f q=>gF rfl (by exact i) q;rw[r] at g;rw[p] at b;replace i:=(m.same 16 rfl).trans i;replace o:=(m.same 18 rfl).trans o;replace j:=j.trans (m.sw rfl);replace h:=b;obtain⟨s,b⟩:=h.jk.chk g;replace h:=b.seq.seq;replace h:=h.region (l:=[0]) rfl;obtain⟨v,z,W,⟨r,p⟩,m,g,b⟩:=h.jz (d:=19) (Φ:=λv f=>v=.bool (decide ((9223372036854775807:Int)<c))/\f=w) rfl rfl rfl (by decide) λD f q=>gF rfl (by exact o) q;rw[r] at g;rw[p] at b;replace i:=(m.same 16 rfl).trans i;replace o:=(m.same 18 rfl).trans o;replace j:=j.trans (m.sw rfl);replace h:=b;obtain⟨y,b⟩:=h.jk.chk g;replace h:=b.seq.seq;replace h:=h.region (l:=[0]) rfl;obtain⟨v,z,H,⟨r,p⟩,m,g,b⟩:=h.jz (d:=19) (Φ:=λv f=>v=.bool (decide ((c:Int)<n))/\f=w) rfl rfl rfl (by decide) λD f q=>gF (by exact o) (by exact i) q;rw[r] at g;rw[p] at b;replace i:=(m.same 16 rfl).trans i;replace j:=j.trans (m.sw rfl);replace h:=b;obtain⟨E,b⟩:=h.jk.chk g;replace h:=b.seq;replace h:=h.region (l:=[0,1]) rfl;replace s:=eR s;replace y:=eR y;replace E:=eR E;obtain⟨C,L,K⟩:=anf (faQ true) (w:=w) (e:=(FQ cD H (.inRegion amI (0::[1]) :: .code (.seq (.block 53 (.loop mF)) ajb)::k)).eval) (x:=.tmp 16) (dst:=some 40) (ty:=138) (pos:= "") (af:=#[]) (gd:=none) s (by exact i);obtain⟨v,z,V,⟨r,p⟩,m,F,b⟩:=h.jz (d:=27) (Φ:=λv f=>v=.slice (some ⟨w.heap.size,0,none⟩) n n/\f=w.alloc (.cells C 151)) rfl rfl rfl (by decide) λD f q=>by have I:=K.symm.trans q;cases I;exact⟨_,rfl,rfl,rfl⟩
 rw[r] at F;rw[p] at b;replace i:=(m.same 16 rfl).trans i;replace j:=j.trans (m.sw rfl);replace h:=b;obtain⟨v,z,P,⟨r,p⟩,m,N,b⟩:=h.jz (d:=28) (Φ:=λv f=>v=.int .i64 (0:Nat)/\f=w.alloc (.cells C 151)) rfl rfl rfl (by decide) λD f q=>jy q;rw[r] at N;rw[p] at b;replace i:=(m.same 16 rfl).trans i;replace F:=(m.same 27 rfl).trans F;replace j:=j.trans (m.sw rfl);replace h:=b;exact⟨A,n,c,C,_,u,λa e=>G a n c (by rw[u,e]),λa e=>J a n c (by rw[u,e]),s,by omega,y,L,j,i,F,N,h.jk.seq⟩
end
section
variable {β:Bool} {R:List Frame->World->Prop} {c0 c:Cfg} {iH ρ:Ren} {w0 w w2:World} {l l2:List Frame}
def ars   :∃o a,step P (nE ⟨(kh P).finish v,[],.running,none,none⟩ w)=.ended o a:=by
 have h:∃o a b,stepG P true ⟨(kh P).finish v,[],.running,none,none⟩ w=.ended o a b:=by
  simp only[kh,Frame.finish,stepG,stepG.exec,acy];exact⟨_,_,_,rfl⟩
 obtain⟨o,a,b,h⟩:=h;exact⟨o,a,cE rfl h⟩
def art(g:iR (ai β) ρ c.l l)(E:pj c.l):(∃o a,step (ai β) (nE (Gl l [kh (ai β)]) w)=.ended o a)\/∃v a,step (ai β) (nE (Gl l [kh (ai β)]) w)=.next (nE ⟨(kh (ai β)).finish v,[],.running,none,none⟩ a):=by
 obtain⟨L,m,G,hd,K⟩:=E;obtain⟨x,M,y,O,N,k⟩:=g.ne';have H:=g.lone m k;subst H k;rw[m] at g;have z:=g.head;obtain⟨fn,s,e,D,B,u,t⟩:=y;obtain⟨C,F,J,j,b,p,A⟩:=z;dsimp only at C F J j b p A;obtain rfl:B=.returning:=by
  rcases b with b|b
  .rw[G] at b;cases b.1
  .exact b.2
 obtain rfl:D=[]:=by rw[hd] at j;cases j;rfl
 obtain rfl:u=.normal:=p.2;have i:∀{r:GStep},stepG (ai β) true (Gl [⟨fn,s,e,[],.returning,.normal,t⟩] [kh (ai β)]) w=r->(∃o a d,r=.ended o a d)\/(∃v a d,r=.go ⟨(kh (ai β)).finish v,[],.running,none,none⟩ a d):=by
  intro r n;subst n;simp only[Gl,stepG,unwind,qV];cases I:(ai β).funcs[fn]? with
  |none=>exact .inr ⟨_,_,_,rfl⟩
  |some f=>
   dsimp only;cases n:(results f s).runT (ai β) w #[] with
   |mk q d=>
    cases q with
    |ok v a=>exact .inr ⟨v,a,_,rfl⟩
    |halt q a=>cases q<;>exact .inl ⟨_,_,_,rfl⟩
 rcases i rfl with⟨o,a,d,h⟩|⟨v,a,d,h⟩
 .exact .inl ⟨o,a,cE rfl h⟩
 .exact .inr ⟨v,a,dM rfl h⟩
def ie.runs:∀(n:Nat) {c:Cfg} {ρ:Ren} {l:List Frame} {w:World},ie β R c0 iH w0 c ρ l w->runN (ai β) n (nE (Gl l [kh (ai β)]) w)=.next (nE (Gl l2 [kh (ai β)]) w2)->l2≠[]->∃i g,ie β R c0 iH w0 i g l2 w2
 |0,c,ρ,l,w,h,hr,hne=>by
  simp only[runN,qP] at hr;obtain⟨b,rfl⟩:=ib hr;obtain⟨_,_,y,m,_,a⟩:=h.st.ne';obtain rfl:=nH (by rw[a];simp) hne b;exact⟨c,ρ,h⟩
 |n+1,c,ρ,l,w,h,hr,hne=>by
  obtain⟨_,_,y,m,_,a⟩:=h.st.ne';have j:l≠[]:=by rw[a];simp
  unfold runN at hr;by_cases d:pj c.l
  .exfalso;rcases art (w:=w) h.st d with⟨o,f,e⟩|⟨v,f,e⟩
   .rw[e] at hr;cases hr
   .rw[e] at hr;cases n with
    |zero=>
     simp only[runN,qP] at hr;obtain⟨b, -⟩:=ib hr;cases l2 with
     |nil=>exact hne rfl
     |cons x t=>
      have:=jp Goroutine.callers b;simp[Gl] at this
    |succ n=>
     unfold runN at hr;obtain⟨o,s,p⟩:=ars (P:=ai β) (v:=v) (w:=f);simp only[p] at hr;cases hr
  .obtain⟨i,g,z,r,u,q, -, -,k, -⟩:=h.adg true d;rw[dM (ju j _) (k _)] at hr;exact ie.runs n q hr hne
def ie.calls{args:Array Value}(h:ie β R c0 iH w0 c ρ (Frame.enter (ai β) f args .normal::y::W) w)(t:Calls (ai β) f args w λe a=>∃v,e=.returned v/\Post v a) :
  ∃k o v i,ie β R c0 iH w0 k o (y.finish v::W) i/\Post v i:=by
 obtain⟨e,a,g,⟨v,rfl,A⟩,⟨n,E⟩,F,C⟩:=t (y::W++[kh (ai β)]);obtain⟨k,o,z⟩:=h.runs (l2:=g::y::W) (w2:=a) n E (by simp);have d:∀base,stepG (ai β) true (Gl (g::y::W) base) a=.go (Gl (y.finish v::W) base) a (seen (ai β) g.fn ((results ((ai β).funcs[g.fn]?.getD default) g.tmps).runT (ai β) a #[]).2):=λbase=>by
  obtain⟨p,hd,j,fn,l,m⟩:=C;obtain⟨I,r,s,K,J,H,G⟩:=g;dsimp only at p hd j l m;subst p hd j;have b:((results fn r).runT (ai β) a #[]).1=.ok v a:=by rw[rx];exact m
  simp only[Gl,stepG,unwind,l,qo,qM];cases x:(results fn r).runT (ai β) a #[] with
  |mk q L=>
   rw[x] at b;dsimp only at b;subst b;simp[doReturn,GStep.after]
 obtain⟨B,D,u, -, -⟩:=z.go rfl true d;exact⟨B,D,v,a,u,A⟩
end
end
section
open Go.Conc Go.ConcN Go.RowKit
abbrev iP:=Int×List (Int×ByteArray)
def eL(fv:Int->List iP->Int->ByteArray×Bool):Prop:=∀(b:Bool) (w:World) (a:Int) (A:Option Addr) (n c:Nat) (l:List iP) (nm:Int),1<=a->a<=99->l.length=n->n<=c->(c:Int)<=9223372036854775807->RdP w A 0 l->In_ nm->
 Calls (ai b) 89 #[.int .i64 a,.slice A n c,.int .i64 nm] w λe d=>∃v,e=.returned v/\(v=.agg #[.string (fv a l nm).1,.bool (fv a l nm).2]/\Below w.heap.size w d)
def ah2(w:World)(A:Option Addr)(i:Nat)(nm:Int):Prop:=∃a,A=some a/\w.cell? (a.add i)=some (.int .i64 nm)/\In_ nm
def ahp.below{x:Int×ByteArray}(h:ahp w B i x)(f:∀b,b<w.heap.size->w'.heap[b]?=w.heap[b]?):ahp w' B i x:=by
 obtain⟨⟨a,j,d,e⟩,g,l⟩:=h;have k:∀{A:Addr} {v:Value},w.cell? A=some v->w'.cell? A=some v:=λ{A v} c=>by
  rw[gu (f A.block (eK c))];exact c
 exact⟨⟨a,j,k d,k e⟩,g,l⟩
def RdP.below{A:Option Addr}{l:List iP}(h:RdP w A j l)(d:∀b,b<w.heap.size->w'.heap[b]?=w.heap[b]?):RdP w' A j l:=λi x o=>by
 obtain⟨⟨a,B,c,r,g,n,q,t,p,s⟩,f⟩:=h i x o;have k:∀{A:Addr} {v:Value},w.cell? A=some v->w'.cell? A=some v:=λ{A v} e=>by
  rw[gu (d A.block (eK e))];exact e
 exact⟨⟨a,B,c,r,k g,k n,q,t,p,λi y m=>(s i y m).below d⟩,f⟩
def rA(a:Addr)(n:Nat):(a.add n).block=a.block:=by unfold Addr.add;split<;>rfl
def jf(b o n:Nat):(⟨b,o,none⟩:Addr).add n=⟨b,o+n,none⟩:=by
 unfold Addr.add;by_cases h:n=0
 .subst h;simp
 .simp[h]
section
variable {X:Cx} {T:Array Value} {k:List Item} {w:World}
def At.call    {d:Tmp} {args:Array Value} (h:At X T (.inRegion Y (i::rest)::k) w) (n:Y[i]?=some o) (u:o.guard=none) (p:o.dst=some d) (j:d<45)
  (D:∀w,(execOp (FQ cD T (.inRegion Y (i::rest)::k)).eval o).runT (ai true) w #[]=(.ok (.enter f args) w,#[])) (q:Calls (ai true) f args w λe r=>∃v,e=.returned v/\Post v r) :
  ∃v g l,Post v g/\Tm [d] T l/\l.getD d undef=v/\At X l (.inRegion Y rest::k) g:=by
 obtain⟨b,c,H,h⟩:=h;have a:∀base,stepG (ai true) true (Gl (FQ cD T (.inRegion Y (i::rest)::k)::X.y::X.ys) base) w=.go (Gl (Frame.enter (ai true) f args .normal::FQ cD T (.inRegion Y (i::rest)::k)::X.y::X.ys) base) w (seen (ai true) cD #[]):=λbase=>by
  have z:∀y,Region.wanted o y=true:=λy=>by unfold Region.wanted;rw[u]
  have F:stepG (ai true) true (Gl (FQ cD T (.inRegion Y (i::rest)::k)::X.y::X.ys) base) w =
    stepG.apply (ai true) true (FQ cD T (.inRegion Y (i::rest)::k)) (X.y::X.ys++base) none (execOp (FQ cD T (.inRegion Y (i::rest)::k)).eval o) w:=by
   simp[Gl,stepG,stepG.exec,stepG.oper,Frame.oper?,n,z]
  rw[F];unfold stepG.apply;simp only[D,pu];simp[GStep.after,Gl]
 obtain⟨G,I,x, -, -⟩:=h.go rfl true a;obtain⟨A,E,v,g,m,C⟩:=x.calls q;have B:Frame.finish (FQ cD T (.inRegion Y (i::rest)::k)) v=FQ cD (T.setIfInBounds d v) (.inRegion Y rest::k):=by
  simp only[Frame.finish,n,qL,p]
 rw[B] at m;replace j:d<T.size:=bd j b;exact⟨v,g,_,C,.one (by simp) (λt s=>by rw[aH j,da s]),by rw[aH j,du rfl],by simpa using b,A,E,m⟩
end
end
section
variable {β:Bool}
open Go.RowKit
def ab9{a:Addr}(h:w.cell? a=some v):a.spot=none:=by
 unfold World.cell? at h;split at h
 .split at h
  .cases h
  .rename_i b;cases c:a.spot with
   |none=>rfl
   |some x=>rw[c] at b;exact absurd rfl b
 .cases h
def ItL(w:World)(A:Option Addr)(l:List (Int×ByteArray)):Prop:=∀i x,l[i]?=some x->∃b a,A=some ⟨b,a,none⟩/\b<w.heap.size/\w.cell? ⟨b,a+i*2,none⟩=some (.int .i64 x.1)/\w.cell? ⟨b,a+i*2+1,none⟩=some (.string x.2)/\cA x.1/\x.2.size<=maxLen
def ItL.of{A:Option Addr}{l:List (Int×ByteArray)}(h:RdI w A 0 l):ItL w A l:=λi x k=>by
 obtain⟨e,j⟩:∃e,l[0]?=some e:=aq (by have:=aB k;omega);obtain⟨⟨p,m,f, -⟩, -, -⟩:=h 0 e j;obtain⟨⟨a,rfl,d,c⟩,o,q⟩:=h i x k;obtain rfl:=dq m;rw[lP] at d c;obtain⟨b,g,n⟩:=a;obtain rfl:n=none:=by
  have:=ab9 f;unfold Addr.add at this;simpa using this
 rw[jf] at d c;rw[jf] at c;refine⟨b,g,rfl,eK d,d,c,o,by unfold maxLen;omega⟩
def ItL.below{A:Option Addr}{l:List (Int×ByteArray)}(h:ItL w A l)(d:Below w.heap.size w w'):ItL w' A l:=λi x g=>by
 obtain⟨b,a,k,c,f,j,m⟩:=h i x g;have e:=d.block b c;exact⟨b,a,k,bd c d.size,(qx e).trans f,(qx e).trans j,m⟩
def als(n m:Int)(s:ByteArray)(g:Nat)(w:World)(b:w.cell? ⟨g,0,none⟩=some (.int .i64 m)) :
  Calls (ai β) 136 #[.agg #[.int .i64 n,.string s],.pointer (some ⟨g,0,none⟩)] w λe c=>e=.returned (.bool (decide (n=m)))/\Below w.heap.size w c:=by
 have i:g≠w.heap.size:=λe=>by
  have:=eK b;simp only at this;omega
 have a:=au w (.cells #[.int .i64 n,.string s] 63);have d:(w.alloc (.cells #[.int .i64 n,.string s] 63)).cell? ⟨g,0,none⟩=some (.int .i64 m):=(qx (a.block g (eK b))).trans b;by_cases h:n=m
 .subst h;go_enter xg,ntmps136;go_wp2;go_ret;exact⟨aF (by simp),a⟩
 .have f:(n ==m)=false:=dk.2 h;go_enter xg,ntmps136;go_wp2;go_ret;exact⟨aF (by simp[h]),a⟩
def fG(nm:Int):List (Int×ByteArray)->Int
 |[]=> -1
 |x::l=>if x.1=nm then 0 else let j:=fG nm l;if j<0 then -1 else j+1
def aeX{nm:Int}:∀{l:List (Int×ByteArray)},(∀y∈l,y.1≠nm)->fG nm l=-1
 |[],_=>rfl
 |x::l,h=>by
  show(if x.1=nm then _ else _)=_;rw[da (h x (by simp)),aeX λy a=>h y (by simp[a])];rfl
def agf{nm:Int}{x:Int×ByteArray}:∀{l:List (Int×ByteArray)} {k:Nat},(∀y∈l.take k,y.1≠nm)->l[k]?=some x->x.1=nm->fG nm l=k
 |[],k,_,h,_=>by simp at h
 |y::l,0,_,h,hx=>by
  simp at h;subst h;show(if y.1=nm then _ else _)=_;rw[du hx];rfl
 |y::l,k+1,hn,h,hx=>by
  show(if y.1=nm then _ else _)=_;rw[da (hn y (by simp)),agf (l:=l) (k:=k) (λz a=>hn z (by simp[a])) (by simpa using h) hx];show(if((k:Nat):Int)<0 then _ else _)=_;rw[da (by omega)];omega
end
section
variable {β:Bool}
open Go.RowKit
def axV:aa3 (β:=β) 136:=adC xg (by kernel_rfl) rfl
def ahr(nm:Int)(l:List (Int×ByteArray))(A:Option Addr)(c g:Nat)(w:World)(D:ItL w A l)(F:l.length<=c)(H:c<=maxLen)(v:w.cell? ⟨g,0,none⟩=some (.int .i64 nm)) :
  Calls (ai β) 135 #[.slice A l.length c,.func (.func 136) #[] #[.pointer (some ⟨g,0,none⟩)]] w λe u=>e=.returned (.int .i64 (fG nm l))/\Below w.heap.size w u:=by
 unfold maxLen at H;have p:=eK v;go_enter yJ,ntmps135;go_wp2;go_loopw [8] (λi wr=>∃k:Nat,k<=l.length/\i=.int .i64 k/\(∀y∈l.take k,y.1≠nm)/\Below w.heap.size w wr) (λi _=>l.length-(intOf i).toNat)
 case atStart=>exact⟨0,fa _,rfl,by simp,fd _ _⟩
 case round=>
  obtain⟨k,J,rfl,m,n⟩:=hrel;replace m:=ab m;have t:wr.cell? ⟨g,0,none⟩=some (.int .i64 nm):=(qx (n.block g p)).trans v;by_cases o:k<l.length
  .obtain⟨x,j⟩:=aq o;obtain⟨b,C,rfl,I,z,E,G,B⟩:=(D.below n) k x j;replace j:=ab j;have K:=axV (β:=β) (#[.agg #[.int .i64 x.1,.string x.2]]++#[.pointer (some ⟨g,0,none⟩)]) wr;go_wp2;refine(als x.1 nm x.2 g wr t).mono ?_;rintro e u ⟨rfl,a⟩;replace a:=ag n a;by_cases h:x.1=nm
   .have d:fG nm l=k:=agf m.out j.out h;have q:=ab d;have s:decide (x.1=nm)=true:=dj h;rw[s];go_wp2;go_ret;exact⟨by rw[q.out];rfl,a⟩
   .have r:∀y∈l.take (k+1),y.1≠nm:=by
     intro y f;rw[lE j.out,oE] at f;rcases f with f|f
     .exact m.out y f
     .rw[ph.1 f];exact h
    replace r:=ab r;have s:decide (x.1=nm)=false:=bv h;rw[s];go_wp2;go_roundw
    case rel=>exact⟨k+1,by omega,by go_num,r.out,a⟩
    simp[intOf];omega
  .obtain rfl:k=l.length:=by omega
   have d:fG nm l=-1:=aeX (by have:=m.out;rwa [gE] at this);have q:=ab d;go_wp2;go_ret;exact⟨by rw[q.out];rfl,n⟩
end
section
variable {β:Bool}
open Go.RowKit
noncomputable def iz(key:Int)(l:List (Int×ByteArray))(nm:Int):ByteArray×Bool:=match l[(fG nm l).toNat]? with
 |some x=>if fG nm l<0 then(⟨#[]⟩,false) else gO key x
 |none=>(⟨#[]⟩,false)
def aca(nm:Int):∀l:List (Int×ByteArray),fG nm l=-1\/∃(k:Nat) (x:Int×ByteArray),fG nm l=k/\l[k]?=some x
 |[]=>.inl rfl
 |y::l=>by
  show(if y.1=nm then _ else _)=(-1:Int)\/∃(k:Nat) (x:Int×ByteArray),(if y.1=nm then _ else _:Int)=k/\_;by_cases h:y.1=nm
  .rw[du h];exact .inr ⟨0,y,rfl,rfl⟩
  .rw[da h];rcases aca nm l with a|⟨k,x,a,b⟩
   .rw[a];exact .inl rfl
   .rw[a];refine .inr ⟨k+1,x, ?_,by simpa using b⟩;show(if((k:Nat):Int)<0 then _ else _)=_;rw[da (by omega)];omega
def aoJ(key s nm:Int)(B:1<=key/\key<=99)(l:List (Int×ByteArray))(A:Option Addr)(c:Nat)(w:World)(E:ItL w A l)(o:l.length<=c)(t:c<=maxLen) :
  Calls (ai β) 115 #[.int .i64 key,.agg #[.int .i64 s,.slice A l.length c],.int .i64 nm] w λe v=>e=.returned (.tuple #[.string (iz key l nm).1,.bool (iz key l nm).2])/\Below w.heap.size w v:=by
 have HC:=ab t;unfold maxLen at t;go_enter yR,ntmps115;go_wp2;generalize f:(w.alloc (.cells #[.int .i64 s,.slice A l.length c] 54)).alloc (.cells #[.int .i64 nm] 3)=w0 at *;obtain⟨r,K,i,z,G,g,q,H⟩:=oK f;have d:=E.below r;refine(ahr nm l A c (w.heap.size+1) w0 d o HC.out (q 0)).mono ?_;rintro e u ⟨rfl,a⟩;have p:=d.below a;replace i:=ah i a;replace z:=i.cell;replace G:=i.frozen;replace g:=ah g a;replace q:=g.cell;replace H:=g.frozen;replace a:=ag r a;rcases aca nm l with h|⟨k,x,h,n⟩
 .have f:iz key l nm=(⟨#[]⟩,false):=by
   unfold iz;rw[h];split
   .rw[du (by omega)]
   .rfl
  have HG:=ab f;rw[h];go_wp2;go_ret2;rw[HG.out];exact⟨rfl,a⟩
 .have f:iz key l nm=gO key x:=by
   unfold iz;rw[h,show((k:Nat):Int).toNat=k from rfl,n];show(if((k:Nat):Int)<0 then _ else _)=_;rw[da (by omega)]
  have HG:=ab f;obtain⟨b,D,rfl,J,C,F,I,j⟩:=p k x n;have y:=aB n;have L:=bv (show ¬((k:Int)<0) by omega);rw[h];go_wp2;refine(auu key x B j u).mono ?_;rintro e M ⟨rfl,m⟩;replace a:=ag a m;go_wp2;go_ret2;rw[HG.out];exact⟨rfl,a⟩
end
section
variable {β:Bool}
open Go.RowKit
noncomputable def df(key:Int):List iP->Int->ByteArray×Bool
 |[],_=>(⟨#[]⟩,false)
 |p::l,nm=>if(iz key p.2 nm).2=true then((iz key p.2 nm).1,true) else df key l nm
def ahs{key nm:Int}:∀{l:List iP} {k:Nat},(∀p∈l.take k,(iz key p.2 nm).2=false)->df key l nm=df key (l.drop k) nm
 |[],k,_=>by simp
 |p::l,0,_=>rfl
 |p::l,k+1,h=>by
  show(if(iz key p.2 nm).2=true then _ else df key l nm)=_;rw[da (by rw[h p (by simp)];simp),List.drop_succ_cons];exact ahs λq a=>h q (by simp[a])
def PkL(w:World)(A:Option Addr)(l:List iP):Prop:=∀i x,l[i]?=some x->∃b a B c,A=some ⟨b,a,none⟩/\b<w.heap.size/\w.cell? ⟨b,a+i*2,none⟩=some (.int .i64 x.1)/\w.cell? ⟨b,a+i*2+1,none⟩=some (.slice B x.2.length c)/\x.2.length<=c/\c<=maxLen/\ItL w B x.2
def PkL.of{A:Option Addr}{l:List iP}(h:RdP w A 0 l):PkL w A l:=λi x m=>by
 obtain⟨f,k⟩:∃f,l[0]?=some f:=aq (by have:=aB m;omega);obtain⟨⟨s,r,u,n,g, -⟩, -⟩:=h 0 f k;obtain⟨⟨a,B,c,rfl,e,d, -,q,t,p⟩, -⟩:=h i x m;obtain rfl:=dq n;rw[lP] at e d;obtain⟨b,j,o⟩:=a;obtain rfl:o=none:=by
  have:=ab9 g;unfold Addr.add at this;simpa using this
 rw[jf] at e d;rw[jf] at d;exact⟨b,j,B,c,rfl,eK e,e,d,q,by unfold maxLen;omega,ItL.of p⟩
def PkL.below{A:Option Addr}{l:List iP}(h:PkL w A l)(d:Below w.heap.size w w'):PkL w' A l:=λi x j=>by
 obtain⟨b,a,B,c,n,f,g,m,p,k,o⟩:=h i x j;have e:=d.block b f;exact⟨b,a,B,c,n,bd f d.size,(qx e).trans g,(qx e).trans m,p,k,o.below d⟩
def ang(w:World)(key:Int)(A:Option Addr)(c:Nat)(l:List iP)(nm:Int)(T:1<=key)(O:key<=99)(X:l.length<=c)(hc:(c:Int)<=9223372036854775807)(W:PkL w A l)(a0:In_ nm) :
  Calls (ai β) 89 #[.int .i64 key,.slice A l.length c,.int .i64 nm] w λe P=>∃v,e=.returned v/\(v=.agg #[.string (df key l nm).1,.bool (df key l nm).2]/\Below w.heap.size w P):=by
 go_enter ze,ntmps89;go_wp2;generalize G:w.alloc (.cells #[.string ⟨#[]⟩,.bool false] 151)=w0 at *;obtain⟨M,iw,a,u,F⟩:=nh G;go_loopw [13] (λi wr=>∃k:Nat,k<=l.length/\i=.int .i64 k/\(∀p∈l.take k,(iz key p.2 nm).2=false)/\Below w0.heap.size w0 wr) (λi _=>l.length-(intOf i).toNat)
 case atStart=>exact⟨0,fa _,rfl,by simp,fd _ _⟩
 case round=>
  obtain⟨k,hk,rfl,f,r⟩:=hrel;replace f:=ab f;replace a:=ah a r;replace u:=a.cell;replace F:=a.frozen;have I:=(W.below M).below r;have d:=ag M r;by_cases j:k<l.length
  .obtain⟨p,o⟩:=aq j;obtain⟨b,V,B,L,rfl,a1,U,Y,J,s,z⟩:=I k p o;replace o:=ab o;go_wp2;generalize G:wr.alloc (.cells #[.int .i64 p.1,.slice B p.2.length L] 54)=w5 at *;obtain⟨g,Q,q0,S,N⟩:=nh G;replace a:=ah a g;replace u:=a.cell;replace F:=a.frozen;replace d:=ag d g;refine(aoJ key p.1 nm ⟨T,O⟩ p.2 B L w5 (z.below g) J s).mono ?_;rintro e R ⟨rfl,E⟩;replace a:=ah a E;replace u:=a.cell;replace F:=a.frozen;replace d:=ag d E;cases K:iz key p.2 nm with
   |mk t ok=>
    cases ok with
    |true=>
     have D:df key l nm=(t,true):=by
      rw[ahs (k:=k) f.out,rZ j];have Z:l[k]=p:=by have:=o.out;rw[jn j] at this;exact dq this
      rw[Z];show(if(iz key p.2 nm).2=true then _ else _)=_;rw[K];rfl
     have x:=ab D;go_wp2;have q:=(a.bc 0 (.string t)).bc 1 (.bool true);simp only[de,ff,gc] at q;have m:=q.cell;exact mx (v:=.agg #[.string t,.bool true]) (by simp[results,results89,go_sem,m]) rfl ⟨_,rfl,by rw[x.out],(d.setCell (by simp) _).setCell (by simp) _⟩
    |false=>
     have C:∀y∈l.take (k+1),(iz key y.2 nm).2=false:=by
      intro y n;rw[lE o.out,oE] at n;rcases n with n|n
      .exact f.out y n
      .rw[ph.1 n,K]
     replace C:=ab C;have H:Below w0.heap.size w0 R:=ag (ag r g) E;go_wp2;go_roundw
     case rel=>exact⟨k+1,by omega,by go_num,C.out,H⟩
     simp[intOf];omega
  .obtain rfl:k=l.length:=by omega
   have D:df key l nm=(⟨#[]⟩,false):=by
    rw[ahs (k:=l.length) f.out,uG];rfl
   have x:=ab D;go_wp2;have q:=(a.bc 0 (.string ⟨#[]⟩)).bc 1 (.bool false);simp only[de,ff,gc] at q;have m:=q.cell;exact mx (v:=.agg #[.string ⟨#[]⟩,.bool false]) (by simp[results,results89,go_sem,m]) rfl ⟨_,rfl,by rw[x.out],(d.setCell (by simp) _).setCell (by simp) _⟩
def xy:eL df:=λ_ w a A n c l nm g e j b i f d=>by
 subst j;exact ang w a A c l nm g e b i (PkL.of f) d
def xj(key nm:Int):df key [] nm=(⟨#[]⟩,false):=rfl
end
section
variable {β:Bool}
open Go.RowKit
section
variable {α:Type} {E:fW α} {T:List TypeId} {sz:Nat} {e:TypeId}
def Els(E:fW α)(sz:Nat)(w:World)(lo hi:Nat)(xs:List α)(cells:List Value):Prop:=
 cells.length=xs.length*sz/\(∀u∈cells,u.oneCell'=true)/\∃m:Nat->Nat,(∀i,m i<=m (i+1))/\lo<=m 0/\m xs.length<=hi/\
  ∀i x,xs[i]?=some x->∃a:List Value,a.length=sz/\E w (m i) (m (i+1)) x a/\∀j u,a[j]?=some u->cells[i*sz+j]?=some u
def dK{m:Nat->Nat}(h:∀i,m i<=m (i+1)){i:Nat}:∀{j:Nat},i<=j->m i<=m j
 |0,hj=>by obtain rfl:i=0:=by omega
           exact am _
 |j+1,hj=>by
  by_cases a:i=j+1
  .rw[a];exact am _
  .exact ap (dK h (show i<=j by omega)) (h j)
def Els.nil(h:Z<=hi):Els E sz w Z hi [] []:=⟨by simp,λ_ h=>(by cases h),λ_=>Z,λ_=>am _,am _,h,λi x h=>by simp at h⟩
def Els.le{xs:List α}(h:Els E sz w Z hi xs U):Z<=hi:=by
 obtain⟨_,_,m,b,a,c,_⟩:=h;exact ap a (ap (dK b (fa _)) c)
def Els.go(g:dI E T){eY hi' : Nat}{xs:List α}(h:Els E sz w Z hi xs U)(k:∀b,Z<=b->b<hi->Typed w T b->w'.heap[b]?=w.heap[b]?)(t:eY<=Z)(r:hi<=hi'):Els E sz w' eY hi' xs U:=by
 obtain⟨a,b,m,c,q,s,o⟩:=h;refine⟨a,b,m,c,by omega,by omega,λi x hi=> ?_⟩;obtain⟨j,l,f,n⟩:=o i x hi;have d:=aB hi;have v:=dK c (fa i);have y:=dK c (show i+1<=xs.length by omega);exact⟨j,l,g.go (λb p u e=>k b (by omega) (by omega) e) (am _) (am _) f,n⟩
def Els.snoc{xs:List α}(h:Els E sz w Z c xs U){y:α}{es:List Value}(p:es.length=sz)(B:∀u∈es,u.oneCell'=true)(I:c<=hi)(D:E w c hi y es)(H:∀a b,a<=c->E w c hi y es->E w a b y es->True:=λ_ _ _ _ _=>trivial):Lcy E->Els E sz w Z hi (xs++[y]) (U++es):=by
 intro k;obtain⟨a,b,m,q,r,s,G⟩:=h;refine⟨by rw[aE,aE,a,p,mu,Nat.add_mul,Nat.one_mul],λu e=> ?_,λi=>if i<=xs.length then m i else hi,λi=> ?_, ?_, ?_,λi x d=> ?_⟩
 .rcases oE.1 e with e|e
  .exact b u e
  .exact B u e
 .show(if i<=xs.length then m i else hi)<=(if i+1<=xs.length then m (i+1) else hi);by_cases o:i+1<=xs.length
  .rw[du o,du (by omega)];exact q i
  .rw[da o];by_cases l:i<=xs.length
   .rw[du l];have:=dK q l;omega
   .rw[da l];exact am _
 .show Z<=(if 0<=xs.length then m 0 else hi);rw[du (fa _)];exact r
 .show(if(xs++[y]).length<=xs.length then _ else hi)<=hi;rw[da (by rw[aE,mu];omega)];exact am _
 .rcases pm i xs.length with g|C
  .rw[qv g] at d;obtain⟨n,A,z,F⟩:=G i x d;refine⟨n,A, ?_,λj u e=> ?_⟩
   .show E w (if i<=xs.length then m i else hi) (if i+1<=xs.length then m (i+1) else hi) x n;rw[du (by omega),du (by omega)];exact z
   .have J:=aB e;have v:(i+1)*sz<=xs.length*sz:=qO _ g;rw[ry] at v;rw[qv (by omega)];exact F j u e
  .rw[ql C] at d;have t:i-xs.length=0:=by have:=aB d;simp at this;omega
   rw[t] at d;simp at d;subst d;have f:i=xs.length:=by omega
   refine⟨es,p, ?_,λj u e=> ?_⟩
   .show E w (if i<=xs.length then m i else hi) (if i+1<=xs.length then m (i+1) else hi) y es;rw[du (by omega),da (by omega),f];exact k.wide D s (am _)
   .rw[f,ql (by omega),a,rQ];exact e
def Els.at_(L:dI E T){xs:List α}(h:Els E sz w Z hi xs U){x:α}(v:xs[i]?=some x) :
  ∃m l g,Z<=m/\m<=l/\l<=hi/\g.length=sz/\E w m l x g/\(∀j u,g[j]?=some u->U[i*sz+j]?=some u)/\
   ∀(n:World) (y:α) (d:List Value),d.length=sz->(∀u∈d,u.oneCell'=true)->(∀b,Z<=b->b<hi->Typed w T b->¬(m<=b/\b<l)->n.heap[b]?=w.heap[b]?)->E n m l y d->
    ∀c:List Value,c.length=U.length->(∀k,¬(i*sz<=k/\k<i*sz+sz)->c[k]?=U[k]?)->(∀j u,d[j]?=some u->c[i*sz+j]?=some u)->(∀u∈c,u.oneCell'=true)->Els E sz n Z hi (xs.set i y) c:=by
 obtain⟨a,b,m,e,B,C,A⟩:=h;have p:=aB v;obtain⟨g,Q,K,R⟩:=A i x v;have l1:=dK e (fa i);have l2:=dK e (show i+1<=xs.length by omega);refine⟨m i,m (i+1),g,by omega,e i,by omega,Q,K,R,λn y d M X O N c H r q s=>⟨by rw[H,a,qW],s,m,e,B,by rw[qW];exact C,λk z f=> ?_⟩⟩;by_cases o:i=k
 .subst o;rw[rz p] at f;cases f;exact⟨d,M,N,q⟩
 .rw[rM o] at f;obtain⟨G,J,I,P⟩:=A k z f;have D:=aB f;have S:=dK e (fa k);have k2:=dK e (show k+1<=xs.length by omega);refine⟨G,J,L.go (λb V Y F=>O b (by omega) (by omega) F λW=> ?_) (am _) (am _) I,λj u t=> ?_⟩
  .rcases Nat.lt_or_gt_of_ne o with h|h
   .have:=dK e (show i+1<=k by omega);omega
   .have:=dK e (show k+1<=i by omega);omega
  .rw[r _ (by
    have hj:=aB t;rcases Nat.lt_or_gt_of_ne o with h|h
    .have:(i+1)*sz<=k*sz:=qO _ h;rw[ry] at this;omega
    .have:(k+1)*sz<=i*sz:=qO _ h;rw[ry] at this;omega)]
   exact P j u t
def aP(e:TypeId)(E:fW α)(sz:Nat):fW (List α):=λw b c a d=>
 ∃(v:Value) (cells:List Value),d=[v]/\w.ownsRow b e sz v a.length cells/\(∀g,v.ownBlock=some g->g<c)/\Els E sz w b c a cells
def aP.form{xs:List α}(h:aP e E sz w Z hi xs [v]):∃A c,v=.slice A xs.length c:=by
 obtain⟨b,cells,a,h,_⟩:=h;cases a;exact gT h
def aP.nil(h:Z<=hi):aP e E sz w Z hi [] [.slice none 0 0]:=⟨_,[],rfl,ut _ _ _ _,λ_ h=>(by cases h),Els.nil h⟩
def aP.ar(o:dI E T):dI (aP e E sz) (e::T):=by
 refine⟨?_⟩;intro w x B z u s y A k n j h;obtain⟨v,cells,rfl,i,l,f⟩:=h;refine⟨v,cells,rfl,⟨i.1, ?_⟩,λg a=>bd (l g a) j,f.go o (λb p q ⟨t,ht,hd⟩=>k b p q ⟨t,rb _ ht,hd⟩) n j⟩;rcases i.2 with r|⟨g,cap,c,rfl,m,a,d⟩
 .exact .inl r
 .refine .inr ⟨g,cap,c,rfl,ap n m, ?_,d⟩;rw[k g m (l g rfl) ⟨e,qB,c,a⟩];exact a
def aP.sl{k:fW α}(d:Lcy k)(H:∀{w:World} {Z hi:Nat} {x:α} {b:List Value},E w Z hi x b->k w Z hi x b){xs:List α}(h:aP e E sz w Z hi xs cs):bC k sz w Z hi xs cs:=by
 obtain⟨v,cells,rfl,y,t,a,_,m,o,J,K,I⟩:=h;obtain⟨_,q⟩:=y;rcases q with⟨rfl,r⟩|⟨g,cap,l,rfl,s,B,n,f,D,A⟩
 .exact⟨none,0,by rw[r],by omega,by unfold maxLen;omega,λL=>by omega⟩
 .refine⟨_,cap,rfl,n,f,λ_=>⟨g,0,rfl,s,t g rfl,λi x hi=> ?_⟩⟩;obtain⟨b,F,z,G⟩:=I i x hi;have p:=aB hi;have M:=dK o (fa i);have N:=dK o (show i+1<=xs.length by omega);refine⟨b,F,d.wide (H z) (by omega) (by omega),λj u C=> ?_⟩;have c:=G j u C;rw[<-A,qD] at c;split at c
  .rw[cell_of_row w g (0+i*sz+j) l _ (0,0) B,lP];simpa using c
  .cases c
def aP.slT{f:fW α}(a:Lcy f)(o:∀{w:World} {Z hi:Nat} {x:α} {i:List Value},E w Z hi x i->f w Z hi x i){xs:List α}(h:aP e E sz w Z hi xs cs):eI e f sz w Z hi xs cs:=by
 refine⟨h.sl a o,λq b l n c j=> ?_⟩;obtain⟨v,cells,rfl,p,r,_⟩:=h;simp only[qi,qw] at j;subst j;rcases p.2 with⟨d,_⟩|⟨g,cap,k,d,_,m,_⟩
 .cases d
 .cases d;exact⟨_,m⟩
def aP.some_{xs:List α}(h:aP e E sz w Z hi xs [v])(k:0<xs.length):∃g c,v=.slice (some ⟨g,0,none⟩) xs.length c/\Z<=g/\g<hi/\g<w.heap.size/\∃j,aX w g e j:=by
 obtain⟨l,cells,i,h,f,_⟩:=h;cases i;rcases h.2 with⟨_,m⟩|⟨g,cap,a,rfl,d,b,_⟩
 .omega
 .exact⟨g,cap,rfl,d,f g rfl,(show aX w g e a from b).lt,a,b⟩
def aP.frozen{xs:List α}(h:aP e E sz w Z hi xs [.slice (some ⟨g,0,none⟩) n c])(j:Nat):w.frozen? ⟨g,j,none⟩=false:=by
 obtain⟨d,cells,a,h,i,_⟩:=h;cases a;obtain⟨A,f,b⟩:=gT h;cases b;exact h.frozenAt j
def aP.at_(P:dI E T)(B:e∉T){xs:List α}(h:aP e E sz w Z hi xs [.slice (some ⟨g,0,none⟩) n c]){x:α}(I:xs[i]?=some x) :
  ∃m a f,Z<=m/\m<=a/\a<=hi/\f.length=sz/\E w m a x f/\(∀j u,f[j]?=some u->w.cell? ⟨g,i*sz+j,none⟩=some u)/\
   ∀(k:World) (y:α),aZ (λb=>m<=b/\b<a/\Typed w T b) w k->E k m a y f->aP e E sz k Z hi (xs.set i y) [.slice (some ⟨g,0,none⟩) n c]:=by
 obtain⟨V,cells,q,o,K,d⟩:=h;cases q;obtain⟨A,W,C⟩:=gT o;cases C;have r:=aB I;obtain⟨m,a,f,R,S,N,q,C,F,z⟩:=d.at_ P I;refine⟨m,a,f,R,S,N,q,C,λj u p=> ?_,λk y G Q=> ?_⟩
 .have J:=aB p;have l:(i+1)*sz<=xs.length*sz:=qO _ r;rw[ry] at l;rw[o.cellAt _ (by omega)];exact F j u p
 .have D:¬(m<=g/\g<a/\Typed w T g):=λ⟨_,_,t,s,M,hd⟩=>by
   rcases o.2 with⟨v,_⟩|⟨X,cap,O,v,_,L,_⟩
   .cases v
   .cases v;exact B (cL L hd▸s)
  refine⟨_,cells,rfl, ?_,K,z k y f q (λu p=> ?_) (λb U Y s l=> ?_) Q cells rfl (λ_ _=>rfl) F d.2.1⟩
  .rw[qW];exact adT o G λb l=>by cases l;exact D
  .obtain⟨j,J⟩:=sd p;exact d.2.1 u (db (F j u J))
  .obtain⟨t,_,M,hd⟩:=id s;exact G.block b hd.lt λH=>l ⟨H.1,H.2.1⟩
def aP.put(Q:dI E T)(K:e∉T){xs:List α}(h:aP e E sz w Z hi xs [.slice (some ⟨g,0,none⟩) n c]){x y:α}(M:xs[i]?=some x)(hj:j<sz)(U:u.oneCell'=true)(W:∀(N:World) (Z hi:Nat) (s:List Value),E N Z hi x s->E N Z hi y (s.set j u)) :
  aP e E sz (w.setCell ⟨g,i*sz+j,none⟩ u) Z hi (xs.set i y) [.slice (some ⟨g,0,none⟩) n c]:=by
 obtain⟨v',cells,D,C,V,o⟩:=h;cases D;obtain⟨A,c',B⟩:=gT C;cases B;have F:=aB M;have I:=(C.stored (i*sz+j) u).1;obtain⟨m,m',s,l1,l2,l3,D,B,X,J⟩:=o.at_ Q M;have H:¬Typed w T g:=λ⟨t,l,ds,hd⟩=>by
  rcases C.2 with⟨G,_⟩|⟨Y,cap,S,G,_,O,_⟩
  .cases G
  .cases G;exact K (cL O hd▸l)
 have P:∀b,Typed w T b->(w.setCell ⟨g,i*sz+j,none⟩ u).heap[b]?=w.heap[b]?:=λb l=>io _ _ _ _ (by rintro rfl;exact H l);have d:∀v∈cells.set (i*sz+j) u,v.oneCell'=true:=λv p=>by
  rcases th p with p|rfl
  .exact o.2.1 v p
  .exact U
 have q:∀f z,(s.set j u)[f]?=some z->(cells.set (i*sz+j) u)[i*sz+f]?=some z:=λf z a=>by
  by_cases r:j=f
  .subst r;rw[rz (by omega)] at a;rw[rz (by
    have R:(i+1)*sz<=xs.length*sz:=qO _ F;rw[ry] at R;rw[o.1];omega)]
   exact a
  .rw[rM r] at a;rw[rM (by omega)];exact X f z a
 refine⟨_,cells.set (i*sz+j) u,rfl,by rw[qW];exact I,V,J _ y (s.set j u) (by rw[qW];exact D) (λv p=> ?_) (λb b1 b2 l _=>P b l) (W _ _ _ _ (Q.go (λb _ _ l=>P b l) (am _) (am _) B)) _ (by rw[qW]) (λk O=> ?_) q d⟩
 .obtain⟨f,L⟩:=sd p;exact d v (db (q f v L))
 .rw[rM (by omega)]
end
def aL.aap{F:Flat V}{base : Nat}{xs:List V}(h:aL F e w base v xs)(b:∀x∈xs,F.good x)(c:base<=hi)(a:∀g,v.ownBlock=some g->g<hi):aP e (bU F) F.sz w base hi xs [v]:=
 ⟨v,eb F xs,rfl,h,a,et F xs,acI F xs,λ_=>base,λ_=>am _,am _,c,λi x hi=>⟨F.cells x,F.len x,⟨rfl,b x (db hi)⟩,λ_ _ d=>eu F xs i _ x _ hi d⟩⟩
def aP.flat{F:Flat V}{xs:List V}(h:aP e (bU F) F.sz w Z hi xs [v]):aL F e w Z v xs/\(∀x∈xs,F.good x)/\Z<=hi/\∀g,v.ownBlock=some g->g<hi:=by
 obtain⟨A,cells,y,j,q,a⟩:=h;cases y;have d:=a.le;obtain⟨D,C,m,E,z,B,o⟩:=a;have p:∀x∈xs,F.good x:=λx b=>by
  obtain⟨i,hi⟩:=sd b;obtain⟨u,_,t,_⟩:=o i x hi;exact t.2
 refine⟨?_,p,d,q⟩;have:cells=eb F xs:=by
  apply tL;intro k;rcases pm k (xs.length*F.sz) with c|c
  .have hi:k / F.sz<xs.length:=wl (by rw[tO];exact c);have b:=jn hi;obtain⟨u,r,⟨rfl,_⟩,s⟩:=o _ _ b;have n:k % F.sz<(F.cells xs[k / F.sz]).length:=by rw[F.len];exact tT _ F.pos
   have l:=s (k % F.sz) _ (jn n);have f:=eu F xs (k / F.sz) (k % F.sz) _ _ b (jn n);rw[vN] at l f;rw[l,f]
  .rw[rm (by omega),rm (by rw[et];exact c)]
 rw[this] at j;exact j
end
section
variable {β:Bool}
open Go.RowKit
structure Ls where
 p:ByteArray
 ns:List Int
structure Sn where
 no:Int
 all:List Ls
structure Hd where
 b:Int
 s:Int
structure dH where
 pk:List Pk
 sn:List Sn
 lg:List Hd
def oL:Flat Hd:=⟨2,λx=>[.int .i64 x.b,.int .i64 x.s],λx=>cA x.b/\cA x.s,λ_=>rfl,λx u a=>by simp at a;rcases a with rfl|rfl<;>rfl,by decide⟩
abbrev jg:fW (List It):=bC (bU mL) 2
def aoK:fW Pk:=λw a b x c=>∃v,c=[.int .i64 x.no,v]/\cA x.no/\jg w a b x.its [v]
abbrev iI:fW (List Pk):=bC aoK 2
def aoL:fW Ls:=λw a b x c=>∃v,c=[.string x.p,v]/\x.p.size<=maxLen/\bC aam 1 w a b x.ns [v]
abbrev fY:fW (List Ls):=bC aoL 2
def aoM:fW Sn:=λw a b x c=>∃v,c=[.int .i64 x.no,v]/\cA x.no/\fY w a b x.all [v]
abbrev gV:fW (List Sn):=bC aoM 2
abbrev cx:fW (List Hd):=bC (bU oL) 2
def jg.loc:Lcy jg:=bC.loc (bU.loc mL)
def aoK.loc:Lcy aoK:=⟨λh a b ⟨v,e,i,hr⟩=>⟨v,e,i,jg.loc.go h a b hr⟩⟩
def iI.loc:Lcy iI:=bC.loc aoK.loc
def nV.loc:Lcy (bC aam 1):=bC.loc aam.loc
def aoL.loc:Lcy aoL:=⟨λh a b ⟨v,e,i,hr⟩=>⟨v,e,i,nV.loc.go h a b hr⟩⟩
def fY.loc:Lcy fY:=bC.loc aoL.loc
def aoM.loc:Lcy aoM:=⟨λh a b ⟨v,e,i,hr⟩=>⟨v,e,i,fY.loc.go h a b hr⟩⟩
def gV.loc:Lcy gV:=bC.loc aoM.loc
def cx.loc:Lcy cx:=bC.loc (bU.loc oL)
def bC.aAk{E g:fW V}(t:∀{w:World} {c hi:Nat} {x:V} {a:List Value},E w c hi x a->g w c hi x a){xs:List V}(h:bC E Z w c hi xs cs):bC g Z w c hi xs cs:=by
 obtain⟨A,c,f,l,q,p⟩:=h;refine⟨A,c,f,l,q,λo=> ?_⟩;obtain⟨b,e,m,k,j,d⟩:=p o;refine⟨b,e,m,k,j,λi x hi=> ?_⟩;obtain⟨a,r,n,s⟩:=d i x hi;exact⟨a,r,t n,s⟩
abbrev abc:fW (List It):=aP 63 (bU mL) 2
def kI:fW Pk:=λw a b x c=>∃v,c=[.int .i64 x.no,v]/\cA x.no/\abc w a b x.its [v]
abbrev bF:fW (List Pk):=aP 54 kI 2
abbrev iJ:fW (List Int):=aP 3 (bU ni) 1
def abc.ar:dI abc [63]:=aP.ar (bU.ar mL)
def kI.ar:dI kI [63]:=⟨λh a b ⟨v,e,i,hr⟩=>⟨v,e,i,abc.ar.go h a b hr⟩⟩
def bF.ar:dI bF [54,63]:=aP.ar kI.ar
def iJ.ar:dI iJ [3]:=aP.ar (bU.ar ni)
def abc.l{x:List It}(h:abc w Z hi x cs):jg w Z hi x cs:=aP.sl (bU.loc mL) (λh=>h) h
def abc.t{x:List It}(h:abc w Z hi x cs):acK w Z hi x cs:=aP.slT (bU.loc mL) (λh=>h) h
def kI.l{x:Pk}(h:kI w Z hi x cs):aoK w Z hi x cs:=by
 obtain⟨v,e,i,a⟩:=h;exact⟨v,e,i,abc.l a⟩
def kI.t{x:Pk}(h:kI w Z hi x cs):RPk w Z hi x cs:=by
 obtain⟨v,e,i,a⟩:=h;exact⟨v,e,i,abc.t a⟩
def bF.l{x:List Pk}(h:bF w Z hi x cs):iI w Z hi x cs:=aP.sl aoK.loc kI.l h
def bF.t{x:List Pk}(h:bF w Z hi x cs):aov w Z hi x cs:=aP.slT RPk.ar.loc kI.t h
def iJ.l{x:List Int}(h:iJ w Z hi x cs):bC aam 1 w Z hi x cs:=aP.sl aam.loc (λh=>h) h
def OLs:fW Ls:=λw a b x c=>∃v,c=[.string x.p,v]/\x.p.size<=maxLen/\iJ w a b x.ns [v]
abbrev fH:fW (List Ls):=aP 95 OLs 2
def lY:fW Sn:=λw a b x c=>∃v,c=[.int .i64 x.no,v]/\cA x.no/\fH w a b x.all [v]
abbrev bV:fW (List Sn):=aP 58 lY 2
abbrev dD:fW (List Hd):=aP 65 (bU oL) 2
def OLs.ar:dI OLs [3]:=⟨λh a b ⟨v,e,i,hr⟩=>⟨v,e,i,iJ.ar.go h a b hr⟩⟩
def fH.ar:dI fH [95,3]:=aP.ar OLs.ar
def lY.ar:dI lY [95,3]:=⟨λh a b ⟨v,e,i,hr⟩=>⟨v,e,i,fH.ar.go h a b hr⟩⟩
def bV.ar:dI bV [58,95,3]:=aP.ar lY.ar
def dD.ar:dI dD [65]:=aP.ar (bU.ar oL)
def OLs.l{x:Ls}(h:OLs w Z hi x cs):aoL w Z hi x cs:=by
 obtain⟨v,e,i,a⟩:=h;exact⟨v,e,i,iJ.l a⟩
def fH.l{x:List Ls}(h:fH w Z hi x cs):fY w Z hi x cs:=aP.sl aoL.loc OLs.l h
def lY.l{x:Sn}(h:lY w Z hi x cs):aoM w Z hi x cs:=by
 obtain⟨v,e,i,a⟩:=h;exact⟨v,e,i,fH.l a⟩
def bV.l{x:List Sn}(h:bV w Z hi x cs):gV w Z hi x cs:=aP.sl aoM.loc lY.l h
def dD.l{x:List Hd}(h:dD w Z hi x cs):cx w Z hi x cs:=aP.sl (bU.loc oL) (λh=>h) h
def eh{α:Type}(f:α->Nat)(l:List α):Nat:=l.length+(l.map f).sum
def jA{a:Type}{f:a->Nat}:∀{l:List a} {x:a},x∈l->f x<=eh f l
 |[],_,h=>by cases h
 |y::l,x,h=>by
  have e:eh f (y::l)=eh f l+1+f y:=by unfold eh;simp only[fi,sE,List.sum_cons];omega
  rcases pa.1 h with rfl|h
  .omega
  .have:=jA (f:=f) h;omega
def dQ{f:V->Nat}{l:List V}:l.length<=eh f l:=by unfold eh;omega
def bIt(x:It):Nat:=x.b.size
def bPk(x:Pk):Nat:=eh bIt x.its
def bLs(x:Ls):Nat:=x.p.size+x.ns.length
def bSn(x:Sn):Nat:=eh bLs x.all
def acb{c:Type}:∀(l:List c) (j:Nat) (a b:c),(l.set j a).set j b=l.set j b
 |[],_,_,_=>rfl
 |_::_,0,_,_=>rfl
 |x::l,j+1,a,b=>by show x::(l.set j a).set j b=x::l.set j b;rw[acb l j a b]
def lG{S:Nat->Prop}(h:aZ S w w'){T U:List TypeId}(d:∀t∈T,t∈U){b : Nat}(j:b<hi)(i:hi<=w.heap.size)(c:S b->Typed w U b)(f:Typed w' T b):Typed w U b:=by
 by_cases a:S b
 .exact c a
 .obtain⟨t,e,g,hd⟩:=f;exact⟨t,d t e,g,(h.block b (by omega) a).symm.trans hd⟩
end
section
variable {β:Bool}
open Go.RowKit
structure Nd where
 p:ByteArray
 b:ByteArray
def np:Flat Nd:=⟨2,λx=>[.string x.p,.string x.b],λx=>x.p.size<=maxLen/\x.b.size<=maxLen,λ_=>rfl,λx u a=>by simp at a;rcases a with rfl|rfl<;>rfl,by decide⟩
abbrev fM:fW (List Nd):=eI 106 (bU np) 2
def fM.ar:dI fM [106]:=eI.ar (bU.ar np)
def nW:ir (ai β) 38 106 2 32:=ir.mk' yV (z:=.agg #[.string ⟨#[]⟩,.string ⟨#[]⟩]) (by kernel_rfl) rfl (by decide) (by decide)
def aht(x:Nd):Prop:=jl x.p=true/\dN x.b=true
def oB:∀{a b c:List UInt8},Op.bytesLess a b=true->Op.bytesLess b c=true->Op.bytesLess a c=true
 |_,[],_,h,_=>by simp[Op.bytesLess] at h
 |_,_::_,[],_,h=>by simp[Op.bytesLess] at h
 |[],_::_,_::_,_,_=>by simp[Op.bytesLess]
 |x::a,y::b,z::c,e,d=>by
  simp only[Op.bytesLess,rc,qY,ga,nf,rX,<-uN] at e d ⊢;rcases e with e|⟨e,g⟩
  .rcases d with d|⟨d,f⟩
   .exact .inl (by omega)
   .exact .inl (by omega)
  .rcases d with d|⟨d,f⟩
   .exact .inl (by omega)
   .exact .inr ⟨by omega,oB g f⟩
def arw(t:List Nd)(i:Nat)(x:Nd):Prop:=aht x/\(∀y,0<i->t[i-1]?=some y->Op.bytesLess y.p.toList x.p.toList=true)/\∀k y,k<i->t[k]?=some y->mJ y.p x.p=false
def arx(t:List Nd):Prop:=t.length<=6/\∀i x,t[i]?=some x->arw t i x
def anh{t:List Nd}(h:∀i x,t[i]?=some x->∀y,0<i->t[i-1]?=some y->Op.bytesLess y.p.toList x.p.toList=true):∀(d k:Nat) {x y:Nd},t[k+d+1]?=some x->t[k]?=some y->Op.bytesLess y.p.toList x.p.toList=true
 |0,k,x,y,hx,hy=>h (k+1) x hx y (by omega) hy
 |d+1,k,x,y,hx,hy=>by
  obtain⟨z,a⟩:∃z,t[k+d+1]?=some z:=aq (by have:=aB hx;omega);exact oB (anh h d k a hy) (h (k+(d+1)+1) x hx z (by omega) a)
def lH(xs:List Nd):Prop:=(∀x∈xs,aht x)/\xs.length<=6/\xs.Pairwise λa b=>Op.bytesLess a.p.toList b.p.toList=true/\mJ a.p b.p=false
def lH.nil:lH []:=⟨λy a=>(by cases a),fa _,.nil⟩
def lH.one{x:Nd}(h:aht x):lH [x]:=⟨λy a=>by rw[ph.1 a];exact h,by simp,um _ _⟩
def lH.sub{xs ys:List Nd}(h:lH xs)(a:ys.Sublist xs):lH ys:=⟨λy b=>h.1 y (a.mem b),ap a.length_le h.2.1,h.2.2.sublist a⟩
def ary{t:List Nd}:arx t↔lH t:=by
 unfold lH arx;rw[vJ];constructor
 .rintro⟨g,h⟩;refine⟨λx a=> ?_,g,λi j b m d=>⟨?_, ?_⟩⟩
  .obtain⟨i,b⟩:=sd a;exact(h i x b).1
  .exact anh (λi x a=>(h i x a).2.1) (j-i-1) i (by rw[show i+(j-i-1)+1=j by omega];exact jn m) (jn b)
  .exact(h j t[j] (jn m)).2.2 i t[i] d (jn b)
 .rintro⟨p,n,l⟩;refine⟨n,λi x a=>⟨p x (db a),λy g c=> ?_,λk y o c=> ?_⟩⟩
  .obtain⟨e,rfl⟩:=qu.1 a;obtain⟨f,rfl⟩:=qu.1 c;exact(l (i-1) i f e (by omega)).1
  .obtain⟨e,rfl⟩:=qu.1 a;obtain⟨f,rfl⟩:=qu.1 c;exact(l k i f e o).2
def lI{xs:List Nd}{A:Option Addr}(h:fM w Z hi xs [.slice A n c]){k:Nat}{x:Nd}(i:xs[k]?=some x) :
  ∃b a,A=some ⟨b,a,none⟩/\Z<=b/\b<hi/\np.good x/\w.cell? ⟨b,a+k*2,none⟩=some (.string x.p)/\w.cell? ⟨b,a+k*2+1,none⟩=some (.string x.b):=by
 obtain⟨b,a,l,e,j,f,_,⟨rfl,g⟩,d⟩:=h.1.at_ i;exact⟨b,a,e,j,f,g,by simpa using d 0 _ rfl,by simpa using d 1 _ rfl⟩
def aoN(xs:List Nd)(v:Value)(w:World)(lo hi:Nat)(h:fM w lo hi xs [v])(Z:hi<=w.heap.size)(q:Bool)(g:q=true↔arx xs) :
  Calls (ai β) 57 #[v] w λe w'=>e=.returned (.bool q)/\Below w.heap.size w w':=by
 have M:=ab g;clear g;obtain⟨A,c,rfl⟩:=h.form;obtain⟨_,hc,Y⟩:=h.1.len_;unfold maxLen at Y;go_enter zH,ntmps57;go_wp2;go_loopw [3] (λii wr=>∃k:Nat,k<=xs.length/\ii=.int .i64 k/\(∀i x,i<k->xs[i]?=some x->arw xs i x)/\Below w.heap.size w wr) (λii _=>xs.length-(intOf ii).toNat)
 case atStart=>exact⟨0,fa _,rfl,λi x hi=>absurd hi (sS i),fd _ _⟩
 case round=>
  obtain⟨k,hk,rfl,V,F⟩:=hrel;replace V:=ab V;by_cases p:k<xs.length
  .obtain⟨x,C⟩:=aq p;obtain⟨b0,a7,rfl,_,a6,u,D,Q⟩:=lI (fM.ar.below h F Z) C;replace C:=ab C;cases a:jl x.p
   .replace a:=ab a;have f:q=false:=by
     rw[<-mT,M.out];rintro⟨-,h⟩;have h:=h k x C.out;have h:=h.1.1;rw[a.out] at h;cases h
    have r:=ab f;clear f;go_wp2;have n:=ae D;have o:=ae Q;refine aQ (by kernel_rfl) (by kernel_rfl) ?_;repeat(go_big_quiet_step (first|(go_at_call 63;refine dP (v:=.bool false) ?_;rw[<-a.out];exact jv x.p u.1 _)))
    refine ip ?_;intro N d;have g:=bG d;clear d n o;go_wp2;go_ret;exact⟨aF r.out.symm,ag F g⟩
   .replace a:=ab a;cases b:dN x.b
    .replace b:=ab b;have f:q=false:=by
      rw[<-mT,M.out];rintro⟨-,h⟩;have h:=h k x C.out;have h:=h.1.2;rw[b.out] at h;cases h
     have r:=ab f;clear f;go_wp2;have n:=ae D;have o:=ae Q;refine aQ (by kernel_rfl) (by kernel_rfl) ?_;repeat(go_big_quiet_step (first|(go_at_call 63;refine dP (v:=.bool true) ?_;rw[<-a.out];exact jv x.p u.1 _)|(go_at_call 64;refine dP (v:=.bool false) ?_;rw[<-b.out];exact lA x.b u.2 _)))
     refine ip ?_;intro N d;have g:=bG d;clear d n o;go_wp2;go_ret;exact⟨aF r.out.symm,ag F g⟩
    .replace b:=ab b;by_cases a4:k=0
     case' pos=>
      have X:=bv (show ¬(0<k) by omega);have U:aht x/\∀y,0<k->xs[k-1]?=some y->Op.bytesLess y.p.toList x.p.toList=true:=⟨⟨a.out,b.out⟩,λy h0=>by omega⟩;have lv:=ab U;clear U;clear a4;go_wp2;have n:=ae D;have o:=ae Q;refine aQ (by kernel_rfl) (by kernel_rfl) ?_;repeat(go_big_quiet_step (first|(go_at_call 63;refine dP (v:=.bool true) ?_;rw[<-a.out];exact jv x.p u.1 _)|(go_at_call 64;refine dP (v:=.bool true) ?_;rw[<-b.out];exact lA x.b u.2 _)))
      refine ip ?_;intro N d;have g:=bG d;clear d n o
     case' neg=>
      obtain⟨k',oP⟩:∃m,m=k-1:=⟨_,rfl⟩;have e1:(k:Int)-1=((k':Nat):Int):=by omega
      have a2:k'<xs.length:=by omega
      have X:=dj (show 0<k by omega);obtain⟨z,s⟩:=aq a2;obtain⟨b1,S,E,_,_,a8,O,_⟩:=lI (fM.ar.below h F Z) s;simp only[me,qA,qw] at E;obtain⟨rfl,rfl⟩:=E;replace s:=ab s;have R:=ab oP;have a1:0<k:=by omega
      clear oP;cases K:Op.bytesLess z.p.toList x.p.toList
      .have L:=ab K;have f:q=false:=by
        rw[<-mT,M.out];rintro⟨-,h⟩;have h:=h k x C.out;have h:=h.2.1 z a1 (by rw[<-R.out];exact s.out);rw[L.out] at h;cases h
       have r:=ab f;clear f;go_wp2;have n:=ae D;have o:=ae Q;have bB:=ae O;refine aQ (by kernel_rfl) (by kernel_rfl) ?_;repeat(go_big_quiet_step (first|(go_at_call 63;refine dP (v:=.bool true) ?_;rw[<-a.out];exact jv x.p u.1 _)|(go_at_call 64;refine dP (v:=.bool true) ?_;rw[<-b.out];exact lA x.b u.2 _)))
       refine ip ?_;intro N d;have g:=bG d;clear d n o bB;go_wp2;go_ret;exact⟨aF r.out.symm,ag F g⟩
      have L:=ab K;have U:aht x/\∀y,0<k->xs[k-1]?=some y->Op.bytesLess y.p.toList x.p.toList=true:=⟨⟨a.out,b.out⟩,λy h0 hy=>by
       rw[<-R.out,s.out] at hy;cases hy;exact L.out⟩
      have lv:=ab U;clear U;go_wp2;have n:=ae D;have o:=ae Q;have bB:=ae O;refine aQ (by kernel_rfl) (by kernel_rfl) ?_;repeat(go_big_quiet_step (first|(go_at_call 63;refine dP (v:=.bool true) ?_;rw[<-a.out];exact jv x.p u.1 _)|(go_at_call 64;refine dP (v:=.bool true) ?_;rw[<-b.out];exact lA x.b u.2 _)))
      refine ip ?_;intro N d;have g:=bG d;clear d n o bB;clear O K e1
     all_goals
      have W:=ag F g;clear D Q X;go_wp2;go_loopw [4] (λjj wr=>∃j:Nat,j<=k/\jj=.int .i64 j/\(∀i y,i<j->xs[i]?=some y->mJ y.p x.p=false)/\Below w.heap.size w wr) (λjj _=>k-(intOf jj).toNat)
      case atStart=>exact⟨0,fa _,rfl,λi y hi=>absurd hi (sS i),W⟩
      case round=>
       clear W g;obtain⟨j,hj,rfl,B,t⟩:=hrel;replace B:=ab B;by_cases T:j<k
       .obtain⟨y,P⟩:=aq (l:=xs) (k:=j) (by omega);obtain⟨b1,S,E,_,_,a5,O,_⟩:=lI (fM.ar.below h t Z) P;simp only[me,qA,qw] at E;obtain⟨rfl,rfl⟩:=E;obtain⟨b1,S,E,_,_,_,D,_⟩:=lI (fM.ar.below h t Z) C.out;simp only[me,qA,qw] at E;obtain⟨rfl,rfl⟩:=E;have a3:0<y.p.size:=by
         have:=lz (V.out j y T P).1.1;omega
        have a0:0<x.p.size:=by have:=lz lv.out.1.1;omega
        have HC:=ab (λw':World=>ag8 (β:=β) y.p x.p ⟨a3,a5.1⟩ ⟨a0,u.1⟩ w');replace P:=ab P;cases G:mJ y.p x.p
        .replace G:=ab G;have H:∀i z,i<j+1->xs[i]?=some z->mJ z.p x.p=false:=λi z hi I=>by
          rcases pm i j with p|oI
          .exact B.out i z p I
          .obtain rfl:i=j:=by omega
           rw[P.out] at I;cases I;exact G.out
         replace H:=ab H;go_wp2;have n:=ae O;have o:=ae D;refine aQ (by kernel_rfl) (by kernel_rfl) ?_;repeat(go_big_quiet_step (first|(go_at_call 75;refine dO (v:=.bool false) ?_;rw[<-G.out];exact HC.out _)))
         refine ip ?_;intro N d;have g:=bG d;clear d n o;go_wp2;go_roundw
         case rel=>exact⟨j+1,by omega,by go_num,H.out,ag t g⟩
         simp[intOf];omega
        .replace G:=ab G;have f:q=false:=by
          rw[<-mT,M.out];rintro⟨-,h⟩;have h:=h k x C.out;have h:=h.2.2 j y T P.out;rw[G.out] at h;cases h
         have r:=ab f;clear f;go_wp2;have n:=ae O;have o:=ae D;refine aQ (by kernel_rfl) (by kernel_rfl) ?_;repeat(go_big_quiet_step (first|(go_at_call 75;refine dO (v:=.bool true) ?_;rw[<-G.out];exact HC.out _)))
         refine ip ?_;intro N d;have g:=bG d;clear d n o;go_wp2;go_ret;exact⟨aF r.out.symm,ag t g⟩
       .obtain rfl:j=k:=by omega
        have J:∀i z,i<j+1->xs[i]?=some z->arw xs i z:=λi z hi I=>by
         rcases pm i j with p|oI
         .exact V.out i z p I
         .obtain rfl:i=j:=by omega
          rw[C.out] at I;cases I;exact⟨lv.out.1,lv.out.2,B.out⟩
        replace J:=ab J;go_wp2;go_roundw
        case rel=>exact⟨j+1,by omega,by go_num,J.out,t⟩
        simp[intOf];omega
  .obtain rfl:k=xs.length:=by omega
   by_cases h6:xs.length<=6
   .have X:=dj (show(xs.length:Int)<=6 by omega);have f:q=true:=M.out.2 ⟨h6,λi x Y=>V.out i x (aB Y) Y⟩;have r:=ab f;clear f;go_wp2;go_ret;exact⟨aF r.out.symm,F⟩
   .have X:=bv (show ¬((xs.length:Int)<=6) by omega);have f:q=false:=by
     rw[<-mT,M.out];rintro⟨h, -⟩;exact h6 h
    have r:=ab f;clear f;go_wp2;go_ret;exact⟨aF r.out.symm,F⟩
open Classical in
def abd(xs:List Nd)(v:Value)(w:World)(b hi:Nat)(h:fM w b hi xs [v])(c:hi<=w.heap.size) :
  Calls (ai β) 57 #[v] w λe a=>ag7 (lH xs) e/\Below w.heap.size w a:=
 (aoN xs v w b hi h c (decide (lH xs)) (by rw[decide_eq_true_iff,ary])).mono λe a ⟨he,hb⟩=>⟨he▸ag7.of λh=>sZ h,hb⟩
end
section
variable {β:Bool}
open Go.RowKit
def lZ(x:It):List It->List It
 |[]=>[x]
 |y::l=>if x.n<y.n then x::y::l else y::lZ x l
def agh{x:It}:∀{a:List It},(∀y∈a,¬x.n<y.n)->lZ x a=a++[x]
 |[],_=>rfl
 |y::a,h=>by
  show(if x.n<y.n then _ else _)=_;rw[da (h y (by simp)),agh λz b=>h z (by simp[b])];rfl
def ajd{x z:It}:∀{a:List It},(∀y∈a,¬x.n<y.n)->x.n<z.n->lZ x (a++[z])=a++[x]++[z]
 |[],_,b=>by show(if x.n<z.n then _ else _)=_;rw[du b];rfl
 |y::a,h,b=>by
  show(if x.n<y.n then _ else _)=_;rw[da (h y (by simp))];show y::lZ x (a++[z])=_;rw[ajd (λz b=>h z (by simp[b])) b];rfl
def aje{x z:It}:∀{a:List It},(∃y∈a,x.n<y.n)->lZ x (a++[z])=lZ x a++[z]
 |[],h=>by obtain⟨y,b,_⟩:=h;cases b
 |y::a,h=>by
  show(if x.n<y.n then _ else _)=(if x.n<y.n then _ else _)++_;by_cases b:x.n<y.n
  .rw[du b,du b];rfl
  .rw[da b,da b];show y::lZ x (a++[z])=y::(lZ x a++[z]);rw[aje];obtain⟨u,d,c⟩:=h;rcases pa.1 d with rfl|d
   .exact absurd c b
   .exact⟨u,d,c⟩
def aeY(x:It):∀l:List It,(lZ x l).length=l.length+1
 |[]=>rfl
 |y::l=>by
  show(if x.n<y.n then _ else _:List It).length=_;split
  .rfl
  .show(lZ x l).length+1=_;rw[aeY x l];rfl
def ajf{x z:It}:∀{l:List It},z∈lZ x l↔z=x\/z∈l
 |[]=>by show z∈[x]↔_;simp
 |y::l=>by
  show z∈(if x.n<y.n then _ else _)↔_;split
  .simp
  .rw[pa,ajf,pa];constructor
   .rintro(h|h|h)<;>simp[h]
   .rintro(h|h|h)<;>simp[h]
def acd(x:It)(a:List It)(b:Bool)(o:List It):Prop:=(b=false/\o=a/\∀y∈a,¬x.n<y.n)\/(b=true/\o=lZ x a/\∃y∈a,x.n<y.n)
def aoO{a o:List It}{b:Bool}(h:acd x a b o):o.length<=a.length+1:=by
 rcases h with⟨_,rfl,_⟩|⟨_,rfl,_⟩
 .omega
 .rw[aeY];exact am _
def aoP{a o:List It}(h:acd x a false o)(b:x.n<z.n):acd x (a++[z]) true (o++[x]++[z]):=by
 rcases h with⟨_,rfl,h⟩|⟨h,_⟩
 .exact .inr ⟨rfl,(ajd h b).symm,z,by simp,b⟩
 .cases h
def arA{a o:List It}(h:acd x a false o)(c:¬x.n<z.n):acd x (a++[z]) false (o++[z]):=by
 rcases h with⟨_,rfl,h⟩|⟨h,_⟩
 .exact .inl ⟨rfl,rfl,λy b=>by
   rcases oE.1 b with b|b
   .exact h y b
   .rw[ph.1 b];exact c⟩
 .cases h
def alu{a o:List It}(h:acd x a true o):acd x (a++[z]) true (o++[z]):=by
 rcases h with⟨h,_⟩|⟨_,rfl,y,b,c⟩
 .cases h
 .exact .inr ⟨rfl,(aje ⟨y,b,c⟩).symm,y,by simp[b],c⟩
def aoQ{a o:List It}{b:Bool}(h:acd x a b o):(b=false/\lZ x a=o++[x])\/(b=true/\lZ x a=o):=by
 rcases h with⟨c,rfl,h⟩|⟨c,rfl,_⟩
 .exact .inl ⟨c,agh h⟩
 .exact .inr ⟨c,rfl⟩
def aAl(w:World)(ys:List It)(e:Ending)(w':World):Prop:=∃v,e=.returned v/\aL mL 63 w' w.heap.size v ys/\Below w.heap.size w w'
def aoR(x:It)(Y:mL.good x)(xs:List It)(v:Value)(w:World)(U hi:Nat)(aR:hi<=w.heap.size)(h:acK w U hi xs [v])(hl:xs.length<=1000000) :
  Calls (ai β) 82 #[v,.agg #[.int .i64 x.n,.string x.b]] w (aAl w (lZ x xs)):=by
 obtain⟨A,c,rfl⟩:=h.form;obtain⟨_,hc,hx⟩:=h.len_;unfold maxLen at hx;go_enter zh,ntmps82;go_wp2;generalize hG:(w.alloc (.cells #[.int .i64 x.n,.string x.b] 63)).alloc (.cells #[] 63)=w0 at *;obtain⟨C,iw,k0,cN,dS,J,T,dx⟩:=oK hG;have B:w.heap.size+1<=w0.heap.size:=by omega
 have g0:=acK.ar.below h C aR;have o0:aL mL 63 w0 (w.heap.size+1) (.slice (some ⟨w.heap.size+1,0,none⟩) 0 0) []:=aL.aiJ ⟨_,rfl,am _,J⟩;go_loopw [5,6,7] (λoo pp S wr=>∃(k:Nat) (b:Bool) (o:List It),k<=xs.length/\pp=.bool b/\S=.int .i64 k/\aL mL 63 wr (w.heap.size+1) oo o/\acd x (xs.take k) b o/\aZ (λb=>w.heap.size+1<=b) w0 wr) (λ_ _ S _=>xs.length-(intOf S).toNat)
 case atStart=>exact⟨0,false,[],fa _,rfl,rfl,o0,.inl ⟨rfl,rfl,λy hy=>(by cases hy)⟩,aZ.refl _ _⟩
 case round=>
  obtain⟨k,b,o,hk,rfl,rfl,s,f,g⟩:=hrel;replace f:=ab f;obtain⟨r,t,rfl⟩:=s.form;have P:=aoO f.out;rw[eg] at P;have g1:acK wr U hi xs [.slice A xs.length c]:=acK.ar.eZ g0 g λb _ h2 _ h3=>by omega
  have J:=aO k0 g (by omega);have T:=J.cell;have dx:=J.frozen;by_cases N:k<xs.length
  .obtain⟨z,m⟩:=aq N;obtain⟨b1,a2,rfl,a5,a3,a0,Z,cb⟩:=awn g1 m;replace m:=ab m;have M:=ab (lE m.out);cases b with
   |true=>
    have D:=ab (alu (z:=z) f.out);go_wp2
    go_quiet (fail)
    have j:aL mL 63 (wr.drewN nq) (w.heap.size+1) (.slice r o.length t) o:=s;go_wp2_with(at_builtin;refine cF (F:=mL) (v:=.slice r o.length t) rfl (.tmp 31) (.tmp 36) 52 rfl nO z rfl j rfl rfl (by first|omega|(simp only[aE,fi,mc];omega)) (ap B (g.drewN nq).size) ?_;intro O u d n q;obtain⟨E,G,rfl⟩:=d.form;simp only[aE,fi,mc,lP] at d;skip);have a:aZ (λb=>w.heap.size+1<=b) w0 u:=(g.drewN nq).trans n λb I e=>(j.at_ e).1;go_roundw
    case rel=>exact⟨k+1,true,o++[z],by omega,rfl,by go_num,d,by rw[M.out];exact D.out,a⟩
    simp[intOf];omega
   |false=>
    by_cases l:x.n<z.n
    .have t1:decide (x.n<z.n)=true:=dj l;have D:=ab (aoP f.out l);go_wp2
     go_quiet (fail)
     have j:aL mL 63 (wr.drewN nq) (w.heap.size+1) (.slice r o.length t) o:=s;have fq:∀i,(wr.drewN nq).cell? ⟨w.heap.size,i,none⟩=_:=T;go_wp2_with(first|(at_builtin;refine cF (F:=mL) (v:=.slice r o.length t) rfl (.tmp 27) (.tmp 29) 52 rfl nO x rfl j rfl rfl (by first|omega|(simp only[aE,fi,mc];omega)) (ap B (g.drewN nq).size) ?_;intro O u d n q;obtain⟨E,G,rfl⟩:=d.form;simp only[aE,fi,mc,lP] at d;have a:aZ (λb=>w.heap.size+1<=b) w0 u:=(g.drewN nq).trans n λb I e=>(j.at_ e).1;have a1:=jc (w:=wr.drewN nq) Z n (λH=>by have:=(j.at_ H).1;dsimp only at this;omega);have a4:=jc (w:=wr.drewN nq) cb n (λH=>by have:=(j.at_ H).1;dsimp only at this;omega))|(at_builtin;refine cF (F:=mL) (v:=.slice E (o.length+1) G) rfl (.tmp 31) (.tmp 36) 52 rfl nO z rfl d rfl rfl (by first|omega|(simp only[aE,fi,mc];omega)) (ap B a.size) ?_;intro v4 W R K X;obtain⟨A4,c4,rfl⟩:=R.form;simp only[aE,fi,mc,lP] at R;have Q:aZ (λb=>w.heap.size+1<=b) w0 W:=a.trans K λb I e=>(d.at_ e).1));go_roundw
     case rel=>exact⟨k+1,true,o++[x]++[z],by omega,rfl,by go_num,R,by rw[M.out];exact D.out,Q⟩
     simp[intOf];omega
    .have t1:decide (x.n<z.n)=false:=bv l;have D:=ab (arA f.out l);go_wp2
     go_quiet (fail)
     have j:aL mL 63 (wr.drewN nq) (w.heap.size+1) (.slice r o.length t) o:=s;go_wp2_with(at_builtin;refine cF (F:=mL) (v:=.slice r o.length t) rfl (.tmp 31) (.tmp 36) 52 rfl nO z rfl j rfl rfl (by first|omega|(simp only[aE,fi,mc];omega)) (ap B (g.drewN nq).size) ?_;intro O u d n q;obtain⟨E,G,rfl⟩:=d.form;simp only[aE,fi,mc,lP] at d;skip);have a:aZ (λb=>w.heap.size+1<=b) w0 u:=(g.drewN nq).trans n λb I e=>(j.at_ e).1;go_roundw
     case rel=>exact⟨k+1,false,o++[z],by omega,rfl,by go_num,d,by rw[M.out];exact D.out,a⟩
     simp[intOf];omega
  .obtain rfl:k=xs.length:=by omega
   have p:=aoQ f.out;rw[gE] at p;have V:=ab p;have lT:Below w.heap.size w wr:=C.trans (g.below C.size λi hi H=>by omega);cases b with
   |true=>
    have L:lZ x xs=o:=by
     rcases V.out with⟨h,_⟩|⟨_,h⟩
     .cases h
     .exact h
    rw[L];go_wp2;go_ret;exact⟨_,rfl,s.base (by omega),lT⟩
   |false=>
    have L:lZ x xs=o++[x]:=by
     rcases V.out with⟨_,h⟩|⟨h,_⟩
     .exact h
     .cases h
    rw[L];go_wp2_with(at_builtin;refine cF (F:=mL) (v:=.slice r o.length t) rfl (.tmp 40) (.tmp 42) 52 rfl nO x rfl s rfl rfl (by first|omega|(simp only[aE,fi,mc];omega)) (ap B g.size) ?_;intro O u d n q;obtain⟨E,G,rfl⟩:=d.form;simp only[aE,fi,mc,lP] at d;skip);have a:aZ (λb=>w.heap.size+1<=b) w0 u:=g.trans n λb I e=>(s.at_ e).1;go_ret;exact⟨.slice E (o.length+1) G,rfl,by have:=d.base (base':=w.heap.size) (by omega);simpa using this,C.trans (a.below C.size λi hi H=>by omega)⟩
def lJ(key:Int)(s:ByteArray):It:=⟨cY key (bs s),rK (gC (bs s))⟩
def gW(key:Int)(l:List ByteArray):List It:=l.foldl (λa s=>lZ (lJ key s) a) []
def abe(key:Int)(l:List ByteArray)(s:ByteArray):gW key (l++[s])=lZ (lJ key s) (gW key l):=by
 unfold gW;rw[tc];rfl
def aai(key:Int)(l:List ByteArray):(gW key l).length=l.length:=by
 induction l using aaa with
 |h0=>rfl
 |h1 l s a=>rw[abe,aeY,a,aE];rfl
def acP{key:Int}{l:List ByteArray}:x∈gW key l↔∃s∈l,x=lJ key s:=by
 induction l using aaa with
 |h0=>simp[gW]
 |h1 l s b=>
  rw[abe,ajf,b];constructor
  .rintro(h|⟨t,a,h⟩)
   .exact⟨s,by simp,h⟩
   .exact⟨t,by simp[a],h⟩
  .rintro⟨t,a,h⟩;rcases oE.1 a with a|a
   .exact .inr ⟨t,a,h⟩
   .rw[ph.1 a] at h;exact .inl h
def adj(key:Int){s:ByteArray}(a:bD (bs s)):mL.good (lJ key s):=by
 have b:=pz (key:=key) (l:=bs s);show cA (cY key (bs s))/\(rK (gC (bs s))).size<=maxLen;refine⟨by unfold cA;omega, ?_⟩;rw[<-aN,agZ,aiz a];have:=(aab (n:=(bs s).length)).1;unfold maxLen;omega
def aeZ{key:Int}{l:List ByteArray}(h:∀s∈l,bD (bs s)):∀x∈gW key l,mL.good x:=λx b=>by
 obtain⟨s,a,rfl⟩:=acP.1 b;exact adj key (h s a)
def aAm(no:Int)(w:World)(ys:List It)(e:Ending)(w':World):Prop:=∃v,e=.returned (.agg #[.int .i64 no,v])/\aL mL 63 w' w.heap.size v ys/\Below w.heap.size w w'
def alv(u key:Int)(hk:1<=key/\key<=99)(xs:List ByteArray)(F:∀s∈xs,bD (bs s))(hl:xs.length<=100)(v:Value)(w:World)(lo hi:Nat)(aR:hi<=w.heap.size)(h:dA w lo hi xs [v]) :
  Calls (ai β) 61 #[.int .i64 u,.int .i64 key,v] w (aAm u w (gW key xs)):=by
 replace F:=ab F;obtain⟨A,c,rfl⟩:=h.form;go_enter zD,ntmps61;go_wp2;generalize hG:((w.alloc (.cells #[.int .i64 0,.slice none 0 0] 54)).alloc (.cells #[] 63)).alloc (.cells #[.int .i64 u,.slice (some ⟨w.heap.size+1,0,none⟩) 0 0] 54)=w0 at *;obtain⟨aG,iw,f,cN,dS,k1,bZ,dx,b,r,iK⟩:=adA hG;have o0:aL mL 63 w0 (w.heap.size+1) (.slice (some ⟨w.heap.size+1,0,none⟩) 0 0) []:=aL.aiJ ⟨_,rfl,am _,k1⟩;go_loopw [8] (λY wr=>∃(k:Nat) (Q:Value),k<=xs.length/\Y=.int .i64 k/\aL mL 63 wr (w.heap.size+1) Q (gW key (xs.take k))/\aX wr w.heap.size 54 #[.int .i64 0,.slice none 0 0]/\aX wr (w.heap.size+1+1) 54 #[.int .i64 u,Q]/\Below w.heap.size w wr) (λY _=>xs.length-(intOf Y).toNat)
 case atStart=>exact⟨0,_,fa _,rfl,o0,f,b,aG⟩
 case round=>
  obtain⟨k,Q,a1,rfl,i,f,b,d⟩:=hrel;obtain⟨K,R,rfl⟩:=i.form;have h1:=dA.ar.below h d aR;have cN:=f.cell;have dS:=f.frozen;have r:=b.cell;have iK:=b.frozen;have o:Hid (∀x∈gW key (xs.take k),mL.good x):=ab (aeZ λs hs=>F.out s (pr hs));have C:(gW key (xs.take k)).length<=100:=by rw[aai,eg];omega
  by_cases S:k<xs.length
  .obtain⟨s,l⟩:=aq S;obtain⟨b1,a3,rfl,_,_,M,m⟩:=lD h1 l;have D:=F.out s (db l);have n:gW key (xs.take (k+1))=lZ (lJ key s) (gW key (xs.take k)):=by rw[lE l,abe]
   have HST:=ab n;have N:=ab (adj key D);have T:=ab (λw=>aaY (β:=β) key s hk D w);have W:=ab (λw=>aoh (β:=β) s M w);have U:lJ key s=⟨cY key (bs s),rK (gC (bs s))⟩:=rfl;have a2:=ab U;have O:=ab (agZ s);have I:=i.deep o.out (w.heap.size+1) |>.sl (am _)
   have G:wr.cell? ⟨w.heap.size+1+1,1,none⟩=some (.slice K (gW key (xs.take k)).length R):=r 1;have z:=ab (λg hg=>i.at_ (g:=g) hg);have a0:w.heap.size+1+1<wr.heap.size:=b.lt;revert HST;revert C;revert G;revert I;revert o;revert z;revert i;revert r;revert b;generalize gW key (xs.take k)=L;intro b r i z o I G C HST;go_wp2;have aI:=ae G;have aJ:=ae m;refine aD 15 [0,1,2,3,4,5,6,8,9,10,11] [7,12,13,14] (h:= ?_);simp only[pick,List.map,gn,gt];repeat(go_big_quiet_step (fail))
   refine ip ?_;apply Exists.intro;apply dW (.int .i64 (cY key (bs s)))
   .intro y j H a;replace a:=ab a;go_wp2;refine(T.out y.to).mono ?_;rintro e Z ⟨rfl,rfl⟩;go_wp2;exact a.out _ (fd _ _)
   apply dW (.string (rK (gC (bs s))))
   .intro y j H a;replace a:=ab a;go_wp2;refine(W.out y.to).mono ?_;rintro e Z ⟨⟨t,rfl,ht⟩,rfl⟩;have P:t=rK (gC (bs s)):=px (ht.trans O.out.symm);subst P;go_wp2;exact a.out _ (fd _ _)
   apply dW (.agg #[.int .i64 (cY key (bs s)),.string (rK (gC (bs s)))])
   .intro y j H a;replace a:=ab a;go_wp2;exact a.out _ (fd _ _)
   apply bu (λv w'=>aL mL 63 w' wr.heap.size v (lZ (lJ key s) L))
   .rfl
   .exact λv x y h X=>h.below X
   .intro y j H a;replace a:=ab a;have r1:=acK.ar.below I y.ok (am _);go_wp2;refine(aoR (lJ key s) N.out L _ y.to _ _ y.ok.size r1 (by omega)).mono ?_;rintro e Z ⟨vy,rfl,oy,J⟩;go_wp2;exact a.out _ _ J (oy.base y.ok.size)
   intro a4;refine aS ?_;intro w2 q xx dh j;dsimp only[dV] at j;try rw[dh] at j
   obtain⟨A5,c5,rfl⟩:=j.1.form;have o5:=j.1;simp only[List.drop];replace f:=ah f q;replace cN:=f.cell;replace dS:=f.frozen;replace b:=ah b q;replace r:=b.cell;replace iK:=b.frozen;replace d:=ag d q;go_wp2;have B:=b.bc 1 (.slice A5 (lZ (lJ key s) L).length c5);simp only[de,ff,gc] at B;go_roundw
   case rel=>exact⟨k+1,_,by omega,by go_num,by rw[HST.out];exact(o5.bc _ (by dsimp only;omega)).base (by omega),bW f _ (by dsimp only;omega),B,d.setCell (by dsimp only;omega) _⟩
   simp[intOf];omega
  .obtain rfl:k=xs.length:=by omega
   rw[gE] at i r b;obtain⟨L,E⟩:∃L,L=gW key xs:=⟨_,rfl⟩;rw[<-E] at i r b ⊢;replace E:=ab E;go_wp2;have k4:=(f.bc 0 (.int .i64 u)).bc 1 (.slice K L.length R);simp only[de,ff,gc] at k4;have V:=k4.cell;exact mx (v:=.agg #[.int .i64 u,.slice K L.length R]) (by simp[results,results61,go_sem,V]) rfl ⟨_,rfl,by rw[<-E.out];exact aL.base (base:=w.heap.size+1) ((i.bc (p:=⟨w.heap.size,0,none⟩) _ (by dsimp only;omega)).bc (p:=⟨w.heap.size,1,none⟩) _ (by dsimp only;omega)) (by omega),(d.setCell (by simp) _).setCell (by simp) _⟩
end
section
variable {β:Bool}
open Go.RowKit
def ani(p:List Nd->Prop)(w:World)(e:Ending)(w':World):Prop:=∃v a,e=.returned v/\aL np 106 w' w.heap.size v a/\p a/\Below w.heap.size w w'
def ajg(xs:List Nd)(s:ByteArray)(v:Value)(w:World)(E hi:Nat)(h:fM w E hi xs [v])(B:hi<=w.heap.size)(O:xs.length<=1000) :
  Calls (ai β) 33 #[v,.string s] w (ani (λys=>ys.Sublist xs) w):=by
 obtain⟨A,c,rfl⟩:=h.form;go_enter zQ,ntmps33;go_wp2;have l:=au w (.cells #[] 106);have j:aL np 106 (w.alloc (.cells #[] 106)) w.heap.size (.slice (some ⟨w.heap.size,0,none⟩) 0 0) []:=(eD.new w 106 (am _)).own 2;generalize w.alloc (.cells #[] 106)=w0 at *;go_loopw [5,6] (λy p wr=>∃(k:Nat) (ys:List Nd),k<=xs.length/\p=.int .i64 k/\aL np 106 wr w.heap.size y ys/\ys.Sublist (xs.take k)/\Below w.heap.size w wr) (λ_ p _=>xs.length-(intOf p).toNat)
 case atStart=>exact⟨0,[],fa _,rfl,j,List.Sublist.refl _,l⟩
 case round=>
  obtain⟨k,ys,J,rfl,e,f,d⟩:=hrel;obtain⟨D,u,rfl⟩:=e.form;have r:ys.length<=k:=by have:=f.length_le;rw[eg] at this;omega
  by_cases g:k<xs.length
  .obtain⟨x,m⟩:=aq g;obtain⟨H,t,rfl,_,C,I,Q,N⟩:=lI (fM.ar.below h d B) m;have a:(ys++[x]).Sublist (xs.take (k+1)):=by rw[lE m];exact f.append (List.Sublist.refl _)
   have b:ys.Sublist (xs.take (k+1)):=by rw[lE m];exact f.trans (List.sublist_append_left _ _)
   replace a:=ab a;replace b:=ab b;cases K:(x.p.toList ==s.toList)
   .go_wp2_with(at_builtin;refine cF (F:=np) (v:=.slice D ys.length u) rfl (.tmp 21) (.tmp 26) 38 rfl nW x rfl e rfl rfl (by omega) d.size ?_;intro P L n o q;obtain⟨G,M,rfl⟩:=n.form;simp only[aE,fi,mc,lP] at n);go_roundw
    case rel=>
     exact⟨k+1,ys++[x],by omega,by go_num,by simpa using n,a.out,d.trans (o.below d.size λi hi z=>by have:=(e.at_ z).1;omega)⟩
    case measure=>simp[intOf];omega
   .go_wp2;go_roundw
    case rel=>exact⟨k+1,ys,by omega,by go_num,e,b.out,d⟩
    simp[intOf];omega
  .obtain rfl:k=xs.length:=by omega
   go_wp2;go_ret;exact⟨_,ys,rfl,e,by rwa [gE] at f,d⟩
def alx(xs:List Nd)(f:Nd)(hf:np.good f)(v:Value)(w:World)(lo hi:Nat)(h:fM w lo hi xs [v])(aR:hi<=w.heap.size)(hl:xs.length<=1000) :
  Calls (ai β) 65 #[v,.agg #[.string f.p,.string f.b]] w (ani (λa=>(∀y∈a,y∈xs\/y=f)/\a.length<=xs.length+1) w):=by
 obtain⟨A,c,rfl⟩:=h.form;go_enter zB,ntmps65;go_wp2;generalize hG:(w.alloc (.cells #[.string f.p,.string f.b] 106)).alloc (.cells #[] 106)=w0 at *;obtain⟨aG,iw,k0,cN,dS,k1,bZ,dx⟩:=oK hG;clear hG;have P:aL np 106 w0 (w.heap.size+1) (.slice (some ⟨w.heap.size+1,0,none⟩) 0 0) []:=eD.own ⟨_,rfl,am _,k1⟩ 2;clear k1 bZ dx cN dS;go_loopw [5,6,7] (λoo dd ii wr=>∃(k:Nat) (d:Bool) (a:List Nd),k<=xs.length/\ii=.int .i64 k/\dd=.bool d/\aL np 106 wr (w.heap.size+1) oo a/\(∀y∈a,y∈xs\/y=f)/\a.length<=k+(if d then 1 else 0)/\Below (w.heap.size+1) w0 wr) (λ_ _ ii _=>xs.length-(intOf ii).toNat)
 case atStart=>exact⟨0,false,[],fa _,rfl,rfl,P,λy b=>(by cases b),am _,fd _ _⟩
 case round=>
  clear P;obtain⟨k,d,a,hk,rfl,rfl,p,b,e,m⟩:=hrel;obtain⟨Y,X,rfl⟩:=p.form;have U:aX wr w.heap.size 106 #[.string f.p,.string f.b]:=(m.block _ (by omega)).trans k0;have j:wr.cell? ⟨w.heap.size,0,none⟩=some (.string f.p):=U.cell 0;have u:wr.cell? ⟨w.heap.size,1,none⟩=some (.string f.b):=U.cell 1;have B:Below w.heap.size w wr:=aG.trans (m.mono (by omega));have G:=ab b;clear b;by_cases a1:k<xs.length
  .obtain⟨x,J⟩:=aq a1;obtain⟨b1,aa,rfl,_,af,hg,M,c1⟩:=lI (fM.ar.below h B aR) J;have HX:=ab (db J);replace J:=ab J;clear M c1;cases d
   case' true=>
    go_wp2;have r:=ae j;refine aQ (by kernel_rfl) (by kernel_rfl) ?_;repeat(go_big_quiet_step (fail))
    refine ip ?_;intro V l;have g:=bG l;clear l r;have D:=m.trans (g.mono (by have:=m.size;omega));have oz:=p.below g;clear p j u m B U;go_wp2;have q:=G;have o:=e;clear G e;generalize Y=A2 at *;generalize X=W at *;generalize a=ys2 at *
   case' false=>
    cases T:Op.bytesLess x.p.toList f.p.toList
    case' false=>
     obtain⟨b2,jb,C,_,_,_,M,_⟩:=lI (fM.ar.below h B aR) J.out;simp only[me,qA,qw] at C;obtain⟨rfl,rfl⟩:=C;go_wp2;have r:=ae M;have L:=ae j;refine aQ (by kernel_rfl) (by kernel_rfl) ?_;repeat(go_big_quiet_step (fail))
     refine ip ?_;intro V l;have g:=bG l;clear l r L;have z:=m.trans (g.mono (by have:=m.size;omega));have I:=p.below g;have a3:=aU g j;have a4:=aU g u;have a8:a.length<=k:=by simpa using e
     clear p M j u T;go_wp2_with(at_builtin;refine cF (F:=np) (v:=.slice Y a.length X) rfl (.tmp 27) (.tmp 29) 38 rfl nW f rfl I rfl rfl (by omega) (by have:=z.size;omega) ?_;intro va Z H K a2;obtain⟨A2,W,rfl⟩:=H.form;simp only[aE,fi,mc,lP] at H);have oz:aL np 106 Z (w.heap.size+1) (.slice A2 (a++[f]).length W) (a++[f]):=by simpa using H
     have D:Below (w.heap.size+1) w0 Z:=z.trans (K.below (by have:=z.size;omega) λi hi S=>by have:=(I.at_ S).1;omega);have q:Hid (∀y∈a++[f],y∈xs\/y=f):=ab λy b=>by
      rcases oE.1 b with b|b
      .exact G.out y b
      .exact .inr (ph.1 b)
     have o:(a++[f]).length<=k+(if true then 1 else 0):=by simp;omega
     have E:(a++[f]).length=a.length+1:=by simp
     rw[<-E];clear E H I z m B U e a3 a4;clear G;generalize a++[f]=ys2 at *
    case' true=>
     obtain⟨b2,jb,C,_,_,_,M,_⟩:=lI (fM.ar.below h B aR) J.out;simp only[me,qA,qw] at C;obtain⟨rfl,rfl⟩:=C;go_wp2;have r:=ae M;have L:=ae j;refine aQ (by kernel_rfl) (by kernel_rfl) ?_;repeat(go_big_quiet_step (fail))
     refine ip ?_;intro V l;have g:=bG l;clear l r L;have D:=m.trans (g.mono (by have:=m.size;omega));have oz:=p.below g;clear p M j u T m B U;go_wp2;have q:=G;have o:=e;clear G e;generalize Y=A2 at *;generalize X=W at *;generalize a=ys2 at *
   all_goals
    rename World=>wz
    have N:aX wz w.heap.size 106 #[.string f.p,.string f.b]:=((D).block _ (by omega)).trans k0;have s:(wz).cell? ⟨w.heap.size,0,none⟩=some (.string f.p):=N.cell 0;have O:Below w.heap.size w wz:=aG.trans ((D).mono (by omega));obtain⟨b3,a7,C,_,_,_,R,d1⟩:=lI (fM.ar.below h O aR) J.out;simp only[me,qA,qw] at C;obtain⟨rfl,rfl⟩:=C;cases Q:(x.p.toList ==f.p.toList)
    .have r:=ae R;have L:=ae s;refine aQ (by kernel_rfl) (by kernel_rfl) ?_;repeat(go_big_quiet_step (fail))
     refine ip ?_;intro V l;have g:=bG l;clear l r L;have n:=(D).trans (g.mono (by have:=(D).size;omega));have t:=(oz).below g;have a5:=aU g R;have a9:=aU g d1;have a6:(ys2).length<=k+1:=ap o (by simp);have HL:=ab o;clear R d1 s Q O N;go_wp2_with(at_builtin;refine cF (F:=np) (v:=.slice A2 (ys2).length W) rfl (.tmp 39) (.tmp 44) 38 rfl nW x rfl t rfl rfl (by omega) (by have:=n.size;omega) ?_;intro vb wb ob a0 ad;obtain⟨Ab,cb,rfl⟩:=ob.form);go_roundw
     case rel=>
      refine⟨k+1,_,ys2++[x],by omega,by go_num,rfl,by simpa using ob,λy b=> ?_,by have:=HL.out;rw[aE];simp at this ⊢;omega,n.trans (a0.below (by have:=n.size;omega) λi hi S=>by have:=(t.at_ S).1;omega)⟩;rcases oE.1 b with b|b
      .exact(q).out y b
      .rw[ph.1 b];exact .inl HX.out
     case measure=>simp[intOf];omega
    .have r:=ae R;have L:=ae s;refine aQ (by kernel_rfl) (by kernel_rfl) ?_;repeat(go_big_quiet_step (fail))
     refine ip ?_;intro V l;have g:=bG l;clear l r L;have n:=(D).trans (g.mono (by have:=(D).size;omega));have t:=(oz).below g;have HL:=ab o;clear R d1 s Q O N;go_wp2;go_roundw
     case rel=>exact⟨k+1,_,ys2,by omega,by go_num,rfl,t,(q).out,by have:=HL.out;simp at this ⊢;omega,n⟩
     simp[intOf];omega
  .obtain rfl:k=xs.length:=by omega
   cases d
   .go_wp2_with(at_builtin;refine cF (F:=np) (v:=.slice Y a.length X) rfl (.tmp 48) (.tmp 50) 38 rfl nW f rfl p rfl rfl (by simp at e;omega) (by have:=m.size;omega) ?_;intro va Z H K a2;obtain⟨Aa,ca,rfl⟩:=H.form;simp only[aE,fi,mc,lP] at H);go_ret;refine⟨_,a++[f],rfl,(by simpa using H:aL np 106 Z (w.heap.size+1) (.slice Aa (a.length+1) ca) (a++[f])).base (by omega),⟨λy b=> ?_,by simp at e ⊢;omega⟩,B.trans (K.below B.size λi hi S=>by have:=(p.at_ S).1;omega)⟩;rcases oE.1 b with b|b
    .exact G.out y b
    .exact .inr (ph.1 b)
   .go_wp2;go_ret;exact⟨_,a,rfl,p.base (by omega),⟨G.out,by simpa using e⟩,B⟩
def arB(w:World)(e:Ending)(w':World):Prop:=∃v a q,e=.returned (.tuple #[v,.bool q])/\aL np 106 w' w.heap.size v a/\lH a/\Below w.heap.size w w'
def aaj{b:List Nd}(h:lH b):∀y∈b,np.good y:=λy c=>by
 have d:=lz (h.1 y c).1;have a:=(h.1 y c).2;unfold dN at a;rw[ga] at a;have e:=sZ a.1;exact⟨by unfold maxLen;omega,by unfold maxLen;omega⟩
def adk(xs:List Nd)(p b:ByteArray)(s:p.size<=maxLen)(m:b.size<=maxLen)(v:Value)(w:World)(E hi:Nat)(h:fM w E hi xs [v])(j:hi<=w.heap.size)(O:xs.length<=1000) :
  Calls (ai β) 30 #[v,.string p,.string b] w (arB w):=by
 obtain⟨A,c,rfl⟩:=h.form;go_enter zT,ntmps30;go_wp2;refine(abd xs _ w E hi h j).mono ?_;rintro e f ⟨⟨rfl,g⟩|rfl,a⟩
 .replace g:=ab g;go_wp2;refine(jv p s f).mono ?_;rintro e l ⟨rfl,rfl⟩;cases S:jl p
  .go_wp2;exact mx (v:=.tuple #[.slice (some ⟨(f).heap.size,0,none⟩) 0 0,.bool false]) (by simp[results,results30,go_sem]) rfl ⟨_,[],false,rfl,(eD.new f 106 (a).size).own 2,.nil,(a).alloc (a).size _⟩
  .go_wp2;refine(lA b m f).mono ?_;rintro e l ⟨rfl,rfl⟩;cases J:dN b
   .go_wp2;exact mx (v:=.tuple #[.slice (some ⟨(f).heap.size,0,none⟩) 0 0,.bool false]) (by simp[results,results30,go_sem]) rfl ⟨_,[],false,rfl,(eD.new f 106 (a).size).own 2,.nil,(a).alloc (a).size _⟩
   .go_wp2;refine(alx xs ⟨p,b⟩ ⟨s,m⟩ _ f E hi (fM.ar.below h a j) (ap j a.size) O).mono ?_;rintro e l ⟨W,k,rfl,o,⟨B,K⟩,x⟩;obtain⟨R,M,rfl⟩:=o.form;have q:∀y∈k,np.good y:=λy P=>by
     rcases B y P with L|rfl
     .exact aaj g.out y L
     .exact⟨s,m⟩
    have V:=x.size;have Q:=(o.deep q f.heap.size).sl (am _);go_wp2;refine(abd k _ l f.heap.size l.heap.size Q (am _)).mono ?_;rintro e G ⟨⟨rfl,u⟩|rfl,n⟩
    .have r:=ab u;have d:=ag (ag a x) n;have N:=(o.below n).base a.size;go_wp2;exact mx (v:=.tuple #[.slice R k.length M,.bool true]) (by simp[results,results30,go_sem]) rfl ⟨_,k,true,rfl,N,r.out,d⟩
    .have d:=ag (ag a x) n;have D:=lB (F:=np) (fM.ar.below h d j).1 (ap j d.size);have t:=ab D;have i:=au G (.cells #[] 106);have z:=ab (eD.new G 106 (am _));go_wp2_with(at_builtin;refine nj (F:=np) (xs:=xs) i rfl (.tmp 31) (.tmp 32) 38 rfl nW (am _) rfl rfl z.out t.out (by omega) ?_;intro U T C H;obtain⟨A',I,rfl⟩:=H.form);exact mx (v:=.tuple #[.slice A' xs.length I,.bool false]) (by simp[results,results30,go_sem]) rfl ⟨_,xs,false,rfl,H.base d.size,g.out,ag d (ag i C)⟩
 .go_wp2;exact mx (v:=.tuple #[.slice (some ⟨(f).heap.size,0,none⟩) 0 0,.bool false]) (by simp[results,results30,go_sem]) rfl ⟨_,[],false,rfl,(eD.new f 106 (a).size).own 2,.nil,(a).alloc (a).size _⟩
end
section
variable {β:Bool}
open Go.RowKit
def auT(p:Prop):∃q:Bool,q=true↔p:=by
 by_cases h:p
 .exact⟨true,by simp[h]⟩
 .exact⟨false,by simp[h]⟩
def auU{l:List Sp}(h:ixP l):∀x∈l,FSp.good x:=λx a=>by
 have:=h.1 x a;unfold spP at this;refine⟨?_, ?_⟩<;>unfold cA<;>omega
end
section
variable {β:Bool}
open Go.RowKit
def agi:∀{a l:List Sp} {x:Sp},x∈fD a l->x∈a\/x∈l
 |[],_,_,h=>.inr h
 |s::a,l,x,h=>by
  have b:x∈fD a (gU s l):=h;rcases agi b with h|h
  .exact .inl (by simp[h])
  .rcases abZ h with rfl|h
   .exact .inl (by simp)
   .exact .inr h
instance aD2:Inhabited Tr:=⟨.nil⟩
end
end Go.Proofs.YtlaobkmopohmnaaGreatDoor