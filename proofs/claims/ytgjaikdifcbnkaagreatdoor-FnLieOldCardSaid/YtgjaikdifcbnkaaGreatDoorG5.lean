/- A part. -/
import Derived.Test.YtgjaikdifcbnkaaGreatDoorG4
import Derived.Below
import Derived.Laws.Cover1
set_option maxRecDepth 100000
set_option maxHeartbeats 8000000
set_option linter.all false
open Go Go.Conc Go.ConcN Go.RowKit Go.Proofs.Tryz Go.Proofs.YtgjaikdifcbnkaaGreatDoor
variable {x z:It} {Y c g hi i j n:Nat} {d:Tmp} {V:Type} {A:Addr} {a b:Code} {o:Oper} {q:Bool} {R w w':World} {u v:Value} {y:Frame} {X e t0:TypeId} {f:FuncId} {P:Program} {O rest:List Nat} {k k2:List Item} {Z:Array Oper} {W xs:List Frame} {U cs:List Value} {af:Array Edge} {S:Array Field} {Q T':Array Value} {B:Option Addr} {es:Array Event} {Post:Value→World→Prop} {gd:Option (Nat × Bool)}
namespace Go.Proofs.YtgjaikdifcbnkaaGreatDoor
def be:=@Go.World.size_setCell
def bv:=@List.setIfInBounds_toArray
def ef:=@List.set_cons_zero
def fd:=@List.set_cons_succ
def mw:=@List.length_singleton
def rA:=@List.getElem?_set_self
def rG:=@List.not_mem_nil
def rN:=@List.getElem?_set_ne
def rY:=@UInt8.lt_iff_toNat_lt
def se:=@List.getElem?_of_mem
def sJ:=@List.mem_toArray
def tj:=@List.mem_or_eq_of_mem_set
def tk:=@Array.size_replicate
def tp:=@Go.Conc.mem_seen
def tI:=@List.contains_cons
def tN:=@List.ext_getElem?
def tZ:=@Go.World.cell?_setCell_other
def uf:=@or_false
def uH:=@List.drop_length
def uL:=@Go.World.frozen?_setCell
def vK:=@List.pairwise_iff_getElem
section
open Go.Conc Go.ConcN
section
variable {β:Bool} {R:List Frame->World->Prop} {c0 c:Cfg} {iK ρ:Ren} {w0 w w2:World} {T:Array Value} {k:List Item} {y:Frame} {ys:List Frame}
def im.noV(h:im β R c0 iK w0 c ρ (FC T k::y::ys) w){t:Tmp}(e:T.getD t undef=.pointer (some A))(b:∃x,VR ρ x (T.getD t undef)/\x ≠ .tuple #[]):(∃d,AR ρ d A)/\NoV (ai β) w A:=by
 obtain⟨x,b,f⟩:=b;rw[e] at b;cases b with
 |pointer a=>cases a with
  |some a=>exact⟨⟨_,a⟩,h.wr.noV a⟩
 |fQ=>exact absurd rfl f
def aI{T:Array Value}{d t:Nat}(a:d<T.size):(T.setIfInBounds d v).getD t undef=if t=d then v else T.getD t undef:=by
 rw[jn,jn,oS];by_cases e:d=t
 .subst e;simp[a]
 .rw[da e,da (λx=>e x.symm)]
def eqG{x y:Operand} :eqGuard .eql 176 x y v (.pointer none)=Sem.pure ():=by
 unfold eqGuard;cases v<;>rfl
def im.slice(h:im β R c0 iK w0 c ρ (FC T (.inRegion pB (0::rest)::k)::y::ys) w) :
  ∃A e n q i,T.getD 0 undef=.pointer (some A)/\(∃x,AR ρ x A)/\w.shape? A.block=some (e,n)/\liesAt (ai β) (ai β).depth e (n / (ai β).cellsOf e) A.off 178 1=true/\im β R c0 iK w0 q i (FC T (.inRegion pB rest::k)::y::ys) w/\ρ.Le i:=by
 have a:∀d g,(execOp (FC T (.inRegion pB (0::rest)::k)).eval (iH none (.call ⟨.builtin .unsafeSlice,#[.tmp 0,.const (.int .i64 1)],#[176,3]⟩) 0)).run (ai β) w=.ok d g->
   ∃v,(Builtin.unsafeSlice_ #[176,3] 0 #[T.getD 0 undef,.int .i64 1]).run (ai β) w=.ok v g/\d=.value v:=λd g b=>by
  have j:execOp (FC T (.inRegion pB (0::rest)::k)).eval (iH none (.call ⟨.builtin .unsafeSlice,#[.tmp 0,.const (.int .i64 1)],#[176,3]⟩) 0) =
    (Builtin.unsafeSlice_ #[176,3] 0 #[T.getD 0 undef,.int .i64 1]).bind λv=>Sem.pure (.value v):=by
   have p:Array.map (FC T (.inRegion pB (0::rest)::k)).eval #[.tmp 0,.const (.int .i64 1)]=#[T.getD 0 undef,.int .i64 1]:=by simp[Frame.eval]
   simp only[execOp,iH,resolve];rw[p];rfl
  rw[j] at b;obtain⟨v,z,f,l⟩:=ea (s:=Builtin.unsafeSlice_ #[176,3] 0 #[T.getD 0 undef,.int .i64 1]) b;cases(show Result.ok (Next.value v) z=Result.ok d g from l);exact⟨v,f,rfl⟩
 obtain⟨v,B,q,i,m,f,l⟩:=h.op (o:=iH none (.call ⟨.builtin .unsafeSlice,#[.tmp 0,.const (.int .i64 1)],#[176,3]⟩) 0) rfl rfl λd g b=>.inl (let⟨v,_,e⟩:=a d g b;⟨v,e⟩);have G:∃u,(Builtin.unsafeSlice_ #[176,3] 0 #[T.getD 0 undef,.int .i64 1]).run (ai β) w=.ok u B:=by
  rcases m with b|⟨b, -⟩
  .obtain⟨u,f, -⟩:=a _ _ b;exact⟨u,f⟩
  .obtain⟨u,f, -⟩:=a _ _ b;exact⟨u,f⟩
 obtain⟨u,E⟩:=G;have r:=h.aoN (o:=iH none (.call ⟨.builtin .unsafeSlice,#[.tmp 0,.const (.int .i64 1)],#[176,3]⟩) 0) rfl rfl rfl 0 λe w H d C b=>by
  have j:execOp e (iH none (.call ⟨.builtin .unsafeSlice,#[.tmp 0,.const (.int .i64 1)],#[176,3]⟩) 0)=(Builtin.unsafeSlice_ #[176,3] 0 #[.tuple #[],e (.const (.int .i64 1))]).bind λv=>Sem.pure (.value v):=by
   have p:Array.map e #[.tmp 0,.const (.int .i64 1)]=#[.tuple #[],e (.const (.int .i64 1))]:=by simp[H]
   simp only[execOp,iH,resolve];rw[p];rfl
  rw[j] at b;cases(show Result.halt _ _=Result.ok d C from b)
 obtain⟨rfl,A,e,n,t,D,F⟩:=ari (ccQ β) rfl (λA e=>(h.noV e r).2) E;exact⟨A,e,n,q,i,t,(h.noV t r).1,D,F,f,l⟩
def im.field{t : Tmp}(h:im β R c0 iK w0 c ρ (FC T (.inRegion Z (i::rest)::k)::y::ys) w)(l:Z[i]?=some (iH (some d) (.fieldAddr 178 (.tmp t) 0) 0))(e:T.getD t undef=.pointer (some A)) :
  ∃j g,im β R c0 iK w0 j g (FC (T.setIfInBounds d (.pointer (some A))) (.inRegion Z rest::k)::y::ys) w/\ρ.Le g:=by
 have a:(execOp (FC T (.inRegion Z (i::rest)::k)).eval (iH (some d) (.fieldAddr 178 (.tmp t) 0) 0)).run (ai β) w=.ok (.value (.pointer (some A))) w:=by
  have:(execOp (FC T (.inRegion Z (i::rest)::k)).eval (iH (some d) (.fieldAddr 178 (.tmp t) 0) 0))=(Instr.fieldAt 178 (T.getD t undef) 0).bind λv=>Sem.pure (.value v):=rfl;rw[this,e,qW,arj (ccQ β)];rfl
 obtain⟨v,o,j,g,f,n,m⟩:=h.op l rfl λq p b=>by rw[a] at b;cases b;exact .inl ⟨_,rfl⟩
 rw[a] at f;rcases f with b|⟨b, -⟩
 .cases b;exact⟨j,g,n,m⟩
 .cases b
def im.load{t : Tmp}(h:im β R c0 iK w0 c ρ (FC T (.inRegion Z (i::rest)::k)::y::ys) w)(x:Z[i]?=some (iH (some d) (.load 176 (.tmp t)) 176))(e:T.getD t undef=.pointer (some A)) :
  ∃v r m,w.cell? A=some v/\im β R c0 iK w0 r m (FC (T.setIfInBounds d v) (.inRegion Z rest::k)::y::ys) w/\ρ.Le m:=by
 have a:∀g j,(execOp (FC T (.inRegion Z (i::rest)::k)).eval (iH (some d) (.load 176 (.tmp t)) 176)).run (ai β) w=.ok g j->∃v,j=w/\w.cell? A=some v/\g=.value v:=λg j b=>by
  obtain⟨v,n,f,l⟩:=ea (s:=Instr.loadAt 176 (T.getD t undef)) b;rw[e] at f;have z:=h.aoN x rfl rfl t λe w B g D b=>by
   obtain⟨v,n,f,l⟩:=ea (s:=Instr.loadAt 176 (e (.tmp t))) b;rw[B] at f;cases(show Result.halt _ _=Result.ok v n from f)
  obtain⟨rfl,p⟩:=auL (ccQ β) (h.noV e z).2 f;cases(show Result.ok (Next.value v) n=Result.ok g j from l);exact⟨v,rfl,p,rfl⟩
 obtain⟨v,C,r,m,o,f,l⟩:=h.op x rfl λg j b=>.inl (let⟨v,_,_,e⟩:=a g j b;⟨v,e⟩);rcases o with b|⟨b, -⟩
 .obtain⟨u,rfl,p,q⟩:=a _ _ b;cases q;exact⟨v,r,m,p,f,l⟩
 .obtain⟨u, -, -,q⟩:=a _ _ b;cases q
def im.eql{t : Tmp}(h:im β R c0 iK w0 c ρ (FC T (.inRegion Z (i::rest)::k)::y::ys) w)(A:Z[i]?=some (iH (some d) (.binOp .eql 176 (.tmp t) (.const (.pointer none)) 176) 4)) :
  ∃b x l,((T.getD t undef=.pointer none/\b=true)\/∃B,T.getD t undef=.pointer (some B)/\b=false)/\im β R c0 iK w0 x l (FC (T.setIfInBounds d (.bool b)) (.inRegion Z rest::k)::y::ys) w/\ρ.Le l:=by
 have a:∀j g,(execOp (FC T (.inRegion Z (i::rest)::k)).eval (iH (some d) (.binOp .eql 176 (.tmp t) (.const (.pointer none)) 176) 4)).run (ai β) w=.ok j g->
   ∃b,g=w/\((T.getD t undef=.pointer none/\b=true)\/∃B,T.getD t undef=.pointer (some B)/\b=false)/\j=.value (.bool b):=λj g f=>by
  have:(execOp (FC T (.inRegion Z (i::rest)::k)).eval (iH (some d) (.binOp .eql 176 (.tmp t) (.const (.pointer none)) 176) 4))=((eqGuard .eql 176 (.tmp t) (.const (.pointer none)) (T.getD t undef) (.pointer none)).bind λ_=>binOp .eql 176 (T.getD t undef) (.pointer none)).bind λv=>Sem.pure (.value v):=rfl;rw[this,eqG] at f;obtain⟨v,z,r,m⟩:=ea (s:=binOp .eql 176 (T.getD t undef) (.pointer none)) f;obtain⟨rfl,o⟩:=axY (ccQ β) r;cases(show Result.ok (Next.value v) z=Result.ok j g from m);rcases o with⟨p,rfl⟩|⟨B,p,rfl⟩
  .exact⟨true,rfl,.inl ⟨p,rfl⟩,rfl⟩
  .exact⟨false,rfl,.inr ⟨B,p,rfl⟩,rfl⟩
 obtain⟨v,C,x,l,n,r,m⟩:=h.op A rfl λj g f=>.inl (let⟨b,_,_,e⟩:=a j g f;⟨_,e⟩);rcases n with f|⟨f, -⟩
 .obtain⟨u,rfl,o,q⟩:=a _ _ f;cases q;exact⟨u,x,l,o,r,m⟩
 .obtain⟨u, -, -,q⟩:=a _ _ f;cases q
def im.store   {t:Tmp} {x:Operand} (h:im β R c0 iK w0 c ρ (FC T (.inRegion Z (i::rest)::k)::y::ys) w) (r:Z[i]?=some (iH none (.store 176 (.tmp t) x) 0)) {u:Option Addr}
  (e:T.getD t undef=.pointer (some A)) (z:(FC T (.inRegion Z (i::rest)::k)).eval x=.pointer u) :
  ∃n l,w.frozen? A=false/\(∃v,w.cell? A=some v)/\im β R c0 iK w0 n l (FC T (.inRegion Z rest::k)::y::ys) (w.setCell A (.pointer u))/\ρ.Le l:=by
 have a:∀d f,(execOp (FC T (.inRegion Z (i::rest)::k)).eval (iH none (.store 176 (.tmp t) x) 0)).run (ai β) w=.ok d f->f=w.setCell A (.pointer u)/\w.frozen? A=false/\(∃v,w.cell? A=some v)/\d=.skip:=λd f b=>by
  have:(execOp (FC T (.inRegion Z (i::rest)::k)).eval (iH none (.store 176 (.tmp t) x) 0))=(Instr.storeAt 176 (T.getD t undef) ((FC T (.inRegion Z (i::rest)::k)).eval x)).bind λ_=>Sem.pure .skip:=rfl;rw[this,e,z] at b;obtain⟨v,q,g,j⟩:=ea (s:=Instr.storeAt 176 (.pointer (some A)) (.pointer u)) b;have B:=h.aoN r rfl rfl t λe w D d F b=>by
   obtain⟨v,q,g,j⟩:=ea (s:=Instr.storeAt 176 (e (.tmp t)) (e x)) b;rw[D] at g;cases(show Result.halt _ _=Result.ok v q from g)
  obtain⟨rfl,p,m⟩:=ark (ccQ β) (h.noV e B).2 g;cases(show Result.ok Next.skip _=Result.ok d f from j);exact⟨rfl,p,m,rfl⟩
 obtain⟨v,E,n,l,o,g,j⟩:=h.op r rfl λd f b=>.inr (a d f b).2.2.2;rcases o with b|⟨b, -⟩
 .obtain⟨-, -, -,C⟩:=a _ _ b;cases C
 .obtain⟨rfl,p,m, -⟩:=a _ _ b;exact⟨n,l,p,m,g,j⟩
end
abbrev T0C(a:Array Value):Array Value:=a++Array.replicate (20-a.size) undef
section
variable {β:Bool} {R:List Frame->World->Prop} {c0 c:Cfg} {iK ρ:Ren} {w0 w w2:World} {T:Array Value} {k:List Item} {y:Frame} {ys m:List Frame} {a a':Array Value}
def auM:Frame.enter (ai β) nCC a' .normal=FC (T0C a') [.code nH]:=by
 have a:(ai β).funcs[nCC]?=some qCC:=acC β;unfold Frame.enter;rw[a];rfl
def gC(e:w'.heap[A.block]?=w.heap[A.block]?):w'.cell? A=w.cell? A:=by
 unfold World.cell?;rw[e]
def xj{xs:Array Obj}{f:Obj->Obj}(h:∀o,xs[i]?=some o->f o=o):xs.modify i f=xs:=by
 apply sR;intro j;rw[pm];by_cases e:i=j
 .subst e;rw[eg rfl];cases a:xs[i]? with
  |none=>rfl
  |some o=>simp[h o a]
 .rw[da e]
def ahr{xs:Array Obj}{f g:Obj->Obj}(h:∀o,g (f o)=g o):(xs.modify i f).modify i g=xs.modify i g:=by
 apply sR;intro j;rw[pm,pm,pm];by_cases e:i=j
 .simp only[e,pv,Option.map_map]
  congr 1
  funext o
  exact h o
 .simp only[e,qL]
def ahs(h:w.cell? A=some v):w.setCell A v=w:=by
 unfold World.setCell;rw[xj];intro o b;unfold World.cell? at h;rw[b] at h;cases o with
 |cells c t z=>
  cases a:A.spot with
  |some s=>simp[a] at h
  |none=>
   simp[a] at h;simp only[tF,lc,qL]
   congr 1
   apply sR;intro j;rw[oS];by_cases e:A.off=j
   .subst e;rw[eg rfl,h];rw[eg (dl.1 h).1]
   .rw[da e]
 |_=>rfl
def afC   :(w.setCell A u).setCell A v=w.setCell A v:=by
 unfold World.setCell;dsimp only;rw[ahr];intro o;cases o with
 |cells c t z=>
  dsimp only;split
  .rfl
  .simp
 |_=>rfl
def auN(S:dw iK a a')(P:iV (ai β) iK m (y::ys))(hc:c0.l=Frame.enter (ai β) nCC a .normal::m)(hw:WR iK c0.w w0)(Y:GlR iK)(Z:kh (ai β) R c0) :
  ∃A v e n g σ,(T0C a').getD 0 undef=.pointer (some A)/\w0.shape? A.block=some (e,n)/\liesAt (ai β) (ai β).depth e (n / (ai β).cellsOf e) A.off 178 1=true/\w0.cell? A=some v/\w0.frozen? A=false/\(v=.pointer none\/v=.pointer (some A))/\
   (∃z,AR iK z A)/\(∀E,iK.r E A.block->bJ c0.w E->NoB c0.w E->False)/\im β R c0 iK w0 g σ (y.finish (.tuple #[])::ys) (w0.setCell A (.pointer (some A)))/\iF (ai β) g c0:=by
 have hz:20<=(T0C a').size:=by simp only[T0C,sD,tk];omega
 have h:im β R c0 iK w0 c0 iK (FC (T0C a') [.code nH]::y::ys) w0:=⟨.inl rfl,.refl _,by rw[hc,<-auM (β:=β)];exact .cons (aeW β S) P,hw,Y,Z,Kept.refl _ _ _⟩;generalize T0C a'=T at hz h ⊢;unfold nH at h;obtain⟨g,c,h, -⟩:=h.seq;obtain⟨g,c,h, -⟩:=h.region;have p:List.range pB.size=[0,1,2,3]:=rfl;rw[p] at h;obtain⟨A,e,n,U,r,D,⟨z,K⟩,i,F,h', -⟩:=h.slice;have C:∃z,AR iK z A:=by
  refine⟨z, ?_⟩;obtain⟨p,o,s⟩:=K;rename_i bl br;rcases h.kept.new p with w|⟨_,w⟩
  .exact .mk w o s
  .exfalso;dsimp only at i;simp only[World.shape?] at i;cases k:w0.heap[br]? with
   |none=>rw[k] at i;cases i
   |some q=>have:=(dl.1 k).1;omega
 replace h:=h';obtain⟨g,c,h, -⟩:=h.field rfl D;obtain⟨v,g,c,f,h, -⟩:=h.load (A:=A) rfl (by rw[aI (by omega)];rfl);obtain⟨b,g,c,k,h, -⟩:=h.eql rfl;obtain⟨g,c,h, -⟩:=h.jo;obtain⟨g,c,h, -⟩:=h.seq;have X:((T.setIfInBounds 4 (.pointer (some A))).setIfInBounds 5 v).getD 5 undef=v:=by rw[aI (by simp;omega)];rfl
 rw[X] at k;obtain⟨g,c,h, -⟩:=h.cond (q:=b) (by rw[aI (by simp;omega)];rfl);have l:∀{J:Array Value} {U:Cfg} {r:Ren} {w2:World},im β R c0 iK w0 U r (FC J [.code (.seq (.region 1 agZ false) .ret)]::y::ys) w2->J.getD 4 undef=.pointer (some A)->J.getD 0 undef=.pointer (some A)->
   ∃x j,w2.frozen? A=false/\im β R c0 iK w0 x j (y.finish (.tuple #[])::ys) (w2.setCell A (.pointer (some A)))/\iF (ai β) x c0:=λ{J U r w2} h g4 g0=>by
  obtain⟨g,c,h, -⟩:=h.seq;obtain⟨g,c,h, -⟩:=h.region;have p:List.range agZ.size=[0]:=rfl;rw[p] at h;obtain⟨g,c,H, -,h, -⟩:=h.store (A:=A) (u:=some A) rfl g4 g0;obtain⟨g,c,h, -⟩:=h.jo;obtain⟨g,c,h, -,G⟩:=h.ret;exact⟨g,c,H,h,G⟩
 rcases k with⟨rfl,rfl⟩|⟨B,rfl,rfl⟩
 .simp only[pv] at h;obtain⟨g,c,h, -⟩:=h.skip;obtain⟨x,j,H,h,G⟩:=l h (by rw[aI (by simp;omega),da (by decide),aI (by simp;omega),da (by decide),aI (by omega),eg rfl]) (by rw[aI (by simp;omega),da (by decide),aI (by simp;omega),da (by decide),aI (by omega),da (by decide)];exact D);refine⟨A,_,e,n,x,j,D,i,F,f,H,.inl rfl,C,λE w M V=> ?_,h,G⟩;have:=(h.kept.still w M V).2;have W:(w0.setCell A (.pointer (some A))).cell? A=some (.pointer (some A)):=World.cell?_setCell_same _ _ _ f;rw[gC this,f] at W;cases W
 .simp only[qL,lc] at h;obtain⟨g,c,h, -⟩:=h.seq;obtain⟨g,c,h, -⟩:=h.region;have p:List.range akH.size=[0,1,2,3]:=rfl;rw[p] at h;obtain⟨g,c,h, -⟩:=h.field (A:=B) (t:=5) (d:=7) rfl (by rw[aI (by simp;omega),da (by decide)];exact X);obtain⟨g,c,O,⟨vB,a0⟩,h, -⟩:=h.store (A:=B) (u:=none) (t:=7) rfl (by rw[aI (by simp;omega)];rfl) rfl;have hk:=h.kept;obtain⟨u,g,c,I,h, -⟩:=h.load (A:=A) (t:=4) (d:=8) rfl (by rw[aI (by simp;omega),da (by decide),aI (by simp;omega),da (by decide),aI (by simp;omega),da (by decide),aI (by omega),eg rfl]);obtain⟨b,g,c,k,h, -⟩:=h.eql (t:=8) (d:=9) rfl;rw[aI (by simp;omega),eg rfl] at k;obtain⟨g,c,h, -⟩:=h.jo;obtain⟨g,c,h, -⟩:=h.cond (q:=b) (by rw[aI (by simp;omega)];rfl);rcases k with⟨rfl,rfl⟩|⟨B',rfl,rfl⟩
  .have Q:A=B:=by
    refine qU λL=> ?_;rw[tZ _ _ _ _ (λe=>L e.symm),f] at I;cases I
   subst Q;simp only[pv] at h;obtain⟨g,c,h, -⟩:=h.skip;obtain⟨x,j,H,h,G⟩:=l h
    (by rw[aI (by simp;omega),da (by decide),aI (by simp;omega),da (by decide),aI (by simp;omega),da (by decide),aI (by simp;omega),da (by decide),aI (by simp;omega),da (by decide),aI (by omega),eg rfl])
    (by rw[aI (by simp;omega),da (by decide),aI (by simp;omega),da (by decide),aI (by simp;omega),da (by decide),aI (by simp;omega),da (by decide),aI (by simp;omega),da (by decide),aI (by omega),da (by decide)];exact D)
   have N:(w0.setCell A (.pointer none)).setCell A (.pointer (some A))=w0.setCell A (.pointer (some A)):=afC;rw[N] at h;refine⟨A,_,e,n,x,j,D,i,F,f,O,.inr rfl,C,λE w M V=> ?_,h,G⟩;have:=(hk.still w M V).2;rw[gC this,f] at I;cases I
  .exfalso;simp only[qL,lc] at h;exact h.no rfl true (o:=_) (w2:=w0.setCell B (.pointer none)) (by simp only[Gl,stepG,stepG.exec];rfl)
end
end
section
open Go.Conc Go.ConcN Go.RowKit Go.Lib
section
variable {P:Program} (T:CcT P) {w:World} {e:Operand->Value} {x y:Operand} {A:Addr} {v:Value} {dst:Option Tmp} {ty:TypeId} {pos:String} {af:Array Edge} {gd:Option (Nat×Bool)}
def auO:(execOp e ⟨dst,.move x,ty,pos,af,gd⟩).runT P w #[]=(.ok (.value (e x)) w,#[]):=rfl
def als(h:e x=.pointer (some A)):(execOp e ⟨dst,.nilCheck x,ty,pos,af,gd⟩).runT P w #[]=(.ok (.value (.pointer (some A))) w,#[]):=by
 simp only[execOp,h];rfl
include T
theorem aeX(h:e x=.pointer (some A)):(execOp e ⟨dst,.fieldAddr 178 x 0,ty,pos,af,gd⟩).runT P w #[]=(.ok (.value (.pointer (some A))) w,#[]):=by
 obtain⟨k,g,c,a,d,b⟩:=T.f;obtain⟨i,f,j⟩:=T.i6;simp[execOp,h,Instr.fieldAt,Instr.sureAddr,mu c,a,fieldPlace,sizeOf,typeInfo,b,f,j,d,Addr.add]
theorem anm(h:e x=.pointer (some A))(a:w.cell? A=some v):(execOp e ⟨dst,.load 176 x,ty,pos,af,gd⟩).runT P w #[]=(.ok (.value v) w,#[⟨.cell A,false,false⟩]):=by
 simp[execOp,h,Instr.loadAt,Instr.sureAddr,loadVar,isAgg,mu T.u,a]
theorem axZ{a:Option Addr}(h:e x=.pointer a)(f:e y=.pointer none):(execOp e ⟨dst,.binOp .eql 176 x y 176,ty,pos,af,gd⟩).runT P w #[]=(.ok (.value (.bool a.isNone)) w,#[]):=by
 have b:∀(d:Nat),(Op.equalIn (d+1) 176 (.pointer a) (.pointer none)).run P w=.ok a.isNone w:=λd=>by
  cases a<;>simp[Op.equalIn,mu T.u]
 have c:∀(d:Nat),(Op.equalIn (d+1) 176 (.pointer a) (.pointer none)).events P w #[]=#[]:=λd=>by
  cases a<;>simp[Op.equalIn,mu T.u]
 simp only[execOp,h,f,eqG,binOp];simp[Op.equal,Op.maxDepth,b 9999,c 9999]
theorem ax0(h:e x=.pointer (some A))(g:e y=.pointer (some A)):(execOp e ⟨dst,.binOp .neq 176 x y 176,ty,pos,af,gd⟩).runT P w #[]=(.ok (.value (.bool false)) w,#[]):=by
 obtain⟨i,a,j, -⟩:=T.i8;have b:∀(d:Nat),(Op.equalIn (d+1) 176 (.pointer (some A)) (.pointer (some A))).run P w=.ok true w:=λd=>by
  simp[Op.equalIn,mu T.u,sizeOf,typeInfo,a,run_sameAddr_same]
 have f:∀(d:Nat),(Op.equalIn (d+1) 176 (.pointer (some A)) (.pointer (some A))).events P w #[]=#[]:=λd=>by
  simp[Op.equalIn,mu T.u,sizeOf,typeInfo,a,j,sameAddr]
 have c:eqGuard .neq 176 x y (.pointer (some A)) (.pointer (some A))=Sem.pure ():=rfl;simp only[execOp,h,g,c,binOp];simp[Op.equal,Op.maxDepth,b 9999,f 9999]
theorem ax1(h:e x=.pointer (some A))(a:w.shape? A.block=some (X,n))(f:A.off<n):(execOp e ⟨dst,.convert 176 160 x,ty,pos,af,gd⟩).runT P w #[]=(.ok (.value (.pointer (some A))) w,#[]):=by
 obtain⟨i,b,d, -⟩:=T.i8;have c:¬n<=A.off:=by omega
 simp[execOp,h,convert,mu T.u,mu T.up,Conv.unsafePointer,Conv.seenAt,viewAt,cellsIn,a,sizeOf,typeInfo,b,d,c]
theorem arl(h:e x=.pointer (some A))(a:w.shape? A.block=some (X,n))(b:liesAt P P.depth X (n / P.cellsOf X) A.off 178 1=true):(execOp e ⟨dst,.convert 160 176 x,ty,pos,af,gd⟩).runT P w #[]=(.ok (.value (.pointer (some A))) w,#[]):=by
 obtain⟨i,c,d, -⟩:=T.i8;simp[execOp,h,convert,mu T.u,mu T.up,Conv.unsafePointer,Conv.seenAt,viewAt,a,variablesAt,b,sizeOf,typeInfo,c,d]
theorem arn{u:Option Addr}(h:e x=.pointer (some A))(d:e y=.pointer u)(g:w.cell? A=some v)(c:w.frozen? A=false):(execOp e ⟨dst,.store 176 x y,ty,pos,af,gd⟩).runT P w #[]=(.ok .skip (w.setCell A (.pointer u)),#[⟨.cell A,true,false⟩]):=by
 obtain⟨i,j,k⟩:=T.i6;have a:(Sem.store .plain A (.pointer u) (Sem.pure ())).runT P w #[]=(.ok () (w.setCell A (.pointer u)),#[⟨.cell A,true,false⟩]):=by
  unfold Sem.runT;simp only[g,c,lc,qL];rfl
 have f:(store A (.pointer u)).run P w=.ok () (w.setCell A (.pointer u)):=by
  rw[<-ry _ _ _ #[]];exact jt Prod.fst a
 have b:(store A (.pointer u)).events P w #[]=#[⟨.cell A,true,false⟩]:=jt Prod.snd a;simp[execOp,h,d,Instr.storeAt,Instr.sureAddr,storeVar,sizeOf,typeInfo,j,k,Value.cells,storeCells,Addr.add,f,b]
end
end
section
open Go.Conc Go.ConcN
abbrev nNE:FuncId:=147
def auP:f147.body.isNone=true:=by kernel_rfl
def ne_next:Extern.findNext f147=none:=by kernel_rfl
def auQ:Extern.find f147=some Extern.AbiNoEscape.same:=by kernel_rfl
def afD{fn:Func}{s:Array Value->Sem Value}{args:Array Value}(c:P.funcs[f]?=some fn)(e:(fn.name == "runtime.NumGoroutine")=false)(g:fn.body.isNone=true)(j:Extern.findNext fn=none)(d:Extern.find fn=some s)(i:s args=Sem.pure v) :
  (callFunc f args).runT P w #[]=(.ok (.value v) w,#[⟨.mark (.extern f),false,true⟩]):=by
 unfold callFunc;have a:¬fn.name= "runtime.NumGoroutine" :=by simpa using e
 have b:fn.body=none:=by simpa using g
 simp[c,a,b,j,d,i]
section
variable {w:World} {e:Operand->Value} {x:Operand} {v:Value} {dst:Option Tmp} {ty:TypeId} {pos:String} {af:Array Edge} {gd:Option (Nat×Bool)} {ts:Array TypeId}
def aro(d:e (.func nNE)=.func (.func nNE) #[] #[]):(execOp e ⟨dst,.call ⟨.value (.func nNE),#[x],ts⟩,ty,pos,af,gd⟩).runT prog w #[]=(.ok (.value (e x)) w,#[⟨.mark (.extern nNE),false,true⟩]):=by
 have a:Array.map e #[x]=#[e x]:=by simp
 have b:execOp e ⟨dst,.call ⟨.value (.func nNE),#[x],ts⟩,ty,pos,af,gd⟩=callFunc nNE #[e x]:=by
  simp only[execOp,resolve,a,d];simp[Deferred.ofValue,invoke];try rfl
 rw[b];exact afD func147 (cM func147) auP ne_next auQ rfl
def aoO(a:e (.func nNE)=.func (.func nNE) #[] #[])(h:e x=v):(execOp e ⟨dst,.call ⟨.value (.func nNE),#[x],ts⟩,ty,pos,af,gd⟩).runT prog w #[]=(.ok (.value v) w,#[⟨.mark (.extern nNE),false,true⟩]):=by
 rw[aro a,h]
end
section
variable {P:Program} {m:Bool} {fr:Frame} {xs base:List Frame} {ops:Array Oper} {i:Nat} {rest:List Nat} {k:List Item} {o:Oper} {w w2:World} {es:Array Event} {v:Value}
def amD (f:fr.mode=.run) (g:fr.kind=.normal) (b:fr.roundOf=none) (e:fr.todo=.inRegion ops (i::rest)::k) (n:ops[i]?=some o) (q:o.guard=none)
  (p:(execOp fr.eval o).runT P w #[]=(.ok (.value v) w2,es)):stepG P m (Gl (fr::xs) base) w=.go (Gl (fr.finish v::xs) base) w2 (seen P fr.fn es):=by
 obtain⟨fn,a,j,d,u,t,s⟩:=fr;dsimp only at f g b e;subst f g b e;have l:∀y,Region.wanted o y=true:=λy=>by unfold Region.wanted;rw[q]
 have r:stepG P m (Gl (⟨fn,a,.inRegion ops (i::rest)::k,d,.run,.normal,none⟩::xs) base) w =
   stepG.apply P true ⟨fn,a,.inRegion ops (i::rest)::k,d,.run,.normal,none⟩ (xs++base) none (execOp (Frame.eval ⟨fn,a,.inRegion ops (i::rest)::k,d,.run,.normal,none⟩) o) w:=by
  simp[Gl,stepG,stepG.exec,stepG.oper,Frame.oper?,n,l]
 rw[r];unfold stepG.apply;simp only[p,pv];have c:(CallKind.normal ==CallKind.early)=false:=rfl;simp[GStep.after,c,Gl]
def aeY (f:fr.mode=.run) (g:fr.kind=.normal) (b:fr.roundOf=none) (e:fr.todo=.inRegion ops (i::rest)::k) (n:ops[i]?=some o) (q:o.guard=none)
  (p:(execOp fr.eval o).runT P w #[]=(.ok .skip w2,es)):stepG P m (Gl (fr::xs) base) w=.go (Gl (fr.finish undef::xs) base) w2 (seen P fr.fn es):=by
 obtain⟨fn,a,j,d,u,t,s⟩:=fr;dsimp only at f g b e;subst f g b e;have l:∀y,Region.wanted o y=true:=λy=>by unfold Region.wanted;rw[q]
 have r:stepG P m (Gl (⟨fn,a,.inRegion ops (i::rest)::k,d,.run,.normal,none⟩::xs) base) w =
   stepG.apply P true ⟨fn,a,.inRegion ops (i::rest)::k,d,.run,.normal,none⟩ (xs++base) none (execOp (Frame.eval ⟨fn,a,.inRegion ops (i::rest)::k,d,.run,.normal,none⟩) o) w:=by
  simp[Gl,stepG,stepG.exec,stepG.oper,Frame.oper?,n,l]
 rw[r];unfold stepG.apply;simp only[p,pv];have c:(CallKind.normal ==CallKind.early)=false:=rfl;simp[GStep.after,c,Gl]
end
section
variable {P:Program} {main:Bool} {Rl:au->World->World->Prop} {Gr:au->au->World->World->Array Event->Prop} {St:au->Goroutine->World->Prop} {S Rr:au} {w0:World}
structure Cmp (Rl:au->World->World->Prop) (Gr:au->au->World->World->Array Event->Prop) (Rr:au):Prop where
 fU:∀S w,Rl S w w
 tr:∀S a b c,Rl S a b->Rl S b c->Rl S a c
 rl:∀S w w1,Rl S w w1->(∀b,S b\/Rr b->w1.heap[b]?=w.heap[b]?)/\w.heap.size<=w1.heap.size/\w1.ou=w.ou
 gr:∀S w w' es,(∀b,b<w.heap.size->¬S b->w'.heap[b]?=w.heap[b]?)->w.heap.size<=w'.heap.size->w'.ou=w.ou->(∀e∈es,ng (λb=>S b\/(w.heap.size<=b/\b<w'.heap.size)) Rr w'.heap.size e)->
   Gr S (λb=>S b\/(w.heap.size<=b/\b<w'.heap.size)) w w' es
def Cmp.same(C:Cmp Rl Gr Rr)(c:∀b,b<w.heap.size->¬S b->w'.heap[b]?=w.heap[b]?)(a:w'.heap.size=w.heap.size)(d:w'.ou=w.ou)(f:∀e∈es,ng S Rr w.heap.size e):Gr S S w w' es:=by
 have e:(λb=>S b\/(w.heap.size<=b/\b<w'.heap.size))=S:=by
  funext b
  rw[a];exact propext ⟨λh=>h.elim id λh=>absurd h.1 (by omega),.inl⟩
 have:=C.gr S w w' es c (pe a.symm) d (by rw[e,a];exact f);rw[e] at this;exact this
def bK.still (C:Cmp Rl Gr Rr) {fr:Frame} {base l2 : List Frame} {es:World->Array Event} (f:∀w,Rl S w0 w->stepG P main (Gl (fr::xs) base) w=.go (Gl l2 base) w (es w)) (d:∀w,Rl S w0 w->∀e∈es w,ng S Rr w.heap.size e)
  (g:∀w,Rl S w0 w->bK P main Rl Gr St S (Gl l2 base) w):∀w,Rl S w0 w->bK P main Rl Gr St S (Gl (fr::xs) base) w:=λw a=>
 .step rfl λb c=>⟨_,_,_,S,f b (C.tr _ _ _ _ a c),C.same (λ_ _ _=>rfl) rfl rfl (d b (C.tr _ _ _ _ a c)),g b (C.tr _ _ _ _ a c)⟩
variable {f:FuncId} {T:Array Value} {k:List Item} {xs base:List Frame}
def eG(C:Cmp Rl Gr Rr)(c:∀w,Rl S w0 w->bK P main Rl Gr St S (Gl (FQ f T (.code a :: .code b::k)::xs) base) w):∀w,Rl S w0 w->bK P main Rl Gr St S (Gl (FQ f T (.code (.seq a b)::k)::xs) base) w:=
 bK.still C (es:=λ_=>#[]) (λw _=>by simp[Gl,stepG,stepG.exec]) (λ_ _ e h=>by cases(by simpa using h:False)) c
def fY(C:Cmp Rl Gr Rr){id:Nat}{l:List Nat}(a:List.range Z.size=l)(b:∀w,Rl S w0 w->bK P main Rl Gr St S (Gl (FQ f T (.inRegion Z l::k)::xs) base) w):∀w,Rl S w0 w->bK P main Rl Gr St S (Gl (FQ f T (.code (.region id Z false)::k)::xs) base) w:=
 bK.still C (es:=λ_=>#[]) (λw _=>by subst a;simp[Gl,stepG,stepG.exec]) (λ_ _ e h=>by cases(by simpa using h:False)) b
def iu(C:Cmp Rl Gr Rr)(a:∀w,Rl S w0 w->bK P main Rl Gr St S (Gl (FQ f T k::xs) base) w):∀w,Rl S w0 w->bK P main Rl Gr St S (Gl (FQ f T (.inRegion Z []::k)::xs) base) w:=
 bK.still C (es:=λ_=>#[]) (λw _=>by simp[Gl,stepG,stepG.exec]) (λ_ _ e h=>by cases(by simpa using h:False)) a
def amF(C:Cmp Rl Gr Rr)(a:∀w,Rl S w0 w->bK P main Rl Gr St S (Gl (FQ f T k::xs) base) w):∀w,Rl S w0 w->bK P main Rl Gr St S (Gl (FQ f T (.code .skip::k)::xs) base) w:=
 bK.still C (es:=λ_=>#[]) (λw _=>by simp[Gl,stepG,stepG.exec]) (λ_ _ e h=>by cases(by simpa using h:False)) a
def abK(C:Cmp Rl Gr Rr){t:Tmp}(c:T.getD t undef=.bool q)(g:∀w,Rl S w0 w->bK P main Rl Gr St S (Gl (FQ f T (.code (if q then a else b)::k)::xs) base) w):∀w,Rl S w0 w->bK P main Rl Gr St S (Gl (FQ f T (.code (.cond (.tmp t) a b)::k)::xs) base) w:=
 have d:Frame.eval (FQ f T (.code (.cond (.tmp t) a b)::k)) (.tmp t)=.bool q:=c
 bK.still C (es:=λ_=>#[]) (λw _=>by simp[Gl,stepG,stepG.exec,d]) (λ_ _ e h=>by cases(by simpa using h:False)) g
def aAg (C:Cmp Rl Gr Rr)       (a:Z[i]?=some o) (l:o.guard=none) (b:o.dst=some d)
  (j:∀w,Rl S w0 w->(execOp (FQ f T (.inRegion Z (i::rest)::k)).eval o).runT P w #[]=(.ok (.value v) w,es)) (g:∀w,Rl S w0 w->∀e∈seen P f es,ng S Rr w.heap.size e)
  (m:∀w,Rl S w0 w->bK P main Rl Gr St S (Gl (FQ f (T.setIfInBounds d v) (.inRegion Z rest::k)::xs) base) w):∀w,Rl S w0 w->bK P main Rl Gr St S (Gl (FQ f T (.inRegion Z (i::rest)::k)::xs) base) w:=
 bK.still C (l2:=FQ f (T.setIfInBounds d v) (.inRegion Z rest::k)::xs) (es:=λ_=>seen P f es) (λw c=>by
  rw[amD rfl rfl rfl rfl a l (j w c)];have:Frame.finish (FQ f T (.inRegion Z (i::rest)::k)) v=FQ f (T.setIfInBounds d v) (.inRegion Z rest::k):=by
   simp only[Frame.finish,a,qM,b]
  rw[this]) g m
def ajf(C:Cmp Rl Gr Rr){fn:Func}(b:P.funcs[f]?=some fn)(a:fn.results=#[])(d:∀w,Rl S w0 w->bK P main Rl Gr St S (Gl (y.finish (.tuple #[])::W) base) w):∀w,Rl S w0 w->bK P main Rl Gr St S (Gl (FQ f T []::y::W) base) w:=
 bK.still C (l2:=⟨f,T,[],[],.returning,.normal,none⟩::y::W) (es:=λ_=>#[]) (λw _=>by simp[Gl,stepG,stepG.exec]) (λ_ _ e h=>by cases(by simpa using h:False))
  (bK.still C (es:=λ_=>#[]) (λw _=>by
   have c:(results fn T).runT P w #[]=(.ok (.tuple #[]) w,#[]):=by simp[results,a]
   simp only[Gl,stepG,unwind,b,c];simp[doReturn,GStep.after,seen]) (λ_ _ e h=>by cases(by simpa using h:False)) d)
def aes(C:Cmp Rl Gr Rr){id:Nat}(b:∀w,Rl S w0 w->bK P main Rl Gr St S (Gl (FQ f T (.code a :: .inBlock id::k)::xs) base) w):∀w,Rl S w0 w->bK P main Rl Gr St S (Gl (FQ f T (.code (.block id a)::k)::xs) base) w:=
 bK.still C (es:=λ_=>#[]) (λw _=>by simp[Gl,stepG,stepG.exec]) (λ_ _ e h=>by cases(by simpa using h:False)) b
def amI(C:Cmp Rl Gr Rr)(b:∀w,Rl S w0 w->bK P main Rl Gr St S (Gl (FQ f T (.code a :: .inLoop a::k)::xs) base) w):∀w,Rl S w0 w->bK P main Rl Gr St S (Gl (FQ f T (.code (.loop a)::k)::xs) base) w:=
 bK.still C (es:=λ_=>#[]) (λw _=>by simp[Gl,stepG,stepG.exec]) (λ_ _ e h=>by cases(by simpa using h:False)) b
def ap5(C:Cmp Rl Gr Rr)(b:∀w,Rl S w0 w->bK P main Rl Gr St S (Gl (FQ f T (.code a :: .inLoop a::k)::xs) base) w):∀w,Rl S w0 w->bK P main Rl Gr St S (Gl (FQ f T (.inLoop a::k)::xs) base) w:=
 bK.still C (es:=λ_=>#[]) (λw _=>by simp[Gl,stepG,stepG.exec]) (λ_ _ e h=>by cases(by simpa using h:False)) b
def aik(C:Cmp Rl Gr Rr){id:Nat}(a:∀w,Rl S w0 w->bK P main Rl Gr St S (Gl (FQ f T k::xs) base) w):∀w,Rl S w0 w->bK P main Rl Gr St S (Gl (FQ f T (.inBlock id::k)::xs) base) w:=
 bK.still C (es:=λ_=>#[]) (λw _=>by simp[Gl,stepG,stepG.exec]) (λ_ _ e h=>by cases(by simpa using h:False)) a
def amG(C:Cmp Rl Gr Rr){id:Nat}(a:exitTo id k=some k2)(b:∀w,Rl S w0 w->bK P main Rl Gr St S (Gl (FQ f T k2::xs) base) w):∀w,Rl S w0 w->bK P main Rl Gr St S (Gl (FQ f T (.code (.exit id)::k)::xs) base) w:=
 bK.still C (es:=λ_=>#[]) (λw _=>by simp[Gl,stepG,stepG.exec,a]) (λ_ _ e h=>by cases(by simpa using h:False)) b
end
section
variable {P:Program} {w:World} {e:Operand->Value} {x:Operand} {v:Value} {dst:Option Tmp} {ty:TypeId} {pos:String} {af:Array Edge} {gd:Option (Nat×Bool)}
def fF(h:e x=v):(execOp e ⟨dst,.move x,ty,pos,af,gd⟩).runT P w #[]=(.ok (.value v) w,#[]):=by rw[auO,h]
end
section
variable {P:Program} {main:Bool} {Rl:au->World->World->Prop} {Gr:au->au->World->World->Array Event->Prop} {St:au->Goroutine->World->Prop} {S Rr:au} {w0:World}
def bD(B:Nat):∀e∈seen P f #[],ng S Rr B e:=λe a=>by cases(by simpa using tp a:False)
def abJ{wr:Bool}{B:Nat}(d:S A.block)(g:A.block<B):∀e∈seen P f #[⟨.cell A,wr,false⟩],ng S Rr B e:=λe c=>by
 have h:=tp c;simp only[sJ,pb,rG,uf] at h;subst h;refine⟨λx a=>.inl ?_,λm b=>(by cases b),g⟩;simp[MemAct.ofEvent,MemAct.touch?] at a;rw[<-a];exact d
def ax2{g : FuncId}{B:Nat}:∀e∈seen P f #[⟨.mark (.extern g),false,true⟩],ng S Rr B e:=λe b=>by
 have h:=tp b;simp only[sJ,pb,rG,uf] at h;subst h;refine⟨λx c=> ?_,λm a=>.inl ⟨g,by cases a;rfl⟩,trivial⟩;simp[MemAct.ofEvent,MemAct.touch?] at c
def aeZ(C:Cmp Rl Gr Rr)(a:S A.block)(h:Rl S w0 w):w.cell? A=w0.cell? A/\w.frozen? A=w0.frozen? A/\w.shape? A.block=w0.shape? A.block/\w0.heap.size<=w.heap.size:=by
 obtain⟨b,c, -⟩:=C.rl _ _ _ h;have e:=b A.block (.inl a);refine⟨gC e, ?_, ?_,c⟩
 .unfold World.frozen?;rw[e]
 .unfold World.shape?;rw[e]
def bu(w:World)(A:Addr)(v:Value){b:Nat}(h:A.block≠b):(w.setCell A v).heap[b]?=w.heap[b]?:=by
 unfold World.setCell;simp only[pm,da h]
def aer (C:Cmp Rl Gr Rr) {T:Array Value} {base : List Frame}       (g:Z[i]?=some o) (n:o.guard=none) (j:o.dst=none)
  (m:∀w,Rl S w0 w->(execOp (FQ f T (.inRegion Z (i::rest)::k)).eval o).runT P w #[]=(.ok .skip (w.setCell A u),es)) (s:S A.block) (r:∀w,Rl S w0 w->∀e∈seen P f es,ng S Rr w.heap.size e)
  (q:∀w,Rl S w0 w->∀a,Rl S (w.setCell A u) a->bK P main Rl Gr St S (Gl (FQ f T (.inRegion Z rest::k)::xs) base) a):∀w,Rl S w0 w->bK P main Rl Gr St S (Gl (FQ f T (.inRegion Z (i::rest)::k)::xs) base) w:=λw l=>by
 refine .step rfl λa d=> ?_;have c:=C.tr _ _ _ _ l d;refine⟨_,_,_,S,aeY rfl rfl rfl rfl g n (m a c),C.same (λb _ p=>bu _ _ _ (λe=>p (e▸s))) (be _ _ _) rfl (r a c), ?_⟩;have:Frame.finish (FQ f T (.inRegion Z (i::rest)::k)) undef=FQ f T (.inRegion Z rest::k):=by
  simp only[Frame.finish,g,qM,j]
 rw[this];exact q a c _ (C.fU _ _)
def bP (C:Cmp Rl Gr Rr) {T:Array Value} {base : List Frame}       (b:d<T.size) (c:Z[i]?=some o) (l:o.guard=none) (a:o.dst=some d)
  (g:∀w,Rl S w0 w->(execOp (FQ f T (.inRegion Z (i::rest)::k)).eval o).runT P w #[]=(.ok (.value v) w,es)) (n:∀w,Rl S w0 w->∀e∈seen P f es,ng S Rr w.heap.size e)
  (m:∀T':Array Value,T'.size=T.size->T'.getD d undef=v->(∀t,t≠d->T'.getD t undef=T.getD t undef)->∀w,Rl S w0 w->bK P main Rl Gr St S (Gl (FQ f T' (.inRegion Z rest::k)::xs) base) w):∀w,Rl S w0 w->bK P main Rl Gr St S (Gl (FQ f T (.inRegion Z (i::rest)::k)::xs) base) w:=
 aAg C c l a g n (m _ (by simp) (by rw[aI b,eg rfl]) λt j=>by rw[aI b,da j])
def arp:Code->Code
 |.seq _ (.cond _ a _)=>a
 |c=>c
def arq:Code->Code
 |.seq _ (.cond _ _ b)=>b
 |c=>c
def aAh(C:Cmp Rl Gr Rr){T:Array Value}{base : List Frame}(c:20<=T.size)(e:T.getD 0 undef=.pointer (some A))(p:S A.block)(D:A.block<w0.heap.size)(q:w0.shape? A.block=some (X,n))(x:A.off<n)(z:liesAt prog prog.depth X (n / prog.cellsOf X) A.off 178 1=true)(E:w0.cell? A=some (.pointer none))(t:w0.frozen? A=false)(B:∀w,Rl S w0 w->∀s,Rl S (w.setCell A (.pointer (some A))) s->bK prog main Rl Gr St S (Gl (y.finish (.tuple #[])::W) base) s) :
  ∀w,Rl S w0 w->bK prog main Rl Gr St S (Gl (FC T [.code (arp (f139.body.getD .skip))]::y::W) base) w:=by
 have F:=λw (h:Rl S w0 w)=>aeZ (A:=A) C p h;simp only[f139,qp,arp];refine fY C (l:=[0,1,2,3,4,5,6,7]) rfl ?_;refine bP C (d:=7) (v:=.pointer (some A)) (es:=#[]) (bd (by decide) c) rfl rfl rfl (λw b=>fF e) (λw b=>bD _) ?_;intro T a g o;replace c:=ap c (pe a.symm);replace e:=(o 0 (by decide)).trans e;refine bP C (d:=8) (v:=.pointer (some A)) (es:=#[]) (bd (by decide) c) rfl rfl rfl (λw b=>fF e) (λw b=>bD _) ?_;intro T a j o;replace c:=ap c (pe a.symm);replace e:=(o 0 (by decide)).trans e;replace g:=(o 7 (by decide)).trans g;refine bP C (d:=9) (v:=.pointer (some A)) (es:=#[]) (bd (by decide) c) rfl rfl rfl (λw b=>ax1 ccT j ((F w b).2.2.1.trans q) x) (λw b=>bD _) ?_;intro T a k o;replace c:=ap c (pe a.symm);replace e:=(o 0 (by decide)).trans e;replace g:=(o 7 (by decide)).trans g;replace j:=(o 8 (by decide)).trans j;refine bP C (d:=10) (v:=.pointer (some A)) (bd (by decide) c) rfl rfl rfl (λw b=>aoO rfl k) (λw b=>ax2) ?_;intro T a f o;replace c:=ap c (pe a.symm);replace e:=(o 0 (by decide)).trans e;replace g:=(o 7 (by decide)).trans g;replace j:=(o 8 (by decide)).trans j;replace k:=(o 9 (by decide)).trans k;refine bP C (d:=11) (v:=.pointer (some A)) (es:=#[]) (bd (by decide) c) rfl rfl rfl (λw b=>arl ccT f ((F w b).2.2.1.trans q) z) (λw b=>bD _) ?_;intro T a i o;replace c:=ap c (pe a.symm);replace e:=(o 0 (by decide)).trans e;replace g:=(o 7 (by decide)).trans g;replace j:=(o 8 (by decide)).trans j;replace k:=(o 9 (by decide)).trans k;replace f:=(o 10 (by decide)).trans f;refine bP C (d:=12) (v:=.pointer (some A)) (es:=#[]) (bd (by decide) c) rfl rfl rfl (λw b=>als g) (λw b=>bD _) ?_;intro T a m o;replace c:=ap c (pe a.symm);replace e:=(o 0 (by decide)).trans e;replace g:=(o 7 (by decide)).trans g;replace j:=(o 8 (by decide)).trans j;replace k:=(o 9 (by decide)).trans k;replace f:=(o 10 (by decide)).trans f;replace i:=(o 11 (by decide)).trans i;refine bP C (d:=13) (v:=.pointer (some A)) (es:=#[]) (bd (by decide) c) rfl rfl rfl (λw b=>aeX ccT m) (λw b=>bD _) ?_;intro T a r o;replace c:=ap c (pe a.symm);replace e:=(o 0 (by decide)).trans e;replace g:=(o 7 (by decide)).trans g;replace j:=(o 8 (by decide)).trans j;replace k:=(o 9 (by decide)).trans k;replace f:=(o 10 (by decide)).trans f;replace i:=(o 11 (by decide)).trans i;replace m:=(o 12 (by decide)).trans m;refine aer C (A:=A) (u:=.pointer (some A)) rfl rfl rfl (λw b=>arn ccT (A:=A) (u:=some A) r i ((F w b).1.trans E) ((F w b).2.1.trans t)) p (λw b=>abJ p (bd D (F w b).2.2.2)) ?_;intro w b;exact iu C (ajf C func139 rfl (B w b))
def aAi(C:Cmp Rl Gr Rr){T:Array Value}{base : List Frame}(e:20<=T.size)(i:T.getD 0 undef=.pointer (some A))(m:S A.block)(t:A.block<w0.heap.size)(r:w0.cell? A=some (.pointer (some A)))(s:∀w,Rl S w0 w->∀p,Rl S (w.setCell A (.pointer (some A))) p->bK prog main Rl Gr St S (Gl (y.finish (.tuple #[])::W) base) p) :
  ∀w,Rl S w0 w->bK prog main Rl Gr St S (Gl (FC T [.code (arq (f139.body.getD .skip))]::y::W) base) w:=by
 have F:=λw (h:Rl S w0 w)=>aeZ (A:=A) C m h;simp only[f139,qp,arq];refine eG C ?_;refine fY C (l:=[0,1,2,3,4,5]) rfl ?_;refine bP C (d:=14) (v:=.pointer (some A)) (es:=#[]) (bd (by decide) e) rfl rfl rfl (λw f=>fF i) (λw f=>bD _) ?_;intro T a b o;replace e:=ap e (pe a.symm);replace i:=(o 0 (by decide)).trans i;refine bP C (d:=15) (v:=.pointer (some A)) (es:=#[]) (bd (by decide) e) rfl rfl rfl (λw f=>als b) (λw f=>bD _) ?_;intro T a c o;replace e:=ap e (pe a.symm);replace i:=(o 0 (by decide)).trans i;replace b:=(o 14 (by decide)).trans b;refine bP C (d:=16) (v:=.pointer (some A)) (es:=#[]) (bd (by decide) e) rfl rfl rfl (λw f=>aeX ccT c) (λw f=>bD _) ?_;intro T a g o;replace e:=ap e (pe a.symm);replace i:=(o 0 (by decide)).trans i;replace b:=(o 14 (by decide)).trans b;replace c:=(o 15 (by decide)).trans c;refine bP C (d:=17) (v:=.pointer (some A)) (bd (by decide) e) rfl rfl rfl (λw f=>anm ccT g ((F w f).1.trans r)) (λw f=>abJ m (bd t (F w f).2.2.2)) ?_;intro T a j o;replace e:=ap e (pe a.symm);replace i:=(o 0 (by decide)).trans i;replace b:=(o 14 (by decide)).trans b;replace c:=(o 15 (by decide)).trans c;replace g:=(o 16 (by decide)).trans g;refine bP C (d:=18) (v:=.pointer (some A)) (es:=#[]) (bd (by decide) e) rfl rfl rfl (λw f=>fF i) (λw f=>bD _) ?_;intro T a k o;replace e:=ap e (pe a.symm);replace i:=(o 0 (by decide)).trans i;replace b:=(o 14 (by decide)).trans b;replace c:=(o 15 (by decide)).trans c;replace g:=(o 16 (by decide)).trans g;replace j:=(o 17 (by decide)).trans j;refine bP C (d:=19) (v:=.bool false) (es:=#[]) (bd (by decide) e) rfl rfl rfl (λw f=>ax0 ccT (A:=A) j k) (λw f=>bD _) ?_;intro T a n o;replace e:=ap e (pe a.symm);replace i:=(o 0 (by decide)).trans i;replace b:=(o 14 (by decide)).trans b;replace c:=(o 15 (by decide)).trans c;replace g:=(o 16 (by decide)).trans g;replace j:=(o 17 (by decide)).trans j;replace k:=(o 18 (by decide)).trans k;refine iu C ?_;refine abK C (q:=false) n ?_;simp only[qL,lc];refine amF C ?_;refine ajf C func139 rfl ?_;intro w f;refine s w f w ?_;rw[ahs ((F w f).1.trans r)];exact C.fU _ _
def ars(C:Cmp Rl Gr Rr){T:Array Value}{base : List Frame}(c:20<=T.size)(g:T.getD 0 undef=.pointer (some A))(j:S A.block)(u:A.block<w0.heap.size)(t:w0.shape? A.block=some (X,n))(I:A.off<n)(J:liesAt prog prog.depth X (n / prog.cellsOf X) A.off 178 1=true)(x:w0.cell? A=some v)(H:w0.frozen? A=false)(G:v=.pointer none\/v=.pointer (some A))(D:∀w,Rl S w0 w->∀B,Rl S (w.setCell A (.pointer (some A))) B->bK prog main Rl Gr St S (Gl (y.finish (.tuple #[])::W) base) B) :
  ∀w,Rl S w0 w->bK prog main Rl Gr St S (Gl (FC T [.code (f139.body.getD .skip)]::y::W) base) w:=by
 have F:=λw (h:Rl S w0 w)=>aeZ (A:=A) C j h;obtain⟨a,rfl⟩:∃a,v=.pointer a:=G.elim (λe=>⟨_,e⟩) λe=>⟨_,e⟩;have z:=λ(p:Array Value) (b:20<=p.size) (f:p.getD 0 undef=.pointer (some A)) (k:w0.cell? A=some (.pointer none))=>aAh (T:=p) C b f j u t I J k H D
 have E:=λ(p:Array Value) (b:20<=p.size) (f:p.getD 0 undef=.pointer (some A)) (k:w0.cell? A=some (.pointer (some A)))=>aAi (T:=p) C b f j u k D
 simp only[f139,qp,arp,arq] at z E ⊢;refine eG C ?_;refine fY C (l:=[0,1,2,3,4]) rfl ?_;refine bP C (d:=2) (v:=.pointer (some A)) (es:=#[]) (bd (by decide) c) rfl rfl rfl (λw i=>fF g) (λw i=>bD _) ?_;intro T b f o;replace c:=ap c (pe b.symm);replace g:=(o 0 (by decide)).trans g;refine bP C (d:=3) (v:=.pointer (some A)) (es:=#[]) (bd (by decide) c) rfl rfl rfl (λw i=>als f) (λw i=>bD _) ?_;intro T b m o;replace c:=ap c (pe b.symm);replace g:=(o 0 (by decide)).trans g;replace f:=(o 2 (by decide)).trans f;refine bP C (d:=4) (v:=.pointer (some A)) (es:=#[]) (bd (by decide) c) rfl rfl rfl (λw i=>aeX ccT m) (λw i=>bD _) ?_;intro T b r o;replace c:=ap c (pe b.symm);replace g:=(o 0 (by decide)).trans g;replace f:=(o 2 (by decide)).trans f;replace m:=(o 3 (by decide)).trans m;refine bP C (d:=5) (v:=.pointer a) (bd (by decide) c) rfl rfl rfl (λw i=>anm ccT r ((F w i).1.trans x)) (λw i=>abJ j (bd u (F w i).2.2.2)) ?_;intro T b s o;replace c:=ap c (pe b.symm);replace g:=(o 0 (by decide)).trans g;replace f:=(o 2 (by decide)).trans f;replace m:=(o 3 (by decide)).trans m;replace r:=(o 4 (by decide)).trans r;refine bP C (d:=6) (v:=.bool a.isNone) (bd (by decide) c) rfl rfl rfl (λw i=>axZ ccT (a:=a) s rfl) (λw i=>bD _) ?_;intro T b K o;replace c:=ap c (pe b.symm);replace g:=(o 0 (by decide)).trans g;replace f:=(o 2 (by decide)).trans f;replace m:=(o 3 (by decide)).trans m;replace r:=(o 4 (by decide)).trans r;replace s:=(o 5 (by decide)).trans s;refine iu C ?_;refine abK C (q:=a.isNone) K ?_;rcases G with e|e
 .cases e;simp only[Option.isNone_none,pv];exact z _ c g x
 .cases e;simp only[Option.isNone_some,qL,lc];exact E _ c g x
end
noncomputable def art(f:FuncId):Bool:=match prog.funcs[f]? with
 |some fn=>!(fn.name == "loop.example/depositary/impl.fetchAll" || fn.name == "(*strings.Builder).copyCheck")||f ==cF||f ==nCC
 |none=>true
def alu:(List.range prog.funcs.size).all art=true:=by kernel_rfl
def xE(h:gH f=true):f=cF\/f=nCC:=by
 unfold gH at h;cases b:prog.funcs[f]? with
 |none=>rw[b] at h;cases h
 |some fn=>
  rw[b] at h;have a:=lP.1 alu f (qz.2 (dl.1 b).1);unfold art at a;rw[b] at a;dsimp only at h a;rw[h] at a;simpa using a
def aru :Frame.enter prog nCC Q .normal=FC (T0C Q) [.code (f139.body.getD .skip)]:=by
 unfold Frame.enter;rw[func139];rfl
def arv(d:w.shape? A.block=some (e,n))(a:w.cell? A=some v):A.off<n:=by
 unfold World.shape? at d;unfold World.cell? at a;cases f:w.heap[A.block]? with
 |none=>rw[f] at a;simp at a
 |some o=>
  rw[f] at d a;cases o with
  |cells c t z=>
   cases b:A.spot with
   |some s=>simp[b] at a
   |none=>
    simp[b] at a d;have:=(dl.1 a).1;omega
  |_=>simp at a
def aaI{b:Nat}(h:R.heap[b]?=w.heap[b]?):(R.setCell A u).heap[b]?=(w.setCell A u).heap[b]?:=by
 unfold World.setCell;simp only[pm,h]
section
variable {β main:Bool} {Rl:au->World->World->Prop} {Gr:au->au->World->World->Array Event->Prop} {Rr:au} {R:List Frame->World->Prop}
def af0(C:Cmp Rl Gr Rr){base:List Frame}:xq (ai β) prog R Rr main Rl Gr base:=by
 intro f c ρ a T m m' l S hf r ha M hc I hg hW E;obtain rfl:f=nCC:=(xE hf).resolve_left r;obtain⟨_,_,y,ys,rfl,rfl⟩:=M.ne';obtain⟨A,v,e,n,c1,Y,h0,q,W,d,V,hv,⟨N,t⟩,B,i,G⟩:=auN ha M hc I hg hW;have j:ρ.r N.block A.block:=by cases t with|mk h o s=>exact h
 have z:S A.block:=by
  rcases E _ _ j with h|⟨_,P,X⟩
  .exact h
  .exact(B _ j P X).elim
 have hB:A.block<l.heap.size:=(I.lt j).2;have U:20<=(T0C T).size:=by simp only[T0C,sD,tk];omega
 rw[aru];have F:liesAt prog prog.depth e (n / prog.cellsOf e) A.off 178 1=true:=by
  rw[<-W];exact(aqv prog _ _ _ _ _ _ _).symm
 refine ars C U h0 z hB q (arv q d) F d V hv (λw Q w1 x=> ?_) l (C.fU _ _);refine .stop λw2 u=> ?_;have L:=i.kept;have p:(l.setCell A (.pointer (some A))).heap.size=l.heap.size:=be _ _ _;have g:=E.step i.wr L;have hS:(λb=>S b\/(l.heap.size<=b/\b<(l.setCell A (.pointer (some A))).heap.size))=S:=by
  funext b
  rw[p];exact propext ⟨λh=>h.elim id λh=>absurd h.1 (by omega),.inl⟩
 rw[hS] at g;obtain⟨K,r2,O⟩:=C.rl _ _ _ Q;obtain⟨J,s2,Z⟩:=C.rl _ _ _ (C.tr _ _ _ _ x u);refine⟨c1,Y,_,G,i.le,λ_ k=>k,rfl,⟨i.st, ?_,i.gl,i.will,g⟩,.anj L λb D k=> ?_⟩
 case refine_2=>
  have H:=(E b D k).imp (λh=>h) (λh=>h.1);exact(J D H).trans (aaI (K D H))
 refine i.wr.rely g (λb k=>(J b k).trans (aaI (K b k))) ?_ ?_
 .rw[p];have:(w.setCell A (.pointer (some A))).heap.size=w.heap.size:=be _ _ _;omega
 .exact Z.trans O
end
structure FaT (P:Program):Prop where
 u3:P.underlying 3=some (.int .i64)
 u9:P.underlying 9=some .string
 u23:P.underlying 23=some (.slice 59)
 u31:P.underlying 98=some (.slice 3)
 u38:P.underlying 57=some (.slice 68)
 agN:P.underlying 127=some (.slice 140)
 auR:∃ms,P.underlying 180=some (.interface ms)
 u40:∃fs g0 g1,P.underlying 59=some (.struct fs)/\fs[0]?=some g0/\fs[1]?=some g1/\g0.offset=0/\g0.type=3/\g1.offset=1/\g1.type=57
 auS:∃fs g0 g1,P.underlying 68=some (.struct fs)/\fs[0]?=some g0/\fs[1]?=some g1/\g0.offset=0/\g0.type=3/\g1.offset=1/\g1.type=9
 auT:∃fs,P.underlying 140=some (.struct fs)
 i3:∃i,P.info? 3=some i/\i.size=1
 i40:∃i,P.info? 59=some i/\i.size=2
 i110:∃i,P.info? 68=some i/\i.size=2
 adD:∃i,P.info? 140=some i/\i.size=2/\i.bytes=24/\i.zero=some (.agg #[.string ⟨#[]⟩,.bool false])
 i247:∃i,P.info? 127=some i/\i.size=1/\i.zero=some (.slice none 0 0)
def auU:((prog.info? 3).map (·.size ==1)=some true/\(prog.info? 59).map (·.size ==2)=some true)/\((prog.info? 68).map (·.size ==2)=some true/\(prog.info? 140).map (λi=>i.size ==2&&i.bytes ==24)=some true):=by
 refine⟨⟨?_, ?_⟩, ?_, ?_⟩<;>kernel_rfl
def aAj:(prog.info? 140).map (·.zero)=some (some (.agg #[.string ⟨#[]⟩,.bool false])):=by kernel_rfl
def aAk:(prog.info? 127).map (λi=>(i.size,i.zero))=some (1,some (.slice none 0 0)):=by kernel_rfl
def faT:FaT prog where
 u3:=underlying3
 u9:=underlying9
 u23:=underlying23
 u31:=underlying98
 u38:=underlying57
 agN:=underlying127
 auR:=⟨_,underlying180⟩
 u40:=⟨_,_,_,underlying59,rfl,rfl,rfl,rfl,rfl,rfl⟩
 auS:=⟨_,_,_,underlying68,rfl,rfl,rfl,rfl,rfl,rfl⟩
 auT:=⟨_,underlying140⟩
 i3:=let⟨i,h,k⟩:=lw.1 auU.1.1;⟨i,h,by simpa using k⟩
 i40:=let⟨i,h,k⟩:=lw.1 auU.1.2;⟨i,h,by simpa using k⟩
 i110:=let⟨i,h,k⟩:=lw.1 auU.2.1;⟨i,h,by simpa using k⟩
 adD:=by
  obtain⟨i,h,k⟩:=lw.1 auU.2.2;have z:=aAj;rw[h] at z;simp only[ge,oE] at k;exact⟨i,h,k.1,k.2,by simpa using z⟩
 i247:=by
  obtain⟨i,h,k⟩:=lw.1 aAk;simp only[vu] at k;exact⟨i,h,k.1,k.2⟩
def faQ(β:Bool):FaT (ai β) where
 u3:=(cP prog _ _).trans faT.u3
 u9:=(cP prog _ _).trans faT.u9
 u23:=(cP prog _ _).trans faT.u23
 u31:=(cP prog _ _).trans faT.u31
 u38:=(cP prog _ _).trans faT.u38
 agN:=(cP prog _ _).trans faT.agN
 auR:=let⟨d,h⟩:=faT.auR;⟨d,(cP prog _ _).trans h⟩
 u40:=let⟨a,b,c,h,k⟩:=faT.u40;⟨a,b,c,(cP prog _ _).trans h,k⟩
 auS:=let⟨a,b,c,h,k⟩:=faT.auS;⟨a,b,c,(cP prog _ _).trans h,k⟩
 auT:=let⟨d,h⟩:=faT.auT;⟨d,(cP prog _ _).trans h⟩
 i3:=let⟨i,h,k⟩:=faT.i3;⟨i,(ko prog _ _).trans h,k⟩
 i40:=let⟨i,h,k⟩:=faT.i40;⟨i,(ko prog _ _).trans h,k⟩
 i110:=let⟨i,h,k⟩:=faT.i110;⟨i,(ko prog _ _).trans h,k⟩
 adD:=let⟨i,h,k⟩:=faT.adD;⟨i,(ko prog _ _).trans h,k⟩
 i247:=let⟨i,h,k⟩:=faT.i247;⟨i,(ko prog _ _).trans h,k⟩
def lI{s:Sem Value}{a:Next}(h:(s.bind λv=>Sem.pure (Next.value v)).run P w=.ok a R):∃v,a=.value v/\s.run P w=.ok v R:=by
 obtain⟨v,b,d,c⟩:=ea (s:=s) h;cases(show Result.ok (Next.value v) b=Result.ok a R from c);exact⟨v,rfl,d⟩
section
variable {P:Program} {w w3:World} {e:Operand->Value} {x y:Operand} {nx:Next} {a b:Int} {dst:Option Tmp} {ty:TypeId} {pos:String} {af:Array Edge} {gd:Option (Nat×Bool)}
def jC(h:(execOp e ⟨dst,.assign x,ty,pos,af,gd⟩).run P w=.ok nx w3):∃v,nx=.value v/\(v=e x/\w3=w):=by
 cases(show Result.ok (Next.value (e x)) w=Result.ok nx w3 from h);exact⟨_,rfl,rfl,rfl⟩
def aht(h:(execOp e ⟨dst,.move x,ty,pos,af,gd⟩).run P w=.ok nx w3):∃v,nx=.value v/\(v=e x/\w3=w):=by
 cases(show Result.ok (Next.value (e x)) w=Result.ok nx w3 from h);exact⟨_,rfl,rfl,rfl⟩
def arw(d:e y=.int .i64 b)(h:(execOp e ⟨dst,.binOp .lss 3 x y 3,ty,pos,af,gd⟩).run P w=.ok nx w3):∃v,nx=.value v/\(∃a,e x=.int .i64 a/\v=.bool (decide (a<b))/\w3=w):=by
 obtain⟨v,rfl,f⟩:=lI (s:=binOp .lss 3 (e x) (e y)) h;have h:=f;refine⟨v,rfl, ?_⟩;rw[d] at h;generalize e x=u at h ⊢;cases u with
 |int k n=>
  by_cases c:k=.i64
  .subst c;cases(show Result.ok (.bool (decide (n<b))) w=Result.ok v w3 from h);exact⟨_,rfl,rfl,rfl⟩
  .simp only[binOp,c,ne_eq,not_false_eq_true,pv] at h;cases(show Result.halt _ _=Result.ok v w3 from h)
 |pointer p=>cases p<;>cases(show Result.halt _ _=Result.ok v w3 from h)
 |_=>cases(show Result.halt _ _=Result.ok v w3 from h)
def gI(i:e x=.int .i64 a)(d:e y=.int .i64 b)(h:(execOp e ⟨dst,.binOp .lss 3 x y 3,ty,pos,af,gd⟩).run P w=.ok nx w3):∃v,nx=.value v/\(v=.bool (decide (a<b))/\w3=w):=by
 obtain⟨v,rfl,j,c,f,g⟩:=arw d h;rw[i] at c;cases c;exact⟨_,rfl,f,g⟩
def alv(h:(execOp e ⟨dst,.binOp .mul 3 x (.const (.int .i64 1)) 3,ty,pos,af,gd⟩).run P w=.ok nx w3)(c:e (.const (.int .i64 1))=.int .i64 1):∃v,nx=.value v/\(∃a,e x=.int .i64 a/\v=.int .i64 (IntKind.i64.wrap (a*1))/\w3=w):=by
 obtain⟨v,rfl,d⟩:=lI (s:=binOp .mul 3 (e x) (e (.const (.int .i64 1)))) h;have h:=d;refine⟨v,rfl, ?_⟩;rw[c] at h;generalize e x=u at h ⊢;cases u with
 |int k n=>
  by_cases b:k=.i64
  .subst b;cases(show Result.ok (.int .i64 (IntKind.i64.wrap (n*1))) w=Result.ok v w3 from h);exact⟨_,rfl,rfl,rfl⟩
  .simp only[binOp,b,ne_eq,not_false_eq_true,pv] at h;cases(show Result.halt _ _=Result.ok v w3 from h)
 |pointer p=>cases p<;>cases(show Result.halt _ _=Result.ok v w3 from h)
 |_=>cases(show Result.halt _ _=Result.ok v w3 from h)
def alx(d:e x=.int .i64 a)(c:e (.const (.int .i64 1))=.int .i64 1)(h:(execOp e ⟨dst,.binOp .add 3 x (.const (.int .i64 1)) 3,ty,pos,af,gd⟩).run P w=.ok nx w3):∃v,nx=.value v/\(v=.int .i64 (IntKind.i64.wrap (a+1))/\w3=w):=by
 obtain⟨v,rfl,b⟩:=lI (s:=binOp .add 3 (e x) (e (.const (.int .i64 1)))) h;have h:=b;rw[d,c] at h;cases(show Result.ok (.int .i64 (IntKind.i64.wrap (a+1))) w=Result.ok v w3 from h);exact⟨_,rfl,rfl,rfl⟩
def aly(f:e x=.int .i64 a)(c:e y=.int .i64 b)(h:(execOp e ⟨dst,.binOp .eql 3 x y 3,ty,pos,af,gd⟩).run P w=.ok nx w3):∃v,nx=.value v/\(v=.bool (a ==b)/\w3=w):=by
 have g:eqGuard .eql 3 x y (e x) (e y)=Sem.pure ():=by rw[f,c];rfl
 have d:(((eqGuard .eql 3 x y (e x) (e y)).bind λ_=>binOp .eql 3 (e x) (e y)).bind λv=>Sem.pure (Next.value v)).run P w=.ok nx w3:=h;clear h;rw[g] at d;obtain⟨v,rfl,h⟩:=lI (s:=binOp .eql 3 (e x) (e y)) d;rw[f,c] at h;cases(show Result.ok (.bool (a ==b)) w=Result.ok v w3 from h);exact⟨_,rfl,rfl,rfl⟩
def pq{a:Builtin}{t:Tmp}{s:Value->Sem Value}(d:∀c v,builtin a #[t0] ty c #[v]=(s v).bind λu=>Sem.pure (.value u)):execOp e ⟨dst,.call ⟨.builtin a,#[.tmp t],#[t0]⟩,ty,pos,af,gd⟩=(s (e (.tmp t))).bind λu=>Sem.pure (.value u):=by
 have b:Array.map e #[.tmp t]=#[e (.tmp t)]:=by simp
 simp only[execOp,resolve];rw[b];exact d _ _
def ahu{t:Tmp}(k:P.underlying t0=some (.slice X))(h:(execOp e ⟨dst,.call ⟨.builtin .len,#[.tmp t],#[t0]⟩,ty,pos,af,gd⟩).run P w=.ok nx w3) :
  ∃v,nx=.value v/\(∃A n c,e (.tmp t)=.slice A n c/\v=.int .i64 n/\w3=w):=by
 rw[pq (s:=λv=>Builtin.len_ #[t0] ty #[v]) λ_ v=>rfl] at h;obtain⟨v,rfl,g⟩:=lI h;have h:=g;refine⟨v,rfl, ?_⟩;generalize e (.tmp t)=u at h ⊢;obtain⟨d,l,g,j⟩:=ea (s:=underlying t0) (f:=λd=>match d,u with
  |.string,.string s=>pure (goInt s.size)
  |.array n _,_=>pure (goInt n)
  |.pointer arr,_=>(underlying arr).bind λd=>match d with
   |.array n _=>pure (goInt n)
   |_=>stuck "len: pointer to array expected"
  |.slice _,.slice _ n _=>pure (goInt n)
  |.map _ _,.map none|.chan _ _,.chan none=>pure (goInt 0)
  |.map _ _,.map (some r)=>(getObj r).bind λo=>match o with
   |.map a _=>pure (goInt a.size)
   |_=>stuck "len: map expected"
  |.chan _ _,.chan (some r)=>(getObj r).bind λo=>match o with
   |.chan _ i _ _ _ b=>pure (goInt (if b then 0 else i.size))
   |_=>stuck "len: channel expected"
  |_,_=>stuck "len: string, array, pointer to array, slice, map or channel expected") h
 rw[mu k] at g;cases g;cases u with
 |slice A n c=>
  cases(show Result.ok (.int .i64 n) w=Result.ok v w3 from j);exact⟨A,n,c,rfl,rfl,rfl⟩
 |_=>cases(show Result.halt _ _=Result.ok v w3 from j)
end
def ajg:TypeDesc->Bool
 |.struct _|.array .. =>false
 |_=>true
def auV{s:Sem V}(h:lh P s){v:V}:s.run P w ≠ .ok v w':=λe=>by
 obtain⟨q,b,c,a, -⟩:=Leaves.avO h w #[];rw[<-ry _ _ _ #[],a] at e;cases e
def ajh(k:IntKind)(x y:Int)(c:BoundsCode):lh P (boundsPanic k x y c:Sem V):=by
 rw[acy];refine iW ?_ λa=>eF _;split
 .exact λ_=>trivial
 .exact trivial
section
variable {P:Program} (F:FaT P) {w w3:World} {e:Operand->Value} {x y:Operand} {nx:Next} {dst:Option Tmp} {ty:TypeId} {pos:String} {af:Array Edge} {gd:Option (Nat×Bool)}
def alz{t:Tmp}{A:Option Addr}(b:P.underlying t0=some (.slice X))(d:e (.tmp t)=.slice A n c)(h:(execOp e ⟨dst,.call ⟨.builtin .cap,#[.tmp t],#[t0]⟩,ty,pos,af,gd⟩).run P w=.ok nx w3) :
  ∃v,nx=.value v/\(v=.int .i64 c/\w3=w):=by
 rw[pq (s:=λv=>Builtin.cap_ #[t0] ty #[v]) λ_ v=>rfl,d] at h;obtain⟨v,rfl,a⟩:=lI h;refine⟨v,rfl, ?_⟩;have:(Builtin.cap_ #[t0] ty #[.slice A n c]).run P w=.ok (.int .i64 c) w:=by
  simp[Builtin.cap_,mu b,goInt]
 rw[this] at a;cases a;exact⟨rfl,rfl⟩
include F in
theorem auW{t:Tmp}(h:(execOp e ⟨dst,.call ⟨.builtin .len,#[.tmp t],#[9]⟩,ty,pos,af,gd⟩).run P w=.ok nx w3) :
  ∃v,nx=.value v/\(∃s:ByteArray,e (.tmp t)=.string s/\v=.int .i64 s.size/\w3=w):=by
 rw[pq (s:=λv=>Builtin.len_ #[9] ty #[v]) λ_ v=>rfl] at h;obtain⟨v,rfl,a⟩:=lI h;refine⟨v,rfl, ?_⟩;generalize e (.tmp t)=u at a ⊢;cases u with
 |string s=>
  have:(Builtin.len_ #[9] ty #[.string s]).run P w=.ok (.int .i64 s.size) w:=by
   simp[Builtin.len_,mu F.u9,goInt]
  rw[this] at a;cases a;exact⟨s,rfl,rfl,rfl⟩
 |_=>simp[Builtin.len_,mu F.u9,stuck] at a
theorem aaJ{t:TypeId}{a:TypeDesc}(b:P.underlying t=some a):Leaves P (λd=>d=a) (underlying t):=by
 unfold underlying;show Leaves P (λd=>d=a) (match P.underlying t with
  |some d=>pure d
  |none=>stuck "no such type")
 rw[b];exact rfl
theorem auX{t:TypeId}(a:P.underlying t=some (.struct S)):(isAgg t).run P w=.ok true w:=by simp[isAgg,mu a]
theorem aji{t:TypeId}{d:TypeDesc}(a:P.underlying t=some d)(b:ajg d=true):(isAgg t).run P w=.ok false w:=by
 cases d<;>first|(cases b;done)|simp[isAgg,mu a]
theorem ae0(b:NoV P w A)(h:(load A).run P w=.ok v w3):w3=w/\w.cell? A=some v:=by
 have h:(Sem.load .plain A Sem.pure).run P w=.ok v w3:=h;unfold Sem.run at h;cases a:w.cell? A with
 |some u=>
  simp only[a,Sem.run,sS] at h;exact⟨h.2.symm,by rw[h.1]⟩
 |none=>
  obtain⟨e,c⟩:=(b.2 a).1 (Mode.plain ==.atomic);simp only[a,c] at h;cases h
theorem ahv{t:TypeId}{d:TypeDesc}(j:P.underlying t=some d)(i:ajg d=true)(l:e x=.pointer (some A))(m:NoV P w A)(h:(execOp e ⟨dst,.load t x,ty,pos,af,gd⟩).run P w=.ok nx w3) :
  ∃v,nx=.value v/\(w.cell? A=some v/\w3=w):=by
 obtain⟨v,rfl,g⟩:=lI (s:=Instr.loadAt t (e x)) h;refine⟨v,rfl, ?_⟩;rw[l] at g;obtain⟨q,r,a,k⟩:=ea (s:=isAgg t) (f:=λb=>if b then(sizeOf t).bind λn=>(loadCells A n).bind λc=>Sem.pure (Value.agg c) else load A) g;rw[aji j i] at a;cases a;obtain⟨o,p⟩:=ae0 m k;exact⟨p,o⟩
theorem ajj{t:TypeId}{i:TypeInfo}(D:P.underlying t=some (.struct S))(hi:P.info? t=some i)(B:i.size=2)(F:e x=.pointer (some A))(I:NoV P w A)(k:NoV P w (A.add 1))(h:(execOp e ⟨dst,.load t x,ty,pos,af,gd⟩).run P w=.ok nx w3) :
  ∃v,nx=.value v/\(∃d a,v=.agg #[d,a]/\w.cell? A=some d/\w.cell? (A.add 1)=some a/\w3=w):=by
 obtain⟨v,rfl,u⟩:=lI (s:=Instr.loadAt t (e x)) h;refine⟨v,rfl, ?_⟩;rw[F] at u;obtain⟨q,g,p,E⟩:=ea (s:=isAgg t) (f:=λb=>if b then(sizeOf t).bind λn=>(loadCells A n).bind λc=>Sem.pure (Value.agg c) else load A) u;rw[auX D] at p;cases p;obtain⟨n,g,r,z⟩:=ea (s:=sizeOf t) (f:=λn=>(loadCells A n).bind λc=>Sem.pure (Value.agg c)) E;have:(sizeOf t).run P w=.ok 2 w:=by simp[sizeOf,typeInfo,hi,B]
 rw[this] at r;cases r;obtain⟨c,g,G,y⟩:=ea (s:=loadCells A 2) (f:=λc=>Sem.pure (Value.agg c)) z;cases(show Result.ok (.agg c) g=Result.ok v w3 from y);obtain⟨d,K,C,H⟩:=ea (s:=load (A.add 0)) (f:=λd=>(load (A.add 1)).bind λa=>Sem.pure #[d,a]) G;obtain⟨rfl,l⟩:=ae0 I C;obtain⟨a,J,o,m⟩:=ea (s:=load (A.add 1)) (f:=λa=>Sem.pure #[d,a]) H;obtain⟨rfl,j⟩:=ae0 k o;cases(show Result.ok #[d,a] _=Result.ok c _ from m);exact⟨d,a,rfl,l,j,rfl⟩
theorem ab9{t:TypeId}{g:Field}{f:Nat}{d:TypeDesc}{cs:Array Value}(i:P.underlying t=some (.struct S))(c:S[f]?=some g)(j:P.underlying g.type=some d)(b:ajg d=true)(l:e x=.agg cs)(k:cs[g.offset]?=some u)(h:(execOp e ⟨dst,.field t x f,ty,pos,af,gd⟩).run P w=.ok nx w3) :
  ∃v,nx=.value v/\(v=u/\w3=w):=by
 obtain⟨v,rfl,a⟩:=lI (s:=Instr.field t (e x) f) h;refine⟨v,rfl, ?_⟩;rw[l] at a;have:(Instr.field t (.agg cs) f).run P w=.ok u w:=by
  simp[Instr.field,mu i,c,asAgg,part,aji j b,k]
 rw[this] at a;cases a;exact⟨rfl,rfl⟩
theorem aca{t : TypeId}{i:TypeInfo}{A:Option Addr}{k : Nat}(f:P.underlying t=some (.slice X))(hi:P.info? X=some i)(l:e x=.slice A n c)(j:e y=.int .i64 k)(m:k<n)(h:(execOp e ⟨dst,.indexAddr t x y,ty,pos,af,gd⟩).run P w=.ok nx w3) :
  ∃v,nx=.value v/\(∃a,A=some a/\v=.pointer (some (a.add (k*i.size)))/\w3=w):=by
 obtain⟨v,rfl,b⟩:=lI (s:=Instr.indexAt t (e x) (e y)) h;refine⟨v,rfl, ?_⟩;rw[l,j] at b;have o:(0:Int)<=k/\(k:Int)<n:=by omega
 cases A with
 |none=>
  exfalso;have hd:lh P (Instr.indexAt t (.slice none n c) (.int .i64 k)):=by
   unfold Instr.indexAt;refine Leaves.bind (A:=λq=>q=(IntKind.i64,(k:Int))) rfl λq g=> ?_;subst g;refine Leaves.bind (aaJ f) λd hd=> ?_;subst hd;refine Leaves.bind (s:=Sem.pure (none,n,X)) (A:=λq=>q=(none,n,X)) rfl λq g=> ?_;subst g;exact Leaves.bind (aaJ f) λd hd=>ajh _ _ _ _
  exact auV hd b
 |some a=>
  have:(Instr.indexAt t (.slice (some a) n c) (.int .i64 k)).run P w=.ok (.pointer (some (a.add (k*i.size)))) w:=by
   simp[Instr.indexAt,asIntOf,mu f,m,sizeOf,typeInfo,hi]
  rw[this] at b;cases b;exact⟨a,rfl,rfl,rfl⟩
end
def akn:Value->Bool
 |.agg _|.tuple _=>false
 |_=>true
section
variable {P:Program} (F:FaT P) {w w3:World} {e:Operand->Value} {x y:Operand} {nx:Next} {dst:Option Tmp} {ty:TypeId} {pos:String} {af:Array Edge} {gd:Option (Nat×Bool)}
def acQ{c : Value}(b:akn u=true)(f:w.cell? A=some c)(d:w.frozen? A=false)(k:Sem V):(Sem.store .plain A u k).run P w=k.run P (w.setCell A u):=by
 have a:(∀x,u ≠ .agg x)/\∀x,u ≠ .tuple x:=⟨λx e=>(by subst e;cases b),λx e=>(by subst e;cases b)⟩;rw[<-ry _ _ _ #[],sE _ _ _ _ _ _ _ a.1 a.2];simp only[f,d,lc,qL];rw[ry]
def arx :A.add 1≠A:=by
 unfold Addr.add;intro e;have:=jt Addr.off e;simp at this
include F in
theorem aoP{u0 u1 c0 c1:Value}(k:akn u0=true)(r:akn u1=true)(o:e x=.pointer (some A))(j:e y=.agg #[u0,u1])(a:w.cell? A=some c0)(d:w.frozen? A=false)(f:w.cell? (A.add 1)=some c1)(b:w.frozen? (A.add 1)=false) :
  (execOp e ⟨dst,.store 140 x y,ty,pos,af,gd⟩).run P w=.ok .skip ((w.setCell A u0).setCell (A.add 1) u1):=by
 obtain⟨i,m,t, -⟩:=F.adD;have p:(storeCells A [u0,u1] 0).run P w=.ok () ((w.setCell A u0).setCell (A.add 1) u1):=by
  show(Sem.store .plain (A.add 0) u0 (Sem.store .plain (A.add 1) u1 (Sem.pure ()))).run P w=_;have g:A.add 0=A:=by unfold Addr.add;simp
  rw[g,acQ k a d,acQ r (c:=c1) (by rw[tZ _ _ _ _ (λe=>arx e.symm)];exact f) (by rw[uL];exact b)];rfl
 have s:(storeVar 140 A (.agg #[u0,u1])).run P w=.ok () ((w.setCell A u0).setCell (A.add 1) u1):=by
  have l:(sizeOf 140).run P w=.ok 2 w:=by simp[sizeOf,typeInfo,m,t]
  unfold storeVar;show((sizeOf 140).bind λn=>if(Value.agg #[u0,u1]).cells.size≠n then stuck _ else storeCells A (Value.agg #[u0,u1]).cells.toList 0).run P w=_;rw[qW,l];exact p
 have:execOp e ⟨dst,.store 140 x y,ty,pos,af,gd⟩=(Instr.storeAt 140 (e x) (e y)).bind λ_=>Sem.pure .skip:=rfl;rw[this,o,j,qW];have q:(Instr.storeAt 140 (.pointer (some A)) (.agg #[u0,u1])).run P w=.ok () ((w.setCell A u0).setCell (A.add 1) u1):=s;rw[q];rfl
include F in
theorem aoQ{c0 : Value}(j:∃a n c,u=.slice a n c)(o:e x=.pointer (some A))(g:e y=u)(b:w.cell? A=some c0)(d:w.frozen? A=false) :
  (execOp e ⟨dst,.store 127 x y,ty,pos,af,gd⟩).run P w=.ok .skip (w.setCell A u):=by
 obtain⟨i,l,s, -⟩:=F.i247;obtain⟨a,n,c,rfl⟩:=j;have p:(storeCells A [.slice a n c] 0).run P w=.ok () (w.setCell A (.slice a n c)):=by
  show(Sem.store .plain (A.add 0) (.slice a n c) (Sem.pure ())).run P w=_;have f:A.add 0=A:=by unfold Addr.add;simp
  rw[f,acQ rfl b d];rfl
 have r:(storeVar 127 A (.slice a n c)).run P w=.ok () (w.setCell A (.slice a n c)):=by
  have k:(sizeOf 127).run P w=.ok 1 w:=by simp[sizeOf,typeInfo,l,s]
  unfold storeVar;show((sizeOf 127).bind λm=>if(Value.slice a n c).cells.size≠m then stuck _ else storeCells A (Value.slice a n c).cells.toList 0).run P w=_;rw[qW,k];exact p
 have:execOp e ⟨dst,.store 127 x y,ty,pos,af,gd⟩=(Instr.storeAt 127 (e x) (e y)).bind λ_=>Sem.pure .skip:=rfl;rw[this,o,g,qW];have q:(Instr.storeAt 127 (.pointer (some A)) (.slice a n c)).run P w=.ok () (w.setCell A (.slice a n c)):=r;rw[q];rfl
include F in
theorem ary:(execOp e ⟨dst,.alloc 127,ty,pos,af,gd⟩).run P w=.ok (.value (.pointer (some ⟨w.heap.size,0,none⟩))) (w.alloc (.cells #[.slice none 0 0] 127)):=by
 obtain⟨i,b,c,a⟩:=F.i247;have:execOp e ⟨dst,.alloc 127,ty,pos,af,gd⟩=(Instr.alloc 127 true (.tuple #[])).bind λv=>Sem.pure (.value v):=rfl;rw[this,qW];have:(Instr.alloc 127 true (.tuple #[])).run P w=.ok (.pointer (some ⟨w.heap.size,0,none⟩)) (w.alloc (.cells #[.slice none 0 0] 127)):=by
  simp[Instr.alloc,zeroValue,typeInfo,b,a,newVar,newRow,Value.cells]
 rw[this];rfl
include F in
theorem amC(t:(n:Int)<=2147483647)(o:e x=.int .i64 n):∃c:Array Value,c.size=2*n/\(execOp e ⟨dst,.makeSlice 127 x x,ty,pos,af,gd⟩).run P w=.ok (.value (.slice (some ⟨w.heap.size,0,none⟩) n n)) (w.alloc (.cells c 140)):=by
 obtain⟨i,a,r,g,p⟩:=F.adD;have k:IntKind.i64.wrap (n:Int)=n:=by
  unfold IntKind.wrap;simp[IntKind.signed,IntKind.bits];omega
 have q:¬(n:Int)<0:=by omega
 have s:¬(2:Int) ^ 48<24*n:=by omega
 have:execOp e ⟨dst,.makeSlice 127 x x,ty,pos,af,gd⟩=(Instr.makeSlice 127 (e x) (e x)).bind λv=>Sem.pure (.value v):=rfl;rw[this,o];have l:¬(281474976710656:Int)<24*n:=by omega
 have j:∀w,(sizeOf 140).run P w=.ok 2 w:=λw=>by simp[sizeOf,typeInfo,a,r]
 have d:∀m:Nat,(askRoom m).run P w=.ok () w:=λm=>by
  unfold askRoom;split<;>rfl
 by_cases f:n=0
 .subst f;refine⟨(Array.range 0).map λ_=>default,by simp, ?_⟩;rw[qW];have:(Instr.makeSlice 127 (.int .i64 (0:Nat)) (.int .i64 (0:Nat))).run P w=.ok (.slice (some ⟨w.heap.size,0,none⟩) 0 0) (w.alloc (.cells ((Array.range 0).map λ_=>default) 140)):=by
   simp[Instr.makeSlice,mu F.agN,asInt,asIntOf,typeInfo,a,g,d,j,newRow,(show IntKind.i64.wrap 0=0 by decide)]
  rw[this];rfl
 .refine⟨(Array.range (n*2)).map λi=>(#[.string ⟨#[]⟩,.bool false]:Array Value)[i % 2]!,by simp;omega, ?_⟩;rw[qW];have:(Instr.makeSlice 127 (.int .i64 n) (.int .i64 n)).run P w=.ok (.slice (some ⟨w.heap.size,0,none⟩) n n) (w.alloc (.cells ((Array.range (n*2)).map λi=>(#[.string ⟨#[]⟩,.bool false]:Array Value)[i % 2]!) 140)):=by
   have b:∀w,(zeroValue 140).run P w=.ok (.agg #[.string ⟨#[]⟩,.bool false]) w:=λw=>by simp[zeroValue,typeInfo,a,p]
   simp[Instr.makeSlice,mu F.agN,asInt,asIntOf,typeInfo,a,g,k,q,l,d,j,b,newRow,f,Value.cells];intro h;omega
  rw[this];rfl
end
def eO(h:w.cell? A=some v):A.block<w.heap.size:=by
 unfold World.cell? at h;cases a:w.heap[A.block]? with
 |none=>rw[a] at h;simp at h
 |some o=>exact(dl.1 a).1
structure Cx where
 R:List Frame->World->Prop
 c0:Cfg
 iK:Ren
 w0:World
 y:Frame
 ys:List Frame
def At(X:Cx)(T:Array Value)(k:List Item)(w:World):Prop:=45<=T.size/\∃c a,im true X.R X.c0 X.iK X.w0 c a (FQ cF T k::X.y::X.ys) w
structure Tm (M:List Nat) (T T':Array Value):Prop where
 size:T'.size=T.size
 same:∀t,M.contains t=false->T'.getD t undef=T.getD t undef
def Tm.refl(M:List Nat)(T:Array Value):Tm M T T:=⟨rfl,λ_ _=>rfl⟩
def Tm.trans{T : Array Value}(h:Tm O T T')(k:Tm O T' Q):Tm O T Q:=⟨k.size.trans h.size,λt a=>(k.same t a).trans (h.same t a)⟩
def Tm.mono{T : Array Value}(h:Tm O T T')(b:∀t,O.contains t=true->rest.contains t=true):Tm rest T T':=⟨h.size,λt a=>h.same t (by
 cases e:O.contains t with
 |false=>rfl
 |true=>rw[b t e] at a;cases a)⟩
def Tm.sw{T : Array Value}{d:Nat}(h:Tm [d] T T')(b:cV.contains d=true):Tm cV T T':=h.mono λt a=>by
 simp at a;subst a;exact b
def Tm.one{T : Array Value}{d:Nat}(b:T'.size=T.size)(h:∀t,t≠d->T'.getD t undef=T.getD t undef):Tm [d] T T':=⟨b,λt a=>h t λe=>by subst e;simp at a⟩
def ae1{e:Operand->Value}{n:Tmp}{t ty:TypeId}{dst:Option Tmp}{pos:String}(f:e (.tmp n)=.tuple #[]):∀c a,(execOp e ⟨dst,.load t (.tmp n),ty,pos,af,gd⟩).run P w ≠ .ok c a:=λc a g=>by
 obtain⟨v,d,b,i⟩:=ea (s:=Instr.loadAt t (e (.tmp n))) g;rw[f] at b;cases(show Result.halt _ _=Result.ok v d from b)
section
variable {X:Cx} {T:Array Value} {k:List Item} {w w2:World}
def At.go(h:At X T k w)(b:∀base,stepG (ai true) true (Gl (FQ cF T k::X.y::X.ys) base) w=.go (Gl (FQ cF T k2::X.y::X.ys) base) w2 es):At X T k2 w2:=
 let⟨e,_,_,h⟩:=h;let⟨d,c,a,_,_⟩:=h.go rfl true b;⟨e,d,c,a⟩
def At.seq(h:At X T (.code (.seq a b)::k) w):At X T (.code a :: .code b::k) w:=h.go (es:=#[]) λbase=>by simp[Gl,stepG,stepG.exec]
def At.region{id:Nat}{l:List Nat}(a:List.range Z.size=l)(h:At X T (.code (.region id Z false)::k) w):At X T (.inRegion Z l::k) w:=h.go (es:=#[]) λbase=>by subst a;simp[Gl,stepG,stepG.exec]
def At.jo(h:At X T (.inRegion Z []::k) w):At X T k w:=h.go (es:=#[]) λbase=>by simp[Gl,stepG,stepG.exec]
def AtL(X:Cx)(T:Array Value)(k:List Item)(w:World):Prop:=45<=T.size/\∃c a,im true X.R X.c0 X.iK X.w0 c a (FQ cF T k::X.y::X.ys) w/\iF (ai true) c X.c0
def At.aAl(h:At X T (.inRegion Z []::k) w):AtL X T k w:=
 let⟨e,_,_,h⟩:=h;let⟨d,c,b,a,_⟩:=h.go (w2:=w) (x2:=FQ cF T k) (xs2:=X.y::X.ys) (es:=#[]) rfl true λbase=>by simp[Gl,stepG,stepG.exec]
 ⟨e,d,c,b,a⟩
def At.skip(h:At X T (.code .skip::k) w):At X T k w:=h.go (es:=#[]) λbase=>by simp[Gl,stepG,stepG.exec]
def At.cond{t:Tmp}(d:T.getD t undef=.bool q)(h:At X T (.code (.cond (.tmp t) a b)::k) w):At X T (.code (if q then a else b)::k) w:=h.go (es:=#[]) λbase=>by
 have c:Frame.eval (FQ cF T (.code (.cond (.tmp t) a b)::k)) (.tmp t)=.bool q:=d;simp[Gl,stepG,stepG.exec,c]
def At.block{id:Nat}(h:At X T (.code (.block id a)::k) w):At X T (.code a :: .inBlock id::k) w:=h.go (es:=#[]) λbase=>by simp[Gl,stepG,stepG.exec]
def At.loop(h:At X T (.code (.loop a)::k) w):At X T (.code a :: .inLoop a::k) w:=h.go (es:=#[]) λbase=>by simp[Gl,stepG,stepG.exec]
def At.again(h:At X T (.inLoop a::k) w):At X T (.code a :: .inLoop a::k) w:=h.go (es:=#[]) λbase=>by simp[Gl,stepG,stepG.exec]
def At.exit{id:Nat}(a:exitTo id k=some k2)(h:At X T (.code (.exit id)::k) w):At X T k2 w:=h.go (es:=#[]) λbase=>by simp[Gl,stepG,stepG.exec,a]
def At.no(h:At X T (.code (.refuse "")::k) w):False:=by
 obtain⟨a,c,b,h⟩:=h;exact h.no rfl true (o:=_) (w2:=w) (by simp only[Gl,stepG,stepG.exec];rfl)
def At.jD     {Φ:Value->World->Prop} (h:At X T (.inRegion Z (i::rest)::k) w) (A:Z[i]?=some o) (y:o.guard=none) (s:o.dst=some d) (l:d<45)
  (a:∀m j,(execOp (FQ cF T (.inRegion Z (i::rest)::k)).eval o).run (ai true) w=.ok m j->∃v,m=.value v/\Φ v j) :
  ∃v b n,Φ v b/\Tm [d] T n/\n.getD d undef=v/\At X n (.inRegion Z rest::k) b:=by
 obtain⟨f,c,D,h⟩:=h;obtain⟨v,b,z,C,q,r, -⟩:=h.op A y λm j g=>.inl (let⟨v,e,_⟩:=a m j g;⟨v,e⟩);have p:Φ v b:=by
  rcases q with g|⟨g, -⟩
  .obtain⟨u,e,B⟩:=a _ _ g;cases e;exact B
  .obtain⟨u,e, -⟩:=a _ _ g;cases e
 rw[s] at r;replace l:d<T.size:=bd l f;exact⟨v,b,_,p,.one (by simp) (λt x=>by rw[aI l,da x]),by rw[aI l,eg rfl],by simpa using f,z,C,r⟩
def At.opk    (h:At X T (.inRegion Z (i::rest)::k) w) (j:Z[i]?=some o) (l:o.guard=none) (g:o.dst=none)
  (b:(execOp (FQ cF T (.inRegion Z (i::rest)::k)).eval o).run (ai true) w=.ok .skip w2):At X T (.inRegion Z rest::k) w2:=by
 obtain⟨d,c,q,h⟩:=h;obtain⟨v,p,n,m,e,f, -⟩:=h.op j l λs r a=>.inr (by rw[b] at a;cases a;rfl);rw[g] at f;rcases e with a|⟨a, -⟩
 .rw[b] at a;cases a
 .rw[b] at a;cases a;exact⟨d,n,m,f⟩
def At.noV    {t:Tmp} (h:At X T (.inRegion Z (i::rest)::k) w) (g:Z[i]?=some o) (m:o.guard=none) (d:aao gA gL o.op=false) (e:T.getD t undef=.pointer (some A))
  (b:∀(e:Operand->Value) (w:World),e (.tmp t)=.tuple #[]->∀p j,(execOp e o).run (ai true) w ≠ .ok p j):NoV (ai true) w A/\NoV (ai true) w (A.add 1):=by
 obtain⟨l,c,q,h⟩:=h;obtain⟨x,f,n⟩:=h.aoN g m d t b;rw[e] at f;cases f with
 |pointer a=>cases a with
  |some a=>exact⟨h.wr.noV a,h.wr.noV (a.add 1)⟩
 |fQ=>exact absurd rfl n
def At.aAm(b:g∈gL)(h:At X T k w):NoV (ai true) w ⟨g,0,none⟩:=by
 obtain⟨a,c,d,h⟩:=h;exact h.wr.noV (.mk (h.gl g b) 0 none)
def At.chk{t:Tmp}(a:T.getD t undef=.bool q)(h:At X T (.code (.cond (.tmp t) (.refuse "") .skip)::k) w):q=false/\At X T k w:=by
 have h:=h.cond a;cases q with
 |true=>exact(h.no).elim
 |false=>exact⟨rfl,h.skip⟩
def At.ax3{t:Tmp}(a:T.getD t undef=.bool q)(h:At X T (.code (.cond (.tmp t) .skip (.refuse ""))::k) w):q=true/\At X T k w:=by
 have h:=h.cond a;cases q with
 |false=>exact(h.no).elim
 |true=>exact⟨rfl,h.skip⟩
end
def In_(x:Int):Prop:= -9223372036854775808<=x/\x<=9223372036854775807
def abf{x:Int}(h:(IntKind.i64.wrap (x*1) ==x)=true):In_ x:=by
 rw[oE] at h;unfold IntKind.wrap at h;simp[IntKind.signed,IntKind.bits] at h;unfold In_;omega
def ae2(h:(n:Int)<9223372036854775807):IntKind.i64.wrap ((n:Int)+1)=((n+1:Nat):Int):=by
 unfold IntKind.wrap;simp[IntKind.signed,IntKind.bits];omega
def eX{a b:Int}(h:decide (a<b)=false):b<=a:=by simpa using h
structure ahw (w:World) (B:Option Addr) (i:Nat) (x:Int×ByteArray):Prop where
 c:∃a,B=some a/\w.cell? (a.add (i*2))=some (.int .i64 x.1)/\w.cell? ((a.add (i*2)).add 1)=some (.string x.2)
 i:In_ x.1
 s:(x.2.size:Int)<=9223372036854775807
def RdI(w:World)(B:Option Addr)(j:Nat)(l:List (Int×ByteArray)):Prop:=∀i x,l[i]?=some x->ahw w B (j+i) x
abbrev inC(k:List Item):List Item:=.inLoop aaY :: .inBlock 52::k
abbrev mI:List Nat:=[4,5,9,10,11,13,15,26,25,22]
def Tm.mi{T : Array Value}{d:Nat}(h:Tm [d] T T')(b:mI.contains d=true):Tm mI T T':=h.mono λt a=>by
 simp at a;subst a;exact b
section
variable {X:Cx} {T:Array Value} {k:List Item} {w:World}
def At.aAn{m : Nat}(h:At X T (.code aaY::inC k) w)(V:T.getD 27 undef=.slice B m c)(jm:T.getD 28 undef=.int .i64 m)(g:T.getD 5 undef=.int .i64 j)(hj:j<=m)(hm:(m:Int)<=9223372036854775807) :
  (j=m/\∃T',Tm mI T T'/\At X T' k w)\/(j<m/\∃x T',ahw w B j x/\Tm mI T T'/\T'.getD 5 undef=.int .i64 (j+1:Nat)/\At X T' (.code aaY::inC k) w):=by
 have o:=Tm.refl mI T;unfold Go.Proofs.YtgjaikdifcbnkaaGreatDoor.aaY at h;have h:=h.seq;replace h:=h.region (l:=[0]) rfl;obtain⟨v,A,T1,⟨n,i⟩,m,s4,b⟩:=h.jD (d:=4) (Φ:=λv f=>v=.bool (decide ((j:Int)<m))/\f=w) rfl rfl rfl (by decide) λy f p=>gI (by exact g) (by exact jm) p;rw[n] at s4;rw[i] at b;clear n i;replace g:=(m.same 5 rfl).trans g;replace V:=(m.same 27 rfl).trans V;replace o:=o.trans (m.mi rfl);clear m;replace h:=b;clear b;replace h:=h.jo.seq.cond s4;by_cases F:(j:Int)<m
 .right;rw[dj F] at h;simp only[pv] at h;replace h:=h.skip.seq.seq;replace h:=h.region (l:=[0,1,2,3,4]) rfl;obtain⟨ii,hi,hz⟩:=(faQ true).i110;obtain⟨fs,g0,g1,O,U,Y,Z,W,Q,M⟩:=(faQ true).auS;obtain⟨v,A,T2,⟨a,hB,n,i⟩,m,R,b⟩:=h.jD (d:=9) (Φ:=λv f=>∃a,B=some a/\v=.pointer (some (a.add (j*ii.size)))/\f=w) rfl rfl rfl (by decide) λy f p=>aca (faQ true).u38 hi (by exact V) (by exact g) (by omega) p;rw[n,hz] at R;rw[i] at b;clear n i;replace g:=(m.same 5 rfl).trans g;replace o:=o.trans (m.mi rfl);clear m;replace h:=b;clear b;have hv:=h.noV (t:=9) rfl rfl rfl R (λe w he=>ae1 he);obtain⟨v,A,T3,⟨E,C,n,L,a1,i⟩,m,q,b⟩:=h.jD (d:=10) (Φ:=λv f=>∃E C,v=.agg #[E,C]/\w.cell? (a.add (j*2))=some E/\w.cell? ((a.add (j*2)).add 1)=some C/\f=w) rfl rfl rfl (by decide) λy f p=>ajj O hi hz (by exact R) hv.1 hv.2 p;rw[n] at q;rw[i] at b;clear n i;replace g:=(m.same 5 rfl).trans g;replace o:=o.trans (m.mi rfl);clear m;replace h:=b;clear b;obtain⟨v,A,T4,⟨n,i⟩,m,u,b⟩:=h.jD (d:=11) (Φ:=λv f=>v=E/\f=w) rfl rfl rfl (by decide) λy f p=>ab9 O U (by rw[W];exact(faQ true).u3) rfl (by exact q) (by rw[Z];rfl) p;rw[n] at u;rw[i] at b;clear n i;replace g:=(m.same 5 rfl).trans g;replace q:=(m.same 10 rfl).trans q;replace o:=o.trans (m.mi rfl);clear m;replace h:=b;clear b;obtain⟨v,A,T5,⟨z,P,n,i⟩,m,I,b⟩:=h.jD (d:=13) (Φ:=λv f=>∃z,E=.int .i64 z/\v=.int .i64 (IntKind.i64.wrap (z*1))/\f=w) rfl rfl rfl (by decide) λy f p=>let⟨v,J,z,D,H,N⟩:=alv p rfl;⟨v,J,z,u.symm.trans D,H,N⟩
  rw[n] at I;rw[i] at b;clear n i;replace g:=(m.same 5 rfl).trans g;replace q:=(m.same 10 rfl).trans q;replace u:=(m.same 11 rfl).trans u;replace o:=o.trans (m.mi rfl);clear m;replace h:=b;clear b;subst P;obtain⟨v,A,T6,⟨n,i⟩,m,r,b⟩:=h.jD (d:=15) (Φ:=λv f=>v=.bool (IntKind.i64.wrap (z*1) ==z)/\f=w) rfl rfl rfl (by decide) λy f p=>aly (by exact I) (by exact u) p;rw[n] at r;rw[i] at b;replace g:=(m.same 5 rfl).trans g;replace q:=(m.same 10 rfl).trans q;replace o:=o.trans (m.mi rfl);replace h:=b;obtain⟨hq,b⟩:=h.jo.ax3 r;replace h:=b.seq.seq;replace h:=h.region (l:=[0,1,2]) rfl;obtain⟨v,A,T7,⟨n,i⟩,m,G,b⟩:=h.jD (d:=26) (Φ:=λv f=>v=C/\f=w) rfl rfl rfl (by decide) λy f p=>ab9 O Y (by rw[M];exact(faQ true).u9) rfl (by exact q) (by rw[Q];rfl) p;rw[n] at G;rw[i] at b;replace g:=(m.same 5 rfl).trans g;replace r:=(m.same 15 rfl).trans r;replace o:=o.trans (m.mi rfl);replace h:=b;obtain⟨v,A,T8,⟨s,S,n,i⟩,m,K,b⟩:=h.jD (d:=25) (Φ:=λv f=>∃s:ByteArray,C=.string s/\v=.int .i64 s.size/\f=w) rfl rfl rfl (by decide) λy f p=>let⟨v,J,z,D,H,N⟩:=auW (faQ true) p;⟨v,J,z,G.symm.trans D,H,N⟩
  rw[n] at K;rw[i] at b;replace g:=(m.same 5 rfl).trans g;replace r:=(m.same 15 rfl).trans r;replace o:=o.trans (m.mi rfl);replace h:=b;subst S;obtain⟨v,A,T9,⟨n,i⟩,m,r,b⟩:=h.jD (d:=15) (Φ:=λv f=>v=.bool (decide ((9223372036854775807:Int)<s.size))/\f=w) rfl rfl rfl (by decide) λy f p=>gI rfl (by exact K) p;rw[n] at r;rw[i] at b;replace g:=(m.same 5 rfl).trans g;replace o:=o.trans (m.mi rfl);replace h:=b;obtain⟨a0,b⟩:=h.jo.chk r;replace h:=b.region (l:=[0,1]) rfl;obtain⟨v,A,a3,⟨n,i⟩,m,oW,b⟩:=h.jD (d:=22) (Φ:=λv f=>v=.int .i64 (IntKind.i64.wrap ((j:Int)+1))/\f=w) rfl rfl rfl (by decide) λy f p=>alx (by exact g) rfl p;rw[n] at oW;rw[i] at b;replace g:=(m.same 5 rfl).trans g;replace o:=o.trans (m.mi rfl);replace h:=b;obtain⟨v,A,a2,⟨n,i⟩,m,g,b⟩:=h.jD (d:=5) (Φ:=λv f=>v=.int .i64 (IntKind.i64.wrap ((j:Int)+1))/\f=w) rfl rfl rfl (by decide) λy f p=>let⟨v,J,D,H⟩:=aht p;⟨v,J,D.trans oW,H⟩
  rw[n] at g;rw[i] at b;replace o:=o.trans (m.mi rfl);replace h:=b;rw[ae2 (by omega)] at g;exact⟨by omega,(z,s),_,⟨⟨a,hB,L,a1⟩,abf hq,eX a0⟩,o,g,h.jo.again⟩
 .left;rw[db F] at h;simp only[lc,qL] at h;exact⟨by omega,_,o,h.exit rfl⟩
def At.awE{B:Option Addr}{m c:Nat}(g:(m:Int)<=9223372036854775807):∀(n j:Nat) {T:Array Value},m=j+n->At X T (.code Go.Proofs.YtgjaikdifcbnkaaGreatDoor.aaY::inC k) w->T.getD 27 undef=.slice B m c->T.getD 28 undef=.int .i64 m->T.getD 5 undef=.int .i64 j->
  ∃l T',l.length=n/\RdI w B j l/\Tm mI T T'/\At X T' k w
 |0,j,T,e,h,jh,jm,s5=>by
  rcases h.aAn jh jm s5 (by omega) g with⟨_,T',u,t⟩|⟨d,_⟩
  .exact⟨[],T',rfl,λi x b=>by simp at b,u,t⟩
  .omega
 |n+1,j,T,e,h,jh,jm,s5=>by
  rcases h.aAn jh jm s5 (by omega) g with⟨A,_⟩|⟨d,x,z,s,a,o,v⟩
  .omega
  .obtain⟨l,T',p,r,f,q⟩:=At.awE g n (j+1) (by omega) v ((a.same 27 rfl).trans jh) ((a.same 28 rfl).trans jm) o;refine⟨x::l,T',by simp[p],λi y b=> ?_,a.trans f,q⟩;cases i with
   |zero=>simp at b;subst b;exact s
   |succ i=>
    have:=r i y (by simpa using b);have e:j+1+i=j+(i+1):=by omega
    rwa [e] at this
end
structure aAo (w:World) (A:Option Addr) (i:Nat) (x:Int×List (Int×ByteArray)):Prop where
 c:∃a B c,A=some a/\w.cell? (a.add (i*2))=some (.int .i64 x.1)/\w.cell? ((a.add (i*2)).add 1)=some (.slice B x.2.length c)/\1<=x.2.length/\x.2.length<=c/\(c:Int)<=9223372036854775807/\RdI w B 0 x.2
 i:In_ x.1
def RdP(w:World)(A:Option Addr)(j:Nat)(l:List (Int×List (Int×ByteArray))):Prop:=∀i x,l[i]?=some x->aAo w A (j+i) x
def Rgd(X:Cx)(b:Nat):Prop:=(∃a,X.iK.r a b)\/X.w0.heap.size<=b
def PkR(X:Cx)(w:World)(A:Option Addr)(i:Nat):Prop:=∀a b n c,A=some a->w.cell? ((a.add (i*2)).add 1)=some (.slice (some b) n c)->Rgd X b.block
abbrev inB(k:List Item):List Item:=.inLoop aaZ :: .inBlock 51::k
def aAp(t:Nat)(h:mI.contains t=true):cV.contains t=true:=by
 simp only[mI,tI,List.contains_nil,vD,rj,oE] at h;rcases h with rfl|rfl|rfl|rfl|rfl|rfl|rfl|rfl|rfl|rfl<;>rfl
section
variable {X:Cx} {T:Array Value} {k:List Item} {w:World}
def ad1{e:Operand->Value}{n:Tmp}{i ty : TypeId}{dst:Option Tmp}{pos:String}(g:P.underlying t0=some (.slice i))(j:e (.tmp n)=.tuple #[]):∀d a,(execOp e ⟨dst,.call ⟨.builtin .len,#[.tmp n],#[t0]⟩,ty,pos,af,gd⟩).run P w ≠ .ok d a:=λd a f=>by
 obtain⟨v,_,A,m,c,b,_⟩:=ahu g f;rw[j] at b;cases b
def At.auY    {t:Tmp} (h:At X T (.inRegion Z (i::rest)::k) w) (j:Z[i]?=some o) (q:o.guard=none) (d:aao gA gL o.op=false)
  (b:∀(e:Operand->Value) (w:World),e (.tmp t)=.tuple #[]->∀s l,(execOp e o).run (ai true) w ≠ .ok s l):∀a n c,T.getD t undef=.slice (some a) n c->a.block<w.heap.size:=λa n c e=>by
 obtain⟨p,c,u,h⟩:=h;obtain⟨x,g,r⟩:=h.aoN j q d t b;rw[e] at g;cases g with
 |slice f=>cases f with
  |some f=>obtain⟨m,_,_⟩:=f;exact(h.wr.lt m).2
 |fQ=>exact absurd rfl r
def At.ahx    {t:Tmp} (h:At X T (.inRegion Z (i::rest)::k) w) (j:Z[i]?=some o) (q:o.guard=none) (d:aao gA gL o.op=false)
  (b:∀(e:Operand->Value) (w:World),e (.tmp t)=.tuple #[]->∀s l,(execOp e o).run (ai true) w ≠ .ok s l):∀a n c,T.getD t undef=.slice (some a) n c->Rgd X a.block:=λa n c e=>by
 obtain⟨p,c,u,h⟩:=h;obtain⟨x,g,r⟩:=h.aoN j q d t b;rw[e] at g;cases g with
 |slice f=>cases f with
  |some f=>
   obtain⟨m,_,_⟩:=f;exact(h.kept.new m).imp (λh=>⟨_,h⟩) (·.2)
 |fQ=>exact absurd rfl r
def At.aAq{A:Option Addr}{c0 : Nat}(h:At X T (.code aaZ::inB k) w)(s1:T.getD 1 undef=.slice A n c0)(D:T.getD 16 undef=.int .i64 n)(y:T.getD 20 undef=.int .i64 j)(hj:j<=n)(hm:(n:Int)<=9223372036854775807) :
  (j=n/\∃T',Tm cV T T'/\At X T' k w)\/(j<n/\∃x T',aAo w A j x/\PkR X w A j/\Tm cV T T'/\T'.getD 16 undef=.int .i64 n/\T'.getD 20 undef=.int .i64 (j+1:Nat)/\At X T' (.code aaZ::inB k) w):=by
 have C:=Tm.refl cV T;unfold Go.Proofs.YtgjaikdifcbnkaaGreatDoor.aaZ at h;have h:=h.seq;replace h:=h.region (l:=[0]) rfl;obtain⟨v,K,af,⟨r,q⟩,m,g,f⟩:=h.jD (d:=21) (Φ:=λv s=>v=.bool (decide ((j:Int)<n))/\s=w) rfl rfl rfl (by decide) λJ s E=>gI (by exact y) (by exact D) E;rw[r] at g;rw[q] at f;clear r q;replace s1:=(m.same 1 rfl).trans s1;replace D:=(m.same 16 rfl).trans D;replace y:=(m.same 20 rfl).trans y;replace C:=C.trans (m.sw rfl);clear m;replace h:=f;clear f;replace h:=h.jo.seq.cond g;by_cases V:(j:Int)<n
 .right;rw[dj V] at h;simp only[pv] at h;replace h:=h.skip.seq.seq;replace h:=h.region (l:=[0,1,2,3,4]) rfl;obtain⟨ii,hi,hz⟩:=(faQ true).i40;obtain⟨fs,g0,g1,hu,a8,aa,ad,a9,a6,a3⟩:=(faQ true).u40;obtain⟨v,K,aH,⟨a,hB,r,q⟩,m,i,f⟩:=h.jD (d:=23) (Φ:=λv s=>∃a,A=some a/\v=.pointer (some (a.add (j*ii.size)))/\s=w) rfl rfl rfl (by decide) λJ s E=>aca (faQ true).u23 hi (by exact s1) (by exact y) (by omega) E;rw[r,hz] at i;rw[q] at f;clear r q;replace s1:=(m.same 1 rfl).trans s1;replace D:=(m.same 16 rfl).trans D;replace y:=(m.same 20 rfl).trans y;replace g:=(m.same 21 rfl).trans g;replace C:=C.trans (m.sw rfl);clear m;replace h:=f;clear f;have hv:=h.noV (t:=23) rfl rfl rfl i (λe w he=>ae1 he);obtain⟨v,K,al,⟨S,P,r,a2,a0,q⟩,m,o,f⟩:=h.jD (d:=24) (Φ:=λv s=>∃S P,v=.agg #[S,P]/\w.cell? (a.add (j*2))=some S/\w.cell? ((a.add (j*2)).add 1)=some P/\s=w) rfl rfl rfl (by decide) λJ s E=>ajj hu hi hz (by exact i) hv.1 hv.2 E;rw[r] at o;rw[q] at f;clear r q;replace s1:=(m.same 1 rfl).trans s1;replace D:=(m.same 16 rfl).trans D;replace y:=(m.same 20 rfl).trans y;replace g:=(m.same 21 rfl).trans g;replace i:=(m.same 23 rfl).trans i;replace C:=C.trans (m.sw rfl);clear m;replace h:=f;clear f;obtain⟨v,K,ao,⟨r,q⟩,m,p,f⟩:=h.jD (d:=25) (Φ:=λv s=>v=S/\s=w) rfl rfl rfl (by decide) λJ s E=>ab9 hu a8 (by rw[a9];exact(faQ true).u3) rfl (by exact o) (by rw[ad];rfl) E;rw[r] at p;rw[q] at f;clear r q;replace s1:=(m.same 1 rfl).trans s1;replace D:=(m.same 16 rfl).trans D;replace y:=(m.same 20 rfl).trans y;replace g:=(m.same 21 rfl).trans g;replace i:=(m.same 23 rfl).trans i;replace o:=(m.same 24 rfl).trans o;replace C:=C.trans (m.sw rfl);clear m;replace h:=f;clear f;obtain⟨v,K,ax,⟨z,a5,r,q⟩,m,u,f⟩:=h.jD (d:=26) (Φ:=λv s=>∃z,S=.int .i64 z/\v=.int .i64 (IntKind.i64.wrap (z*1))/\s=w) rfl rfl rfl (by decide) λJ s E=>let⟨v,a1,z,O,Y,a4⟩:=alv E rfl;⟨v,a1,z,p.symm.trans O,Y,a4⟩
  rw[r] at u;rw[q] at f;clear r q;replace s1:=(m.same 1 rfl).trans s1;replace D:=(m.same 16 rfl).trans D;replace y:=(m.same 20 rfl).trans y;replace g:=(m.same 21 rfl).trans g;replace i:=(m.same 23 rfl).trans i;replace o:=(m.same 24 rfl).trans o;replace p:=(m.same 25 rfl).trans p;replace C:=C.trans (m.sw rfl);clear m;replace h:=f;clear f;subst a5;obtain⟨v,K,aJ,⟨r,q⟩,m,G,f⟩:=h.jD (d:=22) (Φ:=λv s=>v=.bool (IntKind.i64.wrap (z*1) ==z)/\s=w) rfl rfl rfl (by decide) λJ s E=>aly (by exact u) (by exact p) E;rw[r] at G;rw[q] at f;clear r q;replace s1:=(m.same 1 rfl).trans s1;replace D:=(m.same 16 rfl).trans D;replace y:=(m.same 20 rfl).trans y;replace g:=(m.same 21 rfl).trans g;replace i:=(m.same 23 rfl).trans i;replace o:=(m.same 24 rfl).trans o;replace p:=(m.same 25 rfl).trans p;replace u:=(m.same 26 rfl).trans u;replace C:=C.trans (m.sw rfl);clear m;replace h:=f;clear f;obtain⟨hq,f⟩:=h.jo.ax3 G;replace h:=f.seq.seq;clear f;replace h:=h.region (l:=[0,1,2,3]) rfl;obtain⟨v,K,an,⟨r,q⟩,m,H,f⟩:=h.jD (d:=27) (Φ:=λv s=>v=P/\s=w) rfl rfl rfl (by decide) λJ s E=>ab9 hu aa (by rw[a3];exact(faQ true).u38) rfl (by exact o) (by rw[a6];rfl) E;rw[r] at H;rw[q] at f;clear r q;replace s1:=(m.same 1 rfl).trans s1;replace D:=(m.same 16 rfl).trans D;replace y:=(m.same 20 rfl).trans y;replace g:=(m.same 21 rfl).trans g;replace G:=(m.same 22 rfl).trans G;replace i:=(m.same 23 rfl).trans i;replace o:=(m.same 24 rfl).trans o;replace p:=(m.same 25 rfl).trans p;replace u:=(m.same 26 rfl).trans u;replace C:=C.trans (m.sw rfl);clear m;replace h:=f;clear f;have W:=h.ahx (t:=27) rfl rfl rfl λe w he=>ad1 (faQ true).u38 he;rw[H] at W;obtain⟨v,K,aU,⟨B,m,c,a7,r,q⟩,m,I,f⟩:=h.jD (d:=28) (Φ:=λv s=>∃B m c,P=.slice B m c/\v=.int .i64 m/\s=w) rfl rfl rfl (by decide) λJ s E=>let⟨v,a1,B,m,c,O,Y,a4⟩:=ahu (faQ true).u38 E;⟨v,a1,B,m,c,H.symm.trans O,Y,a4⟩
  rw[r] at I;rw[q] at f;clear r q;replace s1:=(m.same 1 rfl).trans s1;replace D:=(m.same 16 rfl).trans D;replace y:=(m.same 20 rfl).trans y;replace g:=(m.same 21 rfl).trans g;replace G:=(m.same 22 rfl).trans G;replace i:=(m.same 23 rfl).trans i;replace o:=(m.same 24 rfl).trans o;replace p:=(m.same 25 rfl).trans p;replace u:=(m.same 26 rfl).trans u;replace H:=(m.same 27 rfl).trans H;replace C:=C.trans (m.sw rfl);clear m;replace h:=f;clear f;subst a7;obtain⟨v,K,aZ,⟨r,q⟩,m,M,f⟩:=h.jD (d:=3) (Φ:=λv s=>v=.int .i64 c/\s=w) rfl rfl rfl (by decide) λJ s E=>alz (faQ true).u38 (by exact H) E;rw[r] at M;rw[q] at f;clear r q;replace s1:=(m.same 1 rfl).trans s1;replace D:=(m.same 16 rfl).trans D;replace y:=(m.same 20 rfl).trans y;replace g:=(m.same 21 rfl).trans g;replace G:=(m.same 22 rfl).trans G;replace i:=(m.same 23 rfl).trans i;replace o:=(m.same 24 rfl).trans o;replace p:=(m.same 25 rfl).trans p;replace u:=(m.same 26 rfl).trans u;replace H:=(m.same 27 rfl).trans H;replace I:=(m.same 28 rfl).trans I;replace C:=C.trans (m.sw rfl);clear m;replace h:=f;clear f;obtain⟨v,K,aF,⟨r,q⟩,m,L,f⟩:=h.jD (d:=4) (Φ:=λv s=>v=.bool (decide ((m:Int)<1))/\s=w) rfl rfl rfl (by decide) λJ s E=>gI (by exact I) rfl E;rw[r] at L;rw[q] at f;clear r q;replace s1:=(m.same 1 rfl).trans s1;replace M:=(m.same 3 rfl).trans M;replace D:=(m.same 16 rfl).trans D;replace y:=(m.same 20 rfl).trans y;replace g:=(m.same 21 rfl).trans g;replace G:=(m.same 22 rfl).trans G;replace i:=(m.same 23 rfl).trans i;replace o:=(m.same 24 rfl).trans o;replace p:=(m.same 25 rfl).trans p;replace u:=(m.same 26 rfl).trans u;replace H:=(m.same 27 rfl).trans H;replace I:=(m.same 28 rfl).trans I;replace C:=C.trans (m.sw rfl);clear m;replace h:=f;clear f;obtain⟨U,f⟩:=h.jo.chk L;replace h:=f.seq.seq;clear f;replace h:=h.region (l:=[0]) rfl;clear L;obtain⟨v,K,b2,⟨r,q⟩,m,L,f⟩:=h.jD (d:=4) (Φ:=λv s=>v=.bool (decide ((9223372036854775807:Int)<c))/\s=w) rfl rfl rfl (by decide) λJ s E=>gI rfl (by exact M) E;rw[r] at L;rw[q] at f;clear r q;replace s1:=(m.same 1 rfl).trans s1;replace M:=(m.same 3 rfl).trans M;replace D:=(m.same 16 rfl).trans D;replace y:=(m.same 20 rfl).trans y;replace g:=(m.same 21 rfl).trans g;replace G:=(m.same 22 rfl).trans G;replace i:=(m.same 23 rfl).trans i;replace o:=(m.same 24 rfl).trans o;replace p:=(m.same 25 rfl).trans p;replace u:=(m.same 26 rfl).trans u;replace H:=(m.same 27 rfl).trans H;replace I:=(m.same 28 rfl).trans I;replace C:=C.trans (m.sw rfl);clear m;replace h:=f;clear f;obtain⟨N,f⟩:=h.jo.chk L;replace h:=f.seq.seq;clear f;replace h:=h.region (l:=[0]) rfl;clear L;obtain⟨v,K,b0,⟨r,q⟩,m,L,f⟩:=h.jD (d:=4) (Φ:=λv s=>v=.bool (decide ((c:Int)<m))/\s=w) rfl rfl rfl (by decide) λJ s E=>gI (by exact M) (by exact I) E;rw[r] at L;rw[q] at f;clear r q;replace s1:=(m.same 1 rfl).trans s1;replace M:=(m.same 3 rfl).trans M;replace D:=(m.same 16 rfl).trans D;replace y:=(m.same 20 rfl).trans y;replace g:=(m.same 21 rfl).trans g;replace G:=(m.same 22 rfl).trans G;replace i:=(m.same 23 rfl).trans i;replace o:=(m.same 24 rfl).trans o;replace p:=(m.same 25 rfl).trans p;replace u:=(m.same 26 rfl).trans u;replace H:=(m.same 27 rfl).trans H;replace I:=(m.same 28 rfl).trans I;replace C:=C.trans (m.sw rfl);clear m;replace h:=f;clear f;obtain⟨R,f⟩:=h.jo.chk L;replace h:=f.seq;clear f;replace h:=h.region (l:=[0]) rfl;obtain⟨v,K,b1,⟨r,q⟩,m,s5,f⟩:=h.jD (d:=5) (Φ:=λv s=>v=.int .i64 (0:Nat)/\s=w) rfl rfl rfl (by decide) λJ s E=>jC E;rw[r] at s5;rw[q] at f;clear r q;replace s1:=(m.same 1 rfl).trans s1;replace M:=(m.same 3 rfl).trans M;replace L:=(m.same 4 rfl).trans L;replace D:=(m.same 16 rfl).trans D;replace y:=(m.same 20 rfl).trans y;replace g:=(m.same 21 rfl).trans g;replace G:=(m.same 22 rfl).trans G;replace i:=(m.same 23 rfl).trans i;replace o:=(m.same 24 rfl).trans o;replace p:=(m.same 25 rfl).trans p;replace u:=(m.same 26 rfl).trans u;replace H:=(m.same 27 rfl).trans H;replace I:=(m.same 28 rfl).trans I;replace C:=C.trans (m.sw rfl);clear m;replace h:=f;clear f;replace U:=eX U;replace N:=eX N;replace R:=eX R;replace h:=h.jo.seq.block.loop;obtain⟨l,T2,hl,E,F,f⟩:=At.awE (by omega) m 0 (by omega) h H I s5;replace h:=f.region (l:=[0,1]) rfl;clear f;replace s1:=(F.same 1 rfl).trans s1;replace M:=(F.same 3 rfl).trans M;clear L;clear s5;replace D:=(F.same 16 rfl).trans D;replace y:=(F.same 20 rfl).trans y;replace g:=(F.same 21 rfl).trans g;clear G;replace i:=(F.same 23 rfl).trans i;replace o:=(F.same 24 rfl).trans o;clear p;clear u;replace H:=(F.same 27 rfl).trans H;replace I:=(F.same 28 rfl).trans I;replace C:=C.trans (F.mono aAp);clear F;obtain⟨v,K,ay,⟨r,q⟩,m,G,f⟩:=h.jD (d:=22) (Φ:=λv s=>v=.int .i64 (IntKind.i64.wrap ((j:Int)+1))/\s=w) rfl rfl rfl (by decide) λJ s E=>alx (by exact y) rfl E;rw[r] at G;rw[q] at f;clear r q;replace D:=(m.same 16 rfl).trans D;replace y:=(m.same 20 rfl).trans y;replace C:=C.trans (m.sw rfl);clear m;replace h:=f;clear f;clear y;obtain⟨v,K,aR,⟨r,q⟩,m,y,f⟩:=h.jD (d:=20) (Φ:=λv s=>v=.int .i64 (IntKind.i64.wrap ((j:Int)+1))/\s=w) rfl rfl rfl (by decide) λJ s E=>let⟨v,a1,O,Y⟩:=aht E;⟨v,a1,O.trans G,Y⟩
  rw[r] at y;rw[q] at f;clear r q;replace D:=(m.same 16 rfl).trans D;replace C:=C.trans (m.sw rfl);clear m;replace h:=f;clear f;rw[ae2 (by omega)] at y;subst hl;exact⟨by omega,(z,l),_,⟨⟨a,B,c,hB,a2,a0,(by show 1<=l.length;omega),(by show l.length<=c;omega),N,E⟩,abf hq⟩,λO b n2 c2 Q Z=>(by rw[hB] at Q;cases Q;rw[a0] at Z;exact W b n2 c2 (dq Z)),C,D,y,h.jo.again⟩
 .left;rw[db V] at h;simp only[lc,qL] at h;exact⟨by omega,_,C,h.exit rfl⟩
def At.awF{A:Option Addr}{m c:Nat}(p:(m:Int)<=9223372036854775807):∀(n j:Nat) {T:Array Value},m=j+n->At X T (.code aaZ::inB k) w->T.getD 1 undef=.slice A m c->T.getD 16 undef=.int .i64 m->T.getD 20 undef=.int .i64 j->
  ∃l T',l.length=n/\RdP w A j l/\(∀i,i<n->PkR X w A (j+i))/\Tm cV T T'/\At X T' k w
 |0,j,T,e,h,s1,dB,iv=>by
  rcases h.aAq s1 dB iv (by omega) p with⟨_,T',B,v⟩|⟨d,_⟩
  .exact⟨[],T',rfl,λi x a=>by simp at a,λi a=>absurd a (sT i),B,v⟩
  .omega
 |n+1,j,T,e,h,s1,dB,iv=>by
  rcases h.aAq s1 dB iv (by omega) p with⟨E,_⟩|⟨d,x,D,u,q,b,g,f,C⟩
  .omega
  .obtain⟨l,T',r,t,z,o,s⟩:=At.awF p n (j+1) (by omega) C ((b.same 1 rfl).trans s1) g f;refine⟨x::l,T',by simp[r],λi y a=> ?_,λi a=> ?_,b.trans o,s⟩
   case refine_2=>
    cases i with
    |zero=>exact q
    |succ i=>
     have:=z i (by omega);have e:j+1+i=j+(i+1):=by omega
     rwa [e] at this
   cases i with
   |zero=>simp at a;subst a;exact u
   |succ i=>
    have:=t i y (by simpa using a);have e:j+1+i=j+(i+1):=by omega
    rwa [e] at this
end
def aqi:gL.contains 1=true:=by unfold gL;kernel_rfl
def aiy:gL.contains 2=true:=by unfold gL;kernel_rfl
def agT(h:gL.contains g=true):g∈gL:=by simpa using h
abbrev mH:List Nat:=6::7::cV
def Tm.mh{T : Array Value}{d:Nat}(h:Tm [d] T T')(b:mH.contains d=true):Tm mH T T':=h.mono λt a=>by
 simp at a;subst a;exact b
def aAr(t:Nat)(h:cV.contains t=true):mH.contains t=true:=by
 simp only[mH,tI,rj];exact .inr (.inr h)
noncomputable def ajk:Code:=.seq (.region 58 aiD false) (.seq (.region 59 adb false) cU)
noncomputable def arz:Code:=.seq (aaW 54 aqr 19) (.seq (aaW 55 aqs 19) (.seq (aaW 56 aqt 19) (.seq (.region 57 amP false) (.seq (.block 53 (.loop mG)) ajk))))
section
variable {X:Cx} {T:Array Value} {k:List Item} {w:World}
def At.head(h:At X T (.code ki::k) w):∃s A n c l T',T.getD 0 undef=.int .i64 s/\1<=s/\s<=99/\(∃v,w.cell? ⟨1,0,none⟩=some v)/\(∃v,w.cell? ⟨2,0,none⟩=some v)/\
  T.getD 1 undef=.slice A n c/\n<=c/\(c:Int)<=9223372036854775807/\l.length=n/\RdP w A 0 l/\(∀i,i<n->PkR X w A i)/\(∀a,A=some a->Rgd X a.block)/\Tm mH T T'/\T'.getD 6 undef=.slice none 0 0/\T'.getD 7 undef=.bool false/\At X T' (.code arz::k) w:=by
 have j:=Tm.refl mH T;unfold ki at h;have h:=h.seq.seq;replace h:=h.region (l:=[0,1,2]) rfl;obtain⟨v,E,Z,⟨x,q⟩,m,p,f⟩:=h.jD (d:=6) (Φ:=λv g=>v=.slice none 0 0/\g=w) rfl rfl rfl (by decide) λD g o=>jC o;rw[x] at p;rw[q] at f;replace j:=j.trans (m.mh rfl);replace h:=f;obtain⟨v,E,a1,⟨x,q⟩,m,r,f⟩:=h.jD (d:=7) (Φ:=λv g=>v=.bool false/\g=w) rfl rfl rfl (by decide) λD g o=>jC o;rw[x] at r;rw[q] at f;replace p:=(m.same 6 rfl).trans p;replace j:=j.trans (m.mh rfl);replace h:=f;obtain⟨v,E,a2,⟨s,V,x,q⟩,m,u,f⟩:=h.jD (d:=16) (Φ:=λv g=>∃s,T.getD 0 undef=.int .i64 s/\v=.bool (decide (s<1))/\g=w) rfl rfl rfl (by decide) λD g o=>let⟨v,U,z,P,Q,O⟩:=arw (b:=1) rfl o;⟨v,U,z,(j.same 0 rfl).symm.trans P,Q,O⟩
 rw[x] at u;rw[q] at f;replace p:=(m.same 6 rfl).trans p;replace r:=(m.same 7 rfl).trans r;replace j:=j.trans (m.mh rfl);replace h:=f;obtain⟨I,f⟩:=h.jo.chk u;replace h:=f.seq.seq;replace h:=h.region (l:=[0]) rfl;obtain⟨v,E,a6,⟨x,q⟩,m,u,f⟩:=h.jD (d:=16) (Φ:=λv g=>v=.bool (decide ((99:Int)<s))/\g=w) rfl rfl rfl (by decide) λD g o=>gI rfl (by exact(j.same 0 rfl).trans V) o;rw[x] at u;rw[q] at f;replace p:=(m.same 6 rfl).trans p;replace r:=(m.same 7 rfl).trans r;replace j:=j.trans (m.mh rfl);replace h:=f;obtain⟨J,f⟩:=h.jo.chk u;replace h:=f.seq.seq;replace h:=h.region (l:=[0,1,2,3,4,5]) rfl;obtain⟨ms,W⟩:=(faQ true).auR;have hv:=h.aAm (agT aqi);obtain⟨v,E,a5,⟨R,q⟩,m,u,f⟩:=h.jD (d:=16) (Φ:=λv g=>w.cell? ⟨1,0,none⟩=some v/\g=w) rfl rfl rfl (by decide) λD g o=>ahv W rfl rfl hv o;rw[q] at f;replace p:=(m.same 6 rfl).trans p;replace r:=(m.same 7 rfl).trans r;replace j:=j.trans (m.mh rfl);replace h:=f;have N:=h.aAm (agT aiy);obtain⟨v,E,a0,⟨S,q⟩,m,u,f⟩:=h.jD (d:=16) (Φ:=λv g=>w.cell? ⟨2,0,none⟩=some v/\g=w) rfl rfl rfl (by decide) λD g o=>ahv W rfl rfl N o;rw[q] at f;replace p:=(m.same 6 rfl).trans p;replace r:=(m.same 7 rfl).trans r;replace j:=j.trans (m.mh rfl);replace h:=f;have M:=h.ahx (t:=1) rfl rfl rfl λe w he=>ad1 (faQ true).u23 he;rw[j.same 1 rfl] at M;obtain⟨v,E,a4,⟨A,n,c,F,x,q⟩,m,u,f⟩:=h.jD (d:=16) (Φ:=λv g=>∃A n c,T.getD 1 undef=.slice A n c/\v=.int .i64 n/\g=w) rfl rfl rfl (by decide) λD g o=>let⟨v,U,B,m,c,P,Q,O⟩:=ahu (faQ true).u23 o;⟨v,U,B,m,c,(j.same 1 rfl).symm.trans P,Q,O⟩
 rw[x] at u;rw[q] at f;replace p:=(m.same 6 rfl).trans p;replace r:=(m.same 7 rfl).trans r;replace j:=j.trans (m.mh rfl);replace h:=f;obtain⟨v,E,a3,⟨x,q⟩,m,y,f⟩:=h.jD (d:=18) (Φ:=λv g=>v=.int .i64 c/\g=w) rfl rfl rfl (by decide) λD g o=>alz (faQ true).u23 (by exact(j.same 1 rfl).trans F) o;rw[x] at y;rw[q] at f;replace p:=(m.same 6 rfl).trans p;replace r:=(m.same 7 rfl).trans r;replace u:=(m.same 16 rfl).trans u;replace j:=j.trans (m.mh rfl);replace h:=f;obtain⟨v,E,a7,⟨x,q⟩,m,K,f⟩:=h.jD (d:=20) (Φ:=λv g=>v=.int .i64 (0:Nat)/\g=w) rfl rfl rfl (by decide) λD g o=>jC o;rw[x] at K;rw[q] at f;replace p:=(m.same 6 rfl).trans p;replace r:=(m.same 7 rfl).trans r;replace u:=(m.same 16 rfl).trans u;replace y:=(m.same 18 rfl).trans y;replace j:=j.trans (m.mh rfl);replace h:=f;obtain⟨v,E,a8,⟨x,q⟩,m,C,f⟩:=h.jD (d:=19) (Φ:=λv g=>v=.bool (decide ((9223372036854775807:Int)<c))/\g=w) rfl rfl rfl (by decide) λD g o=>gI rfl (by exact y) o;rw[x] at C;rw[q] at f;replace p:=(m.same 6 rfl).trans p;replace r:=(m.same 7 rfl).trans r;replace u:=(m.same 16 rfl).trans u;replace y:=(m.same 18 rfl).trans y;replace K:=(m.same 20 rfl).trans K;replace j:=j.trans (m.mh rfl);replace h:=f;obtain⟨H,f⟩:=h.jo.chk C;replace h:=f.seq.seq;replace h:=h.region (l:=[0]) rfl;obtain⟨v,E,Y,⟨x,q⟩,m,C,f⟩:=h.jD (d:=19) (Φ:=λv g=>v=.bool (decide ((c:Int)<n))/\g=w) rfl rfl rfl (by decide) λD g o=>gI (by exact y) (by exact u) o;rw[x] at C;rw[q] at f;replace p:=(m.same 6 rfl).trans p;replace r:=(m.same 7 rfl).trans r;replace u:=(m.same 16 rfl).trans u;replace K:=(m.same 20 rfl).trans K;replace j:=j.trans (m.mh rfl);replace h:=f;obtain⟨L,f⟩:=h.jo.chk C;replace h:=f.seq.block.loop;replace I:=eX I;replace J:=eX J;replace H:=eX H;replace L:=eX L;obtain⟨l,T2,hl,o,hR,G,f⟩:=At.awF (by omega) n 0 (by omega) h ((j.same 1 rfl).trans F) u K;exact⟨s,A,n,c,l,T2,V,I,J,⟨_,R⟩,⟨_,S⟩,F,by omega,H,hl,o,λi hi=>(by have:=hR i hi;rwa [me] at this),λa e=>M a n c (by rw[F,e]),j.trans (G.mono aAr),(G.same 6 rfl).trans p,(G.same 7 rfl).trans r,f⟩
def At.names(h:At X T (.code arz::k) w):∃A n c C T',T.getD 2 undef=.slice A n c/\(∀a,A=some a->a.block<w.heap.size)/\(∀a,A=some a->Rgd X a.block)/\(n:Int)<=2147483647/\n<=c/\(c:Int)<=9223372036854775807/\C.size=2*n/\Tm cV T T'/\
  T'.getD 16 undef=.int .i64 n/\T'.getD 27 undef=.slice (some ⟨w.heap.size,0,none⟩) n n/\T'.getD 28 undef=.int .i64 (0:Nat)/\At X T' (.code (.block 53 (.loop mG)) :: .code ajk::k) (w.alloc (.cells C 140)):=by
 have j:=Tm.refl cV T;unfold arz at h;have h:=h.seq.seq;replace h:=h.region (l:=[0,1,2]) rfl;have G:=h.auY (t:=2) rfl rfl rfl λe w M=>ad1 (faQ true).u31 M;have J:=h.ahx (t:=2) rfl rfl rfl λe w M=>ad1 (faQ true).u31 M;obtain⟨v,z,Q,⟨A,n,c,u,r,p⟩,m,i,b⟩:=h.jD (d:=16) (Φ:=λv f=>∃A n c,T.getD 2 undef=.slice A n c/\v=.int .i64 n/\f=w) rfl rfl rfl (by decide) λD f q=>let⟨v,Y,B,m,c,Z,R,S⟩:=ahu (faQ true).u31 q;⟨v,Y,B,m,c,Z,R,S⟩
 rw[r] at i;rw[p] at b;replace j:=j.trans (m.sw rfl);replace h:=b;obtain⟨v,z,O,⟨r,p⟩,m,o,b⟩:=h.jD (d:=18) (Φ:=λv f=>v=.int .i64 c/\f=w) rfl rfl rfl (by decide) λD f q=>alz (faQ true).u31 (by exact(j.same 2 rfl).trans u) q;rw[r] at o;rw[p] at b;replace i:=(m.same 16 rfl).trans i;replace j:=j.trans (m.sw rfl);replace h:=b;obtain⟨v,z,U,⟨r,p⟩,m,g,b⟩:=h.jD (d:=19) (Φ:=λv f=>v=.bool (decide ((2147483647:Int)<n))/\f=w) rfl rfl rfl (by decide) λD f q=>gI rfl (by exact i) q;rw[r] at g;rw[p] at b;replace i:=(m.same 16 rfl).trans i;replace o:=(m.same 18 rfl).trans o;replace j:=j.trans (m.sw rfl);replace h:=b;obtain⟨s,b⟩:=h.jo.chk g;replace h:=b.seq.seq;replace h:=h.region (l:=[0]) rfl;obtain⟨v,z,W,⟨r,p⟩,m,g,b⟩:=h.jD (d:=19) (Φ:=λv f=>v=.bool (decide ((9223372036854775807:Int)<c))/\f=w) rfl rfl rfl (by decide) λD f q=>gI rfl (by exact o) q;rw[r] at g;rw[p] at b;replace i:=(m.same 16 rfl).trans i;replace o:=(m.same 18 rfl).trans o;replace j:=j.trans (m.sw rfl);replace h:=b;obtain⟨y,b⟩:=h.jo.chk g;replace h:=b.seq.seq;replace h:=h.region (l:=[0]) rfl;obtain⟨v,z,H,⟨r,p⟩,m,g,b⟩:=h.jD (d:=19) (Φ:=λv f=>v=.bool (decide ((c:Int)<n))/\f=w) rfl rfl rfl (by decide) λD f q=>gI (by exact o) (by exact i) q;rw[r] at g;rw[p] at b;replace i:=(m.same 16 rfl).trans i;replace j:=j.trans (m.sw rfl);replace h:=b;obtain⟨E,b⟩:=h.jo.chk g;replace h:=b.seq;replace h:=h.region (l:=[0,1]) rfl;replace s:=eX s;replace y:=eX y;replace E:=eX E;obtain⟨C,L,K⟩:=amC (faQ true) (w:=w) (e:=(FQ cF H (.inRegion amP (0::[1]) :: .code (.seq (.block 53 (.loop mG)) ajk)::k)).eval) (x:=.tmp 16) (dst:=some 40) (ty:=127) (pos:= "") (af:=#[]) (gd:=none) s (by exact i);obtain⟨v,z,V,⟨r,p⟩,m,F,b⟩:=h.jD (d:=27) (Φ:=λv f=>v=.slice (some ⟨w.heap.size,0,none⟩) n n/\f=w.alloc (.cells C 140)) rfl rfl rfl (by decide) λD f q=>by have I:=K.symm.trans q;cases I;exact⟨_,rfl,rfl,rfl⟩
 rw[r] at F;rw[p] at b;replace i:=(m.same 16 rfl).trans i;replace j:=j.trans (m.sw rfl);replace h:=b;obtain⟨v,z,P,⟨r,p⟩,m,N,b⟩:=h.jD (d:=28) (Φ:=λv f=>v=.int .i64 (0:Nat)/\f=w.alloc (.cells C 140)) rfl rfl rfl (by decide) λD f q=>jC q;rw[r] at N;rw[p] at b;replace i:=(m.same 16 rfl).trans i;replace F:=(m.same 27 rfl).trans F;replace j:=j.trans (m.sw rfl);replace h:=b;exact⟨A,n,c,C,_,u,λa e=>G a n c (by rw[u,e]),λa e=>J a n c (by rw[u,e]),s,by omega,y,L,j,i,F,N,h.jo.seq⟩
end
section
variable {β:Bool} {R:List Frame->World->Prop} {c0 c:Cfg} {iK ρ:Ren} {w0 w w2:World} {l l2:List Frame}
def arA   :∃o a,step P (nI ⟨(kq P).finish v,[],.running,none,none⟩ w)=.ended o a:=by
 have h:∃o a b,stepG P true ⟨(kq P).finish v,[],.running,none,none⟩ w=.ended o a b:=by
  simp only[kq,Frame.finish,stepG,stepG.exec,acA];exact⟨_,_,_,rfl⟩
 obtain⟨o,a,b,h⟩:=h;exact⟨o,a,cG rfl h⟩
def arB(g:iV (ai β) ρ c.l l)(E:py c.l):(∃o a,step (ai β) (nI (Gl l [kq (ai β)]) w)=.ended o a)\/∃v a,step (ai β) (nI (Gl l [kq (ai β)]) w)=.next (nI ⟨(kq (ai β)).finish v,[],.running,none,none⟩ a):=by
 obtain⟨L,m,G,hd,K⟩:=E;obtain⟨x,M,y,O,N,k⟩:=g.ne';have H:=g.lone m k;subst H k;rw[m] at g;have D:=g.head;obtain⟨fn,s,e,C,A,u,t⟩:=y;obtain⟨B,F,J,j,b,p,z⟩:=D;dsimp only at B F J j b p z;obtain rfl:A=.returning:=by
  rcases b with b|b
  .rw[G] at b;cases b.1
  .exact b.2
 obtain rfl:C=[]:=by rw[hd] at j;cases j;rfl
 obtain rfl:u=.normal:=p.2;have i:∀{r:GStep},stepG (ai β) true (Gl [⟨fn,s,e,[],.returning,.normal,t⟩] [kq (ai β)]) w=r->(∃o a d,r=.ended o a d)\/(∃v a d,r=.go ⟨(kq (ai β)).finish v,[],.running,none,none⟩ a d):=by
  intro r n;subst n;simp only[Gl,stepG,unwind,qX];cases I:(ai β).funcs[fn]? with
  |none=>exact .inr ⟨_,_,_,rfl⟩
  |some f=>
   dsimp only;cases n:(results f s).runT (ai β) w #[] with
   |mk q d=>
    cases q with
    |ok v a=>exact .inr ⟨v,a,_,rfl⟩
    |halt q a=>cases q<;>exact .inl ⟨_,_,_,rfl⟩
 rcases i rfl with⟨o,a,d,h⟩|⟨v,a,d,h⟩
 .exact .inl ⟨o,a,cG rfl h⟩
 .exact .inr ⟨v,a,dQ rfl h⟩
def im.runs:∀(n:Nat) {c:Cfg} {ρ:Ren} {l:List Frame} {w:World},im β R c0 iK w0 c ρ l w->runN (ai β) n (nI (Gl l [kq (ai β)]) w)=.next (nI (Gl l2 [kq (ai β)]) w2)->l2≠[]->∃i g,im β R c0 iK w0 i g l2 w2
 |0,c,ρ,l,w,h,hr,hne=>by
  simp only[runN,qQ] at hr;obtain⟨b,rfl⟩:=ik hr;obtain⟨_,_,y,m,_,a⟩:=h.st.ne';obtain rfl:=nK (by rw[a];simp) hne b;exact⟨c,ρ,h⟩
 |n+1,c,ρ,l,w,h,hr,hne=>by
  obtain⟨_,_,y,m,_,a⟩:=h.st.ne';have j:l≠[]:=by rw[a];simp
  unfold runN at hr;by_cases d:py c.l
  .exfalso;rcases arB (w:=w) h.st d with⟨o,f,e⟩|⟨v,f,e⟩
   .rw[e] at hr;cases hr
   .rw[e] at hr;cases n with
    |zero=>
     simp only[runN,qQ] at hr;obtain⟨b, -⟩:=ik hr;cases l2 with
     |nil=>exact hne rfl
     |cons x t=>
      have:=jt Goroutine.callers b;simp[Gl] at this
    |succ n=>
     unfold runN at hr;obtain⟨o,s,p⟩:=arA (P:=ai β) (v:=v) (w:=f);simp only[p] at hr;cases hr
  .obtain⟨i,g,z,r,u,q, -, -,k, -⟩:=h.adi true d;rw[dQ (jz j _) (k _)] at hr;exact im.runs n q hr hne
def im.calls{args:Array Value}(h:im β R c0 iK w0 c ρ (Frame.enter (ai β) f args .normal::y::W) w)(t:Calls (ai β) f args w λe a=>∃v,e=.returned v/\Post v a) :
  ∃k o v i,im β R c0 iK w0 k o (y.finish v::W) i/\Post v i:=by
 obtain⟨e,a,g,⟨v,rfl,A⟩,⟨n,E⟩,F,C⟩:=t (y::W++[kq (ai β)]);obtain⟨k,o,z⟩:=h.runs (l2:=g::y::W) (w2:=a) n E (by simp);have d:∀base,stepG (ai β) true (Gl (g::y::W) base) a=.go (Gl (y.finish v::W) base) a (seen (ai β) g.fn ((results ((ai β).funcs[g.fn]?.getD default) g.tmps).runT (ai β) a #[]).2):=λbase=>by
  obtain⟨p,hd,j,fn,l,m⟩:=C;obtain⟨I,r,s,K,J,H,G⟩:=g;dsimp only at p hd j l m;subst p hd j;have b:((results fn r).runT (ai β) a #[]).1=.ok v a:=by rw[ry];exact m
  simp only[Gl,stepG,unwind,l,qp,qN];cases x:(results fn r).runT (ai β) a #[] with
  |mk q L=>
   rw[x] at b;dsimp only at b;subst b;simp[doReturn,GStep.after]
 obtain⟨B,D,u, -, -⟩:=z.go rfl true d;exact⟨B,D,v,a,u,A⟩
end
end
section
open Go.Conc Go.ConcN Go.RowKit
abbrev iR:=Int×List (Int×ByteArray)
def eP(fv:Int->List iR->Int->ByteArray×Bool):Prop:=∀(b:Bool) (w:World) (a:Int) (A:Option Addr) (n c:Nat) (l:List iR) (nm:Int),1<=a->a<=99->l.length=n->n<=c->(c:Int)<=9223372036854775807->RdP w A 0 l->In_ nm->
 Calls (ai b) 79 #[.int .i64 a,.slice A n c,.int .i64 nm] w λe d=>∃v,e=.returned v/\(v=.agg #[.string (fv a l nm).1,.bool (fv a l nm).2]/\Below w.heap.size w d)
def aid(w:World)(A:Option Addr)(i:Nat)(nm:Int):Prop:=∃a,A=some a/\w.cell? (a.add i)=some (.int .i64 nm)/\In_ nm
def ahw.below{x:Int×ByteArray}(h:ahw w B i x)(f:∀b,b<w.heap.size->w'.heap[b]?=w.heap[b]?):ahw w' B i x:=by
 obtain⟨⟨a,j,d,e⟩,g,l⟩:=h;have k:∀{A:Addr} {v:Value},w.cell? A=some v->w'.cell? A=some v:=λ{A v} c=>by
  rw[gC (f A.block (eO c))];exact c
 exact⟨⟨a,j,k d,k e⟩,g,l⟩
def RdP.below{A:Option Addr}{l:List iR}(h:RdP w A j l)(d:∀b,b<w.heap.size->w'.heap[b]?=w.heap[b]?):RdP w' A j l:=λi x o=>by
 obtain⟨⟨a,B,c,r,g,n,q,t,p,s⟩,f⟩:=h i x o;have k:∀{A:Addr} {v:Value},w.cell? A=some v->w'.cell? A=some v:=λ{A v} e=>by
  rw[gC (d A.block (eO e))];exact e
 exact⟨⟨a,B,c,r,k g,k n,q,t,p,λi y m=>(s i y m).below d⟩,f⟩
def rB(a:Addr)(n:Nat):(a.add n).block=a.block:=by unfold Addr.add;split<;>rfl
def ji(b o n:Nat):(⟨b,o,none⟩:Addr).add n=⟨b,o+n,none⟩:=by
 unfold Addr.add;by_cases h:n=0
 .subst h;simp
 .simp[h]
section
variable {X:Cx} {T:Array Value} {k:List Item} {w:World}
def At.call      {args:Array Value} (h:At X T (.inRegion Z (i::rest)::k) w) (n:Z[i]?=some o) (u:o.guard=none) (p:o.dst=some d) (j:d<45)
  (D:∀w,(execOp (FQ cF T (.inRegion Z (i::rest)::k)).eval o).runT (ai true) w #[]=(.ok (.enter f args) w,#[])) (q:Calls (ai true) f args w λe r=>∃v,e=.returned v/\Post v r) :
  ∃v g l,Post v g/\Tm [d] T l/\l.getD d undef=v/\At X l (.inRegion Z rest::k) g:=by
 obtain⟨b,c,H,h⟩:=h;have a:∀base,stepG (ai true) true (Gl (FQ cF T (.inRegion Z (i::rest)::k)::X.y::X.ys) base) w=.go (Gl (Frame.enter (ai true) f args .normal::FQ cF T (.inRegion Z (i::rest)::k)::X.y::X.ys) base) w (seen (ai true) cF #[]):=λbase=>by
  have z:∀y,Region.wanted o y=true:=λy=>by unfold Region.wanted;rw[u]
  have F:stepG (ai true) true (Gl (FQ cF T (.inRegion Z (i::rest)::k)::X.y::X.ys) base) w =
    stepG.apply (ai true) true (FQ cF T (.inRegion Z (i::rest)::k)) (X.y::X.ys++base) none (execOp (FQ cF T (.inRegion Z (i::rest)::k)).eval o) w:=by
   simp[Gl,stepG,stepG.exec,stepG.oper,Frame.oper?,n,z]
  rw[F];unfold stepG.apply;simp only[D,pv];simp[GStep.after,Gl]
 obtain⟨G,I,x, -, -⟩:=h.go rfl true a;obtain⟨A,E,v,g,m,C⟩:=x.calls q;have B:Frame.finish (FQ cF T (.inRegion Z (i::rest)::k)) v=FQ cF (T.setIfInBounds d v) (.inRegion Z rest::k):=by
  simp only[Frame.finish,n,qM,p]
 rw[B] at m;replace j:d<T.size:=bd j b;exact⟨v,g,_,C,.one (by simp) (λt s=>by rw[aI j,da s]),by rw[aI j,eg rfl],by simpa using b,A,E,m⟩
end
end
section
variable {β:Bool}
open Go.RowKit
def acb{a:Addr}(h:w.cell? a=some v):a.spot=none:=by
 unfold World.cell? at h;split at h
 .split at h
  .cases h
  .rename_i b;cases c:a.spot with
   |none=>rfl
   |some x=>rw[c] at b;exact absurd rfl b
 .cases h
def ItL(w:World)(A:Option Addr)(l:List (Int×ByteArray)):Prop:=∀i x,l[i]?=some x->∃b a,A=some ⟨b,a,none⟩/\b<w.heap.size/\w.cell? ⟨b,a+i*2,none⟩=some (.int .i64 x.1)/\w.cell? ⟨b,a+i*2+1,none⟩=some (.string x.2)/\cE x.1/\x.2.size<=maxLen
def ItL.of{A:Option Addr}{l:List (Int×ByteArray)}(h:RdI w A 0 l):ItL w A l:=λi x k=>by
 obtain⟨e,j⟩:∃e,l[0]?=some e:=aq (by have:=aD k;omega);obtain⟨⟨p,m,f, -⟩, -, -⟩:=h 0 e j;obtain⟨⟨a,rfl,d,c⟩,o,q⟩:=h i x k;obtain rfl:=dq m;rw[me] at d c;obtain⟨b,g,n⟩:=a;obtain rfl:n=none:=by
  have:=acb f;unfold Addr.add at this;simpa using this
 rw[ji] at d c;rw[ji] at c;refine⟨b,g,rfl,eO d,d,c,o,by unfold maxLen;omega⟩
def ItL.below{A:Option Addr}{l:List (Int×ByteArray)}(h:ItL w A l)(d:Below w.heap.size w w'):ItL w' A l:=λi x g=>by
 obtain⟨b,a,k,c,f,j,m⟩:=h i x g;have e:=d.block b c;exact⟨b,a,k,bd c d.size,(qy e).trans f,(qy e).trans j,m⟩
def alA(n m:Int)(s:ByteArray)(g:Nat)(w:World)(b:w.cell? ⟨g,0,none⟩=some (.int .i64 m)) :
  Calls (ai β) 136 #[.agg #[.int .i64 n,.string s],.pointer (some ⟨g,0,none⟩)] w λe c=>e=.returned (.bool (decide (n=m)))/\Below w.heap.size w c:=by
 have i:g≠w.heap.size:=λe=>by
  have:=eO b;simp only at this;omega
 have a:=av w (.cells #[.int .i64 n,.string s] 68);have d:(w.alloc (.cells #[.int .i64 n,.string s] 68)).cell? ⟨g,0,none⟩=some (.int .i64 m):=(qy (a.block g (eO b))).trans b;by_cases h:n=m
 .subst h;go_enter xh,ntmps136;go_wp2;go_ret;exact⟨aB (by simp),a⟩
 .have f:(n ==m)=false:=dk.2 h;go_enter xh,ntmps136;go_wp2;go_ret;exact⟨aB (by simp[h]),a⟩
def fJ(nm:Int):List (Int×ByteArray)->Int
 |[]=> -1
 |x::l=>if x.1=nm then 0 else let j:=fJ nm l;if j<0 then -1 else j+1
def ae3{nm:Int}:∀{l:List (Int×ByteArray)},(∀y∈l,y.1≠nm)->fJ nm l=-1
 |[],_=>rfl
 |x::l,h=>by
  show(if x.1=nm then _ else _)=_;rw[da (h x (by simp)),ae3 λy a=>h y (by simp[a])];rfl
def ago{nm:Int}{x:Int×ByteArray}:∀{l:List (Int×ByteArray)} {k:Nat},(∀y∈l.take k,y.1≠nm)->l[k]?=some x->x.1=nm->fJ nm l=k
 |[],k,_,h,_=>by simp at h
 |y::l,0,_,h,hx=>by
  simp at h;subst h;show(if y.1=nm then _ else _)=_;rw[eg hx];rfl
 |y::l,k+1,hn,h,hx=>by
  show(if y.1=nm then _ else _)=_;rw[da (hn y (by simp)),ago (l:=l) (k:=k) (λz a=>hn z (by simp[a])) (by simpa using h) hx];show(if((k:Nat):Int)<0 then _ else _)=_;rw[da (by omega)];omega
end
section
variable {β:Bool}
open Go.RowKit
def ax5:aa7 (β:=β) 136:=adI xh (by kernel_rfl) rfl
def ahy(nm:Int)(l:List (Int×ByteArray))(A:Option Addr)(c g:Nat)(w:World)(E:ItL w A l)(G:l.length<=c)(I:c<=maxLen)(v:w.cell? ⟨g,0,none⟩=some (.int .i64 nm)) :
  Calls (ai β) 135 #[.slice A l.length c,.func (.func 136) #[] #[.pointer (some ⟨g,0,none⟩)]] w λe u=>e=.returned (.int .i64 (fJ nm l))/\Below w.heap.size w u:=by
 unfold maxLen at I;have t:=eO v;go_enter yL,ntmps135;go_wp2;go_loopw [8] (λi wr=>∃k:Nat,k<=l.length/\i=.int .i64 k/\(∀y∈l.take k,y.1≠nm)/\Below w.heap.size w wr) (λi _=>l.length-(intOf i).toNat)
 case atStart=>exact⟨0,ff _,rfl,by simp,du _ _⟩
 case round=>
  obtain⟨k,J,rfl,j,n⟩:=hrel;replace j:=ab j;have r:wr.cell? ⟨g,0,none⟩=some (.int .i64 nm):=(qy (n.block g t)).trans v;by_cases o:k<l.length
  .obtain⟨x,m⟩:=aq o;obtain⟨b,D,rfl,z,B,F,H,C⟩:=(E.below n) k x m;replace m:=ab m;have K:=ax5 (β:=β) (#[.agg #[.int .i64 x.1,.string x.2]]++#[.pointer (some ⟨g,0,none⟩)]) wr;go_wp2;refine(alA x.1 nm x.2 g wr r).mono ?_;rintro e u ⟨rfl,a⟩;replace a:=ag n a;by_cases h:x.1=nm
   .have d:fJ nm l=k:=ago j.out m.out h;have p:=ab d;have q:decide (x.1=nm)=true:=dj h;rw[q];go_wp2;go_ret;exact⟨by rw[p.out];rfl,a⟩
   .have s:∀y∈l.take (k+1),y.1≠nm:=by
     intro y f;rw[li m.out,oR] at f;rcases f with f|f
     .exact j.out y f
     .rw[pi.1 f];exact h
    replace s:=ab s;have q:decide (x.1=nm)=false:=db h;rw[q];go_wp2;go_roundw
    case rel=>exact⟨k+1,by omega,by go_num,s.out,a⟩
    simp[intOf];omega
  .obtain rfl:k=l.length:=by omega
   have d:fJ nm l=-1:=ae3 (by have:=j.out;rwa [ip] at this);have p:=ab d;go_wp2;go_ret;exact⟨by rw[p.out];rfl,n⟩
end
section
variable {β:Bool}
open Go.RowKit
noncomputable def iB(key:Int)(l:List (Int×ByteArray))(nm:Int):ByteArray×Bool:=match l[(fJ nm l).toNat]? with
 |some x=>if fJ nm l<0 then(⟨#[]⟩,false) else gR key x
 |none=>(⟨#[]⟩,false)
def acd(nm:Int):∀l:List (Int×ByteArray),fJ nm l=-1\/∃(k:Nat) (x:Int×ByteArray),fJ nm l=k/\l[k]?=some x
 |[]=>.inl rfl
 |y::l=>by
  show(if y.1=nm then _ else _)=(-1:Int)\/∃(k:Nat) (x:Int×ByteArray),(if y.1=nm then _ else _:Int)=k/\_;by_cases h:y.1=nm
  .rw[eg h];exact .inr ⟨0,y,rfl,rfl⟩
  .rw[da h];rcases acd nm l with a|⟨k,x,a,b⟩
   .rw[a];exact .inl rfl
   .rw[a];refine .inr ⟨k+1,x, ?_,by simpa using b⟩;show(if((k:Nat):Int)<0 then _ else _)=_;rw[da (by omega)];omega
def aoR(key q nm:Int)(B:1<=key/\key<=99)(l:List (Int×ByteArray))(A:Option Addr)(c:Nat)(w:World)(G:ItL w A l)(o:l.length<=c)(t:c<=maxLen) :
  Calls (ai β) 113 #[.int .i64 key,.agg #[.int .i64 q,.slice A l.length c],.int .i64 nm] w λe v=>e=.returned (.tuple #[.string (iB key l nm).1,.bool (iB key l nm).2])/\Below w.heap.size w v:=by
 have HC:=ab t;unfold maxLen at t;go_enter yU,ntmps113;go_wp2;generalize f:(w.alloc (.cells #[.int .i64 q,.slice A l.length c] 59)).alloc (.cells #[.int .i64 nm] 3)=w0 at *;obtain⟨s,K,i,E,H,g,r,C⟩:=oP f;have d:=G.below s;refine(ahy nm l A c (w.heap.size+1) w0 d o HC.out (r 0)).mono ?_;rintro e u ⟨rfl,a⟩;have p:=d.below a;replace i:=ah i a;replace E:=i.cell;replace H:=i.frozen;replace g:=ah g a;replace r:=g.cell;replace C:=g.frozen;replace a:=ag s a;rcases acd nm l with h|⟨k,x,h,n⟩
 .have f:iB key l nm=(⟨#[]⟩,false):=by
   unfold iB;rw[h];split
   .rw[eg (by omega)]
   .rfl
  have HG:=ab f;rw[h];go_wp2;go_ret2;rw[HG.out];exact⟨rfl,a⟩
 .have f:iB key l nm=gR key x:=by
   unfold iB;rw[h,show((k:Nat):Int).toNat=k from rfl,n];show(if((k:Nat):Int)<0 then _ else _)=_;rw[da (by omega)]
  have HG:=ab f;obtain⟨b,F,rfl,z,D,I,J,j⟩:=p k x n;have y:=aD n;have L:=db (show ¬((k:Int)<0) by omega);rw[h];go_wp2;refine(auD key x B j u).mono ?_;rintro e M ⟨rfl,m⟩;replace a:=ag a m;go_wp2;go_ret2;rw[HG.out];exact⟨rfl,a⟩
end
section
variable {β:Bool}
open Go.RowKit
noncomputable def dh(key:Int):List iR->Int->ByteArray×Bool
 |[],_=>(⟨#[]⟩,false)
 |p::l,nm=>if(iB key p.2 nm).2=true then((iB key p.2 nm).1,true) else dh key l nm
def ahz{key nm:Int}:∀{l:List iR} {k:Nat},(∀p∈l.take k,(iB key p.2 nm).2=false)->dh key l nm=dh key (l.drop k) nm
 |[],k,_=>by simp
 |p::l,0,_=>rfl
 |p::l,k+1,h=>by
  show(if(iB key p.2 nm).2=true then _ else dh key l nm)=_;rw[da (by rw[h p (by simp)];simp),List.drop_succ_cons];exact ahz λq a=>h q (by simp[a])
def PkL(w:World)(A:Option Addr)(l:List iR):Prop:=∀i x,l[i]?=some x->∃b a B c,A=some ⟨b,a,none⟩/\b<w.heap.size/\w.cell? ⟨b,a+i*2,none⟩=some (.int .i64 x.1)/\w.cell? ⟨b,a+i*2+1,none⟩=some (.slice B x.2.length c)/\x.2.length<=c/\c<=maxLen/\ItL w B x.2
def PkL.of{A:Option Addr}{l:List iR}(h:RdP w A 0 l):PkL w A l:=λi x m=>by
 obtain⟨f,k⟩:∃f,l[0]?=some f:=aq (by have:=aD m;omega);obtain⟨⟨s,r,u,n,g, -⟩, -⟩:=h 0 f k;obtain⟨⟨a,B,c,rfl,e,d, -,q,t,p⟩, -⟩:=h i x m;obtain rfl:=dq n;rw[me] at e d;obtain⟨b,j,o⟩:=a;obtain rfl:o=none:=by
  have:=acb g;unfold Addr.add at this;simpa using this
 rw[ji] at e d;rw[ji] at d;exact⟨b,j,B,c,rfl,eO e,e,d,q,by unfold maxLen;omega,ItL.of p⟩
def PkL.below{A:Option Addr}{l:List iR}(h:PkL w A l)(d:Below w.heap.size w w'):PkL w' A l:=λi x j=>by
 obtain⟨b,a,B,c,n,f,g,m,p,k,o⟩:=h i x j;have e:=d.block b f;exact⟨b,a,B,c,n,bd f d.size,(qy e).trans g,(qy e).trans m,p,k,o.below d⟩
def ann(w:World)(key:Int)(A:Option Addr)(c:Nat)(l:List iR)(nm:Int)(T:1<=key)(P:key<=99)(Y:l.length<=c)(hc:(c:Int)<=9223372036854775807)(W:PkL w A l)(a1:In_ nm) :
  Calls (ai β) 79 #[.int .i64 key,.slice A l.length c,.int .i64 nm] w λe O=>∃v,e=.returned v/\(v=.agg #[.string (dh key l nm).1,.bool (dh key l nm).2]/\Below w.heap.size w O):=by
 go_enter zt,ntmps79;go_wp2;generalize F:w.alloc (.cells #[.string ⟨#[]⟩,.bool false] 140)=w0 at *;obtain⟨M,iz,a,D,E⟩:=mK F;go_loopw [13] (λi wr=>∃k:Nat,k<=l.length/\i=.int .i64 k/\(∀p∈l.take k,(iB key p.2 nm).2=false)/\Below w0.heap.size w0 wr) (λi _=>l.length-(intOf i).toNat)
 case atStart=>exact⟨0,ff _,rfl,by simp,du _ _⟩
 case round=>
  obtain⟨k,hk,rfl,f,r⟩:=hrel;replace f:=ab f;replace a:=ah a r;replace D:=a.cell;replace E:=a.frozen;have H:=(W.below M).below r;have d:=ag M r;by_cases j:k<l.length
  .obtain⟨p,o⟩:=aq j;obtain⟨b,V,B,L,rfl,R,U,Z,J,s,z⟩:=H k p o;replace o:=ab o;go_wp2;generalize F:wr.alloc (.cells #[.int .i64 p.1,.slice B p.2.length L] 59)=w5 at *;obtain⟨g,a0,q0,S,N⟩:=mK F;replace a:=ah a g;replace D:=a.cell;replace E:=a.frozen;replace d:=ag d g;refine(aoR key p.1 nm ⟨T,P⟩ p.2 B L w5 (z.below g) J s).mono ?_;rintro e Q ⟨rfl,x⟩;replace a:=ah a x;replace D:=a.cell;replace E:=a.frozen;replace d:=ag d x;cases K:iB key p.2 nm with
   |mk t X=>
    cases X with
    |true=>
     have C:dh key l nm=(t,true):=by
      rw[ahz (k:=k) f.out,sb j];have e1:l[k]=p:=by have:=o.out;rw[jp j] at this;exact dq this
      rw[e1];show(if(iB key p.2 nm).2=true then _ else _)=_;rw[K];rfl
     have u:=ab C;go_wp2;have q:=(a.bj 0 (.string t)).bj 1 (.bool true);simp only[bv,ef,fd] at q;have m:=q.cell;exact nf (v:=.agg #[.string t,.bool true]) (by simp[results,results79,go_sem,m]) rfl ⟨_,rfl,by rw[u.out],(d.setCell (by simp) _).setCell (by simp) _⟩
    |false=>
     have I:∀y∈l.take (k+1),(iB key y.2 nm).2=false:=by
      intro y n;rw[li o.out,oR] at n;rcases n with n|n
      .exact f.out y n
      .rw[pi.1 n,K]
     replace I:=ab I;have G:Below w0.heap.size w0 Q:=ag (ag r g) x;go_wp2;go_roundw
     case rel=>exact⟨k+1,by omega,by go_num,I.out,G⟩
     simp[intOf];omega
  .obtain rfl:k=l.length:=by omega
   have C:dh key l nm=(⟨#[]⟩,false):=by
    rw[ahz (k:=l.length) f.out,uH];rfl
   have u:=ab C;go_wp2;have q:=(a.bj 0 (.string ⟨#[]⟩)).bj 1 (.bool false);simp only[bv,ef,fd] at q;have m:=q.cell;exact nf (v:=.agg #[.string ⟨#[]⟩,.bool false]) (by simp[results,results79,go_sem,m]) rfl ⟨_,rfl,by rw[u.out],(d.setCell (by simp) _).setCell (by simp) _⟩
def xz:eP dh:=λ_ w a A n c l nm g e j b i f d=>by
 subst j;exact ann w a A c l nm g e b i (PkL.of f) d
def xk(key nm:Int):dh key [] nm=(⟨#[]⟩,false):=rfl
end
section
variable {β:Bool}
open Go.RowKit
section
variable {α:Type} {E:fW α} {T:List TypeId} {sz:Nat} {e:TypeId}
def Els(E:fW α)(sz:Nat)(w:World)(lo hi:Nat)(xs:List α)(cells:List Value):Prop:=
 cells.length=xs.length*sz/\(∀u∈cells,u.oneCell'=true)/\∃m:Nat->Nat,(∀i,m i<=m (i+1))/\lo<=m 0/\m xs.length<=hi/\
  ∀i x,xs[i]?=some x->∃a:List Value,a.length=sz/\E w (m i) (m (i+1)) x a/\∀j u,a[j]?=some u->cells[i*sz+j]?=some u
def dN{m:Nat->Nat}(h:∀i,m i<=m (i+1)){i:Nat}:∀{j:Nat},i<=j->m i<=m j
 |0,hj=>by obtain rfl:i=0:=by omega
           exact am _
 |j+1,hj=>by
  by_cases a:i=j+1
  .rw[a];exact am _
  .exact ap (dN h (show i<=j by omega)) (h j)
def Els.nil(h:Y<=hi):Els E sz w Y hi [] []:=⟨by simp,λ_ h=>(by cases h),λ_=>Y,λ_=>am _,am _,h,λi x h=>by simp at h⟩
def Els.le{xs:List α}(h:Els E sz w Y hi xs U):Y<=hi:=by
 obtain⟨_,_,m,b,a,c,_⟩:=h;exact ap a (ap (dN b (ff _)) c)
def Els.go(g:dM E T){fg hi' : Nat}{xs:List α}(h:Els E sz w Y hi xs U)(k:∀b,Y<=b->b<hi->Typed w T b->w'.heap[b]?=w.heap[b]?)(t:fg<=Y)(r:hi<=hi'):Els E sz w' fg hi' xs U:=by
 obtain⟨a,b,m,c,q,s,o⟩:=h;refine⟨a,b,m,c,by omega,by omega,λi x hi=> ?_⟩;obtain⟨j,l,f,n⟩:=o i x hi;have d:=aD hi;have v:=dN c (ff i);have y:=dN c (show i+1<=xs.length by omega);exact⟨j,l,g.go (λb p u e=>k b (by omega) (by omega) e) (am _) (am _) f,n⟩
def Els.snoc{xs:List α}(h:Els E sz w Y c xs U){y:α}{es:List Value}(o:es.length=sz)(C:∀u∈es,u.oneCell'=true)(I:c<=hi)(D:E w c hi y es)(H:∀a b,a<=c->E w c hi y es->E w a b y es->True:=λ_ _ _ _ _=>trivial):Lcy E->Els E sz w Y hi (xs++[y]) (U++es):=by
 intro k;obtain⟨a,b,m,p,r,s,G⟩:=h;refine⟨by rw[aE,aE,a,o,mw,Nat.add_mul,Nat.one_mul],λu e=> ?_,λi=>if i<=xs.length then m i else hi,λi=> ?_, ?_, ?_,λi x d=> ?_⟩
 .rcases oR.1 e with e|e
  .exact b u e
  .exact C u e
 .show(if i<=xs.length then m i else hi)<=(if i+1<=xs.length then m (i+1) else hi);by_cases q:i+1<=xs.length
  .rw[eg q,eg (by omega)];exact p i
  .rw[da q];by_cases l:i<=xs.length
   .rw[eg l];have:=dN p l;omega
   .rw[da l];exact am _
 .show Y<=(if 0<=xs.length then m 0 else hi);rw[eg (ff _)];exact r
 .show(if(xs++[y]).length<=xs.length then _ else hi)<=hi;rw[da (by rw[aE,mw];omega)];exact am _
 .rcases pr i xs.length with g|B
  .rw[qw g] at d;obtain⟨n,A,z,F⟩:=G i x d;refine⟨n,A, ?_,λj u e=> ?_⟩
   .show E w (if i<=xs.length then m i else hi) (if i+1<=xs.length then m (i+1) else hi) x n;rw[eg (by omega),eg (by omega)];exact z
   .have J:=aD e;have v:(i+1)*sz<=xs.length*sz:=qP _ g;rw[rz] at v;rw[qw (by omega)];exact F j u e
  .rw[qm B] at d;have t:i-xs.length=0:=by have:=aD d;simp at this;omega
   rw[t] at d;simp at d;subst d;have f:i=xs.length:=by omega
   refine⟨es,o, ?_,λj u e=> ?_⟩
   .show E w (if i<=xs.length then m i else hi) (if i+1<=xs.length then m (i+1) else hi) y es;rw[eg (by omega),da (by omega),f];exact k.wide D s (am _)
   .rw[f,qm (by omega),a,rR];exact e
def Els.at_(K:dM E T){xs:List α}(h:Els E sz w Y hi xs U){x:α}(v:xs[i]?=some x) :
  ∃m l g,Y<=m/\m<=l/\l<=hi/\g.length=sz/\E w m l x g/\(∀j u,g[j]?=some u->U[i*sz+j]?=some u)/\
   ∀(n:World) (y:α) (d:List Value),d.length=sz->(∀u∈d,u.oneCell'=true)->(∀b,Y<=b->b<hi->Typed w T b->¬(m<=b/\b<l)->n.heap[b]?=w.heap[b]?)->E n m l y d->
    ∀c:List Value,c.length=U.length->(∀k,¬(i*sz<=k/\k<i*sz+sz)->c[k]?=U[k]?)->(∀j u,d[j]?=some u->c[i*sz+j]?=some u)->(∀u∈c,u.oneCell'=true)->Els E sz n Y hi (xs.set i y) c:=by
 obtain⟨a,b,m,e,B,C,A⟩:=h;have p:=aD v;obtain⟨g,P,J,Q⟩:=A i x v;have l1:=dN e (ff i);have l2:=dN e (show i+1<=xs.length by omega);refine⟨m i,m (i+1),g,by omega,e i,by omega,P,J,Q,λn y d L X N M c R r q s=>⟨by rw[R,a,qY],s,m,e,B,by rw[qY];exact C,λk z f=> ?_⟩⟩;by_cases o:i=k
 .subst o;rw[rA p] at f;cases f;exact⟨d,L,M,q⟩
 .rw[rN o] at f;obtain⟨G,I,H,O⟩:=A k z f;have D:=aD f;have S:=dN e (ff k);have k2:=dN e (show k+1<=xs.length by omega);refine⟨G,I,K.go (λb V Z F=>N b (by omega) (by omega) F λW=> ?_) (am _) (am _) H,λj u t=> ?_⟩
  .rcases Nat.lt_or_gt_of_ne o with h|h
   .have:=dN e (show i+1<=k by omega);omega
   .have:=dN e (show k+1<=i by omega);omega
  .rw[r _ (by
    have hj:=aD t;rcases Nat.lt_or_gt_of_ne o with h|h
    .have:(i+1)*sz<=k*sz:=qP _ h;rw[rz] at this;omega
    .have:(k+1)*sz<=i*sz:=qP _ h;rw[rz] at this;omega)]
   exact O j u t
def aP(e:TypeId)(E:fW α)(sz:Nat):fW (List α):=λw b c a d=>
 ∃(v:Value) (cells:List Value),d=[v]/\w.ownsRow b e sz v a.length cells/\(∀g,v.ownBlock=some g->g<c)/\Els E sz w b c a cells
def aP.form{xs:List α}(h:aP e E sz w Y hi xs [v]):∃A c,v=.slice A xs.length c:=by
 obtain⟨b,cells,a,h,_⟩:=h;cases a;exact gV h
def aP.nil(h:Y<=hi):aP e E sz w Y hi [] [.slice none 0 0]:=⟨_,[],rfl,uu _ _ _ _,λ_ h=>(by cases h),Els.nil h⟩
def aP.ar(o:dM E T):dM (aP e E sz) (e::T):=by
 refine⟨?_⟩;intro w u B z y s x A k n j h;obtain⟨v,cells,rfl,i,l,f⟩:=h;refine⟨v,cells,rfl,⟨i.1, ?_⟩,λg a=>bd (l g a) j,f.go o (λb p q ⟨t,ht,hd⟩=>k b p q ⟨t,rh _ ht,hd⟩) n j⟩;rcases i.2 with r|⟨g,cap,c,rfl,m,a,d⟩
 .exact .inl r
 .refine .inr ⟨g,cap,c,rfl,ap n m, ?_,d⟩;rw[k g m (l g rfl) ⟨e,qD,c,a⟩];exact a
def aP.sl{k:fW α}(d:Lcy k)(H:∀{w:World} {Y hi:Nat} {x:α} {b:List Value},E w Y hi x b->k w Y hi x b){xs:List α}(h:aP e E sz w Y hi xs cs):bB k sz w Y hi xs cs:=by
 obtain⟨v,cells,rfl,y,t,a,_,m,o,J,K,I⟩:=h;obtain⟨_,q⟩:=y;rcases q with⟨rfl,r⟩|⟨g,cap,l,rfl,s,B,n,f,D,A⟩
 .exact⟨none,0,by rw[r],by omega,by unfold maxLen;omega,λL=>by omega⟩
 .refine⟨_,cap,rfl,n,f,λ_=>⟨g,0,rfl,s,t g rfl,λi x hi=> ?_⟩⟩;obtain⟨b,F,z,G⟩:=I i x hi;have p:=aD hi;have M:=dN o (ff i);have N:=dN o (show i+1<=xs.length by omega);refine⟨b,F,d.wide (H z) (by omega) (by omega),λj u C=> ?_⟩;have c:=G j u C;rw[<-A,qA] at c;split at c
  .rw[cell_of_row w g (0+i*sz+j) l _ (0,0) B,me];simpa using c
  .cases c
def aP.slT{f:fW α}(a:Lcy f)(o:∀{w:World} {Y hi:Nat} {x:α} {i:List Value},E w Y hi x i->f w Y hi x i){xs:List α}(h:aP e E sz w Y hi xs cs):eK e f sz w Y hi xs cs:=by
 refine⟨h.sl a o,λq b l n c j=> ?_⟩;obtain⟨v,cells,rfl,p,r,_⟩:=h;simp only[qj,qx] at j;subst j;rcases p.2 with⟨d,_⟩|⟨g,cap,k,d,_,m,_⟩
 .cases d
 .cases d;exact⟨_,m⟩
def aP.some_{xs:List α}(h:aP e E sz w Y hi xs [v])(k:0<xs.length):∃g c,v=.slice (some ⟨g,0,none⟩) xs.length c/\Y<=g/\g<hi/\g<w.heap.size/\∃j,aX w g e j:=by
 obtain⟨l,cells,i,h,f,_⟩:=h;cases i;rcases h.2 with⟨_,m⟩|⟨g,cap,a,rfl,d,b,_⟩
 .omega
 .exact⟨g,cap,rfl,d,f g rfl,(show aX w g e a from b).lt,a,b⟩
def aP.frozen{xs:List α}(h:aP e E sz w Y hi xs [.slice (some ⟨g,0,none⟩) n c])(j:Nat):w.frozen? ⟨g,j,none⟩=false:=by
 obtain⟨d,cells,a,h,i,_⟩:=h;cases a;obtain⟨A,f,b⟩:=gV h;cases b;exact h.frozenAt j
def aP.at_(P:dM E T)(B:e∉T){xs:List α}(h:aP e E sz w Y hi xs [.slice (some ⟨g,0,none⟩) n c]){x:α}(I:xs[i]?=some x) :
  ∃m a f,Y<=m/\m<=a/\a<=hi/\f.length=sz/\E w m a x f/\(∀j u,f[j]?=some u->w.cell? ⟨g,i*sz+j,none⟩=some u)/\
   ∀(k:World) (y:α),bh (λb=>m<=b/\b<a/\Typed w T b) w k->E k m a y f->aP e E sz k Y hi (xs.set i y) [.slice (some ⟨g,0,none⟩) n c]:=by
 obtain⟨V,cells,q,o,K,d⟩:=h;cases q;obtain⟨A,W,C⟩:=gV o;cases C;have r:=aD I;obtain⟨m,a,f,R,S,N,q,C,F,z⟩:=d.at_ P I;refine⟨m,a,f,R,S,N,q,C,λj u p=> ?_,λk y G Q=> ?_⟩
 .have J:=aD p;have l:(i+1)*sz<=xs.length*sz:=qP _ r;rw[rz] at l;rw[o.cellAt _ (by omega)];exact F j u p
 .have D:¬(m<=g/\g<a/\Typed w T g):=λ⟨_,_,t,s,M,hd⟩=>by
   rcases o.2 with⟨v,_⟩|⟨X,cap,O,v,_,L,_⟩
   .cases v
   .cases v;exact B (cI L hd▸s)
  refine⟨_,cells,rfl, ?_,K,z k y f q (λu p=> ?_) (λb U Z s l=> ?_) Q cells rfl (λ_ _=>rfl) F d.2.1⟩
  .rw[qY];exact adX o G λb l=>by cases l;exact D
  .obtain⟨j,J⟩:=se p;exact d.2.1 u (de (F j u J))
  .obtain⟨t,_,M,hd⟩:=id s;exact G.block b hd.lt λH=>l ⟨H.1,H.2.1⟩
def aP.put(Q:dM E T)(K:e∉T){xs:List α}(h:aP e E sz w Y hi xs [.slice (some ⟨g,0,none⟩) n c]){x y:α}(M:xs[i]?=some x)(hj:j<sz)(U:u.oneCell'=true)(W:∀(O:World) (Y hi:Nat) (r:List Value),E O Y hi x r->E O Y hi y (r.set j u)) :
  aP e E sz (w.setCell ⟨g,i*sz+j,none⟩ u) Y hi (xs.set i y) [.slice (some ⟨g,0,none⟩) n c]:=by
 obtain⟨v',cells,D,C,V,o⟩:=h;cases D;obtain⟨A,c',B⟩:=gV C;cases B;have F:=aD M;have I:=(C.stored (i*sz+j) u).1;obtain⟨m,m',r,l1,l2,l3,D,B,X,J⟩:=o.at_ Q M;have H:¬Typed w T g:=λ⟨t,l,ds,hd⟩=>by
  rcases C.2 with⟨G,_⟩|⟨Z,cap,S,G,_,P,_⟩
  .cases G
  .cases G;exact K (cI P hd▸l)
 have N:∀b,Typed w T b->(w.setCell ⟨g,i*sz+j,none⟩ u).heap[b]?=w.heap[b]?:=λb l=>iS _ _ _ _ (by rintro rfl;exact H l);have d:∀v∈cells.set (i*sz+j) u,v.oneCell'=true:=λv p=>by
  rcases tj p with p|rfl
  .exact o.2.1 v p
  .exact U
 have s:∀f z,(r.set j u)[f]?=some z->(cells.set (i*sz+j) u)[i*sz+f]?=some z:=λf z a=>by
  by_cases q:j=f
  .subst q;rw[rA (by omega)] at a;rw[rA (by
    have R:(i+1)*sz<=xs.length*sz:=qP _ F;rw[rz] at R;rw[o.1];omega)]
   exact a
  .rw[rN q] at a;rw[rN (by omega)];exact X f z a
 refine⟨_,cells.set (i*sz+j) u,rfl,by rw[qY];exact I,V,J _ y (r.set j u) (by rw[qY];exact D) (λv p=> ?_) (λb b1 b2 l _=>N b l) (W _ _ _ _ (Q.go (λb _ _ l=>N b l) (am _) (am _) B)) _ (by rw[qY]) (λk P=> ?_) s d⟩
 .obtain⟨f,L⟩:=se p;exact d v (de (s f v L))
 .rw[rN (by omega)]
end
def aL.aat{F:Flat V}{base : Nat}{xs:List V}(h:aL F e w base v xs)(b:∀x∈xs,F.good x)(c:base<=hi)(a:∀g,v.ownBlock=some g->g<hi):aP e (bV F) F.sz w base hi xs [v]:=
 ⟨v,eh F xs,rfl,h,a,eu F xs,acK F xs,λ_=>base,λ_=>am _,am _,c,λi x hi=>⟨F.cells x,F.len x,⟨rfl,b x (de hi)⟩,λ_ _ d=>eB F xs i _ x _ hi d⟩⟩
def aP.flat{F:Flat V}{xs:List V}(h:aP e (bV F) F.sz w Y hi xs [v]):aL F e w Y v xs/\(∀x∈xs,F.good x)/\Y<=hi/\∀g,v.ownBlock=some g->g<hi:=by
 obtain⟨A,cells,y,j,p,a⟩:=h;cases y;have d:=a.le;obtain⟨D,C,m,E,z,B,o⟩:=a;have s:∀x∈xs,F.good x:=λx b=>by
  obtain⟨i,hi⟩:=se b;obtain⟨u,_,t,_⟩:=o i x hi;exact t.2
 refine⟨?_,s,d,p⟩;have:cells=eh F xs:=by
  apply tN;intro k;rcases pr k (xs.length*F.sz) with c|c
  .have hi:k / F.sz<xs.length:=wn (by rw[tQ];exact c);have b:=jp hi;obtain⟨u,q,⟨rfl,_⟩,r⟩:=o _ _ b;have n:k % F.sz<(F.cells xs[k / F.sz]).length:=by rw[F.len];exact tG _ F.pos
   have l:=r (k % F.sz) _ (jp n);have f:=eB F xs (k / F.sz) (k % F.sz) _ _ b (jp n);rw[vO] at l f;rw[l,f]
  .rw[rq (by omega),rq (by rw[eu];exact c)]
 rw[this] at j;exact j
end
section
variable {β:Bool}
open Go.RowKit
structure Ls where
 p:ByteArray
 ns:List Int
structure Sn where
 no:Int
 all:List Ls
structure Hd where
 b:Int
 s:Int
structure dJ where
 pk:List Pk
 sn:List Sn
 lg:List Hd
def oQ:Flat Hd:=⟨2,λx=>[.int .i64 x.b,.int .i64 x.s],λx=>cE x.b/\cE x.s,λ_=>rfl,λx u a=>by simp at a;rcases a with rfl|rfl<;>rfl,by decide⟩
abbrev jk:fW (List It):=bB (bV mN) 2
def aoS:fW Pk:=λw a b x c=>∃v,c=[.int .i64 x.no,v]/\cE x.no/\jk w a b x.its [v]
abbrev iL:fW (List Pk):=bB aoS 2
def aoT:fW Ls:=λw a b x c=>∃v,c=[.string x.p,v]/\x.p.size<=maxLen/\bB aaq 1 w a b x.ns [v]
abbrev gb:fW (List Ls):=bB aoT 2
def aoU:fW Sn:=λw a b x c=>∃v,c=[.int .i64 x.no,v]/\cE x.no/\gb w a b x.all [v]
abbrev gZ:fW (List Sn):=bB aoU 2
abbrev cj:fW (List Hd):=bB (bV oQ) 2
def jk.loc:Lcy jk:=bB.loc (bV.loc mN)
def aoS.loc:Lcy aoS:=⟨λh a b ⟨v,e,i,hr⟩=>⟨v,e,i,jk.loc.go h a b hr⟩⟩
def iL.loc:Lcy iL:=bB.loc aoS.loc
def nY.loc:Lcy (bB aaq 1):=bB.loc aaq.loc
def aoT.loc:Lcy aoT:=⟨λh a b ⟨v,e,i,hr⟩=>⟨v,e,i,nY.loc.go h a b hr⟩⟩
def gb.loc:Lcy gb:=bB.loc aoT.loc
def aoU.loc:Lcy aoU:=⟨λh a b ⟨v,e,i,hr⟩=>⟨v,e,i,gb.loc.go h a b hr⟩⟩
def gZ.loc:Lcy gZ:=bB.loc aoU.loc
def cj.loc:Lcy cj:=bB.loc (bV.loc oQ)
def bB.aAt{E g:fW V}(t:∀{w:World} {c hi:Nat} {x:V} {a:List Value},E w c hi x a->g w c hi x a){xs:List V}(h:bB E Y w c hi xs cs):bB g Y w c hi xs cs:=by
 obtain⟨A,c,f,l,q,p⟩:=h;refine⟨A,c,f,l,q,λo=> ?_⟩;obtain⟨b,e,m,k,j,d⟩:=p o;refine⟨b,e,m,k,j,λi x hi=> ?_⟩;obtain⟨a,r,n,s⟩:=d i x hi;exact⟨a,r,t n,s⟩
abbrev abg:fW (List It):=aP 68 (bV mN) 2
def kL:fW Pk:=λw a b x c=>∃v,c=[.int .i64 x.no,v]/\cE x.no/\abg w a b x.its [v]
abbrev bH:fW (List Pk):=aP 59 kL 2
abbrev iM:fW (List Int):=aP 3 (bV nk) 1
def abg.ar:dM abg [68]:=aP.ar (bV.ar mN)
def kL.ar:dM kL [68]:=⟨λh a b ⟨v,e,i,hr⟩=>⟨v,e,i,abg.ar.go h a b hr⟩⟩
def bH.ar:dM bH [59,68]:=aP.ar kL.ar
def iM.ar:dM iM [3]:=aP.ar (bV.ar nk)
def abg.l{x:List It}(h:abg w Y hi x cs):jk w Y hi x cs:=aP.sl (bV.loc mN) (λh=>h) h
def abg.t{x:List It}(h:abg w Y hi x cs):acM w Y hi x cs:=aP.slT (bV.loc mN) (λh=>h) h
def kL.l{x:Pk}(h:kL w Y hi x cs):aoS w Y hi x cs:=by
 obtain⟨v,e,i,a⟩:=h;exact⟨v,e,i,abg.l a⟩
def kL.t{x:Pk}(h:kL w Y hi x cs):RPk w Y hi x cs:=by
 obtain⟨v,e,i,a⟩:=h;exact⟨v,e,i,abg.t a⟩
def bH.l{x:List Pk}(h:bH w Y hi x cs):iL w Y hi x cs:=aP.sl aoS.loc kL.l h
def bH.t{x:List Pk}(h:bH w Y hi x cs):aoD w Y hi x cs:=aP.slT RPk.ar.loc kL.t h
def iM.l{x:List Int}(h:iM w Y hi x cs):bB aaq 1 w Y hi x cs:=aP.sl aaq.loc (λh=>h) h
def OLs:fW Ls:=λw a b x c=>∃v,c=[.string x.p,v]/\x.p.size<=maxLen/\iM w a b x.ns [v]
abbrev fK:fW (List Ls):=aP 100 OLs 2
def ma:fW Sn:=λw a b x c=>∃v,c=[.int .i64 x.no,v]/\cE x.no/\fK w a b x.all [v]
abbrev bW:fW (List Sn):=aP 63 ma 2
abbrev dF:fW (List Hd):=aP 42 (bV oQ) 2
def OLs.ar:dM OLs [3]:=⟨λh a b ⟨v,e,i,hr⟩=>⟨v,e,i,iM.ar.go h a b hr⟩⟩
def fK.ar:dM fK [100,3]:=aP.ar OLs.ar
def ma.ar:dM ma [100,3]:=⟨λh a b ⟨v,e,i,hr⟩=>⟨v,e,i,fK.ar.go h a b hr⟩⟩
def bW.ar:dM bW [63,100,3]:=aP.ar ma.ar
def dF.ar:dM dF [42]:=aP.ar (bV.ar oQ)
def OLs.l{x:Ls}(h:OLs w Y hi x cs):aoT w Y hi x cs:=by
 obtain⟨v,e,i,a⟩:=h;exact⟨v,e,i,iM.l a⟩
def fK.l{x:List Ls}(h:fK w Y hi x cs):gb w Y hi x cs:=aP.sl aoT.loc OLs.l h
def ma.l{x:Sn}(h:ma w Y hi x cs):aoU w Y hi x cs:=by
 obtain⟨v,e,i,a⟩:=h;exact⟨v,e,i,fK.l a⟩
def bW.l{x:List Sn}(h:bW w Y hi x cs):gZ w Y hi x cs:=aP.sl aoU.loc ma.l h
def dF.l{x:List Hd}(h:dF w Y hi x cs):cj w Y hi x cs:=aP.sl (bV.loc oQ) (λh=>h) h
def et{α:Type}(f:α->Nat)(l:List α):Nat:=l.length+(l.map f).sum
def jE{a:Type}{f:a->Nat}:∀{l:List a} {x:a},x∈l->f x<=et f l
 |[],_,h=>by cases h
 |y::l,x,h=>by
  have e:et f (y::l)=et f l+1+f y:=by unfold et;simp only[gc,sF,List.sum_cons];omega
  rcases pb.1 h with rfl|h
  .omega
  .have:=jE (f:=f) h;omega
def dU{f:V->Nat}{l:List V}:l.length<=et f l:=by unfold et;omega
def bIt(x:It):Nat:=x.b.size
def bPk(x:Pk):Nat:=et bIt x.its
def bLs(x:Ls):Nat:=x.p.size+x.ns.length
def bSn(x:Sn):Nat:=et bLs x.all
def ace{c:Type}:∀(l:List c) (j:Nat) (a b:c),(l.set j a).set j b=l.set j b
 |[],_,_,_=>rfl
 |_::_,0,_,_=>rfl
 |x::l,j+1,a,b=>by show x::(l.set j a).set j b=x::l.set j b;rw[ace l j a b]
def lJ{S:Nat->Prop}(h:bh S w w'){T U:List TypeId}(d:∀t∈T,t∈U){b : Nat}(j:b<hi)(i:hi<=w.heap.size)(c:S b->Typed w U b)(f:Typed w' T b):Typed w U b:=by
 by_cases a:S b
 .exact c a
 .obtain⟨t,e,g,hd⟩:=f;exact⟨t,d t e,g,(h.block b (by omega) a).symm.trans hd⟩
end
section
variable {β:Bool}
open Go.RowKit
structure Nd where
 p:ByteArray
 b:ByteArray
def mP:Flat Nd:=⟨2,λx=>[.string x.p,.string x.b],λx=>x.p.size<=maxLen/\x.b.size<=maxLen,λ_=>rfl,λx u a=>by simp at a;rcases a with rfl|rfl<;>rfl,by decide⟩
abbrev eL:fW (List Nd):=eK 79 (bV mP) 2
def eL.ar:dM eL [79]:=eK.ar (bV.ar mP)
def nZ:iy (ai β) 38 79 2 32:=iy.mk' yX (z:=.agg #[.string ⟨#[]⟩,.string ⟨#[]⟩]) (by kernel_rfl) rfl (by decide) (by decide)
def ahA(x:Nd):Prop:=jq x.p=true/\dR x.b=true
def oD:∀{a b c:List UInt8},Op.bytesLess a b=true->Op.bytesLess b c=true->Op.bytesLess a c=true
 |_,[],_,h,_=>by simp[Op.bytesLess] at h
 |_,_::_,[],_,h=>by simp[Op.bytesLess] at h
 |[],_::_,_::_,_,_=>by simp[Op.bytesLess]
 |x::a,y::b,z::c,e,d=>by
  simp only[Op.bytesLess,rj,rb,ge,oE,rY,<-uO] at e d ⊢;rcases e with e|⟨e,g⟩
  .rcases d with d|⟨d,f⟩
   .exact .inl (by omega)
   .exact .inl (by omega)
  .rcases d with d|⟨d,f⟩
   .exact .inl (by omega)
   .exact .inr ⟨by omega,oD g f⟩
def arE(t:List Nd)(i:Nat)(x:Nd):Prop:=ahA x/\(∀y,0<i->t[i-1]?=some y->Op.bytesLess y.p.toList x.p.toList=true)/\∀k y,k<i->t[k]?=some y->mL y.p x.p=false
def arF(t:List Nd):Prop:=t.length<=6/\∀i x,t[i]?=some x->arE t i x
def ano{t:List Nd}(h:∀i x,t[i]?=some x->∀y,0<i->t[i-1]?=some y->Op.bytesLess y.p.toList x.p.toList=true):∀(d k:Nat) {x y:Nd},t[k+d+1]?=some x->t[k]?=some y->Op.bytesLess y.p.toList x.p.toList=true
 |0,k,x,y,hx,hy=>h (k+1) x hx y (by omega) hy
 |d+1,k,x,y,hx,hy=>by
  obtain⟨z,a⟩:∃z,t[k+d+1]?=some z:=aq (by have:=aD hx;omega);exact oD (ano h d k a hy) (h (k+(d+1)+1) x hx z (by omega) a)
def lK(xs:List Nd):Prop:=(∀x∈xs,ahA x)/\xs.length<=6/\xs.Pairwise λa b=>Op.bytesLess a.p.toList b.p.toList=true/\mL a.p b.p=false
def lK.nil:lK []:=⟨λy a=>(by cases a),ff _,.nil⟩
def lK.one{x:Nd}(h:ahA x):lK [x]:=⟨λy a=>by rw[pi.1 a];exact h,by simp,un _ _⟩
def lK.sub{xs ys:List Nd}(h:lK xs)(a:ys.Sublist xs):lK ys:=⟨λy b=>h.1 y (a.mem b),ap a.length_le h.2.1,h.2.2.sublist a⟩
def arG{t:List Nd}:arF t↔lK t:=by
 unfold lK arF;rw[vK];constructor
 .rintro⟨g,h⟩;refine⟨λx a=> ?_,g,λi j b m d=>⟨?_, ?_⟩⟩
  .obtain⟨i,b⟩:=se a;exact(h i x b).1
  .exact ano (λi x a=>(h i x a).2.1) (j-i-1) i (by rw[show i+(j-i-1)+1=j by omega];exact jp m) (jp b)
  .exact(h j t[j] (jp m)).2.2 i t[i] d (jp b)
 .rintro⟨p,n,l⟩;refine⟨n,λi x a=>⟨p x (de a),λy g c=> ?_,λk y o c=> ?_⟩⟩
  .obtain⟨e,rfl⟩:=qv.1 a;obtain⟨f,rfl⟩:=qv.1 c;exact(l (i-1) i f e (by omega)).1
  .obtain⟨e,rfl⟩:=qv.1 a;obtain⟨f,rfl⟩:=qv.1 c;exact(l k i f e o).2
def jV{xs:List Nd}{A:Option Addr}(h:eL w Y hi xs [.slice A n c]){k:Nat}{x:Nd}(i:xs[k]?=some x) :
  ∃b a,A=some ⟨b,a,none⟩/\Y<=b/\b<hi/\mP.good x/\w.cell? ⟨b,a+k*2,none⟩=some (.string x.p)/\w.cell? ⟨b,a+k*2+1,none⟩=some (.string x.b):=by
 obtain⟨b,a,l,e,j,f,_,⟨rfl,g⟩,d⟩:=h.1.at_ i;exact⟨b,a,e,j,f,g,by simpa using d 0 _ rfl,by simpa using d 1 _ rfl⟩
def aoV(xs:List Nd)(v:Value)(w:World)(lo hi:Nat)(h:eL w lo hi xs [v])(Y:hi<=w.heap.size)(q:Bool)(f:q=true↔arF xs) :
  Calls (ai β) 61 #[v] w λe w'=>e=.returned (.bool q)/\Below w.heap.size w w':=by
 have L:=ab f;clear f;obtain⟨A,c,rfl⟩:=h.form;obtain⟨_,hc,V⟩:=h.1.len_;unfold maxLen at V;go_enter zG,ntmps61;go_wp2;go_loopw [3] (λii wr=>∃k:Nat,k<=xs.length/\ii=.int .i64 k/\(∀i x,i<k->xs[i]?=some x->arE xs i x)/\Below w.heap.size w wr) (λii _=>xs.length-(intOf ii).toNat)
 case atStart=>exact⟨0,ff _,rfl,λi x hi=>absurd hi (sT i),du _ _⟩
 case round=>
  obtain⟨k,hk,rfl,U,E⟩:=hrel;replace U:=ab U;by_cases n:k<xs.length
  .obtain⟨x,C⟩:=aq n;obtain⟨b0,a8,rfl,_,a7,u,F,T⟩:=jV (eL.ar.below h E Y) C;replace C:=ab C;cases a:jq x.p
   .replace a:=ab a;have g:q=false:=by
     rw[<-mc,L.out];rintro⟨-,h⟩;have h:=h k x C.out;have h:=h.1.1;rw[a.out] at h;cases h
    have o:=ab g;clear g;go_wp2;have s:=ae F;have t:=ae T;refine aN (by kernel_rfl) (by kernel_rfl) ?_;repeat(go_big_quiet_step (first|(go_at_call 67;refine dT (v:=.bool false) ?_;rw[<-a.out];exact jA x.p u.1 _)))
    refine io ?_;intro M d;have f:=bC d;clear d s t;go_wp2;go_ret;exact⟨aB o.out.symm,ag E f⟩
   .replace a:=ab a;cases b:dR x.b
    .replace b:=ab b;have g:q=false:=by
      rw[<-mc,L.out];rintro⟨-,h⟩;have h:=h k x C.out;have h:=h.1.2;rw[b.out] at h;cases h
     have o:=ab g;clear g;go_wp2;have s:=ae F;have t:=ae T;refine aN (by kernel_rfl) (by kernel_rfl) ?_;repeat(go_big_quiet_step (first|(go_at_call 67;refine dT (v:=.bool true) ?_;rw[<-a.out];exact jA x.p u.1 _)|(go_at_call 68;refine dT (v:=.bool false) ?_;rw[<-b.out];exact lF x.b u.2 _)))
     refine io ?_;intro M d;have f:=bC d;clear d s t;go_wp2;go_ret;exact⟨aB o.out.symm,ag E f⟩
    .replace b:=ab b;by_cases a4:k=0
     case' pos=>
      have Z:=db (show ¬(0<k) by omega);have W:ahA x/\∀y,0<k->xs[k-1]?=some y->Op.bytesLess y.p.toList x.p.toList=true:=⟨⟨a.out,b.out⟩,λy h0=>by omega⟩;have X:=ab W;clear W;clear a4;go_wp2;have s:=ae F;have t:=ae T;refine aN (by kernel_rfl) (by kernel_rfl) ?_;repeat(go_big_quiet_step (first|(go_at_call 67;refine dT (v:=.bool true) ?_;rw[<-a.out];exact jA x.p u.1 _)|(go_at_call 68;refine dT (v:=.bool true) ?_;rw[<-b.out];exact lF x.b u.2 _)))
      refine io ?_;intro M d;have f:=bC d;clear d s t
     case' neg=>
      obtain⟨k',oV⟩:∃m,m=k-1:=⟨_,rfl⟩;have e1:(k:Int)-1=((k':Nat):Int):=by omega
      have a2:k'<xs.length:=by omega
      have Z:=dj (show 0<k by omega);obtain⟨z,p⟩:=aq a2;obtain⟨b1,Q,D,_,_,a9,P,_⟩:=jV (eL.ar.below h E Y) p;simp only[mt,qC,qx] at D;obtain⟨rfl,rfl⟩:=D;replace p:=ab p;have O:=ab oV;have a1:0<k:=by omega
      clear oV;cases S:Op.bytesLess z.p.toList x.p.toList
      .have K:=ab S;have g:q=false:=by
        rw[<-mc,L.out];rintro⟨-,h⟩;have h:=h k x C.out;have h:=h.2.1 z a1 (by rw[<-O.out];exact p.out);rw[K.out] at h;cases h
       have o:=ab g;clear g;go_wp2;have s:=ae F;have t:=ae T;have bg:=ae P;refine aN (by kernel_rfl) (by kernel_rfl) ?_;repeat(go_big_quiet_step (first|(go_at_call 67;refine dT (v:=.bool true) ?_;rw[<-a.out];exact jA x.p u.1 _)|(go_at_call 68;refine dT (v:=.bool true) ?_;rw[<-b.out];exact lF x.b u.2 _)))
       refine io ?_;intro M d;have f:=bC d;clear d s t bg;go_wp2;go_ret;exact⟨aB o.out.symm,ag E f⟩
      have K:=ab S;have W:ahA x/\∀y,0<k->xs[k-1]?=some y->Op.bytesLess y.p.toList x.p.toList=true:=⟨⟨a.out,b.out⟩,λy h0 hy=>by
       rw[<-O.out,p.out] at hy;cases hy;exact K.out⟩
      have X:=ab W;go_wp2;have s:=ae F;have t:=ae T;have bg:=ae P;refine aN (by kernel_rfl) (by kernel_rfl) ?_;repeat(go_big_quiet_step (first|(go_at_call 67;refine dT (v:=.bool true) ?_;rw[<-a.out];exact jA x.p u.1 _)|(go_at_call 68;refine dT (v:=.bool true) ?_;rw[<-b.out];exact lF x.b u.2 _)))
      refine io ?_;intro M d;have f:=bC d
     all_goals
      have a6:=ag E f;go_wp2;go_loopw [4] (λjj wr=>∃j:Nat,j<=k/\jj=.int .i64 j/\(∀i y,i<j->xs[i]?=some y->mL y.p x.p=false)/\Below w.heap.size w wr) (λjj _=>k-(intOf jj).toNat)
      case atStart=>exact⟨0,ff _,rfl,λi y hi=>absurd hi (sT i),a6⟩
      case round=>
       obtain⟨j,hj,rfl,B,r⟩:=hrel;replace B:=ab B;by_cases R:j<k
       .obtain⟨y,N⟩:=aq (l:=xs) (k:=j) (by omega);obtain⟨b1,Q,D,_,_,a5,P,_⟩:=jV (eL.ar.below h r Y) N;simp only[mt,qC,qx] at D;obtain⟨rfl,rfl⟩:=D;obtain⟨b1,Q,D,_,_,_,F,_⟩:=jV (eL.ar.below h r Y) C.out;simp only[mt,qC,qx] at D;obtain⟨rfl,rfl⟩:=D;have a3:0<y.p.size:=by
         have:=lD (U.out j y R N).1.1;omega
        have a0:0<x.p.size:=by have:=lD X.out.1.1;omega
        have HC:=ab (λw':World=>ahf (β:=β) y.p x.p ⟨a3,a5.1⟩ ⟨a0,u.1⟩ w');replace N:=ab N;cases G:mL y.p x.p
        .replace G:=ab G;have H:∀i z,i<j+1->xs[i]?=some z->mL z.p x.p=false:=λi z hi J=>by
          rcases pr i j with n|oM
          .exact B.out i z n J
          .obtain rfl:i=j:=by omega
           rw[N.out] at J;cases J;exact G.out
         replace H:=ab H;go_wp2;have s:=ae P;have t:=ae F;refine aN (by kernel_rfl) (by kernel_rfl) ?_;repeat(go_big_quiet_step (first|(go_at_call 89;refine dS (v:=.bool false) ?_;rw[<-G.out];exact HC.out _)))
         refine io ?_;intro M d;have f:=bC d;go_wp2;go_roundw
         case rel=>exact⟨j+1,by omega,by go_num,H.out,ag r f⟩
         simp[intOf];omega
        .replace G:=ab G;have g:q=false:=by
          rw[<-mc,L.out];rintro⟨-,h⟩;have h:=h k x C.out;have h:=h.2.2 j y R N.out;rw[G.out] at h;cases h
         have o:=ab g;go_wp2;have s:=ae P;have t:=ae F;refine aN (by kernel_rfl) (by kernel_rfl) ?_;repeat(go_big_quiet_step (first|(go_at_call 89;refine dS (v:=.bool true) ?_;rw[<-G.out];exact HC.out _)))
         refine io ?_;intro M d;have f:=bC d;go_wp2;go_ret;exact⟨aB o.out.symm,ag r f⟩
       .obtain rfl:j=k:=by omega
        have I:∀i z,i<j+1->xs[i]?=some z->arE xs i z:=λi z hi J=>by
         rcases pr i j with n|oM
         .exact U.out i z n J
         .obtain rfl:i=j:=by omega
          rw[C.out] at J;cases J;exact⟨X.out.1,X.out.2,B.out⟩
        replace I:=ab I;go_wp2;go_roundw
        case rel=>exact⟨j+1,by omega,by go_num,I.out,r⟩
        simp[intOf];omega
  .obtain rfl:k=xs.length:=by omega
   by_cases h6:xs.length<=6
   .have Z:=dj (show(xs.length:Int)<=6 by omega);have g:q=true:=L.out.2 ⟨h6,λi x V=>U.out i x (aD V) V⟩;have o:=ab g;go_wp2;go_ret;exact⟨aB o.out.symm,E⟩
   .have Z:=db (show ¬((xs.length:Int)<=6) by omega);have g:q=false:=by
     rw[<-mc,L.out];rintro⟨h, -⟩;exact h6 h
    have o:=ab g;go_wp2;go_ret;exact⟨aB o.out.symm,E⟩
open Classical in
def abh(xs:List Nd)(v:Value)(w:World)(b hi:Nat)(h:eL w b hi xs [v])(c:hi<=w.heap.size) :
  Calls (ai β) 61 #[v] w λe a=>ahe (lK xs) e/\Below w.heap.size w a:=
 (aoV xs v w b hi h c (decide (lK xs)) (by rw[decide_eq_true_iff,arG])).mono λe a ⟨he,hb⟩=>⟨he▸ahe.of λh=>ta h,hb⟩
end
section
variable {β:Bool}
open Go.RowKit
def mb(x:It):List It->List It
 |[]=>[x]
 |y::l=>if x.n<y.n then x::y::l else y::mb x l
def agp{x:It}:∀{a:List It},(∀y∈a,¬x.n<y.n)->mb x a=a++[x]
 |[],_=>rfl
 |y::a,h=>by
  show(if x.n<y.n then _ else _)=_;rw[da (h y (by simp)),agp λz b=>h z (by simp[b])];rfl
def ajm{x z:It}:∀{a:List It},(∀y∈a,¬x.n<y.n)->x.n<z.n->mb x (a++[z])=a++[x]++[z]
 |[],_,b=>by show(if x.n<z.n then _ else _)=_;rw[eg b];rfl
 |y::a,h,b=>by
  show(if x.n<y.n then _ else _)=_;rw[da (h y (by simp))];show y::mb x (a++[z])=_;rw[ajm (λz b=>h z (by simp[b])) b];rfl
def ajn{x z:It}:∀{a:List It},(∃y∈a,x.n<y.n)->mb x (a++[z])=mb x a++[z]
 |[],h=>by obtain⟨y,b,_⟩:=h;cases b
 |y::a,h=>by
  show(if x.n<y.n then _ else _)=(if x.n<y.n then _ else _)++_;by_cases b:x.n<y.n
  .rw[eg b,eg b];rfl
  .rw[da b,da b];show y::mb x (a++[z])=y::(mb x a++[z]);rw[ajn];obtain⟨u,d,c⟩:=h;rcases pb.1 d with rfl|d
   .exact absurd c b
   .exact⟨u,d,c⟩
def ae4(x:It):∀l:List It,(mb x l).length=l.length+1
 |[]=>rfl
 |y::l=>by
  show(if x.n<y.n then _ else _:List It).length=_;split
  .rfl
  .show(mb x l).length+1=_;rw[ae4 x l];rfl
def ajo{x z:It}:∀{l:List It},z∈mb x l↔z=x\/z∈l
 |[]=>by show z∈[x]↔_;simp
 |y::l=>by
  show z∈(if x.n<y.n then _ else _)↔_;split
  .simp
  .rw[pb,ajo,pb];constructor
   .rintro(h|h|h)<;>simp[h]
   .rintro(h|h|h)<;>simp[h]
def acf(x:It)(a:List It)(b:Bool)(o:List It):Prop:=(b=false/\o=a/\∀y∈a,¬x.n<y.n)\/(b=true/\o=mb x a/\∃y∈a,x.n<y.n)
def aoW{a o:List It}{b:Bool}(h:acf x a b o):o.length<=a.length+1:=by
 rcases h with⟨_,rfl,_⟩|⟨_,rfl,_⟩
 .omega
 .rw[ae4];exact am _
def aoX{a o:List It}(h:acf x a false o)(b:x.n<z.n):acf x (a++[z]) true (o++[x]++[z]):=by
 rcases h with⟨_,rfl,h⟩|⟨h,_⟩
 .exact .inr ⟨rfl,(ajm h b).symm,z,by simp,b⟩
 .cases h
def arJ{a o:List It}(h:acf x a false o)(c:¬x.n<z.n):acf x (a++[z]) false (o++[z]):=by
 rcases h with⟨_,rfl,h⟩|⟨h,_⟩
 .exact .inl ⟨rfl,rfl,λy b=>by
   rcases oR.1 b with b|b
   .exact h y b
   .rw[pi.1 b];exact c⟩
 .cases h
def alB{a o:List It}(h:acf x a true o):acf x (a++[z]) true (o++[z]):=by
 rcases h with⟨h,_⟩|⟨_,rfl,y,c,b⟩
 .cases h
 .exact .inr ⟨rfl,(ajn ⟨y,c,b⟩).symm,y,by simp[c],b⟩
def aoY{a o:List It}{b:Bool}(h:acf x a b o):(b=false/\mb x a=o++[x])\/(b=true/\mb x a=o):=by
 rcases h with⟨c,rfl,h⟩|⟨c,rfl,_⟩
 .exact .inl ⟨c,agp h⟩
 .exact .inr ⟨c,rfl⟩
def aAu(w:World)(ys:List It)(e:Ending)(w':World):Prop:=∃v,e=.returned v/\aL mN 68 w' w.heap.size v ys/\Below w.heap.size w w'
def aoZ(x:It)(a1:mN.good x)(xs:List It)(v:Value)(w:World)(U hi:Nat)(aR:hi<=w.heap.size)(h:acM w U hi xs [v])(hl:xs.length<=1000000) :
  Calls (ai β) 96 #[v,.agg #[.int .i64 x.n,.string x.b]] w (aAu w (mb x xs)):=by
 obtain⟨A,c,rfl⟩:=h.form;obtain⟨_,hc,hx⟩:=h.len_;unfold maxLen at hx;go_enter zc,ntmps96;go_wp2;generalize hG:(w.alloc (.cells #[.int .i64 x.n,.string x.b] 68)).alloc (.cells #[] 68)=w0 at *;obtain⟨E,iz,k0,cQ,dW,J,T,dz⟩:=oP hG;have D:w.heap.size+1<=w0.heap.size:=by omega
 have g0:=acM.ar.below h E aR;have o0:aL mN 68 w0 (w.heap.size+1) (.slice (some ⟨w.heap.size+1,0,none⟩) 0 0) []:=aL.aiS ⟨_,rfl,am _,J⟩;go_loopw [5,6,7] (λoo pp S wr=>∃(k:Nat) (b:Bool) (o:List It),k<=xs.length/\pp=.bool b/\S=.int .i64 k/\aL mN 68 wr (w.heap.size+1) oo o/\acf x (xs.take k) b o/\bh (λb=>w.heap.size+1<=b) w0 wr) (λ_ _ S _=>xs.length-(intOf S).toNat)
 case atStart=>exact⟨0,false,[],ff _,rfl,rfl,o0,.inl ⟨rfl,rfl,λy hy=>(by cases hy)⟩,bh.refl _ _⟩
 case round=>
  obtain⟨k,b,o,hk,rfl,rfl,s,f,g⟩:=hrel;replace f:=ab f;obtain⟨r,t,rfl⟩:=s.form;have P:=aoW f.out;rw[fa] at P;have g1:acM wr U hi xs [.slice A xs.length c]:=acM.ar.fe g0 g λb _ h2 _ h3=>by omega
  have J:=aQ k0 g (by omega);have T:=J.cell;have dz:=J.frozen;by_cases N:k<xs.length
  .obtain⟨z,n⟩:=aq N;obtain⟨b1,a2,rfl,a5,a3,Y,Z,cb⟩:=awu g1 n;replace n:=ab n;have M:=ab (li n.out);cases b with
   |true=>
    have B:=ab (alB (z:=z) f.out);go_wp2
    go_quiet (fail)
    have j:aL mN 68 (wr.drewN nq) (w.heap.size+1) (.slice r o.length t) o:=s;go_wp2_with(at_builtin;refine cH (F:=mN) (v:=.slice r o.length t) rfl (.tmp 31) (.tmp 36) 57 rfl nR z rfl j rfl rfl (by first|omega|(simp only[aE,gc,mp];omega)) (ap D (g.drewN nq).size) ?_;intro O u d l q;obtain⟨C,G,rfl⟩:=d.form;simp only[aE,gc,mp,me] at d;skip);have a:bh (λb=>w.heap.size+1<=b) w0 u:=(g.drewN nq).trans l λb I e=>(j.at_ e).1;go_roundw
    case rel=>exact⟨k+1,true,o++[z],by omega,rfl,by go_num,d,by rw[M.out];exact B.out,a⟩
    simp[intOf];omega
   |false=>
    by_cases m:x.n<z.n
    .have t1:decide (x.n<z.n)=true:=dj m;have B:=ab (aoX f.out m);go_wp2
     go_quiet (fail)
     have j:aL mN 68 (wr.drewN nq) (w.heap.size+1) (.slice r o.length t) o:=s;have fA:∀i,(wr.drewN nq).cell? ⟨w.heap.size,i,none⟩=_:=T;go_wp2_with(first|(at_builtin;refine cH (F:=mN) (v:=.slice r o.length t) rfl (.tmp 27) (.tmp 29) 57 rfl nR x rfl j rfl rfl (by first|omega|(simp only[aE,gc,mp];omega)) (ap D (g.drewN nq).size) ?_;intro O u d l q;obtain⟨C,G,rfl⟩:=d.form;simp only[aE,gc,mp,me] at d;have a:bh (λb=>w.heap.size+1<=b) w0 u:=(g.drewN nq).trans l λb I e=>(j.at_ e).1;have a0:=jf (w:=wr.drewN nq) Z l (λH=>by have:=(j.at_ H).1;dsimp only at this;omega);have a4:=jf (w:=wr.drewN nq) cb l (λH=>by have:=(j.at_ H).1;dsimp only at this;omega))|(at_builtin;refine cH (F:=mN) (v:=.slice C (o.length+1) G) rfl (.tmp 31) (.tmp 36) 57 rfl nR z rfl d rfl rfl (by first|omega|(simp only[aE,gc,mp];omega)) (ap D a.size) ?_;intro v4 W R K X;obtain⟨A4,c4,rfl⟩:=R.form;simp only[aE,gc,mp,me] at R;have Q:bh (λb=>w.heap.size+1<=b) w0 W:=a.trans K λb I e=>(d.at_ e).1));go_roundw
     case rel=>exact⟨k+1,true,o++[x]++[z],by omega,rfl,by go_num,R,by rw[M.out];exact B.out,Q⟩
     simp[intOf];omega
    .have t1:decide (x.n<z.n)=false:=db m;have B:=ab (arJ f.out m);go_wp2
     go_quiet (fail)
     have j:aL mN 68 (wr.drewN nq) (w.heap.size+1) (.slice r o.length t) o:=s;go_wp2_with(at_builtin;refine cH (F:=mN) (v:=.slice r o.length t) rfl (.tmp 31) (.tmp 36) 57 rfl nR z rfl j rfl rfl (by first|omega|(simp only[aE,gc,mp];omega)) (ap D (g.drewN nq).size) ?_;intro O u d l q;obtain⟨C,G,rfl⟩:=d.form;simp only[aE,gc,mp,me] at d;skip);have a:bh (λb=>w.heap.size+1<=b) w0 u:=(g.drewN nq).trans l λb I e=>(j.at_ e).1;go_roundw
     case rel=>exact⟨k+1,false,o++[z],by omega,rfl,by go_num,d,by rw[M.out];exact B.out,a⟩
     simp[intOf];omega
  .obtain rfl:k=xs.length:=by omega
   have p:=aoY f.out;rw[ip] at p;have V:=ab p;have lU:Below w.heap.size w wr:=E.trans (g.below E.size λi hi H=>by omega);cases b with
   |true=>
    have L:mb x xs=o:=by
     rcases V.out with⟨h,_⟩|⟨_,h⟩
     .cases h
     .exact h
    rw[L];go_wp2;go_ret;exact⟨_,rfl,s.base (by omega),lU⟩
   |false=>
    have L:mb x xs=o++[x]:=by
     rcases V.out with⟨_,h⟩|⟨h,_⟩
     .exact h
     .cases h
    rw[L];go_wp2_with(at_builtin;refine cH (F:=mN) (v:=.slice r o.length t) rfl (.tmp 40) (.tmp 42) 57 rfl nR x rfl s rfl rfl (by first|omega|(simp only[aE,gc,mp];omega)) (ap D g.size) ?_;intro O u d l q;obtain⟨C,G,rfl⟩:=d.form;simp only[aE,gc,mp,me] at d;skip);have a:bh (λb=>w.heap.size+1<=b) w0 u:=g.trans l λb I e=>(s.at_ e).1;go_ret;exact⟨.slice C (o.length+1) G,rfl,by have:=d.base (base':=w.heap.size) (by omega);simpa using this,E.trans (a.below E.size λi hi H=>by omega)⟩
def lL(key:Int)(s:ByteArray):It:=⟨dc key (bs s),rL (gF (bs s))⟩
def ib(key:Int)(l:List ByteArray):List It:=l.foldl (λa s=>mb (lL key s) a) []
def abi(key:Int)(l:List ByteArray)(s:ByteArray):ib key (l++[s])=mb (lL key s) (ib key l):=by
 unfold ib;rw[tf];rfl
def aam(key:Int)(l:List ByteArray):(ib key l).length=l.length:=by
 induction l using aae with
 |h0=>rfl
 |h1 l s a=>rw[abi,ae4,a,aE];rfl
def acR{key:Int}{l:List ByteArray}:x∈ib key l↔∃s∈l,x=lL key s:=by
 induction l using aae with
 |h0=>simp[ib]
 |h1 l s b=>
  rw[abi,ajo,b];constructor
  .rintro(h|⟨t,a,h⟩)
   .exact⟨s,by simp,h⟩
   .exact⟨t,by simp[a],h⟩
  .rintro⟨t,a,h⟩;rcases oR.1 a with a|a
   .exact .inr ⟨t,a,h⟩
   .rw[pi.1 a] at h;exact .inl h
def adm(key:Int){s:ByteArray}(a:bF (bs s)):mN.good (lL key s):=by
 have b:=pE (key:=key) (l:=bs s);show cE (dc key (bs s))/\(rL (gF (bs s))).size<=maxLen;refine⟨by unfold cE;omega, ?_⟩;rw[<-aO,ag6,aiI a];have:=(aaf (n:=(bs s).length)).1;unfold maxLen;omega
def ae5{key:Int}{l:List ByteArray}(h:∀s∈l,bF (bs s)):∀x∈ib key l,mN.good x:=λx b=>by
 obtain⟨s,a,rfl⟩:=acR.1 b;exact adm key (h s a)
def aAv(no:Int)(w:World)(ys:List It)(e:Ending)(w':World):Prop:=∃v,e=.returned (.agg #[.int .i64 no,v])/\aL mN 68 w' w.heap.size v ys/\Below w.heap.size w w'
def alC(u key:Int)(hk:1<=key/\key<=99)(xs:List ByteArray)(F:∀s∈xs,bF (bs s))(hl:xs.length<=100)(v:Value)(w:World)(lo hi:Nat)(aR:hi<=w.heap.size)(h:dA w lo hi xs [v]) :
  Calls (ai β) 65 #[.int .i64 u,.int .i64 key,v] w (aAv u w (ib key xs)):=by
 replace F:=ab F;obtain⟨A,c,rfl⟩:=h.form;go_enter zC,ntmps65;go_wp2;generalize hG:((w.alloc (.cells #[.int .i64 0,.slice none 0 0] 59)).alloc (.cells #[] 68)).alloc (.cells #[.int .i64 u,.slice (some ⟨w.heap.size+1,0,none⟩) 0 0] 59)=w0 at *;obtain⟨aH,iz,f,cQ,dW,k1,cJ,dz,b,m,iN⟩:=adG hG;have o0:aL mN 68 w0 (w.heap.size+1) (.slice (some ⟨w.heap.size+1,0,none⟩) 0 0) []:=aL.aiS ⟨_,rfl,am _,k1⟩;go_loopw [8] (λY wr=>∃(k:Nat) (Q:Value),k<=xs.length/\Y=.int .i64 k/\aL mN 68 wr (w.heap.size+1) Q (ib key (xs.take k))/\aX wr w.heap.size 59 #[.int .i64 0,.slice none 0 0]/\aX wr (w.heap.size+1+1) 59 #[.int .i64 u,Q]/\Below w.heap.size w wr) (λY _=>xs.length-(intOf Y).toNat)
 case atStart=>exact⟨0,_,ff _,rfl,o0,f,b,aH⟩
 case round=>
  obtain⟨k,Q,a0,rfl,i,f,b,d⟩:=hrel;obtain⟨K,R,rfl⟩:=i.form;have h1:=dA.ar.below h d aR;have cQ:=f.cell;have dW:=f.frozen;have m:=b.cell;have iN:=b.frozen;have q:Hid (∀x∈ib key (xs.take k),mN.good x):=ab (ae5 λs hs=>F.out s (pu hs));have C:(ib key (xs.take k)).length<=100:=by rw[aam,fa];omega
  by_cases S:k<xs.length
  .obtain⟨s,l⟩:=aq S;obtain⟨b1,a3,rfl,_,_,M,n⟩:=lH h1 l;have D:=F.out s (de l);have o:ib key (xs.take (k+1))=mb (lL key s) (ib key (xs.take k)):=by rw[li l,abi]
   have HST:=ab o;have N:=ab (adm key D);have T:=ab (λw=>aa4 (β:=β) key s hk D w);have W:=ab (λw=>aop (β:=β) s M w);have U:lL key s=⟨dc key (bs s),rL (gF (bs s))⟩:=rfl;have a2:=ab U;have O:=ab (ag6 s);have I:=i.deep q.out (w.heap.size+1) |>.sl (am _)
   have G:wr.cell? ⟨w.heap.size+1+1,1,none⟩=some (.slice K (ib key (xs.take k)).length R):=m 1;have z:=ab (λg hg=>i.at_ (g:=g) hg);have a1:w.heap.size+1+1<wr.heap.size:=b.lt;revert HST;revert C;revert G;revert I;revert q;revert z;revert i;revert m;revert b;generalize ib key (xs.take k)=L;intro b m i z q I G C HST;go_wp2;have aF:=ae G;have aJ:=ae n;refine aC 15 [0,1,2,3,4,5,6,8,9,10,11] [7,12,13,14] (h:= ?_);simp only[pick,List.map,gt,gE];repeat(go_big_quiet_step (fail))
   refine io ?_;apply Exists.intro;apply dL (.int .i64 (dc key (bs s)))
   .intro y j H a;replace a:=ab a;go_wp2;refine(T.out y.to).mono ?_;rintro e Z ⟨rfl,rfl⟩;go_wp2;exact a.out _ (du _ _)
   apply dL (.string (rL (gF (bs s))))
   .intro y j H a;replace a:=ab a;go_wp2;refine(W.out y.to).mono ?_;rintro e Z ⟨⟨t,rfl,ht⟩,rfl⟩;have P:t=rL (gF (bs s)):=pC (ht.trans O.out.symm);subst P;go_wp2;exact a.out _ (du _ _)
   apply dL (.agg #[.int .i64 (dc key (bs s)),.string (rL (gF (bs s)))])
   .intro y j H a;replace a:=ab a;go_wp2;exact a.out _ (du _ _)
   apply bc (λv w'=>aL mN 68 w' wr.heap.size v (mb (lL key s) L))
   .rfl
   .exact λv x y h X=>h.below X
   .intro y j H a;replace a:=ab a;have r1:=acM.ar.below I y.ok (am _);go_wp2;refine(aoZ (lL key s) N.out L _ y.to _ _ y.ok.size r1 (by omega)).mono ?_;rintro e Z ⟨vy,rfl,oy,J⟩;go_wp2;exact a.out _ _ J (oy.base y.ok.size)
   intro a4;refine aS ?_;intro w2 r xx df j;dsimp only[dP] at j;try rw[df] at j
   obtain⟨A5,c5,rfl⟩:=j.1.form;have o5:=j.1;simp only[List.drop];replace f:=ah f r;replace cQ:=f.cell;replace dW:=f.frozen;replace b:=ah b r;replace m:=b.cell;replace iN:=b.frozen;replace d:=ag d r;go_wp2;have B:=b.bj 1 (.slice A5 (mb (lL key s) L).length c5);simp only[bv,ef,fd] at B;go_roundw
   case rel=>exact⟨k+1,_,by omega,by go_num,by rw[HST.out];exact(o5.bj _ (by dsimp only;omega)).base (by omega),bZ f _ (by dsimp only;omega),B,d.setCell (by dsimp only;omega) _⟩
   simp[intOf];omega
  .obtain rfl:k=xs.length:=by omega
   rw[ip] at i m b;obtain⟨L,E⟩:∃L,L=ib key xs:=⟨_,rfl⟩;rw[<-E] at i m b ⊢;replace E:=ab E;go_wp2;have k4:=(f.bj 0 (.int .i64 u)).bj 1 (.slice K L.length R);simp only[bv,ef,fd] at k4;have V:=k4.cell;exact nf (v:=.agg #[.int .i64 u,.slice K L.length R]) (by simp[results,results65,go_sem,V]) rfl ⟨_,rfl,by rw[<-E.out];exact aL.base (base:=w.heap.size+1) ((i.bj (p:=⟨w.heap.size,0,none⟩) _ (by dsimp only;omega)).bj (p:=⟨w.heap.size,1,none⟩) _ (by dsimp only;omega)) (by omega),(d.setCell (by simp) _).setCell (by simp) _⟩
end
end Go.Proofs.YtgjaikdifcbnkaaGreatDoor