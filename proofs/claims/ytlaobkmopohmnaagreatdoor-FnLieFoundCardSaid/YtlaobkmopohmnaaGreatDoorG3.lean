/- A part of the proof. -/
import Derived.Test.YtlaobkmopohmnaaGreatDoorG2
import Derived.StillTail
import Derived.Deep.RegionHeld3
import Derived.Deep.RegionLaw
import Derived.Laws.OwnMore
import Derived.Lib.Builder
import Derived.Lib.Strings
import Derived.Lib.Slices
import Derived.Lib.AppendStr
import Derived.Lib.FrozenHead
import Derived.Lib.UnsafeStr
import Derived.Lib.MakeNoZero
import Derived.Shelf.RegionOpenPlain
import Derived.Laws.Externs
import Derived.Laws.IdiomCopy
import Derived.Laws.BitsLemmas
set_option maxRecDepth 100000
set_option maxHeartbeats 8000000
set_option linter.all false
open Go Go.RowKit Go.Proofs.Tryz Go.Proofs.YtlaobkmopohmnaaGreatDoor
variable {Z W b base' c g hi i j k m n:Nat} {X a:Act} {U:Type} {o:Oper} {p:Addr} {u v:Value} {w w' w2 x:World} {O e t:TypeId} {f:FuncId} {P:Program} {S:Nat→Prop} {l:List Int} {M rest:List Oper} {s:ByteArray} {Y:Array Oper} {N:List Value} {d:Option Tmp} {listed:Array Bool} {T cs es:Array Value} {A:Option Addr} {V:Act→World→Prop} {xs:List ByteArray} {R Q:Exit→Act→World→Prop} {E:fW U}
namespace Go.Proofs.YtlaobkmopohmnaaGreatDoor
def fd:=@_root_.Go.RowKit.Below.refl
def gn:=@_root_.List.getD_cons_zero
def gt:=@_root_.List.getD_cons_succ
def gE:=@_root_.List.take_length
def ip:=@_root_.Go.wpQuiet_nil
def mc:=@_root_.List.length_nil
def mp:=@_root_.Go.World.size_alloc
def mx:=@_root_.Go.bodyPost_ret
def mT:=@_root_.Bool.not_eq_true
def ph:=@_root_.List.mem_singleton
def qk:=@_root_.Int.eq_ofNat_of_zero_le
def qp:=@_root_.List.length_drop
def qu:=@_root_.List.getElem?_eq_some_iff
def qA:=@_root_.Go.Addr.mk.injEq
def qI:=@_root_.bne_eq_false_iff_eq
def qW:=@_root_.List.length_set
def qX:=@_root_.Array.getElem?_push_size
def rh:=@_root_.Go.Lib.cell_of_heap
def rq:=@_root_.Nat.min_eq_left
def ry:=@_root_.Nat.succ_mul
def rO:=@_root_.Go.Lib.byteCells_length
def rQ:=@_root_.Nat.add_sub_cancel_left
def rR:=@_root_.List.size_toArray
def rY:=@_root_.List.length_filter_le
def rZ:=@_root_.List.drop_eq_getElem_cons
def sg:=@_root_.List.append_nil
def sx:=@_root_.Nat.le_of_succ_le
def sA:=@_root_.Int.toNat_natCast
def sF:=@_root_.List.filter_eq_self
def sJ:=@_root_.List.mem_flatMap
def sN:=@_root_.List.getElem?_drop
def sT:=@_root_.List.mem_filter
def sU:=@_root_.List.mem_append_right
def sY:=@_root_.List.getD_eq_getElem?_getD
def sZ:=@_root_.of_decide_eq_true
def tc:=@_root_.List.foldl_append
def tv:=@_root_.List.getElem?_take_of_lt
def tw:=@_root_.List.flatMap_append
def tz:=@_root_.decide_eq_false_iff_not
def tA:=@_root_.Go.World.block_lt_of_cell?
def tK:=@_root_.true_iff
def tS:=@_root_.Go.getD_replicate_false
def tT:=@_root_.Nat.mod_lt
def ug:=@_root_.List.pairwise_cons
def um:=@_root_.List.pairwise_singleton
def uq:=@_root_.List.filter_cons_of_pos
def ur:=@_root_.List.filter_cons_of_neg
def ut:=@_root_.Go.World.ownsRow_nil
def uH:=@_root_.Go.IntKind.wrap_i64
def uJ:=@_root_.false_iff
def uL:=@_root_.List.set_append_right
def uO:=@_root_.Nat.zero_mul
def uR:=@_root_.List.mem_of_mem_drop
def uS:=@_root_.List.mem_append_left
def uV:=@_root_.List.take_succ_cons
def uW:=@_root_.Bool.false_and
def vh:=@_root_.Go.Lib.frozen_of_heap
def vj:=@_root_.Int.emod_lt_of_pos
def vm:=@_root_.Prod.mk.injEq
def vu:=@_root_.Nat.mod_two_eq_zero_or_one
def vA:=@_root_.Bool.true_and
def vF:=@_root_.Nat.lt_trichotomy
def vN:=@_root_.Nat.div_add_mod'
def vR:=@_root_.List.nodup_cons
def vS:=@_root_.Int.emod_nonneg
def vX:=@_root_.List.take_append_drop
def wl:=@_root_.Nat.div_lt_of_lt_mul
def wn:=@_root_.List.pairwise_append
section
variable {β:Bool}
def ag1:Op->Bool
 |.move .. | .assign .. | .pick .. | .load .. | .binOp .. | .unOp .. | .convert .. | .slice .. | .fieldAddr .. | .field .. | .indexAddr .. | .index .. | .lookup .. | .extract .. | .build .. | .typeAssert .. | .makeInterface .. | .makeFunc .. | .nilCheck .. =>true
 |.call c=>match c.callee with
  |.builtin .len=>true
  |_=>false
 |_=>false
def ag2(h:ag1 o.op=true){ρ:Operand->Value}{args:Array Value}:(execOp ρ o).run P w ≠ .ok (.enter f args) w':=by
 obtain⟨dst,op,j,k,after,g⟩:=o;cases op<;>simp only[ag1,kw] at h
 case nilCheck x=>
  simp only[execOp];intro a;split at a
  .simp[runtimePanic] at a
  .simp[runtimePanic] at a
  .simp[runtimePanic] at a
  .split at a
   .simp[runtimePanic] at a
   .revert a;simp only[tN];generalize (Sem.run P program w:Result _)=r;cases r with
    |halt x i=>simp[Result.andThen]
    |ok p i=>
     simp only[Result.andThen];generalize (Sem.run P (nilAhead _ _ _ _) i:Result _)=r2;cases r2 with
     |halt x l=>simp
     |ok b l=>
      simp only;split
      .simp[unsupported]
      .simp
   .simp at a
  .simp at a
 case call c=>
  obtain⟨d,args,e⟩:=c;cases d with
  |value x=>cases h
  |invoke x n=>cases h
  |builtin b=>
   cases b<;>first
    |(exfalso;cases h;done)
    |(simp only[execOp,resolve,invoke,builtin,tN,uf,uu]
      intro a;revert a;generalize (Sem.run P (Builtin.len_ _ _ _) w:Result _)=r;cases r<;>simp[Result.andThen])
 all_goals simp only[execOp,tN,uf]
 all_goals intro a
 all_goals
  first
   |(cases a;done)
   |(revert a;generalize (Sem.run P _ w:Result _)=r;cases r<;>simp[Result.andThen];done)
   |(revert a;generalize (Sem.run P _ w:Result _)=r;cases r<;>simp[Result.andThen];generalize (Sem.run P _ _:Result _)=r;cases r<;>simp;done)
def ly(o:Oper)(i:Nat):Bool:=o.after.any λe=>Region.binds .any e&&e.on ==i
def aiC(h:ly o i=true):∃e∈o.after,Region.binds .any e=true/\e.on=i:=by
 obtain⟨e,a,h⟩:=Array.any_eq_true'.1 h;simp only[ga,nf] at h;exact⟨e,a,h.1,h.2⟩
def aqy(i:a.tmps.size=X.tmps.size)(h:X.put d u=X.put d v):a.put d u=a.put d v:=by
 cases d with
 |none=>rfl
 |some t=>
  rcases pm t a.tmps.size with c|g
  .have f:=jp (λb:Act=>b.tmps[t]?) h;have e:t<X.tmps.size:=i▸c;simp[Act.put,e] at f;rw[f]
  .simp[Act.put,Array.setIfInBounds,Nat.not_lt.2 g]
section
variable {P:Program} {ops:Array Oper}
def aoi  (hi:ops[i]?=some o)  {G:Value->World->Prop}  
  (y:a.tmps.size=X.tmps.size) (z:execOp a.eval o=execOp X.eval o) (t:Region.wanted o (yielded ops a.tmps)=Region.wanted o (yielded ops X.tmps))
  (h:wpList P ops (λe b w=>e=.normal/\∃v,b=X.put o.dst v/\G v w) [o] X w)
  (s:∀v w,G v w->V (a.put o.dst v) w):wpOp P ops Q i V a w:=by
 have g:∀{u:Value} {k:World},(∃v,X.put o.dst u=X.put o.dst v/\G v k)->V (a.put o.dst u) k:=by
  rintro u k ⟨v,p,q⟩;rw[aqy y p];exact s _ _ q
 unfold wpOp;simp only[hi];unfold wpList at h;rw[<-t] at h;split
 .rename_i j;rw[du j] at h;rcases h with h|⟨_,b,k,m,_⟩
  .refine .inl ?_;unfold Oper.wp at *;rw[<-z] at h;generalize (execOp a.eval o).run P w=r at *;cases r with
   |ok A k=>
    cases A<;>simp only[Oper.upon,wpList] at h ⊢
    case value u=>exact g h.2
    case skip=>exact g h.2
    case defer d=>
     obtain⟨_,v,p,_⟩:=h;have:=jp (λb:Act=>b.defers.length) p;cases hd:o.dst<;>simp[Act.put,hd] at this
    case enter f args=>
     refine h.mono λe n l=> ?_;cases e with
     |returned u=>exact g l.2
     |panicked c=>cases l.1
     |outgrown=>
      obtain⟨b,B,m,_⟩:=l;cases m
    case row row args=>exact Rows.mono h λu n l=>g l.2
   |halt x k=>
    cases x<;>simp only[Oper.upon] at h ⊢
    case panic u=>cases h.1
  .cases m
 .rename_i j;rw[da j] at h;exact g h.2
def aiD(ops:Array Oper)(n:Nat):Bool:=
 (n ==ops.size||(decide (n<ops.size)&&Region.sinkB .any ops n&&Region.chainB .any ops n))&&Region.seqB .any ops (ops.size-n) n ((Array.replicate n true)++Array.replicate (ops.size-n) false)
def amV(ops:Array Oper)(n:Nat):Bool:=
 (List.range n).all λi=>match ops[i]? with
  |some o=>o.after.all λe=>!Region.binds .any e||decide (e.on<i)
  |none=>false
def aoj(h:amV ops n=true)(hi:i<n)(b:ops[i]?=some o){e:Edge}(c:e∈o.after)(f:Region.binds .any e=true):e.on<i:=by
 have a:=lw.1 h i (qy.2 hi);simp only[b] at a;have d:=Array.all_eq_true_iff_forall_mem.1 a e c;simpa[f] using d
def left(n:Nat)(listed:Array Bool):Nat:=((List.range n).filter λi=>listed.getD i true ==false).length
def aiE[DecidableEq U]{l:List U}(d:l.Nodup){p q:U->Bool}{i:U}(hi:i∈l)(k:p i=true)(m:q i=false)(f:∀j,j≠i->p j=q j):(l.filter p).length=(l.filter q).length+1:=by
 induction l with
 |nil=>cases hi
 |cons a t n=>
  rw[vR] at d;by_cases c:a=i
  .subst c;rw[uq k,ur (by simp[m])];have:t.filter p=t.filter q:=List.filter_congr λj o=>f j λe=>d.1 (e▸o);simp[this]
  .have g:i∈t:=by
    rcases pa.1 hi with h|h
    .exact absurd h.symm c
    .exact h
   have:=n d.2 g;by_cases b:p a=true
   .rw[uq b,uq (by rw[<-f a c];exact b)];simp[this]
   .rw[ur b,ur (by rw[<-f a c];exact b)];exact this
def aqz(hi:i<n)(h:listed.getD i true=false):left n listed=left n (listed.setIfInBounds i true)+1:=by
 have c:i<listed.size:=by
  rcases pm i listed.size with a|a
  .exact a
  .simp[qj a] at h
 refine aiE List.nodup_range (qy.2 hi) (by rw[h];rfl) (by simp[c]) λj b=> ?_;rw[getD_set_ne true (sH b)]
def aok(h:0<left n listed):∃i,i<n/\listed.getD i true=false/\∀j,j<i->listed.getD j true=true:=by
 unfold left at h;have f:∃i,i<n/\listed.getD i true=false:=by
  obtain⟨i,b⟩:=List.exists_mem_of_length_pos h;rw[sT,qy] at b;exact⟨i,b.1,by simpa using b.2⟩
 obtain⟨i,b⟩:=f
 induction i using Nat.strongRecOn with
 |_ i k=>
  by_cases a:∀j,j<i->listed.getD j true=true
  .exact⟨i,b.1,b.2,a⟩
  .have g:∃j,j<i/\listed.getD j true=false:=by
    apply qS;intro c;exact a λj d=>by
     cases e:listed.getD j true with
     |true=>rfl
     |false=>exact absurd ⟨j,d,e⟩ c
   obtain⟨j,d,e⟩:=g;exact k j d ⟨by omega,e⟩
def aol(h:left n listed=0)(hi:i<n):listed.getD i true=true:=by
 unfold left at h;have a:=qR h;rw[List.filter_eq_nil_iff] at a;have:=a i (qy.2 hi);cases b:listed.getD i true with
 |true=>rfl
 |false=>rw[b] at this;simp at this
def af1(a:i<listed.size)(h:listed.getD i true=true):listed.getD i false=true:=by
 simp[a] at h ⊢;exact h
inductive Behind (ops:Array Oper):Nat->Nat->Prop where
 |atX {i:Nat} {o:Oper} {e:Edge}:ops[i]?=some o->e∈o.after->Region.binds .any e=true->Behind ops i e.on
 |next {i j:Nat} {o:Oper} {e:Edge}:ops[i]?=some o->e∈o.after->Region.binds .any e=true->Behind ops e.on j->Behind ops i j
def afs{ops:Array Oper}(c:HeadInv .any ops n listed)(h:Behind ops i j):(∀o,ops[i]?=some o->∀e∈o.after,Region.binds .any e=true->listed.getD e.on false=true)->listed.getD j false=true:=by
 induction h with
 |atX a g d=>exact λb=>b _ a _ g d
 |next a g d _ p=>exact λb=>p λm l q k f=>c.closed _ m l (b _ a _ g d) q k f
class bg (X:Type) where
 live:Nat->X->Prop
 down:∀m x,live (m+1) x->live m x
 pend:Nat->X->Prop
def atY(n:Nat)(listed:Array Bool):left n listed<=n:=by
 unfold left;exact ap (rY _ _) (by simp)
variable {X:Type} [bg X] {to:X->World} {le:X->X->Prop} {Q:Exit->Act->World->Prop}
def aqA (hn:n<=ops.size) (s:aiD ops n=true) (M:amV ops n=true) (A:Act->Prop) (Φ:Nat->Act->X->Prop)
  (w:∀m i o,i<n->ops[i]?=some o->∀a x,A a->bg.live (m+1) x->bg.pend i x->(∀j,j<n->ly o j=true->Φ j a x)->∀K:Act->World->Prop,
   (∀v y,le x y->bg.live m y->(∀j,j≠i->¬Behind ops i j->bg.pend j x->bg.pend j y)->A (a.put o.dst v)->Φ i (a.put o.dst v) y->K (a.put o.dst v) (to y))->wpOp P ops Q i K a (to x))
  (R:∀i j o a x y v,i<n->j<n->i≠j->ops[j]?=some o->A a->Φ i a x->le x y->Φ i (a.put o.dst v) y)
  (I:∀a x,A a->(∀i,i<n->Φ i a x)->wpList P ops Q (ops.toList.drop n) a (to x)) :
  ∀(f:Nat) (listed:Array Bool) (a:Act) (x:X),left n listed=f->HeadInv .any ops n listed->A a->bg.live f x->(∀i,i<n->listed.getD i false=false->bg.pend i x)->(∀i,i<n->listed.getD i false=true->Φ i a x)->
   wpAny P .any ops Q (f+(ops.size-n)) listed a (to x):=by
 intro f
 induction f with
 |zero=>
  intro listed a x hf inv H G r k;have b:∀i,i<n->listed.getD i true=true:=λi g=>aol hf g;have hL:listed=(Array.replicate n true)++Array.replicate (ops.size-n) false:=by
   apply Array.ext
   .rw[inv.size];simp;omega
   .intro i p h2;rcases pm i n with q|q
    .rw[Array.getElem_append_left (by simpa using q)];have:=b i q;simp[p] at this;simp[this]
    .rw[Array.getElem_append_right (by simpa using q)];have:=inv.tail i q (by rw[<-inv.size];exact p);simp[p] at this;simp[this]
  unfold aiD at s;rw[ga] at s;have d:(ops.toList.drop n).length=ops.size-n:=by simp
  rw[lP,<-d,hL];refine wpAny_of_seq _ n _ a (to x) (λj=>by rw[sN,ef]) (by rw[d];exact s.2) (I a x H λi g=>k i g ?_);exact af1 (by rw[inv.size];omega) (b i g)
 |succ f ih=>
  intro listed a x hf inv H G r k;obtain⟨u,S,E,V⟩:=aok (n:=n) (listed:=listed) (by omega);rw[show f+1+(ops.size-n)=(f+(ops.size-n))+1 by omega];have Z:∀i∈Region.ready .any ops listed,i<n:=by
   intro i g;unfold aiD at s;simp only[ga,rc,nf,qY] at s;rcases s.1 with h|⟨⟨p,h2⟩,q⟩
   .obtain⟨_,o,D,_⟩:=mem_ready.1 g;rw[h];exact(dl.1 D).1
   .rcases pm i n with h|h
    .exact h
    .exact absurd g (tail_waits h2 q p inv _ u rfl S E i h)
  refine⟨λh0=> ?_,λi g=> ?_⟩
  .exfalso;have C:u<ops.size:=bd S hn;have:u∈Region.ready .any ops listed:=mem_ready.2 ⟨E,ops[u],ge C,λe F z=>by
    have p:=aoj M S (ge C) F z;exact af1 (by rw[inv.size];omega) (V _ p)⟩
   rw[h0] at this;cases this
  .have B:=Z i g;obtain⟨l,o,D,b⟩:=mem_ready.1 g;have W:listed.getD i false=false:=by
    have U:i<listed.size:=by rw[inv.size];omega
    simp[U] at l ⊢;exact l
   refine w f i o B D a x H G (r i B W) (λj t hw=> ?_) _ λv y Y O J T L=> ?_
   .obtain⟨e,F,z,rfl⟩:=aiC hw;exact k _ t (b e F z)
   .refine ih _ _ y ?_ (inv.set g B) T O (λj t d=> ?_) λj t d=> ?_
    .have:=aqz B l;omega
    .have c:j≠i:=by
      rintro rfl;have U:j<listed.size:=by rw[inv.size];omega
      simp[U] at d
     rw[getD_set_ne false (sH c)] at d;refine J j c (λN=> ?_) (r j t d);have:=afs inv N λo' oO e F z=>(by
      obtain rfl:o=o':=dq (D.symm.trans oO);exact b e F z)
     rw[this] at d;cases d
    .by_cases c:j=i
     .subst c;exact L
     .rw[getD_set_ne false (sH c)] at d;exact R j i o a x y v t B c D H (k j t d) Y
inductive iu (X:Type) where
 |fix (v:Value)
 |any (R:Value->X->Prop)
def iu.keep(le:X->X->Prop):iu X->Prop
 |.fix _=>True
 |.any R=>∀v x y,R v x->le x y->R v y
def iu.holds(r:iu X)(v:Value)(x:X):Prop:=
 match r with
 |.fix a=>v=a
 |.any R=>R v x
def Good(P:Program)(ops:Array Oper)(to:X->World)(le:X->X->Prop)(i:Nat)(o:Oper)(a:Act)(x:X)(r:iu X):Prop:=
 ∀m,bg.live (m+1) x->bg.pend i x->∀b:Exit->Act->World->Prop,(∀v y,le x y->bg.live m y->(∀j,j≠i->¬Behind ops i j->bg.pend j x->bg.pend j y)->r.holds v y->b .normal (a.put o.dst v) (to y))->wpList P ops b [o] a (to x)
def pA(ops:Array Oper)(n:Nat)(t:Tmp)(j:Nat):Prop:=j<n/\∃o,ops[j]?=some o/\o.dst=some t
def adz(ops:Array Oper)(n N:Nat):Bool:=
 (List.range n).all λi=>match ops[i]? with
  |some o=>match o.dst with
   |some d=>decide (d<N)&&(List.range i).all λj=>((ops[j]?).bind (·.dst)) !=some d
   |none=>true
  |none=>true
def akI{N : Nat}(h:adz ops n N=true){t:Tmp}(d:pA ops n t j):t<N:=by
 obtain⟨a,o,c,hd⟩:=d;have b:=lw.1 h j (qy.2 a);simp only[c,hd,ga,qY] at b;exact b.1
def aiF{N : Nat}(h:adz ops n N=true){t:Tmp}(hi:pA ops n t i)(k:pA ops n t j)(b:j<i):False:=by
 obtain⟨l,o,g,hd⟩:=hi;obtain⟨f,p,e,a⟩:=k;have d:=lw.1 h i (qy.2 l);simp only[g,hd,ga] at d;have c:=lw.1 d.2 j (qy.2 b);rw[e] at c;simp[a] at c
def ag3{N : Nat}(h:adz ops n N=true){t:Tmp}(hi:pA ops n t i)(b:pA ops n t j):i=j:=by
 rcases vF i j with a|a|a
 .exact(aiF h b hi a).elim
 .exact a
 .exact(aiF h hi b a).elim
def amW(ops:Array Oper)(n:Nat)(t:Tmp):(∃j,pA ops n t j)\/∀j,¬pA ops n t j:=by
 by_cases h:∃j,pA ops n t j
 .exact .inl h
 .exact .inr λj a=>h ⟨j,a⟩
def wX(a:Act)(o:Oper):Value:=match o.dst with
 |some d=>a.tmps.getD d undef
 |none=>undef
structure ag4 (ops:Array Oper) (n:Nat) (a0 a:Act):Prop where
 size:a.tmps.size=a0.tmps.size
 off:∀t,(∀j,¬pA ops n t j)->a.tmps[t]?=a0.tmps[t]?
 rest:{a with tmps:=a0.tmps}=a0
def ag4.refl(ops:Array Oper)(n:Nat)(a:Act):ag4 ops n a a:=⟨rfl,λ_ _=>rfl,rfl⟩
def nJ{t:Tmp}(h:d≠some t):(a.put d v).tmps[t]?=a.tmps[t]?:=by
 cases d with
 |none=>rfl
 |some e=>
  have:e≠t:=λb=>h (by rw[b]);simp[Act.put,jt this]
def amX{t:Tmp}(h:t<a.tmps.size):(a.put (some t) v).tmps[t]?=some v:=by
 simp[Act.put,h]
def abV(a:Act)(d:Option Tmp)(v:Value):(a.put d v).tmps.size=a.tmps.size:=by
 cases d<;>simp[Act.put]
def ag4.put{b : Act}(h:ag4 ops n b a)(e:j<n)(d:ops[j]?=some o):ag4 ops n b (a.put o.dst v):=by
 refine⟨by rw[abV,h.size],λt c=> ?_, ?_⟩
 .rw[nJ (λhd=>c j ⟨e,o,d,hd⟩)];exact h.off t c
 .rw[<-h.rest];cases hd:o.dst<;>simp[Act.put]
def fQ(U:Nat->Value)(a:Act)(L:List (Nat×Oper)):Act:=L.foldl (λb p=>b.put p.2.dst (U p.1)) a
def acG(U:Nat->Value):∀(L:List (Nat×Oper)) (a:Act),(fQ U a L).tmps.size=a.tmps.size
 |[],_=>rfl
 |p::L,a=>by
  show(fQ U (a.put p.2.dst (U p.1)) L).tmps.size=_;rw[acG U L,abV]
def nK(U:Nat->Value){t:Tmp}:∀(L:List (Nat×Oper)) (a:Act),(∀p∈L,p.2.dst≠some t)->(fQ U a L).tmps[t]?=a.tmps[t]?
 |[],_,_=>rfl
 |p::L,a,h=>by
  show(fQ U (a.put p.2.dst (U p.1)) L).tmps[t]?=_;rw[nK U L _ λq b=>h q (by simp[b]),nJ (h p (by simp))]
def abW(U:Nat->Value){t:Tmp}{i:Nat}{o:Oper}:∀(L:List (Nat×Oper)) (a:Act),(i,o)∈L->o.dst=some t->t<a.tmps.size->(∀p∈L,p.2.dst=some t->p.1=i)->(fQ U a L).tmps[t]?=some (U i)
 |[],_,h,_,_,_=>by cases h
 |p::L,a,h,hd,hs,aeA=>by
  show(fQ U (a.put p.2.dst (U p.1)) L).tmps[t]?=_;by_cases g:(i,o)∈L
  .exact abW U L _ g hd (by rw[abV];exact hs) λq c=>aeA q (by simp[c])
  .rcases pa.1 h with rfl|h
   .by_cases e:∃q∈L,q.2.dst=some t
    .obtain⟨q,c,b⟩:=e;have d:=aeA q (by simp[c]) b;have:=abW U (i:=q.1) (o:=q.2) L (a.put o.dst (U i)) c b (by rw[abV];exact hs) λr j f=>by rw[aeA r (by simp[j]) f,d]
     rw[this,d]
    .rw[nK U L _ λq c b=>e ⟨q,c,b⟩,hd];exact amX hs
   .exact absurd h g
def acH(U:Nat->Value):∀(L:List (Nat×Oper)) (a:Act),{fQ U a L with tmps:=a.tmps}=a
 |[],_=>rfl
 |p::L,a=>by
  show{fQ U (a.put p.2.dst (U p.1)) L with tmps:=a.tmps}=_;have h:=acH U L (a.put p.2.dst (U p.1));have d:{a.put p.2.dst (U p.1) with tmps:=a.tmps}=a:=by cases hd:p.2.dst<;>simp[Act.put]
  have c:=jp (λb:Act=>{b with tmps:=a.tmps}) h;simp only at c;rw[d] at c;exact c
def atZ{b : Act}(h:{a with tmps:=b.tmps}=b)(f:a.tmps.size=b.tmps.size)(e:∀t:Nat,a.tmps[t]?=b.tmps[t]?):a=b:=by
 have c:a.tmps=b.tmps:=Array.ext f λi c d=>by
  have:=e i;simpa[c,d] using this
 rw[<-h,<-c]
def aom(c:∀l b,o.op ≠ .select l b){b : Act}(h:∀t∈o.looksAt ops,a.tmps[t]?=b.tmps[t]?) :
  execOp a.eval o=execOp b.eval o/\Region.wanted o (yielded ops a.tmps)=Region.wanted o (yielded ops b.tmps):=by
 constructor
 .refine execOp_congr o c λx k=> ?_;cases x with
  |tmp t=>
   have:=h t (uS _ (List.mem_filterMap.2 ⟨.tmp t,by simpa using k,rfl⟩));simp[Act.eval,this]
  |_=>rfl
 .unfold Region.wanted;cases j:o.guard with
  |none=>rfl
  |some i=>
   obtain⟨g,d⟩:=i;have e:yielded ops a.tmps g=yielded ops b.tmps g:=by
    unfold yielded;cases f:(ops[g]?).bind (·.dst) with
    |none=>rfl
    |some t=>
     have:=h t (sU _ (by simp[j,f]));simp[this]
   simp only[e]
def akJ(ops:Array Oper)(n:Nat):Bool:=
 (List.range n).all λi=>match ops[i]? with
  |some o=>(o.looksAt ops).all λt=>(List.range n).all λj=>((ops[j]?).bind (·.dst)) !=some t||ly o j
  |none=>true
def aeB(h:akJ ops n=true)(hi:i<n)(e:ops[i]?=some o){t:Tmp}(k:t∈o.looksAt ops)(f:pA ops n t j):ly o j=true:=by
 obtain⟨a,p,d,hd⟩:=f;have b:=lw.1 h i (qy.2 hi);simp only[e] at b;have g:=lw.1 b t k;have c:=lw.1 g j (qy.2 a);rw[d] at c;simpa[hd] using c
def aon (hn:n<=ops.size) (aI:Region.noSelect ops=true) (ht:aiD ops n=true) (a8:amV ops n=true) (ad:akJ ops n=true) {q:Act} (B:adz ops n q.tmps.size=true)
  (T:Nat->iu X) (hT:∀i,(T i).keep le) (aa:∀i o,i<n->ops[i]?=some o->(∃v,T i=.fix v)\/o.dst.isSome=true\/∀R,T i=.any R->∀u v x,R u x->R v x) (L:List (Nat×Oper)) (hL:∀i o,ops[i]?=some o->i<n->(i,o)∈L) (F:∀p∈L,p.1<n/\ops[p.1]?=some p.2)
  (aG:∀i o,i<n->ops[i]?=some o->∀U:Nat->Value,(∀j g,T j=.fix g->U j=g)->
   ∃al:Act,ag4 ops n q al/\(∀t j,t∈o.looksAt ops->pA ops n t j->al.tmps[t]?=some (U j))/\∀x,(∀j,j<n->ly o j=true->(T j).holds (U j) x)->Good P ops to le i o al x (T i))
  (fin:∀U:Nat->Value,(∀j g,T j=.fix g->U j=g)->∀x,(∀j,j<n->(T j).holds (U j) x)->wpList P ops Q (ops.toList.drop n) (fQ U q L) (to x))
  (x0:X) (a6:bg.live (left n (Array.replicate ops.size false)) x0) (aJ:∀i,i<n->bg.pend i x0):wpAny P .any ops Q ops.size (Array.replicate ops.size false) q (to x0):=by
 let c:Act->Nat->Value:=λa j=>match T j with
  |.fix g=>g
  |.any _=>match ops[j]? with
   |some Y=>wX a Y
   |none=>undef
 have hU:∀a j g,T j=.fix g->c a j=g:=λa j g h=>by simp only[c,h]
 let Φ:Nat->Act->X->Prop:=λi a x=>∀o,ops[i]?=some o->(∀d,o.dst=some d->a.tmps[d]?=some (c a i))/\(T i).holds (c a i) x
 have a5:∀{i o a v x},i<n->ops[i]?=some o->ag4 ops n q a->(T i).holds v x->Φ i (a.put o.dst v) x:=by
  intro i o a v x k l z I Z oO;obtain rfl:o=Z:=dq (l.symm.trans oO);have S:∀d,o.dst=some d->(a.put o.dst v).tmps[d]?=some v:=λd hd=>by
   rw[hd];exact amX (by rw[z.size];exact akI B ⟨k,o,l,hd⟩)
  have V:c (a.put o.dst v) i=v\/(o.dst=none/\∃R,T i=.any R/\∀u v x,R u x->R v x):=by
   cases e:T i with
   |fix g=>
    rw[hU _ _ _ e];rw[e] at I;exact .inl I.symm
   |any R=>
    simp only[c,e,l,wX];have s:o.dst.isSome=true->(match o.dst with|some d=>(a.put o.dst v).tmps.getD d undef|none=>undef)=v:=λO=>by
     obtain⟨d,hd⟩:=rE.1 O;have:=S d hd;simp only[hd] at this ⊢;simp[iS,this]
    rcases aa i o k l with⟨g,O⟩|O|O
    .rw[e] at O;cases O
    .exact .inl (s O)
    .cases hd:o.dst with
     |some d=>left;have:=s (by rw[hd];rfl);simpa only[hd] using this
     |none=>exact .inr ⟨rfl,R,rfl,O R e⟩
  rcases V with V|⟨hd,R,hR,ay⟩
  .rw[V];exact⟨S,I⟩
  .refine⟨λd a2=>(by rw[hd] at a2;cases a2), ?_⟩;rw[hR] at I ⊢;exact ay _ _ _ I
 have H:=aqA (P:=P) (Q:=Q) (to:=to) (le:=le) hn ht a8 (ag4 ops n q) Φ ?step ?axn ?fin (left n (Array.replicate ops.size false)) (Array.replicate ops.size false) q x0 rfl
  ⟨by simp,λj Y _ E=>(by rw[tS] at E;cases E),λt _ ht=>getD_in (by simpa using ht) (tS _ _)⟩ (ag4.refl _ _ _) a6 (λi k _=>aJ i k) (λi k E=>(by rw[tS] at E;cases E))
 case step=>
  intro m i o k l a x z aR a7 a1 K hK;obtain⟨al,oH,af,ja⟩:=aG i o k l (c a) (hU a);have a9:∀j,j<n->ly o j=true->(T j).holds (c a j) x:=λj f hw=>(a1 j f hw _ (ge (bd f hn))).2;have kF:∀t∈o.looksAt ops,a.tmps[t]?=al.tmps[t]?:=by
   intro t a3;rcases amW ops n t with⟨j,f⟩|r
   .have hw:=aeB ad k l a3 f;obtain⟨C,Y,J,hd⟩:=id f;rw[af t j a3 f,(a1 j C hw Y J).1 t hd]
   .rw[z.off t r,oH.off t r]
  obtain⟨h1,N⟩:=aom (λcs b=>Region.noSelect_spec aI i o cs b l) kF;refine aoi (G:=λv w=>∃y,w=to y/\le x y/\bg.live m y/\(∀j,j≠i->¬Behind ops i j->bg.pend j x->bg.pend j y)/\(T i).holds v y) l (by rw[z.size,oH.size]) h1 N (ja x a9 m aR a7 _ λv y A E M I=>⟨rfl,v,rfl,y,rfl,A,E,M,I⟩) ?_;rintro v w ⟨y,rfl,A,E,M,I⟩;exact hK v y A E M (z.put k l) (a5 k l z I)
 case axn=>
  intro i j o a x y v k f ax l z D A Z oO;obtain⟨h1,N⟩:=D Z oO;have a0:∀d,Z.dst=some d->o.dst≠some d:=λd hd aT=>ax (ag3 B ⟨k,Z,oO,hd⟩ ⟨f,o,l,aT⟩);have an:c (a.put o.dst v) i=c a i:=by
   cases e:T i with
   |fix g=>rw[hU _ _ _ e,hU _ _ _ e]
   |any R=>
    simp only[c,e,oO,wX];cases hd:Z.dst with
    |none=>rfl
    |some d=>
     have:=nJ (a:=a) (v:=v) (a0 d hd);simp only[iS,this]
  rw[an];refine⟨λd hd=>by rw[nJ (a0 d hd)];exact h1 d hd, ?_⟩;have hk:=hT i;cases e:T i with
  |fix g=>rw[e] at N;exact N
  |any R=>
   rw[e] at N hk;exact hk _ _ _ N A
 case fin=>
  intro a x z D;have a4:∀j,j<n->(T j).holds (c a j) x:=λj f=>(D j f _ (ge (bd f hn))).2;have he:a=fQ (c a) q L:=by
   refine atZ ?_ ?_ ?_
   .have h1:=z.rest;have N:=acH (c a) L q;have h3:=jp (λb:Act=>{b with tmps:=(fQ (c a) q L).tmps}) (h1.trans N.symm);exact h3
   .rw[z.size,acG]
   .intro t;rcases amW ops n t with⟨j,f⟩|r
    .obtain⟨C,Y,J,hd⟩:=id f;rw[(D j C Y J).1 t hd,abW (c a) L q (hL j Y J C) hd (akI B f) λp M W=> ?_];exact ag3 B ⟨(F p M).1,p.2,(F p M).2,W⟩ f
    .rw[z.off t r,nK _ _ _ λp M W=>r p.1 ⟨(F p M).1,p.2,(F p M).2,W⟩]
  rw[he];exact fin _ (hU a) x a4
 have ao:left n (Array.replicate ops.size false)=n:=by
  unfold left;rw[sF.2]
  .simp
  .intro i k;have aY:=qy.1 k;rw[getD_in (by simp;omega) (tS _ _)];rfl
 rw[ao,show n+(ops.size-n)=ops.size by omega] at H;exact H
def aaZ:List (Nat×(X->Prop))->Oper->X->Prop
 |[],_,_=>True
 |(j,p)::F,o,x=>(ly o j=true->p x)/\aaZ F o x
def dV:List (Nat×(X->Prop))->X->Prop
 |[],_=>True
 |(_,p)::F,x=>p x/\dV F x
omit [bg X] in
def amY{F:List (Nat×(X->Prop))}{x:X}(h:∀p∈F,ly o p.1=true->p.2 x):aaZ F o x:=by
 induction F with
 |nil=>trivial
 |cons p F b=>exact⟨h p (by simp),b λq a=>h q (by simp[a])⟩
omit [bg X] in
def at0{F:List (Nat×(X->Prop))}{x:X}(h:∀p∈F,p.2 x):dV F x:=by
 induction F with
 |nil=>trivial
 |cons p F b=>exact⟨h p (by simp),b λq a=>h q (by simp[a])⟩
def cK(P:Program)(ops:Array Oper)(to:X->World)(le:X->X->Prop)(Qt:Act->World->Prop):List (Nat×Oper)->List (Nat×(X->Prop))->List (iu X)->Act->Prop
 |[],F,[],a=>∀x,dV F x->Qt a (to x)
 |(i,o)::l,F,.fix v0::Rs,a=>(∀x,aaZ F o x->Good P ops to le i o a x (.fix v0))/\cK P ops to le Qt l F Rs (a.put o.dst v0)
 |(i,o)::l,F,.any R::Rs,a=>(o.dst.isSome=true\/∀u v x,R u x->R v x)/\(∀v x y,R v x->le x y->R v y)/\(∀x,aaZ F o x->Good P ops to le i o a x (.any R))/\∀v,cK P ops to le Qt l ((i,R v)::F) Rs (a.put o.dst v)
 |_,_,_,_=>False
def adU{F:List (Nat×(X->Prop))}(h:∀x,dV F x->V a (to x)):cK P ops to le V [] F [] a:=h
def at1   {l:List (Nat×Oper)} {F:List (Nat×(X->Prop))} {e:List (iu X)} (c:Value)
  (s:∀x,aaZ F o x->∀m,bg.live (m+1) x->bg.pend i x->∀b:Exit->Act->World->Prop,(∀y,le x y->bg.live m y->(∀j,j≠i->¬Behind ops i j->bg.pend j x->bg.pend j y)->b .normal (a.put o.dst c) (to y))->wpList P ops b [o] a (to x))
  (g:cK P ops to le V l F e (a.put o.dst c)):cK P ops to le V ((i,o)::l) F (.fix c::e) a:=
 ⟨λx q m r f b p=>s x q m r f b λy n k d=>p c y n k d rfl,g⟩
def kP   {l:List (Nat×Oper)} {F:List (Nat×(X->Prop))} {d:List (iu X)} (R:Value->X->Prop) (e:o.dst.isSome=true\/∀u v x,R u x->R v x) (p:∀v x y,R v x->le x y->R v y)
  (w:∀x,aaZ F o x->∀m,bg.live (m+1) x->bg.pend i x->∀b:Exit->Act->World->Prop,(∀v y,le x y->bg.live m y->(∀j,j≠i->¬Behind ops i j->bg.pend j x->bg.pend j y)->R v y->b .normal (a.put o.dst v) (to y))->wpList P ops b [o] a (to x))
  (g:∀v,cK P ops to le V l ((i,R v)::F) d (a.put o.dst v)):cK P ops to le V ((i,o)::l) F (.any R::d) a:=
 ⟨e,p,λx r m s f b q=>w x r m s f b λv y n k c t=>q v y n k c t,g⟩
def pick(l:List Oper)(ord:List Nat):List (Nat×Oper):=ord.map λi=>(i,l.getD i default)
def ag5(ops:Array Oper)(n:Nat):List Nat->List Nat->Bool
 |[],_=>true
 |i::t,done=>(match ops[i]? with
  |some o=>(List.range n).all λj=>!ly o j||done.contains j
  |none=>false)&&ag5 ops n t (i::done)
def aeC{n:Nat}:∀(c done:List Nat),ag5 ops n c done=true->∀k i o j,c[k]?=some i->ops[i]?=some o->j<n->ly o j=true->j∈done\/j∈c.take k
 |[],_,_,k,i,_,_,h,_,_,_=>by simp at h
 |a::t,done,hB,k,i,o,j,h,ho,hj,hw=>by
  simp only[ag5,ga] at hB;cases k with
  |zero=>
   simp at h;subst h;have b:=hB.1;simp only[ho] at b;have d:=lw.1 b j (qy.2 hj);left;simpa[hw] using d
  |succ k=>
   rcases aeC t (a::done) hB.2 k i o j (by simpa using h) ho hj hw with b|b
   .rcases pa.1 b with rfl|b
    .right;simp
    .exact .inl b
   .right;rw[uV];exact rb _ b
def ag6(l:List Oper)(n:Nat)(bQ dc:List Nat):Bool:=
 Region.noSelect l.toArray&&decide (n<=l.length)&&aiD l.toArray n&&amV l.toArray n&&akJ l.toArray n&&decide ((bQ++dc).Nodup)&&(List.range n).all (λi=>(bQ++dc).contains i)&&(bQ++dc).all (λi=>decide (i<n)) &&
  bQ.all (λi=>ag1 (l.getD i default).op)&&ag5 l.toArray n (bQ++dc) []
def nL{U V:Nat->Value}:∀(L:List (Nat×Oper)) (a:Act),(∀p∈L,U p.1=V p.1)->fQ U a L=fQ V a L
 |[],_,_=>rfl
 |p::L,a,h=>by
  show fQ U (a.put p.2.dst (U p.1)) L=fQ V (a.put p.2.dst (V p.1)) L;rw[h p (by simp)];exact nL L _ λq b=>h q (by simp[b])
def adh(U:Nat->Value)(L M:List (Nat×Oper))(a:Act):fQ U a (L++M)=fQ U (fQ U a L) M:=by
 unfold fQ;exact tc
def aeD{C:World->Prop}{i:Act->Prop}:∀(L:List (Nat×Oper)) (a:Act),(L.map (·.1)).Nodup->wpQuiet P ops C i (L.map (·.2)) a->
  ∃V:Nat->Value,i (fQ V a L)/\∀(k:Nat) (p:Nat×Oper),L[k]?=some p->YieldsIn P ops C p.2 (V p.1) (fQ V a (L.take k))
 |[],a,_,h=>⟨λ_=>undef,h,λk p n=>by simp at n⟩
 |p::L,a,hn,h=>by
  rw[sE,vR] at hn;have t:∃v,YieldsIn P ops C p.2 v a/\wpQuiet P ops C i (L.map (·.2)) (a.put p.2.dst v):=by
   rw[sE] at h;unfold wpQuiet at h;split at h
   .rename_i g;obtain⟨v,u,o⟩:=h;exact⟨v,.inl ⟨g,u⟩,o⟩
   .rename_i g;exact⟨undef,.inr ⟨by simpa using g,rfl⟩,h⟩
  obtain⟨v,r,l⟩:=t;obtain⟨V,s,w⟩:=aeD L _ hn.2 l
  let W:Nat->Value:=λj=>if j=p.1 then v else V j
  have f:W p.1=v:=by simp[W]
  have d:∀q∈L,W q.1=V q.1:=λq b=>by
   have:q.1≠p.1:=λe=>hn.1 (e▸qs.2 ⟨q,b,rfl⟩);simp[W,this]
  have m:∀k,fQ W a ((p::L).take (k+1))=fQ V (a.put p.2.dst v) (L.take k):=λk=>by
   rw[uV];show fQ W (a.put p.2.dst (W p.1)) (L.take k)=_;rw[f];exact nL _ _ λq b=>d q (pr b)
  refine⟨W, ?_,λk q b=> ?_⟩
  .have:=m L.length;rw[gE,<-fi (a:=p),gE] at this;rw[this];exact s
  .cases k with
   |zero=>
    simp at b;subst b;rw[f];exact r
   |succ k=>
    have c:L[k]?=some q:=by simpa using b
    rw[m,d q (db c)];exact w k q c
def aad{A:Act->World->Prop}{n:Nat}{T:Nat->iu X}{U:Nat->Value}(y:∀j g,T j=.fix g->U j=g):∀(L:List (Nat×Oper)) (F:List (Nat×(X->Prop))) (l:List (iu X)) (a:Act),
  cK P ops to le A L F l a->(∀(k:Nat) (p:Nat×Oper) (r:iu X),L[k]?=some p->l[k]?=some r->T p.1=r)->(∀p∈L,p.1<n)->(∀p∈F,p.1<n/\∀x,(T p.1).holds (U p.1) x->p.2 x)->
  (∀(k:Nat) (p:Nat×Oper),L[k]?=some p->∀x,(∀j,j<n->ly p.2 j=true->(T j).holds (U j) x)->Good P ops to le p.1 p.2 (fQ U a (L.take k)) x (T p.1))/\(∀x,(∀j,j<n->(T j).holds (U j) x)->A (fQ U a L) (to x))
 |[],F,[],a,h,_,_,hF=>⟨λk p b=>by simp at b,λx c=>h x (at0 λp b=>(hF p b).2 x (c _ (hF p b).1))⟩
 |[],_,_::_,_,h,_,_,_=>h.elim
 |(i,o)::L,F,[],_,h,_,_,_=>h.elim
 |(i,o)::L,F,.fix g::l,a,h,hT,hn,hF=>by
  obtain⟨w,s⟩:=h;have d:T i=.fix g:=hT 0 (i,o) (.fix g) rfl rfl;have z:U i=g:=y i g d;obtain⟨u,v⟩:=aad y L F l _ s (λk p r b t=>hT (k+1) p r (by simpa using b) (by simpa using t)) (λp b=>hn p (by simp[b])) hF;have f:∀M,fQ U a ((i,o)::M)=fQ U (a.put o.dst g) M:=λM=>by
   show fQ U (a.put o.dst (U i)) M=_;rw[z]
  refine⟨λk p b x c=> ?_,λx c=>by rw[f];exact v x c⟩;cases k with
  |zero=>
   simp at b;subst b;rw[d];exact w x (amY λq e m=>(hF q e).2 x (c _ (hF q e).1 m))
  |succ k=>
   rw[uV,f];exact u k p (by simpa using b) x c
 |(i,o)::L,F,.any R::l,a,h,hT,hn,hF=>by
  obtain⟨_,B,w,s⟩:=h;have d:T i=.any R:=hT 0 (i,o) (.any R) rfl rfl;obtain⟨u,v⟩:=aad y L ((i,R (U i))::F) l _ (s (U i)) (λk p r b t=>hT (k+1) p r (by simpa using b) (by simpa using t)) (λp b=>hn p (by simp[b])) λq e=>by
   rcases pa.1 e with rfl|e
   .exact⟨hn (i,o) (by simp),λx c=>by rw[d] at c;exact c⟩
   .exact hF q e
  refine⟨λk p b x c=> ?_,λx c=>v x c⟩;cases k with
  |zero=>
   simp at b;subst b;rw[d];exact w x (amY λq e m=>(hF q e).2 x (c _ (hF q e).1 m))
  |succ k=>exact u k p (by simpa using b) x c
def aa0{j:Act->World->Prop}:∀(L:List (Nat×Oper)) (F:List (Nat×(X->Prop))) (d:List (iu X)) (a:Act),
  cK P ops to le j L F d a->d.length=L.length/\∀(k:Nat) (p:Nat×Oper) (r:iu X),L[k]?=some p->d[k]?=some r->r.keep le/\((∃v,r=.fix v)\/p.2.dst.isSome=true\/∀R,r=.any R->∀u v x,R u x->R v x)
 |[],_,[],_,_=>⟨rfl,λk p r b=>by simp at b⟩
 |[],_,_::_,_,h=>h.elim
 |(i,o)::L,F,[],_,h=>h.elim
 |(i,o)::L,F,.fix v0::d,a,h=>by
  obtain⟨_,e⟩:=h;obtain⟨f,g⟩:=aa0 L F d _ e;refine⟨by simp[f],λk p r b c=> ?_⟩;cases k with
  |zero=>
   simp at c;subst c;exact⟨trivial,.inl ⟨_,rfl⟩⟩
  |succ k=>exact g k p r (by simpa using b) (by simpa using c)
 |(i,o)::L,F,.any R::d,a,h=>by
  obtain⟨hd,l,_,e⟩:=h;obtain⟨f,g⟩:=aa0 L _ d _ (e undef);refine⟨by simp[f],λk p r b c=> ?_⟩;cases k with
  |zero=>
   simp at c b;subst c b;exact⟨l,.inr (hd.imp id λhd R' m=>by cases m;exact hd)⟩
  |succ k=>exact g k p r (by simpa using b) (by simpa using c)
def aa1{g:Type}:∀(ks:List Nat) (c:List g) (k i:Nat) (r:g),ks.Nodup->ks[k]?=some i->c[k]?=some r->(ks.zip c).lookup i=some r
 |[],_,_,_,_,_,h,_=>by simp at h
 |a::ks,[],_,_,_,_,_,h=>by simp at h
 |a::ks,b::c,k,i,r,hn,h,hr=>by
  rw[vR] at hn;cases k with
  |zero=>
   simp at h hr;subst h hr;simp[List.lookup]
  |succ k=>
   have f:ks[k]?=some i:=by simpa using h
   have d:(i ==a)=false:=dk.2 λe=>hn.1 (e▸db f);simp only[List.zip_cons_cons,List.lookup,d];exact aa1 ks c k i r hn.2 f (by simpa using hr)
def aiG {l:List Oper}  (to:X->World) (le:X->X->Prop) (Y:∀x,le x x) (n:Nat) (b q:List Nat) (hB:ag6 l n b q=true) (hd:adz l.toArray n a.tmps.size=true)
  (x0:X) (ad:∀m,m<=n->bg.live m x0) (b6:∀i,i<n->bg.pend i x0) (hx:to x0=w.drew)
  (h:wpQuiet P l.toArray (λw'=>∃x,w'=to x) (λa1=>∃C,cK P l.toArray to le (wpList P l.toArray Q (l.drop n)) (pick l q) [] C a1) ((pick l b).map (·.2)) a):wpAny P .any l.toArray Q l.toArray.size (Array.replicate l.toArray.size false) a {w with drawn:=w.drawn+1}:=by
 simp only[ag6,ga,qY] at hB;obtain⟨⟨⟨⟨⟨⟨⟨⟨⟨b5,hn⟩,ht⟩,af⟩,a5⟩,N⟩,b8⟩,b3⟩,aG⟩,al⟩:=hB;have b2:n<=l.toArray.size:=by simpa using hn
 have K:∀i,i<n->i∈b++q:=λi d=>by simpa using lw.1 b8 i (qy.2 d)
 have z:∀i∈b++q,i<n:=λi d=>by simpa using lw.1 b3 i d
 have B:∀i,i<n->l.toArray[i]?=some (l.getD i default):=λi d=>by
  have b7:i<l.length:=bd d hn;simp[b7]
 have an:∀F:List Nat,(pick l F).map (·.1)=F:=λF=>by simp[pick,Function.comp_def]
 obtain⟨V,⟨C,O⟩,hV⟩:=aeD (pick l b) a (by rw[an];exact(List.nodup_append.1 N).1) h;obtain⟨a3,a4⟩:=aa0 _ _ _ _ O;have ba:C.length=q.length:=by rw[a3];simp[pick]
 let T:Nat->iu X:=λj=>(((b++q).zip (b.map (λi=>iu.fix (V i))++C)).lookup j).getD (.fix undef)
 have E:∀i∈b,T i=.fix (V i):=λi d=>by
  obtain⟨k,v⟩:=rD.1 d;have oP:k<b.length:=by
   rcases pm k b.length with h|h
   .exact h
   .rw[rm h] at v;cases v
  have:=aa1 (b++q) (b.map (λi=>iu.fix (V i))++C) k i (.fix (V i)) N (by rw[qv oP];exact v) (by rw[qv (by simpa using oP),qN,v];rfl);simp only[T,this,qo]
 have a0:∀k i r,q[k]?=some i->C[k]?=some r->T i=r:=λk i r v D=>by
  have:=aa1 (b++q) (b.map (λi=>iu.fix (V i))++C) (b.length+k) i r N (by rw[ql (by omega),rQ];exact v)
   (by rw[ql (by simp),qh,rQ];exact D)
  simp only[T,this,qo]
 have Z:∀(k:Nat) (p:Nat×Oper) (r:iu X),(pick l q)[k]?=some p->C[k]?=some r->T p.1=r:=λk p r g D=>by
  simp only[pick,qN,lc] at g;obtain⟨i,d,rfl⟩:=g;exact a0 k i r d D
 have a6:∀i,i<n->(i∈b/\T i=.fix (V i))\/∃k r,q[k]?=some i/\C[k]?=some r/\T i=r:=λi d=>by
  rcases oE.1 (K i d) with s|s
  .exact .inl ⟨s,E i s⟩
  .obtain⟨k,v⟩:=rD.1 s;have oP:k<C.length:=by
    rcases pm k q.length with h|h
    .omega
    .rw[rm h] at v;cases v
   exact .inr ⟨k,C[k],v,jn oP,a0 k i _ v (jn oP)⟩
 have ax:∀i,(T i).keep le:=λi=>by
  by_cases d:i<n
  .rcases a6 i d with⟨_,s⟩|⟨k,r,v,D,s⟩
   .rw[s];trivial
   .rw[s];exact(a4 k (i,l.getD i default) r (by simp[pick,v]) D).1
  .have:((b++q).zip (b.map (λi=>iu.fix (V i))++C)).lookup i=none:=by
    rw[List.lookup_eq_none_iff];intro p g;have s:=(List.of_mem_zip g).1;have:=z _ s;have aa:i≠p.1:=λe=>d (by rw[e];exact this);simpa using aa
   simp only[T,this,Option.getD_none];trivial
 have aY:∀i,i∈b++q->(i,l.getD i default)∈pick l (b++q):=λi d=>qs.2 ⟨i,d,rfl⟩;have W:pick l (b++q)=pick l b++pick l q:=by simp[pick]
 have H:=aon (P:=P) (Q:=Q) (to:=to) (le:=le) b2 b5 ht af a5 hd T ax ?any (pick l (b++q)) ?L ?L' ?lex ?fin x0 (ad _ (atY _ _)) b6
 .rw[hx] at H;exact H
 case any=>
  intro i o d G;rcases a6 i d with⟨_,s⟩|⟨k,r,v,D,s⟩
  .exact .inl ⟨_,s⟩
  .rw[s];obtain rfl:o=l.getD i default:=dq (G.symm.trans (B i d));exact(a4 k (i,l.getD i default) r (by simp[pick,v]) D).2
 case L=>
  intro i o G d;obtain rfl:o=l.getD i default:=dq (G.symm.trans (B i d));exact aY i (K i d)
 case L'=>
  intro p g;obtain⟨i,d,rfl⟩:=qs.1 g;exact⟨z i d,B i (z i d)⟩
 case lex=>
  intro i o d G U hU;obtain rfl:o=l.getD i default:=dq (G.symm.trans (B i d));obtain⟨hg,_⟩:=aad (n:=n) (T:=T) (U:=U) hU _ _ _ _ O Z (λp g=>by
   obtain⟨j,A,rfl⟩:=qs.1 g;exact z j (sU _ A)) (λp g=>by cases g)
  obtain⟨k,v⟩:=rD.1 (K i d);have a7:∀M:List (Nat×Oper),(∀p∈M,p.1∈b)->fQ U a M=fQ V a M:=λM hM=>nL M a λp g=>by rw[hU _ _ (E _ (hM p g))]
  have a2:∀p∈pick l b,p.1∈b:=λp g=>by
   obtain⟨j,A,rfl⟩:=qs.1 g;exact A
  refine⟨fQ U a ((pick l (b++q)).take k), ?_, ?_, ?_⟩
  .refine⟨acG _ _ _,λt aR=>nK _ _ _ λp g S=> ?_, ?_⟩
   .obtain⟨j,A,rfl⟩:=qs.1 (pr g);exact aR j ⟨z j A,_,B j (z j A),S⟩
   .exact acH _ _ _
  .intro t j ay A;have hw:=aeB a5 d G ay A;have b4:=(aeC (b++q) [] al k i _ j v G A.1 hw).resolve_left (by simp);have aI:=A;obtain⟨ao,oj,b0,b1⟩:=aI;obtain rfl:oj=l.getD j default:=dq (b0.symm.trans (B j ao));refine abW U (o:=l.getD j default) _ a ?_ b1 (akI hd A) λp g S=> ?_
   .rw[pick,<-List.map_take];exact qs.2 ⟨j,b4,rfl⟩
   .obtain⟨j',a8,rfl⟩:=qs.1 (pr g);exact ag3 hd ⟨z j' a8,_,B j' (z j' a8),S⟩ A
  .intro x hx;rcases pm k b.length with J|J
   .have ml:b[k]?=some i:=by rw[qv J] at v;exact v
    have a9:i∈b:=db ml;have kE:(pick l (b++q)).take k=(pick l b).take k:=by rw[W,List.take_append_of_le_length (by simp[pick];omega)]
    have hy:=hV k (i,l.getD i default) (by simp[pick,ml]);rw[kE,a7 _ λp g=>a2 p (pr g),E i a9];intro mq R b9 Qx hQ;have aJ:ag1 (l.getD i default).op=true:=lw.1 aG i a9;have I:=λy hy hl aT=>hQ (V i) y hy hl aT rfl;unfold wpList;rcases hy with⟨hw,hq⟩|⟨hw,hq⟩
    .rw[du hw];refine .inl ?_;have s:=hq (to x) ⟨x,rfl⟩;unfold Oper.quietAt at s;unfold Oper.wp;cases D:(execOp (fQ V a (List.take k (pick l b))).eval (l.getD i default)).run P (to x) with
     |ok nx w'=>
      rw[D] at s;cases nx<;>simp only[Oper.quietUpon] at s
      case value u=>
       obtain⟨rfl,rfl⟩:=s;exact I x (Y x) (bg.down _ _ R) λ_ _ _ h=>h
      case skip=>
       obtain⟨rfl,h2⟩:=s;show Qx .normal _ _;rw[<-h2];exact I x (Y x) (bg.down _ _ R) λ_ _ _ h=>h
      case enter f args=>exact absurd D (ag2 aJ)
     |halt c w'=>
      rw[D] at s;simp only[Oper.quietUpon] at s
    .rw[da (by rw[hw];exact qz)];have:=I x (Y x) (bg.down _ _ R) λ_ _ _ h=>h;rw[hq] at this;exact this
   .have jX:q[k-b.length]?=some i:=by rw[ql J] at v;exact v
    have kE:(pick l (b++q)).take k=pick l b++(pick l q).take (k-b.length):=by
     rw[W,List.take_append,oS (by simp[pick];omega)];simp[pick]
    rw[kE,adh,a7 _ a2];exact hg (k-b.length) (i,l.getD i default) (by simp[pick,jX]) x hx
 case fin=>
  intro U hU x hx;obtain⟨_,hf⟩:=aad (n:=n) (T:=T) (U:=U) hU _ _ _ _ O Z (λp g=>by
   obtain⟨j,A,rfl⟩:=qs.1 g;exact z j (sU _ A)) (λp g=>by cases g)
  have s:=hf x hx;rw[W,adh,nL (U:=U) (V:=V) (pick l b) a λp g=>by
   obtain⟨j,A,rfl⟩:=qs.1 g;exact hU _ _ (E j A)]
  simpa using s
def nM {l:List Oper}  (to:X->World) (le:X->X->Prop) (f:∀x,le x x) (n:Nat) (g d:List Nat) (q:P.follows .mixedOrders=true) (s:ag6 l n g d=true) (j:adz l.toArray n a.tmps.size=true)
  (b:X) (c:∀m,m<=n->bg.live m b) (e:∀i,i<n->bg.pend i b) (o:to b=w.drew)
  (h:wpQuiet P l.toArray (λk=>∃x,k=to x) (λr=>∃p,cK P l.toArray to le (wpList P l.toArray Q (l.drop n)) (pick l d) [] p r) ((pick l g).map (·.2)) a):(Code.region Z l.toArray true).wp P Q a w:=
 wp_region_any q (aiG to le f n g d s j b c e o h)
end
end
section
variable {β:Bool}
open Go.RowKit
def aU(c:Below w.heap.size w w')(h:w.cell? p=some v):w'.cell? p=some v:=by
 refine(c.cell (p:=p) ?_).trans h;rcases pm p.block w.heap.size with a|b
 .exact a
 .simp[World.cell?,qj b] at h
def cU{a : World}(h:Below a.heap.size a w)(o:Obj):Below a.heap.size a (w.alloc o):=h.alloc h.size o
def bq(h:aX w g t cs)(o:Obj):aX (w.alloc o) g t cs:=(rH w o g h.lt).trans h
def bW(h:aX w g t cs)(u:Value)(a:g≠p.block):aX (w.setCell p u) g t cs:=(io w p u g a).trans h
def aO(h:aX w g t cs)(b:aZ S w w')(a:¬S g):aX w' g t cs:=(b.block g h.lt a).trans h
def au(w:World)(o:Obj):Below w.heap.size w (w.alloc o):=(fd _ _).alloc (am _) _
def am0(a:Lcy E){xs:List U}{cs:List Value}(h:bC E Z w W hi xs cs)(c:Below w.heap.size w w')(b:hi<=w.heap.size):bC E Z w' W hi xs cs:=
 (bC.loc a).below h c b
def nh(h:w.alloc (.cells cs t)=x):Below w.heap.size w x/\w.heap.size+1<=x.heap.size/\aX x w.heap.size t cs/\(∀i,x.cell? ⟨w.heap.size,i,none⟩=cs[i]?)/\∀i,x.frozen? ⟨w.heap.size,i,none⟩=false:=by
 subst h;have k:=aX.new w t cs;exact⟨au _ _,by simp,k,k.cell,k.frozen⟩
def oK{u : TypeId}(h:(w.alloc (.cells cs t)).alloc (.cells T u)=x):Below w.heap.size w x/\w.heap.size+2<=x.heap.size/\aX x w.heap.size t cs/\(∀i,x.cell? ⟨w.heap.size,i,none⟩=cs[i]?)/\(∀i,x.frozen? ⟨w.heap.size,i,none⟩=false)/\
  aX x (w.heap.size+1) u T/\(∀i,x.cell? ⟨w.heap.size+1,i,none⟩=T[i]?)/\∀i,x.frozen? ⟨w.heap.size+1,i,none⟩=false:=by
 obtain⟨e,a,d,b,c⟩:=nh h;have k:=bq (aX.new w t cs) (.cells T u);rw[h] at k;simp only[mp] at a d b c;exact⟨h▸cU (au _ _) _,a,k,k.cell,k.frozen,d,b,c⟩
def adA{u v : TypeId}(h:((w.alloc (.cells cs t)).alloc (.cells T u)).alloc (.cells es v)=x):Below w.heap.size w x/\w.heap.size+3<=x.heap.size/\aX x w.heap.size t cs/\(∀i,x.cell? ⟨w.heap.size,i,none⟩=cs[i]?)/\(∀i,x.frozen? ⟨w.heap.size,i,none⟩=false)/\
  aX x (w.heap.size+1) u T/\(∀i,x.cell? ⟨w.heap.size+1,i,none⟩=T[i]?)/\(∀i,x.frozen? ⟨w.heap.size+1,i,none⟩=false)/\aX x (w.heap.size+1+1) v es/\(∀i,x.cell? ⟨w.heap.size+1+1,i,none⟩=es[i]?)/\∀i,x.frozen? ⟨w.heap.size+1+1,i,none⟩=false:=by
 obtain⟨e,a,d,b,c⟩:=nh h;have k:=bq (bq (aX.new w t cs) (.cells T u)) (.cells es v);have l:=bq (aX.new (w.alloc (.cells cs t)) u T) (.cells es v);rw[h] at k l;simp only[mp] at a d b c l;exact⟨h▸cU (cU (au _ _) _) _,a,k,k.cell,k.frozen,l,l.cell,l.frozen,d,b,c⟩
structure fg (w:World) where
 to:World
 ok:Below w.heap.size w to
instance at2(w:World):Nonempty (fg w):=⟨⟨w,fd _ _⟩⟩
def ae(h:w.cell? p=some v):∀x:fg w,x.to.cell? p=some v:=λx=>aU x.ok h
def aQ {id:Nat}   {l:List Oper} (c:P.follows .mixedOrders=true) (e:Region.lexB .any l.toArray=true)
  (h:wpQuiet P l.toArray (λb=>∃x:fg w,b=x.to) (λd=>∀b,(∃x:fg w,b=x.to)->Q .normal d b) l a):(Code.region id l.toArray true).wp P Q a w:=
 wp_region_quiet (C:=λb=>∃x:fg w,b=x.to) c e ⟨⟨w.drew,⟨rfl,rfl,rfl,am _,λ_ _=>rfl⟩⟩,rfl⟩ (by simpa using h)
def bG(h:∃x:fg w,w'=x.to):Below w.heap.size w w':=by
 obtain⟨x,rfl⟩:=h;exact x.ok
def dO  {args:Array Value} {x:fg w} 
  (h:Calls P f args x.to λe b=>e=.returned v/\Below x.to.heap.size x.to b):Calls P f args x.to λe a=>e=.returned v/\∃y:fg w,a=y.to:=
 h.mono λ_ c ⟨he,hb⟩=>⟨he,⟨⟨c,x.ok.trans (hb.mono x.ok.size)⟩,rfl⟩⟩
def dP  {args:Array Value} {x:fg w} 
  (h:Calls P f args x.to λe b=>e=.returned v/\x.to=b):Calls P f args x.to λe a=>e=.returned v/\∃y:fg w,a=y.to:=
 h.mono λ_ _ ⟨he,hb⟩=>⟨he,⟨x,hb.symm⟩⟩
instance axq(w:World):bg (fg w):=⟨λ_ _=>True,λ_ _ _=>trivial,λ_ _=>True⟩
def fg.le{w:World}(x y:fg w):Prop:=Below x.to.heap.size x.to y.to
def fg.le_refl(x:fg w):fg.le x x:=fd _ _
def fg.mk'{w:World}(x:fg w){w':World}(h:Below x.to.heap.size x.to w'):fg w:=⟨w',x.ok.trans (h.mono x.ok.size)⟩
def aD   {l:List Oper}  (n:Nat) (b a:List Nat) (d:P.follows .mixedOrders=true:=by kernel_rfl) (g:ag6 l n b a=true:=by kernel_rfl) (c:adz l.toArray n X.tmps.size=true:=by kernel_rfl)
  (h:wpQuiet P l.toArray (λe=>∃x:fg w,e=x.to) (λf=>∃i:List (iu (fg w)),cK P l.toArray (fg.to (w:=w)) (fg.le (w:=w)) (wpList P l.toArray Q (l.drop n)) (pick l a) [] i f) ((pick l b).map (·.2)) X):(Code.region Z l.toArray true).wp P Q X w:=
 nM (fg.to (w:=w)) (fg.le (w:=w)) fg.le_refl n b a d g c ⟨w.drew,⟨rfl,rfl,rfl,am _,λ_ _=>rfl⟩⟩ (λ_ _=>trivial) (λ_ _=>trivial) rfl h
section
variable {P:Program} {ops:Array Oper} {w:World} {Qt:Act->World->Prop} {i:Nat} {o:Oper} {l:List (Nat×Oper)} {F:List (Nat×(fg w->Prop))} {Rs:List (iu (fg w))} {a:Act}
def bu (R:Value->World->Prop) (f:o.dst.isSome=true) (j:∀v x y,R v x->Below x.heap.size x y->R v y)
  (q:∀x:fg w,aaZ F o x->∀b:Exit->Act->World->Prop,(∀v c,Below x.to.heap.size x.to c->R v c->b .normal (a.put o.dst v) c)->wpList P ops b [o] a x.to)
  (g:∀v,cK P ops (fg.to (w:=w)) (fg.le (w:=w)) Qt l ((i,λx=>R v x.to)::F) Rs (a.put o.dst v)):cK P ops (fg.to (w:=w)) (fg.le (w:=w)) Qt ((i,o)::l) F (.any (λv x=>R v x.to)::Rs) a:=
 kP (X:=fg w) (to:=fg.to (w:=w)) (le:=fg.le (w:=w)) (λv x=>R v x.to) (.inl f) (λv x y h d=>j v x.to y.to h d) (λx n m _ _ b k=>q x n b λv c e p=>k v (x.mk' e) e trivial (λ_ _ _ _=>trivial) p) g
def dW (c:Value)
  (g:∀x:fg w,aaZ F o x->∀b:Exit->Act->World->Prop,(∀d,Below x.to.heap.size x.to d->b .normal (a.put o.dst c) d)->wpList P ops b [o] a x.to)
  (f:cK P ops (fg.to (w:=w)) (fg.le (w:=w)) Qt l F Rs (a.put o.dst c)):cK P ops (fg.to (w:=w)) (fg.le (w:=w)) Qt ((i,o)::l) F (.fix c::Rs) a:=
 at1 (X:=fg w) (to:=fg.to (w:=w)) (le:=fg.le (w:=w)) c (λx k m _ _ b j=>g x k b λd e=>j (x.mk' e) e trivial λ_ _ _ _=>trivial) f
def aS(h:∀b,Below w.heap.size w b->∀x:fg w,x.to=b->dV F x->Qt a b):cK P ops (fg.to (w:=w)) (fg.le (w:=w)) Qt [] F [] a:=
 adU (X:=fg w) (to:=fg.to (w:=w)) (le:=fg.le (w:=w)) λx c=>h x.to x.ok x rfl c
end
def eD(base:Nat)(e:TypeId)(v:Value)(w:World):Prop:=∃g,v=.slice (some ⟨g,0,none⟩) 0 0/\base<=g/\aX w g e #[]
def eD.own{base:Nat}(h:eD base e v w)(b:Nat):w.ownsRow base e b v 0 []:=by
 obtain⟨g,rfl,c,a⟩:=h;exact⟨by simp,.inr ⟨g,0,#[],rfl,c,a,am _,by unfold maxLen;omega,by simp,by simp⟩⟩
def ah(h:aX w g t cs)(a:Below w.heap.size w w'):aX w' g t cs:=(a.block g h.lt).trans h
def eD.keep{base:Nat}(h:eD base e v w)(c:Below w.heap.size w w'):eD base e v w':=by
 obtain⟨g,rfl,b,a⟩:=h;exact⟨g,rfl,b,ah a c⟩
def eD.new(w:World){base:Nat}(e:TypeId)(a:base<=w.heap.size):eD base e (.slice (some ⟨w.heap.size,0,none⟩) 0 0) (w.alloc (.cells #[] e)):=⟨_,rfl,a,aX.new _ _ _⟩
def akK(base:Nat)(e:TypeId)(es:Array Value)(v:Value)(w:World):Prop:=∃g,v=.slice (some ⟨g,0,none⟩) 1 1/\base<=g/\aX w g e es
def akK.keep{base:Nat}(h:akK base e es v w)(c:Below w.heap.size w w'):akK base e es v w':=by
 obtain⟨g,rfl,b,a⟩:=h;exact⟨g,rfl,b,ah a c⟩
def akK.new(w:World){base:Nat}(e:TypeId)(es:Array Value)(a:base<=w.heap.size):akK base e es (.slice (some ⟨w.heap.size,0,none⟩) 1 1) (w.alloc (.cells es e)):=⟨_,rfl,a,aX.new _ _ _⟩
end
section
variable {β:Bool}
open Go.RowKit
def ag7(p:Prop)(e:Ending):Prop:=(e=.returned (.bool true)/\p)\/e=.returned (.bool false)
def ag7.of{q:Bool}{p:Prop}(h:q=true->p):ag7 p (.returned (.bool q)):=by
 cases q
 .exact .inr rfl
 .exact .inl ⟨rfl,h rfl⟩
def nm(b:Nat):Bool:=decide (97<=b)&&decide (b<=101)
def jl(s:ByteArray):Bool:=if h:s.size=1 then nm (s[0]'(by omega)).toNat else if h:s.size=3 then nm (s[0]'(by omega)).toNat&&(decide ((s[1]'(by omega)).toNat=47)&&nm (s[2]'(by omega)).toNat) else false
def dN(s:ByteArray):Bool:=decide (s.size<=40)&&(bs s).all py
def lz(h:jl s=true):s.size=1\/s.size=3:=by
 unfold jl at h;split at h
 .exact .inl (by assumption)
 .split at h
  .exact .inr (by assumption)
  .cases h
def pB(b:Nat)(w:World) :
  Calls (ai β) 84 #[.int .u8 b] w λe f=>e=.returned (.bool (nm b))/\w=f:=by
 by_cases c:97<=b
 .by_cases a:b<=101
  .have e:nm b=true:=by unfold nm;rw[dj c,dj a];rfl
   rw[e];have d:=dj (show(b:Int)<=101 by omega);go_enter xw,ntmps84;go_wp2;go_ret;exact⟨rfl,rfl⟩
  .have e:nm b=false:=by unfold nm;rw[bv a,Bool.and_false]
   rw[e];have d:=bv (show ¬((b:Int)<=101) by omega);go_enter xw,ntmps84;go_wp2;go_ret;exact⟨rfl,rfl⟩
 .have e:nm b=false:=by unfold nm;rw[bv c,uW]
  rw[e];go_enter xw,ntmps84;go_wp2;go_ret;exact⟨rfl,rfl⟩
def lA(s:ByteArray)(f:s.size<=maxLen)(w:World) :
  Calls (ai β) 64 #[.string s] w λe d=>e=.returned (.bool (dN s))/\w=d:=by
 by_cases b:s.size<=40
 .have a:(bs s).all py=dN s:=by unfold dN;rw[dj b,vA]
  replace a:=ab a;have c:=dj (show(s.size:Int)<=40 by omega);go_enter xT,ntmps64;go_wp2;refine(afr s f w).mono ?_;rintro e g ⟨rfl,rfl⟩;rw[a.out];go_wp2;go_ret;exact⟨rfl,rfl⟩
 .have c:=bv (show ¬((s.size:Int)<=40) by omega);have e:dN s=false:=by unfold dN;rw[bv b,uW]
  rw[e];go_enter xT,ntmps64;go_wp2;go_ret;exact⟨rfl,rfl⟩
def aeE(s:ByteArray)(n:Nat)(G:s.size*n<=100)(F:s.size<=100)(j:n<=100)(w:World) :
  Calls (ai β) 66 #[.string s,.int .i64 n] w λe r=>(∃t:ByteArray,e=.returned (.string t)/\t.size<=100)/\w=r:=by
 go_enter zA,ntmps66;go_wp2
 go_loop [0,1,5] (λa i o=>∃(x y:ByteArray) (k:Nat),a=.string x/\i=.int .i64 k/\o=.string y/\y.size+x.size*k<=100/\x.size<=200/\k<=100) (λ_ i _=>(intOf i).toNat)
 case atStart=>exact⟨s,⟨#[]⟩,n,rfl,rfl,rfl,by show 0+_<=_;omega,by omega,j⟩
 case round=>
  obtain⟨x,y,k,rfl,rfl,rfl,f,C,E⟩:=hrel;have d:(x++x).size=x.size+x.size:=by rw[<-aN,iF,aE,aN]
  have c:(y++x).size=y.size+x.size:=by rw[<-aN,iF,aE,aN,aN]
  by_cases v:k=0
  .subst v;go_wp2;go_ret;exact⟨⟨y,rfl,by omega⟩,rfl⟩
  .have A:x.size<=100:=by
    have:x.size*1<=x.size*k:=Nat.mul_le_mul_left _ (by omega);omega
   obtain⟨m,p⟩:∃m,m=k / 2:=⟨_,rfl⟩;have D:(k:Int) / 2=((m:Nat):Int):=by omega
   have H:0<(k:Int):=by omega
   have z:m<=100/\m<k:=by omega
   have u:y.size<=100:=by omega
   rcases vu k with l|l
   .have q:(k:Int) % 2=0:=by omega
    have b:(x.size+x.size)*m=x.size*k:=by
     have:k=2*m:=by omega
     rw[this,<-Nat.two_mul,tO 2,Nat.mul_assoc]
    have g:=ab b;replace d:=ab d;replace f:=ab f;clear b c l p;go_wp2
    go_round
    case rel=>exact⟨x++x,y,m,rfl,rfl,rfl,by rw[d.out,g.out];exact f.out,by rw[d.out];omega,by omega⟩
    simp[intOf];omega
   .have q:(k:Int) % 2=1:=by omega
    have b:y.size+x.size+(x.size+x.size)*m=y.size+x.size*k:=by
     have:k=2*m+1:=by omega
     rw[this,Nat.mul_add,<-Nat.two_mul,tO 2,Nat.mul_assoc,Nat.mul_one];omega
    have g:=ab b;replace d:=ab d;replace c:=ab c;replace f:=ab f;clear b p;have B:(((k:Int) % 2) ==1)=true:=by rw[q];rfl
    go_wp2
    go_round
    case rel=>exact⟨x++x,y++x,m,rfl,rfl,rfl,by rw[d.out,c.out,g.out];exact f.out,by rw[d.out];omega,by omega⟩
    simp[intOf];omega
def jv(s:ByteArray)(p:s.size<=maxLen)(w:World) :
  Calls (ai β) 63 #[.string s] w λe o=>e=.returned (.bool (jl s))/\w=o:=by
 unfold maxLen at p;by_cases j:s.size=1
 .have m:((s.size:Int) ==1)=true:=by rw[j];rfl
  have a:0<s.size:=by omega
  have g:nm (s[0]'a).toNat=jl s:=by unfold jl;rw[tW j]
  have q:=ab g;have HC:=ab (pB (β:=β) (s[0]'a).toNat w);go_enter wU,ntmps63;go_wp2;refine HC.out.mono ?_;rintro e i ⟨rfl,rfl⟩;rw[q.out];go_wp2;go_ret;exact⟨rfl,rfl⟩
 .by_cases k:s.size=3
  .have m:((s.size:Int) ==1)=false:=dk.2 (by omega);have n:((s.size:Int) ==3)=true:=by rw[k];rfl
   have a:0<s.size:=by omega
   have b:1<s.size:=by omega
   have f:2<s.size:=by omega
   have g:jl s=(nm (s[0]'a).toNat&&(decide ((s[1]'b).toNat=47)&&nm (s[2]'f).toNat)):=by unfold jl;rw[dif_neg j,tW k]
   have HC:=ab (pB (β:=β) (s[0]'a).toNat w);have c:=ab (pB (β:=β) (s[2]'f).toNat w);rw[g];revert HC;revert c;generalize nm (s[0]'a).toNat=q0;generalize nm (s[2]'f).toNat=q2;intro c HC;cases q0
   .go_enter wU,ntmps63;go_wp2;refine HC.out.mono ?_;rintro e i ⟨rfl,rfl⟩;go_wp2;go_ret;exact⟨rfl,rfl⟩
   .by_cases d:(s[1]'b).toNat=47
    .rw[dj d];have l:(((s[1]'b).toNat:Int) ==47)=true:=by rw[d];rfl
     go_enter wU,ntmps63;go_wp2;refine HC.out.mono ?_;rintro e i ⟨rfl,rfl⟩;go_wp2;refine c.out.mono ?_;rintro e i ⟨rfl,rfl⟩;go_wp2;go_ret;exact⟨by cases q2<;>rfl,rfl⟩
    .rw[bv d];have l:(((s[1]'b).toNat:Int) ==47)=false:=dk.2 (by omega);go_enter wU,ntmps63;go_wp2;refine HC.out.mono ?_;rintro e i ⟨rfl,rfl⟩;go_wp2;go_ret;exact⟨rfl,rfl⟩
  .have m:((s.size:Int) ==1)=false:=dk.2 (by omega);have n:((s.size:Int) ==3)=false:=dk.2 (by omega);have g:jl s=false:=by unfold jl;rw[dif_neg j,dif_neg k]
   rw[g];go_enter wU,ntmps63;go_wp2;go_ret;exact⟨rfl,rfl⟩
def mJ(s t:ByteArray):Bool:=if h:0<s.size/\0<t.size then(if s.size=t.size then false else((s[0]'h.1).toNat:Int) ==((t[0]'h.2).toNat:Int)) else false
def ag8(s t:ByteArray)(o:0<s.size/\s.size<=maxLen)(n:0<t.size/\t.size<=maxLen)(w:World) :
  Calls (ai β) 75 #[.string s,.string t] w λe l=>e=.returned (.bool (mJ s t))/\Below w.heap.size w l:=by
 obtain⟨a,j⟩:=o;obtain⟨b,k⟩:=n;by_cases i:s.size=t.size
 .have f:mJ s t=false:=by unfold mJ;rw[tW ⟨a,b⟩,du i]
  rw[f];go_enter xO,ntmps75;go_wp2;refine aD 12 [0,1,2,3,4,5,6,7,8,9,10,11] [] (h:= ?_);simp only[pick,List.map,gn,gt];repeat(go_big_quiet_step (fail))
  refine ip ?_;apply Exists.intro;refine aS ?_;intro p g m d c;dsimp only[dV] at c;try rw[d] at c
  simp only[List.drop];go_wp2;go_ret;exact⟨rfl,g⟩
 .have q:((s.size:Int) !=(t.size:Int))=true:=by simp;omega
  have f:mJ s t=(((s[0]'a).toNat:Int) ==((t[0]'b).toNat:Int)):=by unfold mJ;rw[tW ⟨a,b⟩,da i]
  rw[f];go_enter xO,ntmps75;go_wp2;refine aD 12 [0,1,2,3,4,5,6,7,8,9,10,11] [] (h:= ?_);simp only[pick,List.map,gn,gt];repeat(go_big_quiet_step (fail))
  refine ip ?_;apply Exists.intro;refine aS ?_;intro p g m d c;dsimp only[dV] at c;try rw[d] at c
  simp only[List.drop];go_wp2;go_ret;exact⟨rfl,g⟩
def dig(x:Nat):Int:=((x:Int)-97) % 256
def pC(l:List Nat)(p:Nat):Bool:=(dig (l.getD (p-1) 0)+2*dig (l.getD (p-2) 0)+3*dig (l.getD (p-3) 0)) % 5 ==0
def aae(h:k<s.size):(bs s).getD k 0=(s[k]'h).toNat:=by rw[sY,aaW h];rfl
def akL(s:ByteArray)(p:Nat)(v:3<=p/\p<s.size)(r:s.size<=maxLen)(w:World) :
  Calls (ai β) 144 #[.string s,.int .i64 p] w λe o=>e=.returned (.bool (pC (bs s) p))/\Below w.heap.size w o:=by
 unfold maxLen at r;obtain⟨a,l⟩:∃a,a=p-1:=⟨_,rfl⟩;obtain⟨b,i⟩:∃b,b=p-2:=⟨_,rfl⟩;obtain⟨c,n⟩:∃c,c=p-3:=⟨_,rfl⟩;have m:a<s.size:=by omega
 have f:b<s.size:=by omega
 have g:c<s.size:=by omega
 have y:(p:Int)-1=((a:Nat):Int):=by omega
 have x:(p:Int)-2=((b:Nat):Int):=by omega
 have z:(p:Int)-3=((c:Nat):Int):=by omega
 have t:(p:Int)<=9223372036854775807:=by omega
 have k:pC (bs s) p=((dig (s[a]'m).toNat+2*dig (s[b]'f).toNat+3*dig (s[c]'g).toNat) % 5 ==0):=by unfold pC;rw[<-l,<-i,<-n,aae m,aae f,aae g]
 rw[k];clear l i n k;go_enter yF,ntmps144;go_wp2;refine aD 24 [0,1,2,3,4,5,6,7,8,9,10,11,12,13,14,15,16,17,18,19,20,21,22,23] [] (h:= ?_);simp only[pick,List.map,gn,gt];repeat(go_big_quiet_step (fail))
 refine ip ?_;apply Exists.intro;refine aS ?_;intro A u q j d;dsimp only[dV] at d;try rw[j] at d
 clear j q;simp only[List.drop];clear d;go_wp2;go_ret;exact⟨aF rfl,u⟩
end
section
variable {β:Bool}
open Go.RowKit
structure Flat (α:Type) where
 sz:Nat
 cells:α->List Value
 good:α->Prop
 len:∀x,(cells x).length=sz
 one:∀x,∀u∈cells x,u.oneCell'=true
 pos:0<sz
def bU{α:Type}(F:Flat α):fW α:=λ_ _ _ x a=>a=F.cells x/\F.good x
section
variable {α:Type} (F:Flat α)
def bU.loc:Lcy (bU F):=⟨λ_ _ _ h=>h⟩
def eb(xs:List α):List Value:=xs.flatMap F.cells
def nN(xs a:List α):eb F (xs++a)=eb F xs++eb F a:=tw
def aeF(x:α):eb F [x]=F.cells x:=by simp[eb]
def et:∀a:List α,(eb F a).length=a.length*F.sz
 |[]=>by simp[eb]
 |x::a=>by
  show(F.cells x++eb F a).length=_;rw[aE,et a,F.len,fi,ry,Nat.add_comm]
def eu:∀(a:List α) (i j:Nat) (x:α) (u:Value),a[i]?=some x->(F.cells x)[j]?=some u->(eb F a)[i*F.sz+j]?=some u
 |[],i,j,x,u,h,_=>by simp at h
 |g::a,i,j,x,u,h,hj=>by
  have b:=aB hj;rw[F.len] at b;show(F.cells g++eb F a)[i*F.sz+j]?=some u;cases i with
  |zero=>
   simp at h;subst h;rw[qv (by rw[F.len,uO,lP];exact b),uO,lP];exact hj
  |succ i=>
   have e:(i+1)*F.sz+j=F.sz+(i*F.sz+j):=by rw[ry];omega
   rw[e,ql (by rw[F.len];omega),F.len,rQ];exact eu a i j x u (by simpa using h) hj
def aoo{xs:List α}(h:(eb F xs)[j]?=some u):∃x,xs[j / F.sz]?=some x/\(F.cells x)[j % F.sz]?=some u:=by
 have a:=aB h;rw[et] at a;have d:j / F.sz<xs.length:=wl (by rw[tO];exact a);refine⟨xs[j / F.sz],jn d, ?_⟩;have b:j % F.sz<(F.cells xs[j / F.sz]).length:=by rw[F.len];exact tT _ F.pos
 have c:=eu F xs (j / F.sz) (j % F.sz) xs[j / F.sz] _ (jn d) (jn b);rw[vN] at c;rw[jn b,<-c,h]
def acI(xs:List α):∀u∈eb F xs,u.oneCell'=true:=by
 intro u a;obtain⟨g,_,b⟩:=sJ.1 a;exact F.one g u b
def aL(e:TypeId)(w:World)(base:Nat)(v:Value)(xs:List α):Prop:=w.ownsRow base e F.sz v xs.length (eb F xs)
variable {F}
def aL.sl{base : Nat}{xs:List α}(h:aL F e w base v xs)(c:∀x∈xs,F.good x)(a:w.heap.size<=hi):bC (bU F) F.sz w base hi xs [v]:=
 axm h a λi x hi=>⟨F.cells x,F.len x,⟨rfl,c x (db hi)⟩,λ_ _ b=>eu F xs i _ x _ hi b⟩
def aiI{base : Nat}(h:w.ownsRow base e Z v n N)(d:base'<=base):w.ownsRow base' e Z v n N:=by
 refine⟨h.1, ?_⟩;rcases h.2 with f|⟨g,cap,b,rfl,c,a⟩
 .exact .inl f
 .exact .inr ⟨g,cap,b,rfl,ap d c,a⟩
def aL.base{base : Nat}{xs:List α}(h:aL F e w base v xs)(a:base'<=base):aL F e w base' v xs:=aiI h a
def aL.nil(e:TypeId)(w:World)(base:Nat):aL F e w base (.slice none 0 0) []:=ut _ _ _ _
def aL.aiJ{base:Nat}(h:eD base e v w):aL F e w base v []:=h.own F.sz
def aL.below{base:Nat}{xs:List α}(h:aL F e w base v xs)(a:Below w.heap.size w w'):aL F e w' base v xs:=aey h a
def aL.eZ{base:Nat}{xs:List α}(h:aL F e w base v xs)(c:aZ S w w')(a:∀b,v.ownBlock=some b->¬S b):aL F e w' base v xs:=adT h c a
def aL.at_{base:Nat}{xs:List α}(h:aL F e w base v xs)(a:v.ownBlock=some g):base<=g/\g<w.heap.size:=h.lt g a
def aL.bc{base:Nat}{xs:List α}(h:aL F e w base v xs)(u:Value)(c:p.block<base):aL F e (w.setCell p u) base v xs:=
 h.eZ (S:=λb=>b=p.block) ((aZ.refl (λb=>b=p.block) w).setCell (p:=p) (.inl rfl) u) λb a e=>by have:=h.at_ a;omega
def aop{base : Nat}{e' : TypeId}{v' : Value}{cs : List Value}(h:w.ownsRow base e Z v n cs)(m:w.ownsRow base' e' W v' c N)(o:e≠e'):∀b,v.ownBlock=some b->v'.ownBlock≠some b:=by
 intro b d a;rcases h.2 with⟨rfl,_⟩|⟨g,cap,l,rfl,_,j,_⟩
 .simp[Value.ownBlock] at d
 .rcases m.2 with⟨rfl,_⟩|⟨p,i,k,rfl,_,f,_⟩
  .simp[Value.ownBlock] at a
  .simp[Value.ownBlock] at d a;rw[d] at j;rw[a,j] at f;simp at f;exact o f.2
def aL.aqF{base:Nat}{xs:List α}(h:aL F e w base v xs)(u:Value)(a:∀b,v.ownBlock=some b->b≠p.block):aL F e (w.setCell p u) base v xs:=
 h.eZ (S:=λb=>b=p.block) ((aZ.refl (λb=>b=p.block) w).setCell (p:=p) (.inl rfl) u) a
def aL.form{base:Nat}{xs:List α}(h:aL F e w base v xs):∃A c,v=.slice A xs.length c:=gT h
def acJ:∀(a:List α) (i j:Nat) (x y:α) (u:Value),a[i]?=some x->j<F.sz->F.cells y=(F.cells x).set j u->eb F (a.set i y)=(eb F a).set (i*F.sz+j) u
 |[],i,j,x,y,u,h,_,_=>by simp at h
 |z::a,0,j,x,y,u,h,hj,hy=>by
  simp at h;subst h;show F.cells y++eb F a=(F.cells z++eb F a).set (0*F.sz+j) u
  rw[uO,lP,List.set_append_left _ _ (by rw[F.len];exact hj),hy]
 |z::a,i+1,j,x,y,u,h,hj,hy=>by
  show F.cells z++eb F (a.set i y)=(F.cells z++eb F a).set ((i+1)*F.sz+j) u
  have e:(i+1)*F.sz+j=F.sz+(i*F.sz+j):=by rw[ry];omega
  rw[e,uL _ _ (by rw[F.len];omega),F.len,rQ,acJ a i j x y u (by simpa using h) hj hy]
def aL.put{base cap : Nat}{xs:List α}(h:aL F e w base (.slice (some ⟨g,0,none⟩) xs.length cap) xs){x y:α}(c:xs[i]?=some x)(a:j<F.sz)(b:F.cells y=(F.cells x).set j u) :
  aL F e (w.setCell ⟨g,i*F.sz+j,none⟩ u) base (.slice (some ⟨g,0,none⟩) xs.length cap) (xs.set i y):=by
 unfold aL;rw[acJ xs i j x y u c a b,qW];exact(h.stored _ u).1
def aL.cell{base cap : Nat}{xs:List α}(h:aL F e w base (.slice (some ⟨g,0,none⟩) xs.length cap) xs){x:α}(b:xs[i]?=some x)(a:(F.cells x)[j]?=some u):w.cell? ⟨g,i*F.sz+j,none⟩=some u:=by
 have c:=aB a;rw[F.len] at c;have d:=aB b;have f:(i+1)*F.sz<=xs.length*F.sz:=qO _ d;rw[ry] at f;rw[h.cellAt _ (by omega)];exact eu F xs i j x u b a
def aL.frozen{base cap : Nat}{xs:List α}(h:aL F e w base (.slice (some ⟨g,0,none⟩) n cap) xs)(a:n=xs.length)(j:Nat):w.frozen? ⟨g,j,none⟩=false:=by
 subst a;exact h.frozenAt j
def aL.some_{base:Nat}{xs:List α}(h:aL F e w base v xs)(b:0<xs.length):∃g c,v=.slice (some ⟨g,0,none⟩) xs.length c:=by
 rcases h.2 with⟨_,d⟩|⟨g,cap,a,rfl,_⟩
 .omega
 .exact⟨g,cap,rfl⟩
def lB{xs:List α}(h:bC (bU F) F.sz w Z hi xs [.slice A n c])(t:hi<=w.heap.size) :
  0<xs.length->∃a,A=some a/\∀(j:Nat) (u:Value),(eb F xs)[j]?=some u->∀f,Below w.heap.size w f->f.cell? (a.add j)=some u:=by
 intro k;obtain⟨x,p⟩:=aq k;obtain⟨b,d,_,rfl,_⟩:=h.at_ p;refine⟨_,rfl,λj u m f o=> ?_⟩;obtain⟨y,l,i⟩:=aoo F m;obtain⟨s,v,r,e,_,_,_,⟨rfl,_⟩,q⟩:=h.at_ l;simp only[me,qA,qw] at e;obtain⟨rfl,rfl⟩:=e;have g:(⟨b,d,none⟩:Addr).add j=⟨b,d+j,none⟩:=by unfold Addr.add;split<;>simp_all
 rw[g];have:=q _ _ i;rw[vx,vN] at this;exact aU o this
def bC.good{xs:List α}{cs:List Value}(h:bC (bU F) F.sz w Z hi xs cs):∀x∈xs,F.good x:=λx b=>by
 obtain⟨c,a⟩:=h.aqs x b;exact a.2
end
def ni:Flat Int:=⟨1,λx=>[.int .i64 x],cA,λ_=>rfl,λx u a=>by rw[ph.1 a];rfl,by decide⟩
section
variable {P:Program}
def aiK {ty : TypeId} (p:ir P t e Z W) {base:Nat} (r:eD base e v w)
  {news:List Value} (D:news.length=m*Z) (F:0<m->∃a,A=some a/\∀(j:Nat) (u:Value),news[j]?=some u->w.cell? (a.add j)=some u) (J:∀u∈news,u.oneCell'=true)
  (Q:m<=1099511627776) (l:base<=w.heap.size) :
  ∃E s,(Builtin.append_ #[t,t] ty #[v,.slice A m c]).run P w=.ok E s/\s.ownsRow base e Z E m news/\Below w.heap.size w s:=by
 obtain⟨i,z,G,M,B,C,R⟩:=p.info;have o:=r.own Z;obtain⟨K,I,d,y⟩:=amT (P:=P) (ty:=ty) p o (c:=c) D F J (by omega) l;have b:=y.own;rw[lP,qV] at b;refine⟨K,I,d,b, ?_⟩;obtain⟨g,rfl,N,H⟩:=r;rcases qe m with x|x
 .subst x;have q:news=[]:=qR (by simpa using D);subst q;have k:(Builtin.append_ #[t,t] ty #[.slice (some ⟨g,0,none⟩) 0 0,.slice A 0 c]).run P w=.ok (.slice (some ⟨g,0,none⟩) 0 0) w:=by
   cases A<;>simp[Builtin.append_,mt p.slice,sizeOf,typeInfo,G,Builtin.lenOf,Builtin.firstCells,storeCells,loadCells,loadCellsFrom]
  rw[k] at d;cases d;exact fd _ _
 .obtain⟨L,rfl,n⟩:=F x;have f:m*W<=140737488355328:=ap (Nat.mul_le_mul Q p.small) (by omega);have k:=run_append_grow (P:=P) w t ty e i z p.slice G M ⟨g,0,none⟩ 0 0 [] (by simp) (λj u O=>by simp at O) L m c news (by rw[B];exact D) n (by omega) (by omega) (growslice_fits (by omega) (by rw[C,lP];exact f));rw[k] at d;cases d;exact((fd _ _).drew).alloc (am _) _
variable {α:Type} {F:Flat α}
def nj (n:Below w.heap.size w x)     (g:o.guard=none) (s y:Operand) (t:TypeId)
  (D:o.op=.call ⟨.builtin .append,#[s,y],#[t,t]⟩)
  (B:ir P t e F.sz Z) {xs:List α} {base : Nat} (p:base<=w.heap.size) (I:a.eval s=v) (E:a.eval y=.slice A xs.length c) (k:eD base e v x)
  (m:0<xs.length->∃a,A=some a/\∀(j:Nat) (u:Value),(eb F xs)[j]?=some u->∀d,Below w.heap.size w d->d.cell? (a.add j)=some u) (J:xs.length<=1099511627776)
  (h:∀f i,Below x.heap.size x i->aL F e i base f xs->wpList P Y R rest (a.put o.dst f) i):wpList P Y R (o::rest) a x:=by
 obtain⟨f,d,G,b,l⟩:=aiK (P:=P) (ty:=o.type) B k (c:=c) (et F xs) (λC=>by
  obtain⟨z,r,L⟩:=m C;exact⟨z,r,λj u H=>L j u H _ n⟩) (acI F xs) J (ap p n.size)
 refine wpList_plain g λK q=> ?_;unfold Oper.wp execOp;simp only[D,resolve,invoke,builtin,tN,uf,uu,List.map_toArray,sE,List.map_nil,I,E,G];exact q _ _ (h f d l b)
def aiL {x:fg w}    (g:o.guard=none) (s y:Operand) (t:TypeId)
  (i:o.op=.call ⟨.builtin .append,#[s,y],#[t,t]⟩)
  (n:ir P t e F.sz Z) {xs:List α} {base : Nat} (q:base<=w.heap.size) (r:a.eval s=v) (p:a.eval y=.slice A xs.length c) (k:eD base e v x.to)
  (l:0<xs.length->∃a,A=some a/\∀(j:Nat) (u:Value),(eb F xs)[j]?=some u->∀m,Below w.heap.size w m->m.cell? (a.add j)=some u) (z:xs.length<=1099511627776)
  (h:∀d (f:fg w),fg.le x f->aL F e f.to base d xs->R .normal (a.put o.dst d) f.to):wpList P Y R [o] a x.to:=
 nj x.ok g s y t i n q r p k l z λd f b i=>h d (x.mk' b) b i
def cF      (j:o.guard=none) (s x:Operand) (t:TypeId)
  (n:o.op=.call ⟨.builtin .append,#[s,x],#[t,t]⟩)
  (m:ir P t e F.sz Z) {base:Nat} {xs:List α} (y:α) (p:a.eval s=v) (f:aL F e w base v xs) {T:TypeId} (q:a.eval x=.slice (some ⟨w.heap.size,0,none⟩) 1 1) (d:es.toList=F.cells y)
  (r:xs.length<=1099511627775) (c:base<=w.heap.size)
  (h:∀i g,aL F e g base i (xs++[y])->aZ (λb=>v.ownBlock=some b) w g->(∀b,i.ownBlock=some b->v.ownBlock=some b\/w.heap.size<=b)->wpList P Y Q rest (a.put o.dst i) g) :
  wpList P Y Q (o::rest) a (w.alloc (.cells es T)):=
 amU j s x t n m p f q (by rw[<-qQ,d,F.len]) (by rw[d];exact F.one y) r c λi g k=>h i g (by
  have l:=k.own;unfold aL;rw[nN,aeF,aE];rw[d] at l;exact l) k.eZ k.at_
def af2      (k:o.guard=none) (s x:Operand) (t:TypeId)
  (r:o.op=.call ⟨.builtin .append,#[s,x],#[t,t]⟩)
  (q:ir P t e F.sz Z) {base:Nat} {xs:List α} (y:α) (B:a.eval s=v) (d:aL F e w base v xs)  {T:TypeId} (C:a.eval x=.slice (some ⟨g,0,none⟩) 1 1) (p:aX w g T es) (n:es.toList=F.cells y)
  (D:xs.length<=1099511627775) (c:base<=w.heap.size)
  (h:∀i f,aL F e f base i (xs++[y])->aZ (λb=>v.ownBlock=some b) w f->(∀b,i.ownBlock=some b->v.ownBlock=some b\/w.heap.size<=b)->wpList P Y Q rest (a.put o.dst i) f) :
  wpList P Y Q (o::rest) a w:=
 aez k s x t r q B d C (news:=F.cells y) (by rw[F.len,Nat.one_mul]) (λ_=>⟨_,rfl,λj u z=>by
  have m:(⟨g,0,none⟩:Addr).add j=⟨g,j,none⟩:=by unfold Addr.add;split<;>simp_all
  rw[m,p.cell,<-ef,n];exact z⟩) (F.one y) (by omega) c λi f l=>h i f (by
  have A:=l.own;unfold aL;rw[nN,aeF,aE];exact A) l.eZ l.at_
end
end
section
variable {β:Bool}
open Go.RowKit
def Typed(w:World)(T:List TypeId)(b:Nat):Prop:=∃t∈T,∃a,aX w b t a
structure dI {α:Type} (E:fW α) (T:List TypeId):Prop where
 go:∀{w w':World} {lo hi eY hi':Nat} {x:α} {cs:List Value},
  (∀b,lo<=b->b<hi->Typed w T b->w'.heap[b]?=w.heap[b]?)->eY<=lo->hi<=hi'->E w lo hi x cs->E w' eY hi' x cs
section
variable {α:Type} {E:fW α} {T:List TypeId}
def dI.loc(d:dI E T):Lcy E:=⟨λh a c e=>d.go (λb a c _=>h b a c) a c e⟩
def dI.more(d:dI E T){U:List TypeId}(f:∀t∈T,t∈U):dI E U:=⟨λh c a e=>d.go (λb c a ⟨t,ht,hd⟩=>h b c a ⟨t,f t ht,hd⟩) c a e⟩
def dI.below(a:dI E T){B : Nat}{x:α}{cs:List Value}(h:E w Z hi x cs)(c:Below B w w')(b:hi<=B):E w' Z hi x cs:=a.loc.below h c b
def dI.wide(a:dI E T){eY hi' : Nat}{x:α}{cs:List Value}(h:E w Z hi x cs)(c:eY<=Z)(b:hi<=hi'):E w eY hi' x cs:=a.loc.wide h c b
def cL(h:aX w b t cs)(a:aX w b O es):t=O:=by
 unfold aX at h a;rw[h] at a;simp at a;exact a.2
def dI.eZ(c:dI E T){x:α}{cs:List Value}(h:E w Z hi x cs)(i:aZ S w w')(f:∀b,Z<=b->b<hi->Typed w T b->¬S b):E w' Z hi x cs:=
 c.go (λb g e a=>i.block b (by obtain⟨_,_,_,d⟩:=a;exact d.lt) (f b g e a)) (am _) (am _) h
def bU.ar{α:Type}(F:Flat α):dI (bU F) []:=⟨λ_ _ _ h=>h⟩
def eI(e:TypeId)(E:fW α)(sz:Nat):fW (List α):=λw i j f d=>
 bC E sz w i j f d/\(0<f.length->∀b a n c,d=[.slice (some ⟨b,a,none⟩) n c]->∃g,aX w b e g)
def eI.ar(D:dI E T)  :dI (eI e E Z) (e::T):=by
 refine⟨?_⟩;intro w M S R P l Q O s o B ⟨⟨A,c,a,C,J,h⟩,p⟩;refine⟨⟨A,c,a,C,J,λm=> ?_⟩,λm b f n N r=> ?_⟩
 .obtain⟨b,f,rfl,k,g,I⟩:=h m;have q:=p m b f _ _ a;refine⟨b,f,rfl,ap o k,bd g B,λi x l=> ?_⟩;obtain⟨G,F,K,d⟩:=I i x l;exact⟨G,F,D.go (λb k g ⟨t,p,hd⟩=>s b k g ⟨t,rb _ p,hd⟩) o B K,λj u H=>(qx (s b k g ⟨e,qB,q⟩)).trans (d j u H)⟩
 .obtain⟨z,L,y,k,g,_⟩:=h m;rw[a,y] at r;simp only[qi,nF,me,qA,qw] at r;obtain⟨⟨rfl,rfl⟩,_,_⟩:=r;have q:=p m z L _ _ (a.trans (by rw[y]));obtain⟨v,hd⟩:=q;exact⟨v,(s z k g ⟨e,qB,v,hd⟩).trans hd⟩
def eI.form{xs:List α}(h:eI e E Z w W hi xs [v]):∃A c,v=.slice A xs.length c:=h.1.form
def iv(E:fW α)(sz:Nat)(e:TypeId)(w:World)(lo base:Nat)(v:Value)(xs:List α):Prop:=
 ∃cells:List Value,w.ownsRow base e sz v xs.length cells/\(∀u∈cells,u.oneCell'=true)/\
  ∀i x,xs[i]?=some x->∃a:List Value,a.length=sz/\E w lo w.heap.size x a/\∀j u,a[j]?=some u->cells[i*sz+j]?=some u
variable {sz:Nat} {e:TypeId}
def iv.form{base : Nat}{xs:List α}(h:iv E sz e w Z base v xs):∃A c,v=.slice A xs.length c:=by
 obtain⟨cells,h,_⟩:=h;exact gT h
def iv.at_{base : Nat}{xs:List α}(h:iv E sz e w Z base v xs)(a:v.ownBlock=some g):base<=g/\g<w.heap.size:=by
 obtain⟨cells,h,_⟩:=h;exact h.lt g a
def iv.blk{base : Nat}{xs:List α}(h:iv E sz e w Z base v xs)(a:v.ownBlock=some g):∃d,aX w g e d:=by
 obtain⟨cells,h,_⟩:=h;rcases h.2 with⟨rfl,_⟩|⟨f,cap,b,rfl,_,c,_⟩
 .cases a
 .cases a;exact⟨_,c⟩
def iv.aiJ{base : Nat}(h:eD base e v w):iv E sz e w Z base v []:=⟨[],h.own sz,λ_ h=>(by cases h),λi x h=>(by simp at h)⟩
def iv.sl{base : Nat}{xs:List α}(h:iv E sz e w Z base v xs)(m:Z<=base):eI e E sz w Z w.heap.size xs [v]:=by
 have K:=λg t=>h.blk (g:=g) t;obtain⟨cells,p,_,s⟩:=h;refine⟨?_,λA b C n c q=> ?_⟩
 .obtain⟨L,G⟩:=p;rcases G with⟨rfl,a⟩|⟨g,cap,d,rfl,l,r,o,k,H,B⟩
  .exact⟨none,0,by rw[a],by omega,by unfold maxLen;omega,λA=>by omega⟩
  .refine⟨_,cap,rfl,o,k,λ_=>⟨g,0,rfl,ap m l,(dl.1 r).1,λi x I=> ?_⟩⟩;obtain⟨D,m,J,z⟩:=s i x I;refine⟨D,m,J,λj u F=> ?_⟩;have f:=z j u F;rw[<-B,qD] at f;split at f
   .rw[cell_of_row w g (0+i*sz+j) d _ (0,0) r,lP];simpa using f
   .cases f
 .simp only[qi,qw] at q;subst q;rcases p.2 with⟨a,_⟩|⟨g,cap,d,a,_,y,_⟩
  .cases a
  .cases a;exact⟨_,y⟩
def iv.eZ(f:dI E T){base : Nat}{xs:List α}(h:iv E sz e w Z base v xs)(d:aZ S w w')(o:∀b,v.ownBlock=some b->¬S b)(p:∀b,Z<=b->Typed w T b->¬S b):iv E sz e w' Z base v xs:=by
 obtain⟨cells,q,k,g⟩:=h;refine⟨cells,adT q d o,k,λi x n=> ?_⟩;obtain⟨j,a,b,c⟩:=g i x n;exact⟨j,a,f.wide (f.eZ b d λb l _ m=>p b l m) (am _) d.size,c⟩
def iv.below(a:dI E T){base : Nat}{xs:List α}(h:iv E sz e w Z base v xs)(b:Below w.heap.size w w'):iv E sz e w' Z base v xs:=
 h.eZ a (aZ.aM (S:=λ_=>False) b) (λ_ _ h=>h) λ_ _ _ h=>h
def aL.deep{α:Type}{F:Flat α}{base:Nat}{xs:List α}(h:aL F e w base v xs)(b:∀x∈xs,F.good x)(d:Nat):iv (bU F) F.sz e w d base v xs:=
 ⟨_,h,acI F xs,λi x a=>⟨F.cells x,F.len x,⟨rfl,b x (db a)⟩,λ_ _ c=>eu F xs i _ x _ a c⟩⟩
end
section
variable {P:Program} {α:Type} {E:fW α} {T:List TypeId} {sz:Nat} {e:TypeId}
def aiM (M:dI E T) (F:e∉T)      (B:o.guard=none) (s x:Operand) (t:TypeId)
  (ho:o.op=.call ⟨.builtin .append,#[s,x],#[t,t]⟩)
  (C:ir P t e sz Z) {base : Nat} {xs:List α} (y:α) (hs:a.eval s=v) (c:iv E sz e w W base v xs)  (hx:a.eval x=.slice (some ⟨w.heap.size,0,none⟩) 1 1) (p:es.toList.length=sz) (K:∀u∈es.toList,u.oneCell'=true) (hy:E w W w.heap.size y es.toList)
  (hn:xs.length<=1099511627775) (k:base<=w.heap.size)
  (h:∀n f,iv E sz e f W base n (xs++[y])->aZ (λb=>v.ownBlock=some b) w f->(∀b,n.ownBlock=some b->v.ownBlock=some b\/w.heap.size<=b)->wpList P Y Q rest (a.put o.dst n) f) :
  wpList P Y Q (o::rest) a (w.alloc (.cells es O)):=by
 have D:=λg V=>c.blk (g:=g) V;obtain⟨cells,c,R,N⟩:=c;have U:cells.length=xs.length*sz:=c.1;refine amU B s x t ho C hs c hx (by rw[<-qQ,p]) K hn k λn f q=>h n f ⟨cells++es.toList, ?_, ?_, ?_⟩ q.eZ q.at_
 .have:=q.own;rw[aE];exact this
 .intro u d;rcases oE.1 d with d|d
  .exact R u d
  .exact K u d
 .have L:∀{z:α} {r:List Value},E w W w.heap.size z r->E f W f.heap.size z r:=λH=>
   M.wide (M.eZ H q.eZ λb _ _ ⟨t',ht',ds,hd⟩ he=>by
    obtain⟨X,J⟩:=D b he;exact F (cL J hd▸ht')) (am _) q.eZ.size
  intro i z l;rcases pm i xs.length with m|oI
  .rw[qv m] at l;obtain⟨r,G,H,I⟩:=N i z l;refine⟨r,G,L H,λj u d=> ?_⟩;have hj:=aB d;have S:(i+1)*sz<=xs.length*sz:=qO _ m;rw[ry] at S;rw[qv (by omega)];exact I j u d
  .rw[ql oI] at l;have:i-xs.length=0:=by have:=aB l;simp at this;omega
   rw[this] at l;simp at l;subst l;have A:i=xs.length:=by omega
   refine⟨es.toList,p,L hy,λj u d=> ?_⟩;rw[A,ql (by omega),U,rQ];exact d
end
section
variable {α:Type} {E:fW α}
def aeH(b o i:Nat):(⟨b,o,none⟩:Addr).add i=⟨b,o+i,none⟩:=by unfold Addr.add;split<;>simp_all
def eI.am1{xs:List α}(h:eI e E Z w W hi xs [.slice A n c])(H:k<=xs.length):eI e E Z w W hi (xs.drop k) [.slice (if c=k then A else A.map λx=>x.add (k*Z)) (xs.length-k) (c-k)]:=by
 obtain⟨⟨A',s,o,I,J,r⟩,t⟩:=h;simp only[qi,nF,qw] at o;obtain⟨rfl,rfl,rfl⟩:=o;refine⟨⟨_,c-k,by rw[qp],by rw[qp];omega,by omega,λm=> ?_⟩,λm b g G s l=> ?_⟩
 .rw[qp] at m;have d:¬c=k:=by omega
  have a:0<xs.length:=by omega
  obtain⟨b,g,rfl,q,p,f⟩:=r a;refine⟨b,g+k*Z,by rw[da d];simp[Addr.add],q,p,λi x hi=> ?_⟩;rw[sN] at hi;obtain⟨z,C,v,y⟩:=f _ _ hi;refine⟨z,C,v,λj u D=> ?_⟩;have:=y j u D;rw[<-this,Nat.add_mul]
  congr 2
  omega
 .rw[qp] at m;have d:¬c=k:=by omega
  have a:0<xs.length:=by omega
  obtain⟨B,F,rfl,q,p,f⟩:=r a;rw[da d] at l;simp only[qr,aeH,qi,nF,me,qA,qw] at l;obtain⟨⟨rfl,_⟩,_⟩:=l;exact t a B F _ _ rfl
def eI.af3{xs:List α}(h:eI e E Z w W hi xs [.slice A n c])(u:k<=xs.length):eI e E Z w W hi (xs.take k) [.slice A k c]:=by
 obtain⟨⟨A',o,j,v,s,r⟩,p⟩:=h;simp only[qi,nF,qw] at j;obtain⟨rfl,rfl,rfl⟩:=j;have d:(xs.take k).length=k:=by rw[eg];omega
 refine⟨⟨_,c,by rw[d],by rw[d];omega,s,λg=> ?_⟩,λg b a t o l=> ?_⟩
 .rw[d] at g;obtain⟨b,a,rfl,q,m,f⟩:=r (by omega);refine⟨b,a,rfl,q,m,λi x hi=> ?_⟩;rw[qD] at hi;split at hi
  .exact f _ _ hi
  .cases hi
 .rw[d] at g;simp only[qi,nF,qw] at l;obtain⟨rfl,rfl,rfl⟩:=l;exact p (by omega) b a _ _ rfl
end
def abY{F:Flat U}{base : Nat}{xs:List U}(c:aX w g e cs)(a:cs.toList=eb F xs)(f:base<=g)(i:n=xs.length)(b:n<=maxLen):aL F e w base (.slice (some ⟨g,0,none⟩) n n) xs:=by
 subst i;have d:cs.toList.length=xs.length*F.sz:=by rw[a,et]
 exact⟨et F xs,.inr ⟨g,xs.length,cs,rfl,f,c,am _,b,by rw[<-qQ];exact d,by rw[a,oS (by rw[et];exact am _)]⟩⟩
end
section
variable {β:Bool}
structure Sp where
 n:Int
 p:Int
def adB(l:List Sp):Prop:=l.Pairwise λa b=>a.n<b.n
def spP(s:Sp):Prop:=(0<=s.n/\s.n<=999999999988)/\(1<=s.p/\s.p<=99)
def ixP(l:List Sp):Prop:=(∀s∈l,spP s)/\adB l
def gU(s:Sp):List Sp->List Sp
 |[]=>[s]
 |x::xs=>if s.n<x.n then s::x::xs else if x.n<s.n then x::gU s xs else s::xs
def abZ{s x:Sp}:∀{l:List Sp},x∈gU s l->x=s\/x∈l
 |[],h=>by have:x∈[s]:=h;simp at this;exact .inl this
 |y::l,h=>by
  have a:x∈(if s.n<y.n then s::y::l else if y.n<s.n then y::gU s l else s::l):=h;split at a
  .rcases pa.1 a with e|e
   .exact .inl e
   .exact .inr e
  .split at a
   .rcases pa.1 a with e|e
    .exact .inr (by rw[e];simp)
    .rcases abZ e with e|e
     .exact .inl e
     .exact .inr (by simp[e])
   .rcases pa.1 a with e|e
    .exact .inl e
    .exact .inr (by simp[e])
def at6{s:Sp}:∀{l:List Sp},s∈gU s l
 |[]=>by show s∈[s];simp
 |y::l=>by
  show s∈(if s.n<y.n then s::y::l else if y.n<s.n then y::gU s l else s::l);split
  .simp
  .split
   .exact rb _ at6
   .simp
def aeI{s:Sp}:∀{l:List Sp},adB l->adB (gU s l)
 |[],_=>um _ _
 |y::l,h=>by
  have c:=ug.1 h;show adB (if s.n<y.n then s::y::l else if y.n<s.n then y::gU s l else s::l);split
  .rename_i b;refine ug.2 ⟨λz a=> ?_,h⟩;rcases pa.1 a with rfl|a
   .exact b
   .have:=c.1 z a;omega
  .split
   .rename_i b;refine ug.2 ⟨λz a=> ?_,aeI c.2⟩;rcases abZ a with rfl|a
    .exact b
    .exact c.1 z a
   .refine ug.2 ⟨λz a=> ?_,c.2⟩;have:=c.1 z a;omega
def at7{s:Sp}{l:List Sp}(h:ixP l)(b:spP s):ixP (gU s l):=⟨λx a=>by
 rcases abZ a with rfl|a
 .exact b
 .exact h.1 x a,aeI h.2⟩
def aeJ{s:Sp}:∀{l:List Sp},(gU s l).length<=l.length+1
 |[]=>by show[s].length<=_;simp
 |y::l=>by
  show(if s.n<y.n then s::y::l else if y.n<s.n then y::gU s l else s::l).length<=_;split
  .simp
  .split
   .have:=aeJ (s:=s) (l:=l);simp;omega
   .simp
def ab0{s:Sp}:∀{a b:List Sp},(∀x∈a,x.n<s.n)->gU s (a++b)=a++gU s b
 |[],_,_=>rfl
 |x::a,b,h=>by
  have d:=h x (by simp);show(if s.n<x.n then s::x::(a++b) else if x.n<s.n then x::gU s (a++b) else s::(a++b))=x::(a++gU s b);rw[da (by omega),du d,ab0 λy c=>h y (by simp[c])]
def af4{s x:Sp}(c:s.n<x.n):∀{a b:List Sp},gU s (a++x::b)=gU s a++x::b
 |[],b=>by
  show(if s.n<x.n then s::x::b else _)=[s]++x::b;rw[du c];rfl
 |y::a,b=>by
  show(if s.n<y.n then s::y::(a++x::b) else if y.n<s.n then y::gU s (a++x::b) else s::(a++x::b))=(if s.n<y.n then s::y::a else if y.n<s.n then y::gU s a else s::a)++x::b;split
  .rfl
  .split
   .rw[af4 c];rfl
   .rfl
inductive Tr where
 |nil
 |node (b:Nat) (s:Sp) (l r:Tr)
namespace Tr
end Tr
def fD:List Sp->List Sp->List Sp
 |[],l=>l
 |s::ss,l=>fD ss (gU s l)
def ab1:∀(a b l:List Sp),fD (a++b) l=fD b (fD a l)
 |[],_,_=>rfl
 |s::a,b,l=>ab1 a b (gU s l)
def af5:∀{a l:List Sp},adB l->adB (fD a l)
 |[],_,h=>h
 |s::a,l,h=>by show adB (fD a (gU s l));exact af5 (aeI h)
def aiN:∀{a l:List Sp},ixP l->(∀s∈a,spP s)->ixP (fD a l)
 |[],_,h,_=>h
 |s::a,l,h,hs=>by show ixP (fD a (gU s l));exact aiN (at7 h (hs s (by simp))) λx b=>hs x (by simp[b])
def af6:∀{a l:List Sp},(fD a l).length<=a.length+l.length
 |[],_=>by show _<=_;simp[fD]
 |s::a,l=>by
  have b:=af6 (a:=a) (l:=gU s l);have c:=aeJ (s:=s) (l:=l);show(fD a (gU s l)).length<=_;simp only[fi];omega
def aoq{s:Sp}{l:List Sp}(h:∀x∈l,x.n<s.n):gU s l=l++[s]:=by
 have:=ab0 (s:=s) (a:=l) (b:=[]) h;rw[sg] at this;rw[this];rfl
def pD(n:Int):List Sp->Int
 |[]=>0
 |x::xs=>if x.n=n then x.p else pD n xs
end
section
variable {β:Bool}
open Go.RowKit
structure di (w:World) (s:Nat) (ty:TypeId) (S:Nat->Prop) (pre:List Nat) where
 to:World
 done:Bool
 ok:aZ (λb=>done=true/\S b) w to
section
variable {w:World} {s:Nat} {ty:TypeId} {S:Nat->Prop} {pre:List Nat}
instance asV:Nonempty (di w s ty S pre):=⟨⟨w,false,aZ.refl _ _⟩⟩
instance awi:bg (di w s ty S pre):=⟨λ_ _=>True,λ_ _ _=>trivial,λi x=>i=s\/i∈pre->x.done=false⟩
def di.le(x y:di w s ty S pre):Prop:=
 (y.done=x.done/\Below x.to.heap.size x.to y.to)\/(x.done=false/\y.done=true/\aZ (λb=>S b\/(w.heap.size<=b/\∃a:Array Value,aX x.to b ty a)) x.to y.to)
def di.le_refl(x:di w s ty S pre):di.le x x:=.inl ⟨rfl,fd _ _⟩
def di.le.from_{x y:di w s ty S pre}(h:di.le x y)(b:x.done=true):y.done=true/\Below x.to.heap.size x.to y.to:=by
 rcases h with⟨a,c⟩|⟨a,_⟩
 .exact⟨a.trans b,c⟩
 .rw[b] at a;cases a
def aa2(h:w.cell? p=some v)(b:¬S p.block):∀x:di w s ty S pre,x.to.cell? p=some v:=λx=>by
 have a:=tA w p h;unfold World.cell? at h ⊢;rw[x.ok.block p.block a λh=>b h.2];exact h
def di.till(x:di w s ty S pre)(a:x.done=false):Below w.heap.size w x.to:=⟨x.ok.os,x.ok.tape,x.ok.output,x.ok.size,λb c=>x.ok.block b c λh=>by rw[a] at h;cases h.1⟩
def di.did(x:di w s ty S pre){w2:World}(hc:aZ (λb=>S b\/(w.heap.size<=b/\∃a:Array Value,aX x.to b ty a)) x.to w2):di w s ty S pre:=
 ⟨w2,true,(x.ok.mono (T:=λb=>true=true/\S b) λ_ _ h=>⟨rfl,h.2⟩).trans hc λb c h=>by
  rcases h with h|h
  .exact⟨rfl,h⟩
  .omega⟩
def akM     (s:Nat) (ty:TypeId) (S:Nat->Prop) (pre:List Nat) (n:Nat) (b a:List Nat) (f:P.follows .mixedOrders=true) (i:ag6 M n b a=true) (c:adz M.toArray n X.tmps.size=true)
  (h:wpQuiet P M.toArray (λd=>∃x:di w s ty S pre,d=x.to) (λg=>∃e:List (iu (di w s ty S pre)),cK P M.toArray (di.to (w:=w)) (di.le (w:=w)) (wpList P M.toArray Q (M.drop n)) (pick M a) [] e g) ((pick M b).map (·.2)) X):(Code.region Z M.toArray true).wp P Q X w:=
 nM (di.to (w:=w)) (di.le (w:=w)) di.le_refl n b a f i c ⟨w.drew,false,(aZ.refl _ _).drew⟩ (λ_ _=>trivial) (λ_ _ _=>rfl) rfl h
variable {P:Program} {ops:Array Oper} {Qt:Act->World->Prop} {i:Nat} {o:Oper} {L:List (Nat×Oper)} {F:List (Nat×(di w s ty S pre->Prop))} {Rs:List (iu (di w s ty S pre))} {a:Act}
def axr (R:Value->di w s ty S pre->Prop) (m:o.dst.isSome=true) (hi':i=s) (k:∀j∈pre,Behind ops i j) (q:∀v x y,R v x->di.le x y->R v y)
  (A:∀x:di w s ty S pre,aaZ F o x->x.done=false->∀c:Exit->Act->World->Prop,(∀v g (d:aZ (λb=>S b\/(w.heap.size<=b/\∃z:Array Value,aX x.to b ty z)) x.to g),R v (x.did d)->c .normal (a.put o.dst v) g)->wpList P ops c [o] a x.to)
  (n:∀v,cK P ops (di.to (w:=w)) (di.le (w:=w)) Qt L ((i,λx=>R v x)::F) Rs (a.put o.dst v)):cK P ops (di.to (w:=w)) (di.le (w:=w)) Qt ((i,o)::L) F (.any R::Rs) a:=
 kP (to:=di.to (w:=w)) (le:=di.le (w:=w)) R (.inl m) q (λx t _ _ l c r=>A x t (l (.inl hi')) c λv g d p=>
  r v (x.did d) (.inr ⟨l (.inl hi'),rfl,d⟩) trivial (λj u f _ e=>e.elim (λe=>absurd (e.trans hi'.symm) u) λe=>absurd (k j e) f) p) n
def axs(h:∀x:di w s ty S pre,dV F x->Qt a x.to):cK P ops (di.to (w:=w)) (di.le (w:=w)) Qt [] F [] a:=adU h
end
end
section
variable {β:Bool}
open Go.RowKit
structure my (w:World) (aeK:List Nat) (fl:Nat->Bool) (ty:TypeId) (S:Nat->Prop) where
 to:World
 st:Nat
 ok:aZ (λb=>0<st/\S b) w to
 lim:st<=aeK.length
section
variable {w:World} {aeK:List Nat} {fl:Nat->Bool} {ty:TypeId} {S:Nat->Prop}
instance asW:Nonempty (my w aeK fl ty S):=⟨⟨w,0,aZ.refl _ _,fa _⟩⟩
instance awj:bg (my w aeK fl ty S):=⟨λ_ _=>True,λ_ _ _=>trivial,λi x=>∀k,aeK[k]?=some i->x.st<=k⟩
def my.may(x:my w aeK fl ty S)(b:Nat):Prop:=S b\/(fl x.st=true/\w.heap.size<=b/\∃a:Array Value,aX x.to b ty a)
def my.le(x y:my w aeK fl ty S):Prop:=(y.st=x.st/\Below x.to.heap.size x.to y.to)\/(y.st=x.st+1/\aZ x.may x.to y.to)
def my.le_refl(x:my w aeK fl ty S):my.le x x:=.inl ⟨rfl,fd _ _⟩
def my.le.eZ{x y:my w aeK fl ty S}(h:my.le x y):aZ x.may x.to y.to:=by
 rcases h with⟨_,h⟩|⟨_,h⟩
 .exact aZ.aM h
 .exact h
variable {P:Program} {ops:Array Oper} {Qt:Act->World->Prop} {i:Nat} {o:Oper} {L:List (Nat×Oper)} {F:List (Nat×(my w aeK fl ty S->Prop))} {Rs:List (iu (my w aeK fl ty S))} {a:Act}
end
end
section
variable {β:Bool}
open Go.RowKit
def FSp:Flat Sp:=⟨2,λs=>[.int .i64 s.n,.int .i64 s.p],λx=>cA x.n/\cA x.p,λ_=>rfl,λx u a=>by simp at a;rcases a with rfl|rfl<;>rfl,by decide⟩
def aaf:ir (ai β) 110 132 2 16:=ir.mk' yp (z:=.agg #[.int .i64 0,.int .i64 0]) (by kernel_rfl) rfl (by decide) (by decide)
end
section
variable {β:Bool}
open Go.RowKit
def aa3(F:FuncId):Prop:=∀(args:Array Value) (w:World),(callFunc F args).run (ai β) w=.ok (.enter F args) w
def adC{fn:Func}{c:Code}(b:(ai β).funcs[f]?=some fn)(a:(fn.name == "runtime.NumGoroutine")=false)(e:fn.body=some c):aa3 (β:=β) f:=by
 intro args w;have d:fn.name ≠ "runtime.NumGoroutine" :=by simpa using a
 simp[callFunc,b,d,e]
def akN(xs d:List Int)(s t:Value)(w:World)(F hi eY hi':Nat)(p:bC aam 1 w F hi xs [s])(r:bC aam 1 w eY hi' d [t]) :
  Calls (ai β) 49 #[s,t] w λe z=>e=.returned (.bool (decide (xs=d)))/\∃n,z=w.drewN n:=by
 obtain⟨A,c,rfl⟩:=p.form;obtain⟨K,I,rfl⟩:=r.form;obtain⟨_,H,E⟩:=p.len_;unfold maxLen at E;by_cases a:xs.length=d.length
 .have C:((xs.length:Int) !=d.length)=false:=by rw[qI];omega
  replace a:=ab a;go_enter xY,ntmps49;go_wp2;go_loopw [5] (λi wr=>∃k:Nat,k<=xs.length/\i=.int .i64 k/\xs.take k=d.take k/\∃n,wr=w.drewN n) (λi _=>xs.length-(intOf i).toNat)
  case atStart=>exact⟨0,fa _,rfl,rfl,0,rfl⟩
  case round=>
   obtain⟨k,G,rfl,m,n,rfl⟩:=hrel;replace m:=ab m;by_cases o:k<xs.length
   .obtain⟨x,j⟩:=aq o;obtain⟨y,g⟩:=aq (l:=d) (k:=k) (by have:=a.out;omega);obtain⟨b,D,rfl,_,_,_,q⟩:=p.ints_at j;obtain⟨J,L,rfl,_,_,_,v⟩:=r.ints_at g;have B:(k:Int)<(d.length:Int):=by have:=a.out;omega
    replace j:=ab j;replace g:=ab g;by_cases f:x=y
    .have u:(x !=y)=false:=by rw[qI];exact f
     replace f:=ab f;go_wp2
     go_quiet (fail)
     go_wp2;go_roundw
     case rel=>exact⟨k+1,by omega,by go_num,by rw[lE j.out,lE g.out,m.out,f.out],_,rfl⟩
     simp[intOf];omega
    .have u:(x !=y)=true:=by rw[rL];exact f
     replace f:=ab f;go_wp2
     go_quiet (fail)
     go_wp2;go_ret;exact⟨aF (by symm;rw[tz];rintro rfl;exact f.out (dq (j.out.symm.trans g.out))),by first|exact⟨_,rfl⟩|exact⟨_,World.drewN_drewN _ _ _⟩⟩
   .obtain rfl:k=xs.length:=by omega
    go_wp2;go_ret;exact⟨aF (by symm;rw[decide_eq_true_iff];have:=m.out;rw[gE,oS (by have:=a.out;omega)] at this;exact this),n,rfl⟩
 .have C:((xs.length:Int) !=d.length)=true:=by rw[rL];omega
  replace a:=ab a;go_enter xY,ntmps49;go_wp2;go_ret;exact⟨aF (by symm;simp;intro e;exact a.out (by rw[e])),0,rfl⟩
end
section
variable {β:Bool}
open Go.RowKit
abbrev RSp:fW Sp:=bU FSp
def RSp.loc:Lcy RSp:=bU.loc FSp
def awk{xs:List Sp}(h:bC RSp 2 w Z hi xs [.slice A n c]){x:Sp}(g:xs[k]?=some x) :
  ∃b a,A=some ⟨b,a,none⟩/\Z<=b/\b<hi/\(cA x.n/\cA x.p)/\w.cell? ⟨b,a+k*2,none⟩=some (.int .i64 x.n)/\w.cell? ⟨b,a+k*2+1,none⟩=some (.int .i64 x.p):=by
 obtain⟨b,a,l,rfl,i,f,j,⟨rfl,d⟩,e⟩:=h.at_ g;exact⟨b,a,rfl,i,f,d,by simpa using e 0 _ rfl,e 1 _ rfl⟩
def aqG:ixP []:=⟨λx h=>(by cases h),List.Pairwise.nil⟩
def ag9(n a hi:Int)(w:World)(b:Bool)(d:b=true↔a<=n/\n<=hi) :
  Calls (ai β) 20 #[.int .i64 n,.int .i64 a,.int .i64 hi] w λe c=>e=.returned (.bool b)/\w=c:=
 (lu n a hi w).mono λe c ⟨h,hw⟩=>⟨by
  rw[h];have:(decide (a<=n)&&decide (n<=hi))=b:=by rw[rr,d];simp
  rw[this],hw⟩
def akO(s:Sp)(w:World)(b:Bool)(c:b=true↔spP s) :
  Calls (ai β) 80 #[.agg #[.int .i64 s.n,.int .i64 s.p]] w λe g=>e=.returned (.bool b)/\Below w.heap.size w g:=by
 replace c:=ab c;have f:=au w (.cells #[.int .i64 s.n,.int .i64 s.p] 132);go_enter zj,ntmps80;by_cases a:0<=s.n/\s.n<=999999999988
 .go_wp2;refine(ag9 s.n _ _ _ true (by simp only[tK];exact a)).mono ?_;rintro e d ⟨rfl,rfl⟩;replace a:=ab a;go_wp2;refine(ag9 s.p _ _ _ b (by rw[c.out];exact⟨λh=>h.2,λh=>⟨a.out,h⟩⟩)).mono ?_;rintro e d ⟨rfl,rfl⟩;go_wp2;go_ret;exact⟨rfl,f⟩
 .go_wp2;refine(ag9 s.n _ _ _ false (by simp only[kw,uJ];exact a)).mono ?_;rintro e d ⟨rfl,rfl⟩;replace a:=ab a;go_wp2;go_ret;exact⟨aF (by rw[eq_comm,<-mT,c.out];exact λh=>a.out h.1),f⟩
end
section
variable {β:Bool}
open Go.RowKit
def ow(s:Sp)(xs:List Sp)(put:Bool)(o:List Sp):Prop:=
 (put=false/\(∀x∈xs,x.n<s.n)/\o=xs)\/(put=true/\(∃x∈xs,s.n<=x.n)/\o=gU s xs)
def aor(s:Sp):ow s [] false []:=.inl ⟨rfl,λx a=>(by cases a),rfl⟩
def aos{s x:Sp}{xs o:List Sp}(h:ow s xs false o)(a:s.n<x.n):ow s (xs++[x]) true (o++[s]++[x]):=by
 rcases h with⟨_,h,rfl⟩|⟨h,_⟩
 .refine .inr ⟨rfl,⟨x,by simp,by omega⟩, ?_⟩;rw[ab0 h];show _=o++(if s.n<x.n then s::x::[] else _);rw[du a];simp
 .cases h
def akP{s x:Sp}{xs o:List Sp}(h:ow s xs false o)(a:x.n=s.n):ow s (xs++[x]) true (o++[s]):=by
 rcases h with⟨_,h,rfl⟩|⟨h,_⟩
 .refine .inr ⟨rfl,⟨x,by simp,by omega⟩, ?_⟩;rw[ab0 h];show _=o++(if s.n<x.n then s::x::[] else if x.n<s.n then x::gU s [] else s::[]);rw[da (by omega),da (by omega)]
 .cases h
def akQ{s x:Sp}{xs o:List Sp}(h:ow s xs false o)(b:x.n<s.n):ow s (xs++[x]) false (o++[x]):=by
 rcases h with⟨_,h,rfl⟩|⟨h,_⟩
 .refine .inl ⟨rfl,λy a=> ?_,rfl⟩;rcases oE.1 a with a|a
  .exact h y a
  .rw[ph.1 a];exact b
 .cases h
def akR{s x:Sp}{xs o:List Sp}(h:ow s xs true o)(b:adB (xs++[x])):s.n<x.n/\ow s (xs++[x]) true (o++[x]):=by
 rcases h with⟨h,_⟩|⟨_,⟨y,a,c⟩,rfl⟩
 .cases h
 .have:=(wn.1 b).2.2 y a x (by simp);refine⟨by omega,.inr ⟨rfl,⟨y,by simp[a],c⟩, ?_⟩⟩;rw[show xs++[x]=xs++x::[] from rfl,af4 (by omega)]
def aot{s:Sp}{xs o:List Sp}{a:Bool}(h:ow s xs a o):(a=false/\gU s xs=o++[s])\/(a=true/\gU s xs=o):=by
 rcases h with⟨h,b,rfl⟩|⟨h,_,rfl⟩
 .exact .inl ⟨h,aoq b⟩
 .exact .inr ⟨h,rfl⟩
def jw{s:Sp}{xs o:List Sp}{a:Bool}(h:ow s xs a o):o.length<=xs.length+1:=by
 rcases h with⟨_,_,rfl⟩|⟨_,_,rfl⟩
 .omega
 .exact aeJ
def aqH{xs:List Sp}(h:adB xs)(k:Nat):adB (xs.take k):=List.Pairwise.sublist (List.take_sublist k xs) h
def awl(w:World)(ys:List Sp)(e:Ending)(w':World):Prop:=∃v,e=.returned v/\aL FSp 132 w' w.heap.size v ys/\Below w.heap.size w w'
def jc(h:w.cell? p=some v)(c:aZ S w w')(b:¬S p.block):w'.cell? p=some v:=by
 have a:=tA w p h;unfold World.cell? at h ⊢;rw[c.block p.block a b];exact h
def aou(s:Sp)(aa:cA s.n/\cA s.p)(xs:List Sp)(v:Value)(w:World)(lo hi:Nat)(aR:hi<=w.heap.size)(h:bC RSp 2 w lo hi xs [v])(O:adB xs)(hl:xs.length<=1000000000) :
  Calls (ai β) 81 #[v,.agg #[.int .i64 s.n,.int .i64 s.p]] w (awl w (gU s xs)):=by
 obtain⟨A,c,rfl⟩:=h.form;obtain⟨_,hc,V⟩:=h.len_;unfold maxLen at V;go_enter zi,ntmps81;go_wp2;generalize hG:(w.alloc (.cells #[.int .i64 s.n,.int .i64 s.p] 132)).alloc (.cells #[] 132)=w0 at *;obtain⟨U,iw,N,cN,dS,k1,bZ,dx⟩:=oK hG;have G:w.heap.size+1<=w0.heap.size:=by omega
 have g0:=am0 RSp.loc h U aR;have o0:aL FSp 132 w0 (w.heap.size+1) (.slice (some ⟨w.heap.size+1,0,none⟩) 0 0) []:=aL.aiJ ⟨_,rfl,am _,k1⟩;have a6:∀k,k<xs.length->∃x,xs[k]?=some x/\(k=0\/True):=λk hk=>by
  obtain⟨x,V⟩:=aq hk;exact⟨x,V,.inr trivial⟩
 go_loopw [5,6,7] (λoo pp ii wr=>∃(k:Nat) (b:Bool) (o:List Sp),k<=xs.length/\pp=.bool b/\ii=.int .i64 k/\aL FSp 132 wr (w.heap.size+1) oo o/\ow s (xs.take k) b o/\aZ (λb=>w.heap.size+1<=b) w0 wr) (λoo pp ii _=>xs.length-(intOf ii).toNat)
 case atStart=>exact⟨0,false,[],fa _,rfl,rfl,o0,aor s,aZ.refl _ _⟩
 case round=>
  obtain⟨k,b,o,hk,rfl,rfl,u,e,j⟩:=hrel;replace e:=ab e;obtain⟨p,q,rfl⟩:=u.form;have Y:=jw e.out;rw[eg] at Y;by_cases X:k<xs.length
  .obtain⟨x,y⟩:=aq X;obtain⟨b1,a7,rfl,a9,a8,a5,z,E⟩:=awk g0 y;have B:adB (xs.take k++[x]):=by rw[<-lE y];exact aqH O _
   replace y:=ab y;replace B:=ab B;have cN:=(aO N j (by omega)).cell;have Z:=jc z j (by dsimp only;omega);have a3:=jc E j (by dsimp only;omega);cases b with
   |false=>
    rcases Int.lt_trichotomy x.n s.n with g|g|g
    .have C:=ab (akQ e.out g);have t1:=bv (show ¬(s.n<=x.n) by omega);have W:(x.n !=s.n)=true:=by rw[rL];omega
     go_wp2
     go_quiet (fail)
     revert nq;intro d;go_wp2
     go_quiet (fail)
     have m:aL FSp 132 (wr.drewN (d+nq)) (w.heap.size+1) (.slice p o.length q) o:=u;go_wp2_with(at_builtin;refine cF (F:=FSp) (v:=.slice p o.length q) rfl (.tmp 39) (.tmp 44) 110 rfl aaf x rfl m rfl rfl (by have:=jw e.out;rw[eg] at this;first|omega|(simp;omega)) (ap G ((j.drewN (d+nq))).size) ?_;intro M K f r n;obtain⟨H,I,rfl⟩:=f.form;simp only[aE,fi,mc,lP] at f;have a:=((j.drewN (d+nq))).trans (r.mono (T:=λb=>w.heap.size+1<=b) λb _ l=>((m).at_ l).1) λ_ _ h=>h;skip);go_roundw
     case rel=>exact⟨k+1,false,o++[x],by omega,rfl,by go_num,f,by rw[lE y.out];exact C.out,a⟩
     simp[intOf];omega
    .have C:=ab (akP e.out g);have t1:=dj (show s.n<=x.n by omega);have W:(x.n !=s.n)=false:=by rw[qI];exact g
     go_wp2
     go_quiet (fail)
     revert nq;intro d;have m:aL FSp 132 (wr.drewN d) (w.heap.size+1) (.slice p o.length q) o:=u;go_wp2_with(at_builtin;refine cF (F:=FSp) (v:=.slice p o.length q) rfl (.tmp 27) (.tmp 29) 110 rfl aaf s rfl m rfl rfl (by have:=jw e.out;rw[eg] at this;first|omega|(simp;omega)) (ap G ((j.drewN d)).size) ?_;intro M K f r n;obtain⟨H,I,rfl⟩:=f.form;simp only[aE,fi,mc,lP] at f;have a:=((j.drewN d)).trans (r.mono (T:=λb=>w.heap.size+1<=b) λb _ l=>((m).at_ l).1) λ_ _ h=>h;have P:=(aO N a (by omega)).cell;have R:=jc z a (by dsimp only;omega);have a0:=jc E a (by dsimp only;omega))
     go_quiet (fail)
     go_wp2;go_roundw
     case rel=>exact⟨k+1,true,o++[s],by omega,rfl,by go_num,f,by rw[lE y.out];exact C.out,a.drewN nq⟩
     simp[intOf];omega
    .have C:=ab (aos e.out g);have t1:=dj (show s.n<=x.n by omega);have W:(x.n !=s.n)=true:=by rw[rL];omega
     go_wp2
     go_quiet (fail)
     revert nq;intro d;have m:aL FSp 132 (wr.drewN d) (w.heap.size+1) (.slice p o.length q) o:=u;go_wp2_with(at_builtin;refine cF (F:=FSp) (v:=.slice p o.length q) rfl (.tmp 27) (.tmp 29) 110 rfl aaf s rfl m rfl rfl (by have:=jw e.out;rw[eg] at this;first|omega|(simp;omega)) (ap G ((j.drewN d)).size) ?_;intro M K f r n;obtain⟨H,I,rfl⟩:=f.form;simp only[aE,fi,mc,lP] at f;have a:=((j.drewN d)).trans (r.mono (T:=λb=>w.heap.size+1<=b) λb _ l=>((m).at_ l).1) λ_ _ h=>h;have P:=(aO N a (by omega)).cell;have R:=jc z a (by dsimp only;omega);have a0:=jc E a (by dsimp only;omega))
     go_quiet (fail)
     have L:aL FSp 132 (K.drewN nq) (w.heap.size+1) (.slice H (o.length+1) I) (o++[s]):=f;go_wp2_with(at_builtin;refine cF (F:=FSp) (v:=.slice H (o.length+1) I) rfl (.tmp 39) (.tmp 44) 110 rfl aaf x rfl L rfl rfl (by have:=jw e.out;rw[eg] at this;first|omega|(simp;omega)) (ap G ((a.drewN nq)).size) ?_;intro v4 w4 o4 Q a4;obtain⟨A4,c4,rfl⟩:=o4.form;simp only[aE,fi,mc,lP] at o4;have a1:=((a.drewN nq)).trans (Q.mono (T:=λb=>w.heap.size+1<=b) λb _ l=>((L).at_ l).1) λ_ _ h=>h;skip);go_roundw
     case rel=>exact⟨k+1,true,o++[s]++[x],by omega,rfl,by go_num,o4,by rw[lE y.out];exact C.out,a1⟩
     simp[intOf];omega
   |true=>
    obtain⟨g,S⟩:=akR e.out B.out;have C:=ab S;have W:(x.n !=s.n)=true:=by rw[rL];omega
    go_wp2
    go_quiet (fail)
    revert nq;intro d;go_wp2
    go_quiet (fail)
    have m:aL FSp 132 (wr.drewN (d+nq)) (w.heap.size+1) (.slice p o.length q) o:=u;go_wp2_with(at_builtin;refine cF (F:=FSp) (v:=.slice p o.length q) rfl (.tmp 39) (.tmp 44) 110 rfl aaf x rfl m rfl rfl (by have:=jw e.out;rw[eg] at this;first|omega|(simp;omega)) (ap G ((j.drewN (d+nq))).size) ?_;intro M K f r n;obtain⟨H,I,rfl⟩:=f.form;simp only[aE,fi,mc,lP] at f;have a:=((j.drewN (d+nq))).trans (r.mono (T:=λb=>w.heap.size+1<=b) λb _ l=>((m).at_ l).1) λ_ _ h=>h;skip);go_roundw
    case rel=>exact⟨k+1,true,o++[x],by omega,rfl,by go_num,f,by rw[lE y.out];exact C.out,a⟩
    simp[intOf];omega
  .obtain rfl:k=xs.length:=by omega
   have t:=aot e.out;rw[gE] at t;have cN:=(aO N j (by omega)).cell;have J:∀{w9:World},aZ (λb=>w.heap.size+1<=b) w0 w9->Below w.heap.size w w9:=λa2=>U.trans (a2.below U.size λi hi h=>by omega);rcases t with⟨rfl,D⟩|⟨rfl,D⟩
   .replace D:=ab D;go_wp2_with(at_builtin;refine cF (F:=FSp) (v:=.slice p o.length q) rfl (.tmp 48) (.tmp 50) 110 rfl aaf s rfl u rfl rfl (by have:=jw e.out;rw[eg] at this;first|omega|(simp;omega)) (ap G (j).size) ?_;intro M K f r n;obtain⟨H,I,rfl⟩:=f.form;simp only[aE,fi,mc,lP] at f;have a:=(j).trans (r.mono (T:=λb=>w.heap.size+1<=b) λb _ l=>((u).at_ l).1) λ_ _ h=>h;skip);go_ret;exact⟨_,rfl,by rw[D.out];exact f.base (by omega),J a⟩
   .replace D:=ab D;go_wp2;go_ret;exact⟨_,rfl,by rw[D.out];exact u.base (by omega),J j⟩
end
section
variable {β:Bool}
open Go.RowKit
structure It where
 n:Int
 b:ByteArray
structure Pk where
 no:Int
 its:List It
def mL:Flat It:=⟨2,λx=>[.int .i64 x.n,.string x.b],λx=>cA x.n/\x.b.size<=maxLen,λ_=>rfl,λx u a=>by simp at a;rcases a with rfl|rfl<;>rfl,by decide⟩
abbrev acK:fW (List It):=eI 63 (bU mL) 2
def RPk:fW Pk:=λw a b x c=>∃v,c=[.int .i64 x.no,v]/\cA x.no/\acK w a b x.its [v]
abbrev aov:fW (List Pk):=eI 54 RPk 2
def acK.ar:dI acK [63]:=eI.ar (bU.ar mL)
def RPk.ar:dI RPk [63]:=⟨λh a b ⟨v,e,i,hr⟩=>⟨v,e,i,acK.ar.go h a b hr⟩⟩
def aov.ar:dI aov [54,63]:=eI.ar RPk.ar
def nO:ir (ai β) 52 63 2 24:=ir.mk' xr (z:=.agg #[.int .i64 0,.string ⟨#[]⟩]) (by kernel_rfl) rfl (by decide) (by decide)
def adV:ir (ai β) 23 54 2 32:=ir.mk' xL (z:=.agg #[.int .i64 0,.slice none 0 0]) (by kernel_rfl) rfl (by decide) (by decide)
def azM{xs:List Pk}(h:aov w Z hi xs [.slice A n c]){x:Pk}(i:xs[k]?=some x) :
  ∃b a A' d,A=some ⟨b,a,none⟩/\Z<=b/\b<hi/\cA x.no/\w.cell? ⟨b,a+k*2,none⟩=some (.int .i64 x.no)/\w.cell? ⟨b,a+k*2+1,none⟩=some (.slice A' x.its.length d)/\acK w Z hi x.its [.slice A' x.its.length d]:=by
 obtain⟨b,a,m,rfl,j,g,l,⟨v,rfl,e,hi⟩,f⟩:=h.1.at_ i;obtain⟨A',d,rfl⟩:=hi.form;exact⟨b,a,A',d,rfl,j,g,e,by simpa using f 0 _ rfl,f 1 _ rfl,hi⟩
def awn{xs:List It}(h:acK w Z hi xs [.slice A n c]){x:It}(g:xs[k]?=some x) :
  ∃b a,A=some ⟨b,a,none⟩/\Z<=b/\b<hi/\(cA x.n/\x.b.size<=maxLen)/\w.cell? ⟨b,a+k*2,none⟩=some (.int .i64 x.n)/\w.cell? ⟨b,a+k*2+1,none⟩=some (.string x.b):=by
 obtain⟨b,a,l,rfl,i,f,j,⟨rfl,d⟩,e⟩:=h.1.at_ g;exact⟨b,a,rfl,i,f,d,by simpa using e 0 _ rfl,e 1 _ rfl⟩
def eI.len_{xs:List U}(h:eI e E Z w W hi xs [.slice A n c]):n=xs.length/\n<=c/\c<=maxLen:=h.1.len_
def aa4(p:Pk):List Sp:=p.its.map λx=>⟨x.n,p.no⟩
def ed(l:List Pk):List Sp:=l.flatMap aa4
def IOf(l:List Pk)(r:List Sp):Prop:=((∀s∈ed l,spP s)/\r=fD (ed l) [])\/((¬ ∀s∈ed l,spP s)/\r=[])
def akT{l:List Pk}{x:Pk}(h:l[k]?=some x):ed (l.take (k+1))=ed (l.take k)++aa4 x:=by
 rw[lE h];unfold ed;rw[tw];simp
def cP(l:List Pk)(k j:Nat):List Sp:=ed (l.take k)++((l[k]?.map λp=>(aa4 p).take j).getD [])
def ab2(l:List Pk)(k:Nat):cP l k 0=ed (l.take k):=by
 unfold cP;cases l[k]?<;>simp
def ahb{l:List Pk}{x:Pk}{y:It}(h:l[k]?=some x)(a:x.its[j]?=some y):cP l k (j+1)=cP l k j++[⟨y.n,x.no⟩]:=by
 unfold cP;rw[h];simp only[qr,qo];rw[tf]
 congr 1
 refine lE (k:=j) ?_;unfold aa4;rw[qN,a];rfl
def aiO{l:List Pk}{x:Pk}(h:l[k]?=some x):cP l k x.its.length=ed (l.take (k+1)):=by
 rw[akT h];unfold cP;rw[h];simp only[qr,qo]
 congr 1
 unfold aa4;exact oS (by rw[qh];exact am _)
def aiP{l:List Pk} :∀s∈cP l k j,s∈ed l:=λs a=>by
 unfold cP at a;rcases oE.1 a with h|h
 .obtain⟨p,c,a⟩:=sJ.1 h;exact sJ.2 ⟨p,pr c,a⟩
 .cases b:l[k]? with
  |none=>rw[b] at h;cases h
  |some x=>
   rw[b] at h;exact sJ.2 ⟨x,db b,pr h⟩
def aiQ{l:List Pk}{x:Pk}(h:l[k]?=some x):(cP l k j).length<=(ed l).length:=by
 have a:ed l=ed (l.take k)++ed (l.drop k):=by
  unfold ed;rw[<-tw,vX]
 rw[a];unfold cP;rw[h,aE,aE];have:l.drop k=x::l.drop (k+1):=by
  rw[rZ (aB h)]
  congr 1
  exact(qu.1 h).2
 rw[this];unfold ed;rw[List.flatMap_cons,aE];simp only[qr,qo,eg];omega
def IOf.ix{l:List Pk}{r:List Sp}(h:IOf l r):ixP r:=by
 rcases h with⟨h,rfl⟩|⟨_,rfl⟩
 .exact aiN aqG h
 .exact aqG
end
section
variable {β:Bool}
open Go.RowKit
def af7(key:Int)(x:It):Prop:=∃p,nI (bs x.b)=some p/\cY key p=x.n
def aub(p:Prop):∃b:Bool,b=true↔p:=by
 by_cases h:p
 .exact⟨true,by simp[h]⟩
 .exact⟨false,by simp[h]⟩
end
section
variable {β:Bool}
open Go.RowKit
def Rd(w:World)(lo hi g:Nat)(l:List Int)(p:Nat):Prop:=
 ∃A c,aX w g 75 #[.slice A l.length c,.int .i64 p]/\l.length<=2000/\bC jK 1 w lo hi l [.slice A l.length c]/\hi<=g
def axw(n v:Int):Prop:=(n<1->v=0)/\(1<=n->0<=v/\v<n)
def aqI(w:World)(lo hi g:Nat)(l:List Int)(p:Nat)(n:Int)(e:Ending)(w':World):Prop:=
 ∃v:Int,e=.returned (.int .i64 v)/\axw n v/\Rd w' lo hi g l (p+1)/\aZ (λb=>b=g) w w'
def Rd.eZ{p:Nat}(h:Rd w Z hi g l p)(f:aZ S w w')(e:∀b,b<hi\/b=g->¬S b):Rd w' Z hi g l p:=by
 obtain⟨A,c,d,i,k,m⟩:=h;have a:=d.lt;exact⟨A,c,(f.block g a (e g (.inr rfl))).trans d,i,(bC.loc jK.loc).go (λb _ j=>f.block b (by omega) (e b (.inl j))) (am _) (am _) k,m⟩
def Rd.lt{p:Nat}(h:Rd w Z hi g l p):g<w.heap.size:=by
 obtain⟨A,c,a,_⟩:=h;exact a.lt
def Rd.drew{p:Nat}(h:Rd w Z hi g l p):Rd w.drew Z hi g l p:=h.eZ ((aZ.refl (λ_=>False) _).drew) (λ_ _ h=>h)
def Rd.alloc{p:Nat}(h:Rd w Z hi g l p)(o:Obj):Rd (w.alloc o) Z hi g l p:=h.eZ ((aZ.refl (λ_=>False) _).alloc o) (λ_ _ h=>h)
def auc{p:Nat}(h:Rd w Z hi g l p)(n:Int)(j:n=(p:Int)+1):Rd (w.setCell ⟨g,1,none⟩ (.int .i64 n)) Z hi g l (p+1):=by
 obtain⟨A,c,f,a,d,e⟩:=h;refine⟨A,c, ?_,a, ?_,e⟩
 .have:=f.bc 1 (.int .i64 n);rw[j] at this ⊢;exact this
 .refine(bC.loc jK.loc).go (λb _ i=> ?_) (am _) (am _) d;exact io _ _ _ _ (by show b≠g;omega)
def af8(a:Nat)(b:a<9223372036854775808):(BitVec.ofInt 64 (a:Int)).toNat=a:=by
 rw[BitVec.ofInt_natCast,BitVec.toNat_ofNat];exact Nat.mod_eq_of_lt (by omega)
def akU(a b:Int)(d:0<=a)(f:a<9223372036854775808)(e:0<=b)(c:b<9223372036854775808):0<=bits .xor .i64 a b:=by
 obtain⟨a,rfl⟩:=qk d;obtain⟨b,rfl⟩:=qk e;have g:a ^^^ b<2 ^ 63:=Nat.xor_lt_two_pow (by omega) (by omega);show 0<=IntKind.i64.wrap ((BitVec.ofInt 64 (a:Int) ^^^ BitVec.ofInt 64 (b:Int)).toNat:Int);rw[BitVec.toNat_xor,af8 a (by omega),af8 b (by omega),uH];omega
def dm(w:World)(B hi g:Nat)(l:List Int)(p:Nat)(n:Int)(h:Rd w B hi g l p)(S:p<=1099511627776) :
  Calls (ai β) 28 #[.pointer (some ⟨g,0,none⟩),.int .i64 n] w (aqI w B hi g l p n):=by
 have a:=λn z=>auc h n z;obtain⟨A,c,o,T,s,N⟩:=h;have I:=o.cell 0;have G:=o.cell 1;have O:=o.frozen 1;simp at I G;by_cases z:n<1
 .go_enter xd,ntmps28;go_wp2;go_ret;exact⟨0,rfl,⟨λ_=>rfl,λh=>absurd h (by omega)⟩,a _ rfl,(aZ.refl (λb=>b=g) _).setCell (p:=⟨g,1,none⟩) (.inl rfl) _⟩
 by_cases d:l.length=0
 .have f:((l.length:Int) ==0)=true:=by rw[nf];omega
  replace d:=ab d;go_enter xd,ntmps28;go_wp2;go_ret;exact⟨0,rfl,⟨λ_=>rfl,λh=>⟨by omega,by omega⟩⟩,a _ rfl,(aZ.refl (λb=>b=g) _).setCell (p:=⟨g,1,none⟩) (.inl rfl) _⟩
 by_cases E:p<l.length
 .obtain⟨x,i⟩:=aq E;obtain⟨b,r,rfl,u,t,j,q⟩:=s.aew i;have V:=ab i;have m:b≠g:=by omega
  have f:((l.length:Int) ==0)=false:=by rw[dk];omega
  go_enter xd,ntmps28;go_wp2;go_ret;exact⟨x % n,rfl,⟨λh=>absurd h (by omega),λh=>⟨vS _ (by omega),vj _ (by omega)⟩⟩,a _ rfl,(aZ.refl (λb=>b=g) _).setCell (p:=⟨g,1,none⟩) (.inl rfl) _⟩
 .have f:((l.length:Int) ==0)=false:=by rw[dk];omega
  obtain⟨x,i⟩:=aq (l:=l) (k:=p % l.length) (tT _ (by omega));obtain⟨y,H⟩:=aq (l:=l) (k:=(p*7+3) % l.length) (tT _ (by omega));obtain⟨b,r,rfl,u,t,j,C⟩:=s.aew i;obtain⟨M,v,e,_,_,D,F⟩:=s.aew H;simp only[me,qA,qw] at e;obtain⟨rfl,rfl⟩:=e;have m:b≠g:=by omega
  have U:p % l.length<l.length:=tT _ (by omega);have L:(p*7+3) % l.length<l.length:=tT _ (by omega);have P:0<=((p:Int)*7+3) % (l.length:Int):=vS _ (by omega);have W:((p:Int)*7+3) % (l.length:Int)<(l.length:Int):=vj _ (by omega);have R:(((p:Int)*7+3) % (l.length:Int)).toNat=(p*7+3) % l.length:=by
   have:((p:Int)*7+3) % (l.length:Int)=(((p*7+3) % l.length:Nat):Int):=rfl;rw[this];rfl
  have Q:0<=(p:Int) / (l.length:Int):=Int.ediv_nonneg (by omega) (by omega);have K:(p:Int) / (l.length:Int)<=p:=Int.ediv_le_self _ (by omega);go_enter xd,ntmps28;go_wp2;have J:=akU (x*131+y*1117+(p:Int)*29+(p:Int) / (l.length:Int)*53) ((x*131+y*1117+(p:Int)*29+(p:Int) / (l.length:Int)*53) / 64) (by omega) (by omega) (by omega) (by omega)
  go_quiet (fail)
  go_wp2;go_ret;exact⟨_,rfl,⟨λh=>absurd h (by omega),λh=>⟨vS _ (by omega),vj _ (by omega)⟩⟩,
   (a _ rfl).eZ ((aZ.refl (λ_=>False) _).drewN nq) (λ_ _ h=>h),((aZ.refl (λb=>b=g) _).setCell (p:=⟨g,1,none⟩) (.inl rfl) _).drewN nq⟩
def aqJ(w:World)(lo hi:Nat)(l:List Int)(e:Ending)(w':World):Prop:=
 ∃g,e=.returned (.pointer (some ⟨g,0,none⟩))/\Rd w' lo hi g (l.take 2000) 0/\w.heap.size<=g/\Below w.heap.size w w'
def bC.cut{xs:List U}(h:bC E Z w W hi xs [.slice A n c])(q:m<=n):bC E Z w W hi (xs.take m) [.slice A m c]:=by
 obtain⟨A',p,a,r,k,g⟩:=h;simp only[qi,nF,qw] at a;obtain⟨rfl,rfl,rfl⟩:=a;have f:(xs.take m).length=m:=by rw[eg];omega
 refine⟨A,c,by rw[f],by omega,k,λo=> ?_⟩;obtain⟨b,d,rfl,l,j,e⟩:=g (by omega);refine⟨b,d,rfl,l,j,λi x hi=>e i x ?_⟩;have:=aB hi;rw[tv (by omega)] at hi;exact hi
def aqK(l:List Int)(A:Option Addr)(n c:Nat)(w:World)(f hi:Nat)(h:bC jK 1 w f hi l [.slice A n c])(d:hi<=w.heap.size) :
  Calls (ai β) 10 #[.slice A n c] w (aqJ w f hi l):=by
 obtain⟨rfl,j,g⟩:=h.len_;unfold maxLen at g;by_cases i:2000<l.length
 .have b:=h.cut (m:=2000) (by omega);have a:(l.take 2000).length=2000:=by rw[eg];omega
  go_enter yk,ntmps10;go_wp2;go_ret;refine⟨_,rfl,⟨A,c, ?_,by omega, ?_,d⟩,am _,(fd _ _).alloc (am _) _⟩
  .rw[a];exact aX.new _ _ _
  .rw[a];exact Lcy.below (bC.loc jK.loc) b ((fd _ _).alloc (am _) _) d
 .have a:l.take 2000=l:=oS (by omega);have e:=ab a;go_enter yk,ntmps10;go_wp2;go_ret;refine⟨_,rfl,⟨A,c, ?_,by rw[e.out];omega, ?_,d⟩,am _,(fd _ _).alloc (am _) _⟩
  .rw[e.out];exact aX.new _ _ _
  .rw[e.out];exact Lcy.below (bC.loc jK.loc) h ((fd _ _).alloc (am _) _) d
end
section
variable {β:Bool}
open Go.RowKit
structure aqL (w:World) (lo hi g:Nat) (l:List Int) (N:Nat) where
 to:World
 q:Nat
 rd:Rd to lo hi g l q
 ok:aZ (λb=>b=g) w to
 lim:q<=N
section
variable {w:World} {lo hi g:Nat} {l:List Int} {N:Nat}
instance awo:bg (aqL w lo hi g l N):=⟨λm x=>x.q+m<=N,λ_ _ h=>sx h,λ_ _=>True⟩
variable {P:Program}
variable {ops:Array Oper} {Qt:Act->World->Prop} {i:Nat} {o:Oper} {L:List (Nat×Oper)} {F:List (Nat×(aqL w lo hi g l N->Prop))} {Rs:List (iu (aqL w lo hi g l N))} {a:Act}
end
end
section
variable {β:Bool}
open Go.RowKit
def Rd.hi_{p:Nat}(h:Rd w Z hi g l p):hi<=g:=by
 obtain⟨A,c,_,_,_,a⟩:=h;exact a
structure aK (w:World) (lo hi g:Nat) (l:List Int) (N s ia ic bk:Nat) (fx:Bool) (ty:TypeId) (n:Nat) (S:Nat->Prop) (pre:List Nat) where
 to:World
 q:Nat
 box:Option Nat
 done:Bool
 res:Option Value
 rd:Rd to lo hi g l q
 ok:aZ (λb=>b=g\/box=some b\/(done=true/\S b)) w to
 lim:q<=N
 bw:∀b,box=some b->b=bk\/w.heap.size<=b
 bf:fx=true->box=some bk
 sf:∀b,S b->b≠g/\hi<=b/\b≠bk/\b<w.heap.size
 bx:∀b,box=some b->b≠g/\hi<=b/\∃cs:Array Value,cs.size=n/\aX to b ty cs
section
variable {w:World} {lo hi g:Nat} {l:List Int} {N s ia ic bk:Nat} {fx:Bool} {ty:TypeId} {n:Nat} {S:Nat->Prop} {pre:List Nat}
instance awp:bg (aK w lo hi g l N s ia ic bk fx ty n S pre):=⟨λm x=>x.q+m<=N,λ_ _ h=>sx h,λi x=>(i=s\/i∈pre->x.done=false)/\(i=ia->x.box=none)/\(i=ic->x.res=none)⟩
structure aK.le (x y:aK w lo hi g l N s ia ic bk fx ty n S pre):Prop where
 eZ:aZ (λb=>b=g\/(x.done=false/\(x.box=some b\/S b))) x.to y.to
 done:x.done=true->y.done=true
 box:∀b,x.box=some b->y.box=some b
 fresh:∀b,x.box=none->y.box=some b->x.to.heap.size<=b
 res:∀v,x.res=some v->y.res=some v
def aK.le_refl(x:aK w lo hi g l N s ia ic bk fx ty n S pre):aK.le x x:=⟨aZ.refl _ _,id,λ_ h=>h,λb c a=>(by rw[c] at a;cases a),λ_ h=>h⟩
def aK.free(x:aK w lo hi g l N s ia ic bk fx ty n S pre)(b:Nat):Prop:=b<x.to.heap.size/\b≠g/\x.box≠some b/\¬S b
def aK.le.free{x y:aK w lo hi g l N s ia ic bk fx ty n S pre}(h:aK.le x y)(a:x.free b):y.free b:=by
 refine⟨bd a.1 h.eZ.size,a.2.1,λe=> ?_,a.2.2.2⟩;cases d:x.box with
 |none=>have:=h.fresh b d e;have:=a.1;omega
 |some c=>
  have:=h.box c d;rw[e] at this;cases this;exact a.2.2.1 d
def aK.le.not{x y:aK w lo hi g l N s ia ic bk fx ty n S pre}(_:aK.le x y)(a:x.free b):¬(b=g\/(x.done=false/\(x.box=some b\/S b))):=by
 rintro(rfl|⟨_,h|h⟩)
 .exact a.2.1 rfl
 .exact a.2.2.1 h
 .exact a.2.2.2 h
def aK.le.full{x y:aK w lo hi g l N s ia ic bk fx ty n S pre}(h:aK.le x y)(a:x.done=true)(e:x.box=some b)(c:aX x.to b t cs):y.done=true/\y.box=some b/\aX y.to b t cs:=by
 refine⟨h.done a,h.box b e,(h.eZ.block b c.lt ?_).trans c⟩;rintro(rfl|⟨d,_⟩)
 .exact(x.bx _ e).1 rfl
 .rw[a] at d;cases d
def aa5(h:w.cell? p=some v){x:aK w lo hi g l N s ia ic bk fx ty n S pre}(c:p.block≠g)(b:p.block≠bk)(d:¬S p.block):x.to.cell? p=some v:=by
 have a:=tA w p h;have b:x.box≠some p.block:=λe=>by
  rcases x.bw _ e with h|h
  .exact b h
  .omega
 unfold World.cell? at h ⊢;rw[x.ok.block p.block a (by
  rintro(h|h|⟨_,h⟩)
  .exact c h
  .exact b h
  .exact d h)]
 exact h
def akV     (k q:Nat) (t d:List Nat) (u:P.follows .mixedOrders=true) (H:ag6 M k t d=true) (v:adz M.toArray k X.tmps.size=true)
  (D:Rd w lo hi g l q) (I:q+k<=N) (a:Option Nat) (C:∀b,a=some b->b=bk) (p:fx=true->a=some bk) (o:∀b,S b->b≠g/\hi<=b/\b≠bk/\b<w.heap.size) (j:∀b,a=some b->b≠g/\hi<=b/\∃c:Array Value,c.size=n/\aX w b ty c) (r:a=none\/k<=ia)
  (h:wpQuiet P M.toArray (λy=>∃x:aK w lo hi g l N s ia ic bk fx ty n S pre,y=x.to) (λG=>∃F:List (iu (aK w lo hi g l N s ia ic bk fx ty n S pre)),cK P M.toArray (aK.to (w:=w)) (aK.le (w:=w)) (wpList P M.toArray Q (M.drop k)) (pick M d) [] F G) ((pick M t).map (·.2)) X):(Code.region Z M.toArray true).wp P Q X w:=
 nM (aK.to (w:=w)) (aK.le (w:=w)) aK.le_refl k t d u H v
  ⟨w.drew,q,a,false,none,D.drew,(aZ.refl _ _).drew,by omega,λb f=>.inl (C b f),p,o,λb f=>by
   obtain⟨B,z,c,E,A⟩:=j b f;exact⟨B,z,c,E,A⟩⟩ (λm u=>by show q+m<=N;omega) (λi hi=>And.intro (λ_=>rfl) (And.intro (λe=>by
   rcases r with h|h
   .exact h
   .omega) λ_=>rfl)) rfl h
def aK.on(x:aK w lo hi g l N s ia ic bk fx ty n S pre){w2:World}(hb:Below x.to.heap.size x.to w2):aK w lo hi g l N s ia ic bk fx ty n S pre:=
 ⟨w2,x.q,x.box,x.done,x.res,x.rd.eZ (aZ.aM (S:=λ_=>False) hb) (λ_ _ h=>h),x.ok.trans (aZ.aM (S:=λb=>b=g\/x.box=some b\/(x.done=true/\S b)) hb) λ_ _ e=>e,x.lim,x.bw,x.bf,x.sf,λb h=>by
  obtain⟨f,a,d,i,c⟩:=x.bx b h;exact⟨f,a,d,i,ah c hb⟩⟩
def aK.told(x:aK w lo hi g l N s ia ic bk fx ty n S pre){w2:World}(hb:Below x.to.heap.size x.to w2)(v:Value):aK w lo hi g l N s ia ic bk fx ty n S pre:={x.on hb with res:=some v}
def aK.aud(x:aK w lo hi g l N s ia ic bk fx ty n S pre)(a:Below x.to.heap.size x.to w2)(v:Value)(d:x.res=none):aK.le x (x.told a v):=⟨aZ.aM a,id,λ_ h=>h,λb e c=>(by
 have:x.box=some b:=c;rw[e] at this;cases this),λu h=>by rw[d] at h;cases h⟩
def aK.took(x:aK w lo hi g l N s ia ic bk fx ty n S pre){w2:World}(hr:Rd w2 lo hi g l (x.q+1))(hc:aZ (λb=>b=g) x.to w2)(hl:x.q+1<=N):aK w lo hi g l N s ia ic bk fx ty n S pre:=
 ⟨w2,x.q+1,x.box,x.done,x.res,hr,x.ok.trans (hc.mono λb _ h=>.inl h) λ_ _ e=>e,hl,x.bw,x.bf,x.sf,λb h=>by
  obtain⟨a,c,f,i,d⟩:=x.bx b h;exact⟨a,c,f,i,aO d hc a⟩⟩
def aK.aue(x:aK w lo hi g l N s ia ic bk fx ty n S pre)(e:Rd w2 lo hi g l (x.q+1))(a:aZ (λb=>b=g) x.to w2)(c:x.q+1<=N):aK.le x (x.took e a c):=⟨a.mono λb _ h=>.inl h,id,λ_ h=>h,λb f d=>(by
 have:x.box=some b:=d;rw[f] at this;cases this),λ_ h=>h⟩
def aK.made(x:aK w lo hi g l N s ia ic bk fx ty n S pre)(hx:x.box=none)(cs:Array Value)(hn:cs.size=n)(hg:hi<=x.to.heap.size):aK w lo hi g l N s ia ic bk fx ty n S pre:=
 ⟨x.to.alloc (.cells cs ty),x.q,some x.to.heap.size,x.done,x.res,x.rd.alloc _,(x.ok.mono λb _ h=>by rw[hx] at h;exact h.elim .inl λh=>h.elim (λh=>by cases h) λh=>.inr (.inr h)).alloc _,x.lim,λb h=>(by cases h;exact .inr x.ok.size),λh=>(by rw[x.bf h] at hx;cases hx),x.sf,λb h=>by
  cases h;exact⟨Nat.ne_of_gt x.rd.lt,hg,cs,hn,aX.new _ _ _⟩⟩
def aK.auf(x:aK w lo hi g l N s ia ic bk fx ty n S pre)(a:x.box=none)(cs:Array Value)(e:cs.size=n)(c:hi<=x.to.heap.size):aK.le x (x.made a cs e c):=⟨(aZ.refl _ _).alloc _,id,λb h=>(by rw[a] at h;cases h),λb _ d=>(by
 have:some x.to.heap.size=some b:=d;cases this;exact am _),λ_ h=>h⟩
def aK.fill(x:aK w lo hi g l N s ia ic bk fx ty n S pre){b:Nat}(hx:x.box=some b){w2:World}(hc:aZ (λc=>c=b) x.to w2){cs:Array Value}(hn:cs.size=n)(hk:aX w2 b ty cs):aK w lo hi g l N s ia ic bk fx ty n S pre:=
 ⟨w2,x.q,x.box,true,x.res,x.rd.eZ hc (λc h e=>by
  obtain⟨a,d,_⟩:=x.bx b hx;rcases h with h|h
  .omega
  .exact a (e▸h)),(x.ok.mono (T:=λb=>b=g\/x.box=some b\/(true=true/\S b)) λc _ h=>h.elim .inl λh=>h.elim (λh=>.inr (.inl h)) λh=>.inr (.inr ⟨rfl,h.2⟩)).trans (hc.mono λc _ h=>.inr (.inl (by rw[hx,h]))) λ_ _ e=>e,x.lim,x.bw,x.bf,x.sf,λc h=>by
  rw[hx] at h;cases h;exact⟨(x.bx _ hx).1,(x.bx _ hx).2.1,cs,hn,hk⟩⟩
def aK.aug(x:aK w lo hi g l N s ia ic bk fx ty n S pre)(a:x.box=some b)(e:aZ (λc=>c=b) x.to w2)(j:cs.size=n)(i:aX w2 b ty cs)(f:x.done=false):aK.le x (x.fill a e j i):=
 ⟨e.mono λc _ h=>.inr ⟨f,.inl (by rw[a,h])⟩,λ_=>rfl,λ_ h=>h,λc d k=>(by rw[a] at d;cases d),λ_ h=>h⟩
variable {P:Program} {ops:Array Oper} {Qt:Act->World->Prop} {i:Nat} {o:Oper} {L:List (Nat×Oper)} {F:List (Nat×(aK w lo hi g l N s ia ic bk fx ty n S pre->Prop))} {Rs:List (iu (aK w lo hi g l N s ia ic bk fx ty n S pre))} {a:Act}
def am2 (R:Value->Prop) (c:o.dst.isSome=true)
  (j:∀x:aK w lo hi g l N s ia ic bk fx ty n S pre,aaZ F o x->∀b:Exit->Act->World->Prop,(∀v,R v->b .normal (a.put o.dst v) x.to)->wpList P ops b [o] a x.to)
  (e:∀v,cK P ops (aK.to (w:=w)) (aK.le (w:=w)) Qt L ((i,λ_=>R v)::F) Rs (a.put o.dst v)):cK P ops (aK.to (w:=w)) (aK.le (w:=w)) Qt ((i,o)::L) F (.any (λv _=>R v)::Rs) a:=
 kP (to:=aK.to (w:=w)) (le:=aK.le (w:=w)) (λv _=>R v) (.inl c) (λ_ _ _ h _=>h) (λx p m d q b k=>j x p b λv f=>
  k v x (aK.le_refl x) (sx d) (λ_ _ _ h=>h) f) e
def auh (R:Value->Prop) (j:o.dst.isSome=true)
  (z:∀x:aK w lo hi g l N s ia ic bk fx ty n S pre,aaZ F o x->x.q<N->∀c:Exit->Act->World->Prop,(∀v d,Rd d lo hi g l (x.q+1)->aZ (λb=>b=g) x.to d->R v->c .normal (a.put o.dst v) d)->wpList P ops c [o] a x.to)
  (p:∀v,cK P ops (aK.to (w:=w)) (aK.le (w:=w)) Qt L ((i,λ_=>R v)::F) Rs (a.put o.dst v)):cK P ops (aK.to (w:=w)) (aK.le (w:=w)) Qt ((i,o)::L) F (.any (λv _=>R v)::Rs) a:=
 kP (to:=aK.to (w:=w)) (le:=aK.le (w:=w)) (λv _=>R v) (.inl j) (λv x y h _=>h) (λx r m t A c q=>by
  have k:x.q+(m+1)<=N:=t;exact z x r (by omega) c λv d e f u=>
   q v (x.took e f (by omega)) (x.aue e f (by omega)) (by show x.q+1+m<=N;omega) (λ_ _ _ h=>h) u) p
def aui (R:Value->aK w lo hi g l N s ia ic bk fx ty n S pre->Prop) (p:o.dst.isSome=true) (hi':i=ic) (t:∀v x y,R v x->aK.le x y->R v y)
  (D:∀x:aK w lo hi g l N s ia ic bk fx ty n S pre,aaZ F o x->∀d:Exit->Act->World->Prop,(∀v f (c:Below x.to.heap.size x.to f),R v (x.told c v)->d .normal (a.put o.dst v) f)->wpList P ops d [o] a x.to)
  (r:∀v,cK P ops (aK.to (w:=w)) (aK.le (w:=w)) Qt L ((i,λx=>R v x/\x.res=some v)::F) Rs (a.put o.dst v)):cK P ops (aK.to (w:=w)) (aK.le (w:=w)) Qt ((i,o)::L) F (.any (λv x=>R v x/\x.res=some v)::Rs) a:=
 kP (to:=aK.to (w:=w)) (le:=aK.le (w:=w)) (λv x=>R v x/\x.res=some v) (.inl p) (λv x y h k=>⟨t v x y h.1 k,k.res v h.2⟩) (λx z m A q d u=>D x z d λv f c B=>
  u v (x.told c v) (x.aud c v (q.2.2 hi')) (sx A) (λj C _ b=>⟨b.1,b.2.1,λe=>absurd (e.trans hi'.symm) C⟩) ⟨B,rfl⟩) r
def ahc (R:Value->Value->Prop) (c:o.dst.isSome=true)
  (q:∀x:aK w lo hi g l N s ia ic bk fx ty n S pre,aaZ F o x->∀b:Exit->Act->World->Prop,(∀v u,x.res=some u->R v u->b .normal (a.put o.dst v) x.to)->wpList P ops b [o] a x.to)
  (d:∀v,cK P ops (aK.to (w:=w)) (aK.le (w:=w)) Qt L ((i,λx=>∃u,x.res=some u/\R v u)::F) Rs (a.put o.dst v)):cK P ops (aK.to (w:=w)) (aK.le (w:=w)) Qt ((i,o)::L) F (.any (λv x=>∃u,x.res=some u/\R v u)::Rs) a:=
 kP (to:=aK.to (w:=w)) (le:=aK.le (w:=w)) (λv x=>∃u,x.res=some u/\R v u) (.inl c) (λ_ _ _ ⟨u,h,hr⟩ hl=>⟨u,hl.res u h,hr⟩) (λx j m k r b f=>q x j b λv u e p=>
  f v x (aK.le_refl x) (sx k) (λ_ _ _ h=>h) ⟨u,e,p⟩) d
def aqM (q:o.dst.isSome=true) (hi':i=ia) (t:ia≠s) (z:hi<=w.heap.size) (cs:Array Value) (p:cs.size=n)
  (D:∀x:aK w lo hi g l N s ia ic bk fx ty n S pre,∀k:Exit->Act->World->Prop,(k .normal (a.put o.dst (.pointer (some ⟨x.to.heap.size,0,none⟩))) (x.to.alloc (.cells cs ty)))->wpList P ops k [o] a x.to)
  (u:∀v,cK P ops (aK.to (w:=w)) (aK.le (w:=w)) Qt L ((i,λx=>∃b,v=.pointer (some ⟨b,0,none⟩)/\w.heap.size<=b/\x.box=some b)::F) Rs (a.put o.dst v)):cK P ops (aK.to (w:=w)) (aK.le (w:=w)) Qt ((i,o)::L) F (.any (λv x=>∃b,v=.pointer (some ⟨b,0,none⟩)/\w.heap.size<=b/\x.box=some b)::Rs) a:=
 kP (to:=aK.to (w:=w)) (le:=aK.le (w:=w)) (λv x=>∃b,v=.pointer (some ⟨b,0,none⟩)/\w.heap.size<=b/\x.box=some b) (.inl q) (λv x y ⟨b,e,hb,h⟩ hle=>⟨b,e,hb,hle.box b h⟩) (λx E m B r k A=>by
  have d:=r.2.1 hi';have f:hi<=x.to.heap.size:=ap z x.ok.size;refine D x k (A _ (x.made d cs p f) (x.auf d cs p f) (sx B) (λj C _ c=>⟨c.1,λe=>absurd (e.trans hi'.symm) C,c.2.2⟩) ⟨_,rfl,x.ok.size,rfl⟩)) u
def aqN (R:aK w lo hi g l N s ia ic bk fx ty n S pre->Prop) (hi':i=s) (u:∀j∈pre,Behind ops i j) (K:∀x y,R x->aK.le x y->R y)
  (I:∀x:aK w lo hi g l N s ia ic bk fx ty n S pre,aaZ F o x->x.done=false->∀k:Exit->Act->World->Prop,(∀b (A:x.box=some b) q (r:aZ (λc=>c=b) x.to q) (t:Array Value) (p:t.size=n) (f:aX q b ty t),R (x.fill A r p f)->k .normal (a.put o.dst undef) q)->wpList P ops k [o] a x.to)
  (E:o.dst=none)
  (G:cK P ops (aK.to (w:=w)) (aK.le (w:=w)) Qt L ((i,λx=>R x)::F) Rs (a.put o.dst undef)):cK P ops (aK.to (w:=w)) (aK.le (w:=w)) Qt ((i,o)::L) F (.any (λ_ x=>R x)::Rs) a:=
 kP (to:=aK.to (w:=w)) (le:=aK.le (w:=w)) (λ_ x=>R x) (.inr λ_ _ _ h=>h) (λ_ x y h B=>K x y h B) (λx A m M D k H=>I x A (D.1 (.inl hi')) k λb d q r t p f J=>by
  exact H undef (x.fill d r p f) (x.aug d r p f (D.1 (.inl hi'))) (sx M) (λj O C z=>⟨λe=>e.elim (λe=>absurd (e.trans hi'.symm) O) λe=>absurd (u j e) C,z.2⟩) J) (λv=>by
  have e:a.put o.dst v=a.put o.dst undef:=by rw[E];rfl
  rw[e];exact G)
def axx(h:∀x:aK w lo hi g l N s ia ic bk fx ty n S pre,dV F x->Qt a x.to):cK P ops (aK.to (w:=w)) (aK.le (w:=w)) Qt [] F [] a:=adU h
end
end
section
variable {β:Bool}
open Go.RowKit
def iy:Flat ByteArray:=⟨1,λs=>[.string s],λs=>s.size<=maxLen,λ_=>rfl,λs u a=>by rw[ph.1 a];rfl,by decide⟩
abbrev dA:fW (List ByteArray):=eI 9 (bU iy) 1
def dA.ar:dI dA [9]:=eI.ar (bU.ar iy)
def ab3:ir (ai β) 83 9 1 16:=ir.mk' yT (z:=.string ⟨#[]⟩) (by kernel_rfl) rfl (by decide) (by decide)
def lD(h:dA w Z hi xs [.slice A n c]){x:ByteArray}(f:xs[k]?=some x) :
  ∃b a,A=some ⟨b,a,none⟩/\Z<=b/\b<hi/\x.size<=maxLen/\w.cell? ⟨b,a+k,none⟩=some (.string x):=by
 obtain⟨b,a,l,rfl,g,e,j,⟨rfl,d⟩,i⟩:=h.1.at_ f;exact⟨b,a,rfl,g,e,d,by simpa using i 0 _ rfl⟩
def Rd.blk{p:Nat}(h:Rd w Z hi g l p):∃b,aX w g 75 b:=by
 obtain⟨A,c,a,_⟩:=h;exact⟨_,a⟩
def auj{eY hi' : Nat}{p:Nat}{cs:List Value}(h:dA w eY hi' xs cs)(c:Rd w Z hi g l p)(d:aZ (λb=>b=g) w w'):dA w' eY hi' xs cs:=
 dA.ar.eZ h d λb _ _ ⟨t,ht,ds,hd⟩ e=>by
  obtain⟨f,a⟩:=c.blk;subst e;have:=cL hd a;rw[ph.1 ht] at this;exact absurd this (by decide)
def ahd(h:xs.all (λs=>decide (s.size<=9))=true):∀s∈xs,s.size<=9:=λs a=>sZ (lw.1 h s a)
def nP(h:xs.all (λs=>decide (s.size<=9))=true):∀s∈xs,iy.good s:=λs a=>by
 have:=ahd h s a;show s.size<=maxLen;unfold maxLen;omega
def axy(xs:List ByteArray)(w:World)(lo hi g:Nat)(l:List Int)(p:Nat)(e:Ending)(w':World):Prop:=∃s∈xs,e=.returned (.string s)/\Rd w' lo hi g l (p+1)/\aZ (λb=>b=g) w w'
def ahe(xs:List ByteArray)(B:0<xs.length/\xs.length<=100)(v:Value)(l:List Int)(g p n hi eY hi':Nat)(w:World)(j:Rd w n hi g l p)(z:p<=1000000)(h:dA w eY hi' xs [v]) :
  Calls (ai β) 34 #[.pointer (some ⟨g,0,none⟩),v] w (axy xs w n hi g l p):=by
 obtain⟨A,c,rfl⟩:=h.form;go_enter zP,ntmps34;go_wp2;refine(dm _ _ _ _ _ _ _ j (by omega)).mono ?_;rintro e x ⟨m,rfl,⟨_,u⟩,i,a⟩;obtain⟨o,C⟩:=u (by omega);obtain⟨k,rfl⟩:=qk o;obtain⟨s,d⟩:=aq (l:=xs) (k:=k) (by omega);have q:=auj h j a;obtain⟨b,t,rfl,_,_,r,f⟩:=lD q d;replace d:=ab d;have y:k<xs.length:=by omega
 go_wp2;go_ret;exact⟨s,db d.out,rfl,i,a⟩
def aow(w:World)(lo hi g:Nat)(l:List Int)(p:Nat)(e:Ending)(w':World):Prop:=∃s q,e=.returned (.string s)/\s.size<=9/\Rd w' lo hi g l q/\q<=p+3/\aZ (λb=>b=g) w w'
def aox(xs:List ByteArray)(s:ByteArray)(v:Value)(w:World)(t hi:Nat)(h:dA w t hi xs [v])(b:Bool)(d:b=true↔s∈xs) :
  Calls (ai β) 79 #[v,.string s] w λe p=>e=.returned (.bool b)/\w=p:=by
 replace d:=ab d;obtain⟨A,c,rfl⟩:=h.form;obtain⟨_,z,r⟩:=h.len_;unfold maxLen at r;go_enter zl,ntmps79;go_wp2
 go_loop [5] (λi=>∃k:Nat,k<=xs.length/\i=.int .i64 k/\s∉xs.take k) (λi=>xs.length-(intOf i).toNat)
 case atStart=>exact⟨0,fa _,rfl,by simp⟩
 case round=>
  obtain⟨k,y,rfl,f⟩:=hrel;replace f:=ab f;by_cases g:k<xs.length
  .obtain⟨x,a⟩:=aq g;obtain⟨u,q,rfl,_,_,_,m⟩:=lD h a;replace a:=ab a;by_cases o:x=s
   .subst o;have n:=db a.out;have j:=ab n;go_wp2;go_ret;exact⟨aF (by rw[eq_comm,d.out];exact j.out),rfl⟩
   .have B:=aaX o;have l:s∉xs.take (k+1):=by
     rw[lE a.out];simp[f.out,sH o]
    replace l:=ab l;go_wp2
    go_round
    case rel=>exact⟨k+1,by omega,by go_num,l.out⟩
    simp[intOf];omega
  .obtain rfl:k=xs.length:=by omega
   have n:s∉xs:=by have:=f.out;rwa [gE] at this
   have j:=ab n;go_wp2;go_ret;exact⟨aF (by rw[eq_comm,<-mT,d.out];exact j.out),rfl⟩
end
section
variable {β:Bool}
open Go.RowKit
def atF(l:List Nat)(a:Nat):Nat->Nat->Nat
 |0,_=>min (a+8) l.length
 |f+1,n=>if l.length<=a+n then l.length else if pC l (a+n)=true then a+n else atF l a f (n+1)
def atL(l:List Nat)(a:Nat):Nat:=atF l a 5 3
def aeL{l:List Nat}{a:Nat}(b:a<l.length):∀(f n:Nat),0<n->n+f<=8->a<atF l a f n/\atF l a f n<=l.length/\atF l a f n<=a+8
 |0,n,_,_=>by show a<min _ _/\min _ _<=_/\min _ _<=_;omega
 |f+1,n,h0,h8=>by
  unfold atF;split
  .omega
  .split
   .omega
   .exact aeL b f (n+1) (by omega) (by omega)
def fp{l:List Nat}{a:Nat}(b:a<l.length):a<atL l a/\atL l a<=l.length/\atL l a<=a+8:=aeL b 5 3 (by omega) (by omega)
def dG(l:List Nat):Nat->List Int->Nat->Prop
 |a,[],b=>a=b
 |a,x::xs,b=>a<l.length/\x=(atL l a:Int)/\dG l (atL l a) xs b
def dG.snoc{l:List Nat}:∀{a:Nat} {c:List Int} {b:Nat},dG l a c b->b<l.length->dG l a (c++[(atL l b:Int)]) (atL l b)
 |a,[],b,h,h1=>by
  have h:a=b:=h;subst h;exact⟨h1,rfl,rfl⟩
 |a,x::c,b,⟨h2,h3,h4⟩,h1=>⟨h2,h3,h4.snoc h1⟩
def dG.len{l:List Nat}:∀{a:Nat} {c:List Int} {b:Nat},dG l a c b->a+c.length<=b
 |a,[],b,h=>by
  have h:a=b:=h;simp;omega
 |a,x::c,b,⟨h1,_,h⟩=>by
  have:=h.len;have:=(fp h1).1;simp only[fi];omega
def dG.at_{l:List Nat}:∀{a:Nat} {d:List Int} {b k m:Nat} {x:Int},dG l a d b->dG l a (d.take k) m->d[k]?=some x->x=(atL l m:Int)/\m<l.length/\dG l a (d.take (k+1)) (atL l m)
 |a,[],b,k,m,x,_,_,c=>by simp at c
 |a,y::d,b,0,m,x,⟨h1,e,h3⟩,f,c=>by
  have f:a=m:=f;subst f;have c:y=x:=by simpa using c
  subst c;exact⟨e,h1,h1,e,rfl⟩
 |a,y::d,b,k+1,m,x,⟨h1,e,h3⟩,⟨h1',e',f⟩,c=>by
  obtain⟨j,g,i⟩:=dG.at_ h3 f (by simpa using c);exact⟨j,g,h1,e,i⟩
def dG.akE{l:List Nat}(f:l.length<=maxLen):∀{a:Nat} {d:List Int} {b:Nat},dG l a d b->∀x∈d,cA x
 |a,[],b,_,x,c=>by cases c
 |a,y::d,b,⟨h1,e,h⟩,x,c=>by
  have:=(fp h1).2.1;unfold maxLen at f;rcases pa.1 c with rfl|c
  .rw[e];unfold cA;omega
  .exact h.akE f x c
def af9(l:List Nat):Nat->Nat->List Int
 |0,_=>[]
 |f+1,a=>if a<l.length then(atL l a:Int)::af9 l f (atL l a) else[]
def dG.uniq{l:List Nat}:∀{a:Nat} {b:List Int} {f:Nat},dG l a b l.length->l.length-a<=f->b=af9 l f a
 |a,[],f,h,_=>by
  have h:a=l.length:=h;cases f with
  |zero=>rfl
  |succ f=>show[]=if _ then _ else _;rw[da (by omega)]
 |a,x::b,f,⟨h1,e,h⟩,hf=>by
  have:=(fp h1).1;cases f with
  |zero=>omega
  |succ f=>
   show x::b=if _ then _ else _
   rw[du h1,e,<-h.uniq (f:=f) (by omega)]
def adi{l:List Nat}:∀{f a:Nat},a<=l.length->l.length-a<=f->dG l a (af9 l f a) l.length
 |0,a,h1,h2=>by show a=l.length;omega
 |f+1,a,h1,h2=>by
  show dG l a (if a<l.length then(atL l a:Int)::af9 l f (atL l a) else[]) l.length;by_cases b:a<l.length
  .rw[du b];have:=fp b;exact⟨b,rfl,adi (by omega) (by omega)⟩
  .rw[da b];show a=l.length;omega
def cG(s:ByteArray):Nat->List Int->List ByteArray
 |_,[]=>[]
 |a,x::xs=>s.extract a x.toNat::cG s x.toNat xs
def aaB{s:ByteArray}{l:List Nat}:∀{a:Nat} {b:List Int} {m q:Nat},dG l a b m->cG s a (b++[(q:Int)])=cG s a b++[s.extract m q]
 |a,[],m,q,h=>by
  have h:a=m:=h;subst h;rfl
 |a,x::b,m,q,⟨_,e,h⟩=>by
  show s.extract a x.toNat::cG s x.toNat (b++[(q:Int)])=s.extract a x.toNat::(cG s x.toNat b++_);rw[e,sA,aaB h]
def nQ(s:ByteArray):∀(a:Nat) (b:List Int),(cG s a b).length=b.length
 |_,[]=>rfl
 |a,x::b=>by show(cG s x.toNat b).length+1=_;rw[nQ];rfl
def aaC(s:ByteArray):∀(c:List Int) (a:Nat),∀x∈cG s a c,x.size<=s.size
 |[],_,x,b=>by cases b
 |z::c,a,x,b=>by
  have b:x∈s.extract a z.toNat::cG s z.toNat c:=b;rcases pa.1 b with rfl|b
  .rw[<-aN,dv,qp,eg,aN];omega
  .exact aaC s c _ x b
def ki(s:ByteArray):List ByteArray:=cG s 0 (af9 (bs s) s.size 0)
def am3{xs:List Int}(h:dG (bs s) 0 xs s.size):cG s 0 xs=ki s:=by
 rw[<-aN] at h;unfold ki;rw[h.uniq (f:=s.size) (by rw[aN];omega)]
def aqO{q : Nat}(a:(bs s).all py=true)(e:m<q)(d:q<=m+8)(f:q<=s.size):bD (bs (s.extract m q)):=by
 have b:(((bs s).take q).drop m).length=q-m:=by rw[qp,eg,aN];omega
 rw[dv];refine⟨⟨by omega,by omega⟩, ?_⟩;rw[lw] at a ⊢;exact λx c=>a x (pr (uR c))
def aeM(s:ByteArray){q : Nat}(a:q<=s.size):(s.extract m q).size=q-m:=by
 rw[<-aN,dv,qp,eg,aN];omega
def pE{s:ByteArray}(g:(bs s).all py=true):∀{a:Nat} {d:List Int} {b:Nat},dG (bs s) a d b->∀x∈cG s a d,bD (bs x)
 |a,[],b,_,x,c=>by cases c
 |a,y::d,b,⟨h1,e,h⟩,x,c=>by
  obtain⟨i,f,j⟩:=fp h1;rw[aN] at f;have c:x∈s.extract a y.toNat::cG s y.toNat d:=c;rw[e,sA] at c;rcases pa.1 c with rfl|c
  .exact aqO g i j f
  .exact pE g h x c
def aiR(s:ByteArray):dG (bs s) 0 (af9 (bs s) s.size 0) s.size:=by
 have:=adi (l:=bs s) (f:=s.size) (a:=0) (fa _) (by rw[aN];omega)
 rwa [aN] at this
def nR(a:(bs s).all py=true):∀x∈ki s,bD (bs x):=pE a (aiR s)
def ab4(s:ByteArray):(ki s).length<=s.size:=by
 have:=(aiR s).len;unfold ki;rw[nQ];omega
def jN(l:List ByteArray):List Nat:=l.flatMap bs
def aqP(s:ByteArray)(p:Nat)(B:p<s.size)(D:s.size<=1000000)(w:World) :
  Calls (ai β) 130 #[.string s,.int .i64 p] w λe v=>e=.returned (.int .i64 (atL (bs s) p:Nat))/\Below w.heap.size w v:=by
 have o:s.size<=maxLen:=by unfold maxLen;omega
 go_enter yK,ntmps130;go_wp2;go_loopw [5] (λr wr=>∃k f:Nat,k+f=8/\3<=k/\r=.int .i64 k/\atL (bs s) p=atF (bs s) p f k/\Below w.heap.size w wr) (λr _=>8-(intOf r).toNat)
 case atStart=>exact⟨3,5,rfl,by omega,rfl,rfl,fd _ _⟩
 case round=>
  obtain⟨k,f,y,C,rfl,b,d⟩:=hrel;replace b:=ab b;by_cases A:k<8
  .obtain⟨g,rfl⟩:∃g,f=g+1:=⟨f-1,by omega⟩;have a:atF (bs s) p (g+1) k=if s.size<=p+k then s.size else if pC (bs s) (p+k)=true then p+k else atF (bs s) p g (k+1):=by
    show(if(bs s).length<=p+k then(bs s).length else _)=_;rw[aN]
   have HS:=ab a;clear a;by_cases l:s.size<=p+k
   .have n:=dj (show(s.size:Int)<=(p:Int)+(k:Int) by omega);go_wp2;go_ret;exact⟨by rw[b.out,HS.out,du l];rfl,d⟩
   .have n:=bv (show ¬((s.size:Int)<=(p:Int)+(k:Int)) by omega);rw[da l] at HS;obtain⟨i,u⟩:∃m,m=p+k:=⟨_,rfl⟩;have x:(p:Int)+(k:Int)=((i:Nat):Int):=by omega
    have q:3<=i/\i<s.size:=by omega
    rw[x] at n;rw[<-u] at HS;clear u;go_wp2;refine(akL s i q o wr).mono ?_;rintro e z ⟨rfl,t⟩;cases j:pC (bs s) i with
    |true=>
     have c:=ab (b.out.trans (HS.out.trans (du j)));clear j;go_wp2;go_ret;exact⟨by rw[c.out];rfl,ag d t⟩
    |false=>
     have c:=ab (b.out.trans (HS.out.trans (da (by rw[j];exact qz))));clear j;go_wp2;go_roundw
     case rel=>exact⟨k+1,g,by omega,by omega,by go_num,c.out,ag d t⟩
     simp[intOf];omega
  .obtain rfl:k=8:=by omega
   obtain rfl:f=0:=by omega
   have a:atF (bs s) p 0 8=min (p+8) s.size:=by
    show min (p+8) (bs s).length=_;rw[aN]
   have c:=ab (b.out.trans a);clear a b;by_cases l:p+8<=s.size
   .have n:=dj (show(p:Int)+8<=(s.size:Int) by omega);rw[rq l] at c;go_wp2;go_ret;exact⟨by rw[c.out];simp,d⟩
   .have n:=bv (show ¬((p:Int)+8<=(s.size:Int)) by omega);rw[Nat.min_eq_right (by omega)] at c;go_wp2;go_ret;exact⟨by rw[c.out];simp,d⟩
def aqQ(s:ByteArray)(w:World)(e:Ending)(w':World):Prop:=∃v a,e=.returned v/\aL ni 3 w' w.heap.size v a/\dG (bs s) 0 a s.size/\Below w.heap.size w w'
def akW(s:ByteArray)(L:s.size<=100000)(w:World) :
  Calls (ai β) 99 #[.string s] w (aqQ s w):=by
 go_enter yW,ntmps99;go_wp2;have o:=au w (.cells #[] 3);have m:aL ni 3 (w.alloc (.cells #[] 3)) w.heap.size (.slice (some ⟨w.heap.size,0,none⟩) 0 0) []:=(eD.new w 3 (am _)).own 1;generalize w.alloc (.cells #[] 3)=w0 at *;go_loopw [3,4] (λB u wr=>∃(k:Nat) (g:List Int),k<=s.size/\u=.int .i64 k/\aL ni 3 wr w.heap.size B g/\dG (bs s) 0 g k/\Below w.heap.size w wr) (λ_ u _=>s.size-(intOf u).toNat)
 case atStart=>exact⟨0,[],fa _,rfl,m,rfl,o⟩
 case round=>
  obtain⟨k,g,G,rfl,p,n,y⟩:=hrel;obtain⟨A,c,rfl⟩:=p.form;by_cases d:k<s.size
  .go_wp2;refine(aqP s k d (by omega) wr).mono ?_;rintro e E ⟨rfl,x⟩;have b:=fp (l:=bs s) (a:=k) (by rw[aN];exact d);rw[aN] at b;have J:=n.len;have j:=p.below x;have f:=ag y x;have HC:=ab (n.snoc (by rw[aN];exact d));revert HC b;generalize atL (bs s) k=q;intro b HC;go_wp2_with(at_builtin;refine cF (F:=ni) (v:=.slice A g.length c) rfl (.tmp 13) (.tmp 15) 93 rfl abU (q:Int) rfl j rfl rfl (by omega) f.size ?_;intro K H r t z;obtain⟨D,I,rfl⟩:=r.form;simp only[aE,fi,mc,lP] at r);go_roundw
   case rel=>exact⟨q,g++[(q:Int)],b.2.1,rfl,by simpa using r,HC.out,f.trans (t.below f.size λi M C=>by have:=(j.at_ C).1;omega)⟩
   simp[intOf];omega
  .obtain rfl:k=s.size:=by omega
   go_wp2;go_ret;exact⟨_,g,rfl,p,n,y⟩
def akX(s:ByteArray)(w:World)(e:Ending)(w':World):Prop:=∃v,e=.returned v/\aL iy 9 w' w.heap.size v (ki s)/\Below w.heap.size w w'
def aga(s:ByteArray)(B:s.size<=100000)(w:World) :
  Calls (ai β) 76 #[.string s] w (akX s w):=by
 go_enter zp,ntmps76;go_wp2;have J:=au w (.cells #[] 9);have C:aL iy 9 (w.alloc (.cells #[] 9)) w.heap.size (.slice (some ⟨w.heap.size,0,none⟩) 0 0) []:=(eD.new w 9 (am _)).own 1;generalize w.alloc (.cells #[] 9)=w0 at *;refine(akW s B w0).mono ?_;rintro e w1 ⟨ve,f,rfl,W,a,G⟩;obtain⟨Ae,ce,rfl⟩:=W.form;have j:=C.below G;have l:=ag J G;have z1:=G.size;have a0:=a.len;have H:=W.deep (a.akE (by rw[aN];unfold maxLen;omega)) w0.heap.size;have D:=H.sl (am _);replace a:=ab a;replace j:=ab j;have O:=ab D;replace l:=ab l;clear C J G H D W;go_wp2;go_loopw [3,4,6] (λoo aa Z wr=>∃(k m:Nat),k<=f.length/\m<=s.size/\Z=.int .i64 k/\aa=.int .i64 m/\dG (bs s) 0 (f.take k) m/\aL iy 9 wr w.heap.size oo (cG s 0 (f.take k))/\Below w.heap.size w wr/\eI 3 (bU ni) 1 wr w0.heap.size w1.heap.size f [.slice Ae f.length ce]) (λ_ _ Z _=>f.length-(intOf Z).toNat)
 case atStart=>exact⟨0,0,fa _,fa _,rfl,rfl,rfl,j.out,l.out,O.out⟩
 case round=>
  clear j l O;obtain⟨k,m,hk,lX,rfl,rfl,U,g,L,P⟩:=hrel;by_cases V:k<f.length
  .obtain⟨y,z⟩:=aq V;obtain⟨rfl,K,M⟩:=a.out.at_ U z;obtain⟨h1,E,h2⟩:=fp K;rw[aN] at E;have N:cG s 0 (f.take (k+1))=cG s 0 (f.take k)++[s.extract m (atL (bs s) m)]:=by rw[lE z,aaB U]
   have u:(cG s 0 (f.take k)).length=k:=by rw[nQ,eg,rq hk]
   have n:∀x∈cG s 0 (f.take k),x.size<=maxLen:=λx p=>by
    have:=aaC s _ _ x p;unfold maxLen;omega
   revert N;revert M;revert E;revert h2;revert h1;revert z;generalize atL (bs s) m=q;generalize cG s 0 (f.take k)=xs at g u n ⊢;intro z h1 h2 E M N;obtain⟨A,c,rfl⟩:=g.form;obtain⟨b',X,cs,e0,a7,a6,_,⟨rfl,a4⟩,I⟩:=P.1.at_ z;subst e0;obtain⟨a2,T⟩:=P.2 (by omega) _ _ _ _ rfl;have R:wr.cell? ⟨b',X+k,none⟩=some (.int .i64 (q:Int)):=by simpa using I 0 _ rfl
   have HN:=ab N;have H4:=ab M;have O:=ab P;have HG:=ab n;have a8:(s.extract m q).size<=maxLen:=by rw[aeM s E];unfold maxLen;omega
   have a1:=ab u;have a5:xs.length<=100000:=by omega
   clear I N M P U z u K n;have o:∀B:(Value.slice A xs.length c).ownBlock=some b',False:=λB=>by
    obtain⟨ds,hd⟩:=(aL.deep g (λx p=>HG.out x p) 0).blk B;exact absurd (cL T hd) (by decide)
   replace o:=ab o;have g1:¬((m:Int)<0):=by omega
   have g2:(m:Int)<=(q:Int):=by omega
   have g3:(q:Int)<=(s.size:Int):=by omega
   go_wp2_with(at_builtin;refine cF (F:=iy) (v:=.slice A xs.length c) rfl (.tmp 16) (.tmp 24) 83 rfl ab3 (s.extract m q) rfl g rfl rfl (by omega) L.size ?_;intro va wa Y r a3;obtain⟨Aa,ca,rfl⟩:=Y.form;simp only[aE,fi,mc,lP] at Y;have a9:=jc R r o.out);go_roundw
   case rel=>
    refine⟨k+1,q,by omega,E,by go_num,rfl,H4.out,by rw[HN.out];simpa using Y,L.trans (r.below L.size λi hi p=>by have:=(g.at_ p).1;omega), ?_⟩;exact(eI.ar (bU.ar ni)).go (λb G b2 ht=>r.block b (by obtain⟨t,_,d,hd⟩:=ht;exact hd.lt) λB=>by
      obtain⟨ds,hd⟩:=(aL.deep g (λx p=>HG.out x p) 0).blk B;obtain⟨t,S,d2,Q⟩:=ht;have e1:=cL hd Q;rw[ph.1 S] at e1;exact absurd e1 (by decide)) (am _) (am _) O.out
   case measure=>simp[intOf];omega
  .obtain rfl:k=f.length:=by omega
   rw[gE,am3 a.out] at g;obtain⟨A,c,rfl⟩:=g.form;go_wp2;go_ret;exact⟨_,rfl,g,L⟩
end
section
variable {β:Bool}
open Go.RowKit
def nk(s:ByteArray)(f:s.size<=maxLen)(w:World) :
  Calls (ai β) 92 #[.string s] w λe d=>e=.returned (.bool (dN s))/\w=d:=by
 by_cases b:s.size<=40
 .have a:(bs s).all py=dN s:=by unfold dN;rw[dj b,vA]
  replace a:=ab a;have c:=dj (show(s.size:Int)<=40 by omega);go_enter xN,ntmps92;go_wp2;refine(af0 s f w).mono ?_;rintro e g ⟨rfl,rfl⟩;rw[a.out];go_wp2;go_ret;exact⟨rfl,rfl⟩
 .have c:=bv (show ¬((s.size:Int)<=40) by omega);have e:dN s=false:=by unfold dN;rw[bv b,uW]
  rw[e];go_enter xN,ntmps92;go_wp2;go_ret;exact⟨rfl,rfl⟩
def akY(s:ByteArray)(p:Nat)(v:3<=p/\p<s.size)(r:s.size<=maxLen)(w:World) :
  Calls (ai β) 149 #[.string s,.int .i64 p] w λe o=>e=.returned (.bool (pC (bs s) p))/\Below w.heap.size w o:=by
 unfold maxLen at r;obtain⟨a,l⟩:∃a,a=p-1:=⟨_,rfl⟩;obtain⟨b,i⟩:∃b,b=p-2:=⟨_,rfl⟩;obtain⟨c,n⟩:∃c,c=p-3:=⟨_,rfl⟩;have m:a<s.size:=by omega
 have f:b<s.size:=by omega
 have g:c<s.size:=by omega
 have y:(p:Int)-1=((a:Nat):Int):=by omega
 have x:(p:Int)-2=((b:Nat):Int):=by omega
 have z:(p:Int)-3=((c:Nat):Int):=by omega
 have t:(p:Int)<=9223372036854775807:=by omega
 have k:pC (bs s) p=((dig (s[a]'m).toNat+2*dig (s[b]'f).toNat+3*dig (s[c]'g).toNat) % 5 ==0):=by unfold pC;rw[<-l,<-i,<-n,aae m,aae f,aae g]
 rw[k];clear l i n k;go_enter yB,ntmps149;go_wp2;refine aD 21 [0,1,2,3,4,5,6,7,8,9,10,11,12,13,14,15,16,17,18,19,20] [] (h:= ?_);simp only[pick,List.map,gn,gt];repeat(go_big_quiet_step (fail))
 refine ip ?_;apply Exists.intro;refine aS ?_;intro A u q j d;dsimp only[dV] at d;try rw[j] at d
 clear j q;simp only[List.drop];clear d;go_wp2;go_ret;exact⟨aF (by rw[rr];simp only[nf];unfold dig;omega),u⟩
def auk(s:ByteArray)(p:Nat)(C:p<s.size)(E:s.size<=1000000)(w:World) :
  Calls (ai β) 142 #[.string s,.int .i64 p] w λe v=>e=.returned (.int .i64 (atL (bs s) p:Nat))/\Below w.heap.size w v:=by
 have n:s.size<=maxLen:=by unfold maxLen;omega
 go_enter yG,ntmps142;go_wp2;go_loopw [5] (λq wr=>∃k f:Nat,k+f=8/\3<=k/\q=.int .i64 ((p+k:Nat):Int)/\atL (bs s) p=atF (bs s) p f k/\Below w.heap.size w wr) (λq _=>p+8-(intOf q).toNat)
 case atStart=>exact⟨3,5,rfl,by omega,by go_num,rfl,fd _ _⟩
 case round=>
  obtain⟨k,f,z,D,rfl,b,g⟩:=hrel;replace b:=ab b;by_cases B:k<8
  .obtain⟨i,rfl⟩:∃i,f=i+1:=⟨f-1,by omega⟩;have a:atF (bs s) p (i+1) k=if s.size<=p+k then s.size else if pC (bs s) (p+k)=true then p+k else atF (bs s) p i (k+1):=by
    show(if(bs s).length<=p+k then(bs s).length else _)=_;rw[aN]
   have HS:=ab a;obtain⟨d,j⟩:∃m,m=p+k:=⟨_,rfl⟩;rw[<-j] at HS ⊢;have o:3<=d/\d<p+8:=by omega
   have x:=dj (show(d:Int)<(p:Int)+8 by omega);by_cases l:s.size<=d
   .have y:=bv (show ¬(d<s.size) by omega);rw[du l] at HS;have c:=ab (b.out.trans HS.out);have r:=bv (show ¬((p:Int)+8<=(s.size:Int)) by omega);go_wp2;go_ret;exact⟨by rw[c.out];simp,g⟩
   .have y:=dj (show d<s.size by omega);rw[da l] at HS;replace j:=ab j;go_wp2;refine(akY s d ⟨o.1,by omega⟩ n wr).mono ?_;rintro e A ⟨rfl,t⟩;cases u:pC (bs s) d with
    |true=>
     have c:=ab (b.out.trans (HS.out.trans (du u)));go_wp2;go_ret;exact⟨by rw[c.out];rfl,ag g t⟩
    |false=>
     have c:=ab (b.out.trans (HS.out.trans (da (by rw[u];exact qz))));go_wp2;go_roundw
     case rel=>exact⟨k+1,i,by omega,by omega,by have:=j.out;go_num,c.out,ag g t⟩
     simp[intOf];omega
  .obtain rfl:k=8:=by omega
   obtain rfl:f=0:=by omega
   have a:atF (bs s) p 0 8=min (p+8) s.size:=by
    show min (p+8) (bs s).length=_;rw[aN]
   have c:=ab (b.out.trans a);have x:=bv (show ¬(((p+8:Nat):Int)<(p:Int)+8) by omega);by_cases l:p+8<=s.size
   .have r:=dj (show(p:Int)+8<=(s.size:Int) by omega);rw[rq l] at c;go_wp2;go_ret;exact⟨by rw[c.out];simp,g⟩
   .have r:=bv (show ¬((p:Int)+8<=(s.size:Int)) by omega);rw[Nat.min_eq_right (by omega)] at c;go_wp2;go_ret;exact⟨by rw[c.out];simp,g⟩
end
section
variable {β:Bool}
open Go.RowKit
def akZ(h:k<s.size):code ((bs s).take (k+1))=27*code ((bs s).take k)+((s[k]'h).toNat-97)+1:=afZ (aaW h)
def aiS{l:List Nat}(h:bD l)(k:Nat):code (l.take k)<282429536481:=by
 rcases qe k with a|a
 .subst a;simp[code,eB]
 .refine abT ⟨⟨?_, ?_⟩, ?_⟩
  .rw[eg];have:=h.1.1;omega
  .rw[eg];have:=h.1.2;omega
  .rw[lw];exact λx b=>lw.1 h.2 x (pr b)
def aul(key:Int)(s:ByteArray)(r:1<=key/\key<=99)(b:bD (bs s))(w:World) :
  Calls (ai β) 154 #[.int .i64 key,.string s] w λe q=>e=.returned (.tuple #[.int .i64 (cY key (bs s)),.nilIface])/\w=q:=by
 have u:1<=s.size/\s.size<=8:=by have:=b.1;rw[aN] at this;exact this
 have j:s.size<=maxLen:=by unfold maxLen;omega
 have n:=abT b;replace b:=ab b;replace j:=ab j;have l:cY key (bs s)=((code (bs s):Int)*(2*key+1)+7919*key) % 999999999989:=by unfold cY;rw[Int.mul_comm key 7919]
 have g:=ab l;clear l;go_enter yz,ntmps154;go_wp2;refine(ag0 key w true (by simp;exact r)).mono ?_;rintro e o ⟨rfl,rfl⟩;go_wp2;refine(aac s j.out w true (by simp only[tK];exact b.out)).mono ?_;rintro e o ⟨rfl,rfl⟩;go_wp2
 go_loop [6,20] (λc i=>∃k:Nat,k<=s.size/\i=.int .i64 k/\c=.int .i64 (code ((bs s).take k))) (λ_ i=>s.size-(intOf i).toNat)
 case atStart=>exact⟨0,fa _,rfl,rfl⟩
 case round=>
  obtain⟨k,p,rfl,rfl⟩:=hrel;by_cases a:k<s.size
  .have d:=akZ a;have v:=aiS b.out k;have t:=aiS b.out (k+1);have A:97<=(s[k]'a).toNat/\(s[k]'a).toNat<=122:=by
    have:=lw.1 b.out.2 _ (db (aaW a));unfold py at this;simpa using this
   replace d:=ab d;generalize f:code ((bs s).take k)=cd at *;replace f:=ab f;go_wp2
   go_round
   case rel=>exact⟨k+1,by omega,by go_num,by rw[d.out];congr 1;omega⟩
   simp[intOf];omega
  .obtain rfl:k=s.size:=by omega
   have m:(bs s).take s.size=bs s:=oS (by rw[aN];exact am _);rw[m];clear m;revert g;revert n;generalize code (bs s)=c;intro n g;have y:0<=(c:Int)*(2*key+1)/\(c:Int)*(2*key+1)<=282429536481*199:=by
    constructor
    .exact Int.mul_nonneg (by omega) (by omega)
    .exact Int.mul_le_mul (by omega) (by omega) (by omega) (by omega)
   have C:wrap64 (2*key)=2*key:=by unfold wrap64;omega
   have x:wrap64 (2*key+1)=2*key+1:=by unfold wrap64;omega
   have D:wrap64 ((c:Int)*(2*key+1))=(c:Int)*(2*key+1):=by unfold wrap64;omega
   have z:wrap64 (7919*key)=7919*key:=by unfold wrap64;omega
   have B:wrap64 ((c:Int)*(2*key+1)+7919*key)=(c:Int)*(2*key+1)+7919*key:=by unfold wrap64;omega
   have E:((c:Int)*(2*key+1)+7919*key).tmod 999999999989=((c:Int)*(2*key+1)+7919*key) % 999999999989:=vz (by omega);go_wp2;go_ret2;exact⟨by rw[g.out];rfl,rfl⟩
def aqR(key:Int)(s:ByteArray)(nm:Int)(c:1<=key/\key<=99)(b:bD (bs s))(w:World) :
  Calls (ai β) 146 #[.int .i64 key,.string s,.int .i64 nm] w λe d=>e=.returned (.bool (decide (cY key (bs s)=nm)))/\w=d:=by
 replace b:=ab b;go_enter yD,ntmps146;go_wp2;refine(aul key s c b.out w).mono ?_;rintro e f ⟨rfl,rfl⟩;obtain⟨y,a⟩:∃y,y=cY key (bs s):=⟨_,rfl⟩;rw[<-a];replace a:=ab a;by_cases h:y=nm
 .subst h;go_wp2;go_ret;exact⟨aF (by rw[<-a.out];simp),rfl⟩
 .have g:(y ==nm)=false:=dk.2 h;go_wp2;go_ret;exact⟨aF (by rw[<-a.out];simp[h]),rfl⟩
end
section
variable {β:Bool}
open Go.RowKit
def aoy(n:Nat)(m:1<=n/\n<=8)(w:World) :
  Calls (ai β) 164 #[.int .i64 n] w λe f=>e=.returned (.int .i64 (cj n))/\w=f:=by
 have i:((1<=n/\n<=2)/\cj n=2)\/((3<=n/\n<=4)/\cj n=4)\/((5<=n/\n<=8)/\cj n=8):=by
  unfold cj;split<;>(try split)<;>(try split)<;>omega
 obtain⟨a,b⟩:∃a,a=cj n:=⟨_,rfl⟩;rw[<-b] at i ⊢;replace b:=ab b;have l:=bv (show ¬((n:Int)<1) by omega);have j:=bv (show ¬(8<(n:Int)) by omega);go_enter yw,ntmps164;go_wp2
 go_loop [3] (λv=>∃k:Nat,v=.int .i64 k/\(k=2\/k=4\/k=8)/\k<=a) (λv=>8-(intOf v).toNat)
 case atStart=>exact⟨2,rfl,.inl rfl,by omega⟩
 case round=>
  obtain⟨k,rfl,o,g⟩:=hrel;by_cases d:k<n
  .have c:=dj (show(k:Int)<(n:Int) by omega);go_wp2
   go_round
   case rel=>exact⟨k*2,by go_num,by omega,by omega⟩
   simp[intOf];omega
  .have c:=bv (show ¬((k:Int)<(n:Int)) by omega);obtain rfl:k=a:=by omega
   go_wp2;go_ret;exact⟨rfl,rfl⟩
def ak0(s:ByteArray)(r:s.size<=maxLen)(w:World) :
  Calls (ai β) 159 #[.string s,.int .u8 46] w λe q=>e=.returned (.string (s.extract 0 (eQ (bs s) s.size)))/\w=q:=by
 unfold maxLen at r;go_enter yx,ntmps159;go_wp2
 go_loop [0] (λv=>∃(t:ByteArray) (k:Nat),v=.string t/\k<=s.size/\t=s.extract 0 k/\eQ (bs s) s.size=eQ (bs s) k) (λv=>match v with|.string t=>t.size|_=>0)
 case atStart=>exact⟨s,s.size,rfl,am _,by rw[ByteArray.extract_zero_size],rfl⟩
 case round=>
  obtain⟨t,k,rfl,y,b,a⟩:=hrel;have x:t.size=k:=by rw[b,vM y]
  replace b:=ab b;replace a:=ab a;rcases qe k with n|n
  .have p:=bv (show ¬(0<(t.size:Int)) by omega);go_wp2;go_ret;exact⟨by rw[a.out,b.out,n];rfl,rfl⟩
  .obtain⟨j,rfl⟩:∃j,k=j+1:=⟨k-1,by omega⟩;have p:=dj (show 0<(t.size:Int) by omega);have z:((j+1:Nat):Int)-1=(j:Int):=by omega
   have f:j<t.size:=by omega
   have g:(bs s)[j]?=some (t[j]'f).toNat:=by
    rw[<-aaW f,b.out,dv,rN,tv (by omega)]
   replace g:=ab g;by_cases d:(t[j]'f).toNat=46
   .have o:(((t[j]'f).toNat:Int) ==46)=true:=nf.2 (by omega);have m:eQ (bs s) s.size=eQ (bs s) j:=by
     rw[a.out];show(if(bs s)[j]?=some 46 then eQ (bs s) j else j+1)=_;rw[du (by rw[g.out,d])]
    replace m:=ab m;have l:t.extract 0 j=s.extract 0 j:=by
     apply px;rw[dv,dv,b.out,dv,rN,rN,rN,List.take_take]
     congr 1;omega
    have u:(t.extract 0 j).size=j:=vM (by omega);replace l:=ab l;go_wp2
    go_round
    case rel=>exact⟨_,j,rfl,by omega,l.out,m.out⟩
    case measure=>
     show(t.extract 0 j).size<t.size;omega
   .have o:(((t[j]'f).toNat:Int) ==46)=false:=dk.2 (by omega);have c:eQ (bs s) (j+1)=j+1:=by
     show(if(bs s)[j]?=some 46 then eQ (bs s) j else j+1)=_;rw[da (by rw[g.out];intro h;exact d (dq h))]
    replace c:=ab c;go_wp2;go_ret;have i:t=s.extract 0 (eQ (bs s) s.size):=by rw[a.out,c.out];exact b.out
    exact⟨by rw[<-i];rfl,rfl⟩
def aiT(s:ByteArray)(b:s.size<=maxLen)(w:World) :
  Calls (ai β) 151 #[.string s,.string ⟨#[46]⟩] w λe c=>e=.returned (.string (s.extract 0 (eQ (bs s) s.size)))/\w=c:=by
 by_cases d:s.size=0
 .have a:s=ByteArray.empty:=px (by
   have:(bs s).length=0:=by rw[aN];exact d
   rw[qR this];rfl)
  subst a;go_enter xA,ntmps151;go_wp2;go_ret;exact⟨rfl,rfl⟩
 .have g:s.toList.isEmpty=false:=by
   rw[Bool.eq_false_iff];intro h;rw[List.isEmpty_iff,rj] at h;apply d;have:s.data=#[]:=uI.1 h;show s.data.size=0;rw[this];rfl
  have f:¬(128:Int)<=(((⟨#[46]⟩:ByteArray)[0]'Nat.zero_lt_one).toNat:Int):=by decide
  replace b:=ab b;go_enter xA,ntmps151;go_wp2_with(go_at_call 159;refine(ak0 s b.out w).mono ?_;rintro e c ⟨rfl,rfl⟩);go_ret;exact⟨rfl,rfl⟩
end
section
variable {β:Bool}
open Go.RowKit
def ak1 {ty a : TypeId} {j:TypeInfo}  (k:P.underlying O=some (.pointer t)) (hi:P.info? t=some j) (l:j.bytes<18446744073709551616)
  (c:w.shape? b=some (e,Z)) (f:liesAt P P.depth e (Z / P.cellsOf e) 0 t 1=true) :
  (Builtin.unsafeSlice_ #[O,a] ty #[.pointer (some ⟨b,0,none⟩),.int .i64 1]).run P w=.ok (.slice (some ⟨b,0,none⟩) 1 1) w:=by
 have g:¬(18446744073709551616:Nat)<=j.bytes:=by omega
 unfold Builtin.unsafeSlice_;refine(qU P (asInt (.int .i64 1)) _ w).trans ?_;have d:(asInt (.int .i64 1)).run P w=.ok 1 w:=by simp[asInt,asIntOf]
 rw[d];refine(qU P (elemOf O) _ w).trans ?_;have i:(elemOf O).run P w=.ok t w:=by simp[elemOf,mt k]
 rw[i];simp only[Result.andThen];simp[variablesAt,c,f,typeInfo,hi,sizeOf,IntKind.max,IntKind.signed,IntKind.bits,g]
noncomputable def xCC:Func:=by
 apply(λ(x:Func) (_:{f139 with body:=some nD}=x)=>x)
 case x=>dsimp only[nD,pw,agS,akz,iE,f139]
def am4:xCC.results=#[]:=results139
def ak2:(ai β).funcs[139]?=some xCC:=acA β
@[go_sem] theorem azN(args:Array Value)(w:World):(callFunc 139 args).run (ai β) w=.ok (.enter 139 args) w:=by
 have a:=cJ func139;exact lr ak2 a rfl args w
def aum:((ai β).info? 179).map (λi=>(i.bytes,i.size))=some (32,2):=by kernel_rfl
def aun:liesAt (ai β) (ai β).depth 179 (2 / (ai β).cellsOf 179) 0 179 1=true:=by kernel_rfl
def aiU(c:w.shape? b=some (179,2)):(Builtin.unsafeSlice_ #[177,3] 0 #[.pointer (some ⟨b,0,none⟩),.int .i64 1]).run (ai β) w=.ok (.slice (some ⟨b,0,none⟩) 1 1) w:=by
 obtain⟨j,d,a⟩:=lc.1 (aum (β:=β));simp only[vm] at a;exact ak1 yn d (by omega) c aun
def aiV(b:Nat)(w:World)(g:w.cell? ⟨b,0,none⟩=some (.pointer none))(a:w.shape? b=some (179,2))(d:w.frozen? ⟨b,0,none⟩=false) :
  Calls (ai β) 139 #[.pointer (some ⟨b,0,none⟩)] w λe c=>e=.returned (.tuple #[])/\c=w.setCell ⟨b,0,none⟩ (.pointer (some ⟨b,0,none⟩)):=by
 have i:=aiU (β:=β) a;have f:xCC.ntmps=20:=ntmps139;go_enter ak2,f;go_wp2;refine mx (results_none am4 _ _ _) rfl ?_;exact⟨rfl,rfl⟩
def axz(B b:Nat)(bs:List Value)(w:World)(h:Lib.IsBuilderF 179 5 B b bs w) :
  Calls (ai β) 139 #[.pointer (some ⟨b,0,none⟩)] w λe a=>e=.returned (.tuple #[])/\(Lib.BuilderAtF 179 5 B b (.pointer (some ⟨b,0,none⟩)) bs a/\Below B w a):=by
 rcases h with h|h
 .refine(aiV b w h.cell0 h.shape h.frozen0).mono ?_;rintro e a ⟨rfl,rfl⟩;exact⟨rfl,h.used _,(fd B w).setCell (p:=⟨b,0,none⟩) h.1 _⟩
 .have j:=aiU (β:=β) h.shape;have g:xCC.ntmps=20:=ntmps139;have i:=h.cell0;have k:=h.frozen0;have c:=h.used (.pointer none);have f:=c.cell0;have d:=c.frozen0;go_enter ak2,g;go_wp2;refine mx (results_none am4 _ _ _) rfl ?_;refine⟨rfl,c.used _,((fd B w).setCell (p:=⟨b,0,none⟩) h.1 _).setCell (p:=⟨b,0,none⟩) h.1 _⟩
def ak3(B b:Nat)(bs:List Value)(w:World)(h:Lib.IsBuilderF 179 5 B b bs w) :
  Calls (ai β) 171 #[.pointer (some ⟨b,0,none⟩)] w λe k=>e=.returned (.int .i64 bs.length)/\k=w:=by
 obtain⟨p,n,v,i,a,j⟩:∃p,Lib.BuilderAtF 179 5 B b p bs w:=by
  rcases h with h|h
  .exact⟨_,h⟩
  .exact⟨_,h⟩
 obtain⟨c,cap,rfl⟩:∃c cap,v=.slice c bs.length cap:=by
  rcases a.2 with⟨d,l⟩|⟨g,cap,f,m,d,_⟩
  .exact⟨none,0,by rw[d,l]⟩
  .exact⟨_,_,d⟩
 have o:w.cell? ⟨b,1,none⟩=some (.slice c bs.length cap):=by rw[rh i];rfl
 go_enter yr,ntmps171;go_wp2;go_ret;exact⟨rfl,rfl⟩
def auo:((ai β).info? 5).map (λi=>(i.zero,i.size,i.bytes))=some (some (.int .u8 0),1,1):=by kernel_rfl
def pF(B b:Nat)(bs:List Value)(s:ByteArray)(w:World)(h:Lib.IsBuilderF 179 5 B b bs w)(C:bs.length+s.size<=140737488355328)(J:B<=w.heap.size) :
  Calls (ai β) 122 #[.pointer (some ⟨b,0,none⟩),.string s] w λe z=>e=.returned (.tuple #[.int .i64 s.size,.nilIface])/\(Lib.BuilderAtF 179 5 B b (.pointer (some ⟨b,0,none⟩)) (bs++Lib.strCells s) z/\Below B w z):=by
 obtain⟨I,K,q,t,u⟩:=info_parts (auo (β:=β));go_enter yP,ntmps122;go_wp2_with(go_at_call 139;refine(axz B b bs _ h).mono ?_);rintro e j ⟨rfl,G,i⟩;obtain⟨D,v,l,f,o⟩:=G;have Q:j.cell? ⟨b,0,none⟩=some (.pointer (some ⟨b,0,none⟩)):=by rw[rh l];rfl
 have O:j.cell? ⟨b,1,none⟩=some v:=by rw[rh l];rfl
 go_wp2_with(at_builtin;refine Lib.wpList_append_own_stringF _ rfl _ _ 22 9 rfl B 5 I wY qU9 K q t u _ _ _ rfl f s rfl ?c3 ?c4 ?c5 ?_)
 case c3=>unfold maxLen;omega
 case c4=>omega
 case c5=>have:=i.size;omega
 intro E m a c _;have n:b<j.heap.size:=by
  rcases pm b j.heap.size with r|r
  .exact r
  .simp[qj r] at l
 have d:m.heap[b]?=some (.cells #[.pointer (some ⟨b,0,none⟩),v] 179 (0,0)):=by
  rw[c.block b n (λe=>o e.symm)];exact l
 have P:m.cell? ⟨b,0,none⟩=some (.pointer (some ⟨b,0,none⟩)):=by rw[rh d];rfl
 have N:m.cell? ⟨b,1,none⟩=some v:=by rw[rh d];rfl
 have M:m.frozen? ⟨b,1,none⟩=false:=vh d 1;obtain⟨A,y,cap,rfl⟩:∃A y cap,E=.slice A y cap:=by
  rcases a.2 with⟨x,_⟩|⟨g,cap,H,L,x,_⟩
  .exact⟨_,_,_,x⟩
  .exact⟨_,_,_,x⟩
 go_wp2;go_ret2;refine⟨rfl, ?_, ?_⟩
 .exact Lib.BuilderAtF.put (T:=179) (e:=5) D d (bs':=bs++Lib.strCells s) (by simpa[Lib.strCells_length] using a) (by decide)
 .exact(i.grown c (by have:=i.size;omega) (λk F=>(f.lt k F).1)).setCell (p:=⟨b,1,none⟩) D _
end
section
variable {β:Bool}
open Go.RowKit
def adW:((ai β)).follows .mixedOrders=true:=by kernel_rfl
def aup(B b n:Nat)(w:World)(r:B<=b)(d:w.heap[b]?=some (.cells #[.pointer (some ⟨b,0,none⟩),.slice none 0 0] 179 (0,0)))(g:B<=w.heap.size)(p:n<=281474976710656) :
  Calls (ai β) 140 #[.pointer (some ⟨b,0,none⟩),.int .i64 n] w λe m=>e=.returned (.tuple #[])/\(Lib.BuilderAt 179 5 B b (.pointer (some ⟨b,0,none⟩)) [] m/\Below B w m):=by
 obtain⟨cs,f,q,j⟩:=Lib.run_makeNoZero (P:=(ai β)) w.drew #[3] 22 5 wY n p;have l:IntKind.i64.wrap (IntKind.i64.wrap 0+(n:Int))=n:=by
  rw[uH,uH];omega
 have u:(callFunc 148 #[.int .i64 (IntKind.i64.wrap (IntKind.i64.wrap 0+(n:Int)))]).run (ai β) w.drew=.ok (.value (.slice (some ⟨w.drew.heap.size,0,none⟩) n cs.size)) (w.drew.drew.drew.alloc (.cells cs 5)):=by
  rw[l,run_callFunc_extern yC (by kernel_rfl) (by kernel_rfl) (by kernel_rfl) (e:=Extern.BytealgMakeNoZero.makeNoZero #[3] #[22]) (by kernel_rfl),f];rfl
 have v:w.drew.cell? ⟨b,1,none⟩=some (.slice none 0 0):=by
  have:w.drew.heap[b]?=_:=d;rw[rh this];rfl
 have s:(w.alloc (.cells cs 5)).cell? ⟨b,1,none⟩=some (.slice none 0 0):=by
  have a:b<w.heap.size:=by
   rcases pm b w.heap.size with c|c
   .exact c
   .simp[qj c] at d
  have:(w.alloc (.cells cs 5)).heap[b]?=_:=(Lib.alloc_old w _ b a).trans d;rw[rh this];rfl
 have t:(w.alloc (.cells cs 5)).frozen? ⟨b,1,none⟩=false:=by
  have a:b<w.heap.size:=by
   rcases pm b w.heap.size with c|c
   .exact c
   .simp[qj c] at d
  exact vh ((Lib.alloc_old w _ b a).trans d) 1
 have o:∀W:World,(Builtin.copy_ #[22,22] 3 #[.slice (some ⟨w.heap.size,0,none⟩) 0 cs.size,.slice none 0 0]).run (ai β) W=.ok (goInt 0) W:=
  λW=>run_copy_none W 22 22 3 5 _ _ 0 cs.size 0 0 wY (by kernel_rfl) rfl
 clear l;have k:=adW (β:=β);go_enter yH,ntmps140;go_wp2;have i:=Lib.grown_fresh (T:=179) (e:=5) (cs:=cs) r d g (j (by unfold maxLen;omega)) (by decide)
 go_region_o
 all_goals(go_wp2;go_end0;exact⟨rfl,i⟩)
def am5(B b n:Nat)(w:World)(j:B<=b)(d:w.heap[b]?=some (.cells #[.pointer none,.slice none 0 0] 179 (0,0)))(g:B<=w.heap.size)(m:n<=281474976710656) :
  Calls (ai β) 121 #[.pointer (some ⟨b,0,none⟩),.int .i64 n] w λe f=>e=.returned (.tuple #[])/\(Lib.BuilderAt 179 5 B b (.pointer (some ⟨b,0,none⟩)) [] f/\Below B w f):=by
 have a:(w.setCell ⟨b,0,none⟩ (.pointer (some ⟨b,0,none⟩))).heap[b]?=some (.cells #[.pointer (some ⟨b,0,none⟩),.slice none 0 0] 179 (0,0)):=by
  simp[World.setCell,pi,d]
 have r:(w.setCell ⟨b,0,none⟩ (.pointer (some ⟨b,0,none⟩))).cell? ⟨b,1,none⟩=some (.slice none 0 0):=by rw[rh a];rfl
 have c:Below B w (w.setCell ⟨b,0,none⟩ (.pointer (some ⟨b,0,none⟩))):=(fd B w).setCell (p:=⟨b,0,none⟩) j _;have i:=adW (β:=β);go_enter yQ,ntmps121;have q:Lib.BuilderAt 179 5 B b (.pointer (some ⟨b,0,none⟩)) [] (w.setCell ⟨b,0,none⟩ (.pointer (some ⟨b,0,none⟩))):=⟨j,.slice none 0 0,a,ut _ _ _ _,by simp[Value.ownBlock]⟩;have l:(w.setCell ⟨b,0,none⟩ (.pointer (some ⟨b,0,none⟩))).drew.cell? ⟨b,1,none⟩=some (.slice none 0 0):=r;go_wp2_with(go_at_call 139;refine(aiV b w (by rw[rh d];rfl) (by simp[World.shape?,d]) (vh d 0)).mono ?_;rintro e f ⟨rfl,rfl⟩)
 go_region_o
 all_goals go_wp2_with(go_at_call 140;refine(aup B b n (w.setCell ⟨b,0,none⟩ (.pointer (some ⟨b,0,none⟩))).drew j a (by simpa[World.setCell,World.drew, -World.drew_eq] using g) m).mono ?_;rintro e f ⟨rfl,o,k⟩)
 all_goals first
  |(go_end0;exact⟨rfl,o,c.drew.trans k⟩)
  |(go_end0;exact⟨rfl,q.drew,c.drew⟩)
end
section
variable {β:Bool}
open Go.RowKit
def auq:Code->Code
 |.seq a b=>.seq (auq a) (auq b)
 |.region i ⟨ops⟩ d=>.region i (ops.map λo=>{o with type:=match o.op with|.call ⟨.builtin .unsafeSliceData,_,_⟩=>3|_=>o.type}).toArray d
 |.ret=>.ret
 |_=>.skip
noncomputable def xSt:Func:=by
 apply(λ(x:Func) (_:{f123 with body:=f123.body.map auq}=x)=>x)
 case x=>dsimp only[auq,f123,Option.map,List.map]
def aqS:f123.body.map gP=xSt.body:=by unfold gP;kernel_rfl
def aqT:(ai β).funcs[123]?=some xSt:=by
 refine(akA β (by decide) (by decide)).trans ?_;have e:Option.map pf (prog.funcs[123]?)=Option.map pf (some f123):=jp _ func123;rw[e,qr];unfold pf;rw[aqS];rfl
@[go_sem] theorem azO(args:Array Value)(w:World):(callFunc 123 args).run (ai β) w=.ok (.enter 123 args) w:=by
 have a:=cJ func123;exact lr aqT a rfl args w
def acL(B b:Nat)(l:List UInt8)(w:World)(h:Lib.IsBuilderF 179 5 B b (Lib.byteCells l) w)(t:l≠[]) :
  Calls (ai β) 123 #[.pointer (some ⟨b,0,none⟩)] w λe s=>e=.returned (.string ⟨l.toArray⟩)/\(Lib.IsBuilderF 179 5 B b (Lib.byteCells l) s/\Below B w s):=by
 obtain⟨p,F,q⟩:∃p,(p=.pointer none\/p=.pointer (some ⟨b,0,none⟩))/\Lib.BuilderAtF 179 5 B b p (Lib.byteCells l) w:=by
  rcases h with h|h
  .exact⟨_,.inl rfl,h⟩
  .exact⟨_,.inr rfl,h⟩
 obtain⟨O,v,u,c,f⟩:=q;have i:l.length≠0:=by simpa using t
 rw[rO] at c;obtain⟨g,cap,a,d,rfl,o,z,P,H,k,J,Q⟩:∃g cap a d,v=.slice (some ⟨g,0,none⟩) l.length cap/\B<=g/\w.heap[g]?=some (.cells a 5 d)/\d.2<=l.length*1/\l.length<=cap/\cap<=maxLen/\a.size=cap*1/\a.toList.take (l.length*1)=Lib.byteCells l:=by
  rcases c.2 with⟨_,G⟩|⟨g,cap,a,d,N,r⟩
  .exact absurd G i
  .exact⟨g,cap,a,d,N,r⟩
 have D:w.drew.cell? ⟨b,1,none⟩=some (.slice (some ⟨g,0,none⟩) l.length cap):=by
  have:w.drew.heap[b]?=some (.cells #[p,.slice (some ⟨g,0,none⟩) l.length cap] 179 (0,0)):=u;rw[rh this];rfl
 have E:(Builtin.unsafeSliceData_ #[22] 3 #[.slice (some ⟨g,0,none⟩) l.length cap]).run (ai β) w.drew=.ok (.pointer (some ⟨g,0,none⟩)) w.drew:=
  Lib.run_unsafeSliceData_row _ _ _ _ _ _ (by omega)
 have y:(Builtin.unsafeString_ #[201,3] 9 #[.pointer (some ⟨g,0,none⟩),.int .i64 l.length]).run (ai β) w.drew=.ok (.string ⟨l.toArray⟩) (w.drew.freeze ⟨g,0,none⟩ l.length):=by
  refine Lib.run_unsafeString_row w.drew 201 3 9 5 ym (by kernel_rfl) g a.size (by have M:w.drew.heap[g]?=some (.cells a 5 d):=z;simp[World.shape?,M]) l t (by omega) (by unfold maxLen at k;omega) ?_;intro j x K;have:=c.cells (g:=g) rfl j (.int .u8 x.toNat) (by simp[Lib.byteCells,K]);exact this
 have A:Lib.IsBuilderF 179 5 B b (Lib.byteCells l) (w.drew.freeze ⟨g,0,none⟩ l.length):=by
  have C:Lib.BuilderAtF 179 5 B b p (Lib.byteCells l) w.drew:=⟨O,_,u,by rw[rO];exact c,f⟩;have n:=C.froze (g:=g) (cap:=cap) (by rw[rO];exact D);rw[rO] at n;rcases F with rfl|rfl
  .exact .inl n
  .exact .inr n
 have m:=adW (β:=β);have L:xSt.ntmps=14:=ntmps123;have I:xSt.results=#[.tmp 2]:=results123;go_enter aqT,L;go_wp2
 go_region_o
 all_goals(go_wp2;refine mx (results_tmp I _ _ _) rfl ?_;exact⟨rfl,A,Lib.below_freeze (Below.drew (fd B w)) (p:=⟨g,0,none⟩) o _⟩)
end
section
variable {β:Bool}
open Go.RowKit
def aur(n:Nat)(c:n<=8)(w:World):Calls (ai β) 176 #[.int .u64 1,.int .u64 n] w λe a=>e=.returned (.tuple #[.int .u64 0,.int .u64 n])/\w=a:=by
 have b:n=0\/n=1\/n=2\/n=3\/n=4\/n=5\/n=6\/n=7\/n=8:=by omega
 rcases b with rfl|rfl|rfl|rfl|rfl|rfl|rfl|rfl|rfl
 all_goals
  go_enter yq,ntmps176;go_wp2;go_ret2;exact⟨rfl,rfl⟩
def azP(n:Nat)(b:n<=8)(w:World):Calls (ai β) 170 #[.int .u64 1,.int .u64 n] w λe a=>e=.returned (.tuple #[.int .u64 0,.int .u64 n])/\w=a:=by
 go_enter yu,ntmps170;go_wp2;refine(aur n b w).mono ?_;rintro e c ⟨rfl,rfl⟩;go_wp2;go_ret2;exact⟨rfl,rfl⟩
def ak4(b:Nat)(w:World):Nat:=match w.cell? ⟨b,1,none⟩ with|some (.slice _ l _)=>l|_=>0
def agb{T : TypeId}{B : Nat}{l:List UInt8}(h:Lib.IsBuilderF T e B b (Lib.byteCells l) w):ak4 b w=l.length:=by
 replace h:∃p,Lib.BuilderAtF T e B b p (Lib.byteCells l) w:=by
  rcases h with h|h
  .exact⟨_,h⟩
  .exact⟨_,h⟩
 obtain⟨p,h⟩:=h;obtain⟨n,v,f,a,i⟩:=h;have k:w.cell? ⟨b,1,none⟩=some v:=by rw[rh f];rfl
 unfold ak4;rw[k];rw[rO] at a;rcases a.2 with⟨c,j⟩|⟨g,cap,d,m,c,_⟩
 .rw[c,j]
 .rw[c]
def kQ(q:Nat):List UInt8:=List.replicate q 46
def aqU(n:Nat)(R:n=2\/n=3)(w:World):Calls (ai β) 163 #[.string ⟨#[46]⟩,.int .i64 n] w λe z=>e=.returned (.string ⟨(kQ n).toArray⟩)/\Below w.heap.size w z:=by
 have Q:((n:Int) ==0)=false:=dk.2 (by omega);have N:((n:Int) ==1)=false:=dk.2 (by omega);go_enter xe,ntmps163;go_wp2;refine(azP n (by omega) w).mono ?_;rintro e O ⟨rfl,rfl⟩;go_wp2;generalize r:w.alloc (.cells #[.pointer none,.slice none 0 0] 179)=w0;have E:w0.heap[w.heap.size]?=some (.cells #[.pointer none,.slice none 0 0] 179 (0,0)):=by
  rw[<-r];show(w.heap.push _)[w.heap.size]?=_;rw[qX]
 have o:Below w.heap.size w w0:=by rw[<-r];exact(fd _ w).alloc (am _) _
 refine(am5 w.heap.size w.heap.size n w0 (am _) E o.size (by omega)).mono ?_;rintro e M ⟨rfl,a,d⟩;replace d:=o.trans d;go_wp2;refine(pF w.heap.size w.heap.size [] ⟨#[46]⟩ M (.inr (.of a)) (by decide) d.size).mono ?_;rintro e P ⟨rfl,p,j⟩;replace j:=d.trans j;have L:([]:List Value)++Lib.strCells ⟨#[46]⟩=Lib.byteCells (kQ 1):=rfl;rw[L] at p;go_wp2;go_loopw [10] (λ_ wr=>∃q:Nat,1<=q/\q<=n/\Lib.IsBuilderF 179 5 w.heap.size w.heap.size (Lib.byteCells (kQ q)) wr/\Below w.heap.size w wr) (λ_ wr=>n-ak4 w.heap.size wr)
 case atStart=>exact⟨1,am _,by omega,.inr p,j⟩
 case round=>
  obtain⟨q,y,J,a,m⟩:=hrel;have G:=agb a;have b:(Lib.byteCells (kQ q)).length=q:=by rw[rO];exact qC ..
  have g:(kQ q).length=q:=qC ..;have l:kQ q≠[]:=by intro h;rw[h] at g;simp at g;omega
  go_wp2;refine(ak3 w.heap.size w.heap.size (Lib.byteCells (kQ q)) wr a).mono ?_;rintro e t ⟨rfl,rfl⟩;rw[b];by_cases x:q<n
  .have v:=dj (show(q:Int)<(n:Int) by omega);go_wp2;refine(ak3 w.heap.size w.heap.size (Lib.byteCells (kQ q)) t a).mono ?_;rintro e u ⟨rfl,rfl⟩;rw[b];go_wp2;refine(ak3 w.heap.size w.heap.size (Lib.byteCells (kQ q)) u a).mono ?_;rintro e B ⟨rfl,rfl⟩;rw[b];have c:(n=2/\q=1)\/(n=3/\q=1)\/(n=3/\q=2):=by omega
   have I:∀W:World,(Builtin.min_ #[3,3,3] 3 #[.int .i64 ((n:Int)-(q:Int)),.int .i64 q,.int .i64 n]).run (ai β) W=.ok (.int .i64 1) W:=λW=>by
    rcases c with⟨rfl,rfl⟩|⟨rfl,rfl⟩|⟨rfl,rfl⟩<;>simp[Builtin.min_,Builtin.min2]
   have S:(⟨(kQ q).toArray⟩:ByteArray).extract 0 1=⟨#[46]⟩:=by
    rcases c with⟨rfl,rfl⟩|⟨rfl,rfl⟩|⟨rfl,rfl⟩<;>rfl
   have F:(⟨(kQ q).toArray⟩:ByteArray).size=q:=by show(kQ q).toArray.size=q;rw[rR];exact g
   replace c:=ab c;go_wp2;refine(acL w.heap.size w.heap.size (kQ q) B a l).mono ?_;rintro e C ⟨rfl,s,f⟩;replace f:=m.trans f;go_wp2;refine(pF w.heap.size w.heap.size (Lib.byteCells (kQ q)) ⟨#[46]⟩ C s (by rw[b];have:=c.out;show q+1<=_;omega) f.size).mono ?_;rintro e T ⟨rfl,k,i⟩;replace i:=f.trans i;have H:Lib.byteCells (kQ q)++Lib.strCells ⟨#[46]⟩=Lib.byteCells (kQ (q+1)):=by
    have:kQ (q+1)=kQ q++[46]:=wm;rw[this];simp[Lib.byteCells,Lib.strCells]
   rw[H] at k;have D:=agb (.inr k);have A:(kQ (q+1)).length=q+1:=qC ..;go_wp2;go_roundw
   case rel=>exact⟨q+1,by omega,by omega,.inr k,i⟩
   omega
  .obtain rfl:q=n:=by omega
   have v:=bv (show ¬((q:Int)<(q:Int)) by omega);go_wp2;refine(acL w.heap.size w.heap.size (kQ q) t a l).mono ?_;rintro e u ⟨rfl, -,K⟩;go_wp2;go_ret;exact⟨rfl,m.trans K⟩
end
end Go.Proofs.YtlaobkmopohmnaaGreatDoor