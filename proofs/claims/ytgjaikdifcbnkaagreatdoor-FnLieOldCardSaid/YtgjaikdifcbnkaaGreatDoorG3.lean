/- A part. -/
import Derived.Test.YtgjaikdifcbnkaaGreatDoorG2
import Derived.StillTail
import Derived.Deep.RegionHeld3
import Derived.Deep.RegionLaw
import Derived.Laws.OwnMore
import Derived.Lib.Builder
import Derived.Lib.Strings
import Derived.Lib.Slices
import Derived.Lib.AppendStr
import Derived.Lib.FrozenHead
import Derived.Lib.UnsafeStr
import Derived.Lib.MakeNoZero
import Derived.Shelf.RegionOpenPlain
import Derived.Laws.Externs
import Derived.Laws.IdiomCopy
import Derived.Laws.BitsLemmas
set_option maxRecDepth 100000
set_option maxHeartbeats 8000000
set_option linter.all false
open Go Go.RowKit Go.Proofs.Tryz Go.Proofs.YtgjaikdifcbnkaaGreatDoor
variable {Z W b base' c g hi i j k m n:Nat} {X a:Act} {V:Type} {o:Oper} {p:Addr} {u v:Value} {w w' w2 x:World} {O e t:TypeId} {f:FuncId} {P:Program} {S:Nat→Prop} {l:List Int} {M rest:List Oper} {s:ByteArray} {Y:Array Oper} {N:List Value} {d:Option Tmp} {listed:Array Bool} {T cs es:Array Value} {A:Option Addr} {U:Act→World→Prop} {xs:List ByteArray} {R Q:Exit→Act→World→Prop} {E:fW V}
namespace Go.Proofs.YtgjaikdifcbnkaaGreatDoor
def du:=@Go.RowKit.Below.refl
def gt:=@List.getD_cons_zero
def gE:=@List.getD_cons_succ
def io:=@Go.wpQuiet_nil
def ip:=@List.take_length
def mc:=@Bool.not_eq_true
def mp:=@List.length_nil
def mx:=@Go.World.size_alloc
def nf:=@Go.bodyPost_ret
def pi:=@List.mem_singleton
def ql:=@Int.eq_ofNat_of_zero_le
def qr:=@List.length_drop
def qv:=@List.getElem?_eq_some_iff
def qC:=@Go.Addr.mk.injEq
def qJ:=@bne_eq_false_iff_eq
def qY:=@List.length_set
def rm:=@Go.Lib.cell_of_heap
def rr:=@Nat.min_eq_left
def rz:=@Nat.succ_mul
def rP:=@Go.Lib.byteCells_length
def rR:=@Nat.add_sub_cancel_left
def rZ:=@List.length_filter_le
def sb:=@List.drop_eq_getElem_cons
def sj:=@List.append_nil
def sA:=@Nat.le_of_succ_le
def sB:=@Int.toNat_natCast
def sG:=@List.filter_eq_self
def sK:=@List.mem_flatMap
def sO:=@List.getElem?_drop
def sU:=@List.mem_filter
def sV:=@List.mem_append_right
def sZ:=@List.getD_eq_getElem?_getD
def ta:=@of_decide_eq_true
def tf:=@List.foldl_append
def tw:=@List.getElem?_take_of_lt
def tz:=@List.flatMap_append
def tA:=@decide_eq_false_iff_not
def tC:=@Go.World.block_lt_of_cell?
def tG:=@Nat.mod_lt
def tM:=@true_iff
def tU:=@Go.getD_replicate_false
def uh:=@List.pairwise_cons
def un:=@List.pairwise_singleton
def ur:=@List.filter_cons_of_pos
def ut:=@List.filter_cons_of_neg
def uu:=@Go.World.ownsRow_nil
def uI:=@Go.IntKind.wrap_i64
def uK:=@false_iff
def uM:=@List.set_append_right
def uP:=@Nat.zero_mul
def uS:=@List.mem_of_mem_drop
def uT:=@List.mem_append_left
def uW:=@List.take_succ_cons
def uX:=@Bool.false_and
def vj:=@Go.Lib.frozen_of_heap
def vk:=@Int.emod_lt_of_pos
def vu:=@Prod.mk.injEq
def vx:=@Nat.mod_two_eq_zero_or_one
def vC:=@Bool.true_and
def vG:=@Nat.lt_trichotomy
def vO:=@Nat.div_add_mod'
def vT:=@List.nodup_cons
def vU:=@Int.emod_nonneg
def vZ:=@List.take_append_drop
def wn:=@Nat.div_lt_of_lt_mul
def wu:=@List.pairwise_append
section
variable {β:Bool}
def ag8:Op->Bool
 |.move .. | .assign .. | .pick .. | .load .. | .binOp .. | .unOp .. | .convert .. | .slice .. | .fieldAddr .. | .field .. | .indexAddr .. | .index .. | .lookup .. | .extract .. | .build .. | .typeAssert .. | .makeInterface .. | .makeFunc .. | .nilCheck .. =>true
 |.call c=>match c.callee with
  |.builtin .len=>true
  |_=>false
 |_=>false
def ag9(h:ag8 o.op=true){ρ:Operand->Value}{args:Array Value}:(execOp ρ o).run P w ≠ .ok (.enter f args) w':=by
 obtain⟨dst,op,j,k,after,g⟩:=o;cases op<;>simp only[ag8,lc] at h
 case nilCheck x=>
  simp only[execOp];intro a;split at a
  .simp[runtimePanic] at a
  .simp[runtimePanic] at a
  .simp[runtimePanic] at a
  .split at a
   .simp[runtimePanic] at a
   .revert a;simp only[tP];generalize (Sem.run P program w:Result _)=r;cases r with
    |halt x i=>simp[Result.andThen]
    |ok p i=>
     simp only[Result.andThen];generalize (Sem.run P (nilAhead _ _ _ _) i:Result _)=r2;cases r2 with
     |halt x l=>simp
     |ok b l=>
      simp only;split
      .simp[unsupported]
      .simp
   .simp at a
  .simp at a
 case call c=>
  obtain⟨d,args,e⟩:=c;cases d with
  |value x=>cases h
  |invoke x n=>cases h
  |builtin b=>
   cases b<;>first
    |(exfalso;cases h;done)
    |(simp only[execOp,resolve,invoke,builtin,tP,ug,uv]
      intro a;revert a;generalize (Sem.run P (Builtin.len_ _ _ _) w:Result _)=r;cases r<;>simp[Result.andThen])
 all_goals simp only[execOp,tP,ug]
 all_goals intro a
 all_goals
  first
   |(cases a;done)
   |(revert a;generalize (Sem.run P _ w:Result _)=r;cases r<;>simp[Result.andThen];done)
   |(revert a;generalize (Sem.run P _ w:Result _)=r;cases r<;>simp[Result.andThen];generalize (Sem.run P _ _:Result _)=r;cases r<;>simp;done)
def lB(o:Oper)(i:Nat):Bool:=o.after.any λe=>Region.binds .any e&&e.on ==i
def aiL(h:lB o i=true):∃e∈o.after,Region.binds .any e=true/\e.on=i:=by
 obtain⟨e,a,h⟩:=Array.any_eq_true'.1 h;simp only[ge,oE] at h;exact⟨e,a,h.1,h.2⟩
def aqF(i:a.tmps.size=X.tmps.size)(h:X.put d u=X.put d v):a.put d u=a.put d v:=by
 cases d with
 |none=>rfl
 |some t=>
  rcases pr t a.tmps.size with c|g
  .have f:=jt (λb:Act=>b.tmps[t]?) h;have e:t<X.tmps.size:=i▸c;simp[Act.put,e] at f;rw[f]
  .simp[Act.put,Array.setIfInBounds,Nat.not_lt.2 g]
section
variable {P:Program} {ops:Array Oper}
def aoq  (hi:ops[i]?=some o)  {G:Value->World->Prop}  
  (y:a.tmps.size=X.tmps.size) (z:execOp a.eval o=execOp X.eval o) (t:Region.wanted o (yielded ops a.tmps)=Region.wanted o (yielded ops X.tmps))
  (h:wpList P ops (λe b w=>e=.normal/\∃v,b=X.put o.dst v/\G v w) [o] X w)
  (s:∀v w,G v w->U (a.put o.dst v) w):wpOp P ops Q i U a w:=by
 have g:∀{u:Value} {k:World},(∃v,X.put o.dst u=X.put o.dst v/\G v k)->U (a.put o.dst u) k:=by
  rintro u k ⟨v,p,q⟩;rw[aqF y p];exact s _ _ q
 unfold wpOp;simp only[hi];unfold wpList at h;rw[<-t] at h;split
 .rename_i j;rw[eg j] at h;rcases h with h|⟨_,b,k,m,_⟩
  .refine .inl ?_;unfold Oper.wp at *;rw[<-z] at h;generalize (execOp a.eval o).run P w=r at *;cases r with
   |ok A k=>
    cases A<;>simp only[Oper.upon,wpList] at h ⊢
    case value u=>exact g h.2
    case skip=>exact g h.2
    case defer d=>
     obtain⟨_,v,p,_⟩:=h;have:=jt (λb:Act=>b.defers.length) p;cases hd:o.dst<;>simp[Act.put,hd] at this
    case enter f args=>
     refine h.mono λe n l=> ?_;cases e with
     |returned u=>exact g l.2
     |panicked c=>cases l.1
     |outgrown=>
      obtain⟨b,B,m,_⟩:=l;cases m
    case row row args=>exact Rows.mono h λu n l=>g l.2
   |halt x k=>
    cases x<;>simp only[Oper.upon] at h ⊢
    case panic u=>cases h.1
  .cases m
 .rename_i j;rw[da j] at h;exact g h.2
def aiM(ops:Array Oper)(n:Nat):Bool:=
 (n ==ops.size||(decide (n<ops.size)&&Region.sinkB .any ops n&&Region.chainB .any ops n))&&Region.seqB .any ops (ops.size-n) n ((Array.replicate n true)++Array.replicate (ops.size-n) false)
def am2(ops:Array Oper)(n:Nat):Bool:=
 (List.range n).all λi=>match ops[i]? with
  |some o=>o.after.all λe=>!Region.binds .any e||decide (e.on<i)
  |none=>false
def aor(h:am2 ops n=true)(hi:i<n)(b:ops[i]?=some o){e:Edge}(c:e∈o.after)(f:Region.binds .any e=true):e.on<i:=by
 have a:=lP.1 h i (qz.2 hi);simp only[b] at a;have d:=Array.all_eq_true_iff_forall_mem.1 a e c;simpa[f] using d
def left(n:Nat)(listed:Array Bool):Nat:=((List.range n).filter λi=>listed.getD i true ==false).length
def aiN[DecidableEq V]{l:List V}(d:l.Nodup){p q:V->Bool}{i:V}(hi:i∈l)(k:p i=true)(m:q i=false)(f:∀j,j≠i->p j=q j):(l.filter p).length=(l.filter q).length+1:=by
 induction l with
 |nil=>cases hi
 |cons a t n=>
  rw[vT] at d;by_cases c:a=i
  .subst c;rw[ur k,ut (by simp[m])];have:t.filter p=t.filter q:=List.filter_congr λj o=>f j λe=>d.1 (e▸o);simp[this]
  .have g:i∈t:=by
    rcases pb.1 hi with h|h
    .exact absurd h.symm c
    .exact h
   have:=n d.2 g;by_cases b:p a=true
   .rw[ur b,ur (by rw[<-f a c];exact b)];simp[this]
   .rw[ut b,ut (by rw[<-f a c];exact b)];exact this
def aqG(hi:i<n)(h:listed.getD i true=false):left n listed=left n (listed.setIfInBounds i true)+1:=by
 have c:i<listed.size:=by
  rcases pr i listed.size with a|a
  .exact a
  .simp[qk a] at h
 refine aiN List.nodup_range (qz.2 hi) (by rw[h];rfl) (by simp[c]) λj b=> ?_;rw[getD_set_ne true (sI b)]
def aos(h:0<left n listed):∃i,i<n/\listed.getD i true=false/\∀j,j<i->listed.getD j true=true:=by
 unfold left at h;have f:∃i,i<n/\listed.getD i true=false:=by
  obtain⟨i,b⟩:=List.exists_mem_of_length_pos h;rw[sU,qz] at b;exact⟨i,b.1,by simpa using b.2⟩
 obtain⟨i,b⟩:=f
 induction i using Nat.strongRecOn with
 |_ i k=>
  by_cases a:∀j,j<i->listed.getD j true=true
  .exact⟨i,b.1,b.2,a⟩
  .have g:∃j,j<i/\listed.getD j true=false:=by
    apply qU;intro c;exact a λj d=>by
     cases e:listed.getD j true with
     |true=>rfl
     |false=>exact absurd ⟨j,d,e⟩ c
   obtain⟨j,d,e⟩:=g;exact k j d ⟨by omega,e⟩
def aot(h:left n listed=0)(hi:i<n):listed.getD i true=true:=by
 unfold left at h;have a:=qT h;rw[List.filter_eq_nil_iff] at a;have:=a i (qz.2 hi);cases b:listed.getD i true with
 |true=>rfl
 |false=>rw[b] at this;simp at this
def aga(a:i<listed.size)(h:listed.getD i true=true):listed.getD i false=true:=by
 simp[a] at h ⊢;exact h
inductive Behind (ops:Array Oper):Nat->Nat->Prop where
 |aua {i:Nat} {o:Oper} {e:Edge}:ops[i]?=some o->e∈o.after->Region.binds .any e=true->Behind ops i e.on
 |next {i j:Nat} {o:Oper} {e:Edge}:ops[i]?=some o->e∈o.after->Region.binds .any e=true->Behind ops e.on j->Behind ops i j
def afz{ops:Array Oper}(c:HeadInv .any ops n listed)(h:Behind ops i j):(∀o,ops[i]?=some o->∀e∈o.after,Region.binds .any e=true->listed.getD e.on false=true)->listed.getD j false=true:=by
 induction h with
 |aua a g d=>exact λb=>b _ a _ g d
 |next a g d _ p=>exact λb=>p λm l q k f=>c.closed _ m l (b _ a _ g d) q k f
class bm (X:Type) where
 live:Nat->X->Prop
 down:∀m x,live (m+1) x->live m x
 pend:Nat->X->Prop
def aub(n:Nat)(listed:Array Bool):left n listed<=n:=by
 unfold left;exact ap (rZ _ _) (by simp)
variable {X:Type} [bm X] {to:X->World} {le:X->X->Prop} {Q:Exit->Act->World->Prop}
def aqH (hn:n<=ops.size) (s:aiM ops n=true) (O:am2 ops n=true) (A:Act->Prop) (Φ:Nat->Act->X->Prop)
  (w:∀m i o,i<n->ops[i]?=some o->∀a x,A a->bm.live (m+1) x->bm.pend i x->(∀j,j<n->lB o j=true->Φ j a x)->∀K:Act->World->Prop,
   (∀v y,le x y->bm.live m y->(∀j,j≠i->¬Behind ops i j->bm.pend j x->bm.pend j y)->A (a.put o.dst v)->Φ i (a.put o.dst v) y->K (a.put o.dst v) (to y))->wpOp P ops Q i K a (to x))
  (N:∀i j o a x y v,i<n->j<n->i≠j->ops[j]?=some o->A a->Φ i a x->le x y->Φ i (a.put o.dst v) y)
  (L:∀a x,A a->(∀i,i<n->Φ i a x)->wpList P ops Q (ops.toList.drop n) a (to x)) :
  ∀(f:Nat) (listed:Array Bool) (a:Act) (x:X),left n listed=f->HeadInv .any ops n listed->A a->bm.live f x->(∀i,i<n->listed.getD i false=false->bm.pend i x)->(∀i,i<n->listed.getD i false=true->Φ i a x)->
   wpAny P .any ops Q (f+(ops.size-n)) listed a (to x):=by
 intro f
 induction f with
 |zero=>
  intro listed a x hf inv H G r k;have b:∀i,i<n->listed.getD i true=true:=λi g=>aot hf g;have hL:listed=(Array.replicate n true)++Array.replicate (ops.size-n) false:=by
   apply Array.ext
   .rw[inv.size];simp;omega
   .intro i l h2;rcases pr i n with q|q
    .rw[Array.getElem_append_left (by simpa using q)];have:=b i q;simp[l] at this;simp[this]
    .rw[Array.getElem_append_right (by simpa using q)];have:=inv.tail i q (by rw[<-inv.size];exact l);simp[l] at this;simp[this]
  unfold aiM at s;rw[ge] at s;have d:(ops.toList.drop n).length=ops.size-n:=by simp
  rw[me,<-d,hL];refine wpAny_of_seq _ n _ a (to x) (λj=>by rw[sO,fi]) (by rw[d];exact s.2) (L a x H λi g=>k i g ?_);exact aga (by rw[inv.size];omega) (b i g)
 |succ f ih=>
  intro listed a x hf inv H G r k;obtain⟨u,U,E,Y⟩:=aos (n:=n) (listed:=listed) (by omega);rw[show f+1+(ops.size-n)=(f+(ops.size-n))+1 by omega];have T:∀i∈Region.ready .any ops listed,i<n:=by
   intro i g;unfold aiM at s;simp only[ge,rj,oE,rb] at s;rcases s.1 with h|⟨⟨l,h2⟩,q⟩
   .obtain⟨_,o,D,_⟩:=mem_ready.1 g;rw[h];exact(dl.1 D).1
   .rcases pr i n with h|h
    .exact h
    .exact absurd g (tail_waits h2 q l inv _ u rfl U E i h)
  refine⟨λh0=> ?_,λi g=> ?_⟩
  .exfalso;have B:u<ops.size:=bd U hn;have:u∈Region.ready .any ops listed:=mem_ready.2 ⟨E,ops[u],gn B,λe F z=>by
    have l:=aor O U (gn B) F z;exact aga (by rw[inv.size];omega) (Y _ l)⟩
   rw[h0] at this;cases this
  .have C:=T i g;obtain⟨p,o,D,b⟩:=mem_ready.1 g;have J:listed.getD i false=false:=by
    have W:i<listed.size:=by rw[inv.size];omega
    simp[W] at p ⊢;exact p
   refine w f i o C D a x H G (r i C J) (λj t hw=> ?_) _ λv y Z I M V S=> ?_
   .obtain⟨e,F,z,rfl⟩:=aiL hw;exact k _ t (b e F z)
   .refine ih _ _ y ?_ (inv.set g C) V I (λj t d=> ?_) λj t d=> ?_
    .have:=aqG C p;omega
    .have c:j≠i:=by
      rintro rfl;have W:j<listed.size:=by rw[inv.size];omega
      simp[W] at d
     rw[getD_set_ne false (sI c)] at d;refine M j c (λR=> ?_) (r j t d);have:=afz inv R λo' oT e F z=>(by
      obtain rfl:o=o':=dq (D.symm.trans oT);exact b e F z)
     rw[this] at d;cases d
    .by_cases c:j=i
     .subst c;exact S
     .rw[getD_set_ne false (sI c)] at d;exact N j i o a x y v t C c D H (k j t d) Z
inductive gW (X:Type) where
 |fix (v:Value)
 |any (R:Value->X->Prop)
def gW.keep(le:X->X->Prop):gW X->Prop
 |.fix _=>True
 |.any R=>∀v x y,R v x->le x y->R v y
def gW.holds(r:gW X)(v:Value)(x:X):Prop:=
 match r with
 |.fix a=>v=a
 |.any R=>R v x
def Good(P:Program)(ops:Array Oper)(to:X->World)(le:X->X->Prop)(i:Nat)(o:Oper)(a:Act)(x:X)(r:gW X):Prop:=
 ∀m,bm.live (m+1) x->bm.pend i x->∀b:Exit->Act->World->Prop,(∀v y,le x y->bm.live m y->(∀j,j≠i->¬Behind ops i j->bm.pend j x->bm.pend j y)->r.holds v y->b .normal (a.put o.dst v) (to y))->wpList P ops b [o] a (to x)
def pF(ops:Array Oper)(n:Nat)(t:Tmp)(j:Nat):Prop:=j<n/\∃o,ops[j]?=some o/\o.dst=some t
def adF(ops:Array Oper)(n N:Nat):Bool:=
 (List.range n).all λi=>match ops[i]? with
  |some o=>match o.dst with
   |some d=>decide (d<N)&&(List.range i).all λj=>((ops[j]?).bind (·.dst)) !=some d
   |none=>true
  |none=>true
def akQ{N : Nat}(h:adF ops n N=true){t:Tmp}(d:pF ops n t j):t<N:=by
 obtain⟨a,o,c,hd⟩:=d;have b:=lP.1 h j (qz.2 a);simp only[c,hd,ge,rb] at b;exact b.1
def aiO{N : Nat}(h:adF ops n N=true){t:Tmp}(hi:pF ops n t i)(k:pF ops n t j)(b:j<i):False:=by
 obtain⟨l,o,g,hd⟩:=hi;obtain⟨f,p,e,a⟩:=k;have d:=lP.1 h i (qz.2 l);simp only[g,hd,ge] at d;have c:=lP.1 d.2 j (qz.2 b);rw[e] at c;simp[a] at c
def aha{N : Nat}(h:adF ops n N=true){t:Tmp}(hi:pF ops n t i)(b:pF ops n t j):i=j:=by
 rcases vG i j with a|a|a
 .exact(aiO h b hi a).elim
 .exact a
 .exact(aiO h hi b a).elim
def am3(ops:Array Oper)(n:Nat)(t:Tmp):(∃j,pF ops n t j)\/∀j,¬pF ops n t j:=by
 by_cases h:∃j,pF ops n t j
 .exact .inl h
 .exact .inr λj a=>h ⟨j,a⟩
def wY(a:Act)(o:Oper):Value:=match o.dst with
 |some d=>a.tmps.getD d undef
 |none=>undef
structure ahb (ops:Array Oper) (n:Nat) (a0 a:Act):Prop where
 size:a.tmps.size=a0.tmps.size
 off:∀t,(∀j,¬pF ops n t j)->a.tmps[t]?=a0.tmps[t]?
 rest:{a with tmps:=a0.tmps}=a0
def ahb.refl(ops:Array Oper)(n:Nat)(a:Act):ahb ops n a a:=⟨rfl,λ_ _=>rfl,rfl⟩
def nM{t:Tmp}(h:d≠some t):(a.put d v).tmps[t]?=a.tmps[t]?:=by
 cases d with
 |none=>rfl
 |some e=>
  have:e≠t:=λb=>h (by rw[b]);simp[Act.put,kw this]
def am4{t:Tmp}(h:t<a.tmps.size):(a.put (some t) v).tmps[t]?=some v:=by
 simp[Act.put,h]
def abX(a:Act)(d:Option Tmp)(v:Value):(a.put d v).tmps.size=a.tmps.size:=by
 cases d<;>simp[Act.put]
def ahb.put{b : Act}(h:ahb ops n b a)(e:j<n)(d:ops[j]?=some o):ahb ops n b (a.put o.dst v):=by
 refine⟨by rw[abX,h.size],λt c=> ?_, ?_⟩
 .rw[nM (λhd=>c j ⟨e,o,d,hd⟩)];exact h.off t c
 .rw[<-h.rest];cases hd:o.dst<;>simp[Act.put]
def fT(U:Nat->Value)(a:Act)(L:List (Nat×Oper)):Act:=L.foldl (λb p=>b.put p.2.dst (U p.1)) a
def acI(U:Nat->Value):∀(L:List (Nat×Oper)) (a:Act),(fT U a L).tmps.size=a.tmps.size
 |[],_=>rfl
 |p::L,a=>by
  show(fT U (a.put p.2.dst (U p.1)) L).tmps.size=_;rw[acI U L,abX]
def nN(U:Nat->Value){t:Tmp}:∀(L:List (Nat×Oper)) (a:Act),(∀p∈L,p.2.dst≠some t)->(fT U a L).tmps[t]?=a.tmps[t]?
 |[],_,_=>rfl
 |p::L,a,h=>by
  show(fT U (a.put p.2.dst (U p.1)) L).tmps[t]?=_;rw[nN U L _ λq b=>h q (by simp[b]),nM (h p (by simp))]
def abY(U:Nat->Value){t:Tmp}{i:Nat}{o:Oper}:∀(L:List (Nat×Oper)) (a:Act),(i,o)∈L->o.dst=some t->t<a.tmps.size->(∀p∈L,p.2.dst=some t->p.1=i)->(fT U a L).tmps[t]?=some (U i)
 |[],_,h,_,_,_=>by cases h
 |p::L,a,h,hd,hs,aeE=>by
  show(fT U (a.put p.2.dst (U p.1)) L).tmps[t]?=_;by_cases g:(i,o)∈L
  .exact abY U L _ g hd (by rw[abX];exact hs) λq c=>aeE q (by simp[c])
  .rcases pb.1 h with rfl|h
   .by_cases e:∃q∈L,q.2.dst=some t
    .obtain⟨q,c,b⟩:=e;have d:=aeE q (by simp[c]) b;have:=abY U (i:=q.1) (o:=q.2) L (a.put o.dst (U i)) c b (by rw[abX];exact hs) λr j f=>by rw[aeE r (by simp[j]) f,d]
     rw[this,d]
    .rw[nN U L _ λq c b=>e ⟨q,c,b⟩,hd];exact am4 hs
   .exact absurd h g
def acJ(U:Nat->Value):∀(L:List (Nat×Oper)) (a:Act),{fT U a L with tmps:=a.tmps}=a
 |[],_=>rfl
 |p::L,a=>by
  show{fT U (a.put p.2.dst (U p.1)) L with tmps:=a.tmps}=_;have h:=acJ U L (a.put p.2.dst (U p.1));have d:{a.put p.2.dst (U p.1) with tmps:=a.tmps}=a:=by cases hd:p.2.dst<;>simp[Act.put]
  have c:=jt (λb:Act=>{b with tmps:=a.tmps}) h;simp only at c;rw[d] at c;exact c
def auc{b : Act}(h:{a with tmps:=b.tmps}=b)(f:a.tmps.size=b.tmps.size)(e:∀t:Nat,a.tmps[t]?=b.tmps[t]?):a=b:=by
 have c:a.tmps=b.tmps:=Array.ext f λi c d=>by
  have:=e i;simpa[c,d] using this
 rw[<-h,<-c]
def aou(c:∀l b,o.op ≠ .select l b){b : Act}(h:∀t∈o.looksAt ops,a.tmps[t]?=b.tmps[t]?) :
  execOp a.eval o=execOp b.eval o/\Region.wanted o (yielded ops a.tmps)=Region.wanted o (yielded ops b.tmps):=by
 constructor
 .refine execOp_congr o c λx k=> ?_;cases x with
  |tmp t=>
   have:=h t (uT _ (List.mem_filterMap.2 ⟨.tmp t,by simpa using k,rfl⟩));simp[Act.eval,this]
  |_=>rfl
 .unfold Region.wanted;cases j:o.guard with
  |none=>rfl
  |some i=>
   obtain⟨g,d⟩:=i;have e:yielded ops a.tmps g=yielded ops b.tmps g:=by
    unfold yielded;cases f:(ops[g]?).bind (·.dst) with
    |none=>rfl
    |some t=>
     have:=h t (sV _ (by simp[j,f]));simp[this]
   simp only[e]
def akR(ops:Array Oper)(n:Nat):Bool:=
 (List.range n).all λi=>match ops[i]? with
  |some o=>(o.looksAt ops).all λt=>(List.range n).all λj=>((ops[j]?).bind (·.dst)) !=some t||lB o j
  |none=>true
def aeF(h:akR ops n=true)(hi:i<n)(e:ops[i]?=some o){t:Tmp}(k:t∈o.looksAt ops)(f:pF ops n t j):lB o j=true:=by
 obtain⟨a,p,d,hd⟩:=f;have b:=lP.1 h i (qz.2 hi);simp only[e] at b;have g:=lP.1 b t k;have c:=lP.1 g j (qz.2 a);rw[d] at c;simpa[hd] using c
def aov (hn:n<=ops.size) (a5:Region.noSelect ops=true) (ht:aiM ops n=true) (a9:am2 ops n=true) (ad:akR ops n=true) {q:Act} (oU:adF ops n q.tmps.size=true)
  (T:Nat->gW X) (hT:∀i,(T i).keep le) (aa:∀i o,i<n->ops[i]?=some o->(∃v,T i=.fix v)\/o.dst.isSome=true\/∀R,T i=.any R->∀u v x,R u x->R v x) (L:List (Nat×Oper)) (hL:∀i o,ops[i]?=some o->i<n->(i,o)∈L) (E:∀p∈L,p.1<n/\ops[p.1]?=some p.2)
  (aF:∀i o,i<n->ops[i]?=some o->∀U:Nat->Value,(∀j g,T j=.fix g->U j=g)->
   ∃al:Act,ahb ops n q al/\(∀t j,t∈o.looksAt ops->pF ops n t j->al.tmps[t]?=some (U j))/\∀x,(∀j,j<n->lB o j=true->(T j).holds (U j) x)->Good P ops to le i o al x (T i))
  (fin:∀U:Nat->Value,(∀j g,T j=.fix g->U j=g)->∀x,(∀j,j<n->(T j).holds (U j) x)->wpList P ops Q (ops.toList.drop n) (fT U q L) (to x))
  (x0:X) (a6:bm.live (left n (Array.replicate ops.size false)) x0) (aH:∀i,i<n->bm.pend i x0):wpAny P .any ops Q ops.size (Array.replicate ops.size false) q (to x0):=by
 let c:Act->Nat->Value:=λa j=>match T j with
  |.fix g=>g
  |.any _=>match ops[j]? with
   |some W=>wY a W
   |none=>undef
 have hU:∀a j g,T j=.fix g->c a j=g:=λa j g h=>by simp only[c,h]
 let Φ:Nat->Act->X->Prop:=λi a x=>∀o,ops[i]?=some o->(∀d,o.dst=some d->a.tmps[d]?=some (c a i))/\(T i).holds (c a i) x
 have a4:∀{i o a v x},i<n->ops[i]?=some o->ahb ops n q a->(T i).holds v x->Φ i (a.put o.dst v) x:=by
  intro i o a v x k l z F Y oT;obtain rfl:o=Y:=dq (l.symm.trans oT);have O:∀d,o.dst=some d->(a.put o.dst v).tmps[d]?=some v:=λd hd=>by
   rw[hd];exact am4 (by rw[z.size];exact akQ oU ⟨k,o,l,hd⟩)
  have S:c (a.put o.dst v) i=v\/(o.dst=none/\∃R,T i=.any R/\∀u v x,R u x->R v x):=by
   cases e:T i with
   |fix g=>
    rw[hU _ _ _ e];rw[e] at F;exact .inl F.symm
   |any R=>
    simp only[c,e,l,wY];have s:o.dst.isSome=true->(match o.dst with|some d=>(a.put o.dst v).tmps.getD d undef|none=>undef)=v:=λN=>by
     obtain⟨d,hd⟩:=rF.1 N;have:=O d hd;simp only[hd] at this ⊢;simp[jn,this]
    rcases aa i o k l with⟨g,N⟩|N|N
    .rw[e] at N;cases N
    .exact .inl (s N)
    .cases hd:o.dst with
     |some d=>left;have:=s (by rw[hd];rfl);simpa only[hd] using this
     |none=>exact .inr ⟨rfl,R,rfl,N R e⟩
  rcases S with S|⟨hd,R,hR,ax⟩
  .rw[S];exact⟨O,F⟩
  .refine⟨λd a0=>(by rw[hd] at a0;cases a0), ?_⟩;rw[hR] at F ⊢;exact ax _ _ _ F
 have H:=aqH (P:=P) (Q:=Q) (to:=to) (le:=le) hn ht a9 (ahb ops n q) Φ ?step ?axx ?fin (left n (Array.replicate ops.size false)) (Array.replicate ops.size false) q x0 rfl
  ⟨by simp,λj W _ D=>(by rw[tU] at D;cases D),λt _ ht=>getD_in (by simpa using ht) (tU _ _)⟩ (ahb.refl _ _ _) a6 (λi k _=>aH i k) (λi k D=>(by rw[tU] at D;cases D))
 case step=>
  intro m i o k l a x z aJ a7 a3 K hK;obtain⟨al,oL,an,jd⟩:=aF i o k l (c a) (hU a);have a8:∀j,j<n->lB o j=true->(T j).holds (c a j) x:=λj f hw=>(a3 j f hw _ (gn (bd f hn))).2;have kJ:∀t∈o.looksAt ops,a.tmps[t]?=al.tmps[t]?:=by
   intro t a1;rcases am3 ops n t with⟨j,f⟩|r
   .have hw:=aeF ad k l a1 f;obtain⟨B,W,I,hd⟩:=id f;rw[an t j a1 f,(a3 j B hw W I).1 t hd]
   .rw[z.off t r,oL.off t r]
  obtain⟨h1,M⟩:=aou (λcs b=>Region.noSelect_spec a5 i o cs b l) kJ;refine aoq (G:=λv w=>∃y,w=to y/\le x y/\bm.live m y/\(∀j,j≠i->¬Behind ops i j->bm.pend j x->bm.pend j y)/\(T i).holds v y) l (by rw[z.size,oL.size]) h1 M (jd x a8 m aJ a7 _ λv y A D J F=>⟨rfl,v,rfl,y,rfl,A,D,J,F⟩) ?_;rintro v w ⟨y,rfl,A,D,J,F⟩;exact hK v y A D J (z.put k l) (a4 k l z F)
 case axx=>
  intro i j o a x y v k f ao l z C A Y oT;obtain⟨h1,M⟩:=C Y oT;have Z:∀d,Y.dst=some d->o.dst≠some d:=λd hd aR=>ao (aha oU ⟨k,Y,oT,hd⟩ ⟨f,o,l,aR⟩);have af:c (a.put o.dst v) i=c a i:=by
   cases e:T i with
   |fix g=>rw[hU _ _ _ e,hU _ _ _ e]
   |any R=>
    simp only[c,e,oT,wY];cases hd:Y.dst with
    |none=>rfl
    |some d=>
     have:=nM (a:=a) (v:=v) (Z d hd);simp only[jn,this]
  rw[af];refine⟨λd hd=>by rw[nM (Z d hd)];exact h1 d hd, ?_⟩;have hk:=hT i;cases e:T i with
  |fix g=>rw[e] at M;exact M
  |any R=>
   rw[e] at M hk;exact hk _ _ _ M A
 case fin=>
  intro a x z C;have a2:∀j,j<n->(T j).holds (c a j) x:=λj f=>(C j f _ (gn (bd f hn))).2;have he:a=fT (c a) q L:=by
   refine auc ?_ ?_ ?_
   .have h1:=z.rest;have M:=acJ (c a) L q;have h3:=jt (λb:Act=>{b with tmps:=(fT (c a) q L).tmps}) (h1.trans M.symm);exact h3
   .rw[z.size,acI]
   .intro t;rcases am3 ops n t with⟨j,f⟩|r
    .obtain⟨B,W,I,hd⟩:=id f;rw[(C j B W I).1 t hd,abY (c a) L q (hL j W I B) hd (akQ oU f) λp J V=> ?_];exact aha oU ⟨(E p J).1,p.2,(E p J).2,V⟩ f
    .rw[z.off t r,nN _ _ _ λp J V=>r p.1 ⟨(E p J).1,p.2,(E p J).2,V⟩]
  rw[he];exact fin _ (hU a) x a2
 have ay:left n (Array.replicate ops.size false)=n:=by
  unfold left;rw[sG.2]
  .simp
  .intro i k;have aU:=qz.1 k;rw[getD_in (by simp;omega) (tU _ _)];rfl
 rw[ay,show n+(ops.size-n)=ops.size by omega] at H;exact H
def oO:List (Nat×(X->Prop))->Oper->X->Prop
 |[],_,_=>True
 |(j,p)::F,o,x=>(lB o j=true->p x)/\oO F o x
def dP:List (Nat×(X->Prop))->X->Prop
 |[],_=>True
 |(_,p)::F,x=>p x/\dP F x
omit [bm X] in
def am5{F:List (Nat×(X->Prop))}{x:X}(h:∀p∈F,lB o p.1=true->p.2 x):oO F o x:=by
 induction F with
 |nil=>trivial
 |cons p F b=>exact⟨h p (by simp),b λq a=>h q (by simp[a])⟩
omit [bm X] in
def aud{F:List (Nat×(X->Prop))}{x:X}(h:∀p∈F,p.2 x):dP F x:=by
 induction F with
 |nil=>trivial
 |cons p F b=>exact⟨h p (by simp),b λq a=>h q (by simp[a])⟩
def bY(P:Program)(ops:Array Oper)(to:X->World)(le:X->X->Prop)(Qt:Act->World->Prop):List (Nat×Oper)->List (Nat×(X->Prop))->List (gW X)->Act->Prop
 |[],F,[],a=>∀x,dP F x->Qt a (to x)
 |(i,o)::l,F,.fix v0::Rs,a=>(∀x,oO F o x->Good P ops to le i o a x (.fix v0))/\bY P ops to le Qt l F Rs (a.put o.dst v0)
 |(i,o)::l,F,.any R::Rs,a=>(o.dst.isSome=true\/∀u v x,R u x->R v x)/\(∀v x y,R v x->le x y->R v y)/\(∀x,oO F o x->Good P ops to le i o a x (.any R))/\∀v,bY P ops to le Qt l ((i,R v)::F) Rs (a.put o.dst v)
 |_,_,_,_=>False
def adY{F:List (Nat×(X->Prop))}(h:∀x,dP F x->U a (to x)):bY P ops to le U [] F [] a:=h
def am6   {l:List (Nat×Oper)} {F:List (Nat×(X->Prop))} {e:List (gW X)} (c:Value)
  (s:∀x,oO F o x->∀m,bm.live (m+1) x->bm.pend i x->∀b:Exit->Act->World->Prop,(∀y,le x y->bm.live m y->(∀j,j≠i->¬Behind ops i j->bm.pend j x->bm.pend j y)->b .normal (a.put o.dst c) (to y))->wpList P ops b [o] a (to x))
  (g:bY P ops to le U l F e (a.put o.dst c)):bY P ops to le U ((i,o)::l) F (.fix c::e) a:=
 ⟨λx q m r f b p=>s x q m r f b λy n k d=>p c y n k d rfl,g⟩
def je   {l:List (Nat×Oper)} {F:List (Nat×(X->Prop))} {d:List (gW X)} (R:Value->X->Prop) (e:o.dst.isSome=true\/∀u v x,R u x->R v x) (p:∀v x y,R v x->le x y->R v y)
  (w:∀x,oO F o x->∀m,bm.live (m+1) x->bm.pend i x->∀b:Exit->Act->World->Prop,(∀v y,le x y->bm.live m y->(∀j,j≠i->¬Behind ops i j->bm.pend j x->bm.pend j y)->R v y->b .normal (a.put o.dst v) (to y))->wpList P ops b [o] a (to x))
  (g:∀v,bY P ops to le U l ((i,R v)::F) d (a.put o.dst v)):bY P ops to le U ((i,o)::l) F (.any R::d) a:=
 ⟨e,p,λx r m s f b q=>w x r m s f b λv y n k c t=>q v y n k c t,g⟩
def pick(l:List Oper)(ord:List Nat):List (Nat×Oper):=ord.map λi=>(i,l.getD i default)
def ahc(ops:Array Oper)(n:Nat):List Nat->List Nat->Bool
 |[],_=>true
 |i::t,done=>(match ops[i]? with
  |some o=>(List.range n).all λj=>!lB o j||done.contains j
  |none=>false)&&ahc ops n t (i::done)
def aeG{n:Nat}:∀(c done:List Nat),ahc ops n c done=true->∀k i o j,c[k]?=some i->ops[i]?=some o->j<n->lB o j=true->j∈done\/j∈c.take k
 |[],_,_,k,i,_,_,h,_,_,_=>by simp at h
 |a::t,done,hB,k,i,o,j,h,ho,hj,hw=>by
  simp only[ahc,ge] at hB;cases k with
  |zero=>
   simp at h;subst h;have b:=hB.1;simp only[ho] at b;have d:=lP.1 b j (qz.2 hj);left;simpa[hw] using d
  |succ k=>
   rcases aeG t (a::done) hB.2 k i o j (by simpa using h) ho hj hw with b|b
   .rcases pb.1 b with rfl|b
    .right;simp
    .exact .inl b
   .right;rw[uW];exact rh _ b
def ahd(l:List Oper)(n:Nat)(bR dg:List Nat):Bool:=
 Region.noSelect l.toArray&&decide (n<=l.length)&&aiM l.toArray n&&am2 l.toArray n&&akR l.toArray n&&decide ((bR++dg).Nodup)&&(List.range n).all (λi=>(bR++dg).contains i)&&(bR++dg).all (λi=>decide (i<n)) &&
  bR.all (λi=>ag8 (l.getD i default).op)&&ahc l.toArray n (bR++dg) []
def nO{U V:Nat->Value}:∀(L:List (Nat×Oper)) (a:Act),(∀p∈L,U p.1=V p.1)->fT U a L=fT V a L
 |[],_,_=>rfl
 |p::L,a,h=>by
  show fT U (a.put p.2.dst (U p.1)) L=fT V (a.put p.2.dst (V p.1)) L;rw[h p (by simp)];exact nO L _ λq b=>h q (by simp[b])
def adj(U:Nat->Value)(L M:List (Nat×Oper))(a:Act):fT U a (L++M)=fT U (fT U a L) M:=by
 unfold fT;exact tf
def aeH{C:World->Prop}{l:Act->Prop}:∀(L:List (Nat×Oper)) (a:Act),(L.map (·.1)).Nodup->wpQuiet P ops C l (L.map (·.2)) a->
  ∃V:Nat->Value,l (fT V a L)/\∀(k:Nat) (p:Nat×Oper),L[k]?=some p->YieldsIn P ops C p.2 (V p.1) (fT V a (L.take k))
 |[],a,_,h=>⟨λ_=>undef,h,λk p n=>by simp at n⟩
 |p::L,a,hn,h=>by
  rw[sF,vT] at hn;have t:∃v,YieldsIn P ops C p.2 v a/\wpQuiet P ops C l (L.map (·.2)) (a.put p.2.dst v):=by
   rw[sF] at h;unfold wpQuiet at h;split at h
   .rename_i g;obtain⟨v,u,o⟩:=h;exact⟨v,.inl ⟨g,u⟩,o⟩
   .rename_i g;exact⟨undef,.inr ⟨by simpa using g,rfl⟩,h⟩
  obtain⟨v,r,i⟩:=t;obtain⟨V,s,w⟩:=aeH L _ hn.2 i
  let W:Nat->Value:=λj=>if j=p.1 then v else V j
  have f:W p.1=v:=by simp[W]
  have d:∀q∈L,W q.1=V q.1:=λq b=>by
   have:q.1≠p.1:=λe=>hn.1 (e▸qu.2 ⟨q,b,rfl⟩);simp[W,this]
  have m:∀k,fT W a ((p::L).take (k+1))=fT V (a.put p.2.dst v) (L.take k):=λk=>by
   rw[uW];show fT W (a.put p.2.dst (W p.1)) (L.take k)=_;rw[f];exact nO _ _ λq b=>d q (pu b)
  refine⟨W, ?_,λk q b=> ?_⟩
  .have:=m L.length;rw[ip,<-gc (a:=p),ip] at this;rw[this];exact s
  .cases k with
   |zero=>
    simp at b;subst b;rw[f];exact r
   |succ k=>
    have c:L[k]?=some q:=by simpa using b
    rw[m,d q (de c)];exact w k q c
def aah{A:Act->World->Prop}{n:Nat}{T:Nat->gW X}{U:Nat->Value}(y:∀j g,T j=.fix g->U j=g):∀(L:List (Nat×Oper)) (F:List (Nat×(X->Prop))) (l:List (gW X)) (a:Act),
  bY P ops to le A L F l a->(∀(k:Nat) (p:Nat×Oper) (r:gW X),L[k]?=some p->l[k]?=some r->T p.1=r)->(∀p∈L,p.1<n)->(∀p∈F,p.1<n/\∀x,(T p.1).holds (U p.1) x->p.2 x)->
  (∀(k:Nat) (p:Nat×Oper),L[k]?=some p->∀x,(∀j,j<n->lB p.2 j=true->(T j).holds (U j) x)->Good P ops to le p.1 p.2 (fT U a (L.take k)) x (T p.1))/\(∀x,(∀j,j<n->(T j).holds (U j) x)->A (fT U a L) (to x))
 |[],F,[],a,h,_,_,hF=>⟨λk p b=>by simp at b,λx c=>h x (aud λp b=>(hF p b).2 x (c _ (hF p b).1))⟩
 |[],_,_::_,_,h,_,_,_=>h.elim
 |(i,o)::L,F,[],_,h,_,_,_=>h.elim
 |(i,o)::L,F,.fix g::l,a,h,hT,hn,hF=>by
  obtain⟨w,s⟩:=h;have d:T i=.fix g:=hT 0 (i,o) (.fix g) rfl rfl;have z:U i=g:=y i g d;obtain⟨u,v⟩:=aah y L F l _ s (λk p r b t=>hT (k+1) p r (by simpa using b) (by simpa using t)) (λp b=>hn p (by simp[b])) hF;have f:∀M,fT U a ((i,o)::M)=fT U (a.put o.dst g) M:=λM=>by
   show fT U (a.put o.dst (U i)) M=_;rw[z]
  refine⟨λk p b x c=> ?_,λx c=>by rw[f];exact v x c⟩;cases k with
  |zero=>
   simp at b;subst b;rw[d];exact w x (am5 λq e m=>(hF q e).2 x (c _ (hF q e).1 m))
  |succ k=>
   rw[uW,f];exact u k p (by simpa using b) x c
 |(i,o)::L,F,.any R::l,a,h,hT,hn,hF=>by
  obtain⟨_,B,w,s⟩:=h;have d:T i=.any R:=hT 0 (i,o) (.any R) rfl rfl;obtain⟨u,v⟩:=aah y L ((i,R (U i))::F) l _ (s (U i)) (λk p r b t=>hT (k+1) p r (by simpa using b) (by simpa using t)) (λp b=>hn p (by simp[b])) λq e=>by
   rcases pb.1 e with rfl|e
   .exact⟨hn (i,o) (by simp),λx c=>by rw[d] at c;exact c⟩
   .exact hF q e
  refine⟨λk p b x c=> ?_,λx c=>v x c⟩;cases k with
  |zero=>
   simp at b;subst b;rw[d];exact w x (am5 λq e m=>(hF q e).2 x (c _ (hF q e).1 m))
  |succ k=>exact u k p (by simpa using b) x c
def aa5{j:Act->World->Prop}:∀(L:List (Nat×Oper)) (F:List (Nat×(X->Prop))) (d:List (gW X)) (a:Act),
  bY P ops to le j L F d a->d.length=L.length/\∀(k:Nat) (p:Nat×Oper) (r:gW X),L[k]?=some p->d[k]?=some r->r.keep le/\((∃v,r=.fix v)\/p.2.dst.isSome=true\/∀R,r=.any R->∀u v x,R u x->R v x)
 |[],_,[],_,_=>⟨rfl,λk p r b=>by simp at b⟩
 |[],_,_::_,_,h=>h.elim
 |(i,o)::L,F,[],_,h=>h.elim
 |(i,o)::L,F,.fix v0::d,a,h=>by
  obtain⟨_,e⟩:=h;obtain⟨f,g⟩:=aa5 L F d _ e;refine⟨by simp[f],λk p r b c=> ?_⟩;cases k with
  |zero=>
   simp at c;subst c;exact⟨trivial,.inl ⟨_,rfl⟩⟩
  |succ k=>exact g k p r (by simpa using b) (by simpa using c)
 |(i,o)::L,F,.any R::d,a,h=>by
  obtain⟨hd,l,_,e⟩:=h;obtain⟨f,g⟩:=aa5 L _ d _ (e undef);refine⟨by simp[f],λk p r b c=> ?_⟩;cases k with
  |zero=>
   simp at c b;subst c b;exact⟨l,.inr (hd.imp id λhd R' m=>by cases m;exact hd)⟩
  |succ k=>exact g k p r (by simpa using b) (by simpa using c)
def aa6{g:Type}:∀(ks:List Nat) (c:List g) (k i:Nat) (r:g),ks.Nodup->ks[k]?=some i->c[k]?=some r->(ks.zip c).lookup i=some r
 |[],_,_,_,_,_,h,_=>by simp at h
 |a::ks,[],_,_,_,_,_,h=>by simp at h
 |a::ks,b::c,k,i,r,hn,h,hr=>by
  rw[vT] at hn;cases k with
  |zero=>
   simp at h hr;subst h hr;simp[List.lookup]
  |succ k=>
   have f:ks[k]?=some i:=by simpa using h
   have d:(i ==a)=false:=dk.2 λe=>hn.1 (e▸de f);simp only[List.zip_cons_cons,List.lookup,d];exact aa6 ks c k i r hn.2 f (by simpa using hr)
def aiP {l:List Oper}  (to:X->World) (le:X->X->Prop) (Y:∀x,le x x) (n:Nat) (b q:List Nat) (hB:ahd l n b q=true) (hd:adF l.toArray n a.tmps.size=true)
  (x0:X) (al:∀m,m<=n->bm.live m x0) (b7:∀i,i<n->bm.pend i x0) (hx:to x0=w.drew)
  (h:wpQuiet P l.toArray (λw'=>∃x,w'=to x) (λa1=>∃C,bY P l.toArray to le (wpList P l.toArray Q (l.drop n)) (pick l q) [] C a1) ((pick l b).map (·.2)) a):wpAny P .any l.toArray Q l.toArray.size (Array.replicate l.toArray.size false) a {w with drawn:=w.drawn+1}:=by
 simp only[ahd,ge,rb] at hB;obtain⟨⟨⟨⟨⟨⟨⟨⟨⟨ad,hn⟩,ht⟩,an⟩,a6⟩,N⟩,b3⟩,aa⟩,aR⟩,aU⟩:=hB;have b4:n<=l.toArray.size:=by simpa using hn
 have G:∀i,i<n->i∈b++q:=λi d=>by simpa using lP.1 b3 i (qz.2 d)
 have z:∀i∈b++q,i<n:=λi d=>by simpa using lP.1 aa i d
 have B:∀i,i<n->l.toArray[i]?=some (l.getD i default):=λi d=>by
  have b8:i<l.length:=bd d hn;simp[b8]
 have b5:∀F:List Nat,(pick l F).map (·.1)=F:=λF=>by simp[pick,Function.comp_def]
 obtain⟨V,⟨C,O⟩,hV⟩:=aeH (pick l b) a (by rw[b5];exact(List.nodup_append.1 N).1) h;obtain⟨a4,a2⟩:=aa5 _ _ _ _ O;have b9:C.length=q.length:=by rw[a4];simp[pick]
 let T:Nat->gW X:=λj=>(((b++q).zip (b.map (λi=>gW.fix (V i))++C)).lookup j).getD (.fix undef)
 have E:∀i∈b,T i=.fix (V i):=λi d=>by
  obtain⟨k,v⟩:=rE.1 d;have oV:k<b.length:=by
   rcases pr k b.length with h|h
   .exact h
   .rw[rq h] at v;cases v
  have:=aa6 (b++q) (b.map (λi=>gW.fix (V i))++C) k i (.fix (V i)) N (by rw[qw oV];exact v) (by rw[qw (by simpa using oV),qO,v];rfl);simp only[T,this,qp]
 have a0:∀k i r,q[k]?=some i->C[k]?=some r->T i=r:=λk i r v D=>by
  have:=aa6 (b++q) (b.map (λi=>gW.fix (V i))++C) (b.length+k) i r N (by rw[qm (by omega),rR];exact v)
   (by rw[qm (by simp),qi,rR];exact D)
  simp only[T,this,qp]
 have Z:∀(k:Nat) (p:Nat×Oper) (r:gW X),(pick l q)[k]?=some p->C[k]?=some r->T p.1=r:=λk p r g D=>by
  simp only[pick,qO,lw] at g;obtain⟨i,d,rfl⟩:=g;exact a0 k i r d D
 have a7:∀i,i<n->(i∈b/\T i=.fix (V i))\/∃k r,q[k]?=some i/\C[k]?=some r/\T i=r:=λi d=>by
  rcases oR.1 (G i d) with s|s
  .exact .inl ⟨s,E i s⟩
  .obtain⟨k,v⟩:=rE.1 s;have oV:k<C.length:=by
    rcases pr k q.length with h|h
    .omega
    .rw[rq h] at v;cases v
   exact .inr ⟨k,C[k],v,jp oV,a0 k i _ v (jp oV)⟩
 have ao:∀i,(T i).keep le:=λi=>by
  by_cases d:i<n
  .rcases a7 i d with⟨_,s⟩|⟨k,r,v,D,s⟩
   .rw[s];trivial
   .rw[s];exact(a2 k (i,l.getD i default) r (by simp[pick,v]) D).1
  .have:((b++q).zip (b.map (λi=>gW.fix (V i))++C)).lookup i=none:=by
    rw[List.lookup_eq_none_iff];intro p g;have s:=(List.of_mem_zip g).1;have:=z _ s;have af:i≠p.1:=λe=>d (by rw[e];exact this);simpa using af
   simp only[T,this,Option.getD_none];trivial
 have aJ:∀i,i∈b++q->(i,l.getD i default)∈pick l (b++q):=λi d=>qu.2 ⟨i,d,rfl⟩;have W:pick l (b++q)=pick l b++pick l q:=by simp[pick]
 have H:=aov (P:=P) (Q:=Q) (to:=to) (le:=le) b4 ad ht an a6 hd T ao ?any (pick l (b++q)) ?L ?L' ?lex ?fin x0 (al _ (aub _ _)) b7
 .rw[hx] at H;exact H
 case any=>
  intro i o d I;rcases a7 i d with⟨_,s⟩|⟨k,r,v,D,s⟩
  .exact .inl ⟨_,s⟩
  .rw[s];obtain rfl:o=l.getD i default:=dq (I.symm.trans (B i d));exact(a2 k (i,l.getD i default) r (by simp[pick,v]) D).2
 case L=>
  intro i o I d;obtain rfl:o=l.getD i default:=dq (I.symm.trans (B i d));exact aJ i (G i d)
 case L'=>
  intro p g;obtain⟨i,d,rfl⟩:=qu.1 g;exact⟨z i d,B i (z i d)⟩
 case lex=>
  intro i o d I U hU;obtain rfl:o=l.getD i default:=dq (I.symm.trans (B i d));obtain⟨hg,_⟩:=aah (n:=n) (T:=T) (U:=U) hU _ _ _ _ O Z (λp g=>by
   obtain⟨j,A,rfl⟩:=qu.1 g;exact z j (sV _ A)) (λp g=>by cases g)
  obtain⟨k,v⟩:=rE.1 (G i d);have a5:∀M:List (Nat×Oper),(∀p∈M,p.1∈b)->fT U a M=fT V a M:=λM hM=>nO M a λp g=>by rw[hU _ _ (E _ (hM p g))]
  have a3:∀p∈pick l b,p.1∈b:=λp g=>by
   obtain⟨j,A,rfl⟩:=qu.1 g;exact A
  refine⟨fT U a ((pick l (b++q)).take k), ?_, ?_, ?_⟩
  .refine⟨acI _ _ _,λt aZ=>nN _ _ _ λp g S=> ?_, ?_⟩
   .obtain⟨j,A,rfl⟩:=qu.1 (pu g);exact aZ j ⟨z j A,_,B j (z j A),S⟩
   .exact acJ _ _ _
  .intro t j ay A;have hw:=aeF a6 d I ay A;have b6:=(aeG (b++q) [] aU k i _ j v I A.1 hw).resolve_left (by simp);have aF:=A;obtain⟨ax,oj,b1,b2⟩:=aF;obtain rfl:oj=l.getD j default:=dq (b1.symm.trans (B j ax));refine abY U (o:=l.getD j default) _ a ?_ b2 (akQ hd A) λp g S=> ?_
   .rw[pick,<-List.map_take];exact qu.2 ⟨j,b6,rfl⟩
   .obtain⟨j',a9,rfl⟩:=qu.1 (pu g);exact aha hd ⟨z j' a9,_,B j' (z j' a9),S⟩ A
  .intro x hx;rcases pr k b.length with K|K
   .have mn:b[k]?=some i:=by rw[qw K] at v;exact v
    have a8:i∈b:=de mn;have kI:(pick l (b++q)).take k=(pick l b).take k:=by rw[W,List.take_append_of_le_length (by simp[pick];omega)]
    have hy:=hV k (i,l.getD i default) (by simp[pick,mn]);rw[kI,a5 _ λp g=>a3 p (pu g),E i a8];intro mq R ba Qx hQ;have aH:ag8 (l.getD i default).op=true:=lP.1 aR i a8;have J:=λy hy hl b0=>hQ (V i) y hy hl b0 rfl;unfold wpList;rcases hy with⟨hw,hq⟩|⟨hw,hq⟩
    .rw[eg hw];refine .inl ?_;have s:=hq (to x) ⟨x,rfl⟩;unfold Oper.quietAt at s;unfold Oper.wp;cases D:(execOp (fT V a (List.take k (pick l b))).eval (l.getD i default)).run P (to x) with
     |ok nx w'=>
      rw[D] at s;cases nx<;>simp only[Oper.quietUpon] at s
      case value u=>
       obtain⟨rfl,rfl⟩:=s;exact J x (Y x) (bm.down _ _ R) λ_ _ _ h=>h
      case skip=>
       obtain⟨rfl,h2⟩:=s;show Qx .normal _ _;rw[<-h2];exact J x (Y x) (bm.down _ _ R) λ_ _ _ h=>h
      case enter f args=>exact absurd D (ag9 aH)
     |halt c w'=>
      rw[D] at s;simp only[Oper.quietUpon] at s
    .rw[da (by rw[hw];exact qB)];have:=J x (Y x) (bm.down _ _ R) λ_ _ _ h=>h;rw[hq] at this;exact this
   .have jy:q[k-b.length]?=some i:=by rw[qm K] at v;exact v
    have kI:(pick l (b++q)).take k=pick l b++(pick l q).take (k-b.length):=by
     rw[W,List.take_append,pa (by simp[pick];omega)];simp[pick]
    rw[kI,adj,a5 _ a3];exact hg (k-b.length) (i,l.getD i default) (by simp[pick,jy]) x hx
 case fin=>
  intro U hU x hx;obtain⟨_,hf⟩:=aah (n:=n) (T:=T) (U:=U) hU _ _ _ _ O Z (λp g=>by
   obtain⟨j,A,rfl⟩:=qu.1 g;exact z j (sV _ A)) (λp g=>by cases g)
  have s:=hf x hx;rw[W,adj,nO (U:=U) (V:=V) (pick l b) a λp g=>by
   obtain⟨j,A,rfl⟩:=qu.1 g;exact hU _ _ (E j A)]
  simpa using s
def nP {l:List Oper}  (to:X->World) (le:X->X->Prop) (e:∀x,le x x) (n:Nat) (f g:List Nat) (q:P.follows .mixedOrders=true) (s:ahd l n f g=true) (j:adF l.toArray n a.tmps.size=true)
  (b:X) (c:∀m,m<=n->bm.live m b) (d:∀i,i<n->bm.pend i b) (o:to b=w.drew)
  (h:wpQuiet P l.toArray (λk=>∃x,k=to x) (λr=>∃p,bY P l.toArray to le (wpList P l.toArray Q (l.drop n)) (pick l g) [] p r) ((pick l f).map (·.2)) a):(Code.region Z l.toArray true).wp P Q a w:=
 wp_region_any q (aiP to le e n f g s j b c d o h)
end
end
section
variable {β:Bool}
open Go.RowKit
def aT(b:Below w.heap.size w w')(h:w.cell? p=some v):w'.cell? p=some v:=by
 refine(b.cell (p:=p) ?_).trans h;rcases pr p.block w.heap.size with a|c
 .exact a
 .simp[World.cell?,qk c] at h
def cY{a : World}(h:Below a.heap.size a w)(o:Obj):Below a.heap.size a (w.alloc o):=h.alloc h.size o
def bE(h:aX w g t cs)(o:Obj):aX (w.alloc o) g t cs:=(rI w o g h.lt).trans h
def bZ(h:aX w g t cs)(u:Value)(a:g≠p.block):aX (w.setCell p u) g t cs:=(iS w p u g a).trans h
def aQ(h:aX w g t cs)(b:bh S w w')(a:¬S g):aX w' g t cs:=(b.block g h.lt a).trans h
def av(w:World)(o:Obj):Below w.heap.size w (w.alloc o):=(du _ _).alloc (am _) _
def am8(a:Lcy E){xs:List V}{cs:List Value}(h:bB E Z w W hi xs cs)(c:Below w.heap.size w w')(b:hi<=w.heap.size):bB E Z w' W hi xs cs:=
 (bB.loc a).below h c b
def mK(h:w.alloc (.cells cs t)=x):Below w.heap.size w x/\w.heap.size+1<=x.heap.size/\aX x w.heap.size t cs/\(∀i,x.cell? ⟨w.heap.size,i,none⟩=cs[i]?)/\∀i,x.frozen? ⟨w.heap.size,i,none⟩=false:=by
 subst h;have k:=aX.new w t cs;exact⟨av _ _,by simp,k,k.cell,k.frozen⟩
def oP{u : TypeId}(h:(w.alloc (.cells cs t)).alloc (.cells T u)=x):Below w.heap.size w x/\w.heap.size+2<=x.heap.size/\aX x w.heap.size t cs/\(∀i,x.cell? ⟨w.heap.size,i,none⟩=cs[i]?)/\(∀i,x.frozen? ⟨w.heap.size,i,none⟩=false)/\
  aX x (w.heap.size+1) u T/\(∀i,x.cell? ⟨w.heap.size+1,i,none⟩=T[i]?)/\∀i,x.frozen? ⟨w.heap.size+1,i,none⟩=false:=by
 obtain⟨e,a,d,b,c⟩:=mK h;have k:=bE (aX.new w t cs) (.cells T u);rw[h] at k;simp only[mx] at a d b c;exact⟨h▸cY (av _ _) _,a,k,k.cell,k.frozen,d,b,c⟩
def adG{u v : TypeId}(h:((w.alloc (.cells cs t)).alloc (.cells T u)).alloc (.cells es v)=x):Below w.heap.size w x/\w.heap.size+3<=x.heap.size/\aX x w.heap.size t cs/\(∀i,x.cell? ⟨w.heap.size,i,none⟩=cs[i]?)/\(∀i,x.frozen? ⟨w.heap.size,i,none⟩=false)/\
  aX x (w.heap.size+1) u T/\(∀i,x.cell? ⟨w.heap.size+1,i,none⟩=T[i]?)/\(∀i,x.frozen? ⟨w.heap.size+1,i,none⟩=false)/\aX x (w.heap.size+1+1) v es/\(∀i,x.cell? ⟨w.heap.size+1+1,i,none⟩=es[i]?)/\∀i,x.frozen? ⟨w.heap.size+1+1,i,none⟩=false:=by
 obtain⟨e,a,d,b,c⟩:=mK h;have k:=bE (bE (aX.new w t cs) (.cells T u)) (.cells es v);have l:=bE (aX.new (w.alloc (.cells cs t)) u T) (.cells es v);rw[h] at k l;simp only[mx] at a d b c l;exact⟨h▸cY (cY (av _ _) _) _,a,k,k.cell,k.frozen,l,l.cell,l.frozen,d,b,c⟩
structure fp (w:World) where
 to:World
 ok:Below w.heap.size w to
instance aue(w:World):Nonempty (fp w):=⟨⟨w,du _ _⟩⟩
def ae(h:w.cell? p=some v):∀x:fp w,x.to.cell? p=some v:=λx=>aT x.ok h
def aN {id:Nat}   {l:List Oper} (c:P.follows .mixedOrders=true) (e:Region.lexB .any l.toArray=true)
  (h:wpQuiet P l.toArray (λb=>∃x:fp w,b=x.to) (λd=>∀b,(∃x:fp w,b=x.to)->Q .normal d b) l a):(Code.region id l.toArray true).wp P Q a w:=
 wp_region_quiet (C:=λb=>∃x:fp w,b=x.to) c e ⟨⟨w.drew,⟨rfl,rfl,rfl,am _,λ_ _=>rfl⟩⟩,rfl⟩ (by simpa using h)
def bC(h:∃x:fp w,w'=x.to):Below w.heap.size w w':=by
 obtain⟨x,rfl⟩:=h;exact x.ok
def dS  {args:Array Value} {x:fp w} 
  (h:Calls P f args x.to λe b=>e=.returned v/\Below x.to.heap.size x.to b):Calls P f args x.to λe a=>e=.returned v/\∃y:fp w,a=y.to:=
 h.mono λ_ c ⟨he,hb⟩=>⟨he,⟨⟨c,x.ok.trans (hb.mono x.ok.size)⟩,rfl⟩⟩
def dT  {args:Array Value} {x:fp w} 
  (h:Calls P f args x.to λe b=>e=.returned v/\x.to=b):Calls P f args x.to λe a=>e=.returned v/\∃y:fp w,a=y.to:=
 h.mono λ_ _ ⟨he,hb⟩=>⟨he,⟨x,hb.symm⟩⟩
instance axA(w:World):bm (fp w):=⟨λ_ _=>True,λ_ _ _=>trivial,λ_ _=>True⟩
def fp.le{w:World}(x y:fp w):Prop:=Below x.to.heap.size x.to y.to
def fp.le_refl(x:fp w):fp.le x x:=du _ _
def fp.mk'{w:World}(x:fp w){w':World}(h:Below x.to.heap.size x.to w'):fp w:=⟨w',x.ok.trans (h.mono x.ok.size)⟩
def aC   {l:List Oper}  (n:Nat) (a b:List Nat) (d:P.follows .mixedOrders=true:=by kernel_rfl) (g:ahd l n a b=true:=by kernel_rfl) (c:adF l.toArray n X.tmps.size=true:=by kernel_rfl)
  (h:wpQuiet P l.toArray (λe=>∃x:fp w,e=x.to) (λf=>∃i:List (gW (fp w)),bY P l.toArray (fp.to (w:=w)) (fp.le (w:=w)) (wpList P l.toArray Q (l.drop n)) (pick l b) [] i f) ((pick l a).map (·.2)) X):(Code.region Z l.toArray true).wp P Q X w:=
 nP (fp.to (w:=w)) (fp.le (w:=w)) fp.le_refl n a b d g c ⟨w.drew,⟨rfl,rfl,rfl,am _,λ_ _=>rfl⟩⟩ (λ_ _=>trivial) (λ_ _=>trivial) rfl h
section
variable {P:Program} {ops:Array Oper} {w:World} {Qt:Act->World->Prop} {i:Nat} {o:Oper} {l:List (Nat×Oper)} {F:List (Nat×(fp w->Prop))} {Rs:List (gW (fp w))} {a:Act}
def bc (R:Value->World->Prop) (f:o.dst.isSome=true) (j:∀v x y,R v x->Below x.heap.size x y->R v y)
  (q:∀x:fp w,oO F o x->∀b:Exit->Act->World->Prop,(∀v c,Below x.to.heap.size x.to c->R v c->b .normal (a.put o.dst v) c)->wpList P ops b [o] a x.to)
  (g:∀v,bY P ops (fp.to (w:=w)) (fp.le (w:=w)) Qt l ((i,λx=>R v x.to)::F) Rs (a.put o.dst v)):bY P ops (fp.to (w:=w)) (fp.le (w:=w)) Qt ((i,o)::l) F (.any (λv x=>R v x.to)::Rs) a:=
 je (X:=fp w) (to:=fp.to (w:=w)) (le:=fp.le (w:=w)) (λv x=>R v x.to) (.inl f) (λv x y h d=>j v x.to y.to h d) (λx n m _ _ b k=>q x n b λv c e p=>k v (x.mk' e) e trivial (λ_ _ _ _=>trivial) p) g
def dL (c:Value)
  (g:∀x:fp w,oO F o x->∀b:Exit->Act->World->Prop,(∀d,Below x.to.heap.size x.to d->b .normal (a.put o.dst c) d)->wpList P ops b [o] a x.to)
  (f:bY P ops (fp.to (w:=w)) (fp.le (w:=w)) Qt l F Rs (a.put o.dst c)):bY P ops (fp.to (w:=w)) (fp.le (w:=w)) Qt ((i,o)::l) F (.fix c::Rs) a:=
 am6 (X:=fp w) (to:=fp.to (w:=w)) (le:=fp.le (w:=w)) c (λx k m _ _ b j=>g x k b λd e=>j (x.mk' e) e trivial λ_ _ _ _=>trivial) f
def aS(h:∀b,Below w.heap.size w b->∀x:fp w,x.to=b->dP F x->Qt a b):bY P ops (fp.to (w:=w)) (fp.le (w:=w)) Qt [] F [] a:=
 adY (X:=fp w) (to:=fp.to (w:=w)) (le:=fp.le (w:=w)) λx c=>h x.to x.ok x rfl c
end
def eE(base:Nat)(e:TypeId)(v:Value)(w:World):Prop:=∃g,v=.slice (some ⟨g,0,none⟩) 0 0/\base<=g/\aX w g e #[]
def eE.own{base:Nat}(h:eE base e v w)(b:Nat):w.ownsRow base e b v 0 []:=by
 obtain⟨g,rfl,c,a⟩:=h;exact⟨by simp,.inr ⟨g,0,#[],rfl,c,a,am _,by unfold maxLen;omega,by simp,by simp⟩⟩
def ah(h:aX w g t cs)(a:Below w.heap.size w w'):aX w' g t cs:=(a.block g h.lt).trans h
def eE.keep{base:Nat}(h:eE base e v w)(c:Below w.heap.size w w'):eE base e v w':=by
 obtain⟨g,rfl,b,a⟩:=h;exact⟨g,rfl,b,ah a c⟩
def eE.new(w:World){base:Nat}(e:TypeId)(a:base<=w.heap.size):eE base e (.slice (some ⟨w.heap.size,0,none⟩) 0 0) (w.alloc (.cells #[] e)):=⟨_,rfl,a,aX.new _ _ _⟩
def akS(base:Nat)(e:TypeId)(es:Array Value)(v:Value)(w:World):Prop:=∃g,v=.slice (some ⟨g,0,none⟩) 1 1/\base<=g/\aX w g e es
def akS.keep{base:Nat}(h:akS base e es v w)(c:Below w.heap.size w w'):akS base e es v w':=by
 obtain⟨g,rfl,b,a⟩:=h;exact⟨g,rfl,b,ah a c⟩
def akS.new(w:World){base:Nat}(e:TypeId)(es:Array Value)(a:base<=w.heap.size):akS base e es (.slice (some ⟨w.heap.size,0,none⟩) 1 1) (w.alloc (.cells es e)):=⟨_,rfl,a,aX.new _ _ _⟩
end
section
variable {β:Bool}
open Go.RowKit
def ahe(p:Prop)(e:Ending):Prop:=(e=.returned (.bool true)/\p)\/e=.returned (.bool false)
def ahe.of{q:Bool}{p:Prop}(h:q=true->p):ahe p (.returned (.bool q)):=by
 cases q
 .exact .inr rfl
 .exact .inl ⟨rfl,h rfl⟩
def nm(b:Nat):Bool:=decide (97<=b)&&decide (b<=101)
def jq(s:ByteArray):Bool:=if h:s.size=1 then nm (s[0]'(by omega)).toNat else if h:s.size=3 then nm (s[0]'(by omega)).toNat&&(decide ((s[1]'(by omega)).toNat=47)&&nm (s[2]'(by omega)).toNat) else false
def dR(s:ByteArray):Bool:=decide (s.size<=40)&&(bs s).all pD
def lD(h:jq s=true):s.size=1\/s.size=3:=by
 unfold jq at h;split at h
 .exact .inl (by assumption)
 .split at h
  .exact .inr (by assumption)
  .cases h
def pG(b:Nat)(w:World) :
  Calls (ai β) 98 #[.int .u8 b] w λe f=>e=.returned (.bool (nm b))/\w=f:=by
 by_cases c:97<=b
 .by_cases a:b<=101
  .have e:nm b=true:=by unfold nm;rw[dj c,dj a];rfl
   rw[e];have d:=dj (show(b:Int)<=101 by omega);go_enter xw,ntmps98;go_wp2;go_ret;exact⟨rfl,rfl⟩
  .have e:nm b=false:=by unfold nm;rw[db a,Bool.and_false]
   rw[e];have d:=db (show ¬((b:Int)<=101) by omega);go_enter xw,ntmps98;go_wp2;go_ret;exact⟨rfl,rfl⟩
 .have e:nm b=false:=by unfold nm;rw[db c,uX]
  rw[e];go_enter xw,ntmps98;go_wp2;go_ret;exact⟨rfl,rfl⟩
def lF(s:ByteArray)(f:s.size<=maxLen)(w:World) :
  Calls (ai β) 68 #[.string s] w λe d=>e=.returned (.bool (dR s))/\w=d:=by
 by_cases b:s.size<=40
 .have a:(bs s).all pD=dR s:=by unfold dR;rw[dj b,vC]
  replace a:=ab a;have c:=dj (show(s.size:Int)<=40 by omega);go_enter xU,ntmps68;go_wp2;refine(afy s f w).mono ?_;rintro e g ⟨rfl,rfl⟩;rw[a.out];go_wp2;go_ret;exact⟨rfl,rfl⟩
 .have c:=db (show ¬((s.size:Int)<=40) by omega);have e:dR s=false:=by unfold dR;rw[db b,uX]
  rw[e];go_enter xU,ntmps68;go_wp2;go_ret;exact⟨rfl,rfl⟩
def aeI(s:ByteArray)(n:Nat)(H:s.size*n<=100)(G:s.size<=100)(j:n<=100)(w:World) :
  Calls (ai β) 70 #[.string s,.int .i64 n] w λe r=>(∃t:ByteArray,e=.returned (.string t)/\t.size<=100)/\w=r:=by
 go_enter zv,ntmps70;go_wp2
 go_loop [0,1,5] (λa i o=>∃(x y:ByteArray) (k:Nat),a=.string x/\i=.int .i64 k/\o=.string y/\y.size+x.size*k<=100/\x.size<=200/\k<=100) (λ_ i _=>(intOf i).toNat)
 case atStart=>exact⟨s,⟨#[]⟩,n,rfl,rfl,rfl,by show 0+_<=_;omega,by omega,j⟩
 case round=>
  obtain⟨x,y,k,rfl,rfl,rfl,f,D,F⟩:=hrel;have d:(x++x).size=x.size+x.size:=by rw[<-aO,iI,aE,aO]
  have c:(y++x).size=y.size+x.size:=by rw[<-aO,iI,aE,aO,aO]
  by_cases v:k=0
  .subst v;go_wp2;go_ret;exact⟨⟨y,rfl,by omega⟩,rfl⟩
  .have A:x.size<=100:=by
    have:x.size*1<=x.size*k:=Nat.mul_le_mul_left _ (by omega);omega
   obtain⟨m,p⟩:∃m,m=k / 2:=⟨_,rfl⟩;have E:(k:Int) / 2=((m:Nat):Int):=by omega
   have C:0<(k:Int):=by omega
   have z:m<=100/\m<k:=by omega
   have u:y.size<=100:=by omega
   rcases vx k with l|l
   .have q:(k:Int) % 2=0:=by omega
    have b:(x.size+x.size)*m=x.size*k:=by
     have:k=2*m:=by omega
     rw[this,<-Nat.two_mul,tQ 2,Nat.mul_assoc]
    have g:=ab b;replace d:=ab d;replace f:=ab f;clear b c l p;go_wp2
    go_round
    case rel=>exact⟨x++x,y,m,rfl,rfl,rfl,by rw[d.out,g.out];exact f.out,by rw[d.out];omega,by omega⟩
    simp[intOf];omega
   .have q:(k:Int) % 2=1:=by omega
    have b:y.size+x.size+(x.size+x.size)*m=y.size+x.size*k:=by
     have:k=2*m+1:=by omega
     rw[this,Nat.mul_add,<-Nat.two_mul,tQ 2,Nat.mul_assoc,Nat.mul_one];omega
    have g:=ab b;replace d:=ab d;replace c:=ab c;replace f:=ab f;clear b p;have B:(((k:Int) % 2) ==1)=true:=by rw[q];rfl
    go_wp2
    go_round
    case rel=>exact⟨x++x,y++x,m,rfl,rfl,rfl,by rw[d.out,c.out,g.out];exact f.out,by rw[d.out];omega,by omega⟩
    simp[intOf];omega
def jA(s:ByteArray)(p:s.size<=maxLen)(w:World) :
  Calls (ai β) 67 #[.string s] w λe o=>e=.returned (.bool (jq s))/\w=o:=by
 unfold maxLen at p;by_cases j:s.size=1
 .have m:((s.size:Int) ==1)=true:=by rw[j];rfl
  have a:0<s.size:=by omega
  have g:nm (s[0]'a).toNat=jq s:=by unfold jq;rw[tX j]
  have q:=ab g;have HC:=ab (pG (β:=β) (s[0]'a).toNat w);go_enter wV,ntmps67;go_wp2;refine HC.out.mono ?_;rintro e i ⟨rfl,rfl⟩;rw[q.out];go_wp2;go_ret;exact⟨rfl,rfl⟩
 .by_cases k:s.size=3
  .have m:((s.size:Int) ==1)=false:=dk.2 (by omega);have n:((s.size:Int) ==3)=true:=by rw[k];rfl
   have a:0<s.size:=by omega
   have b:1<s.size:=by omega
   have f:2<s.size:=by omega
   have g:jq s=(nm (s[0]'a).toNat&&(decide ((s[1]'b).toNat=47)&&nm (s[2]'f).toNat)):=by unfold jq;rw[dif_neg j,tX k]
   have HC:=ab (pG (β:=β) (s[0]'a).toNat w);have c:=ab (pG (β:=β) (s[2]'f).toNat w);rw[g];revert HC;revert c;generalize nm (s[0]'a).toNat=q0;generalize nm (s[2]'f).toNat=q2;intro c HC;cases q0
   .go_enter wV,ntmps67;go_wp2;refine HC.out.mono ?_;rintro e i ⟨rfl,rfl⟩;go_wp2;go_ret;exact⟨rfl,rfl⟩
   .by_cases d:(s[1]'b).toNat=47
    .rw[dj d];have l:(((s[1]'b).toNat:Int) ==47)=true:=by rw[d];rfl
     go_enter wV,ntmps67;go_wp2;refine HC.out.mono ?_;rintro e i ⟨rfl,rfl⟩;go_wp2;refine c.out.mono ?_;rintro e i ⟨rfl,rfl⟩;go_wp2;go_ret;exact⟨by cases q2<;>rfl,rfl⟩
    .rw[db d];have l:(((s[1]'b).toNat:Int) ==47)=false:=dk.2 (by omega);go_enter wV,ntmps67;go_wp2;refine HC.out.mono ?_;rintro e i ⟨rfl,rfl⟩;go_wp2;go_ret;exact⟨rfl,rfl⟩
  .have m:((s.size:Int) ==1)=false:=dk.2 (by omega);have n:((s.size:Int) ==3)=false:=dk.2 (by omega);have g:jq s=false:=by unfold jq;rw[dif_neg j,dif_neg k]
   rw[g];go_enter wV,ntmps67;go_wp2;go_ret;exact⟨rfl,rfl⟩
def mL(s t:ByteArray):Bool:=if h:0<s.size/\0<t.size then(if s.size=t.size then false else((s[0]'h.1).toNat:Int) ==((t[0]'h.2).toNat:Int)) else false
def ahf(s t:ByteArray)(o:0<s.size/\s.size<=maxLen)(n:0<t.size/\t.size<=maxLen)(w:World) :
  Calls (ai β) 89 #[.string s,.string t] w λe l=>e=.returned (.bool (mL s t))/\Below w.heap.size w l:=by
 obtain⟨a,j⟩:=o;obtain⟨b,k⟩:=n;by_cases i:s.size=t.size
 .have f:mL s t=false:=by unfold mL;rw[tX ⟨a,b⟩,eg i]
  rw[f];go_enter xN,ntmps89;go_wp2;refine aC 12 [0,1,2,3,4,5,6,7,8,9,10,11] [] (h:= ?_);simp only[pick,List.map,gt,gE];repeat(go_big_quiet_step (fail))
  refine io ?_;apply Exists.intro;refine aS ?_;intro p g m d c;dsimp only[dP] at c;try rw[d] at c
  simp only[List.drop];go_wp2;go_ret;exact⟨rfl,g⟩
 .have q:((s.size:Int) !=(t.size:Int))=true:=by simp;omega
  have f:mL s t=(((s[0]'a).toNat:Int) ==((t[0]'b).toNat:Int)):=by unfold mL;rw[tX ⟨a,b⟩,da i]
  rw[f];go_enter xN,ntmps89;go_wp2;refine aC 12 [0,1,2,3,4,5,6,7,8,9,10,11] [] (h:= ?_);simp only[pick,List.map,gt,gE];repeat(go_big_quiet_step (fail))
  refine io ?_;apply Exists.intro;refine aS ?_;intro p g m d c;dsimp only[dP] at c;try rw[d] at c
  simp only[List.drop];go_wp2;go_ret;exact⟨rfl,g⟩
def dig(x:Nat):Int:=((x:Int)-97) % 256
def pH(l:List Nat)(p:Nat):Bool:=(dig (l.getD (p-1) 0)+2*dig (l.getD (p-2) 0)+3*dig (l.getD (p-3) 0)) % 5 ==0
def aai(h:k<s.size):(bs s).getD k 0=(s[k]'h).toNat:=by rw[sZ,aa2 h];rfl
def akT(s:ByteArray)(p:Nat)(u:3<=p/\p<s.size)(q:s.size<=maxLen)(w:World) :
  Calls (ai β) 151 #[.string s,.int .i64 p] w λe o=>e=.returned (.bool (pH (bs s) p))/\Below w.heap.size w o:=by
 unfold maxLen at q;obtain⟨a,j⟩:∃a,a=p-1:=⟨_,rfl⟩;obtain⟨b,g⟩:∃b,b=p-2:=⟨_,rfl⟩;obtain⟨c,l⟩:∃c,c=p-3:=⟨_,rfl⟩;have k:a<s.size:=by omega
 have d:b<s.size:=by omega
 have f:c<s.size:=by omega
 have y:(p:Int)-1=((a:Nat):Int):=by omega
 have x:(p:Int)-2=((b:Nat):Int):=by omega
 have z:(p:Int)-3=((c:Nat):Int):=by omega
 have r:(p:Int)<=9223372036854775807:=by omega
 have i:pH (bs s) p=((dig (s[a]'k).toNat+2*dig (s[b]'d).toNat+3*dig (s[c]'f).toNat) % 5 ==0):=by unfold pH;rw[<-j,<-g,<-l,aai k,aai d,aai f]
 rw[i];clear j g l i;go_enter yC,ntmps151;go_wp2;refine aC 24 [0,1,2,3,4,5,6,7,8,9,10,11,12,13,14,15,16,17,18,19,20,21,22,23] [] (h:= ?_);simp only[pick,List.map,gt,gE];repeat(go_big_quiet_step (fail))
 refine io ?_;apply Exists.intro;refine aS ?_;intro A t v n m;dsimp only[dP] at m;try rw[n] at m
 simp only[List.drop];go_wp2;go_ret;exact⟨aB rfl,t⟩
end
section
variable {β:Bool}
open Go.RowKit
structure Flat (α:Type) where
 sz:Nat
 cells:α->List Value
 good:α->Prop
 len:∀x,(cells x).length=sz
 one:∀x,∀u∈cells x,u.oneCell'=true
 pos:0<sz
def bV{α:Type}(F:Flat α):fW α:=λ_ _ _ x a=>a=F.cells x/\F.good x
section
variable {α:Type} (F:Flat α)
def bV.loc:Lcy (bV F):=⟨λ_ _ _ h=>h⟩
def eh(xs:List α):List Value:=xs.flatMap F.cells
def nQ(xs a:List α):eh F (xs++a)=eh F xs++eh F a:=tz
def aeJ(x:α):eh F [x]=F.cells x:=by simp[eh]
def eu:∀a:List α,(eh F a).length=a.length*F.sz
 |[]=>by simp[eh]
 |x::a=>by
  show(F.cells x++eh F a).length=_;rw[aE,eu a,F.len,gc,rz,Nat.add_comm]
def eB:∀(a:List α) (i j:Nat) (x:α) (u:Value),a[i]?=some x->(F.cells x)[j]?=some u->(eh F a)[i*F.sz+j]?=some u
 |[],i,j,x,u,h,_=>by simp at h
 |g::a,i,j,x,u,h,hj=>by
  have b:=aD hj;rw[F.len] at b;show(F.cells g++eh F a)[i*F.sz+j]?=some u;cases i with
  |zero=>
   simp at h;subst h;rw[qw (by rw[F.len,uP,me];exact b),uP,me];exact hj
  |succ i=>
   have e:(i+1)*F.sz+j=F.sz+(i*F.sz+j):=by rw[rz];omega
   rw[e,qm (by rw[F.len];omega),F.len,rR];exact eB a i j x u (by simpa using h) hj
def aow{xs:List α}(h:(eh F xs)[j]?=some u):∃x,xs[j / F.sz]?=some x/\(F.cells x)[j % F.sz]?=some u:=by
 have a:=aD h;rw[eu] at a;have d:j / F.sz<xs.length:=wn (by rw[tQ];exact a);refine⟨xs[j / F.sz],jp d, ?_⟩;have b:j % F.sz<(F.cells xs[j / F.sz]).length:=by rw[F.len];exact tG _ F.pos
 have c:=eB F xs (j / F.sz) (j % F.sz) xs[j / F.sz] _ (jp d) (jp b);rw[vO] at c;rw[jp b,<-c,h]
def acK(xs:List α):∀u∈eh F xs,u.oneCell'=true:=by
 intro u a;obtain⟨g,_,b⟩:=sK.1 a;exact F.one g u b
def aL(e:TypeId)(w:World)(base:Nat)(v:Value)(xs:List α):Prop:=w.ownsRow base e F.sz v xs.length (eh F xs)
variable {F}
def aL.sl{base : Nat}{xs:List α}(h:aL F e w base v xs)(c:∀x∈xs,F.good x)(a:w.heap.size<=hi):bB (bV F) F.sz w base hi xs [v]:=
 axw h a λi x hi=>⟨F.cells x,F.len x,⟨rfl,c x (de hi)⟩,λ_ _ b=>eB F xs i _ x _ hi b⟩
def aiR{base : Nat}(h:w.ownsRow base e Z v n N)(d:base'<=base):w.ownsRow base' e Z v n N:=by
 refine⟨h.1, ?_⟩;rcases h.2 with f|⟨g,cap,b,rfl,c,a⟩
 .exact .inl f
 .exact .inr ⟨g,cap,b,rfl,ap d c,a⟩
def aL.base{base : Nat}{xs:List α}(h:aL F e w base v xs)(a:base'<=base):aL F e w base' v xs:=aiR h a
def aL.nil(e:TypeId)(w:World)(base:Nat):aL F e w base (.slice none 0 0) []:=uu _ _ _ _
def aL.aiS{base:Nat}(h:eE base e v w):aL F e w base v []:=h.own F.sz
def aL.below{base:Nat}{xs:List α}(h:aL F e w base v xs)(a:Below w.heap.size w w'):aL F e w' base v xs:=aeC h a
def aL.fe{base:Nat}{xs:List α}(h:aL F e w base v xs)(c:bh S w w')(a:∀b,v.ownBlock=some b->¬S b):aL F e w' base v xs:=adX h c a
def aL.at_{base:Nat}{xs:List α}(h:aL F e w base v xs)(a:v.ownBlock=some g):base<=g/\g<w.heap.size:=h.lt g a
def aL.bj{base:Nat}{xs:List α}(h:aL F e w base v xs)(u:Value)(c:p.block<base):aL F e (w.setCell p u) base v xs:=
 h.fe (S:=λb=>b=p.block) ((bh.refl (λb=>b=p.block) w).setCell (p:=p) (.inl rfl) u) λb a e=>by have:=h.at_ a;omega
def aox{base : Nat}{e' : TypeId}{v' : Value}{cs : List Value}(h:w.ownsRow base e Z v n cs)(m:w.ownsRow base' e' W v' c N)(o:e≠e'):∀b,v.ownBlock=some b->v'.ownBlock≠some b:=by
 intro b d a;rcases h.2 with⟨rfl,_⟩|⟨g,cap,l,rfl,_,j,_⟩
 .simp[Value.ownBlock] at d
 .rcases m.2 with⟨rfl,_⟩|⟨p,i,k,rfl,_,f,_⟩
  .simp[Value.ownBlock] at a
  .simp[Value.ownBlock] at d a;rw[d] at j;rw[a,j] at f;simp at f;exact o f.2
def aL.aqM{base:Nat}{xs:List α}(h:aL F e w base v xs)(u:Value)(a:∀b,v.ownBlock=some b->b≠p.block):aL F e (w.setCell p u) base v xs:=
 h.fe (S:=λb=>b=p.block) ((bh.refl (λb=>b=p.block) w).setCell (p:=p) (.inl rfl) u) a
def aL.form{base:Nat}{xs:List α}(h:aL F e w base v xs):∃A c,v=.slice A xs.length c:=gV h
def acL:∀(a:List α) (i j:Nat) (x y:α) (u:Value),a[i]?=some x->j<F.sz->F.cells y=(F.cells x).set j u->eh F (a.set i y)=(eh F a).set (i*F.sz+j) u
 |[],i,j,x,y,u,h,_,_=>by simp at h
 |z::a,0,j,x,y,u,h,hj,hy=>by
  simp at h;subst h;show F.cells y++eh F a=(F.cells z++eh F a).set (0*F.sz+j) u
  rw[uP,me,List.set_append_left _ _ (by rw[F.len];exact hj),hy]
 |z::a,i+1,j,x,y,u,h,hj,hy=>by
  show F.cells z++eh F (a.set i y)=(F.cells z++eh F a).set ((i+1)*F.sz+j) u
  have e:(i+1)*F.sz+j=F.sz+(i*F.sz+j):=by rw[rz];omega
  rw[e,uM _ _ (by rw[F.len];omega),F.len,rR,acL a i j x y u (by simpa using h) hj hy]
def aL.put{base cap : Nat}{xs:List α}(h:aL F e w base (.slice (some ⟨g,0,none⟩) xs.length cap) xs){x y:α}(c:xs[i]?=some x)(a:j<F.sz)(b:F.cells y=(F.cells x).set j u) :
  aL F e (w.setCell ⟨g,i*F.sz+j,none⟩ u) base (.slice (some ⟨g,0,none⟩) xs.length cap) (xs.set i y):=by
 unfold aL;rw[acL xs i j x y u c a b,qY];exact(h.stored _ u).1
def aL.cell{base cap : Nat}{xs:List α}(h:aL F e w base (.slice (some ⟨g,0,none⟩) xs.length cap) xs){x:α}(b:xs[i]?=some x)(a:(F.cells x)[j]?=some u):w.cell? ⟨g,i*F.sz+j,none⟩=some u:=by
 have c:=aD a;rw[F.len] at c;have d:=aD b;have f:(i+1)*F.sz<=xs.length*F.sz:=qP _ d;rw[rz] at f;rw[h.cellAt _ (by omega)];exact eB F xs i j x u b a
def aL.frozen{base cap : Nat}{xs:List α}(h:aL F e w base (.slice (some ⟨g,0,none⟩) n cap) xs)(a:n=xs.length)(j:Nat):w.frozen? ⟨g,j,none⟩=false:=by
 subst a;exact h.frozenAt j
def aL.some_{base:Nat}{xs:List α}(h:aL F e w base v xs)(b:0<xs.length):∃g c,v=.slice (some ⟨g,0,none⟩) xs.length c:=by
 rcases h.2 with⟨_,d⟩|⟨g,cap,a,rfl,_⟩
 .omega
 .exact⟨g,cap,rfl⟩
def lG{xs:List α}(h:bB (bV F) F.sz w Z hi xs [.slice A n c])(t:hi<=w.heap.size) :
  0<xs.length->∃a,A=some a/\∀(j:Nat) (u:Value),(eh F xs)[j]?=some u->∀f,Below w.heap.size w f->f.cell? (a.add j)=some u:=by
 intro k;obtain⟨x,p⟩:=aq k;obtain⟨b,d,_,rfl,_⟩:=h.at_ p;refine⟨_,rfl,λj u m f o=> ?_⟩;obtain⟨y,l,g⟩:=aow F m;obtain⟨s,v,r,e,_,_,_,⟨rfl,_⟩,q⟩:=h.at_ l;simp only[mt,qC,qx] at e;obtain⟨rfl,rfl⟩:=e;have i:(⟨b,d,none⟩:Addr).add j=⟨b,d+j,none⟩:=by unfold Addr.add;split<;>simp_all
 rw[i];have:=q _ _ g;rw[vz,vO] at this;exact aT o this
def bB.good{xs:List α}{cs:List Value}(h:bB (bV F) F.sz w Z hi xs cs):∀x∈xs,F.good x:=λx b=>by
 obtain⟨c,a⟩:=h.aqz x b;exact a.2
end
def nk:Flat Int:=⟨1,λx=>[.int .i64 x],cE,λ_=>rfl,λx u a=>by rw[pi.1 a];rfl,by decide⟩
section
variable {P:Program}
def aiT {ty : TypeId} (p:iy P t e Z W) {base:Nat} (r:eE base e v w)
  {news:List Value} (D:news.length=m*Z) (F:0<m->∃a,A=some a/\∀(j:Nat) (u:Value),news[j]?=some u->w.cell? (a.add j)=some u) (J:∀u∈news,u.oneCell'=true)
  (Q:m<=1099511627776) (l:base<=w.heap.size) :
  ∃E s,(Builtin.append_ #[t,t] ty #[v,.slice A m c]).run P w=.ok E s/\s.ownsRow base e Z E m news/\Below w.heap.size w s:=by
 obtain⟨i,z,G,M,B,C,R⟩:=p.info;have o:=r.own Z;obtain⟨K,I,d,y⟩:=am0 (P:=P) (ty:=ty) p o (c:=c) D F J (by omega) l;have b:=y.own;rw[me,qX] at b;refine⟨K,I,d,b, ?_⟩;obtain⟨g,rfl,N,H⟩:=r;rcases qg m with x|x
 .subst x;have q:news=[]:=qT (by simpa using D);subst q;have k:(Builtin.append_ #[t,t] ty #[.slice (some ⟨g,0,none⟩) 0 0,.slice A 0 c]).run P w=.ok (.slice (some ⟨g,0,none⟩) 0 0) w:=by
   cases A<;>simp[Builtin.append_,mu p.slice,sizeOf,typeInfo,G,Builtin.lenOf,Builtin.firstCells,storeCells,loadCells,loadCellsFrom]
  rw[k] at d;cases d;exact du _ _
 .obtain⟨L,rfl,n⟩:=F x;have f:m*W<=140737488355328:=ap (Nat.mul_le_mul Q p.small) (by omega);have k:=run_append_grow (P:=P) w t ty e i z p.slice G M ⟨g,0,none⟩ 0 0 [] (by simp) (λj u O=>by simp at O) L m c news (by rw[B];exact D) n (by omega) (by omega) (growslice_fits (by omega) (by rw[C,me];exact f));rw[k] at d;cases d;exact((du _ _).drew).alloc (am _) _
variable {α:Type} {F:Flat α}
def np (n:Below w.heap.size w x)     (g:o.guard=none) (s y:Operand) (t:TypeId)
  (D:o.op=.call ⟨.builtin .append,#[s,y],#[t,t]⟩)
  (B:iy P t e F.sz Z) {xs:List α} {base : Nat} (p:base<=w.heap.size) (I:a.eval s=v) (E:a.eval y=.slice A xs.length c) (l:eE base e v x)
  (m:0<xs.length->∃a,A=some a/\∀(j:Nat) (u:Value),(eh F xs)[j]?=some u->∀d,Below w.heap.size w d->d.cell? (a.add j)=some u) (J:xs.length<=1099511627776)
  (h:∀f i,Below x.heap.size x i->aL F e i base f xs->wpList P Y R rest (a.put o.dst f) i):wpList P Y R (o::rest) a x:=by
 obtain⟨f,d,G,b,k⟩:=aiT (P:=P) (ty:=o.type) B l (c:=c) (eu F xs) (λC=>by
  obtain⟨z,r,L⟩:=m C;exact⟨z,r,λj u H=>L j u H _ n⟩) (acK F xs) J (ap p n.size)
 refine wpList_plain g λK q=> ?_;unfold Oper.wp execOp;simp only[D,resolve,invoke,builtin,tP,ug,uv,List.map_toArray,sF,List.map_nil,I,E,G];exact q _ _ (h f d k b)
def aiU {x:fp w}    (g:o.guard=none) (s y:Operand) (t:TypeId)
  (i:o.op=.call ⟨.builtin .append,#[s,y],#[t,t]⟩)
  (n:iy P t e F.sz Z) {xs:List α} {base : Nat} (q:base<=w.heap.size) (r:a.eval s=v) (p:a.eval y=.slice A xs.length c) (k:eE base e v x.to)
  (l:0<xs.length->∃a,A=some a/\∀(j:Nat) (u:Value),(eh F xs)[j]?=some u->∀m,Below w.heap.size w m->m.cell? (a.add j)=some u) (z:xs.length<=1099511627776)
  (h:∀d (f:fp w),fp.le x f->aL F e f.to base d xs->R .normal (a.put o.dst d) f.to):wpList P Y R [o] a x.to:=
 np x.ok g s y t i n q r p k l z λd f b i=>h d (x.mk' b) b i
def cH      (j:o.guard=none) (s x:Operand) (t:TypeId)
  (n:o.op=.call ⟨.builtin .append,#[s,x],#[t,t]⟩)
  (m:iy P t e F.sz Z) {base:Nat} {xs:List α} (y:α) (p:a.eval s=v) (f:aL F e w base v xs) {T:TypeId} (q:a.eval x=.slice (some ⟨w.heap.size,0,none⟩) 1 1) (d:es.toList=F.cells y)
  (r:xs.length<=1099511627775) (c:base<=w.heap.size)
  (h:∀i g,aL F e g base i (xs++[y])->bh (λb=>v.ownBlock=some b) w g->(∀b,i.ownBlock=some b->v.ownBlock=some b\/w.heap.size<=b)->wpList P Y Q rest (a.put o.dst i) g) :
  wpList P Y Q (o::rest) a (w.alloc (.cells es T)):=
 am1 j s x t n m p f q (by rw[<-qS,d,F.len]) (by rw[d];exact F.one y) r c λi g k=>h i g (by
  have l:=k.own;unfold aL;rw[nQ,aeJ,aE];rw[d] at l;exact l) k.fe k.at_
def agb      (k:o.guard=none) (s x:Operand) (t:TypeId)
  (r:o.op=.call ⟨.builtin .append,#[s,x],#[t,t]⟩)
  (q:iy P t e F.sz Z) {base:Nat} {xs:List α} (y:α) (B:a.eval s=v) (d:aL F e w base v xs)  {T:TypeId} (C:a.eval x=.slice (some ⟨g,0,none⟩) 1 1) (p:aX w g T es) (m:es.toList=F.cells y)
  (D:xs.length<=1099511627775) (c:base<=w.heap.size)
  (h:∀i f,aL F e f base i (xs++[y])->bh (λb=>v.ownBlock=some b) w f->(∀b,i.ownBlock=some b->v.ownBlock=some b\/w.heap.size<=b)->wpList P Y Q rest (a.put o.dst i) f) :
  wpList P Y Q (o::rest) a w:=
 aeD k s x t r q B d C (news:=F.cells y) (by rw[F.len,Nat.one_mul]) (λ_=>⟨_,rfl,λj u z=>by
  have n:(⟨g,0,none⟩:Addr).add j=⟨g,j,none⟩:=by unfold Addr.add;split<;>simp_all
  rw[n,p.cell,<-fi,m];exact z⟩) (F.one y) (by omega) c λi f l=>h i f (by
  have A:=l.own;unfold aL;rw[nQ,aeJ,aE];exact A) l.fe l.at_
end
end
section
variable {β:Bool}
open Go.RowKit
def Typed(w:World)(T:List TypeId)(b:Nat):Prop:=∃t∈T,∃a,aX w b t a
structure dM {α:Type} (E:fW α) (T:List TypeId):Prop where
 go:∀{w w':World} {lo hi fg hi':Nat} {x:α} {cs:List Value},
  (∀b,lo<=b->b<hi->Typed w T b->w'.heap[b]?=w.heap[b]?)->fg<=lo->hi<=hi'->E w lo hi x cs->E w' fg hi' x cs
section
variable {α:Type} {E:fW α} {T:List TypeId}
def dM.loc(d:dM E T):Lcy E:=⟨λh a c e=>d.go (λb a c _=>h b a c) a c e⟩
def dM.more(d:dM E T){U:List TypeId}(f:∀t∈T,t∈U):dM E U:=⟨λh c a e=>d.go (λb c a ⟨t,ht,hd⟩=>h b c a ⟨t,f t ht,hd⟩) c a e⟩
def dM.below(a:dM E T){B : Nat}{x:α}{cs:List Value}(h:E w Z hi x cs)(c:Below B w w')(b:hi<=B):E w' Z hi x cs:=a.loc.below h c b
def dM.wide(a:dM E T){fg hi' : Nat}{x:α}{cs:List Value}(h:E w Z hi x cs)(c:fg<=Z)(b:hi<=hi'):E w fg hi' x cs:=a.loc.wide h c b
def cI(h:aX w b t cs)(a:aX w b O es):t=O:=by
 unfold aX at h a;rw[h] at a;simp at a;exact a.2
def dM.fe(c:dM E T){x:α}{cs:List Value}(h:E w Z hi x cs)(i:bh S w w')(f:∀b,Z<=b->b<hi->Typed w T b->¬S b):E w' Z hi x cs:=
 c.go (λb g e a=>i.block b (by obtain⟨_,_,_,d⟩:=a;exact d.lt) (f b g e a)) (am _) (am _) h
def bV.ar{α:Type}(F:Flat α):dM (bV F) []:=⟨λ_ _ _ h=>h⟩
def eK(e:TypeId)(E:fW α)(sz:Nat):fW (List α):=λw i j f d=>
 bB E sz w i j f d/\(0<f.length->∀b a n c,d=[.slice (some ⟨b,a,none⟩) n c]->∃g,aX w b e g)
def eK.ar(F:dM E T)  :dM (eK e E Z) (e::T):=by
 refine⟨?_⟩;intro w M S R Q l P O s o B ⟨⟨A,c,a,D,K,h⟩,p⟩;refine⟨⟨A,c,a,D,K,λm=> ?_⟩,λm b f n N r=> ?_⟩
 .obtain⟨b,f,rfl,k,g,J⟩:=h m;have q:=p m b f _ _ a;refine⟨b,f,rfl,ap o k,bd g B,λi x l=> ?_⟩;obtain⟨H,G,L,d⟩:=J i x l;exact⟨H,G,F.go (λb k g ⟨t,p,hd⟩=>s b k g ⟨t,rh _ p,hd⟩) o B L,λj u I=>(qy (s b k g ⟨e,qD,q⟩)).trans (d j u I)⟩
 .obtain⟨z,C,y,k,g,_⟩:=h m;rw[a,y] at r;simp only[qj,nF,mt,qC,qx] at r;obtain⟨⟨rfl,rfl⟩,_,_⟩:=r;have q:=p m z C _ _ (a.trans (by rw[y]));obtain⟨v,hd⟩:=q;exact⟨v,(s z k g ⟨e,qD,v,hd⟩).trans hd⟩
def eK.form{xs:List α}(h:eK e E Z w W hi xs [v]):∃A c,v=.slice A xs.length c:=h.1.form
def gX(E:fW α)(sz:Nat)(e:TypeId)(w:World)(lo base:Nat)(v:Value)(xs:List α):Prop:=
 ∃cells:List Value,w.ownsRow base e sz v xs.length cells/\(∀u∈cells,u.oneCell'=true)/\
  ∀i x,xs[i]?=some x->∃a:List Value,a.length=sz/\E w lo w.heap.size x a/\∀j u,a[j]?=some u->cells[i*sz+j]?=some u
variable {sz:Nat} {e:TypeId}
def gX.form{base : Nat}{xs:List α}(h:gX E sz e w Z base v xs):∃A c,v=.slice A xs.length c:=by
 obtain⟨cells,h,_⟩:=h;exact gV h
def gX.at_{base : Nat}{xs:List α}(h:gX E sz e w Z base v xs)(a:v.ownBlock=some g):base<=g/\g<w.heap.size:=by
 obtain⟨cells,h,_⟩:=h;exact h.lt g a
def gX.blk{base : Nat}{xs:List α}(h:gX E sz e w Z base v xs)(a:v.ownBlock=some g):∃d,aX w g e d:=by
 obtain⟨cells,h,_⟩:=h;rcases h.2 with⟨rfl,_⟩|⟨f,cap,b,rfl,_,c,_⟩
 .cases a
 .cases a;exact⟨_,c⟩
def gX.aiS{base : Nat}(h:eE base e v w):gX E sz e w Z base v []:=⟨[],h.own sz,λ_ h=>(by cases h),λi x h=>(by simp at h)⟩
def gX.sl{base : Nat}{xs:List α}(h:gX E sz e w Z base v xs)(m:Z<=base):eK e E sz w Z w.heap.size xs [v]:=by
 have K:=λg t=>h.blk (g:=g) t;obtain⟨cells,p,_,s⟩:=h;refine⟨?_,λA b C n c q=> ?_⟩
 .obtain⟨L,G⟩:=p;rcases G with⟨rfl,a⟩|⟨g,cap,d,rfl,l,r,o,k,H,B⟩
  .exact⟨none,0,by rw[a],by omega,by unfold maxLen;omega,λA=>by omega⟩
  .refine⟨_,cap,rfl,o,k,λ_=>⟨g,0,rfl,ap m l,(dl.1 r).1,λi x I=> ?_⟩⟩;obtain⟨D,m,J,z⟩:=s i x I;refine⟨D,m,J,λj u F=> ?_⟩;have f:=z j u F;rw[<-B,qA] at f;split at f
   .rw[cell_of_row w g (0+i*sz+j) d _ (0,0) r,me];simpa using f
   .cases f
 .simp only[qj,qx] at q;subst q;rcases p.2 with⟨a,_⟩|⟨g,cap,d,a,_,y,_⟩
  .cases a
  .cases a;exact⟨_,y⟩
def gX.fe(f:dM E T){base : Nat}{xs:List α}(h:gX E sz e w Z base v xs)(d:bh S w w')(o:∀b,v.ownBlock=some b->¬S b)(p:∀b,Z<=b->Typed w T b->¬S b):gX E sz e w' Z base v xs:=by
 obtain⟨cells,q,k,g⟩:=h;refine⟨cells,adX q d o,k,λi x n=> ?_⟩;obtain⟨j,a,b,c⟩:=g i x n;exact⟨j,a,f.wide (f.fe b d λb l _ m=>p b l m) (am _) d.size,c⟩
def gX.below(a:dM E T){base : Nat}{xs:List α}(h:gX E sz e w Z base v xs)(b:Below w.heap.size w w'):gX E sz e w' Z base v xs:=
 h.fe a (bh.aM (S:=λ_=>False) b) (λ_ _ h=>h) λ_ _ _ h=>h
def aL.deep{α:Type}{F:Flat α}{base:Nat}{xs:List α}(h:aL F e w base v xs)(b:∀x∈xs,F.good x)(d:Nat):gX (bV F) F.sz e w d base v xs:=
 ⟨_,h,acK F xs,λi x a=>⟨F.cells x,F.len x,⟨rfl,b x (de a)⟩,λ_ _ c=>eB F xs i _ x _ a c⟩⟩
end
section
variable {P:Program} {α:Type} {E:fW α} {T:List TypeId} {sz:Nat} {e:TypeId}
def aiV (L:dM E T) (F:e∉T)      (B:o.guard=none) (s x:Operand) (t:TypeId)
  (ho:o.op=.call ⟨.builtin .append,#[s,x],#[t,t]⟩)
  (C:iy P t e sz Z) {base : Nat} {xs:List α} (y:α) (hs:a.eval s=v) (c:gX E sz e w W base v xs)  (hx:a.eval x=.slice (some ⟨w.heap.size,0,none⟩) 1 1) (p:es.toList.length=sz) (K:∀u∈es.toList,u.oneCell'=true) (hy:E w W w.heap.size y es.toList)
  (hn:xs.length<=1099511627775) (k:base<=w.heap.size)
  (h:∀n f,gX E sz e f W base n (xs++[y])->bh (λb=>v.ownBlock=some b) w f->(∀b,n.ownBlock=some b->v.ownBlock=some b\/w.heap.size<=b)->wpList P Y Q rest (a.put o.dst n) f) :
  wpList P Y Q (o::rest) a (w.alloc (.cells es O)):=by
 have D:=λg U=>c.blk (g:=g) U;obtain⟨cells,c,R,N⟩:=c;have jb:cells.length=xs.length*sz:=c.1;refine am1 B s x t ho C hs c hx (by rw[<-qS,p]) K hn k λn f q=>h n f ⟨cells++es.toList, ?_, ?_, ?_⟩ q.fe q.at_
 .have:=q.own;rw[aE];exact this
 .intro u d;rcases oR.1 d with d|d
  .exact R u d
  .exact K u d
 .have M:∀{z:α} {r:List Value},E w W w.heap.size z r->E f W f.heap.size z r:=λH=>
   L.wide (L.fe H q.fe λb _ _ ⟨t',ht',ds,hd⟩ he=>by
    obtain⟨X,J⟩:=D b he;exact F (cI J hd▸ht')) (am _) q.fe.size
  intro i z l;rcases pr i xs.length with m|V
  .rw[qw m] at l;obtain⟨r,G,H,I⟩:=N i z l;refine⟨r,G,M H,λj u d=> ?_⟩;have hj:=aD d;have S:(i+1)*sz<=xs.length*sz:=qP _ m;rw[rz] at S;rw[qw (by omega)];exact I j u d
  .rw[qm V] at l;have:i-xs.length=0:=by have:=aD l;simp at this;omega
   rw[this] at l;simp at l;subst l;have A:i=xs.length:=by omega
   refine⟨es.toList,p,M hy,λj u d=> ?_⟩;rw[A,qm (by omega),jb,rR];exact d
end
section
variable {α:Type} {E:fW α}
def aeL(b o i:Nat):(⟨b,o,none⟩:Addr).add i=⟨b,o+i,none⟩:=by unfold Addr.add;split<;>simp_all
def eK.am9{xs:List α}(h:eK e E Z w W hi xs [.slice A n c])(H:k<=xs.length):eK e E Z w W hi (xs.drop k) [.slice (if c=k then A else A.map λx=>x.add (k*Z)) (xs.length-k) (c-k)]:=by
 obtain⟨⟨A',s,o,I,J,r⟩,t⟩:=h;simp only[qj,nF,qx] at o;obtain⟨rfl,rfl,rfl⟩:=o;refine⟨⟨_,c-k,by rw[qr],by rw[qr];omega,by omega,λm=> ?_⟩,λm b g G s l=> ?_⟩
 .rw[qr] at m;have d:¬c=k:=by omega
  have a:0<xs.length:=by omega
  obtain⟨b,g,rfl,q,p,f⟩:=r a;refine⟨b,g+k*Z,by rw[da d];simp[Addr.add],q,p,λi x hi=> ?_⟩;rw[sO] at hi;obtain⟨B,D,v,z⟩:=f _ _ hi;refine⟨B,D,v,λj u F=> ?_⟩;have:=z j u F;rw[<-this,Nat.add_mul]
  congr 2
  omega
 .rw[qr] at m;have d:¬c=k:=by omega
  have a:0<xs.length:=by omega
  obtain⟨C,y,rfl,q,p,f⟩:=r a;rw[da d] at l;simp only[qs,aeL,qj,nF,mt,qC,qx] at l;obtain⟨⟨rfl,_⟩,_⟩:=l;exact t a C y _ _ rfl
def eK.adk{xs:List α}(h:eK e E Z w W hi xs [.slice A n c])(u:k<=xs.length):eK e E Z w W hi (xs.take k) [.slice A k c]:=by
 obtain⟨⟨A',o,j,v,s,r⟩,p⟩:=h;simp only[qj,nF,qx] at j;obtain⟨rfl,rfl,rfl⟩:=j;have d:(xs.take k).length=k:=by rw[fa];omega
 refine⟨⟨_,c,by rw[d],by rw[d];omega,s,λg=> ?_⟩,λg b a t o l=> ?_⟩
 .rw[d] at g;obtain⟨b,a,rfl,q,m,f⟩:=r (by omega);refine⟨b,a,rfl,q,m,λi x hi=> ?_⟩;rw[qA] at hi;split at hi
  .exact f _ _ hi
  .cases hi
 .rw[d] at g;simp only[qj,nF,qx] at l;obtain⟨rfl,rfl,rfl⟩:=l;exact p (by omega) b a _ _ rfl
end
def ab0{F:Flat V}{base : Nat}{xs:List V}(c:aX w g e cs)(a:cs.toList=eh F xs)(f:base<=g)(i:n=xs.length)(b:n<=maxLen):aL F e w base (.slice (some ⟨g,0,none⟩) n n) xs:=by
 subst i;have d:cs.toList.length=xs.length*F.sz:=by rw[a,eu]
 exact⟨eu F xs,.inr ⟨g,xs.length,cs,rfl,f,c,am _,b,by rw[<-qS];exact d,by rw[a,pa (by rw[eu];exact am _)]⟩⟩
end
section
variable {β:Bool}
structure Sp where
 n:Int
 p:Int
def adH(l:List Sp):Prop:=l.Pairwise λa b=>a.n<b.n
def spP(s:Sp):Prop:=(0<=s.n/\s.n<=999999999988)/\(1<=s.p/\s.p<=99)
def ixP(l:List Sp):Prop:=(∀s∈l,spP s)/\adH l
def gY(s:Sp):List Sp->List Sp
 |[]=>[s]
 |x::xs=>if s.n<x.n then s::x::xs else if x.n<s.n then x::gY s xs else s::xs
def ab1{s x:Sp}:∀{l:List Sp},x∈gY s l->x=s\/x∈l
 |[],h=>by have:x∈[s]:=h;simp at this;exact .inl this
 |y::l,h=>by
  have a:x∈(if s.n<y.n then s::y::l else if y.n<s.n then y::gY s l else s::l):=h;split at a
  .rcases pb.1 a with e|e
   .exact .inl e
   .exact .inr e
  .split at a
   .rcases pb.1 a with e|e
    .exact .inr (by rw[e];simp)
    .rcases ab1 e with e|e
     .exact .inl e
     .exact .inr (by simp[e])
   .rcases pb.1 a with e|e
    .exact .inl e
    .exact .inr (by simp[e])
def aug{s:Sp}:∀{l:List Sp},s∈gY s l
 |[]=>by show s∈[s];simp
 |y::l=>by
  show s∈(if s.n<y.n then s::y::l else if y.n<s.n then y::gY s l else s::l);split
  .simp
  .split
   .exact rh _ aug
   .simp
def aeM{s:Sp}:∀{l:List Sp},adH l->adH (gY s l)
 |[],_=>un _ _
 |y::l,h=>by
  have c:=uh.1 h;show adH (if s.n<y.n then s::y::l else if y.n<s.n then y::gY s l else s::l);split
  .rename_i b;refine uh.2 ⟨λz a=> ?_,h⟩;rcases pb.1 a with rfl|a
   .exact b
   .have:=c.1 z a;omega
  .split
   .rename_i b;refine uh.2 ⟨λz a=> ?_,aeM c.2⟩;rcases ab1 a with rfl|a
    .exact b
    .exact c.1 z a
   .refine uh.2 ⟨λz a=> ?_,c.2⟩;have:=c.1 z a;omega
def auh{s:Sp}{l:List Sp}(h:ixP l)(b:spP s):ixP (gY s l):=⟨λx a=>by
 rcases ab1 a with rfl|a
 .exact b
 .exact h.1 x a,aeM h.2⟩
def aeN{s:Sp}:∀{l:List Sp},(gY s l).length<=l.length+1
 |[]=>by show[s].length<=_;simp
 |y::l=>by
  show(if s.n<y.n then s::y::l else if y.n<s.n then y::gY s l else s::l).length<=_;split
  .simp
  .split
   .have:=aeN (s:=s) (l:=l);simp;omega
   .simp
def ab2{s:Sp}:∀{a b:List Sp},(∀x∈a,x.n<s.n)->gY s (a++b)=a++gY s b
 |[],_,_=>rfl
 |x::a,b,h=>by
  have d:=h x (by simp);show(if s.n<x.n then s::x::(a++b) else if x.n<s.n then x::gY s (a++b) else s::(a++b))=x::(a++gY s b);rw[da (by omega),eg d,ab2 λy c=>h y (by simp[c])]
def agc{s x:Sp}(c:s.n<x.n):∀{a b:List Sp},gY s (a++x::b)=gY s a++x::b
 |[],b=>by
  show(if s.n<x.n then s::x::b else _)=[s]++x::b;rw[eg c];rfl
 |y::a,b=>by
  show(if s.n<y.n then s::y::(a++x::b) else if y.n<s.n then y::gY s (a++x::b) else s::(a++x::b))=(if s.n<y.n then s::y::a else if y.n<s.n then y::gY s a else s::a)++x::b;split
  .rfl
  .split
   .rw[agc c];rfl
   .rfl
inductive Tr where
 |nil
 |node (b:Nat) (s:Sp) (l r:Tr)
namespace Tr
end Tr
def fG:List Sp->List Sp->List Sp
 |[],l=>l
 |s::ss,l=>fG ss (gY s l)
def ab3:∀(a b l:List Sp),fG (a++b) l=fG b (fG a l)
 |[],_,_=>rfl
 |s::a,b,l=>ab3 a b (gY s l)
def agd:∀{a l:List Sp},adH l->adH (fG a l)
 |[],_,h=>h
 |s::a,l,h=>by show adH (fG a (gY s l));exact agd (aeM h)
def aiW:∀{a l:List Sp},ixP l->(∀s∈a,spP s)->ixP (fG a l)
 |[],_,h,_=>h
 |s::a,l,h,hs=>by show ixP (fG a (gY s l));exact aiW (auh h (hs s (by simp))) λx b=>hs x (by simp[b])
def age:∀{a l:List Sp},(fG a l).length<=a.length+l.length
 |[],_=>by show _<=_;simp[fG]
 |s::a,l=>by
  have b:=age (a:=a) (l:=gY s l);have c:=aeN (s:=s) (l:=l);show(fG a (gY s l)).length<=_;simp only[gc];omega
def aoy{s:Sp}{l:List Sp}(h:∀x∈l,x.n<s.n):gY s l=l++[s]:=by
 have:=ab2 (s:=s) (a:=l) (b:=[]) h;rw[sj] at this;rw[this];rfl
def pI(n:Int):List Sp->Int
 |[]=>0
 |x::xs=>if x.n=n then x.p else pI n xs
end
section
variable {β:Bool}
open Go.RowKit
structure aV (w:World) (s:Nat) (ty:TypeId) (S:Nat->Prop) (pre:List Nat) where
 to:World
 done:Bool
 ok:bh (λb=>done=true/\S b) w to
section
variable {w:World} {s:Nat} {ty:TypeId} {S:Nat->Prop} {pre:List Nat}
instance as4:Nonempty (aV w s ty S pre):=⟨⟨w,false,bh.refl _ _⟩⟩
instance awp:bm (aV w s ty S pre):=⟨λ_ _=>True,λ_ _ _=>trivial,λi x=>i=s\/i∈pre->x.done=false⟩
def aV.le(x y:aV w s ty S pre):Prop:=
 (y.done=x.done/\Below x.to.heap.size x.to y.to)\/(x.done=false/\y.done=true/\bh (λb=>S b\/(w.heap.size<=b/\∃a:Array Value,aX x.to b ty a)) x.to y.to)
def aV.le_refl(x:aV w s ty S pre):aV.le x x:=.inl ⟨rfl,du _ _⟩
def aV.le.till{x y:aV w s ty S pre}(h:aV.le x y)(b:y.done=false):x.done=false/\Below x.to.heap.size x.to y.to:=by
 rcases h with⟨a,c⟩|⟨_,a,_⟩
 .exact⟨a▸b,c⟩
 .rw[b] at a;cases a
def aV.le.from_{x y:aV w s ty S pre}(h:aV.le x y)(b:x.done=true):y.done=true/\Below x.to.heap.size x.to y.to:=by
 rcases h with⟨a,c⟩|⟨a,_⟩
 .exact⟨a.trans b,c⟩
 .rw[b] at a;cases a
def eH(h:w.cell? p=some v)(b:¬S p.block):∀x:aV w s ty S pre,x.to.cell? p=some v:=λx=>by
 have a:=tC w p h;unfold World.cell? at h ⊢;rw[x.ok.block p.block a λh=>b h.2];exact h
def aV.till(x:aV w s ty S pre)(a:x.done=false):Below w.heap.size w x.to:=⟨x.ok.os,x.ok.tape,x.ok.output,x.ok.size,λb c=>x.ok.block b c λh=>by rw[a] at h;cases h.1⟩
def aV.all(x:aV w s ty S pre)(c:∀b,¬S b):Below w.heap.size w x.to:=⟨x.ok.os,x.ok.tape,x.ok.output,x.ok.size,λb a=>x.ok.block b a λh=>c b h.2⟩
def aV.on(x:aV w s ty S pre){w2:World}(hb:Below x.to.heap.size x.to w2):aV w s ty S pre:=⟨w2,x.done,x.ok.trans (bh.aM (S:=λb=>x.done=true/\S b) hb) λ_ _ e=>e⟩
def aV.did(x:aV w s ty S pre){w2:World}(hc:bh (λb=>S b\/(w.heap.size<=b/\∃a:Array Value,aX x.to b ty a)) x.to w2):aV w s ty S pre:=
 ⟨w2,true,(x.ok.mono (T:=λb=>true=true/\S b) λ_ _ h=>⟨rfl,h.2⟩).trans hc λb c h=>by
  rcases h with h|h
  .exact⟨rfl,h⟩
  .omega⟩
def aeO     (s:Nat) (ty:TypeId) (S:Nat->Prop) (pre:List Nat) (n:Nat) (a b:List Nat) (f:P.follows .mixedOrders=true) (i:ahd M n a b=true) (c:adF M.toArray n X.tmps.size=true)
  (h:wpQuiet P M.toArray (λd=>∃x:aV w s ty S pre,d=x.to) (λg=>∃e:List (gW (aV w s ty S pre)),bY P M.toArray (aV.to (w:=w)) (aV.le (w:=w)) (wpList P M.toArray Q (M.drop n)) (pick M b) [] e g) ((pick M a).map (·.2)) X):(Code.region Z M.toArray true).wp P Q X w:=
 nP (aV.to (w:=w)) (aV.le (w:=w)) aV.le_refl n a b f i c ⟨w.drew,false,(bh.refl _ _).drew⟩ (λ_ _=>trivial) (λ_ _ _=>rfl) rfl h
variable {P:Program} {ops:Array Oper} {Qt:Act->World->Prop} {i:Nat} {o:Oper} {L:List (Nat×Oper)} {F:List (Nat×(aV w s ty S pre->Prop))} {Rs:List (gW (aV w s ty S pre))} {a:Act}
def aeP (R:Value->aV w s ty S pre->Prop) (e:o.dst.isSome=true) (j:∀v x y,R v x->aV.le x y->R v y)
  (p:∀x:aV w s ty S pre,oO F o x->(i∈pre->x.done=false)->∀c:Exit->Act->World->Prop,(∀v d (b:Below x.to.heap.size x.to d),R v (x.on b)->c .normal (a.put o.dst v) d)->wpList P ops c [o] a x.to)
  (g:∀v,bY P ops (aV.to (w:=w)) (aV.le (w:=w)) Qt L ((i,λx=>R v x)::F) Rs (a.put o.dst v)):bY P ops (aV.to (w:=w)) (aV.le (w:=w)) Qt ((i,o)::L) F (.any R::Rs) a:=
 je (to:=aV.to (w:=w)) (le:=aV.le (w:=w)) R (.inl e) j (λx m _ _ f c k=>p x m (λl=>f (.inr l)) c λv d b n=>
  k v (x.on b) (.inl ⟨rfl,b⟩) trivial (λ_ _ _ h=>h) n) g
def ahg (c:Value)
  (j:∀x:aV w s ty S pre,oO F o x->(i∈pre->x.done=false)->∀b:Exit->Act->World->Prop,(∀d,Below x.to.heap.size x.to d->b .normal (a.put o.dst c) d)->wpList P ops b [o] a x.to)
  (g:bY P ops (aV.to (w:=w)) (aV.le (w:=w)) Qt L F Rs (a.put o.dst c)):bY P ops (aV.to (w:=w)) (aV.le (w:=w)) Qt ((i,o)::L) F (.fix c::Rs) a:=
 am6 (to:=aV.to (w:=w)) (le:=aV.le (w:=w)) c (λx m _ _ f b k=>j x m (λl=>f (.inr l)) b λd e=>k (x.on e) (.inl ⟨rfl,e⟩) trivial λ_ _ _ h=>h) g
def axB (R:Value->aV w s ty S pre->Prop) (m:o.dst.isSome=true) (hi':i=s) (f:∀j∈pre,Behind ops i j) (q:∀v x y,R v x->aV.le x y->R v y)
  (A:∀x:aV w s ty S pre,oO F o x->x.done=false->∀c:Exit->Act->World->Prop,(∀v k (d:bh (λb=>S b\/(w.heap.size<=b/\∃z:Array Value,aX x.to b ty z)) x.to k),R v (x.did d)->c .normal (a.put o.dst v) k)->wpList P ops c [o] a x.to)
  (n:∀v,bY P ops (aV.to (w:=w)) (aV.le (w:=w)) Qt L ((i,λx=>R v x)::F) Rs (a.put o.dst v)):bY P ops (aV.to (w:=w)) (aV.le (w:=w)) Qt ((i,o)::L) F (.any R::Rs) a:=
 je (to:=aV.to (w:=w)) (le:=aV.le (w:=w)) R (.inl m) q (λx t _ _ l c r=>A x t (l (.inl hi')) c λv k d p=>
  r v (x.did d) (.inr ⟨l (.inl hi'),rfl,d⟩) trivial (λj u g _ e=>e.elim (λe=>absurd (e.trans hi'.symm) u) λe=>absurd (f j e) g) p) n
def aqN(h:∀x:aV w s ty S pre,dP F x->Qt a x.to):bY P ops (aV.to (w:=w)) (aV.le (w:=w)) Qt [] F [] a:=adY h
def axC{F:Flat V}{base:Nat}{xs:List V}(c:aL F e x base v xs)(a:v.ownBlock=some b):base<=b/\∃f:Array Value,aX x b e f:=by
 refine⟨(c.at_ a).1, ?_⟩;rcases c.2 with⟨rfl,_⟩|⟨i,cap,d,rfl,_,g,_⟩
 .cases a
 .cases a;exact⟨_,g⟩
end
end
section
variable {β:Bool}
open Go.RowKit
structure my (w:World) (aeQ:List Nat) (fl:Nat->Bool) (ty:TypeId) (S:Nat->Prop) where
 to:World
 st:Nat
 ok:bh (λb=>0<st/\S b) w to
 lim:st<=aeQ.length
section
variable {w:World} {aeQ:List Nat} {fl:Nat->Bool} {ty:TypeId} {S:Nat->Prop}
instance as5:Nonempty (my w aeQ fl ty S):=⟨⟨w,0,bh.refl _ _,ff _⟩⟩
instance awq:bm (my w aeQ fl ty S):=⟨λ_ _=>True,λ_ _ _=>trivial,λi x=>∀k,aeQ[k]?=some i->x.st<=k⟩
def my.may(x:my w aeQ fl ty S)(b:Nat):Prop:=S b\/(fl x.st=true/\w.heap.size<=b/\∃a:Array Value,aX x.to b ty a)
def my.le(x y:my w aeQ fl ty S):Prop:=(y.st=x.st/\Below x.to.heap.size x.to y.to)\/(y.st=x.st+1/\bh x.may x.to y.to)
def my.le_refl(x:my w aeQ fl ty S):my.le x x:=.inl ⟨rfl,du _ _⟩
def my.le.fe{x y:my w aeQ fl ty S}(h:my.le x y):bh x.may x.to y.to:=by
 rcases h with⟨_,h⟩|⟨_,h⟩
 .exact bh.aM h
 .exact h
variable {P:Program} {ops:Array Oper} {Qt:Act->World->Prop} {i:Nat} {o:Oper} {L:List (Nat×Oper)} {F:List (Nat×(my w aeQ fl ty S->Prop))} {Rs:List (gW (my w aeQ fl ty S))} {a:Act}
end
end
section
variable {β:Bool}
open Go.RowKit
def FSp:Flat Sp:=⟨2,λs=>[.int .i64 s.n,.int .i64 s.p],λx=>cE x.n/\cE x.p,λ_=>rfl,λx u a=>by simp at a;rcases a with rfl|rfl<;>rfl,by decide⟩
def aaj:iy (ai β) 115 152 2 16:=iy.mk' yq (z:=.agg #[.int .i64 0,.int .i64 0]) (by kernel_rfl) rfl (by decide) (by decide)
end
section
variable {β:Bool}
open Go.RowKit
def aa7(F:FuncId):Prop:=∀(args:Array Value) (w:World),(callFunc F args).run (ai β) w=.ok (.enter F args) w
def adI{fn:Func}{c:Code}(b:(ai β).funcs[f]?=some fn)(a:(fn.name == "runtime.NumGoroutine")=false)(e:fn.body=some c):aa7 (β:=β) f:=by
 intro args w;have d:fn.name ≠ "runtime.NumGoroutine" :=by simpa using a
 simp[callFunc,b,d,e]
def akU(xs f:List Int)(s t:Value)(w:World)(F hi fg hi':Nat)(p:bB aaq 1 w F hi xs [s])(r:bB aaq 1 w fg hi' f [t]) :
  Calls (ai β) 53 #[s,t] w λe v=>e=.returned (.bool (decide (xs=f)))/\∃n,v=w.drewN n:=by
 obtain⟨A,c,rfl⟩:=p.form;obtain⟨L,J,rfl⟩:=r.form;obtain⟨_,I,E⟩:=p.len_;unfold maxLen at E;by_cases a:xs.length=f.length
 .have B:((xs.length:Int) !=f.length)=false:=by rw[qJ];omega
  replace a:=ab a;go_enter xX,ntmps53;go_wp2;go_loopw [5] (λi wr=>∃k:Nat,k<=xs.length/\i=.int .i64 k/\xs.take k=f.take k/\∃n,wr=w.drewN n) (λi _=>xs.length-(intOf i).toNat)
  case atStart=>exact⟨0,ff _,rfl,rfl,0,rfl⟩
  case round=>
   obtain⟨k,G,rfl,m,n,rfl⟩:=hrel;replace m:=ab m;by_cases o:k<xs.length
   .obtain⟨x,j⟩:=aq o;obtain⟨y,g⟩:=aq (l:=f) (k:=k) (by have:=a.out;omega);obtain⟨b,C,rfl,_,_,_,q⟩:=p.ints_at j;obtain⟨K,H,rfl,_,_,_,D⟩:=r.ints_at g;have z:(k:Int)<(f.length:Int):=by have:=a.out;omega
    replace j:=ab j;replace g:=ab g;by_cases d:x=y
    .have u:(x !=y)=false:=by rw[qJ];exact d
     replace d:=ab d;go_wp2
     go_quiet (fail)
     go_wp2;go_roundw
     case rel=>exact⟨k+1,by omega,by go_num,by rw[li j.out,li g.out,m.out,d.out],_,rfl⟩
     simp[intOf];omega
    .have u:(x !=y)=true:=by rw[rM];exact d
     replace d:=ab d;go_wp2
     go_quiet (fail)
     go_wp2;go_ret;exact⟨aB (by symm;rw[tA];rintro rfl;exact d.out (dq (j.out.symm.trans g.out))),by first|exact⟨_,rfl⟩|exact⟨_,World.drewN_drewN _ _ _⟩⟩
   .obtain rfl:k=xs.length:=by omega
    go_wp2;go_ret;exact⟨aB (by symm;rw[decide_eq_true_iff];have:=m.out;rw[ip,pa (by have:=a.out;omega)] at this;exact this),n,rfl⟩
 .have B:((xs.length:Int) !=f.length)=true:=by rw[rM];omega
  replace a:=ab a;go_enter xX,ntmps53;go_wp2;go_ret;exact⟨aB (by symm;simp;intro e;exact a.out (by rw[e])),0,rfl⟩
end
section
variable {β:Bool}
open Go.RowKit
abbrev RSp:fW Sp:=bV FSp
def RSp.loc:Lcy RSp:=bV.loc FSp
def awr{xs:List Sp}(h:bB RSp 2 w Z hi xs [.slice A n c]){x:Sp}(g:xs[k]?=some x) :
  ∃b a,A=some ⟨b,a,none⟩/\Z<=b/\b<hi/\(cE x.n/\cE x.p)/\w.cell? ⟨b,a+k*2,none⟩=some (.int .i64 x.n)/\w.cell? ⟨b,a+k*2+1,none⟩=some (.int .i64 x.p):=by
 obtain⟨b,a,l,rfl,i,f,j,⟨rfl,d⟩,e⟩:=h.at_ g;exact⟨b,a,rfl,i,f,d,by simpa using e 0 _ rfl,e 1 _ rfl⟩
def aqO:ixP []:=⟨λx h=>(by cases h),List.Pairwise.nil⟩
def ahh(n a hi:Int)(w:World)(b:Bool)(d:b=true↔a<=n/\n<=hi) :
  Calls (ai β) 22 #[.int .i64 n,.int .i64 a,.int .i64 hi] w λe c=>e=.returned (.bool b)/\w=c:=
 (lz n a hi w).mono λe c ⟨h,hw⟩=>⟨by
  rw[h];have:(decide (a<=n)&&decide (n<=hi))=b:=by rw[ru,d];simp
  rw[this],hw⟩
def akV(s:Sp)(w:World)(b:Bool)(c:b=true↔spP s) :
  Calls (ai β) 94 #[.agg #[.int .i64 s.n,.int .i64 s.p]] w λe g=>e=.returned (.bool b)/\Below w.heap.size w g:=by
 replace c:=ab c;have f:=av w (.cells #[.int .i64 s.n,.int .i64 s.p] 152);go_enter ze,ntmps94;by_cases a:0<=s.n/\s.n<=999999999988
 .go_wp2;refine(ahh s.n _ _ _ true (by simp only[tM];exact a)).mono ?_;rintro e d ⟨rfl,rfl⟩;replace a:=ab a;go_wp2;refine(ahh s.p _ _ _ b (by rw[c.out];exact⟨λh=>h.2,λh=>⟨a.out,h⟩⟩)).mono ?_;rintro e d ⟨rfl,rfl⟩;go_wp2;go_ret;exact⟨rfl,f⟩
 .go_wp2;refine(ahh s.n _ _ _ false (by simp only[lc,uK];exact a)).mono ?_;rintro e d ⟨rfl,rfl⟩;replace a:=ab a;go_wp2;go_ret;exact⟨aB (by rw[eq_comm,<-mc,c.out];exact λh=>a.out h.1),f⟩
end
section
variable {β:Bool}
open Go.RowKit
def oB(s:Sp)(xs:List Sp)(put:Bool)(o:List Sp):Prop:=
 (put=false/\(∀x∈xs,x.n<s.n)/\o=xs)\/(put=true/\(∃x∈xs,s.n<=x.n)/\o=gY s xs)
def aoz(s:Sp):oB s [] false []:=.inl ⟨rfl,λx a=>(by cases a),rfl⟩
def aoA{s x:Sp}{xs o:List Sp}(h:oB s xs false o)(a:s.n<x.n):oB s (xs++[x]) true (o++[s]++[x]):=by
 rcases h with⟨_,h,rfl⟩|⟨h,_⟩
 .refine .inr ⟨rfl,⟨x,by simp,by omega⟩, ?_⟩;rw[ab2 h];show _=o++(if s.n<x.n then s::x::[] else _);rw[eg a];simp
 .cases h
def akW{s x:Sp}{xs o:List Sp}(h:oB s xs false o)(a:x.n=s.n):oB s (xs++[x]) true (o++[s]):=by
 rcases h with⟨_,h,rfl⟩|⟨h,_⟩
 .refine .inr ⟨rfl,⟨x,by simp,by omega⟩, ?_⟩;rw[ab2 h];show _=o++(if s.n<x.n then s::x::[] else if x.n<s.n then x::gY s [] else s::[]);rw[da (by omega),da (by omega)]
 .cases h
def akX{s x:Sp}{xs o:List Sp}(h:oB s xs false o)(b:x.n<s.n):oB s (xs++[x]) false (o++[x]):=by
 rcases h with⟨_,h,rfl⟩|⟨h,_⟩
 .refine .inl ⟨rfl,λy a=> ?_,rfl⟩;rcases oR.1 a with a|a
  .exact h y a
  .rw[pi.1 a];exact b
 .cases h
def akY{s x:Sp}{xs o:List Sp}(h:oB s xs true o)(b:adH (xs++[x])):s.n<x.n/\oB s (xs++[x]) true (o++[x]):=by
 rcases h with⟨h,_⟩|⟨_,⟨y,a,c⟩,rfl⟩
 .cases h
 .have:=(wu.1 b).2.2 y a x (by simp);refine⟨by omega,.inr ⟨rfl,⟨y,by simp[a],c⟩, ?_⟩⟩;rw[show xs++[x]=xs++x::[] from rfl,agc (by omega)]
def aoB{s:Sp}{xs o:List Sp}{a:Bool}(h:oB s xs a o):(a=false/\gY s xs=o++[s])\/(a=true/\gY s xs=o):=by
 rcases h with⟨h,b,rfl⟩|⟨h,_,rfl⟩
 .exact .inl ⟨h,aoy b⟩
 .exact .inr ⟨h,rfl⟩
def jB{s:Sp}{xs o:List Sp}{a:Bool}(h:oB s xs a o):o.length<=xs.length+1:=by
 rcases h with⟨_,_,rfl⟩|⟨_,_,rfl⟩
 .omega
 .exact aeN
def aqP{xs:List Sp}(h:adH xs)(k:Nat):adH (xs.take k):=List.Pairwise.sublist (List.take_sublist k xs) h
def aws(w:World)(ys:List Sp)(e:Ending)(w':World):Prop:=∃v,e=.returned v/\aL FSp 152 w' w.heap.size v ys/\Below w.heap.size w w'
def jf(h:w.cell? p=some v)(c:bh S w w')(b:¬S p.block):w'.cell? p=some v:=by
 have a:=tC w p h;unfold World.cell? at h ⊢;rw[c.block p.block a b];exact h
def aoC(s:Sp)(aa:cE s.n/\cE s.p)(xs:List Sp)(v:Value)(w:World)(lo hi:Nat)(aR:hi<=w.heap.size)(h:bB RSp 2 w lo hi xs [v])(a1:adH xs)(hl:xs.length<=1000000000) :
  Calls (ai β) 95 #[v,.agg #[.int .i64 s.n,.int .i64 s.p]] w (aws w (gY s xs)):=by
 obtain⟨A,c,rfl⟩:=h.form;obtain⟨_,hc,R⟩:=h.len_;unfold maxLen at R;go_enter zd,ntmps95;go_wp2;generalize hG:(w.alloc (.cells #[.int .i64 s.n,.int .i64 s.p] 152)).alloc (.cells #[] 152)=w0 at *;obtain⟨S,iz,N,cQ,dW,k1,cJ,dz⟩:=oP hG;have H:w.heap.size+1<=w0.heap.size:=by omega
 have g0:=am8 RSp.loc h S aR;have o0:aL FSp 152 w0 (w.heap.size+1) (.slice (some ⟨w.heap.size+1,0,none⟩) 0 0) []:=aL.aiS ⟨_,rfl,am _,k1⟩;have a5:∀k,k<xs.length->∃x,xs[k]?=some x/\(k=0\/True):=λk hk=>by
  obtain⟨x,R⟩:=aq hk;exact⟨x,R,.inr trivial⟩
 go_loopw [5,6,7] (λoo pp ii wr=>∃(k:Nat) (b:Bool) (o:List Sp),k<=xs.length/\pp=.bool b/\ii=.int .i64 k/\aL FSp 152 wr (w.heap.size+1) oo o/\oB s (xs.take k) b o/\bh (λb=>w.heap.size+1<=b) w0 wr) (λoo pp ii _=>xs.length-(intOf ii).toNat)
 case atStart=>exact⟨0,false,[],ff _,rfl,rfl,o0,aoz s,bh.refl _ _⟩
 case round=>
  obtain⟨k,b,o,hk,rfl,rfl,u,e,j⟩:=hrel;replace e:=ab e;obtain⟨p,r,rfl⟩:=u.form;have W:=jB e.out;rw[fa] at W;by_cases V:k<xs.length
  .obtain⟨x,y⟩:=aq V;obtain⟨b1,a6,rfl,a9,a7,a4,E,z⟩:=awr g0 y;have D:adH (xs.take k++[x]):=by rw[<-li y];exact aqP a1 _
   replace y:=ab y;replace D:=ab D;have cQ:=(aQ N j (by omega)).cell;have Y:=jf E j (by dsimp only;omega);have a8:=jf z j (by dsimp only;omega);cases b with
   |false=>
    rcases Int.lt_trichotomy x.n s.n with g|g|g
    .have B:=ab (akX e.out g);have t1:=db (show ¬(s.n<=x.n) by omega);have U:(x.n !=s.n)=true:=by rw[rM];omega
     go_wp2
     go_quiet (fail)
     revert nq;intro d;go_wp2
     go_quiet (fail)
     have m:aL FSp 152 (wr.drewN (d+nq)) (w.heap.size+1) (.slice p o.length r) o:=u;go_wp2_with(at_builtin;refine cH (F:=FSp) (v:=.slice p o.length r) rfl (.tmp 39) (.tmp 44) 115 rfl aaj x rfl m rfl rfl (by have:=jB e.out;rw[fa] at this;first|omega|(simp;omega)) (ap H ((j.drewN (d+nq))).size) ?_;intro M K f q n;obtain⟨G,I,rfl⟩:=f.form;simp only[aE,gc,mp,me] at f;have a:=((j.drewN (d+nq))).trans (q.mono (T:=λb=>w.heap.size+1<=b) λb _ l=>((m).at_ l).1) λ_ _ h=>h;skip);go_roundw
     case rel=>exact⟨k+1,false,o++[x],by omega,rfl,by go_num,f,by rw[li y.out];exact B.out,a⟩
     simp[intOf];omega
    .have B:=ab (akW e.out g);have t1:=dj (show s.n<=x.n by omega);have U:(x.n !=s.n)=false:=by rw[qJ];exact g
     go_wp2
     go_quiet (fail)
     revert nq;intro d;have m:aL FSp 152 (wr.drewN d) (w.heap.size+1) (.slice p o.length r) o:=u;go_wp2_with(at_builtin;refine cH (F:=FSp) (v:=.slice p o.length r) rfl (.tmp 27) (.tmp 29) 115 rfl aaj s rfl m rfl rfl (by have:=jB e.out;rw[fa] at this;first|omega|(simp;omega)) (ap H ((j.drewN d)).size) ?_;intro M K f q n;obtain⟨G,I,rfl⟩:=f.form;simp only[aE,gc,mp,me] at f;have a:=((j.drewN d)).trans (q.mono (T:=λb=>w.heap.size+1<=b) λb _ l=>((m).at_ l).1) λ_ _ h=>h;have O:=(aQ N a (by omega)).cell;have Q:=jf E a (by dsimp only;omega);have Z:=jf z a (by dsimp only;omega))
     go_quiet (fail)
     go_wp2;go_roundw
     case rel=>exact⟨k+1,true,o++[s],by omega,rfl,by go_num,f,by rw[li y.out];exact B.out,a.drewN nq⟩
     simp[intOf];omega
    .have B:=ab (aoA e.out g);have t1:=dj (show s.n<=x.n by omega);have U:(x.n !=s.n)=true:=by rw[rM];omega
     go_wp2
     go_quiet (fail)
     revert nq;intro d;have m:aL FSp 152 (wr.drewN d) (w.heap.size+1) (.slice p o.length r) o:=u;go_wp2_with(at_builtin;refine cH (F:=FSp) (v:=.slice p o.length r) rfl (.tmp 27) (.tmp 29) 115 rfl aaj s rfl m rfl rfl (by have:=jB e.out;rw[fa] at this;first|omega|(simp;omega)) (ap H ((j.drewN d)).size) ?_;intro M K f q n;obtain⟨G,I,rfl⟩:=f.form;simp only[aE,gc,mp,me] at f;have a:=((j.drewN d)).trans (q.mono (T:=λb=>w.heap.size+1<=b) λb _ l=>((m).at_ l).1) λ_ _ h=>h;have O:=(aQ N a (by omega)).cell;have Q:=jf E a (by dsimp only;omega);have Z:=jf z a (by dsimp only;omega))
     go_quiet (fail)
     have L:aL FSp 152 (K.drewN nq) (w.heap.size+1) (.slice G (o.length+1) I) (o++[s]):=f;go_wp2_with(at_builtin;refine cH (F:=FSp) (v:=.slice G (o.length+1) I) rfl (.tmp 39) (.tmp 44) 115 rfl aaj x rfl L rfl rfl (by have:=jB e.out;rw[fa] at this;first|omega|(simp;omega)) (ap H ((a.drewN nq)).size) ?_;intro v4 w4 o4 P a3;obtain⟨A4,c4,rfl⟩:=o4.form;simp only[aE,gc,mp,me] at o4;have a0:=((a.drewN nq)).trans (P.mono (T:=λb=>w.heap.size+1<=b) λb _ l=>((L).at_ l).1) λ_ _ h=>h;skip);go_roundw
     case rel=>exact⟨k+1,true,o++[s]++[x],by omega,rfl,by go_num,o4,by rw[li y.out];exact B.out,a0⟩
     simp[intOf];omega
   |true=>
    obtain⟨g,X⟩:=akY e.out D.out;have B:=ab X;have U:(x.n !=s.n)=true:=by rw[rM];omega
    go_wp2
    go_quiet (fail)
    revert nq;intro d;go_wp2
    go_quiet (fail)
    have m:aL FSp 152 (wr.drewN (d+nq)) (w.heap.size+1) (.slice p o.length r) o:=u;go_wp2_with(at_builtin;refine cH (F:=FSp) (v:=.slice p o.length r) rfl (.tmp 39) (.tmp 44) 115 rfl aaj x rfl m rfl rfl (by have:=jB e.out;rw[fa] at this;first|omega|(simp;omega)) (ap H ((j.drewN (d+nq))).size) ?_;intro M K f q n;obtain⟨G,I,rfl⟩:=f.form;simp only[aE,gc,mp,me] at f;have a:=((j.drewN (d+nq))).trans (q.mono (T:=λb=>w.heap.size+1<=b) λb _ l=>((m).at_ l).1) λ_ _ h=>h;skip);go_roundw
    case rel=>exact⟨k+1,true,o++[x],by omega,rfl,by go_num,f,by rw[li y.out];exact B.out,a⟩
    simp[intOf];omega
  .obtain rfl:k=xs.length:=by omega
   have t:=aoB e.out;rw[ip] at t;have cQ:=(aQ N j (by omega)).cell;have J:∀{w9:World},bh (λb=>w.heap.size+1<=b) w0 w9->Below w.heap.size w w9:=λa2=>S.trans (a2.below S.size λi hi h=>by omega);rcases t with⟨rfl,C⟩|⟨rfl,C⟩
   .replace C:=ab C;go_wp2_with(at_builtin;refine cH (F:=FSp) (v:=.slice p o.length r) rfl (.tmp 48) (.tmp 50) 115 rfl aaj s rfl u rfl rfl (by have:=jB e.out;rw[fa] at this;first|omega|(simp;omega)) (ap H (j).size) ?_;intro M K f q n;obtain⟨G,I,rfl⟩:=f.form;simp only[aE,gc,mp,me] at f;have a:=(j).trans (q.mono (T:=λb=>w.heap.size+1<=b) λb _ l=>((u).at_ l).1) λ_ _ h=>h;skip);go_ret;exact⟨_,rfl,by rw[C.out];exact f.base (by omega),J a⟩
   .replace C:=ab C;go_wp2;go_ret;exact⟨_,rfl,by rw[C.out];exact u.base (by omega),J j⟩
end
section
variable {β:Bool}
open Go.RowKit
structure It where
 n:Int
 b:ByteArray
structure Pk where
 no:Int
 its:List It
def mN:Flat It:=⟨2,λx=>[.int .i64 x.n,.string x.b],λx=>cE x.n/\x.b.size<=maxLen,λ_=>rfl,λx u a=>by simp at a;rcases a with rfl|rfl<;>rfl,by decide⟩
abbrev acM:fW (List It):=eK 68 (bV mN) 2
def RPk:fW Pk:=λw a b x c=>∃v,c=[.int .i64 x.no,v]/\cE x.no/\acM w a b x.its [v]
abbrev aoD:fW (List Pk):=eK 59 RPk 2
def acM.ar:dM acM [68]:=eK.ar (bV.ar mN)
def RPk.ar:dM RPk [68]:=⟨λh a b ⟨v,e,i,hr⟩=>⟨v,e,i,acM.ar.go h a b hr⟩⟩
def aoD.ar:dM aoD [59,68]:=eK.ar RPk.ar
def nR:iy (ai β) 57 68 2 24:=iy.mk' xu (z:=.agg #[.int .i64 0,.string ⟨#[]⟩]) (by kernel_rfl) rfl (by decide) (by decide)
def adZ:iy (ai β) 23 59 2 32:=iy.mk' xM (z:=.agg #[.int .i64 0,.slice none 0 0]) (by kernel_rfl) rfl (by decide) (by decide)
def azV{xs:List Pk}(h:aoD w Z hi xs [.slice A n c]){x:Pk}(i:xs[k]?=some x) :
  ∃b a A' d,A=some ⟨b,a,none⟩/\Z<=b/\b<hi/\cE x.no/\w.cell? ⟨b,a+k*2,none⟩=some (.int .i64 x.no)/\w.cell? ⟨b,a+k*2+1,none⟩=some (.slice A' x.its.length d)/\acM w Z hi x.its [.slice A' x.its.length d]:=by
 obtain⟨b,a,m,rfl,j,g,l,⟨v,rfl,e,hi⟩,f⟩:=h.1.at_ i;obtain⟨A',d,rfl⟩:=hi.form;exact⟨b,a,A',d,rfl,j,g,e,by simpa using f 0 _ rfl,f 1 _ rfl,hi⟩
def awu{xs:List It}(h:acM w Z hi xs [.slice A n c]){x:It}(g:xs[k]?=some x) :
  ∃b a,A=some ⟨b,a,none⟩/\Z<=b/\b<hi/\(cE x.n/\x.b.size<=maxLen)/\w.cell? ⟨b,a+k*2,none⟩=some (.int .i64 x.n)/\w.cell? ⟨b,a+k*2+1,none⟩=some (.string x.b):=by
 obtain⟨b,a,l,rfl,i,f,j,⟨rfl,d⟩,e⟩:=h.1.at_ g;exact⟨b,a,rfl,i,f,d,by simpa using e 0 _ rfl,e 1 _ rfl⟩
def eK.len_{xs:List V}(h:eK e E Z w W hi xs [.slice A n c]):n=xs.length/\n<=c/\c<=maxLen:=h.1.len_
def aa8(p:Pk):List Sp:=p.its.map λx=>⟨x.n,p.no⟩
def ep(l:List Pk):List Sp:=l.flatMap aa8
def IOf(l:List Pk)(r:List Sp):Prop:=((∀s∈ep l,spP s)/\r=fG (ep l) [])\/((¬ ∀s∈ep l,spP s)/\r=[])
def ak0{l:List Pk}{x:Pk}(h:l[k]?=some x):ep (l.take (k+1))=ep (l.take k)++aa8 x:=by
 rw[li h];unfold ep;rw[tz];simp
def cR(l:List Pk)(k j:Nat):List Sp:=ep (l.take k)++((l[k]?.map λp=>(aa8 p).take j).getD [])
def ab4(l:List Pk)(k:Nat):cR l k 0=ep (l.take k):=by
 unfold cR;cases l[k]?<;>simp
def ahj{l:List Pk}{x:Pk}{y:It}(h:l[k]?=some x)(a:x.its[j]?=some y):cR l k (j+1)=cR l k j++[⟨y.n,x.no⟩]:=by
 unfold cR;rw[h];simp only[qs,qp];rw[th]
 congr 1
 refine li (k:=j) ?_;unfold aa8;rw[qO,a];rfl
def aiX{l:List Pk}{x:Pk}(h:l[k]?=some x):cR l k x.its.length=ep (l.take (k+1)):=by
 rw[ak0 h];unfold cR;rw[h];simp only[qs,qp]
 congr 1
 unfold aa8;exact pa (by rw[qi];exact am _)
def aiY{l:List Pk} :∀s∈cR l k j,s∈ep l:=λs a=>by
 unfold cR at a;rcases oR.1 a with h|h
 .obtain⟨p,c,a⟩:=sK.1 h;exact sK.2 ⟨p,pu c,a⟩
 .cases b:l[k]? with
  |none=>rw[b] at h;cases h
  |some x=>
   rw[b] at h;exact sK.2 ⟨x,de b,pu h⟩
def aiZ{l:List Pk}{x:Pk}(h:l[k]?=some x):(cR l k j).length<=(ep l).length:=by
 have a:ep l=ep (l.take k)++ep (l.drop k):=by
  unfold ep;rw[<-tz,vZ]
 rw[a];unfold cR;rw[h,aE,aE];have:l.drop k=x::l.drop (k+1):=by
  rw[sb (aD h)]
  congr 1
  exact(qv.1 h).2
 rw[this];unfold ep;rw[List.flatMap_cons,aE];simp only[qs,qp,fa];omega
def IOf.ix{l:List Pk}{r:List Sp}(h:IOf l r):ixP r:=by
 rcases h with⟨h,rfl⟩|⟨_,rfl⟩
 .exact aiW aqO h
 .exact aqO
end
section
variable {β:Bool}
open Go.RowKit
def agf(key:Int)(x:It):Prop:=∃p,nL (bs x.b)=some p/\dc key p=x.n
def auj(p:Prop):∃b:Bool,b=true↔p:=by
 by_cases h:p
 .exact⟨true,by simp[h]⟩
 .exact⟨false,by simp[h]⟩
end
section
variable {β:Bool}
open Go.RowKit
def Rd(w:World)(lo hi g:Nat)(l:List Int)(p:Nat):Prop:=
 ∃A c,aX w g 81 #[.slice A l.length c,.int .i64 p]/\l.length<=2000/\bB iG 1 w lo hi l [.slice A l.length c]/\hi<=g
def axG(n v:Int):Prop:=(n<1->v=0)/\(1<=n->0<=v/\v<n)
def aqQ(w:World)(lo hi g:Nat)(l:List Int)(p:Nat)(n:Int)(e:Ending)(w':World):Prop:=
 ∃v:Int,e=.returned (.int .i64 v)/\axG n v/\Rd w' lo hi g l (p+1)/\bh (λb=>b=g) w w'
def Rd.fe{p:Nat}(h:Rd w Z hi g l p)(f:bh S w w')(e:∀b,b<hi\/b=g->¬S b):Rd w' Z hi g l p:=by
 obtain⟨A,c,d,i,k,m⟩:=h;have a:=d.lt;exact⟨A,c,(f.block g a (e g (.inr rfl))).trans d,i,(bB.loc iG.loc).go (λb _ j=>f.block b (by omega) (e b (.inl j))) (am _) (am _) k,m⟩
def Rd.lt{p:Nat}(h:Rd w Z hi g l p):g<w.heap.size:=by
 obtain⟨A,c,a,_⟩:=h;exact a.lt
def Rd.drew{p:Nat}(h:Rd w Z hi g l p):Rd w.drew Z hi g l p:=h.fe ((bh.refl (λ_=>False) _).drew) (λ_ _ h=>h)
def Rd.alloc{p:Nat}(h:Rd w Z hi g l p)(o:Obj):Rd (w.alloc o) Z hi g l p:=h.fe ((bh.refl (λ_=>False) _).alloc o) (λ_ _ h=>h)
def auk{p:Nat}(h:Rd w Z hi g l p)(n:Int)(j:n=(p:Int)+1):Rd (w.setCell ⟨g,1,none⟩ (.int .i64 n)) Z hi g l (p+1):=by
 obtain⟨A,c,f,a,d,e⟩:=h;refine⟨A,c, ?_,a, ?_,e⟩
 .have:=f.bj 1 (.int .i64 n);rw[j] at this ⊢;exact this
 .refine(bB.loc iG.loc).go (λb _ i=> ?_) (am _) (am _) d;exact iS _ _ _ _ (by show b≠g;omega)
def agh(a:Nat)(b:a<9223372036854775808):(BitVec.ofInt 64 (a:Int)).toNat=a:=by
 rw[BitVec.ofInt_natCast,BitVec.toNat_ofNat];exact Nat.mod_eq_of_lt (by omega)
def ak1(a b:Int)(d:0<=a)(f:a<9223372036854775808)(e:0<=b)(c:b<9223372036854775808):0<=bits .xor .i64 a b:=by
 obtain⟨a,rfl⟩:=ql d;obtain⟨b,rfl⟩:=ql e;have g:a ^^^ b<2 ^ 63:=Nat.xor_lt_two_pow (by omega) (by omega);show 0<=IntKind.i64.wrap ((BitVec.ofInt 64 (a:Int) ^^^ BitVec.ofInt 64 (b:Int)).toNat:Int);rw[BitVec.toNat_xor,agh a (by omega),agh b (by omega),uI];omega
def dm(w:World)(B hi g:Nat)(l:List Int)(p:Nat)(n:Int)(h:Rd w B hi g l p)(S:p<=1099511627776) :
  Calls (ai β) 32 #[.pointer (some ⟨g,0,none⟩),.int .i64 n] w (aqQ w B hi g l p n):=by
 have a:=λn z=>auk h n z;obtain⟨A,c,o,T,s,N⟩:=h;have I:=o.cell 0;have G:=o.cell 1;have O:=o.frozen 1;simp at I G;by_cases z:n<1
 .go_enter xe,ntmps32;go_wp2;go_ret;exact⟨0,rfl,⟨λ_=>rfl,λh=>absurd h (by omega)⟩,a _ rfl,(bh.refl (λb=>b=g) _).setCell (p:=⟨g,1,none⟩) (.inl rfl) _⟩
 by_cases d:l.length=0
 .have f:((l.length:Int) ==0)=true:=by rw[oE];omega
  replace d:=ab d;go_enter xe,ntmps32;go_wp2;go_ret;exact⟨0,rfl,⟨λ_=>rfl,λh=>⟨by omega,by omega⟩⟩,a _ rfl,(bh.refl (λb=>b=g) _).setCell (p:=⟨g,1,none⟩) (.inl rfl) _⟩
 by_cases E:p<l.length
 .obtain⟨x,i⟩:=aq E;obtain⟨b,r,rfl,u,t,j,q⟩:=s.aeA i;have V:=ab i;have m:b≠g:=by omega
  have f:((l.length:Int) ==0)=false:=by rw[dk];omega
  go_enter xe,ntmps32;go_wp2;go_ret;exact⟨x % n,rfl,⟨λh=>absurd h (by omega),λh=>⟨vU _ (by omega),vk _ (by omega)⟩⟩,a _ rfl,(bh.refl (λb=>b=g) _).setCell (p:=⟨g,1,none⟩) (.inl rfl) _⟩
 .have f:((l.length:Int) ==0)=false:=by rw[dk];omega
  obtain⟨x,i⟩:=aq (l:=l) (k:=p % l.length) (tG _ (by omega));obtain⟨y,H⟩:=aq (l:=l) (k:=(p*7+3) % l.length) (tG _ (by omega));obtain⟨b,r,rfl,u,t,j,C⟩:=s.aeA i;obtain⟨M,v,e,_,_,D,F⟩:=s.aeA H;simp only[mt,qC,qx] at e;obtain⟨rfl,rfl⟩:=e;have m:b≠g:=by omega
  have U:p % l.length<l.length:=tG _ (by omega);have L:(p*7+3) % l.length<l.length:=tG _ (by omega);have P:0<=((p:Int)*7+3) % (l.length:Int):=vU _ (by omega);have W:((p:Int)*7+3) % (l.length:Int)<(l.length:Int):=vk _ (by omega);have R:(((p:Int)*7+3) % (l.length:Int)).toNat=(p*7+3) % l.length:=by
   have:((p:Int)*7+3) % (l.length:Int)=(((p*7+3) % l.length:Nat):Int):=rfl;rw[this];rfl
  have Q:0<=(p:Int) / (l.length:Int):=Int.ediv_nonneg (by omega) (by omega);have K:(p:Int) / (l.length:Int)<=p:=Int.ediv_le_self _ (by omega);go_enter xe,ntmps32;go_wp2;have J:=ak1 (x*131+y*1117+(p:Int)*29+(p:Int) / (l.length:Int)*53) ((x*131+y*1117+(p:Int)*29+(p:Int) / (l.length:Int)*53) / 64) (by omega) (by omega) (by omega) (by omega)
  go_quiet (fail)
  go_wp2;go_ret;exact⟨_,rfl,⟨λh=>absurd h (by omega),λh=>⟨vU _ (by omega),vk _ (by omega)⟩⟩,
   (a _ rfl).fe ((bh.refl (λ_=>False) _).drewN nq) (λ_ _ h=>h),((bh.refl (λb=>b=g) _).setCell (p:=⟨g,1,none⟩) (.inl rfl) _).drewN nq⟩
def aqR(w:World)(lo hi:Nat)(l:List Int)(e:Ending)(w':World):Prop:=
 ∃g,e=.returned (.pointer (some ⟨g,0,none⟩))/\Rd w' lo hi g (l.take 2000) 0/\w.heap.size<=g/\Below w.heap.size w w'
def bB.cut{xs:List V}(h:bB E Z w W hi xs [.slice A n c])(q:m<=n):bB E Z w W hi (xs.take m) [.slice A m c]:=by
 obtain⟨A',p,a,r,k,g⟩:=h;simp only[qj,nF,qx] at a;obtain⟨rfl,rfl,rfl⟩:=a;have f:(xs.take m).length=m:=by rw[fa];omega
 refine⟨A,c,by rw[f],by omega,k,λo=> ?_⟩;obtain⟨b,d,rfl,l,j,e⟩:=g (by omega);refine⟨b,d,rfl,l,j,λi x hi=>e i x ?_⟩;have:=aD hi;rw[tw (by omega)] at hi;exact hi
def aqS(l:List Int)(A:Option Addr)(n c:Nat)(w:World)(f hi:Nat)(h:bB iG 1 w f hi l [.slice A n c])(d:hi<=w.heap.size) :
  Calls (ai β) 12 #[.slice A n c] w (aqR w f hi l):=by
 obtain⟨rfl,j,g⟩:=h.len_;unfold maxLen at g;by_cases i:2000<l.length
 .have b:=h.cut (m:=2000) (by omega);have a:(l.take 2000).length=2000:=by rw[fa];omega
  go_enter yl,ntmps12;go_wp2;go_ret;refine⟨_,rfl,⟨A,c, ?_,by omega, ?_,d⟩,am _,(du _ _).alloc (am _) _⟩
  .rw[a];exact aX.new _ _ _
  .rw[a];exact Lcy.below (bB.loc iG.loc) b ((du _ _).alloc (am _) _) d
 .have a:l.take 2000=l:=pa (by omega);have e:=ab a;go_enter yl,ntmps12;go_wp2;go_ret;refine⟨_,rfl,⟨A,c, ?_,by rw[e.out];omega, ?_,d⟩,am _,(du _ _).alloc (am _) _⟩
  .rw[e.out];exact aX.new _ _ _
  .rw[e.out];exact Lcy.below (bB.loc iG.loc) h ((du _ _).alloc (am _) _) d
end
section
variable {β:Bool}
open Go.RowKit
structure aqT (w:World) (lo hi g:Nat) (l:List Int) (N:Nat) where
 to:World
 q:Nat
 rd:Rd to lo hi g l q
 ok:bh (λb=>b=g) w to
 lim:q<=N
section
variable {w:World} {lo hi g:Nat} {l:List Int} {N:Nat}
instance awv:bm (aqT w lo hi g l N):=⟨λm x=>x.q+m<=N,λ_ _ h=>sA h,λ_ _=>True⟩
variable {P:Program}
variable {ops:Array Oper} {Qt:Act->World->Prop} {i:Nat} {o:Oper} {L:List (Nat×Oper)} {F:List (Nat×(aqT w lo hi g l N->Prop))} {Rs:List (gW (aqT w lo hi g l N))} {a:Act}
end
end
section
variable {β:Bool}
open Go.RowKit
def Rd.hi_{p:Nat}(h:Rd w Z hi g l p):hi<=g:=by
 obtain⟨A,c,_,_,_,a⟩:=h;exact a
structure aK (w:World) (lo hi g:Nat) (l:List Int) (N s ia ic bk:Nat) (fx:Bool) (ty:TypeId) (n:Nat) (S:Nat->Prop) (pre:List Nat) where
 to:World
 q:Nat
 box:Option Nat
 done:Bool
 res:Option Value
 rd:Rd to lo hi g l q
 ok:bh (λb=>b=g\/box=some b\/(done=true/\S b)) w to
 lim:q<=N
 bw:∀b,box=some b->b=bk\/w.heap.size<=b
 bf:fx=true->box=some bk
 sf:∀b,S b->b≠g/\hi<=b/\b≠bk/\b<w.heap.size
 bx:∀b,box=some b->b≠g/\hi<=b/\∃cs:Array Value,cs.size=n/\aX to b ty cs
section
variable {w:World} {lo hi g:Nat} {l:List Int} {N s ia ic bk:Nat} {fx:Bool} {ty:TypeId} {n:Nat} {S:Nat->Prop} {pre:List Nat}
instance aww:bm (aK w lo hi g l N s ia ic bk fx ty n S pre):=⟨λm x=>x.q+m<=N,λ_ _ h=>sA h,λi x=>(i=s\/i∈pre->x.done=false)/\(i=ia->x.box=none)/\(i=ic->x.res=none)⟩
structure aK.le (x y:aK w lo hi g l N s ia ic bk fx ty n S pre):Prop where
 fe:bh (λb=>b=g\/(x.done=false/\(x.box=some b\/S b))) x.to y.to
 done:x.done=true->y.done=true
 box:∀b,x.box=some b->y.box=some b
 fresh:∀b,x.box=none->y.box=some b->x.to.heap.size<=b
 res:∀v,x.res=some v->y.res=some v
def aK.le_refl(x:aK w lo hi g l N s ia ic bk fx ty n S pre):aK.le x x:=⟨bh.refl _ _,id,λ_ h=>h,λb c a=>(by rw[c] at a;cases a),λ_ h=>h⟩
def aK.free(x:aK w lo hi g l N s ia ic bk fx ty n S pre)(b:Nat):Prop:=b<x.to.heap.size/\b≠g/\x.box≠some b/\¬S b
def aK.le.free{x y:aK w lo hi g l N s ia ic bk fx ty n S pre}(h:aK.le x y)(a:x.free b):y.free b:=by
 refine⟨bd a.1 h.fe.size,a.2.1,λe=> ?_,a.2.2.2⟩;cases d:x.box with
 |none=>have:=h.fresh b d e;have:=a.1;omega
 |some c=>
  have:=h.box c d;rw[e] at this;cases this;exact a.2.2.1 d
def aK.le.not{x y:aK w lo hi g l N s ia ic bk fx ty n S pre}(_:aK.le x y)(a:x.free b):¬(b=g\/(x.done=false/\(x.box=some b\/S b))):=by
 rintro(rfl|⟨_,h|h⟩)
 .exact a.2.1 rfl
 .exact a.2.2.1 h
 .exact a.2.2.2 h
def aK.le.full{x y:aK w lo hi g l N s ia ic bk fx ty n S pre}(h:aK.le x y)(a:x.done=true)(e:x.box=some b)(c:aX x.to b t cs):y.done=true/\y.box=some b/\aX y.to b t cs:=by
 refine⟨h.done a,h.box b e,(h.fe.block b c.lt ?_).trans c⟩;rintro(rfl|⟨d,_⟩)
 .exact(x.bx _ e).1 rfl
 .rw[a] at d;cases d
def aa9(h:w.cell? p=some v){x:aK w lo hi g l N s ia ic bk fx ty n S pre}(c:p.block≠g)(b:p.block≠bk)(d:¬S p.block):x.to.cell? p=some v:=by
 have a:=tC w p h;have b:x.box≠some p.block:=λe=>by
  rcases x.bw _ e with h|h
  .exact b h
  .omega
 unfold World.cell? at h ⊢;rw[x.ok.block p.block a (by
  rintro(h|h|⟨_,h⟩)
  .exact c h
  .exact b h
  .exact d h)]
 exact h
def ak2     (k q:Nat) (t j:List Nat) (u:P.follows .mixedOrders=true) (H:ahd M k t j=true) (v:adF M.toArray k X.tmps.size=true)
  (D:Rd w lo hi g l q) (I:q+k<=N) (a:Option Nat) (A:∀b,a=some b->b=bk) (p:fx=true->a=some bk) (o:∀b,S b->b≠g/\hi<=b/\b≠bk/\b<w.heap.size) (f:∀b,a=some b->b≠g/\hi<=b/\∃c:Array Value,c.size=n/\aX w b ty c) (r:a=none\/k<=ia)
  (h:wpQuiet P M.toArray (λy=>∃x:aK w lo hi g l N s ia ic bk fx ty n S pre,y=x.to) (λG=>∃F:List (gW (aK w lo hi g l N s ia ic bk fx ty n S pre)),bY P M.toArray (aK.to (w:=w)) (aK.le (w:=w)) (wpList P M.toArray Q (M.drop k)) (pick M j) [] F G) ((pick M t).map (·.2)) X):(Code.region Z M.toArray true).wp P Q X w:=
 nP (aK.to (w:=w)) (aK.le (w:=w)) aK.le_refl k t j u H v
  ⟨w.drew,q,a,false,none,D.drew,(bh.refl _ _).drew,by omega,λb d=>.inl (A b d),p,o,λb d=>by
   obtain⟨C,z,c,E,B⟩:=f b d;exact⟨C,z,c,E,B⟩⟩ (λm u=>by show q+m<=N;omega) (λi hi=>And.intro (λ_=>rfl) (And.intro (λe=>by
   rcases r with h|h
   .exact h
   .omega) λ_=>rfl)) rfl h
def aK.on(x:aK w lo hi g l N s ia ic bk fx ty n S pre){w2:World}(hb:Below x.to.heap.size x.to w2):aK w lo hi g l N s ia ic bk fx ty n S pre:=
 ⟨w2,x.q,x.box,x.done,x.res,x.rd.fe (bh.aM (S:=λ_=>False) hb) (λ_ _ h=>h),x.ok.trans (bh.aM (S:=λb=>b=g\/x.box=some b\/(x.done=true/\S b)) hb) λ_ _ e=>e,x.lim,x.bw,x.bf,x.sf,λb h=>by
  obtain⟨f,a,d,i,c⟩:=x.bx b h;exact⟨f,a,d,i,ah c hb⟩⟩
def aK.told(x:aK w lo hi g l N s ia ic bk fx ty n S pre){w2:World}(hb:Below x.to.heap.size x.to w2)(v:Value):aK w lo hi g l N s ia ic bk fx ty n S pre:={x.on hb with res:=some v}
def aK.aul(x:aK w lo hi g l N s ia ic bk fx ty n S pre)(a:Below x.to.heap.size x.to w2)(v:Value)(d:x.res=none):aK.le x (x.told a v):=⟨bh.aM a,id,λ_ h=>h,λb e c=>(by
 have:x.box=some b:=c;rw[e] at this;cases this),λu h=>by rw[d] at h;cases h⟩
def aK.took(x:aK w lo hi g l N s ia ic bk fx ty n S pre){w2:World}(hr:Rd w2 lo hi g l (x.q+1))(hc:bh (λb=>b=g) x.to w2)(hl:x.q+1<=N):aK w lo hi g l N s ia ic bk fx ty n S pre:=
 ⟨w2,x.q+1,x.box,x.done,x.res,hr,x.ok.trans (hc.mono λb _ h=>.inl h) λ_ _ e=>e,hl,x.bw,x.bf,x.sf,λb h=>by
  obtain⟨a,c,f,i,d⟩:=x.bx b h;exact⟨a,c,f,i,aQ d hc a⟩⟩
def aK.aum(x:aK w lo hi g l N s ia ic bk fx ty n S pre)(e:Rd w2 lo hi g l (x.q+1))(a:bh (λb=>b=g) x.to w2)(c:x.q+1<=N):aK.le x (x.took e a c):=⟨a.mono λb _ h=>.inl h,id,λ_ h=>h,λb f d=>(by
 have:x.box=some b:=d;rw[f] at this;cases this),λ_ h=>h⟩
def aK.made(x:aK w lo hi g l N s ia ic bk fx ty n S pre)(hx:x.box=none)(cs:Array Value)(hn:cs.size=n)(hg:hi<=x.to.heap.size):aK w lo hi g l N s ia ic bk fx ty n S pre:=
 ⟨x.to.alloc (.cells cs ty),x.q,some x.to.heap.size,x.done,x.res,x.rd.alloc _,(x.ok.mono λb _ h=>by rw[hx] at h;exact h.elim .inl λh=>h.elim (λh=>by cases h) λh=>.inr (.inr h)).alloc _,x.lim,λb h=>(by cases h;exact .inr x.ok.size),λh=>(by rw[x.bf h] at hx;cases hx),x.sf,λb h=>by
  cases h;exact⟨Nat.ne_of_gt x.rd.lt,hg,cs,hn,aX.new _ _ _⟩⟩
def aK.aun(x:aK w lo hi g l N s ia ic bk fx ty n S pre)(a:x.box=none)(cs:Array Value)(e:cs.size=n)(c:hi<=x.to.heap.size):aK.le x (x.made a cs e c):=⟨(bh.refl _ _).alloc _,id,λb h=>(by rw[a] at h;cases h),λb _ d=>(by
 have:some x.to.heap.size=some b:=d;cases this;exact am _),λ_ h=>h⟩
def aK.fill(x:aK w lo hi g l N s ia ic bk fx ty n S pre){b:Nat}(hx:x.box=some b){w2:World}(hc:bh (λc=>c=b) x.to w2){cs:Array Value}(hn:cs.size=n)(hk:aX w2 b ty cs):aK w lo hi g l N s ia ic bk fx ty n S pre:=
 ⟨w2,x.q,x.box,true,x.res,x.rd.fe hc (λc h e=>by
  obtain⟨a,d,_⟩:=x.bx b hx;rcases h with h|h
  .omega
  .exact a (e▸h)),(x.ok.mono (T:=λb=>b=g\/x.box=some b\/(true=true/\S b)) λc _ h=>h.elim .inl λh=>h.elim (λh=>.inr (.inl h)) λh=>.inr (.inr ⟨rfl,h.2⟩)).trans (hc.mono λc _ h=>.inr (.inl (by rw[hx,h]))) λ_ _ e=>e,x.lim,x.bw,x.bf,x.sf,λc h=>by
  rw[hx] at h;cases h;exact⟨(x.bx _ hx).1,(x.bx _ hx).2.1,cs,hn,hk⟩⟩
def aK.auo(x:aK w lo hi g l N s ia ic bk fx ty n S pre)(a:x.box=some b)(e:bh (λc=>c=b) x.to w2)(j:cs.size=n)(i:aX w2 b ty cs)(f:x.done=false):aK.le x (x.fill a e j i):=
 ⟨e.mono λc _ h=>.inr ⟨f,.inl (by rw[a,h])⟩,λ_=>rfl,λ_ h=>h,λc d k=>(by rw[a] at d;cases d),λ_ h=>h⟩
variable {P:Program} {ops:Array Oper} {Qt:Act->World->Prop} {i:Nat} {o:Oper} {L:List (Nat×Oper)} {F:List (Nat×(aK w lo hi g l N s ia ic bk fx ty n S pre->Prop))} {Rs:List (gW (aK w lo hi g l N s ia ic bk fx ty n S pre))} {a:Act}
def ana (R:Value->Prop) (c:o.dst.isSome=true)
  (j:∀x:aK w lo hi g l N s ia ic bk fx ty n S pre,oO F o x->∀b:Exit->Act->World->Prop,(∀v,R v->b .normal (a.put o.dst v) x.to)->wpList P ops b [o] a x.to)
  (e:∀v,bY P ops (aK.to (w:=w)) (aK.le (w:=w)) Qt L ((i,λ_=>R v)::F) Rs (a.put o.dst v)):bY P ops (aK.to (w:=w)) (aK.le (w:=w)) Qt ((i,o)::L) F (.any (λv _=>R v)::Rs) a:=
 je (to:=aK.to (w:=w)) (le:=aK.le (w:=w)) (λv _=>R v) (.inl c) (λ_ _ _ h _=>h) (λx p m d q b k=>j x p b λv f=>
  k v x (aK.le_refl x) (sA d) (λ_ _ _ h=>h) f) e
def aup (R:Value->Prop) (j:o.dst.isSome=true)
  (z:∀x:aK w lo hi g l N s ia ic bk fx ty n S pre,oO F o x->x.q<N->∀c:Exit->Act->World->Prop,(∀v d,Rd d lo hi g l (x.q+1)->bh (λb=>b=g) x.to d->R v->c .normal (a.put o.dst v) d)->wpList P ops c [o] a x.to)
  (p:∀v,bY P ops (aK.to (w:=w)) (aK.le (w:=w)) Qt L ((i,λ_=>R v)::F) Rs (a.put o.dst v)):bY P ops (aK.to (w:=w)) (aK.le (w:=w)) Qt ((i,o)::L) F (.any (λv _=>R v)::Rs) a:=
 je (to:=aK.to (w:=w)) (le:=aK.le (w:=w)) (λv _=>R v) (.inl j) (λv x y h _=>h) (λx r m t A c q=>by
  have k:x.q+(m+1)<=N:=t;exact z x r (by omega) c λv d e f u=>
   q v (x.took e f (by omega)) (x.aum e f (by omega)) (by show x.q+1+m<=N;omega) (λ_ _ _ h=>h) u) p
def auq (R:Value->aK w lo hi g l N s ia ic bk fx ty n S pre->Prop) (p:o.dst.isSome=true) (hi':i=ic) (t:∀v x y,R v x->aK.le x y->R v y)
  (D:∀x:aK w lo hi g l N s ia ic bk fx ty n S pre,oO F o x->∀d:Exit->Act->World->Prop,(∀v f (c:Below x.to.heap.size x.to f),R v (x.told c v)->d .normal (a.put o.dst v) f)->wpList P ops d [o] a x.to)
  (r:∀v,bY P ops (aK.to (w:=w)) (aK.le (w:=w)) Qt L ((i,λx=>R v x/\x.res=some v)::F) Rs (a.put o.dst v)):bY P ops (aK.to (w:=w)) (aK.le (w:=w)) Qt ((i,o)::L) F (.any (λv x=>R v x/\x.res=some v)::Rs) a:=
 je (to:=aK.to (w:=w)) (le:=aK.le (w:=w)) (λv x=>R v x/\x.res=some v) (.inl p) (λv x y h k=>⟨t v x y h.1 k,k.res v h.2⟩) (λx z m A q d u=>D x z d λv f c B=>
  u v (x.told c v) (x.aul c v (q.2.2 hi')) (sA A) (λj C _ b=>⟨b.1,b.2.1,λe=>absurd (e.trans hi'.symm) C⟩) ⟨B,rfl⟩) r
def ahk (R:Value->Value->Prop) (c:o.dst.isSome=true)
  (q:∀x:aK w lo hi g l N s ia ic bk fx ty n S pre,oO F o x->∀b:Exit->Act->World->Prop,(∀v u,x.res=some u->R v u->b .normal (a.put o.dst v) x.to)->wpList P ops b [o] a x.to)
  (d:∀v,bY P ops (aK.to (w:=w)) (aK.le (w:=w)) Qt L ((i,λx=>∃u,x.res=some u/\R v u)::F) Rs (a.put o.dst v)):bY P ops (aK.to (w:=w)) (aK.le (w:=w)) Qt ((i,o)::L) F (.any (λv x=>∃u,x.res=some u/\R v u)::Rs) a:=
 je (to:=aK.to (w:=w)) (le:=aK.le (w:=w)) (λv x=>∃u,x.res=some u/\R v u) (.inl c) (λ_ _ _ ⟨u,h,hr⟩ hl=>⟨u,hl.res u h,hr⟩) (λx j m k r b f=>q x j b λv u e p=>
  f v x (aK.le_refl x) (sA k) (λ_ _ _ h=>h) ⟨u,e,p⟩) d
def aqU (q:o.dst.isSome=true) (hi':i=ia) (t:ia≠s) (z:hi<=w.heap.size) (cs:Array Value) (p:cs.size=n)
  (D:∀x:aK w lo hi g l N s ia ic bk fx ty n S pre,∀k:Exit->Act->World->Prop,(k .normal (a.put o.dst (.pointer (some ⟨x.to.heap.size,0,none⟩))) (x.to.alloc (.cells cs ty)))->wpList P ops k [o] a x.to)
  (u:∀v,bY P ops (aK.to (w:=w)) (aK.le (w:=w)) Qt L ((i,λx=>∃b,v=.pointer (some ⟨b,0,none⟩)/\w.heap.size<=b/\x.box=some b)::F) Rs (a.put o.dst v)):bY P ops (aK.to (w:=w)) (aK.le (w:=w)) Qt ((i,o)::L) F (.any (λv x=>∃b,v=.pointer (some ⟨b,0,none⟩)/\w.heap.size<=b/\x.box=some b)::Rs) a:=
 je (to:=aK.to (w:=w)) (le:=aK.le (w:=w)) (λv x=>∃b,v=.pointer (some ⟨b,0,none⟩)/\w.heap.size<=b/\x.box=some b) (.inl q) (λv x y ⟨b,e,hb,h⟩ hle=>⟨b,e,hb,hle.box b h⟩) (λx E m B r k A=>by
  have d:=r.2.1 hi';have f:hi<=x.to.heap.size:=ap z x.ok.size;refine D x k (A _ (x.made d cs p f) (x.aun d cs p f) (sA B) (λj C _ c=>⟨c.1,λe=>absurd (e.trans hi'.symm) C,c.2.2⟩) ⟨_,rfl,x.ok.size,rfl⟩)) u
def aqV (R:aK w lo hi g l N s ia ic bk fx ty n S pre->Prop) (hi':i=s) (A:∀j∈pre,Behind ops i j) (K:∀x y,R x->aK.le x y->R y)
  (I:∀x:aK w lo hi g l N s ia ic bk fx ty n S pre,oO F o x->x.done=false->∀k:Exit->Act->World->Prop,(∀b (z:x.box=some b) q (r:bh (λc=>c=b) x.to q) (t:Array Value) (p:t.size=n) (f:aX q b ty t),R (x.fill z r p f)->k .normal (a.put o.dst undef) q)->wpList P ops k [o] a x.to)
  (E:o.dst=none)
  (G:bY P ops (aK.to (w:=w)) (aK.le (w:=w)) Qt L ((i,λx=>R x)::F) Rs (a.put o.dst undef)):bY P ops (aK.to (w:=w)) (aK.le (w:=w)) Qt ((i,o)::L) F (.any (λ_ x=>R x)::Rs) a:=
 je (to:=aK.to (w:=w)) (le:=aK.le (w:=w)) (λ_ x=>R x) (.inr λ_ _ _ h=>h) (λ_ x y h B=>K x y h B) (λx z m M D k H=>I x z (D.1 (.inl hi')) k λb d q r t p f J=>by
  exact H undef (x.fill d r p f) (x.auo d r p f (D.1 (.inl hi'))) (sA M) (λj O C u=>⟨λe=>e.elim (λe=>absurd (e.trans hi'.symm) O) λe=>absurd (A j e) C,u.2⟩) J) (λv=>by
  have e:a.put o.dst v=a.put o.dst undef:=by rw[E];rfl
  rw[e];exact G)
def axH(h:∀x:aK w lo hi g l N s ia ic bk fx ty n S pre,dP F x->Qt a x.to):bY P ops (aK.to (w:=w)) (aK.le (w:=w)) Qt [] F [] a:=adY h
end
end
section
variable {β:Bool}
open Go.RowKit
def iA:Flat ByteArray:=⟨1,λs=>[.string s],λs=>s.size<=maxLen,λ_=>rfl,λs u a=>by rw[pi.1 a];rfl,by decide⟩
abbrev dA:fW (List ByteArray):=eK 9 (bV iA) 1
def dA.ar:dM dA [9]:=eK.ar (bV.ar iA)
def ab5:iy (ai β) 89 9 1 16:=iy.mk' yV (z:=.string ⟨#[]⟩) (by kernel_rfl) rfl (by decide) (by decide)
def lH(h:dA w Z hi xs [.slice A n c]){x:ByteArray}(f:xs[k]?=some x) :
  ∃b a,A=some ⟨b,a,none⟩/\Z<=b/\b<hi/\x.size<=maxLen/\w.cell? ⟨b,a+k,none⟩=some (.string x):=by
 obtain⟨b,a,l,rfl,g,e,j,⟨rfl,d⟩,i⟩:=h.1.at_ f;exact⟨b,a,rfl,g,e,d,by simpa using i 0 _ rfl⟩
def Rd.blk{p:Nat}(h:Rd w Z hi g l p):∃b,aX w g 81 b:=by
 obtain⟨A,c,a,_⟩:=h;exact⟨_,a⟩
def aur{fg hi' : Nat}{p:Nat}{cs:List Value}(h:dA w fg hi' xs cs)(c:Rd w Z hi g l p)(d:bh (λb=>b=g) w w'):dA w' fg hi' xs cs:=
 dA.ar.fe h d λb _ _ ⟨t,ht,ds,hd⟩ e=>by
  obtain⟨f,a⟩:=c.blk;subst e;have:=cI hd a;rw[pi.1 ht] at this;exact absurd this (by decide)
def ahl(h:xs.all (λs=>decide (s.size<=9))=true):∀s∈xs,s.size<=9:=λs a=>ta (lP.1 h s a)
def nS(h:xs.all (λs=>decide (s.size<=9))=true):∀s∈xs,iA.good s:=λs a=>by
 have:=ahl h s a;show s.size<=maxLen;unfold maxLen;omega
def axI(xs:List ByteArray)(w:World)(lo hi g:Nat)(l:List Int)(p:Nat)(e:Ending)(w':World):Prop:=∃s∈xs,e=.returned (.string s)/\Rd w' lo hi g l (p+1)/\bh (λb=>b=g) w w'
def ahm(xs:List ByteArray)(B:0<xs.length/\xs.length<=100)(v:Value)(l:List Int)(g p n hi fg hi':Nat)(w:World)(j:Rd w n hi g l p)(z:p<=1000000)(h:dA w fg hi' xs [v]) :
  Calls (ai β) 38 #[.pointer (some ⟨g,0,none⟩),v] w (axI xs w n hi g l p):=by
 obtain⟨A,c,rfl⟩:=h.form;go_enter zP,ntmps38;go_wp2;refine(dm _ _ _ _ _ _ _ j (by omega)).mono ?_;rintro e x ⟨m,rfl,⟨_,u⟩,i,a⟩;obtain⟨o,C⟩:=u (by omega);obtain⟨k,rfl⟩:=ql o;obtain⟨s,d⟩:=aq (l:=xs) (k:=k) (by omega);have q:=aur h j a;obtain⟨b,t,rfl,_,_,r,f⟩:=lH q d;replace d:=ab d;have y:k<xs.length:=by omega
 go_wp2;go_ret;exact⟨s,de d.out,rfl,i,a⟩
def aoE(w:World)(lo hi g:Nat)(l:List Int)(p:Nat)(e:Ending)(w':World):Prop:=∃s q,e=.returned (.string s)/\s.size<=9/\Rd w' lo hi g l q/\q<=p+3/\bh (λb=>b=g) w w'
def aoF(xs:List ByteArray)(s:ByteArray)(v:Value)(w:World)(t hi:Nat)(h:dA w t hi xs [v])(b:Bool)(d:b=true↔s∈xs) :
  Calls (ai β) 93 #[v,.string s] w λe p=>e=.returned (.bool b)/\w=p:=by
 replace d:=ab d;obtain⟨A,c,rfl⟩:=h.form;obtain⟨_,z,r⟩:=h.len_;unfold maxLen at r;go_enter zf,ntmps93;go_wp2
 go_loop [5] (λi=>∃k:Nat,k<=xs.length/\i=.int .i64 k/\s∉xs.take k) (λi=>xs.length-(intOf i).toNat)
 case atStart=>exact⟨0,ff _,rfl,by simp⟩
 case round=>
  obtain⟨k,y,rfl,f⟩:=hrel;replace f:=ab f;by_cases g:k<xs.length
  .obtain⟨x,a⟩:=aq g;obtain⟨u,q,rfl,_,_,_,l⟩:=lH h a;replace a:=ab a;by_cases n:x=s
   .subst n;have m:=de a.out;have j:=ab m;go_wp2;go_ret;exact⟨aB (by rw[eq_comm,d.out];exact j.out),rfl⟩
   .have B:=aa3 n;have o:s∉xs.take (k+1):=by
     rw[li a.out];simp[f.out,sI n]
    replace o:=ab o;go_wp2
    go_round
    case rel=>exact⟨k+1,by omega,by go_num,o.out⟩
    simp[intOf];omega
  .obtain rfl:k=xs.length:=by omega
   have m:s∉xs:=by have:=f.out;rwa [ip] at this
   have j:=ab m;go_wp2;go_ret;exact⟨aB (by rw[eq_comm,<-mc,d.out];exact j.out),rfl⟩
end
section
variable {β:Bool}
open Go.RowKit
def atF(l:List Nat)(a:Nat):Nat->Nat->Nat
 |0,_=>min (a+8) l.length
 |f+1,n=>if l.length<=a+n then l.length else if pH l (a+n)=true then a+n else atF l a f (n+1)
def atL(l:List Nat)(a:Nat):Nat:=atF l a 5 3
def aeR{l:List Nat}{a:Nat}(b:a<l.length):∀(f n:Nat),0<n->n+f<=8->a<atF l a f n/\atF l a f n<=l.length/\atF l a f n<=a+8
 |0,n,_,_=>by show a<min _ _/\min _ _<=_/\min _ _<=_;omega
 |f+1,n,h0,h8=>by
  unfold atF;split
  .omega
  .split
   .omega
   .exact aeR b f (n+1) (by omega) (by omega)
def fw{l:List Nat}{a:Nat}(b:a<l.length):a<atL l a/\atL l a<=l.length/\atL l a<=a+8:=aeR b 5 3 (by omega) (by omega)
def dI(l:List Nat):Nat->List Int->Nat->Prop
 |a,[],b=>a=b
 |a,x::xs,b=>a<l.length/\x=(atL l a:Int)/\dI l (atL l a) xs b
def dI.snoc{l:List Nat}:∀{a:Nat} {c:List Int} {b:Nat},dI l a c b->b<l.length->dI l a (c++[(atL l b:Int)]) (atL l b)
 |a,[],b,h,h1=>by
  have h:a=b:=h;subst h;exact⟨h1,rfl,rfl⟩
 |a,x::c,b,⟨h2,h3,h4⟩,h1=>⟨h2,h3,h4.snoc h1⟩
def dI.len{l:List Nat}:∀{a:Nat} {c:List Int} {b:Nat},dI l a c b->a+c.length<=b
 |a,[],b,h=>by
  have h:a=b:=h;simp;omega
 |a,x::c,b,⟨h1,_,h⟩=>by
  have:=h.len;have:=(fw h1).1;simp only[gc];omega
def dI.at_{l:List Nat}:∀{a:Nat} {d:List Int} {b k m:Nat} {x:Int},dI l a d b->dI l a (d.take k) m->d[k]?=some x->x=(atL l m:Int)/\m<l.length/\dI l a (d.take (k+1)) (atL l m)
 |a,[],b,k,m,x,_,_,c=>by simp at c
 |a,y::d,b,0,m,x,⟨h1,e,h3⟩,f,c=>by
  have f:a=m:=f;subst f;have c:y=x:=by simpa using c
  subst c;exact⟨e,h1,h1,e,rfl⟩
 |a,y::d,b,k+1,m,x,⟨h1,e,h3⟩,⟨h1',e',f⟩,c=>by
  obtain⟨j,g,i⟩:=dI.at_ h3 f (by simpa using c);exact⟨j,g,h1,e,i⟩
def dI.akM{l:List Nat}(f:l.length<=maxLen):∀{a:Nat} {d:List Int} {b:Nat},dI l a d b->∀x∈d,cE x
 |a,[],b,_,x,c=>by cases c
 |a,y::d,b,⟨h1,e,h⟩,x,c=>by
  have:=(fw h1).2.1;unfold maxLen at f;rcases pb.1 c with rfl|c
  .rw[e];unfold cE;omega
  .exact h.akM f x c
def agi(l:List Nat):Nat->Nat->List Int
 |0,_=>[]
 |f+1,a=>if a<l.length then(atL l a:Int)::agi l f (atL l a) else[]
def dI.uniq{l:List Nat}:∀{a:Nat} {b:List Int} {f:Nat},dI l a b l.length->l.length-a<=f->b=agi l f a
 |a,[],f,h,_=>by
  have h:a=l.length:=h;cases f with
  |zero=>rfl
  |succ f=>show[]=if _ then _ else _;rw[da (by omega)]
 |a,x::b,f,⟨h1,e,h⟩,hf=>by
  have:=(fw h1).1;cases f with
  |zero=>omega
  |succ f=>
   show x::b=if _ then _ else _
   rw[eg h1,e,<-h.uniq (f:=f) (by omega)]
def adl{l:List Nat}:∀{f a:Nat},a<=l.length->l.length-a<=f->dI l a (agi l f a) l.length
 |0,a,h1,h2=>by show a=l.length;omega
 |f+1,a,h1,h2=>by
  show dI l a (if a<l.length then(atL l a:Int)::agi l f (atL l a) else[]) l.length;by_cases b:a<l.length
  .rw[eg b];have:=fw b;exact⟨b,rfl,adl (by omega) (by omega)⟩
  .rw[da b];show a=l.length;omega
def cK(s:ByteArray):Nat->List Int->List ByteArray
 |_,[]=>[]
 |a,x::xs=>s.extract a x.toNat::cK s x.toNat xs
def aaG{s:ByteArray}{l:List Nat}:∀{a:Nat} {b:List Int} {m q:Nat},dI l a b m->cK s a (b++[(q:Int)])=cK s a b++[s.extract m q]
 |a,[],m,q,h=>by
  have h:a=m:=h;subst h;rfl
 |a,x::b,m,q,⟨_,e,h⟩=>by
  show s.extract a x.toNat::cK s x.toNat (b++[(q:Int)])=s.extract a x.toNat::(cK s x.toNat b++_);rw[e,sB,aaG h]
def nT(s:ByteArray):∀(a:Nat) (b:List Int),(cK s a b).length=b.length
 |_,[]=>rfl
 |a,x::b=>by show(cK s x.toNat b).length+1=_;rw[nT];rfl
def aaH(s:ByteArray):∀(c:List Int) (a:Nat),∀x∈cK s a c,x.size<=s.size
 |[],_,x,b=>by cases b
 |z::c,a,x,b=>by
  have b:x∈s.extract a z.toNat::cK s z.toNat c:=b;rcases pb.1 b with rfl|b
  .rw[<-aO,dv,qr,fa,aO];omega
  .exact aaH s c _ x b
def ku(s:ByteArray):List ByteArray:=cK s 0 (agi (bs s) s.size 0)
def anb{xs:List Int}(h:dI (bs s) 0 xs s.size):cK s 0 xs=ku s:=by
 rw[<-aO] at h;unfold ku;rw[h.uniq (f:=s.size) (by rw[aO];omega)]
def aqW{q : Nat}(a:(bs s).all pD=true)(e:m<q)(d:q<=m+8)(f:q<=s.size):bF (bs (s.extract m q)):=by
 have b:(((bs s).take q).drop m).length=q-m:=by rw[qr,fa,aO];omega
 rw[dv];refine⟨⟨by omega,by omega⟩, ?_⟩;rw[lP] at a ⊢;exact λx c=>a x (pu (uS c))
def aeS(s:ByteArray){q : Nat}(a:q<=s.size):(s.extract m q).size=q-m:=by
 rw[<-aO,dv,qr,fa,aO];omega
def pJ{s:ByteArray}(g:(bs s).all pD=true):∀{a:Nat} {d:List Int} {b:Nat},dI (bs s) a d b->∀x∈cK s a d,bF (bs x)
 |a,[],b,_,x,c=>by cases c
 |a,y::d,b,⟨h1,e,h⟩,x,c=>by
  obtain⟨i,f,j⟩:=fw h1;rw[aO] at f;have c:x∈s.extract a y.toNat::cK s y.toNat d:=c;rw[e,sB] at c;rcases pb.1 c with rfl|c
  .exact aqW g i j f
  .exact pJ g h x c
def ai0(s:ByteArray):dI (bs s) 0 (agi (bs s) s.size 0) s.size:=by
 have:=adl (l:=bs s) (f:=s.size) (a:=0) (ff _) (by rw[aO];omega)
 rwa [aO] at this
def nU(a:(bs s).all pD=true):∀x∈ku s,bF (bs x):=pJ a (ai0 s)
def ab6(s:ByteArray):(ku s).length<=s.size:=by
 have:=(ai0 s).len;unfold ku;rw[nT];omega
def jR(l:List ByteArray):List Nat:=l.flatMap bs
def aqX(s:ByteArray)(p:Nat)(B:p<s.size)(D:s.size<=1000000)(w:World) :
  Calls (ai β) 144 #[.string s,.int .i64 p] w λe v=>e=.returned (.int .i64 (atL (bs s) p:Nat))/\Below w.heap.size w v:=by
 have n:s.size<=maxLen:=by unfold maxLen;omega
 go_enter yH,ntmps144;go_wp2;go_loopw [5] (λq wr=>∃k f:Nat,k+f=8/\3<=k/\q=.int .i64 k/\atL (bs s) p=atF (bs s) p f k/\Below w.heap.size w wr) (λq _=>8-(intOf q).toNat)
 case atStart=>exact⟨3,5,rfl,by omega,rfl,rfl,du _ _⟩
 case round=>
  obtain⟨k,f,y,C,rfl,b,d⟩:=hrel;replace b:=ab b;by_cases A:k<8
  .obtain⟨g,rfl⟩:∃g,f=g+1:=⟨f-1,by omega⟩;have a:atF (bs s) p (g+1) k=if s.size<=p+k then s.size else if pH (bs s) (p+k)=true then p+k else atF (bs s) p g (k+1):=by
    show(if(bs s).length<=p+k then(bs s).length else _)=_;rw[aO]
   have HS:=ab a;clear a;by_cases j:s.size<=p+k
   .have l:=dj (show(s.size:Int)<=(p:Int)+(k:Int) by omega);go_wp2;go_ret;exact⟨by rw[b.out,HS.out,eg j];rfl,d⟩
   .have l:=db (show ¬((s.size:Int)<=(p:Int)+(k:Int)) by omega);rw[da j] at HS;obtain⟨i,u⟩:∃m,m=p+k:=⟨_,rfl⟩;have x:(p:Int)+(k:Int)=((i:Nat):Int):=by omega
    have o:3<=i/\i<s.size:=by omega
    rw[x] at l;rw[<-u] at HS;clear u;go_wp2;refine(akT s i o n wr).mono ?_;rintro e z ⟨rfl,r⟩;cases t:pH (bs s) i with
    |true=>
     have c:=ab (b.out.trans (HS.out.trans (eg t)));go_wp2;go_ret;exact⟨by rw[c.out];rfl,ag d r⟩
    |false=>
     have c:=ab (b.out.trans (HS.out.trans (da (by rw[t];exact qB))));go_wp2;go_roundw
     case rel=>exact⟨k+1,g,by omega,by omega,by go_num,c.out,ag d r⟩
     simp[intOf];omega
  .obtain rfl:k=8:=by omega
   obtain rfl:f=0:=by omega
   have a:atF (bs s) p 0 8=min (p+8) s.size:=by
    show min (p+8) (bs s).length=_;rw[aO]
   have c:=ab (b.out.trans a);by_cases j:p+8<=s.size
   .have l:=dj (show(p:Int)+8<=(s.size:Int) by omega);rw[rr j] at c;go_wp2;go_ret;exact⟨by rw[c.out];simp,d⟩
   .have l:=db (show ¬((p:Int)+8<=(s.size:Int)) by omega);rw[Nat.min_eq_right (by omega)] at c;go_wp2;go_ret;exact⟨by rw[c.out];simp,d⟩
def aqY(s:ByteArray)(w:World)(e:Ending)(w':World):Prop:=∃v a,e=.returned v/\aL nk 3 w' w.heap.size v a/\dI (bs s) 0 a s.size/\Below w.heap.size w w'
def ak3(s:ByteArray)(L:s.size<=100000)(w:World) :
  Calls (ai β) 128 #[.string s] w (aqY s w):=by
 go_enter yN,ntmps128;go_wp2;have o:=av w (.cells #[] 3);have m:aL nk 3 (w.alloc (.cells #[] 3)) w.heap.size (.slice (some ⟨w.heap.size,0,none⟩) 0 0) []:=(eE.new w 3 (am _)).own 1;generalize w.alloc (.cells #[] 3)=w0 at *;go_loopw [3,4] (λB u wr=>∃(k:Nat) (g:List Int),k<=s.size/\u=.int .i64 k/\aL nk 3 wr w.heap.size B g/\dI (bs s) 0 g k/\Below w.heap.size w wr) (λ_ u _=>s.size-(intOf u).toNat)
 case atStart=>exact⟨0,[],ff _,rfl,m,rfl,o⟩
 case round=>
  obtain⟨k,g,G,rfl,p,n,y⟩:=hrel;obtain⟨A,c,rfl⟩:=p.form;by_cases d:k<s.size
  .go_wp2;refine(aqX s k d (by omega) wr).mono ?_;rintro e E ⟨rfl,x⟩;have b:=fw (l:=bs s) (a:=k) (by rw[aO];exact d);rw[aO] at b;have J:=n.len;have j:=p.below x;have f:=ag y x;have HC:=ab (n.snoc (by rw[aO];exact d));revert HC b;generalize atL (bs s) k=q;intro b HC;go_wp2_with(at_builtin;refine cH (F:=nk) (v:=.slice A g.length c) rfl (.tmp 13) (.tmp 15) 98 rfl abW (q:Int) rfl j rfl rfl (by omega) f.size ?_;intro K H r t z;obtain⟨D,I,rfl⟩:=r.form;simp only[aE,gc,mp,me] at r);go_roundw
   case rel=>exact⟨q,g++[(q:Int)],b.2.1,rfl,by simpa using r,HC.out,f.trans (t.below f.size λi M C=>by have:=(j.at_ C).1;omega)⟩
   simp[intOf];omega
  .obtain rfl:k=s.size:=by omega
   go_wp2;go_ret;exact⟨_,g,rfl,p,n,y⟩
def ak4(s:ByteArray)(w:World)(e:Ending)(w':World):Prop:=∃v,e=.returned v/\aL iA 9 w' w.heap.size v (ku s)/\Below w.heap.size w w'
def agj(s:ByteArray)(B:s.size<=100000)(w:World) :
  Calls (ai β) 90 #[.string s] w (ak4 s w):=by
 go_enter zi,ntmps90;go_wp2;have J:=av w (.cells #[] 9);have C:aL iA 9 (w.alloc (.cells #[] 9)) w.heap.size (.slice (some ⟨w.heap.size,0,none⟩) 0 0) []:=(eE.new w 9 (am _)).own 1;generalize w.alloc (.cells #[] 9)=w0 at *;refine(ak3 s B w0).mono ?_;rintro e w1 ⟨ve,f,rfl,W,a,G⟩;obtain⟨Ae,ce,rfl⟩:=W.form;have j:=C.below G;have l:=ag J G;have z1:=G.size;have a1:=a.len;have H:=W.deep (a.akM (by rw[aO];unfold maxLen;omega)) w0.heap.size;have D:=H.sl (am _);replace a:=ab a;replace j:=ab j;have O:=ab D;replace l:=ab l;clear C J G H D W;go_wp2;go_loopw [3,4,6] (λoo aa Z wr=>∃(k m:Nat),k<=f.length/\m<=s.size/\Z=.int .i64 k/\aa=.int .i64 m/\dI (bs s) 0 (f.take k) m/\aL iA 9 wr w.heap.size oo (cK s 0 (f.take k))/\Below w.heap.size w wr/\eK 3 (bV nk) 1 wr w0.heap.size w1.heap.size f [.slice Ae f.length ce]) (λ_ _ Z _=>f.length-(intOf Z).toNat)
 case atStart=>exact⟨0,0,ff _,ff _,rfl,rfl,rfl,j.out,l.out,O.out⟩
 case round=>
  clear j l O;obtain⟨k,m,hk,lZ,rfl,rfl,U,g,L,P⟩:=hrel;by_cases V:k<f.length
  .obtain⟨y,z⟩:=aq V;obtain⟨rfl,K,M⟩:=a.out.at_ U z;obtain⟨h1,E,h2⟩:=fw K;rw[aO] at E;have N:cK s 0 (f.take (k+1))=cK s 0 (f.take k)++[s.extract m (atL (bs s) m)]:=by rw[li z,aaG U]
   have u:(cK s 0 (f.take k)).length=k:=by rw[nT,fa,rr hk]
   have n:∀x∈cK s 0 (f.take k),x.size<=maxLen:=λx p=>by
    have:=aaH s _ _ x p;unfold maxLen;omega
   revert N;revert M;revert E;revert h2;revert h1;revert z;generalize atL (bs s) m=q;generalize cK s 0 (f.take k)=xs at g u n ⊢;intro z h1 h2 E M N;obtain⟨A,c,rfl⟩:=g.form;obtain⟨b',X,cs,e0,a6,a4,_,⟨rfl,a7⟩,I⟩:=P.1.at_ z;subst e0;obtain⟨a3,T⟩:=P.2 (by omega) _ _ _ _ rfl;have R:wr.cell? ⟨b',X+k,none⟩=some (.int .i64 (q:Int)):=by simpa using I 0 _ rfl
   have HN:=ab N;have H4:=ab M;have O:=ab P;have HG:=ab n;have a8:(s.extract m q).size<=maxLen:=by rw[aeS s E];unfold maxLen;omega
   have a2:=ab u;have a0:xs.length<=100000:=by omega
   clear I N M P U z u K n;have o:∀B:(Value.slice A xs.length c).ownBlock=some b',False:=λB=>by
    obtain⟨ds,hd⟩:=(aL.deep g (λx p=>HG.out x p) 0).blk B;exact absurd (cI T hd) (by decide)
   replace o:=ab o;have g1:¬((m:Int)<0):=by omega
   have g2:(m:Int)<=(q:Int):=by omega
   have g3:(q:Int)<=(s.size:Int):=by omega
   go_wp2_with(at_builtin;refine cH (F:=iA) (v:=.slice A xs.length c) rfl (.tmp 16) (.tmp 24) 89 rfl ab5 (s.extract m q) rfl g rfl rfl (by omega) L.size ?_;intro va wa Y r a5;obtain⟨Aa,ca,rfl⟩:=Y.form;simp only[aE,gc,mp,me] at Y;have a9:=jf R r o.out);go_roundw
   case rel=>
    refine⟨k+1,q,by omega,E,by go_num,rfl,H4.out,by rw[HN.out];simpa using Y,L.trans (r.below L.size λi hi p=>by have:=(g.at_ p).1;omega), ?_⟩;exact(eK.ar (bV.ar nk)).go (λb G b2 ht=>r.block b (by obtain⟨t,_,d,hd⟩:=ht;exact hd.lt) λB=>by
      obtain⟨ds,hd⟩:=(aL.deep g (λx p=>HG.out x p) 0).blk B;obtain⟨t,S,d2,Q⟩:=ht;have e1:=cI hd Q;rw[pi.1 S] at e1;exact absurd e1 (by decide)) (am _) (am _) O.out
   case measure=>simp[intOf];omega
  .obtain rfl:k=f.length:=by omega
   rw[ip,anb a.out] at g;obtain⟨A,c,rfl⟩:=g.form;go_wp2;go_ret;exact⟨_,rfl,g,L⟩
end
section
variable {β:Bool}
open Go.RowKit
def nt(s:ByteArray)(f:s.size<=maxLen)(w:World) :
  Calls (ai β) 82 #[.string s] w λe d=>e=.returned (.bool (dR s))/\w=d:=by
 by_cases b:s.size<=40
 .have a:(bs s).all pD=dR s:=by unfold dR;rw[dj b,vC]
  replace a:=ab a;have c:=dj (show(s.size:Int)<=40 by omega);go_enter xP,ntmps82;go_wp2;refine(af9 s f w).mono ?_;rintro e g ⟨rfl,rfl⟩;rw[a.out];go_wp2;go_ret;exact⟨rfl,rfl⟩
 .have c:=db (show ¬((s.size:Int)<=40) by omega);have e:dR s=false:=by unfold dR;rw[db b,uX]
  rw[e];go_enter xP,ntmps82;go_wp2;go_ret;exact⟨rfl,rfl⟩
def ak5(s:ByteArray)(p:Nat)(u:3<=p/\p<s.size)(q:s.size<=maxLen)(w:World) :
  Calls (ai β) 149 #[.string s,.int .i64 p] w λe o=>e=.returned (.bool (pH (bs s) p))/\Below w.heap.size w o:=by
 unfold maxLen at q;obtain⟨a,j⟩:∃a,a=p-1:=⟨_,rfl⟩;obtain⟨b,g⟩:∃b,b=p-2:=⟨_,rfl⟩;obtain⟨c,l⟩:∃c,c=p-3:=⟨_,rfl⟩;have k:a<s.size:=by omega
 have d:b<s.size:=by omega
 have f:c<s.size:=by omega
 have y:(p:Int)-1=((a:Nat):Int):=by omega
 have x:(p:Int)-2=((b:Nat):Int):=by omega
 have z:(p:Int)-3=((c:Nat):Int):=by omega
 have r:(p:Int)<=9223372036854775807:=by omega
 have i:pH (bs s) p=((dig (s[a]'k).toNat+2*dig (s[b]'d).toNat+3*dig (s[c]'f).toNat) % 5 ==0):=by unfold pH;rw[<-j,<-g,<-l,aai k,aai d,aai f]
 rw[i];clear j g l i;go_enter yD,ntmps149;go_wp2;refine aC 21 [0,1,2,3,4,5,6,7,8,9,10,11,12,13,14,15,16,17,18,19,20] [] (h:= ?_);simp only[pick,List.map,gt,gE];repeat(go_big_quiet_step (fail))
 refine io ?_;apply Exists.intro;refine aS ?_;intro A t v n m;dsimp only[dP] at m;try rw[n] at m
 simp only[List.drop];go_wp2;go_ret;exact⟨aB (by rw[ru];simp only[oE];unfold dig;omega),t⟩
def aus(s:ByteArray)(p:Nat)(C:p<s.size)(E:s.size<=1000000)(w:World) :
  Calls (ai β) 142 #[.string s,.int .i64 p] w λe v=>e=.returned (.int .i64 (atL (bs s) p:Nat))/\Below w.heap.size w v:=by
 have n:s.size<=maxLen:=by unfold maxLen;omega
 go_enter yI,ntmps142;go_wp2;go_loopw [5] (λq wr=>∃k f:Nat,k+f=8/\3<=k/\q=.int .i64 ((p+k:Nat):Int)/\atL (bs s) p=atF (bs s) p f k/\Below w.heap.size w wr) (λq _=>p+8-(intOf q).toNat)
 case atStart=>exact⟨3,5,rfl,by omega,by go_num,rfl,du _ _⟩
 case round=>
  obtain⟨k,f,z,D,rfl,b,g⟩:=hrel;replace b:=ab b;by_cases B:k<8
  .obtain⟨i,rfl⟩:∃i,f=i+1:=⟨f-1,by omega⟩;have a:atF (bs s) p (i+1) k=if s.size<=p+k then s.size else if pH (bs s) (p+k)=true then p+k else atF (bs s) p i (k+1):=by
    show(if(bs s).length<=p+k then(bs s).length else _)=_;rw[aO]
   have HS:=ab a;obtain⟨d,l⟩:∃m,m=p+k:=⟨_,rfl⟩;rw[<-l] at HS ⊢;have o:3<=d/\d<p+8:=by omega
   have x:=dj (show(d:Int)<(p:Int)+8 by omega);by_cases j:s.size<=d
   .have y:=db (show ¬(d<s.size) by omega);rw[eg j] at HS;have c:=ab (b.out.trans HS.out);have r:=db (show ¬((p:Int)+8<=(s.size:Int)) by omega);go_wp2;go_ret;exact⟨by rw[c.out];simp,g⟩
   .have y:=dj (show d<s.size by omega);rw[da j] at HS;replace l:=ab l;go_wp2;refine(ak5 s d ⟨o.1,by omega⟩ n wr).mono ?_;rintro e A ⟨rfl,t⟩;cases u:pH (bs s) d with
    |true=>
     have c:=ab (b.out.trans (HS.out.trans (eg u)));go_wp2;go_ret;exact⟨by rw[c.out];rfl,ag g t⟩
    |false=>
     have c:=ab (b.out.trans (HS.out.trans (da (by rw[u];exact qB))));go_wp2;go_roundw
     case rel=>exact⟨k+1,i,by omega,by omega,by have:=l.out;go_num,c.out,ag g t⟩
     simp[intOf];omega
  .obtain rfl:k=8:=by omega
   obtain rfl:f=0:=by omega
   have a:atF (bs s) p 0 8=min (p+8) s.size:=by
    show min (p+8) (bs s).length=_;rw[aO]
   have c:=ab (b.out.trans a);have x:=db (show ¬(((p+8:Nat):Int)<(p:Int)+8) by omega);by_cases j:p+8<=s.size
   .have r:=dj (show(p:Int)+8<=(s.size:Int) by omega);rw[rr j] at c;go_wp2;go_ret;exact⟨by rw[c.out];simp,g⟩
   .have r:=db (show ¬((p:Int)+8<=(s.size:Int)) by omega);rw[Nat.min_eq_right (by omega)] at c;go_wp2;go_ret;exact⟨by rw[c.out];simp,g⟩
end
section
variable {β:Bool}
open Go.RowKit
def ak6(h:k<s.size):code ((bs s).take (k+1))=27*code ((bs s).take k)+((s[k]'h).toNat-97)+1:=af8 (aa2 h)
def ai1{l:List Nat}(h:bF l)(k:Nat):code (l.take k)<282429536481:=by
 rcases qg k with a|a
 .subst a;simp[code,eD]
 .refine abV ⟨⟨?_, ?_⟩, ?_⟩
  .rw[fa];have:=h.1.1;omega
  .rw[fa];have:=h.1.2;omega
  .rw[lP];exact λx b=>lP.1 h.2 x (pu b)
def aut(key:Int)(s:ByteArray)(q:1<=key/\key<=99)(b:bF (bs s))(w:World) :
  Calls (ai β) 155 #[.int .i64 key,.string s] w λe p=>e=.returned (.tuple #[.int .i64 (dc key (bs s)),.nilIface])/\w=p:=by
 have t:1<=s.size/\s.size<=8:=by have:=b.1;rw[aO] at this;exact this
 have j:s.size<=maxLen:=by unfold maxLen;omega
 have m:=abV b;replace b:=ab b;replace j:=ab j;have l:dc key (bs s)=((code (bs s):Int)*(2*key+1)+7919*key) % 999999999989:=by unfold dc;rw[Int.mul_comm key 7919]
 have g:=ab l;clear l;go_enter yA,ntmps155;go_wp2;refine(ag7 key w true (by simp;exact q)).mono ?_;rintro e n ⟨rfl,rfl⟩;go_wp2;refine(aag s j.out w true (by simp only[tM];exact b.out)).mono ?_;rintro e n ⟨rfl,rfl⟩;go_wp2
 go_loop [6,20] (λc i=>∃k:Nat,k<=s.size/\i=.int .i64 k/\c=.int .i64 (code ((bs s).take k))) (λ_ i=>s.size-(intOf i).toNat)
 case atStart=>exact⟨0,ff _,rfl,rfl⟩
 case round=>
  obtain⟨k,o,rfl,rfl⟩:=hrel;by_cases a:k<s.size
  .have d:=ak6 a;have v:=ai1 b.out k;have r:=ai1 b.out (k+1);have A:97<=(s[k]'a).toNat/\(s[k]'a).toNat<=122:=by
    have:=lP.1 b.out.2 _ (de (aa2 a));unfold pD at this;simpa using this
   replace d:=ab d;generalize f:code ((bs s).take k)=cd at *;replace f:=ab f;go_wp2
   go_round
   case rel=>exact⟨k+1,by omega,by go_num,by rw[d.out];congr 1;omega⟩
   simp[intOf];omega
  .obtain rfl:k=s.size:=by omega
   have u:(bs s).take s.size=bs s:=pa (by rw[aO];exact am _);rw[u];revert g;revert m;generalize code (bs s)=c;intro m g;have y:0<=(c:Int)*(2*key+1)/\(c:Int)*(2*key+1)<=282429536481*199:=by
    constructor
    .exact Int.mul_nonneg (by omega) (by omega)
    .exact Int.mul_le_mul (by omega) (by omega) (by omega) (by omega)
   have C:wrap64 (2*key)=2*key:=by unfold wrap64;omega
   have x:wrap64 (2*key+1)=2*key+1:=by unfold wrap64;omega
   have D:wrap64 ((c:Int)*(2*key+1))=(c:Int)*(2*key+1):=by unfold wrap64;omega
   have z:wrap64 (7919*key)=7919*key:=by unfold wrap64;omega
   have B:wrap64 ((c:Int)*(2*key+1)+7919*key)=(c:Int)*(2*key+1)+7919*key:=by unfold wrap64;omega
   have E:((c:Int)*(2*key+1)+7919*key).tmod 999999999989=((c:Int)*(2*key+1)+7919*key) % 999999999989:=vA (by omega);go_wp2;go_ret2;exact⟨by rw[g.out];rfl,rfl⟩
def aqZ(key:Int)(s:ByteArray)(nm:Int)(c:1<=key/\key<=99)(b:bF (bs s))(w:World) :
  Calls (ai β) 146 #[.int .i64 key,.string s,.int .i64 nm] w λe d=>e=.returned (.bool (decide (dc key (bs s)=nm)))/\w=d:=by
 replace b:=ab b;go_enter yF,ntmps146;go_wp2;refine(aut key s c b.out w).mono ?_;rintro e f ⟨rfl,rfl⟩;obtain⟨y,a⟩:∃y,y=dc key (bs s):=⟨_,rfl⟩;rw[<-a];replace a:=ab a;by_cases h:y=nm
 .subst h;go_wp2;go_ret;exact⟨aB (by rw[<-a.out];simp),rfl⟩
 .have g:(y ==nm)=false:=dk.2 h;go_wp2;go_ret;exact⟨aB (by rw[<-a.out];simp[h]),rfl⟩
end
section
variable {β:Bool}
open Go.RowKit
def aoG(n:Nat)(m:1<=n/\n<=8)(w:World) :
  Calls (ai β) 165 #[.int .i64 n] w λe f=>e=.returned (.int .i64 (cx n))/\w=f:=by
 have i:((1<=n/\n<=2)/\cx n=2)\/((3<=n/\n<=4)/\cx n=4)\/((5<=n/\n<=8)/\cx n=8):=by
  unfold cx;split<;>(try split)<;>(try split)<;>omega
 obtain⟨a,b⟩:∃a,a=cx n:=⟨_,rfl⟩;rw[<-b] at i ⊢;replace b:=ab b;have l:=db (show ¬((n:Int)<1) by omega);have j:=db (show ¬(8<(n:Int)) by omega);go_enter yx,ntmps165;go_wp2
 go_loop [3] (λv=>∃k:Nat,v=.int .i64 k/\(k=2\/k=4\/k=8)/\k<=a) (λv=>8-(intOf v).toNat)
 case atStart=>exact⟨2,rfl,.inl rfl,by omega⟩
 case round=>
  obtain⟨k,rfl,o,g⟩:=hrel;by_cases d:k<n
  .have c:=dj (show(k:Int)<(n:Int) by omega);go_wp2
   go_round
   case rel=>exact⟨k*2,by go_num,by omega,by omega⟩
   simp[intOf];omega
  .have c:=db (show ¬((k:Int)<(n:Int)) by omega);obtain rfl:k=a:=by omega
   go_wp2;go_ret;exact⟨rfl,rfl⟩
def ak7(s:ByteArray)(r:s.size<=maxLen)(w:World) :
  Calls (ai β) 160 #[.string s,.int .u8 46] w λe q=>e=.returned (.string (s.extract 0 (eW (bs s) s.size)))/\w=q:=by
 unfold maxLen at r;go_enter yy,ntmps160;go_wp2
 go_loop [0] (λv=>∃(t:ByteArray) (k:Nat),v=.string t/\k<=s.size/\t=s.extract 0 k/\eW (bs s) s.size=eW (bs s) k) (λv=>match v with|.string t=>t.size|_=>0)
 case atStart=>exact⟨s,s.size,rfl,am _,by rw[ByteArray.extract_zero_size],rfl⟩
 case round=>
  obtain⟨t,k,rfl,y,c,a⟩:=hrel;have x:t.size=k:=by rw[c,vN y]
  replace c:=ab c;replace a:=ab a;rcases qg k with n|n
  .have p:=db (show ¬(0<(t.size:Int)) by omega);go_wp2;go_ret;exact⟨by rw[a.out,c.out,n];rfl,rfl⟩
  .obtain⟨j,rfl⟩:∃j,k=j+1:=⟨k-1,by omega⟩;have p:=dj (show 0<(t.size:Int) by omega);have z:((j+1:Nat):Int)-1=(j:Int):=by omega
   have f:j<t.size:=by omega
   have g:(bs s)[j]?=some (t[j]'f).toNat:=by
    rw[<-aa2 f,c.out,dv,rO,tw (by omega)]
   replace g:=ab g;by_cases d:(t[j]'f).toNat=46
   .have o:(((t[j]'f).toNat:Int) ==46)=true:=oE.2 (by omega);have m:eW (bs s) s.size=eW (bs s) j:=by
     rw[a.out];show(if(bs s)[j]?=some 46 then eW (bs s) j else j+1)=_;rw[eg (by rw[g.out,d])]
    replace m:=ab m;have l:t.extract 0 j=s.extract 0 j:=by
     apply pC;rw[dv,dv,c.out,dv,rO,rO,rO,List.take_take]
     congr 1;omega
    have u:(t.extract 0 j).size=j:=vN (by omega);replace l:=ab l;go_wp2
    go_round
    case rel=>exact⟨_,j,rfl,by omega,l.out,m.out⟩
    case measure=>
     show(t.extract 0 j).size<t.size;omega
   .have o:(((t[j]'f).toNat:Int) ==46)=false:=dk.2 (by omega);have b:eW (bs s) (j+1)=j+1:=by
     show(if(bs s)[j]?=some 46 then eW (bs s) j else j+1)=_;rw[da (by rw[g.out];intro h;exact d (dq h))]
    replace b:=ab b;go_wp2;go_ret;have i:t=s.extract 0 (eW (bs s) s.size):=by rw[a.out,b.out];exact c.out
    exact⟨by rw[<-i];rfl,rfl⟩
def ai2(s:ByteArray)(b:s.size<=maxLen)(w:World) :
  Calls (ai β) 152 #[.string s,.string ⟨#[46]⟩] w λe c=>e=.returned (.string (s.extract 0 (eW (bs s) s.size)))/\w=c:=by
 by_cases d:s.size=0
 .have a:s=ByteArray.empty:=pC (by
   have:(bs s).length=0:=by rw[aO];exact d
   rw[qT this];rfl)
  subst a;go_enter xB,ntmps152;go_wp2;go_ret;exact⟨rfl,rfl⟩
 .have g:s.toList.isEmpty=false:=by
   rw[Bool.eq_false_iff];intro h;rw[List.isEmpty_iff,qR] at h;apply d;have:s.data=#[]:=uJ.1 h;show s.data.size=0;rw[this];rfl
  have f:¬(128:Int)<=(((⟨#[46]⟩:ByteArray)[0]'Nat.zero_lt_one).toNat:Int):=by decide
  replace b:=ab b;go_enter xB,ntmps152;go_wp2_with(go_at_call 160;refine(ak7 s b.out w).mono ?_;rintro e c ⟨rfl,rfl⟩);go_ret;exact⟨rfl,rfl⟩
end
section
variable {β:Bool}
open Go.RowKit
def ak8 {ty c : TypeId} {j:TypeInfo}  (k:P.underlying O=some (.pointer t)) (hi:P.info? t=some j) (l:j.bytes<18446744073709551616)
  (a:w.shape? b=some (e,Z)) (f:liesAt P P.depth e (Z / P.cellsOf e) 0 t 1=true) :
  (Builtin.unsafeSlice_ #[O,c] ty #[.pointer (some ⟨b,0,none⟩),.int .i64 1]).run P w=.ok (.slice (some ⟨b,0,none⟩) 1 1) w:=by
 have g:¬(18446744073709551616:Nat)<=j.bytes:=by omega
 unfold Builtin.unsafeSlice_;refine(qW P (asInt (.int .i64 1)) _ w).trans ?_;have d:(asInt (.int .i64 1)).run P w=.ok 1 w:=by simp[asInt,asIntOf]
 rw[d];refine(qW P (elemOf O) _ w).trans ?_;have i:(elemOf O).run P w=.ok t w:=by simp[elemOf,mu k]
 rw[i];simp only[Result.andThen];simp[variablesAt,a,f,typeInfo,hi,sizeOf,IntKind.max,IntKind.signed,IntKind.bits,g]
noncomputable def xCC:Func:=by
 apply(λ(x:Func) (_:{f139 with body:=some nH}=x)=>x)
 case x=>dsimp only[nH,pB,agZ,akH,iH,f139]
def anc:xCC.results=#[]:=results139
def ak9:(ai β).funcs[139]?=some xCC:=acC β
@[go_sem] theorem azW(args:Array Value)(w:World):(callFunc 139 args).run (ai β) w=.ok (.enter 139 args) w:=by
 have a:=cM func139;exact ly ak9 a rfl args w
def auu:((ai β).info? 178).map (λi=>(i.bytes,i.size))=some (32,2):=by kernel_rfl
def auv:liesAt (ai β) (ai β).depth 178 (2 / (ai β).cellsOf 178) 0 178 1=true:=by kernel_rfl
def ai3(a:w.shape? b=some (178,2)):(Builtin.unsafeSlice_ #[176,3] 0 #[.pointer (some ⟨b,0,none⟩),.int .i64 1]).run (ai β) w=.ok (.slice (some ⟨b,0,none⟩) 1 1) w:=by
 obtain⟨j,d,c⟩:=lw.1 (auu (β:=β));simp only[vu] at c;exact ak8 yo d (by omega) a auv
def ai4(b:Nat)(w:World)(g:w.cell? ⟨b,0,none⟩=some (.pointer none))(a:w.shape? b=some (178,2))(d:w.frozen? ⟨b,0,none⟩=false) :
  Calls (ai β) 139 #[.pointer (some ⟨b,0,none⟩)] w λe c=>e=.returned (.tuple #[])/\c=w.setCell ⟨b,0,none⟩ (.pointer (some ⟨b,0,none⟩)):=by
 have i:=ai3 (β:=β) a;have f:xCC.ntmps=20:=ntmps139;go_enter ak9,f;go_wp2;refine nf (results_none anc _ _ _) rfl ?_;exact⟨rfl,rfl⟩
def axJ(B b:Nat)(bs:List Value)(w:World)(h:Lib.IsBuilderF 178 5 B b bs w) :
  Calls (ai β) 139 #[.pointer (some ⟨b,0,none⟩)] w λe a=>e=.returned (.tuple #[])/\(Lib.BuilderAtF 178 5 B b (.pointer (some ⟨b,0,none⟩)) bs a/\Below B w a):=by
 rcases h with h|h
 .refine(ai4 b w h.cell0 h.shape h.frozen0).mono ?_;rintro e a ⟨rfl,rfl⟩;exact⟨rfl,h.used _,(du B w).setCell (p:=⟨b,0,none⟩) h.1 _⟩
 .have j:=ai3 (β:=β) h.shape;have g:xCC.ntmps=20:=ntmps139;have i:=h.cell0;have k:=h.frozen0;have c:=h.used (.pointer none);have f:=c.cell0;have d:=c.frozen0;go_enter ak9,g;go_wp2;refine nf (results_none anc _ _ _) rfl ?_;refine⟨rfl,c.used _,((du B w).setCell (p:=⟨b,0,none⟩) h.1 _).setCell (p:=⟨b,0,none⟩) h.1 _⟩
def ala(B b:Nat)(bs:List Value)(w:World)(h:Lib.IsBuilderF 178 5 B b bs w) :
  Calls (ai β) 172 #[.pointer (some ⟨b,0,none⟩)] w λe j=>e=.returned (.int .i64 bs.length)/\j=w:=by
 obtain⟨p,n,v,l,a,i⟩:∃p,Lib.BuilderAtF 178 5 B b p bs w:=by
  rcases h with h|h
  .exact⟨_,h⟩
  .exact⟨_,h⟩
 obtain⟨c,cap,rfl⟩:∃c cap,v=.slice c bs.length cap:=by
  rcases a.2 with⟨d,k⟩|⟨g,cap,f,m,d,_⟩
  .exact⟨none,0,by rw[d,k]⟩
  .exact⟨_,_,d⟩
 have o:w.cell? ⟨b,1,none⟩=some (.slice c bs.length cap):=by rw[rm l];rfl
 go_enter yu,ntmps172;go_wp2;go_ret;exact⟨rfl,rfl⟩
def auw:((ai β).info? 5).map (λi=>(i.zero,i.size,i.bytes))=some (some (.int .u8 0),1,1):=by kernel_rfl
def pK(B b:Nat)(bs:List Value)(s:ByteArray)(w:World)(h:Lib.IsBuilderF 178 5 B b bs w)(C:bs.length+s.size<=140737488355328)(J:B<=w.heap.size) :
  Calls (ai β) 120 #[.pointer (some ⟨b,0,none⟩),.string s] w λe z=>e=.returned (.tuple #[.int .i64 s.size,.nilIface])/\(Lib.BuilderAtF 178 5 B b (.pointer (some ⟨b,0,none⟩)) (bs++Lib.strCells s) z/\Below B w z):=by
 obtain⟨I,K,q,t,u⟩:=info_parts (auw (β:=β));go_enter yS,ntmps120;go_wp2_with(go_at_call 139;refine(axJ B b bs _ h).mono ?_);rintro e j ⟨rfl,G,i⟩;obtain⟨D,v,l,f,o⟩:=G;have Q:j.cell? ⟨b,0,none⟩=some (.pointer (some ⟨b,0,none⟩)):=by rw[rm l];rfl
 have O:j.cell? ⟨b,1,none⟩=some v:=by rw[rm l];rfl
 go_wp2_with(at_builtin;refine Lib.wpList_append_own_stringF _ rfl _ _ 22 9 rfl B 5 I wZ qU9 K q t u _ _ _ rfl f s rfl ?c3 ?c4 ?c5 ?_)
 case c3=>unfold maxLen;omega
 case c4=>omega
 case c5=>have:=i.size;omega
 intro E m a c _;have n:b<j.heap.size:=by
  rcases pr b j.heap.size with r|r
  .exact r
  .simp[qk r] at l
 have d:m.heap[b]?=some (.cells #[.pointer (some ⟨b,0,none⟩),v] 178 (0,0)):=by
  rw[c.block b n (λe=>o e.symm)];exact l
 have P:m.cell? ⟨b,0,none⟩=some (.pointer (some ⟨b,0,none⟩)):=by rw[rm d];rfl
 have N:m.cell? ⟨b,1,none⟩=some v:=by rw[rm d];rfl
 have M:m.frozen? ⟨b,1,none⟩=false:=vj d 1;obtain⟨A,y,cap,rfl⟩:∃A y cap,E=.slice A y cap:=by
  rcases a.2 with⟨x,_⟩|⟨g,cap,H,L,x,_⟩
  .exact⟨_,_,_,x⟩
  .exact⟨_,_,_,x⟩
 go_wp2;go_ret2;refine⟨rfl, ?_, ?_⟩
 .exact Lib.BuilderAtF.put (T:=178) (e:=5) D d (bs':=bs++Lib.strCells s) (by simpa[Lib.strCells_length] using a) (by decide)
 .exact(i.grown c (by have:=i.size;omega) (λk F=>(f.lt k F).1)).setCell (p:=⟨b,1,none⟩) D _
end
section
variable {β:Bool}
open Go.RowKit
def ad0:((ai β)).follows .mixedOrders=true:=by kernel_rfl
def auy(B b n:Nat)(w:World)(r:B<=b)(d:w.heap[b]?=some (.cells #[.pointer (some ⟨b,0,none⟩),.slice none 0 0] 178 (0,0)))(g:B<=w.heap.size)(p:n<=281474976710656) :
  Calls (ai β) 140 #[.pointer (some ⟨b,0,none⟩),.int .i64 n] w λe m=>e=.returned (.tuple #[])/\(Lib.BuilderAt 178 5 B b (.pointer (some ⟨b,0,none⟩)) [] m/\Below B w m):=by
 obtain⟨cs,f,q,j⟩:=Lib.run_makeNoZero (P:=(ai β)) w.drew #[3] 22 5 wZ n p;have l:IntKind.i64.wrap (IntKind.i64.wrap 0+(n:Int))=n:=by
  rw[uI,uI];omega
 have t:(callFunc 148 #[.int .i64 (IntKind.i64.wrap (IntKind.i64.wrap 0+(n:Int)))]).run (ai β) w.drew=.ok (.value (.slice (some ⟨w.drew.heap.size,0,none⟩) n cs.size)) (w.drew.drew.drew.alloc (.cells cs 5)):=by
  rw[l,run_callFunc_extern yE (by kernel_rfl) (by kernel_rfl) (by kernel_rfl) (e:=Extern.BytealgMakeNoZero.makeNoZero #[3] #[22]) (by kernel_rfl),f];rfl
 have v:w.drew.cell? ⟨b,1,none⟩=some (.slice none 0 0):=by
  have:w.drew.heap[b]?=_:=d;rw[rm this];rfl
 have s:(w.alloc (.cells cs 5)).cell? ⟨b,1,none⟩=some (.slice none 0 0):=by
  have a:b<w.heap.size:=by
   rcases pr b w.heap.size with c|c
   .exact c
   .simp[qk c] at d
  have:(w.alloc (.cells cs 5)).heap[b]?=_:=(Lib.alloc_old w _ b a).trans d;rw[rm this];rfl
 have u:(w.alloc (.cells cs 5)).frozen? ⟨b,1,none⟩=false:=by
  have a:b<w.heap.size:=by
   rcases pr b w.heap.size with c|c
   .exact c
   .simp[qk c] at d
  exact vj ((Lib.alloc_old w _ b a).trans d) 1
 have o:∀W:World,(Builtin.copy_ #[22,22] 3 #[.slice (some ⟨w.heap.size,0,none⟩) 0 cs.size,.slice none 0 0]).run (ai β) W=.ok (goInt 0) W:=
  λW=>run_copy_none W 22 22 3 5 _ _ 0 cs.size 0 0 wZ (by kernel_rfl) rfl
 clear l;have k:=ad0 (β:=β);go_enter yJ,ntmps140;go_wp2;have i:=Lib.grown_fresh (T:=178) (e:=5) (cs:=cs) r d g (j (by unfold maxLen;omega)) (by decide)
 go_region_o
 all_goals(go_wp2;go_end0;exact⟨rfl,i⟩)
def ane(B b n:Nat)(w:World)(j:B<=b)(f:w.heap[b]?=some (.cells #[.pointer none,.slice none 0 0] 178 (0,0)))(g:B<=w.heap.size)(m:n<=281474976710656) :
  Calls (ai β) 119 #[.pointer (some ⟨b,0,none⟩),.int .i64 n] w λe d=>e=.returned (.tuple #[])/\(Lib.BuilderAt 178 5 B b (.pointer (some ⟨b,0,none⟩)) [] d/\Below B w d):=by
 have a:(w.setCell ⟨b,0,none⟩ (.pointer (some ⟨b,0,none⟩))).heap[b]?=some (.cells #[.pointer (some ⟨b,0,none⟩),.slice none 0 0] 178 (0,0)):=by
  simp[World.setCell,pm,f]
 have r:(w.setCell ⟨b,0,none⟩ (.pointer (some ⟨b,0,none⟩))).cell? ⟨b,1,none⟩=some (.slice none 0 0):=by rw[rm a];rfl
 have c:Below B w (w.setCell ⟨b,0,none⟩ (.pointer (some ⟨b,0,none⟩))):=(du B w).setCell (p:=⟨b,0,none⟩) j _;have i:=ad0 (β:=β);go_enter yT,ntmps119;have q:Lib.BuilderAt 178 5 B b (.pointer (some ⟨b,0,none⟩)) [] (w.setCell ⟨b,0,none⟩ (.pointer (some ⟨b,0,none⟩))):=⟨j,.slice none 0 0,a,uu _ _ _ _,by simp[Value.ownBlock]⟩;have l:(w.setCell ⟨b,0,none⟩ (.pointer (some ⟨b,0,none⟩))).drew.cell? ⟨b,1,none⟩=some (.slice none 0 0):=r;go_wp2_with(go_at_call 139;refine(ai4 b w (by rw[rm f];rfl) (by simp[World.shape?,f]) (vj f 0)).mono ?_;rintro e d ⟨rfl,rfl⟩)
 go_region_o
 all_goals go_wp2_with(go_at_call 140;refine(auy B b n (w.setCell ⟨b,0,none⟩ (.pointer (some ⟨b,0,none⟩))).drew j a (by simpa[World.setCell,World.drew, -World.drew_eq] using g) m).mono ?_;rintro e d ⟨rfl,o,k⟩)
 all_goals first
  |(go_end0;exact⟨rfl,o,c.drew.trans k⟩)
  |(go_end0;exact⟨rfl,q.drew,c.drew⟩)
end
section
variable {β:Bool}
open Go.RowKit
def auz:Code->Code
 |.seq a b=>.seq (auz a) (auz b)
 |.region i ⟨ops⟩ d=>.region i (ops.map λo=>{o with type:=match o.op with|.call ⟨.builtin .unsafeSliceData,_,_⟩=>3|_=>o.type}).toArray d
 |.ret=>.ret
 |_=>.skip
noncomputable def xSt:Func:=by
 apply(λ(x:Func) (_:{f121 with body:=f121.body.map auz}=x)=>x)
 case x=>dsimp only[auz,f121,Option.map,List.map]
def aq0:f121.body.map gP=xSt.body:=by unfold gP;kernel_rfl
def aq1:(ai β).funcs[121]?=some xSt:=by
 refine(akI β (by decide) (by decide)).trans ?_;have e:Option.map pf (prog.funcs[121]?)=Option.map pf (some f121):=jt _ func121;rw[e,qs];unfold pf;rw[aq0];rfl
@[go_sem] theorem azX(args:Array Value)(w:World):(callFunc 121 args).run (ai β) w=.ok (.enter 121 args) w:=by
 have a:=cM func121;exact ly aq1 a rfl args w
def acN(B b:Nat)(l:List UInt8)(w:World)(h:Lib.IsBuilderF 178 5 B b (Lib.byteCells l) w)(t:l≠[]) :
  Calls (ai β) 121 #[.pointer (some ⟨b,0,none⟩)] w λe s=>e=.returned (.string ⟨l.toArray⟩)/\(Lib.IsBuilderF 178 5 B b (Lib.byteCells l) s/\Below B w s):=by
 obtain⟨p,G,q⟩:∃p,(p=.pointer none\/p=.pointer (some ⟨b,0,none⟩))/\Lib.BuilderAtF 178 5 B b p (Lib.byteCells l) w:=by
  rcases h with h|h
  .exact⟨_,.inl rfl,h⟩
  .exact⟨_,.inr rfl,h⟩
 obtain⟨O,v,u,c,f⟩:=q;have i:l.length≠0:=by simpa using t
 rw[rP] at c;obtain⟨g,cap,a,d,rfl,o,z,P,I,k,K,Q⟩:∃g cap a d,v=.slice (some ⟨g,0,none⟩) l.length cap/\B<=g/\w.heap[g]?=some (.cells a 5 d)/\d.2<=l.length*1/\l.length<=cap/\cap<=maxLen/\a.size=cap*1/\a.toList.take (l.length*1)=Lib.byteCells l:=by
  rcases c.2 with⟨_,H⟩|⟨g,cap,a,d,N,r⟩
  .exact absurd H i
  .exact⟨g,cap,a,d,N,r⟩
 have E:w.drew.cell? ⟨b,1,none⟩=some (.slice (some ⟨g,0,none⟩) l.length cap):=by
  have:w.drew.heap[b]?=some (.cells #[p,.slice (some ⟨g,0,none⟩) l.length cap] 178 (0,0)):=u;rw[rm this];rfl
 have F:(Builtin.unsafeSliceData_ #[22] 3 #[.slice (some ⟨g,0,none⟩) l.length cap]).run (ai β) w.drew=.ok (.pointer (some ⟨g,0,none⟩)) w.drew:=
  Lib.run_unsafeSliceData_row _ _ _ _ _ _ (by omega)
 have y:(Builtin.unsafeString_ #[201,3] 9 #[.pointer (some ⟨g,0,none⟩),.int .i64 l.length]).run (ai β) w.drew=.ok (.string ⟨l.toArray⟩) (w.drew.freeze ⟨g,0,none⟩ l.length):=by
  refine Lib.run_unsafeString_row w.drew 201 3 9 5 yn (by kernel_rfl) g a.size (by have A:w.drew.heap[g]?=some (.cells a 5 d):=z;simp[World.shape?,A]) l t (by omega) (by unfold maxLen at k;omega) ?_;intro j x L;have:=c.cells (g:=g) rfl j (.int .u8 x.toNat) (by simp[Lib.byteCells,L]);exact this
 have C:Lib.IsBuilderF 178 5 B b (Lib.byteCells l) (w.drew.freeze ⟨g,0,none⟩ l.length):=by
  have D:Lib.BuilderAtF 178 5 B b p (Lib.byteCells l) w.drew:=⟨O,_,u,by rw[rP];exact c,f⟩;have n:=D.froze (g:=g) (cap:=cap) (by rw[rP];exact E);rw[rP] at n;rcases G with rfl|rfl
  .exact .inl n
  .exact .inr n
 have m:=ad0 (β:=β);have M:xSt.ntmps=14:=ntmps121;have J:xSt.results=#[.tmp 2]:=results121;go_enter aq1,M;go_wp2
 go_region_o
 all_goals(go_wp2;refine nf (results_tmp J _ _ _) rfl ?_;exact⟨rfl,C,Lib.below_freeze (Below.drew (du B w)) (p:=⟨g,0,none⟩) o _⟩)
end
end Go.Proofs.YtgjaikdifcbnkaaGreatDoor