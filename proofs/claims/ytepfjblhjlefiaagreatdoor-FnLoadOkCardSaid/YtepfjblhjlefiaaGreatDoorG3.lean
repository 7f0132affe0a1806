/- A part. -/
import Derived.Test.YtepfjblhjlefiaaGreatDoorG2
import Derived.StillTail
import Derived.Deep.RegionHeld3
import Derived.Deep.RegionLaw
import Derived.Laws.OwnMore
import Derived.Laws.Cover1
set_option maxRecDepth 100000
set_option maxHeartbeats 8000000
set_option linter.all false
open Go Go.RowKit Go.Proofs.Tryz Go.Proofs.YtepfjblhjlefiaaGreatDoor
variable {Z N b base' c g hi i j k lo m n:Nat} {Y a:Act} {key:Int} {X:Type} {o:Oper} {p:Addr} {u v:Value} {w w' w2 x:World} {e t:TypeId} {f:FuncId} {P:Program} {S:Nat→Prop} {l:List Int} {O rest:List Oper} {s:ByteArray} {W:Array Oper} {R:List Value} {d:Option Tmp} {listed:Array Bool} {U cs es:Array Value} {A:Option Addr} {V:Act→World→Prop} {xs:List ByteArray} {T Q:Exit→Act→World→Prop} {E:gF X}
namespace Go.Proofs.YtepfjblhjlefiaaGreatDoor
def ff:=@Go.RowKit.Below.refl
def gt:=@List.take_length
def gE:=@List.mem_singleton
def iS:=@Go.wpQuiet_nil
def li:=@List.getElem?_eq_some_iff
def me:=@List.length_nil
def mw:=@Go.World.size_alloc
def pa:=@List.getD_cons_zero
def pb:=@List.getD_cons_succ
def ph:=@Go.bodyPost_ret
def pX:=@List.length_drop
def qe:=@List.mem_flatMap
def qg:=@List.pairwise_iff_getElem
def qi:=@Int.eq_ofNat_of_zero_le
def qo:=@Go.Addr.mk.injEq
def qG:=@decide_eq_true_eq
def qK:=@List.length_set
def qT:=@List.flatMap_append
def qW:=@Nat.min_eq_left
def qZ:=@List.getElem?_of_mem
def rr:=@List.drop_eq_getElem_cons
def rv:=@UInt8.lt_iff_toNat_lt
def rF:=@List.pairwise_singleton
def rH:=@Nat.succ_mul
def rL:=@List.mem_append_right
def rM:=@List.pairwise_append
def rN:=@List.mem_append_left
def rQ:=@Nat.le_of_succ_le
def rU:=@Nat.add_sub_cancel_left
def rY:=@Go.IntKind.wrap_i64
def se:=@List.pairwise_cons
def sx:=@Nat.not_lt_zero
def sA:=@List.take_append_drop
def sB:=@List.mem_filter
def sG:=@List.getD_eq_getElem?_getD
def sH:=@of_decide_eq_true
def sI:=@List.foldl_append
def sJ:=@Int.toNat_natCast
def sS:=@List.getElem?_take_of_lt
def sT:=@Go.World.block_lt_of_cell?
def sZ:=@List.getElem?_drop
def tu:=@Go.getD_replicate_false
def tv:=@List.mem_of_mem_drop
def tC:=@Nat.mul_one
def tG:=@List.nodup_cons
def tI:=@List.append_nil
def tT:=@Bool.false_and
def tV:=@List.filter_cons_of_pos
def tW:=@List.filter_cons_of_neg
def tY:=@Nat.lt_trichotomy
def ua:=@List.nodup_append
def uj:=@Bool.true_and
def uA:=@Nat.zero_mul
def uC:=@Nat.mod_lt
def uH:=@List.take_succ_cons
def uN:=@Int.emod_lt_of_pos
def uP:=@Nat.mod_two_eq_zero_or_one
def uV:=@Go.World.ownsRow_nil
def vz:=@Int.emod_nonneg
def vI:=@List.take_take
def vJ:=@List.set_append_right
section
variable {β:Bool}
def ahs:Op->Bool
 |.move .. | .assign .. | .pick .. | .load .. | .binOp .. | .unOp .. | .convert .. | .slice .. | .fieldAddr .. | .field .. | .indexAddr .. | .index .. | .lookup .. | .extract .. | .build .. | .typeAssert .. | .makeInterface .. | .makeFunc .. | .nilCheck .. =>true
 |.call c=>match c.callee with
  |.builtin .len=>true
  |_=>false
 |_=>false
def aht(h:ahs o.op=true){ρ:Operand->Value}{args:Array Value}:(execOp ρ o).run P w ≠ .ok (.enter f args) w':=by
 obtain⟨dst,op,j,k,after,g⟩:=o;cases op<;>simp only[ahs,jn] at h
 case nilCheck x=>
  simp only[execOp];intro a;split at a
  .simp[runtimePanic] at a
  .simp[runtimePanic] at a
  .simp[runtimePanic] at a
  .split at a
   .simp[runtimePanic] at a
   .revert a;simp only[tl];generalize (Sem.run P program w:Result _)=r;cases r with
    |halt x i=>simp[Result.andThen]
    |ok p i=>
     simp only[Result.andThen];generalize (Sem.run P (nilAhead _ _ _ _) i:Result _)=r2;cases r2 with
     |halt x l=>simp
     |ok b l=>
      simp only;split
      .simp[unsupported]
      .simp
   .simp at a
  .simp at a
 case call c=>
  obtain⟨d,args,e⟩:=c;cases d with
  |value x=>cases h
  |invoke x n=>cases h
  |builtin b=>
   cases b<;>first
    |(exfalso;cases h;done)
    |(simp only[execOp,resolve,invoke,builtin,tl,tK,tX]
      intro a;revert a;generalize (Sem.run P (Builtin.len_ _ _ _) w:Result _)=r;cases r<;>simp[Result.andThen])
 all_goals simp only[execOp,tl,tK]
 all_goals intro a
 all_goals
  first
   |(cases a;done)
   |(revert a;generalize (Sem.run P _ w:Result _)=r;cases r<;>simp[Result.andThen];done)
   |(revert a;generalize (Sem.run P _ w:Result _)=r;cases r<;>simp[Result.andThen];generalize (Sem.run P _ _:Result _)=r;cases r<;>simp;done)
def kT(o:Oper)(i:Nat):Bool:=o.after.any λe=>Region.binds .any e&&e.on ==i
def aiS(h:kT o i=true):∃e∈o.after,Region.binds .any e=true/\e.on=i:=by
 obtain⟨e,a,h⟩:=Array.any_eq_true'.1 h;simp only[fb,mp] at h;exact⟨e,a,h.1,h.2⟩
def aq7(i:a.tmps.size=Y.tmps.size)(h:Y.put d u=Y.put d v):a.put d u=a.put d v:=by
 cases d with
 |none=>rfl
 |some t=>
  rcases oR t a.tmps.size with c|g
  .have f:=gc (λb:Act=>b.tmps[t]?) h;have e:t<Y.tmps.size:=i▸c;simp[Act.put,e] at f;rw[f]
  .simp[Act.put,Array.setIfInBounds,Nat.not_lt.2 g]
section
variable {P:Program} {ops:Array Oper}
def aoN  (hi:ops[i]?=some o)  {G:Value->World->Prop}  
  (y:a.tmps.size=Y.tmps.size) (z:execOp a.eval o=execOp Y.eval o) (t:Region.wanted o (yielded ops a.tmps)=Region.wanted o (yielded ops Y.tmps))
  (h:wpList P ops (λe b w=>e=.normal/\∃v,b=Y.put o.dst v/\G v w) [o] Y w)
  (s:∀v w,G v w->V (a.put o.dst v) w):wpOp P ops Q i V a w:=by
 have g:∀{u:Value} {k:World},(∃v,Y.put o.dst u=Y.put o.dst v/\G v k)->V (a.put o.dst u) k:=by
  rintro u k ⟨v,p,q⟩;rw[aq7 y p];exact s _ _ q
 unfold wpOp;simp only[hi];unfold wpList at h;rw[<-t] at h;split
 .rename_i j;rw[dj j] at h;rcases h with h|⟨_,b,k,m,_⟩
  .refine .inl ?_;unfold Oper.wp at *;rw[<-z] at h;generalize (execOp a.eval o).run P w=r at *;cases r with
   |ok A k=>
    cases A<;>simp only[Oper.upon,wpList] at h ⊢
    case value u=>exact g h.2
    case skip=>exact g h.2
    case defer d=>
     obtain⟨_,v,p,_⟩:=h;have:=gc (λb:Act=>b.defers.length) p;cases hd:o.dst<;>simp[Act.put,hd] at this
    case enter f args=>
     refine h.mono λe n l=> ?_;cases e with
     |returned u=>exact g l.2
     |panicked c=>cases l.1
     |outgrown=>
      obtain⟨b,B,m,_⟩:=l;cases m
    case row row args=>exact Rows.mono h λu n l=>g l.2
   |halt x k=>
    cases x<;>simp only[Oper.upon] at h ⊢
    case panic u=>cases h.1
  .cases m
 .rename_i j;rw[bd j] at h;exact g h.2
def aiT(ops:Array Oper)(n:Nat):Bool:=
 (n ==ops.size||(decide (n<ops.size)&&Region.sinkB .any ops n&&Region.chainB .any ops n))&&Region.seqB .any ops (ops.size-n) n ((Array.replicate n true)++Array.replicate (ops.size-n) false)
def anp(ops:Array Oper)(n:Nat):Bool:=
 (List.range n).all λi=>match ops[i]? with
  |some o=>o.after.all λe=>!Region.binds .any e||decide (e.on<i)
  |none=>false
def aoO(h:anp ops n=true)(hi:i<n)(b:ops[i]?=some o){e:Edge}(c:e∈o.after)(f:Region.binds .any e=true):e.on<i:=by
 have a:=kw.1 h i (qj.2 hi);simp only[b] at a;have d:=Array.all_eq_true_iff_forall_mem.1 a e c;simpa[f] using d
def left(n:Nat)(listed:Array Bool):Nat:=((List.range n).filter λi=>listed.getD i true ==false).length
def aiU[DecidableEq X]{l:List X}(d:l.Nodup){p q:X->Bool}{i:X}(hi:i∈l)(k:p i=true)(m:q i=false)(f:∀j,j≠i->p j=q j):(l.filter p).length=(l.filter q).length+1:=by
 induction l with
 |nil=>cases hi
 |cons a t n=>
  rw[tG] at d;by_cases c:a=i
  .subst c;rw[tV k,tW (by simp[m])];have:t.filter p=t.filter q:=List.filter_congr λj o=>f j λe=>d.1 (e▸o);simp[this]
  .have g:i∈t:=by
    rcases mc.1 hi with h|h
    .exact absurd h.symm c
    .exact h
   have:=n d.2 g;by_cases b:p a=true
   .rw[tV b,tV (by rw[<-f a c];exact b)];simp[this]
   .rw[tW b,tW (by rw[<-f a c];exact b)];exact this
def aq8(hi:i<n)(h:listed.getD i true=false):left n listed=left n (listed.setIfInBounds i true)+1:=by
 have c:i<listed.size:=by
  rcases oR i listed.size with a|a
  .exact a
  .simp[pY a] at h
 refine aiU List.nodup_range (qj.2 hi) (by rw[h];rfl) (by simp[c]) λj b=> ?_;rw[getD_set_ne true (sO b)]
def aoP(h:0<left n listed):∃i,i<n/\listed.getD i true=false/\∀j,j<i->listed.getD j true=true:=by
 unfold left at h;have f:∃i,i<n/\listed.getD i true=false:=by
  obtain⟨i,b⟩:=List.exists_mem_of_length_pos h;rw[sB,qj] at b;exact⟨i,b.1,by simpa using b.2⟩
 obtain⟨i,b⟩:=f;clear h
 induction i using Nat.strongRecOn with
 |_ i k=>
  by_cases a:∀j,j<i->listed.getD j true=true
  .exact⟨i,b.1,b.2,a⟩
  .have g:∃j,j<i/\listed.getD j true=false:=by
    apply qA;intro c;exact a λj d=>by
     cases e:listed.getD j true with
     |true=>rfl
     |false=>exact absurd ⟨j,d,e⟩ c
   obtain⟨j,d,e⟩:=g;exact k j d ⟨by omega,e⟩
def aoQ(h:left n listed=0)(hi:i<n):listed.getD i true=true:=by
 unfold left at h;have a:=rT h;rw[List.filter_eq_nil_iff] at a;have:=a i (qj.2 hi);cases b:listed.getD i true with
 |true=>rfl
 |false=>rw[b] at this;simp at this
def agd(a:i<listed.size)(h:listed.getD i true=true):listed.getD i false=true:=by
 simp[a] at h ⊢;exact h
inductive Behind (ops:Array Oper):Nat->Nat->Prop where
 |aq9 {i:Nat} {o:Oper} {e:Edge}:ops[i]?=some o->e∈o.after->Region.binds .any e=true->Behind ops i e.on
 |next {i j:Nat} {o:Oper} {e:Edge}:ops[i]?=some o->e∈o.after->Region.binds .any e=true->Behind ops e.on j->Behind ops i j
def ahu(ops:Array Oper):Nat->Nat->Nat->Bool
 |0,_,_=>false
 |f+1,i,j=>match ops[i]? with
  |some o=>o.after.any λe=>Region.binds .any e&&(e.on ==j||ahu ops f e.on j)
  |none=>false
def age{ops:Array Oper}:∀(f i j:Nat),ahu ops f i j=true->Behind ops i j
 |0,_,_,h=>by cases h
 |f+1,i,j,h=>by
  unfold ahu at h;split at h
  .rename_i o b;obtain⟨e,c,h⟩:=Array.any_eq_true'.1 h;simp only[fb,qL,mp] at h;rcases h.2 with a|a
   .rw[<-a];exact .aq9 b c h.1
   .exact .next b c h.1 (age f _ _ a)
  .cases h
def afB{ops:Array Oper}(c:HeadInv .any ops n listed)(h:Behind ops i j):(∀o,ops[i]?=some o->∀e∈o.after,Region.binds .any e=true->listed.getD e.on false=true)->listed.getD j false=true:=by
 induction h with
 |aq9 a g d=>exact λb=>b _ a _ g d
 |next a g d _ p=>exact λb=>p λl m q k f=>c.closed _ l m (b _ a _ g d) q k f
class aW (X:Type) where
 live:Nat->X->Prop
 down:∀m x,live (m+1) x->live m x
 pend:Nat->X->Prop
def aun(n:Nat)(listed:Array Bool):left n listed<=n:=by
 unfold left;exact da (List.length_filter_le _ _) (by simp)
variable {X:Type} [aW X] {to:X->World} {le:X->X->Prop} {Q:Exit->Act->World->Prop}
def ara (hn:n<=ops.size) (t:aiT ops n=true) (M:anp ops n=true) (A:Act->Prop) (Φ:Nat->Act->X->Prop)
  (z:∀m i o,i<n->ops[i]?=some o->∀a x,A a->aW.live (m+1) x->aW.pend i x->(∀j,j<n->kT o j=true->Φ j a x)->∀K:Act->World->Prop,
   (∀v y,le x y->aW.live m y->(∀j,j≠i->¬Behind ops i j->aW.pend j x->aW.pend j y)->A (a.put o.dst v)->Φ i (a.put o.dst v) y->K (a.put o.dst v) (to y))->wpOp P ops Q i K a (to x))
  (U:∀i j o a x y v,i<n->j<n->i≠j->ops[j]?=some o->A a->Φ i a x->le x y->Φ i (a.put o.dst v) y)
  (J:∀a x,A a->(∀i,i<n->Φ i a x)->wpList P ops Q (ops.toList.drop n) a (to x)) :
  ∀(f:Nat) (listed:Array Bool) (a:Act) (x:X),left n listed=f->HeadInv .any ops n listed->A a->aW.live f x->(∀i,i<n->listed.getD i false=false->aW.pend i x)->(∀i,i<n->listed.getD i false=true->Φ i a x)->
   wpAny P .any ops Q (f+(ops.size-n)) listed a (to x):=by
 intro f
 induction f with
 |zero=>
  intro listed a x hf inv H G s l;have b:∀i,i<n->listed.getD i true=true:=λi k=>aoQ hf k;have hL:listed=(Array.replicate n true)++Array.replicate (ops.size-n) false:=by
   apply Array.ext
   .rw[inv.size];simp;omega
   .intro i q h2;rcases oR i n with r|r
    .rw[Array.getElem_append_left (by simpa using r)];have:=b i r;simp[q] at this;simp[this]
    .rw[Array.getElem_append_right (by simpa using r)];have:=inv.tail i r (by rw[<-inv.size];exact q);simp[q] at this;simp[this]
  unfold aiT at t;rw[fb] at t;have g:(ops.toList.drop n).length=ops.size-n:=by simp
  rw[ls,<-g,hL];refine wpAny_of_seq _ n _ a (to x) (λj=>by rw[sZ,du]) (by rw[g];exact t.2) (J a x H λi k=>l i k ?_);exact agd (by rw[inv.size];omega) (b i k)
 |succ f ih=>
  intro listed a x hf inv H G s l;obtain⟨u,R,E,W⟩:=aoP (n:=n) (listed:=listed) (by omega);rw[show f+1+(ops.size-n)=(f+(ops.size-n))+1 by omega];have I:∀i∈Region.ready .any ops listed,i<n:=by
   intro i k;unfold aiT at t;simp only[fb,qL,mp,qG] at t;rcases t.1 with h|⟨⟨q,h2⟩,r⟩
   .obtain⟨_,o,D,_⟩:=mem_ready.1 k;rw[h];exact(dk.1 D).1
   .rcases oR i n with h|h
    .exact h
    .exact absurd k (tail_waits h2 r q inv _ u rfl R E i h)
  refine⟨λh0=> ?_,λi k=> ?_⟩
  .exfalso;have C:u<ops.size:=aE R hn;have:u∈Region.ready .any ops listed:=mem_ready.2 ⟨E,ops[u],ge C,λe F B=>by
    have q:=aoO M R (ge C) F B;exact agd (by rw[inv.size];omega) (W _ q)⟩
   rw[h0] at this;cases this
  .have d:=I i k;obtain⟨p,o,D,b⟩:=mem_ready.1 k;have V:listed.getD i false=false:=by
    have T:i<listed.size:=by rw[inv.size];omega
    simp[T] at p ⊢;exact p
   refine z f i o d D a x H G (s i d V) (λj w hw=> ?_) _ λv y Y O L S Z=> ?_
   .obtain⟨e,F,B,rfl⟩:=aiS hw;exact l _ w (b e F B)
   .refine ih _ _ y ?_ (inv.set k d) S O (λj w g=> ?_) λj w g=> ?_
    .have:=aq8 d p;omega
    .have c:j≠i:=by
      rintro rfl;have T:j<listed.size:=by rw[inv.size];omega
      simp[T] at g
     rw[getD_set_ne false (sO c)] at g;refine L j c (λN=> ?_) (s j w g);have:=afB inv N λo' nT e F B=>(by
      obtain rfl:o=o':=dl (D.symm.trans nT);exact b e F B)
     rw[this] at g;cases g
    .by_cases c:j=i
     .subst c;exact Z
     .rw[getD_set_ne false (sO c)] at g;exact U j i o a x y v w d c D H (l j w g) Y
inductive ij (X:Type) where
 |fix (v:Value)
 |any (R:Value->X->Prop)
def ij.keep(le:X->X->Prop):ij X->Prop
 |.fix _=>True
 |.any R=>∀v x y,R v x->le x y->R v y
def ij.holds(r:ij X)(v:Value)(x:X):Prop:=
 match r with
 |.fix a=>v=a
 |.any R=>R v x
def Good(P:Program)(ops:Array Oper)(to:X->World)(le:X->X->Prop)(i:Nat)(o:Oper)(a:Act)(x:X)(r:ij X):Prop:=
 ∀m,aW.live (m+1) x->aW.pend i x->∀b:Exit->Act->World->Prop,(∀v y,le x y->aW.live m y->(∀j,j≠i->¬Behind ops i j->aW.pend j x->aW.pend j y)->r.holds v y->b .normal (a.put o.dst v) (to y))->wpList P ops b [o] a (to x)
def oI(ops:Array Oper)(n:Nat)(t:Tmp)(j:Nat):Prop:=j<n/\∃o,ops[j]?=some o/\o.dst=some t
def ady(ops:Array Oper)(n N:Nat):Bool:=
 (List.range n).all λi=>match ops[i]? with
  |some o=>match o.dst with
   |some d=>decide (d<N)&&(List.range i).all λj=>((ops[j]?).bind (·.dst)) !=some d
   |none=>true
  |none=>true
def akY(h:ady ops n N=true){t:Tmp}(d:oI ops n t j):t<N:=by
 obtain⟨a,o,c,hd⟩:=d;have b:=kw.1 h j (qj.2 a);simp only[c,hd,fb,qG] at b;exact b.1
def aiV(h:ady ops n N=true){t:Tmp}(hi:oI ops n t i)(l:oI ops n t j)(b:j<i):False:=by
 obtain⟨c,o,k,hd⟩:=hi;obtain⟨g,p,f,a⟩:=l;have e:=kw.1 h i (qj.2 c);simp only[k,hd,fb] at e;have d:=kw.1 e.2 j (qj.2 b);rw[f] at d;simp[a] at d
def ahv(h:ady ops n N=true){t:Tmp}(hi:oI ops n t i)(b:oI ops n t j):i=j:=by
 rcases tY i j with a|a|a
 .exact(aiV h b hi a).elim
 .exact a
 .exact(aiV h hi b a).elim
def anq(ops:Array Oper)(n:Nat)(t:Tmp):(∃j,oI ops n t j)\/∀j,¬oI ops n t j:=by
 by_cases h:∃j,oI ops n t j
 .exact .inl h
 .exact .inr λj a=>h ⟨j,a⟩
def wv(a:Act)(o:Oper):Value:=match o.dst with
 |some d=>a.tmps.getD d undef
 |none=>undef
structure ahw (ops:Array Oper) (n:Nat) (a0 a:Act):Prop where
 size:a.tmps.size=a0.tmps.size
 off:∀t,(∀j,¬oI ops n t j)->a.tmps[t]?=a0.tmps[t]?
 rest:{a with tmps:=a0.tmps}=a0
def ahw.refl(ops:Array Oper)(n:Nat)(a:Act):ahw ops n a a:=⟨rfl,λ_ _=>rfl,rfl⟩
def mW{t:Tmp}(h:d≠some t):(a.put d v).tmps[t]?=a.tmps[t]?:=by
 cases d with
 |none=>rfl
 |some e=>
  have:e≠t:=λb=>h (by rw[b]);simp[Act.put,ip this]
def anr{t:Tmp}(h:t<a.tmps.size):(a.put (some t) v).tmps[t]?=some v:=by
 simp[Act.put,h]
def abz(a:Act)(d:Option Tmp)(v:Value):(a.put d v).tmps.size=a.tmps.size:=by
 cases d<;>simp[Act.put]
def ahw.put(h:ahw ops n Y a)(d:j<n)(c:ops[j]?=some o):ahw ops n Y (a.put o.dst v):=by
 refine⟨by rw[abz,h.size],λt b=> ?_, ?_⟩
 .rw[mW (λhd=>b j ⟨d,o,c,hd⟩)];exact h.off t b
 .rw[<-h.rest];cases hd:o.dst<;>simp[Act.put]
def fM(U:Nat->Value)(a:Act)(L:List (Nat×Oper)):Act:=L.foldl (λb p=>b.put p.2.dst (U p.1)) a
def acy(U:Nat->Value):∀(L:List (Nat×Oper)) (a:Act),(fM U a L).tmps.size=a.tmps.size
 |[],_=>rfl
 |p::L,a=>by
  show(fM U (a.put p.2.dst (U p.1)) L).tmps.size=_;rw[acy U L,abz]
def mX(U:Nat->Value){t:Tmp}:∀(L:List (Nat×Oper)) (a:Act),(∀p∈L,p.2.dst≠some t)->(fM U a L).tmps[t]?=a.tmps[t]?
 |[],_,_=>rfl
 |p::L,a,h=>by
  show(fM U (a.put p.2.dst (U p.1)) L).tmps[t]?=_;rw[mX U L _ λq b=>h q (by simp[b]),mW (h p (by simp))]
def abA(U:Nat->Value){t:Tmp}{i:Nat}{o:Oper}:∀(L:List (Nat×Oper)) (a:Act),(i,o)∈L->o.dst=some t->t<a.tmps.size->(∀p∈L,p.2.dst=some t->p.1=i)->(fM U a L).tmps[t]?=some (U i)
 |[],_,h,_,_,_=>by cases h
 |p::L,a,h,hd,hs,adv=>by
  show(fM U (a.put p.2.dst (U p.1)) L).tmps[t]?=_;by_cases d:(i,o)∈L
  .exact abA U L _ d hd (by rw[abz];exact hs) λq c=>adv q (by simp[c])
  .rcases mc.1 h with rfl|h
   .by_cases f:∃q∈L,q.2.dst=some t
    .obtain⟨q,c,b⟩:=f;have e:=adv q (by simp[c]) b;have:=abA U (i:=q.1) (o:=q.2) L (a.put o.dst (U i)) c b (by rw[abz];exact hs) λr j g=>by rw[adv r (by simp[j]) g,e]
     rw[this,e]
    .rw[mX U L _ λq c b=>f ⟨q,c,b⟩,hd];exact anr hs
   .exact absurd h d
def acz(U:Nat->Value):∀(L:List (Nat×Oper)) (a:Act),{fM U a L with tmps:=a.tmps}=a
 |[],_=>rfl
 |p::L,a=>by
  show{fM U (a.put p.2.dst (U p.1)) L with tmps:=a.tmps}=_;have h:=acz U L (a.put p.2.dst (U p.1));have d:{a.put p.2.dst (U p.1) with tmps:=a.tmps}=a:=by cases hd:p.2.dst<;>simp[Act.put]
  have c:=gc (λb:Act=>{b with tmps:=a.tmps}) h;simp only at c;rw[d] at c;exact c
def auo{b : Act}(h:{a with tmps:=b.tmps}=b)(f:a.tmps.size=b.tmps.size)(e:∀t:Nat,a.tmps[t]?=b.tmps[t]?):a=b:=by
 have c:a.tmps=b.tmps:=Array.ext f λi c d=>by
  have:=e i;simpa[c,d] using this
 rw[<-h,<-c]
def aoR(c:∀l b,o.op ≠ .select l b){b : Act}(h:∀t∈o.looksAt ops,a.tmps[t]?=b.tmps[t]?) :
  execOp a.eval o=execOp b.eval o/\Region.wanted o (yielded ops a.tmps)=Region.wanted o (yielded ops b.tmps):=by
 constructor
 .refine execOp_congr o c λx k=> ?_;cases x with
  |tmp t=>
   have:=h t (rN _ (List.mem_filterMap.2 ⟨.tmp t,by simpa using k,rfl⟩));simp[Act.eval,this]
  |_=>rfl
 .unfold Region.wanted;cases j:o.guard with
  |none=>rfl
  |some i=>
   obtain⟨g,d⟩:=i;have e:yielded ops a.tmps g=yielded ops b.tmps g:=by
    unfold yielded;cases f:(ops[g]?).bind (·.dst) with
    |none=>rfl
    |some t=>
     have:=h t (rL _ (by simp[j,f]));simp[this]
   simp only[e]
def akZ(ops:Array Oper)(n:Nat):Bool:=
 (List.range n).all λi=>match ops[i]? with
  |some o=>(o.looksAt ops).all λt=>(List.range n).all λj=>((ops[j]?).bind (·.dst)) !=some t||kT o j
  |none=>true
def aeC(h:akZ ops n=true)(hi:i<n)(e:ops[i]?=some o){t:Tmp}(k:t∈o.looksAt ops)(f:oI ops n t j):kT o j=true:=by
 obtain⟨a,p,d,hd⟩:=f;have b:=kw.1 h i (qj.2 hi);simp only[e] at b;have g:=kw.1 b t k;have c:=kw.1 g j (qj.2 a);rw[d] at c;simpa[hd] using c
def aoS (hn:n<=ops.size) (aP:Region.noSelect ops=true) (ht:aiT ops n=true) (a9:anp ops n=true) (ao:akZ ops n=true) (A:ady ops n Y.tmps.size=true)
  (T:Nat->ij X) (hT:∀i,(T i).keep le) (an:∀i o,i<n->ops[i]?=some o->(∃v,T i=.fix v)\/o.dst.isSome=true\/∀R,T i=.any R->∀u v x,R u x->R v x) (L:List (Nat×Oper)) (hL:∀i o,ops[i]?=some o->i<n->(i,o)∈L) (E:∀p∈L,p.1<n/\ops[p.1]?=some p.2)
  (aU:∀i o,i<n->ops[i]?=some o->∀U:Nat->Value,(∀j g,T j=.fix g->U j=g)->
   ∃al:Act,ahw ops n Y al/\(∀t j,t∈o.looksAt ops->oI ops n t j->al.tmps[t]?=some (U j))/\∀x,(∀j,j<n->kT o j=true->(T j).holds (U j) x)->Good P ops to le i o al x (T i))
  (fin:∀U:Nat->Value,(∀j g,T j=.fix g->U j=g)->∀x,(∀j,j<n->(T j).holds (U j) x)->wpList P ops Q (ops.toList.drop n) (fM U Y L) (to x))
  (x0:X) (a7:aW.live (left n (Array.replicate ops.size false)) x0) (aY:∀i,i<n->aW.pend i x0):wpAny P .any ops Q ops.size (Array.replicate ops.size false) Y (to x0):=by
 let c:Act->Nat->Value:=λa j=>match T j with
  |.fix g=>g
  |.any _=>match ops[j]? with
   |some W=>wv a W
   |none=>undef
 have hU:∀a j g,T j=.fix g->c a j=g:=λa j g h=>by simp only[c,h]
 let Φ:Nat->Act->X->Prop:=λi a x=>∀o,ops[i]?=some o->(∀d,o.dst=some d->a.tmps[d]?=some (c a i))/\(T i).holds (c a i) x
 have a6:∀{i o a v x},i<n->ops[i]?=some o->ahw ops n Y a->(T i).holds v x->Φ i (a.put o.dst v) x:=by
  intro i o a v x k l s F Z nT;obtain rfl:o=Z:=dl (l.symm.trans nT);have O:∀d,o.dst=some d->(a.put o.dst v).tmps[d]?=some v:=λd hd=>by
   rw[hd];exact anr (by rw[s.size];exact akY A ⟨k,o,l,hd⟩)
  have S:c (a.put o.dst v) i=v\/(o.dst=none/\∃R,T i=.any R/\∀u v x,R u x->R v x):=by
   cases e:T i with
   |fix g=>
    rw[hU _ _ _ e];rw[e] at F;exact .inl F.symm
   |any R=>
    simp only[c,e,l,wv];have r:o.dst.isSome=true->(match o.dst with|some d=>(a.put o.dst v).tmps.getD d undef|none=>undef)=v:=λN=>by
     obtain⟨d,hd⟩:=ry.1 N;have:=O d hd;simp only[hd] at this ⊢;simp[gn,this]
    rcases an i o k l with⟨g,N⟩|N|N
    .rw[e] at N;cases N
    .exact .inl (r N)
    .cases hd:o.dst with
     |some d=>left;have:=r (by rw[hd];rfl);simpa only[hd] using this
     |none=>exact .inr ⟨rfl,R,rfl,N R e⟩
  rcases S with S|⟨hd,R,hR,aM⟩
  .rw[S];exact⟨O,F⟩
  .refine⟨λd a1=>(by rw[hd] at a1;cases a1), ?_⟩;rw[hR] at F ⊢;exact aM _ _ _ F
 have H:=ara (P:=P) (Q:=Q) (to:=to) (le:=le) hn ht a9 (ahw ops n Y) Φ ?step ?axY ?fin (left n (Array.replicate ops.size false)) (Array.replicate ops.size false) Y x0 rfl
  ⟨by simp,λj W _ D=>(by rw[tu] at D;cases D),λt _ ht=>getD_in (by simpa using ht) (tu _ _)⟩ (ahw.refl _ _ _) a7 (λi k _=>aY i k) (λi k D=>(by rw[tu] at D;cases D))
 case step=>
  intro m i o k l a x s b0 a8 a3 K hK;obtain⟨al,a2,af,ad⟩:=aU i o k l (c a) (hU a);have ay:∀j,j<n->kT o j=true->(T j).holds (c a j) x:=λj f hw=>(a3 j f hw _ (ge (aE f hn))).2;have aJ:∀t∈o.looksAt ops,a.tmps[t]?=al.tmps[t]?:=by
   intro t a4;rcases anq ops n t with⟨j,f⟩|q
   .have hw:=aeC ao k l a4 f;obtain⟨B,W,I,hd⟩:=id f;rw[af t j a4 f,(a3 j B hw W I).1 t hd]
   .rw[s.off t q,a2.off t q]
  obtain⟨h1,M⟩:=aoR (λcs b=>Region.noSelect_spec aP i o cs b l) aJ;refine aoN (G:=λv w=>∃y,w=to y/\le x y/\aW.live m y/\(∀j,j≠i->¬Behind ops i j->aW.pend j x->aW.pend j y)/\(T i).holds v y) l (by rw[s.size,a2.size]) h1 M (ad x ay m b0 a8 _ λv y z D J F=>⟨rfl,v,rfl,y,rfl,z,D,J,F⟩) ?_;rintro v w ⟨y,rfl,z,D,J,F⟩;exact hK v y z D J (s.put k l) (a6 k l s F)
 case axY=>
  intro i j o a x y v k f aL l s C z Z nT;obtain⟨h1,M⟩:=C Z nT;have a0:∀d,Z.dst=some d->o.dst≠some d:=λd hd b1=>aL (ahv A ⟨k,Z,nT,hd⟩ ⟨f,o,l,b1⟩);have ax:c (a.put o.dst v) i=c a i:=by
   cases e:T i with
   |fix g=>rw[hU _ _ _ e,hU _ _ _ e]
   |any R=>
    simp only[c,e,nT,wv];cases hd:Z.dst with
    |none=>rfl
    |some d=>
     have:=mW (a:=a) (v:=v) (a0 d hd);simp only[gn,this]
  rw[ax];refine⟨λd hd=>by rw[mW (a0 d hd)];exact h1 d hd, ?_⟩;have hk:=hT i;cases e:T i with
  |fix g=>rw[e] at M;exact M
  |any R=>
   rw[e] at M hk;exact hk _ _ _ M z
 case fin=>
  intro a x s C;have a5:∀j,j<n->(T j).holds (c a j) x:=λj f=>(C j f _ (ge (aE f hn))).2;have he:a=fM (c a) Y L:=by
   refine auo ?_ ?_ ?_
   .have h1:=s.rest;have M:=acz (c a) L Y;have h3:=gc (λb:Act=>{b with tmps:=(fM (c a) Y L).tmps}) (h1.trans M.symm);exact h3
   .rw[s.size,acy]
   .intro t;rcases anq ops n t with⟨j,f⟩|q
    .obtain⟨B,W,I,hd⟩:=id f;rw[(C j B W I).1 t hd,abA (c a) L Y (hL j W I B) hd (akY A f) λp J V=> ?_];exact ahv A ⟨(E p J).1,p.2,(E p J).2,V⟩ f
    .rw[s.off t q,mX _ _ _ λp J V=>q p.1 ⟨(E p J).1,p.2,(E p J).2,V⟩]
  rw[he];exact fin _ (hU a) x a5
 have aa:left n (Array.replicate ops.size false)=n:=by
  unfold left;rw[List.filter_eq_self.2]
  .simp
  .intro i k;have b2:=qj.1 k;rw[getD_in (by simp;omega) (tu _ _)];rfl
 rw[aa,show n+(ops.size-n)=ops.size by omega] at H;exact H
def my:List (Nat×(X->Prop))->Oper->X->Prop
 |[],_,_=>True
 |(j,p)::F,o,x=>(kT o j=true->p x)/\my F o x
def iZ:List (Nat×(X->Prop))->X->Prop
 |[],_=>True
 |(_,p)::F,x=>p x/\iZ F x
omit [aW X] in
def ans{F:List (Nat×(X->Prop))}{x:X}(h:∀p∈F,kT o p.1=true->p.2 x):my F o x:=by
 induction F with
 |nil=>trivial
 |cons p F b=>exact⟨h p (by simp),b λq a=>h q (by simp[a])⟩
omit [aW X] in
def aup{F:List (Nat×(X->Prop))}{x:X}(h:∀p∈F,p.2 x):iZ F x:=by
 induction F with
 |nil=>trivial
 |cons p F b=>exact⟨h p (by simp),b λq a=>h q (by simp[a])⟩
def bE(P:Program)(ops:Array Oper)(to:X->World)(le:X->X->Prop)(Qt:Act->World->Prop):List (Nat×Oper)->List (Nat×(X->Prop))->List (ij X)->Act->Prop
 |[],F,[],a=>∀x,iZ F x->Qt a (to x)
 |(i,o)::l,F,.fix v0::Rs,a=>(∀x,my F o x->Good P ops to le i o a x (.fix v0))/\bE P ops to le Qt l F Rs (a.put o.dst v0)
 |(i,o)::l,F,.any R::Rs,a=>(o.dst.isSome=true\/∀u v x,R u x->R v x)/\(∀v x y,R v x->le x y->R v y)/\(∀x,my F o x->Good P ops to le i o a x (.any R))/\∀v,bE P ops to le Qt l ((i,R v)::F) Rs (a.put o.dst v)
 |_,_,_,_=>False
def adQ{F:List (Nat×(X->Prop))}(h:∀x,iZ F x->V a (to x)):bE P ops to le V [] F [] a:=h
def ant   {l:List (Nat×Oper)} {F:List (Nat×(X->Prop))} {e:List (ij X)} (c:Value)
  (s:∀x,my F o x->∀m,aW.live (m+1) x->aW.pend i x->∀b:Exit->Act->World->Prop,(∀y,le x y->aW.live m y->(∀j,j≠i->¬Behind ops i j->aW.pend j x->aW.pend j y)->b .normal (a.put o.dst c) (to y))->wpList P ops b [o] a (to x))
  (g:bE P ops to le V l F e (a.put o.dst c)):bE P ops to le V ((i,o)::l) F (.fix c::e) a:=
 ⟨λx q m r f b p=>s x q m r f b λy n k d=>p c y n k d rfl,g⟩
def gW   {l:List (Nat×Oper)} {F:List (Nat×(X->Prop))} {d:List (ij X)} (R:Value->X->Prop) (e:o.dst.isSome=true\/∀u v x,R u x->R v x) (p:∀v x y,R v x->le x y->R v y)
  (w:∀x,my F o x->∀m,aW.live (m+1) x->aW.pend i x->∀b:Exit->Act->World->Prop,(∀v y,le x y->aW.live m y->(∀j,j≠i->¬Behind ops i j->aW.pend j x->aW.pend j y)->R v y->b .normal (a.put o.dst v) (to y))->wpList P ops b [o] a (to x))
  (g:∀v,bE P ops to le V l ((i,R v)::F) d (a.put o.dst v)):bE P ops to le V ((i,o)::l) F (.any R::d) a:=
 ⟨e,p,λx r m s f b q=>w x r m s f b λv y n k c t=>q v y n k c t,g⟩
def pick(l:List Oper)(ord:List Nat):List (Nat×Oper):=ord.map λi=>(i,l.getD i default)
def ahx(ops:Array Oper)(n:Nat):List Nat->List Nat->Bool
 |[],_=>true
 |i::t,done=>(match ops[i]? with
  |some o=>(List.range n).all λj=>!kT o j||done.contains j
  |none=>false)&&ahx ops n t (i::done)
def aeD{n:Nat}:∀(c done:List Nat),ahx ops n c done=true->∀k i o j,c[k]?=some i->ops[i]?=some o->j<n->kT o j=true->j∈done\/j∈c.take k
 |[],_,_,k,i,_,_,h,_,_,_=>by simp at h
 |a::t,done,hB,k,i,o,j,h,ho,hj,hw=>by
  simp only[ahx,fb] at hB;cases k with
  |zero=>
   simp at h;subst h;have b:=hB.1;simp only[ho] at b;have d:=kw.1 b j (qj.2 hj);left;simpa[hw] using d
  |succ k=>
   rcases aeD t (a::done) hB.2 k i o j (by simpa using h) ho hj hw with b|b
   .rcases mc.1 b with rfl|b
    .right;simp
    .exact .inl b
   .right;rw[uH];exact qQ _ b
def ahy(l:List Oper)(n:Nat)(bP cY:List Nat):Bool:=
 Region.noSelect l.toArray&&decide (n<=l.length)&&aiT l.toArray n&&anp l.toArray n&&akZ l.toArray n&&decide ((bP++cY).Nodup)&&(List.range n).all (λi=>(bP++cY).contains i)&&(bP++cY).all (λi=>decide (i<n)) &&
  bP.all (λi=>ahs (l.getD i default).op)&&ahx l.toArray n (bP++cY) []
def mY{U V:Nat->Value}:∀(L:List (Nat×Oper)) (a:Act),(∀p∈L,U p.1=V p.1)->fM U a L=fM V a L
 |[],_,_=>rfl
 |p::L,a,h=>by
  show fM U (a.put p.2.dst (U p.1)) L=fM V (a.put p.2.dst (V p.1)) L;rw[h p (by simp)];exact mY L _ λq b=>h q (by simp[b])
def ac4(U:Nat->Value)(L M:List (Nat×Oper))(a:Act):fM U a (L++M)=fM U (fM U a L) M:=by
 unfold fM;exact sI
def aeE{C:World->Prop}{i:Act->Prop}:∀(L:List (Nat×Oper)) (a:Act),(L.map (·.1)).Nodup->wpQuiet P ops C i (L.map (·.2)) a->
  ∃V:Nat->Value,i (fM V a L)/\∀(k:Nat) (p:Nat×Oper),L[k]?=some p->YieldsIn P ops C p.2 (V p.1) (fM V a (L.take k))
 |[],a,_,h=>⟨λ_=>undef,h,λk p n=>by simp at n⟩
 |p::L,a,hn,h=>by
  rw[qN,tG] at hn;have t:∃v,YieldsIn P ops C p.2 v a/\wpQuiet P ops C i (L.map (·.2)) (a.put p.2.dst v):=by
   rw[qN] at h;unfold wpQuiet at h;split at h
   .rename_i g;obtain⟨v,u,o⟩:=h;exact⟨v,.inl ⟨g,u⟩,o⟩
   .rename_i g;exact⟨undef,.inr ⟨by simpa using g,rfl⟩,h⟩
  obtain⟨v,r,l⟩:=t;obtain⟨V,s,w⟩:=aeE L _ hn.2 l
  let W:Nat->Value:=λj=>if j=p.1 then v else V j
  have f:W p.1=v:=by simp[W]
  have d:∀q∈L,W q.1=V q.1:=λq b=>by
   have:q.1≠p.1:=λe=>hn.1 (e▸mx.2 ⟨q,b,rfl⟩);simp[W,this]
  have m:∀k,fM W a ((p::L).take (k+1))=fM V (a.put p.2.dst v) (L.take k):=λk=>by
   rw[uH];show fM W (a.put p.2.dst (W p.1)) (L.take k)=_;rw[f];exact mY _ _ λq b=>d q (pr b)
  refine⟨W, ?_,λk q b=> ?_⟩
  .have:=m L.length;rw[gt,<-fm (a:=p),gt] at this;rw[this];exact s
  .cases k with
   |zero=>
    simp at b;subst b;rw[f];exact r
   |succ k=>
    have c:L[k]?=some q:=by simpa using b
    rw[m,d q (be c)];exact w k q c
def pz{A:Act->World->Prop}{n:Nat}{T:Nat->ij X}{U:Nat->Value}(y:∀j g,T j=.fix g->U j=g):∀(L:List (Nat×Oper)) (F:List (Nat×(X->Prop))) (l:List (ij X)) (a:Act),
  bE P ops to le A L F l a->(∀(k:Nat) (p:Nat×Oper) (r:ij X),L[k]?=some p->l[k]?=some r->T p.1=r)->(∀p∈L,p.1<n)->(∀p∈F,p.1<n/\∀x,(T p.1).holds (U p.1) x->p.2 x)->
  (∀(k:Nat) (p:Nat×Oper),L[k]?=some p->∀x,(∀j,j<n->kT p.2 j=true->(T j).holds (U j) x)->Good P ops to le p.1 p.2 (fM U a (L.take k)) x (T p.1))/\(∀x,(∀j,j<n->(T j).holds (U j) x)->A (fM U a L) (to x))
 |[],F,[],a,h,_,_,hF=>⟨λk p b=>by simp at b,λx c=>h x (aup λp b=>(hF p b).2 x (c _ (hF p b).1))⟩
 |[],_,_::_,_,h,_,_,_=>h.elim
 |(i,o)::L,F,[],_,h,_,_,_=>h.elim
 |(i,o)::L,F,.fix g::l,a,h,hT,hn,hF=>by
  obtain⟨w,s⟩:=h;have d:T i=.fix g:=hT 0 (i,o) (.fix g) rfl rfl;have z:U i=g:=y i g d;obtain⟨u,v⟩:=pz y L F l _ s (λk p r b t=>hT (k+1) p r (by simpa using b) (by simpa using t)) (λp b=>hn p (by simp[b])) hF;have f:∀M,fM U a ((i,o)::M)=fM U (a.put o.dst g) M:=λM=>by
   show fM U (a.put o.dst (U i)) M=_;rw[z]
  refine⟨λk p b x c=> ?_,λx c=>by rw[f];exact v x c⟩;cases k with
  |zero=>
   simp at b;subst b;rw[d];exact w x (ans λq e m=>(hF q e).2 x (c _ (hF q e).1 m))
  |succ k=>
   rw[uH,f];exact u k p (by simpa using b) x c
 |(i,o)::L,F,.any R::l,a,h,hT,hn,hF=>by
  obtain⟨_,B,w,s⟩:=h;have d:T i=.any R:=hT 0 (i,o) (.any R) rfl rfl;obtain⟨u,v⟩:=pz y L ((i,R (U i))::F) l _ (s (U i)) (λk p r b t=>hT (k+1) p r (by simpa using b) (by simpa using t)) (λp b=>hn p (by simp[b])) λq e=>by
   rcases mc.1 e with rfl|e
   .exact⟨hn (i,o) (by simp),λx c=>by rw[d] at c;exact c⟩
   .exact hF q e
  refine⟨λk p b x c=> ?_,λx c=>v x c⟩;cases k with
  |zero=>
   simp at b;subst b;rw[d];exact w x (ans λq e m=>(hF q e).2 x (c _ (hF q e).1 m))
  |succ k=>exact u k p (by simpa using b) x c
def aaJ{j:Act->World->Prop}:∀(L:List (Nat×Oper)) (F:List (Nat×(X->Prop))) (d:List (ij X)) (a:Act),
  bE P ops to le j L F d a->d.length=L.length/\∀(k:Nat) (p:Nat×Oper) (r:ij X),L[k]?=some p->d[k]?=some r->r.keep le/\((∃v,r=.fix v)\/p.2.dst.isSome=true\/∀R,r=.any R->∀u v x,R u x->R v x)
 |[],_,[],_,_=>⟨rfl,λk p r b=>by simp at b⟩
 |[],_,_::_,_,h=>h.elim
 |(i,o)::L,F,[],_,h=>h.elim
 |(i,o)::L,F,.fix v0::d,a,h=>by
  obtain⟨_,e⟩:=h;obtain⟨f,g⟩:=aaJ L F d _ e;refine⟨by simp[f],λk p r b c=> ?_⟩;cases k with
  |zero=>
   simp at c;subst c;exact⟨trivial,.inl ⟨_,rfl⟩⟩
  |succ k=>exact g k p r (by simpa using b) (by simpa using c)
 |(i,o)::L,F,.any R::d,a,h=>by
  obtain⟨hd,l,_,e⟩:=h;obtain⟨f,g⟩:=aaJ L _ d _ (e undef);refine⟨by simp[f],λk p r b c=> ?_⟩;cases k with
  |zero=>
   simp at c b;subst c b;exact⟨l,.inr (hd.imp id λhd R' m=>by cases m;exact hd)⟩
  |succ k=>exact g k p r (by simpa using b) (by simpa using c)
def aaK{g:Type}:∀(ks:List Nat) (c:List g) (k i:Nat) (r:g),ks.Nodup->ks[k]?=some i->c[k]?=some r->(ks.zip c).lookup i=some r
 |[],_,_,_,_,_,h,_=>by simp at h
 |a::ks,[],_,_,_,_,_,h=>by simp at h
 |a::ks,b::c,k,i,r,hn,h,hr=>by
  rw[tG] at hn;cases k with
  |zero=>
   simp at h hr;subst h hr;simp[List.lookup]
  |succ k=>
   have f:ks[k]?=some i:=by simpa using h
   have d:(i ==a)=false:=dq.2 λe=>hn.1 (e▸be f);simp only[List.zip_cons_cons,List.lookup,d];exact aaK ks c k i r hn.2 f (by simpa using hr)
def aiW {l:List Oper}  (to:X->World) (le:X->X->Prop) (Z:∀x,le x x) (n:Nat) (a q:List Nat) (hB:ahy l n a q=true) (hd:ady l.toArray n Y.tmps.size=true)
  (x0:X) (af:∀m,m<=n->aW.live m x0) (b7:∀i,i<n->aW.pend i x0) (hx:to x0=w.drew)
  (h:wpQuiet P l.toArray (λw'=>∃x,w'=to x) (λa1=>∃B,bE P l.toArray to le (wpList P l.toArray Q (l.drop n)) (pick l q) [] B a1) ((pick l a).map (·.2)) Y):wpAny P .any l.toArray Q l.toArray.size (Array.replicate l.toArray.size false) Y {w with drawn:=w.drawn+1}:=by
 simp only[ahy,fb,qG] at hB;obtain⟨⟨⟨⟨⟨⟨⟨⟨⟨b2,hn⟩,ht⟩,an⟩,a5⟩,N⟩,b6⟩,al⟩,ax⟩,b9⟩:=hB;have b4:n<=l.toArray.size:=by simpa using hn
 have G:∀i,i<n->i∈a++q:=λi b=>by simpa using kw.1 b6 i (qj.2 b)
 have v:∀i∈a++q,i<n:=λi b=>by simpa using kw.1 al i b
 have A:∀i,i<n->l.toArray[i]?=some (l.getD i default):=λi b=>by
  have b8:i<l.length:=aE b hn;simp[b8]
 have aU:∀F:List Nat,(pick l F).map (·.1)=F:=λF=>by simp[pick,Function.comp_def]
 obtain⟨V,⟨B,O⟩,hV⟩:=aeE (pick l a) Y (by rw[aU];exact(ua.1 N).1) h;obtain⟨a4,a3⟩:=aaJ _ _ _ _ O;have bb:B.length=q.length:=by rw[a4];simp[pick]
 let T:Nat->ij X:=λj=>(((a++q).zip (a.map (λi=>ij.fix (V i))++B)).lookup j).getD (.fix undef)
 have E:∀i∈a,T i=.fix (V i):=λi b=>by
  obtain⟨k,s⟩:=rx.1 b;have C:k<a.length:=by
   rcases oR k a.length with h|h
   .exact h
   .rw[sD h] at s;cases s
  have:=aaK (a++q) (a.map (λi=>ij.fix (V i))++B) k i (.fix (V i)) N (by rw[qz C];exact s) (by rw[qz (by simpa using C),qE,s];rfl);simp only[T,this,ql]
 have a2:∀k i r,q[k]?=some i->B[k]?=some r->T i=r:=λk i r s D=>by
  have:=aaK (a++q) (a.map (λi=>ij.fix (V i))++B) (a.length+k) i r N (by rw[qp (by omega),rU];exact s)
   (by rw[qp (by simp),pe,rU];exact D)
  simp only[T,this,ql]
 have a0:∀(k:Nat) (p:Nat×Oper) (r:ij X),(pick l q)[k]?=some p->B[k]?=some r->T p.1=r:=λk p r d D=>by
  simp only[pick,qE,io] at d;obtain⟨i,b,rfl⟩:=d;exact a2 k i r b D
 have a6:∀i,i<n->(i∈a/\T i=.fix (V i))\/∃k r,q[k]?=some i/\B[k]?=some r/\T i=r:=λi b=>by
  rcases jt.1 (G i b) with g|g
  .exact .inl ⟨g,E i g⟩
  .obtain⟨k,s⟩:=rx.1 g;have C:k<B.length:=by
    rcases oR k q.length with h|h
    .omega
    .rw[sD h] at s;cases s
   exact .inr ⟨k,B[k],s,lm C,a2 k i _ s (lm C)⟩
 have ao:∀i,(T i).keep le:=λi=>by
  by_cases b:i<n
  .rcases a6 i b with⟨_,g⟩|⟨k,r,s,D,g⟩
   .rw[g];trivial
   .rw[g];exact(a3 k (i,l.getD i default) r (by simp[pick,s]) D).1
  .have:((a++q).zip (a.map (λi=>ij.fix (V i))++B)).lookup i=none:=by
    rw[List.lookup_eq_none_iff];intro p d;have g:=(List.of_mem_zip d).1;have:=v _ g;have ad:i≠p.1:=λe=>b (by rw[e];exact this);simpa using ad
   simp only[T,this,Option.getD_none];trivial
 have b1:∀i,i∈a++q->(i,l.getD i default)∈pick l (a++q):=λi b=>mx.2 ⟨i,b,rfl⟩;have W:pick l (a++q)=pick l a++pick l q:=by simp[pick]
 have H:=aoS (P:=P) (Q:=Q) (to:=to) (le:=le) b4 b2 ht an a5 hd T ao ?any (pick l (a++q)) ?L ?L' ?lex ?fin x0 (af _ (aun _ _)) b7
 .rw[hx] at H;exact H
 case any=>
  intro i o b I;rcases a6 i b with⟨_,g⟩|⟨k,r,s,D,g⟩
  .exact .inl ⟨_,g⟩
  .rw[g];obtain rfl:o=l.getD i default:=dl (I.symm.trans (A i b));exact(a3 k (i,l.getD i default) r (by simp[pick,s]) D).2
 case L=>
  intro i o I b;obtain rfl:o=l.getD i default:=dl (I.symm.trans (A i b));exact b1 i (G i b)
 case L'=>
  intro p d;obtain⟨i,b,rfl⟩:=mx.1 d;exact⟨v i b,A i (v i b)⟩
 case lex=>
  intro i o b I U hU;obtain rfl:o=l.getD i default:=dl (I.symm.trans (A i b));obtain⟨hg,_⟩:=pz (n:=n) (T:=T) (U:=U) hU _ _ _ _ O a0 (λp d=>by
   obtain⟨j,z,rfl⟩:=mx.1 d;exact v j (rL _ z)) (λp d=>by cases d)
  obtain⟨k,s⟩:=rx.1 (G i b);have a7:∀M:List (Nat×Oper),(∀p∈M,p.1∈a)->fM U Y M=fM V Y M:=λM hM=>mY M Y λp d=>by rw[hU _ _ (E _ (hM p d))]
  have a9:∀p∈pick l a,p.1∈a:=λp d=>by
   obtain⟨j,z,rfl⟩:=mx.1 d;exact z
  refine⟨fM U Y ((pick l (a++q)).take k), ?_, ?_, ?_⟩
  .refine⟨acy _ _ _,λt aP=>mX _ _ _ λp d S=> ?_, ?_⟩
   .obtain⟨j,z,rfl⟩:=mx.1 (pr d);exact aP j ⟨v j z,_,A j (v j z),S⟩
   .exact acz _ _ _
  .intro t j aJ z;have hw:=aeC a5 b I aJ z;have b5:=(aeD (a++q) [] b9 k i _ j s I z.1 hw).resolve_left (by simp);have aL:=z;obtain⟨ay,oj,b0,b3⟩:=aL;obtain rfl:oj=l.getD j default:=dl (b0.symm.trans (A j ay));refine abA U (o:=l.getD j default) _ Y ?_ b3 (akY hd z) λp d S=> ?_
   .rw[pick,<-List.map_take];exact mx.2 ⟨j,b5,rfl⟩
   .obtain⟨j',a8,rfl⟩:=mx.1 (pr d);exact ahv hd ⟨v j' a8,_,A j' (v j' a8),S⟩ z
  .intro x hx;rcases oR k a.length with K|K
   .have lY:a[k]?=some i:=by rw[qz K] at s;exact s
    have aa:i∈a:=be lY;have nH:(pick l (a++q)).take k=(pick l a).take k:=by rw[W,List.take_append_of_le_length (by simp[pick];omega)]
    have hy:=hV k (i,l.getD i default) (by simp[pick,lY]);rw[nH,a7 _ λp d=>a9 p (pr d),E i aa];intro mq R ba Qx hQ;have aM:ahs (l.getD i default).op=true:=kw.1 ax i aa;have J:=λy hy hl aY=>hQ (V i) y hy hl aY rfl;unfold wpList;rcases hy with⟨hw,hq⟩|⟨hw,hq⟩
    .rw[dj hw];refine .inl ?_;have g:=hq (to x) ⟨x,rfl⟩;unfold Oper.quietAt at g;unfold Oper.wp;cases D:(execOp (fM V Y (List.take k (pick l a))).eval (l.getD i default)).run P (to x) with
     |ok nx w'=>
      rw[D] at g;cases nx<;>simp only[Oper.quietUpon] at g
      case value u=>
       obtain⟨rfl,rfl⟩:=g;exact J x (Z x) (aW.down _ _ R) λ_ _ _ h=>h
      case skip=>
       obtain⟨rfl,h2⟩:=g;show Qx .normal _ _;rw[<-h2];exact J x (Z x) (aW.down _ _ R) λ_ _ _ h=>h
      case enter f args=>exact absurd D (aht aM)
     |halt c w'=>
      rw[D] at g;simp only[Oper.quietUpon] at g
    .rw[bd (by rw[hw];exact qm)];have:=J x (Z x) (aW.down _ _ R) λ_ _ _ h=>h;rw[hq] at this;exact this
   .have ly:q[k-a.length]?=some i:=by rw[qp K] at s;exact s
    have nH:(pick l (a++q)).take k=pick l a++(pick l q).take (k-a.length):=by
     rw[W,List.take_append,qb (by simp[pick];omega)];simp[pick]
    rw[nH,ac4,a7 _ a9];exact hg (k-a.length) (i,l.getD i default) (by simp[pick,ly]) x hx
 case fin=>
  intro U hU x hx;obtain⟨_,hf⟩:=pz (n:=n) (T:=T) (U:=U) hU _ _ _ _ O a0 (λp d=>by
   obtain⟨j,z,rfl⟩:=mx.1 d;exact v j (rL _ z)) (λp d=>by cases d)
  have g:=hf x hx;rw[W,ac4,mY (U:=U) (V:=V) (pick l a) Y λp d=>by
   obtain⟨j,z,rfl⟩:=mx.1 d;exact hU _ _ (E j z)]
  simpa using g
def mZ {l:List Oper}  (to:X->World) (le:X->X->Prop) (e:∀x,le x x) (n:Nat) (d f:List Nat) (p:P.follows .mixedOrders=true) (r:ahy l n d f=true) (g:ady l.toArray n Y.tmps.size=true)
  (a:X) (b:∀m,m<=n->aW.live m a) (c:∀i,i<n->aW.pend i a) (k:to a=w.drew)
  (h:wpQuiet P l.toArray (λj=>∃x,j=to x) (λq=>∃o,bE P l.toArray to le (wpList P l.toArray Q (l.drop n)) (pick l f) [] o q) ((pick l d).map (·.2)) Y):(Code.region Z l.toArray true).wp P Q Y w:=
 wp_region_any p (aiW to le e n d f r g a b c k h)
end
end
section
variable {β:Bool}
open Go.RowKit
def fC(c:Below w.heap.size w w')(h:w.cell? p=some v):w'.cell? p=some v:=by
 refine(c.cell (p:=p) ?_).trans h;rcases oR p.block w.heap.size with a|b
 .exact a
 .simp[World.cell?,pY b] at h
def cU{a : World}(h:Below a.heap.size a w)(o:Obj):Below a.heap.size a (w.alloc o):=h.alloc h.size o
def bc(h:bW w g t cs)(o:Obj):bW (w.alloc o) g t cs:=(rZ w o g h.lt).trans h
def iM(h:bW w g t cs)(u:Value)(a:g≠p.block):bW (w.setCell p u) g t cs:=(qs w p u g a).trans h
def bQ(h:bW w g t cs)(b:bJ S w w')(a:¬S g):bW w' g t cs:=(b.block g h.lt a).trans h
def aB(w:World)(o:Obj):Below w.heap.size w (w.alloc o):=(ff _ _).alloc (am _) _
def ahA(a:Lcy E){xs:List X}{cs:List Value}(h:cR E Z w lo hi xs cs)(c:Below w.heap.size w w')(b:hi<=w.heap.size):cR E Z w' lo hi xs cs:=
 (cR.loc a).below h c b
def iB(h:w.alloc (.cells cs t)=x):Below w.heap.size w x/\w.heap.size+1<=x.heap.size/\bW x w.heap.size t cs/\(∀i,x.cell? ⟨w.heap.size,i,none⟩=cs[i]?)/\∀i,x.frozen? ⟨w.heap.size,i,none⟩=false:=by
 subst h;have k:=bW.new w t cs;exact⟨aB _ _,by simp,k,k.cell,k.frozen⟩
def ahB{u : TypeId}(h:(w.alloc (.cells cs t)).alloc (.cells U u)=x):Below w.heap.size w x/\w.heap.size+2<=x.heap.size/\bW x w.heap.size t cs/\(∀i,x.cell? ⟨w.heap.size,i,none⟩=cs[i]?)/\(∀i,x.frozen? ⟨w.heap.size,i,none⟩=false)/\
  bW x (w.heap.size+1) u U/\(∀i,x.cell? ⟨w.heap.size+1,i,none⟩=U[i]?)/\∀i,x.frozen? ⟨w.heap.size+1,i,none⟩=false:=by
 obtain⟨e,a,d,b,c⟩:=iB h;have k:=bc (bW.new w t cs) (.cells U u);rw[h] at k;simp only[mw] at a d b c;exact⟨h▸cU (aB _ _) _,a,k,k.cell,k.frozen,d,b,c⟩
def az1{u v : TypeId}(h:((w.alloc (.cells cs t)).alloc (.cells U u)).alloc (.cells es v)=x):Below w.heap.size w x/\w.heap.size+3<=x.heap.size/\bW x w.heap.size t cs/\(∀i,x.cell? ⟨w.heap.size,i,none⟩=cs[i]?)/\(∀i,x.frozen? ⟨w.heap.size,i,none⟩=false)/\
  bW x (w.heap.size+1) u U/\(∀i,x.cell? ⟨w.heap.size+1,i,none⟩=U[i]?)/\(∀i,x.frozen? ⟨w.heap.size+1,i,none⟩=false)/\bW x (w.heap.size+1+1) v es/\(∀i,x.cell? ⟨w.heap.size+1+1,i,none⟩=es[i]?)/\∀i,x.frozen? ⟨w.heap.size+1+1,i,none⟩=false:=by
 obtain⟨e,a,d,b,c⟩:=iB h;have k:=bc (bc (bW.new w t cs) (.cells U u)) (.cells es v);have l:=bc (bW.new (w.alloc (.cells cs t)) u U) (.cells es v);rw[h] at k l;simp only[mw] at a d b c l;exact⟨h▸cU (cU (aB _ _) _) _,a,k,k.cell,k.frozen,l,l.cell,l.frozen,d,b,c⟩
structure gC (w:World) where
 to:World
 ok:Below w.heap.size w to
instance auq(w:World):Nonempty (gC w):=⟨⟨w,ff _ _⟩⟩
def aj(h:w.cell? p=some v):∀x:gC w,x.to.cell? p=some v:=λx=>fC x.ok h
def aG {id:Nat}   {l:List Oper} (c:P.follows .mixedOrders=true) (e:Region.lexB .any l.toArray=true)
  (h:wpQuiet P l.toArray (λb=>∃x:gC w,b=x.to) (λd=>∀b,(∃x:gC w,b=x.to)->Q .normal d b) l a):(Code.region id l.toArray true).wp P Q a w:=
 wp_region_quiet (C:=λb=>∃x:gC w,b=x.to) c e ⟨⟨w.drew,⟨rfl,rfl,rfl,am _,λ_ _=>rfl⟩⟩,rfl⟩ (by simpa using h)
def aN(h:∃x:gC w,w'=x.to):Below w.heap.size w w':=by
 obtain⟨x,rfl⟩:=h;exact x.ok
def eL  {args:Array Value} {x:gC w} 
  (h:Calls P f args x.to λe b=>e=.returned v/\Below x.to.heap.size x.to b):Calls P f args x.to λe a=>e=.returned v/\∃y:gC w,a=y.to:=
 h.mono λ_ c ⟨he,hb⟩=>⟨he,⟨⟨c,x.ok.trans (hb.mono x.ok.size)⟩,rfl⟩⟩
def dv  {args:Array Value} {x:gC w} 
  (h:Calls P f args x.to λe b=>e=.returned v/\x.to=b):Calls P f args x.to λe a=>e=.returned v/\∃y:gC w,a=y.to:=
 h.mono λ_ _ ⟨he,hb⟩=>⟨he,⟨x,hb.symm⟩⟩
instance ax1(w:World):aW (gC w):=⟨λ_ _=>True,λ_ _ _=>trivial,λ_ _=>True⟩
def gC.le{w:World}(x y:gC w):Prop:=Below x.to.heap.size x.to y.to
def gC.le_refl(x:gC w):gC.le x x:=ff _ _
def gC.mk'{w:World}(x:gC w){w':World}(h:Below x.to.heap.size x.to w'):gC w:=⟨w',x.ok.trans (h.mono x.ok.size)⟩
def bB   {l:List Oper}  (n:Nat) (a b:List Nat) (d:P.follows .mixedOrders=true:=by kernel_rfl) (g:ahy l n a b=true:=by kernel_rfl) (c:ady l.toArray n Y.tmps.size=true:=by kernel_rfl)
  (h:wpQuiet P l.toArray (λe=>∃x:gC w,e=x.to) (λf=>∃i:List (ij (gC w)),bE P l.toArray (gC.to (w:=w)) (gC.le (w:=w)) (wpList P l.toArray Q (l.drop n)) (pick l b) [] i f) ((pick l a).map (·.2)) Y):(Code.region Z l.toArray true).wp P Q Y w:=
 mZ (gC.to (w:=w)) (gC.le (w:=w)) gC.le_refl n a b d g c ⟨w.drew,⟨rfl,rfl,rfl,am _,λ_ _=>rfl⟩⟩ (λ_ _=>trivial) (λ_ _=>trivial) rfl h
section
variable {P:Program} {ops:Array Oper} {w:World} {Qt:Act->World->Prop} {i:Nat} {o:Oper} {l:List (Nat×Oper)} {F:List (Nat×(gC w->Prop))} {Rs:List (ij (gC w))} {a:Act}
def bN (R:Value->World->Prop) (f:o.dst.isSome=true) (j:∀v x y,R v x->Below x.heap.size x y->R v y)
  (q:∀x:gC w,my F o x->∀b:Exit->Act->World->Prop,(∀v c,Below x.to.heap.size x.to c->R v c->b .normal (a.put o.dst v) c)->wpList P ops b [o] a x.to)
  (g:∀v,bE P ops (gC.to (w:=w)) (gC.le (w:=w)) Qt l ((i,λx=>R v x.to)::F) Rs (a.put o.dst v)):bE P ops (gC.to (w:=w)) (gC.le (w:=w)) Qt ((i,o)::l) F (.any (λv x=>R v x.to)::Rs) a:=
 gW (X:=gC w) (to:=gC.to (w:=w)) (le:=gC.le (w:=w)) (λv x=>R v x.to) (.inl f) (λv x y h d=>j v x.to y.to h d) (λx n m _ _ b k=>q x n b λv c e p=>k v (x.mk' e) e trivial (λ_ _ _ _=>trivial) p) g
def kQ (c:Value)
  (g:∀x:gC w,my F o x->∀b:Exit->Act->World->Prop,(∀d,Below x.to.heap.size x.to d->b .normal (a.put o.dst c) d)->wpList P ops b [o] a x.to)
  (f:bE P ops (gC.to (w:=w)) (gC.le (w:=w)) Qt l F Rs (a.put o.dst c)):bE P ops (gC.to (w:=w)) (gC.le (w:=w)) Qt ((i,o)::l) F (.fix c::Rs) a:=
 ant (X:=gC w) (to:=gC.to (w:=w)) (le:=gC.le (w:=w)) c (λx k m _ _ b j=>g x k b λd e=>j (x.mk' e) e trivial λ_ _ _ _=>trivial) f
def dD(h:∀b,Below w.heap.size w b->∀x:gC w,x.to=b->iZ F x->Qt a b):bE P ops (gC.to (w:=w)) (gC.le (w:=w)) Qt [] F [] a:=
 adQ (X:=gC w) (to:=gC.to (w:=w)) (le:=gC.le (w:=w)) λx c=>h x.to x.ok x rfl c
end
def eD(base:Nat)(e:TypeId)(v:Value)(w:World):Prop:=∃g,v=.slice (some ⟨g,0,none⟩) 0 0/\base<=g/\bW w g e #[]
def eD.own{base:Nat}(h:eD base e v w)(b:Nat):w.ownsRow base e b v 0 []:=by
 obtain⟨g,rfl,c,a⟩:=h;exact⟨by simp,.inr ⟨g,0,#[],rfl,c,a,am _,by unfold maxLen;omega,by simp,by simp⟩⟩
def av(h:bW w g t cs)(a:Below w.heap.size w w'):bW w' g t cs:=(a.block g h.lt).trans h
def eD.keep{base:Nat}(h:eD base e v w)(c:Below w.heap.size w w'):eD base e v w':=by
 obtain⟨g,rfl,b,a⟩:=h;exact⟨g,rfl,b,av a c⟩
def eD.new(w:World){base:Nat}(e:TypeId)(a:base<=w.heap.size):eD base e (.slice (some ⟨w.heap.size,0,none⟩) 0 0) (w.alloc (.cells #[] e)):=⟨_,rfl,a,bW.new _ _ _⟩
def ak0(base:Nat)(e:TypeId)(es:Array Value)(v:Value)(w:World):Prop:=∃g,v=.slice (some ⟨g,0,none⟩) 1 1/\base<=g/\bW w g e es
def ak0.keep{base:Nat}(h:ak0 base e es v w)(c:Below w.heap.size w w'):ak0 base e es v w':=by
 obtain⟨g,rfl,b,a⟩:=h;exact⟨g,rfl,b,av a c⟩
def ak0.new(w:World){base:Nat}(e:TypeId)(es:Array Value)(a:base<=w.heap.size):ak0 base e es (.slice (some ⟨w.heap.size,0,none⟩) 1 1) (w.alloc (.cells es e)):=⟨_,rfl,a,bW.new _ _ _⟩
end
section
variable {β:Bool}
open Go.RowKit
def ahC(p:Prop)(e:Ending):Prop:=(e=.returned (.bool true)/\p)\/e=.returned (.bool false)
def ahC.of{q:Bool}{p:Prop}(h:q=true->p):ahC p (.returned (.bool q)):=by
 cases q
 .exact .inr rfl
 .exact .inl ⟨rfl,h rfl⟩
def nm(b:Nat):Bool:=decide (97<=b)&&decide (b<=101)
def gG(s:ByteArray):Bool:=if h:s.size=1 then nm (s[0]'(by omega)).toNat else if h:s.size=3 then nm (s[0]'(by omega)).toNat&&(decide ((s[1]'(by omega)).toNat=47)&&nm (s[2]'(by omega)).toNat) else false
def dw(s:ByteArray):Bool:=decide (s.size<=40)&&(bs s).all nU
def kU(h:gG s=true):s.size=1\/s.size=3:=by
 unfold gG at h;split at h
 .exact .inl (by assumption)
 .split at h
  .exact .inr (by assumption)
  .cases h
def oJ(b:Nat)(w:World) :
  Calls (ah β) 127 #[.int .u8 b] w λe f=>e=.returned (.bool (nm b))/\w=f:=by
 by_cases c:97<=b
 .by_cases a:b<=101
  .have e:nm b=true:=by unfold nm;rw[de c,de a];rfl
   rw[e];clear e;have d:=de (show(b:Int)<=101 by omega);go_enter wF,ntmps127;go_wp2;go_ret;exact⟨rfl,rfl⟩
  .have e:nm b=false:=by unfold nm;rw[bv a,Bool.and_false]
   rw[e];clear e;have d:=bv (show ¬((b:Int)<=101) by omega);go_enter wF,ntmps127;go_wp2;go_ret;exact⟨rfl,rfl⟩
 .have e:nm b=false:=by unfold nm;rw[bv c,tT]
  rw[e];clear e;go_enter wF,ntmps127;go_wp2;go_ret;exact⟨rfl,rfl⟩
def jc(s:ByteArray)(f:s.size<=maxLen)(w:World) :
  Calls (ah β) 71 #[.string s] w λe d=>e=.returned (.bool (dw s))/\w=d:=by
 by_cases b:s.size<=40
 .have a:(bs s).all nU=dw s:=by unfold dw;rw[de b,uj]
  replace a:=ab a;have c:=de (show(s.size:Int)<=40 by omega);go_enter xh,ntmps71;go_wp2;refine(aal s f w).mono ?_;rintro e g ⟨rfl,rfl⟩;rw[a.out];go_wp2;go_ret;exact⟨rfl,rfl⟩
 .have c:=bv (show ¬((s.size:Int)<=40) by omega);have e:dw s=false:=by unfold dw;rw[bv b,tT]
  rw[e];clear e;go_enter xh,ntmps71;go_wp2;go_ret;exact⟨rfl,rfl⟩
def aeF(s:ByteArray)(n:Nat)(G:s.size*n<=100)(F:s.size<=100)(j:n<=100)(w:World) :
  Calls (ah β) 74 #[.string s,.int .i64 n] w λe r=>(∃t:ByteArray,e=.returned (.string t)/\t.size<=100)/\w=r:=by
 go_enter yI,ntmps74;go_wp2
 go_loop [0,1,5] (λa i o=>∃(x y:ByteArray) (k:Nat),a=.string x/\i=.int .i64 k/\o=.string y/\y.size+x.size*k<=100/\x.size<=200/\k<=100) (λ_ i _=>(intOf i).toNat)
 case atStart=>exact⟨s,⟨#[]⟩,n,rfl,rfl,rfl,by show 0+_<=_;omega,by omega,j⟩
 case round=>
  obtain⟨x,y,k,rfl,rfl,rfl,f,C,E⟩:=hrel;have d:(x++x).size=x.size+x.size:=by rw[<-aK,gh,ap,aK]
  have c:(y++x).size=y.size+x.size:=by rw[<-aK,gh,ap,aK,aK]
  by_cases v:k=0
  .subst v;go_wp2;go_ret;exact⟨⟨y,rfl,by omega⟩,rfl⟩
  .have A:x.size<=100:=by
    have:x.size*1<=x.size*k:=Nat.mul_le_mul_left _ (by omega);omega
   obtain⟨m,p⟩:∃m,m=k / 2:=⟨_,rfl⟩;have D:(k:Int) / 2=((m:Nat):Int):=by omega
   have H:0<(k:Int):=by omega
   have z:m<=100/\m<k:=by omega
   have u:y.size<=100:=by omega
   rcases uP k with l|l
   .have q:(k:Int) % 2=0:=by omega
    have b:(x.size+x.size)*m=x.size*k:=by
     have:k=2*m:=by omega
     rw[this,<-Nat.two_mul,tL 2,Nat.mul_assoc]
    have g:=ab b;replace d:=ab d;replace f:=ab f;clear b c l p;go_wp2
    go_round
    case rel=>exact⟨x++x,y,m,rfl,rfl,rfl,by rw[d.out,g.out];exact f.out,by rw[d.out];omega,by omega⟩
    simp[intOf];omega
   .have q:(k:Int) % 2=1:=by omega
    have b:y.size+x.size+(x.size+x.size)*m=y.size+x.size*k:=by
     have:k=2*m+1:=by omega
     rw[this,Nat.mul_add,<-Nat.two_mul,tL 2,Nat.mul_assoc,tC];omega
    have g:=ab b;replace d:=ab d;replace c:=ab c;replace f:=ab f;clear b p;have B:(((k:Int) % 2) ==1)=true:=by rw[q];rfl
    go_wp2
    go_round
    case rel=>exact⟨x++x,y++x,m,rfl,rfl,rfl,by rw[d.out,c.out,g.out];exact f.out,by rw[d.out];omega,by omega⟩
    simp[intOf];omega
def jd(s:ByteArray)(p:s.size<=maxLen)(w:World) :
  Calls (ah β) 70 #[.string s] w λe o=>e=.returned (.bool (gG s))/\w=o:=by
 unfold maxLen at p;by_cases j:s.size=1
 .have m:((s.size:Int) ==1)=true:=by rw[j];rfl
  have a:0<s.size:=by omega
  have d:nm (s[0]'a).toNat=gG s:=by unfold gG;rw[tk j]
  have q:=ab d;clear d;have HC:=ab (oJ (β:=β) (s[0]'a).toNat w);go_enter wn,ntmps70;go_wp2;refine HC.out.mono ?_;rintro e i ⟨rfl,rfl⟩;rw[q.out];go_wp2;go_ret;exact⟨rfl,rfl⟩
 .by_cases k:s.size=3
  .have m:((s.size:Int) ==1)=false:=dq.2 (by omega);have n:((s.size:Int) ==3)=true:=by rw[k];rfl
   have a:0<s.size:=by omega
   have c:1<s.size:=by omega
   have f:2<s.size:=by omega
   have d:gG s=(nm (s[0]'a).toNat&&(decide ((s[1]'c).toNat=47)&&nm (s[2]'f).toNat)):=by unfold gG;rw[dif_neg j,tk k]
   have HC:=ab (oJ (β:=β) (s[0]'a).toNat w);have g:=ab (oJ (β:=β) (s[2]'f).toNat w);rw[d];clear d;revert HC;revert g;generalize nm (s[0]'a).toNat=q0;generalize nm (s[2]'f).toNat=q2;intro g HC;cases q0
   .go_enter wn,ntmps70;go_wp2;refine HC.out.mono ?_;rintro e i ⟨rfl,rfl⟩;go_wp2;go_ret;exact⟨rfl,rfl⟩
   .by_cases b:(s[1]'c).toNat=47
    .rw[de b];have l:(((s[1]'c).toNat:Int) ==47)=true:=by rw[b];rfl
     clear b;go_enter wn,ntmps70;go_wp2;refine HC.out.mono ?_;rintro e i ⟨rfl,rfl⟩;go_wp2;refine g.out.mono ?_;rintro e i ⟨rfl,rfl⟩;go_wp2;go_ret;exact⟨by cases q2<;>rfl,rfl⟩
    .rw[bv b];have l:(((s[1]'c).toNat:Int) ==47)=false:=dq.2 (by omega);clear b;go_enter wn,ntmps70;go_wp2;refine HC.out.mono ?_;rintro e i ⟨rfl,rfl⟩;go_wp2;go_ret;exact⟨rfl,rfl⟩
  .have m:((s.size:Int) ==1)=false:=dq.2 (by omega);have n:((s.size:Int) ==3)=false:=dq.2 (by omega);have d:gG s=false:=by unfold gG;rw[dif_neg j,dif_neg k]
   rw[d];clear d;go_enter wn,ntmps70;go_wp2;go_ret;exact⟨rfl,rfl⟩
def je(s t:ByteArray):Bool:=if h:0<s.size/\0<t.size then(if s.size=t.size then false else((s[0]'h.1).toNat:Int) ==((t[0]'h.2).toNat:Int)) else false
def ahD(s t:ByteArray)(o:0<s.size/\s.size<=maxLen)(n:0<t.size/\t.size<=maxLen)(w:World) :
  Calls (ah β) 78 #[.string s,.string t] w λe m=>e=.returned (.bool (je s t))/\Below w.heap.size w m:=by
 obtain⟨a,k⟩:=o;obtain⟨b,l⟩:=n;by_cases j:s.size=t.size
 .have f:je s t=false:=by unfold je;rw[tk ⟨a,b⟩,dj j]
  rw[f];clear f;go_enter xg,ntmps78;go_wp2;refine bB 12 [0,1,2,3,4,5,6,7,8,9,10,11] [] (h:= ?_);simp only[pick,List.map,pa,pb];repeat(go_big_quiet_step (fail))
  refine iS ?_;apply Exists.intro;refine dD ?_;intro p i g d c;dsimp only[iZ] at c;try rw[d] at c
  clear d g;simp only[List.drop];clear c;go_wp2;go_ret;exact⟨rfl,i⟩
 .have q:((s.size:Int) !=(t.size:Int))=true:=by simp;omega
  have f:je s t=(((s[0]'a).toNat:Int) ==((t[0]'b).toNat:Int)):=by unfold je;rw[tk ⟨a,b⟩,bd j]
  rw[f];clear f;go_enter xg,ntmps78;go_wp2;refine bB 12 [0,1,2,3,4,5,6,7,8,9,10,11] [] (h:= ?_);simp only[pick,List.map,pa,pb];repeat(go_big_quiet_step (fail))
  refine iS ?_;apply Exists.intro;refine dD ?_;intro p i g d c;dsimp only[iZ] at c;try rw[d] at c
  clear d g;simp only[List.drop];clear c;go_wp2;go_ret;exact⟨rfl,i⟩
def dig(x:Nat):Int:=((x:Int)-97) % 256
def oK(l:List Nat)(p:Nat):Bool:=(dig (l.getD (p-1) 0)+2*dig (l.getD (p-2) 0)+3*dig (l.getD (p-3) 0)) % 5 ==0
def pA(h:k<s.size):(bs s).getD k 0=(s[k]'h).toNat:=by rw[sG,oG h];rfl
def ak1(s:ByteArray)(p:Nat)(v:3<=p/\p<s.size)(r:s.size<=maxLen)(w:World) :
  Calls (ah β) 170 #[.string s,.int .i64 p] w λe o=>e=.returned (.bool (oK (bs s) p))/\Below w.heap.size w o:=by
 unfold maxLen at r;obtain⟨a,l⟩:∃a,a=p-1:=⟨_,rfl⟩;obtain⟨b,i⟩:∃b,b=p-2:=⟨_,rfl⟩;obtain⟨c,n⟩:∃c,c=p-3:=⟨_,rfl⟩;have m:a<s.size:=by omega
 have f:b<s.size:=by omega
 have g:c<s.size:=by omega
 have y:(p:Int)-1=((a:Nat):Int):=by omega
 have x:(p:Int)-2=((b:Nat):Int):=by omega
 have z:(p:Int)-3=((c:Nat):Int):=by omega
 have t:(p:Int)<=9223372036854775807:=by omega
 have k:oK (bs s) p=((dig (s[a]'m).toNat+2*dig (s[b]'f).toNat+3*dig (s[c]'g).toNat) % 5 ==0):=by unfold oK;rw[<-l,<-i,<-n,pA m,pA f,pA g]
 rw[k];clear l i n k;go_enter xL,ntmps170;go_wp2;refine bB 24 [0,1,2,3,4,5,6,7,8,9,10,11,12,13,14,15,16,17,18,19,20,21,22,23] [] (h:= ?_);simp only[pick,List.map,pa,pb];repeat(go_big_quiet_step (fail))
 refine iS ?_;apply Exists.intro;refine dD ?_;intro A u q j d;dsimp only[iZ] at d;try rw[j] at d
 clear j q;simp only[List.drop];clear d;go_wp2;go_ret;exact⟨aA rfl,u⟩
end
section
variable {β:Bool}
open Go.RowKit
structure Flat (α:Type) where
 sz:Nat
 cells:α->List Value
 good:α->Prop
 len:∀x,(cells x).length=sz
 one:∀x,∀u∈cells x,u.oneCell'=true
 pos:0<sz
def cg{α:Type}(F:Flat α):gF α:=λ_ _ _ x a=>a=F.cells x/\F.good x
section
variable {α:Type} (F:Flat α)
def cg.loc:Lcy (cg F):=⟨λ_ _ _ h=>h⟩
def dG(xs:List α):List Value:=xs.flatMap F.cells
def na(xs a:List α):dG F (xs++a)=dG F xs++dG F a:=qT
def aeG(x:α):dG F [x]=F.cells x:=by simp[dG]
def eN:∀a:List α,(dG F a).length=a.length*F.sz
 |[]=>by simp[dG]
 |x::a=>by
  show(F.cells x++dG F a).length=_;rw[ap,eN a,F.len,fm,rH,Nat.add_comm]
def iw:∀(a:List α) (i j:Nat) (x:α) (u:Value),a[i]?=some x->(F.cells x)[j]?=some u->(dG F a)[i*F.sz+j]?=some u
 |[],i,j,x,u,h,_=>by simp at h
 |g::a,i,j,x,u,h,hj=>by
  have b:=aH hj;rw[F.len] at b;show(F.cells g++dG F a)[i*F.sz+j]?=some u;cases i with
  |zero=>
   simp at h;subst h;rw[qz (by rw[F.len,uA,ls];exact b),uA,ls];exact hj
  |succ i=>
   have e:(i+1)*F.sz+j=F.sz+(i*F.sz+j):=by rw[rH];omega
   rw[e,qp (by rw[F.len];omega),F.len,rU];exact iw a i j x u (by simpa using h) hj
def aoT{xs:List α}(h:(dG F xs)[j]?=some u):∃x,xs[j / F.sz]?=some x/\(F.cells x)[j % F.sz]?=some u:=by
 have a:=aH h;rw[eN] at a;have d:j / F.sz<xs.length:=Nat.div_lt_of_lt_mul (by rw[tL];exact a);refine⟨xs[j / F.sz],lm d, ?_⟩;have b:j % F.sz<(F.cells xs[j / F.sz]).length:=by rw[F.len];exact uC _ F.pos
 have c:=iw F xs (j / F.sz) (j % F.sz) xs[j / F.sz] _ (lm d) (lm b);rw[Nat.div_add_mod'] at c;rw[lm b,<-c,h]
def pB(xs:List α):∀u∈dG F xs,u.oneCell'=true:=by
 intro u a;obtain⟨g,_,b⟩:=qe.1 a;exact F.one g u b
def aD(e:TypeId)(w:World)(base:Nat)(v:Value)(xs:List α):Prop:=w.ownsRow base e F.sz v xs.length (dG F xs)
variable {F}
def aD.sl{base : Nat}{xs:List α}(h:aD F e w base v xs)(c:∀x∈xs,F.good x)(a:w.heap.size<=hi):cR (cg F) F.sz w base hi xs [v]:=
 axX h a λi x hi=>⟨F.cells x,F.len x,⟨rfl,c x (be hi)⟩,λ_ _ b=>iw F xs i _ x _ hi b⟩
def aiX{base : Nat}(h:w.ownsRow base e Z v n R)(d:base'<=base):w.ownsRow base' e Z v n R:=by
 refine⟨h.1, ?_⟩;rcases h.2 with f|⟨g,cap,b,rfl,c,a⟩
 .exact .inl f
 .exact .inr ⟨g,cap,b,rfl,da d c,a⟩
def aD.base{base : Nat}{xs:List α}(h:aD F e w base v xs)(a:base'<=base):aD F e w base' v xs:=aiX h a
def aD.nil(e:TypeId)(w:World)(base:Nat):aD F e w base (.slice none 0 0) []:=uV _ _ _ _
def aD.aaM{base:Nat}(h:eD base e v w):aD F e w base v []:=h.own F.sz
def aD.below{base:Nat}{xs:List α}(h:aD F e w base v xs)(a:Below w.heap.size w w'):aD F e w' base v xs:=aeB h a
def aD.eY{base:Nat}{xs:List α}(h:aD F e w base v xs)(c:bJ S w w')(a:∀b,v.ownBlock=some b->¬S b):aD F e w' base v xs:=ahr h c a
def aD.at_{base:Nat}{xs:List α}(h:aD F e w base v xs)(a:v.ownBlock=some g):base<=g/\g<w.heap.size:=h.lt g a
def aD.bZ{base:Nat}{xs:List α}(h:aD F e w base v xs)(u:Value)(c:p.block<base):aD F e (w.setCell p u) base v xs:=
 h.eY (S:=λb=>b=p.block) ((bJ.refl (λb=>b=p.block) w).setCell (p:=p) (.inl rfl) u) λb a e=>by have:=h.at_ a;omega
def aoU{base : Nat}{e' : TypeId}{v' : Value}{cs : List Value}(h:w.ownsRow base e Z v n cs)(m:w.ownsRow base' e' N v' c R)(o:e≠e'):∀b,v.ownBlock=some b->v'.ownBlock≠some b:=by
 intro b d a;rcases h.2 with⟨rfl,_⟩|⟨g,cap,l,rfl,_,j,_⟩
 .simp[Value.ownBlock] at d
 .rcases m.2 with⟨rfl,_⟩|⟨p,i,k,rfl,_,f,_⟩
  .simp[Value.ownBlock] at a
  .simp[Value.ownBlock] at d a;rw[d] at j;rw[a,j] at f;simp at f;exact o f.2
def aD.arh{base:Nat}{xs:List α}(h:aD F e w base v xs)(u:Value)(a:∀b,v.ownBlock=some b->b≠p.block):aD F e (w.setCell p u) base v xs:=
 h.eY (S:=λb=>b=p.block) ((bJ.refl (λb=>b=p.block) w).setCell (p:=p) (.inl rfl) u) a
def aD.form{base:Nat}{xs:List α}(h:aD F e w base v xs):∃A c,v=.slice A xs.length c:=jH h
def agh:∀(a:List α) (i j:Nat) (x y:α) (u:Value),a[i]?=some x->j<F.sz->F.cells y=(F.cells x).set j u->dG F (a.set i y)=(dG F a).set (i*F.sz+j) u
 |[],i,j,x,y,u,h,_,_=>by simp at h
 |z::a,0,j,x,y,u,h,hj,hy=>by
  simp at h;subst h;show F.cells y++dG F a=(F.cells z++dG F a).set (0*F.sz+j) u
  rw[uA,ls,List.set_append_left _ _ (by rw[F.len];exact hj),hy]
 |z::a,i+1,j,x,y,u,h,hj,hy=>by
  show F.cells z++dG F (a.set i y)=(F.cells z++dG F a).set ((i+1)*F.sz+j) u
  have e:(i+1)*F.sz+j=F.sz+(i*F.sz+j):=by rw[rH];omega
  rw[e,vJ _ _ (by rw[F.len];omega),F.len,rU,agh a i j x y u (by simpa using h) hj hy]
def aD.put{base cap : Nat}{xs:List α}(h:aD F e w base (.slice (some ⟨g,0,none⟩) xs.length cap) xs){x y:α}(c:xs[i]?=some x)(a:j<F.sz)(b:F.cells y=(F.cells x).set j u) :
  aD F e (w.setCell ⟨g,i*F.sz+j,none⟩ u) base (.slice (some ⟨g,0,none⟩) xs.length cap) (xs.set i y):=by
 unfold aD;rw[agh xs i j x y u c a b,qK];exact(h.stored _ u).1
def aD.cell{base cap : Nat}{xs:List α}(h:aD F e w base (.slice (some ⟨g,0,none⟩) xs.length cap) xs){x:α}(b:xs[i]?=some x)(a:(F.cells x)[j]?=some u):w.cell? ⟨g,i*F.sz+j,none⟩=some u:=by
 have c:=aH a;rw[F.len] at c;have d:=aH b;have f:(i+1)*F.sz<=xs.length*F.sz:=rB _ d;rw[rH] at f;rw[h.cellAt _ (by omega)];exact iw F xs i j x u b a
def aD.frozen{base cap : Nat}{xs:List α}(h:aD F e w base (.slice (some ⟨g,0,none⟩) n cap) xs)(a:n=xs.length)(j:Nat):w.frozen? ⟨g,j,none⟩=false:=by
 subst a;exact h.frozenAt j
def aD.some_{base:Nat}{xs:List α}(h:aD F e w base v xs)(b:0<xs.length):∃g c,v=.slice (some ⟨g,0,none⟩) xs.length c:=by
 rcases h.2 with⟨_,d⟩|⟨g,cap,a,rfl,_⟩
 .omega
 .exact⟨g,cap,rfl⟩
def mz{xs:List α}(h:cR (cg F) F.sz w lo hi xs [.slice A n c])(r:hi<=w.heap.size) :
  0<xs.length->∃a,A=some a/\∀(j:Nat) (u:Value),(dG F xs)[j]?=some u->∀f,Below w.heap.size w f->f.cell? (a.add j)=some u:=by
 intro k;obtain⟨x,p⟩:=aq k;obtain⟨b,d,_,rfl,_⟩:=h.at_ p;refine⟨_,rfl,λj u m f o=> ?_⟩;obtain⟨y,l,i⟩:=aoT F m;obtain⟨t,v,s,e,_,_,_,⟨rfl,_⟩,q⟩:=h.at_ l;simp only[lw,qo,qk] at e;obtain⟨rfl,rfl⟩:=e;have g:(⟨b,d,none⟩:Addr).add j=⟨b,d+j,none⟩:=by unfold Addr.add;split<;>simp_all
 rw[g];have:=q _ _ i;rw[uQ,Nat.div_add_mod'] at this;exact fC o this
def cR.good{xs:List α}{cs:List Value}(h:cR (cg F) F.sz w lo hi xs cs):∀x∈xs,F.good x:=λx b=>by
 obtain⟨c,a⟩:=h.aqZ x b;exact a.2
end
def ie:Flat Int:=⟨1,λx=>[.int .i64 x],cA,λ_=>rfl,λx u a=>by rw[gE.1 a];rfl,by decide⟩
def pC(xs:List Int):dG ie xs=xs.map (Value.int .i64):=by
 induction xs with
 |nil=>rfl
 |cons x xs a=>show Value.int .i64 x::dG ie xs=_;rw[a];rfl
section
variable {P:Program}
def aiY {ty : TypeId} (p:ig P t e Z N) {base:Nat} (r:eD base e v w)
  {news:List Value} (D:news.length=m*Z) (F:0<m->∃a,A=some a/\∀(j:Nat) (u:Value),news[j]?=some u->w.cell? (a.add j)=some u) (J:∀u∈news,u.oneCell'=true)
  (R:m<=1099511627776) (l:base<=w.heap.size) :
  ∃E s,(Builtin.append_ #[t,t] ty #[v,.slice A m c]).run P w=.ok E s/\s.ownsRow base e Z E m news/\Below w.heap.size w s:=by
 obtain⟨i,z,G,M,B,C,S⟩:=p.info;have o:=r.own Z;obtain⟨K,I,d,y⟩:=ano (P:=P) (ty:=ty) p o (c:=c) D F J (by omega) l;have b:=y.own;rw[ls,rm] at b;refine⟨K,I,d,b, ?_⟩;obtain⟨g,rfl,O,H⟩:=r;rcases oE m with x|x
 .subst x;have q:news=[]:=rT (by simpa using D);subst q;have k:(Builtin.append_ #[t,t] ty #[.slice (some ⟨g,0,none⟩) 0 0,.slice A 0 c]).run P w=.ok (.slice (some ⟨g,0,none⟩) 0 0) w:=by
   cases A<;>simp[Builtin.append_,lE p.slice,sizeOf,typeInfo,G,Builtin.lenOf,Builtin.firstCells,storeCells,loadCells,loadCellsFrom]
  rw[k] at d;cases d;exact ff _ _
 .obtain⟨L,rfl,n⟩:=F x;have f:m*N<=140737488355328:=da (Nat.mul_le_mul R p.small) (by omega);have k:=run_append_grow (P:=P) w t ty e i z p.slice G M ⟨g,0,none⟩ 0 0 [] (by simp) (λj u Q=>by simp at Q) L m c news (by rw[B];exact D) n (by omega) (by omega) (growslice_fits (by omega) (by rw[C,ls];exact f));rw[k] at d;cases d;exact((ff _ _).drew).alloc (am _) _
variable {α:Type} {F:Flat α}
def abC (n:Below w.heap.size w x)     (g:o.guard=none) (s y:Operand) (t:TypeId)
  (D:o.op=.call ⟨.builtin .append,#[s,y],#[t,t]⟩)
  (B:ig P t e F.sz Z) {xs:List α} {base : Nat} (p:base<=w.heap.size) (I:a.eval s=v) (E:a.eval y=.slice A xs.length c) (k:eD base e v x)
  (m:0<xs.length->∃a,A=some a/\∀(j:Nat) (u:Value),(dG F xs)[j]?=some u->∀d,Below w.heap.size w d->d.cell? (a.add j)=some u) (J:xs.length<=1099511627776)
  (h:∀f i,Below x.heap.size x i->aD F e i base f xs->wpList P W T rest (a.put o.dst f) i):wpList P W T (o::rest) a x:=by
 obtain⟨f,d,G,b,l⟩:=aiY (P:=P) (ty:=o.type) B k (c:=c) (eN F xs) (λC=>by
  obtain⟨z,r,L⟩:=m C;exact⟨z,r,λj u H=>L j u H _ n⟩) (pB F xs) J (da p n.size)
 refine wpList_plain g λK q=> ?_;unfold Oper.wp execOp;simp only[D,resolve,invoke,builtin,tl,tK,tX,List.map_toArray,qN,List.map_nil,I,E,G];exact q _ _ (h f d l b)
def ai0 {x:gC w}    (g:o.guard=none) (s y:Operand) (t:TypeId)
  (i:o.op=.call ⟨.builtin .append,#[s,y],#[t,t]⟩)
  (n:ig P t e F.sz Z) {xs:List α} {base : Nat} (q:base<=w.heap.size) (r:a.eval s=v) (p:a.eval y=.slice A xs.length c) (k:eD base e v x.to)
  (l:0<xs.length->∃a,A=some a/\∀(j:Nat) (u:Value),(dG F xs)[j]?=some u->∀m,Below w.heap.size w m->m.cell? (a.add j)=some u) (z:xs.length<=1099511627776)
  (h:∀d (f:gC w),gC.le x f->aD F e f.to base d xs->T .normal (a.put o.dst d) f.to):wpList P W T [o] a x.to:=
 abC x.ok g s y t i n q r p k l z λd f b i=>h d (x.mk' b) b i
def bR      (j:o.guard=none) (s x:Operand) (t:TypeId)
  (n:o.op=.call ⟨.builtin .append,#[s,x],#[t,t]⟩)
  (m:ig P t e F.sz Z) {base:Nat} {xs:List α} (y:α) (p:a.eval s=v) (f:aD F e w base v xs) {T:TypeId} (q:a.eval x=.slice (some ⟨w.heap.size,0,none⟩) 1 1) (d:es.toList=F.cells y)
  (r:xs.length<=1099511627775) (c:base<=w.heap.size)
  (h:∀i g,aD F e g base i (xs++[y])->bJ (λb=>v.ownBlock=some b) w g->(∀b,i.ownBlock=some b->v.ownBlock=some b\/w.heap.size<=b)->wpList P W Q rest (a.put o.dst i) g) :
  wpList P W Q (o::rest) a (w.alloc (.cells es T)):=
 aum j s x t n m p f q (by rw[<-qU,d,F.len]) (by rw[d];exact F.one y) r c λi g k=>h i g (by
  have l:=k.own;unfold aD;rw[na,aeG,ap];rw[d] at l;exact l) k.eY k.at_
def agi      (k:o.guard=none) (s x:Operand) (t:TypeId)
  (r:o.op=.call ⟨.builtin .append,#[s,x],#[t,t]⟩)
  (q:ig P t e F.sz Z) {base:Nat} {xs:List α} (y:α) (B:a.eval s=v) (d:aD F e w base v xs)  {T:TypeId} (C:a.eval x=.slice (some ⟨g,0,none⟩) 1 1) (p:bW w g T es) (n:es.toList=F.cells y)
  (D:xs.length<=1099511627775) (c:base<=w.heap.size)
  (h:∀i f,aD F e f base i (xs++[y])->bJ (λb=>v.ownBlock=some b) w f->(∀b,i.ownBlock=some b->v.ownBlock=some b\/w.heap.size<=b)->wpList P W Q rest (a.put o.dst i) f) :
  wpList P W Q (o::rest) a w:=
 aby k s x t r q B d C (news:=F.cells y) (by rw[F.len,Nat.one_mul]) (λ_=>⟨_,rfl,λj u z=>by
  have m:(⟨g,0,none⟩:Addr).add j=⟨g,j,none⟩:=by unfold Addr.add;split<;>simp_all
  rw[m,p.cell,<-du,n];exact z⟩) (F.one y) (by omega) c λi f l=>h i f (by
  have A:=l.own;unfold aD;rw[na,aeG,ap];exact A) l.eY l.at_
end
end
section
variable {β:Bool}
open Go.RowKit
def Typed(w:World)(T:List TypeId)(b:Nat):Prop:=∃t∈T,∃a,bW w b t a
structure eE {α:Type} (E:gF α) (T:List TypeId):Prop where
 go:∀{w w':World} {lo hi oF hi':Nat} {x:α} {cs:List Value},
  (∀b,lo<=b->b<hi->Typed w T b->w'.heap[b]?=w.heap[b]?)->oF<=lo->hi<=hi'->E w lo hi x cs->E w' oF hi' x cs
section
variable {α:Type} {E:gF α} {T:List TypeId}
def eE.loc(d:eE E T):Lcy E:=⟨λh a c e=>d.go (λb a c _=>h b a c) a c e⟩
def eE.more(d:eE E T){U:List TypeId}(f:∀t∈T,t∈U):eE E U:=⟨λh c a e=>d.go (λb c a ⟨t,ht,hd⟩=>h b c a ⟨t,f t ht,hd⟩) c a e⟩
def eE.below(a:eE E T){B : Nat}{x:α}{cs:List Value}(h:E w lo hi x cs)(c:Below B w w')(b:hi<=B):E w' lo hi x cs:=a.loc.below h c b
def eE.wide(a:eE E T){oF hi' : Nat}{x:α}{cs:List Value}(h:E w lo hi x cs)(c:oF<=lo)(b:hi<=hi'):E w oF hi' x cs:=a.loc.wide h c b
def fp(h:bW w b t cs)(a:bW w b e U):t=e:=by
 unfold bW at h a;rw[h] at a;simp at a;exact a.2
def eE.eY(c:eE E T){x:α}{cs:List Value}(h:E w lo hi x cs)(i:bJ S w w')(f:∀b,lo<=b->b<hi->Typed w T b->¬S b):E w' lo hi x cs:=
 c.go (λb g e a=>i.block b (by obtain⟨_,_,_,d⟩:=a;exact d.lt) (f b g e a)) (am _) (am _) h
def cg.aw{α:Type}(F:Flat α):eE (cg F) []:=⟨λ_ _ _ h=>h⟩
def eZ(e:TypeId)(E:gF α)(sz:Nat):gF (List α):=λw i j f d=>
 cR E sz w i j f d/\(0<f.length->∀b a n c,d=[.slice (some ⟨b,a,none⟩) n c]->∃g,bW w b e g)
def eZ.aw(D:eE E T)  :eE (eZ e E Z) (e::T):=by
 refine⟨?_⟩;intro w M S Q R l P O s o v ⟨⟨A,c,a,C,K,h⟩,p⟩;refine⟨⟨A,c,a,C,K,λm=> ?_⟩,λm b f n N r=> ?_⟩
 .obtain⟨b,f,rfl,k,g,I⟩:=h m;have q:=p m b f _ _ a;refine⟨b,f,rfl,da o k,aE g v,λi x l=> ?_⟩;obtain⟨G,F,L,d⟩:=I i x l;exact⟨G,F,D.go (λb k g ⟨t,p,hd⟩=>s b k g ⟨t,qQ _ p,hd⟩) o v L,λj u H=>(qn (s b k g ⟨e,qP,q⟩)).trans (d j u H)⟩
 .obtain⟨B,J,z,k,g,_⟩:=h m;rw[a,z] at r;simp only[pZ,pv,lw,qo,qk] at r;obtain⟨⟨rfl,rfl⟩,_,_⟩:=r;have q:=p m B J _ _ (a.trans (by rw[z]));obtain⟨y,hd⟩:=q;exact⟨y,(s B k g ⟨e,qP,y,hd⟩).trans hd⟩
def eZ.form{xs:List α}(h:eZ e E Z w lo hi xs [v]):∃A c,v=.slice A xs.length c:=h.1.form
def acn(E:gF α)(sz:Nat)(e:TypeId)(w:World)(lo base:Nat)(v:Value)(xs:List α):Prop:=
 ∃cells:List Value,w.ownsRow base e sz v xs.length cells/\(∀u∈cells,u.oneCell'=true)/\
  ∀i x,xs[i]?=some x->∃a:List Value,a.length=sz/\E w lo w.heap.size x a/\∀j u,a[j]?=some u->cells[i*sz+j]?=some u
variable {sz:Nat} {e:TypeId}
def acn.blk{base : Nat}{xs:List α}(h:acn E sz e w lo base v xs)(a:v.ownBlock=some g):∃d,bW w g e d:=by
 obtain⟨cells,h,_⟩:=h;rcases h.2 with⟨rfl,_⟩|⟨f,cap,b,rfl,_,c,_⟩
 .cases a
 .cases a;exact⟨_,c⟩
def acn.sl{base : Nat}{xs:List α}(h:acn E sz e w lo base v xs)(m:lo<=base):eZ e E sz w lo w.heap.size xs [v]:=by
 have K:=λg t=>h.blk (g:=g) t;obtain⟨cells,p,_,s⟩:=h;refine⟨?_,λA b B n c q=> ?_⟩
 .obtain⟨L,F⟩:=p;rcases F with⟨rfl,a⟩|⟨g,cap,d,rfl,l,r,o,k,G,J⟩
  .exact⟨none,0,by rw[a],by omega,by unfold maxLen;omega,λA=>by omega⟩
  .refine⟨_,cap,rfl,o,k,λ_=>⟨g,0,rfl,da m l,(dk.1 r).1,λi x H=> ?_⟩⟩;obtain⟨C,m,I,z⟩:=s i x H;refine⟨C,m,I,λj u D=> ?_⟩;have f:=z j u D;rw[<-J,qX] at f;split at f
   .rw[cell_of_row w g (0+i*sz+j) d _ (0,0) r,ls];simpa using f
   .cases f
 .simp only[pZ,qk] at q;subst q;rcases p.2 with⟨a,_⟩|⟨g,cap,d,a,_,y,_⟩
  .cases a
  .cases a;exact⟨_,y⟩
def aD.deep{α:Type}{F:Flat α}{base:Nat}{xs:List α}(h:aD F e w base v xs)(b:∀x∈xs,F.good x)(lo:Nat):acn (cg F) F.sz e w lo base v xs:=
 ⟨_,h,pB F xs,λi x a=>⟨F.cells x,F.len x,⟨rfl,b x (be a)⟩,λ_ _ c=>iw F xs i _ x _ a c⟩⟩
end
section
variable {P:Program} {α:Type} {E:gF α} {T:List TypeId} {sz:Nat} {e:TypeId}
end
section
variable {α:Type} {E:gF α}
def aeH(b o i:Nat):(⟨b,o,none⟩:Addr).add i=⟨b,o+i,none⟩:=by unfold Addr.add;split<;>simp_all
def eZ.ari{xs:List α}(h:eZ e E Z w lo hi xs [.slice A n c])(H:k<=xs.length):eZ e E Z w lo hi (xs.drop k) [.slice (if c=k then A else A.map λx=>x.add (k*Z)) (xs.length-k) (c-k)]:=by
 obtain⟨⟨A',s,o,I,J,r⟩,t⟩:=h;simp only[pZ,pv,qk] at o;obtain⟨rfl,rfl,rfl⟩:=o;refine⟨⟨_,c-k,by rw[pX],by rw[pX];omega,by omega,λm=> ?_⟩,λm b g G s l=> ?_⟩
 .rw[pX] at m;have d:¬c=k:=by omega
  have a:0<xs.length:=by omega
  obtain⟨b,g,rfl,q,p,f⟩:=r a;refine⟨b,g+k*Z,by rw[bd d];simp[Addr.add],q,p,λi x hi=> ?_⟩;rw[sZ] at hi;obtain⟨z,C,v,y⟩:=f _ _ hi;refine⟨z,C,v,λj u F=> ?_⟩;have:=y j u F;rw[<-this,Nat.add_mul]
  congr 2
  omega
 .rw[pX] at m;have d:¬c=k:=by omega
  have a:0<xs.length:=by omega
  obtain⟨B,D,rfl,q,p,f⟩:=r a;rw[bd d] at l;simp only[qf,aeH,pZ,pv,lw,qo,qk] at l;obtain⟨⟨rfl,_⟩,_⟩:=l;exact t a B D _ _ rfl
def eZ.arj{xs:List α}(h:eZ e E Z w lo hi xs [.slice A n c])(u:k<=xs.length):eZ e E Z w lo hi (xs.take k) [.slice A k c]:=by
 obtain⟨⟨A',o,j,v,s,r⟩,p⟩:=h;simp only[pZ,pv,qk] at j;obtain⟨rfl,rfl,rfl⟩:=j;have d:(xs.take k).length=k:=by rw[fi];omega
 refine⟨⟨_,c,by rw[d],by rw[d];omega,s,λg=> ?_⟩,λg b a t o l=> ?_⟩
 .rw[d] at g;obtain⟨b,a,rfl,q,m,f⟩:=r (by omega);refine⟨b,a,rfl,q,m,λi x hi=> ?_⟩;rw[qX] at hi;split at hi
  .exact f _ _ hi
  .cases hi
 .rw[d] at g;simp only[pZ,pv,qk] at l;obtain⟨rfl,rfl,rfl⟩:=l;exact p (by omega) b a _ _ rfl
end
def adR{F:Flat X}{base : Nat}{xs:List X}(c:bW w g e cs)(a:cs.toList=dG F xs)(f:base<=g)(i:n=xs.length)(b:n<=maxLen):aD F e w base (.slice (some ⟨g,0,none⟩) n n) xs:=by
 subst i;have d:cs.toList.length=xs.length*F.sz:=by rw[a,eN]
 exact⟨eN F xs,.inr ⟨g,xs.length,cs,rfl,f,c,am _,b,by rw[<-qU];exact d,by rw[a,qb (by rw[eN];exact am _)]⟩⟩
end
section
variable {β:Bool}
structure Sp where
 n:Int
 p:Int
def adz(l:List Sp):Prop:=l.Pairwise λa b=>a.n<b.n
def spP(s:Sp):Prop:=(0<=s.n/\s.n<=999999999988)/\(1<=s.p/\s.p<=99)
def ixP(l:List Sp):Prop:=(∀s∈l,spP s)/\adz l
def fG(s:Sp):List Sp->List Sp
 |[]=>[s]
 |x::xs=>if s.n<x.n then s::x::xs else if x.n<s.n then x::fG s xs else s::xs
def abD{s x:Sp}:∀{l:List Sp},x∈fG s l->x=s\/x∈l
 |[],h=>by have:x∈[s]:=h;simp at this;exact .inl this
 |y::l,h=>by
  have a:x∈(if s.n<y.n then s::y::l else if y.n<s.n then y::fG s l else s::l):=h;split at a
  .rcases mc.1 a with e|e
   .exact .inl e
   .exact .inr e
  .split at a
   .rcases mc.1 a with e|e
    .exact .inr (by rw[e];simp)
    .rcases abD e with e|e
     .exact .inl e
     .exact .inr (by simp[e])
   .rcases mc.1 a with e|e
    .exact .inl e
    .exact .inr (by simp[e])
def aus{s:Sp}:∀{l:List Sp},s∈fG s l
 |[]=>by show s∈[s];simp
 |y::l=>by
  show s∈(if s.n<y.n then s::y::l else if y.n<s.n then y::fG s l else s::l);split
  .simp
  .split
   .exact qQ _ aus
   .simp
def aeI{s:Sp}:∀{l:List Sp},adz l->adz (fG s l)
 |[],_=>rF _ _
 |y::l,h=>by
  have c:=se.1 h;show adz (if s.n<y.n then s::y::l else if y.n<s.n then y::fG s l else s::l);split
  .rename_i b;refine se.2 ⟨λz a=> ?_,h⟩;rcases mc.1 a with rfl|a
   .exact b
   .have:=c.1 z a;omega
  .split
   .rename_i b;refine se.2 ⟨λz a=> ?_,aeI c.2⟩;rcases abD a with rfl|a
    .exact b
    .exact c.1 z a
   .refine se.2 ⟨λz a=> ?_,c.2⟩;have:=c.1 z a;omega
def aut{s:Sp}{l:List Sp}(h:ixP l)(b:spP s):ixP (fG s l):=⟨λx a=>by
 rcases abD a with rfl|a
 .exact b
 .exact h.1 x a,aeI h.2⟩
def aeJ{s:Sp}:∀{l:List Sp},(fG s l).length<=l.length+1
 |[]=>by show[s].length<=_;simp
 |y::l=>by
  show(if s.n<y.n then s::y::l else if y.n<s.n then y::fG s l else s::l).length<=_;split
  .simp
  .split
   .have:=aeJ (s:=s) (l:=l);simp;omega
   .simp
def abE{s:Sp}:∀{a b:List Sp},(∀x∈a,x.n<s.n)->fG s (a++b)=a++fG s b
 |[],_,_=>rfl
 |x::a,b,h=>by
  have d:=h x (by simp);show(if s.n<x.n then s::x::(a++b) else if x.n<s.n then x::fG s (a++b) else s::(a++b))=x::(a++fG s b);rw[bd (by omega),dj d,abE λy c=>h y (by simp[c])]
def agj{s x:Sp}(c:s.n<x.n):∀{a b:List Sp},fG s (a++x::b)=fG s a++x::b
 |[],b=>by
  show(if s.n<x.n then s::x::b else _)=[s]++x::b;rw[dj c];rfl
 |y::a,b=>by
  show(if s.n<y.n then s::y::(a++x::b) else if y.n<s.n then y::fG s (a++x::b) else s::(a++x::b))=(if s.n<y.n then s::y::a else if y.n<s.n then y::fG s a else s::a)++x::b;split
  .rfl
  .split
   .rw[agj c];rfl
   .rfl
inductive Tr where
 |nil
 |node (b:Nat) (s:Sp) (l r:Tr)
namespace Tr
end Tr
def dY:List Sp->List Sp->List Sp
 |[],l=>l
 |s::ss,l=>dY ss (fG s l)
def abF:∀(a b l:List Sp),dY (a++b) l=dY b (dY a l)
 |[],_,_=>rfl
 |s::a,b,l=>abF a b (fG s l)
def agk:∀{a l:List Sp},adz l->adz (dY a l)
 |[],_,h=>h
 |s::a,l,h=>by show adz (dY a (fG s l));exact agk (aeI h)
def ai1:∀{a l:List Sp},ixP l->(∀s∈a,spP s)->ixP (dY a l)
 |[],_,h,_=>h
 |s::a,l,h,hs=>by show ixP (dY a (fG s l));exact ai1 (aut h (hs s (by simp))) λx b=>hs x (by simp[b])
def agl:∀{a l:List Sp},(dY a l).length<=a.length+l.length
 |[],_=>by show _<=_;simp[dY]
 |s::a,l=>by
  have b:=agl (a:=a) (l:=fG s l);have c:=aeJ (s:=s) (l:=l);show(dY a (fG s l)).length<=_;simp only[fm];omega
def aoV{s:Sp}{l:List Sp}(h:∀x∈l,x.n<s.n):fG s l=l++[s]:=by
 have:=abE (s:=s) (a:=l) (b:=[]) h;rw[tI] at this;rw[this];rfl
def dZ(n:Int):List Sp->Int
 |[]=>0
 |x::xs=>if x.n=n then x.p else dZ n xs
def acA{s:Sp}{n:Int}:∀{l:List Sp},dZ n (fG s l)=if s.n=n then s.p else dZ n l
 |[]=>by show(if s.n=n then s.p else 0)=_;rfl
 |x::l=>by
  show dZ n (if s.n<x.n then s::x::l else if x.n<s.n then x::fG s l else s::l)=_;split
  .rfl
  .split
   .show(if x.n=n then x.p else dZ n (fG s l))=(if s.n=n then s.p else(if x.n=n then x.p else dZ n l));rw[acA];split
    .rw[bd (by omega)]
    .rfl
   .show(if s.n=n then s.p else dZ n l)=(if s.n=n then s.p else(if x.n=n then x.p else dZ n l));split
    .rfl
    .rw[bd (by omega)]
end
section
variable {β:Bool}
open Go.RowKit
structure aV (w:World) (s:Nat) (ty:TypeId) (S:Nat->Prop) (pre:List Nat) where
 to:World
 done:Bool
 ok:bJ (λb=>done=true/\S b) w to
section
variable {w:World} {s:Nat} {ty:TypeId} {S:Nat->Prop} {pre:List Nat}
instance atG:Nonempty (aV w s ty S pre):=⟨⟨w,false,bJ.refl _ _⟩⟩
instance awN:aW (aV w s ty S pre):=⟨λ_ _=>True,λ_ _ _=>trivial,λi x=>i=s\/i∈pre->x.done=false⟩
def aV.le(x y:aV w s ty S pre):Prop:=
 (y.done=x.done/\Below x.to.heap.size x.to y.to)\/(x.done=false/\y.done=true/\bJ (λb=>S b\/(w.heap.size<=b/\∃a:Array Value,bW x.to b ty a)) x.to y.to)
def aV.le_refl(x:aV w s ty S pre):aV.le x x:=.inl ⟨rfl,ff _ _⟩
def aV.le.till{x y:aV w s ty S pre}(h:aV.le x y)(b:y.done=false):x.done=false/\Below x.to.heap.size x.to y.to:=by
 rcases h with⟨a,c⟩|⟨_,a,_⟩
 .exact⟨a▸b,c⟩
 .rw[b] at a;cases a
def aV.le.from_{x y:aV w s ty S pre}(h:aV.le x y)(b:x.done=true):y.done=true/\Below x.to.heap.size x.to y.to:=by
 rcases h with⟨a,c⟩|⟨a,_⟩
 .exact⟨a.trans b,c⟩
 .rw[b] at a;cases a
def aem(h:w.cell? p=some v)(b:¬S p.block):∀x:aV w s ty S pre,x.to.cell? p=some v:=λx=>by
 have a:=sT w p h;unfold World.cell? at h ⊢;rw[x.ok.block p.block a λh=>b h.2];exact h
def aV.till(x:aV w s ty S pre)(a:x.done=false):Below w.heap.size w x.to:=⟨x.ok.os,x.ok.tape,x.ok.output,x.ok.size,λb c=>x.ok.block b c λh=>by rw[a] at h;cases h.1⟩
def aV.all(x:aV w s ty S pre)(c:∀b,¬S b):Below w.heap.size w x.to:=⟨x.ok.os,x.ok.tape,x.ok.output,x.ok.size,λb a=>x.ok.block b a λh=>c b h.2⟩
def aV.on(x:aV w s ty S pre){w2:World}(hb:Below x.to.heap.size x.to w2):aV w s ty S pre:=⟨w2,x.done,x.ok.trans (bJ.bh (S:=λb=>x.done=true/\S b) hb) λ_ _ e=>e⟩
def aV.did(x:aV w s ty S pre){w2:World}(hc:bJ (λb=>S b\/(w.heap.size<=b/\∃a:Array Value,bW x.to b ty a)) x.to w2):aV w s ty S pre:=
 ⟨w2,true,(x.ok.mono (T:=λb=>true=true/\S b) λ_ _ h=>⟨rfl,h.2⟩).trans hc λb c h=>by
  rcases h with h|h
  .exact⟨rfl,h⟩
  .omega⟩
def aen     (s:Nat) (ty:TypeId) (S:Nat->Prop) (pre:List Nat) (n:Nat) (a b:List Nat) (f:P.follows .mixedOrders=true) (i:ahy O n a b=true) (c:ady O.toArray n Y.tmps.size=true)
  (h:wpQuiet P O.toArray (λd=>∃x:aV w s ty S pre,d=x.to) (λg=>∃e:List (ij (aV w s ty S pre)),bE P O.toArray (aV.to (w:=w)) (aV.le (w:=w)) (wpList P O.toArray Q (O.drop n)) (pick O b) [] e g) ((pick O a).map (·.2)) Y):(Code.region Z O.toArray true).wp P Q Y w:=
 mZ (aV.to (w:=w)) (aV.le (w:=w)) aV.le_refl n a b f i c ⟨w.drew,false,(bJ.refl _ _).drew⟩ (λ_ _=>trivial) (λ_ _ _=>rfl) rfl h
variable {P:Program} {ops:Array Oper} {Qt:Act->World->Prop} {i:Nat} {o:Oper} {L:List (Nat×Oper)} {F:List (Nat×(aV w s ty S pre->Prop))} {Rs:List (ij (aV w s ty S pre))} {a:Act}
def akM (R:Value->aV w s ty S pre->Prop) (e:o.dst.isSome=true) (j:∀v x y,R v x->aV.le x y->R v y)
  (p:∀x:aV w s ty S pre,my F o x->(i∈pre->x.done=false)->∀c:Exit->Act->World->Prop,(∀v d (b:Below x.to.heap.size x.to d),R v (x.on b)->c .normal (a.put o.dst v) d)->wpList P ops c [o] a x.to)
  (g:∀v,bE P ops (aV.to (w:=w)) (aV.le (w:=w)) Qt L ((i,λx=>R v x)::F) Rs (a.put o.dst v)):bE P ops (aV.to (w:=w)) (aV.le (w:=w)) Qt ((i,o)::L) F (.any R::Rs) a:=
 gW (to:=aV.to (w:=w)) (le:=aV.le (w:=w)) R (.inl e) j (λx m _ _ f c k=>p x m (λl=>f (.inr l)) c λv d b n=>
  k v (x.on b) (.inl ⟨rfl,b⟩) trivial (λ_ _ _ h=>h) n) g
def aeo (c:Value)
  (j:∀x:aV w s ty S pre,my F o x->(i∈pre->x.done=false)->∀b:Exit->Act->World->Prop,(∀d,Below x.to.heap.size x.to d->b .normal (a.put o.dst c) d)->wpList P ops b [o] a x.to)
  (g:bE P ops (aV.to (w:=w)) (aV.le (w:=w)) Qt L F Rs (a.put o.dst c)):bE P ops (aV.to (w:=w)) (aV.le (w:=w)) Qt ((i,o)::L) F (.fix c::Rs) a:=
 ant (to:=aV.to (w:=w)) (le:=aV.le (w:=w)) c (λx m _ _ f b k=>j x m (λl=>f (.inr l)) b λd e=>k (x.on e) (.inl ⟨rfl,e⟩) trivial λ_ _ _ h=>h) g
def aqz (R:Value->aV w s ty S pre->Prop) (m:o.dst.isSome=true) (hi':i=s) (f:∀j∈pre,Behind ops i j) (q:∀v x y,R v x->aV.le x y->R v y)
  (A:∀x:aV w s ty S pre,my F o x->x.done=false->∀c:Exit->Act->World->Prop,(∀v k (d:bJ (λb=>S b\/(w.heap.size<=b/\∃z:Array Value,bW x.to b ty z)) x.to k),R v (x.did d)->c .normal (a.put o.dst v) k)->wpList P ops c [o] a x.to)
  (n:∀v,bE P ops (aV.to (w:=w)) (aV.le (w:=w)) Qt L ((i,λx=>R v x)::F) Rs (a.put o.dst v)):bE P ops (aV.to (w:=w)) (aV.le (w:=w)) Qt ((i,o)::L) F (.any R::Rs) a:=
 gW (to:=aV.to (w:=w)) (le:=aV.le (w:=w)) R (.inl m) q (λx t _ _ l c r=>A x t (l (.inl hi')) c λv k d p=>
  r v (x.did d) (.inr ⟨l (.inl hi'),rfl,d⟩) trivial (λj u g _ e=>e.elim (λe=>absurd (e.trans hi'.symm) u) λe=>absurd (f j e) g) p) n
def aqA(h:∀x:aV w s ty S pre,iZ F x->Qt a x.to):bE P ops (aV.to (w:=w)) (aV.le (w:=w)) Qt [] F [] a:=adQ h
def ax2{F:Flat X}{base:Nat}{xs:List X}(c:aD F e x base v xs)(a:v.ownBlock=some b):base<=b/\∃f:Array Value,bW x b e f:=by
 refine⟨(c.at_ a).1, ?_⟩;rcases c.2 with⟨rfl,_⟩|⟨i,cap,d,rfl,_,g,_⟩
 .cases a
 .cases a;exact⟨_,g⟩
end
end
section
variable {β:Bool}
open Go.RowKit
structure anv (w:World) (ak2:List Nat) (fl:Nat->Bool) (ty:TypeId) (S:Nat->Prop) where
 to:World
 st:Nat
 ok:bJ (λb=>0<st/\S b) w to
 lim:st<=ak2.length
section
variable {w:World} {ak2:List Nat} {fl:Nat->Bool} {ty:TypeId} {S:Nat->Prop}
instance atH:Nonempty (anv w ak2 fl ty S):=⟨⟨w,0,bJ.refl _ _,fa _⟩⟩
instance awO:aW (anv w ak2 fl ty S):=⟨λ_ _=>True,λ_ _ _=>trivial,λi x=>∀k,ak2[k]?=some i->x.st<=k⟩
variable {P:Program} {ops:Array Oper} {Qt:Act->World->Prop} {i:Nat} {o:Oper} {L:List (Nat×Oper)} {F:List (Nat×(anv w ak2 fl ty S->Prop))} {Rs:List (ij (anv w ak2 fl ty S))} {a:Act}
end
end
section
variable {β:Bool}
open Go.RowKit
def FSp:Flat Sp:=⟨2,λs=>[.int .i64 s.n,.int .i64 s.p],λx=>cA x.n/\cA x.p,λ_=>rfl,λx u a=>by simp at a;rcases a with rfl|rfl<;>rfl,by decide⟩
def pD:ig (ah β) 119 174 2 16:=ig.mk' xD (z:=.agg #[.int .i64 0,.int .i64 0]) (by kernel_rfl) rfl (by decide) (by decide)
end
section
variable {β:Bool}
open Go.RowKit
def ark(F:FuncId):Prop:=∀(args:Array Value) (w:World),(callFunc F args).run (ah β) w=.ok (.enter F args) w
def auu{fn:Func}{c:Code}(b:(ah β).funcs[f]?=some fn)(a:(fn.name == "runtime.NumGoroutine")=false)(e:fn.body=some c):ark (β:=β) f:=by
 intro args w;have d:fn.name ≠ "runtime.NumGoroutine" :=by simpa using a
 simp[callFunc,b,d,e]
end
section
variable {β:Bool}
open Go.RowKit
abbrev RSp:gF Sp:=cg FSp
def RSp.loc:Lcy RSp:=cg.loc FSp
def awP{xs:List Sp}(h:cR RSp 2 w lo hi xs [.slice A n c]){x:Sp}(g:xs[k]?=some x) :
  ∃b a,A=some ⟨b,a,none⟩/\lo<=b/\b<hi/\(cA x.n/\cA x.p)/\w.cell? ⟨b,a+k*2,none⟩=some (.int .i64 x.n)/\w.cell? ⟨b,a+k*2+1,none⟩=some (.int .i64 x.p):=by
 obtain⟨b,a,l,rfl,i,f,j,⟨rfl,d⟩,e⟩:=h.at_ g;exact⟨b,a,rfl,i,f,d,by simpa using e 0 _ rfl,e 1 _ rfl⟩
def arl:ixP []:=⟨λx h=>(by cases h),List.Pairwise.nil⟩
def ahE(n lo hi:Int)(w:World)(b:Bool)(c:b=true↔lo<=n/\n<=hi) :
  Calls (ah β) 24 #[.int .i64 n,.int .i64 lo,.int .i64 hi] w λe a=>e=.returned (.bool b)/\w=a:=
 (abw n lo hi w).mono λe a ⟨h,hw⟩=>⟨by
  rw[h];have:(decide (lo<=n)&&decide (n<=hi))=b:=by rw[qh,c];simp
  rw[this],hw⟩
def ak3(s:Sp)(w:World)(b:Bool)(c:b=true↔spP s) :
  Calls (ah β) 123 #[.agg #[.int .i64 s.n,.int .i64 s.p]] w λe g=>e=.returned (.bool b)/\Below w.heap.size w g:=by
 replace c:=ab c;have f:=aB w (.cells #[.int .i64 s.n,.int .i64 s.p] 174);go_enter yg,ntmps123;by_cases a:0<=s.n/\s.n<=999999999988
 .go_wp2;refine(ahE s.n _ _ _ true (by simp only[sQ];exact a)).mono ?_;rintro e d ⟨rfl,rfl⟩;replace a:=ab a;go_wp2;refine(ahE s.p _ _ _ b (by rw[c.out];exact⟨λh=>h.2,λh=>⟨a.out,h⟩⟩)).mono ?_;rintro e d ⟨rfl,rfl⟩;go_wp2;go_ret;exact⟨rfl,f⟩
 .go_wp2;refine(ahE s.n _ _ _ false (by simp only[jn,ut];exact a)).mono ?_;rintro e d ⟨rfl,rfl⟩;replace a:=ab a;go_wp2;go_ret;exact⟨aA (by rw[eq_comm,<-lc,c.out];exact λh=>a.out h.1),f⟩
end
section
variable {β:Bool}
open Go.RowKit
def nI(s:Sp)(xs:List Sp)(put:Bool)(o:List Sp):Prop:=
 (put=false/\(∀x∈xs,x.n<s.n)/\o=xs)\/(put=true/\(∃x∈xs,s.n<=x.n)/\o=fG s xs)
def aoW(s:Sp):nI s [] false []:=.inl ⟨rfl,λx a=>(by cases a),rfl⟩
def aoX{s x:Sp}{xs o:List Sp}(h:nI s xs false o)(a:s.n<x.n):nI s (xs++[x]) true (o++[s]++[x]):=by
 rcases h with⟨_,h,rfl⟩|⟨h,_⟩
 .refine .inr ⟨rfl,⟨x,by simp,by omega⟩, ?_⟩;rw[abE h];show _=o++(if s.n<x.n then s::x::[] else _);rw[dj a];simp
 .cases h
def ak4{s x:Sp}{xs o:List Sp}(h:nI s xs false o)(a:x.n=s.n):nI s (xs++[x]) true (o++[s]):=by
 rcases h with⟨_,h,rfl⟩|⟨h,_⟩
 .refine .inr ⟨rfl,⟨x,by simp,by omega⟩, ?_⟩;rw[abE h];show _=o++(if s.n<x.n then s::x::[] else if x.n<s.n then x::fG s [] else s::[]);rw[bd (by omega),bd (by omega)]
 .cases h
def ak5{s x:Sp}{xs o:List Sp}(h:nI s xs false o)(b:x.n<s.n):nI s (xs++[x]) false (o++[x]):=by
 rcases h with⟨_,h,rfl⟩|⟨h,_⟩
 .refine .inl ⟨rfl,λy a=> ?_,rfl⟩;rcases jt.1 a with a|a
  .exact h y a
  .rw[gE.1 a];exact b
 .cases h
def ak6{s x:Sp}{xs o:List Sp}(h:nI s xs true o)(b:adz (xs++[x])):s.n<x.n/\nI s (xs++[x]) true (o++[x]):=by
 rcases h with⟨h,_⟩|⟨_,⟨y,a,c⟩,rfl⟩
 .cases h
 .have:=(rM.1 b).2.2 y a x (by simp);refine⟨by omega,.inr ⟨rfl,⟨y,by simp[a],c⟩, ?_⟩⟩;rw[show xs++[x]=xs++x::[] from rfl,agj (by omega)]
def aoY{s:Sp}{xs o:List Sp}{a:Bool}(h:nI s xs a o):(a=false/\fG s xs=o++[s])\/(a=true/\fG s xs=o):=by
 rcases h with⟨h,b,rfl⟩|⟨h,_,rfl⟩
 .exact .inl ⟨h,aoV b⟩
 .exact .inr ⟨h,rfl⟩
def jf{s:Sp}{xs o:List Sp}{a:Bool}(h:nI s xs a o):o.length<=xs.length+1:=by
 rcases h with⟨_,_,rfl⟩|⟨_,_,rfl⟩
 .omega
 .exact aeJ
def arn{xs:List Sp}(h:adz xs)(k:Nat):adz (xs.take k):=List.Pairwise.sublist (List.take_sublist k xs) h
def awQ(w:World)(ys:List Sp)(e:Ending)(w':World):Prop:=∃v,e=.returned v/\aD FSp 174 w' w.heap.size v ys/\Below w.heap.size w w'
def iN(h:w.cell? p=some v)(c:bJ S w w')(b:¬S p.block):w'.cell? p=some v:=by
 have a:=sT w p h;unfold World.cell? at h ⊢;rw[c.block p.block a b];exact h
def aoZ(s:Sp)(aa:cA s.n/\cA s.p)(xs:List Sp)(v:Value)(w:World)(lo hi:Nat)(bG:hi<=w.heap.size)(h:cR RSp 2 w lo hi xs [v])(U:adz xs)(hl:xs.length<=1000000000) :
  Calls (ah β) 124 #[v,.agg #[.int .i64 s.n,.int .i64 s.p]] w (awQ w (fG s xs)):=by
 obtain⟨A,c,rfl⟩:=h.form;obtain⟨_,hc,S⟩:=h.len_;unfold maxLen at S;go_enter yf,ntmps124;go_wp2;generalize hG:(w.alloc (.cells #[.int .i64 s.n,.int .i64 s.p] 174)).alloc (.cells #[] 174)=w0 at *;obtain⟨R,jU,N,dV,gz,k1,a5,a6⟩:=ahB hG;clear hG;have G:w.heap.size+1<=w0.heap.size:=by omega
 have g0:=ahA RSp.loc h R bG;have o0:aD FSp 174 w0 (w.heap.size+1) (.slice (some ⟨w.heap.size+1,0,none⟩) 0 0) []:=aD.aaM ⟨_,rfl,am _,k1⟩;have Y:∀k,k<xs.length->∃x,xs[k]?=some x/\(k=0\/True):=λk hk=>by
  obtain⟨x,S⟩:=aq hk;exact⟨x,S,.inr trivial⟩
 clear Y;go_loopw [5,6,7] (λoo pp ii wr=>∃(k:Nat) (b:Bool) (o:List Sp),k<=xs.length/\pp=.bool b/\ii=.int .i64 k/\aD FSp 174 wr (w.heap.size+1) oo o/\nI s (xs.take k) b o/\bJ (λb=>w.heap.size+1<=b) w0 wr) (λoo pp ii _=>xs.length-(intOf ii).toNat)
 case atStart=>exact⟨0,false,[],fa _,rfl,rfl,o0,aoW s,bJ.refl _ _⟩
 case round=>
  obtain⟨k,b,o,hk,rfl,rfl,y,f,e⟩:=hrel;replace f:=ab f;obtain⟨p,q,rfl⟩:=y.form;have pE:=jf f.out;rw[fi] at pE;by_cases W:k<xs.length
  .obtain⟨x,u⟩:=aq W;obtain⟨b1,a7,rfl,a9,a8,a4,D,C⟩:=awP g0 u;have E:adz (xs.take k++[x]):=by rw[<-mu u];exact arn U _
   replace u:=ab u;replace E:=ab E;have dV:=(bQ N e (by omega)).cell;have X:=iN D e (by dsimp only;omega);have a2:=iN C e (by dsimp only;omega);cases b with
   |false=>
    rcases Int.lt_trichotomy x.n s.n with m|m|m
    .have z:=ab (ak5 f.out m);have t1:=bv (show ¬(s.n<=x.n) by omega);have V:(x.n !=s.n)=true:=by rw[uy];omega
     clear m;go_wp2
     go_quiet (fail)
     revert nq;intro d;go_wp2
     go_quiet (fail)
     have l:aD FSp 174 (wr.drewN (d+nq)) (w.heap.size+1) (.slice p o.length q) o:=y;go_wp2_with(at_builtin;refine bR (F:=FSp) (v:=.slice p o.length q) rfl (.tmp 39) (.tmp 44) 119 rfl pD x rfl l rfl rfl (by have:=jf f.out;rw[fi] at this;first|omega|(simp;omega)) (da G ((e.drewN (d+nq))).size) ?_;intro M K g r n;obtain⟨H,I,rfl⟩:=g.form;simp only[ap,fm,me,ls] at g;have a:=((e.drewN (d+nq))).trans (r.mono (T:=λb=>w.heap.size+1<=b) λb _ j=>((l).at_ j).1) λ_ _ h=>h;skip);go_roundw
     case rel=>exact⟨k+1,false,o++[x],by omega,rfl,by go_num,g,by rw[mu u.out];exact z.out,a⟩
     simp[intOf];omega
    .have z:=ab (ak4 f.out m);have t1:=de (show s.n<=x.n by omega);have V:(x.n !=s.n)=false:=by rw[bne_eq_false_iff_eq];exact m
     clear m;go_wp2
     go_quiet (fail)
     revert nq;intro d;have l:aD FSp 174 (wr.drewN d) (w.heap.size+1) (.slice p o.length q) o:=y;go_wp2_with(at_builtin;refine bR (F:=FSp) (v:=.slice p o.length q) rfl (.tmp 27) (.tmp 29) 119 rfl pD s rfl l rfl rfl (by have:=jf f.out;rw[fi] at this;first|omega|(simp;omega)) (da G ((e.drewN d)).size) ?_;intro M K g r n;obtain⟨H,I,rfl⟩:=g.form;simp only[ap,fm,me,ls] at g;have a:=((e.drewN d)).trans (r.mono (T:=λb=>w.heap.size+1<=b) λb _ j=>((l).at_ j).1) λ_ _ h=>h;have O:=(bQ N a (by omega)).cell;have Q:=iN D a (by dsimp only;omega);have Z:=iN C a (by dsimp only;omega))
     go_quiet (fail)
     go_wp2;go_roundw
     case rel=>exact⟨k+1,true,o++[s],by omega,rfl,by go_num,g,by rw[mu u.out];exact z.out,a.drewN nq⟩
     simp[intOf];omega
    .have z:=ab (aoX f.out m);have t1:=de (show s.n<=x.n by omega);have V:(x.n !=s.n)=true:=by rw[uy];omega
     clear m;go_wp2
     go_quiet (fail)
     revert nq;intro d;have l:aD FSp 174 (wr.drewN d) (w.heap.size+1) (.slice p o.length q) o:=y;go_wp2_with(at_builtin;refine bR (F:=FSp) (v:=.slice p o.length q) rfl (.tmp 27) (.tmp 29) 119 rfl pD s rfl l rfl rfl (by have:=jf f.out;rw[fi] at this;first|omega|(simp;omega)) (da G ((e.drewN d)).size) ?_;intro M K g r n;obtain⟨H,I,rfl⟩:=g.form;simp only[ap,fm,me,ls] at g;have a:=((e.drewN d)).trans (r.mono (T:=λb=>w.heap.size+1<=b) λb _ j=>((l).at_ j).1) λ_ _ h=>h;have O:=(bQ N a (by omega)).cell;have Q:=iN D a (by dsimp only;omega);have Z:=iN C a (by dsimp only;omega))
     go_quiet (fail)
     have L:aD FSp 174 (K.drewN nq) (w.heap.size+1) (.slice H (o.length+1) I) (o++[s]):=g;go_wp2_with(at_builtin;refine bR (F:=FSp) (v:=.slice H (o.length+1) I) rfl (.tmp 39) (.tmp 44) 119 rfl pD x rfl L rfl rfl (by have:=jf f.out;rw[fi] at this;first|omega|(simp;omega)) (da G ((a.drewN nq)).size) ?_;intro v4 w4 o4 P a3;obtain⟨A4,c4,rfl⟩:=o4.form;simp only[ap,fm,me,ls] at o4;have a0:=((a.drewN nq)).trans (P.mono (T:=λb=>w.heap.size+1<=b) λb _ j=>((L).at_ j).1) λ_ _ h=>h;skip);go_roundw
     case rel=>exact⟨k+1,true,o++[s]++[x],by omega,rfl,by go_num,o4,by rw[mu u.out];exact z.out,a0⟩
     simp[intOf];omega
   |true=>
    obtain⟨m,J⟩:=ak6 f.out E.out;have z:=ab J;clear J;have V:(x.n !=s.n)=true:=by rw[uy];omega
    clear m;go_wp2
    go_quiet (fail)
    revert nq;intro d;go_wp2
    go_quiet (fail)
    have l:aD FSp 174 (wr.drewN (d+nq)) (w.heap.size+1) (.slice p o.length q) o:=y;go_wp2_with(at_builtin;refine bR (F:=FSp) (v:=.slice p o.length q) rfl (.tmp 39) (.tmp 44) 119 rfl pD x rfl l rfl rfl (by have:=jf f.out;rw[fi] at this;first|omega|(simp;omega)) (da G ((e.drewN (d+nq))).size) ?_;intro M K g r n;obtain⟨H,I,rfl⟩:=g.form;simp only[ap,fm,me,ls] at g;have a:=((e.drewN (d+nq))).trans (r.mono (T:=λb=>w.heap.size+1<=b) λb _ j=>((l).at_ j).1) λ_ _ h=>h;skip);go_roundw
    case rel=>exact⟨k+1,true,o++[x],by omega,rfl,by go_num,g,by rw[mu u.out];exact z.out,a⟩
    simp[intOf];omega
  .obtain rfl:k=xs.length:=by omega
   have t:=aoY f.out;rw[gt] at t;have dV:=(bQ N e (by omega)).cell;have ow:∀{w9:World},bJ (λb=>w.heap.size+1<=b) w0 w9->Below w.heap.size w w9:=λa1=>R.trans (a1.below R.size λi hi h=>by omega);rcases t with⟨rfl,B⟩|⟨rfl,B⟩
   .replace B:=ab B;go_wp2_with(at_builtin;refine bR (F:=FSp) (v:=.slice p o.length q) rfl (.tmp 48) (.tmp 50) 119 rfl pD s rfl y rfl rfl (by have:=jf f.out;rw[fi] at this;first|omega|(simp;omega)) (da G (e).size) ?_;intro M K g r n;obtain⟨H,I,rfl⟩:=g.form;simp only[ap,fm,me,ls] at g;have a:=(e).trans (r.mono (T:=λb=>w.heap.size+1<=b) λb _ j=>((y).at_ j).1) λ_ _ h=>h;skip);go_ret;exact⟨_,rfl,by rw[B.out];exact g.base (by omega),ow a⟩
   .replace B:=ab B;go_wp2;go_ret;exact⟨_,rfl,by rw[B.out];exact y.base (by omega),ow e⟩
end
section
variable {β:Bool}
open Go.RowKit
structure It where
 n:Int
 b:ByteArray
structure Pk where
 no:Int
 its:List It
def nV:Flat It:=⟨2,λx=>[.int .i64 x.n,.string x.b],λx=>cA x.n/\x.b.size<=maxLen,λ_=>rfl,λx u a=>by simp at a;rcases a with rfl|rfl<;>rfl,by decide⟩
abbrev gK:gF (List It):=eZ 59 (cg nV) 2
def RPk:gF Pk:=λw a b x c=>∃v,c=[.int .i64 x.no,v]/\cA x.no/\gK w a b x.its [v]
abbrev fh:gF (List Pk):=eZ 62 RPk 2
def gK.aw:eE gK [59]:=eZ.aw (cg.aw nV)
def RPk.aw:eE RPk [59]:=⟨λh a b ⟨v,e,i,hr⟩=>⟨v,e,i,gK.aw.go h a b hr⟩⟩
def fh.aw:eE fh [62,59]:=eZ.aw RPk.aw
def pF:ig (ah β) 60 59 2 24:=ig.mk' yw (z:=.agg #[.int .i64 0,.string ⟨#[]⟩]) (by kernel_rfl) rfl (by decide) (by decide)
def adS:ig (ah β) 23 62 2 32:=ig.mk' yB (z:=.agg #[.int .i64 0,.slice none 0 0]) (by kernel_rfl) rfl (by decide) (by decide)
def af3{xs:List Pk}(h:fh w lo hi xs [.slice A n c]){x:Pk}(i:xs[k]?=some x) :
  ∃b a A' d,A=some ⟨b,a,none⟩/\lo<=b/\b<hi/\cA x.no/\w.cell? ⟨b,a+k*2,none⟩=some (.int .i64 x.no)/\w.cell? ⟨b,a+k*2+1,none⟩=some (.slice A' x.its.length d)/\gK w lo hi x.its [.slice A' x.its.length d]:=by
 obtain⟨b,a,m,rfl,j,g,l,⟨v,rfl,e,hi⟩,f⟩:=h.1.at_ i;obtain⟨A',d,rfl⟩:=hi.form;exact⟨b,a,A',d,rfl,j,g,e,by simpa using f 0 _ rfl,f 1 _ rfl,hi⟩
def aeK{xs:List It}(h:gK w lo hi xs [.slice A n c]){x:It}(g:xs[k]?=some x) :
  ∃b a,A=some ⟨b,a,none⟩/\lo<=b/\b<hi/\(cA x.n/\x.b.size<=maxLen)/\w.cell? ⟨b,a+k*2,none⟩=some (.int .i64 x.n)/\w.cell? ⟨b,a+k*2+1,none⟩=some (.string x.b):=by
 obtain⟨b,a,l,rfl,i,f,j,⟨rfl,d⟩,e⟩:=h.1.at_ g;exact⟨b,a,rfl,i,f,d,by simpa using e 0 _ rfl,e 1 _ rfl⟩
def eZ.len_{xs:List X}(h:eZ e E Z w lo hi xs [.slice A n c]):n=xs.length/\n<=c/\c<=maxLen:=h.1.len_
def oL(p:Pk):List Sp:=p.its.map λx=>⟨x.n,p.no⟩
def dh(l:List Pk):List Sp:=l.flatMap oL
def IOf(l:List Pk)(r:List Sp):Prop:=((∀s∈dh l,spP s)/\r=dY (dh l) [])\/((¬ ∀s∈dh l,spP s)/\r=[])
def ak8{l:List Pk}{x:Pk}(h:l[k]?=some x):dh (l.take (k+1))=dh (l.take k)++oL x:=by
 rw[mu h];unfold dh;rw[qT];simp
def cM(l:List Pk)(k j:Nat):List Sp:=dh (l.take k)++((l[k]?.map λp=>(oL p).take j).getD [])
def abG(l:List Pk)(k:Nat):cM l k 0=dh (l.take k):=by
 unfold cM;cases l[k]?<;>simp
def ahH{l:List Pk}{x:Pk}{y:It}(h:l[k]?=some x)(a:x.its[j]?=some y):cM l k (j+1)=cM l k j++[⟨y.n,x.no⟩]:=by
 unfold cM;rw[h];simp only[qf,ql];rw[ub]
 congr 1
 refine mu (k:=j) ?_;unfold oL;rw[qE,a];rfl
def ai2{l:List Pk}{x:Pk}(h:l[k]?=some x):cM l k x.its.length=dh (l.take (k+1)):=by
 rw[ak8 h];unfold cM;rw[h];simp only[qf,ql]
 congr 1
 unfold oL;exact qb (by rw[pe];exact am _)
def ai3{l:List Pk} :∀s∈cM l k j,s∈dh l:=λs a=>by
 unfold cM at a;rcases jt.1 a with h|h
 .obtain⟨p,c,a⟩:=qe.1 h;exact qe.2 ⟨p,pr c,a⟩
 .cases b:l[k]? with
  |none=>rw[b] at h;cases h
  |some x=>
   rw[b] at h;exact qe.2 ⟨x,be b,pr h⟩
def ai4{l:List Pk}{x:Pk}(h:l[k]?=some x):(cM l k j).length<=(dh l).length:=by
 have a:dh l=dh (l.take k)++dh (l.drop k):=by
  unfold dh;rw[<-qT,sA]
 rw[a];unfold cM;rw[h,ap,ap];have:l.drop k=x::l.drop (k+1):=by
  rw[rr (aH h)]
  congr 1
  exact(li.1 h).2
 rw[this];unfold dh;rw[List.flatMap_cons,ap];simp only[qf,ql,fi];omega
def IOf.ix{l:List Pk}{r:List Sp}(h:IOf l r):ixP r:=by
 rcases h with⟨h,rfl⟩|⟨_,rfl⟩
 .exact ai1 arl h
 .exact arl
end
section
variable {β:Bool}
open Go.RowKit
def gI(key:Int)(x:It):Prop:=∃p,cT (bs x.b)=some p/\bm key p=x.n
def afE{l p:List Nat}(h:cT l=some p):aQ p/\fj p=l:=by
 unfold cT at h;split at h
 .rename_i a;have e:=dl h;rw[e] at a;exact a
 .cases h
def pG(x:Int)(w:World)(b:Bool)(c:b=true↔1<=x/\x<=99):Calls (ah β) 13 #[.int .i64 x] w λe a=>e=.returned (.bool b)/\w=a:=by
 go_enter zH,ntmps13;go_wp2;refine(abw _ _ _ _).mono ?_;rintro e d ⟨rfl,rfl⟩;go_wp2;go_ret;exact⟨aA (by rw[qh,c];simp),rfl⟩
def ai5(key:Int)(y:1<=key/\key<=99)(x:It)(A:x.b.size<=maxLen)(w:World)(b:Bool)(i:b=true↔gI key x) :
  Calls (ah β) 129 #[.int .i64 key,.agg #[.int .i64 x.n,.string x.b]] w λe s=>e=.returned (.bool b)/\Below w.heap.size w s:=by
 replace i:=ab i;have B:x.b.size<=maxLen:=A;go_enter yb,ntmps129;go_wp2;generalize q:w.alloc (.cells #[.int .i64 x.n,.string x.b] 59)=w0 at *;obtain⟨o,G,E,r,D⟩:=iB q;clear q;refine(ac3 x.b B w0).mono ?_;rintro e C ⟨⟨t,F,rfl,c⟩,rfl⟩;rcases c with⟨rfl,c⟩|⟨rfl,c,_⟩
 .have f:=(afE c).1;have a:b=(bm key (bs t) ==x.n):=by
   rw[qh,i.out,mp];unfold gI;rw[c];constructor
   .rintro⟨p,j,u⟩;cases j;exact u
   .intro h;exact⟨_,rfl,h⟩
  have z:=ab f;have d:=ab a;have m:=ab (λw=>mV (β:=β) key t y f w);clear f a c;generalize bm key (bs t)=nm at *;go_wp2;have k:w0.cell? ⟨w.heap.size,0,none⟩=some (.int .i64 x.n):=r 0;have n:=aj k;refine aG (by kernel_rfl) (by kernel_rfl) ?_;repeat(go_big_quiet_step (first|(go_at_call 121;refine dv (m.out _))))
  refine iS ?_;intro v g;have l:=aN g;clear g n;go_wp2;go_ret;exact⟨aA d.out.symm,ae o l⟩
 .have a:b=false:=by
   rw[<-lc,i.out];rintro⟨p,j,_⟩;rw[c] at j;cases j
  have d:=ab a;clear a c;go_wp2;have k:w0.cell? ⟨w.heap.size,0,none⟩=some (.int .i64 x.n):=r 0;have n:=aj k;refine aG (by kernel_rfl) (by kernel_rfl) ?_;repeat(go_big_quiet_step (fail))
  refine iS ?_;intro v g;have l:=aN g;clear g n;go_wp2;go_ret;exact⟨aA d.out.symm,ae o l⟩
def am8(key:Int)(p:Pk):Prop:=(1<=p.no/\p.no<=99)/\(1<=key/\key<=99)/\(1<=p.its.length/\p.its.length<=4)/\(∀x∈p.its,gI key x)/\p.its.Pairwise λa b=>a.n<b.n
def ahI(key:Int)(l:List It):Prop:=(∀x∈l,gI key x)/\l.Pairwise λa b=>a.n<b.n
def acB{xs:List It}{x:It}:ahI key (xs++[x])↔ahI key xs/\gI key x/\∀y∈xs,y.n<x.n:=by
 unfold ahI;rw[rM];constructor
 .intro⟨d,e,_,f⟩;exact⟨⟨λy c=>d y (by simp[c]),e⟩,d x (by simp),λy c=>f y c x (by simp)⟩
 .intro⟨⟨d,e⟩,f,i⟩;refine⟨λy c=> ?_,e,rF _ _,λa g b j=> ?_⟩
  .rcases jt.1 c with c|c
   .exact d y c
   .rw[gE.1 c];exact f
  .rw[gE.1 j];exact i a g
def aro{xs:List It}{x:It}(b:xs[0]?=some x)(h:gI key x):ahI key (xs.take 1):=by
 rw[mu b];exact acB.2 ⟨⟨λy a=>(by cases a),List.Pairwise.nil⟩,h,λy a=>(by cases a)⟩
def auw{xs:List It}{x y:It}(c:ahI key (xs.take (j+1)))(d:xs[j]?=some y)(e:xs[j+1]?=some x)(h:gI key x)(b:y.n<x.n):ahI key (xs.take (j+1+1)):=by
 rw[mu e];refine acB.2 ⟨c,h,λz a=> ?_⟩;rw[mu d] at a c;rcases jt.1 a with a|a
 .have:=(acB.1 c).2.2 z a;omega
 .rw[gE.1 a];exact b
def auy{xs:List It}{x y:It}(a:xs[j]?=some y)(c:xs[j+1]?=some x)(h:¬y.n<x.n):¬ahI key xs:=λd=>by
 have b:=qg.1 d.2 j (j+1) (aH a) (aH c) (by omega);rw[(li.1 a).2,(li.1 c).2] at b;exact h b
def arp(key:Int):ahI key []:=⟨λx h=>(by cases h),List.Pairwise.nil⟩
def jv(p:Prop):∃b:Bool,b=true↔p:=by
 by_cases h:p
 .exact⟨true,by simp[h]⟩
 .exact⟨false,by simp[h]⟩
end
section
variable {β:Bool}
open Go.RowKit
def Rd(w:World)(lo hi g:Nat)(l:List Int)(p:Nat):Prop:=
 ∃A c,bW w g 57 #[.slice A l.length c,.int .i64 p]/\l.length<=2000/\cR jC 1 w lo hi l [.slice A l.length c]/\hi<=g
def ax5(n v:Int):Prop:=(n<1->v=0)/\(1<=n->0<=v/\v<n)
def arq(w:World)(lo hi g:Nat)(l:List Int)(p:Nat)(n:Int)(e:Ending)(w':World):Prop:=
 ∃v:Int,e=.returned (.int .i64 v)/\ax5 n v/\Rd w' lo hi g l (p+1)/\bJ (λb=>b=g) w w'
def Rd.eY{p:Nat}(h:Rd w lo hi g l p)(f:bJ S w w')(e:∀b,b<hi\/b=g->¬S b):Rd w' lo hi g l p:=by
 obtain⟨A,c,d,i,k,m⟩:=h;have a:=d.lt;exact⟨A,c,(f.block g a (e g (.inr rfl))).trans d,i,(cR.loc jC.loc).go (λb _ j=>f.block b (by omega) (e b (.inl j))) (am _) (am _) k,m⟩
def Rd.lt{p:Nat}(h:Rd w lo hi g l p):g<w.heap.size:=by
 obtain⟨A,c,a,_⟩:=h;exact a.lt
def Rd.drew{p:Nat}(h:Rd w lo hi g l p):Rd w.drew lo hi g l p:=h.eY ((bJ.refl (λ_=>False) _).drew) (λ_ _ h=>h)
def Rd.alloc{p:Nat}(h:Rd w lo hi g l p)(o:Obj):Rd (w.alloc o) lo hi g l p:=h.eY ((bJ.refl (λ_=>False) _).alloc o) (λ_ _ h=>h)
def auz{p:Nat}(h:Rd w lo hi g l p)(n:Int)(j:n=(p:Int)+1):Rd (w.setCell ⟨g,1,none⟩ (.int .i64 n)) lo hi g l (p+1):=by
 obtain⟨A,c,f,a,d,e⟩:=h;refine⟨A,c, ?_,a, ?_,e⟩
 .have:=f.bZ 1 (.int .i64 n);rw[j] at this ⊢;exact this
 .refine(cR.loc jC.loc).go (λb _ i=> ?_) (am _) (am _) d;exact qs _ _ _ _ (by show b≠g;omega)
def agm(a:Nat)(b:a<9223372036854775808):(BitVec.ofInt 64 (a:Int)).toNat=a:=by
 rw[BitVec.ofInt_natCast,BitVec.toNat_ofNat];exact Nat.mod_eq_of_lt (by omega)
def ak9(a b:Int)(d:0<=a)(f:a<9223372036854775808)(e:0<=b)(c:b<9223372036854775808):0<=bits .xor .i64 a b:=by
 obtain⟨a,rfl⟩:=qi d;obtain⟨b,rfl⟩:=qi e;have g:a ^^^ b<2 ^ 63:=Nat.xor_lt_two_pow (by omega) (by omega);show 0<=IntKind.i64.wrap ((BitVec.ofInt 64 (a:Int) ^^^ BitVec.ofInt 64 (b:Int)).toNat:Int);rw[BitVec.toNat_xor,agm a (by omega),agm b (by omega),rY];omega
def cF(w:World)(lo hi g:Nat)(l:List Int)(p:Nat)(n:Int)(h:Rd w lo hi g l p)(R:p<=1099511627776) :
  Calls (ah β) 12 #[.pointer (some ⟨g,0,none⟩),.int .i64 n] w (arq w lo hi g l p n):=by
 have a:=λn B=>auz h n B;obtain⟨A,c,o,S,s,M⟩:=h;have H:=o.cell 0;have G:=o.cell 1;have N:=o.frozen 1;simp at H G;by_cases B:n<1
 .go_enter wG,ntmps12;go_wp2;go_ret;exact⟨0,rfl,⟨λ_=>rfl,λh=>absurd h (by omega)⟩,a _ rfl,(bJ.refl (λb=>b=g) _).setCell (p:=⟨g,1,none⟩) (.inl rfl) _⟩
 by_cases e:l.length=0
 .have i:((l.length:Int) ==0)=true:=by rw[mp];omega
  replace e:=ab e;go_enter wG,ntmps12;go_wp2;go_ret;exact⟨0,rfl,⟨λ_=>rfl,λh=>⟨by omega,by omega⟩⟩,a _ rfl,(bJ.refl (λb=>b=g) _).setCell (p:=⟨g,1,none⟩) (.inl rfl) _⟩
 by_cases E:p<l.length
 .obtain⟨x,d⟩:=aq E;obtain⟨b,r,rfl,u,t,j,q⟩:=s.aev d;have U:=ab d;clear d;have m:b≠g:=by omega
  have i:((l.length:Int) ==0)=false:=by rw[dq];omega
  go_enter wG,ntmps12;go_wp2;go_ret;exact⟨x % n,rfl,⟨λh=>absurd h (by omega),λh=>⟨vz _ (by omega),uN _ (by omega)⟩⟩,a _ rfl,(bJ.refl (λb=>b=g) _).setCell (p:=⟨g,1,none⟩) (.inl rfl) _⟩
 .have i:((l.length:Int) ==0)=false:=by rw[dq];omega
  obtain⟨x,d⟩:=aq (l:=l) (k:=p % l.length) (uC _ (by omega));obtain⟨y,z⟩:=aq (l:=l) (k:=(p*7+3) % l.length) (uC _ (by omega));obtain⟨b,r,rfl,u,t,j,C⟩:=s.aev d;obtain⟨L,v,f,_,_,D,F⟩:=s.aev z;simp only[lw,qo,qk] at f;obtain⟨rfl,rfl⟩:=f;clear d z;have m:b≠g:=by omega
  have T:p % l.length<l.length:=uC _ (by omega);have K:(p*7+3) % l.length<l.length:=uC _ (by omega);have O:0<=((p:Int)*7+3) % (l.length:Int):=vz _ (by omega);have V:((p:Int)*7+3) % (l.length:Int)<(l.length:Int):=uN _ (by omega);have Q:(((p:Int)*7+3) % (l.length:Int)).toNat=(p*7+3) % l.length:=by
   have:((p:Int)*7+3) % (l.length:Int)=(((p*7+3) % l.length:Nat):Int):=rfl;rw[this];rfl
  have P:0<=(p:Int) / (l.length:Int):=Int.ediv_nonneg (by omega) (by omega);have J:(p:Int) / (l.length:Int)<=p:=Int.ediv_le_self _ (by omega);go_enter wG,ntmps12;go_wp2;have I:=ak9 (x*131+y*1117+(p:Int)*29+(p:Int) / (l.length:Int)*53) ((x*131+y*1117+(p:Int)*29+(p:Int) / (l.length:Int)*53) / 64) (by omega) (by omega) (by omega) (by omega)
  go_quiet (fail)
  go_wp2;go_ret;exact⟨_,rfl,⟨λh=>absurd h (by omega),λh=>⟨vz _ (by omega),uN _ (by omega)⟩⟩,
   (a _ rfl).eY ((bJ.refl (λ_=>False) _).drewN nq) (λ_ _ h=>h),((bJ.refl (λb=>b=g) _).setCell (p:=⟨g,1,none⟩) (.inl rfl) _).drewN nq⟩
def ars(w:World)(lo hi:Nat)(l:List Int)(e:Ending)(w':World):Prop:=
 ∃g,e=.returned (.pointer (some ⟨g,0,none⟩))/\Rd w' lo hi g (l.take 2000) 0/\w.heap.size<=g/\Below w.heap.size w w'
def cR.cut{xs:List X}(h:cR E Z w lo hi xs [.slice A n c])(q:m<=n):cR E Z w lo hi (xs.take m) [.slice A m c]:=by
 obtain⟨A',p,a,r,k,g⟩:=h;simp only[pZ,pv,qk] at a;obtain⟨rfl,rfl,rfl⟩:=a;have f:(xs.take m).length=m:=by rw[fi];omega
 refine⟨A,c,by rw[f],by omega,k,λo=> ?_⟩;obtain⟨b,d,rfl,l,j,e⟩:=g (by omega);refine⟨b,d,rfl,l,j,λi x hi=>e i x ?_⟩;have:=aH hi;rw[sS (by omega)] at hi;exact hi
def art(l:List Int)(A:Option Addr)(n c:Nat)(w:World)(lo hi:Nat)(h:cR jC 1 w lo hi l [.slice A n c])(d:hi<=w.heap.size) :
  Calls (ah β) 9 #[.slice A n c] w (ars w lo hi l):=by
 obtain⟨rfl,i,f⟩:=h.len_;unfold maxLen at f;by_cases g:2000<l.length
 .have b:=h.cut (m:=2000) (by omega);have a:(l.take 2000).length=2000:=by rw[fi];omega
  go_enter qF9,ntmps9;go_wp2;go_ret;refine⟨_,rfl,⟨A,c, ?_,by omega, ?_,d⟩,am _,(ff _ _).alloc (am _) _⟩
  .rw[a];exact bW.new _ _ _
  .rw[a];exact Lcy.below (cR.loc jC.loc) b ((ff _ _).alloc (am _) _) d
 .have a:l.take 2000=l:=qb (by omega);have e:=ab a;clear a;go_enter qF9,ntmps9;go_wp2;go_ret;refine⟨_,rfl,⟨A,c, ?_,by rw[e.out];omega, ?_,d⟩,am _,(ff _ _).alloc (am _) _⟩
  .rw[e.out];exact bW.new _ _ _
  .rw[e.out];exact Lcy.below (cR.loc jC.loc) h ((ff _ _).alloc (am _) _) d
end
section
variable {β:Bool}
open Go.RowKit
structure aru (w:World) (lo hi g:Nat) (l:List Int) (N:Nat) where
 to:World
 q:Nat
 rd:Rd to lo hi g l q
 ok:bJ (λb=>b=g) w to
 lim:q<=N
section
variable {w:World} {lo hi g:Nat} {l:List Int} {N:Nat}
instance awS:aW (aru w lo hi g l N):=⟨λm x=>x.q+m<=N,λ_ _ h=>rQ h,λ_ _=>True⟩
variable {P:Program}
variable {ops:Array Oper} {Qt:Act->World->Prop} {i:Nat} {o:Oper} {L:List (Nat×Oper)} {F:List (Nat×(aru w lo hi g l N->Prop))} {Rs:List (ij (aru w lo hi g l N))} {a:Act}
end
end
section
variable {β:Bool}
open Go.RowKit
def Rd.hi_{p:Nat}(h:Rd w lo hi g l p):hi<=g:=by
 obtain⟨A,c,_,_,_,a⟩:=h;exact a
structure aI (w:World) (lo hi g:Nat) (l:List Int) (N s ia ic bk:Nat) (fx:Bool) (ty:TypeId) (n:Nat) (S:Nat->Prop) (pre:List Nat) where
 to:World
 q:Nat
 box:Option Nat
 done:Bool
 res:Option Value
 rd:Rd to lo hi g l q
 ok:bJ (λb=>b=g\/box=some b\/(done=true/\S b)) w to
 lim:q<=N
 bw:∀b,box=some b->b=bk\/w.heap.size<=b
 bf:fx=true->box=some bk
 sf:∀b,S b->b≠g/\hi<=b/\b≠bk/\b<w.heap.size
 bx:∀b,box=some b->b≠g/\hi<=b/\∃cs:Array Value,cs.size=n/\bW to b ty cs
section
variable {w:World} {lo hi g:Nat} {l:List Int} {N s ia ic bk:Nat} {fx:Bool} {ty:TypeId} {n:Nat} {S:Nat->Prop} {pre:List Nat}
instance awT:aW (aI w lo hi g l N s ia ic bk fx ty n S pre):=⟨λm x=>x.q+m<=N,λ_ _ h=>rQ h,λi x=>(i=s\/i∈pre->x.done=false)/\(i=ia->x.box=none)/\(i=ic->x.res=none)⟩
structure aI.le (x y:aI w lo hi g l N s ia ic bk fx ty n S pre):Prop where
 eY:bJ (λb=>b=g\/(x.done=false/\(x.box=some b\/S b))) x.to y.to
 done:x.done=true->y.done=true
 box:∀b,x.box=some b->y.box=some b
 fresh:∀b,x.box=none->y.box=some b->x.to.heap.size<=b
 res:∀v,x.res=some v->y.res=some v
def aI.le_refl(x:aI w lo hi g l N s ia ic bk fx ty n S pre):aI.le x x:=⟨bJ.refl _ _,id,λ_ h=>h,λb c a=>(by rw[c] at a;cases a),λ_ h=>h⟩
def aI.free(x:aI w lo hi g l N s ia ic bk fx ty n S pre)(b:Nat):Prop:=b<x.to.heap.size/\b≠g/\x.box≠some b/\¬S b
def aI.le.free{x y:aI w lo hi g l N s ia ic bk fx ty n S pre}(h:aI.le x y)(a:x.free b):y.free b:=by
 refine⟨aE a.1 h.eY.size,a.2.1,λe=> ?_,a.2.2.2⟩;cases d:x.box with
 |none=>have:=h.fresh b d e;have:=a.1;omega
 |some c=>
  have:=h.box c d;rw[e] at this;cases this;exact a.2.2.1 d
def aI.le.not{x y:aI w lo hi g l N s ia ic bk fx ty n S pre}(_:aI.le x y)(a:x.free b):¬(b=g\/(x.done=false/\(x.box=some b\/S b))):=by
 rintro(rfl|⟨_,h|h⟩)
 .exact a.2.1 rfl
 .exact a.2.2.1 h
 .exact a.2.2.2 h
def aI.le.full{x y:aI w lo hi g l N s ia ic bk fx ty n S pre}(h:aI.le x y)(a:x.done=true)(e:x.box=some b)(c:bW x.to b t cs):y.done=true/\y.box=some b/\bW y.to b t cs:=by
 refine⟨h.done a,h.box b e,(h.eY.block b c.lt ?_).trans c⟩;rintro(rfl|⟨d,_⟩)
 .exact(x.bx _ e).1 rfl
 .rw[a] at d;cases d
def aaN(h:w.cell? p=some v){x:aI w lo hi g l N s ia ic bk fx ty n S pre}(c:p.block≠g)(b:p.block≠bk)(d:¬S p.block):x.to.cell? p=some v:=by
 have a:=sT w p h;have b:x.box≠some p.block:=λe=>by
  rcases x.bw _ e with h|h
  .exact b h
  .omega
 unfold World.cell? at h ⊢;rw[x.ok.block p.block a (by
  rintro(h|h|⟨_,h⟩)
  .exact c h
  .exact b h
  .exact d h)]
 exact h
def ala     (k q:Nat) (f o:List Nat) (u:P.follows .mixedOrders=true) (H:ahy O k f o=true) (v:ady O.toArray k Y.tmps.size=true)
  (D:Rd w lo hi g l q) (I:q+k<=N) (a:Option Nat) (A:∀b,a=some b->b=bk) (r:fx=true->a=some bk) (p:∀b,S b->b≠g/\hi<=b/\b≠bk/\b<w.heap.size) (j:∀b,a=some b->b≠g/\hi<=b/\∃c:Array Value,c.size=n/\bW w b ty c) (t:a=none\/k<=ia)
  (h:wpQuiet P O.toArray (λy=>∃x:aI w lo hi g l N s ia ic bk fx ty n S pre,y=x.to) (λG=>∃F:List (ij (aI w lo hi g l N s ia ic bk fx ty n S pre)),bE P O.toArray (aI.to (w:=w)) (aI.le (w:=w)) (wpList P O.toArray Q (O.drop k)) (pick O o) [] F G) ((pick O f).map (·.2)) Y):(Code.region Z O.toArray true).wp P Q Y w:=
 mZ (aI.to (w:=w)) (aI.le (w:=w)) aI.le_refl k f o u H v
  ⟨w.drew,q,a,false,none,D.drew,(bJ.refl _ _).drew,by omega,λb d=>.inl (A b d),r,p,λb d=>by
   obtain⟨C,z,c,E,B⟩:=j b d;exact⟨C,z,c,E,B⟩⟩ (λm u=>by show q+m<=N;omega) (λi hi=>And.intro (λ_=>rfl) (And.intro (λe=>by
   rcases t with h|h
   .exact h
   .omega) λ_=>rfl)) rfl h
def aI.on(x:aI w lo hi g l N s ia ic bk fx ty n S pre){w2:World}(hb:Below x.to.heap.size x.to w2):aI w lo hi g l N s ia ic bk fx ty n S pre:=
 ⟨w2,x.q,x.box,x.done,x.res,x.rd.eY (bJ.bh (S:=λ_=>False) hb) (λ_ _ h=>h),x.ok.trans (bJ.bh (S:=λb=>b=g\/x.box=some b\/(x.done=true/\S b)) hb) λ_ _ e=>e,x.lim,x.bw,x.bf,x.sf,λb h=>by
  obtain⟨f,a,d,i,c⟩:=x.bx b h;exact⟨f,a,d,i,av c hb⟩⟩
def aI.told(x:aI w lo hi g l N s ia ic bk fx ty n S pre){w2:World}(hb:Below x.to.heap.size x.to w2)(v:Value):aI w lo hi g l N s ia ic bk fx ty n S pre:={x.on hb with res:=some v}
def aI.auA(x:aI w lo hi g l N s ia ic bk fx ty n S pre)(a:Below x.to.heap.size x.to w2)(v:Value)(d:x.res=none):aI.le x (x.told a v):=⟨bJ.bh a,id,λ_ h=>h,λb e c=>(by
 have:x.box=some b:=c;rw[e] at this;cases this),λu h=>by rw[d] at h;cases h⟩
def aI.took(x:aI w lo hi g l N s ia ic bk fx ty n S pre){w2:World}(hr:Rd w2 lo hi g l (x.q+1))(hc:bJ (λb=>b=g) x.to w2)(hl:x.q+1<=N):aI w lo hi g l N s ia ic bk fx ty n S pre:=
 ⟨w2,x.q+1,x.box,x.done,x.res,hr,x.ok.trans (hc.mono λb _ h=>.inl h) λ_ _ e=>e,hl,x.bw,x.bf,x.sf,λb h=>by
  obtain⟨a,c,f,i,d⟩:=x.bx b h;exact⟨a,c,f,i,bQ d hc a⟩⟩
def aI.auB(x:aI w lo hi g l N s ia ic bk fx ty n S pre)(e:Rd w2 lo hi g l (x.q+1))(a:bJ (λb=>b=g) x.to w2)(c:x.q+1<=N):aI.le x (x.took e a c):=⟨a.mono λb _ h=>.inl h,id,λ_ h=>h,λb f d=>(by
 have:x.box=some b:=d;rw[f] at this;cases this),λ_ h=>h⟩
def aI.made(x:aI w lo hi g l N s ia ic bk fx ty n S pre)(hx:x.box=none)(cs:Array Value)(hn:cs.size=n)(hg:hi<=x.to.heap.size):aI w lo hi g l N s ia ic bk fx ty n S pre:=
 ⟨x.to.alloc (.cells cs ty),x.q,some x.to.heap.size,x.done,x.res,x.rd.alloc _,(x.ok.mono λb _ h=>by rw[hx] at h;exact h.elim .inl λh=>h.elim (λh=>by cases h) λh=>.inr (.inr h)).alloc _,x.lim,λb h=>(by cases h;exact .inr x.ok.size),λh=>(by rw[x.bf h] at hx;cases hx),x.sf,λb h=>by
  cases h;exact⟨Nat.ne_of_gt x.rd.lt,hg,cs,hn,bW.new _ _ _⟩⟩
def aI.auC(x:aI w lo hi g l N s ia ic bk fx ty n S pre)(a:x.box=none)(cs:Array Value)(e:cs.size=n)(c:hi<=x.to.heap.size):aI.le x (x.made a cs e c):=⟨(bJ.refl _ _).alloc _,id,λb h=>(by rw[a] at h;cases h),λb _ d=>(by
 have:some x.to.heap.size=some b:=d;cases this;exact am _),λ_ h=>h⟩
def aI.fill(x:aI w lo hi g l N s ia ic bk fx ty n S pre){b:Nat}(hx:x.box=some b){w2:World}(hc:bJ (λc=>c=b) x.to w2){cs:Array Value}(hn:cs.size=n)(hk:bW w2 b ty cs):aI w lo hi g l N s ia ic bk fx ty n S pre:=
 ⟨w2,x.q,x.box,true,x.res,x.rd.eY hc (λc h e=>by
  obtain⟨a,d,_⟩:=x.bx b hx;rcases h with h|h
  .omega
  .exact a (e▸h)),(x.ok.mono (T:=λb=>b=g\/x.box=some b\/(true=true/\S b)) λc _ h=>h.elim .inl λh=>h.elim (λh=>.inr (.inl h)) λh=>.inr (.inr ⟨rfl,h.2⟩)).trans (hc.mono λc _ h=>.inr (.inl (by rw[hx,h]))) λ_ _ e=>e,x.lim,x.bw,x.bf,x.sf,λc h=>by
  rw[hx] at h;cases h;exact⟨(x.bx _ hx).1,(x.bx _ hx).2.1,cs,hn,hk⟩⟩
def aI.auD(x:aI w lo hi g l N s ia ic bk fx ty n S pre)(a:x.box=some b)(e:bJ (λc=>c=b) x.to w2)(j:cs.size=n)(i:bW w2 b ty cs)(f:x.done=false):aI.le x (x.fill a e j i):=
 ⟨e.mono λc _ h=>.inr ⟨f,.inl (by rw[a,h])⟩,λ_=>rfl,λ_ h=>h,λc d k=>(by rw[a] at d;cases d),λ_ h=>h⟩
variable {P:Program} {ops:Array Oper} {Qt:Act->World->Prop} {i:Nat} {o:Oper} {L:List (Nat×Oper)} {F:List (Nat×(aI w lo hi g l N s ia ic bk fx ty n S pre->Prop))} {Rs:List (ij (aI w lo hi g l N s ia ic bk fx ty n S pre))} {a:Act}
def anw (R:Value->Prop) (c:o.dst.isSome=true)
  (j:∀x:aI w lo hi g l N s ia ic bk fx ty n S pre,my F o x->∀b:Exit->Act->World->Prop,(∀v,R v->b .normal (a.put o.dst v) x.to)->wpList P ops b [o] a x.to)
  (e:∀v,bE P ops (aI.to (w:=w)) (aI.le (w:=w)) Qt L ((i,λ_=>R v)::F) Rs (a.put o.dst v)):bE P ops (aI.to (w:=w)) (aI.le (w:=w)) Qt ((i,o)::L) F (.any (λv _=>R v)::Rs) a:=
 gW (to:=aI.to (w:=w)) (le:=aI.le (w:=w)) (λv _=>R v) (.inl c) (λ_ _ _ h _=>h) (λx p m d q b k=>j x p b λv f=>
  k v x (aI.le_refl x) (rQ d) (λ_ _ _ h=>h) f) e
def auE (R:Value->Prop) (j:o.dst.isSome=true)
  (z:∀x:aI w lo hi g l N s ia ic bk fx ty n S pre,my F o x->x.q<N->∀c:Exit->Act->World->Prop,(∀v d,Rd d lo hi g l (x.q+1)->bJ (λb=>b=g) x.to d->R v->c .normal (a.put o.dst v) d)->wpList P ops c [o] a x.to)
  (p:∀v,bE P ops (aI.to (w:=w)) (aI.le (w:=w)) Qt L ((i,λ_=>R v)::F) Rs (a.put o.dst v)):bE P ops (aI.to (w:=w)) (aI.le (w:=w)) Qt ((i,o)::L) F (.any (λv _=>R v)::Rs) a:=
 gW (to:=aI.to (w:=w)) (le:=aI.le (w:=w)) (λv _=>R v) (.inl j) (λv x y h _=>h) (λx r m t A c q=>by
  have k:x.q+(m+1)<=N:=t;exact z x r (by omega) c λv d e f u=>
   q v (x.took e f (by omega)) (x.auB e f (by omega)) (by show x.q+1+m<=N;omega) (λ_ _ _ h=>h) u) p
def auF (R:Value->aI w lo hi g l N s ia ic bk fx ty n S pre->Prop) (p:o.dst.isSome=true) (hi':i=ic) (t:∀v x y,R v x->aI.le x y->R v y)
  (D:∀x:aI w lo hi g l N s ia ic bk fx ty n S pre,my F o x->∀d:Exit->Act->World->Prop,(∀v f (c:Below x.to.heap.size x.to f),R v (x.told c v)->d .normal (a.put o.dst v) f)->wpList P ops d [o] a x.to)
  (r:∀v,bE P ops (aI.to (w:=w)) (aI.le (w:=w)) Qt L ((i,λx=>R v x/\x.res=some v)::F) Rs (a.put o.dst v)):bE P ops (aI.to (w:=w)) (aI.le (w:=w)) Qt ((i,o)::L) F (.any (λv x=>R v x/\x.res=some v)::Rs) a:=
 gW (to:=aI.to (w:=w)) (le:=aI.le (w:=w)) (λv x=>R v x/\x.res=some v) (.inl p) (λv x y h k=>⟨t v x y h.1 k,k.res v h.2⟩) (λx z m A q d u=>D x z d λv f c B=>
  u v (x.told c v) (x.auA c v (q.2.2 hi')) (rQ A) (λj C _ b=>⟨b.1,b.2.1,λe=>absurd (e.trans hi'.symm) C⟩) ⟨B,rfl⟩) r
def ahJ (R:Value->Value->Prop) (c:o.dst.isSome=true)
  (q:∀x:aI w lo hi g l N s ia ic bk fx ty n S pre,my F o x->∀b:Exit->Act->World->Prop,(∀v u,x.res=some u->R v u->b .normal (a.put o.dst v) x.to)->wpList P ops b [o] a x.to)
  (d:∀v,bE P ops (aI.to (w:=w)) (aI.le (w:=w)) Qt L ((i,λx=>∃u,x.res=some u/\R v u)::F) Rs (a.put o.dst v)):bE P ops (aI.to (w:=w)) (aI.le (w:=w)) Qt ((i,o)::L) F (.any (λv x=>∃u,x.res=some u/\R v u)::Rs) a:=
 gW (to:=aI.to (w:=w)) (le:=aI.le (w:=w)) (λv x=>∃u,x.res=some u/\R v u) (.inl c) (λ_ _ _ ⟨u,h,hr⟩ hl=>⟨u,hl.res u h,hr⟩) (λx j m k r b f=>q x j b λv u e p=>
  f v x (aI.le_refl x) (rQ k) (λ_ _ _ h=>h) ⟨u,e,p⟩) d
def arv (q:o.dst.isSome=true) (hi':i=ia) (t:ia≠s) (z:hi<=w.heap.size) (cs:Array Value) (p:cs.size=n)
  (D:∀x:aI w lo hi g l N s ia ic bk fx ty n S pre,∀k:Exit->Act->World->Prop,(k .normal (a.put o.dst (.pointer (some ⟨x.to.heap.size,0,none⟩))) (x.to.alloc (.cells cs ty)))->wpList P ops k [o] a x.to)
  (u:∀v,bE P ops (aI.to (w:=w)) (aI.le (w:=w)) Qt L ((i,λx=>∃b,v=.pointer (some ⟨b,0,none⟩)/\w.heap.size<=b/\x.box=some b)::F) Rs (a.put o.dst v)):bE P ops (aI.to (w:=w)) (aI.le (w:=w)) Qt ((i,o)::L) F (.any (λv x=>∃b,v=.pointer (some ⟨b,0,none⟩)/\w.heap.size<=b/\x.box=some b)::Rs) a:=
 gW (to:=aI.to (w:=w)) (le:=aI.le (w:=w)) (λv x=>∃b,v=.pointer (some ⟨b,0,none⟩)/\w.heap.size<=b/\x.box=some b) (.inl q) (λv x y ⟨b,e,hb,h⟩ hle=>⟨b,e,hb,hle.box b h⟩) (λx E m B r k A=>by
  have d:=r.2.1 hi';have f:hi<=x.to.heap.size:=da z x.ok.size;refine D x k (A _ (x.made d cs p f) (x.auC d cs p f) (rQ B) (λj C _ c=>⟨c.1,λe=>absurd (e.trans hi'.symm) C,c.2.2⟩) ⟨_,rfl,x.ok.size,rfl⟩)) u
def arw (R:aI w lo hi g l N s ia ic bk fx ty n S pre->Prop) (hi':i=s) (A:∀j∈pre,Behind ops i j) (K:∀x y,R x->aI.le x y->R y)
  (I:∀x:aI w lo hi g l N s ia ic bk fx ty n S pre,my F o x->x.done=false->∀k:Exit->Act->World->Prop,(∀b (z:x.box=some b) q (r:bJ (λc=>c=b) x.to q) (t:Array Value) (p:t.size=n) (f:bW q b ty t),R (x.fill z r p f)->k .normal (a.put o.dst undef) q)->wpList P ops k [o] a x.to)
  (E:o.dst=none)
  (G:bE P ops (aI.to (w:=w)) (aI.le (w:=w)) Qt L ((i,λx=>R x)::F) Rs (a.put o.dst undef)):bE P ops (aI.to (w:=w)) (aI.le (w:=w)) Qt ((i,o)::L) F (.any (λ_ x=>R x)::Rs) a:=
 gW (to:=aI.to (w:=w)) (le:=aI.le (w:=w)) (λ_ x=>R x) (.inr λ_ _ _ h=>h) (λ_ x y h B=>K x y h B) (λx z m M D k H=>I x z (D.1 (.inl hi')) k λb d q r t p f J=>by
  exact H undef (x.fill d r p f) (x.auD d r p f (D.1 (.inl hi'))) (rQ M) (λj O C u=>⟨λe=>e.elim (λe=>absurd (e.trans hi'.symm) O) λe=>absurd (A j e) C,u.2⟩) J) (λv=>by
  have e:a.put o.dst v=a.put o.dst undef:=by rw[E];rfl
  rw[e];exact G)
def ax6(h:∀x:aI w lo hi g l N s ia ic bk fx ty n S pre,iZ F x->Qt a x.to):bE P ops (aI.to (w:=w)) (aI.le (w:=w)) Qt [] F [] a:=adQ h
end
end
section
variable {β:Bool}
open Go.RowKit
def gS:Flat ByteArray:=⟨1,λs=>[.string s],λs=>s.size<=maxLen,λ_=>rfl,λs u a=>by rw[gE.1 a];rfl,by decide⟩
abbrev cH:gF (List ByteArray):=eZ 9 (cg gS) 1
def cH.aw:eE cH [9]:=eZ.aw (cg.aw gS)
def oM:ig (ah β) 66 9 1 16:=ig.mk' yv (z:=.string ⟨#[]⟩) (by kernel_rfl) rfl (by decide) (by decide)
def iO(h:cH w lo hi xs [.slice A n c]){x:ByteArray}(f:xs[k]?=some x) :
  ∃b a,A=some ⟨b,a,none⟩/\lo<=b/\b<hi/\x.size<=maxLen/\w.cell? ⟨b,a+k,none⟩=some (.string x):=by
 obtain⟨b,a,l,rfl,g,e,j,⟨rfl,d⟩,i⟩:=h.1.at_ f;exact⟨b,a,rfl,g,e,d,by simpa using i 0 _ rfl⟩
def Rd.blk{p:Nat}(h:Rd w lo hi g l p):∃b,bW w g 57 b:=by
 obtain⟨A,c,a,_⟩:=h;exact⟨_,a⟩
def auG{oF hi' : Nat}{p:Nat}{cs:List Value}(h:cH w oF hi' xs cs)(c:Rd w lo hi g l p)(d:bJ (λb=>b=g) w w'):cH w' oF hi' xs cs:=
 cH.aw.eY h d λb _ _ ⟨t,ht,ds,hd⟩ e=>by
  obtain⟨f,a⟩:=c.blk;subst e;have:=fp hd a;rw[gE.1 ht] at this;exact absurd this (by decide)
def ahK(h:xs.all (λs=>decide (s.size<=9))=true):∀s∈xs,s.size<=9:=λs a=>sH (kw.1 h s a)
def aaO(h:xs.all (λs=>decide (s.size<=9))=true):∀s∈xs,gS.good s:=λs a=>by
 have:=ahK h s a;show s.size<=maxLen;unfold maxLen;omega
def ax7(xs:List ByteArray)(w:World)(lo hi g:Nat)(l:List Int)(p:Nat)(e:Ending)(w':World):Prop:=∃s∈xs,e=.returned (.string s)/\Rd w' lo hi g l (p+1)/\bJ (λb=>b=g) w w'
def alb(xs:List ByteArray)(z:0<xs.length/\xs.length<=100)(v:Value)(l:List Int)(g p lo hi oF hi':Nat)(w:World)(j:Rd w lo hi g l p)(y:p<=1000000)(h:cH w oF hi' xs [v]) :
  Calls (ah β) 73 #[.pointer (some ⟨g,0,none⟩),v] w (ax7 xs w lo hi g l p):=by
 obtain⟨A,c,rfl⟩:=h.form;go_enter yJ,ntmps73;go_wp2;refine(cF _ _ _ _ _ _ _ j (by omega)).mono ?_;rintro e u ⟨m,rfl,⟨_,n⟩,i,a⟩;obtain⟨o,B⟩:=n (by omega);clear n;obtain⟨k,rfl⟩:=qi o;obtain⟨s,d⟩:=aq (l:=xs) (k:=k) (by omega);have q:=auG h j a;obtain⟨b,t,rfl,_,_,r,f⟩:=iO q d;replace d:=ab d;have x:k<xs.length:=by omega
 go_wp2;go_ret;exact⟨s,be d.out,rfl,i,a⟩
def ao0(w:World)(lo hi g:Nat)(l:List Int)(p:Nat)(e:Ending)(w':World):Prop:=∃s q,e=.returned (.string s)/\s.size<=9/\Rd w' lo hi g l q/\q<=p+3/\bJ (λb=>b=g) w w'
def ao1(xs:List ByteArray)(s:ByteArray)(v:Value)(w:World)(lo hi:Nat)(h:cH w lo hi xs [v])(b:Bool)(f:b=true↔s∈xs) :
  Calls (ah β) 122 #[v,.string s] w λe p=>e=.returned (.bool b)/\w=p:=by
 replace f:=ab f;obtain⟨A,c,rfl⟩:=h.form;obtain⟨_,y,r⟩:=h.len_;unfold maxLen at r;go_enter yh,ntmps122;go_wp2
 go_loop [5] (λi=>∃k:Nat,k<=xs.length/\i=.int .i64 k/\s∉xs.take k) (λi=>xs.length-(intOf i).toNat)
 case atStart=>exact⟨0,fa _,rfl,by simp⟩
 case round=>
  obtain⟨k,u,rfl,g⟩:=hrel;replace g:=ab g;by_cases l:k<xs.length
  .obtain⟨x,a⟩:=aq l;obtain⟨t,q,rfl,_,_,_,n⟩:=iO h a;replace a:=ab a;by_cases j:x=s
   .subst j;have d:=be a.out;have m:=ab d;clear d;go_wp2;go_ret;exact⟨aA (by rw[eq_comm,f.out];exact m.out),rfl⟩
   .have z:=aaI j;have o:s∉xs.take (k+1):=by
     rw[mu a.out];simp[g.out,sO j]
    replace o:=ab o;clear j;go_wp2
    go_round
    case rel=>exact⟨k+1,by omega,by go_num,o.out⟩
    simp[intOf];omega
  .obtain rfl:k=xs.length:=by omega
   have d:s∉xs:=by have:=g.out;rwa [gt] at this
   have m:=ab d;clear d;go_wp2;go_ret;exact⟨aA (by rw[eq_comm,<-lc,f.out];exact m.out),rfl⟩
end
section
variable {β:Bool}
open Go.RowKit
def atF(l:List Nat)(a:Nat):Nat->Nat->Nat
 |0,_=>min (a+8) l.length
 |f+1,n=>if l.length<=a+n then l.length else if oK l (a+n)=true then a+n else atF l a f (n+1)
def nW(l:List Nat)(a:Nat):Nat:=atF l a 5 3
def aeL{l:List Nat}{a:Nat}(b:a<l.length):∀(f n:Nat),0<n->n+f<=8->a<atF l a f n/\atF l a f n<=l.length/\atF l a f n<=a+8
 |0,n,_,_=>by show a<min _ _/\min _ _<=_/\min _ _<=_;omega
 |f+1,n,h0,h8=>by
  unfold atF;split
  .omega
  .split
   .omega
   .exact aeL b f (n+1) (by omega) (by omega)
def et{l:List Nat}{a:Nat}(b:a<l.length):a<nW l a/\nW l a<=l.length/\nW l a<=a+8:=aeL b 5 3 (by omega) (by omega)
def dn(l:List Nat):Nat->List Int->Nat->Prop
 |a,[],b=>a=b
 |a,x::xs,b=>a<l.length/\x=(nW l a:Int)/\dn l (nW l a) xs b
def dn.snoc{l:List Nat}:∀{a:Nat} {c:List Int} {b:Nat},dn l a c b->b<l.length->dn l a (c++[(nW l b:Int)]) (nW l b)
 |a,[],b,h,h1=>by
  have h:a=b:=h;subst h;exact⟨h1,rfl,rfl⟩
 |a,x::c,b,⟨h2,h3,h4⟩,h1=>⟨h2,h3,h4.snoc h1⟩
def dn.len{l:List Nat}:∀{a:Nat} {c:List Int} {b:Nat},dn l a c b->a+c.length<=b
 |a,[],b,h=>by
  have h:a=b:=h;simp;omega
 |a,x::c,b,⟨h1,_,h⟩=>by
  have:=h.len;have:=(et h1).1;simp only[fm];omega
def dn.at_{l:List Nat}:∀{a:Nat} {d:List Int} {b k m:Nat} {x:Int},dn l a d b->dn l a (d.take k) m->d[k]?=some x->x=(nW l m:Int)/\m<l.length/\dn l a (d.take (k+1)) (nW l m)
 |a,[],b,k,m,x,_,_,c=>by simp at c
 |a,y::d,b,0,m,x,⟨h1,e,h3⟩,f,c=>by
  have f:a=m:=f;subst f;have c:y=x:=by simpa using c
  subst c;exact⟨e,h1,h1,e,rfl⟩
 |a,y::d,b,k+1,m,x,⟨h1,e,h3⟩,⟨h1',e',f⟩,c=>by
  obtain⟨j,g,i⟩:=dn.at_ h3 f (by simpa using c);exact⟨j,g,h1,e,i⟩
def dn.akN{l:List Nat}(f:l.length<=maxLen):∀{a:Nat} {d:List Int} {b:Nat},dn l a d b->∀x∈d,cA x
 |a,[],b,_,x,c=>by cases c
 |a,y::d,b,⟨h1,e,h⟩,x,c=>by
  have:=(et h1).2.1;unfold maxLen at f;rcases mc.1 c with rfl|c
  .rw[e];unfold cA;omega
  .exact h.akN f x c
def agn(l:List Nat):Nat->Nat->List Int
 |0,_=>[]
 |f+1,a=>if a<l.length then(nW l a:Int)::agn l f (nW l a) else[]
def dn.uniq{l:List Nat}:∀{a:Nat} {b:List Int} {f:Nat},dn l a b l.length->l.length-a<=f->b=agn l f a
 |a,[],f,h,_=>by
  have h:a=l.length:=h;cases f with
  |zero=>rfl
  |succ f=>show[]=if _ then _ else _;rw[bd (by omega)]
 |a,x::b,f,⟨h1,e,h⟩,hf=>by
  have:=(et h1).1;cases f with
  |zero=>omega
  |succ f=>
   show x::b=if _ then _ else _
   rw[dj h1,e,<-h.uniq (f:=f) (by omega)]
def ac5{l:List Nat}:∀{f a:Nat},a<=l.length->l.length-a<=f->dn l a (agn l f a) l.length
 |0,a,h1,h2=>by show a=l.length;omega
 |f+1,a,h1,h2=>by
  show dn l a (if a<l.length then(nW l a:Int)::agn l f (nW l a) else[]) l.length;by_cases b:a<l.length
  .rw[dj b];have:=et b;exact⟨b,rfl,ac5 (by omega) (by omega)⟩
  .rw[bd b];show a=l.length;omega
def bX(s:ByteArray):Nat->List Int->List ByteArray
 |_,[]=>[]
 |a,x::xs=>s.extract a x.toNat::bX s x.toNat xs
def aam{s:ByteArray}{l:List Nat}:∀{a:Nat} {b:List Int} {m q:Nat},dn l a b m->bX s a (b++[(q:Int)])=bX s a b++[s.extract m q]
 |a,[],m,q,h=>by
  have h:a=m:=h;subst h;rfl
 |a,x::b,m,q,⟨_,e,h⟩=>by
  show s.extract a x.toNat::bX s x.toNat (b++[(q:Int)])=s.extract a x.toNat::(bX s x.toNat b++_);rw[e,sJ,aam h]
def ng(s:ByteArray):∀(a:Nat) (b:List Int),(bX s a b).length=b.length
 |_,[]=>rfl
 |a,x::b=>by show(bX s x.toNat b).length+1=_;rw[ng];rfl
def aan(s:ByteArray):∀(c:List Int) (a:Nat),∀x∈bX s a c,x.size<=s.size
 |[],_,x,b=>by cases b
 |z::c,a,x,b=>by
  have b:x∈s.extract a z.toNat::bX s z.toNat c:=b;rcases mc.1 b with rfl|b
  .rw[<-aK,cI,pX,fi,aK];omega
  .exact aan s c _ x b
def fO(s:ByteArray):List ByteArray:=bX s 0 (agn (bs s) s.size 0)
def anx{xs:List Int}(h:dn (bs s) 0 xs s.size):bX s 0 xs=fO s:=by
 rw[<-aK] at h;unfold fO;rw[h.uniq (f:=s.size) (by rw[aK];omega)]
def arx{q : Nat}(a:(bs s).all nU=true)(e:m<q)(d:q<=m+8)(f:q<=s.size):aQ (bs (s.extract m q)):=by
 have b:(((bs s).take q).drop m).length=q-m:=by rw[pX,fi,aK];omega
 rw[cI];refine⟨⟨by omega,by omega⟩, ?_⟩;rw[kw] at a ⊢;exact λx c=>a x (pr (tv c))
def aeM(s:ByteArray){q : Nat}(a:q<=s.size):(s.extract m q).size=q-m:=by
 rw[<-aK,cI,pX,fi,aK];omega
def oN{s:ByteArray}(g:(bs s).all nU=true):∀{a:Nat} {d:List Int} {b:Nat},dn (bs s) a d b->∀x∈bX s a d,aQ (bs x)
 |a,[],b,_,x,c=>by cases c
 |a,y::d,b,⟨h1,e,h⟩,x,c=>by
  obtain⟨i,f,j⟩:=et h1;rw[aK] at f;have c:x∈s.extract a y.toNat::bX s y.toNat d:=c;rw[e,sJ] at c;rcases mc.1 c with rfl|c
  .exact arx g i j f
  .exact oN g h x c
def aeN(s:ByteArray):dn (bs s) 0 (agn (bs s) s.size 0) s.size:=by
 have:=ac5 (l:=bs s) (f:=s.size) (a:=0) (fa _) (by rw[aK];omega)
 rwa [aK] at this
def jg(a:(bs s).all nU=true):∀x∈fO s,aQ (bs x):=oN a (aeN s)
def abH(s:ByteArray):(fO s).length<=s.size:=by
 have:=(aeN s).len;unfold fO;rw[ng];omega
def cX(l:List ByteArray):List Nat:=l.flatMap bs
def abI{s:ByteArray}:∀{a:Nat} {c:List Int} {b:Nat},dn (bs s) a c b->cX (bX s a c)=((bs s).take b).drop a
 |a,[],b,h=>by
  have h:a=b:=h;subst h;show[]=_;rw[rh (by rw[fi];omega)]
 |a,x::c,b,⟨h1,e,h⟩=>by
  obtain⟨g,i,j⟩:=et h1;have d:=h.len;show bs (s.extract a x.toNat)++cX (bX s x.toNat c)=_;rw[e,sJ,abI h,cI];have f:((bs s).take b).drop a=(((bs s).take b).take (nW (bs s) a)).drop a++((bs s).take b).drop (nW (bs s) a):=by
   conv=>lhs;rw[<-sA (nW (bs s) a) ((bs s).take b)]
   rw[List.drop_append_of_le_length (by rw[fi,fi];omega)]
  rw[f,vI,qW (show nW (bs s) a<=b by omega)]
def ao2(s:ByteArray):cX (fO s)=bs s:=by
 unfold fO;rw[abI (aeN s),qV,<-aK,gt]
def ary(s:ByteArray)(p:Nat)(B:p<s.size)(D:s.size<=1000000)(w:World) :
  Calls (ah β) 157 #[.string s,.int .i64 p] w λe v=>e=.returned (.int .i64 (nW (bs s) p:Nat))/\Below w.heap.size w v:=by
 have q:s.size<=maxLen:=by unfold maxLen;omega
 go_enter xR,ntmps157;go_wp2;go_loopw [5] (λr wr=>∃k f:Nat,k+f=8/\3<=k/\r=.int .i64 k/\nW (bs s) p=atF (bs s) p f k/\Below w.heap.size w wr) (λr _=>8-(intOf r).toNat)
 case atStart=>exact⟨3,5,rfl,by omega,rfl,rfl,ff _ _⟩
 case round=>
  obtain⟨k,f,y,C,rfl,b,d⟩:=hrel;replace b:=ab b;by_cases A:k<8
  .obtain⟨g,rfl⟩:∃g,f=g+1:=⟨f-1,by omega⟩;have a:atF (bs s) p (g+1) k=if s.size<=p+k then s.size else if oK (bs s) (p+k)=true then p+k else atF (bs s) p g (k+1):=by
    show(if(bs s).length<=p+k then(bs s).length else _)=_;rw[aK]
   have HS:=ab a;clear a;by_cases j:s.size<=p+k
   .have n:=de (show(s.size:Int)<=(p:Int)+(k:Int) by omega);go_wp2;go_ret;exact⟨by rw[b.out,HS.out,dj j];rfl,d⟩
   .have n:=bv (show ¬((s.size:Int)<=(p:Int)+(k:Int)) by omega);rw[bd j] at HS;obtain⟨i,u⟩:∃m,m=p+k:=⟨_,rfl⟩;have x:(p:Int)+(k:Int)=((i:Nat):Int):=by omega
    have o:3<=i/\i<s.size:=by omega
    rw[x] at n;rw[<-u] at HS;clear u;go_wp2;refine(ak1 s i o q wr).mono ?_;rintro e z ⟨rfl,t⟩;cases l:oK (bs s) i with
    |true=>
     have c:=ab (b.out.trans (HS.out.trans (dj l)));clear l;go_wp2;go_ret;exact⟨by rw[c.out];rfl,ae d t⟩
    |false=>
     have c:=ab (b.out.trans (HS.out.trans (bd (by rw[l];exact qm))));clear l;go_wp2;go_roundw
     case rel=>exact⟨k+1,g,by omega,by omega,by go_num,c.out,ae d t⟩
     simp[intOf];omega
  .obtain rfl:k=8:=by omega
   obtain rfl:f=0:=by omega
   have a:atF (bs s) p 0 8=min (p+8) s.size:=by
    show min (p+8) (bs s).length=_;rw[aK]
   have c:=ab (b.out.trans a);clear a b;by_cases j:p+8<=s.size
   .have n:=de (show(p:Int)+8<=(s.size:Int) by omega);rw[qW j] at c;go_wp2;go_ret;exact⟨by rw[c.out];simp,d⟩
   .have n:=bv (show ¬((p:Int)+8<=(s.size:Int)) by omega);rw[Nat.min_eq_right (by omega)] at c;go_wp2;go_ret;exact⟨by rw[c.out];simp,d⟩
def arA(s:ByteArray)(w:World)(e:Ending)(w':World):Prop:=∃v a,e=.returned v/\aD ie 3 w' w.heap.size v a/\dn (bs s) 0 a s.size/\Below w.heap.size w w'
def alc(s:ByteArray)(L:s.size<=100000)(w:World) :
  Calls (ah β) 131 #[.string s] w (arA s w):=by
 go_enter xZ,ntmps131;go_wp2;have m:=aB w (.cells #[] 3);have j:aD ie 3 (w.alloc (.cells #[] 3)) w.heap.size (.slice (some ⟨w.heap.size,0,none⟩) 0 0) []:=(eD.new w 3 (am _)).own 1;generalize w.alloc (.cells #[] 3)=w0 at *;go_loopw [3,4] (λB x wr=>∃(k:Nat) (g:List Int),k<=s.size/\x=.int .i64 k/\aD ie 3 wr w.heap.size B g/\dn (bs s) 0 g k/\Below w.heap.size w wr) (λ_ x _=>s.size-(intOf x).toNat)
 case atStart=>exact⟨0,[],fa _,rfl,j,rfl,m⟩
 case round=>
  clear j m;obtain⟨k,g,G,rfl,p,o,r⟩:=hrel;obtain⟨A,c,rfl⟩:=p.form;by_cases d:k<s.size
  .go_wp2;refine(ary s k d (by omega) wr).mono ?_;rintro e E ⟨rfl,y⟩;have b:=et (l:=bs s) (a:=k) (by rw[aK];exact d);rw[aK] at b;have J:=o.len;have n:=p.below y;have f:=ae r y;have HC:=ab (o.snoc (by rw[aK];exact d));revert HC b;generalize nW (bs s) k=q;intro b HC;clear p r o;go_wp2_with(at_builtin;refine bR (F:=ie) (v:=.slice A g.length c) rfl (.tmp 13) (.tmp 15) 43 rfl oH (q:Int) rfl n rfl rfl (by omega) f.size ?_;intro K H t u z;obtain⟨D,I,rfl⟩:=t.form;simp only[ap,fm,me,ls] at t);go_roundw
   case rel=>exact⟨q,g++[(q:Int)],b.2.1,rfl,by simpa using t,HC.out,f.trans (u.below f.size λi M C=>by have:=(n.at_ C).1;omega)⟩
   simp[intOf];omega
  .obtain rfl:k=s.size:=by omega
   go_wp2;go_ret;exact⟨_,g,rfl,p,o,r⟩
def ald(s:ByteArray)(w:World)(e:Ending)(w':World):Prop:=∃v,e=.returned v/\aD gS 9 w' w.heap.size v (fO s)/\Below w.heap.size w w'
def acC(s:ByteArray)(B:s.size<=100000)(w:World) :
  Calls (ah β) 77 #[.string s] w (ald s w):=by
 go_enter yF,ntmps77;go_wp2;have J:=aB w (.cells #[] 9);have C:aD gS 9 (w.alloc (.cells #[] 9)) w.heap.size (.slice (some ⟨w.heap.size,0,none⟩) 0 0) []:=(eD.new w 9 (am _)).own 1;generalize w.alloc (.cells #[] 9)=w0 at *;refine(alc s B w0).mono ?_;rintro e w1 ⟨ve,f,rfl,W,a,G⟩;obtain⟨Ae,ce,rfl⟩:=W.form;have j:=C.below G;have l:=ae J G;have z1:=G.size;have a1:=a.len;have H:=W.deep (a.akN (by rw[aK];unfold maxLen;omega)) w0.heap.size;have D:=H.sl (am _);replace a:=ab a;replace j:=ab j;have O:=ab D;replace l:=ab l;clear C J G H D W;go_wp2;go_loopw [3,4,6] (λoo aa Z wr=>∃(k m:Nat),k<=f.length/\m<=s.size/\Z=.int .i64 k/\aa=.int .i64 m/\dn (bs s) 0 (f.take k) m/\aD gS 9 wr w.heap.size oo (bX s 0 (f.take k))/\Below w.heap.size w wr/\eZ 3 (cg ie) 1 wr w0.heap.size w1.heap.size f [.slice Ae f.length ce]) (λ_ _ Z _=>f.length-(intOf Z).toNat)
 case atStart=>exact⟨0,0,fa _,fa _,rfl,rfl,rfl,j.out,l.out,O.out⟩
 case round=>
  clear j l O;obtain⟨k,m,hk,lz,rfl,rfl,U,g,L,P⟩:=hrel;by_cases V:k<f.length
  .obtain⟨y,z⟩:=aq V;obtain⟨rfl,K,M⟩:=a.out.at_ U z;obtain⟨h1,E,h2⟩:=et K;rw[aK] at E;have N:bX s 0 (f.take (k+1))=bX s 0 (f.take k)++[s.extract m (nW (bs s) m)]:=by rw[mu z,aam U]
   have u:(bX s 0 (f.take k)).length=k:=by rw[ng,fi,qW hk]
   have n:∀x∈bX s 0 (f.take k),x.size<=maxLen:=λx p=>by
    have:=aan s _ _ x p;unfold maxLen;omega
   revert N;revert M;revert E;revert h2;revert h1;revert z;generalize nW (bs s) m=q;generalize bX s 0 (f.take k)=xs at g u n ⊢;intro z h1 h2 E M N;obtain⟨A,c,rfl⟩:=g.form;obtain⟨b',X,cs,e0,a6,a4,_,⟨rfl,a7⟩,I⟩:=P.1.at_ z;subst e0;obtain⟨a3,T⟩:=P.2 (by omega) _ _ _ _ rfl;have R:wr.cell? ⟨b',X+k,none⟩=some (.int .i64 (q:Int)):=by simpa using I 0 _ rfl
   have HN:=ab N;have H4:=ab M;have O:=ab P;have HG:=ab n;have a8:(s.extract m q).size<=maxLen:=by rw[aeM s E];unfold maxLen;omega
   have a2:=ab u;have a0:xs.length<=100000:=by omega
   clear I N M P U z u K n;have o:∀B:(Value.slice A xs.length c).ownBlock=some b',False:=λB=>by
    obtain⟨ds,hd⟩:=(aD.deep g (λx p=>HG.out x p) 0).blk B;exact absurd (fp T hd) (by decide)
   replace o:=ab o;have g1:¬((m:Int)<0):=by omega
   have g2:(m:Int)<=(q:Int):=by omega
   have g3:(q:Int)<=(s.size:Int):=by omega
   go_wp2_with(at_builtin;refine bR (F:=gS) (v:=.slice A xs.length c) rfl (.tmp 16) (.tmp 24) 66 rfl oM (s.extract m q) rfl g rfl rfl (by omega) L.size ?_;intro va wa Y r a5;obtain⟨Aa,ca,rfl⟩:=Y.form;simp only[ap,fm,me,ls] at Y;have a9:=iN R r o.out);go_roundw
   case rel=>
    refine⟨k+1,q,by omega,E,by go_num,rfl,H4.out,by rw[HN.out];simpa using Y,L.trans (r.below L.size λi hi p=>by have:=(g.at_ p).1;omega), ?_⟩;exact(eZ.aw (cg.aw ie)).go (λb G b2 ht=>r.block b (by obtain⟨t,_,d,hd⟩:=ht;exact hd.lt) λB=>by
      obtain⟨ds,hd⟩:=(aD.deep g (λx p=>HG.out x p) 0).blk B;obtain⟨t,S,d2,Q⟩:=ht;have e1:=fp hd Q;rw[gE.1 S] at e1;exact absurd e1 (by decide)) (am _) (am _) O.out
   case measure=>simp[intOf];omega
  .obtain rfl:k=f.length:=by omega
   rw[gt,anx a.out] at g;obtain⟨A,c,rfl⟩:=g.form;go_wp2;go_ret;exact⟨_,rfl,g,L⟩
end
section
variable {β:Bool}
open Go.RowKit
structure Nd where
 p:ByteArray
 b:ByteArray
def jT:Flat Nd:=⟨2,λx=>[.string x.p,.string x.b],λx=>x.p.size<=maxLen/\x.b.size<=maxLen,λ_=>rfl,λx u a=>by simp at a;rcases a with rfl|rfl<;>rfl,by decide⟩
abbrev eF:gF (List Nd):=eZ 50 (cg jT) 2
def eF.aw:eE eF [50]:=eZ.aw (cg.aw jT)
def lJ:ig (ah β) 30 50 2 32:=ig.mk' yy (z:=.agg #[.string ⟨#[]⟩,.string ⟨#[]⟩]) (by kernel_rfl) rfl (by decide) (by decide)
def afF(x:Nd):Prop:=gG x.p=true/\dw x.b=true
def nK:∀{a b c:List UInt8},Op.bytesLess a b=true->Op.bytesLess b c=true->Op.bytesLess a c=true
 |_,[],_,h,_=>by simp[Op.bytesLess] at h
 |_,_::_,[],_,h=>by simp[Op.bytesLess] at h
 |[],_::_,_::_,_,_=>by simp[Op.bytesLess]
 |x::a,y::b,z::c,e,d=>by
  simp only[Op.bytesLess,qL,qG,fb,mp,rv,<-sq] at e d ⊢;rcases e with e|⟨e,g⟩
  .rcases d with d|⟨d,f⟩
   .exact .inl (by omega)
   .exact .inl (by omega)
  .rcases d with d|⟨d,f⟩
   .exact .inl (by omega)
   .exact .inr ⟨by omega,nK g f⟩
def anz(t:List Nd)(i:Nat)(x:Nd):Prop:=afF x/\(∀y,0<i->t[i-1]?=some y->Op.bytesLess y.p.toList x.p.toList=true)/\∀k y,k<i->t[k]?=some y->je y.p x.p=false
def ago(t:List Nd):Prop:=t.length<=6/\∀i x,t[i]?=some x->anz t i x
def adT{t:List Nd}(h:∀i x,t[i]?=some x->∀y,0<i->t[i-1]?=some y->Op.bytesLess y.p.toList x.p.toList=true):∀(d k:Nat) {x y:Nd},t[k+d+1]?=some x->t[k]?=some y->Op.bytesLess y.p.toList x.p.toList=true
 |0,k,x,y,hx,hy=>h (k+1) x hx y (by omega) hy
 |d+1,k,x,y,hx,hy=>by
  obtain⟨z,a⟩:∃z,t[k+d+1]?=some z:=aq (by have:=aH hx;omega);exact nK (adT h d k a hy) (h (k+(d+1)+1) x hx z (by omega) a)
def kg(xs:List Nd):Prop:=(∀x∈xs,afF x)/\xs.length<=6/\xs.Pairwise λa b=>Op.bytesLess a.p.toList b.p.toList=true/\je a.p b.p=false
def kg.nil:kg []:=⟨λy a=>(by cases a),fa _,.nil⟩
def kg.one{x:Nd}(h:afF x):kg [x]:=⟨λy a=>by rw[gE.1 a];exact h,by simp,rF _ _⟩
def kg.sub{xs ys:List Nd}(h:kg xs)(a:ys.Sublist xs):kg ys:=⟨λy b=>h.1 y (a.mem b),da a.length_le h.2.1,h.2.2.sublist a⟩
def ai6{t:List Nd}:ago t↔kg t:=by
 unfold kg ago;rw[qg];constructor
 .rintro⟨g,h⟩;refine⟨λx a=> ?_,g,λi j b m d=>⟨?_, ?_⟩⟩
  .obtain⟨i,b⟩:=qZ a;exact(h i x b).1
  .exact adT (λi x a=>(h i x a).2.1) (j-i-1) i (by rw[show i+(j-i-1)+1=j by omega];exact lm m) (lm b)
  .exact(h j t[j] (lm m)).2.2 i t[i] d (lm b)
 .rintro⟨p,n,l⟩;refine⟨n,λi x a=>⟨p x (be a),λy g c=> ?_,λk y o c=> ?_⟩⟩
  .obtain⟨e,rfl⟩:=li.1 a;obtain⟨f,rfl⟩:=li.1 c;exact(l (i-1) i f e (by omega)).1
  .obtain⟨e,rfl⟩:=li.1 a;obtain⟨f,rfl⟩:=li.1 c;exact(l k i f e o).2
def jI{xs:List Nd}(h:eF w lo hi xs [.slice A n c]){x:Nd}(i:xs[k]?=some x) :
  ∃b a,A=some ⟨b,a,none⟩/\lo<=b/\b<hi/\jT.good x/\w.cell? ⟨b,a+k*2,none⟩=some (.string x.p)/\w.cell? ⟨b,a+k*2+1,none⟩=some (.string x.b):=by
 obtain⟨b,a,l,e,j,f,_,⟨rfl,g⟩,d⟩:=h.1.at_ i;exact⟨b,a,e,j,f,g,by simpa using d 0 _ rfl,by simpa using d 1 _ rfl⟩
def agp(xs:List Nd)(v:Value)(w:World)(lo hi:Nat)(h:eF w lo hi xs [v])(bG:hi<=w.heap.size)(q:Bool)(g:q=true↔ago xs) :
  Calls (ah β) 44 #[v] w λe w'=>e=.returned (.bool q)/\Below w.heap.size w w':=by
 have N:=ab g;clear g;obtain⟨A,c,rfl⟩:=h.form;obtain⟨_,hc,Z⟩:=h.1.len_;unfold maxLen at Z;go_enter zd,ntmps44;go_wp2;go_loopw [3] (λii wr=>∃k:Nat,k<=xs.length/\ii=.int .i64 k/\(∀i x,i<k->xs[i]?=some x->anz xs i x)/\Below w.heap.size w wr) (λii _=>xs.length-(intOf ii).toNat)
 case atStart=>exact⟨0,fa _,rfl,λi x hi=>absurd hi (sx i),ff _ _⟩
 case round=>
  obtain⟨k,hk,rfl,p,G⟩:=hrel;replace p:=ab p;by_cases r:k<xs.length
  .obtain⟨x,D⟩:=aq r;obtain⟨b0,a6,rfl,_,a5,B,E,R⟩:=jI (eF.aw.below h G bG) D;replace D:=ab D;cases a:gG x.p
   .replace a:=ab a;have f:q=false:=by
     rw[<-lc,N.out];rintro⟨-,h⟩;have h:=h k x D.out;have h:=h.1.1;rw[a.out] at h;cases h
    have s:=ab f;clear f;go_wp2;have o:=aj E;have n:=aj R;refine aG (by kernel_rfl) (by kernel_rfl) ?_;repeat(go_big_quiet_step (first|(go_at_call 70;refine dv (v:=.bool false) ?_;rw[<-a.out];exact jd x.p B.1 _)))
    refine iS ?_;intro O d;have g:=aN d;clear d o n;go_wp2;go_ret;exact⟨aA s.out.symm,ae G g⟩
   .replace a:=ab a;cases b:dw x.b
    .replace b:=ab b;have f:q=false:=by
      rw[<-lc,N.out];rintro⟨-,h⟩;have h:=h k x D.out;have h:=h.1.2;rw[b.out] at h;cases h
     have s:=ab f;clear f;go_wp2;have o:=aj E;have n:=aj R;refine aG (by kernel_rfl) (by kernel_rfl) ?_;repeat(go_big_quiet_step (first|(go_at_call 70;refine dv (v:=.bool true) ?_;rw[<-a.out];exact jd x.p B.1 _)|(go_at_call 71;refine dv (v:=.bool false) ?_;rw[<-b.out];exact jc x.b B.2 _)))
     refine iS ?_;intro O d;have g:=aN d;clear d o n;go_wp2;go_ret;exact⟨aA s.out.symm,ae G g⟩
    .replace b:=ab b;by_cases fS:k=0
     case' pos=>
      have Y:=bv (show ¬(0<k) by omega);have U:afF x/\∀y,0<k->xs[k-1]?=some y->Op.bytesLess y.p.toList x.p.toList=true:=⟨⟨a.out,b.out⟩,λy h0=>by omega⟩;have jG:=ab U;clear U;clear fS;go_wp2;have o:=aj E;have n:=aj R;refine aG (by kernel_rfl) (by kernel_rfl) ?_;repeat(go_big_quiet_step (first|(go_at_call 70;refine dv (v:=.bool true) ?_;rw[<-a.out];exact jd x.p B.1 _)|(go_at_call 71;refine dv (v:=.bool true) ?_;rw[<-b.out];exact jc x.b B.2 _)))
      refine iS ?_;intro O d;have g:=aN d;clear d o n
     case' neg=>
      obtain⟨k',S⟩:∃m,m=k-1:=⟨_,rfl⟩;have e1:(k:Int)-1=((k':Nat):Int):=by omega
      have a2:k'<xs.length:=by omega
      have Y:=de (show 0<k by omega);obtain⟨z,t⟩:=aq a2;obtain⟨b1,V,F,_,_,a7,P,_⟩:=jI (eF.aw.below h G bG) t;simp only[lw,qo,qk] at F;obtain⟨rfl,rfl⟩:=F;replace t:=ab t;have T:=ab S;have a1:0<k:=by omega
      clear S;cases L:Op.bytesLess z.p.toList x.p.toList
      .have M:=ab L;have f:q=false:=by
        rw[<-lc,N.out];rintro⟨-,h⟩;have h:=h k x D.out;have h:=h.2.1 z a1 (by rw[<-T.out];exact t.out);rw[M.out] at h;cases h
       have s:=ab f;clear f;go_wp2;have o:=aj E;have n:=aj R;have cB:=aj P;refine aG (by kernel_rfl) (by kernel_rfl) ?_;repeat(go_big_quiet_step (first|(go_at_call 70;refine dv (v:=.bool true) ?_;rw[<-a.out];exact jd x.p B.1 _)|(go_at_call 71;refine dv (v:=.bool true) ?_;rw[<-b.out];exact jc x.b B.2 _)))
       refine iS ?_;intro O d;have g:=aN d;clear d o n cB;go_wp2;go_ret;exact⟨aA s.out.symm,ae G g⟩
      have M:=ab L;have U:afF x/\∀y,0<k->xs[k-1]?=some y->Op.bytesLess y.p.toList x.p.toList=true:=⟨⟨a.out,b.out⟩,λy h0 hy=>by
       rw[<-T.out,t.out] at hy;cases hy;exact M.out⟩
      have jG:=ab U;clear U;go_wp2;have o:=aj E;have n:=aj R;have cB:=aj P;refine aG (by kernel_rfl) (by kernel_rfl) ?_;repeat(go_big_quiet_step (first|(go_at_call 70;refine dv (v:=.bool true) ?_;rw[<-a.out];exact jd x.p B.1 _)|(go_at_call 71;refine dv (v:=.bool true) ?_;rw[<-b.out];exact jc x.b B.2 _)))
      refine iS ?_;intro O d;have g:=aN d;clear d o n cB;clear P L e1
     all_goals
      have X:=ae G g;clear E R Y;go_wp2;go_loopw [4] (λjj wr=>∃j:Nat,j<=k/\jj=.int .i64 j/\(∀i y,i<j->xs[i]?=some y->je y.p x.p=false)/\Below w.heap.size w wr) (λjj _=>k-(intOf jj).toNat)
      case atStart=>exact⟨0,fa _,rfl,λi y hi=>absurd hi (sx i),X⟩
      case round=>
       clear X g;obtain⟨j,hj,rfl,C,u⟩:=hrel;replace C:=ab C;by_cases W:j<k
       .obtain⟨y,Q⟩:=aq (l:=xs) (k:=j) (by omega);obtain⟨b1,V,F,_,_,a4,P,_⟩:=jI (eF.aw.below h u bG) Q;simp only[lw,qo,qk] at F;obtain⟨rfl,rfl⟩:=F;obtain⟨b1,V,F,_,_,_,E,_⟩:=jI (eF.aw.below h u bG) D.out;simp only[lw,qo,qk] at F;obtain⟨rfl,rfl⟩:=F;have a3:0<y.p.size:=by
         have:=kU (p.out j y W Q).1.1;omega
        have a0:0<x.p.size:=by have:=kU jG.out.1.1;omega
        have HC:=ab (λw':World=>ahD (β:=β) y.p x.p ⟨a3,a4.1⟩ ⟨a0,B.1⟩ w');replace Q:=ab Q;cases H:je y.p x.p
        .replace H:=ab H;have I:∀i z,i<j+1->xs[i]?=some z->je z.p x.p=false:=λi z hi J=>by
          rcases oR i j with r|nR
          .exact C.out i z r J
          .obtain rfl:i=j:=by omega
           rw[Q.out] at J;cases J;exact H.out
         replace I:=ab I;go_wp2;have o:=aj P;have n:=aj E;refine aG (by kernel_rfl) (by kernel_rfl) ?_;repeat(go_big_quiet_step (first|(go_at_call 78;refine eL (v:=.bool false) ?_;rw[<-H.out];exact HC.out _)))
         refine iS ?_;intro O d;have g:=aN d;clear d o n;go_wp2;go_roundw
         case rel=>exact⟨j+1,by omega,by go_num,I.out,ae u g⟩
         simp[intOf];omega
        .replace H:=ab H;have f:q=false:=by
          rw[<-lc,N.out];rintro⟨-,h⟩;have h:=h k x D.out;have h:=h.2.2 j y W Q.out;rw[H.out] at h;cases h
         have s:=ab f;clear f;go_wp2;have o:=aj P;have n:=aj E;refine aG (by kernel_rfl) (by kernel_rfl) ?_;repeat(go_big_quiet_step (first|(go_at_call 78;refine eL (v:=.bool true) ?_;rw[<-H.out];exact HC.out _)))
         refine iS ?_;intro O d;have g:=aN d;clear d o n;go_wp2;go_ret;exact⟨aA s.out.symm,ae u g⟩
       .obtain rfl:j=k:=by omega
        have K:∀i z,i<j+1->xs[i]?=some z->anz xs i z:=λi z hi J=>by
         rcases oR i j with r|nR
         .exact p.out i z r J
         .obtain rfl:i=j:=by omega
          rw[D.out] at J;cases J;exact⟨jG.out.1,jG.out.2,C.out⟩
        replace K:=ab K;go_wp2;go_roundw
        case rel=>exact⟨j+1,by omega,by go_num,K.out,u⟩
        simp[intOf];omega
  .obtain rfl:k=xs.length:=by omega
   by_cases h6:xs.length<=6
   .have Y:=de (show(xs.length:Int)<=6 by omega);have f:q=true:=N.out.2 ⟨h6,λi x Z=>p.out i x (aH Z) Z⟩;have s:=ab f;clear f;go_wp2;go_ret;exact⟨aA s.out.symm,G⟩
   .have Y:=bv (show ¬((xs.length:Int)<=6) by omega);have f:q=false:=by
     rw[<-lc,N.out];rintro⟨h, -⟩;exact h6 h
    have s:=ab f;clear f;go_wp2;go_ret;exact⟨aA s.out.symm,G⟩
open Classical in
def aaP(xs:List Nd)(v:Value)(w:World)(lo hi:Nat)(h:eF w lo hi xs [v])(b:hi<=w.heap.size) :
  Calls (ah β) 44 #[v] w λe a=>ahC (kg xs) e/\Below w.heap.size w a:=
 (agp xs v w lo hi h b (decide (kg xs)) (by rw[decide_eq_true_iff,ai6])).mono λe a ⟨he,hb⟩=>⟨he▸ahC.of λh=>sH h,hb⟩
end
section
variable {β:Bool}
open Go.RowKit
def anA(p:List Nd->Prop)(w:World)(e:Ending)(w':World):Prop:=∃v a,e=.returned v/\aD jT 50 w' w.heap.size v a/\p a/\Below w.heap.size w w'
def ai8(xs:List Nd)(s:ByteArray)(v:Value)(w:World)(lo hi:Nat)(h:eF w lo hi xs [v])(r:hi<=w.heap.size)(N:xs.length<=1000) :
  Calls (ah β) 41 #[v,.string s] w (anA (λys=>ys.Sublist xs) w):=by
 obtain⟨A,c,rfl⟩:=h.form;go_enter zg,ntmps41;go_wp2;have f:=aB w (.cells #[] 50);have e:aD jT 50 (w.alloc (.cells #[] 50)) w.heap.size (.slice (some ⟨w.heap.size,0,none⟩) 0 0) []:=(eD.new w 50 (am _)).own 2;generalize w.alloc (.cells #[] 50)=w0 at *;go_loopw [5,6] (λz p wr=>∃(k:Nat) (ys:List Nd),k<=xs.length/\p=.int .i64 k/\aD jT 50 wr w.heap.size z ys/\ys.Sublist (xs.take k)/\Below w.heap.size w wr) (λ_ p _=>xs.length-(intOf p).toNat)
 case atStart=>exact⟨0,[],fa _,rfl,e,List.Sublist.refl _,f⟩
 case round=>
  clear e f;obtain⟨k,ys,I,rfl,g,j,d⟩:=hrel;obtain⟨D,y,rfl⟩:=g.form;have t:ys.length<=k:=by have:=j.length_le;rw[fi] at this;omega
  by_cases m:k<xs.length
  .obtain⟨x,l⟩:=aq m;obtain⟨G,u,rfl,_,C,H,P,M⟩:=jI (eF.aw.below h d r) l;have a:(ys++[x]).Sublist (xs.take (k+1)):=by rw[mu l];exact j.append (List.Sublist.refl _)
   have b:ys.Sublist (xs.take (k+1)):=by rw[mu l];exact j.trans (List.sublist_append_left _ _)
   replace a:=ab a;replace b:=ab b;clear l j;cases J:(x.p.toList ==s.toList)
   .go_wp2_with(at_builtin;refine bR (F:=jT) (v:=.slice D ys.length y) rfl (.tmp 21) (.tmp 26) 30 rfl lJ x rfl g rfl rfl (by omega) d.size ?_;intro O K n o q;obtain⟨E,L,rfl⟩:=n.form;simp only[ap,fm,me,ls] at n);go_roundw
    case rel=>
     exact⟨k+1,ys++[x],by omega,by go_num,by simpa using n,a.out,d.trans (o.below d.size λi hi B=>by have:=(g.at_ B).1;omega)⟩
    case measure=>simp[intOf];omega
   .go_wp2;go_roundw
    case rel=>exact⟨k+1,ys,by omega,by go_num,g,b.out,d⟩
    simp[intOf];omega
  .obtain rfl:k=xs.length:=by omega
   go_wp2;go_ret;exact⟨_,ys,rfl,g,by rwa [gt] at j,d⟩
def ale(xs:List Nd)(f:Nd)(hf:jT.good f)(v:Value)(w:World)(lo hi:Nat)(h:eF w lo hi xs [v])(bG:hi<=w.heap.size)(hl:xs.length<=1000) :
  Calls (ah β) 72 #[v,.agg #[.string f.p,.string f.b]] w (anA (λa=>(∀y∈a,y∈xs\/y=f)/\a.length<=xs.length+1) w):=by
 obtain⟨A,c,rfl⟩:=h.form;go_enter yK,ntmps72;go_wp2;generalize hG:(w.alloc (.cells #[.string f.p,.string f.b] 50)).alloc (.cells #[] 50)=w0 at *;obtain⟨aM,jU,k0,dV,gz,k1,a1,a6⟩:=ahB hG;clear hG;have O:aD jT 50 w0 (w.heap.size+1) (.slice (some ⟨w.heap.size+1,0,none⟩) 0 0) []:=eD.own ⟨_,rfl,am _,k1⟩ 2;clear k1 a1 a6 dV gz;go_loopw [5,6,7] (λoo dd ii wr=>∃(k:Nat) (d:Bool) (a:List Nd),k<=xs.length/\ii=.int .i64 k/\dd=.bool d/\aD jT 50 wr (w.heap.size+1) oo a/\(∀y∈a,y∈xs\/y=f)/\a.length<=k+(if d then 1 else 0)/\Below (w.heap.size+1) w0 wr) (λ_ _ ii _=>xs.length-(intOf ii).toNat)
 case atStart=>exact⟨0,false,[],fa _,rfl,rfl,O,λy b=>(by cases b),am _,ff _ _⟩
 case round=>
  clear O;obtain⟨k,d,a,hk,rfl,rfl,p,b,g,n⟩:=hrel;obtain⟨Y,X,rfl⟩:=p.form;have S:bW wr w.heap.size 50 #[.string f.p,.string f.b]:=(n.block _ (by omega)).trans k0;have l:wr.cell? ⟨w.heap.size,0,none⟩=some (.string f.p):=S.cell 0;have u:wr.cell? ⟨w.heap.size,1,none⟩=some (.string f.b):=S.cell 1;have e:Below w.heap.size w wr:=aM.trans (n.mono (by omega));have E:=ab b;clear b;by_cases a2:k<xs.length
  .obtain⟨x,I⟩:=aq a2;obtain⟨b1,af,rfl,_,an,hg,L,c1⟩:=jI (eF.aw.below h e bG) I;have HX:=ab (be I);replace I:=ab I;clear L c1;cases d
   case' true=>
    go_wp2;have t:=aj l;refine aG (by kernel_rfl) (by kernel_rfl) ?_;repeat(go_big_quiet_step (fail))
    refine iS ?_;intro V m;have j:=aN m;clear m t;have C:=n.trans (j.mono (by have:=n.size;omega));have oz:=p.below j;clear p l u n e S;go_wp2;have q:=E;have o:=g;clear E g;generalize Y=A2 at *;generalize X=W at *;generalize a=ys2 at *
   case' false=>
    cases T:Op.bytesLess x.p.toList f.p.toList
    case' false=>
     obtain⟨b2,nP,B,_,_,_,L,_⟩:=jI (eF.aw.below h e bG) I.out;simp only[lw,qo,qk] at B;obtain⟨rfl,rfl⟩:=B;go_wp2;have t:=aj L;have H:=aj l;refine aG (by kernel_rfl) (by kernel_rfl) ?_;repeat(go_big_quiet_step (fail))
     refine iS ?_;intro V m;have j:=aN m;clear m t H;have z:=n.trans (j.mono (by have:=n.size;omega));have J:=p.below j;have a4:=fC j l;have a5:=fC j u;have a8:a.length<=k:=by simpa using g
     clear p L l u T;go_wp2_with(at_builtin;refine bR (F:=jT) (v:=.slice Y a.length X) rfl (.tmp 27) (.tmp 29) 30 rfl lJ f rfl J rfl rfl (by omega) (by have:=z.size;omega) ?_;intro va Z G K a3;obtain⟨A2,W,rfl⟩:=G.form;simp only[ap,fm,me,ls] at G);have oz:aD jT 50 Z (w.heap.size+1) (.slice A2 (a++[f]).length W) (a++[f]):=by simpa using G
     have C:Below (w.heap.size+1) w0 Z:=z.trans (K.below (by have:=z.size;omega) λi hi R=>by have:=(J.at_ R).1;omega);have q:Hid (∀y∈a++[f],y∈xs\/y=f):=ab λy b=>by
      rcases jt.1 b with b|b
      .exact E.out y b
      .exact .inr (gE.1 b)
     have o:(a++[f]).length<=k+(if true then 1 else 0):=by simp;omega
     have D:(a++[f]).length=a.length+1:=by simp
     rw[<-D];clear D G J z n e S g a4 a5;clear E;generalize a++[f]=ys2 at *
    case' true=>
     obtain⟨b2,nP,B,_,_,_,L,_⟩:=jI (eF.aw.below h e bG) I.out;simp only[lw,qo,qk] at B;obtain⟨rfl,rfl⟩:=B;go_wp2;have t:=aj L;have H:=aj l;refine aG (by kernel_rfl) (by kernel_rfl) ?_;repeat(go_big_quiet_step (fail))
     refine iS ?_;intro V m;have j:=aN m;clear m t H;have C:=n.trans (j.mono (by have:=n.size;omega));have oz:=p.below j;clear p L l u T n e S;go_wp2;have q:=E;have o:=g;clear E g;generalize Y=A2 at *;generalize X=W at *;generalize a=ys2 at *
   all_goals
    rename World=>wz
    have M:bW wz w.heap.size 50 #[.string f.p,.string f.b]:=((C).block _ (by omega)).trans k0;have r:(wz).cell? ⟨w.heap.size,0,none⟩=some (.string f.p):=M.cell 0;have N:Below w.heap.size w wz:=aM.trans ((C).mono (by omega));obtain⟨b3,aa,B,_,_,_,Q,d1⟩:=jI (eF.aw.below h N bG) I.out;simp only[lw,qo,qk] at B;obtain⟨rfl,rfl⟩:=B;cases P:(x.p.toList ==f.p.toList)
    .have t:=aj Q;have H:=aj r;refine aG (by kernel_rfl) (by kernel_rfl) ?_;repeat(go_big_quiet_step (fail))
     refine iS ?_;intro V m;have j:=aN m;clear m t H;have U:=(C).trans (j.mono (by have:=(C).size;omega));have s:=(oz).below j;have a7:=fC j Q;have ad:=fC j d1;have a9:(ys2).length<=k+1:=da o (by simp);have HL:=ab o;clear Q d1 r P N M;go_wp2_with(at_builtin;refine bR (F:=jT) (v:=.slice A2 (ys2).length W) rfl (.tmp 39) (.tmp 44) 30 rfl lJ x rfl s rfl rfl (by omega) (by have:=U.size;omega) ?_;intro vb wb ob a0 al;obtain⟨Ab,cb,rfl⟩:=ob.form);go_roundw
     case rel=>
      refine⟨k+1,_,ys2++[x],by omega,by go_num,rfl,by simpa using ob,λy b=> ?_,by have:=HL.out;rw[ap];simp at this ⊢;omega,U.trans (a0.below (by have:=U.size;omega) λi hi R=>by have:=(s.at_ R).1;omega)⟩;rcases jt.1 b with b|b
      .exact(q).out y b
      .rw[gE.1 b];exact .inl HX.out
     case measure=>simp[intOf];omega
    .have t:=aj Q;have H:=aj r;refine aG (by kernel_rfl) (by kernel_rfl) ?_;repeat(go_big_quiet_step (fail))
     refine iS ?_;intro V m;have j:=aN m;clear m t H;have U:=(C).trans (j.mono (by have:=(C).size;omega));have s:=(oz).below j;have HL:=ab o;clear Q d1 r P N M;go_wp2;go_roundw
     case rel=>exact⟨k+1,_,ys2,by omega,by go_num,rfl,s,(q).out,by have:=HL.out;simp at this ⊢;omega,U⟩
     simp[intOf];omega
  .obtain rfl:k=xs.length:=by omega
   cases d
   .go_wp2_with(at_builtin;refine bR (F:=jT) (v:=.slice Y a.length X) rfl (.tmp 48) (.tmp 50) 30 rfl lJ f rfl p rfl rfl (by simp at g;omega) (by have:=n.size;omega) ?_;intro va Z G K a3;obtain⟨Aa,ca,rfl⟩:=G.form;simp only[ap,fm,me,ls] at G);go_ret;refine⟨_,a++[f],rfl,(by simpa using G:aD jT 50 Z (w.heap.size+1) (.slice Aa (a.length+1) ca) (a++[f])).base (by omega),⟨λy b=> ?_,by simp at g ⊢;omega⟩,e.trans (K.below e.size λi hi R=>by have:=(p.at_ R).1;omega)⟩;rcases jt.1 b with b|b
    .exact E.out y b
    .exact .inr (gE.1 b)
   .go_wp2;go_ret;exact⟨_,a,rfl,p.base (by omega),⟨E.out,by simpa using g⟩,e⟩
def arC(w:World)(e:Ending)(w':World):Prop:=∃v a q,e=.returned (.tuple #[v,.bool q])/\aD jT 50 w' w.heap.size v a/\kg a/\Below w.heap.size w w'
def pH{b:List Nd}(h:kg b):∀y∈b,jT.good y:=λy c=>by
 have d:=kU (h.1 y c).1;have a:=(h.1 y c).2;unfold dw at a;rw[fb] at a;have e:=sH a.1;exact⟨by unfold maxLen;omega,by unfold maxLen;omega⟩
def ac6(xs:List Nd)(p b:ByteArray)(u:p.size<=maxLen)(o:b.size<=maxLen)(v:Value)(w:World)(lo hi:Nat)(h:eF w lo hi xs [v])(i:hi<=w.heap.size)(N:xs.length<=1000) :
  Calls (ah β) 38 #[v,.string p,.string b] w (arC w):=by
 obtain⟨A,c,rfl⟩:=h.form;go_enter zk,ntmps38;go_wp2;refine(aaP xs _ w lo hi h i).mono ?_;rintro e f ⟨⟨rfl,g⟩|rfl,a⟩
 .replace g:=ab g;go_wp2;refine(jd p u f).mono ?_;rintro e n ⟨rfl,rfl⟩;cases R:gG p
  .go_wp2;exact ph (v:=.tuple #[.slice (some ⟨(f).heap.size,0,none⟩) 0 0,.bool false]) (by simp[results,results38,go_sem]) rfl ⟨_,[],false,rfl,(eD.new f 50 (a).size).own 2,.nil,(a).alloc (a).size _⟩
  .go_wp2;refine(jc b o f).mono ?_;rintro e n ⟨rfl,rfl⟩;cases I:dw b
   .go_wp2;exact ph (v:=.tuple #[.slice (some ⟨(f).heap.size,0,none⟩) 0 0,.bool false]) (by simp[results,results38,go_sem]) rfl ⟨_,[],false,rfl,(eD.new f 50 (a).size).own 2,.nil,(a).alloc (a).size _⟩
   .go_wp2;refine(ale xs ⟨p,b⟩ ⟨u,o⟩ _ f lo hi (eF.aw.below h a i) (da i a.size) N).mono ?_;rintro e n ⟨V,m,rfl,r,⟨D,J⟩,z⟩;obtain⟨Q,L,rfl⟩:=r.form;have s:∀y∈m,jT.good y:=λy O=>by
     rcases D y O with K|rfl
     .exact pH g.out y K
     .exact⟨u,o⟩
    have U:=z.size;have P:=(r.deep s f.heap.size).sl (am _);go_wp2;refine(aaP m _ n f.heap.size n.heap.size P (am _)).mono ?_;rintro e E ⟨⟨rfl,l⟩|rfl,q⟩
    .have t:=ab l;have d:=ae (ae a z) q;have M:=(r.below q).base a.size;clear l;go_wp2;exact ph (v:=.tuple #[.slice Q m.length L,.bool true]) (by simp[results,results38,go_sem]) rfl ⟨_,m,true,rfl,M,t.out,d⟩
    .have d:=ae (ae a z) q;have k:=mz (F:=jT) (eF.aw.below h d i).1 (da i d.size);have x:=ab k;have j:=aB E (.cells #[] 50);have B:=ab (eD.new E 50 (am _));clear k;go_wp2_with(at_builtin;refine abC (F:=jT) (xs:=xs) j rfl (.tmp 31) (.tmp 32) 30 rfl lJ (am _) rfl rfl B.out x.out (by omega) ?_;intro T S C G;obtain⟨A',H,rfl⟩:=G.form);exact ph (v:=.tuple #[.slice A' xs.length H,.bool false]) (by simp[results,results38,go_sem]) rfl ⟨_,xs,false,rfl,G.base d.size,g.out,ae d (ae j C)⟩
 .go_wp2;exact ph (v:=.tuple #[.slice (some ⟨(f).heap.size,0,none⟩) 0 0,.bool false]) (by simp[results,results38,go_sem]) rfl ⟨_,[],false,rfl,(eD.new f 50 (a).size).own 2,.nil,(a).alloc (a).size _⟩
end
section
variable {β:Bool}
open Go.RowKit
def auH(p:Prop):∃q:Bool,q=true↔p:=by
 by_cases h:p
 .exact⟨true,by simp[h]⟩
 .exact⟨false,by simp[h]⟩
def auI{l:List Sp}(h:ixP l):∀x∈l,FSp.good x:=λx a=>by
 have:=h.1 x a;unfold spP at this;refine⟨?_, ?_⟩<;>unfold cA<;>omega
end
section
variable {β:Bool}
open Go.RowKit
def agq:∀{a l:List Sp} {x:Sp},x∈dY a l->x∈a\/x∈l
 |[],_,_,h=>.inr h
 |s::a,l,x,h=>by
  have b:x∈dY a (fG s l):=h;rcases agq b with h|h
  .exact .inl (by simp[h])
  .rcases abD h with rfl|h
   .exact .inl (by simp)
   .exact .inr h
instance aEa:Inhabited Tr:=⟨.nil⟩
end
end Go.Proofs.YtepfjblhjlefiaaGreatDoor