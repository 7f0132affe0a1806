/- A part. -/
import Derived.Test.YtmicddpknimniaaGreatDoorG2
import Derived.StillTail
import Derived.Deep.RegionHeld3
import Derived.Deep.RegionLaw
import Derived.Laws.OwnMore
set_option maxRecDepth 100000
set_option maxHeartbeats 8000000
set_option linter.all false
open Go Go.RowKit Go.Proofs.Tryz Go.Proofs.YtmicddpknimniaaGreatDoor
variable {Z N b base' c g hi i j k lo m n:Nat} {X a:Act} {key:Int} {Y:Type} {o:Oper} {p:Addr} {u v:Value} {w w' w2 x:World} {e t:TypeId} {f:FuncId} {P:Program} {S:Nat→Prop} {l:List Int} {T rest:List Oper} {s:ByteArray} {W:Array Oper} {O:List Value} {d:Option Tmp} {listed:Array Bool} {U cs es:Array Value} {A:Option Addr} {V:Act→World→Prop} {R Q:Exit→Act→World→Prop} {E:fU Y} {xs:List Y}
namespace Go.Proofs.YtmicddpknimniaaGreatDoor
def gc:=@Go.RowKit.Below.refl
def gn:=@List.take_length
def jn:=@List.mem_singleton
def lc:=@Bool.not_eq_true
def lw:=@List.length_nil
def lE:=@Go.wpQuiet_nil
def me:=@Go.World.size_alloc
def mp:=@List.getElem?_eq_some_iff
def pi:=@List.getD_cons_zero
def pm:=@List.getD_cons_succ
def pY:=@List.length_drop
def qa:=@List.mem_flatMap
def qg:=@List.pairwise_iff_getElem
def qv:=@Go.Addr.mk.injEq
def qG:=@Int.eq_ofNat_of_zero_le
def qH:=@decide_eq_true_eq
def qK:=@List.nodup_cons
def qM:=@List.length_set
def qV:=@Nat.min_eq_left
def rq:=@List.nodup_append
def ry:=@List.mem_append_right
def rG:=@List.pairwise_append
def rH:=@List.mem_append_left
def rK:=@List.pairwise_singleton
def rM:=@List.flatMap_append
def rN:=@Nat.succ_mul
def rQ:=@List.pairwise_cons
def rR:=@Nat.not_lt_zero
def rU:=@Nat.le_of_succ_le
def rZ:=@Nat.add_sub_cancel_left
def sB:=@List.mem_filter
def sH:=@List.getD_eq_getElem?_getD
def sI:=@of_decide_eq_true
def sJ:=@List.foldl_append
def sK:=@Int.toNat_natCast
def sT:=@List.getElem?_take_of_lt
def sV:=@Go.World.block_lt_of_cell?
def tc:=@List.getElem?_drop
def tf:=@List.append_nil
def tn:=@Nat.lt_trichotomy
def tw:=@List.take_append_drop
def tE:=@Go.getD_replicate_false
def tF:=@List.mem_of_mem_drop
def tG:=@Go.IntKind.wrap_i64
def tK:=@Nat.mul_one
def tO:=@List.drop_eq_getElem_cons
def tQ:=@true_iff
def tX:=@eq_comm
def ua:=@Bool.false_and
def uc:=@List.filter_cons_of_pos
def ud:=@List.filter_cons_of_neg
def un:=@Bool.true_and
def uA:=@Nat.zero_mul
def uC:=@Nat.mod_lt
def uH:=@List.take_succ_cons
def uN:=@Int.emod_lt_of_pos
def uP:=@Nat.mod_two_eq_zero_or_one
def uV:=@Go.World.ownsRow_nil
def vA:=@Int.emod_nonneg
def vJ:=@List.take_take
def vK:=@List.set_append_right
section
variable {β:Bool}
def ahc:Op->Bool
 |.move .. | .assign .. | .pick .. | .load .. | .binOp .. | .unOp .. | .convert .. | .slice .. | .fieldAddr .. | .field .. | .indexAddr .. | .index .. | .lookup .. | .extract .. | .build .. | .typeAssert .. | .makeInterface .. | .makeFunc .. | .nilCheck .. =>true
 |.call c=>match c.callee with
  |.builtin .len=>true
  |_=>false
 |_=>false
def ahd(h:ahc o.op=true){ρ:Operand->Value}{args:Array Value}:(execOp ρ o).run P w ≠ .ok (.enter f args) w':=by
 obtain⟨dst,op,j,k,after,g⟩:=o;cases op<;>simp only[ahc,kw] at h
 case nilCheck x=>
  simp only[execOp];intro a;split at a
  .simp[runtimePanic] at a
  .simp[runtimePanic] at a
  .simp[runtimePanic] at a
  .split at a
   .simp[runtimePanic] at a
   .revert a;simp only[tv];generalize (Sem.run P program w:Result _)=r;cases r with
    |halt x i=>simp[Result.andThen]
    |ok p i=>
     simp only[Result.andThen];generalize (Sem.run P (nilAhead _ _ _ _) i:Result _)=r2;cases r2 with
     |halt x l=>simp
     |ok b l=>
      simp only;split
      .simp[unsupported]
      .simp
   .simp at a
  .simp at a
 case call c=>
  obtain⟨d,args,e⟩:=c;cases d with
  |value x=>cases h
  |invoke x n=>cases h
  |builtin b=>
   cases b<;>first
    |(exfalso;cases h;done)
    |(simp only[execOp,resolve,invoke,builtin,tv,tS,ue]
      intro a;revert a;generalize (Sem.run P (Builtin.len_ _ _ _) w:Result _)=r;cases r<;>simp[Result.andThen])
 all_goals simp only[execOp,tv,tS]
 all_goals intro a
 all_goals
  first
   |(cases a;done)
   |(revert a;generalize (Sem.run P _ w:Result _)=r;cases r<;>simp[Result.andThen];done)
   |(revert a;generalize (Sem.run P _ w:Result _)=r;cases r<;>simp[Result.andThen];generalize (Sem.run P _ _:Result _)=r;cases r<;>simp;done)
def kE(o:Oper)(i:Nat):Bool:=o.after.any λe=>Region.binds .any e&&e.on ==i
def aix(h:kE o i=true):∃e∈o.after,Region.binds .any e=true/\e.on=i:=by
 obtain⟨e,a,h⟩:=Array.any_eq_true'.1 h;simp only[fd,mw] at h;exact⟨e,a,h.1,h.2⟩
def aqJ(i:a.tmps.size=X.tmps.size)(h:X.put d u=X.put d v):a.put d u=a.put d v:=by
 cases d with
 |none=>rfl
 |some t=>
  rcases oR t a.tmps.size with e|g
  .have f:=fi (λb:Act=>b.tmps[t]?) h;have c:t<X.tmps.size:=i▸e;simp[Act.put,c] at f;rw[f]
  .simp[Act.put,Array.setIfInBounds,Nat.not_lt.2 g]
section
variable {P:Program} {ops:Array Oper}
def aoz  (hi:ops[i]?=some o)  {G:Value->World->Prop}  
  (y:a.tmps.size=X.tmps.size) (z:execOp a.eval o=execOp X.eval o) (t:Region.wanted o (yielded ops a.tmps)=Region.wanted o (yielded ops X.tmps))
  (h:wpList P ops (λe b w=>e=.normal/\∃v,b=X.put o.dst v/\G v w) [o] X w)
  (s:∀v w,G v w->V (a.put o.dst v) w):wpOp P ops Q i V a w:=by
 have g:∀{u:Value} {k:World},(∃v,X.put o.dst u=X.put o.dst v/\G v k)->V (a.put o.dst u) k:=by
  rintro u k ⟨v,p,q⟩;rw[aqJ y p];exact s _ _ q
 unfold wpOp;simp only[hi];unfold wpList at h;rw[<-t] at h;split
 .rename_i j;rw[dk j] at h;rcases h with h|⟨_,b,k,m,_⟩
  .refine .inl ?_;unfold Oper.wp at *;rw[<-z] at h;generalize (execOp a.eval o).run P w=r at *;cases r with
   |ok A k=>
    cases A<;>simp only[Oper.upon,wpList] at h ⊢
    case value u=>exact g h.2
    case skip=>exact g h.2
    case defer d=>
     obtain⟨_,v,p,_⟩:=h;have:=fi (λb:Act=>b.defers.length) p;cases hd:o.dst<;>simp[Act.put,hd] at this
    case enter f args=>
     refine h.mono λe n l=> ?_;cases e with
     |returned u=>exact g l.2
     |panicked c=>cases l.1
     |outgrown=>
      obtain⟨b,B,m,_⟩:=l;cases m
    case row row args=>exact Rows.mono h λu n l=>g l.2
   |halt x k=>
    cases x<;>simp only[Oper.upon] at h ⊢
    case panic u=>cases h.1
  .cases m
 .rename_i j;rw[be j] at h;exact g h.2
def aiy(ops:Array Oper)(n:Nat):Bool:=
 (n ==ops.size||(decide (n<ops.size)&&Region.sinkB .any ops n&&Region.chainB .any ops n))&&Region.seqB .any ops (ops.size-n) n ((Array.replicate n true)++Array.replicate (ops.size-n) false)
def am6(ops:Array Oper)(n:Nat):Bool:=
 (List.range n).all λi=>match ops[i]? with
  |some o=>o.after.all λe=>!Region.binds .any e||decide (e.on<i)
  |none=>false
def aoA(h:am6 ops n=true)(hi:i<n)(b:ops[i]?=some o){e:Edge}(c:e∈o.after)(f:Region.binds .any e=true):e.on<i:=by
 have a:=jt.1 h i (qh.2 hi);simp only[b] at a;have d:=Array.all_eq_true_iff_forall_mem.1 a e c;simpa[f] using d
def left(n:Nat)(listed:Array Bool):Nat:=((List.range n).filter λi=>listed.getD i true ==false).length
def aiz[DecidableEq Y]{l:List Y}(d:l.Nodup){p q:Y->Bool}{i:Y}(hi:i∈l)(k:p i=true)(m:q i=false)(f:∀j,j≠i->p j=q j):(l.filter p).length=(l.filter q).length+1:=by
 induction l with
 |nil=>cases hi
 |cons a t n=>
  rw[qK] at d;by_cases c:a=i
  .subst c;rw[uc k,ud (by simp[m])];have:t.filter p=t.filter q:=List.filter_congr λj o=>f j λe=>d.1 (e▸o);simp[this]
  .have g:i∈t:=by
    rcases jp.1 hi with h|h
    .exact absurd h.symm c
    .exact h
   have:=n d.2 g;by_cases b:p a=true
   .rw[uc b,uc (by rw[<-f a c];exact b)];simp[this]
   .rw[ud b,ud (by rw[<-f a c];exact b)];exact this
def aqK(hi:i<n)(h:listed.getD i true=false):left n listed=left n (listed.setIfInBounds i true)+1:=by
 have c:i<listed.size:=by
  rcases oR i listed.size with a|a
  .exact a
  .simp[pZ a] at h
 refine aiz List.nodup_range (qh.2 hi) (by rw[h];rfl) (by simp[c]) λj b=> ?_;rw[getD_set_ne true (sP b)]
def aoB(h:0<left n listed):∃i,i<n/\listed.getD i true=false/\∀j,j<i->listed.getD j true=true:=by
 unfold left at h;have f:∃i,i<n/\listed.getD i true=false:=by
  obtain⟨i,b⟩:=List.exists_mem_of_length_pos h;rw[sB,qh] at b;exact⟨i,b.1,by simpa using b.2⟩
 obtain⟨i,b⟩:=f;clear h
 induction i using Nat.strongRecOn with
 |_ i k=>
  by_cases a:∀j,j<i->listed.getD j true=true
  .exact⟨i,b.1,b.2,a⟩
  .have g:∃j,j<i/\listed.getD j true=false:=by
    apply qz;intro c;exact a λj d=>by
     cases e:listed.getD j true with
     |true=>rfl
     |false=>exact absurd ⟨j,d,e⟩ c
   obtain⟨j,d,e⟩:=g;exact k j d ⟨by omega,e⟩
def aoC(h:left n listed=0)(hi:i<n):listed.getD i true=true:=by
 unfold left at h;have a:=rY h;rw[List.filter_eq_nil_iff] at a;have:=a i (qh.2 hi);cases b:listed.getD i true with
 |true=>rfl
 |false=>rw[b] at this;simp at this
def af3(a:i<listed.size)(h:listed.getD i true=true):listed.getD i false=true:=by
 simp[a] at h ⊢;exact h
inductive Behind (ops:Array Oper):Nat->Nat->Prop where
 |aqL {i:Nat} {o:Oper} {e:Edge}:ops[i]?=some o->e∈o.after->Region.binds .any e=true->Behind ops i e.on
 |next {i j:Nat} {o:Oper} {e:Edge}:ops[i]?=some o->e∈o.after->Region.binds .any e=true->Behind ops e.on j->Behind ops i j
def ahe(ops:Array Oper):Nat->Nat->Nat->Bool
 |0,_,_=>false
 |f+1,i,j=>match ops[i]? with
  |some o=>o.after.any λe=>Region.binds .any e&&(e.on ==j||ahe ops f e.on j)
  |none=>false
def mg{ops:Array Oper}:∀(f i j:Nat),ahe ops f i j=true->Behind ops i j
 |0,_,_,h=>by cases h
 |f+1,i,j,h=>by
  unfold ahe at h;split at h
  .rename_i o b;obtain⟨e,c,h⟩:=Array.any_eq_true'.1 h;simp only[fd,qN,mw] at h;rcases h.2 with a|a
   .rw[<-a];exact .aqL b c h.1
   .exact .next b c h.1 (mg f _ _ a)
  .cases h
def afz{ops:Array Oper}(c:HeadInv .any ops n listed)(h:Behind ops i j):(∀o,ops[i]?=some o->∀e∈o.after,Region.binds .any e=true->listed.getD e.on false=true)->listed.getD j false=true:=by
 induction h with
 |aqL a g d=>exact λb=>b _ a _ g d
 |next a g d _ p=>exact λb=>p λm l q k f=>c.closed _ m l (b _ a _ g d) q k f
class aY (X:Type) where
 live:Nat->X->Prop
 down:∀m x,live (m+1) x->live m x
 pend:Nat->X->Prop
def atV(n:Nat)(listed:Array Bool):left n listed<=n:=by
 unfold left;exact bd (List.length_filter_le _ _) (by simp)
variable {X:Type} [aY X] {to:X->World} {le:X->X->Prop} {Q:Exit->Act->World->Prop}
def aqM (hn:n<=ops.size) (t:aiy ops n=true) (O:am6 ops n=true) (A:Act->Prop) (Φ:Nat->Act->X->Prop)
  (z:∀m i o,i<n->ops[i]?=some o->∀a x,A a->aY.live (m+1) x->aY.pend i x->(∀j,j<n->kE o j=true->Φ j a x)->∀K:Act->World->Prop,
   (∀v y,le x y->aY.live m y->(∀j,j≠i->¬Behind ops i j->aY.pend j x->aY.pend j y)->A (a.put o.dst v)->Φ i (a.put o.dst v) y->K (a.put o.dst v) (to y))->wpOp P ops Q i K a (to x))
  (I:∀i j o a x y v,i<n->j<n->i≠j->ops[j]?=some o->A a->Φ i a x->le x y->Φ i (a.put o.dst v) y)
  (L:∀a x,A a->(∀i,i<n->Φ i a x)->wpList P ops Q (ops.toList.drop n) a (to x)) :
  ∀(f:Nat) (listed:Array Bool) (a:Act) (x:X),left n listed=f->HeadInv .any ops n listed->A a->aY.live f x->(∀i,i<n->listed.getD i false=false->aY.pend i x)->(∀i,i<n->listed.getD i false=true->Φ i a x)->
   wpAny P .any ops Q (f+(ops.size-n)) listed a (to x):=by
 intro f
 induction f with
 |zero=>
  intro listed a x hf inv H G s l;have b:∀i,i<n->listed.getD i true=true:=λi k=>aoC hf k;have hL:listed=(Array.replicate n true)++Array.replicate (ops.size-n) false:=by
   apply Array.ext
   .rw[inv.size];simp;omega
   .intro i p h2;rcases oR i n with r|r
    .rw[Array.getElem_append_left (by simpa using r)];have:=b i r;simp[p] at this;simp[this]
    .rw[Array.getElem_append_right (by simpa using r)];have:=inv.tail i r (by rw[<-inv.size];exact p);simp[p] at this;simp[this]
  unfold aiy at t;rw[fd] at t;have g:(ops.toList.drop n).length=ops.size-n:=by simp
  rw[mc,<-g,hL];refine wpAny_of_seq _ n _ a (to x) (λj=>by rw[tc,dl]) (by rw[g];exact t.2) (L a x H λi k=>l i k ?_);exact af3 (by rw[inv.size];omega) (b i k)
 |succ f ih=>
  intro listed a x hf inv H G s l;obtain⟨u,S,E,Z⟩:=aoB (n:=n) (listed:=listed) (by omega);rw[show f+1+(ops.size-n)=(f+(ops.size-n))+1 by omega];have J:∀i∈Region.ready .any ops listed,i<n:=by
   intro i k;unfold aiy at t;simp only[fd,qN,mw,qH] at t;rcases t.1 with h|⟨⟨p,h2⟩,r⟩
   .obtain⟨_,o,D,_⟩:=mem_ready.1 k;rw[h];exact(de.1 D).1
   .rcases oR i n with h|h
    .exact h
    .exact absurd k (tail_waits h2 r p inv _ u rfl S E i h)
  refine⟨λh0=> ?_,λi k=> ?_⟩
  .exfalso;have C:u<ops.size:=aE S hn;have:u∈Region.ready .any ops listed:=mem_ready.2 ⟨E,ops[u],fm C,λe F B=>by
    have p:=aoA O S (fm C) F B;exact af3 (by rw[inv.size];omega) (Z _ p)⟩
   rw[h0] at this;cases this
  .have d:=J i k;obtain⟨q,o,D,b⟩:=mem_ready.1 k;have W:listed.getD i false=false:=by
    have V:i<listed.size:=by rw[inv.size];omega
    simp[V] at q ⊢;exact q
   refine z f i o d D a x H G (s i d W) (λj w hw=> ?_) _ λv y Y T M U N=> ?_
   .obtain⟨e,F,B,rfl⟩:=aix hw;exact l _ w (b e F B)
   .refine ih _ _ y ?_ (inv.set k d) U T (λj w g=> ?_) λj w g=> ?_
    .have:=aqK d q;omega
    .have c:j≠i:=by
      rintro rfl;have V:j<listed.size:=by rw[inv.size];omega
      simp[V] at g
     rw[getD_set_ne false (sP c)] at g;refine M j c (λR=> ?_) (s j w g);have:=afz inv R λo' nW e F B=>(by
      obtain rfl:o=o':=dq (D.symm.trans nW);exact b e F B)
     rw[this] at g;cases g
    .by_cases c:j=i
     .subst c;exact N
     .rw[getD_set_ne false (sP c)] at g;exact I j i o a x y v w d c D H (l j w g) Y
inductive ig (X:Type) where
 |fix (v:Value)
 |any (R:Value->X->Prop)
def ig.keep(le:X->X->Prop):ig X->Prop
 |.fix _=>True
 |.any R=>∀v x y,R v x->le x y->R v y
def ig.holds(r:ig X)(v:Value)(x:X):Prop:=
 match r with
 |.fix a=>v=a
 |.any R=>R v x
def Good(P:Program)(ops:Array Oper)(to:X->World)(le:X->X->Prop)(i:Nat)(o:Oper)(a:Act)(x:X)(r:ig X):Prop:=
 ∀m,aY.live (m+1) x->aY.pend i x->∀b:Exit->Act->World->Prop,(∀v y,le x y->aY.live m y->(∀j,j≠i->¬Behind ops i j->aY.pend j x->aY.pend j y)->r.holds v y->b .normal (a.put o.dst v) (to y))->wpList P ops b [o] a (to x)
def oJ(ops:Array Oper)(n:Nat)(t:Tmp)(j:Nat):Prop:=j<n/\∃o,ops[j]?=some o/\o.dst=some t
def adE(ops:Array Oper)(n N:Nat):Bool:=
 (List.range n).all λi=>match ops[i]? with
  |some o=>match o.dst with
   |some d=>decide (d<N)&&(List.range i).all λj=>((ops[j]?).bind (·.dst)) !=some d
   |none=>true
  |none=>true
def akK(h:adE ops n N=true){t:Tmp}(d:oJ ops n t j):t<N:=by
 obtain⟨a,o,c,hd⟩:=d;have b:=jt.1 h j (qh.2 a);simp only[c,hd,fd,qH] at b;exact b.1
def aiA(h:adE ops n N=true){t:Tmp}(hi:oJ ops n t i)(l:oJ ops n t j)(b:j<i):False:=by
 obtain⟨c,o,k,hd⟩:=hi;obtain⟨g,p,f,a⟩:=l;have e:=jt.1 h i (qh.2 c);simp only[k,hd,fd] at e;have d:=jt.1 e.2 j (qh.2 b);rw[f] at d;simp[a] at d
def ahf(h:adE ops n N=true){t:Tmp}(hi:oJ ops n t i)(b:oJ ops n t j):i=j:=by
 rcases tn i j with a|a|a
 .exact(aiA h b hi a).elim
 .exact a
 .exact(aiA h hi b a).elim
def am7(ops:Array Oper)(n:Nat)(t:Tmp):(∃j,oJ ops n t j)\/∀j,¬oJ ops n t j:=by
 by_cases h:∃j,oJ ops n t j
 .exact .inl h
 .exact .inr λj a=>h ⟨j,a⟩
def wv(a:Act)(o:Oper):Value:=match o.dst with
 |some d=>a.tmps.getD d undef
 |none=>undef
structure ahg (ops:Array Oper) (n:Nat) (a0 a:Act):Prop where
 size:a.tmps.size=a0.tmps.size
 off:∀t,(∀j,¬oJ ops n t j)->a.tmps[t]?=a0.tmps[t]?
 rest:{a with tmps:=a0.tmps}=a0
def ahg.refl(ops:Array Oper)(n:Nat)(a:Act):ahg ops n a a:=⟨rfl,λ_ _=>rfl,rfl⟩
def mR{t:Tmp}(h:d≠some t):(a.put d v).tmps[t]?=a.tmps[t]?:=by
 cases d with
 |none=>rfl
 |some e=>
  have:e≠t:=λb=>h (by rw[b]);simp[Act.put,ip this]
def am8{t:Tmp}(h:t<a.tmps.size):(a.put (some t) v).tmps[t]?=some v:=by
 simp[Act.put,h]
def abA(a:Act)(d:Option Tmp)(v:Value):(a.put d v).tmps.size=a.tmps.size:=by
 cases d<;>simp[Act.put]
def ahg.put{b : Act}(h:ahg ops n b a)(e:j<n)(d:ops[j]?=some o):ahg ops n b (a.put o.dst v):=by
 refine⟨by rw[abA,h.size],λt c=> ?_, ?_⟩
 .rw[mR (λhd=>c j ⟨e,o,d,hd⟩)];exact h.off t c
 .rw[<-h.rest];cases hd:o.dst<;>simp[Act.put]
def fq(U:Nat->Value)(a:Act)(L:List (Nat×Oper)):Act:=L.foldl (λb p=>b.put p.2.dst (U p.1)) a
def acz(U:Nat->Value):∀(L:List (Nat×Oper)) (a:Act),(fq U a L).tmps.size=a.tmps.size
 |[],_=>rfl
 |p::L,a=>by
  show(fq U (a.put p.2.dst (U p.1)) L).tmps.size=_;rw[acz U L,abA]
def mS(U:Nat->Value){t:Tmp}:∀(L:List (Nat×Oper)) (a:Act),(∀p∈L,p.2.dst≠some t)->(fq U a L).tmps[t]?=a.tmps[t]?
 |[],_,_=>rfl
 |p::L,a,h=>by
  show(fq U (a.put p.2.dst (U p.1)) L).tmps[t]?=_;rw[mS U L _ λq b=>h q (by simp[b]),mR (h p (by simp))]
def abB(U:Nat->Value){t:Tmp}{i:Nat}{o:Oper}:∀(L:List (Nat×Oper)) (a:Act),(i,o)∈L->o.dst=some t->t<a.tmps.size->(∀p∈L,p.2.dst=some t->p.1=i)->(fq U a L).tmps[t]?=some (U i)
 |[],_,h,_,_,_=>by cases h
 |p::L,a,h,hd,hs,aoD=>by
  show(fq U (a.put p.2.dst (U p.1)) L).tmps[t]?=_;by_cases d:(i,o)∈L
  .exact abB U L _ d hd (by rw[abA];exact hs) λq c=>aoD q (by simp[c])
  .rcases jp.1 h with rfl|h
   .by_cases f:∃q∈L,q.2.dst=some t
    .obtain⟨q,c,b⟩:=f;have e:=aoD q (by simp[c]) b;have:=abB U (i:=q.1) (o:=q.2) L (a.put o.dst (U i)) c b (by rw[abA];exact hs) λr j g=>by rw[aoD r (by simp[j]) g,e]
     rw[this,e]
    .rw[mS U L _ λq c b=>f ⟨q,c,b⟩,hd];exact am8 hs
   .exact absurd h d
def acA(U:Nat->Value):∀(L:List (Nat×Oper)) (a:Act),{fq U a L with tmps:=a.tmps}=a
 |[],_=>rfl
 |p::L,a=>by
  show{fq U (a.put p.2.dst (U p.1)) L with tmps:=a.tmps}=_;have h:=acA U L (a.put p.2.dst (U p.1));have d:{a.put p.2.dst (U p.1) with tmps:=a.tmps}=a:=by cases hd:p.2.dst<;>simp[Act.put]
  have c:=fi (λb:Act=>{b with tmps:=a.tmps}) h;simp only at c;rw[d] at c;exact c
def atW{b : Act}(h:{a with tmps:=b.tmps}=b)(f:a.tmps.size=b.tmps.size)(e:∀t:Nat,a.tmps[t]?=b.tmps[t]?):a=b:=by
 have c:a.tmps=b.tmps:=Array.ext f λi c d=>by
  have:=e i;simpa[c,d] using this
 rw[<-h,<-c]
def aoE(c:∀l b,o.op ≠ .select l b){b : Act}(h:∀t∈o.looksAt ops,a.tmps[t]?=b.tmps[t]?) :
  execOp a.eval o=execOp b.eval o/\Region.wanted o (yielded ops a.tmps)=Region.wanted o (yielded ops b.tmps):=by
 constructor
 .refine execOp_congr o c λx k=> ?_;cases x with
  |tmp t=>
   have:=h t (rH _ (List.mem_filterMap.2 ⟨.tmp t,by simpa using k,rfl⟩));simp[Act.eval,this]
  |_=>rfl
 .unfold Region.wanted;cases j:o.guard with
  |none=>rfl
  |some i=>
   obtain⟨g,d⟩:=i;have e:yielded ops a.tmps g=yielded ops b.tmps g:=by
    unfold yielded;cases f:(ops[g]?).bind (·.dst) with
    |none=>rfl
    |some t=>
     have:=h t (ry _ (by simp[j,f]));simp[this]
   simp only[e]
def akL(ops:Array Oper)(n:Nat):Bool:=
 (List.range n).all λi=>match ops[i]? with
  |some o=>(o.looksAt ops).all λt=>(List.range n).all λj=>((ops[j]?).bind (·.dst)) !=some t||kE o j
  |none=>true
def aey(h:akL ops n=true)(hi:i<n)(e:ops[i]?=some o){t:Tmp}(k:t∈o.looksAt ops)(f:oJ ops n t j):kE o j=true:=by
 obtain⟨a,p,d,hd⟩:=f;have b:=jt.1 h i (qh.2 hi);simp only[e] at b;have g:=jt.1 b t k;have c:=jt.1 g j (qh.2 a);rw[d] at c;simpa[hd] using c
def aoF (hn:n<=ops.size) (ad:Region.noSelect ops=true) (ht:aiy ops n=true) (aa:am6 ops n=true) (an:akL ops n=true) {q:Act} (B:adE ops n q.tmps.size=true)
  (T:Nat->ig X) (hT:∀i,(T i).keep le) (b0:∀i o,i<n->ops[i]?=some o->(∃v,T i=.fix v)\/o.dst.isSome=true\/∀R,T i=.any R->∀u v x,R u x->R v x) (L:List (Nat×Oper)) (hL:∀i o,ops[i]?=some o->i<n->(i,o)∈L) (F:∀p∈L,p.1<n/\ops[p.1]?=some p.2)
  (aO:∀i o,i<n->ops[i]?=some o->∀U:Nat->Value,(∀j g,T j=.fix g->U j=g)->
   ∃al:Act,ahg ops n q al/\(∀t j,t∈o.looksAt ops->oJ ops n t j->al.tmps[t]?=some (U j))/\∀x,(∀j,j<n->kE o j=true->(T j).holds (U j) x)->Good P ops to le i o al x (T i))
  (fin:∀U:Nat->Value,(∀j g,T j=.fix g->U j=g)->∀x,(∀j,j<n->(T j).holds (U j) x)->wpList P ops Q (ops.toList.drop n) (fq U q L) (to x))
  (x0:X) (a7:aY.live (left n (Array.replicate ops.size false)) x0) (aS:∀i,i<n->aY.pend i x0):wpAny P .any ops Q ops.size (Array.replicate ops.size false) q (to x0):=by
 let c:Act->Nat->Value:=λa j=>match T j with
  |.fix g=>g
  |.any _=>match ops[j]? with
   |some Y=>wv a Y
   |none=>undef
 have hU:∀a j g,T j=.fix g->c a j=g:=λa j g h=>by simp only[c,h]
 let Φ:Nat->Act->X->Prop:=λi a x=>∀o,ops[i]?=some o->(∀d,o.dst=some d->a.tmps[d]?=some (c a i))/\(T i).holds (c a i) x
 have a6:∀{i o a v x},i<n->ops[i]?=some o->ahg ops n q a->(T i).holds v x->Φ i (a.put o.dst v) x:=by
  intro i o a v x k l z I Z nW;obtain rfl:o=Z:=dq (l.symm.trans nW);have S:∀d,o.dst=some d->(a.put o.dst v).tmps[d]?=some v:=λd hd=>by
   rw[hd];exact am8 (by rw[z.size];exact akK B ⟨k,o,l,hd⟩)
  have V:c (a.put o.dst v) i=v\/(o.dst=none/\∃R,T i=.any R/\∀u v x,R u x->R v x):=by
   cases e:T i with
   |fix g=>
    rw[hU _ _ _ e];rw[e] at I;exact .inl I.symm
   |any R=>
    simp only[c,e,l,wv];have s:o.dst.isSome=true->(match o.dst with|some d=>(a.put o.dst v).tmps.getD d undef|none=>undef)=v:=λO=>by
     obtain⟨d,hd⟩:=rz.1 O;have:=S d hd;simp only[hd] at this ⊢;simp[ga,this]
    rcases b0 i o k l with⟨g,O⟩|O|O
    .rw[e] at O;cases O
    .exact .inl (s O)
    .cases hd:o.dst with
     |some d=>left;have:=s (by rw[hd];rfl);simpa only[hd] using this
     |none=>exact .inr ⟨rfl,R,rfl,O R e⟩
  rcases V with V|⟨hd,R,hR,aM⟩
  .rw[V];exact⟨S,I⟩
  .refine⟨λd a2=>(by rw[hd] at a2;cases a2), ?_⟩;rw[hR] at I ⊢;exact aM _ _ _ I
 have H:=aqM (P:=P) (Q:=Q) (to:=to) (le:=le) hn ht aa (ahg ops n q) Φ ?step ?axp ?fin (left n (Array.replicate ops.size false)) (Array.replicate ops.size false) q x0 rfl
  ⟨by simp,λj Y _ E=>(by rw[tE] at E;cases E),λt _ ht=>getD_in (by simpa using ht) (tE _ _)⟩ (ahg.refl _ _ _) a7 (λi k _=>aS i k) (λi k E=>(by rw[tE] at E;cases E))
 case step=>
  intro m i o k l a x z aZ a8 a1 K hK;obtain⟨al,a3,ax,a9⟩:=aO i o k l (c a) (hU a);have ao:∀j,j<n->kE o j=true->(T j).holds (c a j) x:=λj f hw=>(a1 j f hw _ (fm (aE f hn))).2;have af:∀t∈o.looksAt ops,a.tmps[t]?=al.tmps[t]?:=by
   intro t a4;rcases am7 ops n t with⟨j,f⟩|r
   .have hw:=aey an k l a4 f;obtain⟨C,Y,J,hd⟩:=id f;rw[ax t j a4 f,(a1 j C hw Y J).1 t hd]
   .rw[z.off t r,a3.off t r]
  obtain⟨h1,N⟩:=aoE (λcs b=>Region.noSelect_spec ad i o cs b l) af;refine aoz (G:=λv w=>∃y,w=to y/\le x y/\aY.live m y/\(∀j,j≠i->¬Behind ops i j->aY.pend j x->aY.pend j y)/\(T i).holds v y) l (by rw[z.size,a3.size]) h1 N (a9 x ao m aZ a8 _ λv y A E M I=>⟨rfl,v,rfl,y,rfl,A,E,M,I⟩) ?_;rintro v w ⟨y,rfl,A,E,M,I⟩;exact hK v y A E M (z.put k l) (a6 k l z I)
 case axp=>
  intro i j o a x y v k f aJ l z D A Z nW;obtain⟨h1,N⟩:=D Z nW;have a0:∀d,Z.dst=some d->o.dst≠some d:=λd hd b1=>aJ (ahf B ⟨k,Z,nW,hd⟩ ⟨f,o,l,b1⟩);have ay:c (a.put o.dst v) i=c a i:=by
   cases e:T i with
   |fix g=>rw[hU _ _ _ e,hU _ _ _ e]
   |any R=>
    simp only[c,e,nW,wv];cases hd:Z.dst with
    |none=>rfl
    |some d=>
     have:=mR (a:=a) (v:=v) (a0 d hd);simp only[ga,this]
  rw[ay];refine⟨λd hd=>by rw[mR (a0 d hd)];exact h1 d hd, ?_⟩;have hk:=hT i;cases e:T i with
  |fix g=>rw[e] at N;exact N
  |any R=>
   rw[e] at N hk;exact hk _ _ _ N A
 case fin=>
  intro a x z D;have a5:∀j,j<n->(T j).holds (c a j) x:=λj f=>(D j f _ (fm (aE f hn))).2;have he:a=fq (c a) q L:=by
   refine atW ?_ ?_ ?_
   .have h1:=z.rest;have N:=acA (c a) L q;have h3:=fi (λb:Act=>{b with tmps:=(fq (c a) q L).tmps}) (h1.trans N.symm);exact h3
   .rw[z.size,acz]
   .intro t;rcases am7 ops n t with⟨j,f⟩|r
    .obtain⟨C,Y,J,hd⟩:=id f;rw[(D j C Y J).1 t hd,abB (c a) L q (hL j Y J C) hd (akK B f) λp M W=> ?_];exact ahf B ⟨(F p M).1,p.2,(F p M).2,W⟩ f
    .rw[z.off t r,mS _ _ _ λp M W=>r p.1 ⟨(F p M).1,p.2,(F p M).2,W⟩]
  rw[he];exact fin _ (hU a) x a5
 have aN:left n (Array.replicate ops.size false)=n:=by
  unfold left;rw[List.filter_eq_self.2]
  .simp
  .intro i k;have b2:=qh.1 k;rw[getD_in (by simp;omega) (tE _ _)];rfl
 rw[aN,show n+(ops.size-n)=ops.size by omega] at H;exact H
def mj:List (Nat×(X->Prop))->Oper->X->Prop
 |[],_,_=>True
 |(j,p)::F,o,x=>(kE o j=true->p x)/\mj F o x
def js:List (Nat×(X->Prop))->X->Prop
 |[],_=>True
 |(_,p)::F,x=>p x/\js F x
omit [aY X] in
def am9{F:List (Nat×(X->Prop))}{x:X}(h:∀p∈F,kE o p.1=true->p.2 x):mj F o x:=by
 induction F with
 |nil=>trivial
 |cons p F b=>exact⟨h p (by simp),b λq a=>h q (by simp[a])⟩
omit [aY X] in
def atX{F:List (Nat×(X->Prop))}{x:X}(h:∀p∈F,p.2 x):js F x:=by
 induction F with
 |nil=>trivial
 |cons p F b=>exact⟨h p (by simp),b λq a=>h q (by simp[a])⟩
def bN(P:Program)(ops:Array Oper)(to:X->World)(le:X->X->Prop)(Qt:Act->World->Prop):List (Nat×Oper)->List (Nat×(X->Prop))->List (ig X)->Act->Prop
 |[],F,[],a=>∀x,js F x->Qt a (to x)
 |(i,o)::l,F,.fix v0::Rs,a=>(∀x,mj F o x->Good P ops to le i o a x (.fix v0))/\bN P ops to le Qt l F Rs (a.put o.dst v0)
 |(i,o)::l,F,.any R::Rs,a=>(o.dst.isSome=true\/∀u v x,R u x->R v x)/\(∀v x y,R v x->le x y->R v y)/\(∀x,mj F o x->Good P ops to le i o a x (.any R))/\∀v,bN P ops to le Qt l ((i,R v)::F) Rs (a.put o.dst v)
 |_,_,_,_=>False
def adU{F:List (Nat×(X->Prop))}(h:∀x,js F x->V a (to x)):bN P ops to le V [] F [] a:=h
def ahh   {l:List (Nat×Oper)} {F:List (Nat×(X->Prop))} {e:List (ig X)} (c:Value)
  (s:∀x,mj F o x->∀m,aY.live (m+1) x->aY.pend i x->∀b:Exit->Act->World->Prop,(∀y,le x y->aY.live m y->(∀j,j≠i->¬Behind ops i j->aY.pend j x->aY.pend j y)->b .normal (a.put o.dst c) (to y))->wpList P ops b [o] a (to x))
  (g:bN P ops to le V l F e (a.put o.dst c)):bN P ops to le V ((i,o)::l) F (.fix c::e) a:=
 ⟨λx q m r f b p=>s x q m r f b λy n k d=>p c y n k d rfl,g⟩
def iA   {l:List (Nat×Oper)} {F:List (Nat×(X->Prop))} {d:List (ig X)} (R:Value->X->Prop) (e:o.dst.isSome=true\/∀u v x,R u x->R v x) (p:∀v x y,R v x->le x y->R v y)
  (w:∀x,mj F o x->∀m,aY.live (m+1) x->aY.pend i x->∀b:Exit->Act->World->Prop,(∀v y,le x y->aY.live m y->(∀j,j≠i->¬Behind ops i j->aY.pend j x->aY.pend j y)->R v y->b .normal (a.put o.dst v) (to y))->wpList P ops b [o] a (to x))
  (g:∀v,bN P ops to le V l ((i,R v)::F) d (a.put o.dst v)):bN P ops to le V ((i,o)::l) F (.any R::d) a:=
 ⟨e,p,λx r m s f b q=>w x r m s f b λv y n k c t=>q v y n k c t,g⟩
def pick(l:List Oper)(ord:List Nat):List (Nat×Oper):=ord.map λi=>(i,l.getD i default)
def ahi(ops:Array Oper)(n:Nat):List Nat->List Nat->Bool
 |[],_=>true
 |i::t,done=>(match ops[i]? with
  |some o=>(List.range n).all λj=>!kE o j||done.contains j
  |none=>false)&&ahi ops n t (i::done)
def aez{n:Nat}:∀(c done:List Nat),ahi ops n c done=true->∀k i o j,c[k]?=some i->ops[i]?=some o->j<n->kE o j=true->j∈done\/j∈c.take k
 |[],_,_,k,i,_,_,h,_,_,_=>by simp at h
 |a::t,done,hB,k,i,o,j,h,ho,hj,hw=>by
  simp only[ahi,fd] at hB;cases k with
  |zero=>
   simp at h;subst h;have b:=hB.1;simp only[ho] at b;have d:=jt.1 b j (qh.2 hj);left;simpa[hw] using d
  |succ k=>
   rcases aez t (a::done) hB.2 k i o j (by simpa using h) ho hj hw with b|b
   .rcases jp.1 b with rfl|b
    .right;simp
    .exact .inl b
   .right;rw[uH];exact qE _ b
def ahj(l:List Oper)(n:Nat)(bP cQ:List Nat):Bool:=
 Region.noSelect l.toArray&&decide (n<=l.length)&&aiy l.toArray n&&am6 l.toArray n&&akL l.toArray n&&decide ((bP++cQ).Nodup)&&(List.range n).all (λi=>(bP++cQ).contains i)&&(bP++cQ).all (λi=>decide (i<n)) &&
  bP.all (λi=>ahc (l.getD i default).op)&&ahi l.toArray n (bP++cQ) []
def mU{U V:Nat->Value}:∀(L:List (Nat×Oper)) (a:Act),(∀p∈L,U p.1=V p.1)->fq U a L=fq V a L
 |[],_,_=>rfl
 |p::L,a,h=>by
  show fq U (a.put p.2.dst (U p.1)) L=fq V (a.put p.2.dst (V p.1)) L;rw[h p (by simp)];exact mU L _ λq b=>h q (by simp[b])
def ac6(U:Nat->Value)(L M:List (Nat×Oper))(a:Act):fq U a (L++M)=fq U (fq U a L) M:=by
 unfold fq;exact sJ
def aeA{C:World->Prop}{i:Act->Prop}:∀(L:List (Nat×Oper)) (a:Act),(L.map (·.1)).Nodup->wpQuiet P ops C i (L.map (·.2)) a->
  ∃V:Nat->Value,i (fq V a L)/\∀(k:Nat) (p:Nat×Oper),L[k]?=some p->YieldsIn P ops C p.2 (V p.1) (fq V a (L.take k))
 |[],a,_,h=>⟨λ_=>undef,h,λk p n=>by simp at n⟩
 |p::L,a,hn,h=>by
  rw[qL,qK] at hn;have t:∃v,YieldsIn P ops C p.2 v a/\wpQuiet P ops C i (L.map (·.2)) (a.put p.2.dst v):=by
   rw[qL] at h;unfold wpQuiet at h;split at h
   .rename_i g;obtain⟨v,u,o⟩:=h;exact⟨v,.inl ⟨g,u⟩,o⟩
   .rename_i g;exact⟨undef,.inr ⟨by simpa using g,rfl⟩,h⟩
  obtain⟨v,r,l⟩:=t;obtain⟨V,s,w⟩:=aeA L _ hn.2 l
  let W:Nat->Value:=λj=>if j=p.1 then v else V j
  have f:W p.1=v:=by simp[W]
  have d:∀q∈L,W q.1=V q.1:=λq b=>by
   have:q.1≠p.1:=λe=>hn.1 (e▸mT.2 ⟨q,b,rfl⟩);simp[W,this]
  have m:∀k,fq W a ((p::L).take (k+1))=fq V (a.put p.2.dst v) (L.take k):=λk=>by
   rw[uH];show fq W (a.put p.2.dst (W p.1)) (L.take k)=_;rw[f];exact mU _ _ λq b=>d q (oS b)
  refine⟨W, ?_,λk q b=> ?_⟩
  .have:=m L.length;rw[gn,<-eg (a:=p),gn] at this;rw[this];exact s
  .cases k with
   |zero=>
    simp at b;subst b;rw[f];exact r
   |succ k=>
    have c:L[k]?=some q:=by simpa using b
    rw[m,d q (da c)];exact w k q c
def pF{A:Act->World->Prop}{n:Nat}{T:Nat->ig X}{U:Nat->Value}(y:∀j g,T j=.fix g->U j=g):∀(L:List (Nat×Oper)) (F:List (Nat×(X->Prop))) (l:List (ig X)) (a:Act),
  bN P ops to le A L F l a->(∀(k:Nat) (p:Nat×Oper) (r:ig X),L[k]?=some p->l[k]?=some r->T p.1=r)->(∀p∈L,p.1<n)->(∀p∈F,p.1<n/\∀x,(T p.1).holds (U p.1) x->p.2 x)->
  (∀(k:Nat) (p:Nat×Oper),L[k]?=some p->∀x,(∀j,j<n->kE p.2 j=true->(T j).holds (U j) x)->Good P ops to le p.1 p.2 (fq U a (L.take k)) x (T p.1))/\(∀x,(∀j,j<n->(T j).holds (U j) x)->A (fq U a L) (to x))
 |[],F,[],a,h,_,_,hF=>⟨λk p b=>by simp at b,λx c=>h x (atX λp b=>(hF p b).2 x (c _ (hF p b).1))⟩
 |[],_,_::_,_,h,_,_,_=>h.elim
 |(i,o)::L,F,[],_,h,_,_,_=>h.elim
 |(i,o)::L,F,.fix g::l,a,h,hT,hn,hF=>by
  obtain⟨w,s⟩:=h;have d:T i=.fix g:=hT 0 (i,o) (.fix g) rfl rfl;have z:U i=g:=y i g d;obtain⟨u,v⟩:=pF y L F l _ s (λk p r b t=>hT (k+1) p r (by simpa using b) (by simpa using t)) (λp b=>hn p (by simp[b])) hF;have f:∀M,fq U a ((i,o)::M)=fq U (a.put o.dst g) M:=λM=>by
   show fq U (a.put o.dst (U i)) M=_;rw[z]
  refine⟨λk p b x c=> ?_,λx c=>by rw[f];exact v x c⟩;cases k with
  |zero=>
   simp at b;subst b;rw[d];exact w x (am9 λq e m=>(hF q e).2 x (c _ (hF q e).1 m))
  |succ k=>
   rw[uH,f];exact u k p (by simpa using b) x c
 |(i,o)::L,F,.any R::l,a,h,hT,hn,hF=>by
  obtain⟨_,B,w,s⟩:=h;have d:T i=.any R:=hT 0 (i,o) (.any R) rfl rfl;obtain⟨u,v⟩:=pF y L ((i,R (U i))::F) l _ (s (U i)) (λk p r b t=>hT (k+1) p r (by simpa using b) (by simpa using t)) (λp b=>hn p (by simp[b])) λq e=>by
   rcases jp.1 e with rfl|e
   .exact⟨hn (i,o) (by simp),λx c=>by rw[d] at c;exact c⟩
   .exact hF q e
  refine⟨λk p b x c=> ?_,λx c=>v x c⟩;cases k with
  |zero=>
   simp at b;subst b;rw[d];exact w x (am9 λq e m=>(hF q e).2 x (c _ (hF q e).1 m))
  |succ k=>exact u k p (by simpa using b) x c
def aaN{j:Act->World->Prop}:∀(L:List (Nat×Oper)) (F:List (Nat×(X->Prop))) (d:List (ig X)) (a:Act),
  bN P ops to le j L F d a->d.length=L.length/\∀(k:Nat) (p:Nat×Oper) (r:ig X),L[k]?=some p->d[k]?=some r->r.keep le/\((∃v,r=.fix v)\/p.2.dst.isSome=true\/∀R,r=.any R->∀u v x,R u x->R v x)
 |[],_,[],_,_=>⟨rfl,λk p r b=>by simp at b⟩
 |[],_,_::_,_,h=>h.elim
 |(i,o)::L,F,[],_,h=>h.elim
 |(i,o)::L,F,.fix v0::d,a,h=>by
  obtain⟨_,e⟩:=h;obtain⟨f,g⟩:=aaN L F d _ e;refine⟨by simp[f],λk p r b c=> ?_⟩;cases k with
  |zero=>
   simp at c;subst c;exact⟨trivial,.inl ⟨_,rfl⟩⟩
  |succ k=>exact g k p r (by simpa using b) (by simpa using c)
 |(i,o)::L,F,.any R::d,a,h=>by
  obtain⟨hd,l,_,e⟩:=h;obtain⟨f,g⟩:=aaN L _ d _ (e undef);refine⟨by simp[f],λk p r b c=> ?_⟩;cases k with
  |zero=>
   simp at c b;subst c b;exact⟨l,.inr (hd.imp id λhd R' m=>by cases m;exact hd)⟩
  |succ k=>exact g k p r (by simpa using b) (by simpa using c)
def aaO{g:Type}:∀(ks:List Nat) (c:List g) (k i:Nat) (r:g),ks.Nodup->ks[k]?=some i->c[k]?=some r->(ks.zip c).lookup i=some r
 |[],_,_,_,_,_,h,_=>by simp at h
 |a::ks,[],_,_,_,_,_,h=>by simp at h
 |a::ks,b::c,k,i,r,hn,h,hr=>by
  rw[qK] at hn;cases k with
  |zero=>
   simp at h hr;subst h hr;simp[List.lookup]
  |succ k=>
   have f:ks[k]?=some i:=by simpa using h
   have d:(i ==a)=false:=fa.2 λe=>hn.1 (e▸da f);simp only[List.zip_cons_cons,List.lookup,d];exact aaO ks c k i r hn.2 f (by simpa using hr)
def aiB {l:List Oper}  (to:X->World) (le:X->X->Prop) (Z:∀x,le x x) (n:Nat) (b q:List Nat) (hB:ahj l n b q=true) (hd:adE l.toArray n a.tmps.size=true)
  (x0:X) (af:∀m,m<=n->aY.live m x0) (b7:∀i,i<n->aY.pend i x0) (hx:to x0=w.drew)
  (h:wpQuiet P l.toArray (λw'=>∃x,w'=to x) (λa1=>∃C,bN P l.toArray to le (wpList P l.toArray Q (l.drop n)) (pick l q) [] C a1) ((pick l b).map (·.2)) a):wpAny P .any l.toArray Q l.toArray.size (Array.replicate l.toArray.size false) a {w with drawn:=w.drawn+1}:=by
 simp only[ahj,fd,qH] at hB;obtain⟨⟨⟨⟨⟨⟨⟨⟨⟨ay,hn⟩,ht⟩,al⟩,a4⟩,O⟩,b0⟩,ao⟩,aS⟩,b9⟩:=hB;have b5:n<=l.toArray.size:=by simpa using hn
 have J:∀i,i<n->i∈b++q:=λi d=>by simpa using jt.1 b0 i (qh.2 d)
 have z:∀i∈b++q,i<n:=λi d=>by simpa using jt.1 ao i d
 have B:∀i,i<n->l.toArray[i]?=some (l.getD i default):=λi d=>by
  have b8:i<l.length:=aE d hn;simp[b8]
 have an:∀G:List Nat,(pick l G).map (·.1)=G:=λG=>by simp[pick,Function.comp_def]
 obtain⟨V,⟨C,R⟩,hV⟩:=aeA (pick l b) a (by rw[an];exact(rq.1 O).1) h;obtain⟨a3,a7⟩:=aaN _ _ _ _ R;have ba:C.length=q.length:=by rw[a3];simp[pick]
 let T:Nat->ig X:=λj=>(((b++q).zip (b.map (λi=>ig.fix (V i))++C)).lookup j).getD (.fix undef)
 have F:∀i∈b,T i=.fix (V i):=λi d=>by
  obtain⟨k,v⟩:=rx.1 d;have D:k<b.length:=by
   rcases oR k b.length with h|h
   .exact h
   .rw[sD h] at v;cases v
  have:=aaO (b++q) (b.map (λi=>ig.fix (V i))++C) k i (.fix (V i)) O (by rw[qy D];exact v) (by rw[qy (by simpa using D),qD,v];rfl);simp only[T,this,qi]
 have a2:∀k i r,q[k]?=some i->C[k]?=some r->T i=r:=λk i r v E=>by
  have:=aaO (b++q) (b.map (λi=>ig.fix (V i))++C) (b.length+k) i r O (by rw[qm (by omega),rZ];exact v)
   (by rw[qm (by simp),pu,rZ];exact E)
  simp only[T,this,qi]
 have a0:∀(k:Nat) (p:Nat×Oper) (r:ig X),(pick l q)[k]?=some p->C[k]?=some r->T p.1=r:=λk p r g E=>by
  simp only[pick,qD,io] at g;obtain⟨i,d,rfl⟩:=g;exact a2 k i r d E
 have a5:∀i,i<n->(i∈b/\T i=.fix (V i))\/∃k r,q[k]?=some i/\C[k]?=some r/\T i=r:=λi d=>by
  rcases ge.1 (J i d) with s|s
  .exact .inl ⟨s,F i s⟩
  .obtain⟨k,v⟩:=rx.1 s;have D:k<C.length:=by
    rcases oR k q.length with h|h
    .omega
    .rw[sD h] at v;cases v
   exact .inr ⟨k,C[k],v,li D,a2 k i _ v (li D)⟩
 have b1:∀i,(T i).keep le:=λi=>by
  by_cases d:i<n
  .rcases a5 i d with⟨_,s⟩|⟨k,r,v,E,s⟩
   .rw[s];trivial
   .rw[s];exact(a7 k (i,l.getD i default) r (by simp[pick,v]) E).1
  .have:((b++q).zip (b.map (λi=>ig.fix (V i))++C)).lookup i=none:=by
    rw[List.lookup_eq_none_iff];intro p g;have s:=(List.of_mem_zip g).1;have:=z _ s;have ad:i≠p.1:=λe=>d (by rw[e];exact this);simpa using ad
   simp only[T,this,Option.getD_none];trivial
 have ax:∀i,i∈b++q->(i,l.getD i default)∈pick l (b++q):=λi d=>mT.2 ⟨i,d,rfl⟩;have Y:pick l (b++q)=pick l b++pick l q:=by simp[pick]
 have H:=aoF (P:=P) (Q:=Q) (to:=to) (le:=le) b5 ay ht al a4 hd T b1 ?any (pick l (b++q)) ?L ?L' ?lex ?fin x0 (af _ (atV _ _)) b7
 .rw[hx] at H;exact H
 case any=>
  intro i o d I;rcases a5 i d with⟨_,s⟩|⟨k,r,v,E,s⟩
  .exact .inl ⟨_,s⟩
  .rw[s];obtain rfl:o=l.getD i default:=dq (I.symm.trans (B i d));exact(a7 k (i,l.getD i default) r (by simp[pick,v]) E).2
 case L=>
  intro i o I d;obtain rfl:o=l.getD i default:=dq (I.symm.trans (B i d));exact ax i (J i d)
 case L'=>
  intro p g;obtain⟨i,d,rfl⟩:=mT.1 g;exact⟨z i d,B i (z i d)⟩
 case lex=>
  intro i o d I U hU;obtain rfl:o=l.getD i default:=dq (I.symm.trans (B i d));obtain⟨hg,_⟩:=pF (n:=n) (T:=T) (U:=U) hU _ _ _ _ R a0 (λp g=>by
   obtain⟨j,A,rfl⟩:=mT.1 g;exact z j (ry _ A)) (λp g=>by cases g)
  obtain⟨k,v⟩:=rx.1 (J i d);have a8:∀M:List (Nat×Oper),(∀p∈M,p.1∈b)->fq U a M=fq V a M:=λM hM=>mU M a λp g=>by rw[hU _ _ (F _ (hM p g))]
  have aa:∀p∈pick l b,p.1∈b:=λp g=>by
   obtain⟨j,A,rfl⟩:=mT.1 g;exact A
  refine⟨fq U a ((pick l (b++q)).take k), ?_, ?_, ?_⟩
  .refine⟨acz _ _ _,λt aZ=>mS _ _ _ λp g W=> ?_, ?_⟩
   .obtain⟨j,A,rfl⟩:=mT.1 (oS g);exact aZ j ⟨z j A,_,B j (z j A),W⟩
   .exact acA _ _ _
  .intro t j aM A;have hw:=aey a4 d I aM A;have b6:=(aez (b++q) [] b9 k i _ j v I A.1 hw).resolve_left (by simp);have aN:=A;obtain⟨aJ,oj,b3,b4⟩:=aN;obtain rfl:oj=l.getD j default:=dq (b3.symm.trans (B j aJ));refine abB U (o:=l.getD j default) _ a ?_ b4 (akK hd A) λp g W=> ?_
   .rw[pick,<-List.map_take];exact mT.2 ⟨j,b6,rfl⟩
   .obtain⟨j',a6,rfl⟩:=mT.1 (oS g);exact ahf hd ⟨z j' a6,_,B j' (z j' a6),W⟩ A
  .intro x hx;rcases oR k b.length with N|N
   .have lQ:b[k]?=some i:=by rw[qy N] at v;exact v
    have a9:i∈b:=da lQ;have nI:(pick l (b++q)).take k=(pick l b).take k:=by rw[Y,List.take_append_of_le_length (by simp[pick];omega)]
    have hy:=hV k (i,l.getD i default) (by simp[pick,lQ]);rw[nI,a8 _ λp g=>aa p (oS g),F i a9];intro mq S bb Qx hQ;have aO:ahc (l.getD i default).op=true:=jt.1 aS i a9;have K:=λy hy hl b2=>hQ (V i) y hy hl b2 rfl;unfold wpList;rcases hy with⟨hw,hq⟩|⟨hw,hq⟩
    .rw[dk hw];refine .inl ?_;have s:=hq (to x) ⟨x,rfl⟩;unfold Oper.quietAt at s;unfold Oper.wp;cases E:(execOp (fq V a (List.take k (pick l b))).eval (l.getD i default)).run P (to x) with
     |ok nx w'=>
      rw[E] at s;cases nx<;>simp only[Oper.quietUpon] at s
      case value u=>
       obtain⟨rfl,rfl⟩:=s;exact K x (Z x) (aY.down _ _ S) λ_ _ _ h=>h
      case skip=>
       obtain⟨rfl,h2⟩:=s;show Qx .normal _ _;rw[<-h2];exact K x (Z x) (aY.down _ _ S) λ_ _ _ h=>h
      case enter f args=>exact absurd E (ahd aO)
     |halt c w'=>
      rw[E] at s;simp only[Oper.quietUpon] at s
    .rw[be (by rw[hw];exact qk)];have:=K x (Z x) (aY.down _ _ S) λ_ _ _ h=>h;rw[hq] at this;exact this
   .have mV:q[k-b.length]?=some i:=by rw[qm N] at v;exact v
    have nI:(pick l (b++q)).take k=pick l b++(pick l q).take (k-b.length):=by
     rw[Y,List.take_append,qj (by simp[pick];omega)];simp[pick]
    rw[nI,ac6,a8 _ aa];exact hg (k-b.length) (i,l.getD i default) (by simp[pick,mV]) x hx
 case fin=>
  intro U hU x hx;obtain⟨_,hf⟩:=pF (n:=n) (T:=T) (U:=U) hU _ _ _ _ R a0 (λp g=>by
   obtain⟨j,A,rfl⟩:=mT.1 g;exact z j (ry _ A)) (λp g=>by cases g)
  have s:=hf x hx;rw[Y,ac6,mU (U:=U) (V:=V) (pick l b) a λp g=>by
   obtain⟨j,A,rfl⟩:=mT.1 g;exact hU _ _ (F j A)]
  simpa using s
def mW {l:List Oper}  (to:X->World) (le:X->X->Prop) (g:∀x,le x x) (n:Nat) (f c:List Nat) (q:P.follows .mixedOrders=true) (s:ahj l n f c=true) (j:adE l.toArray n a.tmps.size=true)
  (b:X) (d:∀m,m<=n->aY.live m b) (e:∀i,i<n->aY.pend i b) (o:to b=w.drew)
  (h:wpQuiet P l.toArray (λk=>∃x,k=to x) (λr=>∃p,bN P l.toArray to le (wpList P l.toArray Q (l.drop n)) (pick l c) [] p r) ((pick l f).map (·.2)) a):(Code.region Z l.toArray true).wp P Q a w:=
 wp_region_any q (aiB to le g n f c s j b d e o h)
end
end
section
variable {β:Bool}
open Go.RowKit
def dJ(b:Below w.heap.size w w')(h:w.cell? p=some v):w'.cell? p=some v:=by
 refine(b.cell (p:=p) ?_).trans h;rcases oR p.block w.heap.size with a|c
 .exact a
 .simp[World.cell?,pZ c] at h
def cM{a : World}(h:Below a.heap.size a w)(o:Obj):Below a.heap.size a (w.alloc o):=h.alloc h.size o
def bh(h:bR w g t cs)(o:Obj):bR (w.alloc o) g t cs:=(se w o g h.lt).trans h
def iB(h:bR w g t cs)(u:Value)(a:g≠p.block):bR (w.setCell p u) g t cs:=(qp w p u g a).trans h
def bH(h:bR w g t cs)(b:bq S w w')(a:¬S g):bR w' g t cs:=(b.block g h.lt a).trans h
def aA(w:World)(o:Obj):Below w.heap.size w (w.alloc o):=(gc _ _).alloc (am _) _
def adV(a:Lcy E){cs:List Value}(h:cV E Z w lo hi xs cs)(c:Below w.heap.size w w')(b:hi<=w.heap.size):cV E Z w' lo hi xs cs:=
 (cV.loc a).below h c b
def iN(h:w.alloc (.cells cs t)=x):Below w.heap.size w x/\w.heap.size+1<=x.heap.size/\bR x w.heap.size t cs/\(∀i,x.cell? ⟨w.heap.size,i,none⟩=cs[i]?)/\∀i,x.frozen? ⟨w.heap.size,i,none⟩=false:=by
 subst h;have k:=bR.new w t cs;exact⟨aA _ _,by simp,k,k.cell,k.frozen⟩
def akM{u : TypeId}(h:(w.alloc (.cells cs t)).alloc (.cells U u)=x):Below w.heap.size w x/\w.heap.size+2<=x.heap.size/\bR x w.heap.size t cs/\(∀i,x.cell? ⟨w.heap.size,i,none⟩=cs[i]?)/\(∀i,x.frozen? ⟨w.heap.size,i,none⟩=false)/\
  bR x (w.heap.size+1) u U/\(∀i,x.cell? ⟨w.heap.size+1,i,none⟩=U[i]?)/\∀i,x.frozen? ⟨w.heap.size+1,i,none⟩=false:=by
 obtain⟨e,a,d,b,c⟩:=iN h;have k:=bh (bR.new w t cs) (.cells U u);rw[h] at k;simp only[me] at a d b c;exact⟨h▸cM (aA _ _) _,a,k,k.cell,k.frozen,d,b,c⟩
def azx{u v : TypeId}(h:((w.alloc (.cells cs t)).alloc (.cells U u)).alloc (.cells es v)=x):Below w.heap.size w x/\w.heap.size+3<=x.heap.size/\bR x w.heap.size t cs/\(∀i,x.cell? ⟨w.heap.size,i,none⟩=cs[i]?)/\(∀i,x.frozen? ⟨w.heap.size,i,none⟩=false)/\
  bR x (w.heap.size+1) u U/\(∀i,x.cell? ⟨w.heap.size+1,i,none⟩=U[i]?)/\(∀i,x.frozen? ⟨w.heap.size+1,i,none⟩=false)/\bR x (w.heap.size+1+1) v es/\(∀i,x.cell? ⟨w.heap.size+1+1,i,none⟩=es[i]?)/\∀i,x.frozen? ⟨w.heap.size+1+1,i,none⟩=false:=by
 obtain⟨e,a,d,b,c⟩:=iN h;have k:=bh (bh (bR.new w t cs) (.cells U u)) (.cells es v);have l:=bh (bR.new (w.alloc (.cells cs t)) u U) (.cells es v);rw[h] at k l;simp only[me] at a d b c l;exact⟨h▸cM (cM (aA _ _) _) _,a,k,k.cell,k.frozen,l,l.cell,l.frozen,d,b,c⟩
structure fV (w:World) where
 to:World
 ok:Below w.heap.size w to
instance atY(w:World):Nonempty (fV w):=⟨⟨w,gc _ _⟩⟩
def aj(h:w.cell? p=some v):∀x:fV w,x.to.cell? p=some v:=λx=>dJ x.ok h
def aI {id:Nat}   {l:List Oper} (c:P.follows .mixedOrders=true) (e:Region.lexB .any l.toArray=true)
  (h:wpQuiet P l.toArray (λb=>∃x:fV w,b=x.to) (λd=>∀b,(∃x:fV w,b=x.to)->Q .normal d b) l a):(Code.region id l.toArray true).wp P Q a w:=
 wp_region_quiet (C:=λb=>∃x:fV w,b=x.to) c e ⟨⟨w.drew,⟨rfl,rfl,rfl,am _,λ_ _=>rfl⟩⟩,rfl⟩ (by simpa using h)
def aU(h:∃x:fV w,w'=x.to):Below w.heap.size w w':=by
 obtain⟨x,rfl⟩:=h;exact x.ok
def eh  {args:Array Value} {x:fV w} 
  (h:Calls P f args x.to λe b=>e=.returned v/\Below x.to.heap.size x.to b):Calls P f args x.to λe a=>e=.returned v/\∃y:fV w,a=y.to:=
 h.mono λ_ c ⟨he,hb⟩=>⟨he,⟨⟨c,x.ok.trans (hb.mono x.ok.size)⟩,rfl⟩⟩
def dv  {args:Array Value} {x:fV w} 
  (h:Calls P f args x.to λe b=>e=.returned v/\x.to=b):Calls P f args x.to λe a=>e=.returned v/\∃y:fV w,a=y.to:=
 h.mono λ_ _ ⟨he,hb⟩=>⟨he,⟨x,hb.symm⟩⟩
instance axs(w:World):aY (fV w):=⟨λ_ _=>True,λ_ _ _=>trivial,λ_ _=>True⟩
def fV.le{w:World}(x y:fV w):Prop:=Below x.to.heap.size x.to y.to
def fV.le_refl(x:fV w):fV.le x x:=gc _ _
def fV.mk'{w:World}(x:fV w){w':World}(h:Below x.to.heap.size x.to w'):fV w:=⟨w',x.ok.trans (h.mono x.ok.size)⟩
def cD   {l:List Oper}  (n:Nat) (a b:List Nat) (d:P.follows .mixedOrders=true:=by kernel_rfl) (g:ahj l n a b=true:=by kernel_rfl) (c:adE l.toArray n X.tmps.size=true:=by kernel_rfl)
  (h:wpQuiet P l.toArray (λe=>∃x:fV w,e=x.to) (λf=>∃i:List (ig (fV w)),bN P l.toArray (fV.to (w:=w)) (fV.le (w:=w)) (wpList P l.toArray Q (l.drop n)) (pick l b) [] i f) ((pick l a).map (·.2)) X):(Code.region Z l.toArray true).wp P Q X w:=
 mW (fV.to (w:=w)) (fV.le (w:=w)) fV.le_refl n a b d g c ⟨w.drew,⟨rfl,rfl,rfl,am _,λ_ _=>rfl⟩⟩ (λ_ _=>trivial) (λ_ _=>trivial) rfl h
section
variable {P:Program} {ops:Array Oper} {w:World} {Qt:Act->World->Prop} {i:Nat} {o:Oper} {l:List (Nat×Oper)} {F:List (Nat×(fV w->Prop))} {Rs:List (ig (fV w))} {a:Act}
def dm (R:Value->World->Prop) (f:o.dst.isSome=true) (j:∀v x y,R v x->Below x.heap.size x y->R v y)
  (q:∀x:fV w,mj F o x->∀b:Exit->Act->World->Prop,(∀v c,Below x.to.heap.size x.to c->R v c->b .normal (a.put o.dst v) c)->wpList P ops b [o] a x.to)
  (g:∀v,bN P ops (fV.to (w:=w)) (fV.le (w:=w)) Qt l ((i,λx=>R v x.to)::F) Rs (a.put o.dst v)):bN P ops (fV.to (w:=w)) (fV.le (w:=w)) Qt ((i,o)::l) F (.any (λv x=>R v x.to)::Rs) a:=
 iA (X:=fV w) (to:=fV.to (w:=w)) (le:=fV.le (w:=w)) (λv x=>R v x.to) (.inl f) (λv x y h d=>j v x.to y.to h d) (λx n m _ _ b k=>q x n b λv c e p=>k v (x.mk' e) e trivial (λ_ _ _ _=>trivial) p) g
def abE (c:Value)
  (g:∀x:fV w,mj F o x->∀b:Exit->Act->World->Prop,(∀d,Below x.to.heap.size x.to d->b .normal (a.put o.dst c) d)->wpList P ops b [o] a x.to)
  (f:bN P ops (fV.to (w:=w)) (fV.le (w:=w)) Qt l F Rs (a.put o.dst c)):bN P ops (fV.to (w:=w)) (fV.le (w:=w)) Qt ((i,o)::l) F (.fix c::Rs) a:=
 ahh (X:=fV w) (to:=fV.to (w:=w)) (le:=fV.le (w:=w)) c (λx k m _ _ b j=>g x k b λd e=>j (x.mk' e) e trivial λ_ _ _ _=>trivial) f
def ep(h:∀b,Below w.heap.size w b->∀x:fV w,x.to=b->js F x->Qt a b):bN P ops (fV.to (w:=w)) (fV.le (w:=w)) Qt [] F [] a:=
 adU (X:=fV w) (to:=fV.to (w:=w)) (le:=fV.le (w:=w)) λx c=>h x.to x.ok x rfl c
end
def et(base:Nat)(e:TypeId)(v:Value)(w:World):Prop:=∃g,v=.slice (some ⟨g,0,none⟩) 0 0/\base<=g/\bR w g e #[]
def et.own{base:Nat}(h:et base e v w)(b:Nat):w.ownsRow base e b v 0 []:=by
 obtain⟨g,rfl,c,a⟩:=h;exact⟨by simp,.inr ⟨g,0,#[],rfl,c,a,am _,by unfold maxLen;omega,by simp,by simp⟩⟩
def av(h:bR w g t cs)(a:Below w.heap.size w w'):bR w' g t cs:=(a.block g h.lt).trans h
def et.keep{base:Nat}(h:et base e v w)(c:Below w.heap.size w w'):et base e v w':=by
 obtain⟨g,rfl,b,a⟩:=h;exact⟨g,rfl,b,av a c⟩
def et.new(w:World){base:Nat}(e:TypeId)(a:base<=w.heap.size):et base e (.slice (some ⟨w.heap.size,0,none⟩) 0 0) (w.alloc (.cells #[] e)):=⟨_,rfl,a,bR.new _ _ _⟩
def akN(base:Nat)(e:TypeId)(es:Array Value)(v:Value)(w:World):Prop:=∃g,v=.slice (some ⟨g,0,none⟩) 1 1/\base<=g/\bR w g e es
def akN.keep{base:Nat}(h:akN base e es v w)(c:Below w.heap.size w w'):akN base e es v w':=by
 obtain⟨g,rfl,b,a⟩:=h;exact⟨g,rfl,b,av a c⟩
def akN.new(w:World){base:Nat}(e:TypeId)(es:Array Value)(a:base<=w.heap.size):akN base e es (.slice (some ⟨w.heap.size,0,none⟩) 1 1) (w.alloc (.cells es e)):=⟨_,rfl,a,bR.new _ _ _⟩
end
section
variable {β:Bool}
open Go.RowKit
def ahl(p:Prop)(e:Ending):Prop:=(e=.returned (.bool true)/\p)\/e=.returned (.bool false)
def ahl.of{q:Bool}{p:Prop}(h:q=true->p):ahl p (.returned (.bool q)):=by
 cases q
 .exact .inr rfl
 .exact .inl ⟨rfl,h rfl⟩
def nm(b:Nat):Bool:=decide (97<=b)&&decide (b<=101)
def fW(s:ByteArray):Bool:=if h:s.size=1 then nm (s[0]'(by omega)).toNat else if h:s.size=3 then nm (s[0]'(by omega)).toNat&&(decide ((s[1]'(by omega)).toNat=47)&&nm (s[2]'(by omega)).toNat) else false
def dn(s:ByteArray):Bool:=decide (s.size<=40)&&(bs s).all oH
def kF(h:fW s=true):s.size=1\/s.size=3:=by
 unfold fW at h;split at h
 .exact .inl (by assumption)
 .split at h
  .exact .inr (by assumption)
  .cases h
def oK(b:Nat)(w:World) :
  Calls (ah β) 93 #[.int .u8 b] w λe f=>e=.returned (.bool (nm b))/\w=f:=by
 by_cases c:97<=b
 .by_cases a:b<=101
  .have e:nm b=true:=by unfold nm;rw[db c,db a];rfl
   rw[e];clear e;have d:=db (show(b:Int)<=101 by omega);go_enter wQ,ntmps93;go_wp2;go_ret;exact⟨rfl,rfl⟩
  .have e:nm b=false:=by unfold nm;rw[bv a,Bool.and_false]
   rw[e];clear e;have d:=bv (show ¬((b:Int)<=101) by omega);go_enter wQ,ntmps93;go_wp2;go_ret;exact⟨rfl,rfl⟩
 .have e:nm b=false:=by unfold nm;rw[bv c,ua]
  rw[e];clear e;go_enter wQ,ntmps93;go_wp2;go_ret;exact⟨rfl,rfl⟩
def kH(s:ByteArray)(f:s.size<=maxLen)(w:World) :
  Calls (ah β) 54 #[.string s] w λe d=>e=.returned (.bool (dn s))/\w=d:=by
 by_cases b:s.size<=40
 .have a:(bs s).all oH=dn s:=by unfold dn;rw[db b,un]
  replace a:=ab a;have c:=db (show(s.size:Int)<=40 by omega);go_enter xk,ntmps54;go_wp2;refine(afy s f w).mono ?_;rintro e g ⟨rfl,rfl⟩;rw[a.out];go_wp2;go_ret;exact⟨rfl,rfl⟩
 .have c:=bv (show ¬((s.size:Int)<=40) by omega);have e:dn s=false:=by unfold dn;rw[bv b,ua]
  rw[e];clear e;go_enter xk,ntmps54;go_wp2;go_ret;exact⟨rfl,rfl⟩
def aeB(s:ByteArray)(n:Nat)(H:s.size*n<=100)(G:s.size<=100)(j:n<=100)(w:World) :
  Calls (ah β) 57 #[.string s,.int .i64 n] w λe r=>(∃t:ByteArray,e=.returned (.string t)/\t.size<=100)/\w=r:=by
 go_enter yJ,ntmps57;go_wp2
 go_loop [0,1,5] (λa i o=>∃(x y:ByteArray) (k:Nat),a=.string x/\i=.int .i64 k/\o=.string y/\y.size+x.size*k<=100/\x.size<=200/\k<=100) (λ_ i _=>(intOf i).toNat)
 case atStart=>exact⟨s,⟨#[]⟩,n,rfl,rfl,rfl,by show 0+_<=_;omega,by omega,j⟩
 case round=>
  obtain⟨x,y,k,rfl,rfl,rfl,f,C,F⟩:=hrel;have d:(x++x).size=x.size+x.size:=by rw[<-aK,gW,ap,aK]
  have c:(y++x).size=y.size+x.size:=by rw[<-aK,gW,ap,aK,aK]
  by_cases v:k=0
  .subst v;go_wp2;go_ret;exact⟨⟨y,rfl,by omega⟩,rfl⟩
  .have A:x.size<=100:=by
    have:x.size*1<=x.size*k:=Nat.mul_le_mul_left _ (by omega);omega
   obtain⟨m,p⟩:∃m,m=k / 2:=⟨_,rfl⟩;have E:(k:Int) / 2=((m:Nat):Int):=by omega
   have D:0<(k:Int):=by omega
   have z:m<=100/\m<k:=by omega
   have u:y.size<=100:=by omega
   rcases uP k with l|l
   .have q:(k:Int) % 2=0:=by omega
    have b:(x.size+x.size)*m=x.size*k:=by
     have:k=2*m:=by omega
     rw[this,<-Nat.two_mul,tT 2,Nat.mul_assoc]
    have g:=ab b;replace d:=ab d;replace f:=ab f;clear b c l p;go_wp2
    go_round
    case rel=>exact⟨x++x,y,m,rfl,rfl,rfl,by rw[d.out,g.out];exact f.out,by rw[d.out];omega,by omega⟩
    simp[intOf];omega
   .have q:(k:Int) % 2=1:=by omega
    have b:y.size+x.size+(x.size+x.size)*m=y.size+x.size*k:=by
     have:k=2*m+1:=by omega
     rw[this,Nat.mul_add,<-Nat.two_mul,tT 2,Nat.mul_assoc,tK];omega
    have g:=ab b;replace d:=ab d;replace c:=ab c;replace f:=ab f;clear b p;have B:(((k:Int) % 2) ==1)=true:=by rw[q];rfl
    go_wp2
    go_round
    case rel=>exact⟨x++x,y++x,m,rfl,rfl,rfl,by rw[d.out,c.out,g.out];exact f.out,by rw[d.out];omega,by omega⟩
    simp[intOf];omega
def iT(s:ByteArray)(p:s.size<=maxLen)(w:World) :
  Calls (ah β) 53 #[.string s] w λe o=>e=.returned (.bool (fW s))/\w=o:=by
 unfold maxLen at p;by_cases j:s.size=1
 .have m:((s.size:Int) ==1)=true:=by rw[j];rfl
  have a:0<s.size:=by omega
  have d:nm (s[0]'a).toNat=fW s:=by unfold fW;rw[tu j]
  have q:=ab d;clear d;have HC:=ab (oK (β:=β) (s[0]'a).toNat w);go_enter wn,ntmps53;go_wp2;refine HC.out.mono ?_;rintro e i ⟨rfl,rfl⟩;rw[q.out];go_wp2;go_ret;exact⟨rfl,rfl⟩
 .by_cases k:s.size=3
  .have m:((s.size:Int) ==1)=false:=fa.2 (by omega);have n:((s.size:Int) ==3)=true:=by rw[k];rfl
   have a:0<s.size:=by omega
   have c:1<s.size:=by omega
   have f:2<s.size:=by omega
   have d:fW s=(nm (s[0]'a).toNat&&(decide ((s[1]'c).toNat=47)&&nm (s[2]'f).toNat)):=by unfold fW;rw[dif_neg j,tu k]
   have HC:=ab (oK (β:=β) (s[0]'a).toNat w);have g:=ab (oK (β:=β) (s[2]'f).toNat w);rw[d];clear d;revert HC;revert g;generalize nm (s[0]'a).toNat=q0;generalize nm (s[2]'f).toNat=q2;intro g HC;cases q0
   .go_enter wn,ntmps53;go_wp2;refine HC.out.mono ?_;rintro e i ⟨rfl,rfl⟩;go_wp2;go_ret;exact⟨rfl,rfl⟩
   .by_cases b:(s[1]'c).toNat=47
    .rw[db b];have l:(((s[1]'c).toNat:Int) ==47)=true:=by rw[b];rfl
     clear b;go_enter wn,ntmps53;go_wp2;refine HC.out.mono ?_;rintro e i ⟨rfl,rfl⟩;go_wp2;refine g.out.mono ?_;rintro e i ⟨rfl,rfl⟩;go_wp2;go_ret;exact⟨by cases q2<;>rfl,rfl⟩
    .rw[bv b];have l:(((s[1]'c).toNat:Int) ==47)=false:=fa.2 (by omega);clear b;go_enter wn,ntmps53;go_wp2;refine HC.out.mono ?_;rintro e i ⟨rfl,rfl⟩;go_wp2;go_ret;exact⟨rfl,rfl⟩
  .have m:((s.size:Int) ==1)=false:=fa.2 (by omega);have n:((s.size:Int) ==3)=false:=fa.2 (by omega);have d:fW s=false:=by unfold fW;rw[dif_neg j,dif_neg k]
   rw[d];clear d;go_enter wn,ntmps53;go_wp2;go_ret;exact⟨rfl,rfl⟩
def iU(s t:ByteArray):Bool:=if h:0<s.size/\0<t.size then(if s.size=t.size then false else((s[0]'h.1).toNat:Int) ==((t[0]'h.2).toNat:Int)) else false
def ahm(s t:ByteArray)(o:0<s.size/\s.size<=maxLen)(n:0<t.size/\t.size<=maxLen)(w:World) :
  Calls (ah β) 84 #[.string s,.string t] w λe m=>e=.returned (.bool (iU s t))/\Below w.heap.size w m:=by
 obtain⟨a,k⟩:=o;obtain⟨b,l⟩:=n;by_cases j:s.size=t.size
 .have f:iU s t=false:=by unfold iU;rw[tu ⟨a,b⟩,dk j]
  rw[f];clear f;go_enter xh,ntmps84;go_wp2;refine cD 12 [0,1,2,3,4,5,6,7,8,9,10,11] [] (h:= ?_);simp only[pick,List.map,pi,pm];repeat(go_big_quiet_step (fail))
  refine lE ?_;apply Exists.intro;refine ep ?_;intro p i g d c;dsimp only[js] at c;try rw[d] at c
  clear d g;simp only[List.drop];clear c;go_wp2;go_ret;exact⟨rfl,i⟩
 .have q:((s.size:Int) !=(t.size:Int))=true:=by simp;omega
  have f:iU s t=(((s[0]'a).toNat:Int) ==((t[0]'b).toNat:Int)):=by unfold iU;rw[tu ⟨a,b⟩,be j]
  rw[f];clear f;go_enter xh,ntmps84;go_wp2;refine cD 12 [0,1,2,3,4,5,6,7,8,9,10,11] [] (h:= ?_);simp only[pick,List.map,pi,pm];repeat(go_big_quiet_step (fail))
  refine lE ?_;apply Exists.intro;refine ep ?_;intro p i g d c;dsimp only[js] at c;try rw[d] at c
  clear d g;simp only[List.drop];clear c;go_wp2;go_ret;exact⟨rfl,i⟩
def dig(x:Nat):Int:=((x:Int)-97) % 256
def oL(l:List Nat)(p:Nat):Bool:=(dig (l.getD (p-1) 0)+2*dig (l.getD (p-2) 0)+3*dig (l.getD (p-3) 0)) % 5 ==0
def pG(h:k<s.size):(bs s).getD k 0=(s[k]'h).toNat:=by rw[sH,aaL h];rfl
def akO(s:ByteArray)(p:Nat)(v:3<=p/\p<s.size)(r:s.size<=maxLen)(w:World) :
  Calls (ah β) 166 #[.string s,.int .i64 p] w λe o=>e=.returned (.bool (oL (bs s) p))/\Below w.heap.size w o:=by
 unfold maxLen at r;obtain⟨a,l⟩:∃a,a=p-1:=⟨_,rfl⟩;obtain⟨b,j⟩:∃b,b=p-2:=⟨_,rfl⟩;obtain⟨c,n⟩:∃c,c=p-3:=⟨_,rfl⟩;have m:a<s.size:=by omega
 have g:b<s.size:=by omega
 have i:c<s.size:=by omega
 have y:(p:Int)-1=((a:Nat):Int):=by omega
 have x:(p:Int)-2=((b:Nat):Int):=by omega
 have z:(p:Int)-3=((c:Nat):Int):=by omega
 have t:(p:Int)<=9223372036854775807:=by omega
 have k:oL (bs s) p=((dig (s[a]'m).toNat+2*dig (s[b]'g).toNat+3*dig (s[c]'i).toNat) % 5 ==0):=by unfold oL;rw[<-l,<-j,<-n,pG m,pG g,pG i]
 rw[k];clear l j n k;go_enter xK,ntmps166;go_wp2;refine cD 24 [0,1,2,3,4,5,6,7,8,9,10,11,12,13,14,15,16,17,18,19,20,21,22,23] [] (h:= ?_);simp only[pick,List.map,pi,pm];repeat(go_big_quiet_step (fail))
 refine lE ?_;apply Exists.intro;refine ep ?_;intro A u q f d;dsimp only[js] at d;try rw[f] at d
 clear f q;simp only[List.drop];clear d;go_wp2;go_ret;exact⟨aC rfl,u⟩
end
section
variable {β:Bool}
open Go.RowKit
structure Flat (α:Type) where
 sz:Nat
 cells:α->List Value
 good:α->Prop
 len:∀x,(cells x).length=sz
 one:∀x,∀u∈cells x,u.oneCell'=true
 pos:0<sz
def bY{α:Type}(F:Flat α):fU α:=λ_ _ _ x a=>a=F.cells x/\F.good x
section
variable {α:Type} (F:Flat α)
def bY.loc:Lcy (bY F):=⟨λ_ _ _ h=>h⟩
def dt(xs:List α):List Value:=xs.flatMap F.cells
def mX(xs a:List α):dt F (xs++a)=dt F xs++dt F a:=rM
def aeC(x:α):dt F [x]=F.cells x:=by simp[dt]
def eu:∀a:List α,(dt F a).length=a.length*F.sz
 |[]=>by simp[dt]
 |x::a=>by
  show(F.cells x++dt F a).length=_;rw[ap,eu a,F.len,eg,rN,Nat.add_comm]
def gX:∀(a:List α) (i j:Nat) (x:α) (u:Value),a[i]?=some x->(F.cells x)[j]?=some u->(dt F a)[i*F.sz+j]?=some u
 |[],i,j,x,u,h,_=>by simp at h
 |g::a,i,j,x,u,h,hj=>by
  have b:=aG hj;rw[F.len] at b;show(F.cells g++dt F a)[i*F.sz+j]?=some u;cases i with
  |zero=>
   simp at h;subst h;rw[qy (by rw[F.len,uA,mc];exact b),uA,mc];exact hj
  |succ i=>
   have e:(i+1)*F.sz+j=F.sz+(i*F.sz+j):=by rw[rN];omega
   rw[e,qm (by rw[F.len];omega),F.len,rZ];exact gX a i j x u (by simpa using h) hj
def aoG{xs:List α}(h:(dt F xs)[j]?=some u):∃x,xs[j / F.sz]?=some x/\(F.cells x)[j % F.sz]?=some u:=by
 have a:=aG h;rw[eu] at a;have d:j / F.sz<xs.length:=Nat.div_lt_of_lt_mul (by rw[tT];exact a);refine⟨xs[j / F.sz],li d, ?_⟩;have b:j % F.sz<(F.cells xs[j / F.sz]).length:=by rw[F.len];exact uC _ F.pos
 have c:=gX F xs (j / F.sz) (j % F.sz) xs[j / F.sz] _ (li d) (li b);rw[Nat.div_add_mod'] at c;rw[li b,<-c,h]
def pH(xs:List α):∀u∈dt F xs,u.oneCell'=true:=by
 intro u a;obtain⟨g,_,b⟩:=qa.1 a;exact F.one g u b
def aF(e:TypeId)(w:World)(base:Nat)(v:Value)(xs:List α):Prop:=w.ownsRow base e F.sz v xs.length (dt F xs)
variable {F}
def aF.sl{base : Nat}{xs:List α}(h:aF F e w base v xs)(c:∀x∈xs,F.good x)(a:w.heap.size<=hi):cV (bY F) F.sz w base hi xs [v]:=
 axo h a λi x hi=>⟨F.cells x,F.len x,⟨rfl,c x (da hi)⟩,λ_ _ b=>gX F xs i _ x _ hi b⟩
def aiD{base : Nat}(h:w.ownsRow base e Z v n O)(d:base'<=base):w.ownsRow base' e Z v n O:=by
 refine⟨h.1, ?_⟩;rcases h.2 with f|⟨g,cap,b,rfl,c,a⟩
 .exact .inl f
 .exact .inr ⟨g,cap,b,rfl,bd d c,a⟩
def aF.base{base : Nat}{xs:List α}(h:aF F e w base v xs)(a:base'<=base):aF F e w base' v xs:=aiD h a
def aF.nil(e:TypeId)(w:World)(base:Nat):aF F e w base (.slice none 0 0) []:=uV _ _ _ _
def aF.aqR{base:Nat}(h:et base e v w):aF F e w base v []:=h.own F.sz
def aF.below{base:Nat}{xs:List α}(h:aF F e w base v xs)(a:Below w.heap.size w w'):aF F e w' base v xs:=aex h a
def aF.dQ{base:Nat}{xs:List α}(h:aF F e w base v xs)(c:bq S w w')(a:∀b,v.ownBlock=some b->¬S b):aF F e w' base v xs:=ahb h c a
def aF.at_{base:Nat}{xs:List α}(h:aF F e w base v xs)(a:v.ownBlock=some g):base<=g/\g<w.heap.size:=h.lt g a
def aF.bM{base:Nat}{xs:List α}(h:aF F e w base v xs)(u:Value)(c:p.block<base):aF F e (w.setCell p u) base v xs:=
 h.dQ (S:=λb=>b=p.block) ((bq.refl (λb=>b=p.block) w).setCell (p:=p) (.inl rfl) u) λb a e=>by have:=h.at_ a;omega
def aoH{base : Nat}{e' : TypeId}{v' : Value}{cs : List Value}(h:w.ownsRow base e Z v n cs)(m:w.ownsRow base' e' N v' c O)(o:e≠e'):∀b,v.ownBlock=some b->v'.ownBlock≠some b:=by
 intro b d a;rcases h.2 with⟨rfl,_⟩|⟨g,cap,l,rfl,_,j,_⟩
 .simp[Value.ownBlock] at d
 .rcases m.2 with⟨rfl,_⟩|⟨p,i,k,rfl,_,f,_⟩
  .simp[Value.ownBlock] at a
  .simp[Value.ownBlock] at d a;rw[d] at j;rw[a,j] at f;simp at f;exact o f.2
def aF.aqS{base:Nat}{xs:List α}(h:aF F e w base v xs)(u:Value)(a:∀b,v.ownBlock=some b->b≠p.block):aF F e (w.setCell p u) base v xs:=
 h.dQ (S:=λb=>b=p.block) ((bq.refl (λb=>b=p.block) w).setCell (p:=p) (.inl rfl) u) a
def aF.form{base:Nat}{xs:List α}(h:aF F e w base v xs):∃A c,v=.slice A xs.length c:=jr h
def af4:∀(a:List α) (i j:Nat) (x y:α) (u:Value),a[i]?=some x->j<F.sz->F.cells y=(F.cells x).set j u->dt F (a.set i y)=(dt F a).set (i*F.sz+j) u
 |[],i,j,x,y,u,h,_,_=>by simp at h
 |z::a,0,j,x,y,u,h,hj,hy=>by
  simp at h;subst h;show F.cells y++dt F a=(F.cells z++dt F a).set (0*F.sz+j) u
  rw[uA,mc,List.set_append_left _ _ (by rw[F.len];exact hj),hy]
 |z::a,i+1,j,x,y,u,h,hj,hy=>by
  show F.cells z++dt F (a.set i y)=(F.cells z++dt F a).set ((i+1)*F.sz+j) u
  have e:(i+1)*F.sz+j=F.sz+(i*F.sz+j):=by rw[rN];omega
  rw[e,vK _ _ (by rw[F.len];omega),F.len,rZ,af4 a i j x y u (by simpa using h) hj hy]
def aF.put{base cap : Nat}{xs:List α}(h:aF F e w base (.slice (some ⟨g,0,none⟩) xs.length cap) xs){x y:α}(c:xs[i]?=some x)(a:j<F.sz)(b:F.cells y=(F.cells x).set j u) :
  aF F e (w.setCell ⟨g,i*F.sz+j,none⟩ u) base (.slice (some ⟨g,0,none⟩) xs.length cap) (xs.set i y):=by
 unfold aF;rw[af4 xs i j x y u c a b,qM];exact(h.stored _ u).1
def aF.cell{base cap : Nat}{xs:List α}(h:aF F e w base (.slice (some ⟨g,0,none⟩) xs.length cap) xs){x:α}(b:xs[i]?=some x)(a:(F.cells x)[j]?=some u):w.cell? ⟨g,i*F.sz+j,none⟩=some u:=by
 have c:=aG a;rw[F.len] at c;have d:=aG b;have f:(i+1)*F.sz<=xs.length*F.sz:=rF _ d;rw[rN] at f;rw[h.cellAt _ (by omega)];exact gX F xs i j x u b a
def aF.frozen{base cap : Nat}{xs:List α}(h:aF F e w base (.slice (some ⟨g,0,none⟩) n cap) xs)(a:n=xs.length)(j:Nat):w.frozen? ⟨g,j,none⟩=false:=by
 subst a;exact h.frozenAt j
def aF.some_{base:Nat}{xs:List α}(h:aF F e w base v xs)(b:0<xs.length):∃g c,v=.slice (some ⟨g,0,none⟩) xs.length c:=by
 rcases h.2 with⟨_,d⟩|⟨g,cap,a,rfl,_⟩
 .omega
 .exact⟨g,cap,rfl⟩
def ml{xs:List α}(h:cV (bY F) F.sz w lo hi xs [.slice A n c])(t:hi<=w.heap.size) :
  0<xs.length->∃a,A=some a/\∀(j:Nat) (u:Value),(dt F xs)[j]?=some u->∀f,Below w.heap.size w f->f.cell? (a.add j)=some u:=by
 intro k;obtain⟨x,p⟩:=aq k;obtain⟨b,d,_,rfl,_⟩:=h.at_ p;refine⟨_,rfl,λj u m f o=> ?_⟩;obtain⟨y,l,g⟩:=aoG F m;obtain⟨s,v,r,e,_,_,_,⟨rfl,_⟩,q⟩:=h.at_ l;simp only[mt,qv,ql] at e;obtain⟨rfl,rfl⟩:=e;have i:(⟨b,d,none⟩:Addr).add j=⟨b,d+j,none⟩:=by unfold Addr.add;split<;>simp_all
 rw[i];have:=q _ _ g;rw[uQ,Nat.div_add_mod'] at this;exact dJ o this
def cV.good{xs:List α}{cs:List Value}(h:cV (bY F) F.sz w lo hi xs cs):∀x∈xs,F.good x:=λx b=>by
 obtain⟨c,a⟩:=h.aqC x b;exact a.2
end
def gM:Flat Int:=⟨1,λx=>[.int .i64 x],bF,λ_=>rfl,λx u a=>by rw[jn.1 a];rfl,by decide⟩
def pI(xs:List Int):dt gM xs=xs.map (Value.int .i64):=by
 induction xs with
 |nil=>rfl
 |cons x xs a=>show Value.int .i64 x::dt gM xs=_;rw[a];rfl
section
variable {P:Program}
def aiE {ty : TypeId} (p:gJ P t e Z N) {base:Nat} (r:et base e v w)
  {news:List Value} (D:news.length=m*Z) (F:0<m->∃a,A=some a/\∀(j:Nat) (u:Value),news[j]?=some u->w.cell? (a.add j)=some u) (J:∀u∈news,u.oneCell'=true)
  (R:m<=1099511627776) (l:base<=w.heap.size) :
  ∃E s,(Builtin.append_ #[t,t] ty #[v,.slice A m c]).run P w=.ok E s/\s.ownsRow base e Z E m news/\Below w.heap.size w s:=by
 obtain⟨i,z,G,M,B,C,S⟩:=p.info;have o:=r.own Z;obtain⟨K,I,d,y⟩:=am5 (P:=P) (ty:=ty) p o (c:=c) D F J (by omega) l;have b:=y.own;rw[mc,qW] at b;refine⟨K,I,d,b, ?_⟩;obtain⟨g,rfl,O,H⟩:=r;rcases pa m with x|x
 .subst x;have q:news=[]:=rY (by simpa using D);subst q;have k:(Builtin.append_ #[t,t] ty #[.slice (some ⟨g,0,none⟩) 0 0,.slice A 0 c]).run P w=.ok (.slice (some ⟨g,0,none⟩) 0 0) w:=by
   cases A<;>simp[Builtin.append_,lm p.slice,sizeOf,typeInfo,G,Builtin.lenOf,Builtin.firstCells,storeCells,loadCells,loadCellsFrom]
  rw[k] at d;cases d;exact gc _ _
 .obtain⟨L,rfl,n⟩:=F x;have f:m*N<=140737488355328:=bd (Nat.mul_le_mul R p.small) (by omega);have k:=run_append_grow (P:=P) w t ty e i z p.slice G M ⟨g,0,none⟩ 0 0 [] (by simp) (λj u Q=>by simp at Q) L m c news (by rw[B];exact D) n (by omega) (by omega) (growslice_fits (by omega) (by rw[C,mc];exact f));rw[k] at d;cases d;exact((gc _ _).drew).alloc (am _) _
variable {α:Type} {F:Flat α}
def abF (n:Below w.heap.size w x)     (g:o.guard=none) (s y:Operand) (t:TypeId)
  (D:o.op=.call ⟨.builtin .append,#[s,y],#[t,t]⟩)
  (B:gJ P t e F.sz Z) {xs:List α} {base : Nat} (p:base<=w.heap.size) (I:a.eval s=v) (E:a.eval y=.slice A xs.length c) (k:et base e v x)
  (m:0<xs.length->∃a,A=some a/\∀(j:Nat) (u:Value),(dt F xs)[j]?=some u->∀d,Below w.heap.size w d->d.cell? (a.add j)=some u) (J:xs.length<=1099511627776)
  (h:∀f i,Below x.heap.size x i->aF F e i base f xs->wpList P W R rest (a.put o.dst f) i):wpList P W R (o::rest) a x:=by
 obtain⟨f,d,G,b,l⟩:=aiE (P:=P) (ty:=o.type) B k (c:=c) (eu F xs) (λC=>by
  obtain⟨z,r,L⟩:=m C;exact⟨z,r,λj u H=>L j u H _ n⟩) (pH F xs) J (bd p n.size)
 refine wpList_plain g λK q=> ?_;unfold Oper.wp execOp;simp only[D,resolve,invoke,builtin,tv,tS,ue,List.map_toArray,qL,List.map_nil,I,E,G];exact q _ _ (h f d l b)
def aiG {x:fV w}    (g:o.guard=none) (s y:Operand) (t:TypeId)
  (i:o.op=.call ⟨.builtin .append,#[s,y],#[t,t]⟩)
  (n:gJ P t e F.sz Z) {xs:List α} {base : Nat} (q:base<=w.heap.size) (r:a.eval s=v) (p:a.eval y=.slice A xs.length c) (k:et base e v x.to)
  (l:0<xs.length->∃a,A=some a/\∀(j:Nat) (u:Value),(dt F xs)[j]?=some u->∀m,Below w.heap.size w m->m.cell? (a.add j)=some u) (z:xs.length<=1099511627776)
  (h:∀d (f:fV w),fV.le x f->aF F e f.to base d xs->R .normal (a.put o.dst d) f.to):wpList P W R [o] a x.to:=
 abF x.ok g s y t i n q r p k l z λd f b i=>h d (x.mk' b) b i
def bU      (j:o.guard=none) (s x:Operand) (t:TypeId)
  (n:o.op=.call ⟨.builtin .append,#[s,x],#[t,t]⟩)
  (m:gJ P t e F.sz Z) {base:Nat} {xs:List α} (y:α) (p:a.eval s=v) (f:aF F e w base v xs) {T:TypeId} (q:a.eval x=.slice (some ⟨w.heap.size,0,none⟩) 1 1) (d:es.toList=F.cells y)
  (r:xs.length<=1099511627775) (c:base<=w.heap.size)
  (h:∀i g,aF F e g base i (xs++[y])->bq (λb=>v.ownBlock=some b) w g->(∀b,i.ownBlock=some b->v.ownBlock=some b\/w.heap.size<=b)->wpList P W Q rest (a.put o.dst i) g) :
  wpList P W Q (o::rest) a (w.alloc (.cells es T)):=
 atU j s x t n m p f q (by rw[<-qU,d,F.len]) (by rw[d];exact F.one y) r c λi g k=>h i g (by
  have l:=k.own;unfold aF;rw[mX,aeC,ap];rw[d] at l;exact l) k.dQ k.at_
def acB      (k:o.guard=none) (s x:Operand) (t:TypeId)
  (r:o.op=.call ⟨.builtin .append,#[s,x],#[t,t]⟩)
  (q:gJ P t e F.sz Z) {base:Nat} {xs:List α} (y:α) (B:a.eval s=v) (d:aF F e w base v xs)  {T:TypeId} (C:a.eval x=.slice (some ⟨g,0,none⟩) 1 1) (p:bR w g T es) (m:es.toList=F.cells y)
  (D:xs.length<=1099511627775) (c:base<=w.heap.size)
  (h:∀i f,aF F e f base i (xs++[y])->bq (λb=>v.ownBlock=some b) w f->(∀b,i.ownBlock=some b->v.ownBlock=some b\/w.heap.size<=b)->wpList P W Q rest (a.put o.dst i) f) :
  wpList P W Q (o::rest) a w:=
 abz k s x t r q B d C (news:=F.cells y) (by rw[F.len,Nat.one_mul]) (λ_=>⟨_,rfl,λj u z=>by
  have n:(⟨g,0,none⟩:Addr).add j=⟨g,j,none⟩:=by unfold Addr.add;split<;>simp_all
  rw[n,p.cell,<-dl,m];exact z⟩) (F.one y) (by omega) c λi f l=>h i f (by
  have A:=l.own;unfold aF;rw[mX,aeC,ap];exact A) l.dQ l.at_
end
end
section
variable {β:Bool}
open Go.RowKit
def Typed(w:World)(T:List TypeId)(b:Nat):Prop:=∃t∈T,∃a,bR w b t a
structure dV {α:Type} (E:fU α) (T:List TypeId):Prop where
 go:∀{w w':World} {lo hi oG hi':Nat} {x:α} {cs:List Value},
  (∀b,lo<=b->b<hi->Typed w T b->w'.heap[b]?=w.heap[b]?)->oG<=lo->hi<=hi'->E w lo hi x cs->E w' oG hi' x cs
section
variable {α:Type} {E:fU α} {T:List TypeId}
def dV.loc(d:dV E T):Lcy E:=⟨λh a c e=>d.go (λb a c _=>h b a c) a c e⟩
def dV.more(d:dV E T){U:List TypeId}(f:∀t∈T,t∈U):dV E U:=⟨λh c a e=>d.go (λb c a ⟨t,ht,hd⟩=>h b c a ⟨t,f t ht,hd⟩) c a e⟩
def dV.below(a:dV E T){B : Nat}{x:α}{cs:List Value}(h:E w lo hi x cs)(c:Below B w w')(b:hi<=B):E w' lo hi x cs:=a.loc.below h c b
def dV.wide(a:dV E T){oG hi' : Nat}{x:α}{cs:List Value}(h:E w lo hi x cs)(c:oG<=lo)(b:hi<=hi'):E w oG hi' x cs:=a.loc.wide h c b
def eA(h:bR w b t cs)(a:bR w b e U):t=e:=by
 unfold bR at h a;rw[h] at a;simp at a;exact a.2
def dV.dQ(c:dV E T){x:α}{cs:List Value}(h:E w lo hi x cs)(i:bq S w w')(f:∀b,lo<=b->b<hi->Typed w T b->¬S b):E w' lo hi x cs:=
 c.go (λb g e a=>i.block b (by obtain⟨_,_,_,d⟩:=a;exact d.lt) (f b g e a)) (am _) (am _) h
def bY.aw{α:Type}(F:Flat α):dV (bY F) []:=⟨λ_ _ _ h=>h⟩
def eL(e:TypeId)(E:fU α)(sz:Nat):fU (List α):=λw i j f d=>
 cV E sz w i j f d/\(0<f.length->∀b a n c,d=[.slice (some ⟨b,a,none⟩) n c]->∃g,bR w b e g)
def eL.aw(F:dV E T)  :dV (eL e E Z) (e::T):=by
 refine⟨?_⟩;intro w M S R P l Q O s o v ⟨⟨A,c,a,D,K,h⟩,p⟩;refine⟨⟨A,c,a,D,K,λm=> ?_⟩,λm b f n N r=> ?_⟩
 .obtain⟨b,f,rfl,k,g,J⟩:=h m;have q:=p m b f _ _ a;refine⟨b,f,rfl,bd o k,aE g v,λi x l=> ?_⟩;obtain⟨H,G,L,d⟩:=J i x l;exact⟨H,G,F.go (λb k g ⟨t,p,hd⟩=>s b k g ⟨t,qE _ p,hd⟩) o v L,λj u I=>(qs (s b k g ⟨e,qQ,q⟩)).trans (d j u I)⟩
 .obtain⟨B,C,z,k,g,_⟩:=h m;rw[a,z] at r;simp only[qb,pX,mt,qv,ql] at r;obtain⟨⟨rfl,rfl⟩,_,_⟩:=r;have q:=p m B C _ _ (a.trans (by rw[z]));obtain⟨y,hd⟩:=q;exact⟨y,(s B k g ⟨e,qQ,y,hd⟩).trans hd⟩
def eL.form{xs:List α}(h:eL e E Z w lo hi xs [v]):∃A c,v=.slice A xs.length c:=h.1.form
def aiH(E:fU α)(sz:Nat)(e:TypeId)(w:World)(lo base:Nat)(v:Value)(xs:List α):Prop:=
 ∃cells:List Value,w.ownsRow base e sz v xs.length cells/\(∀u∈cells,u.oneCell'=true)/\
  ∀i x,xs[i]?=some x->∃a:List Value,a.length=sz/\E w lo w.heap.size x a/\∀j u,a[j]?=some u->cells[i*sz+j]?=some u
variable {sz:Nat} {e:TypeId}
def aiH.blk{base : Nat}{xs:List α}(h:aiH E sz e w lo base v xs)(a:v.ownBlock=some g):∃d,bR w g e d:=by
 obtain⟨cells,h,_⟩:=h;rcases h.2 with⟨rfl,_⟩|⟨f,cap,b,rfl,_,c,_⟩
 .cases a
 .cases a;exact⟨_,c⟩
def aiH.sl{base : Nat}{xs:List α}(h:aiH E sz e w lo base v xs)(m:lo<=base):eL e E sz w lo w.heap.size xs [v]:=by
 have K:=λg t=>h.blk (g:=g) t;obtain⟨cells,p,_,s⟩:=h;refine⟨?_,λA b B n c q=> ?_⟩
 .obtain⟨L,F⟩:=p;rcases F with⟨rfl,a⟩|⟨g,cap,d,rfl,l,r,o,k,G,J⟩
  .exact⟨none,0,by rw[a],by omega,by unfold maxLen;omega,λA=>by omega⟩
  .refine⟨_,cap,rfl,o,k,λ_=>⟨g,0,rfl,bd m l,(de.1 r).1,λi x H=> ?_⟩⟩;obtain⟨C,m,I,z⟩:=s i x H;refine⟨C,m,I,λj u D=> ?_⟩;have f:=z j u D;rw[<-J,qX] at f;split at f
   .rw[cell_of_row w g (0+i*sz+j) d _ (0,0) r,mc];simpa using f
   .cases f
 .simp only[qb,ql] at q;subst q;rcases p.2 with⟨a,_⟩|⟨g,cap,d,a,_,y,_⟩
  .cases a
  .cases a;exact⟨_,y⟩
def aF.deep{α:Type}{F:Flat α}{base:Nat}{xs:List α}(h:aF F e w base v xs)(b:∀x∈xs,F.good x)(lo:Nat):aiH (bY F) F.sz e w lo base v xs:=
 ⟨_,h,pH F xs,λi x a=>⟨F.cells x,F.len x,⟨rfl,b x (da a)⟩,λ_ _ c=>gX F xs i _ x _ a c⟩⟩
end
section
variable {P:Program} {α:Type} {E:fU α} {T:List TypeId} {sz:Nat} {e:TypeId}
end
section
variable {α:Type} {E:fU α}
def aeD(b o i:Nat):(⟨b,o,none⟩:Addr).add i=⟨b,o+i,none⟩:=by unfold Addr.add;split<;>simp_all
def eL.aqT{xs:List α}(h:eL e E Z w lo hi xs [.slice A n c])(H:k<=xs.length):eL e E Z w lo hi (xs.drop k) [.slice (if c=k then A else A.map λx=>x.add (k*Z)) (xs.length-k) (c-k)]:=by
 obtain⟨⟨A',s,o,I,J,r⟩,t⟩:=h;simp only[qb,pX,ql] at o;obtain⟨rfl,rfl,rfl⟩:=o;refine⟨⟨_,c-k,by rw[pY],by rw[pY];omega,by omega,λm=> ?_⟩,λm b g G s l=> ?_⟩
 .rw[pY] at m;have d:¬c=k:=by omega
  have a:0<xs.length:=by omega
  obtain⟨b,g,rfl,q,p,f⟩:=r a;refine⟨b,g+k*Z,by rw[be d];simp[Addr.add],q,p,λi x hi=> ?_⟩;rw[tc] at hi;obtain⟨B,D,v,z⟩:=f _ _ hi;refine⟨B,D,v,λj u F=> ?_⟩;have:=z j u F;rw[<-this,Nat.add_mul]
  congr 2
  omega
 .rw[pY] at m;have d:¬c=k:=by omega
  have a:0<xs.length:=by omega
  obtain⟨C,y,rfl,q,p,f⟩:=r a;rw[be d] at l;simp only[qf,aeD,qb,pX,mt,qv,ql] at l;obtain⟨⟨rfl,_⟩,_⟩:=l;exact t a C y _ _ rfl
def eL.aqU{xs:List α}(h:eL e E Z w lo hi xs [.slice A n c])(u:k<=xs.length):eL e E Z w lo hi (xs.take k) [.slice A k c]:=by
 obtain⟨⟨A',o,j,v,s,r⟩,p⟩:=h;simp only[qb,pX,ql] at j;obtain⟨rfl,rfl,rfl⟩:=j;have d:(xs.take k).length=k:=by rw[ff];omega
 refine⟨⟨_,c,by rw[d],by rw[d];omega,s,λg=> ?_⟩,λg b a t o l=> ?_⟩
 .rw[d] at g;obtain⟨b,a,rfl,q,m,f⟩:=r (by omega);refine⟨b,a,rfl,q,m,λi x hi=> ?_⟩;rw[qX] at hi;split at hi
  .exact f _ _ hi
  .cases hi
 .rw[d] at g;simp only[qb,pX,ql] at l;obtain⟨rfl,rfl,rfl⟩:=l;exact p (by omega) b a _ _ rfl
end
def adW{F:Flat Y}{base : Nat}(c:bR w g e cs)(a:cs.toList=dt F xs)(f:base<=g)(i:n=xs.length)(b:n<=maxLen):aF F e w base (.slice (some ⟨g,0,none⟩) n n) xs:=by
 subst i;have d:cs.toList.length=xs.length*F.sz:=by rw[a,eu]
 exact⟨eu F xs,.inr ⟨g,xs.length,cs,rfl,f,c,am _,b,by rw[<-qU];exact d,by rw[a,qj (by rw[eu];exact am _)]⟩⟩
end
section
variable {β:Bool}
structure Sp where
 n:Int
 p:Int
def abG(l:List Sp):Prop:=l.Pairwise λa b=>a.n<b.n
def spP(s:Sp):Prop:=(0<=s.n/\s.n<=999999999988)/\(1<=s.p/\s.p<=99)
def ixP(l:List Sp):Prop:=(∀s∈l,spP s)/\abG l
def dz(s:Sp):List Sp->List Sp
 |[]=>[s]
 |x::xs=>if s.n<x.n then s::x::xs else if x.n<s.n then x::dz s xs else s::xs
def oN{s x:Sp}:∀{l:List Sp},x∈dz s l->x=s\/x∈l
 |[],h=>by have:x∈[s]:=h;simp at this;exact .inl this
 |y::l,h=>by
  have a:x∈(if s.n<y.n then s::y::l else if y.n<s.n then y::dz s l else s::l):=h;split at a
  .rcases jp.1 a with e|e
   .exact .inl e
   .exact .inr e
  .split at a
   .rcases jp.1 a with e|e
    .exact .inr (by rw[e];simp)
    .rcases oN e with e|e
     .exact .inl e
     .exact .inr (by simp[e])
   .rcases jp.1 a with e|e
    .exact .inl e
    .exact .inr (by simp[e])
def at0{s:Sp}:∀{l:List Sp},s∈dz s l
 |[]=>by show s∈[s];simp
 |y::l=>by
  show s∈(if s.n<y.n then s::y::l else if y.n<s.n then y::dz s l else s::l);split
  .simp
  .split
   .exact qE _ at0
   .simp
def aeE{s:Sp}:∀{l:List Sp},abG l->abG (dz s l)
 |[],_=>rK _ _
 |y::l,h=>by
  have c:=rQ.1 h;show abG (if s.n<y.n then s::y::l else if y.n<s.n then y::dz s l else s::l);split
  .rename_i b;refine rQ.2 ⟨λz a=> ?_,h⟩;rcases jp.1 a with rfl|a
   .exact b
   .have:=c.1 z a;omega
  .split
   .rename_i b;refine rQ.2 ⟨λz a=> ?_,aeE c.2⟩;rcases oN a with rfl|a
    .exact b
    .exact c.1 z a
   .refine rQ.2 ⟨λz a=> ?_,c.2⟩;have:=c.1 z a;omega
def at1{s:Sp}{l:List Sp}(h:ixP l)(b:spP s):ixP (dz s l):=⟨λx a=>by
 rcases oN a with rfl|a
 .exact b
 .exact h.1 x a,aeE h.2⟩
def aeF{s:Sp}:∀{l:List Sp},(dz s l).length<=l.length+1
 |[]=>by show[s].length<=_;simp
 |y::l=>by
  show(if s.n<y.n then s::y::l else if y.n<s.n then y::dz s l else s::l).length<=_;split
  .simp
  .split
   .have:=aeF (s:=s) (l:=l);simp;omega
   .simp
def mn{s:Sp}:∀{a b:List Sp},(∀x∈a,x.n<s.n)->dz s (a++b)=a++dz s b
 |[],_,_=>rfl
 |x::a,b,h=>by
  have d:=h x (by simp);show(if s.n<x.n then s::x::(a++b) else if x.n<s.n then x::dz s (a++b) else s::(a++b))=x::(a++dz s b);rw[be (by omega),dk d,mn λy c=>h y (by simp[c])]
def acC{s x:Sp}(c:s.n<x.n):∀{a b:List Sp},dz s (a++x::b)=dz s a++x::b
 |[],b=>by
  show(if s.n<x.n then s::x::b else _)=[s]++x::b;rw[dk c];rfl
 |y::a,b=>by
  show(if s.n<y.n then s::y::(a++x::b) else if y.n<s.n then y::dz s (a++x::b) else s::(a++x::b))=(if s.n<y.n then s::y::a else if y.n<s.n then y::dz s a else s::a)++x::b;split
  .rfl
  .split
   .rw[acC c];rfl
   .rfl
inductive Tr where
 |nil
 |node (b:Nat) (s:Sp) (l r:Tr)
namespace Tr
def blocks:Tr->List Nat
 |nil=>[]
 |node b _ l r=>b::(l.blocks++r.blocks)
def list:Tr->List Sp
 |nil=>[]
 |node _ s l r=>l.list++s::r.list
def size:Tr->Nat
 |nil=>0
 |node _ _ l r=>l.size+r.size+1
def put(nb:Nat)(s:Sp):Tr->Tr
 |nil=>node nb s nil nil
 |node b x l r=>if s.n<x.n then node b x (l.put nb s) r else if x.n<s.n then node b x l (r.put nb s) else node b s l r
def oO:∀t:Tr,t.list.length=t.size
 |nil=>rfl
 |node _ _ l r=>by simp only[list,size,ap,eg,oO l,oO r];omega
def kI{a:Nat}{s:Sp}:∀{t:Tr} {b:Nat},b∈(t.put a s).blocks->b=a\/b∈t.blocks
 |nil,b,h=>by simp[put,blocks] at h;exact .inl h
 |node c x l r,b,h=>by
  unfold put at h;split at h
  .simp only[blocks,jp,ge] at h ⊢;rcases h with h|h|h
   .exact .inr (.inl h)
   .rcases kI h with h|h
    .exact .inl h
    .exact .inr (.inr (.inl h))
   .exact .inr (.inr (.inr h))
  .split at h
   .simp only[blocks,jp,ge] at h ⊢;rcases h with h|h|h
    .exact .inr (.inl h)
    .exact .inr (.inr (.inl h))
    .rcases kI h with h|h
     .exact .inl h
     .exact .inr (.inr (.inr h))
   .simp only[blocks,jp,ge] at h ⊢;exact .inr h
def aeG{e:Nat}{s:Sp}:∀{t:Tr},abG t.list->(t.put e s).list=dz s t.list
 |nil,_=>rfl
 |node c x l r,h=>by
  have b:=rG.1 h;have f:=rQ.1 b.2.1;unfold put;split
  .rename_i a;show(l.put e s).list++x::r.list=dz s (l.list++x::r.list);rw[aeG b.1,acC a]
  .split
   .rename_i a;show l.list++x::(r.put e s).list=dz s (l.list++x::r.list);rw[aeG f.2,mn λy d=>by have:=b.2.2 y d x (by simp);omega];show _=l.list++(if s.n<x.n then s::x::r.list else if x.n<s.n then x::dz s r.list else s::r.list);rw[be (by omega),dk a]
   .show l.list++s::r.list=dz s (l.list++x::r.list);rw[mn λy d=>by have:=b.2.2 y d x (by simp);omega];show _=l.list++(if s.n<x.n then s::x::r.list else if x.n<s.n then x::dz s r.list else s::r.list);rw[be (by omega),be (by omega)]
end Tr
def cN:List Sp->List Sp->List Sp
 |[],l=>l
 |s::ss,l=>cN ss (dz s l)
def mY:∀(a b l:List Sp),cN (a++b) l=cN b (cN a l)
 |[],_,_=>rfl
 |s::a,b,l=>mY a b (dz s l)
def acD:∀{a l:List Sp},abG l->abG (cN a l)
 |[],_,h=>h
 |s::a,l,h=>by show abG (cN a (dz s l));exact acD (aeE h)
def aiI:∀{a l:List Sp},ixP l->(∀s∈a,spP s)->ixP (cN a l)
 |[],_,h,_=>h
 |s::a,l,h,hs=>by show ixP (cN a (dz s l));exact aiI (at1 h (hs s (by simp))) λx b=>hs x (by simp[b])
def acE:∀{a l:List Sp},(cN a l).length<=a.length+l.length
 |[],_=>by show _<=_;simp[cN]
 |s::a,l=>by
  have b:=acE (a:=a) (l:=dz s l);have c:=aeF (s:=s) (l:=l);show(cN a (dz s l)).length<=_;simp only[eg];omega
def aoI{s:Sp}{l:List Sp}(h:∀x∈l,x.n<s.n):dz s l=l++[s]:=by
 have:=mn (s:=s) (a:=l) (b:=[]) h;rw[tf] at this;rw[this];rfl
def dM(n:Int):List Sp->Int
 |[]=>0
 |x::xs=>if x.n=n then x.p else dM n xs
def acF{s:Sp}{n:Int}:∀{l:List Sp},dM n (dz s l)=if s.n=n then s.p else dM n l
 |[]=>by show(if s.n=n then s.p else 0)=_;rfl
 |x::l=>by
  show dM n (if s.n<x.n then s::x::l else if x.n<s.n then x::dz s l else s::l)=_;split
  .rfl
  .split
   .show(if x.n=n then x.p else dM n (dz s l))=(if s.n=n then s.p else(if x.n=n then x.p else dM n l));rw[acF];split
    .rw[be (by omega)]
    .rfl
   .show(if s.n=n then s.p else dM n l)=(if s.n=n then s.p else(if x.n=n then x.p else dM n l));split
    .rfl
    .rw[be (by omega)]
end
section
variable {β:Bool}
open Go.RowKit
structure aV (w:World) (s:Nat) (ty:TypeId) (S:Nat->Prop) (pre:List Nat) where
 to:World
 done:Bool
 ok:bq (λb=>done=true/\S b) w to
section
variable {w:World} {s:Nat} {ty:TypeId} {S:Nat->Prop} {pre:List Nat}
instance ath:Nonempty (aV w s ty S pre):=⟨⟨w,false,bq.refl _ _⟩⟩
instance awl:aY (aV w s ty S pre):=⟨λ_ _=>True,λ_ _ _=>trivial,λi x=>i=s\/i∈pre->x.done=false⟩
def aV.le(x y:aV w s ty S pre):Prop:=
 (y.done=x.done/\Below x.to.heap.size x.to y.to)\/(x.done=false/\y.done=true/\bq (λb=>S b\/(w.heap.size<=b/\∃a:Array Value,bR x.to b ty a)) x.to y.to)
def aV.le_refl(x:aV w s ty S pre):aV.le x x:=.inl ⟨rfl,gc _ _⟩
def aV.le.till{x y:aV w s ty S pre}(h:aV.le x y)(b:y.done=false):x.done=false/\Below x.to.heap.size x.to y.to:=by
 rcases h with⟨a,c⟩|⟨_,a,_⟩
 .exact⟨a▸b,c⟩
 .rw[b] at a;cases a
def aV.le.from_{x y:aV w s ty S pre}(h:aV.le x y)(b:x.done=true):y.done=true/\Below x.to.heap.size x.to y.to:=by
 rcases h with⟨a,c⟩|⟨a,_⟩
 .exact⟨a.trans b,c⟩
 .rw[b] at a;cases a
def fB(h:w.cell? p=some v)(b:¬S p.block):∀x:aV w s ty S pre,x.to.cell? p=some v:=λx=>by
 have a:=sV w p h;unfold World.cell? at h ⊢;rw[x.ok.block p.block a λh=>b h.2];exact h
def aV.till(x:aV w s ty S pre)(a:x.done=false):Below w.heap.size w x.to:=⟨x.ok.os,x.ok.tape,x.ok.output,x.ok.size,λb c=>x.ok.block b c λh=>by rw[a] at h;cases h.1⟩
def aV.all(x:aV w s ty S pre)(c:∀b,¬S b):Below w.heap.size w x.to:=⟨x.ok.os,x.ok.tape,x.ok.output,x.ok.size,λb a=>x.ok.block b a λh=>c b h.2⟩
def aV.on(x:aV w s ty S pre){w2:World}(hb:Below x.to.heap.size x.to w2):aV w s ty S pre:=⟨w2,x.done,x.ok.trans (bq.aT (S:=λb=>x.done=true/\S b) hb) λ_ _ e=>e⟩
def aV.did(x:aV w s ty S pre){w2:World}(hc:bq (λb=>S b\/(w.heap.size<=b/\∃a:Array Value,bR x.to b ty a)) x.to w2):aV w s ty S pre:=
 ⟨w2,true,(x.ok.mono (T:=λb=>true=true/\S b) λ_ _ h=>⟨rfl,h.2⟩).trans hc λb c h=>by
  rcases h with h|h
  .exact⟨rfl,h⟩
  .omega⟩
def mZ     (s:Nat) (ty:TypeId) (S:Nat->Prop) (pre:List Nat) (n:Nat) (b a:List Nat) (f:P.follows .mixedOrders=true) (i:ahj T n b a=true) (c:adE T.toArray n X.tmps.size=true)
  (h:wpQuiet P T.toArray (λd=>∃x:aV w s ty S pre,d=x.to) (λg=>∃e:List (ig (aV w s ty S pre)),bN P T.toArray (aV.to (w:=w)) (aV.le (w:=w)) (wpList P T.toArray Q (T.drop n)) (pick T a) [] e g) ((pick T b).map (·.2)) X):(Code.region Z T.toArray true).wp P Q X w:=
 mW (aV.to (w:=w)) (aV.le (w:=w)) aV.le_refl n b a f i c ⟨w.drew,false,(bq.refl _ _).drew⟩ (λ_ _=>trivial) (λ_ _ _=>rfl) rfl h
variable {P:Program} {ops:Array Oper} {Qt:Act->World->Prop} {i:Nat} {o:Oper} {L:List (Nat×Oper)} {F:List (Nat×(aV w s ty S pre->Prop))} {Rs:List (ig (aV w s ty S pre))} {a:Act}
def akP (R:Value->aV w s ty S pre->Prop) (e:o.dst.isSome=true) (j:∀v x y,R v x->aV.le x y->R v y)
  (p:∀x:aV w s ty S pre,mj F o x->(i∈pre->x.done=false)->∀c:Exit->Act->World->Prop,(∀v d (b:Below x.to.heap.size x.to d),R v (x.on b)->c .normal (a.put o.dst v) d)->wpList P ops c [o] a x.to)
  (g:∀v,bN P ops (aV.to (w:=w)) (aV.le (w:=w)) Qt L ((i,λx=>R v x)::F) Rs (a.put o.dst v)):bN P ops (aV.to (w:=w)) (aV.le (w:=w)) Qt ((i,o)::L) F (.any R::Rs) a:=
 iA (to:=aV.to (w:=w)) (le:=aV.le (w:=w)) R (.inl e) j (λx m _ _ f c k=>p x m (λl=>f (.inr l)) c λv d b n=>
  k v (x.on b) (.inl ⟨rfl,b⟩) trivial (λ_ _ _ h=>h) n) g
def aaQ (c:Value)
  (j:∀x:aV w s ty S pre,mj F o x->(i∈pre->x.done=false)->∀b:Exit->Act->World->Prop,(∀d,Below x.to.heap.size x.to d->b .normal (a.put o.dst c) d)->wpList P ops b [o] a x.to)
  (g:bN P ops (aV.to (w:=w)) (aV.le (w:=w)) Qt L F Rs (a.put o.dst c)):bN P ops (aV.to (w:=w)) (aV.le (w:=w)) Qt ((i,o)::L) F (.fix c::Rs) a:=
 ahh (to:=aV.to (w:=w)) (le:=aV.le (w:=w)) c (λx m _ _ f b k=>j x m (λl=>f (.inr l)) b λd e=>k (x.on e) (.inl ⟨rfl,e⟩) trivial λ_ _ _ h=>h) g
def ahn (R:Value->aV w s ty S pre->Prop) (m:o.dst.isSome=true) (hi':i=s) (f:∀j∈pre,Behind ops i j) (q:∀v x y,R v x->aV.le x y->R v y)
  (A:∀x:aV w s ty S pre,mj F o x->x.done=false->∀c:Exit->Act->World->Prop,(∀v k (d:bq (λb=>S b\/(w.heap.size<=b/\∃z:Array Value,bR x.to b ty z)) x.to k),R v (x.did d)->c .normal (a.put o.dst v) k)->wpList P ops c [o] a x.to)
  (n:∀v,bN P ops (aV.to (w:=w)) (aV.le (w:=w)) Qt L ((i,λx=>R v x)::F) Rs (a.put o.dst v)):bN P ops (aV.to (w:=w)) (aV.le (w:=w)) Qt ((i,o)::L) F (.any R::Rs) a:=
 iA (to:=aV.to (w:=w)) (le:=aV.le (w:=w)) R (.inl m) q (λx t _ _ l c r=>A x t (l (.inl hi')) c λv k d p=>
  r v (x.did d) (.inr ⟨l (.inl hi'),rfl,d⟩) trivial (λj u g _ e=>e.elim (λe=>absurd (e.trans hi'.symm) u) λe=>absurd (f j e) g) p) n
def ahp(h:∀x:aV w s ty S pre,js F x->Qt a x.to):bN P ops (aV.to (w:=w)) (aV.le (w:=w)) Qt [] F [] a:=adU h
def aqV{F:Flat Y}{base:Nat}(c:aF F e x base v xs)(a:v.ownBlock=some b):base<=b/\∃f:Array Value,bR x b e f:=by
 refine⟨(c.at_ a).1, ?_⟩;rcases c.2 with⟨rfl,_⟩|⟨i,cap,d,rfl,_,g,_⟩
 .cases a
 .cases a;exact⟨_,g⟩
end
end
section
variable {β:Bool}
open Go.RowKit
structure aR (w:World) (fC:List Nat) (fl:Nat->Bool) (ty:TypeId) (S:Nat->Prop) where
 to:World
 st:Nat
 ok:bq (λb=>0<st/\S b) w to
 lim:st<=fC.length
section
variable {w:World} {fC:List Nat} {fl:Nat->Bool} {ty:TypeId} {S:Nat->Prop}
instance ati:Nonempty (aR w fC fl ty S):=⟨⟨w,0,bq.refl _ _,fb _⟩⟩
instance awm:aY (aR w fC fl ty S):=⟨λ_ _=>True,λ_ _ _=>trivial,λi x=>∀k,fC[k]?=some i->x.st<=k⟩
def aR.may(x:aR w fC fl ty S)(b:Nat):Prop:=S b\/(fl x.st=true/\w.heap.size<=b/\∃a:Array Value,bR x.to b ty a)
def aR.le(x y:aR w fC fl ty S):Prop:=(y.st=x.st/\Below x.to.heap.size x.to y.to)\/(y.st=x.st+1/\bq x.may x.to y.to)
def aR.le_refl(x:aR w fC fl ty S):aR.le x x:=.inl ⟨rfl,gc _ _⟩
def aR.le.st{x y:aR w fC fl ty S}(h:aR.le x y):x.st<=y.st:=by rcases h with⟨h,_⟩|⟨h,_⟩<;>omega
def aR.le.same{x y:aR w fC fl ty S}(h:aR.le x y)(a:y.st<=x.st):Below x.to.heap.size x.to y.to:=by
 rcases h with⟨_,h⟩|⟨h,_⟩
 .exact h
 .omega
def aR.le.dQ{x y:aR w fC fl ty S}(h:aR.le x y):bq x.may x.to y.to:=by
 rcases h with⟨_,h⟩|⟨_,h⟩
 .exact bq.aT h
 .exact h
def na(h:w.cell? p=some v)(b:¬S p.block):∀x:aR w fC fl ty S,x.to.cell? p=some v:=λx=>by
 have a:=sV w p h;unfold World.cell? at h ⊢;rw[x.ok.block p.block a λh=>b h.2];exact h
def aR.on_(x:aR w fC fl ty S):bq S w x.to:=x.ok.mono λ_ _ h=>h.2
def aR.on(x:aR w fC fl ty S){w2:World}(hb:Below x.to.heap.size x.to w2):aR w fC fl ty S:=⟨w2,x.st,x.ok.trans (bq.aT (S:=λb=>0<x.st/\S b) hb) λ_ _ e=>e,x.lim⟩
def aR.did(x:aR w fC fl ty S){w2:World}(hc:bq x.may x.to w2)(hl:x.st<fC.length):aR w fC fl ty S:=
 ⟨w2,x.st+1,(x.ok.mono (T:=λb=>0<x.st+1/\S b) λ_ _ h=>⟨by omega,h.2⟩).trans hc λb a h=>by
  rcases h with h|h
  .exact⟨by omega,h⟩
  .omega,hl⟩
def aR.zero(x:aR w fC fl ty S)(h:x.st=0):Below w.heap.size w x.to:=⟨x.ok.os,x.ok.tape,x.ok.output,x.ok.size,λb a=>x.ok.block b a λc=>by omega⟩
def akQ     (fC:List Nat) (fl:Nat->Bool) (ty:TypeId) (S:Nat->Prop) (n:Nat) (b a:List Nat) (f:P.follows .mixedOrders=true) (i:ahj T n b a=true) (c:adE T.toArray n X.tmps.size=true)
  (h:wpQuiet P T.toArray (λd=>∃x:aR w fC fl ty S,d=x.to) (λg=>∃e:List (ig (aR w fC fl ty S)),bN P T.toArray (aR.to (w:=w)) (aR.le (w:=w)) (wpList P T.toArray Q (T.drop n)) (pick T a) [] e g) ((pick T b).map (·.2)) X):(Code.region Z T.toArray true).wp P Q X w:=
 mW (aR.to (w:=w)) (aR.le (w:=w)) aR.le_refl n b a f i c ⟨w.drew,0,(bq.refl _ _).drew,fb _⟩ (λ_ _=>trivial) (λ_ _ k _=>fb k) rfl h
variable {P:Program} {ops:Array Oper} {Qt:Act->World->Prop} {i:Nat} {o:Oper} {L:List (Nat×Oper)} {F:List (Nat×(aR w fC fl ty S->Prop))} {Rs:List (ig (aR w fC fl ty S))} {a:Act}
def axt (R:Value->aR w fC fl ty S->Prop) (e:o.dst.isSome=true) (g:∀v x y,R v x->aR.le x y->R v y)
  (m:∀x:aR w fC fl ty S,mj F o x->∀c:Exit->Act->World->Prop,(∀v d (b:Below x.to.heap.size x.to d),R v (x.on b)->c .normal (a.put o.dst v) d)->wpList P ops c [o] a x.to)
  (f:∀v,bN P ops (aR.to (w:=w)) (aR.le (w:=w)) Qt L ((i,λx=>R v x)::F) Rs (a.put o.dst v)):bN P ops (aR.to (w:=w)) (aR.le (w:=w)) Qt ((i,o)::L) F (.any R::Rs) a:=
 iA (to:=aR.to (w:=w)) (le:=aR.le (w:=w)) R (.inl e) g (λx k _ _ n c j=>m x k c λv d b l=>
  j v (x.on b) (.inl ⟨rfl,b⟩) trivial (λ_ _ _ h=>h) l) f
def axu (c:Value)
  (g:∀x:aR w fC fl ty S,mj F o x->∀b:Exit->Act->World->Prop,(∀d,Below x.to.heap.size x.to d->b .normal (a.put o.dst c) d)->wpList P ops b [o] a x.to)
  (f:bN P ops (aR.to (w:=w)) (aR.le (w:=w)) Qt L F Rs (a.put o.dst c)):bN P ops (aR.to (w:=w)) (aR.le (w:=w)) Qt ((i,o)::L) F (.fix c::Rs) a:=
 ahh (to:=aR.to (w:=w)) (le:=aR.le (w:=w)) c (λx k _ _ l b j=>g x k b λd e=>j (x.on e) (.inl ⟨rfl,e⟩) trivial λ_ _ _ h=>h) f
def akR (k:Nat) (R:Value->aR w fC fl ty S->Prop) (s:o.dst.isSome=true) (r:fC[k]?=some i) (A:fC.Nodup) (f:∀m j,m<k->fC[m]?=some j->Behind ops i j) (C:∀v x y,R v x->aR.le x y->R v y)
  (g:∀x:aR w fC fl ty S,mj F o x->k<=x.st)
  (H:∀x:aR w fC fl ty S,mj F o x->x.st=k->∀c:Exit->Act->World->Prop,(∀v p (d:bq x.may x.to p) (e:x.st<fC.length),R v (x.did d e)->c .normal (a.put o.dst v) p)->wpList P ops c [o] a x.to)
  (u:∀v,bN P ops (aR.to (w:=w)) (aR.le (w:=w)) Qt L ((i,λx=>R v x)::F) Rs (a.put o.dst v)):bN P ops (aR.to (w:=w)) (aR.le (w:=w)) Qt ((i,o)::L) F (.any R::Rs) a:=
 iA (to:=aR.to (w:=w)) (le:=aR.le (w:=w)) R (.inl s) C (λx q _ _ t c D=>by
  have B:=g x q;have G:x.st<=k:=t k r;have I:x.st=k:=Nat.le_antisymm G B;exact H x q I c λv p d e z=>
   D v (x.did d e) (.inr ⟨rfl,d⟩) trivial (λj E n _ m l=>by
    show x.st+1<=m;rcases tn m k with b|b|b
    .exact absurd (f m j b l) n
    .subst b;rw[r] at l;cases l;exact absurd rfl E
    .omega) z) u
def axv(h:∀x:aR w fC fl ty S,js F x->Qt a x.to):bN P ops (aR.to (w:=w)) (aR.le (w:=w)) Qt [] F [] a:=adU h
def anb{F:Flat Y}{base:Nat}(c:aF F e x base v xs)(a:v.ownBlock=some b):base<=b/\∃f:Array Value,bR x b e f:=by
 refine⟨(c.at_ a).1, ?_⟩;rcases c.2 with⟨rfl,_⟩|⟨i,cap,d,rfl,_,g,_⟩
 .cases a
 .cases a;exact⟨_,g⟩
end
end
section
variable {β:Bool}
open Go.RowKit
def pJ:Flat Sp:=⟨2,λs=>[.int .i64 s.n,.int .i64 s.p],λx=>bF x.n/\bF x.p,λ_=>rfl,λx u a=>by simp at a;rcases a with rfl|rfl<;>rfl,by decide⟩
def ly:gJ (ah β) 34 51 2 16:=gJ.mk' yj (z:=.agg #[.int .i64 0,.int .i64 0]) (by kernel_rfl) rfl (by decide) (by decide)
def Tr.ptr:Tr->Value
 |.nil=>.pointer none
 |.node b _ _ _=>.pointer (some ⟨b,0,none⟩)
def Tin(w:World):Tr->Prop
 |.nil=>True
 |.node b s l r=>bR w b 78 #[.int .i64 s.n,.int .i64 s.p,l.ptr,r.ptr]/\Tin w l/\Tin w r
def Tin.lt :∀{t:Tr},Tin w t->∀b∈t.blocks,b<w.heap.size
 |.nil,_,_,h=>by cases h
 |.node c s l r,⟨hk,hl,hr⟩,b,h=>by
  simp only[Tr.blocks,jp,ge] at h;rcases h with rfl|h|h
  .exact hk.lt
  .exact hl.lt b h
  .exact hr.lt b h
def Tin.dQ{w w':World}{S:Nat->Prop}(d:bq S w w'):∀{t:Tr},Tin w t->(∀b∈t.blocks,¬S b)->Tin w' t
 |.nil,_,_=>trivial
 |.node c s l r,⟨hk,hl,hr⟩,h=>by
  refine⟨bH hk d (h c (by simp[Tr.blocks])),Tin.dQ d hl λb a=>h b (by simp[Tr.blocks,a]),Tin.dQ d hr λb a=>h b (by simp[Tr.blocks,a])⟩
def Tin.below(a:Below w.heap.size w w'){t:Tr}(h:Tin w t):Tin w' t:=Tin.dQ (bq.aT (S:=λ_=>False) a) h λ_ _ h=>h
def Tr.abH(t:Tr):∃p,t.ptr=.pointer p:=by cases t<;>exact⟨_,rfl⟩
def at2(s:Sp)(aa:bF s.n/\bF s.p):∀(t:Tr) (w:World),Tin w t->t.blocks.Nodup->(∀y∈t.list,bF y.n)->
  Calls (ah β) 31 #[t.ptr,.agg #[.int .i64 s.n,.int .i64 s.p]] w λe w'=>∃a,e=.returned (t.put a s).ptr/\w.heap.size<=a/\Tin w' (t.put a s)/\(t.put a s).blocks.Nodup/\bq (λb=>b∈t.blocks) w w':=by
 intro t
 induction t with
 |nil=>
  intro w _ _ _;show Calls _ _ #[.pointer none,_] w _;go_enter xl,ntmps31;go_wp2;go_ret;have hb:=aA (w.alloc (.cells #[.int .i64 s.n,.int .i64 s.p] 51)) (.cells #[.int .i64 s.n,.int .i64 s.p,.pointer none,.pointer none] 78);have A:=bR.new (w.alloc (.cells #[.int .i64 s.n,.int .i64 s.p] 51)) 78 #[.int .i64 s.n,.int .i64 s.p,.pointer none,.pointer none];simp only[me] at A;exact⟨w.heap.size+1,rfl,by omega,⟨A,trivial,trivial⟩,by simp[Tr.put,Tr.blocks],((bq.refl _ _).alloc _).alloc _⟩
 |node b x l r a4 a6=>
  intro w G D V;show Calls _ _ #[.pointer (some ⟨b,0,none⟩),_] w _;obtain⟨A,q,J⟩:=G;have ck:=A.cell;have fk:=A.frozen;have a8:=A.lt;have O:=q.lt;have P:=J.lt;have a9:=am w.heap.size;go_enter xl,ntmps31;go_wp2;generalize hG:w.alloc (.cells #[.int .i64 s.n,.int .i64 s.p] 51)=w0 at *;obtain⟨R,mo,k0,Z,iw⟩:=iN hG;clear hG;replace A:=av A R;replace q:=q.below R;replace J:=J.below R;have W:=A.cell;have a7:=A.frozen;have U:l.blocks.Nodup:=(rq.1 (qK.1 D).2).1;have T:r.blocks.Nodup:=(rq.1 (qK.1 D).2).2.1;have n:b∉l.blocks:=λh=>(qK.1 D).1 (rH _ h);have m:b∉r.blocks:=λh=>(qK.1 D).1 (ry _ h);have H:∀c∈l.blocks,c∉r.blocks:=λc f J=>(rq.1 (qK.1 D).2).2.2 c f c J rfl;have a1:∀y∈l.list,bF y.n:=λy I=>V y (by simp[Tr.list,I]);have a5:∀y∈r.list,bF y.n:=λy I=>V y (by simp[Tr.list,I]);rcases Int.lt_trichotomy s.n x.n with E|M|E
  .have t1:decide (s.n<x.n)=true:=db E
   go_quiet (fail)
   go_wp2;have aJ:∀y:aV (w0.drewN nq) 6 51 (λc=>c∈l.blocks) [],_:=fB (w:=(w0.drewN nq)) (show(w0.drewN nq).cell? ⟨b,2,none⟩=some l.ptr from W 2) (by dsimp only;first|exact n|exact m);refine mZ 6 51 (λc=>c∈l.blocks) [] 7 [0,1,2,3,4] [5,6] (by kernel_rfl) (by kernel_rfl) (by kernel_rfl) ?_;simp only[pick,List.map,pi,pm];repeat(go_big_quiet_step (fail))
   refine lE ?_;clear aJ;apply Exists.intro;apply aaQ (.agg #[.int .i64 s.n,.int .i64 s.p])
   .intro y _ _ Qx g;replace g:=ab g;have ca:=fB (w:=(w0.drewN nq)) (show(w0.drewN nq).cell? ⟨w.heap.size,0,none⟩=some (.int .i64 s.n) from Z 0) (λh=>absurd (O _ h) (sZ _)) y;have cb:=fB (w:=(w0.drewN nq)) (show(w0.drewN nq).cell? ⟨w.heap.size,1,none⟩=some (.int .i64 s.p) from Z 1) (λh=>absurd (O _ h) (sZ _)) y;go_wp2;exact g.out _ (gc _ _)
   apply ahn (λv y=>y.done=true/\∃a,v=(l.put a s).ptr/\w0.heap.size<=a/\Tin y.to (l.put a s)/\(l.put a s).blocks.Nodup)
   .rfl
   .rfl
   .exact λj hj=>(by cases hj)
   .exact λv x y ⟨hd,a,e,K,G,N⟩ q=>⟨(q.from_ hd).1,a,e,K,G.below (q.from_ hd).2,N⟩
   .intro y _ u Qx g;replace g:=ab g;have I:=y.till u;go_wp2;refine(a4 y.to (Tin.below I (Tin.below (tJ (gc w0.heap.size w0) nq) (by first|exact q|exact J))) U a1).mono ?_;rintro e w2 ⟨a,rfl,K,G,N,f⟩;go_wp2;exact g.out _ _ (f.mono λc _ h=>.inl h) ⟨rfl,a,rfl,bd I.size K,G,N⟩
   intro u6;refine ahp λy Y=> ?_;simp only[js] at Y;obtain⟨⟨u,a,rfl,K,B,L⟩, -⟩:=Y;have i:bq (λc=>c∈l.blocks) w0 y.to:=(bq.aT (S:=λc=>c∈l.blocks) (tJ (gc w0.heap.size w0) nq)).trans (y.ok.mono λ_ _ h=>h.2) λ_ _ h=>h;revert i B;generalize y.to=w5;clear y u;intro B i;have X:=bH A i (by first|exact n|exact m);have a0:=X.cell;have a3:=X.frozen;obtain⟨pp,F⟩:=(l.put a s).abH;simp only[List.drop];rw[F];go_wp2;go_ret;rw[<-F];have z:bq (λc=>c=b) w5 (w5.setCell ⟨b,2,none⟩ (l.put a s).ptr):=(bq.refl (λc=>c=b) w5).setCell (p:=⟨b,2,none⟩) (.inl rfl) _;have o:(Tr.node b x l r).put a s=.node b x (l.put a s) r:=by
    show(if s.n<x.n then _ else _)=_;rw[dk E]
   have Q:a∉r.blocks:=λh=>(by have:=P a h;omega);have C:∀c∈(l.put a s).blocks,c∉r.blocks/\c≠b:=λc f=>by
    rcases Tr.kI f with rfl|f
    .exact⟨Q,by omega⟩
    .exact⟨H c f,λe=>n (e▸f)⟩
   refine⟨a, ?_⟩;rw[o];refine⟨rfl,by omega,⟨(bH A i n).bM 2 _,Tin.dQ z B λc f e=>(C c f).2 e,Tin.dQ z (Tin.dQ i J λc f h=>H c h f) λc f e=>m (e▸f)⟩, ?_, ?_⟩
   .refine qK.2 ⟨λh=> ?_,rq.2 ⟨L,T,λc f d hd e=>(C c f).1 (e▸hd)⟩⟩;rcases ge.1 h with h|h
    .exact(C b h).2 rfl
    .exact m h
   .exact((bq.aT (S:=λc=>c∈(Tr.node b x l r).blocks) R).trans (i.mono λc _ f=>by simp[Tr.blocks,f]) λ_ _ h=>h).trans (z.mono λc _ e=>by simp[Tr.blocks,e]) λ_ _ h=>h
  .have t1:=bv (show ¬(s.n<x.n) by omega);have t2:=bv (show ¬(x.n<s.n) by omega);replace M:=ab M
   go_quiet (fail)
   revert nq;intro k;go_wp2
   go_quiet (fail)
   go_wp2;go_ret;have o:(Tr.node b x l r).put w0.heap.size s=.node b s l r:=by
    show(if s.n<x.n then _ else if x.n<s.n then _ else _)=_;have:=M.out;rw[be (by omega),be (by omega)]
   refine⟨w0.heap.size, ?_⟩;rw[o];have f:bq (λc=>c=b) w0 (((w0.drewN (k+nq)).setCell ⟨b,0,none⟩ (.int .i64 s.n)).setCell ⟨b,1,none⟩ (.int .i64 s.p)):=
    (((bq.refl (λc=>c=b) w0).drewN (k+nq)).setCell (p:=⟨b,0,none⟩) (.inl rfl) _).setCell (p:=⟨b,1,none⟩) (.inl rfl) _
   have a2:bR (w0.drewN (k+nq)) b 78 #[.int .i64 x.n,.int .i64 x.p,l.ptr,r.ptr]:=A;refine⟨rfl,by omega,⟨(a2.bM 0 _).bM 1 _,Tin.dQ f q λc h e=>n (e▸h),Tin.dQ f J λc h e=>m (e▸h)⟩,D, ?_⟩;exact(bq.aT (S:=λc=>c∈(Tr.node b x l r).blocks) R).trans (f.mono λc _ e=>by simp[Tr.blocks,e]) λ_ _ h=>h
  .have t1:=bv (show ¬(s.n<x.n) by omega);have t2:decide (x.n<s.n)=true:=db E
   go_quiet (fail)
   revert nq;intro k;go_wp2
   go_quiet (fail)
   go_wp2;have aJ:∀y:aV ((w0.drewN k).drewN nq) 6 51 (λc=>c∈r.blocks) [],_:=fB (w:=((w0.drewN k).drewN nq)) (show((w0.drewN k).drewN nq).cell? ⟨b,3,none⟩=some r.ptr from W 3) (by dsimp only;first|exact n|exact m);refine mZ 6 51 (λc=>c∈r.blocks) [] 7 [0,1,2,3,4] [5,6] (by kernel_rfl) (by kernel_rfl) (by kernel_rfl) ?_;simp only[pick,List.map,pi,pm];repeat(go_big_quiet_step (fail))
   refine lE ?_;clear aJ;apply Exists.intro;apply aaQ (.agg #[.int .i64 s.n,.int .i64 s.p])
   .intro y _ _ Qx g;replace g:=ab g;have ca:=fB (w:=((w0.drewN k).drewN nq)) (show((w0.drewN k).drewN nq).cell? ⟨w.heap.size,0,none⟩=some (.int .i64 s.n) from Z 0) (λh=>absurd (P _ h) (sZ _)) y;have cb:=fB (w:=((w0.drewN k).drewN nq)) (show((w0.drewN k).drewN nq).cell? ⟨w.heap.size,1,none⟩=some (.int .i64 s.p) from Z 1) (λh=>absurd (P _ h) (sZ _)) y;go_wp2;exact g.out _ (gc _ _)
   apply ahn (λv y=>y.done=true/\∃a,v=(r.put a s).ptr/\w0.heap.size<=a/\Tin y.to (r.put a s)/\(r.put a s).blocks.Nodup)
   .rfl
   .rfl
   .exact λj hj=>(by cases hj)
   .exact λv x y ⟨hd,a,e,K,G,N⟩ q=>⟨(q.from_ hd).1,a,e,K,G.below (q.from_ hd).2,N⟩
   .intro y _ u Qx g;replace g:=ab g;have I:=y.till u;go_wp2;refine(a6 y.to (Tin.below I (Tin.below (tJ (tJ (gc w0.heap.size w0) k) nq) (by first|exact q|exact J))) T a5).mono ?_;rintro e w2 ⟨a,rfl,K,G,N,f⟩;go_wp2;exact g.out _ _ (f.mono λc _ h=>.inl h) ⟨rfl,a,rfl,bd I.size K,G,N⟩
   intro u6;refine ahp λy Y=> ?_;simp only[js] at Y;obtain⟨⟨u,a,rfl,K,B,L⟩, -⟩:=Y;have i:bq (λc=>c∈r.blocks) w0 y.to:=(bq.aT (S:=λc=>c∈r.blocks) (tJ (tJ (gc w0.heap.size w0) k) nq)).trans (y.ok.mono λ_ _ h=>h.2) λ_ _ h=>h;revert i B;generalize y.to=w5;clear y u;intro B i;have X:=bH A i (by first|exact n|exact m);have a0:=X.cell;have a3:=X.frozen;obtain⟨pp,F⟩:=(r.put a s).abH;simp only[List.drop];rw[F];go_wp2;go_ret;rw[<-F];have z:bq (λc=>c=b) w5 (w5.setCell ⟨b,3,none⟩ (r.put a s).ptr):=(bq.refl (λc=>c=b) w5).setCell (p:=⟨b,3,none⟩) (.inl rfl) _;have o:(Tr.node b x l r).put a s=.node b x l (r.put a s):=by
    show(if s.n<x.n then _ else if x.n<s.n then _ else _)=_;rw[be (by omega),dk E]
   have Q:a∉l.blocks:=λh=>(by have:=O a h;omega);have C:∀c∈(r.put a s).blocks,c∉l.blocks/\c≠b:=λc f=>by
    rcases Tr.kI f with rfl|f
    .exact⟨Q,by omega⟩
    .exact⟨λq=>H c q f,λe=>m (e▸f)⟩
   refine⟨a, ?_⟩;rw[o];refine⟨rfl,by omega,⟨(bH A i m).bM 3 _,Tin.dQ z (Tin.dQ i q λc f h=>H c f h) λc f e=>n (e▸f),Tin.dQ z B λc f e=>(C c f).2 e⟩, ?_, ?_⟩
   .refine qK.2 ⟨λh=> ?_,rq.2 ⟨U,L,λc f d hd e=>(C d hd).1 (e▸f)⟩⟩;rcases ge.1 h with h|h
    .exact n h
    .exact(C b h).2 rfl
   .exact((bq.aT (S:=λc=>c∈(Tr.node b x l r).blocks) R).trans (i.mono λc _ f=>by simp[Tr.blocks,f]) λ_ _ h=>h).trans (z.mono λc _ e=>by simp[Tr.blocks,e]) λ_ _ h=>h
def aeH{F:Flat Y}{base:Nat}(i:aF F e w base v xs)(d:bR w g t cs)(j:e≠t):∀b,v.ownBlock=some b->b≠g:=by
 rintro b c rfl;rcases i.2 with⟨rfl,_⟩|⟨k,cap,f,rfl,_,a,_⟩
 .cases c
 .cases c;unfold bR at d;rw[d] at a;simp at a;exact j a.2.symm
def adX{w:World}{base:Nat}{v:Value}{xs:List Sp}(a:aF pJ 51 w base v xs):∀{t:Tr},Tin w t->∀b∈t.blocks,¬v.ownBlock=some b
 |.nil,_,_,h=>by cases h
 |.node c s l r,⟨hk,hl,hr⟩,b,h=>by
  simp only[Tr.blocks,jp,ge] at h;rcases h with rfl|h|h
  .exact λe=>aeH a hk (by decide) _ e rfl
  .exact adX a hl b h
  .exact adX a hr b h
def aqW(w:World)(base:Nat)(v:Value)(ys:List Sp)(e:Ending)(w':World):Prop:=
 ∃a,e=.returned a/\aF pJ 51 w' base a ys/\bq (λb=>v.ownBlock=some b) w w'/\∀b,a.ownBlock=some b->v.ownBlock=some b\/w.heap.size<=b
def aqX:∀(t:Tr) (w:World) (base:Nat) (v:Value) (o:List Sp),base<=w.heap.size->aF pJ 51 w base v o->Tin w t->o.length+t.size<=1000000000->
  Calls (ah β) 19 #[t.ptr,v] w (aqW w base v (o++t.list)):=by
 intro t
 induction t with
 |nil=>
  intro w base v o L C _ _;show Calls _ _ #[.pointer none,_] w _;obtain⟨A,c,rfl⟩:=C.form;go_enter xo,ntmps19;go_wp2;go_ret;exact⟨_,rfl,by simpa[Tr.list] using C,bq.refl _ _,λb h=>.inl h⟩
 |node b s l r a0 a2=>
  intro w base v o L C ht hn;show Calls _ _ #[.pointer (some ⟨b,0,none⟩),_] w _;obtain⟨D,hl,hr⟩:=ht;have p:=aeH C D (by decide);have a4:=adX C hl;have U:=adX C hr;have J:∀c,v.ownBlock=some c->c<w.heap.size:=λc h=>(C.at_ h).2;simp only[Tr.size] at hn;have Z:w.cell? ⟨b,0,none⟩=some (.int .i64 s.n):=D.cell 0;have S:w.cell? ⟨b,1,none⟩=some (.int .i64 s.p):=D.cell 1;have X:w.cell? ⟨b,2,none⟩=some l.ptr:=D.cell 2;have a1:w.cell? ⟨b,3,none⟩=some r.ptr:=D.cell 3;go_enter xo,ntmps19;go_wp2;have aJ:∀y:aR w [9,15,16] (λk=>decide (k≠0)) 51 (λc=>v.ownBlock=some c),_:=na X (λh=>p _ h rfl);have aN:∀y:aR w [9,15,16] (λk=>decide (k≠0)) 51 (λc=>v.ownBlock=some c),_:=na a1 (λh=>p _ h rfl);refine akQ [9,15,16] (λk=>decide (k≠0)) 51 (λc=>v.ownBlock=some c) 17 [0,1,2,3,4,5,6,7,8,10,11,12] [9,13,14,15,16] (by kernel_rfl) (by kernel_rfl) (by kernel_rfl) ?_;simp only[pick,List.map,pi,pm];repeat(go_big_quiet_step (fail))
  refine lE ?_;clear aJ aN;apply Exists.intro;apply akR 0 (λu y=>1<=y.st/\(y.st=1->aF pJ 51 y.to base u (o++l.list)/\∀c,u.ownBlock=some c->v.ownBlock=some c\/w.heap.size<=c))
  .rfl
  .rfl
  .decide
  .exact λm j hm=>absurd hm (rR m)
  .exact λu x y ⟨g,h2⟩ f=>⟨bd g f.st,λhy=>by
    have N:x.st=1:=by have:=f.st;omega
    obtain⟨q,G⟩:=h2 N;exact⟨q.below (f.same (by omega)),G⟩⟩
  .exact λx _=>fb _
  .intro x _ z M a;replace a:=ab a;have B:=x.zero z;go_wp2;refine(a0 x.to base v o (bd L B.size) (C.below B) (hl.below B) (by omega)).mono ?_;rintro e w2 ⟨u,rfl,q,G,Y⟩;go_wp2;exact a.out _ _ (G.mono λc _ h=>.inl h) (by rw[z];decide) ⟨by show 1<=x.st+1;omega,λ_=>⟨q,λc h=>(Y c h).imp id λh=>bd B.size h⟩⟩
  intro u9;apply axu (.agg #[.int .i64 s.n,.int .i64 s.p])
  .intro x _ M a;replace a:=ab a;have ca:=na Z (λh=>p _ h rfl) x;have cb:=na S (λh=>p _ h rfl) x;go_wp2;exact a.out _ (gc _ _)
  apply axt (λu y=>y.st<=1->∃c,u=.slice (some ⟨c,0,none⟩) 1 1/\w.heap.size<=c/\bR y.to c 51 #[.int .i64 s.n,.int .i64 s.p])
  .rfl
  .intro u x y h f hy;have N:=f.st;obtain⟨c,e,hc,D⟩:=h (by omega);refine⟨c,e,hc, ?_⟩;by_cases a7:y.st=x.st
   .exact av D (f.same (by omega))
   .have z:x.st=0:=by omega
    refine bH D f.dQ ?_;rintro(g|⟨g,_⟩)
    .have:=J c g;omega
    .rw[z] at g;exact absurd g (by decide)
  .intro x _ M a;replace a:=ab a;go_wp2;exact a.out _ _ (aA _ _) λ_=>⟨_,rfl,x.ok.size,bR.new _ _ _⟩
  intro a6;apply akR 1 (λu y=>2<=y.st/\(y.st=2->aF pJ 51 y.to base u (o++l.list++[s])/\∀c,u.ownBlock=some c->v.ownBlock=some c\/w.heap.size<=c))
  .rfl
  .rfl
  .decide
  .intro m j hm O;obtain rfl:m=0:=by omega
   cases O;exact mg 9 _ _ (by kernel_rfl)
  .exact λu x y ⟨g,h2⟩ f=>⟨bd g f.st,λhy=>by
    have N:x.st=2:=by have:=f.st;omega
    obtain⟨q,G⟩:=h2 N;exact⟨q.below (f.same (by omega)),G⟩⟩
  .exact λx i=>(i.2.1 (by kernel_rfl)).1
  .intro x i H M a;replace a:=ab a;obtain⟨c,rfl,hc,V⟩:=i.1 (by kernel_rfl) (by omega);obtain⟨I,n⟩:=(i.2.1 (by kernel_rfl)).2 H;refine acB (F:=pJ) (v:=u9) rfl (.tmp 17) (.tmp 22) 34 rfl ly s rfl I rfl V rfl (by rw[ap,Tr.oO];omega) (bd L x.ok.size) ?_;intro v8 w8 o8 P R;refine wpList_nil ?_;refine a.out _ _ (P.mono λd _ h=> ?_) (by rw[H];decide) ⟨by show 2<=x.st+1;omega,λ_=>⟨o8,λd h=> ?_⟩⟩
   .rcases n d h with g|g
    .exact .inl g
    .exact .inr ⟨by rw[H];rfl,g,(anb I h).2⟩
   .rcases R d h with g|g
    .exact n d g
    .exact .inr (bd x.ok.size g)
  intro a3;apply akR 2 (λu y=>3<=y.st/\aF pJ 51 y.to base u (o++l.list++[s]++r.list)/\∀c,u.ownBlock=some c->v.ownBlock=some c\/w.heap.size<=c)
  .rfl
  .rfl
  .decide
  .intro m j hm O;rcases(by omega:m=0\/m=1) with rfl|rfl
   .cases O;exact mg 9 _ _ (by kernel_rfl)
   .cases O;exact mg 9 _ _ (by kernel_rfl)
  .exact λu x y ⟨g,h2,q⟩ f=>⟨bd g f.st,h2.below (f.same (by have:y.st<=3:=y.lim;omega)),q⟩
  .exact λx i=>(i.1 (by kernel_rfl)).1
  .intro x i E M a;replace a:=ab a;obtain⟨I,n⟩:=(i.1 (by kernel_rfl)).2 E;clear i;go_wp2;refine(a2 x.to base a3 _ (bd L x.ok.size) I (Tin.dQ x.on_ hr U) (by simp only[ap,eg,lw,Tr.oO];omega)).mono ?_;rintro e w2 ⟨u,rfl,q,G,Y⟩;go_wp2;refine a.out _ _ (G.mono λd _ h=> ?_) (by rw[E];decide) ⟨by show 3<=x.st+1;omega,q,λd h=> ?_⟩
   .rcases n d h with g|g
    .exact .inl g
    .exact .inr ⟨by rw[E];rfl,g,(anb I h).2⟩
   .rcases Y d h with g|g
    .exact n d g
    .exact .inr (bd x.ok.size g)
  intro a5;refine axv λx i=> ?_;simp only[js] at i;obtain⟨⟨-,K,W⟩, -⟩:=i;have Q:=x.on_;have T:o++(Tr.node b s l r).list=o++l.list++[s]++r.list:=by simp[Tr.list]
  rw[<-T] at K;simp only[List.drop];go_wp2;go_ret;exact⟨_,rfl,K,Q,W⟩
end
section
variable {β:Bool}
open Go.RowKit
def at5(F:FuncId):Prop:=∀(args:Array Value) (w:World),(callFunc F args).run (ah β) w=.ok (.enter F args) w
def axy{fn:Func}{c:Code}(b:(ah β).funcs[f]?=some fn)(a:(fn.name == "runtime.NumGoroutine")=false)(e:fn.body=some c):at5 (β:=β) f:=by
 intro args w;have d:fn.name ≠ "runtime.NumGoroutine" :=by simpa using a
 simp[callFunc,b,d,e]
end
section
variable {β:Bool}
open Go.RowKit
abbrev RSp:fU Sp:=bY pJ
def RSp.loc:Lcy RSp:=bY.loc pJ
def aqY{xs:List Sp}(h:cV RSp 2 w lo hi xs [.slice A n c]){x:Sp}(g:xs[k]?=some x) :
  ∃b a,A=some ⟨b,a,none⟩/\lo<=b/\b<hi/\(bF x.n/\bF x.p)/\w.cell? ⟨b,a+k*2,none⟩=some (.int .i64 x.n)/\w.cell? ⟨b,a+k*2+1,none⟩=some (.int .i64 x.p):=by
 obtain⟨b,a,l,rfl,i,f,j,⟨rfl,d⟩,e⟩:=h.at_ g;exact⟨b,a,rfl,i,f,d,by simpa using e 0 _ rfl,e 1 _ rfl⟩
def aqZ:ixP []:=⟨λx h=>(by cases h),List.Pairwise.nil⟩
def aht(n lo hi:Int)(w:World)(b:Bool)(c:b=true↔lo<=n/\n<=hi) :
  Calls (ah β) 135 #[.int .i64 n,.int .i64 lo,.int .i64 hi] w λe a=>e=.returned (.bool b)/\w=a:=
 (aqG n lo hi w).mono λe a ⟨h,hw⟩=>⟨by
  rw[h];have:(decide (lo<=n)&&decide (n<=hi))=b:=by rw[qn,c];simp
  rw[this],hw⟩
def aeI(n:Int)(w:World)(b:Bool)(a:b=true↔0<=n/\n<=999999999988) :
  Calls (ah β) 30 #[.int .i64 n] w λe c=>e=.returned (.bool b)/\w=c:=by
 replace a:=ab a;go_enter zg,ntmps30;by_cases f:0<=n
 .by_cases d:n<999999999989
  .go_wp2;go_ret;exact⟨aC (by rw[tX,a.out];omega),rfl⟩
  .go_wp2;go_ret;exact⟨aC (by rw[tX,<-lc,a.out];omega),rfl⟩
 .go_wp2;go_ret;exact⟨aC (by rw[tX,<-lc,a.out];omega),rfl⟩
def akS(s:Sp)(w:World)(b:Bool)(c:b=true↔spP s) :
  Calls (ah β) 17 #[.agg #[.int .i64 s.n,.int .i64 s.p]] w λe l=>e=.returned (.bool b)/\Below w.heap.size w l:=by
 replace c:=ab c;have g:=aA w (.cells #[.int .i64 s.n,.int .i64 s.p] 51);go_enter zp,ntmps17;by_cases a:0<=s.n/\s.n<=999999999988
 .go_wp2;refine(aeI s.n _ true (by simp only[tQ];exact a)).mono ?_;rintro e k ⟨rfl,rfl⟩;replace a:=ab a;by_cases d:1<=s.p
  .by_cases f:s.p<=99
   .have j:=ab d;have i:=ab f;go_wp2;go_ret;exact⟨aC (by rw[tX,c.out];exact⟨a.out,j.out,i.out⟩),g⟩
   .have n:decide (s.p<=99)=false:=bv f;have i:=ab f;clear f;go_wp2;go_ret;exact⟨aC (by rw[tX,<-lc,c.out];exact λh=>by have:=i.out;have:=h.2.2;omega),g⟩
  .have m:decide (1<=s.p)=false:=bv d;have j:=ab d;clear d;go_wp2;go_ret;exact⟨aC (by rw[tX,<-lc,c.out];exact λh=>by have:=j.out;have:=h.2.1;omega),g⟩
 .go_wp2;refine(aeI s.n _ false (by simp only[kw,false_iff];exact a)).mono ?_;rintro e k ⟨rfl,rfl⟩;replace a:=ab a;go_wp2;go_ret;exact⟨aC (by rw[tX,<-lc,c.out];exact λh=>a.out h.1),g⟩
def akT(s:Sp)(w:World)(b:Bool)(c:b=true↔spP s) :
  Calls (ah β) 89 #[.agg #[.int .i64 s.n,.int .i64 s.p]] w λe g=>e=.returned (.bool b)/\Below w.heap.size w g:=by
 replace c:=ab c;have f:=aA w (.cells #[.int .i64 s.n,.int .i64 s.p] 51);go_enter yw,ntmps89;by_cases a:0<=s.n/\s.n<=999999999988
 .go_wp2;refine(aht s.n _ _ _ true (by simp only[tQ];exact a)).mono ?_;rintro e d ⟨rfl,rfl⟩;replace a:=ab a;go_wp2;refine(aht s.p _ _ _ b (by rw[c.out];exact⟨λh=>h.2,λh=>⟨a.out,h⟩⟩)).mono ?_;rintro e d ⟨rfl,rfl⟩;go_wp2;go_ret;exact⟨rfl,f⟩
 .go_wp2;refine(aht s.n _ _ _ false (by simp only[kw,false_iff];exact a)).mono ?_;rintro e d ⟨rfl,rfl⟩;replace a:=ab a;go_wp2;go_ret;exact⟨aC (by rw[tX,<-lc,c.out];exact λh=>a.out h.1),f⟩
end
section
variable {β:Bool}
open Go.RowKit
def nK(s:Sp)(xs:List Sp)(put:Bool)(o:List Sp):Prop:=
 (put=false/\(∀x∈xs,x.n<s.n)/\o=xs)\/(put=true/\(∃x∈xs,s.n<=x.n)/\o=dz s xs)
def aoJ(s:Sp):nK s [] false []:=.inl ⟨rfl,λx a=>(by cases a),rfl⟩
def aoK{s x:Sp}{xs o:List Sp}(h:nK s xs false o)(a:s.n<x.n):nK s (xs++[x]) true (o++[s]++[x]):=by
 rcases h with⟨_,h,rfl⟩|⟨h,_⟩
 .refine .inr ⟨rfl,⟨x,by simp,by omega⟩, ?_⟩;rw[mn h];show _=o++(if s.n<x.n then s::x::[] else _);rw[dk a];simp
 .cases h
def akU{s x:Sp}{xs o:List Sp}(h:nK s xs false o)(a:x.n=s.n):nK s (xs++[x]) true (o++[s]):=by
 rcases h with⟨_,h,rfl⟩|⟨h,_⟩
 .refine .inr ⟨rfl,⟨x,by simp,by omega⟩, ?_⟩;rw[mn h];show _=o++(if s.n<x.n then s::x::[] else if x.n<s.n then x::dz s [] else s::[]);rw[be (by omega),be (by omega)]
 .cases h
def akV{s x:Sp}{xs o:List Sp}(h:nK s xs false o)(b:x.n<s.n):nK s (xs++[x]) false (o++[x]):=by
 rcases h with⟨_,h,rfl⟩|⟨h,_⟩
 .refine .inl ⟨rfl,λy a=> ?_,rfl⟩;rcases ge.1 a with a|a
  .exact h y a
  .rw[jn.1 a];exact b
 .cases h
def akW{s x:Sp}{xs o:List Sp}(h:nK s xs true o)(b:abG (xs++[x])):s.n<x.n/\nK s (xs++[x]) true (o++[x]):=by
 rcases h with⟨h,_⟩|⟨_,⟨y,a,c⟩,rfl⟩
 .cases h
 .have:=(rG.1 b).2.2 y a x (by simp);refine⟨by omega,.inr ⟨rfl,⟨y,by simp[a],c⟩, ?_⟩⟩;rw[show xs++[x]=xs++x::[] from rfl,acC (by omega)]
def aoL{s:Sp}{xs o:List Sp}{a:Bool}(h:nK s xs a o):(a=false/\dz s xs=o++[s])\/(a=true/\dz s xs=o):=by
 rcases h with⟨h,b,rfl⟩|⟨h,_,rfl⟩
 .exact .inl ⟨h,aoI b⟩
 .exact .inr ⟨h,rfl⟩
def iV{s:Sp}{xs o:List Sp}{a:Bool}(h:nK s xs a o):o.length<=xs.length+1:=by
 rcases h with⟨_,_,rfl⟩|⟨_,_,rfl⟩
 .omega
 .exact aeF
def aq0{xs:List Sp}(h:abG xs)(k:Nat):abG (xs.take k):=List.Pairwise.sublist (List.take_sublist k xs) h
def aq1(w:World)(ys:List Sp)(e:Ending)(w':World):Prop:=∃v,e=.returned v/\aF pJ 51 w' w.heap.size v ys/\Below w.heap.size w w'
def iC(h:w.cell? p=some v)(c:bq S w w')(b:¬S p.block):w'.cell? p=some v:=by
 have a:=sV w p h;unfold World.cell? at h ⊢;rw[c.block p.block a b];exact h
def aoM(s:Sp)(ad:bF s.n/\bF s.p)(xs:List Sp)(v:Value)(w:World)(lo hi:Nat)(bZ:hi<=w.heap.size)(h:cV RSp 2 w lo hi xs [v])(X:abG xs)(hl:xs.length<=1000000000) :
  Calls (ah β) 90 #[v,.agg #[.int .i64 s.n,.int .i64 s.p]] w (aq1 w (dz s xs)):=by
 obtain⟨A,c,rfl⟩:=h.form;obtain⟨_,hc,U⟩:=h.len_;unfold maxLen at U;go_enter yv,ntmps90;go_wp2;generalize hG:(w.alloc (.cells #[.int .i64 s.n,.int .i64 s.p] 51)).alloc (.cells #[] 51)=w0 at *;obtain⟨S,mo,O,eJ,iw,k1,a5,a7⟩:=akM hG;clear hG;have I:w.heap.size+1<=w0.heap.size:=by omega
 have g0:=adV RSp.loc h S bZ;have o0:aF pJ 51 w0 (w.heap.size+1) (.slice (some ⟨w.heap.size+1,0,none⟩) 0 0) []:=aF.aqR ⟨_,rfl,am _,k1⟩;have Z:∀k,k<xs.length->∃x,xs[k]?=some x/\(k=0\/True):=λk hk=>by
  obtain⟨x,U⟩:=aq hk;exact⟨x,U,.inr trivial⟩
 clear Z;go_loopw [5,6,7] (λoo pp ii wr=>∃(k:Nat) (b:Bool) (o:List Sp),k<=xs.length/\pp=.bool b/\ii=.int .i64 k/\aF pJ 51 wr (w.heap.size+1) oo o/\nK s (xs.take k) b o/\bq (λb=>w.heap.size+1<=b) w0 wr) (λoo pp ii _=>xs.length-(intOf ii).toNat)
 case atStart=>exact⟨0,false,[],fb _,rfl,rfl,o0,aoJ s,bq.refl _ _⟩
 case round=>
  obtain⟨k,b,o,hk,rfl,rfl,y,f,e⟩:=hrel;replace f:=ab f;obtain⟨p,r,rfl⟩:=y.form;have nU:=iV f.out;rw[ff] at nU;by_cases W:k<xs.length
  .obtain⟨x,u⟩:=aq W;obtain⟨b1,a8,rfl,aa,a9,a4,E,D⟩:=aqY g0 u;have z:abG (xs.take k++[x]):=by rw[<-nF u];exact aq0 X _
   replace u:=ab u;replace z:=ab z;have eJ:=(bH O e (by omega)).cell;have Y:=iC E e (by dsimp only;omega);have a6:=iC D e (by dsimp only;omega);cases b with
   |false=>
    rcases Int.lt_trichotomy x.n s.n with m|m|m
    .have B:=ab (akV f.out m);have t1:=bv (show ¬(s.n<=x.n) by omega);have V:(x.n !=s.n)=true:=by rw[bne_iff_ne];omega
     clear m;go_wp2
     go_quiet (fail)
     revert nq;intro d;go_wp2
     go_quiet (fail)
     have l:aF pJ 51 (wr.drewN (d+nq)) (w.heap.size+1) (.slice p o.length r) o:=y;go_wp2_with(at_builtin;refine bU (F:=pJ) (v:=.slice p o.length r) rfl (.tmp 39) (.tmp 44) 34 rfl ly x rfl l rfl rfl (by have:=iV f.out;rw[ff] at this;first|omega|(simp;omega)) (bd I ((e.drewN (d+nq))).size) ?_;intro N L g q n;obtain⟨G,H,rfl⟩:=g.form;simp only[ap,eg,lw,mc] at g;have a:=((e.drewN (d+nq))).trans (q.mono (T:=λb=>w.heap.size+1<=b) λb _ j=>((l).at_ j).1) λ_ _ h=>h;skip);go_roundw
     case rel=>exact⟨k+1,false,o++[x],by omega,rfl,by go_num,g,by rw[nF u.out];exact B.out,a⟩
     simp[intOf];omega
    .have B:=ab (akU f.out m);have t1:=db (show s.n<=x.n by omega);have V:(x.n !=s.n)=false:=by rw[bne_eq_false_iff_eq];exact m
     clear m;go_wp2
     go_quiet (fail)
     revert nq;intro d;have l:aF pJ 51 (wr.drewN d) (w.heap.size+1) (.slice p o.length r) o:=y;go_wp2_with(at_builtin;refine bU (F:=pJ) (v:=.slice p o.length r) rfl (.tmp 27) (.tmp 29) 34 rfl ly s rfl l rfl rfl (by have:=iV f.out;rw[ff] at this;first|omega|(simp;omega)) (bd I ((e.drewN d)).size) ?_;intro N L g q n;obtain⟨G,H,rfl⟩:=g.form;simp only[ap,eg,lw,mc] at g;have a:=((e.drewN d)).trans (q.mono (T:=λb=>w.heap.size+1<=b) λb _ j=>((l).at_ j).1) λ_ _ h=>h;have P:=(bH O a (by omega)).cell;have R:=iC E a (by dsimp only;omega);have a0:=iC D a (by dsimp only;omega))
     go_quiet (fail)
     go_wp2;go_roundw
     case rel=>exact⟨k+1,true,o++[s],by omega,rfl,by go_num,g,by rw[nF u.out];exact B.out,a.drewN nq⟩
     simp[intOf];omega
    .have B:=ab (aoK f.out m);have t1:=db (show s.n<=x.n by omega);have V:(x.n !=s.n)=true:=by rw[bne_iff_ne];omega
     clear m;go_wp2
     go_quiet (fail)
     revert nq;intro d;have l:aF pJ 51 (wr.drewN d) (w.heap.size+1) (.slice p o.length r) o:=y;go_wp2_with(at_builtin;refine bU (F:=pJ) (v:=.slice p o.length r) rfl (.tmp 27) (.tmp 29) 34 rfl ly s rfl l rfl rfl (by have:=iV f.out;rw[ff] at this;first|omega|(simp;omega)) (bd I ((e.drewN d)).size) ?_;intro N L g q n;obtain⟨G,H,rfl⟩:=g.form;simp only[ap,eg,lw,mc] at g;have a:=((e.drewN d)).trans (q.mono (T:=λb=>w.heap.size+1<=b) λb _ j=>((l).at_ j).1) λ_ _ h=>h;have P:=(bH O a (by omega)).cell;have R:=iC E a (by dsimp only;omega);have a0:=iC D a (by dsimp only;omega))
     go_quiet (fail)
     have M:aF pJ 51 (L.drewN nq) (w.heap.size+1) (.slice G (o.length+1) H) (o++[s]):=g;go_wp2_with(at_builtin;refine bU (F:=pJ) (v:=.slice G (o.length+1) H) rfl (.tmp 39) (.tmp 44) 34 rfl ly x rfl M rfl rfl (by have:=iV f.out;rw[ff] at this;first|omega|(simp;omega)) (bd I ((a.drewN nq)).size) ?_;intro v4 w4 o4 Q a3;obtain⟨A4,c4,rfl⟩:=o4.form;simp only[ap,eg,lw,mc] at o4;have a1:=((a.drewN nq)).trans (Q.mono (T:=λb=>w.heap.size+1<=b) λb _ j=>((M).at_ j).1) λ_ _ h=>h;skip);go_roundw
     case rel=>exact⟨k+1,true,o++[s]++[x],by omega,rfl,by go_num,o4,by rw[nF u.out];exact B.out,a1⟩
     simp[intOf];omega
   |true=>
    obtain⟨m,K⟩:=akW f.out z.out;have B:=ab K;clear K;have V:(x.n !=s.n)=true:=by rw[bne_iff_ne];omega
    clear m;go_wp2
    go_quiet (fail)
    revert nq;intro d;go_wp2
    go_quiet (fail)
    have l:aF pJ 51 (wr.drewN (d+nq)) (w.heap.size+1) (.slice p o.length r) o:=y;go_wp2_with(at_builtin;refine bU (F:=pJ) (v:=.slice p o.length r) rfl (.tmp 39) (.tmp 44) 34 rfl ly x rfl l rfl rfl (by have:=iV f.out;rw[ff] at this;first|omega|(simp;omega)) (bd I ((e.drewN (d+nq))).size) ?_;intro N L g q n;obtain⟨G,H,rfl⟩:=g.form;simp only[ap,eg,lw,mc] at g;have a:=((e.drewN (d+nq))).trans (q.mono (T:=λb=>w.heap.size+1<=b) λb _ j=>((l).at_ j).1) λ_ _ h=>h;skip);go_roundw
    case rel=>exact⟨k+1,true,o++[x],by omega,rfl,by go_num,g,by rw[nF u.out];exact B.out,a⟩
    simp[intOf];omega
  .obtain rfl:k=xs.length:=by omega
   have t:=aoL f.out;rw[gn] at t;have eJ:=(bH O e (by omega)).cell;have J:∀{w9:World},bq (λb=>w.heap.size+1<=b) w0 w9->Below w.heap.size w w9:=λa2=>S.trans (a2.below S.size λi hi h=>by omega);rcases t with⟨rfl,C⟩|⟨rfl,C⟩
   .replace C:=ab C;go_wp2_with(at_builtin;refine bU (F:=pJ) (v:=.slice p o.length r) rfl (.tmp 48) (.tmp 50) 34 rfl ly s rfl y rfl rfl (by have:=iV f.out;rw[ff] at this;first|omega|(simp;omega)) (bd I (e).size) ?_;intro N L g q n;obtain⟨G,H,rfl⟩:=g.form;simp only[ap,eg,lw,mc] at g;have a:=(e).trans (q.mono (T:=λb=>w.heap.size+1<=b) λb _ j=>((y).at_ j).1) λ_ _ h=>h;skip);go_ret;exact⟨_,rfl,by rw[C.out];exact g.base (by omega),J a⟩
   .replace C:=ab C;go_wp2;go_ret;exact⟨_,rfl,by rw[C.out];exact y.base (by omega),J e⟩
end
section
variable {β:Bool}
open Go.RowKit
structure It where
 n:Int
 b:ByteArray
structure Pk where
 no:Int
 its:List It
def nX:Flat It:=⟨2,λx=>[.int .i64 x.n,.string x.b],λx=>bF x.n/\x.b.size<=maxLen,λ_=>rfl,λx u a=>by simp at a;rcases a with rfl|rfl<;>rfl,by decide⟩
abbrev iD:fU (List It):=eL 49 (bY nX) 2
def RPk:fU Pk:=λw a b x c=>∃v,c=[.int .i64 x.no,v]/\bF x.no/\iD w a b x.its [v]
abbrev fP:fU (List Pk):=eL 32 RPk 2
def iD.aw:dV iD [49]:=eL.aw (bY.aw nX)
def RPk.aw:dV RPk [49]:=⟨λh a b ⟨v,e,i,hr⟩=>⟨v,e,i,iD.aw.go h a b hr⟩⟩
def fP.aw:dV fP [32,49]:=eL.aw RPk.aw
def pK:gJ (ah β) 30 49 2 24:=gJ.mk' yk (z:=.agg #[.int .i64 0,.string ⟨#[]⟩]) (by kernel_rfl) rfl (by decide) (by decide)
def adY:gJ (ah β) 23 32 2 32:=gJ.mk' yn (z:=.agg #[.int .i64 0,.slice none 0 0]) (by kernel_rfl) rfl (by decide) (by decide)
def acZ{xs:List Pk}(h:fP w lo hi xs [.slice A n c]){x:Pk}(i:xs[k]?=some x) :
  ∃b a A' d,A=some ⟨b,a,none⟩/\lo<=b/\b<hi/\bF x.no/\w.cell? ⟨b,a+k*2,none⟩=some (.int .i64 x.no)/\w.cell? ⟨b,a+k*2+1,none⟩=some (.slice A' x.its.length d)/\iD w lo hi x.its [.slice A' x.its.length d]:=by
 obtain⟨b,a,m,rfl,j,g,l,⟨v,rfl,e,hi⟩,f⟩:=h.1.at_ i;obtain⟨A',d,rfl⟩:=hi.form;exact⟨b,a,A',d,rfl,j,g,e,by simpa using f 0 _ rfl,f 1 _ rfl,hi⟩
def af5{xs:List It}(h:iD w lo hi xs [.slice A n c]){x:It}(g:xs[k]?=some x) :
  ∃b a,A=some ⟨b,a,none⟩/\lo<=b/\b<hi/\(bF x.n/\x.b.size<=maxLen)/\w.cell? ⟨b,a+k*2,none⟩=some (.int .i64 x.n)/\w.cell? ⟨b,a+k*2+1,none⟩=some (.string x.b):=by
 obtain⟨b,a,l,rfl,i,f,j,⟨rfl,d⟩,e⟩:=h.1.at_ g;exact⟨b,a,rfl,i,f,d,by simpa using e 0 _ rfl,e 1 _ rfl⟩
def eL.len_(h:eL e E Z w lo hi xs [.slice A n c]):n=xs.length/\n<=c/\c<=maxLen:=h.1.len_
def ng(p:Pk):List Sp:=p.its.map λx=>⟨x.n,p.no⟩
def bE(l:List Pk):List Sp:=l.flatMap ng
def IOf(l:List Pk)(r:List Sp):Prop:=((∀s∈bE l,spP s)/\r=cN (bE l) [])\/((¬ ∀s∈bE l,spP s)/\r=[])
def aoj(l:List Pk):∃r,IOf l r:=by
 by_cases h:∀s∈bE l,spP s
 .exact⟨_,.inl ⟨h,rfl⟩⟩
 .exact⟨_,.inr ⟨h,rfl⟩⟩
def akY{l:List Pk}{x:Pk}(h:l[k]?=some x):bE (l.take (k+1))=bE (l.take k)++ng x:=by
 rw[nF h];unfold bE;rw[rM];simp
def bC(l:List Pk)(k j:Nat):List Sp:=bE (l.take k)++((l[k]?.map λp=>(ng p).take j).getD [])
def iE(l:List Pk)(k:Nat):bC l k 0=bE (l.take k):=by
 unfold bC;cases l[k]?<;>simp
def abI{l:List Pk}{x:Pk}{y:It}(h:l[k]?=some x)(a:x.its[j]?=some y):bC l k (j+1)=bC l k j++[⟨y.n,x.no⟩]:=by
 unfold bC;rw[h];simp only[qf,qi];rw[tp]
 congr 1
 refine nF (k:=j) ?_;unfold ng;rw[qD,a];rfl
def ac7{l:List Pk}{x:Pk}(h:l[k]?=some x):bC l k x.its.length=bE (l.take (k+1)):=by
 rw[akY h];unfold bC;rw[h];simp only[qf,qi]
 congr 1
 unfold ng;exact qj (by rw[pu];exact am _)
def ac8{l:List Pk} :∀s∈bC l k j,s∈bE l:=λs a=>by
 unfold bC at a;rcases ge.1 a with h|h
 .obtain⟨p,c,a⟩:=qa.1 h;exact qa.2 ⟨p,oS c,a⟩
 .cases b:l[k]? with
  |none=>rw[b] at h;cases h
  |some x=>
   rw[b] at h;exact qa.2 ⟨x,da b,oS h⟩
def ac9{l:List Pk}{x:Pk}(h:l[k]?=some x):(bC l k j).length<=(bE l).length:=by
 have a:bE l=bE (l.take k)++bE (l.drop k):=by
  unfold bE;rw[<-rM,tw]
 rw[a];unfold bC;rw[h,ap,ap];have:l.drop k=x::l.drop (k+1):=by
  rw[tO (aG h)]
  congr 1
  exact(mp.1 h).2
 rw[this];unfold bE;rw[List.flatMap_cons,ap];simp only[qf,qi,ff];omega
def IOf.ix{l:List Pk}{r:List Sp}(h:IOf l r):ixP r:=by
 rcases h with⟨h,rfl⟩|⟨_,rfl⟩
 .exact aiI aqZ h
 .exact aqZ
end
section
variable {β:Bool}
open Go.RowKit
def ju(key:Int)(x:It):Prop:=∃p,mQ (bs x.b)=some p/\bG key p=x.n
def aiK(key:Int)(p:Pk):Prop:=(1<=p.no/\p.no<=99)/\(1<=key/\key<=99)/\(1<=p.its.length/\p.its.length<=4)/\(∀x∈p.its,ju key x)/\p.its.Pairwise λa b=>a.n<b.n
def ahv(key:Int)(l:List It):Prop:=(∀x∈l,ju key x)/\l.Pairwise λa b=>a.n<b.n
def acG{xs:List It}{x:It}:ahv key (xs++[x])↔ahv key xs/\ju key x/\∀y∈xs,y.n<x.n:=by
 unfold ahv;rw[rG];constructor
 .intro⟨d,e,_,f⟩;exact⟨⟨λy c=>d y (by simp[c]),e⟩,d x (by simp),λy c=>f y c x (by simp)⟩
 .intro⟨⟨d,e⟩,f,i⟩;refine⟨λy c=> ?_,e,rK _ _,λa g b j=> ?_⟩
  .rcases ge.1 c with c|c
   .exact d y c
   .rw[jn.1 c];exact f
  .rw[jn.1 j];exact i a g
def aq2{xs:List It}{x:It}(b:xs[0]?=some x)(h:ju key x):ahv key (xs.take 1):=by
 rw[nF b];exact acG.2 ⟨⟨λy a=>(by cases a),List.Pairwise.nil⟩,h,λy a=>(by cases a)⟩
def at7{xs:List It}{x y:It}(c:ahv key (xs.take (j+1)))(d:xs[j]?=some y)(e:xs[j+1]?=some x)(h:ju key x)(b:y.n<x.n):ahv key (xs.take (j+1+1)):=by
 rw[nF e];refine acG.2 ⟨c,h,λz a=> ?_⟩;rw[nF d] at a c;rcases ge.1 a with a|a
 .have:=(acG.1 c).2.2 z a;omega
 .rw[jn.1 a];exact b
def aua{xs:List It}{x y:It}(a:xs[j]?=some y)(c:xs[j+1]?=some x)(h:¬y.n<x.n):¬ahv key xs:=λd=>by
 have b:=qg.1 d.2 j (j+1) (aG a) (aG c) (by omega);rw[(mp.1 a).2,(mp.1 c).2] at b;exact h b
def aq3(key:Int):ahv key []:=⟨λx h=>(by cases h),List.Pairwise.nil⟩
def pC(p:Prop):∃b:Bool,b=true↔p:=by
 by_cases h:p
 .exact⟨true,by simp[h]⟩
 .exact⟨false,by simp[h]⟩
end
section
variable {β:Bool}
open Go.RowKit
def Rd(w:World)(lo hi g:Nat)(l:List Int)(p:Nat):Prop:=
 ∃A c,bR w g 58 #[.slice A l.length c,.int .i64 p]/\l.length<=2000/\cV jk 1 w lo hi l [.slice A l.length c]/\hi<=g
def axB(n v:Int):Prop:=(n<1->v=0)/\(1<=n->0<=v/\v<n)
def aq4(w:World)(lo hi g:Nat)(l:List Int)(p:Nat)(n:Int)(e:Ending)(w':World):Prop:=
 ∃v:Int,e=.returned (.int .i64 v)/\axB n v/\Rd w' lo hi g l (p+1)/\bq (λb=>b=g) w w'
def Rd.dQ{p:Nat}(h:Rd w lo hi g l p)(f:bq S w w')(e:∀b,b<hi\/b=g->¬S b):Rd w' lo hi g l p:=by
 obtain⟨A,c,d,i,k,m⟩:=h;have a:=d.lt;exact⟨A,c,(f.block g a (e g (.inr rfl))).trans d,i,(cV.loc jk.loc).go (λb _ j=>f.block b (by omega) (e b (.inl j))) (am _) (am _) k,m⟩
def Rd.lt{p:Nat}(h:Rd w lo hi g l p):g<w.heap.size:=by
 obtain⟨A,c,a,_⟩:=h;exact a.lt
def Rd.drew{p:Nat}(h:Rd w lo hi g l p):Rd w.drew lo hi g l p:=h.dQ ((bq.refl (λ_=>False) _).drew) (λ_ _ h=>h)
def Rd.alloc{p:Nat}(h:Rd w lo hi g l p)(o:Obj):Rd (w.alloc o) lo hi g l p:=h.dQ ((bq.refl (λ_=>False) _).alloc o) (λ_ _ h=>h)
def aub{p:Nat}(h:Rd w lo hi g l p)(n:Int)(j:n=(p:Int)+1):Rd (w.setCell ⟨g,1,none⟩ (.int .i64 n)) lo hi g l (p+1):=by
 obtain⟨A,c,f,a,d,e⟩:=h;refine⟨A,c, ?_,a, ?_,e⟩
 .have:=f.bM 1 (.int .i64 n);rw[j] at this ⊢;exact this
 .refine(cV.loc jk.loc).go (λb _ i=> ?_) (am _) (am _) d;exact qp _ _ _ _ (by show b≠g;omega)
def af6(a:Nat)(b:a<9223372036854775808):(BitVec.ofInt 64 (a:Int)).toNat=a:=by
 rw[BitVec.ofInt_natCast,BitVec.toNat_ofNat];exact Nat.mod_eq_of_lt (by omega)
def akZ(a b:Int)(d:0<=a)(f:a<9223372036854775808)(e:0<=b)(c:b<9223372036854775808):0<=bits .xor .i64 a b:=by
 obtain⟨a,rfl⟩:=qG d;obtain⟨b,rfl⟩:=qG e;have g:a ^^^ b<2 ^ 63:=Nat.xor_lt_two_pow (by omega) (by omega);show 0<=IntKind.i64.wrap ((BitVec.ofInt 64 (a:Int) ^^^ BitVec.ofInt 64 (b:Int)).toNat:Int);rw[BitVec.toNat_xor,af6 a (by omega),af6 b (by omega),tG];omega
def dA(w:World)(lo hi g:Nat)(l:List Int)(p:Nat)(n:Int)(h:Rd w lo hi g l p)(R:p<=1099511627776) :
  Calls (ah β) 21 #[.pointer (some ⟨g,0,none⟩),.int .i64 n] w (aq4 w lo hi g l p n):=by
 have a:=λn B=>aub h n B;obtain⟨A,c,o,S,s,M⟩:=h;have H:=o.cell 0;have G:=o.cell 1;have N:=o.frozen 1;simp at H G;by_cases B:n<1
 .go_enter wB,ntmps21;go_wp2;go_ret;exact⟨0,rfl,⟨λ_=>rfl,λh=>absurd h (by omega)⟩,a _ rfl,(bq.refl (λb=>b=g) _).setCell (p:=⟨g,1,none⟩) (.inl rfl) _⟩
 by_cases e:l.length=0
 .have i:((l.length:Int) ==0)=true:=by rw[mw];omega
  replace e:=ab e;go_enter wB,ntmps21;go_wp2;go_ret;exact⟨0,rfl,⟨λ_=>rfl,λh=>⟨by omega,by omega⟩⟩,a _ rfl,(bq.refl (λb=>b=g) _).setCell (p:=⟨g,1,none⟩) (.inl rfl) _⟩
 by_cases E:p<l.length
 .obtain⟨x,d⟩:=aq E;obtain⟨b,r,rfl,u,t,j,q⟩:=s.aev d;have U:=ab d;clear d;have m:b≠g:=by omega
  have i:((l.length:Int) ==0)=false:=by rw[fa];omega
  go_enter wB,ntmps21;go_wp2;go_ret;exact⟨x % n,rfl,⟨λh=>absurd h (by omega),λh=>⟨vA _ (by omega),uN _ (by omega)⟩⟩,a _ rfl,(bq.refl (λb=>b=g) _).setCell (p:=⟨g,1,none⟩) (.inl rfl) _⟩
 .have i:((l.length:Int) ==0)=false:=by rw[fa];omega
  obtain⟨x,d⟩:=aq (l:=l) (k:=p % l.length) (uC _ (by omega));obtain⟨y,z⟩:=aq (l:=l) (k:=(p*7+3) % l.length) (uC _ (by omega));obtain⟨b,r,rfl,u,t,j,C⟩:=s.aev d;obtain⟨L,v,f,_,_,D,F⟩:=s.aev z;simp only[mt,qv,ql] at f;obtain⟨rfl,rfl⟩:=f;clear d z;have m:b≠g:=by omega
  have T:p % l.length<l.length:=uC _ (by omega);have K:(p*7+3) % l.length<l.length:=uC _ (by omega);have O:0<=((p:Int)*7+3) % (l.length:Int):=vA _ (by omega);have V:((p:Int)*7+3) % (l.length:Int)<(l.length:Int):=uN _ (by omega);have Q:(((p:Int)*7+3) % (l.length:Int)).toNat=(p*7+3) % l.length:=by
   have:((p:Int)*7+3) % (l.length:Int)=(((p*7+3) % l.length:Nat):Int):=rfl;rw[this];rfl
  have P:0<=(p:Int) / (l.length:Int):=Int.ediv_nonneg (by omega) (by omega);have J:(p:Int) / (l.length:Int)<=p:=Int.ediv_le_self _ (by omega);go_enter wB,ntmps21;go_wp2;have I:=akZ (x*131+y*1117+(p:Int)*29+(p:Int) / (l.length:Int)*53) ((x*131+y*1117+(p:Int)*29+(p:Int) / (l.length:Int)*53) / 64) (by omega) (by omega) (by omega) (by omega)
  go_quiet (fail)
  go_wp2;go_ret;exact⟨_,rfl,⟨λh=>absurd h (by omega),λh=>⟨vA _ (by omega),uN _ (by omega)⟩⟩,
   (a _ rfl).dQ ((bq.refl (λ_=>False) _).drewN nq) (λ_ _ h=>h),((bq.refl (λb=>b=g) _).setCell (p:=⟨g,1,none⟩) (.inl rfl) _).drewN nq⟩
def aq5(w:World)(lo hi:Nat)(l:List Int)(e:Ending)(w':World):Prop:=
 ∃g,e=.returned (.pointer (some ⟨g,0,none⟩))/\Rd w' lo hi g (l.take 2000) 0/\w.heap.size<=g/\Below w.heap.size w w'
def cV.cut(h:cV E Z w lo hi xs [.slice A n c])(q:m<=n):cV E Z w lo hi (xs.take m) [.slice A m c]:=by
 obtain⟨A',p,a,r,k,g⟩:=h;simp only[qb,pX,ql] at a;obtain⟨rfl,rfl,rfl⟩:=a;have f:(xs.take m).length=m:=by rw[ff];omega
 refine⟨A,c,by rw[f],by omega,k,λo=> ?_⟩;obtain⟨b,d,rfl,l,j,e⟩:=g (by omega);refine⟨b,d,rfl,l,j,λi x hi=>e i x ?_⟩;have:=aG hi;rw[sT (by omega)] at hi;exact hi
def aq6(l:List Int)(A:Option Addr)(n c:Nat)(w:World)(lo hi:Nat)(h:cV jk 1 w lo hi l [.slice A n c])(d:hi<=w.heap.size) :
  Calls (ah β) 10 #[.slice A n c] w (aq5 w lo hi l):=by
 obtain⟨rfl,i,f⟩:=h.len_;unfold maxLen at f;by_cases g:2000<l.length
 .have b:=h.cut (m:=2000) (by omega);have a:(l.take 2000).length=2000:=by rw[ff];omega
  go_enter xr,ntmps10;go_wp2;go_ret;refine⟨_,rfl,⟨A,c, ?_,by omega, ?_,d⟩,am _,(gc _ _).alloc (am _) _⟩
  .rw[a];exact bR.new _ _ _
  .rw[a];exact Lcy.below (cV.loc jk.loc) b ((gc _ _).alloc (am _) _) d
 .have a:l.take 2000=l:=qj (by omega);have e:=ab a;clear a;go_enter xr,ntmps10;go_wp2;go_ret;refine⟨_,rfl,⟨A,c, ?_,by rw[e.out];omega, ?_,d⟩,am _,(gc _ _).alloc (am _) _⟩
  .rw[e.out];exact bR.new _ _ _
  .rw[e.out];exact Lcy.below (cV.loc jk.loc) h ((gc _ _).alloc (am _) _) d
end
section
variable {β:Bool}
open Go.RowKit
structure aq7 (w:World) (lo hi g:Nat) (l:List Int) (N:Nat) where
 to:World
 q:Nat
 rd:Rd to lo hi g l q
 ok:bq (λb=>b=g) w to
 lim:q<=N
section
variable {w:World} {lo hi g:Nat} {l:List Int} {N:Nat}
instance awo:aY (aq7 w lo hi g l N):=⟨λm x=>x.q+m<=N,λ_ _ h=>rU h,λ_ _=>True⟩
variable {P:Program}
variable {ops:Array Oper} {Qt:Act->World->Prop} {i:Nat} {o:Oper} {L:List (Nat×Oper)} {F:List (Nat×(aq7 w lo hi g l N->Prop))} {Rs:List (ig (aq7 w lo hi g l N))} {a:Act}
end
end
section
variable {β:Bool}
open Go.RowKit
def Rd.hi_{p:Nat}(h:Rd w lo hi g l p):hi<=g:=by
 obtain⟨A,c,_,_,_,a⟩:=h;exact a
structure aH (w:World) (lo hi g:Nat) (l:List Int) (N s ia ic bk:Nat) (fx:Bool) (ty:TypeId) (n:Nat) (S:Nat->Prop) (pre:List Nat) where
 to:World
 q:Nat
 box:Option Nat
 done:Bool
 res:Option Value
 rd:Rd to lo hi g l q
 ok:bq (λb=>b=g\/box=some b\/(done=true/\S b)) w to
 lim:q<=N
 bw:∀b,box=some b->b=bk\/w.heap.size<=b
 bf:fx=true->box=some bk
 sf:∀b,S b->b≠g/\hi<=b/\b≠bk/\b<w.heap.size
 bx:∀b,box=some b->b≠g/\hi<=b/\∃cs:Array Value,cs.size=n/\bR to b ty cs
section
variable {w:World} {lo hi g:Nat} {l:List Int} {N s ia ic bk:Nat} {fx:Bool} {ty:TypeId} {n:Nat} {S:Nat->Prop} {pre:List Nat}
instance awp:aY (aH w lo hi g l N s ia ic bk fx ty n S pre):=⟨λm x=>x.q+m<=N,λ_ _ h=>rU h,λi x=>(i=s\/i∈pre->x.done=false)/\(i=ia->x.box=none)/\(i=ic->x.res=none)⟩
structure aH.le (x y:aH w lo hi g l N s ia ic bk fx ty n S pre):Prop where
 dQ:bq (λb=>b=g\/(x.done=false/\(x.box=some b\/S b))) x.to y.to
 done:x.done=true->y.done=true
 box:∀b,x.box=some b->y.box=some b
 fresh:∀b,x.box=none->y.box=some b->x.to.heap.size<=b
 res:∀v,x.res=some v->y.res=some v
def aH.le_refl(x:aH w lo hi g l N s ia ic bk fx ty n S pre):aH.le x x:=⟨bq.refl _ _,id,λ_ h=>h,λb c a=>(by rw[c] at a;cases a),λ_ h=>h⟩
def aH.free(x:aH w lo hi g l N s ia ic bk fx ty n S pre)(b:Nat):Prop:=b<x.to.heap.size/\b≠g/\x.box≠some b/\¬S b
def aH.le.free{x y:aH w lo hi g l N s ia ic bk fx ty n S pre}(h:aH.le x y)(a:x.free b):y.free b:=by
 refine⟨aE a.1 h.dQ.size,a.2.1,λe=> ?_,a.2.2.2⟩;cases d:x.box with
 |none=>have:=h.fresh b d e;have:=a.1;omega
 |some c=>
  have:=h.box c d;rw[e] at this;cases this;exact a.2.2.1 d
def aH.le.not{x y:aH w lo hi g l N s ia ic bk fx ty n S pre}(_:aH.le x y)(a:x.free b):¬(b=g\/(x.done=false/\(x.box=some b\/S b))):=by
 rintro(rfl|⟨_,h|h⟩)
 .exact a.2.1 rfl
 .exact a.2.2.1 h
 .exact a.2.2.2 h
def aH.le.full{x y:aH w lo hi g l N s ia ic bk fx ty n S pre}(h:aH.le x y)(a:x.done=true)(e:x.box=some b)(c:bR x.to b t cs):y.done=true/\y.box=some b/\bR y.to b t cs:=by
 refine⟨h.done a,h.box b e,(h.dQ.block b c.lt ?_).trans c⟩;rintro(rfl|⟨d,_⟩)
 .exact(x.bx _ e).1 rfl
 .rw[a] at d;cases d
def aaR(h:w.cell? p=some v){x:aH w lo hi g l N s ia ic bk fx ty n S pre}(c:p.block≠g)(b:p.block≠bk)(d:¬S p.block):x.to.cell? p=some v:=by
 have a:=sV w p h;have b:x.box≠some p.block:=λe=>by
  rcases x.bw _ e with h|h
  .exact b h
  .omega
 unfold World.cell? at h ⊢;rw[x.ok.block p.block a (by
  rintro(h|h|⟨_,h⟩)
  .exact c h
  .exact b h
  .exact d h)]
 exact h
def ak0     (k q:Nat) (f o:List Nat) (u:P.follows .mixedOrders=true) (H:ahj T k f o=true) (v:adE T.toArray k X.tmps.size=true)
  (D:Rd w lo hi g l q) (I:q+k<=N) (a:Option Nat) (y:∀b,a=some b->b=bk) (r:fx=true->a=some bk) (p:∀b,S b->b≠g/\hi<=b/\b≠bk/\b<w.heap.size) (j:∀b,a=some b->b≠g/\hi<=b/\∃c:Array Value,c.size=n/\bR w b ty c) (t:a=none\/k<=ia)
  (h:wpQuiet P T.toArray (λz=>∃x:aH w lo hi g l N s ia ic bk fx ty n S pre,z=x.to) (λG=>∃F:List (ig (aH w lo hi g l N s ia ic bk fx ty n S pre)),bN P T.toArray (aH.to (w:=w)) (aH.le (w:=w)) (wpList P T.toArray Q (T.drop k)) (pick T o) [] F G) ((pick T f).map (·.2)) X):(Code.region Z T.toArray true).wp P Q X w:=
 mW (aH.to (w:=w)) (aH.le (w:=w)) aH.le_refl k f o u H v
  ⟨w.drew,q,a,false,none,D.drew,(bq.refl _ _).drew,by omega,λb d=>.inl (y b d),r,p,λb d=>by
   obtain⟨C,A,c,E,B⟩:=j b d;exact⟨C,A,c,E,B⟩⟩ (λm u=>by show q+m<=N;omega) (λi hi=>And.intro (λ_=>rfl) (And.intro (λe=>by
   rcases t with h|h
   .exact h
   .omega) λ_=>rfl)) rfl h
def aH.on(x:aH w lo hi g l N s ia ic bk fx ty n S pre){w2:World}(hb:Below x.to.heap.size x.to w2):aH w lo hi g l N s ia ic bk fx ty n S pre:=
 ⟨w2,x.q,x.box,x.done,x.res,x.rd.dQ (bq.aT (S:=λ_=>False) hb) (λ_ _ h=>h),x.ok.trans (bq.aT (S:=λb=>b=g\/x.box=some b\/(x.done=true/\S b)) hb) λ_ _ e=>e,x.lim,x.bw,x.bf,x.sf,λb h=>by
  obtain⟨f,a,d,i,c⟩:=x.bx b h;exact⟨f,a,d,i,av c hb⟩⟩
def aH.told(x:aH w lo hi g l N s ia ic bk fx ty n S pre){w2:World}(hb:Below x.to.heap.size x.to w2)(v:Value):aH w lo hi g l N s ia ic bk fx ty n S pre:={x.on hb with res:=some v}
def aH.auc(x:aH w lo hi g l N s ia ic bk fx ty n S pre)(a:Below x.to.heap.size x.to w2)(v:Value)(d:x.res=none):aH.le x (x.told a v):=⟨bq.aT a,id,λ_ h=>h,λb e c=>(by
 have:x.box=some b:=c;rw[e] at this;cases this),λu h=>by rw[d] at h;cases h⟩
def aH.took(x:aH w lo hi g l N s ia ic bk fx ty n S pre){w2:World}(hr:Rd w2 lo hi g l (x.q+1))(hc:bq (λb=>b=g) x.to w2)(hl:x.q+1<=N):aH w lo hi g l N s ia ic bk fx ty n S pre:=
 ⟨w2,x.q+1,x.box,x.done,x.res,hr,x.ok.trans (hc.mono λb _ h=>.inl h) λ_ _ e=>e,hl,x.bw,x.bf,x.sf,λb h=>by
  obtain⟨a,c,f,i,d⟩:=x.bx b h;exact⟨a,c,f,i,bH d hc a⟩⟩
def aH.aud(x:aH w lo hi g l N s ia ic bk fx ty n S pre)(e:Rd w2 lo hi g l (x.q+1))(a:bq (λb=>b=g) x.to w2)(c:x.q+1<=N):aH.le x (x.took e a c):=⟨a.mono λb _ h=>.inl h,id,λ_ h=>h,λb f d=>(by
 have:x.box=some b:=d;rw[f] at this;cases this),λ_ h=>h⟩
def aH.made(x:aH w lo hi g l N s ia ic bk fx ty n S pre)(hx:x.box=none)(cs:Array Value)(hn:cs.size=n)(hg:hi<=x.to.heap.size):aH w lo hi g l N s ia ic bk fx ty n S pre:=
 ⟨x.to.alloc (.cells cs ty),x.q,some x.to.heap.size,x.done,x.res,x.rd.alloc _,(x.ok.mono λb _ h=>by rw[hx] at h;exact h.elim .inl λh=>h.elim (λh=>by cases h) λh=>.inr (.inr h)).alloc _,x.lim,λb h=>(by cases h;exact .inr x.ok.size),λh=>(by rw[x.bf h] at hx;cases hx),x.sf,λb h=>by
  cases h;exact⟨Nat.ne_of_gt x.rd.lt,hg,cs,hn,bR.new _ _ _⟩⟩
def aH.aue(x:aH w lo hi g l N s ia ic bk fx ty n S pre)(a:x.box=none)(cs:Array Value)(e:cs.size=n)(c:hi<=x.to.heap.size):aH.le x (x.made a cs e c):=⟨(bq.refl _ _).alloc _,id,λb h=>(by rw[a] at h;cases h),λb _ d=>(by
 have:some x.to.heap.size=some b:=d;cases this;exact am _),λ_ h=>h⟩
def aH.fill(x:aH w lo hi g l N s ia ic bk fx ty n S pre){b:Nat}(hx:x.box=some b){w2:World}(hc:bq (λc=>c=b) x.to w2){cs:Array Value}(hn:cs.size=n)(hk:bR w2 b ty cs):aH w lo hi g l N s ia ic bk fx ty n S pre:=
 ⟨w2,x.q,x.box,true,x.res,x.rd.dQ hc (λc h e=>by
  obtain⟨a,d,_⟩:=x.bx b hx;rcases h with h|h
  .omega
  .exact a (e▸h)),(x.ok.mono (T:=λb=>b=g\/x.box=some b\/(true=true/\S b)) λc _ h=>h.elim .inl λh=>h.elim (λh=>.inr (.inl h)) λh=>.inr (.inr ⟨rfl,h.2⟩)).trans (hc.mono λc _ h=>.inr (.inl (by rw[hx,h]))) λ_ _ e=>e,x.lim,x.bw,x.bf,x.sf,λc h=>by
  rw[hx] at h;cases h;exact⟨(x.bx _ hx).1,(x.bx _ hx).2.1,cs,hn,hk⟩⟩
def aH.auf(x:aH w lo hi g l N s ia ic bk fx ty n S pre)(a:x.box=some b)(e:bq (λc=>c=b) x.to w2)(j:cs.size=n)(i:bR w2 b ty cs)(f:x.done=false):aH.le x (x.fill a e j i):=
 ⟨e.mono λc _ h=>.inr ⟨f,.inl (by rw[a,h])⟩,λ_=>rfl,λ_ h=>h,λc d k=>(by rw[a] at d;cases d),λ_ h=>h⟩
variable {P:Program} {ops:Array Oper} {Qt:Act->World->Prop} {i:Nat} {o:Oper} {L:List (Nat×Oper)} {F:List (Nat×(aH w lo hi g l N s ia ic bk fx ty n S pre->Prop))} {Rs:List (ig (aH w lo hi g l N s ia ic bk fx ty n S pre))} {a:Act}
def anc (R:Value->Prop) (c:o.dst.isSome=true)
  (j:∀x:aH w lo hi g l N s ia ic bk fx ty n S pre,mj F o x->∀b:Exit->Act->World->Prop,(∀v,R v->b .normal (a.put o.dst v) x.to)->wpList P ops b [o] a x.to)
  (e:∀v,bN P ops (aH.to (w:=w)) (aH.le (w:=w)) Qt L ((i,λ_=>R v)::F) Rs (a.put o.dst v)):bN P ops (aH.to (w:=w)) (aH.le (w:=w)) Qt ((i,o)::L) F (.any (λv _=>R v)::Rs) a:=
 iA (to:=aH.to (w:=w)) (le:=aH.le (w:=w)) (λv _=>R v) (.inl c) (λ_ _ _ h _=>h) (λx p m d q b k=>j x p b λv f=>
  k v x (aH.le_refl x) (rU d) (λ_ _ _ h=>h) f) e
def aug (R:Value->Prop) (j:o.dst.isSome=true)
  (z:∀x:aH w lo hi g l N s ia ic bk fx ty n S pre,mj F o x->x.q<N->∀c:Exit->Act->World->Prop,(∀v d,Rd d lo hi g l (x.q+1)->bq (λb=>b=g) x.to d->R v->c .normal (a.put o.dst v) d)->wpList P ops c [o] a x.to)
  (p:∀v,bN P ops (aH.to (w:=w)) (aH.le (w:=w)) Qt L ((i,λ_=>R v)::F) Rs (a.put o.dst v)):bN P ops (aH.to (w:=w)) (aH.le (w:=w)) Qt ((i,o)::L) F (.any (λv _=>R v)::Rs) a:=
 iA (to:=aH.to (w:=w)) (le:=aH.le (w:=w)) (λv _=>R v) (.inl j) (λv x y h _=>h) (λx r m t A c q=>by
  have k:x.q+(m+1)<=N:=t;exact z x r (by omega) c λv d e f u=>
   q v (x.took e f (by omega)) (x.aud e f (by omega)) (by show x.q+1+m<=N;omega) (λ_ _ _ h=>h) u) p
def auh (R:Value->aH w lo hi g l N s ia ic bk fx ty n S pre->Prop) (p:o.dst.isSome=true) (hi':i=ic) (t:∀v x y,R v x->aH.le x y->R v y)
  (D:∀x:aH w lo hi g l N s ia ic bk fx ty n S pre,mj F o x->∀d:Exit->Act->World->Prop,(∀v f (c:Below x.to.heap.size x.to f),R v (x.told c v)->d .normal (a.put o.dst v) f)->wpList P ops d [o] a x.to)
  (r:∀v,bN P ops (aH.to (w:=w)) (aH.le (w:=w)) Qt L ((i,λx=>R v x/\x.res=some v)::F) Rs (a.put o.dst v)):bN P ops (aH.to (w:=w)) (aH.le (w:=w)) Qt ((i,o)::L) F (.any (λv x=>R v x/\x.res=some v)::Rs) a:=
 iA (to:=aH.to (w:=w)) (le:=aH.le (w:=w)) (λv x=>R v x/\x.res=some v) (.inl p) (λv x y h k=>⟨t v x y h.1 k,k.res v h.2⟩) (λx z m A q d u=>D x z d λv f c B=>
  u v (x.told c v) (x.auc c v (q.2.2 hi')) (rU A) (λj C _ b=>⟨b.1,b.2.1,λe=>absurd (e.trans hi'.symm) C⟩) ⟨B,rfl⟩) r
def ahw (R:Value->Value->Prop) (c:o.dst.isSome=true)
  (q:∀x:aH w lo hi g l N s ia ic bk fx ty n S pre,mj F o x->∀b:Exit->Act->World->Prop,(∀v u,x.res=some u->R v u->b .normal (a.put o.dst v) x.to)->wpList P ops b [o] a x.to)
  (d:∀v,bN P ops (aH.to (w:=w)) (aH.le (w:=w)) Qt L ((i,λx=>∃u,x.res=some u/\R v u)::F) Rs (a.put o.dst v)):bN P ops (aH.to (w:=w)) (aH.le (w:=w)) Qt ((i,o)::L) F (.any (λv x=>∃u,x.res=some u/\R v u)::Rs) a:=
 iA (to:=aH.to (w:=w)) (le:=aH.le (w:=w)) (λv x=>∃u,x.res=some u/\R v u) (.inl c) (λ_ _ _ ⟨u,h,hr⟩ hl=>⟨u,hl.res u h,hr⟩) (λx j m k r b f=>q x j b λv u e p=>
  f v x (aH.le_refl x) (rU k) (λ_ _ _ h=>h) ⟨u,e,p⟩) d
def aq8 (q:o.dst.isSome=true) (hi':i=ia) (t:ia≠s) (z:hi<=w.heap.size) (cs:Array Value) (p:cs.size=n)
  (D:∀x:aH w lo hi g l N s ia ic bk fx ty n S pre,∀k:Exit->Act->World->Prop,(k .normal (a.put o.dst (.pointer (some ⟨x.to.heap.size,0,none⟩))) (x.to.alloc (.cells cs ty)))->wpList P ops k [o] a x.to)
  (u:∀v,bN P ops (aH.to (w:=w)) (aH.le (w:=w)) Qt L ((i,λx=>∃b,v=.pointer (some ⟨b,0,none⟩)/\w.heap.size<=b/\x.box=some b)::F) Rs (a.put o.dst v)):bN P ops (aH.to (w:=w)) (aH.le (w:=w)) Qt ((i,o)::L) F (.any (λv x=>∃b,v=.pointer (some ⟨b,0,none⟩)/\w.heap.size<=b/\x.box=some b)::Rs) a:=
 iA (to:=aH.to (w:=w)) (le:=aH.le (w:=w)) (λv x=>∃b,v=.pointer (some ⟨b,0,none⟩)/\w.heap.size<=b/\x.box=some b) (.inl q) (λv x y ⟨b,e,hb,h⟩ hle=>⟨b,e,hb,hle.box b h⟩) (λx E m B r k A=>by
  have d:=r.2.1 hi';have f:hi<=x.to.heap.size:=bd z x.ok.size;refine D x k (A _ (x.made d cs p f) (x.aue d cs p f) (rU B) (λj C _ c=>⟨c.1,λe=>absurd (e.trans hi'.symm) C,c.2.2⟩) ⟨_,rfl,x.ok.size,rfl⟩)) u
def aq9 (R:aH w lo hi g l N s ia ic bk fx ty n S pre->Prop) (hi':i=s) (z:∀j∈pre,Behind ops i j) (K:∀x y,R x->aH.le x y->R y)
  (I:∀x:aH w lo hi g l N s ia ic bk fx ty n S pre,mj F o x->x.done=false->∀k:Exit->Act->World->Prop,(∀b (A:x.box=some b) q (r:bq (λc=>c=b) x.to q) (t:Array Value) (p:t.size=n) (f:bR q b ty t),R (x.fill A r p f)->k .normal (a.put o.dst undef) q)->wpList P ops k [o] a x.to)
  (E:o.dst=none)
  (G:bN P ops (aH.to (w:=w)) (aH.le (w:=w)) Qt L ((i,λx=>R x)::F) Rs (a.put o.dst undef)):bN P ops (aH.to (w:=w)) (aH.le (w:=w)) Qt ((i,o)::L) F (.any (λ_ x=>R x)::Rs) a:=
 iA (to:=aH.to (w:=w)) (le:=aH.le (w:=w)) (λ_ x=>R x) (.inr λ_ _ _ h=>h) (λ_ x y h B=>K x y h B) (λx A m M D k H=>I x A (D.1 (.inl hi')) k λb d q r t p f J=>by
  exact H undef (x.fill d r p f) (x.auf d r p f (D.1 (.inl hi'))) (rU M) (λj O C u=>⟨λe=>e.elim (λe=>absurd (e.trans hi'.symm) O) λe=>absurd (z j e) C,u.2⟩) J) (λv=>by
  have e:a.put o.dst v=a.put o.dst undef:=by rw[E];rfl
  rw[e];exact G)
def axC(h:∀x:aH w lo hi g l N s ia ic bk fx ty n S pre,js F x->Qt a x.to):bN P ops (aH.to (w:=w)) (aH.le (w:=w)) Qt [] F [] a:=adU h
end
end
section
variable {β:Bool}
open Go.RowKit
def iF:Flat ByteArray:=⟨1,λs=>[.string s],λs=>s.size<=maxLen,λ_=>rfl,λs u a=>by rw[jn.1 a];rfl,by decide⟩
abbrev df:fU (List ByteArray):=eL 9 (bY iF) 1
def df.aw:dV df [9]:=eL.aw (bY.aw iF)
def abJ:gJ (ah β) 92 9 1 16:=gJ.mk' ye (z:=.string ⟨#[]⟩) (by kernel_rfl) rfl (by decide) (by decide)
def kL{xs:List ByteArray}(h:df w lo hi xs [.slice A n c]){x:ByteArray}(f:xs[k]?=some x) :
  ∃b a,A=some ⟨b,a,none⟩/\lo<=b/\b<hi/\x.size<=maxLen/\w.cell? ⟨b,a+k,none⟩=some (.string x):=by
 obtain⟨b,a,l,rfl,g,e,j,⟨rfl,d⟩,i⟩:=h.1.at_ f;exact⟨b,a,rfl,g,e,d,by simpa using i 0 _ rfl⟩
def Rd.blk{p:Nat}(h:Rd w lo hi g l p):∃b,bR w g 58 b:=by
 obtain⟨A,c,a,_⟩:=h;exact⟨_,a⟩
def aui{oG hi' : Nat}{p:Nat}{xs:List ByteArray}{cs:List Value}(h:df w oG hi' xs cs)(c:Rd w lo hi g l p)(d:bq (λb=>b=g) w w'):df w' oG hi' xs cs:=
 df.aw.dQ h d λb _ _ ⟨t,ht,ds,hd⟩ e=>by
  obtain⟨f,a⟩:=c.blk;subst e;have:=eA hd a;rw[jn.1 ht] at this;exact absurd this (by decide)
def ahx{xs:List ByteArray}(h:xs.all (λs=>decide (s.size<=9))=true):∀s∈xs,s.size<=9:=λs a=>sI (jt.1 h s a)
def aaS{xs:List ByteArray}(h:xs.all (λs=>decide (s.size<=9))=true):∀s∈xs,iF.good s:=λs a=>by
 have:=ahx h s a;show s.size<=maxLen;unfold maxLen;omega
def axD(xs:List ByteArray)(w:World)(lo hi g:Nat)(l:List Int)(p:Nat)(e:Ending)(w':World):Prop:=∃s∈xs,e=.returned (.string s)/\Rd w' lo hi g l (p+1)/\bq (λb=>b=g) w w'
def ak1(xs:List ByteArray)(z:0<xs.length/\xs.length<=100)(v:Value)(l:List Int)(g p lo hi oG hi':Nat)(w:World)(j:Rd w lo hi g l p)(y:p<=1000000)(h:df w oG hi' xs [v]) :
  Calls (ah β) 56 #[.pointer (some ⟨g,0,none⟩),v] w (axD xs w lo hi g l p):=by
 obtain⟨A,c,rfl⟩:=h.form;go_enter yK,ntmps56;go_wp2;refine(dA _ _ _ _ _ _ _ j (by omega)).mono ?_;rintro e u ⟨m,rfl,⟨_,n⟩,i,a⟩;obtain⟨o,B⟩:=n (by omega);clear n;obtain⟨k,rfl⟩:=qG o;obtain⟨s,d⟩:=aq (l:=xs) (k:=k) (by omega);have q:=aui h j a;obtain⟨b,t,rfl,_,_,r,f⟩:=kL q d;replace d:=ab d;have x:k<xs.length:=by omega
 go_wp2;go_ret;exact⟨s,da d.out,rfl,i,a⟩
def aoN(w:World)(lo hi g:Nat)(l:List Int)(p:Nat)(e:Ending)(w':World):Prop:=∃s q,e=.returned (.string s)/\s.size<=9/\Rd w' lo hi g l q/\q<=p+3/\bq (λb=>b=g) w w'
def aoO(xs:List ByteArray)(s:ByteArray)(v:Value)(w:World)(lo hi:Nat)(h:df w lo hi xs [v])(b:Bool)(f:b=true↔s∈xs) :
  Calls (ah β) 88 #[v,.string s] w λe p=>e=.returned (.bool b)/\w=p:=by
 replace f:=ab f;obtain⟨A,c,rfl⟩:=h.form;obtain⟨_,y,r⟩:=h.len_;unfold maxLen at r;go_enter yx,ntmps88;go_wp2
 go_loop [5] (λi=>∃k:Nat,k<=xs.length/\i=.int .i64 k/\s∉xs.take k) (λi=>xs.length-(intOf i).toNat)
 case atStart=>exact⟨0,fb _,rfl,by simp⟩
 case round=>
  obtain⟨k,u,rfl,g⟩:=hrel;replace g:=ab g;by_cases l:k<xs.length
  .obtain⟨x,a⟩:=aq l;obtain⟨t,q,rfl,_,_,_,n⟩:=kL h a;replace a:=ab a;by_cases j:x=s
   .subst j;have d:=da a.out;have m:=ab d;clear d;go_wp2;go_ret;exact⟨aC (by rw[tX,f.out];exact m.out),rfl⟩
   .have z:=ag9 j;have o:s∉xs.take (k+1):=by
     rw[nF a.out];simp[g.out,sP j]
    replace o:=ab o;clear j;go_wp2
    go_round
    case rel=>exact⟨k+1,by omega,by go_num,o.out⟩
    simp[intOf];omega
  .obtain rfl:k=xs.length:=by omega
   have d:s∉xs:=by have:=g.out;rwa [gn] at this
   have m:=ab d;clear d;go_wp2;go_ret;exact⟨aC (by rw[tX,<-lc,f.out];exact m.out),rfl⟩
end
section
variable {β:Bool}
open Go.RowKit
def atF(l:List Nat)(a:Nat):Nat->Nat->Nat
 |0,_=>min (a+8) l.length
 |f+1,n=>if l.length<=a+n then l.length else if oL l (a+n)=true then a+n else atF l a f (n+1)
def nY(l:List Nat)(a:Nat):Nat:=atF l a 5 3
def aeJ{l:List Nat}{a:Nat}(b:a<l.length):∀(f n:Nat),0<n->n+f<=8->a<atF l a f n/\atF l a f n<=l.length/\atF l a f n<=a+8
 |0,n,_,_=>by show a<min _ _/\min _ _<=_/\min _ _<=_;omega
 |f+1,n,h0,h8=>by
  unfold atF;split
  .omega
  .split
   .omega
   .exact aeJ b f (n+1) (by omega) (by omega)
def dS{l:List Nat}{a:Nat}(b:a<l.length):a<nY l a/\nY l a<=l.length/\nY l a<=a+8:=aeJ b 5 3 (by omega) (by omega)
def cZ(l:List Nat):Nat->List Int->Nat->Prop
 |a,[],b=>a=b
 |a,x::xs,b=>a<l.length/\x=(nY l a:Int)/\cZ l (nY l a) xs b
def cZ.snoc{l:List Nat}:∀{a:Nat} {c:List Int} {b:Nat},cZ l a c b->b<l.length->cZ l a (c++[(nY l b:Int)]) (nY l b)
 |a,[],b,h,h1=>by
  have h:a=b:=h;subst h;exact⟨h1,rfl,rfl⟩
 |a,x::c,b,⟨h2,h3,h4⟩,h1=>⟨h2,h3,h4.snoc h1⟩
def cZ.len{l:List Nat}:∀{a:Nat} {c:List Int} {b:Nat},cZ l a c b->a+c.length<=b
 |a,[],b,h=>by
  have h:a=b:=h;simp;omega
 |a,x::c,b,⟨h1,_,h⟩=>by
  have:=h.len;have:=(dS h1).1;simp only[eg];omega
def cZ.at_{l:List Nat}:∀{a:Nat} {d:List Int} {b k m:Nat} {x:Int},cZ l a d b->cZ l a (d.take k) m->d[k]?=some x->x=(nY l m:Int)/\m<l.length/\cZ l a (d.take (k+1)) (nY l m)
 |a,[],b,k,m,x,_,_,c=>by simp at c
 |a,y::d,b,0,m,x,⟨h1,e,h3⟩,f,c=>by
  have f:a=m:=f;subst f;have c:y=x:=by simpa using c
  subst c;exact⟨e,h1,h1,e,rfl⟩
 |a,y::d,b,k+1,m,x,⟨h1,e,h3⟩,⟨h1',e',f⟩,c=>by
  obtain⟨j,g,i⟩:=cZ.at_ h3 f (by simpa using c);exact⟨j,g,h1,e,i⟩
def cZ.ais{l:List Nat}(f:l.length<=maxLen):∀{a:Nat} {d:List Int} {b:Nat},cZ l a d b->∀x∈d,bF x
 |a,[],b,_,x,c=>by cases c
 |a,y::d,b,⟨h1,e,h⟩,x,c=>by
  have:=(dS h1).2.1;unfold maxLen at f;rcases jp.1 c with rfl|c
  .rw[e];unfold bF;omega
  .exact h.ais f x c
def af7(l:List Nat):Nat->Nat->List Int
 |0,_=>[]
 |f+1,a=>if a<l.length then(nY l a:Int)::af7 l f (nY l a) else[]
def cZ.uniq{l:List Nat}:∀{a:Nat} {b:List Int} {f:Nat},cZ l a b l.length->l.length-a<=f->b=af7 l f a
 |a,[],f,h,_=>by
  have h:a=l.length:=h;cases f with
  |zero=>rfl
  |succ f=>show[]=if _ then _ else _;rw[be (by omega)]
 |a,x::b,f,⟨h1,e,h⟩,hf=>by
  have:=(dS h1).1;cases f with
  |zero=>omega
  |succ f=>
   show x::b=if _ then _ else _
   rw[dk h1,e,<-h.uniq (f:=f) (by omega)]
def ada{l:List Nat}:∀{f a:Nat},a<=l.length->l.length-a<=f->cZ l a (af7 l f a) l.length
 |0,a,h1,h2=>by show a=l.length;omega
 |f+1,a,h1,h2=>by
  show cZ l a (if a<l.length then(nY l a:Int)::af7 l f (nY l a) else[]) l.length;by_cases b:a<l.length
  .rw[dk b];have:=dS b;exact⟨b,rfl,ada (by omega) (by omega)⟩
  .rw[be b];show a=l.length;omega
def bV(s:ByteArray):Nat->List Int->List ByteArray
 |_,[]=>[]
 |a,x::xs=>s.extract a x.toNat::bV s x.toNat xs
def aao{s:ByteArray}{l:List Nat}:∀{a:Nat} {b:List Int} {m q:Nat},cZ l a b m->bV s a (b++[(q:Int)])=bV s a b++[s.extract m q]
 |a,[],m,q,h=>by
  have h:a=m:=h;subst h;rfl
 |a,x::b,m,q,⟨_,e,h⟩=>by
  show s.extract a x.toNat::bV s x.toNat (b++[(q:Int)])=s.extract a x.toNat::(bV s x.toNat b++_);rw[e,sK,aao h]
def nh(s:ByteArray):∀(a:Nat) (b:List Int),(bV s a b).length=b.length
 |_,[]=>rfl
 |a,x::b=>by show(bV s x.toNat b).length+1=_;rw[nh];rfl
def aap(s:ByteArray):∀(c:List Int) (a:Nat),∀x∈bV s a c,x.size<=s.size
 |[],_,x,b=>by cases b
 |z::c,a,x,b=>by
  have b:x∈s.extract a z.toNat::bV s z.toNat c:=b;rcases jp.1 b with rfl|b
  .rw[<-aK,cL,pY,ff,aK];omega
  .exact aap s c _ x b
def gb(s:ByteArray):List ByteArray:=bV s 0 (af7 (bs s) s.size 0)
def ane{xs:List Int}(h:cZ (bs s) 0 xs s.size):bV s 0 xs=gb s:=by
 rw[<-aK] at h;unfold gb;rw[h.uniq (f:=s.size) (by rw[aK];omega)]
def ara{q : Nat}(a:(bs s).all oH=true)(e:m<q)(d:q<=m+8)(f:q<=s.size):bg (bs (s.extract m q)):=by
 have b:(((bs s).take q).drop m).length=q-m:=by rw[pY,ff,aK];omega
 rw[cL];refine⟨⟨by omega,by omega⟩, ?_⟩;rw[jt] at a ⊢;exact λx c=>a x (oS (tF c))
def aeK(s:ByteArray){q : Nat}(a:q<=s.size):(s.extract m q).size=q-m:=by
 rw[<-aK,cL,pY,ff,aK];omega
def oP{s:ByteArray}(g:(bs s).all oH=true):∀{a:Nat} {d:List Int} {b:Nat},cZ (bs s) a d b->∀x∈bV s a d,bg (bs x)
 |a,[],b,_,x,c=>by cases c
 |a,y::d,b,⟨h1,e,h⟩,x,c=>by
  obtain⟨i,f,j⟩:=dS h1;rw[aK] at f;have c:x∈s.extract a y.toNat::bV s y.toNat d:=c;rw[e,sK] at c;rcases jp.1 c with rfl|c
  .exact ara g i j f
  .exact oP g h x c
def aeL(s:ByteArray):cZ (bs s) 0 (af7 (bs s) s.size 0) s.size:=by
 have:=ada (l:=bs s) (f:=s.size) (a:=0) (fb _) (by rw[aK];omega)
 rwa [aK] at this
def kN(a:(bs s).all oH=true):∀x∈gb s,bg (bs x):=oP a (aeL s)
def abK(s:ByteArray):(gb s).length<=s.size:=by
 have:=(aeL s).len;unfold gb;rw[nh];omega
def gY(l:List ByteArray):List Nat:=l.flatMap bs
def abL{s:ByteArray}:∀{a:Nat} {c:List Int} {b:Nat},cZ (bs s) a c b->gY (bV s a c)=((bs s).take b).drop a
 |a,[],b,h=>by
  have h:a=b:=h;subst h;show[]=_;rw[rj (by rw[ff];omega)]
 |a,x::c,b,⟨h1,e,h⟩=>by
  obtain⟨g,i,j⟩:=dS h1;have d:=h.len;show bs (s.extract a x.toNat)++gY (bV s x.toNat c)=_;rw[e,sK,abL h,cL];have f:((bs s).take b).drop a=(((bs s).take b).take (nY (bs s) a)).drop a++((bs s).take b).drop (nY (bs s) a):=by
   conv=>lhs;rw[<-tw (nY (bs s) a) ((bs s).take b)]
   rw[List.drop_append_of_le_length (by rw[ff,ff];omega)]
  rw[f,vJ,qV (show nY (bs s) a<=b by omega)]
def aoP(s:ByteArray):gY (gb s)=bs s:=by
 unfold gb;rw[abL (aeL s),rh,<-aK,gn]
def arb(s:ByteArray)(p:Nat)(B:p<s.size)(D:s.size<=1000000)(w:World) :
  Calls (ah β) 156 #[.string s,.int .i64 p] w λe v=>e=.returned (.int .i64 (nY (bs s) p:Nat))/\Below w.heap.size w v:=by
 have o:s.size<=maxLen:=by unfold maxLen;omega
 go_enter xP,ntmps156;go_wp2;go_loopw [5] (λr wr=>∃k f:Nat,k+f=8/\3<=k/\r=.int .i64 k/\nY (bs s) p=atF (bs s) p f k/\Below w.heap.size w wr) (λr _=>8-(intOf r).toNat)
 case atStart=>exact⟨3,5,rfl,by omega,rfl,rfl,gc _ _⟩
 case round=>
  obtain⟨k,f,y,C,rfl,b,d⟩:=hrel;replace b:=ab b;by_cases A:k<8
  .obtain⟨g,rfl⟩:∃g,f=g+1:=⟨f-1,by omega⟩;have a:atF (bs s) p (g+1) k=if s.size<=p+k then s.size else if oL (bs s) (p+k)=true then p+k else atF (bs s) p g (k+1):=by
    show(if(bs s).length<=p+k then(bs s).length else _)=_;rw[aK]
   have HS:=ab a;clear a;by_cases l:s.size<=p+k
   .have n:=db (show(s.size:Int)<=(p:Int)+(k:Int) by omega);go_wp2;go_ret;exact⟨by rw[b.out,HS.out,dk l];rfl,d⟩
   .have n:=bv (show ¬((s.size:Int)<=(p:Int)+(k:Int)) by omega);rw[be l] at HS;obtain⟨i,u⟩:∃m,m=p+k:=⟨_,rfl⟩;have x:(p:Int)+(k:Int)=((i:Nat):Int):=by omega
    have q:3<=i/\i<s.size:=by omega
    rw[x] at n;rw[<-u] at HS;clear u;go_wp2;refine(akO s i q o wr).mono ?_;rintro e z ⟨rfl,t⟩;cases j:oL (bs s) i with
    |true=>
     have c:=ab (b.out.trans (HS.out.trans (dk j)));clear j;go_wp2;go_ret;exact⟨by rw[c.out];rfl,ae d t⟩
    |false=>
     have c:=ab (b.out.trans (HS.out.trans (be (by rw[j];exact qk))));clear j;go_wp2;go_roundw
     case rel=>exact⟨k+1,g,by omega,by omega,by go_num,c.out,ae d t⟩
     simp[intOf];omega
  .obtain rfl:k=8:=by omega
   obtain rfl:f=0:=by omega
   have a:atF (bs s) p 0 8=min (p+8) s.size:=by
    show min (p+8) (bs s).length=_;rw[aK]
   have c:=ab (b.out.trans a);clear a b;by_cases l:p+8<=s.size
   .have n:=db (show(p:Int)+8<=(s.size:Int) by omega);rw[qV l] at c;go_wp2;go_ret;exact⟨by rw[c.out];simp,d⟩
   .have n:=bv (show ¬((p:Int)+8<=(s.size:Int)) by omega);rw[Nat.min_eq_right (by omega)] at c;go_wp2;go_ret;exact⟨by rw[c.out];simp,d⟩
def ard(s:ByteArray)(w:World)(e:Ending)(w':World):Prop:=∃v a,e=.returned v/\aF gM 3 w' w.heap.size v a/\cZ (bs s) 0 a s.size/\Below w.heap.size w w'
def ak2(s:ByteArray)(L:s.size<=100000)(w:World) :
  Calls (ah β) 133 #[.string s] w (ard s w):=by
 go_enter xW,ntmps133;go_wp2;have m:=aA w (.cells #[] 3);have j:aF gM 3 (w.alloc (.cells #[] 3)) w.heap.size (.slice (some ⟨w.heap.size,0,none⟩) 0 0) []:=(et.new w 3 (am _)).own 1;generalize w.alloc (.cells #[] 3)=w0 at *;go_loopw [3,4] (λB x wr=>∃(k:Nat) (g:List Int),k<=s.size/\x=.int .i64 k/\aF gM 3 wr w.heap.size B g/\cZ (bs s) 0 g k/\Below w.heap.size w wr) (λ_ x _=>s.size-(intOf x).toNat)
 case atStart=>exact⟨0,[],fb _,rfl,j,rfl,m⟩
 case round=>
  clear j m;obtain⟨k,g,G,rfl,p,o,r⟩:=hrel;obtain⟨A,c,rfl⟩:=p.form;by_cases d:k<s.size
  .go_wp2;refine(arb s k d (by omega) wr).mono ?_;rintro e E ⟨rfl,y⟩;have b:=dS (l:=bs s) (a:=k) (by rw[aK];exact d);rw[aK] at b;have J:=o.len;have n:=p.below y;have f:=ae r y;have HC:=ab (o.snoc (by rw[aK];exact d));revert HC b;generalize nY (bs s) k=q;intro b HC;clear p r o;go_wp2_with(at_builtin;refine bU (F:=gM) (v:=.slice A g.length c) rfl (.tmp 13) (.tmp 15) 40 rfl oI (q:Int) rfl n rfl rfl (by omega) f.size ?_;intro K H t u z;obtain⟨D,I,rfl⟩:=t.form;simp only[ap,eg,lw,mc] at t);go_roundw
   case rel=>exact⟨q,g++[(q:Int)],b.2.1,rfl,by simpa using t,HC.out,f.trans (u.below f.size λi M C=>by have:=(n.at_ C).1;omega)⟩
   simp[intOf];omega
  .obtain rfl:k=s.size:=by omega
   go_wp2;go_ret;exact⟨_,g,rfl,p,o,r⟩
def ak3(s:ByteArray)(w:World)(e:Ending)(w':World):Prop:=∃v,e=.returned v/\aF iF 9 w' w.heap.size v (gb s)/\Below w.heap.size w w'
def af8(s:ByteArray)(B:s.size<=100000)(w:World) :
  Calls (ah β) 85 #[.string s] w (ak3 s w):=by
 go_enter yA,ntmps85;go_wp2;have J:=aA w (.cells #[] 9);have C:aF iF 9 (w.alloc (.cells #[] 9)) w.heap.size (.slice (some ⟨w.heap.size,0,none⟩) 0 0) []:=(et.new w 9 (am _)).own 1;generalize w.alloc (.cells #[] 9)=w0 at *;refine(ak2 s B w0).mono ?_;rintro e w1 ⟨ve,f,rfl,W,a,G⟩;obtain⟨Ae,ce,rfl⟩:=W.form;have j:=C.below G;have l:=ae J G;have z1:=G.size;have a0:=a.len;have H:=W.deep (a.ais (by rw[aK];unfold maxLen;omega)) w0.heap.size;have D:=H.sl (am _);replace a:=ab a;replace j:=ab j;have O:=ab D;replace l:=ab l;clear C J G H D W;go_wp2;go_loopw [3,4,6] (λoo aa Z wr=>∃(k m:Nat),k<=f.length/\m<=s.size/\Z=.int .i64 k/\aa=.int .i64 m/\cZ (bs s) 0 (f.take k) m/\aF iF 9 wr w.heap.size oo (bV s 0 (f.take k))/\Below w.heap.size w wr/\eL 3 (bY gM) 1 wr w0.heap.size w1.heap.size f [.slice Ae f.length ce]) (λ_ _ Z _=>f.length-(intOf Z).toNat)
 case atStart=>exact⟨0,0,fb _,fb _,rfl,rfl,rfl,j.out,l.out,O.out⟩
 case round=>
  clear j l O;obtain⟨k,m,hk,lh,rfl,rfl,U,g,L,P⟩:=hrel;by_cases V:k<f.length
  .obtain⟨y,z⟩:=aq V;obtain⟨rfl,K,M⟩:=a.out.at_ U z;obtain⟨h1,E,h2⟩:=dS K;rw[aK] at E;have N:bV s 0 (f.take (k+1))=bV s 0 (f.take k)++[s.extract m (nY (bs s) m)]:=by rw[nF z,aao U]
   have u:(bV s 0 (f.take k)).length=k:=by rw[nh,ff,qV hk]
   have n:∀x∈bV s 0 (f.take k),x.size<=maxLen:=λx p=>by
    have:=aap s _ _ x p;unfold maxLen;omega
   revert N;revert M;revert E;revert h2;revert h1;revert z;generalize nY (bs s) m=q;generalize bV s 0 (f.take k)=xs at g u n ⊢;intro z h1 h2 E M N;obtain⟨A,c,rfl⟩:=g.form;obtain⟨b',X,cs,e0,a8,a6,_,⟨rfl,a3⟩,I⟩:=P.1.at_ z;subst e0;obtain⟨a4,T⟩:=P.2 (by omega) _ _ _ _ rfl;have R:wr.cell? ⟨b',X+k,none⟩=some (.int .i64 (q:Int)):=by simpa using I 0 _ rfl
   have HN:=ab N;have H4:=ab M;have O:=ab P;have HG:=ab n;have a7:(s.extract m q).size<=maxLen:=by rw[aeK s E];unfold maxLen;omega
   have a2:=ab u;have a1:xs.length<=100000:=by omega
   clear I N M P U z u K n;have o:∀B:(Value.slice A xs.length c).ownBlock=some b',False:=λB=>by
    obtain⟨ds,hd⟩:=(aF.deep g (λx p=>HG.out x p) 0).blk B;exact absurd (eA T hd) (by decide)
   replace o:=ab o;have g1:¬((m:Int)<0):=by omega
   have g2:(m:Int)<=(q:Int):=by omega
   have g3:(q:Int)<=(s.size:Int):=by omega
   go_wp2_with(at_builtin;refine bU (F:=iF) (v:=.slice A xs.length c) rfl (.tmp 16) (.tmp 24) 92 rfl abJ (s.extract m q) rfl g rfl rfl (by omega) L.size ?_;intro va wa Y r a5;obtain⟨Aa,ca,rfl⟩:=Y.form;simp only[ap,eg,lw,mc] at Y;have a9:=iC R r o.out);go_roundw
   case rel=>
    refine⟨k+1,q,by omega,E,by go_num,rfl,H4.out,by rw[HN.out];simpa using Y,L.trans (r.below L.size λi hi p=>by have:=(g.at_ p).1;omega), ?_⟩;exact(eL.aw (bY.aw gM)).go (λb G b2 ht=>r.block b (by obtain⟨t,_,d,hd⟩:=ht;exact hd.lt) λB=>by
      obtain⟨ds,hd⟩:=(aF.deep g (λx p=>HG.out x p) 0).blk B;obtain⟨t,S,d2,Q⟩:=ht;have e1:=eA hd Q;rw[jn.1 S] at e1;exact absurd e1 (by decide)) (am _) (am _) O.out
   case measure=>simp[intOf];omega
  .obtain rfl:k=f.length:=by omega
   rw[gn,ane a.out] at g;obtain⟨A,c,rfl⟩:=g.form;go_wp2;go_ret;exact⟨_,rfl,g,L⟩
end
end Go.Proofs.YtmicddpknimniaaGreatDoor