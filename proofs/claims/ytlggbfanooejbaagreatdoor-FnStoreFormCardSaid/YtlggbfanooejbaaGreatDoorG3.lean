/- A part. -/
import Derived.Test.YtlggbfanooejbaaGreatDoorG2
import Derived.StillTail
import Derived.Deep.RegionHeld3
import Derived.Deep.RegionLaw
import Derived.Laws.OwnMore
import Derived.Laws.Cover1
set_option maxRecDepth 100000
set_option maxHeartbeats 8000000
set_option linter.all false
open Go Go.RowKit Go.Proofs.Tryz Go.Proofs.YtlggbfanooejbaaGreatDoor
variable {Z N b base' c g hi i j k lo m n:Nat} {Y a:Act} {key:Int} {X:Type} {o:Oper} {p:Addr} {u v:Value} {w w' w2 x:World} {e t:TypeId} {f:FuncId} {P:Program} {S:Nat→Prop} {l:List Int} {O rest:List Oper} {s:ByteArray} {W:Array Oper} {R:List Value} {d:Option Tmp} {listed:Array Bool} {U cs es:Array Value} {A:Option Addr} {V:Act→World→Prop} {xs:List ByteArray} {T Q:Exit→Act→World→Prop} {E:gR X}
namespace Go.Proofs.YtlggbfanooejbaaGreatDoor
def fm:=@Go.RowKit.Below.refl
def ga:=@List.take_length
def ge:=@List.mem_singleton
def gE:=@Go.wpQuiet_nil
def li:=@List.getElem?_eq_some_iff
def lP:=@List.length_nil
def mw:=@Go.World.size_alloc
def mx:=@List.getD_cons_zero
def mT:=@List.getD_cons_succ
def ph:=@List.mem_flatMap
def pi:=@List.length_drop
def qd:=@Go.Addr.mk.injEq
def qm:=@List.pairwise_iff_getElem
def qu:=@Int.eq_ofNat_of_zero_le
def qC:=@List.flatMap_append
def qJ:=@decide_eq_true_eq
def qP:=@List.length_set
def qY:=@List.nodup_append
def qZ:=@List.take_append_drop
def rh:=@Nat.min_eq_left
def rq:=@List.getElem?_of_mem
def rz:=@List.drop_eq_getElem_cons
def rB:=@UInt8.lt_iff_toNat_lt
def rE:=@Nat.succ_mul
def rI:=@List.pairwise_append
def rJ:=@List.mem_append_left
def rM:=@List.pairwise_singleton
def rS:=@List.mem_append_right
def rT:=@List.mem_of_mem_drop
def rX:=@Nat.le_of_succ_le
def se:=@Nat.add_sub_cancel_left
def sA:=@Nat.zero_mul
def sB:=@List.pairwise_cons
def sI:=@Nat.not_lt_zero
def sJ:=@List.mem_filter
def sM:=@List.append_nil
def sQ:=@List.getD_eq_getElem?_getD
def sR:=@of_decide_eq_true
def sS:=@List.foldl_append
def sT:=@Int.toNat_natCast
def ta:=@List.getElem?_take_of_lt
def tc:=@Go.IntKind.wrap_i64
def tp:=@List.nodup_cons
def tq:=@List.getElem?_drop
def tK:=@Go.getD_replicate_false
def ua:=@Nat.mod_lt
def uc:=@Bool.false_and
def ud:=@Go.World.block_lt_of_cell?
def uf:=@List.filter_cons_of_pos
def ug:=@List.filter_cons_of_neg
def ui:=@Nat.lt_trichotomy
def ur:=@Bool.true_and
def uP:=@List.take_succ_cons
def uT:=@Int.emod_lt_of_pos
def uV:=@Nat.mod_two_eq_zero_or_one
def vd:=@Go.World.ownsRow_nil
def vg:=@List.flatMap_cons
def vI:=@Int.emod_nonneg
def vP:=@List.take_take
def vQ:=@List.set_append_right
section
variable {β:Bool}
def aia:Op->Bool
 |.move .. | .assign .. | .pick .. | .load .. | .binOp .. | .unOp .. | .convert .. | .slice .. | .fieldAddr .. | .field .. | .indexAddr .. | .index .. | .lookup .. | .extract .. | .build .. | .typeAssert .. | .makeInterface .. | .makeFunc .. | .nilCheck .. =>true
 |.call c=>match c.callee with
  |.builtin .len=>true
  |_=>false
 |_=>false
def aib(h:aia o.op=true){ρ:Operand->Value}{args:Array Value}:(execOp ρ o).run P w ≠ .ok (.enter f args) w':=by
 obtain⟨dst,op,j,k,after,g⟩:=o;cases op<;>simp only[aia,jp] at h
 case nilCheck x=>
  simp only[execOp];intro a;split at a
  .simp[runtimePanic] at a
  .simp[runtimePanic] at a
  .simp[runtimePanic] at a
  .split at a
   .simp[runtimePanic] at a
   .revert a;simp only[tG];generalize (Sem.run P program w:Result _)=r;cases r with
    |halt x i=>simp[Result.andThen]
    |ok p i=>
     simp only[Result.andThen];generalize (Sem.run P (nilAhead _ _ _ _) i:Result _)=r2;cases r2 with
     |halt x l=>simp
     |ok b l=>
      simp only;split
      .simp[unsupported]
      .simp
   .simp at a
  .simp at a
 case call c=>
  obtain⟨d,args,e⟩:=c;cases d with
  |value x=>cases h
  |invoke x n=>cases h
  |builtin b=>
   cases b<;>first
    |(exfalso;cases h;done)
    |(simp only[execOp,resolve,invoke,builtin,tG,tT,uh]
      intro a;revert a;generalize (Sem.run P (Builtin.len_ _ _ _) w:Result _)=r;cases r<;>simp[Result.andThen])
 all_goals simp only[execOp,tG,tT]
 all_goals intro a
 all_goals
  first
   |(cases a;done)
   |(revert a;generalize (Sem.run P _ w:Result _)=r;cases r<;>simp[Result.andThen];done)
   |(revert a;generalize (Sem.run P _ w:Result _)=r;cases r<;>simp[Result.andThen];generalize (Sem.run P _ _:Result _)=r;cases r<;>simp;done)
def lv(o:Oper)(i:Nat):Bool:=o.after.any λe=>Region.binds .any e&&e.on ==i
def ajv(h:lv o i=true):∃e∈o.after,Region.binds .any e=true/\e.on=i:=by
 obtain⟨e,a,h⟩:=Array.any_eq_true'.1 h;simp only[fk,mt] at h;exact⟨e,a,h.1,h.2⟩
def arH(i:a.tmps.size=Y.tmps.size)(h:Y.put d u=Y.put d v):a.put d u=a.put d v:=by
 cases d with
 |none=>rfl
 |some t=>
  rcases pm t a.tmps.size with e|g
  .have f:=gn (λb:Act=>b.tmps[t]?) h;have c:t<Y.tmps.size:=i▸e;simp[Act.put,c] at f;rw[f]
  .simp[Act.put,Array.setIfInBounds,Nat.not_lt.2 g]
section
variable {P:Program} {ops:Array Oper}
def apu  (hi:ops[i]?=some o)  {G:Value->World->Prop}  
  (y:a.tmps.size=Y.tmps.size) (z:execOp a.eval o=execOp Y.eval o) (t:Region.wanted o (yielded ops a.tmps)=Region.wanted o (yielded ops Y.tmps))
  (h:wpList P ops (λe b w=>e=.normal/\∃v,b=Y.put o.dst v/\G v w) [o] Y w)
  (s:∀v w,G v w->V (a.put o.dst v) w):wpOp P ops Q i V a w:=by
 have g:∀{u:Value} {k:World},(∃v,Y.put o.dst u=Y.put o.dst v/\G v k)->V (a.put o.dst u) k:=by
  rintro u k ⟨v,p,q⟩;rw[arH y p];exact s _ _ q
 unfold wpOp;simp only[hi];unfold wpList at h;rw[<-t] at h;split
 .rename_i j;rw[dj j] at h;rcases h with h|⟨_,b,k,m,_⟩
  .refine .inl ?_;unfold Oper.wp at *;rw[<-z] at h;generalize (execOp a.eval o).run P w=r at *;cases r with
   |ok A k=>
    cases A<;>simp only[Oper.upon,wpList] at h ⊢
    case value u=>exact g h.2
    case skip=>exact g h.2
    case defer d=>
     obtain⟨_,v,p,_⟩:=h;have:=gn (λb:Act=>b.defers.length) p;cases hd:o.dst<;>simp[Act.put,hd] at this
    case enter f args=>
     refine h.mono λe n l=> ?_;cases e with
     |returned u=>exact g l.2
     |panicked c=>cases l.1
     |outgrown=>
      obtain⟨b,B,m,_⟩:=l;cases m
    case row row args=>exact Rows.mono h λu n l=>g l.2
   |halt x k=>
    cases x<;>simp only[Oper.upon] at h ⊢
    case panic u=>cases h.1
  .cases m
 .rename_i j;rw[bv j] at h;exact g h.2
def ajw(ops:Array Oper)(n:Nat):Bool:=
 (n ==ops.size||(decide (n<ops.size)&&Region.sinkB .any ops n&&Region.chainB .any ops n))&&Region.seqB .any ops (ops.size-n) n ((Array.replicate n true)++Array.replicate (ops.size-n) false)
def an1(ops:Array Oper)(n:Nat):Bool:=
 (List.range n).all λi=>match ops[i]? with
  |some o=>o.after.all λe=>!Region.binds .any e||decide (e.on<i)
  |none=>false
def apv(h:an1 ops n=true)(hi:i<n)(b:ops[i]?=some o){e:Edge}(c:e∈o.after)(f:Region.binds .any e=true):e.on<i:=by
 have a:=lc.1 h i (qn.2 hi);simp only[b] at a;have d:=Array.all_eq_true_iff_forall_mem.1 a e c;simpa[f] using d
def left(n:Nat)(listed:Array Bool):Nat:=((List.range n).filter λi=>listed.getD i true ==false).length
def ajx[DecidableEq X]{l:List X}(d:l.Nodup){p q:X->Bool}{i:X}(hi:i∈l)(k:p i=true)(m:q i=false)(f:∀j,j≠i->p j=q j):(l.filter p).length=(l.filter q).length+1:=by
 induction l with
 |nil=>cases hi
 |cons a t n=>
  rw[tp] at d;by_cases c:a=i
  .subst c;rw[uf k,ug (by simp[m])];have:t.filter p=t.filter q:=List.filter_congr λj o=>f j λe=>d.1 (e▸o);simp[this]
  .have g:i∈t:=by
    rcases me.1 hi with h|h
    .exact absurd h.symm c
    .exact h
   have:=n d.2 g;by_cases b:p a=true
   .rw[uf b,uf (by rw[<-f a c];exact b)];simp[this]
   .rw[ug b,ug (by rw[<-f a c];exact b)];exact this
def arI(hi:i<n)(h:listed.getD i true=false):left n listed=left n (listed.setIfInBounds i true)+1:=by
 have c:i<listed.size:=by
  rcases pm i listed.size with a|a
  .exact a
  .simp[qg a] at h
 refine ajx List.nodup_range (qn.2 hi) (by rw[h];rfl) (by simp[c]) λj b=> ?_;rw[getD_set_ne true (sj b)]
def apw(h:0<left n listed):∃i,i<n/\listed.getD i true=false/\∀j,j<i->listed.getD j true=true:=by
 unfold left at h;have f:∃i,i<n/\listed.getD i true=false:=by
  obtain⟨i,b⟩:=List.exists_mem_of_length_pos h;rw[sJ,qn] at b;exact⟨i,b.1,by simpa using b.2⟩
 obtain⟨i,b⟩:=f;clear h
 induction i using Nat.strongRecOn with
 |_ i k=>
  by_cases a:∀j,j<i->listed.getD j true=true
  .exact⟨i,b.1,b.2,a⟩
  .have g:∃j,j<i/\listed.getD j true=false:=by
    apply qF;intro c;exact a λj d=>by
     cases e:listed.getD j true with
     |true=>rfl
     |false=>exact absurd ⟨j,d,e⟩ c
   obtain⟨j,d,e⟩:=g;exact k j d ⟨by omega,e⟩
def apx(h:left n listed=0)(hi:i<n):listed.getD i true=true:=by
 unfold left at h;have a:=sd h;rw[List.filter_eq_nil_iff] at a;have:=a i (qn.2 hi);cases b:listed.getD i true with
 |true=>rfl
 |false=>rw[b] at this;simp at this
def agY(a:i<listed.size)(h:listed.getD i true=true):listed.getD i false=true:=by
 simp[a] at h ⊢;exact h
inductive Behind (ops:Array Oper):Nat->Nat->Prop where
 |arJ {i:Nat} {o:Oper} {e:Edge}:ops[i]?=some o->e∈o.after->Region.binds .any e=true->Behind ops i e.on
 |next {i j:Nat} {o:Oper} {e:Edge}:ops[i]?=some o->e∈o.after->Region.binds .any e=true->Behind ops e.on j->Behind ops i j
def aic(ops:Array Oper):Nat->Nat->Nat->Bool
 |0,_,_=>false
 |f+1,i,j=>match ops[i]? with
  |some o=>o.after.any λe=>Region.binds .any e&&(e.on ==j||aic ops f e.on j)
  |none=>false
def aae{ops:Array Oper}:∀(f i j:Nat),aic ops f i j=true->Behind ops i j
 |0,_,_,h=>by cases h
 |f+1,i,j,h=>by
  unfold aic at h;split at h
  .rename_i o b;obtain⟨e,c,h⟩:=Array.any_eq_true'.1 h;simp only[fk,qQ,mt] at h;rcases h.2 with a|a
   .rw[<-a];exact .arJ b c h.1
   .exact .next b c h.1 (aae f _ _ a)
  .cases h
def agl{ops:Array Oper}(c:HeadInv .any ops n listed)(h:Behind ops i j):(∀o,ops[i]?=some o->∀e∈o.after,Region.binds .any e=true->listed.getD e.on false=true)->listed.getD j false=true:=by
 induction h with
 |arJ a g d=>exact λb=>b _ a _ g d
 |next a g d _ p=>exact λb=>p λm l q k f=>c.closed _ m l (b _ a _ g d) q k f
class bh (X:Type) where
 live:Nat->X->Prop
 down:∀m x,live (m+1) x->live m x
 pend:Nat->X->Prop
def auQ(n:Nat)(listed:Array Bool):left n listed<=n:=by
 unfold left;exact db (List.length_filter_le _ _) (by simp)
variable {X:Type} [bh X] {to:X->World} {le:X->X->Prop} {Q:Exit->Act->World->Prop}
def arK (hn:n<=ops.size) (t:ajw ops n=true) (M:an1 ops n=true) (A:Act->Prop) (Φ:Nat->Act->X->Prop)
  (z:∀m i o,i<n->ops[i]?=some o->∀a x,A a->bh.live (m+1) x->bh.pend i x->(∀j,j<n->lv o j=true->Φ j a x)->∀K:Act->World->Prop,
   (∀v y,le x y->bh.live m y->(∀j,j≠i->¬Behind ops i j->bh.pend j x->bh.pend j y)->A (a.put o.dst v)->Φ i (a.put o.dst v) y->K (a.put o.dst v) (to y))->wpOp P ops Q i K a (to x))
  (I:∀i j o a x y v,i<n->j<n->i≠j->ops[j]?=some o->A a->Φ i a x->le x y->Φ i (a.put o.dst v) y)
  (J:∀a x,A a->(∀i,i<n->Φ i a x)->wpList P ops Q (ops.toList.drop n) a (to x)) :
  ∀(f:Nat) (listed:Array Bool) (a:Act) (x:X),left n listed=f->HeadInv .any ops n listed->A a->bh.live f x->(∀i,i<n->listed.getD i false=false->bh.pend i x)->(∀i,i<n->listed.getD i false=true->Φ i a x)->
   wpAny P .any ops Q (f+(ops.size-n)) listed a (to x):=by
 intro f
 induction f with
 |zero=>
  intro listed a x hf inv H G r l;have b:∀i,i<n->listed.getD i true=true:=λi k=>apx hf k;have hL:listed=(Array.replicate n true)++Array.replicate (ops.size-n) false:=by
   apply Array.ext
   .rw[inv.size];simp;omega
   .intro i p h2;rcases pm i n with q|q
    .rw[Array.getElem_append_left (by simpa using q)];have:=b i q;simp[p] at this;simp[this]
    .rw[Array.getElem_append_right (by simpa using q)];have:=inv.tail i q (by rw[<-inv.size];exact p);simp[p] at this;simp[this]
  unfold ajw at t;rw[fk] at t;have g:(ops.toList.drop n).length=ops.size-n:=by simp
  rw[lm,<-g,hL];refine wpAny_of_seq _ n _ a (to x) (λj=>by rw[tq,eg]) (by rw[g];exact t.2) (J a x H λi k=>l i k ?_);exact agY (by rw[inv.size];omega) (b i k)
 |succ f ih=>
  intro listed a x hf inv H G r l;obtain⟨u,S,E,N⟩:=apw (n:=n) (listed:=listed) (by omega);rw[show f+1+(ops.size-n)=(f+(ops.size-n))+1 by omega];have V:∀i∈Region.ready .any ops listed,i<n:=by
   intro i k;unfold ajw at t;simp only[fk,qQ,mt,qJ] at t;rcases t.1 with h|⟨⟨p,h2⟩,q⟩
   .obtain⟨_,o,D,_⟩:=mem_ready.1 k;rw[h];exact(dq.1 D).1
   .rcases pm i n with h|h
    .exact h
    .exact absurd k (tail_waits h2 q p inv _ u rfl S E i h)
  refine⟨λh0=> ?_,λi k=> ?_⟩
  .exfalso;have C:u<ops.size:=bd S hn;have:u∈Region.ready .any ops listed:=mem_ready.2 ⟨E,ops[u],gt C,λe F B=>by
    have p:=apv M S (gt C) F B;exact agY (by rw[inv.size];omega) (N _ p)⟩
   rw[h0] at this;cases this
  .have d:=V i k;obtain⟨s,o,D,b⟩:=mem_ready.1 k;have W:listed.getD i false=false:=by
    have U:i<listed.size:=by rw[inv.size];omega
    simp[U] at s ⊢;exact s
   refine z f i o d D a x H G (r i d W) (λj w hw=> ?_) _ λv y Z R L T Y=> ?_
   .obtain⟨e,F,B,rfl⟩:=ajv hw;exact l _ w (b e F B)
   .refine ih _ _ y ?_ (inv.set k d) T R (λj w g=> ?_) λj w g=> ?_
    .have:=arI d s;omega
    .have c:j≠i:=by
      rintro rfl;have U:j<listed.size:=by rw[inv.size];omega
      simp[U] at g
     rw[getD_set_ne false (sj c)] at g;refine L j c (λO=> ?_) (r j w g);have:=agl inv O λo' oT e F B=>(by
      obtain rfl:o=o':=ef (D.symm.trans oT);exact b e F B)
     rw[this] at g;cases g
    .by_cases c:j=i
     .subst c;exact Y
     .rw[getD_set_ne false (sj c)] at g;exact I j i o a x y v w d c D H (l j w g) Z
inductive iR (X:Type) where
 |fix (v:Value)
 |any (R:Value->X->Prop)
def iR.keep(le:X->X->Prop):iR X->Prop
 |.fix _=>True
 |.any R=>∀v x y,R v x->le x y->R v y
def iR.holds(r:iR X)(v:Value)(x:X):Prop:=
 match r with
 |.fix a=>v=a
 |.any R=>R v x
def Good(P:Program)(ops:Array Oper)(to:X->World)(le:X->X->Prop)(i:Nat)(o:Oper)(a:Act)(x:X)(r:iR X):Prop:=
 ∀m,bh.live (m+1) x->bh.pend i x->∀b:Exit->Act->World->Prop,(∀v y,le x y->bh.live m y->(∀j,j≠i->¬Behind ops i j->bh.pend j x->bh.pend j y)->r.holds v y->b .normal (a.put o.dst v) (to y))->wpList P ops b [o] a (to x)
def pH(ops:Array Oper)(n:Nat)(t:Tmp)(j:Nat):Prop:=j<n/\∃o,ops[j]?=some o/\o.dst=some t
def afh(ops:Array Oper)(n N:Nat):Bool:=
 (List.range n).all λi=>match ops[i]? with
  |some o=>match o.dst with
   |some d=>decide (d<N)&&(List.range i).all λj=>((ops[j]?).bind (·.dst)) !=some d
   |none=>true
  |none=>true
def alM(h:afh ops n N=true){t:Tmp}(d:pH ops n t j):t<N:=by
 obtain⟨a,o,c,hd⟩:=d;have b:=lc.1 h j (qn.2 a);simp only[c,hd,fk,qJ] at b;exact b.1
def ajy(h:afh ops n N=true){t:Tmp}(hi:pH ops n t i)(l:pH ops n t j)(b:j<i):False:=by
 obtain⟨c,o,k,hd⟩:=hi;obtain⟨g,p,f,a⟩:=l;have e:=lc.1 h i (qn.2 c);simp only[k,hd,fk] at e;have d:=lc.1 e.2 j (qn.2 b);rw[f] at d;simp[a] at d
def aid(h:afh ops n N=true){t:Tmp}(hi:pH ops n t i)(b:pH ops n t j):i=j:=by
 rcases ui i j with a|a|a
 .exact(ajy h b hi a).elim
 .exact a
 .exact(ajy h hi b a).elim
def an2(ops:Array Oper)(n:Nat)(t:Tmp):(∃j,pH ops n t j)\/∀j,¬pH ops n t j:=by
 by_cases h:∃j,pH ops n t j
 .exact .inl h
 .exact .inr λj a=>h ⟨j,a⟩
def wH(a:Act)(o:Oper):Value:=match o.dst with
 |some d=>a.tmps.getD d undef
 |none=>undef
structure aie (ops:Array Oper) (n:Nat) (a0 a:Act):Prop where
 size:a.tmps.size=a0.tmps.size
 off:∀t,(∀j,¬pH ops n t j)->a.tmps[t]?=a0.tmps[t]?
 rest:{a with tmps:=a0.tmps}=a0
def aie.refl(ops:Array Oper)(n:Nat)(a:Act):aie ops n a a:=⟨rfl,λ_ _=>rfl,rfl⟩
def nN{t:Tmp}(h:d≠some t):(a.put d v).tmps[t]?=a.tmps[t]?:=by
 cases d with
 |none=>rfl
 |some e=>
  have:e≠t:=λb=>h (by rw[b]);simp[Act.put,jn this]
def an3{t:Tmp}(h:t<a.tmps.size):(a.put (some t) v).tmps[t]?=some v:=by
 simp[Act.put,h]
def ab6(a:Act)(d:Option Tmp)(v:Value):(a.put d v).tmps.size=a.tmps.size:=by
 cases d<;>simp[Act.put]
def aie.put(h:aie ops n Y a)(d:j<n)(c:ops[j]?=some o):aie ops n Y (a.put o.dst v):=by
 refine⟨by rw[ab6,h.size],λt b=> ?_, ?_⟩
 .rw[nN (λhd=>b j ⟨d,o,c,hd⟩)];exact h.off t b
 .rw[<-h.rest];cases hd:o.dst<;>simp[Act.put]
def fX(U:Nat->Value)(a:Act)(L:List (Nat×Oper)):Act:=L.foldl (λb p=>b.put p.2.dst (U p.1)) a
def ac0(U:Nat->Value):∀(L:List (Nat×Oper)) (a:Act),(fX U a L).tmps.size=a.tmps.size
 |[],_=>rfl
 |p::L,a=>by
  show(fX U (a.put p.2.dst (U p.1)) L).tmps.size=_;rw[ac0 U L,ab6]
def nO(U:Nat->Value){t:Tmp}:∀(L:List (Nat×Oper)) (a:Act),(∀p∈L,p.2.dst≠some t)->(fX U a L).tmps[t]?=a.tmps[t]?
 |[],_,_=>rfl
 |p::L,a,h=>by
  show(fX U (a.put p.2.dst (U p.1)) L).tmps[t]?=_;rw[nO U L _ λq b=>h q (by simp[b]),nN (h p (by simp))]
def ab7(U:Nat->Value){t:Tmp}{i:Nat}{o:Oper}:∀(L:List (Nat×Oper)) (a:Act),(i,o)∈L->o.dst=some t->t<a.tmps.size->(∀p∈L,p.2.dst=some t->p.1=i)->(fX U a L).tmps[t]?=some (U i)
 |[],_,h,_,_,_=>by cases h
 |p::L,a,h,hd,hs,ao8=>by
  show(fX U (a.put p.2.dst (U p.1)) L).tmps[t]?=_;by_cases d:(i,o)∈L
  .exact ab7 U L _ d hd (by rw[ab6];exact hs) λq c=>ao8 q (by simp[c])
  .rcases me.1 h with rfl|h
   .by_cases f:∃q∈L,q.2.dst=some t
    .obtain⟨q,c,b⟩:=f;have e:=ao8 q (by simp[c]) b;have:=ab7 U (i:=q.1) (o:=q.2) L (a.put o.dst (U i)) c b (by rw[ab6];exact hs) λr j g=>by rw[ao8 r (by simp[j]) g,e]
     rw[this,e]
    .rw[nO U L _ λq c b=>f ⟨q,c,b⟩,hd];exact an3 hs
   .exact absurd h d
def ac1(U:Nat->Value):∀(L:List (Nat×Oper)) (a:Act),{fX U a L with tmps:=a.tmps}=a
 |[],_=>rfl
 |p::L,a=>by
  show{fX U (a.put p.2.dst (U p.1)) L with tmps:=a.tmps}=_;have h:=ac1 U L (a.put p.2.dst (U p.1));have d:{a.put p.2.dst (U p.1) with tmps:=a.tmps}=a:=by cases hd:p.2.dst<;>simp[Act.put]
  have c:=gn (λb:Act=>{b with tmps:=a.tmps}) h;simp only at c;rw[d] at c;exact c
def auR{b : Act}(h:{a with tmps:=b.tmps}=b)(f:a.tmps.size=b.tmps.size)(e:∀t:Nat,a.tmps[t]?=b.tmps[t]?):a=b:=by
 have c:a.tmps=b.tmps:=Array.ext f λi c d=>by
  have:=e i;simpa[c,d] using this
 rw[<-h,<-c]
def apy(c:∀l b,o.op ≠ .select l b){b : Act}(h:∀t∈o.looksAt ops,a.tmps[t]?=b.tmps[t]?) :
  execOp a.eval o=execOp b.eval o/\Region.wanted o (yielded ops a.tmps)=Region.wanted o (yielded ops b.tmps):=by
 constructor
 .refine execOp_congr o c λx k=> ?_;cases x with
  |tmp t=>
   have:=h t (rJ _ (List.mem_filterMap.2 ⟨.tmp t,by simpa using k,rfl⟩));simp[Act.eval,this]
  |_=>rfl
 .unfold Region.wanted;cases j:o.guard with
  |none=>rfl
  |some i=>
   obtain⟨g,d⟩:=i;have e:yielded ops a.tmps g=yielded ops b.tmps g:=by
    unfold yielded;cases f:(ops[g]?).bind (·.dst) with
    |none=>rfl
    |some t=>
     have:=h t (rS _ (by simp[j,f]));simp[this]
   simp only[e]
def alN(ops:Array Oper)(n:Nat):Bool:=
 (List.range n).all λi=>match ops[i]? with
  |some o=>(o.looksAt ops).all λt=>(List.range n).all λj=>((ops[j]?).bind (·.dst)) !=some t||lv o j
  |none=>true
def afi(h:alN ops n=true)(hi:i<n)(e:ops[i]?=some o){t:Tmp}(k:t∈o.looksAt ops)(f:pH ops n t j):lv o j=true:=by
 obtain⟨a,p,d,hd⟩:=f;have b:=lc.1 h i (qn.2 hi);simp only[e] at b;have g:=lc.1 b t k;have c:=lc.1 g j (qn.2 a);rw[d] at c;simpa[hd] using c
def apz (hn:n<=ops.size) (ay:Region.noSelect ops=true) (ht:ajw ops n=true) (ad:an1 ops n=true) (ao:alN ops n=true) (A:afh ops n Y.tmps.size=true)
  (T:Nat->iR X) (hT:∀i,(T i).keep le) (b0:∀i o,i<n->ops[i]?=some o->(∃v,T i=.fix v)\/o.dst.isSome=true\/∀R,T i=.any R->∀u v x,R u x->R v x) (L:List (Nat×Oper)) (hL:∀i o,ops[i]?=some o->i<n->(i,o)∈L) (E:∀p∈L,p.1<n/\ops[p.1]?=some p.2)
  (aQ:∀i o,i<n->ops[i]?=some o->∀U:Nat->Value,(∀j g,T j=.fix g->U j=g)->
   ∃al:Act,aie ops n Y al/\(∀t j,t∈o.looksAt ops->pH ops n t j->al.tmps[t]?=some (U j))/\∀x,(∀j,j<n->lv o j=true->(T j).holds (U j) x)->Good P ops to le i o al x (T i))
  (fin:∀U:Nat->Value,(∀j g,T j=.fix g->U j=g)->∀x,(∀j,j<n->(T j).holds (U j) x)->wpList P ops Q (ops.toList.drop n) (fX U Y L) (to x))
  (x0:X) (a8:bh.live (left n (Array.replicate ops.size false)) x0) (aV:∀i,i<n->bh.pend i x0):wpAny P .any ops Q ops.size (Array.replicate ops.size false) Y (to x0):=by
 let c:Act->Nat->Value:=λa j=>match T j with
  |.fix g=>g
  |.any _=>match ops[j]? with
   |some W=>wH a W
   |none=>undef
 have hU:∀a j g,T j=.fix g->c a j=g:=λa j g h=>by simp only[c,h]
 let Φ:Nat->Act->X->Prop:=λi a x=>∀o,ops[i]?=some o->(∀d,o.dst=some d->a.tmps[d]?=some (c a i))/\(T i).holds (c a i) x
 have a6:∀{i o a v x},i<n->ops[i]?=some o->aie ops n Y a->(T i).holds v x->Φ i (a.put o.dst v) x:=by
  intro i o a v x k l s F Z oT;obtain rfl:o=Z:=ef (l.symm.trans oT);have O:∀d,o.dst=some d->(a.put o.dst v).tmps[d]?=some v:=λd hd=>by
   rw[hd];exact an3 (by rw[s.size];exact alM A ⟨k,o,l,hd⟩)
  have S:c (a.put o.dst v) i=v\/(o.dst=none/\∃R,T i=.any R/\∀u v x,R u x->R v x):=by
   cases e:T i with
   |fix g=>
    rw[hU _ _ _ e];rw[e] at F;exact .inl F.symm
   |any R=>
    simp only[c,e,l,wH];have r:o.dst.isSome=true->(match o.dst with|some d=>(a.put o.dst v).tmps.getD d undef|none=>undef)=v:=λN=>by
     obtain⟨d,hd⟩:=rD.1 N;have:=O d hd;simp only[hd] at this ⊢;simp[ip,this]
    rcases b0 i o k l with⟨g,N⟩|N|N
    .rw[e] at N;cases N
    .exact .inl (r N)
    .cases hd:o.dst with
     |some d=>left;have:=r (by rw[hd];rfl);simpa only[hd] using this
     |none=>exact .inr ⟨rfl,R,rfl,N R e⟩
  rcases S with S|⟨hd,R,hR,aK⟩
  .rw[S];exact⟨O,F⟩
  .refine⟨λd a1=>(by rw[hd] at a1;cases a1), ?_⟩;rw[hR] at F ⊢;exact aK _ _ _ F
 have H:=arK (P:=P) (Q:=Q) (to:=to) (le:=le) hn ht ad (aie ops n Y) Φ ?step ?ayh ?fin (left n (Array.replicate ops.size false)) (Array.replicate ops.size false) Y x0 rfl
  ⟨by simp,λj W _ D=>(by rw[tK] at D;cases D),λt _ ht=>getD_in (by simpa using ht) (tK _ _)⟩ (aie.refl _ _ _) a8 (λi k _=>aV i k) (λi k D=>(by rw[tK] at D;cases D))
 case step=>
  intro m i o k l a x s b1 aa a3 K hK;obtain⟨al,a2,af,a7⟩:=aQ i o k l (c a) (hU a);have a9:∀j,j<n->lv o j=true->(T j).holds (c a j) x:=λj f hw=>(a3 j f hw _ (gt (bd f hn))).2;have an:∀t∈o.looksAt ops,a.tmps[t]?=al.tmps[t]?:=by
   intro t a4;rcases an2 ops n t with⟨j,f⟩|q
   .have hw:=afi ao k l a4 f;obtain⟨B,W,I,hd⟩:=id f;rw[af t j a4 f,(a3 j B hw W I).1 t hd]
   .rw[s.off t q,a2.off t q]
  obtain⟨h1,M⟩:=apy (λcs b=>Region.noSelect_spec ay i o cs b l) an;refine apu (G:=λv w=>∃y,w=to y/\le x y/\bh.live m y/\(∀j,j≠i->¬Behind ops i j->bh.pend j x->bh.pend j y)/\(T i).holds v y) l (by rw[s.size,a2.size]) h1 M (a7 x a9 m b1 aa _ λv y z D J F=>⟨rfl,v,rfl,y,rfl,z,D,J,F⟩) ?_;rintro v w ⟨y,rfl,z,D,J,F⟩;exact hK v y z D J (s.put k l) (a6 k l s F)
 case ayh=>
  intro i j o a x y v k f aG l s C z Z oT;obtain⟨h1,M⟩:=C Z oT;have a0:∀d,Z.dst=some d->o.dst≠some d:=λd hd b2=>aG (aid A ⟨k,Z,oT,hd⟩ ⟨f,o,l,b2⟩);have ax:c (a.put o.dst v) i=c a i:=by
   cases e:T i with
   |fix g=>rw[hU _ _ _ e,hU _ _ _ e]
   |any R=>
    simp only[c,e,oT,wH];cases hd:Z.dst with
    |none=>rfl
    |some d=>
     have:=nN (a:=a) (v:=v) (a0 d hd);simp only[ip,this]
  rw[ax];refine⟨λd hd=>by rw[nN (a0 d hd)];exact h1 d hd, ?_⟩;have hk:=hT i;cases e:T i with
  |fix g=>rw[e] at M;exact M
  |any R=>
   rw[e] at M hk;exact hk _ _ _ M z
 case fin=>
  intro a x s C;have a5:∀j,j<n->(T j).holds (c a j) x:=λj f=>(C j f _ (gt (bd f hn))).2;have he:a=fX (c a) Y L:=by
   refine auR ?_ ?_ ?_
   .have h1:=s.rest;have M:=ac1 (c a) L Y;have h3:=gn (λb:Act=>{b with tmps:=(fX (c a) Y L).tmps}) (h1.trans M.symm);exact h3
   .rw[s.size,ac0]
   .intro t;rcases an2 ops n t with⟨j,f⟩|q
    .obtain⟨B,W,I,hd⟩:=id f;rw[(C j B W I).1 t hd,ab7 (c a) L Y (hL j W I B) hd (alM A f) λp J V=> ?_];exact aid A ⟨(E p J).1,p.2,(E p J).2,V⟩ f
    .rw[s.off t q,nO _ _ _ λp J V=>q p.1 ⟨(E p J).1,p.2,(E p J).2,V⟩]
  rw[he];exact fin _ (hU a) x a5
 have aP:left n (Array.replicate ops.size false)=n:=by
  unfold left;rw[List.filter_eq_self.2]
  .simp
  .intro i k;have b3:=qn.1 k;rw[getD_in (by simp;omega) (tK _ _)];rfl
 rw[aP,show n+(ops.size-n)=ops.size by omega] at H;exact H
def aaw:List (Nat×(X->Prop))->Oper->X->Prop
 |[],_,_=>True
 |(j,p)::F,o,x=>(lv o j=true->p x)/\aaw F o x
def iv:List (Nat×(X->Prop))->X->Prop
 |[],_=>True
 |(_,p)::F,x=>p x/\iv F x
omit [bh X] in
def an4{F:List (Nat×(X->Prop))}{x:X}(h:∀p∈F,lv o p.1=true->p.2 x):aaw F o x:=by
 induction F with
 |nil=>trivial
 |cons p F b=>exact⟨h p (by simp),b λq a=>h q (by simp[a])⟩
omit [bh X] in
def auS{F:List (Nat×(X->Prop))}{x:X}(h:∀p∈F,p.2 x):iv F x:=by
 induction F with
 |nil=>trivial
 |cons p F b=>exact⟨h p (by simp),b λq a=>h q (by simp[a])⟩
def cN(P:Program)(ops:Array Oper)(to:X->World)(le:X->X->Prop)(Qt:Act->World->Prop):List (Nat×Oper)->List (Nat×(X->Prop))->List (iR X)->Act->Prop
 |[],F,[],a=>∀x,iv F x->Qt a (to x)
 |(i,o)::l,F,.fix v0::Rs,a=>(∀x,aaw F o x->Good P ops to le i o a x (.fix v0))/\cN P ops to le Qt l F Rs (a.put o.dst v0)
 |(i,o)::l,F,.any R::Rs,a=>(o.dst.isSome=true\/∀u v x,R u x->R v x)/\(∀v x y,R v x->le x y->R v y)/\(∀x,aaw F o x->Good P ops to le i o a x (.any R))/\∀v,cN P ops to le Qt l ((i,R v)::F) Rs (a.put o.dst v)
 |_,_,_,_=>False
def aif{F:List (Nat×(X->Prop))}(h:∀x,iv F x->V a (to x)):cN P ops to le V [] F [] a:=h
def an5   {l:List (Nat×Oper)} {F:List (Nat×(X->Prop))} {e:List (iR X)} (c:Value)
  (s:∀x,aaw F o x->∀m,bh.live (m+1) x->bh.pend i x->∀b:Exit->Act->World->Prop,(∀y,le x y->bh.live m y->(∀j,j≠i->¬Behind ops i j->bh.pend j x->bh.pend j y)->b .normal (a.put o.dst c) (to y))->wpList P ops b [o] a (to x))
  (g:cN P ops to le V l F e (a.put o.dst c)):cN P ops to le V ((i,o)::l) F (.fix c::e) a:=
 ⟨λx q m r f b p=>s x q m r f b λy n k d=>p c y n k d rfl,g⟩
def kN   {l:List (Nat×Oper)} {F:List (Nat×(X->Prop))} {d:List (iR X)} (R:Value->X->Prop) (e:o.dst.isSome=true\/∀u v x,R u x->R v x) (p:∀v x y,R v x->le x y->R v y)
  (w:∀x,aaw F o x->∀m,bh.live (m+1) x->bh.pend i x->∀b:Exit->Act->World->Prop,(∀v y,le x y->bh.live m y->(∀j,j≠i->¬Behind ops i j->bh.pend j x->bh.pend j y)->R v y->b .normal (a.put o.dst v) (to y))->wpList P ops b [o] a (to x))
  (g:∀v,cN P ops to le V l ((i,R v)::F) d (a.put o.dst v)):cN P ops to le V ((i,o)::l) F (.any R::d) a:=
 ⟨e,p,λx r m s f b q=>w x r m s f b λv y n k c t=>q v y n k c t,g⟩
def pick(l:List Oper)(ord:List Nat):List (Nat×Oper):=ord.map λi=>(i,l.getD i default)
def aih(ops:Array Oper)(n:Nat):List Nat->List Nat->Bool
 |[],_=>true
 |i::t,done=>(match ops[i]? with
  |some o=>(List.range n).all λj=>!lv o j||done.contains j
  |none=>false)&&aih ops n t (i::done)
def afj{n:Nat}:∀(c done:List Nat),aih ops n c done=true->∀k i o j,c[k]?=some i->ops[i]?=some o->j<n->lv o j=true->j∈done\/j∈c.take k
 |[],_,_,k,i,_,_,h,_,_,_=>by simp at h
 |a::t,done,hB,k,i,o,j,h,ho,hj,hw=>by
  simp only[aih,fk] at hB;cases k with
  |zero=>
   simp at h;subst h;have b:=hB.1;simp only[ho] at b;have d:=lc.1 b j (qn.2 hj);left;simpa[hw] using d
  |succ k=>
   rcases afj t (a::done) hB.2 k i o j (by simpa using h) ho hj hw with b|b
   .rcases me.1 b with rfl|b
    .right;simp
    .exact .inl b
   .right;rw[uP];exact qL _ b
def ajz(l:List Oper)(n:Nat)(cf dz:List Nat):Bool:=
 Region.noSelect l.toArray&&decide (n<=l.length)&&ajw l.toArray n&&an1 l.toArray n&&alN l.toArray n&&decide ((cf++dz).Nodup)&&(List.range n).all (λi=>(cf++dz).contains i)&&(cf++dz).all (λi=>decide (i<n)) &&
  cf.all (λi=>aia (l.getD i default).op)&&aih l.toArray n (cf++dz) []
def nP{U V:Nat->Value}:∀(L:List (Nat×Oper)) (a:Act),(∀p∈L,U p.1=V p.1)->fX U a L=fX V a L
 |[],_,_=>rfl
 |p::L,a,h=>by
  show fX U (a.put p.2.dst (U p.1)) L=fX V (a.put p.2.dst (V p.1)) L;rw[h p (by simp)];exact nP L _ λq b=>h q (by simp[b])
def adC(U:Nat->Value)(L M:List (Nat×Oper))(a:Act):fX U a (L++M)=fX U (fX U a L) M:=by
 unfold fX;exact sS
def afk{C:World->Prop}{l:Act->Prop}:∀(L:List (Nat×Oper)) (a:Act),(L.map (·.1)).Nodup->wpQuiet P ops C l (L.map (·.2)) a->
  ∃V:Nat->Value,l (fX V a L)/\∀(k:Nat) (p:Nat×Oper),L[k]?=some p->YieldsIn P ops C p.2 (V p.1) (fX V a (L.take k))
 |[],a,_,h=>⟨λ_=>undef,h,λk p n=>by simp at n⟩
 |p::L,a,hn,h=>by
  rw[qK,tp] at hn;have t:∃v,YieldsIn P ops C p.2 v a/\wpQuiet P ops C l (L.map (·.2)) (a.put p.2.dst v):=by
   rw[qK] at h;unfold wpQuiet at h;split at h
   .rename_i g;obtain⟨v,u,o⟩:=h;exact⟨v,.inl ⟨g,u⟩,o⟩
   .rename_i g;exact⟨undef,.inr ⟨by simpa using g,rfl⟩,h⟩
  obtain⟨v,r,i⟩:=t;obtain⟨V,s,w⟩:=afk L _ hn.2 i
  let W:Nat->Value:=λj=>if j=p.1 then v else V j
  have f:W p.1=v:=by simp[W]
  have d:∀q∈L,W q.1=V q.1:=λq b=>by
   have:q.1≠p.1:=λe=>hn.1 (e▸mc.2 ⟨q,b,rfl⟩);simp[W,this]
  have m:∀k,fX W a ((p::L).take (k+1))=fX V (a.put p.2.dst v) (L.take k):=λk=>by
   rw[uP];show fX W (a.put p.2.dst (W p.1)) (L.take k)=_;rw[f];exact nP _ _ λq b=>d q (oS b)
  refine⟨W, ?_,λk q b=> ?_⟩
  .have:=m L.length;rw[ga,<-fi (a:=p),ga] at this;rw[this];exact s
  .cases k with
   |zero=>
    simp at b;subst b;rw[f];exact r
   |succ k=>
    have c:L[k]?=some q:=by simpa using b
    rw[m,d q (aE c)];exact w k q c
def aaf{A:Act->World->Prop}{n:Nat}{T:Nat->iR X}{U:Nat->Value}(y:∀j g,T j=.fix g->U j=g):∀(L:List (Nat×Oper)) (F:List (Nat×(X->Prop))) (l:List (iR X)) (a:Act),
  cN P ops to le A L F l a->(∀(k:Nat) (p:Nat×Oper) (r:iR X),L[k]?=some p->l[k]?=some r->T p.1=r)->(∀p∈L,p.1<n)->(∀p∈F,p.1<n/\∀x,(T p.1).holds (U p.1) x->p.2 x)->
  (∀(k:Nat) (p:Nat×Oper),L[k]?=some p->∀x,(∀j,j<n->lv p.2 j=true->(T j).holds (U j) x)->Good P ops to le p.1 p.2 (fX U a (L.take k)) x (T p.1))/\(∀x,(∀j,j<n->(T j).holds (U j) x)->A (fX U a L) (to x))
 |[],F,[],a,h,_,_,hF=>⟨λk p b=>by simp at b,λx c=>h x (auS λp b=>(hF p b).2 x (c _ (hF p b).1))⟩
 |[],_,_::_,_,h,_,_,_=>h.elim
 |(i,o)::L,F,[],_,h,_,_,_=>h.elim
 |(i,o)::L,F,.fix g::l,a,h,hT,hn,hF=>by
  obtain⟨w,s⟩:=h;have d:T i=.fix g:=hT 0 (i,o) (.fix g) rfl rfl;have z:U i=g:=y i g d;obtain⟨u,v⟩:=aaf y L F l _ s (λk p r b t=>hT (k+1) p r (by simpa using b) (by simpa using t)) (λp b=>hn p (by simp[b])) hF;have f:∀M,fX U a ((i,o)::M)=fX U (a.put o.dst g) M:=λM=>by
   show fX U (a.put o.dst (U i)) M=_;rw[z]
  refine⟨λk p b x c=> ?_,λx c=>by rw[f];exact v x c⟩;cases k with
  |zero=>
   simp at b;subst b;rw[d];exact w x (an4 λq e m=>(hF q e).2 x (c _ (hF q e).1 m))
  |succ k=>
   rw[uP,f];exact u k p (by simpa using b) x c
 |(i,o)::L,F,.any R::l,a,h,hT,hn,hF=>by
  obtain⟨_,B,w,s⟩:=h;have d:T i=.any R:=hT 0 (i,o) (.any R) rfl rfl;obtain⟨u,v⟩:=aaf y L ((i,R (U i))::F) l _ (s (U i)) (λk p r b t=>hT (k+1) p r (by simpa using b) (by simpa using t)) (λp b=>hn p (by simp[b])) λq e=>by
   rcases me.1 e with rfl|e
   .exact⟨hn (i,o) (by simp),λx c=>by rw[d] at c;exact c⟩
   .exact hF q e
  refine⟨λk p b x c=> ?_,λx c=>v x c⟩;cases k with
  |zero=>
   simp at b;subst b;rw[d];exact w x (an4 λq e m=>(hF q e).2 x (c _ (hF q e).1 m))
  |succ k=>exact u k p (by simpa using b) x c
def aa8{j:Act->World->Prop}:∀(L:List (Nat×Oper)) (F:List (Nat×(X->Prop))) (d:List (iR X)) (a:Act),
  cN P ops to le j L F d a->d.length=L.length/\∀(k:Nat) (p:Nat×Oper) (r:iR X),L[k]?=some p->d[k]?=some r->r.keep le/\((∃v,r=.fix v)\/p.2.dst.isSome=true\/∀R,r=.any R->∀u v x,R u x->R v x)
 |[],_,[],_,_=>⟨rfl,λk p r b=>by simp at b⟩
 |[],_,_::_,_,h=>h.elim
 |(i,o)::L,F,[],_,h=>h.elim
 |(i,o)::L,F,.fix v0::d,a,h=>by
  obtain⟨_,e⟩:=h;obtain⟨f,g⟩:=aa8 L F d _ e;refine⟨by simp[f],λk p r b c=> ?_⟩;cases k with
  |zero=>
   simp at c;subst c;exact⟨trivial,.inl ⟨_,rfl⟩⟩
  |succ k=>exact g k p r (by simpa using b) (by simpa using c)
 |(i,o)::L,F,.any R::d,a,h=>by
  obtain⟨hd,l,_,e⟩:=h;obtain⟨f,g⟩:=aa8 L _ d _ (e undef);refine⟨by simp[f],λk p r b c=> ?_⟩;cases k with
  |zero=>
   simp at c b;subst c b;exact⟨l,.inr (hd.imp id λhd R' m=>by cases m;exact hd)⟩
  |succ k=>exact g k p r (by simpa using b) (by simpa using c)
def aa9{g:Type}:∀(ks:List Nat) (c:List g) (k i:Nat) (r:g),ks.Nodup->ks[k]?=some i->c[k]?=some r->(ks.zip c).lookup i=some r
 |[],_,_,_,_,_,h,_=>by simp at h
 |a::ks,[],_,_,_,_,_,h=>by simp at h
 |a::ks,b::c,k,i,r,hn,h,hr=>by
  rw[tp] at hn;cases k with
  |zero=>
   simp at h hr;subst h hr;simp[List.lookup]
  |succ k=>
   have f:ks[k]?=some i:=by simpa using h
   have d:(i ==a)=false:=du.2 λe=>hn.1 (e▸aE f);simp only[List.zip_cons_cons,List.lookup,d];exact aa9 ks c k i r hn.2 f (by simpa using hr)
def ajA {l:List Oper}  (to:X->World) (le:X->X->Prop) (Z:∀x,le x x) (n:Nat) (a q:List Nat) (hB:ajz l n a q=true) (hd:afh l.toArray n Y.tmps.size=true)
  (x0:X) (af:∀m,m<=n->bh.live m x0) (b8:∀i,i<n->bh.pend i x0) (hx:to x0=w.drew)
  (h:wpQuiet P l.toArray (λw'=>∃x,w'=to x) (λa1=>∃B,cN P l.toArray to le (wpList P l.toArray Q (l.drop n)) (pick l q) [] B a1) ((pick l a).map (·.2)) Y):wpAny P .any l.toArray Q l.toArray.size (Array.replicate l.toArray.size false) Y {w with drawn:=w.drawn+1}:=by
 simp only[ajz,fk,qJ] at hB;obtain⟨⟨⟨⟨⟨⟨⟨⟨⟨b0,hn⟩,ht⟩,al⟩,a6⟩,K⟩,aQ⟩,aP⟩,an⟩,b4⟩:=hB;have b6:n<=l.toArray.size:=by simpa using hn
 have R:∀i,i<n->i∈a++q:=λi b=>by simpa using lc.1 aQ i (qn.2 b)
 have v:∀i∈a++q,i<n:=λi b=>by simpa using lc.1 aP i b
 have A:∀i,i<n->l.toArray[i]?=some (l.getD i default):=λi b=>by
  have b9:i<l.length:=bd b hn;simp[b9]
 have ay:∀F:List Nat,(pick l F).map (·.1)=F:=λF=>by simp[pick,Function.comp_def]
 obtain⟨V,⟨B,N⟩,hV⟩:=afk (pick l a) Y (by rw[ay];exact(qY.1 K).1) h;obtain⟨a4,aa⟩:=aa8 _ _ _ _ N;have bc:B.length=q.length:=by rw[a4];simp[pick]
 let T:Nat->iR X:=λj=>(((a++q).zip (a.map (λi=>iR.fix (V i))++B)).lookup j).getD (.fix undef)
 have E:∀i∈a,T i=.fix (V i):=λi b=>by
  obtain⟨k,s⟩:=rb.1 b;have C:k<a.length:=by
   rcases pm k a.length with h|h
   .exact h
   .rw[sK h] at s;cases s
  have:=aa9 (a++q) (a.map (λi=>iR.fix (V i))++B) k i (.fix (V i)) K (by rw[qE C];exact s) (by rw[qE (by simpa using C),qz,s];rfl);simp only[T,this,qo]
 have a2:∀k i r,q[k]?=some i->B[k]?=some r->T i=r:=λk i r s D=>by
  have:=aa9 (a++q) (a.map (λi=>iR.fix (V i))++B) (a.length+k) i r K (by rw[qr (by omega),se];exact s)
   (by rw[qr (by simp),pZ,se];exact D)
  simp only[T,this,qo]
 have a0:∀(k:Nat) (p:Nat×Oper) (r:iR X),(pick l q)[k]?=some p->B[k]?=some r->T p.1=r:=λk p r d D=>by
  simp only[pick,qz,iS] at d;obtain⟨i,b,rfl⟩:=d;exact a2 k i r b D
 have a7:∀i,i<n->(i∈a/\T i=.fix (V i))\/∃k r,q[k]?=some i/\B[k]?=some r/\T i=r:=λi b=>by
  rcases io.1 (R i b) with g|g
  .exact .inl ⟨g,E i g⟩
  .obtain⟨k,s⟩:=rb.1 g;have C:k<B.length:=by
    rcases pm k q.length with h|h
    .omega
    .rw[sK h] at s;cases s
   exact .inr ⟨k,B[k],s,ls C,a2 k i _ s (ls C)⟩
 have b2:∀i,(T i).keep le:=λi=>by
  by_cases b:i<n
  .rcases a7 i b with⟨_,g⟩|⟨k,r,s,D,g⟩
   .rw[g];trivial
   .rw[g];exact(aa k (i,l.getD i default) r (by simp[pick,s]) D).1
  .have:((a++q).zip (a.map (λi=>iR.fix (V i))++B)).lookup i=none:=by
    rw[List.lookup_eq_none_iff];intro p d;have g:=(List.of_mem_zip d).1;have:=v _ g;have ad:i≠p.1:=λe=>b (by rw[e];exact this);simpa using ad
   simp only[T,this,Option.getD_none];trivial
 have ba:∀i,i∈a++q->(i,l.getD i default)∈pick l (a++q):=λi b=>mc.2 ⟨i,b,rfl⟩;have W:pick l (a++q)=pick l a++pick l q:=by simp[pick]
 have H:=apz (P:=P) (Q:=Q) (to:=to) (le:=le) b6 b0 ht al a6 hd T b2 ?any (pick l (a++q)) ?L ?L' ?lex ?fin x0 (af _ (auQ _ _)) b8
 .rw[hx] at H;exact H
 case any=>
  intro i o b G;rcases a7 i b with⟨_,g⟩|⟨k,r,s,D,g⟩
  .exact .inl ⟨_,g⟩
  .rw[g];obtain rfl:o=l.getD i default:=ef (G.symm.trans (A i b));exact(aa k (i,l.getD i default) r (by simp[pick,s]) D).2
 case L=>
  intro i o G b;obtain rfl:o=l.getD i default:=ef (G.symm.trans (A i b));exact ba i (R i b)
 case L'=>
  intro p d;obtain⟨i,b,rfl⟩:=mc.1 d;exact⟨v i b,A i (v i b)⟩
 case lex=>
  intro i o b G U hU;obtain rfl:o=l.getD i default:=ef (G.symm.trans (A i b));obtain⟨hg,_⟩:=aaf (n:=n) (T:=T) (U:=U) hU _ _ _ _ N a0 (λp d=>by
   obtain⟨j,z,rfl⟩:=mc.1 d;exact v j (rS _ z)) (λp d=>by cases d)
  obtain⟨k,s⟩:=rb.1 (R i b);have a8:∀M:List (Nat×Oper),(∀p∈M,p.1∈a)->fX U Y M=fX V Y M:=λM hM=>nP M Y λp d=>by rw[hU _ _ (E _ (hM p d))]
  have a5:∀p∈pick l a,p.1∈a:=λp d=>by
   obtain⟨j,z,rfl⟩:=mc.1 d;exact z
  refine⟨fX U Y ((pick l (a++q)).take k), ?_, ?_, ?_⟩
  .refine⟨ac0 _ _ _,λt aV=>nO _ _ _ λp d S=> ?_, ?_⟩
   .obtain⟨j,z,rfl⟩:=mc.1 (oS d);exact aV j ⟨v j z,_,A j (v j z),S⟩
   .exact ac1 _ _ _
  .intro t j ax z;have hw:=afi a6 b G ax z;have b7:=(afj (a++q) [] b4 k i _ j s G z.1 hw).resolve_left (by simp);have aG:=z;obtain⟨ao,oj,b3,b5⟩:=aG;obtain rfl:oj=l.getD j default:=ef (b3.symm.trans (A j ao));refine ab7 U (o:=l.getD j default) _ Y ?_ b5 (alM hd z) λp d S=> ?_
   .rw[pick,<-List.map_take];exact mc.2 ⟨j,b7,rfl⟩
   .obtain⟨j',a9,rfl⟩:=mc.1 (oS d);exact aid hd ⟨v j' a9,_,A j' (v j' a9),S⟩ z
  .intro x hx;rcases pm k a.length with J|J
   .have mL:a[k]?=some i:=by rw[qE J] at s;exact s
    have a3:i∈a:=aE mL;have oB:(pick l (a++q)).take k=(pick l a).take k:=by rw[W,List.take_append_of_le_length (by simp[pick];omega)]
    have hy:=hV k (i,l.getD i default) (by simp[pick,mL]);rw[oB,a8 _ λp d=>a5 p (oS d),E i a3];intro mq O bb Qx hQ;have aK:aia (l.getD i default).op=true:=lc.1 an i a3;have I:=λy hy hl b1=>hQ (V i) y hy hl b1 rfl;unfold wpList;rcases hy with⟨hw,hq⟩|⟨hw,hq⟩
    .rw[dj hw];refine .inl ?_;have g:=hq (to x) ⟨x,rfl⟩;unfold Oper.quietAt at g;unfold Oper.wp;cases D:(execOp (fX V Y (List.take k (pick l a))).eval (l.getD i default)).run P (to x) with
     |ok nx w'=>
      rw[D] at g;cases nx<;>simp only[Oper.quietUpon] at g
      case value u=>
       obtain⟨rfl,rfl⟩:=g;exact I x (Z x) (bh.down _ _ O) λ_ _ _ h=>h
      case skip=>
       obtain⟨rfl,h2⟩:=g;show Qx .normal _ _;rw[<-h2];exact I x (Z x) (bh.down _ _ O) λ_ _ _ h=>h
      case enter f args=>exact absurd D (aib aK)
     |halt c w'=>
      rw[D] at g;simp only[Oper.quietUpon] at g
    .rw[bv (by rw[hw];exact qp)];have:=I x (Z x) (bh.down _ _ O) λ_ _ _ h=>h;rw[hq] at this;exact this
   .have mR:q[k-a.length]?=some i:=by rw[qr J] at s;exact s
    have oB:(pick l (a++q)).take k=pick l a++(pick l q).take (k-a.length):=by
     rw[W,List.take_append,qj (by simp[pick];omega)];simp[pick]
    rw[oB,adC,a8 _ a5];exact hg (k-a.length) (i,l.getD i default) (by simp[pick,mR]) x hx
 case fin=>
  intro U hU x hx;obtain⟨_,hf⟩:=aaf (n:=n) (T:=T) (U:=U) hU _ _ _ _ N a0 (λp d=>by
   obtain⟨j,z,rfl⟩:=mc.1 d;exact v j (rS _ z)) (λp d=>by cases d)
  have g:=hf x hx;rw[W,adC,nP (U:=U) (V:=V) (pick l a) Y λp d=>by
   obtain⟨j,z,rfl⟩:=mc.1 d;exact hU _ _ (E j z)]
  simpa using g
def abb {l:List Oper}  (to:X->World) (le:X->X->Prop) (e:∀x,le x x) (n:Nat) (c f:List Nat) (p:P.follows .mixedOrders=true) (r:ajz l n c f=true) (g:afh l.toArray n Y.tmps.size=true)
  (a:X) (b:∀m,m<=n->bh.live m a) (d:∀i,i<n->bh.pend i a) (k:to a=w.drew)
  (h:wpQuiet P l.toArray (λj=>∃x,j=to x) (λq=>∃o,cN P l.toArray to le (wpList P l.toArray Q (l.drop n)) (pick l f) [] o q) ((pick l c).map (·.2)) Y):(Code.region Z l.toArray true).wp P Q Y w:=
 wp_region_any p (ajA to le e n c f r g a b d k h)
end
end
section
variable {β:Bool}
open Go.RowKit
def fL(b:Below w.heap.size w w')(h:w.cell? p=some v):w'.cell? p=some v:=by
 refine(b.cell (p:=p) ?_).trans h;rcases pm p.block w.heap.size with a|c
 .exact a
 .simp[World.cell?,qg c] at h
def cY{a : World}(h:Below a.heap.size a w)(o:Obj):Below a.heap.size a (w.alloc o):=h.alloc h.size o
def bu(h:cg w g t cs)(o:Obj):cg (w.alloc o) g t cs:=(sq w o g h.lt).trans h
def iT(h:cg w g t cs)(u:Value)(a:g≠p.block):cg (w.setCell p u) g t cs:=(qw w p u g a).trans h
def aY(h:cg w g t cs)(b:bV S w w')(a:¬S g):cg w' g t cs:=(b.block g h.lt a).trans h
def aC(w:World)(o:Obj):Below w.heap.size w (w.alloc o):=(fm _ _).alloc (am _) _
def abU(a:Lcy E){xs:List X}{cs:List Value}(h:cB E Z w lo hi xs cs)(c:Below w.heap.size w w')(b:hi<=w.heap.size):cB E Z w' lo hi xs cs:=
 (cB.loc a).below h c b
def gU(h:w.alloc (.cells cs t)=x):Below w.heap.size w x/\w.heap.size+1<=x.heap.size/\cg x w.heap.size t cs/\(∀i,x.cell? ⟨w.heap.size,i,none⟩=cs[i]?)/\∀i,x.frozen? ⟨w.heap.size,i,none⟩=false:=by
 subst h;have k:=cg.new w t cs;exact⟨aC _ _,by simp,k,k.cell,k.frozen⟩
def agc{u : TypeId}(h:(w.alloc (.cells cs t)).alloc (.cells U u)=x):Below w.heap.size w x/\w.heap.size+2<=x.heap.size/\cg x w.heap.size t cs/\(∀i,x.cell? ⟨w.heap.size,i,none⟩=cs[i]?)/\(∀i,x.frozen? ⟨w.heap.size,i,none⟩=false)/\
  cg x (w.heap.size+1) u U/\(∀i,x.cell? ⟨w.heap.size+1,i,none⟩=U[i]?)/\∀i,x.frozen? ⟨w.heap.size+1,i,none⟩=false:=by
 obtain⟨e,a,d,b,c⟩:=gU h;have k:=bu (cg.new w t cs) (.cells U u);rw[h] at k;simp only[mw] at a d b c;exact⟨h▸cY (aC _ _) _,a,k,k.cell,k.frozen,d,b,c⟩
def aAm{u v : TypeId}(h:((w.alloc (.cells cs t)).alloc (.cells U u)).alloc (.cells es v)=x):Below w.heap.size w x/\w.heap.size+3<=x.heap.size/\cg x w.heap.size t cs/\(∀i,x.cell? ⟨w.heap.size,i,none⟩=cs[i]?)/\(∀i,x.frozen? ⟨w.heap.size,i,none⟩=false)/\
  cg x (w.heap.size+1) u U/\(∀i,x.cell? ⟨w.heap.size+1,i,none⟩=U[i]?)/\(∀i,x.frozen? ⟨w.heap.size+1,i,none⟩=false)/\cg x (w.heap.size+1+1) v es/\(∀i,x.cell? ⟨w.heap.size+1+1,i,none⟩=es[i]?)/\∀i,x.frozen? ⟨w.heap.size+1+1,i,none⟩=false:=by
 obtain⟨e,a,d,b,c⟩:=gU h;have k:=bu (bu (cg.new w t cs) (.cells U u)) (.cells es v);have l:=bu (cg.new (w.alloc (.cells cs t)) u U) (.cells es v);rw[h] at k l;simp only[mw] at a d b c l;exact⟨h▸cY (cY (aC _ _) _) _,a,k,k.cell,k.frozen,l,l.cell,l.frozen,d,b,c⟩
structure gh (w:World) where
 to:World
 ok:Below w.heap.size w to
instance auT(w:World):Nonempty (gh w):=⟨⟨w,fm _ _⟩⟩
def ag(h:w.cell? p=some v):∀x:gh w,x.to.cell? p=some v:=λx=>fL x.ok h
def aB {id:Nat}   {l:List Oper} (c:P.follows .mixedOrders=true) (e:Region.lexB .any l.toArray=true)
  (h:wpQuiet P l.toArray (λb=>∃x:gh w,b=x.to) (λd=>∀b,(∃x:gh w,b=x.to)->Q .normal d b) l a):(Code.region id l.toArray true).wp P Q a w:=
 wp_region_quiet (C:=λb=>∃x:gh w,b=x.to) c e ⟨⟨w.drew,⟨rfl,rfl,rfl,am _,λ_ _=>rfl⟩⟩,rfl⟩ (by simpa using h)
def aN(h:∃x:gh w,w'=x.to):Below w.heap.size w w':=by
 obtain⟨x,rfl⟩:=h;exact x.ok
def bH  {args:Array Value} {x:gh w} 
  (h:Calls P f args x.to λe b=>e=.returned v/\Below x.to.heap.size x.to b):Calls P f args x.to λe a=>e=.returned v/\∃y:gh w,a=y.to:=
 h.mono λ_ c ⟨he,hb⟩=>⟨he,⟨⟨c,x.ok.trans (hb.mono x.ok.size)⟩,rfl⟩⟩
def dD  {args:Array Value} {x:gh w} 
  (h:Calls P f args x.to λe b=>e=.returned v/\x.to=b):Calls P f args x.to λe a=>e=.returned v/\∃y:gh w,a=y.to:=
 h.mono λ_ _ ⟨he,hb⟩=>⟨he,⟨x,hb.symm⟩⟩
instance ayk(w:World):bh (gh w):=⟨λ_ _=>True,λ_ _ _=>trivial,λ_ _=>True⟩
def gh.le{w:World}(x y:gh w):Prop:=Below x.to.heap.size x.to y.to
def gh.le_refl(x:gh w):gh.le x x:=fm _ _
def gh.mk'{w:World}(x:gh w){w':World}(h:Below x.to.heap.size x.to w'):gh w:=⟨w',x.ok.trans (h.mono x.ok.size)⟩
def aZ   {l:List Oper}  (n:Nat) (a b:List Nat) (d:P.follows .mixedOrders=true:=by kernel_rfl) (g:ajz l n a b=true:=by kernel_rfl) (c:afh l.toArray n Y.tmps.size=true:=by kernel_rfl)
  (h:wpQuiet P l.toArray (λe=>∃x:gh w,e=x.to) (λf=>∃i:List (iR (gh w)),cN P l.toArray (gh.to (w:=w)) (gh.le (w:=w)) (wpList P l.toArray Q (l.drop n)) (pick l b) [] i f) ((pick l a).map (·.2)) Y):(Code.region Z l.toArray true).wp P Q Y w:=
 abb (gh.to (w:=w)) (gh.le (w:=w)) gh.le_refl n a b d g c ⟨w.drew,⟨rfl,rfl,rfl,am _,λ_ _=>rfl⟩⟩ (λ_ _=>trivial) (λ_ _=>trivial) rfl h
section
variable {P:Program} {ops:Array Oper} {w:World} {Qt:Act->World->Prop} {i:Nat} {o:Oper} {l:List (Nat×Oper)} {F:List (Nat×(gh w->Prop))} {Rs:List (iR (gh w))} {a:Act}
def dy (R:Value->World->Prop) (f:o.dst.isSome=true) (j:∀v x y,R v x->Below x.heap.size x y->R v y)
  (q:∀x:gh w,aaw F o x->∀b:Exit->Act->World->Prop,(∀v c,Below x.to.heap.size x.to c->R v c->b .normal (a.put o.dst v) c)->wpList P ops b [o] a x.to)
  (g:∀v,cN P ops (gh.to (w:=w)) (gh.le (w:=w)) Qt l ((i,λx=>R v x.to)::F) Rs (a.put o.dst v)):cN P ops (gh.to (w:=w)) (gh.le (w:=w)) Qt ((i,o)::l) F (.any (λv x=>R v x.to)::Rs) a:=
 kN (X:=gh w) (to:=gh.to (w:=w)) (le:=gh.le (w:=w)) (λv x=>R v x.to) (.inl f) (λv x y h d=>j v x.to y.to h d) (λx n m _ _ b k=>q x n b λv c e p=>k v (x.mk' e) e trivial (λ_ _ _ _=>trivial) p) g
def eR (c:Value)
  (g:∀x:gh w,aaw F o x->∀b:Exit->Act->World->Prop,(∀d,Below x.to.heap.size x.to d->b .normal (a.put o.dst c) d)->wpList P ops b [o] a x.to)
  (f:cN P ops (gh.to (w:=w)) (gh.le (w:=w)) Qt l F Rs (a.put o.dst c)):cN P ops (gh.to (w:=w)) (gh.le (w:=w)) Qt ((i,o)::l) F (.fix c::Rs) a:=
 an5 (X:=gh w) (to:=gh.to (w:=w)) (le:=gh.le (w:=w)) c (λx k m _ _ b j=>g x k b λd e=>j (x.mk' e) e trivial λ_ _ _ _=>trivial) f
def cV(h:∀b,Below w.heap.size w b->∀x:gh w,x.to=b->iv F x->Qt a b):cN P ops (gh.to (w:=w)) (gh.le (w:=w)) Qt [] F [] a:=
 aif (X:=gh w) (to:=gh.to (w:=w)) (le:=gh.le (w:=w)) λx c=>h x.to x.ok x rfl c
end
def dW(base:Nat)(e:TypeId)(v:Value)(w:World):Prop:=∃g,v=.slice (some ⟨g,0,none⟩) 0 0/\base<=g/\cg w g e #[]
def dW.own{base:Nat}(h:dW base e v w)(b:Nat):w.ownsRow base e b v 0 []:=by
 obtain⟨g,rfl,c,a⟩:=h;exact⟨by simp,.inr ⟨g,0,#[],rfl,c,a,am _,by unfold maxLen;omega,by simp,by simp⟩⟩
def ar(h:cg w g t cs)(a:Below w.heap.size w w'):cg w' g t cs:=(a.block g h.lt).trans h
def dW.keep{base:Nat}(h:dW base e v w)(c:Below w.heap.size w w'):dW base e v w':=by
 obtain⟨g,rfl,b,a⟩:=h;exact⟨g,rfl,b,ar a c⟩
def dW.new(w:World){base:Nat}(e:TypeId)(a:base<=w.heap.size):dW base e (.slice (some ⟨w.heap.size,0,none⟩) 0 0) (w.alloc (.cells #[] e)):=⟨_,rfl,a,cg.new _ _ _⟩
def alO(base:Nat)(e:TypeId)(es:Array Value)(v:Value)(w:World):Prop:=∃g,v=.slice (some ⟨g,0,none⟩) 1 1/\base<=g/\cg w g e es
def alO.keep{base:Nat}(h:alO base e es v w)(c:Below w.heap.size w w'):alO base e es v w':=by
 obtain⟨g,rfl,b,a⟩:=h;exact⟨g,rfl,b,ar a c⟩
def alO.new(w:World){base:Nat}(e:TypeId)(es:Array Value)(a:base<=w.heap.size):alO base e es (.slice (some ⟨w.heap.size,0,none⟩) 1 1) (w.alloc (.cells es e)):=⟨_,rfl,a,cg.new _ _ _⟩
end
section
variable {β:Bool}
open Go.RowKit
def aij(p:Prop)(e:Ending):Prop:=(e=.returned (.bool true)/\p)\/e=.returned (.bool false)
def aij.of{q:Bool}{p:Prop}(h:q=true->p):aij p (.returned (.bool q)):=by
 cases q
 .exact .inr rfl
 .exact .inl ⟨rfl,h rfl⟩
def nm(b:Nat):Bool:=decide (97<=b)&&decide (b<=101)
def gS(s:ByteArray):Bool:=if h:s.size=1 then nm (s[0]'(by omega)).toNat else if h:s.size=3 then nm (s[0]'(by omega)).toNat&&(decide ((s[1]'(by omega)).toNat=47)&&nm (s[2]'(by omega)).toNat) else false
def dE(s:ByteArray):Bool:=decide (s.size<=40)&&(bs s).all oU
def ly(h:gS s=true):s.size=1\/s.size=3:=by
 unfold gS at h;split at h
 .exact .inl (by assumption)
 .split at h
  .exact .inr (by assumption)
  .cases h
def pI(b:Nat)(w:World) :
  Calls (ai β) 144 #[.int .u8 b] w λe f=>e=.returned (.bool (nm b))/\w=f:=by
 by_cases c:97<=b
 .by_cases a:b<=101
  .have e:nm b=true:=by unfold nm;rw[de c,de a];rfl
   rw[e];clear e;have d:=de (show(b:Int)<=101 by omega);go_enter wQ,ntmps144;go_wp2;go_ret;exact⟨rfl,rfl⟩
  .have e:nm b=false:=by unfold nm;rw[da a,Bool.and_false]
   rw[e];clear e;have d:=da (show ¬((b:Int)<=101) by omega);go_enter wQ,ntmps144;go_wp2;go_ret;exact⟨rfl,rfl⟩
 .have e:nm b=false:=by unfold nm;rw[da c,uc]
  rw[e];clear e;go_enter wQ,ntmps144;go_wp2;go_ret;exact⟨rfl,rfl⟩
def jo(s:ByteArray)(f:s.size<=maxLen)(w:World) :
  Calls (ai β) 101 #[.string s] w λe d=>e=.returned (.bool (dE s))/\w=d:=by
 by_cases b:s.size<=40
 .have a:(bs s).all oU=dE s:=by unfold dE;rw[de b,ur]
  replace a:=ab a;have c:=de (show(s.size:Int)<=40 by omega);go_enter xk,ntmps101;go_wp2;refine(aaK s f w).mono ?_;rintro e g ⟨rfl,rfl⟩;rw[a.out];go_wp2;go_ret;exact⟨rfl,rfl⟩
 .have c:=da (show ¬((s.size:Int)<=40) by omega);have e:dE s=false:=by unfold dE;rw[da b,uc]
  rw[e];clear e;go_enter xk,ntmps101;go_wp2;go_ret;exact⟨rfl,rfl⟩
def afl(s:ByteArray)(n:Nat)(H:s.size*n<=100)(G:s.size<=100)(j:n<=100)(w:World) :
  Calls (ai β) 104 #[.string s,.int .i64 n] w λe r=>(∃t:ByteArray,e=.returned (.string t)/\t.size<=100)/\w=r:=by
 go_enter yL,ntmps104;go_wp2
 go_loop [0,1,5] (λa i o=>∃(x y:ByteArray) (k:Nat),a=.string x/\i=.int .i64 k/\o=.string y/\y.size+x.size*k<=100/\x.size<=200/\k<=100) (λ_ i _=>(intOf i).toNat)
 case atStart=>exact⟨s,⟨#[]⟩,n,rfl,rfl,rfl,by show 0+_<=_;omega,by omega,j⟩
 case round=>
  obtain⟨x,y,k,rfl,rfl,rfl,d,C,F⟩:=hrel;have c:(x++x).size=x.size+x.size:=by rw[<-aM,gG,ap,aM]
  have f:(y++x).size=y.size+x.size:=by rw[<-aM,gG,ap,aM,aM]
  by_cases v:k=0
  .subst v;go_wp2;go_ret;exact⟨⟨y,rfl,by omega⟩,rfl⟩
  .have A:x.size<=100:=by
    have:x.size*1<=x.size*k:=Nat.mul_le_mul_left _ (by omega);omega
   obtain⟨m,p⟩:∃m,m=k / 2:=⟨_,rfl⟩;have E:(k:Int) / 2=((m:Nat):Int):=by omega
   have D:0<(k:Int):=by omega
   have z:m<=100/\m<k:=by omega
   have u:y.size<=100:=by omega
   rcases uV k with l|l
   .have q:(k:Int) % 2=0:=by omega
    have b:(x.size+x.size)*m=x.size*k:=by
     have:k=2*m:=by omega
     rw[this,<-Nat.two_mul,tU 2,Nat.mul_assoc]
    have g:=ab b;replace c:=ab c;replace d:=ab d;clear b f l p;go_wp2
    go_round
    case rel=>exact⟨x++x,y,m,rfl,rfl,rfl,by rw[c.out,g.out];exact d.out,by rw[c.out];omega,by omega⟩
    simp[intOf];omega
   .have q:(k:Int) % 2=1:=by omega
    have b:y.size+x.size+(x.size+x.size)*m=y.size+x.size*k:=by
     have:k=2*m+1:=by omega
     rw[this,Nat.mul_add,<-Nat.two_mul,tU 2,Nat.mul_assoc,tA];omega
    have g:=ab b;replace c:=ab c;replace f:=ab f;replace d:=ab d;clear b p;have B:(((k:Int) % 2) ==1)=true:=by rw[q];rfl
    go_wp2
    go_round
    case rel=>exact⟨x++x,y++x,m,rfl,rfl,rfl,by rw[c.out,f.out,g.out];exact d.out,by rw[c.out];omega,by omega⟩
    simp[intOf];omega
def jq(s:ByteArray)(p:s.size<=maxLen)(w:World) :
  Calls (ai β) 100 #[.string s] w λe o=>e=.returned (.bool (gS s))/\w=o:=by
 unfold maxLen at p;by_cases j:s.size=1
 .have m:((s.size:Int) ==1)=true:=by rw[j];rfl
  have a:0<s.size:=by omega
  have d:nm (s[0]'a).toNat=gS s:=by unfold gS;rw[tF j]
  have q:=ab d;clear d;have HC:=ab (pI (β:=β) (s[0]'a).toNat w);go_enter wv,ntmps100;go_wp2;refine HC.out.mono ?_;rintro e i ⟨rfl,rfl⟩;rw[q.out];go_wp2;go_ret;exact⟨rfl,rfl⟩
 .by_cases l:s.size=3
  .have m:((s.size:Int) ==1)=false:=du.2 (by omega);have n:((s.size:Int) ==3)=true:=by rw[l];rfl
   have a:0<s.size:=by omega
   have c:1<s.size:=by omega
   have f:2<s.size:=by omega
   have d:gS s=(nm (s[0]'a).toNat&&(decide ((s[1]'c).toNat=47)&&nm (s[2]'f).toNat)):=by unfold gS;rw[dif_neg j,tF l]
   have HC:=ab (pI (β:=β) (s[0]'a).toNat w);have g:=ab (pI (β:=β) (s[2]'f).toNat w);rw[d];clear d;revert HC;revert g;generalize nm (s[0]'a).toNat=q0;generalize nm (s[2]'f).toNat=q2;intro g HC;cases q0
   .go_enter wv,ntmps100;go_wp2;refine HC.out.mono ?_;rintro e i ⟨rfl,rfl⟩;go_wp2;go_ret;exact⟨rfl,rfl⟩
   .by_cases b:(s[1]'c).toNat=47
    .rw[de b];have k:(((s[1]'c).toNat:Int) ==47)=true:=by rw[b];rfl
     clear b;go_enter wv,ntmps100;go_wp2;refine HC.out.mono ?_;rintro e i ⟨rfl,rfl⟩;go_wp2;refine g.out.mono ?_;rintro e i ⟨rfl,rfl⟩;go_wp2;go_ret;exact⟨by cases q2<;>rfl,rfl⟩
    .rw[da b];have k:(((s[1]'c).toNat:Int) ==47)=false:=du.2 (by omega);clear b;go_enter wv,ntmps100;go_wp2;refine HC.out.mono ?_;rintro e i ⟨rfl,rfl⟩;go_wp2;go_ret;exact⟨rfl,rfl⟩
  .have m:((s.size:Int) ==1)=false:=du.2 (by omega);have n:((s.size:Int) ==3)=false:=du.2 (by omega);have d:gS s=false:=by unfold gS;rw[dif_neg j,dif_neg l]
   rw[d];clear d;go_enter wv,ntmps100;go_wp2;go_ret;exact⟨rfl,rfl⟩
def jr(s t:ByteArray):Bool:=if h:0<s.size/\0<t.size then(if s.size=t.size then false else((s[0]'h.1).toNat:Int) ==((t[0]'h.2).toNat:Int)) else false
def aik(s t:ByteArray)(o:0<s.size/\s.size<=maxLen)(n:0<t.size/\t.size<=maxLen)(w:World) :
  Calls (ai β) 125 #[.string s,.string t] w λe m=>e=.returned (.bool (jr s t))/\Below w.heap.size w m:=by
 obtain⟨a,k⟩:=o;obtain⟨b,l⟩:=n;by_cases j:s.size=t.size
 .have d:jr s t=false:=by unfold jr;rw[tF ⟨a,b⟩,dj j]
  rw[d];clear d;go_enter xh,ntmps125;go_wp2;refine aZ 12 [0,1,2,3,4,5,6,7,8,9,10,11] [] (h:= ?_);simp only[pick,List.map,mx,mT];repeat(go_big_quiet_step (fail))
  refine gE ?_;apply Exists.intro;refine cV ?_;intro p i g f c;dsimp only[iv] at c;try rw[f] at c
  clear f g;simp only[List.drop];clear c;go_wp2;go_ret;exact⟨rfl,i⟩
 .have q:((s.size:Int) !=(t.size:Int))=true:=by simp;omega
  have d:jr s t=(((s[0]'a).toNat:Int) ==((t[0]'b).toNat:Int)):=by unfold jr;rw[tF ⟨a,b⟩,bv j]
  rw[d];clear d;go_enter xh,ntmps125;go_wp2;refine aZ 12 [0,1,2,3,4,5,6,7,8,9,10,11] [] (h:= ?_);simp only[pick,List.map,mx,mT];repeat(go_big_quiet_step (fail))
  refine gE ?_;apply Exists.intro;refine cV ?_;intro p i g f c;dsimp only[iv] at c;try rw[f] at c
  clear f g;simp only[List.drop];clear c;go_wp2;go_ret;exact⟨rfl,i⟩
def dig(x:Nat):Int:=((x:Int)-97) % 256
def pJ(l:List Nat)(p:Nat):Bool:=(dig (l.getD (p-1) 0)+2*dig (l.getD (p-2) 0)+3*dig (l.getD (p-3) 0)) % 5 ==0
def aag(h:k<s.size):(bs s).getD k 0=(s[k]'h).toNat:=by rw[sQ,pG h];rfl
def alP(s:ByteArray)(p:Nat)(v:3<=p/\p<s.size)(r:s.size<=maxLen)(w:World) :
  Calls (ai β) 213 #[.string s,.int .i64 p] w λe o=>e=.returned (.bool (pJ (bs s) p))/\Below w.heap.size w o:=by
 unfold maxLen at r;obtain⟨a,k⟩:∃a,a=p-1:=⟨_,rfl⟩;obtain⟨b,i⟩:∃b,b=p-2:=⟨_,rfl⟩;obtain⟨c,n⟩:∃c,c=p-3:=⟨_,rfl⟩;have m:a<s.size:=by omega
 have f:b<s.size:=by omega
 have g:c<s.size:=by omega
 have y:(p:Int)-1=((a:Nat):Int):=by omega
 have x:(p:Int)-2=((b:Nat):Int):=by omega
 have z:(p:Int)-3=((c:Nat):Int):=by omega
 have t:(p:Int)<=9223372036854775807:=by omega
 have j:pJ (bs s) p=((dig (s[a]'m).toNat+2*dig (s[b]'f).toNat+3*dig (s[c]'g).toNat) % 5 ==0):=by unfold pJ;rw[<-k,<-i,<-n,aag m,aag f,aag g]
 rw[j];clear k i n j;go_enter xT,ntmps213;go_wp2;refine aZ 24 [0,1,2,3,4,5,6,7,8,9,10,11,12,13,14,15,16,17,18,19,20,21,22,23] [] (h:= ?_);simp only[pick,List.map,mx,mT];repeat(go_big_quiet_step (fail))
 refine gE ?_;apply Exists.intro;refine cV ?_;intro A u q l d;dsimp only[iv] at d;try rw[l] at d
 clear l q;simp only[List.drop];clear d;go_wp2;go_ret;exact⟨av rfl,u⟩
end
section
variable {β:Bool}
open Go.RowKit
structure Flat (α:Type) where
 sz:Nat
 cells:α->List Value
 good:α->Prop
 len:∀x,(cells x).length=sz
 one:∀x,∀u∈cells x,u.oneCell'=true
 pos:0<sz
def bR{α:Type}(F:Flat α):gR α:=λ_ _ _ x a=>a=F.cells x/\F.good x
section
variable {α:Type} (F:Flat α)
def bR.loc:Lcy (bR F):=⟨λ_ _ _ h=>h⟩
def dL(xs:List α):List Value:=xs.flatMap F.cells
def nQ(xs a:List α):dL F (xs++a)=dL F xs++dL F a:=qC
def afm(x:α):dL F [x]=F.cells x:=by simp[dL]
def eT:∀a:List α,(dL F a).length=a.length*F.sz
 |[]=>by simp[dL]
 |x::a=>by
  show(F.cells x++dL F a).length=_;rw[ap,eT a,F.len,fi,rE,Nat.add_comm]
def iF:∀(a:List α) (i j:Nat) (x:α) (u:Value),a[i]?=some x->(F.cells x)[j]?=some u->(dL F a)[i*F.sz+j]?=some u
 |[],i,j,x,u,h,_=>by simp at h
 |g::a,i,j,x,u,h,hj=>by
  have b:=aI hj;rw[F.len] at b;show(F.cells g++dL F a)[i*F.sz+j]?=some u;cases i with
  |zero=>
   simp at h;subst h;rw[qE (by rw[F.len,sA,lm];exact b),sA,lm];exact hj
  |succ i=>
   have e:(i+1)*F.sz+j=F.sz+(i*F.sz+j):=by rw[rE];omega
   rw[e,qr (by rw[F.len];omega),F.len,se];exact iF a i j x u (by simpa using h) hj
def apA{xs:List α}(h:(dL F xs)[j]?=some u):∃x,xs[j / F.sz]?=some x/\(F.cells x)[j % F.sz]?=some u:=by
 have a:=aI h;rw[eT] at a;have d:j / F.sz<xs.length:=Nat.div_lt_of_lt_mul (by rw[tU];exact a);refine⟨xs[j / F.sz],ls d, ?_⟩;have b:j % F.sz<(F.cells xs[j / F.sz]).length:=by rw[F.len];exact ua _ F.pos
 have c:=iF F xs (j / F.sz) (j % F.sz) xs[j / F.sz] _ (ls d) (ls b);rw[Nat.div_add_mod'] at c;rw[ls b,<-c,h]
def aah(xs:List α):∀u∈dL F xs,u.oneCell'=true:=by
 intro u a;obtain⟨g,_,b⟩:=ph.1 a;exact F.one g u b
def aD(e:TypeId)(w:World)(base:Nat)(v:Value)(xs:List α):Prop:=w.ownsRow base e F.sz v xs.length (dL F xs)
variable {F}
def aD.sl{base : Nat}{xs:List α}(h:aD F e w base v xs)(c:∀x∈xs,F.good x)(b:w.heap.size<=hi):cB (bR F) F.sz w base hi xs [v]:=
 arG h b λi x hi=>⟨F.cells x,F.len x,⟨rfl,c x (aE hi)⟩,λ_ _ a=>iF F xs i _ x _ hi a⟩
def ajB{base : Nat}(h:w.ownsRow base e Z v n R)(d:base'<=base):w.ownsRow base' e Z v n R:=by
 refine⟨h.1, ?_⟩;rcases h.2 with f|⟨g,cap,b,rfl,c,a⟩
 .exact .inl f
 .exact .inr ⟨g,cap,b,rfl,db d c,a⟩
def aD.base{base : Nat}{xs:List α}(h:aD F e w base v xs)(a:base'<=base):aD F e w base' v xs:=ajB h a
def aD.nil(e:TypeId)(w:World)(base:Nat):aD F e w base (.slice none 0 0) []:=vd _ _ _ _
def aD.abJ{base:Nat}(h:dW base e v w):aD F e w base v []:=h.own F.sz
def aD.below{base:Nat}{xs:List α}(h:aD F e w base v xs)(a:Below w.heap.size w w'):aD F e w' base v xs:=afg h a
def aD.fP{base:Nat}{xs:List α}(h:aD F e w base v xs)(c:bV S w w')(a:∀b,v.ownBlock=some b->¬S b):aD F e w' base v xs:=ah9 h c a
def aD.at_{base:Nat}{xs:List α}(h:aD F e w base v xs)(a:v.ownBlock=some g):base<=g/\g<w.heap.size:=h.lt g a
def aD.bC{base:Nat}{xs:List α}(h:aD F e w base v xs)(u:Value)(c:p.block<base):aD F e (w.setCell p u) base v xs:=
 h.fP (S:=λb=>b=p.block) ((bV.refl (λb=>b=p.block) w).setCell (p:=p) (.inl rfl) u) λb a e=>by have:=h.at_ a;omega
def apB{base : Nat}{e' : TypeId}{v' : Value}{cs : List Value}(h:w.ownsRow base e Z v n cs)(m:w.ownsRow base' e' N v' c R)(o:e≠e'):∀b,v.ownBlock=some b->v'.ownBlock≠some b:=by
 intro b d a;rcases h.2 with⟨rfl,_⟩|⟨g,cap,l,rfl,_,j,_⟩
 .simp[Value.ownBlock] at d
 .rcases m.2 with⟨rfl,_⟩|⟨p,i,k,rfl,_,f,_⟩
  .simp[Value.ownBlock] at a
  .simp[Value.ownBlock] at d a;rw[d] at j;rw[a,j] at f;simp at f;exact o f.2
def aD.arP{base:Nat}{xs:List α}(h:aD F e w base v xs)(u:Value)(a:∀b,v.ownBlock=some b->b≠p.block):aD F e (w.setCell p u) base v xs:=
 h.fP (S:=λb=>b=p.block) ((bV.refl (λb=>b=p.block) w).setCell (p:=p) (.inl rfl) u) a
def aD.form{base:Nat}{xs:List α}(h:aD F e w base v xs):∃A c,v=.slice A xs.length c:=jR h
def agZ:∀(a:List α) (i j:Nat) (x y:α) (u:Value),a[i]?=some x->j<F.sz->F.cells y=(F.cells x).set j u->dL F (a.set i y)=(dL F a).set (i*F.sz+j) u
 |[],i,j,x,y,u,h,_,_=>by simp at h
 |z::a,0,j,x,y,u,h,hj,hy=>by
  simp at h;subst h;show F.cells y++dL F a=(F.cells z++dL F a).set (0*F.sz+j) u
  rw[sA,lm,List.set_append_left _ _ (by rw[F.len];exact hj),hy]
 |z::a,i+1,j,x,y,u,h,hj,hy=>by
  show F.cells z++dL F (a.set i y)=(F.cells z++dL F a).set ((i+1)*F.sz+j) u
  have e:(i+1)*F.sz+j=F.sz+(i*F.sz+j):=by rw[rE];omega
  rw[e,vQ _ _ (by rw[F.len];omega),F.len,se,agZ a i j x y u (by simpa using h) hj hy]
def aD.put{base cap : Nat}{xs:List α}(h:aD F e w base (.slice (some ⟨g,0,none⟩) xs.length cap) xs){x y:α}(c:xs[i]?=some x)(a:j<F.sz)(b:F.cells y=(F.cells x).set j u) :
  aD F e (w.setCell ⟨g,i*F.sz+j,none⟩ u) base (.slice (some ⟨g,0,none⟩) xs.length cap) (xs.set i y):=by
 unfold aD;rw[agZ xs i j x y u c a b,qP];exact(h.stored _ u).1
def aD.cell{base cap : Nat}{xs:List α}(h:aD F e w base (.slice (some ⟨g,0,none⟩) xs.length cap) xs){x:α}(b:xs[i]?=some x)(a:(F.cells x)[j]?=some u):w.cell? ⟨g,i*F.sz+j,none⟩=some u:=by
 have c:=aI a;rw[F.len] at c;have d:=aI b;have f:(i+1)*F.sz<=xs.length*F.sz:=rH _ d;rw[rE] at f;rw[h.cellAt _ (by omega)];exact iF F xs i j x u b a
def aD.frozen{base cap : Nat}{xs:List α}(h:aD F e w base (.slice (some ⟨g,0,none⟩) n cap) xs)(a:n=xs.length)(j:Nat):w.frozen? ⟨g,j,none⟩=false:=by
 subst a;exact h.frozenAt j
def aD.some_{base:Nat}{xs:List α}(h:aD F e w base v xs)(b:0<xs.length):∃g c,v=.slice (some ⟨g,0,none⟩) xs.length c:=by
 rcases h.2 with⟨_,d⟩|⟨g,cap,a,rfl,_⟩
 .omega
 .exact⟨g,cap,rfl⟩
def jN{xs:List α}(h:cB (bR F) F.sz w lo hi xs [.slice A n c])(t:hi<=w.heap.size) :
  0<xs.length->∃a,A=some a/\∀(j:Nat) (u:Value),(dL F xs)[j]?=some u->∀f,Below w.heap.size w f->f.cell? (a.add j)=some u:=by
 intro k;obtain⟨x,p⟩:=ak k;obtain⟨b,d,_,rfl,_⟩:=h.at_ p;refine⟨_,rfl,λj u m f o=> ?_⟩;obtain⟨y,l,g⟩:=apA F m;obtain⟨s,v,r,e,_,_,_,⟨rfl,_⟩,q⟩:=h.at_ l;simp only[jt,qd,qh] at e;obtain⟨rfl,rfl⟩:=e;have i:(⟨b,d,none⟩:Addr).add j=⟨b,d+j,none⟩:=by unfold Addr.add;split<;>simp_all
 rw[i];have:=q _ _ g;rw[uW,Nat.div_add_mod'] at this;exact fL o this
def cB.good{xs:List α}{cs:List Value}(h:cB (bR F) F.sz w lo hi xs cs):∀x∈xs,F.good x:=λx b=>by
 obtain⟨c,a⟩:=h.alx x b;exact a.2
end
def fp:Flat Int:=⟨1,λx=>[.int .i64 x],bX,λ_=>rfl,λx u a=>by rw[ge.1 a];rfl,by decide⟩
def ng(xs:List Int):dL fp xs=xs.map (Value.int .i64):=by
 induction xs with
 |nil=>rfl
 |cons x xs a=>show Value.int .i64 x::dL fp xs=_;rw[a];rfl
def aq8{base:Nat}{xs:List Int}:auP w base v xs↔aD fp 3 w base v xs:=by
 unfold auP aD;rw[ng];exact Iff.rfl
section
variable {P:Program}
def ajC {ty : TypeId} (p:iw P t e Z N) {base:Nat} (r:dW base e v w)
  {news:List Value} (D:news.length=m*Z) (F:0<m->∃a,A=some a/\∀(j:Nat) (u:Value),news[j]?=some u->w.cell? (a.add j)=some u) (J:∀u∈news,u.oneCell'=true)
  (R:m<=1099511627776) (l:base<=w.heap.size) :
  ∃E s,(Builtin.append_ #[t,t] ty #[v,.slice A m c]).run P w=.ok E s/\s.ownsRow base e Z E m news/\Below w.heap.size w s:=by
 obtain⟨i,z,G,M,B,C,S⟩:=p.info;have o:=r.own Z;obtain⟨K,I,d,y⟩:=an0 (P:=P) (ty:=ty) p o (c:=c) D F J (by omega) l;have b:=y.own;rw[lm,ry] at b;refine⟨K,I,d,b, ?_⟩;obtain⟨g,rfl,O,H⟩:=r;rcases nf m with x|x
 .subst x;have q:news=[]:=sd (by simpa using D);subst q;have k:(Builtin.append_ #[t,t] ty #[.slice (some ⟨g,0,none⟩) 0 0,.slice A 0 c]).run P w=.ok (.slice (some ⟨g,0,none⟩) 0 0) w:=by
   cases A<;>simp[Builtin.append_,lw p.slice,sizeOf,typeInfo,G,Builtin.lenOf,Builtin.firstCells,storeCells,loadCells,loadCellsFrom]
  rw[k] at d;cases d;exact fm _ _
 .obtain⟨L,rfl,n⟩:=F x;have f:m*N<=140737488355328:=db (Nat.mul_le_mul R p.small) (by omega);have k:=run_append_grow (P:=P) w t ty e i z p.slice G M ⟨g,0,none⟩ 0 0 [] (by simp) (λj u Q=>by simp at Q) L m c news (by rw[B];exact D) n (by omega) (by omega) (growslice_fits (by omega) (by rw[C,lm];exact f));rw[k] at d;cases d;exact((fm _ _).drew).alloc (am _) _
variable {α:Type} {F:Flat α}
def mY (n:Below w.heap.size w x)     (g:o.guard=none) (s y:Operand) (t:TypeId)
  (D:o.op=.call ⟨.builtin .append,#[s,y],#[t,t]⟩)
  (B:iw P t e F.sz Z) {xs:List α} {base : Nat} (p:base<=w.heap.size) (I:a.eval s=v) (E:a.eval y=.slice A xs.length c) (k:dW base e v x)
  (m:0<xs.length->∃a,A=some a/\∀(j:Nat) (u:Value),(dL F xs)[j]?=some u->∀d,Below w.heap.size w d->d.cell? (a.add j)=some u) (J:xs.length<=1099511627776)
  (h:∀f i,Below x.heap.size x i->aD F e i base f xs->wpList P W T rest (a.put o.dst f) i):wpList P W T (o::rest) a x:=by
 obtain⟨f,d,G,b,l⟩:=ajC (P:=P) (ty:=o.type) B k (c:=c) (eT F xs) (λC=>by
  obtain⟨z,r,L⟩:=m C;exact⟨z,r,λj u H=>L j u H _ n⟩) (aah F xs) J (db p n.size)
 refine wpList_plain g λK q=> ?_;unfold Oper.wp execOp;simp only[D,resolve,invoke,builtin,tG,tT,uh,List.map_toArray,qK,List.map_nil,I,E,G];exact q _ _ (h f d l b)
def ajE {x:gh w}    (g:o.guard=none) (s y:Operand) (t:TypeId)
  (i:o.op=.call ⟨.builtin .append,#[s,y],#[t,t]⟩)
  (n:iw P t e F.sz Z) {xs:List α} {base : Nat} (q:base<=w.heap.size) (r:a.eval s=v) (p:a.eval y=.slice A xs.length c) (k:dW base e v x.to)
  (l:0<xs.length->∃a,A=some a/\∀(j:Nat) (u:Value),(dL F xs)[j]?=some u->∀m,Below w.heap.size w m->m.cell? (a.add j)=some u) (z:xs.length<=1099511627776)
  (h:∀d (f:gh w),gh.le x f->aD F e f.to base d xs->T .normal (a.put o.dst d) f.to):wpList P W T [o] a x.to:=
 mY x.ok g s y t i n q r p k l z λd f b i=>h d (x.mk' b) b i
def bM      (j:o.guard=none) (s x:Operand) (t:TypeId)
  (n:o.op=.call ⟨.builtin .append,#[s,x],#[t,t]⟩)
  (m:iw P t e F.sz Z) {base:Nat} {xs:List α} (y:α) (p:a.eval s=v) (f:aD F e w base v xs) {T:TypeId} (q:a.eval x=.slice (some ⟨w.heap.size,0,none⟩) 1 1) (d:es.toList=F.cells y)
  (r:xs.length<=1099511627775) (c:base<=w.heap.size)
  (h:∀i g,aD F e g base i (xs++[y])->bV (λb=>v.ownBlock=some b) w g->(∀b,i.ownBlock=some b->v.ownBlock=some b\/w.heap.size<=b)->wpList P W Q rest (a.put o.dst i) g) :
  wpList P W Q (o::rest) a (w.alloc (.cells es T)):=
 auO j s x t n m p f q (by rw[<-qX,d,F.len]) (by rw[d];exact F.one y) r c λi g k=>h i g (by
  have l:=k.own;unfold aD;rw[nQ,afm,ap];rw[d] at l;exact l) k.fP k.at_
def ag0      (k:o.guard=none) (s x:Operand) (t:TypeId)
  (r:o.op=.call ⟨.builtin .append,#[s,x],#[t,t]⟩)
  (q:iw P t e F.sz Z) {base:Nat} {xs:List α} (y:α) (B:a.eval s=v) (d:aD F e w base v xs)  {T:TypeId} (C:a.eval x=.slice (some ⟨g,0,none⟩) 1 1) (p:cg w g T es) (n:es.toList=F.cells y)
  (D:xs.length<=1099511627775) (c:base<=w.heap.size)
  (h:∀i f,aD F e f base i (xs++[y])->bV (λb=>v.ownBlock=some b) w f->(∀b,i.ownBlock=some b->v.ownBlock=some b\/w.heap.size<=b)->wpList P W Q rest (a.put o.dst i) f) :
  wpList P W Q (o::rest) a w:=
 ab5 k s x t r q B d C (news:=F.cells y) (by rw[F.len,Nat.one_mul]) (λ_=>⟨_,rfl,λj u z=>by
  have m:(⟨g,0,none⟩:Addr).add j=⟨g,j,none⟩:=by unfold Addr.add;split<;>simp_all
  rw[m,p.cell,<-eg,n];exact z⟩) (F.one y) (by omega) c λi f l=>h i f (by
  have A:=l.own;unfold aD;rw[nQ,afm,ap];exact A) l.fP l.at_
end
end
section
variable {β:Bool}
open Go.RowKit
def Typed(w:World)(T:List TypeId)(b:Nat):Prop:=∃t∈T,∃a,cg w b t a
structure eK {α:Type} (E:gR α) (T:List TypeId):Prop where
 go:∀{w w':World} {lo hi pF hi':Nat} {x:α} {cs:List Value},
  (∀b,lo<=b->b<hi->Typed w T b->w'.heap[b]?=w.heap[b]?)->pF<=lo->hi<=hi'->E w lo hi x cs->E w' pF hi' x cs
section
variable {α:Type} {E:gR α} {T:List TypeId}
def eK.loc(d:eK E T):Lcy E:=⟨λh a c e=>d.go (λb a c _=>h b a c) a c e⟩
def eK.more(d:eK E T){U:List TypeId}(f:∀t∈T,t∈U):eK E U:=⟨λh c a e=>d.go (λb c a ⟨t,ht,hd⟩=>h b c a ⟨t,f t ht,hd⟩) c a e⟩
def eK.below(a:eK E T){B : Nat}{x:α}{cs:List Value}(h:E w lo hi x cs)(c:Below B w w')(b:hi<=B):E w' lo hi x cs:=a.loc.below h c b
def eK.wide(a:eK E T){pF hi' : Nat}{x:α}{cs:List Value}(h:E w lo hi x cs)(c:pF<=lo)(b:hi<=hi'):E w pF hi' x cs:=a.loc.wide h c b
def fF(h:cg w b t cs)(a:cg w b e U):t=e:=by
 unfold cg at h a;rw[h] at a;simp at a;exact a.2
def eK.fP(c:eK E T){x:α}{cs:List Value}(h:E w lo hi x cs)(i:bV S w w')(f:∀b,lo<=b->b<hi->Typed w T b->¬S b):E w' lo hi x cs:=
 c.go (λb g e a=>i.block b (by obtain⟨_,_,_,d⟩:=a;exact d.lt) (f b g e a)) (am _) (am _) h
def bR.az{α:Type}(F:Flat α):eK (bR F) []:=⟨λ_ _ _ h=>h⟩
def fq(e:TypeId)(E:gR α)(sz:Nat):gR (List α):=λw i j f d=>
 cB E sz w i j f d/\(0<f.length->∀b a n c,d=[.slice (some ⟨b,a,none⟩) n c]->∃g,cg w b e g)
def fq.az(D:eK E T)  :eK (fq e E Z) (e::T):=by
 refine⟨?_⟩;intro w M S R N l Q P s o B ⟨⟨A,c,a,C,J,h⟩,p⟩;refine⟨⟨A,c,a,C,J,λm=> ?_⟩,λm b f n O r=> ?_⟩
 .obtain⟨b,f,rfl,k,g,I⟩:=h m;have q:=p m b f _ _ a;refine⟨b,f,rfl,db o k,bd g B,λi x l=> ?_⟩;obtain⟨G,F,K,d⟩:=I i x l;exact⟨G,F,D.go (λb k g ⟨t,p,hd⟩=>s b k g ⟨t,qL _ p,hd⟩) o B K,λj u H=>(qy (s b k g ⟨e,qV,q⟩)).trans (d j u H)⟩
 .obtain⟨z,L,y,k,g,_⟩:=h m;rw[a,y] at r;simp only[qf,qa,jt,qd,qh] at r;obtain⟨⟨rfl,rfl⟩,_,_⟩:=r;have q:=p m z L _ _ (a.trans (by rw[y]));obtain⟨v,hd⟩:=q;exact⟨v,(s z k g ⟨e,qV,v,hd⟩).trans hd⟩
def fq.form{xs:List α}(h:fq e E Z w lo hi xs [v]):∃A c,v=.slice A xs.length c:=h.1.form
def afn(E:gR α)(sz:Nat)(e:TypeId)(w:World)(lo base:Nat)(v:Value)(xs:List α):Prop:=
 ∃cells:List Value,w.ownsRow base e sz v xs.length cells/\(∀u∈cells,u.oneCell'=true)/\
  ∀i x,xs[i]?=some x->∃a:List Value,a.length=sz/\E w lo w.heap.size x a/\∀j u,a[j]?=some u->cells[i*sz+j]?=some u
variable {sz:Nat} {e:TypeId}
def afn.blk{base : Nat}{xs:List α}(h:afn E sz e w lo base v xs)(a:v.ownBlock=some g):∃d,cg w g e d:=by
 obtain⟨cells,h,_⟩:=h;rcases h.2 with⟨rfl,_⟩|⟨f,cap,b,rfl,_,c,_⟩
 .cases a
 .cases a;exact⟨_,c⟩
def afn.sl{base : Nat}{xs:List α}(h:afn E sz e w lo base v xs)(m:lo<=base):fq e E sz w lo w.heap.size xs [v]:=by
 have K:=λg t=>h.blk (g:=g) t;obtain⟨cells,p,_,s⟩:=h;refine⟨?_,λA b B n c q=> ?_⟩
 .obtain⟨L,F⟩:=p;rcases F with⟨rfl,a⟩|⟨g,cap,d,rfl,l,r,o,k,G,J⟩
  .exact⟨none,0,by rw[a],by omega,by unfold maxLen;omega,λA=>by omega⟩
  .refine⟨_,cap,rfl,o,k,λ_=>⟨g,0,rfl,db m l,(dq.1 r).1,λi x H=> ?_⟩⟩;obtain⟨C,m,I,z⟩:=s i x H;refine⟨C,m,I,λj u D=> ?_⟩;have f:=z j u D;rw[<-J,rj] at f;split at f
   .rw[cell_of_row w g (0+i*sz+j) d _ (0,0) r,lm];simpa using f
   .cases f
 .simp only[qf,qh] at q;subst q;rcases p.2 with⟨a,_⟩|⟨g,cap,d,a,_,y,_⟩
  .cases a
  .cases a;exact⟨_,y⟩
def aD.deep{α:Type}{F:Flat α}{base:Nat}{xs:List α}(h:aD F e w base v xs)(b:∀x∈xs,F.good x)(lo:Nat):afn (bR F) F.sz e w lo base v xs:=
 ⟨_,h,aah F xs,λi x a=>⟨F.cells x,F.len x,⟨rfl,b x (aE a)⟩,λ_ _ c=>iF F xs i _ x _ a c⟩⟩
end
section
variable {P:Program} {α:Type} {E:gR α} {T:List TypeId} {sz:Nat} {e:TypeId}
end
section
variable {α:Type} {E:gR α}
def nR(b o i:Nat):(⟨b,o,none⟩:Addr).add i=⟨b,o+i,none⟩:=by unfold Addr.add;split<;>simp_all
def fq.adt{xs:List α}(h:fq e E Z w lo hi xs [.slice A n c])(H:k<=xs.length):fq e E Z w lo hi (xs.drop k) [.slice (if c=k then A else A.map λx=>x.add (k*Z)) (xs.length-k) (c-k)]:=by
 obtain⟨⟨A',s,o,I,J,r⟩,t⟩:=h;simp only[qf,qa,qh] at o;obtain⟨rfl,rfl,rfl⟩:=o;refine⟨⟨_,c-k,by rw[pi],by rw[pi];omega,by omega,λm=> ?_⟩,λm b g G s l=> ?_⟩
 .rw[pi] at m;have d:¬c=k:=by omega
  have a:0<xs.length:=by omega
  obtain⟨b,g,rfl,q,p,f⟩:=r a;refine⟨b,g+k*Z,by rw[bv d];simp[Addr.add],q,p,λi x hi=> ?_⟩;rw[tq] at hi;obtain⟨z,C,v,y⟩:=f _ _ hi;refine⟨z,C,v,λj u D=> ?_⟩;have:=y j u D;rw[<-this,Nat.add_mul]
  congr 2
  omega
 .rw[pi] at m;have d:¬c=k:=by omega
  have a:0<xs.length:=by omega
  obtain⟨B,F,rfl,q,p,f⟩:=r a;rw[bv d] at l;simp only[qe,nR,qf,qa,jt,qd,qh] at l;obtain⟨⟨rfl,_⟩,_⟩:=l;exact t a B F _ _ rfl
def fq.aji{xs:List α}(h:fq e E Z w lo hi xs [.slice A n c])(u:k<=xs.length):fq e E Z w lo hi (xs.take k) [.slice A k c]:=by
 obtain⟨⟨A',o,j,v,s,r⟩,p⟩:=h;simp only[qf,qa,qh] at j;obtain⟨rfl,rfl,rfl⟩:=j;have d:(xs.take k).length=k:=by rw[ff];omega
 refine⟨⟨_,c,by rw[d],by rw[d];omega,s,λg=> ?_⟩,λg b a t o l=> ?_⟩
 .rw[d] at g;obtain⟨b,a,rfl,q,m,f⟩:=r (by omega);refine⟨b,a,rfl,q,m,λi x hi=> ?_⟩;rw[rj] at hi;split at hi
  .exact f _ _ hi
  .cases hi
 .rw[d] at g;simp only[qf,qa,qh] at l;obtain⟨rfl,rfl,rfl⟩:=l;exact p (by omega) b a _ _ rfl
end
def aep{F:Flat X}{base : Nat}{xs:List X}(c:cg w g e cs)(a:cs.toList=dL F xs)(f:base<=g)(i:n=xs.length)(b:n<=maxLen):aD F e w base (.slice (some ⟨g,0,none⟩) n n) xs:=by
 subst i;have d:cs.toList.length=xs.length*F.sz:=by rw[a,eT]
 exact⟨eT F xs,.inr ⟨g,xs.length,cs,rfl,f,c,am _,b,by rw[<-qX];exact d,by rw[a,qj (by rw[eT];exact am _)]⟩⟩
end
section
variable {β:Bool}
structure Sp where
 n:Int
 p:Int
def ad7(l:List Sp):Prop:=l.Pairwise λa b=>a.n<b.n
def spP(s:Sp):Prop:=(0<=s.n/\s.n<=999999999988)/\(1<=s.p/\s.p<=99)
def ixP(l:List Sp):Prop:=(∀s∈l,spP s)/\ad7 l
def fQ(s:Sp):List Sp->List Sp
 |[]=>[s]
 |x::xs=>if s.n<x.n then s::x::xs else if x.n<s.n then x::fQ s xs else s::xs
def ab9{s x:Sp}:∀{l:List Sp},x∈fQ s l->x=s\/x∈l
 |[],h=>by have:x∈[s]:=h;simp at this;exact .inl this
 |y::l,h=>by
  have a:x∈(if s.n<y.n then s::y::l else if y.n<s.n then y::fQ s l else s::l):=h;split at a
  .rcases me.1 a with e|e
   .exact .inl e
   .exact .inr e
  .split at a
   .rcases me.1 a with e|e
    .exact .inr (by rw[e];simp)
    .rcases ab9 e with e|e
     .exact .inl e
     .exact .inr (by simp[e])
   .rcases me.1 a with e|e
    .exact .inl e
    .exact .inr (by simp[e])
def auV{s:Sp}:∀{l:List Sp},s∈fQ s l
 |[]=>by show s∈[s];simp
 |y::l=>by
  show s∈(if s.n<y.n then s::y::l else if y.n<s.n then y::fQ s l else s::l);split
  .simp
  .split
   .exact qL _ auV
   .simp
def afo{s:Sp}:∀{l:List Sp},ad7 l->ad7 (fQ s l)
 |[],_=>rM _ _
 |y::l,h=>by
  have c:=sB.1 h;show ad7 (if s.n<y.n then s::y::l else if y.n<s.n then y::fQ s l else s::l);split
  .rename_i b;refine sB.2 ⟨λz a=> ?_,h⟩;rcases me.1 a with rfl|a
   .exact b
   .have:=c.1 z a;omega
  .split
   .rename_i b;refine sB.2 ⟨λz a=> ?_,afo c.2⟩;rcases ab9 a with rfl|a
    .exact b
    .exact c.1 z a
   .refine sB.2 ⟨λz a=> ?_,c.2⟩;have:=c.1 z a;omega
def auW{s:Sp}{l:List Sp}(h:ixP l)(b:spP s):ixP (fQ s l):=⟨λx a=>by
 rcases ab9 a with rfl|a
 .exact b
 .exact h.1 x a,afo h.2⟩
def afp{s:Sp}:∀{l:List Sp},(fQ s l).length<=l.length+1
 |[]=>by show[s].length<=_;simp
 |y::l=>by
  show(if s.n<y.n then s::y::l else if y.n<s.n then y::fQ s l else s::l).length<=_;split
  .simp
  .split
   .have:=afp (s:=s) (l:=l);simp;omega
   .simp
def aca{s:Sp}:∀{a b:List Sp},(∀x∈a,x.n<s.n)->fQ s (a++b)=a++fQ s b
 |[],_,_=>rfl
 |x::a,b,h=>by
  have d:=h x (by simp);show(if s.n<x.n then s::x::(a++b) else if x.n<s.n then x::fQ s (a++b) else s::(a++b))=x::(a++fQ s b);rw[bv (by omega),dj d,aca λy c=>h y (by simp[c])]
def ag1{s x:Sp}(c:s.n<x.n):∀{a b:List Sp},fQ s (a++x::b)=fQ s a++x::b
 |[],b=>by
  show(if s.n<x.n then s::x::b else _)=[s]++x::b;rw[dj c];rfl
 |y::a,b=>by
  show(if s.n<y.n then s::y::(a++x::b) else if y.n<s.n then y::fQ s (a++x::b) else s::(a++x::b))=(if s.n<y.n then s::y::a else if y.n<s.n then y::fQ s a else s::a)++x::b;split
  .rfl
  .split
   .rw[ag1 c];rfl
   .rfl
inductive Tr where
 |nil
 |node (b:Nat) (s:Sp) (l r:Tr)
namespace Tr
end Tr
def eA:List Sp->List Sp->List Sp
 |[],l=>l
 |s::ss,l=>eA ss (fQ s l)
def acb:∀(a b l:List Sp),eA (a++b) l=eA b (eA a l)
 |[],_,_=>rfl
 |s::a,b,l=>acb a b (fQ s l)
def ag2:∀{a l:List Sp},ad7 l->ad7 (eA a l)
 |[],_,h=>h
 |s::a,l,h=>by show ad7 (eA a (fQ s l));exact ag2 (afo h)
def ajF:∀{a l:List Sp},ixP l->(∀s∈a,spP s)->ixP (eA a l)
 |[],_,h,_=>h
 |s::a,l,h,hs=>by show ixP (eA a (fQ s l));exact ajF (auW h (hs s (by simp))) λx b=>hs x (by simp[b])
def ag3:∀{a l:List Sp},(eA a l).length<=a.length+l.length
 |[],_=>by show _<=_;simp[eA]
 |s::a,l=>by
  have b:=ag3 (a:=a) (l:=fQ s l);have c:=afp (s:=s) (l:=l);show(eA a (fQ s l)).length<=_;simp only[fi];omega
def apC{s:Sp}{l:List Sp}(h:∀x∈l,x.n<s.n):fQ s l=l++[s]:=by
 have:=aca (s:=s) (a:=l) (b:=[]) h;rw[sM] at this;rw[this];rfl
def eB(n:Int):List Sp->Int
 |[]=>0
 |x::xs=>if x.n=n then x.p else eB n xs
def ac2{s:Sp}{n:Int}:∀{l:List Sp},eB n (fQ s l)=if s.n=n then s.p else eB n l
 |[]=>by show(if s.n=n then s.p else 0)=_;rfl
 |x::l=>by
  show eB n (if s.n<x.n then s::x::l else if x.n<s.n then x::fQ s l else s::l)=_;split
  .rfl
  .split
   .show(if x.n=n then x.p else eB n (fQ s l))=(if s.n=n then s.p else(if x.n=n then x.p else eB n l));rw[ac2];split
    .rw[bv (by omega)]
    .rfl
   .show(if s.n=n then s.p else eB n l)=(if s.n=n then s.p else(if x.n=n then x.p else eB n l));split
    .rfl
    .rw[bv (by omega)]
end
section
variable {β:Bool}
open Go.RowKit
structure aW (w:World) (s:Nat) (ty:TypeId) (S:Nat->Prop) (pre:List Nat) where
 to:World
 done:Bool
 ok:bV (λb=>done=true/\S b) w to
section
variable {w:World} {s:Nat} {ty:TypeId} {S:Nat->Prop} {pre:List Nat}
instance at7:Nonempty (aW w s ty S pre):=⟨⟨w,false,bV.refl _ _⟩⟩
instance aw8:bh (aW w s ty S pre):=⟨λ_ _=>True,λ_ _ _=>trivial,λi x=>i=s\/i∈pre->x.done=false⟩
def aW.le(x y:aW w s ty S pre):Prop:=
 (y.done=x.done/\Below x.to.heap.size x.to y.to)\/(x.done=false/\y.done=true/\bV (λb=>S b\/(w.heap.size<=b/\∃a:Array Value,cg x.to b ty a)) x.to y.to)
def aW.le_refl(x:aW w s ty S pre):aW.le x x:=.inl ⟨rfl,fm _ _⟩
def aW.le.till{x y:aW w s ty S pre}(h:aW.le x y)(b:y.done=false):x.done=false/\Below x.to.heap.size x.to y.to:=by
 rcases h with⟨a,c⟩|⟨_,a,_⟩
 .exact⟨a▸b,c⟩
 .rw[b] at a;cases a
def aW.le.from_{x y:aW w s ty S pre}(h:aW.le x y)(b:x.done=true):y.done=true/\Below x.to.heap.size x.to y.to:=by
 rcases h with⟨a,c⟩|⟨a,_⟩
 .exact⟨a.trans b,c⟩
 .rw[b] at a;cases a
def ir(h:w.cell? p=some v)(b:¬S p.block):∀x:aW w s ty S pre,x.to.cell? p=some v:=λx=>by
 have a:=ud w p h;unfold World.cell? at h ⊢;rw[x.ok.block p.block a λh=>b h.2];exact h
def aW.till(x:aW w s ty S pre)(a:x.done=false):Below w.heap.size w x.to:=⟨x.ok.os,x.ok.tape,x.ok.output,x.ok.size,λb c=>x.ok.block b c λh=>by rw[a] at h;cases h.1⟩
def aW.all(x:aW w s ty S pre)(c:∀b,¬S b):Below w.heap.size w x.to:=⟨x.ok.os,x.ok.tape,x.ok.output,x.ok.size,λb a=>x.ok.block b a λh=>c b h.2⟩
def aW.on(x:aW w s ty S pre){w2:World}(hb:Below x.to.heap.size x.to w2):aW w s ty S pre:=⟨w2,x.done,x.ok.trans (bV.bF (S:=λb=>x.done=true/\S b) hb) λ_ _ e=>e⟩
def aW.did(x:aW w s ty S pre){w2:World}(hc:bV (λb=>S b\/(w.heap.size<=b/\∃a:Array Value,cg x.to b ty a)) x.to w2):aW w s ty S pre:=
 ⟨w2,true,(x.ok.mono (T:=λb=>true=true/\S b) λ_ _ h=>⟨rfl,h.2⟩).trans hc λb c h=>by
  rcases h with h|h
  .exact⟨rfl,h⟩
  .omega⟩
def lq     (s:Nat) (ty:TypeId) (S:Nat->Prop) (pre:List Nat) (n:Nat) (a b:List Nat) (f:P.follows .mixedOrders=true) (i:ajz O n a b=true) (c:afh O.toArray n Y.tmps.size=true)
  (h:wpQuiet P O.toArray (λd=>∃x:aW w s ty S pre,d=x.to) (λg=>∃e:List (iR (aW w s ty S pre)),cN P O.toArray (aW.to (w:=w)) (aW.le (w:=w)) (wpList P O.toArray Q (O.drop n)) (pick O b) [] e g) ((pick O a).map (·.2)) Y):(Code.region Z O.toArray true).wp P Q Y w:=
 abb (aW.to (w:=w)) (aW.le (w:=w)) aW.le_refl n a b f i c ⟨w.drew,false,(bV.refl _ _).drew⟩ (λ_ _=>trivial) (λ_ _ _=>rfl) rfl h
variable {P:Program} {ops:Array Oper} {Qt:Act->World->Prop} {i:Nat} {o:Oper} {L:List (Nat×Oper)} {F:List (Nat×(aW w s ty S pre->Prop))} {Rs:List (iR (aW w s ty S pre))} {a:Act}
def py (R:Value->aW w s ty S pre->Prop) (e:o.dst.isSome=true) (j:∀v x y,R v x->aW.le x y->R v y)
  (p:∀x:aW w s ty S pre,aaw F o x->(i∈pre->x.done=false)->∀c:Exit->Act->World->Prop,(∀v d (b:Below x.to.heap.size x.to d),R v (x.on b)->c .normal (a.put o.dst v) d)->wpList P ops c [o] a x.to)
  (g:∀v,cN P ops (aW.to (w:=w)) (aW.le (w:=w)) Qt L ((i,λx=>R v x)::F) Rs (a.put o.dst v)):cN P ops (aW.to (w:=w)) (aW.le (w:=w)) Qt ((i,o)::L) F (.any R::Rs) a:=
 kN (to:=aW.to (w:=w)) (le:=aW.le (w:=w)) R (.inl e) j (λx m _ _ f c k=>p x m (λl=>f (.inr l)) c λv d b n=>
  k v (x.on b) (.inl ⟨rfl,b⟩) trivial (λ_ _ _ h=>h) n) g
def aeW (c:Value)
  (j:∀x:aW w s ty S pre,aaw F o x->(i∈pre->x.done=false)->∀b:Exit->Act->World->Prop,(∀d,Below x.to.heap.size x.to d->b .normal (a.put o.dst c) d)->wpList P ops b [o] a x.to)
  (g:cN P ops (aW.to (w:=w)) (aW.le (w:=w)) Qt L F Rs (a.put o.dst c)):cN P ops (aW.to (w:=w)) (aW.le (w:=w)) Qt ((i,o)::L) F (.fix c::Rs) a:=
 an5 (to:=aW.to (w:=w)) (le:=aW.le (w:=w)) c (λx m _ _ f b k=>j x m (λl=>f (.inr l)) b λd e=>k (x.on e) (.inl ⟨rfl,e⟩) trivial λ_ _ _ h=>h) g
def aeV (R:Value->aW w s ty S pre->Prop) (m:o.dst.isSome=true) (hi':i=s) (f:∀j∈pre,Behind ops i j) (q:∀v x y,R v x->aW.le x y->R v y)
  (A:∀x:aW w s ty S pre,aaw F o x->x.done=false->∀c:Exit->Act->World->Prop,(∀v k (d:bV (λb=>S b\/(w.heap.size<=b/\∃z:Array Value,cg x.to b ty z)) x.to k),R v (x.did d)->c .normal (a.put o.dst v) k)->wpList P ops c [o] a x.to)
  (n:∀v,cN P ops (aW.to (w:=w)) (aW.le (w:=w)) Qt L ((i,λx=>R v x)::F) Rs (a.put o.dst v)):cN P ops (aW.to (w:=w)) (aW.le (w:=w)) Qt ((i,o)::L) F (.any R::Rs) a:=
 kN (to:=aW.to (w:=w)) (le:=aW.le (w:=w)) R (.inl m) q (λx t _ _ l c r=>A x t (l (.inl hi')) c λv k d p=>
  r v (x.did d) (.inr ⟨l (.inl hi'),rfl,d⟩) trivial (λj u g _ e=>e.elim (λe=>absurd (e.trans hi'.symm) u) λe=>absurd (f j e) g) p) n
def aeX(h:∀x:aW w s ty S pre,iv F x->Qt a x.to):cN P ops (aW.to (w:=w)) (aW.le (w:=w)) Qt [] F [] a:=aif h
def alA{F:Flat X}{base:Nat}{xs:List X}(c:aD F e x base v xs)(a:v.ownBlock=some b):base<=b/\∃f:Array Value,cg x b e f:=by
 refine⟨(c.at_ a).1, ?_⟩;rcases c.2 with⟨rfl,_⟩|⟨i,cap,d,rfl,_,g,_⟩
 .cases a
 .cases a;exact⟨_,g⟩
end
end
section
variable {β:Bool}
open Go.RowKit
structure an7 (w:World) (alR:List Nat) (fl:Nat->Bool) (ty:TypeId) (S:Nat->Prop) where
 to:World
 st:Nat
 ok:bV (λb=>0<st/\S b) w to
 lim:st<=alR.length
section
variable {w:World} {alR:List Nat} {fl:Nat->Bool} {ty:TypeId} {S:Nat->Prop}
instance aua:Nonempty (an7 w alR fl ty S):=⟨⟨w,0,bV.refl _ _,fa _⟩⟩
instance aw9:bh (an7 w alR fl ty S):=⟨λ_ _=>True,λ_ _ _=>trivial,λi x=>∀k,alR[k]?=some i->x.st<=k⟩
variable {P:Program} {ops:Array Oper} {Qt:Act->World->Prop} {i:Nat} {o:Oper} {L:List (Nat×Oper)} {F:List (Nat×(an7 w alR fl ty S->Prop))} {Rs:List (iR (an7 w alR fl ty S))} {a:Act}
end
end
section
variable {β:Bool}
open Go.RowKit
def FSp:Flat Sp:=⟨2,λs=>[.int .i64 s.n,.int .i64 s.p],λx=>bX x.n/\bX x.p,λ_=>rfl,λx u a=>by simp at a;rcases a with rfl|rfl<;>rfl,by decide⟩
def aai:iw (ai β) 151 199 2 16:=iw.mk' xI (z:=.agg #[.int .i64 0,.int .i64 0]) (by kernel_rfl) rfl (by decide) (by decide)
end
section
variable {β:Bool}
open Go.RowKit
def agK(xs:List Int)(n:Int)(A:Option Addr)(m c:Nat)(w:World)(lo hi:Nat)(h:cB pC 1 w lo hi xs [.slice A m c]) :
  Calls (ai β) 24 #[.slice A m c,.int .i64 n] w λe o=>e=.returned (.bool (decide (n∈xs)))/\w=o:=by
 obtain⟨rfl,r,p⟩:=h.len_;unfold maxLen at p;go_enter zM,ntmps24;go_wp2
 go_loop [5] (λi=>∃k:Nat,k<=xs.length/\i=.int .i64 k/\n∉xs.take k) (λi=>xs.length-(intOf i).toNat)
 case atStart=>exact⟨0,fa _,rfl,by simp⟩
 case round=>
  obtain⟨k,q,rfl,d⟩:=hrel;replace d:=ab d;by_cases f:k<xs.length
  .obtain⟨x,a⟩:=ak f;obtain⟨b,l,rfl,_,_,_,g⟩:=h.ints_at a;replace a:=ab a;by_cases j:x=n
   .subst j;go_wp2;go_ret;exact⟨av (by simp[aE a.out]),rfl⟩
   .go_wp2
    go_round
    case rel=>exact⟨k+1,by omega,by go_num,by rw[mp a.out];simp[d.out,sj j]⟩
    simp[intOf];omega
  .obtain rfl:k=xs.length:=by omega
   go_wp2;go_ret;exact⟨av (by have:=d.out;rw[ga] at this;simp[this]),rfl⟩
def arh(xs:List Int)(n:Int)(A:Option Addr)(m c:Nat)(w:World)(lo hi:Nat)(h:cB pC 1 w lo hi xs [.slice A m c]) :
  Calls (ai β) 9 #[.slice A m c,.int .i64 n] w λe o=>e=.returned (.bool (decide (n∈xs)))/\w=o:=by
 obtain⟨rfl,r,p⟩:=h.len_;unfold maxLen at p;go_enter qF9,ntmps9;go_wp2
 go_loop [5] (λi=>∃k:Nat,k<=xs.length/\i=.int .i64 k/\n∉xs.take k) (λi=>xs.length-(intOf i).toNat)
 case atStart=>exact⟨0,fa _,rfl,by simp⟩
 case round=>
  obtain⟨k,q,rfl,d⟩:=hrel;replace d:=ab d;by_cases f:k<xs.length
  .obtain⟨x,a⟩:=ak f;obtain⟨b,l,rfl,_,_,_,g⟩:=h.ints_at a;replace a:=ab a;by_cases j:x=n
   .subst j;go_wp2;go_ret;exact⟨av (by simp[aE a.out]),rfl⟩
   .go_wp2
    go_round
    case rel=>exact⟨k+1,by omega,by go_num,by rw[mp a.out];simp[d.out,sj j]⟩
    simp[intOf];omega
  .obtain rfl:k=xs.length:=by omega
   go_wp2;go_ret;exact⟨av (by have:=d.out;rw[ga] at this;simp[this]),rfl⟩
def auX(F:FuncId):Prop:=∀(args:Array Value) (w:World),(callFunc F args).run (ai β) w=.ok (.enter F args) w
def ayl{fn:Func}{c:Code}(b:(ai β).funcs[f]?=some fn)(a:(fn.name == "runtime.NumGoroutine")=false)(e:fn.body=some c):auX (β:=β) f:=by
 intro args w;have d:fn.name ≠ "runtime.NumGoroutine" :=by simpa using a
 simp[callFunc,b,d,e]
end
section
variable {β:Bool}
open Go.RowKit
abbrev RSp:gR Sp:=bR FSp
def RSp.loc:Lcy RSp:=bR.loc FSp
def axa{xs:List Sp}(h:cB RSp 2 w lo hi xs [.slice A n c]){x:Sp}(g:xs[k]?=some x) :
  ∃b a,A=some ⟨b,a,none⟩/\lo<=b/\b<hi/\(bX x.n/\bX x.p)/\w.cell? ⟨b,a+k*2,none⟩=some (.int .i64 x.n)/\w.cell? ⟨b,a+k*2+1,none⟩=some (.int .i64 x.p):=by
 obtain⟨b,a,l,rfl,i,f,j,⟨rfl,d⟩,e⟩:=h.at_ g;exact⟨b,a,rfl,i,f,d,by simpa using e 0 _ rfl,e 1 _ rfl⟩
def arQ:ixP []:=⟨λx h=>(by cases h),List.Pairwise.nil⟩
def aad(n lo hi:Int)(w:World)(b:Bool)(c:b=true↔lo<=n/\n<=hi) :
  Calls (ai β) 25 #[.int .i64 n,.int .i64 lo,.int .i64 hi] w λe a=>e=.returned (.bool b)/\w=a:=
 (ab3 n lo hi w).mono λe a ⟨h,hw⟩=>⟨by
  rw[h];have:(decide (lo<=n)&&decide (n<=hi))=b:=by rw[qc,c];simp
  rw[this],hw⟩
def alS(s:Sp)(w:World)(b:Bool)(c:b=true↔spP s) :
  Calls (ai β) 140 #[.agg #[.int .i64 s.n,.int .i64 s.p]] w λe g=>e=.returned (.bool b)/\Below w.heap.size w g:=by
 replace c:=ab c;have f:=aC w (.cells #[.int .i64 s.n,.int .i64 s.p] 199);go_enter yv,ntmps140;by_cases a:0<=s.n/\s.n<=999999999988
 .go_wp2;refine(aad s.n _ _ _ true (by simp only[sO];exact a)).mono ?_;rintro e d ⟨rfl,rfl⟩;replace a:=ab a;go_wp2;refine(aad s.p _ _ _ b (by rw[c.out];exact⟨λh=>h.2,λh=>⟨a.out,h⟩⟩)).mono ?_;rintro e d ⟨rfl,rfl⟩;go_wp2;go_ret;exact⟨rfl,f⟩
 .go_wp2;refine(aad s.n _ _ _ false (by simp only[jp,uC];exact a)).mono ?_;rintro e d ⟨rfl,rfl⟩;replace a:=ab a;go_wp2;go_ret;exact⟨av (by rw[eq_comm,<-gc,c.out];exact λh=>a.out h.1),f⟩
end
section
variable {β:Bool}
open Go.RowKit
def oC(s:Sp)(xs:List Sp)(put:Bool)(o:List Sp):Prop:=
 (put=false/\(∀x∈xs,x.n<s.n)/\o=xs)\/(put=true/\(∃x∈xs,s.n<=x.n)/\o=fQ s xs)
def apD(s:Sp):oC s [] false []:=.inl ⟨rfl,λx a=>(by cases a),rfl⟩
def apE{s x:Sp}{xs o:List Sp}(h:oC s xs false o)(a:s.n<x.n):oC s (xs++[x]) true (o++[s]++[x]):=by
 rcases h with⟨_,h,rfl⟩|⟨h,_⟩
 .refine .inr ⟨rfl,⟨x,by simp,by omega⟩, ?_⟩;rw[aca h];show _=o++(if s.n<x.n then s::x::[] else _);rw[dj a];simp
 .cases h
def alT{s x:Sp}{xs o:List Sp}(h:oC s xs false o)(a:x.n=s.n):oC s (xs++[x]) true (o++[s]):=by
 rcases h with⟨_,h,rfl⟩|⟨h,_⟩
 .refine .inr ⟨rfl,⟨x,by simp,by omega⟩, ?_⟩;rw[aca h];show _=o++(if s.n<x.n then s::x::[] else if x.n<s.n then x::fQ s [] else s::[]);rw[bv (by omega),bv (by omega)]
 .cases h
def alU{s x:Sp}{xs o:List Sp}(h:oC s xs false o)(b:x.n<s.n):oC s (xs++[x]) false (o++[x]):=by
 rcases h with⟨_,h,rfl⟩|⟨h,_⟩
 .refine .inl ⟨rfl,λy a=> ?_,rfl⟩;rcases io.1 a with a|a
  .exact h y a
  .rw[ge.1 a];exact b
 .cases h
def alV{s x:Sp}{xs o:List Sp}(h:oC s xs true o)(b:ad7 (xs++[x])):s.n<x.n/\oC s (xs++[x]) true (o++[x]):=by
 rcases h with⟨h,_⟩|⟨_,⟨y,a,c⟩,rfl⟩
 .cases h
 .have:=(rI.1 b).2.2 y a x (by simp);refine⟨by omega,.inr ⟨rfl,⟨y,by simp[a],c⟩, ?_⟩⟩;rw[show xs++[x]=xs++x::[] from rfl,ag1 (by omega)]
def apF{s:Sp}{xs o:List Sp}{a:Bool}(h:oC s xs a o):(a=false/\fQ s xs=o++[s])\/(a=true/\fQ s xs=o):=by
 rcases h with⟨h,b,rfl⟩|⟨h,_,rfl⟩
 .exact .inl ⟨h,apC b⟩
 .exact .inr ⟨h,rfl⟩
def js{s:Sp}{xs o:List Sp}{a:Bool}(h:oC s xs a o):o.length<=xs.length+1:=by
 rcases h with⟨_,_,rfl⟩|⟨_,_,rfl⟩
 .omega
 .exact afp
def arR{xs:List Sp}(h:ad7 xs)(k:Nat):ad7 (xs.take k):=List.Pairwise.sublist (List.take_sublist k xs) h
def axb(w:World)(ys:List Sp)(e:Ending)(w':World):Prop:=∃v,e=.returned v/\aD FSp 199 w' w.heap.size v ys/\Below w.heap.size w w'
def iU(h:w.cell? p=some v)(c:bV S w w')(b:¬S p.block):w'.cell? p=some v:=by
 have a:=ud w p h;unfold World.cell? at h ⊢;rw[c.block p.block a b];exact h
def apG(s:Sp)(ad:bX s.n/\bX s.p)(xs:List Sp)(v:Value)(w:World)(lo hi:Nat)(bE:hi<=w.heap.size)(h:cB RSp 2 w lo hi xs [v])(U:ad7 xs)(hl:xs.length<=1000000000) :
  Calls (ai β) 141 #[v,.agg #[.int .i64 s.n,.int .i64 s.p]] w (axb w (fQ s xs)):=by
 obtain⟨A,c,rfl⟩:=h.form;obtain⟨_,hc,V⟩:=h.len_;unfold maxLen at V;go_enter yu,ntmps141;go_wp2;generalize hG:(w.alloc (.cells #[.int .i64 s.n,.int .i64 s.p] 199)).alloc (.cells #[] 199)=w0 at *;obtain⟨Q,jh,O,dv,fg,k1,oP,a7⟩:=agc hG;clear hG;have G:w.heap.size+1<=w0.heap.size:=by omega
 have g0:=abU RSp.loc h Q bE;have o0:aD FSp 199 w0 (w.heap.size+1) (.slice (some ⟨w.heap.size+1,0,none⟩) 0 0) []:=aD.abJ ⟨_,rfl,am _,k1⟩;have a0:∀k,k<xs.length->∃x,xs[k]?=some x/\(k=0\/True):=λk hk=>by
  obtain⟨x,V⟩:=ak hk;exact⟨x,V,.inr trivial⟩
 clear a0;go_loopw [5,6,7] (λoo pp ii wr=>∃(k:Nat) (b:Bool) (o:List Sp),k<=xs.length/\pp=.bool b/\ii=.int .i64 k/\aD FSp 199 wr (w.heap.size+1) oo o/\oC s (xs.take k) b o/\bV (λb=>w.heap.size+1<=b) w0 wr) (λoo pp ii _=>xs.length-(intOf ii).toNat)
 case atStart=>exact⟨0,false,[],fa _,rfl,rfl,o0,apD s,bV.refl _ _⟩
 case round=>
  obtain⟨k,b,o,hk,rfl,rfl,u,f,e⟩:=hrel;replace f:=ab f;obtain⟨p,q,rfl⟩:=u.form;have Y:=js f.out;rw[ff] at Y;by_cases X:k<xs.length
  .obtain⟨x,y⟩:=ak X;obtain⟨b1,a8,rfl,aa,a9,a5,E,C⟩:=axa g0 y;have D:ad7 (xs.take k++[x]):=by rw[<-mp y];exact arR U _
   replace y:=ab y;replace D:=ab D;have dv:=(aY O e (by omega)).cell;have Z:=iU E e (by dsimp only;omega);have a6:=iU C e (by dsimp only;omega);cases b with
   |false=>
    rcases Int.lt_trichotomy x.n s.n with m|m|m
    .have z:=ab (alU f.out m);have t1:=da (show ¬(s.n<=x.n) by omega);have W:(x.n !=s.n)=true:=by rw[uI];omega
     clear m;go_wp2
     go_quiet (fail)
     revert nq;intro d;go_wp2
     go_quiet (fail)
     have j:aD FSp 199 (wr.drewN (d+nq)) (w.heap.size+1) (.slice p o.length q) o:=u;go_wp2_with(at_builtin;refine bM (F:=FSp) (v:=.slice p o.length q) rfl (.tmp 39) (.tmp 44) 151 rfl aai x rfl j rfl rfl (by have:=js f.out;rw[ff] at this;first|omega|(simp;omega)) (db G ((e.drewN (d+nq))).size) ?_;intro N K g r n;obtain⟨H,I,rfl⟩:=g.form;simp only[ap,fi,lP,lm] at g;have a:=((e.drewN (d+nq))).trans (r.mono (T:=λb=>w.heap.size+1<=b) λb _ l=>((j).at_ l).1) λ_ _ h=>h;skip);go_roundw
     case rel=>exact⟨k+1,false,o++[x],by omega,rfl,by go_num,g,by rw[mp y.out];exact z.out,a⟩
     simp[intOf];omega
    .have z:=ab (alT f.out m);have t1:=de (show s.n<=x.n by omega);have W:(x.n !=s.n)=false:=by rw[bne_eq_false_iff_eq];exact m
     clear m;go_wp2
     go_quiet (fail)
     revert nq;intro d;have j:aD FSp 199 (wr.drewN d) (w.heap.size+1) (.slice p o.length q) o:=u;go_wp2_with(at_builtin;refine bM (F:=FSp) (v:=.slice p o.length q) rfl (.tmp 27) (.tmp 29) 151 rfl aai s rfl j rfl rfl (by have:=js f.out;rw[ff] at this;first|omega|(simp;omega)) (db G ((e.drewN d)).size) ?_;intro N K g r n;obtain⟨H,I,rfl⟩:=g.form;simp only[ap,fi,lP,lm] at g;have a:=((e.drewN d)).trans (r.mono (T:=λb=>w.heap.size+1<=b) λb _ l=>((j).at_ l).1) λ_ _ h=>h;have P:=(aY O a (by omega)).cell;have S:=iU E a (by dsimp only;omega);have a1:=iU C a (by dsimp only;omega))
     go_quiet (fail)
     go_wp2;go_roundw
     case rel=>exact⟨k+1,true,o++[s],by omega,rfl,by go_num,g,by rw[mp y.out];exact z.out,a.drewN nq⟩
     simp[intOf];omega
    .have z:=ab (apE f.out m);have t1:=de (show s.n<=x.n by omega);have W:(x.n !=s.n)=true:=by rw[uI];omega
     clear m;go_wp2
     go_quiet (fail)
     revert nq;intro d;have j:aD FSp 199 (wr.drewN d) (w.heap.size+1) (.slice p o.length q) o:=u;go_wp2_with(at_builtin;refine bM (F:=FSp) (v:=.slice p o.length q) rfl (.tmp 27) (.tmp 29) 151 rfl aai s rfl j rfl rfl (by have:=js f.out;rw[ff] at this;first|omega|(simp;omega)) (db G ((e.drewN d)).size) ?_;intro N K g r n;obtain⟨H,I,rfl⟩:=g.form;simp only[ap,fi,lP,lm] at g;have a:=((e.drewN d)).trans (r.mono (T:=λb=>w.heap.size+1<=b) λb _ l=>((j).at_ l).1) λ_ _ h=>h;have P:=(aY O a (by omega)).cell;have S:=iU E a (by dsimp only;omega);have a1:=iU C a (by dsimp only;omega))
     go_quiet (fail)
     have M:aD FSp 199 (K.drewN nq) (w.heap.size+1) (.slice H (o.length+1) I) (o++[s]):=g;go_wp2_with(at_builtin;refine bM (F:=FSp) (v:=.slice H (o.length+1) I) rfl (.tmp 39) (.tmp 44) 151 rfl aai x rfl M rfl rfl (by have:=js f.out;rw[ff] at this;first|omega|(simp;omega)) (db G ((a.drewN nq)).size) ?_;intro v4 w4 o4 R a4;obtain⟨A4,c4,rfl⟩:=o4.form;simp only[ap,fi,lP,lm] at o4;have a2:=((a.drewN nq)).trans (R.mono (T:=λb=>w.heap.size+1<=b) λb _ l=>((M).at_ l).1) λ_ _ h=>h;skip);go_roundw
     case rel=>exact⟨k+1,true,o++[s]++[x],by omega,rfl,by go_num,o4,by rw[mp y.out];exact z.out,a2⟩
     simp[intOf];omega
   |true=>
    obtain⟨m,L⟩:=alV f.out D.out;have z:=ab L;clear L;have W:(x.n !=s.n)=true:=by rw[uI];omega
    clear m;go_wp2
    go_quiet (fail)
    revert nq;intro d;go_wp2
    go_quiet (fail)
    have j:aD FSp 199 (wr.drewN (d+nq)) (w.heap.size+1) (.slice p o.length q) o:=u;go_wp2_with(at_builtin;refine bM (F:=FSp) (v:=.slice p o.length q) rfl (.tmp 39) (.tmp 44) 151 rfl aai x rfl j rfl rfl (by have:=js f.out;rw[ff] at this;first|omega|(simp;omega)) (db G ((e.drewN (d+nq))).size) ?_;intro N K g r n;obtain⟨H,I,rfl⟩:=g.form;simp only[ap,fi,lP,lm] at g;have a:=((e.drewN (d+nq))).trans (r.mono (T:=λb=>w.heap.size+1<=b) λb _ l=>((j).at_ l).1) λ_ _ h=>h;skip);go_roundw
    case rel=>exact⟨k+1,true,o++[x],by omega,rfl,by go_num,g,by rw[mp y.out];exact z.out,a⟩
    simp[intOf];omega
  .obtain rfl:k=xs.length:=by omega
   have t:=apF f.out;rw[ga] at t;have dv:=(aY O e (by omega)).cell;have J:∀{w9:World},bV (λb=>w.heap.size+1<=b) w0 w9->Below w.heap.size w w9:=λa3=>Q.trans (a3.below Q.size λi hi h=>by omega);rcases t with⟨rfl,B⟩|⟨rfl,B⟩
   .replace B:=ab B;go_wp2_with(at_builtin;refine bM (F:=FSp) (v:=.slice p o.length q) rfl (.tmp 48) (.tmp 50) 151 rfl aai s rfl u rfl rfl (by have:=js f.out;rw[ff] at this;first|omega|(simp;omega)) (db G (e).size) ?_;intro N K g r n;obtain⟨H,I,rfl⟩:=g.form;simp only[ap,fi,lP,lm] at g;have a:=(e).trans (r.mono (T:=λb=>w.heap.size+1<=b) λb _ l=>((u).at_ l).1) λ_ _ h=>h;skip);go_ret;exact⟨_,rfl,by rw[B.out];exact g.base (by omega),J a⟩
   .replace B:=ab B;go_wp2;go_ret;exact⟨_,rfl,by rw[B.out];exact u.base (by omega),J e⟩
end
section
variable {β:Bool}
open Go.RowKit
structure It where
 n:Int
 b:ByteArray
structure Pk where
 no:Int
 its:List It
def oV:Flat It:=⟨2,λx=>[.int .i64 x.n,.string x.b],λx=>bX x.n/\x.b.size<=maxLen,λ_=>rfl,λx u a=>by simp at a;rcases a with rfl|rfl<;>rfl,by decide⟩
abbrev fC:gR (List It):=fq 64 (bR oV) 2
def RPk:gR Pk:=λw a b x c=>∃v,c=[.int .i64 x.no,v]/\bX x.no/\fC w a b x.its [v]
abbrev dQ:gR (List Pk):=fq 40 RPk 2
def fC.az:eK fC [64]:=fq.az (bR.az oV)
def RPk.az:eK RPk [64]:=⟨λh a b ⟨v,e,i,hr⟩=>⟨v,e,i,fC.az.go h a b hr⟩⟩
def dQ.az:eK dQ [40,64]:=fq.az RPk.az
def aaj:iw (ai β) 38 64 2 24:=iw.mk' yQ (z:=.agg #[.int .i64 0,.string ⟨#[]⟩]) (by kernel_rfl) rfl (by decide) (by decide)
def lY:iw (ai β) 23 40 2 32:=iw.mk' yU (z:=.agg #[.int .i64 0,.slice none 0 0]) (by kernel_rfl) rfl (by decide) (by decide)
def lV{xs:List Pk}(h:dQ w lo hi xs [.slice A n c]){x:Pk}(i:xs[k]?=some x) :
  ∃b a A' d,A=some ⟨b,a,none⟩/\lo<=b/\b<hi/\bX x.no/\w.cell? ⟨b,a+k*2,none⟩=some (.int .i64 x.no)/\w.cell? ⟨b,a+k*2+1,none⟩=some (.slice A' x.its.length d)/\fC w lo hi x.its [.slice A' x.its.length d]:=by
 obtain⟨b,a,m,rfl,j,g,l,⟨v,rfl,e,hi⟩,f⟩:=h.1.at_ i;obtain⟨A',d,rfl⟩:=hi.form;exact⟨b,a,A',d,rfl,j,g,e,by simpa using f 0 _ rfl,f 1 _ rfl,hi⟩
def aaG{xs:List It}(h:fC w lo hi xs [.slice A n c]){x:It}(g:xs[k]?=some x) :
  ∃b a,A=some ⟨b,a,none⟩/\lo<=b/\b<hi/\(bX x.n/\x.b.size<=maxLen)/\w.cell? ⟨b,a+k*2,none⟩=some (.int .i64 x.n)/\w.cell? ⟨b,a+k*2+1,none⟩=some (.string x.b):=by
 obtain⟨b,a,l,rfl,i,f,j,⟨rfl,d⟩,e⟩:=h.1.at_ g;exact⟨b,a,rfl,i,f,d,by simpa using e 0 _ rfl,e 1 _ rfl⟩
def fq.len_{xs:List X}(h:fq e E Z w lo hi xs [.slice A n c]):n=xs.length/\n<=c/\c<=maxLen:=h.1.len_
def pK(p:Pk):List Sp:=p.its.map λx=>⟨x.n,p.no⟩
def dr(l:List Pk):List Sp:=l.flatMap pK
def IOf(l:List Pk)(r:List Sp):Prop:=((∀s∈dr l,spP s)/\r=eA (dr l) [])\/((¬ ∀s∈dr l,spP s)/\r=[])
def alX{l:List Pk}{x:Pk}(h:l[k]?=some x):dr (l.take (k+1))=dr (l.take k)++pK x:=by
 rw[mp h];unfold dr;rw[qC];simp
def cQ(l:List Pk)(k j:Nat):List Sp:=dr (l.take k)++((l[k]?.map λp=>(pK p).take j).getD [])
def acd(l:List Pk)(k:Nat):cQ l k 0=dr (l.take k):=by
 unfold cQ;cases l[k]?<;>simp
def aim{l:List Pk}{x:Pk}{y:It}(h:l[k]?=some x)(a:x.its[j]?=some y):cQ l k (j+1)=cQ l k j++[⟨y.n,x.no⟩]:=by
 unfold cQ;rw[h];simp only[qe,qo];rw[rY]
 congr 1
 refine mp (k:=j) ?_;unfold pK;rw[qz,a];rfl
def ajG{l:List Pk}{x:Pk}(h:l[k]?=some x):cQ l k x.its.length=dr (l.take (k+1)):=by
 rw[alX h];unfold cQ;rw[h];simp only[qe,qo]
 congr 1
 unfold pK;exact qj (by rw[pZ];exact am _)
def ajH{l:List Pk} :∀s∈cQ l k j,s∈dr l:=λs a=>by
 unfold cQ at a;rcases io.1 a with h|h
 .obtain⟨p,c,a⟩:=ph.1 h;exact ph.2 ⟨p,oS c,a⟩
 .cases b:l[k]? with
  |none=>rw[b] at h;cases h
  |some x=>
   rw[b] at h;exact ph.2 ⟨x,aE b,oS h⟩
def ajI{l:List Pk}{x:Pk}(h:l[k]?=some x):(cQ l k j).length<=(dr l).length:=by
 have a:dr l=dr (l.take k)++dr (l.drop k):=by
  unfold dr;rw[<-qC,qZ]
 rw[a];unfold cQ;rw[h,ap,ap];have:l.drop k=x::l.drop (k+1):=by
  rw[rz (aI h)]
  congr 1
  exact(li.1 h).2
 rw[this];unfold dr;rw[vg,ap];simp only[qe,qo,ff];omega
def IOf.ix{l:List Pk}{r:List Sp}(h:IOf l r):ixP r:=by
 rcases h with⟨h,rfl⟩|⟨_,rfl⟩
 .exact ajF arQ h
 .exact arQ
end
section
variable {β:Bool}
open Go.RowKit
def fS(key:Int)(x:It):Prop:=∃p,cX (bs x.b)=some p/\bG key p=x.n
def agm{l p:List Nat}(h:cX l=some p):aR p/\fE p=l:=by
 unfold cX at h;split at h
 .rename_i a;have e:=ef h;rw[e] at a;exact a
 .cases h
def kS(x:Int)(w:World)(b:Bool)(c:b=true↔1<=x/\x<=99):Calls (ai β) 27 #[.int .i64 x] w λe a=>e=.returned (.bool b)/\w=a:=by
 go_enter zK,ntmps27;go_wp2;refine(ab3 _ _ _ _).mono ?_;rintro e d ⟨rfl,rfl⟩;go_wp2;go_ret;exact⟨av (by rw[qc,c];simp),rfl⟩
def adD(key:Int)(v:1<=key/\key<=99)(x:It)(A:x.b.size<=maxLen)(w:World)(b:Bool)(i:b=true↔fS key x) :
  Calls (ai β) 47 #[.int .i64 key,.agg #[.int .i64 x.n,.string x.b]] w λe r=>e=.returned (.bool b)/\Below w.heap.size w r:=by
 replace i:=ab i;have B:x.b.size<=maxLen:=A;go_enter zC,ntmps47;go_wp2;generalize q:w.alloc (.cells #[.int .i64 x.n,.string x.b] 64)=w0 at *;obtain⟨n,E,D,o,G⟩:=gU q;clear q;refine(adB x.b B w0).mono ?_;rintro e C ⟨⟨t,F,rfl,a⟩,rfl⟩;rcases a with⟨rfl,a⟩|⟨rfl,a,_⟩
 .have d:=(agm a).1;have f:b=(bG key (bs t) ==x.n):=by
   rw[qc,i.out,mt];unfold fS;rw[a];constructor
   .rintro⟨p,j,s⟩;cases j;exact s
   .intro h;exact⟨_,rfl,h⟩
  have y:=ab d;have c:=ab f;have z:=ab (λw=>nM (β:=β) key t v d w);clear d f a;generalize bG key (bs t)=nm at *;go_wp2;have k:w0.cell? ⟨w.heap.size,0,none⟩=some (.int .i64 x.n):=o 0;have m:=ag k;refine aB (by kernel_rfl) (by kernel_rfl) ?_;repeat(go_big_quiet_step (first|(go_at_call 72;refine dD (z.out _))))
  refine gE ?_;intro u g;have l:=aN g;clear g m;go_wp2;go_ret;exact⟨av c.out.symm,ae n l⟩
 .have f:b=false:=by
   rw[<-gc,i.out];rintro⟨p,j,_⟩;rw[a] at j;cases j
  have c:=ab f;clear f a;go_wp2;have k:w0.cell? ⟨w.heap.size,0,none⟩=some (.int .i64 x.n):=o 0;have m:=ag k;refine aB (by kernel_rfl) (by kernel_rfl) ?_;repeat(go_big_quiet_step (fail))
  refine gE ?_;intro u g;have l:=aN g;clear g m;go_wp2;go_ret;exact⟨av c.out.symm,ae n l⟩
def abK(key:Int)(p:Pk):Prop:=(1<=p.no/\p.no<=99)/\(1<=key/\key<=99)/\(1<=p.its.length/\p.its.length<=4)/\(∀x∈p.its,fS key x)/\p.its.Pairwise λa b=>a.n<b.n
def ad8(key:Int)(l:List It):Prop:=(∀x∈l,fS key x)/\l.Pairwise λa b=>a.n<b.n
def ac3{xs:List It}{x:It}:ad8 key (xs++[x])↔ad8 key xs/\fS key x/\∀y∈xs,y.n<x.n:=by
 unfold ad8;rw[rI];constructor
 .intro⟨d,e,_,f⟩;exact⟨⟨λy c=>d y (by simp[c]),e⟩,d x (by simp),λy c=>f y c x (by simp)⟩
 .intro⟨⟨d,e⟩,f,i⟩;refine⟨λy c=> ?_,e,rM _ _,λa g b j=> ?_⟩
  .rcases io.1 c with c|c
   .exact d y c
   .rw[ge.1 c];exact f
  .rw[ge.1 j];exact i a g
def ajJ{xs:List It}{x:It}(b:xs[0]?=some x)(h:fS key x):ad8 key (xs.take 1):=by
 rw[mp b];exact ac3.2 ⟨⟨λy a=>(by cases a),List.Pairwise.nil⟩,h,λy a=>(by cases a)⟩
def an8{xs:List It}{x y:It}(c:ad8 key (xs.take (j+1)))(d:xs[j]?=some y)(e:xs[j+1]?=some x)(h:fS key x)(b:y.n<x.n):ad8 key (xs.take (j+1+1)):=by
 rw[mp e];refine ac3.2 ⟨c,h,λz a=> ?_⟩;rw[mp d] at a c;rcases io.1 a with a|a
 .have:=(ac3.1 c).2.2 z a;omega
 .rw[ge.1 a];exact b
def ayo{xs:List It}{x:It}(b:xs[k]?=some x)(h:¬fS key x):¬ad8 key xs:=λa=>h (a.1 x (aE b))
def an9{xs:List It}{x y:It}(a:xs[j]?=some y)(c:xs[j+1]?=some x)(h:¬y.n<x.n):¬ad8 key xs:=λd=>by
 have b:=qm.1 d.2 j (j+1) (aI a) (aI c) (by omega);rw[(li.1 a).2,(li.1 c).2] at b;exact h b
def ajK(key:Int):ad8 key []:=⟨λx h=>(by cases h),List.Pairwise.nil⟩
def ed(p:Prop):∃b:Bool,b=true↔p:=by
 by_cases h:p
 .exact⟨true,by simp[h]⟩
 .exact⟨false,by simp[h]⟩
def aeT(key:Int)(p:Pk)(v:Value)(w:World)(lo hi:Nat)(bE:hi<=w.heap.size)(h:fC w lo hi p.its [v])(b:Bool)(t:b=true↔abK key p) :
  Calls (ai β) 23 #[.int .i64 key,.agg #[.int .i64 p.no,v]] w λe w'=>e=.returned (.bool b)/\Below w.heap.size w w':=by
 replace t:=ab t;obtain⟨A,c,rfl⟩:=h.form;obtain⟨_,hc,hx⟩:=h.len_;unfold maxLen at hx;go_enter zN,ntmps23;go_wp2;generalize hG:w.alloc (.cells #[.int .i64 p.no,.slice A p.its.length c] 40)=w0 at *;obtain⟨r,jh,k0,dv,fg⟩:=gU hG;clear hG;have h0:=fC.az.below h r bE;by_cases N:1<=p.no/\p.no<=99
 .refine(afa p.no 1 99 N.1 N.2 w0).mono ?_;rintro e K ⟨rfl,rfl⟩;go_wp2;by_cases F:1<=key/\key<=99
  .refine(kS key w0 true (by simp only[sO];exact F)).mono ?_;rintro e K ⟨rfl,rfl⟩;go_wp2;by_cases Z:1<=p.its.length/\p.its.length<=4
   .refine(afa p.its.length 1 4 (by omega) (by omega) w0).mono ?_;rintro e K ⟨rfl,rfl⟩;have m:b=true↔ad8 key p.its:=by rw[t.out];exact⟨λh=>⟨h.2.2.2.1,h.2.2.2.2⟩,λh=>⟨N,F,Z,h.1,h.2⟩⟩
    replace m:=ab m;clear t;go_wp2;go_loopw [5] (λi wr=>∃k:Nat,k<=p.its.length/\i=.int .i64 k/\ad8 key (p.its.take k)/\Below w0.heap.size w0 wr) (λi _=>p.its.length-(intOf i).toNat)
    case atStart=>exact⟨0,fa _,rfl,ajK key,fm _ _⟩
    case round=>
     obtain⟨k,hk,rfl,S,d⟩:=hrel;replace S:=ab S;have h1:=fC.az.below h0 d (db bE r.size);have k1:=ar k0 d;have V:=k1.cell;by_cases W:k<p.its.length
     .obtain⟨x,D⟩:=ak W;obtain⟨b1,Y,rfl,_,_,X,I,M⟩:=aaG h1 D;replace D:=ab D;obtain⟨q,g⟩:=ed (fS key x);have T:=ab g;clear g;have E:=λw=>adD (β:=β) key F x X.2 w q T.out;replace E:=ab E;have R:wr.cell? ⟨w.heap.size,0,none⟩=some (.int .i64 p.no):=V 0;have P:wr.cell? ⟨w.heap.size,1,none⟩=some (.slice (some ⟨b1,Y,none⟩) p.its.length c):=V 1;clear k1 V dv fg;cases q with
      |false=>
       have f:b=false:=by
        rw[<-gc,m.out];exact ayo D.out λh=>by have:=T.out.2 h;cases this
       have a:=ab f;clear f;go_wp2;have B:=ag R;have C:=ag P;have z:=ag I;have u:=ag M;refine aB (by kernel_rfl) (by kernel_rfl) ?_;repeat(go_big_quiet_step (first|(go_at_call 47;refine bH (E.out _))))
       refine gE ?_;intro U n;have g:=aN n;clear n B C z u;go_wp2;go_ret;exact⟨av a.out.symm,ae r (ae d g)⟩
      |true=>
       have o:=T.out.1 rfl;replace o:=ab o;rcases nf k with J|J
       .subst J;simp only[sA,rO] at I M;have G:=ajJ D.out o.out;have HK:=ab G;clear G;go_wp2;have B:=ag R;have C:=ag P;have z:=ag I;have u:=ag M;refine aB (by kernel_rfl) (by kernel_rfl) ?_;repeat(go_big_quiet_step (first|(go_at_call 47;refine bH (E.out _))))
        refine gE ?_;intro U n;have g:=aN n;clear n B C z u;go_wp2;go_roundw
        case rel=>first|exact⟨1,by omega,by go_num,HK.out,ae d g⟩|((repeat apply Exists.intro);refine⟨?_,rfl⟩;exact⟨1,by omega,by go_num,HK.out,ae d g⟩)
        simp[intOf];omega
       .obtain⟨j,rfl⟩:∃j,k=j+1:=⟨k-1,by omega⟩;have e1:((j+1:Nat):Int)-1=(j:Int):=by omega
        obtain⟨y,H⟩:=ak (l:=p.its) (k:=j) (by omega);obtain⟨b2,mV,L,_,_,a0,O,a1⟩:=aaG h1 H;simp only[jt,qd,qh] at L;obtain⟨rfl,rfl⟩:=L;replace H:=ab H;by_cases Q:y.n<x.n
        .have u1:=da (show ¬(x.n<=y.n) by omega);have G:=an8 S.out H.out D.out o.out Q;have HK:=ab G;clear G Q;go_wp2;have B:=ag R;have C:=ag P;have z:=ag I;have u:=ag M;have s:=ag O;refine aB (by kernel_rfl) (by kernel_rfl) ?_;repeat(go_big_quiet_step (first|(go_at_call 47;refine bH (E.out _))))
         refine gE ?_;intro U n;have g:=aN n;clear n B C z u s;go_wp2;go_roundw
         case rel=>first|exact⟨j+1+1,by omega,by go_num,HK.out,ae d g⟩|((repeat apply Exists.intro);refine⟨?_,rfl⟩;exact⟨j+1+1,by omega,by go_num,HK.out,ae d g⟩)
         simp[intOf];omega
        .have u1:=de (show x.n<=y.n by omega);have f:b=false:=by
          rw[<-gc,m.out];exact an9 H.out D.out Q
         have a:=ab f;clear f Q;go_wp2;have B:=ag R;have C:=ag P;have z:=ag I;have u:=ag M;have s:=ag O;refine aB (by kernel_rfl) (by kernel_rfl) ?_;repeat(go_big_quiet_step (first|(go_at_call 47;refine bH (E.out _))))
         refine gE ?_;intro U n;have g:=aN n;clear n B C z u s;go_wp2;go_ret;exact⟨av a.out.symm,ae r (ae d g)⟩
     .obtain rfl:k=p.its.length:=by omega
      have f:b=true:=by
       have:=S.out;rw[ga] at this;exact m.out.2 this
      have a:=ab f;clear f;go_wp2;go_ret;exact⟨av a.out.symm,ae r d⟩
   .have f:b=false:=by rw[<-gc,t.out];exact λh=>Z h.2.2.1
    have a:=ab f;clear f;refine(ah7 p.its.length 1 4 (by omega) w0).mono ?_;rintro e K ⟨rfl,rfl⟩;go_wp2;go_ret;exact⟨av a.out.symm,r⟩
  .have f:b=false:=by rw[<-gc,t.out];exact λh=>F h.2.1
   have a:=ab f;clear f;refine(kS key w0 false (by simp only[jp,uC];exact F)).mono ?_;rintro e K ⟨rfl,rfl⟩;go_wp2;go_ret;exact⟨av a.out.symm,r⟩
 .have f:b=false:=by rw[<-gc,t.out];exact λh=>N h.1
  have a:=ab f;clear f;refine(ah7 p.no 1 99 N w0).mono ?_;rintro e K ⟨rfl,rfl⟩;go_wp2;go_ret;exact⟨av a.out.symm,r⟩
end
section
variable {β:Bool}
open Go.RowKit
def Rd(w:World)(lo hi g:Nat)(l:List Int)(p:Nat):Prop:=
 ∃A c,cg w g 81 #[.slice A l.length c,.int .i64 p]/\l.length<=2000/\cB iD 1 w lo hi l [.slice A l.length c]/\hi<=g
def ayp(n v:Int):Prop:=(n<1->v=0)/\(1<=n->0<=v/\v<n)
def arS(w:World)(lo hi g:Nat)(l:List Int)(p:Nat)(n:Int)(e:Ending)(w':World):Prop:=
 ∃v:Int,e=.returned (.int .i64 v)/\ayp n v/\Rd w' lo hi g l (p+1)/\bV (λb=>b=g) w w'
def Rd.fP{p:Nat}(h:Rd w lo hi g l p)(f:bV S w w')(e:∀b,b<hi\/b=g->¬S b):Rd w' lo hi g l p:=by
 obtain⟨A,c,d,i,k,m⟩:=h;have a:=d.lt;exact⟨A,c,(f.block g a (e g (.inr rfl))).trans d,i,(cB.loc iD.loc).go (λb _ j=>f.block b (by omega) (e b (.inl j))) (am _) (am _) k,m⟩
def Rd.lt{p:Nat}(h:Rd w lo hi g l p):g<w.heap.size:=by
 obtain⟨A,c,a,_⟩:=h;exact a.lt
def Rd.drew{p:Nat}(h:Rd w lo hi g l p):Rd w.drew lo hi g l p:=h.fP ((bV.refl (λ_=>False) _).drew) (λ_ _ h=>h)
def Rd.alloc{p:Nat}(h:Rd w lo hi g l p)(o:Obj):Rd (w.alloc o) lo hi g l p:=h.fP ((bV.refl (λ_=>False) _).alloc o) (λ_ _ h=>h)
def auZ{p:Nat}(h:Rd w lo hi g l p)(n:Int)(j:n=(p:Int)+1):Rd (w.setCell ⟨g,1,none⟩ (.int .i64 n)) lo hi g l (p+1):=by
 obtain⟨A,c,f,a,d,e⟩:=h;refine⟨A,c, ?_,a, ?_,e⟩
 .have:=f.bC 1 (.int .i64 n);rw[j] at this ⊢;exact this
 .refine(cB.loc iD.loc).go (λb _ i=> ?_) (am _) (am _) d;exact qw _ _ _ _ (by show b≠g;omega)
def ag4(a:Nat)(b:a<9223372036854775808):(BitVec.ofInt 64 (a:Int)).toNat=a:=by
 rw[BitVec.ofInt_natCast,BitVec.toNat_ofNat];exact Nat.mod_eq_of_lt (by omega)
def alY(a b:Int)(d:0<=a)(f:a<9223372036854775808)(e:0<=b)(c:b<9223372036854775808):0<=bits .xor .i64 a b:=by
 obtain⟨a,rfl⟩:=qu d;obtain⟨b,rfl⟩:=qu e;have g:a ^^^ b<2 ^ 63:=Nat.xor_lt_two_pow (by omega) (by omega);show 0<=IntKind.i64.wrap ((BitVec.ofInt 64 (a:Int) ^^^ BitVec.ofInt 64 (b:Int)).toNat:Int);rw[BitVec.toNat_xor,ag4 a (by omega),ag4 b (by omega),tc];omega
def cF(w:World)(lo hi g:Nat)(l:List Int)(p:Nat)(n:Int)(h:Rd w lo hi g l p)(R:p<=1099511627776) :
  Calls (ai β) 16 #[.pointer (some ⟨g,0,none⟩),.int .i64 n] w (arS w lo hi g l p n):=by
 have a:=λn B=>auZ h n B;obtain⟨A,c,o,S,s,M⟩:=h;have H:=o.cell 0;have G:=o.cell 1;have N:=o.frozen 1;simp at H G;by_cases B:n<1
 .go_enter wN,ntmps16;go_wp2;go_ret;exact⟨0,rfl,⟨λ_=>rfl,λh=>absurd h (by omega)⟩,a _ rfl,(bV.refl (λb=>b=g) _).setCell (p:=⟨g,1,none⟩) (.inl rfl) _⟩
 by_cases e:l.length=0
 .have i:((l.length:Int) ==0)=true:=by rw[mt];omega
  replace e:=ab e;go_enter wN,ntmps16;go_wp2;go_ret;exact⟨0,rfl,⟨λ_=>rfl,λh=>⟨by omega,by omega⟩⟩,a _ rfl,(bV.refl (λb=>b=g) _).setCell (p:=⟨g,1,none⟩) (.inl rfl) _⟩
 by_cases E:p<l.length
 .obtain⟨x,d⟩:=ak E;obtain⟨b,r,rfl,u,t,j,q⟩:=s.ae9 d;have U:=ab d;clear d;have m:b≠g:=by omega
  have i:((l.length:Int) ==0)=false:=by rw[du];omega
  go_enter wN,ntmps16;go_wp2;go_ret;exact⟨x % n,rfl,⟨λh=>absurd h (by omega),λh=>⟨vI _ (by omega),uT _ (by omega)⟩⟩,a _ rfl,(bV.refl (λb=>b=g) _).setCell (p:=⟨g,1,none⟩) (.inl rfl) _⟩
 .have i:((l.length:Int) ==0)=false:=by rw[du];omega
  obtain⟨x,d⟩:=ak (l:=l) (k:=p % l.length) (ua _ (by omega));obtain⟨y,z⟩:=ak (l:=l) (k:=(p*7+3) % l.length) (ua _ (by omega));obtain⟨b,r,rfl,u,t,j,C⟩:=s.ae9 d;obtain⟨L,v,f,_,_,D,F⟩:=s.ae9 z;simp only[jt,qd,qh] at f;obtain⟨rfl,rfl⟩:=f;clear d z;have m:b≠g:=by omega
  have T:p % l.length<l.length:=ua _ (by omega);have K:(p*7+3) % l.length<l.length:=ua _ (by omega);have O:0<=((p:Int)*7+3) % (l.length:Int):=vI _ (by omega);have V:((p:Int)*7+3) % (l.length:Int)<(l.length:Int):=uT _ (by omega);have Q:(((p:Int)*7+3) % (l.length:Int)).toNat=(p*7+3) % l.length:=by
   have:((p:Int)*7+3) % (l.length:Int)=(((p*7+3) % l.length:Nat):Int):=rfl;rw[this];rfl
  have P:0<=(p:Int) / (l.length:Int):=Int.ediv_nonneg (by omega) (by omega);have J:(p:Int) / (l.length:Int)<=p:=Int.ediv_le_self _ (by omega);go_enter wN,ntmps16;go_wp2;have I:=alY (x*131+y*1117+(p:Int)*29+(p:Int) / (l.length:Int)*53) ((x*131+y*1117+(p:Int)*29+(p:Int) / (l.length:Int)*53) / 64) (by omega) (by omega) (by omega) (by omega)
  go_quiet (fail)
  go_wp2;go_ret;exact⟨_,rfl,⟨λh=>absurd h (by omega),λh=>⟨vI _ (by omega),uT _ (by omega)⟩⟩,
   (a _ rfl).fP ((bV.refl (λ_=>False) _).drewN nq) (λ_ _ h=>h),((bV.refl (λb=>b=g) _).setCell (p:=⟨g,1,none⟩) (.inl rfl) _).drewN nq⟩
def arT(w:World)(lo hi:Nat)(l:List Int)(e:Ending)(w':World):Prop:=
 ∃g,e=.returned (.pointer (some ⟨g,0,none⟩))/\Rd w' lo hi g (l.take 2000) 0/\w.heap.size<=g/\Below w.heap.size w w'
def cB.cut{xs:List X}(h:cB E Z w lo hi xs [.slice A n c])(q:m<=n):cB E Z w lo hi (xs.take m) [.slice A m c]:=by
 obtain⟨A',p,a,r,k,g⟩:=h;simp only[qf,qa,qh] at a;obtain⟨rfl,rfl,rfl⟩:=a;have f:(xs.take m).length=m:=by rw[ff];omega
 refine⟨A,c,by rw[f],by omega,k,λo=> ?_⟩;obtain⟨b,d,rfl,l,j,e⟩:=g (by omega);refine⟨b,d,rfl,l,j,λi x hi=>e i x ?_⟩;have:=aI hi;rw[ta (by omega)] at hi;exact hi
def arU(l:List Int)(A:Option Addr)(n c:Nat)(w:World)(lo hi:Nat)(h:cB iD 1 w lo hi l [.slice A n c])(d:hi<=w.heap.size) :
  Calls (ai β) 14 #[.slice A n c] w (arT w lo hi l):=by
 obtain⟨rfl,i,f⟩:=h.len_;unfold maxLen at f;by_cases g:2000<l.length
 .have b:=h.cut (m:=2000) (by omega);have a:(l.take 2000).length=2000:=by rw[ff];omega
  go_enter xA,ntmps14;go_wp2;go_ret;refine⟨_,rfl,⟨A,c, ?_,by omega, ?_,d⟩,am _,(fm _ _).alloc (am _) _⟩
  .rw[a];exact cg.new _ _ _
  .rw[a];exact Lcy.below (cB.loc iD.loc) b ((fm _ _).alloc (am _) _) d
 .have a:l.take 2000=l:=qj (by omega);have e:=ab a;clear a;go_enter xA,ntmps14;go_wp2;go_ret;refine⟨_,rfl,⟨A,c, ?_,by rw[e.out];omega, ?_,d⟩,am _,(fm _ _).alloc (am _) _⟩
  .rw[e.out];exact cg.new _ _ _
  .rw[e.out];exact Lcy.below (cB.loc iD.loc) h ((fm _ _).alloc (am _) _) d
end
section
variable {β:Bool}
open Go.RowKit
structure arV (w:World) (lo hi g:Nat) (l:List Int) (N:Nat) where
 to:World
 q:Nat
 rd:Rd to lo hi g l q
 ok:bV (λb=>b=g) w to
 lim:q<=N
section
variable {w:World} {lo hi g:Nat} {l:List Int} {N:Nat}
instance axd:bh (arV w lo hi g l N):=⟨λm x=>x.q+m<=N,λ_ _ h=>rX h,λ_ _=>True⟩
variable {P:Program}
variable {ops:Array Oper} {Qt:Act->World->Prop} {i:Nat} {o:Oper} {L:List (Nat×Oper)} {F:List (Nat×(arV w lo hi g l N->Prop))} {Rs:List (iR (arV w lo hi g l N))} {a:Act}
end
end
section
variable {β:Bool}
open Go.RowKit
def Rd.hi_{p:Nat}(h:Rd w lo hi g l p):hi<=g:=by
 obtain⟨A,c,_,_,_,a⟩:=h;exact a
structure aJ (w:World) (lo hi g:Nat) (l:List Int) (N s ia ic bk:Nat) (fx:Bool) (ty:TypeId) (n:Nat) (S:Nat->Prop) (pre:List Nat) where
 to:World
 q:Nat
 box:Option Nat
 done:Bool
 res:Option Value
 rd:Rd to lo hi g l q
 ok:bV (λb=>b=g\/box=some b\/(done=true/\S b)) w to
 lim:q<=N
 bw:∀b,box=some b->b=bk\/w.heap.size<=b
 bf:fx=true->box=some bk
 sf:∀b,S b->b≠g/\hi<=b/\b≠bk/\b<w.heap.size
 bx:∀b,box=some b->b≠g/\hi<=b/\∃cs:Array Value,cs.size=n/\cg to b ty cs
section
variable {w:World} {lo hi g:Nat} {l:List Int} {N s ia ic bk:Nat} {fx:Bool} {ty:TypeId} {n:Nat} {S:Nat->Prop} {pre:List Nat}
instance axe:bh (aJ w lo hi g l N s ia ic bk fx ty n S pre):=⟨λm x=>x.q+m<=N,λ_ _ h=>rX h,λi x=>(i=s\/i∈pre->x.done=false)/\(i=ia->x.box=none)/\(i=ic->x.res=none)⟩
structure aJ.le (x y:aJ w lo hi g l N s ia ic bk fx ty n S pre):Prop where
 fP:bV (λb=>b=g\/(x.done=false/\(x.box=some b\/S b))) x.to y.to
 done:x.done=true->y.done=true
 box:∀b,x.box=some b->y.box=some b
 fresh:∀b,x.box=none->y.box=some b->x.to.heap.size<=b
 res:∀v,x.res=some v->y.res=some v
def aJ.le_refl(x:aJ w lo hi g l N s ia ic bk fx ty n S pre):aJ.le x x:=⟨bV.refl _ _,id,λ_ h=>h,λb c a=>(by rw[c] at a;cases a),λ_ h=>h⟩
def aJ.free(x:aJ w lo hi g l N s ia ic bk fx ty n S pre)(b:Nat):Prop:=b<x.to.heap.size/\b≠g/\x.box≠some b/\¬S b
def aJ.le.free{x y:aJ w lo hi g l N s ia ic bk fx ty n S pre}(h:aJ.le x y)(a:x.free b):y.free b:=by
 refine⟨bd a.1 h.fP.size,a.2.1,λe=> ?_,a.2.2.2⟩;cases d:x.box with
 |none=>have:=h.fresh b d e;have:=a.1;omega
 |some c=>
  have:=h.box c d;rw[e] at this;cases this;exact a.2.2.1 d
def aJ.le.not{x y:aJ w lo hi g l N s ia ic bk fx ty n S pre}(_:aJ.le x y)(a:x.free b):¬(b=g\/(x.done=false/\(x.box=some b\/S b))):=by
 rintro(rfl|⟨_,h|h⟩)
 .exact a.2.1 rfl
 .exact a.2.2.1 h
 .exact a.2.2.2 h
def aJ.le.full{x y:aJ w lo hi g l N s ia ic bk fx ty n S pre}(h:aJ.le x y)(a:x.done=true)(e:x.box=some b)(c:cg x.to b t cs):y.done=true/\y.box=some b/\cg y.to b t cs:=by
 refine⟨h.done a,h.box b e,(h.fP.block b c.lt ?_).trans c⟩;rintro(rfl|⟨d,_⟩)
 .exact(x.bx _ e).1 rfl
 .rw[a] at d;cases d
def abc(h:w.cell? p=some v){x:aJ w lo hi g l N s ia ic bk fx ty n S pre}(c:p.block≠g)(b:p.block≠bk)(d:¬S p.block):x.to.cell? p=some v:=by
 have a:=ud w p h;have b:x.box≠some p.block:=λe=>by
  rcases x.bw _ e with h|h
  .exact b h
  .omega
 unfold World.cell? at h ⊢;rw[x.ok.block p.block a (by
  rintro(h|h|⟨_,h⟩)
  .exact c h
  .exact b h
  .exact d h)]
 exact h
def alZ     (k q:Nat) (j f:List Nat) (t:P.follows .mixedOrders=true) (H:ajz O k j f=true) (u:afh O.toArray k Y.tmps.size=true)
  (C:Rd w lo hi g l q) (I:q+k<=N) (a:Option Nat) (z:∀b,a=some b->b=bk) (p:fx=true->a=some bk) (o:∀b,S b->b≠g/\hi<=b/\b≠bk/\b<w.heap.size) (G:∀b,a=some b->b≠g/\hi<=b/\∃c:Array Value,c.size=n/\cg w b ty c) (r:a=none\/k<=ia)
  (h:wpQuiet P O.toArray (λv=>∃x:aJ w lo hi g l N s ia ic bk fx ty n S pre,v=x.to) (λF=>∃E:List (iR (aJ w lo hi g l N s ia ic bk fx ty n S pre)),cN P O.toArray (aJ.to (w:=w)) (aJ.le (w:=w)) (wpList P O.toArray Q (O.drop k)) (pick O f) [] E F) ((pick O j).map (·.2)) Y):(Code.region Z O.toArray true).wp P Q Y w:=
 abb (aJ.to (w:=w)) (aJ.le (w:=w)) aJ.le_refl k j f t H u
  ⟨w.drew,q,a,false,none,C.drew,(bV.refl _ _).drew,by omega,λb d=>.inl (z b d),p,o,λb d=>by
   obtain⟨B,y,c,D,A⟩:=G b d;exact⟨B,y,c,D,A⟩⟩ (λm t=>by show q+m<=N;omega) (λi hi=>And.intro (λ_=>rfl) (And.intro (λe=>by
   rcases r with h|h
   .exact h
   .omega) λ_=>rfl)) rfl h
def aJ.on(x:aJ w lo hi g l N s ia ic bk fx ty n S pre){w2:World}(hb:Below x.to.heap.size x.to w2):aJ w lo hi g l N s ia ic bk fx ty n S pre:=
 ⟨w2,x.q,x.box,x.done,x.res,x.rd.fP (bV.bF (S:=λ_=>False) hb) (λ_ _ h=>h),x.ok.trans (bV.bF (S:=λb=>b=g\/x.box=some b\/(x.done=true/\S b)) hb) λ_ _ e=>e,x.lim,x.bw,x.bf,x.sf,λb h=>by
  obtain⟨f,a,d,i,c⟩:=x.bx b h;exact⟨f,a,d,i,ar c hb⟩⟩
def aJ.told(x:aJ w lo hi g l N s ia ic bk fx ty n S pre){w2:World}(hb:Below x.to.heap.size x.to w2)(v:Value):aJ w lo hi g l N s ia ic bk fx ty n S pre:={x.on hb with res:=some v}
def aJ.au0(x:aJ w lo hi g l N s ia ic bk fx ty n S pre)(a:Below x.to.heap.size x.to w2)(v:Value)(d:x.res=none):aJ.le x (x.told a v):=⟨bV.bF a,id,λ_ h=>h,λb e c=>(by
 have:x.box=some b:=c;rw[e] at this;cases this),λu h=>by rw[d] at h;cases h⟩
def aJ.took(x:aJ w lo hi g l N s ia ic bk fx ty n S pre){w2:World}(hr:Rd w2 lo hi g l (x.q+1))(hc:bV (λb=>b=g) x.to w2)(hl:x.q+1<=N):aJ w lo hi g l N s ia ic bk fx ty n S pre:=
 ⟨w2,x.q+1,x.box,x.done,x.res,hr,x.ok.trans (hc.mono λb _ h=>.inl h) λ_ _ e=>e,hl,x.bw,x.bf,x.sf,λb h=>by
  obtain⟨a,c,f,i,d⟩:=x.bx b h;exact⟨a,c,f,i,aY d hc a⟩⟩
def aJ.au1(x:aJ w lo hi g l N s ia ic bk fx ty n S pre)(e:Rd w2 lo hi g l (x.q+1))(a:bV (λb=>b=g) x.to w2)(c:x.q+1<=N):aJ.le x (x.took e a c):=⟨a.mono λb _ h=>.inl h,id,λ_ h=>h,λb f d=>(by
 have:x.box=some b:=d;rw[f] at this;cases this),λ_ h=>h⟩
def aJ.made(x:aJ w lo hi g l N s ia ic bk fx ty n S pre)(hx:x.box=none)(cs:Array Value)(hn:cs.size=n)(hg:hi<=x.to.heap.size):aJ w lo hi g l N s ia ic bk fx ty n S pre:=
 ⟨x.to.alloc (.cells cs ty),x.q,some x.to.heap.size,x.done,x.res,x.rd.alloc _,(x.ok.mono λb _ h=>by rw[hx] at h;exact h.elim .inl λh=>h.elim (λh=>by cases h) λh=>.inr (.inr h)).alloc _,x.lim,λb h=>(by cases h;exact .inr x.ok.size),λh=>(by rw[x.bf h] at hx;cases hx),x.sf,λb h=>by
  cases h;exact⟨Nat.ne_of_gt x.rd.lt,hg,cs,hn,cg.new _ _ _⟩⟩
def aJ.au2(x:aJ w lo hi g l N s ia ic bk fx ty n S pre)(a:x.box=none)(cs:Array Value)(e:cs.size=n)(c:hi<=x.to.heap.size):aJ.le x (x.made a cs e c):=⟨(bV.refl _ _).alloc _,id,λb h=>(by rw[a] at h;cases h),λb _ d=>(by
 have:some x.to.heap.size=some b:=d;cases this;exact am _),λ_ h=>h⟩
def aJ.fill(x:aJ w lo hi g l N s ia ic bk fx ty n S pre){b:Nat}(hx:x.box=some b){w2:World}(hc:bV (λc=>c=b) x.to w2){cs:Array Value}(hn:cs.size=n)(hk:cg w2 b ty cs):aJ w lo hi g l N s ia ic bk fx ty n S pre:=
 ⟨w2,x.q,x.box,true,x.res,x.rd.fP hc (λc h e=>by
  obtain⟨a,d,_⟩:=x.bx b hx;rcases h with h|h
  .omega
  .exact a (e▸h)),(x.ok.mono (T:=λb=>b=g\/x.box=some b\/(true=true/\S b)) λc _ h=>h.elim .inl λh=>h.elim (λh=>.inr (.inl h)) λh=>.inr (.inr ⟨rfl,h.2⟩)).trans (hc.mono λc _ h=>.inr (.inl (by rw[hx,h]))) λ_ _ e=>e,x.lim,x.bw,x.bf,x.sf,λc h=>by
  rw[hx] at h;cases h;exact⟨(x.bx _ hx).1,(x.bx _ hx).2.1,cs,hn,hk⟩⟩
def aJ.au3(x:aJ w lo hi g l N s ia ic bk fx ty n S pre)(a:x.box=some b)(e:bV (λc=>c=b) x.to w2)(j:cs.size=n)(i:cg w2 b ty cs)(f:x.done=false):aJ.le x (x.fill a e j i):=
 ⟨e.mono λc _ h=>.inr ⟨f,.inl (by rw[a,h])⟩,λ_=>rfl,λ_ h=>h,λc d k=>(by rw[a] at d;cases d),λ_ h=>h⟩
variable {P:Program} {ops:Array Oper} {Qt:Act->World->Prop} {i:Nat} {o:Oper} {L:List (Nat×Oper)} {F:List (Nat×(aJ w lo hi g l N s ia ic bk fx ty n S pre->Prop))} {Rs:List (iR (aJ w lo hi g l N s ia ic bk fx ty n S pre))} {a:Act}
def aoa (R:Value->Prop) (c:o.dst.isSome=true)
  (j:∀x:aJ w lo hi g l N s ia ic bk fx ty n S pre,aaw F o x->∀b:Exit->Act->World->Prop,(∀v,R v->b .normal (a.put o.dst v) x.to)->wpList P ops b [o] a x.to)
  (e:∀v,cN P ops (aJ.to (w:=w)) (aJ.le (w:=w)) Qt L ((i,λ_=>R v)::F) Rs (a.put o.dst v)):cN P ops (aJ.to (w:=w)) (aJ.le (w:=w)) Qt ((i,o)::L) F (.any (λv _=>R v)::Rs) a:=
 kN (to:=aJ.to (w:=w)) (le:=aJ.le (w:=w)) (λv _=>R v) (.inl c) (λ_ _ _ h _=>h) (λx p m d q b k=>j x p b λv f=>
  k v x (aJ.le_refl x) (rX d) (λ_ _ _ h=>h) f) e
def au4 (R:Value->Prop) (j:o.dst.isSome=true)
  (z:∀x:aJ w lo hi g l N s ia ic bk fx ty n S pre,aaw F o x->x.q<N->∀c:Exit->Act->World->Prop,(∀v d,Rd d lo hi g l (x.q+1)->bV (λb=>b=g) x.to d->R v->c .normal (a.put o.dst v) d)->wpList P ops c [o] a x.to)
  (p:∀v,cN P ops (aJ.to (w:=w)) (aJ.le (w:=w)) Qt L ((i,λ_=>R v)::F) Rs (a.put o.dst v)):cN P ops (aJ.to (w:=w)) (aJ.le (w:=w)) Qt ((i,o)::L) F (.any (λv _=>R v)::Rs) a:=
 kN (to:=aJ.to (w:=w)) (le:=aJ.le (w:=w)) (λv _=>R v) (.inl j) (λv x y h _=>h) (λx r m t A c q=>by
  have k:x.q+(m+1)<=N:=t;exact z x r (by omega) c λv d e f u=>
   q v (x.took e f (by omega)) (x.au1 e f (by omega)) (by show x.q+1+m<=N;omega) (λ_ _ _ h=>h) u) p
def au5 (R:Value->aJ w lo hi g l N s ia ic bk fx ty n S pre->Prop) (p:o.dst.isSome=true) (hi':i=ic) (t:∀v x y,R v x->aJ.le x y->R v y)
  (D:∀x:aJ w lo hi g l N s ia ic bk fx ty n S pre,aaw F o x->∀d:Exit->Act->World->Prop,(∀v f (c:Below x.to.heap.size x.to f),R v (x.told c v)->d .normal (a.put o.dst v) f)->wpList P ops d [o] a x.to)
  (r:∀v,cN P ops (aJ.to (w:=w)) (aJ.le (w:=w)) Qt L ((i,λx=>R v x/\x.res=some v)::F) Rs (a.put o.dst v)):cN P ops (aJ.to (w:=w)) (aJ.le (w:=w)) Qt ((i,o)::L) F (.any (λv x=>R v x/\x.res=some v)::Rs) a:=
 kN (to:=aJ.to (w:=w)) (le:=aJ.le (w:=w)) (λv x=>R v x/\x.res=some v) (.inl p) (λv x y h k=>⟨t v x y h.1 k,k.res v h.2⟩) (λx z m A q d u=>D x z d λv f c B=>
  u v (x.told c v) (x.au0 c v (q.2.2 hi')) (rX A) (λj C _ b=>⟨b.1,b.2.1,λe=>absurd (e.trans hi'.symm) C⟩) ⟨B,rfl⟩) r
def ain (R:Value->Value->Prop) (c:o.dst.isSome=true)
  (q:∀x:aJ w lo hi g l N s ia ic bk fx ty n S pre,aaw F o x->∀b:Exit->Act->World->Prop,(∀v u,x.res=some u->R v u->b .normal (a.put o.dst v) x.to)->wpList P ops b [o] a x.to)
  (d:∀v,cN P ops (aJ.to (w:=w)) (aJ.le (w:=w)) Qt L ((i,λx=>∃u,x.res=some u/\R v u)::F) Rs (a.put o.dst v)):cN P ops (aJ.to (w:=w)) (aJ.le (w:=w)) Qt ((i,o)::L) F (.any (λv x=>∃u,x.res=some u/\R v u)::Rs) a:=
 kN (to:=aJ.to (w:=w)) (le:=aJ.le (w:=w)) (λv x=>∃u,x.res=some u/\R v u) (.inl c) (λ_ _ _ ⟨u,h,hr⟩ hl=>⟨u,hl.res u h,hr⟩) (λx j m k r b f=>q x j b λv u e p=>
  f v x (aJ.le_refl x) (rX k) (λ_ _ _ h=>h) ⟨u,e,p⟩) d
def arW (q:o.dst.isSome=true) (hi':i=ia) (t:ia≠s) (z:hi<=w.heap.size) (cs:Array Value) (k:cs.size=n)
  (D:∀x:aJ w lo hi g l N s ia ic bk fx ty n S pre,∀f:Exit->Act->World->Prop,(f .normal (a.put o.dst (.pointer (some ⟨x.to.heap.size,0,none⟩))) (x.to.alloc (.cells cs ty)))->wpList P ops f [o] a x.to)
  (u:∀v,cN P ops (aJ.to (w:=w)) (aJ.le (w:=w)) Qt L ((i,λx=>∃b,v=.pointer (some ⟨b,0,none⟩)/\w.heap.size<=b/\x.box=some b)::F) Rs (a.put o.dst v)):cN P ops (aJ.to (w:=w)) (aJ.le (w:=w)) Qt ((i,o)::L) F (.any (λv x=>∃b,v=.pointer (some ⟨b,0,none⟩)/\w.heap.size<=b/\x.box=some b)::Rs) a:=
 kN (to:=aJ.to (w:=w)) (le:=aJ.le (w:=w)) (λv x=>∃b,v=.pointer (some ⟨b,0,none⟩)/\w.heap.size<=b/\x.box=some b) (.inl q) (λv x y ⟨b,e,hb,h⟩ hle=>⟨b,e,hb,hle.box b h⟩) (λx E m B r f A=>by
  have p:=r.2.1 hi';have d:hi<=x.to.heap.size:=db z x.ok.size;refine D x f (A _ (x.made p cs k d) (x.au2 p cs k d) (rX B) (λj C _ c=>⟨c.1,λe=>absurd (e.trans hi'.symm) C,c.2.2⟩) ⟨_,rfl,x.ok.size,rfl⟩)) u
def arX (R:aJ w lo hi g l N s ia ic bk fx ty n S pre->Prop) (hi':i=s) (r:∀j∈pre,Behind ops i j) (K:∀x y,R x->aJ.le x y->R y)
  (I:∀x:aJ w lo hi g l N s ia ic bk fx ty n S pre,aaw F o x->x.done=false->∀f:Exit->Act->World->Prop,(∀b (z:x.box=some b) p (q:bV (λc=>c=b) x.to p) (t:Array Value) (k:t.size=n) (d:cg p b ty t),R (x.fill z q k d)->f .normal (a.put o.dst undef) p)->wpList P ops f [o] a x.to)
  (E:o.dst=none)
  (G:cN P ops (aJ.to (w:=w)) (aJ.le (w:=w)) Qt L ((i,λx=>R x)::F) Rs (a.put o.dst undef)):cN P ops (aJ.to (w:=w)) (aJ.le (w:=w)) Qt ((i,o)::L) F (.any (λ_ x=>R x)::Rs) a:=
 kN (to:=aJ.to (w:=w)) (le:=aJ.le (w:=w)) (λ_ x=>R x) (.inr λ_ _ _ h=>h) (λ_ x y h A=>K x y h A) (λx z m M C f H=>I x z (C.1 (.inl hi')) f λb D p q t k d J=>by
  exact H undef (x.fill D q k d) (x.au3 D q k d (C.1 (.inl hi'))) (rX M) (λj O B u=>⟨λe=>e.elim (λe=>absurd (e.trans hi'.symm) O) λe=>absurd (r j e) B,u.2⟩) J) (λv=>by
  have e:a.put o.dst v=a.put o.dst undef:=by rw[E];rfl
  rw[e];exact G)
def ayq(h:∀x:aJ w lo hi g l N s ia ic bk fx ty n S pre,iv F x->Qt a x.to):cN P ops (aJ.to (w:=w)) (aJ.le (w:=w)) Qt [] F [] a:=aif h
end
end
section
variable {β:Bool}
open Go.RowKit
def ib:Flat ByteArray:=⟨1,λs=>[.string s],λs=>s.size<=maxLen,λ_=>rfl,λs u a=>by rw[ge.1 a];rfl,by decide⟩
abbrev cH:gR (List ByteArray):=fq 9 (bR ib) 1
def cH.az:eK cH [9]:=fq.az (bR.az ib)
def pL:iw (ai β) 117 9 1 16:=iw.mk' xP (z:=.string ⟨#[]⟩) (by kernel_rfl) rfl (by decide) (by decide)
def iV(h:cH w lo hi xs [.slice A n c]){x:ByteArray}(f:xs[k]?=some x) :
  ∃b a,A=some ⟨b,a,none⟩/\lo<=b/\b<hi/\x.size<=maxLen/\w.cell? ⟨b,a+k,none⟩=some (.string x):=by
 obtain⟨b,a,l,rfl,g,e,j,⟨rfl,d⟩,i⟩:=h.1.at_ f;exact⟨b,a,rfl,g,e,d,by simpa using i 0 _ rfl⟩
def Rd.blk{p:Nat}(h:Rd w lo hi g l p):∃b,cg w g 81 b:=by
 obtain⟨A,c,a,_⟩:=h;exact⟨_,a⟩
def au6{pF hi' : Nat}{p:Nat}{cs:List Value}(h:cH w pF hi' xs cs)(c:Rd w lo hi g l p)(d:bV (λb=>b=g) w w'):cH w' pF hi' xs cs:=
 cH.az.fP h d λb _ _ ⟨t,ht,ds,hd⟩ e=>by
  obtain⟨f,a⟩:=c.blk;subst e;have:=fF hd a;rw[ge.1 ht] at this;exact absurd this (by decide)
def aio(h:xs.all (λs=>decide (s.size<=9))=true):∀s∈xs,s.size<=9:=λs a=>sR (lc.1 h s a)
def abd(h:xs.all (λs=>decide (s.size<=9))=true):∀s∈xs,ib.good s:=λs a=>by
 have:=aio h s a;show s.size<=maxLen;unfold maxLen;omega
def ayr(xs:List ByteArray)(w:World)(lo hi g:Nat)(l:List Int)(p:Nat)(e:Ending)(w':World):Prop:=∃s∈xs,e=.returned (.string s)/\Rd w' lo hi g l (p+1)/\bV (λb=>b=g) w w'
def al0(xs:List ByteArray)(z:0<xs.length/\xs.length<=100)(v:Value)(l:List Int)(g p lo hi pF hi':Nat)(w:World)(j:Rd w lo hi g l p)(y:p<=1000000)(h:cH w pF hi' xs [v]) :
  Calls (ai β) 103 #[.pointer (some ⟨g,0,none⟩),v] w (ayr xs w lo hi g l p):=by
 obtain⟨A,c,rfl⟩:=h.form;go_enter yM,ntmps103;go_wp2;refine(cF _ _ _ _ _ _ _ j (by omega)).mono ?_;rintro e u ⟨m,rfl,⟨_,n⟩,i,a⟩;obtain⟨o,B⟩:=n (by omega);clear n;obtain⟨k,rfl⟩:=qu o;obtain⟨s,d⟩:=ak (l:=xs) (k:=k) (by omega);have q:=au6 h j a;obtain⟨b,t,rfl,_,_,r,f⟩:=iV q d;replace d:=ab d;have x:k<xs.length:=by omega
 go_wp2;go_ret;exact⟨s,aE d.out,rfl,i,a⟩
def apH(w:World)(lo hi g:Nat)(l:List Int)(p:Nat)(e:Ending)(w':World):Prop:=∃s q,e=.returned (.string s)/\s.size<=9/\Rd w' lo hi g l q/\q<=p+3/\bV (λb=>b=g) w w'
def apI(xs:List ByteArray)(s:ByteArray)(v:Value)(w:World)(lo hi:Nat)(h:cH w lo hi xs [v])(b:Bool)(f:b=true↔s∈xs) :
  Calls (ai β) 139 #[v,.string s] w λe p=>e=.returned (.bool b)/\w=p:=by
 replace f:=ab f;obtain⟨A,c,rfl⟩:=h.form;obtain⟨_,y,r⟩:=h.len_;unfold maxLen at r;go_enter yw,ntmps139;go_wp2
 go_loop [5] (λi=>∃k:Nat,k<=xs.length/\i=.int .i64 k/\s∉xs.take k) (λi=>xs.length-(intOf i).toNat)
 case atStart=>exact⟨0,fa _,rfl,by simp⟩
 case round=>
  obtain⟨k,u,rfl,g⟩:=hrel;replace g:=ab g;by_cases l:k<xs.length
  .obtain⟨x,a⟩:=ak l;obtain⟨t,q,rfl,_,_,_,o⟩:=iV h a;replace a:=ab a;by_cases j:x=s
   .subst j;have d:=aE a.out;have m:=ab d;clear d;go_wp2;go_ret;exact⟨av (by rw[eq_comm,f.out];exact m.out),rfl⟩
   .have z:=aa7 j;have n:s∉xs.take (k+1):=by
     rw[mp a.out];simp[g.out,sj j]
    replace n:=ab n;clear j;go_wp2
    go_round
    case rel=>exact⟨k+1,by omega,by go_num,n.out⟩
    simp[intOf];omega
  .obtain rfl:k=xs.length:=by omega
   have d:s∉xs:=by have:=g.out;rwa [ga] at this
   have m:=ab d;clear d;go_wp2;go_ret;exact⟨av (by rw[eq_comm,<-gc,f.out];exact m.out),rfl⟩
end
section
variable {β:Bool}
open Go.RowKit
def atF(l:List Nat)(a:Nat):Nat->Nat->Nat
 |0,_=>min (a+8) l.length
 |f+1,n=>if l.length<=a+n then l.length else if pJ l (a+n)=true then a+n else atF l a f (n+1)
def oW(l:List Nat)(a:Nat):Nat:=atF l a 5 3
def afr{l:List Nat}{a:Nat}(b:a<l.length):∀(f n:Nat),0<n->n+f<=8->a<atF l a f n/\atF l a f n<=l.length/\atF l a f n<=a+8
 |0,n,_,_=>by show a<min _ _/\min _ _<=_/\min _ _<=_;omega
 |f+1,n,h0,h8=>by
  unfold atF;split
  .omega
  .split
   .omega
   .exact afr b f (n+1) (by omega) (by omega)
def eH{l:List Nat}{a:Nat}(b:a<l.length):a<oW l a/\oW l a<=l.length/\oW l a<=a+8:=afr b 5 3 (by omega) (by omega)
def dA(l:List Nat):Nat->List Int->Nat->Prop
 |a,[],b=>a=b
 |a,x::xs,b=>a<l.length/\x=(oW l a:Int)/\dA l (oW l a) xs b
def dA.snoc{l:List Nat}:∀{a:Nat} {c:List Int} {b:Nat},dA l a c b->b<l.length->dA l a (c++[(oW l b:Int)]) (oW l b)
 |a,[],b,h,h1=>by
  have h:a=b:=h;subst h;exact⟨h1,rfl,rfl⟩
 |a,x::c,b,⟨h2,h3,h4⟩,h1=>⟨h2,h3,h4.snoc h1⟩
def dA.len{l:List Nat}:∀{a:Nat} {c:List Int} {b:Nat},dA l a c b->a+c.length<=b
 |a,[],b,h=>by
  have h:a=b:=h;simp;omega
 |a,x::c,b,⟨h1,_,h⟩=>by
  have:=h.len;have:=(eH h1).1;simp only[fi];omega
def dA.at_{l:List Nat}:∀{a:Nat} {d:List Int} {b k m:Nat} {x:Int},dA l a d b->dA l a (d.take k) m->d[k]?=some x->x=(oW l m:Int)/\m<l.length/\dA l a (d.take (k+1)) (oW l m)
 |a,[],b,k,m,x,_,_,c=>by simp at c
 |a,y::d,b,0,m,x,⟨h1,e,h3⟩,f,c=>by
  have f:a=m:=f;subst f;have c:y=x:=by simpa using c
  subst c;exact⟨e,h1,h1,e,rfl⟩
 |a,y::d,b,k+1,m,x,⟨h1,e,h3⟩,⟨h1',e',f⟩,c=>by
  obtain⟨j,g,i⟩:=dA.at_ h3 f (by simpa using c);exact⟨j,g,h1,e,i⟩
def dA.ao9{l:List Nat}(f:l.length<=maxLen):∀{a:Nat} {d:List Int} {b:Nat},dA l a d b->∀x∈d,bX x
 |a,[],b,_,x,c=>by cases c
 |a,y::d,b,⟨h1,e,h⟩,x,c=>by
  have:=(eH h1).2.1;unfold maxLen at f;rcases me.1 c with rfl|c
  .rw[e];unfold bX;omega
  .exact h.ao9 f x c
def ag5(l:List Nat):Nat->Nat->List Int
 |0,_=>[]
 |f+1,a=>if a<l.length then(oW l a:Int)::ag5 l f (oW l a) else[]
def dA.uniq{l:List Nat}:∀{a:Nat} {b:List Int} {f:Nat},dA l a b l.length->l.length-a<=f->b=ag5 l f a
 |a,[],f,h,_=>by
  have h:a=l.length:=h;cases f with
  |zero=>rfl
  |succ f=>show[]=if _ then _ else _;rw[bv (by omega)]
 |a,x::b,f,⟨h1,e,h⟩,hf=>by
  have:=(eH h1).1;cases f with
  |zero=>omega
  |succ f=>
   show x::b=if _ then _ else _
   rw[dj h1,e,<-h.uniq (f:=f) (by omega)]
def adE{l:List Nat}:∀{f a:Nat},a<=l.length->l.length-a<=f->dA l a (ag5 l f a) l.length
 |0,a,h1,h2=>by show a=l.length;omega
 |f+1,a,h1,h2=>by
  show dA l a (if a<l.length then(oW l a:Int)::ag5 l f (oW l a) else[]) l.length;by_cases b:a<l.length
  .rw[dj b];have:=eH b;exact⟨b,rfl,adE (by omega) (by omega)⟩
  .rw[bv b];show a=l.length;omega
def bY(s:ByteArray):Nat->List Int->List ByteArray
 |_,[]=>[]
 |a,x::xs=>s.extract a x.toNat::bY s x.toNat xs
def aaL{s:ByteArray}{l:List Nat}:∀{a:Nat} {b:List Int} {m q:Nat},dA l a b m->bY s a (b++[(q:Int)])=bY s a b++[s.extract m q]
 |a,[],m,q,h=>by
  have h:a=m:=h;subst h;rfl
 |a,x::b,m,q,⟨_,e,h⟩=>by
  show s.extract a x.toNat::bY s x.toNat (b++[(q:Int)])=s.extract a x.toNat::(bY s x.toNat b++_);rw[e,sT,aaL h]
def nS(s:ByteArray):∀(a:Nat) (b:List Int),(bY s a b).length=b.length
 |_,[]=>rfl
 |a,x::b=>by show(bY s x.toNat b).length+1=_;rw[nS];rfl
def aaM(s:ByteArray):∀(c:List Int) (a:Nat),∀x∈bY s a c,x.size<=s.size
 |[],_,x,b=>by cases b
 |z::c,a,x,b=>by
  have b:x∈s.extract a z.toNat::bY s z.toNat c:=b;rcases me.1 b with rfl|b
  .rw[<-aM,cI,pi,ff,aM];omega
  .exact aaM s c _ x b
def fY(s:ByteArray):List ByteArray:=bY s 0 (ag5 (bs s) s.size 0)
def aob{xs:List Int}(h:dA (bs s) 0 xs s.size):bY s 0 xs=fY s:=by
 rw[<-aM] at h;unfold fY;rw[h.uniq (f:=s.size) (by rw[aM];omega)]
def arY{q : Nat}(a:(bs s).all oU=true)(e:m<q)(d:q<=m+8)(f:q<=s.size):aR (bs (s.extract m q)):=by
 have b:(((bs s).take q).drop m).length=q-m:=by rw[pi,ff,aM];omega
 rw[cI];refine⟨⟨by omega,by omega⟩, ?_⟩;rw[lc] at a ⊢;exact λx c=>a x (oS (rT c))
def afs(s:ByteArray){q : Nat}(a:q<=s.size):(s.extract m q).size=q-m:=by
 rw[<-aM,cI,pi,ff,aM];omega
def pM{s:ByteArray}(g:(bs s).all oU=true):∀{a:Nat} {d:List Int} {b:Nat},dA (bs s) a d b->∀x∈bY s a d,aR (bs x)
 |a,[],b,_,x,c=>by cases c
 |a,y::d,b,⟨h1,e,h⟩,x,c=>by
  obtain⟨i,f,j⟩:=eH h1;rw[aM] at f;have c:x∈s.extract a y.toNat::bY s y.toNat d:=c;rw[e,sT] at c;rcases me.1 c with rfl|c
  .exact arY g i j f
  .exact pM g h x c
def aft(s:ByteArray):dA (bs s) 0 (ag5 (bs s) s.size 0) s.size:=by
 have:=adE (l:=bs s) (f:=s.size) (a:=0) (fa _) (by rw[aM];omega)
 rwa [aM] at this
def ju(a:(bs s).all oU=true):∀x∈fY s,aR (bs x):=pM a (aft s)
def ace(s:ByteArray):(fY s).length<=s.size:=by
 have:=(aft s).len;unfold fY;rw[nS];omega
def dc(l:List ByteArray):List Nat:=l.flatMap bs
def acf{s:ByteArray}:∀{a:Nat} {c:List Int} {b:Nat},dA (bs s) a c b->dc (bY s a c)=((bs s).take b).drop a
 |a,[],b,h=>by
  have h:a=b:=h;subst h;show[]=_;rw[rv (by rw[ff];omega)]
 |a,x::c,b,⟨h1,e,h⟩=>by
  obtain⟨g,i,j⟩:=eH h1;have d:=h.len;show bs (s.extract a x.toNat)++dc (bY s x.toNat c)=_;rw[e,sT,acf h,cI];have f:((bs s).take b).drop a=(((bs s).take b).take (oW (bs s) a)).drop a++((bs s).take b).drop (oW (bs s) a):=by
   conv=>lhs;rw[<-qZ (oW (bs s) a) ((bs s).take b)]
   rw[List.drop_append_of_le_length (by rw[ff,ff];omega)]
  rw[f,vP,rh (show oW (bs s) a<=b by omega)]
def apJ(s:ByteArray):dc (fY s)=bs s:=by
 unfold fY;rw[acf (aft s),rc,<-aM,ga]
def arZ(s:ByteArray)(p:Nat)(B:p<s.size)(D:s.size<=1000000)(w:World) :
  Calls (ai β) 203 #[.string s,.int .i64 p] w λe v=>e=.returned (.int .i64 (oW (bs s) p:Nat))/\Below w.heap.size w v:=by
 have o:s.size<=maxLen:=by unfold maxLen;omega
 go_enter xY,ntmps203;go_wp2;go_loopw [5] (λr wr=>∃k f:Nat,k+f=8/\3<=k/\r=.int .i64 k/\oW (bs s) p=atF (bs s) p f k/\Below w.heap.size w wr) (λr _=>8-(intOf r).toNat)
 case atStart=>exact⟨3,5,rfl,by omega,rfl,rfl,fm _ _⟩
 case round=>
  obtain⟨k,f,y,C,rfl,b,d⟩:=hrel;replace b:=ab b;by_cases A:k<8
  .obtain⟨g,rfl⟩:∃g,f=g+1:=⟨f-1,by omega⟩;have a:atF (bs s) p (g+1) k=if s.size<=p+k then s.size else if pJ (bs s) (p+k)=true then p+k else atF (bs s) p g (k+1):=by
    show(if(bs s).length<=p+k then(bs s).length else _)=_;rw[aM]
   have HS:=ab a;clear a;by_cases l:s.size<=p+k
   .have n:=de (show(s.size:Int)<=(p:Int)+(k:Int) by omega);go_wp2;go_ret;exact⟨by rw[b.out,HS.out,dj l];rfl,d⟩
   .have n:=da (show ¬((s.size:Int)<=(p:Int)+(k:Int)) by omega);rw[bv l] at HS;obtain⟨i,u⟩:∃m,m=p+k:=⟨_,rfl⟩;have x:(p:Int)+(k:Int)=((i:Nat):Int):=by omega
    have q:3<=i/\i<s.size:=by omega
    rw[x] at n;rw[<-u] at HS;clear u;go_wp2;refine(alP s i q o wr).mono ?_;rintro e z ⟨rfl,t⟩;cases j:pJ (bs s) i with
    |true=>
     have c:=ab (b.out.trans (HS.out.trans (dj j)));clear j;go_wp2;go_ret;exact⟨by rw[c.out];rfl,ae d t⟩
    |false=>
     have c:=ab (b.out.trans (HS.out.trans (bv (by rw[j];exact qp))));clear j;go_wp2;go_roundw
     case rel=>exact⟨k+1,g,by omega,by omega,by go_num,c.out,ae d t⟩
     simp[intOf];omega
  .obtain rfl:k=8:=by omega
   obtain rfl:f=0:=by omega
   have a:atF (bs s) p 0 8=min (p+8) s.size:=by
    show min (p+8) (bs s).length=_;rw[aM]
   have c:=ab (b.out.trans a);clear a b;by_cases l:p+8<=s.size
   .have n:=de (show(p:Int)+8<=(s.size:Int) by omega);rw[rh l] at c;go_wp2;go_ret;exact⟨by rw[c.out];simp,d⟩
   .have n:=da (show ¬((p:Int)+8<=(s.size:Int)) by omega);rw[Nat.min_eq_right (by omega)] at c;go_wp2;go_ret;exact⟨by rw[c.out];simp,d⟩
def ar1(s:ByteArray)(w:World)(e:Ending)(w':World):Prop:=∃v a,e=.returned v/\aD fp 3 w' w.heap.size v a/\dA (bs s) 0 a s.size/\Below w.heap.size w w'
def al1(s:ByteArray)(L:s.size<=100000)(w:World) :
  Calls (ai β) 179 #[.string s] w (ar1 s w):=by
 go_enter ye,ntmps179;go_wp2;have m:=aC w (.cells #[] 3);have j:aD fp 3 (w.alloc (.cells #[] 3)) w.heap.size (.slice (some ⟨w.heap.size,0,none⟩) 0 0) []:=(dW.new w 3 (am _)).own 1;generalize w.alloc (.cells #[] 3)=w0 at *;go_loopw [3,4] (λB x wr=>∃(k:Nat) (g:List Int),k<=s.size/\x=.int .i64 k/\aD fp 3 wr w.heap.size B g/\dA (bs s) 0 g k/\Below w.heap.size w wr) (λ_ x _=>s.size-(intOf x).toNat)
 case atStart=>exact⟨0,[],fa _,rfl,j,rfl,m⟩
 case round=>
  clear j m;obtain⟨k,g,G,rfl,p,o,r⟩:=hrel;obtain⟨A,c,rfl⟩:=p.form;by_cases d:k<s.size
  .go_wp2;refine(arZ s k d (by omega) wr).mono ?_;rintro e E ⟨rfl,y⟩;have b:=eH (l:=bs s) (a:=k) (by rw[aM];exact d);rw[aM] at b;have J:=o.len;have n:=p.below y;have f:=ae r y;have HC:=ab (o.snoc (by rw[aM];exact d));revert HC b;generalize oW (bs s) k=q;intro b HC;clear p r o;go_wp2_with(at_builtin;refine bM (F:=fp) (v:=.slice A g.length c) rfl (.tmp 13) (.tmp 15) 31 rfl lj (q:Int) rfl n rfl rfl (by omega) f.size ?_;intro K H t u z;obtain⟨D,I,rfl⟩:=t.form;simp only[ap,fi,lP,lm] at t);go_roundw
   case rel=>exact⟨q,g++[(q:Int)],b.2.1,rfl,by simpa using t,HC.out,f.trans (u.below f.size λi M C=>by have:=(n.at_ C).1;omega)⟩
   simp[intOf];omega
  .obtain rfl:k=s.size:=by omega
   go_wp2;go_ret;exact⟨_,g,rfl,p,o,r⟩
def al3(s:ByteArray)(w:World)(e:Ending)(w':World):Prop:=∃v,e=.returned v/\aD ib 9 w' w.heap.size v (fY s)/\Below w.heap.size w w'
def ac4(s:ByteArray)(B:s.size<=100000)(w:World) :
  Calls (ai β) 124 #[.string s] w (al3 s w):=by
 go_enter yy,ntmps124;go_wp2;have J:=aC w (.cells #[] 9);have C:aD ib 9 (w.alloc (.cells #[] 9)) w.heap.size (.slice (some ⟨w.heap.size,0,none⟩) 0 0) []:=(dW.new w 9 (am _)).own 1;generalize w.alloc (.cells #[] 9)=w0 at *;refine(al1 s B w0).mono ?_;rintro e w1 ⟨ve,f,rfl,W,a,G⟩;obtain⟨Ae,ce,rfl⟩:=W.form;have j:=C.below G;have l:=ae J G;have z1:=G.size;have a1:=a.len;have H:=W.deep (a.ao9 (by rw[aM];unfold maxLen;omega)) w0.heap.size;have D:=H.sl (am _);replace a:=ab a;replace j:=ab j;have O:=ab D;replace l:=ab l;clear C J G H D W;go_wp2;go_loopw [3,4,6] (λoo aa Z wr=>∃(k m:Nat),k<=f.length/\m<=s.size/\Z=.int .i64 k/\aa=.int .i64 m/\dA (bs s) 0 (f.take k) m/\aD ib 9 wr w.heap.size oo (bY s 0 (f.take k))/\Below w.heap.size w wr/\fq 3 (bR fp) 1 wr w0.heap.size w1.heap.size f [.slice Ae f.length ce]) (λ_ _ Z _=>f.length-(intOf Z).toNat)
 case atStart=>exact⟨0,0,fa _,fa _,rfl,rfl,rfl,j.out,l.out,O.out⟩
 case round=>
  clear j l O;obtain⟨k,m,hk,lS,rfl,rfl,U,g,L,P⟩:=hrel;by_cases V:k<f.length
  .obtain⟨y,z⟩:=ak V;obtain⟨rfl,K,M⟩:=a.out.at_ U z;obtain⟨h1,E,h2⟩:=eH K;rw[aM] at E;have N:bY s 0 (f.take (k+1))=bY s 0 (f.take k)++[s.extract m (oW (bs s) m)]:=by rw[mp z,aaL U]
   have u:(bY s 0 (f.take k)).length=k:=by rw[nS,ff,rh hk]
   have n:∀x∈bY s 0 (f.take k),x.size<=maxLen:=λx p=>by
    have:=aaM s _ _ x p;unfold maxLen;omega
   revert N;revert M;revert E;revert h2;revert h1;revert z;generalize oW (bs s) m=q;generalize bY s 0 (f.take k)=xs at g u n ⊢;intro z h1 h2 E M N;obtain⟨A,c,rfl⟩:=g.form;obtain⟨b',X,cs,e0,a0,a6,_,⟨rfl,a4⟩,I⟩:=P.1.at_ z;subst e0;obtain⟨a3,T⟩:=P.2 (by omega) _ _ _ _ rfl;have R:wr.cell? ⟨b',X+k,none⟩=some (.int .i64 (q:Int)):=by simpa using I 0 _ rfl
   have HN:=ab N;have H4:=ab M;have O:=ab P;have HG:=ab n;have a8:(s.extract m q).size<=maxLen:=by rw[afs s E];unfold maxLen;omega
   have a2:=ab u;have a7:xs.length<=100000:=by omega
   clear I N M P U z u K n;have o:∀B:(Value.slice A xs.length c).ownBlock=some b',False:=λB=>by
    obtain⟨ds,hd⟩:=(aD.deep g (λx p=>HG.out x p) 0).blk B;exact absurd (fF T hd) (by decide)
   replace o:=ab o;have g1:¬((m:Int)<0):=by omega
   have g2:(m:Int)<=(q:Int):=by omega
   have g3:(q:Int)<=(s.size:Int):=by omega
   go_wp2_with(at_builtin;refine bM (F:=ib) (v:=.slice A xs.length c) rfl (.tmp 16) (.tmp 24) 117 rfl pL (s.extract m q) rfl g rfl rfl (by omega) L.size ?_;intro va wa Y r a5;obtain⟨Aa,ca,rfl⟩:=Y.form;simp only[ap,fi,lP,lm] at Y;have a9:=iU R r o.out);go_roundw
   case rel=>
    refine⟨k+1,q,by omega,E,by go_num,rfl,H4.out,by rw[HN.out];simpa using Y,L.trans (r.below L.size λi hi p=>by have:=(g.at_ p).1;omega), ?_⟩;exact(fq.az (bR.az fp)).go (λb G b2 ht=>r.block b (by obtain⟨t,_,d,hd⟩:=ht;exact hd.lt) λB=>by
      obtain⟨ds,hd⟩:=(aD.deep g (λx p=>HG.out x p) 0).blk B;obtain⟨t,S,d2,Q⟩:=ht;have e1:=fF hd Q;rw[ge.1 S] at e1;exact absurd e1 (by decide)) (am _) (am _) O.out
   case measure=>simp[intOf];omega
  .obtain rfl:k=f.length:=by omega
   rw[ga,aob a.out] at g;obtain⟨A,c,rfl⟩:=g.form;go_wp2;go_ret;exact⟨_,rfl,g,L⟩
end
section
variable {β:Bool}
open Go.RowKit
structure Nd where
 p:ByteArray
 b:ByteArray
def nz:Flat Nd:=⟨2,λx=>[.string x.p,.string x.b],λx=>x.p.size<=maxLen/\x.b.size<=maxLen,λ_=>rfl,λx u a=>by simp at a;rcases a with rfl|rfl<;>rfl,by decide⟩
abbrev fG:gR (List Nd):=fq 122 (bR nz) 2
def fG.az:eK fG [122]:=fq.az (bR.az nz)
def mj:iw (ai β) 83 122 2 32:=iw.mk' yP (z:=.agg #[.string ⟨#[]⟩,.string ⟨#[]⟩]) (by kernel_rfl) rfl (by decide) (by decide)
def agn(x:Nd):Prop:=gS x.p=true/\dE x.b=true
def oF:∀{a b c:List UInt8},Op.bytesLess a b=true->Op.bytesLess b c=true->Op.bytesLess a c=true
 |_,[],_,h,_=>by simp[Op.bytesLess] at h
 |_,_::_,[],_,h=>by simp[Op.bytesLess] at h
 |[],_::_,_::_,_,_=>by simp[Op.bytesLess]
 |x::a,y::b,z::c,e,d=>by
  simp only[Op.bytesLess,qQ,qJ,fk,mt,rB,<-sG] at e d ⊢;rcases e with e|⟨e,g⟩
  .rcases d with d|⟨d,f⟩
   .exact .inl (by omega)
   .exact .inl (by omega)
  .rcases d with d|⟨d,f⟩
   .exact .inl (by omega)
   .exact .inr ⟨by omega,oF g f⟩
def aoc(t:List Nd)(i:Nat)(x:Nd):Prop:=agn x/\(∀y,0<i->t[i-1]?=some y->Op.bytesLess y.p.toList x.p.toList=true)/\∀k y,k<i->t[k]?=some y->jr y.p x.p=false
def ag6(t:List Nd):Prop:=t.length<=6/\∀i x,t[i]?=some x->aoc t i x
def aeq{t:List Nd}(h:∀i x,t[i]?=some x->∀y,0<i->t[i-1]?=some y->Op.bytesLess y.p.toList x.p.toList=true):∀(d k:Nat) {x y:Nd},t[k+d+1]?=some x->t[k]?=some y->Op.bytesLess y.p.toList x.p.toList=true
 |0,k,x,y,hx,hy=>h (k+1) x hx y (by omega) hy
 |d+1,k,x,y,hx,hy=>by
  obtain⟨z,a⟩:∃z,t[k+d+1]?=some z:=ak (by have:=aI hx;omega);exact oF (aeq h d k a hy) (h (k+(d+1)+1) x hx z (by omega) a)
def kC(xs:List Nd):Prop:=(∀x∈xs,agn x)/\xs.length<=6/\xs.Pairwise λa b=>Op.bytesLess a.p.toList b.p.toList=true/\jr a.p b.p=false
def kC.nil:kC []:=⟨λy a=>(by cases a),fa _,.nil⟩
def kC.one{x:Nd}(h:agn x):kC [x]:=⟨λy a=>by rw[ge.1 a];exact h,by simp,rM _ _⟩
def kC.sub{xs ys:List Nd}(h:kC xs)(a:ys.Sublist xs):kC ys:=⟨λy b=>h.1 y (a.mem b),db a.length_le h.2.1,h.2.2.sublist a⟩
def ajL{t:List Nd}:ag6 t↔kC t:=by
 unfold kC ag6;rw[qm];constructor
 .rintro⟨g,h⟩;refine⟨λx a=> ?_,g,λi j b m d=>⟨?_, ?_⟩⟩
  .obtain⟨i,b⟩:=rq a;exact(h i x b).1
  .exact aeq (λi x a=>(h i x a).2.1) (j-i-1) i (by rw[show i+(j-i-1)+1=j by omega];exact ls m) (ls b)
  .exact(h j t[j] (ls m)).2.2 i t[i] d (ls b)
 .rintro⟨p,n,l⟩;refine⟨n,λi x a=>⟨p x (aE a),λy g c=> ?_,λk y o c=> ?_⟩⟩
  .obtain⟨e,rfl⟩:=li.1 a;obtain⟨f,rfl⟩:=li.1 c;exact(l (i-1) i f e (by omega)).1
  .obtain⟨e,rfl⟩:=li.1 a;obtain⟨f,rfl⟩:=li.1 c;exact(l k i f e o).2
def lA{xs:List Nd}(h:fG w lo hi xs [.slice A n c]){x:Nd}(i:xs[k]?=some x) :
  ∃b a,A=some ⟨b,a,none⟩/\lo<=b/\b<hi/\nz.good x/\w.cell? ⟨b,a+k*2,none⟩=some (.string x.p)/\w.cell? ⟨b,a+k*2+1,none⟩=some (.string x.b):=by
 obtain⟨b,a,l,e,j,f,_,⟨rfl,g⟩,d⟩:=h.1.at_ i;exact⟨b,a,e,j,f,g,by simpa using d 0 _ rfl,by simpa using d 1 _ rfl⟩
def ag7(xs:List Nd)(v:Value)(w:World)(lo hi:Nat)(h:fG w lo hi xs [v])(Z:hi<=w.heap.size)(q:Bool)(g:q=true↔ag6 xs) :
  Calls (ai β) 75 #[v] w λe w'=>e=.returned (.bool q)/\Below w.heap.size w w':=by
 have N:=ab g;clear g;obtain⟨A,c,rfl⟩:=h.form;obtain⟨_,hc,hx⟩:=h.1.len_;unfold maxLen at hx;go_enter ze,ntmps75;go_wp2;go_loopw [3] (λii wr=>∃k:Nat,k<=xs.length/\ii=.int .i64 k/\(∀i x,i<k->xs[i]?=some x->aoc xs i x)/\Below w.heap.size w wr) (λii _=>xs.length-(intOf ii).toNat)
 case atStart=>exact⟨0,fa _,rfl,λi x hi=>absurd hi (sI i),fm _ _⟩
 case round=>
  obtain⟨k,hk,rfl,p,G⟩:=hrel;replace p:=ab p;by_cases r:k<xs.length
  .obtain⟨x,E⟩:=ak r;obtain⟨b0,a6,rfl,_,a5,B,D,R⟩:=lA (fG.az.below h G Z) E;replace E:=ab E;cases a:gS x.p
   .replace a:=ab a;have f:q=false:=by
     rw[<-gc,N.out];rintro⟨-,h⟩;have h:=h k x E.out;have h:=h.1.1;rw[a.out] at h;cases h
    have s:=ab f;clear f;go_wp2;have n:=ag D;have o:=ag R;refine aB (by kernel_rfl) (by kernel_rfl) ?_;repeat(go_big_quiet_step (first|(go_at_call 100;refine dD (v:=.bool false) ?_;rw[<-a.out];exact jq x.p B.1 _)))
    refine gE ?_;intro O d;have g:=aN d;clear d n o;go_wp2;go_ret;exact⟨av s.out.symm,ae G g⟩
   .replace a:=ab a;cases b:dE x.b
    .replace b:=ab b;have f:q=false:=by
      rw[<-gc,N.out];rintro⟨-,h⟩;have h:=h k x E.out;have h:=h.1.2;rw[b.out] at h;cases h
     have s:=ab f;clear f;go_wp2;have n:=ag D;have o:=ag R;refine aB (by kernel_rfl) (by kernel_rfl) ?_;repeat(go_big_quiet_step (first|(go_at_call 100;refine dD (v:=.bool true) ?_;rw[<-a.out];exact jq x.p B.1 _)|(go_at_call 101;refine dD (v:=.bool false) ?_;rw[<-b.out];exact jo x.b B.2 _)))
     refine gE ?_;intro O d;have g:=aN d;clear d n o;go_wp2;go_ret;exact⟨av s.out.symm,ae G g⟩
    .replace b:=ab b;by_cases dC:k=0
     case' pos=>
      have Y:=da (show ¬(0<k) by omega);have W:agn x/\∀y,0<k->xs[k-1]?=some y->Op.bytesLess y.p.toList x.p.toList=true:=⟨⟨a.out,b.out⟩,λy h0=>by omega⟩;have kv:=ab W;clear W;clear dC;go_wp2;have n:=ag D;have o:=ag R;refine aB (by kernel_rfl) (by kernel_rfl) ?_;repeat(go_big_quiet_step (first|(go_at_call 100;refine dD (v:=.bool true) ?_;rw[<-a.out];exact jq x.p B.1 _)|(go_at_call 101;refine dD (v:=.bool true) ?_;rw[<-b.out];exact jo x.b B.2 _)))
      refine gE ?_;intro O d;have g:=aN d;clear d n o
     case' neg=>
      obtain⟨k',T⟩:∃m,m=k-1:=⟨_,rfl⟩;have e1:(k:Int)-1=((k':Nat):Int):=by omega
      have a2:k'<xs.length:=by omega
      have Y:=de (show 0<k by omega);obtain⟨z,t⟩:=ak a2;obtain⟨b1,S,F,_,_,a7,Q,_⟩:=lA (fG.az.below h G Z) t;simp only[jt,qd,qh] at F;obtain⟨rfl,rfl⟩:=F;replace t:=ab t;have U:=ab T;have a1:0<k:=by omega
      clear T;cases L:Op.bytesLess z.p.toList x.p.toList
      .have M:=ab L;have f:q=false:=by
        rw[<-gc,N.out];rintro⟨-,h⟩;have h:=h k x E.out;have h:=h.2.1 z a1 (by rw[<-U.out];exact t.out);rw[M.out] at h;cases h
       have s:=ab f;clear f;go_wp2;have n:=ag D;have o:=ag R;have bc:=ag Q;refine aB (by kernel_rfl) (by kernel_rfl) ?_;repeat(go_big_quiet_step (first|(go_at_call 100;refine dD (v:=.bool true) ?_;rw[<-a.out];exact jq x.p B.1 _)|(go_at_call 101;refine dD (v:=.bool true) ?_;rw[<-b.out];exact jo x.b B.2 _)))
       refine gE ?_;intro O d;have g:=aN d;clear d n o bc;go_wp2;go_ret;exact⟨av s.out.symm,ae G g⟩
      have M:=ab L;have W:agn x/\∀y,0<k->xs[k-1]?=some y->Op.bytesLess y.p.toList x.p.toList=true:=⟨⟨a.out,b.out⟩,λy h0 hy=>by
       rw[<-U.out,t.out] at hy;cases hy;exact M.out⟩
      have kv:=ab W;clear W;go_wp2;have n:=ag D;have o:=ag R;have bc:=ag Q;refine aB (by kernel_rfl) (by kernel_rfl) ?_;repeat(go_big_quiet_step (first|(go_at_call 100;refine dD (v:=.bool true) ?_;rw[<-a.out];exact jq x.p B.1 _)|(go_at_call 101;refine dD (v:=.bool true) ?_;rw[<-b.out];exact jo x.b B.2 _)))
      refine gE ?_;intro O d;have g:=aN d;clear d n o bc;clear Q L e1
     all_goals
      have X:=ae G g;clear D R Y;go_wp2;go_loopw [4] (λjj wr=>∃j:Nat,j<=k/\jj=.int .i64 j/\(∀i y,i<j->xs[i]?=some y->jr y.p x.p=false)/\Below w.heap.size w wr) (λjj _=>k-(intOf jj).toNat)
      case atStart=>exact⟨0,fa _,rfl,λi y hi=>absurd hi (sI i),X⟩
      case round=>
       clear X g;obtain⟨j,hj,rfl,C,u⟩:=hrel;replace C:=ab C;by_cases V:j<k
       .obtain⟨y,P⟩:=ak (l:=xs) (k:=j) (by omega);obtain⟨b1,S,F,_,_,a4,Q,_⟩:=lA (fG.az.below h u Z) P;simp only[jt,qd,qh] at F;obtain⟨rfl,rfl⟩:=F;obtain⟨b1,S,F,_,_,_,D,_⟩:=lA (fG.az.below h u Z) E.out;simp only[jt,qd,qh] at F;obtain⟨rfl,rfl⟩:=F;have a3:0<y.p.size:=by
         have:=ly (p.out j y V P).1.1;omega
        have a0:0<x.p.size:=by have:=ly kv.out.1.1;omega
        have HC:=ab (λw':World=>aik (β:=β) y.p x.p ⟨a3,a4.1⟩ ⟨a0,B.1⟩ w');replace P:=ab P;cases H:jr y.p x.p
        .replace H:=ab H;have I:∀i z,i<j+1->xs[i]?=some z->jr z.p x.p=false:=λi z hi J=>by
          rcases pm i j with r|oM
          .exact C.out i z r J
          .obtain rfl:i=j:=by omega
           rw[P.out] at J;cases J;exact H.out
         replace I:=ab I;go_wp2;have n:=ag Q;have o:=ag D;refine aB (by kernel_rfl) (by kernel_rfl) ?_;repeat(go_big_quiet_step (first|(go_at_call 125;refine bH (v:=.bool false) ?_;rw[<-H.out];exact HC.out _)))
         refine gE ?_;intro O d;have g:=aN d;clear d n o;go_wp2;go_roundw
         case rel=>exact⟨j+1,by omega,by go_num,I.out,ae u g⟩
         simp[intOf];omega
        .replace H:=ab H;have f:q=false:=by
          rw[<-gc,N.out];rintro⟨-,h⟩;have h:=h k x E.out;have h:=h.2.2 j y V P.out;rw[H.out] at h;cases h
         have s:=ab f;clear f;go_wp2;have n:=ag Q;have o:=ag D;refine aB (by kernel_rfl) (by kernel_rfl) ?_;repeat(go_big_quiet_step (first|(go_at_call 125;refine bH (v:=.bool true) ?_;rw[<-H.out];exact HC.out _)))
         refine gE ?_;intro O d;have g:=aN d;clear d n o;go_wp2;go_ret;exact⟨av s.out.symm,ae u g⟩
       .obtain rfl:j=k:=by omega
        have K:∀i z,i<j+1->xs[i]?=some z->aoc xs i z:=λi z hi J=>by
         rcases pm i j with r|oM
         .exact p.out i z r J
         .obtain rfl:i=j:=by omega
          rw[E.out] at J;cases J;exact⟨kv.out.1,kv.out.2,C.out⟩
        replace K:=ab K;go_wp2;go_roundw
        case rel=>exact⟨j+1,by omega,by go_num,K.out,u⟩
        simp[intOf];omega
  .obtain rfl:k=xs.length:=by omega
   by_cases h6:xs.length<=6
   .have Y:=de (show(xs.length:Int)<=6 by omega);have f:q=true:=N.out.2 ⟨h6,λi x hx=>p.out i x (aI hx) hx⟩;have s:=ab f;clear f;go_wp2;go_ret;exact⟨av s.out.symm,G⟩
   .have Y:=da (show ¬((xs.length:Int)<=6) by omega);have f:q=false:=by
     rw[<-gc,N.out];rintro⟨h, -⟩;exact h6 h
    have s:=ab f;clear f;go_wp2;go_ret;exact⟨av s.out.symm,G⟩
open Classical in
def abe(xs:List Nd)(v:Value)(w:World)(lo hi:Nat)(h:fG w lo hi xs [v])(b:hi<=w.heap.size) :
  Calls (ai β) 75 #[v] w λe a=>aij (kC xs) e/\Below w.heap.size w a:=
 (ag7 xs v w lo hi h b (decide (kC xs)) (by rw[decide_eq_true_iff,ajL])).mono λe a ⟨he,hb⟩=>⟨he▸aij.of λh=>sR h,hb⟩
end
end Go.Proofs.YtlggbfanooejbaaGreatDoor