/- A part. -/
import Derived.Test.YtlggbfanooejbaaGreatDoorG2
import Derived.StillTail
import Derived.Deep.RegionHeld3
import Derived.Deep.RegionLaw
import Derived.Laws.OwnMore
import Derived.Laws.MakeOwn
import Derived.Laws.Strings
set_option maxRecDepth 100000
set_option maxHeartbeats 8000000
set_option linter.all false
open Go Go.RowKit Go.Proofs.Tryz Go.Proofs.YtlggbfanooejbaaGreatDoor
variable {Z Y T b c g i j k n:Nat} {U a:Act} {X:Type} {o:Oper} {p:Addr} {u v:Value} {w w' x:World} {e:TypeId} {f:FuncId} {P:Program} {rest:List Oper} {s:ByteArray} {W cs:List Value} {R:Array Oper} {d:Option Tmp} {listed:Array Bool} {S es:Array Value} {A:Option Addr} {V:Act→World→Prop} {Q:Exit→Act→World→Prop} {xs:List X}
namespace Go.Proofs.YtlggbfanooejbaaGreatDoor
def ab:=@Go.Lib.hid
def be:=@Bool.not_eq_true
def bv:=@decide_eq_false
def dk:=@Go.RowKit.Below.refl
def du:=@decide_eq_true
def fb:=@Nat.zero_le
def fd:=@List.take_length
def ge:=@Go.wpQuiet_nil
def gn:=@List.length_append
def gE:=@List.mem_singleton
def iS:=@Go.World.size_setCell
def jp:=@beq_eq_false_iff_ne
def lm:=@List.length_take
def nf:=@List.take_of_length_le
def nF:=@Go.RowKit.Below.heap_setCell
def oS:=@Go.World.size_alloc
def pa:=@List.mem_flatMap
def pr:=@List.length_map
def pH:=@List.take_append_drop
def pI:=@List.map_append
def pJ:=@bne_eq_false_iff_eq
def pL:=@List.length_replicate
def pN:=@Go.bodyPost_ret
def qa:=@Go.Addr.mk.injEq
def qb:=@List.mem_of_mem_take
def qe:=@true_iff
def qj:=@Go.ByteArray.toList_eq
def ql:=@decide_eq_true_eq
def qx:=@Nat.min_eq_left
def qL:=@List.mem_append_right
def qN:=@false_iff
def qQ:=@Go.RowKit.Below.alloc
def qS:=@List.getElem?_of_mem
def qV:=@List.nodup_append
def qY:=@List.length_set
def qZ:=@List.flatMap_append
def rj:=@List.length_singleton
def rm:=@Nat.mul_le_mul_right
def rq:=@List.mem_append_left
def rz:=@Nat.add_sub_cancel_left
def rA:=@Go.size_madeCells
def rG:=@List.getElem?_set_self
def rH:=@List.drop_eq_nil_of_le
def rL:=@UInt8.toNat_inj
def rO:=@List.mem_filter
def rS:=@Int.toNat_natCast
def rU:=@List.getElem?_set_ne
def sg:=@Nat.succ_mul
def sB:=@List.nodup_cons
def sQ:=@Go.getD_replicate_false
def sT:=@List.sum_cons
def th:=@List.map_map
def tu:=@List.getElem?_replicate
def tv:=@List.filter_cons_of_pos
def tw:=@List.filter_cons_of_neg
def tA:=@Nat.lt_trichotomy
def tD:=@List.ext_getElem?
def tN:=@Bool.and_true
def tS:=@Array.toList_inj
def tY:=@List.sum_append
def ud:=@List.take_succ_cons
def ue:=@List.map_congr_left
def ui:=@Int.le_refl
def uj:=@List.getElem?_drop
def uq:=@Go.World.ownsRow_nil
def uw:=@List.extract_eq_take_drop
def uB:=@Nat.mul_comm
def uD:=@List.all_nil
def uG:=@Go.World.block_lt_of_cell?
def uO:=@ByteArray.data_extract
def uR:=@List.set_append_right
def uY:=@Nat.pow_le_pow_right
section
variable {β:Bool}
def agl:Op->Bool
 |.move .. | .assign .. | .pick .. | .load .. | .binOp .. | .unOp .. | .convert .. | .slice .. | .fieldAddr .. | .field .. | .indexAddr .. | .index .. | .lookup .. | .extract .. | .build .. | .typeAssert .. | .makeInterface .. | .makeFunc .. | .nilCheck .. =>true
 |.call c=>match c.callee with
  |.builtin .len=>true
  |_=>false
 |_=>false
def agm(h:agl o.op=true){ρ:Operand->Value}{args:Array Value}:(execOp ρ o).run P w ≠ .ok (.enter f args) w':=by
 obtain⟨dst,op,j,k,after,g⟩:=o;cases op<;>simp only[agl,fa] at h
 case nilCheck x=>
  simp only[execOp];intro a;split at a
  .simp[runtimePanic] at a
  .simp[runtimePanic] at a
  .simp[runtimePanic] at a
  .split at a
   .simp[runtimePanic] at a
   .revert a;simp only[tf];generalize (Sem.run P program w:Result _)=r;cases r with
    |halt x i=>simp[Result.andThen]
    |ok p i=>
     simp only[Result.andThen];generalize (Sem.run P (nilAhead _ _ _ _) i:Result _)=r2;cases r2 with
     |halt x l=>simp
     |ok b l=>
      simp only;split
      .simp[unsupported]
      .simp
   .simp at a
  .simp at a
 case call c=>
  obtain⟨d,args,e⟩:=c;cases d with
  |value x=>cases h
  |invoke x n=>cases h
  |builtin b=>
   cases b<;>first
    |(exfalso;cases h;done)
    |(simp only[execOp,resolve,invoke,builtin,tf,tX,ur]
      intro a;revert a;generalize (Sem.run P (Builtin.len_ _ _ _) w:Result _)=r;cases r<;>simp[Result.andThen])
 all_goals simp only[execOp,tf,tX]
 all_goals intro a
 all_goals
  first
   |(cases a;done)
   |(revert a;generalize (Sem.run P _ w:Result _)=r;cases r<;>simp[Result.andThen];done)
   |(revert a;generalize (Sem.run P _ w:Result _)=r;cases r<;>simp[Result.andThen];generalize (Sem.run P _ _:Result _)=r;cases r<;>simp;done)
def jB(o:Oper)(i:Nat):Bool:=o.after.any λe=>Region.binds .any e&&e.on ==i
def ahy(h:jB o i=true):∃e∈o.after,Region.binds .any e=true/\e.on=i:=by
 obtain⟨e,a,h⟩:=Array.any_eq_true'.1 h;simp only[eg,mT] at h;exact⟨e,a,h.1,h.2⟩
def ao5(i:a.tmps.size=U.tmps.size)(h:U.put d u=U.put d v):a.put d u=a.put d v:=by
 cases d with
 |none=>rfl
 |some t=>
  rcases mx t a.tmps.size with c|g
  .have f:=ef (λb:Act=>b.tmps[t]?) h;have e:t<U.tmps.size:=i▸c;simp[Act.put,e] at f;rw[f]
  .simp[Act.put,Array.setIfInBounds,Nat.not_lt.2 g]
section
variable {P:Program} {ops:Array Oper}
def am9  (z:ops[i]?=some o)  {G:Value->World->Prop}  
  (y:a.tmps.size=U.tmps.size) (A:execOp a.eval o=execOp U.eval o) (t:Region.wanted o (yielded ops a.tmps)=Region.wanted o (yielded ops U.tmps))
  (h:wpList P ops (λe b w=>e=.normal/\∃v,b=U.put o.dst v/\G v w) [o] U w)
  (s:∀v w,G v w->V (a.put o.dst v) w):wpOp P ops Q i V a w:=by
 have g:∀{u:Value} {k:World},(∃v,U.put o.dst u=U.put o.dst v/\G v k)->V (a.put o.dst u) k:=by
  rintro u k ⟨v,p,q⟩;rw[ao5 y p];exact s _ _ q
 unfold wpOp;simp only[z];unfold wpList at h;rw[<-t] at h;split
 .rename_i j;rw[dj j] at h;rcases h with h|⟨_,b,k,m,_⟩
  .refine .inl ?_;unfold Oper.wp at *;rw[<-A] at h;generalize (execOp a.eval o).run P w=r at *;cases r with
   |ok B k=>
    cases B<;>simp only[Oper.upon,wpList] at h ⊢
    case value u=>exact g h.2
    case skip=>exact g h.2
    case defer d=>
     obtain⟨_,v,p,_⟩:=h;have:=ef (λb:Act=>b.defers.length) p;cases hd:o.dst<;>simp[Act.put,hd] at this
    case enter f args=>
     refine h.mono λe n l=> ?_;cases e with
     |returned u=>exact g l.2
     |panicked c=>cases l.1
     |outgrown=>
      obtain⟨b,C,m,_⟩:=l;cases m
    case row row args=>exact Rows.mono h λu n l=>g l.2
   |halt x k=>
    cases x<;>simp only[Oper.upon] at h ⊢
    case panic u=>cases h.1
  .cases m
 .rename_i j;rw[bd j] at h;exact g h.2
def ahz(ops:Array Oper)(n:Nat):Bool:=
 (n ==ops.size||(decide (n<ops.size)&&Region.sinkB .any ops n&&Region.chainB .any ops n))&&Region.seqB .any ops (ops.size-n) n ((Array.replicate n true)++Array.replicate (ops.size-n) false)
def alP(ops:Array Oper)(n:Nat):Bool:=
 (List.range n).all λi=>match ops[i]? with
  |some o=>o.after.all λe=>!Region.binds .any e||decide (e.on<i)
  |none=>false
def ana(h:alP ops n=true)(g:i<n)(b:ops[i]?=some o){e:Edge}(c:e∈o.after)(f:Region.binds .any e=true):e.on<i:=by
 have a:=ip.1 h i (ph.2 g);simp only[b] at a;have d:=Array.all_eq_true_iff_forall_mem.1 a e c;simpa[f] using d
def left(n:Nat)(listed:Array Bool):Nat:=((List.range n).filter λi=>listed.getD i true ==false).length
def ahA[DecidableEq X]{l:List X}(d:l.Nodup){p q:X->Bool}{i:X}(k:i∈l)(m:p i=true)(n:q i=false)(f:∀j,j≠i->p j=q j):(l.filter p).length=(l.filter q).length+1:=by
 induction l with
 |nil=>cases k
 |cons a t o=>
  rw[sB] at d;by_cases c:a=i
  .subst c;rw[tv m,tw (by simp[n])];have:t.filter p=t.filter q:=List.filter_congr λj r=>f j λe=>d.1 (e▸r);simp[this]
  .have g:i∈t:=by
    rcases lw.1 k with h|h
    .exact absurd h.symm c
    .exact h
   have:=o d.2 g;by_cases b:p a=true
   .rw[tv b,tv (by rw[<-f a c];exact b)];simp[this]
   .rw[tw b,tw (by rw[<-f a c];exact b)];exact this
def ao6(d:i<n)(h:listed.getD i true=false):left n listed=left n (listed.setIfInBounds i true)+1:=by
 have c:i<listed.size:=by
  rcases mx i listed.size with a|a
  .exact a
  .simp[pF a] at h
 refine ahA List.nodup_range (ph.2 d) (by rw[h];rfl) (by simp[c]) λj b=> ?_;rw[getD_set_ne true (rY b)]
def anb(h:0<left n listed):∃i,i<n/\listed.getD i true=false/\∀j,j<i->listed.getD j true=true:=by
 unfold left at h;have f:∃i,i<n/\listed.getD i true=false:=by
  obtain⟨i,b⟩:=List.exists_mem_of_length_pos h;rw[rO,ph] at b;exact⟨i,b.1,by simpa using b.2⟩
 obtain⟨i,b⟩:=f;clear h
 induction i using Nat.strongRecOn with
 |_ i k=>
  by_cases a:∀j,j<i->listed.getD j true=true
  .exact⟨i,b.1,b.2,a⟩
  .have g:∃j,j<i/\listed.getD j true=false:=by
    apply pW;intro c;exact a λj d=>by
     cases e:listed.getD j true with
     |true=>rfl
     |false=>exact absurd ⟨j,d,e⟩ c
   obtain⟨j,d,e⟩:=g;exact k j d ⟨by omega,e⟩
def anc(h:left n listed=0)(c:i<n):listed.getD i true=true:=by
 unfold left at h;have a:=sJ h;rw[List.filter_eq_nil_iff] at a;have:=a i (ph.2 c);cases b:listed.getD i true with
 |true=>rfl
 |false=>rw[b] at this;simp at this
def aff(a:i<listed.size)(h:listed.getD i true=true):listed.getD i false=true:=by
 simp[a] at h ⊢;exact h
inductive Behind (ops:Array Oper):Nat->Nat->Prop where
 |arW {i:Nat} {o:Oper} {e:Edge}:ops[i]?=some o->e∈o.after->Region.binds .any e=true->Behind ops i e.on
 |next {i j:Nat} {o:Oper} {e:Edge}:ops[i]?=some o->e∈o.after->Region.binds .any e=true->Behind ops e.on j->Behind ops i j
def aeL{ops:Array Oper}(c:HeadInv .any ops n listed)(h:Behind ops i j):(∀o,ops[i]?=some o->∀e∈o.after,Region.binds .any e=true->listed.getD e.on false=true)->listed.getD j false=true:=by
 induction h with
 |arW a g d=>exact λb=>b _ a _ g d
 |next a g d _ p=>exact λb=>p λm l q k f=>c.closed _ m l (b _ a _ g d) q k f
class aY (X:Type) where
 live:Nat->X->Prop
 down:∀m x,live (m+1) x->live m x
 pend:Nat->X->Prop
def arX(n:Nat)(listed:Array Bool):left n listed<=n:=by
 unfold left;exact am (List.length_filter_le _ _) (by simp)
variable {X:Type} [aY X] {to:X->World} {le:X->X->Prop} {Q:Exit->Act->World->Prop}
def ao7 (hn:n<=ops.size) (t:ahz ops n=true) (N:alP ops n=true) (A:Act->Prop) (Φ:Nat->Act->X->Prop)
  (z:∀m i o,i<n->ops[i]?=some o->∀a x,A a->aY.live (m+1) x->aY.pend i x->(∀j,j<n->jB o j=true->Φ j a x)->∀K:Act->World->Prop,
   (∀v y,le x y->aY.live m y->(∀j,j≠i->¬Behind ops i j->aY.pend j x->aY.pend j y)->A (a.put o.dst v)->Φ i (a.put o.dst v) y->K (a.put o.dst v) (to y))->wpOp P ops Q i K a (to x))
  (S:∀i j o a x y v,i<n->j<n->i≠j->ops[j]?=some o->A a->Φ i a x->le x y->Φ i (a.put o.dst v) y)
  (L:∀a x,A a->(∀i,i<n->Φ i a x)->wpList P ops Q (ops.toList.drop n) a (to x)) :
  ∀(f:Nat) (listed:Array Bool) (a:Act) (x:X),left n listed=f->HeadInv .any ops n listed->A a->aY.live f x->(∀i,i<n->listed.getD i false=false->aY.pend i x)->(∀i,i<n->listed.getD i false=true->Φ i a x)->
   wpAny P .any ops Q (f+(ops.size-n)) listed a (to x):=by
 intro f
 induction f with
 |zero=>
  intro listed a x hf inv H G s l;have b:∀i,i<n->listed.getD i true=true:=λi k=>anc hf k;have hL:listed=(Array.replicate n true)++Array.replicate (ops.size-n) false:=by
   apply Array.ext
   .rw[inv.size];simp;omega
   .intro i p h2;rcases mx i n with q|q
    .rw[Array.getElem_append_left (by simpa using q)];have:=b i q;simp[p] at this;simp[this]
    .rw[Array.getElem_append_right (by simpa using q)];have:=inv.tail i q (by rw[<-inv.size];exact p);simp[p] at this;simp[this]
  unfold ahz at t;rw[eg] at t;have g:(ops.toList.drop n).length=ops.size-n:=by simp
  rw[pb,<-g,hL];refine wpAny_of_seq _ n _ a (to x) (λj=>by rw[uj,dl]) (by rw[g];exact t.2) (L a x H λi k=>l i k ?_);exact aff (by rw[inv.size];omega) (b i k)
 |succ f ih=>
  intro listed a x hf inv H G s l;obtain⟨u,T,E,J⟩:=anb (n:=n) (listed:=listed) (by omega);rw[show f+1+(ops.size-n)=(f+(ops.size-n))+1 by omega];have I:∀i∈Region.ready .any ops listed,i<n:=by
   intro i k;unfold ahz at t;simp only[eg,qs,mT,ql] at t;rcases t.1 with h|⟨⟨p,h2⟩,q⟩
   .obtain⟨_,o,D,_⟩:=mem_ready.1 k;rw[h];exact(db.1 D).1
   .rcases mx i n with h|h
    .exact h
    .exact absurd k (tail_waits h2 q p inv _ u rfl T E i h)
  refine⟨λh0=> ?_,λi k=> ?_⟩
  .exfalso;have C:u<ops.size:=aE T hn;have:u∈Region.ready .any ops listed:=mem_ready.2 ⟨E,ops[u],ff C,λe F B=>by
    have p:=ana N T (ff C) F B;exact aff (by rw[inv.size];omega) (J _ p)⟩
   rw[h0] at this;cases this
  .have d:=I i k;obtain⟨r,o,D,b⟩:=mem_ready.1 k;have O:listed.getD i false=false:=by
    have V:i<listed.size:=by rw[inv.size];omega
    simp[V] at r ⊢;exact r
   refine z f i o d D a x H G (s i d O) (λj w hw=> ?_) _ λv y W Y M U Z=> ?_
   .obtain⟨e,F,B,rfl⟩:=ahy hw;exact l _ w (b e F B)
   .refine ih _ _ y ?_ (inv.set k d) U Y (λj w g=> ?_) λj w g=> ?_
    .have:=ao6 d r;omega
    .have c:j≠i:=by
      rintro rfl;have V:j<listed.size:=by rw[inv.size];omega
      simp[V] at g
     rw[getD_set_ne false (rY c)] at g;refine M j c (λR=> ?_) (s j w g);have:=aeL inv R λo' oc e F B=>(by
      obtain rfl:o=o':=de (D.symm.trans oc);exact b e F B)
     rw[this] at g;cases g
    .by_cases c:j=i
     .subst c;exact Z
     .rw[getD_set_ne false (rY c)] at g;exact S j i o a x y v w d c D H (l j w g) W
inductive gV (X:Type) where
 |fix (v:Value)
 |any (R:Value->X->Prop)
def gV.keep(le:X->X->Prop):gV X->Prop
 |.fix _=>True
 |.any R=>∀v x y,R v x->le x y->R v y
def gV.holds(r:gV X)(v:Value)(x:X):Prop:=
 match r with
 |.fix a=>v=a
 |.any R=>R v x
def Good(P:Program)(ops:Array Oper)(to:X->World)(le:X->X->Prop)(i:Nat)(o:Oper)(a:Act)(x:X)(r:gV X):Prop:=
 ∀m,aY.live (m+1) x->aY.pend i x->∀b:Exit->Act->World->Prop,(∀v y,le x y->aY.live m y->(∀j,j≠i->¬Behind ops i j->aY.pend j x->aY.pend j y)->r.holds v y->b .normal (a.put o.dst v) (to y))->wpList P ops b [o] a (to x)
def mP(ops:Array Oper)(n:Nat)(t:Tmp)(j:Nat):Prop:=j<n/\∃o,ops[j]?=some o/\o.dst=some t
def aeM(ops:Array Oper)(n N:Nat):Bool:=
 (List.range n).all λi=>match ops[i]? with
  |some o=>match o.dst with
   |some d=>decide (d<N)&&(List.range i).all λj=>((ops[j]?).bind (·.dst)) !=some d
   |none=>true
  |none=>true
def ajz(h:aeM ops n Z=true){t:Tmp}(d:mP ops n t j):t<Z:=by
 obtain⟨a,o,c,hd⟩:=d;have b:=ip.1 h j (ph.2 a);simp only[c,hd,eg,ql] at b;exact b.1
def ahB(h:aeM ops n Z=true){t:Tmp}(l:mP ops n t i)(m:mP ops n t j)(b:j<i):False:=by
 obtain⟨c,o,k,hd⟩:=l;obtain⟨g,p,f,a⟩:=m;have e:=ip.1 h i (ph.2 c);simp only[k,hd,eg] at e;have d:=ip.1 e.2 j (ph.2 b);rw[f] at d;simp[a] at d
def agn(h:aeM ops n Z=true){t:Tmp}(c:mP ops n t i)(b:mP ops n t j):i=j:=by
 rcases tA i j with a|a|a
 .exact(ahB h b c a).elim
 .exact a
 .exact(ahB h c b a).elim
def alQ(ops:Array Oper)(n:Nat)(t:Tmp):(∃j,mP ops n t j)\/∀j,¬mP ops n t j:=by
 by_cases h:∃j,mP ops n t j
 .exact .inl h
 .exact .inr λj a=>h ⟨j,a⟩
def vK(a:Act)(o:Oper):Value:=match o.dst with
 |some d=>a.tmps.getD d undef
 |none=>undef
structure ago (ops:Array Oper) (n:Nat) (a0 a:Act):Prop where
 size:a.tmps.size=a0.tmps.size
 off:∀t,(∀j,¬mP ops n t j)->a.tmps[t]?=a0.tmps[t]?
 rest:{a with tmps:=a0.tmps}=a0
def ago.refl(ops:Array Oper)(n:Nat)(a:Act):ago ops n a a:=⟨rfl,λ_ _=>rfl,rfl⟩
def lB{t:Tmp}(h:d≠some t):(a.put d v).tmps[t]?=a.tmps[t]?:=by
 cases d with
 |none=>rfl
 |some e=>
  have:e≠t:=λb=>h (by rw[b]);simp[Act.put,gc this]
def alR{t:Tmp}(h:t<a.tmps.size):(a.put (some t) v).tmps[t]?=some v:=by
 simp[Act.put,h]
def aaI(a:Act)(d:Option Tmp)(v:Value):(a.put d v).tmps.size=a.tmps.size:=by
 cases d<;>simp[Act.put]
def ago.put(h:ago ops n U a)(d:j<n)(c:ops[j]?=some o):ago ops n U (a.put o.dst v):=by
 refine⟨by rw[aaI,h.size],λt b=> ?_, ?_⟩
 .rw[lB (λhd=>b j ⟨d,o,c,hd⟩)];exact h.off t b
 .rw[<-h.rest];cases hd:o.dst<;>simp[Act.put]
def eM(U:Nat->Value)(a:Act)(L:List (Nat×Oper)):Act:=L.foldl (λb p=>b.put p.2.dst (U p.1)) a
def abG(U:Nat->Value):∀(L:List (Nat×Oper)) (a:Act),(eM U a L).tmps.size=a.tmps.size
 |[],_=>rfl
 |p::L,a=>by
  show(eM U (a.put p.2.dst (U p.1)) L).tmps.size=_;rw[abG U L,aaI]
def lD(U:Nat->Value){t:Tmp}:∀(L:List (Nat×Oper)) (a:Act),(∀p∈L,p.2.dst≠some t)->(eM U a L).tmps[t]?=a.tmps[t]?
 |[],_,_=>rfl
 |p::L,a,h=>by
  show(eM U (a.put p.2.dst (U p.1)) L).tmps[t]?=_;rw[lD U L _ λq b=>h q (by simp[b]),lB (h p (by simp))]
def aaJ(U:Nat->Value){t:Tmp}{i:Nat}{o:Oper}:∀(L:List (Nat×Oper)) (a:Act),(i,o)∈L->o.dst=some t->t<a.tmps.size->(∀p∈L,p.2.dst=some t->p.1=i)->(eM U a L).tmps[t]?=some (U i)
 |[],_,h,_,_,_=>by cases h
 |p::L,a,h,hd,hs,ane=>by
  show(eM U (a.put p.2.dst (U p.1)) L).tmps[t]?=_;by_cases d:(i,o)∈L
  .exact aaJ U L _ d hd (by rw[aaI];exact hs) λq c=>ane q (by simp[c])
  .rcases lw.1 h with rfl|h
   .by_cases f:∃q∈L,q.2.dst=some t
    .obtain⟨q,c,b⟩:=f;have e:=ane q (by simp[c]) b;have:=aaJ U (i:=q.1) (o:=q.2) L (a.put o.dst (U i)) c b (by rw[aaI];exact hs) λr j g=>by rw[ane r (by simp[j]) g,e]
     rw[this,e]
    .rw[lD U L _ λq c b=>f ⟨q,c,b⟩,hd];exact alR hs
   .exact absurd h d
def abH(U:Nat->Value):∀(L:List (Nat×Oper)) (a:Act),{eM U a L with tmps:=a.tmps}=a
 |[],_=>rfl
 |p::L,a=>by
  show{eM U (a.put p.2.dst (U p.1)) L with tmps:=a.tmps}=_;have h:=abH U L (a.put p.2.dst (U p.1));have d:{a.put p.2.dst (U p.1) with tmps:=a.tmps}=a:=by cases hd:p.2.dst<;>simp[Act.put]
  have c:=ef (λb:Act=>{b with tmps:=a.tmps}) h;simp only at c;rw[d] at c;exact c
def arY{b : Act}(h:{a with tmps:=b.tmps}=b)(f:a.tmps.size=b.tmps.size)(e:∀t:Nat,a.tmps[t]?=b.tmps[t]?):a=b:=by
 have c:a.tmps=b.tmps:=Array.ext f λi c d=>by
  have:=e i;simpa[c,d] using this
 rw[<-h,<-c]
def anf(c:∀l b,o.op ≠ .select l b){b : Act}(h:∀t∈o.looksAt ops,a.tmps[t]?=b.tmps[t]?) :
  execOp a.eval o=execOp b.eval o/\Region.wanted o (yielded ops a.tmps)=Region.wanted o (yielded ops b.tmps):=by
 constructor
 .refine execOp_congr o c λx k=> ?_;cases x with
  |tmp t=>
   have:=h t (rq _ (List.mem_filterMap.2 ⟨.tmp t,by simpa using k,rfl⟩));simp[Act.eval,this]
  |_=>rfl
 .unfold Region.wanted;cases j:o.guard with
  |none=>rfl
  |some i=>
   obtain⟨g,d⟩:=i;have e:yielded ops a.tmps g=yielded ops b.tmps g:=by
    unfold yielded;cases f:(ops[g]?).bind (·.dst) with
    |none=>rfl
    |some t=>
     have:=h t (qL _ (by simp[j,f]));simp[this]
   simp only[e]
def ajA(ops:Array Oper)(n:Nat):Bool:=
 (List.range n).all λi=>match ops[i]? with
  |some o=>(o.looksAt ops).all λt=>(List.range n).all λj=>((ops[j]?).bind (·.dst)) !=some t||jB o j
  |none=>true
def adG(h:ajA ops n=true)(l:i<n)(e:ops[i]?=some o){t:Tmp}(k:t∈o.looksAt ops)(f:mP ops n t j):jB o j=true:=by
 obtain⟨a,p,d,hd⟩:=f;have b:=ip.1 h i (ph.2 l);simp only[e] at b;have g:=ip.1 b t k;have c:=ip.1 g j (ph.2 a);rw[d] at c;simpa[hd] using c
def ang (hn:n<=ops.size) (ad:Region.noSelect ops=true) (ht:ahz ops n=true) (aa:alP ops n=true) (ao:ajA ops n=true) {q:Act} (B:aeM ops n q.tmps.size=true)
  (T:Nat->gV X) (hT:∀i,(T i).keep le) (av:∀i o,i<n->ops[i]?=some o->(∃v,T i=.fix v)\/o.dst.isSome=true\/∀R,T i=.any R->∀u v x,R u x->R v x) (L:List (Nat×Oper)) (hL:∀i o,ops[i]?=some o->i<n->(i,o)∈L) (F:∀p∈L,p.1<n/\ops[p.1]?=some p.2)
  (aI:∀i o,i<n->ops[i]?=some o->∀U:Nat->Value,(∀j g,T j=.fix g->U j=g)->
   ∃al:Act,ago ops n q al/\(∀t j,t∈o.looksAt ops->mP ops n t j->al.tmps[t]?=some (U j))/\∀x,(∀j,j<n->jB o j=true->(T j).holds (U j) x)->Good P ops to le i o al x (T i))
  (fin:∀U:Nat->Value,(∀j g,T j=.fix g->U j=g)->∀x,(∀j,j<n->(T j).holds (U j) x)->wpList P ops Q (ops.toList.drop n) (eM U q L) (to x))
  (x0:X) (a7:aY.live (left n (Array.replicate ops.size false)) x0) (aU:∀i,i<n->aY.pend i x0):wpAny P .any ops Q ops.size (Array.replicate ops.size false) q (to x0):=by
 let c:Act->Nat->Value:=λa j=>match T j with
  |.fix g=>g
  |.any _=>match ops[j]? with
   |some Y=>vK a Y
   |none=>undef
 have hU:∀a j g,T j=.fix g->c a j=g:=λa j g h=>by simp only[c,h]
 let Φ:Nat->Act->X->Prop:=λi a x=>∀o,ops[i]?=some o->(∀d,o.dst=some d->a.tmps[d]?=some (c a i))/\(T i).holds (c a i) x
 have a6:∀{i o a v x},i<n->ops[i]?=some o->ago ops n q a->(T i).holds v x->Φ i (a.put o.dst v) x:=by
  intro i o a v x k l z I Z oc;obtain rfl:o=Z:=de (l.symm.trans oc);have S:∀d,o.dst=some d->(a.put o.dst v).tmps[d]?=some v:=λd hd=>by
   rw[hd];exact alR (by rw[z.size];exact ajz B ⟨k,o,l,hd⟩)
  have V:c (a.put o.dst v) i=v\/(o.dst=none/\∃R,T i=.any R/\∀u v x,R u x->R v x):=by
   cases e:T i with
   |fix g=>
    rw[hU _ _ _ e];rw[e] at I;exact .inl I.symm
   |any R=>
    simp only[c,e,l,vK];have s:o.dst.isSome=true->(match o.dst with|some d=>(a.put o.dst v).tmps.getD d undef|none=>undef)=v:=λO=>by
     obtain⟨d,hd⟩:=qO.1 O;have:=S d hd;simp only[hd] at this ⊢;simp[fi,this]
    rcases av i o k l with⟨g,O⟩|O|O
    .rw[e] at O;cases O
    .exact .inl (s O)
    .cases hd:o.dst with
     |some d=>left;have:=s (by rw[hd];rfl);simpa only[hd] using this
     |none=>exact .inr ⟨rfl,R,rfl,O R e⟩
  rcases V with V|⟨hd,R,hR,aF⟩
  .rw[V];exact⟨S,I⟩
  .refine⟨λd a1=>(by rw[hd] at a1;cases a1), ?_⟩;rw[hR] at I ⊢;exact aF _ _ _ I
 have H:=ao7 (P:=P) (Q:=Q) (to:=to) (le:=le) hn ht aa (ago ops n q) Φ ?step ?au9 ?fin (left n (Array.replicate ops.size false)) (Array.replicate ops.size false) q x0 rfl
  ⟨by simp,λj Y _ E=>(by rw[sQ] at E;cases E),λt _ ht=>getD_in (by simpa using ht) (sQ _ _)⟩ (ago.refl _ _ _) a7 (λi k _=>aU i k) (λi k E=>(by rw[sQ] at E;cases E))
 case step=>
  intro m i o k l a x z aV a9 a4 K hK;obtain⟨al,a2,a8,an⟩:=aI i o k l (c a) (hU a);have af:∀j,j<n->jB o j=true->(T j).holds (c a j) x:=λj f hw=>(a4 j f hw _ (ff (aE f hn))).2;have aP:∀t∈o.looksAt ops,a.tmps[t]?=al.tmps[t]?:=by
   intro t a3;rcases alQ ops n t with⟨j,f⟩|r
   .have hw:=adG ao k l a3 f;obtain⟨C,Y,J,hd⟩:=id f;rw[a8 t j a3 f,(a4 j C hw Y J).1 t hd]
   .rw[z.off t r,a2.off t r]
  obtain⟨h1,N⟩:=anf (λcs b=>Region.noSelect_spec ad i o cs b l) aP;refine am9 (G:=λv w=>∃y,w=to y/\le x y/\aY.live m y/\(∀j,j≠i->¬Behind ops i j->aY.pend j x->aY.pend j y)/\(T i).holds v y) l (by rw[z.size,a2.size]) h1 N (an x af m aV a9 _ λv y A E M I=>⟨rfl,v,rfl,y,rfl,A,E,M,I⟩) ?_;rintro v w ⟨y,rfl,A,E,M,I⟩;exact hK v y A E M (z.put k l) (a6 k l z I)
 case au9=>
  intro i j o a x y v k f ay l z D A Z oc;obtain⟨h1,N⟩:=D Z oc;have a0:∀d,Z.dst=some d->o.dst≠some d:=λd hd aW=>ay (agn B ⟨k,Z,oc,hd⟩ ⟨f,o,l,aW⟩);have ax:c (a.put o.dst v) i=c a i:=by
   cases e:T i with
   |fix g=>rw[hU _ _ _ e,hU _ _ _ e]
   |any R=>
    simp only[c,e,oc,vK];cases hd:Z.dst with
    |none=>rfl
    |some d=>
     have:=lB (a:=a) (v:=v) (a0 d hd);simp only[fi,this]
  rw[ax];refine⟨λd hd=>by rw[lB (a0 d hd)];exact h1 d hd, ?_⟩;have hk:=hT i;cases e:T i with
  |fix g=>rw[e] at N;exact N
  |any R=>
   rw[e] at N hk;exact hk _ _ _ N A
 case fin=>
  intro a x z D;have a5:∀j,j<n->(T j).holds (c a j) x:=λj f=>(D j f _ (ff (aE f hn))).2;have he:a=eM (c a) q L:=by
   refine arY ?_ ?_ ?_
   .have h1:=z.rest;have N:=abH (c a) L q;have h3:=ef (λb:Act=>{b with tmps:=(eM (c a) q L).tmps}) (h1.trans N.symm);exact h3
   .rw[z.size,abG]
   .intro t;rcases alQ ops n t with⟨j,f⟩|r
    .obtain⟨C,Y,J,hd⟩:=id f;rw[(D j C Y J).1 t hd,aaJ (c a) L q (hL j Y J C) hd (ajz B f) λp M W=> ?_];exact agn B ⟨(F p M).1,p.2,(F p M).2,W⟩ f
    .rw[z.off t r,lD _ _ _ λp M W=>r p.1 ⟨(F p M).1,p.2,(F p M).2,W⟩]
  rw[he];exact fin _ (hU a) x a5
 have aT:left n (Array.replicate ops.size false)=n:=by
  unfold left;rw[List.filter_eq_self.2]
  .simp
  .intro i k;have aZ:=ph.1 k;rw[getD_in (by simp;omega) (sQ _ _)];rfl
 rw[aT,show n+(ops.size-n)=ops.size by omega] at H;exact H
def adH:List (Nat×(X->Prop))->Oper->X->Prop
 |[],_,_=>True
 |(j,p)::F,o,x=>(jB o j=true->p x)/\adH F o x
def abI:List (Nat×(X->Prop))->X->Prop
 |[],_=>True
 |(_,p)::F,x=>p x/\abI F x
omit [aY X] in
def alT{F:List (Nat×(X->Prop))}{x:X}(h:∀p∈F,jB o p.1=true->p.2 x):adH F o x:=by
 induction F with
 |nil=>trivial
 |cons p F b=>exact⟨h p (by simp),b λq a=>h q (by simp[a])⟩
omit [aY X] in
def arZ{F:List (Nat×(X->Prop))}{x:X}(h:∀p∈F,p.2 x):abI F x:=by
 induction F with
 |nil=>trivial
 |cons p F b=>exact⟨h p (by simp),b λq a=>h q (by simp[a])⟩
def dS(P:Program)(ops:Array Oper)(to:X->World)(le:X->X->Prop)(Qt:Act->World->Prop):List (Nat×Oper)->List (Nat×(X->Prop))->List (gV X)->Act->Prop
 |[],F,[],a=>∀x,abI F x->Qt a (to x)
 |(i,o)::l,F,.fix v0::Rs,a=>(∀x,adH F o x->Good P ops to le i o a x (.fix v0))/\dS P ops to le Qt l F Rs (a.put o.dst v0)
 |(i,o)::l,F,.any R::Rs,a=>(o.dst.isSome=true\/∀u v x,R u x->R v x)/\(∀v x y,R v x->le x y->R v y)/\(∀x,adH F o x->Good P ops to le i o a x (.any R))/\∀v,dS P ops to le Qt l ((i,R v)::F) Rs (a.put o.dst v)
 |_,_,_,_=>False
def alU{F:List (Nat×(X->Prop))}(h:∀x,abI F x->V a (to x)):dS P ops to le V [] F [] a:=h
def alV   {l:List (Nat×Oper)} {F:List (Nat×(X->Prop))} {e:List (gV X)} (c:Value)
  (s:∀x,adH F o x->∀m,aY.live (m+1) x->aY.pend i x->∀b:Exit->Act->World->Prop,(∀y,le x y->aY.live m y->(∀j,j≠i->¬Behind ops i j->aY.pend j x->aY.pend j y)->b .normal (a.put o.dst c) (to y))->wpList P ops b [o] a (to x))
  (g:dS P ops to le V l F e (a.put o.dst c)):dS P ops to le V ((i,o)::l) F (.fix c::e) a:=
 ⟨λx q m r f b p=>s x q m r f b λy n k d=>p c y n k d rfl,g⟩
def agp   {l:List (Nat×Oper)} {F:List (Nat×(X->Prop))} {d:List (gV X)} (R:Value->X->Prop) (e:o.dst.isSome=true\/∀u v x,R u x->R v x) (p:∀v x y,R v x->le x y->R v y)
  (w:∀x,adH F o x->∀m,aY.live (m+1) x->aY.pend i x->∀b:Exit->Act->World->Prop,(∀v y,le x y->aY.live m y->(∀j,j≠i->¬Behind ops i j->aY.pend j x->aY.pend j y)->R v y->b .normal (a.put o.dst v) (to y))->wpList P ops b [o] a (to x))
  (g:∀v,dS P ops to le V l ((i,R v)::F) d (a.put o.dst v)):dS P ops to le V ((i,o)::l) F (.any R::d) a:=
 ⟨e,p,λx r m s f b q=>w x r m s f b λv y n k c t=>q v y n k c t,g⟩
def pick(l:List Oper)(ord:List Nat):List (Nat×Oper):=ord.map λi=>(i,l.getD i default)
def agq(ops:Array Oper)(n:Nat):List Nat->List Nat->Bool
 |[],_=>true
 |i::t,done=>(match ops[i]? with
  |some o=>(List.range n).all λj=>!jB o j||done.contains j
  |none=>false)&&agq ops n t (i::done)
def adI{n:Nat}:∀(c done:List Nat),agq ops n c done=true->∀k i o j,c[k]?=some i->ops[i]?=some o->j<n->jB o j=true->j∈done\/j∈c.take k
 |[],_,_,k,i,_,_,h,_,_,_=>by simp at h
 |a::t,done,hB,k,i,o,j,h,ho,hj,hw=>by
  simp only[agq,eg] at hB;cases k with
  |zero=>
   simp at h;subst h;have b:=hB.1;simp only[ho] at b;have d:=ip.1 b j (ph.2 hj);left;simpa[hw] using d
  |succ k=>
   rcases adI t (a::done) hB.2 k i o j (by simpa using h) ho hj hw with b|b
   .rcases lw.1 b with rfl|b
    .right;simp
    .exact .inl b
   .right;rw[ud];exact qq _ b
def ajB(l:List Oper)(n:Nat)(bW df:List Nat):Bool:=
 Region.noSelect l.toArray&&decide (n<=l.length)&&ahz l.toArray n&&alP l.toArray n&&ajA l.toArray n&&decide ((bW++df).Nodup)&&(List.range n).all (λi=>(bW++df).contains i)&&(bW++df).all (λi=>decide (i<n)) &&
  bW.all (λi=>agl (l.getD i default).op)&&agq l.toArray n (bW++df) []
def lF{U V:Nat->Value}:∀(L:List (Nat×Oper)) (a:Act),(∀p∈L,U p.1=V p.1)->eM U a L=eM V a L
 |[],_,_=>rfl
 |p::L,a,h=>by
  show eM U (a.put p.2.dst (U p.1)) L=eM V (a.put p.2.dst (V p.1)) L;rw[h p (by simp)];exact lF L _ λq b=>h q (by simp[b])
def acb(U:Nat->Value)(L M:List (Nat×Oper))(a:Act):eM U a (L++M)=eM U (eM U a L) M:=by
 unfold eM;exact List.foldl_append
def adJ{C:World->Prop}{i:Act->Prop}:∀(L:List (Nat×Oper)) (a:Act),(L.map (·.1)).Nodup->wpQuiet P ops C i (L.map (·.2)) a->
  ∃V:Nat->Value,i (eM V a L)/\∀(k:Nat) (p:Nat×Oper),L[k]?=some p->YieldsIn P ops C p.2 (V p.1) (eM V a (L.take k))
 |[],a,_,h=>⟨λ_=>undef,h,λk p n=>by simp at n⟩
 |p::L,a,hn,h=>by
  rw[qo,sB] at hn;have t:∃v,YieldsIn P ops C p.2 v a/\wpQuiet P ops C i (L.map (·.2)) (a.put p.2.dst v):=by
   rw[qo] at h;unfold wpQuiet at h;split at h
   .rename_i g;obtain⟨v,u,o⟩:=h;exact⟨v,.inl ⟨g,u⟩,o⟩
   .rename_i g;exact⟨undef,.inr ⟨by simpa using g,rfl⟩,h⟩
  obtain⟨v,r,l⟩:=t;obtain⟨V,s,w⟩:=adJ L _ hn.2 l
  let W:Nat->Value:=λj=>if j=p.1 then v else V j
  have f:W p.1=v:=by simp[W]
  have d:∀q∈L,W q.1=V q.1:=λq b=>by
   have:q.1≠p.1:=λe=>hn.1 (e▸lP.2 ⟨q,b,rfl⟩);simp[W,this]
  have m:∀k,eM W a ((p::L).take (k+1))=eM V (a.put p.2.dst v) (L.take k):=λk=>by
   rw[ud];show eM W (a.put p.2.dst (W p.1)) (L.take k)=_;rw[f];exact lF _ _ λq b=>d q (qb b)
  refine⟨W, ?_,λk q b=> ?_⟩
  .have:=m L.length;rw[fd,<-mp (a:=p),fd] at this;rw[this];exact s
  .cases k with
   |zero=>
    simp at b;subst b;rw[f];exact r
   |succ k=>
    have c:L[k]?=some q:=by simpa using b
    rw[m,d q (da c)];exact w k q c
def nI{A:Act->World->Prop}{n:Nat}{T:Nat->gV X}{U:Nat->Value}(y:∀j g,T j=.fix g->U j=g):∀(L:List (Nat×Oper)) (F:List (Nat×(X->Prop))) (l:List (gV X)) (a:Act),
  dS P ops to le A L F l a->(∀(k:Nat) (p:Nat×Oper) (r:gV X),L[k]?=some p->l[k]?=some r->T p.1=r)->(∀p∈L,p.1<n)->(∀p∈F,p.1<n/\∀x,(T p.1).holds (U p.1) x->p.2 x)->
  (∀(k:Nat) (p:Nat×Oper),L[k]?=some p->∀x,(∀j,j<n->jB p.2 j=true->(T j).holds (U j) x)->Good P ops to le p.1 p.2 (eM U a (L.take k)) x (T p.1))/\(∀x,(∀j,j<n->(T j).holds (U j) x)->A (eM U a L) (to x))
 |[],F,[],a,h,_,_,hF=>⟨λk p b=>by simp at b,λx c=>h x (arZ λp b=>(hF p b).2 x (c _ (hF p b).1))⟩
 |[],_,_::_,_,h,_,_,_=>h.elim
 |(i,o)::L,F,[],_,h,_,_,_=>h.elim
 |(i,o)::L,F,.fix g::l,a,h,hT,hn,hF=>by
  obtain⟨w,s⟩:=h;have d:T i=.fix g:=hT 0 (i,o) (.fix g) rfl rfl;have z:U i=g:=y i g d;obtain⟨u,v⟩:=nI y L F l _ s (λk p r b t=>hT (k+1) p r (by simpa using b) (by simpa using t)) (λp b=>hn p (by simp[b])) hF;have f:∀M,eM U a ((i,o)::M)=eM U (a.put o.dst g) M:=λM=>by
   show eM U (a.put o.dst (U i)) M=_;rw[z]
  refine⟨λk p b x c=> ?_,λx c=>by rw[f];exact v x c⟩;cases k with
  |zero=>
   simp at b;subst b;rw[d];exact w x (alT λq e m=>(hF q e).2 x (c _ (hF q e).1 m))
  |succ k=>
   rw[ud,f];exact u k p (by simpa using b) x c
 |(i,o)::L,F,.any R::l,a,h,hT,hn,hF=>by
  obtain⟨_,B,w,s⟩:=h;have d:T i=.any R:=hT 0 (i,o) (.any R) rfl rfl;obtain⟨u,v⟩:=nI y L ((i,R (U i))::F) l _ (s (U i)) (λk p r b t=>hT (k+1) p r (by simpa using b) (by simpa using t)) (λp b=>hn p (by simp[b])) λq e=>by
   rcases lw.1 e with rfl|e
   .exact⟨hn (i,o) (by simp),λx c=>by rw[d] at c;exact c⟩
   .exact hF q e
  refine⟨λk p b x c=> ?_,λx c=>v x c⟩;cases k with
  |zero=>
   simp at b;subst b;rw[d];exact w x (alT λq e m=>(hF q e).2 x (c _ (hF q e).1 m))
  |succ k=>exact u k p (by simpa using b) x c
def pz{j:Act->World->Prop}:∀(L:List (Nat×Oper)) (F:List (Nat×(X->Prop))) (d:List (gV X)) (a:Act),
  dS P ops to le j L F d a->d.length=L.length/\∀(k:Nat) (p:Nat×Oper) (r:gV X),L[k]?=some p->d[k]?=some r->r.keep le/\((∃v,r=.fix v)\/p.2.dst.isSome=true\/∀R,r=.any R->∀u v x,R u x->R v x)
 |[],_,[],_,_=>⟨rfl,λk p r b=>by simp at b⟩
 |[],_,_::_,_,h=>h.elim
 |(i,o)::L,F,[],_,h=>h.elim
 |(i,o)::L,F,.fix v0::d,a,h=>by
  obtain⟨_,e⟩:=h;obtain⟨f,g⟩:=pz L F d _ e;refine⟨by simp[f],λk p r b c=> ?_⟩;cases k with
  |zero=>
   simp at c;subst c;exact⟨trivial,.inl ⟨_,rfl⟩⟩
  |succ k=>exact g k p r (by simpa using b) (by simpa using c)
 |(i,o)::L,F,.any R::d,a,h=>by
  obtain⟨hd,l,_,e⟩:=h;obtain⟨f,g⟩:=pz L _ d _ (e undef);refine⟨by simp[f],λk p r b c=> ?_⟩;cases k with
  |zero=>
   simp at c b;subst c b;exact⟨l,.inr (hd.imp id λhd R' m=>by cases m;exact hd)⟩
  |succ k=>exact g k p r (by simpa using b) (by simpa using c)
def pA{g:Type}:∀(ks:List Nat) (c:List g) (k i:Nat) (r:g),ks.Nodup->ks[k]?=some i->c[k]?=some r->(ks.zip c).lookup i=some r
 |[],_,_,_,_,_,h,_=>by simp at h
 |a::ks,[],_,_,_,_,_,h=>by simp at h
 |a::ks,b::c,k,i,r,hn,h,hr=>by
  rw[sB] at hn;cases k with
  |zero=>
   simp at h hr;subst h hr;simp[List.lookup]
  |succ k=>
   have f:ks[k]?=some i:=by simpa using h
   have d:(i ==a)=false:=jp.2 λe=>hn.1 (e▸da f);simp only[List.zip_cons_cons,List.lookup,d];exact pA ks c k i r hn.2 f (by simpa using hr)
def ahC {l:List Oper}  (to:X->World) (le:X->X->Prop) (Y:∀x,le x x) (n:Nat) (b q:List Nat) (hB:ajB l n b q=true) (hd:aeM l.toArray n a.tmps.size=true)
  (x0:X) (af:∀m,m<=n->aY.live m x0) (b4:∀i,i<n->aY.pend i x0) (hx:to x0=w.drew)
  (h:wpQuiet P l.toArray (λw'=>∃x,w'=to x) (λa1=>∃B,dS P l.toArray to le (wpList P l.toArray Q (l.drop n)) (pick l q) [] B a1) ((pick l b).map (·.2)) a):wpAny P .any l.toArray Q l.toArray.size (Array.replicate l.toArray.size false) a {w with drawn:=w.drawn+1}:=by
 simp only[ajB,eg,ql] at hB;obtain⟨⟨⟨⟨⟨⟨⟨⟨⟨ax,hn⟩,ht⟩,ao⟩,a4⟩,N⟩,an⟩,ay⟩,al⟩,av⟩:=hB;have b1:n<=l.toArray.size:=by simpa using hn
 have I:∀i,i<n->i∈b++q:=λi d=>by simpa using ip.1 an i (ph.2 d)
 have z:∀i∈b++q,i<n:=λi d=>by simpa using ip.1 ay i d
 have G:∀i,i<n->l.toArray[i]?=some (l.getD i default):=λi d=>by
  have b5:i<l.length:=aE d hn;simp[b5]
 have ad:∀E:List Nat,(pick l E).map (·.1)=E:=λE=>by simp[pick,Function.comp_def]
 obtain⟨V,⟨B,O⟩,hV⟩:=adJ (pick l b) a (by rw[ad];exact(qV.1 N).1) h;obtain⟨a3,a2⟩:=pz _ _ _ _ O;have b6:B.length=q.length:=by rw[a3];simp[pick]
 let T:Nat->gV X:=λj=>(((b++q).zip (b.map (λi=>gV.fix (V i))++B)).lookup j).getD (.fix undef)
 have D:∀i∈b,T i=.fix (V i):=λi d=>by
  obtain⟨k,v⟩:=qk.1 d;have nJ:k<b.length:=by
   rcases mx k b.length with h|h
   .exact h
   .rw[qM h] at v;cases v
  have:=pA (b++q) (b.map (λi=>gV.fix (V i))++B) k i (.fix (V i)) N (by rw[pV nJ];exact v) (by rw[pV (by simpa using nJ),qm,v];rfl);simp only[T,this,pP]
 have a0:∀k i r,q[k]?=some i->B[k]?=some r->T i=r:=λk i r v C=>by
  have:=pA (b++q) (b.map (λi=>gV.fix (V i))++B) (b.length+k) i r N (by rw[pK (by omega),rz];exact v)
   (by rw[pK (by simp),pr,rz];exact C)
  simp only[T,this,pP]
 have Z:∀(k:Nat) (p:Nat×Oper) (r:gV X),(pick l q)[k]?=some p->B[k]?=some r->T p.1=r:=λk p r g C=>by
  simp only[pick,qm,ga] at g;obtain⟨i,d,rfl⟩:=g;exact a0 k i r d C
 have a5:∀i,i<n->(i∈b/\T i=.fix (V i))\/∃k r,q[k]?=some i/\B[k]?=some r/\T i=r:=λi d=>by
  rcases jt.1 (I i d) with s|s
  .exact .inl ⟨s,D i s⟩
  .obtain⟨k,v⟩:=qk.1 s;have nJ:k<B.length:=by
    rcases mx k q.length with h|h
    .omega
    .rw[qM h] at v;cases v
   exact .inr ⟨k,B[k],v,io nJ,a0 k i _ v (io nJ)⟩
 have aZ:∀i,(T i).keep le:=λi=>by
  by_cases d:i<n
  .rcases a5 i d with⟨_,s⟩|⟨k,r,v,C,s⟩
   .rw[s];trivial
   .rw[s];exact(a2 k (i,l.getD i default) r (by simp[pick,v]) C).1
  .have:((b++q).zip (b.map (λi=>gV.fix (V i))++B)).lookup i=none:=by
    rw[List.lookup_eq_none_iff];intro p g;have s:=(List.of_mem_zip g).1;have:=z _ s;have aa:i≠p.1:=λe=>d (by rw[e];exact this);simpa using aa
   simp only[T,this,Option.getD_none];trivial
 have b3:∀i,i∈b++q->(i,l.getD i default)∈pick l (b++q):=λi d=>lP.2 ⟨i,d,rfl⟩;have W:pick l (b++q)=pick l b++pick l q:=by simp[pick]
 have H:=ang (P:=P) (Q:=Q) (to:=to) (le:=le) b1 ax ht ao a4 hd T aZ ?any (pick l (b++q)) ?L ?L' ?lex ?fin x0 (af _ (arX _ _)) b4
 .rw[hx] at H;exact H
 case any=>
  intro i o d F;rcases a5 i d with⟨_,s⟩|⟨k,r,v,C,s⟩
  .exact .inl ⟨_,s⟩
  .rw[s];obtain rfl:o=l.getD i default:=de (F.symm.trans (G i d));exact(a2 k (i,l.getD i default) r (by simp[pick,v]) C).2
 case L=>
  intro i o F d;obtain rfl:o=l.getD i default:=de (F.symm.trans (G i d));exact b3 i (I i d)
 case L'=>
  intro p g;obtain⟨i,d,rfl⟩:=lP.1 g;exact⟨z i d,G i (z i d)⟩
 case lex=>
  intro i o d F U hU;obtain rfl:o=l.getD i default:=de (F.symm.trans (G i d));obtain⟨hg,_⟩:=nI (n:=n) (T:=T) (U:=U) hU _ _ _ _ O Z (λp g=>by
   obtain⟨j,A,rfl⟩:=lP.1 g;exact z j (qL _ A)) (λp g=>by cases g)
  obtain⟨k,v⟩:=qk.1 (I i d);have a7:∀M:List (Nat×Oper),(∀p∈M,p.1∈b)->eM U a M=eM V a M:=λM hM=>lF M a λp g=>by rw[hU _ _ (D _ (hM p g))]
  have a6:∀p∈pick l b,p.1∈b:=λp g=>by
   obtain⟨j,A,rfl⟩:=lP.1 g;exact A
  refine⟨eM U a ((pick l (b++q)).take k), ?_, ?_, ?_⟩
  .refine⟨abG _ _ _,λt aU=>lD _ _ _ λp g S=> ?_, ?_⟩
   .obtain⟨j,A,rfl⟩:=lP.1 (qb g);exact aU j ⟨z j A,_,G j (z j A),S⟩
   .exact abH _ _ _
  .intro t j aI A;have hw:=adG a4 d F aI A;have b2:=(adI (b++q) [] av k i _ j v F A.1 hw).resolve_left (by simp);have aP:=A;obtain⟨aF,oj,aW,b0⟩:=aP;obtain rfl:oj=l.getD j default:=de (aW.symm.trans (G j aF));refine aaJ U (o:=l.getD j default) _ a ?_ b0 (ajz hd A) λp g S=> ?_
   .rw[pick,<-List.map_take];exact lP.2 ⟨j,b2,rfl⟩
   .obtain⟨j',a9,rfl⟩:=lP.1 (qb g);exact agn hd ⟨z j' a9,_,G j' (z j' a9),S⟩ A
  .intro x hx;rcases mx k b.length with K|K
   .have kQ:b[k]?=some i:=by rw[pV K] at v;exact v
    have a8:i∈b:=da kQ;have mb:(pick l (b++q)).take k=(pick l b).take k:=by rw[W,List.take_append_of_le_length (by simp[pick];omega)]
    have hy:=hV k (i,l.getD i default) (by simp[pick,kQ]);rw[mb,a7 _ λp g=>a6 p (qb g),D i a8];intro mq R b7 Qx hQ;have aT:agl (l.getD i default).op=true:=ip.1 al i a8;have J:=λy hy hl aV=>hQ (V i) y hy hl aV rfl;unfold wpList;rcases hy with⟨hw,hq⟩|⟨hw,hq⟩
    .rw[dj hw];refine .inl ?_;have s:=hq (to x) ⟨x,rfl⟩;unfold Oper.quietAt at s;unfold Oper.wp;cases C:(execOp (eM V a (List.take k (pick l b))).eval (l.getD i default)).run P (to x) with
     |ok nx w'=>
      rw[C] at s;cases nx<;>simp only[Oper.quietUpon] at s
      case value u=>
       obtain⟨rfl,rfl⟩:=s;exact J x (Y x) (aY.down _ _ R) λ_ _ _ h=>h
      case skip=>
       obtain⟨rfl,h2⟩:=s;show Qx .normal _ _;rw[<-h2];exact J x (Y x) (aY.down _ _ R) λ_ _ _ h=>h
      case enter f args=>exact absurd C (agm aT)
     |halt c w'=>
      rw[C] at s;simp only[Oper.quietUpon] at s
    .rw[bd (by rw[hw];exact pu)];have:=J x (Y x) (aY.down _ _ R) λ_ _ _ h=>h;rw[hq] at this;exact this
   .have gM:q[k-b.length]?=some i:=by rw[pK K] at v;exact v
    have mb:(pick l (b++q)).take k=pick l b++(pick l q).take (k-b.length):=by
     rw[W,List.take_append,nf (by simp[pick];omega)];simp[pick]
    rw[mb,acb,a7 _ a6];exact hg (k-b.length) (i,l.getD i default) (by simp[pick,gM]) x hx
 case fin=>
  intro U hU x hx;obtain⟨_,hf⟩:=nI (n:=n) (T:=T) (U:=U) hU _ _ _ _ O Z (λp g=>by
   obtain⟨j,A,rfl⟩:=lP.1 g;exact z j (qL _ A)) (λp g=>by cases g)
  have s:=hf x hx;rw[W,acb,lF (U:=U) (V:=V) (pick l b) a λp g=>by
   obtain⟨j,A,rfl⟩:=lP.1 g;exact hU _ _ (D j A)]
  simpa using s
def adK {l:List Oper}  (to:X->World) (le:X->X->Prop) (f:∀x,le x x) (n:Nat) (e b:List Nat) (p:P.follows .mixedOrders=true) (r:ajB l n e b=true) (g:aeM l.toArray n U.tmps.size=true)
  (a:X) (c:∀m,m<=n->aY.live m a) (d:∀i,i<n->aY.pend i a) (k:to a=w.drew)
  (h:wpQuiet P l.toArray (λj=>∃x,j=to x) (λq=>∃o,dS P l.toArray to le (wpList P l.toArray Q (l.drop n)) (pick l b) [] o q) ((pick l e).map (·.2)) U):(Code.region Z l.toArray true).wp P Q U w:=
 wp_region_any p (ahC to le f n e b r g a c d k h)
end
end
section
variable {β:Bool}
open Go.RowKit
def nK(c:Below w.heap.size w w')(h:w.cell? p=some v):w'.cell? p=some v:=by
 refine(c.cell (p:=p) ?_).trans h;rcases mx p.block w.heap.size with a|b
 .exact a
 .simp[World.cell?,pF b] at h
def lG{a : World}(h:Below a.heap.size a w)(o:Obj):Below a.heap.size a (w.alloc o):=h.alloc h.size o
def nL{t:TypeId}{cs:Array Value}(h:gK w g t cs)(o:Obj):gK (w.alloc o) g t cs:=(rE w o g h.lt).trans h
def agt{t:TypeId}{cs:Array Value}(h:gK w g t cs)(u:Value)(a:g≠p.block):gK (w.setCell p u) g t cs:=(nF w p u g a).trans h
def alX{t:TypeId}{cs:Array Value}(h:gK w g t cs){S:Nat->Prop}(b:jm S w w')(a:¬S g):gK w' g t cs:=(b.block g h.lt a).trans h
def aJ(w:World)(o:Obj):Below w.heap.size w (w.alloc o):=(dk _ _).alloc (ap _) _
def iK{t:TypeId}{cs:Array Value}(h:w.alloc (.cells cs t)=x):Below w.heap.size w x/\w.heap.size+1<=x.heap.size/\gK x w.heap.size t cs/\(∀i,x.cell? ⟨w.heap.size,i,none⟩=cs[i]?)/\∀i,x.frozen? ⟨w.heap.size,i,none⟩=false:=by
 subst h;have k:=gK.new w t cs;exact⟨aJ _ _,by simp,k,k.cell,k.frozen⟩
def pB{t u:TypeId}{cs : Array Value}(h:(w.alloc (.cells cs t)).alloc (.cells S u)=x):Below w.heap.size w x/\w.heap.size+2<=x.heap.size/\gK x w.heap.size t cs/\(∀i,x.cell? ⟨w.heap.size,i,none⟩=cs[i]?)/\(∀i,x.frozen? ⟨w.heap.size,i,none⟩=false)/\
  gK x (w.heap.size+1) u S/\(∀i,x.cell? ⟨w.heap.size+1,i,none⟩=S[i]?)/\∀i,x.frozen? ⟨w.heap.size+1,i,none⟩=false:=by
 obtain⟨e,a,d,b,c⟩:=iK h;have k:=nL (gK.new w t cs) (.cells S u);rw[h] at k;simp only[oS] at a d b c;exact⟨h▸lG (aJ _ _) _,a,k,k.cell,k.frozen,d,b,c⟩
def ar0{t u v:TypeId}{cs : Array Value}(h:((w.alloc (.cells cs t)).alloc (.cells S u)).alloc (.cells es v)=x):Below w.heap.size w x/\w.heap.size+3<=x.heap.size/\gK x w.heap.size t cs/\(∀i,x.cell? ⟨w.heap.size,i,none⟩=cs[i]?)/\(∀i,x.frozen? ⟨w.heap.size,i,none⟩=false)/\
  gK x (w.heap.size+1) u S/\(∀i,x.cell? ⟨w.heap.size+1,i,none⟩=S[i]?)/\(∀i,x.frozen? ⟨w.heap.size+1,i,none⟩=false)/\gK x (w.heap.size+1+1) v es/\(∀i,x.cell? ⟨w.heap.size+1+1,i,none⟩=es[i]?)/\∀i,x.frozen? ⟨w.heap.size+1+1,i,none⟩=false:=by
 obtain⟨e,a,d,b,c⟩:=iK h;have k:=nL (nL (gK.new w t cs) (.cells S u)) (.cells es v);have l:=nL (gK.new (w.alloc (.cells cs t)) u S) (.cells es v);rw[h] at k l;simp only[oS] at a d b c l;exact⟨h▸lG (lG (aJ _ _) _) _,a,k,k.cell,k.frozen,l,l.cell,l.frozen,d,b,c⟩
structure dC (w:World) where
 to:World
 ok:Below w.heap.size w to
instance ar1(w:World):Nonempty (dC w):=⟨⟨w,dk _ _⟩⟩
def ah(h:w.cell? p=some v):∀x:dC w,x.to.cell? p=some v:=λx=>nK x.ok h
def aA {id:Nat}   {l:List Oper} (c:P.follows .mixedOrders=true) (e:Region.lexB .any l.toArray=true)
  (h:wpQuiet P l.toArray (λb=>∃x:dC w,b=x.to) (λd=>∀b,(∃x:dC w,b=x.to)->Q .normal d b) l a):(Code.region id l.toArray true).wp P Q a w:=
 wp_region_quiet (C:=λb=>∃x:dC w,b=x.to) c e ⟨⟨w.drew,⟨rfl,rfl,rfl,ap _,λ_ _=>rfl⟩⟩,rfl⟩ (by simpa using h)
def aG(h:∃x:dC w,w'=x.to):Below w.heap.size w w':=by
 obtain⟨x,rfl⟩:=h;exact x.ok
def aO  {args:Array Value} {x:dC w} 
  (h:Calls P f args x.to λe b=>e=.returned v/\Below x.to.heap.size x.to b):Calls P f args x.to λe a=>e=.returned v/\∃y:dC w,a=y.to:=
 h.mono λ_ c ⟨he,hb⟩=>⟨he,⟨⟨c,x.ok.trans (hb.mono x.ok.size)⟩,rfl⟩⟩
def cX  {args:Array Value} {x:dC w} 
  (h:Calls P f args x.to λe b=>e=.returned v/\x.to=b):Calls P f args x.to λe a=>e=.returned v/\∃y:dC w,a=y.to:=
 h.mono λ_ _ ⟨he,hb⟩=>⟨he,⟨x,hb.symm⟩⟩
instance avc(w:World):aY (dC w):=⟨λ_ _=>True,λ_ _ _=>trivial,λ_ _=>True⟩
def dC.le{w:World}(x y:dC w):Prop:=Below x.to.heap.size x.to y.to
def dC.le_refl(x:dC w):dC.le x x:=dk _ _
def dC.mk'{w:World}(x:dC w){w':World}(h:Below x.to.heap.size x.to w'):dC w:=⟨w',x.ok.trans (h.mono x.ok.size)⟩
def fh   {l:List Oper}  (n:Nat) (a b:List Nat) (d:P.follows .mixedOrders=true:=by kernel_rfl) (g:ajB l n a b=true:=by kernel_rfl) (c:aeM l.toArray n U.tmps.size=true:=by kernel_rfl)
  (h:wpQuiet P l.toArray (λe=>∃x:dC w,e=x.to) (λf=>∃i:List (gV (dC w)),dS P l.toArray (dC.to (w:=w)) (dC.le (w:=w)) (wpList P l.toArray Q (l.drop n)) (pick l b) [] i f) ((pick l a).map (·.2)) U):(Code.region Z l.toArray true).wp P Q U w:=
 adK (dC.to (w:=w)) (dC.le (w:=w)) dC.le_refl n a b d g c ⟨w.drew,⟨rfl,rfl,rfl,ap _,λ_ _=>rfl⟩⟩ (λ_ _=>trivial) (λ_ _=>trivial) rfl h
section
variable {P:Program} {ops:Array Oper} {w:World} {Qt:Act->World->Prop} {i:Nat} {o:Oper} {l:List (Nat×Oper)} {F:List (Nat×(dC w->Prop))} {Rs:List (gV (dC w))} {a:Act}
def ahD (R:Value->World->Prop) (f:o.dst.isSome=true) (j:∀v x y,R v x->Below x.heap.size x y->R v y)
  (q:∀x:dC w,adH F o x->∀b:Exit->Act->World->Prop,(∀v c,Below x.to.heap.size x.to c->R v c->b .normal (a.put o.dst v) c)->wpList P ops b [o] a x.to)
  (g:∀v,dS P ops (dC.to (w:=w)) (dC.le (w:=w)) Qt l ((i,λx=>R v x.to)::F) Rs (a.put o.dst v)):dS P ops (dC.to (w:=w)) (dC.le (w:=w)) Qt ((i,o)::l) F (.any (λv x=>R v x.to)::Rs) a:=
 agp (X:=dC w) (to:=dC.to (w:=w)) (le:=dC.le (w:=w)) (λv x=>R v x.to) (.inl f) (λv x y h d=>j v x.to y.to h d) (λx n m _ _ b k=>q x n b λv c e p=>k v (x.mk' e) e trivial (λ_ _ _ _=>trivial) p) g
def ahE (c:Value)
  (g:∀x:dC w,adH F o x->∀b:Exit->Act->World->Prop,(∀d,Below x.to.heap.size x.to d->b .normal (a.put o.dst c) d)->wpList P ops b [o] a x.to)
  (f:dS P ops (dC.to (w:=w)) (dC.le (w:=w)) Qt l F Rs (a.put o.dst c)):dS P ops (dC.to (w:=w)) (dC.le (w:=w)) Qt ((i,o)::l) F (.fix c::Rs) a:=
 alV (X:=dC w) (to:=dC.to (w:=w)) (le:=dC.le (w:=w)) c (λx k m _ _ b j=>g x k b λd e=>j (x.mk' e) e trivial λ_ _ _ _=>trivial) f
def jC(h:∀b,Below w.heap.size w b->∀x:dC w,x.to=b->abI F x->Qt a b):dS P ops (dC.to (w:=w)) (dC.le (w:=w)) Qt [] F [] a:=
 alU (X:=dC w) (to:=dC.to (w:=w)) (le:=dC.le (w:=w)) λx c=>h x.to x.ok x rfl c
end
def ahF(base:Nat)(e:TypeId)(v:Value)(w:World):Prop:=∃g,v=.slice (some ⟨g,0,none⟩) 0 0/\base<=g/\gK w g e #[]
def ahF.own{base:Nat}(h:ahF base e v w)(b:Nat):w.ownsRow base e b v 0 []:=by
 obtain⟨g,rfl,c,a⟩:=h;exact⟨by simp,.inr ⟨g,0,#[],rfl,c,a,ap _,by unfold maxLen;omega,by simp,by simp⟩⟩
def aB{t:TypeId}{cs:Array Value}(h:gK w g t cs)(a:Below w.heap.size w w'):gK w' g t cs:=(a.block g h.lt).trans h
def ahF.new(w:World){base:Nat}(e:TypeId)(a:base<=w.heap.size):ahF base e (.slice (some ⟨w.heap.size,0,none⟩) 0 0) (w.alloc (.cells #[] e)):=⟨_,rfl,a,gK.new _ _ _⟩
def ajC(base:Nat)(e:TypeId)(es:Array Value)(v:Value)(w:World):Prop:=∃g,v=.slice (some ⟨g,0,none⟩) 1 1/\base<=g/\gK w g e es
def ajC.keep{base:Nat}(h:ajC base e es v w)(c:Below w.heap.size w w'):ajC base e es v w':=by
 obtain⟨g,rfl,b,a⟩:=h;exact⟨g,rfl,b,aB a c⟩
def ajC.new(w:World){base:Nat}(e:TypeId)(es:Array Value)(a:base<=w.heap.size):ajC base e es (.slice (some ⟨w.heap.size,0,none⟩) 1 1) (w.alloc (.cells es e)):=⟨_,rfl,a,gK.new _ _ _⟩
end
section
variable {β:Bool}
open Go.RowKit
structure Flat (α:Type) where
 sz:Nat
 cells:α->List Value
 good:α->Prop
 len:∀x,(cells x).length=sz
 one:∀x,∀u∈cells x,u.oneCell'=true
 pos:0<sz
def cy{α:Type}(F:Flat α):eX α:=λ_ _ _ x a=>a=F.cells x/\F.good x
section
variable {α:Type} (F:Flat α)
def cy.loc:Lcy (cy F):=⟨λ_ _ _ h=>h⟩
def dt(xs:List α):List Value:=xs.flatMap F.cells
def lH(xs a:List α):dt F (xs++a)=dt F xs++dt F a:=qZ
def adL(x:α):dt F [x]=F.cells x:=by simp[dt]
def eG:∀a:List α,(dt F a).length=a.length*F.sz
 |[]=>by simp[dt]
 |x::a=>by
  show(F.cells x++dt F a).length=_;rw[gn,eG a,F.len,mp,sg,Nat.add_comm]
def fZ:∀(a:List α) (i j:Nat) (x:α) (u:Value),a[i]?=some x->(F.cells x)[j]?=some u->(dt F a)[i*F.sz+j]?=some u
 |[],i,j,x,u,h,_=>by simp at h
 |g::a,i,j,x,u,h,hj=>by
  have b:=aH hj;rw[F.len] at b;show(F.cells g++dt F a)[i*F.sz+j]?=some u;cases i with
  |zero=>
   simp at h;subst h;rw[pV (by rw[F.len,se,pb];exact b),se,pb];exact hj
  |succ i=>
   have e:(i+1)*F.sz+j=F.sz+(i*F.sz+j):=by rw[sg];omega
   rw[e,pK (by rw[F.len];omega),F.len,rz];exact fZ a i j x u (by simpa using h) hj
def anh{xs:List α}(h:(dt F xs)[j]?=some u):∃x,xs[j / F.sz]?=some x/\(F.cells x)[j % F.sz]?=some u:=by
 have a:=aH h;rw[eG] at a;have d:j / F.sz<xs.length:=Nat.div_lt_of_lt_mul (by rw[uB];exact a);refine⟨xs[j / F.sz],io d, ?_⟩;have b:j % F.sz<(F.cells xs[j / F.sz]).length:=by rw[F.len];exact Nat.mod_lt _ F.pos
 have c:=fZ F xs (j / F.sz) (j % F.sz) xs[j / F.sz] _ (io d) (io b);rw[Nat.div_add_mod'] at c;rw[io b,<-c,h]
def abJ(xs:List α):∀u∈dt F xs,u.oneCell'=true:=by
 intro u a;obtain⟨g,_,b⟩:=pa.1 a;exact F.one g u b
def aQ(e:TypeId)(w:World)(base:Nat)(v:Value)(xs:List α):Prop:=w.ownsRow base e F.sz v xs.length (dt F xs)
variable {F}
def aQ.sl{base : Nat}{xs:List α}(h:aQ F e w base v xs)(c:∀x∈xs,F.good x)(b:w.heap.size<=Z):cJ (cy F) F.sz w base Z xs [v]:=
 ao4 h b λi x Z=>⟨F.cells x,F.len x,⟨rfl,c x (da Z)⟩,λ_ _ a=>fZ F xs i _ x _ Z a⟩
def ahG{base : Nat}(h:w.ownsRow base e Y v n W)(d:Z<=base):w.ownsRow Z e Y v n W:=by
 refine⟨h.1, ?_⟩;rcases h.2 with f|⟨g,cap,b,rfl,c,a⟩
 .exact .inl f
 .exact .inr ⟨g,cap,b,rfl,am d c,a⟩
def aQ.base{base : Nat}{xs:List α}(h:aQ F e w base v xs)(a:Z<=base):aQ F e w Z v xs:=ahG h a
def aQ.nil(e:TypeId)(w:World)(base:Nat):aQ F e w base (.slice none 0 0) []:=uq _ _ _ _
def aQ.agu{base:Nat}(h:ahF base e v w):aQ F e w base v []:=h.own F.sz
def aQ.below{base:Nat}{xs:List α}(h:aQ F e w base v xs)(a:Below w.heap.size w w'):aQ F e w' base v xs:=adE h a
def aQ.chg{base:Nat}{xs:List α}{S:Nat->Prop}(h:aQ F e w base v xs)(c:jm S w w')(a:∀b,v.ownBlock=some b->¬S b):aQ F e w' base v xs:=alO h c a
def aQ.at_{base:Nat}{xs:List α}(h:aQ F e w base v xs)(a:v.ownBlock=some g):base<=g/\g<w.heap.size:=h.lt g a
def ani{base : Nat}{e' : TypeId}{v' : Value}(h:w.ownsRow base e Y v n cs)(m:w.ownsRow Z e' T v' c W)(o:e≠e'):∀b,v.ownBlock=some b->v'.ownBlock≠some b:=by
 intro b d a;rcases h.2 with⟨rfl,_⟩|⟨g,cap,l,rfl,_,j,_⟩
 .simp[Value.ownBlock] at d
 .rcases m.2 with⟨rfl,_⟩|⟨p,i,k,rfl,_,f,_⟩
  .simp[Value.ownBlock] at a
  .simp[Value.ownBlock] at d a;rw[d] at j;rw[a,j] at f;simp at f;exact o f.2
def aQ.form{base:Nat}{xs:List α}(h:aQ F e w base v xs):∃A c,v=.slice A xs.length c:=kW h
def afg:∀(a:List α) (i j:Nat) (x y:α) (u:Value),a[i]?=some x->j<F.sz->F.cells y=(F.cells x).set j u->dt F (a.set i y)=(dt F a).set (i*F.sz+j) u
 |[],i,j,x,y,u,h,_,_=>by simp at h
 |z::a,0,j,x,y,u,h,hj,hy=>by
  simp at h;subst h;show F.cells y++dt F a=(F.cells z++dt F a).set (0*F.sz+j) u
  rw[se,pb,List.set_append_left _ _ (by rw[F.len];exact hj),hy]
 |z::a,i+1,j,x,y,u,h,hj,hy=>by
  show F.cells z++dt F (a.set i y)=(F.cells z++dt F a).set ((i+1)*F.sz+j) u
  have e:(i+1)*F.sz+j=F.sz+(i*F.sz+j):=by rw[sg];omega
  rw[e,uR _ _ (by rw[F.len];omega),F.len,rz,afg a i j x y u (by simpa using h) hj hy]
def aQ.put{base cap : Nat}{xs:List α}(h:aQ F e w base (.slice (some ⟨g,0,none⟩) xs.length cap) xs){x y:α}(c:xs[i]?=some x)(a:j<F.sz)(b:F.cells y=(F.cells x).set j u) :
  aQ F e (w.setCell ⟨g,i*F.sz+j,none⟩ u) base (.slice (some ⟨g,0,none⟩) xs.length cap) (xs.set i y):=by
 unfold aQ;rw[afg xs i j x y u c a b,qY];exact(h.stored _ u).1
def aQ.cell{base cap : Nat}{xs:List α}(h:aQ F e w base (.slice (some ⟨g,0,none⟩) xs.length cap) xs){x:α}(b:xs[i]?=some x)(a:(F.cells x)[j]?=some u):w.cell? ⟨g,i*F.sz+j,none⟩=some u:=by
 have c:=aH a;rw[F.len] at c;have d:=aH b;have f:(i+1)*F.sz<=xs.length*F.sz:=rm _ d;rw[sg] at f;rw[h.cellAt _ (by omega)];exact fZ F xs i j x u b a
def aQ.frozen{base cap : Nat}{xs:List α}(h:aQ F e w base (.slice (some ⟨g,0,none⟩) n cap) xs)(a:n=xs.length)(j:Nat):w.frozen? ⟨g,j,none⟩=false:=by
 subst a;exact h.frozenAt j
def apc{xs:List α}(h:cJ (cy F) F.sz w Z Y xs [.slice A n c])(v:Y<=w.heap.size) :
  0<xs.length->∃a,A=some a/\∀(j:Nat) (u:Value),(dt F xs)[j]?=some u->∀g,Below w.heap.size w g->g.cell? (a.add j)=some u:=by
 intro k;obtain⟨x,p⟩:=ar k;obtain⟨b,d,_,rfl,_⟩:=h.at_ p;refine⟨_,rfl,λj u m g o=> ?_⟩;obtain⟨y,l,i⟩:=anh F m;obtain⟨t,r,s,e,_,_,_,⟨rfl,_⟩,q⟩:=h.at_ l;simp only[lE,qa,qn] at e;obtain⟨rfl,rfl⟩:=e;have f:(⟨b,d,none⟩:Addr).add j=⟨b,d+j,none⟩:=by unfold Addr.add;split<;>simp_all
 rw[f];have:=q _ _ i;rw[tK,Nat.div_add_mod'] at this;exact nK o this
def cJ.good{xs:List α}(h:cJ (cy F) F.sz w Z Y xs cs):∀x∈xs,F.good x:=λx b=>by
 obtain⟨c,a⟩:=h.awK x b;exact a.2
end
def gv:Flat Int:=⟨1,λx=>[.int .i64 x],fg,λ_=>rfl,λx u a=>by rw[gE.1 a];rfl,by decide⟩
def jo(xs:List Int):dt gv xs=xs.map (Value.int .i64):=by
 induction xs with
 |nil=>rfl
 |cons x xs a=>show Value.int .i64 x::dt gv xs=_;rw[a];rfl
def apd{base:Nat}{xs:List Int}:arV w base v xs↔aQ gv 3 w base v xs:=by
 unfold arV aQ;rw[jo];exact Iff.rfl
section
variable {P:Program}
variable {α:Type} {F:Flat α}
def jD      (j:o.guard=none) (s x:Operand) (t:TypeId)
  (n:o.op=.call ⟨.builtin .append,#[s,x],#[t,t]⟩)
  (m:py P t e F.sz Z) {base:Nat} {xs:List α} (y:α) (p:a.eval s=v) (f:aQ F e w base v xs) {T:TypeId} (q:a.eval x=.slice (some ⟨w.heap.size,0,none⟩) 1 1) (d:es.toList=F.cells y)
  (r:xs.length<=1099511627775) (c:base<=w.heap.size)
  (h:∀i g,aQ F e g base i (xs++[y])->jm (λb=>v.ownBlock=some b) w g->(∀b,i.ownBlock=some b->v.ownBlock=some b\/w.heap.size<=b)->wpList P R Q rest (a.put o.dst i) g) :
  wpList P R Q (o::rest) a (w.alloc (.cells es T)):=
 arU j s x t n m p f q (by rw[<-qH,d,F.len]) (by rw[d];exact F.one y) r c λi g k=>h i g (by
  have l:=k.own;unfold aQ;rw[lH,adL,gn];rw[d] at l;exact l) k.chg k.at_
def afh      (k:o.guard=none) (s x:Operand) (t:TypeId)
  (r:o.op=.call ⟨.builtin .append,#[s,x],#[t,t]⟩)
  (q:py P t e F.sz Z) {base:Nat} {xs:List α} (y:α) (B:a.eval s=v) (d:aQ F e w base v xs)  {T:TypeId} (C:a.eval x=.slice (some ⟨g,0,none⟩) 1 1) (p:gK w g T es) (n:es.toList=F.cells y)
  (D:xs.length<=1099511627775) (c:base<=w.heap.size)
  (h:∀i f,aQ F e f base i (xs++[y])->jm (λb=>v.ownBlock=some b) w f->(∀b,i.ownBlock=some b->v.ownBlock=some b\/w.heap.size<=b)->wpList P R Q rest (a.put o.dst i) f) :
  wpList P R Q (o::rest) a w:=
 adF k s x t r q B d C (news:=F.cells y) (by rw[F.len,Nat.one_mul]) (λ_=>⟨_,rfl,λj u z=>by
  have m:(⟨g,0,none⟩:Addr).add j=⟨g,j,none⟩:=by unfold Addr.add;split<;>simp_all
  rw[m,p.cell,<-dl,n];exact z⟩) (F.one y) (by omega) c λi f l=>h i f (by
  have A:=l.own;unfold aQ;rw[lH,adL,gn];exact A) l.chg l.at_
end
end
section
variable {β:Bool}
open Go.RowKit
def uX(w:World)(T:List TypeId)(b:Nat):Prop:=∃t∈T,∃a,gK w b t a
structure fO {α:Type} (E:eX α) (T:List TypeId):Prop where
 go:∀{w w':World} {lo hi lo' hi':Nat} {x:α} {cs:List Value},
  (∀b,lo<=b->b<hi->uX w T b->w'.heap[b]?=w.heap[b]?)->lo'<=lo->hi<=hi'->E w lo hi x cs->E w' lo' hi' x cs
section
variable {α:Type} {E:eX α} {T:List TypeId}
def fO.loc(d:fO E T):Lcy E:=⟨λh a c e=>d.go (λb a c _=>h b a c) a c e⟩
def fO.more(d:fO E T){U:List TypeId}(f:∀t∈T,t∈U):fO E U:=⟨λh c a e=>d.go (λb c a ⟨t,ht,hd⟩=>h b c a ⟨t,f t ht,hd⟩) c a e⟩
def fO.below(a:fO E T){B : Nat}{x:α}(h:E w Z Y x cs)(c:Below B w w')(b:Y<=B):E w' Z Y x cs:=a.loc.below h c b
def aaL{t : TypeId}{cs : Array Value}(h:gK w b t cs)(a:gK w b e S):t=e:=by
 unfold gK at h a;rw[h] at a;simp at a;exact a.2
def cy.aK{α:Type}(F:Flat α):fO (cy F) []:=⟨λ_ _ _ h=>h⟩
def mr(e:TypeId)(E:eX α)(sz:Nat):eX (List α):=λw i j f d=>
 cJ E sz w i j f d/\(0<f.length->∀b a n c,d=[.slice (some ⟨b,a,none⟩) n c]->∃g,gK w b e g)
def mr.aK(F:fO E T)  :fO (mr e E Z) (e::T):=by
 refine⟨?_⟩;intro w N S R L l Q P s o B ⟨⟨A,c,a,D,K,h⟩,p⟩;refine⟨⟨A,c,a,D,K,λm=> ?_⟩,λm b f n O r=> ?_⟩
 .obtain⟨b,f,rfl,k,g,J⟩:=h m;have q:=p m b f _ _ a;refine⟨b,f,rfl,am o k,aE g B,λi x l=> ?_⟩;obtain⟨H,G,M,d⟩:=J i x l;exact⟨H,G,F.go (λb k g ⟨t,p,hd⟩=>s b k g ⟨t,qq _ p,hd⟩) o B M,λj u I=>(pO (s b k g ⟨e,qz,q⟩)).trans (d j u I)⟩
 .obtain⟨z,C,y,k,g,_⟩:=h m;rw[a,y] at r;simp only[qy,sK,lE,qa,qn] at r;obtain⟨⟨rfl,rfl⟩,_,_⟩:=r;have q:=p m z C _ _ (a.trans (by rw[y]));obtain⟨v,hd⟩:=q;exact⟨v,(s z k g ⟨e,qz,v,hd⟩).trans hd⟩
def mr.form{xs:List α}(h:mr e E Z w Y b xs [v]):∃A c,v=.slice A xs.length c:=h.1.form
def adM(E:eX α)(sz:Nat)(e:TypeId)(w:World)(lo base:Nat)(v:Value)(xs:List α):Prop:=
 ∃cells:List Value,w.ownsRow base e sz v xs.length cells/\(∀u∈cells,u.oneCell'=true)/\
  ∀i x,xs[i]?=some x->∃a:List Value,a.length=sz/\E w lo w.heap.size x a/\∀j u,a[j]?=some u->cells[i*sz+j]?=some u
variable {sz:Nat} {e:TypeId}
def adM.blk{base : Nat}{xs:List α}(h:adM E sz e w Z base v xs)(a:v.ownBlock=some g):∃d,gK w g e d:=by
 obtain⟨cells,h,_⟩:=h;rcases h.2 with⟨rfl,_⟩|⟨f,cap,b,rfl,_,c,_⟩
 .cases a
 .cases a;exact⟨_,c⟩
def adM.sl{base : Nat}{xs:List α}(h:adM E sz e w Z base v xs)(m:Z<=base):mr e E sz w Z w.heap.size xs [v]:=by
 have K:=λg t=>h.blk (g:=g) t;obtain⟨cells,p,_,s⟩:=h;refine⟨?_,λB b C n c q=> ?_⟩
 .obtain⟨L,G⟩:=p;rcases G with⟨rfl,a⟩|⟨g,cap,d,rfl,l,r,o,k,H,z⟩
  .exact⟨none,0,by rw[a],by omega,by unfold maxLen;omega,λB=>by omega⟩
  .refine⟨_,cap,rfl,o,k,λ_=>⟨g,0,rfl,am m l,(db.1 r).1,λi x I=> ?_⟩⟩;obtain⟨D,m,J,A⟩:=s i x I;refine⟨D,m,J,λj u F=> ?_⟩;have f:=A j u F;rw[<-z,qA] at f;split at f
   .rw[cell_of_row w g (0+i*sz+j) d _ (0,0) r,pb];simpa using f
   .cases f
 .simp only[qy,qn] at q;subst q;rcases p.2 with⟨a,_⟩|⟨g,cap,d,a,_,y,_⟩
  .cases a
  .cases a;exact⟨_,y⟩
def aQ.deep{α:Type}{F:Flat α}{base:Nat}{xs:List α}(h:aQ F e w base v xs)(b:∀x∈xs,F.good x)(d:Nat):adM (cy F) F.sz e w d base v xs:=
 ⟨_,h,abJ F xs,λi x a=>⟨F.cells x,F.len x,⟨rfl,b x (da a)⟩,λ_ _ c=>fZ F xs i _ x _ a c⟩⟩
end
section
variable {P:Program} {α:Type} {E:eX α} {T:List TypeId} {sz:Nat} {e:TypeId}
end
section
variable {α:Type} {E:eX α}
end
end
section
variable {β:Bool}
structure Sp where
 n:Int
 p:Int
def spP(s:Sp):Prop:=(0<=s.n/\s.n<=999999999988)/\(1<=s.p/\s.p<=99)
def agv(s:Sp):List Sp->List Sp
 |[]=>[s]
 |x::xs=>if s.n<x.n then s::x::xs else if x.n<s.n then x::agv s xs else s::xs
def ar2{s:Sp}:∀{l:List Sp},s∈agv s l
 |[]=>by show s∈[s];simp
 |y::l=>by
  show s∈(if s.n<y.n then s::y::l else if y.n<s.n then y::agv s l else s::l);split
  .simp
  .split
   .exact qq _ ar2
   .simp
inductive Tr where
 |nil
 |node (b:Nat) (s:Sp) (l r:Tr)
namespace Tr
end Tr
def afi:List Sp->List Sp->List Sp
 |[],l=>l
 |s::ss,l=>afi ss (agv s l)
def gb(n:Int):List Sp->Int
 |[]=>0
 |x::xs=>if x.n=n then x.p else gb n xs
def abK{s:Sp}{n:Int}:∀{l:List Sp},gb n (agv s l)=if s.n=n then s.p else gb n l
 |[]=>by show(if s.n=n then s.p else 0)=_;rfl
 |x::l=>by
  show gb n (if s.n<x.n then s::x::l else if x.n<s.n then x::agv s l else s::l)=_;split
  .rfl
  .split
   .show(if x.n=n then x.p else gb n (agv s l))=(if s.n=n then s.p else(if x.n=n then x.p else gb n l));rw[abK];split
    .rw[bd (by omega)]
    .rfl
   .show(if s.n=n then s.p else gb n l)=(if s.n=n then s.p else(if x.n=n then x.p else gb n l));split
    .rfl
    .rw[bd (by omega)]
end
section
variable {β:Bool}
open Go.RowKit
structure bq (w:World) (s:Nat) (ty:TypeId) (S:Nat->Prop) (pre:List Nat) where
 to:World
 done:Bool
 ok:jm (λb=>done=true/\S b) w to
section
variable {w:World} {s:Nat} {ty:TypeId} {S:Nat->Prop} {pre:List Nat}
instance arl:Nonempty (bq w s ty S pre):=⟨⟨w,false,jm.refl _ _⟩⟩
instance aua:aY (bq w s ty S pre):=⟨λ_ _=>True,λ_ _ _=>trivial,λi x=>i=s\/i∈pre->x.done=false⟩
def bq.le(x y:bq w s ty S pre):Prop:=
 (y.done=x.done/\Below x.to.heap.size x.to y.to)\/(x.done=false/\y.done=true/\jm (λb=>S b\/(w.heap.size<=b/\∃a:Array Value,gK x.to b ty a)) x.to y.to)
def bq.le_refl(x:bq w s ty S pre):bq.le x x:=.inl ⟨rfl,dk _ _⟩
def bq.le.from_{x y:bq w s ty S pre}(h:bq.le x y)(b:x.done=true):y.done=true/\Below x.to.heap.size x.to y.to:=by
 rcases h with⟨a,c⟩|⟨a,_⟩
 .exact⟨a.trans b,c⟩
 .rw[b] at a;cases a
def ajD(h:w.cell? p=some v)(b:¬S p.block):∀x:bq w s ty S pre,x.to.cell? p=some v:=λx=>by
 have a:=uG w p h;unfold World.cell? at h ⊢;rw[x.ok.block p.block a λh=>b h.2];exact h
def bq.till(x:bq w s ty S pre)(a:x.done=false):Below w.heap.size w x.to:=⟨x.ok.os,x.ok.tape,x.ok.output,x.ok.size,λb c=>x.ok.block b c λh=>by rw[a] at h;cases h.1⟩
def bq.on(x:bq w s ty S pre){w2:World}(hb:Below x.to.heap.size x.to w2):bq w s ty S pre:=⟨w2,x.done,x.ok.trans (jm.adD (S:=λb=>x.done=true/\S b) hb) λ_ _ e=>e⟩
def bq.did(x:bq w s ty S pre){w2:World}(hc:jm (λb=>S b\/(w.heap.size<=b/\∃a:Array Value,gK x.to b ty a)) x.to w2):bq w s ty S pre:=
 ⟨w2,true,(x.ok.mono (T:=λb=>true=true/\S b) λ_ _ h=>⟨rfl,h.2⟩).trans hc λb c h=>by
  rcases h with h|h
  .exact⟨rfl,h⟩
  .omega⟩
def ajE     (s:Nat) (ty:TypeId) (S:Nat->Prop) (pre:List Nat) (n:Nat) (b a:List Nat) (f:P.follows .mixedOrders=true) (i:ajB rest n b a=true) (c:aeM rest.toArray n U.tmps.size=true)
  (h:wpQuiet P rest.toArray (λd=>∃x:bq w s ty S pre,d=x.to) (λg=>∃e:List (gV (bq w s ty S pre)),dS P rest.toArray (bq.to (w:=w)) (bq.le (w:=w)) (wpList P rest.toArray Q (rest.drop n)) (pick rest a) [] e g) ((pick rest b).map (·.2)) U):(Code.region Z rest.toArray true).wp P Q U w:=
 adK (bq.to (w:=w)) (bq.le (w:=w)) bq.le_refl n b a f i c ⟨w.drew,false,(jm.refl _ _).drew⟩ (λ_ _=>trivial) (λ_ _ _=>rfl) rfl h
variable {P:Program} {ops:Array Oper} {Qt:Act->World->Prop} {i:Nat} {o:Oper} {L:List (Nat×Oper)} {F:List (Nat×(bq w s ty S pre->Prop))} {Rs:List (gV (bq w s ty S pre))} {a:Act}
def avd (R:Value->bq w s ty S pre->Prop) (e:o.dst.isSome=true) (j:∀v x y,R v x->bq.le x y->R v y)
  (p:∀x:bq w s ty S pre,adH F o x->(i∈pre->x.done=false)->∀c:Exit->Act->World->Prop,(∀v d (b:Below x.to.heap.size x.to d),R v (x.on b)->c .normal (a.put o.dst v) d)->wpList P ops c [o] a x.to)
  (g:∀v,dS P ops (bq.to (w:=w)) (bq.le (w:=w)) Qt L ((i,λx=>R v x)::F) Rs (a.put o.dst v)):dS P ops (bq.to (w:=w)) (bq.le (w:=w)) Qt ((i,o)::L) F (.any R::Rs) a:=
 agp (to:=bq.to (w:=w)) (le:=bq.le (w:=w)) R (.inl e) j (λx m _ _ f c k=>p x m (λl=>f (.inr l)) c λv d b n=>
  k v (x.on b) (.inl ⟨rfl,b⟩) trivial (λ_ _ _ h=>h) n) g
def adN (c:Value)
  (j:∀x:bq w s ty S pre,adH F o x->(i∈pre->x.done=false)->∀b:Exit->Act->World->Prop,(∀d,Below x.to.heap.size x.to d->b .normal (a.put o.dst c) d)->wpList P ops b [o] a x.to)
  (g:dS P ops (bq.to (w:=w)) (bq.le (w:=w)) Qt L F Rs (a.put o.dst c)):dS P ops (bq.to (w:=w)) (bq.le (w:=w)) Qt ((i,o)::L) F (.fix c::Rs) a:=
 alV (to:=bq.to (w:=w)) (le:=bq.le (w:=w)) c (λx m _ _ f b k=>j x m (λl=>f (.inr l)) b λd e=>k (x.on e) (.inl ⟨rfl,e⟩) trivial λ_ _ _ h=>h) g
def ave (R:Value->bq w s ty S pre->Prop) (m:o.dst.isSome=true) (hi':i=s) (f:∀j∈pre,Behind ops i j) (q:∀v x y,R v x->bq.le x y->R v y)
  (z:∀x:bq w s ty S pre,adH F o x->x.done=false->∀c:Exit->Act->World->Prop,(∀v k (d:jm (λb=>S b\/(w.heap.size<=b/\∃A:Array Value,gK x.to b ty A)) x.to k),R v (x.did d)->c .normal (a.put o.dst v) k)->wpList P ops c [o] a x.to)
  (n:∀v,dS P ops (bq.to (w:=w)) (bq.le (w:=w)) Qt L ((i,λx=>R v x)::F) Rs (a.put o.dst v)):dS P ops (bq.to (w:=w)) (bq.le (w:=w)) Qt ((i,o)::L) F (.any R::Rs) a:=
 agp (to:=bq.to (w:=w)) (le:=bq.le (w:=w)) R (.inl m) q (λx t _ _ l c r=>z x t (l (.inl hi')) c λv k d p=>
  r v (x.did d) (.inr ⟨l (.inl hi'),rfl,d⟩) trivial (λj u g _ e=>e.elim (λe=>absurd (e.trans hi'.symm) u) λe=>absurd (f j e) g) p) n
def avf(h:∀x:bq w s ty S pre,abI F x->Qt a x.to):dS P ops (bq.to (w:=w)) (bq.le (w:=w)) Qt [] F [] a:=alU h
end
end
section
variable {β:Bool}
open Go.RowKit
structure alY (w:World) (ajF:List Nat) (fl:Nat->Bool) (ty:TypeId) (S:Nat->Prop) where
 to:World
 st:Nat
 ok:jm (λb=>0<st/\S b) w to
 lim:st<=ajF.length
section
variable {w:World} {ajF:List Nat} {fl:Nat->Bool} {ty:TypeId} {S:Nat->Prop}
instance arn:Nonempty (alY w ajF fl ty S):=⟨⟨w,0,jm.refl _ _,fb _⟩⟩
instance aub:aY (alY w ajF fl ty S):=⟨λ_ _=>True,λ_ _ _=>trivial,λi x=>∀k,ajF[k]?=some i->x.st<=k⟩
variable {P:Program} {ops:Array Oper} {Qt:Act->World->Prop} {i:Nat} {o:Oper} {L:List (Nat×Oper)} {F:List (Nat×(alY w ajF fl ty S->Prop))} {Rs:List (gV (alY w ajF fl ty S))} {a:Act}
end
end
section
variable {β:Bool}
open Go.RowKit
def aaM(n a b:Int)(w:World) :
  Calls (aj β) 25 #[.int .i64 n,.int .i64 a,.int .i64 b] w λe d=>e=.returned (.bool (decide (a<=n)&&decide (n<=b)))/\w=d:=by
 by_cases h:a<=n
 .go_enter xl,ntmps25;go_wp2;go_ret;exact⟨by simp[h],rfl⟩
 .go_enter xl,ntmps25;go_wp2;go_ret;have c:decide (a<=n)=false:=by simpa using h
  exact⟨by rw[c];rfl,rfl⟩
def adO(n a b:Int)(d:a<=n)(f:n<=b)(w:World) :
  Calls (aj β) 25 #[.int .i64 n,.int .i64 a,.int .i64 b] w λe c=>e=.returned (.bool true)/\w=c:=
 (aaM n a b w).mono λe c ⟨he,hw⟩=>⟨by rw[he];simp[d,f],hw⟩
def agw(n a b:Int)(h:¬(a<=n/\n<=b))(w:World) :
  Calls (aj β) 25 #[.int .i64 n,.int .i64 a,.int .i64 b] w λe c=>e=.returned (.bool false)/\w=c:=
 (aaM n a b w).mono λe c ⟨he,hw⟩=>⟨by
  rw[he];have:(decide (a<=n)&&decide (n<=b))=false:=by rw[<-Bool.decide_and];simpa using h
  rw[this],hw⟩
end
section
variable {β:Bool}
open Go.RowKit
def afj(xs:List Int)(n:Int)(A:Option Addr)(m c:Nat)(w:World)(r p:Nat)(h:cJ gu 1 w r p xs [.slice A m c]) :
  Calls (aj β) 24 #[.slice A m c,.int .i64 n] w λe o=>e=.returned (.bool (decide (n∈xs)))/\w=o:=by
 obtain⟨rfl,t,q⟩:=h.len_;unfold maxLen at q;go_enter zj,ntmps24;go_wp2
 go_loop [5] (λi=>∃k:Nat,k<=xs.length/\i=.int .i64 k/\n∉xs.take k) (λi=>xs.length-(intOf i).toNat)
 case atStart=>exact⟨0,fb _,rfl,by simp⟩
 case round=>
  obtain⟨k,s,rfl,d⟩:=hrel;replace d:=ab d;by_cases f:k<xs.length
  .obtain⟨x,a⟩:=ar f;obtain⟨b,l,rfl,_,_,_,g⟩:=h.ints_at a;replace a:=ab a;by_cases j:x=n
   .subst j;go_wp2;go_ret;exact⟨ak (by simp[da a.out]),rfl⟩
   .go_wp2
    go_round
    case rel=>exact⟨k+1,by omega,by go_num,by rw[kw a.out];simp[d.out,rY j]⟩
    simp[intOf];omega
  .obtain rfl:k=xs.length:=by omega
   go_wp2;go_ret;exact⟨ak (by have:=d.out;rw[fd] at this;simp[this]),rfl⟩
def ar3(F:FuncId):Prop:=∀(args:Array Value) (w:World),(callFunc F args).run (aj β) w=.ok (.enter F args) w
def avg{fn:Func}{c:Code}(b:(aj β).funcs[f]?=some fn)(a:(fn.name == "runtime.NumGoroutine")=false)(e:fn.body=some c):ar3 (β:=β) f:=by
 intro args w;have d:fn.name ≠ "runtime.NumGoroutine" :=by simpa using a
 simp[callFunc,b,d,e]
def apf:((aj β).info? 3).map (λi=>(i.zero,i.size,i.bytes))=some (some (.int .i64 0),1,8):=by kernel_rfl
def adP(xs f:List Int)(s t:Value)(w:World)(G E lo' hi':Nat)(p:cJ gu 1 w G E xs [s])(r:cJ gu 1 w lo' hi' f [t]) :
  Calls (aj β) 183 #[s,t] w λe v=>e=.returned (.bool (decide (xs=f)))/\∃n,v=w.drewN n:=by
 obtain⟨A,c,rfl⟩:=p.form;obtain⟨M,K,rfl⟩:=r.form;obtain⟨_,J,F⟩:=p.len_;unfold maxLen at F;by_cases a:xs.length=f.length
 .have C:((xs.length:Int) !=f.length)=false:=by rw[pJ];omega
  replace a:=ab a;go_enter wC,ntmps183;go_wp2;go_loopw [5] (λi wr=>∃k:Nat,k<=xs.length/\i=.int .i64 k/\xs.take k=f.take k/\∃n,wr=w.drewN n) (λi _=>xs.length-(intOf i).toNat)
  case atStart=>exact⟨0,fb _,rfl,rfl,0,rfl⟩
  case round=>
   obtain⟨k,I,rfl,m,n,rfl⟩:=hrel;replace m:=ab m;by_cases o:k<xs.length
   .obtain⟨x,g⟩:=ar o;obtain⟨y,j⟩:=ar (l:=f) (k:=k) (by have:=a.out;omega);obtain⟨b,D,rfl,_,_,_,q⟩:=p.ints_at g;obtain⟨L,H,rfl,_,_,_,z⟩:=r.ints_at j;have B:(k:Int)<(f.length:Int):=by have:=a.out;omega
    replace g:=ab g;replace j:=ab j;by_cases d:x=y
    .have u:(x !=y)=false:=by rw[pJ];exact d
     replace d:=ab d;go_wp2
     go_quiet (fail)
     go_wp2;go_roundw
     case rel=>exact⟨k+1,by omega,by go_num,by rw[kw g.out,kw j.out,m.out,d.out],_,rfl⟩
     simp[intOf];omega
    .have u:(x !=y)=true:=by rw[qI];exact d
     replace d:=ab d;go_wp2
     go_quiet (fail)
     go_wp2;go_ret;exact⟨ak (by symm;rw[decide_eq_false_iff_not];rintro rfl;exact d.out (de (g.out.symm.trans j.out))),by first|exact⟨_,rfl⟩|exact⟨_,World.drewN_drewN _ _ _⟩⟩
   .obtain rfl:k=xs.length:=by omega
    go_wp2;go_ret;exact⟨ak (by symm;rw[decide_eq_true_iff];have:=m.out;rw[fd,nf (by have:=a.out;omega)] at this;exact this),n,rfl⟩
 .have C:((xs.length:Int) !=f.length)=true:=by rw[qI];omega
  replace a:=ab a;go_enter wC,ntmps183;go_wp2;go_ret;exact⟨ak (by symm;simp;intro e;exact a.out (by rw[e])),0,rfl⟩
end
section
variable {β:Bool}
open Go.RowKit
def agx(n a c:Int)(w:World)(b:Bool)(f:b=true↔a<=n/\n<=c) :
  Calls (aj β) 25 #[.int .i64 n,.int .i64 a,.int .i64 c] w λe d=>e=.returned (.bool b)/\w=d:=
 (aaM n a c w).mono λe d ⟨h,hw⟩=>⟨by
  rw[h];have:(decide (a<=n)&&decide (n<=c))=b:=by rw[oE,f];simp
  rw[this],hw⟩
end
section
variable {β:Bool}
open Go.RowKit
def apg(h:w.cell? p=some v){S:Nat->Prop}(c:jm S w w')(b:¬S p.block):w'.cell? p=some v:=by
 have a:=uG w p h;unfold World.cell? at h ⊢;rw[c.block p.block a b];exact h
end
section
variable {β:Bool}
open Go.RowKit
structure It where
 n:Int
 b:ByteArray
structure Pk where
 no:Int
 its:List It
def FIt:Flat It:=⟨2,λx=>[.int .i64 x.n,.string x.b],λx=>fg x.n/\x.b.size<=maxLen,λ_=>rfl,λx u a=>by simp at a;rcases a with rfl|rfl<;>rfl,by decide⟩
abbrev gX:eX (List It):=mr 64 (cy FIt) 2
def RPk:eX Pk:=λw a b x c=>∃v,c=[.int .i64 x.no,v]/\fg x.no/\gX w a b x.its [v]
abbrev gO:eX (List Pk):=mr 40 RPk 2
def gX.aK:fO gX [64]:=mr.aK (cy.aK FIt)
def RPk.aK:fO RPk [64]:=⟨λh a b ⟨v,e,i,hr⟩=>⟨v,e,i,gX.aK.go h a b hr⟩⟩
def gO.aK:fO gO [40,64]:=mr.aK RPk.aK
def acd{xs:List Pk}(h:gO w Z Y xs [.slice A n c]){x:Pk}(i:xs[k]?=some x) :
  ∃b a A' d,A=some ⟨b,a,none⟩/\Z<=b/\b<Y/\fg x.no/\w.cell? ⟨b,a+k*2,none⟩=some (.int .i64 x.no)/\w.cell? ⟨b,a+k*2+1,none⟩=some (.slice A' x.its.length d)/\gX w Z Y x.its [.slice A' x.its.length d]:=by
 obtain⟨b,a,m,rfl,j,g,l,⟨v,rfl,e,Y⟩,f⟩:=h.1.at_ i;obtain⟨A',d,rfl⟩:=Y.form;exact⟨b,a,A',d,rfl,j,g,e,by simpa using f 0 _ rfl,f 1 _ rfl,Y⟩
def ace{xs:List It}(h:gX w Z Y xs [.slice A n c]){x:It}(g:xs[k]?=some x) :
  ∃b a,A=some ⟨b,a,none⟩/\Z<=b/\b<Y/\(fg x.n/\x.b.size<=maxLen)/\w.cell? ⟨b,a+k*2,none⟩=some (.int .i64 x.n)/\w.cell? ⟨b,a+k*2+1,none⟩=some (.string x.b):=by
 obtain⟨b,a,l,rfl,i,f,j,⟨rfl,d⟩,e⟩:=h.1.at_ g;exact⟨b,a,rfl,i,f,d,by simpa using e 0 _ rfl,e 1 _ rfl⟩
def mr.len_{E:eX X}(h:mr e E Z w Y T xs [.slice A n c]):n=xs.length/\n<=c/\c<=maxLen:=h.1.len_
def aph(p:Pk):List Sp:=p.its.map λx=>⟨x.n,p.no⟩
def acf(l:List Pk):List Sp:=l.flatMap aph
end
section
variable {β:Bool}
open Go.RowKit
def ar4{α:Type}(F:Flat α)(te:TypeId)(w:World)(xs:List α)(e:Ending)(w':World):Prop:=∃v,e=.returned v/\aQ F te w' w.heap.size v xs/\Below w.heap.size w w'
def jq (t e:TypeId) (z:Value) (f a:Nat) (j:P.underlying t=some (.slice e)) (c:(P.info? e).map (λi=>(i.zero,i.size,i.bytes))=some (some z,f,a))
  (n:Nat) (b:a*n<=281474976710656) (o:n<=9223372036854775807) (w:World) :
  (Instr.makeSlice t (.int .i64 (n:Int)) (.int .i64 (n:Int))).run P w=.ok (.slice (some ⟨w.heap.size,0,none⟩) n n) (w.alloc (.cells (madeCells z.cells (n*f)) e)):=by
 obtain⟨i,m,p,l,k⟩:=info_parts c;have d:(i.bytes:Int)*(n:Int)<=281474976710656:=by
  have h:((i.bytes*n:Nat):Int)<=281474976710656:=by rw[k];omega
  rwa [Int.natCast_mul] at h
 have g:=run_make (P:=P) w t e i z j m p .i64 .i64 n n (by omega) (ui _) d (by omega);simp only[rS,l] at g;exact g
def Pre.own{F:Flat X}{base:Nat}(h:Pre w g e (xs.length*F.sz) (dt F xs))(k:base<=g)(c:xs.length<=maxLen):aQ F e w base (.slice (some ⟨g,0,none⟩) xs.length xs.length) xs:=by
 obtain⟨f,d,i,l⟩:=h;refine⟨eG F xs,.inr ⟨g,xs.length,f,rfl,k,d,ap _,c,i, ?_⟩⟩;apply tD;intro j;rw[qA];by_cases b:j<xs.length*F.sz
 .rw[dj b];have a:j<(dt F xs).length:=by rw[eG];exact b
  rw[io a,<-l j _ (io a)];simp
 .rw[bd b,qM (by rw[eG];omega)]
end
section
variable {β:Bool}
open Go.RowKit
section
variable {α:Type} {E:eX α} {T:List TypeId} {sz:Nat} {e:TypeId}
def Els(E:eX α)(sz:Nat)(w:World)(lo hi:Nat)(xs:List α)(cells:List Value):Prop:=
 cells.length=xs.length*sz/\(∀u∈cells,u.oneCell'=true)/\∃m:Nat->Nat,(∀i,m i<=m (i+1))/\lo<=m 0/\m xs.length<=hi/\
  ∀i x,xs[i]?=some x->∃a:List Value,a.length=sz/\E w (m i) (m (i+1)) x a/\∀j u,a[j]?=some u->cells[i*sz+j]?=some u
def dM{m:Nat->Nat}(h:∀i,m i<=m (i+1)){i:Nat}:∀{j:Nat},i<=j->m i<=m j
 |0,hj=>by obtain rfl:i=0:=by omega
           exact ap _
 |j+1,hj=>by
  by_cases a:i=j+1
  .rw[a];exact ap _
  .exact am (dM h (show i<=j by omega)) (h j)
def Els.nil(h:Z<=Y):Els E sz w Z Y [] []:=⟨by simp,λ_ h=>(by cases h),λ_=>Z,λ_=>ap _,ap _,h,λi x h=>by simp at h⟩
def Els.go(g:fO E T){lo' hi' : Nat}{xs:List α}(h:Els E sz w Z Y xs W)(k:∀b,Z<=b->b<Y->uX w T b->w'.heap[b]?=w.heap[b]?)(t:lo'<=Z)(r:Y<=hi'):Els E sz w' lo' hi' xs W:=by
 obtain⟨a,b,m,c,q,s,o⟩:=h;refine⟨a,b,m,c,by omega,by omega,λi x Y=> ?_⟩;obtain⟨j,l,f,n⟩:=o i x Y;have d:=aH Y;have v:=dM c (fb i);have y:=dM c (show i+1<=xs.length by omega);exact⟨j,l,g.go (λb p u e=>k b (by omega) (by omega) e) (ap _) (ap _) f,n⟩
def Els.snoc{xs:List α}(h:Els E sz w Z Y xs W){y:α}{es:List Value}(o:es.length=sz)(C:∀u∈es,u.oneCell'=true)(I:Y<=c)(F:E w Y c y es)(D:∀a b,a<=Y->E w Y c y es->E w a b y es->True:=λ_ _ _ _ _=>trivial):Lcy E->Els E sz w Z c (xs++[y]) (W++es):=by
 intro k;clear D;obtain⟨a,b,m,p,s,t,H⟩:=h;refine⟨by rw[gn,gn,a,o,rj,Nat.add_mul,Nat.one_mul],λu e=> ?_,λi=>if i<=xs.length then m i else c,λi=> ?_, ?_, ?_,λi x d=> ?_⟩
 .rcases jt.1 e with e|e
  .exact b u e
  .exact C u e
 .show(if i<=xs.length then m i else c)<=(if i+1<=xs.length then m (i+1) else c);by_cases q:i+1<=xs.length
  .rw[dj q,dj (by omega)];exact p i
  .rw[bd q];by_cases l:i<=xs.length
   .rw[dj l];have:=dM p l;omega
   .rw[bd l];exact ap _
 .show Z<=(if 0<=xs.length then m 0 else c);rw[dj (fb _)];exact s
 .show(if(xs++[y]).length<=xs.length then _ else c)<=c;rw[bd (by rw[gn,rj];omega)];exact ap _
 .rcases mx i xs.length with g|r
  .rw[pV g] at d;obtain⟨n,B,A,G⟩:=H i x d;refine⟨n,B, ?_,λj u e=> ?_⟩
   .show E w (if i<=xs.length then m i else c) (if i+1<=xs.length then m (i+1) else c) x n;rw[dj (by omega),dj (by omega)];exact A
   .have J:=aH e;have z:(i+1)*sz<=xs.length*sz:=rm _ g;rw[sg] at z;rw[pV (by omega)];exact G j u e
  .rw[pK r] at d;have v:i-xs.length=0:=by have:=aH d;simp at this;omega
   rw[v] at d;simp at d;subst d;have f:i=xs.length:=by omega
   refine⟨es,o, ?_,λj u e=> ?_⟩
   .show E w (if i<=xs.length then m i else c) (if i+1<=xs.length then m (i+1) else c) y es;rw[dj (by omega),bd (by omega),f];exact k.wide F t (ap _)
   .rw[f,pK (by omega),a,rz];exact e
def Els.at_(L:fO E T){xs:List α}(h:Els E sz w Z Y xs W){x:α}(v:xs[i]?=some x) :
  ∃m l g,Z<=m/\m<=l/\l<=Y/\g.length=sz/\E w m l x g/\(∀j u,g[j]?=some u->W[i*sz+j]?=some u)/\
   ∀(n:World) (y:α) (d:List Value),d.length=sz->(∀u∈d,u.oneCell'=true)->(∀b,Z<=b->b<Y->uX w T b->¬(m<=b/\b<l)->n.heap[b]?=w.heap[b]?)->E n m l y d->
    ∀c:List Value,c.length=W.length->(∀k,¬(i*sz<=k/\k<i*sz+sz)->c[k]?=W[k]?)->(∀j u,d[j]?=some u->c[i*sz+j]?=some u)->(∀u∈c,u.oneCell'=true)->Els E sz n Z Y (xs.set i y) c:=by
 obtain⟨a,b,m,e,B,C,A⟩:=h;have p:=aH v;obtain⟨g,Q,K,R⟩:=A i x v;have l1:=dM e (fb i);have l2:=dM e (show i+1<=xs.length by omega);refine⟨m i,m (i+1),g,by omega,e i,by omega,Q,K,R,λn y d M X O N c F r q s=>⟨by rw[F,a,qY],s,m,e,B,by rw[qY];exact C,λk z f=> ?_⟩⟩;by_cases o:i=k
 .subst o;rw[rG p] at f;cases f;exact⟨d,M,N,q⟩
 .rw[rU o] at f;obtain⟨H,J,I,P⟩:=A k z f;have D:=aH f;have S:=dM e (fb k);have k2:=dM e (show k+1<=xs.length by omega);refine⟨H,J,L.go (λb U b2 G=>O b (by omega) (by omega) G λV=> ?_) (ap _) (ap _) I,λj u t=> ?_⟩
  .rcases Nat.lt_or_gt_of_ne o with h|h
   .have:=dM e (show i+1<=k by omega);omega
   .have:=dM e (show k+1<=i by omega);omega
  .rw[r _ (by
    have hj:=aH t;rcases Nat.lt_or_gt_of_ne o with h|h
    .have:(i+1)*sz<=k*sz:=rm _ h;rw[sg] at this;omega
    .have:(k+1)*sz<=i*sz:=rm _ h;rw[sg] at this;omega)]
   exact P j u t
def dL(e:TypeId)(E:eX α)(sz:Nat):eX (List α):=λw b c a d=>
 ∃(v:Value) (cells:List Value),d=[v]/\w.ownsRow b e sz v a.length cells/\(∀g,v.ownBlock=some g->g<c)/\Els E sz w b c a cells
def dL.form{xs:List α}(h:dL e E sz w Z Y xs [v]):∃A c,v=.slice A xs.length c:=by
 obtain⟨b,cells,a,h,_⟩:=h;cases a;exact kW h
def dL.aK(o:fO E T):fO (dL e E sz) (e::T):=by
 refine⟨?_⟩;intro w x B z s u y A l n j h;obtain⟨v,cells,rfl,i,m,f⟩:=h;refine⟨v,cells,rfl,⟨i.1, ?_⟩,λg a=>aE (m g a) j,f.go o (λb p q ⟨t,ht,hd⟩=>l b p q ⟨t,qq _ ht,hd⟩) n j⟩;rcases i.2 with r|⟨g,cap,c,rfl,k,a,d⟩
 .exact .inl r
 .refine .inr ⟨g,cap,c,rfl,am n k, ?_,d⟩;rw[l g k (m g rfl) ⟨e,qz,c,a⟩];exact a
def dL.sl{k:eX α}(d:Lcy k)(H:∀{w:World} {Z Y:Nat} {x:α} {b:List Value},E w Z Y x b->k w Z Y x b){xs:List α}(h:dL e E sz w Z Y xs cs):cJ k sz w Z Y xs cs:=by
 obtain⟨v,cells,rfl,z,t,a,_,m,o,J,K,I⟩:=h;obtain⟨_,q⟩:=z;rcases q with⟨rfl,r⟩|⟨g,cap,l,rfl,s,B,n,f,D,y⟩
 .exact⟨none,0,by rw[r],by omega,by unfold maxLen;omega,λL=>by omega⟩
 .refine⟨_,cap,rfl,n,f,λ_=>⟨g,0,rfl,s,t g rfl,λi x Y=> ?_⟩⟩;obtain⟨b,F,A,G⟩:=I i x Y;have p:=aH Y;have M:=dM o (fb i);have N:=dM o (show i+1<=xs.length by omega);refine⟨b,F,d.wide (H A) (by omega) (by omega),λj u C=> ?_⟩;have c:=G j u C;rw[<-y,qA] at c;split at c
  .rw[cell_of_row w g (0+i*sz+j) l _ (0,0) B,pb];simpa using c
  .cases c
def dL.slT{f:eX α}(a:Lcy f)(o:∀{w:World} {Z Y:Nat} {x:α} {i:List Value},E w Z Y x i->f w Z Y x i){xs:List α}(h:dL e E sz w Z Y xs cs):mr e f sz w Z Y xs cs:=by
 refine⟨h.sl a o,λq b l n c j=> ?_⟩;obtain⟨v,cells,rfl,p,r,_⟩:=h;simp only[qy,qn] at j;subst j;rcases p.2 with⟨d,_⟩|⟨g,cap,k,d,_,m,_⟩
 .cases d
 .cases d;exact⟨_,m⟩
def dL.put(Q:fO E T)(L:e∉T){xs:List α}(h:dL e E sz w Z Y xs [.slice (some ⟨g,0,none⟩) n c]){x y:α}(N:xs[i]?=some x)(hj:j<sz)(U:u.oneCell'=true)(W:∀(O:World) (Z Y:Nat) (s:List Value),E O Z Y x s->E O Z Y y (s.set j u)) :
  dL e E sz (w.setCell ⟨g,i*sz+j,none⟩ u) Z Y (xs.set i y) [.slice (some ⟨g,0,none⟩) n c]:=by
 obtain⟨v',cells,F,D,V,o⟩:=h;cases F;obtain⟨A,c',C⟩:=kW D;cases C;have G:=aH N;have J:=(D.stored (i*sz+j) u).1;obtain⟨m,m',s,l1,l2,l3,F,C,X,K⟩:=o.at_ Q N;have I:¬uX w T g:=λ⟨t,l,ds,hd⟩=>by
  rcases D.2 with⟨H,_⟩|⟨g',cap,S,H,_,P,_⟩
  .cases H
  .cases H;exact L (aaL P hd▸l)
 have z:∀b,uX w T b->(w.setCell ⟨g,i*sz+j,none⟩ u).heap[b]?=w.heap[b]?:=λb l=>nF _ _ _ _ (by rintro rfl;exact I l);have d:∀v∈cells.set (i*sz+j) u,v.oneCell'=true:=λv q=>by
  rcases List.mem_or_eq_of_mem_set q with q|rfl
  .exact o.2.1 v q
  .exact U
 have p:∀f B,(s.set j u)[f]?=some B->(cells.set (i*sz+j) u)[i*sz+f]?=some B:=λf B a=>by
  by_cases r:j=f
  .subst r;rw[rG (by omega)] at a;rw[rG (by
    have R:(i+1)*sz<=xs.length*sz:=rm _ G;rw[sg] at R;rw[o.1];omega)]
   exact a
  .rw[rU r] at a;rw[rU (by omega)];exact X f B a
 refine⟨_,cells.set (i*sz+j) u,rfl,by rw[qY];exact J,V,K _ y (s.set j u) (by rw[qY];exact F) (λv q=> ?_) (λb b1 b2 l _=>z b l) (W _ _ _ _ (Q.go (λb _ _ l=>z b l) (ap _) (ap _) C)) _ (by rw[qY]) (λk P=> ?_) p d⟩
 .obtain⟨f,M⟩:=qS q;exact d v (da (p f v M))
 .rw[rU (by omega)]
def eI(e:TypeId)(E:eX α)(sz N:Nat)(w:World)(lo g hi:Nat)(xs:List α):Prop:=∃cells,Pre w g e N cells/\lo<=g/\g<hi/\Els E sz w lo hi xs cells
def eI.own{xs:List α}(h:eI e E sz (xs.length*sz) w Z g Y xs)(l:xs.length<=maxLen):dL e E sz w Z Y xs [.slice (some ⟨g,0,none⟩) xs.length xs.length]:=by
 obtain⟨cells,⟨n,m,k,p⟩,o,f,a⟩:=h;refine⟨_,cells,rfl,⟨a.1,.inr ⟨g,xs.length,n,rfl,o,m,ap _,l,k, ?_⟩⟩,λb i=>by cases i;exact f,a⟩;apply tD;intro j;rw[qA];have q:=a.1;by_cases d:j<xs.length*sz
 .rw[dj d];have c:j<cells.length:=by omega
  rw[io c,<-p j _ (io c)];simp
 .rw[bd d,qM (by omega)]
def eI.ahH(l:fO E T)(k:e∉T){xs:List α}(h:eI e E 2 Z w Y g c xs){y:α}{u0 u1:Value}(A:u0.oneCell'=true)(C:u1.oneCell'=true)(v:c<=b)(s:E w c b y [u0,u1])(G:xs.length*2+2<=Z) :
  eI e E 2 Z ((w.setCell ⟨g,xs.length*2,none⟩ u0).setCell ⟨g,xs.length*2+1,none⟩ u1) Y g b (xs++[y]):=by
 obtain⟨cells,m,z,F,f⟩:=h;have r:=f.1;have x:=m.push u0 (by omega);have n:=x.push u1 (by rw[gn,rj];omega);rw[gn,rj,r] at n;have j:¬uX w T g:=λ⟨t,a,D,hd⟩=>by
  obtain⟨B,p,_⟩:=m;exact k (aaL p hd▸a)
 have i:∀b,uX w T b->((w.setCell ⟨g,xs.length*2,none⟩ u0).setCell ⟨g,xs.length*2+1,none⟩ u1).heap[b]?=w.heap[b]?:=λb a=>by
  have d:b≠g:=by rintro rfl;exact j a
  rw[nF _ _ _ _ d,nF _ _ _ _ d]
 refine⟨cells++[u0,u1], ?_,z,by omega, ?_⟩
 .rw[show cells++[u0,u1]=cells++[u0]++[u1] by simp];exact n
 .have q:=Els.snoc (E:=E) (f.go (lo':=Y) (hi':=c) l (λb _ _ a=>i b a) (ap _) (ap _)) (y:=y) (es:=[u0,u1]) rfl (λu o=>by simp at o;rcases o with rfl|rfl<;>assumption) v (l.go (λb _ _ a=>i b a) (ap _) (ap _) s);exact q l.loc
def eI.chg(d:fO E T){xs:List α}(h:eI e E sz Z w Y g b xs)(c:Below w.heap.size w w')(k:b<=w.heap.size):eI e E sz Z w' Y g b xs:=by
 obtain⟨cells,f,i,j,a⟩:=h;exact⟨cells,f.chg (jm.adD (S:=λ_=>False) c) (λh=>h),i,j,a.go d (λb _ l _=>c.block b (by omega)) (ap _) (ap _)⟩
def eI.frozen{xs:List α}(h:eI e E sz Z w Y g b xs)(j:Nat):w.frozen? ⟨g,j,none⟩=false:=by
 obtain⟨cells,a,_⟩:=h;exact a.frozen j
def eI.there{xs:List α}(h:eI e E sz Z w Y g b xs)(c:j<Z):∃u,w.cell? ⟨g,j,none⟩=some u:=by
 obtain⟨cells,a,_⟩:=h;exact a.there c
def eI.new(e:TypeId)(E:eX α)(sz:Nat)(w:World)(cs:Array Value):eI e E sz cs.size (w.alloc (.cells cs e)) w.heap.size w.heap.size (w.alloc (.cells cs e)).heap.size []:=
 ⟨[],Pre.new _ _ _,ap _,by simp,Els.nil (by simp)⟩
end
def aQ.ayN{F:Flat X}{base : Nat}(h:aQ F e w base v xs)(b:∀x∈xs,F.good x)(c:base<=Z)(a:∀g,v.ownBlock=some g->g<Z):dL e (cy F) F.sz w base Z xs [v]:=
 ⟨v,dt F xs,rfl,h,a,eG F xs,abJ F xs,λ_=>base,λ_=>ap _,ap _,c,λi x Z=>⟨F.cells x,F.len x,⟨rfl,b x (da Z)⟩,λ_ _ d=>fZ F xs i _ x _ Z d⟩⟩
end
section
variable {β:Bool}
open Go.RowKit
def bs(s:ByteArray):List Nat:=s.data.toList.map UInt8.toNat
def aL(s:ByteArray):(bs s).length=s.size:=by
 unfold bs;rw[pr,qH];rfl
def mQ(h:k<s.size):(bs s)[k]?=some (s[k]'h).toNat:=by
 unfold bs;rw[qm,dl];have:s.data[k]?=some (s.data[k]'h):=ff h;rw[this];rfl
def api :∀b∈bs s,b<256:=λb a=>by
 obtain⟨u,_,rfl⟩:=lP.1 a;exact u.toNat_lt
def iZ{t : ByteArray}(h:bs s=bs t):s=t:=by
 have e:s.data.toList=t.data.toList:=by
  unfold bs at h;generalize s.data.toList=a at *;generalize t.data.toList=b at *
  induction a generalizing b with
  |nil=>cases b with
   |nil=>rfl
   |cons y b=>cases h
  |cons x a d=>cases b with
   |nil=>cases h
   |cons y b=>
    simp only[qo,qy] at h;rw[rL.1 h.1,d b h.2]
 have c:s.data=t.data:=tS.1 e;cases s;cases t;simp only at c;rw[c]
def jr(s t:ByteArray):bs (s++t)=bs s++bs t:=by
 unfold bs;rw[<-pI,<-nq]
 congr 2
 simp
def cq(s:ByteArray)(a b:Nat):bs (s.extract a b)=((bs s).take b).drop a:=by
 unfold bs;simp only[uO,sR,uw];rw[<-List.map_take,<-List.map_drop]
 congr 1
 rw[List.take_drop];by_cases h:a<=b
 .congr 2;omega
 .have:b-a=0:=by omega
  rw[this,rH (by simp;omega),rH (by simp;omega)]
def mR{t : ByteArray}(h:¬t=s):(t.toList ==s.toList)=false:=by
 refine jp.2 λe=>h ?_;rw[qj,qj] at e;have a:t.data=s.data:=tS.1 e;cases s;cases t;simp only at a;rw[a]
def mC(b:Nat):Bool:=decide (97<=b)&&decide (b<=122)
def aX(l:List Nat):Prop:=(1<=l.length/\l.length<=8)/\l.all mC=true
def dE:List Nat->Nat->Nat
 |[],n=>n
 |b::l,n=>dE l (27*n+(b-97)+1)
def code(l:List Nat):Nat:=dE l 0
def cg(key:Int)(l:List Nat):Int:=((code l:Int)*(2*key+1)+key*7919) % 999999999989
def bU(n:Nat):Nat:=if n=0\/8<n then 0 else if n<=2 then 2 else if n<=4 then 4 else 8
def fA(l:List Nat):List Nat:=l++List.replicate (bU l.length-l.length) 46
def fj:∀(a b:List Nat) (n:Nat),dE (a++b) n=dE b (dE a n)
 |[],_,_=>rfl
 |x::a,b,n=>by show dE (a++b) _=dE b (dE a _);rw[fj a b]
def adQ:∀(l:List Nat) (n:Nat),l.all mC=true->dE l n<(n+1)*27 ^ l.length
 |[],n,_=>by show n<_;simp
 |b::l,n,h=>by
  simp only[pM,eg] at h;have a:=adQ l (27*n+(b-97)+1) h.2;have c:b<=122:=by have:=h.1;unfold mC at this;simp at this;exact this.2
  show dE l _<_;refine aE a ?_;rw[mp,Nat.pow_succ,uB (27 ^ l.length) 27,<-Nat.mul_assoc];exact rm _ (by omega)
def aaP{l:List Nat}(h:aX l):code l<282429536481:=by
 have a:=adQ l 0 h.2;unfold code;have b:27 ^ l.length<=27 ^ 8:=uY (by omega) h.1.2;have e:(27:Nat) ^ 8=282429536481:=by decide
 omega
def afk{l:List Nat}(h:l[k]?=some b):code (l.take (k+1))=27*code (l.take k)+(b-97)+1:=by
 unfold code;rw[kw h,fj];rfl
def anj:∀{a b:List Nat},a.all mC=true->b.all mC=true->dE a 0=dE b 0->a=b:=by
 intro a
 induction a using nH with
 |h0=>
  intro b _ c h
  induction b using nH with
  |h0=>rfl
  |h1 l x _=>rw[fj] at h;show[]=_;exfalso;have:dE [x] (dE l 0)=27*dE l 0+(x-97)+1:=rfl;have h0:dE [] 0=0:=rfl;omega
 |h1 l x g=>
  intro b d c h
  induction b using nH with
  |h0=>rw[fj] at h;exfalso;have:dE [x] (dE l 0)=27*dE l 0+(x-97)+1:=rfl;have h0:dE [] 0=0:=rfl;omega
  |h1 m y _=>
   rw[sE] at d c;simp only[eg,pM,uD,tN] at d c;rw[fj,fj] at h;have i:dE [x] (dE l 0)=27*dE l 0+(x-97)+1:=rfl;have j:dE [y] (dE m 0)=27*dE m 0+(y-97)+1:=rfl;have f:=d.2;have e:=c.2;unfold mC at f e;simp at f e;have:dE l 0=dE m 0/\x=y:=by omega
   rw[g d.1 c.1 this.1,this.2]
def ahI{key:Int}{l:List Nat}:0<=cg key l/\cg key l<=999999999988:=by
 unfold cg;omega
def cQ(l:List Nat):Nat->Nat
 |0=>0
 |n+1=>if l[n]?=some 46 then cQ l n else n+1
def sx(l:List Nat):List Nat:=l.take (cQ l l.length)
def abL(l:List Nat):∀n,cQ l n<=n
 |0=>ap _
 |n+1=>by
  unfold cQ;split
  .exact Nat.le_succ_of_le (abL l n)
  .exact ap _
open Classical in
noncomputable def cF(l:List Nat):Option (List Nat):=if aX (sx l)/\fA (sx l)=l then some (sx l) else none
def nM :bU n<=8/\(n<=8->n<=bU n):=by
 unfold bU;split<;>(try split)<;>(try split)<;>omega
def ahJ{l:List Nat}(h:aX l):(fA l).length=bU l.length:=by
 unfold fA;rw[gn,pL];have:=nM.2 h.1.2;omega
def ank{l:List Nat}(h:aX l):sx (fA l)=l:=by
 have c:∀m,cQ (fA l) (l.length+m)=l.length\/l.length+m>(fA l).length:=by
  intro m
  induction m with
  |zero=>
   left;obtain⟨k,f⟩:∃k,l.length=k+1:=⟨l.length-1,by have:=h.1.1;omega⟩;rw[rI,f];unfold cQ;rw[bd];unfold fA;rw[pV (by omega)];intro e;have:=ip.1 h.2 46 (da e);simp[mC] at this
  |succ m b=>
   by_cases a:l.length+m<(fA l).length
   .rcases b with b|b
    .left;show cQ (fA l) (l.length+m+1)=_;unfold cQ;rw[dj,b];unfold fA at a ⊢;rw[gn,pL] at a;rw[pK (by omega),tu,dj (by omega)]
    .omega
   .right;omega
 have d:l.length<=(fA l).length:=by unfold fA;simp
 have:=c ((fA l).length-l.length);rw[Nat.add_sub_cancel' d] at this;unfold sx;rw[this.resolve_right (by omega)];unfold fA;rw[List.take_left]
def ahK{l:List Nat}(h:aX l):cF (fA l)=some l:=by
 unfold cF;rw[ank h,dj ⟨h,rfl⟩]
def qE(l:List Nat):ByteArray:=⟨(l.map UInt8.ofNat).toArray⟩
def adR{l:List Nat}(h:∀b∈l,b<256):bs (qE l)=l:=by
 unfold bs qE;simp only[th]
 conv=>rhs;rw[<-List.map_id l]
 refine ue λb a=> ?_;have:=h b a;simp[UInt8.toNat_ofNat,Nat.mod_eq_of_lt this]
def auc(s:ByteArray):qE (bs s)=s:=iZ (adR api)
def anl :∀b∈fA (bs s),b<256:=λb a=>by
 unfold fA at a;rcases jt.1 a with h|h
 .exact api b h
 .have:=List.eq_of_mem_replicate h;omega
def apj(s:ByteArray):bs (qE (fA (bs s)))=fA (bs s):=adR anl
end
section
variable {β:Bool}
open Go.RowKit
structure Ls where
 p:ByteArray
 ns:List Int
structure Sn where
 no:Int
 all:List Ls
structure Hd where
 b:Int
 s:Int
structure gC where
 pk:List Pk
 sn:List Sn
 lg:List Hd
def FHd:Flat Hd:=⟨2,λx=>[.int .i64 x.b,.int .i64 x.s],λx=>fg x.b/\fg x.s,λ_=>rfl,λx u a=>by simp at a;rcases a with rfl|rfl<;>rfl,by decide⟩
abbrev di:eX (List It):=cJ (cy FIt) 2
def anm:eX Pk:=λw a b x c=>∃v,c=[.int .i64 x.no,v]/\fg x.no/\di w a b x.its [v]
abbrev cK:eX (List Pk):=cJ anm 2
def ann:eX Ls:=λw a b x c=>∃v,c=[.string x.p,v]/\x.p.size<=maxLen/\cJ gu 1 w a b x.ns [v]
abbrev bK:eX (List Ls):=cJ ann 2
def ano:eX Sn:=λw a b x c=>∃v,c=[.int .i64 x.no,v]/\fg x.no/\bK w a b x.all [v]
abbrev dm:eX (List Sn):=cJ ano 2
abbrev eh:eX (List Hd):=cJ (cy FHd) 2
def di.loc:Lcy di:=cJ.loc (cy.loc FIt)
def anm.loc:Lcy anm:=⟨λh a b ⟨v,e,i,hr⟩=>⟨v,e,i,di.loc.go h a b hr⟩⟩
def cK.loc:Lcy cK:=cJ.loc anm.loc
def jE.loc:Lcy (cJ gu 1):=cJ.loc gu.loc
def ann.loc:Lcy ann:=⟨λh a b ⟨v,e,i,hr⟩=>⟨v,e,i,jE.loc.go h a b hr⟩⟩
def bK.loc:Lcy bK:=cJ.loc ann.loc
def ano.loc:Lcy ano:=⟨λh a b ⟨v,e,i,hr⟩=>⟨v,e,i,bK.loc.go h a b hr⟩⟩
def dm.loc:Lcy dm:=cJ.loc ano.loc
def eh.loc:Lcy eh:=cJ.loc (cy.loc FHd)
abbrev acO:eX (List It):=dL 64 (cy FIt) 2
def OPk:eX Pk:=λw a b x c=>∃v,c=[.int .i64 x.no,v]/\fg x.no/\acO w a b x.its [v]
abbrev lI:eX (List Pk):=dL 40 OPk 2
abbrev aaQ:eX (List Int):=dL 3 (cy gv) 1
def acO.aK:fO acO [64]:=dL.aK (cy.aK FIt)
def OPk.aK:fO OPk [64]:=⟨λh a b ⟨v,e,i,hr⟩=>⟨v,e,i,acO.aK.go h a b hr⟩⟩
def lI.aK:fO lI [40,64]:=dL.aK OPk.aK
def aaQ.aK:fO aaQ [3]:=dL.aK (cy.aK gv)
def acO.l{x:List It}(h:acO w Z Y x cs):di w Z Y x cs:=dL.sl (cy.loc FIt) (λh=>h) h
def acO.t{x:List It}(h:acO w Z Y x cs):gX w Z Y x cs:=dL.slT (cy.loc FIt) (λh=>h) h
def OPk.l{x:Pk}(h:OPk w Z Y x cs):anm w Z Y x cs:=by
 obtain⟨v,e,i,a⟩:=h;exact⟨v,e,i,acO.l a⟩
def OPk.t{x:Pk}(h:OPk w Z Y x cs):RPk w Z Y x cs:=by
 obtain⟨v,e,i,a⟩:=h;exact⟨v,e,i,acO.t a⟩
def lI.l{x:List Pk}(h:lI w Z Y x cs):cK w Z Y x cs:=dL.sl anm.loc OPk.l h
def lI.t{x:List Pk}(h:lI w Z Y x cs):gO w Z Y x cs:=dL.slT RPk.aK.loc OPk.t h
def aaQ.l{x:List Int}(h:aaQ w Z Y x cs):cJ gu 1 w Z Y x cs:=dL.sl gu.loc (λh=>h) h
def OLs:eX Ls:=λw a b x c=>∃v,c=[.string x.p,v]/\x.p.size<=maxLen/\aaQ w a b x.ns [v]
abbrev agy:eX (List Ls):=dL 68 OLs 2
def OSn:eX Sn:=λw a b x c=>∃v,c=[.int .i64 x.no,v]/\fg x.no/\agy w a b x.all [v]
abbrev acP:eX (List Sn):=dL 35 OSn 2
abbrev agz:eX (List Hd):=dL 88 (cy FHd) 2
def OLs.aK:fO OLs [3]:=⟨λh a b ⟨v,e,i,hr⟩=>⟨v,e,i,aaQ.aK.go h a b hr⟩⟩
def agy.aK:fO agy [68,3]:=dL.aK OLs.aK
def OSn.aK:fO OSn [68,3]:=⟨λh a b ⟨v,e,i,hr⟩=>⟨v,e,i,agy.aK.go h a b hr⟩⟩
def acP.aK:fO acP [35,68,3]:=dL.aK OSn.aK
def agz.aK:fO agz [88]:=dL.aK (cy.aK FHd)
def OLs.l{x:Ls}(h:OLs w Z Y x cs):ann w Z Y x cs:=by
 obtain⟨v,e,i,a⟩:=h;exact⟨v,e,i,aaQ.l a⟩
def agy.l{x:List Ls}(h:agy w Z Y x cs):bK w Z Y x cs:=dL.sl ann.loc OLs.l h
def OSn.l{x:Sn}(h:OSn w Z Y x cs):ano w Z Y x cs:=by
 obtain⟨v,e,i,a⟩:=h;exact⟨v,e,i,agy.l a⟩
def acP.l{x:List Sn}(h:acP w Z Y x cs):dm w Z Y x cs:=dL.sl ano.loc OSn.l h
def agz.l{x:List Hd}(h:agz w Z Y x cs):eh w Z Y x cs:=dL.sl (cy.loc FHd) (λh=>h) h
def jh(k:Int)(b:Nat):Int:=if k-b<0 then -1 else k-b
def bh{α:Type}(f:α->Nat)(l:List α):Nat:=l.length+(l.map f).sum
def dT{α:Type}(f:α->Nat)(l:List α)(j:Nat):Nat:=l.length+((l.take j).map f).sum
def ei(f:X->Nat)(l:List X):dT f l 0=l.length:=rfl
def km{f:X->Nat}{l:List X}{x:X}(h:l[j]?=some x):dT f l (j+1)=dT f l j+f x:=by
 unfold dT;rw[kw h,pI,tY];simp only[qo,List.map_nil,sT,List.sum_nil];omega
def lJ(f:X->Nat)(l:List X):dT f l l.length=bh f l:=by unfold dT bh;rw[fd]
def nN{f:X->Nat}{l:List X} :dT f l j<=bh f l:=by
 unfold dT bh;have h:l.map f=(l.take j).map f++(l.drop j).map f:=by rw[<-pI,pH]
 rw[h,tY];omega
def nO{a:Type}{f:a->Nat}:∀{l:List a} {x:a},x∈l->f x<=bh f l
 |[],_,h=>by cases h
 |y::l,x,h=>by
  have e:bh f (y::l)=bh f l+1+f y:=by unfold bh;simp only[mp,qo,sT];omega
  rcases lw.1 h with rfl|h
  .omega
  .have:=nO (f:=f) h;omega
def fp{f:X->Nat}{l:List X}:l.length<=bh f l:=by unfold bh;omega
def bA{k:Int}(h:k-b<0):jh k b=-1:=dj h
def cL{k:Int}(h:0<=k-b):jh k b=k-b:=bd (by omega)
def bIt(x:It):Nat:=x.b.size
def bPk(x:Pk):Nat:=bh bIt x.its
def oh(x:Ls):Nat:=x.p.size+x.ns.length
def bSn(x:Sn):Nat:=bh oh x.all
def aaR{α:Type}(n:α->Nat)(l:List α)(j:Nat):Nat:=((l.take j).map n).sum
def acQ{α:Type}(n:α->Nat)(l:List α):Nat:=(l.map n).sum
def adS{n:X->Nat}{l:List X}{x:X}(h:l[j]?=some x):aaR n l (j+1)=aaR n l j+n x:=by
 unfold aaR;rw[kw h,pI,tY];simp
def anp(n:X->Nat)(l:List X):aaR n l l.length=acQ n l:=by unfold aaR acQ;rw[fd]
def adT{n:X->Nat}{l:List X} :aaR n l j<=acQ n l:=by
 unfold aaR acQ;have h:l.map n=(l.take j).map n++(l.drop j).map n:=by rw[<-pI,pH]
 rw[h,tY];omega
def aaS{c:Type}:∀(l:List c) (j:Nat) (a b:c),(l.set j a).set j b=l.set j b
 |[],_,_,_=>rfl
 |_::_,0,_,_=>rfl
 |x::l,j+1,a,b=>by show x::(l.set j a).set j b=x::l.set j b;rw[aaS l j a b]
end
section
variable {β:Bool}
open Go.RowKit
def ajG(x:It)(k:Int)(w:World)(b:x.b.size<=maxLen)(c:0<=k)(d:k<=1048576):Calls (aj β) 132 #[.agg #[.int .i64 x.n,.string x.b],.int .i64 k] w λe a=>e=.returned (.int .i64 (jh k (bIt x)))/\Below w.heap.size w a:=by
 unfold maxLen at b;by_cases h:k-(x.b.size:Int)<0
 .rw[bA (show k-((bIt x:Nat):Int)<0 from h)];go_enter wG,ntmps132;go_wp2;go_ret;exact⟨rfl,aJ _ _⟩
 .rw[cL (show(0:Int)<=k-(bIt x:Int) by unfold bIt;omega)];unfold bIt;go_enter wG,ntmps132;go_wp2;go_ret;exact⟨rfl,aJ _ _⟩
def acg(xs:List It)(v:Value)(k:Int)(w:World)(V M:Nat)(h:di w V M xs [v])(S:M<=w.heap.size)(Z:0<=k)(nJ:k<=1048576) :
  Calls (aj β) 87 #[v,.int .i64 k] w λe N=>e=.returned (.int .i64 (jh k (bh bIt xs)))/\Below w.heap.size w N:=by
 obtain⟨A,c,rfl⟩:=h.form;obtain⟨_,hc,T⟩:=h.len_;unfold maxLen at T;by_cases R:k-(xs.length:Int)<0
 .rw[bA (show k-((bh bIt xs:Nat):Int)<0 by have:=fp (f:=bIt) (l:=xs);omega)];go_enter wY,ntmps87;go_wp2;go_ret;exact⟨rfl,dk _ _⟩
 generalize D:jh k (bh bIt xs)=q;replace D:=ab D;go_enter wY,ntmps87;go_wp2;go_loopw [1,5] (λP I wr=>∃j:Nat,j<=xs.length/\I=.int .i64 j/\P=.int .i64 (k-(dT bIt xs j:Nat))/\0<=k-((dT bIt xs j:Nat):Int)/\Below w.heap.size w wr) (λ_ I _=>xs.length-(intOf I).toNat)
 case atStart=>exact⟨0,fb _,rfl,by rw[ei],by rw[ei];omega,dk _ _⟩
 case round=>
  obtain⟨j,hj,rfl,rfl,o,g⟩:=hrel;by_cases F:j<xs.length
  .obtain⟨x,C⟩:=ar F;have a:=km (f:=bIt) C;have n:=nN (f:=bIt) (l:=xs) (j:=j+1);replace a:=ab a;replace n:=ab n;obtain⟨b,t,es,rfl,_,eW,_,⟨rfl,E⟩,i⟩:=(di.loc.below h g S).at_ C;have O:wr.cell? ⟨b,t+j*2,none⟩=some (.int .i64 x.n):=by simpa using i 0 _ rfl
   have W:wr.cell? ⟨b,t+j*2+1,none⟩=some (.string x.b):=by simpa using i 1 _ rfl
   clear i;replace C:=ab C;have d:∃z:Int,z=k-((dT bIt xs j:Nat):Int)/\0<=z/\z<=1048576:=⟨_,rfl,o,by omega⟩;obtain⟨z,d,p,r⟩:=d;rw[<-d];have H:=ab d;clear d o;go_wp2;refine(ajG x _ _ E.2 p r).mono ?_;rintro e X ⟨rfl,B⟩;by_cases G:z-((bIt x:Nat):Int)<0
   .rw[bA G];have s:(-1:Int)=q:=by rw[<-D.out,bA (show k-((bh bIt xs:Nat):Int)<0 by have J:=a.out;have Y:=n.out;have L:=H.out;omega)]
    have m:=ab s;clear s G;go_wp2;go_ret;exact⟨fe m.out,ae g B⟩
   .rw[cL (show 0<=z-((bIt x:Nat):Int) by omega)];have u:∃y:Int,y=z-((bIt x:Nat):Int)/\0<=y:=⟨_,rfl,by omega⟩;obtain⟨y,u,U⟩:=u;rw[<-u];have K:=ab u;clear u G;go_wp2;go_roundw
    case rel=>exact⟨j+1,by omega,by go_num,by have J:=a.out;have L:=H.out;have Q:=K.out;exact ef (Value.int .i64) (by omega),by have J:=a.out;have L:=H.out;have Q:=K.out;omega,ae g B⟩
    simp[intOf];omega
  .obtain rfl:j=xs.length:=by omega
   rw[lJ] at o ⊢;have d:∃z:Int,z=k-((bh bIt xs:Nat):Int)/\0<=z/\z<=1048576:=⟨_,rfl,o,by omega⟩;obtain⟨z,d,p,r⟩:=d;rw[<-d];have s:z=q:=by rw[<-D.out,cL o];exact d
   have m:=ab s;clear d o s;go_wp2;go_ret;exact⟨fe m.out,g⟩
def ajH(x:It)(w:World):Calls (aj β) 134 #[.agg #[.int .i64 x.n,.string x.b]] w λe a=>e=.returned (.agg #[.int .i64 x.n,.string x.b])/\Below w.heap.size w a:=by
 go_enter yi,ntmps134;go_wp2;exact pN (v:=.agg #[.int .i64 x.n,.string x.b]) (by simp[results,results134,go_sem]) rfl ⟨rfl,by repeat(first|exact dk _ _|refine Below.setCell ?_ (by first|(simp;done)|(simp;omega)) _|refine qQ ?_ (by first|(simp;done)|(simp;omega)) _)⟩
def ajI:((aj β).info? 64).map (λi=>(i.zero,i.size,i.bytes))=some (some (.agg #[.int .i64 0,.string ⟨#[]⟩]),2,24):=by kernel_rfl
def apk(w:World)(xs:List It)(e:Ending)(w':World):Prop:=∃v,e=.returned v/\acO w' w.heap.size w'.heap.size xs [v]/\Below w.heap.size w w'
def ahL(xs:List It)(v:Value)(w:World)(L u:Nat)(h:di w L u xs [v])(J:u<=w.heap.size)(G:bh bIt xs<=1048576) :
  Calls (aj β) 89 #[v] w (apk w xs):=by
 obtain⟨A,c,rfl⟩:=h.form;have C:xs.length<=1048576:=am fp G;have I:=jq (P:=(aj β)) 38 64 (.agg #[.int .i64 0,.string ⟨#[]⟩]) 2 24 yB ajI xs.length (by omega) (by omega) w;go_enter yH,ntmps89;go_wp2;go_loopw [4] (λi wr=>∃k:Nat,k<=xs.length/\i=.int .i64 k/\eI 64 (cy FIt) 2 (xs.length*2) wr w.heap.size w.heap.size wr.heap.size (xs.take k)/\Below w.heap.size w wr) (λi _=>xs.length-(intOf i).toNat)
 case atStart=>
  refine⟨0,fb _,rfl, ?_,(dk _ _).alloc (ap _) _⟩;have:=eI.new 64 (cy FIt) 2 w (madeCells #[.int .i64 0,.string ⟨#[]⟩] (xs.length*2));rw[rA] at this;exact this
 case round=>
  obtain⟨k,B,rfl,s,n⟩:=hrel;by_cases q:k<xs.length
  .obtain⟨x,m⟩:=ar q;obtain⟨b,g,O,rfl,_,N,_,⟨rfl,p⟩,d⟩:=(di.loc.below h n J).at_ m;have z:wr.cell? ⟨b,g+k*2,none⟩=some (.int .i64 x.n):=by simpa using d 0 _ rfl
   have M:wr.cell? ⟨b,g+k*2+1,none⟩=some (.string x.b):=by simpa using d 1 _ rfl
   clear d;have r:=kw m;replace m:=ab m;replace r:=ab r;go_wp2;refine(ajH x _).mono ?_;rintro e t ⟨rfl,f⟩;have H:(cy FIt) t wr.heap.size t.heap.size x [.int .i64 x.n,.string x.b]:=⟨rfl,p⟩;have l:=s.chg (cy.aK FIt) f (ap _);have a:(xs.take k).length=k:=by rw[lm,qx B]
   obtain⟨u0,D⟩:=l.there (j:=k*2) (by omega);obtain⟨u1,F⟩:=l.there (j:=k*2+1) (by omega);have E:=l.frozen (k*2);have K:=l.frozen (k*2+1);have o:=l.ahH (cy.aK FIt) (by decide) (y:=x) (u0:=.int .i64 x.n) (u1:=.string x.b) rfl rfl f.size H (by rw[a];omega);rw[a,<-r.out] at o;replace o:=ab o;replace a:=ab a;go_wp2;go_roundw
   case rel=>exact⟨k+1,by omega,by go_num,by simp only[iS];exact o.out,((n.trans (f.mono n.size)).setCell (ap _) _).setCell (ap _) _⟩
   simp[intOf];omega
  .obtain rfl:k=xs.length:=by omega
   rw[fd] at s;go_wp2;go_ret;exact⟨_,rfl,s.own (by unfold maxLen;omega),n⟩
def adU(x y:It)(w:World)(b:Bool)(f:b=true↔x=y):Calls (aj β) 136 #[.agg #[.int .i64 x.n,.string x.b],.agg #[.int .i64 y.n,.string y.b]] w λe k=>e=.returned (.bool b)/\Below w.heap.size w k:=by
 replace f:=ab f;by_cases a:x.n=y.n
 .have l:(x.n !=y.n)=false:=by rw[pJ];exact a
  replace a:=ab a;by_cases c:x.b=y.b
  .have j:(x.b.toList ==y.b.toList)=true:=by rw[c,mT]
   replace c:=ab c;have g:b=true:=f.out.2 (by cases x;cases y;simp only[It.mk.injEq];exact⟨a.out,c.out⟩);have i:=ab g;clear g;go_enter vS,ntmps136;go_wp2;go_ret;exact⟨ak i.out.symm,by repeat(first|exact dk _ _|refine qQ ?_ (by simp) _)⟩
  .have j:(x.b.toList ==y.b.toList)=false:=mR c;have d:b=false:=by rw[<-be,f.out];rintro rfl;exact c rfl
   have i:=ab d;clear d c;go_enter vS,ntmps136;go_wp2;go_ret;exact⟨ak i.out.symm,by repeat(first|exact dk _ _|refine qQ ?_ (by simp) _)⟩
 .have l:(x.n !=y.n)=true:=by rw[qI];exact a
  have d:b=false:=by rw[<-be,f.out];rintro rfl;exact a rfl
  have i:=ab d;clear d a;go_enter vS,ntmps136;go_wp2;go_ret;exact⟨ak i.out.symm,by repeat(first|exact dk _ _|refine qQ ?_ (by simp) _)⟩
def ach(xs m:List It)(Q R:Value)(w:World)(lo T lo' hi':Nat)(I:di w lo T xs [Q])(O:di w lo' hi' m [R])(J:T<=w.heap.size)(om:hi'<=w.heap.size)(b:Bool)(q:b=true↔xs=m) :
  Calls (aj β) 91 #[Q,R] w λe U=>e=.returned (.bool b)/\Below w.heap.size w U:=by
 replace q:=ab q;obtain⟨A,c,rfl⟩:=I.form;obtain⟨B,d,rfl⟩:=O.form;obtain⟨_,hc,hx⟩:=I.len_;unfold maxLen at hx;by_cases a:xs.length=m.length
 .have t1:((xs.length:Int) !=m.length)=false:=by rw[pJ];omega
  replace a:=ab a;go_enter wW,ntmps91;go_wp2;go_loopw [5] (λi wr=>∃k:Nat,k<=xs.length/\i=.int .i64 k/\xs.take k=m.take k/\Below w.heap.size w wr) (λi _=>xs.length-(intOf i).toNat)
  case atStart=>exact⟨0,fb _,rfl,rfl,dk _ _⟩
  case round=>
   obtain⟨k,hk,rfl,v,f⟩:=hrel;replace v:=ab v;by_cases F:k<xs.length
   .obtain⟨x,n⟩:=ar F;obtain⟨y,o⟩:=ar (l:=m) (k:=k) (by have:=a.out;omega);obtain⟨N,u,es,rfl,_,W,_,⟨rfl,X⟩,g⟩:=(di.loc.below I f J).at_ n;have p:wr.cell? ⟨N,u+k*2,none⟩=some (.int .i64 x.n):=by simpa using g 0 _ rfl
    have D:wr.cell? ⟨N,u+k*2+1,none⟩=some (.string x.b):=by simpa using g 1 _ rfl
    clear g;obtain⟨S,M,es,rfl,_,W,_,⟨rfl,Y⟩,g⟩:=(di.loc.below O f om).at_ o;have z:wr.cell? ⟨S,M+k*2,none⟩=some (.int .i64 y.n):=by simpa using g 0 _ rfl
    have s:wr.cell? ⟨S,M+k*2+1,none⟩=some (.string y.b):=by simpa using g 1 _ rfl
    clear g;have Z:(k:Int)<(m.length:Int):=by have:=a.out;omega
    replace n:=ab n;replace o:=ab o;by_cases j:x=y
    .replace j:=ab j;go_wp2;have L:=ah p;have K:=ah D;have H:=ah z;have G:=ah s;refine aA (by kernel_rfl) (by kernel_rfl) ?_;repeat(go_big_quiet_step (first|(go_at_call 136;refine aO (adU x y _ true ?_);(simp only[qe];exact j.out))))
     refine ge ?_;intro V C;have E:=aG C;clear C L K H G;go_wp2;go_roundw
     case rel=>first|exact⟨k+1,by omega,by go_num,by rw[kw n.out,kw o.out,v.out,j.out],f.trans (E.mono f.size)⟩|((repeat apply Exists.intro);refine⟨?_,rfl⟩;exact⟨k+1,by omega,by go_num,by rw[kw n.out,kw o.out,v.out,j.out],f.trans (E.mono f.size)⟩)
     simp[intOf];omega
    .have t:b=false:=by
      rw[<-be,q.out];rintro rfl;exact j (de (n.out.symm.trans o.out))
     have r:=ab t;clear t;replace j:=ab j;go_wp2;have L:=ah p;have K:=ah D;have H:=ah z;have G:=ah s;refine aA (by kernel_rfl) (by kernel_rfl) ?_;repeat(go_big_quiet_step (first|(go_at_call 136;refine aO (adU x y _ false ?_);(simp only[fa,qN];exact j.out))))
     refine ge ?_;intro V C;have E:=aG C;clear C L K H G;go_wp2;go_ret;exact⟨ak r.out.symm,f.trans (E.mono f.size)⟩
   .obtain rfl:k=xs.length:=by omega
    have P:b=true:=by
     rw[q.out];have:=v.out
     rwa [fd,nf (by have:=a.out;omega)] at this
    have r:=ab P;clear P;go_wp2;go_ret;exact⟨ak r.out.symm,f⟩
 .have t1:((xs.length:Int) !=m.length)=true:=by rw[qI];omega
  have t:b=false:=by
   rw[<-be,q.out];rintro rfl;exact a rfl
  have r:=ab t;clear t;replace a:=ab a;go_enter wW,ntmps91;go_wp2;go_ret;exact⟨ak r.out.symm,dk _ _⟩
end
section
variable {β:Bool}
open Go.RowKit
def ajJ(x:Pk)(v:Value)(k:Int)(w:World)(n g:Nat)(h:di w n g x.its [v])(f:g<=w.heap.size)(q:0<=k)(o:k<=1048576):Calls (aj β) 52 #[.agg #[.int .i64 x.no,v],.int .i64 k] w λe p=>e=.returned (.int .i64 (jh k (bPk x)))/\Below w.heap.size w p:=by
 obtain⟨A,c,rfl⟩:=cJ.form h;show Calls _ _ _ _ λe p=>e=.returned (.int .i64 (jh k (bh bIt x.its)))/\_;by_cases j:k-((bh bIt x.its:Nat):Int)<0
 .rw[bA j];have i:=bA j;have m:=ab i;clear i j;go_enter xc,ntmps52;go_wp2;have a:=aJ w (.cells #[.int .i64 x.no,.slice A x.its.length c] 97);refine(acg x.its _ k _ n g (di.loc.below h a f) (am f a.size) q o).mono ?_;rintro e r ⟨rfl,l⟩;rw[m.out];go_wp2;go_ret;exact⟨rfl,ae a l⟩
 .have i:=cL (k:=k) (b:=bh bIt x.its) (by omega);have d:∃z:Int,jh k (bh bIt x.its)=z/\0<=z/\z<=1048576:=⟨_,rfl,by omega,by omega⟩;obtain⟨z,d,s,t⟩:=d;rw[d];have m:=ab d;clear i j d;go_enter xc,ntmps52;go_wp2;have a:=aJ w (.cells #[.int .i64 x.no,.slice A x.its.length c] 97);refine(acg x.its _ k _ n g (di.loc.below h a f) (am f a.size) q o).mono ?_;rintro e r ⟨rfl,l⟩;rw[m.out];go_wp2;go_ret;exact⟨rfl,ae a l⟩
def ko(xs:List Pk)(v:Value)(k:Int)(w:World)(Y N:Nat)(h:cK w Y N xs [v])(M:N<=w.heap.size)(hk:0<=k)(nJ:k<=1048576) :
  Calls (aj β) 31 #[v,.int .i64 k] w λe P=>e=.returned (.int .i64 (jh k (bh bPk xs)))/\Below w.heap.size w P:=by
 obtain⟨A,c,rfl⟩:=h.form;obtain⟨_,hc,V⟩:=h.len_;unfold maxLen at V;by_cases U:k-(xs.length:Int)<0
 .rw[bA (show k-((bh bPk xs:Nat):Int)<0 by have:=fp (f:=bPk) (l:=xs);omega)];go_enter xk,ntmps31;go_wp2;go_ret;exact⟨rfl,dk _ _⟩
 generalize D:jh k (bh bPk xs)=q;replace D:=ab D;go_enter xk,ntmps31;go_wp2;go_loopw [1,5] (λR H wr=>∃j:Nat,j<=xs.length/\H=.int .i64 j/\R=.int .i64 (k-(dT bPk xs j:Nat))/\0<=k-((dT bPk xs j:Nat):Int)/\Below w.heap.size w wr) (λ_ H _=>xs.length-(intOf H).toNat)
 case atStart=>exact⟨0,fb _,rfl,by rw[ei],by rw[ei];omega,dk _ _⟩
 case round=>
  obtain⟨j,hj,rfl,rfl,o,g⟩:=hrel;by_cases E:j<xs.length
  .obtain⟨x,C⟩:=ar E;have a:=km (f:=bPk) C;have n:=nN (f:=bPk) (l:=xs) (j:=j+1);replace a:=ab a;replace n:=ab n;obtain⟨b,t,es,rfl,_,eW,_,⟨v2,rfl,O,K⟩,i⟩:=(cK.loc.below h g M).at_ C;obtain⟨W,T,rfl⟩:=cJ.form K;have Q:wr.cell? ⟨b,t+j*2,none⟩=some (.int .i64 x.no):=by simpa using i 0 _ rfl
   have Z:wr.cell? ⟨b,t+j*2+1,none⟩=some (.slice W x.its.length T):=by simpa using i 1 _ rfl
   clear i;replace C:=ab C;have d:∃z:Int,z=k-((dT bPk xs j:Nat):Int)/\0<=z/\z<=1048576:=⟨_,rfl,o,by omega⟩;obtain⟨z,d,p,r⟩:=d;rw[<-d];have G:=ab d;clear d o;go_wp2;refine(ajJ x _ _ _ _ _ K (am M g.size) p r).mono ?_;rintro e w1 ⟨rfl,B⟩;by_cases F:z-((bPk x:Nat):Int)<0
   .rw[bA F];have s:(-1:Int)=q:=by rw[<-D.out,bA (show k-((bh bPk xs:Nat):Int)<0 by have I:=a.out;have h2:=n.out;have L:=G.out;omega)]
    have m:=ab s;clear s F;go_wp2;go_ret;exact⟨fe m.out,ae g B⟩
   .rw[cL (show 0<=z-((bPk x:Nat):Int) by omega)];have u:∃y:Int,y=z-((bPk x:Nat):Int)/\0<=y:=⟨_,rfl,by omega⟩;obtain⟨y,u,X⟩:=u;rw[<-u];have J:=ab u;clear u F;go_wp2;go_roundw
    case rel=>exact⟨j+1,by omega,by go_num,by have I:=a.out;have L:=G.out;have S:=J.out;exact ef (Value.int .i64) (by omega),by have I:=a.out;have L:=G.out;have S:=J.out;omega,ae g B⟩
    simp[intOf];omega
  .obtain rfl:j=xs.length:=by omega
   rw[lJ] at o ⊢;have d:∃z:Int,z=k-((bh bPk xs:Nat):Int)/\0<=z/\z<=1048576:=⟨_,rfl,o,by omega⟩;obtain⟨z,d,p,r⟩:=d;rw[<-d];have s:z=q:=by rw[<-D.out,cL o];exact d
   have m:=ab s;clear d o s;go_wp2;go_ret;exact⟨fe m.out,g⟩
def ajK(x:Pk)(v:Value)(w:World)(C r:Nat)(h:di w C r x.its [v])(t:fg x.no)(q:r<=w.heap.size)(z:bh bIt x.its<=1048576) :
  Calls (aj β) 54 #[.agg #[.int .i64 x.no,v]] w λe l=>∃o,e=.returned (.agg #[.int .i64 x.no,o])/\OPk l w.heap.size l.heap.size x [.int .i64 x.no,o]/\Below w.heap.size w l:=by
 obtain⟨A,c,rfl⟩:=cJ.form h;go_enter yT,ntmps54;go_wp2;generalize s:((w.alloc (.cells #[.int .i64 x.no,.slice A x.its.length c] 97)).alloc (.cells #[.int .i64 0,.slice none 0 0] 40)).alloc (.cells #[.int .i64 x.no,.slice none 0 0] 40)=w0 at *;obtain⟨i,H,f,y,u,d,p,B,j,n,m⟩:=ar0 s;clear s;have k:=am q i.size;refine(ahL x.its _ _ _ _ (di.loc.below h i q) k z).mono ?_;rintro e D ⟨I,rfl,g,a⟩;replace f:=aB f a;replace y:=f.cell;replace u:=f.frozen;replace d:=aB d a;replace p:=d.cell;replace B:=d.frozen;replace j:=aB j a;replace n:=j.cell;replace m:=j.frozen;obtain⟨F,J,rfl⟩:=g.form;have G:=a.size;replace g:=ab g;go_wp2;exact pN (v:=.agg #[_,_]) (by simp[results,results54,go_sem,p]) rfl ⟨_,rfl,⟨_,rfl,t,acO.aK.go (λb E _ _=>by rw[nF _ _ _ _ (by dsimp only;omega),nF _ _ _ _ (by dsimp only;omega),nF _ _ _ _ (by dsimp only;omega)]) (by omega) (by simp only[iS];exact ap _) g.out⟩,
  (((i.trans (a.mono i.size)).setCell (by dsimp only;omega) _).setCell (by dsimp only;omega) _).setCell (by dsimp only;omega) _⟩
def ajL:((aj β).info? 40).map (λi=>(i.zero,i.size,i.bytes))=some (some (.agg #[.int .i64 0,.slice none 0 0]),2,32):=by kernel_rfl
def apm(w:World)(xs:List Pk)(e:Ending)(w':World):Prop:=∃v,e=.returned v/\lI w' w.heap.size w'.heap.size xs [v]/\Below w.heap.size w w'
def ahM(xs:List Pk)(v:Value)(w:World)(U D:Nat)(h:cK w U D xs [v])(C:D<=w.heap.size)(u:bh bPk xs<=1048576) :
  Calls (aj β) 34 #[v] w (apm w xs):=by
 obtain⟨A,c,rfl⟩:=h.form;have H:xs.length<=1048576:=am fp u;have O:=jq (P:=(aj β)) 23 40 (.agg #[.int .i64 0,.slice none 0 0]) 2 32 yF ajL xs.length (by omega) (by omega) w;go_enter ze,ntmps34;go_wp2;go_loopw [4] (λi wr=>∃k:Nat,k<=xs.length/\i=.int .i64 k/\eI 40 OPk 2 (xs.length*2) wr w.heap.size w.heap.size wr.heap.size (xs.take k)/\Below w.heap.size w wr) (λi _=>xs.length-(intOf i).toNat)
 case atStart=>
  refine⟨0,fb _,rfl, ?_,(dk _ _).alloc (ap _) _⟩;have:=eI.new 40 OPk 2 w (madeCells #[.int .i64 0,.slice none 0 0] (xs.length*2));rw[rA] at this;exact this
 case round=>
  obtain⟨k,G,rfl,t,m⟩:=hrel;by_cases r:k<xs.length
  .obtain⟨x,l⟩:=ar r;obtain⟨b,n,Z,rfl,_,X,_,⟨Y,rfl,q,B⟩,d⟩:=(cK.loc.below h m C).at_ l;obtain⟨S,K,rfl⟩:=cJ.form B;have E:wr.cell? ⟨b,n+k*2,none⟩=some (.int .i64 x.no):=by simpa using d 0 _ rfl
   have V:wr.cell? ⟨b,n+k*2+1,none⟩=some (.slice S x.its.length K):=by simpa using d 1 _ rfl
   clear d;have s:=kw l;replace l:=ab l;replace s:=ab s;go_wp2;refine(ajK x _ _ _ _ B q (am C m.size) (am ((nO (f:=bPk) (da l.out))) u)).mono ?_;rintro e W ⟨F,rfl,z,g⟩;obtain⟨R,N,rfl⟩:∃A c,F=.slice A x.its.length c:=by
    obtain⟨v4,T,_,J⟩:=z;cases T;exact dL.form J
   have o:=t.chg OPk.aK g (ap _);have a:(xs.take k).length=k:=by rw[lm,qx G]
   obtain⟨u0,I⟩:=o.there (j:=k*2) (by omega);obtain⟨u1,M⟩:=o.there (j:=k*2+1) (by omega);have L:=o.frozen (k*2);have Q:=o.frozen (k*2+1);have p:=o.ahH OPk.aK (by decide) (y:=x) (u0:=.int .i64 x.no) (u1:=.slice R x.its.length N) rfl rfl g.size z (by rw[a];omega);rw[a,<-s.out] at p;replace p:=ab p;replace a:=ab a;go_wp2;go_roundw
   case rel=>exact⟨k+1,by omega,by go_num,by simp only[iS];exact p.out,((m.trans (g.mono m.size)).setCell (ap _) _).setCell (ap _) _⟩
   simp[intOf];omega
  .obtain rfl:k=xs.length:=by omega
   rw[fd] at t;go_wp2;go_ret;exact⟨_,rfl,t.own (by unfold maxLen;omega),m⟩
def adV(x y:Pk)(v B:Value)(w:World)(s n i p:Nat)(t:di w s n x.its [v])(r:di w i p y.its [B])(m:n<=w.heap.size)(o:p<=w.heap.size)(b:Bool)(j:b=true↔x=y) :
  Calls (aj β) 57 #[.agg #[.int .i64 x.no,v],.agg #[.int .i64 y.no,B]] w λe E=>e=.returned (.bool b)/\Below w.heap.size w E:=by
 replace j:=ab j;obtain⟨A,c,rfl⟩:=cJ.form t;obtain⟨C,z,rfl⟩:=cJ.form r;by_cases g:x.no=y.no
 .have J:(x.no !=y.no)=false:=by rw[pJ];exact g
  replace g:=ab g;by_cases f:x.its=y.its
  .have a:b=true:=j.out.2 (by cases x;cases y;simp only[Pk.mk.injEq];exact⟨g.out,f⟩);have l:=ab a;clear a;replace f:=ab f;go_enter wn,ntmps57;go_wp2;generalize k:(w.alloc (.cells #[.int .i64 x.no,.slice A x.its.length c] 40)).alloc (.cells #[.int .i64 y.no,.slice C y.its.length z] 40)=w0 at *;obtain⟨d,G,F,H,I,D,K,L⟩:=pB k;clear k;refine(ach x.its y.its _ _ _ s n i p (di.loc.below t d m) (di.loc.below r d o) (am m d.size) (am o d.size) true (by simp only[qe];exact f.out)).mono ?_;rintro e M ⟨rfl,q⟩;go_wp2;go_ret;exact⟨ak l.out.symm,ae d q⟩
  .have a:b=false:=by rw[<-be,j.out];rintro rfl;exact f rfl
   have l:=ab a;clear a;replace f:=ab f;go_enter wn,ntmps57;go_wp2;generalize k:(w.alloc (.cells #[.int .i64 x.no,.slice A x.its.length c] 40)).alloc (.cells #[.int .i64 y.no,.slice C y.its.length z] 40)=w0 at *;obtain⟨d,G,F,H,I,D,K,L⟩:=pB k;clear k;refine(ach x.its y.its _ _ _ s n i p (di.loc.below t d m) (di.loc.below r d o) (am m d.size) (am o d.size) false (by simp only[fa,qN];exact f.out)).mono ?_;rintro e M ⟨rfl,q⟩;go_wp2;go_ret;exact⟨ak l.out.symm,ae d q⟩
 .have J:(x.no !=y.no)=true:=by rw[qI];exact g
  have u:b=false:=by rw[<-be,j.out];rintro rfl;exact g rfl
  have l:=ab u;clear u g;go_enter wn,ntmps57;go_wp2;go_ret;exact⟨ak l.out.symm,by repeat(first|exact dk _ _|refine qQ ?_ (by simp) _)⟩
def kq(xs q:List Pk)(U J:Value)(w:World)(lo V lo' hi':Nat)(Q:cK w lo V xs [U])(S:cK w lo' hi' q [J])(n:V<=w.heap.size)(C:hi'<=w.heap.size)(b:Bool)(u:b=true↔xs=q) :
  Calls (aj β) 37 #[U,J] w λe w'=>e=.returned (.bool b)/\Below w.heap.size w w':=by
 replace u:=ab u;obtain⟨A,c,rfl⟩:=Q.form;obtain⟨B,d,rfl⟩:=S.form;obtain⟨_,hc,hx⟩:=Q.len_;unfold maxLen at hx;by_cases a:xs.length=q.length
 .have t1:((xs.length:Int) !=q.length)=false:=by rw[pJ];omega
  replace a:=ab a;go_enter xh,ntmps37;go_wp2;go_loopw [5] (λi wr=>∃k:Nat,k<=xs.length/\i=.int .i64 k/\xs.take k=q.take k/\Below w.heap.size w wr) (λi _=>xs.length-(intOf i).toNat)
  case atStart=>exact⟨0,fb _,rfl,rfl,dk _ _⟩
  case round=>
   obtain⟨k,hk,rfl,z,f⟩:=hrel;replace z:=ab z;by_cases P:k<xs.length
   .obtain⟨x,r⟩:=ar P;obtain⟨y,s⟩:=ar (l:=q) (k:=k) (by have:=a.out;omega);obtain⟨W,H,es,rfl,_,Z,_,⟨J,rfl,a1,o⟩,j⟩:=(cK.loc.below Q f n).at_ r;obtain⟨A2,c2,rfl⟩:=cJ.form o;have t:wr.cell? ⟨W,H+k*2,none⟩=some (.int .i64 x.no):=by simpa using j 0 _ rfl
    have I:wr.cell? ⟨W,H+k*2+1,none⟩=some (.slice A2 x.its.length c2):=by simpa using j 1 _ rfl
    clear j;obtain⟨X,R,es,rfl,_,Z,_,⟨J,rfl,a2,m⟩,j⟩:=(cK.loc.below S f C).at_ s;obtain⟨A3,c3,rfl⟩:=cJ.form m;have D:wr.cell? ⟨X,R+k*2,none⟩=some (.int .i64 y.no):=by simpa using j 0 _ rfl
    have v:wr.cell? ⟨X,R+k*2+1,none⟩=some (.slice A3 y.its.length c3):=by simpa using j 1 _ rfl
    clear j;have a0:(k:Int)<(q.length:Int):=by have:=a.out;omega
    replace r:=ab r;replace s:=ab s;replace o:=ab o;replace m:=ab m;have g:=ab f.size;by_cases p:x=y
    .replace p:=ab p;go_wp2;have O:=ah t;have N:=ah I;have M:=ah D;have L:=ah v;refine aA (by kernel_rfl) (by kernel_rfl) ?_;repeat(go_big_quiet_step (first|(go_at_call 57;refine aO (adV x y _ _ _ _ _ _ _ (di.loc.below o.out (dC.ok _) (am n g.out)) (di.loc.below m.out (dC.ok _) (am C g.out)) (am n (am g.out (dC.ok _).size)) (am C (am g.out (dC.ok _).size)) true ?_);(simp only[qe];exact p.out))))
     refine ge ?_;intro Y E;have K:=aG E;clear E O N M L;go_wp2;go_roundw
     case rel=>first|exact⟨k+1,by omega,by go_num,by rw[kw r.out,kw s.out,z.out,p.out],f.trans (K.mono f.size)⟩|((repeat apply Exists.intro);refine⟨?_,rfl⟩;exact⟨k+1,by omega,by go_num,by rw[kw r.out,kw s.out,z.out,p.out],f.trans (K.mono f.size)⟩)
     simp[intOf];omega
    .have G:b=false:=by
      rw[<-be,u.out];rintro rfl;exact p (de (r.out.symm.trans s.out))
     have F:=ab G;clear G;replace p:=ab p;go_wp2;have O:=ah t;have N:=ah I;have M:=ah D;have L:=ah v;refine aA (by kernel_rfl) (by kernel_rfl) ?_;repeat(go_big_quiet_step (first|(go_at_call 57;refine aO (adV x y _ _ _ _ _ _ _ (di.loc.below o.out (dC.ok _) (am n g.out)) (di.loc.below m.out (dC.ok _) (am C g.out)) (am n (am g.out (dC.ok _).size)) (am C (am g.out (dC.ok _).size)) false ?_);(simp only[fa,qN];exact p.out))))
     refine ge ?_;intro Y E;have K:=aG E;clear E O N M L;go_wp2;go_ret;exact⟨ak F.out.symm,f.trans (K.mono f.size)⟩
   .obtain rfl:k=xs.length:=by omega
    have T:b=true:=by
     rw[u.out];have:=z.out
     rwa [fd,nf (by have:=a.out;omega)] at this
    have F:=ab T;clear T;go_wp2;go_ret;exact⟨ak F.out.symm,f⟩
 .have t1:((xs.length:Int) !=q.length)=true:=by rw[qI];omega
  have G:b=false:=by
   rw[<-be,u.out];rintro rfl;exact a rfl
  have F:=ab G;clear G;replace a:=ab a;go_enter xh,ntmps37;go_wp2;go_ret;exact⟨ak F.out.symm,dk _ _⟩
end
section
variable {β:Bool}
open Go.RowKit
def marks(k:Int):Nat->List Int
 |0=>[]
 |n+1=>marks k n++[k+n]
end
section
variable {β:Bool}
open Go.RowKit
def ajM(xs:List Int)(v:Value)(w:World)(t o:Nat)(h:cJ gu 1 w t o xs [v])(z:o<=w.heap.size)(y:xs.length<=1048576) :
  Calls (aj β) 182 #[v] w (ar4 gv 3 w xs):=by
 obtain⟨A,c,rfl⟩:=h.form;have r:=Go.run_make_row' (P:=(aj β)) 31 3 (.int .i64 0) 8 vL apf rfl .i64 .i64 xs.length (by omega) (by omega) w;go_enter xT,ntmps182;go_wp2;go_loopw [4] (λi wr=>∃k:Nat,k<=xs.length/\i=.int .i64 k/\Pre wr w.heap.size 3 xs.length ((xs.take k).map (Value.int .i64))/\Below w.heap.size w wr) (λi _=>xs.length-(intOf i).toNat)
 case atStart=>
  refine⟨0,fb _,rfl, ?_,(dk _ _).alloc (ap _) _⟩;have:=Pre.new w 3 (madeCells #[.int .i64 0] xs.length);rw[rA] at this;exact this
 case round=>
  obtain⟨k,B,rfl,d,m⟩:=hrel;by_cases e:k<xs.length
  .obtain⟨x,l⟩:=ar e;obtain⟨b,f,rfl,_,C,_,j⟩:=h.ints_at l;have n:wr.cell? ⟨b,f+k,none⟩=some (.int .i64 x):=(m.cell (p:=⟨b,f+k,none⟩) (by show b<_;omega)).trans j;obtain⟨u,q⟩:=d.there e;have s:=d.frozen k;have g:=d.push (.int .i64 x) (by simp;omega);have a:((xs.take k).map (Value.int .i64)).length=k:=by simp;omega
   rw[a,<-List.map_singleton,<-pI,<-kw l] at g;replace l:=ab l;replace a:=ab a;clear j;go_wp2;go_roundw
   case rel=>exact⟨k+1,by omega,by go_num,g,m.setCell (ap _) _⟩
   simp[intOf];omega
  .obtain rfl:k=xs.length:=by omega
   rw[fd,<-jo] at d;go_wp2;go_ret;exact⟨_,rfl,Pre.own (F:=gv) (by show Pre _ _ _ (xs.length*1) _;rw[sV];exact d) (ap _) (by unfold maxLen;omega),m⟩
def adX(m c:Nat)(A:Option Addr)(k:Int)(w:World)(d:m<=9223372036854775807)(f:0<=k)(g:k<=1048576)(q:Int)(a:(k-m<0/\q=-1)\/(0<=k-m/\q=k-m)) :
  Calls (aj β) 181 #[.slice A m c,.int .i64 k] w λe b=>e=.returned (.int .i64 q)/\w=b:=by
 rcases a with⟨h,rfl⟩|⟨h,rfl⟩
 .go_enter wD,ntmps181;go_wp2;go_ret;exact⟨rfl,rfl⟩
 .go_enter wD,ntmps181;go_wp2;go_ret;exact⟨rfl,rfl⟩
def ar7(w:World)(xs:List Int)(e:Ending)(w':World):Prop:=∃v,e=.returned v/\aaQ w' w.heap.size w'.heap.size xs [v]/\Below w.heap.size w w'
def apn(xs:List Int)(v:Value)(w:World)(c a:Nat)(h:cJ gu 1 w c a xs [v])(i:a<=w.heap.size)(f:xs.length<=1048576) :
  Calls (aj β) 182 #[v] w (ar7 w xs):=by
 refine(ajM xs v w c a h i f).mono ?_;rintro e l ⟨m,rfl,d,b⟩;exact⟨_,rfl,d.ayN (λx k=>h.am8 x k) b.size λg j=>(d.at_ j).2,b⟩
end
section
variable {β:Bool}
open Go.RowKit
def agA(x:Ls)(v:Value)(k:Int)(w:World)(l b:Nat)(i:x.p.size<=maxLen)(h:cJ gu 1 w l b x.ns [v])(n:b<=w.heap.size)(o:0<=k)(m:k<=1048576):Calls (aj β) 133 #[.agg #[.string x.p,v],.int .i64 k] w λe f=>e=.returned (.int .i64 (jh k (oh x)))/\Below w.heap.size w f:=by
 obtain⟨A,c,rfl⟩:=h.form;obtain⟨_,q,a⟩:=h.len_;unfold maxLen at i a;by_cases p:k-(x.p.size:Int)<0
 .rw[bA (show k-((oh x:Nat):Int)<0 by unfold oh;omega)];go_enter vT,ntmps133;go_wp2;go_ret;exact⟨rfl,aJ _ _⟩
 .by_cases g:k-(x.p.size:Int)-(x.ns.length:Int)<0
  .rw[bA (show k-((oh x:Nat):Int)<0 by unfold oh;omega)];go_enter vT,ntmps133;go_wp2;refine(adX x.ns.length c A (k-(x.p.size:Int)) _ (by omega) (by omega) (by omega) (-1) (.inl ⟨by omega,rfl⟩)).mono ?_;rintro e d ⟨rfl,rfl⟩;go_wp2;go_ret;exact⟨rfl,aJ _ _⟩
  .rw[cL (show(0:Int)<=k-(oh x:Int) by unfold oh;omega)];have e:k-((oh x:Nat):Int)=k-(x.p.size:Int)-(x.ns.length:Int):=by unfold oh;omega
   rw[e];have j:=ab g;clear e;go_enter vT,ntmps133;go_wp2;refine(adX x.ns.length c A (k-(x.p.size:Int)) _ (by omega) (by omega) (by omega) _ (.inr ⟨by have:=j.out;omega,rfl⟩)).mono ?_;rintro e d ⟨rfl,rfl⟩;go_wp2;go_ret;exact⟨rfl,aJ _ _⟩
def oI(xs:List Ls)(v:Value)(k:Int)(w:World)(Y O:Nat)(h:bK w Y O xs [v])(N:O<=w.heap.size)(hk:0<=k)(nJ:k<=1048576) :
  Calls (aj β) 88 #[v,.int .i64 k] w λe P=>e=.returned (.int .i64 (jh k (bh oh xs)))/\Below w.heap.size w P:=by
 obtain⟨A,c,rfl⟩:=h.form;obtain⟨_,hc,V⟩:=h.len_;unfold maxLen at V;by_cases U:k-(xs.length:Int)<0
 .rw[bA (show k-((bh oh xs:Nat):Int)<0 by have:=fp (f:=oh) (l:=xs);omega)];go_enter wX,ntmps88;go_wp2;go_ret;exact⟨rfl,dk _ _⟩
 generalize D:jh k (bh oh xs)=q;replace D:=ab D;go_enter wX,ntmps88;go_wp2;go_loopw [1,5] (λR I wr=>∃j:Nat,j<=xs.length/\I=.int .i64 j/\R=.int .i64 (k-(dT oh xs j:Nat))/\0<=k-((dT oh xs j:Nat):Int)/\Below w.heap.size w wr) (λ_ I _=>xs.length-(intOf I).toNat)
 case atStart=>exact⟨0,fb _,rfl,by rw[ei],by rw[ei];omega,dk _ _⟩
 case round=>
  obtain⟨j,hj,rfl,rfl,o,g⟩:=hrel;by_cases F:j<xs.length
  .obtain⟨x,C⟩:=ar F;have a:=km (f:=oh) C;have n:=nN (f:=oh) (l:=xs) (j:=j+1);replace a:=ab a;replace n:=ab n;obtain⟨b,t,es,rfl,_,eW,_,⟨v2,rfl,E,L⟩,i⟩:=(bK.loc.below h g N).at_ C;obtain⟨W,T,rfl⟩:=cJ.form L;have Q:wr.cell? ⟨b,t+j*2,none⟩=some (.string x.p):=by simpa using i 0 _ rfl
   have Z:wr.cell? ⟨b,t+j*2+1,none⟩=some (.slice W x.ns.length T):=by simpa using i 1 _ rfl
   clear i;replace C:=ab C;have d:∃z:Int,z=k-((dT oh xs j:Nat):Int)/\0<=z/\z<=1048576:=⟨_,rfl,o,by omega⟩;obtain⟨z,d,p,r⟩:=d;rw[<-d];have H:=ab d;clear d o;go_wp2;refine(agA x _ _ _ _ _ E L (am N g.size) p r).mono ?_;rintro e w1 ⟨rfl,B⟩;by_cases G:z-((oh x:Nat):Int)<0
   .rw[bA G];have s:(-1:Int)=q:=by rw[<-D.out,bA (show k-((bh oh xs:Nat):Int)<0 by have J:=a.out;have h2:=n.out;have M:=H.out;omega)]
    have m:=ab s;clear s G;go_wp2;go_ret;exact⟨fe m.out,ae g B⟩
   .rw[cL (show 0<=z-((oh x:Nat):Int) by omega)];have u:∃y:Int,y=z-((oh x:Nat):Int)/\0<=y:=⟨_,rfl,by omega⟩;obtain⟨y,u,X⟩:=u;rw[<-u];have K:=ab u;clear u G;go_wp2;go_roundw
    case rel=>exact⟨j+1,by omega,by go_num,by have J:=a.out;have M:=H.out;have S:=K.out;exact ef (Value.int .i64) (by omega),by have J:=a.out;have M:=H.out;have S:=K.out;omega,ae g B⟩
    simp[intOf];omega
  .obtain rfl:j=xs.length:=by omega
   rw[lJ] at o ⊢;have d:∃z:Int,z=k-((bh oh xs:Nat):Int)/\0<=z/\z<=1048576:=⟨_,rfl,o,by omega⟩;obtain⟨z,d,p,r⟩:=d;rw[<-d];have s:z=q:=by rw[<-D.out,cL o];exact d
   have m:=ab s;clear d o s;go_wp2;go_ret;exact⟨fe m.out,g⟩
def agB(x:Ls)(v:Value)(w:World)(C r:Nat)(h:cJ gu 1 w C r x.ns [v])(t:x.p.size<=maxLen)(q:r<=w.heap.size)(z:List.length x.ns<=1048576) :
  Calls (aj β) 135 #[.agg #[.string x.p,v]] w λe l=>∃o,e=.returned (.agg #[.string x.p,o])/\OLs l w.heap.size l.heap.size x [.string x.p,o]/\Below w.heap.size w l:=by
 obtain⟨A,c,rfl⟩:=cJ.form h;go_enter yh,ntmps135;go_wp2;generalize s:((w.alloc (.cells #[.string x.p,.slice A x.ns.length c] 191)).alloc (.cells #[.string ⟨#[]⟩,.slice none 0 0] 68)).alloc (.cells #[.string x.p,.slice none 0 0] 68)=w0 at *;obtain⟨i,H,f,y,u,d,p,B,j,n,m⟩:=ar0 s;clear s;have k:=am q i.size;refine(apn x.ns _ _ _ _ (jE.loc.below h i q) k z).mono ?_;rintro e D ⟨I,rfl,g,a⟩;replace f:=aB f a;replace y:=f.cell;replace u:=f.frozen;replace d:=aB d a;replace p:=d.cell;replace B:=d.frozen;replace j:=aB j a;replace n:=j.cell;replace m:=j.frozen;obtain⟨F,J,rfl⟩:=g.form;have G:=a.size;replace g:=ab g;go_wp2;exact pN (v:=.agg #[_,_]) (by simp[results,results135,go_sem,p]) rfl ⟨_,rfl,⟨_,rfl,t,aaQ.aK.go (λb E _ _=>by rw[nF _ _ _ _ (by dsimp only;omega),nF _ _ _ _ (by dsimp only;omega),nF _ _ _ _ (by dsimp only;omega)]) (by omega) (by simp only[iS];exact ap _) g.out⟩,
  (((i.trans (a.mono i.size)).setCell (by dsimp only;omega) _).setCell (by dsimp only;omega) _).setCell (by dsimp only;omega) _⟩
def agC:((aj β).info? 68).map (λi=>(i.zero,i.size,i.bytes))=some (some (.agg #[.string ⟨#[]⟩,.slice none 0 0]),2,40):=by kernel_rfl
def ajN(w:World)(xs:List Ls)(e:Ending)(w':World):Prop:=∃v,e=.returned v/\agy w' w.heap.size w'.heap.size xs [v]/\Below w.heap.size w w'
def aeO(xs:List Ls)(v:Value)(w:World)(U D:Nat)(h:bK w U D xs [v])(C:D<=w.heap.size)(u:bh oh xs<=1048576) :
  Calls (aj β) 90 #[v] w (ajN w xs):=by
 obtain⟨A,c,rfl⟩:=h.form;have H:xs.length<=1048576:=am fp u;have O:=jq (P:=(aj β)) 33 68 (.agg #[.string ⟨#[]⟩,.slice none 0 0]) 2 40 yC agC xs.length (by omega) (by omega) w;go_enter yG,ntmps90;go_wp2;go_loopw [4] (λi wr=>∃k:Nat,k<=xs.length/\i=.int .i64 k/\eI 68 OLs 2 (xs.length*2) wr w.heap.size w.heap.size wr.heap.size (xs.take k)/\Below w.heap.size w wr) (λi _=>xs.length-(intOf i).toNat)
 case atStart=>
  refine⟨0,fb _,rfl, ?_,(dk _ _).alloc (ap _) _⟩;have:=eI.new 68 OLs 2 w (madeCells #[.string ⟨#[]⟩,.slice none 0 0] (xs.length*2));rw[rA] at this;exact this
 case round=>
  obtain⟨k,G,rfl,t,m⟩:=hrel;by_cases r:k<xs.length
  .obtain⟨x,l⟩:=ar r;obtain⟨b,n,Z,rfl,_,X,_,⟨Y,rfl,q,B⟩,d⟩:=(bK.loc.below h m C).at_ l;obtain⟨S,K,rfl⟩:=cJ.form B;have E:wr.cell? ⟨b,n+k*2,none⟩=some (.string x.p):=by simpa using d 0 _ rfl
   have V:wr.cell? ⟨b,n+k*2+1,none⟩=some (.slice S x.ns.length K):=by simpa using d 1 _ rfl
   clear d;have s:=kw l;replace l:=ab l;replace s:=ab s;go_wp2;refine(agB x _ _ _ _ B q (am C m.size) (am (am (Nat.le_add_left _ _) (nO (f:=oh) (da l.out))) u)).mono ?_;rintro e W ⟨F,rfl,z,g⟩;obtain⟨R,N,rfl⟩:∃A c,F=.slice A x.ns.length c:=by
    obtain⟨v4,T,_,J⟩:=z;cases T;exact dL.form J
   have o:=t.chg OLs.aK g (ap _);have a:(xs.take k).length=k:=by rw[lm,qx G]
   obtain⟨u0,I⟩:=o.there (j:=k*2) (by omega);obtain⟨u1,M⟩:=o.there (j:=k*2+1) (by omega);have L:=o.frozen (k*2);have Q:=o.frozen (k*2+1);have p:=o.ahH OLs.aK (by decide) (y:=x) (u0:=.string x.p) (u1:=.slice R x.ns.length N) rfl rfl g.size z (by rw[a];omega);rw[a,<-s.out] at p;replace p:=ab p;replace a:=ab a;go_wp2;go_roundw
   case rel=>exact⟨k+1,by omega,by go_num,by simp only[iS];exact p.out,((m.trans (g.mono m.size)).setCell (ap _) _).setCell (ap _) _⟩
   simp[intOf];omega
  .obtain rfl:k=xs.length:=by omega
   rw[fd] at t;go_wp2;go_ret;exact⟨_,rfl,t.own (by unfold maxLen;omega),m⟩
def aaT(x y:Ls)(u z:Value)(w:World)(q m i n:Nat)(r:cJ gu 1 w q m x.ns [u])(p:cJ gu 1 w i n y.ns [z])(B:m<=w.heap.size)(C:n<=w.heap.size)(b:Bool)(j:b=true↔x=y) :
  Calls (aj β) 137 #[.agg #[.string x.p,u],.agg #[.string y.p,z]] w λe F=>e=.returned (.bool b)/\Below w.heap.size w F:=by
 replace j:=ab j;obtain⟨A,c,rfl⟩:=cJ.form r;obtain⟨D,v,rfl⟩:=cJ.form p;by_cases f:x.p=y.p
 .have K:(x.p.toList ==y.p.toList)=true:=by rw[f,mT]
  replace f:=ab f;by_cases d:x.ns=y.ns
  .have a:b=true:=j.out.2 (by cases x;cases y;simp only[Ls.mk.injEq];exact⟨f.out,d⟩);have l:=ab a;clear a;replace d:=ab d;go_enter vR,ntmps137;go_wp2;generalize k:(w.alloc (.cells #[.string x.p,.slice A x.ns.length c] 68)).alloc (.cells #[.string y.p,.slice D y.ns.length v] 68)=w0 at *;obtain⟨g,H,G,I,J,E,L,M⟩:=pB k;clear k;refine(adP x.ns y.ns _ _ _ q m i n (jE.loc.below r g B) (jE.loc.below p g C)).mono ?_;rintro e N ⟨rfl,s,rfl⟩;rw[du d.out];have o:=vt (dk w0.heap.size w0) s;go_wp2;go_ret;exact⟨ak l.out.symm,ae g o⟩
  .have a:b=false:=by rw[<-be,j.out];rintro rfl;exact d rfl
   have l:=ab a;clear a;replace d:=ab d;go_enter vR,ntmps137;go_wp2;generalize k:(w.alloc (.cells #[.string x.p,.slice A x.ns.length c] 68)).alloc (.cells #[.string y.p,.slice D y.ns.length v] 68)=w0 at *;obtain⟨g,H,G,I,J,E,L,M⟩:=pB k;clear k;refine(adP x.ns y.ns _ _ _ q m i n (jE.loc.below r g B) (jE.loc.below p g C)).mono ?_;rintro e N ⟨rfl,s,rfl⟩;rw[bv d.out];have o:=vt (dk w0.heap.size w0) s;go_wp2;go_ret;exact⟨ak l.out.symm,ae g o⟩
 .have K:(x.p.toList ==y.p.toList)=false:=mR f;have t:b=false:=by rw[<-be,j.out];rintro rfl;exact f rfl
  have l:=ab t;clear t f;go_enter vR,ntmps137;go_wp2;go_ret;exact⟨ak l.out.symm,by repeat(first|exact dk _ _|refine qQ ?_ (by simp) _)⟩
def oJ(xs q:List Ls)(U J:Value)(w:World)(lo V lo' hi':Nat)(Q:bK w lo V xs [U])(S:bK w lo' hi' q [J])(n:V<=w.heap.size)(C:hi'<=w.heap.size)(b:Bool)(u:b=true↔xs=q) :
  Calls (aj β) 92 #[U,J] w λe w'=>e=.returned (.bool b)/\Below w.heap.size w w':=by
 replace u:=ab u;obtain⟨A,c,rfl⟩:=Q.form;obtain⟨B,d,rfl⟩:=S.form;obtain⟨_,hc,hx⟩:=Q.len_;unfold maxLen at hx;by_cases a:xs.length=q.length
 .have t1:((xs.length:Int) !=q.length)=false:=by rw[pJ];omega
  replace a:=ab a;go_enter wV,ntmps92;go_wp2;go_loopw [5] (λi wr=>∃k:Nat,k<=xs.length/\i=.int .i64 k/\xs.take k=q.take k/\Below w.heap.size w wr) (λi _=>xs.length-(intOf i).toNat)
  case atStart=>exact⟨0,fb _,rfl,rfl,dk _ _⟩
  case round=>
   obtain⟨k,hk,rfl,z,f⟩:=hrel;replace z:=ab z;by_cases P:k<xs.length
   .obtain⟨x,r⟩:=ar P;obtain⟨y,s⟩:=ar (l:=q) (k:=k) (by have:=a.out;omega);obtain⟨W,H,es,rfl,_,Z,_,⟨J,rfl,a1,o⟩,j⟩:=(bK.loc.below Q f n).at_ r;obtain⟨A2,c2,rfl⟩:=cJ.form o;have t:wr.cell? ⟨W,H+k*2,none⟩=some (.string x.p):=by simpa using j 0 _ rfl
    have I:wr.cell? ⟨W,H+k*2+1,none⟩=some (.slice A2 x.ns.length c2):=by simpa using j 1 _ rfl
    clear j;obtain⟨X,R,es,rfl,_,Z,_,⟨J,rfl,a2,m⟩,j⟩:=(bK.loc.below S f C).at_ s;obtain⟨A3,c3,rfl⟩:=cJ.form m;have D:wr.cell? ⟨X,R+k*2,none⟩=some (.string y.p):=by simpa using j 0 _ rfl
    have v:wr.cell? ⟨X,R+k*2+1,none⟩=some (.slice A3 y.ns.length c3):=by simpa using j 1 _ rfl
    clear j;have a0:(k:Int)<(q.length:Int):=by have:=a.out;omega
    replace r:=ab r;replace s:=ab s;replace o:=ab o;replace m:=ab m;have g:=ab f.size;by_cases p:x=y
    .replace p:=ab p;go_wp2;have O:=ah t;have N:=ah I;have M:=ah D;have L:=ah v;refine aA (by kernel_rfl) (by kernel_rfl) ?_;repeat(go_big_quiet_step (first|(go_at_call 137;refine aO (aaT x y _ _ _ _ _ _ _ (jE.loc.below o.out (dC.ok _) (am n g.out)) (jE.loc.below m.out (dC.ok _) (am C g.out)) (am n (am g.out (dC.ok _).size)) (am C (am g.out (dC.ok _).size)) true ?_);(simp only[qe];exact p.out))))
     refine ge ?_;intro Y E;have K:=aG E;clear E O N M L;go_wp2;go_roundw
     case rel=>first|exact⟨k+1,by omega,by go_num,by rw[kw r.out,kw s.out,z.out,p.out],f.trans (K.mono f.size)⟩|((repeat apply Exists.intro);refine⟨?_,rfl⟩;exact⟨k+1,by omega,by go_num,by rw[kw r.out,kw s.out,z.out,p.out],f.trans (K.mono f.size)⟩)
     simp[intOf];omega
    .have G:b=false:=by
      rw[<-be,u.out];rintro rfl;exact p (de (r.out.symm.trans s.out))
     have F:=ab G;clear G;replace p:=ab p;go_wp2;have O:=ah t;have N:=ah I;have M:=ah D;have L:=ah v;refine aA (by kernel_rfl) (by kernel_rfl) ?_;repeat(go_big_quiet_step (first|(go_at_call 137;refine aO (aaT x y _ _ _ _ _ _ _ (jE.loc.below o.out (dC.ok _) (am n g.out)) (jE.loc.below m.out (dC.ok _) (am C g.out)) (am n (am g.out (dC.ok _).size)) (am C (am g.out (dC.ok _).size)) false ?_);(simp only[fa,qN];exact p.out))))
     refine ge ?_;intro Y E;have K:=aG E;clear E O N M L;go_wp2;go_ret;exact⟨ak F.out.symm,f.trans (K.mono f.size)⟩
   .obtain rfl:k=xs.length:=by omega
    have T:b=true:=by
     rw[u.out];have:=z.out
     rwa [fd,nf (by have:=a.out;omega)] at this
    have F:=ab T;clear T;go_wp2;go_ret;exact⟨ak F.out.symm,f⟩
 .have t1:((xs.length:Int) !=q.length)=true:=by rw[qI];omega
  have G:b=false:=by
   rw[<-be,u.out];rintro rfl;exact a rfl
  have F:=ab G;clear G;replace a:=ab a;go_enter wV,ntmps92;go_wp2;go_ret;exact⟨ak F.out.symm,dk _ _⟩
end
section
variable {β:Bool}
open Go.RowKit
def ajO(x:Sn)(v:Value)(k:Int)(w:World)(n g:Nat)(h:bK w n g x.all [v])(f:g<=w.heap.size)(q:0<=k)(o:k<=1048576):Calls (aj β) 53 #[.agg #[.int .i64 x.no,v],.int .i64 k] w λe p=>e=.returned (.int .i64 (jh k (bSn x)))/\Below w.heap.size w p:=by
 obtain⟨A,c,rfl⟩:=cJ.form h;show Calls _ _ _ _ λe p=>e=.returned (.int .i64 (jh k (bh oh x.all)))/\_;by_cases j:k-((bh oh x.all:Nat):Int)<0
 .rw[bA j];have i:=bA j;have m:=ab i;clear i j;go_enter wZ,ntmps53;go_wp2;have a:=aJ w (.cells #[.int .i64 x.no,.slice A x.all.length c] 101);refine(oI x.all _ k _ n g (bK.loc.below h a f) (am f a.size) q o).mono ?_;rintro e r ⟨rfl,l⟩;rw[m.out];go_wp2;go_ret;exact⟨rfl,ae a l⟩
 .have i:=cL (k:=k) (b:=bh oh x.all) (by omega);have d:∃z:Int,jh k (bh oh x.all)=z/\0<=z/\z<=1048576:=⟨_,rfl,by omega,by omega⟩;obtain⟨z,d,s,t⟩:=d;rw[d];have m:=ab d;clear i j d;go_enter wZ,ntmps53;go_wp2;have a:=aJ w (.cells #[.int .i64 x.no,.slice A x.all.length c] 101);refine(oI x.all _ k _ n g (bK.loc.below h a f) (am f a.size) q o).mono ?_;rintro e r ⟨rfl,l⟩;rw[m.out];go_wp2;go_ret;exact⟨rfl,ae a l⟩
def mS(xs:List Sn)(v:Value)(k:Int)(w:World)(Y N:Nat)(h:dm w Y N xs [v])(M:N<=w.heap.size)(hk:0<=k)(nJ:k<=1048576) :
  Calls (aj β) 32 #[v,.int .i64 k] w λe P=>e=.returned (.int .i64 (jh k (bh bSn xs)))/\Below w.heap.size w P:=by
 obtain⟨A,c,rfl⟩:=h.form;obtain⟨_,hc,V⟩:=h.len_;unfold maxLen at V;by_cases U:k-(xs.length:Int)<0
 .rw[bA (show k-((bh bSn xs:Nat):Int)<0 by have:=fp (f:=bSn) (l:=xs);omega)];go_enter xj,ntmps32;go_wp2;go_ret;exact⟨rfl,dk _ _⟩
 generalize D:jh k (bh bSn xs)=q;replace D:=ab D;go_enter xj,ntmps32;go_wp2;go_loopw [1,5] (λR H wr=>∃j:Nat,j<=xs.length/\H=.int .i64 j/\R=.int .i64 (k-(dT bSn xs j:Nat))/\0<=k-((dT bSn xs j:Nat):Int)/\Below w.heap.size w wr) (λ_ H _=>xs.length-(intOf H).toNat)
 case atStart=>exact⟨0,fb _,rfl,by rw[ei],by rw[ei];omega,dk _ _⟩
 case round=>
  obtain⟨j,hj,rfl,rfl,o,g⟩:=hrel;by_cases E:j<xs.length
  .obtain⟨x,C⟩:=ar E;have a:=km (f:=bSn) C;have n:=nN (f:=bSn) (l:=xs) (j:=j+1);replace a:=ab a;replace n:=ab n;obtain⟨b,t,es,rfl,_,eW,_,⟨v2,rfl,O,K⟩,i⟩:=(dm.loc.below h g M).at_ C;obtain⟨W,T,rfl⟩:=cJ.form K;have Q:wr.cell? ⟨b,t+j*2,none⟩=some (.int .i64 x.no):=by simpa using i 0 _ rfl
   have Z:wr.cell? ⟨b,t+j*2+1,none⟩=some (.slice W x.all.length T):=by simpa using i 1 _ rfl
   clear i;replace C:=ab C;have d:∃z:Int,z=k-((dT bSn xs j:Nat):Int)/\0<=z/\z<=1048576:=⟨_,rfl,o,by omega⟩;obtain⟨z,d,p,r⟩:=d;rw[<-d];have G:=ab d;clear d o;go_wp2;refine(ajO x _ _ _ _ _ K (am M g.size) p r).mono ?_;rintro e w1 ⟨rfl,B⟩;by_cases F:z-((bSn x:Nat):Int)<0
   .rw[bA F];have s:(-1:Int)=q:=by rw[<-D.out,bA (show k-((bh bSn xs:Nat):Int)<0 by have I:=a.out;have h2:=n.out;have L:=G.out;omega)]
    have m:=ab s;clear s F;go_wp2;go_ret;exact⟨fe m.out,ae g B⟩
   .rw[cL (show 0<=z-((bSn x:Nat):Int) by omega)];have u:∃y:Int,y=z-((bSn x:Nat):Int)/\0<=y:=⟨_,rfl,by omega⟩;obtain⟨y,u,X⟩:=u;rw[<-u];have J:=ab u;clear u F;go_wp2;go_roundw
    case rel=>exact⟨j+1,by omega,by go_num,by have I:=a.out;have L:=G.out;have S:=J.out;exact ef (Value.int .i64) (by omega),by have I:=a.out;have L:=G.out;have S:=J.out;omega,ae g B⟩
    simp[intOf];omega
  .obtain rfl:j=xs.length:=by omega
   rw[lJ] at o ⊢;have d:∃z:Int,z=k-((bh bSn xs:Nat):Int)/\0<=z/\z<=1048576:=⟨_,rfl,o,by omega⟩;obtain⟨z,d,p,r⟩:=d;rw[<-d];have s:z=q:=by rw[<-D.out,cL o];exact d
   have m:=ab s;clear d o s;go_wp2;go_ret;exact⟨fe m.out,g⟩
def ajP(x:Sn)(v:Value)(w:World)(C r:Nat)(h:bK w C r x.all [v])(t:fg x.no)(q:r<=w.heap.size)(z:bh oh x.all<=1048576) :
  Calls (aj β) 55 #[.agg #[.int .i64 x.no,v]] w λe l=>∃o,e=.returned (.agg #[.int .i64 x.no,o])/\OSn l w.heap.size l.heap.size x [.int .i64 x.no,o]/\Below w.heap.size w l:=by
 obtain⟨A,c,rfl⟩:=cJ.form h;go_enter yS,ntmps55;go_wp2;generalize s:((w.alloc (.cells #[.int .i64 x.no,.slice A x.all.length c] 101)).alloc (.cells #[.int .i64 0,.slice none 0 0] 35)).alloc (.cells #[.int .i64 x.no,.slice none 0 0] 35)=w0 at *;obtain⟨i,H,f,y,u,d,p,B,j,n,m⟩:=ar0 s;clear s;have k:=am q i.size;refine(aeO x.all _ _ _ _ (bK.loc.below h i q) k z).mono ?_;rintro e D ⟨I,rfl,g,a⟩;replace f:=aB f a;replace y:=f.cell;replace u:=f.frozen;replace d:=aB d a;replace p:=d.cell;replace B:=d.frozen;replace j:=aB j a;replace n:=j.cell;replace m:=j.frozen;obtain⟨F,J,rfl⟩:=g.form;have G:=a.size;replace g:=ab g;go_wp2;exact pN (v:=.agg #[_,_]) (by simp[results,results55,go_sem,p]) rfl ⟨_,rfl,⟨_,rfl,t,agy.aK.go (λb E _ _=>by rw[nF _ _ _ _ (by dsimp only;omega),nF _ _ _ _ (by dsimp only;omega),nF _ _ _ _ (by dsimp only;omega)]) (by omega) (by simp only[iS];exact ap _) g.out⟩,
  (((i.trans (a.mono i.size)).setCell (by dsimp only;omega) _).setCell (by dsimp only;omega) _).setCell (by dsimp only;omega) _⟩
def ajQ:((aj β).info? 35).map (λi=>(i.zero,i.size,i.bytes))=some (some (.agg #[.int .i64 0,.slice none 0 0]),2,32):=by kernel_rfl
def apo(w:World)(xs:List Sn)(e:Ending)(w':World):Prop:=∃v,e=.returned v/\acP w' w.heap.size w'.heap.size xs [v]/\Below w.heap.size w w'
def ahN(xs:List Sn)(v:Value)(w:World)(U D:Nat)(h:dm w U D xs [v])(C:D<=w.heap.size)(u:bh bSn xs<=1048576) :
  Calls (aj β) 35 #[v] w (apo w xs):=by
 obtain⟨A,c,rfl⟩:=h.form;have H:xs.length<=1048576:=am fp u;have O:=jq (P:=(aj β)) 24 35 (.agg #[.int .i64 0,.slice none 0 0]) 2 32 yE ajQ xs.length (by omega) (by omega) w;go_enter zd,ntmps35;go_wp2;go_loopw [4] (λi wr=>∃k:Nat,k<=xs.length/\i=.int .i64 k/\eI 35 OSn 2 (xs.length*2) wr w.heap.size w.heap.size wr.heap.size (xs.take k)/\Below w.heap.size w wr) (λi _=>xs.length-(intOf i).toNat)
 case atStart=>
  refine⟨0,fb _,rfl, ?_,(dk _ _).alloc (ap _) _⟩;have:=eI.new 35 OSn 2 w (madeCells #[.int .i64 0,.slice none 0 0] (xs.length*2));rw[rA] at this;exact this
 case round=>
  obtain⟨k,G,rfl,t,m⟩:=hrel;by_cases r:k<xs.length
  .obtain⟨x,l⟩:=ar r;obtain⟨b,n,Z,rfl,_,X,_,⟨Y,rfl,q,B⟩,d⟩:=(dm.loc.below h m C).at_ l;obtain⟨S,K,rfl⟩:=cJ.form B;have E:wr.cell? ⟨b,n+k*2,none⟩=some (.int .i64 x.no):=by simpa using d 0 _ rfl
   have V:wr.cell? ⟨b,n+k*2+1,none⟩=some (.slice S x.all.length K):=by simpa using d 1 _ rfl
   clear d;have s:=kw l;replace l:=ab l;replace s:=ab s;go_wp2;refine(ajP x _ _ _ _ B q (am C m.size) (am ((nO (f:=bSn) (da l.out))) u)).mono ?_;rintro e W ⟨F,rfl,z,g⟩;obtain⟨R,N,rfl⟩:∃A c,F=.slice A x.all.length c:=by
    obtain⟨v4,T,_,J⟩:=z;cases T;exact dL.form J
   have o:=t.chg OSn.aK g (ap _);have a:(xs.take k).length=k:=by rw[lm,qx G]
   obtain⟨u0,I⟩:=o.there (j:=k*2) (by omega);obtain⟨u1,M⟩:=o.there (j:=k*2+1) (by omega);have L:=o.frozen (k*2);have Q:=o.frozen (k*2+1);have p:=o.ahH OSn.aK (by decide) (y:=x) (u0:=.int .i64 x.no) (u1:=.slice R x.all.length N) rfl rfl g.size z (by rw[a];omega);rw[a,<-s.out] at p;replace p:=ab p;replace a:=ab a;go_wp2;go_roundw
   case rel=>exact⟨k+1,by omega,by go_num,by simp only[iS];exact p.out,((m.trans (g.mono m.size)).setCell (ap _) _).setCell (ap _) _⟩
   simp[intOf];omega
  .obtain rfl:k=xs.length:=by omega
   rw[fd] at t;go_wp2;go_ret;exact⟨_,rfl,t.own (by unfold maxLen;omega),m⟩
def adY(x y:Sn)(v B:Value)(w:World)(s n i p:Nat)(t:bK w s n x.all [v])(r:bK w i p y.all [B])(m:n<=w.heap.size)(o:p<=w.heap.size)(b:Bool)(j:b=true↔x=y) :
  Calls (aj β) 58 #[.agg #[.int .i64 x.no,v],.agg #[.int .i64 y.no,B]] w λe E=>e=.returned (.bool b)/\Below w.heap.size w E:=by
 replace j:=ab j;obtain⟨A,c,rfl⟩:=cJ.form t;obtain⟨C,z,rfl⟩:=cJ.form r;by_cases g:x.no=y.no
 .have J:(x.no !=y.no)=false:=by rw[pJ];exact g
  replace g:=ab g;by_cases f:x.all=y.all
  .have a:b=true:=j.out.2 (by cases x;cases y;simp only[Sn.mk.injEq];exact⟨g.out,f⟩);have l:=ab a;clear a;replace f:=ab f;go_enter wm,ntmps58;go_wp2;generalize k:(w.alloc (.cells #[.int .i64 x.no,.slice A x.all.length c] 35)).alloc (.cells #[.int .i64 y.no,.slice C y.all.length z] 35)=w0 at *;obtain⟨d,G,F,H,I,D,K,L⟩:=pB k;clear k;refine(oJ x.all y.all _ _ _ s n i p (bK.loc.below t d m) (bK.loc.below r d o) (am m d.size) (am o d.size) true (by simp only[qe];exact f.out)).mono ?_;rintro e M ⟨rfl,q⟩;go_wp2;go_ret;exact⟨ak l.out.symm,ae d q⟩
  .have a:b=false:=by rw[<-be,j.out];rintro rfl;exact f rfl
   have l:=ab a;clear a;replace f:=ab f;go_enter wm,ntmps58;go_wp2;generalize k:(w.alloc (.cells #[.int .i64 x.no,.slice A x.all.length c] 35)).alloc (.cells #[.int .i64 y.no,.slice C y.all.length z] 35)=w0 at *;obtain⟨d,G,F,H,I,D,K,L⟩:=pB k;clear k;refine(oJ x.all y.all _ _ _ s n i p (bK.loc.below t d m) (bK.loc.below r d o) (am m d.size) (am o d.size) false (by simp only[fa,qN];exact f.out)).mono ?_;rintro e M ⟨rfl,q⟩;go_wp2;go_ret;exact⟨ak l.out.symm,ae d q⟩
 .have J:(x.no !=y.no)=true:=by rw[qI];exact g
  have u:b=false:=by rw[<-be,j.out];rintro rfl;exact g rfl
  have l:=ab u;clear u g;go_enter wm,ntmps58;go_wp2;go_ret;exact⟨ak l.out.symm,by repeat(first|exact dk _ _|refine qQ ?_ (by simp) _)⟩
def mU(xs q:List Sn)(U J:Value)(w:World)(lo V lo' hi':Nat)(Q:dm w lo V xs [U])(S:dm w lo' hi' q [J])(n:V<=w.heap.size)(C:hi'<=w.heap.size)(b:Bool)(u:b=true↔xs=q) :
  Calls (aj β) 38 #[U,J] w λe w'=>e=.returned (.bool b)/\Below w.heap.size w w':=by
 replace u:=ab u;obtain⟨A,c,rfl⟩:=Q.form;obtain⟨B,d,rfl⟩:=S.form;obtain⟨_,hc,hx⟩:=Q.len_;unfold maxLen at hx;by_cases a:xs.length=q.length
 .have t1:((xs.length:Int) !=q.length)=false:=by rw[pJ];omega
  replace a:=ab a;go_enter xg,ntmps38;go_wp2;go_loopw [5] (λi wr=>∃k:Nat,k<=xs.length/\i=.int .i64 k/\xs.take k=q.take k/\Below w.heap.size w wr) (λi _=>xs.length-(intOf i).toNat)
  case atStart=>exact⟨0,fb _,rfl,rfl,dk _ _⟩
  case round=>
   obtain⟨k,hk,rfl,z,f⟩:=hrel;replace z:=ab z;by_cases P:k<xs.length
   .obtain⟨x,r⟩:=ar P;obtain⟨y,s⟩:=ar (l:=q) (k:=k) (by have:=a.out;omega);obtain⟨W,H,es,rfl,_,Z,_,⟨J,rfl,a1,o⟩,j⟩:=(dm.loc.below Q f n).at_ r;obtain⟨A2,c2,rfl⟩:=cJ.form o;have t:wr.cell? ⟨W,H+k*2,none⟩=some (.int .i64 x.no):=by simpa using j 0 _ rfl
    have I:wr.cell? ⟨W,H+k*2+1,none⟩=some (.slice A2 x.all.length c2):=by simpa using j 1 _ rfl
    clear j;obtain⟨X,R,es,rfl,_,Z,_,⟨J,rfl,a2,m⟩,j⟩:=(dm.loc.below S f C).at_ s;obtain⟨A3,c3,rfl⟩:=cJ.form m;have D:wr.cell? ⟨X,R+k*2,none⟩=some (.int .i64 y.no):=by simpa using j 0 _ rfl
    have v:wr.cell? ⟨X,R+k*2+1,none⟩=some (.slice A3 y.all.length c3):=by simpa using j 1 _ rfl
    clear j;have a0:(k:Int)<(q.length:Int):=by have:=a.out;omega
    replace r:=ab r;replace s:=ab s;replace o:=ab o;replace m:=ab m;have g:=ab f.size;by_cases p:x=y
    .replace p:=ab p;go_wp2;have O:=ah t;have N:=ah I;have M:=ah D;have L:=ah v;refine aA (by kernel_rfl) (by kernel_rfl) ?_;repeat(go_big_quiet_step (first|(go_at_call 58;refine aO (adY x y _ _ _ _ _ _ _ (bK.loc.below o.out (dC.ok _) (am n g.out)) (bK.loc.below m.out (dC.ok _) (am C g.out)) (am n (am g.out (dC.ok _).size)) (am C (am g.out (dC.ok _).size)) true ?_);(simp only[qe];exact p.out))))
     refine ge ?_;intro Y E;have K:=aG E;clear E O N M L;go_wp2;go_roundw
     case rel=>first|exact⟨k+1,by omega,by go_num,by rw[kw r.out,kw s.out,z.out,p.out],f.trans (K.mono f.size)⟩|((repeat apply Exists.intro);refine⟨?_,rfl⟩;exact⟨k+1,by omega,by go_num,by rw[kw r.out,kw s.out,z.out,p.out],f.trans (K.mono f.size)⟩)
     simp[intOf];omega
    .have G:b=false:=by
      rw[<-be,u.out];rintro rfl;exact p (de (r.out.symm.trans s.out))
     have F:=ab G;clear G;replace p:=ab p;go_wp2;have O:=ah t;have N:=ah I;have M:=ah D;have L:=ah v;refine aA (by kernel_rfl) (by kernel_rfl) ?_;repeat(go_big_quiet_step (first|(go_at_call 58;refine aO (adY x y _ _ _ _ _ _ _ (bK.loc.below o.out (dC.ok _) (am n g.out)) (bK.loc.below m.out (dC.ok _) (am C g.out)) (am n (am g.out (dC.ok _).size)) (am C (am g.out (dC.ok _).size)) false ?_);(simp only[fa,qN];exact p.out))))
     refine ge ?_;intro Y E;have K:=aG E;clear E O N M L;go_wp2;go_ret;exact⟨ak F.out.symm,f.trans (K.mono f.size)⟩
   .obtain rfl:k=xs.length:=by omega
    have T:b=true:=by
     rw[u.out];have:=z.out
     rwa [fd,nf (by have:=a.out;omega)] at this
    have F:=ab T;clear T;go_wp2;go_ret;exact⟨ak F.out.symm,f⟩
 .have t1:((xs.length:Int) !=q.length)=true:=by rw[qI];omega
  have G:b=false:=by
   rw[<-be,u.out];rintro rfl;exact a rfl
  have F:=ab G;clear G;replace a:=ab a;go_enter xg,ntmps38;go_wp2;go_ret;exact⟨ak F.out.symm,dk _ _⟩
end
section
variable {β:Bool}
open Go.RowKit
def acj(m c:Nat)(A:Option Addr)(k:Int)(w:World)(b:m<=9223372036854775807)(d:0<=k)(f:k<=1048576) :
  Calls (aj β) 33 #[.slice A m c,.int .i64 k] w λe a=>e=.returned (.int .i64 (jh k m))/\w=a:=by
 by_cases h:k-(m:Int)<0
 .rw[bA h];go_enter xi,ntmps33;go_wp2;go_ret;exact⟨rfl,rfl⟩
 .rw[cL (show 0<=k-(m:Int) by omega)];go_enter xi,ntmps33;go_wp2;go_ret;exact⟨rfl,rfl⟩
def ajR(x:Hd)(w:World):Calls (aj β) 56 #[.agg #[.int .i64 x.b,.int .i64 x.s]] w λe a=>e=.returned (.agg #[.int .i64 x.b,.int .i64 x.s])/\Below w.heap.size w a:=by
 go_enter yR,ntmps56;go_wp2;exact pN (v:=.agg #[.int .i64 x.b,.int .i64 x.s]) (by simp[results,results56,go_sem]) rfl ⟨rfl,by repeat(first|exact dk _ _|refine Below.setCell ?_ (by first|(simp;done)|(simp;omega)) _|refine qQ ?_ (by first|(simp;done)|(simp;omega)) _)⟩
def ajS:((aj β).info? 88).map (λi=>(i.zero,i.size,i.bytes))=some (some (.agg #[.int .i64 0,.int .i64 0]),2,16):=by kernel_rfl
def apq(w:World)(xs:List Hd)(e:Ending)(w':World):Prop:=∃v,e=.returned v/\agz w' w.heap.size w'.heap.size xs [v]/\Below w.heap.size w w'
def ahO(xs:List Hd)(v:Value)(w:World)(L u:Nat)(h:eh w L u xs [v])(J:u<=w.heap.size)(G:xs.length<=1048576) :
  Calls (aj β) 36 #[v] w (apq w xs):=by
 obtain⟨A,c,rfl⟩:=h.form;have C:xs.length<=1048576:=G;have I:=jq (P:=(aj β)) 25 88 (.agg #[.int .i64 0,.int .i64 0]) 2 16 yD ajS xs.length (by omega) (by omega) w;go_enter zc,ntmps36;go_wp2;go_loopw [4] (λi wr=>∃k:Nat,k<=xs.length/\i=.int .i64 k/\eI 88 (cy FHd) 2 (xs.length*2) wr w.heap.size w.heap.size wr.heap.size (xs.take k)/\Below w.heap.size w wr) (λi _=>xs.length-(intOf i).toNat)
 case atStart=>
  refine⟨0,fb _,rfl, ?_,(dk _ _).alloc (ap _) _⟩;have:=eI.new 88 (cy FHd) 2 w (madeCells #[.int .i64 0,.int .i64 0] (xs.length*2));rw[rA] at this;exact this
 case round=>
  obtain⟨k,B,rfl,s,n⟩:=hrel;by_cases q:k<xs.length
  .obtain⟨x,m⟩:=ar q;obtain⟨b,g,O,rfl,_,N,_,⟨rfl,p⟩,d⟩:=(eh.loc.below h n J).at_ m;have z:wr.cell? ⟨b,g+k*2,none⟩=some (.int .i64 x.b):=by simpa using d 0 _ rfl
   have M:wr.cell? ⟨b,g+k*2+1,none⟩=some (.int .i64 x.s):=by simpa using d 1 _ rfl
   clear d;have r:=kw m;replace m:=ab m;replace r:=ab r;go_wp2;refine(ajR x _).mono ?_;rintro e t ⟨rfl,f⟩;have H:(cy FHd) t wr.heap.size t.heap.size x [.int .i64 x.b,.int .i64 x.s]:=⟨rfl,p⟩;have l:=s.chg (cy.aK FHd) f (ap _);have a:(xs.take k).length=k:=by rw[lm,qx B]
   obtain⟨u0,D⟩:=l.there (j:=k*2) (by omega);obtain⟨u1,F⟩:=l.there (j:=k*2+1) (by omega);have E:=l.frozen (k*2);have K:=l.frozen (k*2+1);have o:=l.ahH (cy.aK FHd) (by decide) (y:=x) (u0:=.int .i64 x.b) (u1:=.int .i64 x.s) rfl rfl f.size H (by rw[a];omega);rw[a,<-r.out] at o;replace o:=ab o;replace a:=ab a;go_wp2;go_roundw
   case rel=>exact⟨k+1,by omega,by go_num,by simp only[iS];exact o.out,((n.trans (f.mono n.size)).setCell (ap _) _).setCell (ap _) _⟩
   simp[intOf];omega
  .obtain rfl:k=xs.length:=by omega
   rw[fd] at s;go_wp2;go_ret;exact⟨_,rfl,s.own (by unfold maxLen;omega),n⟩
def adZ(x y:Hd)(w:World)(b:Bool)(f:b=true↔x=y):Calls (aj β) 59 #[.agg #[.int .i64 x.b,.int .i64 x.s],.agg #[.int .i64 y.b,.int .i64 y.s]] w λe k=>e=.returned (.bool b)/\Below w.heap.size w k:=by
 replace f:=ab f;by_cases a:x.b=y.b
 .have l:(x.b !=y.b)=false:=by rw[pJ];exact a
  replace a:=ab a;by_cases c:x.s=y.s
  .have j:(x.s !=y.s)=false:=by rw[pJ];exact c
   replace c:=ab c;have g:b=true:=f.out.2 (by cases x;cases y;simp only[Hd.mk.injEq];exact⟨a.out,c.out⟩);have i:=ab g;clear g;go_enter wl,ntmps59;go_wp2;go_ret;exact⟨ak i.out.symm,by repeat(first|exact dk _ _|refine qQ ?_ (by simp) _)⟩
  .have j:(x.s !=y.s)=true:=by rw[qI];exact c
   have d:b=false:=by rw[<-be,f.out];rintro rfl;exact c rfl
   have i:=ab d;clear d c;go_enter wl,ntmps59;go_wp2;go_ret;exact⟨ak i.out.symm,by repeat(first|exact dk _ _|refine qQ ?_ (by simp) _)⟩
 .have l:(x.b !=y.b)=true:=by rw[qI];exact a
  have d:b=false:=by rw[<-be,f.out];rintro rfl;exact a rfl
  have i:=ab d;clear d a;go_enter wl,ntmps59;go_wp2;go_ret;exact⟨ak i.out.symm,by repeat(first|exact dk _ _|refine qQ ?_ (by simp) _)⟩
def ack(xs m:List Hd)(Q R:Value)(w:World)(lo T lo' hi':Nat)(I:eh w lo T xs [Q])(O:eh w lo' hi' m [R])(J:T<=w.heap.size)(om:hi'<=w.heap.size)(b:Bool)(q:b=true↔xs=m) :
  Calls (aj β) 39 #[Q,R] w λe U=>e=.returned (.bool b)/\Below w.heap.size w U:=by
 replace q:=ab q;obtain⟨A,c,rfl⟩:=I.form;obtain⟨B,d,rfl⟩:=O.form;obtain⟨_,hc,hx⟩:=I.len_;unfold maxLen at hx;by_cases a:xs.length=m.length
 .have t1:((xs.length:Int) !=m.length)=false:=by rw[pJ];omega
  replace a:=ab a;go_enter xf,ntmps39;go_wp2;go_loopw [5] (λi wr=>∃k:Nat,k<=xs.length/\i=.int .i64 k/\xs.take k=m.take k/\Below w.heap.size w wr) (λi _=>xs.length-(intOf i).toNat)
  case atStart=>exact⟨0,fb _,rfl,rfl,dk _ _⟩
  case round=>
   obtain⟨k,hk,rfl,v,f⟩:=hrel;replace v:=ab v;by_cases F:k<xs.length
   .obtain⟨x,n⟩:=ar F;obtain⟨y,o⟩:=ar (l:=m) (k:=k) (by have:=a.out;omega);obtain⟨N,u,es,rfl,_,W,_,⟨rfl,X⟩,g⟩:=(eh.loc.below I f J).at_ n;have p:wr.cell? ⟨N,u+k*2,none⟩=some (.int .i64 x.b):=by simpa using g 0 _ rfl
    have D:wr.cell? ⟨N,u+k*2+1,none⟩=some (.int .i64 x.s):=by simpa using g 1 _ rfl
    clear g;obtain⟨S,M,es,rfl,_,W,_,⟨rfl,Y⟩,g⟩:=(eh.loc.below O f om).at_ o;have z:wr.cell? ⟨S,M+k*2,none⟩=some (.int .i64 y.b):=by simpa using g 0 _ rfl
    have s:wr.cell? ⟨S,M+k*2+1,none⟩=some (.int .i64 y.s):=by simpa using g 1 _ rfl
    clear g;have Z:(k:Int)<(m.length:Int):=by have:=a.out;omega
    replace n:=ab n;replace o:=ab o;by_cases j:x=y
    .replace j:=ab j;go_wp2;have L:=ah p;have K:=ah D;have H:=ah z;have G:=ah s;refine aA (by kernel_rfl) (by kernel_rfl) ?_;repeat(go_big_quiet_step (first|(go_at_call 59;refine aO (adZ x y _ true ?_);(simp only[qe];exact j.out))))
     refine ge ?_;intro V C;have E:=aG C;clear C L K H G;go_wp2;go_roundw
     case rel=>first|exact⟨k+1,by omega,by go_num,by rw[kw n.out,kw o.out,v.out,j.out],f.trans (E.mono f.size)⟩|((repeat apply Exists.intro);refine⟨?_,rfl⟩;exact⟨k+1,by omega,by go_num,by rw[kw n.out,kw o.out,v.out,j.out],f.trans (E.mono f.size)⟩)
     simp[intOf];omega
    .have t:b=false:=by
      rw[<-be,q.out];rintro rfl;exact j (de (n.out.symm.trans o.out))
     have r:=ab t;clear t;replace j:=ab j;go_wp2;have L:=ah p;have K:=ah D;have H:=ah z;have G:=ah s;refine aA (by kernel_rfl) (by kernel_rfl) ?_;repeat(go_big_quiet_step (first|(go_at_call 59;refine aO (adZ x y _ false ?_);(simp only[fa,qN];exact j.out))))
     refine ge ?_;intro V C;have E:=aG C;clear C L K H G;go_wp2;go_ret;exact⟨ak r.out.symm,f.trans (E.mono f.size)⟩
   .obtain rfl:k=xs.length:=by omega
    have P:b=true:=by
     rw[q.out];have:=v.out
     rwa [fd,nf (by have:=a.out;omega)] at this
    have r:=ab P;clear P;go_wp2;go_ret;exact⟨ak r.out.symm,f⟩
 .have t1:((xs.length:Int) !=m.length)=true:=by rw[qI];omega
  have t:b=false:=by
   rw[<-be,q.out];rintro rfl;exact a rfl
  have r:=ab t;clear t;replace a:=ab a;go_enter xf,ntmps39;go_wp2;go_ret;exact⟨ak r.out.symm,dk _ _⟩
end
end Go.Proofs.YtlggbfanooejbaaGreatDoor