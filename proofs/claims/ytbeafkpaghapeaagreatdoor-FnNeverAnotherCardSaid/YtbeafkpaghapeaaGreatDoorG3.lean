/- A part of the proof. -/
import Derived.Test.YtbeafkpaghapeaaGreatDoorG2
import Derived.StillTail
import Derived.Deep.RegionHeld3
import Derived.Deep.RegionLaw
import Derived.Laws.OwnMore
import Derived.Lib.Builder
import Derived.Lib.Strings
import Derived.Lib.Slices
import Derived.Lib.AppendStr
import Derived.Lib.FrozenHead
import Derived.Lib.UnsafeStr
import Derived.Lib.MakeNoZero
import Derived.Shelf.RegionOpenPlain
import Derived.Laws.Externs
import Derived.Laws.IdiomCopy
import Derived.Laws.BitsLemmas
set_option maxRecDepth 100000
set_option maxHeartbeats 8000000
set_option linter.all false
open Go Go.RowKit Go.Proofs.Tryz Go.Proofs.YtbeafkpaghapeaaGreatDoor
variable {Z W b base' c g hi i j k m n:Nat} {X a:Act} {U:Type} {o:Oper} {p:Addr} {u v:Value} {w w' w2 x:World} {O e t:TypeId} {f:FuncId} {P:Program} {S:Nat→Prop} {l:List Int} {M rest:List Oper} {s:ByteArray} {Y:Array Oper} {N:List Value} {d:Option Tmp} {listed:Array Bool} {T cs es:Array Value} {A:Option Addr} {V:Act→World→Prop} {xs:List ByteArray} {R Q:Exit→Act→World→Prop} {E:fV U}
namespace Go.Proofs.YtbeafkpaghapeaaGreatDoor
def fd:=@_root_.Go.RowKit.Below.refl
def gc:=@_root_.List.take_length
def ge:=@_root_.List.getD_cons_zero
def gn:=@_root_.List.getD_cons_succ
def gt:=@_root_.Go.wpQuiet_nil
def lP:=@_root_.Bool.not_eq_true
def mw:=@_root_.List.length_nil
def oR:=@_root_.Go.World.size_alloc
def pa:=@_root_.Go.bodyPost_ret
def pe:=@_root_.List.mem_singleton
def qe:=@_root_.Int.eq_ofNat_of_zero_le
def qj:=@_root_.List.length_drop
def qm:=@_root_.List.getElem?_eq_some_iff
def qz:=@_root_.Go.Addr.mk.injEq
def qD:=@_root_.bne_eq_false_iff_eq
def qQ:=@_root_.List.length_set
def qR:=@_root_.Array.getElem?_push_size
def qX:=@_root_.Go.Lib.cell_of_heap
def qZ:=@_root_.Nat.min_eq_left
def rm:=@_root_.Nat.succ_mul
def rI:=@_root_.Go.Lib.byteCells_length
def rK:=@_root_.Nat.add_sub_cancel_left
def rQ:=@_root_.List.length_filter_le
def rR:=@_root_.List.drop_eq_getElem_cons
def rU:=@_root_.List.append_nil
def rY:=@_root_.Nat.le_of_succ_le
def sg:=@_root_.List.filter_eq_self
def sq:=@_root_.List.mem_flatMap
def sG:=@_root_.List.mem_filter
def sH:=@_root_.List.mem_append_right
def sL:=@_root_.List.getD_eq_getElem?_getD
def sM:=@_root_.of_decide_eq_true
def sN:=@_root_.List.foldl_append
def sW:=@_root_.List.getElem?_take_of_lt
def sX:=@_root_.List.flatMap_append
def sY:=@_root_.decide_eq_false_iff_not
def th:=@_root_.List.getElem?_drop
def tp:=@_root_.true_iff
def tu:=@_root_.List.size_toArray
def tw:=@_root_.Int.toNat_natCast
def tH:=@_root_.Go.getD_replicate_false
def tI:=@_root_.Nat.mod_lt
def tS:=@_root_.List.pairwise_cons
def tX:=@_root_.Go.World.block_lt_of_cell?
def tY:=@_root_.List.pairwise_singleton
def ue:=@_root_.List.filter_cons_of_pos
def uf:=@_root_.List.filter_cons_of_neg
def ug:=@_root_.Go.World.ownsRow_nil
def uw:=@_root_.Go.IntKind.wrap_i64
def uz:=@_root_.false_iff
def uB:=@_root_.List.set_append_right
def uE:=@_root_.Nat.zero_mul
def uF:=@_root_.List.mem_of_mem_drop
def uG:=@_root_.List.mem_append_left
def uL:=@_root_.List.take_succ_cons
def uN:=@_root_.Bool.false_and
def uR:=@_root_.Go.Lib.frozen_of_heap
def uS:=@_root_.Int.emod_lt_of_pos
def uT:=@_root_.Prod.mk.injEq
def uU:=@_root_.Nat.mod_two_eq_zero_or_one
def uX:=@_root_.Bool.true_and
def vh:=@_root_.Nat.lt_trichotomy
def vD:=@_root_.Nat.div_add_mod'
def vH:=@_root_.List.nodup_cons
def vI:=@_root_.Int.emod_nonneg
def vN:=@_root_.List.take_append_drop
def vW:=@_root_.Nat.div_lt_of_lt_mul
def vY:=@_root_.List.pairwise_append
section
variable {β:Bool}
def agL:Op->Bool
 |.move .. | .assign .. | .pick .. | .load .. | .binOp .. | .unOp .. | .convert .. | .slice .. | .fieldAddr .. | .field .. | .indexAddr .. | .index .. | .lookup .. | .extract .. | .build .. | .typeAssert .. | .makeInterface .. | .makeFunc .. | .nilCheck .. =>true
 |.call c=>match c.callee with
  |.builtin .len=>true
  |_=>false
 |_=>false
def agM(h:agL o.op=true){ρ:Operand->Value}{args:Array Value}:(execOp ρ o).run P w ≠ .ok (.enter f args) w':=by
 obtain⟨dst,op,j,k,after,g⟩:=o;cases op<;>simp only[agL,kw] at h
 case nilCheck x=>
  simp only[execOp];intro a;split at a
  .simp[runtimePanic] at a
  .simp[runtimePanic] at a
  .simp[runtimePanic] at a
  .split at a
   .simp[runtimePanic] at a
   .revert a;simp only[tA];generalize (Sem.run P program w:Result _)=r;cases r with
    |halt x i=>simp[Result.andThen]
    |ok p i=>
     simp only[Result.andThen];generalize (Sem.run P (nilAhead _ _ _ _) i:Result _)=r2;cases r2 with
     |halt x l=>simp
     |ok b l=>
      simp only;split
      .simp[unsupported]
      .simp
   .simp at a
  .simp at a
 case call c=>
  obtain⟨d,args,e⟩:=c;cases d with
  |value x=>cases h
  |invoke x n=>cases h
  |builtin b=>
   cases b<;>first
    |(exfalso;cases h;done)
    |(simp only[execOp,resolve,invoke,builtin,tA,tR,uh]
      intro a;revert a;generalize (Sem.run P (Builtin.len_ _ _ _) w:Result _)=r;cases r<;>simp[Result.andThen])
 all_goals simp only[execOp,tA,tR]
 all_goals intro a
 all_goals
  first
   |(cases a;done)
   |(revert a;generalize (Sem.run P _ w:Result _)=r;cases r<;>simp[Result.andThen];done)
   |(revert a;generalize (Sem.run P _ w:Result _)=r;cases r<;>simp[Result.andThen];generalize (Sem.run P _ _:Result _)=r;cases r<;>simp;done)
def kV(o:Oper)(i:Nat):Bool:=o.after.any λe=>Region.binds .any e&&e.on ==i
def ah7(h:kV o i=true):∃e∈o.after,Region.binds .any e=true/\e.on=i:=by
 obtain⟨e,a,h⟩:=Array.any_eq_true'.1 h;simp only[ff,nF] at h;exact⟨e,a,h.1,h.2⟩
def apY(g:a.tmps.size=X.tmps.size)(h:X.put d u=X.put d v):a.put d u=a.put d v:=by
 cases d with
 |none=>rfl
 |some t=>
  rcases pi t a.tmps.size with e|i
  .have f:=jn (λb:Act=>b.tmps[t]?) h;have c:t<X.tmps.size:=g▸e;simp[Act.put,c] at f;rw[f]
  .simp[Act.put,Array.setIfInBounds,Nat.not_lt.2 i]
section
variable {P:Program} {ops:Array Oper}
def anN  (hi:ops[i]?=some o)  {G:Value->World->Prop}  
  (y:a.tmps.size=X.tmps.size) (z:execOp a.eval o=execOp X.eval o) (t:Region.wanted o (yielded ops a.tmps)=Region.wanted o (yielded ops X.tmps))
  (h:wpList P ops (λe b w=>e=.normal/\∃v,b=X.put o.dst v/\G v w) [o] X w)
  (s:∀v w,G v w->V (a.put o.dst v) w):wpOp P ops Q i V a w:=by
 have g:∀{u:Value} {k:World},(∃v,X.put o.dst u=X.put o.dst v/\G v k)->V (a.put o.dst u) k:=by
  rintro u k ⟨v,p,q⟩;rw[apY y p];exact s _ _ q
 unfold wpOp;simp only[hi];unfold wpList at h;rw[<-t] at h;split
 .rename_i j;rw[dq j] at h;rcases h with h|⟨_,b,k,m,_⟩
  .refine .inl ?_;unfold Oper.wp at *;rw[<-z] at h;generalize (execOp a.eval o).run P w=r at *;cases r with
   |ok A k=>
    cases A<;>simp only[Oper.upon,wpList] at h ⊢
    case value u=>exact g h.2
    case skip=>exact g h.2
    case defer d=>
     obtain⟨_,v,p,_⟩:=h;have:=jn (λb:Act=>b.defers.length) p;cases hd:o.dst<;>simp[Act.put,hd] at this
    case enter f args=>
     refine h.mono λe n l=> ?_;cases e with
     |returned u=>exact g l.2
     |panicked c=>cases l.1
     |outgrown=>
      obtain⟨b,B,m,_⟩:=l;cases m
    case row row args=>exact Rows.mono h λu n l=>g l.2
   |halt x k=>
    cases x<;>simp only[Oper.upon] at h ⊢
    case panic u=>cases h.1
  .cases m
 .rename_i j;rw[bv j] at h;exact g h.2
def ah8(ops:Array Oper)(n:Nat):Bool:=
 (n ==ops.size||(decide (n<ops.size)&&Region.sinkB .any ops n&&Region.chainB .any ops n))&&Region.seqB .any ops (ops.size-n) n ((Array.replicate n true)++Array.replicate (ops.size-n) false)
def amw(ops:Array Oper)(n:Nat):Bool:=
 (List.range n).all λi=>match ops[i]? with
  |some o=>o.after.all λe=>!Region.binds .any e||decide (e.on<i)
  |none=>false
def anO(h:amw ops n=true)(hi:i<n)(b:ops[i]?=some o){e:Edge}(c:e∈o.after)(f:Region.binds .any e=true):e.on<i:=by
 have a:=lE.1 h i (qr.2 hi);simp only[b] at a;have d:=Array.all_eq_true_iff_forall_mem.1 a e c;simpa[f] using d
def left(n:Nat)(listed:Array Bool):Nat:=((List.range n).filter λi=>listed.getD i true ==false).length
def ah9[DecidableEq U]{l:List U}(d:l.Nodup){p q:U->Bool}{i:U}(hi:i∈l)(k:p i=true)(m:q i=false)(f:∀j,j≠i->p j=q j):(l.filter p).length=(l.filter q).length+1:=by
 induction l with
 |nil=>cases hi
 |cons a t n=>
  rw[vH] at d;by_cases c:a=i
  .subst c;rw[ue k,uf (by simp[m])];have:t.filter p=t.filter q:=List.filter_congr λj o=>f j λe=>d.1 (e▸o);simp[this]
  .have g:i∈t:=by
    rcases oE.1 hi with h|h
    .exact absurd h.symm c
    .exact h
   have:=n d.2 g;by_cases b:p a=true
   .rw[ue b,ue (by rw[<-f a c];exact b)];simp[this]
   .rw[uf b,uf (by rw[<-f a c];exact b)];exact this
def apZ(hi:i<n)(h:listed.getD i true=false):left n listed=left n (listed.setIfInBounds i true)+1:=by
 have c:i<listed.size:=by
  rcases pi i listed.size with a|a
  .exact a
  .simp[qd a] at h
 refine ah9 List.nodup_range (qr.2 hi) (by rw[h];rfl) (by simp[c]) λj b=> ?_;rw[getD_set_ne true (sj b)]
def anP(h:0<left n listed):∃i,i<n/\listed.getD i true=false/\∀j,j<i->listed.getD j true=true:=by
 unfold left at h;have f:∃i,i<n/\listed.getD i true=false:=by
  obtain⟨i,b⟩:=List.exists_mem_of_length_pos h;rw[sG,qr] at b;exact⟨i,b.1,by simpa using b.2⟩
 obtain⟨i,b⟩:=f
 induction i using Nat.strongRecOn with
 |_ i k=>
  by_cases a:∀j,j<i->listed.getD j true=true
  .exact⟨i,b.1,b.2,a⟩
  .have g:∃j,j<i/\listed.getD j true=false:=by
    apply qN;intro c;exact a λj d=>by
     cases e:listed.getD j true with
     |true=>rfl
     |false=>exact absurd ⟨j,d,e⟩ c
   obtain⟨j,d,e⟩:=g;exact k j d ⟨by omega,e⟩
def anQ(h:left n listed=0)(hi:i<n):listed.getD i true=true:=by
 unfold left at h;have a:=qM h;rw[List.filter_eq_nil_iff] at a;have:=a i (qr.2 hi);cases b:listed.getD i true with
 |true=>rfl
 |false=>rw[b] at this;simp at this
def afN(a:i<listed.size)(h:listed.getD i true=true):listed.getD i false=true:=by
 simp[a] at h ⊢;exact h
inductive Behind (ops:Array Oper):Nat->Nat->Prop where
 |as8 {i:Nat} {o:Oper} {e:Edge}:ops[i]?=some o->e∈o.after->Region.binds .any e=true->Behind ops i e.on
 |next {i j:Nat} {o:Oper} {e:Edge}:ops[i]?=some o->e∈o.after->Region.binds .any e=true->Behind ops e.on j->Behind ops i j
def aff{ops:Array Oper}(c:HeadInv .any ops n listed)(h:Behind ops i j):(∀o,ops[i]?=some o->∀e∈o.after,Region.binds .any e=true->listed.getD e.on false=true)->listed.getD j false=true:=by
 induction h with
 |as8 a g d=>exact λb=>b _ a _ g d
 |next a g d _ p=>exact λb=>p λm l q k f=>c.closed _ m l (b _ a _ g d) q k f
class bc (X:Type) where
 live:Nat->X->Prop
 down:∀m x,live (m+1) x->live m x
 pend:Nat->X->Prop
def as9(n:Nat)(listed:Array Bool):left n listed<=n:=by
 unfold left;exact ap (rQ _ _) (by simp)
variable {X:Type} [bc X] {to:X->World} {le:X->X->Prop} {Q:Exit->Act->World->Prop}
def ap0 (hn:n<=ops.size) (s:ah8 ops n=true) (N:amw ops n=true) (A:Act->Prop) (Φ:Nat->Act->X->Prop)
  (w:∀m i o,i<n->ops[i]?=some o->∀a x,A a->bc.live (m+1) x->bc.pend i x->(∀j,j<n->kV o j=true->Φ j a x)->∀K:Act->World->Prop,
   (∀v y,le x y->bc.live m y->(∀j,j≠i->¬Behind ops i j->bc.pend j x->bc.pend j y)->A (a.put o.dst v)->Φ i (a.put o.dst v) y->K (a.put o.dst v) (to y))->wpOp P ops Q i K a (to x))
  (R:∀i j o a x y v,i<n->j<n->i≠j->ops[j]?=some o->A a->Φ i a x->le x y->Φ i (a.put o.dst v) y)
  (J:∀a x,A a->(∀i,i<n->Φ i a x)->wpList P ops Q (ops.toList.drop n) a (to x)) :
  ∀(f:Nat) (listed:Array Bool) (a:Act) (x:X),left n listed=f->HeadInv .any ops n listed->A a->bc.live f x->(∀i,i<n->listed.getD i false=false->bc.pend i x)->(∀i,i<n->listed.getD i false=true->Φ i a x)->
   wpAny P .any ops Q (f+(ops.size-n)) listed a (to x):=by
 intro f
 induction f with
 |zero=>
  intro listed a x hf inv H G r k;have b:∀i,i<n->listed.getD i true=true:=λi g=>anQ hf g;have hL:listed=(Array.replicate n true)++Array.replicate (ops.size-n) false:=by
   apply Array.ext
   .rw[inv.size];simp;omega
   .intro i l h2;rcases pi i n with p|p
    .rw[Array.getElem_append_left (by simpa using p)];have:=b i p;simp[l] at this;simp[this]
    .rw[Array.getElem_append_right (by simpa using p)];have:=inv.tail i p (by rw[<-inv.size];exact l);simp[l] at this;simp[this]
  unfold ah8 at s;rw[ff] at s;have d:(ops.toList.drop n).length=ops.size-n:=by simp
  rw[mc,<-d,hL];refine wpAny_of_seq _ n _ a (to x) (λj=>by rw[th,du]) (by rw[d];exact s.2) (J a x H λi g=>k i g ?_);exact afN (by rw[inv.size];omega) (b i g)
 |succ f ih=>
  intro listed a x hf inv H G r k;obtain⟨u,U,E,S⟩:=anP (n:=n) (listed:=listed) (by omega);rw[show f+1+(ops.size-n)=(f+(ops.size-n))+1 by omega];have I:∀i∈Region.ready .any ops listed,i<n:=by
   intro i g;unfold ah8 at s;simp only[ff,qV,nF,qS] at s;rcases s.1 with h|⟨⟨l,h2⟩,p⟩
   .obtain⟨_,o,D,_⟩:=mem_ready.1 g;rw[h];exact(dl.1 D).1
   .rcases pi i n with h|h
    .exact h
    .exact absurd g (tail_waits h2 p l inv _ u rfl U E i h)
  refine⟨λh0=> ?_,λi g=> ?_⟩
  .exfalso;have C:u<ops.size:=bd U hn;have:u∈Region.ready .any ops listed:=mem_ready.2 ⟨E,ops[u],fi C,λe F z=>by
    have l:=anO N U (fi C) F z;exact afN (by rw[inv.size];omega) (S _ l)⟩
   rw[h0] at this;cases this
  .have B:=I i g;obtain⟨q,o,D,b⟩:=mem_ready.1 g;have T:listed.getD i false=false:=by
    have W:i<listed.size:=by rw[inv.size];omega
    simp[W] at q ⊢;exact q
   refine w f i o B D a x H G (r i B T) (λj t hw=> ?_) _ λv y Z Y L V M=> ?_
   .obtain⟨e,F,z,rfl⟩:=ah7 hw;exact k _ t (b e F z)
   .refine ih _ _ y ?_ (inv.set g B) V Y (λj t d=> ?_) λj t d=> ?_
    .have:=apZ B q;omega
    .have c:j≠i:=by
      rintro rfl;have W:j<listed.size:=by rw[inv.size];omega
      simp[W] at d
     rw[getD_set_ne false (sj c)] at d;refine L j c (λO=> ?_) (r j t d);have:=aff inv O λo' ov e F z=>(by
      obtain rfl:o=o':=dk (D.symm.trans ov);exact b e F z)
     rw[this] at d;cases d
    .by_cases c:j=i
     .subst c;exact M
     .rw[getD_set_ne false (sj c)] at d;exact R j i o a x y v t B c D H (k j t d) Z
inductive iM (X:Type) where
 |fix (v:Value)
 |any (R:Value->X->Prop)
def iM.keep(le:X->X->Prop):iM X->Prop
 |.fix _=>True
 |.any R=>∀v x y,R v x->le x y->R v y
def iM.holds(r:iM X)(v:Value)(x:X):Prop:=
 match r with
 |.fix a=>v=a
 |.any R=>R v x
def Good(P:Program)(ops:Array Oper)(to:X->World)(le:X->X->Prop)(i:Nat)(o:Oper)(a:Act)(x:X)(r:iM X):Prop:=
 ∀m,bc.live (m+1) x->bc.pend i x->∀b:Exit->Act->World->Prop,(∀v y,le x y->bc.live m y->(∀j,j≠i->¬Behind ops i j->bc.pend j x->bc.pend j y)->r.holds v y->b .normal (a.put o.dst v) (to y))->wpList P ops b [o] a (to x)
def oU(ops:Array Oper)(n:Nat)(t:Tmp)(j:Nat):Prop:=j<n/\∃o,ops[j]?=some o/\o.dst=some t
def aeo(ops:Array Oper)(n N:Nat):Bool:=
 (List.range n).all λi=>match ops[i]? with
  |some o=>match o.dst with
   |some d=>decide (d<N)&&(List.range i).all λj=>((ops[j]?).bind (·.dst)) !=some d
   |none=>true
  |none=>true
def akh{N : Nat}(h:aeo ops n N=true){t:Tmp}(d:oU ops n t j):t<N:=by
 obtain⟨a,o,c,hd⟩:=d;have b:=lE.1 h j (qr.2 a);simp only[c,hd,ff,qS] at b;exact b.1
def aia{N : Nat}(h:aeo ops n N=true){t:Tmp}(hi:oU ops n t i)(l:oU ops n t j)(b:j<i):False:=by
 obtain⟨k,o,g,hd⟩:=hi;obtain⟨f,p,e,a⟩:=l;have d:=lE.1 h i (qr.2 k);simp only[g,hd,ff] at d;have c:=lE.1 d.2 j (qr.2 b);rw[e] at c;simp[a] at c
def agN{N : Nat}(h:aeo ops n N=true){t:Tmp}(hi:oU ops n t i)(b:oU ops n t j):i=j:=by
 rcases vh i j with a|a|a
 .exact(aia h b hi a).elim
 .exact a
 .exact(aia h hi b a).elim
def amx(ops:Array Oper)(n:Nat)(t:Tmp):(∃j,oU ops n t j)\/∀j,¬oU ops n t j:=by
 by_cases h:∃j,oU ops n t j
 .exact .inl h
 .exact .inr λj a=>h ⟨j,a⟩
def wK(a:Act)(o:Oper):Value:=match o.dst with
 |some d=>a.tmps.getD d undef
 |none=>undef
structure agO (ops:Array Oper) (n:Nat) (a0 a:Act):Prop where
 size:a.tmps.size=a0.tmps.size
 off:∀t,(∀j,¬oU ops n t j)->a.tmps[t]?=a0.tmps[t]?
 rest:{a with tmps:=a0.tmps}=a0
def agO.refl(ops:Array Oper)(n:Nat)(a:Act):agO ops n a a:=⟨rfl,λ_ _=>rfl,rfl⟩
def nj{t:Tmp}(h:d≠some t):(a.put d v).tmps[t]?=a.tmps[t]?:=by
 cases d with
 |none=>rfl
 |some e=>
  have:e≠t:=λb=>h (by rw[b]);simp[Act.put,jp this]
def amy{t:Tmp}(h:t<a.tmps.size):(a.put (some t) v).tmps[t]?=some v:=by
 simp[Act.put,h]
def abI(a:Act)(d:Option Tmp)(v:Value):(a.put d v).tmps.size=a.tmps.size:=by
 cases d<;>simp[Act.put]
def agO.put{b : Act}(h:agO ops n b a)(e:j<n)(d:ops[j]?=some o):agO ops n b (a.put o.dst v):=by
 refine⟨by rw[abI,h.size],λt c=> ?_, ?_⟩
 .rw[nj (λhd=>c j ⟨e,o,d,hd⟩)];exact h.off t c
 .rw[<-h.rest];cases hd:o.dst<;>simp[Act.put]
def fJ(U:Nat->Value)(a:Act)(L:List (Nat×Oper)):Act:=L.foldl (λb p=>b.put p.2.dst (U p.1)) a
def acz(U:Nat->Value):∀(L:List (Nat×Oper)) (a:Act),(fJ U a L).tmps.size=a.tmps.size
 |[],_=>rfl
 |p::L,a=>by
  show(fJ U (a.put p.2.dst (U p.1)) L).tmps.size=_;rw[acz U L,abI]
def nk(U:Nat->Value){t:Tmp}:∀(L:List (Nat×Oper)) (a:Act),(∀p∈L,p.2.dst≠some t)->(fJ U a L).tmps[t]?=a.tmps[t]?
 |[],_,_=>rfl
 |p::L,a,h=>by
  show(fJ U (a.put p.2.dst (U p.1)) L).tmps[t]?=_;rw[nk U L _ λq b=>h q (by simp[b]),nj (h p (by simp))]
def abJ(U:Nat->Value){t:Tmp}{i:Nat}{o:Oper}:∀(L:List (Nat×Oper)) (a:Act),(i,o)∈L->o.dst=some t->t<a.tmps.size->(∀p∈L,p.2.dst=some t->p.1=i)->(fJ U a L).tmps[t]?=some (U i)
 |[],_,h,_,_,_=>by cases h
 |p::L,a,h,hd,hs,ads=>by
  show(fJ U (a.put p.2.dst (U p.1)) L).tmps[t]?=_;by_cases g:(i,o)∈L
  .exact abJ U L _ g hd (by rw[abI];exact hs) λq c=>ads q (by simp[c])
  .rcases oE.1 h with rfl|h
   .by_cases e:∃q∈L,q.2.dst=some t
    .obtain⟨q,c,b⟩:=e;have d:=ads q (by simp[c]) b;have:=abJ U (i:=q.1) (o:=q.2) L (a.put o.dst (U i)) c b (by rw[abI];exact hs) λr j f=>by rw[ads r (by simp[j]) f,d]
     rw[this,d]
    .rw[nk U L _ λq c b=>e ⟨q,c,b⟩,hd];exact amy hs
   .exact absurd h g
def acA(U:Nat->Value):∀(L:List (Nat×Oper)) (a:Act),{fJ U a L with tmps:=a.tmps}=a
 |[],_=>rfl
 |p::L,a=>by
  show{fJ U (a.put p.2.dst (U p.1)) L with tmps:=a.tmps}=_;have h:=acA U L (a.put p.2.dst (U p.1));have d:{a.put p.2.dst (U p.1) with tmps:=a.tmps}=a:=by cases hd:p.2.dst<;>simp[Act.put]
  have c:=jn (λb:Act=>{b with tmps:=a.tmps}) h;simp only at c;rw[d] at c;exact c
def atc{b : Act}(h:{a with tmps:=b.tmps}=b)(f:a.tmps.size=b.tmps.size)(e:∀t:Nat,a.tmps[t]?=b.tmps[t]?):a=b:=by
 have c:a.tmps=b.tmps:=Array.ext f λi c d=>by
  have:=e i;simpa[c,d] using this
 rw[<-h,<-c]
def anR(c:∀l b,o.op ≠ .select l b){b : Act}(h:∀t∈o.looksAt ops,a.tmps[t]?=b.tmps[t]?) :
  execOp a.eval o=execOp b.eval o/\Region.wanted o (yielded ops a.tmps)=Region.wanted o (yielded ops b.tmps):=by
 constructor
 .refine execOp_congr o c λx k=> ?_;cases x with
  |tmp t=>
   have:=h t (uG _ (List.mem_filterMap.2 ⟨.tmp t,by simpa using k,rfl⟩));simp[Act.eval,this]
  |_=>rfl
 .unfold Region.wanted;cases j:o.guard with
  |none=>rfl
  |some i=>
   obtain⟨g,d⟩:=i;have e:yielded ops a.tmps g=yielded ops b.tmps g:=by
    unfold yielded;cases f:(ops[g]?).bind (·.dst) with
    |none=>rfl
    |some t=>
     have:=h t (sH _ (by simp[j,f]));simp[this]
   simp only[e]
def aki(ops:Array Oper)(n:Nat):Bool:=
 (List.range n).all λi=>match ops[i]? with
  |some o=>(o.looksAt ops).all λt=>(List.range n).all λj=>((ops[j]?).bind (·.dst)) !=some t||kV o j
  |none=>true
def aep(h:aki ops n=true)(hi:i<n)(e:ops[i]?=some o){t:Tmp}(k:t∈o.looksAt ops)(f:oU ops n t j):kV o j=true:=by
 obtain⟨a,p,d,hd⟩:=f;have b:=lE.1 h i (qr.2 hi);simp only[e] at b;have g:=lE.1 b t k;have c:=lE.1 g j (qr.2 a);rw[d] at c;simpa[hd] using c
def anS (hn:n<=ops.size) (an:Region.noSelect ops=true) (ht:ah8 ops n=true) (a8:amw ops n=true) (ad:aki ops n=true) {q:Act} (B:aeo ops n q.tmps.size=true)
  (T:Nat->iM X) (hT:∀i,(T i).keep le) (aG:∀i o,i<n->ops[i]?=some o->(∃v,T i=.fix v)\/o.dst.isSome=true\/∀R,T i=.any R->∀u v x,R u x->R v x) (L:List (Nat×Oper)) (hL:∀i o,ops[i]?=some o->i<n->(i,o)∈L) (F:∀p∈L,p.1<n/\ops[p.1]?=some p.2)
  (ay:∀i o,i<n->ops[i]?=some o->∀U:Nat->Value,(∀j g,T j=.fix g->U j=g)->
   ∃al:Act,agO ops n q al/\(∀t j,t∈o.looksAt ops->oU ops n t j->al.tmps[t]?=some (U j))/\∀x,(∀j,j<n->kV o j=true->(T j).holds (U j) x)->Good P ops to le i o al x (T i))
  (fin:∀U:Nat->Value,(∀j g,T j=.fix g->U j=g)->∀x,(∀j,j<n->(T j).holds (U j) x)->wpList P ops Q (ops.toList.drop n) (fJ U q L) (to x))
  (x0:X) (a6:bc.live (left n (Array.replicate ops.size false)) x0) (aI:∀i,i<n->bc.pend i x0):wpAny P .any ops Q ops.size (Array.replicate ops.size false) q (to x0):=by
 let c:Act->Nat->Value:=λa j=>match T j with
  |.fix g=>g
  |.any _=>match ops[j]? with
   |some Y=>wK a Y
   |none=>undef
 have hU:∀a j g,T j=.fix g->c a j=g:=λa j g h=>by simp only[c,h]
 let Φ:Nat->Act->X->Prop:=λi a x=>∀o,ops[i]?=some o->(∀d,o.dst=some d->a.tmps[d]?=some (c a i))/\(T i).holds (c a i) x
 have a5:∀{i o a v x},i<n->ops[i]?=some o->agO ops n q a->(T i).holds v x->Φ i (a.put o.dst v) x:=by
  intro i o a v x k l z I Z ov;obtain rfl:o=Z:=dk (l.symm.trans ov);have S:∀d,o.dst=some d->(a.put o.dst v).tmps[d]?=some v:=λd hd=>by
   rw[hd];exact amy (by rw[z.size];exact akh B ⟨k,o,l,hd⟩)
  have V:c (a.put o.dst v) i=v\/(o.dst=none/\∃R,T i=.any R/\∀u v x,R u x->R v x):=by
   cases e:T i with
   |fix g=>
    rw[hU _ _ _ e];rw[e] at I;exact .inl I.symm
   |any R=>
    simp only[c,e,l,wK];have s:o.dst.isSome=true->(match o.dst with|some d=>(a.put o.dst v).tmps.getD d undef|none=>undef)=v:=λO=>by
     obtain⟨d,hd⟩:=ry.1 O;have:=S d hd;simp only[hd] at this ⊢;simp[gE,this]
    rcases aG i o k l with⟨g,O⟩|O|O
    .rw[e] at O;cases O
    .exact .inl (s O)
    .cases hd:o.dst with
     |some d=>left;have:=s (by rw[hd];rfl);simpa only[hd] using this
     |none=>exact .inr ⟨rfl,R,rfl,O R e⟩
  rcases V with V|⟨hd,R,hR,ax⟩
  .rw[V];exact⟨S,I⟩
  .refine⟨λd a1=>(by rw[hd] at a1;cases a1), ?_⟩;rw[hR] at I ⊢;exact ax _ _ _ I
 have H:=ap0 (P:=P) (Q:=Q) (to:=to) (le:=le) hn ht a8 (agO ops n q) Φ ?step ?awJ ?fin (left n (Array.replicate ops.size false)) (Array.replicate ops.size false) q x0 rfl
  ⟨by simp,λj Y _ E=>(by rw[tH] at E;cases E),λt _ ht=>getD_in (by simpa using ht) (tH _ _)⟩ (agO.refl _ _ _) a6 (λi k _=>aI i k) (λi k E=>(by rw[tH] at E;cases E))
 case step=>
  intro m i o k l a x z aT a7 a2 K hK;obtain⟨al,nY,a9,iN⟩:=ay i o k l (c a) (hU a);have aa:∀j,j<n->kV o j=true->(T j).holds (c a j) x:=λj f hw=>(a2 j f hw _ (fi (bd f hn))).2;have kg:∀t∈o.looksAt ops,a.tmps[t]?=al.tmps[t]?:=by
   intro t a3;rcases amx ops n t with⟨j,f⟩|r
   .have hw:=aep ad k l a3 f;obtain⟨C,Y,J,hd⟩:=id f;rw[a9 t j a3 f,(a2 j C hw Y J).1 t hd]
   .rw[z.off t r,nY.off t r]
  obtain⟨h1,N⟩:=anR (λcs b=>Region.noSelect_spec an i o cs b l) kg;refine anN (G:=λv w=>∃y,w=to y/\le x y/\bc.live m y/\(∀j,j≠i->¬Behind ops i j->bc.pend j x->bc.pend j y)/\(T i).holds v y) l (by rw[z.size,nY.size]) h1 N (iN x aa m aT a7 _ λv y A E M I=>⟨rfl,v,rfl,y,rfl,A,E,M,I⟩) ?_;rintro v w ⟨y,rfl,A,E,M,I⟩;exact hK v y A E M (z.put k l) (a5 k l z I)
 case awJ=>
  intro i j o a x y v k f ao l z D A Z ov;obtain⟨h1,N⟩:=D Z ov;have a0:∀d,Z.dst=some d->o.dst≠some d:=λd hd aX=>ao (agN B ⟨k,Z,ov,hd⟩ ⟨f,o,l,aX⟩);have af:c (a.put o.dst v) i=c a i:=by
   cases e:T i with
   |fix g=>rw[hU _ _ _ e,hU _ _ _ e]
   |any R=>
    simp only[c,e,ov,wK];cases hd:Z.dst with
    |none=>rfl
    |some d=>
     have:=nj (a:=a) (v:=v) (a0 d hd);simp only[gE,this]
  rw[af];refine⟨λd hd=>by rw[nj (a0 d hd)];exact h1 d hd, ?_⟩;have hk:=hT i;cases e:T i with
  |fix g=>rw[e] at N;exact N
  |any R=>
   rw[e] at N hk;exact hk _ _ _ N A
 case fin=>
  intro a x z D;have a4:∀j,j<n->(T j).holds (c a j) x:=λj f=>(D j f _ (fi (bd f hn))).2;have he:a=fJ (c a) q L:=by
   refine atc ?_ ?_ ?_
   .have h1:=z.rest;have N:=acA (c a) L q;have h3:=jn (λb:Act=>{b with tmps:=(fJ (c a) q L).tmps}) (h1.trans N.symm);exact h3
   .rw[z.size,acz]
   .intro t;rcases amx ops n t with⟨j,f⟩|r
    .obtain⟨C,Y,J,hd⟩:=id f;rw[(D j C Y J).1 t hd,abJ (c a) L q (hL j Y J C) hd (akh B f) λp M W=> ?_];exact agN B ⟨(F p M).1,p.2,(F p M).2,W⟩ f
    .rw[z.off t r,nk _ _ _ λp M W=>r p.1 ⟨(F p M).1,p.2,(F p M).2,W⟩]
  rw[he];exact fin _ (hU a) x a4
 have aL:left n (Array.replicate ops.size false)=n:=by
  unfold left;rw[sg.2]
  .simp
  .intro i k;have aY:=qr.1 k;rw[getD_in (by simp;omega) (tH _ _)];rfl
 rw[aL,show n+(ops.size-n)=ops.size by omega] at H;exact H
def abK:List (Nat×(X->Prop))->Oper->X->Prop
 |[],_,_=>True
 |(j,p)::F,o,x=>(kV o j=true->p x)/\abK F o x
def dP:List (Nat×(X->Prop))->X->Prop
 |[],_=>True
 |(_,p)::F,x=>p x/\dP F x
omit [bc X] in
def amz{F:List (Nat×(X->Prop))}{x:X}(h:∀p∈F,kV o p.1=true->p.2 x):abK F o x:=by
 induction F with
 |nil=>trivial
 |cons p F b=>exact⟨h p (by simp),b λq a=>h q (by simp[a])⟩
omit [bc X] in
def atd{F:List (Nat×(X->Prop))}{x:X}(h:∀p∈F,p.2 x):dP F x:=by
 induction F with
 |nil=>trivial
 |cons p F b=>exact⟨h p (by simp),b λq a=>h q (by simp[a])⟩
def cR(P:Program)(ops:Array Oper)(to:X->World)(le:X->X->Prop)(Qt:Act->World->Prop):List (Nat×Oper)->List (Nat×(X->Prop))->List (iM X)->Act->Prop
 |[],F,[],a=>∀x,dP F x->Qt a (to x)
 |(i,o)::l,F,.fix v0::Rs,a=>(∀x,abK F o x->Good P ops to le i o a x (.fix v0))/\cR P ops to le Qt l F Rs (a.put o.dst v0)
 |(i,o)::l,F,.any R::Rs,a=>(o.dst.isSome=true\/∀u v x,R u x->R v x)/\(∀v x y,R v x->le x y->R v y)/\(∀x,abK F o x->Good P ops to le i o a x (.any R))/\∀v,cR P ops to le Qt l ((i,R v)::F) Rs (a.put o.dst v)
 |_,_,_,_=>False
def agP{F:List (Nat×(X->Prop))}(h:∀x,dP F x->V a (to x)):cR P ops to le V [] F [] a:=h
def ate   {l:List (Nat×Oper)} {F:List (Nat×(X->Prop))} {e:List (iM X)} (c:Value)
  (s:∀x,abK F o x->∀m,bc.live (m+1) x->bc.pend i x->∀b:Exit->Act->World->Prop,(∀y,le x y->bc.live m y->(∀j,j≠i->¬Behind ops i j->bc.pend j x->bc.pend j y)->b .normal (a.put o.dst c) (to y))->wpList P ops b [o] a (to x))
  (g:cR P ops to le V l F e (a.put o.dst c)):cR P ops to le V ((i,o)::l) F (.fix c::e) a:=
 ⟨λx q m r f b p=>s x q m r f b λy n k d=>p c y n k d rfl,g⟩
def lS   {l:List (Nat×Oper)} {F:List (Nat×(X->Prop))} {d:List (iM X)} (R:Value->X->Prop) (e:o.dst.isSome=true\/∀u v x,R u x->R v x) (p:∀v x y,R v x->le x y->R v y)
  (w:∀x,abK F o x->∀m,bc.live (m+1) x->bc.pend i x->∀b:Exit->Act->World->Prop,(∀v y,le x y->bc.live m y->(∀j,j≠i->¬Behind ops i j->bc.pend j x->bc.pend j y)->R v y->b .normal (a.put o.dst v) (to y))->wpList P ops b [o] a (to x))
  (g:∀v,cR P ops to le V l ((i,R v)::F) d (a.put o.dst v)):cR P ops to le V ((i,o)::l) F (.any R::d) a:=
 ⟨e,p,λx r m s f b q=>w x r m s f b λv y n k c t=>q v y n k c t,g⟩
def pick(l:List Oper)(ord:List Nat):List (Nat×Oper):=ord.map λi=>(i,l.getD i default)
def agQ(ops:Array Oper)(n:Nat):List Nat->List Nat->Bool
 |[],_=>true
 |i::t,done=>(match ops[i]? with
  |some o=>(List.range n).all λj=>!kV o j||done.contains j
  |none=>false)&&agQ ops n t (i::done)
def aeq{n:Nat}:∀(c done:List Nat),agQ ops n c done=true->∀k i o j,c[k]?=some i->ops[i]?=some o->j<n->kV o j=true->j∈done\/j∈c.take k
 |[],_,_,k,i,_,_,h,_,_,_=>by simp at h
 |a::t,done,hB,k,i,o,j,h,ho,hj,hw=>by
  simp only[agQ,ff] at hB;cases k with
  |zero=>
   simp at h;subst h;have b:=hB.1;simp only[ho] at b;have d:=lE.1 b j (qr.2 hj);left;simpa[hw] using d
  |succ k=>
   rcases aeq t (a::done) hB.2 k i o j (by simpa using h) ho hj hw with b|b
   .rcases oE.1 b with rfl|b
    .right;simp
    .exact .inl b
   .right;rw[uL];exact qU _ b
def aib(l:List Oper)(n:Nat)(bU dr:List Nat):Bool:=
 Region.noSelect l.toArray&&decide (n<=l.length)&&ah8 l.toArray n&&amw l.toArray n&&aki l.toArray n&&decide ((bU++dr).Nodup)&&(List.range n).all (λi=>(bU++dr).contains i)&&(bU++dr).all (λi=>decide (i<n)) &&
  bU.all (λi=>agL (l.getD i default).op)&&agQ l.toArray n (bU++dr) []
def np{U V:Nat->Value}:∀(L:List (Nat×Oper)) (a:Act),(∀p∈L,U p.1=V p.1)->fJ U a L=fJ V a L
 |[],_,_=>rfl
 |p::L,a,h=>by
  show fJ U (a.put p.2.dst (U p.1)) L=fJ V (a.put p.2.dst (V p.1)) L;rw[h p (by simp)];exact np L _ λq b=>h q (by simp[b])
def ac7(U:Nat->Value)(L M:List (Nat×Oper))(a:Act):fJ U a (L++M)=fJ U (fJ U a L) M:=by
 unfold fJ;exact sN
def aer{C:World->Prop}{l:Act->Prop}:∀(L:List (Nat×Oper)) (a:Act),(L.map (·.1)).Nodup->wpQuiet P ops C l (L.map (·.2)) a->
  ∃V:Nat->Value,l (fJ V a L)/\∀(k:Nat) (p:Nat×Oper),L[k]?=some p->YieldsIn P ops C p.2 (V p.1) (fJ V a (L.take k))
 |[],a,_,h=>⟨λ_=>undef,h,λk p n=>by simp at n⟩
 |p::L,a,hn,h=>by
  rw[sd,vH] at hn;have t:∃v,YieldsIn P ops C p.2 v a/\wpQuiet P ops C l (L.map (·.2)) (a.put p.2.dst v):=by
   rw[sd] at h;unfold wpQuiet at h;split at h
   .rename_i g;obtain⟨v,u,o⟩:=h;exact⟨v,.inl ⟨g,u⟩,o⟩
   .rename_i g;exact⟨undef,.inr ⟨by simpa using g,rfl⟩,h⟩
  obtain⟨v,r,i⟩:=t;obtain⟨V,s,w⟩:=aer L _ hn.2 i
  let W:Nat->Value:=λj=>if j=p.1 then v else V j
  have f:W p.1=v:=by simp[W]
  have d:∀q∈L,W q.1=V q.1:=λq b=>by
   have:q.1≠p.1:=λe=>hn.1 (e▸ql.2 ⟨q,b,rfl⟩);simp[W,this]
  have m:∀k,fJ W a ((p::L).take (k+1))=fJ V (a.put p.2.dst v) (L.take k):=λk=>by
   rw[uL];show fJ W (a.put p.2.dst (W p.1)) (L.take k)=_;rw[f];exact np _ _ λq b=>d q (pu b)
  refine⟨W, ?_,λk q b=> ?_⟩
  .have:=m L.length;rw[gc,<-ga (a:=p),gc] at this;rw[this];exact s
  .cases k with
   |zero=>
    simp at b;subst b;rw[f];exact r
   |succ k=>
    have c:L[k]?=some q:=by simpa using b
    rw[m,d q (db c)];exact w k q c
def pQ{A:Act->World->Prop}{n:Nat}{T:Nat->iM X}{U:Nat->Value}(y:∀j g,T j=.fix g->U j=g):∀(L:List (Nat×Oper)) (F:List (Nat×(X->Prop))) (l:List (iM X)) (a:Act),
  cR P ops to le A L F l a->(∀(k:Nat) (p:Nat×Oper) (r:iM X),L[k]?=some p->l[k]?=some r->T p.1=r)->(∀p∈L,p.1<n)->(∀p∈F,p.1<n/\∀x,(T p.1).holds (U p.1) x->p.2 x)->
  (∀(k:Nat) (p:Nat×Oper),L[k]?=some p->∀x,(∀j,j<n->kV p.2 j=true->(T j).holds (U j) x)->Good P ops to le p.1 p.2 (fJ U a (L.take k)) x (T p.1))/\(∀x,(∀j,j<n->(T j).holds (U j) x)->A (fJ U a L) (to x))
 |[],F,[],a,h,_,_,hF=>⟨λk p b=>by simp at b,λx c=>h x (atd λp b=>(hF p b).2 x (c _ (hF p b).1))⟩
 |[],_,_::_,_,h,_,_,_=>h.elim
 |(i,o)::L,F,[],_,h,_,_,_=>h.elim
 |(i,o)::L,F,.fix g::l,a,h,hT,hn,hF=>by
  obtain⟨w,s⟩:=h;have d:T i=.fix g:=hT 0 (i,o) (.fix g) rfl rfl;have z:U i=g:=y i g d;obtain⟨u,v⟩:=pQ y L F l _ s (λk p r b t=>hT (k+1) p r (by simpa using b) (by simpa using t)) (λp b=>hn p (by simp[b])) hF;have f:∀M,fJ U a ((i,o)::M)=fJ U (a.put o.dst g) M:=λM=>by
   show fJ U (a.put o.dst (U i)) M=_;rw[z]
  refine⟨λk p b x c=> ?_,λx c=>by rw[f];exact v x c⟩;cases k with
  |zero=>
   simp at b;subst b;rw[d];exact w x (amz λq e m=>(hF q e).2 x (c _ (hF q e).1 m))
  |succ k=>
   rw[uL,f];exact u k p (by simpa using b) x c
 |(i,o)::L,F,.any R::l,a,h,hT,hn,hF=>by
  obtain⟨_,B,w,s⟩:=h;have d:T i=.any R:=hT 0 (i,o) (.any R) rfl rfl;obtain⟨u,v⟩:=pQ y L ((i,R (U i))::F) l _ (s (U i)) (λk p r b t=>hT (k+1) p r (by simpa using b) (by simpa using t)) (λp b=>hn p (by simp[b])) λq e=>by
   rcases oE.1 e with rfl|e
   .exact⟨hn (i,o) (by simp),λx c=>by rw[d] at c;exact c⟩
   .exact hF q e
  refine⟨λk p b x c=> ?_,λx c=>v x c⟩;cases k with
  |zero=>
   simp at b;subst b;rw[d];exact w x (amz λq e m=>(hF q e).2 x (c _ (hF q e).1 m))
  |succ k=>exact u k p (by simpa using b) x c
def aaN{j:Act->World->Prop}:∀(L:List (Nat×Oper)) (F:List (Nat×(X->Prop))) (d:List (iM X)) (a:Act),
  cR P ops to le j L F d a->d.length=L.length/\∀(k:Nat) (p:Nat×Oper) (r:iM X),L[k]?=some p->d[k]?=some r->r.keep le/\((∃v,r=.fix v)\/p.2.dst.isSome=true\/∀R,r=.any R->∀u v x,R u x->R v x)
 |[],_,[],_,_=>⟨rfl,λk p r b=>by simp at b⟩
 |[],_,_::_,_,h=>h.elim
 |(i,o)::L,F,[],_,h=>h.elim
 |(i,o)::L,F,.fix v0::d,a,h=>by
  obtain⟨_,e⟩:=h;obtain⟨f,g⟩:=aaN L F d _ e;refine⟨by simp[f],λk p r b c=> ?_⟩;cases k with
  |zero=>
   simp at c;subst c;exact⟨trivial,.inl ⟨_,rfl⟩⟩
  |succ k=>exact g k p r (by simpa using b) (by simpa using c)
 |(i,o)::L,F,.any R::d,a,h=>by
  obtain⟨hd,l,_,e⟩:=h;obtain⟨f,g⟩:=aaN L _ d _ (e undef);refine⟨by simp[f],λk p r b c=> ?_⟩;cases k with
  |zero=>
   simp at c b;subst c b;exact⟨l,.inr (hd.imp id λhd R' m=>by cases m;exact hd)⟩
  |succ k=>exact g k p r (by simpa using b) (by simpa using c)
def aaO{g:Type}:∀(ks:List Nat) (c:List g) (k i:Nat) (r:g),ks.Nodup->ks[k]?=some i->c[k]?=some r->(ks.zip c).lookup i=some r
 |[],_,_,_,_,_,h,_=>by simp at h
 |a::ks,[],_,_,_,_,_,h=>by simp at h
 |a::ks,b::c,k,i,r,hn,h,hr=>by
  rw[vH] at hn;cases k with
  |zero=>
   simp at h hr;subst h hr;simp[List.lookup]
  |succ k=>
   have f:ks[k]?=some i:=by simpa using h
   have d:(i ==a)=false:=de.2 λe=>hn.1 (e▸db f);simp only[List.zip_cons_cons,List.lookup,d];exact aaO ks c k i r hn.2 f (by simpa using hr)
def aic {l:List Oper}  (to:X->World) (le:X->X->Prop) (Y:∀x,le x x) (n:Nat) (b s:List Nat) (hB:aib l n b s=true) (hd:aeo l.toArray n a.tmps.size=true)
  (x0:X) (af:∀m,m<=n->bc.live m x0) (b6:∀i,i<n->bc.pend i x0) (hx:to x0=w.drew)
  (h:wpQuiet P l.toArray (λw'=>∃x,w'=to x) (λa1=>∃C,cR P l.toArray to le (wpList P l.toArray Q (l.drop n)) (pick l s) [] C a1) ((pick l b).map (·.2)) a):wpAny P .any l.toArray Q l.toArray.size (Array.replicate l.toArray.size false) a {w with drawn:=w.drawn+1}:=by
 simp only[aib,ff,qS] at hB;obtain⟨⟨⟨⟨⟨⟨⟨⟨⟨aY,hn⟩,ht⟩,al⟩,a4⟩,O⟩,b0⟩,ay⟩,an⟩,b5⟩:=hB;have b3:n<=l.toArray.size:=by simpa using hn
 have I:∀i,i<n->i∈b++s:=λi d=>by simpa using lE.1 b0 i (qr.2 d)
 have z:∀i∈b++s,i<n:=λi d=>by simpa using lE.1 ay i d
 have B:∀i,i<n->l.toArray[i]?=some (l.getD i default):=λi d=>by
  have b7:i<l.length:=bd d hn;simp[b7]
 have ao:∀F:List Nat,(pick l F).map (·.1)=F:=λF=>by simp[pick,Function.comp_def]
 obtain⟨V,⟨C,N⟩,hV⟩:=aer (pick l b) a (by rw[ao];exact(List.nodup_append.1 O).1) h;obtain⟨a2,a7⟩:=aaN _ _ _ _ N;have b8:C.length=s.length:=by rw[a2];simp[pick]
 let T:Nat->iM X:=λj=>(((b++s).zip (b.map (λi=>iM.fix (V i))++C)).lookup j).getD (.fix undef)
 have E:∀i∈b,T i=.fix (V i):=λi d=>by
  obtain⟨k,v⟩:=rx.1 d;have ow:k<b.length:=by
   rcases pi k b.length with h|h
   .exact h
   .rw[qY h] at v;cases v
  have:=aaO (b++s) (b.map (λi=>iM.fix (V i))++C) k i (.fix (V i)) O (by rw[qn ow];exact v) (by rw[qn (by simpa using ow),qH,v];rfl);simp only[T,this,qo]
 have a0:∀k i r,s[k]?=some i->C[k]?=some r->T i=r:=λk i r v D=>by
  have:=aaO (b++s) (b.map (λi=>iM.fix (V i))++C) (b.length+k) i r O (by rw[qg (by omega),rK];exact v)
   (by rw[qg (by simp),qc,rK];exact D)
  simp only[T,this,qo]
 have Z:∀(k:Nat) (p:Nat×Oper) (r:iM X),(pick l s)[k]?=some p->C[k]?=some r->T p.1=r:=λk p r g D=>by
  simp only[pick,qH,lc] at g;obtain⟨i,d,rfl⟩:=g;exact a0 k i r d D
 have a5:∀i,i<n->(i∈b/\T i=.fix (V i))\/∃k r,s[k]?=some i/\C[k]?=some r/\T i=r:=λi d=>by
  rcases mx.1 (I i d) with q|q
  .exact .inl ⟨q,E i q⟩
  .obtain⟨k,v⟩:=rx.1 q;have ow:k<C.length:=by
    rcases pi k s.length with h|h
    .omega
    .rw[qY h] at v;cases v
   exact .inr ⟨k,C[k],v,iS ow,a0 k i _ v (iS ow)⟩
 have aa:∀i,(T i).keep le:=λi=>by
  by_cases d:i<n
  .rcases a5 i d with⟨_,q⟩|⟨k,r,v,D,q⟩
   .rw[q];trivial
   .rw[q];exact(a7 k (i,l.getD i default) r (by simp[pick,v]) D).1
  .have:((b++s).zip (b.map (λi=>iM.fix (V i))++C)).lookup i=none:=by
    rw[List.lookup_eq_none_iff];intro p g;have q:=(List.of_mem_zip g).1;have:=z _ q;have ad:i≠p.1:=λe=>d (by rw[e];exact this);simpa using ad
   simp only[T,this,Option.getD_none];trivial
 have ax:∀i,i∈b++s->(i,l.getD i default)∈pick l (b++s):=λi d=>ql.2 ⟨i,d,rfl⟩;have W:pick l (b++s)=pick l b++pick l s:=by simp[pick]
 have H:=anS (P:=P) (Q:=Q) (to:=to) (le:=le) b3 aY ht al a4 hd T aa ?any (pick l (b++s)) ?L ?L' ?lex ?fin x0 (af _ (as9 _ _)) b6
 .rw[hx] at H;exact H
 case any=>
  intro i o d G;rcases a5 i d with⟨_,q⟩|⟨k,r,v,D,q⟩
  .exact .inl ⟨_,q⟩
  .rw[q];obtain rfl:o=l.getD i default:=dk (G.symm.trans (B i d));exact(a7 k (i,l.getD i default) r (by simp[pick,v]) D).2
 case L=>
  intro i o G d;obtain rfl:o=l.getD i default:=dk (G.symm.trans (B i d));exact ax i (I i d)
 case L'=>
  intro p g;obtain⟨i,d,rfl⟩:=ql.1 g;exact⟨z i d,B i (z i d)⟩
 case lex=>
  intro i o d G U hU;obtain rfl:o=l.getD i default:=dk (G.symm.trans (B i d));obtain⟨hg,_⟩:=pQ (n:=n) (T:=T) (U:=U) hU _ _ _ _ N Z (λp g=>by
   obtain⟨j,A,rfl⟩:=ql.1 g;exact z j (sH _ A)) (λp g=>by cases g)
  obtain⟨k,v⟩:=rx.1 (I i d);have a6:∀M:List (Nat×Oper),(∀p∈M,p.1∈b)->fJ U a M=fJ V a M:=λM hM=>np M a λp g=>by rw[hU _ _ (E _ (hM p g))]
  have a3:∀p∈pick l b,p.1∈b:=λp g=>by
   obtain⟨j,A,rfl⟩:=ql.1 g;exact A
  refine⟨fJ U a ((pick l (b++s)).take k), ?_, ?_, ?_⟩
  .refine⟨acz _ _ _,λt aX=>nk _ _ _ λp g S=> ?_, ?_⟩
   .obtain⟨j,A,rfl⟩:=ql.1 (pu g);exact aX j ⟨z j A,_,B j (z j A),S⟩
   .exact acA _ _ _
  .intro t j aI A;have hw:=aep a4 d G aI A;have b4:=(aeq (b++s) [] b5 k i _ j v G A.1 hw).resolve_left (by simp);have aL:=A;obtain⟨aG,oj,b1,b2⟩:=aL;obtain rfl:oj=l.getD j default:=dk (b1.symm.trans (B j aG));refine abJ U (o:=l.getD j default) _ a ?_ b2 (akh hd A) λp g S=> ?_
   .rw[pick,<-List.map_take];exact ql.2 ⟨j,b4,rfl⟩
   .obtain⟨j',a8,rfl⟩:=ql.1 (pu g);exact agN hd ⟨z j' a8,_,B j' (z j' a8),S⟩ A
  .intro x hx;rcases pi k b.length with K|K
   .have lO:b[k]?=some i:=by rw[qn K] at v;exact v
    have a9:i∈b:=db lO;have jY:(pick l (b++s)).take k=(pick l b).take k:=by rw[W,List.take_append_of_le_length (by simp[pick];omega)]
    have hy:=hV k (i,l.getD i default) (by simp[pick,lO]);rw[jY,a6 _ λp g=>a3 p (pu g),E i a9];intro mq R b9 Qx hQ;have aT:agL (l.getD i default).op=true:=lE.1 an i a9;have J:=λy hy hl aZ=>hQ (V i) y hy hl aZ rfl;unfold wpList;rcases hy with⟨hw,hq⟩|⟨hw,hq⟩
    .rw[dq hw];refine .inl ?_;have q:=hq (to x) ⟨x,rfl⟩;unfold Oper.quietAt at q;unfold Oper.wp;cases D:(execOp (fJ V a (List.take k (pick l b))).eval (l.getD i default)).run P (to x) with
     |ok nx w'=>
      rw[D] at q;cases nx<;>simp only[Oper.quietUpon] at q
      case value u=>
       obtain⟨rfl,rfl⟩:=q;exact J x (Y x) (bc.down _ _ R) λ_ _ _ h=>h
      case skip=>
       obtain⟨rfl,h2⟩:=q;show Qx .normal _ _;rw[<-h2];exact J x (Y x) (bc.down _ _ R) λ_ _ _ h=>h
      case enter f args=>exact absurd D (agM aT)
     |halt c w'=>
      rw[D] at q;simp only[Oper.quietUpon] at q
    .rw[bv (by rw[hw];exact qs)];have:=J x (Y x) (bc.down _ _ R) λ_ _ _ h=>h;rw[hq] at this;exact this
   .have ji:s[k-b.length]?=some i:=by rw[qg K] at v;exact v
    have jY:(pick l (b++s)).take k=pick l b++(pick l s).take (k-b.length):=by
     rw[W,List.take_append,pm (by simp[pick];omega)];simp[pick]
    rw[jY,ac7,a6 _ a3];exact hg (k-b.length) (i,l.getD i default) (by simp[pick,ji]) x hx
 case fin=>
  intro U hU x hx;obtain⟨_,hf⟩:=pQ (n:=n) (T:=T) (U:=U) hU _ _ _ _ N Z (λp g=>by
   obtain⟨j,A,rfl⟩:=ql.1 g;exact z j (sH _ A)) (λp g=>by cases g)
  have q:=hf x hx;rw[W,ac7,np (U:=U) (V:=V) (pick l b) a λp g=>by
   obtain⟨j,A,rfl⟩:=ql.1 g;exact hU _ _ (E j A)]
  simpa using q
def aaP {l:List Oper}  (to:X->World) (le:X->X->Prop) (g:∀x,le x x) (n:Nat) (d e:List Nat) (q:P.follows .mixedOrders=true) (s:aib l n d e=true) (j:aeo l.toArray n a.tmps.size=true)
  (b:X) (c:∀m,m<=n->bc.live m b) (f:∀i,i<n->bc.pend i b) (o:to b=w.drew)
  (h:wpQuiet P l.toArray (λk=>∃x,k=to x) (λr=>∃p,cR P l.toArray to le (wpList P l.toArray Q (l.drop n)) (pick l e) [] p r) ((pick l d).map (·.2)) a):(Code.region Z l.toArray true).wp P Q a w:=
 wp_region_any q (aic to le g n d e s j b c f o h)
end
end
section
variable {β:Bool}
open Go.RowKit
def aR(b:Below w.heap.size w w')(h:w.cell? p=some v):w'.cell? p=some v:=by
 refine(b.cell (p:=p) ?_).trans h;rcases pi p.block w.heap.size with a|c
 .exact a
 .simp[World.cell?,qd c] at h
def cM{a : World}(h:Below a.heap.size a w)(o:Obj):Below a.heap.size a (w.alloc o):=h.alloc h.size o
def bu(h:bg w g t cs)(o:Obj):bg (w.alloc o) g t cs:=(su w o g h.lt).trans h
def bV(h:bg w g t cs)(u:Value)(a:g≠p.block):bg (w.setCell p u) g t cs:=(io w p u g a).trans h
def aP(h:bg w g t cs)(b:bq S w w')(a:¬S g):bg w' g t cs:=(b.block g h.lt a).trans h
def av(w:World)(o:Obj):Below w.heap.size w (w.alloc o):=(fd _ _).alloc (am _) _
def amB(a:Lcy E){xs:List U}{cs:List Value}(h:bE E Z w W hi xs cs)(b:Below w.heap.size w w')(c:hi<=w.heap.size):bE E Z w' W hi xs cs:=
 (bE.loc a).below h b c
def mL(h:w.alloc (.cells cs t)=x):Below w.heap.size w x/\w.heap.size+1<=x.heap.size/\bg x w.heap.size t cs/\(∀i,x.cell? ⟨w.heap.size,i,none⟩=cs[i]?)/\∀i,x.frozen? ⟨w.heap.size,i,none⟩=false:=by
 subst h;have k:=bg.new w t cs;exact⟨av _ _,by simp,k,k.cell,k.frozen⟩
def oV{u : TypeId}(h:(w.alloc (.cells cs t)).alloc (.cells T u)=x):Below w.heap.size w x/\w.heap.size+2<=x.heap.size/\bg x w.heap.size t cs/\(∀i,x.cell? ⟨w.heap.size,i,none⟩=cs[i]?)/\(∀i,x.frozen? ⟨w.heap.size,i,none⟩=false)/\
  bg x (w.heap.size+1) u T/\(∀i,x.cell? ⟨w.heap.size+1,i,none⟩=T[i]?)/\∀i,x.frozen? ⟨w.heap.size+1,i,none⟩=false:=by
 obtain⟨e,a,d,b,c⟩:=mL h;have k:=bu (bg.new w t cs) (.cells T u);rw[h] at k;simp only[oR] at a d b c;exact⟨h▸cM (av _ _) _,a,k,k.cell,k.frozen,d,b,c⟩
def aes{u v : TypeId}(h:((w.alloc (.cells cs t)).alloc (.cells T u)).alloc (.cells es v)=x):Below w.heap.size w x/\w.heap.size+3<=x.heap.size/\bg x w.heap.size t cs/\(∀i,x.cell? ⟨w.heap.size,i,none⟩=cs[i]?)/\(∀i,x.frozen? ⟨w.heap.size,i,none⟩=false)/\
  bg x (w.heap.size+1) u T/\(∀i,x.cell? ⟨w.heap.size+1,i,none⟩=T[i]?)/\(∀i,x.frozen? ⟨w.heap.size+1,i,none⟩=false)/\bg x (w.heap.size+1+1) v es/\(∀i,x.cell? ⟨w.heap.size+1+1,i,none⟩=es[i]?)/\∀i,x.frozen? ⟨w.heap.size+1+1,i,none⟩=false:=by
 obtain⟨e,a,d,b,c⟩:=mL h;have k:=bu (bu (bg.new w t cs) (.cells T u)) (.cells es v);have l:=bu (bg.new (w.alloc (.cells cs t)) u T) (.cells es v);rw[h] at k l;simp only[oR] at a d b c l;exact⟨h▸cM (cM (av _ _) _) _,a,k,k.cell,k.frozen,l,l.cell,l.frozen,d,b,c⟩
structure eR (w:World) where
 to:World
 ok:Below w.heap.size w to
instance atf(w:World):Nonempty (eR w):=⟨⟨w,fd _ _⟩⟩
def ae(h:w.cell? p=some v):∀x:eR w,x.to.cell? p=some v:=λx=>aR x.ok h
def aM {id:Nat}   {l:List Oper} (c:P.follows .mixedOrders=true) (e:Region.lexB .any l.toArray=true)
  (h:wpQuiet P l.toArray (λb=>∃x:eR w,b=x.to) (λd=>∀b,(∃x:eR w,b=x.to)->Q .normal d b) l a):(Code.region id l.toArray true).wp P Q a w:=
 wp_region_quiet (C:=λb=>∃x:eR w,b=x.to) c e ⟨⟨w.drew,⟨rfl,rfl,rfl,am _,λ_ _=>rfl⟩⟩,rfl⟩ (by simpa using h)
def bm(h:∃x:eR w,w'=x.to):Below w.heap.size w w':=by
 obtain⟨x,rfl⟩:=h;exact x.ok
def dI  {args:Array Value} {x:eR w} 
  (h:Calls P f args x.to λe b=>e=.returned v/\Below x.to.heap.size x.to b):Calls P f args x.to λe a=>e=.returned v/\∃y:eR w,a=y.to:=
 h.mono λ_ c ⟨he,hb⟩=>⟨he,⟨⟨c,x.ok.trans (hb.mono x.ok.size)⟩,rfl⟩⟩
def dJ  {args:Array Value} {x:eR w} 
  (h:Calls P f args x.to λe b=>e=.returned v/\x.to=b):Calls P f args x.to λe a=>e=.returned v/\∃y:eR w,a=y.to:=
 h.mono λ_ _ ⟨he,hb⟩=>⟨he,⟨x,hb.symm⟩⟩
instance awM(w:World):bc (eR w):=⟨λ_ _=>True,λ_ _ _=>trivial,λ_ _=>True⟩
def eR.le{w:World}(x y:eR w):Prop:=Below x.to.heap.size x.to y.to
def eR.le_refl(x:eR w):eR.le x x:=fd _ _
def eR.mk'{w:World}(x:eR w){w':World}(h:Below x.to.heap.size x.to w'):eR w:=⟨w',x.ok.trans (h.mono x.ok.size)⟩
def aF   {l:List Oper}  (n:Nat) (a b:List Nat) (d:P.follows .mixedOrders=true:=by kernel_rfl) (g:aib l n a b=true:=by kernel_rfl) (c:aeo l.toArray n X.tmps.size=true:=by kernel_rfl)
  (h:wpQuiet P l.toArray (λe=>∃x:eR w,e=x.to) (λf=>∃i:List (iM (eR w)),cR P l.toArray (eR.to (w:=w)) (eR.le (w:=w)) (wpList P l.toArray Q (l.drop n)) (pick l b) [] i f) ((pick l a).map (·.2)) X):(Code.region Z l.toArray true).wp P Q X w:=
 aaP (eR.to (w:=w)) (eR.le (w:=w)) eR.le_refl n a b d g c ⟨w.drew,⟨rfl,rfl,rfl,am _,λ_ _=>rfl⟩⟩ (λ_ _=>trivial) (λ_ _=>trivial) rfl h
section
variable {P:Program} {ops:Array Oper} {w:World} {Qt:Act->World->Prop} {i:Nat} {o:Oper} {l:List (Nat×Oper)} {F:List (Nat×(eR w->Prop))} {Rs:List (iM (eR w))} {a:Act}
def aU (R:Value->World->Prop) (f:o.dst.isSome=true) (j:∀v x y,R v x->Below x.heap.size x y->R v y)
  (q:∀x:eR w,abK F o x->∀b:Exit->Act->World->Prop,(∀v c,Below x.to.heap.size x.to c->R v c->b .normal (a.put o.dst v) c)->wpList P ops b [o] a x.to)
  (g:∀v,cR P ops (eR.to (w:=w)) (eR.le (w:=w)) Qt l ((i,λx=>R v x.to)::F) Rs (a.put o.dst v)):cR P ops (eR.to (w:=w)) (eR.le (w:=w)) Qt ((i,o)::l) F (.any (λv x=>R v x.to)::Rs) a:=
 lS (X:=eR w) (to:=eR.to (w:=w)) (le:=eR.le (w:=w)) (λv x=>R v x.to) (.inl f) (λv x y h d=>j v x.to y.to h d) (λx n m _ _ b k=>q x n b λv c e p=>k v (x.mk' e) e trivial (λ_ _ _ _=>trivial) p) g
def dQ (c:Value)
  (g:∀x:eR w,abK F o x->∀b:Exit->Act->World->Prop,(∀d,Below x.to.heap.size x.to d->b .normal (a.put o.dst c) d)->wpList P ops b [o] a x.to)
  (f:cR P ops (eR.to (w:=w)) (eR.le (w:=w)) Qt l F Rs (a.put o.dst c)):cR P ops (eR.to (w:=w)) (eR.le (w:=w)) Qt ((i,o)::l) F (.fix c::Rs) a:=
 ate (X:=eR w) (to:=eR.to (w:=w)) (le:=eR.le (w:=w)) c (λx k m _ _ b j=>g x k b λd e=>j (x.mk' e) e trivial λ_ _ _ _=>trivial) f
def aS(h:∀b,Below w.heap.size w b->∀x:eR w,x.to=b->dP F x->Qt a b):cR P ops (eR.to (w:=w)) (eR.le (w:=w)) Qt [] F [] a:=
 agP (X:=eR w) (to:=eR.to (w:=w)) (le:=eR.le (w:=w)) λx c=>h x.to x.ok x rfl c
end
def eb(base:Nat)(e:TypeId)(v:Value)(w:World):Prop:=∃g,v=.slice (some ⟨g,0,none⟩) 0 0/\base<=g/\bg w g e #[]
def eb.own{base:Nat}(h:eb base e v w)(b:Nat):w.ownsRow base e b v 0 []:=by
 obtain⟨g,rfl,c,a⟩:=h;exact⟨by simp,.inr ⟨g,0,#[],rfl,c,a,am _,by unfold maxLen;omega,by simp,by simp⟩⟩
def ak(h:bg w g t cs)(a:Below w.heap.size w w'):bg w' g t cs:=(a.block g h.lt).trans h
def eb.keep{base:Nat}(h:eb base e v w)(c:Below w.heap.size w w'):eb base e v w':=by
 obtain⟨g,rfl,b,a⟩:=h;exact⟨g,rfl,b,ak a c⟩
def eb.new(w:World){base:Nat}(e:TypeId)(a:base<=w.heap.size):eb base e (.slice (some ⟨w.heap.size,0,none⟩) 0 0) (w.alloc (.cells #[] e)):=⟨_,rfl,a,bg.new _ _ _⟩
def akj(base:Nat)(e:TypeId)(es:Array Value)(v:Value)(w:World):Prop:=∃g,v=.slice (some ⟨g,0,none⟩) 1 1/\base<=g/\bg w g e es
def akj.keep{base:Nat}(h:akj base e es v w)(c:Below w.heap.size w w'):akj base e es v w':=by
 obtain⟨g,rfl,b,a⟩:=h;exact⟨g,rfl,b,ak a c⟩
def akj.new(w:World){base:Nat}(e:TypeId)(es:Array Value)(a:base<=w.heap.size):akj base e es (.slice (some ⟨w.heap.size,0,none⟩) 1 1) (w.alloc (.cells es e)):=⟨_,rfl,a,bg.new _ _ _⟩
end
section
variable {β:Bool}
open Go.RowKit
def agR(p:Prop)(e:Ending):Prop:=(e=.returned (.bool true)/\p)\/e=.returned (.bool false)
def agR.of{q:Bool}{p:Prop}(h:q=true->p):agR p (.returned (.bool q)):=by
 cases q
 .exact .inr rfl
 .exact .inl ⟨rfl,h rfl⟩
def nm(b:Nat):Bool:=decide (97<=b)&&decide (b<=101)
def jc(s:ByteArray):Bool:=if h:s.size=1 then nm (s[0]'(by omega)).toNat else if h:s.size=3 then nm (s[0]'(by omega)).toNat&&(decide ((s[1]'(by omega)).toNat=47)&&nm (s[2]'(by omega)).toNat) else false
def dH(s:ByteArray):Bool:=decide (s.size<=40)&&(bs s).all oQ
def kW(h:jc s=true):s.size=1\/s.size=3:=by
 unfold jc at h;split at h
 .exact .inl (by assumption)
 .split at h
  .exact .inr (by assumption)
  .cases h
def oW(b:Nat)(w:World) :
  Calls (ah β) 88 #[.int .u8 b] w λe f=>e=.returned (.bool (nm b))/\w=f:=by
 by_cases c:97<=b
 .by_cases a:b<=101
  .have e:nm b=true:=by unfold nm;rw[dj c,dj a];rfl
   rw[e];have d:=dj (show(b:Int)<=101 by omega);go_enter xh,ntmps88;go_wp2;go_ret;exact⟨rfl,rfl⟩
  .have e:nm b=false:=by unfold nm;rw[da a,Bool.and_false]
   rw[e];have d:=da (show ¬((b:Int)<=101) by omega);go_enter xh,ntmps88;go_wp2;go_ret;exact⟨rfl,rfl⟩
 .have e:nm b=false:=by unfold nm;rw[da c,uN]
  rw[e];go_enter xh,ntmps88;go_wp2;go_ret;exact⟨rfl,rfl⟩
def kX(s:ByteArray)(f:s.size<=maxLen)(w:World) :
  Calls (ah β) 59 #[.string s] w λe d=>e=.returned (.bool (dH s))/\w=d:=by
 by_cases b:s.size<=40
 .have a:(bs s).all oQ=dH s:=by unfold dH;rw[dj b,uX]
  replace a:=ab a;have c:=dj (show(s.size:Int)<=40 by omega);go_enter xF,ntmps59;go_wp2;refine(afe s f w).mono ?_;rintro e g ⟨rfl,rfl⟩;rw[a.out];go_wp2;go_ret;exact⟨rfl,rfl⟩
 .have c:=da (show ¬((s.size:Int)<=40) by omega);have e:dH s=false:=by unfold dH;rw[da b,uN]
  rw[e];go_enter xF,ntmps59;go_wp2;go_ret;exact⟨rfl,rfl⟩
def aet(s:ByteArray)(n:Nat)(G:s.size*n<=100)(F:s.size<=100)(j:n<=100)(w:World) :
  Calls (ah β) 61 #[.string s,.int .i64 n] w λe r=>(∃t:ByteArray,e=.returned (.string t)/\t.size<=100)/\w=r:=by
 go_enter yY,ntmps61;go_wp2
 go_loop [0,1,5] (λa i o=>∃(x y:ByteArray) (k:Nat),a=.string x/\i=.int .i64 k/\o=.string y/\y.size+x.size*k<=100/\x.size<=200/\k<=100) (λ_ i _=>(intOf i).toNat)
 case atStart=>exact⟨s,⟨#[]⟩,n,rfl,rfl,rfl,by show 0+_<=_;omega,by omega,j⟩
 case round=>
  obtain⟨x,y,k,rfl,rfl,rfl,f,C,E⟩:=hrel;have d:(x++x).size=x.size+x.size:=by rw[<-aO,iv,aE,aO]
  have c:(y++x).size=y.size+x.size:=by rw[<-aO,iv,aE,aO,aO]
  by_cases v:k=0
  .subst v;go_wp2;go_ret;exact⟨⟨y,rfl,by omega⟩,rfl⟩
  .have A:x.size<=100:=by
    have:x.size*1<=x.size*k:=Nat.mul_le_mul_left _ (by omega);omega
   obtain⟨m,p⟩:∃m,m=k / 2:=⟨_,rfl⟩;have D:(k:Int) / 2=((m:Nat):Int):=by omega
   have H:0<(k:Int):=by omega
   have z:m<=100/\m<k:=by omega
   have u:y.size<=100:=by omega
   rcases uU k with l|l
   .have q:(k:Int) % 2=0:=by omega
    have b:(x.size+x.size)*m=x.size*k:=by
     have:k=2*m:=by omega
     rw[this,<-Nat.two_mul,tC 2,Nat.mul_assoc]
    have g:=ab b;replace d:=ab d;replace f:=ab f;clear b c l p;go_wp2
    go_round
    case rel=>exact⟨x++x,y,m,rfl,rfl,rfl,by rw[d.out,g.out];exact f.out,by rw[d.out];omega,by omega⟩
    simp[intOf];omega
   .have q:(k:Int) % 2=1:=by omega
    have b:y.size+x.size+(x.size+x.size)*m=y.size+x.size*k:=by
     have:k=2*m+1:=by omega
     rw[this,Nat.mul_add,<-Nat.two_mul,tC 2,Nat.mul_assoc,Nat.mul_one];omega
    have g:=ab b;replace d:=ab d;replace c:=ab c;replace f:=ab f;clear b p;have B:(((k:Int) % 2) ==1)=true:=by rw[q];rfl
    go_wp2
    go_round
    case rel=>exact⟨x++x,y++x,m,rfl,rfl,rfl,by rw[d.out,c.out,g.out];exact f.out,by rw[d.out];omega,by omega⟩
    simp[intOf];omega
def jk(s:ByteArray)(p:s.size<=maxLen)(w:World) :
  Calls (ah β) 58 #[.string s] w λe o=>e=.returned (.bool (jc s))/\w=o:=by
 unfold maxLen at p;by_cases j:s.size=1
 .have m:((s.size:Int) ==1)=true:=by rw[j];rfl
  have a:0<s.size:=by omega
  have g:nm (s[0]'a).toNat=jc s:=by unfold jc;rw[tL j]
  have q:=ab g;have HC:=ab (oW (β:=β) (s[0]'a).toNat w);go_enter wH,ntmps58;go_wp2;refine HC.out.mono ?_;rintro e i ⟨rfl,rfl⟩;rw[q.out];go_wp2;go_ret;exact⟨rfl,rfl⟩
 .by_cases k:s.size=3
  .have m:((s.size:Int) ==1)=false:=de.2 (by omega);have n:((s.size:Int) ==3)=true:=by rw[k];rfl
   have a:0<s.size:=by omega
   have b:1<s.size:=by omega
   have f:2<s.size:=by omega
   have g:jc s=(nm (s[0]'a).toNat&&(decide ((s[1]'b).toNat=47)&&nm (s[2]'f).toNat)):=by unfold jc;rw[dif_neg j,tL k]
   have HC:=ab (oW (β:=β) (s[0]'a).toNat w);have c:=ab (oW (β:=β) (s[2]'f).toNat w);rw[g];revert HC;revert c;generalize nm (s[0]'a).toNat=q0;generalize nm (s[2]'f).toNat=q2;intro c HC;cases q0
   .go_enter wH,ntmps58;go_wp2;refine HC.out.mono ?_;rintro e i ⟨rfl,rfl⟩;go_wp2;go_ret;exact⟨rfl,rfl⟩
   .by_cases d:(s[1]'b).toNat=47
    .rw[dj d];have l:(((s[1]'b).toNat:Int) ==47)=true:=by rw[d];rfl
     go_enter wH,ntmps58;go_wp2;refine HC.out.mono ?_;rintro e i ⟨rfl,rfl⟩;go_wp2;refine c.out.mono ?_;rintro e i ⟨rfl,rfl⟩;go_wp2;go_ret;exact⟨by cases q2<;>rfl,rfl⟩
    .rw[da d];have l:(((s[1]'b).toNat:Int) ==47)=false:=de.2 (by omega);go_enter wH,ntmps58;go_wp2;refine HC.out.mono ?_;rintro e i ⟨rfl,rfl⟩;go_wp2;go_ret;exact⟨rfl,rfl⟩
  .have m:((s.size:Int) ==1)=false:=de.2 (by omega);have n:((s.size:Int) ==3)=false:=de.2 (by omega);have g:jc s=false:=by unfold jc;rw[dif_neg j,dif_neg k]
   rw[g];go_enter wH,ntmps58;go_wp2;go_ret;exact⟨rfl,rfl⟩
def ml(s t:ByteArray):Bool:=if h:0<s.size/\0<t.size then(if s.size=t.size then false else((s[0]'h.1).toNat:Int) ==((t[0]'h.2).toNat:Int)) else false
def agS(s t:ByteArray)(o:0<s.size/\s.size<=maxLen)(n:0<t.size/\t.size<=maxLen)(w:World) :
  Calls (ah β) 79 #[.string s,.string t] w λe l=>e=.returned (.bool (ml s t))/\Below w.heap.size w l:=by
 obtain⟨a,j⟩:=o;obtain⟨b,k⟩:=n;by_cases i:s.size=t.size
 .have d:ml s t=false:=by unfold ml;rw[tL ⟨a,b⟩,dq i]
  rw[d];go_enter xA,ntmps79;go_wp2;refine aF 12 [0,1,2,3,4,5,6,7,8,9,10,11] [] (h:= ?_);simp only[pick,List.map,ge,gn];repeat(go_big_quiet_step (fail))
  refine gt ?_;apply Exists.intro;refine aS ?_;intro p g m f c;dsimp only[dP] at c;try rw[f] at c
  simp only[List.drop];go_wp2;go_ret;exact⟨rfl,g⟩
 .have q:((s.size:Int) !=(t.size:Int))=true:=by simp;omega
  have d:ml s t=(((s[0]'a).toNat:Int) ==((t[0]'b).toNat:Int)):=by unfold ml;rw[tL ⟨a,b⟩,bv i]
  rw[d];go_enter xA,ntmps79;go_wp2;refine aF 12 [0,1,2,3,4,5,6,7,8,9,10,11] [] (h:= ?_);simp only[pick,List.map,ge,gn];repeat(go_big_quiet_step (fail))
  refine gt ?_;apply Exists.intro;refine aS ?_;intro p g m f c;dsimp only[dP] at c;try rw[f] at c
  simp only[List.drop];go_wp2;go_ret;exact⟨rfl,g⟩
def dig(x:Nat):Int:=((x:Int)-97) % 256
def oX(l:List Nat)(p:Nat):Bool:=(dig (l.getD (p-1) 0)+2*dig (l.getD (p-2) 0)+3*dig (l.getD (p-3) 0)) % 5 ==0
def pR(h:k<s.size):(bs s).getD k 0=(s[k]'h).toNat:=by rw[sL,aaK h];rfl
def akk(s:ByteArray)(p:Nat)(v:3<=p/\p<s.size)(r:s.size<=maxLen)(w:World) :
  Calls (ah β) 141 #[.string s,.int .i64 p] w λe o=>e=.returned (.bool (oX (bs s) p))/\Below w.heap.size w o:=by
 unfold maxLen at r;obtain⟨a,k⟩:∃a,a=p-1:=⟨_,rfl⟩;obtain⟨b,i⟩:∃b,b=p-2:=⟨_,rfl⟩;obtain⟨c,n⟩:∃c,c=p-3:=⟨_,rfl⟩;have l:a<s.size:=by omega
 have f:b<s.size:=by omega
 have g:c<s.size:=by omega
 have y:(p:Int)-1=((a:Nat):Int):=by omega
 have x:(p:Int)-2=((b:Nat):Int):=by omega
 have z:(p:Int)-3=((c:Nat):Int):=by omega
 have t:(p:Int)<=9223372036854775807:=by omega
 have j:oX (bs s) p=((dig (s[a]'l).toNat+2*dig (s[b]'f).toNat+3*dig (s[c]'g).toNat) % 5 ==0):=by unfold oX;rw[<-k,<-i,<-n,pR l,pR f,pR g]
 rw[j];clear k i n j;go_enter yi,ntmps141;go_wp2;refine aF 24 [0,1,2,3,4,5,6,7,8,9,10,11,12,13,14,15,16,17,18,19,20,21,22,23] [] (h:= ?_);simp only[pick,List.map,ge,gn];repeat(go_big_quiet_step (fail))
 refine gt ?_;apply Exists.intro;refine aS ?_;intro A u q m d;dsimp only[dP] at d;try rw[m] at d
 clear m q;simp only[List.drop];clear d;go_wp2;go_ret;exact⟨aB rfl,u⟩
end
section
variable {β:Bool}
open Go.RowKit
structure Flat (α:Type) where
 sz:Nat
 cells:α->List Value
 good:α->Prop
 len:∀x,(cells x).length=sz
 one:∀x,∀u∈cells x,u.oneCell'=true
 pos:0<sz
def bP{α:Type}(F:Flat α):fV α:=λ_ _ _ x a=>a=F.cells x/\F.good x
section
variable {α:Type} (F:Flat α)
def bP.loc:Lcy (bP F):=⟨λ_ _ _ h=>h⟩
def dV(xs:List α):List Value:=xs.flatMap F.cells
def nt(xs a:List α):dV F (xs++a)=dV F xs++dV F a:=sX
def aeu(x:α):dV F [x]=F.cells x:=by simp[dV]
def dY:∀a:List α,(dV F a).length=a.length*F.sz
 |[]=>by simp[dV]
 |x::a=>by
  show(F.cells x++dV F a).length=_;rw[aE,dY a,F.len,ga,rm,Nat.add_comm]
def dZ:∀(a:List α) (i j:Nat) (x:α) (u:Value),a[i]?=some x->(F.cells x)[j]?=some u->(dV F a)[i*F.sz+j]?=some u
 |[],i,j,x,u,h,_=>by simp at h
 |g::a,i,j,x,u,h,hj=>by
  have b:=aC hj;rw[F.len] at b;show(F.cells g++dV F a)[i*F.sz+j]?=some u;cases i with
  |zero=>
   simp at h;subst h;rw[qn (by rw[F.len,uE,mc];exact b),uE,mc];exact hj
  |succ i=>
   have e:(i+1)*F.sz+j=F.sz+(i*F.sz+j):=by rw[rm];omega
   rw[e,qg (by rw[F.len];omega),F.len,rK];exact dZ a i j x u (by simpa using h) hj
def anT{xs:List α}(h:(dV F xs)[j]?=some u):∃x,xs[j / F.sz]?=some x/\(F.cells x)[j % F.sz]?=some u:=by
 have a:=aC h;rw[dY] at a;have d:j / F.sz<xs.length:=vW (by rw[tC];exact a);refine⟨xs[j / F.sz],iS d, ?_⟩;have b:j % F.sz<(F.cells xs[j / F.sz]).length:=by rw[F.len];exact tI _ F.pos
 have c:=dZ F xs (j / F.sz) (j % F.sz) xs[j / F.sz] _ (iS d) (iS b);rw[vD] at c;rw[iS b,<-c,h]
def acB(xs:List α):∀u∈dV F xs,u.oneCell'=true:=by
 intro u a;obtain⟨g,_,b⟩:=sq.1 a;exact F.one g u b
def aK(e:TypeId)(w:World)(base:Nat)(v:Value)(xs:List α):Prop:=w.ownsRow base e F.sz v xs.length (dV F xs)
variable {F}
def aK.sl{base : Nat}{xs:List α}(h:aK F e w base v xs)(c:∀x∈xs,F.good x)(b:w.heap.size<=hi):bE (bP F) F.sz w base hi xs [v]:=
 awI h b λi x hi=>⟨F.cells x,F.len x,⟨rfl,c x (db hi)⟩,λ_ _ a=>dZ F xs i _ x _ hi a⟩
def aie{base : Nat}(h:w.ownsRow base e Z v n N)(d:base'<=base):w.ownsRow base' e Z v n N:=by
 refine⟨h.1, ?_⟩;rcases h.2 with f|⟨g,cap,b,rfl,c,a⟩
 .exact .inl f
 .exact .inr ⟨g,cap,b,rfl,ap d c,a⟩
def aK.base{base : Nat}{xs:List α}(h:aK F e w base v xs)(a:base'<=base):aK F e w base' v xs:=aie h a
def aK.nil(e:TypeId)(w:World)(base:Nat):aK F e w base (.slice none 0 0) []:=ug _ _ _ _
def aK.aif{base:Nat}(h:eb base e v w):aK F e w base v []:=h.own F.sz
def aK.below{base:Nat}{xs:List α}(h:aK F e w base v xs)(a:Below w.heap.size w w'):aK F e w' base v xs:=aem h a
def aK.fc{base:Nat}{xs:List α}(h:aK F e w base v xs)(c:bq S w w')(a:∀b,v.ownBlock=some b->¬S b):aK F e w' base v xs:=adJ h c a
def aK.at_{base:Nat}{xs:List α}(h:aK F e w base v xs)(a:v.ownBlock=some g):base<=g/\g<w.heap.size:=h.lt g a
def aK.bF{base:Nat}{xs:List α}(h:aK F e w base v xs)(u:Value)(c:p.block<base):aK F e (w.setCell p u) base v xs:=
 h.fc (S:=λb=>b=p.block) ((bq.refl (λb=>b=p.block) w).setCell (p:=p) (.inl rfl) u) λb a e=>by have:=h.at_ a;omega
def anU{base : Nat}{e' : TypeId}{v' : Value}{cs : List Value}(h:w.ownsRow base e Z v n cs)(m:w.ownsRow base' e' W v' c N)(o:e≠e'):∀b,v.ownBlock=some b->v'.ownBlock≠some b:=by
 intro b d a;rcases h.2 with⟨rfl,_⟩|⟨g,cap,l,rfl,_,j,_⟩
 .simp[Value.ownBlock] at d
 .rcases m.2 with⟨rfl,_⟩|⟨p,i,k,rfl,_,f,_⟩
  .simp[Value.ownBlock] at a
  .simp[Value.ownBlock] at d a;rw[d] at j;rw[a,j] at f;simp at f;exact o f.2
def aK.ap5{base:Nat}{xs:List α}(h:aK F e w base v xs)(u:Value)(a:∀b,v.ownBlock=some b->b≠p.block):aK F e (w.setCell p u) base v xs:=
 h.fc (S:=λb=>b=p.block) ((bq.refl (λb=>b=p.block) w).setCell (p:=p) (.inl rfl) u) a
def aK.form{base:Nat}{xs:List α}(h:aK F e w base v xs):∃A c,v=.slice A xs.length c:=gK h
def acC:∀(a:List α) (i j:Nat) (x y:α) (u:Value),a[i]?=some x->j<F.sz->F.cells y=(F.cells x).set j u->dV F (a.set i y)=(dV F a).set (i*F.sz+j) u
 |[],i,j,x,y,u,h,_,_=>by simp at h
 |z::a,0,j,x,y,u,h,hj,hy=>by
  simp at h;subst h;show F.cells y++dV F a=(F.cells z++dV F a).set (0*F.sz+j) u
  rw[uE,mc,List.set_append_left _ _ (by rw[F.len];exact hj),hy]
 |z::a,i+1,j,x,y,u,h,hj,hy=>by
  show F.cells z++dV F (a.set i y)=(F.cells z++dV F a).set ((i+1)*F.sz+j) u
  have e:(i+1)*F.sz+j=F.sz+(i*F.sz+j):=by rw[rm];omega
  rw[e,uB _ _ (by rw[F.len];omega),F.len,rK,acC a i j x y u (by simpa using h) hj hy]
def aK.put{base cap : Nat}{xs:List α}(h:aK F e w base (.slice (some ⟨g,0,none⟩) xs.length cap) xs){x y:α}(c:xs[i]?=some x)(a:j<F.sz)(b:F.cells y=(F.cells x).set j u) :
  aK F e (w.setCell ⟨g,i*F.sz+j,none⟩ u) base (.slice (some ⟨g,0,none⟩) xs.length cap) (xs.set i y):=by
 unfold aK;rw[acC xs i j x y u c a b,qQ];exact(h.stored _ u).1
def aK.cell{base cap : Nat}{xs:List α}(h:aK F e w base (.slice (some ⟨g,0,none⟩) xs.length cap) xs){x:α}(b:xs[i]?=some x)(a:(F.cells x)[j]?=some u):w.cell? ⟨g,i*F.sz+j,none⟩=some u:=by
 have c:=aC a;rw[F.len] at c;have d:=aC b;have f:(i+1)*F.sz<=xs.length*F.sz:=qI _ d;rw[rm] at f;rw[h.cellAt _ (by omega)];exact dZ F xs i j x u b a
def aK.frozen{base cap : Nat}{xs:List α}(h:aK F e w base (.slice (some ⟨g,0,none⟩) n cap) xs)(a:n=xs.length)(j:Nat):w.frozen? ⟨g,j,none⟩=false:=by
 subst a;exact h.frozenAt j
def aK.some_{base:Nat}{xs:List α}(h:aK F e w base v xs)(b:0<xs.length):∃g c,v=.slice (some ⟨g,0,none⟩) xs.length c:=by
 rcases h.2 with⟨_,d⟩|⟨g,cap,a,rfl,_⟩
 .omega
 .exact⟨g,cap,rfl⟩
def kY{xs:List α}(h:bE (bP F) F.sz w Z hi xs [.slice A n c])(v:hi<=w.heap.size) :
  0<xs.length->∃a,A=some a/\∀(j:Nat) (u:Value),(dV F xs)[j]?=some u->∀f,Below w.heap.size w f->f.cell? (a.add j)=some u:=by
 intro k;obtain⟨x,p⟩:=aq k;obtain⟨b,d,_,rfl,_⟩:=h.at_ p;refine⟨_,rfl,λj u m f o=> ?_⟩;obtain⟨y,l,g⟩:=anT F m;obtain⟨t,r,s,e,_,_,_,⟨rfl,_⟩,q⟩:=h.at_ l;simp only[mt,qz,qu] at e;obtain⟨rfl,rfl⟩:=e;have i:(⟨b,d,none⟩:Addr).add j=⟨b,d+j,none⟩:=by unfold Addr.add;split<;>simp_all
 rw[i];have:=q _ _ g;rw[uV,vD] at this;exact aR o this
def bE.good{xs:List α}{cs:List Value}(h:bE (bP F) F.sz w Z hi xs cs):∀x∈xs,F.good x:=λx b=>by
 obtain⟨c,a⟩:=h.apS x b;exact a.2
end
def mM:Flat Int:=⟨1,λx=>[.int .i64 x],bZ,λ_=>rfl,λx u a=>by rw[pe.1 a];rfl,by decide⟩
section
variable {P:Program}
def aih {ty : TypeId} (q:ib P t e Z W) {base:Nat} (p:eb base e v w)
  {news:List Value} (D:news.length=m*Z) (F:0<m->∃a,A=some a/\∀(j:Nat) (u:Value),news[j]?=some u->w.cell? (a.add j)=some u) (J:∀u∈news,u.oneCell'=true)
  (Q:m<=1099511627776) (l:base<=w.heap.size) :
  ∃E s,(Builtin.append_ #[t,t] ty #[v,.slice A m c]).run P w=.ok E s/\s.ownsRow base e Z E m news/\Below w.heap.size w s:=by
 obtain⟨i,z,G,M,B,C,R⟩:=q.info;have o:=p.own Z;obtain⟨K,I,d,y⟩:=amu (P:=P) (ty:=ty) q o (c:=c) D F J (by omega) l;have b:=y.own;rw[mc,ru] at b;refine⟨K,I,d,b, ?_⟩;obtain⟨g,rfl,N,H⟩:=p;rcases qa m with x|x
 .subst x;have r:news=[]:=qM (by simpa using D);subst r;have k:(Builtin.append_ #[t,t] ty #[.slice (some ⟨g,0,none⟩) 0 0,.slice A 0 c]).run P w=.ok (.slice (some ⟨g,0,none⟩) 0 0) w:=by
   cases A<;>simp[Builtin.append_,me q.slice,sizeOf,typeInfo,G,Builtin.lenOf,Builtin.firstCells,storeCells,loadCells,loadCellsFrom]
  rw[k] at d;cases d;exact fd _ _
 .obtain⟨L,rfl,n⟩:=F x;have f:m*W<=140737488355328:=ap (Nat.mul_le_mul Q q.small) (by omega);have k:=run_append_grow (P:=P) w t ty e i z q.slice G M ⟨g,0,none⟩ 0 0 [] (by simp) (λj u O=>by simp at O) L m c news (by rw[B];exact D) n (by omega) (by omega) (growslice_fits (by omega) (by rw[C,mc];exact f));rw[k] at d;cases d;exact((fd _ _).drew).alloc (am _) _
variable {α:Type} {F:Flat α}
def mN (n:Below w.heap.size w x)     (g:o.guard=none) (s y:Operand) (t:TypeId)
  (D:o.op=.call ⟨.builtin .append,#[s,y],#[t,t]⟩)
  (B:ib P t e F.sz Z) {xs:List α} {base : Nat} (p:base<=w.heap.size) (I:a.eval s=v) (E:a.eval y=.slice A xs.length c) (i:eb base e v x)
  (m:0<xs.length->∃a,A=some a/\∀(j:Nat) (u:Value),(dV F xs)[j]?=some u->∀d,Below w.heap.size w d->d.cell? (a.add j)=some u) (J:xs.length<=1099511627776)
  (h:∀f k,Below x.heap.size x k->aK F e k base f xs->wpList P Y R rest (a.put o.dst f) k):wpList P Y R (o::rest) a x:=by
 obtain⟨f,d,G,b,l⟩:=aih (P:=P) (ty:=o.type) B i (c:=c) (dY F xs) (λC=>by
  obtain⟨z,r,L⟩:=m C;exact⟨z,r,λj u H=>L j u H _ n⟩) (acB F xs) J (ap p n.size)
 refine wpList_plain g λK q=> ?_;unfold Oper.wp execOp;simp only[D,resolve,invoke,builtin,tA,tR,uh,List.map_toArray,sd,List.map_nil,I,E,G];exact q _ _ (h f d l b)
def aii {x:eR w}    (g:o.guard=none) (s y:Operand) (t:TypeId)
  (i:o.op=.call ⟨.builtin .append,#[s,y],#[t,t]⟩)
  (n:ib P t e F.sz Z) {xs:List α} {base : Nat} (q:base<=w.heap.size) (r:a.eval s=v) (p:a.eval y=.slice A xs.length c) (k:eb base e v x.to)
  (l:0<xs.length->∃a,A=some a/\∀(j:Nat) (u:Value),(dV F xs)[j]?=some u->∀m,Below w.heap.size w m->m.cell? (a.add j)=some u) (z:xs.length<=1099511627776)
  (h:∀d (f:eR w),eR.le x f->aK F e f.to base d xs->R .normal (a.put o.dst d) f.to):wpList P Y R [o] a x.to:=
 mN x.ok g s y t i n q r p k l z λd f b i=>h d (x.mk' b) b i
def cu      (j:o.guard=none) (s x:Operand) (t:TypeId)
  (n:o.op=.call ⟨.builtin .append,#[s,x],#[t,t]⟩)
  (m:ib P t e F.sz Z) {base:Nat} {xs:List α} (y:α) (p:a.eval s=v) (f:aK F e w base v xs) {T:TypeId} (q:a.eval x=.slice (some ⟨w.heap.size,0,none⟩) 1 1) (d:es.toList=F.cells y)
  (r:xs.length<=1099511627775) (c:base<=w.heap.size)
  (h:∀i g,aK F e g base i (xs++[y])->bq (λb=>v.ownBlock=some b) w g->(∀b,i.ownBlock=some b->v.ownBlock=some b\/w.heap.size<=b)->wpList P Y Q rest (a.put o.dst i) g) :
  wpList P Y Q (o::rest) a (w.alloc (.cells es T)):=
 amv j s x t n m p f q (by rw[<-qL,d,F.len]) (by rw[d];exact F.one y) r c λi g k=>h i g (by
  have l:=k.own;unfold aK;rw[nt,aeu,aE];rw[d] at l;exact l) k.fc k.at_
def afO      (k:o.guard=none) (s x:Operand) (t:TypeId)
  (r:o.op=.call ⟨.builtin .append,#[s,x],#[t,t]⟩)
  (q:ib P t e F.sz Z) {base:Nat} {xs:List α} (y:α) (B:a.eval s=v) (d:aK F e w base v xs)  {T:TypeId} (C:a.eval x=.slice (some ⟨g,0,none⟩) 1 1) (p:bg w g T es) (m:es.toList=F.cells y)
  (D:xs.length<=1099511627775) (c:base<=w.heap.size)
  (h:∀i f,aK F e f base i (xs++[y])->bq (λb=>v.ownBlock=some b) w f->(∀b,i.ownBlock=some b->v.ownBlock=some b\/w.heap.size<=b)->wpList P Y Q rest (a.put o.dst i) f) :
  wpList P Y Q (o::rest) a w:=
 aen k s x t r q B d C (news:=F.cells y) (by rw[F.len,Nat.one_mul]) (λ_=>⟨_,rfl,λj u z=>by
  have n:(⟨g,0,none⟩:Addr).add j=⟨g,j,none⟩:=by unfold Addr.add;split<;>simp_all
  rw[n,p.cell,<-du,m];exact z⟩) (F.one y) (by omega) c λi f l=>h i f (by
  have A:=l.own;unfold aK;rw[nt,aeu,aE];exact A) l.fc l.at_
end
end
section
variable {β:Bool}
open Go.RowKit
def Typed(w:World)(T:List TypeId)(b:Nat):Prop:=∃t∈T,∃a,bg w b t a
structure dC {α:Type} (E:fV α) (T:List TypeId):Prop where
 go:∀{w w':World} {lo hi fE hi':Nat} {x:α} {cs:List Value},
  (∀b,lo<=b->b<hi->Typed w T b->w'.heap[b]?=w.heap[b]?)->fE<=lo->hi<=hi'->E w lo hi x cs->E w' fE hi' x cs
section
variable {α:Type} {E:fV α} {T:List TypeId}
def dC.loc(d:dC E T):Lcy E:=⟨λh a c e=>d.go (λb a c _=>h b a c) a c e⟩
def dC.more(d:dC E T){U:List TypeId}(f:∀t∈T,t∈U):dC E U:=⟨λh c a e=>d.go (λb c a ⟨t,ht,hd⟩=>h b c a ⟨t,f t ht,hd⟩) c a e⟩
def dC.below(a:dC E T){B : Nat}{x:α}{cs:List Value}(h:E w Z hi x cs)(c:Below B w w')(b:hi<=B):E w' Z hi x cs:=a.loc.below h c b
def dC.wide(a:dC E T){fE hi' : Nat}{x:α}{cs:List Value}(h:E w Z hi x cs)(c:fE<=Z)(b:hi<=hi'):E w fE hi' x cs:=a.loc.wide h c b
def cD(h:bg w b t cs)(a:bg w b O es):t=O:=by
 unfold bg at h a;rw[h] at a;simp at a;exact a.2
def dC.fc(c:dC E T){x:α}{cs:List Value}(h:E w Z hi x cs)(i:bq S w w')(f:∀b,Z<=b->b<hi->Typed w T b->¬S b):E w' Z hi x cs:=
 c.go (λb g e a=>i.block b (by obtain⟨_,_,_,d⟩:=a;exact d.lt) (f b g e a)) (am _) (am _) h
def bP.ar{α:Type}(F:Flat α):dC (bP F) []:=⟨λ_ _ _ h=>h⟩
def eB(e:TypeId)(E:fV α)(sz:Nat):fV (List α):=λw i j f d=>
 bE E sz w i j f d/\(0<f.length->∀b a n c,d=[.slice (some ⟨b,a,none⟩) n c]->∃g,bg w b e g)
def eB.ar(D:dC E T)  :dC (eB e E Z) (e::T):=by
 refine⟨?_⟩;intro w N S R M l Q P s o B ⟨⟨A,c,a,C,K,h⟩,p⟩;refine⟨⟨A,c,a,C,K,λm=> ?_⟩,λm b f n O r=> ?_⟩
 .obtain⟨b,f,rfl,k,g,J⟩:=h m;have q:=p m b f _ _ a;refine⟨b,f,rfl,ap o k,bd g B,λi x l=> ?_⟩;obtain⟨H,G,L,d⟩:=J i x l;exact⟨H,G,D.go (λb k g ⟨t,p,hd⟩=>s b k g ⟨t,qU _ p,hd⟩) o B L,λj u I=>(qp (s b k g ⟨e,qv,q⟩)).trans (d j u I)⟩
 .obtain⟨z,F,y,k,g,_⟩:=h m;rw[a,y] at r;simp only[qf,nf,mt,qz,qu] at r;obtain⟨⟨rfl,rfl⟩,_,_⟩:=r;have q:=p m z F _ _ (a.trans (by rw[y]));obtain⟨v,hd⟩:=q;exact⟨v,(s z k g ⟨e,qv,v,hd⟩).trans hd⟩
def eB.form{xs:List α}(h:eB e E Z w W hi xs [v]):∃A c,v=.slice A xs.length c:=h.1.form
def gM(E:fV α)(sz:Nat)(e:TypeId)(w:World)(lo base:Nat)(v:Value)(xs:List α):Prop:=
 ∃cells:List Value,w.ownsRow base e sz v xs.length cells/\(∀u∈cells,u.oneCell'=true)/\
  ∀i x,xs[i]?=some x->∃a:List Value,a.length=sz/\E w lo w.heap.size x a/\∀j u,a[j]?=some u->cells[i*sz+j]?=some u
variable {sz:Nat} {e:TypeId}
def gM.form{base : Nat}{xs:List α}(h:gM E sz e w Z base v xs):∃A c,v=.slice A xs.length c:=by
 obtain⟨cells,h,_⟩:=h;exact gK h
def gM.at_{base : Nat}{xs:List α}(h:gM E sz e w Z base v xs)(a:v.ownBlock=some g):base<=g/\g<w.heap.size:=by
 obtain⟨cells,h,_⟩:=h;exact h.lt g a
def gM.blk{base : Nat}{xs:List α}(h:gM E sz e w Z base v xs)(a:v.ownBlock=some g):∃d,bg w g e d:=by
 obtain⟨cells,h,_⟩:=h;rcases h.2 with⟨rfl,_⟩|⟨f,cap,b,rfl,_,c,_⟩
 .cases a
 .cases a;exact⟨_,c⟩
def gM.aif{base : Nat}(h:eb base e v w):gM E sz e w Z base v []:=⟨[],h.own sz,λ_ h=>(by cases h),λi x h=>(by simp at h)⟩
def gM.sl{base : Nat}{xs:List α}(h:gM E sz e w Z base v xs)(m:Z<=base):eB e E sz w Z w.heap.size xs [v]:=by
 have K:=λg y=>h.blk (g:=g) y;obtain⟨cells,p,_,s⟩:=h;refine⟨?_,λB b C n c q=> ?_⟩
 .obtain⟨L,G⟩:=p;rcases G with⟨rfl,a⟩|⟨g,cap,d,rfl,l,r,o,k,H,t⟩
  .exact⟨none,0,by rw[a],by omega,by unfold maxLen;omega,λB=>by omega⟩
  .refine⟨_,cap,rfl,o,k,λ_=>⟨g,0,rfl,ap m l,(dl.1 r).1,λi x I=> ?_⟩⟩;obtain⟨D,m,J,A⟩:=s i x I;refine⟨D,m,J,λj u F=> ?_⟩;have f:=A j u F;rw[<-t,qx] at f;split at f
   .rw[cell_of_row w g (0+i*sz+j) d _ (0,0) r,mc];simpa using f
   .cases f
 .simp only[qf,qu] at q;subst q;rcases p.2 with⟨a,_⟩|⟨g,cap,d,a,_,z,_⟩
  .cases a
  .cases a;exact⟨_,z⟩
def gM.fc(f:dC E T){base : Nat}{xs:List α}(h:gM E sz e w Z base v xs)(d:bq S w w')(o:∀b,v.ownBlock=some b->¬S b)(p:∀b,Z<=b->Typed w T b->¬S b):gM E sz e w' Z base v xs:=by
 obtain⟨cells,q,k,g⟩:=h;refine⟨cells,adJ q d o,k,λi x n=> ?_⟩;obtain⟨j,a,b,c⟩:=g i x n;exact⟨j,a,f.wide (f.fc b d λb l _ m=>p b l m) (am _) d.size,c⟩
def gM.below(a:dC E T){base : Nat}{xs:List α}(h:gM E sz e w Z base v xs)(b:Below w.heap.size w w'):gM E sz e w' Z base v xs:=
 h.fc a (bq.aN (S:=λ_=>False) b) (λ_ _ h=>h) λ_ _ _ h=>h
def aK.deep{α:Type}{F:Flat α}{base:Nat}{xs:List α}(h:aK F e w base v xs)(b:∀x∈xs,F.good x)(d:Nat):gM (bP F) F.sz e w d base v xs:=
 ⟨_,h,acB F xs,λi x a=>⟨F.cells x,F.len x,⟨rfl,b x (db a)⟩,λ_ _ c=>dZ F xs i _ x _ a c⟩⟩
end
section
variable {P:Program} {α:Type} {E:fV α} {T:List TypeId} {sz:Nat} {e:TypeId}
def aij (L:dC E T) (F:e∉T)      (B:o.guard=none) (s x:Operand) (t:TypeId)
  (ho:o.op=.call ⟨.builtin .append,#[s,x],#[t,t]⟩)
  (C:ib P t e sz Z) {base : Nat} {xs:List α} (y:α) (hs:a.eval s=v) (c:gM E sz e w W base v xs)  (hx:a.eval x=.slice (some ⟨w.heap.size,0,none⟩) 1 1) (p:es.toList.length=sz) (K:∀u∈es.toList,u.oneCell'=true) (hy:E w W w.heap.size y es.toList)
  (hn:xs.length<=1099511627775) (k:base<=w.heap.size)
  (h:∀n f,gM E sz e f W base n (xs++[y])->bq (λb=>v.ownBlock=some b) w f->(∀b,n.ownBlock=some b->v.ownBlock=some b\/w.heap.size<=b)->wpList P Y Q rest (a.put o.dst n) f) :
  wpList P Y Q (o::rest) a (w.alloc (.cells es O)):=by
 have D:=λg U=>c.blk (g:=g) U;obtain⟨cells,c,R,N⟩:=c;have V:cells.length=xs.length*sz:=c.1;refine amv B s x t ho C hs c hx (by rw[<-qL,p]) K hn k λn f q=>h n f ⟨cells++es.toList, ?_, ?_, ?_⟩ q.fc q.at_
 .have:=q.own;rw[aE];exact this
 .intro u d;rcases mx.1 d with d|d
  .exact R u d
  .exact K u d
 .have M:∀{z:α} {r:List Value},E w W w.heap.size z r->E f W f.heap.size z r:=λH=>
   L.wide (L.fc H q.fc λb _ _ ⟨t',ht',ds,hd⟩ he=>by
    obtain⟨X,J⟩:=D b he;exact F (cD J hd▸ht')) (am _) q.fc.size
  intro i z l;rcases pi i xs.length with m|nZ
  .rw[qn m] at l;obtain⟨r,G,H,I⟩:=N i z l;refine⟨r,G,M H,λj u d=> ?_⟩;have hj:=aC d;have S:(i+1)*sz<=xs.length*sz:=qI _ m;rw[rm] at S;rw[qn (by omega)];exact I j u d
  .rw[qg nZ] at l;have:i-xs.length=0:=by have:=aC l;simp at this;omega
   rw[this] at l;simp at l;subst l;have A:i=xs.length:=by omega
   refine⟨es.toList,p,M hy,λj u d=> ?_⟩;rw[A,qg (by omega),V,rK];exact d
end
section
variable {α:Type} {E:fV α}
def aew(b o i:Nat):(⟨b,o,none⟩:Addr).add i=⟨b,o+i,none⟩:=by unfold Addr.add;split<;>simp_all
def eB.amC{xs:List α}(h:eB e E Z w W hi xs [.slice A n c])(H:k<=xs.length):eB e E Z w W hi (xs.drop k) [.slice (if c=k then A else A.map λx=>x.add (k*Z)) (xs.length-k) (c-k)]:=by
 obtain⟨⟨A',s,o,I,J,r⟩,t⟩:=h;simp only[qf,nf,qu] at o;obtain⟨rfl,rfl,rfl⟩:=o;refine⟨⟨_,c-k,by rw[qj],by rw[qj];omega,by omega,λm=> ?_⟩,λm b g G s l=> ?_⟩
 .rw[qj] at m;have d:¬c=k:=by omega
  have a:0<xs.length:=by omega
  obtain⟨b,g,rfl,q,p,f⟩:=r a;refine⟨b,g+k*Z,by rw[bv d];simp[Addr.add],q,p,λi x hi=> ?_⟩;rw[th] at hi;obtain⟨B,D,v,y⟩:=f _ _ hi;refine⟨B,D,v,λj u F=> ?_⟩;have:=y j u F;rw[<-this,Nat.add_mul]
  congr 2
  omega
 .rw[qj] at m;have d:¬c=k:=by omega
  have a:0<xs.length:=by omega
  obtain⟨C,z,rfl,q,p,f⟩:=r a;rw[bv d] at l;simp only[qk,aew,qf,nf,mt,qz,qu] at l;obtain⟨⟨rfl,_⟩,_⟩:=l;exact t a C z _ _ rfl
def eB.afP{xs:List α}(h:eB e E Z w W hi xs [.slice A n c])(u:k<=xs.length):eB e E Z w W hi (xs.take k) [.slice A k c]:=by
 obtain⟨⟨A',o,j,v,s,r⟩,p⟩:=h;simp only[qf,nf,qu] at j;obtain⟨rfl,rfl,rfl⟩:=j;have d:(xs.take k).length=k:=by rw[fa];omega
 refine⟨⟨_,c,by rw[d],by rw[d];omega,s,λg=> ?_⟩,λg b a t o l=> ?_⟩
 .rw[d] at g;obtain⟨b,a,rfl,q,m,f⟩:=r (by omega);refine⟨b,a,rfl,q,m,λi x hi=> ?_⟩;rw[qx] at hi;split at hi
  .exact f _ _ hi
  .cases hi
 .rw[d] at g;simp only[qf,nf,qu] at l;obtain⟨rfl,rfl,rfl⟩:=l;exact p (by omega) b a _ _ rfl
end
def abM{F:Flat U}{base : Nat}{xs:List U}(c:bg w g e cs)(a:cs.toList=dV F xs)(f:base<=g)(i:n=xs.length)(b:n<=maxLen):aK F e w base (.slice (some ⟨g,0,none⟩) n n) xs:=by
 subst i;have d:cs.toList.length=xs.length*F.sz:=by rw[a,dY]
 exact⟨dY F xs,.inr ⟨g,xs.length,cs,rfl,f,c,am _,b,by rw[<-qL];exact d,by rw[a,pm (by rw[dY];exact am _)]⟩⟩
end
section
variable {β:Bool}
structure Sp where
 n:Int
 p:Int
def adt(l:List Sp):Prop:=l.Pairwise λa b=>a.n<b.n
def spP(s:Sp):Prop:=(0<=s.n/\s.n<=999999999988)/\(1<=s.p/\s.p<=99)
def ixP(l:List Sp):Prop:=(∀s∈l,spP s)/\adt l
def gO(s:Sp):List Sp->List Sp
 |[]=>[s]
 |x::xs=>if s.n<x.n then s::x::xs else if x.n<s.n then x::gO s xs else s::xs
def abN{s x:Sp}:∀{l:List Sp},x∈gO s l->x=s\/x∈l
 |[],h=>by have:x∈[s]:=h;simp at this;exact .inl this
 |y::l,h=>by
  have a:x∈(if s.n<y.n then s::y::l else if y.n<s.n then y::gO s l else s::l):=h;split at a
  .rcases oE.1 a with e|e
   .exact .inl e
   .exact .inr e
  .split at a
   .rcases oE.1 a with e|e
    .exact .inr (by rw[e];simp)
    .rcases abN e with e|e
     .exact .inl e
     .exact .inr (by simp[e])
   .rcases oE.1 a with e|e
    .exact .inl e
    .exact .inr (by simp[e])
def ath{s:Sp}:∀{l:List Sp},s∈gO s l
 |[]=>by show s∈[s];simp
 |y::l=>by
  show s∈(if s.n<y.n then s::y::l else if y.n<s.n then y::gO s l else s::l);split
  .simp
  .split
   .exact qU _ ath
   .simp
def aex{s:Sp}:∀{l:List Sp},adt l->adt (gO s l)
 |[],_=>tY _ _
 |y::l,h=>by
  have c:=tS.1 h;show adt (if s.n<y.n then s::y::l else if y.n<s.n then y::gO s l else s::l);split
  .rename_i b;refine tS.2 ⟨λz a=> ?_,h⟩;rcases oE.1 a with rfl|a
   .exact b
   .have:=c.1 z a;omega
  .split
   .rename_i b;refine tS.2 ⟨λz a=> ?_,aex c.2⟩;rcases abN a with rfl|a
    .exact b
    .exact c.1 z a
   .refine tS.2 ⟨λz a=> ?_,c.2⟩;have:=c.1 z a;omega
def ati{s:Sp}{l:List Sp}(h:ixP l)(b:spP s):ixP (gO s l):=⟨λx a=>by
 rcases abN a with rfl|a
 .exact b
 .exact h.1 x a,aex h.2⟩
def aey{s:Sp}:∀{l:List Sp},(gO s l).length<=l.length+1
 |[]=>by show[s].length<=_;simp
 |y::l=>by
  show(if s.n<y.n then s::y::l else if y.n<s.n then y::gO s l else s::l).length<=_;split
  .simp
  .split
   .have:=aey (s:=s) (l:=l);simp;omega
   .simp
def abO{s:Sp}:∀{a b:List Sp},(∀x∈a,x.n<s.n)->gO s (a++b)=a++gO s b
 |[],_,_=>rfl
 |x::a,b,h=>by
  have d:=h x (by simp);show(if s.n<x.n then s::x::(a++b) else if x.n<s.n then x::gO s (a++b) else s::(a++b))=x::(a++gO s b);rw[bv (by omega),dq d,abO λy c=>h y (by simp[c])]
def afQ{s x:Sp}(c:s.n<x.n):∀{a b:List Sp},gO s (a++x::b)=gO s a++x::b
 |[],b=>by
  show(if s.n<x.n then s::x::b else _)=[s]++x::b;rw[dq c];rfl
 |y::a,b=>by
  show(if s.n<y.n then s::y::(a++x::b) else if y.n<s.n then y::gO s (a++x::b) else s::(a++x::b))=(if s.n<y.n then s::y::a else if y.n<s.n then y::gO s a else s::a)++x::b;split
  .rfl
  .split
   .rw[afQ c];rfl
   .rfl
inductive Tr where
 |nil
 |node (b:Nat) (s:Sp) (l r:Tr)
namespace Tr
end Tr
def fg:List Sp->List Sp->List Sp
 |[],l=>l
 |s::ss,l=>fg ss (gO s l)
def abP:∀(a b l:List Sp),fg (a++b) l=fg b (fg a l)
 |[],_,_=>rfl
 |s::a,b,l=>abP a b (gO s l)
def afR:∀{a l:List Sp},adt l->adt (fg a l)
 |[],_,h=>h
 |s::a,l,h=>by show adt (fg a (gO s l));exact afR (aex h)
def aik:∀{a l:List Sp},ixP l->(∀s∈a,spP s)->ixP (fg a l)
 |[],_,h,_=>h
 |s::a,l,h,hs=>by show ixP (fg a (gO s l));exact aik (ati h (hs s (by simp))) λx b=>hs x (by simp[b])
def afS:∀{a l:List Sp},(fg a l).length<=a.length+l.length
 |[],_=>by show _<=_;simp[fg]
 |s::a,l=>by
  have b:=afS (a:=a) (l:=gO s l);have c:=aey (s:=s) (l:=l);show(fg a (gO s l)).length<=_;simp only[ga];omega
def anV{s:Sp}{l:List Sp}(h:∀x∈l,x.n<s.n):gO s l=l++[s]:=by
 have:=abO (s:=s) (a:=l) (b:=[]) h;rw[rU] at this;rw[this];rfl
def oY(n:Int):List Sp->Int
 |[]=>0
 |x::xs=>if x.n=n then x.p else oY n xs
end
section
variable {β:Bool}
open Go.RowKit
structure cU (w:World) (s:Nat) (ty:TypeId) (S:Nat->Prop) (pre:List Nat) where
 to:World
 done:Bool
 ok:bq (λb=>done=true/\S b) w to
section
variable {w:World} {s:Nat} {ty:TypeId} {S:Nat->Prop} {pre:List Nat}
instance asn:Nonempty (cU w s ty S pre):=⟨⟨w,false,bq.refl _ _⟩⟩
instance avF:bc (cU w s ty S pre):=⟨λ_ _=>True,λ_ _ _=>trivial,λi x=>i=s\/i∈pre->x.done=false⟩
def cU.le(x y:cU w s ty S pre):Prop:=
 (y.done=x.done/\Below x.to.heap.size x.to y.to)\/(x.done=false/\y.done=true/\bq (λb=>S b\/(w.heap.size<=b/\∃a:Array Value,bg x.to b ty a)) x.to y.to)
def cU.le_refl(x:cU w s ty S pre):cU.le x x:=.inl ⟨rfl,fd _ _⟩
def cU.le.from_{x y:cU w s ty S pre}(h:cU.le x y)(b:x.done=true):y.done=true/\Below x.to.heap.size x.to y.to:=by
 rcases h with⟨a,c⟩|⟨a,_⟩
 .exact⟨a.trans b,c⟩
 .rw[b] at a;cases a
def aaQ(h:w.cell? p=some v)(b:¬S p.block):∀x:cU w s ty S pre,x.to.cell? p=some v:=λx=>by
 have a:=tX w p h;unfold World.cell? at h ⊢;rw[x.ok.block p.block a λh=>b h.2];exact h
def cU.till(x:cU w s ty S pre)(a:x.done=false):Below w.heap.size w x.to:=⟨x.ok.os,x.ok.tape,x.ok.output,x.ok.size,λb c=>x.ok.block b c λh=>by rw[a] at h;cases h.1⟩
def cU.did(x:cU w s ty S pre){w2:World}(hc:bq (λb=>S b\/(w.heap.size<=b/\∃a:Array Value,bg x.to b ty a)) x.to w2):cU w s ty S pre:=
 ⟨w2,true,(x.ok.mono (T:=λb=>true=true/\S b) λ_ _ h=>⟨rfl,h.2⟩).trans hc λb c h=>by
  rcases h with h|h
  .exact⟨rfl,h⟩
  .omega⟩
def akl     (s:Nat) (ty:TypeId) (S:Nat->Prop) (pre:List Nat) (n:Nat) (a b:List Nat) (f:P.follows .mixedOrders=true) (i:aib M n a b=true) (c:aeo M.toArray n X.tmps.size=true)
  (h:wpQuiet P M.toArray (λd=>∃x:cU w s ty S pre,d=x.to) (λg=>∃e:List (iM (cU w s ty S pre)),cR P M.toArray (cU.to (w:=w)) (cU.le (w:=w)) (wpList P M.toArray Q (M.drop n)) (pick M b) [] e g) ((pick M a).map (·.2)) X):(Code.region Z M.toArray true).wp P Q X w:=
 aaP (cU.to (w:=w)) (cU.le (w:=w)) cU.le_refl n a b f i c ⟨w.drew,false,(bq.refl _ _).drew⟩ (λ_ _=>trivial) (λ_ _ _=>rfl) rfl h
variable {P:Program} {ops:Array Oper} {Qt:Act->World->Prop} {i:Nat} {o:Oper} {L:List (Nat×Oper)} {F:List (Nat×(cU w s ty S pre->Prop))} {Rs:List (iM (cU w s ty S pre))} {a:Act}
def awN (R:Value->cU w s ty S pre->Prop) (m:o.dst.isSome=true) (hi':i=s) (f:∀j∈pre,Behind ops i j) (q:∀v x y,R v x->cU.le x y->R v y)
  (A:∀x:cU w s ty S pre,abK F o x->x.done=false->∀c:Exit->Act->World->Prop,(∀v k (d:bq (λb=>S b\/(w.heap.size<=b/\∃z:Array Value,bg x.to b ty z)) x.to k),R v (x.did d)->c .normal (a.put o.dst v) k)->wpList P ops c [o] a x.to)
  (n:∀v,cR P ops (cU.to (w:=w)) (cU.le (w:=w)) Qt L ((i,λx=>R v x)::F) Rs (a.put o.dst v)):cR P ops (cU.to (w:=w)) (cU.le (w:=w)) Qt ((i,o)::L) F (.any R::Rs) a:=
 lS (to:=cU.to (w:=w)) (le:=cU.le (w:=w)) R (.inl m) q (λx t _ _ l c r=>A x t (l (.inl hi')) c λv k d p=>
  r v (x.did d) (.inr ⟨l (.inl hi'),rfl,d⟩) trivial (λj u g _ e=>e.elim (λe=>absurd (e.trans hi'.symm) u) λe=>absurd (f j e) g) p) n
def awO(h:∀x:cU w s ty S pre,dP F x->Qt a x.to):cR P ops (cU.to (w:=w)) (cU.le (w:=w)) Qt [] F [] a:=agP h
end
end
section
variable {β:Bool}
open Go.RowKit
structure amD (w:World) (akm:List Nat) (fl:Nat->Bool) (ty:TypeId) (S:Nat->Prop) where
 to:World
 st:Nat
 ok:bq (λb=>0<st/\S b) w to
 lim:st<=akm.length
section
variable {w:World} {akm:List Nat} {fl:Nat->Bool} {ty:TypeId} {S:Nat->Prop}
instance aso:Nonempty (amD w akm fl ty S):=⟨⟨w,0,bq.refl _ _,fb _⟩⟩
instance avG:bc (amD w akm fl ty S):=⟨λ_ _=>True,λ_ _ _=>trivial,λi x=>∀k,akm[k]?=some i->x.st<=k⟩
variable {P:Program} {ops:Array Oper} {Qt:Act->World->Prop} {i:Nat} {o:Oper} {L:List (Nat×Oper)} {F:List (Nat×(amD w akm fl ty S->Prop))} {Rs:List (iM (amD w akm fl ty S))} {a:Act}
end
end
section
variable {β:Bool}
open Go.RowKit
def FSp:Flat Sp:=⟨2,λs=>[.int .i64 s.n,.int .i64 s.p],λx=>bZ x.n/\bZ x.p,λ_=>rfl,λx u a=>by simp at a;rcases a with rfl|rfl<;>rfl,by decide⟩
def pS:ib (ah β) 100 136 2 16:=ib.mk' xY (z:=.agg #[.int .i64 0,.int .i64 0]) (by kernel_rfl) rfl (by decide) (by decide)
end
section
variable {β:Bool}
open Go.RowKit
def abQ(F:FuncId):Prop:=∀(args:Array Value) (w:World),(callFunc F args).run (ah β) w=.ok (.enter F args) w
def aez{fn:Func}{c:Code}(b:(ah β).funcs[f]?=some fn)(a:(fn.name == "runtime.NumGoroutine")=false)(e:fn.body=some c):abQ (β:=β) f:=by
 intro args w;have d:fn.name ≠ "runtime.NumGoroutine" :=by simpa using a
 simp[callFunc,b,d,e]
def akn(xs f:List Int)(s t:Value)(w:World)(F hi fE hi':Nat)(p:bE aab 1 w F hi xs [s])(r:bE aab 1 w fE hi' f [t]) :
  Calls (ah β) 46 #[s,t] w λe v=>e=.returned (.bool (decide (xs=f)))/\∃n,v=w.drewN n:=by
 obtain⟨A,c,rfl⟩:=p.form;obtain⟨L,I,rfl⟩:=r.form;obtain⟨_,H,D⟩:=p.len_;unfold maxLen at D;by_cases a:xs.length=f.length
 .have B:((xs.length:Int) !=f.length)=false:=by rw[qD];omega
  replace a:=ab a;go_enter xH,ntmps46;go_wp2;go_loopw [5] (λi wr=>∃k:Nat,k<=xs.length/\i=.int .i64 k/\xs.take k=f.take k/\∃n,wr=w.drewN n) (λi _=>xs.length-(intOf i).toNat)
  case atStart=>exact⟨0,fb _,rfl,rfl,0,rfl⟩
  case round=>
   obtain⟨k,G,rfl,m,n,rfl⟩:=hrel;replace m:=ab m;by_cases o:k<xs.length
   .obtain⟨x,g⟩:=aq o;obtain⟨y,j⟩:=aq (l:=f) (k:=k) (by have:=a.out;omega);obtain⟨b,C,rfl,_,_,_,q⟩:=p.ints_at g;obtain⟨K,J,rfl,_,_,_,E⟩:=r.ints_at j;have z:(k:Int)<(f.length:Int):=by have:=a.out;omega
    replace g:=ab g;replace j:=ab j;by_cases d:x=y
    .have u:(x !=y)=false:=by rw[qD];exact d
     replace d:=ab d;go_wp2
     go_quiet (fail)
     go_wp2;go_roundw
     case rel=>exact⟨k+1,by omega,by go_num,by rw[li g.out,li j.out,m.out,d.out],_,rfl⟩
     simp[intOf];omega
    .have u:(x !=y)=true:=by rw[rF];exact d
     replace d:=ab d;go_wp2
     go_quiet (fail)
     go_wp2;go_ret;exact⟨aB (by symm;rw[sY];rintro rfl;exact d.out (dk (g.out.symm.trans j.out))),by first|exact⟨_,rfl⟩|exact⟨_,World.drewN_drewN _ _ _⟩⟩
   .obtain rfl:k=xs.length:=by omega
    go_wp2;go_ret;exact⟨aB (by symm;rw[decide_eq_true_iff];have:=m.out;rw[gc,pm (by have:=a.out;omega)] at this;exact this),n,rfl⟩
 .have B:((xs.length:Int) !=f.length)=true:=by rw[rF];omega
  replace a:=ab a;go_enter xH,ntmps46;go_wp2;go_ret;exact⟨aB (by symm;simp;intro e;exact a.out (by rw[e])),0,rfl⟩
end
section
variable {β:Bool}
open Go.RowKit
abbrev RSp:fV Sp:=bP FSp
def RSp.loc:Lcy RSp:=bP.loc FSp
def avH{xs:List Sp}(h:bE RSp 2 w Z hi xs [.slice A n c]){x:Sp}(g:xs[k]?=some x) :
  ∃b a,A=some ⟨b,a,none⟩/\Z<=b/\b<hi/\(bZ x.n/\bZ x.p)/\w.cell? ⟨b,a+k*2,none⟩=some (.int .i64 x.n)/\w.cell? ⟨b,a+k*2+1,none⟩=some (.int .i64 x.p):=by
 obtain⟨b,a,l,rfl,i,f,j,⟨rfl,d⟩,e⟩:=h.at_ g;exact⟨b,a,rfl,i,f,d,by simpa using e 0 _ rfl,e 1 _ rfl⟩
def ap6:ixP []:=⟨λx h=>(by cases h),List.Pairwise.nil⟩
def agT(n a hi:Int)(w:World)(b:Bool)(d:b=true↔a<=n/\n<=hi) :
  Calls (ah β) 20 #[.int .i64 n,.int .i64 a,.int .i64 hi] w λe c=>e=.returned (.bool b)/\w=c:=
 (kT n a hi w).mono λe c ⟨h,hw⟩=>⟨by
  rw[h];have:(decide (a<=n)&&decide (n<=hi))=b:=by rw[rb,d];simp
  rw[this],hw⟩
def ako(s:Sp)(w:World)(b:Bool)(c:b=true↔spP s) :
  Calls (ah β) 84 #[.agg #[.int .i64 s.n,.int .i64 s.p]] w λe g=>e=.returned (.bool b)/\Below w.heap.size w g:=by
 replace c:=ab c;have f:=av w (.cells #[.int .i64 s.n,.int .i64 s.p] 136);go_enter yL,ntmps84;by_cases a:0<=s.n/\s.n<=999999999988
 .go_wp2;refine(agT s.n _ _ _ true (by simp only[tp];exact a)).mono ?_;rintro e d ⟨rfl,rfl⟩;replace a:=ab a;go_wp2;refine(agT s.p _ _ _ b (by rw[c.out];exact⟨λh=>h.2,λh=>⟨a.out,h⟩⟩)).mono ?_;rintro e d ⟨rfl,rfl⟩;go_wp2;go_ret;exact⟨rfl,f⟩
 .go_wp2;refine(agT s.n _ _ _ false (by simp only[kw,uz];exact a)).mono ?_;rintro e d ⟨rfl,rfl⟩;replace a:=ab a;go_wp2;go_ret;exact⟨aB (by rw[eq_comm,<-lP,c.out];exact λh=>a.out h.1),f⟩
end
section
variable {β:Bool}
open Go.RowKit
def nQ(s:Sp)(xs:List Sp)(put:Bool)(o:List Sp):Prop:=
 (put=false/\(∀x∈xs,x.n<s.n)/\o=xs)\/(put=true/\(∃x∈xs,s.n<=x.n)/\o=gO s xs)
def anW(s:Sp):nQ s [] false []:=.inl ⟨rfl,λx a=>(by cases a),rfl⟩
def anX{s x:Sp}{xs o:List Sp}(h:nQ s xs false o)(a:s.n<x.n):nQ s (xs++[x]) true (o++[s]++[x]):=by
 rcases h with⟨_,h,rfl⟩|⟨h,_⟩
 .refine .inr ⟨rfl,⟨x,by simp,by omega⟩, ?_⟩;rw[abO h];show _=o++(if s.n<x.n then s::x::[] else _);rw[dq a];simp
 .cases h
def akp{s x:Sp}{xs o:List Sp}(h:nQ s xs false o)(a:x.n=s.n):nQ s (xs++[x]) true (o++[s]):=by
 rcases h with⟨_,h,rfl⟩|⟨h,_⟩
 .refine .inr ⟨rfl,⟨x,by simp,by omega⟩, ?_⟩;rw[abO h];show _=o++(if s.n<x.n then s::x::[] else if x.n<s.n then x::gO s [] else s::[]);rw[bv (by omega),bv (by omega)]
 .cases h
def akq{s x:Sp}{xs o:List Sp}(h:nQ s xs false o)(b:x.n<s.n):nQ s (xs++[x]) false (o++[x]):=by
 rcases h with⟨_,h,rfl⟩|⟨h,_⟩
 .refine .inl ⟨rfl,λy a=> ?_,rfl⟩;rcases mx.1 a with a|a
  .exact h y a
  .rw[pe.1 a];exact b
 .cases h
def akr{s x:Sp}{xs o:List Sp}(h:nQ s xs true o)(b:adt (xs++[x])):s.n<x.n/\nQ s (xs++[x]) true (o++[x]):=by
 rcases h with⟨h,_⟩|⟨_,⟨y,a,c⟩,rfl⟩
 .cases h
 .have:=(vY.1 b).2.2 y a x (by simp);refine⟨by omega,.inr ⟨rfl,⟨y,by simp[a],c⟩, ?_⟩⟩;rw[show xs++[x]=xs++x::[] from rfl,afQ (by omega)]
def anY{s:Sp}{xs o:List Sp}{a:Bool}(h:nQ s xs a o):(a=false/\gO s xs=o++[s])\/(a=true/\gO s xs=o):=by
 rcases h with⟨h,b,rfl⟩|⟨h,_,rfl⟩
 .exact .inl ⟨h,anV b⟩
 .exact .inr ⟨h,rfl⟩
def jl{s:Sp}{xs o:List Sp}{a:Bool}(h:nQ s xs a o):o.length<=xs.length+1:=by
 rcases h with⟨_,_,rfl⟩|⟨_,_,rfl⟩
 .omega
 .exact aey
def ap7{xs:List Sp}(h:adt xs)(k:Nat):adt (xs.take k):=List.Pairwise.sublist (List.take_sublist k xs) h
def avI(w:World)(ys:List Sp)(e:Ending)(w':World):Prop:=∃v,e=.returned v/\aK FSp 136 w' w.heap.size v ys/\Below w.heap.size w w'
def iO(h:w.cell? p=some v)(c:bq S w w')(b:¬S p.block):w'.cell? p=some v:=by
 have a:=tX w p h;unfold World.cell? at h ⊢;rw[c.block p.block a b];exact h
def anZ(s:Sp)(a9:bZ s.n/\bZ s.p)(xs:List Sp)(v:Value)(w:World)(lo hi:Nat)(aX:hi<=w.heap.size)(h:bE RSp 2 w lo hi xs [v])(W:adt xs)(hl:xs.length<=1000000000) :
  Calls (ah β) 85 #[v,.agg #[.int .i64 s.n,.int .i64 s.p]] w (avI w (gO s xs)):=by
 obtain⟨A,c,rfl⟩:=h.form;obtain⟨_,hc,S⟩:=h.len_;unfold maxLen at S;go_enter yK,ntmps85;go_wp2;generalize hG:(w.alloc (.cells #[.int .i64 s.n,.int .i64 s.p] 136)).alloc (.cells #[] 136)=w0 at *;obtain⟨Q,iP,N,cZ,eK,k1,dx,ed⟩:=oV hG;have H:w.heap.size+1<=w0.heap.size:=by omega
 have g0:=amB RSp.loc h Q aX;have o0:aK FSp 136 w0 (w.heap.size+1) (.slice (some ⟨w.heap.size+1,0,none⟩) 0 0) []:=aK.aif ⟨_,rfl,am _,k1⟩;have a4:∀k,k<xs.length->∃x,xs[k]?=some x/\(k=0\/True):=λk hk=>by
  obtain⟨x,S⟩:=aq hk;exact⟨x,S,.inr trivial⟩
 go_loopw [5,6,7] (λoo pp ii wr=>∃(k:Nat) (b:Bool) (o:List Sp),k<=xs.length/\pp=.bool b/\ii=.int .i64 k/\aK FSp 136 wr (w.heap.size+1) oo o/\nQ s (xs.take k) b o/\bq (λb=>w.heap.size+1<=b) w0 wr) (λoo pp ii _=>xs.length-(intOf ii).toNat)
 case atStart=>exact⟨0,false,[],fb _,rfl,rfl,o0,anW s,bq.refl _ _⟩
 case round=>
  obtain⟨k,b,o,hk,rfl,rfl,t,e,g⟩:=hrel;replace e:=ab e;obtain⟨n,p,rfl⟩:=t.form;have pT:=jl e.out;rw[fa] at pT;by_cases V:k<xs.length
  .obtain⟨x,u⟩:=aq V;obtain⟨b1,a5,rfl,a8,a7,a2,E,z⟩:=avH g0 u;have D:adt (xs.take k++[x]):=by rw[<-li u];exact ap7 W _
   replace u:=ab u;replace D:=ab D;have cZ:=(aP N g (by omega)).cell;have X:=iO E g (by dsimp only;omega);have a6:=iO z g (by dsimp only;omega);cases b with
   |false=>
    rcases Int.lt_trichotomy x.n s.n with y|y|y
    .have B:=ab (akq e.out y);have t1:=da (show ¬(s.n<=x.n) by omega);have U:(x.n !=s.n)=true:=by rw[rF];omega
     go_wp2
     go_quiet (fail)
     revert nq;intro d;go_wp2
     go_quiet (fail)
     have l:aK FSp 136 (wr.drewN (d+nq)) (w.heap.size+1) (.slice n o.length p) o:=t;go_wp2_with(at_builtin;refine cu (F:=FSp) (v:=.slice n o.length p) rfl (.tmp 39) (.tmp 44) 100 rfl pS x rfl l rfl rfl (by have:=jl e.out;rw[fa] at this;first|omega|(simp;omega)) (ap H ((g.drewN (d+nq))).size) ?_;intro M K f q m;obtain⟨G,I,rfl⟩:=f.form;simp only[aE,ga,mw,mc] at f;have a:=((g.drewN (d+nq))).trans (q.mono (T:=λb=>w.heap.size+1<=b) λb _ j=>((l).at_ j).1) λ_ _ h=>h;skip);go_roundw
     case rel=>exact⟨k+1,false,o++[x],by omega,rfl,by go_num,f,by rw[li u.out];exact B.out,a⟩
     simp[intOf];omega
    .have B:=ab (akp e.out y);have t1:=dj (show s.n<=x.n by omega);have U:(x.n !=s.n)=false:=by rw[qD];exact y
     go_wp2
     go_quiet (fail)
     revert nq;intro d;have l:aK FSp 136 (wr.drewN d) (w.heap.size+1) (.slice n o.length p) o:=t;go_wp2_with(at_builtin;refine cu (F:=FSp) (v:=.slice n o.length p) rfl (.tmp 27) (.tmp 29) 100 rfl pS s rfl l rfl rfl (by have:=jl e.out;rw[fa] at this;first|omega|(simp;omega)) (ap H ((g.drewN d)).size) ?_;intro M K f q m;obtain⟨G,I,rfl⟩:=f.form;simp only[aE,ga,mw,mc] at f;have a:=((g.drewN d)).trans (q.mono (T:=λb=>w.heap.size+1<=b) λb _ j=>((l).at_ j).1) λ_ _ h=>h;have O:=(aP N a (by omega)).cell;have R:=iO E a (by dsimp only;omega);have Y:=iO z a (by dsimp only;omega))
     go_quiet (fail)
     go_wp2;go_roundw
     case rel=>exact⟨k+1,true,o++[s],by omega,rfl,by go_num,f,by rw[li u.out];exact B.out,a.drewN nq⟩
     simp[intOf];omega
    .have B:=ab (anX e.out y);have t1:=dj (show s.n<=x.n by omega);have U:(x.n !=s.n)=true:=by rw[rF];omega
     go_wp2
     go_quiet (fail)
     revert nq;intro d;have l:aK FSp 136 (wr.drewN d) (w.heap.size+1) (.slice n o.length p) o:=t;go_wp2_with(at_builtin;refine cu (F:=FSp) (v:=.slice n o.length p) rfl (.tmp 27) (.tmp 29) 100 rfl pS s rfl l rfl rfl (by have:=jl e.out;rw[fa] at this;first|omega|(simp;omega)) (ap H ((g.drewN d)).size) ?_;intro M K f q m;obtain⟨G,I,rfl⟩:=f.form;simp only[aE,ga,mw,mc] at f;have a:=((g.drewN d)).trans (q.mono (T:=λb=>w.heap.size+1<=b) λb _ j=>((l).at_ j).1) λ_ _ h=>h;have O:=(aP N a (by omega)).cell;have R:=iO E a (by dsimp only;omega);have Y:=iO z a (by dsimp only;omega))
     go_quiet (fail)
     have L:aK FSp 136 (K.drewN nq) (w.heap.size+1) (.slice G (o.length+1) I) (o++[s]):=f;go_wp2_with(at_builtin;refine cu (F:=FSp) (v:=.slice G (o.length+1) I) rfl (.tmp 39) (.tmp 44) 100 rfl pS x rfl L rfl rfl (by have:=jl e.out;rw[fa] at this;first|omega|(simp;omega)) (ap H ((a.drewN nq)).size) ?_;intro v4 w4 o4 P a3;obtain⟨A4,c4,rfl⟩:=o4.form;simp only[aE,ga,mw,mc] at o4;have Z:=((a.drewN nq)).trans (P.mono (T:=λb=>w.heap.size+1<=b) λb _ j=>((L).at_ j).1) λ_ _ h=>h;skip);go_roundw
     case rel=>exact⟨k+1,true,o++[s]++[x],by omega,rfl,by go_num,o4,by rw[li u.out];exact B.out,Z⟩
     simp[intOf];omega
   |true=>
    obtain⟨y,a1⟩:=akr e.out D.out;have B:=ab a1;have U:(x.n !=s.n)=true:=by rw[rF];omega
    go_wp2
    go_quiet (fail)
    revert nq;intro d;go_wp2
    go_quiet (fail)
    have l:aK FSp 136 (wr.drewN (d+nq)) (w.heap.size+1) (.slice n o.length p) o:=t;go_wp2_with(at_builtin;refine cu (F:=FSp) (v:=.slice n o.length p) rfl (.tmp 39) (.tmp 44) 100 rfl pS x rfl l rfl rfl (by have:=jl e.out;rw[fa] at this;first|omega|(simp;omega)) (ap H ((g.drewN (d+nq))).size) ?_;intro M K f q m;obtain⟨G,I,rfl⟩:=f.form;simp only[aE,ga,mw,mc] at f;have a:=((g.drewN (d+nq))).trans (q.mono (T:=λb=>w.heap.size+1<=b) λb _ j=>((l).at_ j).1) λ_ _ h=>h;skip);go_roundw
    case rel=>exact⟨k+1,true,o++[x],by omega,rfl,by go_num,f,by rw[li u.out];exact B.out,a⟩
    simp[intOf];omega
  .obtain rfl:k=xs.length:=by omega
   have r:=anY e.out;rw[gc] at r;have cZ:=(aP N g (by omega)).cell;have J:∀{w9:World},bq (λb=>w.heap.size+1<=b) w0 w9->Below w.heap.size w w9:=λa0=>Q.trans (a0.below Q.size λi hi h=>by omega);rcases r with⟨rfl,C⟩|⟨rfl,C⟩
   .replace C:=ab C;go_wp2_with(at_builtin;refine cu (F:=FSp) (v:=.slice n o.length p) rfl (.tmp 48) (.tmp 50) 100 rfl pS s rfl t rfl rfl (by have:=jl e.out;rw[fa] at this;first|omega|(simp;omega)) (ap H (g).size) ?_;intro M K f q m;obtain⟨G,I,rfl⟩:=f.form;simp only[aE,ga,mw,mc] at f;have a:=(g).trans (q.mono (T:=λb=>w.heap.size+1<=b) λb _ j=>((t).at_ j).1) λ_ _ h=>h;skip);go_ret;exact⟨_,rfl,by rw[C.out];exact f.base (by omega),J a⟩
   .replace C:=ab C;go_wp2;go_ret;exact⟨_,rfl,by rw[C.out];exact t.base (by omega),J g⟩
end
section
variable {β:Bool}
open Go.RowKit
structure It where
 n:Int
 b:ByteArray
structure Pk where
 no:Int
 its:List It
def mo:Flat It:=⟨2,λx=>[.int .i64 x.n,.string x.b],λx=>bZ x.n/\x.b.size<=maxLen,λ_=>rfl,λx u a=>by simp at a;rcases a with rfl|rfl<;>rfl,by decide⟩
abbrev acD:fV (List It):=eB 60 (bP mo) 2
def RPk:fV Pk:=λw a b x c=>∃v,c=[.int .i64 x.no,v]/\bZ x.no/\acD w a b x.its [v]
abbrev an0:fV (List Pk):=eB 54 RPk 2
def acD.ar:dC acD [60]:=eB.ar (bP.ar mo)
def RPk.ar:dC RPk [60]:=⟨λh a b ⟨v,e,i,hr⟩=>⟨v,e,i,acD.ar.go h a b hr⟩⟩
def an0.ar:dC an0 [54,60]:=eB.ar RPk.ar
def nu:ib (ah β) 52 60 2 24:=ib.mk' xf (z:=.agg #[.int .i64 0,.string ⟨#[]⟩]) (by kernel_rfl) rfl (by decide) (by decide)
def adK:ib (ah β) 23 54 2 32:=ib.mk' xz (z:=.agg #[.int .i64 0,.slice none 0 0]) (by kernel_rfl) rfl (by decide) (by decide)
def ay2{xs:List Pk}(h:an0 w Z hi xs [.slice A n c]){x:Pk}(i:xs[k]?=some x) :
  ∃b a A' d,A=some ⟨b,a,none⟩/\Z<=b/\b<hi/\bZ x.no/\w.cell? ⟨b,a+k*2,none⟩=some (.int .i64 x.no)/\w.cell? ⟨b,a+k*2+1,none⟩=some (.slice A' x.its.length d)/\acD w Z hi x.its [.slice A' x.its.length d]:=by
 obtain⟨b,a,m,rfl,j,g,l,⟨v,rfl,e,hi⟩,f⟩:=h.1.at_ i;obtain⟨A',d,rfl⟩:=hi.form;exact⟨b,a,A',d,rfl,j,g,e,by simpa using f 0 _ rfl,f 1 _ rfl,hi⟩
def avK{xs:List It}(h:acD w Z hi xs [.slice A n c]){x:It}(g:xs[k]?=some x) :
  ∃b a,A=some ⟨b,a,none⟩/\Z<=b/\b<hi/\(bZ x.n/\x.b.size<=maxLen)/\w.cell? ⟨b,a+k*2,none⟩=some (.int .i64 x.n)/\w.cell? ⟨b,a+k*2+1,none⟩=some (.string x.b):=by
 obtain⟨b,a,l,rfl,i,f,j,⟨rfl,d⟩,e⟩:=h.1.at_ g;exact⟨b,a,rfl,i,f,d,by simpa using e 0 _ rfl,e 1 _ rfl⟩
def eB.len_{xs:List U}(h:eB e E Z w W hi xs [.slice A n c]):n=xs.length/\n<=c/\c<=maxLen:=h.1.len_
def aaR(p:Pk):List Sp:=p.its.map λx=>⟨x.n,p.no⟩
def dW(l:List Pk):List Sp:=l.flatMap aaR
def IOf(l:List Pk)(r:List Sp):Prop:=((∀s∈dW l,spP s)/\r=fg (dW l) [])\/((¬ ∀s∈dW l,spP s)/\r=[])
def akt{l:List Pk}{x:Pk}(h:l[k]?=some x):dW (l.take (k+1))=dW (l.take k)++aaR x:=by
 rw[li h];unfold dW;rw[sX];simp
def cH(l:List Pk)(k j:Nat):List Sp:=dW (l.take k)++((l[k]?.map λp=>(aaR p).take j).getD [])
def abR(l:List Pk)(k:Nat):cH l k 0=dW (l.take k):=by
 unfold cH;cases l[k]?<;>simp
def agV{l:List Pk}{x:Pk}{y:It}(h:l[k]?=some x)(a:x.its[j]?=some y):cH l k (j+1)=cH l k j++[⟨y.n,x.no⟩]:=by
 unfold cH;rw[h];simp only[qk,qo];rw[sO]
 congr 1
 refine li (k:=j) ?_;unfold aaR;rw[qH,a];rfl
def ail{l:List Pk}{x:Pk}(h:l[k]?=some x):cH l k x.its.length=dW (l.take (k+1)):=by
 rw[akt h];unfold cH;rw[h];simp only[qk,qo]
 congr 1
 unfold aaR;exact pm (by rw[qc];exact am _)
def aim{l:List Pk} :∀s∈cH l k j,s∈dW l:=λs a=>by
 unfold cH at a;rcases mx.1 a with h|h
 .obtain⟨p,c,a⟩:=sq.1 h;exact sq.2 ⟨p,pu c,a⟩
 .cases b:l[k]? with
  |none=>rw[b] at h;cases h
  |some x=>
   rw[b] at h;exact sq.2 ⟨x,db b,pu h⟩
def ain{l:List Pk}{x:Pk}(h:l[k]?=some x):(cH l k j).length<=(dW l).length:=by
 have a:dW l=dW (l.take k)++dW (l.drop k):=by
  unfold dW;rw[<-sX,vN]
 rw[a];unfold cH;rw[h,aE,aE];have:l.drop k=x::l.drop (k+1):=by
  rw[rR (aC h)]
  congr 1
  exact(qm.1 h).2
 rw[this];unfold dW;rw[List.flatMap_cons,aE];simp only[qk,qo,fa];omega
def IOf.ix{l:List Pk}{r:List Sp}(h:IOf l r):ixP r:=by
 rcases h with⟨h,rfl⟩|⟨_,rfl⟩
 .exact aik ap6 h
 .exact ap6
end
section
variable {β:Bool}
open Go.RowKit
def afT(key:Int)(x:It):Prop:=∃p,ni (bs x.b)=some p/\cP key p=x.n
def atk(p:Prop):∃b:Bool,b=true↔p:=by
 by_cases h:p
 .exact⟨true,by simp[h]⟩
 .exact⟨false,by simp[h]⟩
end
section
variable {β:Bool}
open Go.RowKit
def Rd(w:World)(lo hi g:Nat)(l:List Int)(p:Nat):Prop:=
 ∃A c,bg w g 69 #[.slice A l.length c,.int .i64 p]/\l.length<=2000/\bE jC 1 w lo hi l [.slice A l.length c]/\hi<=g
def awS(n v:Int):Prop:=(n<1->v=0)/\(1<=n->0<=v/\v<n)
def ap8(w:World)(lo hi g:Nat)(l:List Int)(p:Nat)(n:Int)(e:Ending)(w':World):Prop:=
 ∃v:Int,e=.returned (.int .i64 v)/\awS n v/\Rd w' lo hi g l (p+1)/\bq (λb=>b=g) w w'
def Rd.fc{p:Nat}(h:Rd w Z hi g l p)(f:bq S w w')(e:∀b,b<hi\/b=g->¬S b):Rd w' Z hi g l p:=by
 obtain⟨A,c,d,i,k,m⟩:=h;have a:=d.lt;exact⟨A,c,(f.block g a (e g (.inr rfl))).trans d,i,(bE.loc jC.loc).go (λb _ j=>f.block b (by omega) (e b (.inl j))) (am _) (am _) k,m⟩
def Rd.lt{p:Nat}(h:Rd w Z hi g l p):g<w.heap.size:=by
 obtain⟨A,c,a,_⟩:=h;exact a.lt
def Rd.drew{p:Nat}(h:Rd w Z hi g l p):Rd w.drew Z hi g l p:=h.fc ((bq.refl (λ_=>False) _).drew) (λ_ _ h=>h)
def Rd.alloc{p:Nat}(h:Rd w Z hi g l p)(o:Obj):Rd (w.alloc o) Z hi g l p:=h.fc ((bq.refl (λ_=>False) _).alloc o) (λ_ _ h=>h)
def atl{p:Nat}(h:Rd w Z hi g l p)(n:Int)(j:n=(p:Int)+1):Rd (w.setCell ⟨g,1,none⟩ (.int .i64 n)) Z hi g l (p+1):=by
 obtain⟨A,c,f,a,d,e⟩:=h;refine⟨A,c, ?_,a, ?_,e⟩
 .have:=f.bF 1 (.int .i64 n);rw[j] at this ⊢;exact this
 .refine(bE.loc jC.loc).go (λb _ i=> ?_) (am _) (am _) d;exact io _ _ _ _ (by show b≠g;omega)
def afU(a:Nat)(b:a<9223372036854775808):(BitVec.ofInt 64 (a:Int)).toNat=a:=by
 rw[BitVec.ofInt_natCast,BitVec.toNat_ofNat];exact Nat.mod_eq_of_lt (by omega)
def aku(a b:Int)(d:0<=a)(f:a<9223372036854775808)(e:0<=b)(c:b<9223372036854775808):0<=bits .xor .i64 a b:=by
 obtain⟨a,rfl⟩:=qe d;obtain⟨b,rfl⟩:=qe e;have g:a ^^^ b<2 ^ 63:=Nat.xor_lt_two_pow (by omega) (by omega);show 0<=IntKind.i64.wrap ((BitVec.ofInt 64 (a:Int) ^^^ BitVec.ofInt 64 (b:Int)).toNat:Int);rw[BitVec.toNat_xor,afU a (by omega),afU b (by omega),uw];omega
def cV(w:World)(B hi g:Nat)(l:List Int)(p:Nat)(n:Int)(h:Rd w B hi g l p)(S:p<=1099511627776) :
  Calls (ah β) 25 #[.pointer (some ⟨g,0,none⟩),.int .i64 n] w (ap8 w B hi g l p n):=by
 have a:=λn z=>atl h n z;obtain⟨A,c,o,T,s,N⟩:=h;have I:=o.cell 0;have G:=o.cell 1;have O:=o.frozen 1;simp at I G;by_cases z:n<1
 .go_enter wQ,ntmps25;go_wp2;go_ret;exact⟨0,rfl,⟨λ_=>rfl,λh=>absurd h (by omega)⟩,a _ rfl,(bq.refl (λb=>b=g) _).setCell (p:=⟨g,1,none⟩) (.inl rfl) _⟩
 by_cases d:l.length=0
 .have f:((l.length:Int) ==0)=true:=by rw[nF];omega
  replace d:=ab d;go_enter wQ,ntmps25;go_wp2;go_ret;exact⟨0,rfl,⟨λ_=>rfl,λh=>⟨by omega,by omega⟩⟩,a _ rfl,(bq.refl (λb=>b=g) _).setCell (p:=⟨g,1,none⟩) (.inl rfl) _⟩
 by_cases E:p<l.length
 .obtain⟨x,i⟩:=aq E;obtain⟨b,r,rfl,u,t,j,q⟩:=s.aek i;have V:=ab i;have m:b≠g:=by omega
  have f:((l.length:Int) ==0)=false:=by rw[de];omega
  go_enter wQ,ntmps25;go_wp2;go_ret;exact⟨x % n,rfl,⟨λh=>absurd h (by omega),λh=>⟨vI _ (by omega),uS _ (by omega)⟩⟩,a _ rfl,(bq.refl (λb=>b=g) _).setCell (p:=⟨g,1,none⟩) (.inl rfl) _⟩
 .have f:((l.length:Int) ==0)=false:=by rw[de];omega
  obtain⟨x,i⟩:=aq (l:=l) (k:=p % l.length) (tI _ (by omega));obtain⟨y,H⟩:=aq (l:=l) (k:=(p*7+3) % l.length) (tI _ (by omega));obtain⟨b,r,rfl,u,t,j,C⟩:=s.aek i;obtain⟨M,v,e,_,_,D,F⟩:=s.aek H;simp only[mt,qz,qu] at e;obtain⟨rfl,rfl⟩:=e;have m:b≠g:=by omega
  have U:p % l.length<l.length:=tI _ (by omega);have L:(p*7+3) % l.length<l.length:=tI _ (by omega);have P:0<=((p:Int)*7+3) % (l.length:Int):=vI _ (by omega);have W:((p:Int)*7+3) % (l.length:Int)<(l.length:Int):=uS _ (by omega);have R:(((p:Int)*7+3) % (l.length:Int)).toNat=(p*7+3) % l.length:=by
   have:((p:Int)*7+3) % (l.length:Int)=(((p*7+3) % l.length:Nat):Int):=rfl;rw[this];rfl
  have Q:0<=(p:Int) / (l.length:Int):=Int.ediv_nonneg (by omega) (by omega);have K:(p:Int) / (l.length:Int)<=p:=Int.ediv_le_self _ (by omega);go_enter wQ,ntmps25;go_wp2;have J:=aku (x*131+y*1117+(p:Int)*29+(p:Int) / (l.length:Int)*53) ((x*131+y*1117+(p:Int)*29+(p:Int) / (l.length:Int)*53) / 64) (by omega) (by omega) (by omega) (by omega)
  go_quiet (fail)
  go_wp2;go_ret;exact⟨_,rfl,⟨λh=>absurd h (by omega),λh=>⟨vI _ (by omega),uS _ (by omega)⟩⟩,
   (a _ rfl).fc ((bq.refl (λ_=>False) _).drewN nq) (λ_ _ h=>h),((bq.refl (λb=>b=g) _).setCell (p:=⟨g,1,none⟩) (.inl rfl) _).drewN nq⟩
def ap9(w:World)(lo hi:Nat)(l:List Int)(e:Ending)(w':World):Prop:=
 ∃g,e=.returned (.pointer (some ⟨g,0,none⟩))/\Rd w' lo hi g (l.take 2000) 0/\w.heap.size<=g/\Below w.heap.size w w'
def bE.cut{xs:List U}(h:bE E Z w W hi xs [.slice A n c])(q:m<=n):bE E Z w W hi (xs.take m) [.slice A m c]:=by
 obtain⟨A',p,a,r,k,g⟩:=h;simp only[qf,nf,qu] at a;obtain⟨rfl,rfl,rfl⟩:=a;have f:(xs.take m).length=m:=by rw[fa];omega
 refine⟨A,c,by rw[f],by omega,k,λo=> ?_⟩;obtain⟨b,d,rfl,l,j,e⟩:=g (by omega);refine⟨b,d,rfl,l,j,λi x hi=>e i x ?_⟩;have:=aC hi;rw[sW (by omega)] at hi;exact hi
def aqa(l:List Int)(A:Option Addr)(n c:Nat)(w:World)(f hi:Nat)(h:bE jC 1 w f hi l [.slice A n c])(d:hi<=w.heap.size) :
  Calls (ah β) 10 #[.slice A n c] w (ap9 w f hi l):=by
 obtain⟨rfl,j,g⟩:=h.len_;unfold maxLen at g;by_cases i:2000<l.length
 .have b:=h.cut (m:=2000) (by omega);have a:(l.take 2000).length=2000:=by rw[fa];omega
  go_enter xT,ntmps10;go_wp2;go_ret;refine⟨_,rfl,⟨A,c, ?_,by omega, ?_,d⟩,am _,(fd _ _).alloc (am _) _⟩
  .rw[a];exact bg.new _ _ _
  .rw[a];exact Lcy.below (bE.loc jC.loc) b ((fd _ _).alloc (am _) _) d
 .have a:l.take 2000=l:=pm (by omega);have e:=ab a;go_enter xT,ntmps10;go_wp2;go_ret;refine⟨_,rfl,⟨A,c, ?_,by rw[e.out];omega, ?_,d⟩,am _,(fd _ _).alloc (am _) _⟩
  .rw[e.out];exact bg.new _ _ _
  .rw[e.out];exact Lcy.below (bE.loc jC.loc) h ((fd _ _).alloc (am _) _) d
end
section
variable {β:Bool}
open Go.RowKit
structure aqb (w:World) (lo hi g:Nat) (l:List Int) (N:Nat) where
 to:World
 q:Nat
 rd:Rd to lo hi g l q
 ok:bq (λb=>b=g) w to
 lim:q<=N
section
variable {w:World} {lo hi g:Nat} {l:List Int} {N:Nat}
instance avL:bc (aqb w lo hi g l N):=⟨λm x=>x.q+m<=N,λ_ _ h=>rY h,λ_ _=>True⟩
variable {P:Program}
variable {ops:Array Oper} {Qt:Act->World->Prop} {i:Nat} {o:Oper} {L:List (Nat×Oper)} {F:List (Nat×(aqb w lo hi g l N->Prop))} {Rs:List (iM (aqb w lo hi g l N))} {a:Act}
end
end
section
variable {β:Bool}
open Go.RowKit
def Rd.hi_{p:Nat}(h:Rd w Z hi g l p):hi<=g:=by
 obtain⟨A,c,_,_,_,a⟩:=h;exact a
structure aJ (w:World) (lo hi g:Nat) (l:List Int) (N s ia ic bk:Nat) (fx:Bool) (ty:TypeId) (n:Nat) (S:Nat->Prop) (pre:List Nat) where
 to:World
 q:Nat
 box:Option Nat
 done:Bool
 res:Option Value
 rd:Rd to lo hi g l q
 ok:bq (λb=>b=g\/box=some b\/(done=true/\S b)) w to
 lim:q<=N
 bw:∀b,box=some b->b=bk\/w.heap.size<=b
 bf:fx=true->box=some bk
 sf:∀b,S b->b≠g/\hi<=b/\b≠bk/\b<w.heap.size
 bx:∀b,box=some b->b≠g/\hi<=b/\∃cs:Array Value,cs.size=n/\bg to b ty cs
section
variable {w:World} {lo hi g:Nat} {l:List Int} {N s ia ic bk:Nat} {fx:Bool} {ty:TypeId} {n:Nat} {S:Nat->Prop} {pre:List Nat}
instance avM:bc (aJ w lo hi g l N s ia ic bk fx ty n S pre):=⟨λm x=>x.q+m<=N,λ_ _ h=>rY h,λi x=>(i=s\/i∈pre->x.done=false)/\(i=ia->x.box=none)/\(i=ic->x.res=none)⟩
structure aJ.le (x y:aJ w lo hi g l N s ia ic bk fx ty n S pre):Prop where
 fc:bq (λb=>b=g\/(x.done=false/\(x.box=some b\/S b))) x.to y.to
 done:x.done=true->y.done=true
 box:∀b,x.box=some b->y.box=some b
 fresh:∀b,x.box=none->y.box=some b->x.to.heap.size<=b
 res:∀v,x.res=some v->y.res=some v
def aJ.le_refl(x:aJ w lo hi g l N s ia ic bk fx ty n S pre):aJ.le x x:=⟨bq.refl _ _,id,λ_ h=>h,λb c a=>(by rw[c] at a;cases a),λ_ h=>h⟩
def aJ.free(x:aJ w lo hi g l N s ia ic bk fx ty n S pre)(b:Nat):Prop:=b<x.to.heap.size/\b≠g/\x.box≠some b/\¬S b
def aJ.le.free{x y:aJ w lo hi g l N s ia ic bk fx ty n S pre}(h:aJ.le x y)(a:x.free b):y.free b:=by
 refine⟨bd a.1 h.fc.size,a.2.1,λe=> ?_,a.2.2.2⟩;cases d:x.box with
 |none=>have:=h.fresh b d e;have:=a.1;omega
 |some c=>
  have:=h.box c d;rw[e] at this;cases this;exact a.2.2.1 d
def aJ.le.not{x y:aJ w lo hi g l N s ia ic bk fx ty n S pre}(_:aJ.le x y)(a:x.free b):¬(b=g\/(x.done=false/\(x.box=some b\/S b))):=by
 rintro(rfl|⟨_,h|h⟩)
 .exact a.2.1 rfl
 .exact a.2.2.1 h
 .exact a.2.2.2 h
def aJ.le.full{x y:aJ w lo hi g l N s ia ic bk fx ty n S pre}(h:aJ.le x y)(a:x.done=true)(e:x.box=some b)(c:bg x.to b t cs):y.done=true/\y.box=some b/\bg y.to b t cs:=by
 refine⟨h.done a,h.box b e,(h.fc.block b c.lt ?_).trans c⟩;rintro(rfl|⟨d,_⟩)
 .exact(x.bx _ e).1 rfl
 .rw[a] at d;cases d
def aaS(h:w.cell? p=some v){x:aJ w lo hi g l N s ia ic bk fx ty n S pre}(c:p.block≠g)(b:p.block≠bk)(d:¬S p.block):x.to.cell? p=some v:=by
 have a:=tX w p h;have b:x.box≠some p.block:=λe=>by
  rcases x.bw _ e with h|h
  .exact b h
  .omega
 unfold World.cell? at h ⊢;rw[x.ok.block p.block a (by
  rintro(h|h|⟨_,h⟩)
  .exact c h
  .exact b h
  .exact d h)]
 exact h
def akv     (k q:Nat) (j o:List Nat) (u:P.follows .mixedOrders=true) (H:aib M k j o=true) (v:aeo M.toArray k X.tmps.size=true)
  (D:Rd w lo hi g l q) (I:q+k<=N) (a:Option Nat) (A:∀b,a=some b->b=bk) (r:fx=true->a=some bk) (p:∀b,S b->b≠g/\hi<=b/\b≠bk/\b<w.heap.size) (f:∀b,a=some b->b≠g/\hi<=b/\∃c:Array Value,c.size=n/\bg w b ty c) (t:a=none\/k<=ia)
  (h:wpQuiet P M.toArray (λy=>∃x:aJ w lo hi g l N s ia ic bk fx ty n S pre,y=x.to) (λG=>∃F:List (iM (aJ w lo hi g l N s ia ic bk fx ty n S pre)),cR P M.toArray (aJ.to (w:=w)) (aJ.le (w:=w)) (wpList P M.toArray Q (M.drop k)) (pick M o) [] F G) ((pick M j).map (·.2)) X):(Code.region Z M.toArray true).wp P Q X w:=
 aaP (aJ.to (w:=w)) (aJ.le (w:=w)) aJ.le_refl k j o u H v
  ⟨w.drew,q,a,false,none,D.drew,(bq.refl _ _).drew,by omega,λb d=>.inl (A b d),r,p,λb d=>by
   obtain⟨C,z,c,E,B⟩:=f b d;exact⟨C,z,c,E,B⟩⟩ (λm u=>by show q+m<=N;omega) (λi hi=>And.intro (λ_=>rfl) (And.intro (λe=>by
   rcases t with h|h
   .exact h
   .omega) λ_=>rfl)) rfl h
def aJ.on(x:aJ w lo hi g l N s ia ic bk fx ty n S pre){w2:World}(hb:Below x.to.heap.size x.to w2):aJ w lo hi g l N s ia ic bk fx ty n S pre:=
 ⟨w2,x.q,x.box,x.done,x.res,x.rd.fc (bq.aN (S:=λ_=>False) hb) (λ_ _ h=>h),x.ok.trans (bq.aN (S:=λb=>b=g\/x.box=some b\/(x.done=true/\S b)) hb) λ_ _ e=>e,x.lim,x.bw,x.bf,x.sf,λb h=>by
  obtain⟨f,a,d,i,c⟩:=x.bx b h;exact⟨f,a,d,i,ak c hb⟩⟩
def aJ.told(x:aJ w lo hi g l N s ia ic bk fx ty n S pre){w2:World}(hb:Below x.to.heap.size x.to w2)(v:Value):aJ w lo hi g l N s ia ic bk fx ty n S pre:={x.on hb with res:=some v}
def aJ.atm(x:aJ w lo hi g l N s ia ic bk fx ty n S pre)(a:Below x.to.heap.size x.to w2)(v:Value)(d:x.res=none):aJ.le x (x.told a v):=⟨bq.aN a,id,λ_ h=>h,λb e c=>(by
 have:x.box=some b:=c;rw[e] at this;cases this),λu h=>by rw[d] at h;cases h⟩
def aJ.took(x:aJ w lo hi g l N s ia ic bk fx ty n S pre){w2:World}(hr:Rd w2 lo hi g l (x.q+1))(hc:bq (λb=>b=g) x.to w2)(hl:x.q+1<=N):aJ w lo hi g l N s ia ic bk fx ty n S pre:=
 ⟨w2,x.q+1,x.box,x.done,x.res,hr,x.ok.trans (hc.mono λb _ h=>.inl h) λ_ _ e=>e,hl,x.bw,x.bf,x.sf,λb h=>by
  obtain⟨a,c,f,i,d⟩:=x.bx b h;exact⟨a,c,f,i,aP d hc a⟩⟩
def aJ.atn(x:aJ w lo hi g l N s ia ic bk fx ty n S pre)(e:Rd w2 lo hi g l (x.q+1))(a:bq (λb=>b=g) x.to w2)(c:x.q+1<=N):aJ.le x (x.took e a c):=⟨a.mono λb _ h=>.inl h,id,λ_ h=>h,λb f d=>(by
 have:x.box=some b:=d;rw[f] at this;cases this),λ_ h=>h⟩
def aJ.made(x:aJ w lo hi g l N s ia ic bk fx ty n S pre)(hx:x.box=none)(cs:Array Value)(hn:cs.size=n)(hg:hi<=x.to.heap.size):aJ w lo hi g l N s ia ic bk fx ty n S pre:=
 ⟨x.to.alloc (.cells cs ty),x.q,some x.to.heap.size,x.done,x.res,x.rd.alloc _,(x.ok.mono λb _ h=>by rw[hx] at h;exact h.elim .inl λh=>h.elim (λh=>by cases h) λh=>.inr (.inr h)).alloc _,x.lim,λb h=>(by cases h;exact .inr x.ok.size),λh=>(by rw[x.bf h] at hx;cases hx),x.sf,λb h=>by
  cases h;exact⟨Nat.ne_of_gt x.rd.lt,hg,cs,hn,bg.new _ _ _⟩⟩
def aJ.ato(x:aJ w lo hi g l N s ia ic bk fx ty n S pre)(a:x.box=none)(cs:Array Value)(e:cs.size=n)(c:hi<=x.to.heap.size):aJ.le x (x.made a cs e c):=⟨(bq.refl _ _).alloc _,id,λb h=>(by rw[a] at h;cases h),λb _ d=>(by
 have:some x.to.heap.size=some b:=d;cases this;exact am _),λ_ h=>h⟩
def aJ.fill(x:aJ w lo hi g l N s ia ic bk fx ty n S pre){b:Nat}(hx:x.box=some b){w2:World}(hc:bq (λc=>c=b) x.to w2){cs:Array Value}(hn:cs.size=n)(hk:bg w2 b ty cs):aJ w lo hi g l N s ia ic bk fx ty n S pre:=
 ⟨w2,x.q,x.box,true,x.res,x.rd.fc hc (λc h e=>by
  obtain⟨a,d,_⟩:=x.bx b hx;rcases h with h|h
  .omega
  .exact a (e▸h)),(x.ok.mono (T:=λb=>b=g\/x.box=some b\/(true=true/\S b)) λc _ h=>h.elim .inl λh=>h.elim (λh=>.inr (.inl h)) λh=>.inr (.inr ⟨rfl,h.2⟩)).trans (hc.mono λc _ h=>.inr (.inl (by rw[hx,h]))) λ_ _ e=>e,x.lim,x.bw,x.bf,x.sf,λc h=>by
  rw[hx] at h;cases h;exact⟨(x.bx _ hx).1,(x.bx _ hx).2.1,cs,hn,hk⟩⟩
def aJ.atp(x:aJ w lo hi g l N s ia ic bk fx ty n S pre)(a:x.box=some b)(e:bq (λc=>c=b) x.to w2)(j:cs.size=n)(i:bg w2 b ty cs)(f:x.done=false):aJ.le x (x.fill a e j i):=
 ⟨e.mono λc _ h=>.inr ⟨f,.inl (by rw[a,h])⟩,λ_=>rfl,λ_ h=>h,λc d k=>(by rw[a] at d;cases d),λ_ h=>h⟩
variable {P:Program} {ops:Array Oper} {Qt:Act->World->Prop} {i:Nat} {o:Oper} {L:List (Nat×Oper)} {F:List (Nat×(aJ w lo hi g l N s ia ic bk fx ty n S pre->Prop))} {Rs:List (iM (aJ w lo hi g l N s ia ic bk fx ty n S pre))} {a:Act}
def amE (R:Value->Prop) (c:o.dst.isSome=true)
  (j:∀x:aJ w lo hi g l N s ia ic bk fx ty n S pre,abK F o x->∀b:Exit->Act->World->Prop,(∀v,R v->b .normal (a.put o.dst v) x.to)->wpList P ops b [o] a x.to)
  (e:∀v,cR P ops (aJ.to (w:=w)) (aJ.le (w:=w)) Qt L ((i,λ_=>R v)::F) Rs (a.put o.dst v)):cR P ops (aJ.to (w:=w)) (aJ.le (w:=w)) Qt ((i,o)::L) F (.any (λv _=>R v)::Rs) a:=
 lS (to:=aJ.to (w:=w)) (le:=aJ.le (w:=w)) (λv _=>R v) (.inl c) (λ_ _ _ h _=>h) (λx p m d q b k=>j x p b λv f=>
  k v x (aJ.le_refl x) (rY d) (λ_ _ _ h=>h) f) e
def atq (R:Value->Prop) (j:o.dst.isSome=true)
  (z:∀x:aJ w lo hi g l N s ia ic bk fx ty n S pre,abK F o x->x.q<N->∀c:Exit->Act->World->Prop,(∀v d,Rd d lo hi g l (x.q+1)->bq (λb=>b=g) x.to d->R v->c .normal (a.put o.dst v) d)->wpList P ops c [o] a x.to)
  (p:∀v,cR P ops (aJ.to (w:=w)) (aJ.le (w:=w)) Qt L ((i,λ_=>R v)::F) Rs (a.put o.dst v)):cR P ops (aJ.to (w:=w)) (aJ.le (w:=w)) Qt ((i,o)::L) F (.any (λv _=>R v)::Rs) a:=
 lS (to:=aJ.to (w:=w)) (le:=aJ.le (w:=w)) (λv _=>R v) (.inl j) (λv x y h _=>h) (λx r m t A c q=>by
  have k:x.q+(m+1)<=N:=t;exact z x r (by omega) c λv d e f u=>
   q v (x.took e f (by omega)) (x.atn e f (by omega)) (by show x.q+1+m<=N;omega) (λ_ _ _ h=>h) u) p
def atr (R:Value->aJ w lo hi g l N s ia ic bk fx ty n S pre->Prop) (p:o.dst.isSome=true) (hi':i=ic) (t:∀v x y,R v x->aJ.le x y->R v y)
  (D:∀x:aJ w lo hi g l N s ia ic bk fx ty n S pre,abK F o x->∀d:Exit->Act->World->Prop,(∀v f (c:Below x.to.heap.size x.to f),R v (x.told c v)->d .normal (a.put o.dst v) f)->wpList P ops d [o] a x.to)
  (r:∀v,cR P ops (aJ.to (w:=w)) (aJ.le (w:=w)) Qt L ((i,λx=>R v x/\x.res=some v)::F) Rs (a.put o.dst v)):cR P ops (aJ.to (w:=w)) (aJ.le (w:=w)) Qt ((i,o)::L) F (.any (λv x=>R v x/\x.res=some v)::Rs) a:=
 lS (to:=aJ.to (w:=w)) (le:=aJ.le (w:=w)) (λv x=>R v x/\x.res=some v) (.inl p) (λv x y h k=>⟨t v x y h.1 k,k.res v h.2⟩) (λx z m A q d u=>D x z d λv f c B=>
  u v (x.told c v) (x.atm c v (q.2.2 hi')) (rY A) (λj C _ b=>⟨b.1,b.2.1,λe=>absurd (e.trans hi'.symm) C⟩) ⟨B,rfl⟩) r
def agW (R:Value->Value->Prop) (c:o.dst.isSome=true)
  (q:∀x:aJ w lo hi g l N s ia ic bk fx ty n S pre,abK F o x->∀b:Exit->Act->World->Prop,(∀v u,x.res=some u->R v u->b .normal (a.put o.dst v) x.to)->wpList P ops b [o] a x.to)
  (d:∀v,cR P ops (aJ.to (w:=w)) (aJ.le (w:=w)) Qt L ((i,λx=>∃u,x.res=some u/\R v u)::F) Rs (a.put o.dst v)):cR P ops (aJ.to (w:=w)) (aJ.le (w:=w)) Qt ((i,o)::L) F (.any (λv x=>∃u,x.res=some u/\R v u)::Rs) a:=
 lS (to:=aJ.to (w:=w)) (le:=aJ.le (w:=w)) (λv x=>∃u,x.res=some u/\R v u) (.inl c) (λ_ _ _ ⟨u,h,hr⟩ hl=>⟨u,hl.res u h,hr⟩) (λx j m k r b f=>q x j b λv u e p=>
  f v x (aJ.le_refl x) (rY k) (λ_ _ _ h=>h) ⟨u,e,p⟩) d
def aqc (q:o.dst.isSome=true) (hi':i=ia) (t:ia≠s) (z:hi<=w.heap.size) (cs:Array Value) (p:cs.size=n)
  (D:∀x:aJ w lo hi g l N s ia ic bk fx ty n S pre,∀k:Exit->Act->World->Prop,(k .normal (a.put o.dst (.pointer (some ⟨x.to.heap.size,0,none⟩))) (x.to.alloc (.cells cs ty)))->wpList P ops k [o] a x.to)
  (u:∀v,cR P ops (aJ.to (w:=w)) (aJ.le (w:=w)) Qt L ((i,λx=>∃b,v=.pointer (some ⟨b,0,none⟩)/\w.heap.size<=b/\x.box=some b)::F) Rs (a.put o.dst v)):cR P ops (aJ.to (w:=w)) (aJ.le (w:=w)) Qt ((i,o)::L) F (.any (λv x=>∃b,v=.pointer (some ⟨b,0,none⟩)/\w.heap.size<=b/\x.box=some b)::Rs) a:=
 lS (to:=aJ.to (w:=w)) (le:=aJ.le (w:=w)) (λv x=>∃b,v=.pointer (some ⟨b,0,none⟩)/\w.heap.size<=b/\x.box=some b) (.inl q) (λv x y ⟨b,e,hb,h⟩ hle=>⟨b,e,hb,hle.box b h⟩) (λx E m B r k A=>by
  have d:=r.2.1 hi';have f:hi<=x.to.heap.size:=ap z x.ok.size;refine D x k (A _ (x.made d cs p f) (x.ato d cs p f) (rY B) (λj C _ c=>⟨c.1,λe=>absurd (e.trans hi'.symm) C,c.2.2⟩) ⟨_,rfl,x.ok.size,rfl⟩)) u
def aqd (R:aJ w lo hi g l N s ia ic bk fx ty n S pre->Prop) (hi':i=s) (A:∀j∈pre,Behind ops i j) (K:∀x y,R x->aJ.le x y->R y)
  (I:∀x:aJ w lo hi g l N s ia ic bk fx ty n S pre,abK F o x->x.done=false->∀k:Exit->Act->World->Prop,(∀b (z:x.box=some b) q (r:bq (λc=>c=b) x.to q) (t:Array Value) (p:t.size=n) (f:bg q b ty t),R (x.fill z r p f)->k .normal (a.put o.dst undef) q)->wpList P ops k [o] a x.to)
  (E:o.dst=none)
  (G:cR P ops (aJ.to (w:=w)) (aJ.le (w:=w)) Qt L ((i,λx=>R x)::F) Rs (a.put o.dst undef)):cR P ops (aJ.to (w:=w)) (aJ.le (w:=w)) Qt ((i,o)::L) F (.any (λ_ x=>R x)::Rs) a:=
 lS (to:=aJ.to (w:=w)) (le:=aJ.le (w:=w)) (λ_ x=>R x) (.inr λ_ _ _ h=>h) (λ_ x y h B=>K x y h B) (λx z m M D k H=>I x z (D.1 (.inl hi')) k λb d q r t p f J=>by
  exact H undef (x.fill d r p f) (x.atp d r p f (D.1 (.inl hi'))) (rY M) (λj O C u=>⟨λe=>e.elim (λe=>absurd (e.trans hi'.symm) O) λe=>absurd (A j e) C,u.2⟩) J) (λv=>by
  have e:a.put o.dst v=a.put o.dst undef:=by rw[E];rfl
  rw[e];exact G)
def awT(h:∀x:aJ w lo hi g l N s ia ic bk fx ty n S pre,dP F x->Qt a x.to):cR P ops (aJ.to (w:=w)) (aJ.le (w:=w)) Qt [] F [] a:=agP h
end
end
section
variable {β:Bool}
open Go.RowKit
def ie:Flat ByteArray:=⟨1,λs=>[.string s],λs=>s.size<=maxLen,λ_=>rfl,λs u a=>by rw[pe.1 a];rfl,by decide⟩
abbrev dt:fV (List ByteArray):=eB 9 (bP ie) 1
def dt.ar:dC dt [9]:=eB.ar (bP.ar ie)
def abS:ib (ah β) 78 9 1 16:=ib.mk' yE (z:=.string ⟨#[]⟩) (by kernel_rfl) rfl (by decide) (by decide)
def kZ(h:dt w Z hi xs [.slice A n c]){x:ByteArray}(f:xs[k]?=some x) :
  ∃b a,A=some ⟨b,a,none⟩/\Z<=b/\b<hi/\x.size<=maxLen/\w.cell? ⟨b,a+k,none⟩=some (.string x):=by
 obtain⟨b,a,l,rfl,g,e,j,⟨rfl,d⟩,i⟩:=h.1.at_ f;exact⟨b,a,rfl,g,e,d,by simpa using i 0 _ rfl⟩
def Rd.blk{p:Nat}(h:Rd w Z hi g l p):∃b,bg w g 69 b:=by
 obtain⟨A,c,a,_⟩:=h;exact⟨_,a⟩
def att{fE hi' : Nat}{p:Nat}{cs:List Value}(h:dt w fE hi' xs cs)(c:Rd w Z hi g l p)(d:bq (λb=>b=g) w w'):dt w' fE hi' xs cs:=
 dt.ar.fc h d λb _ _ ⟨t,ht,ds,hd⟩ e=>by
  obtain⟨f,a⟩:=c.blk;subst e;have:=cD hd a;rw[pe.1 ht] at this;exact absurd this (by decide)
def agX(h:xs.all (λs=>decide (s.size<=9))=true):∀s∈xs,s.size<=9:=λs a=>sM (lE.1 h s a)
def nz(h:xs.all (λs=>decide (s.size<=9))=true):∀s∈xs,ie.good s:=λs a=>by
 have:=agX h s a;show s.size<=maxLen;unfold maxLen;omega
def awU(xs:List ByteArray)(w:World)(lo hi g:Nat)(l:List Int)(p:Nat)(e:Ending)(w':World):Prop:=∃s∈xs,e=.returned (.string s)/\Rd w' lo hi g l (p+1)/\bq (λb=>b=g) w w'
def agY(xs:List ByteArray)(B:0<xs.length/\xs.length<=100)(v:Value)(l:List Int)(g p n hi fE hi':Nat)(w:World)(j:Rd w n hi g l p)(z:p<=1000000)(h:dt w fE hi' xs [v]) :
  Calls (ah β) 31 #[.pointer (some ⟨g,0,none⟩),v] w (awU xs w n hi g l p):=by
 obtain⟨A,c,rfl⟩:=h.form;go_enter zv,ntmps31;go_wp2;refine(cV _ _ _ _ _ _ _ j (by omega)).mono ?_;rintro e x ⟨m,rfl,⟨_,u⟩,i,a⟩;obtain⟨o,C⟩:=u (by omega);obtain⟨k,rfl⟩:=qe o;obtain⟨s,d⟩:=aq (l:=xs) (k:=k) (by omega);have q:=att h j a;obtain⟨b,t,rfl,_,_,r,f⟩:=kZ q d;replace d:=ab d;have y:k<xs.length:=by omega
 go_wp2;go_ret;exact⟨s,db d.out,rfl,i,a⟩
def an1(w:World)(lo hi g:Nat)(l:List Int)(p:Nat)(e:Ending)(w':World):Prop:=∃s q,e=.returned (.string s)/\s.size<=9/\Rd w' lo hi g l q/\q<=p+3/\bq (λb=>b=g) w w'
def an2(xs:List ByteArray)(s:ByteArray)(v:Value)(w:World)(t hi:Nat)(h:dt w t hi xs [v])(b:Bool)(d:b=true↔s∈xs) :
  Calls (ah β) 83 #[v,.string s] w λe p=>e=.returned (.bool b)/\w=p:=by
 replace d:=ab d;obtain⟨A,c,rfl⟩:=h.form;obtain⟨_,z,r⟩:=h.len_;unfold maxLen at r;go_enter yM,ntmps83;go_wp2
 go_loop [5] (λi=>∃k:Nat,k<=xs.length/\i=.int .i64 k/\s∉xs.take k) (λi=>xs.length-(intOf i).toNat)
 case atStart=>exact⟨0,fb _,rfl,by simp⟩
 case round=>
  obtain⟨k,y,rfl,f⟩:=hrel;replace f:=ab f;by_cases g:k<xs.length
  .obtain⟨x,a⟩:=aq g;obtain⟨u,q,rfl,_,_,_,l⟩:=kZ h a;replace a:=ab a;by_cases n:x=s
   .subst n;have m:=db a.out;have j:=ab m;go_wp2;go_ret;exact⟨aB (by rw[eq_comm,d.out];exact j.out),rfl⟩
   .have B:=aaL n;have o:s∉xs.take (k+1):=by
     rw[li a.out];simp[f.out,sj n]
    replace o:=ab o;go_wp2
    go_round
    case rel=>exact⟨k+1,by omega,by go_num,o.out⟩
    simp[intOf];omega
  .obtain rfl:k=xs.length:=by omega
   have m:s∉xs:=by have:=f.out;rwa [gc] at this
   have j:=ab m;go_wp2;go_ret;exact⟨aB (by rw[eq_comm,<-lP,d.out];exact j.out),rfl⟩
end
section
variable {β:Bool}
open Go.RowKit
def atF(l:List Nat)(a:Nat):Nat->Nat->Nat
 |0,_=>min (a+8) l.length
 |f+1,n=>if l.length<=a+n then l.length else if oX l (a+n)=true then a+n else atF l a f (n+1)
def atL(l:List Nat)(a:Nat):Nat:=atF l a 5 3
def aeA{l:List Nat}{a:Nat}(b:a<l.length):∀(f n:Nat),0<n->n+f<=8->a<atF l a f n/\atF l a f n<=l.length/\atF l a f n<=a+8
 |0,n,_,_=>by show a<min _ _/\min _ _<=_/\min _ _<=_;omega
 |f+1,n,h0,h8=>by
  unfold atF;split
  .omega
  .split
   .omega
   .exact aeA b f (n+1) (by omega) (by omega)
def eW{l:List Nat}{a:Nat}(b:a<l.length):a<atL l a/\atL l a<=l.length/\atL l a<=a+8:=aeA b 5 3 (by omega) (by omega)
def dB(l:List Nat):Nat->List Int->Nat->Prop
 |a,[],b=>a=b
 |a,x::xs,b=>a<l.length/\x=(atL l a:Int)/\dB l (atL l a) xs b
def dB.snoc{l:List Nat}:∀{a:Nat} {c:List Int} {b:Nat},dB l a c b->b<l.length->dB l a (c++[(atL l b:Int)]) (atL l b)
 |a,[],b,h,h1=>by
  have h:a=b:=h;subst h;exact⟨h1,rfl,rfl⟩
 |a,x::c,b,⟨h2,h3,h4⟩,h1=>⟨h2,h3,h4.snoc h1⟩
def dB.len{l:List Nat}:∀{a:Nat} {c:List Int} {b:Nat},dB l a c b->a+c.length<=b
 |a,[],b,h=>by
  have h:a=b:=h;simp;omega
 |a,x::c,b,⟨h1,_,h⟩=>by
  have:=h.len;have:=(eW h1).1;simp only[ga];omega
def dB.at_{l:List Nat}:∀{a:Nat} {d:List Int} {b k m:Nat} {x:Int},dB l a d b->dB l a (d.take k) m->d[k]?=some x->x=(atL l m:Int)/\m<l.length/\dB l a (d.take (k+1)) (atL l m)
 |a,[],b,k,m,x,_,_,c=>by simp at c
 |a,y::d,b,0,m,x,⟨h1,e,h3⟩,f,c=>by
  have f:a=m:=f;subst f;have c:y=x:=by simpa using c
  subst c;exact⟨e,h1,h1,e,rfl⟩
 |a,y::d,b,k+1,m,x,⟨h1,e,h3⟩,⟨h1',e',f⟩,c=>by
  obtain⟨j,g,i⟩:=dB.at_ h3 f (by simpa using c);exact⟨j,g,h1,e,i⟩
def dB.akd{l:List Nat}(f:l.length<=maxLen):∀{a:Nat} {d:List Int} {b:Nat},dB l a d b->∀x∈d,bZ x
 |a,[],b,_,x,c=>by cases c
 |a,y::d,b,⟨h1,e,h⟩,x,c=>by
  have:=(eW h1).2.1;unfold maxLen at f;rcases oE.1 c with rfl|c
  .rw[e];unfold bZ;omega
  .exact h.akd f x c
def afV(l:List Nat):Nat->Nat->List Int
 |0,_=>[]
 |f+1,a=>if a<l.length then(atL l a:Int)::afV l f (atL l a) else[]
def dB.uniq{l:List Nat}:∀{a:Nat} {b:List Int} {f:Nat},dB l a b l.length->l.length-a<=f->b=afV l f a
 |a,[],f,h,_=>by
  have h:a=l.length:=h;cases f with
  |zero=>rfl
  |succ f=>show[]=if _ then _ else _;rw[bv (by omega)]
 |a,x::b,f,⟨h1,e,h⟩,hf=>by
  have:=(eW h1).1;cases f with
  |zero=>omega
  |succ f=>
   show x::b=if _ then _ else _
   rw[dq h1,e,<-h.uniq (f:=f) (by omega)]
def ac8{l:List Nat}:∀{f a:Nat},a<=l.length->l.length-a<=f->dB l a (afV l f a) l.length
 |0,a,h1,h2=>by show a=l.length;omega
 |f+1,a,h1,h2=>by
  show dB l a (if a<l.length then(atL l a:Int)::afV l f (atL l a) else[]) l.length;by_cases b:a<l.length
  .rw[dq b];have:=eW b;exact⟨b,rfl,ac8 (by omega) (by omega)⟩
  .rw[bv b];show a=l.length;omega
def cx(s:ByteArray):Nat->List Int->List ByteArray
 |_,[]=>[]
 |a,x::xs=>s.extract a x.toNat::cx s x.toNat xs
def aan{s:ByteArray}{l:List Nat}:∀{a:Nat} {b:List Int} {m q:Nat},dB l a b m->cx s a (b++[(q:Int)])=cx s a b++[s.extract m q]
 |a,[],m,q,h=>by
  have h:a=m:=h;subst h;rfl
 |a,x::b,m,q,⟨_,e,h⟩=>by
  show s.extract a x.toNat::cx s x.toNat (b++[(q:Int)])=s.extract a x.toNat::(cx s x.toNat b++_);rw[e,tw,aan h]
def nA(s:ByteArray):∀(a:Nat) (b:List Int),(cx s a b).length=b.length
 |_,[]=>rfl
 |a,x::b=>by show(cx s x.toNat b).length+1=_;rw[nA];rfl
def aao(s:ByteArray):∀(c:List Int) (a:Nat),∀x∈cx s a c,x.size<=s.size
 |[],_,x,b=>by cases b
 |z::c,a,x,b=>by
  have b:x∈s.extract a z.toNat::cx s z.toNat c:=b;rcases oE.1 b with rfl|b
  .rw[<-aO,dg,qj,fa,aO];omega
  .exact aao s c _ x b
def jT(s:ByteArray):List ByteArray:=cx s 0 (afV (bs s) s.size 0)
def amF{xs:List Int}(h:dB (bs s) 0 xs s.size):cx s 0 xs=jT s:=by
 rw[<-aO] at h;unfold jT;rw[h.uniq (f:=s.size) (by rw[aO];omega)]
def aqe{q : Nat}(a:(bs s).all oQ=true)(e:m<q)(d:q<=m+8)(f:q<=s.size):bB (bs (s.extract m q)):=by
 have b:(((bs s).take q).drop m).length=q-m:=by rw[qj,fa,aO];omega
 rw[dg];refine⟨⟨by omega,by omega⟩, ?_⟩;rw[lE] at a ⊢;exact λx c=>a x (pu (uF c))
def aeB(s:ByteArray){q : Nat}(a:q<=s.size):(s.extract m q).size=q-m:=by
 rw[<-aO,dg,qj,fa,aO];omega
def oZ{s:ByteArray}(g:(bs s).all oQ=true):∀{a:Nat} {d:List Int} {b:Nat},dB (bs s) a d b->∀x∈cx s a d,bB (bs x)
 |a,[],b,_,x,c=>by cases c
 |a,y::d,b,⟨h1,e,h⟩,x,c=>by
  obtain⟨i,f,j⟩:=eW h1;rw[aO] at f;have c:x∈s.extract a y.toNat::cx s y.toNat d:=c;rw[e,tw] at c;rcases oE.1 c with rfl|c
  .exact aqe g i j f
  .exact oZ g h x c
def aio(s:ByteArray):dB (bs s) 0 (afV (bs s) s.size 0) s.size:=by
 have:=ac8 (l:=bs s) (f:=s.size) (a:=0) (fb _) (by rw[aO];omega)
 rwa [aO] at this
def nB(a:(bs s).all oQ=true):∀x∈jT s,bB (bs x):=oZ a (aio s)
def abT(s:ByteArray):(jT s).length<=s.size:=by
 have:=(aio s).len;unfold jT;rw[nA];omega
def jF(l:List ByteArray):List Nat:=l.flatMap bs
def aqf(s:ByteArray)(p:Nat)(B:p<s.size)(D:s.size<=1000000)(w:World) :
  Calls (ah β) 134 #[.string s,.int .i64 p] w λe v=>e=.returned (.int .i64 (atL (bs s) p:Nat))/\Below w.heap.size w v:=by
 have o:s.size<=maxLen:=by unfold maxLen;omega
 go_enter yn,ntmps134;go_wp2;go_loopw [5] (λr wr=>∃k f:Nat,k+f=8/\3<=k/\r=.int .i64 k/\atL (bs s) p=atF (bs s) p f k/\Below w.heap.size w wr) (λr _=>8-(intOf r).toNat)
 case atStart=>exact⟨3,5,rfl,by omega,rfl,rfl,fd _ _⟩
 case round=>
  obtain⟨k,f,y,C,rfl,b,d⟩:=hrel;replace b:=ab b;by_cases A:k<8
  .obtain⟨g,rfl⟩:∃g,f=g+1:=⟨f-1,by omega⟩;have a:atF (bs s) p (g+1) k=if s.size<=p+k then s.size else if oX (bs s) (p+k)=true then p+k else atF (bs s) p g (k+1):=by
    show(if(bs s).length<=p+k then(bs s).length else _)=_;rw[aO]
   have HS:=ab a;clear a;by_cases l:s.size<=p+k
   .have n:=dj (show(s.size:Int)<=(p:Int)+(k:Int) by omega);go_wp2;go_ret;exact⟨by rw[b.out,HS.out,dq l];rfl,d⟩
   .have n:=da (show ¬((s.size:Int)<=(p:Int)+(k:Int)) by omega);rw[bv l] at HS;obtain⟨i,u⟩:∃m,m=p+k:=⟨_,rfl⟩;have x:(p:Int)+(k:Int)=((i:Nat):Int):=by omega
    have q:3<=i/\i<s.size:=by omega
    rw[x] at n;rw[<-u] at HS;clear u;go_wp2;refine(akk s i q o wr).mono ?_;rintro e z ⟨rfl,t⟩;cases j:oX (bs s) i with
    |true=>
     have c:=ab (b.out.trans (HS.out.trans (dq j)));clear j;go_wp2;go_ret;exact⟨by rw[c.out];rfl,ag d t⟩
    |false=>
     have c:=ab (b.out.trans (HS.out.trans (bv (by rw[j];exact qs))));clear j;go_wp2;go_roundw
     case rel=>exact⟨k+1,g,by omega,by omega,by go_num,c.out,ag d t⟩
     simp[intOf];omega
  .obtain rfl:k=8:=by omega
   obtain rfl:f=0:=by omega
   have a:atF (bs s) p 0 8=min (p+8) s.size:=by
    show min (p+8) (bs s).length=_;rw[aO]
   have c:=ab (b.out.trans a);clear a b;by_cases l:p+8<=s.size
   .have n:=dj (show(p:Int)+8<=(s.size:Int) by omega);rw[qZ l] at c;go_wp2;go_ret;exact⟨by rw[c.out];simp,d⟩
   .have n:=da (show ¬((p:Int)+8<=(s.size:Int)) by omega);rw[Nat.min_eq_right (by omega)] at c;go_wp2;go_ret;exact⟨by rw[c.out];simp,d⟩
def aqg(s:ByteArray)(w:World)(e:Ending)(w':World):Prop:=∃v a,e=.returned v/\aK mM 3 w' w.heap.size v a/\dB (bs s) 0 a s.size/\Below w.heap.size w w'
def akw(s:ByteArray)(L:s.size<=100000)(w:World) :
  Calls (ah β) 118 #[.string s] w (aqg s w):=by
 go_enter yv,ntmps118;go_wp2;have o:=av w (.cells #[] 3);have m:aK mM 3 (w.alloc (.cells #[] 3)) w.heap.size (.slice (some ⟨w.heap.size,0,none⟩) 0 0) []:=(eb.new w 3 (am _)).own 1;generalize w.alloc (.cells #[] 3)=w0 at *;go_loopw [3,4] (λB u wr=>∃(k:Nat) (g:List Int),k<=s.size/\u=.int .i64 k/\aK mM 3 wr w.heap.size B g/\dB (bs s) 0 g k/\Below w.heap.size w wr) (λ_ u _=>s.size-(intOf u).toNat)
 case atStart=>exact⟨0,[],fb _,rfl,m,rfl,o⟩
 case round=>
  obtain⟨k,g,G,rfl,p,n,y⟩:=hrel;obtain⟨A,c,rfl⟩:=p.form;by_cases d:k<s.size
  .go_wp2;refine(aqf s k d (by omega) wr).mono ?_;rintro e E ⟨rfl,x⟩;have b:=eW (l:=bs s) (a:=k) (by rw[aO];exact d);rw[aO] at b;have J:=n.len;have j:=p.below x;have f:=ag y x;have HC:=ab (n.snoc (by rw[aO];exact d));revert HC b;generalize atL (bs s) k=q;intro b HC;go_wp2_with(at_builtin;refine cu (F:=mM) (v:=.slice A g.length c) rfl (.tmp 13) (.tmp 15) 87 rfl abH (q:Int) rfl j rfl rfl (by omega) f.size ?_;intro K H r t z;obtain⟨D,I,rfl⟩:=r.form;simp only[aE,ga,mw,mc] at r);go_roundw
   case rel=>exact⟨q,g++[(q:Int)],b.2.1,rfl,by simpa using r,HC.out,f.trans (t.below f.size λi M C=>by have:=(j.at_ C).1;omega)⟩
   simp[intOf];omega
  .obtain rfl:k=s.size:=by omega
   go_wp2;go_ret;exact⟨_,g,rfl,p,n,y⟩
def akx(s:ByteArray)(w:World)(e:Ending)(w':World):Prop:=∃v,e=.returned v/\aK ie 9 w' w.heap.size v (jT s)/\Below w.heap.size w w'
def afW(s:ByteArray)(B:s.size<=100000)(w:World) :
  Calls (ah β) 80 #[.string s] w (akx s w):=by
 go_enter yP,ntmps80;go_wp2;have J:=av w (.cells #[] 9);have C:aK ie 9 (w.alloc (.cells #[] 9)) w.heap.size (.slice (some ⟨w.heap.size,0,none⟩) 0 0) []:=(eb.new w 9 (am _)).own 1;generalize w.alloc (.cells #[] 9)=w0 at *;refine(akw s B w0).mono ?_;rintro e w1 ⟨ve,f,rfl,W,a,G⟩;obtain⟨Ae,ce,rfl⟩:=W.form;have j:=C.below G;have l:=ag J G;have z1:=G.size;have a0:=a.len;have H:=W.deep (a.akd (by rw[aO];unfold maxLen;omega)) w0.heap.size;have D:=H.sl (am _);replace a:=ab a;replace j:=ab j;have N:=ab D;replace l:=ab l;clear C J G H D W;go_wp2;go_loopw [3,4,6] (λoo aa Z wr=>∃(k m:Nat),k<=f.length/\m<=s.size/\Z=.int .i64 k/\aa=.int .i64 m/\dB (bs s) 0 (f.take k) m/\aK ie 9 wr w.heap.size oo (cx s 0 (f.take k))/\Below w.heap.size w wr/\eB 3 (bP mM) 1 wr w0.heap.size w1.heap.size f [.slice Ae f.length ce]) (λ_ _ Z _=>f.length-(intOf Z).toNat)
 case atStart=>exact⟨0,0,fb _,fb _,rfl,rfl,rfl,j.out,l.out,N.out⟩
 case round=>
  clear j l N;obtain⟨k,m,hk,lH,rfl,rfl,U,g,L,O⟩:=hrel;by_cases V:k<f.length
  .obtain⟨y,z⟩:=aq V;obtain⟨rfl,K,M⟩:=a.out.at_ U z;obtain⟨h1,E,h2⟩:=eW K;rw[aO] at E;have P:cx s 0 (f.take (k+1))=cx s 0 (f.take k)++[s.extract m (atL (bs s) m)]:=by rw[li z,aan U]
   have u:(cx s 0 (f.take k)).length=k:=by rw[nA,fa,qZ hk]
   have n:∀x∈cx s 0 (f.take k),x.size<=maxLen:=λx p=>by
    have:=aao s _ _ x p;unfold maxLen;omega
   revert P;revert M;revert E;revert h2;revert h1;revert z;generalize atL (bs s) m=q;generalize cx s 0 (f.take k)=xs at g u n ⊢;intro z h1 h2 E M P;obtain⟨A,c,rfl⟩:=g.form;obtain⟨b',X,cs,e0,a2,a7,_,⟨rfl,a6⟩,I⟩:=O.1.at_ z;subst e0;obtain⟨a3,T⟩:=O.2 (by omega) _ _ _ _ rfl;have R:wr.cell? ⟨b',X+k,none⟩=some (.int .i64 (q:Int)):=by simpa using I 0 _ rfl
   have HN:=ab P;have H4:=ab M;have N:=ab O;have HG:=ab n;have a8:(s.extract m q).size<=maxLen:=by rw[aeB s E];unfold maxLen;omega
   have a1:=ab u;have a4:xs.length<=100000:=by omega
   clear I P M O U z u K n;have o:∀B:(Value.slice A xs.length c).ownBlock=some b',False:=λB=>by
    obtain⟨ds,hd⟩:=(aK.deep g (λx p=>HG.out x p) 0).blk B;exact absurd (cD T hd) (by decide)
   replace o:=ab o;have g1:¬((m:Int)<0):=by omega
   have g2:(m:Int)<=(q:Int):=by omega
   have g3:(q:Int)<=(s.size:Int):=by omega
   go_wp2_with(at_builtin;refine cu (F:=ie) (v:=.slice A xs.length c) rfl (.tmp 16) (.tmp 24) 78 rfl abS (s.extract m q) rfl g rfl rfl (by omega) L.size ?_;intro va wa Y r a5;obtain⟨Aa,ca,rfl⟩:=Y.form;simp only[aE,ga,mw,mc] at Y;have a9:=iO R r o.out);go_roundw
   case rel=>
    refine⟨k+1,q,by omega,E,by go_num,rfl,H4.out,by rw[HN.out];simpa using Y,L.trans (r.below L.size λi hi p=>by have:=(g.at_ p).1;omega), ?_⟩;exact(eB.ar (bP.ar mM)).go (λb G b2 ht=>r.block b (by obtain⟨t,_,d,hd⟩:=ht;exact hd.lt) λB=>by
      obtain⟨ds,hd⟩:=(aK.deep g (λx p=>HG.out x p) 0).blk B;obtain⟨t,S,d2,Q⟩:=ht;have e1:=cD hd Q;rw[pe.1 S] at e1;exact absurd e1 (by decide)) (am _) (am _) N.out
   case measure=>simp[intOf];omega
  .obtain rfl:k=f.length:=by omega
   rw[gc,amF a.out] at g;obtain⟨A,c,rfl⟩:=g.form;go_wp2;go_ret;exact⟨_,rfl,g,L⟩
end
section
variable {β:Bool}
open Go.RowKit
def mO(s:ByteArray)(f:s.size<=maxLen)(w:World) :
  Calls (ah β) 72 #[.string s] w λe d=>e=.returned (.bool (dH s))/\w=d:=by
 by_cases b:s.size<=40
 .have a:(bs s).all oQ=dH s:=by unfold dH;rw[dj b,uX]
  replace a:=ab a;have c:=dj (show(s.size:Int)<=40 by omega);go_enter xC,ntmps72;go_wp2;refine(afM s f w).mono ?_;rintro e g ⟨rfl,rfl⟩;rw[a.out];go_wp2;go_ret;exact⟨rfl,rfl⟩
 .have c:=da (show ¬((s.size:Int)<=40) by omega);have e:dH s=false:=by unfold dH;rw[da b,uN]
  rw[e];go_enter xC,ntmps72;go_wp2;go_ret;exact⟨rfl,rfl⟩
def aky(s:ByteArray)(p:Nat)(v:3<=p/\p<s.size)(r:s.size<=maxLen)(w:World) :
  Calls (ah β) 139 #[.string s,.int .i64 p] w λe o=>e=.returned (.bool (oX (bs s) p))/\Below w.heap.size w o:=by
 unfold maxLen at r;obtain⟨a,k⟩:∃a,a=p-1:=⟨_,rfl⟩;obtain⟨b,i⟩:∃b,b=p-2:=⟨_,rfl⟩;obtain⟨c,n⟩:∃c,c=p-3:=⟨_,rfl⟩;have l:a<s.size:=by omega
 have f:b<s.size:=by omega
 have g:c<s.size:=by omega
 have y:(p:Int)-1=((a:Nat):Int):=by omega
 have x:(p:Int)-2=((b:Nat):Int):=by omega
 have z:(p:Int)-3=((c:Nat):Int):=by omega
 have t:(p:Int)<=9223372036854775807:=by omega
 have j:oX (bs s) p=((dig (s[a]'l).toNat+2*dig (s[b]'f).toNat+3*dig (s[c]'g).toNat) % 5 ==0):=by unfold oX;rw[<-k,<-i,<-n,pR l,pR f,pR g]
 rw[j];clear k i n j;go_enter yj,ntmps139;go_wp2;refine aF 21 [0,1,2,3,4,5,6,7,8,9,10,11,12,13,14,15,16,17,18,19,20] [] (h:= ?_);simp only[pick,List.map,ge,gn];repeat(go_big_quiet_step (fail))
 refine gt ?_;apply Exists.intro;refine aS ?_;intro A u q m d;dsimp only[dP] at d;try rw[m] at d
 clear m q;simp only[List.drop];clear d;go_wp2;go_ret;exact⟨aB (by rw[rb];simp only[nF];unfold dig;omega),u⟩
def atu(s:ByteArray)(p:Nat)(C:p<s.size)(E:s.size<=1000000)(w:World) :
  Calls (ah β) 132 #[.string s,.int .i64 p] w λe v=>e=.returned (.int .i64 (atL (bs s) p:Nat))/\Below w.heap.size w v:=by
 have n:s.size<=maxLen:=by unfold maxLen;omega
 go_enter yo,ntmps132;go_wp2;go_loopw [5] (λq wr=>∃k f:Nat,k+f=8/\3<=k/\q=.int .i64 ((p+k:Nat):Int)/\atL (bs s) p=atF (bs s) p f k/\Below w.heap.size w wr) (λq _=>p+8-(intOf q).toNat)
 case atStart=>exact⟨3,5,rfl,by omega,by go_num,rfl,fd _ _⟩
 case round=>
  obtain⟨k,f,z,D,rfl,b,g⟩:=hrel;replace b:=ab b;by_cases B:k<8
  .obtain⟨i,rfl⟩:∃i,f=i+1:=⟨f-1,by omega⟩;have a:atF (bs s) p (i+1) k=if s.size<=p+k then s.size else if oX (bs s) (p+k)=true then p+k else atF (bs s) p i (k+1):=by
    show(if(bs s).length<=p+k then(bs s).length else _)=_;rw[aO]
   have HS:=ab a;obtain⟨d,j⟩:∃m,m=p+k:=⟨_,rfl⟩;rw[<-j] at HS ⊢;have o:3<=d/\d<p+8:=by omega
   have x:=dj (show(d:Int)<(p:Int)+8 by omega);by_cases l:s.size<=d
   .have y:=da (show ¬(d<s.size) by omega);rw[dq l] at HS;have c:=ab (b.out.trans HS.out);have r:=da (show ¬((p:Int)+8<=(s.size:Int)) by omega);go_wp2;go_ret;exact⟨by rw[c.out];simp,g⟩
   .have y:=dj (show d<s.size by omega);rw[bv l] at HS;replace j:=ab j;go_wp2;refine(aky s d ⟨o.1,by omega⟩ n wr).mono ?_;rintro e A ⟨rfl,t⟩;cases u:oX (bs s) d with
    |true=>
     have c:=ab (b.out.trans (HS.out.trans (dq u)));go_wp2;go_ret;exact⟨by rw[c.out];rfl,ag g t⟩
    |false=>
     have c:=ab (b.out.trans (HS.out.trans (bv (by rw[u];exact qs))));go_wp2;go_roundw
     case rel=>exact⟨k+1,i,by omega,by omega,by have:=j.out;go_num,c.out,ag g t⟩
     simp[intOf];omega
  .obtain rfl:k=8:=by omega
   obtain rfl:f=0:=by omega
   have a:atF (bs s) p 0 8=min (p+8) s.size:=by
    show min (p+8) (bs s).length=_;rw[aO]
   have c:=ab (b.out.trans a);have x:=da (show ¬(((p+8:Nat):Int)<(p:Int)+8) by omega);by_cases l:p+8<=s.size
   .have r:=dj (show(p:Int)+8<=(s.size:Int) by omega);rw[qZ l] at c;go_wp2;go_ret;exact⟨by rw[c.out];simp,g⟩
   .have r:=da (show ¬((p:Int)+8<=(s.size:Int)) by omega);rw[Nat.min_eq_right (by omega)] at c;go_wp2;go_ret;exact⟨by rw[c.out];simp,g⟩
end
section
variable {β:Bool}
open Go.RowKit
def akz(h:k<s.size):code ((bs s).take (k+1))=27*code ((bs s).take k)+((s[k]'h).toNat-97)+1:=afL (aaK h)
def aip{l:List Nat}(h:bB l)(k:Nat):code (l.take k)<282429536481:=by
 rcases qa k with a|a
 .subst a;simp[code,ea]
 .refine abG ⟨⟨?_, ?_⟩, ?_⟩
  .rw[fa];have:=h.1.1;omega
  .rw[fa];have:=h.1.2;omega
  .rw[lE];exact λx b=>lE.1 h.2 x (pu b)
def atv(key:Int)(s:ByteArray)(r:1<=key/\key<=99)(b:bB (bs s))(w:World) :
  Calls (ah β) 145 #[.int .i64 key,.string s] w λe q=>e=.returned (.tuple #[.int .i64 (cP key (bs s)),.nilIface])/\w=q:=by
 have u:1<=s.size/\s.size<=8:=by have:=b.1;rw[aO] at this;exact this
 have j:s.size<=maxLen:=by unfold maxLen;omega
 have n:=abG b;replace b:=ab b;replace j:=ab j;have l:cP key (bs s)=((code (bs s):Int)*(2*key+1)+7919*key) % 999999999989:=by unfold cP;rw[Int.mul_comm key 7919]
 have g:=ab l;clear l;go_enter yg,ntmps145;go_wp2;refine(ams key w true (by simp;exact r)).mono ?_;rintro e o ⟨rfl,rfl⟩;go_wp2;refine(pP s j.out w true (by simp only[tp];exact b.out)).mono ?_;rintro e o ⟨rfl,rfl⟩;go_wp2
 go_loop [6,20] (λc i=>∃k:Nat,k<=s.size/\i=.int .i64 k/\c=.int .i64 (code ((bs s).take k))) (λ_ i=>s.size-(intOf i).toNat)
 case atStart=>exact⟨0,fb _,rfl,rfl⟩
 case round=>
  obtain⟨k,p,rfl,rfl⟩:=hrel;by_cases a:k<s.size
  .have d:=akz a;have v:=aip b.out k;have t:=aip b.out (k+1);have A:97<=(s[k]'a).toNat/\(s[k]'a).toNat<=122:=by
    have:=lE.1 b.out.2 _ (db (aaK a));unfold oQ at this;simpa using this
   replace d:=ab d;generalize f:code ((bs s).take k)=cd at *;replace f:=ab f;go_wp2
   go_round
   case rel=>exact⟨k+1,by omega,by go_num,by rw[d.out];congr 1;omega⟩
   simp[intOf];omega
  .obtain rfl:k=s.size:=by omega
   have m:(bs s).take s.size=bs s:=pm (by rw[aO];exact am _);rw[m];clear m;revert g;revert n;generalize code (bs s)=c;intro n g;have y:0<=(c:Int)*(2*key+1)/\(c:Int)*(2*key+1)<=282429536481*199:=by
    constructor
    .exact Int.mul_nonneg (by omega) (by omega)
    .exact Int.mul_le_mul (by omega) (by omega) (by omega) (by omega)
   have C:wrap64 (2*key)=2*key:=by unfold wrap64;omega
   have x:wrap64 (2*key+1)=2*key+1:=by unfold wrap64;omega
   have D:wrap64 ((c:Int)*(2*key+1))=(c:Int)*(2*key+1):=by unfold wrap64;omega
   have z:wrap64 (7919*key)=7919*key:=by unfold wrap64;omega
   have B:wrap64 ((c:Int)*(2*key+1)+7919*key)=(c:Int)*(2*key+1)+7919*key:=by unfold wrap64;omega
   have E:((c:Int)*(2*key+1)+7919*key).tmod 999999999989=((c:Int)*(2*key+1)+7919*key) % 999999999989:=uW (by omega);go_wp2;go_ret2;exact⟨by rw[g.out];rfl,rfl⟩
def aqh(key:Int)(s:ByteArray)(nm:Int)(c:1<=key/\key<=99)(b:bB (bs s))(w:World) :
  Calls (ah β) 136 #[.int .i64 key,.string s,.int .i64 nm] w λe d=>e=.returned (.bool (decide (cP key (bs s)=nm)))/\w=d:=by
 replace b:=ab b;go_enter yl,ntmps136;go_wp2;refine(atv key s c b.out w).mono ?_;rintro e f ⟨rfl,rfl⟩;obtain⟨y,a⟩:∃y,y=cP key (bs s):=⟨_,rfl⟩;rw[<-a];replace a:=ab a;by_cases h:y=nm
 .subst h;go_wp2;go_ret;exact⟨aB (by rw[<-a.out];simp),rfl⟩
 .have g:(y ==nm)=false:=de.2 h;go_wp2;go_ret;exact⟨aB (by rw[<-a.out];simp[h]),rfl⟩
end
section
variable {β:Bool}
open Go.RowKit
def an3(n:Nat)(m:1<=n/\n<=8)(w:World) :
  Calls (ah β) 155 #[.int .i64 n] w λe f=>e=.returned (.int .i64 (bX n))/\w=f:=by
 have i:((1<=n/\n<=2)/\bX n=2)\/((3<=n/\n<=4)/\bX n=4)\/((5<=n/\n<=8)/\bX n=8):=by
  unfold bX;split<;>(try split)<;>(try split)<;>omega
 obtain⟨a,b⟩:∃a,a=bX n:=⟨_,rfl⟩;rw[<-b] at i ⊢;replace b:=ab b;have l:=da (show ¬((n:Int)<1) by omega);have j:=da (show ¬(8<(n:Int)) by omega);go_enter yd,ntmps155;go_wp2
 go_loop [3] (λv=>∃k:Nat,v=.int .i64 k/\(k=2\/k=4\/k=8)/\k<=a) (λv=>8-(intOf v).toNat)
 case atStart=>exact⟨2,rfl,.inl rfl,by omega⟩
 case round=>
  obtain⟨k,rfl,o,g⟩:=hrel;by_cases d:k<n
  .have c:=dj (show(k:Int)<(n:Int) by omega);go_wp2
   go_round
   case rel=>exact⟨k*2,by go_num,by omega,by omega⟩
   simp[intOf];omega
  .have c:=da (show ¬((k:Int)<(n:Int)) by omega);obtain rfl:k=a:=by omega
   go_wp2;go_ret;exact⟨rfl,rfl⟩
def akA(s:ByteArray)(r:s.size<=maxLen)(w:World) :
  Calls (ah β) 150 #[.string s,.int .u8 46] w λe q=>e=.returned (.string (s.extract 0 (eJ (bs s) s.size)))/\w=q:=by
 unfold maxLen at r;go_enter ye,ntmps150;go_wp2
 go_loop [0] (λv=>∃(t:ByteArray) (k:Nat),v=.string t/\k<=s.size/\t=s.extract 0 k/\eJ (bs s) s.size=eJ (bs s) k) (λv=>match v with|.string t=>t.size|_=>0)
 case atStart=>exact⟨s,s.size,rfl,am _,by rw[ByteArray.extract_zero_size],rfl⟩
 case round=>
  obtain⟨t,k,rfl,x,b,a⟩:=hrel;have u:t.size=k:=by rw[b,vC x]
  replace b:=ab b;replace a:=ab a;rcases qa k with n|n
  .have p:=da (show ¬(0<(t.size:Int)) by omega);go_wp2;go_ret;exact⟨by rw[a.out,b.out,n];rfl,rfl⟩
  .obtain⟨j,rfl⟩:∃j,k=j+1:=⟨k-1,by omega⟩;have p:=dj (show 0<(t.size:Int) by omega);have y:((j+1:Nat):Int)-1=(j:Int):=by omega
   have f:j<t.size:=by omega
   have g:(bs s)[j]?=some (t[j]'f).toNat:=by
    rw[<-aaK f,b.out,dg,rH,sW (by omega)]
   replace g:=ab g;by_cases d:(t[j]'f).toNat=46
   .have o:(((t[j]'f).toNat:Int) ==46)=true:=nF.2 (by omega);have l:eJ (bs s) s.size=eJ (bs s) j:=by
     rw[a.out];show(if(bs s)[j]?=some 46 then eJ (bs s) j else j+1)=_;rw[dq (by rw[g.out,d])]
    replace l:=ab l;have i:t.extract 0 j=s.extract 0 j:=by
     apply oP;rw[dg,dg,b.out,dg,rH,rH,rH,List.take_take]
     congr 1;omega
    have z:(t.extract 0 j).size=j:=vC (by omega);replace i:=ab i;go_wp2
    go_round
    case rel=>exact⟨_,j,rfl,by omega,i.out,l.out⟩
    case measure=>
     show(t.extract 0 j).size<t.size;omega
   .have o:(((t[j]'f).toNat:Int) ==46)=false:=de.2 (by omega);have c:eJ (bs s) (j+1)=j+1:=by
     show(if(bs s)[j]?=some 46 then eJ (bs s) j else j+1)=_;rw[bv (by rw[g.out];intro h;exact d (dk h))]
    replace c:=ab c;go_wp2;go_ret;have m:t=s.extract 0 (eJ (bs s) s.size):=by rw[a.out,c.out];exact b.out
    exact⟨by rw[<-m];rfl,rfl⟩
def aiq(s:ByteArray)(b:s.size<=maxLen)(w:World) :
  Calls (ah β) 142 #[.string s,.string ⟨#[46]⟩] w λe c=>e=.returned (.string (s.extract 0 (eJ (bs s) s.size)))/\w=c:=by
 by_cases d:s.size=0
 .have a:s=ByteArray.empty:=oP (by
   have:(bs s).length=0:=by rw[aO];exact d
   rw[qM this];rfl)
  subst a;go_enter xl,ntmps142;go_wp2;go_ret;exact⟨rfl,rfl⟩
 .have g:s.toList.isEmpty=false:=by
   rw[Bool.eq_false_iff];intro h;rw[List.isEmpty_iff,qK] at h;apply d;have:s.data=#[]:=uy.1 h;show s.data.size=0;rw[this];rfl
  have f:¬(128:Int)<=(((⟨#[46]⟩:ByteArray)[0]'Nat.zero_lt_one).toNat:Int):=by decide
  replace b:=ab b;go_enter xl,ntmps142;go_wp2_with(go_at_call 150;refine(akA s b.out w).mono ?_;rintro e c ⟨rfl,rfl⟩);go_ret;exact⟨rfl,rfl⟩
end
section
variable {β:Bool}
open Go.RowKit
def akB {ty a : TypeId} {j:TypeInfo}  (i:P.underlying O=some (.pointer t)) (hi:P.info? t=some j) (l:j.bytes<18446744073709551616)
  (k:w.shape? b=some (e,Z)) (d:liesAt P P.depth e (Z / P.cellsOf e) 0 t 1=true) :
  (Builtin.unsafeSlice_ #[O,a] ty #[.pointer (some ⟨b,0,none⟩),.int .i64 1]).run P w=.ok (.slice (some ⟨b,0,none⟩) 1 1) w:=by
 have f:¬(18446744073709551616:Nat)<=j.bytes:=by omega
 unfold Builtin.unsafeSlice_;refine(qP P (asInt (.int .i64 1)) _ w).trans ?_;have c:(asInt (.int .i64 1)).run P w=.ok 1 w:=by simp[asInt,asIntOf]
 rw[c];refine(qP P (elemOf O) _ w).trans ?_;have g:(elemOf O).run P w=.ok t w:=by simp[elemOf,me i]
 rw[g];simp only[Result.andThen];simp[variablesAt,k,d,typeInfo,hi,sizeOf,IntKind.max,IntKind.signed,IntKind.bits,f]
noncomputable def xCC:Func:=by
 apply(λ(x:Func) (_:{f129 with body:=some mY}=x)=>x)
 case x=>dsimp only[mY,oO,agE,aj8,iu,f129]
def amG:xCC.results=#[]:=results129
def akC:(ah β).funcs[129]?=some xCC:=acs β
@[go_sem] theorem ay3(args:Array Value)(w:World):(callFunc 129 args).run (ah β) w=.ok (.enter 129 args) w:=by
 have a:=cB func129;exact kS akC a rfl args w
def atw:((ah β).info? 162).map (λi=>(i.bytes,i.size))=some (32,2):=by kernel_rfl
def atx:liesAt (ah β) (ah β).depth 162 (2 / (ah β).cellsOf 162) 0 162 1=true:=by kernel_rfl
def air(d:w.shape? b=some (162,2)):(Builtin.unsafeSlice_ #[160,3] 0 #[.pointer (some ⟨b,0,none⟩),.int .i64 1]).run (ah β) w=.ok (.slice (some ⟨b,0,none⟩) 1 1) w:=by
 obtain⟨j,c,a⟩:=lc.1 (atw (β:=β));simp only[uT] at a;exact akB xW c (by omega) d atx
def ais(b:Nat)(w:World)(g:w.cell? ⟨b,0,none⟩=some (.pointer none))(f:w.shape? b=some (162,2))(c:w.frozen? ⟨b,0,none⟩=false) :
  Calls (ah β) 129 #[.pointer (some ⟨b,0,none⟩)] w λe a=>e=.returned (.tuple #[])/\a=w.setCell ⟨b,0,none⟩ (.pointer (some ⟨b,0,none⟩)):=by
 have i:=air (β:=β) f;have d:xCC.ntmps=20:=ntmps129;go_enter akC,d;go_wp2;refine pa (results_none amG _ _ _) rfl ?_;exact⟨rfl,rfl⟩
def awV(B b:Nat)(bs:List Value)(w:World)(h:Lib.IsBuilderF 162 5 B b bs w) :
  Calls (ah β) 129 #[.pointer (some ⟨b,0,none⟩)] w λe a=>e=.returned (.tuple #[])/\(Lib.BuilderAtF 162 5 B b (.pointer (some ⟨b,0,none⟩)) bs a/\Below B w a):=by
 rcases h with h|h
 .refine(ais b w h.cell0 h.shape h.frozen0).mono ?_;rintro e a ⟨rfl,rfl⟩;exact⟨rfl,h.used _,(fd B w).setCell (p:=⟨b,0,none⟩) h.1 _⟩
 .have j:=air (β:=β) h.shape;have g:xCC.ntmps=20:=ntmps129;have i:=h.cell0;have k:=h.frozen0;have c:=h.used (.pointer none);have f:=c.cell0;have d:=c.frozen0;go_enter akC,g;go_wp2;refine pa (results_none amG _ _ _) rfl ?_;refine⟨rfl,c.used _,((fd B w).setCell (p:=⟨b,0,none⟩) h.1 _).setCell (p:=⟨b,0,none⟩) h.1 _⟩
def akD(B b:Nat)(bs:List Value)(w:World)(h:Lib.IsBuilderF 162 5 B b bs w) :
  Calls (ah β) 162 #[.pointer (some ⟨b,0,none⟩)] w λe j=>e=.returned (.int .i64 bs.length)/\j=w:=by
 obtain⟨p,n,v,k,a,i⟩:∃p,Lib.BuilderAtF 162 5 B b p bs w:=by
  rcases h with h|h
  .exact⟨_,h⟩
  .exact⟨_,h⟩
 obtain⟨c,cap,rfl⟩:∃c cap,v=.slice c bs.length cap:=by
  rcases a.2 with⟨d,l⟩|⟨g,cap,f,m,d,_⟩
  .exact⟨none,0,by rw[d,l]⟩
  .exact⟨_,_,d⟩
 have o:w.cell? ⟨b,1,none⟩=some (.slice c bs.length cap):=by rw[qX k];rfl
 go_enter ya,ntmps162;go_wp2;go_ret;exact⟨rfl,rfl⟩
def aty:((ah β).info? 5).map (λi=>(i.zero,i.size,i.bytes))=some (some (.int .u8 0),1,1):=by kernel_rfl
def pd(B b:Nat)(bs:List Value)(s:ByteArray)(w:World)(h:Lib.IsBuilderF 162 5 B b bs w)(C:bs.length+s.size<=140737488355328)(J:B<=w.heap.size) :
  Calls (ah β) 110 #[.pointer (some ⟨b,0,none⟩),.string s] w λe z=>e=.returned (.tuple #[.int .i64 s.size,.nilIface])/\(Lib.BuilderAtF 162 5 B b (.pointer (some ⟨b,0,none⟩)) (bs++Lib.strCells s) z/\Below B w z):=by
 obtain⟨I,K,q,t,u⟩:=info_parts (aty (β:=β));go_enter yA,ntmps110;go_wp2_with(go_at_call 129;refine(awV B b bs _ h).mono ?_);rintro e j ⟨rfl,G,i⟩;obtain⟨D,v,l,f,o⟩:=G;have Q:j.cell? ⟨b,0,none⟩=some (.pointer (some ⟨b,0,none⟩)):=by rw[qX l];rfl
 have O:j.cell? ⟨b,1,none⟩=some v:=by rw[qX l];rfl
 go_wp2_with(at_builtin;refine Lib.wpList_append_own_stringF _ rfl _ _ 22 9 rfl B 5 I wM qU9 K q t u _ _ _ rfl f s rfl ?c3 ?c4 ?c5 ?_)
 case c3=>unfold maxLen;omega
 case c4=>omega
 case c5=>have:=i.size;omega
 intro E m a c _;have n:b<j.heap.size:=by
  rcases pi b j.heap.size with r|r
  .exact r
  .simp[qd r] at l
 have d:m.heap[b]?=some (.cells #[.pointer (some ⟨b,0,none⟩),v] 162 (0,0)):=by
  rw[c.block b n (λe=>o e.symm)];exact l
 have P:m.cell? ⟨b,0,none⟩=some (.pointer (some ⟨b,0,none⟩)):=by rw[qX d];rfl
 have N:m.cell? ⟨b,1,none⟩=some v:=by rw[qX d];rfl
 have M:m.frozen? ⟨b,1,none⟩=false:=uR d 1;obtain⟨A,y,cap,rfl⟩:∃A y cap,E=.slice A y cap:=by
  rcases a.2 with⟨x,_⟩|⟨g,cap,H,L,x,_⟩
  .exact⟨_,_,_,x⟩
  .exact⟨_,_,_,x⟩
 go_wp2;go_ret2;refine⟨rfl, ?_, ?_⟩
 .exact Lib.BuilderAtF.put (T:=162) (e:=5) D d (bs':=bs++Lib.strCells s) (by simpa[Lib.strCells_length] using a) (by decide)
 .exact(i.grown c (by have:=i.size;omega) (λk F=>(f.lt k F).1)).setCell (p:=⟨b,1,none⟩) D _
end
section
variable {β:Bool}
open Go.RowKit
def adL:((ah β)).follows .mixedOrders=true:=by kernel_rfl
def atz(B b n:Nat)(w:World)(r:B<=b)(d:w.heap[b]?=some (.cells #[.pointer (some ⟨b,0,none⟩),.slice none 0 0] 162 (0,0)))(g:B<=w.heap.size)(p:n<=281474976710656) :
  Calls (ah β) 130 #[.pointer (some ⟨b,0,none⟩),.int .i64 n] w λe m=>e=.returned (.tuple #[])/\(Lib.BuilderAt 162 5 B b (.pointer (some ⟨b,0,none⟩)) [] m/\Below B w m):=by
 obtain⟨cs,f,q,j⟩:=Lib.run_makeNoZero (P:=(ah β)) w.drew #[3] 22 5 wM n p;have l:IntKind.i64.wrap (IntKind.i64.wrap 0+(n:Int))=n:=by
  rw[uw,uw];omega
 have u:(callFunc 138 #[.int .i64 (IntKind.i64.wrap (IntKind.i64.wrap 0+(n:Int)))]).run (ah β) w.drew=.ok (.value (.slice (some ⟨w.drew.heap.size,0,none⟩) n cs.size)) (w.drew.drew.drew.alloc (.cells cs 5)):=by
  rw[l,run_callFunc_extern yk (by kernel_rfl) (by kernel_rfl) (by kernel_rfl) (e:=Extern.BytealgMakeNoZero.makeNoZero #[3] #[22]) (by kernel_rfl),f];rfl
 have v:w.drew.cell? ⟨b,1,none⟩=some (.slice none 0 0):=by
  have:w.drew.heap[b]?=_:=d;rw[qX this];rfl
 have s:(w.alloc (.cells cs 5)).cell? ⟨b,1,none⟩=some (.slice none 0 0):=by
  have a:b<w.heap.size:=by
   rcases pi b w.heap.size with c|c
   .exact c
   .simp[qd c] at d
  have:(w.alloc (.cells cs 5)).heap[b]?=_:=(Lib.alloc_old w _ b a).trans d;rw[qX this];rfl
 have t:(w.alloc (.cells cs 5)).frozen? ⟨b,1,none⟩=false:=by
  have a:b<w.heap.size:=by
   rcases pi b w.heap.size with c|c
   .exact c
   .simp[qd c] at d
  exact uR ((Lib.alloc_old w _ b a).trans d) 1
 have o:∀W:World,(Builtin.copy_ #[22,22] 3 #[.slice (some ⟨w.heap.size,0,none⟩) 0 cs.size,.slice none 0 0]).run (ah β) W=.ok (goInt 0) W:=
  λW=>run_copy_none W 22 22 3 5 _ _ 0 cs.size 0 0 wM (by kernel_rfl) rfl
 clear l;have i:=adL (β:=β);go_enter yp,ntmps130;go_wp2;have k:=Lib.grown_fresh (T:=162) (e:=5) (cs:=cs) r d g (j (by unfold maxLen;omega)) (by decide)
 go_region_o
 all_goals(go_wp2;go_end0;exact⟨rfl,k⟩)
def amH(B b n:Nat)(w:World)(j:B<=b)(f:w.heap[b]?=some (.cells #[.pointer none,.slice none 0 0] 162 (0,0)))(g:B<=w.heap.size)(m:n<=281474976710656) :
  Calls (ah β) 109 #[.pointer (some ⟨b,0,none⟩),.int .i64 n] w λe d=>e=.returned (.tuple #[])/\(Lib.BuilderAt 162 5 B b (.pointer (some ⟨b,0,none⟩)) [] d/\Below B w d):=by
 have a:(w.setCell ⟨b,0,none⟩ (.pointer (some ⟨b,0,none⟩))).heap[b]?=some (.cells #[.pointer (some ⟨b,0,none⟩),.slice none 0 0] 162 (0,0)):=by
  simp[World.setCell,ph,f]
 have r:(w.setCell ⟨b,0,none⟩ (.pointer (some ⟨b,0,none⟩))).cell? ⟨b,1,none⟩=some (.slice none 0 0):=by rw[qX a];rfl
 have c:Below B w (w.setCell ⟨b,0,none⟩ (.pointer (some ⟨b,0,none⟩))):=(fd B w).setCell (p:=⟨b,0,none⟩) j _;have i:=adL (β:=β);go_enter yB,ntmps109;have q:Lib.BuilderAt 162 5 B b (.pointer (some ⟨b,0,none⟩)) [] (w.setCell ⟨b,0,none⟩ (.pointer (some ⟨b,0,none⟩))):=⟨j,.slice none 0 0,a,ug _ _ _ _,by simp[Value.ownBlock]⟩;have l:(w.setCell ⟨b,0,none⟩ (.pointer (some ⟨b,0,none⟩))).drew.cell? ⟨b,1,none⟩=some (.slice none 0 0):=r;go_wp2_with(go_at_call 129;refine(ais b w (by rw[qX f];rfl) (by simp[World.shape?,f]) (uR f 0)).mono ?_;rintro e d ⟨rfl,rfl⟩)
 go_region_o
 all_goals go_wp2_with(go_at_call 130;refine(atz B b n (w.setCell ⟨b,0,none⟩ (.pointer (some ⟨b,0,none⟩))).drew j a (by simpa[World.setCell,World.drew, -World.drew_eq] using g) m).mono ?_;rintro e d ⟨rfl,o,k⟩)
 all_goals first
  |(go_end0;exact⟨rfl,o,c.drew.trans k⟩)
  |(go_end0;exact⟨rfl,q.drew,c.drew⟩)
end
section
variable {β:Bool}
open Go.RowKit
def atA:Code->Code
 |.seq a b=>.seq (atA a) (atA b)
 |.region i ⟨ops⟩ d=>.region i (ops.map λo=>{o with type:=match o.op with|.call ⟨.builtin .unsafeSliceData,_,_⟩=>3|_=>o.type}).toArray d
 |.ret=>.ret
 |_=>.skip
noncomputable def xSt:Func:=by
 apply(λ(x:Func) (_:{f111 with body:=f111.body.map atA}=x)=>x)
 case x=>dsimp only[atA,f111,Option.map,List.map]
def aqi:f111.body.map gP=xSt.body:=by unfold gP;kernel_rfl
def aqj:(ah β).funcs[111]?=some xSt:=by
 refine(aj9 β (by decide) (by decide)).trans ?_;have e:Option.map pf (prog.funcs[111]?)=Option.map pf (some f111):=jn _ func111;rw[e,qk];unfold pf;rw[aqi];rfl
@[go_sem] theorem ay4(args:Array Value)(w:World):(callFunc 111 args).run (ah β) w=.ok (.enter 111 args) w:=by
 have a:=cB func111;exact kS aqj a rfl args w
def acE(B b:Nat)(l:List UInt8)(w:World)(h:Lib.IsBuilderF 162 5 B b (Lib.byteCells l) w)(u:l≠[]) :
  Calls (ah β) 111 #[.pointer (some ⟨b,0,none⟩)] w λe s=>e=.returned (.string ⟨l.toArray⟩)/\(Lib.IsBuilderF 162 5 B b (Lib.byteCells l) s/\Below B w s):=by
 obtain⟨p,G,q⟩:∃p,(p=.pointer none\/p=.pointer (some ⟨b,0,none⟩))/\Lib.BuilderAtF 162 5 B b p (Lib.byteCells l) w:=by
  rcases h with h|h
  .exact⟨_,.inl rfl,h⟩
  .exact⟨_,.inr rfl,h⟩
 obtain⟨O,v,t,c,f⟩:=q;have i:l.length≠0:=by simpa using u
 rw[rI] at c;obtain⟨g,cap,a,d,rfl,o,z,P,I,k,K,Q⟩:∃g cap a d,v=.slice (some ⟨g,0,none⟩) l.length cap/\B<=g/\w.heap[g]?=some (.cells a 5 d)/\d.2<=l.length*1/\l.length<=cap/\cap<=maxLen/\a.size=cap*1/\a.toList.take (l.length*1)=Lib.byteCells l:=by
  rcases c.2 with⟨_,H⟩|⟨g,cap,a,d,N,r⟩
  .exact absurd H i
  .exact⟨g,cap,a,d,N,r⟩
 have D:w.drew.cell? ⟨b,1,none⟩=some (.slice (some ⟨g,0,none⟩) l.length cap):=by
  have:w.drew.heap[b]?=some (.cells #[p,.slice (some ⟨g,0,none⟩) l.length cap] 162 (0,0)):=t;rw[qX this];rfl
 have E:(Builtin.unsafeSliceData_ #[22] 3 #[.slice (some ⟨g,0,none⟩) l.length cap]).run (ah β) w.drew=.ok (.pointer (some ⟨g,0,none⟩)) w.drew:=
  Lib.run_unsafeSliceData_row _ _ _ _ _ _ (by omega)
 have y:(Builtin.unsafeString_ #[185,3] 9 #[.pointer (some ⟨g,0,none⟩),.int .i64 l.length]).run (ah β) w.drew=.ok (.string ⟨l.toArray⟩) (w.drew.freeze ⟨g,0,none⟩ l.length):=by
  refine Lib.run_unsafeString_row w.drew 185 3 9 5 xV (by kernel_rfl) g a.size (by have A:w.drew.heap[g]?=some (.cells a 5 d):=z;simp[World.shape?,A]) l u (by omega) (by unfold maxLen at k;omega) ?_;intro j x L;have:=c.cells (g:=g) rfl j (.int .u8 x.toNat) (by simp[Lib.byteCells,L]);exact this
 have F:Lib.IsBuilderF 162 5 B b (Lib.byteCells l) (w.drew.freeze ⟨g,0,none⟩ l.length):=by
  have C:Lib.BuilderAtF 162 5 B b p (Lib.byteCells l) w.drew:=⟨O,_,t,by rw[rI];exact c,f⟩;have n:=C.froze (g:=g) (cap:=cap) (by rw[rI];exact D);rw[rI] at n;rcases G with rfl|rfl
  .exact .inl n
  .exact .inr n
 have m:=adL (β:=β);have M:xSt.ntmps=14:=ntmps111;have J:xSt.results=#[.tmp 2]:=results111;go_enter aqj,M;go_wp2
 go_region_o
 all_goals(go_wp2;refine pa (results_tmp J _ _ _) rfl ?_;exact⟨rfl,F,Lib.below_freeze (Below.drew (fd B w)) (p:=⟨g,0,none⟩) o _⟩)
end
section
variable {β:Bool}
open Go.RowKit
def atB(n:Nat)(c:n<=8)(w:World):Calls (ah β) 167 #[.int .u64 1,.int .u64 n] w λe a=>e=.returned (.tuple #[.int .u64 0,.int .u64 n])/\w=a:=by
 have b:n=0\/n=1\/n=2\/n=3\/n=4\/n=5\/n=6\/n=7\/n=8:=by omega
 rcases b with rfl|rfl|rfl|rfl|rfl|rfl|rfl|rfl|rfl
 all_goals
  go_enter xZ,ntmps167;go_wp2;go_ret2;exact⟨rfl,rfl⟩
def ay5(n:Nat)(b:n<=8)(w:World):Calls (ah β) 161 #[.int .u64 1,.int .u64 n] w λe a=>e=.returned (.tuple #[.int .u64 0,.int .u64 n])/\w=a:=by
 go_enter yb,ntmps161;go_wp2;refine(atB n b w).mono ?_;rintro e c ⟨rfl,rfl⟩;go_wp2;go_ret2;exact⟨rfl,rfl⟩
def akE(b:Nat)(w:World):Nat:=match w.cell? ⟨b,1,none⟩ with|some (.slice _ l _)=>l|_=>0
def afX{T : TypeId}{B : Nat}{l:List UInt8}(h:Lib.IsBuilderF T e B b (Lib.byteCells l) w):akE b w=l.length:=by
 replace h:∃p,Lib.BuilderAtF T e B b p (Lib.byteCells l) w:=by
  rcases h with h|h
  .exact⟨_,h⟩
  .exact⟨_,h⟩
 obtain⟨p,h⟩:=h;obtain⟨n,v,i,a,f⟩:=h;have k:w.cell? ⟨b,1,none⟩=some v:=by rw[qX i];rfl
 unfold akE;rw[k];rw[rI] at a;rcases a.2 with⟨c,j⟩|⟨g,cap,d,m,c,_⟩
 .rw[c,j]
 .rw[c]
def kF(q:Nat):List UInt8:=List.replicate q 46
def aqk(n:Nat)(R:n=2\/n=3)(w:World):Calls (ah β) 154 #[.string ⟨#[46]⟩,.int .i64 n] w λe A=>e=.returned (.string ⟨(kF n).toArray⟩)/\Below w.heap.size w A:=by
 have Q:((n:Int) ==0)=false:=de.2 (by omega);have N:((n:Int) ==1)=false:=de.2 (by omega);go_enter wR,ntmps154;go_wp2;refine(ay5 n (by omega) w).mono ?_;rintro e O ⟨rfl,rfl⟩;go_wp2;generalize r:w.alloc (.cells #[.pointer none,.slice none 0 0] 162)=w0;have z:w0.heap[w.heap.size]?=some (.cells #[.pointer none,.slice none 0 0] 162 (0,0)):=by
  rw[<-r];show(w.heap.push _)[w.heap.size]?=_;rw[qR]
 have o:Below w.heap.size w w0:=by rw[<-r];exact(fd _ w).alloc (am _) _
 refine(amH w.heap.size w.heap.size n w0 (am _) z o.size (by omega)).mono ?_;rintro e L ⟨rfl,a,d⟩;replace d:=o.trans d;go_wp2;refine(pd w.heap.size w.heap.size [] ⟨#[46]⟩ L (.inr (.of a)) (by decide) d.size).mono ?_;rintro e P ⟨rfl,p,k⟩;replace k:=d.trans k;have K:([]:List Value)++Lib.strCells ⟨#[46]⟩=Lib.byteCells (kF 1):=rfl;rw[K] at p;go_wp2;go_loopw [10] (λ_ wr=>∃q:Nat,1<=q/\q<=n/\Lib.IsBuilderF 162 5 w.heap.size w.heap.size (Lib.byteCells (kF q)) wr/\Below w.heap.size w wr) (λ_ wr=>n-akE w.heap.size wr)
 case atStart=>exact⟨1,am _,by omega,.inr p,k⟩
 case round=>
  obtain⟨q,y,J,a,m⟩:=hrel;have F:=afX a;have b:(Lib.byteCells (kF q)).length=q:=by rw[rI];exact qw ..
  have i:(kF q).length=q:=qw ..;have l:kF q≠[]:=by intro h;rw[h] at i;simp at i;omega
  go_wp2;refine(akD w.heap.size w.heap.size (Lib.byteCells (kF q)) wr a).mono ?_;rintro e t ⟨rfl,rfl⟩;rw[b];by_cases x:q<n
  .have v:=dj (show(q:Int)<(n:Int) by omega);go_wp2;refine(akD w.heap.size w.heap.size (Lib.byteCells (kF q)) t a).mono ?_;rintro e u ⟨rfl,rfl⟩;rw[b];go_wp2;refine(akD w.heap.size w.heap.size (Lib.byteCells (kF q)) u a).mono ?_;rintro e B ⟨rfl,rfl⟩;rw[b];have c:(n=2/\q=1)\/(n=3/\q=1)\/(n=3/\q=2):=by omega
   have E:∀W:World,(Builtin.min_ #[3,3,3] 3 #[.int .i64 ((n:Int)-(q:Int)),.int .i64 q,.int .i64 n]).run (ah β) W=.ok (.int .i64 1) W:=λW=>by
    rcases c with⟨rfl,rfl⟩|⟨rfl,rfl⟩|⟨rfl,rfl⟩<;>simp[Builtin.min_,Builtin.min2]
   have S:(⟨(kF q).toArray⟩:ByteArray).extract 0 1=⟨#[46]⟩:=by
    rcases c with⟨rfl,rfl⟩|⟨rfl,rfl⟩|⟨rfl,rfl⟩<;>rfl
   have G:(⟨(kF q).toArray⟩:ByteArray).size=q:=by show(kF q).toArray.size=q;rw[tu];exact i
   replace c:=ab c;go_wp2;refine(acE w.heap.size w.heap.size (kF q) B a l).mono ?_;rintro e C ⟨rfl,s,f⟩;replace f:=m.trans f;go_wp2;refine(pd w.heap.size w.heap.size (Lib.byteCells (kF q)) ⟨#[46]⟩ C s (by rw[b];have:=c.out;show q+1<=_;omega) f.size).mono ?_;rintro e T ⟨rfl,g,j⟩;replace j:=f.trans j;have I:Lib.byteCells (kF q)++Lib.strCells ⟨#[46]⟩=Lib.byteCells (kF (q+1)):=by
    have:kF (q+1)=kF q++[46]:=vX;rw[this];simp[Lib.byteCells,Lib.strCells]
   rw[I] at g;have D:=afX (.inr g);have M:(kF (q+1)).length=q+1:=qw ..;go_wp2;go_roundw
   case rel=>exact⟨q+1,by omega,by omega,.inr g,j⟩
   omega
  .obtain rfl:q=n:=by omega
   have v:=da (show ¬((q:Int)<(q:Int)) by omega);go_wp2;refine(acE w.heap.size w.heap.size (kF q) t a l).mono ?_;rintro e u ⟨rfl, -,H⟩;go_wp2;go_ret;exact⟨rfl,m.trans H⟩
end
end Go.Proofs.YtbeafkpaghapeaaGreatDoor