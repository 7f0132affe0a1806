/- A part. -/
import Derived.Test.YtokgbpkbaoeeoaaGreatDoorG1
import Derived.KernelRfl
import Derived.Test.YtokgbpkbaoeeoaaGreatDoorRows
import Derived.ProofKit
import Derived.OpenShut
import Derived.Handy
import Derived.BigQuiet
import Derived.Deep.QuietTactic
import Derived.Outline
import Derived.Deep.Draws
import Derived.Lib.Hide
import Derived.Laws.Strings
import Derived.Lib.Builder
import Derived.Lib.Strings
import Derived.Lib.Slices
import Derived.Lib.AppendStr
import Derived.Lib.FrozenHead
import Derived.Lib.UnsafeStr
import Derived.Lib.MakeNoZero
import Derived.Shelf.RegionOpenPlain
import Derived.Laws.Externs
import Derived.Laws.IdiomCopy
import Derived.Laws.BitsLemmas
set_option maxRecDepth 100000
set_option maxHeartbeats 8000000
set_option linter.all false
open Go Go.RowKit Go.Proofs.Tryz Go.Proofs.YtokgbpkbaoeeoaaGreatDoor
variable {U M B b c hi k n:Nat} {Y:Type} {V fr:Frame} {N a w w':World} {v:Value} {f:FuncId} {P:Program} {S:Nat→Prop} {i:TypeInfo} {l:List Nat} {K todo:List Item} {g g':Goroutine} {W cs l':List Frame} {Q r:Option Nat} {Z t:Array Value} {R es:Array Event} {A:Option Addr} {L:List Deferred} {e e':Operand→Value} {s':List Frame→GStep} {O:TypeId→Option TypeInfo} {s:List Frame→World→GStep} {x:Y} {xs:List Y}
namespace Go.Proofs.YtokgbpkbaoeeoaaGreatDoor
def ab:=@_root_.Go.Lib.hid
def aE:=@_root_.List.length_append
def da:=@_root_.decide_eq_false
def db:=@_root_.List.mem_of_getElem?
def de:=@_root_.beq_eq_false_iff_ne
def dk:=@_root_.decide_eq_true
def ef:=@_root_.List.length_take
def eg:=@_root_.Nat.zero_le
def fd:=@_root_.Go.RowKit.Below.refl
def fi:=@_root_.List.length_cons
def iS:=@_root_.Array.getD_eq_getD_getElem?
def jn:=@_root_.Go.RowKit.Below.heap_setCell
def jp:=@_root_.List.getElem?_eq_getElem
def jt:=@_root_.Option.map_eq_some_iff
def me:=@_root_.Go.run_underlying
def mu:=@_root_.List.mem_cons
def oE:=@_root_.Go.Value.slice.injEq
def pb:=@_root_.Go.bodyPost_ret
def ph:=@_root_.Option.bind_eq_some_iff
def pm:=@_root_.Nat.lt_or_ge
def pu:=@_root_.List.take_of_length_le
def pv:=@_root_.Nat.eq_zero_or_pos
def qf:=@_root_.List.mem_of_mem_take
def qg:=@_root_.List.length_map
def qk:=@_root_.Array.getElem?_setIfInBounds_self_of_lt
def ql:=@_root_.List.cons.injEq
def qm:=@_root_.Array.getElem?_eq_none
def qp:=@_root_.List.getElem?_append_right
def qu:=@_root_.Option.map_some
def qv:=@_root_.List.getElem?_append_left
def qw:=@_root_.Option.getD_some
def qx:=@_root_.and_true
def qy:=@_root_.Go.World.cell?_of_block
def qz:=@_root_.List.mem_range
def qA:=@_root_.Bool.false_ne_true
def qC:=@_root_.List.mem_cons_self
def qD:=@_root_.List.length_replicate
def qI:=@_root_.Array.mem_of_getElem?
def qL:=@_root_.Classical.byContradiction
def qO:=@_root_.List.getElem?_map
def qP:=@_root_.Nat.mul_le_mul_right
def qQ:=@_root_.Go.Stepped.next.injEq
def qT:=@_root_.decide_eq_true_eq
def qU:=@_root_.List.eq_nil_of_length_eq_zero
def qV:=@_root_.List.mem_cons_of_mem
def qY:=@_root_.Go.Sem.run_bind'
def qZ:=@_root_.List.map_append
def rj:=@_root_.Go.ByteArray.toList_eq
def rm:=@_root_.Bool.or_eq_true
def rq:=@_root_.List.cons_append
def rr:=@_root_.Go.Lib.cell_of_heap
def rx:=@_root_.List.getElem?_eq_none
def rD:=@_root_.List.drop_zero
def rE:=@_root_.List.drop_eq_nil_of_le
def rH:=@_root_.List.nil_append
def rL:=@_root_.List.mem_iff_getElem?
def rM:=@_root_.Option.isSome_iff_exists
def sd:=@_root_.Array.getElem?_append_left
def sx:=@_root_.Array.mem_toList_iff
def sK:=@_root_.Go.RowKit.Below.heap_alloc
def sM:=@_root_.Nat.add_zero
def sR:=@_root_.UInt8.toNat_inj
def tc:=@_root_.List.append_assoc
def tq:=@_root_.List.getElem?_take_of_lt
def tG:=@_root_.List.all_append
def tJ:=@_root_.true_iff
def tP:=@_root_.dif_pos
def tR:=@_root_.Nat.mul_comm
def ul:=@_root_.List.map_map
def uu:=@_root_.List.getElem?_replicate
def uy:=@_root_.Go.World.ownsRow_nil
def uC:=@_root_.List.all_eq_false
def uJ:=@_root_.Bool.false_or
def uK:=@_root_.Bool.and_true
def uP:=@_root_.Go.IntKind.wrap_i64
def uQ:=@_root_.Array.toList_inj
def vu:=@_root_.List.map_congr_left
def vE:=@_root_.Go.Lib.frozen_of_heap
def vG:=@_root_.Prod.mk.injEq
def vI:=@_root_.Nat.add_assoc
def vK:=@_root_.Int.tmod_eq_emod_of_nonneg
def vL:=@_root_.Bool.or_false
def vM:=@_root_.Bool.not_true
def vR:=@_root_.List.extract_eq_take_drop
def vZ:=@_root_.List.all_nil
def wj:=@_root_.List.range_succ
def wv:=@_root_.ByteArray.data_extract
def wB:=@_root_.List.take_take
def wK:=@_root_.Nat.pow_le_pow_right
def wN:=@_root_.List.replicate_succ'
section
def abd{t:TypeId}(h:ad9 P t=true):∀k e,P.underlying t=some (.map k e)->∃b,P.underlying k=some (.int b):=λk e a=>by
 unfold ad9 ahh at h;rw[a] at h;dsimp only at h;split at h
 .exact⟨_,by assumption⟩
 .cases h
section
variable {P P':Program} {ρ:Ren}
variable (T:Twin P P') (X:aiF P P')
include T
theorem mO:∀(d:Nat) {ρ:Ren} (t:TypeId) {x k y i:Value},VR ρ x k->VR ρ y i->az P P' jR ρ (Op.eqGuardIn d t x y) (Op.eqGuardIn d t k i)
 |0,_,_,_,_,_,_,_,_=>.halt _ _
 |d+1,ρ,t,x,k,y,i,g,c=>by
  unfold Op.eqGuardIn;refine ai (aF T t) λM u O C hd=> ?_;obtain⟨rfl,hd⟩:=hd;replace g:=g.mono C;replace c:=c.mono C;cases u with
  |interface N=>cases g<;>cases c<;>first|exact aj rfl|(cases k<;>first|exact aj rfl|exact absurd (by assumption:jW Value.nilIface=true) (by decide)|exact absurd (by assumption:jW (Value.agg _)=true) qA)|(cases i<;>first|exact aj rfl|exact absurd (by assumption:jW Value.nilIface=true) (by decide)|exact absurd (by assumption:jW (Value.agg _)=true) qA)
  |struct L=>cases g with
   |agg g=>cases c with
    |agg c=>
     refine ai (abX (B:=jR) L (rfl:jR M (none,()) (none,())) λo f r m l _ _=> ?_) λo r m l e=> ?_
     .refine aW (λ_=> ?_) λ_=>aj (.yield rfl);refine ai (ng T f.type (bW.mono l g) f.offset) λJ a I w s=> ?_;refine ai (ng T f.type (bW.mono (l.trans w) c) f.offset) λH b F p j=> ?_;refine ai (mO d f.type (s.mono p) j) λD q v _ e=> ?_;obtain rfl:q=v:=e;exact aW (λ_=>aj (.done rfl)) λ_=>aj (.yield rfl)
     .obtain rfl:r=m:=e;obtain⟨_|q,u⟩:=r<;>exact aj rfl
    |gp=>(cases i<;>first|exact aj rfl|exact absurd (by assumption:jW Value.nilIface=true) (by decide)|exact absurd (by assumption:jW (Value.agg _)=true) qA)
    |_=>exact aj rfl
   |_=>cases c<;>first|exact aj rfl|(cases k<;>first|exact aj rfl|exact absurd (by assumption:jW Value.nilIface=true) (by decide)|exact absurd (by assumption:jW (Value.agg _)=true) qA)|(cases i<;>first|exact aj rfl|exact absurd (by assumption:jW Value.nilIface=true) (by decide)|exact absurd (by assumption:jW (Value.agg _)=true) qA)
  |array n e=>cases g with
   |agg g=>cases c with
    |agg c=>
     refine ai (fV T e) λK z G E q=> ?_;obtain rfl:z=G:=q;refine ai (abY (B:=jR) n (rfl:jR K (none,()) (none,())) λo f r m l _=> ?_) λo r m l e=> ?_
     .have A:=E.trans l;refine ai (ng T e (bW.mono A g) (f*z)) λJ a I w s=> ?_;refine ai (ng T e (bW.mono (A.trans w) c) (f*z)) λH b F p j=> ?_;refine ai (mO d e (s.mono p) j) λD q v _ e=> ?_;obtain rfl:q=v:=e;exact aW (λ_=>aj (.done rfl)) λ_=>aj (.yield rfl)
     .obtain rfl:r=m:=e;obtain⟨_|q,u⟩:=r<;>exact aj rfl
    |gp=>(cases i<;>first|exact aj rfl|exact absurd (by assumption:jW Value.nilIface=true) (by decide)|exact absurd (by assumption:jW (Value.agg _)=true) qA)
    |_=>exact aj rfl
   |_=>cases c<;>first|exact aj rfl|(cases k<;>first|exact aj rfl|exact absurd (by assumption:jW Value.nilIface=true) (by decide)|exact absurd (by assumption:jW (Value.agg _)=true) qA)|(cases i<;>first|exact aj rfl|exact absurd (by assumption:jW Value.nilIface=true) (by decide)|exact absurd (by assumption:jW (Value.agg _)=true) qA)
  |_=>exact aj rfl
theorem aoZ(op:BinOp)(t:TypeId)(x y:Operand){a b c : Value}(j:VR ρ a v)(d:VR ρ b c):az P P' jR ρ (eqGuard op t x y a b) (eqGuard op t x y v c):=by
 unfold eqGuard;refine aW (λ_=>aj rfl) λ_=> ?_;have i:=j;have g:=d;cases j with
 |nilIface=>cases d with
  |nilIface=>
   refine aW (λ_=>aj rfl) λ_=> ?_;refine ai (mO T _ t .nilIface .nilIface) λm q f _ e=> ?_;obtain rfl:q=f:=e;exact aW (λ_=>.halt _ _) λ_=>aj rfl
  |gp=>(cases c<;>first|exact aj rfl|exact absurd (by assumption:jW Value.nilIface=true) (by decide)|exact absurd (by assumption:jW (Value.agg _)=true) qA)
  |_=>exact aj rfl
 |agg j=>cases d with
  |agg d=>
   refine ai dr λm p A l n=> ?_;obtain⟨r,w⟩:=n;refine ai dr λz q f k o=> ?_;obtain⟨s,u⟩:=o;rw[r,w,s,u,T.akR,T.depth];refine aW (λ_=>aj rfl) λ_=> ?_;refine ai (mO T _ t (i.mono (l.trans k)) (g.mono (l.trans k))) λm q f _ e=> ?_;obtain rfl:q=f:=e;exact aW (λ_=>.halt _ _) λ_=>aj rfl
  |gp=>(cases c<;>first|exact aj rfl|exact absurd (by assumption:jW Value.nilIface=true) (by decide)|exact absurd (by assumption:jW (Value.agg _)=true) qA)
  |_=>exact aj rfl
 |_=>cases d<;>first|exact aj rfl|(cases v<;>first|exact aj rfl|exact absurd (by assumption:jW Value.nilIface=true) (by decide)|exact absurd (by assumption:jW (Value.agg _)=true) qA)|(cases c<;>first|exact aj rfl|exact absurd (by assumption:jW Value.nilIface=true) (by decide)|exact absurd (by assumption:jW (Value.agg _)=true) qA)
theorem ao0(f dst:TypeId)(a:akP P f dst=true){x : Value}(c:VR ρ x v):az P P' VR ρ (convert f dst x) (convert f dst v):=by
 unfold convert;refine ai (aF T f) λA u y r l=> ?_;obtain⟨rfl,l⟩:=l;refine ai (aF T dst) λn v t o m=> ?_;obtain⟨rfl,m⟩:=m;replace c:=c.mono (r.trans o);unfold akP at a;rw[l,m] at a;cases v with
 |int k=>
  cases u with
  |int w=>cases c with
   |int=>exact aj (.int _ _)
   |pointer h=>cases h<;>exact .halt _ _
   |slice h=>cases h<;>exact .halt _ _
   |_=>exact .halt _ _
  |_=>cases a
 |string=>
  cases u with
  |slice e=>
   have b:∀{x v:Value},VR n x v->az P P' VR n (do
     match<-underlying e with
     |.int .u8=>Conv.bytesToString x
     |.int .i32=>Conv.runesToString x
     |_=>stuck "Convert: a slice of what to string?") (do
     match<-underlying e with
     |.int .u8=>Conv.bytesToString v
     |.int .i32=>Conv.runesToString v
     |_=>stuck "Convert: a slice of what to string?"):=λ{x v} c=>by
    refine ai (aF T e) λq z p j g=> ?_;obtain⟨rfl,g⟩:=g;dsimp only at a;rw[g] at a;cases z with
    |int k=>cases k<;>first|exact adT (c.mono j)|exact .halt _ _|cases a
    |_=>exact .halt _ _
   have i:=c;cases c with
   |int=>exact aj (.string _)
   |string s=>exact aj (.string _)
   |pointer h=>cases h<;>exact b i
   |slice h=>cases h<;>exact b i
   |gp=>
    refine .dead (Leaves.bind (aeH e) λd _=> ?_) _;cases d with
    |int k=>cases k<;>exact trivial
    |_=>exact trivial
   |_=>exact b i
  |unsafePointer=>cases a
  |_=>cases c with
   |int=>exact aj (.string _)
   |string s=>exact aj (.string _)
   |pointer h=>cases h<;>exact .halt _ _
   |slice h=>cases h<;>exact .halt _ _
   |_=>exact .halt _ _
 |slice e=>
  cases u with
  |string=>cases c with
   |string s=>
    refine ai (aF T e) λq z p j g=> ?_;obtain⟨rfl,g⟩:=g;dsimp only at a;rw[g] at a;cases z with
    |int k=>cases k<;>first|exact adU e s|exact .halt _ _|cases a
    |_=>exact .halt _ _
   |pointer h=>cases h<;>exact .halt _ _
   |slice h=>cases h<;>exact .halt _ _
   |_=>exact .halt _ _
  |_=>cases a
 |_=>cases u<;>cases a
theorem alq(x:Operand)(dst:Option Tmp)(t:TypeId)(pos:String)(af:Array Edge)(g:Option (Nat×Bool))(o:VR ρ (e x) (e' x)):az P P' iM ρ (execOp e ⟨dst,.nilCheck x,t,pos,af,g⟩) (execOp e' ⟨dst,.nilCheck x,t,pos,af,g⟩):=by
 unfold execOp;dsimp only;revert o;generalize e x=v;generalize e' x=v';intro o;cases o with
 |pointer h=>cases h with
  |none=>exact .dead (eM _) _
  |some h=>exact aj (.value (.pointer (.some h)))
 |nilIface=>exact .dead (eM _) _
 |nilFunc=>exact .dead (eM _) _
 |@func p r i _ _ _ _ m l=>
  cases i with
  |same _ i=>
   cases p with
   |func p=>exact aj (.value (.func (.same _ i) m l))
   |_=>cases i
  |yield h=>exact aj (.value (.func (.yield h) m l))
 |abN k j=>exact .dead (eM _) _
 |slice m l q=>exact aj (.value (.slice m l q))
 |map h=>exact aj (.value (.map h))
 |chan h=>exact aj (.value (.chan h))
 |iface t h=>exact aj (.value (.iface t h))
 |agg h=>exact aj (.value (.agg h))
 |tuple h=>exact aj (.value (.tuple h))
 |gp j d=>
  cases v' with
  |pointer a=>cases a with
   |none=>cases d
   |some a=>exact aj (.value (.gp j d))
  |func f a c=>cases f<;>first|(cases d;done)|exact aj (.value (.gp j d))
  |_=>first|(cases d;done)|exact aj (.value (.gp j d))
 |bool b=>exact aj (.value (.bool b))
 |int k n=>exact aj (.value (.int k n))
 |string s=>exact aj (.value (.string s))
theorem ao1(b:Builtin)(ts:Array TypeId)(t:TypeId)(cs:Array Bool)(c:acW P b ts=true){a : Array Value}(h:dv ρ a Z):az P P' iM ρ (builtin b ts t cs a) (builtin b ts t cs Z):=by
 cases b with
 |append=>
  refine bE (aqG T ts t (λu e k d=> ?_) h);unfold acW ahh at c;rw[e] at c;simp[d] at c
 |cap=>exact bE (azU T ts t h)
 |clear=>exact bE (aub T ts t h)
 |copy=>exact bE (axL T ts t h)
 |len=>exact bE (azT T ts t h)
 |max=>exact bE (azV ts t h)
 |min=>exact bE (azW ts t h)
 |unsafeString=>exact bE (aeE T ts t h)
 |unsafeSlice=>exact bE (afN T ts t h)
 |_=>cases c
include X
theorem anx{v' : Value}(a:VR ρ v v'){args args':Array Value}(b:dv ρ args args'):az P P' iM ρ (do let d<-Deferred.ofValue v args;invoke d.target d.args) (do let d<-Deferred.ofValue v' args';invoke d.target d.args):=by
 unfold Deferred.ofValue;cases a with
 |nilFunc=>
  show az P P' iM ρ (runtimePanic .nilDeref) _;exact .dead (eM _) _
 |@func f l a _ _ _ _ g i=>
  cases a with
  |same _ a=>
   cases f with
   |func f=>exact ak2 T X f a (dv.app (dv.app g b) i)
   |_=>cases a
  |yield h=>exact aug h (dv.app g b)
 |abN k j=>
  refine .dead ?_ _;show lI P (invoke (.fn (.method "") (Array.replicate k .nilIface)) (#[.nilIface]++args));have e:(#[Value.nilIface]++args)[0]?=some .nilIface:=by
   rw[sd (by show 0<1;omega)];rfl
  unfold invoke;simp only[e];show lI P (runtimePanic .nilDeref);exact eM _
 |_=>exact .halt _ _
theorem ax4(c:Call)(t:TypeId)(l:adV ρ e e')(j:mY P gA gL (.call c)=true):az P P' iM ρ (do let d<-resolve e c t;invoke d.target d.args) (do let d<-resolve e' c t;invoke d.target d.args):=by
 unfold mY at j;simp only[ff] at j;obtain⟨g,k⟩:=j;obtain⟨a,args,n⟩:=c;simp only[Op.operands,Call.operands,qi,tG,ff] at g;have i:=l.map g.2;cases a with
 |builtin b=>
  exact ao1 T b n t _ k i
 |invoke r m=>cases k
 |value f=>exact anx T X (l f (by simpa using g.1)) i
theorem aC5{o o':Oper}(a:aaF gA gL o'.op=true)(c:o={o' with type:=gB})(f:adV ρ e e'):az P P' iM ρ (execOp e o) (execOp e' o'):=by
 subst c;obtain⟨dst,op,type,d,after,b⟩:=o';dsimp only at a;unfold aaF at a;split at a
 .exact bE (abZ _ gB type T.atZ (f.map a))
 .cases a
theorem arb{o:Oper}(w:mY P gA gL o.op=true)(p:adV ρ e e'):az P P' iM ρ (execOp e o) (execOp e' o):=by
 obtain⟨dst,op,v,K,after,D⟩:=o;dsimp only at w;have A:=w;unfold mY at w;simp only[ff] at w;obtain⟨j,u⟩:=w;cases op with
 |move x=>exact aj (.value (p x (by simpa[Op.operands] using j)))
 |assign x=>exact aj (.value (p x (by simpa[Op.operands] using j)))
 |pick c a b=>
  simp[Op.operands] at j;refine ai (aes (p c j.1)) λI q L z e=> ?_;obtain rfl:q=L:=e;cases q with
  |true=>exact aj (.value ((p a j.2.1).mono z))
  |false=>exact aj (.value ((p b j.2.2).mono z))
 |alloc t=>exact bE (at2 T t)
 |box t x=>exact bE (azS t (p x (by simpa[Op.operands] using j)))
 |build t F=>
  refine bE (aua T t ?_);rw[qG,qG];exact p.parts (by simpa[Op.operands] using j)
 |buildSlice t n F=>
  refine bE (ahj T t n ?_);rw[qG,qG];exact p.parts (by simpa[Op.operands] using j)
 |load t a=>exact bE (aqD T t (p a (by simpa[Op.operands] using j)))
 |store t a x=>
  simp[Op.operands] at j;exact ahn (aox T t (p a j.1) (p x j.2))
 |nilCheck x=>exact alq T x _ _ _ _ _ (p x (by simpa[Op.operands] using j))
 |binOp op t x y M=>
  simp[Op.operands] at j;refine bE (ai (aoZ T op t x y (p x j.1) (p y j.2)) λI _ _ z _=>auf T op t ((p x j.1).mono z) ((p y j.2).mono z))
 |unOp op t x=>exact bE (auc op (p x (by simpa[Op.operands] using j)))
 |convert s d x=>exact bE (ao0 T s d u (p x (by simpa[Op.operands] using j)))
 |makeInterface t x=>exact bE (adP T t (p x (by simpa[Op.operands] using j)))
 |makeFunc f a c=>
  simp only[Op.operands,qi,tG,ff] at j;exact bE (akU (.same f u) (p.map j.1) (p.map j.2))
 |makeMap t r=>cases r with
  |none=>exact bE (akV t)
  |some x=>cases u
 |makeSlice t l c=>
  simp[Op.operands] at j;exact bE (aiD T t (p l j.1) (p c j.2))
 |slice t x l h m=>
  simp only[Op.operands,qi,tG,ff] at j;obtain⟨⟨⟨C,B⟩,E⟩,G⟩:=j;have op:∀{l:Option Operand},l.toArray.toList.all (bP gA gL)=true->OVR ρ (l.map e) (l.map e'):=λ{l} h=>p.opt λx J=>by subst J;simpa using h
  exact bE (aoB T t (p x (by simpa using C)) (op B) (op E) (op G))
 |fieldAddr t x f=>
  refine bE (aoz T t f (λN g i C B E=> ?_) (p x (by simpa[Op.operands] using j)));unfold ani at u;simpa[C,B,E] using u
 |field t x f=>exact bE (at5 T t (p x (by simpa[Op.operands] using j)) f)
 |indexAddr t x i=>
  simp[Op.operands] at j;exact bE (aoA T t (p x j.1) (p i j.2))
 |index t x i=>
  simp[Op.operands] at j;exact bE (at7 T t (p x j.1) (p i j.2))
 |lookup t x i H=>
  simp[Op.operands] at j;exact bE (aqI T t (abd u) (p x j.1) (p i j.2) H)
 |mapUpdate t m k x=>
  simp[Op.operands] at j;exact ahn (adr T t (abd u) (p m j.1) (p k j.2.1) (p x j.2.2))
 |insert t m k x=>
  simp[Op.operands] at j;exact ahn (adr T t (abd u) (p m j.1) (p k j.2.1) (p x j.2.2))
 |range t x=>exact bE (aue T t (p x (by simpa[Op.operands] using j)))
 |next x b=>exact bE (axQ (p x (by simpa[Op.operands] using j)) b v)
 |extract x i=>exact bE (aoy (p x (by simpa[Op.operands] using j)) i)
 |call c=>exact ax4 T X c v p A
 |panic x=>exact bE (aud _ _)
 |_=>cases u
end
section
variable (P:Program)
inductive ItR (ρ:Ren):Item->Item->Prop
 |code (c:Code):ItR ρ (.code (gP c)) (.code c)
 |inBlock (id:Nat):ItR ρ (.inBlock id) (.inBlock id)
 |inLoop (c:Code):ItR ρ (.inLoop (gP c)) (.inLoop c)
 |inScope (c:Code):ItR ρ (.inScope (gP c)) (.inScope c)
 |inRegion {ops ops':Array Oper} (h:aqA P ops ops') (l:List Nat):ItR ρ (.inRegion ops l) (.inRegion ops' l)
 |inRangeFunc {l l':Nat} (h:ρ.r l l'):ItR ρ (.inRangeFunc l) (.inRangeFunc l')
 |endRangeFunc {l l':Nat} (h:ρ.r l l'):ItR ρ (.endRangeFunc l) (.endRangeFunc l')
 |beginRound:ItR ρ .beginRound .beginRound
inductive ki (ρ:Ren):List Item->List Item->Prop
 |nil:ki ρ [] []
 |cons {x x':Item} {l l':List Item} (h:ItR P ρ x x') (hl:ki ρ l l'):ki ρ (x::l) (x'::l')
end
inductive CDs (ρ:Ren):List Deferred->List Deferred->Prop
 |nil:CDs ρ [] []
 |cons {b b':Nat} {l l':List Deferred} (h:ρ.r b b') (hl:CDs ρ l l'):CDs ρ (⟨.collected b,#[]⟩::l) (⟨.collected b',#[]⟩::l')
structure FrR (P:Program) (ρ:Ren) (fr cG:Frame):Prop where
 fn:fr.fn=cG.fn
 tmps:dv ρ fr.tmps cG.tmps
 todo:ki P ρ fr.todo cG.todo
 defers:CDs ρ fr.defers cG.defers
 mode:(fr.mode=.run/\cG.mode=.run)\/(fr.mode=.returning/\cG.mode=.returning)
 kind:fr.kind=.normal/\cG.kind=.normal
 round:NR ρ fr.roundOf cG.roundOf
inductive ja (P:Program) (ρ:Ren):List Frame->List Frame->Prop
 |one {fr cG:Frame} (h:FrR P ρ fr cG) (h0:fr.roundOf=none):ja P ρ [fr] [cG]
 |cons {fr cG:Frame} {l l':List Frame} (h:FrR P ρ fr cG) (hl:ja P ρ l l'):ja P ρ (fr::l) (cG::l')
section
variable {P:Program} {ρ σ:Ren}
def ItR.mono(h:ρ.Le σ){x a:Item}:ItR P ρ x a->ItR P σ x a
 |.code c=>.code c
 |.inBlock id=>.inBlock id
 |.inLoop c=>.inLoop c
 |.inScope c=>.inScope c
 |.inRegion h l=>.inRegion h l
 |.inRangeFunc x=>.inRangeFunc (h.r x)
 |.endRangeFunc x=>.endRangeFunc (h.r x)
 |.beginRound=>.beginRound
def ki.mono(h:ρ.Le σ):∀{x a:List Item},ki P ρ x a->ki P σ x a
 |_,_,.nil=>.nil
 |_,_,.cons x y=>.cons (x.mono h) (y.mono h)
def CDs.mono(h:ρ.Le σ):∀{x a:List Deferred},CDs ρ x a->CDs σ x a
 |_,_,.nil=>.nil
 |_,_,.cons x y=>.cons (h.r x) (y.mono h)
def FrR.mono(h:ρ.Le σ)(x:FrR P ρ fr V):FrR P σ fr V:=
 ⟨x.fn,bW.mono h x.tmps,x.todo.mono h,x.defers.mono h,x.mode,x.kind,x.round.mono h⟩
def ja.mono(h:ρ.Le σ):∀{x a:List Frame},ja P ρ x a->ja P σ x a
 |_,_,.one x y=>.one (x.mono h) y
 |_,_,.cons x y=>.cons (x.mono h) (y.mono h)
def VR.undef:VR ρ undef undef:=.tuple .nil
def aqA.dst{b a:Array Oper}(h:aqA P b a)(i:Nat):(b[i]?).bind (·.dst)=(a[i]?).bind (·.dst):=by
 obtain⟨g,h⟩:=h;cases e:b[i]? with
 |none=>
  have:a[i]?=none:=by
   rw[qr] at e ⊢;omega
  rw[this]
 |some o=>
  have f:=(dl.1 e).1;obtain⟨c,d⟩:∃c,a[i]?=some c:=⟨_,gn (by omega)⟩;rw[d];rcases h i o c e d with⟨rfl,_⟩|⟨_,rfl⟩<;>rfl
def FrR.finish(h:FrR P ρ fr V){v' : Value}(z:VR ρ v v'):FrR P ρ (fr.finish v) (V.finish v'):=by
 obtain⟨f,t,y,d,m,k,r⟩:=fr;obtain⟨D,s,F,C,E,B,A⟩:=V;obtain⟨u,a,w,b,e,g,c⟩:=h;dsimp only at u a w b e g c;subst u;cases w with
 |nil=>exact⟨rfl,a,.nil,b,e,g,c⟩
 |cons x j=>
  cases x with
  |inRegion p l=>
   cases l with
   |nil=>exact⟨rfl,a,.cons (.inRegion p []) j,b,e,g,c⟩
   |cons i o=>
    refine⟨rfl, ?_,.cons (.inRegion p o) j,b,e,g,c⟩;show dv ρ (match _ with|some d=>t.setIfInBounds d v|none=>t) (match _ with|some d=>s.setIfInBounds d v'|none=>s);rw[p.dst i];split
    .exact a.set _ z
    .exact a
  |inRangeFunc q=>exact⟨rfl,a,.cons (.endRangeFunc q) j,b,e,g,c⟩
  |beginRound=>exact⟨rfl,a,j,b,e,g,c⟩
  |code n=>exact⟨rfl,a,.cons (.code n) j,b,e,g,c⟩
  |inBlock id=>exact⟨rfl,a,.cons (.inBlock id) j,b,e,g,c⟩
  |inLoop n=>exact⟨rfl,a,.cons (.inLoop n) j,b,e,g,c⟩
  |inScope n=>exact⟨rfl,a,.cons (.inScope n) j,b,e,g,c⟩
  |endRangeFunc n=>exact⟨rfl,a,.cons (.endRangeFunc n) j,b,e,g,c⟩
def ki.exit(id:Nat):∀{k a:List Item},ki P ρ k a->(exitTo id k=none/\exitTo id a=none)\/∃l c,exitTo id k=some l/\exitTo id a=some c/\ki P ρ l c
 |_,_,.nil=>.inl ⟨rfl,rfl⟩
 |_,_,.cons x y=>by
  have b:=y.exit id;cases x with
  |inBlock i=>
   unfold exitTo;by_cases e:(i ==id)=true
   .rw[du e,du e];exact .inr ⟨_,_,rfl,rfl,y⟩
   .rw[be e,be e];exact b
  |code|inLoop|inScope|inRegion|inRangeFunc|endRangeFunc|beginRound=>simpa[exitTo] using b
end
def lD(w:World)(ds:List Deferred):Prop:=∀d∈ds,∃b,d=⟨.collected b,#[]⟩/\∀x l,w.heap[b]?≠some (.deferred (some (x::l)))
inductive nN (base:List Frame):GStep->Prop
 |ended (o:Outcome) (w:World) (es:Array Event):nN base (.ended o w es)
 |stop {g:Goroutine} {w:World} {es:Array Event} (h:g.status=.blocked\/g.status=.waiting):nN base (.go g w es)
 |raised {fr:Frame} {cs:List Frame} {w:World} {es:Array Event} {ch:List PanicEntry} (hm:fr.mode=.panicking ch) (hd:∀f∈fr::cs,lD w f.defers):nN base (.go {frame:=fr,callers:=cs++base,status:=.running,dying:=none} w es)
 |dying {fr:Frame} {w:World} {es:Array Event} {d:Dying} {f:Fatal} (hf:d.fatal=some f) (hc:d.calling=false):nN base (.go {frame:=fr,callers:=[],status:=.running,dying:=some d} w es)
def nN.after{base:List Frame}{s:GStep}(es:Array Event)(h:nN base s):nN base (s.after es):=by
 cases h with
 |ended o w e=>exact .ended o w _
 |stop h=>exact .stop h
 |raised a hd=>exact .raised a hd
 |dying b c=>exact .dying b c
def Gl:List Frame->List Frame->Goroutine
 |[],base=>{(default:Goroutine) with callers:=base}
 |fr::cs,base=>⟨fr,cs++base,.running,none,none⟩
def GoR(P P':Program)(ρ:Ren)(l l':List Frame):Prop:=
 ja P ρ l l'\/∃f a b m c,gH f=true/\dv ρ a b/\ja P ρ m c/\l=Frame.enter P f a .normal::m/\l'=Frame.enter P' f b .normal::c
def mC(P P':Program)(ρ:Ren)(w w':World)(s:List Frame->World->GStep)(s':List Frame->GStep):Prop:=
 ∃(a:Tape) (D:Nat),(∀base t,Agr w D a t->nN base (s base (w.dW t)))\/
  ∃c g e i b f d,(∀base t,Agr w D a t->s base (w.dW t)=.go (Gl g base) (e.dW t) i)/\e.drawn=w.drawn+D/\ρ.Le c/\(∀base,s' base=.go (Gl b base) f d)/\WR c e f/\Kept ρ c w w' e f/\EvW w c i d/\GoR P P' c g b
section
variable {P P':Program} {ρ:Ren} {w w':World}
def mC.still{l : List Frame}(a:WR ρ w w')(h:∀base w,s base w=.go (Gl l base) w #[])(b:∀base,s' base=.go (Gl l' base) w' #[])(c:GoR P P' ρ l l'):mC P P' ρ w w' s s':=
 ⟨w.tape,0,.inr ⟨ρ,l,w,#[],l',w',#[],λ_ t _=>h _ _,rfl,Ren.Le.refl _,b,a,Kept.refl _ _ _,.nil _ _,c⟩⟩
def mC.bad(h:∀base w,nN base (s base w)):mC P P' ρ w w' s s':=⟨w.tape,0,.inl λ_ _ _=>h _ _⟩
def CDs.marks{b : List Deferred}(h:CDs ρ L b)(c:WR ρ w w'){t:Tape}(i:gq (w.dW t) N):lD N L:=by
 induction h with
 |nil=>intro d hd;cases hd
 |cons g m j=>
  intro d hd;rcases mu.1 hd with rfl|hd
  .refine⟨_,rfl,λx l e=> ?_⟩;have:=i _ _ _ e;obtain⟨o,p,k,n,f⟩:=c.obj g;have a:(w.dW t).heap[_]?=some o:=k;rw[this] at a;cases a;cases f
  .exact j d hd
def ax5(T:Twin P P')(fn:FuncId)(h:mZ ρ es.toList R.toList):mZ ρ (seen P fn es).toList (seen P' fn R).toList:=by
 have u:∀f:Nat,(P'.funcs[f]?).any (·.norace)=(P.funcs[f]?).any (·.norace):=λf=>by
  cases o:P.funcs[f]? with
  |none=>
   have:P'.funcs[f]?=none:=by
    rw[qr] at o ⊢;rw[T.aiA];exact o
   rw[this]
  |some fn=>
   obtain⟨D,v,s⟩:=T.func f fn o;rw[v];simp[s.norace]
 unfold seen;dsimp only;rw[<-sP,<-sP];simp only[u];generalize t:(λf:Nat=>(P.funcs[f]?).any (·.norace))=Q;have m:∀f:Nat,(P.funcs[f]?).any (·.norace)=Q f:=λf=>by rw[<-t]
 simp only[m];have n:∀{l p:List Event},mZ ρ l p->∀(q:Bool) (k b:Array Event),mZ ρ k.toList b.toList->
   mZ ρ (l.foldl (λx e=>match e.loc with
    |.mark (.extern f)=>(Q f,x.2)
    |_=>(x.1,if x.1&&!e.sync then x.2 else x.2.push e)) (q,k)).2.toList
   (p.foldl (λx e=>match e.loc with
    |.mark (.extern f)=>(Q f,x.2)
    |_=>(x.1,if x.1&&!e.sync then x.2 else x.2.push e)) (q,b)).2.toList:=by
  intro l p h
  induction h with
  |nil=>intro q k b d;exact d
  |cons r A j=>
   intro q k b d;rw[uZ,uZ];have push:∀e i:Event,EvR ρ e i->mZ ρ (if(q&&!e.sync)=true then k else k.push e).toList (if(q&&!i.sync)=true then b else b.push i).toList:=λe i h=>by
    have w:e.sync=i.sync:=by cases h;rfl
    rw[w];split
    .exact d
    .rw[rY,rY];exact d.app (.cons h .nil)
   have a:=r;cases r with
   |mk g wr z=>
    cases g with
    |cell C=>exact j _ _ _ (push _ _ a)
    |obj B=>exact j _ _ _ (push _ _ a)
    |mark y=>
     cases y with
     |extern f=>exact j _ _ _ d
     |_=>exact j _ _ _ (push _ _ a)
 exact n h _ _ _ .nil
def arc(P:Program)(fn:FuncId)(es:Array Event):∀e∈(seen P fn es).toList,e∈es.toList:=by
 unfold seen;dsimp only;rw[<-sP];have d:∀(l:List Event) (q:Bool) (k:Array Event) (S:List Event),(∀e∈k.toList,e∈S)->(∀e∈l,e∈S)->
   ∀e∈(l.foldl (λx e=>match e.loc with
    |.mark (.extern f)=>((P.funcs[f]?).any (·.norace),x.2)
    |_=>(x.1,if x.1&&!e.sync then x.2 else x.2.push e)) (q,k)).2.toList,e∈S:=by
  intro l
  induction l with
  |nil=>intro q k S c _;exact c
  |cons x l i=>
   intro q k S c g;rw[uZ];have push:∀e∈(if(q&&!x.sync)=true then k else k.push x).toList,e∈S:=by
    split
    .exact c
    .intro e a;rw[rY,mx] at a;rcases a with a|a
     .exact c e a
     .simp at a;subst a;exact g _ (qC ..)
   have b:∀e∈l,e∈S:=λe a=>g e (qV _ a);split
   .exact i _ k S c b
   .exact i _ _ S push b
 exact d es.toList _ _ es.toList (λe a=>by cases a) λe a=>a
def abe(T:Twin P P')(fn:FuncId)(h:EvW w ρ es R):EvW w ρ (seen P fn es) (seen P' fn R):=
 ⟨ax5 T fn h.ev,λb c e a=>h.nw b c e (arc P fn es e a)⟩
end
section
variable {P P':Program} {ρ σ:Ren} {base:List Frame} {w w':World}
def ja.put(g:ρ.Le σ){a b : Frame}(h:ja P ρ (fr::cs) (V::W))(c:FrR P σ a b)(e:a.roundOf=fr.roundOf):ja P σ (a::cs) (b::W):=by
 cases h with
 |one h f=>exact .one c (e.trans f)
 |cons h d=>exact .cons c (d.mono g)
def ja.head(h:ja P ρ (fr::cs) (V::W)):FrR P ρ fr V:=by
 cases h with
 |one h a=>exact h
 |cons h b=>exact h
def ja.marks{l : List Frame}(h:ja P ρ l l')(b:WR ρ w w'){t:Tape}(c:gq (w.dW t) N):∀f∈l,lD N f.defers:=by
 induction h with
 |one h g=>intro f a;simp at a;subst a;exact h.defers.marks b c
 |cons h e d=>
  intro f a;rcases mu.1 a with rfl|a
  .exact h.defers.marks b c
  .exact d f a
def GoR.of(h:ja P ρ (fr::cs) (V::W)):GoR P P' ρ (fr::cs) (V::W):=.inl h
def FrR.at(h:FrR P ρ fr V)(a:ki P ρ todo K):FrR P ρ {fr with todo} {V with todo:=K}:=
 ⟨h.fn,h.tmps,a,h.defers,h.mode,h.kind,h.round⟩
def abf{c:List PanicEntry}(d:∀f∈fr::cs,lD N f.defers):nN base (.go ⟨fr.raise c,cs++base,.running,none,none⟩ N #[]):=by
 have:∃a,(fr.raise c).mode=.panicking a:=by unfold Frame.raise;split<;>exact⟨_,rfl⟩
 obtain⟨a,e⟩:=this;refine .raised e λf b=> ?_;rcases mu.1 b with rfl|b
 .have:(fr.raise c).defers=fr.defers:=by unfold Frame.raise;split<;>rfl
  rw[this];exact d fr (by simp)
 .exact d f (by simp[b])
variable (T:Twin P P')
include T
theorem ao2(g:Nat)(w:World):nN base (early P fr cs none g w):=by
 unfold early;simp only[T.nX.1,T.nX.2];exact .ended _ _ _
theorem ahy(m:String)(w:World):nN base (endFatal P fr cs none m w):=by
 unfold endFatal;dsimp only;split
 .exact .dying rfl rfl
 .exact .ended _ _ _
 .exact .ended _ _ _
omit T in
theorem gS(fr:Frame)(v:Value):(fr.finish v).roundOf=fr.roundOf:=by
 unfold Frame.finish;split<;>first|rfl|(split<;>rfl)
theorem agt(w:String):gP (.refuse w)=.refuse w:=by rw[T.pc];rfl
theorem aca(w:String):ki P ρ [.code (.refuse w)] [.code (.refuse w)]:=by
 have h:ki P ρ [.code (gP (.refuse w))] [.code (.refuse w)]:=.cons (.code _) .nil;rw[agt T] at h;exact h
omit T in
theorem auC{l l':Nat}(a:ρ.r l l')(f:FuncId)(b:dv ρ t Z)(c d:Code):FrR P ρ (Frame.round l f t (gP c) (gP d) .normal) (Frame.round l' f Z c d .normal):=
 ⟨rfl,b,.cons (.code c) (.cons .beginRound (.cons (.code d) .nil)),.nil,.inl ⟨rfl,rfl⟩,⟨rfl,rfl⟩,.some a⟩
theorem ahs(q:gH f=false){a : Array Value}(o:dv ρ a Z):FrR P ρ (Frame.enter P f a .normal) (Frame.enter P' f Z .normal):=by
 have l:∀n,dv ρ (a++Array.replicate (n-a.size) undef) (Z++Array.replicate (n-Z.size) undef):=λn=>by
  rw[o.size];exact dv.app o (bW.lq λv m=>by simp at m;rw[m.2];exact VR.undef)
 cases b:P.funcs[f]? with
 |none=>
  have k:P'.funcs[f]?=none:=by
   rw[qr] at b ⊢;rw[T.aiA];exact b
  unfold Frame.enter;rw[b,k];exact⟨rfl,l _,aca T _,.nil,.inl ⟨rfl,rfl⟩,⟨rfl,rfl⟩,.none⟩
 |some fn=>
  obtain⟨p,j,i⟩:=T.func f fn b;unfold Frame.enter;rw[b,j];refine⟨rfl, ?_, ?_,.nil,.inl ⟨rfl,rfl⟩,⟨rfl,rfl⟩,.none⟩
  .show dv ρ (a++Array.replicate (fn.ntmps-a.size) undef) (Z++Array.replicate (p.ntmps-Z.size) undef);rw[i.ntmps];exact l _
  .show ki P ρ [.code (fn.body.getD _)] [.code (p.body.getD _)];cases d:fn.body with
   |none=>
    obtain rfl:=i.none d;rw[d];exact aca T _
   |some c=>
    obtain⟨r,g,e⟩:=i.some c d;rw[g,e q];exact .cons (.code _) .nil
theorem ahz{s s':Sem Next}(B:ja P ρ (fr::cs) (V::W))(L:WR ρ w w')(hs:az P P' iM ρ s s') :
  mC P P' ρ w w' (λbase w=>stepG.apply P true fr (cs++base) none s w) (λbase=>stepG.apply P' true V (W++base) none s' w'):=by
 have q:=B.head;have n:(fr.kind ==CallKind.early)=false:=by rw[q.kind.1];rfl
 have k:(V.kind ==CallKind.early)=false:=by rw[q.kind.2];rfl
 have F:(match fr.todo with|.call _ true _ _::_=>CallKind.wrapped|_=>CallKind.normal)=.normal:=by
  have e:=q.todo;revert e;generalize fr.todo=a;generalize V.todo=b;intro e;cases e with
  |nil=>rfl
  |cons x _=>cases x<;>rfl
 have J:(match V.todo with|.call _ true _ _::_=>CallKind.wrapped|_=>CallKind.normal)=.normal:=by
  have e:=q.todo;revert e;generalize fr.todo=a;generalize V.todo=b;intro e;cases e with
  |nil=>rfl
  |cons x _=>cases x<;>rfl
 obtain⟨g,D,H⟩:=hs.run w w' #[] #[] L;rcases H with H|⟨σ,a,j,S,r,G,p,h1,R,z,U,h5,h6,h7,Y⟩
 .refine⟨g,D,.inl λbase t e=> ?_⟩;obtain⟨h,j,nV,hr,hk⟩:=H t e;have Q:=B.marks L hk;unfold stepG.apply;simp only[hr,qe];refine nN.after _ ?_;cases h with
  |panic v=>exact abf Q
  |goexit=>exact abf Q
  |blocked=>exact .stop (.inl rfl)
  |waiting=>exact .stop (.inr rfl)
  |exit c=>exact .ended _ _ _
  |fatal m=>exact ahy T m j
  |throw m=>exact .dying rfl rfl
  |unsupported u=>
   cases u<;>first|exact .ended _ _ _|exact ao2 T _ j
  |stuck s=>exact .ended _ _ _
 .refine⟨g,D,.inr ?_⟩;have o:=B.mono z;have he:EvW w σ (seen P fr.fn G) (seen P' V.fn p):=by rw[q.fn];exact abe T _ Y
  have E:∀t,Agr w D g t->s.runT P (w.dW t) #[]=(.ok a (j.dW t),G):=λt e=>by rw[h1 t e];simp
  have C:s'.runT P' w' #[]=(.ok S r,p):=by rw[U];simp
  have fin:∀y i,(∀base t,Agr w D g t->stepG.apply P true fr (cs++base) none s (w.dW t)=.go (Gl y base) (j.dW t) (seen P fr.fn G))->(∀base,stepG.apply P' true V (W++base) none s' w'=.go (Gl i base) r (seen P' V.fn p))->GoR P P' σ y i->
    ∃σ y j O i r A,(∀base t,Agr w D g t->stepG.apply P true fr (cs++base) none s (w.dW t)=.go (Gl y base) (j.dW t) O)/\j.drawn=w.drawn+D/\ρ.Le σ/\(∀base,stepG.apply P' true V (W++base) none s' w'=.go (Gl i base) r A)/\WR σ j r/\Kept ρ σ w w' j r/\EvW w σ O A/\GoR P P' σ y i:=
   λy i q1 q2 X=>⟨σ,y,j,_,i,r,_,q1,R,z,q2,h6,h7,he,X⟩
  cases h5 with
  |@value v v' hv=>exact fin (fr.finish v::cs) (V.finish v'::W) (λbase t e=>by unfold stepG.apply;simp only[E t e,qe,n];simp[GStep.after,Gl]) (λbase=>by unfold stepG.apply;simp only[C,qe,k];simp[GStep.after,Gl]) (GoR.of (B.put z ((q.mono z).finish hv) (gS _ _)))
  |skip=>exact fin (fr.finish undef::cs) (V.finish undef::W) (λbase t e=>by unfold stepG.apply;simp only[E t e,qe,n];simp[GStep.after,Gl]) (λbase=>by unfold stepG.apply;simp only[C,qe,k];simp[GStep.after,Gl]) (GoR.of (B.put z ((q.mono z).finish VR.undef) (gS _ _)))
  |@enter f a0 K M=>
   refine fin (Frame.enter P f a0 .normal::fr::cs) (Frame.enter P' f K .normal::V::W) (λbase t e=>by unfold stepG.apply;simp only[E t e,qe,n];simp[GStep.after,Gl];exact ga (Frame.enter P f _) F) (λbase=>by unfold stepG.apply;simp only[C,qe,k];simp[GStep.after,Gl];exact ga (Frame.enter P' f _) J) ?_;cases N:gH f with
   |true=>exact .inr ⟨f,_,_,_,_,N,M,o,rfl,rfl⟩
   |false=>exact .inl (.cons (ahs T N M) o)
  |@round l l' Z f tm I e c d=>
   exact fin (Frame.round l f tm (gP c) (gP d) .normal::fr::cs) (Frame.round l' f I c d .normal::V::W) (λbase t e=>by unfold stepG.apply;simp only[E t e,qe,n];simp[GStep.after,Gl]) (λbase=>by unfold stepG.apply;simp only[C,qe,k];simp[GStep.after,Gl])
    (.inl (.cons (auC Z f e c d) o))
end
section
variable {P P':Program} {ρ σ:Ren} {w w':World}
def GlR(ρ:Ren):Prop:=∀g∈gL,ρ.r g g
def GlR.mono(h:ρ.Le σ)(x:GlR ρ):GlR σ:=λg a=>h.r (x g a)
def alr{l l':Nat}(h:ρ.r l l'){j a:Option Code}(b:j=a.map gP):az P P' VR ρ (Instr.endRound l j) (Instr.endRound l' a):=by
 unfold Instr.endRound;refine ai (nH h) λσ x q f c=> ?_;have g:j.isNone=a.isNone:=by subst b;cases a<;>rfl
 rw[g];cases c with
 |loop p o e k n i m d=>
  exact ai (jd (f.r h) (.loop rfl b e k n i m d)) λ_ _ _ _ _=>aj (.bool _)
def ao3{l l':Nat}(h:ρ.r l l'):az P P' (λ_ q m=>q=m.map gP) ρ (Instr.endLoop l) (Instr.endLoop l'):=by
 unfold Instr.endLoop;refine ai (nH h) λσ x n e b=> ?_;cases b with
 |loop i a d g k f j c=>
  rw[i];refine aW (λ_=>dY _) λ_=> ?_;exact ai (jd (e.r h) (.loop rfl a d g k f j c)) λ_ _ _ _ _=>aj a
def ahA(h:NR ρ r Q):az P P' iM ρ (do r.elim (stuck "beginRound: no round") Instr.beginRound;pure .skip) (do Q.elim (stuck "beginRound: no round") Instr.beginRound;pure .skip):=by
 cases h with
 |none=>exact .halt _ _
 |some h=>
  refine ahn ?_;show az P P' jR ρ (Instr.beginRound _) (Instr.beginRound _);unfold Instr.beginRound;refine ai (nH h) λσ x m e a=> ?_;cases a with
  |loop i c d g k f j b=>
   refine ai (jd (e.r h) (.loop rfl c d g k f j b)) λl _ _ _ _=> ?_;rw[i];split
   .exact aj rfl
   .exact dY _
   .exact dY _
   .exact dY _
def aa0(e:Operand->Value)(a:Operand)(l:Nat)(h:∀v,e (.const v)=v):resolve e ⟨.value a,#[.const (.func (.yield l) #[] #[])],#[]⟩ 0=Deferred.ofValue (e a) #[.func (.yield l) #[] #[]]:=by
 unfold resolve;simp[h]
def EnR(ρ:Ren)(x x':Nat×List Deferred):Prop:=ρ.r x.1 x'.1/\CDs ρ x.2 x'.2
def ai7(f:FuncId)(n:dv ρ t Z)(d:Array Tmp)(a b:Code)(h:NR ρ r Q):az P P' EnR ρ (Instr.enterLoop f t d (gP a) (gP b) r) (Instr.enterLoop f Z d a b Q):=by
 unfold Instr.enterLoop;have c:∀(σ:Ren) (q e:Nat×List Deferred),ρ.Le σ->EnR σ q e->az P P' EnR σ (do
   let l<-newObj (.loop ⟨.ready,none,f,t,d,gP a,gP b,q.1⟩)
   pure (l,q.2)) (do
   let l<-newObj (.loop ⟨.ready,none,f,Z,d,a,b,e.1⟩)
   pure (l,e.2)):=λσ q e g k=>by
  refine ai (agd (show OR σ (.loop ⟨.ready,none,f,t,d,gP a,gP b,q.1⟩) (.loop ⟨.ready,none,f,Z,d,a,b,e.1⟩) from .loop rfl rfl rfl (bW.mono g n) rfl rfl rfl k.1)) λv y o j u=> ?_;exact aj (A:=EnR) (show EnR v (y,q.2) (o,e.2) from⟨u,k.2.mono j⟩)
 cases h with
 |none=>
  exact ai (agd .deferred) λσ x i g m=>c σ (x,[⟨.collected x,#[]⟩]) (i,[⟨.collected i,#[]⟩]) g ⟨m,.cons m .nil⟩
 |some h=>
  refine ai (nH h) λσ x i g p=> ?_;cases p with
  |loop B w E z D F C s=>exact c σ (_,[]) (_,[]) g ⟨s,.nil⟩
def FrR.env(j:GlR ρ)(h:FrR P ρ fr V):adV ρ fr.eval V.eval:=λx a=>by
 cases x with
 |tmp t=>
  show VR ρ (fr.tmps.getD t undef) (V.tmps.getD t undef);have l:=bW.size h.tmps;rw[iS,iS];cases e:fr.tmps[t]? with
  |none=>
   have:V.tmps[t]?=none:=by
    rw[qr] at e ⊢;omega
   rw[this];exact VR.undef
  |some v=>
   obtain⟨k,b,d⟩:=bW.get h.tmps (i:=t) (v:=v) (by rw[fa];exact e);rw[fa] at b;rw[b];exact d
 |const v=>exact ahm ρ 5 v a
 |global g=>exact .pointer (.some (.mk (j g (by simpa[bP] using a)) 0 none))
 |func f=>exact .func (.same (.func f) a) .nil .nil
def GoR.ko(h:∀base w,∃o a b,s base w=.ended o a b):mC P P' ρ w w' s s':=mC.bad λbase w=>by
 obtain⟨o,a,b,e⟩:=h base w;rw[e];exact .ended _ _ _
variable (T:Twin P P') (X:aiF P P')
include T
theorem ax6(a b:Code):gP (.seq a b)=.seq (gP a) (gP b):=by rw[T.pc];rfl
theorem ard(id:Nat)(a:Code):gP (.block id a)=.block id (gP a):=by rw[T.pc];rfl
theorem auD(a:Code):gP (.loop a)=.loop (gP a):=by rw[T.pc];rfl
theorem arf(a:Code):gP (.scope a)=.scope (gP a):=by rw[T.pc];rfl
theorem auE:gP .skip=.skip:=by rw[T.pc];rfl
theorem arh:gP .ret=.ret:=by rw[T.pc];rfl
theorem ari(l:Nat):gP (.label l)=.label l:=by rw[T.pc];rfl
theorem anz(l:Nat):gP (.exit l)=.exit l:=by rw[T.pc];rfl
theorem auF(l:Nat):gP (.goto l)=.refuse "" :=by rw[T.pc];rfl
theorem auG(c:Operand)(a b:Code):gP (.cond c a b)=if bP gA gL c=true then .cond c (gP a) (gP b) else .refuse "" :=by rw[T.pc];rfl
theorem ahB(f:Operand)(c:Array Tmp)(a b:Code):gP (.rangeFunc f c a b)=if bP gA gL f=true then .rangeFunc f c (gP a) (gP b) else .refuse "" :=by rw[T.pc];rfl
theorem ao4{g:Oper->Oper}(c:∀o,(g o).after=o.after)(mixed:Bool)(a:Array Oper)(t:Nat):Region.schedule mixed (a.map g) t=Region.schedule mixed a t:=by
 have j:∀(m:Region.Mode) (b t:Nat) (l:Array Bool) (acc:List Nat),Region.linearise.go m (a.map g) b t l acc=Region.linearise.go m a b t l acc:=by
  intro m b
  induction b with
  |zero=>intro t l acc;rfl
  |succ n f=>
   intro t l acc;unfold Region.linearise.go;have e:∀i,((a.map g)[i]?).map (λo:Oper=>o.after.all λe=>!Region.binds m e||l.getD e.on false)=(a[i]?).map (λo:Oper=>o.after.all λe=>!Region.binds m e||l.getD e.on false):=λi=>by
    rw[ry];cases a[i]? with
    |none=>rfl
    |some o=>simp only[qu,c]
   simp only[tT,e,f]
 have d:Region.departs (a.map g)=Region.departs a:=by
  unfold Region.departs;rw[Array.any_map]
  congr 1
  funext o
  simp only[Function.comp,c]
 unfold Region.schedule Region.linearise;rw[d];simp only[j,tT]
theorem ao5(id:Nat)(a:Array Oper)(c:Bool):(gP (.region id a c)=.region id a c/\aqA P a a)\/(∃d,gP (.region id a c)=.region id d c/\aqA P d a/\∀b t,Region.schedule b d t=Region.schedule b a t)\/gP (.region id a c)=.refuse "" :=by
 rw[T.pc];unfold bU;by_cases m:(a.toList.all λo=>mY P gA gL o.op)=true
 .rw[du m];refine .inl ⟨rfl,rfl,λi o l e f=> ?_⟩;rw[e] at f;obtain rfl:=dq f;refine .inl ⟨rfl,lE.1 m o ?_⟩;exact sx.2 (qI e)
 .rw[be m];by_cases k:(a.toList.all λo=>mY P gA gL o.op||aaF gA gL o.op)=true
  .rw[du k];refine .inr (.inl ⟨_,rfl,⟨by simp,λi o l e f=> ?_⟩,λb t=>ao4 T (g:=aaG gA gL gB) (λo=>by unfold aaG;split<;>rfl) b a t⟩);rw[ry,f] at e;obtain rfl:=dq e;have n:=lE.1 k l (sx.2 (qI f));unfold aaG;by_cases j:aaF gA gL l.op=true
   .rw[du j];exact .inr ⟨j,rfl⟩
   .rw[be j];simp only[j,vL] at n;exact .inl ⟨rfl,n⟩
  .rw[be k];exact .inr (.inr rfl)
theorem acb  {d : List Deferred}  {k k' : List Item} {m:Bool}  
  (a:ja P ρ (⟨f,t,todo,d,.run,.normal,r⟩::cs) (⟨f,Z,K,L,.run,.normal,Q⟩::W)) (b:WR ρ w w') (c:ki P ρ k k')
  (h:∀base w,s base w=.go ⟨⟨f,t,k,d,.run,.normal,r⟩,cs++base,.running,none,none⟩ w #[])
  (e:∀base,s' base=.go ⟨⟨f,Z,k',L,.run,.normal,Q⟩,W++base,.running,none,none⟩ w' #[]):mC P P' ρ w w' s s':=
 mC.still b (l:=⟨f,t,k,d,.run,.normal,r⟩::cs) (l':=⟨f,Z,k',L,.run,.normal,Q⟩::W) h e (GoR.of (a.put (Ren.Le.refl _) (a.head.at c) rfl))
omit T in
def ji(p:Program)(main:Bool)(fr:Frame)(callers:List Frame)(w:World)(jump:Option Code):GStep:=
 match fr.roundOf with
 |none=>if jump matches none|some .ret then .go {frame:={fr with mode:=.returning},callers,status:=.running,dying:=none} w else .ended (.stuck "exit, goto: no such block or label" (fr.pos p)) w
 |some l=>
  let(r,es):=(Instr.endRound l jump).runT p w #[]
  GStep.after (seen p fr.fn es) <| match r with
  |.ok v w=>doReturn p main fr callers none v w
  |.halt _ w=>.ended (.stuck "range over a function: no such loop" (fr.pos p)) w
theorem ahC(m m':Bool)(C:ja P ρ (fr::cs) (V::W))(G:WR ρ w w')(hm:fr.mode=.run)(j:Option Code)(hj:j=j.map gP) :
  mC P P' ρ w w' (λbase w=>ji P m fr (cs++base) w j) (λbase=>ji P' m' V (W++base) w' j):=by
 have e:=C.head;have q:=e.round;obtain⟨f,t,i,d,F,M,r⟩:=fr;obtain⟨J,E,K,I,S,o,r'⟩:=V;dsimp only at q;cases q with
 |none=>
  unfold ji;dsimp only;have still:=mC.still (P:=P) (P':=P') G (l:=⟨f,t,i,d,.returning,M,none⟩::cs) (l':=⟨J,E,K,I,.returning,o,none⟩::W) (s:=λbase w=>.go ⟨⟨f,t,i,d,.returning,M,none⟩,cs++base,.running,none,none⟩ w #[]) (s':=λbase=>.go ⟨⟨J,E,K,I,.returning,o,none⟩,W++base,.running,none,none⟩ w' #[]) (λ_ _=>rfl) (λ_=>rfl) (GoR.of (C.put (Ren.Le.refl _) ⟨e.fn,e.tmps,e.todo,e.defers,.inr ⟨rfl,rfl⟩,e.kind,e.round⟩ rfl));cases j with
  |none=>exact still
  |some c=>cases c<;>first|exact still|exact mC.bad λ_ w=>.ended _ _ _
 |@some l l' Y=>
  cases C with
  |one h h0=>cases h0
  |cons h b=>
   obtain⟨g,D,H⟩:=(alr (P:=P) (P':=P') Y hj).run w w' #[] #[] G;rcases H with H|⟨σ,a,L,Q,cY,us,z,h1,O,A,R,h5,h6,h7,X⟩
   .refine⟨g,D,.inl λbase t y=> ?_⟩;obtain⟨h,L,nV,q,B⟩:=H t y;unfold ji;simp only[q];exact nN.after _ (.ended _ _ _)
   .refine⟨g,D,.inr ?_⟩;have B:=e.kind;dsimp only at B;obtain⟨rfl,rfl⟩:=B;have N:=e.fn;dsimp only at N;subst N;have k:∀(p:Program) (m:Bool) (x:Frame) (l:List Frame) (v:Value) (w:World) (Z:Array Value) (td:List Item) (ds:List Deferred) (F:FrameMode) (U:Nat),doReturn p m ⟨f,Z,td,ds,F,.normal,some U⟩ (x::l) none v w=.go ⟨x.finish v,l,.running,none,none⟩ w #[]:=λ_ _ _ _ _ _ _ _ _ _ _=>rfl;obtain⟨x,n,rfl⟩:∃x n,cs=x::n:=by cases b<;>exact⟨_,_,rfl⟩
    obtain⟨x',u,rfl⟩:∃x n,W=x::n:=by cases b<;>exact⟨_,_,rfl⟩
    refine⟨σ,x.finish a::n,L,seen P f us,x'.finish Q::u,cY,seen P' f z,λbase t y=> ?_,O,A,λbase=> ?_,h6,h7,abe T f X,GoR.of (b.put A ((b.head.mono A).finish h5) (gS _ _))⟩
    .unfold ji;simp only[h1 t y,rq,k];simp[GStep.after,Gl]
    .unfold ji;simp only[R,rq,k];simp[GStep.after,Gl]
theorem mC.seq  {t₁:Tape} {D:Nat}  (s1:List Frame->World->GStep) (s1':List Frame->GStep) (f:FuncId)
  (p:∀base t,Agr w D t₁ t->s base (w.dW t)=(s1 base (N.dW t)).after (seen P f R)) (z:N.drawn=w.drawn+D) (L:ρ.Le σ) (B:∀base,s' base=(s1' base).after (seen P' f es)) (r:Kept ρ σ w w' N a) (G:EvW w σ R es)
  (H:mC P P' σ N a s1 s1'):mC P P' ρ w w' s s':=by
 obtain⟨e,E,H⟩:=H;have c:∀t,Agr w (D+E) (λi q=>if i<N.drawn then t₁ i q else e i q) t->Agr w D t₁ t/\Agr N E e t:=λt d=>⟨λi q v O=>by
  rw[d i q v (by omega)];exact du (by omega),λi q v O=>by
  rw[d i q (by omega) (by omega)];exact be (by omega)⟩
 refine⟨λi q=>if i<N.drawn then t₁ i q else e i q,D+E,H.imp (λH base t d=> ?_) ?_⟩
 .rw[p base t (c t d).1];exact nN.after _ (H base t (c t d).2)
 .rintro⟨K,F,Q,J,j,l,k,y,M,o,S,C,I,m,A⟩;have u:=abe T f G;refine⟨K,F,Q,seen P f R++J,j,l,seen P' f es++k,λbase t d=> ?_,by rw[M,z,vI],L.trans o,λbase=> ?_,C,r.trans I,⟨?_,λb n x g=> ?_⟩,A⟩
  .rw[p base t (c t d).1,y base t (c t d).2];rfl
  .rw[B,S];rfl
  .rw[qi,qi];exact(u.ev.mono o).app m.ev
  .rw[qi,mx] at g;rcases g with g|g
   .exact u.nw b n x g
   .exact m.nw b (r.frz b n) x g
include X
theorem aAp(hg:GlR ρ)(m m':Bool)(A:ja P ρ (fr::cs) (V::W))(C:WR ρ w w')(hm:fr.mode=.run) :
  mC P P' ρ w w' (λbase w=>stepG P m ⟨fr,cs++base,.running,none,none⟩ w) (λbase=>stepG P' m' ⟨V,W++base,.running,none,none⟩ w'):=by
 have nh:=A.head;have a5:=nh.env hg;obtain⟨f,t,aT,d,md,kd,r⟩:=fr;obtain⟨f',B,fZ,J,ad,aV,E⟩:=V;obtain⟨h1,h2,h3,h4,h5,h6,h7⟩:=nh;dsimp only at h1 h2 h3 h4 h5 h6 h7 hm;subst h1;subst hm;obtain⟨rfl,rfl⟩:=h6;obtain rfl:ad=.run:=by
  rcases h5 with h5|h5
  .exact h5.2
  .cases h5.1
 cases h3 with
 |nil=>
  have G:∀base w,stepG P m ⟨⟨f,t,[],d,.run,.normal,r⟩,cs++base,.running,none,none⟩ w=ji P m ⟨f,t,[],d,.run,.normal,r⟩ (cs++base) w none:=λ_ _=>rfl;have L:∀base,stepG P' m' ⟨⟨f,B,[],J,.run,.normal,E⟩,W++base,.running,none,none⟩ w'=ji P' m' ⟨f,B,[],J,.run,.normal,E⟩ (W++base) w' none:=λ_=>rfl;simp only[G,L];exact ahC T m m' A C rfl none rfl
 |@cons x x' k F hx I=>
  cases hx with
  |inBlock id=>exact acb T (m:=m) A C I (λbase w=>by simp[stepG,stepG.exec]) (λbase=>by simp[stepG,stepG.exec])
  |inScope c=>exact acb T (m:=m) A C I (λbase w=>by simp[stepG,stepG.exec]) (λbase=>by simp[stepG,stepG.exec])
  |inLoop c=>exact acb T (m:=m) A C (.cons (.code c) (.cons (.inLoop c) I)) (λbase w=>by simp[stepG,stepG.exec]) (λbase=>by simp[stepG,stepG.exec])
  |inRangeFunc hl=>exact GoR.ko λbase w=>⟨_,_,_,by simp[stepG,stepG.exec];exact⟨rfl,rfl,rfl⟩⟩
  |@endRangeFunc l l' hl=>
   obtain⟨t₁,D,H⟩:=(ao3 (P:=P) (P':=P') hl).run w w' #[] #[] C;rcases H with H|⟨σ,a,w1,a',cY,us,a7,h1,h2,h3,h4,h5,h6,ax,h8⟩
   .refine⟨t₁,D,.inl λbase K M=> ?_⟩;obtain⟨h,w1,nV,hr,a8⟩:=H K M;have Z:=A.marks C a8;simp only[stepG,stepG.exec,hr];refine nN.after _ ?_;cases h<;>first|exact abf Z|exact .ended _ _ _
   .have hi:ki P σ ((a.map Item.code).toList++k) ((a'.map Item.code).toList++F):=by
     subst h5;cases a' with
     |none=>exact I.mono h3
     |some c=>exact .cons (.code c) (I.mono h3)
    refine⟨t₁,D,.inr ⟨σ,⟨f,t,(a.map Item.code).toList++k,d,.run,.normal,r⟩::cs,w1,seen P f us,⟨f,B,(a'.map Item.code).toList++F,J,.run,.normal,E⟩::W,cY,seen P' f a7,λbase K M=> ?_,h2,h3,λbase=> ?_,h6,ax,abe T f h8,GoR.of (A.put h3 ((A.head.mono h3).at hi) rfl)⟩⟩
    .simp only[stepG,stepG.exec,h1 K M];simp[GStep.after,Gl]
    .simp only[stepG,stepG.exec,h4];simp[GStep.after,Gl]
  |beginRound=>
   have G:∀base w,stepG P m ⟨⟨f,t,.beginRound::k,d,.run,.normal,r⟩,cs++base,.running,none,none⟩ w=stepG.apply P true ⟨f,t,.beginRound::k,d,.run,.normal,r⟩ (cs++base) none (do r.elim (stuck "beginRound: no round") Instr.beginRound;pure .skip) w:=λ_ _=>rfl;have L:∀base,stepG P' m' ⟨⟨f,B,.beginRound::F,J,.run,.normal,E⟩,W++base,.running,none,none⟩ w'=stepG.apply P' true ⟨f,B,.beginRound::F,J,.run,.normal,E⟩ (W++base) none (do E.elim (stuck "beginRound: no round") Instr.beginRound;pure .skip) w':=λ_=>rfl;simp only[G,L];exact ahz T A C (ahA h7)
  |@inRegion n u N l=>
   cases l with
   |nil=>exact acb T (m:=m) A C I (λbase w=>by simp[stepG,stepG.exec]) (λbase=>by simp[stepG,stepG.exec])
   |cons i z=>
    have aL:=A.head.finish VR.undef;have aI:∀j,yielded n t j=yielded u B j:=λj=>by
     unfold yielded;rw[N.dst j];cases((u[j]?).bind (·.dst)) with
     |none=>rfl
     |some x=>
      show(match t[x]? with|some (.bool b)=>some b|_=>none)=(match B[x]? with|some (.bool b)=>some b|_=>none);have hs:=bW.size h2;cases e:t[x]? with
      |none=>
       have:B[x]?=none:=by
        rw[qr] at e ⊢;omega
       rw[this]
      |some v=>
       obtain⟨v',G,L⟩:=bW.get h2 (i:=x) (v:=v) (by rw[fa];exact e);rw[fa] at G;rw[G];cases L<;>first|rfl|(cases v'<;>first|rfl|(cases(by assumption:jW _=true);done))
    have skip:(((n[i]?).map (Region.wanted · (yielded n t))).getD false=false)->(((u[i]?).map (Region.wanted · (yielded u B))).getD false=false)->mC P P' ρ w w' (λbase w=>stepG P m ⟨⟨f,t,.inRegion n (i::z)::k,d,.run,.normal,r⟩,cs++base,.running,none,none⟩ w) (λbase=>stepG P' m' ⟨⟨f,B,.inRegion u (i::z)::F,J,.run,.normal,E⟩,W++base,.running,none,none⟩ w'):=λG L=>
     mC.still C (l:=_::cs) (l':=_::W) (λbase w=>by simp only[stepG,stepG.exec,G];rfl) (λbase=>by simp only[stepG,stepG.exec,L];rfl) (GoR.of (A.put (Ren.Le.refl _) aL (gS _ _)))
    cases eo:n[i]? with
    |none=>
     have U:u[i]?=none:=by
      have:=N.1;rw[qr] at eo ⊢;omega
     exact skip (by rw[eo];rfl) (by rw[U];rfl)
    |some o=>
     obtain⟨R,U⟩:∃R,u[i]?=some R:=by
      have:=(dl.1 eo).1;have:=N.1;exact⟨_,gn (by omega)⟩
     have a2:=N.2 i o R eo U;have ay:o.guard=R.guard:=by rcases a2 with⟨rfl,_⟩|⟨_,rfl⟩<;>rfl
     have a4:Region.wanted o (yielded n t)=Region.wanted R (yielded u B):=by
      unfold Region.wanted;rw[ay];cases R.guard with
      |none=>rfl
      |some g=>obtain⟨j,b⟩:=g;show(yielded n t j ==some b)=(yielded u B j ==some b);rw[aI j]
     cases ew:Region.wanted R (yielded u B) with
     |false=>exact skip (by rw[eo];simp[a4,ew]) (by rw[U];simp[ew])
     |true=>
      rw[ew] at a4;have nd:(∀c,o.op ≠ .defer c)/\∀c,R.op ≠ .defer c:=by
       rcases a2 with⟨rfl,O⟩|⟨Y,rfl⟩
       .have:∀c,o.op ≠ .defer c:=λc e=>by rw[e] at O;unfold mY at O;simp at O
        exact⟨this,this⟩
       .have:∀c,R.op ≠ .defer c:=λc e=>by rw[e] at Y;cases Y
        exact⟨this,this⟩
      have a1:az P P' iM ρ (execOp (Frame.eval ⟨f,t,.inRegion n (i::z)::k,d,.run,.normal,r⟩) o) (execOp (Frame.eval ⟨f,B,.inRegion u (i::z)::F,J,.run,.normal,E⟩) R):=by
       rcases a2 with⟨rfl,O⟩|⟨Y,an⟩
       .exact arb T X O a5
       .exact aC5 T X Y an a5
      have G:∀base w,stepG P m ⟨⟨f,t,.inRegion n (i::z)::k,d,.run,.normal,r⟩,cs++base,.running,none,none⟩ w=stepG.apply P true ⟨f,t,.inRegion n (i::z)::k,d,.run,.normal,r⟩ (cs++base) none (execOp (Frame.eval ⟨f,t,.inRegion n (i::z)::k,d,.run,.normal,r⟩) o) w:=λbase w=>by
       simp only[stepG,stepG.exec,eo,qu,qw,a4,qe,stepG.oper,Frame.oper?];cases r with
       |none=>rfl
       |some l0=>
        have:=nd.1;split
        .rename_i Q;exact absurd Q (this _)
        .rfl
      have L:∀base,stepG P' m' ⟨⟨f,B,.inRegion u (i::z)::F,J,.run,.normal,E⟩,W++base,.running,none,none⟩ w'=stepG.apply P' true ⟨f,B,.inRegion u (i::z)::F,J,.run,.normal,E⟩ (W++base) none (execOp (Frame.eval ⟨f,B,.inRegion u (i::z)::F,J,.run,.normal,E⟩) R) w':=λbase=>by
       simp only[stepG,stepG.exec,U,qu,qw,ew,qe,stepG.oper,Frame.oper?];cases E with
       |none=>rfl
       |some l0=>
        have:=nd.2;split
        .rename_i Q;exact absurd Q (this _)
        .rfl
      simp only[G,L];exact ahz T A C a1
  |code c=>
   cases c with
   |skip=>rw[auE T] at *;exact acb T (m:=m) A C I (λbase w=>by simp[stepG,stepG.exec]) (λbase=>by simp[stepG,stepG.exec])
   |label l=>rw[ari T] at *;exact acb T (m:=m) A C I (λbase w=>by simp[stepG,stepG.exec]) (λbase=>by simp[stepG,stepG.exec])
   |seq a b=>rw[ax6 T] at *;exact acb T (m:=m) A C (.cons (.code a) (.cons (.code b) I)) (λbase w=>by simp[stepG,stepG.exec]) (λbase=>by simp[stepG,stepG.exec])
   |block id a=>rw[ard T] at *;exact acb T (m:=m) A C (.cons (.code a) (.cons (.inBlock id) I)) (λbase w=>by simp[stepG,stepG.exec]) (λbase=>by simp[stepG,stepG.exec])
   |loop a=>rw[auD T] at *;exact acb T (m:=m) A C (.cons (.code a) (.cons (.inLoop a) I)) (λbase w=>by simp[stepG,stepG.exec]) (λbase=>by simp[stepG,stepG.exec])
   |scope a=>rw[arf T] at *;exact acb T (m:=m) A C (.cons (.code a) (.cons (.inScope a) I)) (λbase w=>by simp[stepG,stepG.exec]) (λbase=>by simp[stepG,stepG.exec])
   |refuse s=>rw[agt T] at *;exact GoR.ko λbase w=>⟨_,_,_,by simp[stepG,stepG.exec];exact⟨rfl,rfl,rfl⟩⟩
   |goto l=>rw[auF T] at *;exact GoR.ko λbase w=>⟨_,_,_,by simp[stepG,stepG.exec];exact⟨rfl,rfl,rfl⟩⟩
   |cond c a b=>
    rw[auG T] at *;by_cases Q:bP gA gL c=true
    .rw[du Q] at *;have hv:=a5 c Q;generalize a0:Frame.eval ⟨f,t,.code (.cond c (gP a) (gP b))::k,d,.run,.normal,r⟩ c=v at hv;generalize aH:Frame.eval ⟨f,B,.code (.cond c a b)::F,J,.run,.normal,E⟩ c=v' at hv;cases hv with
     |bool q=>
      have hi:ki P ρ (.code (if q=true then gP a else gP b)::k) (.code (if q=true then a else b)::F):=by
       cases q with
       |true=>exact .cons (.code a) I
       |false=>exact .cons (.code b) I
      exact acb T (m:=m) A C hi (λbase w=>by simp[stepG,stepG.exec,a0]) (λbase=>by simp[stepG,stepG.exec,aH])
     |abN=>exact GoR.ko λbase w=>⟨_,_,_,by unfold aou at a0;simp[stepG,stepG.exec,a0];first|exact⟨rfl,rfl,rfl⟩|rfl⟩
     |_=>exact GoR.ko λbase w=>⟨_,_,_,by simp[stepG,stepG.exec,a0];exact⟨rfl,rfl,rfl⟩⟩
    .rw[be Q] at *;exact GoR.ko λbase w=>⟨_,_,_,by simp[stepG,stepG.exec];exact⟨rfl,rfl,rfl⟩⟩
   |exit id=>
    rw[anz T] at *;rcases I.exit id with⟨x1,x2⟩|⟨l,l',x1,x2,hl⟩
    .have G:∀base w,stepG P m ⟨⟨f,t,.code (.exit id)::k,d,.run,.normal,r⟩,cs++base,.running,none,none⟩ w=ji P m ⟨f,t,.code (.exit id)::k,d,.run,.normal,r⟩ (cs++base) w (some (.exit id)):=λbase w=>by simp[stepG,stepG.exec,x1,ji];rfl
     have L:∀base,stepG P' m' ⟨⟨f,B,.code (.exit id)::F,J,.run,.normal,E⟩,W++base,.running,none,none⟩ w'=ji P' m' ⟨f,B,.code (.exit id)::F,J,.run,.normal,E⟩ (W++base) w' (some (.exit id)):=λbase=>by simp[stepG,stepG.exec,x2,ji];rfl
     simp only[G,L];exact ahC T m m' A C rfl (some (.exit id)) (by rw[qu,anz T])
    .exact acb T (m:=m) A C hl (λbase w=>by simp[stepG,stepG.exec,x1]) (λbase=>by simp[stepG,stepG.exec,x2])
   |ret=>
    rw[arh T] at *;have G:∀base w,stepG P m ⟨⟨f,t,.code .ret::k,d,.run,.normal,r⟩,cs++base,.running,none,none⟩ w=ji P m ⟨f,t,.code .ret::k,d,.run,.normal,r⟩ (cs++base) w (some .ret):=λ_ _=>rfl;have L:∀base,stepG P' m' ⟨⟨f,B,.code .ret::F,J,.run,.normal,E⟩,W++base,.running,none,none⟩ w'=ji P' m' ⟨f,B,.code .ret::F,J,.run,.normal,E⟩ (W++base) w' (some .ret):=λ_=>rfl;simp only[G,L];exact ahC T m m' A C rfl (some .ret) (by rw[qu,arh T])
   |region id n draw=>
    rcases ao5 T id n draw with⟨e,N⟩|⟨S,e,N,aa⟩|e
    .rw[e] at *;cases draw with
     |false=>exact acb T (m:=m) A C (.cons (.inRegion N (List.range n.size)) I) (λbase w=>by simp[stepG,stepG.exec]) (λbase=>by simp[stepG,stepG.exec])
     |true=>
      have G:∀(p:Program) (q:Question) (w:World),q.forced=false->(choose q).run p w=.ok (q.cut (w.tape w.drawn q)) {w with drawn:=w.drawn+1}:=λp q w hq=>by
       unfold choose;rw[Sem.run,hq];rfl
      obtain⟨q1,q2⟩:=C.ask 1 1;have hi:ki P ρ (.inRegion n (Region.schedule (P.follows .mixedOrders) n (w'.tape w'.drawn (.order f id)))::k) (.inRegion n (Region.schedule (P'.follows .mixedOrders) n (w'.tape w'.drawn (.order f id)))::F):=by
       rw[T.follows];exact .cons (.inRegion N _) I
      refine⟨λ_ _=>w'.tape w'.drawn (.order f id),1,.inr ⟨ρ,⟨f,t,.inRegion n (Region.schedule (P.follows .mixedOrders) n (w'.tape w'.drawn (.order f id)))::k,d,.run,.normal,r⟩::cs,{w with drawn:=w.drawn+1},#[],⟨f,B,.inRegion n (Region.schedule (P'.follows .mixedOrders) n (w'.tape w'.drawn (.order f id)))::F,J,.run,.normal,E⟩::W,{w' with drawn:=w'.drawn+1},#[],λbase K M=> ?_,rfl,Ren.Le.refl _,λbase=> ?_,q1,q2,.nil _ _,GoR.of (A.put (Ren.Le.refl _) (A.head.at hi) rfl)⟩⟩
      .have hd:=M w.drawn (.order f id) (am _) (by omega);simp only[stepG,stepG.exec,G P (.order f id) (w.dW K) rfl];show GStep.go _ _ _=_;have:(w.dW K).tape (w.dW K).drawn (.order f id)=w'.tape w'.drawn (.order f id):=hd;simp only[Question.cut,this];rfl
      .simp only[stepG,stepG.exec,G P' (.order f id) w' rfl];rfl
    .rw[e] at *;have af:List.range S.size=List.range n.size:=by rw[N.1]
     cases draw with
     |false=>exact acb T (m:=m) A C (.cons (.inRegion N (List.range n.size)) I) (λbase w=>by simp[stepG,stepG.exec,af]) (λbase=>by simp[stepG,stepG.exec])
     |true=>
      have G:∀(p:Program) (q:Question) (w:World),q.forced=false->(choose q).run p w=.ok (q.cut (w.tape w.drawn q)) {w with drawn:=w.drawn+1}:=λp q w hq=>by
       unfold choose;rw[Sem.run,hq];rfl
      obtain⟨q1,q2⟩:=C.ask 1 1;have hi:ki P ρ (.inRegion S (Region.schedule (P.follows .mixedOrders) S (w'.tape w'.drawn (.order f id)))::k) (.inRegion n (Region.schedule (P'.follows .mixedOrders) n (w'.tape w'.drawn (.order f id)))::F):=by
       rw[T.follows,aa];exact .cons (.inRegion N _) I
      refine⟨λ_ _=>w'.tape w'.drawn (.order f id),1,.inr ⟨ρ,⟨f,t,.inRegion S (Region.schedule (P.follows .mixedOrders) S (w'.tape w'.drawn (.order f id)))::k,d,.run,.normal,r⟩::cs,{w with drawn:=w.drawn+1},#[],⟨f,B,.inRegion n (Region.schedule (P'.follows .mixedOrders) n (w'.tape w'.drawn (.order f id)))::F,J,.run,.normal,E⟩::W,{w' with drawn:=w'.drawn+1},#[],λbase K M=> ?_,rfl,Ren.Le.refl _,λbase=> ?_,q1,q2,.nil _ _,GoR.of (A.put (Ren.Le.refl _) (A.head.at hi) rfl)⟩⟩
      .have hd:=M w.drawn (.order f id) (am _) (by omega);simp only[stepG,stepG.exec,G P (.order f id) (w.dW K) rfl];show GStep.go _ _ _=_;have:(w.dW K).tape (w.dW K).drawn (.order f id)=w'.tape w'.drawn (.order f id):=hd;simp only[Question.cut,this];rfl
      .simp only[stepG,stepG.exec,G P' (.order f id) w' rfl];rfl
    .rw[e] at *;exact GoR.ko λbase w=>⟨_,_,_,by simp[stepG,stepG.exec];exact⟨rfl,rfl,rfl⟩⟩
   |rangeFunc fo ps a b=>
    rw[ahB T] at *;by_cases Q:bP gA gL fo=true
    .rw[du Q] at *;obtain⟨t₁,D,H⟩:=(ai7 (P:=P) (P':=P') f h2 ps a b h7).run w w' #[] #[] C;rcases H with H|⟨σ,q,w1,q',cY,us,a7,g1,g2,g3,g4,g5,g6,g7,g8⟩
     .refine⟨t₁,D,.inl λbase K M=> ?_⟩;obtain⟨h,w1,nV,hr,a8⟩:=H K M;simp only[stepG,stepG.exec,hr];exact nN.after _ (.ended _ _ _)
     .obtain⟨lp,mk⟩:=q;obtain⟨a3,mk'⟩:=q';obtain⟨a6,Z⟩:=g5;dsimp only at a6 Z;have ao:∀{x x' y y':List Deferred},CDs σ x x'->CDs σ y y'->CDs σ (x++y) (x'++y'):=by
       intro x x' y y' hx hy
       induction hx with
       |nil=>exact hy
       |cons hb _ ih=>exact .cons hb ih
      have a9:ja P σ (⟨f,t,.inRangeFunc lp::k,mk++d,.run,.normal,r⟩::cs) (⟨f,B,.inRangeFunc a3::F,mk'++J,.run,.normal,E⟩::W):=
       A.put g3 ⟨rfl,bW.mono g3 h2,.cons (.inRangeFunc a6) (I.mono g3),ao Z (h4.mono g3),.inl ⟨rfl,rfl⟩,⟨rfl,rfl⟩,h7.mono g3⟩ rfl
      have al:=a9.head.env (hg.mono g3);have a1:=anx T X (al fo Q) (args:=#[.func (.yield lp) #[] #[]]) (args':=#[.func (.yield a3) #[] #[]]) (.cons (.func (.yield a6) .nil .nil) .nil);refine mC.seq T (s1:=λbase w=>stepG.apply P true ⟨f,t,.inRangeFunc lp::k,mk++d,.run,.normal,r⟩ (cs++base) none _ w) (s1':=λbase=>stepG.apply P' true ⟨f,B,.inRangeFunc a3::F,mk'++J,.run,.normal,E⟩ (W++base) none _ cY) f (t₁:=t₁) (D:=D) (λbase K M=> ?_) g2 g3 (λbase=> ?_) g7 g8 (ahz T a9 g6 a1)
      .simp only[stepG,stepG.exec,g1 K M,Array.empty_append];rw[aa0 _ _ _ λ_=>rfl]
      .simp only[stepG,stepG.exec,g4,Array.empty_append];rw[aa0 _ _ _ λ_=>rfl]
    .rw[be Q] at *;exact GoR.ko λbase w=>⟨_,_,_,by simp[stepG,stepG.exec];exact⟨rfl,rfl,rfl⟩⟩
end
def pR(l:List Frame):Prop:=∃a,l=[a]/\a.mode=.returning/\a.defers=[]/\a.kind=.normal
section
variable {P P':Program} {ρ σ:Ren} {w w':World}
def aeP{l l':Nat}(h:ρ.r l l'):az P P' (λ_ q b=>q=[]/\b=[]) ρ (Instr.takeDeferred l) (Instr.takeDeferred l'):=by
 unfold Instr.takeDeferred;refine ai (eX h) λσ x d c a=> ?_;cases a with
 |deferred=>exact ai (jd (c.r h) .bJ) λ_ _ _ _ _=>aj ⟨rfl,rfl⟩
 |_=>exact .halt _ _
variable (T:Twin P P') (X:aiF P P')
include T
theorem ai8:∀(l:List ResultVar) {ρ:Ren} {t b:Array Value},dv ρ t b->az P P' bW ρ (l.mapM fun
  |.tmp k=>pure (t.getD k undef)
  |.cell a c=>do loadVar c (<-asAddr (t.getD a undef))) (l.mapM fun
  |.tmp k=>pure (b.getD k undef)
  |.cell a c=>do loadVar c (<-asAddr (b.getD a undef)))
 |[],_,_,_,_=>by
  rw[List.mapM_nil,List.mapM_nil];exact aj .nil
 |x::l,ρ,t,b,h=>by
  have g:∀(σ:Ren) (k:Nat),ρ.Le σ->VR σ (t.getD k undef) (b.getD k undef):=λσ k d=>by
   have y:=bW.size h;rw[iS,iS];cases e:t[k]? with
   |none=>
    have:b[k]?=none:=by
     rw[qr] at e ⊢;omega
    rw[this];exact VR.undef
   |some v=>
    obtain⟨m,j,n⟩:=bW.get h (i:=k) (v:=v) (by rw[fa];exact e);rw[fa] at j;rw[j];exact n.mono d
  rw[wC,wC];refine ai (A:=VR) ?_ λσ v m d r=>ai (ai8 l (bW.mono d h)) λs u q o f=>aj (.cons (r.mono o) f);cases x with
  |tmp k=>exact aj (g ρ k (Ren.Le.refl _))
  |cell a c=>exact ai (aiC (g ρ a (Ren.Le.refl _))) λσ x w d p=>age T c p
theorem agu{fn g:Func}(k:g.results=fn.results)(h:dv ρ t Z):az P P' VR ρ (results fn t) (results g Z):=by
 unfold results;rw[k,ui,ui,map_eq_pure_bind,map_eq_pure_bind];refine ai (A:=dv) (ai (ai8 T fn.results.toList h) λ_ _ _ _ b=>aj (A:=dv) b) λσ c a m b=> ?_;have n:c.size=a.size:=bW.size b;refine aj ?_;by_cases e:c.size=1
 .have d:a.size=1:=by omega
  rw[tP e,tP d];obtain⟨l,f,j⟩:=bW.get b (i:=0) (v:=c[0]) (by rw[fa];exact gn (by omega));rw[fa,gn (by omega)] at f;obtain rfl:=dq f;exact j
 .have d:¬a.size=1:=by omega
  rw[dif_neg e,dif_neg d];exact .tuple b
theorem aAr(m m':Bool)(hS:ja P ρ (fr::cs) (V::W))(N:WR ρ w w')(hm:fr.mode=.returning)(hn:fr.defers≠[]\/cs≠[]) :
  mC P P' ρ w w' (λbase w=>stepG P m ⟨fr,cs++base,.running,none,none⟩ w) (λbase=>stepG P' m' ⟨V,W++base,.running,none,none⟩ w'):=by
 have nh:=hS.head;obtain⟨f,t,E,d,md,kd,r⟩:=fr;obtain⟨f',I,fZ,d',K,a1,r'⟩:=V;obtain⟨G,o,h3,h4,A,h6,h7⟩:=nh;dsimp only at G o h3 h4 A h6 h7 hm hn;subst G;subst hm;obtain⟨rfl,rfl⟩:=h6;obtain rfl:K=.returning:=by
  rcases A with A|A
  .cases A.1
  .exact A.2
 cases h4 with
 |@cons b b' ds M hb hl=>
  obtain⟨g,D,H⟩:=(aeP (P:=P) (P':=P') hb).run w w' #[] #[] N;rcases H with H|⟨σ,a,F,a',U,Q,s,Y,S,k,O,g5,R,L,X⟩
  .refine⟨g,D,.inl λbase u q=> ?_⟩;obtain⟨h,F,nV,Z,J⟩:=H u q;simp only[stepG,unwind,Z];exact nN.after _ (.ended _ _ _)
  .obtain⟨rfl,rfl⟩:=g5;refine⟨g,D,.inr ⟨σ,⟨f,t,E,ds,.returning,.normal,r⟩::cs,F,seen P f Q,⟨f,I,fZ,M,.returning,.normal,r'⟩::W,U,seen P' f s,λbase u q=> ?_,S,k,λbase=> ?_,R,L,abe T f X,
    GoR.of (hS.put k ⟨rfl,bW.mono k o,h3.mono k,hl.mono k,.inr ⟨rfl,rfl⟩,⟨rfl,rfl⟩,h7.mono k⟩ rfl)⟩⟩
   .simp only[stepG,unwind,Y u q];simp[GStep.after,Gl]
   .simp only[stepG,unwind,O];simp[GStep.after,Gl]
 |nil=>
  have a0:cs≠[]:=hn.resolve_left λh=>h rfl;cases hS with
  |one h h0=>exact absurd rfl a0
  |cons h j=>
   obtain⟨x,B,rfl⟩:∃x B,cs=x::B:=by cases j<;>exact⟨_,_,rfl⟩
   obtain⟨x',C,rfl⟩:∃x B,W=x::B:=by cases j<;>exact⟨_,_,rfl⟩
   have n:∀(p:Program) (m:Bool) (x:Frame) (l:List Frame) (v:Value) (w:World) (tm:Array Value) (td:List Item) (r:Option Nat),doReturn p m ⟨f,tm,td,[],.returning,.normal,r⟩ (x::l) none v w=.go ⟨x.finish v,l,.running,none,none⟩ w #[]:=λ_ _ _ _ _ _ _ _ _=>rfl;cases z:P.funcs[f]? with
   |none=>
    have y:P'.funcs[f]?=none:=by
     rw[qr] at z ⊢;rw[T.aiA];exact z
    have hv:VR ρ (t.getD 0 undef) (I.getD 0 undef):=by
     have hz:=bW.size o;rw[iS,iS];cases e:t[0]? with
     |none=>
      have:I[0]?=none:=by
       rw[qr] at e ⊢;omega
      rw[this];exact VR.undef
     |some v=>
      obtain⟨v',G,o⟩:=bW.get o (i:=0) (v:=v) (by rw[fa];exact e);rw[fa] at G;rw[G];exact o
    refine mC.still N (l:=x.finish (t.getD 0 undef)::B) (l':=x'.finish (I.getD 0 undef)::C) (λbase w=> ?_) (λbase=> ?_) (GoR.of (j.put (Ren.Le.refl _) (j.head.finish hv) (gS _ _)))
    .simp only[stepG,unwind,z,rq,n,Gl]
    .simp only[stepG,unwind,y,rq,n,Gl]
   |some fn=>
    obtain⟨dx,y,hR⟩:=T.func f fn z;obtain⟨g,D,H⟩:=(agu T hR.results o).run w w' #[] #[] N;rcases H with H|⟨σ,a,F,a',U,Q,s,Y,S,k,O,g5,R,L,X⟩
    .refine⟨g,D,.inl λbase u q=> ?_⟩;obtain⟨h,F,nV,Z,J⟩:=H u q;simp only[stepG,unwind,z,Z];refine nN.after _ ?_;cases h<;>exact .ended _ _ _
    .refine⟨g,D,.inr ⟨σ,x.finish a::B,F,seen P f Q,x'.finish a'::C,U,seen P' f s,λbase u q=> ?_,S,k,λbase=> ?_,R,L,abe T f X,GoR.of (j.put k ((j.head.mono k).finish g5) (gS _ _))⟩⟩
     .simp only[stepG,unwind,z,Y u q,rq,n];simp[GStep.after,Gl]
     .simp only[stepG,unwind,y,O,rq,n];simp[GStep.after,Gl]
include X
theorem ayb(j:GlR ρ){l : List Frame}(m m':Bool)(a:ja P ρ l l')(d:WR ρ w w')(k:¬pR l) :
  mC P P' ρ w w' (λbase w=>stepG P m (Gl l base) w) (λbase=>stepG P' m' (Gl l' base) w'):=by
 obtain⟨f,n,rfl⟩:∃x c,l=x::c:=by cases a<;>exact⟨_,_,rfl⟩
 obtain⟨p,g,rfl⟩:∃x c,l'=x::c:=by cases a<;>exact⟨_,_,rfl⟩
 rcases a.head.mode with b|b
 .exact aAp T X j m m' a d b.1
 .refine aAr T m m' a d b.1 ?_;refine qL λh=>k ?_;have o:f.defers=[]:=qL λe=>h (.inl e);have i:n=[]:=qL λe=>h (.inr e);subst i;exact⟨f,rfl,b.1,o,a.head.kind.1⟩
end
def iP(dst:Option Tmp)(op:Op)(t:TypeId):Oper:={dst,op,type:=t,pos:= "",after:=#[],guard:=none}
abbrev cE:FuncId:=54
abbrev nCC:FuncId:=153
def cA:Code->Code
 |.seq _ b=>b
 |c=>c
noncomputable def cM:Code:=cA (cA (cA (cA (cA (f54.body.getD .skip)))))
def auH(r:Nat)(ops:Array Oper)(t:Tmp):Code:=.seq (.region r ops false) (.cond (.tmp t) .skip (.refuse ""))
def abg(r:Nat)(ops:Array Oper)(t:Tmp):Code:=.seq (.region r ops false) (.cond (.tmp t) (.refuse "") .skip)
def abh(d:Tmp)(x y:Operand):Oper:=iP (some d) (.binOp .lss 3 x y 3) 4
def auI(d:Tmp)(x y:Operand):Oper:=iP (some d) (.binOp .eql 3 x y 3) 4
def auJ(d:Tmp)(x:Operand):Oper:=iP (some d) (.binOp .mul 3 x (.const (.int .i64 1)) 3) 3
def auK(d:Tmp)(x:Operand):Oper:=iP (some d) (.binOp .add 3 x (.const (.int .i64 1)) 3) 3
def ark(d:Tmp)(x:Tmp)(ty:TypeId):Oper:=iP (some d) (.call ⟨.builtin .len,#[.tmp x],#[ty]⟩) 3
def auL(d:Tmp)(x:Tmp)(ty:TypeId):Oper:=iP (some d) (.call ⟨.builtin .cap,#[.tmp x],#[ty]⟩) 3
def ao6(d:Tmp)(n:Int):Oper:=iP (some d) (.assign (.const (.int .i64 n))) 3
abbrev kOp(n:Int):Operand:=.const (.int .i64 n)
def awM:Array Oper:=#[
  iP (some 6) (.assign (.const (.slice none 0 0))) 83,
  iP (some 7) (.assign (.const (.bool false))) 4,
  abh 16 (.tmp 0) (kOp 1)]
def awN:Array Oper:=#[abh 16 (kOp 99) (.tmp 0)]
def awO:Array Oper:=#[
  iP (some 16) (.load 185 (.global 1)) 185,
  iP (some 16) (.load 185 (.global 2)) 185,
  ark 16 1 23,auL 18 1 23,ao6 20 0,
  abh 19 (kOp 9223372036854775807) (.tmp 18)]
def awP:Array Oper:=#[abh 19 (.tmp 18) (.tmp 16)]
def awQ:Array Oper:=#[abh 21 (.tmp 20) (.tmp 16)]
def awR:Array Oper:=#[
  iP (some 23) (.indexAddr 23 (.tmp 1) (.tmp 20)) 0,
  iP (some 24) (.load 36 (.tmp 23)) 36,
  iP (some 25) (.field 36 (.tmp 24) 0) 3,
  auJ 26 (.tmp 25),auI 22 (.tmp 26) (.tmp 25)]
def awS:Array Oper:=#[
  iP (some 27) (.field 36 (.tmp 24) 1) 34,
  ark 28 27 34,auL 3 27 34,abh 4 (.tmp 28) (kOp 1)]
def awT:Array Oper:=#[abh 4 (kOp 9223372036854775807) (.tmp 3)]
def awU:Array Oper:=#[abh 4 (.tmp 3) (.tmp 28)]
def aAs:Array Oper:=#[ao6 5 0]
def awV:Array Oper:=#[abh 4 (.tmp 5) (.tmp 28)]
def awW:Array Oper:=#[
  iP (some 9) (.indexAddr 34 (.tmp 27) (.tmp 5)) 0,
  iP (some 10) (.load 63 (.tmp 9)) 63,
  iP (some 11) (.field 63 (.tmp 10) 0) 3,
  auJ 13 (.tmp 11),auI 15 (.tmp 13) (.tmp 11)]
def awX:Array Oper:=#[
  iP (some 26) (.field 63 (.tmp 10) 1) 9,
  ark 25 26 9,abh 15 (kOp 9223372036854775807) (.tmp 25)]
def awY:Array Oper:=#[auK 22 (.tmp 5),iP (some 5) (.move (.tmp 22)) 3]
def awZ:Array Oper:=#[auK 22 (.tmp 20),iP (some 20) (.move (.tmp 22)) 3]
def arl:Array Oper:=#[ark 16 2 37,auL 18 2 37,abh 19 (kOp 2147483647) (.tmp 16)]
def arn:Array Oper:=#[abh 19 (kOp 9223372036854775807) (.tmp 18)]
def aro:Array Oper:=#[abh 19 (.tmp 18) (.tmp 16)]
def anA:Array Oper:=#[
  iP (some 27) (.makeSlice 130 (.tmp 16) (.tmp 16)) 130,
  ao6 28 0]
def aw0:Array Oper:=#[abh 26 (.tmp 28) (.tmp 16)]
def aw1:Array Oper:=#[
  iP (some 25) (.indexAddr 37 (.tmp 2) (.tmp 28)) 0,
  iP (some 20) (.load 3 (.tmp 25)) 3,
  auJ 22 (.tmp 20),auI 21 (.tmp 22) (.tmp 20)]
def ai9:Array Oper:=#[
  iP (some 24) (.call ⟨.value (.func 86),#[.tmp 0,.tmp 1,.tmp 20],#[3,23,3]⟩) 141,
  iP (some 23) (.indexAddr 130 (.tmp 27) (.tmp 28)) 0,
  iP none (.store 141 (.tmp 23) (.tmp 24)) 0]
def aja:Array Oper:=#[auK 22 (.tmp 28),iP (some 28) (.move (.tmp 22)) 3]
def ajb:Array Oper:=#[
  iP (some 17) (.assign (.tmp 27)) 130,
  iP (some 8) (.alloc 130) 0,
  iP none (.store 130 (.tmp 8) (.tmp 17)) 0]
def cQ:List Nat:=[3,4,5,9,10,11,13,15,16,18,19,20,21,22,23,24,25,26,27,28]
def ady:Array Oper:=⟨cQ.map λt=>ao6 t 0⟩
def abi:Code:=.seq (.region 70 awV false) (.seq (.cond (.tmp 4) .skip (.exit 52)) (.seq (auH 71 awW 15) (.seq (abg 72 awX 15) (.region 73 awY false))))
def abj:Code:=.seq (.region 60 awQ false) (.seq (.cond (.tmp 21) .skip (.exit 51)) (.seq (auH 61 awR 22) (.seq (abg 62 awS 4) (.seq (abg 63 awT 4) (.seq (abg 64 awU 4) (.seq (.region 65 aAs false)
 (.seq (.block 52 (.loop abi)) (.region 66 awZ false))))))))
def nk:Code:=.seq (.region 80 aw0 false) (.seq (.cond (.tmp 26) .skip (.exit 53)) (.seq (auH 81 aw1 21) (.seq (.region 82 ai9 false) (.region 83 aja false))))
noncomputable def kR:Code:=.seq (abg 50 awM 16) (.seq (abg 51 awN 16) (.seq (abg 52 awO 19) (.seq (abg 53 awP 19) (.seq (.block 51 (.loop abj))
 (.seq (abg 54 arl 19) (.seq (abg 55 arn 19) (.seq (abg 56 aro 19) (.seq (.region 57 anA false) (.seq (.block 53 (.loop nk)) (.seq (.region 58 ajb false) (.seq (.region 59 ady false) cM)))))))))))
def pX:Array Oper:=#[
  iP none (.call ⟨.builtin .unsafeSlice,#[.tmp 0,.const (.int .i64 1)],#[181,3]⟩) 0,
  iP (some 4) (.fieldAddr 183 (.tmp 0) 0) 0,
  iP (some 5) (.load 181 (.tmp 4)) 181,
  iP (some 6) (.binOp .eql 181 (.tmp 5) (.const (.pointer none)) 181) 4]
def ahD:Array Oper:=#[iP none (.store 181 (.tmp 4) (.tmp 0)) 0]
def als:Array Oper:=#[
  iP (some 7) (.fieldAddr 183 (.tmp 5) 0) 0,
  iP none (.store 181 (.tmp 7) (.const (.pointer none))) 0,
  iP (some 8) (.load 181 (.tmp 4)) 181,
  iP (some 9) (.binOp .eql 181 (.tmp 8) (.const (.pointer none)) 181) 4]
def og:Code:=
 .seq (.region 0 pX false)
 (.seq (.cond (.tmp 6) .skip (.seq (.region 2 als false) (.cond (.tmp 9) .skip (.refuse ""))))
 (.seq (.region 1 ahD false) .ret))
noncomputable def qFA(β:Bool):Func:={f54 with body:=some (if β then kR else .refuse "")}
noncomputable def qCC:Func:={f153 with body:=some og}
noncomputable def pf(fn:Func):Func:={fn with body:=fn.body.map gP}
noncomputable def np(β:Bool):Array Func:=((prog.funcs.map pf).setIfInBounds cE (qFA β)).setIfInBounds nCC qCC
noncomputable def ah(β:Bool):Program:={prog with funcs:=np β}
section
variable (P:Program) (fs:Array Func)
def kS(t:TypeId):({P with funcs:=fs}:Program).info? t=P.info? t:=rfl
def cJ(t:TypeId):({P with funcs:=fs}:Program).underlying t=P.underlying t:=rfl
def aec:({P with funcs:=fs}:Program).depth=P.depth:=rfl
def aed(t:TypeId):({P with funcs:=fs}:Program).cellsOf t=P.cellsOf t:=rfl
def ahE(t:TypeId):({P with funcs:=fs}:Program).bytesOf t=P.bytesOf t:=rfl
def ahF:∀(d:Nat) (t:TypeId),({P with funcs:=fs}:Program).eqGuardType d t=P.eqGuardType d t
 |0,_=>rfl
 |d+1,t=>by
  unfold Program.eqGuardType;rw[cJ];simp only[ahF d]
def acd:∀(d:Nat) (t:TypeId) (n:Nat),byteOfCell {P with funcs:=fs} d t n=byteOfCell P d t n
 |0,_,_=>rfl
 |d+1,t,n=>by
  unfold byteOfCell;rw[cJ];simp only[aed,ahE,acd d];rfl
def ace:∀(d:Nat) (t:TypeId) (n:Nat),cellOfByte {P with funcs:=fs} d t n=cellOfByte P d t n
 |0,_,_=>rfl
 |d+1,t,n=>by
  unfold cellOfByte;rw[cJ];simp only[aed,ahE,ace d];rfl
def arp(d:Nat)(e:TypeId)(c o:Nat)(b:Int):cellAtBytes {P with funcs:=fs} d e c o b=cellAtBytes P d e c o b:=by
 unfold cellAtBytes;simp only[aed,ahE,acd,ace];rfl
def aee(t:TypeId):({P with funcs:=fs}:Program).stoodInHeld t=P.stoodInHeld t:=by
 have b:∀(d:Nat) (t u:TypeId),({P with funcs:=fs}:Program).alikeButTags d t u=P.alikeButTags d t u:=by
  intro d
  induction d with
  |zero=>intro t u;rfl
  |succ d a=>
   intro t u;unfold Program.alikeButTags;simp only[kS,a]
 unfold Program.stoodInHeld Program.stoodInAs;simp only[cJ,kS,aec,b];rfl
def agv(d:Departure):({P with funcs:=fs}:Program).follows d=P.follows d:=rfl
def arq(d:Nat)(e:TypeId)(c o:Nat)(u:TypeId)(n:Nat):liesAt {P with funcs:=fs} d e c o u n=liesAt P d e c o u n:=by
 have g:∀(d:Nat) (t u:TypeId),sameLayout {P with funcs:=fs} d t u=sameLayout P d t u:=by
  intro d
  induction d with
  |zero=>intro t u;rfl
  |succ d b=>
   intro t u;unfold sameLayout;simp only[cJ,aee,b];rfl
 have f:∀(a:TypeId->Bool) (d:Nat) (e:TypeId) (c o n:Nat),rowAt {P with funcs:=fs} a d e c o n=rowAt P a d e c o n:=by
  intro a d
  induction d with
  |zero=>intro e c o n;rfl
  |succ d b=>
   intro e c o n;unfold rowAt;simp only[cJ,aee,aed,b];rfl
 induction d generalizing e c o u n with
 |zero=>rfl
 |succ d b=>
  unfold liesAt;simp only[cJ,g,f,b,aec]
end
def dt(v:Value):Prop:=∀a:Ren,VR a v v
def bW.diag{ρ:Ren}:∀{l b:List Value},bW ρ l b->l=b->∀c∈l,VR ρ c c
 |_,_,.nil,_,c,a=>by cases a
 |_,_,.cons x y,e,c,a=>by
  simp only[ql] at e;obtain⟨rfl,e⟩:=e;rcases mu.1 a with rfl|a
  .exact x
  .exact y.diag e c a
def dt.cells(h:dt v):∀c∈v.cells.toList,dt c:=λc a b=>(h b).cells.diag rfl c a
def dt.agg{c:Array Value}(h:∀v∈c.toList,dt v):dt (.agg c):=λa=>.agg (bW.lq λv b=>h v b a)
def StI{β:Type}(I:β->Prop):ForInStep β->Prop
 |.done b=>I b
 |.yield b=>I b
def agw{e β:Type}{I:β->Prop}:∀(l:List e) {b c:β} {f:e->β->Option (ForInStep β)},forIn l b f=some c->I b->(∀a b r,I b->f a b=some r->StI I r)->I c
 |[],b,c,f,h,hb,_=>by
  rw[uq] at h;obtain rfl:=dq h;exact hb
 |a::l,b,c,f,h,hb,hf=>by
  rw[uh] at h;cases d:f a b with
  |none=>rw[d] at h;cases h
  |some r=>
   rw[d] at h;have:=hf a b r hb d;cases r with
   |done x=>
    obtain rfl:=dq h;exact this
   |yield x=>exact agw l h this hf
def ajc(hi:∀t i v,O t=some i->i.zero=some v->dt v){E:Array Field}(h:Made.reckonStruct O E=some i):∀v,i.zero=some v->dt v:=by
 unfold Made.reckonStruct at h;dsimp only at h;obtain⟨s,A,h⟩:=ph.1 h;rw[<-tI] at A;have w:=agw (I:=λs:Array Field×Nat×Nat×Nat×Nat×Bool×Bool×Option (Array Value)×String=>∀k,s.2.2.2.2.2.2.2.1=some k->∀v∈k.toList,dt v) _ A (λk e v l=>by
  obtain rfl:=dq e;cases l) λf B r D g=> ?_
 .intro v l;have y:i.zero=s.2.2.2.2.2.2.2.1.map Value.agg:=by
   split at h<;>(obtain rfl:=dq h;rfl)
  rw[y] at l;cases u:s.2.2.2.2.2.2.2.1 with
  |none=>rw[u] at l;cases l
  |some k=>
   rw[u] at l;obtain rfl:=dq l;exact dt.agg (w k u)
 .obtain⟨j,F,g⟩:=ph.1 g;have m:∀k,(if B.2.1+j.size>Made.mostCells then none else do
     let a<-B.2.2.2.2.2.2.2.1
     let b<-j.zero
     pure (a++b.cells):Option (Array Value))=some k->∀v∈k.toList,dt v:=λk e v l=>by
   split at e
   .cases e
   .obtain⟨a,G,e⟩:=ph.1 e;obtain⟨b,o,e⟩:=ph.1 e;obtain rfl:=dq e;rw[qi,mx] at l;rcases l with l|l
    .exact D a G v l
    .exact(hi _ _ _ F o).cells v l
  have n:∀(z:Option (Array Value)) (a:Array Field) (b c d e:Nat) (p q:Bool) (x:String),(∀k,z=some k->∀v∈k.toList,dt v)->(some (ForInStep.yield (a,b,c,d,e,p,q,z,x)):Option (ForInStep (Array Field×Nat×Nat×Nat×Nat×Bool×Bool×Option (Array Value)×String)))=some r->
    StI (λb=>∀k,b.2.2.2.2.2.2.2.1=some k->∀v∈k.toList,dt v) r:=λz a b c d e p q x y h=>by
   obtain rfl:=dq h;exact y
  split at g
  .cases g
  .split at g
   .cases g
   .split at g
    .obtain⟨C, -,g⟩:=ph.1 g;by_cases o:j.bytes=0
     .rw[du o] at g;exact n _ _ _ _ _ _ _ _ _ m g
     .rw[be o] at g;exact n _ _ _ _ _ _ _ _ _ m g
    .obtain⟨C, -,g⟩:=ph.1 g;by_cases o:j.bytes=0
     .rw[du o] at g;exact n _ _ _ _ _ _ _ _ _ m g
     .rw[be o] at g;exact n _ _ _ _ _ _ _ _ _ m g
def ao7(hi:∀t i v,O t=some i->i.zero=some v->dt v){d:TypeDesc}(h:Made.reckon O d=some i):∀v,i.zero=some v->dt v:=by
 have f:∀(d:TypeDesc) (s:String) (z:Value) (c:Bool) (b:Nat),dt z->Made.word d s z c b=i->∀v,i.zero=some v->dt v:=λd s z c b p e v a=>by
  subst e;obtain rfl:=dq a;exact p
 unfold Made.reckon at h;cases d with
 |struct u=>exact ajc hi h
 |pointer e=>
  obtain⟨j,l,h⟩:=ph.1 h;have fin:∀{o:Option String},(do pure (Made.word (.pointer e) ("*" ++(<-o)) (.pointer none) true))=some i->∀v,i.zero=some v->dt v:=λ{o} h=>by
   obtain⟨s,g,h⟩:=ph.1 h;exact f _ _ _ _ _ (λ_=>.pointer .none) (dq h)
  split at h
  .cases h
  .split at h
   .cases h
   .exact fin h
  .exact fin h
 |slice e=>
  obtain⟨j,l,h⟩:=ph.1 h;obtain⟨s,g,h⟩:=ph.1 h;exact f _ _ _ _ _ (λ_=>.slice .none 0 0) (dq h)
 |map k e=>
  obtain⟨j,l,h⟩:=ph.1 h;obtain⟨s,g,h⟩:=ph.1 h;obtain⟨j,l,h⟩:=ph.1 h;obtain⟨s,g,h⟩:=ph.1 h;exact f _ _ _ _ _ (λ_=>.map .none) (dq h)
 |chan k e=>
  obtain⟨j,l,h⟩:=ph.1 h;obtain⟨s,g,h⟩:=ph.1 h;exact f _ _ _ _ _ (λ_=>.chan .none) (dq h)
 |func w q v=>
  obtain⟨s,g,h⟩:=ph.1 h;exact f _ _ _ _ _ (λ_=>.nilFunc) (dq h)
 |array n e=>
  obtain⟨j,l,h⟩:=ph.1 h;obtain⟨s,g,h⟩:=ph.1 h;obtain rfl:=dq h;intro v a;dsimp only at a;split at a
  .cases a
  .split at a
   .obtain rfl:=dq a;exact dt.agg λv a=>by cases a
   .cases p:j.zero with
    |none=>rw[p] at a;cases a
    |some z=>
     rw[p] at a;obtain rfl:=dq a;refine dt.agg λv a=>(hi _ _ _ l p).cells v ?_;simp only[sx,Array.mem_flatten] at a;obtain⟨r,m,a⟩:=a;rw[Array.mem_replicate] at m;rw[<-m.2];exact sx.2 a
 |_=>cases h
def ao8(c:∀(t:Nat) (i:TypeInfo) (v:Value),P.types[t]?=some i->i.zero=some v->dt v):∀t i v,P.info? t=some i->i.zero=some v->dt v:=by
 have b:∀(f:Nat) t i v,Made.infoAt P.toTables f t=some i->i.zero=some v->dt v:=by
  intro f
  induction f with
  |zero=>intro t i v h;cases h
  |succ f e=>
   intro t i v h a;unfold Made.infoAt at h;split at h
   .exact c t i v h a
   .obtain⟨d,hd,h⟩:=ph.1 h;exact ao7 e h v a
 intro t i v h a;unfold Tables.info? at h;split at h
 .exact c t i v h a
 .exact b _ t i v h a
noncomputable def zOk(t:Nat):Bool:=match prog.types[t]? with
 |some i=>match i.zero with
  |some v=>oV (λ_=>false) 6 v
  |none=>true
 |none=>true
def auN:(List.range prog.types.size).all zOk=true:=by kernel_rfl
def ac1:∀(d:Nat) (v:Value),oV (λ_=>false) d v=true->dt v
 |0,v,h=>by cases h
 |d+1,v,h=>by
  have g:∀l:List Value,l.all (oV (λ_=>false) d)=true->∀e:Ren,bW e l l:=λl i e=>bW.lq λv j=>ac1 d v (lE.1 i v j) e;intro e;cases v with
  |bool b=>exact .bool b
  |int k n=>exact .int k n
  |string s=>exact .string s
  |nilFunc=>exact .nilFunc
  |nilIface=>exact .nilIface
  |pointer a=>cases a with
   |none=>exact .pointer .none
   |some a=>cases h
  |slice a n c=>cases a with
   |none=>exact .slice .none n c
   |some a=>cases h
  |map a=>cases a with
   |none=>exact .map .none
   |some a=>cases h
  |chan a=>cases a with
   |none=>exact .chan .none
   |some a=>cases h
  |func f a c=>
   unfold oV at h;simp only[ff] at h;cases f<;>(have:=h.1.1;cases this)
  |iface t v=>exact .iface t (ac1 d v h e)
  |agg c=>exact .agg (g _ h e)
  |tuple c=>exact .tuple (g _ h e)
  |float|complex=>cases h
def ayc:∀t i v,prog.info? t=some i->i.zero=some v->dt v:=ao8 λt i v h b=>by
 have a:=(dl.1 h).1;have:=lE.1 auN t (qz.2 a);unfold zOk at this;rw[h] at this;dsimp only at this;rw[b] at this;exact ac1 6 v this
noncomputable def anB(fn:Func):Bool:=!(fn.name == "runtime.NumGoroutine")
def ajd:prog.funcs.toList.all anB=true:=by kernel_rfl
def agx{a:FuncId->Bool}{o:Op}(h:mY P a l o=true)(g:Nat):o ≠ .ready g:=λe=>by
 subst e;unfold mY at h;simp at h
def afU(P:Program)(t:FuncId->Bool)(r:List Nat)(s:TypeId):∀c:Code,readies (bU P t r s c)=[]:=by
 intro c
 induction c with
 |region id u draw=>
  unfold bU;have m:∀l:List Oper,(∀o∈l,∀g,o.op ≠ .ready g)->(l.filterMap λo=>match o.op with|.ready g=>some g|_=>none)=[]:=by
   intro l v;rw[List.filterMap_eq_nil_iff];intro o k;split
   .rename_i g e;exact absurd e (v o k g)
   .rfl
  split
  .rename_i h;exact m _ λo k g=>agx (lE.1 h o k) g
  .split
   .rename_i h;refine m _ λo k g e=> ?_;rw[qG,pe] at k;obtain⟨p,w,rfl⟩:=k;have j:=lE.1 h p w;have q:(aaG t r s p).op=p.op:=by unfold aaG;split<;>rfl
    rw[q] at e;simp only[rm] at j;rcases j with j|j
    .exact agx j g e
    .rw[e] at j;cases j
   .rfl
 |seq a b i d=>unfold bU readies;rw[i,d];rfl
 |cond c a b i d=>
  unfold bU;split
  .unfold readies;rw[i,d];rfl
  .rfl
 |rangeFunc f x a b i d=>
  unfold bU;split
  .unfold readies;rw[i,d];rfl
  .rfl
 |block id a n=>unfold bU readies;exact n
 |loop a n=>unfold bU readies;exact n
 |scope a n=>unfold bU readies;exact n
 |_=>rfl
def auO(P:Program)(m:Array Func)(k:FuncId->Bool)(i:List Nat)(j:TypeId):∀c:Code,bU {P with funcs:=m} k i j c=bU P k i j c:=by
 intro c
 induction c with
 |region id l draw=>rfl
 |seq a b e d=>unfold bU;rw[e,d]
 |cond c a b e d=>unfold bU;rw[e,d]
 |rangeFunc f n a b e d=>unfold bU;rw[e,d]
 |block id a g=>unfold bU;rw[g]
 |loop a g=>unfold bU;rw[g]
 |scope a g=>unfold bU;rw[g]
 |_=>rfl
section
variable (β:Bool)
def ac2:(ah β).funcs[nCC]?=some qCC:=by
 have:nCC<(prog.funcs.map pf).size:=by rw[tT];exact(dl.1 func153).1
 show(((prog.funcs.map pf).setIfInBounds cE (qFA β)).setIfInBounds nCC qCC)[nCC]?=_;rw[qk (by simpa using this)]
def ac3:(ah β).funcs[cE]?=some (qFA β):=by
 have:cE<(prog.funcs.map pf).size:=by rw[tT];exact(dl.1 func54).1
 show(((prog.funcs.map pf).setIfInBounds cE (qFA β)).setIfInBounds nCC qCC)[cE]?=_;rw[lc (by decide),qk this]
def alu{f:Nat}(a:f≠nCC)(b:f≠cE):(ah β).funcs[f]?=(prog.funcs[f]?).map pf:=by
 show(((prog.funcs.map pf).setIfInBounds cE (qFA β)).setIfInBounds nCC qCC)[f]?=_;rw[lc (sB a),lc (sB b),ry]
def ayd:(ah β).funcs.size=prog.funcs.size:=by
 show(((prog.funcs.map pf).setIfInBounds cE (qFA β)).setIfInBounds nCC qCC).size=_;simp
end
def aAt:gH nCC=true:=by unfold gH;kernel_rfl
def alv:readies kR=[]:=by kernel_rfl
def aAu:gH cE=true:=by unfold gH;kernel_rfl
def aAv:prog.follows .staticDataAhead=true:=by kernel_rfl
def aAw:prog.underlying 3=some (.int .i64):=by kernel_rfl
def anC:f153.body.isSome=true:=by kernel_rfl
def anD:f54.body.isSome=true:=by kernel_rfl
section
variable (β:Bool)
def ars(g:Nat):(ah β).stepOf g=none:=by
 unfold Program.stepOf;rw[Array.findIdx?_eq_none_iff];intro fn b;obtain⟨f,a⟩:=Array.getElem?_of_mem b;by_cases e:f=nCC
 .subst e;rw[ac2] at a;obtain rfl:=dq a;show((some og).map readies).any (·.contains g)=false;rfl
 by_cases d:f=cE
 .subst d;rw[ac3] at a;obtain rfl:=dq a;cases β with
  |true=>
   show(readies kR).contains g=false;rw[alv];rfl
  |false=>rfl
 rw[alu β e d] at a;obtain⟨i,j,rfl⟩:=jt.1 a;show((i.body.map gP).map readies).any (·.contains g)=false;cases i.body with
 |none=>rfl
 |some c=>
  show(readies (gP c)).contains g=false;have:readies (gP c)=[]:=by unfold gP;exact afU _ _ _ _ c
  rw[this];rfl
def cH{f:Nat}{fn:Func}(h:prog.funcs[f]?=some fn):(fn.name == "runtime.NumGoroutine")=false:=by
 have:=lE.1 ajd fn (sx.2 (qI h));unfold anB at this;simpa using this
def ahG(f:FuncId)(fn:Func)(h:(ah β).funcs[f]?=some fn):∃b,prog.funcs[f]?=some b/\FnR (gH f) fn b:=by
 by_cases k:f=nCC
 .subst k;rw[ac2] at h;obtain rfl:=dq h;have g:=cH func153;refine⟨_,func153,rfl,g,rfl,rfl,rfl,λe=>(by cases e),λc _=> ?_⟩;obtain⟨d,a⟩:=rM.1 anC;exact⟨d,a,λe=>by rw[aAt] at e;cases e⟩
 by_cases j:f=cE
 .subst j;rw[ac3] at h;obtain rfl:=dq h;have g:=cH func54;refine⟨_,func54,rfl,g,rfl,rfl,rfl,λe=>(by cases e),λc _=> ?_⟩;obtain⟨d,a⟩:=rM.1 anD;exact⟨d,a,λe=>by rw[aAu] at e;cases e⟩
 rw[alu β k j] at h;obtain⟨b,i,rfl⟩:=jt.1 h;have g:=cH i;refine⟨b,i,rfl,g,rfl,rfl,rfl,λe=> ?_,λc e=> ?_⟩
 .have e:b.body.map gP=none:=e;have:b.body=none:=by simpa using e
  unfold pf;rw[this];cases b;dsimp only at this;subst this;rfl
 .have e:b.body.map gP=some c:=e;obtain⟨d,a,rfl⟩:=jt.1 e;exact⟨d,a,λ_=>rfl⟩
def mM:Twin (ah β) prog where
 info t:=(kS prog _ t).symm
 under t:=(cJ prog _ t).symm
 rt:=rfl
 depth:=(aec prog _).symm
 globals:=by unfold gN;exact⟨rfl,rfl⟩
 zero t i v h hv ρ:=ayc t i v ((kS prog _ t).symm.trans h) hv ρ
 stood t:=(aee prog _ t).symm
 awz:=rfl
 cellAt d e c o b:=(arp prog _ d e c o b).symm
 lies d e c o u n:=(arq prog _ d e c o u n).symm
 akR d t:=(ahF prog _ d t).symm
 follows d:=(agv prog _ d).symm
 pc:=by
  unfold gP
  funext c
  exact(auO prog _ gA gL gB c).symm
 atZ e h:=by
  have a:gB=3:=by unfold gB;rfl
  rw[a] at h;have:=((cJ prog _ 3).symm.trans h);rw[aAw] at this;cases this
 func:=ahG β
 aiA:=(ayd β).symm
 nX:=⟨(agv prog _ _).trans aAv,ars β⟩
end
def ahH{r:Y->Y->Prop}{a:Y}(h:∀f:Nat->Y,f 0=a->¬ ∀n,r (f (n+1)) (f n)):Acc r a:=by
 refine qL λe=> ?_;have step:∀x:{x:Y // ¬Acc r x},∃y:{x:Y // ¬Acc r x},r y.1 x.1:=λx=>qL λd=>x.2 ⟨_,λy c=>qL λb=>d ⟨⟨y,b⟩,c⟩⟩
 let f:Nat->{x:Y // ¬Acc r x}:=λn=>Nat.rec ⟨a,e⟩ (λ_ x=>(step x).choose) n
 exact h (λn=>(f n).1) rfl λn=>(step (f n)).choose_spec
def oh(g:Goroutine)(w:World):Machine:={world:=w,gs:=#[g],rest:={timers:=#[],alone:=none,slice:=none}}
def iA(h:oh g w=oh g' w'):g=g'/\w=w':=by
 unfold oh at h;simp only[Machine.mk.injEq,Array.mk.injEq,ql,qx] at h;exact⟨h.2,h.1⟩
def aje(a:g.status=.running):move P (oh g w)=.goroutine (oh g w) 0:=by
 simp[move,ask,askOn,oh,runnable_eq,due,ahead,Goroutine.canRun,wj,choose,pure,Sem.run,Question.forced,a]
def dR(a:g.status=.running)(h:stepG P true g w=.go g' w' es):step P (oh g w)=.next (oh g' w'):=by
 rw[step,stepT,aje a];simp[runT,oh,Array.swapAt!,h]
def cF{o:Outcome}(a:g.status=.running)(h:stepG P true g w=.ended o w' es):step P (oh g w)=.ended o w':=by
 rw[step,stepT,aje a];simp[runT,oh,Array.swapAt!,h]
def ac4(c:g.status=.blocked):∃o b,step P (oh g w)=.ended o b:=by
 rw[step,stepT];have:∃s a,move P (oh g w)=.machine s a/\∃o b,s=.ended o b:=by
  simp only[move,ask,askOn,oh,runnable_eq,due,ahead,Goroutine.canRun,c];simp[wj,choose,pure,Sem.run,Question.forced,c];generalize endWith _ _ _ _=q;cases q<;>exact⟨_,⟨_,rfl⟩,_,_,rfl⟩
 obtain⟨s,a,d,o,b,rfl⟩:=this;rw[d];exact⟨o,b,rfl⟩
def ac5(a:g.status=.waiting):step P (oh g w)=.next (oh g w):=by
 rw[step,stepT];have:move P (oh g w)=.machine (.next (oh g w)):=by
  simp[move,ask,askOn,oh,runnable_eq,due,ahead,Goroutine.canRun,wj,choose,pure,Sem.run,Question.forced,a]
 rw[this]
def kT(P:Program):Frame:={fn:=P.funcs.size,tmps:=#[],todo:=[.call ⟨.nil,#[]⟩ false "fmt's door" #[]],defers:=[],mode:=.run,kind:=.normal}
def art(base:List Frame)(g:Goroutine):Prop:=g.callers=base/\g.frame.mode=.returning/\g.frame.defers=[]/\g.status=.running/\g.dying=none
section
variable {P:Program}
def abk{g:Goroutine}{w:World}(h:g.status=.blocked\/g.status=.waiting):∀n a b,runN P n (oh g w)=.next (oh a b)->¬art [kT P] a
 |0,a,b,hr,hf=>by
  simp only[runN,qQ] at hr;obtain⟨rfl,rfl⟩:=iA hr;rcases h with h|h<;>rw[hf.2.2.2.1] at h<;>cases h
 |n+1,a,b,hr,hf=>by
  unfold runN at hr;rcases h with h|h
  .obtain⟨o,d,c⟩:=ac4 (P:=P) (w:=w) h;rw[c] at hr;cases hr
  .rw[ac5 h] at hr;exact abk (.inr h) n a b hr hf
def adz:∀(n:Nat) {a:Frame} {w:World} {d:Dying} {f:Fatal},d.fatal=some f->d.calling=false->∀b g,runN P n (oh ⟨a,[],.running,some d,none⟩ w)=.next (oh b g)->¬art [kT P] b
 |0,a,w,d,f,h1,h2,b,g,hr,hf=>by
  simp only[runN,qQ] at hr;obtain⟨rfl,rfl⟩:=iA hr;have:=hf.2.2.2.2;cases this
 |n+1,a,w,d,f,h1,h2,b,g,hr,hf=>by
  unfold runN at hr;have m:(∃o c i,stepG P true ⟨a,[],.running,some d,none⟩ w=.ended o c i)\/
    ∃k l c i,(k=.running\/k=.blocked)/\stepG P true ⟨a,[],.running,some d,none⟩ w=.go ⟨a,[],k,some {d with fatal:=some l},none⟩ c i:=by
   obtain⟨r,p,e,j,s,hand,fatal⟩:=d;dsimp only at h1 h2;subst h1 h2;simp only[stepG,die,writeOn];split
   .exact .inl ⟨_,_,_,rfl⟩
   .split
    .exact .inr ⟨_,_,_,_,.inl rfl,rfl⟩
    .exact .inr ⟨_,_,_,_,.inr rfl,rfl⟩
    .exact .inl ⟨_,_,_,rfl⟩
    .exact .inl ⟨_,_,_,rfl⟩
  rcases m with⟨o,c,i,h⟩|⟨k,l,c,i,q,h⟩
  .rw[cF rfl h] at hr;cases hr
  .rw[dR rfl h] at hr;rcases q with rfl|rfl
   .exact adz n (d:={d with fatal:=some l}) (f:=l) rfl h2 b g hr hf
   .exact abk (.inl rfl) n b g hr hf
def aru(e:∀x l,w.heap[b]?≠some (.deferred (some (x::l)))):(∃h c a,(Instr.takeDeferred b).runT P w #[]=(.halt h c,a))\/∃a,(Instr.takeDeferred b).runT P w #[]=(.ok [] {w with heap:=w.heap.setIfInBounds b (.deferred none)},a):=by
 unfold Instr.takeDeferred;show(∃h c a,(Sem.getObj b λo=>_).runT P w #[]=_)\/∃a,(Sem.getObj b λo=>_).runT P w #[]=_;rw[Sem.runT];cases d:w.heap[b]? with
 |none=>exact .inl ⟨_,_,_,rfl⟩
 |some o=>
  cases o with
  |deferred q=>
   cases q with
   |none=>exact .inl ⟨_,_,_,rfl⟩
   |some l=>
    cases l with
    |cons x l=>exact absurd d (e x l)
    |nil=>
     refine .inr ⟨(#[].push ⟨.obj b,false,false⟩).push ⟨.obj b,true,false⟩, ?_⟩;show(Sem.setObj b (.deferred none) (Sem.pure [])).runT P w (#[].push ⟨.obj b,false,false⟩)=_;rw[Sem.runT,d];show(Sem.pure []).runT P {w with heap:=w.heap.setIfInBounds b (.deferred none)} _=_;rw[Sem.runT];rfl
  |_=>exact .inl ⟨_,_,_,rfl⟩
def wW(fr:Frame)(b:List PanicEntry):∃a,(fr.raise b).mode=.panicking a:=by
 unfold Frame.raise;split<;>exact⟨_,rfl⟩
def acf(fr:Frame)(a:List PanicEntry):(fr.raise a).defers=fr.defers:=by
 unfold Frame.raise;split<;>rfl
def alx(a:List PanicEntry):((kT P).raise a).catches P=true:=by
 have h:P.funcs[P.funcs.size]?=none:=by rw[qr];exact am _
 show(match P.funcs[P.funcs.size]?,[Item.call ⟨.nil,#[]⟩ false "fmt's door" #[]] with
  |none,.call _ _ resume _::_=>resume.startsWith "fmt's door"
  |_,_=>false)=true
 rw[h];show "fmt's door".startsWith "fmt's door" =true
 decide+kernel
def om:∀(n:Nat) {A:Frame} {i:List Frame} {w:World} {a:List PanicEntry},A.mode=.panicking a->((∀f∈A::i,lD w f.defers)\/False)->∀z B,runN P n (oh ⟨A,i++[kT P],.running,none,none⟩ w)=.next (oh z B)->¬art [kT P] z
 |0,A,i,w,a,hm,_,z,B,hr,hf=>by
  simp only[runN,qQ] at hr;obtain⟨rfl,rfl⟩:=iA hr;have:=hf.2.1;rw[hm] at this;cases this
 |n+1,A,i,w,a,hm,hd,z,B,hr,hf=>by
  replace hd:=hd.resolve_right id;unfold runN at hr;obtain⟨f,q,p,s,L,m,k⟩:=A;dsimp only at hm;subst hm;have C:stepG P true ⟨⟨f,q,p,s,.panicking a,m,k⟩,i++[kT P],.running,none,none⟩ w=unwind P true ⟨f,q,p,s,.panicking a,m,k⟩ (i++[kT P]) none w:=rfl;cases s with
  |cons d s=>
   obtain⟨b,rfl,I⟩:=hd _ (qC ..) d (qC ..);have F:(∃o j g,unwind P true ⟨f,q,p,⟨.collected b,#[]⟩::s,.panicking a,m,k⟩ (i++[kT P]) none w=.ended o j g)\/
     ∃g,unwind P true ⟨f,q,p,⟨.collected b,#[]⟩::s,.panicking a,m,k⟩ (i++[kT P]) none w=.go ⟨⟨f,q,p,s,.panicking a,m,k⟩,i++[kT P],.running,none,none⟩ {w with heap:=w.heap.setIfInBounds b (.deferred none)} g:=by
    rcases aru (P:=P) I with⟨h,j,g,e⟩|⟨g,e⟩
    .refine .inl ⟨.stuck "the deferred calls of a range-over-func loop have been taken" (Frame.pos P ⟨f,q,p,⟨.collected b,#[]⟩::s,.panicking a,m,k⟩),j,seen P f g, ?_⟩;unfold unwind;simp only[e];simp[GStep.after]
    .refine .inr ⟨seen P f g, ?_⟩;unfold unwind;simp only[e];simp[GStep.after]
   rcases F with⟨o,j,g,h⟩|⟨g,h⟩
   .rw[cF rfl (C.trans h)] at hr;cases hr
   .rw[dR rfl (C.trans h)] at hr;refine om n rfl (.inl λx u=> ?_) z B hr hf;have D:lD w x.defers:=by
     rcases mu.1 u with rfl|u
     .exact λd v=>hd _ (qC ..) d (qV _ v)
     .exact hd x (by simp[u])
    intro d v;obtain⟨c,rfl,K⟩:=D d v;exact⟨c,rfl,λy l e=>by
     change (w.heap.setIfInBounds b (.deferred none))[c]?=_ at e;rw[oR] at e;split at e
     .split at e
      .cases e
      .cases e
     .exact K y l e⟩
  |nil=>
   by_cases t:Frame.catches P ⟨f,q,p,[],.panicking a,m,k⟩=true
   .have h:∃o j g,unwind P true ⟨f,q,p,[],.panicking a,m,k⟩ (i++[kT P]) none w=.ended o j g:=by
     unfold unwind;simp only[t,qe];exact⟨_,_,_,rfl⟩
    obtain⟨o,j,g,h⟩:=h;rw[cF rfl (C.trans h)] at hr;cases hr
   .cases i with
    |nil=>
     have h:unwind P true ⟨f,q,p,[],.panicking a,m,k⟩ ([]++[kT P]) none w=.go ⟨(kT P).raise a,[],.running,none,none⟩ w #[]:=by
      unfold unwind;simp only[t,rH];rfl
     rw[dR rfl (C.trans h)] at hr;cases n with
     |zero=>
      simp only[runN,qQ] at hr;obtain⟨rfl,rfl⟩:=iA hr;have:=hf.1;cases this
     |succ n=>
      unfold runN at hr;obtain⟨G,r⟩:=wW (kT P) a;have E:∃o j g,stepG P true ⟨(kT P).raise a,[],.running,none,none⟩ w=.ended o j g:=by
       have H:stepG P true ⟨(kT P).raise a,[],.running,none,none⟩ w=unwind P true ((kT P).raise a) [] none w:=by
        simp only[stepG,r]
       rw[H];unfold unwind;have J:((kT P).raise a).defers=[]:=(acf _ _).trans rfl;rw[J];simp only[r,alx,qe];exact⟨_,_,_,rfl⟩
      obtain⟨o,j,g,E⟩:=E;simp only[cF rfl E] at hr;cases hr
    |cons c i=>
     have h:unwind P true ⟨f,q,p,[],.panicking a,m,k⟩ (c::i++[kT P]) none w=.go ⟨c.raise a,i++[kT P],.running,none,none⟩ w #[]:=by
      unfold unwind;simp only[t,rq];rfl
     rw[dR rfl (C.trans h)] at hr;obtain⟨G,r⟩:=wW c a;refine om n r (.inl λx u=> ?_) z B hr hf;rcases mu.1 u with rfl|u
     .rw[acf];exact hd c (by simp)
     .exact hd x (by simp[u])
def ao9{s:GStep}(h:nN [kT P] s):(∃o w a,s=.ended o w a)\/∃g w a,s=.go g w a/\∀n b e,runN P n (oh g w)=.next (oh b e)->¬art [kT P] b:=by
 cases h with
 |ended o w a=>exact .inl ⟨_,_,_,rfl⟩
 |stop h=>exact .inr ⟨_,_,_,rfl,abk h⟩
 |raised c hd=>exact .inr ⟨_,_,_,rfl,λn=>om n c (.inl hd)⟩
 |dying d f=>exact .inr ⟨_,_,_,rfl,λn=>adz n d f⟩
end
structure Cfg where
 l:List Frame
 w:World
 t:Tape
structure aeQ (P:Program) (c c1:Cfg):Prop where
 ne:c.l≠[]
 on:¬pR c.l
 drawn:c.w.drawn<=c1.w.drawn
 tape:∀i q,i<c.w.drawn->c1.t i q=c.t i q
 step:∃es,∀(base:List Frame) (t:Tape),(∀i q,i<c1.w.drawn->t i q=c1.t i q)->stepG P true (Gl c.l base) (c.w.dW t)=.go (Gl c1.l base) (c1.w.dW t) es
def kN(P:Program)(R:List Frame->World->Prop)(c:Cfg):Prop:=
 ∀t:Tape,(∀i q,i<c.w.drawn->t i q=c.t i q)->∃n a b,runN P n (oh (Gl c.l [kT P]) (c.w.dW t))=.next (oh (Gl a [kT P]) b)/\pR a/\R a b
section
variable {P:Program} {R:List Frame->World->Prop}
def jH{l:List Frame}(h:l≠[])(base:List Frame):(Gl l base).status=.running:=by
 cases l with
 |nil=>exact absurd rfl h
 |cons x a=>rfl
def ov{l base : List Frame}(h:l≠[])(a:l'≠[])(e:Gl l base=Gl l' base):l=l':=by
 cases l with
 |nil=>exact absurd rfl h
 |cons x c=>
  cases l' with
  |nil=>exact absurd rfl a
  |cons y b=>
   unfold Gl at e;simp only[Goroutine.mk.injEq,List.append_cancel_right_eq] at e;rw[e.1,e.2.1]
def pR.ne{l:List Frame}(h:pR l):l≠[]:=by
 obtain⟨a,rfl, -⟩:=h;exact λe=>by cases e
def pR.fin{l:List Frame}(h:pR l)(base:List Frame):art base (Gl l base):=by
 obtain⟨c,rfl,a,b, -⟩:=h;exact⟨rfl,a,b,rfl,rfl⟩
def kN.step{c c1:Cfg}(h:kN P R c)(a:aeQ P c c1):kN P R c1:=λt f=>by
 obtain⟨o,k⟩:=a.step;obtain⟨n,m,j,b,d,l⟩:=h t λi q g=>by
  rw[f i q (bd g a.drawn),a.tape i q g]
 cases n with
 |zero=>
  simp only[runN,qQ] at b;obtain⟨e, -⟩:=iA b;obtain rfl:=ov a.ne d.ne e;exact absurd d a.on
 |succ n=>
  unfold runN at b;rw[dR (jH a.ne _) (k [kT P] t f)] at b;exact⟨n,m,j,b,d,l⟩
def kN.acc{c:Cfg}(h:kN P R c):Acc (λw c=>aeQ P c w) c:=by
 classical
 refine ahH λf x a=> ?_;subst x;have t:∀{m n},m<=n->(f m).w.drawn<=(f n).w.drawn:=λ{m n} b=>by
  induction b with
  |refl=>exact am _
  |step _ p=>exact ap p (a _).drawn
 have l:∀{m n},m<=n->∀i q,i<(f m).w.drawn->(f n).t i q=(f m).t i q:=λ{m n} b=>by
  induction b with
  |refl=>exact λ_ _ _=>rfl
  |step r p=>exact λi q o=>((a _).tape i q (bd o (t r))).trans (p i q o)
 let T:Tape:=λi q=>if d:∃n,i<(f n).w.drawn then(f d.choose).t i q else 0
 have u:∀n i q,i<(f n).w.drawn->T i q=(f n).t i q:=λn i q o=>by
  have d:∃n,i<(f n).w.drawn:=⟨n,o⟩;show(if d:∃n,i<(f n).w.drawn then(f d.choose).t i q else 0)=_;rw[tP d];rcases Nat.le_total d.choose n with g|g
  .exact(l g i q d.choose_spec).symm
  .exact l g i q o
 have s:∀n,Go.step P (oh (Gl (f n).l [kT P]) ((f n).w.dW T))=.next (oh (Gl (f (n+1)).l [kT P]) ((f (n+1)).w.dW T)):=λn=>by
  obtain⟨B,z⟩:=(a n).step;exact dR (jH (a n).ne _) (z _ T (u (n+1)))
 have y:∀n k,runN P n (oh (Gl (f k).l [kT P]) ((f k).w.dW T))=.next (oh (Gl (f (k+n)).l [kT P]) ((f (k+n)).w.dW T)):=by
  intro n
  induction n with
  |zero=>intro k;rfl
  |succ n p=>
   intro k;unfold runN;rw[s k];simp only;rw[p (k+1),show k+1+n=k+(n+1) by omega]
 obtain⟨n,C,A,v,j, -⟩:=h T (u 0);rw[y n 0,qQ] at v;obtain⟨e, -⟩:=iA v;obtain rfl:=ov (a (0+n)).ne j.ne e;exact(a (0+n)).on j
def kN.fin{c:Cfg}(h:kN P R c)(u:pR c.l)(B:Extern.next "fmt's door" =none)(t:Tape)(z:∀i q,i<c.w.drawn->t i q=c.t i q):R c.l (c.w.dW t):=by
 obtain⟨n,J,D,a,g,C⟩:=h t z;cases n with
 |zero=>
  simp only[runN,qQ] at a;obtain⟨e,rfl⟩:=iA a;obtain rfl:=ov u.ne g.ne e;exact C
 |succ n=>
  exfalso;obtain⟨j,A,x,hd,p⟩:=u;rw[A] at a;have k:(∃o b d,stepG P true (Gl [j] [kT P]) (c.w.dW t)=.ended o b d)\/∃v b d,stepG P true (Gl [j] [kT P]) (c.w.dW t)=.go ⟨(kT P).finish v,[],.running,none,none⟩ b d:=by
   obtain⟨f,l,w,G,F,E,m⟩:=j;dsimp only at x hd p;subst x hd p;have y:stepG P true (Gl [⟨f,l,w,[],.returning,.normal,m⟩] [kT P]) (c.w.dW t)=unwind P true ⟨f,l,w,[],.returning,.normal,m⟩ [kT P] none (c.w.dW t):=rfl;rw[y];unfold unwind;dsimp only;cases I:P.funcs[f]? with
   |none=>exact .inr ⟨_,_,_,rfl⟩
   |some fn=>
    dsimp only;generalize (results fn l).runT P (c.w.dW t) #[]=q;obtain⟨r,d⟩:=q;cases r with
    |ok v b=>exact .inr ⟨v,b,_,rfl⟩
    |halt h b=>cases h<;>exact .inl ⟨_,_,_,rfl⟩
  unfold runN at a;rcases k with⟨o,b,d,e⟩|⟨v,b,d,e⟩
  .rw[cF rfl e] at a;cases a
  .rw[dR rfl e] at a;cases n with
   |zero=>
    simp only[runN,qQ] at a;obtain⟨e, -⟩:=iA a;obtain⟨H,rfl, -⟩:=g;have:=ga Goroutine.callers e;cases this
   |succ n=>
    unfold runN at a;have s:stepG P true ⟨(kT P).finish v,[],.running,none,none⟩ b=(Extern.next "fmt's door").elim (.ended (.stuck ("no extern row " ++ "fmt's door") (Frame.pos P ((kT P).finish v))) b #[]) λe=>stepG.apply P true ((kT P).finish v) [] none (e (#[].push v)) b:=rfl;rw[B] at s;simp only[cF rfl s] at a;cases a
end
section
variable {P P':Program} {R:List Frame->World->Prop} {ρ:Ren}
def sim(T:Twin P P')(X:aiF P P')(C:GlR ρ){c:Cfg}(m':Bool)(y:ja P ρ c.l l')(K:WR ρ c.w w')(x:¬pR c.l)(z:kN P R c) :
  ∃p k d m l f,aeQ P c p/\kN P R p/\ρ.Le k/\(∀base,stepG P' m' (Gl l' base) w'=.go (Gl d base) m f)/\WR k p.w m/\Kept ρ k c.w w' p.w m/\EvW c.w k l f/\GoR P P' k p.l d:=by
 obtain⟨a,D,H⟩:=ayb (P:=P) (P':=P') T X C true m' y K x;have b:c.l≠[]:=λe=>by rw[e] at y;cases y
 rcases H with H|⟨k,O,s,l,d,m,f,G,Q,M,F,J,N,I,L⟩
 .exfalso;have B:=H [kT P] (λi q=>if i<c.w.drawn then c.t i q else a i q) λi q r _=>be (by omega);obtain⟨n,U,V,j,v, -⟩:=z (λi q=>if i<c.w.drawn then c.t i q else a i q) λi q r=>du r;cases n with
  |zero=>
   simp only[runN,qQ] at j;obtain⟨e, -⟩:=iA j;obtain rfl:=ov b v.ne e;exact x v
  |succ n=>
   unfold runN at j;rcases ao9 B with⟨o,w,l,e⟩|⟨g,w,l,e,u⟩
   .rw[cF (jH b _) e] at j;cases j
   .rw[dR (jH b _) e] at j;exact u n _ _ j (v.fin _)
 .have A:aeQ P c ⟨O,s,λi q=>if i<c.w.drawn then c.t i q else a i q⟩:=
   ⟨b,x,by show c.w.drawn<=s.drawn;omega,λi q r=>du r,l,λbase t E=>G base t λi q r S=>by
    rw[E i q (by show i<s.drawn;omega)];exact be (by omega)⟩
  exact⟨_,k,d,m,l,f,A,z.step A,M,F,J,N,I,L⟩
end
section
variable {P P':Program} {ρ:Ren}
def adA:∀(n t:Nat) (acc:Array Value),(∀v∈acc.toList,dt v)->∀v∈(Extern.BytealgMakeNoZero.digits n t acc).toList,dt v
 |0,_,acc,h=>h
 |n+1,t,acc,h=>by
  unfold Extern.BytealgMakeNoZero.digits;refine adA n _ _ λv a=> ?_;rw[rY,mx] at a;rcases a with a|a
  .exact h v a
  .simp at a;subst a;exact λ_=>.int _ _
def acg(T:Twin P P')(i f:Array TypeId){a : Array Value}(h:dv ρ a Z):az P P' VR ρ (Extern.BytealgMakeNoZero.makeNoZero i f a) (Extern.BytealgMakeNoZero.makeNoZero i f Z):=by
 unfold Extern.BytealgMakeNoZero.makeNoZero;obtain⟨a⟩:=a;obtain⟨Z⟩:=Z;have h:bW ρ a Z:=h;cases h with
 |nil=>exact .halt _ _
 |cons j o=>
  cases o with
  |cons=>cases j<;>exact .halt _ _
  |nil=>
   cases j with
   |int k n=>
    cases k<;>try exact .halt _ _
    dsimp only;cases f[0]? with
    |none=>exact .halt _ _
    |some t=>
     dsimp only;refine ai (aF T t) λE d A D hd=> ?_;obtain⟨rfl, -⟩:=hd;cases d with
     |slice e=>
      dsimp only;refine aW (λ_=>dY _) λ_=> ?_;refine ai (je _) λB c l w q=> ?_;obtain rfl:c=l:=q;refine ai (akS c) λx _ _ C _=> ?_;refine ai (je _) λs b m z q=> ?_;obtain rfl:b=m:=q;refine ai (pJ e (bW.lq λv g=>adA _ _ _ (λv g=>by cases g) v g _)) λy r u F p=> ?_;exact aj (.slice (.some p) _ _)
     |_=>exact .halt _ _
   |_=>exact .halt _ _
def adB:∀(n:Nat) {ρ:Ren} {a c:Addr} (acc:ByteArray),AR ρ a c->az P P' jR ρ (Extern.Bytes.loadBytes a n acc) (Extern.Bytes.loadBytes c n acc)
 |0,_,_,_,_,_=>aj rfl
 |n+1,ρ,a,c,acc,h=>by
  unfold Extern.Bytes.loadBytes;refine ai (aqB .plain h) λg v f e d=> ?_;cases d with
  |int k b=>
   cases k<;>first|exact adB n _ ((h.mono e).add 1)|exact .halt _ _
  |_=>exact .halt _ _
def adC{a : Array Value}(h:dv ρ a Z):az P P' VR ρ (Extern.BytealgIndexByte.indexByte a) (Extern.BytealgIndexByte.indexByte Z):=by
 unfold Extern.BytealgIndexByte.indexByte;obtain⟨a⟩:=a;obtain⟨Z⟩:=Z;have h:bW ρ a Z:=h;cases h with
 |nil=>exact .halt _ _
 |cons m d=>
  cases d with
  |nil=>exact .halt _ _
  |cons g d=>
   cases d with
   |cons=>exact .halt _ _
   |nil=>
    refine ai (A:=jR) ?_ λr b j q e=> ?_
    .cases m with
     |string s=>exact aj rfl
     |slice f l c=>cases f with
      |none=>exact aj rfl
      |some f=>exact adB _ _ f
     |_=>exact .halt _ _
    .obtain rfl:b=j:=e;refine ai (A:=jR) ?_ λo c i p e=> ?_
     .cases g with
      |int k n=>cases k<;>first|exact aj rfl|exact .halt _ _
      |_=>exact .halt _ _
     .obtain rfl:c=i:=e;split
      .exact aj (.int _ _)
      .exact aj (.int _ _)
end
noncomputable def aly(f:Nat):Bool:=match prog.funcs[f]? with
 |some fn=>!alw prog f||fn.body.isSome||f ==162||f ==180
 |none=>true
def agy{f:Nat}{fn:Func}(h:prog.funcs[f]?=some fn)(a:aly f=true):(!alw prog f||fn.body.isSome||f ==162||f ==180)=true:=by
 unfold aly at a;generalize prog.funcs[f]?=q at h a;subst h;exact a
def aeR:(List.range prog.funcs.size).all aly=true:=by kernel_rfl
def anE:f162.body.isNone=true:=by kernel_rfl
def anF:f180.body.isNone=true:=by kernel_rfl
def anG:Extern.findNext f162=none:=by kernel_rfl
def adD:Extern.findNext f180=none:=by kernel_rfl
def anH:Extern.find f162=some (Extern.BytealgMakeNoZero.makeNoZero f162.params f162.resultTypes):=by kernel_rfl
def anI:Extern.find f180=some Extern.BytealgIndexByte.indexByte:=by kernel_rfl
def acZ:Extern.next "fmt's door" =none:=by kernel_rfl
def ach {P' : Program} {ρ:Ren} {fn b:Func} {e:Array Value->Sem Value} (r:P.funcs[f]?=some fn) (i:P'.funcs[f]?=some b) (g:fn.body.isNone=true) (k:b.body.isNone=true)
  (q:(fn.name == "runtime.NumGoroutine")=false) (t:(b.name == "runtime.NumGoroutine")=false) (s:Extern.findNext fn=none) (x2:Extern.findNext b=none) (n:Extern.find fn=some e) (u:Extern.find b=some e)
  (o:∀(c:Ren) a Z,dv c a Z->az P P' VR c (e a) (e Z)) {a : Array Value} (h:dv ρ a Z):az P P' iM ρ (callFunc f a) (callFunc f Z):=by
 unfold callFunc;refine ai dr λc p v m d=> ?_;obtain⟨rfl,rfl⟩:=d;rw[r,i];dsimp only;rw[q,t,g,k];simp only[li,qM,qe];refine ai (aqC (.extern f)) λj _ _ l _=> ?_;rw[s,x2,n,u];exact bE (o j _ _ (bW.mono (m.trans l) h))
def awC(β:Bool):aiF (ah β) prog:=λf fn d i k o a j h=>by
 obtain⟨p,b,n⟩:=ahG β f fn d;obtain rfl:=n.none i;have g:=(dl.1 b).1;have c:=lE.1 aeR f (qz.2 g);have c:=agy b c;have m:alw prog f=true:=by
  have:gA f=alw prog f:=by unfold gA;rfl
  rw[<-this];exact k
 rw[m,i] at c;simp only[vM,tC,vL,uJ,rm,nF] at c;rcases c with rfl|rfl
 .have e:=b.symm.trans func162;obtain rfl:=dq e;exact ach d func162 anE anE (cH func162) (cH func162) anG anG anH anH (λl a j h=>acg (mM β) _ _ h) h
 .have e:=b.symm.trans func180;obtain rfl:=dq e;exact ach d func180 anF anF (cH func180) (cH func180) adD adD anI anI (λl a j h=>adC h) h
def aaX{args:Array Value}{t0:Tape}{Post:Value->World->Prop}(h:∀t:Tape,(∀i q,i<w.drawn->t i q=t0 i q)->Calls P f args (w.dW t) λe b=>∃v,e=.returned v/\Post v b) :
  kN P (λl b=>∃a v,l=[a]/\a.fn=f/\a.leaving P b (.returned v)/\Post v b) ⟨[Frame.enter P f args .normal],w,t0⟩:=λt j=>by
 obtain⟨e,b,a,⟨v,rfl,d⟩,⟨n,k⟩,g,c⟩:=h t j [kT P];refine⟨n,[a],b,k,⟨a,rfl,c.1,c.2.1,c.2.2.1⟩,a,v,rfl,g,c,d⟩
end
section
open Go.RowKit
def auP{k:IntKind}{a b:Int}(h:a=b):Ending.returned (.int k a)=.returned (.int k b):=by rw[h]
def aD{a b:Bool}(h:a=b):Ending.returned (.bool a)=.returned (.bool b):=by rw[h]
structure bj (S:Nat->Prop) (w w':World):Prop where
 os:w'.os=w.os
 tape:w'.tape=w.tape
 output:w'.output=w.output
 size:w.heap.size<=w'.heap.size
 block:∀k,k<w.heap.size->¬S k->w'.heap[k]?=w.heap[k]?
def bj.refl(S:Nat->Prop)(w:World):bj S w w:=⟨rfl,rfl,rfl,am _,λ_ _ _=>rfl⟩
def bj.trans{T : Nat->Prop}{b c : World}(h:bj S a b)(k:bj T b c)(f:∀i,i<a.heap.size->T i->S i):bj S a c:=
 ⟨k.os.trans h.os,k.tape.trans h.tape,k.output.trans h.output,ap h.size k.size,
  λi d e=>(k.block i (bd d h.size) (λg=>e (f i d g))).trans (h.block i d e)⟩
def bj.mono{T : Nat->Prop}{b : World}(h:bj S a b)(d:∀i,i<a.heap.size->S i->T i):bj T a b:=
 ⟨h.os,h.tape,h.output,h.size,λi c f=>h.block i c λe=>f (d i c e)⟩
def bj.below(h:bj S w w')(c:B<=w.heap.size)(b:∀i,i<B->¬S i):Below B w w':=
 ⟨h.os,h.tape,h.output,h.size,λk a=>h.block k (bd a c) (b k a)⟩
def bj.aN(h:Below w.heap.size w w'):bj S w w':=
 ⟨h.os,h.tape,h.output,h.size,λk a _=>h.block k a⟩
def bj.alloc(h:bj S a w)(o:Obj):bj S a (w.alloc o):=
 ⟨h.os,h.tape,h.output,ap h.size (by simp),λi c b=>(sK w o i (bd c h.size)).trans (h.block i c b)⟩
def bj.drew(h:bj S a w):bj S a w.drew:=⟨h.os,h.tape,h.output,h.size,h.block⟩
def bj.drewN(h:bj S a w)(n:Nat):bj S a (w.drewN n):=⟨h.os,h.tape,h.output,h.size,h.block⟩
def bj.setCell(h:bj S a w){p:Addr}(b:S p.block\/a.heap.size<=p.block)(u:Value):bj S a (w.setCell p u):=
 ⟨h.os,h.tape,h.output,by simpa[World.setCell] using h.size,λi d c=>(jn w p u i (by
  rintro rfl;rcases b with b|b
  .exact c b
  .omega)).trans (h.block i d c)⟩
def ag(h:Below a.heap.size a w)(b:Below w.heap.size w w'):Below a.heap.size a w':=h.trans (b.mono h.size)
def tK(h:Below B a w)(n:Nat):Below B a (w.drewN n):=⟨h.os,h.tape,h.output,h.size,h.block⟩
abbrev gG(α:Type):=World->Nat->Nat->α->List Value->Prop
structure Lcy {α:Type} (E:gG α):Prop where
 go:∀{w w':World} {lo hi fI hi':Nat} {x:α} {cs:List Value},
  (∀b,lo<=b->b<hi->w'.heap[b]?=w.heap[b]?)->fI<=lo->hi<=hi'->E w lo hi x cs->E w' fI hi' x cs
def cf(x:Int):Prop:= -9223372036854775808<=x/\x<=9223372036854775807
def nj:gG Int:=λ_ _ _ x a=>a=[.int .i64 x]/\cf x
def iO:gG Int:=λ_ _ _ x a=>a=[.int .u8 x]/\0<=x/\x<256
def nj.loc:Lcy nj:=⟨λ_ _ _ h=>h⟩
def iO.loc:Lcy iO:=⟨λ_ _ _ h=>h⟩
def bD{α:Type}(E:gG α)(sz:Nat):gG (List α):=λw f g d k=>
 ∃(A:Option Addr) (c:Nat),k=[.slice A d.length c]/\d.length<=c/\c<=maxLen/\
  (0<d.length->∃b a,A=some ⟨b,a,none⟩/\f<=b/\b<g/\
   ∀i x,d[i]?=some x->∃e:List Value,e.length=sz/\E w f g x e/\∀j u,e[j]?=some u->w.cell? ⟨b,a+i*sz+j,none⟩=some u)
def bD.loc{E:gG Y}(p:Lcy E) :Lcy (bD E U):=by
 refine⟨?_⟩;intro w B H F G d D C n e l ⟨A,c,g,o,y,h⟩;refine⟨A,c,g,o,y,λq=> ?_⟩;obtain⟨b,f,rfl,m,k,v⟩:=h q;refine⟨b,f,rfl,ap e m,bd k l,λi x d=> ?_⟩;obtain⟨s,r,z,a⟩:=v i x d;exact⟨s,r,p.go n e l z,λj u t=>(qy (n b m k)).trans (a j u t)⟩
def Lcy.below{E:gG Y}(c:Lcy E){cs:List Value}(h:E w U hi x cs)(e:Below B w w')(d:hi<=B):E w' U hi x cs:=
 c.go (λb _ a=>e.block b (bd a d)) (am _) (am _) h
def Lcy.wide{E:gG Y}(a:Lcy E){fI hi' : Nat}{cs:List Value}(h:E w U hi x cs)(c:fI<=U)(b:hi<=hi'):E w fI hi' x cs:=
 a.go (λ_ _ _=>rfl) c b h
def bD.at_{E:gG Y}(h:bD E U w M hi xs [.slice A n c])(g:xs[k]?=some x) :
  ∃b a e,A=some ⟨b,a,none⟩/\M<=b/\b<hi/\e.length=U/\E w M hi x e/\∀j u,e[j]?=some u->w.cell? ⟨b,a+k*U+j,none⟩=some u:=by
 obtain⟨A',r,f,s,t,i⟩:=h;simp only[ql,oE,qx] at f;obtain⟨rfl,rfl,rfl⟩:=f;have l:k<xs.length:=by
  rcases pm k xs.length with h|h
  .exact h
  .rw[rx h] at g;cases g
 obtain⟨b,a,rfl,o,m,i⟩:=i (by omega);obtain⟨e,p,q,d⟩:=i k x g;exact⟨b,a,e,rfl,o,m,p,q,d⟩
def bD.ints_at{xs:List Int}(h:bD nj 1 w U hi xs [.slice A n c]){x:Int}(f:xs[k]?=some x) :
  ∃b a,A=some ⟨b,a,none⟩/\U<=b/\b<hi/\cf x/\w.cell? ⟨b,a+k,none⟩=some (.int .i64 x):=by
 obtain⟨b,a,l,rfl,g,e,j,⟨rfl,d⟩,i⟩:=h.at_ f;exact⟨b,a,rfl,g,e,d,by simpa using i 0 _ rfl⟩
def bD.aeS{xs:List Int}(h:bD iO 1 w U hi xs [.slice A n c]){x:Int}(f:xs[k]?=some x) :
  ∃b a,A=some ⟨b,a,none⟩/\U<=b/\b<hi/\(0<=x/\x<256)/\w.cell? ⟨b,a+k,none⟩=some (.int .u8 x):=by
 obtain⟨b,a,l,rfl,g,e,j,⟨rfl,d⟩,i⟩:=h.at_ f;exact⟨b,a,rfl,g,e,d,by simpa using i 0 _ rfl⟩
def bD.len_{E:gG Y}(h:bD E U w M hi xs [.slice A n c]):n=xs.length/\n<=c/\c<=maxLen:=by
 obtain⟨A',e,a,d,b,f⟩:=h;simp only[ql,oE,qx] at a;obtain⟨rfl,rfl,rfl⟩:=a;exact⟨rfl,d,b⟩
def bD.form{E:gG Y}(h:bD E U w M hi xs [v]):∃A c,v=.slice A xs.length c:=by
 obtain⟨A',d,a,e,b,f⟩:=h;simp only[ql,qx] at a;exact⟨_,_,a⟩
def aq{l:List Y}(h:k<l.length):∃x,l[k]?=some x:=⟨l[k],jp h⟩
def aB{l:List Y}(h:l[k]?=some x):k<l.length:=by
 rcases pm k l.length with a|a
 .exact a
 .rw[rx a] at h;cases h
def ow{α:Type}{P:List α->Prop}(h0:P [])(h1:∀l a,P l->P (l++[a]))(l:List α):P l:=by
 rw[<-l.reverse_reverse]
 induction l.reverse with
 |nil=>exact h0
 |cons a t b=>rw[List.reverse_cons];exact h1 _ _ b
def kw{l:List Y}(h:l[k]?=some x):l.take (k+1)=l.take k++[x]:=by
 rw[List.take_add_one,h];rfl
def bg(w:World)(g:Nat)(t:TypeId)(cs:Array Value):Prop:=w.heap[g]?=some (.cells cs t (0,0))
section
variable {w w':World} {g:Nat} {t:TypeId} {cs:Array Value}
def bg.lt(h:bg w g t cs):g<w.heap.size:=by
 rcases pm g w.heap.size with a|b
 .exact a
 .unfold bg at h;rw[qm b] at h;cases h
def bg.cell(h:bg w g t cs)(i:Nat):w.cell? ⟨g,i,none⟩=cs[i]?:=cell_of_row w g i cs t (0,0) h
def bg.frozen(h:bg w g t cs)(i:Nat):w.frozen? ⟨g,i,none⟩=false:=by
 unfold bg at h;simp[World.frozen?,h]
def bg.new(w:World)(t:TypeId)(cs:Array Value):bg (w.alloc (.cells cs t)) w.heap.size t cs:=heap_alloc_new w _
def bg.bG(h:bg w g t cs)(i:Nat)(u:Value):bg (w.setCell ⟨g,i,none⟩ u) g t (cs.setIfInBounds i u):=by
 unfold bg at h ⊢;simp[World.setCell,pr,h]
end
section
variable {w w':World} {g N:Nat} {t:TypeId} {vs:List Value}
end
def bD.alo{E:gG Y}{cs:List Value}(h:bD E U w M hi xs cs):∀x∈xs,∃a,E w M hi x a:=by
 obtain⟨A,c,g,m,l,f⟩:=h;intro x j;obtain⟨i,hi⟩:=rL.1 j;obtain⟨b,e,_,_,_,d⟩:=f (by have:=aB hi;omega);obtain⟨a,_,k,_⟩:=d i x hi;exact⟨a,k⟩
def bD.alz{xs:List Int}{cs:List Value}(h:bD nj 1 w U hi xs cs):∀x∈xs,cf x:=λx b=>by
 obtain⟨c,a⟩:=h.alo x b;exact a.2
section
variable {w:World} {g:Nat} {t:TypeId} {n:Nat} {f f':Nat->Int}
end
end
section
section
variable (P:Program) (fs:Array Func)
def aci(t:TypeId)(w:World):(underlying t).run {P with funcs:=fs} w=(underlying t).run P w:=by
 show Sem.run _ (match({P with funcs:=fs}:Program).underlying t with|some d=>pure d|none=>stuck "no such type") w=Sem.run P (match P.underlying t with|some d=>pure d|none=>stuck "no such type") w;rw[cJ];cases P.underlying t<;>rfl
def abl(t:TypeId)(w:World):(typeInfo t).run {P with funcs:=fs} w=(typeInfo t).run P w:=by
 show Sem.run _ (match({P with funcs:=fs}:Program).info? t with|some d=>pure d|none=>stuck "no such type") w=Sem.run P (match P.info? t with|some d=>pure d|none=>stuck "no such type") w;rw[kS];cases P.info? t<;>rfl
def arv{β : Type}(P Q:Program)(s:Sem Y)(f:Y->Sem β)(w:World)(h:s.run Q w=s.run P w)(b:∀a w,(f a).run Q w=(f a).run P w):(s.bind f).run Q w=(s.bind f).run P w:=by
 have c:=qY Q s f w;have e:=qY P s f w;exact c.trans ((ga (λr=>Result.andThen r λa d=>(f a).run Q d) h).trans ((ga (λF=>Result.andThen (s.run P w) F) (funext λa=>funext λw=>b a w)).trans e.symm))
def alA{β : Type}(s:Sem Y)(f:Y->Sem β)(w:World)(h:s.run {P with funcs:=fs} w=s.run P w)(b:∀a w,(f a).run {P with funcs:=fs} w=(f a).run P w):(s.bind f).run {P with funcs:=fs} w=(s.bind f).run P w:=arv P _ s f w h b
def arw(t:TypeId)(w:World):(sizeOf t).run {P with funcs:=fs} w=(sizeOf t).run P w:=alA P fs _ _ w (abl P fs t w) λ_ _=>rfl
def ajf(t:TypeId)(w:World):(zeroValue t).run {P with funcs:=fs} w=(zeroValue t).run P w:=alA P fs _ _ w (abl P fs t w) λi w=>by
 cases i.zero<;>rfl
def auQ(t:TypeId)(w:World):(isAgg t).run {P with funcs:=fs} w=(isAgg t).run P w:=alA P fs _ _ w (aci P fs t w) λd w=>by
 cases d<;>rfl
end
variable {β:Bool}
@[simp,go_sem] theorem atV(t:TypeId)(w:World):(underlying t).run (ah β) w=(underlying t).run prog w:=aci prog (np β) t w
@[simp,go_sem] theorem aw2(t:TypeId)(w:World):(typeInfo t).run (ah β) w=(typeInfo t).run prog w:=abl prog (np β) t w
@[simp,go_sem] theorem bI(t:TypeId)(w:World):(sizeOf t).run (ah β) w=(sizeOf t).run prog w:=arw prog (np β) t w
@[simp,go_sem] theorem aS(t:TypeId)(w:World):(zeroValue t).run (ah β) w=(zeroValue t).run prog w:=ajf prog (np β) t w
@[simp,go_sem] theorem cu(t:TypeId)(w:World):(isAgg t).run (ah β) w=(isAgg t).run prog w:=auQ prog (np β) t w
@[simp,go_sem] theorem bh(t:TypeId):(ah β).underlying t=prog.underlying t:=cJ prog (np β) t
@[simp,go_sem] theorem aAx(t:TypeId):(ah β).stoodInHeld t=prog.stoodInHeld t:=aee prog (np β) t
@[simp,go_sem] theorem aAy(d:Nat)(t:TypeId):(ah β).eqGuardType d t=prog.eqGuardType d t:=ahF prog (np β) d t
@[simp,go_sem] theorem aAz:(ah β).depth=prog.depth:=aec prog (np β)
abbrev ahI:List Nat:=[54,83,84,87,134,153,164,189,2,119,120,122,123,129,192,221]
noncomputable def ayf(f:Nat):Bool:=ahI.contains f||match prog.funcs[f]? with
 |some fn=>match fn.body with
  |some c=>gC prog gA gL c
  |none=>true
 |none=>true
def arx:(List.range prog.funcs.size).all ayf=true:=by kernel_rfl
def auR{f:Nat}{fn:Func}(h:prog.funcs[f]?=some fn)(a:ayf f=true)(b:ahI.contains f=false):∀c,fn.body=some c->gC prog gA gL c=true:=by
 unfold ayf at a;rw[b] at a;generalize prog.funcs[f]?=q at h a;subst h;intro c d;simp only[d,uJ] at a;exact a
def aw{f:Nat}{fn:Func}(h:prog.funcs[f]?=some fn)(g:ahI.contains f=false):(ah β).funcs[f]?=some fn:=by
 have d:=(dl.1 h).1;have b:=auR h (lE.1 arx f (qz.2 d)) g;have j:f≠nCC:=λe=>by subst e;revert g;decide
 have i:f≠cE:=λe=>by subst e;revert g;decide
 have k:pf fn=fn:=by
  unfold pf;cases a:fn.body with
  |none=>cases fn;dsimp only at a;subst a;rfl
  |some c=>
   have:gP c=c:=by unfold gP;exact aix _ _ _ _ c (b c a)
   cases fn;dsimp only at a;subst a;show _=_;simp only[qu,this]
 refine(alu β j i).trans ?_;have e:Option.map pf (prog.funcs[f]?)=Option.map pf (some fn):=ga _ h;rw[e,qu,k]
def lQ{fn:Func}(h:P.funcs[f]?=some fn)(d:(fn.name == "runtime.NumGoroutine")=false)(a:fn.body.isSome=true)(args:Array Value)(w:World):(callFunc f args).run P w=.ok (.enter f args) w:=by
 show Sem.run P (match P.funcs[f]? with|none=>_|some fn=>_) w=_;rw[h];obtain⟨c,b⟩:=rM.1 a;simp only[d,b,Option.isNone_some];rfl
def aA{f:Nat}{fn:Func}(h:prog.funcs[f]?=some fn)(a:ahI.contains f=false)(b:fn.body.isSome=true)(args:Array Value)(w:World):(callFunc f args).run (ah β) w=.ok (.enter f args) w:=lQ (aw h a) (cH h) b args w
end
section
variable {β:Bool}
def qF3:=aw (β:=β) func3 (by decide)
def qF4:=aw (β:=β) func4 (by decide)
def qF5:=aw (β:=β) func5 (by decide)
def qF6:=aw (β:=β) func6 (by decide)
def qF7:=aw (β:=β) func7 (by decide)
def qF8:=aw (β:=β) func8 (by decide)
def qF9:=aw (β:=β) func9 (by decide)
def AH:=aw (β:=β) func10 (by decide)
def AG:=aw (β:=β) func11 (by decide)
def ym:=aw (β:=β) func12 (by decide)
def AF:=aw (β:=β) func13 (by decide)
def AE:=aw (β:=β) func14 (by decide)
def AC:=aw (β:=β) func15 (by decide)
def AB:=aw (β:=β) func16 (by decide)
def AA:=aw (β:=β) func17 (by decide)
def Az:=aw (β:=β) func18 (by decide)
def Ax:=aw (β:=β) func19 (by decide)
def Aw:=aw (β:=β) func20 (by decide)
def yl:=aw (β:=β) func21 (by decide)
def yk:=aw (β:=β) func22 (by decide)
def qF23:=aw (β:=β) func23 (by decide)
def qF24:=aw (β:=β) func24 (by decide)
def yj:=aw (β:=β) func25 (by decide)
def yi:=aw (β:=β) func26 (by decide)
def Au:=aw (β:=β) func27 (by decide)
def Am:=aw (β:=β) func28 (by decide)
def xm:=aw (β:=β) func29 (by decide)
def Ak:=aw (β:=β) func30 (by decide)
def Aj:=aw (β:=β) func31 (by decide)
def Ah:=aw (β:=β) func32 (by decide)
def Ag:=aw (β:=β) func33 (by decide)
def Af:=aw (β:=β) func34 (by decide)
def Ad:=aw (β:=β) func35 (by decide)
def Ac:=aw (β:=β) func36 (by decide)
def zZ:=aw (β:=β) func37 (by decide)
def yh:=aw (β:=β) func38 (by decide)
def yg:=aw (β:=β) func39 (by decide)
def zY:=aw (β:=β) func40 (by decide)
def yf:=aw (β:=β) func41 (by decide)
def xl:=aw (β:=β) func42 (by decide)
def zX:=aw (β:=β) func43 (by decide)
def ye:=aw (β:=β) func44 (by decide)
def zW:=aw (β:=β) func45 (by decide)
def yd:=aw (β:=β) func46 (by decide)
def yc:=aw (β:=β) func47 (by decide)
def xk:=aw (β:=β) func48 (by decide)
def yb:=aw (β:=β) func49 (by decide)
def ya:=aw (β:=β) func50 (by decide)
def qF51:=aw (β:=β) func51 (by decide)
def qF52:=aw (β:=β) func52 (by decide)
def xZ:=aw (β:=β) func53 (by decide)
def zV:=aw (β:=β) func55 (by decide)
def zU:=aw (β:=β) func56 (by decide)
def zT:=aw (β:=β) func57 (by decide)
def zS:=aw (β:=β) func58 (by decide)
def zR:=aw (β:=β) func59 (by decide)
def zQ:=aw (β:=β) func60 (by decide)
def zP:=aw (β:=β) func61 (by decide)
def zO:=aw (β:=β) func62 (by decide)
def zN:=aw (β:=β) func63 (by decide)
def xf:=aw (β:=β) func64 (by decide)
def xY:=aw (β:=β) func65 (by decide)
def zM:=aw (β:=β) func66 (by decide)
def zL:=aw (β:=β) func67 (by decide)
def xX:=aw (β:=β) func68 (by decide)
def xW:=aw (β:=β) func69 (by decide)
def zK:=aw (β:=β) func70 (by decide)
def zJ:=aw (β:=β) func71 (by decide)
def qF72:=aw (β:=β) func72 (by decide)
def qF73:=aw (β:=β) func73 (by decide)
def qF74:=aw (β:=β) func74 (by decide)
def qF75:=aw (β:=β) func75 (by decide)
def qF76:=aw (β:=β) func76 (by decide)
def qF77:=aw (β:=β) func77 (by decide)
def qF78:=aw (β:=β) func78 (by decide)
def qF79:=aw (β:=β) func79 (by decide)
def qF80:=aw (β:=β) func80 (by decide)
def qF81:=aw (β:=β) func81 (by decide)
def qF82:=aw (β:=β) func82 (by decide)
def zI:=aw (β:=β) func86 (by decide)
def xE:=aw (β:=β) func88 (by decide)
def xV:=aw (β:=β) func89 (by decide)
def zH:=aw (β:=β) func90 (by decide)
def zG:=aw (β:=β) func91 (by decide)
def zF:=aw (β:=β) func92 (by decide)
def zE:=aw (β:=β) func93 (by decide)
def xU:=aw (β:=β) func94 (by decide)
def zD:=aw (β:=β) func95 (by decide)
def xT:=aw (β:=β) func96 (by decide)
def zC:=aw (β:=β) func97 (by decide)
def zB:=aw (β:=β) func98 (by decide)
def zA:=aw (β:=β) func99 (by decide)
def zn:=aw (β:=β) func100 (by decide)
def zm:=aw (β:=β) func101 (by decide)
def zl:=aw (β:=β) func102 (by decide)
def zj:=aw (β:=β) func103 (by decide)
def zi:=aw (β:=β) func104 (by decide)
def xt:=aw (β:=β) func105 (by decide)
def zh:=aw (β:=β) func106 (by decide)
def qF107:=aw (β:=β) func107 (by decide)
def qF108:=aw (β:=β) func108 (by decide)
def qF109:=aw (β:=β) func109 (by decide)
def qF110:=aw (β:=β) func110 (by decide)
def qF111:=aw (β:=β) func111 (by decide)
def qF112:=aw (β:=β) func112 (by decide)
def zg:=aw (β:=β) func126 (by decide)
def zf:=aw (β:=β) func132 (by decide)
def ze:=aw (β:=β) func133 (by decide)
def zd:=aw (β:=β) func135 (by decide)
def zc:=aw (β:=β) func136 (by decide)
def yZ:=aw (β:=β) func137 (by decide)
def xe:=aw (β:=β) func138 (by decide)
def yY:=aw (β:=β) func139 (by decide)
def xr:=aw (β:=β) func140 (by decide)
def yX:=aw (β:=β) func141 (by decide)
def yW:=aw (β:=β) func142 (by decide)
def wX:=aw (β:=β) func143 (by decide)
def qF144:=aw (β:=β) func144 (by decide)
def yV:=aw (β:=β) func149 (by decide)
def xq:=aw (β:=β) func150 (by decide)
def yU:=aw (β:=β) func151 (by decide)
def yT:=aw (β:=β) func154 (by decide)
def xJ:=aw (β:=β) func155 (by decide)
def yS:=aw (β:=β) func156 (by decide)
def xI:=aw (β:=β) func157 (by decide)
def yR:=aw (β:=β) func158 (by decide)
def yQ:=aw (β:=β) func159 (by decide)
def yP:=aw (β:=β) func160 (by decide)
def yO:=aw (β:=β) func162 (by decide)
def yN:=aw (β:=β) func163 (by decide)
def yM:=aw (β:=β) func165 (by decide)
def xH:=aw (β:=β) func166 (by decide)
def xp:=aw (β:=β) func167 (by decide)
def yL:=aw (β:=β) func168 (by decide)
def yK:=aw (β:=β) func169 (by decide)
def yJ:=aw (β:=β) func170 (by decide)
def yI:=aw (β:=β) func174 (by decide)
def xo:=aw (β:=β) func178 (by decide)
def yH:=aw (β:=β) func179 (by decide)
def yG:=aw (β:=β) func180 (by decide)
def yF:=aw (β:=β) func185 (by decide)
def yE:=aw (β:=β) func186 (by decide)
def yD:=aw (β:=β) func191 (by decide)
@[go_sem] def qC4:=aA (β:=β) func4 (by decide) rfl
@[go_sem] def qC5:=aA (β:=β) func5 (by decide) rfl
@[go_sem] def qC6:=aA (β:=β) func6 (by decide) rfl
@[go_sem] def qC7:=aA (β:=β) func7 (by decide) rfl
@[go_sem] def qC8:=aA (β:=β) func8 (by decide) rfl
@[go_sem] def qC9:=aA (β:=β) func9 (by decide) rfl
@[go_sem] def qC10:=aA (β:=β) func10 (by decide) rfl
@[go_sem] def qC11:=aA (β:=β) func11 (by decide) rfl
@[go_sem] def qC12:=aA (β:=β) func12 (by decide) rfl
@[go_sem] def qC13:=aA (β:=β) func13 (by decide) rfl
@[go_sem] def qC14:=aA (β:=β) func14 (by decide) rfl
@[go_sem] def qC15:=aA (β:=β) func15 (by decide) rfl
@[go_sem] def qC16:=aA (β:=β) func16 (by decide) rfl
@[go_sem] def qC17:=aA (β:=β) func17 (by decide) rfl
@[go_sem] def qC18:=aA (β:=β) func18 (by decide) rfl
@[go_sem] def qC19:=aA (β:=β) func19 (by decide) rfl
@[go_sem] def qC20:=aA (β:=β) func20 (by decide) rfl
@[go_sem] def qC21:=aA (β:=β) func21 (by decide) rfl
@[go_sem] def qC22:=aA (β:=β) func22 (by decide) rfl
@[go_sem] def qC23:=aA (β:=β) func23 (by decide) rfl
@[go_sem] def qC24:=aA (β:=β) func24 (by decide) rfl
@[go_sem] def qC25:=aA (β:=β) func25 (by decide) rfl
@[go_sem] def qC26:=aA (β:=β) func26 (by decide) rfl
@[go_sem] def qC27:=aA (β:=β) func27 (by decide) rfl
@[go_sem] def qC28:=aA (β:=β) func28 (by decide) rfl
@[go_sem] def qC29:=aA (β:=β) func29 (by decide) rfl
@[go_sem] def qC30:=aA (β:=β) func30 (by decide) rfl
@[go_sem] def qC31:=aA (β:=β) func31 (by decide) rfl
@[go_sem] def qC32:=aA (β:=β) func32 (by decide) rfl
@[go_sem] def qC33:=aA (β:=β) func33 (by decide) rfl
@[go_sem] def qC34:=aA (β:=β) func34 (by decide) rfl
@[go_sem] def qC35:=aA (β:=β) func35 (by decide) rfl
@[go_sem] def qC36:=aA (β:=β) func36 (by decide) rfl
@[go_sem] def qC37:=aA (β:=β) func37 (by decide) rfl
@[go_sem] def qC38:=aA (β:=β) func38 (by decide) rfl
@[go_sem] def qC40:=aA (β:=β) func40 (by decide) rfl
@[go_sem] def qC43:=aA (β:=β) func43 (by decide) rfl
@[go_sem] def qC45:=aA (β:=β) func45 (by decide) rfl
@[go_sem] def qC50:=aA (β:=β) func50 (by decide) rfl
@[go_sem] def qC53:=aA (β:=β) func53 (by decide) rfl
@[go_sem] def qC55:=aA (β:=β) func55 (by decide) rfl
@[go_sem] def qC56:=aA (β:=β) func56 (by decide) rfl
@[go_sem] def qC57:=aA (β:=β) func57 (by decide) rfl
@[go_sem] def qC58:=aA (β:=β) func58 (by decide) rfl
@[go_sem] def qC59:=aA (β:=β) func59 (by decide) rfl
@[go_sem] def qC60:=aA (β:=β) func60 (by decide) rfl
@[go_sem] def qC61:=aA (β:=β) func61 (by decide) rfl
@[go_sem] def qC62:=aA (β:=β) func62 (by decide) rfl
@[go_sem] def qC63:=aA (β:=β) func63 (by decide) rfl
@[go_sem] def qC64:=aA (β:=β) func64 (by decide) rfl
@[go_sem] def qC65:=aA (β:=β) func65 (by decide) rfl
@[go_sem] def qC66:=aA (β:=β) func66 (by decide) rfl
@[go_sem] def qC67:=aA (β:=β) func67 (by decide) rfl
@[go_sem] def qC68:=aA (β:=β) func68 (by decide) rfl
@[go_sem] def qC69:=aA (β:=β) func69 (by decide) rfl
@[go_sem] def qC70:=aA (β:=β) func70 (by decide) rfl
@[go_sem] def qC71:=aA (β:=β) func71 (by decide) rfl
@[go_sem] def qC86:=aA (β:=β) func86 (by decide) rfl
@[go_sem] def qC88:=aA (β:=β) func88 (by decide) rfl
@[go_sem] def qC89:=aA (β:=β) func89 (by decide) rfl
@[go_sem] def qC90:=aA (β:=β) func90 (by decide) rfl
@[go_sem] def qC91:=aA (β:=β) func91 (by decide) rfl
@[go_sem] def qC92:=aA (β:=β) func92 (by decide) rfl
@[go_sem] def qC93:=aA (β:=β) func93 (by decide) rfl
@[go_sem] def qC94:=aA (β:=β) func94 (by decide) rfl
@[go_sem] def qC95:=aA (β:=β) func95 (by decide) rfl
@[go_sem] def qC96:=aA (β:=β) func96 (by decide) rfl
@[go_sem] def qC97:=aA (β:=β) func97 (by decide) rfl
@[go_sem] def qC98:=aA (β:=β) func98 (by decide) rfl
@[go_sem] def qC99:=aA (β:=β) func99 (by decide) rfl
@[go_sem] def BA:=aA (β:=β) func100 (by decide) rfl
@[go_sem] def Bz:=aA (β:=β) func101 (by decide) rfl
@[go_sem] def By:=aA (β:=β) func102 (by decide) rfl
@[go_sem] def Bx:=aA (β:=β) func103 (by decide) rfl
@[go_sem] def Bw:=aA (β:=β) func104 (by decide) rfl
@[go_sem] def Bv:=aA (β:=β) func105 (by decide) rfl
@[go_sem] def Bu:=aA (β:=β) func106 (by decide) rfl
@[go_sem] def Bt:=aA (β:=β) func126 (by decide) rfl
@[go_sem] def Bq:=aA (β:=β) func132 (by decide) rfl
@[go_sem] def Bp:=aA (β:=β) func133 (by decide) rfl
@[go_sem] def Bo:=aA (β:=β) func135 (by decide) rfl
@[go_sem] def Bj:=aA (β:=β) func136 (by decide) rfl
@[go_sem] def Bi:=aA (β:=β) func137 (by decide) rfl
@[go_sem] def Bh:=aA (β:=β) func138 (by decide) rfl
@[go_sem] def Bg:=aA (β:=β) func139 (by decide) rfl
@[go_sem] def Bf:=aA (β:=β) func140 (by decide) rfl
@[go_sem] def Be:=aA (β:=β) func141 (by decide) rfl
@[go_sem] def Bd:=aA (β:=β) func142 (by decide) rfl
@[go_sem] def Bc:=aA (β:=β) func143 (by decide) rfl
@[go_sem] def Bb:=aA (β:=β) func149 (by decide) rfl
@[go_sem] def Ba:=aA (β:=β) func150 (by decide) rfl
@[go_sem] def B9:=aA (β:=β) func151 (by decide) rfl
@[go_sem] def B8:=aA (β:=β) func154 (by decide) rfl
@[go_sem] def B7:=aA (β:=β) func156 (by decide) rfl
@[go_sem] def B6:=aA (β:=β) func157 (by decide) rfl
@[go_sem] def AZ:=aA (β:=β) func158 (by decide) rfl
@[go_sem] def AY:=aA (β:=β) func159 (by decide) rfl
@[go_sem] def AX:=aA (β:=β) func160 (by decide) rfl
@[go_sem] def AW:=aA (β:=β) func163 (by decide) rfl
@[go_sem] def AV:=aA (β:=β) func165 (by decide) rfl
@[go_sem] def AU:=aA (β:=β) func166 (by decide) rfl
@[go_sem] def AT:=aA (β:=β) func167 (by decide) rfl
@[go_sem] def AS:=aA (β:=β) func168 (by decide) rfl
@[go_sem] def AQ:=aA (β:=β) func169 (by decide) rfl
@[go_sem] def AP:=aA (β:=β) func170 (by decide) rfl
@[go_sem] def AO:=aA (β:=β) func174 (by decide) rfl
@[go_sem] def AN:=aA (β:=β) func178 (by decide) rfl
@[go_sem] def AM:=aA (β:=β) func179 (by decide) rfl
@[go_sem] def AK:=aA (β:=β) func185 (by decide) rfl
@[go_sem] def AJ:=aA (β:=β) func186 (by decide) rfl
@[go_sem] def AI:=aA (β:=β) func191 (by decide) rfl
def qU0:=(bh (β:=β) 0).trans underlying0
def qU3:=(bh (β:=β) 3).trans underlying3
def qU4:=(bh (β:=β) 4).trans underlying4
def qU5:=(bh (β:=β) 5).trans underlying5
def qU9:=(bh (β:=β) 9).trans underlying9
def xj:=(bh (β:=β) 22).trans underlying22
def xS:=(bh (β:=β) 23).trans underlying23
def xR:=(bh (β:=β) 24).trans underlying24
def xD:=(bh (β:=β) 25).trans underlying25
def xC:=(bh (β:=β) 34).trans underlying34
def xQ:=(bh (β:=β) 36).trans underlying36
def wZ:=(bh (β:=β) 37).trans underlying37
def zv:=(bh (β:=β) 39).trans underlying39
def zu:=(bh (β:=β) 44).trans underlying44
def xP:=(bh (β:=β) 63).trans underlying63
def zt:=(bh (β:=β) 83).trans underlying83
def zp:=(bh (β:=β) 95).trans underlying95
def yC:=(bh (β:=β) 104).trans underlying104
def yB:=(bh (β:=β) 107).trans underlying107
def yA:=(bh (β:=β) 118).trans underlying118
def yz:=(bh (β:=β) 119).trans underlying119
def yy:=(bh (β:=β) 124).trans underlying124
def yx:=(bh (β:=β) 127).trans underlying127
def yw:=(bh (β:=β) 129).trans underlying129
def yv:=(bh (β:=β) 130).trans underlying130
def yu:=(bh (β:=β) 159).trans underlying159
def yr:=(bh (β:=β) 163).trans underlying163
def yq:=(bh (β:=β) 181).trans underlying181
def yp:=(bh (β:=β) 197).trans underlying197
def yo:=(bh (β:=β) 208).trans underlying208
end
section
variable {β:Bool}
open Go.RowKit
def bs(s:ByteArray):List Nat:=s.data.toList.map UInt8.toNat
def aM(s:ByteArray):(bs s).length=s.size:=by
 unfold bs;rw[qg,qS];rfl
def abm{s:ByteArray}(h:k<s.size):(bs s)[k]?=some (s[k]'h).toNat:=by
 unfold bs;rw[qO,fa];have:s.data[k]?=some (s.data[k]'h):=gn h;rw[this];rfl
def ary{s:ByteArray}:∀b∈bs s,b<256:=λb a=>by
 obtain⟨u,_,rfl⟩:=pe.1 a;exact u.toNat_lt
def nt{s t:ByteArray}(h:bs s=bs t):s=t:=by
 have e:s.data.toList=t.data.toList:=by
  unfold bs at h;generalize s.data.toList=a at *;generalize t.data.toList=b at *
  induction a generalizing b with
  |nil=>cases b with
   |nil=>rfl
   |cons y b=>cases h
  |cons x a d=>cases b with
   |nil=>cases h
   |cons y b=>
    simp only[ru,ql] at h;rw[sR.1 h.1,d b h.2]
 have c:s.data=t.data:=uQ.1 e;cases s;cases t;simp only at c;rw[c]
def iQ(s t:ByteArray):bs (s++t)=bs s++bs t:=by
 unfold bs;rw[<-qZ,<-qi]
 congr 2
 simp
def cV(s:ByteArray)(a b:Nat):bs (s.extract a b)=((bs s).take b).drop a:=by
 unfold bs;simp only[wv,tX,vR];rw[<-List.map_take,<-List.map_drop]
 congr 1
 rw[List.take_drop];by_cases h:a<=b
 .congr 2;omega
 .have:b-a=0:=by omega
  rw[this,rE (by simp;omega),rE (by simp;omega)]
def abn{s t:ByteArray}(h:¬t=s):(t.toList ==s.toList)=false:=by
 refine de.2 λe=>h ?_;rw[rj,rj] at e;have a:t.data=s.data:=uQ.1 e;cases s;cases t;simp only at a;rw[a]
def pY(b:Nat):Bool:=decide (97<=b)&&decide (b<=122)
def bA(l:List Nat):Prop:=(1<=l.length/\l.length<=8)/\l.all pY=true
def eF:List Nat->Nat->Nat
 |[],n=>n
 |b::l,n=>eF l (27*n+(b-97)+1)
def code(l:List Nat):Nat:=eF l 0
def bN(key:Int)(l:List Nat):Int:=((code l:Int)*(2*key+1)+key*7919) % 999999999989
def cB(n:Nat):Nat:=if n=0\/8<n then 0 else if n<=2 then 2 else if n<=4 then 4 else 8
def gT(l:List Nat):List Nat:=l++List.replicate (cB l.length-l.length) 46
def gU:∀(a b:List Nat) (n:Nat),eF (a++b) n=eF b (eF a n)
 |[],_,_=>rfl
 |x::a,b,n=>by show eF (a++b) _=eF b (eF a _);rw[gU a b]
def aeT:∀(l:List Nat) (n:Nat),l.all pY=true->eF l n<(n+1)*27 ^ l.length
 |[],n,_=>by show n<_;simp
 |b::l,n,h=>by
  simp only[qF,ff] at h;have a:=aeT l (27*n+(b-97)+1) h.2;have c:b<=122:=by have:=h.1;unfold pY at this;simp at this;exact this.2
  show eF l _<_;refine bd a ?_;rw[fi,Nat.pow_succ,tR (27 ^ l.length) 27,<-Nat.mul_assoc];exact qP _ (by omega)
def acj(h:bA l):code l<282429536481:=by
 have a:=aeT l 0 h.2;unfold code;have b:27 ^ l.length<=27 ^ 8:=wK (by omega) h.1.2;have e:(27:Nat) ^ 8=282429536481:=by decide
 omega
def agz(h:l[k]?=some b):code (l.take (k+1))=27*code (l.take k)+(b-97)+1:=by
 unfold code;rw[kw h,gU];rfl
def apa:∀{a b:List Nat},a.all pY=true->b.all pY=true->eF a 0=eF b 0->a=b:=by
 intro a
 induction a using ow with
 |h0=>
  intro b _ c h
  induction b using ow with
  |h0=>rfl
  |h1 l x _=>rw[gU] at h;show[]=_;exfalso;have:eF [x] (eF l 0)=27*eF l 0+(x-97)+1:=rfl;have h0:eF [] 0=0:=rfl;omega
 |h1 l x g=>
  intro b d c h
  induction b using ow with
  |h0=>rw[gU] at h;exfalso;have:eF [x] (eF l 0)=27*eF l 0+(x-97)+1:=rfl;have h0:eF [] 0=0:=rfl;omega
  |h1 m y _=>
   rw[tG] at d c;simp only[ff,qF,vZ,uK] at d c;rw[gU,gU] at h;have i:eF [x] (eF l 0)=27*eF l 0+(x-97)+1:=rfl;have j:eF [y] (eF m 0)=27*eF m 0+(y-97)+1:=rfl;have f:=d.2;have e:=c.2;unfold pY at f e;simp at f e;have:eF l 0=eF m 0/\x=y:=by omega
   rw[g d.1 c.1 this.1,this.2]
def mP{key:Int} :0<=bN key l/\bN key l<=999999999988:=by
 unfold bN;omega
def fc(l:List Nat):Nat->Nat
 |0=>0
 |n+1=>if l[n]?=some 46 then fc l n else n+1
def vP(l:List Nat):List Nat:=l.take (fc l l.length)
def ac7(l:List Nat):∀n,fc l n<=n
 |0=>am _
 |n+1=>by
  unfold fc;split
  .exact Nat.le_succ_of_le (ac7 l n)
  .exact am _
open Classical in
noncomputable def oA(l:List Nat):Option (List Nat):=if bA (vP l)/\gT (vP l)=l then some (vP l) else none
def aau :cB n<=8/\(n<=8->n<=cB n):=by
 unfold cB;split<;>(try split)<;>(try split)<;>omega
def ajg(h:bA l):(gT l).length=cB l.length:=by
 unfold gT;rw[aE,qD];have:=aau.2 h.1.2;omega
def apb(h:bA l):vP (gT l)=l:=by
 have c:∀m,fc (gT l) (l.length+m)=l.length\/l.length+m>(gT l).length:=by
  intro m
  induction m with
  |zero=>
   left;obtain⟨k,f⟩:∃k,l.length=k+1:=⟨l.length-1,by have:=h.1.1;omega⟩;rw[sM,f];unfold fc;rw[be];unfold gT;rw[qv (by omega)];intro e;have:=lE.1 h.2 46 (db e);simp[pY] at this
  |succ m b=>
   by_cases a:l.length+m<(gT l).length
   .rcases b with b|b
    .left;show fc (gT l) (l.length+m+1)=_;unfold fc;rw[du,b];unfold gT at a ⊢;rw[aE,qD] at a;rw[qp (by omega),uu,du (by omega)]
    .omega
   .right;omega
 have d:l.length<=(gT l).length:=by unfold gT;simp
 have:=c ((gT l).length-l.length);rw[Nat.add_sub_cancel' d] at this;unfold vP;rw[this.resolve_right (by omega)];unfold gT;rw[List.take_left]
def ajh(h:bA l):oA (gT l)=some l:=by
 unfold oA;rw[apb h,du ⟨h,rfl⟩]
def rR(l:List Nat):ByteArray:=⟨(l.map UInt8.ofNat).toArray⟩
def anJ(h:∀b∈l,b<256):bs (rR l)=l:=by
 unfold bs rR;simp only[ul]
 conv=>rhs;rw[<-List.map_id l]
 refine vu λb a=> ?_;have:=h b a;simp[UInt8.toNat_ofNat,Nat.mod_eq_of_lt this]
def aw3(s:ByteArray):rR (bs s)=s:=nt (anJ ary)
def apc{s:ByteArray}:∀b∈gT (bs s),b<256:=λb a=>by
 unfold gT at a;rcases mx.1 a with h|h
 .exact ary b h
 .have:=List.eq_of_mem_replicate h;omega
def ahJ(s:ByteArray):bs (rR (gT (bs s)))=gT (bs s):=anJ apc
end
section
variable {β:Bool}
open Go.RowKit
def lS(n a hi:Int)(w:World) :
  Calls (ah β) 22 #[.int .i64 n,.int .i64 a,.int .i64 hi] w λe c=>e=.returned (.bool (decide (a<=n)&&decide (n<=hi)))/\w=c:=by
 by_cases h:a<=n
 .go_enter yk,ntmps22;go_wp2;go_ret;exact⟨by simp[h],rfl⟩
 .go_enter yk,ntmps22;go_wp2;go_ret;have b:decide (a<=n)=false:=by simpa using h
  exact⟨by rw[b];rfl,rfl⟩
end
section
variable {β:Bool}
open Go.RowKit
def afV(s:ByteArray)(n:s.size<=maxLen)(w:World) :
  Calls (ah β) 106 #[.string s] w λe m=>e=.returned (.bool ((bs s).all pY))/\w=m:=by
 unfold maxLen at n;go_enter zh,ntmps106;go_wp2
 go_loop [3] (λi=>∃k:Nat,k<=s.size/\i=.int .i64 k/\((bs s).take k).all pY=true) (λi=>s.size-(intOf i).toNat)
 case atStart=>exact⟨0,eg _,rfl,rfl⟩
 case round=>
  obtain⟨k,p,rfl,f⟩:=hrel;replace f:=ab f;by_cases b:k<s.size
  .have c:=abm b;replace c:=ab c;by_cases q:(s[k]'b).toNat<97
   .have l:=dk (show((s[k]'b).toNat:Int)<97 by omega);have a:(bs s).all pY=false:=by
     rw[uC];exact⟨_,db c.out,by unfold pY;simp;omega⟩
    have d:=ab a;clear a;go_wp2;go_ret;exact⟨aD d.out.symm,rfl⟩
   .have l:=da (show ¬(((s[k]'b).toNat:Int)<97) by omega);by_cases o:122<(s[k]'b).toNat
    .have j:=dk (show 122<((s[k]'b).toNat:Int) by omega);have a:(bs s).all pY=false:=by
      rw[uC];exact⟨_,db c.out,by unfold pY;simp;omega⟩
     have d:=ab a;clear a;go_wp2;go_ret;exact⟨aD d.out.symm,rfl⟩
    .have j:=da (show ¬(122<((s[k]'b).toNat:Int)) by omega);have g:((bs s).take (k+1)).all pY=true:=by
      rw[kw c.out,tG,f.out];simp[pY];omega
     replace g:=ab g;go_wp2
     go_round
     case rel=>exact⟨k+1,by omega,by go_num,g.out⟩
     simp[intOf];omega
  .obtain rfl:k=s.size:=by omega
   have a:(bs s).all pY=true:=by
    have:=f.out
    rwa [pu (by rw[aM];exact am _)] at this
   have d:=ab a;clear a;go_wp2;go_ret;exact⟨aD d.out.symm,rfl⟩
def alB(s:ByteArray)(g:bA (bs s))(w:World) :
  Calls (ah β) 142 #[.string s] w λe o=>e=.returned (.int .i64 (code (bs s)))/\w=o:=by
 have m:=ab g;have u:s.size<=8:=by have:=g.1.2;rwa [aM] at this
 go_enter yW,ntmps142;go_wp2
 go_loop [3,4] (λn i=>∃k:Nat,k<=s.size/\i=.int .i64 k/\n=.int .i64 (code ((bs s).take k))) (λ_ i=>s.size-(intOf i).toNat)
 case atStart=>exact⟨0,eg _,rfl,rfl⟩
 case round=>
  obtain⟨k,v,rfl,rfl⟩:=hrel;by_cases a:k<s.size
  .have l:=abm a;have j:=lE.1 m.out.2 _ (db l);have p:97<=(s[k]'a).toNat/\(s[k]'a).toNat<=122:=by unfold pY at j;simpa using j
   have d:=agz l;have f:code ((bs s).take (k+1))<282429536481:=by
    have y:=aeT ((bs s).take (k+1)) 0 (lE.2 λx q=>lE.1 m.out.2 x (qf q));have t:27 ^ ((bs s).take (k+1)).length<=27 ^ 8:=wK (by omega) (by rw[ef,aM];omega);have e:(27:Nat) ^ 8=282429536481:=by decide
    unfold code;omega
   have b:=ab d;rw[d] at f;revert b f;generalize code ((bs s).take k)=c;intro f b;go_wp2
   go_round
   case rel=>exact⟨k+1,by omega,by go_num,by rw[b.out];congr 1;omega⟩
   simp[intOf];omega
  .obtain rfl:k=s.size:=by omega
   have r:(bs s).take s.size=bs s:=pu (by rw[aM];exact am _);rw[r];go_wp2;go_ret;exact⟨rfl,rfl⟩
def abo(key:Int)(s:ByteArray)(n:1<=key/\key<=99)(d:bA (bs s))(w:World) :
  Calls (ah β) 99 #[.int .i64 key,.string s] w λe g=>e=.returned (.int .i64 (bN key (bs s)))/\w=g:=by
 have f:=acj d;have j:bN key (bs s)=((code (bs s):Int)*(2*key+1)+key*7919) % 999999999989:=rfl;have b:=ab j;have i:=alB (β:=β) s d w;have a:=ab i;revert a;revert b;revert f;generalize code (bs s)=c;intro f b a;have q:0<=(c:Int)*(2*key+1)/\(c:Int)*(2*key+1)<=282429536481*199:=by
  constructor
  .exact Int.mul_nonneg (by omega) (by omega)
  .exact Int.mul_le_mul (by omega) (by omega) (by omega) (by omega)
 go_enter zA,ntmps99;go_wp2;refine a.out.mono ?_;rintro e k ⟨rfl,rfl⟩;have t:wrap64 (2*key)=2*key:=by unfold wrap64;omega
 have p:wrap64 (2*key+1)=2*key+1:=by unfold wrap64;omega
 have o:wrap64 ((c:Int)*(2*key+1))=(c:Int)*(2*key+1):=by unfold wrap64;omega
 have l:wrap64 (key*7919)=key*7919:=by unfold wrap64;omega
 have r:wrap64 ((c:Int)*(2*key+1)+key*7919)=(c:Int)*(2*key+1)+key*7919:=by unfold wrap64;omega
 have m:((c:Int)*(2*key+1)+key*7919).tmod 999999999989=((c:Int)*(2*key+1)+key*7919) % 999999999989:=vK (by omega);go_wp2;go_ret;exact⟨auP b.out.symm,rfl⟩
def aji(n:Nat)(w:World) :
  Calls (ah β) 143 #[.int .i64 n] w λe d=>e=.returned (.int .i64 (cB n))/\w=d:=by
 have g:(n=0/\cB n=0)\/(8<n/\cB n=0)\/((1<=n/\n<=2)/\cB n=2)\/((3<=n/\n<=4)/\cB n=4)\/((5<=n/\n<=8)/\cB n=8):=by
  unfold cB;split<;>(try split)<;>(try split)<;>omega
 rcases g with⟨h,e⟩|⟨h,e⟩|⟨h,e⟩|⟨h,e⟩|⟨h,e⟩
 .rw[e];subst h;go_enter wX,ntmps143;go_wp2;go_ret;exact⟨rfl,rfl⟩
 .rw[e];have c:=da (show ¬((n:Int)<1) by omega);have b:=dk (show 8<(n:Int) by omega);go_enter wX,ntmps143;go_wp2;go_ret;exact⟨rfl,rfl⟩
 all_goals
  rw[e];have c:=da (show ¬((n:Int)<1) by omega);have b:=da (show ¬(8<(n:Int)) by omega)
 .have a:=dk (show(n:Int)<=2 by omega);go_enter wX,ntmps143;go_wp2;go_ret;exact⟨rfl,rfl⟩
 .have a:=da (show ¬((n:Int)<=2) by omega);have f:=dk (show(n:Int)<=4 by omega);go_enter wX,ntmps143;go_wp2;go_ret;exact⟨rfl,rfl⟩
 .have a:=da (show ¬((n:Int)<=2) by omega);have f:=da (show ¬((n:Int)<=4) by omega);go_enter wX,ntmps143;go_wp2;go_ret;exact⟨rfl,rfl⟩
def aAA(l:List Nat)(e:Ending):Prop:=∃t:ByteArray,e=.returned (.string t)/\bs t=l
def apd(s:ByteArray)(j:s.size<=maxLen)(w:World) :
  Calls (ah β) 104 #[.string s] w λe i=>aAA (gT (bs s)) e/\w=i:=by
 unfold maxLen at j;have a:gT (bs s)=bs s++List.replicate (cB s.size-s.size) 46:=by unfold gT;rw[aM]
 replace a:=ab a;have p:=(aau (n:=s.size)).1;go_enter zi,ntmps104;go_wp2;refine(aji s.size w).mono ?_;rintro e m ⟨rfl,rfl⟩;go_wp2
 go_loop [0] (λv=>∃(t:ByteArray) (k:Nat),v=.string t/\bs t=bs s++List.replicate k 46/\k<=cB s.size-s.size) (λv=>cB s.size-(match v with|.string t=>t.size|_=>0))
 case atStart=>exact⟨s,0,rfl,by simp,eg _⟩
 case round=>
  obtain⟨t,k,rfl,c,o⟩:=hrel;have l:t.size=s.size+k:=by rw[<-aM,c,aE,qD,aM]
  replace c:=ab c;by_cases f:t.size<cB s.size
  .have g:=dk (show(t.size:Int)<(cB s.size:Int) by omega);have d:bs (t++⟨#[46]⟩)=bs s++List.replicate (k+1) 46:=by
    rw[iQ,c.out,tc,wN];rfl
   replace d:=ab d;go_wp2
   go_round
   case rel=>exact⟨_,k+1,rfl,d.out,by omega⟩
   case measure=> 
    have:(t++(⟨#[46]⟩:ByteArray)).size=t.size+1:=by rw[<-aM,iQ,aE,aM];rfl
    simp only[this];omega
  .have g:=da (show ¬((t.size:Int)<(cB s.size:Int)) by omega);have b:k=cB s.size-s.size:=by omega
   replace b:=ab b;go_wp2;go_ret;exact⟨⟨t,rfl,by rw[c.out,a.out,b.out]⟩,rfl⟩
def vU{s:ByteArray}(a:k<=s.size):(s.extract 0 k).size=k:=by
 rw[<-aM,cV,rD,ef,aM];omega
end
section
variable {β:Bool}
open Go.RowKit
def anK(x:Int)(w:World)(b:Bool)(a:b=true↔1<=x/\x<=99):Calls (ah β) 53 #[.int .i64 x] w λe c=>e=.returned (.bool b)/\w=c:=by
 replace a:=ab a;by_cases h:1<=x
 .go_enter xZ,ntmps53;go_wp2;go_ret;exact⟨aD (by rw[rc,a.out];simp[h]),rfl⟩
 .go_enter xZ,ntmps53;go_wp2;go_ret;exact⟨aD (by rw[rc,a.out];simp[h];omega),rfl⟩
def agA(s:ByteArray)(n:s.size<=maxLen)(w:World) :
  Calls (ah β) 135 #[.string s] w λe m=>e=.returned (.bool ((bs s).all pY))/\w=m:=by
 unfold maxLen at n;go_enter zd,ntmps135;go_wp2
 go_loop [6] (λi=>∃k:Nat,k<=s.size/\i=.int .i64 k/\((bs s).take k).all pY=true) (λi=>s.size-(intOf i).toNat)
 case atStart=>exact⟨0,eg _,rfl,rfl⟩
 case round=>
  obtain⟨k,p,rfl,f⟩:=hrel;replace f:=ab f;by_cases b:k<s.size
  .have c:=abm b;replace c:=ab c;by_cases q:(s[k]'b).toNat<97
   .have l:=dk (show((s[k]'b).toNat:Int)<97 by omega);have a:(bs s).all pY=false:=by
     rw[uC];exact⟨_,db c.out,by unfold pY;simp;omega⟩
    have d:=ab a;clear a;go_wp2;go_ret;exact⟨aD d.out.symm,rfl⟩
   .have l:=da (show ¬(((s[k]'b).toNat:Int)<97) by omega);by_cases o:122<(s[k]'b).toNat
    .have j:=dk (show 122<((s[k]'b).toNat:Int) by omega);have a:(bs s).all pY=false:=by
      rw[uC];exact⟨_,db c.out,by unfold pY;simp;omega⟩
     have d:=ab a;clear a;go_wp2;go_ret;exact⟨aD d.out.symm,rfl⟩
    .have j:=da (show ¬(122<((s[k]'b).toNat:Int)) by omega);have g:((bs s).take (k+1)).all pY=true:=by
      rw[kw c.out,tG,f.out];simp[pY];omega
     replace g:=ab g;go_wp2
     go_round
     case rel=>exact⟨k+1,by omega,by go_num,g.out⟩
     simp[intOf];omega
  .obtain rfl:k=s.size:=by omega
   have a:(bs s).all pY=true:=by
    have:=f.out
    rwa [pu (by rw[aM];exact am _)] at this
   have d:=ab a;clear a;go_wp2;go_ret;exact⟨aD d.out.symm,rfl⟩
def aav(s:ByteArray)(j:s.size<=maxLen)(w:World)(b:Bool)(g:b=true↔bA (bs s)) :
  Calls (ah β) 167 #[.string s] w λe l=>e=.returned (.bool b)/\w=l:=by
 replace g:=ab g;have HS:=j;unfold maxLen at j;have a:b=(decide (1<=(s.size:Int))&&decide ((s.size:Int)<=8)&&(bs s).all pY):=by
  rw[rc,g.out];unfold bA;rw[aM];simp only[ff,qT];exact⟨λ⟨⟨k,i⟩,f⟩=>⟨⟨by omega,by omega⟩,f⟩,λ⟨⟨k,i⟩,f⟩=>⟨⟨by omega,by omega⟩,f⟩⟩
 replace a:=ab a;by_cases k:1<=s.size
 .have c:=dk (show 1<=(s.size:Int) by omega);by_cases i:s.size<=8
  .have d:=dk (show(s.size:Int)<=8 by omega);go_enter xp,ntmps167;go_wp2;refine(agA s HS w).mono ?_;rintro e m ⟨rfl,rfl⟩;go_wp2;go_ret;exact⟨aD (by rw[a.out,c,d];simp),rfl⟩
  .have d:=da (show ¬((s.size:Int)<=8) by omega);go_enter xp,ntmps167;go_wp2;go_ret;exact⟨aD (by rw[a.out,c,d];simp),rfl⟩
 .have c:=da (show ¬(1<=(s.size:Int)) by omega);go_enter xp,ntmps167;go_wp2;go_ret;exact⟨aD (by rw[a.out,c];simp),rfl⟩
end
section
variable {β:Bool}
open Go.RowKit
def alC{s:ByteArray}(h:k<s.size):code ((bs s).take (k+1))=27*code ((bs s).take k)+((s[k]'h).toNat-97)+1:=agz (abm h)
def ajj(h:bA l)(k:Nat):code (l.take k)<282429536481:=by
 rcases pv k with a|a
 .subst a;simp[code,eF]
 .refine acj ⟨⟨?_, ?_⟩, ?_⟩
  .rw[ef];have:=h.1.1;omega
  .rw[ef];have:=h.1.2;omega
  .rw[lE];exact λx b=>lE.1 h.2 x (qf b)
def auS(key:Int)(s:ByteArray)(r:1<=key/\key<=99)(b:bA (bs s))(w:World) :
  Calls (ah β) 169 #[.int .i64 key,.string s] w λe q=>e=.returned (.tuple #[.int .i64 (bN key (bs s)),.nilIface])/\w=q:=by
 have u:1<=s.size/\s.size<=8:=by have:=b.1;rw[aM] at this;exact this
 have j:s.size<=maxLen:=by unfold maxLen;omega
 have n:=acj b;replace b:=ab b;replace j:=ab j;have l:bN key (bs s)=((code (bs s):Int)*(2*key+1)+7919*key) % 999999999989:=by unfold bN;rw[Int.mul_comm key 7919]
 have g:=ab l;clear l;go_enter yK,ntmps169;go_wp2;refine(anK key w true (by simp;exact r)).mono ?_;rintro e o ⟨rfl,rfl⟩;go_wp2;refine(aav s j.out w true (by simp only[tJ];exact b.out)).mono ?_;rintro e o ⟨rfl,rfl⟩;go_wp2
 go_loop [6,20] (λc i=>∃k:Nat,k<=s.size/\i=.int .i64 k/\c=.int .i64 (code ((bs s).take k))) (λ_ i=>s.size-(intOf i).toNat)
 case atStart=>exact⟨0,eg _,rfl,rfl⟩
 case round=>
  obtain⟨k,p,rfl,rfl⟩:=hrel;by_cases a:k<s.size
  .have d:=alC a;have v:=ajj b.out k;have t:=ajj b.out (k+1);have A:97<=(s[k]'a).toNat/\(s[k]'a).toNat<=122:=by
    have:=lE.1 b.out.2 _ (db (abm a));unfold pY at this;simpa using this
   replace d:=ab d;generalize f:code ((bs s).take k)=cd at *;replace f:=ab f;go_wp2
   go_round
   case rel=>exact⟨k+1,by omega,by go_num,by rw[d.out];congr 1;omega⟩
   simp[intOf];omega
  .obtain rfl:k=s.size:=by omega
   have m:(bs s).take s.size=bs s:=pu (by rw[aM];exact am _);rw[m];clear m;revert g;revert n;generalize code (bs s)=c;intro n g;have y:0<=(c:Int)*(2*key+1)/\(c:Int)*(2*key+1)<=282429536481*199:=by
    constructor
    .exact Int.mul_nonneg (by omega) (by omega)
    .exact Int.mul_le_mul (by omega) (by omega) (by omega) (by omega)
   have C:wrap64 (2*key)=2*key:=by unfold wrap64;omega
   have x:wrap64 (2*key+1)=2*key+1:=by unfold wrap64;omega
   have D:wrap64 ((c:Int)*(2*key+1))=(c:Int)*(2*key+1):=by unfold wrap64;omega
   have z:wrap64 (7919*key)=7919*key:=by unfold wrap64;omega
   have B:wrap64 ((c:Int)*(2*key+1)+7919*key)=(c:Int)*(2*key+1)+7919*key:=by unfold wrap64;omega
   have E:((c:Int)*(2*key+1)+7919*key).tmod 999999999989=((c:Int)*(2*key+1)+7919*key) % 999999999989:=vK (by omega);go_wp2;go_ret2;exact⟨by rw[g.out];rfl,rfl⟩
def arA(key:Int)(s:ByteArray)(nm:Int)(c:1<=key/\key<=99)(b:bA (bs s))(w:World) :
  Calls (ah β) 160 #[.int .i64 key,.string s,.int .i64 nm] w λe d=>e=.returned (.bool (decide (bN key (bs s)=nm)))/\w=d:=by
 replace b:=ab b;go_enter yP,ntmps160;go_wp2;refine(auS key s c b.out w).mono ?_;rintro e f ⟨rfl,rfl⟩;obtain⟨y,a⟩:∃y,y=bN key (bs s):=⟨_,rfl⟩;rw[<-a];replace a:=ab a;by_cases h:y=nm
 .subst h;go_wp2;go_ret;exact⟨aD (by rw[<-a.out];simp),rfl⟩
 .have g:(y ==nm)=false:=de.2 h;go_wp2;go_ret;exact⟨aD (by rw[<-a.out];simp[h]),rfl⟩
end
section
variable {β:Bool}
open Go.RowKit
def ape(n:Nat)(m:1<=n/\n<=8)(w:World) :
  Calls (ah β) 179 #[.int .i64 n] w λe f=>e=.returned (.int .i64 (cB n))/\w=f:=by
 have i:((1<=n/\n<=2)/\cB n=2)\/((3<=n/\n<=4)/\cB n=4)\/((5<=n/\n<=8)/\cB n=8):=by
  unfold cB;split<;>(try split)<;>(try split)<;>omega
 obtain⟨a,b⟩:∃a,a=cB n:=⟨_,rfl⟩;rw[<-b] at i ⊢;replace b:=ab b;have l:=da (show ¬((n:Int)<1) by omega);have j:=da (show ¬(8<(n:Int)) by omega);go_enter yH,ntmps179;go_wp2
 go_loop [3] (λv=>∃k:Nat,v=.int .i64 k/\(k=2\/k=4\/k=8)/\k<=a) (λv=>8-(intOf v).toNat)
 case atStart=>exact⟨2,rfl,.inl rfl,by omega⟩
 case round=>
  obtain⟨k,rfl,o,g⟩:=hrel;by_cases d:k<n
  .have c:=dk (show(k:Int)<(n:Int) by omega);go_wp2
   go_round
   case rel=>exact⟨k*2,by go_num,by omega,by omega⟩
   simp[intOf];omega
  .have c:=da (show ¬((k:Int)<(n:Int)) by omega);obtain rfl:k=a:=by omega
   go_wp2;go_ret;exact⟨rfl,rfl⟩
def alD(s:ByteArray)(r:s.size<=maxLen)(w:World) :
  Calls (ah β) 174 #[.string s,.int .u8 46] w λe q=>e=.returned (.string (s.extract 0 (fc (bs s) s.size)))/\w=q:=by
 unfold maxLen at r;go_enter yI,ntmps174;go_wp2
 go_loop [0] (λv=>∃(t:ByteArray) (k:Nat),v=.string t/\k<=s.size/\t=s.extract 0 k/\fc (bs s) s.size=fc (bs s) k) (λv=>match v with|.string t=>t.size|_=>0)
 case atStart=>exact⟨s,s.size,rfl,am _,by rw[ByteArray.extract_zero_size],rfl⟩
 case round=>
  obtain⟨t,k,rfl,y,c,a⟩:=hrel;have x:t.size=k:=by rw[c,vU y]
  replace c:=ab c;replace a:=ab a;rcases pv k with n|n
  .have p:=da (show ¬(0<(t.size:Int)) by omega);go_wp2;go_ret;exact⟨by rw[a.out,c.out,n];rfl,rfl⟩
  .obtain⟨j,rfl⟩:∃j,k=j+1:=⟨k-1,by omega⟩;have p:=dk (show 0<(t.size:Int) by omega);have z:((j+1:Nat):Int)-1=(j:Int):=by omega
   have f:j<t.size:=by omega
   have g:(bs s)[j]?=some (t[j]'f).toNat:=by
    rw[<-abm f,c.out,cV,rD,tq (by omega)]
   replace g:=ab g;by_cases d:(t[j]'f).toNat=46
   .have o:(((t[j]'f).toNat:Int) ==46)=true:=nF.2 (by omega);have m:fc (bs s) s.size=fc (bs s) j:=by
     rw[a.out];show(if(bs s)[j]?=some 46 then fc (bs s) j else j+1)=_;rw[du (by rw[g.out,d])]
    replace m:=ab m;have l:t.extract 0 j=s.extract 0 j:=by
     apply nt;rw[cV,cV,c.out,cV,rD,rD,rD,wB]
     congr 1;omega
    have u:(t.extract 0 j).size=j:=vU (by omega);replace l:=ab l;go_wp2
    go_round
    case rel=>exact⟨_,j,rfl,by omega,l.out,m.out⟩
    case measure=>
     show(t.extract 0 j).size<t.size;omega
   .have o:(((t[j]'f).toNat:Int) ==46)=false:=de.2 (by omega);have b:fc (bs s) (j+1)=j+1:=by
     show(if(bs s)[j]?=some 46 then fc (bs s) j else j+1)=_;rw[be (by rw[g.out];intro h;exact d (dq h))]
    replace b:=ab b;go_wp2;go_ret;have i:t=s.extract 0 (fc (bs s) s.size):=by rw[a.out,b.out];exact c.out
    exact⟨by rw[<-i];rfl,rfl⟩
def ajk(s:ByteArray)(b:s.size<=maxLen)(w:World) :
  Calls (ah β) 166 #[.string s,.string ⟨#[46]⟩] w λe c=>e=.returned (.string (s.extract 0 (fc (bs s) s.size)))/\w=c:=by
 by_cases d:s.size=0
 .have a:s=ByteArray.empty:=nt (by
   have:(bs s).length=0:=by rw[aM];exact d
   rw[qU this];rfl)
  subst a;go_enter xH,ntmps166;go_wp2;go_ret;exact⟨rfl,rfl⟩
 .have g:s.toList.isEmpty=false:=by
   rw[Bool.eq_false_iff];intro h;rw[List.isEmpty_iff,rj] at h;apply d;have:s.data=#[]:=uQ.1 h;show s.data.size=0;rw[this];rfl
  have f:¬(128:Int)<=(((⟨#[46]⟩:ByteArray)[0]'Nat.zero_lt_one).toNat:Int):=by decide
  replace b:=ab b;go_enter xH,ntmps166;go_wp2_with(go_at_call 174;refine(alD s b.out w).mono ?_;rintro e c ⟨rfl,rfl⟩);go_ret;exact⟨rfl,rfl⟩
end
section
variable {β:Bool}
open Go.RowKit
def alE {a ty d t e:TypeId} {j:TypeInfo}  (l:P.underlying a=some (.pointer t)) (hi:P.info? t=some j) (m:j.bytes<18446744073709551616)
  (c:w.shape? b=some (e,U)) (g:liesAt P P.depth e (U / P.cellsOf e) 0 t 1=true) :
  (Builtin.unsafeSlice_ #[a,d] ty #[.pointer (some ⟨b,0,none⟩),.int .i64 1]).run P w=.ok (.slice (some ⟨b,0,none⟩) 1 1) w:=by
 have i:¬(18446744073709551616:Nat)<=j.bytes:=by omega
 unfold Builtin.unsafeSlice_;refine(qY P (asInt (.int .i64 1)) _ w).trans ?_;have f:(asInt (.int .i64 1)).run P w=.ok 1 w:=by simp[asInt,asIntOf]
 rw[f];refine(qY P (elemOf a) _ w).trans ?_;have k:(elemOf a).run P w=.ok t w:=by simp[elemOf,me l]
 rw[k];simp only[Result.andThen];simp[variablesAt,c,g,typeInfo,hi,sizeOf,IntKind.max,IntKind.signed,IntKind.bits,i]
noncomputable def xCC:Func:=by
 apply(λ(x:Func) (_:{f153 with body:=some og}=x)=>x)
 case x=>dsimp only[og,pX,ahD,als,iP,f153]
def anL:xCC.results=#[]:=results153
def alF:(ah β).funcs[153]?=some xCC:=ac2 β
@[go_sem] theorem aAC(args:Array Value)(w:World):(callFunc 153 args).run (ah β) w=.ok (.enter 153 args) w:=by
 have a:=cH func153;exact lQ alF a rfl args w
def auT:((ah β).info? 183).map (λi=>(i.bytes,i.size))=some (32,2):=by kernel_rfl
def auU:liesAt (ah β) (ah β).depth 183 (2 / (ah β).cellsOf 183) 0 183 1=true:=by kernel_rfl
def ajl(a:w.shape? b=some (183,2)):(Builtin.unsafeSlice_ #[181,3] 0 #[.pointer (some ⟨b,0,none⟩),.int .i64 1]).run (ah β) w=.ok (.slice (some ⟨b,0,none⟩) 1 1) w:=by
 obtain⟨j,d,c⟩:=jt.1 (auT (β:=β));simp only[vG] at c;exact alE yq d (by omega) a auU
def ajm(b:Nat)(w:World)(g:w.cell? ⟨b,0,none⟩=some (.pointer none))(a:w.shape? b=some (183,2))(d:w.frozen? ⟨b,0,none⟩=false) :
  Calls (ah β) 153 #[.pointer (some ⟨b,0,none⟩)] w λe c=>e=.returned (.tuple #[])/\c=w.setCell ⟨b,0,none⟩ (.pointer (some ⟨b,0,none⟩)):=by
 have i:=ajl (β:=β) a;have f:xCC.ntmps=20:=ntmps153;go_enter alF,f;go_wp2;refine pb (results_none anL _ _ _) rfl ?_;exact⟨rfl,rfl⟩
def ayg(B b:Nat)(bs:List Value)(w:World)(h:Lib.IsBuilderF 183 5 B b bs w) :
  Calls (ah β) 153 #[.pointer (some ⟨b,0,none⟩)] w λe a=>e=.returned (.tuple #[])/\(Lib.BuilderAtF 183 5 B b (.pointer (some ⟨b,0,none⟩)) bs a/\Below B w a):=by
 rcases h with h|h
 .refine(ajm b w h.cell0 h.shape h.frozen0).mono ?_;rintro e a ⟨rfl,rfl⟩;exact⟨rfl,h.used _,(fd B w).setCell (p:=⟨b,0,none⟩) h.1 _⟩
 .have j:=ajl (β:=β) h.shape;have g:xCC.ntmps=20:=ntmps153;have i:=h.cell0;have k:=h.frozen0;have c:=h.used (.pointer none);have f:=c.cell0;have d:=c.frozen0;go_enter alF,g;go_wp2;refine pb (results_none anL _ _ _) rfl ?_;refine⟨rfl,c.used _,((fd B w).setCell (p:=⟨b,0,none⟩) h.1 _).setCell (p:=⟨b,0,none⟩) h.1 _⟩
def alG(B b:Nat)(bs:List Value)(w:World)(h:Lib.IsBuilderF 183 5 B b bs w) :
  Calls (ah β) 186 #[.pointer (some ⟨b,0,none⟩)] w λe j=>e=.returned (.int .i64 bs.length)/\j=w:=by
 obtain⟨p,n,v,l,a,i⟩:∃p,Lib.BuilderAtF 183 5 B b p bs w:=by
  rcases h with h|h
  .exact⟨_,h⟩
  .exact⟨_,h⟩
 obtain⟨c,cap,rfl⟩:∃c cap,v=.slice c bs.length cap:=by
  rcases a.2 with⟨d,k⟩|⟨g,cap,f,m,d,_⟩
  .exact⟨none,0,by rw[d,k]⟩
  .exact⟨_,_,d⟩
 have o:w.cell? ⟨b,1,none⟩=some (.slice c bs.length cap):=by rw[rr l];rfl
 go_enter yE,ntmps186;go_wp2;go_ret;exact⟨rfl,rfl⟩
def auV:((ah β).info? 5).map (λi=>(i.zero,i.size,i.bytes))=some (some (.int .u8 0),1,1):=by kernel_rfl
def pZ(B b:Nat)(bs:List Value)(s:ByteArray)(w:World)(h:Lib.IsBuilderF 183 5 B b bs w)(C:bs.length+s.size<=140737488355328)(J:B<=w.heap.size) :
  Calls (ah β) 133 #[.pointer (some ⟨b,0,none⟩),.string s] w λe z=>e=.returned (.tuple #[.int .i64 s.size,.nilIface])/\(Lib.BuilderAtF 183 5 B b (.pointer (some ⟨b,0,none⟩)) (bs++Lib.strCells s) z/\Below B w z):=by
 obtain⟨I,K,q,t,u⟩:=info_parts (auV (β:=β));go_enter ze,ntmps133;go_wp2_with(go_at_call 153;refine(ayg B b bs _ h).mono ?_);rintro e j ⟨rfl,G,i⟩;obtain⟨D,v,l,f,o⟩:=G;have Q:j.cell? ⟨b,0,none⟩=some (.pointer (some ⟨b,0,none⟩)):=by rw[rr l];rfl
 have O:j.cell? ⟨b,1,none⟩=some v:=by rw[rr l];rfl
 go_wp2_with(at_builtin;refine Lib.wpList_append_own_stringF _ rfl _ _ 22 9 rfl B 5 I xj qU9 K q t u _ _ _ rfl f s rfl ?c3 ?c4 ?c5 ?_)
 case c3=>unfold maxLen;omega
 case c4=>omega
 case c5=>have:=i.size;omega
 intro E m a c _;have n:b<j.heap.size:=by
  rcases pm b j.heap.size with r|r
  .exact r
  .simp[qm r] at l
 have d:m.heap[b]?=some (.cells #[.pointer (some ⟨b,0,none⟩),v] 183 (0,0)):=by
  rw[c.block b n (λe=>o e.symm)];exact l
 have P:m.cell? ⟨b,0,none⟩=some (.pointer (some ⟨b,0,none⟩)):=by rw[rr d];rfl
 have N:m.cell? ⟨b,1,none⟩=some v:=by rw[rr d];rfl
 have M:m.frozen? ⟨b,1,none⟩=false:=vE d 1;obtain⟨A,y,cap,rfl⟩:∃A y cap,E=.slice A y cap:=by
  rcases a.2 with⟨x,_⟩|⟨g,cap,H,L,x,_⟩
  .exact⟨_,_,_,x⟩
  .exact⟨_,_,_,x⟩
 go_wp2;go_ret2;refine⟨rfl, ?_, ?_⟩
 .exact Lib.BuilderAtF.put (T:=183) (e:=5) D d (bs':=bs++Lib.strCells s) (by simpa[Lib.strCells_length] using a) (by decide)
 .exact(i.grown c (by have:=i.size;omega) (λk F=>(f.lt k F).1)).setCell (p:=⟨b,1,none⟩) D _
end
section
variable {β:Bool}
open Go.RowKit
def aef:((ah β)).follows .mixedOrders=true:=by kernel_rfl
def auW(B b n:Nat)(w:World)(r:B<=b)(d:w.heap[b]?=some (.cells #[.pointer (some ⟨b,0,none⟩),.slice none 0 0] 183 (0,0)))(g:B<=w.heap.size)(o:n<=281474976710656) :
  Calls (ah β) 154 #[.pointer (some ⟨b,0,none⟩),.int .i64 n] w λe m=>e=.returned (.tuple #[])/\(Lib.BuilderAt 183 5 B b (.pointer (some ⟨b,0,none⟩)) [] m/\Below B w m):=by
 obtain⟨cs,f,q,i⟩:=Lib.run_makeNoZero (P:=(ah β)) w.drew #[3] 22 5 xj n o;have l:IntKind.i64.wrap (IntKind.i64.wrap 0+(n:Int))=n:=by
  rw[uP,uP];omega
 have t:(callFunc 162 #[.int .i64 (IntKind.i64.wrap (IntKind.i64.wrap 0+(n:Int)))]).run (ah β) w.drew=.ok (.value (.slice (some ⟨w.drew.heap.size,0,none⟩) n cs.size)) (w.drew.drew.drew.alloc (.cells cs 5)):=by
  rw[l,run_callFunc_extern yO (by kernel_rfl) (by kernel_rfl) (by kernel_rfl) (e:=Extern.BytealgMakeNoZero.makeNoZero #[3] #[22]) (by kernel_rfl),f];rfl
 have v:w.drew.cell? ⟨b,1,none⟩=some (.slice none 0 0):=by
  have:w.drew.heap[b]?=_:=d;rw[rr this];rfl
 have s:(w.alloc (.cells cs 5)).cell? ⟨b,1,none⟩=some (.slice none 0 0):=by
  have a:b<w.heap.size:=by
   rcases pm b w.heap.size with c|c
   .exact c
   .simp[qm c] at d
  have:(w.alloc (.cells cs 5)).heap[b]?=_:=(Lib.alloc_old w _ b a).trans d;rw[rr this];rfl
 have u:(w.alloc (.cells cs 5)).frozen? ⟨b,1,none⟩=false:=by
  have a:b<w.heap.size:=by
   rcases pm b w.heap.size with c|c
   .exact c
   .simp[qm c] at d
  exact vE ((Lib.alloc_old w _ b a).trans d) 1
 have p:∀W:World,(Builtin.copy_ #[22,22] 3 #[.slice (some ⟨w.heap.size,0,none⟩) 0 cs.size,.slice none 0 0]).run (ah β) W=.ok (goInt 0) W:=
  λW=>run_copy_none W 22 22 3 5 _ _ 0 cs.size 0 0 xj (by kernel_rfl) rfl
 clear l;have k:=aef (β:=β);go_enter yT,ntmps154;go_wp2;have j:=Lib.grown_fresh (T:=183) (e:=5) (cs:=cs) r d g (i (by unfold maxLen;omega)) (by decide)
 go_region_o
 all_goals(go_wp2;go_end0;exact⟨rfl,j⟩)
def anM(B b n:Nat)(w:World)(j:B<=b)(f:w.heap[b]?=some (.cells #[.pointer none,.slice none 0 0] 183 (0,0)))(g:B<=w.heap.size)(m:n<=281474976710656) :
  Calls (ah β) 132 #[.pointer (some ⟨b,0,none⟩),.int .i64 n] w λe d=>e=.returned (.tuple #[])/\(Lib.BuilderAt 183 5 B b (.pointer (some ⟨b,0,none⟩)) [] d/\Below B w d):=by
 have a:(w.setCell ⟨b,0,none⟩ (.pointer (some ⟨b,0,none⟩))).heap[b]?=some (.cells #[.pointer (some ⟨b,0,none⟩),.slice none 0 0] 183 (0,0)):=by
  simp[World.setCell,pr,f]
 have r:(w.setCell ⟨b,0,none⟩ (.pointer (some ⟨b,0,none⟩))).cell? ⟨b,1,none⟩=some (.slice none 0 0):=by rw[rr a];rfl
 have c:Below B w (w.setCell ⟨b,0,none⟩ (.pointer (some ⟨b,0,none⟩))):=(fd B w).setCell (p:=⟨b,0,none⟩) j _;have i:=aef (β:=β);go_enter zf,ntmps132;have q:Lib.BuilderAt 183 5 B b (.pointer (some ⟨b,0,none⟩)) [] (w.setCell ⟨b,0,none⟩ (.pointer (some ⟨b,0,none⟩))):=⟨j,.slice none 0 0,a,uy _ _ _ _,by simp[Value.ownBlock]⟩;have l:(w.setCell ⟨b,0,none⟩ (.pointer (some ⟨b,0,none⟩))).drew.cell? ⟨b,1,none⟩=some (.slice none 0 0):=r;go_wp2_with(go_at_call 153;refine(ajm b w (by rw[rr f];rfl) (by simp[World.shape?,f]) (vE f 0)).mono ?_;rintro e d ⟨rfl,rfl⟩)
 go_region_o
 all_goals go_wp2_with(go_at_call 154;refine(auW B b n (w.setCell ⟨b,0,none⟩ (.pointer (some ⟨b,0,none⟩))).drew j a (by simpa[World.setCell,World.drew, -World.drew_eq] using g) m).mono ?_;rintro e d ⟨rfl,o,k⟩)
 all_goals first
  |(go_end0;exact⟨rfl,o,c.drew.trans k⟩)
  |(go_end0;exact⟨rfl,q.drew,c.drew⟩)
end
end Go.Proofs.YtokgbpkbaoeeoaaGreatDoor