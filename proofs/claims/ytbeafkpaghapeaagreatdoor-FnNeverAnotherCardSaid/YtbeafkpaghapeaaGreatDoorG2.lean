/- A part of the proof. -/
import Derived.Test.YtbeafkpaghapeaaGreatDoorG1
import Derived.KernelRfl
import Derived.Test.YtbeafkpaghapeaaGreatDoorRows
import Derived.ProofKit
import Derived.OpenShut
import Derived.Handy
import Derived.BigQuiet
import Derived.Deep.QuietTactic
import Derived.Outline
import Derived.Deep.Draws
import Derived.Lib.Hide
import Derived.Laws.Strings
import Derived.Maps.AppendAt
import Derived.Deep.OwnRows
set_option maxRecDepth 100000
set_option maxHeartbeats 8000000
set_option linter.all false
open Go Go.RowKit Go.Proofs.Tryz Go.Proofs.YtbeafkpaghapeaaGreatDoor
variable {Z Q B c hi k m n:Nat} {Y:Type} {o:Oper} {R fr:Frame} {K a w w':World} {v:Value} {e:TypeId} {f:FuncId} {P:Program} {S:Nat→Prop} {i:TypeInfo} {I todo:List Item} {g g':Goroutine} {rest:List Oper} {V cs l l':List Frame} {U news:List Value} {N:Array Oper} {M r:Option Nat} {W t:Array Value} {O es:Array Event} {A:Option Addr} {J:List Deferred} {e':Operand→Value} {s':List Frame→GStep} {L:TypeId→Option TypeInfo} {s:List Frame→World→GStep} {x:Y} {xs:List Y}
namespace Go.Proofs.YtbeafkpaghapeaaGreatDoor
def ab:=@_root_.Go.Lib.hid
def aE:=@_root_.List.length_append
def da:=@_root_.decide_eq_false
def db:=@_root_.List.mem_of_getElem?
def de:=@_root_.beq_eq_false_iff_ne
def dj:=@_root_.decide_eq_true
def fa:=@_root_.List.length_take
def fb:=@_root_.Nat.zero_le
def ga:=@_root_.List.length_cons
def gE:=@_root_.Array.getD_eq_getD_getElem?
def io:=@_root_.Go.RowKit.Below.heap_setCell
def iS:=@_root_.List.getElem?_eq_getElem
def lc:=@_root_.Option.map_eq_some_iff
def mc:=@_root_.Nat.zero_add
def me:=@_root_.Go.run_underlying
def nf:=@_root_.Go.Value.slice.injEq
def oE:=@_root_.List.mem_cons
def pb:=@_root_.Option.bind_eq_some_iff
def pi:=@_root_.Nat.lt_or_ge
def pm:=@_root_.List.take_of_length_le
def pu:=@_root_.List.mem_of_mem_take
def qa:=@_root_.Nat.eq_zero_or_pos
def qb:=@_root_.Array.getElem?_setIfInBounds_self_of_lt
def qc:=@_root_.List.length_map
def qd:=@_root_.Array.getElem?_eq_none
def qf:=@_root_.List.cons.injEq
def qg:=@_root_.List.getElem?_append_right
def qk:=@_root_.Option.map_some
def qn:=@_root_.List.getElem?_append_left
def qo:=@_root_.Option.getD_some
def qp:=@_root_.Go.World.cell?_of_block
def qr:=@_root_.List.mem_range
def qs:=@_root_.Bool.false_ne_true
def qu:=@_root_.and_true
def qv:=@_root_.List.mem_cons_self
def qw:=@_root_.List.length_replicate
def qx:=@_root_.List.getElem?_take
def qC:=@_root_.Array.mem_of_getElem?
def qH:=@_root_.List.getElem?_map
def qI:=@_root_.Nat.mul_le_mul_right
def qJ:=@_root_.Go.Stepped.next.injEq
def qK:=@_root_.Go.ByteArray.toList_eq
def qM:=@_root_.List.eq_nil_of_length_eq_zero
def qN:=@_root_.Classical.byContradiction
def qP:=@_root_.Go.Sem.run_bind'
def qS:=@_root_.decide_eq_true_eq
def qU:=@_root_.List.mem_cons_of_mem
def qV:=@_root_.Bool.or_eq_true
def qW:=@_root_.List.cons_append
def qY:=@_root_.List.getElem?_eq_none
def ru:=@_root_.List.nil_append
def rx:=@_root_.List.mem_iff_getElem?
def ry:=@_root_.Option.isSome_iff_exists
def rH:=@_root_.List.drop_zero
def rM:=@_root_.List.drop_eq_nil_of_le
def rN:=@_root_.Array.getElem?_append_left
def rV:=@_root_.Array.mem_toList_iff
def su:=@_root_.Go.RowKit.Below.heap_alloc
def sO:=@_root_.List.append_assoc
def tf:=@_root_.List.map_append
def tk:=@_root_.List.all_append
def tA:=@_root_.Go.Sem.run_bind
def tC:=@_root_.Nat.mul_comm
def tD:=@_root_.Nat.add_zero
def tL:=@_root_.dif_pos
def tR:=@_root_.Go.Sem.run_pure
def tZ:=@_root_.List.getElem?_replicate
def uh:=@_root_.Go.Result.andThen_ok
def ui:=@_root_.List.all_eq_false
def uo:=@_root_.Bool.false_or
def uq:=@_root_.Bool.and_true
def uy:=@_root_.Array.toList_inj
def uD:=@_root_.UInt8.toNat_inj
def uV:=@_root_.Nat.add_assoc
def uW:=@_root_.Int.tmod_eq_emod_of_nonneg
def uY:=@_root_.Bool.or_false
def uZ:=@_root_.Bool.not_true
def vz:=@_root_.List.extract_eq_take_drop
def vE:=@_root_.List.all_nil
def vG:=@_root_.List.range_succ
def vL:=@_root_.ByteArray.data_extract
def vV:=@_root_.Nat.pow_le_pow_right
def vX:=@_root_.List.replicate_succ'
def wl:=@_root_.List.map_congr_left
section
def aaB{t:TypeId}(h:adD P t=true):∀k e,P.underlying t=some (.map k e)->∃b,P.underlying k=some (.int b):=λk e a=>by
 unfold adD agm at h;rw[a] at h;dsimp only at h;split at h
 .exact⟨_,by assumption⟩
 .cases h
section
variable {P P':Program} {ρ:Ren}
variable (T:Twin P P') (X:ahH P P')
include T
theorem lQ:∀(d:Nat) {ρ:Ren} (t:TypeId) {x k y i:Value},VR ρ x k->VR ρ y i->az P P' js ρ (Op.eqGuardIn d t x y) (Op.eqGuardIn d t k i)
 |0,_,_,_,_,_,_,_,_=>.halt _ _
 |d+1,ρ,t,x,k,y,i,g,c=>by
  unfold Op.eqGuardIn;refine ai (aD T t) λM u O C hd=> ?_;obtain⟨rfl,hd⟩:=hd;replace g:=g.mono C;replace c:=c.mono C;cases u with
  |interface N=>cases g<;>cases c<;>first|exact aj rfl|(cases k<;>first|exact aj rfl|exact absurd (by assumption:jy Value.nilIface=true) (by decide)|exact absurd (by assumption:jy (Value.agg _)=true) qs)|(cases i<;>first|exact aj rfl|exact absurd (by assumption:jy Value.nilIface=true) (by decide)|exact absurd (by assumption:jy (Value.agg _)=true) qs)
  |struct L=>cases g with
   |agg g=>cases c with
    |agg c=>
     refine ai (abo (B:=js) L (rfl:js M (none,()) (none,())) λo f r m l _ _=> ?_) λo r m l e=> ?_
     .refine aV (λ_=> ?_) λ_=>aj (.yield rfl);refine ai (mb T f.type (bN.mono l g) f.offset) λJ a I w s=> ?_;refine ai (mb T f.type (bN.mono (l.trans w) c) f.offset) λH b F p j=> ?_;refine ai (lQ d f.type (s.mono p) j) λD q v _ e=> ?_;obtain rfl:q=v:=e;exact aV (λ_=>aj (.done rfl)) λ_=>aj (.yield rfl)
     .obtain rfl:r=m:=e;obtain⟨_|q,u⟩:=r<;>exact aj rfl
    |fH=>(cases i<;>first|exact aj rfl|exact absurd (by assumption:jy Value.nilIface=true) (by decide)|exact absurd (by assumption:jy (Value.agg _)=true) qs)
    |_=>exact aj rfl
   |_=>cases c<;>first|exact aj rfl|(cases k<;>first|exact aj rfl|exact absurd (by assumption:jy Value.nilIface=true) (by decide)|exact absurd (by assumption:jy (Value.agg _)=true) qs)|(cases i<;>first|exact aj rfl|exact absurd (by assumption:jy Value.nilIface=true) (by decide)|exact absurd (by assumption:jy (Value.agg _)=true) qs)
  |array n e=>cases g with
   |agg g=>cases c with
    |agg c=>
     refine ai (fD T e) λK z G E q=> ?_;obtain rfl:z=G:=q;refine ai (abp (B:=js) n (rfl:js K (none,()) (none,())) λo f r m l _=> ?_) λo r m l e=> ?_
     .have A:=E.trans l;refine ai (mb T e (bN.mono A g) (f*z)) λJ a I w s=> ?_;refine ai (mb T e (bN.mono (A.trans w) c) (f*z)) λH b F p j=> ?_;refine ai (lQ d e (s.mono p) j) λD q v _ e=> ?_;obtain rfl:q=v:=e;exact aV (λ_=>aj (.done rfl)) λ_=>aj (.yield rfl)
     .obtain rfl:r=m:=e;obtain⟨_|q,u⟩:=r<;>exact aj rfl
    |fH=>(cases i<;>first|exact aj rfl|exact absurd (by assumption:jy Value.nilIface=true) (by decide)|exact absurd (by assumption:jy (Value.agg _)=true) qs)
    |_=>exact aj rfl
   |_=>cases c<;>first|exact aj rfl|(cases k<;>first|exact aj rfl|exact absurd (by assumption:jy Value.nilIface=true) (by decide)|exact absurd (by assumption:jy (Value.agg _)=true) qs)|(cases i<;>first|exact aj rfl|exact absurd (by assumption:jy Value.nilIface=true) (by decide)|exact absurd (by assumption:jy (Value.agg _)=true) qs)
  |_=>exact aj rfl
theorem anx(op:BinOp)(t:TypeId)(x y:Operand){a b c : Value}(j:VR ρ a v)(d:VR ρ b c):az P P' js ρ (eqGuard op t x y a b) (eqGuard op t x y v c):=by
 unfold eqGuard;refine aV (λ_=>aj rfl) λ_=> ?_;have i:=j;have g:=d;cases j with
 |nilIface=>cases d with
  |nilIface=>
   refine aV (λ_=>aj rfl) λ_=> ?_;refine ai (lQ T _ t .nilIface .nilIface) λm q f _ e=> ?_;obtain rfl:q=f:=e;exact aV (λ_=>.halt _ _) λ_=>aj rfl
  |fH=>(cases c<;>first|exact aj rfl|exact absurd (by assumption:jy Value.nilIface=true) (by decide)|exact absurd (by assumption:jy (Value.agg _)=true) qs)
  |_=>exact aj rfl
 |agg j=>cases d with
  |agg d=>
   refine ai dc λm p A l n=> ?_;obtain⟨r,w⟩:=n;refine ai dc λz q f k o=> ?_;obtain⟨s,u⟩:=o;rw[r,w,s,u,T.ajI,T.depth];refine aV (λ_=>aj rfl) λ_=> ?_;refine ai (lQ T _ t (i.mono (l.trans k)) (g.mono (l.trans k))) λm q f _ e=> ?_;obtain rfl:q=f:=e;exact aV (λ_=>.halt _ _) λ_=>aj rfl
  |fH=>(cases c<;>first|exact aj rfl|exact absurd (by assumption:jy Value.nilIface=true) (by decide)|exact absurd (by assumption:jy (Value.agg _)=true) qs)
  |_=>exact aj rfl
 |_=>cases d<;>first|exact aj rfl|(cases v<;>first|exact aj rfl|exact absurd (by assumption:jy Value.nilIface=true) (by decide)|exact absurd (by assumption:jy (Value.agg _)=true) qs)|(cases c<;>first|exact aj rfl|exact absurd (by assumption:jy Value.nilIface=true) (by decide)|exact absurd (by assumption:jy (Value.agg _)=true) qs)
theorem anz(f dst:TypeId)(a:ajG P f dst=true){x : Value}(c:VR ρ x v):az P P' VR ρ (convert f dst x) (convert f dst v):=by
 unfold convert;refine ai (aD T f) λA u y r l=> ?_;obtain⟨rfl,l⟩:=l;refine ai (aD T dst) λn v t o m=> ?_;obtain⟨rfl,m⟩:=m;replace c:=c.mono (r.trans o);unfold ajG at a;rw[l,m] at a;cases v with
 |int k=>
  cases u with
  |int w=>cases c with
   |int=>exact aj (.int _ _)
   |pointer h=>cases h<;>exact .halt _ _
   |slice h=>cases h<;>exact .halt _ _
   |_=>exact .halt _ _
  |_=>cases a
 |string=>
  cases u with
  |slice e=>
   have b:∀{x v:Value},VR n x v->az P P' VR n (do
     match<-underlying e with
     |.int .u8=>Conv.bytesToString x
     |.int .i32=>Conv.runesToString x
     |_=>stuck "Convert: a slice of what to string?") (do
     match<-underlying e with
     |.int .u8=>Conv.bytesToString v
     |.int .i32=>Conv.runesToString v
     |_=>stuck "Convert: a slice of what to string?"):=λ{x v} c=>by
    refine ai (aD T e) λq z p j g=> ?_;obtain⟨rfl,g⟩:=g;dsimp only at a;rw[g] at a;cases z with
    |int k=>cases k<;>first|exact adp (c.mono j)|exact .halt _ _|cases a
    |_=>exact .halt _ _
   have i:=c;cases c with
   |int=>exact aj (.string _)
   |string s=>exact aj (.string _)
   |pointer h=>cases h<;>exact b i
   |slice h=>cases h<;>exact b i
   |fH=>
    refine .dead (Leaves.bind (aea e) λd _=> ?_) _;cases d with
    |int k=>cases k<;>exact trivial
    |_=>exact trivial
   |_=>exact b i
  |unsafePointer=>cases a
  |_=>cases c with
   |int=>exact aj (.string _)
   |string s=>exact aj (.string _)
   |pointer h=>cases h<;>exact .halt _ _
   |slice h=>cases h<;>exact .halt _ _
   |_=>exact .halt _ _
 |slice e=>
  cases u with
  |string=>cases c with
   |string s=>
    refine ai (aD T e) λq z p j g=> ?_;obtain⟨rfl,g⟩:=g;dsimp only at a;rw[g] at a;cases z with
    |int k=>cases k<;>first|exact adq e s|exact .halt _ _|cases a
    |_=>exact .halt _ _
   |pointer h=>cases h<;>exact .halt _ _
   |slice h=>cases h<;>exact .halt _ _
   |_=>exact .halt _ _
  |_=>cases a
 |_=>cases u<;>cases a
theorem aj6{e : Operand->Value}(x:Operand)(dst:Option Tmp)(t:TypeId)(pos:String)(af:Array Edge)(g:Option (Nat×Bool))(o:VR ρ (e x) (e' x)):az P P' iq ρ (execOp e ⟨dst,.nilCheck x,t,pos,af,g⟩) (execOp e' ⟨dst,.nilCheck x,t,pos,af,g⟩):=by
 unfold execOp;dsimp only;revert o;generalize e x=v;generalize e' x=v';intro o;cases o with
 |pointer h=>cases h with
  |none=>exact .dead (eh _) _
  |some h=>exact aj (.value (.pointer (.some h)))
 |nilIface=>exact .dead (eh _) _
 |nilFunc=>exact .dead (eh _) _
 |@func p r i _ _ _ _ m l=>
  cases i with
  |same _ i=>
   cases p with
   |func p=>exact aj (.value (.func (.same _ i) m l))
   |_=>cases i
  |yield h=>exact aj (.value (.func (.yield h) m l))
 |abe k j=>exact .dead (eh _) _
 |slice m l q=>exact aj (.value (.slice m l q))
 |map h=>exact aj (.value (.map h))
 |chan h=>exact aj (.value (.chan h))
 |iface t h=>exact aj (.value (.iface t h))
 |agg h=>exact aj (.value (.agg h))
 |tuple h=>exact aj (.value (.tuple h))
 |fH j d=>
  cases v' with
  |pointer a=>cases a with
   |none=>cases d
   |some a=>exact aj (.value (.fH j d))
  |func f a c=>cases f<;>first|(cases d;done)|exact aj (.value (.fH j d))
  |_=>first|(cases d;done)|exact aj (.value (.fH j d))
 |bool b=>exact aj (.value (.bool b))
 |int k n=>exact aj (.value (.int k n))
 |string s=>exact aj (.value (.string s))
theorem anA(b:Builtin)(c:Array TypeId)(t:TypeId)(cs:Array Bool)(d:acm P b c=true){a : Array Value}(h:dh ρ a W):az P P' iq ρ (builtin b c t cs a) (builtin b c t cs W):=by
 cases b with
 |append=>
  refine bC (aph T c t (λu f k e=> ?_) h);unfold acm agm at d;rw[f] at d;simp[e] at d
 |cap=>exact bC (ayo T c t h)
 |clear=>exact bC (asy T c t h)
 |copy=>exact bC (awi T c t h)
 |len=>exact bC (ayn T c t h)
 |max=>exact bC (ayp c t h)
 |min=>exact bC (ayq c t h)
 |unsafeString=>exact bC (ad7 T c t h)
 |unsafeSlice=>exact bC (ae8 T c t h)
 |_=>cases d
include X
theorem amg{v' : Value}(a:VR ρ v v'){args args':Array Value}(b:dh ρ args args'):az P P' iq ρ (do let d<-Deferred.ofValue v args;invoke d.target d.args) (do let d<-Deferred.ofValue v' args';invoke d.target d.args):=by
 unfold Deferred.ofValue;cases a with
 |nilFunc=>
  show az P P' iq ρ (runtimePanic .nilDeref) _;exact .dead (eh _) _
 |@func f l a _ _ _ _ g i=>
  cases a with
  |same _ a=>
   cases f with
   |func f=>exact ajT T X f a (dh.app (dh.app g b) i)
   |_=>cases a
  |yield h=>exact asD h (dh.app g b)
 |abe k j=>
  refine .dead ?_ _;show kO P (invoke (.fn (.method "") (Array.replicate k .nilIface)) (#[.nilIface]++args));have e:(#[Value.nilIface]++args)[0]?=some .nilIface:=by
   rw[rN (by show 0<1;omega)];rfl
  unfold invoke;simp only[e];show kO P (runtimePanic .nilDeref);exact eh _
 |_=>exact .halt _ _
theorem awv(c:Call)(t:TypeId){e : Operand->Value}(l:adr ρ e e')(j:lZ P gA gL (.call c)=true):az P P' iq ρ (do let d<-resolve e c t;invoke d.target d.args) (do let d<-resolve e' c t;invoke d.target d.args):=by
 unfold lZ at j;simp only[ff] at j;obtain⟨g,k⟩:=j;obtain⟨a,args,n⟩:=c;simp only[Op.operands,Call.operands,pv,tk,ff] at g;have i:=l.map g.2;cases a with
 |builtin b=>
  exact anA T b n t _ k i
 |invoke r m=>cases k
 |value f=>exact amg T X (l f (by simpa using g.1)) i
theorem aBw{o' : Oper}(a:pZ gA gL o'.op=true)(c:o={o' with type:=gB}){e : Operand->Value}(f:adr ρ e e'):az P P' iq ρ (execOp e o) (execOp e' o'):=by
 subst c;obtain⟨dst,op,type,d,after,b⟩:=o';dsimp only at a;unfold pZ at a;split at a
 .exact bC (abq _ gB type T.asq (f.map a))
 .cases a
theorem apC(w:lZ P gA gL o.op=true){e : Operand->Value}(p:adr ρ e e'):az P P' iq ρ (execOp e o) (execOp e' o):=by
 obtain⟨dst,op,v,K,after,D⟩:=o;dsimp only at w;have A:=w;unfold lZ at w;simp only[ff] at w;obtain⟨j,u⟩:=w;cases op with
 |move x=>exact aj (.value (p x (by simpa[Op.operands] using j)))
 |assign x=>exact aj (.value (p x (by simpa[Op.operands] using j)))
 |pick c a b=>
  simp[Op.operands] at j;refine ai (adV (p c j.1)) λI q L z e=> ?_;obtain rfl:q=L:=e;cases q with
  |true=>exact aj (.value ((p a j.2.1).mono z))
  |false=>exact aj (.value ((p b j.2.2).mono z))
 |alloc t=>exact bC (ast T t)
 |box t x=>exact bC (aym t (p x (by simpa[Op.operands] using j)))
 |build t F=>
  refine bC (asx T t ?_);rw[qA,qA];exact p.parts (by simpa[Op.operands] using j)
 |buildSlice t n F=>
  refine bC (ago T t n ?_);rw[qA,qA];exact p.parts (by simpa[Op.operands] using j)
 |load t a=>exact bC (ape T t (p a (by simpa[Op.operands] using j)))
 |store t a x=>
  simp[Op.operands] at j;exact agt (anh T t (p a j.1) (p x j.2))
 |nilCheck x=>exact aj6 T x _ _ _ _ _ (p x (by simpa[Op.operands] using j))
 |binOp op t x y M=>
  simp[Op.operands] at j;refine bC (ai (anx T op t x y (p x j.1) (p y j.2)) λI _ _ z _=>asC T op t ((p x j.1).mono z) ((p y j.2).mono z))
 |unOp op t x=>exact bC (asz op (p x (by simpa[Op.operands] using j)))
 |convert s d x=>exact bC (anz T s d u (p x (by simpa[Op.operands] using j)))
 |makeInterface t x=>exact bC (adl T t (p x (by simpa[Op.operands] using j)))
 |makeFunc f a c=>
  simp only[Op.operands,pv,tk,ff] at j;exact bC (ajL (.same f u) (p.map j.1) (p.map j.2))
 |makeMap t r=>cases r with
  |none=>exact bC (ajM t)
  |some x=>cases u
 |makeSlice t l c=>
  simp[Op.operands] at j;exact bC (ahF T t (p l j.1) (p c j.2))
 |slice t x l h m=>
  simp only[Op.operands,pv,tk,ff] at j;obtain⟨⟨⟨C,B⟩,E⟩,G⟩:=j;have op:∀{l:Option Operand},l.toArray.toList.all (bJ gA gL)=true->OVR ρ (l.map e) (l.map e'):=λ{l} h=>p.opt λx J=>by subst J;simpa using h
  exact bC (anl T t (p x (by simpa using C)) (op B) (op E) (op G))
 |fieldAddr t x f=>
  refine bC (anj T t f (λN g i C B E=> ?_) (p x (by simpa[Op.operands] using j)));unfold al3 at u;simpa[C,B,E] using u
 |field t x f=>exact bC (asu T t (p x (by simpa[Op.operands] using j)) f)
 |indexAddr t x i=>
  simp[Op.operands] at j;exact bC (ank T t (p x j.1) (p i j.2))
 |index t x i=>
  simp[Op.operands] at j;exact bC (asw T t (p x j.1) (p i j.2))
 |lookup t x i H=>
  simp[Op.operands] at j;exact bC (apj T t (aaB u) (p x j.1) (p i j.2) H)
 |mapUpdate t m k x=>
  simp[Op.operands] at j;exact agt (acU T t (aaB u) (p m j.1) (p k j.2.1) (p x j.2.2))
 |insert t m k x=>
  simp[Op.operands] at j;exact agt (acU T t (aaB u) (p m j.1) (p k j.2.1) (p x j.2.2))
 |range t x=>exact bC (asB T t (p x (by simpa[Op.operands] using j)))
 |next x b=>exact bC (awn (p x (by simpa[Op.operands] using j)) b v)
 |extract x i=>exact bC (ani (p x (by simpa[Op.operands] using j)) i)
 |call c=>exact awv T X c v p A
 |panic x=>exact bC (asA _ _)
 |_=>cases u
end
section
variable (P:Program)
inductive ItR (ρ:Ren):Item->Item->Prop
 |code (c:Code):ItR ρ (.code (gP c)) (.code c)
 |inBlock (id:Nat):ItR ρ (.inBlock id) (.inBlock id)
 |inLoop (c:Code):ItR ρ (.inLoop (gP c)) (.inLoop c)
 |inScope (c:Code):ItR ρ (.inScope (gP c)) (.inScope c)
 |inRegion {ops ops':Array Oper} (h:apb P ops ops') (l:List Nat):ItR ρ (.inRegion ops l) (.inRegion ops' l)
 |inRangeFunc {l l':Nat} (h:ρ.r l l'):ItR ρ (.inRangeFunc l) (.inRangeFunc l')
 |endRangeFunc {l l':Nat} (h:ρ.r l l'):ItR ρ (.endRangeFunc l) (.endRangeFunc l')
 |beginRound:ItR ρ .beginRound .beginRound
inductive jD (ρ:Ren):List Item->List Item->Prop
 |nil:jD ρ [] []
 |cons {x x':Item} {l l':List Item} (h:ItR P ρ x x') (hl:jD ρ l l'):jD ρ (x::l) (x'::l')
end
inductive CDs (ρ:Ren):List Deferred->List Deferred->Prop
 |nil:CDs ρ [] []
 |cons {b b':Nat} {l l':List Deferred} (h:ρ.r b b') (hl:CDs ρ l l'):CDs ρ (⟨.collected b,#[]⟩::l) (⟨.collected b',#[]⟩::l')
structure FrR (P:Program) (ρ:Ren) (fr cA:Frame):Prop where
 fn:fr.fn=cA.fn
 tmps:dh ρ fr.tmps cA.tmps
 todo:jD P ρ fr.todo cA.todo
 defers:CDs ρ fr.defers cA.defers
 mode:(fr.mode=.run/\cA.mode=.run)\/(fr.mode=.returning/\cA.mode=.returning)
 kind:fr.kind=.normal/\cA.kind=.normal
 round:NR ρ fr.roundOf cA.roundOf
inductive iF (P:Program) (ρ:Ren):List Frame->List Frame->Prop
 |one {fr cA:Frame} (h:FrR P ρ fr cA) (h0:fr.roundOf=none):iF P ρ [fr] [cA]
 |cons {fr cA:Frame} {l l':List Frame} (h:FrR P ρ fr cA) (hl:iF P ρ l l'):iF P ρ (fr::l) (cA::l')
section
variable {P:Program} {ρ σ:Ren}
def ItR.mono(h:ρ.Le σ){x a:Item}:ItR P ρ x a->ItR P σ x a
 |.code c=>.code c
 |.inBlock id=>.inBlock id
 |.inLoop c=>.inLoop c
 |.inScope c=>.inScope c
 |.inRegion h l=>.inRegion h l
 |.inRangeFunc x=>.inRangeFunc (h.r x)
 |.endRangeFunc x=>.endRangeFunc (h.r x)
 |.beginRound=>.beginRound
def jD.mono(h:ρ.Le σ):∀{x a:List Item},jD P ρ x a->jD P σ x a
 |_,_,.nil=>.nil
 |_,_,.cons x y=>.cons (x.mono h) (y.mono h)
def CDs.mono(h:ρ.Le σ):∀{x a:List Deferred},CDs ρ x a->CDs σ x a
 |_,_,.nil=>.nil
 |_,_,.cons x y=>.cons (h.r x) (y.mono h)
def FrR.mono(h:ρ.Le σ)(x:FrR P ρ fr R):FrR P σ fr R:=
 ⟨x.fn,bN.mono h x.tmps,x.todo.mono h,x.defers.mono h,x.mode,x.kind,x.round.mono h⟩
def iF.mono(h:ρ.Le σ):∀{x a:List Frame},iF P ρ x a->iF P σ x a
 |_,_,.one x y=>.one (x.mono h) y
 |_,_,.cons x y=>.cons (x.mono h) (y.mono h)
def VR.undef:VR ρ undef undef:=.tuple .nil
def apb.dst{a : Array Oper}(h:apb P N a)(i:Nat):(N[i]?).bind (·.dst)=(a[i]?).bind (·.dst):=by
 obtain⟨f,h⟩:=h;cases e:N[i]? with
 |none=>
  have:a[i]?=none:=by
   rw[qh] at e ⊢;omega
  rw[this]
 |some o=>
  have d:=(dl.1 e).1;obtain⟨b,c⟩:∃b,a[i]?=some b:=⟨_,fi (by omega)⟩;rw[c];rcases h i o b e c with⟨rfl,_⟩|⟨_,rfl⟩<;>rfl
def FrR.finish(h:FrR P ρ fr R){v' : Value}(z:VR ρ v v'):FrR P ρ (fr.finish v) (R.finish v'):=by
 obtain⟨f,t,y,d,m,k,r⟩:=fr;obtain⟨E,s,B,D,F,C,A⟩:=R;obtain⟨u,a,w,b,e,g,c⟩:=h;dsimp only at u a w b e g c;subst u;cases w with
 |nil=>exact⟨rfl,a,.nil,b,e,g,c⟩
 |cons x j=>
  cases x with
  |inRegion p l=>
   cases l with
   |nil=>exact⟨rfl,a,.cons (.inRegion p []) j,b,e,g,c⟩
   |cons i o=>
    refine⟨rfl, ?_,.cons (.inRegion p o) j,b,e,g,c⟩;show dh ρ (match _ with|some d=>t.setIfInBounds d v|none=>t) (match _ with|some d=>s.setIfInBounds d v'|none=>s);rw[p.dst i];split
    .exact a.set _ z
    .exact a
  |inRangeFunc q=>exact⟨rfl,a,.cons (.endRangeFunc q) j,b,e,g,c⟩
  |beginRound=>exact⟨rfl,a,j,b,e,g,c⟩
  |code n=>exact⟨rfl,a,.cons (.code n) j,b,e,g,c⟩
  |inBlock id=>exact⟨rfl,a,.cons (.inBlock id) j,b,e,g,c⟩
  |inLoop n=>exact⟨rfl,a,.cons (.inLoop n) j,b,e,g,c⟩
  |inScope n=>exact⟨rfl,a,.cons (.inScope n) j,b,e,g,c⟩
  |endRangeFunc n=>exact⟨rfl,a,.cons (.endRangeFunc n) j,b,e,g,c⟩
def jD.exit(id:Nat):∀{k a:List Item},jD P ρ k a->(exitTo id k=none/\exitTo id a=none)\/∃l c,exitTo id k=some l/\exitTo id a=some c/\jD P ρ l c
 |_,_,.nil=>.inl ⟨rfl,rfl⟩
 |_,_,.cons x y=>by
  have b:=y.exit id;cases x with
  |inBlock i=>
   unfold exitTo;by_cases e:(i ==id)=true
   .rw[dq e,dq e];exact .inr ⟨_,_,rfl,rfl,y⟩
   .rw[bv e,bv e];exact b
  |code|inLoop|inScope|inRegion|inRangeFunc|endRangeFunc|beginRound=>simpa[exitTo] using b
end
def kI(w:World)(ds:List Deferred):Prop:=∀d∈ds,∃b,d=⟨.collected b,#[]⟩/\∀x l,w.heap[b]?≠some (.deferred (some (x::l)))
inductive mK (base:List Frame):GStep->Prop
 |ended (o:Outcome) (w:World) (es:Array Event):mK base (.ended o w es)
 |stop {g:Goroutine} {w:World} {es:Array Event} (h:g.status=.blocked\/g.status=.waiting):mK base (.go g w es)
 |raised {fr:Frame} {cs:List Frame} {w:World} {es:Array Event} {ch:List PanicEntry} (hm:fr.mode=.panicking ch) (hd:∀f∈fr::cs,kI w f.defers):mK base (.go {frame:=fr,callers:=cs++base,status:=.running,dying:=none} w es)
 |dying {fr:Frame} {w:World} {es:Array Event} {d:Dying} {f:Fatal} (hf:d.fatal=some f) (hc:d.calling=false):mK base (.go {frame:=fr,callers:=[],status:=.running,dying:=some d} w es)
def mK.after{base:List Frame}{s:GStep}(es:Array Event)(h:mK base s):mK base (s.after es):=by
 cases h with
 |ended o w e=>exact .ended o w _
 |stop h=>exact .stop h
 |raised a hd=>exact .raised a hd
 |dying b c=>exact .dying b c
def Gl:List Frame->List Frame->Goroutine
 |[],base=>{(default:Goroutine) with callers:=base}
 |fr::cs,base=>⟨fr,cs++base,.running,none,none⟩
def GoR(P P':Program)(ρ:Ren)(l l':List Frame):Prop:=
 iF P ρ l l'\/∃f a b m c,gH f=true/\dh ρ a b/\iF P ρ m c/\l=Frame.enter P f a .normal::m/\l'=Frame.enter P' f b .normal::c
def lG(P P':Program)(ρ:Ren)(w w':World)(s:List Frame->World->GStep)(s':List Frame->GStep):Prop:=
 ∃(a:Tape) (D:Nat),(∀base t,Agr w D a t->mK base (s base (w.dM t)))\/
  ∃c g e i b f d,(∀base t,Agr w D a t->s base (w.dM t)=.go (Gl g base) (e.dM t) i)/\e.drawn=w.drawn+D/\ρ.Le c/\(∀base,s' base=.go (Gl b base) f d)/\WR c e f/\Kept ρ c w w' e f/\EvW w c i d/\GoR P P' c g b
section
variable {P P':Program} {ρ:Ren} {w w':World}
def lG.still(a:WR ρ w w')(h:∀base w,s base w=.go (Gl l base) w #[])(b:∀base,s' base=.go (Gl l' base) w' #[])(c:GoR P P' ρ l l'):lG P P' ρ w w' s s':=
 ⟨w.tape,0,.inr ⟨ρ,l,w,#[],l',w',#[],λ_ t _=>h _ _,rfl,Ren.Le.refl _,b,a,Kept.refl _ _ _,.nil _ _,c⟩⟩
def lG.bad(h:∀base w,mK base (s base w)):lG P P' ρ w w' s s':=⟨w.tape,0,.inl λ_ _ _=>h _ _⟩
def CDs.marks{b : List Deferred}(h:CDs ρ J b)(c:WR ρ w w'){t:Tape}(i:fI (w.dM t) K):kI K J:=by
 induction h with
 |nil=>intro d hd;cases hd
 |cons g m j=>
  intro d hd;rcases oE.1 hd with rfl|hd
  .refine⟨_,rfl,λx l e=> ?_⟩;have:=i _ _ _ e;obtain⟨o,p,k,n,f⟩:=c.obj g;have a:(w.dM t).heap[_]?=some o:=k;rw[this] at a;cases a;cases f
  .exact j d hd
def aww(T:Twin P P')(fn:FuncId)(h:ma ρ es.toList O.toList):ma ρ (seen P fn es).toList (seen P' fn O).toList:=by
 have u:∀f:Nat,(P'.funcs[f]?).any (·.norace)=(P.funcs[f]?).any (·.norace):=λf=>by
  cases o:P.funcs[f]? with
  |none=>
   have:P'.funcs[f]?=none:=by
    rw[qh] at o ⊢;rw[T.ahC];exact o
   rw[this]
  |some fn=>
   obtain⟨z,v,s⟩:=T.func f fn o;rw[v];simp[s.norace]
 unfold seen;dsimp only;rw[<-sB,<-sB];simp only[u];generalize t:(λf:Nat=>(P.funcs[f]?).any (·.norace))=Q;have m:∀f:Nat,(P.funcs[f]?).any (·.norace)=Q f:=λf=>by rw[<-t]
 simp only[m];have n:∀{l p:List Event},ma ρ l p->∀(q:Bool) (k b:Array Event),ma ρ k.toList b.toList->
   ma ρ (l.foldl (λx e=>match e.loc with
    |.mark (.extern f)=>(Q f,x.2)
    |_=>(x.1,if x.1&&!e.sync then x.2 else x.2.push e)) (q,k)).2.toList
   (p.foldl (λx e=>match e.loc with
    |.mark (.extern f)=>(Q f,x.2)
    |_=>(x.1,if x.1&&!e.sync then x.2 else x.2.push e)) (q,b)).2.toList:=by
  intro l p h
  induction h with
  |nil=>intro q k b d;exact d
  |cons r B j=>
   intro q k b d;rw[uH,uH];have push:∀e i:Event,EvR ρ e i->ma ρ (if(q&&!e.sync)=true then k else k.push e).toList (if(q&&!i.sync)=true then b else b.push i).toList:=λe i h=>by
    have w:e.sync=i.sync:=by cases h;rfl
    rw[w];split
    .exact d
    .rw[rL,rL];exact d.app (.cons h .nil)
   have a:=r;cases r with
   |mk g wr A=>
    cases g with
    |cell D=>exact j _ _ _ (push _ _ a)
    |obj C=>exact j _ _ _ (push _ _ a)
    |mark y=>
     cases y with
     |extern f=>exact j _ _ _ d
     |_=>exact j _ _ _ (push _ _ a)
 exact n h _ _ _ .nil
def apD(P:Program)(fn:FuncId)(es:Array Event):∀e∈(seen P fn es).toList,e∈es.toList:=by
 unfold seen;dsimp only;rw[<-sB];have d:∀(l:List Event) (q:Bool) (k:Array Event) (S:List Event),(∀e∈k.toList,e∈S)->(∀e∈l,e∈S)->
   ∀e∈(l.foldl (λx e=>match e.loc with
    |.mark (.extern f)=>((P.funcs[f]?).any (·.norace),x.2)
    |_=>(x.1,if x.1&&!e.sync then x.2 else x.2.push e)) (q,k)).2.toList,e∈S:=by
  intro l
  induction l with
  |nil=>intro q k S c _;exact c
  |cons x l i=>
   intro q k S c g;rw[uH];have push:∀e∈(if(q&&!x.sync)=true then k else k.push x).toList,e∈S:=by
    split
    .exact c
    .intro e a;rw[rL,mx] at a;rcases a with a|a
     .exact c e a
     .simp at a;subst a;exact g _ (qv ..)
   have b:∀e∈l,e∈S:=λe a=>g e (qU _ a);split
   .exact i _ k S c b
   .exact i _ _ S push b
 exact d es.toList _ _ es.toList (λe a=>by cases a) λe a=>a
def aaC(T:Twin P P')(fn:FuncId)(h:EvW w ρ es O):EvW w ρ (seen P fn es) (seen P' fn O):=
 ⟨aww T fn h.ev,λb c e a=>h.nw b c e (apD P fn es e a)⟩
end
section
variable {P P':Program} {ρ σ:Ren} {base:List Frame} {w w':World}
def iF.put(g:ρ.Le σ){a b : Frame}(h:iF P ρ (fr::cs) (R::V))(c:FrR P σ a b)(e:a.roundOf=fr.roundOf):iF P σ (a::cs) (b::V):=by
 cases h with
 |one h f=>exact .one c (e.trans f)
 |cons h d=>exact .cons c (d.mono g)
def iF.head(h:iF P ρ (fr::cs) (R::V)):FrR P ρ fr R:=by
 cases h with
 |one h a=>exact h
 |cons h b=>exact h
def iF.marks(h:iF P ρ l l')(b:WR ρ w w'){t:Tape}(c:fI (w.dM t) K):∀f∈l,kI K f.defers:=by
 induction h with
 |one h g=>intro f a;simp at a;subst a;exact h.defers.marks b c
 |cons h e d=>
  intro f a;rcases oE.1 a with rfl|a
  .exact h.defers.marks b c
  .exact d f a
def GoR.of(h:iF P ρ (fr::cs) (R::V)):GoR P P' ρ (fr::cs) (R::V):=.inl h
def FrR.at(h:FrR P ρ fr R)(a:jD P ρ todo I):FrR P ρ {fr with todo} {R with todo:=I}:=
 ⟨h.fn,h.tmps,a,h.defers,h.mode,h.kind,h.round⟩
def aaD{c:List PanicEntry}(d:∀f∈fr::cs,kI K f.defers):mK base (.go ⟨fr.raise c,cs++base,.running,none,none⟩ K #[]):=by
 have:∃a,(fr.raise c).mode=.panicking a:=by unfold Frame.raise;split<;>exact⟨_,rfl⟩
 obtain⟨a,e⟩:=this;refine .raised e λf b=> ?_;rcases oE.1 b with rfl|b
 .have:(fr.raise c).defers=fr.defers:=by unfold Frame.raise;split<;>rfl
  rw[this];exact d fr (by simp)
 .exact d f (by simp[b])
variable (T:Twin P P')
include T
theorem anB(g:Nat)(w:World):mK base (early P fr cs none g w):=by
 unfold early;simp only[T.mX.1,T.mX.2];exact .ended _ _ _
theorem agz(m:String)(w:World):mK base (endFatal P fr cs none m w):=by
 unfold endFatal;dsimp only;split
 .exact .dying rfl rfl
 .exact .ended _ _ _
 .exact .ended _ _ _
omit T in
theorem fZ(fr:Frame)(v:Value):(fr.finish v).roundOf=fr.roundOf:=by
 unfold Frame.finish;split<;>first|rfl|(split<;>rfl)
theorem afF(w:String):gP (.refuse w)=.refuse w:=by rw[T.pc];rfl
theorem aby(w:String):jD P ρ [.code (.refuse w)] [.code (.refuse w)]:=by
 have h:jD P ρ [.code (gP (.refuse w))] [.code (.refuse w)]:=.cons (.code _) .nil;rw[afF T] at h;exact h
omit T in
theorem asR{l l':Nat}(a:ρ.r l l')(f:FuncId)(b:dh ρ t W)(c d:Code):FrR P ρ (Frame.round l f t (gP c) (gP d) .normal) (Frame.round l' f W c d .normal):=
 ⟨rfl,b,.cons (.code c) (.cons .beginRound (.cons (.code d) .nil)),.nil,.inl ⟨rfl,rfl⟩,⟨rfl,rfl⟩,.some a⟩
theorem agx(q:gH f=false){a : Array Value}(p:dh ρ a W):FrR P ρ (Frame.enter P f a .normal) (Frame.enter P' f W .normal):=by
 have m:∀n,dh ρ (a++Array.replicate (n-a.size) undef) (W++Array.replicate (n-W.size) undef):=λn=>by
  rw[p.size];exact dh.app p (bN.kC λv o=>by simp at o;rw[o.2];exact VR.undef)
 cases b:P.funcs[f]? with
 |none=>
  have k:P'.funcs[f]?=none:=by
   rw[qh] at b ⊢;rw[T.ahC];exact b
  unfold Frame.enter;rw[b,k];exact⟨rfl,m _,aby T _,.nil,.inl ⟨rfl,rfl⟩,⟨rfl,rfl⟩,.none⟩
 |some fn=>
  obtain⟨l,j,i⟩:=T.func f fn b;unfold Frame.enter;rw[b,j];refine⟨rfl, ?_, ?_,.nil,.inl ⟨rfl,rfl⟩,⟨rfl,rfl⟩,.none⟩
  .show dh ρ (a++Array.replicate (fn.ntmps-a.size) undef) (W++Array.replicate (l.ntmps-W.size) undef);rw[i.ntmps];exact m _
  .show jD P ρ [.code (fn.body.getD _)] [.code (l.body.getD _)];cases d:fn.body with
   |none=>
    obtain rfl:=i.none d;rw[d];exact aby T _
   |some c=>
    obtain⟨r,g,e⟩:=i.some c d;rw[g,e q];exact .cons (.code _) .nil
theorem agA{s s':Sem Next}(B:iF P ρ (fr::cs) (R::V))(L:WR ρ w w')(hs:az P P' iq ρ s s') :
  lG P P' ρ w w' (λbase w=>stepG.apply P true fr (cs++base) none s w) (λbase=>stepG.apply P' true R (V++base) none s' w'):=by
 have o:=B.head;have n:(fr.kind ==CallKind.early)=false:=by rw[o.kind.1];rfl
 have k:(R.kind ==CallKind.early)=false:=by rw[o.kind.2];rfl
 have F:(match fr.todo with|.call _ true _ _::_=>CallKind.wrapped|_=>CallKind.normal)=.normal:=by
  have e:=o.todo;revert e;generalize fr.todo=a;generalize R.todo=b;intro e;cases e with
  |nil=>rfl
  |cons x _=>cases x<;>rfl
 have G:(match R.todo with|.call _ true _ _::_=>CallKind.wrapped|_=>CallKind.normal)=.normal:=by
  have e:=o.todo;revert e;generalize fr.todo=a;generalize R.todo=b;intro e;cases e with
  |nil=>rfl
  |cons x _=>cases x<;>rfl
 obtain⟨g,D,H⟩:=hs.run w w' #[] #[] L;rcases H with H|⟨σ,a,j,U,r,I,q,h1,S,z,W,h5,h6,h7,Y⟩
 .refine⟨g,D,.inl λbase t e=> ?_⟩;obtain⟨h,j,mV,hr,hk⟩:=H t e;have Q:=B.marks L hk;unfold stepG.apply;simp only[hr,pr];refine mK.after _ ?_;cases h with
  |panic v=>exact aaD Q
  |goexit=>exact aaD Q
  |blocked=>exact .stop (.inl rfl)
  |waiting=>exact .stop (.inr rfl)
  |exit c=>exact .ended _ _ _
  |fatal m=>exact agz T m j
  |throw m=>exact .dying rfl rfl
  |unsupported u=>
   cases u<;>first|exact .ended _ _ _|exact anB T _ j
  |stuck s=>exact .ended _ _ _
 .refine⟨g,D,.inr ?_⟩;have p:=B.mono z;have he:EvW w σ (seen P fr.fn I) (seen P' R.fn q):=by rw[o.fn];exact aaC T _ Y
  have E:∀t,Agr w D g t->s.runT P (w.dM t) #[]=(.ok a (j.dM t),I):=λt e=>by rw[h1 t e];simp
  have C:s'.runT P' w' #[]=(.ok U r,q):=by rw[W];simp
  have fin:∀y i,(∀base t,Agr w D g t->stepG.apply P true fr (cs++base) none s (w.dM t)=.go (Gl y base) (j.dM t) (seen P fr.fn I))->(∀base,stepG.apply P' true R (V++base) none s' w'=.go (Gl i base) r (seen P' R.fn q))->GoR P P' σ y i->
    ∃σ y j O i r A,(∀base t,Agr w D g t->stepG.apply P true fr (cs++base) none s (w.dM t)=.go (Gl y base) (j.dM t) O)/\j.drawn=w.drawn+D/\ρ.Le σ/\(∀base,stepG.apply P' true R (V++base) none s' w'=.go (Gl i base) r A)/\WR σ j r/\Kept ρ σ w w' j r/\EvW w σ O A/\GoR P P' σ y i:=
   λy i q1 q2 X=>⟨σ,y,j,_,i,r,_,q1,S,z,q2,h6,h7,he,X⟩
  cases h5 with
  |@value v v' hv=>exact fin (fr.finish v::cs) (R.finish v'::V) (λbase t e=>by unfold stepG.apply;simp only[E t e,pr,n];simp[GStep.after,Gl]) (λbase=>by unfold stepG.apply;simp only[C,pr,k];simp[GStep.after,Gl]) (GoR.of (B.put z ((o.mono z).finish hv) (fZ _ _)))
  |skip=>exact fin (fr.finish undef::cs) (R.finish undef::V) (λbase t e=>by unfold stepG.apply;simp only[E t e,pr,n];simp[GStep.after,Gl]) (λbase=>by unfold stepG.apply;simp only[C,pr,k];simp[GStep.after,Gl]) (GoR.of (B.put z ((o.mono z).finish VR.undef) (fZ _ _)))
  |@enter f a0 K M=>
   refine fin (Frame.enter P f a0 .normal::fr::cs) (Frame.enter P' f K .normal::R::V) (λbase t e=>by unfold stepG.apply;simp only[E t e,pr,n];simp[GStep.after,Gl];exact jn (Frame.enter P f _) F) (λbase=>by unfold stepG.apply;simp only[C,pr,k];simp[GStep.after,Gl];exact jn (Frame.enter P' f _) G) ?_;cases N:gH f with
   |true=>exact .inr ⟨f,_,_,_,_,N,M,p,rfl,rfl⟩
   |false=>exact .inl (.cons (agx T N M) p)
  |@round l l' Z f tm J e c d=>
   exact fin (Frame.round l f tm (gP c) (gP d) .normal::fr::cs) (Frame.round l' f J c d .normal::R::V) (λbase t e=>by unfold stepG.apply;simp only[E t e,pr,n];simp[GStep.after,Gl]) (λbase=>by unfold stepG.apply;simp only[C,pr,k];simp[GStep.after,Gl])
    (.inl (.cons (asR Z f e c d) p))
end
section
variable {P P':Program} {ρ σ:Ren} {w w':World}
def GlR(ρ:Ren):Prop:=∀g∈gL,ρ.r g g
def GlR.mono(h:ρ.Le σ)(x:GlR ρ):GlR σ:=λg a=>h.r (x g a)
def aj7{l l':Nat}(h:ρ.r l l'){j a:Option Code}(b:j=a.map gP):az P P' VR ρ (Instr.endRound l j) (Instr.endRound l' a):=by
 unfold Instr.endRound;refine ai (mF h) λσ x q f c=> ?_;have g:j.isNone=a.isNone:=by subst b;cases a<;>rfl
 rw[g];cases c with
 |loop p o e k n i m d=>
  exact ai (iH (f.r h) (.loop rfl b e k n i m d)) λ_ _ _ _ _=>aj (.bool _)
def anC{l l':Nat}(h:ρ.r l l'):az P P' (λ_ q m=>q=m.map gP) ρ (Instr.endLoop l) (Instr.endLoop l'):=by
 unfold Instr.endLoop;refine ai (mF h) λσ x n e b=> ?_;cases b with
 |loop i a d g k f j c=>
  rw[i];refine aV (λ_=>dO _) λ_=> ?_;exact ai (iH (e.r h) (.loop rfl a d g k f j c)) λ_ _ _ _ _=>aj a
def agB(h:NR ρ r M):az P P' iq ρ (do r.elim (stuck "beginRound: no round") Instr.beginRound;pure .skip) (do M.elim (stuck "beginRound: no round") Instr.beginRound;pure .skip):=by
 cases h with
 |none=>exact .halt _ _
 |some h=>
  refine agt ?_;show az P P' js ρ (Instr.beginRound _) (Instr.beginRound _);unfold Instr.beginRound;refine ai (mF h) λσ x m e a=> ?_;cases a with
  |loop i c d g k f j b=>
   refine ai (iH (e.r h) (.loop rfl c d g k f j b)) λl _ _ _ _=> ?_;rw[i];split
   .exact aj rfl
   .exact dO _
   .exact dO _
   .exact dO _
def aam(e:Operand->Value)(a:Operand)(l:Nat)(h:∀v,e (.const v)=v):resolve e ⟨.value a,#[.const (.func (.yield l) #[] #[])],#[]⟩ 0=Deferred.ofValue (e a) #[.func (.yield l) #[] #[]]:=by
 unfold resolve;simp[h]
def EnR(ρ:Ren)(x x':Nat×List Deferred):Prop:=ρ.r x.1 x'.1/\CDs ρ x.2 x'.2
def ahV(f:FuncId)(n:dh ρ t W)(d:Array Tmp)(a b:Code)(h:NR ρ r M):az P P' EnR ρ (Instr.enterLoop f t d (gP a) (gP b) r) (Instr.enterLoop f W d a b M):=by
 unfold Instr.enterLoop;have c:∀(σ:Ren) (q e:Nat×List Deferred),ρ.Le σ->EnR σ q e->az P P' EnR σ (do
   let l<-newObj (.loop ⟨.ready,none,f,t,d,gP a,gP b,q.1⟩)
   pure (l,q.2)) (do
   let l<-newObj (.loop ⟨.ready,none,f,W,d,a,b,e.1⟩)
   pure (l,e.2)):=λσ q e g k=>by
  refine ai (afu (show OR σ (.loop ⟨.ready,none,f,t,d,gP a,gP b,q.1⟩) (.loop ⟨.ready,none,f,W,d,a,b,e.1⟩) from .loop rfl rfl rfl (bN.mono g n) rfl rfl rfl k.1)) λv y o j u=> ?_;exact aj (A:=EnR) (show EnR v (y,q.2) (o,e.2) from⟨u,k.2.mono j⟩)
 cases h with
 |none=>
  exact ai (afu .deferred) λσ x i g m=>c σ (x,[⟨.collected x,#[]⟩]) (i,[⟨.collected i,#[]⟩]) g ⟨m,.cons m .nil⟩
 |some h=>
  refine ai (mF h) λσ x i g p=> ?_;cases p with
  |loop B w E z D F C s=>exact c σ (_,[]) (_,[]) g ⟨s,.nil⟩
def FrR.env(j:GlR ρ)(h:FrR P ρ fr R):adr ρ fr.eval R.eval:=λx a=>by
 cases x with
 |tmp t=>
  show VR ρ (fr.tmps.getD t undef) (R.tmps.getD t undef);have l:=bN.size h.tmps;rw[gE,gE];cases e:fr.tmps[t]? with
  |none=>
   have:R.tmps[t]?=none:=by
    rw[qh] at e ⊢;omega
   rw[this];exact VR.undef
  |some v=>
   obtain⟨k,b,d⟩:=bN.get h.tmps (i:=t) (v:=v) (by rw[du];exact e);rw[du] at b;rw[b];exact d
 |const v=>exact ags ρ 5 v a
 |global g=>exact .pointer (.some (.mk (j g (by simpa[bJ] using a)) 0 none))
 |func f=>exact .func (.same (.func f) a) .nil .nil
def GoR.jE(h:∀base w,∃o a b,s base w=.ended o a b):lG P P' ρ w w' s s':=lG.bad λbase w=>by
 obtain⟨o,a,b,e⟩:=h base w;rw[e];exact .ended _ _ _
variable (T:Twin P P') (X:ahH P P')
include T
theorem awx(a b:Code):gP (.seq a b)=.seq (gP a) (gP b):=by rw[T.pc];rfl
theorem apE(id:Nat)(a:Code):gP (.block id a)=.block id (gP a):=by rw[T.pc];rfl
theorem asS(a:Code):gP (.loop a)=.loop (gP a):=by rw[T.pc];rfl
theorem apF(a:Code):gP (.scope a)=.scope (gP a):=by rw[T.pc];rfl
theorem asT:gP .skip=.skip:=by rw[T.pc];rfl
theorem apG:gP .ret=.ret:=by rw[T.pc];rfl
theorem apH(l:Nat):gP (.label l)=.label l:=by rw[T.pc];rfl
theorem amh(l:Nat):gP (.exit l)=.exit l:=by rw[T.pc];rfl
theorem asU(l:Nat):gP (.goto l)=.refuse "" :=by rw[T.pc];rfl
theorem asV(c:Operand)(a b:Code):gP (.cond c a b)=if bJ gA gL c=true then .cond c (gP a) (gP b) else .refuse "" :=by rw[T.pc];rfl
theorem agC(f:Operand)(c:Array Tmp)(a b:Code):gP (.rangeFunc f c a b)=if bJ gA gL f=true then .rangeFunc f c (gP a) (gP b) else .refuse "" :=by rw[T.pc];rfl
theorem anD{g:Oper->Oper}(d:∀o,(g o).after=o.after)(c:Bool)(a:Array Oper)(t:Nat):Region.schedule c (a.map g) t=Region.schedule c a t:=by
 have k:∀(m:Region.Mode) (b t:Nat) (l:Array Bool) (acc:List Nat),Region.linearise.go m (a.map g) b t l acc=Region.linearise.go m a b t l acc:=by
  intro m b
  induction b with
  |zero=>intro t l acc;rfl
  |succ n j=>
   intro t l acc;unfold Region.linearise.go;have e:∀i,((a.map g)[i]?).map (λo:Oper=>o.after.all λe=>!Region.binds m e||l.getD e.on false)=(a[i]?).map (λo:Oper=>o.after.all λe=>!Region.binds m e||l.getD e.on false):=λi=>by
    rw[rc];cases a[i]? with
    |none=>rfl
    |some o=>simp only[qk,d]
   simp only[tF,e,j]
 have f:Region.departs (a.map g)=Region.departs a:=by
  unfold Region.departs;rw[Array.any_map]
  congr 1
  funext o
  simp only[Function.comp,d]
 unfold Region.schedule Region.linearise;rw[f];simp only[k,tF]
theorem anE(id:Nat)(a:Array Oper)(c:Bool):(gP (.region id a c)=.region id a c/\apb P a a)\/(∃d,gP (.region id a c)=.region id d c/\apb P d a/\∀b t,Region.schedule b d t=Region.schedule b a t)\/gP (.region id a c)=.refuse "" :=by
 rw[T.pc];unfold bM;by_cases m:(a.toList.all λo=>lZ P gA gL o.op)=true
 .rw[dq m];refine .inl ⟨rfl,rfl,λi o l e f=> ?_⟩;rw[e] at f;obtain rfl:=dk f;refine .inl ⟨rfl,lE.1 m o ?_⟩;exact rV.2 (qC e)
 .rw[bv m];by_cases k:(a.toList.all λo=>lZ P gA gL o.op||pZ gA gL o.op)=true
  .rw[dq k];refine .inr (.inl ⟨_,rfl,⟨by simp,λi o l e f=> ?_⟩,λb t=>anD T (g:=aaa gA gL gB) (λo=>by unfold aaa;split<;>rfl) b a t⟩);rw[rc,f] at e;obtain rfl:=dk e;have n:=lE.1 k l (rV.2 (qC f));unfold aaa;by_cases j:pZ gA gL l.op=true
   .rw[dq j];exact .inr ⟨j,rfl⟩
   .rw[bv j];simp only[j,uY] at n;exact .inl ⟨rfl,n⟩
  .rw[bv k];exact .inr (.inr rfl)
theorem abz  {d : List Deferred}  {k k' : List Item} {m:Bool}  
  (a:iF P ρ (⟨f,t,todo,d,.run,.normal,r⟩::cs) (⟨f,W,I,J,.run,.normal,M⟩::V)) (b:WR ρ w w') (c:jD P ρ k k')
  (h:∀base w,s base w=.go ⟨⟨f,t,k,d,.run,.normal,r⟩,cs++base,.running,none,none⟩ w #[])
  (e:∀base,s' base=.go ⟨⟨f,W,k',J,.run,.normal,M⟩,V++base,.running,none,none⟩ w' #[]):lG P P' ρ w w' s s':=
 lG.still b (l:=⟨f,t,k,d,.run,.normal,r⟩::cs) (l':=⟨f,W,k',J,.run,.normal,M⟩::V) h e (GoR.of (a.put (Ren.Le.refl _) (a.head.at c) rfl))
omit T in
def iL(p:Program)(main:Bool)(fr:Frame)(callers:List Frame)(w:World)(jump:Option Code):GStep:=
 match fr.roundOf with
 |none=>if jump matches none|some .ret then .go {frame:={fr with mode:=.returning},callers,status:=.running,dying:=none} w else .ended (.stuck "exit, goto: no such block or label" (fr.pos p)) w
 |some l=>
  let(r,es):=(Instr.endRound l jump).runT p w #[]
  GStep.after (seen p fr.fn es) <| match r with
  |.ok v w=>doReturn p main fr callers none v w
  |.halt _ w=>.ended (.stuck "range over a function: no such loop" (fr.pos p)) w
theorem agD(m m':Bool)(C:iF P ρ (fr::cs) (R::V))(I:WR ρ w w')(hm:fr.mode=.run)(j:Option Code)(hj:j=j.map gP) :
  lG P P' ρ w w' (λbase w=>iL P m fr (cs++base) w j) (λbase=>iL P' m' R (V++base) w' j):=by
 have b:=C.head;have q:=b.round;obtain⟨f,t,i,d,G,M,r⟩:=fr;obtain⟨K,E,F,J,W,o,r'⟩:=R;dsimp only at q;cases q with
 |none=>
  unfold iL;dsimp only;have still:=lG.still (P:=P) (P':=P') I (l:=⟨f,t,i,d,.returning,M,none⟩::cs) (l':=⟨K,E,F,J,.returning,o,none⟩::V) (s:=λbase w=>.go ⟨⟨f,t,i,d,.returning,M,none⟩,cs++base,.running,none,none⟩ w #[]) (s':=λbase=>.go ⟨⟨K,E,F,J,.returning,o,none⟩,V++base,.running,none,none⟩ w' #[]) (λ_ _=>rfl) (λ_=>rfl) (GoR.of (C.put (Ren.Le.refl _) ⟨b.fn,b.tmps,b.todo,b.defers,.inr ⟨rfl,rfl⟩,b.kind,b.round⟩ rfl));cases j with
  |none=>exact still
  |some c=>cases c<;>first|exact still|exact lG.bad λ_ w=>.ended _ _ _
 |@some l l' Z=>
  cases C with
  |one h h0=>cases h0
  |cons h e=>
   obtain⟨g,D,H⟩:=(aj7 (P:=P) (P':=P') Z hj).run w w' #[] #[] I;rcases H with H|⟨σ,a,L,S,Q,us,z,h1,O,A,U,h5,h6,h7,Y⟩
   .refine⟨g,D,.inl λbase t y=> ?_⟩;obtain⟨h,L,mV,q,B⟩:=H t y;unfold iL;simp only[q];exact mK.after _ (.ended _ _ _)
   .refine⟨g,D,.inr ?_⟩;have B:=b.kind;dsimp only at B;obtain⟨rfl,rfl⟩:=B;have N:=b.fn;dsimp only at N;subst N;have k:∀(p:Program) (m:Bool) (x:Frame) (l:List Frame) (v:Value) (w:World) (tm:Array Value) (td:List Item) (ds:List Deferred) (G:FrameMode) (X:Nat),doReturn p m ⟨f,tm,td,ds,G,.normal,some X⟩ (x::l) none v w=.go ⟨x.finish v,l,.running,none,none⟩ w #[]:=λ_ _ _ _ _ _ _ _ _ _ _=>rfl;obtain⟨x,n,rfl⟩:∃x n,cs=x::n:=by cases e<;>exact⟨_,_,rfl⟩
    obtain⟨x',u,rfl⟩:∃x n,V=x::n:=by cases e<;>exact⟨_,_,rfl⟩
    refine⟨σ,x.finish a::n,L,seen P f us,x'.finish S::u,Q,seen P' f z,λbase t y=> ?_,O,A,λbase=> ?_,h6,h7,aaC T f Y,GoR.of (e.put A ((e.head.mono A).finish h5) (fZ _ _))⟩
    .unfold iL;simp only[h1 t y,qW,k];simp[GStep.after,Gl]
    .unfold iL;simp only[U,qW,k];simp[GStep.after,Gl]
theorem lG.seq  {t₁:Tape} {D:Nat}  (s1:List Frame->World->GStep) (s1':List Frame->GStep) (f:FuncId)
  (p:∀base t,Agr w D t₁ t->s base (w.dM t)=(s1 base (K.dM t)).after (seen P f O)) (z:K.drawn=w.drawn+D) (M:ρ.Le σ) (B:∀base,s' base=(s1' base).after (seen P' f es)) (r:Kept ρ σ w w' K a) (G:EvW w σ O es)
  (H:lG P P' σ K a s1 s1'):lG P P' ρ w w' s s':=by
 obtain⟨e,E,H⟩:=H;have c:∀t,Agr w (D+E) (λi q=>if i<K.drawn then t₁ i q else e i q) t->Agr w D t₁ t/\Agr K E e t:=λt d=>⟨λi q v Q=>by
  rw[d i q v (by omega)];exact dq (by omega),λi q v Q=>by
  rw[d i q (by omega) (by omega)];exact bv (by omega)⟩
 refine⟨λi q=>if i<K.drawn then t₁ i q else e i q,D+E,H.imp (λH base t d=> ?_) ?_⟩
 .rw[p base t (c t d).1];exact mK.after _ (H base t (c t d).2)
 .rintro⟨L,F,R,J,j,l,k,y,N,o,S,C,I,m,A⟩;have u:=aaC T f G;refine⟨L,F,R,seen P f O++J,j,l,seen P' f es++k,λbase t d=> ?_,by rw[N,z,uV],M.trans o,λbase=> ?_,C,r.trans I,⟨?_,λb n x g=> ?_⟩,A⟩
  .rw[p base t (c t d).1,y base t (c t d).2];rfl
  .rw[B,S];rfl
  .rw[pv,pv];exact(u.ev.mono o).app m.ev
  .rw[pv,mx] at g;rcases g with g|g
   .exact u.nw b n x g
   .exact m.nw b (r.frz b n) x g
include X
theorem ayI(hg:GlR ρ)(m m':Bool)(A:iF P ρ (fr::cs) (R::V))(C:WR ρ w w')(hm:fr.mode=.run) :
  lG P P' ρ w w' (λbase w=>stepG P m ⟨fr,cs++base,.running,none,none⟩ w) (λbase=>stepG P' m' ⟨R,V++base,.running,none,none⟩ w'):=by
 have mf:=A.head;have a2:=mf.env hg;obtain⟨f,t,aT,d,md,kd,r⟩:=fr;obtain⟨f',B,fF,J,aa,aX,E⟩:=R;obtain⟨h1,h2,h3,h4,h5,h6,h7⟩:=mf;dsimp only at h1 h2 h3 h4 h5 h6 h7 hm;subst h1;subst hm;obtain⟨rfl,rfl⟩:=h6;obtain rfl:aa=.run:=by
  rcases h5 with h5|h5
  .exact h5.2
  .cases h5.1
 cases h3 with
 |nil=>
  have G:∀base w,stepG P m ⟨⟨f,t,[],d,.run,.normal,r⟩,cs++base,.running,none,none⟩ w=iL P m ⟨f,t,[],d,.run,.normal,r⟩ (cs++base) w none:=λ_ _=>rfl;have L:∀base,stepG P' m' ⟨⟨f,B,[],J,.run,.normal,E⟩,V++base,.running,none,none⟩ w'=iL P' m' ⟨f,B,[],J,.run,.normal,E⟩ (V++base) w' none:=λ_=>rfl;simp only[G,L];exact agD T m m' A C rfl none rfl
 |@cons x x' k F hx I=>
  cases hx with
  |inBlock id=>exact abz T (m:=m) A C I (λbase w=>by simp[stepG,stepG.exec]) (λbase=>by simp[stepG,stepG.exec])
  |inScope c=>exact abz T (m:=m) A C I (λbase w=>by simp[stepG,stepG.exec]) (λbase=>by simp[stepG,stepG.exec])
  |inLoop c=>exact abz T (m:=m) A C (.cons (.code c) (.cons (.inLoop c) I)) (λbase w=>by simp[stepG,stepG.exec]) (λbase=>by simp[stepG,stepG.exec])
  |inRangeFunc hl=>exact GoR.jE λbase w=>⟨_,_,_,by simp[stepG,stepG.exec];exact⟨rfl,rfl,rfl⟩⟩
  |@endRangeFunc l l' hl=>
   obtain⟨t₁,D,H⟩:=(anC (P:=P) (P':=P') hl).run w w' #[] #[] C;rcases H with H|⟨σ,a,w1,a',cN,us,a7,h1,h2,h3,h4,h5,h6,an,h8⟩
   .refine⟨t₁,D,.inl λbase K M=> ?_⟩;obtain⟨h,w1,mV,hr,a8⟩:=H K M;have Z:=A.marks C a8;simp only[stepG,stepG.exec,hr];refine mK.after _ ?_;cases h<;>first|exact aaD Z|exact .ended _ _ _
   .have hi:jD P σ ((a.map Item.code).toList++k) ((a'.map Item.code).toList++F):=by
     subst h5;cases a' with
     |none=>exact I.mono h3
     |some c=>exact .cons (.code c) (I.mono h3)
    refine⟨t₁,D,.inr ⟨σ,⟨f,t,(a.map Item.code).toList++k,d,.run,.normal,r⟩::cs,w1,seen P f us,⟨f,B,(a'.map Item.code).toList++F,J,.run,.normal,E⟩::V,cN,seen P' f a7,λbase K M=> ?_,h2,h3,λbase=> ?_,h6,an,aaC T f h8,GoR.of (A.put h3 ((A.head.mono h3).at hi) rfl)⟩⟩
    .simp only[stepG,stepG.exec,h1 K M];simp[GStep.after,Gl]
    .simp only[stepG,stepG.exec,h4];simp[GStep.after,Gl]
  |beginRound=>
   have G:∀base w,stepG P m ⟨⟨f,t,.beginRound::k,d,.run,.normal,r⟩,cs++base,.running,none,none⟩ w=stepG.apply P true ⟨f,t,.beginRound::k,d,.run,.normal,r⟩ (cs++base) none (do r.elim (stuck "beginRound: no round") Instr.beginRound;pure .skip) w:=λ_ _=>rfl;have L:∀base,stepG P' m' ⟨⟨f,B,.beginRound::F,J,.run,.normal,E⟩,V++base,.running,none,none⟩ w'=stepG.apply P' true ⟨f,B,.beginRound::F,J,.run,.normal,E⟩ (V++base) none (do E.elim (stuck "beginRound: no round") Instr.beginRound;pure .skip) w':=λ_=>rfl;simp only[G,L];exact agA T A C (agB h7)
  |@inRegion n u N l=>
   cases l with
   |nil=>exact abz T (m:=m) A C I (λbase w=>by simp[stepG,stepG.exec]) (λbase=>by simp[stepG,stepG.exec])
   |cons i z=>
    have ax:=A.head.finish VR.undef;have aI:∀j,yielded n t j=yielded u B j:=λj=>by
     unfold yielded;rw[N.dst j];cases((u[j]?).bind (·.dst)) with
     |none=>rfl
     |some x=>
      show(match t[x]? with|some (.bool b)=>some b|_=>none)=(match B[x]? with|some (.bool b)=>some b|_=>none);have hs:=bN.size h2;cases e:t[x]? with
      |none=>
       have:B[x]?=none:=by
        rw[qh] at e ⊢;omega
       rw[this]
      |some v=>
       obtain⟨v',G,L⟩:=bN.get h2 (i:=x) (v:=v) (by rw[du];exact e);rw[du] at G;rw[G];cases L<;>first|rfl|(cases v'<;>first|rfl|(cases(by assumption:jy _=true);done))
    have skip:(((n[i]?).map (Region.wanted · (yielded n t))).getD false=false)->(((u[i]?).map (Region.wanted · (yielded u B))).getD false=false)->lG P P' ρ w w' (λbase w=>stepG P m ⟨⟨f,t,.inRegion n (i::z)::k,d,.run,.normal,r⟩,cs++base,.running,none,none⟩ w) (λbase=>stepG P' m' ⟨⟨f,B,.inRegion u (i::z)::F,J,.run,.normal,E⟩,V++base,.running,none,none⟩ w'):=λG L=>
     lG.still C (l:=_::cs) (l':=_::V) (λbase w=>by simp only[stepG,stepG.exec,G];rfl) (λbase=>by simp only[stepG,stepG.exec,L];rfl) (GoR.of (A.put (Ren.Le.refl _) ax (fZ _ _)))
    cases eo:n[i]? with
    |none=>
     have W:u[i]?=none:=by
      have:=N.1;rw[qh] at eo ⊢;omega
     exact skip (by rw[eo];rfl) (by rw[W];rfl)
    |some o=>
     obtain⟨S,W⟩:∃S,u[i]?=some S:=by
      have:=(dl.1 eo).1;have:=N.1;exact⟨_,fi (by omega)⟩
     have a1:=N.2 i o S eo W;have ay:o.guard=S.guard:=by rcases a1 with⟨rfl,_⟩|⟨_,rfl⟩<;>rfl
     have a5:Region.wanted o (yielded n t)=Region.wanted S (yielded u B):=by
      unfold Region.wanted;rw[ay];cases S.guard with
      |none=>rfl
      |some g=>obtain⟨j,b⟩:=g;show(yielded n t j ==some b)=(yielded u B j ==some b);rw[aI j]
     cases ew:Region.wanted S (yielded u B) with
     |false=>exact skip (by rw[eo];simp[a5,ew]) (by rw[W];simp[ew])
     |true=>
      rw[ew] at a5;have nd:(∀c,o.op ≠ .defer c)/\∀c,S.op ≠ .defer c:=by
       rcases a1 with⟨rfl,O⟩|⟨Y,rfl⟩
       .have:∀c,o.op ≠ .defer c:=λc e=>by rw[e] at O;unfold lZ at O;simp at O
        exact⟨this,this⟩
       .have:∀c,S.op ≠ .defer c:=λc e=>by rw[e] at Y;cases Y
        exact⟨this,this⟩
      have a3:az P P' iq ρ (execOp (Frame.eval ⟨f,t,.inRegion n (i::z)::k,d,.run,.normal,r⟩) o) (execOp (Frame.eval ⟨f,B,.inRegion u (i::z)::F,J,.run,.normal,E⟩) S):=by
       rcases a1 with⟨rfl,O⟩|⟨Y,al⟩
       .exact apC T X O a2
       .exact aBw T X Y al a2
      have G:∀base w,stepG P m ⟨⟨f,t,.inRegion n (i::z)::k,d,.run,.normal,r⟩,cs++base,.running,none,none⟩ w=stepG.apply P true ⟨f,t,.inRegion n (i::z)::k,d,.run,.normal,r⟩ (cs++base) none (execOp (Frame.eval ⟨f,t,.inRegion n (i::z)::k,d,.run,.normal,r⟩) o) w:=λbase w=>by
       simp only[stepG,stepG.exec,eo,qk,qo,a5,pr,stepG.oper,Frame.oper?];cases r with
       |none=>rfl
       |some l0=>
        have:=nd.1;split
        .rename_i Q;exact absurd Q (this _)
        .rfl
      have L:∀base,stepG P' m' ⟨⟨f,B,.inRegion u (i::z)::F,J,.run,.normal,E⟩,V++base,.running,none,none⟩ w'=stepG.apply P' true ⟨f,B,.inRegion u (i::z)::F,J,.run,.normal,E⟩ (V++base) none (execOp (Frame.eval ⟨f,B,.inRegion u (i::z)::F,J,.run,.normal,E⟩) S) w':=λbase=>by
       simp only[stepG,stepG.exec,W,qk,qo,ew,pr,stepG.oper,Frame.oper?];cases E with
       |none=>rfl
       |some l0=>
        have:=nd.2;split
        .rename_i Q;exact absurd Q (this _)
        .rfl
      simp only[G,L];exact agA T A C a3
  |code c=>
   cases c with
   |skip=>rw[asT T] at *;exact abz T (m:=m) A C I (λbase w=>by simp[stepG,stepG.exec]) (λbase=>by simp[stepG,stepG.exec])
   |label l=>rw[apH T] at *;exact abz T (m:=m) A C I (λbase w=>by simp[stepG,stepG.exec]) (λbase=>by simp[stepG,stepG.exec])
   |seq a b=>rw[awx T] at *;exact abz T (m:=m) A C (.cons (.code a) (.cons (.code b) I)) (λbase w=>by simp[stepG,stepG.exec]) (λbase=>by simp[stepG,stepG.exec])
   |block id a=>rw[apE T] at *;exact abz T (m:=m) A C (.cons (.code a) (.cons (.inBlock id) I)) (λbase w=>by simp[stepG,stepG.exec]) (λbase=>by simp[stepG,stepG.exec])
   |loop a=>rw[asS T] at *;exact abz T (m:=m) A C (.cons (.code a) (.cons (.inLoop a) I)) (λbase w=>by simp[stepG,stepG.exec]) (λbase=>by simp[stepG,stepG.exec])
   |scope a=>rw[apF T] at *;exact abz T (m:=m) A C (.cons (.code a) (.cons (.inScope a) I)) (λbase w=>by simp[stepG,stepG.exec]) (λbase=>by simp[stepG,stepG.exec])
   |refuse s=>rw[afF T] at *;exact GoR.jE λbase w=>⟨_,_,_,by simp[stepG,stepG.exec];exact⟨rfl,rfl,rfl⟩⟩
   |goto l=>rw[asU T] at *;exact GoR.jE λbase w=>⟨_,_,_,by simp[stepG,stepG.exec];exact⟨rfl,rfl,rfl⟩⟩
   |cond c a b=>
    rw[asV T] at *;by_cases Q:bJ gA gL c=true
    .rw[dq Q] at *;have hv:=a2 c Q;generalize a0:Frame.eval ⟨f,t,.code (.cond c (gP a) (gP b))::k,d,.run,.normal,r⟩ c=v at hv;generalize aG:Frame.eval ⟨f,B,.code (.cond c a b)::F,J,.run,.normal,E⟩ c=v' at hv;cases hv with
     |bool q=>
      have hi:jD P ρ (.code (if q=true then gP a else gP b)::k) (.code (if q=true then a else b)::F):=by
       cases q with
       |true=>exact .cons (.code a) I
       |false=>exact .cons (.code b) I
      exact abz T (m:=m) A C hi (λbase w=>by simp[stepG,stepG.exec,a0]) (λbase=>by simp[stepG,stepG.exec,aG])
     |abe=>exact GoR.jE λbase w=>⟨_,_,_,by unfold ane at a0;simp[stepG,stepG.exec,a0];first|exact⟨rfl,rfl,rfl⟩|rfl⟩
     |_=>exact GoR.jE λbase w=>⟨_,_,_,by simp[stepG,stepG.exec,a0];exact⟨rfl,rfl,rfl⟩⟩
    .rw[bv Q] at *;exact GoR.jE λbase w=>⟨_,_,_,by simp[stepG,stepG.exec];exact⟨rfl,rfl,rfl⟩⟩
   |exit id=>
    rw[amh T] at *;rcases I.exit id with⟨x1,x2⟩|⟨l,l',x1,x2,hl⟩
    .have G:∀base w,stepG P m ⟨⟨f,t,.code (.exit id)::k,d,.run,.normal,r⟩,cs++base,.running,none,none⟩ w=iL P m ⟨f,t,.code (.exit id)::k,d,.run,.normal,r⟩ (cs++base) w (some (.exit id)):=λbase w=>by simp[stepG,stepG.exec,x1,iL];rfl
     have L:∀base,stepG P' m' ⟨⟨f,B,.code (.exit id)::F,J,.run,.normal,E⟩,V++base,.running,none,none⟩ w'=iL P' m' ⟨f,B,.code (.exit id)::F,J,.run,.normal,E⟩ (V++base) w' (some (.exit id)):=λbase=>by simp[stepG,stepG.exec,x2,iL];rfl
     simp only[G,L];exact agD T m m' A C rfl (some (.exit id)) (by rw[qk,amh T])
    .exact abz T (m:=m) A C hl (λbase w=>by simp[stepG,stepG.exec,x1]) (λbase=>by simp[stepG,stepG.exec,x2])
   |ret=>
    rw[apG T] at *;have G:∀base w,stepG P m ⟨⟨f,t,.code .ret::k,d,.run,.normal,r⟩,cs++base,.running,none,none⟩ w=iL P m ⟨f,t,.code .ret::k,d,.run,.normal,r⟩ (cs++base) w (some .ret):=λ_ _=>rfl;have L:∀base,stepG P' m' ⟨⟨f,B,.code .ret::F,J,.run,.normal,E⟩,V++base,.running,none,none⟩ w'=iL P' m' ⟨f,B,.code .ret::F,J,.run,.normal,E⟩ (V++base) w' (some .ret):=λ_=>rfl;simp only[G,L];exact agD T m m' A C rfl (some .ret) (by rw[qk,apG T])
   |region id n draw=>
    rcases anE T id n draw with⟨e,N⟩|⟨U,e,N,ao⟩|e
    .rw[e] at *;cases draw with
     |false=>exact abz T (m:=m) A C (.cons (.inRegion N (List.range n.size)) I) (λbase w=>by simp[stepG,stepG.exec]) (λbase=>by simp[stepG,stepG.exec])
     |true=>
      have G:∀(p:Program) (q:Question) (w:World),q.forced=false->(choose q).run p w=.ok (q.cut (w.tape w.drawn q)) {w with drawn:=w.drawn+1}:=λp q w hq=>by
       unfold choose;rw[Sem.run,hq];rfl
      obtain⟨q1,q2⟩:=C.ask 1 1;have hi:jD P ρ (.inRegion n (Region.schedule (P.follows .mixedOrders) n (w'.tape w'.drawn (.order f id)))::k) (.inRegion n (Region.schedule (P'.follows .mixedOrders) n (w'.tape w'.drawn (.order f id)))::F):=by
       rw[T.follows];exact .cons (.inRegion N _) I
      refine⟨λ_ _=>w'.tape w'.drawn (.order f id),1,.inr ⟨ρ,⟨f,t,.inRegion n (Region.schedule (P.follows .mixedOrders) n (w'.tape w'.drawn (.order f id)))::k,d,.run,.normal,r⟩::cs,{w with drawn:=w.drawn+1},#[],⟨f,B,.inRegion n (Region.schedule (P'.follows .mixedOrders) n (w'.tape w'.drawn (.order f id)))::F,J,.run,.normal,E⟩::V,{w' with drawn:=w'.drawn+1},#[],λbase K M=> ?_,rfl,Ren.Le.refl _,λbase=> ?_,q1,q2,.nil _ _,GoR.of (A.put (Ren.Le.refl _) (A.head.at hi) rfl)⟩⟩
      .have hd:=M w.drawn (.order f id) (am _) (by omega);simp only[stepG,stepG.exec,G P (.order f id) (w.dM K) rfl];show GStep.go _ _ _=_;have:(w.dM K).tape (w.dM K).drawn (.order f id)=w'.tape w'.drawn (.order f id):=hd;simp only[Question.cut,this];rfl
      .simp only[stepG,stepG.exec,G P' (.order f id) w' rfl];rfl
    .rw[e] at *;have af:List.range U.size=List.range n.size:=by rw[N.1]
     cases draw with
     |false=>exact abz T (m:=m) A C (.cons (.inRegion N (List.range n.size)) I) (λbase w=>by simp[stepG,stepG.exec,af]) (λbase=>by simp[stepG,stepG.exec])
     |true=>
      have G:∀(p:Program) (q:Question) (w:World),q.forced=false->(choose q).run p w=.ok (q.cut (w.tape w.drawn q)) {w with drawn:=w.drawn+1}:=λp q w hq=>by
       unfold choose;rw[Sem.run,hq];rfl
      obtain⟨q1,q2⟩:=C.ask 1 1;have hi:jD P ρ (.inRegion U (Region.schedule (P.follows .mixedOrders) U (w'.tape w'.drawn (.order f id)))::k) (.inRegion n (Region.schedule (P'.follows .mixedOrders) n (w'.tape w'.drawn (.order f id)))::F):=by
       rw[T.follows,ao];exact .cons (.inRegion N _) I
      refine⟨λ_ _=>w'.tape w'.drawn (.order f id),1,.inr ⟨ρ,⟨f,t,.inRegion U (Region.schedule (P.follows .mixedOrders) U (w'.tape w'.drawn (.order f id)))::k,d,.run,.normal,r⟩::cs,{w with drawn:=w.drawn+1},#[],⟨f,B,.inRegion n (Region.schedule (P'.follows .mixedOrders) n (w'.tape w'.drawn (.order f id)))::F,J,.run,.normal,E⟩::V,{w' with drawn:=w'.drawn+1},#[],λbase K M=> ?_,rfl,Ren.Le.refl _,λbase=> ?_,q1,q2,.nil _ _,GoR.of (A.put (Ren.Le.refl _) (A.head.at hi) rfl)⟩⟩
      .have hd:=M w.drawn (.order f id) (am _) (by omega);simp only[stepG,stepG.exec,G P (.order f id) (w.dM K) rfl];show GStep.go _ _ _=_;have:(w.dM K).tape (w.dM K).drawn (.order f id)=w'.tape w'.drawn (.order f id):=hd;simp only[Question.cut,this];rfl
      .simp only[stepG,stepG.exec,G P' (.order f id) w' rfl];rfl
    .rw[e] at *;exact GoR.jE λbase w=>⟨_,_,_,by simp[stepG,stepG.exec];exact⟨rfl,rfl,rfl⟩⟩
   |rangeFunc fo ps a b=>
    rw[agC T] at *;by_cases Q:bJ gA gL fo=true
    .rw[dq Q] at *;obtain⟨t₁,D,H⟩:=(ahV (P:=P) (P':=P') f h2 ps a b h7).run w w' #[] #[] C;rcases H with H|⟨σ,q,w1,q',cN,us,a7,g1,g2,g3,g4,g5,g6,g7,g8⟩
     .refine⟨t₁,D,.inl λbase K M=> ?_⟩;obtain⟨h,w1,mV,hr,a8⟩:=H K M;simp only[stepG,stepG.exec,hr];exact mK.after _ (.ended _ _ _)
     .obtain⟨lp,mk⟩:=q;obtain⟨a4,mk'⟩:=q';obtain⟨a6,Z⟩:=g5;dsimp only at a6 Z;have aL:∀{x x' y y':List Deferred},CDs σ x x'->CDs σ y y'->CDs σ (x++y) (x'++y'):=by
       intro x x' y y' hx hy
       induction hx with
       |nil=>exact hy
       |cons hb _ ih=>exact .cons hb ih
      have a9:iF P σ (⟨f,t,.inRangeFunc lp::k,mk++d,.run,.normal,r⟩::cs) (⟨f,B,.inRangeFunc a4::F,mk'++J,.run,.normal,E⟩::V):=
       A.put g3 ⟨rfl,bN.mono g3 h2,.cons (.inRangeFunc a6) (I.mono g3),aL Z (h4.mono g3),.inl ⟨rfl,rfl⟩,⟨rfl,rfl⟩,h7.mono g3⟩ rfl
      have ad:=a9.head.env (hg.mono g3);have a3:=amg T X (ad fo Q) (args:=#[.func (.yield lp) #[] #[]]) (args':=#[.func (.yield a4) #[] #[]]) (.cons (.func (.yield a6) .nil .nil) .nil);refine lG.seq T (s1:=λbase w=>stepG.apply P true ⟨f,t,.inRangeFunc lp::k,mk++d,.run,.normal,r⟩ (cs++base) none _ w) (s1':=λbase=>stepG.apply P' true ⟨f,B,.inRangeFunc a4::F,mk'++J,.run,.normal,E⟩ (V++base) none _ cN) f (t₁:=t₁) (D:=D) (λbase K M=> ?_) g2 g3 (λbase=> ?_) g7 g8 (agA T a9 g6 a3)
      .simp only[stepG,stepG.exec,g1 K M,Array.empty_append];rw[aam _ _ _ λ_=>rfl]
      .simp only[stepG,stepG.exec,g4,Array.empty_append];rw[aam _ _ _ λ_=>rfl]
    .rw[bv Q] at *;exact GoR.jE λbase w=>⟨_,_,_,by simp[stepG,stepG.exec];exact⟨rfl,rfl,rfl⟩⟩
end
def oL(l:List Frame):Prop:=∃a,l=[a]/\a.mode=.returning/\a.defers=[]/\a.kind=.normal
section
variable {P P':Program} {ρ σ:Ren} {w w':World}
def aeh{l l':Nat}(h:ρ.r l l'):az P P' (λ_ q b=>q=[]/\b=[]) ρ (Instr.takeDeferred l) (Instr.takeDeferred l'):=by
 unfold Instr.takeDeferred;refine ai (eH h) λσ x d c a=> ?_;cases a with
 |deferred=>exact ai (iH (c.r h) .bG) λ_ _ _ _ _=>aj ⟨rfl,rfl⟩
 |_=>exact .halt _ _
variable (T:Twin P P') (X:ahH P P')
include T
theorem ahW:∀(l:List ResultVar) {ρ:Ren} {t b:Array Value},dh ρ t b->az P P' bN ρ (l.mapM fun
  |.tmp k=>pure (t.getD k undef)
  |.cell a c=>do loadVar c (<-asAddr (t.getD a undef))) (l.mapM fun
  |.tmp k=>pure (b.getD k undef)
  |.cell a c=>do loadVar c (<-asAddr (b.getD a undef)))
 |[],_,_,_,_=>by
  rw[List.mapM_nil,List.mapM_nil];exact aj .nil
 |x::l,ρ,t,b,h=>by
  have g:∀(σ:Ren) (k:Nat),ρ.Le σ->VR σ (t.getD k undef) (b.getD k undef):=λσ k d=>by
   have y:=bN.size h;rw[gE,gE];cases e:t[k]? with
   |none=>
    have:b[k]?=none:=by
     rw[qh] at e ⊢;omega
    rw[this];exact VR.undef
   |some v=>
    obtain⟨m,j,n⟩:=bN.get h (i:=k) (v:=v) (by rw[du];exact e);rw[du] at j;rw[j];exact n.mono d
  rw[vO,vO];refine ai (A:=VR) ?_ λσ v m d r=>ai (ahW l (bN.mono d h)) λs u q o f=>aj (.cons (r.mono o) f);cases x with
  |tmp k=>exact aj (g ρ k (Ren.Le.refl _))
  |cell a c=>exact ai (ahE (g ρ a (Ren.Le.refl _))) λσ x w d p=>afv T c p
theorem afG{fn f:Func}(k:f.results=fn.results)(h:dh ρ t W):az P P' VR ρ (results fn t) (results f W):=by
 unfold results;rw[k,tP,tP,map_eq_pure_bind,map_eq_pure_bind];refine ai (A:=dh) (ai (ahW T fn.results.toList h) λ_ _ _ _ b=>aj (A:=dh) b) λσ c a m b=> ?_;have n:c.size=a.size:=bN.size b;refine aj ?_;by_cases e:c.size=1
 .have d:a.size=1:=by omega
  rw[tL e,tL d];obtain⟨l,g,j⟩:=bN.get b (i:=0) (v:=c[0]) (by rw[du];exact fi (by omega));rw[du,fi (by omega)] at g;obtain rfl:=dk g;exact j
 .have d:¬a.size=1:=by omega
  rw[dif_neg e,dif_neg d];exact .tuple b
theorem ayK(m m':Bool)(hS:iF P ρ (fr::cs) (R::V))(O:WR ρ w w')(hm:fr.mode=.returning)(hn:fr.defers≠[]\/cs≠[]) :
  lG P P' ρ w w' (λbase w=>stepG P m ⟨fr,cs++base,.running,none,none⟩ w) (λbase=>stepG P' m' ⟨R,V++base,.running,none,none⟩ w'):=by
 have mf:=hS.head;obtain⟨f,t,E,d,md,kd,r⟩:=fr;obtain⟨f',I,fF,d',L,a1,r'⟩:=R;obtain⟨G,o,h3,h4,A,h6,h7⟩:=mf;dsimp only at G o h3 h4 A h6 h7 hm hn;subst G;subst hm;obtain⟨rfl,rfl⟩:=h6;obtain rfl:L=.returning:=by
  rcases A with A|A
  .cases A.1
  .exact A.2
 cases h4 with
 |@cons b b' ds N hb hl=>
  obtain⟨g,D,H⟩:=(aeh (P:=P) (P':=P') hb).run w w' #[] #[] O;rcases H with H|⟨σ,a,F,a',J,S,s,Y,W,k,Q,g5,U,M,X⟩
  .refine⟨g,D,.inl λbase u q=> ?_⟩;obtain⟨h,F,mV,Z,K⟩:=H u q;simp only[stepG,unwind,Z];exact mK.after _ (.ended _ _ _)
  .obtain⟨rfl,rfl⟩:=g5;refine⟨g,D,.inr ⟨σ,⟨f,t,E,ds,.returning,.normal,r⟩::cs,F,seen P f S,⟨f,I,fF,N,.returning,.normal,r'⟩::V,J,seen P' f s,λbase u q=> ?_,W,k,λbase=> ?_,U,M,aaC T f X,
    GoR.of (hS.put k ⟨rfl,bN.mono k o,h3.mono k,hl.mono k,.inr ⟨rfl,rfl⟩,⟨rfl,rfl⟩,h7.mono k⟩ rfl)⟩⟩
   .simp only[stepG,unwind,Y u q];simp[GStep.after,Gl]
   .simp only[stepG,unwind,Q];simp[GStep.after,Gl]
 |nil=>
  have a0:cs≠[]:=hn.resolve_left λh=>h rfl;cases hS with
  |one h h0=>exact absurd rfl a0
  |cons h j=>
   obtain⟨x,B,rfl⟩:∃x B,cs=x::B:=by cases j<;>exact⟨_,_,rfl⟩
   obtain⟨x',C,rfl⟩:∃x B,V=x::B:=by cases j<;>exact⟨_,_,rfl⟩
   have n:∀(p:Program) (m:Bool) (x:Frame) (l:List Frame) (v:Value) (w:World) (tm:Array Value) (td:List Item) (r:Option Nat),doReturn p m ⟨f,tm,td,[],.returning,.normal,r⟩ (x::l) none v w=.go ⟨x.finish v,l,.running,none,none⟩ w #[]:=λ_ _ _ _ _ _ _ _ _=>rfl;cases z:P.funcs[f]? with
   |none=>
    have y:P'.funcs[f]?=none:=by
     rw[qh] at z ⊢;rw[T.ahC];exact z
    have hv:VR ρ (t.getD 0 undef) (I.getD 0 undef):=by
     have hz:=bN.size o;rw[gE,gE];cases e:t[0]? with
     |none=>
      have:I[0]?=none:=by
       rw[qh] at e ⊢;omega
      rw[this];exact VR.undef
     |some v=>
      obtain⟨v',G,o⟩:=bN.get o (i:=0) (v:=v) (by rw[du];exact e);rw[du] at G;rw[G];exact o
    refine lG.still O (l:=x.finish (t.getD 0 undef)::B) (l':=x'.finish (I.getD 0 undef)::C) (λbase w=> ?_) (λbase=> ?_) (GoR.of (j.put (Ren.Le.refl _) (j.head.finish hv) (fZ _ _)))
    .simp only[stepG,unwind,z,qW,n,Gl]
    .simp only[stepG,unwind,y,qW,n,Gl]
   |some fn=>
    obtain⟨di,y,hR⟩:=T.func f fn z;obtain⟨g,D,H⟩:=(afG T hR.results o).run w w' #[] #[] O;rcases H with H|⟨σ,a,F,a',J,S,s,Y,W,k,Q,g5,U,M,X⟩
    .refine⟨g,D,.inl λbase u q=> ?_⟩;obtain⟨h,F,mV,Z,K⟩:=H u q;simp only[stepG,unwind,z,Z];refine mK.after _ ?_;cases h<;>exact .ended _ _ _
    .refine⟨g,D,.inr ⟨σ,x.finish a::B,F,seen P f S,x'.finish a'::C,J,seen P' f s,λbase u q=> ?_,W,k,λbase=> ?_,U,M,aaC T f X,GoR.of (j.put k ((j.head.mono k).finish g5) (fZ _ _))⟩⟩
     .simp only[stepG,unwind,z,Y u q,qW,n];simp[GStep.after,Gl]
     .simp only[stepG,unwind,y,Q,qW,n];simp[GStep.after,Gl]
include X
theorem awC(j:GlR ρ)(m m':Bool)(a:iF P ρ l l')(d:WR ρ w w')(k:¬oL l) :
  lG P P' ρ w w' (λbase w=>stepG P m (Gl l base) w) (λbase=>stepG P' m' (Gl l' base) w'):=by
 obtain⟨f,n,rfl⟩:∃x c,l=x::c:=by cases a<;>exact⟨_,_,rfl⟩
 obtain⟨p,g,rfl⟩:∃x c,l'=x::c:=by cases a<;>exact⟨_,_,rfl⟩
 rcases a.head.mode with b|b
 .exact ayI T X j m m' a d b.1
 .refine ayK T m m' a d b.1 ?_;refine qN λh=>k ?_;have o:f.defers=[]:=qN λe=>h (.inl e);have i:n=[]:=qN λe=>h (.inr e);subst i;exact⟨f,rfl,b.1,o,a.head.kind.1⟩
end
def iu(dst:Option Tmp)(op:Op)(t:TypeId):Oper:={dst,op,type:=t,pos:= "",after:=#[],guard:=none}
abbrev cf:FuncId:=48
abbrev nCC:FuncId:=129
def bW:Code->Code
 |.seq _ b=>b
 |c=>c
noncomputable def cJ:Code:=bW (bW (bW (bW (bW (f48.body.getD .skip)))))
def asW(r:Nat)(ops:Array Oper)(t:Tmp):Code:=.seq (.region r ops false) (.cond (.tmp t) .skip (.refuse ""))
def aaE(r:Nat)(ops:Array Oper)(t:Tmp):Code:=.seq (.region r ops false) (.cond (.tmp t) (.refuse "") .skip)
def aaF(d:Tmp)(x y:Operand):Oper:=iu (some d) (.binOp .lss 3 x y 3) 4
def asX(d:Tmp)(x y:Operand):Oper:=iu (some d) (.binOp .eql 3 x y 3) 4
def asY(d:Tmp)(x:Operand):Oper:=iu (some d) (.binOp .mul 3 x (.const (.int .i64 1)) 3) 3
def asZ(d:Tmp)(x:Operand):Oper:=iu (some d) (.binOp .add 3 x (.const (.int .i64 1)) 3) 3
def apJ(d:Tmp)(x:Tmp)(ty:TypeId):Oper:=iu (some d) (.call ⟨.builtin .len,#[.tmp x],#[ty]⟩) 3
def as0(d:Tmp)(x:Tmp)(ty:TypeId):Oper:=iu (some d) (.call ⟨.builtin .cap,#[.tmp x],#[ty]⟩) 3
def anF(d:Tmp)(n:Int):Oper:=iu (some d) (.assign (.const (.int .i64 n))) 3
abbrev kOp(n:Int):Operand:=.const (.int .i64 n)
def avj:Array Oper:=#[
  iu (some 6) (.assign (.const (.slice none 0 0))) 78,
  iu (some 7) (.assign (.const (.bool false))) 4,
  aaF 16 (.tmp 0) (kOp 1)]
def avk:Array Oper:=#[aaF 16 (kOp 99) (.tmp 0)]
def avl:Array Oper:=#[
  iu (some 16) (.load 164 (.global 1)) 164,
  iu (some 16) (.load 164 (.global 2)) 164,
  apJ 16 1 23,as0 18 1 23,anF 20 0,
  aaF 19 (kOp 9223372036854775807) (.tmp 18)]
def avm:Array Oper:=#[aaF 19 (.tmp 18) (.tmp 16)]
def avn:Array Oper:=#[aaF 21 (.tmp 20) (.tmp 16)]
def avo:Array Oper:=#[
  iu (some 23) (.indexAddr 23 (.tmp 1) (.tmp 20)) 0,
  iu (some 24) (.load 54 (.tmp 23)) 54,
  iu (some 25) (.field 54 (.tmp 24) 0) 3,
  asY 26 (.tmp 25),asX 22 (.tmp 26) (.tmp 25)]
def avp:Array Oper:=#[
  iu (some 27) (.field 54 (.tmp 24) 1) 52,
  apJ 28 27 52,as0 3 27 52,aaF 4 (.tmp 28) (kOp 1)]
def avq:Array Oper:=#[aaF 4 (kOp 9223372036854775807) (.tmp 3)]
def avr:Array Oper:=#[aaF 4 (.tmp 3) (.tmp 28)]
def ayL:Array Oper:=#[anF 5 0]
def avs:Array Oper:=#[aaF 4 (.tmp 5) (.tmp 28)]
def avt:Array Oper:=#[
  iu (some 9) (.indexAddr 52 (.tmp 27) (.tmp 5)) 0,
  iu (some 10) (.load 60 (.tmp 9)) 60,
  iu (some 11) (.field 60 (.tmp 10) 0) 3,
  asY 13 (.tmp 11),asX 15 (.tmp 13) (.tmp 11)]
def avu:Array Oper:=#[
  iu (some 26) (.field 60 (.tmp 10) 1) 9,
  apJ 25 26 9,aaF 15 (kOp 9223372036854775807) (.tmp 25)]
def avv:Array Oper:=#[asZ 22 (.tmp 5),iu (some 5) (.move (.tmp 22)) 3]
def avw:Array Oper:=#[asZ 22 (.tmp 20),iu (some 20) (.move (.tmp 22)) 3]
def apK:Array Oper:=#[apJ 16 2 87,as0 18 2 87,aaF 19 (kOp 2147483647) (.tmp 16)]
def apL:Array Oper:=#[aaF 19 (kOp 9223372036854775807) (.tmp 18)]
def apM:Array Oper:=#[aaF 19 (.tmp 18) (.tmp 16)]
def ami:Array Oper:=#[
  iu (some 27) (.makeSlice 111 (.tmp 16) (.tmp 16)) 111,
  anF 28 0]
def avx:Array Oper:=#[aaF 26 (.tmp 28) (.tmp 16)]
def avy:Array Oper:=#[
  iu (some 25) (.indexAddr 87 (.tmp 2) (.tmp 28)) 0,
  iu (some 20) (.load 3 (.tmp 25)) 3,
  asY 22 (.tmp 20),asX 21 (.tmp 22) (.tmp 20)]
def ahX:Array Oper:=#[
  iu (some 24) (.call ⟨.value (.func 69),#[.tmp 0,.tmp 1,.tmp 20],#[3,23,3]⟩) 124,
  iu (some 23) (.indexAddr 111 (.tmp 27) (.tmp 28)) 0,
  iu none (.store 124 (.tmp 23) (.tmp 24)) 0]
def ahY:Array Oper:=#[asZ 22 (.tmp 28),iu (some 28) (.move (.tmp 22)) 3]
def ahZ:Array Oper:=#[
  iu (some 17) (.assign (.tmp 27)) 111,
  iu (some 8) (.alloc 111) 0,
  iu none (.store 111 (.tmp 8) (.tmp 17)) 0]
def cK:List Nat:=[3,4,5,9,10,11,13,15,16,18,19,20,21,22,23,24,25,26,27,28]
def ac1:Array Oper:=⟨cK.map λt=>anF t 0⟩
def aaG:Code:=.seq (.region 70 avs false) (.seq (.cond (.tmp 4) .skip (.exit 52)) (.seq (asW 71 avt 15) (.seq (aaE 72 avu 15) (.region 73 avv false))))
def aaH:Code:=.seq (.region 60 avn false) (.seq (.cond (.tmp 21) .skip (.exit 51)) (.seq (asW 61 avo 22) (.seq (aaE 62 avp 4) (.seq (aaE 63 avq 4) (.seq (aaE 64 avr 4) (.seq (.region 65 ayL false)
 (.seq (.block 52 (.loop aaG)) (.region 66 avw false))))))))
def mg:Code:=.seq (.region 80 avx false) (.seq (.cond (.tmp 26) .skip (.exit 53)) (.seq (asW 81 avy 21) (.seq (.region 82 ahX false) (.region 83 ahY false))))
noncomputable def jQ:Code:=.seq (aaE 50 avj 16) (.seq (aaE 51 avk 16) (.seq (aaE 52 avl 19) (.seq (aaE 53 avm 19) (.seq (.block 51 (.loop aaH))
 (.seq (aaE 54 apK 19) (.seq (aaE 55 apL 19) (.seq (aaE 56 apM 19) (.seq (.region 57 ami false) (.seq (.block 53 (.loop mg)) (.seq (.region 58 ahZ false) (.seq (.region 59 ac1 false) cJ)))))))))))
def oO:Array Oper:=#[
  iu none (.call ⟨.builtin .unsafeSlice,#[.tmp 0,.const (.int .i64 1)],#[160,3]⟩) 0,
  iu (some 4) (.fieldAddr 162 (.tmp 0) 0) 0,
  iu (some 5) (.load 160 (.tmp 4)) 160,
  iu (some 6) (.binOp .eql 160 (.tmp 5) (.const (.pointer none)) 160) 4]
def agE:Array Oper:=#[iu none (.store 160 (.tmp 4) (.tmp 0)) 0]
def aj8:Array Oper:=#[
  iu (some 7) (.fieldAddr 162 (.tmp 5) 0) 0,
  iu none (.store 160 (.tmp 7) (.const (.pointer none))) 0,
  iu (some 8) (.load 160 (.tmp 4)) 160,
  iu (some 9) (.binOp .eql 160 (.tmp 8) (.const (.pointer none)) 160) 4]
def mY:Code:=
 .seq (.region 0 oO false)
 (.seq (.cond (.tmp 6) .skip (.seq (.region 2 aj8 false) (.cond (.tmp 9) .skip (.refuse ""))))
 (.seq (.region 1 agE false) .ret))
noncomputable def qFA(β:Bool):Func:={f48 with body:=some (if β then jQ else .refuse "")}
noncomputable def qCC:Func:={f129 with body:=some mY}
noncomputable def pf(fn:Func):Func:={fn with body:=fn.body.map gP}
noncomputable def mj(β:Bool):Array Func:=((prog.funcs.map pf).setIfInBounds cf (qFA β)).setIfInBounds nCC qCC
noncomputable def ah(β:Bool):Program:={prog with funcs:=mj β}
section
variable (P:Program) (fs:Array Func)
def jR(t:TypeId):({P with funcs:=fs}:Program).info? t=P.info? t:=rfl
def cF(t:TypeId):({P with funcs:=fs}:Program).underlying t=P.underlying t:=rfl
def adG:({P with funcs:=fs}:Program).depth=P.depth:=rfl
def adH(t:TypeId):({P with funcs:=fs}:Program).cellsOf t=P.cellsOf t:=rfl
def agF(t:TypeId):({P with funcs:=fs}:Program).bytesOf t=P.bytesOf t:=rfl
def agG:∀(d:Nat) (t:TypeId),({P with funcs:=fs}:Program).eqGuardType d t=P.eqGuardType d t
 |0,_=>rfl
 |d+1,t=>by
  unfold Program.eqGuardType;rw[cF];simp only[agG d]
def abA:∀(d:Nat) (t:TypeId) (n:Nat),byteOfCell {P with funcs:=fs} d t n=byteOfCell P d t n
 |0,_,_=>rfl
 |d+1,t,n=>by
  unfold byteOfCell;rw[cF];simp only[adH,agF,abA d];rfl
def abB:∀(d:Nat) (t:TypeId) (n:Nat),cellOfByte {P with funcs:=fs} d t n=cellOfByte P d t n
 |0,_,_=>rfl
 |d+1,t,n=>by
  unfold cellOfByte;rw[cF];simp only[adH,agF,abB d];rfl
def apN(d:Nat)(e:TypeId)(c o:Nat)(b:Int):cellAtBytes {P with funcs:=fs} d e c o b=cellAtBytes P d e c o b:=by
 unfold cellAtBytes;simp only[adH,agF,abA,abB];rfl
def adI(t:TypeId):({P with funcs:=fs}:Program).stoodInHeld t=P.stoodInHeld t:=by
 have b:∀(d:Nat) (t u:TypeId),({P with funcs:=fs}:Program).alikeButTags d t u=P.alikeButTags d t u:=by
  intro d
  induction d with
  |zero=>intro t u;rfl
  |succ d a=>
   intro t u;unfold Program.alikeButTags;simp only[jR,a]
 unfold Program.stoodInHeld Program.stoodInAs;simp only[cF,jR,adG,b];rfl
def afH(d:Departure):({P with funcs:=fs}:Program).follows d=P.follows d:=rfl
def apO(d:Nat)(e:TypeId)(c o:Nat)(u:TypeId)(n:Nat):liesAt {P with funcs:=fs} d e c o u n=liesAt P d e c o u n:=by
 have g:∀(d:Nat) (t u:TypeId),sameLayout {P with funcs:=fs} d t u=sameLayout P d t u:=by
  intro d
  induction d with
  |zero=>intro t u;rfl
  |succ d b=>
   intro t u;unfold sameLayout;simp only[cF,adI,b];rfl
 have f:∀(a:TypeId->Bool) (d:Nat) (e:TypeId) (c o n:Nat),rowAt {P with funcs:=fs} a d e c o n=rowAt P a d e c o n:=by
  intro a d
  induction d with
  |zero=>intro e c o n;rfl
  |succ d b=>
   intro e c o n;unfold rowAt;simp only[cF,adI,adH,b];rfl
 induction d generalizing e c o u n with
 |zero=>rfl
 |succ d b=>
  unfold liesAt;simp only[cF,g,f,b,adG]
end
def df(v:Value):Prop:=∀a:Ren,VR a v v
def bN.diag{ρ:Ren}:∀{l b:List Value},bN ρ l b->l=b->∀c∈l,VR ρ c c
 |_,_,.nil,_,c,a=>by cases a
 |_,_,.cons x y,e,c,a=>by
  simp only[qf] at e;obtain⟨rfl,e⟩:=e;rcases oE.1 a with rfl|a
  .exact x
  .exact y.diag e c a
def df.cells(h:df v):∀c∈v.cells.toList,df c:=λc a b=>(h b).cells.diag rfl c a
def df.agg{c:Array Value}(h:∀v∈c.toList,df v):df (.agg c):=λa=>.agg (bN.kC λv b=>h v b a)
def StI{β:Type}(I:β->Prop):ForInStep β->Prop
 |.done b=>I b
 |.yield b=>I b
def afI{e β:Type}{I:β->Prop}:∀(l:List e) {b c:β} {f:e->β->Option (ForInStep β)},forIn l b f=some c->I b->(∀a b r,I b->f a b=some r->StI I r)->I c
 |[],b,c,f,h,hb,_=>by
  rw[tW] at h;obtain rfl:=dk h;exact hb
 |a::l,b,c,f,h,hb,hf=>by
  rw[tO] at h;cases d:f a b with
  |none=>rw[d] at h;cases h
  |some r=>
   rw[d] at h;have:=hf a b r hb d;cases r with
   |done x=>
    obtain rfl:=dk h;exact this
   |yield x=>exact afI l h this hf
def ah0(hi:∀t i v,L t=some i->i.zero=some v->df v){E:Array Field}(h:Made.reckonStruct L E=some i):∀v,i.zero=some v->df v:=by
 unfold Made.reckonStruct at h;dsimp only at h;obtain⟨s,A,h⟩:=pb.1 h;rw[<-tn] at A;have w:=afI (I:=λs:Array Field×Nat×Nat×Nat×Nat×Bool×Bool×Option (Array Value)×String=>∀k,s.2.2.2.2.2.2.2.1=some k->∀v∈k.toList,df v) _ A (λk e v l=>by
  obtain rfl:=dk e;cases l) λf B r D g=> ?_
 .intro v l;have y:i.zero=s.2.2.2.2.2.2.2.1.map Value.agg:=by
   split at h<;>(obtain rfl:=dk h;rfl)
  rw[y] at l;cases u:s.2.2.2.2.2.2.2.1 with
  |none=>rw[u] at l;cases l
  |some k=>
   rw[u] at l;obtain rfl:=dk l;exact df.agg (w k u)
 .obtain⟨j,F,g⟩:=pb.1 g;have n:∀k,(if B.2.1+j.size>Made.mostCells then none else do
     let a<-B.2.2.2.2.2.2.2.1
     let b<-j.zero
     pure (a++b.cells):Option (Array Value))=some k->∀v∈k.toList,df v:=λk e v l=>by
   split at e
   .cases e
   .obtain⟨a,G,e⟩:=pb.1 e;obtain⟨b,o,e⟩:=pb.1 e;obtain rfl:=dk e;rw[pv,mx] at l;rcases l with l|l
    .exact D a G v l
    .exact(hi _ _ _ F o).cells v l
  have m:∀(z:Option (Array Value)) (a:Array Field) (b c d e:Nat) (p q:Bool) (x:String),(∀k,z=some k->∀v∈k.toList,df v)->(some (ForInStep.yield (a,b,c,d,e,p,q,z,x)):Option (ForInStep (Array Field×Nat×Nat×Nat×Nat×Bool×Bool×Option (Array Value)×String)))=some r->
    StI (λb=>∀k,b.2.2.2.2.2.2.2.1=some k->∀v∈k.toList,df v) r:=λz a b c d e p q x y h=>by
   obtain rfl:=dk h;exact y
  split at g
  .cases g
  .split at g
   .cases g
   .split at g
    .obtain⟨C, -,g⟩:=pb.1 g;by_cases o:j.bytes=0
     .rw[dq o] at g;exact m _ _ _ _ _ _ _ _ _ n g
     .rw[bv o] at g;exact m _ _ _ _ _ _ _ _ _ n g
    .obtain⟨C, -,g⟩:=pb.1 g;by_cases o:j.bytes=0
     .rw[dq o] at g;exact m _ _ _ _ _ _ _ _ _ n g
     .rw[bv o] at g;exact m _ _ _ _ _ _ _ _ _ n g
def anG(hi:∀t i v,L t=some i->i.zero=some v->df v){d:TypeDesc}(h:Made.reckon L d=some i):∀v,i.zero=some v->df v:=by
 have f:∀(d:TypeDesc) (s:String) (z:Value) (c:Bool) (b:Nat),df z->Made.word d s z c b=i->∀v,i.zero=some v->df v:=λd s z c b m e v a=>by
  subst e;obtain rfl:=dk a;exact m
 unfold Made.reckon at h;cases d with
 |struct u=>exact ah0 hi h
 |pointer e=>
  obtain⟨j,l,h⟩:=pb.1 h;have fin:∀{o:Option String},(do pure (Made.word (.pointer e) ("*" ++(<-o)) (.pointer none) true))=some i->∀v,i.zero=some v->df v:=λ{o} h=>by
   obtain⟨s,g,h⟩:=pb.1 h;exact f _ _ _ _ _ (λ_=>.pointer .none) (dk h)
  split at h
  .cases h
  .split at h
   .cases h
   .exact fin h
  .exact fin h
 |slice e=>
  obtain⟨j,l,h⟩:=pb.1 h;obtain⟨s,g,h⟩:=pb.1 h;exact f _ _ _ _ _ (λ_=>.slice .none 0 0) (dk h)
 |map k e=>
  obtain⟨j,l,h⟩:=pb.1 h;obtain⟨s,g,h⟩:=pb.1 h;obtain⟨j,l,h⟩:=pb.1 h;obtain⟨s,g,h⟩:=pb.1 h;exact f _ _ _ _ _ (λ_=>.map .none) (dk h)
 |chan k e=>
  obtain⟨j,l,h⟩:=pb.1 h;obtain⟨s,g,h⟩:=pb.1 h;exact f _ _ _ _ _ (λ_=>.chan .none) (dk h)
 |func w q v=>
  obtain⟨s,g,h⟩:=pb.1 h;exact f _ _ _ _ _ (λ_=>.nilFunc) (dk h)
 |array n e=>
  obtain⟨j,l,h⟩:=pb.1 h;obtain⟨s,g,h⟩:=pb.1 h;obtain rfl:=dk h;intro v a;dsimp only at a;split at a
  .cases a
  .split at a
   .obtain rfl:=dk a;exact df.agg λv a=>by cases a
   .cases m:j.zero with
    |none=>rw[m] at a;cases a
    |some z=>
     rw[m] at a;obtain rfl:=dk a;refine df.agg λv a=>(hi _ _ _ l m).cells v ?_;simp only[rV,Array.mem_flatten] at a;obtain⟨r,p,a⟩:=a;rw[Array.mem_replicate] at p;rw[<-p.2];exact rV.2 a
 |_=>cases h
def anH(c:∀(t:Nat) (i:TypeInfo) (v:Value),P.types[t]?=some i->i.zero=some v->df v):∀t i v,P.info? t=some i->i.zero=some v->df v:=by
 have b:∀(f:Nat) t i v,Made.infoAt P.toTables f t=some i->i.zero=some v->df v:=by
  intro f
  induction f with
  |zero=>intro t i v h;cases h
  |succ f e=>
   intro t i v h a;unfold Made.infoAt at h;split at h
   .exact c t i v h a
   .obtain⟨d,hd,h⟩:=pb.1 h;exact anG e h v a
 intro t i v h a;unfold Tables.info? at h;split at h
 .exact c t i v h a
 .exact b _ t i v h a
noncomputable def zOk(t:Nat):Bool:=match prog.types[t]? with
 |some i=>match i.zero with
  |some v=>nO (λ_=>false) 6 v
  |none=>true
 |none=>true
def as2:(List.range prog.types.size).all zOk=true:=by kernel_rfl
def acr:∀(d:Nat) (v:Value),nO (λ_=>false) d v=true->df v
 |0,v,h=>by cases h
 |d+1,v,h=>by
  have g:∀l:List Value,l.all (nO (λ_=>false) d)=true->∀e:Ren,bN e l l:=λl i e=>bN.kC λv j=>acr d v (lE.1 i v j) e;intro e;cases v with
  |bool b=>exact .bool b
  |int k n=>exact .int k n
  |string s=>exact .string s
  |nilFunc=>exact .nilFunc
  |nilIface=>exact .nilIface
  |pointer a=>cases a with
   |none=>exact .pointer .none
   |some a=>cases h
  |slice a n c=>cases a with
   |none=>exact .slice .none n c
   |some a=>cases h
  |map a=>cases a with
   |none=>exact .map .none
   |some a=>cases h
  |chan a=>cases a with
   |none=>exact .chan .none
   |some a=>cases h
  |func f a c=>
   unfold nO at h;simp only[ff] at h;cases f<;>(have:=h.1.1;cases this)
  |iface t v=>exact .iface t (acr d v h e)
  |agg c=>exact .agg (g _ h e)
  |tuple c=>exact .tuple (g _ h e)
  |float|complex=>cases h
def awD:∀t i v,prog.info? t=some i->i.zero=some v->df v:=anH λt i v h b=>by
 have a:=(dl.1 h).1;have:=lE.1 as2 t (qr.2 a);unfold zOk at this;rw[h] at this;dsimp only at this;rw[b] at this;exact acr 6 v this
noncomputable def amj(fn:Func):Bool:=!(fn.name == "runtime.NumGoroutine")
def ah1:prog.funcs.toList.all amj=true:=by kernel_rfl
def afJ{a:FuncId->Bool}{b:List Nat}{o:Op}(h:lZ P a b o=true)(g:Nat):o ≠ .ready g:=λe=>by
 subst e;unfold lZ at h;simp at h
def afd(P:Program)(t:FuncId->Bool)(r:List Nat)(s:TypeId):∀c:Code,readies (bM P t r s c)=[]:=by
 intro c
 induction c with
 |region id u draw=>
  unfold bM;have m:∀l:List Oper,(∀o∈l,∀g,o.op ≠ .ready g)->(l.filterMap λo=>match o.op with|.ready g=>some g|_=>none)=[]:=by
   intro l v;rw[List.filterMap_eq_nil_iff];intro o k;split
   .rename_i g e;exact absurd e (v o k g)
   .rfl
  split
  .rename_i h;exact m _ λo k g=>afJ (lE.1 h o k) g
  .split
   .rename_i h;refine m _ λo k g e=> ?_;rw[qA,ql] at k;obtain⟨p,w,rfl⟩:=k;have j:=lE.1 h p w;have q:(aaa t r s p).op=p.op:=by unfold aaa;split<;>rfl
    rw[q] at e;simp only[qV] at j;rcases j with j|j
    .exact afJ j g e
    .rw[e] at j;cases j
   .rfl
 |seq a b i d=>unfold bM readies;rw[i,d];rfl
 |cond c a b i d=>
  unfold bM;split
  .unfold readies;rw[i,d];rfl
  .rfl
 |rangeFunc f x a b i d=>
  unfold bM;split
  .unfold readies;rw[i,d];rfl
  .rfl
 |block id a n=>unfold bM readies;exact n
 |loop a n=>unfold bM readies;exact n
 |scope a n=>unfold bM readies;exact n
 |_=>rfl
def as3(P:Program)(m:Array Func)(k:FuncId->Bool)(i:List Nat)(j:TypeId):∀c:Code,bM {P with funcs:=m} k i j c=bM P k i j c:=by
 intro c
 induction c with
 |region id l draw=>rfl
 |seq a b e d=>unfold bM;rw[e,d]
 |cond c a b e d=>unfold bM;rw[e,d]
 |rangeFunc f n a b e d=>unfold bM;rw[e,d]
 |block id a g=>unfold bM;rw[g]
 |loop a g=>unfold bM;rw[g]
 |scope a g=>unfold bM;rw[g]
 |_=>rfl
section
variable (β:Bool)
def acs:(ah β).funcs[nCC]?=some qCC:=by
 have:nCC<(prog.funcs.map pf).size:=by rw[tF];exact(dl.1 func129).1
 show(((prog.funcs.map pf).setIfInBounds cf (qFA β)).setIfInBounds nCC qCC)[nCC]?=_;rw[qb (by simpa using this)]
def acu:(ah β).funcs[cf]?=some (qFA β):=by
 have:cf<(prog.funcs.map pf).size:=by rw[tF];exact(dl.1 func48).1
 show(((prog.funcs.map pf).setIfInBounds cf (qFA β)).setIfInBounds nCC qCC)[cf]?=_;rw[jp (by decide),qb this]
def aj9{f:Nat}(a:f≠nCC)(b:f≠cf):(ah β).funcs[f]?=(prog.funcs[f]?).map pf:=by
 show(((prog.funcs.map pf).setIfInBounds cf (qFA β)).setIfInBounds nCC qCC)[f]?=_;rw[jp (sj a),jp (sj b),rc]
def awE:(ah β).funcs.size=prog.funcs.size:=by
 show(((prog.funcs.map pf).setIfInBounds cf (qFA β)).setIfInBounds nCC qCC).size=_;simp
end
def ayM:gH nCC=true:=by unfold gH;kernel_rfl
def aka:readies jQ=[]:=by kernel_rfl
def ayN:gH cf=true:=by unfold gH;kernel_rfl
def ayO:prog.follows .staticDataAhead=true:=by kernel_rfl
def ayP:prog.underlying 3=some (.int .i64):=by kernel_rfl
def amk:f129.body.isSome=true:=by kernel_rfl
def aml:f48.body.isSome=true:=by kernel_rfl
section
variable (β:Bool)
def apP(g:Nat):(ah β).stepOf g=none:=by
 unfold Program.stepOf;rw[Array.findIdx?_eq_none_iff];intro fn b;obtain⟨f,a⟩:=Array.getElem?_of_mem b;by_cases i:f=nCC
 .subst i;rw[acs] at a;obtain rfl:=dk a;show((some mY).map readies).any (·.contains g)=false;rfl
 by_cases e:f=cf
 .subst e;rw[acu] at a;obtain rfl:=dk a;cases β with
  |true=>
   show(readies jQ).contains g=false;rw[aka];rfl
  |false=>rfl
 rw[aj9 β i e] at a;obtain⟨d,j,rfl⟩:=lc.1 a;show((d.body.map gP).map readies).any (·.contains g)=false;cases d.body with
 |none=>rfl
 |some c=>
  show(readies (gP c)).contains g=false;have:readies (gP c)=[]:=by unfold gP;exact afd _ _ _ _ c
  rw[this];rfl
def cB{f:Nat}{fn:Func}(h:prog.funcs[f]?=some fn):(fn.name == "runtime.NumGoroutine")=false:=by
 have:=lE.1 ah1 fn (rV.2 (qC h));unfold amj at this;simpa using this
def agH(f:FuncId)(fn:Func)(h:(ah β).funcs[f]?=some fn):∃b,prog.funcs[f]?=some b/\FnR (gH f) fn b:=by
 by_cases k:f=nCC
 .subst k;rw[acs] at h;obtain rfl:=dk h;have g:=cB func129;refine⟨_,func129,rfl,g,rfl,rfl,rfl,λe=>(by cases e),λc _=> ?_⟩;obtain⟨d,a⟩:=ry.1 amk;exact⟨d,a,λe=>by rw[ayM] at e;cases e⟩
 by_cases j:f=cf
 .subst j;rw[acu] at h;obtain rfl:=dk h;have g:=cB func48;refine⟨_,func48,rfl,g,rfl,rfl,rfl,λe=>(by cases e),λc _=> ?_⟩;obtain⟨d,a⟩:=ry.1 aml;exact⟨d,a,λe=>by rw[ayN] at e;cases e⟩
 rw[aj9 β k j] at h;obtain⟨b,i,rfl⟩:=lc.1 h;have g:=cB i;refine⟨b,i,rfl,g,rfl,rfl,rfl,λe=> ?_,λc e=> ?_⟩
 .have e:b.body.map gP=none:=e;have:b.body=none:=by simpa using e
  unfold pf;rw[this];cases b;dsimp only at this;subst this;rfl
 .have e:b.body.map gP=some c:=e;obtain⟨d,a,rfl⟩:=lc.1 e;exact⟨d,a,λ_=>rfl⟩
def lN:Twin (ah β) prog where
 info t:=(jR prog _ t).symm
 under t:=(cF prog _ t).symm
 rt:=rfl
 depth:=(adG prog _).symm
 globals:=by unfold gN;exact⟨rfl,rfl⟩
 zero t i v h hv ρ:=awD t i v ((jR prog _ t).symm.trans h) hv ρ
 stood t:=(adI prog _ t).symm
 au8:=rfl
 cellAt d e c o b:=(apN prog _ d e c o b).symm
 lies d e c o u n:=(apO prog _ d e c o u n).symm
 ajI d t:=(agG prog _ d t).symm
 follows d:=(afH prog _ d).symm
 pc:=by
  unfold gP
  funext c
  exact(as3 prog _ gA gL gB c).symm
 asq e h:=by
  have a:gB=3:=by unfold gB;rfl
  rw[a] at h;have:=((cF prog _ 3).symm.trans h);rw[ayP] at this;cases this
 func:=agH β
 ahC:=(awE β).symm
 mX:=⟨(afH prog _ _).trans ayO,apP β⟩
end
def agI{r:Y->Y->Prop}{a:Y}(h:∀f:Nat->Y,f 0=a->¬ ∀n,r (f (n+1)) (f n)):Acc r a:=by
 refine qN λe=> ?_;have step:∀x:{x:Y // ¬Acc r x},∃y:{x:Y // ¬Acc r x},r y.1 x.1:=λx=>qN λd=>x.2 ⟨_,λy c=>qN λb=>d ⟨⟨y,b⟩,c⟩⟩
 let f:Nat->{x:Y // ¬Acc r x}:=λn=>Nat.rec ⟨a,e⟩ (λ_ x=>(step x).choose) n
 exact h (λn=>(f n).1) rfl λn=>(step (f n)).choose_spec
def mZ(g:Goroutine)(w:World):Machine:={world:=w,gs:=#[g],rest:={timers:=#[],alone:=none,slice:=none}}
def gU(h:mZ g w=mZ g' w'):g=g'/\w=w':=by
 unfold mZ at h;simp only[Machine.mk.injEq,Array.mk.injEq,qf,qu] at h;exact⟨h.2,h.1⟩
def ah2(a:g.status=.running):move P (mZ g w)=.goroutine (mZ g w) 0:=by
 simp[move,ask,askOn,mZ,runnable_eq,due,ahead,Goroutine.canRun,vG,choose,pure,Sem.run,Question.forced,a]
def dG(a:g.status=.running)(h:stepG P true g w=.go g' w' es):step P (mZ g w)=.next (mZ g' w'):=by
 rw[step,stepT,ah2 a];simp[runT,mZ,Array.swapAt!,h]
def cj{o:Outcome}(a:g.status=.running)(h:stepG P true g w=.ended o w' es):step P (mZ g w)=.ended o w':=by
 rw[step,stepT,ah2 a];simp[runT,mZ,Array.swapAt!,h]
def acv(c:g.status=.blocked):∃o b,step P (mZ g w)=.ended o b:=by
 rw[step,stepT];have:∃s a,move P (mZ g w)=.machine s a/\∃o b,s=.ended o b:=by
  simp only[move,ask,askOn,mZ,runnable_eq,due,ahead,Goroutine.canRun,c];simp[vG,choose,pure,Sem.run,Question.forced,c];generalize endWith _ _ _ _=q;cases q<;>exact⟨_,⟨_,rfl⟩,_,_,rfl⟩
 obtain⟨s,a,d,o,b,rfl⟩:=this;rw[d];exact⟨o,b,rfl⟩
def acw(a:g.status=.waiting):step P (mZ g w)=.next (mZ g w):=by
 rw[step,stepT];have:move P (mZ g w)=.machine (.next (mZ g w)):=by
  simp[move,ask,askOn,mZ,runnable_eq,due,ahead,Goroutine.canRun,vG,choose,pure,Sem.run,Question.forced,a]
 rw[this]
def jS(P:Program):Frame:={fn:=P.funcs.size,tmps:=#[],todo:=[.call ⟨.nil,#[]⟩ false "fmt's door" #[]],defers:=[],mode:=.run,kind:=.normal}
def apQ(base:List Frame)(g:Goroutine):Prop:=g.callers=base/\g.frame.mode=.returning/\g.frame.defers=[]/\g.status=.running/\g.dying=none
section
variable {P:Program}
def aaI{g:Goroutine}{w:World}(h:g.status=.blocked\/g.status=.waiting):∀n a b,runN P n (mZ g w)=.next (mZ a b)->¬apQ [jS P] a
 |0,a,b,hr,hf=>by
  simp only[runN,qJ] at hr;obtain⟨rfl,rfl⟩:=gU hr;rcases h with h|h<;>rw[hf.2.2.2.1] at h<;>cases h
 |n+1,a,b,hr,hf=>by
  unfold runN at hr;rcases h with h|h
  .obtain⟨o,d,c⟩:=acv (P:=P) (w:=w) h;rw[c] at hr;cases hr
  .rw[acw h] at hr;exact aaI (.inr h) n a b hr hf
def ac2:∀(n:Nat) {a:Frame} {w:World} {d:Dying} {f:Fatal},d.fatal=some f->d.calling=false->∀b g,runN P n (mZ ⟨a,[],.running,some d,none⟩ w)=.next (mZ b g)->¬apQ [jS P] b
 |0,a,w,d,f,h1,h2,b,g,hr,hf=>by
  simp only[runN,qJ] at hr;obtain⟨rfl,rfl⟩:=gU hr;have:=hf.2.2.2.2;cases this
 |n+1,a,w,d,f,h1,h2,b,g,hr,hf=>by
  unfold runN at hr;have m:(∃o c i,stepG P true ⟨a,[],.running,some d,none⟩ w=.ended o c i)\/
    ∃k l c i,(k=.running\/k=.blocked)/\stepG P true ⟨a,[],.running,some d,none⟩ w=.go ⟨a,[],k,some {d with fatal:=some l},none⟩ c i:=by
   obtain⟨r,p,e,j,s,hand,fatal⟩:=d;dsimp only at h1 h2;subst h1 h2;simp only[stepG,die,writeOn];split
   .exact .inl ⟨_,_,_,rfl⟩
   .split
    .exact .inr ⟨_,_,_,_,.inl rfl,rfl⟩
    .exact .inr ⟨_,_,_,_,.inr rfl,rfl⟩
    .exact .inl ⟨_,_,_,rfl⟩
    .exact .inl ⟨_,_,_,rfl⟩
  rcases m with⟨o,c,i,h⟩|⟨k,l,c,i,q,h⟩
  .rw[cj rfl h] at hr;cases hr
  .rw[dG rfl h] at hr;rcases q with rfl|rfl
   .exact ac2 n (d:={d with fatal:=some l}) (f:=l) rfl h2 b g hr hf
   .exact aaI (.inl rfl) n b g hr hf
def apR{b:Nat}(e:∀x l,w.heap[b]?≠some (.deferred (some (x::l)))):(∃h c a,(Instr.takeDeferred b).runT P w #[]=(.halt h c,a))\/∃a,(Instr.takeDeferred b).runT P w #[]=(.ok [] {w with heap:=w.heap.setIfInBounds b (.deferred none)},a):=by
 unfold Instr.takeDeferred;show(∃h c a,(Sem.getObj b λo=>_).runT P w #[]=_)\/∃a,(Sem.getObj b λo=>_).runT P w #[]=_;rw[Sem.runT];cases d:w.heap[b]? with
 |none=>exact .inl ⟨_,_,_,rfl⟩
 |some o=>
  cases o with
  |deferred q=>
   cases q with
   |none=>exact .inl ⟨_,_,_,rfl⟩
   |some l=>
    cases l with
    |cons x l=>exact absurd d (e x l)
    |nil=>
     refine .inr ⟨(#[].push ⟨.obj b,false,false⟩).push ⟨.obj b,true,false⟩, ?_⟩;show(Sem.setObj b (.deferred none) (Sem.pure [])).runT P w (#[].push ⟨.obj b,false,false⟩)=_;rw[Sem.runT,d];show(Sem.pure []).runT P {w with heap:=w.heap.setIfInBounds b (.deferred none)} _=_;rw[Sem.runT];rfl
  |_=>exact .inl ⟨_,_,_,rfl⟩
def wv(fr:Frame)(b:List PanicEntry):∃a,(fr.raise b).mode=.panicking a:=by
 unfold Frame.raise;split<;>exact⟨_,rfl⟩
def abC(fr:Frame)(a:List PanicEntry):(fr.raise a).defers=fr.defers:=by
 unfold Frame.raise;split<;>rfl
def akb(a:List PanicEntry):((jS P).raise a).catches P=true:=by
 have h:P.funcs[P.funcs.size]?=none:=by rw[qh];exact am _
 show(match P.funcs[P.funcs.size]?,[Item.call ⟨.nil,#[]⟩ false "fmt's door" #[]] with
  |none,.call _ _ resume _::_=>resume.startsWith "fmt's door"
  |_,_=>false)=true
 rw[h];show "fmt's door".startsWith "fmt's door" =true
 decide+kernel
def ng:∀(n:Nat) {A:Frame} {i:List Frame} {w:World} {a:List PanicEntry},A.mode=.panicking a->((∀f∈A::i,kI w f.defers)\/False)->∀z B,runN P n (mZ ⟨A,i++[jS P],.running,none,none⟩ w)=.next (mZ z B)->¬apQ [jS P] z
 |0,A,i,w,a,hm,_,z,B,hr,hf=>by
  simp only[runN,qJ] at hr;obtain⟨rfl,rfl⟩:=gU hr;have:=hf.2.1;rw[hm] at this;cases this
 |n+1,A,i,w,a,hm,hd,z,B,hr,hf=>by
  replace hd:=hd.resolve_right id;unfold runN at hr;obtain⟨f,q,p,s,L,m,k⟩:=A;dsimp only at hm;subst hm;have C:stepG P true ⟨⟨f,q,p,s,.panicking a,m,k⟩,i++[jS P],.running,none,none⟩ w=unwind P true ⟨f,q,p,s,.panicking a,m,k⟩ (i++[jS P]) none w:=rfl;cases s with
  |cons d s=>
   obtain⟨b,rfl,I⟩:=hd _ (qv ..) d (qv ..);have F:(∃o j g,unwind P true ⟨f,q,p,⟨.collected b,#[]⟩::s,.panicking a,m,k⟩ (i++[jS P]) none w=.ended o j g)\/
     ∃g,unwind P true ⟨f,q,p,⟨.collected b,#[]⟩::s,.panicking a,m,k⟩ (i++[jS P]) none w=.go ⟨⟨f,q,p,s,.panicking a,m,k⟩,i++[jS P],.running,none,none⟩ {w with heap:=w.heap.setIfInBounds b (.deferred none)} g:=by
    rcases apR (P:=P) I with⟨h,j,g,e⟩|⟨g,e⟩
    .refine .inl ⟨.stuck "the deferred calls of a range-over-func loop have been taken" (Frame.pos P ⟨f,q,p,⟨.collected b,#[]⟩::s,.panicking a,m,k⟩),j,seen P f g, ?_⟩;unfold unwind;simp only[e];simp[GStep.after]
    .refine .inr ⟨seen P f g, ?_⟩;unfold unwind;simp only[e];simp[GStep.after]
   rcases F with⟨o,j,g,h⟩|⟨g,h⟩
   .rw[cj rfl (C.trans h)] at hr;cases hr
   .rw[dG rfl (C.trans h)] at hr;refine ng n rfl (.inl λx u=> ?_) z B hr hf;have D:kI w x.defers:=by
     rcases oE.1 u with rfl|u
     .exact λd v=>hd _ (qv ..) d (qU _ v)
     .exact hd x (by simp[u])
    intro d v;obtain⟨c,rfl,K⟩:=D d v;exact⟨c,rfl,λy l e=>by
     change (w.heap.setIfInBounds b (.deferred none))[c]?=_ at e;rw[mT] at e;split at e
     .split at e
      .cases e
      .cases e
     .exact K y l e⟩
  |nil=>
   by_cases t:Frame.catches P ⟨f,q,p,[],.panicking a,m,k⟩=true
   .have h:∃o j g,unwind P true ⟨f,q,p,[],.panicking a,m,k⟩ (i++[jS P]) none w=.ended o j g:=by
     unfold unwind;simp only[t,pr];exact⟨_,_,_,rfl⟩
    obtain⟨o,j,g,h⟩:=h;rw[cj rfl (C.trans h)] at hr;cases hr
   .cases i with
    |nil=>
     have h:unwind P true ⟨f,q,p,[],.panicking a,m,k⟩ ([]++[jS P]) none w=.go ⟨(jS P).raise a,[],.running,none,none⟩ w #[]:=by
      unfold unwind;simp only[t,ru];rfl
     rw[dG rfl (C.trans h)] at hr;cases n with
     |zero=>
      simp only[runN,qJ] at hr;obtain⟨rfl,rfl⟩:=gU hr;have:=hf.1;cases this
     |succ n=>
      unfold runN at hr;obtain⟨G,r⟩:=wv (jS P) a;have E:∃o j g,stepG P true ⟨(jS P).raise a,[],.running,none,none⟩ w=.ended o j g:=by
       have H:stepG P true ⟨(jS P).raise a,[],.running,none,none⟩ w=unwind P true ((jS P).raise a) [] none w:=by
        simp only[stepG,r]
       rw[H];unfold unwind;have J:((jS P).raise a).defers=[]:=(abC _ _).trans rfl;rw[J];simp only[r,akb,pr];exact⟨_,_,_,rfl⟩
      obtain⟨o,j,g,E⟩:=E;simp only[cj rfl E] at hr;cases hr
    |cons c i=>
     have h:unwind P true ⟨f,q,p,[],.panicking a,m,k⟩ (c::i++[jS P]) none w=.go ⟨c.raise a,i++[jS P],.running,none,none⟩ w #[]:=by
      unfold unwind;simp only[t,qW];rfl
     rw[dG rfl (C.trans h)] at hr;obtain⟨G,r⟩:=wv c a;refine ng n r (.inl λx u=> ?_) z B hr hf;rcases oE.1 u with rfl|u
     .rw[abC];exact hd c (by simp)
     .exact hd x (by simp[u])
def anI{s:GStep}(h:mK [jS P] s):(∃o w a,s=.ended o w a)\/∃g w a,s=.go g w a/\∀n b e,runN P n (mZ g w)=.next (mZ b e)->¬apQ [jS P] b:=by
 cases h with
 |ended o w a=>exact .inl ⟨_,_,_,rfl⟩
 |stop h=>exact .inr ⟨_,_,_,rfl,aaI h⟩
 |raised c hd=>exact .inr ⟨_,_,_,rfl,λn=>ng n c (.inl hd)⟩
 |dying d f=>exact .inr ⟨_,_,_,rfl,λn=>ac2 n d f⟩
end
structure Cfg where
 l:List Frame
 w:World
 t:Tape
structure aei (P:Program) (c c1:Cfg):Prop where
 ne:c.l≠[]
 on:¬oL c.l
 drawn:c.w.drawn<=c1.w.drawn
 tape:∀i q,i<c.w.drawn->c1.t i q=c.t i q
 step:∃es,∀(base:List Frame) (t:Tape),(∀i q,i<c1.w.drawn->t i q=c1.t i q)->stepG P true (Gl c.l base) (c.w.dM t)=.go (Gl c1.l base) (c1.w.dM t) es
def jP(P:Program)(R:List Frame->World->Prop)(c:Cfg):Prop:=
 ∀t:Tape,(∀i q,i<c.w.drawn->t i q=c.t i q)->∃n a b,runN P n (mZ (Gl c.l [jS P]) (c.w.dM t))=.next (mZ (Gl a [jS P]) b)/\oL a/\R a b
section
variable {P:Program} {R:List Frame->World->Prop}
def jh(h:l≠[])(base:List Frame):(Gl l base).status=.running:=by
 cases l with
 |nil=>exact absurd rfl h
 |cons x a=>rfl
def nh{base : List Frame}(h:l≠[])(a:l'≠[])(e:Gl l base=Gl l' base):l=l':=by
 cases l with
 |nil=>exact absurd rfl h
 |cons x c=>
  cases l' with
  |nil=>exact absurd rfl a
  |cons y b=>
   unfold Gl at e;simp only[Goroutine.mk.injEq,List.append_cancel_right_eq] at e;rw[e.1,e.2.1]
def oL.ne(h:oL l):l≠[]:=by
 obtain⟨a,rfl, -⟩:=h;exact λe=>by cases e
def oL.fin(h:oL l)(base:List Frame):apQ base (Gl l base):=by
 obtain⟨c,rfl,a,b, -⟩:=h;exact⟨rfl,a,b,rfl,rfl⟩
def jP.step{c c1:Cfg}(h:jP P R c)(a:aei P c c1):jP P R c1:=λt f=>by
 obtain⟨o,k⟩:=a.step;obtain⟨n,m,j,b,d,l⟩:=h t λi q g=>by
  rw[f i q (bd g a.drawn),a.tape i q g]
 cases n with
 |zero=>
  simp only[runN,qJ] at b;obtain⟨e, -⟩:=gU b;obtain rfl:=nh a.ne d.ne e;exact absurd d a.on
 |succ n=>
  unfold runN at b;rw[dG (jh a.ne _) (k [jS P] t f)] at b;exact⟨n,m,j,b,d,l⟩
def jP.acc{c:Cfg}(h:jP P R c):Acc (λw c=>aei P c w) c:=by
 classical
 refine agI λf x a=> ?_;subst x;have t:∀{m n},m<=n->(f m).w.drawn<=(f n).w.drawn:=λ{m n} b=>by
  induction b with
  |refl=>exact am _
  |step _ o=>exact ap o (a _).drawn
 have j:∀{m n},m<=n->∀i q,i<(f m).w.drawn->(f n).t i q=(f m).t i q:=λ{m n} b=>by
  induction b with
  |refl=>exact λ_ _ _=>rfl
  |step r o=>exact λi q l=>((a _).tape i q (bd l (t r))).trans (o i q l)
 let T:Tape:=λi q=>if d:∃n,i<(f n).w.drawn then(f d.choose).t i q else 0
 have u:∀n i q,i<(f n).w.drawn->T i q=(f n).t i q:=λn i q l=>by
  have d:∃n,i<(f n).w.drawn:=⟨n,l⟩;show(if d:∃n,i<(f n).w.drawn then(f d.choose).t i q else 0)=_;rw[tL d];rcases Nat.le_total d.choose n with g|g
  .exact(j g i q d.choose_spec).symm
  .exact j g i q l
 have s:∀n,Go.step P (mZ (Gl (f n).l [jS P]) ((f n).w.dM T))=.next (mZ (Gl (f (n+1)).l [jS P]) ((f (n+1)).w.dM T)):=λn=>by
  obtain⟨B,z⟩:=(a n).step;exact dG (jh (a n).ne _) (z _ T (u (n+1)))
 have y:∀n k,runN P n (mZ (Gl (f k).l [jS P]) ((f k).w.dM T))=.next (mZ (Gl (f (k+n)).l [jS P]) ((f (k+n)).w.dM T)):=by
  intro n
  induction n with
  |zero=>intro k;rfl
  |succ n o=>
   intro k;unfold runN;rw[s k];simp only;rw[o (k+1),show k+1+n=k+(n+1) by omega]
 obtain⟨n,C,A,v,p, -⟩:=h T (u 0);rw[y n 0,qJ] at v;obtain⟨e, -⟩:=gU v;obtain rfl:=nh (a (0+n)).ne p.ne e;exact(a (0+n)).on p
def jP.fin{c:Cfg}(h:jP P R c)(u:oL c.l)(B:Extern.next "fmt's door" =none)(t:Tape)(z:∀i q,i<c.w.drawn->t i q=c.t i q):R c.l (c.w.dM t):=by
 obtain⟨n,J,D,a,g,C⟩:=h t z;cases n with
 |zero=>
  simp only[runN,qJ] at a;obtain⟨e,rfl⟩:=gU a;obtain rfl:=nh u.ne g.ne e;exact C
 |succ n=>
  exfalso;obtain⟨j,A,x,hd,p⟩:=u;rw[A] at a;have k:(∃o b d,stepG P true (Gl [j] [jS P]) (c.w.dM t)=.ended o b d)\/∃v b d,stepG P true (Gl [j] [jS P]) (c.w.dM t)=.go ⟨(jS P).finish v,[],.running,none,none⟩ b d:=by
   obtain⟨f,l,w,H,F,E,m⟩:=j;dsimp only at x hd p;subst x hd p;have y:stepG P true (Gl [⟨f,l,w,[],.returning,.normal,m⟩] [jS P]) (c.w.dM t)=unwind P true ⟨f,l,w,[],.returning,.normal,m⟩ [jS P] none (c.w.dM t):=rfl;rw[y];unfold unwind;dsimp only;cases I:P.funcs[f]? with
   |none=>exact .inr ⟨_,_,_,rfl⟩
   |some fn=>
    dsimp only;generalize (results fn l).runT P (c.w.dM t) #[]=q;obtain⟨r,d⟩:=q;cases r with
    |ok v b=>exact .inr ⟨v,b,_,rfl⟩
    |halt h b=>cases h<;>exact .inl ⟨_,_,_,rfl⟩
  unfold runN at a;rcases k with⟨o,b,d,e⟩|⟨v,b,d,e⟩
  .rw[cj rfl e] at a;cases a
  .rw[dG rfl e] at a;cases n with
   |zero=>
    simp only[runN,qJ] at a;obtain⟨e, -⟩:=gU a;obtain⟨G,rfl, -⟩:=g;have:=jn Goroutine.callers e;cases this
   |succ n=>
    unfold runN at a;have s:stepG P true ⟨(jS P).finish v,[],.running,none,none⟩ b=(Extern.next "fmt's door").elim (.ended (.stuck ("no extern row " ++ "fmt's door") (Frame.pos P ((jS P).finish v))) b #[]) λe=>stepG.apply P true ((jS P).finish v) [] none (e (#[].push v)) b:=rfl;rw[B] at s;simp only[cj rfl s] at a;cases a
end
section
variable {P P':Program} {R:List Frame->World->Prop} {ρ:Ren}
def sim(T:Twin P P')(X:ahH P P')(C:GlR ρ){c:Cfg}(m':Bool)(y:iF P ρ c.l l')(K:WR ρ c.w w')(x:¬oL c.l)(z:jP P R c) :
  ∃p k d m l f,aei P c p/\jP P R p/\ρ.Le k/\(∀base,stepG P' m' (Gl l' base) w'=.go (Gl d base) m f)/\WR k p.w m/\Kept ρ k c.w w' p.w m/\EvW c.w k l f/\GoR P P' k p.l d:=by
 obtain⟨a,D,H⟩:=awC (P:=P) (P':=P') T X C true m' y K x;have b:c.l≠[]:=λe=>by rw[e] at y;cases y
 rcases H with H|⟨k,O,s,l,d,m,f,G,Q,M,F,J,N,I,L⟩
 .exfalso;have B:=H [jS P] (λi q=>if i<c.w.drawn then c.t i q else a i q) λi q r _=>bv (by omega);obtain⟨n,U,V,j,v, -⟩:=z (λi q=>if i<c.w.drawn then c.t i q else a i q) λi q r=>dq r;cases n with
  |zero=>
   simp only[runN,qJ] at j;obtain⟨e, -⟩:=gU j;obtain rfl:=nh b v.ne e;exact x v
  |succ n=>
   unfold runN at j;rcases anI B with⟨o,w,l,e⟩|⟨g,w,l,e,u⟩
   .rw[cj (jh b _) e] at j;cases j
   .rw[dG (jh b _) e] at j;exact u n _ _ j (v.fin _)
 .have A:aei P c ⟨O,s,λi q=>if i<c.w.drawn then c.t i q else a i q⟩:=
   ⟨b,x,by show c.w.drawn<=s.drawn;omega,λi q r=>dq r,l,λbase t E=>G base t λi q r S=>by
    rw[E i q (by show i<s.drawn;omega)];exact bv (by omega)⟩
  exact⟨_,k,d,m,l,f,A,z.step A,M,F,J,N,I,L⟩
end
section
variable {P P':Program} {ρ:Ren}
def ac3:∀(n t:Nat) (acc:Array Value),(∀v∈acc.toList,df v)->∀v∈(Extern.BytealgMakeNoZero.digits n t acc).toList,df v
 |0,_,acc,h=>h
 |n+1,t,acc,h=>by
  unfold Extern.BytealgMakeNoZero.digits;refine ac3 n _ _ λv a=> ?_;rw[rL,mx] at a;rcases a with a|a
  .exact h v a
  .simp at a;subst a;exact λ_=>.int _ _
def abD(T:Twin P P')(i f:Array TypeId){a : Array Value}(h:dh ρ a W):az P P' VR ρ (Extern.BytealgMakeNoZero.makeNoZero i f a) (Extern.BytealgMakeNoZero.makeNoZero i f W):=by
 unfold Extern.BytealgMakeNoZero.makeNoZero;obtain⟨a⟩:=a;obtain⟨W⟩:=W;have h:bN ρ a W:=h;cases h with
 |nil=>exact .halt _ _
 |cons j o=>
  cases o with
  |cons=>cases j<;>exact .halt _ _
  |nil=>
   cases j with
   |int k n=>
    cases k<;>try exact .halt _ _
    dsimp only;cases f[0]? with
    |none=>exact .halt _ _
    |some t=>
     dsimp only;refine ai (aD T t) λE d A D hd=> ?_;obtain⟨rfl, -⟩:=hd;cases d with
     |slice e=>
      dsimp only;refine aV (λ_=>dO _) λ_=> ?_;refine ai (iI _) λB c l w q=> ?_;obtain rfl:c=l:=q;refine ai (ajJ c) λx _ _ C _=> ?_;refine ai (iI _) λs b m z q=> ?_;obtain rfl:b=m:=q;refine ai (oC e (bN.kC λv g=>ac3 _ _ _ (λv g=>by cases g) v g _)) λy r u F p=> ?_;exact aj (.slice (.some p) _ _)
     |_=>exact .halt _ _
   |_=>exact .halt _ _
def ac4:∀(n:Nat) {ρ:Ren} {a c:Addr} (acc:ByteArray),AR ρ a c->az P P' js ρ (Extern.Bytes.loadBytes a n acc) (Extern.Bytes.loadBytes c n acc)
 |0,_,_,_,_,_=>aj rfl
 |n+1,ρ,a,c,acc,h=>by
  unfold Extern.Bytes.loadBytes;refine ai (apc .plain h) λg v f e d=> ?_;cases d with
  |int k b=>
   cases k<;>first|exact ac4 n _ ((h.mono e).add 1)|exact .halt _ _
  |_=>exact .halt _ _
def ac5{a : Array Value}(h:dh ρ a W):az P P' VR ρ (Extern.BytealgIndexByte.indexByte a) (Extern.BytealgIndexByte.indexByte W):=by
 unfold Extern.BytealgIndexByte.indexByte;obtain⟨a⟩:=a;obtain⟨W⟩:=W;have h:bN ρ a W:=h;cases h with
 |nil=>exact .halt _ _
 |cons m d=>
  cases d with
  |nil=>exact .halt _ _
  |cons g d=>
   cases d with
   |cons=>exact .halt _ _
   |nil=>
    refine ai (A:=js) ?_ λr b j q e=> ?_
    .cases m with
     |string s=>exact aj rfl
     |slice f l c=>cases f with
      |none=>exact aj rfl
      |some f=>exact ac4 _ _ f
     |_=>exact .halt _ _
    .obtain rfl:b=j:=e;refine ai (A:=js) ?_ λo c i p e=> ?_
     .cases g with
      |int k n=>cases k<;>first|exact aj rfl|exact .halt _ _
      |_=>exact .halt _ _
     .obtain rfl:c=i:=e;split
      .exact aj (.int _ _)
      .exact aj (.int _ _)
end
noncomputable def akc(f:Nat):Bool:=match prog.funcs[f]? with
 |some fn=>!alw prog f||fn.body.isSome||f ==138||f ==156
 |none=>true
def afK{f:Nat}{fn:Func}(h:prog.funcs[f]?=some fn)(a:akc f=true):(!alw prog f||fn.body.isSome||f ==138||f ==156)=true:=by
 unfold akc at a;generalize prog.funcs[f]?=q at h a;subst h;exact a
def aej:(List.range prog.funcs.size).all akc=true:=by kernel_rfl
def amm:f138.body.isNone=true:=by kernel_rfl
def amn:f156.body.isNone=true:=by kernel_rfl
def amo:Extern.findNext f138=none:=by kernel_rfl
def ac6:Extern.findNext f156=none:=by kernel_rfl
def amp:Extern.find f138=some (Extern.BytealgMakeNoZero.makeNoZero f138.params f138.resultTypes):=by kernel_rfl
def amq:Extern.find f156=some Extern.BytealgIndexByte.indexByte:=by kernel_rfl
def acp:Extern.next "fmt's door" =none:=by kernel_rfl
def abE {P' : Program} {ρ:Ren} {fn b:Func} {e:Array Value->Sem Value} (r:P.funcs[f]?=some fn) (i:P'.funcs[f]?=some b) (g:fn.body.isNone=true) (k:b.body.isNone=true)
  (q:(fn.name == "runtime.NumGoroutine")=false) (t:(b.name == "runtime.NumGoroutine")=false) (s:Extern.findNext fn=none) (x2:Extern.findNext b=none) (n:Extern.find fn=some e) (u:Extern.find b=some e)
  (o:∀(c:Ren) a W,dh c a W->az P P' VR c (e a) (e W)) {a : Array Value} (h:dh ρ a W):az P P' iq ρ (callFunc f a) (callFunc f W):=by
 unfold callFunc;refine ai dc λc p v m d=> ?_;obtain⟨rfl,rfl⟩:=d;rw[r,i];dsimp only;rw[q,t,g,k];simp only[kw,qF,pr];refine ai (apd (.extern f)) λj _ _ l _=> ?_;rw[s,x2,n,u];exact bC (o j _ _ (bN.mono (m.trans l) h))
def avb(β:Bool):ahH (ah β) prog:=λf fn d i k p a j h=>by
 obtain⟨o,b,n⟩:=agH β f fn d;obtain rfl:=n.none i;have g:=(dl.1 b).1;have c:=lE.1 aej f (qr.2 g);have c:=afK b c;have m:alw prog f=true:=by
  have:gA f=alw prog f:=by unfold gA;rfl
  rw[<-this];exact k
 rw[m,i] at c;simp only[uZ,tc,uY,uo,qV,nF] at c;rcases c with rfl|rfl
 .have e:=b.symm.trans func138;obtain rfl:=dk e;exact abE d func138 amm amm (cB func138) (cB func138) amo amo amp amp (λl a j h=>abD (lN β) _ _ h) h
 .have e:=b.symm.trans func156;obtain rfl:=dk e;exact abE d func156 amn amn (cB func156) (cB func156) ac6 ac6 amq amq (λl a j h=>ac5 h) h
def aal{args:Array Value}{t0:Tape}{Post:Value->World->Prop}(h:∀t:Tape,(∀i q,i<w.drawn->t i q=t0 i q)->Calls P f args (w.dM t) λe b=>∃v,e=.returned v/\Post v b) :
  jP P (λl b=>∃a v,l=[a]/\a.fn=f/\a.leaving P b (.returned v)/\Post v b) ⟨[Frame.enter P f args .normal],w,t0⟩:=λt j=>by
 obtain⟨e,b,a,⟨v,rfl,d⟩,⟨n,k⟩,g,c⟩:=h t j [jS P];refine⟨n,[a],b,k,⟨a,rfl,c.1,c.2.1,c.2.2.1⟩,a,v,rfl,g,c,d⟩
end
section
open Go.RowKit
def as4{k:IntKind}{a b:Int}(h:a=b):Ending.returned (.int k a)=.returned (.int k b):=by rw[h]
def aB{a b:Bool}(h:a=b):Ending.returned (.bool a)=.returned (.bool b):=by rw[h]
structure bq (S:Nat->Prop) (w w':World):Prop where
 os:w'.os=w.os
 tape:w'.tape=w.tape
 output:w'.output=w.output
 size:w.heap.size<=w'.heap.size
 block:∀k,k<w.heap.size->¬S k->w'.heap[k]?=w.heap[k]?
def bq.refl(S:Nat->Prop)(w:World):bq S w w:=⟨rfl,rfl,rfl,am _,λ_ _ _=>rfl⟩
def bq.trans{T : Nat->Prop}{b c : World}(h:bq S a b)(k:bq T b c)(f:∀i,i<a.heap.size->T i->S i):bq S a c:=
 ⟨k.os.trans h.os,k.tape.trans h.tape,k.output.trans h.output,ap h.size k.size,
  λi d e=>(k.block i (bd d h.size) (λg=>e (f i d g))).trans (h.block i d e)⟩
def bq.mono{T : Nat->Prop}{b : World}(h:bq S a b)(d:∀i,i<a.heap.size->S i->T i):bq T a b:=
 ⟨h.os,h.tape,h.output,h.size,λi c f=>h.block i c λe=>f (d i c e)⟩
def bq.below(h:bq S w w')(c:B<=w.heap.size)(b:∀i,i<B->¬S i):Below B w w':=
 ⟨h.os,h.tape,h.output,h.size,λk a=>h.block k (bd a c) (b k a)⟩
def bq.aN(h:Below w.heap.size w w'):bq S w w':=
 ⟨h.os,h.tape,h.output,h.size,λk a _=>h.block k a⟩
def bq.alloc(h:bq S a w)(o:Obj):bq S a (w.alloc o):=
 ⟨h.os,h.tape,h.output,ap h.size (by simp),λi c b=>(su w o i (bd c h.size)).trans (h.block i c b)⟩
def bq.drew(h:bq S a w):bq S a w.drew:=⟨h.os,h.tape,h.output,h.size,h.block⟩
def bq.drewN(h:bq S a w)(n:Nat):bq S a (w.drewN n):=⟨h.os,h.tape,h.output,h.size,h.block⟩
def bq.setCell(h:bq S a w){p:Addr}(b:S p.block\/a.heap.size<=p.block)(u:Value):bq S a (w.setCell p u):=
 ⟨h.os,h.tape,h.output,by simpa[World.setCell] using h.size,λi d c=>(io w p u i (by
  rintro rfl;rcases b with b|b
  .exact c b
  .omega)).trans (h.block i d c)⟩
def ag(h:Below a.heap.size a w)(b:Below w.heap.size w w'):Below a.heap.size a w':=h.trans (b.mono h.size)
def tq(h:Below B a w)(n:Nat):Below B a (w.drewN n):=⟨h.os,h.tape,h.output,h.size,h.block⟩
abbrev fV(α:Type):=World->Nat->Nat->α->List Value->Prop
structure Lcy {α:Type} (E:fV α):Prop where
 go:∀{w w':World} {lo hi fE hi':Nat} {x:α} {cs:List Value},
  (∀b,lo<=b->b<hi->w'.heap[b]?=w.heap[b]?)->fE<=lo->hi<=hi'->E w lo hi x cs->E w' fE hi' x cs
def bZ(x:Int):Prop:= -9223372036854775808<=x/\x<=9223372036854775807
def aab:fV Int:=λ_ _ _ x a=>a=[.int .i64 x]/\bZ x
def jC:fV Int:=λ_ _ _ x a=>a=[.int .u8 x]/\0<=x/\x<256
def aab.loc:Lcy aab:=⟨λ_ _ _ h=>h⟩
def jC.loc:Lcy jC:=⟨λ_ _ _ h=>h⟩
def bE{α:Type}(E:fV α)(sz:Nat):fV (List α):=λw f g d k=>
 ∃(A:Option Addr) (c:Nat),k=[.slice A d.length c]/\d.length<=c/\c<=maxLen/\
  (0<d.length->∃b a,A=some ⟨b,a,none⟩/\f<=b/\b<g/\
   ∀i x,d[i]?=some x->∃e:List Value,e.length=sz/\E w f g x e/\∀j u,e[j]?=some u->w.cell? ⟨b,a+i*sz+j,none⟩=some u)
def bE.loc{E:fV Y}(p:Lcy E) :Lcy (bE E Z):=by
 refine⟨?_⟩;intro w C H G B d F D m e n ⟨A,c,g,o,y,h⟩;refine⟨A,c,g,o,y,λq=> ?_⟩;obtain⟨b,f,rfl,l,k,v⟩:=h q;refine⟨b,f,rfl,ap e l,bd k n,λi x d=> ?_⟩;obtain⟨s,r,z,a⟩:=v i x d;exact⟨s,r,p.go m e n z,λj u t=>(qp (m b l k)).trans (a j u t)⟩
def Lcy.below{E:fV Y}(c:Lcy E){cs:List Value}(h:E w Z hi x cs)(e:Below B w w')(d:hi<=B):E w' Z hi x cs:=
 c.go (λb _ a=>e.block b (bd a d)) (am _) (am _) h
def Lcy.wide{E:fV Y}(a:Lcy E){fE hi' : Nat}{cs:List Value}(h:E w Z hi x cs)(c:fE<=Z)(b:hi<=hi'):E w fE hi' x cs:=
 a.go (λ_ _ _=>rfl) c b h
def bE.at_{E:fV Y}(h:bE E Z w Q hi xs [.slice A n c])(g:xs[k]?=some x) :
  ∃b a e,A=some ⟨b,a,none⟩/\Q<=b/\b<hi/\e.length=Z/\E w Q hi x e/\∀j u,e[j]?=some u->w.cell? ⟨b,a+k*Z+j,none⟩=some u:=by
 obtain⟨A',r,f,s,t,i⟩:=h;simp only[qf,nf,qu] at f;obtain⟨rfl,rfl,rfl⟩:=f;have l:k<xs.length:=by
  rcases pi k xs.length with h|h
  .exact h
  .rw[qY h] at g;cases g
 obtain⟨b,a,rfl,o,m,i⟩:=i (by omega);obtain⟨e,p,q,d⟩:=i k x g;exact⟨b,a,e,rfl,o,m,p,q,d⟩
def bE.ints_at{xs:List Int}(h:bE aab 1 w Z hi xs [.slice A n c]){x:Int}(f:xs[k]?=some x) :
  ∃b a,A=some ⟨b,a,none⟩/\Z<=b/\b<hi/\bZ x/\w.cell? ⟨b,a+k,none⟩=some (.int .i64 x):=by
 obtain⟨b,a,l,rfl,g,e,j,⟨rfl,d⟩,i⟩:=h.at_ f;exact⟨b,a,rfl,g,e,d,by simpa using i 0 _ rfl⟩
def bE.aek{xs:List Int}(h:bE jC 1 w Z hi xs [.slice A n c]){x:Int}(f:xs[k]?=some x) :
  ∃b a,A=some ⟨b,a,none⟩/\Z<=b/\b<hi/\(0<=x/\x<256)/\w.cell? ⟨b,a+k,none⟩=some (.int .u8 x):=by
 obtain⟨b,a,l,rfl,g,e,j,⟨rfl,d⟩,i⟩:=h.at_ f;exact⟨b,a,rfl,g,e,d,by simpa using i 0 _ rfl⟩
def bE.len_{E:fV Y}(h:bE E Z w Q hi xs [.slice A n c]):n=xs.length/\n<=c/\c<=maxLen:=by
 obtain⟨A',e,a,d,b,f⟩:=h;simp only[qf,nf,qu] at a;obtain⟨rfl,rfl,rfl⟩:=a;exact⟨rfl,d,b⟩
def bE.form{E:fV Y}(h:bE E Z w Q hi xs [v]):∃A c,v=.slice A xs.length c:=by
 obtain⟨A',d,a,e,b,f⟩:=h;simp only[qf,qu] at a;exact⟨_,_,a⟩
def aq{l:List Y}(h:k<l.length):∃x,l[k]?=some x:=⟨l[k],iS h⟩
def aC{l:List Y}(h:l[k]?=some x):k<l.length:=by
 rcases pi k l.length with a|a
 .exact a
 .rw[qY a] at h;cases h
def pN{α:Type}{P:List α->Prop}(h0:P [])(h1:∀l a,P l->P (l++[a]))(l:List α):P l:=by
 rw[<-l.reverse_reverse]
 induction l.reverse with
 |nil=>exact h0
 |cons a t b=>rw[List.reverse_cons];exact h1 _ _ b
def li{l:List Y}(h:l[k]?=some x):l.take (k+1)=l.take k++[x]:=by
 rw[List.take_add_one,h];rfl
def bg(w:World)(g:Nat)(t:TypeId)(cs:Array Value):Prop:=w.heap[g]?=some (.cells cs t (0,0))
section
variable {w w':World} {g:Nat} {t:TypeId} {cs:Array Value}
def bg.lt(h:bg w g t cs):g<w.heap.size:=by
 rcases pi g w.heap.size with a|b
 .exact a
 .unfold bg at h;rw[qd b] at h;cases h
def bg.cell(h:bg w g t cs)(i:Nat):w.cell? ⟨g,i,none⟩=cs[i]?:=cell_of_row w g i cs t (0,0) h
def bg.frozen(h:bg w g t cs)(i:Nat):w.frozen? ⟨g,i,none⟩=false:=by
 unfold bg at h;simp[World.frozen?,h]
def bg.new(w:World)(t:TypeId)(cs:Array Value):bg (w.alloc (.cells cs t)) w.heap.size t cs:=heap_alloc_new w _
def bg.bF(h:bg w g t cs)(i:Nat)(u:Value):bg (w.setCell ⟨g,i,none⟩ u) g t (cs.setIfInBounds i u):=by
 unfold bg at h ⊢;simp[World.setCell,ph,h]
end
section
variable {w w':World} {g N:Nat} {t:TypeId} {vs:List Value}
end
def bE.apS{E:fV Y}{cs:List Value}(h:bE E Z w Q hi xs cs):∀x∈xs,∃a,E w Q hi x a:=by
 obtain⟨A,c,g,m,l,f⟩:=h;intro x j;obtain⟨i,hi⟩:=rx.1 j;obtain⟨b,e,_,_,_,d⟩:=f (by have:=aC hi;omega);obtain⟨a,_,k,_⟩:=d i x hi;exact⟨a,k⟩
def bE.akd{xs:List Int}{cs:List Value}(h:bE aab 1 w Z hi xs cs):∀x∈xs,bZ x:=λx b=>by
 obtain⟨c,a⟩:=h.apS x b;exact a.2
section
variable {w:World} {g:Nat} {t:TypeId} {n:Nat} {f f':Nat->Int}
end
end
section
section
variable (P:Program) (fs:Array Func)
def abF(t:TypeId)(w:World):(underlying t).run {P with funcs:=fs} w=(underlying t).run P w:=by
 show Sem.run _ (match({P with funcs:=fs}:Program).underlying t with|some d=>pure d|none=>stuck "no such type") w=Sem.run P (match P.underlying t with|some d=>pure d|none=>stuck "no such type") w;rw[cF];cases P.underlying t<;>rfl
def aaJ(t:TypeId)(w:World):(typeInfo t).run {P with funcs:=fs} w=(typeInfo t).run P w:=by
 show Sem.run _ (match({P with funcs:=fs}:Program).info? t with|some d=>pure d|none=>stuck "no such type") w=Sem.run P (match P.info? t with|some d=>pure d|none=>stuck "no such type") w;rw[jR];cases P.info? t<;>rfl
def apT{β : Type}(P Q:Program)(s:Sem Y)(f:Y->Sem β)(w:World)(h:s.run Q w=s.run P w)(b:∀a w,(f a).run Q w=(f a).run P w):(s.bind f).run Q w=(s.bind f).run P w:=by
 have c:=qP Q s f w;have e:=qP P s f w;exact c.trans ((jn (λr=>Result.andThen r λa d=>(f a).run Q d) h).trans ((jn (λF=>Result.andThen (s.run P w) F) (funext λa=>funext λw=>b a w)).trans e.symm))
def ake{β : Type}(s:Sem Y)(f:Y->Sem β)(w:World)(h:s.run {P with funcs:=fs} w=s.run P w)(b:∀a w,(f a).run {P with funcs:=fs} w=(f a).run P w):(s.bind f).run {P with funcs:=fs} w=(s.bind f).run P w:=apT P _ s f w h b
def apU(t:TypeId)(w:World):(sizeOf t).run {P with funcs:=fs} w=(sizeOf t).run P w:=ake P fs _ _ w (aaJ P fs t w) λ_ _=>rfl
def ah3(t:TypeId)(w:World):(zeroValue t).run {P with funcs:=fs} w=(zeroValue t).run P w:=ake P fs _ _ w (aaJ P fs t w) λi w=>by
 cases i.zero<;>rfl
def as5(t:TypeId)(w:World):(isAgg t).run {P with funcs:=fs} w=(isAgg t).run P w:=ake P fs _ _ w (abF P fs t w) λd w=>by
 cases d<;>rfl
end
variable {β:Bool}
@[simp,go_sem] theorem asm(t:TypeId)(w:World):(underlying t).run (ah β) w=(underlying t).run prog w:=abF prog (mj β) t w
@[simp,go_sem] theorem avz(t:TypeId)(w:World):(typeInfo t).run (ah β) w=(typeInfo t).run prog w:=aaJ prog (mj β) t w
@[simp,go_sem] theorem ayf(t:TypeId)(w:World):(sizeOf t).run (ah β) w=(sizeOf t).run prog w:=apU prog (mj β) t w
@[simp,go_sem] theorem as6(t:TypeId)(w:World):(zeroValue t).run (ah β) w=(zeroValue t).run prog w:=ah3 prog (mj β) t w
@[simp,go_sem] theorem ayQ(t:TypeId)(w:World):(isAgg t).run (ah β) w=(isAgg t).run prog w:=as5 prog (mj β) t w
@[simp,go_sem] theorem dn(t:TypeId):(ah β).underlying t=prog.underlying t:=cF prog (mj β) t
@[simp,go_sem] theorem ayR(t:TypeId):(ah β).stoodInHeld t=prog.stoodInHeld t:=adI prog (mj β) t
@[simp,go_sem] theorem ayS(d:Nat)(t:TypeId):(ah β).eqGuardType d t=prog.eqGuardType d t:=agG prog (mj β) d t
@[simp,go_sem] theorem ayT:(ah β).depth=prog.depth:=adG prog (mj β)
abbrev agJ:List Nat:=[48,66,67,70,111,129,140,165,2,96,97,99,100,106,168,197]
noncomputable def awG(f:Nat):Bool:=agJ.contains f||match prog.funcs[f]? with
 |some fn=>match fn.body with
  |some c=>fM prog gA gL c
  |none=>true
 |none=>true
def apV:(List.range prog.funcs.size).all awG=true:=by kernel_rfl
def as7{f:Nat}{fn:Func}(h:prog.funcs[f]?=some fn)(a:awG f=true)(b:agJ.contains f=false):∀c,fn.body=some c->fM prog gA gL c=true:=by
 unfold awG at a;rw[b] at a;generalize prog.funcs[f]?=q at h a;subst h;intro c d;simp only[d,uo] at a;exact a
def aw{f:Nat}{fn:Func}(h:prog.funcs[f]?=some fn)(g:agJ.contains f=false):(ah β).funcs[f]?=some fn:=by
 have d:=(dl.1 h).1;have b:=as7 h (lE.1 apV f (qr.2 d)) g;have j:f≠nCC:=λe=>by subst e;revert g;decide
 have i:f≠cf:=λe=>by subst e;revert g;decide
 have k:pf fn=fn:=by
  unfold pf;cases a:fn.body with
  |none=>cases fn;dsimp only at a;subst a;rfl
  |some c=>
   have:gP c=c:=by unfold gP;exact ahz _ _ _ _ c (b c a)
   cases fn;dsimp only at a;subst a;show _=_;simp only[qk,this]
 refine(aj9 β j i).trans ?_;have e:Option.map pf (prog.funcs[f]?)=Option.map pf (some fn):=jn _ h;rw[e,qk,k]
def kS{fn:Func}(h:P.funcs[f]?=some fn)(d:(fn.name == "runtime.NumGoroutine")=false)(a:fn.body.isSome=true)(args:Array Value)(w:World):(callFunc f args).run P w=.ok (.enter f args) w:=by
 show Sem.run P (match P.funcs[f]? with|none=>_|some fn=>_) w=_;rw[h];obtain⟨c,b⟩:=ry.1 a;simp only[d,b,Option.isNone_some];rfl
def aA{f:Nat}{fn:Func}(h:prog.funcs[f]?=some fn)(a:agJ.contains f=false)(b:fn.body.isSome=true)(args:Array Value)(w:World):(callFunc f args).run (ah β) w=.ok (.enter f args) w:=kS (aw h a) (cB h) b args w
end
section
variable {β:Bool}
def qF3:=aw (β:=β) func3 (by decide)
def qF4:=aw (β:=β) func4 (by decide)
def qF5:=aw (β:=β) func5 (by decide)
def qF6:=aw (β:=β) func6 (by decide)
def qF7:=aw (β:=β) func7 (by decide)
def qF8:=aw (β:=β) func8 (by decide)
def qF9:=aw (β:=β) func9 (by decide)
def xT:=aw (β:=β) func10 (by decide)
def zO:=aw (β:=β) func11 (by decide)
def zN:=aw (β:=β) func12 (by decide)
def zM:=aw (β:=β) func13 (by decide)
def zL:=aw (β:=β) func14 (by decide)
def zK:=aw (β:=β) func15 (by decide)
def zJ:=aw (β:=β) func16 (by decide)
def zI:=aw (β:=β) func17 (by decide)
def zH:=aw (β:=β) func18 (by decide)
def xS:=aw (β:=β) func19 (by decide)
def xR:=aw (β:=β) func20 (by decide)
def xQ:=aw (β:=β) func21 (by decide)
def xP:=aw (β:=β) func22 (by decide)
def zG:=aw (β:=β) func23 (by decide)
def zF:=aw (β:=β) func24 (by decide)
def wQ:=aw (β:=β) func25 (by decide)
def zE:=aw (β:=β) func26 (by decide)
def zD:=aw (β:=β) func27 (by decide)
def zC:=aw (β:=β) func28 (by decide)
def zB:=aw (β:=β) func29 (by decide)
def zA:=aw (β:=β) func30 (by decide)
def zv:=aw (β:=β) func31 (by decide)
def zu:=aw (β:=β) func32 (by decide)
def zt:=aw (β:=β) func33 (by decide)
def xO:=aw (β:=β) func34 (by decide)
def xN:=aw (β:=β) func35 (by decide)
def zp:=aw (β:=β) func36 (by decide)
def xM:=aw (β:=β) func37 (by decide)
def wO:=aw (β:=β) func38 (by decide)
def zn:=aw (β:=β) func39 (by decide)
def xL:=aw (β:=β) func40 (by decide)
def zm:=aw (β:=β) func41 (by decide)
def xK:=aw (β:=β) func42 (by decide)
def xJ:=aw (β:=β) func43 (by decide)
def wN:=aw (β:=β) func44 (by decide)
def xI:=aw (β:=β) func45 (by decide)
def xH:=aw (β:=β) func46 (by decide)
def xG:=aw (β:=β) func47 (by decide)
def zl:=aw (β:=β) func49 (by decide)
def zj:=aw (β:=β) func50 (by decide)
def zi:=aw (β:=β) func51 (by decide)
def zh:=aw (β:=β) func52 (by decide)
def zg:=aw (β:=β) func53 (by decide)
def zf:=aw (β:=β) func54 (by decide)
def ze:=aw (β:=β) func55 (by decide)
def zd:=aw (β:=β) func56 (by decide)
def zc:=aw (β:=β) func57 (by decide)
def wH:=aw (β:=β) func58 (by decide)
def xF:=aw (β:=β) func59 (by decide)
def yZ:=aw (β:=β) func60 (by decide)
def yY:=aw (β:=β) func61 (by decide)
def xE:=aw (β:=β) func62 (by decide)
def xD:=aw (β:=β) func63 (by decide)
def yX:=aw (β:=β) func64 (by decide)
def yW:=aw (β:=β) func65 (by decide)
def yV:=aw (β:=β) func69 (by decide)
def xi:=aw (β:=β) func71 (by decide)
def xC:=aw (β:=β) func72 (by decide)
def yU:=aw (β:=β) func73 (by decide)
def yT:=aw (β:=β) func74 (by decide)
def yS:=aw (β:=β) func75 (by decide)
def yR:=aw (β:=β) func76 (by decide)
def xB:=aw (β:=β) func77 (by decide)
def yQ:=aw (β:=β) func78 (by decide)
def xA:=aw (β:=β) func79 (by decide)
def yP:=aw (β:=β) func80 (by decide)
def yO:=aw (β:=β) func81 (by decide)
def yN:=aw (β:=β) func82 (by decide)
def yM:=aw (β:=β) func83 (by decide)
def yL:=aw (β:=β) func84 (by decide)
def yK:=aw (β:=β) func85 (by decide)
def yJ:=aw (β:=β) func86 (by decide)
def yI:=aw (β:=β) func87 (by decide)
def xh:=aw (β:=β) func88 (by decide)
def yH:=aw (β:=β) func89 (by decide)
def yC:=aw (β:=β) func103 (by decide)
def yB:=aw (β:=β) func109 (by decide)
def yA:=aw (β:=β) func110 (by decide)
def yz:=aw (β:=β) func112 (by decide)
def yy:=aw (β:=β) func113 (by decide)
def yx:=aw (β:=β) func114 (by decide)
def wG:=aw (β:=β) func115 (by decide)
def yw:=aw (β:=β) func116 (by decide)
def wU:=aw (β:=β) func117 (by decide)
def yv:=aw (β:=β) func118 (by decide)
def yu:=aw (β:=β) func119 (by decide)
def wx:=aw (β:=β) func120 (by decide)
def yr:=aw (β:=β) func125 (by decide)
def wT:=aw (β:=β) func126 (by decide)
def yq:=aw (β:=β) func127 (by decide)
def yp:=aw (β:=β) func130 (by decide)
def xo:=aw (β:=β) func131 (by decide)
def yo:=aw (β:=β) func132 (by decide)
def xm:=aw (β:=β) func133 (by decide)
def yn:=aw (β:=β) func134 (by decide)
def ym:=aw (β:=β) func135 (by decide)
def yl:=aw (β:=β) func136 (by decide)
def yk:=aw (β:=β) func138 (by decide)
def yj:=aw (β:=β) func139 (by decide)
def yi:=aw (β:=β) func141 (by decide)
def xl:=aw (β:=β) func142 (by decide)
def wS:=aw (β:=β) func143 (by decide)
def yh:=aw (β:=β) func144 (by decide)
def yg:=aw (β:=β) func145 (by decide)
def yf:=aw (β:=β) func146 (by decide)
def ye:=aw (β:=β) func150 (by decide)
def wR:=aw (β:=β) func154 (by decide)
def yd:=aw (β:=β) func155 (by decide)
def yc:=aw (β:=β) func156 (by decide)
def yb:=aw (β:=β) func161 (by decide)
def ya:=aw (β:=β) func162 (by decide)
def xZ:=aw (β:=β) func167 (by decide)
@[go_sem] def qC4:=aA (β:=β) func4 (by decide) rfl
@[go_sem] def qC5:=aA (β:=β) func5 (by decide) rfl
@[go_sem] def qC6:=aA (β:=β) func6 (by decide) rfl
@[go_sem] def qC7:=aA (β:=β) func7 (by decide) rfl
@[go_sem] def qC8:=aA (β:=β) func8 (by decide) rfl
@[go_sem] def qC9:=aA (β:=β) func9 (by decide) rfl
@[go_sem] def qC10:=aA (β:=β) func10 (by decide) rfl
@[go_sem] def qC11:=aA (β:=β) func11 (by decide) rfl
@[go_sem] def qC12:=aA (β:=β) func12 (by decide) rfl
@[go_sem] def qC13:=aA (β:=β) func13 (by decide) rfl
@[go_sem] def qC14:=aA (β:=β) func14 (by decide) rfl
@[go_sem] def qC15:=aA (β:=β) func15 (by decide) rfl
@[go_sem] def qC16:=aA (β:=β) func16 (by decide) rfl
@[go_sem] def qC17:=aA (β:=β) func17 (by decide) rfl
@[go_sem] def qC18:=aA (β:=β) func18 (by decide) rfl
@[go_sem] def qC19:=aA (β:=β) func19 (by decide) rfl
@[go_sem] def qC20:=aA (β:=β) func20 (by decide) rfl
@[go_sem] def qC21:=aA (β:=β) func21 (by decide) rfl
@[go_sem] def qC22:=aA (β:=β) func22 (by decide) rfl
@[go_sem] def qC23:=aA (β:=β) func23 (by decide) rfl
@[go_sem] def qC24:=aA (β:=β) func24 (by decide) rfl
@[go_sem] def qC25:=aA (β:=β) func25 (by decide) rfl
@[go_sem] def qC26:=aA (β:=β) func26 (by decide) rfl
@[go_sem] def qC27:=aA (β:=β) func27 (by decide) rfl
@[go_sem] def qC28:=aA (β:=β) func28 (by decide) rfl
@[go_sem] def qC29:=aA (β:=β) func29 (by decide) rfl
@[go_sem] def qC30:=aA (β:=β) func30 (by decide) rfl
@[go_sem] def qC31:=aA (β:=β) func31 (by decide) rfl
@[go_sem] def qC32:=aA (β:=β) func32 (by decide) rfl
@[go_sem] def qC33:=aA (β:=β) func33 (by decide) rfl
@[go_sem] def qC34:=aA (β:=β) func34 (by decide) rfl
@[go_sem] def qC36:=aA (β:=β) func36 (by decide) rfl
@[go_sem] def qC39:=aA (β:=β) func39 (by decide) rfl
@[go_sem] def qC41:=aA (β:=β) func41 (by decide) rfl
@[go_sem] def qC46:=aA (β:=β) func46 (by decide) rfl
@[go_sem] def qC47:=aA (β:=β) func47 (by decide) rfl
@[go_sem] def qC49:=aA (β:=β) func49 (by decide) rfl
@[go_sem] def qC50:=aA (β:=β) func50 (by decide) rfl
@[go_sem] def qC51:=aA (β:=β) func51 (by decide) rfl
@[go_sem] def qC52:=aA (β:=β) func52 (by decide) rfl
@[go_sem] def qC53:=aA (β:=β) func53 (by decide) rfl
@[go_sem] def qC54:=aA (β:=β) func54 (by decide) rfl
@[go_sem] def qC55:=aA (β:=β) func55 (by decide) rfl
@[go_sem] def qC56:=aA (β:=β) func56 (by decide) rfl
@[go_sem] def qC57:=aA (β:=β) func57 (by decide) rfl
@[go_sem] def qC58:=aA (β:=β) func58 (by decide) rfl
@[go_sem] def qC59:=aA (β:=β) func59 (by decide) rfl
@[go_sem] def qC60:=aA (β:=β) func60 (by decide) rfl
@[go_sem] def qC61:=aA (β:=β) func61 (by decide) rfl
@[go_sem] def qC62:=aA (β:=β) func62 (by decide) rfl
@[go_sem] def qC63:=aA (β:=β) func63 (by decide) rfl
@[go_sem] def qC64:=aA (β:=β) func64 (by decide) rfl
@[go_sem] def qC65:=aA (β:=β) func65 (by decide) rfl
@[go_sem] def qC69:=aA (β:=β) func69 (by decide) rfl
@[go_sem] def qC71:=aA (β:=β) func71 (by decide) rfl
@[go_sem] def qC72:=aA (β:=β) func72 (by decide) rfl
@[go_sem] def qC73:=aA (β:=β) func73 (by decide) rfl
@[go_sem] def qC74:=aA (β:=β) func74 (by decide) rfl
@[go_sem] def qC75:=aA (β:=β) func75 (by decide) rfl
@[go_sem] def qC76:=aA (β:=β) func76 (by decide) rfl
@[go_sem] def qC77:=aA (β:=β) func77 (by decide) rfl
@[go_sem] def qC78:=aA (β:=β) func78 (by decide) rfl
@[go_sem] def qC79:=aA (β:=β) func79 (by decide) rfl
@[go_sem] def qC80:=aA (β:=β) func80 (by decide) rfl
@[go_sem] def qC81:=aA (β:=β) func81 (by decide) rfl
@[go_sem] def qC82:=aA (β:=β) func82 (by decide) rfl
@[go_sem] def qC83:=aA (β:=β) func83 (by decide) rfl
@[go_sem] def qC84:=aA (β:=β) func84 (by decide) rfl
@[go_sem] def qC85:=aA (β:=β) func85 (by decide) rfl
@[go_sem] def qC86:=aA (β:=β) func86 (by decide) rfl
@[go_sem] def qC87:=aA (β:=β) func87 (by decide) rfl
@[go_sem] def qC88:=aA (β:=β) func88 (by decide) rfl
@[go_sem] def qC89:=aA (β:=β) func89 (by decide) rfl
@[go_sem] def AJ:=aA (β:=β) func103 (by decide) rfl
@[go_sem] def AI:=aA (β:=β) func109 (by decide) rfl
@[go_sem] def AH:=aA (β:=β) func110 (by decide) rfl
@[go_sem] def AG:=aA (β:=β) func112 (by decide) rfl
@[go_sem] def AF:=aA (β:=β) func113 (by decide) rfl
@[go_sem] def AE:=aA (β:=β) func114 (by decide) rfl
@[go_sem] def AC:=aA (β:=β) func115 (by decide) rfl
@[go_sem] def AB:=aA (β:=β) func116 (by decide) rfl
@[go_sem] def AA:=aA (β:=β) func117 (by decide) rfl
@[go_sem] def Az:=aA (β:=β) func118 (by decide) rfl
@[go_sem] def Ax:=aA (β:=β) func119 (by decide) rfl
@[go_sem] def Aw:=aA (β:=β) func120 (by decide) rfl
@[go_sem] def Au:=aA (β:=β) func125 (by decide) rfl
@[go_sem] def An:=aA (β:=β) func126 (by decide) rfl
@[go_sem] def Am:=aA (β:=β) func127 (by decide) rfl
@[go_sem] def Ak:=aA (β:=β) func130 (by decide) rfl
@[go_sem] def Aj:=aA (β:=β) func132 (by decide) rfl
@[go_sem] def Ah:=aA (β:=β) func133 (by decide) rfl
@[go_sem] def Ag:=aA (β:=β) func134 (by decide) rfl
@[go_sem] def Af:=aA (β:=β) func135 (by decide) rfl
@[go_sem] def Ad:=aA (β:=β) func136 (by decide) rfl
@[go_sem] def Ac:=aA (β:=β) func139 (by decide) rfl
@[go_sem] def A7:=aA (β:=β) func141 (by decide) rfl
@[go_sem] def zZ:=aA (β:=β) func142 (by decide) rfl
@[go_sem] def zY:=aA (β:=β) func143 (by decide) rfl
@[go_sem] def zX:=aA (β:=β) func144 (by decide) rfl
@[go_sem] def zW:=aA (β:=β) func145 (by decide) rfl
@[go_sem] def zV:=aA (β:=β) func146 (by decide) rfl
@[go_sem] def zU:=aA (β:=β) func150 (by decide) rfl
@[go_sem] def zT:=aA (β:=β) func154 (by decide) rfl
@[go_sem] def zS:=aA (β:=β) func155 (by decide) rfl
@[go_sem] def zR:=aA (β:=β) func161 (by decide) rfl
@[go_sem] def zQ:=aA (β:=β) func162 (by decide) rfl
@[go_sem] def zP:=aA (β:=β) func167 (by decide) rfl
def qU5:=(dn (β:=β) 5).trans underlying5
def qU9:=(dn (β:=β) 9).trans underlying9
def wM:=(dn (β:=β) 22).trans underlying22
def xz:=(dn (β:=β) 23).trans underlying23
def xy:=(dn (β:=β) 24).trans underlying24
def xg:=(dn (β:=β) 25).trans underlying25
def yG:=(dn (β:=β) 34).trans underlying34
def yF:=(dn (β:=β) 37).trans underlying37
def xf:=(dn (β:=β) 52).trans underlying52
def xw:=(dn (β:=β) 54).trans underlying54
def xv:=(dn (β:=β) 60).trans underlying60
def yE:=(dn (β:=β) 78).trans underlying78
def xe:=(dn (β:=β) 87).trans underlying87
def xY:=(dn (β:=β) 100).trans underlying100
def xX:=(dn (β:=β) 111).trans underlying111
def xW:=(dn (β:=β) 160).trans underlying160
def xV:=(dn (β:=β) 185).trans underlying185
end
section
variable {β:Bool}
open Go.RowKit
def bs(s:ByteArray):List Nat:=s.data.toList.map UInt8.toNat
def aO(s:ByteArray):(bs s).length=s.size:=by
 unfold bs;rw[qc,qL];rfl
def aaK{s:ByteArray}(h:k<s.size):(bs s)[k]?=some (s[k]'h).toNat:=by
 unfold bs;rw[qH,du];have:s.data[k]?=some (s.data[k]'h):=fi h;rw[this];rfl
def apW{s:ByteArray}:∀b∈bs s,b<256:=λb a=>by
 obtain⟨u,_,rfl⟩:=ql.1 a;exact u.toNat_lt
def oP{s t:ByteArray}(h:bs s=bs t):s=t:=by
 have e:s.data.toList=t.data.toList:=by
  unfold bs at h;generalize s.data.toList=a at *;generalize t.data.toList=b at *
  induction a generalizing b with
  |nil=>cases b with
   |nil=>rfl
   |cons y b=>cases h
  |cons x a d=>cases b with
   |nil=>cases h
   |cons y b=>
    simp only[sd,qf] at h;rw[uD.1 h.1,d b h.2]
 have c:s.data=t.data:=uy.1 e;cases s;cases t;simp only at c;rw[c]
def iv(s t:ByteArray):bs (s++t)=bs s++bs t:=by
 unfold bs;rw[<-tf,<-pv]
 congr 2
 simp
def dg(s:ByteArray)(a b:Nat):bs (s.extract a b)=((bs s).take b).drop a:=by
 unfold bs;simp only[vL,tJ,vz];rw[<-List.map_take,<-List.map_drop]
 congr 1
 rw[List.take_drop];by_cases h:a<=b
 .congr 2;omega
 .have:b-a=0:=by omega
  rw[this,rM (by simp;omega),rM (by simp;omega)]
def aaL{s t:ByteArray}(h:¬t=s):(t.toList ==s.toList)=false:=by
 refine de.2 λe=>h ?_;rw[qK,qK] at e;have a:t.data=s.data:=uy.1 e;cases s;cases t;simp only at a;rw[a]
def oQ(b:Nat):Bool:=decide (97<=b)&&decide (b<=122)
def bB(l:List Nat):Prop:=(1<=l.length/\l.length<=8)/\l.all oQ=true
def ea:List Nat->Nat->Nat
 |[],n=>n
 |b::l,n=>ea l (27*n+(b-97)+1)
def code(l:List Nat):Nat:=ea l 0
def cP(key:Int)(l:List Nat):Int:=((code l:Int)*(2*key+1)+key*7919) % 999999999989
def bX(n:Nat):Nat:=if n=0\/8<n then 0 else if n<=2 then 2 else if n<=4 then 4 else 8
def gb(l:List Nat):List Nat:=l++List.replicate (bX l.length-l.length) 46
def gh:∀(a b:List Nat) (n:Nat),ea (a++b) n=ea b (ea a n)
 |[],_,_=>rfl
 |x::a,b,n=>by show ea (a++b) _=ea b (ea a _);rw[gh a b]
def ael:∀(l:List Nat) (n:Nat),l.all oQ=true->ea l n<(n+1)*27 ^ l.length
 |[],n,_=>by show n<_;simp
 |b::l,n,h=>by
  simp only[qy,ff] at h;have a:=ael l (27*n+(b-97)+1) h.2;have c:b<=122:=by have:=h.1;unfold oQ at this;simp at this;exact this.2
  show ea l _<_;refine bd a ?_;rw[ga,Nat.pow_succ,tC (27 ^ l.length) 27,<-Nat.mul_assoc];exact qI _ (by omega)
def abG{l:List Nat}(h:bB l):code l<282429536481:=by
 have a:=ael l 0 h.2;unfold code;have b:27 ^ l.length<=27 ^ 8:=vV (by omega) h.1.2;have e:(27:Nat) ^ 8=282429536481:=by decide
 omega
def afL{l:List Nat}{b : Nat}(h:l[k]?=some b):code (l.take (k+1))=27*code (l.take k)+(b-97)+1:=by
 unfold code;rw[li h,gh];rfl
def anJ:∀{a b:List Nat},a.all oQ=true->b.all oQ=true->ea a 0=ea b 0->a=b:=by
 intro a
 induction a using pN with
 |h0=>
  intro b _ c h
  induction b using pN with
  |h0=>rfl
  |h1 l x _=>rw[gh] at h;show[]=_;exfalso;have:ea [x] (ea l 0)=27*ea l 0+(x-97)+1:=rfl;have h0:ea [] 0=0:=rfl;omega
 |h1 l x g=>
  intro b d c h
  induction b using pN with
  |h0=>rw[gh] at h;exfalso;have:ea [x] (ea l 0)=27*ea l 0+(x-97)+1:=rfl;have h0:ea [] 0=0:=rfl;omega
  |h1 m y _=>
   rw[tk] at d c;simp only[ff,qy,vE,uq] at d c;rw[gh,gh] at h;have i:ea [x] (ea l 0)=27*ea l 0+(x-97)+1:=rfl;have j:ea [y] (ea m 0)=27*ea m 0+(y-97)+1:=rfl;have f:=d.2;have e:=c.2;unfold oQ at f e;simp at f e;have:ea l 0=ea m 0/\x=y:=by omega
   rw[g d.1 c.1 this.1,this.2]
def oT{key:Int}{l:List Nat}:0<=cP key l/\cP key l<=999999999988:=by
 unfold cP;omega
def eJ(l:List Nat):Nat->Nat
 |0=>0
 |n+1=>if l[n]?=some 46 then eJ l n else n+1
def vm(l:List Nat):List Nat:=l.take (eJ l l.length)
def acy(l:List Nat):∀n,eJ l n<=n
 |0=>am _
 |n+1=>by
  unfold eJ;split
  .exact Nat.le_succ_of_le (acy l n)
  .exact am _
open Classical in
noncomputable def ni(l:List Nat):Option (List Nat):=if bB (vm l)/\gb (vm l)=l then some (vm l) else none
def pO :bX n<=8/\(n<=8->n<=bX n):=by
 unfold bX;split<;>(try split)<;>(try split)<;>omega
def ah4{l:List Nat}(h:bB l):(gb l).length=bX l.length:=by
 unfold gb;rw[aE,qw];have:=pO.2 h.1.2;omega
def anK{l:List Nat}(h:bB l):vm (gb l)=l:=by
 have c:∀m,eJ (gb l) (l.length+m)=l.length\/l.length+m>(gb l).length:=by
  intro m
  induction m with
  |zero=>
   left;obtain⟨k,f⟩:∃k,l.length=k+1:=⟨l.length-1,by have:=h.1.1;omega⟩;rw[tD,f];unfold eJ;rw[bv];unfold gb;rw[qn (by omega)];intro e;have:=lE.1 h.2 46 (db e);simp[oQ] at this
  |succ m b=>
   by_cases a:l.length+m<(gb l).length
   .rcases b with b|b
    .left;show eJ (gb l) (l.length+m+1)=_;unfold eJ;rw[dq,b];unfold gb at a ⊢;rw[aE,qw] at a;rw[qg (by omega),tZ,dq (by omega)]
    .omega
   .right;omega
 have d:l.length<=(gb l).length:=by unfold gb;simp
 have:=c ((gb l).length-l.length);rw[Nat.add_sub_cancel' d] at this;unfold vm;rw[this.resolve_right (by omega)];unfold gb;rw[List.take_left]
def ah5{l:List Nat}(h:bB l):ni (gb l)=some l:=by
 unfold ni;rw[anK h,dq ⟨h,rfl⟩]
def rE(l:List Nat):ByteArray:=⟨(l.map UInt8.ofNat).toArray⟩
def amr{l:List Nat}(h:∀b∈l,b<256):bs (rE l)=l:=by
 unfold bs rE;simp only[List.map_map]
 conv=>rhs;rw[<-List.map_id l]
 refine wl λb a=> ?_;have:=h b a;simp[UInt8.toNat_ofNat,Nat.mod_eq_of_lt this]
def ayU(s:ByteArray):rE (bs s)=s:=oP (amr apW)
def anL{s:ByteArray}:∀b∈gb (bs s),b<256:=λb a=>by
 unfold gb at a;rcases mx.1 a with h|h
 .exact apW b h
 .have:=List.eq_of_mem_replicate h;omega
def agK(s:ByteArray):bs (rE (gb (bs s)))=gb (bs s):=amr anL
end
section
variable {β:Bool}
open Go.RowKit
def kT(n a hi:Int)(w:World) :
  Calls (ah β) 20 #[.int .i64 n,.int .i64 a,.int .i64 hi] w λe c=>e=.returned (.bool (decide (a<=n)&&decide (n<=hi)))/\w=c:=by
 by_cases h:a<=n
 .go_enter xR,ntmps20;go_wp2;go_ret;exact⟨by simp[h],rfl⟩
 .go_enter xR,ntmps20;go_wp2;go_ret;have b:decide (a<=n)=false:=by simpa using h
  exact⟨by rw[b];rfl,rfl⟩
end
section
variable {β:Bool}
open Go.RowKit
def afe(s:ByteArray)(n:s.size<=maxLen)(w:World) :
  Calls (ah β) 89 #[.string s] w λe m=>e=.returned (.bool ((bs s).all oQ))/\w=m:=by
 unfold maxLen at n;go_enter yH,ntmps89;go_wp2
 go_loop [3] (λi=>∃k:Nat,k<=s.size/\i=.int .i64 k/\((bs s).take k).all oQ=true) (λi=>s.size-(intOf i).toNat)
 case atStart=>exact⟨0,fb _,rfl,rfl⟩
 case round=>
  obtain⟨k,p,rfl,f⟩:=hrel;replace f:=ab f;by_cases b:k<s.size
  .have c:=aaK b;replace c:=ab c;by_cases q:(s[k]'b).toNat<97
   .have l:=dj (show((s[k]'b).toNat:Int)<97 by omega);have a:(bs s).all oQ=false:=by
     rw[ui];exact⟨_,db c.out,by unfold oQ;simp;omega⟩
    have d:=ab a;clear a;go_wp2;go_ret;exact⟨aB d.out.symm,rfl⟩
   .have l:=da (show ¬(((s[k]'b).toNat:Int)<97) by omega);by_cases o:122<(s[k]'b).toNat
    .have j:=dj (show 122<((s[k]'b).toNat:Int) by omega);have a:(bs s).all oQ=false:=by
      rw[ui];exact⟨_,db c.out,by unfold oQ;simp;omega⟩
     have d:=ab a;clear a;go_wp2;go_ret;exact⟨aB d.out.symm,rfl⟩
    .have j:=da (show ¬(122<((s[k]'b).toNat:Int)) by omega);have g:((bs s).take (k+1)).all oQ=true:=by
      rw[li c.out,tk,f.out];simp[oQ];omega
     replace g:=ab g;go_wp2
     go_round
     case rel=>exact⟨k+1,by omega,by go_num,g.out⟩
     simp[intOf];omega
  .obtain rfl:k=s.size:=by omega
   have a:(bs s).all oQ=true:=by
    have:=f.out
    rwa [pm (by rw[aO];exact am _)] at this
   have d:=ab a;clear a;go_wp2;go_ret;exact⟨aB d.out.symm,rfl⟩
def akf(s:ByteArray)(g:bB (bs s))(w:World) :
  Calls (ah β) 119 #[.string s] w λe o=>e=.returned (.int .i64 (code (bs s)))/\w=o:=by
 have m:=ab g;have u:s.size<=8:=by have:=g.1.2;rwa [aO] at this
 go_enter yu,ntmps119;go_wp2
 go_loop [3,4] (λn i=>∃k:Nat,k<=s.size/\i=.int .i64 k/\n=.int .i64 (code ((bs s).take k))) (λ_ i=>s.size-(intOf i).toNat)
 case atStart=>exact⟨0,fb _,rfl,rfl⟩
 case round=>
  obtain⟨k,v,rfl,rfl⟩:=hrel;by_cases a:k<s.size
  .have l:=aaK a;have j:=lE.1 m.out.2 _ (db l);have p:97<=(s[k]'a).toNat/\(s[k]'a).toNat<=122:=by unfold oQ at j;simpa using j
   have d:=afL l;have f:code ((bs s).take (k+1))<282429536481:=by
    have y:=ael ((bs s).take (k+1)) 0 (lE.2 λx q=>lE.1 m.out.2 x (pu q));have t:27 ^ ((bs s).take (k+1)).length<=27 ^ 8:=vV (by omega) (by rw[fa,aO];omega);have e:(27:Nat) ^ 8=282429536481:=by decide
    unfold code;omega
   have b:=ab d;rw[d] at f;revert b f;generalize code ((bs s).take k)=c;intro f b;go_wp2
   go_round
   case rel=>exact⟨k+1,by omega,by go_num,by rw[b.out];congr 1;omega⟩
   simp[intOf];omega
  .obtain rfl:k=s.size:=by omega
   have r:(bs s).take s.size=bs s:=pm (by rw[aO];exact am _);rw[r];go_wp2;go_ret;exact⟨rfl,rfl⟩
def aaM(key:Int)(s:ByteArray)(n:1<=key/\key<=99)(d:bB (bs s))(w:World) :
  Calls (ah β) 82 #[.int .i64 key,.string s] w λe g=>e=.returned (.int .i64 (cP key (bs s)))/\w=g:=by
 have f:=abG d;have i:cP key (bs s)=((code (bs s):Int)*(2*key+1)+key*7919) % 999999999989:=rfl;have b:=ab i;have j:=akf (β:=β) s d w;have a:=ab j;revert a;revert b;revert f;generalize code (bs s)=c;intro f b a;have q:0<=(c:Int)*(2*key+1)/\(c:Int)*(2*key+1)<=282429536481*199:=by
  constructor
  .exact Int.mul_nonneg (by omega) (by omega)
  .exact Int.mul_le_mul (by omega) (by omega) (by omega) (by omega)
 go_enter yN,ntmps82;go_wp2;refine a.out.mono ?_;rintro e k ⟨rfl,rfl⟩;have t:wrap64 (2*key)=2*key:=by unfold wrap64;omega
 have p:wrap64 (2*key+1)=2*key+1:=by unfold wrap64;omega
 have o:wrap64 ((c:Int)*(2*key+1))=(c:Int)*(2*key+1):=by unfold wrap64;omega
 have l:wrap64 (key*7919)=key*7919:=by unfold wrap64;omega
 have r:wrap64 ((c:Int)*(2*key+1)+key*7919)=(c:Int)*(2*key+1)+key*7919:=by unfold wrap64;omega
 have m:((c:Int)*(2*key+1)+key*7919).tmod 999999999989=((c:Int)*(2*key+1)+key*7919) % 999999999989:=uW (by omega);go_wp2;go_ret;exact⟨as4 b.out.symm,rfl⟩
def ah6(n:Nat)(w:World) :
  Calls (ah β) 120 #[.int .i64 n] w λe d=>e=.returned (.int .i64 (bX n))/\w=d:=by
 have g:(n=0/\bX n=0)\/(8<n/\bX n=0)\/((1<=n/\n<=2)/\bX n=2)\/((3<=n/\n<=4)/\bX n=4)\/((5<=n/\n<=8)/\bX n=8):=by
  unfold bX;split<;>(try split)<;>(try split)<;>omega
 rcases g with⟨h,e⟩|⟨h,e⟩|⟨h,e⟩|⟨h,e⟩|⟨h,e⟩
 .rw[e];subst h;go_enter wx,ntmps120;go_wp2;go_ret;exact⟨rfl,rfl⟩
 .rw[e];have c:=da (show ¬((n:Int)<1) by omega);have b:=dj (show 8<(n:Int) by omega);go_enter wx,ntmps120;go_wp2;go_ret;exact⟨rfl,rfl⟩
 all_goals
  rw[e];have c:=da (show ¬((n:Int)<1) by omega);have b:=da (show ¬(8<(n:Int)) by omega)
 .have a:=dj (show(n:Int)<=2 by omega);go_enter wx,ntmps120;go_wp2;go_ret;exact⟨rfl,rfl⟩
 .have a:=da (show ¬((n:Int)<=2) by omega);have f:=dj (show(n:Int)<=4 by omega);go_enter wx,ntmps120;go_wp2;go_ret;exact⟨rfl,rfl⟩
 .have a:=da (show ¬((n:Int)<=2) by omega);have f:=da (show ¬((n:Int)<=4) by omega);go_enter wx,ntmps120;go_wp2;go_ret;exact⟨rfl,rfl⟩
def ayV(l:List Nat)(e:Ending):Prop:=∃t:ByteArray,e=.returned (.string t)/\bs t=l
def anM(s:ByteArray)(j:s.size<=maxLen)(w:World) :
  Calls (ah β) 87 #[.string s] w λe i=>ayV (gb (bs s)) e/\w=i:=by
 unfold maxLen at j;have a:gb (bs s)=bs s++List.replicate (bX s.size-s.size) 46:=by unfold gb;rw[aO]
 replace a:=ab a;have p:=(pO (n:=s.size)).1;go_enter yI,ntmps87;go_wp2;refine(ah6 s.size w).mono ?_;rintro e m ⟨rfl,rfl⟩;go_wp2
 go_loop [0] (λv=>∃(t:ByteArray) (k:Nat),v=.string t/\bs t=bs s++List.replicate k 46/\k<=bX s.size-s.size) (λv=>bX s.size-(match v with|.string t=>t.size|_=>0))
 case atStart=>exact⟨s,0,rfl,by simp,fb _⟩
 case round=>
  obtain⟨t,k,rfl,c,o⟩:=hrel;have l:t.size=s.size+k:=by rw[<-aO,c,aE,qw,aO]
  replace c:=ab c;by_cases f:t.size<bX s.size
  .have g:=dj (show(t.size:Int)<(bX s.size:Int) by omega);have d:bs (t++⟨#[46]⟩)=bs s++List.replicate (k+1) 46:=by
    rw[iv,c.out,sO,vX];rfl
   replace d:=ab d;go_wp2
   go_round
   case rel=>exact⟨_,k+1,rfl,d.out,by omega⟩
   case measure=> 
    have:(t++(⟨#[46]⟩:ByteArray)).size=t.size+1:=by rw[<-aO,iv,aE,aO];rfl
    simp only[this];omega
  .have g:=da (show ¬((t.size:Int)<(bX s.size:Int)) by omega);have b:k=bX s.size-s.size:=by omega
   replace b:=ab b;go_wp2;go_ret;exact⟨⟨t,rfl,by rw[c.out,a.out,b.out]⟩,rfl⟩
def vC{s:ByteArray}(a:k<=s.size):(s.extract 0 k).size=k:=by
 rw[<-aO,dg,rH,fa,aO];omega
end
section
variable {β:Bool}
open Go.RowKit
def ams(x:Int)(w:World)(b:Bool)(a:b=true↔1<=x/\x<=99):Calls (ah β) 47 #[.int .i64 x] w λe c=>e=.returned (.bool b)/\w=c:=by
 replace a:=ab a;by_cases h:1<=x
 .go_enter xG,ntmps47;go_wp2;go_ret;exact⟨aB (by rw[rb,a.out];simp[h]),rfl⟩
 .go_enter xG,ntmps47;go_wp2;go_ret;exact⟨aB (by rw[rb,a.out];simp[h];omega),rfl⟩
def afM(s:ByteArray)(n:s.size<=maxLen)(w:World) :
  Calls (ah β) 112 #[.string s] w λe m=>e=.returned (.bool ((bs s).all oQ))/\w=m:=by
 unfold maxLen at n;go_enter yz,ntmps112;go_wp2
 go_loop [6] (λi=>∃k:Nat,k<=s.size/\i=.int .i64 k/\((bs s).take k).all oQ=true) (λi=>s.size-(intOf i).toNat)
 case atStart=>exact⟨0,fb _,rfl,rfl⟩
 case round=>
  obtain⟨k,p,rfl,f⟩:=hrel;replace f:=ab f;by_cases b:k<s.size
  .have c:=aaK b;replace c:=ab c;by_cases q:(s[k]'b).toNat<97
   .have l:=dj (show((s[k]'b).toNat:Int)<97 by omega);have a:(bs s).all oQ=false:=by
     rw[ui];exact⟨_,db c.out,by unfold oQ;simp;omega⟩
    have d:=ab a;clear a;go_wp2;go_ret;exact⟨aB d.out.symm,rfl⟩
   .have l:=da (show ¬(((s[k]'b).toNat:Int)<97) by omega);by_cases o:122<(s[k]'b).toNat
    .have j:=dj (show 122<((s[k]'b).toNat:Int) by omega);have a:(bs s).all oQ=false:=by
      rw[ui];exact⟨_,db c.out,by unfold oQ;simp;omega⟩
     have d:=ab a;clear a;go_wp2;go_ret;exact⟨aB d.out.symm,rfl⟩
    .have j:=da (show ¬(122<((s[k]'b).toNat:Int)) by omega);have g:((bs s).take (k+1)).all oQ=true:=by
      rw[li c.out,tk,f.out];simp[oQ];omega
     replace g:=ab g;go_wp2
     go_round
     case rel=>exact⟨k+1,by omega,by go_num,g.out⟩
     simp[intOf];omega
  .obtain rfl:k=s.size:=by omega
   have a:(bs s).all oQ=true:=by
    have:=f.out
    rwa [pm (by rw[aO];exact am _)] at this
   have d:=ab a;clear a;go_wp2;go_ret;exact⟨aB d.out.symm,rfl⟩
def pP(s:ByteArray)(j:s.size<=maxLen)(w:World)(b:Bool)(g:b=true↔bB (bs s)) :
  Calls (ah β) 143 #[.string s] w λe l=>e=.returned (.bool b)/\w=l:=by
 replace g:=ab g;have HS:=j;unfold maxLen at j;have a:b=(decide (1<=(s.size:Int))&&decide ((s.size:Int)<=8)&&(bs s).all oQ):=by
  rw[rb,g.out];unfold bB;rw[aO];simp only[ff,qS];exact⟨λ⟨⟨k,i⟩,f⟩=>⟨⟨by omega,by omega⟩,f⟩,λ⟨⟨k,i⟩,f⟩=>⟨⟨by omega,by omega⟩,f⟩⟩
 replace a:=ab a;by_cases k:1<=s.size
 .have c:=dj (show 1<=(s.size:Int) by omega);by_cases i:s.size<=8
  .have d:=dj (show(s.size:Int)<=8 by omega);go_enter wS,ntmps143;go_wp2;refine(afM s HS w).mono ?_;rintro e m ⟨rfl,rfl⟩;go_wp2;go_ret;exact⟨aB (by rw[a.out,c,d];simp),rfl⟩
  .have d:=da (show ¬((s.size:Int)<=8) by omega);go_enter wS,ntmps143;go_wp2;go_ret;exact⟨aB (by rw[a.out,c,d];simp),rfl⟩
 .have c:=da (show ¬(1<=(s.size:Int)) by omega);go_enter wS,ntmps143;go_wp2;go_ret;exact⟨aB (by rw[a.out,c];simp),rfl⟩
end
section
variable {β:Bool}
open Go.RowKit
structure ib (P:Program) (t e:TypeId) (sz bytes:Nat):Prop where
 slice:P.underlying t=some (.slice e)
 info:∃i z,P.info? e=some i/\i.zero=some z/\i.size=sz/\i.bytes=bytes/\z.cells.size=sz
 pos:0<sz
 small:bytes<=128
section
variable {P:Program}
def ib.mk'{t : TypeId}{z:Value}(f:P.underlying t=some (.slice e))(hi:(P.info? e).map (λi=>(i.zero,i.size,i.bytes))=some (some z,Z,Q))(k:z.cells.size=Z)(a:0<Z)(j:Q<=128):ib P t e Z Q:=by
 obtain⟨i,d,b,g,c⟩:=info_parts hi;exact⟨f,⟨i,z,d,b,g,c,k⟩,a,j⟩
structure amt (w w':World) (base:Nat) (e:TypeId) (sz:Nat) (v v':Value) (n:Nat) (cells:List Value):Prop where
 own:w'.ownsRow base e sz v' n cells
 fc:bq (λb=>v.ownBlock=some b) w w'
 at_:∀b,v'.ownBlock=some b->v.ownBlock=some b\/w.heap.size<=b
def adJ{base:Nat}(h:w.ownsRow base e Z v n U)(k:bq S w w')(j:∀b,v.ownBlock=some b->¬S b):w'.ownsRow base e Z v n U:=by
 refine⟨h.1, ?_⟩;rcases h.2 with i|⟨g,cap,d,rfl,f,a,c⟩
 .exact .inl i
 .refine .inr ⟨g,cap,d,rfl,f, ?_,c⟩;rw[k.block g (dl.1 a).1 (j g rfl)];exact a
def aem{base:Nat}(h:w.ownsRow base e Z v n U)(a:Below w.heap.size w w'):w'.ownsRow base e Z v n U:=
 adJ h (bq.aN (S:=λ_=>False) a) λ_ _ h=>h
def amu {t ty : TypeId} (q:ib P t e Z Q) {base:Nat}   (d:w.ownsRow base e Z v n U)
  (O:news.length=m*Z) (S:0<m->∃a,A=some a/\∀(j:Nat) (u:Value),news[j]?=some u->w.cell? (a.add j)=some u) (R:∀u∈news,u.oneCell'=true)
  (W:n+m<=1099511627776) (l:base<=w.heap.size) :
  ∃y x,(Builtin.append_ #[t,t] ty #[v,.slice A m c]).run P w=.ok y x/\amt w x base e Z v y (n+m) (U++news):=by
 obtain⟨i,z,G,N,D,E,F⟩:=q.info;have f:(n+m)*Q<=140737488355328:=ap (Nat.mul_le_mul W q.small) (by omega);rcases qa m with I|I
 .subst I;have C:news=[]:=qM (by simpa using O);subst C;cases A with
  |some K=>
   obtain⟨y,x,M,H,o,_,p⟩:=run_append_own_at (P:=P) w base t ty e i z Z Q q.slice G N D E F q.pos v n U d K 0 c [] (by simp) (λj u V=>by simp at V) (by simp) (by unfold maxLen;omega) f l;exact⟨y,x,M,H,⟨o.os,o.tape,o.output,o.size,λk J r=>o.block k J λe=>r e.symm⟩,λb B=>by rcases p with p|p<;>rw[p] at B<;>simp_all⟩
  |none=>
   refine⟨v,w, ?_,by simpa using d,bq.refl _ _,λb B=>.inl B⟩;rcases d.2 with⟨rfl,rfl⟩|⟨g,cap,T,rfl,_,_,L,_⟩
   .simp[Builtin.append_,me q.slice,sizeOf,typeInfo,G,Builtin.lenOf,Builtin.firstCells]
   .simp[Builtin.append_,me q.slice,sizeOf,typeInfo,G,Builtin.lenOf,Builtin.firstCells,L,storeCells]
 .obtain⟨K,rfl,s⟩:=S I;obtain⟨y,x,M,H,o,_,p⟩:=run_append_own_at (P:=P) w base t ty e i z Z Q q.slice G N D E F q.pos v n U d K m c news O s R (by unfold maxLen;omega) f l;exact⟨y,x,M,H,⟨o.os,o.tape,o.output,o.size,λk J r=>o.block k J λe=>r e.symm⟩,λb B=>by rcases p with p|p<;>rw[p] at B<;>simp_all⟩
def awH  {a:Act} {K:Act->World->Prop} {Q:Exit->Act->World->Prop} (s x:Operand) (t:TypeId)
  (l:o.op=.call ⟨.builtin .append,#[s,x],#[t,t]⟩)
  (k:ib P t e Z B) {base:Nat}   (r:a.eval s=v) (d:w.ownsRow base e Z v n U)
  (y:a.eval x=.slice A m c) (p:news.length=m*Z) (D:0<m->∃a,A=some a/\∀(j:Nat) (u:Value),news[j]?=some u->w.cell? (a.add j)=some u) (C:∀u∈news,u.oneCell'=true)
  (z:n+m<=1099511627776) (b:base<=w.heap.size)
  (h:∀i g,amt w g base e Z v i (n+m) (U++news)->K (a.put o.dst i) g):o.wp P a w K Q:=by
 obtain⟨i,g,f,q⟩:=amu (P:=P) (ty:=o.type) k d (c:=c) p D C z b;unfold Oper.wp execOp;simp only[l,resolve,invoke,builtin,tA,tR,uh,List.map_toArray,sd,List.map_nil,r,y,f];exact h i g q
def aen    {a:Act} {Q:Exit->Act->World->Prop} (i:o.guard=none) (s x:Operand) (t:TypeId)
  (y:o.op=.call ⟨.builtin .append,#[s,x],#[t,t]⟩)
  (r:ib P t e Z B) {base:Nat}   (C:a.eval s=v) (d:w.ownsRow base e Z v n U)
  (D:a.eval x=.slice A m c) (z:news.length=m*Z) (q:0<m->∃a,A=some a/\∀(j:Nat) (u:Value),news[j]?=some u->w.cell? (a.add j)=some u) (l:∀u∈news,u.oneCell'=true)
  (E:n+m<=1099511627776) (b:base<=w.heap.size)
  (h:∀g f,amt w f base e Z v g (n+m) (U++news)->wpList P N Q rest (a.put o.dst g) f):wpList P N Q (o::rest) a w:=
 wpList_plain i λ_ p=>awH s x t y r C d D z q l E b λg f k=>p _ _ (h g f k)
def amv    {a:Act} {Q:Exit->Act->World->Prop} (k:o.guard=none) (s x:Operand) (t:TypeId)
  (C:o.op=.call ⟨.builtin .append,#[s,x],#[t,t]⟩)
  (A:ib P t e Z B) {base:Nat}   (F:a.eval s=v) (d:w.ownsRow base e Z v n U)
  {es:Array Value} {T:TypeId} (H:a.eval x=.slice (some ⟨w.heap.size,0,none⟩) 1 1) (D:es.size=Z) (z:∀u∈es.toList,u.oneCell'=true)
  (I:n<=1099511627775) (p:base<=w.heap.size)
  (h:∀g f,amt w f base e Z v g (n+1) (U++es.toList)->wpList P N Q rest (a.put o.dst g) f):wpList P N Q (o::rest) a (w.alloc (.cells es T)):=by
 refine aen k s x t C A F (d.alloc _) (c:=1) (m:=1) (news:=es.toList) H (by simp[D]) (λ_=>⟨_,rfl,λj u E=> ?_⟩) z (by omega) (by simp;omega) λg f l=>h g f ?_
 .have r:(⟨w.heap.size,0,none⟩:Addr).add j=⟨w.heap.size,j,none⟩:=by unfold Addr.add;split<;>simp_all
  rw[r,(bg.new w T es).cell];simpa using E
 .refine⟨l.own, ?_, ?_⟩
  .exact((bq.refl (λb=>v.ownBlock=some b) w).alloc _).trans l.fc λi _ G=>G
  .intro b y;rcases l.at_ b y with q|q
   .exact .inl q
   .simp at q;right;omega
end
def abH:ib (ah β) 87 3 1 8:=ib.mk' xe (z:=.int .i64 0) (by kernel_rfl) rfl (by decide) (by decide)
def gK{base:Nat}(h:w.ownsRow base e Z v n U):∃A c,v=.slice A n c:=by
 rcases h.2 with⟨rfl,rfl⟩|⟨g,cap,a,rfl,_⟩
 .exact⟨_,_,rfl⟩
 .exact⟨_,_,rfl⟩
def awI {E:fV Y} {base : Nat}     (h:w.ownsRow base e Z v xs.length U) (y:w.heap.size<=hi)
  (p:∀i x,xs[i]?=some x->∃a:List Value,a.length=Z/\E w base hi x a/\∀j u,a[j]?=some u->U[i*Z+j]?=some u):bE E Z w base hi xs [v]:=by
 obtain⟨A,l⟩:=h;rcases l with⟨rfl,n⟩|⟨g,cap,d,rfl,o,k,f,c,s,m⟩
 .exact⟨none,0,by rw[n],by omega,by unfold maxLen;omega,λB=>by omega⟩
 .refine⟨_,cap,rfl,f,c,λ_=>⟨g,0,rfl,o,bd (dl.1 k).1 y,λi x hi=> ?_⟩⟩;obtain⟨a,q,t,z⟩:=p i x hi;refine⟨a,q,t,λj u r=> ?_⟩;have b:=z j u r;rw[<-m,qx] at b;split at b
  .rw[cell_of_row w g (0+i*Z+j) d e (0,0) k];rw[mc];simpa using b
  .cases b
end
end Go.Proofs.YtbeafkpaghapeaaGreatDoor