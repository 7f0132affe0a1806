/- A part of the proof. -/
import Derived.Test.YtlaobkmopohmnaaGreatDoorG1
import Derived.KernelRfl
import Derived.Test.YtlaobkmopohmnaaGreatDoorRows
import Derived.ProofKit
import Derived.OpenShut
import Derived.Handy
import Derived.BigQuiet
import Derived.Deep.QuietTactic
import Derived.Outline
import Derived.Deep.Draws
import Derived.Lib.Hide
import Derived.Laws.Strings
import Derived.Maps.AppendAt
import Derived.Deep.OwnRows
set_option maxRecDepth 100000
set_option maxHeartbeats 8000000
set_option linter.all false
open Go Go.RowKit Go.Proofs.Tryz Go.Proofs.YtlaobkmopohmnaaGreatDoor
variable {Z Q B c hi k m n:Nat} {Y:Type} {o:Oper} {R fr:Frame} {K a w w':World} {v:Value} {e:TypeId} {f:FuncId} {P:Program} {S:Nat→Prop} {i:TypeInfo} {I todo:List Item} {g g':Goroutine} {rest:List Oper} {V cs l l':List Frame} {U news:List Value} {N:Array Oper} {M r:Option Nat} {W t:Array Value} {O es:Array Event} {A:Option Addr} {J:List Deferred} {e':Operand→Value} {s':List Frame→GStep} {L:TypeId→Option TypeInfo} {s:List Frame→World→GStep} {x:Y} {xs:List Y}
namespace Go.Proofs.YtlaobkmopohmnaaGreatDoor
def ab:=@_root_.Go.Lib.hid
def aE:=@_root_.List.length_append
def bv:=@_root_.decide_eq_false
def db:=@_root_.List.mem_of_getElem?
def dj:=@_root_.decide_eq_true
def dk:=@_root_.beq_eq_false_iff_ne
def eg:=@_root_.List.length_take
def fa:=@_root_.Nat.zero_le
def fi:=@_root_.List.length_cons
def io:=@_root_.Go.RowKit.Below.heap_setCell
def iS:=@_root_.Array.getD_eq_getD_getElem?
def jn:=@_root_.List.getElem?_eq_getElem
def lc:=@_root_.Option.map_eq_some_iff
def lP:=@_root_.Nat.zero_add
def mt:=@_root_.Go.run_underlying
def nF:=@_root_.Go.Value.slice.injEq
def oS:=@_root_.List.take_of_length_le
def pa:=@_root_.List.mem_cons
def pe:=@_root_.Option.bind_eq_some_iff
def pm:=@_root_.Nat.lt_or_ge
def pr:=@_root_.List.mem_of_mem_take
def qe:=@_root_.Nat.eq_zero_or_pos
def qg:=@_root_.Array.getElem?_setIfInBounds_self_of_lt
def qh:=@_root_.List.length_map
def qi:=@_root_.List.cons.injEq
def qj:=@_root_.Array.getElem?_eq_none
def ql:=@_root_.List.getElem?_append_right
def qo:=@_root_.Option.getD_some
def qr:=@_root_.Option.map_some
def qv:=@_root_.List.getElem?_append_left
def qw:=@_root_.and_true
def qx:=@_root_.Go.World.cell?_of_block
def qy:=@_root_.List.mem_range
def qz:=@_root_.Bool.false_ne_true
def qB:=@_root_.List.mem_cons_self
def qC:=@_root_.List.length_replicate
def qD:=@_root_.List.getElem?_take
def qH:=@_root_.Array.mem_of_getElem?
def qM:=@_root_.List.cons_append
def qN:=@_root_.List.getElem?_map
def qO:=@_root_.Nat.mul_le_mul_right
def qP:=@_root_.Go.Stepped.next.injEq
def qR:=@_root_.List.eq_nil_of_length_eq_zero
def qS:=@_root_.Classical.byContradiction
def qU:=@_root_.Go.Sem.run_bind'
def qV:=@_root_.List.nil_append
def qY:=@_root_.decide_eq_true_eq
def rb:=@_root_.List.mem_cons_of_mem
def rc:=@_root_.Bool.or_eq_true
def rj:=@_root_.Go.ByteArray.toList_eq
def rm:=@_root_.List.getElem?_eq_none
def rD:=@_root_.List.mem_iff_getElem?
def rE:=@_root_.Option.isSome_iff_exists
def rH:=@_root_.Go.RowKit.Below.heap_alloc
def rN:=@_root_.List.drop_zero
def rT:=@_root_.List.drop_eq_nil_of_le
def rU:=@_root_.Array.getElem?_append_left
def sq:=@_root_.Array.mem_toList_iff
def tf:=@_root_.List.append_assoc
def tu:=@_root_.Nat.add_zero
def tF:=@_root_.List.map_append
def tH:=@_root_.List.all_append
def tN:=@_root_.Go.Sem.run_bind
def tO:=@_root_.Nat.mul_comm
def tW:=@_root_.dif_pos
def uf:=@_root_.Go.Sem.run_pure
def un:=@_root_.List.getElem?_replicate
def uu:=@_root_.Go.Result.andThen_ok
def uv:=@_root_.List.all_eq_false
def uB:=@_root_.Bool.false_or
def uC:=@_root_.Bool.and_true
def uI:=@_root_.Array.toList_inj
def uN:=@_root_.UInt8.toNat_inj
def uP:=@_root_.Nat.pow_le_pow_right
def uQ:=@_root_.List.range_succ
def vx:=@_root_.Nat.add_assoc
def vz:=@_root_.Int.tmod_eq_emod_of_nonneg
def vC:=@_root_.Bool.or_false
def vD:=@_root_.Bool.not_true
def vK:=@_root_.List.extract_eq_take_drop
def vO:=@_root_.List.map_map
def vP:=@_root_.List.all_nil
def vV:=@_root_.ByteArray.data_extract
def wm:=@_root_.List.replicate_succ'
def wD:=@_root_.List.map_congr_left
section
def aaN{t:TypeId}(h:adN P t=true):∀k e,P.underlying t=some (.map k e)->∃b,P.underlying k=some (.int b):=λk e a=>by
 unfold adN agA at h;rw[a] at h;dsimp only at h;split at h
 .exact⟨_,by assumption⟩
 .cases h
section
variable {P P':Program} {ρ:Ren}
variable (T:Twin P P') (X:ahZ P P')
include T
theorem mr:∀(d:Nat) {ρ:Ren} (t:TypeId) {x k y i:Value},VR ρ x k->VR ρ y i->az P P' jC ρ (Op.eqGuardIn d t x y) (Op.eqGuardIn d t k i)
 |0,_,_,_,_,_,_,_,_=>.halt _ _
 |d+1,ρ,t,x,k,y,i,g,c=>by
  unfold Op.eqGuardIn;refine aj (aC T t) λM u O C hd=> ?_;obtain⟨rfl,hd⟩:=hd;replace g:=g.mono C;replace c:=c.mono C;cases u with
  |interface N=>cases g<;>cases c<;>first|exact ak rfl|(cases k<;>first|exact ak rfl|exact absurd (by assumption:jF Value.nilIface=true) (by decide)|exact absurd (by assumption:jF (Value.agg _)=true) qz)|(cases i<;>first|exact ak rfl|exact absurd (by assumption:jF Value.nilIface=true) (by decide)|exact absurd (by assumption:jF (Value.agg _)=true) qz)
  |struct L=>cases g with
   |agg g=>cases c with
    |agg c=>
     refine aj (aby (B:=jC) L (rfl:jC M (none,()) (none,())) λo f r m l _ _=> ?_) λo r m l e=> ?_
     .refine aV (λ_=> ?_) λ_=>ak (.yield rfl);refine aj (mD T f.type (bR.mono l g) f.offset) λJ a I w s=> ?_;refine aj (mD T f.type (bR.mono (l.trans w) c) f.offset) λH b F p j=> ?_;refine aj (mr d f.type (s.mono p) j) λD q v _ e=> ?_;obtain rfl:q=v:=e;exact aV (λ_=>ak (.done rfl)) λ_=>ak (.yield rfl)
     .obtain rfl:r=m:=e;obtain⟨_|q,u⟩:=r<;>exact ak rfl
    |fO=>(cases i<;>first|exact ak rfl|exact absurd (by assumption:jF Value.nilIface=true) (by decide)|exact absurd (by assumption:jF (Value.agg _)=true) qz)
    |_=>exact ak rfl
   |_=>cases c<;>first|exact ak rfl|(cases k<;>first|exact ak rfl|exact absurd (by assumption:jF Value.nilIface=true) (by decide)|exact absurd (by assumption:jF (Value.agg _)=true) qz)|(cases i<;>first|exact ak rfl|exact absurd (by assumption:jF Value.nilIface=true) (by decide)|exact absurd (by assumption:jF (Value.agg _)=true) qz)
  |array n e=>cases g with
   |agg g=>cases c with
    |agg c=>
     refine aj (fL T e) λK z G E q=> ?_;obtain rfl:z=G:=q;refine aj (abz (B:=jC) n (rfl:jC K (none,()) (none,())) λo f r m l _=> ?_) λo r m l e=> ?_
     .have A:=E.trans l;refine aj (mD T e (bR.mono A g) (f*z)) λJ a I w s=> ?_;refine aj (mD T e (bR.mono (A.trans w) c) (f*z)) λH b F p j=> ?_;refine aj (mr d e (s.mono p) j) λD q v _ e=> ?_;obtain rfl:q=v:=e;exact aV (λ_=>ak (.done rfl)) λ_=>ak (.yield rfl)
     .obtain rfl:r=m:=e;obtain⟨_|q,u⟩:=r<;>exact ak rfl
    |fO=>(cases i<;>first|exact ak rfl|exact absurd (by assumption:jF Value.nilIface=true) (by decide)|exact absurd (by assumption:jF (Value.agg _)=true) qz)
    |_=>exact ak rfl
   |_=>cases c<;>first|exact ak rfl|(cases k<;>first|exact ak rfl|exact absurd (by assumption:jF Value.nilIface=true) (by decide)|exact absurd (by assumption:jF (Value.agg _)=true) qz)|(cases i<;>first|exact ak rfl|exact absurd (by assumption:jF Value.nilIface=true) (by decide)|exact absurd (by assumption:jF (Value.agg _)=true) qz)
  |_=>exact ak rfl
theorem an3(op:BinOp)(t:TypeId)(x y:Operand){a b c : Value}(j:VR ρ a v)(d:VR ρ b c):az P P' jC ρ (eqGuard op t x y a b) (eqGuard op t x y v c):=by
 unfold eqGuard;refine aV (λ_=>ak rfl) λ_=> ?_;have i:=j;have g:=d;cases j with
 |nilIface=>cases d with
  |nilIface=>
   refine aV (λ_=>ak rfl) λ_=> ?_;refine aj (mr T _ t .nilIface .nilIface) λm q f _ e=> ?_;obtain rfl:q=f:=e;exact aV (λ_=>.halt _ _) λ_=>ak rfl
  |fO=>(cases c<;>first|exact ak rfl|exact absurd (by assumption:jF Value.nilIface=true) (by decide)|exact absurd (by assumption:jF (Value.agg _)=true) qz)
  |_=>exact ak rfl
 |agg j=>cases d with
  |agg d=>
   refine aj dr λm p A l n=> ?_;obtain⟨r,w⟩:=n;refine aj dr λz q f k o=> ?_;obtain⟨s,u⟩:=o;rw[r,w,s,u,T.aj2,T.depth];refine aV (λ_=>ak rfl) λ_=> ?_;refine aj (mr T _ t (i.mono (l.trans k)) (g.mono (l.trans k))) λm q f _ e=> ?_;obtain rfl:q=f:=e;exact aV (λ_=>.halt _ _) λ_=>ak rfl
  |fO=>(cases c<;>first|exact ak rfl|exact absurd (by assumption:jF Value.nilIface=true) (by decide)|exact absurd (by assumption:jF (Value.agg _)=true) qz)
  |_=>exact ak rfl
 |_=>cases d<;>first|exact ak rfl|(cases v<;>first|exact ak rfl|exact absurd (by assumption:jF Value.nilIface=true) (by decide)|exact absurd (by assumption:jF (Value.agg _)=true) qz)|(cases c<;>first|exact ak rfl|exact absurd (by assumption:jF Value.nilIface=true) (by decide)|exact absurd (by assumption:jF (Value.agg _)=true) qz)
theorem an4(f dst:TypeId)(a:aj0 P f dst=true){x : Value}(c:VR ρ x v):az P P' VR ρ (convert f dst x) (convert f dst v):=by
 unfold convert;refine aj (aC T f) λA u y r l=> ?_;obtain⟨rfl,l⟩:=l;refine aj (aC T dst) λn v t o m=> ?_;obtain⟨rfl,m⟩:=m;replace c:=c.mono (r.trans o);unfold aj0 at a;rw[l,m] at a;cases v with
 |int k=>
  cases u with
  |int w=>cases c with
   |int=>exact ak (.int _ _)
   |pointer h=>cases h<;>exact .halt _ _
   |slice h=>cases h<;>exact .halt _ _
   |_=>exact .halt _ _
  |_=>cases a
 |string=>
  cases u with
  |slice e=>
   have b:∀{x v:Value},VR n x v->az P P' VR n (do
     match<-underlying e with
     |.int .u8=>Conv.bytesToString x
     |.int .i32=>Conv.runesToString x
     |_=>stuck "Convert: a slice of what to string?") (do
     match<-underlying e with
     |.int .u8=>Conv.bytesToString v
     |.int .i32=>Conv.runesToString v
     |_=>stuck "Convert: a slice of what to string?"):=λ{x v} c=>by
    refine aj (aC T e) λq z p j g=> ?_;obtain⟨rfl,g⟩:=g;dsimp only at a;rw[g] at a;cases z with
    |int k=>cases k<;>first|exact adw (c.mono j)|exact .halt _ _|cases a
    |_=>exact .halt _ _
   have i:=c;cases c with
   |int=>exact ak (.string _)
   |string s=>exact ak (.string _)
   |pointer h=>cases h<;>exact b i
   |slice h=>cases h<;>exact b i
   |fO=>
    refine .dead (Leaves.bind (ael e) λd _=> ?_) _;cases d with
    |int k=>cases k<;>exact trivial
    |_=>exact trivial
   |_=>exact b i
  |unsafePointer=>cases a
  |_=>cases c with
   |int=>exact ak (.string _)
   |string s=>exact ak (.string _)
   |pointer h=>cases h<;>exact .halt _ _
   |slice h=>cases h<;>exact .halt _ _
   |_=>exact .halt _ _
 |slice e=>
  cases u with
  |string=>cases c with
   |string s=>
    refine aj (aC T e) λq z p j g=> ?_;obtain⟨rfl,g⟩:=g;dsimp only at a;rw[g] at a;cases z with
    |int k=>cases k<;>first|exact adx e s|exact .halt _ _|cases a
    |_=>exact .halt _ _
   |pointer h=>cases h<;>exact .halt _ _
   |slice h=>cases h<;>exact .halt _ _
   |_=>exact .halt _ _
  |_=>cases a
 |_=>cases u<;>cases a
theorem akx{e : Operand->Value}(x:Operand)(dst:Option Tmp)(t:TypeId)(pos:String)(af:Array Edge)(g:Option (Nat×Bool))(o:VR ρ (e x) (e' x)):az P P' iC ρ (execOp e ⟨dst,.nilCheck x,t,pos,af,g⟩) (execOp e' ⟨dst,.nilCheck x,t,pos,af,g⟩):=by
 unfold execOp;dsimp only;revert o;generalize e x=v;generalize e' x=v';intro o;cases o with
 |pointer h=>cases h with
  |none=>exact .dead (eE _) _
  |some h=>exact ak (.value (.pointer (.some h)))
 |nilIface=>exact .dead (eE _) _
 |nilFunc=>exact .dead (eE _) _
 |@func p r i _ _ _ _ m l=>
  cases i with
  |same _ i=>
   cases p with
   |func p=>exact ak (.value (.func (.same _ i) m l))
   |_=>cases i
  |yield h=>exact ak (.value (.func (.yield h) m l))
 |abn k j=>exact .dead (eE _) _
 |slice m l q=>exact ak (.value (.slice m l q))
 |map h=>exact ak (.value (.map h))
 |chan h=>exact ak (.value (.chan h))
 |iface t h=>exact ak (.value (.iface t h))
 |agg h=>exact ak (.value (.agg h))
 |tuple h=>exact ak (.value (.tuple h))
 |fO j d=>
  cases v' with
  |pointer a=>cases a with
   |none=>cases d
   |some a=>exact ak (.value (.fO j d))
  |func f a c=>cases f<;>first|(cases d;done)|exact ak (.value (.fO j d))
  |_=>first|(cases d;done)|exact ak (.value (.fO j d))
 |bool b=>exact ak (.value (.bool b))
 |int k n=>exact ak (.value (.int k n))
 |string s=>exact ak (.value (.string s))
theorem an5(b:Builtin)(c:Array TypeId)(t:TypeId)(cs:Array Bool)(d:acv P b c=true){a : Array Value}(h:dw ρ a W):az P P' iC ρ (builtin b c t cs a) (builtin b c t cs W):=by
 cases b with
 |append=>
  refine bE (apL T c t (λu f k e=> ?_) h);unfold acv agA at d;rw[f] at d;simp[e] at d
 |cap=>exact bE (ay3 T c t h)
 |clear=>exact bE (as6 T c t h)
 |copy=>exact bE (awT T c t h)
 |len=>exact bE (ay2 T c t h)
 |max=>exact bE (ay4 c t h)
 |min=>exact bE (ay5 c t h)
 |unsafeString=>exact bE (aei T c t h)
 |unsafeSlice=>exact bE (afl T c t h)
 |_=>cases d
include X
theorem amG{v' : Value}(a:VR ρ v v'){args args':Array Value}(b:dw ρ args args'):az P P' iC ρ (do let d<-Deferred.ofValue v args;invoke d.target d.args) (do let d<-Deferred.ofValue v' args';invoke d.target d.args):=by
 unfold Deferred.ofValue;cases a with
 |nilFunc=>
  show az P P' iC ρ (runtimePanic .nilDeref) _;exact .dead (eE _) _
 |@func f l a _ _ _ _ g i=>
  cases a with
  |same _ a=>
   cases f with
   |func f=>exact akd T X f a (dw.app (dw.app g b) i)
   |_=>cases a
  |yield h=>exact atd h (dw.app g b)
 |abn k j=>
  refine .dead ?_ _;show ld P (invoke (.fn (.method "") (Array.replicate k .nilIface)) (#[.nilIface]++args));have e:(#[Value.nilIface]++args)[0]?=some .nilIface:=by
   rw[rU (by show 0<1;omega)];rfl
  unfold invoke;simp only[e];show ld P (runtimePanic .nilDeref);exact eE _
 |_=>exact .halt _ _
theorem aw9(c:Call)(t:TypeId){e : Operand->Value}(l:ady ρ e e')(j:mB P gA gL (.call c)=true):az P P' iC ρ (do let d<-resolve e c t;invoke d.target d.args) (do let d<-resolve e' c t;invoke d.target d.args):=by
 unfold mB at j;simp only[ga] at j;obtain⟨g,k⟩:=j;obtain⟨a,args,n⟩:=c;simp only[Op.operands,Call.operands,pv,tH,ga] at g;have i:=l.map g.2;cases a with
 |builtin b=>
  exact an5 T b n t _ k i
 |invoke r m=>cases k
 |value f=>exact amG T X (l f (by simpa using g.1)) i
theorem aCr{o' : Oper}(a:aak gA gL o'.op=true)(c:o={o' with type:=gB}){e : Operand->Value}(f:ady ρ e e'):az P P' iC ρ (execOp e o) (execOp e' o'):=by
 subst c;obtain⟨dst,op,type,d,after,b⟩:=o';dsimp only at a;unfold aak at a;split at a
 .exact bE (abA _ gB type T.asY (f.map a))
 .cases a
theorem aqc(w:mB P gA gL o.op=true){e : Operand->Value}(p:ady ρ e e'):az P P' iC ρ (execOp e o) (execOp e' o):=by
 obtain⟨dst,op,v,J,after,D⟩:=o;dsimp only at w;have A:=w;unfold mB at w;simp only[ga] at w;obtain⟨j,u⟩:=w;cases op with
 |move x=>exact ak (.value (p x (by simpa[Op.operands] using j)))
 |assign x=>exact ak (.value (p x (by simpa[Op.operands] using j)))
 |pick c a b=>
  simp[Op.operands] at j;refine aj (ad6 (p c j.1)) λH q K z e=> ?_;obtain rfl:q=K:=e;cases q with
  |true=>exact ak (.value ((p a j.2.1).mono z))
  |false=>exact ak (.value ((p b j.2.2).mono z))
 |alloc t=>exact bE (as1 T t)
 |box t x=>exact bE (ay1 t (p x (by simpa[Op.operands] using j)))
 |build t F=>
  refine bE (as5 T t ?_);rw[qF,qF];exact p.parts (by simpa[Op.operands] using j)
 |buildSlice t n F=>
  refine bE (agC T t n ?_);rw[qF,qF];exact p.parts (by simpa[Op.operands] using j)
 |load t a=>exact bE (apI T t (p a (by simpa[Op.operands] using j)))
 |store t a x=>
  simp[Op.operands] at j;exact agG (anF T t (p a j.1) (p x j.2))
 |nilCheck x=>exact akx T x _ _ _ _ _ (p x (by simpa[Op.operands] using j))
 |binOp op t x y L=>
  simp[Op.operands] at j;refine bE (aj (an3 T op t x y (p x j.1) (p y j.2)) λH _ _ z _=>atc T op t ((p x j.1).mono z) ((p y j.2).mono z))
 |unOp op t x=>exact bE (as7 op (p x (by simpa[Op.operands] using j)))
 |convert s d x=>exact bE (an4 T s d u (p x (by simpa[Op.operands] using j)))
 |makeInterface t x=>exact bE (ads T t (p x (by simpa[Op.operands] using j)))
 |makeFunc f a c=>
  simp only[Op.operands,pv,tH,ga] at j;exact bE (aj5 (.same f u) (p.map j.1) (p.map j.2))
 |makeMap t r=>cases r with
  |none=>exact bE (aj6 t)
  |some x=>cases u
 |makeSlice t l c=>
  simp[Op.operands] at j;exact bE (ahX T t (p l j.1) (p c j.2))
 |slice t x l h m=>
  simp only[Op.operands,pv,tH,ga] at j;obtain⟨⟨⟨C,B⟩,E⟩,G⟩:=j;have op:∀{l:Option Operand},l.toArray.toList.all (bK gA gL)=true->OVR ρ (l.map e) (l.map e'):=λ{l} h=>p.opt λx I=>by subst I;simpa using h
  exact bE (anJ T t (p x (by simpa using C)) (op B) (op E) (op G))
 |fieldAddr t x f=>
  refine bE (anH T t f (λM g i C B E=> ?_) (p x (by simpa[Op.operands] using j)));unfold amp at u;simpa[C,B,E] using u
 |field t x f=>exact bE (as2 T t (p x (by simpa[Op.operands] using j)) f)
 |indexAddr t x i=>
  simp[Op.operands] at j;exact bE (anI T t (p x j.1) (p i j.2))
 |index t x i=>
  simp[Op.operands] at j;exact bE (as4 T t (p x j.1) (p i j.2))
 |lookup t x i ok=>
  simp[Op.operands] at j;exact bE (apN T t (aaN u) (p x j.1) (p i j.2) ok)
 |mapUpdate t m k x=>
  simp[Op.operands] at j;exact agG (ac1 T t (aaN u) (p m j.1) (p k j.2.1) (p x j.2.2))
 |insert t m k x=>
  simp[Op.operands] at j;exact agG (ac1 T t (aaN u) (p m j.1) (p k j.2.1) (p x j.2.2))
 |range t x=>exact bE (as9 T t (p x (by simpa[Op.operands] using j)))
 |next x b=>exact bE (awY (p x (by simpa[Op.operands] using j)) b v)
 |extract x i=>exact bE (anG (p x (by simpa[Op.operands] using j)) i)
 |call c=>exact aw9 T X c v p A
 |panic x=>exact bE (as8 _ _)
 |_=>cases u
end
section
variable (P:Program)
inductive ItR (ρ:Ren):Item->Item->Prop
 |code (c:Code):ItR ρ (.code (gP c)) (.code c)
 |inBlock (id:Nat):ItR ρ (.inBlock id) (.inBlock id)
 |inLoop (c:Code):ItR ρ (.inLoop (gP c)) (.inLoop c)
 |inScope (c:Code):ItR ρ (.inScope (gP c)) (.inScope c)
 |inRegion {ops ops':Array Oper} (h:apF P ops ops') (l:List Nat):ItR ρ (.inRegion ops l) (.inRegion ops' l)
 |inRangeFunc {l l':Nat} (h:ρ.r l l'):ItR ρ (.inRangeFunc l) (.inRangeFunc l')
 |endRangeFunc {l l':Nat} (h:ρ.r l l'):ItR ρ (.endRangeFunc l) (.endRangeFunc l')
 |beginRound:ItR ρ .beginRound .beginRound
inductive jL (ρ:Ren):List Item->List Item->Prop
 |nil:jL ρ [] []
 |cons {x x':Item} {l l':List Item} (h:ItR P ρ x x') (hl:jL ρ l l'):jL ρ (x::l) (x'::l')
end
inductive CDs (ρ:Ren):List Deferred->List Deferred->Prop
 |nil:CDs ρ [] []
 |cons {b b':Nat} {l l':List Deferred} (h:ρ.r b b') (hl:CDs ρ l l'):CDs ρ (⟨.collected b,#[]⟩::l) (⟨.collected b',#[]⟩::l')
structure FrR (P:Program) (ρ:Ren) (fr cI:Frame):Prop where
 fn:fr.fn=cI.fn
 tmps:dw ρ fr.tmps cI.tmps
 todo:jL P ρ fr.todo cI.todo
 defers:CDs ρ fr.defers cI.defers
 mode:(fr.mode=.run/\cI.mode=.run)\/(fr.mode=.returning/\cI.mode=.returning)
 kind:fr.kind=.normal/\cI.kind=.normal
 round:NR ρ fr.roundOf cI.roundOf
inductive iR (P:Program) (ρ:Ren):List Frame->List Frame->Prop
 |one {fr cI:Frame} (h:FrR P ρ fr cI) (h0:fr.roundOf=none):iR P ρ [fr] [cI]
 |cons {fr cI:Frame} {l l':List Frame} (h:FrR P ρ fr cI) (hl:iR P ρ l l'):iR P ρ (fr::l) (cI::l')
section
variable {P:Program} {ρ σ:Ren}
def ItR.mono(h:ρ.Le σ){x a:Item}:ItR P ρ x a->ItR P σ x a
 |.code c=>.code c
 |.inBlock id=>.inBlock id
 |.inLoop c=>.inLoop c
 |.inScope c=>.inScope c
 |.inRegion h l=>.inRegion h l
 |.inRangeFunc x=>.inRangeFunc (h.r x)
 |.endRangeFunc x=>.endRangeFunc (h.r x)
 |.beginRound=>.beginRound
def jL.mono(h:ρ.Le σ):∀{x a:List Item},jL P ρ x a->jL P σ x a
 |_,_,.nil=>.nil
 |_,_,.cons x y=>.cons (x.mono h) (y.mono h)
def CDs.mono(h:ρ.Le σ):∀{x a:List Deferred},CDs ρ x a->CDs σ x a
 |_,_,.nil=>.nil
 |_,_,.cons x y=>.cons (h.r x) (y.mono h)
def FrR.mono(h:ρ.Le σ)(x:FrR P ρ fr R):FrR P σ fr R:=
 ⟨x.fn,bR.mono h x.tmps,x.todo.mono h,x.defers.mono h,x.mode,x.kind,x.round.mono h⟩
def iR.mono(h:ρ.Le σ):∀{x a:List Frame},iR P ρ x a->iR P σ x a
 |_,_,.one x y=>.one (x.mono h) y
 |_,_,.cons x y=>.cons (x.mono h) (y.mono h)
def VR.undef:VR ρ undef undef:=.tuple .nil
def apF.dst{a : Array Oper}(h:apF P N a)(i:Nat):(N[i]?).bind (·.dst)=(a[i]?).bind (·.dst):=by
 obtain⟨f,h⟩:=h;cases e:N[i]? with
 |none=>
  have:a[i]?=none:=by
   rw[qm] at e ⊢;omega
  rw[this]
 |some o=>
  have d:=(dl.1 e).1;obtain⟨b,c⟩:∃b,a[i]?=some b:=⟨_,ge (by omega)⟩;rw[c];rcases h i o b e c with⟨rfl,_⟩|⟨_,rfl⟩<;>rfl
def FrR.finish(h:FrR P ρ fr R){v' : Value}(z:VR ρ v v'):FrR P ρ (fr.finish v) (R.finish v'):=by
 obtain⟨f,t,y,d,m,k,r⟩:=fr;obtain⟨D,s,F,C,E,B,A⟩:=R;obtain⟨u,a,w,b,e,g,c⟩:=h;dsimp only at u a w b e g c;subst u;cases w with
 |nil=>exact⟨rfl,a,.nil,b,e,g,c⟩
 |cons x j=>
  cases x with
  |inRegion p l=>
   cases l with
   |nil=>exact⟨rfl,a,.cons (.inRegion p []) j,b,e,g,c⟩
   |cons i o=>
    refine⟨rfl, ?_,.cons (.inRegion p o) j,b,e,g,c⟩;show dw ρ (match _ with|some d=>t.setIfInBounds d v|none=>t) (match _ with|some d=>s.setIfInBounds d v'|none=>s);rw[p.dst i];split
    .exact a.set _ z
    .exact a
  |inRangeFunc q=>exact⟨rfl,a,.cons (.endRangeFunc q) j,b,e,g,c⟩
  |beginRound=>exact⟨rfl,a,j,b,e,g,c⟩
  |code n=>exact⟨rfl,a,.cons (.code n) j,b,e,g,c⟩
  |inBlock id=>exact⟨rfl,a,.cons (.inBlock id) j,b,e,g,c⟩
  |inLoop n=>exact⟨rfl,a,.cons (.inLoop n) j,b,e,g,c⟩
  |inScope n=>exact⟨rfl,a,.cons (.inScope n) j,b,e,g,c⟩
  |endRangeFunc n=>exact⟨rfl,a,.cons (.endRangeFunc n) j,b,e,g,c⟩
def jL.exit(id:Nat):∀{k a:List Item},jL P ρ k a->(exitTo id k=none/\exitTo id a=none)\/∃l c,exitTo id k=some l/\exitTo id a=some c/\jL P ρ l c
 |_,_,.nil=>.inl ⟨rfl,rfl⟩
 |_,_,.cons x y=>by
  have b:=y.exit id;cases x with
  |inBlock i=>
   unfold exitTo;by_cases e:(i ==id)=true
   .rw[du e,du e];exact .inr ⟨_,_,rfl,rfl,y⟩
   .rw[da e,da e];exact b
  |code|inLoop|inScope|inRegion|inRangeFunc|endRangeFunc|beginRound=>simpa[exitTo] using b
end
def kV(w:World)(ds:List Deferred):Prop:=∀d∈ds,∃b,d=⟨.collected b,#[]⟩/\∀x l,w.heap[b]?≠some (.deferred (some (x::l)))
inductive ng (base:List Frame):GStep->Prop
 |ended (o:Outcome) (w:World) (es:Array Event):ng base (.ended o w es)
 |stop {g:Goroutine} {w:World} {es:Array Event} (h:g.status=.blocked\/g.status=.waiting):ng base (.go g w es)
 |raised {fr:Frame} {cs:List Frame} {w:World} {es:Array Event} {ch:List PanicEntry} (hm:fr.mode=.panicking ch) (hd:∀f∈fr::cs,kV w f.defers):ng base (.go {frame:=fr,callers:=cs++base,status:=.running,dying:=none} w es)
 |dying {fr:Frame} {w:World} {es:Array Event} {d:Dying} {f:Fatal} (hf:d.fatal=some f) (hc:d.calling=false):ng base (.go {frame:=fr,callers:=[],status:=.running,dying:=some d} w es)
def ng.after{base:List Frame}{s:GStep}(es:Array Event)(h:ng base s):ng base (s.after es):=by
 cases h with
 |ended o w e=>exact .ended o w _
 |stop h=>exact .stop h
 |raised a hd=>exact .raised a hd
 |dying b c=>exact .dying b c
def Gl:List Frame->List Frame->Goroutine
 |[],base=>{(default:Goroutine) with callers:=base}
 |fr::cs,base=>⟨fr,cs++base,.running,none,none⟩
def GoR(P P':Program)(ρ:Ren)(l l':List Frame):Prop:=
 iR P ρ l l'\/∃f a b m c,gH f=true/\dw ρ a b/\iR P ρ m c/\l=Frame.enter P f a .normal::m/\l'=Frame.enter P' f b .normal::c
def lW(P P':Program)(ρ:Ren)(w w':World)(s:List Frame->World->GStep)(s':List Frame->GStep):Prop:=
 ∃(a:Tape) (D:Nat),(∀base t,Agr w D a t->ng base (s base (w.dR t)))\/
  ∃c g e i b f d,(∀base t,Agr w D a t->s base (w.dR t)=.go (Gl g base) (e.dR t) i)/\e.drawn=w.drawn+D/\ρ.Le c/\(∀base,s' base=.go (Gl b base) f d)/\WR c e f/\Kept ρ c w w' e f/\EvW w c i d/\GoR P P' c g b
section
variable {P P':Program} {ρ:Ren} {w w':World}
def lW.still(a:WR ρ w w')(h:∀base w,s base w=.go (Gl l base) w #[])(b:∀base,s' base=.go (Gl l' base) w' #[])(c:GoR P P' ρ l l'):lW P P' ρ w w' s s':=
 ⟨w.tape,0,.inr ⟨ρ,l,w,#[],l',w',#[],λ_ t _=>h _ _,rfl,Ren.Le.refl _,b,a,Kept.refl _ _ _,.nil _ _,c⟩⟩
def lW.bad(h:∀base w,ng base (s base w)):lW P P' ρ w w' s s':=⟨w.tape,0,.inl λ_ _ _=>h _ _⟩
def CDs.marks{b : List Deferred}(h:CDs ρ J b)(c:WR ρ w w'){t:Tape}(i:fP (w.dR t) K):kV K J:=by
 induction h with
 |nil=>intro d hd;cases hd
 |cons g m j=>
  intro d hd;rcases pa.1 hd with rfl|hd
  .refine⟨_,rfl,λx l e=> ?_⟩;have:=i _ _ _ e;obtain⟨o,p,k,n,f⟩:=c.obj g;have a:(w.dR t).heap[_]?=some o:=k;rw[this] at a;cases a;cases f
  .exact j d hd
def axa(T:Twin P P')(fn:FuncId)(h:mC ρ es.toList O.toList):mC ρ (seen P fn es).toList (seen P' fn O).toList:=by
 have u:∀f:Nat,(P'.funcs[f]?).any (·.norace)=(P.funcs[f]?).any (·.norace):=λf=>by
  cases o:P.funcs[f]? with
  |none=>
   have:P'.funcs[f]?=none:=by
    rw[qm] at o ⊢;rw[T.ahU];exact o
   rw[this]
  |some fn=>
   obtain⟨C,v,s⟩:=T.func f fn o;rw[v];simp[s.norace]
 unfold seen;dsimp only;rw[<-sP,<-sP];simp only[u];generalize t:(λf:Nat=>(P.funcs[f]?).any (·.norace))=Q;have m:∀f:Nat,(P.funcs[f]?).any (·.norace)=Q f:=λf=>by rw[<-t]
 simp only[m];have n:∀{l p:List Event},mC ρ l p->∀(q:Bool) (k b:Array Event),mC ρ k.toList b.toList->
   mC ρ (l.foldl (λx e=>match e.loc with
    |.mark (.extern f)=>(Q f,x.2)
    |_=>(x.1,if x.1&&!e.sync then x.2 else x.2.push e)) (q,k)).2.toList
   (p.foldl (λx e=>match e.loc with
    |.mark (.extern f)=>(Q f,x.2)
    |_=>(x.1,if x.1&&!e.sync then x.2 else x.2.push e)) (q,b)).2.toList:=by
  intro l p h
  induction h with
  |nil=>intro q k b d;exact d
  |cons r A j=>
   intro q k b d;rw[uT,uT];have push:∀e i:Event,EvR ρ e i->mC ρ (if(q&&!e.sync)=true then k else k.push e).toList (if(q&&!i.sync)=true then b else b.push i).toList:=λe i h=>by
    have w:e.sync=i.sync:=by cases h;rfl
    rw[w];split
    .exact d
    .rw[rS,rS];exact d.app (.cons h .nil)
   have a:=r;cases r with
   |mk g wr z=>
    cases g with
    |cell D=>exact j _ _ _ (push _ _ a)
    |obj B=>exact j _ _ _ (push _ _ a)
    |mark y=>
     cases y with
     |extern f=>exact j _ _ _ d
     |_=>exact j _ _ _ (push _ _ a)
 exact n h _ _ _ .nil
def aqd(P:Program)(fn:FuncId)(es:Array Event):∀e∈(seen P fn es).toList,e∈es.toList:=by
 unfold seen;dsimp only;rw[<-sP];have d:∀(l:List Event) (q:Bool) (k:Array Event) (S:List Event),(∀e∈k.toList,e∈S)->(∀e∈l,e∈S)->
   ∀e∈(l.foldl (λx e=>match e.loc with
    |.mark (.extern f)=>((P.funcs[f]?).any (·.norace),x.2)
    |_=>(x.1,if x.1&&!e.sync then x.2 else x.2.push e)) (q,k)).2.toList,e∈S:=by
  intro l
  induction l with
  |nil=>intro q k S c _;exact c
  |cons x l i=>
   intro q k S c g;rw[uT];have push:∀e∈(if(q&&!x.sync)=true then k else k.push x).toList,e∈S:=by
    split
    .exact c
    .intro e a;rw[rS,oE] at a;rcases a with a|a
     .exact c e a
     .simp at a;subst a;exact g _ (qB ..)
   have b:∀e∈l,e∈S:=λe a=>g e (rb _ a);split
   .exact i _ k S c b
   .exact i _ _ S push b
 exact d es.toList _ _ es.toList (λe a=>by cases a) λe a=>a
def aaO(T:Twin P P')(fn:FuncId)(h:EvW w ρ es O):EvW w ρ (seen P fn es) (seen P' fn O):=
 ⟨axa T fn h.ev,λb c e a=>h.nw b c e (aqd P fn es e a)⟩
end
section
variable {P P':Program} {ρ σ:Ren} {base:List Frame} {w w':World}
def iR.put(g:ρ.Le σ){a b : Frame}(h:iR P ρ (fr::cs) (R::V))(c:FrR P σ a b)(e:a.roundOf=fr.roundOf):iR P σ (a::cs) (b::V):=by
 cases h with
 |one h f=>exact .one c (e.trans f)
 |cons h d=>exact .cons c (d.mono g)
def iR.head(h:iR P ρ (fr::cs) (R::V)):FrR P ρ fr R:=by
 cases h with
 |one h a=>exact h
 |cons h b=>exact h
def iR.marks(h:iR P ρ l l')(b:WR ρ w w'){t:Tape}(c:fP (w.dR t) K):∀f∈l,kV K f.defers:=by
 induction h with
 |one h g=>intro f a;simp at a;subst a;exact h.defers.marks b c
 |cons h e d=>
  intro f a;rcases pa.1 a with rfl|a
  .exact h.defers.marks b c
  .exact d f a
def GoR.of(h:iR P ρ (fr::cs) (R::V)):GoR P P' ρ (fr::cs) (R::V):=.inl h
def FrR.at(h:FrR P ρ fr R)(a:jL P ρ todo I):FrR P ρ {fr with todo} {R with todo:=I}:=
 ⟨h.fn,h.tmps,a,h.defers,h.mode,h.kind,h.round⟩
def aaP{c:List PanicEntry}(d:∀f∈fr::cs,kV K f.defers):ng base (.go ⟨fr.raise c,cs++base,.running,none,none⟩ K #[]):=by
 have:∃a,(fr.raise c).mode=.panicking a:=by unfold Frame.raise;split<;>exact⟨_,rfl⟩
 obtain⟨a,e⟩:=this;refine .raised e λf b=> ?_;rcases pa.1 b with rfl|b
 .have:(fr.raise c).defers=fr.defers:=by unfold Frame.raise;split<;>rfl
  rw[this];exact d fr (by simp)
 .exact d f (by simp[b])
variable (T:Twin P P')
include T
theorem an6(g:Nat)(w:World):ng base (early P fr cs none g w):=by
 unfold early;simp only[T.nC.1,T.nC.2];exact .ended _ _ _
theorem agN(m:String)(w:World):ng base (endFatal P fr cs none m w):=by
 unfold endFatal;dsimp only;split
 .exact .dying rfl rfl
 .exact .ended _ _ _
 .exact .ended _ _ _
omit T in
theorem gz(fr:Frame)(v:Value):(fr.finish v).roundOf=fr.roundOf:=by
 unfold Frame.finish;split<;>first|rfl|(split<;>rfl)
theorem afT(w:String):gP (.refuse w)=.refuse w:=by rw[T.pc];rfl
theorem abL(w:String):jL P ρ [.code (.refuse w)] [.code (.refuse w)]:=by
 have h:jL P ρ [.code (gP (.refuse w))] [.code (.refuse w)]:=.cons (.code _) .nil;rw[afT T] at h;exact h
omit T in
theorem atE{l l':Nat}(a:ρ.r l l')(f:FuncId)(b:dw ρ t W)(c d:Code):FrR P ρ (Frame.round l f t (gP c) (gP d) .normal) (Frame.round l' f W c d .normal):=
 ⟨rfl,b,.cons (.code c) (.cons .beginRound (.cons (.code d) .nil)),.nil,.inl ⟨rfl,rfl⟩,⟨rfl,rfl⟩,.some a⟩
theorem agL(q:gH f=false){a : Array Value}(p:dw ρ a W):FrR P ρ (Frame.enter P f a .normal) (Frame.enter P' f W .normal):=by
 have l:∀n,dw ρ (a++Array.replicate (n-a.size) undef) (W++Array.replicate (n-W.size) undef):=λn=>by
  rw[p.size];exact dw.app p (bR.kL λv o=>by simp at o;rw[o.2];exact VR.undef)
 cases b:P.funcs[f]? with
 |none=>
  have k:P'.funcs[f]?=none:=by
   rw[qm] at b ⊢;rw[T.ahU];exact b
  unfold Frame.enter;rw[b,k];exact⟨rfl,l _,abL T _,.nil,.inl ⟨rfl,rfl⟩,⟨rfl,rfl⟩,.none⟩
 |some fn=>
  obtain⟨m,j,i⟩:=T.func f fn b;unfold Frame.enter;rw[b,j];refine⟨rfl, ?_, ?_,.nil,.inl ⟨rfl,rfl⟩,⟨rfl,rfl⟩,.none⟩
  .show dw ρ (a++Array.replicate (fn.ntmps-a.size) undef) (W++Array.replicate (m.ntmps-W.size) undef);rw[i.ntmps];exact l _
  .show jL P ρ [.code (fn.body.getD _)] [.code (m.body.getD _)];cases d:fn.body with
   |none=>
    obtain rfl:=i.none d;rw[d];exact abL T _
   |some c=>
    obtain⟨r,g,e⟩:=i.some c d;rw[g,e q];exact .cons (.code _) .nil
theorem agO{s s':Sem Next}(B:iR P ρ (fr::cs) (R::V))(L:WR ρ w w')(hs:az P P' iC ρ s s') :
  lW P P' ρ w w' (λbase w=>stepG.apply P true fr (cs++base) none s w) (λbase=>stepG.apply P' true R (V++base) none s' w'):=by
 have q:=B.head;have n:(fr.kind ==CallKind.early)=false:=by rw[q.kind.1];rfl
 have k:(R.kind ==CallKind.early)=false:=by rw[q.kind.2];rfl
 have F:(match fr.todo with|.call _ true _ _::_=>CallKind.wrapped|_=>CallKind.normal)=.normal:=by
  have e:=q.todo;revert e;generalize fr.todo=a;generalize R.todo=b;intro e;cases e with
  |nil=>rfl
  |cons x _=>cases x<;>rfl
 have G:(match R.todo with|.call _ true _ _::_=>CallKind.wrapped|_=>CallKind.normal)=.normal:=by
  have e:=q.todo;revert e;generalize fr.todo=a;generalize R.todo=b;intro e;cases e with
  |nil=>rfl
  |cons x _=>cases x<;>rfl
 obtain⟨g,D,H⟩:=hs.run w w' #[] #[] L;rcases H with H|⟨σ,a,j,U,r,I,p,h1,S,z,W,h5,h6,h7,Y⟩
 .refine⟨g,D,.inl λbase t e=> ?_⟩;obtain⟨h,j,nA,hr,hk⟩:=H t e;have Q:=B.marks L hk;unfold stepG.apply;simp only[hr,pu];refine ng.after _ ?_;cases h with
  |panic v=>exact aaP Q
  |goexit=>exact aaP Q
  |blocked=>exact .stop (.inl rfl)
  |waiting=>exact .stop (.inr rfl)
  |exit c=>exact .ended _ _ _
  |fatal m=>exact agN T m j
  |throw m=>exact .dying rfl rfl
  |unsupported u=>
   cases u<;>first|exact .ended _ _ _|exact an6 T _ j
  |stuck s=>exact .ended _ _ _
 .refine⟨g,D,.inr ?_⟩;have o:=B.mono z;have he:EvW w σ (seen P fr.fn I) (seen P' R.fn p):=by rw[q.fn];exact aaO T _ Y
  have E:∀t,Agr w D g t->s.runT P (w.dR t) #[]=(.ok a (j.dR t),I):=λt e=>by rw[h1 t e];simp
  have C:s'.runT P' w' #[]=(.ok U r,p):=by rw[W];simp
  have fin:∀y i,(∀base t,Agr w D g t->stepG.apply P true fr (cs++base) none s (w.dR t)=.go (Gl y base) (j.dR t) (seen P fr.fn I))->(∀base,stepG.apply P' true R (V++base) none s' w'=.go (Gl i base) r (seen P' R.fn p))->GoR P P' σ y i->
    ∃σ y j O i r A,(∀base t,Agr w D g t->stepG.apply P true fr (cs++base) none s (w.dR t)=.go (Gl y base) (j.dR t) O)/\j.drawn=w.drawn+D/\ρ.Le σ/\(∀base,stepG.apply P' true R (V++base) none s' w'=.go (Gl i base) r A)/\WR σ j r/\Kept ρ σ w w' j r/\EvW w σ O A/\GoR P P' σ y i:=
   λy i q1 q2 X=>⟨σ,y,j,_,i,r,_,q1,S,z,q2,h6,h7,he,X⟩
  cases h5 with
  |@value v v' hv=>exact fin (fr.finish v::cs) (R.finish v'::V) (λbase t e=>by unfold stepG.apply;simp only[E t e,pu,n];simp[GStep.after,Gl]) (λbase=>by unfold stepG.apply;simp only[C,pu,k];simp[GStep.after,Gl]) (GoR.of (B.put z ((q.mono z).finish hv) (gz _ _)))
  |skip=>exact fin (fr.finish undef::cs) (R.finish undef::V) (λbase t e=>by unfold stepG.apply;simp only[E t e,pu,n];simp[GStep.after,Gl]) (λbase=>by unfold stepG.apply;simp only[C,pu,k];simp[GStep.after,Gl]) (GoR.of (B.put z ((q.mono z).finish VR.undef) (gz _ _)))
  |@enter f a0 K M=>
   refine fin (Frame.enter P f a0 .normal::fr::cs) (Frame.enter P' f K .normal::R::V) (λbase t e=>by unfold stepG.apply;simp only[E t e,pu,n];simp[GStep.after,Gl];exact jp (Frame.enter P f _) F) (λbase=>by unfold stepG.apply;simp only[C,pu,k];simp[GStep.after,Gl];exact jp (Frame.enter P' f _) G) ?_;cases N:gH f with
   |true=>exact .inr ⟨f,_,_,_,_,N,M,o,rfl,rfl⟩
   |false=>exact .inl (.cons (agL T N M) o)
  |@round l l' Z f tm J e c d=>
   exact fin (Frame.round l f tm (gP c) (gP d) .normal::fr::cs) (Frame.round l' f J c d .normal::R::V) (λbase t e=>by unfold stepG.apply;simp only[E t e,pu,n];simp[GStep.after,Gl]) (λbase=>by unfold stepG.apply;simp only[C,pu,k];simp[GStep.after,Gl])
    (.inl (.cons (atE Z f e c d) o))
end
section
variable {P P':Program} {ρ σ:Ren} {w w':World}
def GlR(ρ:Ren):Prop:=∀g∈gL,ρ.r g g
def GlR.mono(h:ρ.Le σ)(x:GlR ρ):GlR σ:=λg a=>h.r (x g a)
def aky{l l':Nat}(h:ρ.r l l'){j a:Option Code}(b:j=a.map gP):az P P' VR ρ (Instr.endRound l j) (Instr.endRound l' a):=by
 unfold Instr.endRound;refine aj (mV h) λσ x q f c=> ?_;have g:j.isNone=a.isNone:=by subst b;cases a<;>rfl
 rw[g];cases c with
 |loop p o e k n i m d=>
  exact aj (iU (f.r h) (.loop rfl b e k n i m d)) λ_ _ _ _ _=>ak (.bool _)
def an7{l l':Nat}(h:ρ.r l l'):az P P' (λ_ q m=>q=m.map gP) ρ (Instr.endLoop l) (Instr.endLoop l'):=by
 unfold Instr.endLoop;refine aj (mV h) λσ x n e b=> ?_;cases b with
 |loop i a d g k f j c=>
  rw[i];refine aV (λ_=>dU _) λ_=> ?_;exact aj (iU (e.r h) (.loop rfl a d g k f j c)) λ_ _ _ _ _=>ak a
def agP(h:NR ρ r M):az P P' iC ρ (do r.elim (stuck "beginRound: no round") Instr.beginRound;pure .skip) (do M.elim (stuck "beginRound: no round") Instr.beginRound;pure .skip):=by
 cases h with
 |none=>exact .halt _ _
 |some h=>
  refine agG ?_;show az P P' jC ρ (Instr.beginRound _) (Instr.beginRound _);unfold Instr.beginRound;refine aj (mV h) λσ x m e a=> ?_;cases a with
  |loop i c d g k f j b=>
   refine aj (iU (e.r h) (.loop rfl c d g k f j b)) λl _ _ _ _=> ?_;rw[i];split
   .exact ak rfl
   .exact dU _
   .exact dU _
   .exact dU _
def aaA(e:Operand->Value)(a:Operand)(l:Nat)(h:∀v,e (.const v)=v):resolve e ⟨.value a,#[.const (.func (.yield l) #[] #[])],#[]⟩ 0=Deferred.ofValue (e a) #[.func (.yield l) #[] #[]]:=by
 unfold resolve;simp[h]
def EnR(ρ:Ren)(x x':Nat×List Deferred):Prop:=ρ.r x.1 x'.1/\CDs ρ x.2 x'.2
def aiq(f:FuncId)(n:dw ρ t W)(d:Array Tmp)(a b:Code)(h:NR ρ r M):az P P' EnR ρ (Instr.enterLoop f t d (gP a) (gP b) r) (Instr.enterLoop f W d a b M):=by
 unfold Instr.enterLoop;have c:∀(σ:Ren) (q e:Nat×List Deferred),ρ.Le σ->EnR σ q e->az P P' EnR σ (do
   let l<-newObj (.loop ⟨.ready,none,f,t,d,gP a,gP b,q.1⟩)
   pure (l,q.2)) (do
   let l<-newObj (.loop ⟨.ready,none,f,W,d,a,b,e.1⟩)
   pure (l,e.2)):=λσ q e g k=>by
  refine aj (afF (show OR σ (.loop ⟨.ready,none,f,t,d,gP a,gP b,q.1⟩) (.loop ⟨.ready,none,f,W,d,a,b,e.1⟩) from .loop rfl rfl rfl (bR.mono g n) rfl rfl rfl k.1)) λv y o j u=> ?_;exact ak (A:=EnR) (show EnR v (y,q.2) (o,e.2) from⟨u,k.2.mono j⟩)
 cases h with
 |none=>
  exact aj (afF .deferred) λσ x i g m=>c σ (x,[⟨.collected x,#[]⟩]) (i,[⟨.collected i,#[]⟩]) g ⟨m,.cons m .nil⟩
 |some h=>
  refine aj (mV h) λσ x i g p=> ?_;cases p with
  |loop B w E z D F C s=>exact c σ (_,[]) (_,[]) g ⟨s,.nil⟩
def FrR.env(j:GlR ρ)(h:FrR P ρ fr R):ady ρ fr.eval R.eval:=λx a=>by
 cases x with
 |tmp t=>
  show VR ρ (fr.tmps.getD t undef) (R.tmps.getD t undef);have l:=bR.size h.tmps;rw[iS,iS];cases e:fr.tmps[t]? with
  |none=>
   have:R.tmps[t]?=none:=by
    rw[qm] at e ⊢;omega
   rw[this];exact VR.undef
  |some v=>
   obtain⟨k,b,d⟩:=bR.get h.tmps (i:=t) (v:=v) (by rw[ef];exact e);rw[ef] at b;rw[b];exact d
 |const v=>exact agF ρ 5 v a
 |global g=>exact .pointer (.some (.mk (j g (by simpa[bK] using a)) 0 none))
 |func f=>exact .func (.same (.func f) a) .nil .nil
def GoR.jM(h:∀base w,∃o a b,s base w=.ended o a b):lW P P' ρ w w' s s':=lW.bad λbase w=>by
 obtain⟨o,a,b,e⟩:=h base w;rw[e];exact .ended _ _ _
variable (T:Twin P P') (X:ahZ P P')
include T
theorem axb(a b:Code):gP (.seq a b)=.seq (gP a) (gP b):=by rw[T.pc];rfl
theorem aqe(id:Nat)(a:Code):gP (.block id a)=.block id (gP a):=by rw[T.pc];rfl
theorem atG(a:Code):gP (.loop a)=.loop (gP a):=by rw[T.pc];rfl
theorem aqf(a:Code):gP (.scope a)=.scope (gP a):=by rw[T.pc];rfl
theorem atH:gP .skip=.skip:=by rw[T.pc];rfl
theorem aqg:gP .ret=.ret:=by rw[T.pc];rfl
theorem aqh(l:Nat):gP (.label l)=.label l:=by rw[T.pc];rfl
theorem amH(l:Nat):gP (.exit l)=.exit l:=by rw[T.pc];rfl
theorem atI(l:Nat):gP (.goto l)=.refuse "" :=by rw[T.pc];rfl
theorem atJ(c:Operand)(a b:Code):gP (.cond c a b)=if bK gA gL c=true then .cond c (gP a) (gP b) else .refuse "" :=by rw[T.pc];rfl
theorem agQ(f:Operand)(c:Array Tmp)(a b:Code):gP (.rangeFunc f c a b)=if bK gA gL f=true then .rangeFunc f c (gP a) (gP b) else .refuse "" :=by rw[T.pc];rfl
theorem an8{g:Oper->Oper}(d:∀o,(g o).after=o.after)(c:Bool)(a:Array Oper)(t:Nat):Region.schedule c (a.map g) t=Region.schedule c a t:=by
 have k:∀(m:Region.Mode) (b t:Nat) (l:Array Bool) (acc:List Nat),Region.linearise.go m (a.map g) b t l acc=Region.linearise.go m a b t l acc:=by
  intro m b
  induction b with
  |zero=>intro t l acc;rfl
  |succ n j=>
   intro t l acc;unfold Region.linearise.go;have e:∀i,((a.map g)[i]?).map (λo:Oper=>o.after.all λe=>!Region.binds m e||l.getD e.on false)=(a[i]?).map (λo:Oper=>o.after.all λe=>!Region.binds m e||l.getD e.on false):=λi=>by
    rw[ru];cases a[i]? with
    |none=>rfl
    |some o=>simp only[qr,d]
   simp only[tQ,e,j]
 have f:Region.departs (a.map g)=Region.departs a:=by
  unfold Region.departs;rw[Array.any_map]
  congr 1
  funext o
  simp only[Function.comp,d]
 unfold Region.schedule Region.linearise;rw[f];simp only[k,tQ]
theorem an9(id:Nat)(a:Array Oper)(c:Bool):(gP (.region id a c)=.region id a c/\apF P a a)\/(∃d,gP (.region id a c)=.region id d c/\apF P d a/\∀b t,Region.schedule b d t=Region.schedule b a t)\/gP (.region id a c)=.refuse "" :=by
 rw[T.pc];unfold bP;by_cases m:(a.toList.all λo=>mB P gA gL o.op)=true
 .rw[du m];refine .inl ⟨rfl,rfl,λi o l f e=> ?_⟩;rw[f] at e;obtain rfl:=dq e;refine .inl ⟨rfl,lw.1 m o ?_⟩;exact sq.2 (qH f)
 .rw[da m];by_cases k:(a.toList.all λo=>mB P gA gL o.op||aak gA gL o.op)=true
  .rw[du k];refine .inr (.inl ⟨_,rfl,⟨by simp,λi o l f e=> ?_⟩,λb t=>an8 T (g:=aal gA gL gB) (λo=>by unfold aal;split<;>rfl) b a t⟩);rw[ru,e] at f;obtain rfl:=dq f;have n:=lw.1 k l (sq.2 (qH e));unfold aal;by_cases j:aak gA gL l.op=true
   .rw[du j];exact .inr ⟨j,rfl⟩
   .rw[da j];simp only[j,vC] at n;exact .inl ⟨rfl,n⟩
  .rw[da k];exact .inr (.inr rfl)
theorem abM  {d : List Deferred}  {k k' : List Item} {m:Bool}  
  (a:iR P ρ (⟨f,t,todo,d,.run,.normal,r⟩::cs) (⟨f,W,I,J,.run,.normal,M⟩::V)) (b:WR ρ w w') (c:jL P ρ k k')
  (h:∀base w,s base w=.go ⟨⟨f,t,k,d,.run,.normal,r⟩,cs++base,.running,none,none⟩ w #[])
  (e:∀base,s' base=.go ⟨⟨f,W,k',J,.run,.normal,M⟩,V++base,.running,none,none⟩ w' #[]):lW P P' ρ w w' s s':=
 lW.still b (l:=⟨f,t,k,d,.run,.normal,r⟩::cs) (l':=⟨f,W,k',J,.run,.normal,M⟩::V) h e (GoR.of (a.put (Ren.Le.refl _) (a.head.at c) rfl))
omit T in
def iZ(p:Program)(main:Bool)(fr:Frame)(callers:List Frame)(w:World)(jump:Option Code):GStep:=
 match fr.roundOf with
 |none=>if jump matches none|some .ret then .go {frame:={fr with mode:=.returning},callers,status:=.running,dying:=none} w else .ended (.stuck "exit, goto: no such block or label" (fr.pos p)) w
 |some l=>
  let(r,es):=(Instr.endRound l jump).runT p w #[]
  GStep.after (seen p fr.fn es) <| match r with
  |.ok v w=>doReturn p main fr callers none v w
  |.halt _ w=>.ended (.stuck "range over a function: no such loop" (fr.pos p)) w
theorem agR(m m':Bool)(C:iR P ρ (fr::cs) (R::V))(G:WR ρ w w')(hm:fr.mode=.run)(j:Option Code)(hj:j=j.map gP) :
  lW P P' ρ w w' (λbase w=>iZ P m fr (cs++base) w j) (λbase=>iZ P' m' R (V++base) w' j):=by
 have b:=C.head;have q:=b.round;obtain⟨f,t,i,d,F,M,r⟩:=fr;obtain⟨J,E,K,I,U,o,r'⟩:=R;dsimp only at q;cases q with
 |none=>
  unfold iZ;dsimp only;have still:=lW.still (P:=P) (P':=P') G (l:=⟨f,t,i,d,.returning,M,none⟩::cs) (l':=⟨J,E,K,I,.returning,o,none⟩::V) (s:=λbase w=>.go ⟨⟨f,t,i,d,.returning,M,none⟩,cs++base,.running,none,none⟩ w #[]) (s':=λbase=>.go ⟨⟨J,E,K,I,.returning,o,none⟩,V++base,.running,none,none⟩ w' #[]) (λ_ _=>rfl) (λ_=>rfl) (GoR.of (C.put (Ren.Le.refl _) ⟨b.fn,b.tmps,b.todo,b.defers,.inr ⟨rfl,rfl⟩,b.kind,b.round⟩ rfl));cases j with
  |none=>exact still
  |some c=>cases c<;>first|exact still|exact lW.bad λ_ w=>.ended _ _ _
 |@some l l' Y=>
  cases C with
  |one h h0=>cases h0
  |cons h e=>
   obtain⟨g,D,H⟩:=(aky (P:=P) (P':=P') Y hj).run w w' #[] #[] G;rcases H with H|⟨σ,a,L,Q,cX,us,z,h1,O,A,S,h5,h6,h7,X⟩
   .refine⟨g,D,.inl λbase t y=> ?_⟩;obtain⟨h,L,nA,q,B⟩:=H t y;unfold iZ;simp only[q];exact ng.after _ (.ended _ _ _)
   .refine⟨g,D,.inr ?_⟩;have B:=b.kind;dsimp only at B;obtain⟨rfl,rfl⟩:=B;have N:=b.fn;dsimp only at N;subst N;have k:∀(p:Program) (m:Bool) (x:Frame) (l:List Frame) (v:Value) (w:World) (Z:Array Value) (td:List Item) (ds:List Deferred) (F:FrameMode) (W:Nat),doReturn p m ⟨f,Z,td,ds,F,.normal,some W⟩ (x::l) none v w=.go ⟨x.finish v,l,.running,none,none⟩ w #[]:=λ_ _ _ _ _ _ _ _ _ _ _=>rfl;obtain⟨x,n,rfl⟩:∃x n,cs=x::n:=by cases e<;>exact⟨_,_,rfl⟩
    obtain⟨x',u,rfl⟩:∃x n,V=x::n:=by cases e<;>exact⟨_,_,rfl⟩
    refine⟨σ,x.finish a::n,L,seen P f us,x'.finish Q::u,cX,seen P' f z,λbase t y=> ?_,O,A,λbase=> ?_,h6,h7,aaO T f X,GoR.of (e.put A ((e.head.mono A).finish h5) (gz _ _))⟩
    .unfold iZ;simp only[h1 t y,qM,k];simp[GStep.after,Gl]
    .unfold iZ;simp only[S,qM,k];simp[GStep.after,Gl]
theorem lW.seq  {t₁:Tape} {D:Nat}  (s1:List Frame->World->GStep) (s1':List Frame->GStep) (f:FuncId)
  (p:∀base t,Agr w D t₁ t->s base (w.dR t)=(s1 base (K.dR t)).after (seen P f O)) (z:K.drawn=w.drawn+D) (M:ρ.Le σ) (B:∀base,s' base=(s1' base).after (seen P' f es)) (r:Kept ρ σ w w' K a) (G:EvW w σ O es)
  (H:lW P P' σ K a s1 s1'):lW P P' ρ w w' s s':=by
 obtain⟨e,E,H⟩:=H;have c:∀t,Agr w (D+E) (λi q=>if i<K.drawn then t₁ i q else e i q) t->Agr w D t₁ t/\Agr K E e t:=λt d=>⟨λi q v Q=>by
  rw[d i q v (by omega)];exact du (by omega),λi q v Q=>by
  rw[d i q (by omega) (by omega)];exact da (by omega)⟩
 refine⟨λi q=>if i<K.drawn then t₁ i q else e i q,D+E,H.imp (λH base t d=> ?_) ?_⟩
 .rw[p base t (c t d).1];exact ng.after _ (H base t (c t d).2)
 .rintro⟨L,F,R,J,j,l,k,y,N,o,S,C,I,m,A⟩;have u:=aaO T f G;refine⟨L,F,R,seen P f O++J,j,l,seen P' f es++k,λbase t d=> ?_,by rw[N,z,vx],M.trans o,λbase=> ?_,C,r.trans I,⟨?_,λb n x g=> ?_⟩,A⟩
  .rw[p base t (c t d).1,y base t (c t d).2];rfl
  .rw[B,S];rfl
  .rw[pv,pv];exact(u.ev.mono o).app m.ev
  .rw[pv,oE] at g;rcases g with g|g
   .exact u.nw b n x g
   .exact m.nw b (r.frz b n) x g
include X
theorem azs(hg:GlR ρ)(m m':Bool)(A:iR P ρ (fr::cs) (R::V))(C:WR ρ w w')(hm:fr.mode=.run) :
  lW P P' ρ w w' (λbase w=>stepG P m ⟨fr,cs++base,.running,none,none⟩ w) (λbase=>stepG P' m' ⟨R,V++base,.running,none,none⟩ w'):=by
 have mE:=A.head;have a1:=mE.env hg;obtain⟨f,t,aJ,d,md,kd,r⟩:=fr;obtain⟨f',B,fN,J,a9,aR,E⟩:=R;obtain⟨h1,h2,h3,h4,h5,h6,h7⟩:=mE;dsimp only at h1 h2 h3 h4 h5 h6 h7 hm;subst h1;subst hm;obtain⟨rfl,rfl⟩:=h6;obtain rfl:a9=.run:=by
  rcases h5 with h5|h5
  .exact h5.2
  .cases h5.1
 cases h3 with
 |nil=>
  have G:∀base w,stepG P m ⟨⟨f,t,[],d,.run,.normal,r⟩,cs++base,.running,none,none⟩ w=iZ P m ⟨f,t,[],d,.run,.normal,r⟩ (cs++base) w none:=λ_ _=>rfl;have L:∀base,stepG P' m' ⟨⟨f,B,[],J,.run,.normal,E⟩,V++base,.running,none,none⟩ w'=iZ P' m' ⟨f,B,[],J,.run,.normal,E⟩ (V++base) w' none:=λ_=>rfl;simp only[G,L];exact agR T m m' A C rfl none rfl
 |@cons x x' k F hx I=>
  cases hx with
  |inBlock id=>exact abM T (m:=m) A C I (λbase w=>by simp[stepG,stepG.exec]) (λbase=>by simp[stepG,stepG.exec])
  |inScope c=>exact abM T (m:=m) A C I (λbase w=>by simp[stepG,stepG.exec]) (λbase=>by simp[stepG,stepG.exec])
  |inLoop c=>exact abM T (m:=m) A C (.cons (.code c) (.cons (.inLoop c) I)) (λbase w=>by simp[stepG,stepG.exec]) (λbase=>by simp[stepG,stepG.exec])
  |inRangeFunc hl=>exact GoR.jM λbase w=>⟨_,_,_,by simp[stepG,stepG.exec];exact⟨rfl,rfl,rfl⟩⟩
  |@endRangeFunc l l' hl=>
   obtain⟨t₁,D,H⟩:=(an7 (P:=P) (P':=P') hl).run w w' #[] #[] C;rcases H with H|⟨σ,a,w1,a',cX,us,a6,h1,h2,h3,h4,h5,h6,an,h8⟩
   .refine⟨t₁,D,.inl λbase K M=> ?_⟩;obtain⟨h,w1,nA,hr,a7⟩:=H K M;have Y:=A.marks C a7;simp only[stepG,stepG.exec,hr];refine ng.after _ ?_;cases h<;>first|exact aaP Y|exact .ended _ _ _
   .have hi:jL P σ ((a.map Item.code).toList++k) ((a'.map Item.code).toList++F):=by
     subst h5;cases a' with
     |none=>exact I.mono h3
     |some c=>exact .cons (.code c) (I.mono h3)
    refine⟨t₁,D,.inr ⟨σ,⟨f,t,(a.map Item.code).toList++k,d,.run,.normal,r⟩::cs,w1,seen P f us,⟨f,B,(a'.map Item.code).toList++F,J,.run,.normal,E⟩::V,cX,seen P' f a6,λbase K M=> ?_,h2,h3,λbase=> ?_,h6,an,aaO T f h8,GoR.of (A.put h3 ((A.head.mono h3).at hi) rfl)⟩⟩
    .simp only[stepG,stepG.exec,h1 K M];simp[GStep.after,Gl]
    .simp only[stepG,stepG.exec,h4];simp[GStep.after,Gl]
  |beginRound=>
   have G:∀base w,stepG P m ⟨⟨f,t,.beginRound::k,d,.run,.normal,r⟩,cs++base,.running,none,none⟩ w=stepG.apply P true ⟨f,t,.beginRound::k,d,.run,.normal,r⟩ (cs++base) none (do r.elim (stuck "beginRound: no round") Instr.beginRound;pure .skip) w:=λ_ _=>rfl;have L:∀base,stepG P' m' ⟨⟨f,B,.beginRound::F,J,.run,.normal,E⟩,V++base,.running,none,none⟩ w'=stepG.apply P' true ⟨f,B,.beginRound::F,J,.run,.normal,E⟩ (V++base) none (do E.elim (stuck "beginRound: no round") Instr.beginRound;pure .skip) w':=λ_=>rfl;simp only[G,L];exact agO T A C (agP h7)
  |@inRegion n u N l=>
   cases l with
   |nil=>exact abM T (m:=m) A C I (λbase w=>by simp[stepG,stepG.exec]) (λbase=>by simp[stepG,stepG.exec])
   |cons i z=>
    have ay:=A.head.finish VR.undef;have aG:∀j,yielded n t j=yielded u B j:=λj=>by
     unfold yielded;rw[N.dst j];cases((u[j]?).bind (·.dst)) with
     |none=>rfl
     |some x=>
      show(match t[x]? with|some (.bool b)=>some b|_=>none)=(match B[x]? with|some (.bool b)=>some b|_=>none);have hs:=bR.size h2;cases e:t[x]? with
      |none=>
       have:B[x]?=none:=by
        rw[qm] at e ⊢;omega
       rw[this]
      |some v=>
       obtain⟨v',G,L⟩:=bR.get h2 (i:=x) (v:=v) (by rw[ef];exact e);rw[ef] at G;rw[G];cases L<;>first|rfl|(cases v'<;>first|rfl|(cases(by assumption:jF _=true);done))
    have skip:(((n[i]?).map (Region.wanted · (yielded n t))).getD false=false)->(((u[i]?).map (Region.wanted · (yielded u B))).getD false=false)->lW P P' ρ w w' (λbase w=>stepG P m ⟨⟨f,t,.inRegion n (i::z)::k,d,.run,.normal,r⟩,cs++base,.running,none,none⟩ w) (λbase=>stepG P' m' ⟨⟨f,B,.inRegion u (i::z)::F,J,.run,.normal,E⟩,V++base,.running,none,none⟩ w'):=λG L=>
     lW.still C (l:=_::cs) (l':=_::V) (λbase w=>by simp only[stepG,stepG.exec,G];rfl) (λbase=>by simp only[stepG,stepG.exec,L];rfl) (GoR.of (A.put (Ren.Le.refl _) ay (gz _ _)))
    cases eo:n[i]? with
    |none=>
     have U:u[i]?=none:=by
      have:=N.1;rw[qm] at eo ⊢;omega
     exact skip (by rw[eo];rfl) (by rw[U];rfl)
    |some o=>
     obtain⟨Q,U⟩:∃Q,u[i]?=some Q:=by
      have:=(dl.1 eo).1;have:=N.1;exact⟨_,ge (by omega)⟩
     have a2:=N.2 i o Q eo U;have ao:o.guard=Q.guard:=by rcases a2 with⟨rfl,_⟩|⟨_,rfl⟩<;>rfl
     have a4:Region.wanted o (yielded n t)=Region.wanted Q (yielded u B):=by
      unfold Region.wanted;rw[ao];cases Q.guard with
      |none=>rfl
      |some g=>obtain⟨j,b⟩:=g;show(yielded n t j ==some b)=(yielded u B j ==some b);rw[aG j]
     cases ew:Region.wanted Q (yielded u B) with
     |false=>exact skip (by rw[eo];simp[a4,ew]) (by rw[U];simp[ew])
     |true=>
      rw[ew] at a4;have nd:(∀c,o.op ≠ .defer c)/\∀c,Q.op ≠ .defer c:=by
       rcases a2 with⟨rfl,lU⟩|⟨W,rfl⟩
       .have:∀c,o.op ≠ .defer c:=λc e=>by rw[e] at lU;unfold mB at lU;simp at lU
        exact⟨this,this⟩
       .have:∀c,Q.op ≠ .defer c:=λc e=>by rw[e] at W;cases W
        exact⟨this,this⟩
      have a0:az P P' iC ρ (execOp (Frame.eval ⟨f,t,.inRegion n (i::z)::k,d,.run,.normal,r⟩) o) (execOp (Frame.eval ⟨f,B,.inRegion u (i::z)::F,J,.run,.normal,E⟩) Q):=by
       rcases a2 with⟨rfl,lU⟩|⟨W,af⟩
       .exact aqc T X lU a1
       .exact aCr T X W af a1
      have G:∀base w,stepG P m ⟨⟨f,t,.inRegion n (i::z)::k,d,.run,.normal,r⟩,cs++base,.running,none,none⟩ w=stepG.apply P true ⟨f,t,.inRegion n (i::z)::k,d,.run,.normal,r⟩ (cs++base) none (execOp (Frame.eval ⟨f,t,.inRegion n (i::z)::k,d,.run,.normal,r⟩) o) w:=λbase w=>by
       simp only[stepG,stepG.exec,eo,qr,qo,a4,pu,stepG.oper,Frame.oper?];cases r with
       |none=>rfl
       |some l0=>
        have:=nd.1;split
        .rename_i O;exact absurd O (this _)
        .rfl
      have L:∀base,stepG P' m' ⟨⟨f,B,.inRegion u (i::z)::F,J,.run,.normal,E⟩,V++base,.running,none,none⟩ w'=stepG.apply P' true ⟨f,B,.inRegion u (i::z)::F,J,.run,.normal,E⟩ (V++base) none (execOp (Frame.eval ⟨f,B,.inRegion u (i::z)::F,J,.run,.normal,E⟩) Q) w':=λbase=>by
       simp only[stepG,stepG.exec,U,qr,qo,ew,pu,stepG.oper,Frame.oper?];cases E with
       |none=>rfl
       |some l0=>
        have:=nd.2;split
        .rename_i O;exact absurd O (this _)
        .rfl
      simp only[G,L];exact agO T A C a0
  |code c=>
   cases c with
   |skip=>rw[atH T] at *;exact abM T (m:=m) A C I (λbase w=>by simp[stepG,stepG.exec]) (λbase=>by simp[stepG,stepG.exec])
   |label l=>rw[aqh T] at *;exact abM T (m:=m) A C I (λbase w=>by simp[stepG,stepG.exec]) (λbase=>by simp[stepG,stepG.exec])
   |seq a b=>rw[axb T] at *;exact abM T (m:=m) A C (.cons (.code a) (.cons (.code b) I)) (λbase w=>by simp[stepG,stepG.exec]) (λbase=>by simp[stepG,stepG.exec])
   |block id a=>rw[aqe T] at *;exact abM T (m:=m) A C (.cons (.code a) (.cons (.inBlock id) I)) (λbase w=>by simp[stepG,stepG.exec]) (λbase=>by simp[stepG,stepG.exec])
   |loop a=>rw[atG T] at *;exact abM T (m:=m) A C (.cons (.code a) (.cons (.inLoop a) I)) (λbase w=>by simp[stepG,stepG.exec]) (λbase=>by simp[stepG,stepG.exec])
   |scope a=>rw[aqf T] at *;exact abM T (m:=m) A C (.cons (.code a) (.cons (.inScope a) I)) (λbase w=>by simp[stepG,stepG.exec]) (λbase=>by simp[stepG,stepG.exec])
   |refuse s=>rw[afT T] at *;exact GoR.jM λbase w=>⟨_,_,_,by simp[stepG,stepG.exec];exact⟨rfl,rfl,rfl⟩⟩
   |goto l=>rw[atI T] at *;exact GoR.jM λbase w=>⟨_,_,_,by simp[stepG,stepG.exec];exact⟨rfl,rfl,rfl⟩⟩
   |cond c a b=>
    rw[atJ T] at *;by_cases O:bK gA gL c=true
    .rw[du O] at *;have hv:=a1 c O;generalize Z:Frame.eval ⟨f,t,.code (.cond c (gP a) (gP b))::k,d,.run,.normal,r⟩ c=v at hv;generalize ax:Frame.eval ⟨f,B,.code (.cond c a b)::F,J,.run,.normal,E⟩ c=v' at hv;cases hv with
     |bool q=>
      have hi:jL P ρ (.code (if q=true then gP a else gP b)::k) (.code (if q=true then a else b)::F):=by
       cases q with
       |true=>exact .cons (.code a) I
       |false=>exact .cons (.code b) I
      exact abM T (m:=m) A C hi (λbase w=>by simp[stepG,stepG.exec,Z]) (λbase=>by simp[stepG,stepG.exec,ax])
     |abn=>exact GoR.jM λbase w=>⟨_,_,_,by unfold anC at Z;simp[stepG,stepG.exec,Z];first|exact⟨rfl,rfl,rfl⟩|rfl⟩
     |_=>exact GoR.jM λbase w=>⟨_,_,_,by simp[stepG,stepG.exec,Z];exact⟨rfl,rfl,rfl⟩⟩
    .rw[da O] at *;exact GoR.jM λbase w=>⟨_,_,_,by simp[stepG,stepG.exec];exact⟨rfl,rfl,rfl⟩⟩
   |exit id=>
    rw[amH T] at *;rcases I.exit id with⟨x1,x2⟩|⟨l,l',x1,x2,hl⟩
    .have G:∀base w,stepG P m ⟨⟨f,t,.code (.exit id)::k,d,.run,.normal,r⟩,cs++base,.running,none,none⟩ w=iZ P m ⟨f,t,.code (.exit id)::k,d,.run,.normal,r⟩ (cs++base) w (some (.exit id)):=λbase w=>by simp[stepG,stepG.exec,x1,iZ];rfl
     have L:∀base,stepG P' m' ⟨⟨f,B,.code (.exit id)::F,J,.run,.normal,E⟩,V++base,.running,none,none⟩ w'=iZ P' m' ⟨f,B,.code (.exit id)::F,J,.run,.normal,E⟩ (V++base) w' (some (.exit id)):=λbase=>by simp[stepG,stepG.exec,x2,iZ];rfl
     simp only[G,L];exact agR T m m' A C rfl (some (.exit id)) (by rw[qr,amH T])
    .exact abM T (m:=m) A C hl (λbase w=>by simp[stepG,stepG.exec,x1]) (λbase=>by simp[stepG,stepG.exec,x2])
   |ret=>
    rw[aqg T] at *;have G:∀base w,stepG P m ⟨⟨f,t,.code .ret::k,d,.run,.normal,r⟩,cs++base,.running,none,none⟩ w=iZ P m ⟨f,t,.code .ret::k,d,.run,.normal,r⟩ (cs++base) w (some .ret):=λ_ _=>rfl;have L:∀base,stepG P' m' ⟨⟨f,B,.code .ret::F,J,.run,.normal,E⟩,V++base,.running,none,none⟩ w'=iZ P' m' ⟨f,B,.code .ret::F,J,.run,.normal,E⟩ (V++base) w' (some .ret):=λ_=>rfl;simp only[G,L];exact agR T m m' A C rfl (some .ret) (by rw[qr,aqg T])
   |region id n draw=>
    rcases an9 T id n draw with⟨e,N⟩|⟨S,e,N,al⟩|e
    .rw[e] at *;cases draw with
     |false=>exact abM T (m:=m) A C (.cons (.inRegion N (List.range n.size)) I) (λbase w=>by simp[stepG,stepG.exec]) (λbase=>by simp[stepG,stepG.exec])
     |true=>
      have G:∀(p:Program) (q:Question) (w:World),q.forced=false->(choose q).run p w=.ok (q.cut (w.tape w.drawn q)) {w with drawn:=w.drawn+1}:=λp q w hq=>by
       unfold choose;rw[Sem.run,hq];rfl
      obtain⟨q1,q2⟩:=C.ask 1 1;have hi:jL P ρ (.inRegion n (Region.schedule (P.follows .mixedOrders) n (w'.tape w'.drawn (.order f id)))::k) (.inRegion n (Region.schedule (P'.follows .mixedOrders) n (w'.tape w'.drawn (.order f id)))::F):=by
       rw[T.follows];exact .cons (.inRegion N _) I
      refine⟨λ_ _=>w'.tape w'.drawn (.order f id),1,.inr ⟨ρ,⟨f,t,.inRegion n (Region.schedule (P.follows .mixedOrders) n (w'.tape w'.drawn (.order f id)))::k,d,.run,.normal,r⟩::cs,{w with drawn:=w.drawn+1},#[],⟨f,B,.inRegion n (Region.schedule (P'.follows .mixedOrders) n (w'.tape w'.drawn (.order f id)))::F,J,.run,.normal,E⟩::V,{w' with drawn:=w'.drawn+1},#[],λbase K M=> ?_,rfl,Ren.Le.refl _,λbase=> ?_,q1,q2,.nil _ _,GoR.of (A.put (Ren.Le.refl _) (A.head.at hi) rfl)⟩⟩
      .have hd:=M w.drawn (.order f id) (am _) (by omega);simp only[stepG,stepG.exec,G P (.order f id) (w.dR K) rfl];show GStep.go _ _ _=_;have:(w.dR K).tape (w.dR K).drawn (.order f id)=w'.tape w'.drawn (.order f id):=hd;simp only[Question.cut,this];rfl
      .simp only[stepG,stepG.exec,G P' (.order f id) w' rfl];rfl
    .rw[e] at *;have aa:List.range S.size=List.range n.size:=by rw[N.1]
     cases draw with
     |false=>exact abM T (m:=m) A C (.cons (.inRegion N (List.range n.size)) I) (λbase w=>by simp[stepG,stepG.exec,aa]) (λbase=>by simp[stepG,stepG.exec])
     |true=>
      have G:∀(p:Program) (q:Question) (w:World),q.forced=false->(choose q).run p w=.ok (q.cut (w.tape w.drawn q)) {w with drawn:=w.drawn+1}:=λp q w hq=>by
       unfold choose;rw[Sem.run,hq];rfl
      obtain⟨q1,q2⟩:=C.ask 1 1;have hi:jL P ρ (.inRegion S (Region.schedule (P.follows .mixedOrders) S (w'.tape w'.drawn (.order f id)))::k) (.inRegion n (Region.schedule (P'.follows .mixedOrders) n (w'.tape w'.drawn (.order f id)))::F):=by
       rw[T.follows,al];exact .cons (.inRegion N _) I
      refine⟨λ_ _=>w'.tape w'.drawn (.order f id),1,.inr ⟨ρ,⟨f,t,.inRegion S (Region.schedule (P.follows .mixedOrders) S (w'.tape w'.drawn (.order f id)))::k,d,.run,.normal,r⟩::cs,{w with drawn:=w.drawn+1},#[],⟨f,B,.inRegion n (Region.schedule (P'.follows .mixedOrders) n (w'.tape w'.drawn (.order f id)))::F,J,.run,.normal,E⟩::V,{w' with drawn:=w'.drawn+1},#[],λbase K M=> ?_,rfl,Ren.Le.refl _,λbase=> ?_,q1,q2,.nil _ _,GoR.of (A.put (Ren.Le.refl _) (A.head.at hi) rfl)⟩⟩
      .have hd:=M w.drawn (.order f id) (am _) (by omega);simp only[stepG,stepG.exec,G P (.order f id) (w.dR K) rfl];show GStep.go _ _ _=_;have:(w.dR K).tape (w.dR K).drawn (.order f id)=w'.tape w'.drawn (.order f id):=hd;simp only[Question.cut,this];rfl
      .simp only[stepG,stepG.exec,G P' (.order f id) w' rfl];rfl
    .rw[e] at *;exact GoR.jM λbase w=>⟨_,_,_,by simp[stepG,stepG.exec];exact⟨rfl,rfl,rfl⟩⟩
   |rangeFunc fo ps a b=>
    rw[agQ T] at *;by_cases O:bK gA gL fo=true
    .rw[du O] at *;obtain⟨t₁,D,H⟩:=(aiq (P:=P) (P':=P') f h2 ps a b h7).run w w' #[] #[] C;rcases H with H|⟨σ,q,w1,q',cX,us,a6,g1,g2,g3,g4,g5,g6,g7,g8⟩
     .refine⟨t₁,D,.inl λbase K M=> ?_⟩;obtain⟨h,w1,nA,hr,a7⟩:=H K M;simp only[stepG,stepG.exec,hr];exact ng.after _ (.ended _ _ _)
     .obtain⟨lp,mk⟩:=q;obtain⟨a3,mk'⟩:=q';obtain⟨a5,Y⟩:=g5;dsimp only at a5 Y;have aI:∀{x x' y y':List Deferred},CDs σ x x'->CDs σ y y'->CDs σ (x++y) (x'++y'):=by
       intro x x' y y' hx hy
       induction hx with
       |nil=>exact hy
       |cons hb _ ih=>exact .cons hb ih
      have a8:iR P σ (⟨f,t,.inRangeFunc lp::k,mk++d,.run,.normal,r⟩::cs) (⟨f,B,.inRangeFunc a3::F,mk'++J,.run,.normal,E⟩::V):=
       A.put g3 ⟨rfl,bR.mono g3 h2,.cons (.inRangeFunc a5) (I.mono g3),aI Y (h4.mono g3),.inl ⟨rfl,rfl⟩,⟨rfl,rfl⟩,h7.mono g3⟩ rfl
      have ad:=a8.head.env (hg.mono g3);have a0:=amG T X (ad fo O) (args:=#[.func (.yield lp) #[] #[]]) (args':=#[.func (.yield a3) #[] #[]]) (.cons (.func (.yield a5) .nil .nil) .nil);refine lW.seq T (s1:=λbase w=>stepG.apply P true ⟨f,t,.inRangeFunc lp::k,mk++d,.run,.normal,r⟩ (cs++base) none _ w) (s1':=λbase=>stepG.apply P' true ⟨f,B,.inRangeFunc a3::F,mk'++J,.run,.normal,E⟩ (V++base) none _ cX) f (t₁:=t₁) (D:=D) (λbase K M=> ?_) g2 g3 (λbase=> ?_) g7 g8 (agO T a8 g6 a0)
      .simp only[stepG,stepG.exec,g1 K M,Array.empty_append];rw[aaA _ _ _ λ_=>rfl]
      .simp only[stepG,stepG.exec,g4,Array.empty_append];rw[aaA _ _ _ λ_=>rfl]
    .rw[da O] at *;exact GoR.jM λbase w=>⟨_,_,_,by simp[stepG,stepG.exec];exact⟨rfl,rfl,rfl⟩⟩
end
def pj(l:List Frame):Prop:=∃a,l=[a]/\a.mode=.returning/\a.defers=[]/\a.kind=.normal
section
variable {P P':Program} {ρ σ:Ren} {w w':World}
def aet{l l':Nat}(h:ρ.r l l'):az P P' (λ_ q b=>q=[]/\b=[]) ρ (Instr.takeDeferred l) (Instr.takeDeferred l'):=by
 unfold Instr.takeDeferred;refine aj (eM h) λσ x d c a=> ?_;cases a with
 |deferred=>exact aj (iU (c.r h) .bH) λ_ _ _ _ _=>ak ⟨rfl,rfl⟩
 |_=>exact .halt _ _
variable (T:Twin P P') (X:ahZ P P')
include T
theorem air:∀(l:List ResultVar) {ρ:Ren} {t b:Array Value},dw ρ t b->az P P' bR ρ (l.mapM fun
  |.tmp k=>pure (t.getD k undef)
  |.cell a c=>do loadVar c (<-asAddr (t.getD a undef))) (l.mapM fun
  |.tmp k=>pure (b.getD k undef)
  |.cell a c=>do loadVar c (<-asAddr (b.getD a undef)))
 |[],_,_,_,_=>by
  rw[List.mapM_nil,List.mapM_nil];exact ak .nil
 |x::l,ρ,t,b,h=>by
  have g:∀(σ:Ren) (k:Nat),ρ.Le σ->VR σ (t.getD k undef) (b.getD k undef):=λσ k d=>by
   have y:=bR.size h;rw[iS,iS];cases e:t[k]? with
   |none=>
    have:b[k]?=none:=by
     rw[qm] at e ⊢;omega
    rw[this];exact VR.undef
   |some v=>
    obtain⟨m,j,n⟩:=bR.get h (i:=k) (v:=v) (by rw[ef];exact e);rw[ef] at j;rw[j];exact n.mono d
  rw[vY,vY];refine aj (A:=VR) ?_ λσ v m d r=>aj (air l (bR.mono d h)) λs u q o f=>ak (.cons (r.mono o) f);cases x with
  |tmp k=>exact ak (g ρ k (Ren.Le.refl _))
  |cell a c=>exact aj (ahW (g ρ a (Ren.Le.refl _))) λσ x w d p=>afG T c p
theorem afU{fn f:Func}(k:f.results=fn.results)(h:dw ρ t W):az P P' VR ρ (results fn t) (results f W):=by
 unfold results;rw[k,ud,ud,map_eq_pure_bind,map_eq_pure_bind];refine aj (A:=dw) (aj (air T fn.results.toList h) λ_ _ _ _ b=>ak (A:=dw) b) λσ c a m b=> ?_;have n:c.size=a.size:=bR.size b;refine ak ?_;by_cases e:c.size=1
 .have d:a.size=1:=by omega
  rw[tW e,tW d];obtain⟨l,g,j⟩:=bR.get b (i:=0) (v:=c[0]) (by rw[ef];exact ge (by omega));rw[ef,ge (by omega)] at g;obtain rfl:=dq g;exact j
 .have d:¬a.size=1:=by omega
  rw[dif_neg e,dif_neg d];exact .tuple b
theorem azu(m m':Bool)(hS:iR P ρ (fr::cs) (R::V))(N:WR ρ w w')(hm:fr.mode=.returning)(hn:fr.defers≠[]\/cs≠[]) :
  lW P P' ρ w w' (λbase w=>stepG P m ⟨fr,cs++base,.running,none,none⟩ w) (λbase=>stepG P' m' ⟨R,V++base,.running,none,none⟩ w'):=by
 have mE:=hS.head;obtain⟨f,t,E,d,md,kd,r⟩:=fr;obtain⟨f',I,fN,d',K,a1,r'⟩:=R;obtain⟨G,o,h3,h4,A,h6,h7⟩:=mE;dsimp only at G o h3 h4 A h6 h7 hm hn;subst G;subst hm;obtain⟨rfl,rfl⟩:=h6;obtain rfl:K=.returning:=by
  rcases A with A|A
  .cases A.1
  .exact A.2
 cases h4 with
 |@cons b b' ds M hb hl=>
  obtain⟨g,D,H⟩:=(aet (P:=P) (P':=P') hb).run w w' #[] #[] N;rcases H with H|⟨σ,a,F,a',W,Q,s,Y,U,k,O,g5,S,L,X⟩
  .refine⟨g,D,.inl λbase u q=> ?_⟩;obtain⟨h,F,nA,Z,J⟩:=H u q;simp only[stepG,unwind,Z];exact ng.after _ (.ended _ _ _)
  .obtain⟨rfl,rfl⟩:=g5;refine⟨g,D,.inr ⟨σ,⟨f,t,E,ds,.returning,.normal,r⟩::cs,F,seen P f Q,⟨f,I,fN,M,.returning,.normal,r'⟩::V,W,seen P' f s,λbase u q=> ?_,U,k,λbase=> ?_,S,L,aaO T f X,
    GoR.of (hS.put k ⟨rfl,bR.mono k o,h3.mono k,hl.mono k,.inr ⟨rfl,rfl⟩,⟨rfl,rfl⟩,h7.mono k⟩ rfl)⟩⟩
   .simp only[stepG,unwind,Y u q];simp[GStep.after,Gl]
   .simp only[stepG,unwind,O];simp[GStep.after,Gl]
 |nil=>
  have a0:cs≠[]:=hn.resolve_left λh=>h rfl;cases hS with
  |one h h0=>exact absurd rfl a0
  |cons h j=>
   obtain⟨x,B,rfl⟩:∃x B,cs=x::B:=by cases j<;>exact⟨_,_,rfl⟩
   obtain⟨x',C,rfl⟩:∃x B,V=x::B:=by cases j<;>exact⟨_,_,rfl⟩
   have n:∀(p:Program) (m:Bool) (x:Frame) (l:List Frame) (v:Value) (w:World) (tm:Array Value) (td:List Item) (r:Option Nat),doReturn p m ⟨f,tm,td,[],.returning,.normal,r⟩ (x::l) none v w=.go ⟨x.finish v,l,.running,none,none⟩ w #[]:=λ_ _ _ _ _ _ _ _ _=>rfl;cases z:P.funcs[f]? with
   |none=>
    have y:P'.funcs[f]?=none:=by
     rw[qm] at z ⊢;rw[T.ahU];exact z
    have hv:VR ρ (t.getD 0 undef) (I.getD 0 undef):=by
     have hz:=bR.size o;rw[iS,iS];cases e:t[0]? with
     |none=>
      have:I[0]?=none:=by
       rw[qm] at e ⊢;omega
      rw[this];exact VR.undef
     |some v=>
      obtain⟨v',G,o⟩:=bR.get o (i:=0) (v:=v) (by rw[ef];exact e);rw[ef] at G;rw[G];exact o
    refine lW.still N (l:=x.finish (t.getD 0 undef)::B) (l':=x'.finish (I.getD 0 undef)::C) (λbase w=> ?_) (λbase=> ?_) (GoR.of (j.put (Ren.Le.refl _) (j.head.finish hv) (gz _ _)))
    .simp only[stepG,unwind,z,qM,n,Gl]
    .simp only[stepG,unwind,y,qM,n,Gl]
   |some fn=>
    obtain⟨dy,y,hR⟩:=T.func f fn z;obtain⟨g,D,H⟩:=(afU T hR.results o).run w w' #[] #[] N;rcases H with H|⟨σ,a,F,a',W,Q,s,Y,U,k,O,g5,S,L,X⟩
    .refine⟨g,D,.inl λbase u q=> ?_⟩;obtain⟨h,F,nA,Z,J⟩:=H u q;simp only[stepG,unwind,z,Z];refine ng.after _ ?_;cases h<;>exact .ended _ _ _
    .refine⟨g,D,.inr ⟨σ,x.finish a::B,F,seen P f Q,x'.finish a'::C,W,seen P' f s,λbase u q=> ?_,U,k,λbase=> ?_,S,L,aaO T f X,GoR.of (j.put k ((j.head.mono k).finish g5) (gz _ _))⟩⟩
     .simp only[stepG,unwind,z,Y u q,qM,n];simp[GStep.after,Gl]
     .simp only[stepG,unwind,y,O,qM,n];simp[GStep.after,Gl]
include X
theorem axg(j:GlR ρ)(m m':Bool)(a:iR P ρ l l')(d:WR ρ w w')(k:¬pj l) :
  lW P P' ρ w w' (λbase w=>stepG P m (Gl l base) w) (λbase=>stepG P' m' (Gl l' base) w'):=by
 obtain⟨f,n,rfl⟩:∃x c,l=x::c:=by cases a<;>exact⟨_,_,rfl⟩
 obtain⟨p,g,rfl⟩:∃x c,l'=x::c:=by cases a<;>exact⟨_,_,rfl⟩
 rcases a.head.mode with b|b
 .exact azs T X j m m' a d b.1
 .refine azu T m m' a d b.1 ?_;refine qS λh=>k ?_;have o:f.defers=[]:=qS λe=>h (.inl e);have i:n=[]:=qS λe=>h (.inr e);subst i;exact⟨f,rfl,b.1,o,a.head.kind.1⟩
end
def iE(dst:Option Tmp)(op:Op)(t:TypeId):Oper:={dst,op,type:=t,pos:= "",after:=#[],guard:=none}
abbrev cD:FuncId:=72
abbrev nCC:FuncId:=139
def cf:Code->Code
 |.seq _ b=>b
 |c=>c
noncomputable def cR:Code:=cf (cf (cf (cf (cf (f72.body.getD .skip)))))
def atK(r:Nat)(ops:Array Oper)(t:Tmp):Code:=.seq (.region r ops false) (.cond (.tmp t) .skip (.refuse ""))
def aaQ(r:Nat)(ops:Array Oper)(t:Tmp):Code:=.seq (.region r ops false) (.cond (.tmp t) (.refuse "") .skip)
def aaR(d:Tmp)(x y:Operand):Oper:=iE (some d) (.binOp .lss 3 x y 3) 4
def atM(d:Tmp)(x y:Operand):Oper:=iE (some d) (.binOp .eql 3 x y 3) 4
def atN(d:Tmp)(x:Operand):Oper:=iE (some d) (.binOp .mul 3 x (.const (.int .i64 1)) 3) 3
def atO(d:Tmp)(x:Operand):Oper:=iE (some d) (.binOp .add 3 x (.const (.int .i64 1)) 3) 3
def aqj(d:Tmp)(x:Tmp)(ty:TypeId):Oper:=iE (some d) (.call ⟨.builtin .len,#[.tmp x],#[ty]⟩) 3
def atP(d:Tmp)(x:Tmp)(ty:TypeId):Oper:=iE (some d) (.call ⟨.builtin .cap,#[.tmp x],#[ty]⟩) 3
def aoa(d:Tmp)(n:Int):Oper:=iE (some d) (.assign (.const (.int .i64 n))) 3
abbrev kOp(n:Int):Operand:=.const (.int .i64 n)
def avW:Array Oper:=#[
  iE (some 6) (.assign (.const (.slice none 0 0))) 83,
  iE (some 7) (.assign (.const (.bool false))) 4,
  aaR 16 (.tmp 0) (kOp 1)]
def avX:Array Oper:=#[aaR 16 (kOp 99) (.tmp 0)]
def avY:Array Oper:=#[
  iE (some 16) (.load 181 (.global 1)) 181,
  iE (some 16) (.load 181 (.global 2)) 181,
  aqj 16 1 23,atP 18 1 23,aoa 20 0,
  aaR 19 (kOp 9223372036854775807) (.tmp 18)]
def avZ:Array Oper:=#[aaR 19 (.tmp 18) (.tmp 16)]
def av0:Array Oper:=#[aaR 21 (.tmp 20) (.tmp 16)]
def av1:Array Oper:=#[
  iE (some 23) (.indexAddr 23 (.tmp 1) (.tmp 20)) 0,
  iE (some 24) (.load 54 (.tmp 23)) 54,
  iE (some 25) (.field 54 (.tmp 24) 0) 3,
  atN 26 (.tmp 25),atM 22 (.tmp 26) (.tmp 25)]
def av2:Array Oper:=#[
  iE (some 27) (.field 54 (.tmp 24) 1) 52,
  aqj 28 27 52,atP 3 27 52,aaR 4 (.tmp 28) (kOp 1)]
def av3:Array Oper:=#[aaR 4 (kOp 9223372036854775807) (.tmp 3)]
def av4:Array Oper:=#[aaR 4 (.tmp 3) (.tmp 28)]
def azv:Array Oper:=#[aoa 5 0]
def av5:Array Oper:=#[aaR 4 (.tmp 5) (.tmp 28)]
def av6:Array Oper:=#[
  iE (some 9) (.indexAddr 52 (.tmp 27) (.tmp 5)) 0,
  iE (some 10) (.load 63 (.tmp 9)) 63,
  iE (some 11) (.field 63 (.tmp 10) 0) 3,
  atN 13 (.tmp 11),atM 15 (.tmp 13) (.tmp 11)]
def av7:Array Oper:=#[
  iE (some 26) (.field 63 (.tmp 10) 1) 9,
  aqj 25 26 9,aaR 15 (kOp 9223372036854775807) (.tmp 25)]
def av8:Array Oper:=#[atO 22 (.tmp 5),iE (some 5) (.move (.tmp 22)) 3]
def av9:Array Oper:=#[atO 22 (.tmp 20),iE (some 20) (.move (.tmp 22)) 3]
def aqk:Array Oper:=#[aqj 16 2 93,atP 18 2 93,aaR 19 (kOp 2147483647) (.tmp 16)]
def aql:Array Oper:=#[aaR 19 (kOp 9223372036854775807) (.tmp 18)]
def aqm:Array Oper:=#[aaR 19 (.tmp 18) (.tmp 16)]
def amI:Array Oper:=#[
  iE (some 27) (.makeSlice 138 (.tmp 16) (.tmp 16)) 138,
  aoa 28 0]
def awa:Array Oper:=#[aaR 26 (.tmp 28) (.tmp 16)]
def awb:Array Oper:=#[
  iE (some 25) (.indexAddr 93 (.tmp 2) (.tmp 28)) 0,
  iE (some 20) (.load 3 (.tmp 25)) 3,
  atN 22 (.tmp 20),atM 21 (.tmp 22) (.tmp 20)]
def ais:Array Oper:=#[
  iE (some 24) (.call ⟨.value (.func 89),#[.tmp 0,.tmp 1,.tmp 20],#[3,23,3]⟩) 151,
  iE (some 23) (.indexAddr 138 (.tmp 27) (.tmp 28)) 0,
  iE none (.store 151 (.tmp 23) (.tmp 24)) 0]
def ait:Array Oper:=#[atO 22 (.tmp 28),iE (some 28) (.move (.tmp 22)) 3]
def aiu:Array Oper:=#[
  iE (some 17) (.assign (.tmp 27)) 138,
  iE (some 8) (.alloc 138) 0,
  iE none (.store 138 (.tmp 8) (.tmp 17)) 0]
def cT:List Nat:=[3,4,5,9,10,11,13,15,16,18,19,20,21,22,23,24,25,26,27,28]
def ac9:Array Oper:=⟨cT.map λt=>aoa t 0⟩
def aaS:Code:=.seq (.region 70 av5 false) (.seq (.cond (.tmp 4) .skip (.exit 52)) (.seq (atK 71 av6 15) (.seq (aaQ 72 av7 15) (.region 73 av8 false))))
def aaT:Code:=.seq (.region 60 av0 false) (.seq (.cond (.tmp 21) .skip (.exit 51)) (.seq (atK 61 av1 22) (.seq (aaQ 62 av2 4) (.seq (aaQ 63 av3 4) (.seq (aaQ 64 av4 4) (.seq (.region 65 azv false)
 (.seq (.block 52 (.loop aaS)) (.region 66 av9 false))))))))
def mF:Code:=.seq (.region 80 awa false) (.seq (.cond (.tmp 26) .skip (.exit 53)) (.seq (atK 81 awb 21) (.seq (.region 82 ais false) (.region 83 ait false))))
noncomputable def jZ:Code:=.seq (aaQ 50 avW 16) (.seq (aaQ 51 avX 16) (.seq (aaQ 52 avY 19) (.seq (aaQ 53 avZ 19) (.seq (.block 51 (.loop aaT))
 (.seq (aaQ 54 aqk 19) (.seq (aaQ 55 aql 19) (.seq (aaQ 56 aqm 19) (.seq (.region 57 amI false) (.seq (.block 53 (.loop mF)) (.seq (.region 58 aiu false) (.seq (.region 59 ac9 false) cR)))))))))))
def pw:Array Oper:=#[
  iE none (.call ⟨.builtin .unsafeSlice,#[.tmp 0,.const (.int .i64 1)],#[177,3]⟩) 0,
  iE (some 4) (.fieldAddr 179 (.tmp 0) 0) 0,
  iE (some 5) (.load 177 (.tmp 4)) 177,
  iE (some 6) (.binOp .eql 177 (.tmp 5) (.const (.pointer none)) 177) 4]
def agS:Array Oper:=#[iE none (.store 177 (.tmp 4) (.tmp 0)) 0]
def akz:Array Oper:=#[
  iE (some 7) (.fieldAddr 179 (.tmp 5) 0) 0,
  iE none (.store 177 (.tmp 7) (.const (.pointer none))) 0,
  iE (some 8) (.load 177 (.tmp 4)) 177,
  iE (some 9) (.binOp .eql 177 (.tmp 8) (.const (.pointer none)) 177) 4]
def nD:Code:=
 .seq (.region 0 pw false)
 (.seq (.cond (.tmp 6) .skip (.seq (.region 2 akz false) (.cond (.tmp 9) .skip (.refuse ""))))
 (.seq (.region 1 agS false) .ret))
noncomputable def qFA(β:Bool):Func:={f72 with body:=some (if β then jZ else .refuse "")}
noncomputable def qCC:Func:={f139 with body:=some nD}
noncomputable def pf(fn:Func):Func:={fn with body:=fn.body.map gP}
noncomputable def mG(β:Bool):Array Func:=((prog.funcs.map pf).setIfInBounds cD (qFA β)).setIfInBounds nCC qCC
noncomputable def ai(β:Bool):Program:={prog with funcs:=mG β}
section
variable (P:Program) (fs:Array Func)
def kg(t:TypeId):({P with funcs:=fs}:Program).info? t=P.info? t:=rfl
def cM(t:TypeId):({P with funcs:=fs}:Program).underlying t=P.underlying t:=rfl
def adQ:({P with funcs:=fs}:Program).depth=P.depth:=rfl
def adR(t:TypeId):({P with funcs:=fs}:Program).cellsOf t=P.cellsOf t:=rfl
def agT(t:TypeId):({P with funcs:=fs}:Program).bytesOf t=P.bytesOf t:=rfl
def agU:∀(d:Nat) (t:TypeId),({P with funcs:=fs}:Program).eqGuardType d t=P.eqGuardType d t
 |0,_=>rfl
 |d+1,t=>by
  unfold Program.eqGuardType;rw[cM];simp only[agU d]
def abN:∀(d:Nat) (t:TypeId) (n:Nat),byteOfCell {P with funcs:=fs} d t n=byteOfCell P d t n
 |0,_,_=>rfl
 |d+1,t,n=>by
  unfold byteOfCell;rw[cM];simp only[adR,agT,abN d];rfl
def abO:∀(d:Nat) (t:TypeId) (n:Nat),cellOfByte {P with funcs:=fs} d t n=cellOfByte P d t n
 |0,_,_=>rfl
 |d+1,t,n=>by
  unfold cellOfByte;rw[cM];simp only[adR,agT,abO d];rfl
def aqn(d:Nat)(e:TypeId)(c o:Nat)(b:Int):cellAtBytes {P with funcs:=fs} d e c o b=cellAtBytes P d e c o b:=by
 unfold cellAtBytes;simp only[adR,agT,abN,abO];rfl
def adS(t:TypeId):({P with funcs:=fs}:Program).stoodInHeld t=P.stoodInHeld t:=by
 have b:∀(d:Nat) (t u:TypeId),({P with funcs:=fs}:Program).alikeButTags d t u=P.alikeButTags d t u:=by
  intro d
  induction d with
  |zero=>intro t u;rfl
  |succ d a=>
   intro t u;unfold Program.alikeButTags;simp only[kg,a]
 unfold Program.stoodInHeld Program.stoodInAs;simp only[cM,kg,adQ,b];rfl
def afV(d:Departure):({P with funcs:=fs}:Program).follows d=P.follows d:=rfl
def aqo(d:Nat)(e:TypeId)(c o:Nat)(u:TypeId)(n:Nat):liesAt {P with funcs:=fs} d e c o u n=liesAt P d e c o u n:=by
 have g:∀(d:Nat) (t u:TypeId),sameLayout {P with funcs:=fs} d t u=sameLayout P d t u:=by
  intro d
  induction d with
  |zero=>intro t u;rfl
  |succ d b=>
   intro t u;unfold sameLayout;simp only[cM,adS,b];rfl
 have f:∀(a:TypeId->Bool) (d:Nat) (e:TypeId) (c o n:Nat),rowAt {P with funcs:=fs} a d e c o n=rowAt P a d e c o n:=by
  intro a d
  induction d with
  |zero=>intro e c o n;rfl
  |succ d b=>
   intro e c o n;unfold rowAt;simp only[cM,adS,adR,b];rfl
 induction d generalizing e c o u n with
 |zero=>rfl
 |succ d b=>
  unfold liesAt;simp only[cM,g,f,b,adQ]
end
def dt(v:Value):Prop:=∀a:Ren,VR a v v
def bR.diag{ρ:Ren}:∀{l b:List Value},bR ρ l b->l=b->∀c∈l,VR ρ c c
 |_,_,.nil,_,c,a=>by cases a
 |_,_,.cons x y,e,c,a=>by
  simp only[qi] at e;obtain⟨rfl,e⟩:=e;rcases pa.1 a with rfl|a
  .exact x
  .exact y.diag e c a
def dt.cells(h:dt v):∀c∈v.cells.toList,dt c:=λc a b=>(h b).cells.diag rfl c a
def dt.agg{c:Array Value}(h:∀v∈c.toList,dt v):dt (.agg c):=λa=>.agg (bR.kL λv b=>h v b a)
def StI{β:Type}(I:β->Prop):ForInStep β->Prop
 |.done b=>I b
 |.yield b=>I b
def afW{e β:Type}{I:β->Prop}:∀(l:List e) {b c:β} {f:e->β->Option (ForInStep β)},forIn l b f=some c->I b->(∀a b r,I b->f a b=some r->StI I r)->I c
 |[],b,c,f,h,hb,_=>by
  rw[uk] at h;obtain rfl:=dq h;exact hb
 |a::l,b,c,f,h,hb,hf=>by
  rw[tZ] at h;cases d:f a b with
  |none=>rw[d] at h;cases h
  |some r=>
   rw[d] at h;have:=hf a b r hb d;cases r with
   |done x=>
    obtain rfl:=dq h;exact this
   |yield x=>exact afW l h this hf
def aiv(hi:∀t i v,L t=some i->i.zero=some v->dt v){E:Array Field}(h:Made.reckonStruct L E=some i):∀v,i.zero=some v->dt v:=by
 unfold Made.reckonStruct at h;dsimp only at h;obtain⟨s,A,h⟩:=pe.1 h;rw[<-tJ] at A;have w:=afW (I:=λs:Array Field×Nat×Nat×Nat×Nat×Bool×Bool×Option (Array Value)×String=>∀k,s.2.2.2.2.2.2.2.1=some k->∀v∈k.toList,dt v) _ A (λk e v l=>by
  obtain rfl:=dq e;cases l) λf B r D g=> ?_
 .intro v l;have y:i.zero=s.2.2.2.2.2.2.2.1.map Value.agg:=by
   split at h<;>(obtain rfl:=dq h;rfl)
  rw[y] at l;cases u:s.2.2.2.2.2.2.2.1 with
  |none=>rw[u] at l;cases l
  |some k=>
   rw[u] at l;obtain rfl:=dq l;exact dt.agg (w k u)
 .obtain⟨j,F,g⟩:=pe.1 g;have n:∀k,(if B.2.1+j.size>Made.mostCells then none else do
     let a<-B.2.2.2.2.2.2.2.1
     let b<-j.zero
     pure (a++b.cells):Option (Array Value))=some k->∀v∈k.toList,dt v:=λk e v l=>by
   split at e
   .cases e
   .obtain⟨a,G,e⟩:=pe.1 e;obtain⟨b,o,e⟩:=pe.1 e;obtain rfl:=dq e;rw[pv,oE] at l;rcases l with l|l
    .exact D a G v l
    .exact(hi _ _ _ F o).cells v l
  have m:∀(z:Option (Array Value)) (a:Array Field) (b c d e:Nat) (p q:Bool) (x:String),(∀k,z=some k->∀v∈k.toList,dt v)->(some (ForInStep.yield (a,b,c,d,e,p,q,z,x)):Option (ForInStep (Array Field×Nat×Nat×Nat×Nat×Bool×Bool×Option (Array Value)×String)))=some r->
    StI (λb=>∀k,b.2.2.2.2.2.2.2.1=some k->∀v∈k.toList,dt v) r:=λz a b c d e p q x y h=>by
   obtain rfl:=dq h;exact y
  split at g
  .cases g
  .split at g
   .cases g
   .split at g
    .obtain⟨C, -,g⟩:=pe.1 g;by_cases o:j.bytes=0
     .rw[du o] at g;exact m _ _ _ _ _ _ _ _ _ n g
     .rw[da o] at g;exact m _ _ _ _ _ _ _ _ _ n g
    .obtain⟨C, -,g⟩:=pe.1 g;by_cases o:j.bytes=0
     .rw[du o] at g;exact m _ _ _ _ _ _ _ _ _ n g
     .rw[da o] at g;exact m _ _ _ _ _ _ _ _ _ n g
def aob(hi:∀t i v,L t=some i->i.zero=some v->dt v){d:TypeDesc}(h:Made.reckon L d=some i):∀v,i.zero=some v->dt v:=by
 have f:∀(d:TypeDesc) (s:String) (z:Value) (c:Bool) (b:Nat),dt z->Made.word d s z c b=i->∀v,i.zero=some v->dt v:=λd s z c b p e v a=>by
  subst e;obtain rfl:=dq a;exact p
 unfold Made.reckon at h;cases d with
 |struct u=>exact aiv hi h
 |pointer e=>
  obtain⟨j,l,h⟩:=pe.1 h;have fin:∀{o:Option String},(do pure (Made.word (.pointer e) ("*" ++(<-o)) (.pointer none) true))=some i->∀v,i.zero=some v->dt v:=λ{o} h=>by
   obtain⟨s,g,h⟩:=pe.1 h;exact f _ _ _ _ _ (λ_=>.pointer .none) (dq h)
  split at h
  .cases h
  .split at h
   .cases h
   .exact fin h
  .exact fin h
 |slice e=>
  obtain⟨j,l,h⟩:=pe.1 h;obtain⟨s,g,h⟩:=pe.1 h;exact f _ _ _ _ _ (λ_=>.slice .none 0 0) (dq h)
 |map k e=>
  obtain⟨j,l,h⟩:=pe.1 h;obtain⟨s,g,h⟩:=pe.1 h;obtain⟨j,l,h⟩:=pe.1 h;obtain⟨s,g,h⟩:=pe.1 h;exact f _ _ _ _ _ (λ_=>.map .none) (dq h)
 |chan k e=>
  obtain⟨j,l,h⟩:=pe.1 h;obtain⟨s,g,h⟩:=pe.1 h;exact f _ _ _ _ _ (λ_=>.chan .none) (dq h)
 |func w q v=>
  obtain⟨s,g,h⟩:=pe.1 h;exact f _ _ _ _ _ (λ_=>.nilFunc) (dq h)
 |array n e=>
  obtain⟨j,l,h⟩:=pe.1 h;obtain⟨s,g,h⟩:=pe.1 h;obtain rfl:=dq h;intro v a;dsimp only at a;split at a
  .cases a
  .split at a
   .obtain rfl:=dq a;exact dt.agg λv a=>by cases a
   .cases p:j.zero with
    |none=>rw[p] at a;cases a
    |some z=>
     rw[p] at a;obtain rfl:=dq a;refine dt.agg λv a=>(hi _ _ _ l p).cells v ?_;simp only[sq,Array.mem_flatten] at a;obtain⟨r,m,a⟩:=a;rw[Array.mem_replicate] at m;rw[<-m.2];exact sq.2 a
 |_=>cases h
def aoc(c:∀(t:Nat) (i:TypeInfo) (v:Value),P.types[t]?=some i->i.zero=some v->dt v):∀t i v,P.info? t=some i->i.zero=some v->dt v:=by
 have b:∀(f:Nat) t i v,Made.infoAt P.toTables f t=some i->i.zero=some v->dt v:=by
  intro f
  induction f with
  |zero=>intro t i v h;cases h
  |succ f e=>
   intro t i v h a;unfold Made.infoAt at h;split at h
   .exact c t i v h a
   .obtain⟨d,hd,h⟩:=pe.1 h;exact aob e h v a
 intro t i v h a;unfold Tables.info? at h;split at h
 .exact c t i v h a
 .exact b _ t i v h a
noncomputable def zOk(t:Nat):Bool:=match prog.types[t]? with
 |some i=>match i.zero with
  |some v=>oh (λ_=>false) 6 v
  |none=>true
 |none=>true
def atS:(List.range prog.types.size).all zOk=true:=by kernel_rfl
def acz:∀(d:Nat) (v:Value),oh (λ_=>false) d v=true->dt v
 |0,v,h=>by cases h
 |d+1,v,h=>by
  have g:∀l:List Value,l.all (oh (λ_=>false) d)=true->∀e:Ren,bR e l l:=λl i e=>bR.kL λv j=>acz d v (lw.1 i v j) e;intro e;cases v with
  |bool b=>exact .bool b
  |int k n=>exact .int k n
  |string s=>exact .string s
  |nilFunc=>exact .nilFunc
  |nilIface=>exact .nilIface
  |pointer a=>cases a with
   |none=>exact .pointer .none
   |some a=>cases h
  |slice a n c=>cases a with
   |none=>exact .slice .none n c
   |some a=>cases h
  |map a=>cases a with
   |none=>exact .map .none
   |some a=>cases h
  |chan a=>cases a with
   |none=>exact .chan .none
   |some a=>cases h
  |func f a c=>
   unfold oh at h;simp only[ga] at h;cases f<;>(have:=h.1.1;cases this)
  |iface t v=>exact .iface t (acz d v h e)
  |agg c=>exact .agg (g _ h e)
  |tuple c=>exact .tuple (g _ h e)
  |float|complex=>cases h
def axh:∀t i v,prog.info? t=some i->i.zero=some v->dt v:=aoc λt i v h b=>by
 have a:=(dl.1 h).1;have:=lw.1 atS t (qy.2 a);unfold zOk at this;rw[h] at this;dsimp only at this;rw[b] at this;exact acz 6 v this
noncomputable def amJ(fn:Func):Bool:=!(fn.name == "runtime.NumGoroutine")
def aiw:prog.funcs.toList.all amJ=true:=by kernel_rfl
def afX{a:FuncId->Bool}{b:List Nat}{o:Op}(h:mB P a b o=true)(g:Nat):o ≠ .ready g:=λe=>by
 subst e;unfold mB at h;simp at h
def afq(P:Program)(t:FuncId->Bool)(r:List Nat)(s:TypeId):∀c:Code,readies (bP P t r s c)=[]:=by
 intro c
 induction c with
 |region id v draw=>
  unfold bP;have m:∀l:List Oper,(∀o∈l,∀g,o.op ≠ .ready g)->(l.filterMap λo=>match o.op with|.ready g=>some g|_=>none)=[]:=by
   intro l w;rw[List.filterMap_eq_nil_iff];intro o k;split
   .rename_i g e;exact absurd e (w o k g)
   .rfl
  split
  .rename_i h;exact m _ λo k g=>afX (lw.1 h o k) g
  .split
   .rename_i h;refine m _ λo k g e=> ?_;rw[qF,qs] at k;obtain⟨p,u,rfl⟩:=k;have j:=lw.1 h p u;have q:(aal t r s p).op=p.op:=by unfold aal;split<;>rfl
    rw[q] at e;simp only[rc] at j;rcases j with j|j
    .exact afX j g e
    .rw[e] at j;cases j
   .rfl
 |seq a b i d=>unfold bP readies;rw[i,d];rfl
 |cond c a b i d=>
  unfold bP;split
  .unfold readies;rw[i,d];rfl
  .rfl
 |rangeFunc f x a b i d=>
  unfold bP;split
  .unfold readies;rw[i,d];rfl
  .rfl
 |block id a n=>unfold bP readies;exact n
 |loop a n=>unfold bP readies;exact n
 |scope a n=>unfold bP readies;exact n
 |_=>rfl
def atT(P:Program)(m:Array Func)(k:FuncId->Bool)(i:List Nat)(j:TypeId):∀c:Code,bP {P with funcs:=m} k i j c=bP P k i j c:=by
 intro c
 induction c with
 |region id l draw=>rfl
 |seq a b e d=>unfold bP;rw[e,d]
 |cond c a b e d=>unfold bP;rw[e,d]
 |rangeFunc f n a b e d=>unfold bP;rw[e,d]
 |block id a g=>unfold bP;rw[g]
 |loop a g=>unfold bP;rw[g]
 |scope a g=>unfold bP;rw[g]
 |_=>rfl
section
variable (β:Bool)
def acA:(ai β).funcs[nCC]?=some qCC:=by
 have:nCC<(prog.funcs.map pf).size:=by rw[tQ];exact(dl.1 func139).1
 show(((prog.funcs.map pf).setIfInBounds cD (qFA β)).setIfInBounds nCC qCC)[nCC]?=_;rw[qg (by simpa using this)]
def acB:(ai β).funcs[cD]?=some (qFA β):=by
 have:cD<(prog.funcs.map pf).size:=by rw[tQ];exact(dl.1 func72).1
 show(((prog.funcs.map pf).setIfInBounds cD (qFA β)).setIfInBounds nCC qCC)[cD]?=_;rw[jt (by decide),qg this]
def akA{f:Nat}(a:f≠nCC)(b:f≠cD):(ai β).funcs[f]?=(prog.funcs[f]?).map pf:=by
 show(((prog.funcs.map pf).setIfInBounds cD (qFA β)).setIfInBounds nCC qCC)[f]?=_;rw[jt (sH a),jt (sH b),ru]
def axi:(ai β).funcs.size=prog.funcs.size:=by
 show(((prog.funcs.map pf).setIfInBounds cD (qFA β)).setIfInBounds nCC qCC).size=_;simp
end
def azw:gH nCC=true:=by unfold gH;kernel_rfl
def akB:readies jZ=[]:=by kernel_rfl
def azx:gH cD=true:=by unfold gH;kernel_rfl
def azy:prog.follows .staticDataAhead=true:=by kernel_rfl
def azz:prog.underlying 3=some (.int .i64):=by kernel_rfl
def amK:f139.body.isSome=true:=by kernel_rfl
def amL:f72.body.isSome=true:=by kernel_rfl
section
variable (β:Bool)
def aqp(g:Nat):(ai β).stepOf g=none:=by
 unfold Program.stepOf;rw[Array.findIdx?_eq_none_iff];intro fn b;obtain⟨f,a⟩:=Array.getElem?_of_mem b;by_cases i:f=nCC
 .subst i;rw[acA] at a;obtain rfl:=dq a;show((some nD).map readies).any (·.contains g)=false;rfl
 by_cases e:f=cD
 .subst e;rw[acB] at a;obtain rfl:=dq a;cases β with
  |true=>
   show(readies jZ).contains g=false;rw[akB];rfl
  |false=>rfl
 rw[akA β i e] at a;obtain⟨d,j,rfl⟩:=lc.1 a;show((d.body.map gP).map readies).any (·.contains g)=false;cases d.body with
 |none=>rfl
 |some c=>
  show(readies (gP c)).contains g=false;have:readies (gP c)=[]:=by unfold gP;exact afq _ _ _ _ c
  rw[this];rfl
def cJ{f:Nat}{fn:Func}(h:prog.funcs[f]?=some fn):(fn.name == "runtime.NumGoroutine")=false:=by
 have:=lw.1 aiw fn (sq.2 (qH h));unfold amJ at this;simpa using this
def agV(f:FuncId)(fn:Func)(h:(ai β).funcs[f]?=some fn):∃b,prog.funcs[f]?=some b/\FnR (gH f) fn b:=by
 by_cases k:f=nCC
 .subst k;rw[acA] at h;obtain rfl:=dq h;have g:=cJ func139;refine⟨_,func139,rfl,g,rfl,rfl,rfl,λe=>(by cases e),λc _=> ?_⟩;obtain⟨d,a⟩:=rE.1 amK;exact⟨d,a,λe=>by rw[azw] at e;cases e⟩
 by_cases j:f=cD
 .subst j;rw[acB] at h;obtain rfl:=dq h;have g:=cJ func72;refine⟨_,func72,rfl,g,rfl,rfl,rfl,λe=>(by cases e),λc _=> ?_⟩;obtain⟨d,a⟩:=rE.1 amL;exact⟨d,a,λe=>by rw[azx] at e;cases e⟩
 rw[akA β k j] at h;obtain⟨b,i,rfl⟩:=lc.1 h;have g:=cJ i;refine⟨b,i,rfl,g,rfl,rfl,rfl,λe=> ?_,λc e=> ?_⟩
 .have e:b.body.map gP=none:=e;have:b.body=none:=by simpa using e
  unfold pf;rw[this];cases b;dsimp only at this;subst this;rfl
 .have e:b.body.map gP=some c:=e;obtain⟨d,a,rfl⟩:=lc.1 e;exact⟨d,a,λ_=>rfl⟩
def mo:Twin (ai β) prog where
 info t:=(kg prog _ t).symm
 under t:=(cM prog _ t).symm
 rt:=rfl
 depth:=(adQ prog _).symm
 globals:=by unfold gN;exact⟨rfl,rfl⟩
 zero t i v h hv ρ:=axh t i v ((kg prog _ t).symm.trans h) hv ρ
 stood t:=(adS prog _ t).symm
 avJ:=rfl
 cellAt d e c o b:=(aqn prog _ d e c o b).symm
 lies d e c o u n:=(aqo prog _ d e c o u n).symm
 aj2 d t:=(agU prog _ d t).symm
 follows d:=(afV prog _ d).symm
 pc:=by
  unfold gP
  funext c
  exact(atT prog _ gA gL gB c).symm
 asY e h:=by
  have a:gB=3:=by unfold gB;rfl
  rw[a] at h;have:=((cM prog _ 3).symm.trans h);rw[azz] at this;cases this
 func:=agV β
 ahU:=(axi β).symm
 nC:=⟨(afV prog _ _).trans azy,aqp β⟩
end
def agW{r:Y->Y->Prop}{a:Y}(h:∀f:Nat->Y,f 0=a->¬ ∀n,r (f (n+1)) (f n)):Acc r a:=by
 refine qS λe=> ?_;have step:∀x:{x:Y // ¬Acc r x},∃y:{x:Y // ¬Acc r x},r y.1 x.1:=λx=>qS λd=>x.2 ⟨_,λy c=>qS λb=>d ⟨⟨y,b⟩,c⟩⟩
 let f:Nat->{x:Y // ¬Acc r x}:=λn=>Nat.rec ⟨a,e⟩ (λ_ x=>(step x).choose) n
 exact h (λn=>(f n).1) rfl λn=>(step (f n)).choose_spec
def nE(g:Goroutine)(w:World):Machine:={world:=w,gs:=#[g],rest:={timers:=#[],alone:=none,slice:=none}}
def ib(h:nE g w=nE g' w'):g=g'/\w=w':=by
 unfold nE at h;simp only[Machine.mk.injEq,Array.mk.injEq,qi,qw] at h;exact⟨h.2,h.1⟩
def aix(a:g.status=.running):move P (nE g w)=.goroutine (nE g w) 0:=by
 simp[move,ask,askOn,nE,runnable_eq,due,ahead,Goroutine.canRun,uQ,choose,pure,Sem.run,Question.forced,a]
def dM(a:g.status=.running)(h:stepG P true g w=.go g' w' es):step P (nE g w)=.next (nE g' w'):=by
 rw[step,stepT,aix a];simp[runT,nE,Array.swapAt!,h]
def cE{o:Outcome}(a:g.status=.running)(h:stepG P true g w=.ended o w' es):step P (nE g w)=.ended o w':=by
 rw[step,stepT,aix a];simp[runT,nE,Array.swapAt!,h]
def acC(c:g.status=.blocked):∃o b,step P (nE g w)=.ended o b:=by
 rw[step,stepT];have:∃s a,move P (nE g w)=.machine s a/\∃o b,s=.ended o b:=by
  simp only[move,ask,askOn,nE,runnable_eq,due,ahead,Goroutine.canRun,c];simp[uQ,choose,pure,Sem.run,Question.forced,c];generalize endWith _ _ _ _=q;cases q<;>exact⟨_,⟨_,rfl⟩,_,_,rfl⟩
 obtain⟨s,a,d,o,b,rfl⟩:=this;rw[d];exact⟨o,b,rfl⟩
def acD(a:g.status=.waiting):step P (nE g w)=.next (nE g w):=by
 rw[step,stepT];have:move P (nE g w)=.machine (.next (nE g w)):=by
  simp[move,ask,askOn,nE,runnable_eq,due,ahead,Goroutine.canRun,uQ,choose,pure,Sem.run,Question.forced,a]
 rw[this]
def kh(P:Program):Frame:={fn:=P.funcs.size,tmps:=#[],todo:=[.call ⟨.nil,#[]⟩ false "fmt's door" #[]],defers:=[],mode:=.run,kind:=.normal}
def aqq(base:List Frame)(g:Goroutine):Prop:=g.callers=base/\g.frame.mode=.returning/\g.frame.defers=[]/\g.status=.running/\g.dying=none
section
variable {P:Program}
def aaU{g:Goroutine}{w:World}(h:g.status=.blocked\/g.status=.waiting):∀n a b,runN P n (nE g w)=.next (nE a b)->¬aqq [kh P] a
 |0,a,b,hr,hf=>by
  simp only[runN,qP] at hr;obtain⟨rfl,rfl⟩:=ib hr;rcases h with h|h<;>rw[hf.2.2.2.1] at h<;>cases h
 |n+1,a,b,hr,hf=>by
  unfold runN at hr;rcases h with h|h
  .obtain⟨o,d,c⟩:=acC (P:=P) (w:=w) h;rw[c] at hr;cases hr
  .rw[acD h] at hr;exact aaU (.inr h) n a b hr hf
def ada:∀(n:Nat) {a:Frame} {w:World} {d:Dying} {f:Fatal},d.fatal=some f->d.calling=false->∀b g,runN P n (nE ⟨a,[],.running,some d,none⟩ w)=.next (nE b g)->¬aqq [kh P] b
 |0,a,w,d,f,h1,h2,b,g,hr,hf=>by
  simp only[runN,qP] at hr;obtain⟨rfl,rfl⟩:=ib hr;have:=hf.2.2.2.2;cases this
 |n+1,a,w,d,f,h1,h2,b,g,hr,hf=>by
  unfold runN at hr;have m:(∃o c i,stepG P true ⟨a,[],.running,some d,none⟩ w=.ended o c i)\/
    ∃k l c i,(k=.running\/k=.blocked)/\stepG P true ⟨a,[],.running,some d,none⟩ w=.go ⟨a,[],k,some {d with fatal:=some l},none⟩ c i:=by
   obtain⟨r,p,e,j,s,hand,fatal⟩:=d;dsimp only at h1 h2;subst h1 h2;simp only[stepG,die,writeOn];split
   .exact .inl ⟨_,_,_,rfl⟩
   .split
    .exact .inr ⟨_,_,_,_,.inl rfl,rfl⟩
    .exact .inr ⟨_,_,_,_,.inr rfl,rfl⟩
    .exact .inl ⟨_,_,_,rfl⟩
    .exact .inl ⟨_,_,_,rfl⟩
  rcases m with⟨o,c,i,h⟩|⟨k,l,c,i,q,h⟩
  .rw[cE rfl h] at hr;cases hr
  .rw[dM rfl h] at hr;rcases q with rfl|rfl
   .exact ada n (d:={d with fatal:=some l}) (f:=l) rfl h2 b g hr hf
   .exact aaU (.inl rfl) n b g hr hf
def aqr{b:Nat}(e:∀x l,w.heap[b]?≠some (.deferred (some (x::l)))):(∃h c a,(Instr.takeDeferred b).runT P w #[]=(.halt h c,a))\/∃a,(Instr.takeDeferred b).runT P w #[]=(.ok [] {w with heap:=w.heap.setIfInBounds b (.deferred none)},a):=by
 unfold Instr.takeDeferred;show(∃h c a,(Sem.getObj b λo=>_).runT P w #[]=_)\/∃a,(Sem.getObj b λo=>_).runT P w #[]=_;rw[Sem.runT];cases d:w.heap[b]? with
 |none=>exact .inl ⟨_,_,_,rfl⟩
 |some o=>
  cases o with
  |deferred q=>
   cases q with
   |none=>exact .inl ⟨_,_,_,rfl⟩
   |some l=>
    cases l with
    |cons x l=>exact absurd d (e x l)
    |nil=>
     refine .inr ⟨(#[].push ⟨.obj b,false,false⟩).push ⟨.obj b,true,false⟩, ?_⟩;show(Sem.setObj b (.deferred none) (Sem.pure [])).runT P w (#[].push ⟨.obj b,false,false⟩)=_;rw[Sem.runT,d];show(Sem.pure []).runT P {w with heap:=w.heap.setIfInBounds b (.deferred none)} _=_;rw[Sem.runT];rfl
  |_=>exact .inl ⟨_,_,_,rfl⟩
def wK(fr:Frame)(b:List PanicEntry):∃a,(fr.raise b).mode=.panicking a:=by
 unfold Frame.raise;split<;>exact⟨_,rfl⟩
def abP(fr:Frame)(a:List PanicEntry):(fr.raise a).defers=fr.defers:=by
 unfold Frame.raise;split<;>rfl
def akC(a:List PanicEntry):((kh P).raise a).catches P=true:=by
 have h:P.funcs[P.funcs.size]?=none:=by rw[qm];exact am _
 show(match P.funcs[P.funcs.size]?,[Item.call ⟨.nil,#[]⟩ false "fmt's door" #[]] with
  |none,.call _ _ resume _::_=>resume.startsWith "fmt's door"
  |_,_=>false)=true
 rw[h];show "fmt's door".startsWith "fmt's door" =true
 decide+kernel
def nG:∀(n:Nat) {A:Frame} {i:List Frame} {w:World} {a:List PanicEntry},A.mode=.panicking a->((∀f∈A::i,kV w f.defers)\/False)->∀z B,runN P n (nE ⟨A,i++[kh P],.running,none,none⟩ w)=.next (nE z B)->¬aqq [kh P] z
 |0,A,i,w,a,hm,_,z,B,hr,hf=>by
  simp only[runN,qP] at hr;obtain⟨rfl,rfl⟩:=ib hr;have:=hf.2.1;rw[hm] at this;cases this
 |n+1,A,i,w,a,hm,hd,z,B,hr,hf=>by
  replace hd:=hd.resolve_right id;unfold runN at hr;obtain⟨f,q,p,s,L,m,k⟩:=A;dsimp only at hm;subst hm;have C:stepG P true ⟨⟨f,q,p,s,.panicking a,m,k⟩,i++[kh P],.running,none,none⟩ w=unwind P true ⟨f,q,p,s,.panicking a,m,k⟩ (i++[kh P]) none w:=rfl;cases s with
  |cons d s=>
   obtain⟨b,rfl,I⟩:=hd _ (qB ..) d (qB ..);have F:(∃o j g,unwind P true ⟨f,q,p,⟨.collected b,#[]⟩::s,.panicking a,m,k⟩ (i++[kh P]) none w=.ended o j g)\/
     ∃g,unwind P true ⟨f,q,p,⟨.collected b,#[]⟩::s,.panicking a,m,k⟩ (i++[kh P]) none w=.go ⟨⟨f,q,p,s,.panicking a,m,k⟩,i++[kh P],.running,none,none⟩ {w with heap:=w.heap.setIfInBounds b (.deferred none)} g:=by
    rcases aqr (P:=P) I with⟨h,j,g,e⟩|⟨g,e⟩
    .refine .inl ⟨.stuck "the deferred calls of a range-over-func loop have been taken" (Frame.pos P ⟨f,q,p,⟨.collected b,#[]⟩::s,.panicking a,m,k⟩),j,seen P f g, ?_⟩;unfold unwind;simp only[e];simp[GStep.after]
    .refine .inr ⟨seen P f g, ?_⟩;unfold unwind;simp only[e];simp[GStep.after]
   rcases F with⟨o,j,g,h⟩|⟨g,h⟩
   .rw[cE rfl (C.trans h)] at hr;cases hr
   .rw[dM rfl (C.trans h)] at hr;refine nG n rfl (.inl λx u=> ?_) z B hr hf;have D:kV w x.defers:=by
     rcases pa.1 u with rfl|u
     .exact λd v=>hd _ (qB ..) d (rb _ v)
     .exact hd x (by simp[u])
    intro d v;obtain⟨c,rfl,K⟩:=D d v;exact⟨c,rfl,λy l e=>by
     change (w.heap.setIfInBounds b (.deferred none))[c]?=_ at e;rw[oR] at e;split at e
     .split at e
      .cases e
      .cases e
     .exact K y l e⟩
  |nil=>
   by_cases t:Frame.catches P ⟨f,q,p,[],.panicking a,m,k⟩=true
   .have h:∃o j g,unwind P true ⟨f,q,p,[],.panicking a,m,k⟩ (i++[kh P]) none w=.ended o j g:=by
     unfold unwind;simp only[t,pu];exact⟨_,_,_,rfl⟩
    obtain⟨o,j,g,h⟩:=h;rw[cE rfl (C.trans h)] at hr;cases hr
   .cases i with
    |nil=>
     have h:unwind P true ⟨f,q,p,[],.panicking a,m,k⟩ ([]++[kh P]) none w=.go ⟨(kh P).raise a,[],.running,none,none⟩ w #[]:=by
      unfold unwind;simp only[t,qV];rfl
     rw[dM rfl (C.trans h)] at hr;cases n with
     |zero=>
      simp only[runN,qP] at hr;obtain⟨rfl,rfl⟩:=ib hr;have:=hf.1;cases this
     |succ n=>
      unfold runN at hr;obtain⟨G,r⟩:=wK (kh P) a;have E:∃o j g,stepG P true ⟨(kh P).raise a,[],.running,none,none⟩ w=.ended o j g:=by
       have H:stepG P true ⟨(kh P).raise a,[],.running,none,none⟩ w=unwind P true ((kh P).raise a) [] none w:=by
        simp only[stepG,r]
       rw[H];unfold unwind;have J:((kh P).raise a).defers=[]:=(abP _ _).trans rfl;rw[J];simp only[r,akC,pu];exact⟨_,_,_,rfl⟩
      obtain⟨o,j,g,E⟩:=E;simp only[cE rfl E] at hr;cases hr
    |cons c i=>
     have h:unwind P true ⟨f,q,p,[],.panicking a,m,k⟩ (c::i++[kh P]) none w=.go ⟨c.raise a,i++[kh P],.running,none,none⟩ w #[]:=by
      unfold unwind;simp only[t,qM];rfl
     rw[dM rfl (C.trans h)] at hr;obtain⟨G,r⟩:=wK c a;refine nG n r (.inl λx u=> ?_) z B hr hf;rcases pa.1 u with rfl|u
     .rw[abP];exact hd c (by simp)
     .exact hd x (by simp[u])
def aod{s:GStep}(h:ng [kh P] s):(∃o w a,s=.ended o w a)\/∃g w a,s=.go g w a/\∀n b e,runN P n (nE g w)=.next (nE b e)->¬aqq [kh P] b:=by
 cases h with
 |ended o w a=>exact .inl ⟨_,_,_,rfl⟩
 |stop h=>exact .inr ⟨_,_,_,rfl,aaU h⟩
 |raised c hd=>exact .inr ⟨_,_,_,rfl,λn=>nG n c (.inl hd)⟩
 |dying d f=>exact .inr ⟨_,_,_,rfl,λn=>ada n d f⟩
end
structure Cfg where
 l:List Frame
 w:World
 t:Tape
structure aeu (P:Program) (c c1:Cfg):Prop where
 ne:c.l≠[]
 on:¬pj c.l
 drawn:c.w.drawn<=c1.w.drawn
 tape:∀i q,i<c.w.drawn->c1.t i q=c.t i q
 step:∃es,∀(base:List Frame) (t:Tape),(∀i q,i<c1.w.drawn->t i q=c1.t i q)->stepG P true (Gl c.l base) (c.w.dR t)=.go (Gl c1.l base) (c1.w.dR t) es
def jY(P:Program)(R:List Frame->World->Prop)(c:Cfg):Prop:=
 ∀t:Tape,(∀i q,i<c.w.drawn->t i q=c.t i q)->∃n a b,runN P n (nE (Gl c.l [kh P]) (c.w.dR t))=.next (nE (Gl a [kh P]) b)/\pj a/\R a b
section
variable {P:Program} {R:List Frame->World->Prop}
def ju(h:l≠[])(base:List Frame):(Gl l base).status=.running:=by
 cases l with
 |nil=>exact absurd rfl h
 |cons x a=>rfl
def nH{base : List Frame}(h:l≠[])(a:l'≠[])(e:Gl l base=Gl l' base):l=l':=by
 cases l with
 |nil=>exact absurd rfl h
 |cons x c=>
  cases l' with
  |nil=>exact absurd rfl a
  |cons y b=>
   unfold Gl at e;simp only[Goroutine.mk.injEq,List.append_cancel_right_eq] at e;rw[e.1,e.2.1]
def pj.ne(h:pj l):l≠[]:=by
 obtain⟨a,rfl, -⟩:=h;exact λe=>by cases e
def pj.fin(h:pj l)(base:List Frame):aqq base (Gl l base):=by
 obtain⟨c,rfl,a,b, -⟩:=h;exact⟨rfl,a,b,rfl,rfl⟩
def jY.step{c c1:Cfg}(h:jY P R c)(a:aeu P c c1):jY P R c1:=λt f=>by
 obtain⟨o,k⟩:=a.step;obtain⟨n,m,j,b,d,l⟩:=h t λi q g=>by
  rw[f i q (bd g a.drawn),a.tape i q g]
 cases n with
 |zero=>
  simp only[runN,qP] at b;obtain⟨e, -⟩:=ib b;obtain rfl:=nH a.ne d.ne e;exact absurd d a.on
 |succ n=>
  unfold runN at b;rw[dM (ju a.ne _) (k [kh P] t f)] at b;exact⟨n,m,j,b,d,l⟩
def jY.acc{c:Cfg}(h:jY P R c):Acc (λw c=>aeu P c w) c:=by
 classical
 refine agW λf x a=> ?_;subst x;have t:∀{m n},m<=n->(f m).w.drawn<=(f n).w.drawn:=λ{m n} b=>by
  induction b with
  |refl=>exact am _
  |step _ p=>exact ap p (a _).drawn
 have l:∀{m n},m<=n->∀i q,i<(f m).w.drawn->(f n).t i q=(f m).t i q:=λ{m n} b=>by
  induction b with
  |refl=>exact λ_ _ _=>rfl
  |step r p=>exact λi q o=>((a _).tape i q (bd o (t r))).trans (p i q o)
 let T:Tape:=λi q=>if d:∃n,i<(f n).w.drawn then(f d.choose).t i q else 0
 have u:∀n i q,i<(f n).w.drawn->T i q=(f n).t i q:=λn i q o=>by
  have d:∃n,i<(f n).w.drawn:=⟨n,o⟩;show(if d:∃n,i<(f n).w.drawn then(f d.choose).t i q else 0)=_;rw[tW d];rcases Nat.le_total d.choose n with g|g
  .exact(l g i q d.choose_spec).symm
  .exact l g i q o
 have s:∀n,Go.step P (nE (Gl (f n).l [kh P]) ((f n).w.dR T))=.next (nE (Gl (f (n+1)).l [kh P]) ((f (n+1)).w.dR T)):=λn=>by
  obtain⟨B,z⟩:=(a n).step;exact dM (ju (a n).ne _) (z _ T (u (n+1)))
 have y:∀n k,runN P n (nE (Gl (f k).l [kh P]) ((f k).w.dR T))=.next (nE (Gl (f (k+n)).l [kh P]) ((f (k+n)).w.dR T)):=by
  intro n
  induction n with
  |zero=>intro k;rfl
  |succ n p=>
   intro k;unfold runN;rw[s k];simp only;rw[p (k+1),show k+1+n=k+(n+1) by omega]
 obtain⟨n,C,A,v,j, -⟩:=h T (u 0);rw[y n 0,qP] at v;obtain⟨e, -⟩:=ib v;obtain rfl:=nH (a (0+n)).ne j.ne e;exact(a (0+n)).on j
def jY.fin{c:Cfg}(h:jY P R c)(u:pj c.l)(B:Extern.next "fmt's door" =none)(t:Tape)(z:∀i q,i<c.w.drawn->t i q=c.t i q):R c.l (c.w.dR t):=by
 obtain⟨n,J,D,a,g,C⟩:=h t z;cases n with
 |zero=>
  simp only[runN,qP] at a;obtain⟨e,rfl⟩:=ib a;obtain rfl:=nH u.ne g.ne e;exact C
 |succ n=>
  exfalso;obtain⟨j,A,x,hd,p⟩:=u;rw[A] at a;have k:(∃o b d,stepG P true (Gl [j] [kh P]) (c.w.dR t)=.ended o b d)\/∃v b d,stepG P true (Gl [j] [kh P]) (c.w.dR t)=.go ⟨(kh P).finish v,[],.running,none,none⟩ b d:=by
   obtain⟨f,l,w,G,F,E,m⟩:=j;dsimp only at x hd p;subst x hd p;have y:stepG P true (Gl [⟨f,l,w,[],.returning,.normal,m⟩] [kh P]) (c.w.dR t)=unwind P true ⟨f,l,w,[],.returning,.normal,m⟩ [kh P] none (c.w.dR t):=rfl;rw[y];unfold unwind;dsimp only;cases I:P.funcs[f]? with
   |none=>exact .inr ⟨_,_,_,rfl⟩
   |some fn=>
    dsimp only;generalize (results fn l).runT P (c.w.dR t) #[]=q;obtain⟨r,d⟩:=q;cases r with
    |ok v b=>exact .inr ⟨v,b,_,rfl⟩
    |halt h b=>cases h<;>exact .inl ⟨_,_,_,rfl⟩
  unfold runN at a;rcases k with⟨o,b,d,e⟩|⟨v,b,d,e⟩
  .rw[cE rfl e] at a;cases a
  .rw[dM rfl e] at a;cases n with
   |zero=>
    simp only[runN,qP] at a;obtain⟨e, -⟩:=ib a;obtain⟨H,rfl, -⟩:=g;have:=jp Goroutine.callers e;cases this
   |succ n=>
    unfold runN at a;have s:stepG P true ⟨(kh P).finish v,[],.running,none,none⟩ b=(Extern.next "fmt's door").elim (.ended (.stuck ("no extern row " ++ "fmt's door") (Frame.pos P ((kh P).finish v))) b #[]) λe=>stepG.apply P true ((kh P).finish v) [] none (e (#[].push v)) b:=rfl;rw[B] at s;simp only[cE rfl s] at a;cases a
end
section
variable {P P':Program} {R:List Frame->World->Prop} {ρ:Ren}
def sim(T:Twin P P')(X:ahZ P P')(C:GlR ρ){c:Cfg}(m':Bool)(y:iR P ρ c.l l')(K:WR ρ c.w w')(x:¬pj c.l)(z:jY P R c) :
  ∃p k d m l f,aeu P c p/\jY P R p/\ρ.Le k/\(∀base,stepG P' m' (Gl l' base) w'=.go (Gl d base) m f)/\WR k p.w m/\Kept ρ k c.w w' p.w m/\EvW c.w k l f/\GoR P P' k p.l d:=by
 obtain⟨a,D,H⟩:=axg (P:=P) (P':=P') T X C true m' y K x;have b:c.l≠[]:=λe=>by rw[e] at y;cases y
 rcases H with H|⟨k,O,s,l,d,m,f,G,Q,M,F,J,N,I,L⟩
 .exfalso;have B:=H [kh P] (λi q=>if i<c.w.drawn then c.t i q else a i q) λi q r _=>da (by omega);obtain⟨n,U,V,j,v, -⟩:=z (λi q=>if i<c.w.drawn then c.t i q else a i q) λi q r=>du r;cases n with
  |zero=>
   simp only[runN,qP] at j;obtain⟨e, -⟩:=ib j;obtain rfl:=nH b v.ne e;exact x v
  |succ n=>
   unfold runN at j;rcases aod B with⟨o,w,l,e⟩|⟨g,w,l,e,u⟩
   .rw[cE (ju b _) e] at j;cases j
   .rw[dM (ju b _) e] at j;exact u n _ _ j (v.fin _)
 .have A:aeu P c ⟨O,s,λi q=>if i<c.w.drawn then c.t i q else a i q⟩:=
   ⟨b,x,by show c.w.drawn<=s.drawn;omega,λi q r=>du r,l,λbase t E=>G base t λi q r S=>by
    rw[E i q (by show i<s.drawn;omega)];exact da (by omega)⟩
  exact⟨_,k,d,m,l,f,A,z.step A,M,F,J,N,I,L⟩
end
section
variable {P P':Program} {ρ:Ren}
def adb:∀(n t:Nat) (acc:Array Value),(∀v∈acc.toList,dt v)->∀v∈(Extern.BytealgMakeNoZero.digits n t acc).toList,dt v
 |0,_,acc,h=>h
 |n+1,t,acc,h=>by
  unfold Extern.BytealgMakeNoZero.digits;refine adb n _ _ λv a=> ?_;rw[rS,oE] at a;rcases a with a|a
  .exact h v a
  .simp at a;subst a;exact λ_=>.int _ _
def abQ(T:Twin P P')(i f:Array TypeId){a : Array Value}(h:dw ρ a W):az P P' VR ρ (Extern.BytealgMakeNoZero.makeNoZero i f a) (Extern.BytealgMakeNoZero.makeNoZero i f W):=by
 unfold Extern.BytealgMakeNoZero.makeNoZero;obtain⟨a⟩:=a;obtain⟨W⟩:=W;have h:bR ρ a W:=h;cases h with
 |nil=>exact .halt _ _
 |cons j o=>
  cases o with
  |cons=>cases j<;>exact .halt _ _
  |nil=>
   cases j with
   |int k n=>
    cases k<;>try exact .halt _ _
    dsimp only;cases f[0]? with
    |none=>exact .halt _ _
    |some t=>
     dsimp only;refine aj (aC T t) λE d A D hd=> ?_;obtain⟨rfl, -⟩:=hd;cases d with
     |slice e=>
      dsimp only;refine aV (λ_=>dU _) λ_=> ?_;refine aj (iV _) λB c l w q=> ?_;obtain rfl:c=l:=q;refine aj (aj3 c) λx _ _ C _=> ?_;refine aj (iV _) λs b m z q=> ?_;obtain rfl:b=m:=q;refine aj (oU e (bR.kL λv g=>adb _ _ _ (λv g=>by cases g) v g _)) λy r u F p=> ?_;exact ak (.slice (.some p) _ _)
     |_=>exact .halt _ _
   |_=>exact .halt _ _
def ade:∀(n:Nat) {ρ:Ren} {a c:Addr} (acc:ByteArray),AR ρ a c->az P P' jC ρ (Extern.Bytes.loadBytes a n acc) (Extern.Bytes.loadBytes c n acc)
 |0,_,_,_,_,_=>ak rfl
 |n+1,ρ,a,c,acc,h=>by
  unfold Extern.Bytes.loadBytes;refine aj (apG .plain h) λg v f e d=> ?_;cases d with
  |int k b=>
   cases k<;>first|exact ade n _ ((h.mono e).add 1)|exact .halt _ _
  |_=>exact .halt _ _
def adf{a : Array Value}(h:dw ρ a W):az P P' VR ρ (Extern.BytealgIndexByte.indexByte a) (Extern.BytealgIndexByte.indexByte W):=by
 unfold Extern.BytealgIndexByte.indexByte;obtain⟨a⟩:=a;obtain⟨W⟩:=W;have h:bR ρ a W:=h;cases h with
 |nil=>exact .halt _ _
 |cons m d=>
  cases d with
  |nil=>exact .halt _ _
  |cons g d=>
   cases d with
   |cons=>exact .halt _ _
   |nil=>
    refine aj (A:=jC) ?_ λr b j q e=> ?_
    .cases m with
     |string s=>exact ak rfl
     |slice f l c=>cases f with
      |none=>exact ak rfl
      |some f=>exact ade _ _ f
     |_=>exact .halt _ _
    .obtain rfl:b=j:=e;refine aj (A:=jC) ?_ λo c i p e=> ?_
     .cases g with
      |int k n=>cases k<;>first|exact ak rfl|exact .halt _ _
      |_=>exact .halt _ _
     .obtain rfl:c=i:=e;split
      .exact ak (.int _ _)
      .exact ak (.int _ _)
end
noncomputable def akD(f:Nat):Bool:=match prog.funcs[f]? with
 |some fn=>!alw prog f||fn.body.isSome||f ==148||f ==165
 |none=>true
def afY{f:Nat}{fn:Func}(h:prog.funcs[f]?=some fn)(a:akD f=true):(!alw prog f||fn.body.isSome||f ==148||f ==165)=true:=by
 unfold akD at a;generalize prog.funcs[f]?=q at h a;subst h;exact a
def aev:(List.range prog.funcs.size).all akD=true:=by kernel_rfl
def amM:f148.body.isNone=true:=by kernel_rfl
def amN:f165.body.isNone=true:=by kernel_rfl
def amO:Extern.findNext f148=none:=by kernel_rfl
def adg:Extern.findNext f165=none:=by kernel_rfl
def amP:Extern.find f148=some (Extern.BytealgMakeNoZero.makeNoZero f148.params f148.resultTypes):=by kernel_rfl
def amQ:Extern.find f165=some Extern.BytealgIndexByte.indexByte:=by kernel_rfl
def acy:Extern.next "fmt's door" =none:=by kernel_rfl
def abR {P' : Program} {ρ:Ren} {fn b:Func} {e:Array Value->Sem Value} (r:P.funcs[f]?=some fn) (i:P'.funcs[f]?=some b) (g:fn.body.isNone=true) (k:b.body.isNone=true)
  (q:(fn.name == "runtime.NumGoroutine")=false) (t:(b.name == "runtime.NumGoroutine")=false) (s:Extern.findNext fn=none) (x2:Extern.findNext b=none) (n:Extern.find fn=some e) (u:Extern.find b=some e)
  (o:∀(c:Ren) a W,dw c a W->az P P' VR c (e a) (e W)) {a : Array Value} (h:dw ρ a W):az P P' iC ρ (callFunc f a) (callFunc f W):=by
 unfold callFunc;refine aj dr λc p v m d=> ?_;obtain⟨rfl,rfl⟩:=d;rw[r,i];dsimp only;rw[q,t,g,k];simp only[kw,qK,pu];refine aj (apH (.extern f)) λj _ _ l _=> ?_;rw[s,x2,n,u];exact bE (o j _ _ (bR.mono (m.trans l) h))
def avO(β:Bool):ahZ (ai β) prog:=λf fn d i k o a j h=>by
 obtain⟨p,b,n⟩:=agV β f fn d;obtain rfl:=n.none i;have g:=(dl.1 b).1;have c:=lw.1 aev f (qy.2 g);have c:=afY b c;have m:alw prog f=true:=by
  have:gA f=alw prog f:=by unfold gA;rfl
  rw[<-this];exact k
 rw[m,i] at c;simp only[vD,tE,vC,uB,rc,nf] at c;rcases c with rfl|rfl
 .have e:=b.symm.trans func148;obtain rfl:=dq e;exact abR d func148 amM amM (cJ func148) (cJ func148) amO amO amP amP (λl a j h=>abQ (mo β) _ _ h) h
 .have e:=b.symm.trans func165;obtain rfl:=dq e;exact abR d func165 amN amN (cJ func165) (cJ func165) adg adg amQ amQ (λl a j h=>adf h) h
def aaz{args:Array Value}{t0:Tape}{Post:Value->World->Prop}(h:∀t:Tape,(∀i q,i<w.drawn->t i q=t0 i q)->Calls P f args (w.dR t) λe b=>∃v,e=.returned v/\Post v b) :
  jY P (λl b=>∃a v,l=[a]/\a.fn=f/\a.leaving P b (.returned v)/\Post v b) ⟨[Frame.enter P f args .normal],w,t0⟩:=λt j=>by
 obtain⟨e,b,a,⟨v,rfl,d⟩,⟨n,k⟩,g,c⟩:=h t j [kh P];refine⟨n,[a],b,k,⟨a,rfl,c.1,c.2.1,c.2.2.1⟩,a,v,rfl,g,c,d⟩
end
section
open Go.RowKit
def agX{k:IntKind}{a b:Int}(h:a=b):Ending.returned (.int k a)=.returned (.int k b):=by rw[h]
def aF{a b:Bool}(h:a=b):Ending.returned (.bool a)=.returned (.bool b):=by rw[h]
structure aZ (S:Nat->Prop) (w w':World):Prop where
 os:w'.os=w.os
 tape:w'.tape=w.tape
 output:w'.output=w.output
 size:w.heap.size<=w'.heap.size
 block:∀k,k<w.heap.size->¬S k->w'.heap[k]?=w.heap[k]?
def aZ.refl(S:Nat->Prop)(w:World):aZ S w w:=⟨rfl,rfl,rfl,am _,λ_ _ _=>rfl⟩
def aZ.trans{T : Nat->Prop}{b c : World}(h:aZ S a b)(k:aZ T b c)(f:∀i,i<a.heap.size->T i->S i):aZ S a c:=
 ⟨k.os.trans h.os,k.tape.trans h.tape,k.output.trans h.output,ap h.size k.size,
  λi d e=>(k.block i (bd d h.size) (λg=>e (f i d g))).trans (h.block i d e)⟩
def aZ.mono{T : Nat->Prop}{b : World}(h:aZ S a b)(d:∀i,i<a.heap.size->S i->T i):aZ T a b:=
 ⟨h.os,h.tape,h.output,h.size,λi c f=>h.block i c λe=>f (d i c e)⟩
def aZ.below(h:aZ S w w')(c:B<=w.heap.size)(b:∀i,i<B->¬S i):Below B w w':=
 ⟨h.os,h.tape,h.output,h.size,λk a=>h.block k (bd a c) (b k a)⟩
def aZ.aM(h:Below w.heap.size w w'):aZ S w w':=
 ⟨h.os,h.tape,h.output,h.size,λk a _=>h.block k a⟩
def aZ.alloc(h:aZ S a w)(o:Obj):aZ S a (w.alloc o):=
 ⟨h.os,h.tape,h.output,ap h.size (by simp),λi c b=>(rH w o i (bd c h.size)).trans (h.block i c b)⟩
def aZ.drew(h:aZ S a w):aZ S a w.drew:=⟨h.os,h.tape,h.output,h.size,h.block⟩
def aZ.drewN(h:aZ S a w)(n:Nat):aZ S a (w.drewN n):=⟨h.os,h.tape,h.output,h.size,h.block⟩
def aZ.setCell(h:aZ S a w){p:Addr}(b:S p.block\/a.heap.size<=p.block)(u:Value):aZ S a (w.setCell p u):=
 ⟨h.os,h.tape,h.output,by simpa[World.setCell] using h.size,λi d c=>(io w p u i (by
  rintro rfl;rcases b with b|b
  .exact c b
  .omega)).trans (h.block i d c)⟩
def ag(h:Below a.heap.size a w)(b:Below w.heap.size w w'):Below a.heap.size a w':=h.trans (b.mono h.size)
def sL(h:Below B a w)(n:Nat):Below B a (w.drewN n):=⟨h.os,h.tape,h.output,h.size,h.block⟩
abbrev fW(α:Type):=World->Nat->Nat->α->List Value->Prop
structure Lcy {α:Type} (E:fW α):Prop where
 go:∀{w w':World} {lo hi eY hi':Nat} {x:α} {cs:List Value},
  (∀b,lo<=b->b<hi->w'.heap[b]?=w.heap[b]?)->eY<=lo->hi<=hi'->E w lo hi x cs->E w' eY hi' x cs
def cA(x:Int):Prop:= -9223372036854775808<=x/\x<=9223372036854775807
def aam:fW Int:=λ_ _ _ x a=>a=[.int .i64 x]/\cA x
def jK:fW Int:=λ_ _ _ x a=>a=[.int .u8 x]/\0<=x/\x<256
def aam.loc:Lcy aam:=⟨λ_ _ _ h=>h⟩
def jK.loc:Lcy jK:=⟨λ_ _ _ h=>h⟩
def bC{α:Type}(E:fW α)(sz:Nat):fW (List α):=λw f g d k=>
 ∃(A:Option Addr) (c:Nat),k=[.slice A d.length c]/\d.length<=c/\c<=maxLen/\
  (0<d.length->∃b a,A=some ⟨b,a,none⟩/\f<=b/\b<g/\
   ∀i x,d[i]?=some x->∃e:List Value,e.length=sz/\E w f g x e/\∀j u,e[j]?=some u->w.cell? ⟨b,a+i*sz+j,none⟩=some u)
def bC.loc{E:fW Y}(p:Lcy E) :Lcy (bC E Z):=by
 refine⟨?_⟩;intro w B H G D d F C m e n ⟨A,c,g,o,y,h⟩;refine⟨A,c,g,o,y,λq=> ?_⟩;obtain⟨b,f,rfl,l,k,v⟩:=h q;refine⟨b,f,rfl,ap e l,bd k n,λi x d=> ?_⟩;obtain⟨s,r,z,a⟩:=v i x d;exact⟨s,r,p.go m e n z,λj u t=>(qx (m b l k)).trans (a j u t)⟩
def Lcy.below{E:fW Y}(c:Lcy E){cs:List Value}(h:E w Z hi x cs)(e:Below B w w')(d:hi<=B):E w' Z hi x cs:=
 c.go (λb _ a=>e.block b (bd a d)) (am _) (am _) h
def Lcy.eZ{E:fW Y}(e:Lcy E){cs:List Value}(h:E w Z hi x cs)(f:aZ S w w')(a:∀b,Z<=b->b<hi->b<w.heap.size/\¬S b):E w' Z hi x cs:=
 e.go (λb d c=>f.block b (a b d c).1 (a b d c).2) (am _) (am _) h
def Lcy.wide{E:fW Y}(a:Lcy E){eY hi' : Nat}{cs:List Value}(h:E w Z hi x cs)(c:eY<=Z)(b:hi<=hi'):E w eY hi' x cs:=
 a.go (λ_ _ _=>rfl) c b h
def bC.at_{E:fW Y}(h:bC E Z w Q hi xs [.slice A n c])(g:xs[k]?=some x) :
  ∃b a e,A=some ⟨b,a,none⟩/\Q<=b/\b<hi/\e.length=Z/\E w Q hi x e/\∀j u,e[j]?=some u->w.cell? ⟨b,a+k*Z+j,none⟩=some u:=by
 obtain⟨A',r,f,s,t,i⟩:=h;simp only[qi,nF,qw] at f;obtain⟨rfl,rfl,rfl⟩:=f;have l:k<xs.length:=by
  rcases pm k xs.length with h|h
  .exact h
  .rw[rm h] at g;cases g
 obtain⟨b,a,rfl,o,m,i⟩:=i (by omega);obtain⟨e,p,q,d⟩:=i k x g;exact⟨b,a,e,rfl,o,m,p,q,d⟩
def bC.ints_at{xs:List Int}(h:bC aam 1 w Z hi xs [.slice A n c]){x:Int}(f:xs[k]?=some x) :
  ∃b a,A=some ⟨b,a,none⟩/\Z<=b/\b<hi/\cA x/\w.cell? ⟨b,a+k,none⟩=some (.int .i64 x):=by
 obtain⟨b,a,l,rfl,g,e,j,⟨rfl,d⟩,i⟩:=h.at_ f;exact⟨b,a,rfl,g,e,d,by simpa using i 0 _ rfl⟩
def bC.aew{xs:List Int}(h:bC jK 1 w Z hi xs [.slice A n c]){x:Int}(f:xs[k]?=some x) :
  ∃b a,A=some ⟨b,a,none⟩/\Z<=b/\b<hi/\(0<=x/\x<256)/\w.cell? ⟨b,a+k,none⟩=some (.int .u8 x):=by
 obtain⟨b,a,l,rfl,g,e,j,⟨rfl,d⟩,i⟩:=h.at_ f;exact⟨b,a,rfl,g,e,d,by simpa using i 0 _ rfl⟩
def bC.len_{E:fW Y}(h:bC E Z w Q hi xs [.slice A n c]):n=xs.length/\n<=c/\c<=maxLen:=by
 obtain⟨A',e,a,d,b,f⟩:=h;simp only[qi,nF,qw] at a;obtain⟨rfl,rfl,rfl⟩:=a;exact⟨rfl,d,b⟩
def bC.form{E:fW Y}(h:bC E Z w Q hi xs [v]):∃A c,v=.slice A xs.length c:=by
 obtain⟨A',d,a,e,b,f⟩:=h;simp only[qi,qw] at a;exact⟨_,_,a⟩
def aq{l:List Y}(h:k<l.length):∃x,l[k]?=some x:=⟨l[k],jn h⟩
def aB{l:List Y}(h:l[k]?=some x):k<l.length:=by
 rcases pm k l.length with a|a
 .exact a
 .rw[rm a] at h;cases h
def aaa{α:Type}{P:List α->Prop}(h0:P [])(h1:∀l a,P l->P (l++[a]))(l:List α):P l:=by
 rw[<-l.reverse_reverse]
 induction l.reverse with
 |nil=>exact h0
 |cons a t b=>rw[List.reverse_cons];exact h1 _ _ b
def lE{l:List Y}(h:l[k]?=some x):l.take (k+1)=l.take k++[x]:=by
 rw[List.take_add_one,h];rfl
def aX(w:World)(g:Nat)(t:TypeId)(cs:Array Value):Prop:=w.heap[g]?=some (.cells cs t (0,0))
section
variable {w w':World} {g:Nat} {t:TypeId} {cs:Array Value}
def aX.lt(h:aX w g t cs):g<w.heap.size:=by
 rcases pm g w.heap.size with a|b
 .exact a
 .unfold aX at h;rw[qj b] at h;cases h
def aX.cell(h:aX w g t cs)(i:Nat):w.cell? ⟨g,i,none⟩=cs[i]?:=cell_of_row w g i cs t (0,0) h
def aX.frozen(h:aX w g t cs)(i:Nat):w.frozen? ⟨g,i,none⟩=false:=by
 unfold aX at h;simp[World.frozen?,h]
def aX.new(w:World)(t:TypeId)(cs:Array Value):aX (w.alloc (.cells cs t)) w.heap.size t cs:=heap_alloc_new w _
def aX.bc(h:aX w g t cs)(i:Nat)(u:Value):aX (w.setCell ⟨g,i,none⟩ u) g t (cs.setIfInBounds i u):=by
 unfold aX at h ⊢;simp[World.setCell,pi,h]
def aX.drew(h:aX w g t cs):aX w.drew g t cs:=h
end
section
variable {w w':World} {g N:Nat} {t:TypeId} {vs:List Value}
end
def bC.aqs{E:fW Y}{cs:List Value}(h:bC E Z w Q hi xs cs):∀x∈xs,∃a,E w Q hi x a:=by
 obtain⟨A,c,g,m,l,f⟩:=h;intro x j;obtain⟨i,hi⟩:=rD.1 j;obtain⟨b,e,_,_,_,d⟩:=f (by have:=aB hi;omega);obtain⟨a,_,k,_⟩:=d i x hi;exact⟨a,k⟩
def bC.akE{xs:List Int}{cs:List Value}(h:bC aam 1 w Z hi xs cs):∀x∈xs,cA x:=λx b=>by
 obtain⟨c,a⟩:=h.aqs x b;exact a.2
section
variable {w:World} {g:Nat} {t:TypeId} {n:Nat} {f f':Nat->Int}
end
end
section
section
variable (P:Program) (fs:Array Func)
def abS(t:TypeId)(w:World):(underlying t).run {P with funcs:=fs} w=(underlying t).run P w:=by
 show Sem.run _ (match({P with funcs:=fs}:Program).underlying t with|some d=>pure d|none=>stuck "no such type") w=Sem.run P (match P.underlying t with|some d=>pure d|none=>stuck "no such type") w;rw[cM];cases P.underlying t<;>rfl
def aaV(t:TypeId)(w:World):(typeInfo t).run {P with funcs:=fs} w=(typeInfo t).run P w:=by
 show Sem.run _ (match({P with funcs:=fs}:Program).info? t with|some d=>pure d|none=>stuck "no such type") w=Sem.run P (match P.info? t with|some d=>pure d|none=>stuck "no such type") w;rw[kg];cases P.info? t<;>rfl
def aqt{β : Type}(P Q:Program)(s:Sem Y)(f:Y->Sem β)(w:World)(h:s.run Q w=s.run P w)(b:∀a w,(f a).run Q w=(f a).run P w):(s.bind f).run Q w=(s.bind f).run P w:=by
 have c:=qU Q s f w;have e:=qU P s f w;exact c.trans ((jp (λr=>Result.andThen r λa d=>(f a).run Q d) h).trans ((jp (λF=>Result.andThen (s.run P w) F) (funext λa=>funext λw=>b a w)).trans e.symm))
def akF{β : Type}(s:Sem Y)(f:Y->Sem β)(w:World)(h:s.run {P with funcs:=fs} w=s.run P w)(b:∀a w,(f a).run {P with funcs:=fs} w=(f a).run P w):(s.bind f).run {P with funcs:=fs} w=(s.bind f).run P w:=aqt P _ s f w h b
def aqu(t:TypeId)(w:World):(sizeOf t).run {P with funcs:=fs} w=(sizeOf t).run P w:=akF P fs _ _ w (aaV P fs t w) λ_ _=>rfl
def aiy(t:TypeId)(w:World):(zeroValue t).run {P with funcs:=fs} w=(zeroValue t).run P w:=akF P fs _ _ w (aaV P fs t w) λi w=>by
 cases i.zero<;>rfl
def atU(t:TypeId)(w:World):(isAgg t).run {P with funcs:=fs} w=(isAgg t).run P w:=akF P fs _ _ w (abS P fs t w) λd w=>by
 cases d<;>rfl
end
variable {β:Bool}
@[simp,go_sem] theorem asU(t:TypeId)(w:World):(underlying t).run (ai β) w=(underlying t).run prog w:=abS prog (mG β) t w
@[simp,go_sem] theorem awc(t:TypeId)(w:World):(typeInfo t).run (ai β) w=(typeInfo t).run prog w:=aaV prog (mG β) t w
@[simp,go_sem] theorem ayU(t:TypeId)(w:World):(sizeOf t).run (ai β) w=(sizeOf t).run prog w:=aqu prog (mG β) t w
@[simp,go_sem] theorem atV(t:TypeId)(w:World):(zeroValue t).run (ai β) w=(zeroValue t).run prog w:=aiy prog (mG β) t w
@[simp,go_sem] theorem azA(t:TypeId)(w:World):(isAgg t).run (ai β) w=(isAgg t).run prog w:=atU prog (mG β) t w
@[simp,go_sem] theorem dg(t:TypeId):(ai β).underlying t=prog.underlying t:=cM prog (mG β) t
@[simp,go_sem] theorem azB(t:TypeId):(ai β).stoodInHeld t=prog.stoodInHeld t:=adS prog (mG β) t
@[simp,go_sem] theorem azC(d:Nat)(t:TypeId):(ai β).eqGuardType d t=prog.eqGuardType d t:=agU prog (mG β) d t
@[simp,go_sem] theorem azD:(ai β).depth=prog.depth:=adQ prog (mG β)
abbrev agY:List Nat:=[72,86,87,90,123,139,150,174,2,108,109,111,112,118,177,207]
noncomputable def axk(f:Nat):Bool:=agY.contains f||match prog.funcs[f]? with
 |some fn=>match fn.body with
  |some c=>fU prog gA gL c
  |none=>true
 |none=>true
def aqv:(List.range prog.funcs.size).all axk=true:=by kernel_rfl
def atW{f:Nat}{fn:Func}(h:prog.funcs[f]?=some fn)(a:axk f=true)(b:agY.contains f=false):∀c,fn.body=some c->fU prog gA gL c=true:=by
 unfold axk at a;rw[b] at a;generalize prog.funcs[f]?=q at h a;subst h;intro c d;simp only[d,uB] at a;exact a
def aw{f:Nat}{fn:Func}(h:prog.funcs[f]?=some fn)(d:agY.contains f=false):(ai β).funcs[f]?=some fn:=by
 have b:=(dl.1 h).1;have i:=atW h (lw.1 aqv f (qy.2 b)) d;have j:f≠nCC:=λe=>by subst e;revert d;decide
 have g:f≠cD:=λe=>by subst e;revert d;decide
 have k:pf fn=fn:=by
  unfold pf;cases a:fn.body with
  |none=>cases fn;dsimp only at a;subst a;rfl
  |some c=>
   have:gP c=c:=by unfold gP;exact ahR _ _ _ _ c (i c a)
   cases fn;dsimp only at a;subst a;show _=_;simp only[qr,this]
 refine(akA β j g).trans ?_;have e:Option.map pf (prog.funcs[f]?)=Option.map pf (some fn):=jp _ h;rw[e,qr,k]
def lr{fn:Func}(h:P.funcs[f]?=some fn)(d:(fn.name == "runtime.NumGoroutine")=false)(a:fn.body.isSome=true)(args:Array Value)(w:World):(callFunc f args).run P w=.ok (.enter f args) w:=by
 show Sem.run P (match P.funcs[f]? with|none=>_|some fn=>_) w=_;rw[h];obtain⟨c,b⟩:=rE.1 a;simp only[d,b,Option.isNone_some];rfl
def aA{f:Nat}{fn:Func}(h:prog.funcs[f]?=some fn)(a:agY.contains f=false)(b:fn.body.isSome=true)(args:Array Value)(w:World):(callFunc f args).run (ai β) w=.ok (.enter f args) w:=lr (aw h a) (cJ h) b args w
end
section
variable {β:Bool}
def qF3:=aw (β:=β) func3 (by decide)
def qF4:=aw (β:=β) func4 (by decide)
def qF5:=aw (β:=β) func5 (by decide)
def qF6:=aw (β:=β) func6 (by decide)
def qF7:=aw (β:=β) func7 (by decide)
def qF8:=aw (β:=β) func8 (by decide)
def qF9:=aw (β:=β) func9 (by decide)
def yk:=aw (β:=β) func10 (by decide)
def Am:=aw (β:=β) func11 (by decide)
def Ak:=aw (β:=β) func12 (by decide)
def Aj:=aw (β:=β) func13 (by decide)
def Ah:=aw (β:=β) func14 (by decide)
def Ag:=aw (β:=β) func15 (by decide)
def Af:=aw (β:=β) func16 (by decide)
def Ad:=aw (β:=β) func17 (by decide)
def Ac:=aw (β:=β) func18 (by decide)
def yj:=aw (β:=β) func19 (by decide)
def yi:=aw (β:=β) func20 (by decide)
def A7:=aw (β:=β) func21 (by decide)
def zZ:=aw (β:=β) func22 (by decide)
def zY:=aw (β:=β) func23 (by decide)
def zX:=aw (β:=β) func24 (by decide)
def yh:=aw (β:=β) func25 (by decide)
def zW:=aw (β:=β) func26 (by decide)
def zV:=aw (β:=β) func27 (by decide)
def xd:=aw (β:=β) func28 (by decide)
def zU:=aw (β:=β) func29 (by decide)
def zT:=aw (β:=β) func30 (by decide)
def zS:=aw (β:=β) func31 (by decide)
def zR:=aw (β:=β) func32 (by decide)
def zQ:=aw (β:=β) func33 (by decide)
def zP:=aw (β:=β) func34 (by decide)
def zO:=aw (β:=β) func35 (by decide)
def zN:=aw (β:=β) func36 (by decide)
def yg:=aw (β:=β) func37 (by decide)
def yf:=aw (β:=β) func38 (by decide)
def zM:=aw (β:=β) func39 (by decide)
def ye:=aw (β:=β) func40 (by decide)
def xc:=aw (β:=β) func41 (by decide)
def zL:=aw (β:=β) func42 (by decide)
def yd:=aw (β:=β) func43 (by decide)
def yc:=aw (β:=β) func44 (by decide)
def yb:=aw (β:=β) func45 (by decide)
def ya:=aw (β:=β) func46 (by decide)
def wZ:=aw (β:=β) func47 (by decide)
def xZ:=aw (β:=β) func48 (by decide)
def xY:=aw (β:=β) func49 (by decide)
def xX:=aw (β:=β) func50 (by decide)
def xW:=aw (β:=β) func51 (by decide)
def zK:=aw (β:=β) func52 (by decide)
def xV:=aw (β:=β) func53 (by decide)
def xU:=aw (β:=β) func54 (by decide)
def zJ:=aw (β:=β) func55 (by decide)
def zI:=aw (β:=β) func56 (by decide)
def zH:=aw (β:=β) func57 (by decide)
def zG:=aw (β:=β) func58 (by decide)
def zF:=aw (β:=β) func59 (by decide)
def zE:=aw (β:=β) func60 (by decide)
def zD:=aw (β:=β) func61 (by decide)
def zC:=aw (β:=β) func62 (by decide)
def wU:=aw (β:=β) func63 (by decide)
def xT:=aw (β:=β) func64 (by decide)
def zB:=aw (β:=β) func65 (by decide)
def zA:=aw (β:=β) func66 (by decide)
def xS:=aw (β:=β) func67 (by decide)
def xR:=aw (β:=β) func68 (by decide)
def zv:=aw (β:=β) func69 (by decide)
def xQ:=aw (β:=β) func70 (by decide)
def xP:=aw (β:=β) func71 (by decide)
def zu:=aw (β:=β) func73 (by decide)
def zt:=aw (β:=β) func74 (by decide)
def xO:=aw (β:=β) func75 (by decide)
def zp:=aw (β:=β) func76 (by decide)
def zn:=aw (β:=β) func77 (by decide)
def zm:=aw (β:=β) func78 (by decide)
def zl:=aw (β:=β) func79 (by decide)
def zj:=aw (β:=β) func80 (by decide)
def zi:=aw (β:=β) func81 (by decide)
def zh:=aw (β:=β) func82 (by decide)
def zg:=aw (β:=β) func83 (by decide)
def xw:=aw (β:=β) func84 (by decide)
def zf:=aw (β:=β) func85 (by decide)
def ze:=aw (β:=β) func89 (by decide)
def xv:=aw (β:=β) func91 (by decide)
def xN:=aw (β:=β) func92 (by decide)
def zd:=aw (β:=β) func93 (by decide)
def zc:=aw (β:=β) func94 (by decide)
def yZ:=aw (β:=β) func95 (by decide)
def yY:=aw (β:=β) func96 (by decide)
def xM:=aw (β:=β) func97 (by decide)
def yX:=aw (β:=β) func98 (by decide)
def yW:=aw (β:=β) func99 (by decide)
def yS:=aw (β:=β) func100 (by decide)
def wM:=aw (β:=β) func101 (by decide)
def yR:=aw (β:=β) func115 (by decide)
def yQ:=aw (β:=β) func121 (by decide)
def yP:=aw (β:=β) func122 (by decide)
def yO:=aw (β:=β) func124 (by decide)
def yN:=aw (β:=β) func125 (by decide)
def yM:=aw (β:=β) func126 (by decide)
def wT:=aw (β:=β) func127 (by decide)
def yL:=aw (β:=β) func128 (by decide)
def xh:=aw (β:=β) func129 (by decide)
def yK:=aw (β:=β) func130 (by decide)
def yJ:=aw (β:=β) func135 (by decide)
def xg:=aw (β:=β) func136 (by decide)
def yI:=aw (β:=β) func137 (by decide)
def yH:=aw (β:=β) func140 (by decide)
def xC:=aw (β:=β) func141 (by decide)
def yG:=aw (β:=β) func142 (by decide)
def xB:=aw (β:=β) func143 (by decide)
def yF:=aw (β:=β) func144 (by decide)
def yE:=aw (β:=β) func145 (by decide)
def yD:=aw (β:=β) func146 (by decide)
def yC:=aw (β:=β) func148 (by decide)
def yB:=aw (β:=β) func149 (by decide)
def xA:=aw (β:=β) func151 (by decide)
def xf:=aw (β:=β) func152 (by decide)
def yA:=aw (β:=β) func153 (by decide)
def yz:=aw (β:=β) func154 (by decide)
def yy:=aw (β:=β) func155 (by decide)
def yx:=aw (β:=β) func159 (by decide)
def xe:=aw (β:=β) func163 (by decide)
def yw:=aw (β:=β) func164 (by decide)
def yv:=aw (β:=β) func165 (by decide)
def yu:=aw (β:=β) func170 (by decide)
def yr:=aw (β:=β) func171 (by decide)
def yq:=aw (β:=β) func176 (by decide)
@[go_sem] def qC4:=aA (β:=β) func4 (by decide) rfl
@[go_sem] def qC5:=aA (β:=β) func5 (by decide) rfl
@[go_sem] def qC6:=aA (β:=β) func6 (by decide) rfl
@[go_sem] def qC7:=aA (β:=β) func7 (by decide) rfl
@[go_sem] def qC8:=aA (β:=β) func8 (by decide) rfl
@[go_sem] def qC9:=aA (β:=β) func9 (by decide) rfl
@[go_sem] def qC10:=aA (β:=β) func10 (by decide) rfl
@[go_sem] def qC11:=aA (β:=β) func11 (by decide) rfl
@[go_sem] def qC12:=aA (β:=β) func12 (by decide) rfl
@[go_sem] def qC13:=aA (β:=β) func13 (by decide) rfl
@[go_sem] def qC14:=aA (β:=β) func14 (by decide) rfl
@[go_sem] def qC15:=aA (β:=β) func15 (by decide) rfl
@[go_sem] def qC16:=aA (β:=β) func16 (by decide) rfl
@[go_sem] def qC17:=aA (β:=β) func17 (by decide) rfl
@[go_sem] def qC18:=aA (β:=β) func18 (by decide) rfl
@[go_sem] def qC19:=aA (β:=β) func19 (by decide) rfl
@[go_sem] def qC20:=aA (β:=β) func20 (by decide) rfl
@[go_sem] def qC21:=aA (β:=β) func21 (by decide) rfl
@[go_sem] def qC22:=aA (β:=β) func22 (by decide) rfl
@[go_sem] def qC23:=aA (β:=β) func23 (by decide) rfl
@[go_sem] def qC24:=aA (β:=β) func24 (by decide) rfl
@[go_sem] def qC25:=aA (β:=β) func25 (by decide) rfl
@[go_sem] def qC26:=aA (β:=β) func26 (by decide) rfl
@[go_sem] def qC27:=aA (β:=β) func27 (by decide) rfl
@[go_sem] def qC28:=aA (β:=β) func28 (by decide) rfl
@[go_sem] def qC29:=aA (β:=β) func29 (by decide) rfl
@[go_sem] def qC30:=aA (β:=β) func30 (by decide) rfl
@[go_sem] def qC31:=aA (β:=β) func31 (by decide) rfl
@[go_sem] def qC32:=aA (β:=β) func32 (by decide) rfl
@[go_sem] def qC33:=aA (β:=β) func33 (by decide) rfl
@[go_sem] def qC34:=aA (β:=β) func34 (by decide) rfl
@[go_sem] def qC35:=aA (β:=β) func35 (by decide) rfl
@[go_sem] def qC36:=aA (β:=β) func36 (by decide) rfl
@[go_sem] def qC37:=aA (β:=β) func37 (by decide) rfl
@[go_sem] def qC39:=aA (β:=β) func39 (by decide) rfl
@[go_sem] def qC42:=aA (β:=β) func42 (by decide) rfl
@[go_sem] def qC44:=aA (β:=β) func44 (by decide) rfl
@[go_sem] def qC49:=aA (β:=β) func49 (by decide) rfl
@[go_sem] def qC50:=aA (β:=β) func50 (by decide) rfl
@[go_sem] def qC51:=aA (β:=β) func51 (by decide) rfl
@[go_sem] def qC53:=aA (β:=β) func53 (by decide) rfl
@[go_sem] def qC54:=aA (β:=β) func54 (by decide) rfl
@[go_sem] def qC55:=aA (β:=β) func55 (by decide) rfl
@[go_sem] def qC56:=aA (β:=β) func56 (by decide) rfl
@[go_sem] def qC57:=aA (β:=β) func57 (by decide) rfl
@[go_sem] def qC58:=aA (β:=β) func58 (by decide) rfl
@[go_sem] def qC59:=aA (β:=β) func59 (by decide) rfl
@[go_sem] def qC60:=aA (β:=β) func60 (by decide) rfl
@[go_sem] def qC61:=aA (β:=β) func61 (by decide) rfl
@[go_sem] def qC62:=aA (β:=β) func62 (by decide) rfl
@[go_sem] def qC63:=aA (β:=β) func63 (by decide) rfl
@[go_sem] def qC64:=aA (β:=β) func64 (by decide) rfl
@[go_sem] def qC65:=aA (β:=β) func65 (by decide) rfl
@[go_sem] def qC66:=aA (β:=β) func66 (by decide) rfl
@[go_sem] def qC67:=aA (β:=β) func67 (by decide) rfl
@[go_sem] def qC68:=aA (β:=β) func68 (by decide) rfl
@[go_sem] def qC69:=aA (β:=β) func69 (by decide) rfl
@[go_sem] def qC70:=aA (β:=β) func70 (by decide) rfl
@[go_sem] def qC73:=aA (β:=β) func73 (by decide) rfl
@[go_sem] def qC74:=aA (β:=β) func74 (by decide) rfl
@[go_sem] def qC75:=aA (β:=β) func75 (by decide) rfl
@[go_sem] def qC76:=aA (β:=β) func76 (by decide) rfl
@[go_sem] def qC77:=aA (β:=β) func77 (by decide) rfl
@[go_sem] def qC78:=aA (β:=β) func78 (by decide) rfl
@[go_sem] def qC79:=aA (β:=β) func79 (by decide) rfl
@[go_sem] def qC80:=aA (β:=β) func80 (by decide) rfl
@[go_sem] def qC81:=aA (β:=β) func81 (by decide) rfl
@[go_sem] def qC82:=aA (β:=β) func82 (by decide) rfl
@[go_sem] def qC83:=aA (β:=β) func83 (by decide) rfl
@[go_sem] def qC84:=aA (β:=β) func84 (by decide) rfl
@[go_sem] def qC85:=aA (β:=β) func85 (by decide) rfl
@[go_sem] def qC89:=aA (β:=β) func89 (by decide) rfl
@[go_sem] def qC91:=aA (β:=β) func91 (by decide) rfl
@[go_sem] def qC92:=aA (β:=β) func92 (by decide) rfl
@[go_sem] def qC93:=aA (β:=β) func93 (by decide) rfl
@[go_sem] def qC94:=aA (β:=β) func94 (by decide) rfl
@[go_sem] def qC95:=aA (β:=β) func95 (by decide) rfl
@[go_sem] def qC96:=aA (β:=β) func96 (by decide) rfl
@[go_sem] def qC97:=aA (β:=β) func97 (by decide) rfl
@[go_sem] def qC98:=aA (β:=β) func98 (by decide) rfl
@[go_sem] def qC99:=aA (β:=β) func99 (by decide) rfl
@[go_sem] def Ba:=aA (β:=β) func100 (by decide) rfl
@[go_sem] def B9:=aA (β:=β) func101 (by decide) rfl
@[go_sem] def B8:=aA (β:=β) func115 (by decide) rfl
@[go_sem] def B7:=aA (β:=β) func121 (by decide) rfl
@[go_sem] def B6:=aA (β:=β) func122 (by decide) rfl
@[go_sem] def AZ:=aA (β:=β) func124 (by decide) rfl
@[go_sem] def AY:=aA (β:=β) func125 (by decide) rfl
@[go_sem] def AX:=aA (β:=β) func126 (by decide) rfl
@[go_sem] def AW:=aA (β:=β) func127 (by decide) rfl
@[go_sem] def AV:=aA (β:=β) func128 (by decide) rfl
@[go_sem] def AU:=aA (β:=β) func129 (by decide) rfl
@[go_sem] def AT:=aA (β:=β) func130 (by decide) rfl
@[go_sem] def AS:=aA (β:=β) func135 (by decide) rfl
@[go_sem] def AQ:=aA (β:=β) func136 (by decide) rfl
@[go_sem] def AP:=aA (β:=β) func137 (by decide) rfl
@[go_sem] def AO:=aA (β:=β) func140 (by decide) rfl
@[go_sem] def AN:=aA (β:=β) func142 (by decide) rfl
@[go_sem] def AM:=aA (β:=β) func143 (by decide) rfl
@[go_sem] def AK:=aA (β:=β) func144 (by decide) rfl
@[go_sem] def AJ:=aA (β:=β) func145 (by decide) rfl
@[go_sem] def AI:=aA (β:=β) func146 (by decide) rfl
@[go_sem] def AH:=aA (β:=β) func149 (by decide) rfl
@[go_sem] def AG:=aA (β:=β) func151 (by decide) rfl
@[go_sem] def AF:=aA (β:=β) func152 (by decide) rfl
@[go_sem] def AE:=aA (β:=β) func153 (by decide) rfl
@[go_sem] def AC:=aA (β:=β) func154 (by decide) rfl
@[go_sem] def AB:=aA (β:=β) func155 (by decide) rfl
@[go_sem] def AA:=aA (β:=β) func159 (by decide) rfl
@[go_sem] def Az:=aA (β:=β) func163 (by decide) rfl
@[go_sem] def Ax:=aA (β:=β) func164 (by decide) rfl
@[go_sem] def Aw:=aA (β:=β) func170 (by decide) rfl
@[go_sem] def Au:=aA (β:=β) func171 (by decide) rfl
@[go_sem] def An:=aA (β:=β) func176 (by decide) rfl
def qU4:=(dg (β:=β) 4).trans underlying4
def qU5:=(dg (β:=β) 5).trans underlying5
def qU9:=(dg (β:=β) 9).trans underlying9
def wY:=(dg (β:=β) 22).trans underlying22
def xL:=(dg (β:=β) 23).trans underlying23
def xK:=(dg (β:=β) 24).trans underlying24
def xu:=(dg (β:=β) 25).trans underlying25
def yV:=(dg (β:=β) 38).trans underlying38
def xr:=(dg (β:=β) 52).trans underlying52
def xJ:=(dg (β:=β) 54).trans underlying54
def yU:=(dg (β:=β) 56).trans underlying56
def xI:=(dg (β:=β) 63).trans underlying63
def yT:=(dg (β:=β) 83).trans underlying83
def xq:=(dg (β:=β) 93).trans underlying93
def yp:=(dg (β:=β) 110).trans underlying110
def yo:=(dg (β:=β) 138).trans underlying138
def yn:=(dg (β:=β) 177).trans underlying177
def ym:=(dg (β:=β) 201).trans underlying201
end
section
variable {β:Bool}
open Go.RowKit
def bs(s:ByteArray):List Nat:=s.data.toList.map UInt8.toNat
def aN(s:ByteArray):(bs s).length=s.size:=by
 unfold bs;rw[qh,qQ];rfl
def aaW{s:ByteArray}(h:k<s.size):(bs s)[k]?=some (s[k]'h).toNat:=by
 unfold bs;rw[qN,ef];have:s.data[k]?=some (s.data[k]'h):=ge h;rw[this];rfl
def aqw{s:ByteArray}:∀b∈bs s,b<256:=λb a=>by
 obtain⟨u,_,rfl⟩:=qs.1 a;exact u.toNat_lt
def px{s t:ByteArray}(h:bs s=bs t):s=t:=by
 have e:s.data.toList=t.data.toList:=by
  unfold bs at h;generalize s.data.toList=a at *;generalize t.data.toList=b at *
  induction a generalizing b with
  |nil=>cases b with
   |nil=>rfl
   |cons y b=>cases h
  |cons x a d=>cases b with
   |nil=>cases h
   |cons y b=>
    simp only[sE,qi] at h;rw[uN.1 h.1,d b h.2]
 have c:s.data=t.data:=uI.1 e;cases s;cases t;simp only at c;rw[c]
def iF(s t:ByteArray):bs (s++t)=bs s++bs t:=by
 unfold bs;rw[<-tF,<-pv]
 congr 2
 simp
def dv(s:ByteArray)(a b:Nat):bs (s.extract a b)=((bs s).take b).drop a:=by
 unfold bs;simp only[vV,tU,vK];rw[<-List.map_take,<-List.map_drop]
 congr 1
 rw[List.take_drop];by_cases h:a<=b
 .congr 2;omega
 .have:b-a=0:=by omega
  rw[this,rT (by simp;omega),rT (by simp;omega)]
def aaX{s t:ByteArray}(h:¬t=s):(t.toList ==s.toList)=false:=by
 refine dk.2 λe=>h ?_;rw[rj,rj] at e;have a:t.data=s.data:=uI.1 e;cases s;cases t;simp only at a;rw[a]
def py(b:Nat):Bool:=decide (97<=b)&&decide (b<=122)
def bD(l:List Nat):Prop:=(1<=l.length/\l.length<=8)/\l.all py=true
def eB:List Nat->Nat->Nat
 |[],n=>n
 |b::l,n=>eB l (27*n+(b-97)+1)
def code(l:List Nat):Nat:=eB l 0
def cY(key:Int)(l:List Nat):Int:=((code l:Int)*(2*key+1)+key*7919) % 999999999989
def cj(n:Nat):Nat:=if n=0\/8<n then 0 else if n<=2 then 2 else if n<=4 then 4 else 8
def gC(l:List Nat):List Nat:=l++List.replicate (cj l.length-l.length) 46
def gD:∀(a b:List Nat) (n:Nat),eB (a++b) n=eB b (eB a n)
 |[],_,_=>rfl
 |x::a,b,n=>by show eB (a++b) _=eB b (eB a _);rw[gD a b]
def aex:∀(l:List Nat) (n:Nat),l.all py=true->eB l n<(n+1)*27 ^ l.length
 |[],n,_=>by show n<_;simp
 |b::l,n,h=>by
  simp only[qE,ga] at h;have a:=aex l (27*n+(b-97)+1) h.2;have c:b<=122:=by have:=h.1;unfold py at this;simp at this;exact this.2
  show eB l _<_;refine bd a ?_;rw[fi,Nat.pow_succ,tO (27 ^ l.length) 27,<-Nat.mul_assoc];exact qO _ (by omega)
def abT{l:List Nat}(h:bD l):code l<282429536481:=by
 have a:=aex l 0 h.2;unfold code;have b:27 ^ l.length<=27 ^ 8:=uP (by omega) h.1.2;have e:(27:Nat) ^ 8=282429536481:=by decide
 omega
def afZ{l:List Nat}{b : Nat}(h:l[k]?=some b):code (l.take (k+1))=27*code (l.take k)+(b-97)+1:=by
 unfold code;rw[lE h,gD];rfl
def aoe:∀{a b:List Nat},a.all py=true->b.all py=true->eB a 0=eB b 0->a=b:=by
 intro a
 induction a using aaa with
 |h0=>
  intro b _ c h
  induction b using aaa with
  |h0=>rfl
  |h1 l x _=>rw[gD] at h;show[]=_;exfalso;have:eB [x] (eB l 0)=27*eB l 0+(x-97)+1:=rfl;have h0:eB [] 0=0:=rfl;omega
 |h1 l x g=>
  intro b d c h
  induction b using aaa with
  |h0=>rw[gD] at h;exfalso;have:eB [x] (eB l 0)=27*eB l 0+(x-97)+1:=rfl;have h0:eB [] 0=0:=rfl;omega
  |h1 m y _=>
   rw[tH] at d c;simp only[ga,qE,vP,uC] at d c;rw[gD,gD] at h;have i:eB [x] (eB l 0)=27*eB l 0+(x-97)+1:=rfl;have j:eB [y] (eB m 0)=27*eB m 0+(y-97)+1:=rfl;have f:=d.2;have e:=c.2;unfold py at f e;simp at f e;have:eB l 0=eB m 0/\x=y:=by omega
   rw[g d.1 c.1 this.1,this.2]
def pz{key:Int}{l:List Nat}:0<=cY key l/\cY key l<=999999999988:=by
 unfold cY;omega
def eQ(l:List Nat):Nat->Nat
 |0=>0
 |n+1=>if l[n]?=some 46 then eQ l n else n+1
def vH(l:List Nat):List Nat:=l.take (eQ l l.length)
def acF(l:List Nat):∀n,eQ l n<=n
 |0=>am _
 |n+1=>by
  unfold eQ;split
  .exact Nat.le_succ_of_le (acF l n)
  .exact am _
open Classical in
noncomputable def nI(l:List Nat):Option (List Nat):=if bD (vH l)/\gC (vH l)=l then some (vH l) else none
def aab :cj n<=8/\(n<=8->n<=cj n):=by
 unfold cj;split<;>(try split)<;>(try split)<;>omega
def aiz{l:List Nat}(h:bD l):(gC l).length=cj l.length:=by
 unfold gC;rw[aE,qC];have:=aab.2 h.1.2;omega
def aof{l:List Nat}(h:bD l):vH (gC l)=l:=by
 have c:∀m,eQ (gC l) (l.length+m)=l.length\/l.length+m>(gC l).length:=by
  intro m
  induction m with
  |zero=>
   left;obtain⟨k,f⟩:∃k,l.length=k+1:=⟨l.length-1,by have:=h.1.1;omega⟩;rw[tu,f];unfold eQ;rw[da];unfold gC;rw[qv (by omega)];intro e;have:=lw.1 h.2 46 (db e);simp[py] at this
  |succ m b=>
   by_cases a:l.length+m<(gC l).length
   .rcases b with b|b
    .left;show eQ (gC l) (l.length+m+1)=_;unfold eQ;rw[du,b];unfold gC at a ⊢;rw[aE,qC] at a;rw[ql (by omega),un,du (by omega)]
    .omega
   .right;omega
 have d:l.length<=(gC l).length:=by unfold gC;simp
 have:=c ((gC l).length-l.length);rw[Nat.add_sub_cancel' d] at this;unfold vH;rw[this.resolve_right (by omega)];unfold gC;rw[List.take_left]
def aiA{l:List Nat}(h:bD l):nI (gC l)=some l:=by
 unfold nI;rw[aof h,du ⟨h,rfl⟩]
def rK(l:List Nat):ByteArray:=⟨(l.map UInt8.ofNat).toArray⟩
def amR{l:List Nat}(h:∀b∈l,b<256):bs (rK l)=l:=by
 unfold bs rK;simp only[vO]
 conv=>rhs;rw[<-List.map_id l]
 refine wD λb a=> ?_;have:=h b a;simp[UInt8.toNat_ofNat,Nat.mod_eq_of_lt this]
def azE(s:ByteArray):rK (bs s)=s:=px (amR aqw)
def aog{s:ByteArray}:∀b∈gC (bs s),b<256:=λb a=>by
 unfold gC at a;rcases oE.1 a with h|h
 .exact aqw b h
 .have:=List.eq_of_mem_replicate h;omega
def agZ(s:ByteArray):bs (rK (gC (bs s)))=gC (bs s):=amR aog
end
section
variable {β:Bool}
open Go.RowKit
def lu(n a hi:Int)(w:World) :
  Calls (ai β) 20 #[.int .i64 n,.int .i64 a,.int .i64 hi] w λe c=>e=.returned (.bool (decide (a<=n)&&decide (n<=hi)))/\w=c:=by
 by_cases h:a<=n
 .go_enter yi,ntmps20;go_wp2;go_ret;exact⟨by simp[h],rfl⟩
 .go_enter yi,ntmps20;go_wp2;go_ret;have b:decide (a<=n)=false:=by simpa using h
  exact⟨by rw[b];rfl,rfl⟩
end
section
variable {β:Bool}
open Go.RowKit
def afr(s:ByteArray)(n:s.size<=maxLen)(w:World) :
  Calls (ai β) 85 #[.string s] w λe m=>e=.returned (.bool ((bs s).all py))/\w=m:=by
 unfold maxLen at n;go_enter zf,ntmps85;go_wp2
 go_loop [3] (λi=>∃k:Nat,k<=s.size/\i=.int .i64 k/\((bs s).take k).all py=true) (λi=>s.size-(intOf i).toNat)
 case atStart=>exact⟨0,fa _,rfl,rfl⟩
 case round=>
  obtain⟨k,p,rfl,f⟩:=hrel;replace f:=ab f;by_cases b:k<s.size
  .have c:=aaW b;replace c:=ab c;by_cases q:(s[k]'b).toNat<97
   .have l:=dj (show((s[k]'b).toNat:Int)<97 by omega);have a:(bs s).all py=false:=by
     rw[uv];exact⟨_,db c.out,by unfold py;simp;omega⟩
    have d:=ab a;clear a;go_wp2;go_ret;exact⟨aF d.out.symm,rfl⟩
   .have l:=bv (show ¬(((s[k]'b).toNat:Int)<97) by omega);by_cases o:122<(s[k]'b).toNat
    .have j:=dj (show 122<((s[k]'b).toNat:Int) by omega);have a:(bs s).all py=false:=by
      rw[uv];exact⟨_,db c.out,by unfold py;simp;omega⟩
     have d:=ab a;clear a;go_wp2;go_ret;exact⟨aF d.out.symm,rfl⟩
    .have j:=bv (show ¬(122<((s[k]'b).toNat:Int)) by omega);have g:((bs s).take (k+1)).all py=true:=by
      rw[lE c.out,tH,f.out];simp[py];omega
     replace g:=ab g;go_wp2
     go_round
     case rel=>exact⟨k+1,by omega,by go_num,g.out⟩
     simp[intOf];omega
  .obtain rfl:k=s.size:=by omega
   have a:(bs s).all py=true:=by
    have:=f.out
    rwa [oS (by rw[aN];exact am _)] at this
   have d:=ab a;clear a;go_wp2;go_ret;exact⟨aF d.out.symm,rfl⟩
def akG(s:ByteArray)(g:bD (bs s))(w:World) :
  Calls (ai β) 100 #[.string s] w λe o=>e=.returned (.int .i64 (code (bs s)))/\w=o:=by
 have m:=ab g;have u:s.size<=8:=by have:=g.1.2;rwa [aN] at this
 go_enter yS,ntmps100;go_wp2
 go_loop [3,4] (λn i=>∃k:Nat,k<=s.size/\i=.int .i64 k/\n=.int .i64 (code ((bs s).take k))) (λ_ i=>s.size-(intOf i).toNat)
 case atStart=>exact⟨0,fa _,rfl,rfl⟩
 case round=>
  obtain⟨k,v,rfl,rfl⟩:=hrel;by_cases a:k<s.size
  .have l:=aaW a;have j:=lw.1 m.out.2 _ (db l);have p:97<=(s[k]'a).toNat/\(s[k]'a).toNat<=122:=by unfold py at j;simpa using j
   have d:=afZ l;have f:code ((bs s).take (k+1))<282429536481:=by
    have y:=aex ((bs s).take (k+1)) 0 (lw.2 λx q=>lw.1 m.out.2 x (pr q));have t:27 ^ ((bs s).take (k+1)).length<=27 ^ 8:=uP (by omega) (by rw[eg,aN];omega);have e:(27:Nat) ^ 8=282429536481:=by decide
    unfold code;omega
   have b:=ab d;rw[d] at f;revert b f;generalize code ((bs s).take k)=c;intro f b;go_wp2
   go_round
   case rel=>exact⟨k+1,by omega,by go_num,by rw[b.out];congr 1;omega⟩
   simp[intOf];omega
  .obtain rfl:k=s.size:=by omega
   have r:(bs s).take s.size=bs s:=oS (by rw[aN];exact am _);rw[r];go_wp2;go_ret;exact⟨rfl,rfl⟩
def aaY(key:Int)(s:ByteArray)(n:1<=key/\key<=99)(d:bD (bs s))(w:World) :
  Calls (ai β) 78 #[.int .i64 key,.string s] w λe g=>e=.returned (.int .i64 (cY key (bs s)))/\w=g:=by
 have f:=abT d;have i:cY key (bs s)=((code (bs s):Int)*(2*key+1)+key*7919) % 999999999989:=rfl;have b:=ab i;have j:=akG (β:=β) s d w;have a:=ab j;revert a;revert b;revert f;generalize code (bs s)=c;intro f b a;have q:0<=(c:Int)*(2*key+1)/\(c:Int)*(2*key+1)<=282429536481*199:=by
  constructor
  .exact Int.mul_nonneg (by omega) (by omega)
  .exact Int.mul_le_mul (by omega) (by omega) (by omega) (by omega)
 go_enter zm,ntmps78;go_wp2;refine a.out.mono ?_;rintro e k ⟨rfl,rfl⟩;have t:wrap64 (2*key)=2*key:=by unfold wrap64;omega
 have p:wrap64 (2*key+1)=2*key+1:=by unfold wrap64;omega
 have o:wrap64 ((c:Int)*(2*key+1))=(c:Int)*(2*key+1):=by unfold wrap64;omega
 have l:wrap64 (key*7919)=key*7919:=by unfold wrap64;omega
 have r:wrap64 ((c:Int)*(2*key+1)+key*7919)=(c:Int)*(2*key+1)+key*7919:=by unfold wrap64;omega
 have m:((c:Int)*(2*key+1)+key*7919).tmod 999999999989=((c:Int)*(2*key+1)+key*7919) % 999999999989:=vz (by omega);go_wp2;go_ret;exact⟨agX b.out.symm,rfl⟩
def aiB(n:Nat)(w:World) :
  Calls (ai β) 101 #[.int .i64 n] w λe d=>e=.returned (.int .i64 (cj n))/\w=d:=by
 have g:(n=0/\cj n=0)\/(8<n/\cj n=0)\/((1<=n/\n<=2)/\cj n=2)\/((3<=n/\n<=4)/\cj n=4)\/((5<=n/\n<=8)/\cj n=8):=by
  unfold cj;split<;>(try split)<;>(try split)<;>omega
 rcases g with⟨h,e⟩|⟨h,e⟩|⟨h,e⟩|⟨h,e⟩|⟨h,e⟩
 .rw[e];subst h;go_enter wM,ntmps101;go_wp2;go_ret;exact⟨rfl,rfl⟩
 .rw[e];have c:=bv (show ¬((n:Int)<1) by omega);have b:=dj (show 8<(n:Int) by omega);go_enter wM,ntmps101;go_wp2;go_ret;exact⟨rfl,rfl⟩
 all_goals
  rw[e];have c:=bv (show ¬((n:Int)<1) by omega);have b:=bv (show ¬(8<(n:Int)) by omega)
 .have a:=dj (show(n:Int)<=2 by omega);go_enter wM,ntmps101;go_wp2;go_ret;exact⟨rfl,rfl⟩
 .have a:=bv (show ¬((n:Int)<=2) by omega);have f:=dj (show(n:Int)<=4 by omega);go_enter wM,ntmps101;go_wp2;go_ret;exact⟨rfl,rfl⟩
 .have a:=bv (show ¬((n:Int)<=2) by omega);have f:=bv (show ¬((n:Int)<=4) by omega);go_enter wM,ntmps101;go_wp2;go_ret;exact⟨rfl,rfl⟩
def azF(l:List Nat)(e:Ending):Prop:=∃t:ByteArray,e=.returned (.string t)/\bs t=l
def aoh(s:ByteArray)(j:s.size<=maxLen)(w:World) :
  Calls (ai β) 83 #[.string s] w λe i=>azF (gC (bs s)) e/\w=i:=by
 unfold maxLen at j;have a:gC (bs s)=bs s++List.replicate (cj s.size-s.size) 46:=by unfold gC;rw[aN]
 replace a:=ab a;have o:=(aab (n:=s.size)).1;go_enter zg,ntmps83;go_wp2;refine(aiB s.size w).mono ?_;rintro e m ⟨rfl,rfl⟩;go_wp2
 go_loop [0] (λv=>∃(t:ByteArray) (k:Nat),v=.string t/\bs t=bs s++List.replicate k 46/\k<=cj s.size-s.size) (λv=>cj s.size-(match v with|.string t=>t.size|_=>0))
 case atStart=>exact⟨s,0,rfl,by simp,fa _⟩
 case round=>
  obtain⟨t,k,rfl,c,p⟩:=hrel;have l:t.size=s.size+k:=by rw[<-aN,c,aE,qC,aN]
  replace c:=ab c;by_cases f:t.size<cj s.size
  .have g:=dj (show(t.size:Int)<(cj s.size:Int) by omega);have d:bs (t++⟨#[46]⟩)=bs s++List.replicate (k+1) 46:=by
    rw[iF,c.out,tf,wm];rfl
   replace d:=ab d;go_wp2
   go_round
   case rel=>exact⟨_,k+1,rfl,d.out,by omega⟩
   case measure=> 
    have:(t++(⟨#[46]⟩:ByteArray)).size=t.size+1:=by rw[<-aN,iF,aE,aN];rfl
    simp only[this];omega
  .have g:=bv (show ¬((t.size:Int)<(cj s.size:Int)) by omega);have b:k=cj s.size-s.size:=by omega
   replace b:=ab b;go_wp2;go_ret;exact⟨⟨t,rfl,by rw[c.out,a.out,b.out]⟩,rfl⟩
def vM{s:ByteArray}(a:k<=s.size):(s.extract 0 k).size=k:=by
 rw[<-aN,dv,rN,eg,aN];omega
end
section
variable {β:Bool}
open Go.RowKit
def ag0(x:Int)(w:World)(b:Bool)(a:b=true↔1<=x/\x<=99):Calls (ai β) 25 #[.int .i64 x] w λe c=>e=.returned (.bool b)/\w=c:=by
 replace a:=ab a;by_cases h:1<=x
 .go_enter yh,ntmps25;go_wp2;go_ret;exact⟨aF (by rw[rr,a.out];simp[h]),rfl⟩
 .go_enter yh,ntmps25;go_wp2;go_ret;exact⟨aF (by rw[rr,a.out];simp[h];omega),rfl⟩
def af0(s:ByteArray)(n:s.size<=maxLen)(w:World) :
  Calls (ai β) 124 #[.string s] w λe m=>e=.returned (.bool ((bs s).all py))/\w=m:=by
 unfold maxLen at n;go_enter yO,ntmps124;go_wp2
 go_loop [6] (λi=>∃k:Nat,k<=s.size/\i=.int .i64 k/\((bs s).take k).all py=true) (λi=>s.size-(intOf i).toNat)
 case atStart=>exact⟨0,fa _,rfl,rfl⟩
 case round=>
  obtain⟨k,p,rfl,f⟩:=hrel;replace f:=ab f;by_cases b:k<s.size
  .have c:=aaW b;replace c:=ab c;by_cases q:(s[k]'b).toNat<97
   .have l:=dj (show((s[k]'b).toNat:Int)<97 by omega);have a:(bs s).all py=false:=by
     rw[uv];exact⟨_,db c.out,by unfold py;simp;omega⟩
    have d:=ab a;clear a;go_wp2;go_ret;exact⟨aF d.out.symm,rfl⟩
   .have l:=bv (show ¬(((s[k]'b).toNat:Int)<97) by omega);by_cases o:122<(s[k]'b).toNat
    .have j:=dj (show 122<((s[k]'b).toNat:Int) by omega);have a:(bs s).all py=false:=by
      rw[uv];exact⟨_,db c.out,by unfold py;simp;omega⟩
     have d:=ab a;clear a;go_wp2;go_ret;exact⟨aF d.out.symm,rfl⟩
    .have j:=bv (show ¬(122<((s[k]'b).toNat:Int)) by omega);have g:((bs s).take (k+1)).all py=true:=by
      rw[lE c.out,tH,f.out];simp[py];omega
     replace g:=ab g;go_wp2
     go_round
     case rel=>exact⟨k+1,by omega,by go_num,g.out⟩
     simp[intOf];omega
  .obtain rfl:k=s.size:=by omega
   have a:(bs s).all py=true:=by
    have:=f.out
    rwa [oS (by rw[aN];exact am _)] at this
   have d:=ab a;clear a;go_wp2;go_ret;exact⟨aF d.out.symm,rfl⟩
def aac(s:ByteArray)(j:s.size<=maxLen)(w:World)(b:Bool)(g:b=true↔bD (bs s)) :
  Calls (ai β) 152 #[.string s] w λe l=>e=.returned (.bool b)/\w=l:=by
 replace g:=ab g;have HS:=j;unfold maxLen at j;have a:b=(decide (1<=(s.size:Int))&&decide ((s.size:Int)<=8)&&(bs s).all py):=by
  rw[rr,g.out];unfold bD;rw[aN];simp only[ga,qY];exact⟨λ⟨⟨k,i⟩,f⟩=>⟨⟨by omega,by omega⟩,f⟩,λ⟨⟨k,i⟩,f⟩=>⟨⟨by omega,by omega⟩,f⟩⟩
 replace a:=ab a;by_cases k:1<=s.size
 .have c:=dj (show 1<=(s.size:Int) by omega);by_cases i:s.size<=8
  .have d:=dj (show(s.size:Int)<=8 by omega);go_enter xf,ntmps152;go_wp2;refine(af0 s HS w).mono ?_;rintro e m ⟨rfl,rfl⟩;go_wp2;go_ret;exact⟨aF (by rw[a.out,c,d];simp),rfl⟩
  .have d:=bv (show ¬((s.size:Int)<=8) by omega);go_enter xf,ntmps152;go_wp2;go_ret;exact⟨aF (by rw[a.out,c,d];simp),rfl⟩
 .have c:=bv (show ¬(1<=(s.size:Int)) by omega);go_enter xf,ntmps152;go_wp2;go_ret;exact⟨aF (by rw[a.out,c];simp),rfl⟩
end
section
variable {β:Bool}
open Go.RowKit
structure ir (P:Program) (t e:TypeId) (sz bytes:Nat):Prop where
 slice:P.underlying t=some (.slice e)
 info:∃i z,P.info? e=some i/\i.zero=some z/\i.size=sz/\i.bytes=bytes/\z.cells.size=sz
 pos:0<sz
 small:bytes<=128
section
variable {P:Program}
def ir.mk'{t : TypeId}{z:Value}(f:P.underlying t=some (.slice e))(hi:(P.info? e).map (λi=>(i.zero,i.size,i.bytes))=some (some z,Z,Q))(k:z.cells.size=Z)(a:0<Z)(j:Q<=128):ir P t e Z Q:=by
 obtain⟨i,d,b,g,c⟩:=info_parts hi;exact⟨f,⟨i,z,d,b,g,c,k⟩,a,j⟩
structure amS (w w':World) (base:Nat) (e:TypeId) (sz:Nat) (v v':Value) (n:Nat) (cells:List Value):Prop where
 own:w'.ownsRow base e sz v' n cells
 eZ:aZ (λb=>v.ownBlock=some b) w w'
 at_:∀b,v'.ownBlock=some b->v.ownBlock=some b\/w.heap.size<=b
def adT{base:Nat}(h:w.ownsRow base e Z v n U)(k:aZ S w w')(j:∀b,v.ownBlock=some b->¬S b):w'.ownsRow base e Z v n U:=by
 refine⟨h.1, ?_⟩;rcases h.2 with i|⟨g,cap,d,rfl,f,a,c⟩
 .exact .inl i
 .refine .inr ⟨g,cap,d,rfl,f, ?_,c⟩;rw[k.block g (dl.1 a).1 (j g rfl)];exact a
def aey{base:Nat}(h:w.ownsRow base e Z v n U)(a:Below w.heap.size w w'):w'.ownsRow base e Z v n U:=
 adT h (aZ.aM (S:=λ_=>False) a) λ_ _ h=>h
def amT {t ty : TypeId} (q:ir P t e Z Q) {base:Nat}   (d:w.ownsRow base e Z v n U)
  (O:news.length=m*Z) (S:0<m->∃a,A=some a/\∀(j:Nat) (u:Value),news[j]?=some u->w.cell? (a.add j)=some u) (R:∀u∈news,u.oneCell'=true)
  (W:n+m<=1099511627776) (l:base<=w.heap.size) :
  ∃y x,(Builtin.append_ #[t,t] ty #[v,.slice A m c]).run P w=.ok y x/\amS w x base e Z v y (n+m) (U++news):=by
 obtain⟨i,z,G,N,D,E,F⟩:=q.info;have f:(n+m)*Q<=140737488355328:=ap (Nat.mul_le_mul W q.small) (by omega);rcases qe m with I|I
 .subst I;have C:news=[]:=qR (by simpa using O);subst C;cases A with
  |some K=>
   obtain⟨y,x,M,H,o,_,p⟩:=run_append_own_at (P:=P) w base t ty e i z Z Q q.slice G N D E F q.pos v n U d K 0 c [] (by simp) (λj u V=>by simp at V) (by simp) (by unfold maxLen;omega) f l;exact⟨y,x,M,H,⟨o.os,o.tape,o.output,o.size,λk J r=>o.block k J λe=>r e.symm⟩,λb B=>by rcases p with p|p<;>rw[p] at B<;>simp_all⟩
  |none=>
   refine⟨v,w, ?_,by simpa using d,aZ.refl _ _,λb B=>.inl B⟩;rcases d.2 with⟨rfl,rfl⟩|⟨g,cap,T,rfl,_,_,L,_⟩
   .simp[Builtin.append_,mt q.slice,sizeOf,typeInfo,G,Builtin.lenOf,Builtin.firstCells]
   .simp[Builtin.append_,mt q.slice,sizeOf,typeInfo,G,Builtin.lenOf,Builtin.firstCells,L,storeCells]
 .obtain⟨K,rfl,s⟩:=S I;obtain⟨y,x,M,H,o,_,p⟩:=run_append_own_at (P:=P) w base t ty e i z Z Q q.slice G N D E F q.pos v n U d K m c news O s R (by unfold maxLen;omega) f l;exact⟨y,x,M,H,⟨o.os,o.tape,o.output,o.size,λk J r=>o.block k J λe=>r e.symm⟩,λb B=>by rcases p with p|p<;>rw[p] at B<;>simp_all⟩
def axl  {a:Act} {K:Act->World->Prop} {Q:Exit->Act->World->Prop} (s x:Operand) (t:TypeId)
  (l:o.op=.call ⟨.builtin .append,#[s,x],#[t,t]⟩)
  (k:ir P t e Z B) {base:Nat}   (r:a.eval s=v) (d:w.ownsRow base e Z v n U)
  (y:a.eval x=.slice A m c) (p:news.length=m*Z) (D:0<m->∃a,A=some a/\∀(j:Nat) (u:Value),news[j]?=some u->w.cell? (a.add j)=some u) (C:∀u∈news,u.oneCell'=true)
  (z:n+m<=1099511627776) (b:base<=w.heap.size)
  (h:∀i g,amS w g base e Z v i (n+m) (U++news)->K (a.put o.dst i) g):o.wp P a w K Q:=by
 obtain⟨i,g,f,q⟩:=amT (P:=P) (ty:=o.type) k d (c:=c) p D C z b;unfold Oper.wp execOp;simp only[l,resolve,invoke,builtin,tN,uf,uu,List.map_toArray,sE,List.map_nil,r,y,f];exact h i g q
def aez    {a:Act} {Q:Exit->Act->World->Prop} (i:o.guard=none) (s x:Operand) (t:TypeId)
  (y:o.op=.call ⟨.builtin .append,#[s,x],#[t,t]⟩)
  (r:ir P t e Z B) {base:Nat}   (C:a.eval s=v) (d:w.ownsRow base e Z v n U)
  (D:a.eval x=.slice A m c) (z:news.length=m*Z) (q:0<m->∃a,A=some a/\∀(j:Nat) (u:Value),news[j]?=some u->w.cell? (a.add j)=some u) (l:∀u∈news,u.oneCell'=true)
  (E:n+m<=1099511627776) (b:base<=w.heap.size)
  (h:∀g f,amS w f base e Z v g (n+m) (U++news)->wpList P N Q rest (a.put o.dst g) f):wpList P N Q (o::rest) a w:=
 wpList_plain i λ_ p=>axl s x t y r C d D z q l E b λg f k=>p _ _ (h g f k)
def amU    {a:Act} {Q:Exit->Act->World->Prop} (k:o.guard=none) (s x:Operand) (t:TypeId)
  (C:o.op=.call ⟨.builtin .append,#[s,x],#[t,t]⟩)
  (A:ir P t e Z B) {base:Nat}   (F:a.eval s=v) (d:w.ownsRow base e Z v n U)
  {es:Array Value} {T:TypeId} (H:a.eval x=.slice (some ⟨w.heap.size,0,none⟩) 1 1) (D:es.size=Z) (z:∀u∈es.toList,u.oneCell'=true)
  (I:n<=1099511627775) (q:base<=w.heap.size)
  (h:∀g f,amS w f base e Z v g (n+1) (U++es.toList)->wpList P N Q rest (a.put o.dst g) f):wpList P N Q (o::rest) a (w.alloc (.cells es T)):=by
 refine aez k s x t C A F (d.alloc _) (c:=1) (m:=1) (news:=es.toList) H (by simp[D]) (λ_=>⟨_,rfl,λj u E=> ?_⟩) z (by omega) (by simp;omega) λg f l=>h g f ?_
 .have p:(⟨w.heap.size,0,none⟩:Addr).add j=⟨w.heap.size,j,none⟩:=by unfold Addr.add;split<;>simp_all
  rw[p,(aX.new w T es).cell];simpa using E
 .refine⟨l.own, ?_, ?_⟩
  .exact((aZ.refl (λb=>v.ownBlock=some b) w).alloc _).trans l.eZ λi _ G=>G
  .intro b y;rcases l.at_ b y with r|r
   .exact .inl r
   .simp at r;right;omega
end
def abU:ir (ai β) 93 3 1 8:=ir.mk' xq (z:=.int .i64 0) (by kernel_rfl) rfl (by decide) (by decide)
def gT{base:Nat}(h:w.ownsRow base e Z v n U):∃A c,v=.slice A n c:=by
 rcases h.2 with⟨rfl,rfl⟩|⟨g,cap,a,rfl,_⟩
 .exact⟨_,_,rfl⟩
 .exact⟨_,_,rfl⟩
def axm {E:fW Y} {base : Nat}     (h:w.ownsRow base e Z v xs.length U) (t:w.heap.size<=hi)
  (o:∀i x,xs[i]?=some x->∃a:List Value,a.length=Z/\E w base hi x a/\∀j u,a[j]?=some u->U[i*Z+j]?=some u):bC E Z w base hi xs [v]:=by
 obtain⟨A,l⟩:=h;rcases l with⟨rfl,m⟩|⟨g,cap,d,rfl,n,k,f,c,s,p⟩
 .exact⟨none,0,by rw[m],by omega,by unfold maxLen;omega,λB=>by omega⟩
 .refine⟨_,cap,rfl,f,c,λ_=>⟨g,0,rfl,n,bd (dl.1 k).1 t,λi x hi=> ?_⟩⟩;obtain⟨a,q,y,z⟩:=o i x hi;refine⟨a,q,y,λj u r=> ?_⟩;have b:=z j u r;rw[<-p,qD] at b;split at b
  .rw[cell_of_row w g (0+i*Z+j) d e (0,0) k];rw[lP];simpa using b
  .cases b
end
end Go.Proofs.YtlaobkmopohmnaaGreatDoor