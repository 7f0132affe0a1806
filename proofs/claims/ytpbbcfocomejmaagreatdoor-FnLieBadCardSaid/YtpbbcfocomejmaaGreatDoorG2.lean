/- A part of the proof. -/
import Derived.Test.YtpbbcfocomejmaaGreatDoorG1
import Derived.KernelRfl
import Derived.Test.YtpbbcfocomejmaaGreatDoorRows
import Derived.ProofKit
import Derived.OpenShut
import Derived.Handy
import Derived.BigQuiet
import Derived.Deep.QuietTactic
import Derived.Outline
import Derived.Deep.Draws
import Derived.Lib.Hide
import Derived.Laws.Strings
set_option maxRecDepth 100000
set_option maxHeartbeats 8000000
set_option linter.all false
open Go Go.RowKit Go.Proofs.Tryz Go.Proofs.YtpbbcfocomejmaaGreatDoor
variable {U M B c hi k n:Nat} {Y:Type} {V fr:Frame} {N a w w':World} {v:Value} {f:FuncId} {P:Program} {S:Nat→Prop} {i:TypeInfo} {l:List Nat} {K todo:List Item} {g g':Goroutine} {W cs l':List Frame} {Q r:Option Nat} {Z t:Array Value} {R es:Array Event} {A:Option Addr} {L:List Deferred} {e e':Operand→Value} {s':List Frame→GStep} {O:TypeId→Option TypeInfo} {s:List Frame→World→GStep} {x:Y} {xs:List Y}
namespace Go.Proofs.YtpbbcfocomejmaaGreatDoor
def ab:=@_root_.Go.Lib.hid
def ap:=@_root_.List.length_append
def bv:=@_root_.decide_eq_false
def da:=@_root_.List.mem_of_getElem?
def db:=@_root_.decide_eq_true
def dq:=@_root_.beq_eq_false_iff_ne
def fa:=@_root_.Nat.zero_le
def fb:=@_root_.List.length_take
def ff:=@_root_.List.length_cons
def gc:=@_root_.Array.getD_eq_getD_getElem?
def gE:=@_root_.Option.map_eq_some_iff
def iS:=@_root_.List.getElem?_eq_getElem
def lP:=@_root_.Bool.not_eq_true
def mc:=@_root_.List.mem_cons
def nF:=@_root_.Option.bind_eq_some_iff
def oS:=@_root_.Nat.eq_zero_or_pos
def pa:=@_root_.Nat.lt_or_ge
def pe:=@_root_.List.length_map
def pu:=@_root_.List.mem_of_mem_take
def pv:=@_root_.Go.Value.slice.injEq
def pY:=@_root_.Array.getElem?_setIfInBounds_self_of_lt
def qa:=@_root_.Array.getElem?_eq_none
def qb:=@_root_.Go.RowKit.Below.heap_setCell
def qe:=@_root_.List.take_of_length_le
def qh:=@_root_.Option.map_some
def qi:=@_root_.List.cons.injEq
def ql:=@_root_.List.mem_range
def qm:=@_root_.and_true
def qn:=@_root_.Option.getD_some
def qo:=@_root_.List.getElem?_append_right
def qp:=@_root_.Bool.false_ne_true
def qs:=@_root_.List.length_replicate
def qv:=@_root_.Go.World.cell?_of_block
def qx:=@_root_.Array.mem_of_getElem?
def qz:=@_root_.List.getElem?_append_left
def qA:=@_root_.Classical.byContradiction
def qE:=@_root_.List.getElem?_map
def qG:=@_root_.Go.Stepped.next.injEq
def qH:=@_root_.decide_eq_true_eq
def qJ:=@_root_.Go.Sem.run_bind'
def qK:=@_root_.List.map_append
def qN:=@_root_.Go.ByteArray.toList_eq
def qR:=@_root_.List.mem_cons_self
def qS:=@_root_.List.mem_cons_of_mem
def qT:=@_root_.Bool.or_eq_true
def qU:=@_root_.List.cons_append
def qW:=@_root_.List.mem_iff_getElem?
def qX:=@_root_.List.drop_zero
def rb:=@_root_.Nat.mul_le_mul_right
def rm:=@_root_.List.drop_eq_nil_of_le
def rr:=@_root_.List.nil_append
def rx:=@_root_.List.getElem?_eq_none
def ry:=@_root_.Option.isSome_iff_exists
def rN:=@_root_.Array.getElem?_append_left
def rT:=@_root_.Array.mem_toList_iff
def rZ:=@_root_.List.eq_nil_of_length_eq_zero
def se:=@_root_.Go.RowKit.Below.heap_alloc
def sA:=@_root_.UInt8.toNat_inj
def sU:=@_root_.Nat.add_zero
def sV:=@_root_.List.getElem?_take_of_lt
def tf:=@_root_.List.all_append
def tn:=@_root_.List.append_assoc
def tq:=@_root_.dif_pos
def tw:=@_root_.Nat.mul_comm
def tU:=@_root_.List.map_map
def uh:=@_root_.List.getElem?_replicate
def uo:=@_root_.List.all_eq_false
def uz:=@_root_.Bool.false_or
def uA:=@_root_.Bool.and_true
def uB:=@_root_.true_iff
def uG:=@_root_.Array.toList_inj
def uS:=@_root_.List.map_congr_left
def vd:=@_root_.Nat.add_assoc
def vf:=@_root_.Int.tmod_eq_emod_of_nonneg
def vg:=@_root_.Bool.or_false
def vh:=@_root_.Bool.not_true
def vw:=@_root_.List.extract_eq_take_drop
def vF:=@_root_.List.all_nil
def vJ:=@_root_.List.range_succ
def vQ:=@_root_.ByteArray.data_extract
def vT:=@_root_.List.take_take
def vZ:=@_root_.Nat.pow_le_pow_right
def we:=@_root_.List.replicate_succ'
section
def aaO{t:TypeId}(h:adQ P t=true):∀k e,P.underlying t=some (.map k e)->∃b,P.underlying k=some (.int b):=λk e a=>by
 unfold adQ ag8 at h;rw[a] at h;dsimp only at h;split at h
 .exact⟨_,by assumption⟩
 .cases h
section
variable {P P':Program} {ρ:Ren}
variable (T:Twin P P') (X:ait P P')
include T
theorem lO:∀(d:Nat) {ρ:Ren} (t:TypeId) {x j y i:Value},VR ρ x j->VR ρ y i->aw P P' jk ρ (Op.eqGuardIn d t x y) (Op.eqGuardIn d t j i)
 |0,_,_,_,_,_,_,_,_=>.halt _ _
 |d+1,ρ,t,x,j,y,i,g,c=>by
  unfold Op.eqGuardIn;refine ag (aD T t) λM u O C hd=> ?_;obtain⟨rfl,hd⟩:=hd;replace g:=g.mono C;replace c:=c.mono C;cases u with
  |interface N=>cases g<;>cases c<;>first|exact ai rfl|(cases j<;>first|exact ai rfl|exact absurd (by assumption:jr Value.nilIface=true) (by decide)|exact absurd (by assumption:jr (Value.agg _)=true) qp)|(cases i<;>first|exact ai rfl|exact absurd (by assumption:jr Value.nilIface=true) (by decide)|exact absurd (by assumption:jr (Value.agg _)=true) qp)
  |struct L=>cases g with
   |agg g=>cases c with
    |agg c=>
     refine ag (abv (B:=jk) L (rfl:jk M (none,()) (none,())) λm f r l k _ _=> ?_) λm r l k e=> ?_
     .refine aR (λ_=> ?_) λ_=>ai (.yield rfl);refine ag (mg T f.type (bP.mono k g) f.offset) λJ a I w s=> ?_;refine ag (mg T f.type (bP.mono (k.trans w) c) f.offset) λH b F o p=> ?_;refine ag (lO d f.type (s.mono o) p) λD q v _ e=> ?_;obtain rfl:q=v:=e;exact aR (λ_=>ai (.done rfl)) λ_=>ai (.yield rfl)
     .obtain rfl:r=l:=e;obtain⟨_|q,u⟩:=r<;>exact ai rfl
    |fH=>(cases i<;>first|exact ai rfl|exact absurd (by assumption:jr Value.nilIface=true) (by decide)|exact absurd (by assumption:jr (Value.agg _)=true) qp)
    |_=>exact ai rfl
   |_=>cases c<;>first|exact ai rfl|(cases j<;>first|exact ai rfl|exact absurd (by assumption:jr Value.nilIface=true) (by decide)|exact absurd (by assumption:jr (Value.agg _)=true) qp)|(cases i<;>first|exact ai rfl|exact absurd (by assumption:jr Value.nilIface=true) (by decide)|exact absurd (by assumption:jr (Value.agg _)=true) qp)
  |array n e=>cases g with
   |agg g=>cases c with
    |agg c=>
     refine ag (fq T e) λK z G E q=> ?_;obtain rfl:z=G:=q;refine ag (abw (B:=jk) n (rfl:jk K (none,()) (none,())) λm f r l k _=> ?_) λm r l k e=> ?_
     .have A:=E.trans k;refine ag (mg T e (bP.mono A g) (f*z)) λJ a I w s=> ?_;refine ag (mg T e (bP.mono (A.trans w) c) (f*z)) λH b F o p=> ?_;refine ag (lO d e (s.mono o) p) λD q v _ e=> ?_;obtain rfl:q=v:=e;exact aR (λ_=>ai (.done rfl)) λ_=>ai (.yield rfl)
     .obtain rfl:r=l:=e;obtain⟨_|q,u⟩:=r<;>exact ai rfl
    |fH=>(cases i<;>first|exact ai rfl|exact absurd (by assumption:jr Value.nilIface=true) (by decide)|exact absurd (by assumption:jr (Value.agg _)=true) qp)
    |_=>exact ai rfl
   |_=>cases c<;>first|exact ai rfl|(cases j<;>first|exact ai rfl|exact absurd (by assumption:jr Value.nilIface=true) (by decide)|exact absurd (by assumption:jr (Value.agg _)=true) qp)|(cases i<;>first|exact ai rfl|exact absurd (by assumption:jr Value.nilIface=true) (by decide)|exact absurd (by assumption:jr (Value.agg _)=true) qp)
  |_=>exact ai rfl
theorem aoH(op:BinOp)(t:TypeId)(x y:Operand){a b c : Value}(j:VR ρ a v)(d:VR ρ b c):aw P P' jk ρ (eqGuard op t x y a b) (eqGuard op t x y v c):=by
 unfold eqGuard;refine aR (λ_=>ai rfl) λ_=> ?_;have i:=j;have g:=d;cases j with
 |nilIface=>cases d with
  |nilIface=>
   refine aR (λ_=>ai rfl) λ_=> ?_;refine ag (lO T _ t .nilIface .nilIface) λm q f _ e=> ?_;obtain rfl:q=f:=e;exact aR (λ_=>.halt _ _) λ_=>ai rfl
  |fH=>(cases c<;>first|exact ai rfl|exact absurd (by assumption:jr Value.nilIface=true) (by decide)|exact absurd (by assumption:jr (Value.agg _)=true) qp)
  |_=>exact ai rfl
 |agg j=>cases d with
  |agg d=>
   refine ag cU λm p A l n=> ?_;obtain⟨r,w⟩:=n;refine ag cU λz q f k o=> ?_;obtain⟨s,u⟩:=o;rw[r,w,s,u,T.akD,T.depth];refine aR (λ_=>ai rfl) λ_=> ?_;refine ag (lO T _ t (i.mono (l.trans k)) (g.mono (l.trans k))) λm q f _ e=> ?_;obtain rfl:q=f:=e;exact aR (λ_=>.halt _ _) λ_=>ai rfl
  |fH=>(cases c<;>first|exact ai rfl|exact absurd (by assumption:jr Value.nilIface=true) (by decide)|exact absurd (by assumption:jr (Value.agg _)=true) qp)
  |_=>exact ai rfl
 |_=>cases d<;>first|exact ai rfl|(cases v<;>first|exact ai rfl|exact absurd (by assumption:jr Value.nilIface=true) (by decide)|exact absurd (by assumption:jr (Value.agg _)=true) qp)|(cases c<;>first|exact ai rfl|exact absurd (by assumption:jr Value.nilIface=true) (by decide)|exact absurd (by assumption:jr (Value.agg _)=true) qp)
theorem aoI(f dst:TypeId)(a:akB P f dst=true){x : Value}(c:VR ρ x v):aw P P' VR ρ (convert f dst x) (convert f dst v):=by
 unfold convert;refine ag (aD T f) λA u y r l=> ?_;obtain⟨rfl,l⟩:=l;refine ag (aD T dst) λn v t o m=> ?_;obtain⟨rfl,m⟩:=m;replace c:=c.mono (r.trans o);unfold akB at a;rw[l,m] at a;cases v with
 |int k=>
  cases u with
  |int w=>cases c with
   |int=>exact ai (.int _ _)
   |pointer h=>cases h<;>exact .halt _ _
   |slice h=>cases h<;>exact .halt _ _
   |_=>exact .halt _ _
  |_=>cases a
 |string=>
  cases u with
  |slice e=>
   have b:∀{x v:Value},VR n x v->aw P P' VR n (do
     match<-underlying e with
     |.int .u8=>Conv.bytesToString x
     |.int .i32=>Conv.runesToString x
     |_=>stuck "Convert: a slice of what to string?") (do
     match<-underlying e with
     |.int .u8=>Conv.bytesToString v
     |.int .i32=>Conv.runesToString v
     |_=>stuck "Convert: a slice of what to string?"):=λ{x v} c=>by
    refine ag (aD T e) λq z p j g=> ?_;obtain⟨rfl,g⟩:=g;dsimp only at a;rw[g] at a;cases z with
    |int k=>cases k<;>first|exact adz (c.mono j)|exact .halt _ _|cases a
    |_=>exact .halt _ _
   have i:=c;cases c with
   |int=>exact ai (.string _)
   |string s=>exact ai (.string _)
   |pointer h=>cases h<;>exact b i
   |slice h=>cases h<;>exact b i
   |fH=>
    refine .dead (Leaves.bind (aen e) λd _=> ?_) _;cases d with
    |int k=>cases k<;>exact trivial
    |_=>exact trivial
   |_=>exact b i
  |unsafePointer=>cases a
  |_=>cases c with
   |int=>exact ai (.string _)
   |string s=>exact ai (.string _)
   |pointer h=>cases h<;>exact .halt _ _
   |slice h=>cases h<;>exact .halt _ _
   |_=>exact .halt _ _
 |slice e=>
  cases u with
  |string=>cases c with
   |string s=>
    refine ag (aD T e) λq z p j g=> ?_;obtain⟨rfl,g⟩:=g;dsimp only at a;rw[g] at a;cases z with
    |int k=>cases k<;>first|exact adA e s|exact .halt _ _|cases a
    |_=>exact .halt _ _
   |pointer h=>cases h<;>exact .halt _ _
   |slice h=>cases h<;>exact .halt _ _
   |_=>exact .halt _ _
  |_=>cases a
 |_=>cases u<;>cases a
theorem akQ(x:Operand)(dst:Option Tmp)(t:TypeId)(pos:String)(af:Array Edge)(g:Option (Nat×Bool))(o:VR ρ (e x) (e' x)):aw P P' ig ρ (execOp e ⟨dst,.nilCheck x,t,pos,af,g⟩) (execOp e' ⟨dst,.nilCheck x,t,pos,af,g⟩):=by
 unfold execOp;dsimp only;revert o;generalize e x=v;generalize e' x=v';intro o;cases o with
 |pointer h=>cases h with
  |none=>exact .dead (eA _) _
  |some h=>exact ai (.value (.pointer (.some h)))
 |nilIface=>exact .dead (eA _) _
 |nilFunc=>exact .dead (eA _) _
 |@func p r i _ _ _ _ m l=>
  cases i with
  |same _ i=>
   cases p with
   |func p=>exact ai (.value (.func (.same _ i) m l))
   |_=>cases i
  |yield h=>exact ai (.value (.func (.yield h) m l))
 |abk k j=>exact .dead (eA _) _
 |slice m l q=>exact ai (.value (.slice m l q))
 |map h=>exact ai (.value (.map h))
 |chan h=>exact ai (.value (.chan h))
 |iface t h=>exact ai (.value (.iface t h))
 |agg h=>exact ai (.value (.agg h))
 |tuple h=>exact ai (.value (.tuple h))
 |fH j d=>
  cases v' with
  |pointer a=>cases a with
   |none=>cases d
   |some a=>exact ai (.value (.fH j d))
  |func f a c=>cases f<;>first|(cases d;done)|exact ai (.value (.fH j d))
  |_=>first|(cases d;done)|exact ai (.value (.fH j d))
 |bool b=>exact ai (.value (.bool b))
 |int k n=>exact ai (.value (.int k n))
 |string s=>exact ai (.value (.string s))
theorem aoJ(b:Builtin)(ts:Array TypeId)(t:TypeId)(cs:Array Bool)(c:acu P b ts=true){a : Array Value}(h:cZ ρ a Z):aw P P' ig ρ (builtin b ts t cs a) (builtin b ts t cs Z):=by
 cases b with
 |append=>
  refine bj (aqz T ts t (λu e k d=> ?_) h);unfold acu ag8 at c;rw[e] at c;simp[d] at c
 |cap=>exact bj (azu T ts t h)
 |clear=>exact bj (atY T ts t h)
 |copy=>exact bj (axx T ts t h)
 |len=>exact bj (azt T ts t h)
 |max=>exact bj (azv ts t h)
 |min=>exact bj (azw ts t h)
 |unsafeString=>exact bj (aek T ts t h)
 |unsafeSlice=>exact bj (afG T ts t h)
 |_=>cases c
include X
theorem am9{v' : Value}(a:VR ρ v v'){args args':Array Value}(b:cZ ρ args args'):aw P P' ig ρ (do let d<-Deferred.ofValue v args;invoke d.target d.args) (do let d<-Deferred.ofValue v' args';invoke d.target d.args):=by
 unfold Deferred.ofValue;cases a with
 |nilFunc=>
  show aw P P' ig ρ (runtimePanic .nilDeref) _;exact .dead (eA _) _
 |@func f l a _ _ _ _ g i=>
  cases a with
  |same _ a=>
   cases f with
   |func f=>exact akO T X f a (cZ.app (cZ.app g b) i)
   |_=>cases a
  |yield h=>exact at5 h (cZ.app g b)
 |abk k j=>
  refine .dead ?_ _;show kF P (invoke (.fn (.method "") (Array.replicate k .nilIface)) (#[.nilIface]++args));have e:(#[Value.nilIface]++args)[0]?=some .nilIface:=by
   rw[rN (by show 0<1;omega)];rfl
  unfold invoke;simp only[e];show kF P (runtimePanic .nilDeref);exact eA _
 |_=>exact .halt _ _
theorem axG(c:Call)(t:TypeId)(l:adB ρ e e')(j:mb P gA gL (.call c)=true):aw P P' ig ρ (do let d<-resolve e c t;invoke d.target d.args) (do let d<-resolve e' c t;invoke d.target d.args):=by
 unfold mb at j;simp only[fd] at j;obtain⟨g,k⟩:=j;obtain⟨a,args,n⟩:=c;simp only[Op.operands,Call.operands,pr,tf,fd] at g;have i:=l.map g.2;cases a with
 |builtin b=>
  exact aoJ T b n t _ k i
 |invoke r m=>cases k
 |value f=>exact am9 T X (l f (by simpa using g.1)) i
theorem aB1{o o':Oper}(a:aak gA gL o'.op=true)(c:o={o' with type:=gB})(f:adB ρ e e'):aw P P' ig ρ (execOp e o) (execOp e' o'):=by
 subst c;obtain⟨dst,op,type,d,after,b⟩:=o';dsimp only at a;unfold aak at a;split at a
 .exact bj (abx _ gB type T.atP (f.map a))
 .cases a
theorem aqR{o:Oper}(w:mb P gA gL o.op=true)(p:adB ρ e e'):aw P P' ig ρ (execOp e o) (execOp e' o):=by
 obtain⟨dst,op,v,K,after,D⟩:=o;dsimp only at w;have A:=w;unfold mb at w;simp only[fd] at w;obtain⟨j,u⟩:=w;cases op with
 |move x=>exact ai (.value (p x (by simpa[Op.operands] using j)))
 |assign x=>exact ai (.value (p x (by simpa[Op.operands] using j)))
 |pick c a b=>
  simp[Op.operands] at j;refine ag (ad8 (p c j.1)) λI q L z e=> ?_;obtain rfl:q=L:=e;cases q with
  |true=>exact ai (.value ((p a j.2.1).mono z))
  |false=>exact ai (.value ((p b j.2.2).mono z))
 |alloc t=>exact bj (atT T t)
 |box t x=>exact bj (azs t (p x (by simpa[Op.operands] using j)))
 |build t F=>
  refine bj (atX T t ?_);rw[qD,qD];exact p.parts (by simpa[Op.operands] using j)
 |buildSlice t n F=>
  refine bj (aha T t n ?_);rw[qD,qD];exact p.parts (by simpa[Op.operands] using j)
 |load t a=>exact bj (aqw T t (p a (by simpa[Op.operands] using j)))
 |store t a x=>
  simp[Op.operands] at j;exact ahe (aon T t (p a j.1) (p x j.2))
 |nilCheck x=>exact akQ T x _ _ _ _ _ (p x (by simpa[Op.operands] using j))
 |binOp op t x y M=>
  simp[Op.operands] at j;refine bj (ag (aoH T op t x y (p x j.1) (p y j.2)) λI _ _ z _=>at2 T op t ((p x j.1).mono z) ((p y j.2).mono z))
 |unOp op t x=>exact bj (atZ op (p x (by simpa[Op.operands] using j)))
 |convert s d x=>exact bj (aoI T s d u (p x (by simpa[Op.operands] using j)))
 |makeInterface t x=>exact bj (adv T t (p x (by simpa[Op.operands] using j)))
 |makeFunc f a c=>
  simp only[Op.operands,pr,tf,fd] at j;exact bj (akG (.same f u) (p.map j.1) (p.map j.2))
 |makeMap t r=>cases r with
  |none=>exact bj (akH t)
  |some x=>cases u
 |makeSlice t l c=>
  simp[Op.operands] at j;exact bj (air T t (p l j.1) (p c j.2))
 |slice t x l h m=>
  simp only[Op.operands,pr,tf,fd] at j;obtain⟨⟨⟨C,B⟩,E⟩,G⟩:=j;have op:∀{l:Option Operand},l.toArray.toList.all (bH gA gL)=true->OVR ρ (l.map e) (l.map e'):=λ{l} h=>p.opt λx J=>by subst J;simpa using h
  exact bj (aor T t (p x (by simpa using C)) (op B) (op E) (op G))
 |fieldAddr t x f=>
  refine bj (aop T t f (λN g i C B E=> ?_) (p x (by simpa[Op.operands] using j)));unfold amZ at u;simpa[C,B,E] using u
 |field t x f=>exact bj (atU T t (p x (by simpa[Op.operands] using j)) f)
 |indexAddr t x i=>
  simp[Op.operands] at j;exact bj (aoq T t (p x j.1) (p i j.2))
 |index t x i=>
  simp[Op.operands] at j;exact bj (atW T t (p x j.1) (p i j.2))
 |lookup t x i H=>
  simp[Op.operands] at j;exact bj (aqB T t (aaO u) (p x j.1) (p i j.2) H)
 |mapUpdate t m k x=>
  simp[Op.operands] at j;exact ahe (ac1 T t (aaO u) (p m j.1) (p k j.2.1) (p x j.2.2))
 |insert t m k x=>
  simp[Op.operands] at j;exact ahe (ac1 T t (aaO u) (p m j.1) (p k j.2.1) (p x j.2.2))
 |range t x=>exact bj (at1 T t (p x (by simpa[Op.operands] using j)))
 |next x b=>exact bj (axC (p x (by simpa[Op.operands] using j)) b v)
 |extract x i=>exact bj (aoo (p x (by simpa[Op.operands] using j)) i)
 |call c=>exact axG T X c v p A
 |panic x=>exact bj (at0 _ _)
 |_=>cases u
end
section
variable (P:Program)
inductive ItR (ρ:Ren):Item->Item->Prop
 |code (c:Code):ItR ρ (.code (gP c)) (.code c)
 |inBlock (id:Nat):ItR ρ (.inBlock id) (.inBlock id)
 |inLoop (c:Code):ItR ρ (.inLoop (gP c)) (.inLoop c)
 |inScope (c:Code):ItR ρ (.inScope (gP c)) (.inScope c)
 |inRegion {ops ops':Array Oper} (h:aqt P ops ops') (l:List Nat):ItR ρ (.inRegion ops l) (.inRegion ops' l)
 |inRangeFunc {l l':Nat} (h:ρ.r l l'):ItR ρ (.inRangeFunc l) (.inRangeFunc l')
 |endRangeFunc {l l':Nat} (h:ρ.r l l'):ItR ρ (.endRangeFunc l) (.endRangeFunc l')
 |beginRound:ItR ρ .beginRound .beginRound
inductive jy (ρ:Ren):List Item->List Item->Prop
 |nil:jy ρ [] []
 |cons {x x':Item} {l l':List Item} (h:ItR P ρ x x') (hl:jy ρ l l'):jy ρ (x::l) (x'::l')
end
inductive CDs (ρ:Ren):List Deferred->List Deferred->Prop
 |nil:CDs ρ [] []
 |cons {b b':Nat} {l l':List Deferred} (h:ρ.r b b') (hl:CDs ρ l l'):CDs ρ (⟨.collected b,#[]⟩::l) (⟨.collected b',#[]⟩::l')
structure FrR (P:Program) (ρ:Ren) (fr cE:Frame):Prop where
 fn:fr.fn=cE.fn
 tmps:cZ ρ fr.tmps cE.tmps
 todo:jy P ρ fr.todo cE.todo
 defers:CDs ρ fr.defers cE.defers
 mode:(fr.mode=.run/\cE.mode=.run)\/(fr.mode=.returning/\cE.mode=.returning)
 kind:fr.kind=.normal/\cE.kind=.normal
 round:NR ρ fr.roundOf cE.roundOf
inductive iz (P:Program) (ρ:Ren):List Frame->List Frame->Prop
 |one {fr cE:Frame} (h:FrR P ρ fr cE) (h0:fr.roundOf=none):iz P ρ [fr] [cE]
 |cons {fr cE:Frame} {l l':List Frame} (h:FrR P ρ fr cE) (hl:iz P ρ l l'):iz P ρ (fr::l) (cE::l')
section
variable {P:Program} {ρ σ:Ren}
def ItR.mono(h:ρ.Le σ){x a:Item}:ItR P ρ x a->ItR P σ x a
 |.code c=>.code c
 |.inBlock id=>.inBlock id
 |.inLoop c=>.inLoop c
 |.inScope c=>.inScope c
 |.inRegion h l=>.inRegion h l
 |.inRangeFunc x=>.inRangeFunc (h.r x)
 |.endRangeFunc x=>.endRangeFunc (h.r x)
 |.beginRound=>.beginRound
def jy.mono(h:ρ.Le σ):∀{x a:List Item},jy P ρ x a->jy P σ x a
 |_,_,.nil=>.nil
 |_,_,.cons x y=>.cons (x.mono h) (y.mono h)
def CDs.mono(h:ρ.Le σ):∀{x a:List Deferred},CDs ρ x a->CDs σ x a
 |_,_,.nil=>.nil
 |_,_,.cons x y=>.cons (h.r x) (y.mono h)
def FrR.mono(h:ρ.Le σ)(x:FrR P ρ fr V):FrR P σ fr V:=
 ⟨x.fn,bP.mono h x.tmps,x.todo.mono h,x.defers.mono h,x.mode,x.kind,x.round.mono h⟩
def iz.mono(h:ρ.Le σ):∀{x a:List Frame},iz P ρ x a->iz P σ x a
 |_,_,.one x y=>.one (x.mono h) y
 |_,_,.cons x y=>.cons (x.mono h) (y.mono h)
def VR.undef:VR ρ undef undef:=.tuple .nil
def aqt.dst{b a:Array Oper}(h:aqt P b a)(i:Nat):(b[i]?).bind (·.dst)=(a[i]?).bind (·.dst):=by
 obtain⟨g,h⟩:=h;cases e:b[i]? with
 |none=>
  have:a[i]?=none:=by
   rw[qd] at e ⊢;omega
  rw[this]
 |some o=>
  have f:=(dk.1 e).1;obtain⟨c,d⟩:∃c,a[i]?=some c:=⟨_,fm (by omega)⟩;rw[d];rcases h i o c e d with⟨rfl,_⟩|⟨_,rfl⟩<;>rfl
def FrR.finish(h:FrR P ρ fr V){v' : Value}(z:VR ρ v v'):FrR P ρ (fr.finish v) (V.finish v'):=by
 obtain⟨f,t,y,d,m,k,r⟩:=fr;obtain⟨E,s,A,D,F,C,B⟩:=V;obtain⟨u,a,w,b,e,g,c⟩:=h;dsimp only at u a w b e g c;subst u;cases w with
 |nil=>exact⟨rfl,a,.nil,b,e,g,c⟩
 |cons x j=>
  cases x with
  |inRegion p l=>
   cases l with
   |nil=>exact⟨rfl,a,.cons (.inRegion p []) j,b,e,g,c⟩
   |cons i o=>
    refine⟨rfl, ?_,.cons (.inRegion p o) j,b,e,g,c⟩;show cZ ρ (match _ with|some d=>t.setIfInBounds d v|none=>t) (match _ with|some d=>s.setIfInBounds d v'|none=>s);rw[p.dst i];split
    .exact a.set _ z
    .exact a
  |inRangeFunc q=>exact⟨rfl,a,.cons (.endRangeFunc q) j,b,e,g,c⟩
  |beginRound=>exact⟨rfl,a,j,b,e,g,c⟩
  |code n=>exact⟨rfl,a,.cons (.code n) j,b,e,g,c⟩
  |inBlock id=>exact⟨rfl,a,.cons (.inBlock id) j,b,e,g,c⟩
  |inLoop n=>exact⟨rfl,a,.cons (.inLoop n) j,b,e,g,c⟩
  |inScope n=>exact⟨rfl,a,.cons (.inScope n) j,b,e,g,c⟩
  |endRangeFunc n=>exact⟨rfl,a,.cons (.endRangeFunc n) j,b,e,g,c⟩
def jy.exit(id:Nat):∀{k a:List Item},jy P ρ k a->(exitTo id k=none/\exitTo id a=none)\/∃l c,exitTo id k=some l/\exitTo id a=some c/\jy P ρ l c
 |_,_,.nil=>.inl ⟨rfl,rfl⟩
 |_,_,.cons x y=>by
  have b:=y.exit id;cases x with
  |inBlock i=>
   unfold exitTo;by_cases e:(i ==id)=true
   .rw[dl e,dl e];exact .inr ⟨_,_,rfl,rfl,y⟩
   .rw[be e,be e];exact b
  |code|inLoop|inScope|inRegion|inRangeFunc|endRangeFunc|beginRound=>simpa[exitTo] using b
end
def kx(w:World)(ds:List Deferred):Prop:=∀d∈ds,∃b,d=⟨.collected b,#[]⟩/\∀x l,w.heap[b]?≠some (.deferred (some (x::l)))
inductive mG (base:List Frame):GStep->Prop
 |ended (o:Outcome) (w:World) (es:Array Event):mG base (.ended o w es)
 |stop {g:Goroutine} {w:World} {es:Array Event} (h:g.status=.blocked\/g.status=.waiting):mG base (.go g w es)
 |raised {fr:Frame} {cs:List Frame} {w:World} {es:Array Event} {ch:List PanicEntry} (hm:fr.mode=.panicking ch) (hd:∀f∈fr::cs,kx w f.defers):mG base (.go {frame:=fr,callers:=cs++base,status:=.running,dying:=none} w es)
 |dying {fr:Frame} {w:World} {es:Array Event} {d:Dying} {f:Fatal} (hf:d.fatal=some f) (hc:d.calling=false):mG base (.go {frame:=fr,callers:=[],status:=.running,dying:=some d} w es)
def mG.after{base:List Frame}{s:GStep}(es:Array Event)(h:mG base s):mG base (s.after es):=by
 cases h with
 |ended o w e=>exact .ended o w _
 |stop h=>exact .stop h
 |raised a hd=>exact .raised a hd
 |dying b c=>exact .dying b c
def Gl:List Frame->List Frame->Goroutine
 |[],base=>{(default:Goroutine) with callers:=base}
 |fr::cs,base=>⟨fr,cs++base,.running,none,none⟩
def GoR(P P':Program)(ρ:Ren)(l l':List Frame):Prop:=
 iz P ρ l l'\/∃f a b m c,gH f=true/\cZ ρ a b/\iz P ρ m c/\l=Frame.enter P f a .normal::m/\l'=Frame.enter P' f b .normal::c
def lA(P P':Program)(ρ:Ren)(w w':World)(s:List Frame->World->GStep)(s':List Frame->GStep):Prop:=
 ∃(a:Tape) (D:Nat),(∀base t,Agr w D a t->mG base (s base (w.dK t)))\/
  ∃c g e i b f d,(∀base t,Agr w D a t->s base (w.dK t)=.go (Gl g base) (e.dK t) i)/\e.drawn=w.drawn+D/\ρ.Le c/\(∀base,s' base=.go (Gl b base) f d)/\WR c e f/\Kept ρ c w w' e f/\EvW w c i d/\GoR P P' c g b
section
variable {P P':Program} {ρ:Ren} {w w':World}
def lA.still{l : List Frame}(a:WR ρ w w')(h:∀base w,s base w=.go (Gl l base) w #[])(b:∀base,s' base=.go (Gl l' base) w' #[])(c:GoR P P' ρ l l'):lA P P' ρ w w' s s':=
 ⟨w.tape,0,.inr ⟨ρ,l,w,#[],l',w',#[],λ_ t _=>h _ _,rfl,Ren.Le.refl _,b,a,Kept.refl _ _ _,.nil _ _,c⟩⟩
def lA.bad(h:∀base w,mG base (s base w)):lA P P' ρ w w' s s':=⟨w.tape,0,.inl λ_ _ _=>h _ _⟩
def CDs.marks{b : List Deferred}(h:CDs ρ L b)(c:WR ρ w w'){t:Tape}(i:fI (w.dK t) N):kx N L:=by
 induction h with
 |nil=>intro d hd;cases hd
 |cons g m j=>
  intro d hd;rcases mc.1 hd with rfl|hd
  .refine⟨_,rfl,λx l e=> ?_⟩;have:=i _ _ _ e;obtain⟨o,p,k,n,f⟩:=c.obj g;have a:(w.dK t).heap[_]?=some o:=k;rw[this] at a;cases a;cases f
  .exact j d hd
def axH(T:Twin P P')(fn:FuncId)(h:mf ρ es.toList R.toList):mf ρ (seen P fn es).toList (seen P' fn R).toList:=by
 have u:∀f:Nat,(P'.funcs[f]?).any (·.norace)=(P.funcs[f]?).any (·.norace):=λf=>by
  cases o:P.funcs[f]? with
  |none=>
   have:P'.funcs[f]?=none:=by
    rw[qd] at o ⊢;rw[T.aio];exact o
   rw[this]
  |some fn=>
   obtain⟨z,v,s⟩:=T.func f fn o;rw[v];simp[s.norace]
 unfold seen;dsimp only;rw[<-su,<-su];simp only[u];generalize t:(λf:Nat=>(P.funcs[f]?).any (·.norace))=Q;have m:∀f:Nat,(P.funcs[f]?).any (·.norace)=Q f:=λf=>by rw[<-t]
 simp only[m];have n:∀{l p:List Event},mf ρ l p->∀(q:Bool) (k b:Array Event),mf ρ k.toList b.toList->
   mf ρ (l.foldl (λx e=>match e.loc with
    |.mark (.extern f)=>(Q f,x.2)
    |_=>(x.1,if x.1&&!e.sync then x.2 else x.2.push e)) (q,k)).2.toList
   (p.foldl (λx e=>match e.loc with
    |.mark (.extern f)=>(Q f,x.2)
    |_=>(x.1,if x.1&&!e.sync then x.2 else x.2.push e)) (q,b)).2.toList:=by
  intro l p h
  induction h with
  |nil=>intro q k b d;exact d
  |cons r B j=>
   intro q k b d;rw[uN,uN];have push:∀e i:Event,EvR ρ e i->mf ρ (if(q&&!e.sync)=true then k else k.push e).toList (if(q&&!i.sync)=true then b else b.push i).toList:=λe i h=>by
    have w:e.sync=i.sync:=by cases h;rfl
    rw[w];split
    .exact d
    .rw[rL,rL];exact d.app (.cons h .nil)
   have a:=r;cases r with
   |mk g wr A=>
    cases g with
    |cell D=>exact j _ _ _ (push _ _ a)
    |obj C=>exact j _ _ _ (push _ _ a)
    |mark y=>
     cases y with
     |extern f=>exact j _ _ _ d
     |_=>exact j _ _ _ (push _ _ a)
 exact n h _ _ _ .nil
def aqS(P:Program)(fn:FuncId)(es:Array Event):∀e∈(seen P fn es).toList,e∈es.toList:=by
 unfold seen;dsimp only;rw[<-su];have d:∀(l:List Event) (q:Bool) (k:Array Event) (S:List Event),(∀e∈k.toList,e∈S)->(∀e∈l,e∈S)->
   ∀e∈(l.foldl (λx e=>match e.loc with
    |.mark (.extern f)=>((P.funcs[f]?).any (·.norace),x.2)
    |_=>(x.1,if x.1&&!e.sync then x.2 else x.2.push e)) (q,k)).2.toList,e∈S:=by
  intro l
  induction l with
  |nil=>intro q k S c _;exact c
  |cons x l i=>
   intro q k S c g;rw[uN];have push:∀e∈(if(q&&!x.sync)=true then k else k.push x).toList,e∈S:=by
    split
    .exact c
    .intro e a;rw[rL,me] at a;rcases a with a|a
     .exact c e a
     .simp at a;subst a;exact g _ (qR ..)
   have b:∀e∈l,e∈S:=λe a=>g e (qS _ a);split
   .exact i _ k S c b
   .exact i _ _ S push b
 exact d es.toList _ _ es.toList (λe a=>by cases a) λe a=>a
def aaP(T:Twin P P')(fn:FuncId)(h:EvW w ρ es R):EvW w ρ (seen P fn es) (seen P' fn R):=
 ⟨axH T fn h.ev,λb c e a=>h.nw b c e (aqS P fn es e a)⟩
end
section
variable {P P':Program} {ρ σ:Ren} {base:List Frame} {w w':World}
def iz.put(g:ρ.Le σ){a b : Frame}(h:iz P ρ (fr::cs) (V::W))(c:FrR P σ a b)(e:a.roundOf=fr.roundOf):iz P σ (a::cs) (b::W):=by
 cases h with
 |one h f=>exact .one c (e.trans f)
 |cons h d=>exact .cons c (d.mono g)
def iz.head(h:iz P ρ (fr::cs) (V::W)):FrR P ρ fr V:=by
 cases h with
 |one h a=>exact h
 |cons h b=>exact h
def iz.marks{l : List Frame}(h:iz P ρ l l')(b:WR ρ w w'){t:Tape}(c:fI (w.dK t) N):∀f∈l,kx N f.defers:=by
 induction h with
 |one h g=>intro f a;simp at a;subst a;exact h.defers.marks b c
 |cons h e d=>
  intro f a;rcases mc.1 a with rfl|a
  .exact h.defers.marks b c
  .exact d f a
def GoR.of(h:iz P ρ (fr::cs) (V::W)):GoR P P' ρ (fr::cs) (V::W):=.inl h
def FrR.at(h:FrR P ρ fr V)(a:jy P ρ todo K):FrR P ρ {fr with todo} {V with todo:=K}:=
 ⟨h.fn,h.tmps,a,h.defers,h.mode,h.kind,h.round⟩
def aaQ{c:List PanicEntry}(d:∀f∈fr::cs,kx N f.defers):mG base (.go ⟨fr.raise c,cs++base,.running,none,none⟩ N #[]):=by
 have:∃a,(fr.raise c).mode=.panicking a:=by unfold Frame.raise;split<;>exact⟨_,rfl⟩
 obtain⟨a,e⟩:=this;refine .raised e λf b=> ?_;rcases mc.1 b with rfl|b
 .have:(fr.raise c).defers=fr.defers:=by unfold Frame.raise;split<;>rfl
  rw[this];exact d fr (by simp)
 .exact d f (by simp[b])
variable (T:Twin P P')
include T
theorem aoK(g:Nat)(w:World):mG base (early P fr cs none g w):=by
 unfold early;simp only[T.ng.1,T.ng.2];exact .ended _ _ _
theorem ahi(m:String)(w:World):mG base (endFatal P fr cs none m w):=by
 unfold endFatal;dsimp only;split
 .exact .dying rfl rfl
 .exact .ended _ _ _
 .exact .ended _ _ _
omit T in
theorem fU(fr:Frame)(v:Value):(fr.finish v).roundOf=fr.roundOf:=by
 unfold Frame.finish;split<;>first|rfl|(split<;>rfl)
theorem agb(w:String):gP (.refuse w)=.refuse w:=by rw[T.pc];rfl
theorem abA(w:String):jy P ρ [.code (.refuse w)] [.code (.refuse w)]:=by
 have h:jy P ρ [.code (gP (.refuse w))] [.code (.refuse w)]:=.cons (.code _) .nil;rw[agb T] at h;exact h
omit T in
theorem aua{l l':Nat}(a:ρ.r l l')(f:FuncId)(b:cZ ρ t Z)(c d:Code):FrR P ρ (Frame.round l f t (gP c) (gP d) .normal) (Frame.round l' f Z c d .normal):=
 ⟨rfl,b,.cons (.code c) (.cons .beginRound (.cons (.code d) .nil)),.nil,.inl ⟨rfl,rfl⟩,⟨rfl,rfl⟩,.some a⟩
theorem ahj(q:gH f=false){a : Array Value}(p:cZ ρ a Z):FrR P ρ (Frame.enter P f a .normal) (Frame.enter P' f Z .normal):=by
 have m:∀n,cZ ρ (a++Array.replicate (n-a.size) undef) (Z++Array.replicate (n-Z.size) undef):=λn=>by
  rw[p.size];exact cZ.app p (bP.kg λv o=>by simp at o;rw[o.2];exact VR.undef)
 cases b:P.funcs[f]? with
 |none=>
  have k:P'.funcs[f]?=none:=by
   rw[qd] at b ⊢;rw[T.aio];exact b
  unfold Frame.enter;rw[b,k];exact⟨rfl,m _,abA T _,.nil,.inl ⟨rfl,rfl⟩,⟨rfl,rfl⟩,.none⟩
 |some fn=>
  obtain⟨l,j,i⟩:=T.func f fn b;unfold Frame.enter;rw[b,j];refine⟨rfl, ?_, ?_,.nil,.inl ⟨rfl,rfl⟩,⟨rfl,rfl⟩,.none⟩
  .show cZ ρ (a++Array.replicate (fn.ntmps-a.size) undef) (Z++Array.replicate (l.ntmps-Z.size) undef);rw[i.ntmps];exact m _
  .show jy P ρ [.code (fn.body.getD _)] [.code (l.body.getD _)];cases d:fn.body with
   |none=>
    obtain rfl:=i.none d;rw[d];exact abA T _
   |some c=>
    obtain⟨r,g,e⟩:=i.some c d;rw[g,e q];exact .cons (.code _) .nil
theorem ahk{s s':Sem Next}(B:iz P ρ (fr::cs) (V::W))(L:WR ρ w w')(hs:aw P P' ig ρ s s') :
  lA P P' ρ w w' (λbase w=>stepG.apply P true fr (cs++base) none s w) (λbase=>stepG.apply P' true V (W++base) none s' w'):=by
 have r:=B.head;have n:(fr.kind ==CallKind.early)=false:=by rw[r.kind.1];rfl
 have k:(V.kind ==CallKind.early)=false:=by rw[r.kind.2];rfl
 have F:(match fr.todo with|.call _ true _ _::_=>CallKind.wrapped|_=>CallKind.normal)=.normal:=by
  have e:=r.todo;revert e;generalize fr.todo=a;generalize V.todo=b;intro e;cases e with
  |nil=>rfl
  |cons x _=>cases x<;>rfl
 have J:(match V.todo with|.call _ true _ _::_=>CallKind.wrapped|_=>CallKind.normal)=.normal:=by
  have e:=r.todo;revert e;generalize fr.todo=a;generalize V.todo=b;intro e;cases e with
  |nil=>rfl
  |cons x _=>cases x<;>rfl
 obtain⟨g,D,H⟩:=hs.run w w' #[] #[] L;rcases H with H|⟨σ,a,j,S,q,G,p,h1,R,z,U,h5,h6,h7,Y⟩
 .refine⟨g,D,.inl λbase t e=> ?_⟩;obtain⟨h,j,mX,hr,hk⟩:=H t e;have Q:=B.marks L hk;unfold stepG.apply;simp only[hr,ph];refine mG.after _ ?_;cases h with
  |panic v=>exact aaQ Q
  |goexit=>exact aaQ Q
  |blocked=>exact .stop (.inl rfl)
  |waiting=>exact .stop (.inr rfl)
  |exit c=>exact .ended _ _ _
  |fatal m=>exact ahi T m j
  |throw m=>exact .dying rfl rfl
  |unsupported u=>
   cases u<;>first|exact .ended _ _ _|exact aoK T _ j
  |stuck s=>exact .ended _ _ _
 .refine⟨g,D,.inr ?_⟩;have o:=B.mono z;have he:EvW w σ (seen P fr.fn G) (seen P' V.fn p):=by rw[r.fn];exact aaP T _ Y
  have E:∀t,Agr w D g t->s.runT P (w.dK t) #[]=(.ok a (j.dK t),G):=λt e=>by rw[h1 t e];simp
  have C:s'.runT P' w' #[]=(.ok S q,p):=by rw[U];simp
  have fin:∀y i,(∀base t,Agr w D g t->stepG.apply P true fr (cs++base) none s (w.dK t)=.go (Gl y base) (j.dK t) (seen P fr.fn G))->(∀base,stepG.apply P' true V (W++base) none s' w'=.go (Gl i base) q (seen P' V.fn p))->GoR P P' σ y i->
    ∃σ y j O i q A,(∀base t,Agr w D g t->stepG.apply P true fr (cs++base) none s (w.dK t)=.go (Gl y base) (j.dK t) O)/\j.drawn=w.drawn+D/\ρ.Le σ/\(∀base,stepG.apply P' true V (W++base) none s' w'=.go (Gl i base) q A)/\WR σ j q/\Kept ρ σ w w' j q/\EvW w σ O A/\GoR P P' σ y i:=
   λy i q1 q2 X=>⟨σ,y,j,_,i,q,_,q1,R,z,q2,h6,h7,he,X⟩
  cases h5 with
  |@value v v' hv=>exact fin (fr.finish v::cs) (V.finish v'::W) (λbase t e=>by unfold stepG.apply;simp only[E t e,ph,n];simp[GStep.after,Gl]) (λbase=>by unfold stepG.apply;simp only[C,ph,k];simp[GStep.after,Gl]) (GoR.of (B.put z ((r.mono z).finish hv) (fU _ _)))
  |skip=>exact fin (fr.finish undef::cs) (V.finish undef::W) (λbase t e=>by unfold stepG.apply;simp only[E t e,ph,n];simp[GStep.after,Gl]) (λbase=>by unfold stepG.apply;simp only[C,ph,k];simp[GStep.after,Gl]) (GoR.of (B.put z ((r.mono z).finish VR.undef) (fU _ _)))
  |@enter f a0 K M=>
   refine fin (Frame.enter P f a0 .normal::fr::cs) (Frame.enter P' f K .normal::V::W) (λbase t e=>by unfold stepG.apply;simp only[E t e,ph,n];simp[GStep.after,Gl];exact fk (Frame.enter P f _) F) (λbase=>by unfold stepG.apply;simp only[C,ph,k];simp[GStep.after,Gl];exact fk (Frame.enter P' f _) J) ?_;cases N:gH f with
   |true=>exact .inr ⟨f,_,_,_,_,N,M,o,rfl,rfl⟩
   |false=>exact .inl (.cons (ahj T N M) o)
  |@round l l' Z f tm I e c d=>
   exact fin (Frame.round l f tm (gP c) (gP d) .normal::fr::cs) (Frame.round l' f I c d .normal::V::W) (λbase t e=>by unfold stepG.apply;simp only[E t e,ph,n];simp[GStep.after,Gl]) (λbase=>by unfold stepG.apply;simp only[C,ph,k];simp[GStep.after,Gl])
    (.inl (.cons (aua Z f e c d) o))
end
section
variable {P P':Program} {ρ σ:Ren} {w w':World}
def GlR(ρ:Ren):Prop:=∀g∈gL,ρ.r g g
def GlR.mono(h:ρ.Le σ)(x:GlR ρ):GlR σ:=λg a=>h.r (x g a)
def akR{l l':Nat}(h:ρ.r l l'){j a:Option Code}(b:j=a.map gP):aw P P' VR ρ (Instr.endRound l j) (Instr.endRound l' a):=by
 unfold Instr.endRound;refine ag (mD h) λσ x q f c=> ?_;have g:j.isNone=a.isNone:=by subst b;cases a<;>rfl
 rw[g];cases c with
 |loop p o e k n i m d=>
  exact ag (iC (f.r h) (.loop rfl b e k n i m d)) λ_ _ _ _ _=>ai (.bool _)
def aoL{l l':Nat}(h:ρ.r l l'):aw P P' (λ_ q m=>q=m.map gP) ρ (Instr.endLoop l) (Instr.endLoop l'):=by
 unfold Instr.endLoop;refine ag (mD h) λσ x n e b=> ?_;cases b with
 |loop i a d g k f j c=>
  rw[i];refine aR (λ_=>dM _) λ_=> ?_;exact ag (iC (e.r h) (.loop rfl a d g k f j c)) λ_ _ _ _ _=>ai a
def ahl(h:NR ρ r Q):aw P P' ig ρ (do r.elim (stuck "beginRound: no round") Instr.beginRound;pure .skip) (do Q.elim (stuck "beginRound: no round") Instr.beginRound;pure .skip):=by
 cases h with
 |none=>exact .halt _ _
 |some h=>
  refine ahe ?_;show aw P P' jk ρ (Instr.beginRound _) (Instr.beginRound _);unfold Instr.beginRound;refine ag (mD h) λσ x m e a=> ?_;cases a with
  |loop i c d g k f j b=>
   refine ag (iC (e.r h) (.loop rfl c d g k f j b)) λl _ _ _ _=> ?_;rw[i];split
   .exact ai rfl
   .exact dM _
   .exact dM _
   .exact dM _
def aay(e:Operand->Value)(a:Operand)(l:Nat)(h:∀v,e (.const v)=v):resolve e ⟨.value a,#[.const (.func (.yield l) #[] #[])],#[]⟩ 0=Deferred.ofValue (e a) #[.func (.yield l) #[] #[]]:=by
 unfold resolve;simp[h]
def EnR(ρ:Ren)(x x':Nat×List Deferred):Prop:=ρ.r x.1 x'.1/\CDs ρ x.2 x'.2
def aix(f:FuncId)(n:cZ ρ t Z)(d:Array Tmp)(a b:Code)(h:NR ρ r Q):aw P P' EnR ρ (Instr.enterLoop f t d (gP a) (gP b) r) (Instr.enterLoop f Z d a b Q):=by
 unfold Instr.enterLoop;have c:∀(σ:Ren) (q e:Nat×List Deferred),ρ.Le σ->EnR σ q e->aw P P' EnR σ (do
   let l<-newObj (.loop ⟨.ready,none,f,t,d,gP a,gP b,q.1⟩)
   pure (l,q.2)) (do
   let l<-newObj (.loop ⟨.ready,none,f,Z,d,a,b,e.1⟩)
   pure (l,e.2)):=λσ q e g k=>by
  refine ag (af2 (show OR σ (.loop ⟨.ready,none,f,t,d,gP a,gP b,q.1⟩) (.loop ⟨.ready,none,f,Z,d,a,b,e.1⟩) from .loop rfl rfl rfl (bP.mono g n) rfl rfl rfl k.1)) λv y o j u=> ?_;exact ai (A:=EnR) (show EnR v (y,q.2) (o,e.2) from⟨u,k.2.mono j⟩)
 cases h with
 |none=>
  exact ag (af2 .deferred) λσ x i g m=>c σ (x,[⟨.collected x,#[]⟩]) (i,[⟨.collected i,#[]⟩]) g ⟨m,.cons m .nil⟩
 |some h=>
  refine ag (mD h) λσ x i g p=> ?_;cases p with
  |loop B w E z D F C s=>exact c σ (_,[]) (_,[]) g ⟨s,.nil⟩
def FrR.env(j:GlR ρ)(h:FrR P ρ fr V):adB ρ fr.eval V.eval:=λx a=>by
 cases x with
 |tmp t=>
  show VR ρ (fr.tmps.getD t undef) (V.tmps.getD t undef);have l:=bP.size h.tmps;rw[gc,gc];cases e:fr.tmps[t]? with
  |none=>
   have:V.tmps[t]?=none:=by
    rw[qd] at e ⊢;omega
   rw[this];exact VR.undef
  |some v=>
   obtain⟨k,b,d⟩:=bP.get h.tmps (i:=t) (v:=v) (by rw[du];exact e);rw[du] at b;rw[b];exact d
 |const v=>exact ahd ρ 5 v a
 |global g=>exact .pointer (.some (.mk (j g (by simpa[bH] using a)) 0 none))
 |func f=>exact .func (.same (.func f) a) .nil .nil
def GoR.jz(h:∀base w,∃o a b,s base w=.ended o a b):lA P P' ρ w w' s s':=lA.bad λbase w=>by
 obtain⟨o,a,b,e⟩:=h base w;rw[e];exact .ended _ _ _
variable (T:Twin P P') (X:ait P P')
include T
theorem axI(a b:Code):gP (.seq a b)=.seq (gP a) (gP b):=by rw[T.pc];rfl
theorem aqT(id:Nat)(a:Code):gP (.block id a)=.block id (gP a):=by rw[T.pc];rfl
theorem aub(a:Code):gP (.loop a)=.loop (gP a):=by rw[T.pc];rfl
theorem aqU(a:Code):gP (.scope a)=.scope (gP a):=by rw[T.pc];rfl
theorem auc:gP .skip=.skip:=by rw[T.pc];rfl
theorem aqV:gP .ret=.ret:=by rw[T.pc];rfl
theorem aqW(l:Nat):gP (.label l)=.label l:=by rw[T.pc];rfl
theorem ana(l:Nat):gP (.exit l)=.exit l:=by rw[T.pc];rfl
theorem aud(l:Nat):gP (.goto l)=.refuse "" :=by rw[T.pc];rfl
theorem aue(c:Operand)(a b:Code):gP (.cond c a b)=if bH gA gL c=true then .cond c (gP a) (gP b) else .refuse "" :=by rw[T.pc];rfl
theorem ahm(f:Operand)(c:Array Tmp)(a b:Code):gP (.rangeFunc f c a b)=if bH gA gL f=true then .rangeFunc f c (gP a) (gP b) else .refuse "" :=by rw[T.pc];rfl
theorem aoM{g:Oper->Oper}(c:∀o,(g o).after=o.after)(mixed:Bool)(a:Array Oper)(t:Nat):Region.schedule mixed (a.map g) t=Region.schedule mixed a t:=by
 have j:∀(m:Region.Mode) (b t:Nat) (l:Array Bool) (acc:List Nat),Region.linearise.go m (a.map g) b t l acc=Region.linearise.go m a b t l acc:=by
  intro m b
  induction b with
  |zero=>intro t l acc;rfl
  |succ n f=>
   intro t l acc;unfold Region.linearise.go;have e:∀i,((a.map g)[i]?).map (λo:Oper=>o.after.all λe=>!Region.binds m e||l.getD e.on false)=(a[i]?).map (λo:Oper=>o.after.all λe=>!Region.binds m e||l.getD e.on false):=λi=>by
    rw[qZ];cases a[i]? with
    |none=>rfl
    |some o=>simp only[qh,c]
   simp only[tC,e,f]
 have d:Region.departs (a.map g)=Region.departs a:=by
  unfold Region.departs;rw[Array.any_map]
  congr 1
  funext o
  simp only[Function.comp,c]
 unfold Region.schedule Region.linearise;rw[d];simp only[j,tC]
theorem aoN(id:Nat)(a:Array Oper)(c:Bool):(gP (.region id a c)=.region id a c/\aqt P a a)\/(∃d,gP (.region id a c)=.region id d c/\aqt P d a/\∀b t,Region.schedule b d t=Region.schedule b a t)\/gP (.region id a c)=.refuse "" :=by
 rw[T.pc];unfold bK;by_cases m:(a.toList.all λo=>mb P gA gL o.op)=true
 .rw[dl m];refine .inl ⟨rfl,rfl,λi o l e f=> ?_⟩;rw[e] at f;obtain rfl:=ef f;refine .inl ⟨rfl,jn.1 m o ?_⟩;exact rT.2 (qx e)
 .rw[be m];by_cases k:(a.toList.all λo=>mb P gA gL o.op||aak gA gL o.op)=true
  .rw[dl k];refine .inr (.inl ⟨_,rfl,⟨by simp,λi o l e f=> ?_⟩,λb t=>aoM T (g:=aal gA gL gB) (λo=>by unfold aal;split<;>rfl) b a t⟩);rw[qZ,f] at e;obtain rfl:=ef e;have n:=jn.1 k l (rT.2 (qx f));unfold aal;by_cases j:aak gA gL l.op=true
   .rw[dl j];exact .inr ⟨j,rfl⟩
   .rw[be j];simp only[j,vg] at n;exact .inl ⟨rfl,n⟩
  .rw[be k];exact .inr (.inr rfl)
theorem abB  {d : List Deferred}  {k k' : List Item} {m:Bool}  
  (a:iz P ρ (⟨f,t,todo,d,.run,.normal,r⟩::cs) (⟨f,Z,K,L,.run,.normal,Q⟩::W)) (b:WR ρ w w') (c:jy P ρ k k')
  (h:∀base w,s base w=.go ⟨⟨f,t,k,d,.run,.normal,r⟩,cs++base,.running,none,none⟩ w #[])
  (e:∀base,s' base=.go ⟨⟨f,Z,k',L,.run,.normal,Q⟩,W++base,.running,none,none⟩ w' #[]):lA P P' ρ w w' s s':=
 lA.still b (l:=⟨f,t,k,d,.run,.normal,r⟩::cs) (l':=⟨f,Z,k',L,.run,.normal,Q⟩::W) h e (GoR.of (a.put (Ren.Le.refl _) (a.head.at c) rfl))
omit T in
def iG(p:Program)(main:Bool)(fr:Frame)(callers:List Frame)(w:World)(jump:Option Code):GStep:=
 match fr.roundOf with
 |none=>if jump matches none|some .ret then .go {frame:={fr with mode:=.returning},callers,status:=.running,dying:=none} w else .ended (.stuck "exit, goto: no such block or label" (fr.pos p)) w
 |some l=>
  let(r,es):=(Instr.endRound l jump).runT p w #[]
  GStep.after (seen p fr.fn es) <| match r with
  |.ok v w=>doReturn p main fr callers none v w
  |.halt _ w=>.ended (.stuck "range over a function: no such loop" (fr.pos p)) w
theorem ahn(m m':Bool)(C:iz P ρ (fr::cs) (V::W))(I:WR ρ w w')(hm:fr.mode=.run)(j:Option Code)(hj:j=j.map gP) :
  lA P P' ρ w w' (λbase w=>iG P m fr (cs++base) w j) (λbase=>iG P' m' V (W++base) w' j):=by
 have e:=C.head;have q:=e.round;obtain⟨f,t,i,d,G,M,r⟩:=fr;obtain⟨K,F,E,J,S,o,r'⟩:=V;dsimp only at q;cases q with
 |none=>
  unfold iG;dsimp only;have still:=lA.still (P:=P) (P':=P') I (l:=⟨f,t,i,d,.returning,M,none⟩::cs) (l':=⟨K,F,E,J,.returning,o,none⟩::W) (s:=λbase w=>.go ⟨⟨f,t,i,d,.returning,M,none⟩,cs++base,.running,none,none⟩ w #[]) (s':=λbase=>.go ⟨⟨K,F,E,J,.returning,o,none⟩,W++base,.running,none,none⟩ w' #[]) (λ_ _=>rfl) (λ_=>rfl) (GoR.of (C.put (Ren.Le.refl _) ⟨e.fn,e.tmps,e.todo,e.defers,.inr ⟨rfl,rfl⟩,e.kind,e.round⟩ rfl));cases j with
  |none=>exact still
  |some c=>cases c<;>first|exact still|exact lA.bad λ_ w=>.ended _ _ _
 |@some l l' Y=>
  cases C with
  |one h h0=>cases h0
  |cons h b=>
   obtain⟨g,D,H⟩:=(akR (P:=P) (P':=P') Y hj).run w w' #[] #[] I;rcases H with H|⟨σ,a,L,Q,Z,us,z,h1,O,A,R,h5,h6,h7,X⟩
   .refine⟨g,D,.inl λbase t y=> ?_⟩;obtain⟨h,L,mX,q,B⟩:=H t y;unfold iG;simp only[q];exact mG.after _ (.ended _ _ _)
   .refine⟨g,D,.inr ?_⟩;have B:=e.kind;dsimp only at B;obtain⟨rfl,rfl⟩:=B;have N:=e.fn;dsimp only at N;subst N;have k:∀(p:Program) (m:Bool) (x:Frame) (l:List Frame) (v:Value) (w:World) (tm:Array Value) (td:List Item) (ds:List Deferred) (G:FrameMode) (U:Nat),doReturn p m ⟨f,tm,td,ds,G,.normal,some U⟩ (x::l) none v w=.go ⟨x.finish v,l,.running,none,none⟩ w #[]:=λ_ _ _ _ _ _ _ _ _ _ _=>rfl;obtain⟨x,n,rfl⟩:∃x n,cs=x::n:=by cases b<;>exact⟨_,_,rfl⟩
    obtain⟨x',u,rfl⟩:∃x n,W=x::n:=by cases b<;>exact⟨_,_,rfl⟩
    refine⟨σ,x.finish a::n,L,seen P f us,x'.finish Q::u,Z,seen P' f z,λbase t y=> ?_,O,A,λbase=> ?_,h6,h7,aaP T f X,GoR.of (b.put A ((b.head.mono A).finish h5) (fU _ _))⟩
    .unfold iG;simp only[h1 t y,qU,k];simp[GStep.after,Gl]
    .unfold iG;simp only[R,qU,k];simp[GStep.after,Gl]
theorem lA.seq  {t₁:Tape} {D:Nat}  (s1:List Frame->World->GStep) (s1':List Frame->GStep) (f:FuncId)
  (p:∀base t,Agr w D t₁ t->s base (w.dK t)=(s1 base (N.dK t)).after (seen P f R)) (z:N.drawn=w.drawn+D) (K:ρ.Le σ) (B:∀base,s' base=(s1' base).after (seen P' f es)) (r:Kept ρ σ w w' N a) (G:EvW w σ R es)
  (H:lA P P' σ N a s1 s1'):lA P P' ρ w w' s s':=by
 obtain⟨e,E,H⟩:=H;have c:∀t,Agr w (D+E) (λi q=>if i<N.drawn then t₁ i q else e i q) t->Agr w D t₁ t/\Agr N E e t:=λt d=>⟨λi q v O=>by
  rw[d i q v (by omega)];exact dl (by omega),λi q v O=>by
  rw[d i q (by omega) (by omega)];exact be (by omega)⟩
 refine⟨λi q=>if i<N.drawn then t₁ i q else e i q,D+E,H.imp (λH base t d=> ?_) ?_⟩
 .rw[p base t (c t d).1];exact mG.after _ (H base t (c t d).2)
 .rintro⟨L,F,Q,J,j,l,k,y,M,o,S,C,I,m,A⟩;have u:=aaP T f G;refine⟨L,F,Q,seen P f R++J,j,l,seen P' f es++k,λbase t d=> ?_,by rw[M,z,vd],K.trans o,λbase=> ?_,C,r.trans I,⟨?_,λb n x g=> ?_⟩,A⟩
  .rw[p base t (c t d).1,y base t (c t d).2];rfl
  .rw[B,S];rfl
  .rw[pr,pr];exact(u.ev.mono o).app m.ev
  .rw[pr,me] at g;rcases g with g|g
   .exact u.nw b n x g
   .exact m.nw b (r.frz b n) x g
include X
theorem azB(hg:GlR ρ)(m m':Bool)(A:iz P ρ (fr::cs) (V::W))(C:WR ρ w w')(hm:fr.mode=.run) :
  lA P P' ρ w w' (λbase w=>stepG P m ⟨fr,cs++base,.running,none,none⟩ w) (λbase=>stepG P' m' ⟨V,W++base,.running,none,none⟩ w'):=by
 have mj:=A.head;have a1:=mj.env hg;obtain⟨f,t,aP,d,md,kd,r⟩:=fr;obtain⟨f',B,fE,J,aa,aT,E⟩:=V;obtain⟨h1,h2,h3,h4,h5,h6,h7⟩:=mj;dsimp only at h1 h2 h3 h4 h5 h6 h7 hm;subst h1;subst hm;obtain⟨rfl,rfl⟩:=h6;obtain rfl:aa=.run:=by
  rcases h5 with h5|h5
  .exact h5.2
  .cases h5.1
 cases h3 with
 |nil=>
  have G:∀base w,stepG P m ⟨⟨f,t,[],d,.run,.normal,r⟩,cs++base,.running,none,none⟩ w=iG P m ⟨f,t,[],d,.run,.normal,r⟩ (cs++base) w none:=λ_ _=>rfl;have L:∀base,stepG P' m' ⟨⟨f,B,[],J,.run,.normal,E⟩,W++base,.running,none,none⟩ w'=iG P' m' ⟨f,B,[],J,.run,.normal,E⟩ (W++base) w' none:=λ_=>rfl;simp only[G,L];exact ahn T m m' A C rfl none rfl
 |@cons x x' k F hx I=>
  cases hx with
  |inBlock id=>exact abB T (m:=m) A C I (λbase w=>by simp[stepG,stepG.exec]) (λbase=>by simp[stepG,stepG.exec])
  |inScope c=>exact abB T (m:=m) A C I (λbase w=>by simp[stepG,stepG.exec]) (λbase=>by simp[stepG,stepG.exec])
  |inLoop c=>exact abB T (m:=m) A C (.cons (.code c) (.cons (.inLoop c) I)) (λbase w=>by simp[stepG,stepG.exec]) (λbase=>by simp[stepG,stepG.exec])
  |inRangeFunc hl=>exact GoR.jz λbase w=>⟨_,_,_,by simp[stepG,stepG.exec];exact⟨rfl,rfl,rfl⟩⟩
  |@endRangeFunc l l' hl=>
   obtain⟨t₁,D,H⟩:=(aoL (P:=P) (P':=P') hl).run w w' #[] #[] C;rcases H with H|⟨σ,a,w1,a',cR,us,a7,h1,h2,h3,h4,h5,h6,al,h8⟩
   .refine⟨t₁,D,.inl λbase K M=> ?_⟩;obtain⟨h,w1,mX,hr,a8⟩:=H K M;have Z:=A.marks C a8;simp only[stepG,stepG.exec,hr];refine mG.after _ ?_;cases h<;>first|exact aaQ Z|exact .ended _ _ _
   .have hi:jy P σ ((a.map Item.code).toList++k) ((a'.map Item.code).toList++F):=by
     subst h5;cases a' with
     |none=>exact I.mono h3
     |some c=>exact .cons (.code c) (I.mono h3)
    refine⟨t₁,D,.inr ⟨σ,⟨f,t,(a.map Item.code).toList++k,d,.run,.normal,r⟩::cs,w1,seen P f us,⟨f,B,(a'.map Item.code).toList++F,J,.run,.normal,E⟩::W,cR,seen P' f a7,λbase K M=> ?_,h2,h3,λbase=> ?_,h6,al,aaP T f h8,GoR.of (A.put h3 ((A.head.mono h3).at hi) rfl)⟩⟩
    .simp only[stepG,stepG.exec,h1 K M];simp[GStep.after,Gl]
    .simp only[stepG,stepG.exec,h4];simp[GStep.after,Gl]
  |beginRound=>
   have G:∀base w,stepG P m ⟨⟨f,t,.beginRound::k,d,.run,.normal,r⟩,cs++base,.running,none,none⟩ w=stepG.apply P true ⟨f,t,.beginRound::k,d,.run,.normal,r⟩ (cs++base) none (do r.elim (stuck "beginRound: no round") Instr.beginRound;pure .skip) w:=λ_ _=>rfl;have L:∀base,stepG P' m' ⟨⟨f,B,.beginRound::F,J,.run,.normal,E⟩,W++base,.running,none,none⟩ w'=stepG.apply P' true ⟨f,B,.beginRound::F,J,.run,.normal,E⟩ (W++base) none (do E.elim (stuck "beginRound: no round") Instr.beginRound;pure .skip) w':=λ_=>rfl;simp only[G,L];exact ahk T A C (ahl h7)
  |@inRegion n u N l=>
   cases l with
   |nil=>exact abB T (m:=m) A C I (λbase w=>by simp[stepG,stepG.exec]) (λbase=>by simp[stepG,stepG.exec])
   |cons i z=>
    have aL:=A.head.finish VR.undef;have aK:∀j,yielded n t j=yielded u B j:=λj=>by
     unfold yielded;rw[N.dst j];cases((u[j]?).bind (·.dst)) with
     |none=>rfl
     |some x=>
      show(match t[x]? with|some (.bool b)=>some b|_=>none)=(match B[x]? with|some (.bool b)=>some b|_=>none);have hs:=bP.size h2;cases e:t[x]? with
      |none=>
       have:B[x]?=none:=by
        rw[qd] at e ⊢;omega
       rw[this]
      |some v=>
       obtain⟨v',G,L⟩:=bP.get h2 (i:=x) (v:=v) (by rw[du];exact e);rw[du] at G;rw[G];cases L<;>first|rfl|(cases v'<;>first|rfl|(cases(by assumption:jr _=true);done))
    have skip:(((n[i]?).map (Region.wanted · (yielded n t))).getD false=false)->(((u[i]?).map (Region.wanted · (yielded u B))).getD false=false)->lA P P' ρ w w' (λbase w=>stepG P m ⟨⟨f,t,.inRegion n (i::z)::k,d,.run,.normal,r⟩,cs++base,.running,none,none⟩ w) (λbase=>stepG P' m' ⟨⟨f,B,.inRegion u (i::z)::F,J,.run,.normal,E⟩,W++base,.running,none,none⟩ w'):=λG L=>
     lA.still C (l:=_::cs) (l':=_::W) (λbase w=>by simp only[stepG,stepG.exec,G];rfl) (λbase=>by simp only[stepG,stepG.exec,L];rfl) (GoR.of (A.put (Ren.Le.refl _) aL (fU _ _)))
    cases eo:n[i]? with
    |none=>
     have U:u[i]?=none:=by
      have:=N.1;rw[qd] at eo ⊢;omega
     exact skip (by rw[eo];rfl) (by rw[U];rfl)
    |some o=>
     obtain⟨R,U⟩:∃R,u[i]?=some R:=by
      have:=(dk.1 eo).1;have:=N.1;exact⟨_,fm (by omega)⟩
     have a2:=N.2 i o R eo U;have ax:o.guard=R.guard:=by rcases a2 with⟨rfl,_⟩|⟨_,rfl⟩<;>rfl
     have a5:Region.wanted o (yielded n t)=Region.wanted R (yielded u B):=by
      unfold Region.wanted;rw[ax];cases R.guard with
      |none=>rfl
      |some g=>obtain⟨j,b⟩:=g;show(yielded n t j ==some b)=(yielded u B j ==some b);rw[aK j]
     cases ew:Region.wanted R (yielded u B) with
     |false=>exact skip (by rw[eo];simp[a5,ew]) (by rw[U];simp[ew])
     |true=>
      rw[ew] at a5;have nd:(∀c,o.op ≠ .defer c)/\∀c,R.op ≠ .defer c:=by
       rcases a2 with⟨rfl,O⟩|⟨Y,rfl⟩
       .have:∀c,o.op ≠ .defer c:=λc e=>by rw[e] at O;unfold mb at O;simp at O
        exact⟨this,this⟩
       .have:∀c,R.op ≠ .defer c:=λc e=>by rw[e] at Y;cases Y
        exact⟨this,this⟩
      have a3:aw P P' ig ρ (execOp (Frame.eval ⟨f,t,.inRegion n (i::z)::k,d,.run,.normal,r⟩) o) (execOp (Frame.eval ⟨f,B,.inRegion u (i::z)::F,J,.run,.normal,E⟩) R):=by
       rcases a2 with⟨rfl,O⟩|⟨Y,af⟩
       .exact aqR T X O a1
       .exact aB1 T X Y af a1
      have G:∀base w,stepG P m ⟨⟨f,t,.inRegion n (i::z)::k,d,.run,.normal,r⟩,cs++base,.running,none,none⟩ w=stepG.apply P true ⟨f,t,.inRegion n (i::z)::k,d,.run,.normal,r⟩ (cs++base) none (execOp (Frame.eval ⟨f,t,.inRegion n (i::z)::k,d,.run,.normal,r⟩) o) w:=λbase w=>by
       simp only[stepG,stepG.exec,eo,qh,qn,a5,ph,stepG.oper,Frame.oper?];cases r with
       |none=>rfl
       |some l0=>
        have:=nd.1;split
        .rename_i Q;exact absurd Q (this _)
        .rfl
      have L:∀base,stepG P' m' ⟨⟨f,B,.inRegion u (i::z)::F,J,.run,.normal,E⟩,W++base,.running,none,none⟩ w'=stepG.apply P' true ⟨f,B,.inRegion u (i::z)::F,J,.run,.normal,E⟩ (W++base) none (execOp (Frame.eval ⟨f,B,.inRegion u (i::z)::F,J,.run,.normal,E⟩) R) w':=λbase=>by
       simp only[stepG,stepG.exec,U,qh,qn,ew,ph,stepG.oper,Frame.oper?];cases E with
       |none=>rfl
       |some l0=>
        have:=nd.2;split
        .rename_i Q;exact absurd Q (this _)
        .rfl
      simp only[G,L];exact ahk T A C a3
  |code c=>
   cases c with
   |skip=>rw[auc T] at *;exact abB T (m:=m) A C I (λbase w=>by simp[stepG,stepG.exec]) (λbase=>by simp[stepG,stepG.exec])
   |label l=>rw[aqW T] at *;exact abB T (m:=m) A C I (λbase w=>by simp[stepG,stepG.exec]) (λbase=>by simp[stepG,stepG.exec])
   |seq a b=>rw[axI T] at *;exact abB T (m:=m) A C (.cons (.code a) (.cons (.code b) I)) (λbase w=>by simp[stepG,stepG.exec]) (λbase=>by simp[stepG,stepG.exec])
   |block id a=>rw[aqT T] at *;exact abB T (m:=m) A C (.cons (.code a) (.cons (.inBlock id) I)) (λbase w=>by simp[stepG,stepG.exec]) (λbase=>by simp[stepG,stepG.exec])
   |loop a=>rw[aub T] at *;exact abB T (m:=m) A C (.cons (.code a) (.cons (.inLoop a) I)) (λbase w=>by simp[stepG,stepG.exec]) (λbase=>by simp[stepG,stepG.exec])
   |scope a=>rw[aqU T] at *;exact abB T (m:=m) A C (.cons (.code a) (.cons (.inScope a) I)) (λbase w=>by simp[stepG,stepG.exec]) (λbase=>by simp[stepG,stepG.exec])
   |refuse s=>rw[agb T] at *;exact GoR.jz λbase w=>⟨_,_,_,by simp[stepG,stepG.exec];exact⟨rfl,rfl,rfl⟩⟩
   |goto l=>rw[aud T] at *;exact GoR.jz λbase w=>⟨_,_,_,by simp[stepG,stepG.exec];exact⟨rfl,rfl,rfl⟩⟩
   |cond c a b=>
    rw[aue T] at *;by_cases Q:bH gA gL c=true
    .rw[dl Q] at *;have hv:=a1 c Q;generalize a0:Frame.eval ⟨f,t,.code (.cond c (gP a) (gP b))::k,d,.run,.normal,r⟩ c=v at hv;generalize ay:Frame.eval ⟨f,B,.code (.cond c a b)::F,J,.run,.normal,E⟩ c=v' at hv;cases hv with
     |bool q=>
      have hi:jy P ρ (.code (if q=true then gP a else gP b)::k) (.code (if q=true then a else b)::F):=by
       cases q with
       |true=>exact .cons (.code a) I
       |false=>exact .cons (.code b) I
      exact abB T (m:=m) A C hi (λbase w=>by simp[stepG,stepG.exec,a0]) (λbase=>by simp[stepG,stepG.exec,ay])
     |abk=>exact GoR.jz λbase w=>⟨_,_,_,by unfold aok at a0;simp[stepG,stepG.exec,a0];first|exact⟨rfl,rfl,rfl⟩|rfl⟩
     |_=>exact GoR.jz λbase w=>⟨_,_,_,by simp[stepG,stepG.exec,a0];exact⟨rfl,rfl,rfl⟩⟩
    .rw[be Q] at *;exact GoR.jz λbase w=>⟨_,_,_,by simp[stepG,stepG.exec];exact⟨rfl,rfl,rfl⟩⟩
   |exit id=>
    rw[ana T] at *;rcases I.exit id with⟨x1,x2⟩|⟨l,l',x1,x2,hl⟩
    .have G:∀base w,stepG P m ⟨⟨f,t,.code (.exit id)::k,d,.run,.normal,r⟩,cs++base,.running,none,none⟩ w=iG P m ⟨f,t,.code (.exit id)::k,d,.run,.normal,r⟩ (cs++base) w (some (.exit id)):=λbase w=>by simp[stepG,stepG.exec,x1,iG];rfl
     have L:∀base,stepG P' m' ⟨⟨f,B,.code (.exit id)::F,J,.run,.normal,E⟩,W++base,.running,none,none⟩ w'=iG P' m' ⟨f,B,.code (.exit id)::F,J,.run,.normal,E⟩ (W++base) w' (some (.exit id)):=λbase=>by simp[stepG,stepG.exec,x2,iG];rfl
     simp only[G,L];exact ahn T m m' A C rfl (some (.exit id)) (by rw[qh,ana T])
    .exact abB T (m:=m) A C hl (λbase w=>by simp[stepG,stepG.exec,x1]) (λbase=>by simp[stepG,stepG.exec,x2])
   |ret=>
    rw[aqV T] at *;have G:∀base w,stepG P m ⟨⟨f,t,.code .ret::k,d,.run,.normal,r⟩,cs++base,.running,none,none⟩ w=iG P m ⟨f,t,.code .ret::k,d,.run,.normal,r⟩ (cs++base) w (some .ret):=λ_ _=>rfl;have L:∀base,stepG P' m' ⟨⟨f,B,.code .ret::F,J,.run,.normal,E⟩,W++base,.running,none,none⟩ w'=iG P' m' ⟨f,B,.code .ret::F,J,.run,.normal,E⟩ (W++base) w' (some .ret):=λ_=>rfl;simp only[G,L];exact ahn T m m' A C rfl (some .ret) (by rw[qh,aqV T])
   |region id n draw=>
    rcases aoN T id n draw with⟨e,N⟩|⟨S,e,N,aJ⟩|e
    .rw[e] at *;cases draw with
     |false=>exact abB T (m:=m) A C (.cons (.inRegion N (List.range n.size)) I) (λbase w=>by simp[stepG,stepG.exec]) (λbase=>by simp[stepG,stepG.exec])
     |true=>
      have G:∀(p:Program) (q:Question) (w:World),q.forced=false->(choose q).run p w=.ok (q.cut (w.tape w.drawn q)) {w with drawn:=w.drawn+1}:=λp q w hq=>by
       unfold choose;rw[Sem.run,hq];rfl
      obtain⟨q1,q2⟩:=C.ask 1 1;have hi:jy P ρ (.inRegion n (Region.schedule (P.follows .mixedOrders) n (w'.tape w'.drawn (.order f id)))::k) (.inRegion n (Region.schedule (P'.follows .mixedOrders) n (w'.tape w'.drawn (.order f id)))::F):=by
       rw[T.follows];exact .cons (.inRegion N _) I
      refine⟨λ_ _=>w'.tape w'.drawn (.order f id),1,.inr ⟨ρ,⟨f,t,.inRegion n (Region.schedule (P.follows .mixedOrders) n (w'.tape w'.drawn (.order f id)))::k,d,.run,.normal,r⟩::cs,{w with drawn:=w.drawn+1},#[],⟨f,B,.inRegion n (Region.schedule (P'.follows .mixedOrders) n (w'.tape w'.drawn (.order f id)))::F,J,.run,.normal,E⟩::W,{w' with drawn:=w'.drawn+1},#[],λbase K M=> ?_,rfl,Ren.Le.refl _,λbase=> ?_,q1,q2,.nil _ _,GoR.of (A.put (Ren.Le.refl _) (A.head.at hi) rfl)⟩⟩
      .have hd:=M w.drawn (.order f id) (am _) (by omega);simp only[stepG,stepG.exec,G P (.order f id) (w.dK K) rfl];show GStep.go _ _ _=_;have:(w.dK K).tape (w.dK K).drawn (.order f id)=w'.tape w'.drawn (.order f id):=hd;simp only[Question.cut,this];rfl
      .simp only[stepG,stepG.exec,G P' (.order f id) w' rfl];rfl
    .rw[e] at *;have ad:List.range S.size=List.range n.size:=by rw[N.1]
     cases draw with
     |false=>exact abB T (m:=m) A C (.cons (.inRegion N (List.range n.size)) I) (λbase w=>by simp[stepG,stepG.exec,ad]) (λbase=>by simp[stepG,stepG.exec])
     |true=>
      have G:∀(p:Program) (q:Question) (w:World),q.forced=false->(choose q).run p w=.ok (q.cut (w.tape w.drawn q)) {w with drawn:=w.drawn+1}:=λp q w hq=>by
       unfold choose;rw[Sem.run,hq];rfl
      obtain⟨q1,q2⟩:=C.ask 1 1;have hi:jy P ρ (.inRegion S (Region.schedule (P.follows .mixedOrders) S (w'.tape w'.drawn (.order f id)))::k) (.inRegion n (Region.schedule (P'.follows .mixedOrders) n (w'.tape w'.drawn (.order f id)))::F):=by
       rw[T.follows,aJ];exact .cons (.inRegion N _) I
      refine⟨λ_ _=>w'.tape w'.drawn (.order f id),1,.inr ⟨ρ,⟨f,t,.inRegion S (Region.schedule (P.follows .mixedOrders) S (w'.tape w'.drawn (.order f id)))::k,d,.run,.normal,r⟩::cs,{w with drawn:=w.drawn+1},#[],⟨f,B,.inRegion n (Region.schedule (P'.follows .mixedOrders) n (w'.tape w'.drawn (.order f id)))::F,J,.run,.normal,E⟩::W,{w' with drawn:=w'.drawn+1},#[],λbase K M=> ?_,rfl,Ren.Le.refl _,λbase=> ?_,q1,q2,.nil _ _,GoR.of (A.put (Ren.Le.refl _) (A.head.at hi) rfl)⟩⟩
      .have hd:=M w.drawn (.order f id) (am _) (by omega);simp only[stepG,stepG.exec,G P (.order f id) (w.dK K) rfl];show GStep.go _ _ _=_;have:(w.dK K).tape (w.dK K).drawn (.order f id)=w'.tape w'.drawn (.order f id):=hd;simp only[Question.cut,this];rfl
      .simp only[stepG,stepG.exec,G P' (.order f id) w' rfl];rfl
    .rw[e] at *;exact GoR.jz λbase w=>⟨_,_,_,by simp[stepG,stepG.exec];exact⟨rfl,rfl,rfl⟩⟩
   |rangeFunc fo ps a b=>
    rw[ahm T] at *;by_cases Q:bH gA gL fo=true
    .rw[dl Q] at *;obtain⟨t₁,D,H⟩:=(aix (P:=P) (P':=P') f h2 ps a b h7).run w w' #[] #[] C;rcases H with H|⟨σ,q,w1,q',cR,us,a7,g1,g2,g3,g4,g5,g6,g7,g8⟩
     .refine⟨t₁,D,.inl λbase K M=> ?_⟩;obtain⟨h,w1,mX,hr,a8⟩:=H K M;simp only[stepG,stepG.exec,hr];exact mG.after _ (.ended _ _ _)
     .obtain⟨lp,mk⟩:=q;obtain⟨a4,mk'⟩:=q';obtain⟨a6,Z⟩:=g5;dsimp only at a6 Z;have an:∀{x x' y y':List Deferred},CDs σ x x'->CDs σ y y'->CDs σ (x++y) (x'++y'):=by
       intro x x' y y' hx hy
       induction hx with
       |nil=>exact hy
       |cons hb _ ih=>exact .cons hb ih
      have a9:iz P σ (⟨f,t,.inRangeFunc lp::k,mk++d,.run,.normal,r⟩::cs) (⟨f,B,.inRangeFunc a4::F,mk'++J,.run,.normal,E⟩::W):=
       A.put g3 ⟨rfl,bP.mono g3 h2,.cons (.inRangeFunc a6) (I.mono g3),an Z (h4.mono g3),.inl ⟨rfl,rfl⟩,⟨rfl,rfl⟩,h7.mono g3⟩ rfl
      have ao:=a9.head.env (hg.mono g3);have a3:=am9 T X (ao fo Q) (args:=#[.func (.yield lp) #[] #[]]) (args':=#[.func (.yield a4) #[] #[]]) (.cons (.func (.yield a6) .nil .nil) .nil);refine lA.seq T (s1:=λbase w=>stepG.apply P true ⟨f,t,.inRangeFunc lp::k,mk++d,.run,.normal,r⟩ (cs++base) none _ w) (s1':=λbase=>stepG.apply P' true ⟨f,B,.inRangeFunc a4::F,mk'++J,.run,.normal,E⟩ (W++base) none _ cR) f (t₁:=t₁) (D:=D) (λbase K M=> ?_) g2 g3 (λbase=> ?_) g7 g8 (ahk T a9 g6 a3)
      .simp only[stepG,stepG.exec,g1 K M,Array.empty_append];rw[aay _ _ _ λ_=>rfl]
      .simp only[stepG,stepG.exec,g4,Array.empty_append];rw[aay _ _ _ λ_=>rfl]
    .rw[be Q] at *;exact GoR.jz λbase w=>⟨_,_,_,by simp[stepG,stepG.exec];exact⟨rfl,rfl,rfl⟩⟩
end
def oX(l:List Frame):Prop:=∃a,l=[a]/\a.mode=.returning/\a.defers=[]/\a.kind=.normal
section
variable {P P':Program} {ρ σ:Ren} {w w':World}
def aev{l l':Nat}(h:ρ.r l l'):aw P P' (λ_ q b=>q=[]/\b=[]) ρ (Instr.takeDeferred l) (Instr.takeDeferred l'):=by
 unfold Instr.takeDeferred;refine ag (eH h) λσ x d c a=> ?_;cases a with
 |deferred=>exact ag (iC (c.r h) .bC) λ_ _ _ _ _=>ai ⟨rfl,rfl⟩
 |_=>exact .halt _ _
variable (T:Twin P P') (X:ait P P')
include T
theorem aiy:∀(l:List ResultVar) {ρ:Ren} {t b:Array Value},cZ ρ t b->aw P P' bP ρ (l.mapM fun
  |.tmp k=>pure (t.getD k undef)
  |.cell a c=>do loadVar c (<-asAddr (t.getD a undef))) (l.mapM fun
  |.tmp k=>pure (b.getD k undef)
  |.cell a c=>do loadVar c (<-asAddr (b.getD a undef)))
 |[],_,_,_,_=>by
  rw[List.mapM_nil,List.mapM_nil];exact ai .nil
 |x::l,ρ,t,b,h=>by
  have g:∀(σ:Ren) (k:Nat),ρ.Le σ->VR σ (t.getD k undef) (b.getD k undef):=λσ k d=>by
   have y:=bP.size h;rw[gc,gc];cases e:t[k]? with
   |none=>
    have:b[k]?=none:=by
     rw[qd] at e ⊢;omega
    rw[this];exact VR.undef
   |some v=>
    obtain⟨m,j,n⟩:=bP.get h (i:=k) (v:=v) (by rw[du];exact e);rw[du] at j;rw[j];exact n.mono d
  rw[vU,vU];refine ag (A:=VR) ?_ λσ v m d r=>ag (aiy l (bP.mono d h)) λs u q o f=>ai (.cons (r.mono o) f);cases x with
  |tmp k=>exact ai (g ρ k (Ren.Le.refl _))
  |cell a c=>exact ag (aiq (g ρ a (Ren.Le.refl _))) λσ x w d p=>af3 T c p
theorem agc{fn f:Func}(k:f.results=fn.results)(h:cZ ρ t Z):aw P P' VR ρ (results fn t) (results f Z):=by
 unfold results;rw[k,tP,tP,map_eq_pure_bind,map_eq_pure_bind];refine ag (A:=cZ) (ag (aiy T fn.results.toList h) λ_ _ _ _ b=>ai (A:=cZ) b) λσ c a m b=> ?_;have n:c.size=a.size:=bP.size b;refine ai ?_;by_cases e:c.size=1
 .have d:a.size=1:=by omega
  rw[tq e,tq d];obtain⟨l,g,j⟩:=bP.get b (i:=0) (v:=c[0]) (by rw[du];exact fm (by omega));rw[du,fm (by omega)] at g;obtain rfl:=ef g;exact j
 .have d:¬a.size=1:=by omega
  rw[dif_neg e,dif_neg d];exact .tuple b
theorem azD(m m':Bool)(hS:iz P ρ (fr::cs) (V::W))(N:WR ρ w w')(hm:fr.mode=.returning)(hn:fr.defers≠[]\/cs≠[]) :
  lA P P' ρ w w' (λbase w=>stepG P m ⟨fr,cs++base,.running,none,none⟩ w) (λbase=>stepG P' m' ⟨V,W++base,.running,none,none⟩ w'):=by
 have mj:=hS.head;obtain⟨f,t,E,d,md,kd,r⟩:=fr;obtain⟨f',I,fE,d',K,a1,r'⟩:=V;obtain⟨G,o,h3,h4,A,h6,h7⟩:=mj;dsimp only at G o h3 h4 A h6 h7 hm hn;subst G;subst hm;obtain⟨rfl,rfl⟩:=h6;obtain rfl:K=.returning:=by
  rcases A with A|A
  .cases A.1
  .exact A.2
 cases h4 with
 |@cons b b' ds M hb hl=>
  obtain⟨g,D,H⟩:=(aev (P:=P) (P':=P') hb).run w w' #[] #[] N;rcases H with H|⟨σ,a,F,a',Q,R,s,Y,U,k,O,g5,S,L,X⟩
  .refine⟨g,D,.inl λbase u q=> ?_⟩;obtain⟨h,F,mX,Z,J⟩:=H u q;simp only[stepG,unwind,Z];exact mG.after _ (.ended _ _ _)
  .obtain⟨rfl,rfl⟩:=g5;refine⟨g,D,.inr ⟨σ,⟨f,t,E,ds,.returning,.normal,r⟩::cs,F,seen P f R,⟨f,I,fE,M,.returning,.normal,r'⟩::W,Q,seen P' f s,λbase u q=> ?_,U,k,λbase=> ?_,S,L,aaP T f X,
    GoR.of (hS.put k ⟨rfl,bP.mono k o,h3.mono k,hl.mono k,.inr ⟨rfl,rfl⟩,⟨rfl,rfl⟩,h7.mono k⟩ rfl)⟩⟩
   .simp only[stepG,unwind,Y u q];simp[GStep.after,Gl]
   .simp only[stepG,unwind,O];simp[GStep.after,Gl]
 |nil=>
  have a0:cs≠[]:=hn.resolve_left λh=>h rfl;cases hS with
  |one h h0=>exact absurd rfl a0
  |cons h j=>
   obtain⟨x,B,rfl⟩:∃x B,cs=x::B:=by cases j<;>exact⟨_,_,rfl⟩
   obtain⟨x',C,rfl⟩:∃x B,W=x::B:=by cases j<;>exact⟨_,_,rfl⟩
   have n:∀(p:Program) (m:Bool) (x:Frame) (l:List Frame) (v:Value) (w:World) (tm:Array Value) (td:List Item) (r:Option Nat),doReturn p m ⟨f,tm,td,[],.returning,.normal,r⟩ (x::l) none v w=.go ⟨x.finish v,l,.running,none,none⟩ w #[]:=λ_ _ _ _ _ _ _ _ _=>rfl;cases z:P.funcs[f]? with
   |none=>
    have y:P'.funcs[f]?=none:=by
     rw[qd] at z ⊢;rw[T.aio];exact z
    have hv:VR ρ (t.getD 0 undef) (I.getD 0 undef):=by
     have hz:=bP.size o;rw[gc,gc];cases e:t[0]? with
     |none=>
      have:I[0]?=none:=by
       rw[qd] at e ⊢;omega
      rw[this];exact VR.undef
     |some v=>
      obtain⟨v',G,o⟩:=bP.get o (i:=0) (v:=v) (by rw[du];exact e);rw[du] at G;rw[G];exact o
    refine lA.still N (l:=x.finish (t.getD 0 undef)::B) (l':=x'.finish (I.getD 0 undef)::C) (λbase w=> ?_) (λbase=> ?_) (GoR.of (j.put (Ren.Le.refl _) (j.head.finish hv) (fU _ _)))
    .simp only[stepG,unwind,z,qU,n,Gl]
    .simp only[stepG,unwind,y,qU,n,Gl]
   |some fn=>
    obtain⟨df,y,hR⟩:=T.func f fn z;obtain⟨g,D,H⟩:=(agc T hR.results o).run w w' #[] #[] N;rcases H with H|⟨σ,a,F,a',Q,R,s,Y,U,k,O,g5,S,L,X⟩
    .refine⟨g,D,.inl λbase u q=> ?_⟩;obtain⟨h,F,mX,Z,J⟩:=H u q;simp only[stepG,unwind,z,Z];refine mG.after _ ?_;cases h<;>exact .ended _ _ _
    .refine⟨g,D,.inr ⟨σ,x.finish a::B,F,seen P f R,x'.finish a'::C,Q,seen P' f s,λbase u q=> ?_,U,k,λbase=> ?_,S,L,aaP T f X,GoR.of (j.put k ((j.head.mono k).finish g5) (fU _ _))⟩⟩
     .simp only[stepG,unwind,z,Y u q,qU,n];simp[GStep.after,Gl]
     .simp only[stepG,unwind,y,O,qU,n];simp[GStep.after,Gl]
include X
theorem axN(j:GlR ρ){l : List Frame}(m m':Bool)(a:iz P ρ l l')(d:WR ρ w w')(k:¬oX l) :
  lA P P' ρ w w' (λbase w=>stepG P m (Gl l base) w) (λbase=>stepG P' m' (Gl l' base) w'):=by
 obtain⟨f,n,rfl⟩:∃x c,l=x::c:=by cases a<;>exact⟨_,_,rfl⟩
 obtain⟨p,g,rfl⟩:∃x c,l'=x::c:=by cases a<;>exact⟨_,_,rfl⟩
 rcases a.head.mode with b|b
 .exact azB T X j m m' a d b.1
 .refine azD T m m' a d b.1 ?_;refine qA λh=>k ?_;have o:f.defers=[]:=qA λe=>h (.inl e);have i:n=[]:=qA λe=>h (.inr e);subst i;exact⟨f,rfl,b.1,o,a.head.kind.1⟩
end
def ij(dst:Option Tmp)(op:Op)(t:TypeId):Oper:={dst,op,type:=t,pos:= "",after:=#[],guard:=none}
abbrev cB:FuncId:=64
abbrev nCC:FuncId:=158
def bZ:Code->Code
 |.seq _ b=>b
 |c=>c
noncomputable def cM:Code:=bZ (bZ (bZ (bZ (bZ (f64.body.getD .skip)))))
def auf(r:Nat)(ops:Array Oper)(t:Tmp):Code:=.seq (.region r ops false) (.cond (.tmp t) .skip (.refuse ""))
def aaR(r:Nat)(ops:Array Oper)(t:Tmp):Code:=.seq (.region r ops false) (.cond (.tmp t) (.refuse "") .skip)
def aaS(d:Tmp)(x y:Operand):Oper:=ij (some d) (.binOp .lss 3 x y 3) 4
def aug(d:Tmp)(x y:Operand):Oper:=ij (some d) (.binOp .eql 3 x y 3) 4
def auh(d:Tmp)(x:Operand):Oper:=ij (some d) (.binOp .mul 3 x (.const (.int .i64 1)) 3) 3
def aui(d:Tmp)(x:Operand):Oper:=ij (some d) (.binOp .add 3 x (.const (.int .i64 1)) 3) 3
def aqY(d:Tmp)(x:Tmp)(ty:TypeId):Oper:=ij (some d) (.call ⟨.builtin .len,#[.tmp x],#[ty]⟩) 3
def auj(d:Tmp)(x:Tmp)(ty:TypeId):Oper:=ij (some d) (.call ⟨.builtin .cap,#[.tmp x],#[ty]⟩) 3
def aoO(d:Tmp)(n:Int):Oper:=ij (some d) (.assign (.const (.int .i64 n))) 3
abbrev kOp(n:Int):Operand:=.const (.int .i64 n)
def awm:Array Oper:=#[
  ij (some 6) (.assign (.const (.slice none 0 0))) 74,
  ij (some 7) (.assign (.const (.bool false))) 4,
  aaS 16 (.tmp 0) (kOp 1)]
def awn:Array Oper:=#[aaS 16 (kOp 99) (.tmp 0)]
def awo:Array Oper:=#[
  ij (some 16) (.load 107 (.global 0)) 107,
  ij (some 16) (.load 107 (.global 1)) 107,
  aqY 16 1 23,auj 18 1 23,aoO 20 0,
  aaS 19 (kOp 9223372036854775807) (.tmp 18)]
def awp:Array Oper:=#[aaS 19 (.tmp 18) (.tmp 16)]
def awq:Array Oper:=#[aaS 21 (.tmp 20) (.tmp 16)]
def awr:Array Oper:=#[
  ij (some 23) (.indexAddr 23 (.tmp 1) (.tmp 20)) 0,
  ij (some 24) (.load 36 (.tmp 23)) 36,
  ij (some 25) (.field 36 (.tmp 24) 0) 3,
  auh 26 (.tmp 25),aug 22 (.tmp 26) (.tmp 25)]
def aws:Array Oper:=#[
  ij (some 27) (.field 36 (.tmp 24) 1) 34,
  aqY 28 27 34,auj 3 27 34,aaS 4 (.tmp 28) (kOp 1)]
def awt:Array Oper:=#[aaS 4 (kOp 9223372036854775807) (.tmp 3)]
def awu:Array Oper:=#[aaS 4 (.tmp 3) (.tmp 28)]
def azE:Array Oper:=#[aoO 5 0]
def awv:Array Oper:=#[aaS 4 (.tmp 5) (.tmp 28)]
def aww:Array Oper:=#[
  ij (some 9) (.indexAddr 34 (.tmp 27) (.tmp 5)) 0,
  ij (some 10) (.load 48 (.tmp 9)) 48,
  ij (some 11) (.field 48 (.tmp 10) 0) 3,
  auh 13 (.tmp 11),aug 15 (.tmp 13) (.tmp 11)]
def awx:Array Oper:=#[
  ij (some 26) (.field 48 (.tmp 10) 1) 9,
  aqY 25 26 9,aaS 15 (kOp 9223372036854775807) (.tmp 25)]
def awy:Array Oper:=#[aui 22 (.tmp 5),ij (some 5) (.move (.tmp 22)) 3]
def awz:Array Oper:=#[aui 22 (.tmp 20),ij (some 20) (.move (.tmp 22)) 3]
def aqZ:Array Oper:=#[aqY 16 2 30,auj 18 2 30,aaS 19 (kOp 2147483647) (.tmp 16)]
def aq0:Array Oper:=#[aaS 19 (kOp 9223372036854775807) (.tmp 18)]
def aq1:Array Oper:=#[aaS 19 (.tmp 18) (.tmp 16)]
def anb:Array Oper:=#[
  ij (some 27) (.makeSlice 149 (.tmp 16) (.tmp 16)) 149,
  aoO 28 0]
def awA:Array Oper:=#[aaS 26 (.tmp 28) (.tmp 16)]
def awB:Array Oper:=#[
  ij (some 25) (.indexAddr 30 (.tmp 2) (.tmp 28)) 0,
  ij (some 20) (.load 3 (.tmp 25)) 3,
  auh 22 (.tmp 20),aug 21 (.tmp 22) (.tmp 20)]
def aiz:Array Oper:=#[
  ij (some 24) (.call ⟨.value (.func 101),#[.tmp 0,.tmp 1,.tmp 20],#[3,23,3]⟩) 160,
  ij (some 23) (.indexAddr 149 (.tmp 27) (.tmp 28)) 0,
  ij none (.store 160 (.tmp 23) (.tmp 24)) 0]
def aiA:Array Oper:=#[aui 22 (.tmp 28),ij (some 28) (.move (.tmp 22)) 3]
def aiB:Array Oper:=#[
  ij (some 17) (.assign (.tmp 27)) 149,
  ij (some 8) (.alloc 149) 0,
  ij none (.store 149 (.tmp 8) (.tmp 17)) 0]
def cP:List Nat:=[3,4,5,9,10,11,13,15,16,18,19,20,21,22,23,24,25,26,27,28]
def ac4:Array Oper:=⟨cP.map λt=>aoO t 0⟩
def aaT:Code:=.seq (.region 70 awv false) (.seq (.cond (.tmp 4) .skip (.exit 52)) (.seq (auf 71 aww 15) (.seq (aaR 72 awx 15) (.region 73 awy false))))
def aaU:Code:=.seq (.region 60 awq false) (.seq (.cond (.tmp 21) .skip (.exit 51)) (.seq (auf 61 awr 22) (.seq (aaR 62 aws 4) (.seq (aaR 63 awt 4) (.seq (aaR 64 awu 4) (.seq (.region 65 azE false)
 (.seq (.block 52 (.loop aaT)) (.region 66 awz false))))))))
def ml:Code:=.seq (.region 80 awA false) (.seq (.cond (.tmp 26) .skip (.exit 53)) (.seq (auf 81 awB 21) (.seq (.region 82 aiz false) (.region 83 aiA false))))
noncomputable def jN:Code:=.seq (aaR 50 awm 16) (.seq (aaR 51 awn 16) (.seq (aaR 52 awo 19) (.seq (aaR 53 awp 19) (.seq (.block 51 (.loop aaU))
 (.seq (aaR 54 aqZ 19) (.seq (aaR 55 aq0 19) (.seq (aaR 56 aq1 19) (.seq (.region 57 anb false) (.seq (.block 53 (.loop ml)) (.seq (.region 58 aiB false) (.seq (.region 59 ac4 false) cM)))))))))))
def oY:Array Oper:=#[
  ij none (.call ⟨.builtin .unsafeSlice,#[.tmp 0,.const (.int .i64 1)],#[172,3]⟩) 0,
  ij (some 4) (.fieldAddr 174 (.tmp 0) 0) 0,
  ij (some 5) (.load 172 (.tmp 4)) 172,
  ij (some 6) (.binOp .eql 172 (.tmp 5) (.const (.pointer none)) 172) 4]
def aho:Array Oper:=#[ij none (.store 172 (.tmp 4) (.tmp 0)) 0]
def akS:Array Oper:=#[
  ij (some 7) (.fieldAddr 174 (.tmp 5) 0) 0,
  ij none (.store 172 (.tmp 7) (.const (.pointer none))) 0,
  ij (some 8) (.load 172 (.tmp 4)) 172,
  ij (some 9) (.binOp .eql 172 (.tmp 8) (.const (.pointer none)) 172) 4]
def ni:Code:=
 .seq (.region 0 oY false)
 (.seq (.cond (.tmp 6) .skip (.seq (.region 2 akS false) (.cond (.tmp 9) .skip (.refuse ""))))
 (.seq (.region 1 aho false) .ret))
noncomputable def qFA(β:Bool):Func:={f64 with body:=some (if β then jN else .refuse "")}
noncomputable def qCC:Func:={f158 with body:=some ni}
noncomputable def pf(fn:Func):Func:={fn with body:=fn.body.map gP}
noncomputable def mn(β:Bool):Array Func:=((prog.funcs.map pf).setIfInBounds cB (qFA β)).setIfInBounds nCC qCC
noncomputable def ah(β:Bool):Program:={prog with funcs:=mn β}
section
variable (P:Program) (fs:Array Func)
def jO(t:TypeId):({P with funcs:=fs}:Program).info? t=P.info? t:=rfl
def cJ(t:TypeId):({P with funcs:=fs}:Program).underlying t=P.underlying t:=rfl
def adU:({P with funcs:=fs}:Program).depth=P.depth:=rfl
def adV(t:TypeId):({P with funcs:=fs}:Program).cellsOf t=P.cellsOf t:=rfl
def ahp(t:TypeId):({P with funcs:=fs}:Program).bytesOf t=P.bytesOf t:=rfl
def ahq:∀(d:Nat) (t:TypeId),({P with funcs:=fs}:Program).eqGuardType d t=P.eqGuardType d t
 |0,_=>rfl
 |d+1,t=>by
  unfold Program.eqGuardType;rw[cJ];simp only[ahq d]
def abC:∀(d:Nat) (t:TypeId) (n:Nat),byteOfCell {P with funcs:=fs} d t n=byteOfCell P d t n
 |0,_,_=>rfl
 |d+1,t,n=>by
  unfold byteOfCell;rw[cJ];simp only[adV,ahp,abC d];rfl
def abD:∀(d:Nat) (t:TypeId) (n:Nat),cellOfByte {P with funcs:=fs} d t n=cellOfByte P d t n
 |0,_,_=>rfl
 |d+1,t,n=>by
  unfold cellOfByte;rw[cJ];simp only[adV,ahp,abD d];rfl
def aq2(d:Nat)(e:TypeId)(c o:Nat)(b:Int):cellAtBytes {P with funcs:=fs} d e c o b=cellAtBytes P d e c o b:=by
 unfold cellAtBytes;simp only[adV,ahp,abC,abD];rfl
def adW(t:TypeId):({P with funcs:=fs}:Program).stoodInHeld t=P.stoodInHeld t:=by
 have b:∀(d:Nat) (t u:TypeId),({P with funcs:=fs}:Program).alikeButTags d t u=P.alikeButTags d t u:=by
  intro d
  induction d with
  |zero=>intro t u;rfl
  |succ d a=>
   intro t u;unfold Program.alikeButTags;simp only[jO,a]
 unfold Program.stoodInHeld Program.stoodInAs;simp only[cJ,jO,adU,b];rfl
def agd(d:Departure):({P with funcs:=fs}:Program).follows d=P.follows d:=rfl
def aq3(d:Nat)(e:TypeId)(c o:Nat)(u:TypeId)(n:Nat):liesAt {P with funcs:=fs} d e c o u n=liesAt P d e c o u n:=by
 have g:∀(d:Nat) (t u:TypeId),sameLayout {P with funcs:=fs} d t u=sameLayout P d t u:=by
  intro d
  induction d with
  |zero=>intro t u;rfl
  |succ d b=>
   intro t u;unfold sameLayout;simp only[cJ,adW,b];rfl
 have f:∀(a:TypeId->Bool) (d:Nat) (e:TypeId) (c o n:Nat),rowAt {P with funcs:=fs} a d e c o n=rowAt P a d e c o n:=by
  intro a d
  induction d with
  |zero=>intro e c o n;rfl
  |succ d b=>
   intro e c o n;unfold rowAt;simp only[cJ,adW,adV,b];rfl
 induction d generalizing e c o u n with
 |zero=>rfl
 |succ d b=>
  unfold liesAt;simp only[cJ,g,f,b,adU]
end
def cV(v:Value):Prop:=∀a:Ren,VR a v v
def bP.diag{ρ:Ren}:∀{l b:List Value},bP ρ l b->l=b->∀c∈l,VR ρ c c
 |_,_,.nil,_,c,a=>by cases a
 |_,_,.cons x y,e,c,a=>by
  simp only[qi] at e;obtain⟨rfl,e⟩:=e;rcases mc.1 a with rfl|a
  .exact x
  .exact y.diag e c a
def cV.cells(h:cV v):∀c∈v.cells.toList,cV c:=λc a b=>(h b).cells.diag rfl c a
def cV.agg{c:Array Value}(h:∀v∈c.toList,cV v):cV (.agg c):=λa=>.agg (bP.kg λv b=>h v b a)
def StI{β:Type}(I:β->Prop):ForInStep β->Prop
 |.done b=>I b
 |.yield b=>I b
def age{e β:Type}{I:β->Prop}:∀(l:List e) {b c:β} {f:e->β->Option (ForInStep β)},forIn l b f=some c->I b->(∀a b r,I b->f a b=some r->StI I r)->I c
 |[],b,c,f,h,hb,_=>by
  rw[ue] at h;obtain rfl:=ef h;exact hb
 |a::l,b,c,f,h,hb,hf=>by
  rw[tO] at h;cases d:f a b with
  |none=>rw[d] at h;cases h
  |some r=>
   rw[d] at h;have:=hf a b r hb d;cases r with
   |done x=>
    obtain rfl:=ef h;exact this
   |yield x=>exact age l h this hf
def aiC(hi:∀t i v,O t=some i->i.zero=some v->cV v){E:Array Field}(h:Made.reckonStruct O E=some i):∀v,i.zero=some v->cV v:=by
 unfold Made.reckonStruct at h;dsimp only at h;obtain⟨s,A,h⟩:=nF.1 h;rw[<-tj] at A;have w:=age (I:=λs:Array Field×Nat×Nat×Nat×Nat×Bool×Bool×Option (Array Value)×String=>∀k,s.2.2.2.2.2.2.2.1=some k->∀v∈k.toList,cV v) _ A (λk e v l=>by
  obtain rfl:=ef e;cases l) λf B r D g=> ?_
 .intro v l;have y:i.zero=s.2.2.2.2.2.2.2.1.map Value.agg:=by
   split at h<;>(obtain rfl:=ef h;rfl)
  rw[y] at l;cases u:s.2.2.2.2.2.2.2.1 with
  |none=>rw[u] at l;cases l
  |some k=>
   rw[u] at l;obtain rfl:=ef l;exact cV.agg (w k u)
 .obtain⟨j,F,g⟩:=nF.1 g;have m:∀k,(if B.2.1+j.size>Made.mostCells then none else do
     let a<-B.2.2.2.2.2.2.2.1
     let b<-j.zero
     pure (a++b.cells):Option (Array Value))=some k->∀v∈k.toList,cV v:=λk e v l=>by
   split at e
   .cases e
   .obtain⟨a,G,e⟩:=nF.1 e;obtain⟨b,o,e⟩:=nF.1 e;obtain rfl:=ef e;rw[pr,me] at l;rcases l with l|l
    .exact D a G v l
    .exact(hi _ _ _ F o).cells v l
  have n:∀(z:Option (Array Value)) (a:Array Field) (b c d e:Nat) (p q:Bool) (x:String),(∀k,z=some k->∀v∈k.toList,cV v)->(some (ForInStep.yield (a,b,c,d,e,p,q,z,x)):Option (ForInStep (Array Field×Nat×Nat×Nat×Nat×Bool×Bool×Option (Array Value)×String)))=some r->
    StI (λb=>∀k,b.2.2.2.2.2.2.2.1=some k->∀v∈k.toList,cV v) r:=λz a b c d e p q x y h=>by
   obtain rfl:=ef h;exact y
  split at g
  .cases g
  .split at g
   .cases g
   .split at g
    .obtain⟨C, -,g⟩:=nF.1 g;by_cases o:j.bytes=0
     .rw[dl o] at g;exact n _ _ _ _ _ _ _ _ _ m g
     .rw[be o] at g;exact n _ _ _ _ _ _ _ _ _ m g
    .obtain⟨C, -,g⟩:=nF.1 g;by_cases o:j.bytes=0
     .rw[dl o] at g;exact n _ _ _ _ _ _ _ _ _ m g
     .rw[be o] at g;exact n _ _ _ _ _ _ _ _ _ m g
def aoP(hi:∀t i v,O t=some i->i.zero=some v->cV v){d:TypeDesc}(h:Made.reckon O d=some i):∀v,i.zero=some v->cV v:=by
 have f:∀(d:TypeDesc) (s:String) (z:Value) (c:Bool) (b:Nat),cV z->Made.word d s z c b=i->∀v,i.zero=some v->cV v:=λd s z c b m e v a=>by
  subst e;obtain rfl:=ef a;exact m
 unfold Made.reckon at h;cases d with
 |struct u=>exact aiC hi h
 |pointer e=>
  obtain⟨j,l,h⟩:=nF.1 h;have fin:∀{o:Option String},(do pure (Made.word (.pointer e) ("*" ++(<-o)) (.pointer none) true))=some i->∀v,i.zero=some v->cV v:=λ{o} h=>by
   obtain⟨s,g,h⟩:=nF.1 h;exact f _ _ _ _ _ (λ_=>.pointer .none) (ef h)
  split at h
  .cases h
  .split at h
   .cases h
   .exact fin h
  .exact fin h
 |slice e=>
  obtain⟨j,l,h⟩:=nF.1 h;obtain⟨s,g,h⟩:=nF.1 h;exact f _ _ _ _ _ (λ_=>.slice .none 0 0) (ef h)
 |map k e=>
  obtain⟨j,l,h⟩:=nF.1 h;obtain⟨s,g,h⟩:=nF.1 h;obtain⟨j,l,h⟩:=nF.1 h;obtain⟨s,g,h⟩:=nF.1 h;exact f _ _ _ _ _ (λ_=>.map .none) (ef h)
 |chan k e=>
  obtain⟨j,l,h⟩:=nF.1 h;obtain⟨s,g,h⟩:=nF.1 h;exact f _ _ _ _ _ (λ_=>.chan .none) (ef h)
 |func w q v=>
  obtain⟨s,g,h⟩:=nF.1 h;exact f _ _ _ _ _ (λ_=>.nilFunc) (ef h)
 |array n e=>
  obtain⟨j,l,h⟩:=nF.1 h;obtain⟨s,g,h⟩:=nF.1 h;obtain rfl:=ef h;intro v a;dsimp only at a;split at a
  .cases a
  .split at a
   .obtain rfl:=ef a;exact cV.agg λv a=>by cases a
   .cases m:j.zero with
    |none=>rw[m] at a;cases a
    |some z=>
     rw[m] at a;obtain rfl:=ef a;refine cV.agg λv a=>(hi _ _ _ l m).cells v ?_;simp only[rT,Array.mem_flatten] at a;obtain⟨r,p,a⟩:=a;rw[Array.mem_replicate] at p;rw[<-p.2];exact rT.2 a
 |_=>cases h
def aoQ(c:∀(t:Nat) (i:TypeInfo) (v:Value),P.types[t]?=some i->i.zero=some v->cV v):∀t i v,P.info? t=some i->i.zero=some v->cV v:=by
 have b:∀(f:Nat) t i v,Made.infoAt P.toTables f t=some i->i.zero=some v->cV v:=by
  intro f
  induction f with
  |zero=>intro t i v h;cases h
  |succ f e=>
   intro t i v h a;unfold Made.infoAt at h;split at h
   .exact c t i v h a
   .obtain⟨d,hd,h⟩:=nF.1 h;exact aoP e h v a
 intro t i v h a;unfold Tables.info? at h;split at h
 .exact c t i v h a
 .exact b _ t i v h a
noncomputable def zOk(t:Nat):Bool:=match prog.types[t]? with
 |some i=>match i.zero with
  |some v=>nX (λ_=>false) 6 v
  |none=>true
 |none=>true
def aul:(List.range prog.types.size).all zOk=true:=by kernel_rfl
def acx:∀(d:Nat) (v:Value),nX (λ_=>false) d v=true->cV v
 |0,v,h=>by cases h
 |d+1,v,h=>by
  have g:∀l:List Value,l.all (nX (λ_=>false) d)=true->∀e:Ren,bP e l l:=λl i e=>bP.kg λv j=>acx d v (jn.1 i v j) e;intro e;cases v with
  |bool b=>exact .bool b
  |int k n=>exact .int k n
  |string s=>exact .string s
  |nilFunc=>exact .nilFunc
  |nilIface=>exact .nilIface
  |pointer a=>cases a with
   |none=>exact .pointer .none
   |some a=>cases h
  |slice a n c=>cases a with
   |none=>exact .slice .none n c
   |some a=>cases h
  |map a=>cases a with
   |none=>exact .map .none
   |some a=>cases h
  |chan a=>cases a with
   |none=>exact .chan .none
   |some a=>cases h
  |func f a c=>
   unfold nX at h;simp only[fd] at h;cases f<;>(have:=h.1.1;cases this)
  |iface t v=>exact .iface t (acx d v h e)
  |agg c=>exact .agg (g _ h e)
  |tuple c=>exact .tuple (g _ h e)
  |float|complex=>cases h
def axO:∀t i v,prog.info? t=some i->i.zero=some v->cV v:=aoQ λt i v h b=>by
 have a:=(dk.1 h).1;have:=jn.1 aul t (ql.2 a);unfold zOk at this;rw[h] at this;dsimp only at this;rw[b] at this;exact acx 6 v this
noncomputable def anc(fn:Func):Bool:=!(fn.name == "runtime.NumGoroutine")
def aiD:prog.funcs.toList.all anc=true:=by kernel_rfl
def agf{a:FuncId->Bool}{o:Op}(h:mb P a l o=true)(g:Nat):o ≠ .ready g:=λe=>by
 subst e;unfold mb at h;simp at h
def afK(P:Program)(t:FuncId->Bool)(r:List Nat)(s:TypeId):∀c:Code,readies (bK P t r s c)=[]:=by
 intro c
 induction c with
 |region id u draw=>
  unfold bK;have m:∀l:List Oper,(∀o∈l,∀g,o.op ≠ .ready g)->(l.filterMap λo=>match o.op with|.ready g=>some g|_=>none)=[]:=by
   intro l v;rw[List.filterMap_eq_nil_iff];intro o k;split
   .rename_i g e;exact absurd e (v o k g)
   .rfl
  split
  .rename_i h;exact m _ λo k g=>agf (jn.1 h o k) g
  .split
   .rename_i h;refine m _ λo k g e=> ?_;rw[qD,mw] at k;obtain⟨p,w,rfl⟩:=k;have j:=jn.1 h p w;have q:(aal t r s p).op=p.op:=by unfold aal;split<;>rfl
    rw[q] at e;simp only[qT] at j;rcases j with j|j
    .exact agf j g e
    .rw[e] at j;cases j
   .rfl
 |seq a b i d=>unfold bK readies;rw[i,d];rfl
 |cond c a b i d=>
  unfold bK;split
  .unfold readies;rw[i,d];rfl
  .rfl
 |rangeFunc f x a b i d=>
  unfold bK;split
  .unfold readies;rw[i,d];rfl
  .rfl
 |block id a n=>unfold bK readies;exact n
 |loop a n=>unfold bK readies;exact n
 |scope a n=>unfold bK readies;exact n
 |_=>rfl
def aum(P:Program)(m:Array Func)(k:FuncId->Bool)(i:List Nat)(j:TypeId):∀c:Code,bK {P with funcs:=m} k i j c=bK P k i j c:=by
 intro c
 induction c with
 |region id l draw=>rfl
 |seq a b e d=>unfold bK;rw[e,d]
 |cond c a b e d=>unfold bK;rw[e,d]
 |rangeFunc f n a b e d=>unfold bK;rw[e,d]
 |block id a g=>unfold bK;rw[g]
 |loop a g=>unfold bK;rw[g]
 |scope a g=>unfold bK;rw[g]
 |_=>rfl
section
variable (β:Bool)
def acy:(ah β).funcs[nCC]?=some qCC:=by
 have:nCC<(prog.funcs.map pf).size:=by rw[tC];exact(dk.1 func158).1
 show(((prog.funcs.map pf).setIfInBounds cB (qFA β)).setIfInBounds nCC qCC)[nCC]?=_;rw[pY (by simpa using this)]
def acz:(ah β).funcs[cB]?=some (qFA β):=by
 have:cB<(prog.funcs.map pf).size:=by rw[tC];exact(dk.1 func64).1
 show(((prog.funcs.map pf).setIfInBounds cB (qFA β)).setIfInBounds nCC qCC)[cB]?=_;rw[io (by decide),pY this]
def akT{f:Nat}(a:f≠nCC)(b:f≠cB):(ah β).funcs[f]?=(prog.funcs[f]?).map pf:=by
 show(((prog.funcs.map pf).setIfInBounds cB (qFA β)).setIfInBounds nCC qCC)[f]?=_;rw[io (sD a),io (sD b),qZ]
def axP:(ah β).funcs.size=prog.funcs.size:=by
 show(((prog.funcs.map pf).setIfInBounds cB (qFA β)).setIfInBounds nCC qCC).size=_;simp
end
def azF:gH nCC=true:=by unfold gH;kernel_rfl
def akU:readies jN=[]:=by kernel_rfl
def azG:gH cB=true:=by unfold gH;kernel_rfl
def azH:prog.follows .staticDataAhead=true:=by kernel_rfl
def azI:prog.underlying 3=some (.int .i64):=by kernel_rfl
def ane:f158.body.isSome=true:=by kernel_rfl
def anf:f64.body.isSome=true:=by kernel_rfl
section
variable (β:Bool)
def aq4(g:Nat):(ah β).stepOf g=none:=by
 unfold Program.stepOf;rw[Array.findIdx?_eq_none_iff];intro fn b;obtain⟨f,a⟩:=Array.getElem?_of_mem b;by_cases i:f=nCC
 .subst i;rw[acy] at a;obtain rfl:=ef a;show((some ni).map readies).any (·.contains g)=false;rfl
 by_cases e:f=cB
 .subst e;rw[acz] at a;obtain rfl:=ef a;cases β with
  |true=>
   show(readies jN).contains g=false;rw[akU];rfl
  |false=>rfl
 rw[akT β i e] at a;obtain⟨d,j,rfl⟩:=gE.1 a;show((d.body.map gP).map readies).any (·.contains g)=false;cases d.body with
 |none=>rfl
 |some c=>
  show(readies (gP c)).contains g=false;have:readies (gP c)=[]:=by unfold gP;exact afK _ _ _ _ c
  rw[this];rfl
def cH{f:Nat}{fn:Func}(h:prog.funcs[f]?=some fn):(fn.name == "runtime.NumGoroutine")=false:=by
 have:=jn.1 aiD fn (rT.2 (qx h));unfold anc at this;simpa using this
def ahr(f:FuncId)(fn:Func)(h:(ah β).funcs[f]?=some fn):∃b,prog.funcs[f]?=some b/\FnR (gH f) fn b:=by
 by_cases k:f=nCC
 .subst k;rw[acy] at h;obtain rfl:=ef h;have g:=cH func158;refine⟨_,func158,rfl,g,rfl,rfl,rfl,λe=>(by cases e),λc _=> ?_⟩;obtain⟨d,a⟩:=ry.1 ane;exact⟨d,a,λe=>by rw[azF] at e;cases e⟩
 by_cases j:f=cB
 .subst j;rw[acz] at h;obtain rfl:=ef h;have g:=cH func64;refine⟨_,func64,rfl,g,rfl,rfl,rfl,λe=>(by cases e),λc _=> ?_⟩;obtain⟨d,a⟩:=ry.1 anf;exact⟨d,a,λe=>by rw[azG] at e;cases e⟩
 rw[akT β k j] at h;obtain⟨b,i,rfl⟩:=gE.1 h;have g:=cH i;refine⟨b,i,rfl,g,rfl,rfl,rfl,λe=> ?_,λc e=> ?_⟩
 .have e:b.body.map gP=none:=e;have:b.body=none:=by simpa using e
  unfold pf;rw[this];cases b;dsimp only at this;subst this;rfl
 .have e:b.body.map gP=some c:=e;obtain⟨d,a,rfl⟩:=gE.1 e;exact⟨d,a,λ_=>rfl⟩
def lQ:Twin (ah β) prog where
 info t:=(jO prog _ t).symm
 under t:=(cJ prog _ t).symm
 rt:=rfl
 depth:=(adU prog _).symm
 globals:=by unfold gN;exact⟨rfl,rfl⟩
 zero t i v h hv ρ:=axO t i v ((jO prog _ t).symm.trans h) hv ρ
 stood t:=(adW prog _ t).symm
 awk:=rfl
 cellAt d e c o b:=(aq2 prog _ d e c o b).symm
 lies d e c o u n:=(aq3 prog _ d e c o u n).symm
 akD d t:=(ahq prog _ d t).symm
 follows d:=(agd prog _ d).symm
 pc:=by
  unfold gP
  funext c
  exact(aum prog _ gA gL gB c).symm
 atP e h:=by
  have a:gB=3:=by unfold gB;rfl
  rw[a] at h;have:=((cJ prog _ 3).symm.trans h);rw[azI] at this;cases this
 func:=ahr β
 aio:=(axP β).symm
 ng:=⟨(agd prog _ _).trans azH,aq4 β⟩
end
def ahs{r:Y->Y->Prop}{a:Y}(h:∀f:Nat->Y,f 0=a->¬ ∀n,r (f (n+1)) (f n)):Acc r a:=by
 refine qA λe=> ?_;have step:∀x:{x:Y // ¬Acc r x},∃y:{x:Y // ¬Acc r x},r y.1 x.1:=λx=>qA λd=>x.2 ⟨_,λy c=>qA λb=>d ⟨⟨y,b⟩,c⟩⟩
 let f:Nat->{x:Y // ¬Acc r x}:=λn=>Nat.rec ⟨a,e⟩ (λ_ x=>(step x).choose) n
 exact h (λn=>(f n).1) rfl λn=>(step (f n)).choose_spec
def nj(g:Goroutine)(w:World):Machine:={world:=w,gs:=#[g],rest:={timers:=#[],alone:=none,slice:=none}}
def gM(h:nj g w=nj g' w'):g=g'/\w=w':=by
 unfold nj at h;simp only[Machine.mk.injEq,Array.mk.injEq,qi,qm] at h;exact⟨h.2,h.1⟩
def aiE(a:g.status=.running):move P (nj g w)=.goroutine (nj g w) 0:=by
 simp[move,ask,askOn,nj,runnable_eq,due,ahead,Goroutine.canRun,vJ,choose,pure,Sem.run,Question.forced,a]
def dI(a:g.status=.running)(h:stepG P true g w=.go g' w' es):step P (nj g w)=.next (nj g' w'):=by
 rw[step,stepT,aiE a];simp[runT,nj,Array.swapAt!,h]
def cD{o:Outcome}(a:g.status=.running)(h:stepG P true g w=.ended o w' es):step P (nj g w)=.ended o w':=by
 rw[step,stepT,aiE a];simp[runT,nj,Array.swapAt!,h]
def acA(c:g.status=.blocked):∃o b,step P (nj g w)=.ended o b:=by
 rw[step,stepT];have:∃s a,move P (nj g w)=.machine s a/\∃o b,s=.ended o b:=by
  simp only[move,ask,askOn,nj,runnable_eq,due,ahead,Goroutine.canRun,c];simp[vJ,choose,pure,Sem.run,Question.forced,c];generalize endWith _ _ _ _=q;cases q<;>exact⟨_,⟨_,rfl⟩,_,_,rfl⟩
 obtain⟨s,a,d,o,b,rfl⟩:=this;rw[d];exact⟨o,b,rfl⟩
def acB(a:g.status=.waiting):step P (nj g w)=.next (nj g w):=by
 rw[step,stepT];have:move P (nj g w)=.machine (.next (nj g w)):=by
  simp[move,ask,askOn,nj,runnable_eq,due,ahead,Goroutine.canRun,vJ,choose,pure,Sem.run,Question.forced,a]
 rw[this]
def jP(P:Program):Frame:={fn:=P.funcs.size,tmps:=#[],todo:=[.call ⟨.nil,#[]⟩ false "fmt's door" #[]],defers:=[],mode:=.run,kind:=.normal}
def aq5(base:List Frame)(g:Goroutine):Prop:=g.callers=base/\g.frame.mode=.returning/\g.frame.defers=[]/\g.status=.running/\g.dying=none
section
variable {P:Program}
def aaV{g:Goroutine}{w:World}(h:g.status=.blocked\/g.status=.waiting):∀n a b,runN P n (nj g w)=.next (nj a b)->¬aq5 [jP P] a
 |0,a,b,hr,hf=>by
  simp only[runN,qG] at hr;obtain⟨rfl,rfl⟩:=gM hr;rcases h with h|h<;>rw[hf.2.2.2.1] at h<;>cases h
 |n+1,a,b,hr,hf=>by
  unfold runN at hr;rcases h with h|h
  .obtain⟨o,d,c⟩:=acA (P:=P) (w:=w) h;rw[c] at hr;cases hr
  .rw[acB h] at hr;exact aaV (.inr h) n a b hr hf
def ac5:∀(n:Nat) {a:Frame} {w:World} {d:Dying} {f:Fatal},d.fatal=some f->d.calling=false->∀b g,runN P n (nj ⟨a,[],.running,some d,none⟩ w)=.next (nj b g)->¬aq5 [jP P] b
 |0,a,w,d,f,h1,h2,b,g,hr,hf=>by
  simp only[runN,qG] at hr;obtain⟨rfl,rfl⟩:=gM hr;have:=hf.2.2.2.2;cases this
 |n+1,a,w,d,f,h1,h2,b,g,hr,hf=>by
  unfold runN at hr;have m:(∃o c i,stepG P true ⟨a,[],.running,some d,none⟩ w=.ended o c i)\/
    ∃k l c i,(k=.running\/k=.blocked)/\stepG P true ⟨a,[],.running,some d,none⟩ w=.go ⟨a,[],k,some {d with fatal:=some l},none⟩ c i:=by
   obtain⟨r,p,e,j,s,hand,fatal⟩:=d;dsimp only at h1 h2;subst h1 h2;simp only[stepG,die,writeOn];split
   .exact .inl ⟨_,_,_,rfl⟩
   .split
    .exact .inr ⟨_,_,_,_,.inl rfl,rfl⟩
    .exact .inr ⟨_,_,_,_,.inr rfl,rfl⟩
    .exact .inl ⟨_,_,_,rfl⟩
    .exact .inl ⟨_,_,_,rfl⟩
  rcases m with⟨o,c,i,h⟩|⟨k,l,c,i,q,h⟩
  .rw[cD rfl h] at hr;cases hr
  .rw[dI rfl h] at hr;rcases q with rfl|rfl
   .exact ac5 n (d:={d with fatal:=some l}) (f:=l) rfl h2 b g hr hf
   .exact aaV (.inl rfl) n b g hr hf
def aq6{b:Nat}(e:∀x l,w.heap[b]?≠some (.deferred (some (x::l)))):(∃h c a,(Instr.takeDeferred b).runT P w #[]=(.halt h c,a))\/∃a,(Instr.takeDeferred b).runT P w #[]=(.ok [] {w with heap:=w.heap.setIfInBounds b (.deferred none)},a):=by
 unfold Instr.takeDeferred;show(∃h c a,(Sem.getObj b λo=>_).runT P w #[]=_)\/∃a,(Sem.getObj b λo=>_).runT P w #[]=_;rw[Sem.runT];cases d:w.heap[b]? with
 |none=>exact .inl ⟨_,_,_,rfl⟩
 |some o=>
  cases o with
  |deferred q=>
   cases q with
   |none=>exact .inl ⟨_,_,_,rfl⟩
   |some l=>
    cases l with
    |cons x l=>exact absurd d (e x l)
    |nil=>
     refine .inr ⟨(#[].push ⟨.obj b,false,false⟩).push ⟨.obj b,true,false⟩, ?_⟩;show(Sem.setObj b (.deferred none) (Sem.pure [])).runT P w (#[].push ⟨.obj b,false,false⟩)=_;rw[Sem.runT,d];show(Sem.pure []).runT P {w with heap:=w.heap.setIfInBounds b (.deferred none)} _=_;rw[Sem.runT];rfl
  |_=>exact .inl ⟨_,_,_,rfl⟩
def wv(fr:Frame)(b:List PanicEntry):∃a,(fr.raise b).mode=.panicking a:=by
 unfold Frame.raise;split<;>exact⟨_,rfl⟩
def abE(fr:Frame)(a:List PanicEntry):(fr.raise a).defers=fr.defers:=by
 unfold Frame.raise;split<;>rfl
def akV(a:List PanicEntry):((jP P).raise a).catches P=true:=by
 have h:P.funcs[P.funcs.size]?=none:=by rw[qd];exact am _
 show(match P.funcs[P.funcs.size]?,[Item.call ⟨.nil,#[]⟩ false "fmt's door" #[]] with
  |none,.call _ _ resume _::_=>resume.startsWith "fmt's door"
  |_,_=>false)=true
 rw[h];show "fmt's door".startsWith "fmt's door" =true
 decide+kernel
def nk:∀(n:Nat) {A:Frame} {i:List Frame} {w:World} {a:List PanicEntry},A.mode=.panicking a->((∀f∈A::i,kx w f.defers)\/False)->∀z B,runN P n (nj ⟨A,i++[jP P],.running,none,none⟩ w)=.next (nj z B)->¬aq5 [jP P] z
 |0,A,i,w,a,hm,_,z,B,hr,hf=>by
  simp only[runN,qG] at hr;obtain⟨rfl,rfl⟩:=gM hr;have:=hf.2.1;rw[hm] at this;cases this
 |n+1,A,i,w,a,hm,hd,z,B,hr,hf=>by
  replace hd:=hd.resolve_right id;unfold runN at hr;obtain⟨f,q,p,s,L,m,k⟩:=A;dsimp only at hm;subst hm;have C:stepG P true ⟨⟨f,q,p,s,.panicking a,m,k⟩,i++[jP P],.running,none,none⟩ w=unwind P true ⟨f,q,p,s,.panicking a,m,k⟩ (i++[jP P]) none w:=rfl;cases s with
  |cons d s=>
   obtain⟨b,rfl,I⟩:=hd _ (qR ..) d (qR ..);have F:(∃o j g,unwind P true ⟨f,q,p,⟨.collected b,#[]⟩::s,.panicking a,m,k⟩ (i++[jP P]) none w=.ended o j g)\/
     ∃g,unwind P true ⟨f,q,p,⟨.collected b,#[]⟩::s,.panicking a,m,k⟩ (i++[jP P]) none w=.go ⟨⟨f,q,p,s,.panicking a,m,k⟩,i++[jP P],.running,none,none⟩ {w with heap:=w.heap.setIfInBounds b (.deferred none)} g:=by
    rcases aq6 (P:=P) I with⟨h,j,g,e⟩|⟨g,e⟩
    .refine .inl ⟨.stuck "the deferred calls of a range-over-func loop have been taken" (Frame.pos P ⟨f,q,p,⟨.collected b,#[]⟩::s,.panicking a,m,k⟩),j,seen P f g, ?_⟩;unfold unwind;simp only[e];simp[GStep.after]
    .refine .inr ⟨seen P f g, ?_⟩;unfold unwind;simp only[e];simp[GStep.after]
   rcases F with⟨o,j,g,h⟩|⟨g,h⟩
   .rw[cD rfl (C.trans h)] at hr;cases hr
   .rw[dI rfl (C.trans h)] at hr;refine nk n rfl (.inl λx u=> ?_) z B hr hf;have D:kx w x.defers:=by
     rcases mc.1 u with rfl|u
     .exact λd v=>hd _ (qR ..) d (qS _ v)
     .exact hd x (by simp[u])
    intro d v;obtain⟨c,rfl,K⟩:=D d v;exact⟨c,rfl,λy l e=>by
     change (w.heap.setIfInBounds b (.deferred none))[c]?=_ at e;rw[pm] at e;split at e
     .split at e
      .cases e
      .cases e
     .exact K y l e⟩
  |nil=>
   by_cases t:Frame.catches P ⟨f,q,p,[],.panicking a,m,k⟩=true
   .have h:∃o j g,unwind P true ⟨f,q,p,[],.panicking a,m,k⟩ (i++[jP P]) none w=.ended o j g:=by
     unfold unwind;simp only[t,ph];exact⟨_,_,_,rfl⟩
    obtain⟨o,j,g,h⟩:=h;rw[cD rfl (C.trans h)] at hr;cases hr
   .cases i with
    |nil=>
     have h:unwind P true ⟨f,q,p,[],.panicking a,m,k⟩ ([]++[jP P]) none w=.go ⟨(jP P).raise a,[],.running,none,none⟩ w #[]:=by
      unfold unwind;simp only[t,rr];rfl
     rw[dI rfl (C.trans h)] at hr;cases n with
     |zero=>
      simp only[runN,qG] at hr;obtain⟨rfl,rfl⟩:=gM hr;have:=hf.1;cases this
     |succ n=>
      unfold runN at hr;obtain⟨G,r⟩:=wv (jP P) a;have E:∃o j g,stepG P true ⟨(jP P).raise a,[],.running,none,none⟩ w=.ended o j g:=by
       have H:stepG P true ⟨(jP P).raise a,[],.running,none,none⟩ w=unwind P true ((jP P).raise a) [] none w:=by
        simp only[stepG,r]
       rw[H];unfold unwind;have J:((jP P).raise a).defers=[]:=(abE _ _).trans rfl;rw[J];simp only[r,akV,ph];exact⟨_,_,_,rfl⟩
      obtain⟨o,j,g,E⟩:=E;simp only[cD rfl E] at hr;cases hr
    |cons c i=>
     have h:unwind P true ⟨f,q,p,[],.panicking a,m,k⟩ (c::i++[jP P]) none w=.go ⟨c.raise a,i++[jP P],.running,none,none⟩ w #[]:=by
      unfold unwind;simp only[t,qU];rfl
     rw[dI rfl (C.trans h)] at hr;obtain⟨G,r⟩:=wv c a;refine nk n r (.inl λx u=> ?_) z B hr hf;rcases mc.1 u with rfl|u
     .rw[abE];exact hd c (by simp)
     .exact hd x (by simp[u])
def aoR{s:GStep}(h:mG [jP P] s):(∃o w a,s=.ended o w a)\/∃g w a,s=.go g w a/\∀n b e,runN P n (nj g w)=.next (nj b e)->¬aq5 [jP P] b:=by
 cases h with
 |ended o w a=>exact .inl ⟨_,_,_,rfl⟩
 |stop h=>exact .inr ⟨_,_,_,rfl,aaV h⟩
 |raised c hd=>exact .inr ⟨_,_,_,rfl,λn=>nk n c (.inl hd)⟩
 |dying d f=>exact .inr ⟨_,_,_,rfl,λn=>ac5 n d f⟩
end
structure Cfg where
 l:List Frame
 w:World
 t:Tape
structure aew (P:Program) (c c1:Cfg):Prop where
 ne:c.l≠[]
 on:¬oX c.l
 drawn:c.w.drawn<=c1.w.drawn
 tape:∀i q,i<c.w.drawn->c1.t i q=c.t i q
 step:∃es,∀(base:List Frame) (t:Tape),(∀i q,i<c1.w.drawn->t i q=c1.t i q)->stepG P true (Gl c.l base) (c.w.dK t)=.go (Gl c1.l base) (c1.w.dK t) es
def jQ(P:Program)(R:List Frame->World->Prop)(c:Cfg):Prop:=
 ∀t:Tape,(∀i q,i<c.w.drawn->t i q=c.t i q)->∃n a b,runN P n (nj (Gl c.l [jP P]) (c.w.dK t))=.next (nj (Gl a [jP P]) b)/\oX a/\R a b
section
variable {P:Program} {R:List Frame->World->Prop}
def iY{l:List Frame}(h:l≠[])(base:List Frame):(Gl l base).status=.running:=by
 cases l with
 |nil=>exact absurd rfl h
 |cons x a=>rfl
def np{l base : List Frame}(h:l≠[])(a:l'≠[])(e:Gl l base=Gl l' base):l=l':=by
 cases l with
 |nil=>exact absurd rfl h
 |cons x c=>
  cases l' with
  |nil=>exact absurd rfl a
  |cons y b=>
   unfold Gl at e;simp only[Goroutine.mk.injEq,List.append_cancel_right_eq] at e;rw[e.1,e.2.1]
def oX.ne{l:List Frame}(h:oX l):l≠[]:=by
 obtain⟨a,rfl, -⟩:=h;exact λe=>by cases e
def oX.fin{l:List Frame}(h:oX l)(base:List Frame):aq5 base (Gl l base):=by
 obtain⟨c,rfl,a,b, -⟩:=h;exact⟨rfl,a,b,rfl,rfl⟩
def jQ.step{c c1:Cfg}(h:jQ P R c)(a:aew P c c1):jQ P R c1:=λt f=>by
 obtain⟨o,k⟩:=a.step;obtain⟨n,m,j,b,d,l⟩:=h t λi q g=>by
  rw[f i q (aE g a.drawn),a.tape i q g]
 cases n with
 |zero=>
  simp only[runN,qG] at b;obtain⟨e, -⟩:=gM b;obtain rfl:=np a.ne d.ne e;exact absurd d a.on
 |succ n=>
  unfold runN at b;rw[dI (iY a.ne _) (k [jP P] t f)] at b;exact⟨n,m,j,b,d,l⟩
def jQ.acc{c:Cfg}(h:jQ P R c):Acc (λw c=>aew P c w) c:=by
 classical
 refine ahs λf x a=> ?_;subst x;have s:∀{m n},m<=n->(f m).w.drawn<=(f n).w.drawn:=λ{m n} b=>by
  induction b with
  |refl=>exact am _
  |step _ p=>exact bd p (a _).drawn
 have l:∀{m n},m<=n->∀i q,i<(f m).w.drawn->(f n).t i q=(f m).t i q:=λ{m n} b=>by
  induction b with
  |refl=>exact λ_ _ _=>rfl
  |step t p=>exact λi q o=>((a _).tape i q (aE o (s t))).trans (p i q o)
 let T:Tape:=λi q=>if d:∃n,i<(f n).w.drawn then(f d.choose).t i q else 0
 have u:∀n i q,i<(f n).w.drawn->T i q=(f n).t i q:=λn i q o=>by
  have d:∃n,i<(f n).w.drawn:=⟨n,o⟩;show(if d:∃n,i<(f n).w.drawn then(f d.choose).t i q else 0)=_;rw[tq d];rcases Nat.le_total d.choose n with g|g
  .exact(l g i q d.choose_spec).symm
  .exact l g i q o
 have r:∀n,Go.step P (nj (Gl (f n).l [jP P]) ((f n).w.dK T))=.next (nj (Gl (f (n+1)).l [jP P]) ((f (n+1)).w.dK T)):=λn=>by
  obtain⟨B,z⟩:=(a n).step;exact dI (iY (a n).ne _) (z _ T (u (n+1)))
 have y:∀n k,runN P n (nj (Gl (f k).l [jP P]) ((f k).w.dK T))=.next (nj (Gl (f (k+n)).l [jP P]) ((f (k+n)).w.dK T)):=by
  intro n
  induction n with
  |zero=>intro k;rfl
  |succ n p=>
   intro k;unfold runN;rw[r k];simp only;rw[p (k+1),show k+1+n=k+(n+1) by omega]
 obtain⟨n,C,A,v,j, -⟩:=h T (u 0);rw[y n 0,qG] at v;obtain⟨e, -⟩:=gM v;obtain rfl:=np (a (0+n)).ne j.ne e;exact(a (0+n)).on j
def jQ.fin{c:Cfg}(h:jQ P R c)(u:oX c.l)(B:Extern.next "fmt's door" =none)(t:Tape)(z:∀i q,i<c.w.drawn->t i q=c.t i q):R c.l (c.w.dK t):=by
 obtain⟨n,J,D,a,g,C⟩:=h t z;cases n with
 |zero=>
  simp only[runN,qG] at a;obtain⟨e,rfl⟩:=gM a;obtain rfl:=np u.ne g.ne e;exact C
 |succ n=>
  exfalso;obtain⟨j,A,x,hd,p⟩:=u;rw[A] at a;have k:(∃o b d,stepG P true (Gl [j] [jP P]) (c.w.dK t)=.ended o b d)\/∃v b d,stepG P true (Gl [j] [jP P]) (c.w.dK t)=.go ⟨(jP P).finish v,[],.running,none,none⟩ b d:=by
   obtain⟨f,l,w,G,F,E,m⟩:=j;dsimp only at x hd p;subst x hd p;have y:stepG P true (Gl [⟨f,l,w,[],.returning,.normal,m⟩] [jP P]) (c.w.dK t)=unwind P true ⟨f,l,w,[],.returning,.normal,m⟩ [jP P] none (c.w.dK t):=rfl;rw[y];unfold unwind;dsimp only;cases I:P.funcs[f]? with
   |none=>exact .inr ⟨_,_,_,rfl⟩
   |some fn=>
    dsimp only;generalize (results fn l).runT P (c.w.dK t) #[]=q;obtain⟨r,d⟩:=q;cases r with
    |ok v b=>exact .inr ⟨v,b,_,rfl⟩
    |halt h b=>cases h<;>exact .inl ⟨_,_,_,rfl⟩
  unfold runN at a;rcases k with⟨o,b,d,e⟩|⟨v,b,d,e⟩
  .rw[cD rfl e] at a;cases a
  .rw[dI rfl e] at a;cases n with
   |zero=>
    simp only[runN,qG] at a;obtain⟨e, -⟩:=gM a;obtain⟨H,rfl, -⟩:=g;have:=fk Goroutine.callers e;cases this
   |succ n=>
    unfold runN at a;have s:stepG P true ⟨(jP P).finish v,[],.running,none,none⟩ b=(Extern.next "fmt's door").elim (.ended (.stuck ("no extern row " ++ "fmt's door") (Frame.pos P ((jP P).finish v))) b #[]) λe=>stepG.apply P true ((jP P).finish v) [] none (e (#[].push v)) b:=rfl;rw[B] at s;simp only[cD rfl s] at a;cases a
end
section
variable {P P':Program} {R:List Frame->World->Prop} {ρ:Ren}
def sim(T:Twin P P')(X:ait P P')(C:GlR ρ){c:Cfg}(m':Bool)(y:iz P ρ c.l l')(K:WR ρ c.w w')(x:¬oX c.l)(z:jQ P R c) :
  ∃m k d p l f,aew P c m/\jQ P R m/\ρ.Le k/\(∀base,stepG P' m' (Gl l' base) w'=.go (Gl d base) p f)/\WR k m.w p/\Kept ρ k c.w w' m.w p/\EvW c.w k l f/\GoR P P' k m.l d:=by
 obtain⟨a,D,H⟩:=axN (P:=P) (P':=P') T X C true m' y K x;have b:c.l≠[]:=λe=>by rw[e] at y;cases y
 rcases H with H|⟨k,O,s,l,d,p,f,G,Q,M,F,J,N,I,L⟩
 .exfalso;have B:=H [jP P] (λi q=>if i<c.w.drawn then c.t i q else a i q) λi q r _=>be (by omega);obtain⟨n,U,V,j,v, -⟩:=z (λi q=>if i<c.w.drawn then c.t i q else a i q) λi q r=>dl r;cases n with
  |zero=>
   simp only[runN,qG] at j;obtain⟨e, -⟩:=gM j;obtain rfl:=np b v.ne e;exact x v
  |succ n=>
   unfold runN at j;rcases aoR B with⟨o,w,l,e⟩|⟨g,w,l,e,u⟩
   .rw[cD (iY b _) e] at j;cases j
   .rw[dI (iY b _) e] at j;exact u n _ _ j (v.fin _)
 .have A:aew P c ⟨O,s,λi q=>if i<c.w.drawn then c.t i q else a i q⟩:=
   ⟨b,x,by show c.w.drawn<=s.drawn;omega,λi q r=>dl r,l,λbase t E=>G base t λi q r S=>by
    rw[E i q (by show i<s.drawn;omega)];exact be (by omega)⟩
  exact⟨_,k,d,p,l,f,A,z.step A,M,F,J,N,I,L⟩
end
section
variable {P P':Program} {ρ:Ren}
def ac6:∀(n t:Nat) (acc:Array Value),(∀v∈acc.toList,cV v)->∀v∈(Extern.BytealgMakeNoZero.digits n t acc).toList,cV v
 |0,_,acc,h=>h
 |n+1,t,acc,h=>by
  unfold Extern.BytealgMakeNoZero.digits;refine ac6 n _ _ λv a=> ?_;rw[rL,me] at a;rcases a with a|a
  .exact h v a
  .simp at a;subst a;exact λ_=>.int _ _
def abF(T:Twin P P')(i f:Array TypeId){a : Array Value}(h:cZ ρ a Z):aw P P' VR ρ (Extern.BytealgMakeNoZero.makeNoZero i f a) (Extern.BytealgMakeNoZero.makeNoZero i f Z):=by
 unfold Extern.BytealgMakeNoZero.makeNoZero;obtain⟨a⟩:=a;obtain⟨Z⟩:=Z;have h:bP ρ a Z:=h;cases h with
 |nil=>exact .halt _ _
 |cons j o=>
  cases o with
  |cons=>cases j<;>exact .halt _ _
  |nil=>
   cases j with
   |int k n=>
    cases k<;>try exact .halt _ _
    dsimp only;cases f[0]? with
    |none=>exact .halt _ _
    |some t=>
     dsimp only;refine ag (aD T t) λE d A D hd=> ?_;obtain⟨rfl, -⟩:=hd;cases d with
     |slice e=>
      dsimp only;refine aR (λ_=>dM _) λ_=> ?_;refine ag (iD _) λB c l w q=> ?_;obtain rfl:c=l:=q;refine ag (akE c) λx _ _ C _=> ?_;refine ag (iD _) λs b m z q=> ?_;obtain rfl:b=m:=q;refine ag (oO e (bP.kg λv g=>ac6 _ _ _ (λv g=>by cases g) v g _)) λy r u F p=> ?_;exact ai (.slice (.some p) _ _)
     |_=>exact .halt _ _
   |_=>exact .halt _ _
def ac7:∀(n:Nat) {ρ:Ren} {a c:Addr} (acc:ByteArray),AR ρ a c->aw P P' jk ρ (Extern.Bytes.loadBytes a n acc) (Extern.Bytes.loadBytes c n acc)
 |0,_,_,_,_,_=>ai rfl
 |n+1,ρ,a,c,acc,h=>by
  unfold Extern.Bytes.loadBytes;refine ag (aqu .plain h) λg v f e d=> ?_;cases d with
  |int k b=>
   cases k<;>first|exact ac7 n _ ((h.mono e).add 1)|exact .halt _ _
  |_=>exact .halt _ _
def ac8{a : Array Value}(h:cZ ρ a Z):aw P P' VR ρ (Extern.BytealgIndexByte.indexByte a) (Extern.BytealgIndexByte.indexByte Z):=by
 unfold Extern.BytealgIndexByte.indexByte;obtain⟨a⟩:=a;obtain⟨Z⟩:=Z;have h:bP ρ a Z:=h;cases h with
 |nil=>exact .halt _ _
 |cons m d=>
  cases d with
  |nil=>exact .halt _ _
  |cons g d=>
   cases d with
   |cons=>exact .halt _ _
   |nil=>
    refine ag (A:=jk) ?_ λr b j q e=> ?_
    .cases m with
     |string s=>exact ai rfl
     |slice f l c=>cases f with
      |none=>exact ai rfl
      |some f=>exact ac7 _ _ f
     |_=>exact .halt _ _
    .obtain rfl:b=j:=e;refine ag (A:=jk) ?_ λo c i p e=> ?_
     .cases g with
      |int k n=>cases k<;>first|exact ai rfl|exact .halt _ _
      |_=>exact .halt _ _
     .obtain rfl:c=i:=e;split
      .exact ai (.int _ _)
      .exact ai (.int _ _)
end
noncomputable def akW(f:Nat):Bool:=match prog.funcs[f]? with
 |some fn=>!alw prog f||fn.body.isSome||f ==178||f ==183
 |none=>true
def agh{f:Nat}{fn:Func}(h:prog.funcs[f]?=some fn)(a:akW f=true):(!alw prog f||fn.body.isSome||f ==178||f ==183)=true:=by
 unfold akW at a;generalize prog.funcs[f]?=q at h a;subst h;exact a
def aex:(List.range prog.funcs.size).all akW=true:=by kernel_rfl
def ang:f178.body.isNone=true:=by kernel_rfl
def anh:f183.body.isNone=true:=by kernel_rfl
def ani:Extern.findNext f178=none:=by kernel_rfl
def ac9:Extern.findNext f183=none:=by kernel_rfl
def anj:Extern.find f178=some (Extern.BytealgMakeNoZero.makeNoZero f178.params f178.resultTypes):=by kernel_rfl
def ank:Extern.find f183=some Extern.BytealgIndexByte.indexByte:=by kernel_rfl
def acD:Extern.next "fmt's door" =none:=by kernel_rfl
def abG {P' : Program} {ρ:Ren} {fn b:Func} {e:Array Value->Sem Value} (r:P.funcs[f]?=some fn) (i:P'.funcs[f]?=some b) (g:fn.body.isNone=true) (k:b.body.isNone=true)
  (q:(fn.name == "runtime.NumGoroutine")=false) (t:(b.name == "runtime.NumGoroutine")=false) (s:Extern.findNext fn=none) (x2:Extern.findNext b=none) (n:Extern.find fn=some e) (u:Extern.find b=some e)
  (o:∀(c:Ren) a Z,cZ c a Z->aw P P' VR c (e a) (e Z)) {a : Array Value} (h:cZ ρ a Z):aw P P' ig ρ (callFunc f a) (callFunc f Z):=by
 unfold callFunc;refine ag cU λc p v m d=> ?_;obtain⟨rfl,rfl⟩:=d;rw[r,i];dsimp only;rw[q,t,g,k];simp only[kw,qB,ph];refine ag (aqv (.extern f)) λj _ _ l _=> ?_;rw[s,x2,n,u];exact bj (o j _ _ (bP.mono (m.trans l) h))
def awC(β:Bool):ait (ah β) prog:=λf fn d i k p a j h=>by
 obtain⟨o,b,n⟩:=ahr β f fn d;obtain rfl:=n.none i;have g:=(dk.1 b).1;have c:=jn.1 aex f (ql.2 g);have c:=agh b c;have m:alw prog f=true:=by
  have:gA f=alw prog f:=by unfold gA;rfl
  rw[<-this];exact k
 rw[m,i] at c;simp only[vh,ta,vg,uz,qT,mp] at c;rcases c with rfl|rfl
 .have e:=b.symm.trans func178;obtain rfl:=ef e;exact abG d func178 ang ang (cH func178) (cH func178) ani ani anj anj (λl a j h=>abF (lQ β) _ _ h) h
 .have e:=b.symm.trans func183;obtain rfl:=ef e;exact abG d func183 anh anh (cH func183) (cH func183) ac9 ac9 ank ank (λl a j h=>ac8 h) h
def aaz{args:Array Value}{t0:Tape}{Post:Value->World->Prop}(h:∀t:Tape,(∀i q,i<w.drawn->t i q=t0 i q)->Calls P f args (w.dK t) λe b=>∃v,e=.returned v/\Post v b) :
  jQ P (λl b=>∃a v,l=[a]/\a.fn=f/\a.leaving P b (.returned v)/\Post v b) ⟨[Frame.enter P f args .normal],w,t0⟩:=λt j=>by
 obtain⟨e,b,a,⟨v,rfl,d⟩,⟨n,k⟩,g,c⟩:=h t j [jP P];refine⟨n,[a],b,k,⟨a,rfl,c.1,c.2.1,c.2.2.1⟩,a,v,rfl,g,c,d⟩
end
section
open Go.RowKit
def aun{k:IntKind}{a b:Int}(h:a=b):Ending.returned (.int k a)=.returned (.int k b):=by rw[h]
def aC{a b:Bool}(h:a=b):Ending.returned (.bool a)=.returned (.bool b):=by rw[h]
structure bM (S:Nat->Prop) (w w':World):Prop where
 os:w'.os=w.os
 tape:w'.tape=w.tape
 output:w'.output=w.output
 size:w.heap.size<=w'.heap.size
 block:∀k,k<w.heap.size->¬S k->w'.heap[k]?=w.heap[k]?
def bM.refl(S:Nat->Prop)(w:World):bM S w w:=⟨rfl,rfl,rfl,am _,λ_ _ _=>rfl⟩
def bM.trans{T : Nat->Prop}{b c : World}(h:bM S a b)(k:bM T b c)(f:∀i,i<a.heap.size->T i->S i):bM S a c:=
 ⟨k.os.trans h.os,k.tape.trans h.tape,k.output.trans h.output,bd h.size k.size,
  λi d e=>(k.block i (aE d h.size) (λg=>e (f i d g))).trans (h.block i d e)⟩
def bM.mono{T : Nat->Prop}{b : World}(h:bM S a b)(d:∀i,i<a.heap.size->S i->T i):bM T a b:=
 ⟨h.os,h.tape,h.output,h.size,λi c f=>h.block i c λe=>f (d i c e)⟩
def bM.below(h:bM S w w')(c:B<=w.heap.size)(b:∀i,i<B->¬S i):Below B w w':=
 ⟨h.os,h.tape,h.output,h.size,λk a=>h.block k (aE a c) (b k a)⟩
def bM.bF(h:Below w.heap.size w w'):bM S w w':=
 ⟨h.os,h.tape,h.output,h.size,λk a _=>h.block k a⟩
def bM.alloc(h:bM S a w)(o:Obj):bM S a (w.alloc o):=
 ⟨h.os,h.tape,h.output,bd h.size (by simp),λi c b=>(se w o i (aE c h.size)).trans (h.block i c b)⟩
def bM.drew(h:bM S a w):bM S a w.drew:=⟨h.os,h.tape,h.output,h.size,h.block⟩
def bM.drewN(h:bM S a w)(n:Nat):bM S a (w.drewN n):=⟨h.os,h.tape,h.output,h.size,h.block⟩
def bM.setCell(h:bM S a w){p:Addr}(b:S p.block\/a.heap.size<=p.block)(u:Value):bM S a (w.setCell p u):=
 ⟨h.os,h.tape,h.output,by simpa[World.setCell] using h.size,λi d c=>(qb w p u i (by
  rintro rfl;rcases b with b|b
  .exact c b
  .omega)).trans (h.block i d c)⟩
def ae(h:Below a.heap.size a w)(b:Below w.heap.size w w'):Below a.heap.size a w':=h.trans (b.mono h.size)
def wK(h:Below B a w)(n:Nat):Below B a (w.drewN n):=⟨h.os,h.tape,h.output,h.size,h.block⟩
abbrev fV(α:Type):=World->Nat->Nat->α->List Value->Prop
structure Lcy {α:Type} (E:fV α):Prop where
 go:∀{w w':World} {lo hi jR hi':Nat} {x:α} {cs:List Value},
  (∀b,lo<=b->b<hi->w'.heap[b]?=w.heap[b]?)->jR<=lo->hi<=hi'->E w lo hi x cs->E w' jR hi' x cs
def cA(x:Int):Prop:= -9223372036854775808<=x/\x<=9223372036854775807
def oZ:fV Int:=λ_ _ _ x a=>a=[.int .i64 x]/\cA x
def jw:fV Int:=λ_ _ _ x a=>a=[.int .u8 x]/\0<=x/\x<256
def oZ.loc:Lcy oZ:=⟨λ_ _ _ h=>h⟩
def jw.loc:Lcy jw:=⟨λ_ _ _ h=>h⟩
def cG{α:Type}(E:fV α)(sz:Nat):fV (List α):=λw f g d k=>
 ∃(A:Option Addr) (c:Nat),k=[.slice A d.length c]/\d.length<=c/\c<=maxLen/\
  (0<d.length->∃b a,A=some ⟨b,a,none⟩/\f<=b/\b<g/\
   ∀i x,d[i]?=some x->∃e:List Value,e.length=sz/\E w f g x e/\∀j u,e[j]?=some u->w.cell? ⟨b,a+i*sz+j,none⟩=some u)
def cG.loc{E:fV Y}(p:Lcy E) :Lcy (cG E U):=by
 refine⟨?_⟩;intro w B H G C d F D n e l ⟨A,c,g,o,y,h⟩;refine⟨A,c,g,o,y,λq=> ?_⟩;obtain⟨b,f,rfl,m,k,v⟩:=h q;refine⟨b,f,rfl,bd e m,aE k l,λi x d=> ?_⟩;obtain⟨s,r,z,a⟩:=v i x d;exact⟨s,r,p.go n e l z,λj u t=>(qv (n b m k)).trans (a j u t)⟩
def Lcy.below{E:fV Y}(c:Lcy E){cs:List Value}(h:E w U hi x cs)(e:Below B w w')(d:hi<=B):E w' U hi x cs:=
 c.go (λb _ a=>e.block b (aE a d)) (am _) (am _) h
def Lcy.wide{E:fV Y}(a:Lcy E){jR hi' : Nat}{cs:List Value}(h:E w U hi x cs)(c:jR<=U)(b:hi<=hi'):E w jR hi' x cs:=
 a.go (λ_ _ _=>rfl) c b h
def cG.at_{E:fV Y}(h:cG E U w M hi xs [.slice A n c])(g:xs[k]?=some x) :
  ∃b a e,A=some ⟨b,a,none⟩/\M<=b/\b<hi/\e.length=U/\E w M hi x e/\∀j u,e[j]?=some u->w.cell? ⟨b,a+k*U+j,none⟩=some u:=by
 obtain⟨A',r,f,s,t,i⟩:=h;simp only[qi,pv,qm] at f;obtain⟨rfl,rfl,rfl⟩:=f;have l:k<xs.length:=by
  rcases pa k xs.length with h|h
  .exact h
  .rw[rx h] at g;cases g
 obtain⟨b,a,rfl,o,m,i⟩:=i (by omega);obtain⟨e,p,q,d⟩:=i k x g;exact⟨b,a,e,rfl,o,m,p,q,d⟩
def cG.ints_at{xs:List Int}(h:cG oZ 1 w U hi xs [.slice A n c]){x:Int}(f:xs[k]?=some x) :
  ∃b a,A=some ⟨b,a,none⟩/\U<=b/\b<hi/\cA x/\w.cell? ⟨b,a+k,none⟩=some (.int .i64 x):=by
 obtain⟨b,a,l,rfl,g,e,j,⟨rfl,d⟩,i⟩:=h.at_ f;exact⟨b,a,rfl,g,e,d,by simpa using i 0 _ rfl⟩
def cG.aey{xs:List Int}(h:cG jw 1 w U hi xs [.slice A n c]){x:Int}(f:xs[k]?=some x) :
  ∃b a,A=some ⟨b,a,none⟩/\U<=b/\b<hi/\(0<=x/\x<256)/\w.cell? ⟨b,a+k,none⟩=some (.int .u8 x):=by
 obtain⟨b,a,l,rfl,g,e,j,⟨rfl,d⟩,i⟩:=h.at_ f;exact⟨b,a,rfl,g,e,d,by simpa using i 0 _ rfl⟩
def cG.len_{E:fV Y}(h:cG E U w M hi xs [.slice A n c]):n=xs.length/\n<=c/\c<=maxLen:=by
 obtain⟨A',e,a,d,b,f⟩:=h;simp only[qi,pv,qm] at a;obtain⟨rfl,rfl,rfl⟩:=a;exact⟨rfl,d,b⟩
def cG.form{E:fV Y}(h:cG E U w M hi xs [v]):∃A c,v=.slice A xs.length c:=by
 obtain⟨A',d,a,e,b,f⟩:=h;simp only[qi,qm] at a;exact⟨_,_,a⟩
def ar{l:List Y}(h:k<l.length):∃x,l[k]?=some x:=⟨l[k],iS h⟩
def aB{l:List Y}(h:l[k]?=some x):k<l.length:=by
 rcases pa k l.length with a|a
 .exact a
 .rw[rx a] at h;cases h
def nt{α:Type}{P:List α->Prop}(h0:P [])(h1:∀l a,P l->P (l++[a]))(l:List α):P l:=by
 rw[<-l.reverse_reverse]
 induction l.reverse with
 |nil=>exact h0
 |cons a t b=>rw[List.reverse_cons];exact h1 _ _ b
def mx{l:List Y}(h:l[k]?=some x):l.take (k+1)=l.take k++[x]:=by
 rw[List.take_add_one,h];rfl
def bW(w:World)(g:Nat)(t:TypeId)(cs:Array Value):Prop:=w.heap[g]?=some (.cells cs t (0,0))
section
variable {w w':World} {g:Nat} {t:TypeId} {cs:Array Value}
def bW.lt(h:bW w g t cs):g<w.heap.size:=by
 rcases pa g w.heap.size with a|b
 .exact a
 .unfold bW at h;rw[qa b] at h;cases h
def bW.cell(h:bW w g t cs)(i:Nat):w.cell? ⟨g,i,none⟩=cs[i]?:=cell_of_row w g i cs t (0,0) h
def bW.frozen(h:bW w g t cs)(i:Nat):w.frozen? ⟨g,i,none⟩=false:=by
 unfold bW at h;simp[World.frozen?,h]
def bW.new(w:World)(t:TypeId)(cs:Array Value):bW (w.alloc (.cells cs t)) w.heap.size t cs:=heap_alloc_new w _
def bW.cf(h:bW w g t cs)(i:Nat)(u:Value):bW (w.setCell ⟨g,i,none⟩ u) g t (cs.setIfInBounds i u):=by
 unfold bW at h ⊢;simp[World.setCell,pb,h]
end
section
variable {w w':World} {g N:Nat} {t:TypeId} {vs:List Value}
end
def cG.aq7{E:fV Y}{cs:List Value}(h:cG E U w M hi xs cs):∀x∈xs,∃a,E w M hi x a:=by
 obtain⟨A,c,g,m,l,f⟩:=h;intro x j;obtain⟨i,hi⟩:=qW.1 j;obtain⟨b,e,_,_,_,d⟩:=f (by have:=aB hi;omega);obtain⟨a,_,k,_⟩:=d i x hi;exact⟨a,k⟩
def cG.aoA{xs:List Int}{cs:List Value}(h:cG oZ 1 w U hi xs cs):∀x∈xs,cA x:=λx b=>by
 obtain⟨c,a⟩:=h.aq7 x b;exact a.2
section
variable {w:World} {g:Nat} {t:TypeId} {n:Nat} {f f':Nat->Int}
end
end
section
section
variable (P:Program) (fs:Array Func)
def abH(t:TypeId)(w:World):(underlying t).run {P with funcs:=fs} w=(underlying t).run P w:=by
 show Sem.run _ (match({P with funcs:=fs}:Program).underlying t with|some d=>pure d|none=>stuck "no such type") w=Sem.run P (match P.underlying t with|some d=>pure d|none=>stuck "no such type") w;rw[cJ];cases P.underlying t<;>rfl
def aaW(t:TypeId)(w:World):(typeInfo t).run {P with funcs:=fs} w=(typeInfo t).run P w:=by
 show Sem.run _ (match({P with funcs:=fs}:Program).info? t with|some d=>pure d|none=>stuck "no such type") w=Sem.run P (match P.info? t with|some d=>pure d|none=>stuck "no such type") w;rw[jO];cases P.info? t<;>rfl
def aq8{β : Type}(P Q:Program)(s:Sem Y)(f:Y->Sem β)(w:World)(h:s.run Q w=s.run P w)(b:∀a w,(f a).run Q w=(f a).run P w):(s.bind f).run Q w=(s.bind f).run P w:=by
 have c:=qJ Q s f w;have e:=qJ P s f w;exact c.trans ((fk (λr=>Result.andThen r λa d=>(f a).run Q d) h).trans ((fk (λF=>Result.andThen (s.run P w) F) (funext λa=>funext λw=>b a w)).trans e.symm))
def akX{β : Type}(s:Sem Y)(f:Y->Sem β)(w:World)(h:s.run {P with funcs:=fs} w=s.run P w)(b:∀a w,(f a).run {P with funcs:=fs} w=(f a).run P w):(s.bind f).run {P with funcs:=fs} w=(s.bind f).run P w:=aq8 P _ s f w h b
def aq9(t:TypeId)(w:World):(sizeOf t).run {P with funcs:=fs} w=(sizeOf t).run P w:=akX P fs _ _ w (aaW P fs t w) λ_ _=>rfl
def aiF(t:TypeId)(w:World):(zeroValue t).run {P with funcs:=fs} w=(zeroValue t).run P w:=akX P fs _ _ w (aaW P fs t w) λi w=>by
 cases i.zero<;>rfl
def auo(t:TypeId)(w:World):(isAgg t).run {P with funcs:=fs} w=(isAgg t).run P w:=akX P fs _ _ w (abH P fs t w) λd w=>by
 cases d<;>rfl
end
variable {β:Bool}
@[simp,go_sem] theorem atK(t:TypeId)(w:World):(underlying t).run (ah β) w=(underlying t).run prog w:=abH prog (mn β) t w
@[simp,go_sem] theorem awD(t:TypeId)(w:World):(typeInfo t).run (ah β) w=(typeInfo t).run prog w:=aaW prog (mn β) t w
@[simp,go_sem] theorem bB(t:TypeId)(w:World):(sizeOf t).run (ah β) w=(sizeOf t).run prog w:=aq9 prog (mn β) t w
@[simp,go_sem] theorem aO(t:TypeId)(w:World):(zeroValue t).run (ah β) w=(zeroValue t).run prog w:=aiF prog (mn β) t w
@[simp,go_sem] theorem bX(t:TypeId)(w:World):(isAgg t).run (ah β) w=(isAgg t).run prog w:=auo prog (mn β) t w
@[simp,go_sem] theorem aV(t:TypeId):(ah β).underlying t=prog.underlying t:=cJ prog (mn β) t
@[simp,go_sem] theorem azJ(t:TypeId):(ah β).stoodInHeld t=prog.stoodInHeld t:=adW prog (mn β) t
@[simp,go_sem] theorem azK(d:Nat)(t:TypeId):(ah β).eqGuardType d t=prog.eqGuardType d t:=ahq prog (mn β) d t
@[simp,go_sem] theorem azL:(ah β).depth=prog.depth:=adU prog (mn β)
abbrev aht:List Nat:=[64,98,99,102,121,158,180,155,2,134,135,137,138,144,172,215]
noncomputable def axR(f:Nat):Bool:=aht.contains f||match prog.funcs[f]? with
 |some fn=>match fn.body with
  |some c=>fO prog gA gL c
  |none=>true
 |none=>true
def ara:(List.range prog.funcs.size).all axR=true:=by kernel_rfl
def aup{f:Nat}{fn:Func}(h:prog.funcs[f]?=some fn)(a:axR f=true)(b:aht.contains f=false):∀c,fn.body=some c->fO prog gA gL c=true:=by
 unfold axR at a;rw[b] at a;generalize prog.funcs[f]?=q at h a;subst h;intro c d;simp only[d,uz] at a;exact a
def au{f:Nat}{fn:Func}(h:prog.funcs[f]?=some fn)(g:aht.contains f=false):(ah β).funcs[f]?=some fn:=by
 have d:=(dk.1 h).1;have b:=aup h (jn.1 ara f (ql.2 d)) g;have j:f≠nCC:=λe=>by subst e;revert g;decide
 have i:f≠cB:=λe=>by subst e;revert g;decide
 have k:pf fn=fn:=by
  unfold pf;cases a:fn.body with
  |none=>cases fn;dsimp only at a;subst a;rfl
  |some c=>
   have:gP c=c:=by unfold gP;exact ail _ _ _ _ c (b c a)
   cases fn;dsimp only at a;subst a;show _=_;simp only[qh,this]
 refine(akT β j i).trans ?_;have e:Option.map pf (prog.funcs[f]?)=Option.map pf (some fn):=fk _ h;rw[e,qh,k]
def kK{fn:Func}(h:P.funcs[f]?=some fn)(d:(fn.name == "runtime.NumGoroutine")=false)(a:fn.body.isSome=true)(args:Array Value)(w:World):(callFunc f args).run P w=.ok (.enter f args) w:=by
 show Sem.run P (match P.funcs[f]? with|none=>_|some fn=>_) w=_;rw[h];obtain⟨c,b⟩:=ry.1 a;simp only[d,b,Option.isNone_some];rfl
def az{f:Nat}{fn:Func}(h:prog.funcs[f]?=some fn)(a:aht.contains f=false)(b:fn.body.isSome=true)(args:Array Value)(w:World):(callFunc f args).run (ah β) w=.ok (.enter f args) w:=kK (au h a) (cH h) b args w
end
section
variable {β:Bool}
def qF3:=au (β:=β) func3 (by decide)
def qF4:=au (β:=β) func4 (by decide)
def qF5:=au (β:=β) func5 (by decide)
def qF6:=au (β:=β) func6 (by decide)
def qF7:=au (β:=β) func7 (by decide)
def qF8:=au (β:=β) func8 (by decide)
def qF9:=au (β:=β) func9 (by decide)
def zP:=au (β:=β) func10 (by decide)
def xF:=au (β:=β) func11 (by decide)
def zO:=au (β:=β) func12 (by decide)
def wC:=au (β:=β) func13 (by decide)
def zN:=au (β:=β) func14 (by decide)
def zM:=au (β:=β) func15 (by decide)
def zL:=au (β:=β) func16 (by decide)
def xE:=au (β:=β) func17 (by decide)
def zK:=au (β:=β) func18 (by decide)
def zJ:=au (β:=β) func19 (by decide)
def zI:=au (β:=β) func20 (by decide)
def zH:=au (β:=β) func21 (by decide)
def zG:=au (β:=β) func22 (by decide)
def wQ:=au (β:=β) func23 (by decide)
def zF:=au (β:=β) func24 (by decide)
def zE:=au (β:=β) func25 (by decide)
def zD:=au (β:=β) func26 (by decide)
def zC:=au (β:=β) func27 (by decide)
def zB:=au (β:=β) func28 (by decide)
def zA:=au (β:=β) func29 (by decide)
def xD:=au (β:=β) func30 (by decide)
def xC:=au (β:=β) func31 (by decide)
def zv:=au (β:=β) func32 (by decide)
def zu:=au (β:=β) func33 (by decide)
def zt:=au (β:=β) func34 (by decide)
def zp:=au (β:=β) func35 (by decide)
def zn:=au (β:=β) func36 (by decide)
def zm:=au (β:=β) func37 (by decide)
def qF38:=au (β:=β) func38 (by decide)
def qF39:=au (β:=β) func39 (by decide)
def zl:=au (β:=β) func40 (by decide)
def zk:=au (β:=β) func41 (by decide)
def xB:=au (β:=β) func42 (by decide)
def xA:=au (β:=β) func43 (by decide)
def zj:=au (β:=β) func44 (by decide)
def zi:=au (β:=β) func45 (by decide)
def zh:=au (β:=β) func46 (by decide)
def zg:=au (β:=β) func47 (by decide)
def zf:=au (β:=β) func48 (by decide)
def ze:=au (β:=β) func49 (by decide)
def zd:=au (β:=β) func50 (by decide)
def wH:=au (β:=β) func51 (by decide)
def xz:=au (β:=β) func52 (by decide)
def zc:=au (β:=β) func53 (by decide)
def yZ:=au (β:=β) func54 (by decide)
def yY:=au (β:=β) func55 (by decide)
def yX:=au (β:=β) func56 (by decide)
def xy:=au (β:=β) func57 (by decide)
def xg:=au (β:=β) func58 (by decide)
def yW:=au (β:=β) func59 (by decide)
def yV:=au (β:=β) func60 (by decide)
def yU:=au (β:=β) func61 (by decide)
def qF62:=au (β:=β) func62 (by decide)
def qF63:=au (β:=β) func63 (by decide)
def yT:=au (β:=β) func65 (by decide)
def yS:=au (β:=β) func66 (by decide)
def yR:=au (β:=β) func67 (by decide)
def xw:=au (β:=β) func68 (by decide)
def yQ:=au (β:=β) func69 (by decide)
def yP:=au (β:=β) func70 (by decide)
def yO:=au (β:=β) func71 (by decide)
def yN:=au (β:=β) func72 (by decide)
def yM:=au (β:=β) func73 (by decide)
def yL:=au (β:=β) func74 (by decide)
def yK:=au (β:=β) func75 (by decide)
def xf:=au (β:=β) func76 (by decide)
def yJ:=au (β:=β) func77 (by decide)
def yI:=au (β:=β) func78 (by decide)
def yH:=au (β:=β) func79 (by decide)
def yG:=au (β:=β) func80 (by decide)
def yF:=au (β:=β) func84 (by decide)
def xe:=au (β:=β) func85 (by decide)
def yE:=au (β:=β) func86 (by decide)
def qF87:=au (β:=β) func87 (by decide)
def qF88:=au (β:=β) func88 (by decide)
def qF89:=au (β:=β) func89 (by decide)
def qF90:=au (β:=β) func90 (by decide)
def qF91:=au (β:=β) func91 (by decide)
def qF92:=au (β:=β) func92 (by decide)
def qF93:=au (β:=β) func93 (by decide)
def qF94:=au (β:=β) func94 (by decide)
def qF95:=au (β:=β) func95 (by decide)
def qF96:=au (β:=β) func96 (by decide)
def qF97:=au (β:=β) func97 (by decide)
def yu:=au (β:=β) func101 (by decide)
def wT:=au (β:=β) func103 (by decide)
def xm:=au (β:=β) func104 (by decide)
def yr:=au (β:=β) func105 (by decide)
def yq:=au (β:=β) func106 (by decide)
def yp:=au (β:=β) func107 (by decide)
def yo:=au (β:=β) func108 (by decide)
def xl:=au (β:=β) func109 (by decide)
def yn:=au (β:=β) func110 (by decide)
def ym:=au (β:=β) func111 (by decide)
def wx:=au (β:=β) func112 (by decide)
def yl:=au (β:=β) func113 (by decide)
def yk:=au (β:=β) func117 (by decide)
def yj:=au (β:=β) func118 (by decide)
def yi:=au (β:=β) func119 (by decide)
def yh:=au (β:=β) func120 (by decide)
def qF122:=au (β:=β) func122 (by decide)
def qF123:=au (β:=β) func123 (by decide)
def qF124:=au (β:=β) func124 (by decide)
def qF125:=au (β:=β) func125 (by decide)
def qF126:=au (β:=β) func126 (by decide)
def qF127:=au (β:=β) func127 (by decide)
def yg:=au (β:=β) func141 (by decide)
def yf:=au (β:=β) func147 (by decide)
def ye:=au (β:=β) func148 (by decide)
def wG:=au (β:=β) func149 (by decide)
def yd:=au (β:=β) func150 (by decide)
def wS:=au (β:=β) func151 (by decide)
def yc:=au (β:=β) func152 (by decide)
def yb:=au (β:=β) func157 (by decide)
def ya:=au (β:=β) func159 (by decide)
def qF160:=au (β:=β) func160 (by decide)
def xZ:=au (β:=β) func165 (by decide)
def wR:=au (β:=β) func166 (by decide)
def xk:=au (β:=β) func168 (by decide)
def xY:=au (β:=β) func169 (by decide)
def xj:=au (β:=β) func170 (by decide)
def xX:=au (β:=β) func171 (by decide)
def xW:=au (β:=β) func178 (by decide)
def xV:=au (β:=β) func179 (by decide)
def xU:=au (β:=β) func181 (by decide)
def xT:=au (β:=β) func183 (by decide)
@[go_sem] def qC4:=az (β:=β) func4 (by decide) rfl
@[go_sem] def qC5:=az (β:=β) func5 (by decide) rfl
@[go_sem] def qC6:=az (β:=β) func6 (by decide) rfl
@[go_sem] def qC7:=az (β:=β) func7 (by decide) rfl
@[go_sem] def qC8:=az (β:=β) func8 (by decide) rfl
@[go_sem] def qC9:=az (β:=β) func9 (by decide) rfl
@[go_sem] def qC10:=az (β:=β) func10 (by decide) rfl
@[go_sem] def qC11:=az (β:=β) func11 (by decide) rfl
@[go_sem] def qC12:=az (β:=β) func12 (by decide) rfl
@[go_sem] def qC13:=az (β:=β) func13 (by decide) rfl
@[go_sem] def qC14:=az (β:=β) func14 (by decide) rfl
@[go_sem] def qC15:=az (β:=β) func15 (by decide) rfl
@[go_sem] def qC16:=az (β:=β) func16 (by decide) rfl
@[go_sem] def qC17:=az (β:=β) func17 (by decide) rfl
@[go_sem] def qC18:=az (β:=β) func18 (by decide) rfl
@[go_sem] def qC19:=az (β:=β) func19 (by decide) rfl
@[go_sem] def qC20:=az (β:=β) func20 (by decide) rfl
@[go_sem] def qC21:=az (β:=β) func21 (by decide) rfl
@[go_sem] def qC22:=az (β:=β) func22 (by decide) rfl
@[go_sem] def qC23:=az (β:=β) func23 (by decide) rfl
@[go_sem] def qC24:=az (β:=β) func24 (by decide) rfl
@[go_sem] def qC25:=az (β:=β) func25 (by decide) rfl
@[go_sem] def qC26:=az (β:=β) func26 (by decide) rfl
@[go_sem] def qC27:=az (β:=β) func27 (by decide) rfl
@[go_sem] def qC28:=az (β:=β) func28 (by decide) rfl
@[go_sem] def qC29:=az (β:=β) func29 (by decide) rfl
@[go_sem] def qC30:=az (β:=β) func30 (by decide) rfl
@[go_sem] def qC31:=az (β:=β) func31 (by decide) rfl
@[go_sem] def qC32:=az (β:=β) func32 (by decide) rfl
@[go_sem] def qC33:=az (β:=β) func33 (by decide) rfl
@[go_sem] def qC34:=az (β:=β) func34 (by decide) rfl
@[go_sem] def qC35:=az (β:=β) func35 (by decide) rfl
@[go_sem] def qC36:=az (β:=β) func36 (by decide) rfl
@[go_sem] def qC37:=az (β:=β) func37 (by decide) rfl
@[go_sem] def qC38:=az (β:=β) func38 (by decide) rfl
@[go_sem] def qC39:=az (β:=β) func39 (by decide) rfl
@[go_sem] def qC40:=az (β:=β) func40 (by decide) rfl
@[go_sem] def qC41:=az (β:=β) func41 (by decide) rfl
@[go_sem] def qC42:=az (β:=β) func42 (by decide) rfl
@[go_sem] def qC43:=az (β:=β) func43 (by decide) rfl
@[go_sem] def qC44:=az (β:=β) func44 (by decide) rfl
@[go_sem] def qC45:=az (β:=β) func45 (by decide) rfl
@[go_sem] def qC46:=az (β:=β) func46 (by decide) rfl
@[go_sem] def qC47:=az (β:=β) func47 (by decide) rfl
@[go_sem] def qC48:=az (β:=β) func48 (by decide) rfl
@[go_sem] def qC49:=az (β:=β) func49 (by decide) rfl
@[go_sem] def qC50:=az (β:=β) func50 (by decide) rfl
@[go_sem] def qC51:=az (β:=β) func51 (by decide) rfl
@[go_sem] def qC52:=az (β:=β) func52 (by decide) rfl
@[go_sem] def qC53:=az (β:=β) func53 (by decide) rfl
@[go_sem] def qC54:=az (β:=β) func54 (by decide) rfl
@[go_sem] def qC55:=az (β:=β) func55 (by decide) rfl
@[go_sem] def qC56:=az (β:=β) func56 (by decide) rfl
@[go_sem] def qC57:=az (β:=β) func57 (by decide) rfl
@[go_sem] def qC58:=az (β:=β) func58 (by decide) rfl
@[go_sem] def qC59:=az (β:=β) func59 (by decide) rfl
@[go_sem] def qC60:=az (β:=β) func60 (by decide) rfl
@[go_sem] def qC61:=az (β:=β) func61 (by decide) rfl
@[go_sem] def qC65:=az (β:=β) func65 (by decide) rfl
@[go_sem] def qC66:=az (β:=β) func66 (by decide) rfl
@[go_sem] def qC67:=az (β:=β) func67 (by decide) rfl
@[go_sem] def qC68:=az (β:=β) func68 (by decide) rfl
@[go_sem] def qC69:=az (β:=β) func69 (by decide) rfl
@[go_sem] def qC70:=az (β:=β) func70 (by decide) rfl
@[go_sem] def qC71:=az (β:=β) func71 (by decide) rfl
@[go_sem] def qC72:=az (β:=β) func72 (by decide) rfl
@[go_sem] def qC73:=az (β:=β) func73 (by decide) rfl
@[go_sem] def qC74:=az (β:=β) func74 (by decide) rfl
@[go_sem] def qC75:=az (β:=β) func75 (by decide) rfl
@[go_sem] def qC76:=az (β:=β) func76 (by decide) rfl
@[go_sem] def qC77:=az (β:=β) func77 (by decide) rfl
@[go_sem] def qC78:=az (β:=β) func78 (by decide) rfl
@[go_sem] def qC79:=az (β:=β) func79 (by decide) rfl
@[go_sem] def qC80:=az (β:=β) func80 (by decide) rfl
@[go_sem] def qC84:=az (β:=β) func84 (by decide) rfl
@[go_sem] def qC85:=az (β:=β) func85 (by decide) rfl
@[go_sem] def qC86:=az (β:=β) func86 (by decide) rfl
@[go_sem] def AJ:=az (β:=β) func101 (by decide) rfl
@[go_sem] def AI:=az (β:=β) func103 (by decide) rfl
@[go_sem] def AH:=az (β:=β) func104 (by decide) rfl
@[go_sem] def AG:=az (β:=β) func105 (by decide) rfl
@[go_sem] def AF:=az (β:=β) func106 (by decide) rfl
@[go_sem] def AE:=az (β:=β) func107 (by decide) rfl
@[go_sem] def AC:=az (β:=β) func108 (by decide) rfl
@[go_sem] def AB:=az (β:=β) func109 (by decide) rfl
@[go_sem] def AA:=az (β:=β) func110 (by decide) rfl
@[go_sem] def Az:=az (β:=β) func111 (by decide) rfl
@[go_sem] def Ax:=az (β:=β) func112 (by decide) rfl
@[go_sem] def Aw:=az (β:=β) func113 (by decide) rfl
@[go_sem] def Au:=az (β:=β) func117 (by decide) rfl
@[go_sem] def An:=az (β:=β) func118 (by decide) rfl
@[go_sem] def Am:=az (β:=β) func119 (by decide) rfl
@[go_sem] def Ak:=az (β:=β) func120 (by decide) rfl
@[go_sem] def Aj:=az (β:=β) func141 (by decide) rfl
@[go_sem] def Ah:=az (β:=β) func147 (by decide) rfl
@[go_sem] def Ag:=az (β:=β) func148 (by decide) rfl
@[go_sem] def Af:=az (β:=β) func149 (by decide) rfl
@[go_sem] def Ad:=az (β:=β) func150 (by decide) rfl
@[go_sem] def Ac:=az (β:=β) func151 (by decide) rfl
@[go_sem] def zZ:=az (β:=β) func152 (by decide) rfl
@[go_sem] def zY:=az (β:=β) func157 (by decide) rfl
@[go_sem] def zX:=az (β:=β) func159 (by decide) rfl
@[go_sem] def zW:=az (β:=β) func165 (by decide) rfl
@[go_sem] def zV:=az (β:=β) func166 (by decide) rfl
@[go_sem] def zU:=az (β:=β) func169 (by decide) rfl
@[go_sem] def zT:=az (β:=β) func170 (by decide) rfl
@[go_sem] def zS:=az (β:=β) func171 (by decide) rfl
@[go_sem] def zR:=az (β:=β) func179 (by decide) rfl
@[go_sem] def zQ:=az (β:=β) func181 (by decide) rfl
def qU0:=(aV (β:=β) 0).trans underlying0
def qU3:=(aV (β:=β) 3).trans underlying3
def qU4:=(aV (β:=β) 4).trans underlying4
def qU5:=(aV (β:=β) 5).trans underlying5
def qU9:=(aV (β:=β) 9).trans underlying9
def wO:=(aV (β:=β) 22).trans underlying22
def yD:=(aV (β:=β) 23).trans underlying23
def yC:=(aV (β:=β) 24).trans underlying24
def yB:=(aV (β:=β) 25).trans underlying25
def wN:=(aV (β:=β) 30).trans underlying30
def yA:=(aV (β:=β) 34).trans underlying34
def xv:=(aV (β:=β) 36).trans underlying36
def xu:=(aV (β:=β) 48).trans underlying48
def yz:=(aV (β:=β) 59).trans underlying59
def yy:=(aV (β:=β) 74).trans underlying74
def yx:=(aV (β:=β) 81).trans underlying81
def yw:=(aV (β:=β) 90).trans underlying90
def yv:=(aV (β:=β) 93).trans underlying93
def xS:=(aV (β:=β) 113).trans underlying113
def xR:=(aV (β:=β) 137).trans underlying137
def xQ:=(aV (β:=β) 138).trans underlying138
def xP:=(aV (β:=β) 143).trans underlying143
def xO:=(aV (β:=β) 146).trans underlying146
def xN:=(aV (β:=β) 148).trans underlying148
def xM:=(aV (β:=β) 149).trans underlying149
def xL:=(aV (β:=β) 172).trans underlying172
def xK:=(aV (β:=β) 179).trans underlying179
def xJ:=(aV (β:=β) 183).trans underlying183
def xI:=(aV (β:=β) 213).trans underlying213
def xH:=(aV (β:=β) 214).trans underlying214
end
section
variable {β:Bool}
open Go.RowKit
def bs(s:ByteArray):List Nat:=s.data.toList.map UInt8.toNat
def aM(s:ByteArray):(bs s).length=s.size:=by
 unfold bs;rw[pe,qO];rfl
def pd{s:ByteArray}(h:k<s.size):(bs s)[k]?=some (s[k]'h).toNat:=by
 unfold bs;rw[qE,du];have:s.data[k]?=some (s.data[k]'h):=fm h;rw[this];rfl
def arb{s:ByteArray}:∀b∈bs s,b<256:=λb a=>by
 obtain⟨u,_,rfl⟩:=mw.1 a;exact u.toNat_lt
def kL{s t:ByteArray}(h:bs s=bs t):s=t:=by
 have e:s.data.toList=t.data.toList:=by
  unfold bs at h;generalize s.data.toList=a at *;generalize t.data.toList=b at *
  induction a generalizing b with
  |nil=>cases b with
   |nil=>rfl
   |cons y b=>cases h
  |cons x a d=>cases b with
   |nil=>cases h
   |cons y b=>
    simp only[qP,qi] at h;rw[sA.1 h.1,d b h.2]
 have c:s.data=t.data:=uG.1 e;cases s;cases t;simp only at c;rw[c]
def ik(s t:ByteArray):bs (s++t)=bs s++bs t:=by
 unfold bs;rw[<-qK,<-pr]
 congr 2
 simp
def cF(s:ByteArray)(a b:Nat):bs (s.extract a b)=((bs s).take b).drop a:=by
 unfold bs;simp only[vQ,tG,vw];rw[<-List.map_take,<-List.map_drop]
 congr 1
 rw[List.take_drop];by_cases h:a<=b
 .congr 2;omega
 .have:b-a=0:=by omega
  rw[this,rm (by simp;omega),rm (by simp;omega)]
def acE{s t:ByteArray}(h:¬t=s):(t.toList ==s.toList)=false:=by
 refine dq.2 λe=>h ?_;rw[qN,qN] at e;have a:t.data=s.data:=uG.1 e;cases s;cases t;simp only at a;rw[a]
def oJ(b:Nat):Bool:=decide (97<=b)&&decide (b<=122)
def aU(l:List Nat):Prop:=(1<=l.length/\l.length<=8)/\l.all oJ=true
def dZ:List Nat->Nat->Nat
 |[],n=>n
 |b::l,n=>dZ l (27*n+(b-97)+1)
def code(l:List Nat):Nat:=dZ l 0
def bA(key:Int)(l:List Nat):Int:=((code l:Int)*(2*key+1)+key*7919) % 999999999989
def cj(n:Nat):Nat:=if n=0\/8<n then 0 else if n<=2 then 2 else if n<=4 then 4 else 8
def fw(l:List Nat):List Nat:=l++List.replicate (cj l.length-l.length) 46
def fW:∀(a b:List Nat) (n:Nat),dZ (a++b) n=dZ b (dZ a n)
 |[],_,_=>rfl
 |x::a,b,n=>by show dZ (a++b) _=dZ b (dZ a _);rw[fW a b]
def aez:∀(l:List Nat) (n:Nat),l.all oJ=true->dZ l n<(n+1)*27 ^ l.length
 |[],n,_=>by show n<_;simp
 |b::l,n,h=>by
  simp only[qu,fd] at h;have a:=aez l (27*n+(b-97)+1) h.2;have c:b<=122:=by have:=h.1;unfold oJ at this;simp at this;exact this.2
  show dZ l _<_;refine aE a ?_;rw[ff,Nat.pow_succ,tw (27 ^ l.length) 27,<-Nat.mul_assoc];exact rb _ (by omega)
def abI(h:aU l):code l<282429536481:=by
 have a:=aez l 0 h.2;unfold code;have b:27 ^ l.length<=27 ^ 8:=vZ (by omega) h.1.2;have e:(27:Nat) ^ 8=282429536481:=by decide
 omega
def agi{b : Nat}(h:l[k]?=some b):code (l.take (k+1))=27*code (l.take k)+(b-97)+1:=by
 unfold code;rw[mx h,fW];rfl
def aoS:∀{a b:List Nat},a.all oJ=true->b.all oJ=true->dZ a 0=dZ b 0->a=b:=by
 intro a
 induction a using nt with
 |h0=>
  intro b _ c h
  induction b using nt with
  |h0=>rfl
  |h1 l x _=>rw[fW] at h;show[]=_;exfalso;have:dZ [x] (dZ l 0)=27*dZ l 0+(x-97)+1:=rfl;have h0:dZ [] 0=0:=rfl;omega
 |h1 l x g=>
  intro b d c h
  induction b using nt with
  |h0=>rw[fW] at h;exfalso;have:dZ [x] (dZ l 0)=27*dZ l 0+(x-97)+1:=rfl;have h0:dZ [] 0=0:=rfl;omega
  |h1 m y _=>
   rw[tf] at d c;simp only[fd,qu,vF,uA] at d c;rw[fW,fW] at h;have i:dZ [x] (dZ l 0)=27*dZ l 0+(x-97)+1:=rfl;have j:dZ [y] (dZ m 0)=27*dZ m 0+(y-97)+1:=rfl;have f:=d.2;have e:=c.2;unfold oJ at f e;simp at f e;have:dZ l 0=dZ m 0/\x=y:=by omega
   rw[g d.1 c.1 this.1,this.2]
def lS{key:Int} :0<=bA key l/\bA key l<=999999999988:=by
 unfold bA;omega
def cX(l:List Nat):Nat->Nat
 |0=>0
 |n+1=>if l[n]?=some 46 then cX l n else n+1
def tD(l:List Nat):List Nat:=l.take (cX l l.length)
def acF(l:List Nat):∀n,cX l n<=n
 |0=>am _
 |n+1=>by
  unfold cX;split
  .exact Nat.le_succ_of_le (acF l n)
  .exact am _
open Classical in
noncomputable def dF(l:List Nat):Option (List Nat):=if aU (tD l)/\fw (tD l)=l then some (tD l) else none
def mJ :cj n<=8/\(n<=8->n<=cj n):=by
 unfold cj;split<;>(try split)<;>(try split)<;>omega
def aeA(h:aU l):(fw l).length=cj l.length:=by
 unfold fw;rw[ap,qs];have:=mJ.2 h.1.2;omega
def aoT(h:aU l):tD (fw l)=l:=by
 have c:∀m,cX (fw l) (l.length+m)=l.length\/l.length+m>(fw l).length:=by
  intro m
  induction m with
  |zero=>
   left;obtain⟨k,f⟩:∃k,l.length=k+1:=⟨l.length-1,by have:=h.1.1;omega⟩;rw[sU,f];unfold cX;rw[be];unfold fw;rw[qz (by omega)];intro e;have:=jn.1 h.2 46 (da e);simp[oJ] at this
  |succ m b=>
   by_cases a:l.length+m<(fw l).length
   .rcases b with b|b
    .left;show cX (fw l) (l.length+m+1)=_;unfold cX;rw[dl,b];unfold fw at a ⊢;rw[ap,qs] at a;rw[qo (by omega),uh,dl (by omega)]
    .omega
   .right;omega
 have d:l.length<=(fw l).length:=by unfold fw;simp
 have:=c ((fw l).length-l.length);rw[Nat.add_sub_cancel' d] at this;unfold tD;rw[this.resolve_right (by omega)];unfold fw;rw[List.take_left]
def aiG(h:aU l):dF (fw l)=some l:=by
 unfold dF;rw[aoT h,dl ⟨h,rfl⟩]
def rF(l:List Nat):ByteArray:=⟨(l.map UInt8.ofNat).toArray⟩
def anl(h:∀b∈l,b<256):bs (rF l)=l:=by
 unfold bs rF;simp only[tU]
 conv=>rhs;rw[<-List.map_id l]
 refine uS λb a=> ?_;have:=h b a;simp[UInt8.toNat_ofNat,Nat.mod_eq_of_lt this]
def awE(s:ByteArray):rF (bs s)=s:=kL (anl arb)
def aoU{s:ByteArray}:∀b∈fw (bs s),b<256:=λb a=>by
 unfold fw at a;rcases me.1 a with h|h
 .exact arb b h
 .have:=List.eq_of_mem_replicate h;omega
def ahu(s:ByteArray):bs (rF (fw (bs s)))=fw (bs s):=anl aoU
end
section
variable {β:Bool}
open Go.RowKit
def gC(n a hi:Int)(w:World) :
  Calls (ah β) 31 #[.int .i64 n,.int .i64 a,.int .i64 hi] w λe c=>e=.returned (.bool (decide (a<=n)&&decide (n<=hi)))/\w=c:=by
 by_cases h:a<=n
 .go_enter xC,ntmps31;go_wp2;go_ret;exact⟨by simp[h],rfl⟩
 .go_enter xC,ntmps31;go_wp2;go_ret;have b:decide (a<=n)=false:=by simpa using h
  exact⟨by rw[b];rfl,rfl⟩
def aeB(n a hi:Int)(c:a<=n)(d:n<=hi)(w:World) :
  Calls (ah β) 31 #[.int .i64 n,.int .i64 a,.int .i64 hi] w λe b=>e=.returned (.bool true)/\w=b:=
 (gC n a hi w).mono λe b ⟨he,hw⟩=>⟨by rw[he];simp[c,d],hw⟩
def ahv(n a hi:Int)(h:¬(a<=n/\n<=hi))(w:World) :
  Calls (ah β) 31 #[.int .i64 n,.int .i64 a,.int .i64 hi] w λe b=>e=.returned (.bool false)/\w=b:=
 (gC n a hi w).mono λe b ⟨he,hw⟩=>⟨by
  rw[he];have:(decide (a<=n)&&decide (n<=hi))=false:=by rw[<-Bool.decide_and];simpa using h
  rw[this],hw⟩
end
section
variable {β:Bool}
open Go.RowKit
def aaA(s:ByteArray)(n:s.size<=maxLen)(w:World) :
  Calls (ah β) 77 #[.string s] w λe m=>e=.returned (.bool ((bs s).all oJ))/\w=m:=by
 unfold maxLen at n;go_enter yJ,ntmps77;go_wp2
 go_loop [3] (λi=>∃k:Nat,k<=s.size/\i=.int .i64 k/\((bs s).take k).all oJ=true) (λi=>s.size-(intOf i).toNat)
 case atStart=>exact⟨0,fa _,rfl,rfl⟩
 case round=>
  obtain⟨k,p,rfl,f⟩:=hrel;replace f:=ab f;by_cases b:k<s.size
  .have c:=pd b;replace c:=ab c;by_cases q:(s[k]'b).toNat<97
   .have l:=db (show((s[k]'b).toNat:Int)<97 by omega);have a:(bs s).all oJ=false:=by
     rw[uo];exact⟨_,da c.out,by unfold oJ;simp;omega⟩
    have d:=ab a;clear a;go_wp2;go_ret;exact⟨aC d.out.symm,rfl⟩
   .have l:=bv (show ¬(((s[k]'b).toNat:Int)<97) by omega);by_cases o:122<(s[k]'b).toNat
    .have j:=db (show 122<((s[k]'b).toNat:Int) by omega);have a:(bs s).all oJ=false:=by
      rw[uo];exact⟨_,da c.out,by unfold oJ;simp;omega⟩
     have d:=ab a;clear a;go_wp2;go_ret;exact⟨aC d.out.symm,rfl⟩
    .have j:=bv (show ¬(122<((s[k]'b).toNat:Int)) by omega);have g:((bs s).take (k+1)).all oJ=true:=by
      rw[mx c.out,tf,f.out];simp[oJ];omega
     replace g:=ab g;go_wp2
     go_round
     case rel=>exact⟨k+1,by omega,by go_num,g.out⟩
     simp[intOf];omega
  .obtain rfl:k=s.size:=by omega
   have a:(bs s).all oJ=true:=by
    have:=f.out
    rwa [qe (by rw[aM];exact am _)] at this
   have d:=ab a;clear a;go_wp2;go_ret;exact⟨aC d.out.symm,rfl⟩
def ada(s:ByteArray)(i:s.size<=maxLen)(w:World)(b:Bool)(a:b=true↔aU (bs s)) :
  Calls (ah β) 113 #[.string s] w λe j=>e=.returned (.bool b)/\w=j:=by
 replace a:=ab a;have HS:=i;unfold maxLen at i;go_enter yl,ntmps113;go_wp2;by_cases g:1<=s.size/\s.size<=8
 .refine(aeB s.size 1 8 (by omega) (by omega) w).mono ?_;rintro e f ⟨rfl,rfl⟩;go_wp2;refine(aaA s HS w).mono ?_;rintro e f ⟨rfl,rfl⟩;have d:b=(bs s).all oJ:=by
   rw[qj,a.out];unfold aU;rw[aM];exact⟨λh=>h.2,λh=>⟨g,h⟩⟩
  have c:=ab d;go_wp2;go_ret;exact⟨aC c.out.symm,rfl⟩
 .refine(ahv s.size 1 8 (by omega) w).mono ?_;rintro e f ⟨rfl,rfl⟩;have d:b=false:=by
   rw[<-lP,a.out];unfold aU;rw[aM];exact λh=>g h.1
  have c:=ab d;go_wp2;go_ret;exact⟨aC c.out.symm,rfl⟩
def akY(s:ByteArray)(g:aU (bs s))(w:World) :
  Calls (ah β) 79 #[.string s] w λe o=>e=.returned (.int .i64 (code (bs s)))/\w=o:=by
 have m:=ab g;have u:s.size<=8:=by have:=g.1.2;rwa [aM] at this
 go_enter yH,ntmps79;go_wp2
 go_loop [3,4] (λn i=>∃k:Nat,k<=s.size/\i=.int .i64 k/\n=.int .i64 (code ((bs s).take k))) (λ_ i=>s.size-(intOf i).toNat)
 case atStart=>exact⟨0,fa _,rfl,rfl⟩
 case round=>
  obtain⟨k,v,rfl,rfl⟩:=hrel;by_cases a:k<s.size
  .have l:=pd a;have j:=jn.1 m.out.2 _ (da l);have p:97<=(s[k]'a).toNat/\(s[k]'a).toNat<=122:=by unfold oJ at j;simpa using j
   have d:=agi l;have f:code ((bs s).take (k+1))<282429536481:=by
    have y:=aez ((bs s).take (k+1)) 0 (jn.2 λx q=>jn.1 m.out.2 x (pu q));have t:27 ^ ((bs s).take (k+1)).length<=27 ^ 8:=vZ (by omega) (by rw[fb,aM];omega);have e:(27:Nat) ^ 8=282429536481:=by decide
    unfold code;omega
   have b:=ab d;rw[d] at f;revert b f;generalize code ((bs s).take k)=c;intro f b;go_wp2
   go_round
   case rel=>exact⟨k+1,by omega,by go_num,by rw[b.out];congr 1;omega⟩
   simp[intOf];omega
  .obtain rfl:k=s.size:=by omega
   have r:(bs s).take s.size=bs s:=qe (by rw[aM];exact am _);rw[r];go_wp2;go_ret;exact⟨rfl,rfl⟩
def nz(key:Int)(s:ByteArray)(n:1<=key/\key<=99)(d:aU (bs s))(w:World) :
  Calls (ah β) 56 #[.int .i64 key,.string s] w λe g=>e=.returned (.int .i64 (bA key (bs s)))/\w=g:=by
 have f:=abI d;have i:bA key (bs s)=((code (bs s):Int)*(2*key+1)+key*7919) % 999999999989:=rfl;have b:=ab i;have j:=akY (β:=β) s d w;have a:=ab j;revert a;revert b;revert f;generalize code (bs s)=c;intro f b a;have q:0<=(c:Int)*(2*key+1)/\(c:Int)*(2*key+1)<=282429536481*199:=by
  constructor
  .exact Int.mul_nonneg (by omega) (by omega)
  .exact Int.mul_le_mul (by omega) (by omega) (by omega) (by omega)
 go_enter yX,ntmps56;go_wp2;refine a.out.mono ?_;rintro e k ⟨rfl,rfl⟩;have t:wrap64 (2*key)=2*key:=by unfold wrap64;omega
 have p:wrap64 (2*key+1)=2*key+1:=by unfold wrap64;omega
 have o:wrap64 ((c:Int)*(2*key+1))=(c:Int)*(2*key+1):=by unfold wrap64;omega
 have l:wrap64 (key*7919)=key*7919:=by unfold wrap64;omega
 have r:wrap64 ((c:Int)*(2*key+1)+key*7919)=(c:Int)*(2*key+1)+key*7919:=by unfold wrap64;omega
 have m:((c:Int)*(2*key+1)+key*7919).tmod 999999999989=((c:Int)*(2*key+1)+key*7919) % 999999999989:=vf (by omega);go_wp2;go_ret;exact⟨aun b.out.symm,rfl⟩
def aiH(n:Nat)(w:World) :
  Calls (ah β) 112 #[.int .i64 n] w λe d=>e=.returned (.int .i64 (cj n))/\w=d:=by
 have g:(n=0/\cj n=0)\/(8<n/\cj n=0)\/((1<=n/\n<=2)/\cj n=2)\/((3<=n/\n<=4)/\cj n=4)\/((5<=n/\n<=8)/\cj n=8):=by
  unfold cj;split<;>(try split)<;>(try split)<;>omega
 rcases g with⟨h,e⟩|⟨h,e⟩|⟨h,e⟩|⟨h,e⟩|⟨h,e⟩
 .rw[e];subst h;go_enter wx,ntmps112;go_wp2;go_ret;exact⟨rfl,rfl⟩
 .rw[e];have c:=bv (show ¬((n:Int)<1) by omega);have b:=db (show 8<(n:Int) by omega);go_enter wx,ntmps112;go_wp2;go_ret;exact⟨rfl,rfl⟩
 all_goals
  rw[e];have c:=bv (show ¬((n:Int)<1) by omega);have b:=bv (show ¬(8<(n:Int)) by omega)
 .have a:=db (show(n:Int)<=2 by omega);go_enter wx,ntmps112;go_wp2;go_ret;exact⟨rfl,rfl⟩
 .have a:=bv (show ¬((n:Int)<=2) by omega);have f:=db (show(n:Int)<=4 by omega);go_enter wx,ntmps112;go_wp2;go_ret;exact⟨rfl,rfl⟩
 .have a:=bv (show ¬((n:Int)<=2) by omega);have f:=bv (show ¬((n:Int)<=4) by omega);go_enter wx,ntmps112;go_wp2;go_ret;exact⟨rfl,rfl⟩
def awF(l:List Nat)(e:Ending):Prop:=∃t:ByteArray,e=.returned (.string t)/\bs t=l
def agj(s:ByteArray)(j:s.size<=maxLen)(w:World) :
  Calls (ah β) 75 #[.string s] w λe i=>awF (fw (bs s)) e/\w=i:=by
 unfold maxLen at j;have a:fw (bs s)=bs s++List.replicate (cj s.size-s.size) 46:=by unfold fw;rw[aM]
 replace a:=ab a;have p:=(mJ (n:=s.size)).1;go_enter yK,ntmps75;go_wp2;refine(aiH s.size w).mono ?_;rintro e m ⟨rfl,rfl⟩;go_wp2
 go_loop [0] (λv=>∃(t:ByteArray) (k:Nat),v=.string t/\bs t=bs s++List.replicate k 46/\k<=cj s.size-s.size) (λv=>cj s.size-(match v with|.string t=>t.size|_=>0))
 case atStart=>exact⟨s,0,rfl,by simp,fa _⟩
 case round=>
  obtain⟨t,k,rfl,c,o⟩:=hrel;have l:t.size=s.size+k:=by rw[<-aM,c,ap,qs,aM]
  replace c:=ab c;by_cases f:t.size<cj s.size
  .have g:=db (show(t.size:Int)<(cj s.size:Int) by omega);have d:bs (t++⟨#[46]⟩)=bs s++List.replicate (k+1) 46:=by
    rw[ik,c.out,tn,we];rfl
   replace d:=ab d;go_wp2
   go_round
   case rel=>exact⟨_,k+1,rfl,d.out,by omega⟩
   case measure=> 
    have:(t++(⟨#[46]⟩:ByteArray)).size=t.size+1:=by rw[<-aM,ik,ap,aM];rfl
    simp only[this];omega
  .have g:=bv (show ¬((t.size:Int)<(cj s.size:Int)) by omega);have b:k=cj s.size-s.size:=by omega
   replace b:=ab b;go_wp2;go_ret;exact⟨⟨t,rfl,by rw[c.out,a.out,b.out]⟩,rfl⟩
open Classical in
noncomputable def aeC(l:List Nat):List Nat:=if aU l then fw l else[]
def agk(s:ByteArray)(f:s.size<=maxLen)(w:World) :
  Calls (ah β) 78 #[.string s] w λe i=>awF (aeC (bs s)) e/\w=i:=by
 go_enter yI,ntmps78;by_cases a:aU (bs s)
 .have c:aeC (bs s)=fw (bs s):=by unfold aeC;rw[dl a]
  have b:=ab c;replace a:=ab a;go_wp2;refine(ada s f w true (by simp only[uB];exact a.out)).mono ?_;rintro e g ⟨rfl,rfl⟩;go_wp2;refine(agj s f w).mono ?_;rintro e g ⟨⟨t,rfl,d⟩,rfl⟩;replace d:=ab d;go_wp2;go_ret;exact⟨⟨t,rfl,by rw[d.out,b.out]⟩,rfl⟩
 .have c:aeC (bs s)=[]:=by unfold aeC;rw[be a]
  have b:=ab c;replace a:=ab a;go_wp2;refine(ada s f w false (by simp only[kw,false_iff];exact a.out)).mono ?_;rintro e g ⟨rfl,rfl⟩;go_wp2;go_ret;exact⟨⟨_,rfl,by rw[b.out];rfl⟩,rfl⟩
def aB5(l:List Nat)(e:Ending):Prop:=∃(t:ByteArray) (b:Bool),e=.returned (.tuple #[.string t,.bool b])/\((b=true/\dF l=some (bs t))\/(b=false/\dF l=none/\bs t=[]))
def uK{s:ByteArray}(a:k<=s.size):(s.extract 0 k).size=k:=by
 rw[<-aM,cF,qX,fb,aM];omega
def aiJ(s:ByteArray)(C:s.size<=maxLen)(w:World) :
  Calls (ah β) 55 #[.string s] w λe F=>aB5 (bs s) e/\w=F:=by
 have HS:=C;unfold maxLen at C;go_enter yY,ntmps55;go_wp2
 go_loop [4] (λn=>∃k:Nat,k<=s.size/\n=.int .i64 k/\cX (bs s) s.size=cX (bs s) k) (λn=>(intOf n).toNat)
 case atStart=>exact⟨s.size,am _,rfl,rfl⟩
 case round=>
  obtain⟨k,B,rfl,f⟩:=hrel;replace f:=ab f;rcases oS k with z|z
  .subst z;have g:tD (bs s)=[]:=by unfold tD;rw[aM,f.out];rfl
   have a:dF (bs s)=none:=by
    unfold dF;rw[g,be];intro h;have:=h.1.1.1;simp at this
   have i:=ab a;by_cases H:8<s.size
   .have v:=db (show 8<(s.size:Int) by omega);go_wp2;go_ret2;exact⟨⟨_,_,rfl,.inr ⟨rfl,i.out,rfl⟩⟩,rfl⟩
   .have v:=bv (show ¬(8<(s.size:Int)) by omega);go_wp2;have r:(ByteArray.empty).size<=maxLen:=by unfold maxLen;show 0<=_;omega
    refine(agk ByteArray.empty r w).mono ?_;rintro e E ⟨⟨t,rfl,q⟩,rfl⟩;by_cases c:t=s
    .subst c;go_wp2;go_ret2;exact⟨⟨_,_,rfl,.inr ⟨rfl,i.out,rfl⟩⟩,rfl⟩
    .have y:=acE c;go_wp2;go_ret2;exact⟨⟨_,_,rfl,.inr ⟨rfl,i.out,rfl⟩⟩,rfl⟩
  .obtain⟨j,rfl⟩:∃j,k=j+1:=⟨k-1,by omega⟩;have K:((j+1:Nat):Int)-1=(j:Int):=by omega
   have o:j<s.size:=by omega
   have A:=pd o;by_cases m:(s[j]'o).toNat=46
   .have v:(((s[j]'o).toNat:Int) ==46)=true:=mp.2 (by omega);have x:cX (bs s) s.size=cX (bs s) j:=by
     rw[f.out];show(if(bs s)[j]?=some 46 then cX (bs s) j else j+1)=_;rw[dl (by rw[A,m])]
    replace x:=ab x;go_wp2
    go_round
    case rel=>exact⟨j,by omega,rfl,x.out⟩
    simp[intOf]
   .have v:(((s[j]'o).toNat:Int) ==46)=false:=dq.2 (by omega);have p:cX (bs s) (j+1)=j+1:=by
     show(if(bs s)[j]?=some 46 then cX (bs s) j else j+1)=_;rw[be (by rw[A];intro h;exact m (ef h))]
    have g:bs (s.extract 0 (j+1))=tD (bs s):=by
     rw[cF,qX];unfold tD;rw[aM,f.out,p]
    have l:=ab g;have G:=uK B;by_cases H:8<s.size
    .have y:=db (show 8<(s.size:Int) by omega);have a:dF (bs s)=none:=by
      unfold dF;rw[be];intro h;have d:=aeA h.1;rw[h.2,aM] at d;have:=(mJ (n:=(tD (bs s)).length)).1;omega
     have i:=ab a;go_wp2;go_ret2;exact⟨⟨_,_,rfl,.inr ⟨rfl,i.out,rfl⟩⟩,rfl⟩
    .have y:=bv (show ¬(8<(s.size:Int)) by omega);go_wp2;refine(agk (s.extract 0 (j+1)) (bd (mt G) (bd B HS)) w).mono ?_;rintro e E ⟨⟨t,rfl,q⟩,rfl⟩;rw[l.out] at q;have D:=ab q;by_cases c:t=s
     .have b:dF (bs s)=some (bs (s.extract 0 (j+1))):=by
       have d:=D.out;rw[c] at d;unfold aeC at d;by_cases u:aU (tD (bs s))
       .rw[dl u] at d;unfold dF;rw[dl ⟨u,d.symm⟩,l.out]
       .rw[be u] at d;have J:s.size=0:=by rw[<-aM,d];rfl
        omega
      replace b:=ab b;subst c;go_wp2;go_ret2;exact⟨⟨_,_,rfl,.inl ⟨rfl,b.out⟩⟩,rfl⟩
     .have a:dF (bs s)=none:=by
       unfold dF;rw[be];intro h;have d:=D.out;unfold aeC at d;rw[dl h.1,h.2] at d;exact c (kL d)
      have i:=ab a;have I:=acE c;go_wp2;go_ret2;exact⟨⟨_,_,rfl,.inr ⟨rfl,i.out,rfl⟩⟩,rfl⟩
end
section
variable {β:Bool}
open Go.RowKit
def adT(x:Int)(w:World)(b:Bool)(a:b=true↔1<=x/\x<=99):Calls (ah β) 17 #[.int .i64 x] w λe c=>e=.returned (.bool b)/\w=c:=by
 replace a:=ab a;by_cases h:1<=x
 .go_enter xE,ntmps17;go_wp2;go_ret;exact⟨aC (by rw[qj,a.out];simp[h]),rfl⟩
 .go_enter xE,ntmps17;go_wp2;go_ret;exact⟨aC (by rw[qj,a.out];simp[h];omega),rfl⟩
def agl(s:ByteArray)(n:s.size<=maxLen)(w:World) :
  Calls (ah β) 84 #[.string s] w λe m=>e=.returned (.bool ((bs s).all oJ))/\w=m:=by
 unfold maxLen at n;go_enter yF,ntmps84;go_wp2
 go_loop [6] (λi=>∃k:Nat,k<=s.size/\i=.int .i64 k/\((bs s).take k).all oJ=true) (λi=>s.size-(intOf i).toNat)
 case atStart=>exact⟨0,fa _,rfl,rfl⟩
 case round=>
  obtain⟨k,p,rfl,f⟩:=hrel;replace f:=ab f;by_cases b:k<s.size
  .have c:=pd b;replace c:=ab c;by_cases q:(s[k]'b).toNat<97
   .have l:=db (show((s[k]'b).toNat:Int)<97 by omega);have a:(bs s).all oJ=false:=by
     rw[uo];exact⟨_,da c.out,by unfold oJ;simp;omega⟩
    have d:=ab a;clear a;go_wp2;go_ret;exact⟨aC d.out.symm,rfl⟩
   .have l:=bv (show ¬(((s[k]'b).toNat:Int)<97) by omega);by_cases o:122<(s[k]'b).toNat
    .have j:=db (show 122<((s[k]'b).toNat:Int) by omega);have a:(bs s).all oJ=false:=by
      rw[uo];exact⟨_,da c.out,by unfold oJ;simp;omega⟩
     have d:=ab a;clear a;go_wp2;go_ret;exact⟨aC d.out.symm,rfl⟩
    .have j:=bv (show ¬(122<((s[k]'b).toNat:Int)) by omega);have g:((bs s).take (k+1)).all oJ=true:=by
      rw[mx c.out,tf,f.out];simp[oJ];omega
     replace g:=ab g;go_wp2
     go_round
     case rel=>exact⟨k+1,by omega,by go_num,g.out⟩
     simp[intOf];omega
  .obtain rfl:k=s.size:=by omega
   have a:(bs s).all oJ=true:=by
    have:=f.out
    rwa [qe (by rw[aM];exact am _)] at this
   have d:=ab a;clear a;go_wp2;go_ret;exact⟨aC d.out.symm,rfl⟩
def pT(s:ByteArray)(j:s.size<=maxLen)(w:World)(b:Bool)(g:b=true↔aU (bs s)) :
  Calls (ah β) 58 #[.string s] w λe l=>e=.returned (.bool b)/\w=l:=by
 replace g:=ab g;have HS:=j;unfold maxLen at j;have a:b=(decide (1<=(s.size:Int))&&decide ((s.size:Int)<=8)&&(bs s).all oJ):=by
  rw[qj,g.out];unfold aU;rw[aM];simp only[fd,qH];exact⟨λ⟨⟨k,i⟩,f⟩=>⟨⟨by omega,by omega⟩,f⟩,λ⟨⟨k,i⟩,f⟩=>⟨⟨by omega,by omega⟩,f⟩⟩
 replace a:=ab a;by_cases k:1<=s.size
 .have c:=db (show 1<=(s.size:Int) by omega);by_cases i:s.size<=8
  .have d:=db (show(s.size:Int)<=8 by omega);go_enter xg,ntmps58;go_wp2;refine(agl s HS w).mono ?_;rintro e m ⟨rfl,rfl⟩;go_wp2;go_ret;exact⟨aC (by rw[a.out,c,d];simp),rfl⟩
  .have d:=bv (show ¬((s.size:Int)<=8) by omega);go_enter xg,ntmps58;go_wp2;go_ret;exact⟨aC (by rw[a.out,c,d];simp),rfl⟩
 .have c:=bv (show ¬(1<=(s.size:Int)) by omega);go_enter xg,ntmps58;go_wp2;go_ret;exact⟨aC (by rw[a.out,c];simp),rfl⟩
end
section
variable {β:Bool}
open Go.RowKit
def akZ{s:ByteArray}(h:k<s.size):code ((bs s).take (k+1))=27*code ((bs s).take k)+((s[k]'h).toNat-97)+1:=agi (pd h)
def aiK(h:aU l)(k:Nat):code (l.take k)<282429536481:=by
 rcases oS k with a|a
 .subst a;simp[code,dZ]
 .refine abI ⟨⟨?_, ?_⟩, ?_⟩
  .rw[fb];have:=h.1.1;omega
  .rw[fb];have:=h.1.2;omega
  .rw[jn];exact λx b=>jn.1 h.2 x (pu b)
def auq(key:Int)(s:ByteArray)(r:1<=key/\key<=99)(b:aU (bs s))(w:World) :
  Calls (ah β) 60 #[.int .i64 key,.string s] w λe q=>e=.returned (.tuple #[.int .i64 (bA key (bs s)),.nilIface])/\w=q:=by
 have u:1<=s.size/\s.size<=8:=by have:=b.1;rw[aM] at this;exact this
 have j:s.size<=maxLen:=by unfold maxLen;omega
 have n:=abI b;replace b:=ab b;replace j:=ab j;have l:bA key (bs s)=((code (bs s):Int)*(2*key+1)+7919*key) % 999999999989:=by unfold bA;rw[Int.mul_comm key 7919]
 have g:=ab l;clear l;go_enter yV,ntmps60;go_wp2;refine(adT key w true (by simp;exact r)).mono ?_;rintro e o ⟨rfl,rfl⟩;go_wp2;refine(pT s j.out w true (by simp only[uB];exact b.out)).mono ?_;rintro e o ⟨rfl,rfl⟩;go_wp2
 go_loop [6,20] (λc i=>∃k:Nat,k<=s.size/\i=.int .i64 k/\c=.int .i64 (code ((bs s).take k))) (λ_ i=>s.size-(intOf i).toNat)
 case atStart=>exact⟨0,fa _,rfl,rfl⟩
 case round=>
  obtain⟨k,p,rfl,rfl⟩:=hrel;by_cases a:k<s.size
  .have d:=akZ a;have v:=aiK b.out k;have t:=aiK b.out (k+1);have A:97<=(s[k]'a).toNat/\(s[k]'a).toNat<=122:=by
    have:=jn.1 b.out.2 _ (da (pd a));unfold oJ at this;simpa using this
   replace d:=ab d;generalize f:code ((bs s).take k)=cd at *;replace f:=ab f;go_wp2
   go_round
   case rel=>exact⟨k+1,by omega,by go_num,by rw[d.out];congr 1;omega⟩
   simp[intOf];omega
  .obtain rfl:k=s.size:=by omega
   have m:(bs s).take s.size=bs s:=qe (by rw[aM];exact am _);rw[m];clear m;revert g;revert n;generalize code (bs s)=c;intro n g;have y:0<=(c:Int)*(2*key+1)/\(c:Int)*(2*key+1)<=282429536481*199:=by
    constructor
    .exact Int.mul_nonneg (by omega) (by omega)
    .exact Int.mul_le_mul (by omega) (by omega) (by omega) (by omega)
   have C:wrap64 (2*key)=2*key:=by unfold wrap64;omega
   have x:wrap64 (2*key+1)=2*key+1:=by unfold wrap64;omega
   have D:wrap64 ((c:Int)*(2*key+1))=(c:Int)*(2*key+1):=by unfold wrap64;omega
   have z:wrap64 (7919*key)=7919*key:=by unfold wrap64;omega
   have B:wrap64 ((c:Int)*(2*key+1)+7919*key)=(c:Int)*(2*key+1)+7919*key:=by unfold wrap64;omega
   have E:((c:Int)*(2*key+1)+7919*key).tmod 999999999989=((c:Int)*(2*key+1)+7919*key) % 999999999989:=vf (by omega);go_wp2;go_ret2;exact⟨by rw[g.out];rfl,rfl⟩
def arf(key:Int)(s:ByteArray)(nm:Int)(c:1<=key/\key<=99)(b:aU (bs s))(w:World) :
  Calls (ah β) 36 #[.int .i64 key,.string s,.int .i64 nm] w λe d=>e=.returned (.bool (decide (bA key (bs s)=nm)))/\w=d:=by
 replace b:=ab b;go_enter zn,ntmps36;go_wp2;refine(auq key s c b.out w).mono ?_;rintro e f ⟨rfl,rfl⟩;obtain⟨y,a⟩:∃y,y=bA key (bs s):=⟨_,rfl⟩;rw[<-a];replace a:=ab a;by_cases h:y=nm
 .subst h;go_wp2;go_ret;exact⟨aC (by rw[<-a.out];simp),rfl⟩
 .have g:(y ==nm)=false:=dq.2 h;go_wp2;go_ret;exact⟨aC (by rw[<-a.out];simp[h]),rfl⟩
end
section
variable {β:Bool}
open Go.RowKit
def aoV(n:Nat)(m:1<=n/\n<=8)(w:World) :
  Calls (ah β) 86 #[.int .i64 n] w λe f=>e=.returned (.int .i64 (cj n))/\w=f:=by
 have i:((1<=n/\n<=2)/\cj n=2)\/((3<=n/\n<=4)/\cj n=4)\/((5<=n/\n<=8)/\cj n=8):=by
  unfold cj;split<;>(try split)<;>(try split)<;>omega
 obtain⟨a,b⟩:∃a,a=cj n:=⟨_,rfl⟩;rw[<-b] at i ⊢;replace b:=ab b;have l:=bv (show ¬((n:Int)<1) by omega);have j:=bv (show ¬(8<(n:Int)) by omega);go_enter yE,ntmps86;go_wp2
 go_loop [3] (λv=>∃k:Nat,v=.int .i64 k/\(k=2\/k=4\/k=8)/\k<=a) (λv=>8-(intOf v).toNat)
 case atStart=>exact⟨2,rfl,.inl rfl,by omega⟩
 case round=>
  obtain⟨k,rfl,o,g⟩:=hrel;by_cases d:k<n
  .have c:=db (show(k:Int)<(n:Int) by omega);go_wp2
   go_round
   case rel=>exact⟨k*2,by go_num,by omega,by omega⟩
   simp[intOf];omega
  .have c:=bv (show ¬((k:Int)<(n:Int)) by omega);obtain rfl:k=a:=by omega
   go_wp2;go_ret;exact⟨rfl,rfl⟩
def ak0(s:ByteArray)(r:s.size<=maxLen)(w:World) :
  Calls (ah β) 80 #[.string s,.int .u8 46] w λe q=>e=.returned (.string (s.extract 0 (cX (bs s) s.size)))/\w=q:=by
 unfold maxLen at r;go_enter yG,ntmps80;go_wp2
 go_loop [0] (λv=>∃(t:ByteArray) (k:Nat),v=.string t/\k<=s.size/\t=s.extract 0 k/\cX (bs s) s.size=cX (bs s) k) (λv=>match v with|.string t=>t.size|_=>0)
 case atStart=>exact⟨s,s.size,rfl,am _,by rw[ByteArray.extract_zero_size],rfl⟩
 case round=>
  obtain⟨t,k,rfl,x,c,a⟩:=hrel;have u:t.size=k:=by rw[c,uK x]
  replace c:=ab c;replace a:=ab a;rcases oS k with n|n
  .have p:=bv (show ¬(0<(t.size:Int)) by omega);go_wp2;go_ret;exact⟨by rw[a.out,c.out,n];rfl,rfl⟩
  .obtain⟨j,rfl⟩:∃j,k=j+1:=⟨k-1,by omega⟩;have p:=db (show 0<(t.size:Int) by omega);have z:((j+1:Nat):Int)-1=(j:Int):=by omega
   have f:j<t.size:=by omega
   have g:(bs s)[j]?=some (t[j]'f).toNat:=by
    rw[<-pd f,c.out,cF,qX,sV (by omega)]
   replace g:=ab g;by_cases d:(t[j]'f).toNat=46
   .have o:(((t[j]'f).toNat:Int) ==46)=true:=mp.2 (by omega);have i:cX (bs s) s.size=cX (bs s) j:=by
     rw[a.out];show(if(bs s)[j]?=some 46 then cX (bs s) j else j+1)=_;rw[dl (by rw[g.out,d])]
    replace i:=ab i;have l:t.extract 0 j=s.extract 0 j:=by
     apply kL;rw[cF,cF,c.out,cF,qX,qX,qX,vT]
     congr 1;omega
    have y:(t.extract 0 j).size=j:=uK (by omega);replace l:=ab l;go_wp2
    go_round
    case rel=>exact⟨_,j,rfl,by omega,l.out,i.out⟩
    case measure=>
     show(t.extract 0 j).size<t.size;omega
   .have o:(((t[j]'f).toNat:Int) ==46)=false:=dq.2 (by omega);have b:cX (bs s) (j+1)=j+1:=by
     show(if(bs s)[j]?=some 46 then cX (bs s) j else j+1)=_;rw[be (by rw[g.out];intro h;exact d (ef h))]
    replace b:=ab b;go_wp2;go_ret;have m:t=s.extract 0 (cX (bs s) s.size):=by rw[a.out,b.out];exact c.out
    exact⟨by rw[<-m];rfl,rfl⟩
def aiL(s:ByteArray)(b:s.size<=maxLen)(w:World) :
  Calls (ah β) 57 #[.string s,.string ⟨#[46]⟩] w λe c=>e=.returned (.string (s.extract 0 (cX (bs s) s.size)))/\w=c:=by
 by_cases d:s.size=0
 .have a:s=ByteArray.empty:=kL (by
   have:(bs s).length=0:=by rw[aM];exact d
   rw[rZ this];rfl)
  subst a;go_enter xy,ntmps57;go_wp2;go_ret;exact⟨rfl,rfl⟩
 .have g:s.toList.isEmpty=false:=by
   rw[Bool.eq_false_iff];intro h;rw[List.isEmpty_iff,qN] at h;apply d;have:s.data=#[]:=uG.1 h;show s.data.size=0;rw[this];rfl
  have f:¬(128:Int)<=(((⟨#[46]⟩:ByteArray)[0]'Nat.zero_lt_one).toNat:Int):=by decide
  replace b:=ab b;go_enter xy,ntmps57;go_wp2_with(go_at_call 80;refine(ak0 s b.out w).mono ?_;rintro e c ⟨rfl,rfl⟩);go_ret;exact⟨rfl,rfl⟩
end
end Go.Proofs.YtpbbcfocomejmaaGreatDoor