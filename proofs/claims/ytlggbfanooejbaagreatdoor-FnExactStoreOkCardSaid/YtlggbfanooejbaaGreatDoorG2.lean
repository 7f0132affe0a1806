/- A part. -/
import Derived.Test.YtlggbfanooejbaaGreatDoorG1
import Derived.KernelRfl
import Derived.Test.YtlggbfanooejbaaGreatDoorRows
import Derived.ProofKit
import Derived.OpenShut
import Derived.Handy
import Derived.BigQuiet
import Derived.Deep.QuietTactic
import Derived.Outline
import Derived.Deep.Draws
import Derived.Lib.Hide
import Derived.HandedShaped
import Derived.Carry
import Derived.Deep.Slices
import Derived.Deep.Fields
import Derived.Maps.AppendAt
import Derived.Deep.OwnRows
set_option maxRecDepth 100000
set_option maxHeartbeats 8000000
set_option linter.all false
open Go Go.RowKit Go.Proofs.Tryz Go.Proofs.YtlggbfanooejbaaGreatDoor
variable {Y V J B c k m n:Nat} {ρ:Ren} {W:Type} {fn:Func} {o:Oper} {R fr:Frame} {K w w':World} {v:Value} {f:FuncId} {P:Program} {i:TypeInfo} {H todo:List Item} {g g':Goroutine} {rest:List Oper} {U cs l l':List Frame} {S news:List Value} {N:Array Oper} {M r:Option Nat} {Z a t:Array Value} {O es:Array Event} {A:Option Addr} {I:List Deferred} {e e':Operand→Value} {s':List Frame→GStep} {Q:Exit→Act→World→Prop} {L:TypeId→Option TypeInfo} {s:List Frame→World→GStep} {x:W} {xs:List W}
namespace Go.Proofs.YtlggbfanooejbaaGreatDoor
def da:=@List.mem_of_getElem?
def fi:=@Array.getD_eq_getD_getElem?
def ga:=@Option.map_eq_some_iff
def io:=@List.getElem?_eq_getElem
def ip:=@List.all_eq_true
def li:=@Go.run_underlying
def lw:=@List.mem_cons
def me:=@Option.bind_eq_some_iff
def mp:=@List.length_cons
def mu:=@Nat.eq_zero_or_pos
def mx:=@Nat.lt_or_ge
def oi:=@Array.getElem?_setIfInBounds_self_of_lt
def pb:=@Nat.zero_add
def ph:=@List.mem_range
def pu:=@Bool.false_ne_true
def pF:=@Array.getElem?_eq_none
def pK:=@List.getElem?_append_right
def pO:=@Go.World.cell?_of_block
def pP:=@Option.getD_some
def pS:=@Array.mem_of_getElem?
def pU:=@Option.map_some
def pV:=@List.getElem?_append_left
def pW:=@Classical.byContradiction
def qc:=@Go.Stepped.next.injEq
def qh:=@Go.Sem.run_bind'
def qk:=@List.mem_iff_getElem?
def qm:=@List.getElem?_map
def qn:=@and_true
def qo:=@List.map_cons
def qq:=@List.mem_cons_of_mem
def qs:=@Bool.or_eq_true
def qu:=@List.cons_append
def qy:=@List.cons.injEq
def qz:=@List.mem_cons_self
def qA:=@List.getElem?_take
def qM:=@List.getElem?_eq_none
def qO:=@Option.isSome_iff_exists
def qX:=@List.nil_append
def rb:=@Array.getElem?_append_left
def ru:=@Array.mem_toList_iff
def rE:=@Go.RowKit.Below.heap_alloc
def rI:=@Nat.add_zero
def sE:=@List.all_append
def sJ:=@List.eq_nil_of_length_eq_zero
def sK:=@Go.Value.slice.injEq
def sN:=@dif_pos
def sV:=@Nat.mul_one
def tf:=@Go.Sem.run_bind
def tK:=@Nat.add_assoc
def tM:=@Bool.false_or
def tX:=@Go.Sem.run_pure
def um:=@Bool.or_false
def un:=@Bool.not_true
def ur:=@Go.Result.andThen_ok
def uK:=@List.range_succ
section
inductive fX (ρ:Ren):Next->Next->Prop
 |value {v v':Value} (h:VR ρ v v'):fX ρ (.value v) (.value v')
 |skip:fX ρ .skip .skip
 |enter (f:FuncId) {a a':Array Value} (h:cM ρ a a'):fX ρ (.enter f a) (.enter f a')
 |round {l l':Nat} (h:ρ.r l l') (f:FuncId) {t t':Array Value} (ht:cM ρ t t') (c d:Code):fX ρ (.round l f t (gP c) (gP d)) (.round l' f t' c d)
def af6(ρ:Ren):∀(d:Nat) (v:Value),lZ gA d v=true->VR ρ v v
 |0,v,h=>by cases h
 |d+1,v,h=>by
  have e:∀l:List Value,l.all (lZ gA d)=true->bG ρ l l:=λl g=>bG.jf λv i=>af6 ρ d v (ip.1 g v i);cases v with
  |bool b=>exact .bool b
  |int k n=>exact .int k n
  |string s=>exact .string s
  |nilFunc=>exact .nilFunc
  |nilIface=>exact .nilIface
  |pointer a=>cases a with
   |none=>exact .pointer .none
   |some a=>cases h
  |slice a n c=>cases a with
   |none=>exact .slice .none n c
   |some a=>cases h
  |map a=>cases a with
   |none=>exact .map .none
   |some a=>cases h
  |chan a=>cases a with
   |none=>exact .chan .none
   |some a=>cases h
  |func f a c=>
   unfold lZ at h;simp only[eg] at h;exact .func (.same f h.1.1) (e _ h.1.2) (e _ h.2)
  |iface t v=>exact .iface t (af6 ρ d v h)
  |agg c=>exact .agg (e _ h)
  |tuple c=>exact .tuple (e _ h)
  |float|complex=>cases h
def acN(ρ:Ren)(e e':Operand->Value):Prop:=∀x,bD gA gL x=true->VR ρ (e x) (e' x)
def acN.maps(h:acN ρ e e'):∀{l:List Operand},l.all (bD gA gL)=true->bG ρ (l.map e) (l.map e')
 |[],_=>.nil
 |x::l,hl=>by
  simp only[pM,eg] at hl;exact .cons (h x hl.1) (h.maps hl.2)
def acN.map(h:acN ρ e e'){l:Array Operand}(a:l.toList.all (bD gA gL)=true):cM ρ (l.map e) (l.map e'):=by
 unfold cM;rw[pZ,pZ];exact h.maps a
def acN.opt(h:acN ρ e e'){l:Option Operand}(a:∀x,l=some x->bD gA gL x=true):OVR ρ (l.map e) (l.map e'):=by
 cases l with
 |none=>exact .none
 |some x=>exact .some (h x (a x rfl))
def acN.parts(h:acN ρ e e'):∀{l:List (Nat×Operand)},(l.map (·.2)).all (bD gA gL)=true->PRs ρ (l.map λ(i,x)=>(i,e x)) (l.map λ(i,x)=>(i,e' x))
 |[],_=>.nil
 |(i,x)::l,hl=>by
  simp only[qo,pM,eg] at hl;exact .cons i (h x hl.1) (h.parts hl.2)
section
variable {P P':Program} {ρ:Ren}
def aho(P P':Program):Prop:=∀(f:FuncId) (c:Func),P.funcs[f]?=some c->c.body=none->gA f=true->∀(ρ:Ren) (a b:Array Value),cM ρ a b->aw P P' fX ρ (callFunc f a) (callFunc f b)
def bz{s s':Sem Value}(h:aw P P' VR ρ s s'):aw P P' fX ρ (do pure (.value (<-s))) (do pure (.value (<-s'))):=ag h λ_ _ _ _ a=>ai (.value a)
def af7{s s':Sem Unit}(h:aw P P' ig ρ s s'):aw P P' fX ρ (do s;pure .skip) (do s';pure .skip):=ag h λ_ _ _ _ _=>ai .skip
variable (T:Twin P P') (X:aho P P')
include T X
theorem ajp(f:FuncId)(l:gA f=true)(h:cM ρ a Z):aw P P' fX ρ (callFunc f a) (callFunc f Z):=by
 cases d:P.funcs[f]? with
 |none=>
  refine .dead ?_ _;unfold callFunc;show Leaves P _ (match P.funcs[f]? with|none=>_|some b=>_);rw[d];trivial
 |some b=>
  cases e:b.body with
  |none=>exact X f b d e l ρ a Z h
  |some c=>
   obtain⟨o,j,i⟩:=T.func f b d;obtain⟨n,g, -⟩:=i.some c e;unfold callFunc;refine ag cN λq p r m k=> ?_;obtain⟨rfl,rfl⟩:=k;rw[d,j];dsimp only;rw[i.name,i.awt,e,g];exact ai (.enter f (bG.mono m h))
omit T X in
theorem bG.aoJ{ρ:Ren}:∀(b:List Tmp) {l c:List Value} {t d:Array Value},bG ρ l c->cM ρ t d->cM ρ ((b.zip l).foldl (λa (x:Tmp×Value)=>a.setIfInBounds x.1 x.2) t) ((b.zip c).foldl (λa (x:Tmp×Value)=>a.setIfInBounds x.1 x.2) d)
 |[],_,_,_,_,_,ht=>ht
 |_::_,_,_,_,_,.nil,ht=>ht
 |p::b,_,_,_,_,.cons hx hl,ht=>bG.aoJ b hl (ht.set p hx)
omit T X in
theorem kU{l l':Nat}(h:ρ.r l l'):aw P P' (λa x m=>OR a (.loop x) (.loop m)) ρ (Instr.getLoop l) (Instr.getLoop l'):=by
 unfold Instr.getLoop;refine ag (dR h) λa o p n b=> ?_;cases b with
 |loop i d e g k f j c=>exact ai (.loop i d e g k f j c)
 |_=>exact .halt _ _
omit T X in
theorem arD{l l':Nat}(h:ρ.r l l')(c:cM ρ a Z):aw P P' fX ρ (Instr.yield l a) (Instr.yield l' Z):=by
 unfold Instr.yield;refine ag (kU h) λn x p b d=> ?_;cases d with
 |loop o m e g j f i k=>
  rw[j,e,f,i,c.size];refine aN (λ_=>.halt _ _) λ_=>ai (.round (b.r h) _ ?_ _ _);rw[<-rK,<-rK,Array.toList_zip,Array.toList_zip];exact bG.aoJ _ (bG.mono b c) g
end
def oY{t:TypeId}(h:acX P t=true):∀k e,P.underlying t=some (.map k e)->∃b,P.underlying k=some (.int b):=λk e a=>by
 unfold acX af1 at h;rw[a] at h;dsimp only at h;split at h
 .exact⟨_,by assumption⟩
 .cases h
section
variable {P P':Program} {ρ:Ren}
variable (T:Twin P P') (X:aho P P')
include T
theorem kg:∀(d:Nat) {ρ:Ren} (t:TypeId) {x j y i:Value},VR ρ x j->VR ρ y i->aw P P' ig ρ (Op.eqGuardIn d t x y) (Op.eqGuardIn d t j i)
 |0,_,_,_,_,_,_,_,_=>.halt _ _
 |d+1,ρ,t,x,j,y,i,g,c=>by
  unfold Op.eqGuardIn;refine ag (aC T t) λM u O C hd=> ?_;obtain⟨rfl,hd⟩:=hd;replace g:=g.mono C;replace c:=c.mono C;cases u with
  |interface N=>cases g<;>cases c<;>first|exact ai rfl|(cases j<;>first|exact ai rfl|exact absurd (by assumption:iH Value.nilIface=true) (by decide)|exact absurd (by assumption:iH (Value.agg _)=true) pu)|(cases i<;>first|exact ai rfl|exact absurd (by assumption:iH Value.nilIface=true) (by decide)|exact absurd (by assumption:iH (Value.agg _)=true) pu)
  |struct L=>cases g with
   |agg g=>cases c with
    |agg c=>
     refine ag (aav (B:=ig) L (rfl:ig M (none,()) (none,())) λm f r l k _ _=> ?_) λm r l k e=> ?_
     .refine aN (λ_=> ?_) λ_=>ai (.yield rfl);refine ag (kC T f.type (bG.mono k g) f.offset) λJ a I w s=> ?_;refine ag (kC T f.type (bG.mono (k.trans w) c) f.offset) λH b F o p=> ?_;refine ag (kg d f.type (s.mono o) p) λD q v _ e=> ?_;obtain rfl:q=v:=e;exact aN (λ_=>ai (.done rfl)) λ_=>ai (.yield rfl)
     .obtain rfl:r=l:=e;obtain⟨_|q,u⟩:=r<;>exact ai rfl
    |eL=>(cases i<;>first|exact ai rfl|exact absurd (by assumption:iH Value.nilIface=true) (by decide)|exact absurd (by assumption:iH (Value.agg _)=true) pu)
    |_=>exact ai rfl
   |_=>cases c<;>first|exact ai rfl|(cases j<;>first|exact ai rfl|exact absurd (by assumption:iH Value.nilIface=true) (by decide)|exact absurd (by assumption:iH (Value.agg _)=true) pu)|(cases i<;>first|exact ai rfl|exact absurd (by assumption:iH Value.nilIface=true) (by decide)|exact absurd (by assumption:iH (Value.agg _)=true) pu)
  |array n e=>cases g with
   |agg g=>cases c with
    |agg c=>
     refine ag (dH T e) λK z G E q=> ?_;obtain rfl:z=G:=q;refine ag (aaw (B:=ig) n (rfl:ig K (none,()) (none,())) λm f r l k _=> ?_) λm r l k e=> ?_
     .have A:=E.trans k;refine ag (kC T e (bG.mono A g) (f*z)) λJ a I w s=> ?_;refine ag (kC T e (bG.mono (A.trans w) c) (f*z)) λH b F o p=> ?_;refine ag (kg d e (s.mono o) p) λD q v _ e=> ?_;obtain rfl:q=v:=e;exact aN (λ_=>ai (.done rfl)) λ_=>ai (.yield rfl)
     .obtain rfl:r=l:=e;obtain⟨_|q,u⟩:=r<;>exact ai rfl
    |eL=>(cases i<;>first|exact ai rfl|exact absurd (by assumption:iH Value.nilIface=true) (by decide)|exact absurd (by assumption:iH (Value.agg _)=true) pu)
    |_=>exact ai rfl
   |_=>cases c<;>first|exact ai rfl|(cases j<;>first|exact ai rfl|exact absurd (by assumption:iH Value.nilIface=true) (by decide)|exact absurd (by assumption:iH (Value.agg _)=true) pu)|(cases i<;>first|exact ai rfl|exact absurd (by assumption:iH Value.nilIface=true) (by decide)|exact absurd (by assumption:iH (Value.agg _)=true) pu)
  |_=>exact ai rfl
theorem amX(op:BinOp)(t:TypeId)(x y:Operand){a b b' : Value}(i:VR ρ a v)(c:VR ρ b b'):aw P P' ig ρ (eqGuard op t x y a b) (eqGuard op t x y v b'):=by
 unfold eqGuard;refine aN (λ_=>ai rfl) λ_=> ?_;have g:=i;have f:=c;cases i with
 |nilIface=>cases c with
  |nilIface=>
   refine aN (λ_=>ai rfl) λ_=> ?_;refine ag (kg T _ t .nilIface .nilIface) λl q d _ e=> ?_;obtain rfl:q=d:=e;exact aN (λ_=>.halt _ _) λ_=>ai rfl
  |eL=>(cases b'<;>first|exact ai rfl|exact absurd (by assumption:iH Value.nilIface=true) (by decide)|exact absurd (by assumption:iH (Value.agg _)=true) pu)
  |_=>exact ai rfl
 |agg i=>cases c with
  |agg c=>
   refine ag cN λl p z k m=> ?_;obtain⟨o,u⟩:=m;refine ag cN λw q d j n=> ?_;obtain⟨r,s⟩:=n;rw[o,u,r,s,T.ajf,T.depth];refine aN (λ_=>ai rfl) λ_=> ?_;refine ag (kg T _ t (g.mono (k.trans j)) (f.mono (k.trans j))) λl q d _ e=> ?_;obtain rfl:q=d:=e;exact aN (λ_=>.halt _ _) λ_=>ai rfl
  |eL=>(cases b'<;>first|exact ai rfl|exact absurd (by assumption:iH Value.nilIface=true) (by decide)|exact absurd (by assumption:iH (Value.agg _)=true) pu)
  |_=>exact ai rfl
 |_=>cases c<;>first|exact ai rfl|(cases v<;>first|exact ai rfl|exact absurd (by assumption:iH Value.nilIface=true) (by decide)|exact absurd (by assumption:iH (Value.agg _)=true) pu)|(cases b'<;>first|exact ai rfl|exact absurd (by assumption:iH Value.nilIface=true) (by decide)|exact absurd (by assumption:iH (Value.agg _)=true) pu)
theorem amY(f dst:TypeId)(a:ajd P f dst=true){x g:Value}(c:VR ρ x g):aw P P' VR ρ (convert f dst x) (convert f dst g):=by
 unfold convert;refine ag (aC T f) λB u A t m=> ?_;obtain⟨rfl,m⟩:=m;refine ag (aC T dst) λo v w p n=> ?_;obtain⟨rfl,n⟩:=n;replace c:=c.mono (t.trans p);unfold ajd at a;rw[m,n] at a;cases v with
 |int k=>
  cases u with
  |int y=>cases c with
   |int=>exact ai (.int _ _)
   |pointer h=>cases h<;>exact .halt _ _
   |slice h=>cases h<;>exact .halt _ _
   |_=>exact .halt _ _
  |_=>cases a
 |string=>
  cases u with
  |slice e=>
   have b:∀{x g:Value},VR o x g->aw P P' VR o (do
     match<-underlying e with
     |.int .u8=>Conv.bytesToString x
     |.int .i32=>Conv.runesToString x
     |_=>stuck "Convert: a slice of what to string?") (do
     match<-underlying e with
     |.int .u8=>Conv.bytesToString g
     |.int .i32=>Conv.runesToString g
     |_=>stuck "Convert: a slice of what to string?"):=λ{x g} c=>by
    refine ag (aC T e) λr z q l i=> ?_;obtain⟨rfl,i⟩:=i;dsimp only at a;rw[i] at a;cases z with
    |int k=>cases k<;>first|exact acL (c.mono l)|exact .halt _ _|cases a
    |_=>exact .halt _ _
   have j:=c;cases c with
   |int=>exact ai (.string _)
   |string s=>exact ai (.string _)
   |pointer h=>cases h<;>exact b j
   |slice h=>cases h<;>exact b j
   |eL=>
    refine .dead (Leaves.bind (adx e) λd _=> ?_) _;cases d with
    |int k=>cases k<;>exact trivial
    |_=>exact trivial
   |_=>exact b j
  |unsafePointer=>cases a
  |_=>cases c with
   |int=>exact ai (.string _)
   |string s=>exact ai (.string _)
   |pointer h=>cases h<;>exact .halt _ _
   |slice h=>cases h<;>exact .halt _ _
   |_=>exact .halt _ _
 |slice e=>
  cases u with
  |string=>cases c with
   |string s=>
    refine ag (aC T e) λr z q l i=> ?_;obtain⟨rfl,i⟩:=i;dsimp only at a;rw[i] at a;cases z with
    |int k=>cases k<;>first|exact acM e s|exact .halt _ _|cases a
    |_=>exact .halt _ _
   |pointer h=>cases h<;>exact .halt _ _
   |slice h=>cases h<;>exact .halt _ _
   |_=>exact .halt _ _
  |_=>cases a
 |_=>cases u<;>cases a
theorem ajq(x:Operand)(dst:Option Tmp)(t:TypeId)(pos:String)(af:Array Edge)(g:Option (Nat×Bool))(o:VR ρ (e x) (e' x)):aw P P' fX ρ (execOp e ⟨dst,.nilCheck x,t,pos,af,g⟩) (execOp e' ⟨dst,.nilCheck x,t,pos,af,g⟩):=by
 unfold execOp;dsimp only;revert o;generalize e x=v;generalize e' x=v';intro o;cases o with
 |pointer h=>cases h with
  |none=>exact .dead (dI _) _
  |some h=>exact ai (.value (.pointer (.some h)))
 |nilIface=>exact .dead (dI _) _
 |nilFunc=>exact .dead (dI _) _
 |@func p y i _ _ _ _ m l=>
  cases i with
  |same _ i=>
   cases p with
   |func p=>exact ai (.value (.func (.same _ i) m l))
   |_=>cases i
  |yield h=>exact ai (.value (.func (.yield h) m l))
 |aal k j=>exact .dead (dI _) _
 |slice m l r=>exact ai (.value (.slice m l r))
 |empty q u w=>exact ai (.value (.empty q u w))
 |map h=>exact ai (.value (.map h))
 |chan h=>exact ai (.value (.chan h))
 |iface t h=>exact ai (.value (.iface t h))
 |agg h=>exact ai (.value (.agg h))
 |tuple h=>exact ai (.value (.tuple h))
 |eL j d=>
  cases v' with
  |pointer a=>cases a with
   |none=>cases d
   |some a=>exact ai (.value (.eL j d))
  |func f a c=>cases f<;>first|(cases d;done)|exact ai (.value (.eL j d))
  |_=>first|(cases d;done)|exact ai (.value (.eL j d))
 |bool b=>exact ai (.value (.bool b))
 |int k n=>exact ai (.value (.int k n))
 |string s=>exact ai (.value (.string s))
theorem amZ(b:Builtin)(ts:Array TypeId)(t:TypeId)(cs:Array Bool)(c:abw P b ts=true)(h:cM ρ a Z):aw P P' fX ρ (builtin b ts t cs a) (builtin b ts t cs Z):=by
 cases b with
 |append=>
  refine bz (aoD T ts t (λu e k d=> ?_) h);unfold abw af1 at c;rw[e] at c;simp[d] at c
 |cap=>exact bz (aww T ts t h)
 |clear=>exact bz (ary T ts t h)
 |copy=>exact bz (auP T ts t h)
 |len=>exact bz (awv T ts t h)
 |max=>exact bz (awx ts t h)
 |min=>exact bz (awy ts t h)
 |unsafeString=>exact bz (adu T ts t h)
 |unsafeSlice=>exact bz (aeI T ts t h)
 |_=>cases c
include X
theorem alC{v' : Value}(a:VR ρ v v'){args args':Array Value}(f:cM ρ args args'):aw P P' fX ρ (do let d<-Deferred.ofValue v args;invoke d.target d.args) (do let d<-Deferred.ofValue v' args';invoke d.target d.args):=by
 unfold Deferred.ofValue;cases a with
 |nilFunc=>
  show aw P P' fX ρ (runtimePanic .nilDeref) _;exact .dead (dI _) _
 |@func b l a _ _ _ _ g i=>
  cases a with
  |same _ a=>
   cases b with
   |func b=>exact ajp T X b a (cM.app (cM.app g f) i)
   |_=>cases a
  |yield h=>exact arD h (cM.app g f)
 |aal k j=>
  refine .dead ?_ _;show iU P (invoke (.fn (.method "") (Array.replicate k .nilIface)) (#[.nilIface]++args));have e:(#[Value.nilIface]++args)[0]?=some .nilIface:=by
   rw[rb (by show 0<1;omega)];rfl
  unfold invoke;simp only[e];show iU P (runtimePanic .nilDeref);exact dI _
 |_=>exact .halt _ _
theorem auV(c:Call)(t:TypeId)(l:acN ρ e e')(i:kx P gA gL (.call c)=true):aw P P' fX ρ (do let d<-resolve e c t;invoke d.target d.args) (do let d<-resolve e' c t;invoke d.target d.args):=by
 unfold kx at i;simp only[eg] at i;obtain⟨g,j⟩:=i;obtain⟨a,args,n⟩:=c;simp only[Op.operands,Call.operands,nq,sE,eg] at g;have k:=l.map g.2;cases a with
 |builtin b=>
  exact amZ T b n t _ j k
 |invoke r m=>cases j
 |value f=>exact alC T X (l f (by simpa using g.1)) k
theorem ayB{o' : Oper}(a:nX gA gL o'.op=true)(c:o={o' with type:=gB})(f:acN ρ e e'):aw P P' fX ρ (execOp e o) (execOp e' o'):=by
 subst c;obtain⟨dst,op,type,d,after,b⟩:=o';dsimp only at a;unfold nX at a;split at a
 .exact bz (aax _ gB type T.arp (f.map a))
 .cases a
theorem aoK(w:kx P gA gL o.op=true)(p:acN ρ e e'):aw P P' fX ρ (execOp e o) (execOp e' o):=by
 obtain⟨dst,op,v,K,after,D⟩:=o;dsimp only at w;have A:=w;unfold kx at w;simp only[eg] at w;obtain⟨j,u⟩:=w;cases op with
 |move x=>exact ai (.value (p x (by simpa[Op.operands] using j)))
 |assign x=>exact ai (.value (p x (by simpa[Op.operands] using j)))
 |pick c a b=>
  simp[Op.operands] at j;refine ag (adh (p c j.1)) λI q L z e=> ?_;obtain rfl:q=L:=e;cases q with
  |true=>exact ai (.value ((p a j.2.1).mono z))
  |false=>exact ai (.value ((p b j.2.2).mono z))
 |alloc t=>exact bz (art T t)
 |box t x=>exact bz (awu t (p x (by simpa[Op.operands] using j)))
 |build t F=>
  refine bz (arx T t ?_);rw[pZ,pZ];exact p.parts (by simpa[Op.operands] using j)
 |buildSlice t n F=>
  refine bz (af4 T t n ?_);rw[pZ,pZ];exact p.parts (by simpa[Op.operands] using j)
 |load t a=>exact bz (aoA T t (p a (by simpa[Op.operands] using j)))
 |store t a x=>
  simp[Op.operands] at j;exact af7 (amM T t (p a j.1) (p x j.2))
 |nilCheck x=>exact ajq T x _ _ _ _ _ (p x (by simpa[Op.operands] using j))
 |binOp op t x y M=>
  simp[Op.operands] at j;refine bz (ag (amX T op t x y (p x j.1) (p y j.2)) λI _ _ z _=>arC T op t ((p x j.1).mono z) ((p y j.2).mono z))
 |unOp op t x=>exact bz (arz op (p x (by simpa[Op.operands] using j)))
 |convert s d x=>exact bz (amY T s d u (p x (by simpa[Op.operands] using j)))
 |makeInterface t x=>exact bz (acI T t (p x (by simpa[Op.operands] using j)))
 |makeFunc f a c=>
  simp only[Op.operands,nq,sE,eg] at j;exact bz (ajh (.same f u) (p.map j.1) (p.map j.2))
 |makeMap t r=>cases r with
  |none=>exact bz (aji t)
  |some x=>cases u
 |makeSlice t l c=>
  simp[Op.operands] at j;exact bz (ahm T t (p l j.1) (p c j.2))
 |slice t x l h m=>
  simp only[Op.operands,nq,sE,eg] at j;obtain⟨⟨⟨C,B⟩,E⟩,G⟩:=j;have op:∀{l:Option Operand},l.toArray.toList.all (bD gA gL)=true->OVR ρ (l.map e) (l.map e'):=λ{l} h=>p.opt λx J=>by subst J;simpa using h
  exact bz (amQ T t (p x (by simpa using C)) (op B) (op E) (op G))
 |fieldAddr t x f=>
  refine bz (amO T t f (λN g i C B E=> ?_) (p x (by simpa[Op.operands] using j)));unfold als at u;simpa[C,B,E] using u
 |field t x f=>exact bz (aru T t (p x (by simpa[Op.operands] using j)) f)
 |indexAddr t x i=>
  simp[Op.operands] at j;exact bz (amP T t (p x j.1) (p i j.2))
 |index t x i=>
  simp[Op.operands] at j;exact bz (arw T t (p x j.1) (p i j.2))
 |lookup t x i H=>
  simp[Op.operands] at j;exact bz (aoF T t (oY u) (p x j.1) (p i j.2) H)
 |mapUpdate t m k x=>
  simp[Op.operands] at j;exact af7 (ab1 T t (oY u) (p m j.1) (p k j.2.1) (p x j.2.2))
 |insert t m k x=>
  simp[Op.operands] at j;exact af7 (ab1 T t (oY u) (p m j.1) (p k j.2.1) (p x j.2.2))
 |range t x=>exact bz (arB T t (p x (by simpa[Op.operands] using j)))
 |next x b=>exact bz (auU (p x (by simpa[Op.operands] using j)) b v)
 |extract x i=>exact bz (amN (p x (by simpa[Op.operands] using j)) i)
 |call c=>exact auV T X c v p A
 |panic x=>exact bz (arA _ _)
 |_=>cases u
end
section
variable (P:Program)
inductive ItR (ρ:Ren):Item->Item->Prop
 |code (c:Code):ItR ρ (.code (gP c)) (.code c)
 |inBlock (id:Nat):ItR ρ (.inBlock id) (.inBlock id)
 |inLoop (c:Code):ItR ρ (.inLoop (gP c)) (.inLoop c)
 |inScope (c:Code):ItR ρ (.inScope (gP c)) (.inScope c)
 |inRegion {ops ops':Array Oper} (h:aox P ops ops') (l:List Nat):ItR ρ (.inRegion ops l) (.inRegion ops' l)
 |inRangeFunc {l l':Nat} (h:ρ.r l l'):ItR ρ (.inRangeFunc l) (.inRangeFunc l')
 |endRangeFunc {l l':Nat} (h:ρ.r l l'):ItR ρ (.endRangeFunc l) (.endRangeFunc l')
 |beginRound:ItR ρ .beginRound .beginRound
inductive iI (ρ:Ren):List Item->List Item->Prop
 |nil:iI ρ [] []
 |cons {x x':Item} {l l':List Item} (h:ItR P ρ x x') (hl:iI ρ l l'):iI ρ (x::l) (x'::l')
end
inductive CDs (ρ:Ren):List Deferred->List Deferred->Prop
 |nil:CDs ρ [] []
 |cons {b b':Nat} {l l':List Deferred} (h:ρ.r b b') (hl:CDs ρ l l'):CDs ρ (⟨.collected b,#[]⟩::l) (⟨.collected b',#[]⟩::l')
structure FrR (P:Program) (ρ:Ren) (fr cf:Frame):Prop where
 fn:fr.fn=cf.fn
 tmps:cM ρ fr.tmps cf.tmps
 todo:iI P ρ fr.todo cf.todo
 defers:CDs ρ fr.defers cf.defers
 mode:(fr.mode=.run/\cf.mode=.run)\/(fr.mode=.returning/\cf.mode=.returning)
 kind:fr.kind=.normal/\cf.kind=.normal
 round:NR ρ fr.roundOf cf.roundOf
inductive gz (P:Program) (ρ:Ren):List Frame->List Frame->Prop
 |one {fr cf:Frame} (h:FrR P ρ fr cf) (h0:fr.roundOf=none):gz P ρ [fr] [cf]
 |cons {fr cf:Frame} {l l':List Frame} (h:FrR P ρ fr cf) (hl:gz P ρ l l'):gz P ρ (fr::l) (cf::l')
section
variable {P:Program} {ρ σ:Ren}
def ItR.mono(h:ρ.Le σ){x a:Item}:ItR P ρ x a->ItR P σ x a
 |.code c=>.code c
 |.inBlock id=>.inBlock id
 |.inLoop c=>.inLoop c
 |.inScope c=>.inScope c
 |.inRegion h l=>.inRegion h l
 |.inRangeFunc x=>.inRangeFunc (h.r x)
 |.endRangeFunc x=>.endRangeFunc (h.r x)
 |.beginRound=>.beginRound
def iI.mono(h:ρ.Le σ):∀{x a:List Item},iI P ρ x a->iI P σ x a
 |_,_,.nil=>.nil
 |_,_,.cons x y=>.cons (x.mono h) (y.mono h)
def CDs.mono(h:ρ.Le σ):∀{x a:List Deferred},CDs ρ x a->CDs σ x a
 |_,_,.nil=>.nil
 |_,_,.cons x y=>.cons (h.r x) (y.mono h)
def FrR.mono(h:ρ.Le σ)(x:FrR P ρ fr R):FrR P σ fr R:=
 ⟨x.fn,bG.mono h x.tmps,x.todo.mono h,x.defers.mono h,x.mode,x.kind,x.round.mono h⟩
def gz.mono(h:ρ.Le σ):∀{x a:List Frame},gz P ρ x a->gz P σ x a
 |_,_,.one x y=>.one (x.mono h) y
 |_,_,.cons x y=>.cons (x.mono h) (y.mono h)
def VR.undef:VR ρ undef undef:=.tuple .nil
def aox.dst{a : Array Oper}(h:aox P N a)(i:Nat):(N[i]?).bind (·.dst)=(a[i]?).bind (·.dst):=by
 obtain⟨f,h⟩:=h;cases e:N[i]? with
 |none=>
  have:a[i]?=none:=by
   rw[pe] at e ⊢;omega
  rw[this]
 |some o=>
  have d:=(db.1 e).1;obtain⟨b,c⟩:∃b,a[i]?=some b:=⟨_,ff (by omega)⟩;rw[c];rcases h i o b e c with⟨rfl,_⟩|⟨_,rfl⟩<;>rfl
def FrR.finish(h:FrR P ρ fr R){v' : Value}(z:VR ρ v v'):FrR P ρ (fr.finish v) (R.finish v'):=by
 obtain⟨f,t,y,d,m,k,r⟩:=fr;obtain⟨E,s,B,D,F,C,A⟩:=R;obtain⟨u,a,w,b,e,g,c⟩:=h;dsimp only at u a w b e g c;subst u;cases w with
 |nil=>exact⟨rfl,a,.nil,b,e,g,c⟩
 |cons x j=>
  cases x with
  |inRegion p l=>
   cases l with
   |nil=>exact⟨rfl,a,.cons (.inRegion p []) j,b,e,g,c⟩
   |cons i o=>
    refine⟨rfl, ?_,.cons (.inRegion p o) j,b,e,g,c⟩;show cM ρ (match _ with|some d=>t.setIfInBounds d v|none=>t) (match _ with|some d=>s.setIfInBounds d v'|none=>s);rw[p.dst i];split
    .exact a.set _ z
    .exact a
  |inRangeFunc q=>exact⟨rfl,a,.cons (.endRangeFunc q) j,b,e,g,c⟩
  |beginRound=>exact⟨rfl,a,j,b,e,g,c⟩
  |code n=>exact⟨rfl,a,.cons (.code n) j,b,e,g,c⟩
  |inBlock id=>exact⟨rfl,a,.cons (.inBlock id) j,b,e,g,c⟩
  |inLoop n=>exact⟨rfl,a,.cons (.inLoop n) j,b,e,g,c⟩
  |inScope n=>exact⟨rfl,a,.cons (.inScope n) j,b,e,g,c⟩
  |endRangeFunc n=>exact⟨rfl,a,.cons (.endRangeFunc n) j,b,e,g,c⟩
def iI.exit(id:Nat):∀{k a:List Item},iI P ρ k a->(exitTo id k=none/\exitTo id a=none)\/∃l c,exitTo id k=some l/\exitTo id a=some c/\iI P ρ l c
 |_,_,.nil=>.inl ⟨rfl,rfl⟩
 |_,_,.cons x y=>by
  have b:=y.exit id;cases x with
  |inBlock i=>
   unfold exitTo;by_cases e:(i ==id)=true
   .rw[dj e,dj e];exact .inr ⟨_,_,rfl,rfl,y⟩
   .rw[bd e,bd e];exact b
  |code|inLoop|inScope|inRegion|inRangeFunc|endRangeFunc|beginRound=>simpa[exitTo] using b
end
def jl(w:World)(ds:List Deferred):Prop:=∀d∈ds,∃b,d=⟨.collected b,#[]⟩/\∀x l,w.heap[b]?≠some (.deferred (some (x::l)))
inductive kV (base:List Frame):GStep->Prop
 |ended (o:Outcome) (w:World) (es:Array Event):kV base (.ended o w es)
 |stop {g:Goroutine} {w:World} {es:Array Event} (h:g.status=.blocked\/g.status=.waiting):kV base (.go g w es)
 |raised {fr:Frame} {cs:List Frame} {w:World} {es:Array Event} {ch:List PanicEntry} (hm:fr.mode=.panicking ch) (hd:∀f∈fr::cs,jl w f.defers):kV base (.go {frame:=fr,callers:=cs++base,status:=.running,dying:=none} w es)
 |dying {fr:Frame} {w:World} {es:Array Event} {d:Dying} {f:Fatal} (hf:d.fatal=some f) (hc:d.calling=false):kV base (.go {frame:=fr,callers:=[],status:=.running,dying:=some d} w es)
def kV.after{base:List Frame}{s:GStep}(es:Array Event)(h:kV base s):kV base (s.after es):=by
 cases h with
 |ended o w e=>exact .ended o w _
 |stop h=>exact .stop h
 |raised a hd=>exact .raised a hd
 |dying b c=>exact .dying b c
def Gl:List Frame->List Frame->Goroutine
 |[],base=>{(default:Goroutine) with callers:=base}
 |fr::cs,base=>⟨fr,cs++base,.running,none,none⟩
def GoR(P P':Program)(ρ:Ren)(l l':List Frame):Prop:=
 gz P ρ l l'\/∃f a b m c,gH f=true/\cM ρ a b/\gz P ρ m c/\l=Frame.enter P f a .normal::m/\l'=Frame.enter P' f b .normal::c
def jT(P P':Program)(ρ:Ren)(w w':World)(s:List Frame->World->GStep)(s':List Frame->GStep):Prop:=
 ∃(a:Tape) (D:Nat),(∀base t,Agr w D a t->kV base (s base (w.tap t)))\/
  ∃c g e i b f d,(∀base t,Agr w D a t->s base (w.tap t)=.go (Gl g base) (e.tap t) i)/\e.drawn=w.drawn+D/\ρ.Le c/\(∀base,s' base=.go (Gl b base) f d)/\WR c e f/\Kept ρ c w w' e f/\EvW w c i d/\GoR P P' c g b
section
variable {P P':Program} {ρ:Ren} {w w':World}
def jT.still(a:WR ρ w w')(h:∀base w,s base w=.go (Gl l base) w #[])(b:∀base,s' base=.go (Gl l' base) w' #[])(c:GoR P P' ρ l l'):jT P P' ρ w w' s s':=
 ⟨w.tape,0,.inr ⟨ρ,l,w,#[],l',w',#[],λ_ t _=>h _ _,rfl,Ren.Le.refl _,b,a,Kept.refl _ _ _,.nil _ _,c⟩⟩
def jT.bad(h:∀base w,kV base (s base w)):jT P P' ρ w w' s s':=⟨w.tape,0,.inl λ_ _ _=>h _ _⟩
def CDs.marks{b : List Deferred}(h:CDs ρ I b)(c:WR ρ w w'){t:Tape}(i:ep (w.tap t) K):jl K I:=by
 induction h with
 |nil=>intro d hd;cases hd
 |cons g m j=>
  intro d hd;rcases lw.1 hd with rfl|hd
  .refine⟨_,rfl,λx l e=> ?_⟩;have:=i _ _ _ e;obtain⟨o,p,k,n,f⟩:=c.obj g;have a:(w.tap t).heap[_]?=some o:=k;rw[this] at a;cases a;cases f
  .exact j d hd
def auW(T:Twin P P')(fn:FuncId)(h:ky ρ es.toList O.toList):ky ρ (seen P fn es).toList (seen P' fn O).toList:=by
 have u:∀f:Nat,(P'.funcs[f]?).any (·.norace)=(P.funcs[f]?).any (·.norace):=λf=>by
  cases o:P.funcs[f]? with
  |none=>
   have:P'.funcs[f]?=none:=by
    rw[pe] at o ⊢;rw[T.ahj];exact o
   rw[this]
  |some fn=>
   obtain⟨C,v,s⟩:=T.func f fn o;rw[v];simp[s.norace]
 unfold seen;dsimp only;rw[<-rK,<-rK];simp only[u];generalize t:(λf:Nat=>(P.funcs[f]?).any (·.norace))=Q;have m:∀f:Nat,(P.funcs[f]?).any (·.norace)=Q f:=λf=>by rw[<-t]
 simp only[m];have n:∀{l p:List Event},ky ρ l p->∀(q:Bool) (k b:Array Event),ky ρ k.toList b.toList->
   ky ρ (l.foldl (λx e=>match e.loc with
    |.mark (.extern f)=>(Q f,x.2)
    |_=>(x.1,if x.1&&!e.sync then x.2 else x.2.push e)) (q,k)).2.toList
   (p.foldl (λx e=>match e.loc with
    |.mark (.extern f)=>(Q f,x.2)
    |_=>(x.1,if x.1&&!e.sync then x.2 else x.2.push e)) (q,b)).2.toList:=by
  intro l p h
  induction h with
  |nil=>intro q k b d;exact d
  |cons r A j=>
   intro q k b d;rw[tZ,tZ];have push:∀e i:Event,EvR ρ e i->ky ρ (if(q&&!e.sync)=true then k else k.push e).toList (if(q&&!i.sync)=true then b else b.push i).toList:=λe i h=>by
    have w:e.sync=i.sync:=by cases h;rfl
    rw[w];split
    .exact d
    .rw[qW,qW];exact d.app (.cons h .nil)
   have a:=r;cases r with
   |mk g wr z=>
    cases g with
    |cell D=>exact j _ _ _ (push _ _ a)
    |obj B=>exact j _ _ _ (push _ _ a)
    |mark y=>
     cases y with
     |extern f=>exact j _ _ _ d
     |_=>exact j _ _ _ (push _ _ a)
 exact n h _ _ _ .nil
def aoL(P:Program)(fn:FuncId)(es:Array Event):∀e∈(seen P fn es).toList,e∈es.toList:=by
 unfold seen;dsimp only;rw[<-rK];have d:∀(l:List Event) (q:Bool) (k:Array Event) (S:List Event),(∀e∈k.toList,e∈S)->(∀e∈l,e∈S)->
   ∀e∈(l.foldl (λx e=>match e.loc with
    |.mark (.extern f)=>((P.funcs[f]?).any (·.norace),x.2)
    |_=>(x.1,if x.1&&!e.sync then x.2 else x.2.push e)) (q,k)).2.toList,e∈S:=by
  intro l
  induction l with
  |nil=>intro q k S c _;exact c
  |cons x l i=>
   intro q k S c g;rw[tZ];have push:∀e∈(if(q&&!x.sync)=true then k else k.push x).toList,e∈S:=by
    split
    .exact c
    .intro e a;rw[qW,jt] at a;rcases a with a|a
     .exact c e a
     .simp at a;subst a;exact g _ (qz ..)
   have b:∀e∈l,e∈S:=λe a=>g e (qq _ a);split
   .exact i _ k S c b
   .exact i _ _ S push b
 exact d es.toList _ _ es.toList (λe a=>by cases a) λe a=>a
def oZ(T:Twin P P')(fn:FuncId)(h:EvW w ρ es O):EvW w ρ (seen P fn es) (seen P' fn O):=
 ⟨auW T fn h.ev,λb c e a=>h.nw b c e (aoL P fn es e a)⟩
end
section
variable {P P':Program} {ρ σ:Ren} {base:List Frame} {w w':World}
def gz.put(g:ρ.Le σ){a b : Frame}(h:gz P ρ (fr::cs) (R::U))(c:FrR P σ a b)(e:a.roundOf=fr.roundOf):gz P σ (a::cs) (b::U):=by
 cases h with
 |one h f=>exact .one c (e.trans f)
 |cons h d=>exact .cons c (d.mono g)
def gz.head(h:gz P ρ (fr::cs) (R::U)):FrR P ρ fr R:=by
 cases h with
 |one h a=>exact h
 |cons h b=>exact h
def gz.marks(h:gz P ρ l l')(b:WR ρ w w'){t:Tape}(c:ep (w.tap t) K):∀f∈l,jl K f.defers:=by
 induction h with
 |one h g=>intro f a;simp at a;subst a;exact h.defers.marks b c
 |cons h e d=>
  intro f a;rcases lw.1 a with rfl|a
  .exact h.defers.marks b c
  .exact d f a
def GoR.of(h:gz P ρ (fr::cs) (R::U)):GoR P P' ρ (fr::cs) (R::U):=.inl h
def FrR.at(h:FrR P ρ fr R)(a:iI P ρ todo H):FrR P ρ {fr with todo} {R with todo:=H}:=
 ⟨h.fn,h.tmps,a,h.defers,h.mode,h.kind,h.round⟩
def pd{c:List PanicEntry}(d:∀f∈fr::cs,jl K f.defers):kV base (.go ⟨fr.raise c,cs++base,.running,none,none⟩ K #[]):=by
 have:∃a,(fr.raise c).mode=.panicking a:=by unfold Frame.raise;split<;>exact⟨_,rfl⟩
 obtain⟨a,e⟩:=this;refine .raised e λf b=> ?_;rcases lw.1 b with rfl|b
 .have:(fr.raise c).defers=fr.defers:=by unfold Frame.raise;split<;>rfl
  rw[this];exact d fr (by simp)
 .exact d f (by simp[b])
variable (T:Twin P P')
include T
theorem am0(g:Nat)(w:World):kV base (early P fr cs none g w):=by
 unfold early;simp only[T.lu.1,T.lu.2];exact .ended _ _ _
theorem af8(m:String)(w:World):kV base (endFatal P fr cs none m w):=by
 unfold endFatal;dsimp only;split
 .exact .dying rfl rfl
 .exact .ended _ _ _
 .exact .ended _ _ _
omit T in
theorem fc(fr:Frame)(v:Value):(fr.finish v).roundOf=fr.roundOf:=by
 unfold Frame.finish;split<;>first|rfl|(split<;>rfl)
theorem ae9(w:String):gP (.refuse w)=.refuse w:=by rw[T.pc];rfl
theorem aaz(w:String):iI P ρ [.code (.refuse w)] [.code (.refuse w)]:=by
 have h:iI P ρ [.code (gP (.refuse w))] [.code (.refuse w)]:=.cons (.code _) .nil;rw[ae9 T] at h;exact h
omit T in
theorem arE{l l':Nat}(a:ρ.r l l')(f:FuncId)(b:cM ρ t Z)(c d:Code):FrR P ρ (Frame.round l f t (gP c) (gP d) .normal) (Frame.round l' f Z c d .normal):=
 ⟨rfl,b,.cons (.code c) (.cons .beginRound (.cons (.code d) .nil)),.nil,.inl ⟨rfl,rfl⟩,⟨rfl,rfl⟩,.some a⟩
theorem af9(r:gH f=false)(q:cM ρ a Z):FrR P ρ (Frame.enter P f a .normal) (Frame.enter P' f Z .normal):=by
 have o:∀n,cM ρ (a++Array.replicate (n-a.size) undef) (Z++Array.replicate (n-Z.size) undef):=λn=>by
  rw[q.size];exact cM.app q (bG.jf λv p=>by simp at p;rw[p.2];exact VR.undef)
 cases b:P.funcs[f]? with
 |none=>
  have l:P'.funcs[f]?=none:=by
   rw[pe] at b ⊢;rw[T.ahj];exact b
  unfold Frame.enter;rw[b,l];exact⟨rfl,o _,aaz T _,.nil,.inl ⟨rfl,rfl⟩,⟨rfl,rfl⟩,.none⟩
 |some d=>
  obtain⟨m,k,j⟩:=T.func f d b;unfold Frame.enter;rw[b,k];refine⟨rfl, ?_, ?_,.nil,.inl ⟨rfl,rfl⟩,⟨rfl,rfl⟩,.none⟩
  .show cM ρ (a++Array.replicate (d.ntmps-a.size) undef) (Z++Array.replicate (m.ntmps-Z.size) undef);rw[j.ntmps];exact o _
  .show iI P ρ [.code (d.body.getD _)] [.code (m.body.getD _)];cases e:d.body with
   |none=>
    obtain rfl:=j.none e;rw[e];exact aaz T _
   |some c=>
    obtain⟨s,i,g⟩:=j.some c e;rw[i,g r];exact .cons (.code _) .nil
theorem aga{s s':Sem Next}(A:gz P ρ (fr::cs) (R::U))(L:WR ρ w w')(hs:aw P P' fX ρ s s') :
  jT P P' ρ w w' (λbase w=>stepG.apply P true fr (cs++base) none s w) (λbase=>stepG.apply P' true R (U++base) none s' w'):=by
 have p:=A.head;have n:(fr.kind ==CallKind.early)=false:=by rw[p.kind.1];rfl
 have k:(R.kind ==CallKind.early)=false:=by rw[p.kind.2];rfl
 have E:(match fr.todo with|.call _ true _ _::_=>CallKind.wrapped|_=>CallKind.normal)=.normal:=by
  have e:=p.todo;revert e;generalize fr.todo=a;generalize R.todo=b;intro e;cases e with
  |nil=>rfl
  |cons x _=>cases x<;>rfl
 have J:(match R.todo with|.call _ true _ _::_=>CallKind.wrapped|_=>CallKind.normal)=.normal:=by
  have e:=p.todo;revert e;generalize fr.todo=a;generalize R.todo=b;intro e;cases e with
  |nil=>rfl
  |cons x _=>cases x<;>rfl
 obtain⟨g,D,H⟩:=hs.run w w' #[] #[] L;rcases H with H|⟨σ,a,j,V,q,G,F,h1,S,y,W,h5,h6,h7,Y⟩
 .refine⟨g,D,.inl λbase t e=> ?_⟩;obtain⟨h,j,gT,hr,hk⟩:=H t e;have Q:=A.marks L hk;unfold stepG.apply;simp only[hr,mw];refine kV.after _ ?_;cases h with
  |panic v=>exact pd Q
  |goexit=>exact pd Q
  |blocked=>exact .stop (.inl rfl)
  |waiting=>exact .stop (.inr rfl)
  |exit c=>exact .ended _ _ _
  |fatal m=>exact af8 T m j
  |throw m=>exact .dying rfl rfl
  |unsupported u=>
   cases u<;>first|exact .ended _ _ _|exact am0 T _ j
  |stuck s=>exact .ended _ _ _
 .refine⟨g,D,.inr ?_⟩;have o:=A.mono y;have he:EvW w σ (seen P fr.fn G) (seen P' R.fn F):=by rw[p.fn];exact oZ T _ Y
  have C:∀t,Agr w D g t->s.runT P (w.tap t) #[]=(.ok a (j.tap t),G):=λt e=>by rw[h1 t e];simp
  have B:s'.runT P' w' #[]=(.ok V q,F):=by rw[W];simp
  have fin:∀r i,(∀base t,Agr w D g t->stepG.apply P true fr (cs++base) none s (w.tap t)=.go (Gl r base) (j.tap t) (seen P fr.fn G))->(∀base,stepG.apply P' true R (U++base) none s' w'=.go (Gl i base) q (seen P' R.fn F))->GoR P P' σ r i->
    ∃σ r j O i q z,(∀base t,Agr w D g t->stepG.apply P true fr (cs++base) none s (w.tap t)=.go (Gl r base) (j.tap t) O)/\j.drawn=w.drawn+D/\ρ.Le σ/\(∀base,stepG.apply P' true R (U++base) none s' w'=.go (Gl i base) q z)/\WR σ j q/\Kept ρ σ w w' j q/\EvW w σ O z/\GoR P P' σ r i:=
   λr i q1 q2 X=>⟨σ,r,j,_,i,q,_,q1,S,y,q2,h6,h7,he,X⟩
  cases h5 with
  |@value v v' hv=>exact fin (fr.finish v::cs) (R.finish v'::U) (λbase t e=>by unfold stepG.apply;simp only[C t e,mw,n];simp[GStep.after,Gl]) (λbase=>by unfold stepG.apply;simp only[B,mw,k];simp[GStep.after,Gl]) (GoR.of (A.put y ((p.mono y).finish hv) (fc _ _)))
  |skip=>exact fin (fr.finish undef::cs) (R.finish undef::U) (λbase t e=>by unfold stepG.apply;simp only[C t e,mw,n];simp[GStep.after,Gl]) (λbase=>by unfold stepG.apply;simp only[B,mw,k];simp[GStep.after,Gl]) (GoR.of (A.put y ((p.mono y).finish VR.undef) (fc _ _)))
  |@enter f a0 K M=>
   refine fin (Frame.enter P f a0 .normal::fr::cs) (Frame.enter P' f K .normal::R::U) (λbase t e=>by unfold stepG.apply;simp only[C t e,mw,n];simp[GStep.after,Gl];exact ef (Frame.enter P f _) E) (λbase=>by unfold stepG.apply;simp only[B,mw,k];simp[GStep.after,Gl];exact ef (Frame.enter P' f _) J) ?_;cases N:gH f with
   |true=>exact .inr ⟨f,_,_,_,_,N,M,o,rfl,rfl⟩
   |false=>exact .inl (.cons (af9 T N M) o)
  |@round l l' Z f tm I e c d=>
   exact fin (Frame.round l f tm (gP c) (gP d) .normal::fr::cs) (Frame.round l' f I c d .normal::R::U) (λbase t e=>by unfold stepG.apply;simp only[C t e,mw,n];simp[GStep.after,Gl]) (λbase=>by unfold stepG.apply;simp only[B,mw,k];simp[GStep.after,Gl])
    (.inl (.cons (arE Z f e c d) o))
end
section
variable {P P':Program} {ρ σ:Ren} {w w':World}
def GlR(ρ:Ren):Prop:=∀g∈gL,ρ.r g g
def GlR.mono(h:ρ.Le σ)(x:GlR ρ):GlR σ:=λg a=>h.r (x g a)
def ajr{l l':Nat}(h:ρ.r l l'){j a:Option Code}(b:j=a.map gP):aw P P' VR ρ (Instr.endRound l j) (Instr.endRound l' a):=by
 unfold Instr.endRound;refine ag (kU h) λσ x q f c=> ?_;have g:j.isNone=a.isNone:=by subst b;cases a<;>rfl
 rw[g];cases c with
 |loop p o e k n i m d=>
  exact ag (gD (f.r h) (.loop rfl b e k n i m d)) λ_ _ _ _ _=>ai (.bool _)
def am1{l l':Nat}(h:ρ.r l l'):aw P P' (λ_ q m=>q=m.map gP) ρ (Instr.endLoop l) (Instr.endLoop l'):=by
 unfold Instr.endLoop;refine ag (kU h) λσ x n e b=> ?_;cases b with
 |loop i a d g k f j c=>
  rw[i];refine aN (λ_=>dc _) λ_=> ?_;exact ag (gD (e.r h) (.loop rfl a d g k f j c)) λ_ _ _ _ _=>ai a
def agb(h:NR ρ r M):aw P P' fX ρ (do r.elim (stuck "beginRound: no round") Instr.beginRound;pure .skip) (do M.elim (stuck "beginRound: no round") Instr.beginRound;pure .skip):=by
 cases h with
 |none=>exact .halt _ _
 |some h=>
  refine af7 ?_;show aw P P' ig ρ (Instr.beginRound _) (Instr.beginRound _);unfold Instr.beginRound;refine ag (kU h) λσ x m e a=> ?_;cases a with
  |loop i c d g k f j b=>
   refine ag (gD (e.r h) (.loop rfl c d g k f j b)) λl _ _ _ _=> ?_;rw[i];split
   .exact ai rfl
   .exact dc _
   .exact dc _
   .exact dc _
def oF(e:Operand->Value)(a:Operand)(l:Nat)(h:∀v,e (.const v)=v):resolve e ⟨.value a,#[.const (.func (.yield l) #[] #[])],#[]⟩ 0=Deferred.ofValue (e a) #[.func (.yield l) #[] #[]]:=by
 unfold resolve;simp[h]
def EnR(ρ:Ren)(x x':Nat×List Deferred):Prop:=ρ.r x.1 x'.1/\CDs ρ x.2 x'.2
def ahp(f:FuncId)(n:cM ρ t Z)(d:Array Tmp)(a b:Code)(h:NR ρ r M):aw P P' EnR ρ (Instr.enterLoop f t d (gP a) (gP b) r) (Instr.enterLoop f Z d a b M):=by
 unfold Instr.enterLoop;have c:∀(σ:Ren) (q e:Nat×List Deferred),ρ.Le σ->EnR σ q e->aw P P' EnR σ (do
   let l<-newObj (.loop ⟨.ready,none,f,t,d,gP a,gP b,q.1⟩)
   pure (l,q.2)) (do
   let l<-newObj (.loop ⟨.ready,none,f,Z,d,a,b,e.1⟩)
   pure (l,e.2)):=λσ q e g k=>by
  refine ag (ae2 (show OR σ (.loop ⟨.ready,none,f,t,d,gP a,gP b,q.1⟩) (.loop ⟨.ready,none,f,Z,d,a,b,e.1⟩) from .loop rfl rfl rfl (bG.mono g n) rfl rfl rfl k.1)) λv y o j u=> ?_;exact ai (A:=EnR) (show EnR v (y,q.2) (o,e.2) from⟨u,k.2.mono j⟩)
 cases h with
 |none=>
  exact ag (ae2 .deferred) λσ x i g m=>c σ (x,[⟨.collected x,#[]⟩]) (i,[⟨.collected i,#[]⟩]) g ⟨m,.cons m .nil⟩
 |some h=>
  refine ag (kU h) λσ x i g p=> ?_;cases p with
  |loop B w E z D F C s=>exact c σ (_,[]) (_,[]) g ⟨s,.nil⟩
def FrR.env(j:GlR ρ)(h:FrR P ρ fr R):acN ρ fr.eval R.eval:=λx a=>by
 cases x with
 |tmp t=>
  show VR ρ (fr.tmps.getD t undef) (R.tmps.getD t undef);have l:=bG.size h.tmps;rw[fi,fi];cases e:fr.tmps[t]? with
  |none=>
   have:R.tmps[t]?=none:=by
    rw[pe] at e ⊢;omega
   rw[this];exact VR.undef
  |some v=>
   obtain⟨k,b,d⟩:=bG.get h.tmps (i:=t) (v:=v) (by rw[dl];exact e);rw[dl] at b;rw[b];exact d
 |const v=>exact af6 ρ 5 v a
 |global g=>exact .pointer (.some (.mk (j g (by simpa[bD] using a)) 0 none))
 |func f=>exact .func (.same (.func f) a) .nil .nil
def GoR.iJ(h:∀base w,∃o a b,s base w=.ended o a b):jT P P' ρ w w' s s':=jT.bad λbase w=>by
 obtain⟨o,a,b,e⟩:=h base w;rw[e];exact .ended _ _ _
variable (T:Twin P P') (X:aho P P')
include T
theorem auX(a b:Code):gP (.seq a b)=.seq (gP a) (gP b):=by rw[T.pc];rfl
theorem aoM(id:Nat)(a:Code):gP (.block id a)=.block id (gP a):=by rw[T.pc];rfl
theorem arF(a:Code):gP (.loop a)=.loop (gP a):=by rw[T.pc];rfl
theorem aoN(a:Code):gP (.scope a)=.scope (gP a):=by rw[T.pc];rfl
theorem arG:gP .skip=.skip:=by rw[T.pc];rfl
theorem aoO:gP .ret=.ret:=by rw[T.pc];rfl
theorem aoP(l:Nat):gP (.label l)=.label l:=by rw[T.pc];rfl
theorem alD(l:Nat):gP (.exit l)=.exit l:=by rw[T.pc];rfl
theorem arH(l:Nat):gP (.goto l)=.refuse "" :=by rw[T.pc];rfl
theorem arI(c:Operand)(a b:Code):gP (.cond c a b)=if bD gA gL c=true then .cond c (gP a) (gP b) else .refuse "" :=by rw[T.pc];rfl
theorem agc(f:Operand)(c:Array Tmp)(a b:Code):gP (.rangeFunc f c a b)=if bD gA gL f=true then .rangeFunc f c (gP a) (gP b) else .refuse "" :=by rw[T.pc];rfl
theorem am2{g:Oper->Oper}(c:∀o,(g o).after=o.after)(mixed:Bool)(a:Array Oper)(t:Nat):Region.schedule mixed (a.map g) t=Region.schedule mixed a t:=by
 have j:∀(m:Region.Mode) (b t:Nat) (l:Array Bool) (acc:List Nat),Region.linearise.go m (a.map g) b t l acc=Region.linearise.go m a b t l acc:=by
  intro m b
  induction b with
  |zero=>intro t l acc;rfl
  |succ n f=>
   intro t l acc;unfold Region.linearise.go;have e:∀i,((a.map g)[i]?).map (λo:Oper=>o.after.all λe=>!Region.binds m e||l.getD e.on false)=(a[i]?).map (λo:Oper=>o.after.all λe=>!Region.binds m e||l.getD e.on false):=λi=>by
    rw[qB];cases a[i]? with
    |none=>rfl
    |some o=>simp only[pU,c]
   simp only[rZ,e,f]
 have d:Region.departs (a.map g)=Region.departs a:=by
  unfold Region.departs;rw[Array.any_map]
  congr 1
  funext o
  simp only[Function.comp,c]
 unfold Region.schedule Region.linearise;rw[d];simp only[j,rZ]
theorem am3(id:Nat)(a:Array Oper)(c:Bool):(gP (.region id a c)=.region id a c/\aox P a a)\/(∃d,gP (.region id a c)=.region id d c/\aox P d a/\∀b t,Region.schedule b d t=Region.schedule b a t)\/gP (.region id a c)=.refuse "" :=by
 rw[T.pc];unfold bF;by_cases m:(a.toList.all λo=>kx P gA gL o.op)=true
 .rw[dj m];refine .inl ⟨rfl,rfl,λi o l e f=> ?_⟩;rw[e] at f;obtain rfl:=de f;refine .inl ⟨rfl,ip.1 m o ?_⟩;exact ru.2 (pS e)
 .rw[bd m];by_cases k:(a.toList.all λo=>kx P gA gL o.op||nX gA gL o.op)=true
  .rw[dj k];refine .inr (.inl ⟨_,rfl,⟨by simp,λi o l e f=> ?_⟩,λb t=>am2 T (g:=nY gA gL gB) (λo=>by unfold nY;split<;>rfl) b a t⟩);rw[qB,f] at e;obtain rfl:=de e;have n:=ip.1 k l (ru.2 (pS f));unfold nY;by_cases j:nX gA gL l.op=true
   .rw[dj j];exact .inr ⟨j,rfl⟩
   .rw[bd j];simp only[j,um] at n;exact .inl ⟨rfl,n⟩
  .rw[bd k];exact .inr (.inr rfl)
theorem aaA  {d : List Deferred}  {k k' : List Item} {m:Bool}  
  (a:gz P ρ (⟨f,t,todo,d,.run,.normal,r⟩::cs) (⟨f,Z,H,I,.run,.normal,M⟩::U)) (b:WR ρ w w') (c:iI P ρ k k')
  (h:∀base w,s base w=.go ⟨⟨f,t,k,d,.run,.normal,r⟩,cs++base,.running,none,none⟩ w #[])
  (e:∀base,s' base=.go ⟨⟨f,Z,k',I,.run,.normal,M⟩,U++base,.running,none,none⟩ w' #[]):jT P P' ρ w w' s s':=
 jT.still b (l:=⟨f,t,k,d,.run,.normal,r⟩::cs) (l':=⟨f,Z,k',I,.run,.normal,M⟩::U) h e (GoR.of (a.put (Ren.Le.refl _) (a.head.at c) rfl))
omit T in
def gJ(p:Program)(main:Bool)(fr:Frame)(callers:List Frame)(w:World)(jump:Option Code):GStep:=
 match fr.roundOf with
 |none=>if jump matches none|some .ret then .go {frame:={fr with mode:=.returning},callers,status:=.running,dying:=none} w else .ended (.stuck "exit, goto: no such block or label" (fr.pos p)) w
 |some l=>
  let(r,es):=(Instr.endRound l jump).runT p w #[]
  GStep.after (seen p fr.fn es) <| match r with
  |.ok v w=>doReturn p main fr callers none v w
  |.halt _ w=>.ended (.stuck "range over a function: no such loop" (fr.pos p)) w
theorem agd(m m':Bool)(B:gz P ρ (fr::cs) (R::U))(G:WR ρ w w')(hm:fr.mode=.run)(j:Option Code)(hj:j=j.map gP) :
  jT P P' ρ w w' (λbase w=>gJ P m fr (cs++base) w j) (λbase=>gJ P' m' R (U++base) w' j):=by
 have b:=B.head;have q:=b.round;obtain⟨f,t,i,d,F,L,r⟩:=fr;obtain⟨J,C,E,I,S,o,r'⟩:=R;dsimp only at q;cases q with
 |none=>
  unfold gJ;dsimp only;have still:=jT.still (P:=P) (P':=P') G (l:=⟨f,t,i,d,.returning,L,none⟩::cs) (l':=⟨J,C,E,I,.returning,o,none⟩::U) (s:=λbase w=>.go ⟨⟨f,t,i,d,.returning,L,none⟩,cs++base,.running,none,none⟩ w #[]) (s':=λbase=>.go ⟨⟨J,C,E,I,.returning,o,none⟩,U++base,.running,none,none⟩ w' #[]) (λ_ _=>rfl) (λ_=>rfl) (GoR.of (B.put (Ren.Le.refl _) ⟨b.fn,b.tmps,b.todo,b.defers,.inr ⟨rfl,rfl⟩,b.kind,b.round⟩ rfl));cases j with
  |none=>exact still
  |some c=>cases c<;>first|exact still|exact jT.bad λ_ w=>.ended _ _ _
 |@some l l' Y=>
  cases B with
  |one h h0=>cases h0
  |cons h e=>
   obtain⟨g,D,H⟩:=(ajr (P:=P) (P':=P') Y hj).run w w' #[] #[] G;rcases H with H|⟨σ,a,K,O,cG,us,V,h1,N,z,Q,h5,h6,h7,X⟩
   .refine⟨g,D,.inl λbase t y=> ?_⟩;obtain⟨h,K,gT,q,A⟩:=H t y;unfold gJ;simp only[q];exact kV.after _ (.ended _ _ _)
   .refine⟨g,D,.inr ?_⟩;have A:=b.kind;dsimp only at A;obtain⟨rfl,rfl⟩:=A;have M:=b.fn;dsimp only at M;subst M;have k:∀(p:Program) (m:Bool) (x:Frame) (l:List Frame) (v:Value) (w:World) (Z:Array Value) (td:List Item) (ds:List Deferred) (F:FrameMode) (W:Nat),doReturn p m ⟨f,Z,td,ds,F,.normal,some W⟩ (x::l) none v w=.go ⟨x.finish v,l,.running,none,none⟩ w #[]:=λ_ _ _ _ _ _ _ _ _ _ _=>rfl;obtain⟨x,n,rfl⟩:∃x n,cs=x::n:=by cases e<;>exact⟨_,_,rfl⟩
    obtain⟨x',u,rfl⟩:∃x n,U=x::n:=by cases e<;>exact⟨_,_,rfl⟩
    refine⟨σ,x.finish a::n,K,seen P f us,x'.finish O::u,cG,seen P' f V,λbase t y=> ?_,N,z,λbase=> ?_,h6,h7,oZ T f X,GoR.of (e.put z ((e.head.mono z).finish h5) (fc _ _))⟩
    .unfold gJ;simp only[h1 t y,qu,k];simp[GStep.after,Gl]
    .unfold gJ;simp only[Q,qu,k];simp[GStep.after,Gl]
theorem jT.seq  {t₁:Tape} {D:Nat} {u : World} {j : Array Event} (s1:List Frame->World->GStep) (s1':List Frame->GStep) (f:FuncId)
  (p:∀base t,Agr w D t₁ t->s base (w.tap t)=(s1 base (K.tap t)).after (seen P f O)) (A:K.drawn=w.drawn+D) (N:ρ.Le σ) (C:∀base,s' base=(s1' base).after (seen P' f j)) (r:Kept ρ σ w w' K u) (I:EvW w σ O j)
  (H:jT P P' σ K u s1 s1'):jT P P' ρ w w' s s':=by
 obtain⟨d,E,H⟩:=H;have a:∀t,Agr w (D+E) (λi q=>if i<K.drawn then t₁ i q else d i q) t->Agr w D t₁ t/\Agr K E d t:=λt c=>⟨λi q y R=>by
  rw[c i q y (by omega)];exact dj (by omega),λi q y R=>by
  rw[c i q (by omega) (by omega)];exact bd (by omega)⟩
 refine⟨λi q=>if i<K.drawn then t₁ i q else d i q,D+E,H.imp (λH base t c=> ?_) ?_⟩
 .rw[p base t (a t c).1];exact kV.after _ (H base t (a t c).2)
 .rintro⟨M,G,S,L,g,l,k,z,Q,o,U,F,J,n,B⟩;have v:=oZ T f I;refine⟨M,G,S,seen P f O++L,g,l,seen P' f j++k,λbase t c=> ?_,by rw[Q,A,tK],N.trans o,λbase=> ?_,F,r.trans J,⟨?_,λb m x e=> ?_⟩,B⟩
  .rw[p base t (a t c).1,z base t (a t c).2];rfl
  .rw[C,U];rfl
  .rw[nq,nq];exact(v.ev.mono o).app n.ev
  .rw[nq,jt] at e;rcases e with e|e
   .exact v.nw b m x e
   .exact n.nw b (r.frz b m) x e
include X
theorem awB(hg:GlR ρ)(m m':Bool)(A:gz P ρ (fr::cs) (R::U))(C:WR ρ w w')(hm:fr.mode=.run) :
  jT P P' ρ w w' (λbase w=>stepG P m ⟨fr,cs++base,.running,none,none⟩ w) (λbase=>stepG P' m' ⟨R,U++base,.running,none,none⟩ w'):=by
 have kD:=A.head;have a2:=kD.env hg;obtain⟨f,t,aI,d,md,kd,r⟩:=fr;obtain⟨f',B,eH,J,a9,aP,E⟩:=R;obtain⟨h1,h2,h3,h4,h5,h6,h7⟩:=kD;dsimp only at h1 h2 h3 h4 h5 h6 h7 hm;subst h1;subst hm;obtain⟨rfl,rfl⟩:=h6;obtain rfl:a9=.run:=by
  rcases h5 with h5|h5
  .exact h5.2
  .cases h5.1
 cases h3 with
 |nil=>
  have G:∀base w,stepG P m ⟨⟨f,t,[],d,.run,.normal,r⟩,cs++base,.running,none,none⟩ w=gJ P m ⟨f,t,[],d,.run,.normal,r⟩ (cs++base) w none:=λ_ _=>rfl;have L:∀base,stepG P' m' ⟨⟨f,B,[],J,.run,.normal,E⟩,U++base,.running,none,none⟩ w'=gJ P' m' ⟨f,B,[],J,.run,.normal,E⟩ (U++base) w' none:=λ_=>rfl;simp only[G,L];exact agd T m m' A C rfl none rfl
 |@cons x x' k F hx I=>
  cases hx with
  |inBlock id=>exact aaA T (m:=m) A C I (λbase w=>by simp[stepG,stepG.exec]) (λbase=>by simp[stepG,stepG.exec])
  |inScope c=>exact aaA T (m:=m) A C I (λbase w=>by simp[stepG,stepG.exec]) (λbase=>by simp[stepG,stepG.exec])
  |inLoop c=>exact aaA T (m:=m) A C (.cons (.code c) (.cons (.inLoop c) I)) (λbase w=>by simp[stepG,stepG.exec]) (λbase=>by simp[stepG,stepG.exec])
  |inRangeFunc hl=>exact GoR.iJ λbase w=>⟨_,_,_,by simp[stepG,stepG.exec];exact⟨rfl,rfl,rfl⟩⟩
  |@endRangeFunc l l' hl=>
   obtain⟨t₁,D,H⟩:=(am1 (P:=P) (P':=P') hl).run w w' #[] #[] C;rcases H with H|⟨σ,a,w1,a',cG,us,nZ,h1,h2,h3,h4,h5,h6,af,h8⟩
   .refine⟨t₁,D,.inl λbase K N=> ?_⟩;obtain⟨h,w1,gT,hr,a7⟩:=H K N;have Z:=A.marks C a7;simp only[stepG,stepG.exec,hr];refine kV.after _ ?_;cases h<;>first|exact pd Z|exact .ended _ _ _
   .have hi:iI P σ ((a.map Item.code).toList++k) ((a'.map Item.code).toList++F):=by
     subst h5;cases a' with
     |none=>exact I.mono h3
     |some c=>exact .cons (.code c) (I.mono h3)
    refine⟨t₁,D,.inr ⟨σ,⟨f,t,(a.map Item.code).toList++k,d,.run,.normal,r⟩::cs,w1,seen P f us,⟨f,B,(a'.map Item.code).toList++F,J,.run,.normal,E⟩::U,cG,seen P' f nZ,λbase K N=> ?_,h2,h3,λbase=> ?_,h6,af,oZ T f h8,GoR.of (A.put h3 ((A.head.mono h3).at hi) rfl)⟩⟩
    .simp only[stepG,stepG.exec,h1 K N];simp[GStep.after,Gl]
    .simp only[stepG,stepG.exec,h4];simp[GStep.after,Gl]
  |beginRound=>
   have G:∀base w,stepG P m ⟨⟨f,t,.beginRound::k,d,.run,.normal,r⟩,cs++base,.running,none,none⟩ w=stepG.apply P true ⟨f,t,.beginRound::k,d,.run,.normal,r⟩ (cs++base) none (do r.elim (stuck "beginRound: no round") Instr.beginRound;pure .skip) w:=λ_ _=>rfl;have L:∀base,stepG P' m' ⟨⟨f,B,.beginRound::F,J,.run,.normal,E⟩,U++base,.running,none,none⟩ w'=stepG.apply P' true ⟨f,B,.beginRound::F,J,.run,.normal,E⟩ (U++base) none (do E.elim (stuck "beginRound: no round") Instr.beginRound;pure .skip) w':=λ_=>rfl;simp only[G,L];exact aga T A C (agb h7)
  |@inRegion n u O l=>
   cases l with
   |nil=>exact aaA T (m:=m) A C I (λbase w=>by simp[stepG,stepG.exec]) (λbase=>by simp[stepG,stepG.exec])
   |cons i z=>
    have ao:=A.head.finish VR.undef;have aF:∀j,yielded n t j=yielded u B j:=λj=>by
     unfold yielded;rw[O.dst j];cases((u[j]?).bind (·.dst)) with
     |none=>rfl
     |some x=>
      show(match t[x]? with|some (.bool b)=>some b|_=>none)=(match B[x]? with|some (.bool b)=>some b|_=>none);have hs:=bG.size h2;cases e:t[x]? with
      |none=>
       have:B[x]?=none:=by
        rw[pe] at e ⊢;omega
       rw[this]
      |some v=>
       obtain⟨v',G,L⟩:=bG.get h2 (i:=x) (v:=v) (by rw[dl];exact e);rw[dl] at G;rw[G];cases L<;>first|rfl|(cases v'<;>first|rfl|(cases(by assumption:iH _=true);done))
    have skip:(((n[i]?).map (Region.wanted · (yielded n t))).getD false=false)->(((u[i]?).map (Region.wanted · (yielded u B))).getD false=false)->jT P P' ρ w w' (λbase w=>stepG P m ⟨⟨f,t,.inRegion n (i::z)::k,d,.run,.normal,r⟩,cs++base,.running,none,none⟩ w) (λbase=>stepG P' m' ⟨⟨f,B,.inRegion u (i::z)::F,J,.run,.normal,E⟩,U++base,.running,none,none⟩ w'):=λG L=>
     jT.still C (l:=_::cs) (l':=_::U) (λbase w=>by simp only[stepG,stepG.exec,G];rfl) (λbase=>by simp only[stepG,stepG.exec,L];rfl) (GoR.of (A.put (Ren.Le.refl _) ao (fc _ _)))
    cases eo:n[i]? with
    |none=>
     have W:u[i]?=none:=by
      have:=O.1;rw[pe] at eo ⊢;omega
     exact skip (by rw[eo];rfl) (by rw[W];rfl)
    |some o=>
     obtain⟨V,W⟩:∃V,u[i]?=some V:=by
      have:=(db.1 eo).1;have:=O.1;exact⟨_,ff (by omega)⟩
     have a1:=O.2 i o V eo W;have av:o.guard=V.guard:=by rcases a1 with⟨rfl,_⟩|⟨_,rfl⟩<;>rfl
     have a5:Region.wanted o (yielded n t)=Region.wanted V (yielded u B):=by
      unfold Region.wanted;rw[av];cases V.guard with
      |none=>rfl
      |some g=>obtain⟨j,b⟩:=g;show(yielded n t j ==some b)=(yielded u B j ==some b);rw[aF j]
     cases ew:Region.wanted V (yielded u B) with
     |false=>exact skip (by rw[eo];simp[a5,ew]) (by rw[W];simp[ew])
     |true=>
      rw[ew] at a5;have nd:(∀c,o.op ≠ .defer c)/\∀c,V.op ≠ .defer c:=by
       rcases a1 with⟨rfl,Q⟩|⟨Y,rfl⟩
       .have:∀c,o.op ≠ .defer c:=λc e=>by rw[e] at Q;unfold kx at Q;simp at Q
        exact⟨this,this⟩
       .have:∀c,V.op ≠ .defer c:=λc e=>by rw[e] at Y;cases Y
        exact⟨this,this⟩
      have a3:aw P P' fX ρ (execOp (Frame.eval ⟨f,t,.inRegion n (i::z)::k,d,.run,.normal,r⟩) o) (execOp (Frame.eval ⟨f,B,.inRegion u (i::z)::F,J,.run,.normal,E⟩) V):=by
       rcases a1 with⟨rfl,Q⟩|⟨Y,ad⟩
       .exact aoK T X Q a2
       .exact ayB T X Y ad a2
      have G:∀base w,stepG P m ⟨⟨f,t,.inRegion n (i::z)::k,d,.run,.normal,r⟩,cs++base,.running,none,none⟩ w=stepG.apply P true ⟨f,t,.inRegion n (i::z)::k,d,.run,.normal,r⟩ (cs++base) none (execOp (Frame.eval ⟨f,t,.inRegion n (i::z)::k,d,.run,.normal,r⟩) o) w:=λbase w=>by
       simp only[stepG,stepG.exec,eo,pU,pP,a5,mw,stepG.oper,Frame.oper?];cases r with
       |none=>rfl
       |some l0=>
        have:=nd.1;split
        .rename_i S;exact absurd S (this _)
        .rfl
      have L:∀base,stepG P' m' ⟨⟨f,B,.inRegion u (i::z)::F,J,.run,.normal,E⟩,U++base,.running,none,none⟩ w'=stepG.apply P' true ⟨f,B,.inRegion u (i::z)::F,J,.run,.normal,E⟩ (U++base) none (execOp (Frame.eval ⟨f,B,.inRegion u (i::z)::F,J,.run,.normal,E⟩) V) w':=λbase=>by
       simp only[stepG,stepG.exec,W,pU,pP,ew,mw,stepG.oper,Frame.oper?];cases E with
       |none=>rfl
       |some l0=>
        have:=nd.2;split
        .rename_i S;exact absurd S (this _)
        .rfl
      simp only[G,L];exact aga T A C a3
  |code c=>
   cases c with
   |skip=>rw[arG T] at *;exact aaA T (m:=m) A C I (λbase w=>by simp[stepG,stepG.exec]) (λbase=>by simp[stepG,stepG.exec])
   |label l=>rw[aoP T] at *;exact aaA T (m:=m) A C I (λbase w=>by simp[stepG,stepG.exec]) (λbase=>by simp[stepG,stepG.exec])
   |seq a b=>rw[auX T] at *;exact aaA T (m:=m) A C (.cons (.code a) (.cons (.code b) I)) (λbase w=>by simp[stepG,stepG.exec]) (λbase=>by simp[stepG,stepG.exec])
   |block id a=>rw[aoM T] at *;exact aaA T (m:=m) A C (.cons (.code a) (.cons (.inBlock id) I)) (λbase w=>by simp[stepG,stepG.exec]) (λbase=>by simp[stepG,stepG.exec])
   |loop a=>rw[arF T] at *;exact aaA T (m:=m) A C (.cons (.code a) (.cons (.inLoop a) I)) (λbase w=>by simp[stepG,stepG.exec]) (λbase=>by simp[stepG,stepG.exec])
   |scope a=>rw[aoN T] at *;exact aaA T (m:=m) A C (.cons (.code a) (.cons (.inScope a) I)) (λbase w=>by simp[stepG,stepG.exec]) (λbase=>by simp[stepG,stepG.exec])
   |refuse s=>rw[ae9 T] at *;exact GoR.iJ λbase w=>⟨_,_,_,by simp[stepG,stepG.exec];exact⟨rfl,rfl,rfl⟩⟩
   |goto l=>rw[arH T] at *;exact GoR.iJ λbase w=>⟨_,_,_,by simp[stepG,stepG.exec];exact⟨rfl,rfl,rfl⟩⟩
   |cond c a b=>
    rw[arI T] at *;by_cases S:bD gA gL c=true
    .rw[dj S] at *;have hv:=a2 c S;generalize a0:Frame.eval ⟨f,t,.code (.cond c (gP a) (gP b))::k,d,.run,.normal,r⟩ c=v at hv;generalize ax:Frame.eval ⟨f,B,.code (.cond c a b)::F,J,.run,.normal,E⟩ c=v' at hv;cases hv with
     |bool q=>
      have hi:iI P ρ (.code (if q=true then gP a else gP b)::k) (.code (if q=true then a else b)::F):=by
       cases q with
       |true=>exact .cons (.code a) I
       |false=>exact .cons (.code b) I
      exact aaA T (m:=m) A C hi (λbase w=>by simp[stepG,stepG.exec,a0]) (λbase=>by simp[stepG,stepG.exec,ax])
     |aal=>exact GoR.iJ λbase w=>⟨_,_,_,by unfold amI at a0;simp[stepG,stepG.exec,a0];first|exact⟨rfl,rfl,rfl⟩|rfl⟩
     |_=>exact GoR.iJ λbase w=>⟨_,_,_,by simp[stepG,stepG.exec,a0];exact⟨rfl,rfl,rfl⟩⟩
    .rw[bd S] at *;exact GoR.iJ λbase w=>⟨_,_,_,by simp[stepG,stepG.exec];exact⟨rfl,rfl,rfl⟩⟩
   |exit id=>
    rw[alD T] at *;rcases I.exit id with⟨x1,x2⟩|⟨l,l',x1,x2,hl⟩
    .have G:∀base w,stepG P m ⟨⟨f,t,.code (.exit id)::k,d,.run,.normal,r⟩,cs++base,.running,none,none⟩ w=gJ P m ⟨f,t,.code (.exit id)::k,d,.run,.normal,r⟩ (cs++base) w (some (.exit id)):=λbase w=>by simp[stepG,stepG.exec,x1,gJ];rfl
     have L:∀base,stepG P' m' ⟨⟨f,B,.code (.exit id)::F,J,.run,.normal,E⟩,U++base,.running,none,none⟩ w'=gJ P' m' ⟨f,B,.code (.exit id)::F,J,.run,.normal,E⟩ (U++base) w' (some (.exit id)):=λbase=>by simp[stepG,stepG.exec,x2,gJ];rfl
     simp only[G,L];exact agd T m m' A C rfl (some (.exit id)) (by rw[pU,alD T])
    .exact aaA T (m:=m) A C hl (λbase w=>by simp[stepG,stepG.exec,x1]) (λbase=>by simp[stepG,stepG.exec,x2])
   |ret=>
    rw[aoO T] at *;have G:∀base w,stepG P m ⟨⟨f,t,.code .ret::k,d,.run,.normal,r⟩,cs++base,.running,none,none⟩ w=gJ P m ⟨f,t,.code .ret::k,d,.run,.normal,r⟩ (cs++base) w (some .ret):=λ_ _=>rfl;have L:∀base,stepG P' m' ⟨⟨f,B,.code .ret::F,J,.run,.normal,E⟩,U++base,.running,none,none⟩ w'=gJ P' m' ⟨f,B,.code .ret::F,J,.run,.normal,E⟩ (U++base) w' (some .ret):=λ_=>rfl;simp only[G,L];exact agd T m m' A C rfl (some .ret) (by rw[pU,aoO T])
   |region id n draw=>
    rcases am3 T id n draw with⟨e,O⟩|⟨M,e,O,ay⟩|e
    .rw[e] at *;cases draw with
     |false=>exact aaA T (m:=m) A C (.cons (.inRegion O (List.range n.size)) I) (λbase w=>by simp[stepG,stepG.exec]) (λbase=>by simp[stepG,stepG.exec])
     |true=>
      have G:∀(p:Program) (q:Question) (w:World),q.forced=false->(choose q).run p w=.ok (q.cut (w.tape w.drawn q)) {w with drawn:=w.drawn+1}:=λp q w hq=>by
       unfold choose;rw[Sem.run,hq];rfl
      obtain⟨q1,q2⟩:=C.ask 1 1;have hi:iI P ρ (.inRegion n (Region.schedule (P.follows .mixedOrders) n (w'.tape w'.drawn (.order f id)))::k) (.inRegion n (Region.schedule (P'.follows .mixedOrders) n (w'.tape w'.drawn (.order f id)))::F):=by
       rw[T.follows];exact .cons (.inRegion O _) I
      refine⟨λ_ _=>w'.tape w'.drawn (.order f id),1,.inr ⟨ρ,⟨f,t,.inRegion n (Region.schedule (P.follows .mixedOrders) n (w'.tape w'.drawn (.order f id)))::k,d,.run,.normal,r⟩::cs,{w with drawn:=w.drawn+1},#[],⟨f,B,.inRegion n (Region.schedule (P'.follows .mixedOrders) n (w'.tape w'.drawn (.order f id)))::F,J,.run,.normal,E⟩::U,{w' with drawn:=w'.drawn+1},#[],λbase K N=> ?_,rfl,Ren.Le.refl _,λbase=> ?_,q1,q2,.nil _ _,GoR.of (A.put (Ren.Le.refl _) (A.head.at hi) rfl)⟩⟩
      .have hd:=N w.drawn (.order f id) (ap _) (by omega);simp only[stepG,stepG.exec,G P (.order f id) (w.tap K) rfl];show GStep.go _ _ _=_;have:(w.tap K).tape (w.tap K).drawn (.order f id)=w'.tape w'.drawn (.order f id):=hd;simp only[Question.cut,this];rfl
      .simp only[stepG,stepG.exec,G P' (.order f id) w' rfl];rfl
    .rw[e] at *;have aa:List.range M.size=List.range n.size:=by rw[O.1]
     cases draw with
     |false=>exact aaA T (m:=m) A C (.cons (.inRegion O (List.range n.size)) I) (λbase w=>by simp[stepG,stepG.exec,aa]) (λbase=>by simp[stepG,stepG.exec])
     |true=>
      have G:∀(p:Program) (q:Question) (w:World),q.forced=false->(choose q).run p w=.ok (q.cut (w.tape w.drawn q)) {w with drawn:=w.drawn+1}:=λp q w hq=>by
       unfold choose;rw[Sem.run,hq];rfl
      obtain⟨q1,q2⟩:=C.ask 1 1;have hi:iI P ρ (.inRegion M (Region.schedule (P.follows .mixedOrders) M (w'.tape w'.drawn (.order f id)))::k) (.inRegion n (Region.schedule (P'.follows .mixedOrders) n (w'.tape w'.drawn (.order f id)))::F):=by
       rw[T.follows,ay];exact .cons (.inRegion O _) I
      refine⟨λ_ _=>w'.tape w'.drawn (.order f id),1,.inr ⟨ρ,⟨f,t,.inRegion M (Region.schedule (P.follows .mixedOrders) M (w'.tape w'.drawn (.order f id)))::k,d,.run,.normal,r⟩::cs,{w with drawn:=w.drawn+1},#[],⟨f,B,.inRegion n (Region.schedule (P'.follows .mixedOrders) n (w'.tape w'.drawn (.order f id)))::F,J,.run,.normal,E⟩::U,{w' with drawn:=w'.drawn+1},#[],λbase K N=> ?_,rfl,Ren.Le.refl _,λbase=> ?_,q1,q2,.nil _ _,GoR.of (A.put (Ren.Le.refl _) (A.head.at hi) rfl)⟩⟩
      .have hd:=N w.drawn (.order f id) (ap _) (by omega);simp only[stepG,stepG.exec,G P (.order f id) (w.tap K) rfl];show GStep.go _ _ _=_;have:(w.tap K).tape (w.tap K).drawn (.order f id)=w'.tape w'.drawn (.order f id):=hd;simp only[Question.cut,this];rfl
      .simp only[stepG,stepG.exec,G P' (.order f id) w' rfl];rfl
    .rw[e] at *;exact GoR.iJ λbase w=>⟨_,_,_,by simp[stepG,stepG.exec];exact⟨rfl,rfl,rfl⟩⟩
   |rangeFunc fo ps a b=>
    rw[agc T] at *;by_cases S:bD gA gL fo=true
    .rw[dj S] at *;obtain⟨t₁,D,H⟩:=(ahp (P:=P) (P':=P') f h2 ps a b h7).run w w' #[] #[] C;rcases H with H|⟨σ,q,w1,q',cG,us,nZ,g1,g2,g3,g4,g5,g6,g7,g8⟩
     .refine⟨t₁,D,.inl λbase K N=> ?_⟩;obtain⟨h,w1,gT,hr,a7⟩:=H K N;simp only[stepG,stepG.exec,hr];exact kV.after _ (.ended _ _ _)
     .obtain⟨lp,mk⟩:=q;obtain⟨a4,mk'⟩:=q';obtain⟨a6,Z⟩:=g5;dsimp only at a6 Z;have al:∀{x x' y y':List Deferred},CDs σ x x'->CDs σ y y'->CDs σ (x++y) (x'++y'):=by
       intro x x' y y' hx hy
       induction hx with
       |nil=>exact hy
       |cons hb _ ih=>exact .cons hb ih
      have a8:gz P σ (⟨f,t,.inRangeFunc lp::k,mk++d,.run,.normal,r⟩::cs) (⟨f,B,.inRangeFunc a4::F,mk'++J,.run,.normal,E⟩::U):=
       A.put g3 ⟨rfl,bG.mono g3 h2,.cons (.inRangeFunc a6) (I.mono g3),al Z (h4.mono g3),.inl ⟨rfl,rfl⟩,⟨rfl,rfl⟩,h7.mono g3⟩ rfl
      have an:=a8.head.env (hg.mono g3);have a3:=alC T X (an fo S) (args:=#[.func (.yield lp) #[] #[]]) (args':=#[.func (.yield a4) #[] #[]]) (.cons (.func (.yield a6) .nil .nil) .nil);refine jT.seq T (s1:=λbase w=>stepG.apply P true ⟨f,t,.inRangeFunc lp::k,mk++d,.run,.normal,r⟩ (cs++base) none _ w) (s1':=λbase=>stepG.apply P' true ⟨f,B,.inRangeFunc a4::F,mk'++J,.run,.normal,E⟩ (U++base) none _ cG) f (t₁:=t₁) (D:=D) (λbase K N=> ?_) g2 g3 (λbase=> ?_) g7 g8 (aga T a8 g6 a3)
      .simp only[stepG,stepG.exec,g1 K N,Array.empty_append];rw[oF _ _ _ λ_=>rfl]
      .simp only[stepG,stepG.exec,g4,Array.empty_append];rw[oF _ _ _ λ_=>rfl]
    .rw[bd S] at *;exact GoR.iJ λbase w=>⟨_,_,_,by simp[stepG,stepG.exec];exact⟨rfl,rfl,rfl⟩⟩
end
def mN(l:List Frame):Prop:=∃a,l=[a]/\a.mode=.returning/\a.defers=[]/\a.kind=.normal
section
variable {P P':Program} {ρ σ:Ren} {w w':World}
def adA{l l':Nat}(h:ρ.r l l'):aw P P' (λ_ q b=>q=[]/\b=[]) ρ (Instr.takeDeferred l) (Instr.takeDeferred l'):=by
 unfold Instr.takeDeferred;refine ag (dR h) λσ x d c a=> ?_;cases a with
 |deferred=>exact ag (gD (c.r h) .bu) λ_ _ _ _ _=>ai ⟨rfl,rfl⟩
 |_=>exact .halt _ _
variable (T:Twin P P') (X:aho P P')
include T
theorem ahq:∀(l:List ResultVar) {ρ:Ren} {t b:Array Value},cM ρ t b->aw P P' bG ρ (l.mapM fun
  |.tmp k=>pure (t.getD k undef)
  |.cell a c=>do loadVar c (<-asAddr (t.getD a undef))) (l.mapM fun
  |.tmp k=>pure (b.getD k undef)
  |.cell a c=>do loadVar c (<-asAddr (b.getD a undef)))
 |[],_,_,_,_=>by
  rw[List.mapM_nil,List.mapM_nil];exact ai .nil
 |x::l,ρ,t,b,h=>by
  have g:∀(σ:Ren) (k:Nat),ρ.Le σ->VR σ (t.getD k undef) (b.getD k undef):=λσ k d=>by
   have y:=bG.size h;rw[fi,fi];cases e:t[k]? with
   |none=>
    have:b[k]?=none:=by
     rw[pe] at e ⊢;omega
    rw[this];exact VR.undef
   |some v=>
    obtain⟨m,j,n⟩:=bG.get h (i:=k) (v:=v) (by rw[dl];exact e);rw[dl] at j;rw[j];exact n.mono d
  rw[uS,uS];refine ag (A:=VR) ?_ λσ v m d r=>ag (ahq l (bG.mono d h)) λs u q o f=>ai (.cons (r.mono o) f);cases x with
  |tmp k=>exact ai (g ρ k (Ren.Le.refl _))
  |cell a c=>exact ag (ahl (g ρ a (Ren.Le.refl _))) λσ x w d p=>ae3 T c p
theorem afa{f : Func}(k:f.results=fn.results)(h:cM ρ t Z):aw P P' VR ρ (results fn t) (results f Z):=by
 unfold results;rw[k,tc,tc,map_eq_pure_bind,map_eq_pure_bind];refine ag (A:=cM) (ag (ahq T fn.results.toList h) λ_ _ _ _ b=>ai (A:=cM) b) λσ c a m b=> ?_;have n:c.size=a.size:=bG.size b;refine ai ?_;by_cases e:c.size=1
 .have d:a.size=1:=by omega
  rw[sN e,sN d];obtain⟨l,g,j⟩:=bG.get b (i:=0) (v:=c[0]) (by rw[dl];exact ff (by omega));rw[dl,ff (by omega)] at g;obtain rfl:=de g;exact j
 .have d:¬a.size=1:=by omega
  rw[dif_neg e,dif_neg d];exact .tuple b
theorem awD(m m':Bool)(hS:gz P ρ (fr::cs) (R::U))(N:WR ρ w w')(hm:fr.mode=.returning)(hn:fr.defers≠[]\/cs≠[]) :
  jT P P' ρ w w' (λbase w=>stepG P m ⟨fr,cs++base,.running,none,none⟩ w) (λbase=>stepG P' m' ⟨R,U++base,.running,none,none⟩ w'):=by
 have kD:=hS.head;obtain⟨f,t,C,d,md,kd,r⟩:=fr;obtain⟨f',G,eH,d',J,a1,r'⟩:=R;obtain⟨F,o,h3,h4,z,h6,h7⟩:=kD;dsimp only at F o h3 h4 z h6 h7 hm hn;subst F;subst hm;obtain⟨rfl,rfl⟩:=h6;obtain rfl:J=.returning:=by
  rcases z with z|z
  .cases z.1
  .exact z.2
 cases h4 with
 |@cons b b' ds L hb hl=>
  obtain⟨g,D,H⟩:=(adA (P:=P) (P':=P') hb).run w w' #[] #[] N;rcases H with H|⟨σ,a,E,a',X,Q,M,Y,V,k,O,g5,S,K,W⟩
  .refine⟨g,D,.inl λbase s q=> ?_⟩;obtain⟨h,E,gT,Z,I⟩:=H s q;simp only[stepG,unwind,Z];exact kV.after _ (.ended _ _ _)
  .obtain⟨rfl,rfl⟩:=g5;refine⟨g,D,.inr ⟨σ,⟨f,t,C,ds,.returning,.normal,r⟩::cs,E,seen P f Q,⟨f,G,eH,L,.returning,.normal,r'⟩::U,X,seen P' f M,λbase s q=> ?_,V,k,λbase=> ?_,S,K,oZ T f W,
    GoR.of (hS.put k ⟨rfl,bG.mono k o,h3.mono k,hl.mono k,.inr ⟨rfl,rfl⟩,⟨rfl,rfl⟩,h7.mono k⟩ rfl)⟩⟩
   .simp only[stepG,unwind,Y s q];simp[GStep.after,Gl]
   .simp only[stepG,unwind,O];simp[GStep.after,Gl]
 |nil=>
  have a0:cs≠[]:=hn.resolve_left λh=>h rfl;cases hS with
  |one h h0=>exact absurd rfl a0
  |cons h j=>
   obtain⟨x,A,rfl⟩:∃x A,cs=x::A:=by cases j<;>exact⟨_,_,rfl⟩
   obtain⟨x',B,rfl⟩:∃x A,U=x::A:=by cases j<;>exact⟨_,_,rfl⟩
   have n:∀(p:Program) (m:Bool) (x:Frame) (l:List Frame) (v:Value) (w:World) (tm:Array Value) (td:List Item) (r:Option Nat),doReturn p m ⟨f,tm,td,[],.returning,.normal,r⟩ (x::l) none v w=.go ⟨x.finish v,l,.running,none,none⟩ w #[]:=λ_ _ _ _ _ _ _ _ _=>rfl;cases y:P.funcs[f]? with
   |none=>
    have u:P'.funcs[f]?=none:=by
     rw[pe] at y ⊢;rw[T.ahj];exact y
    have hv:VR ρ (t.getD 0 undef) (G.getD 0 undef):=by
     have hz:=bG.size o;rw[fi,fi];cases e:t[0]? with
     |none=>
      have:G[0]?=none:=by
       rw[pe] at e ⊢;omega
      rw[this];exact VR.undef
     |some v=>
      obtain⟨v',F,o⟩:=bG.get o (i:=0) (v:=v) (by rw[dl];exact e);rw[dl] at F;rw[F];exact o
    refine jT.still N (l:=x.finish (t.getD 0 undef)::A) (l':=x'.finish (G.getD 0 undef)::B) (λbase w=> ?_) (λbase=> ?_) (GoR.of (j.put (Ren.Le.refl _) (j.head.finish hv) (fc _ _)))
    .simp only[stepG,unwind,y,qu,n,Gl]
    .simp only[stepG,unwind,u,qu,n,Gl]
   |some fn=>
    obtain⟨cR,u,hR⟩:=T.func f fn y;obtain⟨g,D,H⟩:=(afa T hR.results o).run w w' #[] #[] N;rcases H with H|⟨σ,a,E,a',X,Q,M,Y,V,k,O,g5,S,K,W⟩
    .refine⟨g,D,.inl λbase s q=> ?_⟩;obtain⟨h,E,gT,Z,I⟩:=H s q;simp only[stepG,unwind,y,Z];refine kV.after _ ?_;cases h<;>exact .ended _ _ _
    .refine⟨g,D,.inr ⟨σ,x.finish a::A,E,seen P f Q,x'.finish a'::B,X,seen P' f M,λbase s q=> ?_,V,k,λbase=> ?_,S,K,oZ T f W,GoR.of (j.put k ((j.head.mono k).finish g5) (fc _ _))⟩⟩
     .simp only[stepG,unwind,y,Y s q,qu,n];simp[GStep.after,Gl]
     .simp only[stepG,unwind,u,O,qu,n];simp[GStep.after,Gl]
include X
theorem au2(j:GlR ρ)(m m':Bool)(a:gz P ρ l l')(d:WR ρ w w')(k:¬mN l) :
  jT P P' ρ w w' (λbase w=>stepG P m (Gl l base) w) (λbase=>stepG P' m' (Gl l' base) w'):=by
 obtain⟨f,n,rfl⟩:∃x c,l=x::c:=by cases a<;>exact⟨_,_,rfl⟩
 obtain⟨p,g,rfl⟩:∃x c,l'=x::c:=by cases a<;>exact⟨_,_,rfl⟩
 rcases a.head.mode with b|b
 .exact awB T X j m m' a d b.1
 .refine awD T m m' a d b.1 ?_;refine pW λh=>k ?_;have o:f.defers=[]:=pW λe=>h (.inl e);have i:n=[]:=pW λe=>h (.inr e);subst i;exact⟨f,rfl,b.1,o,a.head.kind.1⟩
end
def fY(dst:Option Tmp)(op:Op)(t:TypeId):Oper:={dst,op,type:=t,pos:= "",after:=#[],guard:=none}
abbrev bX:FuncId:=67
abbrev nCC:FuncId:=198
def bR:Code->Code
 |.seq _ b=>b
 |c=>c
noncomputable def cB:Code:=bR (bR (bR (bR (bR (f67.body.getD .skip)))))
def arJ(r:Nat)(ops:Array Oper)(t:Tmp):Code:=.seq (.region r ops false) (.cond (.tmp t) .skip (.refuse ""))
def pg(r:Nat)(ops:Array Oper)(t:Tmp):Code:=.seq (.region r ops false) (.cond (.tmp t) (.refuse "") .skip)
def pj(d:Tmp)(x y:Operand):Oper:=fY (some d) (.binOp .lss 3 x y 3) 4
def arK(d:Tmp)(x y:Operand):Oper:=fY (some d) (.binOp .eql 3 x y 3) 4
def arL(d:Tmp)(x:Operand):Oper:=fY (some d) (.binOp .mul 3 x (.const (.int .i64 1)) 3) 3
def arM(d:Tmp)(x:Operand):Oper:=fY (some d) (.binOp .add 3 x (.const (.int .i64 1)) 3) 3
def aoR(d:Tmp)(x:Tmp)(ty:TypeId):Oper:=fY (some d) (.call ⟨.builtin .len,#[.tmp x],#[ty]⟩) 3
def arN(d:Tmp)(x:Tmp)(ty:TypeId):Oper:=fY (some d) (.call ⟨.builtin .cap,#[.tmp x],#[ty]⟩) 3
def am4(d:Tmp)(n:Int):Oper:=fY (some d) (.assign (.const (.int .i64 n))) 3
abbrev kOp(n:Int):Operand:=.const (.int .i64 n)
def atI:Array Oper:=#[
  fY (some 6) (.assign (.const (.slice none 0 0))) 117,
  fY (some 7) (.assign (.const (.bool false))) 4,
  pj 16 (.tmp 0) (kOp 1)]
def atJ:Array Oper:=#[pj 16 (kOp 99) (.tmp 0)]
def atK:Array Oper:=#[
  fY (some 16) (.load 207 (.global 0)) 207,
  fY (some 16) (.load 207 (.global 1)) 207,
  aoR 16 1 23,arN 18 1 23,am4 20 0,
  pj 19 (kOp 9223372036854775807) (.tmp 18)]
def atM:Array Oper:=#[pj 19 (.tmp 18) (.tmp 16)]
def atN:Array Oper:=#[pj 21 (.tmp 20) (.tmp 16)]
def atO:Array Oper:=#[
  fY (some 23) (.indexAddr 23 (.tmp 1) (.tmp 20)) 0,
  fY (some 24) (.load 40 (.tmp 23)) 40,
  fY (some 25) (.field 40 (.tmp 24) 0) 3,
  arL 26 (.tmp 25),arK 22 (.tmp 26) (.tmp 25)]
def atP:Array Oper:=#[
  fY (some 27) (.field 40 (.tmp 24) 1) 38,
  aoR 28 27 38,arN 3 27 38,pj 4 (.tmp 28) (kOp 1)]
def atQ:Array Oper:=#[pj 4 (kOp 9223372036854775807) (.tmp 3)]
def atS:Array Oper:=#[pj 4 (.tmp 3) (.tmp 28)]
def awE:Array Oper:=#[am4 5 0]
def atT:Array Oper:=#[pj 4 (.tmp 5) (.tmp 28)]
def atU:Array Oper:=#[
  fY (some 9) (.indexAddr 38 (.tmp 27) (.tmp 5)) 0,
  fY (some 10) (.load 64 (.tmp 9)) 64,
  fY (some 11) (.field 64 (.tmp 10) 0) 3,
  arL 13 (.tmp 11),arK 15 (.tmp 13) (.tmp 11)]
def atV:Array Oper:=#[
  fY (some 26) (.field 64 (.tmp 10) 1) 9,
  aoR 25 26 9,pj 15 (kOp 9223372036854775807) (.tmp 25)]
def atW:Array Oper:=#[arM 22 (.tmp 5),fY (some 5) (.move (.tmp 22)) 3]
def atX:Array Oper:=#[arM 22 (.tmp 20),fY (some 20) (.move (.tmp 22)) 3]
def aoS:Array Oper:=#[aoR 16 2 31,arN 18 2 31,pj 19 (kOp 2147483647) (.tmp 16)]
def aoT:Array Oper:=#[pj 19 (kOp 9223372036854775807) (.tmp 18)]
def aoU:Array Oper:=#[pj 19 (.tmp 18) (.tmp 16)]
def alE:Array Oper:=#[
  fY (some 27) (.makeSlice 160 (.tmp 16) (.tmp 16)) 160,
  am4 28 0]
def atY:Array Oper:=#[pj 26 (.tmp 28) (.tmp 16)]
def atZ:Array Oper:=#[
  fY (some 25) (.indexAddr 31 (.tmp 2) (.tmp 28)) 0,
  fY (some 20) (.load 3 (.tmp 25)) 3,
  arL 22 (.tmp 20),arK 21 (.tmp 22) (.tmp 20)]
def ahr:Array Oper:=#[
  fY (some 24) (.call ⟨.value (.func 110),#[.tmp 0,.tmp 1,.tmp 20],#[3,23,3]⟩) 171,
  fY (some 23) (.indexAddr 160 (.tmp 27) (.tmp 28)) 0,
  fY none (.store 171 (.tmp 23) (.tmp 24)) 0]
def ahs:Array Oper:=#[arM 22 (.tmp 28),fY (some 28) (.move (.tmp 22)) 3]
def aht:Array Oper:=#[
  fY (some 17) (.assign (.tmp 27)) 160,
  fY (some 8) (.alloc 160) 0,
  fY none (.store 160 (.tmp 8) (.tmp 17)) 0]
def cD:List Nat:=[3,4,5,9,10,11,13,15,16,18,19,20,21,22,23,24,25,26,27,28]
def ab4:Array Oper:=⟨cD.map λt=>am4 t 0⟩
def po:Code:=.seq (.region 70 atT false) (.seq (.cond (.tmp 4) .skip (.exit 52)) (.seq (arJ 71 atU 15) (.seq (pg 72 atV 15) (.region 73 atW false))))
def pq:Code:=.seq (.region 60 atN false) (.seq (.cond (.tmp 21) .skip (.exit 51)) (.seq (arJ 61 atO 22) (.seq (pg 62 atP 4) (.seq (pg 63 atQ 4) (.seq (pg 64 atS 4) (.seq (.region 65 awE false)
 (.seq (.block 52 (.loop po)) (.region 66 atX false))))))))
def kE:Code:=.seq (.region 80 atY false) (.seq (.cond (.tmp 26) .skip (.exit 53)) (.seq (arJ 81 atZ 21) (.seq (.region 82 ahr false) (.region 83 ahs false))))
noncomputable def iV:Code:=.seq (pg 50 atI 16) (.seq (pg 51 atJ 16) (.seq (pg 52 atK 19) (.seq (pg 53 atM 19) (.seq (.block 51 (.loop pq))
 (.seq (pg 54 aoS 19) (.seq (pg 55 aoT 19) (.seq (pg 56 aoU 19) (.seq (.region 57 alE false) (.seq (.block 53 (.loop kE)) (.seq (.region 58 aht false) (.seq (.region 59 ab4 false) cB)))))))))))
def mO:Array Oper:=#[
  fY none (.call ⟨.builtin .unsafeSlice,#[.tmp 0,.const (.int .i64 1)],#[225,3]⟩) 0,
  fY (some 4) (.fieldAddr 227 (.tmp 0) 0) 0,
  fY (some 5) (.load 225 (.tmp 4)) 225,
  fY (some 6) (.binOp .eql 225 (.tmp 5) (.const (.pointer none)) 225) 4]
def age:Array Oper:=#[fY none (.store 225 (.tmp 4) (.tmp 0)) 0]
def ajs:Array Oper:=#[
  fY (some 7) (.fieldAddr 227 (.tmp 5) 0) 0,
  fY none (.store 225 (.tmp 7) (.const (.pointer none))) 0,
  fY (some 8) (.load 225 (.tmp 4)) 225,
  fY (some 9) (.binOp .eql 225 (.tmp 8) (.const (.pointer none)) 225) 4]
def lv:Code:=
 .seq (.region 0 mO false)
 (.seq (.cond (.tmp 6) .skip (.seq (.region 2 ajs false) (.cond (.tmp 9) .skip (.refuse ""))))
 (.seq (.region 1 age false) .ret))
noncomputable def qFA(β:Bool):Func:={f67 with body:=some (if β then iV else .refuse "")}
noncomputable def qCC:Func:={f198 with body:=some lv}
noncomputable def pf(fn:Func):Func:={fn with body:=fn.body.map gP}
noncomputable def kF(β:Bool):Array Func:=((prog.funcs.map pf).setIfInBounds bX (qFA β)).setIfInBounds nCC qCC
noncomputable def aj(β:Bool):Program:={prog with funcs:=kF β}
section
variable (P:Program) (fs:Array Func)
def iW(t:TypeId):({P with funcs:=fs}:Program).info? t=P.info? t:=rfl
def cA(t:TypeId):({P with funcs:=fs}:Program).underlying t=P.underlying t:=rfl
def ac0:({P with funcs:=fs}:Program).depth=P.depth:=rfl
def ac1(t:TypeId):({P with funcs:=fs}:Program).cellsOf t=P.cellsOf t:=rfl
def agf(t:TypeId):({P with funcs:=fs}:Program).bytesOf t=P.bytesOf t:=rfl
def agh:∀(d:Nat) (t:TypeId),({P with funcs:=fs}:Program).eqGuardType d t=P.eqGuardType d t
 |0,_=>rfl
 |d+1,t=>by
  unfold Program.eqGuardType;rw[cA];simp only[agh d]
def aaB:∀(d:Nat) (t:TypeId) (n:Nat),byteOfCell {P with funcs:=fs} d t n=byteOfCell P d t n
 |0,_,_=>rfl
 |d+1,t,n=>by
  unfold byteOfCell;rw[cA];simp only[ac1,agf,aaB d];rfl
def aaC:∀(d:Nat) (t:TypeId) (n:Nat),cellOfByte {P with funcs:=fs} d t n=cellOfByte P d t n
 |0,_,_=>rfl
 |d+1,t,n=>by
  unfold cellOfByte;rw[cA];simp only[ac1,agf,aaC d];rfl
def aoV(d:Nat)(e:TypeId)(c o:Nat)(b:Int):cellAtBytes {P with funcs:=fs} d e c o b=cellAtBytes P d e c o b:=by
 unfold cellAtBytes;simp only[ac1,agf,aaB,aaC];rfl
def ac2(t:TypeId):({P with funcs:=fs}:Program).stoodInHeld t=P.stoodInHeld t:=by
 have b:∀(d:Nat) (t u:TypeId),({P with funcs:=fs}:Program).alikeButTags d t u=P.alikeButTags d t u:=by
  intro d
  induction d with
  |zero=>intro t u;rfl
  |succ d a=>
   intro t u;unfold Program.alikeButTags;simp only[iW,a]
 unfold Program.stoodInHeld Program.stoodInAs;simp only[cA,iW,ac0,b];rfl
def afb(d:Departure):({P with funcs:=fs}:Program).follows d=P.follows d:=rfl
def aoW(d:Nat)(e:TypeId)(c o:Nat)(u:TypeId)(n:Nat):liesAt {P with funcs:=fs} d e c o u n=liesAt P d e c o u n:=by
 have g:∀(d:Nat) (t u:TypeId),sameLayout {P with funcs:=fs} d t u=sameLayout P d t u:=by
  intro d
  induction d with
  |zero=>intro t u;rfl
  |succ d b=>
   intro t u;unfold sameLayout;simp only[cA,ac2,b];rfl
 have f:∀(a:TypeId->Bool) (d:Nat) (e:TypeId) (c o n:Nat),rowAt {P with funcs:=fs} a d e c o n=rowAt P a d e c o n:=by
  intro a d
  induction d with
  |zero=>intro e c o n;rfl
  |succ d b=>
   intro e c o n;unfold rowAt;simp only[cA,ac2,ac1,b];rfl
 induction d generalizing e c o u n with
 |zero=>rfl
 |succ d b=>
  unfold liesAt;simp only[cA,g,f,b,ac0]
end
def cP(v:Value):Prop:=∀a:Ren,VR a v v
def bG.diag :∀{l b:List Value},bG ρ l b->l=b->∀c∈l,VR ρ c c
 |_,_,.nil,_,c,a=>by cases a
 |_,_,.cons x y,e,c,a=>by
  simp only[qy] at e;obtain⟨rfl,e⟩:=e;rcases lw.1 a with rfl|a
  .exact x
  .exact y.diag e c a
def cP.cells(h:cP v):∀c∈v.cells.toList,cP c:=λc a b=>(h b).cells.diag rfl c a
def cP.agg{c:Array Value}(h:∀v∈c.toList,cP v):cP (.agg c):=λa=>.agg (bG.jf λv b=>h v b a)
def StI{β:Type}(I:β->Prop):ForInStep β->Prop
 |.done b=>I b
 |.yield b=>I b
def afc{e β:Type}{I:β->Prop}:∀(l:List e) {b c:β} {f:e->β->Option (ForInStep β)},forIn l b f=some c->I b->(∀a b r,I b->f a b=some r->StI I r)->I c
 |[],b,c,f,h,hb,_=>by
  rw[tp] at h;obtain rfl:=de h;exact hb
 |a::l,b,c,f,h,hb,hf=>by
  rw[sZ] at h;cases d:f a b with
  |none=>rw[d] at h;cases h
  |some r=>
   rw[d] at h;have:=hf a b r hb d;cases r with
   |done x=>
    obtain rfl:=de h;exact this
   |yield x=>exact afc l h this hf
def ahu(F:∀t i v,L t=some i->i.zero=some v->cP v){E:Array Field}(h:Made.reckonStruct L E=some i):∀v,i.zero=some v->cP v:=by
 unfold Made.reckonStruct at h;dsimp only at h;obtain⟨s,A,h⟩:=me.1 h;rw[<-sG] at A;have w:=afc (I:=λs:Array Field×Nat×Nat×Nat×Nat×Bool×Bool×Option (Array Value)×String=>∀k,s.2.2.2.2.2.2.2.1=some k->∀v∈k.toList,cP v) _ A (λk e v l=>by
  obtain rfl:=de e;cases l) λf B r D g=> ?_
 .intro v l;have y:i.zero=s.2.2.2.2.2.2.2.1.map Value.agg:=by
   split at h<;>(obtain rfl:=de h;rfl)
  rw[y] at l;cases u:s.2.2.2.2.2.2.2.1 with
  |none=>rw[u] at l;cases l
  |some k=>
   rw[u] at l;obtain rfl:=de l;exact cP.agg (w k u)
 .obtain⟨j,G,g⟩:=me.1 g;have m:∀k,(if B.2.1+j.size>Made.mostCells then none else do
     let a<-B.2.2.2.2.2.2.2.1
     let b<-j.zero
     pure (a++b.cells):Option (Array Value))=some k->∀v∈k.toList,cP v:=λk e v l=>by
   split at e
   .cases e
   .obtain⟨a,H,e⟩:=me.1 e;obtain⟨b,o,e⟩:=me.1 e;obtain rfl:=de e;rw[nq,jt] at l;rcases l with l|l
    .exact D a H v l
    .exact(F _ _ _ G o).cells v l
  have n:∀(z:Option (Array Value)) (a:Array Field) (b c d e:Nat) (p q:Bool) (x:String),(∀k,z=some k->∀v∈k.toList,cP v)->(some (ForInStep.yield (a,b,c,d,e,p,q,z,x)):Option (ForInStep (Array Field×Nat×Nat×Nat×Nat×Bool×Bool×Option (Array Value)×String)))=some r->
    StI (λb=>∀k,b.2.2.2.2.2.2.2.1=some k->∀v∈k.toList,cP v) r:=λz a b c d e p q x y h=>by
   obtain rfl:=de h;exact y
  split at g
  .cases g
  .split at g
   .cases g
   .split at g
    .obtain⟨C, -,g⟩:=me.1 g;by_cases o:j.bytes=0
     .rw[dj o] at g;exact n _ _ _ _ _ _ _ _ _ m g
     .rw[bd o] at g;exact n _ _ _ _ _ _ _ _ _ m g
    .obtain⟨C, -,g⟩:=me.1 g;by_cases o:j.bytes=0
     .rw[dj o] at g;exact n _ _ _ _ _ _ _ _ _ m g
     .rw[bd o] at g;exact n _ _ _ _ _ _ _ _ _ m g
def am5(q:∀t i v,L t=some i->i.zero=some v->cP v){d:TypeDesc}(h:Made.reckon L d=some i):∀v,i.zero=some v->cP v:=by
 have f:∀(d:TypeDesc) (s:String) (z:Value) (c:Bool) (b:Nat),cP z->Made.word d s z c b=i->∀v,i.zero=some v->cP v:=λd s z c b p e v a=>by
  subst e;obtain rfl:=de a;exact p
 unfold Made.reckon at h;cases d with
 |struct w=>exact ahu q h
 |pointer e=>
  obtain⟨j,l,h⟩:=me.1 h;have fin:∀{o:Option String},(do pure (Made.word (.pointer e) ("*" ++(<-o)) (.pointer none) true))=some i->∀v,i.zero=some v->cP v:=λ{o} h=>by
   obtain⟨s,g,h⟩:=me.1 h;exact f _ _ _ _ _ (λ_=>.pointer .none) (de h)
  split at h
  .cases h
  .split at h
   .cases h
   .exact fin h
  .exact fin h
 |slice e=>
  obtain⟨j,l,h⟩:=me.1 h;obtain⟨s,g,h⟩:=me.1 h;exact f _ _ _ _ _ (λ_=>.slice .none 0 0) (de h)
 |map k e=>
  obtain⟨j,l,h⟩:=me.1 h;obtain⟨s,g,h⟩:=me.1 h;obtain⟨j,l,h⟩:=me.1 h;obtain⟨s,g,h⟩:=me.1 h;exact f _ _ _ _ _ (λ_=>.map .none) (de h)
 |chan k e=>
  obtain⟨j,l,h⟩:=me.1 h;obtain⟨s,g,h⟩:=me.1 h;exact f _ _ _ _ _ (λ_=>.chan .none) (de h)
 |func x r v=>
  obtain⟨s,g,h⟩:=me.1 h;exact f _ _ _ _ _ (λ_=>.nilFunc) (de h)
 |array n e=>
  obtain⟨j,l,h⟩:=me.1 h;obtain⟨s,g,h⟩:=me.1 h;obtain rfl:=de h;intro v a;dsimp only at a;split at a
  .cases a
  .split at a
   .obtain rfl:=de a;exact cP.agg λv a=>by cases a
   .cases p:j.zero with
    |none=>rw[p] at a;cases a
    |some z=>
     rw[p] at a;obtain rfl:=de a;refine cP.agg λv a=>(q _ _ _ l p).cells v ?_;simp only[ru,Array.mem_flatten] at a;obtain⟨u,m,a⟩:=a;rw[Array.mem_replicate] at m;rw[<-m.2];exact ru.2 a
 |_=>cases h
def am6(c:∀(t:Nat) (i:TypeInfo) (v:Value),P.types[t]?=some i->i.zero=some v->cP v):∀t i v,P.info? t=some i->i.zero=some v->cP v:=by
 have b:∀(f:Nat) t i v,Made.infoAt P.toTables f t=some i->i.zero=some v->cP v:=by
  intro f
  induction f with
  |zero=>intro t i v h;cases h
  |succ f e=>
   intro t i v h a;unfold Made.infoAt at h;split at h
   .exact c t i v h a
   .obtain⟨d,hd,h⟩:=me.1 h;exact am5 e h v a
 intro t i v h a;unfold Tables.info? at h;split at h
 .exact c t i v h a
 .exact b _ t i v h a
noncomputable def zOk(t:Nat):Bool:=match prog.types[t]? with
 |some i=>match i.zero with
  |some v=>lZ (λ_=>false) 6 v
  |none=>true
 |none=>true
def arP:(List.range prog.types.size).all zOk=true:=by kernel_rfl
def abz:∀(d:Nat) (v:Value),lZ (λ_=>false) d v=true->cP v
 |0,v,h=>by cases h
 |d+1,v,h=>by
  have g:∀l:List Value,l.all (lZ (λ_=>false) d)=true->∀e:Ren,bG e l l:=λl i e=>bG.jf λv j=>abz d v (ip.1 i v j) e;intro e;cases v with
  |bool b=>exact .bool b
  |int k n=>exact .int k n
  |string s=>exact .string s
  |nilFunc=>exact .nilFunc
  |nilIface=>exact .nilIface
  |pointer a=>cases a with
   |none=>exact .pointer .none
   |some a=>cases h
  |slice a n c=>cases a with
   |none=>exact .slice .none n c
   |some a=>cases h
  |map a=>cases a with
   |none=>exact .map .none
   |some a=>cases h
  |chan a=>cases a with
   |none=>exact .chan .none
   |some a=>cases h
  |func f a c=>
   unfold lZ at h;simp only[eg] at h;cases f<;>(have:=h.1.1;cases this)
  |iface t v=>exact .iface t (abz d v h e)
  |agg c=>exact .agg (g _ h e)
  |tuple c=>exact .tuple (g _ h e)
  |float|complex=>cases h
def au3:∀t i v,prog.info? t=some i->i.zero=some v->cP v:=am6 λt i v h b=>by
 have a:=(db.1 h).1;have:=ip.1 arP t (ph.2 a);unfold zOk at this;rw[h] at this;dsimp only at this;rw[b] at this;exact abz 6 v this
noncomputable def alF(fn:Func):Bool:=!(fn.name == "runtime.NumGoroutine")
def ahv:prog.funcs.toList.all alF=true:=by kernel_rfl
def afd{a:FuncId->Bool}{b:List Nat}{o:Op}(h:kx P a b o=true)(g:Nat):o ≠ .ready g:=λe=>by
 subst e;unfold kx at h;simp at h
def aeK(P:Program)(t:FuncId->Bool)(r:List Nat)(s:TypeId):∀c:Code,readies (bF P t r s c)=[]:=by
 intro c
 induction c with
 |region id u draw=>
  unfold bF;have m:∀l:List Oper,(∀o∈l,∀g,o.op ≠ .ready g)->(l.filterMap λo=>match o.op with|.ready g=>some g|_=>none)=[]:=by
   intro l v;rw[List.filterMap_eq_nil_iff];intro o k;split
   .rename_i g e;exact absurd e (v o k g)
   .rfl
  split
  .rename_i h;exact m _ λo k g=>afd (ip.1 h o k) g
  .split
   .rename_i h;refine m _ λo k g e=> ?_;rw[pZ,lP] at k;obtain⟨p,w,rfl⟩:=k;have j:=ip.1 h p w;have q:(nY t r s p).op=p.op:=by unfold nY;split<;>rfl
    rw[q] at e;simp only[qs] at j;rcases j with j|j
    .exact afd j g e
    .rw[e] at j;cases j
   .rfl
 |seq a b i d=>unfold bF readies;rw[i,d];rfl
 |cond c a b i d=>
  unfold bF;split
  .unfold readies;rw[i,d];rfl
  .rfl
 |rangeFunc f x a b i d=>
  unfold bF;split
  .unfold readies;rw[i,d];rfl
  .rfl
 |block id a n=>unfold bF readies;exact n
 |loop a n=>unfold bF readies;exact n
 |scope a n=>unfold bF readies;exact n
 |_=>rfl
def arQ(P:Program)(m:Array Func)(k:FuncId->Bool)(i:List Nat)(j:TypeId):∀c:Code,bF {P with funcs:=m} k i j c=bF P k i j c:=by
 intro c
 induction c with
 |region id l draw=>rfl
 |seq a b e d=>unfold bF;rw[e,d]
 |cond c a b e d=>unfold bF;rw[e,d]
 |rangeFunc f n a b e d=>unfold bF;rw[e,d]
 |block id a g=>unfold bF;rw[g]
 |loop a g=>unfold bF;rw[g]
 |scope a g=>unfold bF;rw[g]
 |_=>rfl
section
variable (β:Bool)
def abA:(aj β).funcs[nCC]?=some qCC:=by
 have:nCC<(prog.funcs.map pf).size:=by rw[rZ];exact(db.1 func198).1
 show(((prog.funcs.map pf).setIfInBounds bX (qFA β)).setIfInBounds nCC qCC)[nCC]?=_;rw[oi (by simpa using this)]
def abB:(aj β).funcs[bX]?=some (qFA β):=by
 have:bX<(prog.funcs.map pf).size:=by rw[rZ];exact(db.1 func67).1
 show(((prog.funcs.map pf).setIfInBounds bX (qFA β)).setIfInBounds nCC qCC)[bX]?=_;rw[gc (by decide),oi this]
def ajt{f:Nat}(a:f≠nCC)(b:f≠bX):(aj β).funcs[f]?=(prog.funcs[f]?).map pf:=by
 show(((prog.funcs.map pf).setIfInBounds bX (qFA β)).setIfInBounds nCC qCC)[f]?=_;rw[gc (rY a),gc (rY b),qB]
def au4:(aj β).funcs.size=prog.funcs.size:=by
 show(((prog.funcs.map pf).setIfInBounds bX (qFA β)).setIfInBounds nCC qCC).size=_;simp
end
def awF:gH nCC=true:=by unfold gH;kernel_rfl
def aju:readies iV=[]:=by kernel_rfl
def awG:gH bX=true:=by unfold gH;kernel_rfl
def awH:prog.follows .staticDataAhead=true:=by kernel_rfl
def awI:prog.underlying 3=some (.int .i64):=by kernel_rfl
def alG:f198.body.isSome=true:=by kernel_rfl
def alH:f67.body.isSome=true:=by kernel_rfl
section
variable (β:Bool)
def aoX(g:Nat):(aj β).stepOf g=none:=by
 unfold Program.stepOf;rw[Array.findIdx?_eq_none_iff];intro k b;obtain⟨f,a⟩:=Array.getElem?_of_mem b;by_cases e:f=nCC
 .subst e;rw[abA] at a;obtain rfl:=de a;show((some lv).map readies).any (·.contains g)=false;rfl
 by_cases d:f=bX
 .subst d;rw[abB] at a;obtain rfl:=de a;cases β with
  |true=>
   show(readies iV).contains g=false;rw[aju];rfl
  |false=>rfl
 rw[ajt β e d] at a;obtain⟨i,j,rfl⟩:=ga.1 a;show((i.body.map gP).map readies).any (·.contains g)=false;cases i.body with
 |none=>rfl
 |some c=>
  show(readies (gP c)).contains g=false;have:readies (gP c)=[]:=by unfold gP;exact aeK _ _ _ _ c
  rw[this];rfl
def cu{f:Nat}(h:prog.funcs[f]?=some fn):(fn.name == "runtime.NumGoroutine")=false:=by
 have:=ip.1 ahv fn (ru.2 (pS h));unfold alF at this;simpa using this
def agi(f:FuncId)(fn:Func)(h:(aj β).funcs[f]?=some fn):∃b,prog.funcs[f]?=some b/\FnR (gH f) fn b:=by
 by_cases k:f=nCC
 .subst k;rw[abA] at h;obtain rfl:=de h;have g:=cu func198;refine⟨_,func198,rfl,g,rfl,rfl,rfl,λe=>(by cases e),λc _=> ?_⟩;obtain⟨d,a⟩:=qO.1 alG;exact⟨d,a,λe=>by rw[awF] at e;cases e⟩
 by_cases j:f=bX
 .subst j;rw[abB] at h;obtain rfl:=de h;have g:=cu func67;refine⟨_,func67,rfl,g,rfl,rfl,rfl,λe=>(by cases e),λc _=> ?_⟩;obtain⟨d,a⟩:=qO.1 alH;exact⟨d,a,λe=>by rw[awG] at e;cases e⟩
 rw[ajt β k j] at h;obtain⟨b,i,rfl⟩:=ga.1 h;have g:=cu i;refine⟨b,i,rfl,g,rfl,rfl,rfl,λe=> ?_,λc e=> ?_⟩
 .have e:b.body.map gP=none:=e;have:b.body=none:=by simpa using e
  unfold pf;rw[this];cases b;dsimp only at this;subst this;rfl
 .have e:b.body.map gP=some c:=e;obtain⟨d,a,rfl⟩:=ga.1 e;exact⟨d,a,λ_=>rfl⟩
def kh:Twin (aj β) prog where
 info t:=(iW prog _ t).symm
 under t:=(cA prog _ t).symm
 rt:=rfl
 depth:=(ac0 prog _).symm
 globals:=by unfold gN;exact⟨rfl,rfl⟩
 zero t i v h hv ρ:=au3 t i v ((iW prog _ t).symm.trans h) hv ρ
 stood t:=(ac2 prog _ t).symm
 atG:=rfl
 cellAt d e c o b:=(aoV prog _ d e c o b).symm
 lies d e c o u n:=(aoW prog _ d e c o u n).symm
 ajf d t:=(agh prog _ d t).symm
 follows d:=(afb prog _ d).symm
 pc:=by
  unfold gP
  funext c
  exact(arQ prog _ gA gL gB c).symm
 arp e h:=by
  have a:gB=3:=by unfold gB;rfl
  rw[a] at h;have:=((cA prog _ 3).symm.trans h);rw[awI] at this;cases this
 func:=agi β
 ahj:=(au4 β).symm
 lu:=⟨(afb prog _ _).trans awH,aoX β⟩
end
def agj{r:W->W->Prop}{a:W}(h:∀f:Nat->W,f 0=a->¬ ∀n,r (f (n+1)) (f n)):Acc r a:=by
 refine pW λe=> ?_;have step:∀x:{x:W // ¬Acc r x},∃y:{x:W // ¬Acc r x},r y.1 x.1:=λx=>pW λd=>x.2 ⟨_,λy c=>pW λb=>d ⟨⟨y,b⟩,c⟩⟩
 let f:Nat->{x:W // ¬Acc r x}:=λn=>Nat.rec ⟨a,e⟩ (λ_ x=>(step x).choose) n
 exact h (λn=>(f n).1) rfl λn=>(step (f n)).choose_spec
def ly(g:Goroutine)(w:World):Machine:={world:=w,gs:=#[g],rest:={timers:=#[],alone:=none,slice:=none}}
def fK(h:ly g w=ly g' w'):g=g'/\w=w':=by
 unfold ly at h;simp only[Machine.mk.injEq,Array.mk.injEq,qy,qn] at h;exact⟨h.2,h.1⟩
def ahw(a:g.status=.running):move P (ly g w)=.goroutine (ly g w) 0:=by
 simp[move,ask,askOn,ly,runnable_eq,due,ahead,Goroutine.canRun,uK,choose,pure,Sem.run,Question.forced,a]
def dh(a:g.status=.running)(h:stepG P true g w=.go g' w' es):step P (ly g w)=.next (ly g' w'):=by
 rw[step,stepT,ahw a];simp[runT,ly,Array.swapAt!,h]
def bY{o:Outcome}(a:g.status=.running)(h:stepG P true g w=.ended o w' es):step P (ly g w)=.ended o w':=by
 rw[step,stepT,ahw a];simp[runT,ly,Array.swapAt!,h]
def abC(c:g.status=.blocked):∃o b,step P (ly g w)=.ended o b:=by
 rw[step,stepT];have:∃s a,move P (ly g w)=.machine s a/\∃o b,s=.ended o b:=by
  simp only[move,ask,askOn,ly,runnable_eq,due,ahead,Goroutine.canRun,c];simp[uK,choose,pure,Sem.run,Question.forced,c];generalize endWith _ _ _ _=q;cases q<;>exact⟨_,⟨_,rfl⟩,_,_,rfl⟩
 obtain⟨s,a,d,o,b,rfl⟩:=this;rw[d];exact⟨o,b,rfl⟩
def abD(a:g.status=.waiting):step P (ly g w)=.next (ly g w):=by
 rw[step,stepT];have:move P (ly g w)=.machine (.next (ly g w)):=by
  simp[move,ask,askOn,ly,runnable_eq,due,ahead,Goroutine.canRun,uK,choose,pure,Sem.run,Question.forced,a]
 rw[this]
def iX(P:Program):Frame:={fn:=P.funcs.size,tmps:=#[],todo:=[.call ⟨.nil,#[]⟩ false "fmt's door" #[]],defers:=[],mode:=.run,kind:=.normal}
def aoY(base:List Frame)(g:Goroutine):Prop:=g.callers=base/\g.frame.mode=.returning/\g.frame.defers=[]/\g.status=.running/\g.dying=none
section
variable {P:Program}
def pw{g:Goroutine}{w:World}(h:g.status=.blocked\/g.status=.waiting):∀n a b,runN P n (ly g w)=.next (ly a b)->¬aoY [iX P] a
 |0,a,b,hr,hf=>by
  simp only[runN,qc] at hr;obtain⟨rfl,rfl⟩:=fK hr;rcases h with h|h<;>rw[hf.2.2.2.1] at h<;>cases h
 |n+1,a,b,hr,hf=>by
  unfold runN at hr;rcases h with h|h
  .obtain⟨o,d,c⟩:=abC (P:=P) (w:=w) h;rw[c] at hr;cases hr
  .rw[abD h] at hr;exact pw (.inr h) n a b hr hf
def ab5:∀(n:Nat) {a:Frame} {w:World} {d:Dying} {f:Fatal},d.fatal=some f->d.calling=false->∀b g,runN P n (ly ⟨a,[],.running,some d,none⟩ w)=.next (ly b g)->¬aoY [iX P] b
 |0,a,w,d,f,h1,h2,b,g,hr,hf=>by
  simp only[runN,qc] at hr;obtain⟨rfl,rfl⟩:=fK hr;have:=hf.2.2.2.2;cases this
 |n+1,a,w,d,f,h1,h2,b,g,hr,hf=>by
  unfold runN at hr;have m:(∃o c i,stepG P true ⟨a,[],.running,some d,none⟩ w=.ended o c i)\/
    ∃k l c i,(k=.running\/k=.blocked)/\stepG P true ⟨a,[],.running,some d,none⟩ w=.go ⟨a,[],k,some {d with fatal:=some l},none⟩ c i:=by
   obtain⟨r,p,e,j,s,hand,fatal⟩:=d;dsimp only at h1 h2;subst h1 h2;simp only[stepG,die,writeOn];split
   .exact .inl ⟨_,_,_,rfl⟩
   .split
    .exact .inr ⟨_,_,_,_,.inl rfl,rfl⟩
    .exact .inr ⟨_,_,_,_,.inr rfl,rfl⟩
    .exact .inl ⟨_,_,_,rfl⟩
    .exact .inl ⟨_,_,_,rfl⟩
  rcases m with⟨o,c,i,h⟩|⟨k,l,c,i,q,h⟩
  .rw[bY rfl h] at hr;cases hr
  .rw[dh rfl h] at hr;rcases q with rfl|rfl
   .exact ab5 n (d:={d with fatal:=some l}) (f:=l) rfl h2 b g hr hf
   .exact pw (.inl rfl) n b g hr hf
def aoZ{b:Nat}(e:∀x l,w.heap[b]?≠some (.deferred (some (x::l)))):(∃h c a,(Instr.takeDeferred b).runT P w #[]=(.halt h c,a))\/∃a,(Instr.takeDeferred b).runT P w #[]=(.ok [] {w with heap:=w.heap.setIfInBounds b (.deferred none)},a):=by
 unfold Instr.takeDeferred;show(∃h c a,(Sem.getObj b λo=>_).runT P w #[]=_)\/∃a,(Sem.getObj b λo=>_).runT P w #[]=_;rw[Sem.runT];cases d:w.heap[b]? with
 |none=>exact .inl ⟨_,_,_,rfl⟩
 |some o=>
  cases o with
  |deferred q=>
   cases q with
   |none=>exact .inl ⟨_,_,_,rfl⟩
   |some l=>
    cases l with
    |cons x l=>exact absurd d (e x l)
    |nil=>
     refine .inr ⟨(#[].push ⟨.obj b,false,false⟩).push ⟨.obj b,true,false⟩, ?_⟩;show(Sem.setObj b (.deferred none) (Sem.pure [])).runT P w (#[].push ⟨.obj b,false,false⟩)=_;rw[Sem.runT,d];show(Sem.pure []).runT P {w with heap:=w.heap.setIfInBounds b (.deferred none)} _=_;rw[Sem.runT];rfl
  |_=>exact .inl ⟨_,_,_,rfl⟩
def vu(fr:Frame)(b:List PanicEntry):∃a,(fr.raise b).mode=.panicking a:=by
 unfold Frame.raise;split<;>exact⟨_,rfl⟩
def aaD(fr:Frame)(a:List PanicEntry):(fr.raise a).defers=fr.defers:=by
 unfold Frame.raise;split<;>rfl
def ajv(a:List PanicEntry):((iX P).raise a).catches P=true:=by
 have h:P.funcs[P.funcs.size]?=none:=by rw[pe];exact ap _
 show(match P.funcs[P.funcs.size]?,[Item.call ⟨.nil,#[]⟩ false "fmt's door" #[]] with
  |none,.call _ _ resume _::_=>resume.startsWith "fmt's door"
  |_,_=>false)=true
 rw[h];show "fmt's door".startsWith "fmt's door" =true
 decide+kernel
def lz:∀(n:Nat) {A:Frame} {i:List Frame} {w:World} {a:List PanicEntry},A.mode=.panicking a->((∀f∈A::i,jl w f.defers)\/False)->∀z B,runN P n (ly ⟨A,i++[iX P],.running,none,none⟩ w)=.next (ly z B)->¬aoY [iX P] z
 |0,A,i,w,a,hm,_,z,B,hr,hf=>by
  simp only[runN,qc] at hr;obtain⟨rfl,rfl⟩:=fK hr;have:=hf.2.1;rw[hm] at this;cases this
 |n+1,A,i,w,a,hm,hd,z,B,hr,hf=>by
  replace hd:=hd.resolve_right id;unfold runN at hr;obtain⟨f,q,p,s,L,m,k⟩:=A;dsimp only at hm;subst hm;have C:stepG P true ⟨⟨f,q,p,s,.panicking a,m,k⟩,i++[iX P],.running,none,none⟩ w=unwind P true ⟨f,q,p,s,.panicking a,m,k⟩ (i++[iX P]) none w:=rfl;cases s with
  |cons d s=>
   obtain⟨b,rfl,I⟩:=hd _ (qz ..) d (qz ..);have F:(∃o j g,unwind P true ⟨f,q,p,⟨.collected b,#[]⟩::s,.panicking a,m,k⟩ (i++[iX P]) none w=.ended o j g)\/
     ∃g,unwind P true ⟨f,q,p,⟨.collected b,#[]⟩::s,.panicking a,m,k⟩ (i++[iX P]) none w=.go ⟨⟨f,q,p,s,.panicking a,m,k⟩,i++[iX P],.running,none,none⟩ {w with heap:=w.heap.setIfInBounds b (.deferred none)} g:=by
    rcases aoZ (P:=P) I with⟨h,j,g,e⟩|⟨g,e⟩
    .refine .inl ⟨.stuck "the deferred calls of a range-over-func loop have been taken" (Frame.pos P ⟨f,q,p,⟨.collected b,#[]⟩::s,.panicking a,m,k⟩),j,seen P f g, ?_⟩;unfold unwind;simp only[e];simp[GStep.after]
    .refine .inr ⟨seen P f g, ?_⟩;unfold unwind;simp only[e];simp[GStep.after]
   rcases F with⟨o,j,g,h⟩|⟨g,h⟩
   .rw[bY rfl (C.trans h)] at hr;cases hr
   .rw[dh rfl (C.trans h)] at hr;refine lz n rfl (.inl λx u=> ?_) z B hr hf;have D:jl w x.defers:=by
     rcases lw.1 u with rfl|u
     .exact λd v=>hd _ (qz ..) d (qq _ v)
     .exact hd x (by simp[u])
    intro d v;obtain⟨c,rfl,K⟩:=D d v;exact⟨c,rfl,λy l e=>by
     change (w.heap.setIfInBounds b (.deferred none))[c]?=_ at e;rw[oR] at e;split at e
     .split at e
      .cases e
      .cases e
     .exact K y l e⟩
  |nil=>
   by_cases t:Frame.catches P ⟨f,q,p,[],.panicking a,m,k⟩=true
   .have h:∃o j g,unwind P true ⟨f,q,p,[],.panicking a,m,k⟩ (i++[iX P]) none w=.ended o j g:=by
     unfold unwind;simp only[t,mw];exact⟨_,_,_,rfl⟩
    obtain⟨o,j,g,h⟩:=h;rw[bY rfl (C.trans h)] at hr;cases hr
   .cases i with
    |nil=>
     have h:unwind P true ⟨f,q,p,[],.panicking a,m,k⟩ ([]++[iX P]) none w=.go ⟨(iX P).raise a,[],.running,none,none⟩ w #[]:=by
      unfold unwind;simp only[t,qX];rfl
     rw[dh rfl (C.trans h)] at hr;cases n with
     |zero=>
      simp only[runN,qc] at hr;obtain⟨rfl,rfl⟩:=fK hr;have:=hf.1;cases this
     |succ n=>
      unfold runN at hr;obtain⟨G,r⟩:=vu (iX P) a;have E:∃o j g,stepG P true ⟨(iX P).raise a,[],.running,none,none⟩ w=.ended o j g:=by
       have H:stepG P true ⟨(iX P).raise a,[],.running,none,none⟩ w=unwind P true ((iX P).raise a) [] none w:=by
        simp only[stepG,r]
       rw[H];unfold unwind;have J:((iX P).raise a).defers=[]:=(aaD _ _).trans rfl;rw[J];simp only[r,ajv,mw];exact⟨_,_,_,rfl⟩
      obtain⟨o,j,g,E⟩:=E;simp only[bY rfl E] at hr;cases hr
    |cons c i=>
     have h:unwind P true ⟨f,q,p,[],.panicking a,m,k⟩ (c::i++[iX P]) none w=.go ⟨c.raise a,i++[iX P],.running,none,none⟩ w #[]:=by
      unfold unwind;simp only[t,qu];rfl
     rw[dh rfl (C.trans h)] at hr;obtain⟨G,r⟩:=vu c a;refine lz n r (.inl λx u=> ?_) z B hr hf;rcases lw.1 u with rfl|u
     .rw[aaD];exact hd c (by simp)
     .exact hd x (by simp[u])
def am7{s:GStep}(h:kV [iX P] s):(∃o w a,s=.ended o w a)\/∃g w a,s=.go g w a/\∀n b e,runN P n (ly g w)=.next (ly b e)->¬aoY [iX P] b:=by
 cases h with
 |ended o w a=>exact .inl ⟨_,_,_,rfl⟩
 |stop h=>exact .inr ⟨_,_,_,rfl,pw h⟩
 |raised c hd=>exact .inr ⟨_,_,_,rfl,λn=>lz n c (.inl hd)⟩
 |dying d f=>exact .inr ⟨_,_,_,rfl,λn=>ab5 n d f⟩
end
structure Cfg where
 l:List Frame
 w:World
 t:Tape
structure adB (P:Program) (c c1:Cfg):Prop where
 ne:c.l≠[]
 on:¬mN c.l
 drawn:c.w.drawn<=c1.w.drawn
 tape:∀i q,i<c.w.drawn->c1.t i q=c.t i q
 step:∃es,∀(base:List Frame) (t:Tape),(∀i q,i<c1.w.drawn->t i q=c1.t i q)->stepG P true (Gl c.l base) (c.w.tap t)=.go (Gl c1.l base) (c1.w.tap t) es
def iY(P:Program)(R:List Frame->World->Prop)(c:Cfg):Prop:=
 ∀t:Tape,(∀i q,i<c.w.drawn->t i q=c.t i q)->∃n a b,runN P n (ly (Gl c.l [iX P]) (c.w.tap t))=.next (ly (Gl a [iX P]) b)/\mN a/\R a b
section
variable {P:Program} {R:List Frame->World->Prop}
def ij(h:l≠[])(base:List Frame):(Gl l base).status=.running:=by
 cases l with
 |nil=>exact absurd rfl h
 |cons x a=>rfl
def lA{base : List Frame}(h:l≠[])(a:l'≠[])(e:Gl l base=Gl l' base):l=l':=by
 cases l with
 |nil=>exact absurd rfl h
 |cons x c=>
  cases l' with
  |nil=>exact absurd rfl a
  |cons y b=>
   unfold Gl at e;simp only[Goroutine.mk.injEq,List.append_cancel_right_eq] at e;rw[e.1,e.2.1]
def mN.ne(h:mN l):l≠[]:=by
 obtain⟨a,rfl, -⟩:=h;exact λe=>by cases e
def mN.fin(h:mN l)(base:List Frame):aoY base (Gl l base):=by
 obtain⟨c,rfl,a,b, -⟩:=h;exact⟨rfl,a,b,rfl,rfl⟩
def iY.step{c c1:Cfg}(h:iY P R c)(a:adB P c c1):iY P R c1:=λt f=>by
 obtain⟨o,k⟩:=a.step;obtain⟨n,m,j,b,d,l⟩:=h t λi q g=>by
  rw[f i q (aE g a.drawn),a.tape i q g]
 cases n with
 |zero=>
  simp only[runN,qc] at b;obtain⟨e, -⟩:=fK b;obtain rfl:=lA a.ne d.ne e;exact absurd d a.on
 |succ n=>
  unfold runN at b;rw[dh (ij a.ne _) (k [iX P] t f)] at b;exact⟨n,m,j,b,d,l⟩
def iY.acc{c:Cfg}(h:iY P R c):Acc (λw c=>adB P c w) c:=by
 classical
 refine agj λf x a=> ?_;subst x;have t:∀{m n},m<=n->(f m).w.drawn<=(f n).w.drawn:=λ{m n} b=>by
  induction b with
  |refl=>exact ap _
  |step _ o=>exact am o (a _).drawn
 have j:∀{m n},m<=n->∀i q,i<(f m).w.drawn->(f n).t i q=(f m).t i q:=λ{m n} b=>by
  induction b with
  |refl=>exact λ_ _ _=>rfl
  |step r o=>exact λi q l=>((a _).tape i q (aE l (t r))).trans (o i q l)
 let T:Tape:=λi q=>if d:∃n,i<(f n).w.drawn then(f d.choose).t i q else 0
 have u:∀n i q,i<(f n).w.drawn->T i q=(f n).t i q:=λn i q l=>by
  have d:∃n,i<(f n).w.drawn:=⟨n,l⟩;show(if d:∃n,i<(f n).w.drawn then(f d.choose).t i q else 0)=_;rw[sN d];rcases Nat.le_total d.choose n with g|g
  .exact(j g i q d.choose_spec).symm
  .exact j g i q l
 have s:∀n,Go.step P (ly (Gl (f n).l [iX P]) ((f n).w.tap T))=.next (ly (Gl (f (n+1)).l [iX P]) ((f (n+1)).w.tap T)):=λn=>by
  obtain⟨B,z⟩:=(a n).step;exact dh (ij (a n).ne _) (z _ T (u (n+1)))
 have y:∀n k,runN P n (ly (Gl (f k).l [iX P]) ((f k).w.tap T))=.next (ly (Gl (f (k+n)).l [iX P]) ((f (k+n)).w.tap T)):=by
  intro n
  induction n with
  |zero=>intro k;rfl
  |succ n o=>
   intro k;unfold runN;rw[s k];simp only;rw[o (k+1),show k+1+n=k+(n+1) by omega]
 obtain⟨n,C,A,v,p, -⟩:=h T (u 0);rw[y n 0,qc] at v;obtain⟨e, -⟩:=fK v;obtain rfl:=lA (a (0+n)).ne p.ne e;exact(a (0+n)).on p
def iY.fin{c:Cfg}(h:iY P R c)(u:mN c.l)(C:Extern.next "fmt's door" =none)(t:Tape)(z:∀i q,i<c.w.drawn->t i q=c.t i q):R c.l (c.w.tap t):=by
 obtain⟨n,K,E,a,g,D⟩:=h t z;cases n with
 |zero=>
  simp only[runN,qc] at a;obtain⟨e,rfl⟩:=fK a;obtain rfl:=lA u.ne g.ne e;exact D
 |succ n=>
  exfalso;obtain⟨j,A,x,hd,p⟩:=u;rw[A] at a;have k:(∃o b d,stepG P true (Gl [j] [iX P]) (c.w.tap t)=.ended o b d)\/∃v b d,stepG P true (Gl [j] [iX P]) (c.w.tap t)=.go ⟨(iX P).finish v,[],.running,none,none⟩ b d:=by
   obtain⟨f,l,w,H,G,F,m⟩:=j;dsimp only at x hd p;subst x hd p;have y:stepG P true (Gl [⟨f,l,w,[],.returning,.normal,m⟩] [iX P]) (c.w.tap t)=unwind P true ⟨f,l,w,[],.returning,.normal,m⟩ [iX P] none (c.w.tap t):=rfl;rw[y];unfold unwind;dsimp only;cases J:P.funcs[f]? with
   |none=>exact .inr ⟨_,_,_,rfl⟩
   |some B=>
    dsimp only;generalize (results B l).runT P (c.w.tap t) #[]=q;obtain⟨r,d⟩:=q;cases r with
    |ok v b=>exact .inr ⟨v,b,_,rfl⟩
    |halt h b=>cases h<;>exact .inl ⟨_,_,_,rfl⟩
  unfold runN at a;rcases k with⟨o,b,d,e⟩|⟨v,b,d,e⟩
  .rw[bY rfl e] at a;cases a
  .rw[dh rfl e] at a;cases n with
   |zero=>
    simp only[runN,qc] at a;obtain⟨e, -⟩:=fK a;obtain⟨I,rfl, -⟩:=g;have:=ef Goroutine.callers e;cases this
   |succ n=>
    unfold runN at a;have s:stepG P true ⟨(iX P).finish v,[],.running,none,none⟩ b=(Extern.next "fmt's door").elim (.ended (.stuck ("no extern row " ++ "fmt's door") (Frame.pos P ((iX P).finish v))) b #[]) λe=>stepG.apply P true ((iX P).finish v) [] none (e (#[].push v)) b:=rfl;rw[C] at s;simp only[bY rfl s] at a;cases a
end
section
variable {P P':Program} {R:List Frame->World->Prop} {ρ:Ren}
def sim(T:Twin P P')(X:aho P P')(C:GlR ρ){c:Cfg}(m':Bool)(y:gz P ρ c.l l')(K:WR ρ c.w w')(x:¬mN c.l)(z:iY P R c) :
  ∃m k d p l f,adB P c m/\iY P R m/\ρ.Le k/\(∀base,stepG P' m' (Gl l' base) w'=.go (Gl d base) p f)/\WR k m.w p/\Kept ρ k c.w w' m.w p/\EvW c.w k l f/\GoR P P' k m.l d:=by
 obtain⟨a,D,H⟩:=au2 (P:=P) (P':=P') T X C true m' y K x;have b:c.l≠[]:=λe=>by rw[e] at y;cases y
 rcases H with H|⟨k,O,s,l,d,p,f,G,Q,M,F,J,N,I,L⟩
 .exfalso;have B:=H [iX P] (λi q=>if i<c.w.drawn then c.t i q else a i q) λi q r _=>bd (by omega);obtain⟨n,U,V,j,v, -⟩:=z (λi q=>if i<c.w.drawn then c.t i q else a i q) λi q r=>dj r;cases n with
  |zero=>
   simp only[runN,qc] at j;obtain⟨e, -⟩:=fK j;obtain rfl:=lA b v.ne e;exact x v
  |succ n=>
   unfold runN at j;rcases am7 B with⟨o,w,l,e⟩|⟨g,w,l,e,u⟩
   .rw[bY (ij b _) e] at j;cases j
   .rw[dh (ij b _) e] at j;exact u n _ _ j (v.fin _)
 .have A:adB P c ⟨O,s,λi q=>if i<c.w.drawn then c.t i q else a i q⟩:=
   ⟨b,x,by show c.w.drawn<=s.drawn;omega,λi q r=>dj r,l,λbase t E=>G base t λi q r S=>by
    rw[E i q (by show i<s.drawn;omega)];exact bd (by omega)⟩
  exact⟨_,k,d,p,l,f,A,z.step A,M,F,J,N,I,L⟩
end
section
variable {P P':Program} {ρ:Ren}
def ab6:∀(n t:Nat) (acc:Array Value),(∀v∈acc.toList,cP v)->∀v∈(Extern.BytealgMakeNoZero.digits n t acc).toList,cP v
 |0,_,acc,h=>h
 |n+1,t,acc,h=>by
  unfold Extern.BytealgMakeNoZero.digits;refine ab6 n _ _ λv a=> ?_;rw[qW,jt] at a;rcases a with a|a
  .exact h v a
  .simp at a;subst a;exact λ_=>.int _ _
def aaE(T:Twin P P')(i f:Array TypeId)(h:cM ρ a Z):aw P P' VR ρ (Extern.BytealgMakeNoZero.makeNoZero i f a) (Extern.BytealgMakeNoZero.makeNoZero i f Z):=by
 unfold Extern.BytealgMakeNoZero.makeNoZero;obtain⟨a⟩:=a;obtain⟨Z⟩:=Z;have h:bG ρ a Z:=h;cases h with
 |nil=>exact .halt _ _
 |cons j o=>
  cases o with
  |cons=>cases j<;>exact .halt _ _
  |nil=>
   cases j with
   |int k n=>
    cases k<;>try exact .halt _ _
    dsimp only;cases f[0]? with
    |none=>exact .halt _ _
    |some t=>
     dsimp only;refine ag (aC T t) λE d A D hd=> ?_;obtain⟨rfl, -⟩:=hd;cases d with
     |slice e=>
      dsimp only;refine aN (λ_=>dc _) λ_=> ?_;refine ag (fC _) λB c l w q=> ?_;obtain rfl:c=l:=q;refine ag (af3 c) λx _ _ C _=> ?_;refine ag (fC _) λs b m z q=> ?_;obtain rfl:b=m:=q;refine ag (kR e (bG.jf λv g=>ab6 _ _ _ (λv g=>by cases g) v g _)) λy r u F p=> ?_;exact ai (.slice (.some p) _ _)
     |_=>exact .halt _ _
   |_=>exact .halt _ _
def ab7:∀(n:Nat) {ρ:Ren} {a c:Addr} (acc:ByteArray),AR ρ a c->aw P P' ig ρ (Extern.Bytes.loadBytes a n acc) (Extern.Bytes.loadBytes c n acc)
 |0,_,_,_,_,_=>ai rfl
 |n+1,ρ,a,c,acc,h=>by
  unfold Extern.Bytes.loadBytes;refine ag (aoy .plain h) λg v f e d=> ?_;cases d with
  |int k b=>
   cases k<;>first|exact ab7 n _ ((h.mono e).add 1)|exact .halt _ _
  |_=>exact .halt _ _
def ab8(h:cM ρ a Z):aw P P' VR ρ (Extern.BytealgIndexByte.indexByte a) (Extern.BytealgIndexByte.indexByte Z):=by
 unfold Extern.BytealgIndexByte.indexByte;obtain⟨a⟩:=a;obtain⟨Z⟩:=Z;have h:bG ρ a Z:=h;cases h with
 |nil=>exact .halt _ _
 |cons m d=>
  cases d with
  |nil=>exact .halt _ _
  |cons g d=>
   cases d with
   |cons=>exact .halt _ _
   |nil=>
    refine ag (A:=ig) ?_ λu b j r e=> ?_
    .cases m with
     |string s=>exact ai rfl
     |slice f l c=>cases f with
      |none=>exact ai rfl
      |some f=>exact ab7 _ _ f
     |empty o t Z=>exact ai rfl
     |_=>exact .halt _ _
    .obtain rfl:b=j:=e;refine ag (A:=ig) ?_ λp c i q e=> ?_
     .cases g with
      |int k n=>cases k<;>first|exact ai rfl|exact .halt _ _
      |_=>exact .halt _ _
     .obtain rfl:c=i:=e;split
      .exact ai (.int _ _)
      .exact ai (.int _ _)
end
noncomputable def ajw(f:Nat):Bool:=match prog.funcs[f]? with
 |some a=>!alw prog f||a.body.isSome||f ==210||f ==226
 |none=>true
def afe{f:Nat}(h:prog.funcs[f]?=some fn)(a:ajw f=true):(!alw prog f||fn.body.isSome||f ==210||f ==226)=true:=by
 unfold ajw at a;generalize prog.funcs[f]?=q at h a;subst h;exact a
def adC:(List.range prog.funcs.size).all ajw=true:=by kernel_rfl
def alI:f210.body.isNone=true:=by kernel_rfl
def alJ:f226.body.isNone=true:=by kernel_rfl
def alK:Extern.findNext f210=none:=by kernel_rfl
def ab9:Extern.findNext f226=none:=by kernel_rfl
def alL:Extern.find f210=some (Extern.BytealgMakeNoZero.makeNoZero f210.params f210.resultTypes):=by kernel_rfl
def alM:Extern.find f226=some Extern.BytealgIndexByte.indexByte:=by kernel_rfl
def abF:Extern.next "fmt's door" =none:=by kernel_rfl
def aaF {P' : Program}  {b : Func} {e:Array Value->Sem Value} (r:P.funcs[f]?=some fn) (i:P'.funcs[f]?=some b) (g:fn.body.isNone=true) (k:b.body.isNone=true)
  (q:(fn.name == "runtime.NumGoroutine")=false) (t:(b.name == "runtime.NumGoroutine")=false) (s:Extern.findNext fn=none) (x2:Extern.findNext b=none) (n:Extern.find fn=some e) (u:Extern.find b=some e)
  (o:∀(c:Ren) a Z,cM c a Z->aw P P' VR c (e a) (e Z)) (h:cM ρ a Z):aw P P' fX ρ (callFunc f a) (callFunc f Z):=by
 unfold callFunc;refine ag cN λc p v m d=> ?_;obtain⟨rfl,rfl⟩:=d;rw[r,i];dsimp only;rw[q,t,g,k];simp only[fa,pX,mw];refine ag (aoz (.extern f)) λj _ _ l _=> ?_;rw[s,x2,n,u];exact bz (o j _ _ (bG.mono (m.trans l) h))
def at0(β:Bool):aho (aj β) prog:=λf k d i l p a j h=>by
 obtain⟨q,b,o⟩:=agi β f k d;obtain rfl:=o.none i;have g:=(db.1 b).1;have c:=ip.1 adC f (ph.2 g);have c:=afe b c;have n:alw prog f=true:=by
  have:gA f=alw prog f:=by unfold gA;rfl
  rw[<-this];exact l
 rw[n,i] at c;simp only[un,sA,um,tM,qs,mT] at c;rcases c with rfl|rfl
 .have e:=b.symm.trans func210;obtain rfl:=de e;exact aaF d func210 alI alI (cu func210) (cu func210) alK alK alL alL (λm a j h=>aaE (kh β) _ _ h) h
 .have e:=b.symm.trans func226;obtain rfl:=de e;exact aaF d func226 alJ alJ (cu func226) (cu func226) ab9 ab9 alM alM (λm a j h=>ab8 h) h
def oG{args:Array Value}{t0:Tape}{Post:Value->World->Prop}(h:∀t:Tape,(∀i q,i<w.drawn->t i q=t0 i q)->Calls P f args (w.tap t) λe b=>∃v,e=.returned v/\Post v b) :
  iY P (λl b=>∃a v,l=[a]/\a.fn=f/\a.leaving P b (.returned v)/\Post v b) ⟨[Frame.enter P f args .normal],w,t0⟩:=λt j=>by
 obtain⟨e,b,a,⟨v,rfl,d⟩,⟨n,k⟩,g,c⟩:=h t j [iX P];refine⟨n,[a],b,k,⟨a,rfl,c.1,c.2.1,c.2.2.1⟩,a,v,rfl,g,c,d⟩
end
section
open Go.RowKit
def fe{k:IntKind}{a b:Int}(h:a=b):Ending.returned (.int k a)=.returned (.int k b):=by rw[h]
def ak{a b:Bool}(h:a=b):Ending.returned (.bool a)=.returned (.bool b):=by rw[h]
structure jm (S:Nat->Prop) (w w':World):Prop where
 os:w'.os=w.os
 tape:w'.tape=w.tape
 output:w'.output=w.output
 size:w.heap.size<=w'.heap.size
 block:∀k,k<w.heap.size->¬S k->w'.heap[k]?=w.heap[k]?
def jm.refl(S:Nat->Prop)(w:World):jm S w w:=⟨rfl,rfl,rfl,ap _,λ_ _ _=>rfl⟩
def jm.trans{S T:Nat->Prop}{a b c:World}(h:jm S a b)(k:jm T b c)(f:∀i,i<a.heap.size->T i->S i):jm S a c:=
 ⟨k.os.trans h.os,k.tape.trans h.tape,k.output.trans h.output,am h.size k.size,
  λi d e=>(k.block i (aE d h.size) (λg=>e (f i d g))).trans (h.block i d e)⟩
def jm.mono{S T:Nat->Prop}{a b:World}(h:jm S a b)(d:∀i,i<a.heap.size->S i->T i):jm T a b:=
 ⟨h.os,h.tape,h.output,h.size,λi c f=>h.block i c λe=>f (d i c e)⟩
def jm.below{S:Nat->Prop}(h:jm S w w')(c:B<=w.heap.size)(b:∀i,i<B->¬S i):Below B w w':=
 ⟨h.os,h.tape,h.output,h.size,λk a=>h.block k (aE a c) (b k a)⟩
def jm.adD{S:Nat->Prop}(h:Below w.heap.size w w'):jm S w w':=
 ⟨h.os,h.tape,h.output,h.size,λk a _=>h.block k a⟩
def jm.alloc{S:Nat->Prop}{a : World}(h:jm S a w)(o:Obj):jm S a (w.alloc o):=
 ⟨h.os,h.tape,h.output,am h.size (by simp),λi c b=>(rE w o i (aE c h.size)).trans (h.block i c b)⟩
def jm.drew{S:Nat->Prop}{a : World}(h:jm S a w):jm S a w.drew:=⟨h.os,h.tape,h.output,h.size,h.block⟩
def ae{a : World}(h:Below a.heap.size a w)(b:Below w.heap.size w w'):Below a.heap.size a w':=h.trans (b.mono h.size)
def vt{a : World}(h:Below B a w)(n:Nat):Below B a (w.drewN n):=⟨h.os,h.tape,h.output,h.size,h.block⟩
abbrev eX(α:Type):=World->Nat->Nat->α->List Value->Prop
structure Lcy {α:Type} (E:eX α):Prop where
 go:∀{w w':World} {lo hi lo' hi':Nat} {x:α} {cs:List Value},
  (∀b,lo<=b->b<hi->w'.heap[b]?=w.heap[b]?)->lo'<=lo->hi<=hi'->E w lo hi x cs->E w' lo' hi' x cs
def fg(x:Int):Prop:= -9223372036854775808<=x/\x<=9223372036854775807
def gu:eX Int:=λ_ _ _ x a=>a=[.int .i64 x]/\fg x
def awJ:eX Int:=λ_ _ _ x a=>a=[.int .u8 x]/\0<=x/\x<256
def au6:eX ByteArray:=λ_ _ _ x a=>a=[.string x]/\x.size<=maxLen
def gu.loc:Lcy gu:=⟨λ_ _ _ h=>h⟩
def cJ{α:Type}(E:eX α)(sz:Nat):eX (List α):=λw f g d k=>
 ∃(A:Option Addr) (c:Nat),k=[.slice A d.length c]/\d.length<=c/\c<=maxLen/\
  (0<d.length->∃b a,A=some ⟨b,a,none⟩/\f<=b/\b<g/\
   ∀i x,d[i]?=some x->∃e:List Value,e.length=sz/\E w f g x e/\∀j u,e[j]?=some u->w.cell? ⟨b,a+i*sz+j,none⟩=some u)
def cJ.loc{E:eX W}(p:Lcy E) :Lcy (cJ E Y):=by
 refine⟨?_⟩;intro w C H G z d F D n e m ⟨A,c,g,o,y,h⟩;refine⟨A,c,g,o,y,λq=> ?_⟩;obtain⟨b,f,rfl,l,k,v⟩:=h q;refine⟨b,f,rfl,am e l,aE k m,λi x d=> ?_⟩;obtain⟨s,r,B,a⟩:=v i x d;exact⟨s,r,p.go n e m B,λj u t=>(pO (n b l k)).trans (a j u t)⟩
def Lcy.below{E:eX W}(c:Lcy E){cs:List Value}(h:E w Y V x cs)(e:Below B w w')(d:V<=B):E w' Y V x cs:=
 c.go (λb _ a=>e.block b (aE a d)) (ap _) (ap _) h
def Lcy.wide{E:eX W}(a:Lcy E){lo' hi' : Nat}{cs:List Value}(h:E w Y V x cs)(c:lo'<=Y)(b:V<=hi'):E w lo' hi' x cs:=
 a.go (λ_ _ _=>rfl) c b h
def cJ.at_{E:eX W}(h:cJ E Y w V J xs [.slice A n c])(g:xs[k]?=some x) :
  ∃b a e,A=some ⟨b,a,none⟩/\V<=b/\b<J/\e.length=Y/\E w V J x e/\∀j u,e[j]?=some u->w.cell? ⟨b,a+k*Y+j,none⟩=some u:=by
 obtain⟨A',r,f,s,t,i⟩:=h;simp only[qy,sK,qn] at f;obtain⟨rfl,rfl,rfl⟩:=f;have l:k<xs.length:=by
  rcases mx k xs.length with h|h
  .exact h
  .rw[qM h] at g;cases g
 obtain⟨b,a,rfl,o,m,i⟩:=i (by omega);obtain⟨e,p,q,d⟩:=i k x g;exact⟨b,a,e,rfl,o,m,p,q,d⟩
def cJ.ints_at{xs:List Int}(h:cJ gu 1 w Y V xs [.slice A n c]){x:Int}(f:xs[k]?=some x) :
  ∃b a,A=some ⟨b,a,none⟩/\Y<=b/\b<V/\fg x/\w.cell? ⟨b,a+k,none⟩=some (.int .i64 x):=by
 obtain⟨b,a,l,rfl,g,e,j,⟨rfl,d⟩,i⟩:=h.at_ f;exact⟨b,a,rfl,g,e,d,by simpa using i 0 _ rfl⟩
def cJ.len_{E:eX W}(h:cJ E Y w V J xs [.slice A n c]):n=xs.length/\n<=c/\c<=maxLen:=by
 obtain⟨A',e,a,d,b,f⟩:=h;simp only[qy,sK,qn] at a;obtain⟨rfl,rfl,rfl⟩:=a;exact⟨rfl,d,b⟩
def cJ.form{E:eX W}(h:cJ E Y w V J xs [v]):∃A c,v=.slice A xs.length c:=by
 obtain⟨A',d,a,e,b,f⟩:=h;simp only[qy,qn] at a;exact⟨_,_,a⟩
def ar{l:List W}(h:k<l.length):∃x,l[k]?=some x:=⟨l[k],io h⟩
def aH{l:List W}(h:l[k]?=some x):k<l.length:=by
 rcases mx k l.length with a|a
 .exact a
 .rw[qM a] at h;cases h
def nH{α:Type}{P:List α->Prop}(h0:P [])(h1:∀l a,P l->P (l++[a]))(l:List α):P l:=by
 rw[<-l.reverse_reverse]
 induction l.reverse with
 |nil=>exact h0
 |cons a t b=>rw[List.reverse_cons];exact h1 _ _ b
def kw{l:List W}(h:l[k]?=some x):l.take (k+1)=l.take k++[x]:=by
 rw[List.take_add_one,h];rfl
def gK(w:World)(g:Nat)(t:TypeId)(cs:Array Value):Prop:=w.heap[g]?=some (.cells cs t (0,0))
section
variable {w w':World} {g:Nat} {t:TypeId} {cs:Array Value}
def gK.lt(h:gK w g t cs):g<w.heap.size:=by
 rcases mx g w.heap.size with a|b
 .exact a
 .unfold gK at h;rw[pF b] at h;cases h
def gK.cell(h:gK w g t cs)(i:Nat):w.cell? ⟨g,i,none⟩=cs[i]?:=cell_of_row w g i cs t (0,0) h
def gK.frozen(h:gK w g t cs)(i:Nat):w.frozen? ⟨g,i,none⟩=false:=by
 unfold gK at h;simp[World.frozen?,h]
def gK.new(w:World)(t:TypeId)(cs:Array Value):gK (w.alloc (.cells cs t)) w.heap.size t cs:=heap_alloc_new w _
def gK.ajx(h:gK w g t cs)(i:Nat)(u:Value):gK (w.setCell ⟨g,i,none⟩ u) g t (cs.setIfInBounds i u):=by
 unfold gK at h ⊢;simp[World.setCell,mt,h]
end
def Pre(w:World)(g:Nat)(t:TypeId)(N:Nat)(vs:List Value):Prop:=∃a:Array Value,gK w g t a/\a.size=N/\∀(j:Nat) (u:Value),vs[j]?=some u->a[j]?=some u
section
variable {w w':World} {g N:Nat} {t:TypeId} {vs:List Value}
def Pre.new(w:World)(t:TypeId)(cs:Array Value):Pre (w.alloc (.cells cs t)) w.heap.size t cs.size []:=⟨cs,gK.new _ _ _,rfl,λj u h=>by simp at h⟩
def Pre.there(h:Pre w g t N vs){j:Nat}(c:j<N):∃u,w.cell? ⟨g,j,none⟩=some u:=by
 obtain⟨a,b,e,d⟩:=h;rw[b.cell];exact⟨a[j]'(by omega),ff (by omega)⟩
def Pre.frozen(h:Pre w g t N vs)(j:Nat):w.frozen? ⟨g,j,none⟩=false:=by
 obtain⟨b,a,_⟩:=h;exact a.frozen j
def Pre.push(h:Pre w g t N vs)(u:Value)(c:vs.length<N):Pre (w.setCell ⟨g,vs.length,none⟩ u) g t N (vs++[u]):=by
 obtain⟨k,e,i,f⟩:=h;refine⟨_,e.ajx vs.length u,by simpa using i,λj v a=> ?_⟩;rw[oR];by_cases b:vs.length=j
 .subst b;rw[pK (ap _)] at a;simp at a;subst a;rw[dj rfl,dj (by omega)]
 .rw[bd b];have d:=aH a;simp at d;rw[pV (by omega)] at a;exact f j v a
def Pre.chg{S:Nat->Prop}(h:Pre w g t N vs)(e:jm S w w')(c:¬S g):Pre w' g t N vs:=by
 obtain⟨d,b,f,a⟩:=h;exact⟨d,(e.block g b.lt c).trans b,f,a⟩
end
def cJ.awK{E:eX W}{cs:List Value}(h:cJ E Y w V J xs cs):∀x∈xs,∃a,E w V J x a:=by
 obtain⟨A,c,g,m,l,f⟩:=h;intro x j;obtain⟨i,J⟩:=qk.1 j;obtain⟨b,e,_,_,_,d⟩:=f (by have:=aH J;omega);obtain⟨a,_,k,_⟩:=d i x J;exact⟨a,k⟩
def cJ.am8{xs:List Int}{cs:List Value}(h:cJ gu 1 w Y V xs cs):∀x∈xs,fg x:=λx b=>by
 obtain⟨c,a⟩:=h.awK x b;exact a.2
section
variable {w:World} {g:Nat} {t:TypeId} {n:Nat} {f f':Nat->Int}
end
end
section
section
variable (P:Program) (fs:Array Func)
def aaG(t:TypeId)(w:World):(underlying t).run {P with funcs:=fs} w=(underlying t).run P w:=by
 show Sem.run _ (match({P with funcs:=fs}:Program).underlying t with|some d=>pure d|none=>stuck "no such type") w=Sem.run P (match P.underlying t with|some d=>pure d|none=>stuck "no such type") w;rw[cA];cases P.underlying t<;>rfl
def px(t:TypeId)(w:World):(typeInfo t).run {P with funcs:=fs} w=(typeInfo t).run P w:=by
 show Sem.run _ (match({P with funcs:=fs}:Program).info? t with|some d=>pure d|none=>stuck "no such type") w=Sem.run P (match P.info? t with|some d=>pure d|none=>stuck "no such type") w;rw[iW];cases P.info? t<;>rfl
def ao0{β : Type}(P Q:Program)(s:Sem W)(f:W->Sem β)(w:World)(h:s.run Q w=s.run P w)(b:∀a w,(f a).run Q w=(f a).run P w):(s.bind f).run Q w=(s.bind f).run P w:=by
 have c:=qh Q s f w;have e:=qh P s f w;exact c.trans ((ef (λr=>Result.andThen r λa d=>(f a).run Q d) h).trans ((ef (λF=>Result.andThen (s.run P w) F) (funext λa=>funext λw=>b a w)).trans e.symm))
def ajy{β : Type}(s:Sem W)(f:W->Sem β)(w:World)(h:s.run {P with funcs:=fs} w=s.run P w)(b:∀a w,(f a).run {P with funcs:=fs} w=(f a).run P w):(s.bind f).run {P with funcs:=fs} w=(s.bind f).run P w:=ao0 P _ s f w h b
def ao1(t:TypeId)(w:World):(sizeOf t).run {P with funcs:=fs} w=(sizeOf t).run P w:=ajy P fs _ _ w (px P fs t w) λ_ _=>rfl
def ahx(t:TypeId)(w:World):(zeroValue t).run {P with funcs:=fs} w=(zeroValue t).run P w:=ajy P fs _ _ w (px P fs t w) λi w=>by
 cases i.zero<;>rfl
def arR(t:TypeId)(w:World):(isAgg t).run {P with funcs:=fs} w=(isAgg t).run P w:=ajy P fs _ _ w (aaG P fs t w) λd w=>by
 cases d<;>rfl
end
variable {β:Bool}
@[simp,go_sem] theorem ark(t:TypeId)(w:World):(underlying t).run (aj β) w=(underlying t).run prog w:=aaG prog (kF β) t w
@[simp,go_sem] theorem at1(t:TypeId)(w:World):(typeInfo t).run (aj β) w=(typeInfo t).run prog w:=px prog (kF β) t w
@[simp,go_sem] theorem bJ(t:TypeId)(w:World):(sizeOf t).run (aj β) w=(sizeOf t).run prog w:=ao1 prog (kF β) t w
@[simp,go_sem] theorem aS(t:TypeId)(w:World):(zeroValue t).run (aj β) w=(zeroValue t).run prog w:=ahx prog (kF β) t w
@[simp,go_sem] theorem cv(t:TypeId)(w:World):(isAgg t).run (aj β) w=(isAgg t).run prog w:=arR prog (kF β) t w
@[simp,go_sem] theorem bg(t:TypeId):(aj β).underlying t=prog.underlying t:=cA prog (kF β) t
@[simp,go_sem] theorem awL(t:TypeId):(aj β).stoodInHeld t=prog.stoodInHeld t:=ac2 prog (kF β) t
@[simp,go_sem] theorem awM(d:Nat)(t:TypeId):(aj β).eqGuardType d t=prog.eqGuardType d t:=agh prog (kF β) d t
@[simp,go_sem] theorem awN:(aj β).depth=prog.depth:=ac0 prog (kF β)
abbrev agk:List Nat:=[67,107,108,111,171,198,212,216,2,156,157,159,160,166,223,258]
noncomputable def au7(f:Nat):Bool:=agk.contains f||match prog.funcs[f]? with
 |some a=>match a.body with
  |some c=>eO prog gA gL c
  |none=>true
 |none=>true
def ao2:(List.range prog.funcs.size).all au7=true:=by kernel_rfl
def arS{f:Nat}(h:prog.funcs[f]?=some fn)(a:au7 f=true)(b:agk.contains f=false):∀c,fn.body=some c->eO prog gA gL c=true:=by
 unfold au7 at a;rw[b] at a;generalize prog.funcs[f]?=q at h a;subst h;intro c d;simp only[d,tM] at a;exact a
def au{f:Nat}(h:prog.funcs[f]?=some fn)(g:agk.contains f=false):(aj β).funcs[f]?=some fn:=by
 have d:=(db.1 h).1;have b:=arS h (ip.1 ao2 f (ph.2 d)) g;have j:f≠nCC:=λe=>by subst e;revert g;decide
 have i:f≠bX:=λe=>by subst e;revert g;decide
 have k:pf fn=fn:=by
  unfold pf;cases a:fn.body with
  |none=>cases fn;dsimp only at a;subst a;rfl
  |some c=>
   have:gP c=c:=by unfold gP;exact ahg _ _ _ _ c (b c a)
   cases fn;dsimp only at a;subst a;show _=_;simp only[pU,this]
 refine(ajt β j i).trans ?_;have e:Option.map pf (prog.funcs[f]?)=Option.map pf (some fn):=ef _ h;rw[e,pU,k]
def jA(h:P.funcs[f]?=some fn)(d:(fn.name == "runtime.NumGoroutine")=false)(a:fn.body.isSome=true)(args:Array Value)(w:World):(callFunc f args).run P w=.ok (.enter f args) w:=by
 show Sem.run P (match P.funcs[f]? with|none=>_|some fn=>_) w=_;rw[h];obtain⟨c,b⟩:=qO.1 a;simp only[d,b,Option.isNone_some];rfl
def az{f:Nat}(h:prog.funcs[f]?=some fn)(a:agk.contains f=false)(b:fn.body.isSome=true)(args:Array Value)(w:World):(callFunc f args).run (aj β) w=.ok (.enter f args) w:=jA (au h a) (cu h) b args w
end
section
variable {β:Bool}
def qF4:=au (β:=β) func4 (by decide)
def qF6:=au (β:=β) func6 (by decide)
def qF7:=au (β:=β) func7 (by decide)
def zp:=au (β:=β) func10 (by decide)
def vW:=au (β:=β) func11 (by decide)
def zo:=au (β:=β) func12 (by decide)
def vU:=au (β:=β) func13 (by decide)
def zn:=au (β:=β) func18 (by decide)
def xo:=au (β:=β) func19 (by decide)
def zm:=au (β:=β) func20 (by decide)
def zl:=au (β:=β) func21 (by decide)
def xm:=au (β:=β) func22 (by decide)
def zk:=au (β:=β) func23 (by decide)
def zj:=au (β:=β) func24 (by decide)
def xl:=au (β:=β) func25 (by decide)
def zh:=au (β:=β) func26 (by decide)
def zg:=au (β:=β) func27 (by decide)
def zf:=au (β:=β) func28 (by decide)
def qF29:=au (β:=β) func29 (by decide)
def qF30:=au (β:=β) func30 (by decide)
def xk:=au (β:=β) func31 (by decide)
def xj:=au (β:=β) func32 (by decide)
def xi:=au (β:=β) func33 (by decide)
def ze:=au (β:=β) func34 (by decide)
def zd:=au (β:=β) func35 (by decide)
def zc:=au (β:=β) func36 (by decide)
def xh:=au (β:=β) func37 (by decide)
def xg:=au (β:=β) func38 (by decide)
def xf:=au (β:=β) func39 (by decide)
def zb:=au (β:=β) func41 (by decide)
def yZ:=au (β:=β) func42 (by decide)
def yY:=au (β:=β) func43 (by decide)
def yX:=au (β:=β) func44 (by decide)
def xe:=au (β:=β) func45 (by decide)
def yW:=au (β:=β) func46 (by decide)
def yV:=au (β:=β) func47 (by decide)
def xd:=au (β:=β) func48 (by decide)
def yU:=au (β:=β) func49 (by decide)
def qF50:=au (β:=β) func50 (by decide)
def qF51:=au (β:=β) func51 (by decide)
def xc:=au (β:=β) func52 (by decide)
def wZ:=au (β:=β) func53 (by decide)
def yT:=au (β:=β) func54 (by decide)
def yS:=au (β:=β) func55 (by decide)
def yR:=au (β:=β) func56 (by decide)
def wn:=au (β:=β) func57 (by decide)
def wm:=au (β:=β) func58 (by decide)
def wl:=au (β:=β) func59 (by decide)
def yQ:=au (β:=β) func66 (by decide)
def yP:=au (β:=β) func68 (by decide)
def yO:=au (β:=β) func69 (by decide)
def yN:=au (β:=β) func70 (by decide)
def yM:=au (β:=β) func71 (by decide)
def yL:=au (β:=β) func72 (by decide)
def yK:=au (β:=β) func73 (by decide)
def yJ:=au (β:=β) func74 (by decide)
def yI:=au (β:=β) func75 (by decide)
def qF76:=au (β:=β) func76 (by decide)
def qF77:=au (β:=β) func77 (by decide)
def qF78:=au (β:=β) func78 (by decide)
def qF79:=au (β:=β) func79 (by decide)
def qF80:=au (β:=β) func80 (by decide)
def qF81:=au (β:=β) func81 (by decide)
def qF82:=au (β:=β) func82 (by decide)
def qF83:=au (β:=β) func83 (by decide)
def qF84:=au (β:=β) func84 (by decide)
def qF85:=au (β:=β) func85 (by decide)
def qF86:=au (β:=β) func86 (by decide)
def wY:=au (β:=β) func87 (by decide)
def wX:=au (β:=β) func88 (by decide)
def yH:=au (β:=β) func89 (by decide)
def yG:=au (β:=β) func90 (by decide)
def wW:=au (β:=β) func91 (by decide)
def wV:=au (β:=β) func92 (by decide)
def vx:=au (β:=β) func100 (by decide)
def wK:=au (β:=β) func101 (by decide)
def yx:=au (β:=β) func105 (by decide)
def yw:=au (β:=β) func106 (by decide)
def yv:=au (β:=β) func110 (by decide)
def vV:=au (β:=β) func112 (by decide)
def wJ:=au (β:=β) func113 (by decide)
def yu:=au (β:=β) func114 (by decide)
def yr:=au (β:=β) func115 (by decide)
def yq:=au (β:=β) func116 (by decide)
def yp:=au (β:=β) func117 (by decide)
def wI:=au (β:=β) func118 (by decide)
def yo:=au (β:=β) func119 (by decide)
def yn:=au (β:=β) func120 (by decide)
def ym:=au (β:=β) func121 (by decide)
def yl:=au (β:=β) func122 (by decide)
def yk:=au (β:=β) func123 (by decide)
def yj:=au (β:=β) func124 (by decide)
def wH:=au (β:=β) func125 (by decide)
def qF126:=au (β:=β) func126 (by decide)
def qF127:=au (β:=β) func127 (by decide)
def qF128:=au (β:=β) func128 (by decide)
def qF129:=au (β:=β) func129 (by decide)
def qF130:=au (β:=β) func130 (by decide)
def qF131:=au (β:=β) func131 (by decide)
def wG:=au (β:=β) func132 (by decide)
def vT:=au (β:=β) func133 (by decide)
def yi:=au (β:=β) func134 (by decide)
def yh:=au (β:=β) func135 (by decide)
def vS:=au (β:=β) func136 (by decide)
def vR:=au (β:=β) func137 (by decide)
def yg:=au (β:=β) func143 (by decide)
def vQ:=au (β:=β) func144 (by decide)
def yf:=au (β:=β) func145 (by decide)
def wF:=au (β:=β) func146 (by decide)
def vP:=au (β:=β) func147 (by decide)
def ye:=au (β:=β) func148 (by decide)
def yd:=au (β:=β) func149 (by decide)
def yc:=au (β:=β) func163 (by decide)
def yb:=au (β:=β) func169 (by decide)
def ya:=au (β:=β) func170 (by decide)
def xZ:=au (β:=β) func172 (by decide)
def xY:=au (β:=β) func173 (by decide)
def xX:=au (β:=β) func174 (by decide)
def vD:=au (β:=β) func175 (by decide)
def xW:=au (β:=β) func176 (by decide)
def vO:=au (β:=β) func177 (by decide)
def xV:=au (β:=β) func178 (by decide)
def xU:=au (β:=β) func179 (by decide)
def qF180:=au (β:=β) func180 (by decide)
def wD:=au (β:=β) func181 (by decide)
def xT:=au (β:=β) func182 (by decide)
def wC:=au (β:=β) func183 (by decide)
def vw:=au (β:=β) func184 (by decide)
def xS:=au (β:=β) func185 (by decide)
def vN:=au (β:=β) func189 (by decide)
def xR:=au (β:=β) func190 (by decide)
def xQ:=au (β:=β) func195 (by decide)
def vM:=au (β:=β) func196 (by decide)
def xP:=au (β:=β) func199 (by decide)
def wB:=au (β:=β) func200 (by decide)
def xO:=au (β:=β) func201 (by decide)
def wA:=au (β:=β) func202 (by decide)
def xN:=au (β:=β) func203 (by decide)
def xM:=au (β:=β) func207 (by decide)
def xL:=au (β:=β) func208 (by decide)
def xK:=au (β:=β) func210 (by decide)
def xJ:=au (β:=β) func211 (by decide)
def xI:=au (β:=β) func213 (by decide)
def xH:=au (β:=β) func218 (by decide)
def xG:=au (β:=β) func219 (by decide)
def xF:=au (β:=β) func226 (by decide)
@[go_sem] def qC6:=az (β:=β) func6 (by decide) rfl
@[go_sem] def qC7:=az (β:=β) func7 (by decide) rfl
@[go_sem] def qC10:=az (β:=β) func10 (by decide) rfl
@[go_sem] def qC11:=az (β:=β) func11 (by decide) rfl
@[go_sem] def qC12:=az (β:=β) func12 (by decide) rfl
@[go_sem] def qC13:=az (β:=β) func13 (by decide) rfl
@[go_sem] def qC18:=az (β:=β) func18 (by decide) rfl
@[go_sem] def qC19:=az (β:=β) func19 (by decide) rfl
@[go_sem] def qC20:=az (β:=β) func20 (by decide) rfl
@[go_sem] def qC21:=az (β:=β) func21 (by decide) rfl
@[go_sem] def qC22:=az (β:=β) func22 (by decide) rfl
@[go_sem] def qC23:=az (β:=β) func23 (by decide) rfl
@[go_sem] def qC24:=az (β:=β) func24 (by decide) rfl
@[go_sem] def qC25:=az (β:=β) func25 (by decide) rfl
@[go_sem] def qC26:=az (β:=β) func26 (by decide) rfl
@[go_sem] def qC27:=az (β:=β) func27 (by decide) rfl
@[go_sem] def qC28:=az (β:=β) func28 (by decide) rfl
@[go_sem] def qC29:=az (β:=β) func29 (by decide) rfl
@[go_sem] def qC30:=az (β:=β) func30 (by decide) rfl
@[go_sem] def qC31:=az (β:=β) func31 (by decide) rfl
@[go_sem] def qC32:=az (β:=β) func32 (by decide) rfl
@[go_sem] def qC33:=az (β:=β) func33 (by decide) rfl
@[go_sem] def qC34:=az (β:=β) func34 (by decide) rfl
@[go_sem] def qC35:=az (β:=β) func35 (by decide) rfl
@[go_sem] def qC36:=az (β:=β) func36 (by decide) rfl
@[go_sem] def qC37:=az (β:=β) func37 (by decide) rfl
@[go_sem] def qC38:=az (β:=β) func38 (by decide) rfl
@[go_sem] def qC39:=az (β:=β) func39 (by decide) rfl
@[go_sem] def qC41:=az (β:=β) func41 (by decide) rfl
@[go_sem] def qC42:=az (β:=β) func42 (by decide) rfl
@[go_sem] def qC43:=az (β:=β) func43 (by decide) rfl
@[go_sem] def qC44:=az (β:=β) func44 (by decide) rfl
@[go_sem] def qC45:=az (β:=β) func45 (by decide) rfl
@[go_sem] def qC46:=az (β:=β) func46 (by decide) rfl
@[go_sem] def qC47:=az (β:=β) func47 (by decide) rfl
@[go_sem] def qC48:=az (β:=β) func48 (by decide) rfl
@[go_sem] def qC49:=az (β:=β) func49 (by decide) rfl
@[go_sem] def qC52:=az (β:=β) func52 (by decide) rfl
@[go_sem] def qC53:=az (β:=β) func53 (by decide) rfl
@[go_sem] def qC54:=az (β:=β) func54 (by decide) rfl
@[go_sem] def qC55:=az (β:=β) func55 (by decide) rfl
@[go_sem] def qC56:=az (β:=β) func56 (by decide) rfl
@[go_sem] def qC57:=az (β:=β) func57 (by decide) rfl
@[go_sem] def qC58:=az (β:=β) func58 (by decide) rfl
@[go_sem] def qC59:=az (β:=β) func59 (by decide) rfl
@[go_sem] def qC66:=az (β:=β) func66 (by decide) rfl
@[go_sem] def qC68:=az (β:=β) func68 (by decide) rfl
@[go_sem] def qC69:=az (β:=β) func69 (by decide) rfl
@[go_sem] def qC70:=az (β:=β) func70 (by decide) rfl
@[go_sem] def qC71:=az (β:=β) func71 (by decide) rfl
@[go_sem] def qC72:=az (β:=β) func72 (by decide) rfl
@[go_sem] def qC73:=az (β:=β) func73 (by decide) rfl
@[go_sem] def qC74:=az (β:=β) func74 (by decide) rfl
@[go_sem] def qC75:=az (β:=β) func75 (by decide) rfl
@[go_sem] def qC87:=az (β:=β) func87 (by decide) rfl
@[go_sem] def qC88:=az (β:=β) func88 (by decide) rfl
@[go_sem] def qC89:=az (β:=β) func89 (by decide) rfl
@[go_sem] def qC90:=az (β:=β) func90 (by decide) rfl
@[go_sem] def qC91:=az (β:=β) func91 (by decide) rfl
@[go_sem] def qC92:=az (β:=β) func92 (by decide) rfl
@[go_sem] def AH:=az (β:=β) func100 (by decide) rfl
@[go_sem] def AG:=az (β:=β) func101 (by decide) rfl
@[go_sem] def AF:=az (β:=β) func105 (by decide) rfl
@[go_sem] def AE:=az (β:=β) func106 (by decide) rfl
@[go_sem] def AD:=az (β:=β) func110 (by decide) rfl
@[go_sem] def AC:=az (β:=β) func112 (by decide) rfl
@[go_sem] def AB:=az (β:=β) func113 (by decide) rfl
@[go_sem] def AA:=az (β:=β) func114 (by decide) rfl
@[go_sem] def Az:=az (β:=β) func115 (by decide) rfl
@[go_sem] def Ay:=az (β:=β) func116 (by decide) rfl
@[go_sem] def Aw:=az (β:=β) func117 (by decide) rfl
@[go_sem] def Av:=az (β:=β) func118 (by decide) rfl
@[go_sem] def Au:=az (β:=β) func119 (by decide) rfl
@[go_sem] def As:=az (β:=β) func120 (by decide) rfl
@[go_sem] def Ar:=az (β:=β) func121 (by decide) rfl
@[go_sem] def Aq:=az (β:=β) func122 (by decide) rfl
@[go_sem] def Ap:=az (β:=β) func123 (by decide) rfl
@[go_sem] def An:=az (β:=β) func124 (by decide) rfl
@[go_sem] def Am:=az (β:=β) func125 (by decide) rfl
@[go_sem] def Al:=az (β:=β) func132 (by decide) rfl
@[go_sem] def Ak:=az (β:=β) func133 (by decide) rfl
@[go_sem] def Aj:=az (β:=β) func134 (by decide) rfl
@[go_sem] def Ai:=az (β:=β) func135 (by decide) rfl
@[go_sem] def Ah:=az (β:=β) func136 (by decide) rfl
@[go_sem] def Ag:=az (β:=β) func137 (by decide) rfl
@[go_sem] def Af:=az (β:=β) func143 (by decide) rfl
@[go_sem] def Ad:=az (β:=β) func144 (by decide) rfl
@[go_sem] def Ac:=az (β:=β) func145 (by decide) rfl
@[go_sem] def Ab:=az (β:=β) func146 (by decide) rfl
@[go_sem] def A9:=az (β:=β) func147 (by decide) rfl
@[go_sem] def A0:=az (β:=β) func148 (by decide) rfl
@[go_sem] def zZ:=az (β:=β) func149 (by decide) rfl
@[go_sem] def zY:=az (β:=β) func163 (by decide) rfl
@[go_sem] def zX:=az (β:=β) func169 (by decide) rfl
@[go_sem] def zW:=az (β:=β) func170 (by decide) rfl
@[go_sem] def zV:=az (β:=β) func172 (by decide) rfl
@[go_sem] def zU:=az (β:=β) func173 (by decide) rfl
@[go_sem] def zT:=az (β:=β) func174 (by decide) rfl
@[go_sem] def zS:=az (β:=β) func175 (by decide) rfl
@[go_sem] def zR:=az (β:=β) func176 (by decide) rfl
@[go_sem] def zQ:=az (β:=β) func177 (by decide) rfl
@[go_sem] def zP:=az (β:=β) func178 (by decide) rfl
@[go_sem] def zO:=az (β:=β) func179 (by decide) rfl
@[go_sem] def zN:=az (β:=β) func181 (by decide) rfl
@[go_sem] def zM:=az (β:=β) func182 (by decide) rfl
@[go_sem] def zL:=az (β:=β) func183 (by decide) rfl
@[go_sem] def zK:=az (β:=β) func184 (by decide) rfl
@[go_sem] def zJ:=az (β:=β) func185 (by decide) rfl
@[go_sem] def zI:=az (β:=β) func189 (by decide) rfl
@[go_sem] def zH:=az (β:=β) func190 (by decide) rfl
@[go_sem] def zG:=az (β:=β) func195 (by decide) rfl
@[go_sem] def zF:=az (β:=β) func196 (by decide) rfl
@[go_sem] def zE:=az (β:=β) func199 (by decide) rfl
@[go_sem] def zD:=az (β:=β) func201 (by decide) rfl
@[go_sem] def zC:=az (β:=β) func202 (by decide) rfl
@[go_sem] def zB:=az (β:=β) func203 (by decide) rfl
@[go_sem] def zA:=az (β:=β) func207 (by decide) rfl
@[go_sem] def zy:=az (β:=β) func208 (by decide) rfl
@[go_sem] def zw:=az (β:=β) func211 (by decide) rfl
@[go_sem] def zv:=az (β:=β) func213 (by decide) rfl
@[go_sem] def zu:=az (β:=β) func218 (by decide) rfl
@[go_sem] def zt:=az (β:=β) func219 (by decide) rfl
def qU0:=(bg (β:=β) 0).trans underlying0
def qU3:=(bg (β:=β) 3).trans underlying3
def qU4:=(bg (β:=β) 4).trans underlying4
def qU5:=(bg (β:=β) 5).trans underlying5
def qU9:=(bg (β:=β) 9).trans underlying9
def wj:=(bg (β:=β) 22).trans underlying22
def yF:=(bg (β:=β) 23).trans underlying23
def yE:=(bg (β:=β) 24).trans underlying24
def yD:=(bg (β:=β) 25).trans underlying25
def vL:=(bg (β:=β) 31).trans underlying31
def yC:=(bg (β:=β) 33).trans underlying33
def yB:=(bg (β:=β) 38).trans underlying38
def wU:=(bg (β:=β) 40).trans underlying40
def wT:=(bg (β:=β) 64).trans underlying64
def yA:=(bg (β:=β) 83).trans underlying83
def yz:=(bg (β:=β) 93).trans underlying93
def xE:=(bg (β:=β) 117).trans underlying117
def xD:=(bg (β:=β) 129).trans underlying129
def xC:=(bg (β:=β) 130).trans underlying130
def xB:=(bg (β:=β) 135).trans underlying135
def xA:=(bg (β:=β) 138).trans underlying138
def xz:=(bg (β:=β) 140).trans underlying140
def xy:=(bg (β:=β) 148).trans underlying148
def xw:=(bg (β:=β) 160).trans underlying160
def xv:=(bg (β:=β) 182).trans underlying182
def xu:=(bg (β:=β) 186).trans underlying186
def xt:=(bg (β:=β) 225).trans underlying225
def xr:=(bg (β:=β) 238).trans underlying238
def xq:=(bg (β:=β) 257).trans underlying257
end
section
open Go.RowKit Go.ChangeShapes Go.WideShapes Go.ChangeAt
section
variable {H:Type} {enc:TypeId×Value->H} {P:Program}
def oH(i:laidOutB P=true){W l:World}{e:Nat->Bool}:∀{g:List TypeId} {j:List Value} {k:List (DataW H)} {f:List MemPlace},
  (∀t∈g,P.readableRec t=true/\t<P.types.size)->DataW.TrodAll enc P W 0 (λ_=>true) true g j k f->(∀p∈f,W.sameAt l p)->(∀p∈f,e p.block=true)->
  DataW.TrodAll enc P l 0 e true g j k f
 |[],_,_,_,_,h,_,_=>by
  obtain⟨rfl,rfl,rfl⟩:=trodAll_nil h;exact trodAll_mk0
 |t::g,_,_,_,hr,h,hs,hsp=>by
  obtain⟨v,q,d,m,a,b,rfl,rfl,rfl,u,n⟩:=trodAll_cons h;obtain⟨o,s⟩:=hr t (by simp);refine trodAll_cons_mk (WideElems.Trod_stays i o s u (λp c=>hs p (by simp[c])) (λp c=>hsp p (by simp[c]))) ?_;exact oH i (λt r=>hr t (by simp[r])) n (λp c=>hs p (by simp[c])) (λp c=>hsp p (by simp[c]))
def aca{w:World}{base:Nat}{c:Nat->Bool}{e:Bool}:∀{f:List TypeId} {m:List Value} {g:List (DataW H)} {l:List MemPlace},DataW.TrodAll enc P w base c e f m g l->g.length=f.length
 |[],_,_,_,h=>by
  obtain⟨_,rfl,_⟩:=trodAll_nil h;rfl
 |t::f,_,_,_,h=>by
  obtain⟨v,k,d,i,a,b,rfl,rfl,rfl,n,j⟩:=trodAll_cons h;rw[mp,mp,aca j]
end
def own:ownKnob prog.godebug=none:=by kernel_rfl
def wQ:laidOutB prog=true:=by kernel_rfl
def vy{x:Int}(h:(Lit.int .i64 x).wf=true):fg x:=by
 simp[Lit.wf,IntKind.min,IntKind.max,IntKind.signed,IntKind.bits] at h;exact⟨by omega,by omega⟩
section
variable {H:Type} {enc:TypeId×Value->H} {P:Program}
end
end
section
open Go.RowKit Go.ChangeShapes Go.WideShapes Go.ChangeAt Go.Deep
section
variable {H:Type} {enc:TypeId×Value->H} {P:Program} {w:World}
def R2{α β:Type}(A:eX α)(n:Nat)(B:eX β):eX (α×β):=λw b c x e=>∃a d:List Value,e=a++d/\a.length=n/\A w b c x.1 a/\B w b c x.2 d
def R3{α β γ:Type}(A:eX α)(n:Nat)(B:eX β)(m:Nat)(C:eX γ):eX (α×β×γ):=λw b c x f=>∃a d e:List Value,f=a++(d++e)/\a.length=n/\d.length=m/\A w b c x.1 a/\B w b c x.2.1 d/\C w b c x.2.2 e
end
end
section
variable {β:Bool}
open Go.RowKit
structure py (P:Program) (t e:TypeId) (sz bytes:Nat):Prop where
 slice:P.underlying t=some (.slice e)
 info:∃i z,P.info? e=some i/\i.zero=some z/\i.size=sz/\i.bytes=bytes/\z.cells.size=sz
 pos:0<sz
 small:bytes<=128
section
variable {P:Program}
def py.mk'{t e:TypeId}{z:Value}(f:P.underlying t=some (.slice e))(k:(P.info? e).map (λi=>(i.zero,i.size,i.bytes))=some (some z,Y,V))(l:z.cells.size=Y)(a:0<Y)(j:V<=128):py P t e Y V:=by
 obtain⟨i,d,b,g,c⟩:=info_parts k;exact⟨f,⟨i,z,d,b,g,c,l⟩,a,j⟩
structure alN (w w':World) (base:Nat) (e:TypeId) (sz:Nat) (v v':Value) (n:Nat) (cells:List Value):Prop where
 own:w'.ownsRow base e sz v' n cells
 chg:jm (λb=>v.ownBlock=some b) w w'
 at_:∀b,v'.ownBlock=some b->v.ownBlock=some b\/w.heap.size<=b
def alO{base:Nat}{e:TypeId}{S:Nat->Prop}(h:w.ownsRow base e Y v n news)(k:jm S w w')(j:∀b,v.ownBlock=some b->¬S b):w'.ownsRow base e Y v n news:=by
 refine⟨h.1, ?_⟩;rcases h.2 with i|⟨g,cap,d,rfl,f,a,c⟩
 .exact .inl i
 .refine .inr ⟨g,cap,d,rfl,f, ?_,c⟩;rw[k.block g (db.1 a).1 (j g rfl)];exact a
def adE{base:Nat}{e:TypeId}(h:w.ownsRow base e Y v n news)(a:Below w.heap.size w w'):w'.ownsRow base e Y v n news:=
 alO h (jm.adD (S:=λ_=>False) a) λ_ _ h=>h
def arT {t ty e:TypeId} (q:py P t e Y V) {base:Nat}   (d:w.ownsRow base e Y v n S)
  (O:news.length=m*Y) (R:0<m->∃a,A=some a/\∀(j:Nat) (u:Value),news[j]?=some u->w.cell? (a.add j)=some u) (Q:∀u∈news,u.oneCell'=true)
  (W:n+m<=1099511627776) (l:base<=w.heap.size) :
  ∃y x,(Builtin.append_ #[t,t] ty #[v,.slice A m c]).run P w=.ok y x/\alN w x base e Y v y (n+m) (S++news):=by
 obtain⟨i,z,G,N,D,E,F⟩:=q.info;have f:(n+m)*V<=140737488355328:=am (Nat.mul_le_mul W q.small) (by omega);rcases mu m with I|I
 .subst I;have C:news=[]:=sJ (by simpa using O);subst C;cases A with
  |some K=>
   obtain⟨y,x,M,H,o,_,p⟩:=run_append_own_at (P:=P) w base t ty e i z Y V q.slice G N D E F q.pos v n S d K 0 c [] (by simp) (λj u U=>by simp at U) (by simp) (by unfold maxLen;omega) f l;exact⟨y,x,M,H,⟨o.os,o.tape,o.output,o.size,λk J r=>o.block k J λe=>r e.symm⟩,λb B=>by rcases p with p|p<;>rw[p] at B<;>simp_all⟩
  |none=>
   refine⟨v,w, ?_,by simpa using d,jm.refl _ _,λb B=>.inl B⟩;rcases d.2 with⟨rfl,rfl⟩|⟨g,cap,T,rfl,_,_,L,_⟩
   .simp[Builtin.append_,li q.slice,sizeOf,typeInfo,G,Builtin.lenOf,Builtin.firstCells]
   .simp[Builtin.append_,li q.slice,sizeOf,typeInfo,G,Builtin.lenOf,Builtin.firstCells,L,storeCells]
 .obtain⟨K,rfl,s⟩:=R I;obtain⟨y,x,M,H,o,_,p⟩:=run_append_own_at (P:=P) w base t ty e i z Y V q.slice G N D E F q.pos v n S d K m c news O s Q (by unfold maxLen;omega) f l;exact⟨y,x,M,H,⟨o.os,o.tape,o.output,o.size,λk J r=>o.block k J λe=>r e.symm⟩,λb B=>by rcases p with p|p<;>rw[p] at B<;>simp_all⟩
def au8  {a:Act} {K:Act->World->Prop} (s x:Operand) (t:TypeId)
  (l:o.op=.call ⟨.builtin .append,#[s,x],#[t,t]⟩)
  {e:TypeId} (k:py P t e Y V) {base:Nat}   (r:a.eval s=v) (d:w.ownsRow base e Y v n S)
  (y:a.eval x=.slice A m c) (p:news.length=m*Y) (C:0<m->∃a,A=some a/\∀(j:Nat) (u:Value),news[j]?=some u->w.cell? (a.add j)=some u) (B:∀u∈news,u.oneCell'=true)
  (z:n+m<=1099511627776) (b:base<=w.heap.size)
  (h:∀i g,alN w g base e Y v i (n+m) (S++news)->K (a.put o.dst i) g):o.wp P a w K Q:=by
 obtain⟨i,g,f,q⟩:=arT (P:=P) (ty:=o.type) k d (c:=c) p C B z b;unfold Oper.wp execOp;simp only[l,resolve,invoke,builtin,tf,tX,ur,List.map_toArray,qo,List.map_nil,r,y,f];exact h i g q
def adF    {a:Act} (i:o.guard=none) (s x:Operand) (t:TypeId)
  (y:o.op=.call ⟨.builtin .append,#[s,x],#[t,t]⟩)
  {e:TypeId} (r:py P t e Y V) {base:Nat}   (B:a.eval s=v) (d:w.ownsRow base e Y v n S)
  (C:a.eval x=.slice A m c) (z:news.length=m*Y) (q:0<m->∃a,A=some a/\∀(j:Nat) (u:Value),news[j]?=some u->w.cell? (a.add j)=some u) (l:∀u∈news,u.oneCell'=true)
  (D:n+m<=1099511627776) (b:base<=w.heap.size)
  (h:∀g f,alN w f base e Y v g (n+m) (S++news)->wpList P N Q rest (a.put o.dst g) f):wpList P N Q (o::rest) a w:=
 wpList_plain i λ_ p=>au8 s x t y r B d C z q l D b λg f k=>p _ _ (h g f k)
def arU    {a:Act} (k:o.guard=none) (s x:Operand) (t:TypeId)
  (B:o.op=.call ⟨.builtin .append,#[s,x],#[t,t]⟩)
  {e:TypeId} (A:py P t e Y V) {base:Nat}   (E:a.eval s=v) (d:w.ownsRow base e Y v n S)
  {es:Array Value} {T:TypeId} (G:a.eval x=.slice (some ⟨w.heap.size,0,none⟩) 1 1) (C:es.size=Y) (z:∀u∈es.toList,u.oneCell'=true)
  (H:n<=1099511627775) (p:base<=w.heap.size)
  (h:∀g f,alN w f base e Y v g (n+1) (S++es.toList)->wpList P N Q rest (a.put o.dst g) f):wpList P N Q (o::rest) a (w.alloc (.cells es T)):=by
 refine adF k s x t B A E (d.alloc _) (c:=1) (m:=1) (news:=es.toList) G (by simp[C]) (λ_=>⟨_,rfl,λj u D=> ?_⟩) z (by omega) (by simp;omega) λg f l=>h g f ?_
 .have q:(⟨w.heap.size,0,none⟩:Addr).add j=⟨w.heap.size,j,none⟩:=by unfold Addr.add;split<;>simp_all
  rw[q,(gK.new w T es).cell];simpa using D
 .refine⟨l.own, ?_, ?_⟩
  .exact((jm.refl (λb=>v.ownBlock=some b) w).alloc _).trans l.chg λi _ F=>F
  .intro b y;rcases l.at_ b y with r|r
   .exact .inl r
   .simp at r;right;omega
end
def arV(w:World)(base:Nat)(v:Value)(xs:List Int):Prop:=w.ownsRow base 3 1 v xs.length (xs.map (Value.int .i64))
def aaH:py (aj β) 31 3 1 8:=py.mk' vL (z:=.int .i64 0) (by kernel_rfl) rfl (by decide) (by decide)
def kW{base:Nat}{e:TypeId}(h:w.ownsRow base e Y v n S):∃A c,v=.slice A n c:=by
 rcases h.2 with⟨rfl,rfl⟩|⟨g,cap,a,rfl,_⟩
 .exact⟨_,_,rfl⟩
 .exact⟨_,_,rfl⟩
def ao4 {E:eX W} {base : Nat} {e:TypeId}    (h:w.ownsRow base e V v xs.length S) (t:w.heap.size<=Y)
  (p:∀i x,xs[i]?=some x->∃a:List Value,a.length=V/\E w base Y x a/\∀j u,a[j]?=some u->S[i*V+j]?=some u):cJ E V w base Y xs [v]:=by
 obtain⟨A,l⟩:=h;rcases l with⟨rfl,m⟩|⟨g,cap,d,rfl,n,k,f,c,s,o⟩
 .exact⟨none,0,by rw[m],by omega,by unfold maxLen;omega,λB=>by omega⟩
 .refine⟨_,cap,rfl,f,c,λ_=>⟨g,0,rfl,n,aE (db.1 k).1 t,λi x Y=> ?_⟩⟩;obtain⟨a,q,y,z⟩:=p i x Y;refine⟨a,q,y,λj u r=> ?_⟩;have b:=z j u r;rw[<-o,qA] at b;split at b
  .rw[cell_of_row w g (0+i*V+j) d e (0,0) k];rw[pb];simpa using b
  .cases b
def arV.sl{base : Nat}{xs:List Int}(h:arV w base v xs)(b:∀x∈xs,fg x)(d:w.heap.size<=Y):cJ gu 1 w base Y xs [v]:=
 ao4 h d λi x Y=>⟨[.int .i64 x],rfl,⟨rfl,b x (da Y)⟩,λj u a=>by
  have c:j=0:=by have:=aH a;simpa using this
  subst c;simp at a;subst a;rw[qm,sV,rI,Y];rfl⟩
end
end Go.Proofs.YtlggbfanooejbaaGreatDoor