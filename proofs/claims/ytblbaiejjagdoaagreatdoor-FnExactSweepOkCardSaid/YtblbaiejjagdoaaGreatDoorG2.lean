/- A part. -/
import Derived.Test.YtblbaiejjagdoaaGreatDoorG1
import Derived.KernelRfl
import Derived.Test.YtblbaiejjagdoaaGreatDoorRows
import Derived.ProofKit
import Derived.OpenShut
import Derived.Handy
import Derived.BigQuiet
import Derived.Deep.QuietTactic
import Derived.Outline
import Derived.Deep.Draws
import Derived.Lib.Hide
import Derived.HandedShaped
import Derived.Carry
import Derived.Deep.Slices
import Derived.Deep.Fields
set_option maxRecDepth 100000
set_option maxHeartbeats 8000000
set_option linter.all false
open Go Go.RowKit Go.Proofs.Tryz Go.Proofs.YtblbaiejjagdoaaGreatDoor
variable {U R N B c k n:Nat} {ρ:Ren} {Y:Type} {J:Next} {fn:Func} {o:Oper} {V fr:Frame} {Q w w':World} {v:Value} {f:FuncId} {P:Program} {S:Nat→Prop} {i:TypeInfo} {I todo:List Item} {g g':Goroutine} {W cs l l':List Frame} {M r:Option Nat} {Z a t:Array Value} {O es:Array Event} {A:Option Addr} {K:List Deferred} {e e':Operand→Value} {s':List Frame→GStep} {L:TypeId→Option TypeInfo} {s:List Frame→World→GStep} {x:Y} {xs:List Y}
namespace Go.Proofs.YtblbaiejjagdoaaGreatDoor
def be:=@List.mem_of_getElem?
def gc:=@Array.getD_eq_getD_getElem?
def io:=@Option.map_eq_some_iff
def jn:=@List.getElem?_eq_getElem
def jp:=@List.all_eq_true
def lE:=@List.mem_cons
def mc:=@Go.RowKit.Below.heap_setCell
def mp:=@List.length_cons
def mt:=@Option.bind_eq_some_iff
def nf:=@Nat.lt_or_ge
def oE:=@Array.getElem?_setIfInBounds_self_of_lt
def pm:=@List.mem_range
def pG:=@Bool.false_ne_true
def pH:=@Array.getElem?_eq_none
def pK:=@List.map_cons
def pL:=@List.getElem?_append_right
def pR:=@Go.World.cell?_of_block
def pS:=@Option.getD_some
def pX:=@Array.mem_of_getElem?
def pZ:=@Option.map_some
def qa:=@List.getElem?_append_left
def qb:=@Classical.byContradiction
def qd:=@Option.bind_some
def qg:=@Go.Stepped.next.injEq
def qh:=@and_true
def qi:=@List.getElem?_map
def qk:=@List.mem_cons_of_mem
def qm:=@Go.Sem.run_bind'
def qp:=@List.mem_iff_getElem?
def qs:=@Bool.or_eq_true
def qu:=@List.cons_append
def qz:=@List.cons.injEq
def qA:=@List.mem_cons_self
def qE:=@Go.Sem.runT_fst
def qN:=@List.getElem?_eq_none
def qP:=@Option.isSome_iff_exists
def qY:=@List.nil_append
def rb:=@Array.getElem?_append_left
def rx:=@Array.mem_toList_iff
def rH:=@Go.RowKit.Below.heap_alloc
def rO:=@Go.Result.ok.injEq
def sJ:=@List.all_append
def sR:=@Go.Value.slice.injEq
def sU:=@dif_pos
def tL:=@Bool.not_eq_true'
def tP:=@Nat.add_assoc
def tR:=@Bool.false_or
def uv:=@Bool.or_false
def uw:=@Bool.not_true
def uA:=@List.reverse_cons
def uS:=@List.range_succ
def vA:=@Array.map_congr_left
section
inductive gM (ρ:Ren):Next->Next->Prop
 |value {v v':Value} (h:VR ρ v v'):gM ρ (.value v) (.value v')
 |skip:gM ρ .skip .skip
 |enter (f:FuncId) {a a':Array Value} (h:cQ ρ a a'):gM ρ (.enter f a) (.enter f a')
 |round {l l':Nat} (h:ρ.r l l') (f:FuncId) {t t':Array Value} (ht:cQ ρ t t') (c d:Code):gM ρ (.round l f t (gP c) (gP d)) (.round l' f t' c d)
def ag7(ρ:Ren):∀(d:Nat) (v:Value),mR gA d v=true->VR ρ v v
 |0,v,h=>by cases h
 |d+1,v,h=>by
  have e:∀l:List Value,l.all (mR gA d)=true->bN ρ l l:=λl g=>bN.jH λv i=>ag7 ρ d v (jp.1 g v i);cases v with
  |bool b=>exact .bool b
  |int k n=>exact .int k n
  |string s=>exact .string s
  |nilFunc=>exact .nilFunc
  |nilIface=>exact .nilIface
  |pointer a=>cases a with
   |none=>exact .pointer .none
   |some a=>cases h
  |slice a n c=>cases a with
   |none=>exact .slice .none n c
   |some a=>cases h
  |map a=>cases a with
   |none=>exact .map .none
   |some a=>cases h
  |chan a=>cases a with
   |none=>exact .chan .none
   |some a=>cases h
  |func f a c=>
   unfold mR at h;simp only[fb] at h;exact .func (.same f h.1.1) (e _ h.1.2) (e _ h.2)
  |iface t v=>exact .iface t (ag7 ρ d v h)
  |agg c=>exact .agg (e _ h)
  |tuple c=>exact .tuple (e _ h)
  |float|complex=>cases h
def adB(ρ:Ren)(e e':Operand->Value):Prop:=∀x,bJ gA gL x=true->VR ρ (e x) (e' x)
def adB.maps(h:adB ρ e e'):∀{l:List Operand},l.all (bJ gA gL)=true->bN ρ (l.map e) (l.map e')
 |[],_=>.nil
 |x::l,hl=>by
  simp only[pQ,fb] at hl;exact .cons (h x hl.1) (h.maps hl.2)
def adB.map(h:adB ρ e e'){l:Array Operand}(a:l.toList.all (bJ gA gL)=true):cQ ρ (l.map e) (l.map e'):=by
 unfold cQ;rw[qe,qe];exact h.maps a
def adB.opt(h:adB ρ e e'){l:Option Operand}(a:∀x,l=some x->bJ gA gL x=true):OVR ρ (l.map e) (l.map e'):=by
 cases l with
 |none=>exact .none
 |some x=>exact .some (h x (a x rfl))
def adB.parts(h:adB ρ e e'):∀{l:List (Nat×Operand)},(l.map (·.2)).all (bJ gA gL)=true->PRs ρ (l.map λ(i,x)=>(i,e x)) (l.map λ(i,x)=>(i,e' x))
 |[],_=>.nil
 |(i,x)::l,hl=>by
  simp only[pK,pQ,fb] at hl;exact .cons i (h x hl.1) (h.parts hl.2)
section
variable {P P':Program} {ρ:Ren}
def ais(P P':Program):Prop:=∀(f:FuncId) (c:Func),P.funcs[f]?=some c->c.body=none->gA f=true->∀(ρ:Ren) (a b:Array Value),cQ ρ a b->aB P P' gM ρ (callFunc f a) (callFunc f b)
def bE{s s':Sem Value}(h:aB P P' VR ρ s s'):aB P P' gM ρ (do pure (.value (<-s))) (do pure (.value (<-s'))):=ai h λ_ _ _ _ a=>aj (.value a)
def ag8{s s':Sem Unit}(h:aB P P' iF ρ s s'):aB P P' gM ρ (do s;pure .skip) (do s';pure .skip):=ai h λ_ _ _ _ _=>aj .skip
variable (T:Twin P P') (X:ais P P')
include T X
theorem akx(f:FuncId)(l:gA f=true)(h:cQ ρ a Z):aB P P' gM ρ (callFunc f a) (callFunc f Z):=by
 cases d:P.funcs[f]? with
 |none=>
  refine .dead ?_ _;unfold callFunc;show Leaves P _ (match P.funcs[f]? with|none=>_|some b=>_);rw[d];trivial
 |some b=>
  cases e:b.body with
  |none=>exact X f b d e l ρ a Z h
  |some c=>
   obtain⟨q,j,i⟩:=T.func f b d;obtain⟨n,g, -⟩:=i.some c e;unfold callFunc;refine ai cR λo p r m k=> ?_;obtain⟨rfl,rfl⟩:=k;rw[d,j];dsimp only;rw[i.name,i.axY,e,g];exact aj (.enter f (bN.mono m h))
omit T X in
theorem bN.ap2{ρ:Ren}:∀(b:List Tmp) {l c:List Value} {t d:Array Value},bN ρ l c->cQ ρ t d->cQ ρ ((b.zip l).foldl (λa (x:Tmp×Value)=>a.setIfInBounds x.1 x.2) t) ((b.zip c).foldl (λa (x:Tmp×Value)=>a.setIfInBounds x.1 x.2) d)
 |[],_,_,_,_,_,ht=>ht
 |_::_,_,_,_,_,.nil,ht=>ht
 |p::b,_,_,_,_,.cons hx hl,ht=>bN.ap2 b hl (ht.set p hx)
omit T X in
theorem lQ{l l':Nat}(h:ρ.r l l'):aB P P' (λa x m=>OR a (.loop x) (.loop m)) ρ (Instr.getLoop l) (Instr.getLoop l'):=by
 unfold Instr.getLoop;refine ai (ed h) λa o p n b=> ?_;cases b with
 |loop i d e g k f j c=>exact aj (.loop i d e g k f j c)
 |_=>exact .halt _ _
omit T X in
theorem as5{l l':Nat}(h:ρ.r l l')(c:cQ ρ a Z):aB P P' gM ρ (Instr.yield l a) (Instr.yield l' Z):=by
 unfold Instr.yield;refine ai (lQ h) λn x p b d=> ?_;cases d with
 |loop o m e g j f i k=>
  rw[j,e,f,i,c.size];refine aQ (λ_=>.halt _ _) λ_=>aj (.round (b.r h) _ ?_ _ _);rw[<-rM,<-rM,Array.toList_zip,Array.toList_zip];exact bN.ap2 _ (bN.mono b c) g
end
def aax{t:TypeId}(h:adO P t=true):∀k e,P.underlying t=some (.map k e)->∃b,P.underlying k=some (.int b):=λk e a=>by
 unfold adO ag2 at h;rw[a] at h;dsimp only at h;split at h
 .exact⟨_,by assumption⟩
 .cases h
section
variable {P P':Program} {ρ:Ren}
variable (T:Twin P P') (X:ais P P')
include T
theorem kQ:∀(d:Nat) {ρ:Ren} (t:TypeId) {x j y i:Value},VR ρ x j->VR ρ y i->aB P P' iF ρ (Op.eqGuardIn d t x y) (Op.eqGuardIn d t j i)
 |0,_,_,_,_,_,_,_,_=>.halt _ _
 |d+1,ρ,t,x,j,y,i,g,c=>by
  unfold Op.eqGuardIn;refine ai (aC T t) λM u O C hd=> ?_;obtain⟨rfl,hd⟩:=hd;replace g:=g.mono C;replace c:=c.mono C;cases u with
  |interface N=>cases g<;>cases c<;>first|exact aj rfl|(cases j<;>first|exact aj rfl|exact absurd (by assumption:jd Value.nilIface=true) (by decide)|exact absurd (by assumption:jd (Value.agg _)=true) pG)|(cases i<;>first|exact aj rfl|exact absurd (by assumption:jd Value.nilIface=true) (by decide)|exact absurd (by assumption:jd (Value.agg _)=true) pG)
  |struct L=>cases g with
   |agg g=>cases c with
    |agg c=>
     refine ai (abb (B:=iF) L (rfl:iF M (none,()) (none,())) λm f r l k _ _=> ?_) λm r l k e=> ?_
     .refine aQ (λ_=> ?_) λ_=>aj (.yield rfl);refine ai (lv T f.type (bN.mono k g) f.offset) λJ a I w s=> ?_;refine ai (lv T f.type (bN.mono (k.trans w) c) f.offset) λH b F p o=> ?_;refine ai (kQ d f.type (s.mono p) o) λD q v _ e=> ?_;obtain rfl:q=v:=e;exact aQ (λ_=>aj (.done rfl)) λ_=>aj (.yield rfl)
     .obtain rfl:r=l:=e;obtain⟨_|q,u⟩:=r<;>exact aj rfl
    |fc=>(cases i<;>first|exact aj rfl|exact absurd (by assumption:jd Value.nilIface=true) (by decide)|exact absurd (by assumption:jd (Value.agg _)=true) pG)
    |_=>exact aj rfl
   |_=>cases c<;>first|exact aj rfl|(cases j<;>first|exact aj rfl|exact absurd (by assumption:jd Value.nilIface=true) (by decide)|exact absurd (by assumption:jd (Value.agg _)=true) pG)|(cases i<;>first|exact aj rfl|exact absurd (by assumption:jd Value.nilIface=true) (by decide)|exact absurd (by assumption:jd (Value.agg _)=true) pG)
  |array n e=>cases g with
   |agg g=>cases c with
    |agg c=>
     refine ai (dP T e) λK z G E q=> ?_;obtain rfl:z=G:=q;refine ai (abc (B:=iF) n (rfl:iF K (none,()) (none,())) λm f r l k _=> ?_) λm r l k e=> ?_
     .have A:=E.trans k;refine ai (lv T e (bN.mono A g) (f*z)) λJ a I w s=> ?_;refine ai (lv T e (bN.mono (A.trans w) c) (f*z)) λH b F p o=> ?_;refine ai (kQ d e (s.mono p) o) λD q v _ e=> ?_;obtain rfl:q=v:=e;exact aQ (λ_=>aj (.done rfl)) λ_=>aj (.yield rfl)
     .obtain rfl:r=l:=e;obtain⟨_|q,u⟩:=r<;>exact aj rfl
    |fc=>(cases i<;>first|exact aj rfl|exact absurd (by assumption:jd Value.nilIface=true) (by decide)|exact absurd (by assumption:jd (Value.agg _)=true) pG)
    |_=>exact aj rfl
   |_=>cases c<;>first|exact aj rfl|(cases j<;>first|exact aj rfl|exact absurd (by assumption:jd Value.nilIface=true) (by decide)|exact absurd (by assumption:jd (Value.agg _)=true) pG)|(cases i<;>first|exact aj rfl|exact absurd (by assumption:jd Value.nilIface=true) (by decide)|exact absurd (by assumption:jd (Value.agg _)=true) pG)
  |_=>exact aj rfl
theorem aoc(op:BinOp)(t:TypeId)(x y:Operand){a b b' : Value}(i:VR ρ a v)(c:VR ρ b b'):aB P P' iF ρ (eqGuard op t x y a b) (eqGuard op t x y v b'):=by
 unfold eqGuard;refine aQ (λ_=>aj rfl) λ_=> ?_;have g:=i;have f:=c;cases i with
 |nilIface=>cases c with
  |nilIface=>
   refine aQ (λ_=>aj rfl) λ_=> ?_;refine ai (kQ T _ t .nilIface .nilIface) λl q d _ e=> ?_;obtain rfl:q=d:=e;exact aQ (λ_=>.halt _ _) λ_=>aj rfl
  |fc=>(cases b'<;>first|exact aj rfl|exact absurd (by assumption:jd Value.nilIface=true) (by decide)|exact absurd (by assumption:jd (Value.agg _)=true) pG)
  |_=>exact aj rfl
 |agg i=>cases c with
  |agg c=>
   refine ai cR λl p z k m=> ?_;obtain⟨o,u⟩:=m;refine ai cR λw q d j n=> ?_;obtain⟨r,s⟩:=n;rw[o,u,r,s,T.akn,T.depth];refine aQ (λ_=>aj rfl) λ_=> ?_;refine ai (kQ T _ t (g.mono (k.trans j)) (f.mono (k.trans j))) λl q d _ e=> ?_;obtain rfl:q=d:=e;exact aQ (λ_=>.halt _ _) λ_=>aj rfl
  |fc=>(cases b'<;>first|exact aj rfl|exact absurd (by assumption:jd Value.nilIface=true) (by decide)|exact absurd (by assumption:jd (Value.agg _)=true) pG)
  |_=>exact aj rfl
 |_=>cases c<;>first|exact aj rfl|(cases v<;>first|exact aj rfl|exact absurd (by assumption:jd Value.nilIface=true) (by decide)|exact absurd (by assumption:jd (Value.agg _)=true) pG)|(cases b'<;>first|exact aj rfl|exact absurd (by assumption:jd Value.nilIface=true) (by decide)|exact absurd (by assumption:jd (Value.agg _)=true) pG)
theorem aod(f dst:TypeId)(a:akl P f dst=true){x g:Value}(c:VR ρ x g):aB P P' VR ρ (convert f dst x) (convert f dst g):=by
 unfold convert;refine ai (aC T f) λB u A t m=> ?_;obtain⟨rfl,m⟩:=m;refine ai (aC T dst) λo v w p n=> ?_;obtain⟨rfl,n⟩:=n;replace c:=c.mono (t.trans p);unfold akl at a;rw[m,n] at a;cases v with
 |int k=>
  cases u with
  |int y=>cases c with
   |int=>exact aj (.int _ _)
   |pointer h=>cases h<;>exact .halt _ _
   |slice h=>cases h<;>exact .halt _ _
   |_=>exact .halt _ _
  |_=>cases a
 |string=>
  cases u with
  |slice e=>
   have b:∀{x g:Value},VR o x g->aB P P' VR o (do
     match<-underlying e with
     |.int .u8=>Conv.bytesToString x
     |.int .i32=>Conv.runesToString x
     |_=>stuck "Convert: a slice of what to string?") (do
     match<-underlying e with
     |.int .u8=>Conv.bytesToString g
     |.int .i32=>Conv.runesToString g
     |_=>stuck "Convert: a slice of what to string?"):=λ{x g} c=>by
    refine ai (aC T e) λr z q l i=> ?_;obtain⟨rfl,i⟩:=i;dsimp only at a;rw[i] at a;cases z with
    |int k=>cases k<;>first|exact adz (c.mono l)|exact .halt _ _|cases a
    |_=>exact .halt _ _
   have j:=c;cases c with
   |int=>exact aj (.string _)
   |string s=>exact aj (.string _)
   |pointer h=>cases h<;>exact b j
   |slice h=>cases h<;>exact b j
   |fc=>
    refine .dead (Leaves.bind (aek e) λd _=> ?_) _;cases d with
    |int k=>cases k<;>exact trivial
    |_=>exact trivial
   |_=>exact b j
  |unsafePointer=>cases a
  |_=>cases c with
   |int=>exact aj (.string _)
   |string s=>exact aj (.string _)
   |pointer h=>cases h<;>exact .halt _ _
   |slice h=>cases h<;>exact .halt _ _
   |_=>exact .halt _ _
 |slice e=>
  cases u with
  |string=>cases c with
   |string s=>
    refine ai (aC T e) λr z q l i=> ?_;obtain⟨rfl,i⟩:=i;dsimp only at a;rw[i] at a;cases z with
    |int k=>cases k<;>first|exact adA e s|exact .halt _ _|cases a
    |_=>exact .halt _ _
   |pointer h=>cases h<;>exact .halt _ _
   |slice h=>cases h<;>exact .halt _ _
   |_=>exact .halt _ _
  |_=>cases a
 |_=>cases u<;>cases a
theorem aky(x:Operand)(dst:Option Tmp)(t:TypeId)(pos:String)(af:Array Edge)(g:Option (Nat×Bool))(o:VR ρ (e x) (e' x)):aB P P' gM ρ (execOp e ⟨dst,.nilCheck x,t,pos,af,g⟩) (execOp e' ⟨dst,.nilCheck x,t,pos,af,g⟩):=by
 unfold execOp;dsimp only;revert o;generalize e x=v;generalize e' x=v';intro o;cases o with
 |pointer h=>cases h with
  |none=>exact .dead (dQ _) _
  |some h=>exact aj (.value (.pointer (.some h)))
 |nilIface=>exact .dead (dQ _) _
 |nilFunc=>exact .dead (dQ _) _
 |@func p y i _ _ _ _ m l=>
  cases i with
  |same _ i=>
   cases p with
   |func p=>exact aj (.value (.func (.same _ i) m l))
   |_=>cases i
  |yield h=>exact aj (.value (.func (.yield h) m l))
 |aa1 k j=>exact .dead (dQ _) _
 |slice m l r=>exact aj (.value (.slice m l r))
 |empty q u w=>exact aj (.value (.empty q u w))
 |map h=>exact aj (.value (.map h))
 |chan h=>exact aj (.value (.chan h))
 |iface t h=>exact aj (.value (.iface t h))
 |agg h=>exact aj (.value (.agg h))
 |tuple h=>exact aj (.value (.tuple h))
 |fc j d=>
  cases v' with
  |pointer a=>cases a with
   |none=>cases d
   |some a=>exact aj (.value (.fc j d))
  |func f a c=>cases f<;>first|(cases d;done)|exact aj (.value (.fc j d))
  |_=>first|(cases d;done)|exact aj (.value (.fc j d))
 |bool b=>exact aj (.value (.bool b))
 |int k n=>exact aj (.value (.int k n))
 |string s=>exact aj (.value (.string s))
theorem aoe(b:Builtin)(ts:Array TypeId)(t:TypeId)(cs:Array Bool)(c:acd P b ts=true)(h:cQ ρ a Z):aB P P' gM ρ (builtin b ts t cs a) (builtin b ts t cs Z):=by
 cases b with
 |append=>
  refine bE (apW T ts t (λu e k d=> ?_) h);unfold acd ag2 at c;rw[e] at c;simp[d] at c
 |cap=>exact bE (ax1 T ts t h)
 |clear=>exact bE (as0 T ts t h)
 |copy=>exact bE (awf T ts t h)
 |len=>exact bE (ax0 T ts t h)
 |max=>exact bE (ax2 ts t h)
 |min=>exact bE (ax3 ts t h)
 |unsafeString=>exact bE (aeh T ts t h)
 |unsafeSlice=>exact bE (afy T ts t h)
 |_=>cases c
include X
theorem amP{v' : Value}(a:VR ρ v v'){args args':Array Value}(b:cQ ρ args args'):aB P P' gM ρ (do let d<-Deferred.ofValue v args;invoke d.target d.args) (do let d<-Deferred.ofValue v' args';invoke d.target d.args):=by
 unfold Deferred.ofValue;cases a with
 |nilFunc=>
  show aB P P' gM ρ (runtimePanic .nilDeref) _;exact .dead (dQ _) _
 |@func f l a _ _ _ _ g i=>
  cases a with
  |same _ a=>
   cases f with
   |func f=>exact akx T X f a (cQ.app (cQ.app g b) i)
   |_=>cases a
  |yield h=>exact as5 h (cQ.app g b)
 |aa1 k j=>
  refine .dead ?_ _;show js P (invoke (.fn (.method "") (Array.replicate k .nilIface)) (#[.nilIface]++args));have e:(#[Value.nilIface]++args)[0]?=some .nilIface:=by
   rw[rb (by show 0<1;omega)];rfl
  unfold invoke;simp only[e];show js P (runtimePanic .nilDeref);exact dQ _
 |_=>exact .halt _ _
theorem awl(c:Call)(t:TypeId)(l:adB ρ e e')(j:lr P gA gL (.call c)=true):aB P P' gM ρ (do let d<-resolve e c t;invoke d.target d.args) (do let d<-resolve e' c t;invoke d.target d.args):=by
 unfold lr at j;simp only[fb] at j;obtain⟨g,k⟩:=j;obtain⟨a,args,n⟩:=c;simp only[Op.operands,Call.operands,nF,sJ,fb] at g;have i:=l.map g.2;cases a with
 |builtin b=>
  exact aoe T b n t _ k i
 |invoke r m=>cases k
 |value f=>exact amP T X (l f (by simpa using g.1)) i
theorem aAf{o' : Oper}(a:pj gA gL o'.op=true)(c:o={o' with type:=gB})(f:adB ρ e e'):aB P P' gM ρ (execOp e o) (execOp e' o'):=by
 subst c;obtain⟨dst,op,type,d,after,b⟩:=o';dsimp only at a;unfold pj at a;split at a
 .exact bE (abd _ gB type T.asS (f.map a))
 .cases a
theorem ap3(w:lr P gA gL o.op=true)(p:adB ρ e e'):aB P P' gM ρ (execOp e o) (execOp e' o):=by
 obtain⟨dst,op,v,K,after,D⟩:=o;dsimp only at w;have A:=w;unfold lr at w;simp only[fb] at w;obtain⟨j,u⟩:=w;cases op with
 |move x=>exact aj (.value (p x (by simpa[Op.operands] using j)))
 |assign x=>exact aj (.value (p x (by simpa[Op.operands] using j)))
 |pick c a b=>
  simp[Op.operands] at j;refine ai (ad4 (p c j.1)) λI q L z e=> ?_;obtain rfl:q=L:=e;cases q with
  |true=>exact aj (.value ((p a j.2.1).mono z))
  |false=>exact aj (.value ((p b j.2.2).mono z))
 |alloc t=>exact bE (asV T t)
 |box t x=>exact bE (axZ t (p x (by simpa[Op.operands] using j)))
 |build t F=>
  refine bE (asZ T t ?_);rw[qe,qe];exact p.parts (by simpa[Op.operands] using j)
 |buildSlice t n F=>
  refine bE (ag5 T t n ?_);rw[qe,qe];exact p.parts (by simpa[Op.operands] using j)
 |load t a=>exact bE (apT T t (p a (by simpa[Op.operands] using j)))
 |store t a x=>
  simp[Op.operands] at j;exact ag8 (an1 T t (p a j.1) (p x j.2))
 |nilCheck x=>exact aky T x _ _ _ _ _ (p x (by simpa[Op.operands] using j))
 |binOp op t x y M=>
  simp[Op.operands] at j;refine bE (ai (aoc T op t x y (p x j.1) (p y j.2)) λI _ _ z _=>as4 T op t ((p x j.1).mono z) ((p y j.2).mono z))
 |unOp op t x=>exact bE (as1 op (p x (by simpa[Op.operands] using j)))
 |convert s d x=>exact bE (aod T s d u (p x (by simpa[Op.operands] using j)))
 |makeInterface t x=>exact bE (adw T t (p x (by simpa[Op.operands] using j)))
 |makeFunc f a c=>
  simp only[Op.operands,nF,sJ,fb] at j;exact bE (akp (.same f u) (p.map j.1) (p.map j.2))
 |makeMap t r=>cases r with
  |none=>exact bE (akq t)
  |some x=>cases u
 |makeSlice t l c=>
  simp[Op.operands] at j;exact bE (aiq T t (p l j.1) (p c j.2))
 |slice t x l h m=>
  simp only[Op.operands,nF,sJ,fb] at j;obtain⟨⟨⟨C,B⟩,E⟩,G⟩:=j;have op:∀{l:Option Operand},l.toArray.toList.all (bJ gA gL)=true->OVR ρ (l.map e) (l.map e'):=λ{l} h=>p.opt λx J=>by subst J;simpa using h
  exact bE (an5 T t (p x (by simpa using C)) (op B) (op E) (op G))
 |fieldAddr t x f=>
  refine bE (an3 T t f (λN g i C B E=> ?_) (p x (by simpa[Op.operands] using j)));unfold amH at u;simpa[C,B,E] using u
 |field t x f=>exact bE (asW T t (p x (by simpa[Op.operands] using j)) f)
 |indexAddr t x i=>
  simp[Op.operands] at j;exact bE (an4 T t (p x j.1) (p i j.2))
 |index t x i=>
  simp[Op.operands] at j;exact bE (asY T t (p x j.1) (p i j.2))
 |lookup t x i H=>
  simp[Op.operands] at j;exact bE (apY T t (aax u) (p x j.1) (p i j.2) H)
 |mapUpdate t m k x=>
  simp[Op.operands] at j;exact ag8 (acS T t (aax u) (p m j.1) (p k j.2.1) (p x j.2.2))
 |insert t m k x=>
  simp[Op.operands] at j;exact ag8 (acS T t (aax u) (p m j.1) (p k j.2.1) (p x j.2.2))
 |range t x=>exact bE (as3 T t (p x (by simpa[Op.operands] using j)))
 |next x b=>exact bE (awk (p x (by simpa[Op.operands] using j)) b v)
 |extract x i=>exact bE (an2 (p x (by simpa[Op.operands] using j)) i)
 |call c=>exact awl T X c v p A
 |panic x=>exact bE (as2 _ _)
 |_=>cases u
end
section
variable (P:Program)
inductive ItR (ρ:Ren):Item->Item->Prop
 |code (c:Code):ItR ρ (.code (gP c)) (.code c)
 |inBlock (id:Nat):ItR ρ (.inBlock id) (.inBlock id)
 |inLoop (c:Code):ItR ρ (.inLoop (gP c)) (.inLoop c)
 |inScope (c:Code):ItR ρ (.inScope (gP c)) (.inScope c)
 |inRegion {ops ops':Array Oper} (h:apQ P ops ops') (l:List Nat):ItR ρ (.inRegion ops l) (.inRegion ops' l)
 |inRangeFunc {l l':Nat} (h:ρ.r l l'):ItR ρ (.inRangeFunc l) (.inRangeFunc l')
 |endRangeFunc {l l':Nat} (h:ρ.r l l'):ItR ρ (.endRangeFunc l) (.endRangeFunc l')
 |beginRound:ItR ρ .beginRound .beginRound
inductive je (ρ:Ren):List Item->List Item->Prop
 |nil:je ρ [] []
 |cons {x x':Item} {l l':List Item} (h:ItR P ρ x x') (hl:je ρ l l'):je ρ (x::l) (x'::l')
end
inductive CDs (ρ:Ren):List Deferred->List Deferred->Prop
 |nil:CDs ρ [] []
 |cons {b b':Nat} {l l':List Deferred} (h:ρ.r b b') (hl:CDs ρ l l'):CDs ρ (⟨.collected b,#[]⟩::l) (⟨.collected b',#[]⟩::l')
structure FrR (P:Program) (ρ:Ren) (fr cj:Frame):Prop where
 fn:fr.fn=cj.fn
 tmps:cQ ρ fr.tmps cj.tmps
 todo:je P ρ fr.todo cj.todo
 defers:CDs ρ fr.defers cj.defers
 mode:(fr.mode=.run/\cj.mode=.run)\/(fr.mode=.returning/\cj.mode=.returning)
 kind:fr.kind=.normal/\cj.kind=.normal
 round:NR ρ fr.roundOf cj.roundOf
inductive gZ (P:Program) (ρ:Ren):List Frame->List Frame->Prop
 |one {fr cj:Frame} (h:FrR P ρ fr cj) (h0:fr.roundOf=none):gZ P ρ [fr] [cj]
 |cons {fr cj:Frame} {l l':List Frame} (h:FrR P ρ fr cj) (hl:gZ P ρ l l'):gZ P ρ (fr::l) (cj::l')
section
variable {P:Program} {ρ σ:Ren}
def ItR.mono(h:ρ.Le σ){x a:Item}:ItR P ρ x a->ItR P σ x a
 |.code c=>.code c
 |.inBlock id=>.inBlock id
 |.inLoop c=>.inLoop c
 |.inScope c=>.inScope c
 |.inRegion h l=>.inRegion h l
 |.inRangeFunc x=>.inRangeFunc (h.r x)
 |.endRangeFunc x=>.endRangeFunc (h.r x)
 |.beginRound=>.beginRound
def je.mono(h:ρ.Le σ):∀{x a:List Item},je P ρ x a->je P σ x a
 |_,_,.nil=>.nil
 |_,_,.cons x y=>.cons (x.mono h) (y.mono h)
def CDs.mono(h:ρ.Le σ):∀{x a:List Deferred},CDs ρ x a->CDs σ x a
 |_,_,.nil=>.nil
 |_,_,.cons x y=>.cons (h.r x) (y.mono h)
def FrR.mono(h:ρ.Le σ)(x:FrR P ρ fr V):FrR P σ fr V:=
 ⟨x.fn,bN.mono h x.tmps,x.todo.mono h,x.defers.mono h,x.mode,x.kind,x.round.mono h⟩
def gZ.mono(h:ρ.Le σ):∀{x a:List Frame},gZ P ρ x a->gZ P σ x a
 |_,_,.one x y=>.one (x.mono h) y
 |_,_,.cons x y=>.cons (x.mono h) (y.mono h)
def VR.undef:VR ρ undef undef:=.tuple .nil
def apQ.dst{b a:Array Oper}(h:apQ P b a)(i:Nat):(b[i]?).bind (·.dst)=(a[i]?).bind (·.dst):=by
 obtain⟨g,h⟩:=h;cases e:b[i]? with
 |none=>
  have:a[i]?=none:=by
   rw[pi] at e ⊢;omega
  rw[this]
 |some o=>
  have f:=(de.1 e).1;obtain⟨c,d⟩:∃c,a[i]?=some c:=⟨_,fi (by omega)⟩;rw[d];rcases h i o c e d with⟨rfl,_⟩|⟨_,rfl⟩<;>rfl
def FrR.finish(h:FrR P ρ fr V){v' : Value}(z:VR ρ v v'):FrR P ρ (fr.finish v) (V.finish v'):=by
 obtain⟨f,t,y,d,m,k,r⟩:=fr;obtain⟨E,s,D,C,F,B,A⟩:=V;obtain⟨u,a,w,b,e,g,c⟩:=h;dsimp only at u a w b e g c;subst u;cases w with
 |nil=>exact⟨rfl,a,.nil,b,e,g,c⟩
 |cons x j=>
  cases x with
  |inRegion p l=>
   cases l with
   |nil=>exact⟨rfl,a,.cons (.inRegion p []) j,b,e,g,c⟩
   |cons i o=>
    refine⟨rfl, ?_,.cons (.inRegion p o) j,b,e,g,c⟩;show cQ ρ (match _ with|some d=>t.setIfInBounds d v|none=>t) (match _ with|some d=>s.setIfInBounds d v'|none=>s);rw[p.dst i];split
    .exact a.set _ z
    .exact a
  |inRangeFunc q=>exact⟨rfl,a,.cons (.endRangeFunc q) j,b,e,g,c⟩
  |beginRound=>exact⟨rfl,a,j,b,e,g,c⟩
  |code n=>exact⟨rfl,a,.cons (.code n) j,b,e,g,c⟩
  |inBlock id=>exact⟨rfl,a,.cons (.inBlock id) j,b,e,g,c⟩
  |inLoop n=>exact⟨rfl,a,.cons (.inLoop n) j,b,e,g,c⟩
  |inScope n=>exact⟨rfl,a,.cons (.inScope n) j,b,e,g,c⟩
  |endRangeFunc n=>exact⟨rfl,a,.cons (.endRangeFunc n) j,b,e,g,c⟩
def je.exit(id:Nat):∀{k a:List Item},je P ρ k a->(exitTo id k=none/\exitTo id a=none)\/∃l c,exitTo id k=some l/\exitTo id a=some c/\je P ρ l c
 |_,_,.nil=>.inl ⟨rfl,rfl⟩
 |_,_,.cons x y=>by
  have b:=y.exit id;cases x with
  |inBlock i=>
   unfold exitTo;by_cases e:(i ==id)=true
   .rw[dl e,dl e];exact .inr ⟨_,_,rfl,rfl,y⟩
   .rw[bd e,bd e];exact b
  |code|inLoop|inScope|inRegion|inRangeFunc|endRangeFunc|beginRound=>simpa[exitTo] using b
end
def jN(w:World)(ds:List Deferred):Prop:=∀d∈ds,∃b,d=⟨.collected b,#[]⟩/\∀x l,w.heap[b]?≠some (.deferred (some (x::l)))
inductive lS (base:List Frame):GStep->Prop
 |ended (o:Outcome) (w:World) (es:Array Event):lS base (.ended o w es)
 |stop {g:Goroutine} {w:World} {es:Array Event} (h:g.status=.blocked\/g.status=.waiting):lS base (.go g w es)
 |raised {fr:Frame} {cs:List Frame} {w:World} {es:Array Event} {ch:List PanicEntry} (hm:fr.mode=.panicking ch) (hd:∀f∈fr::cs,jN w f.defers):lS base (.go {frame:=fr,callers:=cs++base,status:=.running,dying:=none} w es)
 |dying {fr:Frame} {w:World} {es:Array Event} {d:Dying} {f:Fatal} (hf:d.fatal=some f) (hc:d.calling=false):lS base (.go {frame:=fr,callers:=[],status:=.running,dying:=some d} w es)
def lS.after{base:List Frame}{s:GStep}(es:Array Event)(h:lS base s):lS base (s.after es):=by
 cases h with
 |ended o w e=>exact .ended o w _
 |stop h=>exact .stop h
 |raised a hd=>exact .raised a hd
 |dying b c=>exact .dying b c
def Gl:List Frame->List Frame->Goroutine
 |[],base=>{(default:Goroutine) with callers:=base}
 |fr::cs,base=>⟨fr,cs++base,.running,none,none⟩
def GoR(P P':Program)(ρ:Ren)(l l':List Frame):Prop:=
 gZ P ρ l l'\/∃f a b m c,gH f=true/\cQ ρ a b/\gZ P ρ m c/\l=Frame.enter P f a .normal::m/\l'=Frame.enter P' f b .normal::c
def kK(P P':Program)(ρ:Ren)(w w':World)(s:List Frame->World->GStep)(s':List Frame->GStep):Prop:=
 ∃(a:Tape) (D:Nat),(∀base t,Agr w D a t->lS base (s base (w.tap t)))\/
  ∃c g e i b f d,(∀base t,Agr w D a t->s base (w.tap t)=.go (Gl g base) (e.tap t) i)/\e.drawn=w.drawn+D/\ρ.Le c/\(∀base,s' base=.go (Gl b base) f d)/\WR c e f/\Kept ρ c w w' e f/\EvW w c i d/\GoR P P' c g b
section
variable {P P':Program} {ρ:Ren} {w w':World}
def kK.still(a:WR ρ w w')(h:∀base w,s base w=.go (Gl l base) w #[])(b:∀base,s' base=.go (Gl l' base) w' #[])(c:GoR P P' ρ l l'):kK P P' ρ w w' s s':=
 ⟨w.tape,0,.inr ⟨ρ,l,w,#[],l',w',#[],λ_ t _=>h _ _,rfl,Ren.Le.refl _,b,a,Kept.refl _ _ _,.nil _ _,c⟩⟩
def kK.bad(h:∀base w,lS base (s base w)):kK P P' ρ w w' s s':=⟨w.tape,0,.inl λ_ _ _=>h _ _⟩
def CDs.marks{b : List Deferred}(h:CDs ρ K b)(c:WR ρ w w'){t:Tape}(i:eI (w.tap t) Q):jN Q K:=by
 induction h with
 |nil=>intro d hd;cases hd
 |cons g m j=>
  intro d hd;rcases lE.1 hd with rfl|hd
  .refine⟨_,rfl,λx l e=> ?_⟩;have:=i _ _ _ e;obtain⟨o,p,k,n,f⟩:=c.obj g;have a:(w.tap t).heap[_]?=some o:=k;rw[this] at a;cases a;cases f
  .exact j d hd
def awm(T:Twin P P')(fn:FuncId)(h:lu ρ es.toList O.toList):lu ρ (seen P fn es).toList (seen P' fn O).toList:=by
 have u:∀f:Nat,(P'.funcs[f]?).any (·.norace)=(P.funcs[f]?).any (·.norace):=λf=>by
  cases o:P.funcs[f]? with
  |none=>
   have:P'.funcs[f]?=none:=by
    rw[pi] at o ⊢;rw[T.ain];exact o
   rw[this]
  |some fn=>
   obtain⟨A,v,s⟩:=T.func f fn o;rw[v];simp[s.norace]
 unfold seen;dsimp only;rw[<-rM,<-rM];simp only[u];generalize t:(λf:Nat=>(P.funcs[f]?).any (·.norace))=Q;have m:∀f:Nat,(P.funcs[f]?).any (·.norace)=Q f:=λf=>by rw[<-t]
 simp only[m];have n:∀{l p:List Event},lu ρ l p->∀(q:Bool) (k b:Array Event),lu ρ k.toList b.toList->
   lu ρ (l.foldl (λx e=>match e.loc with
    |.mark (.extern f)=>(Q f,x.2)
    |_=>(x.1,if x.1&&!e.sync then x.2 else x.2.push e)) (q,k)).2.toList
   (p.foldl (λx e=>match e.loc with
    |.mark (.extern f)=>(Q f,x.2)
    |_=>(x.1,if x.1&&!e.sync then x.2 else x.2.push e)) (q,b)).2.toList:=by
  intro l p h
  induction h with
  |nil=>intro q k b d;exact d
  |cons r B j=>
   intro q k b d;rw[sG,sG];have push:∀e i:Event,EvR ρ e i->lu ρ (if(q&&!e.sync)=true then k else k.push e).toList (if(q&&!i.sync)=true then b else b.push i).toList:=λe i h=>by
    have w:e.sync=i.sync:=by cases h;rfl
    rw[w];split
    .exact d
    .rw[qX,qX];exact d.app (.cons h .nil)
   have a:=r;cases r with
   |mk g wr z=>
    cases g with
    |cell D=>exact j _ _ _ (push _ _ a)
    |obj C=>exact j _ _ _ (push _ _ a)
    |mark y=>
     cases y with
     |extern f=>exact j _ _ _ d
     |_=>exact j _ _ _ (push _ _ a)
 exact n h _ _ _ .nil
def ap4(P:Program)(fn:FuncId)(es:Array Event):∀e∈(seen P fn es).toList,e∈es.toList:=by
 unfold seen;dsimp only;rw[<-rM];have d:∀(l:List Event) (q:Bool) (k:Array Event) (S:List Event),(∀e∈k.toList,e∈S)->(∀e∈l,e∈S)->
   ∀e∈(l.foldl (λx e=>match e.loc with
    |.mark (.extern f)=>((P.funcs[f]?).any (·.norace),x.2)
    |_=>(x.1,if x.1&&!e.sync then x.2 else x.2.push e)) (q,k)).2.toList,e∈S:=by
  intro l
  induction l with
  |nil=>intro q k S c _;exact c
  |cons x l i=>
   intro q k S c g;rw[sG];have push:∀e∈(if(q&&!x.sync)=true then k else k.push x).toList,e∈S:=by
    split
    .exact c
    .intro e a;rw[qX,gt] at a;rcases a with a|a
     .exact c e a
     .simp at a;subst a;exact g _ (qA ..)
   have b:∀e∈l,e∈S:=λe a=>g e (qk _ a);split
   .exact i _ k S c b
   .exact i _ _ S push b
 exact d es.toList _ _ es.toList (λe a=>by cases a) λe a=>a
def aay(T:Twin P P')(fn:FuncId)(h:EvW w ρ es O):EvW w ρ (seen P fn es) (seen P' fn O):=
 ⟨awm T fn h.ev,λb c e a=>h.nw b c e (ap4 P fn es e a)⟩
end
section
variable {P P':Program} {ρ σ:Ren} {base:List Frame} {w w':World}
def gZ.put(g:ρ.Le σ){a b : Frame}(h:gZ P ρ (fr::cs) (V::W))(c:FrR P σ a b)(e:a.roundOf=fr.roundOf):gZ P σ (a::cs) (b::W):=by
 cases h with
 |one h f=>exact .one c (e.trans f)
 |cons h d=>exact .cons c (d.mono g)
def gZ.head(h:gZ P ρ (fr::cs) (V::W)):FrR P ρ fr V:=by
 cases h with
 |one h a=>exact h
 |cons h b=>exact h
def gZ.marks(h:gZ P ρ l l')(b:WR ρ w w'){t:Tape}(c:eI (w.tap t) Q):∀f∈l,jN Q f.defers:=by
 induction h with
 |one h g=>intro f a;simp at a;subst a;exact h.defers.marks b c
 |cons h e d=>
  intro f a;rcases lE.1 a with rfl|a
  .exact h.defers.marks b c
  .exact d f a
def GoR.of(h:gZ P ρ (fr::cs) (V::W)):GoR P P' ρ (fr::cs) (V::W):=.inl h
def FrR.at(h:FrR P ρ fr V)(a:je P ρ todo I):FrR P ρ {fr with todo} {V with todo:=I}:=
 ⟨h.fn,h.tmps,a,h.defers,h.mode,h.kind,h.round⟩
def aaz{c:List PanicEntry}(d:∀f∈fr::cs,jN Q f.defers):lS base (.go ⟨fr.raise c,cs++base,.running,none,none⟩ Q #[]):=by
 have:∃a,(fr.raise c).mode=.panicking a:=by unfold Frame.raise;split<;>exact⟨_,rfl⟩
 obtain⟨a,e⟩:=this;refine .raised e λf b=> ?_;rcases lE.1 b with rfl|b
 .have:(fr.raise c).defers=fr.defers:=by unfold Frame.raise;split<;>rfl
  rw[this];exact d fr (by simp)
 .exact d f (by simp[b])
variable (T:Twin P P')
include T
theorem aof(g:Nat)(w:World):lS base (early P fr cs none g w):=by
 unfold early;simp only[T.mj.1,T.mj.2];exact .ended _ _ _
theorem ag9(m:String)(w:World):lS base (endFatal P fr cs none m w):=by
 unfold endFatal;dsimp only;split
 .exact .dying rfl rfl
 .exact .ended _ _ _
 .exact .ended _ _ _
omit T in
theorem fE(fr:Frame)(v:Value):(fr.finish v).roundOf=fr.roundOf:=by
 unfold Frame.finish;split<;>first|rfl|(split<;>rfl)
theorem af2(w:String):gP (.refuse w)=.refuse w:=by rw[T.pc];rfl
theorem abf(w:String):je P ρ [.code (.refuse w)] [.code (.refuse w)]:=by
 have h:je P ρ [.code (gP (.refuse w))] [.code (.refuse w)]:=.cons (.code _) .nil;rw[af2 T] at h;exact h
omit T in
theorem as6{l l':Nat}(a:ρ.r l l')(f:FuncId)(b:cQ ρ t Z)(c d:Code):FrR P ρ (Frame.round l f t (gP c) (gP d) .normal) (Frame.round l' f Z c d .normal):=
 ⟨rfl,b,.cons (.code c) (.cons .beginRound (.cons (.code d) .nil)),.nil,.inl ⟨rfl,rfl⟩,⟨rfl,rfl⟩,.some a⟩
theorem aha(r:gH f=false)(q:cQ ρ a Z):FrR P ρ (Frame.enter P f a .normal) (Frame.enter P' f Z .normal):=by
 have m:∀n,cQ ρ (a++Array.replicate (n-a.size) undef) (Z++Array.replicate (n-Z.size) undef):=λn=>by
  rw[q.size];exact cQ.app q (bN.jH λv p=>by simp at p;rw[p.2];exact VR.undef)
 cases b:P.funcs[f]? with
 |none=>
  have l:P'.funcs[f]?=none:=by
   rw[pi] at b ⊢;rw[T.ain];exact b
  unfold Frame.enter;rw[b,l];exact⟨rfl,m _,abf T _,.nil,.inl ⟨rfl,rfl⟩,⟨rfl,rfl⟩,.none⟩
 |some d=>
  obtain⟨o,k,j⟩:=T.func f d b;unfold Frame.enter;rw[b,k];refine⟨rfl, ?_, ?_,.nil,.inl ⟨rfl,rfl⟩,⟨rfl,rfl⟩,.none⟩
  .show cQ ρ (a++Array.replicate (d.ntmps-a.size) undef) (Z++Array.replicate (o.ntmps-Z.size) undef);rw[j.ntmps];exact m _
  .show je P ρ [.code (d.body.getD _)] [.code (o.body.getD _)];cases e:d.body with
   |none=>
    obtain rfl:=j.none e;rw[e];exact abf T _
   |some c=>
    obtain⟨s,i,g⟩:=j.some c e;rw[i,g r];exact .cons (.code _) .nil
theorem ahb{s s':Sem Next}(A:gZ P ρ (fr::cs) (V::W))(L:WR ρ w w')(hs:aB P P' gM ρ s s') :
  kK P P' ρ w w' (λbase w=>stepG.apply P true fr (cs++base) none s w) (λbase=>stepG.apply P' true V (W++base) none s' w'):=by
 have r:=A.head;have n:(fr.kind ==CallKind.early)=false:=by rw[r.kind.1];rfl
 have k:(V.kind ==CallKind.early)=false:=by rw[r.kind.2];rfl
 have E:(match fr.todo with|.call _ true _ _::_=>CallKind.wrapped|_=>CallKind.normal)=.normal:=by
  have e:=r.todo;revert e;generalize fr.todo=a;generalize V.todo=b;intro e;cases e with
  |nil=>rfl
  |cons x _=>cases x<;>rfl
 have J:(match V.todo with|.call _ true _ _::_=>CallKind.wrapped|_=>CallKind.normal)=.normal:=by
  have e:=r.todo;revert e;generalize fr.todo=a;generalize V.todo=b;intro e;cases e with
  |nil=>rfl
  |cons x _=>cases x<;>rfl
 obtain⟨g,D,H⟩:=hs.run w w' #[] #[] L;rcases H with H|⟨σ,a,j,S,p,G,F,h1,R,y,U,h5,h6,h7,Y⟩
 .refine⟨g,D,.inl λbase t e=> ?_⟩;obtain⟨h,j,iw,hr,hk⟩:=H t e;have Q:=A.marks L hk;unfold stepG.apply;simp only[hr,mT];refine lS.after _ ?_;cases h with
  |panic v=>exact aaz Q
  |goexit=>exact aaz Q
  |blocked=>exact .stop (.inl rfl)
  |waiting=>exact .stop (.inr rfl)
  |exit c=>exact .ended _ _ _
  |fatal m=>exact ag9 T m j
  |throw m=>exact .dying rfl rfl
  |unsupported u=>
   cases u<;>first|exact .ended _ _ _|exact aof T _ j
  |stuck s=>exact .ended _ _ _
 .refine⟨g,D,.inr ?_⟩;have o:=A.mono y;have he:EvW w σ (seen P fr.fn G) (seen P' V.fn F):=by rw[r.fn];exact aay T _ Y
  have C:∀t,Agr w D g t->s.runT P (w.tap t) #[]=(.ok a (j.tap t),G):=λt e=>by rw[h1 t e];simp
  have B:s'.runT P' w' #[]=(.ok S p,F):=by rw[U];simp
  have fin:∀q i,(∀base t,Agr w D g t->stepG.apply P true fr (cs++base) none s (w.tap t)=.go (Gl q base) (j.tap t) (seen P fr.fn G))->(∀base,stepG.apply P' true V (W++base) none s' w'=.go (Gl i base) p (seen P' V.fn F))->GoR P P' σ q i->
    ∃σ q j O i p z,(∀base t,Agr w D g t->stepG.apply P true fr (cs++base) none s (w.tap t)=.go (Gl q base) (j.tap t) O)/\j.drawn=w.drawn+D/\ρ.Le σ/\(∀base,stepG.apply P' true V (W++base) none s' w'=.go (Gl i base) p z)/\WR σ j p/\Kept ρ σ w w' j p/\EvW w σ O z/\GoR P P' σ q i:=
   λq i q1 q2 X=>⟨σ,q,j,_,i,p,_,q1,R,y,q2,h6,h7,he,X⟩
  cases h5 with
  |@value v v' hv=>exact fin (fr.finish v::cs) (V.finish v'::W) (λbase t e=>by unfold stepG.apply;simp only[C t e,mT,n];simp[GStep.after,Gl]) (λbase=>by unfold stepG.apply;simp only[B,mT,k];simp[GStep.after,Gl]) (GoR.of (A.put y ((r.mono y).finish hv) (fE _ _)))
  |skip=>exact fin (fr.finish undef::cs) (V.finish undef::W) (λbase t e=>by unfold stepG.apply;simp only[C t e,mT,n];simp[GStep.after,Gl]) (λbase=>by unfold stepG.apply;simp only[B,mT,k];simp[GStep.after,Gl]) (GoR.of (A.put y ((r.mono y).finish VR.undef) (fE _ _)))
  |@enter f a0 K M=>
   refine fin (Frame.enter P f a0 .normal::fr::cs) (Frame.enter P' f K .normal::V::W) (λbase t e=>by unfold stepG.apply;simp only[C t e,mT,n];simp[GStep.after,Gl];exact fa (Frame.enter P f _) E) (λbase=>by unfold stepG.apply;simp only[B,mT,k];simp[GStep.after,Gl];exact fa (Frame.enter P' f _) J) ?_;cases N:gH f with
   |true=>exact .inr ⟨f,_,_,_,_,N,M,o,rfl,rfl⟩
   |false=>exact .inl (.cons (aha T N M) o)
  |@round l l' Z f tm I e c d=>
   exact fin (Frame.round l f tm (gP c) (gP d) .normal::fr::cs) (Frame.round l' f I c d .normal::V::W) (λbase t e=>by unfold stepG.apply;simp only[C t e,mT,n];simp[GStep.after,Gl]) (λbase=>by unfold stepG.apply;simp only[B,mT,k];simp[GStep.after,Gl])
    (.inl (.cons (as6 Z f e c d) o))
end
section
variable {P P':Program} {ρ σ:Ren} {w w':World}
def GlR(ρ:Ren):Prop:=∀g∈gL,ρ.r g g
def GlR.mono(h:ρ.Le σ)(x:GlR ρ):GlR σ:=λg a=>h.r (x g a)
def akz{l l':Nat}(h:ρ.r l l'){j a:Option Code}(b:j=a.map gP):aB P P' VR ρ (Instr.endRound l j) (Instr.endRound l' a):=by
 unfold Instr.endRound;refine ai (lQ h) λσ x q f c=> ?_;have g:j.isNone=a.isNone:=by subst b;cases a<;>rfl
 rw[g];cases c with
 |loop p o e k n i m d=>
  exact ai (ie (f.r h) (.loop rfl b e k n i m d)) λ_ _ _ _ _=>aj (.bool _)
def aog{l l':Nat}(h:ρ.r l l'):aB P P' (λ_ q m=>q=m.map gP) ρ (Instr.endLoop l) (Instr.endLoop l'):=by
 unfold Instr.endLoop;refine ai (lQ h) λσ x n e b=> ?_;cases b with
 |loop i a d g k f j c=>
  rw[i];refine aQ (λ_=>dr _) λ_=> ?_;exact ai (ie (e.r h) (.loop rfl a d g k f j c)) λ_ _ _ _ _=>aj a
def ahc(h:NR ρ r M):aB P P' gM ρ (do r.elim (stuck "beginRound: no round") Instr.beginRound;pure .skip) (do M.elim (stuck "beginRound: no round") Instr.beginRound;pure .skip):=by
 cases h with
 |none=>exact .halt _ _
 |some h=>
  refine ag8 ?_;show aB P P' iF ρ (Instr.beginRound _) (Instr.beginRound _);unfold Instr.beginRound;refine ai (lQ h) λσ x m e a=> ?_;cases a with
  |loop i c d g k f j b=>
   refine ai (ie (e.r h) (.loop rfl c d g k f j b)) λl _ _ _ _=> ?_;rw[i];split
   .exact aj rfl
   .exact dr _
   .exact dr _
   .exact dr _
def aag(e:Operand->Value)(a:Operand)(l:Nat)(h:∀v,e (.const v)=v):resolve e ⟨.value a,#[.const (.func (.yield l) #[] #[])],#[]⟩ 0=Deferred.ofValue (e a) #[.func (.yield l) #[] #[]]:=by
 unfold resolve;simp[h]
def EnR(ρ:Ren)(x x':Nat×List Deferred):Prop:=ρ.r x.1 x'.1/\CDs ρ x.2 x'.2
def ait(f:FuncId)(n:cQ ρ t Z)(d:Array Tmp)(a b:Code)(h:NR ρ r M):aB P P' EnR ρ (Instr.enterLoop f t d (gP a) (gP b) r) (Instr.enterLoop f Z d a b M):=by
 unfold Instr.enterLoop;have c:∀(σ:Ren) (q e:Nat×List Deferred),ρ.Le σ->EnR σ q e->aB P P' EnR σ (do
   let l<-newObj (.loop ⟨.ready,none,f,t,d,gP a,gP b,q.1⟩)
   pure (l,q.2)) (do
   let l<-newObj (.loop ⟨.ready,none,f,Z,d,a,b,e.1⟩)
   pure (l,e.2)):=λσ q e g k=>by
  refine ai (afV (show OR σ (.loop ⟨.ready,none,f,t,d,gP a,gP b,q.1⟩) (.loop ⟨.ready,none,f,Z,d,a,b,e.1⟩) from .loop rfl rfl rfl (bN.mono g n) rfl rfl rfl k.1)) λv y o j u=> ?_;exact aj (A:=EnR) (show EnR v (y,q.2) (o,e.2) from⟨u,k.2.mono j⟩)
 cases h with
 |none=>
  exact ai (afV .deferred) λσ x i g m=>c σ (x,[⟨.collected x,#[]⟩]) (i,[⟨.collected i,#[]⟩]) g ⟨m,.cons m .nil⟩
 |some h=>
  refine ai (lQ h) λσ x i g p=> ?_;cases p with
  |loop B w E z D F C s=>exact c σ (_,[]) (_,[]) g ⟨s,.nil⟩
def FrR.env(j:GlR ρ)(h:FrR P ρ fr V):adB ρ fr.eval V.eval:=λx a=>by
 cases x with
 |tmp t=>
  show VR ρ (fr.tmps.getD t undef) (V.tmps.getD t undef);have l:=bN.size h.tmps;rw[gc,gc];cases e:fr.tmps[t]? with
  |none=>
   have:V.tmps[t]?=none:=by
    rw[pi] at e ⊢;omega
   rw[this];exact VR.undef
  |some v=>
   obtain⟨k,b,d⟩:=bN.get h.tmps (i:=t) (v:=v) (by rw[ef];exact e);rw[ef] at b;rw[b];exact d
 |const v=>exact ag7 ρ 5 v a
 |global g=>exact .pointer (.some (.mk (j g (by simpa[bJ] using a)) 0 none))
 |func f=>exact .func (.same (.func f) a) .nil .nil
def GoR.jf(h:∀base w,∃o a b,s base w=.ended o a b):kK P P' ρ w w' s s':=kK.bad λbase w=>by
 obtain⟨o,a,b,e⟩:=h base w;rw[e];exact .ended _ _ _
variable (T:Twin P P') (X:ais P P')
include T
theorem awn(a b:Code):gP (.seq a b)=.seq (gP a) (gP b):=by rw[T.pc];rfl
theorem ap5(id:Nat)(a:Code):gP (.block id a)=.block id (gP a):=by rw[T.pc];rfl
theorem as7(a:Code):gP (.loop a)=.loop (gP a):=by rw[T.pc];rfl
theorem ap6(a:Code):gP (.scope a)=.scope (gP a):=by rw[T.pc];rfl
theorem as8:gP .skip=.skip:=by rw[T.pc];rfl
theorem ap7:gP .ret=.ret:=by rw[T.pc];rfl
theorem ap8(l:Nat):gP (.label l)=.label l:=by rw[T.pc];rfl
theorem amQ(l:Nat):gP (.exit l)=.exit l:=by rw[T.pc];rfl
theorem as9(l:Nat):gP (.goto l)=.refuse "" :=by rw[T.pc];rfl
theorem atb(c:Operand)(a b:Code):gP (.cond c a b)=if bJ gA gL c=true then .cond c (gP a) (gP b) else .refuse "" :=by rw[T.pc];rfl
theorem ahd(f:Operand)(c:Array Tmp)(a b:Code):gP (.rangeFunc f c a b)=if bJ gA gL f=true then .rangeFunc f c (gP a) (gP b) else .refuse "" :=by rw[T.pc];rfl
theorem aoh{g:Oper->Oper}(c:∀o,(g o).after=o.after)(mixed:Bool)(a:Array Oper)(t:Nat):Region.schedule mixed (a.map g) t=Region.schedule mixed a t:=by
 have j:∀(m:Region.Mode) (b t:Nat) (l:Array Bool) (acc:List Nat),Region.linearise.go m (a.map g) b t l acc=Region.linearise.go m a b t l acc:=by
  intro m b
  induction b with
  |zero=>intro t l acc;rfl
  |succ n f=>
   intro t l acc;unfold Region.linearise.go;have e:∀i,((a.map g)[i]?).map (λo:Oper=>o.after.all λe=>!Region.binds m e||l.getD e.on false)=(a[i]?).map (λo:Oper=>o.after.all λe=>!Region.binds m e||l.getD e.on false):=λi=>by
    rw[qC];cases a[i]? with
    |none=>rfl
    |some o=>simp only[pZ,c]
   simp only[sd,e,f]
 have d:Region.departs (a.map g)=Region.departs a:=by
  unfold Region.departs;rw[Array.any_map]
  congr 1
  funext o
  simp only[Function.comp,c]
 unfold Region.schedule Region.linearise;rw[d];simp only[j,sd]
theorem aoi(id:Nat)(a:Array Oper)(c:Bool):(gP (.region id a c)=.region id a c/\apQ P a a)\/(∃d,gP (.region id a c)=.region id d c/\apQ P d a/\∀b t,Region.schedule b d t=Region.schedule b a t)\/gP (.region id a c)=.refuse "" :=by
 rw[T.pc];unfold bM;by_cases m:(a.toList.all λo=>lr P gA gL o.op)=true
 .rw[dl m];refine .inl ⟨rfl,rfl,λi o l e f=> ?_⟩;rw[e] at f;obtain rfl:=dj f;refine .inl ⟨rfl,jp.1 m o ?_⟩;exact rx.2 (pX e)
 .rw[bd m];by_cases k:(a.toList.all λo=>lr P gA gL o.op||pj gA gL o.op)=true
  .rw[dl k];refine .inr (.inl ⟨_,rfl,⟨by simp,λi o l e f=> ?_⟩,λb t=>aoh T (g:=po gA gL gB) (λo=>by unfold po;split<;>rfl) b a t⟩);rw[qC,f] at e;obtain rfl:=dj e;have n:=jp.1 k l (rx.2 (pX f));unfold po;by_cases j:pj gA gL l.op=true
   .rw[dl j];exact .inr ⟨j,rfl⟩
   .rw[bd j];simp only[j,uv] at n;exact .inl ⟨rfl,n⟩
  .rw[bd k];exact .inr (.inr rfl)
theorem abg  {d : List Deferred}  {k k' : List Item} {m:Bool}  
  (a:gZ P ρ (⟨f,t,todo,d,.run,.normal,r⟩::cs) (⟨f,Z,I,K,.run,.normal,M⟩::W)) (b:WR ρ w w') (c:je P ρ k k')
  (h:∀base w,s base w=.go ⟨⟨f,t,k,d,.run,.normal,r⟩,cs++base,.running,none,none⟩ w #[])
  (e:∀base,s' base=.go ⟨⟨f,Z,k',K,.run,.normal,M⟩,W++base,.running,none,none⟩ w' #[]):kK P P' ρ w w' s s':=
 kK.still b (l:=⟨f,t,k,d,.run,.normal,r⟩::cs) (l':=⟨f,Z,k',K,.run,.normal,M⟩::W) h e (GoR.of (a.put (Ren.Le.refl _) (a.head.at c) rfl))
omit T in
def im(p:Program)(main:Bool)(fr:Frame)(callers:List Frame)(w:World)(jump:Option Code):GStep:=
 match fr.roundOf with
 |none=>if jump matches none|some .ret then .go {frame:={fr with mode:=.returning},callers,status:=.running,dying:=none} w else .ended (.stuck "exit, goto: no such block or label" (fr.pos p)) w
 |some l=>
  let(r,es):=(Instr.endRound l jump).runT p w #[]
  GStep.after (seen p fr.fn es) <| match r with
  |.ok v w=>doReturn p main fr callers none v w
  |.halt _ w=>.ended (.stuck "range over a function: no such loop" (fr.pos p)) w
theorem ahe(m m':Bool)(B:gZ P ρ (fr::cs) (V::W))(F:WR ρ w w')(hm:fr.mode=.run)(j:Option Code)(hj:j=j.map gP) :
  kK P P' ρ w w' (λbase w=>im P m fr (cs++base) w j) (λbase=>im P' m' V (W++base) w' j):=by
 have e:=B.head;have q:=e.round;obtain⟨f,t,i,d,E,L,r⟩:=fr;obtain⟨J,C,I,G,R,o,r'⟩:=V;dsimp only at q;cases q with
 |none=>
  unfold im;dsimp only;have still:=kK.still (P:=P) (P':=P') F (l:=⟨f,t,i,d,.returning,L,none⟩::cs) (l':=⟨J,C,I,G,.returning,o,none⟩::W) (s:=λbase w=>.go ⟨⟨f,t,i,d,.returning,L,none⟩,cs++base,.running,none,none⟩ w #[]) (s':=λbase=>.go ⟨⟨J,C,I,G,.returning,o,none⟩,W++base,.running,none,none⟩ w' #[]) (λ_ _=>rfl) (λ_=>rfl) (GoR.of (B.put (Ren.Le.refl _) ⟨e.fn,e.tmps,e.todo,e.defers,.inr ⟨rfl,rfl⟩,e.kind,e.round⟩ rfl));cases j with
  |none=>exact still
  |some c=>cases c<;>first|exact still|exact kK.bad λ_ w=>.ended _ _ _
 |@some l l' X=>
  cases B with
  |one h h0=>cases h0
  |cons h b=>
   obtain⟨g,D,H⟩:=(akz (P:=P) (P':=P') X hj).run w w' #[] #[] F;rcases H with H|⟨σ,a,K,O,cL,us,Y,h1,N,z,Q,h5,h6,h7,U⟩
   .refine⟨g,D,.inl λbase t y=> ?_⟩;obtain⟨h,K,iw,q,A⟩:=H t y;unfold im;simp only[q];exact lS.after _ (.ended _ _ _)
   .refine⟨g,D,.inr ?_⟩;have A:=e.kind;dsimp only at A;obtain⟨rfl,rfl⟩:=A;have M:=e.fn;dsimp only at M;subst M;have k:∀(p:Program) (m:Bool) (x:Frame) (l:List Frame) (v:Value) (w:World) (Z:Array Value) (td:List Item) (ds:List Deferred) (E:FrameMode) (S:Nat),doReturn p m ⟨f,Z,td,ds,E,.normal,some S⟩ (x::l) none v w=.go ⟨x.finish v,l,.running,none,none⟩ w #[]:=λ_ _ _ _ _ _ _ _ _ _ _=>rfl;obtain⟨x,n,rfl⟩:∃x n,cs=x::n:=by cases b<;>exact⟨_,_,rfl⟩
    obtain⟨x',u,rfl⟩:∃x n,W=x::n:=by cases b<;>exact⟨_,_,rfl⟩
    refine⟨σ,x.finish a::n,K,seen P f us,x'.finish O::u,cL,seen P' f Y,λbase t y=> ?_,N,z,λbase=> ?_,h6,h7,aay T f U,GoR.of (b.put z ((b.head.mono z).finish h5) (fE _ _))⟩
    .unfold im;simp only[h1 t y,qu,k];simp[GStep.after,Gl]
    .unfold im;simp only[Q,qu,k];simp[GStep.after,Gl]
theorem kK.seq  {t₁:Tape} {D:Nat} {m : World} {l : Array Event} (s1:List Frame->World->GStep) (s1':List Frame->GStep) (f:FuncId)
  (r:∀base t,Agr w D t₁ t->s base (w.tap t)=(s1 base (Q.tap t)).after (seen P f O)) (A:Q.drawn=w.drawn+D) (M:ρ.Le σ) (C:∀base,s' base=(s1' base).after (seen P' f l)) (u:Kept ρ σ w w' Q m) (I:EvW w σ O l)
  (H:kK P P' σ Q m s1 s1'):kK P P' ρ w w' s s':=by
 obtain⟨d,E,H⟩:=H;have a:∀t,Agr w (D+E) (λi q=>if i<Q.drawn then t₁ i q else d i q) t->Agr w D t₁ t/\Agr Q E d t:=λt c=>⟨λi q y R=>by
  rw[c i q y (by omega)];exact dl (by omega),λi q y R=>by
  rw[c i q (by omega) (by omega)];exact bd (by omega)⟩
 refine⟨λi q=>if i<Q.drawn then t₁ i q else d i q,D+E,H.imp (λH base t c=> ?_) ?_⟩
 .rw[r base t (a t c).1];exact lS.after _ (H base t (a t c).2)
 .rintro⟨L,G,S,K,g,k,j,z,N,p,U,F,J,o,B⟩;have v:=aay T f I;refine⟨L,G,S,seen P f O++K,g,k,seen P' f l++j,λbase t c=> ?_,by rw[N,A,tP],M.trans p,λbase=> ?_,F,u.trans J,⟨?_,λb n x e=> ?_⟩,B⟩
  .rw[r base t (a t c).1,z base t (a t c).2];rfl
  .rw[C,U];rfl
  .rw[nF,nF];exact(v.ev.mono p).app o.ev
  .rw[nF,gt] at e;rcases e with e|e
   .exact v.nw b n x e
   .exact o.nw b (u.frz b n) x e
include X
theorem ax6(hg:GlR ρ)(m m':Bool)(A:gZ P ρ (fr::cs) (V::W))(C:WR ρ w w')(hm:fr.mode=.run) :
  kK P P' ρ w w' (λbase w=>stepG P m ⟨fr,cs++base,.running,none,none⟩ w) (λbase=>stepG P' m' ⟨V,W++base,.running,none,none⟩ w'):=by
 have ly:=A.head;have a1:=ly.env hg;obtain⟨f,t,aH,d,md,kd,r⟩:=fr;obtain⟨f',B,eU,J,a9,aM,E⟩:=V;obtain⟨h1,h2,h3,h4,h5,h6,h7⟩:=ly;dsimp only at h1 h2 h3 h4 h5 h6 h7 hm;subst h1;subst hm;obtain⟨rfl,rfl⟩:=h6;obtain rfl:a9=.run:=by
  rcases h5 with h5|h5
  .exact h5.2
  .cases h5.1
 cases h3 with
 |nil=>
  have G:∀base w,stepG P m ⟨⟨f,t,[],d,.run,.normal,r⟩,cs++base,.running,none,none⟩ w=im P m ⟨f,t,[],d,.run,.normal,r⟩ (cs++base) w none:=λ_ _=>rfl;have L:∀base,stepG P' m' ⟨⟨f,B,[],J,.run,.normal,E⟩,W++base,.running,none,none⟩ w'=im P' m' ⟨f,B,[],J,.run,.normal,E⟩ (W++base) w' none:=λ_=>rfl;simp only[G,L];exact ahe T m m' A C rfl none rfl
 |@cons x x' k F hx I=>
  cases hx with
  |inBlock id=>exact abg T (m:=m) A C I (λbase w=>by simp[stepG,stepG.exec]) (λbase=>by simp[stepG,stepG.exec])
  |inScope c=>exact abg T (m:=m) A C I (λbase w=>by simp[stepG,stepG.exec]) (λbase=>by simp[stepG,stepG.exec])
  |inLoop c=>exact abg T (m:=m) A C (.cons (.code c) (.cons (.inLoop c) I)) (λbase w=>by simp[stepG,stepG.exec]) (λbase=>by simp[stepG,stepG.exec])
  |inRangeFunc hl=>exact GoR.jf λbase w=>⟨_,_,_,by simp[stepG,stepG.exec];exact⟨rfl,rfl,rfl⟩⟩
  |@endRangeFunc l l' hl=>
   obtain⟨t₁,D,H⟩:=(aog (P:=P) (P':=P') hl).run w w' #[] #[] C;rcases H with H|⟨σ,a,w1,a',cL,us,pq,h1,h2,h3,h4,h5,h6,al,h8⟩
   .refine⟨t₁,D,.inl λbase K M=> ?_⟩;obtain⟨h,w1,iw,hr,a7⟩:=H K M;have Z:=A.marks C a7;simp only[stepG,stepG.exec,hr];refine lS.after _ ?_;cases h<;>first|exact aaz Z|exact .ended _ _ _
   .have hi:je P σ ((a.map Item.code).toList++k) ((a'.map Item.code).toList++F):=by
     subst h5;cases a' with
     |none=>exact I.mono h3
     |some c=>exact .cons (.code c) (I.mono h3)
    refine⟨t₁,D,.inr ⟨σ,⟨f,t,(a.map Item.code).toList++k,d,.run,.normal,r⟩::cs,w1,seen P f us,⟨f,B,(a'.map Item.code).toList++F,J,.run,.normal,E⟩::W,cL,seen P' f pq,λbase K M=> ?_,h2,h3,λbase=> ?_,h6,al,aay T f h8,GoR.of (A.put h3 ((A.head.mono h3).at hi) rfl)⟩⟩
    .simp only[stepG,stepG.exec,h1 K M];simp[GStep.after,Gl]
    .simp only[stepG,stepG.exec,h4];simp[GStep.after,Gl]
  |beginRound=>
   have G:∀base w,stepG P m ⟨⟨f,t,.beginRound::k,d,.run,.normal,r⟩,cs++base,.running,none,none⟩ w=stepG.apply P true ⟨f,t,.beginRound::k,d,.run,.normal,r⟩ (cs++base) none (do r.elim (stuck "beginRound: no round") Instr.beginRound;pure .skip) w:=λ_ _=>rfl;have L:∀base,stepG P' m' ⟨⟨f,B,.beginRound::F,J,.run,.normal,E⟩,W++base,.running,none,none⟩ w'=stepG.apply P' true ⟨f,B,.beginRound::F,J,.run,.normal,E⟩ (W++base) none (do E.elim (stuck "beginRound: no round") Instr.beginRound;pure .skip) w':=λ_=>rfl;simp only[G,L];exact ahb T A C (ahc h7)
  |@inRegion n u N l=>
   cases l with
   |nil=>exact abg T (m:=m) A C I (λbase w=>by simp[stepG,stepG.exec]) (λbase=>by simp[stepG,stepG.exec])
   |cons i z=>
    have ay:=A.head.finish VR.undef;have ax:∀j,yielded n t j=yielded u B j:=λj=>by
     unfold yielded;rw[N.dst j];cases((u[j]?).bind (·.dst)) with
     |none=>rfl
     |some x=>
      show(match t[x]? with|some (.bool b)=>some b|_=>none)=(match B[x]? with|some (.bool b)=>some b|_=>none);have hs:=bN.size h2;cases e:t[x]? with
      |none=>
       have:B[x]?=none:=by
        rw[pi] at e ⊢;omega
       rw[this]
      |some v=>
       obtain⟨v',G,L⟩:=bN.get h2 (i:=x) (v:=v) (by rw[ef];exact e);rw[ef] at G;rw[G];cases L<;>first|rfl|(cases v'<;>first|rfl|(cases(by assumption:jd _=true);done))
    have skip:(((n[i]?).map (Region.wanted · (yielded n t))).getD false=false)->(((u[i]?).map (Region.wanted · (yielded u B))).getD false=false)->kK P P' ρ w w' (λbase w=>stepG P m ⟨⟨f,t,.inRegion n (i::z)::k,d,.run,.normal,r⟩,cs++base,.running,none,none⟩ w) (λbase=>stepG P' m' ⟨⟨f,B,.inRegion u (i::z)::F,J,.run,.normal,E⟩,W++base,.running,none,none⟩ w'):=λG L=>
     kK.still C (l:=_::cs) (l':=_::W) (λbase w=>by simp only[stepG,stepG.exec,G];rfl) (λbase=>by simp only[stepG,stepG.exec,L];rfl) (GoR.of (A.put (Ren.Le.refl _) ay (fE _ _)))
    cases eo:n[i]? with
    |none=>
     have U:u[i]?=none:=by
      have:=N.1;rw[pi] at eo ⊢;omega
     exact skip (by rw[eo];rfl) (by rw[U];rfl)
    |some o=>
     obtain⟨S,U⟩:∃S,u[i]?=some S:=by
      have:=(de.1 eo).1;have:=N.1;exact⟨_,fi (by omega)⟩
     have a2:=N.2 i o S eo U;have an:o.guard=S.guard:=by rcases a2 with⟨rfl,_⟩|⟨_,rfl⟩<;>rfl
     have a5:Region.wanted o (yielded n t)=Region.wanted S (yielded u B):=by
      unfold Region.wanted;rw[an];cases S.guard with
      |none=>rfl
      |some g=>obtain⟨j,b⟩:=g;show(yielded n t j ==some b)=(yielded u B j ==some b);rw[ax j]
     cases ew:Region.wanted S (yielded u B) with
     |false=>exact skip (by rw[eo];simp[a5,ew]) (by rw[U];simp[ew])
     |true=>
      rw[ew] at a5;have nd:(∀c,o.op ≠ .defer c)/\∀c,S.op ≠ .defer c:=by
       rcases a2 with⟨rfl,O⟩|⟨Y,rfl⟩
       .have:∀c,o.op ≠ .defer c:=λc e=>by rw[e] at O;unfold lr at O;simp at O
        exact⟨this,this⟩
       .have:∀c,S.op ≠ .defer c:=λc e=>by rw[e] at Y;cases Y
        exact⟨this,this⟩
      have a3:aB P P' gM ρ (execOp (Frame.eval ⟨f,t,.inRegion n (i::z)::k,d,.run,.normal,r⟩) o) (execOp (Frame.eval ⟨f,B,.inRegion u (i::z)::F,J,.run,.normal,E⟩) S):=by
       rcases a2 with⟨rfl,O⟩|⟨Y,ad⟩
       .exact ap3 T X O a1
       .exact aAf T X Y ad a1
      have G:∀base w,stepG P m ⟨⟨f,t,.inRegion n (i::z)::k,d,.run,.normal,r⟩,cs++base,.running,none,none⟩ w=stepG.apply P true ⟨f,t,.inRegion n (i::z)::k,d,.run,.normal,r⟩ (cs++base) none (execOp (Frame.eval ⟨f,t,.inRegion n (i::z)::k,d,.run,.normal,r⟩) o) w:=λbase w=>by
       simp only[stepG,stepG.exec,eo,pZ,pS,a5,mT,stepG.oper,Frame.oper?];cases r with
       |none=>rfl
       |some l0=>
        have:=nd.1;split
        .rename_i R;exact absurd R (this _)
        .rfl
      have L:∀base,stepG P' m' ⟨⟨f,B,.inRegion u (i::z)::F,J,.run,.normal,E⟩,W++base,.running,none,none⟩ w'=stepG.apply P' true ⟨f,B,.inRegion u (i::z)::F,J,.run,.normal,E⟩ (W++base) none (execOp (Frame.eval ⟨f,B,.inRegion u (i::z)::F,J,.run,.normal,E⟩) S) w':=λbase=>by
       simp only[stepG,stepG.exec,U,pZ,pS,ew,mT,stepG.oper,Frame.oper?];cases E with
       |none=>rfl
       |some l0=>
        have:=nd.2;split
        .rename_i R;exact absurd R (this _)
        .rfl
      simp only[G,L];exact ahb T A C a3
  |code c=>
   cases c with
   |skip=>rw[as8 T] at *;exact abg T (m:=m) A C I (λbase w=>by simp[stepG,stepG.exec]) (λbase=>by simp[stepG,stepG.exec])
   |label l=>rw[ap8 T] at *;exact abg T (m:=m) A C I (λbase w=>by simp[stepG,stepG.exec]) (λbase=>by simp[stepG,stepG.exec])
   |seq a b=>rw[awn T] at *;exact abg T (m:=m) A C (.cons (.code a) (.cons (.code b) I)) (λbase w=>by simp[stepG,stepG.exec]) (λbase=>by simp[stepG,stepG.exec])
   |block id a=>rw[ap5 T] at *;exact abg T (m:=m) A C (.cons (.code a) (.cons (.inBlock id) I)) (λbase w=>by simp[stepG,stepG.exec]) (λbase=>by simp[stepG,stepG.exec])
   |loop a=>rw[as7 T] at *;exact abg T (m:=m) A C (.cons (.code a) (.cons (.inLoop a) I)) (λbase w=>by simp[stepG,stepG.exec]) (λbase=>by simp[stepG,stepG.exec])
   |scope a=>rw[ap6 T] at *;exact abg T (m:=m) A C (.cons (.code a) (.cons (.inScope a) I)) (λbase w=>by simp[stepG,stepG.exec]) (λbase=>by simp[stepG,stepG.exec])
   |refuse s=>rw[af2 T] at *;exact GoR.jf λbase w=>⟨_,_,_,by simp[stepG,stepG.exec];exact⟨rfl,rfl,rfl⟩⟩
   |goto l=>rw[as9 T] at *;exact GoR.jf λbase w=>⟨_,_,_,by simp[stepG,stepG.exec];exact⟨rfl,rfl,rfl⟩⟩
   |cond c a b=>
    rw[atb T] at *;by_cases R:bJ gA gL c=true
    .rw[dl R] at *;have hv:=a1 c R;generalize a0:Frame.eval ⟨f,t,.code (.cond c (gP a) (gP b))::k,d,.run,.normal,r⟩ c=v at hv;generalize ao:Frame.eval ⟨f,B,.code (.cond c a b)::F,J,.run,.normal,E⟩ c=v' at hv;cases hv with
     |bool q=>
      have hi:je P ρ (.code (if q=true then gP a else gP b)::k) (.code (if q=true then a else b)::F):=by
       cases q with
       |true=>exact .cons (.code a) I
       |false=>exact .cons (.code b) I
      exact abg T (m:=m) A C hi (λbase w=>by simp[stepG,stepG.exec,a0]) (λbase=>by simp[stepG,stepG.exec,ao])
     |aa1=>exact GoR.jf λbase w=>⟨_,_,_,by unfold anX at a0;simp[stepG,stepG.exec,a0];first|exact⟨rfl,rfl,rfl⟩|rfl⟩
     |_=>exact GoR.jf λbase w=>⟨_,_,_,by simp[stepG,stepG.exec,a0];exact⟨rfl,rfl,rfl⟩⟩
    .rw[bd R] at *;exact GoR.jf λbase w=>⟨_,_,_,by simp[stepG,stepG.exec];exact⟨rfl,rfl,rfl⟩⟩
   |exit id=>
    rw[amQ T] at *;rcases I.exit id with⟨x1,x2⟩|⟨l,l',x1,x2,hl⟩
    .have G:∀base w,stepG P m ⟨⟨f,t,.code (.exit id)::k,d,.run,.normal,r⟩,cs++base,.running,none,none⟩ w=im P m ⟨f,t,.code (.exit id)::k,d,.run,.normal,r⟩ (cs++base) w (some (.exit id)):=λbase w=>by simp[stepG,stepG.exec,x1,im];rfl
     have L:∀base,stepG P' m' ⟨⟨f,B,.code (.exit id)::F,J,.run,.normal,E⟩,W++base,.running,none,none⟩ w'=im P' m' ⟨f,B,.code (.exit id)::F,J,.run,.normal,E⟩ (W++base) w' (some (.exit id)):=λbase=>by simp[stepG,stepG.exec,x2,im];rfl
     simp only[G,L];exact ahe T m m' A C rfl (some (.exit id)) (by rw[pZ,amQ T])
    .exact abg T (m:=m) A C hl (λbase w=>by simp[stepG,stepG.exec,x1]) (λbase=>by simp[stepG,stepG.exec,x2])
   |ret=>
    rw[ap7 T] at *;have G:∀base w,stepG P m ⟨⟨f,t,.code .ret::k,d,.run,.normal,r⟩,cs++base,.running,none,none⟩ w=im P m ⟨f,t,.code .ret::k,d,.run,.normal,r⟩ (cs++base) w (some .ret):=λ_ _=>rfl;have L:∀base,stepG P' m' ⟨⟨f,B,.code .ret::F,J,.run,.normal,E⟩,W++base,.running,none,none⟩ w'=im P' m' ⟨f,B,.code .ret::F,J,.run,.normal,E⟩ (W++base) w' (some .ret):=λ_=>rfl;simp only[G,L];exact ahe T m m' A C rfl (some .ret) (by rw[pZ,ap7 T])
   |region id n draw=>
    rcases aoi T id n draw with⟨e,N⟩|⟨Q,e,N,af⟩|e
    .rw[e] at *;cases draw with
     |false=>exact abg T (m:=m) A C (.cons (.inRegion N (List.range n.size)) I) (λbase w=>by simp[stepG,stepG.exec]) (λbase=>by simp[stepG,stepG.exec])
     |true=>
      have G:∀(p:Program) (q:Question) (w:World),q.forced=false->(choose q).run p w=.ok (q.cut (w.tape w.drawn q)) {w with drawn:=w.drawn+1}:=λp q w hq=>by
       unfold choose;rw[Sem.run,hq];rfl
      obtain⟨q1,q2⟩:=C.ask 1 1;have hi:je P ρ (.inRegion n (Region.schedule (P.follows .mixedOrders) n (w'.tape w'.drawn (.order f id)))::k) (.inRegion n (Region.schedule (P'.follows .mixedOrders) n (w'.tape w'.drawn (.order f id)))::F):=by
       rw[T.follows];exact .cons (.inRegion N _) I
      refine⟨λ_ _=>w'.tape w'.drawn (.order f id),1,.inr ⟨ρ,⟨f,t,.inRegion n (Region.schedule (P.follows .mixedOrders) n (w'.tape w'.drawn (.order f id)))::k,d,.run,.normal,r⟩::cs,{w with drawn:=w.drawn+1},#[],⟨f,B,.inRegion n (Region.schedule (P'.follows .mixedOrders) n (w'.tape w'.drawn (.order f id)))::F,J,.run,.normal,E⟩::W,{w' with drawn:=w'.drawn+1},#[],λbase K M=> ?_,rfl,Ren.Le.refl _,λbase=> ?_,q1,q2,.nil _ _,GoR.of (A.put (Ren.Le.refl _) (A.head.at hi) rfl)⟩⟩
      .have hd:=M w.drawn (.order f id) (am _) (by omega);simp only[stepG,stepG.exec,G P (.order f id) (w.tap K) rfl];show GStep.go _ _ _=_;have:(w.tap K).tape (w.tap K).drawn (.order f id)=w'.tape w'.drawn (.order f id):=hd;simp only[Question.cut,this];rfl
      .simp only[stepG,stepG.exec,G P' (.order f id) w' rfl];rfl
    .rw[e] at *;have aa:List.range Q.size=List.range n.size:=by rw[N.1]
     cases draw with
     |false=>exact abg T (m:=m) A C (.cons (.inRegion N (List.range n.size)) I) (λbase w=>by simp[stepG,stepG.exec,aa]) (λbase=>by simp[stepG,stepG.exec])
     |true=>
      have G:∀(p:Program) (q:Question) (w:World),q.forced=false->(choose q).run p w=.ok (q.cut (w.tape w.drawn q)) {w with drawn:=w.drawn+1}:=λp q w hq=>by
       unfold choose;rw[Sem.run,hq];rfl
      obtain⟨q1,q2⟩:=C.ask 1 1;have hi:je P ρ (.inRegion Q (Region.schedule (P.follows .mixedOrders) Q (w'.tape w'.drawn (.order f id)))::k) (.inRegion n (Region.schedule (P'.follows .mixedOrders) n (w'.tape w'.drawn (.order f id)))::F):=by
       rw[T.follows,af];exact .cons (.inRegion N _) I
      refine⟨λ_ _=>w'.tape w'.drawn (.order f id),1,.inr ⟨ρ,⟨f,t,.inRegion Q (Region.schedule (P.follows .mixedOrders) Q (w'.tape w'.drawn (.order f id)))::k,d,.run,.normal,r⟩::cs,{w with drawn:=w.drawn+1},#[],⟨f,B,.inRegion n (Region.schedule (P'.follows .mixedOrders) n (w'.tape w'.drawn (.order f id)))::F,J,.run,.normal,E⟩::W,{w' with drawn:=w'.drawn+1},#[],λbase K M=> ?_,rfl,Ren.Le.refl _,λbase=> ?_,q1,q2,.nil _ _,GoR.of (A.put (Ren.Le.refl _) (A.head.at hi) rfl)⟩⟩
      .have hd:=M w.drawn (.order f id) (am _) (by omega);simp only[stepG,stepG.exec,G P (.order f id) (w.tap K) rfl];show GStep.go _ _ _=_;have:(w.tap K).tape (w.tap K).drawn (.order f id)=w'.tape w'.drawn (.order f id):=hd;simp only[Question.cut,this];rfl
      .simp only[stepG,stepG.exec,G P' (.order f id) w' rfl];rfl
    .rw[e] at *;exact GoR.jf λbase w=>⟨_,_,_,by simp[stepG,stepG.exec];exact⟨rfl,rfl,rfl⟩⟩
   |rangeFunc fo ps a b=>
    rw[ahd T] at *;by_cases R:bJ gA gL fo=true
    .rw[dl R] at *;obtain⟨t₁,D,H⟩:=(ait (P:=P) (P':=P') f h2 ps a b h7).run w w' #[] #[] C;rcases H with H|⟨σ,q,w1,q',cL,us,pq,g1,g2,g3,g4,g5,g6,g7,g8⟩
     .refine⟨t₁,D,.inl λbase K M=> ?_⟩;obtain⟨h,w1,iw,hr,a7⟩:=H K M;simp only[stepG,stepG.exec,hr];exact lS.after _ (.ended _ _ _)
     .obtain⟨lp,mk⟩:=q;obtain⟨a4,mk'⟩:=q';obtain⟨a6,Z⟩:=g5;dsimp only at a6 Z;have aD:∀{x x' y y':List Deferred},CDs σ x x'->CDs σ y y'->CDs σ (x++y) (x'++y'):=by
       intro x x' y y' hx hy
       induction hx with
       |nil=>exact hy
       |cons hb _ ih=>exact .cons hb ih
      have a8:gZ P σ (⟨f,t,.inRangeFunc lp::k,mk++d,.run,.normal,r⟩::cs) (⟨f,B,.inRangeFunc a4::F,mk'++J,.run,.normal,E⟩::W):=
       A.put g3 ⟨rfl,bN.mono g3 h2,.cons (.inRangeFunc a6) (I.mono g3),aD Z (h4.mono g3),.inl ⟨rfl,rfl⟩,⟨rfl,rfl⟩,h7.mono g3⟩ rfl
      have av:=a8.head.env (hg.mono g3);have a3:=amP T X (av fo R) (args:=#[.func (.yield lp) #[] #[]]) (args':=#[.func (.yield a4) #[] #[]]) (.cons (.func (.yield a6) .nil .nil) .nil);refine kK.seq T (s1:=λbase w=>stepG.apply P true ⟨f,t,.inRangeFunc lp::k,mk++d,.run,.normal,r⟩ (cs++base) none _ w) (s1':=λbase=>stepG.apply P' true ⟨f,B,.inRangeFunc a4::F,mk'++J,.run,.normal,E⟩ (W++base) none _ cL) f (t₁:=t₁) (D:=D) (λbase K M=> ?_) g2 g3 (λbase=> ?_) g7 g8 (ahb T a8 g6 a3)
      .simp only[stepG,stepG.exec,g1 K M,Array.empty_append];rw[aag _ _ _ λ_=>rfl]
      .simp only[stepG,stepG.exec,g4,Array.empty_append];rw[aag _ _ _ λ_=>rfl]
    .rw[bd R] at *;exact GoR.jf λbase w=>⟨_,_,_,by simp[stepG,stepG.exec];exact⟨rfl,rfl,rfl⟩⟩
end
def nE(l:List Frame):Prop:=∃a,l=[a]/\a.mode=.returning/\a.defers=[]/\a.kind=.normal
section
variable {P P':Program} {ρ σ:Ren} {w w':World}
def aen{l l':Nat}(h:ρ.r l l'):aB P P' (λ_ q b=>q=[]/\b=[]) ρ (Instr.takeDeferred l) (Instr.takeDeferred l'):=by
 unfold Instr.takeDeferred;refine ai (ed h) λσ x d c a=> ?_;cases a with
 |deferred=>exact ai (ie (c.r h) .bD) λ_ _ _ _ _=>aj ⟨rfl,rfl⟩
 |_=>exact .halt _ _
variable (T:Twin P P') (X:ais P P')
include T
theorem aiu:∀(l:List ResultVar) {ρ:Ren} {t b:Array Value},cQ ρ t b->aB P P' bN ρ (l.mapM fun
  |.tmp k=>pure (t.getD k undef)
  |.cell a c=>do loadVar c (<-asAddr (t.getD a undef))) (l.mapM fun
  |.tmp k=>pure (b.getD k undef)
  |.cell a c=>do loadVar c (<-asAddr (b.getD a undef)))
 |[],_,_,_,_=>by
  rw[List.mapM_nil,List.mapM_nil];exact aj .nil
 |x::l,ρ,t,b,h=>by
  have g:∀(σ:Ren) (k:Nat),ρ.Le σ->VR σ (t.getD k undef) (b.getD k undef):=λσ k d=>by
   have y:=bN.size h;rw[gc,gc];cases e:t[k]? with
   |none=>
    have:b[k]?=none:=by
     rw[pi] at e ⊢;omega
    rw[this];exact VR.undef
   |some v=>
    obtain⟨m,j,n⟩:=bN.get h (i:=k) (v:=v) (by rw[ef];exact e);rw[ef] at j;rw[j];exact n.mono d
  rw[vg,vg];refine ai (A:=VR) ?_ λσ v m d r=>ai (aiu l (bN.mono d h)) λs u q o f=>aj (.cons (r.mono o) f);cases x with
  |tmp k=>exact aj (g ρ k (Ren.Le.refl _))
  |cell a c=>exact ai (aip (g ρ a (Ren.Le.refl _))) λσ x w d p=>afW T c p
theorem af3{f : Func}(k:f.results=fn.results)(h:cQ ρ t Z):aB P P' VR ρ (results fn t) (results f Z):=by
 unfold results;rw[k,tl,tl,map_eq_pure_bind,map_eq_pure_bind];refine ai (A:=cQ) (ai (aiu T fn.results.toList h) λ_ _ _ _ b=>aj (A:=cQ) b) λσ c a m b=> ?_;have n:c.size=a.size:=bN.size b;refine aj ?_;by_cases e:c.size=1
 .have d:a.size=1:=by omega
  rw[sU e,sU d];obtain⟨l,g,j⟩:=bN.get b (i:=0) (v:=c[0]) (by rw[ef];exact fi (by omega));rw[ef,fi (by omega)] at g;obtain rfl:=dj g;exact j
 .have d:¬a.size=1:=by omega
  rw[dif_neg e,dif_neg d];exact .tuple b
theorem ax8(m m':Bool)(hS:gZ P ρ (fr::cs) (V::W))(M:WR ρ w w')(hm:fr.mode=.returning)(hn:fr.defers≠[]\/cs≠[]) :
  kK P P' ρ w w' (λbase w=>stepG P m ⟨fr,cs++base,.running,none,none⟩ w) (λbase=>stepG P' m' ⟨V,W++base,.running,none,none⟩ w'):=by
 have ly:=hS.head;obtain⟨f,t,C,d,md,kd,r⟩:=fr;obtain⟨f',G,eU,d',J,a1,r'⟩:=V;obtain⟨F,o,h3,h4,z,h6,h7⟩:=ly;dsimp only at F o h3 h4 z h6 h7 hm hn;subst F;subst hm;obtain⟨rfl,rfl⟩:=h6;obtain rfl:J=.returning:=by
  rcases z with z|z
  .cases z.1
  .exact z.2
 cases h4 with
 |@cons b b' ds L hb hl=>
  obtain⟨g,D,H⟩:=(aen (P:=P) (P':=P') hb).run w w' #[] #[] M;rcases H with H|⟨σ,a,E,a',S,Q,O,Y,U,k,N,g5,R,K,X⟩
  .refine⟨g,D,.inl λbase s q=> ?_⟩;obtain⟨h,E,iw,Z,I⟩:=H s q;simp only[stepG,unwind,Z];exact lS.after _ (.ended _ _ _)
  .obtain⟨rfl,rfl⟩:=g5;refine⟨g,D,.inr ⟨σ,⟨f,t,C,ds,.returning,.normal,r⟩::cs,E,seen P f Q,⟨f,G,eU,L,.returning,.normal,r'⟩::W,S,seen P' f O,λbase s q=> ?_,U,k,λbase=> ?_,R,K,aay T f X,
    GoR.of (hS.put k ⟨rfl,bN.mono k o,h3.mono k,hl.mono k,.inr ⟨rfl,rfl⟩,⟨rfl,rfl⟩,h7.mono k⟩ rfl)⟩⟩
   .simp only[stepG,unwind,Y s q];simp[GStep.after,Gl]
   .simp only[stepG,unwind,N];simp[GStep.after,Gl]
 |nil=>
  have a0:cs≠[]:=hn.resolve_left λh=>h rfl;cases hS with
  |one h h0=>exact absurd rfl a0
  |cons h j=>
   obtain⟨x,A,rfl⟩:∃x A,cs=x::A:=by cases j<;>exact⟨_,_,rfl⟩
   obtain⟨x',B,rfl⟩:∃x A,W=x::A:=by cases j<;>exact⟨_,_,rfl⟩
   have n:∀(p:Program) (m:Bool) (x:Frame) (l:List Frame) (v:Value) (w:World) (tm:Array Value) (td:List Item) (r:Option Nat),doReturn p m ⟨f,tm,td,[],.returning,.normal,r⟩ (x::l) none v w=.go ⟨x.finish v,l,.running,none,none⟩ w #[]:=λ_ _ _ _ _ _ _ _ _=>rfl;cases y:P.funcs[f]? with
   |none=>
    have u:P'.funcs[f]?=none:=by
     rw[pi] at y ⊢;rw[T.ain];exact y
    have hv:VR ρ (t.getD 0 undef) (G.getD 0 undef):=by
     have hz:=bN.size o;rw[gc,gc];cases e:t[0]? with
     |none=>
      have:G[0]?=none:=by
       rw[pi] at e ⊢;omega
      rw[this];exact VR.undef
     |some v=>
      obtain⟨v',F,o⟩:=bN.get o (i:=0) (v:=v) (by rw[ef];exact e);rw[ef] at F;rw[F];exact o
    refine kK.still M (l:=x.finish (t.getD 0 undef)::A) (l':=x'.finish (G.getD 0 undef)::B) (λbase w=> ?_) (λbase=> ?_) (GoR.of (j.put (Ren.Le.refl _) (j.head.finish hv) (fE _ _)))
    .simp only[stepG,unwind,y,qu,n,Gl]
    .simp only[stepG,unwind,u,qu,n,Gl]
   |some fn=>
    obtain⟨cV,u,hR⟩:=T.func f fn y;obtain⟨g,D,H⟩:=(af3 T hR.results o).run w w' #[] #[] M;rcases H with H|⟨σ,a,E,a',S,Q,O,Y,U,k,N,g5,R,K,X⟩
    .refine⟨g,D,.inl λbase s q=> ?_⟩;obtain⟨h,E,iw,Z,I⟩:=H s q;simp only[stepG,unwind,y,Z];refine lS.after _ ?_;cases h<;>exact .ended _ _ _
    .refine⟨g,D,.inr ⟨σ,x.finish a::A,E,seen P f Q,x'.finish a'::B,S,seen P' f O,λbase s q=> ?_,U,k,λbase=> ?_,R,K,aay T f X,GoR.of (j.put k ((j.head.mono k).finish g5) (fE _ _))⟩⟩
     .simp only[stepG,unwind,y,Y s q,qu,n];simp[GStep.after,Gl]
     .simp only[stepG,unwind,u,N,qu,n];simp[GStep.after,Gl]
include X
theorem aws(j:GlR ρ)(m m':Bool)(a:gZ P ρ l l')(d:WR ρ w w')(k:¬nE l) :
  kK P P' ρ w w' (λbase w=>stepG P m (Gl l base) w) (λbase=>stepG P' m' (Gl l' base) w'):=by
 obtain⟨f,n,rfl⟩:∃x c,l=x::c:=by cases a<;>exact⟨_,_,rfl⟩
 obtain⟨p,g,rfl⟩:∃x c,l'=x::c:=by cases a<;>exact⟨_,_,rfl⟩
 rcases a.head.mode with b|b
 .exact ax6 T X j m m' a d b.1
 .refine ax8 T m m' a d b.1 ?_;refine qb λh=>k ?_;have o:f.defers=[]:=qb λe=>h (.inl e);have i:n=[]:=qb λe=>h (.inr e);subst i;exact⟨f,rfl,b.1,o,a.head.kind.1⟩
end
def gO(dst:Option Tmp)(op:Op)(t:TypeId):Oper:={dst,op,type:=t,pos:= "",after:=#[],guard:=none}
abbrev cf:FuncId:=112
abbrev nCC:FuncId:=219
def bW:Code->Code
 |.seq _ b=>b
 |c=>c
noncomputable def cF:Code:=bW (bW (bW (bW (bW (f112.body.getD .skip)))))
def atc(r:Nat)(ops:Array Oper)(t:Tmp):Code:=.seq (.region r ops false) (.cond (.tmp t) .skip (.refuse ""))
def aaA(r:Nat)(ops:Array Oper)(t:Tmp):Code:=.seq (.region r ops false) (.cond (.tmp t) (.refuse "") .skip)
def aaB(d:Tmp)(x y:Operand):Oper:=gO (some d) (.binOp .lss 3 x y 3) 4
def atd(d:Tmp)(x y:Operand):Oper:=gO (some d) (.binOp .eql 3 x y 3) 4
def ate(d:Tmp)(x:Operand):Oper:=gO (some d) (.binOp .mul 3 x (.const (.int .i64 1)) 3) 3
def atf(d:Tmp)(x:Operand):Oper:=gO (some d) (.binOp .add 3 x (.const (.int .i64 1)) 3) 3
def aqa(d:Tmp)(x:Tmp)(ty:TypeId):Oper:=gO (some d) (.call ⟨.builtin .len,#[.tmp x],#[ty]⟩) 3
def atg(d:Tmp)(x:Tmp)(ty:TypeId):Oper:=gO (some d) (.call ⟨.builtin .cap,#[.tmp x],#[ty]⟩) 3
def aoj(d:Tmp)(n:Int):Oper:=gO (some d) (.assign (.const (.int .i64 n))) 3
abbrev kOp(n:Int):Operand:=.const (.int .i64 n)
def avf:Array Oper:=#[
  gO (some 6) (.assign (.const (.slice none 0 0))) 163,
  gO (some 7) (.assign (.const (.bool false))) 4,
  aaB 16 (.tmp 0) (kOp 1)]
def avg:Array Oper:=#[aaB 16 (kOp 99) (.tmp 0)]
def avh:Array Oper:=#[
  gO (some 16) (.load 237 (.global 0)) 237,
  gO (some 16) (.load 237 (.global 1)) 237,
  aqa 16 1 32,atg 18 1 32,aoj 20 0,
  aaB 19 (kOp 9223372036854775807) (.tmp 18)]
def avi:Array Oper:=#[aaB 19 (.tmp 18) (.tmp 16)]
def avj:Array Oper:=#[aaB 21 (.tmp 20) (.tmp 16)]
def avk:Array Oper:=#[
  gO (some 23) (.indexAddr 32 (.tmp 1) (.tmp 20)) 0,
  gO (some 24) (.load 56 (.tmp 23)) 56,
  gO (some 25) (.field 56 (.tmp 24) 0) 3,
  ate 26 (.tmp 25),atd 22 (.tmp 26) (.tmp 25)]
def avl:Array Oper:=#[
  gO (some 27) (.field 56 (.tmp 24) 1) 54,
  aqa 28 27 54,atg 3 27 54,aaB 4 (.tmp 28) (kOp 1)]
def avm:Array Oper:=#[aaB 4 (kOp 9223372036854775807) (.tmp 3)]
def avn:Array Oper:=#[aaB 4 (.tmp 3) (.tmp 28)]
def ax9:Array Oper:=#[aoj 5 0]
def avo:Array Oper:=#[aaB 4 (.tmp 5) (.tmp 28)]
def avp:Array Oper:=#[
  gO (some 9) (.indexAddr 54 (.tmp 27) (.tmp 5)) 0,
  gO (some 10) (.load 83 (.tmp 9)) 83,
  gO (some 11) (.field 83 (.tmp 10) 0) 3,
  ate 13 (.tmp 11),atd 15 (.tmp 13) (.tmp 11)]
def avq:Array Oper:=#[
  gO (some 26) (.field 83 (.tmp 10) 1) 9,
  aqa 25 26 9,aaB 15 (kOp 9223372036854775807) (.tmp 25)]
def avr:Array Oper:=#[atf 22 (.tmp 5),gO (some 5) (.move (.tmp 22)) 3]
def avs:Array Oper:=#[atf 22 (.tmp 20),gO (some 20) (.move (.tmp 22)) 3]
def aqb:Array Oper:=#[aqa 16 2 27,atg 18 2 27,aaB 19 (kOp 2147483647) (.tmp 16)]
def aqc:Array Oper:=#[aaB 19 (kOp 9223372036854775807) (.tmp 18)]
def aqd:Array Oper:=#[aaB 19 (.tmp 18) (.tmp 16)]
def amR:Array Oper:=#[
  gO (some 27) (.makeSlice 205 (.tmp 16) (.tmp 16)) 205,
  aoj 28 0]
def avt:Array Oper:=#[aaB 26 (.tmp 28) (.tmp 16)]
def avu:Array Oper:=#[
  gO (some 25) (.indexAddr 27 (.tmp 2) (.tmp 28)) 0,
  gO (some 20) (.load 3 (.tmp 25)) 3,
  ate 22 (.tmp 20),atd 21 (.tmp 22) (.tmp 20)]
def aiv:Array Oper:=#[
  gO (some 24) (.call ⟨.value (.func 149),#[.tmp 0,.tmp 1,.tmp 20],#[3,32,3]⟩) 216,
  gO (some 23) (.indexAddr 205 (.tmp 27) (.tmp 28)) 0,
  gO none (.store 216 (.tmp 23) (.tmp 24)) 0]
def aiw:Array Oper:=#[atf 22 (.tmp 28),gO (some 28) (.move (.tmp 22)) 3]
def aix:Array Oper:=#[
  gO (some 17) (.assign (.tmp 27)) 205,
  gO (some 8) (.alloc 205) 0,
  gO none (.store 205 (.tmp 8) (.tmp 17)) 0]
def cH:List Nat:=[3,4,5,9,10,11,13,15,16,18,19,20,21,22,23,24,25,26,27,28]
def acV:Array Oper:=⟨cH.map λt=>aoj t 0⟩
def aaC:Code:=.seq (.region 70 avo false) (.seq (.cond (.tmp 4) .skip (.exit 52)) (.seq (atc 71 avp 15) (.seq (aaA 72 avq 15) (.region 73 avr false))))
def aaD:Code:=.seq (.region 60 avj false) (.seq (.cond (.tmp 21) .skip (.exit 51)) (.seq (atc 61 avk 22) (.seq (aaA 62 avl 4) (.seq (aaA 63 avm 4) (.seq (aaA 64 avn 4) (.seq (.region 65 ax9 false)
 (.seq (.block 52 (.loop aaC)) (.region 66 avs false))))))))
def lz:Code:=.seq (.region 80 avt false) (.seq (.cond (.tmp 26) .skip (.exit 53)) (.seq (atc 81 avu 21) (.seq (.region 82 aiv false) (.region 83 aiw false))))
noncomputable def ju:Code:=.seq (aaA 50 avf 16) (.seq (aaA 51 avg 16) (.seq (aaA 52 avh 19) (.seq (aaA 53 avi 19) (.seq (.block 51 (.loop aaD))
 (.seq (aaA 54 aqb 19) (.seq (aaA 55 aqc 19) (.seq (aaA 56 aqd 19) (.seq (.region 57 amR false) (.seq (.block 53 (.loop lz)) (.seq (.region 58 aix false) (.seq (.region 59 acV false) cF)))))))))))
def nG:Array Oper:=#[
  gO none (.call ⟨.builtin .unsafeSlice,#[.tmp 0,.const (.int .i64 1)],#[255,3]⟩) 0,
  gO (some 4) (.fieldAddr 257 (.tmp 0) 0) 0,
  gO (some 5) (.load 255 (.tmp 4)) 255,
  gO (some 6) (.binOp .eql 255 (.tmp 5) (.const (.pointer none)) 255) 4]
def ahf:Array Oper:=#[gO none (.store 255 (.tmp 4) (.tmp 0)) 0]
def akA:Array Oper:=#[
  gO (some 7) (.fieldAddr 257 (.tmp 5) 0) 0,
  gO none (.store 255 (.tmp 7) (.const (.pointer none))) 0,
  gO (some 8) (.load 255 (.tmp 4)) 255,
  gO (some 9) (.binOp .eql 255 (.tmp 8) (.const (.pointer none)) 255) 4]
def ml:Code:=
 .seq (.region 0 nG false)
 (.seq (.cond (.tmp 6) .skip (.seq (.region 2 akA false) (.cond (.tmp 9) .skip (.refuse ""))))
 (.seq (.region 1 ahf false) .ret))
noncomputable def qFA(β:Bool):Func:={f112 with body:=some (if β then ju else .refuse "")}
noncomputable def qCC:Func:={f219 with body:=some ml}
noncomputable def pf(fn:Func):Func:={fn with body:=fn.body.map gP}
noncomputable def lA(β:Bool):Array Func:=((prog.funcs.map pf).setIfInBounds cf (qFA β)).setIfInBounds nCC qCC
noncomputable def ah(β:Bool):Program:={prog with funcs:=lA β}
section
variable (P:Program) (fs:Array Func)
def jv(t:TypeId):({P with funcs:=fs}:Program).info? t=P.info? t:=rfl
def cE(t:TypeId):({P with funcs:=fs}:Program).underlying t=P.underlying t:=rfl
def adR:({P with funcs:=fs}:Program).depth=P.depth:=rfl
def adS(t:TypeId):({P with funcs:=fs}:Program).cellsOf t=P.cellsOf t:=rfl
def ahg(t:TypeId):({P with funcs:=fs}:Program).bytesOf t=P.bytesOf t:=rfl
def ahh:∀(d:Nat) (t:TypeId),({P with funcs:=fs}:Program).eqGuardType d t=P.eqGuardType d t
 |0,_=>rfl
 |d+1,t=>by
  unfold Program.eqGuardType;rw[cE];simp only[ahh d]
def abh:∀(d:Nat) (t:TypeId) (n:Nat),byteOfCell {P with funcs:=fs} d t n=byteOfCell P d t n
 |0,_,_=>rfl
 |d+1,t,n=>by
  unfold byteOfCell;rw[cE];simp only[adS,ahg,abh d];rfl
def abi:∀(d:Nat) (t:TypeId) (n:Nat),cellOfByte {P with funcs:=fs} d t n=cellOfByte P d t n
 |0,_,_=>rfl
 |d+1,t,n=>by
  unfold cellOfByte;rw[cE];simp only[adS,ahg,abi d];rfl
def aqe(d:Nat)(e:TypeId)(c o:Nat)(b:Int):cellAtBytes {P with funcs:=fs} d e c o b=cellAtBytes P d e c o b:=by
 unfold cellAtBytes;simp only[adS,ahg,abh,abi];rfl
def adT(t:TypeId):({P with funcs:=fs}:Program).stoodInHeld t=P.stoodInHeld t:=by
 have b:∀(d:Nat) (t u:TypeId),({P with funcs:=fs}:Program).alikeButTags d t u=P.alikeButTags d t u:=by
  intro d
  induction d with
  |zero=>intro t u;rfl
  |succ d a=>
   intro t u;unfold Program.alikeButTags;simp only[jv,a]
 unfold Program.stoodInHeld Program.stoodInAs;simp only[cE,jv,adR,b];rfl
def af4(d:Departure):({P with funcs:=fs}:Program).follows d=P.follows d:=rfl
def aqf(d:Nat)(e:TypeId)(c o:Nat)(u:TypeId)(n:Nat):liesAt {P with funcs:=fs} d e c o u n=liesAt P d e c o u n:=by
 have g:∀(d:Nat) (t u:TypeId),sameLayout {P with funcs:=fs} d t u=sameLayout P d t u:=by
  intro d
  induction d with
  |zero=>intro t u;rfl
  |succ d b=>
   intro t u;unfold sameLayout;simp only[cE,adT,b];rfl
 have f:∀(a:TypeId->Bool) (d:Nat) (e:TypeId) (c o n:Nat),rowAt {P with funcs:=fs} a d e c o n=rowAt P a d e c o n:=by
  intro a d
  induction d with
  |zero=>intro e c o n;rfl
  |succ d b=>
   intro e c o n;unfold rowAt;simp only[cE,adT,adS,b];rfl
 induction d generalizing e c o u n with
 |zero=>rfl
 |succ d b=>
  unfold liesAt;simp only[cE,g,f,b,adR]
end
def cT(v:Value):Prop:=∀a:Ren,VR a v v
def bN.diag :∀{l b:List Value},bN ρ l b->l=b->∀c∈l,VR ρ c c
 |_,_,.nil,_,c,a=>by cases a
 |_,_,.cons x y,e,c,a=>by
  simp only[qz] at e;obtain⟨rfl,e⟩:=e;rcases lE.1 a with rfl|a
  .exact x
  .exact y.diag e c a
def cT.cells(h:cT v):∀c∈v.cells.toList,cT c:=λc a b=>(h b).cells.diag rfl c a
def cT.agg{c:Array Value}(h:∀v∈c.toList,cT v):cT (.agg c):=λa=>.agg (bN.jH λv b=>h v b a)
def StI{β:Type}(I:β->Prop):ForInStep β->Prop
 |.done b=>I b
 |.yield b=>I b
def af5{e β:Type}{I:β->Prop}:∀(l:List e) {b c:β} {f:e->β->Option (ForInStep β)},forIn l b f=some c->I b->(∀a b r,I b->f a b=some r->StI I r)->I c
 |[],b,c,f,h,hb,_=>by
  rw[tA] at h;obtain rfl:=dj h;exact hb
 |a::l,b,c,f,h,hb,hf=>by
  rw[tk] at h;cases d:f a b with
  |none=>rw[d] at h;cases h
  |some r=>
   rw[d] at h;have:=hf a b r hb d;cases r with
   |done x=>
    obtain rfl:=dj h;exact this
   |yield x=>exact af5 l h this hf
def aiy(F:∀t i v,L t=some i->i.zero=some v->cT v){E:Array Field}(h:Made.reckonStruct L E=some i):∀v,i.zero=some v->cT v:=by
 unfold Made.reckonStruct at h;dsimp only at h;obtain⟨s,A,h⟩:=mt.1 h;rw[<-sL] at A;have w:=af5 (I:=λs:Array Field×Nat×Nat×Nat×Nat×Bool×Bool×Option (Array Value)×String=>∀k,s.2.2.2.2.2.2.2.1=some k->∀v∈k.toList,cT v) _ A (λk e v l=>by
  obtain rfl:=dj e;cases l) λf B r D g=> ?_
 .intro v l;have y:i.zero=s.2.2.2.2.2.2.2.1.map Value.agg:=by
   split at h<;>(obtain rfl:=dj h;rfl)
  rw[y] at l;cases u:s.2.2.2.2.2.2.2.1 with
  |none=>rw[u] at l;cases l
  |some k=>
   rw[u] at l;obtain rfl:=dj l;exact cT.agg (w k u)
 .obtain⟨j,G,g⟩:=mt.1 g;have m:∀k,(if B.2.1+j.size>Made.mostCells then none else do
     let a<-B.2.2.2.2.2.2.2.1
     let b<-j.zero
     pure (a++b.cells):Option (Array Value))=some k->∀v∈k.toList,cT v:=λk e v l=>by
   split at e
   .cases e
   .obtain⟨a,H,e⟩:=mt.1 e;obtain⟨b,o,e⟩:=mt.1 e;obtain rfl:=dj e;rw[nF,gt] at l;rcases l with l|l
    .exact D a H v l
    .exact(F _ _ _ G o).cells v l
  have n:∀(z:Option (Array Value)) (a:Array Field) (b c d e:Nat) (p q:Bool) (x:String),(∀k,z=some k->∀v∈k.toList,cT v)->(some (ForInStep.yield (a,b,c,d,e,p,q,z,x)):Option (ForInStep (Array Field×Nat×Nat×Nat×Nat×Bool×Bool×Option (Array Value)×String)))=some r->
    StI (λb=>∀k,b.2.2.2.2.2.2.2.1=some k->∀v∈k.toList,cT v) r:=λz a b c d e p q x y h=>by
   obtain rfl:=dj h;exact y
  split at g
  .cases g
  .split at g
   .cases g
   .split at g
    .obtain⟨C, -,g⟩:=mt.1 g;by_cases o:j.bytes=0
     .rw[dl o] at g;exact n _ _ _ _ _ _ _ _ _ m g
     .rw[bd o] at g;exact n _ _ _ _ _ _ _ _ _ m g
    .obtain⟨C, -,g⟩:=mt.1 g;by_cases o:j.bytes=0
     .rw[dl o] at g;exact n _ _ _ _ _ _ _ _ _ m g
     .rw[bd o] at g;exact n _ _ _ _ _ _ _ _ _ m g
def aok(q:∀t i v,L t=some i->i.zero=some v->cT v){d:TypeDesc}(h:Made.reckon L d=some i):∀v,i.zero=some v->cT v:=by
 have f:∀(d:TypeDesc) (s:String) (z:Value) (c:Bool) (b:Nat),cT z->Made.word d s z c b=i->∀v,i.zero=some v->cT v:=λd s z c b p e v a=>by
  subst e;obtain rfl:=dj a;exact p
 unfold Made.reckon at h;cases d with
 |struct w=>exact aiy q h
 |pointer e=>
  obtain⟨j,l,h⟩:=mt.1 h;have fin:∀{o:Option String},(do pure (Made.word (.pointer e) ("*" ++(<-o)) (.pointer none) true))=some i->∀v,i.zero=some v->cT v:=λ{o} h=>by
   obtain⟨s,g,h⟩:=mt.1 h;exact f _ _ _ _ _ (λ_=>.pointer .none) (dj h)
  split at h
  .cases h
  .split at h
   .cases h
   .exact fin h
  .exact fin h
 |slice e=>
  obtain⟨j,l,h⟩:=mt.1 h;obtain⟨s,g,h⟩:=mt.1 h;exact f _ _ _ _ _ (λ_=>.slice .none 0 0) (dj h)
 |map k e=>
  obtain⟨j,l,h⟩:=mt.1 h;obtain⟨s,g,h⟩:=mt.1 h;obtain⟨j,l,h⟩:=mt.1 h;obtain⟨s,g,h⟩:=mt.1 h;exact f _ _ _ _ _ (λ_=>.map .none) (dj h)
 |chan k e=>
  obtain⟨j,l,h⟩:=mt.1 h;obtain⟨s,g,h⟩:=mt.1 h;exact f _ _ _ _ _ (λ_=>.chan .none) (dj h)
 |func x r v=>
  obtain⟨s,g,h⟩:=mt.1 h;exact f _ _ _ _ _ (λ_=>.nilFunc) (dj h)
 |array n e=>
  obtain⟨j,l,h⟩:=mt.1 h;obtain⟨s,g,h⟩:=mt.1 h;obtain rfl:=dj h;intro v a;dsimp only at a;split at a
  .cases a
  .split at a
   .obtain rfl:=dj a;exact cT.agg λv a=>by cases a
   .cases p:j.zero with
    |none=>rw[p] at a;cases a
    |some z=>
     rw[p] at a;obtain rfl:=dj a;refine cT.agg λv a=>(q _ _ _ l p).cells v ?_;simp only[rx,Array.mem_flatten] at a;obtain⟨u,m,a⟩:=a;rw[Array.mem_replicate] at m;rw[<-m.2];exact rx.2 a
 |_=>cases h
def aol(c:∀(t:Nat) (i:TypeInfo) (v:Value),P.types[t]?=some i->i.zero=some v->cT v):∀t i v,P.info? t=some i->i.zero=some v->cT v:=by
 have b:∀(f:Nat) t i v,Made.infoAt P.toTables f t=some i->i.zero=some v->cT v:=by
  intro f
  induction f with
  |zero=>intro t i v h;cases h
  |succ f e=>
   intro t i v h a;unfold Made.infoAt at h;split at h
   .exact c t i v h a
   .obtain⟨d,hd,h⟩:=mt.1 h;exact aok e h v a
 intro t i v h a;unfold Tables.info? at h;split at h
 .exact c t i v h a
 .exact b _ t i v h a
noncomputable def zOk(t:Nat):Bool:=match prog.types[t]? with
 |some i=>match i.zero with
  |some v=>mR (λ_=>false) 6 v
  |none=>true
 |none=>true
def ati:(List.range prog.types.size).all zOk=true:=by kernel_rfl
def acg:∀(d:Nat) (v:Value),mR (λ_=>false) d v=true->cT v
 |0,v,h=>by cases h
 |d+1,v,h=>by
  have g:∀l:List Value,l.all (mR (λ_=>false) d)=true->∀e:Ren,bN e l l:=λl i e=>bN.jH λv j=>acg d v (jp.1 i v j) e;intro e;cases v with
  |bool b=>exact .bool b
  |int k n=>exact .int k n
  |string s=>exact .string s
  |nilFunc=>exact .nilFunc
  |nilIface=>exact .nilIface
  |pointer a=>cases a with
   |none=>exact .pointer .none
   |some a=>cases h
  |slice a n c=>cases a with
   |none=>exact .slice .none n c
   |some a=>cases h
  |map a=>cases a with
   |none=>exact .map .none
   |some a=>cases h
  |chan a=>cases a with
   |none=>exact .chan .none
   |some a=>cases h
  |func f a c=>
   unfold mR at h;simp only[fb] at h;cases f<;>(have:=h.1.1;cases this)
  |iface t v=>exact .iface t (acg d v h e)
  |agg c=>exact .agg (g _ h e)
  |tuple c=>exact .tuple (g _ h e)
  |float|complex=>cases h
def awt:∀t i v,prog.info? t=some i->i.zero=some v->cT v:=aol λt i v h b=>by
 have a:=(de.1 h).1;have:=jp.1 ati t (pm.2 a);unfold zOk at this;rw[h] at this;dsimp only at this;rw[b] at this;exact acg 6 v this
noncomputable def amS(fn:Func):Bool:=!(fn.name == "runtime.NumGoroutine")
def aiz:prog.funcs.toList.all amS=true:=by kernel_rfl
def af6{a:FuncId->Bool}{b:List Nat}{o:Op}(h:lr P a b o=true)(g:Nat):o ≠ .ready g:=λe=>by
 subst e;unfold lr at h;simp at h
def afA(P:Program)(t:FuncId->Bool)(r:List Nat)(s:TypeId):∀c:Code,readies (bM P t r s c)=[]:=by
 intro c
 induction c with
 |region id u draw=>
  unfold bM;have m:∀l:List Oper,(∀o∈l,∀g,o.op ≠ .ready g)->(l.filterMap λo=>match o.op with|.ready g=>some g|_=>none)=[]:=by
   intro l v;rw[List.filterMap_eq_nil_iff];intro o k;split
   .rename_i g e;exact absurd e (v o k g)
   .rfl
  split
  .rename_i h;exact m _ λo k g=>af6 (jp.1 h o k) g
  .split
   .rename_i h;refine m _ λo k g e=> ?_;rw[qe,lP] at k;obtain⟨p,w,rfl⟩:=k;have j:=jp.1 h p w;have q:(po t r s p).op=p.op:=by unfold po;split<;>rfl
    rw[q] at e;simp only[qs] at j;rcases j with j|j
    .exact af6 j g e
    .rw[e] at j;cases j
   .rfl
 |seq a b i d=>unfold bM readies;rw[i,d];rfl
 |cond c a b i d=>
  unfold bM;split
  .unfold readies;rw[i,d];rfl
  .rfl
 |rangeFunc f x a b i d=>
  unfold bM;split
  .unfold readies;rw[i,d];rfl
  .rfl
 |block id a n=>unfold bM readies;exact n
 |loop a n=>unfold bM readies;exact n
 |scope a n=>unfold bM readies;exact n
 |_=>rfl
def atj(P:Program)(m:Array Func)(k:FuncId->Bool)(i:List Nat)(j:TypeId):∀c:Code,bM {P with funcs:=m} k i j c=bM P k i j c:=by
 intro c
 induction c with
 |region id l draw=>rfl
 |seq a b e d=>unfold bM;rw[e,d]
 |cond c a b e d=>unfold bM;rw[e,d]
 |rangeFunc f n a b e d=>unfold bM;rw[e,d]
 |block id a g=>unfold bM;rw[g]
 |loop a g=>unfold bM;rw[g]
 |scope a g=>unfold bM;rw[g]
 |_=>rfl
section
variable (β:Bool)
def ach:(ah β).funcs[nCC]?=some qCC:=by
 have:nCC<(prog.funcs.map pf).size:=by rw[sd];exact(de.1 func219).1
 show(((prog.funcs.map pf).setIfInBounds cf (qFA β)).setIfInBounds nCC qCC)[nCC]?=_;rw[oE (by simpa using this)]
def aci:(ah β).funcs[cf]?=some (qFA β):=by
 have:cf<(prog.funcs.map pf).size:=by rw[sd];exact(de.1 func112).1
 show(((prog.funcs.map pf).setIfInBounds cf (qFA β)).setIfInBounds nCC qCC)[cf]?=_;rw[ip (by decide),oE this]
def akB{f:Nat}(a:f≠nCC)(b:f≠cf):(ah β).funcs[f]?=(prog.funcs[f]?).map pf:=by
 show(((prog.funcs.map pf).setIfInBounds cf (qFA β)).setIfInBounds nCC qCC)[f]?=_;rw[ip (sb a),ip (sb b),qC]
def awu:(ah β).funcs.size=prog.funcs.size:=by
 show(((prog.funcs.map pf).setIfInBounds cf (qFA β)).setIfInBounds nCC qCC).size=_;simp
end
def aya:gH nCC=true:=by unfold gH;kernel_rfl
def akC:readies ju=[]:=by kernel_rfl
def ayb:gH cf=true:=by unfold gH;kernel_rfl
def ayc:prog.follows .staticDataAhead=true:=by kernel_rfl
def ayd:prog.underlying 3=some (.int .i64):=by kernel_rfl
def amT:f219.body.isSome=true:=by kernel_rfl
def amU:f112.body.isSome=true:=by kernel_rfl
section
variable (β:Bool)
def aqg(g:Nat):(ah β).stepOf g=none:=by
 unfold Program.stepOf;rw[Array.findIdx?_eq_none_iff];intro k b;obtain⟨f,a⟩:=Array.getElem?_of_mem b;by_cases i:f=nCC
 .subst i;rw[ach] at a;obtain rfl:=dj a;show((some ml).map readies).any (·.contains g)=false;rfl
 by_cases e:f=cf
 .subst e;rw[aci] at a;obtain rfl:=dj a;cases β with
  |true=>
   show(readies ju).contains g=false;rw[akC];rfl
  |false=>rfl
 rw[akB β i e] at a;obtain⟨d,j,rfl⟩:=io.1 a;show((d.body.map gP).map readies).any (·.contains g)=false;cases d.body with
 |none=>rfl
 |some c=>
  show(readies (gP c)).contains g=false;have:readies (gP c)=[]:=by unfold gP;exact afA _ _ _ _ c
  rw[this];rfl
def cA{f:Nat}(h:prog.funcs[f]?=some fn):(fn.name == "runtime.NumGoroutine")=false:=by
 have:=jp.1 aiz fn (rx.2 (pX h));unfold amS at this;simpa using this
def ahi(f:FuncId)(fn:Func)(h:(ah β).funcs[f]?=some fn):∃b,prog.funcs[f]?=some b/\FnR (gH f) fn b:=by
 by_cases k:f=nCC
 .subst k;rw[ach] at h;obtain rfl:=dj h;have g:=cA func219;refine⟨_,func219,rfl,g,rfl,rfl,rfl,λe=>(by cases e),λc _=> ?_⟩;obtain⟨d,a⟩:=qP.1 amT;exact⟨d,a,λe=>by rw[aya] at e;cases e⟩
 by_cases j:f=cf
 .subst j;rw[aci] at h;obtain rfl:=dj h;have g:=cA func112;refine⟨_,func112,rfl,g,rfl,rfl,rfl,λe=>(by cases e),λc _=> ?_⟩;obtain⟨d,a⟩:=qP.1 amU;exact⟨d,a,λe=>by rw[ayb] at e;cases e⟩
 rw[akB β k j] at h;obtain⟨b,i,rfl⟩:=io.1 h;have g:=cA i;refine⟨b,i,rfl,g,rfl,rfl,rfl,λe=> ?_,λc e=> ?_⟩
 .have e:b.body.map gP=none:=e;have:b.body=none:=by simpa using e
  unfold pf;rw[this];cases b;dsimp only at this;subst this;rfl
 .have e:b.body.map gP=some c:=e;obtain⟨d,a,rfl⟩:=io.1 e;exact⟨d,a,λ_=>rfl⟩
def kR:Twin (ah β) prog where
 info t:=(jv prog _ t).symm
 under t:=(cE prog _ t).symm
 rt:=rfl
 depth:=(adR prog _).symm
 globals:=by unfold gN;exact⟨rfl,rfl⟩
 zero t i v h hv ρ:=awt t i v ((jv prog _ t).symm.trans h) hv ρ
 stood t:=(adT prog _ t).symm
 avd:=rfl
 cellAt d e c o b:=(aqe prog _ d e c o b).symm
 lies d e c o u n:=(aqf prog _ d e c o u n).symm
 akn d t:=(ahh prog _ d t).symm
 follows d:=(af4 prog _ d).symm
 pc:=by
  unfold gP
  funext c
  exact(atj prog _ gA gL gB c).symm
 asS e h:=by
  have a:gB=3:=by unfold gB;rfl
  rw[a] at h;have:=((cE prog _ 3).symm.trans h);rw[ayd] at this;cases this
 func:=ahi β
 ain:=(awu β).symm
 mj:=⟨(af4 prog _ _).trans ayc,aqg β⟩
end
def ahj{r:Y->Y->Prop}{a:Y}(h:∀f:Nat->Y,f 0=a->¬ ∀n,r (f (n+1)) (f n)):Acc r a:=by
 refine qb λe=> ?_;have step:∀x:{x:Y // ¬Acc r x},∃y:{x:Y // ¬Acc r x},r y.1 x.1:=λx=>qb λd=>x.2 ⟨_,λy c=>qb λb=>d ⟨⟨y,b⟩,c⟩⟩
 let f:Nat->{x:Y // ¬Acc r x}:=λn=>Nat.rec ⟨a,e⟩ (λ_ x=>(step x).choose) n
 exact h (λn=>(f n).1) rfl λn=>(step (f n)).choose_spec
def mm(g:Goroutine)(w:World):Machine:={world:=w,gs:=#[g],rest:={timers:=#[],alone:=none,slice:=none}}
def gh(h:mm g w=mm g' w'):g=g'/\w=w':=by
 unfold mm at h;simp only[Machine.mk.injEq,Array.mk.injEq,qz,qh] at h;exact⟨h.2,h.1⟩
def aiA(a:g.status=.running):move P (mm g w)=.goroutine (mm g w) 0:=by
 simp[move,ask,askOn,mm,runnable_eq,due,ahead,Goroutine.canRun,uS,choose,pure,Sem.run,Question.forced,a]
def dw(a:g.status=.running)(h:stepG P true g w=.go g' w' es):step P (mm g w)=.next (mm g' w'):=by
 rw[step,stepT,aiA a];simp[runT,mm,Array.swapAt!,h]
def cg{o:Outcome}(a:g.status=.running)(h:stepG P true g w=.ended o w' es):step P (mm g w)=.ended o w':=by
 rw[step,stepT,aiA a];simp[runT,mm,Array.swapAt!,h]
def acj(c:g.status=.blocked):∃o b,step P (mm g w)=.ended o b:=by
 rw[step,stepT];have:∃s a,move P (mm g w)=.machine s a/\∃o b,s=.ended o b:=by
  simp only[move,ask,askOn,mm,runnable_eq,due,ahead,Goroutine.canRun,c];simp[uS,choose,pure,Sem.run,Question.forced,c];generalize endWith _ _ _ _=q;cases q<;>exact⟨_,⟨_,rfl⟩,_,_,rfl⟩
 obtain⟨s,a,d,o,b,rfl⟩:=this;rw[d];exact⟨o,b,rfl⟩
def ack(a:g.status=.waiting):step P (mm g w)=.next (mm g w):=by
 rw[step,stepT];have:move P (mm g w)=.machine (.next (mm g w)):=by
  simp[move,ask,askOn,mm,runnable_eq,due,ahead,Goroutine.canRun,uS,choose,pure,Sem.run,Question.forced,a]
 rw[this]
def jw(P:Program):Frame:={fn:=P.funcs.size,tmps:=#[],todo:=[.call ⟨.nil,#[]⟩ false "fmt's door" #[]],defers:=[],mode:=.run,kind:=.normal}
def aqh(base:List Frame)(g:Goroutine):Prop:=g.callers=base/\g.frame.mode=.returning/\g.frame.defers=[]/\g.status=.running/\g.dying=none
section
variable {P:Program}
def aaE{g:Goroutine}{w:World}(h:g.status=.blocked\/g.status=.waiting):∀n a b,runN P n (mm g w)=.next (mm a b)->¬aqh [jw P] a
 |0,a,b,hr,hf=>by
  simp only[runN,qg] at hr;obtain⟨rfl,rfl⟩:=gh hr;rcases h with h|h<;>rw[hf.2.2.2.1] at h<;>cases h
 |n+1,a,b,hr,hf=>by
  unfold runN at hr;rcases h with h|h
  .obtain⟨o,d,c⟩:=acj (P:=P) (w:=w) h;rw[c] at hr;cases hr
  .rw[ack h] at hr;exact aaE (.inr h) n a b hr hf
def acW:∀(n:Nat) {a:Frame} {w:World} {d:Dying} {f:Fatal},d.fatal=some f->d.calling=false->∀b g,runN P n (mm ⟨a,[],.running,some d,none⟩ w)=.next (mm b g)->¬aqh [jw P] b
 |0,a,w,d,f,h1,h2,b,g,hr,hf=>by
  simp only[runN,qg] at hr;obtain⟨rfl,rfl⟩:=gh hr;have:=hf.2.2.2.2;cases this
 |n+1,a,w,d,f,h1,h2,b,g,hr,hf=>by
  unfold runN at hr;have m:(∃o c i,stepG P true ⟨a,[],.running,some d,none⟩ w=.ended o c i)\/
    ∃k l c i,(k=.running\/k=.blocked)/\stepG P true ⟨a,[],.running,some d,none⟩ w=.go ⟨a,[],k,some {d with fatal:=some l},none⟩ c i:=by
   obtain⟨r,p,e,j,s,hand,fatal⟩:=d;dsimp only at h1 h2;subst h1 h2;simp only[stepG,die,writeOn];split
   .exact .inl ⟨_,_,_,rfl⟩
   .split
    .exact .inr ⟨_,_,_,_,.inl rfl,rfl⟩
    .exact .inr ⟨_,_,_,_,.inr rfl,rfl⟩
    .exact .inl ⟨_,_,_,rfl⟩
    .exact .inl ⟨_,_,_,rfl⟩
  rcases m with⟨o,c,i,h⟩|⟨k,l,c,i,q,h⟩
  .rw[cg rfl h] at hr;cases hr
  .rw[dw rfl h] at hr;rcases q with rfl|rfl
   .exact acW n (d:={d with fatal:=some l}) (f:=l) rfl h2 b g hr hf
   .exact aaE (.inl rfl) n b g hr hf
def aqi{b:Nat}(e:∀x l,w.heap[b]?≠some (.deferred (some (x::l)))):(∃h c a,(Instr.takeDeferred b).runT P w #[]=(.halt h c,a))\/∃a,(Instr.takeDeferred b).runT P w #[]=(.ok [] {w with heap:=w.heap.setIfInBounds b (.deferred none)},a):=by
 unfold Instr.takeDeferred;show(∃h c a,(Sem.getObj b λo=>_).runT P w #[]=_)\/∃a,(Sem.getObj b λo=>_).runT P w #[]=_;rw[Sem.runT];cases d:w.heap[b]? with
 |none=>exact .inl ⟨_,_,_,rfl⟩
 |some o=>
  cases o with
  |deferred q=>
   cases q with
   |none=>exact .inl ⟨_,_,_,rfl⟩
   |some l=>
    cases l with
    |cons x l=>exact absurd d (e x l)
    |nil=>
     refine .inr ⟨(#[].push ⟨.obj b,false,false⟩).push ⟨.obj b,true,false⟩, ?_⟩;show(Sem.setObj b (.deferred none) (Sem.pure [])).runT P w (#[].push ⟨.obj b,false,false⟩)=_;rw[Sem.runT,d];show(Sem.pure []).runT P {w with heap:=w.heap.setIfInBounds b (.deferred none)} _=_;rw[Sem.runT];rfl
  |_=>exact .inl ⟨_,_,_,rfl⟩
def vG(fr:Frame)(b:List PanicEntry):∃a,(fr.raise b).mode=.panicking a:=by
 unfold Frame.raise;split<;>exact⟨_,rfl⟩
def abj(fr:Frame)(a:List PanicEntry):(fr.raise a).defers=fr.defers:=by
 unfold Frame.raise;split<;>rfl
def akD(a:List PanicEntry):((jw P).raise a).catches P=true:=by
 have h:P.funcs[P.funcs.size]?=none:=by rw[pi];exact am _
 show(match P.funcs[P.funcs.size]?,[Item.call ⟨.nil,#[]⟩ false "fmt's door" #[]] with
  |none,.call _ _ resume _::_=>resume.startsWith "fmt's door"
  |_,_=>false)=true
 rw[h];show "fmt's door".startsWith "fmt's door" =true
 decide+kernel
def mn:∀(n:Nat) {A:Frame} {i:List Frame} {w:World} {a:List PanicEntry},A.mode=.panicking a->((∀f∈A::i,jN w f.defers)\/False)->∀z B,runN P n (mm ⟨A,i++[jw P],.running,none,none⟩ w)=.next (mm z B)->¬aqh [jw P] z
 |0,A,i,w,a,hm,_,z,B,hr,hf=>by
  simp only[runN,qg] at hr;obtain⟨rfl,rfl⟩:=gh hr;have:=hf.2.1;rw[hm] at this;cases this
 |n+1,A,i,w,a,hm,hd,z,B,hr,hf=>by
  replace hd:=hd.resolve_right id;unfold runN at hr;obtain⟨f,q,p,s,L,m,k⟩:=A;dsimp only at hm;subst hm;have C:stepG P true ⟨⟨f,q,p,s,.panicking a,m,k⟩,i++[jw P],.running,none,none⟩ w=unwind P true ⟨f,q,p,s,.panicking a,m,k⟩ (i++[jw P]) none w:=rfl;cases s with
  |cons d s=>
   obtain⟨b,rfl,I⟩:=hd _ (qA ..) d (qA ..);have F:(∃o j g,unwind P true ⟨f,q,p,⟨.collected b,#[]⟩::s,.panicking a,m,k⟩ (i++[jw P]) none w=.ended o j g)\/
     ∃g,unwind P true ⟨f,q,p,⟨.collected b,#[]⟩::s,.panicking a,m,k⟩ (i++[jw P]) none w=.go ⟨⟨f,q,p,s,.panicking a,m,k⟩,i++[jw P],.running,none,none⟩ {w with heap:=w.heap.setIfInBounds b (.deferred none)} g:=by
    rcases aqi (P:=P) I with⟨h,j,g,e⟩|⟨g,e⟩
    .refine .inl ⟨.stuck "the deferred calls of a range-over-func loop have been taken" (Frame.pos P ⟨f,q,p,⟨.collected b,#[]⟩::s,.panicking a,m,k⟩),j,seen P f g, ?_⟩;unfold unwind;simp only[e];simp[GStep.after]
    .refine .inr ⟨seen P f g, ?_⟩;unfold unwind;simp only[e];simp[GStep.after]
   rcases F with⟨o,j,g,h⟩|⟨g,h⟩
   .rw[cg rfl (C.trans h)] at hr;cases hr
   .rw[dw rfl (C.trans h)] at hr;refine mn n rfl (.inl λx u=> ?_) z B hr hf;have D:jN w x.defers:=by
     rcases lE.1 u with rfl|u
     .exact λd v=>hd _ (qA ..) d (qk _ v)
     .exact hd x (by simp[u])
    intro d v;obtain⟨c,rfl,K⟩:=D d v;exact⟨c,rfl,λy l e=>by
     change (w.heap.setIfInBounds b (.deferred none))[c]?=_ at e;rw[pe] at e;split at e
     .split at e
      .cases e
      .cases e
     .exact K y l e⟩
  |nil=>
   by_cases t:Frame.catches P ⟨f,q,p,[],.panicking a,m,k⟩=true
   .have h:∃o j g,unwind P true ⟨f,q,p,[],.panicking a,m,k⟩ (i++[jw P]) none w=.ended o j g:=by
     unfold unwind;simp only[t,mT];exact⟨_,_,_,rfl⟩
    obtain⟨o,j,g,h⟩:=h;rw[cg rfl (C.trans h)] at hr;cases hr
   .cases i with
    |nil=>
     have h:unwind P true ⟨f,q,p,[],.panicking a,m,k⟩ ([]++[jw P]) none w=.go ⟨(jw P).raise a,[],.running,none,none⟩ w #[]:=by
      unfold unwind;simp only[t,qY];rfl
     rw[dw rfl (C.trans h)] at hr;cases n with
     |zero=>
      simp only[runN,qg] at hr;obtain⟨rfl,rfl⟩:=gh hr;have:=hf.1;cases this
     |succ n=>
      unfold runN at hr;obtain⟨G,r⟩:=vG (jw P) a;have E:∃o j g,stepG P true ⟨(jw P).raise a,[],.running,none,none⟩ w=.ended o j g:=by
       have H:stepG P true ⟨(jw P).raise a,[],.running,none,none⟩ w=unwind P true ((jw P).raise a) [] none w:=by
        simp only[stepG,r]
       rw[H];unfold unwind;have J:((jw P).raise a).defers=[]:=(abj _ _).trans rfl;rw[J];simp only[r,akD,mT];exact⟨_,_,_,rfl⟩
      obtain⟨o,j,g,E⟩:=E;simp only[cg rfl E] at hr;cases hr
    |cons c i=>
     have h:unwind P true ⟨f,q,p,[],.panicking a,m,k⟩ (c::i++[jw P]) none w=.go ⟨c.raise a,i++[jw P],.running,none,none⟩ w #[]:=by
      unfold unwind;simp only[t,qu];rfl
     rw[dw rfl (C.trans h)] at hr;obtain⟨G,r⟩:=vG c a;refine mn n r (.inl λx u=> ?_) z B hr hf;rcases lE.1 u with rfl|u
     .rw[abj];exact hd c (by simp)
     .exact hd x (by simp[u])
def aom{s:GStep}(h:lS [jw P] s):(∃o w a,s=.ended o w a)\/∃g w a,s=.go g w a/\∀n b e,runN P n (mm g w)=.next (mm b e)->¬aqh [jw P] b:=by
 cases h with
 |ended o w a=>exact .inl ⟨_,_,_,rfl⟩
 |stop h=>exact .inr ⟨_,_,_,rfl,aaE h⟩
 |raised c hd=>exact .inr ⟨_,_,_,rfl,λn=>mn n c (.inl hd)⟩
 |dying d f=>exact .inr ⟨_,_,_,rfl,λn=>acW n d f⟩
end
structure Cfg where
 l:List Frame
 w:World
 t:Tape
structure aeo (P:Program) (c c1:Cfg):Prop where
 ne:c.l≠[]
 on:¬nE c.l
 drawn:c.w.drawn<=c1.w.drawn
 tape:∀i q,i<c.w.drawn->c1.t i q=c.t i q
 step:∃es,∀(base:List Frame) (t:Tape),(∀i q,i<c1.w.drawn->t i q=c1.t i q)->stepG P true (Gl c.l base) (c.w.tap t)=.go (Gl c1.l base) (c1.w.tap t) es
def jy(P:Program)(R:List Frame->World->Prop)(c:Cfg):Prop:=
 ∀t:Tape,(∀i q,i<c.w.drawn->t i q=c.t i q)->∃n a b,runN P n (mm (Gl c.l [jw P]) (c.w.tap t))=.next (mm (Gl a [jw P]) b)/\nE a/\R a b
section
variable {P:Program} {R:List Frame->World->Prop}
def iG(h:l≠[])(base:List Frame):(Gl l base).status=.running:=by
 cases l with
 |nil=>exact absurd rfl h
 |cons x a=>rfl
def mo{base : List Frame}(h:l≠[])(a:l'≠[])(e:Gl l base=Gl l' base):l=l':=by
 cases l with
 |nil=>exact absurd rfl h
 |cons x c=>
  cases l' with
  |nil=>exact absurd rfl a
  |cons y b=>
   unfold Gl at e;simp only[Goroutine.mk.injEq,List.append_cancel_right_eq] at e;rw[e.1,e.2.1]
def nE.ne(h:nE l):l≠[]:=by
 obtain⟨a,rfl, -⟩:=h;exact λe=>by cases e
def nE.fin(h:nE l)(base:List Frame):aqh base (Gl l base):=by
 obtain⟨c,rfl,a,b, -⟩:=h;exact⟨rfl,a,b,rfl,rfl⟩
def jy.step{c c1:Cfg}(h:jy P R c)(a:aeo P c c1):jy P R c1:=λt f=>by
 obtain⟨o,k⟩:=a.step;obtain⟨n,m,j,b,d,l⟩:=h t λi q g=>by
  rw[f i q (aE g a.drawn),a.tape i q g]
 cases n with
 |zero=>
  simp only[runN,qg] at b;obtain⟨e, -⟩:=gh b;obtain rfl:=mo a.ne d.ne e;exact absurd d a.on
 |succ n=>
  unfold runN at b;rw[dw (iG a.ne _) (k [jw P] t f)] at b;exact⟨n,m,j,b,d,l⟩
def jy.acc{c:Cfg}(h:jy P R c):Acc (λw c=>aeo P c w) c:=by
 classical
 refine ahj λf x a=> ?_;subst x;have t:∀{m n},m<=n->(f m).w.drawn<=(f n).w.drawn:=λ{m n} b=>by
  induction b with
  |refl=>exact am _
  |step _ p=>exact ap p (a _).drawn
 have l:∀{m n},m<=n->∀i q,i<(f m).w.drawn->(f n).t i q=(f m).t i q:=λ{m n} b=>by
  induction b with
  |refl=>exact λ_ _ _=>rfl
  |step s p=>exact λi q o=>((a _).tape i q (aE o (t s))).trans (p i q o)
 let T:Tape:=λi q=>if d:∃n,i<(f n).w.drawn then(f d.choose).t i q else 0
 have u:∀n i q,i<(f n).w.drawn->T i q=(f n).t i q:=λn i q o=>by
  have d:∃n,i<(f n).w.drawn:=⟨n,o⟩;show(if d:∃n,i<(f n).w.drawn then(f d.choose).t i q else 0)=_;rw[sU d];rcases Nat.le_total d.choose n with g|g
  .exact(l g i q d.choose_spec).symm
  .exact l g i q o
 have r:∀n,Go.step P (mm (Gl (f n).l [jw P]) ((f n).w.tap T))=.next (mm (Gl (f (n+1)).l [jw P]) ((f (n+1)).w.tap T)):=λn=>by
  obtain⟨B,z⟩:=(a n).step;exact dw (iG (a n).ne _) (z _ T (u (n+1)))
 have y:∀n k,runN P n (mm (Gl (f k).l [jw P]) ((f k).w.tap T))=.next (mm (Gl (f (k+n)).l [jw P]) ((f (k+n)).w.tap T)):=by
  intro n
  induction n with
  |zero=>intro k;rfl
  |succ n p=>
   intro k;unfold runN;rw[r k];simp only;rw[p (k+1),show k+1+n=k+(n+1) by omega]
 obtain⟨n,C,A,v,j, -⟩:=h T (u 0);rw[y n 0,qg] at v;obtain⟨e, -⟩:=gh v;obtain rfl:=mo (a (0+n)).ne j.ne e;exact(a (0+n)).on j
def jy.fin{c:Cfg}(h:jy P R c)(u:nE c.l)(C:Extern.next "fmt's door" =none)(t:Tape)(z:∀i q,i<c.w.drawn->t i q=c.t i q):R c.l (c.w.tap t):=by
 obtain⟨n,K,E,a,g,D⟩:=h t z;cases n with
 |zero=>
  simp only[runN,qg] at a;obtain⟨e,rfl⟩:=gh a;obtain rfl:=mo u.ne g.ne e;exact D
 |succ n=>
  exfalso;obtain⟨j,A,x,hd,p⟩:=u;rw[A] at a;have k:(∃o b d,stepG P true (Gl [j] [jw P]) (c.w.tap t)=.ended o b d)\/∃v b d,stepG P true (Gl [j] [jw P]) (c.w.tap t)=.go ⟨(jw P).finish v,[],.running,none,none⟩ b d:=by
   obtain⟨f,l,w,I,G,F,m⟩:=j;dsimp only at x hd p;subst x hd p;have y:stepG P true (Gl [⟨f,l,w,[],.returning,.normal,m⟩] [jw P]) (c.w.tap t)=unwind P true ⟨f,l,w,[],.returning,.normal,m⟩ [jw P] none (c.w.tap t):=rfl;rw[y];unfold unwind;dsimp only;cases J:P.funcs[f]? with
   |none=>exact .inr ⟨_,_,_,rfl⟩
   |some B=>
    dsimp only;generalize (results B l).runT P (c.w.tap t) #[]=q;obtain⟨r,d⟩:=q;cases r with
    |ok v b=>exact .inr ⟨v,b,_,rfl⟩
    |halt h b=>cases h<;>exact .inl ⟨_,_,_,rfl⟩
  unfold runN at a;rcases k with⟨o,b,d,e⟩|⟨v,b,d,e⟩
  .rw[cg rfl e] at a;cases a
  .rw[dw rfl e] at a;cases n with
   |zero=>
    simp only[runN,qg] at a;obtain⟨e, -⟩:=gh a;obtain⟨H,rfl, -⟩:=g;have:=fa Goroutine.callers e;cases this
   |succ n=>
    unfold runN at a;have s:stepG P true ⟨(jw P).finish v,[],.running,none,none⟩ b=(Extern.next "fmt's door").elim (.ended (.stuck ("no extern row " ++ "fmt's door") (Frame.pos P ((jw P).finish v))) b #[]) λe=>stepG.apply P true ((jw P).finish v) [] none (e (#[].push v)) b:=rfl;rw[C] at s;simp only[cg rfl s] at a;cases a
end
section
variable {P P':Program} {R:List Frame->World->Prop} {ρ:Ren}
def sim(T:Twin P P')(X:ais P P')(C:GlR ρ){c:Cfg}(m':Bool)(y:gZ P ρ c.l l')(K:WR ρ c.w w')(x:¬nE c.l)(z:jy P R c) :
  ∃p k d m l f,aeo P c p/\jy P R p/\ρ.Le k/\(∀base,stepG P' m' (Gl l' base) w'=.go (Gl d base) m f)/\WR k p.w m/\Kept ρ k c.w w' p.w m/\EvW c.w k l f/\GoR P P' k p.l d:=by
 obtain⟨a,D,H⟩:=aws (P:=P) (P':=P') T X C true m' y K x;have b:c.l≠[]:=λe=>by rw[e] at y;cases y
 rcases H with H|⟨k,O,s,l,d,m,f,G,Q,M,F,J,N,I,L⟩
 .exfalso;have B:=H [jw P] (λi q=>if i<c.w.drawn then c.t i q else a i q) λi q r _=>bd (by omega);obtain⟨n,U,V,j,v, -⟩:=z (λi q=>if i<c.w.drawn then c.t i q else a i q) λi q r=>dl r;cases n with
  |zero=>
   simp only[runN,qg] at j;obtain⟨e, -⟩:=gh j;obtain rfl:=mo b v.ne e;exact x v
  |succ n=>
   unfold runN at j;rcases aom B with⟨o,w,l,e⟩|⟨g,w,l,e,u⟩
   .rw[cg (iG b _) e] at j;cases j
   .rw[dw (iG b _) e] at j;exact u n _ _ j (v.fin _)
 .have A:aeo P c ⟨O,s,λi q=>if i<c.w.drawn then c.t i q else a i q⟩:=
   ⟨b,x,by show c.w.drawn<=s.drawn;omega,λi q r=>dl r,l,λbase t E=>G base t λi q r S=>by
    rw[E i q (by show i<s.drawn;omega)];exact bd (by omega)⟩
  exact⟨_,k,d,m,l,f,A,z.step A,M,F,J,N,I,L⟩
end
section
variable {P P':Program} {ρ:Ren}
def acX:∀(n t:Nat) (acc:Array Value),(∀v∈acc.toList,cT v)->∀v∈(Extern.BytealgMakeNoZero.digits n t acc).toList,cT v
 |0,_,acc,h=>h
 |n+1,t,acc,h=>by
  unfold Extern.BytealgMakeNoZero.digits;refine acX n _ _ λv a=> ?_;rw[qX,gt] at a;rcases a with a|a
  .exact h v a
  .simp at a;subst a;exact λ_=>.int _ _
def abk(T:Twin P P')(i f:Array TypeId)(h:cQ ρ a Z):aB P P' VR ρ (Extern.BytealgMakeNoZero.makeNoZero i f a) (Extern.BytealgMakeNoZero.makeNoZero i f Z):=by
 unfold Extern.BytealgMakeNoZero.makeNoZero;obtain⟨a⟩:=a;obtain⟨Z⟩:=Z;have h:bN ρ a Z:=h;cases h with
 |nil=>exact .halt _ _
 |cons j o=>
  cases o with
  |cons=>cases j<;>exact .halt _ _
  |nil=>
   cases j with
   |int k n=>
    cases k<;>try exact .halt _ _
    dsimp only;cases f[0]? with
    |none=>exact .halt _ _
    |some t=>
     dsimp only;refine ai (aC T t) λE d A D hd=> ?_;obtain⟨rfl, -⟩:=hd;cases d with
     |slice e=>
      dsimp only;refine aQ (λ_=>dr _) λ_=> ?_;refine ai (fR _) λB c l w q=> ?_;obtain rfl:c=l:=q;refine ai (ag4 c) λx _ _ C _=> ?_;refine ai (fR _) λs b m z q=> ?_;obtain rfl:b=m:=q;refine ai (lM e (bN.jH λv g=>acX _ _ _ (λv g=>by cases g) v g _)) λy r u F p=> ?_;exact aj (.slice (.some p) _ _)
     |_=>exact .halt _ _
   |_=>exact .halt _ _
def acY:∀(n:Nat) {ρ:Ren} {a c:Addr} (acc:ByteArray),AR ρ a c->aB P P' iF ρ (Extern.Bytes.loadBytes a n acc) (Extern.Bytes.loadBytes c n acc)
 |0,_,_,_,_,_=>aj rfl
 |n+1,ρ,a,c,acc,h=>by
  unfold Extern.Bytes.loadBytes;refine ai (apR .plain h) λg v f e d=> ?_;cases d with
  |int k b=>
   cases k<;>first|exact acY n _ ((h.mono e).add 1)|exact .halt _ _
  |_=>exact .halt _ _
def acZ(h:cQ ρ a Z):aB P P' VR ρ (Extern.BytealgIndexByte.indexByte a) (Extern.BytealgIndexByte.indexByte Z):=by
 unfold Extern.BytealgIndexByte.indexByte;obtain⟨a⟩:=a;obtain⟨Z⟩:=Z;have h:bN ρ a Z:=h;cases h with
 |nil=>exact .halt _ _
 |cons m d=>
  cases d with
  |nil=>exact .halt _ _
  |cons g d=>
   cases d with
   |cons=>exact .halt _ _
   |nil=>
    refine ai (A:=iF) ?_ λu b j r e=> ?_
    .cases m with
     |string s=>exact aj rfl
     |slice f l c=>cases f with
      |none=>exact aj rfl
      |some f=>exact acY _ _ f
     |empty o t Z=>exact aj rfl
     |_=>exact .halt _ _
    .obtain rfl:b=j:=e;refine ai (A:=iF) ?_ λp c i q e=> ?_
     .cases g with
      |int k n=>cases k<;>first|exact aj rfl|exact .halt _ _
      |_=>exact .halt _ _
     .obtain rfl:c=i:=e;split
      .exact aj (.int _ _)
      .exact aj (.int _ _)
end
noncomputable def akE(f:Nat):Bool:=match prog.funcs[f]? with
 |some a=>!alw prog f||a.body.isSome||f ==231||f ==246
 |none=>true
def af7{f:Nat}(h:prog.funcs[f]?=some fn)(a:akE f=true):(!alw prog f||fn.body.isSome||f ==231||f ==246)=true:=by
 unfold akE at a;generalize prog.funcs[f]?=q at h a;subst h;exact a
def aep:(List.range prog.funcs.size).all akE=true:=by kernel_rfl
def amV:f231.body.isNone=true:=by kernel_rfl
def amW:f246.body.isNone=true:=by kernel_rfl
def amX:Extern.findNext f231=none:=by kernel_rfl
def ac0:Extern.findNext f246=none:=by kernel_rfl
def amY:Extern.find f231=some (Extern.BytealgMakeNoZero.makeNoZero f231.params f231.resultTypes):=by kernel_rfl
def amZ:Extern.find f246=some Extern.BytealgIndexByte.indexByte:=by kernel_rfl
def acn:Extern.next "fmt's door" =none:=by kernel_rfl
def abl {P' : Program}  {b : Func} {e:Array Value->Sem Value} (r:P.funcs[f]?=some fn) (i:P'.funcs[f]?=some b) (g:fn.body.isNone=true) (k:b.body.isNone=true)
  (q:(fn.name == "runtime.NumGoroutine")=false) (t:(b.name == "runtime.NumGoroutine")=false) (s:Extern.findNext fn=none) (x2:Extern.findNext b=none) (n:Extern.find fn=some e) (u:Extern.find b=some e)
  (o:∀(c:Ren) a Z,cQ c a Z->aB P P' VR c (e a) (e Z)) (h:cQ ρ a Z):aB P P' gM ρ (callFunc f a) (callFunc f Z):=by
 unfold callFunc;refine ai cR λc p v m d=> ?_;obtain⟨rfl,rfl⟩:=d;rw[r,i];dsimp only;rw[q,t,g,k];simp only[fd,qc,mT];refine ai (apS (.extern f)) λj _ _ l _=> ?_;rw[s,x2,n,u];exact bE (o j _ _ (bN.mono (m.trans l) h))
def avv(β:Bool):ais (ah β) prog:=λf k d i l p a j h=>by
 obtain⟨q,b,o⟩:=ahi β f k d;obtain rfl:=o.none i;have g:=(de.1 b).1;have c:=jp.1 aep f (pm.2 g);have c:=af7 b c;have n:alw prog f=true:=by
  have:gA f=alw prog f:=by unfold gA;rfl
  rw[<-this];exact l
 rw[n,i] at c;simp only[uw,sE,uv,tR,qs,mx] at c;rcases c with rfl|rfl
 .have e:=b.symm.trans func231;obtain rfl:=dj e;exact abl d func231 amV amV (cA func231) (cA func231) amX amX amY amY (λm a j h=>abk (kR β) _ _ h) h
 .have e:=b.symm.trans func246;obtain rfl:=dj e;exact abl d func246 amW amW (cA func246) (cA func246) ac0 ac0 amZ amZ (λm a j h=>acZ h) h
def aah{args:Array Value}{t0:Tape}{Post:Value->World->Prop}(h:∀t:Tape,(∀i q,i<w.drawn->t i q=t0 i q)->Calls P f args (w.tap t) λe b=>∃v,e=.returned v/\Post v b) :
  jy P (λl b=>∃a v,l=[a]/\a.fn=f/\a.leaving P b (.returned v)/\Post v b) ⟨[Frame.enter P f args .normal],w,t0⟩:=λt j=>by
 obtain⟨e,b,a,⟨v,rfl,d⟩,⟨n,k⟩,g,c⟩:=h t j [jw P];refine⟨n,[a],b,k,⟨a,rfl,c.1,c.2.1,c.2.2.1⟩,a,v,rfl,g,c,d⟩
end
section
open Go.RowKit
def eJ{k:IntKind}{a b:Int}(h:a=b):Ending.returned (.int k a)=.returned (.int k b):=by rw[h]
def ak{a b:Bool}(h:a=b):Ending.returned (.bool a)=.returned (.bool b):=by rw[h]
structure gq (S:Nat->Prop) (w w':World):Prop where
 os:w'.os=w.os
 tape:w'.tape=w.tape
 output:w'.output=w.output
 size:w.heap.size<=w'.heap.size
 block:∀k,k<w.heap.size->¬S k->w'.heap[k]?=w.heap[k]?
def gq.refl(S:Nat->Prop)(w:World):gq S w w:=⟨rfl,rfl,rfl,am _,λ_ _ _=>rfl⟩
def gq.trans{T : Nat->Prop}{a b c:World}(h:gq S a b)(k:gq T b c)(f:∀i,i<a.heap.size->T i->S i):gq S a c:=
 ⟨k.os.trans h.os,k.tape.trans h.tape,k.output.trans h.output,ap h.size k.size,
  λi d e=>(k.block i (aE d h.size) (λg=>e (f i d g))).trans (h.block i d e)⟩
def gq.mono{T : Nat->Prop}{a b:World}(h:gq S a b)(d:∀i,i<a.heap.size->S i->T i):gq T a b:=
 ⟨h.os,h.tape,h.output,h.size,λi c f=>h.block i c λe=>f (d i c e)⟩
def gq.below(h:gq S w w')(c:B<=w.heap.size)(b:∀i,i<B->¬S i):Below B w w':=
 ⟨h.os,h.tape,h.output,h.size,λk a=>h.block k (aE a c) (b k a)⟩
def gq.aeq(h:Below w.heap.size w w'):gq S w w':=
 ⟨h.os,h.tape,h.output,h.size,λk a _=>h.block k a⟩
def gq.alloc{a : World}(h:gq S a w)(o:Obj):gq S a (w.alloc o):=
 ⟨h.os,h.tape,h.output,ap h.size (by simp),λi c b=>(rH w o i (aE c h.size)).trans (h.block i c b)⟩
def gq.drew{a : World}(h:gq S a w):gq S a w.drew:=⟨h.os,h.tape,h.output,h.size,h.block⟩
def gq.setCell{a : World}(h:gq S a w){p:Addr}(b:S p.block\/a.heap.size<=p.block)(u:Value):gq S a (w.setCell p u):=
 ⟨h.os,h.tape,h.output,by simpa[World.setCell] using h.size,λi d c=>(mc w p u i (by
  rintro rfl;rcases b with b|b
  .exact c b
  .omega)).trans (h.block i d c)⟩
def ae{a : World}(h:Below a.heap.size a w)(b:Below w.heap.size w w'):Below a.heap.size a w':=h.trans (b.mono h.size)
def sN{a : World}(h:Below B a w)(n:Nat):Below B a (w.drewN n):=⟨h.os,h.tape,h.output,h.size,h.block⟩
abbrev fq(α:Type):=World->Nat->Nat->α->List Value->Prop
structure Lcy {α:Type} (E:fq α):Prop where
 go:∀{w w':World} {lo hi px hi':Nat} {x:α} {cs:List Value},
  (∀b,lo<=b->b<hi->w'.heap[b]?=w.heap[b]?)->px<=lo->hi<=hi'->E w lo hi x cs->E w' px hi' x cs
def dJ(x:Int):Prop:= -9223372036854775808<=x/\x<=9223372036854775807
def bz:fq Int:=λ_ _ _ x a=>a=[.int .i64 x]/\dJ x
def aye:fq Int:=λ_ _ _ x a=>a=[.int .u8 x]/\0<=x/\x<256
def aww:fq ByteArray:=λ_ _ _ x a=>a=[.string x]/\x.size<=maxLen
def bz.loc:Lcy bz:=⟨λ_ _ _ h=>h⟩
def aY{α:Type}(E:fq α)(sz:Nat):fq (List α):=λw f g d k=>
 ∃(A:Option Addr) (c:Nat),k=[.slice A d.length c]/\d.length<=c/\c<=maxLen/\
  (0<d.length->∃b a,A=some ⟨b,a,none⟩/\f<=b/\b<g/\
   ∀i x,d[i]?=some x->∃e:List Value,e.length=sz/\E w f g x e/\∀j u,e[j]?=some u->w.cell? ⟨b,a+i*sz+j,none⟩=some u)
def aY.loc{E:fq Y}(p:Lcy E) :Lcy (aY E U):=by
 refine⟨?_⟩;intro w C H G B d F D n e l ⟨A,c,g,o,y,h⟩;refine⟨A,c,g,o,y,λq=> ?_⟩;obtain⟨b,f,rfl,m,k,v⟩:=h q;refine⟨b,f,rfl,ap e m,aE k l,λi x d=> ?_⟩;obtain⟨s,r,z,a⟩:=v i x d;exact⟨s,r,p.go n e l z,λj u t=>(pR (n b m k)).trans (a j u t)⟩
def Lcy.below{E:fq Y}(c:Lcy E){cs:List Value}(h:E w U R x cs)(e:Below B w w')(d:R<=B):E w' U R x cs:=
 c.go (λb _ a=>e.block b (aE a d)) (am _) (am _) h
def Lcy.chg{E:fq Y}(e:Lcy E){cs:List Value}(h:E w U R x cs)(f:gq S w w')(a:∀b,U<=b->b<R->b<w.heap.size/\¬S b):E w' U R x cs:=
 e.go (λb d c=>f.block b (a b d c).1 (a b d c).2) (am _) (am _) h
def Lcy.wide{E:fq Y}(a:Lcy E){px hi' : Nat}{cs:List Value}(h:E w U R x cs)(c:px<=U)(b:R<=hi'):E w px hi' x cs:=
 a.go (λ_ _ _=>rfl) c b h
def aY.at_{E:fq Y}(h:aY E U w R N xs [.slice A n c])(g:xs[k]?=some x) :
  ∃b a e,A=some ⟨b,a,none⟩/\R<=b/\b<N/\e.length=U/\E w R N x e/\∀j u,e[j]?=some u->w.cell? ⟨b,a+k*U+j,none⟩=some u:=by
 obtain⟨A',r,f,s,t,i⟩:=h;simp only[qz,sR,qh] at f;obtain⟨rfl,rfl,rfl⟩:=f;have l:k<xs.length:=by
  rcases nf k xs.length with h|h
  .exact h
  .rw[qN h] at g;cases g
 obtain⟨b,a,rfl,o,m,i⟩:=i (by omega);obtain⟨e,p,q,d⟩:=i k x g;exact⟨b,a,e,rfl,o,m,p,q,d⟩
def aY.ints_at{xs:List Int}(h:aY bz 1 w U R xs [.slice A n c]){x:Int}(f:xs[k]?=some x) :
  ∃b a,A=some ⟨b,a,none⟩/\U<=b/\b<R/\dJ x/\w.cell? ⟨b,a+k,none⟩=some (.int .i64 x):=by
 obtain⟨b,a,l,rfl,g,e,j,⟨rfl,d⟩,i⟩:=h.at_ f;exact⟨b,a,rfl,g,e,d,by simpa using i 0 _ rfl⟩
def aY.len_{E:fq Y}(h:aY E U w R N xs [.slice A n c]):n=xs.length/\n<=c/\c<=maxLen:=by
 obtain⟨A',e,a,d,b,f⟩:=h;simp only[qz,sR,qh] at a;obtain⟨rfl,rfl,rfl⟩:=a;exact⟨rfl,d,b⟩
def aY.form{E:fq Y}(h:aY E U w R N xs [v]):∃A c,v=.slice A xs.length c:=by
 obtain⟨A',d,a,e,b,f⟩:=h;simp only[qz,qh] at a;exact⟨_,_,a⟩
def aq{l:List Y}(h:k<l.length):∃x,l[k]?=some x:=⟨l[k],jn h⟩
def aI{l:List Y}(h:l[k]?=some x):k<l.length:=by
 rcases nf k l.length with a|a
 .exact a
 .rw[qN a] at h;cases h
def kS{α:Type}{P:List α->Prop}(h0:P [])(h1:∀l a,P l->P (l++[a]))(l:List α):P l:=by
 rw[<-l.reverse_reverse]
 induction l.reverse with
 |nil=>exact h0
 |cons a t b=>rw[uA];exact h1 _ _ b
def gn{l:List Y}(h:l[k]?=some x):l.take (k+1)=l.take k++[x]:=by
 rw[List.take_add_one,h];rfl
def gi(w:World)(g:Nat)(t:TypeId)(cs:Array Value):Prop:=w.heap[g]?=some (.cells cs t (0,0))
section
variable {w w':World} {g:Nat} {t:TypeId} {cs:Array Value}
def gi.lt(h:gi w g t cs):g<w.heap.size:=by
 rcases nf g w.heap.size with a|b
 .exact a
 .unfold gi at h;rw[pH b] at h;cases h
def gi.cell(h:gi w g t cs)(i:Nat):w.cell? ⟨g,i,none⟩=cs[i]?:=cell_of_row w g i cs t (0,0) h
def gi.frozen(h:gi w g t cs)(i:Nat):w.frozen? ⟨g,i,none⟩=false:=by
 unfold gi at h;simp[World.frozen?,h]
def gi.new(w:World)(t:TypeId)(cs:Array Value):gi (w.alloc (.cells cs t)) w.heap.size t cs:=heap_alloc_new w _
def gi.aer(h:gi w g t cs)(i:Nat)(u:Value):gi (w.setCell ⟨g,i,none⟩ u) g t (cs.setIfInBounds i u):=by
 unfold gi at h ⊢;simp[World.setCell,mw,h]
end
def Pre(w:World)(g:Nat)(t:TypeId)(N:Nat)(vs:List Value):Prop:=∃a:Array Value,gi w g t a/\a.size=N/\∀(j:Nat) (u:Value),vs[j]?=some u->a[j]?=some u
section
variable {w w':World} {g N:Nat} {t:TypeId} {vs:List Value}
def Pre.new(w:World)(t:TypeId)(cs:Array Value):Pre (w.alloc (.cells cs t)) w.heap.size t cs.size []:=⟨cs,gi.new _ _ _,rfl,λj u h=>by simp at h⟩
def Pre.lt(h:Pre w g t N vs):g<w.heap.size:=by
 obtain⟨b,a,_⟩:=h;exact a.lt
def Pre.cell(h:Pre w g t N vs){j:Nat}{u:Value}(a:vs[j]?=some u):w.cell? ⟨g,j,none⟩=some u:=by
 obtain⟨d,b,_,c⟩:=h;rw[b.cell];exact c j u a
def Pre.there(h:Pre w g t N vs){j:Nat}(c:j<N):∃u,w.cell? ⟨g,j,none⟩=some u:=by
 obtain⟨a,b,e,d⟩:=h;rw[b.cell];exact⟨a[j]'(by omega),fi (by omega)⟩
def Pre.frozen(h:Pre w g t N vs)(j:Nat):w.frozen? ⟨g,j,none⟩=false:=by
 obtain⟨b,a,_⟩:=h;exact a.frozen j
def Pre.push(h:Pre w g t N vs)(u:Value)(c:vs.length<N):Pre (w.setCell ⟨g,vs.length,none⟩ u) g t N (vs++[u]):=by
 obtain⟨k,e,i,f⟩:=h;refine⟨_,e.aer vs.length u,by simpa using i,λj v a=> ?_⟩;rw[pe];by_cases b:vs.length=j
 .subst b;rw[pL (am _)] at a;simp at a;subst a;rw[dl rfl,dl (by omega)]
 .rw[bd b];have d:=aI a;simp at d;rw[qa (by omega)] at a;exact f j v a
def Pre.chg(h:Pre w g t N vs)(e:gq S w w')(c:¬S g):Pre w' g t N vs:=by
 obtain⟨d,b,f,a⟩:=h;exact⟨d,(e.block g b.lt c).trans b,f,a⟩
end
def Pre.ints{g : Nat}{t:TypeId}{xs:List Int}(h:Pre w g t U (xs.map (Value.int .i64)))(b:∀x∈xs,dJ x)(k:R<=g)(d:g<N)(l:xs.length<=c)(e:c<=maxLen) :
  aY bz 1 w R N xs [.slice (some ⟨g,0,none⟩) xs.length c]:=
 ⟨_,_,rfl,l,e,λ_=>⟨g,0,rfl,k,d,λi x N=>⟨[.int .i64 x],rfl,⟨rfl,b x (be N)⟩,λj u a=>by
  have f:j=0:=by have:=aI a;simpa using this
  subst f;simp at a;subst a;have:=h.cell (j:=i) (u:=.int .i64 x) (by rw[qi,N];rfl);simpa using this⟩⟩⟩
def am0{α:Type}(E:fq α)(sz:Nat)(w:World)(xs:List α)(e:Ending)(w':World):Prop:=
 ∃v,e=.returned v/\aY E sz w' w.heap.size w'.heap.size xs [v]/\Below w.heap.size w w'
def aY.atk{E:fq Y}{cs:List Value}(h:aY E U w R N xs cs):∀x∈xs,∃a,E w R N x a:=by
 obtain⟨A,c,g,m,l,f⟩:=h;intro x j;obtain⟨i,N⟩:=qp.1 j;obtain⟨b,e,_,_,_,d⟩:=f (by have:=aI N;omega);obtain⟨a,_,k,_⟩:=d i x N;exact⟨a,k⟩
def aY.afB{xs:List Int}{cs:List Value}(h:aY bz 1 w U R xs cs):∀x∈xs,dJ x:=λx b=>by
 obtain⟨c,a⟩:=h.atk x b;exact a.2
section
variable {w:World} {g:Nat} {t:TypeId} {n:Nat} {f f':Nat->Int}
end
end
section
section
variable (P:Program) (fs:Array Func)
def abm(t:TypeId)(w:World):(underlying t).run {P with funcs:=fs} w=(underlying t).run P w:=by
 show Sem.run _ (match({P with funcs:=fs}:Program).underlying t with|some d=>pure d|none=>stuck "no such type") w=Sem.run P (match P.underlying t with|some d=>pure d|none=>stuck "no such type") w;rw[cE];cases P.underlying t<;>rfl
def aaF(t:TypeId)(w:World):(typeInfo t).run {P with funcs:=fs} w=(typeInfo t).run P w:=by
 show Sem.run _ (match({P with funcs:=fs}:Program).info? t with|some d=>pure d|none=>stuck "no such type") w=Sem.run P (match P.info? t with|some d=>pure d|none=>stuck "no such type") w;rw[jv];cases P.info? t<;>rfl
def aqj{β : Type}(P Q:Program)(s:Sem Y)(f:Y->Sem β)(w:World)(h:s.run Q w=s.run P w)(b:∀a w,(f a).run Q w=(f a).run P w):(s.bind f).run Q w=(s.bind f).run P w:=by
 have c:=qm Q s f w;have e:=qm P s f w;exact c.trans ((fa (λr=>Result.andThen r λa d=>(f a).run Q d) h).trans ((fa (λF=>Result.andThen (s.run P w) F) (funext λa=>funext λw=>b a w)).trans e.symm))
def akF{β : Type}(s:Sem Y)(f:Y->Sem β)(w:World)(h:s.run {P with funcs:=fs} w=s.run P w)(b:∀a w,(f a).run {P with funcs:=fs} w=(f a).run P w):(s.bind f).run {P with funcs:=fs} w=(s.bind f).run P w:=aqj P _ s f w h b
def aqk(t:TypeId)(w:World):(sizeOf t).run {P with funcs:=fs} w=(sizeOf t).run P w:=akF P fs _ _ w (aaF P fs t w) λ_ _=>rfl
def aiB(t:TypeId)(w:World):(zeroValue t).run {P with funcs:=fs} w=(zeroValue t).run P w:=akF P fs _ _ w (aaF P fs t w) λi w=>by
 cases i.zero<;>rfl
def atl(t:TypeId)(w:World):(isAgg t).run {P with funcs:=fs} w=(isAgg t).run P w:=akF P fs _ _ w (abm P fs t w) λd w=>by
 cases d<;>rfl
end
variable {β:Bool}
@[simp,go_sem] theorem asO(t:TypeId)(w:World):(underlying t).run (ah β) w=(underlying t).run prog w:=abm prog (lA β) t w
@[simp,go_sem] theorem avw(t:TypeId)(w:World):(typeInfo t).run (ah β) w=(typeInfo t).run prog w:=aaF prog (lA β) t w
@[simp,go_sem] theorem bQ(t:TypeId)(w:World):(sizeOf t).run (ah β) w=(sizeOf t).run prog w:=aqk prog (lA β) t w
@[simp,go_sem] theorem aU(t:TypeId)(w:World):(zeroValue t).run (ah β) w=(zeroValue t).run prog w:=aiB prog (lA β) t w
@[simp,go_sem] theorem cB(t:TypeId)(w:World):(isAgg t).run (ah β) w=(isAgg t).run prog w:=atl prog (lA β) t w
@[simp,go_sem] theorem bc(t:TypeId):(ah β).underlying t=prog.underlying t:=cE prog (lA β) t
@[simp,go_sem] theorem ayf(t:TypeId):(ah β).stoodInHeld t=prog.stoodInHeld t:=adT prog (lA β) t
@[simp,go_sem] theorem ayg(d:Nat)(t:TypeId):(ah β).eqGuardType d t=prog.eqGuardType d t:=ahh prog (lA β) d t
@[simp,go_sem] theorem ayh:(ah β).depth=prog.depth:=adR prog (lA β)
abbrev ahk:List Nat:=[112,146,147,150,197,219,233,236,2,182,183,185,186,192,243,279]
noncomputable def awx(f:Nat):Bool:=ahk.contains f||match prog.funcs[f]? with
 |some a=>match a.body with
  |some c=>ft prog gA gL c
  |none=>true
 |none=>true
def aql:(List.range prog.funcs.size).all awx=true:=by kernel_rfl
def atm{f:Nat}(h:prog.funcs[f]?=some fn)(a:awx f=true)(b:ahk.contains f=false):∀c,fn.body=some c->ft prog gA gL c=true:=by
 unfold awx at a;rw[b] at a;generalize prog.funcs[f]?=q at h a;subst h;intro c d;simp only[d,tR] at a;exact a
def au{f:Nat}(h:prog.funcs[f]?=some fn)(g:ahk.contains f=false):(ah β).funcs[f]?=some fn:=by
 have d:=(de.1 h).1;have b:=atm h (jp.1 aql f (pm.2 d)) g;have j:f≠nCC:=λe=>by subst e;revert g;decide
 have i:f≠cf:=λe=>by subst e;revert g;decide
 have k:pf fn=fn:=by
  unfold pf;cases a:fn.body with
  |none=>cases fn;dsimp only at a;subst a;rfl
  |some c=>
   have:gP c=c:=by unfold gP;exact aik _ _ _ _ c (b c a)
   cases fn;dsimp only at a;subst a;show _=_;simp only[pZ,this]
 refine(akB β j i).trans ?_;have e:Option.map pf (prog.funcs[f]?)=Option.map pf (some fn):=fa _ h;rw[e,pZ,k]
def jY(h:P.funcs[f]?=some fn)(d:(fn.name == "runtime.NumGoroutine")=false)(a:fn.body.isSome=true)(args:Array Value)(w:World):(callFunc f args).run P w=.ok (.enter f args) w:=by
 show Sem.run P (match P.funcs[f]? with|none=>_|some fn=>_) w=_;rw[h];obtain⟨c,b⟩:=qP.1 a;simp only[d,b,Option.isNone_some];rfl
def aA{f:Nat}(h:prog.funcs[f]?=some fn)(a:ahk.contains f=false)(b:fn.body.isSome=true)(args:Array Value)(w:World):(callFunc f args).run (ah β) w=.ok (.enter f args) w:=jY (au h a) (cA h) b args w
end
section
variable {β:Bool}
def qF3:=au (β:=β) func3 (by decide)
def qF5:=au (β:=β) func5 (by decide)
def qF6:=au (β:=β) func6 (by decide)
def qF7:=au (β:=β) func7 (by decide)
def qF8:=au (β:=β) func8 (by decide)
def qF9:=au (β:=β) func9 (by decide)
def zU:=au (β:=β) func11 (by decide)
def wn:=au (β:=β) func12 (by decide)
def xE:=au (β:=β) func13 (by decide)
def zT:=au (β:=β) func14 (by decide)
def zS:=au (β:=β) func15 (by decide)
def zR:=au (β:=β) func16 (by decide)
def zQ:=au (β:=β) func17 (by decide)
def xD:=au (β:=β) func18 (by decide)
def zP:=au (β:=β) func19 (by decide)
def zO:=au (β:=β) func20 (by decide)
def zN:=au (β:=β) func21 (by decide)
def zM:=au (β:=β) func22 (by decide)
def xC:=au (β:=β) func23 (by decide)
def zL:=au (β:=β) func24 (by decide)
def xB:=au (β:=β) func25 (by decide)
def vW:=au (β:=β) func26 (by decide)
def xA:=au (β:=β) func27 (by decide)
def qF31:=au (β:=β) func31 (by decide)
def qF32:=au (β:=β) func32 (by decide)
def xz:=au (β:=β) func33 (by decide)
def xy:=au (β:=β) func34 (by decide)
def xw:=au (β:=β) func35 (by decide)
def zK:=au (β:=β) func36 (by decide)
def zJ:=au (β:=β) func37 (by decide)
def zI:=au (β:=β) func38 (by decide)
def xv:=au (β:=β) func39 (by decide)
def zH:=au (β:=β) func40 (by decide)
def zG:=au (β:=β) func41 (by decide)
def zF:=au (β:=β) func42 (by decide)
def zE:=au (β:=β) func43 (by decide)
def zD:=au (β:=β) func44 (by decide)
def zC:=au (β:=β) func45 (by decide)
def zB:=au (β:=β) func46 (by decide)
def xu:=au (β:=β) func47 (by decide)
def zA:=au (β:=β) func48 (by decide)
def zy:=au (β:=β) func49 (by decide)
def xt:=au (β:=β) func50 (by decide)
def zw:=au (β:=β) func51 (by decide)
def zv:=au (β:=β) func52 (by decide)
def xr:=au (β:=β) func53 (by decide)
def xq:=au (β:=β) func54 (by decide)
def xp:=au (β:=β) func55 (by decide)
def qF62:=au (β:=β) func62 (by decide)
def qF63:=au (β:=β) func63 (by decide)
def xo:=au (β:=β) func64 (by decide)
def xm:=au (β:=β) func65 (by decide)
def zu:=au (β:=β) func66 (by decide)
def xl:=au (β:=β) func67 (by decide)
def zt:=au (β:=β) func68 (by decide)
def zp:=au (β:=β) func69 (by decide)
def zo:=au (β:=β) func70 (by decide)
def zn:=au (β:=β) func71 (by decide)
def zm:=au (β:=β) func72 (by decide)
def zl:=au (β:=β) func73 (by decide)
def zk:=au (β:=β) func74 (by decide)
def zj:=au (β:=β) func75 (by decide)
def xk:=au (β:=β) func76 (by decide)
def zh:=au (β:=β) func77 (by decide)
def wH:=au (β:=β) func78 (by decide)
def wG:=au (β:=β) func79 (by decide)
def wF:=au (β:=β) func80 (by decide)
def zg:=au (β:=β) func87 (by decide)
def qF91:=au (β:=β) func91 (by decide)
def qF92:=au (β:=β) func92 (by decide)
def qF93:=au (β:=β) func93 (by decide)
def qF94:=au (β:=β) func94 (by decide)
def qF95:=au (β:=β) func95 (by decide)
def qF96:=au (β:=β) func96 (by decide)
def qF97:=au (β:=β) func97 (by decide)
def qF98:=au (β:=β) func98 (by decide)
def qF99:=au (β:=β) func99 (by decide)
def qF100:=au (β:=β) func100 (by decide)
def qF101:=au (β:=β) func101 (by decide)
def wY:=au (β:=β) func102 (by decide)
def wX:=au (β:=β) func103 (by decide)
def yX:=au (β:=β) func104 (by decide)
def yW:=au (β:=β) func105 (by decide)
def yV:=au (β:=β) func106 (by decide)
def yU:=au (β:=β) func107 (by decide)
def yT:=au (β:=β) func108 (by decide)
def yS:=au (β:=β) func109 (by decide)
def yR:=au (β:=β) func110 (by decide)
def yQ:=au (β:=β) func111 (by decide)
def yP:=au (β:=β) func113 (by decide)
def yO:=au (β:=β) func114 (by decide)
def yN:=au (β:=β) func115 (by decide)
def wW:=au (β:=β) func116 (by decide)
def wV:=au (β:=β) func117 (by decide)
def vI:=au (β:=β) func123 (by decide)
def wU:=au (β:=β) func124 (by decide)
def wT:=au (β:=β) func128 (by decide)
def qF129:=au (β:=β) func129 (by decide)
def qF130:=au (β:=β) func130 (by decide)
def qF131:=au (β:=β) func131 (by decide)
def qF132:=au (β:=β) func132 (by decide)
def qF133:=au (β:=β) func133 (by decide)
def qF134:=au (β:=β) func134 (by decide)
def wS:=au (β:=β) func135 (by decide)
def wm:=au (β:=β) func136 (by decide)
def yM:=au (β:=β) func137 (by decide)
def yL:=au (β:=β) func138 (by decide)
def yK:=au (β:=β) func139 (by decide)
def yJ:=au (β:=β) func140 (by decide)
def yI:=au (β:=β) func141 (by decide)
def yH:=au (β:=β) func142 (by decide)
def yG:=au (β:=β) func143 (by decide)
def yF:=au (β:=β) func144 (by decide)
def yE:=au (β:=β) func145 (by decide)
def yD:=au (β:=β) func149 (by decide)
def wl:=au (β:=β) func151 (by decide)
def wR:=au (β:=β) func152 (by decide)
def yC:=au (β:=β) func153 (by decide)
def yB:=au (β:=β) func154 (by decide)
def yA:=au (β:=β) func155 (by decide)
def yz:=au (β:=β) func156 (by decide)
def wQ:=au (β:=β) func157 (by decide)
def yy:=au (β:=β) func158 (by decide)
def wj:=au (β:=β) func159 (by decide)
def wh:=au (β:=β) func160 (by decide)
def yx:=au (β:=β) func166 (by decide)
def we:=au (β:=β) func167 (by decide)
def yw:=au (β:=β) func168 (by decide)
def qF169:=au (β:=β) func169 (by decide)
def yv:=au (β:=β) func170 (by decide)
def yu:=au (β:=β) func171 (by decide)
def wO:=au (β:=β) func172 (by decide)
def wd:=au (β:=β) func173 (by decide)
def yr:=au (β:=β) func174 (by decide)
def yq:=au (β:=β) func175 (by decide)
def yp:=au (β:=β) func189 (by decide)
def yo:=au (β:=β) func195 (by decide)
def yn:=au (β:=β) func196 (by decide)
def ym:=au (β:=β) func198 (by decide)
def yl:=au (β:=β) func199 (by decide)
def yk:=au (β:=β) func200 (by decide)
def vN:=au (β:=β) func201 (by decide)
def yj:=au (β:=β) func202 (by decide)
def vZ:=au (β:=β) func203 (by decide)
def vH:=au (β:=β) func204 (by decide)
def yi:=au (β:=β) func205 (by decide)
def yh:=au (β:=β) func206 (by decide)
def vY:=au (β:=β) func210 (by decide)
def yg:=au (β:=β) func211 (by decide)
def yf:=au (β:=β) func216 (by decide)
def vX:=au (β:=β) func217 (by decide)
def ye:=au (β:=β) func220 (by decide)
def wN:=au (β:=β) func221 (by decide)
def yd:=au (β:=β) func222 (by decide)
def wM:=au (β:=β) func223 (by decide)
def yc:=au (β:=β) func224 (by decide)
def yb:=au (β:=β) func228 (by decide)
def ya:=au (β:=β) func229 (by decide)
def xZ:=au (β:=β) func231 (by decide)
def xY:=au (β:=β) func232 (by decide)
def xX:=au (β:=β) func238 (by decide)
def xW:=au (β:=β) func239 (by decide)
def xV:=au (β:=β) func246 (by decide)
@[go_sem] def qC5:=aA (β:=β) func5 (by decide) rfl
@[go_sem] def qC6:=aA (β:=β) func6 (by decide) rfl
@[go_sem] def qC7:=aA (β:=β) func7 (by decide) rfl
@[go_sem] def qC8:=aA (β:=β) func8 (by decide) rfl
@[go_sem] def qC9:=aA (β:=β) func9 (by decide) rfl
@[go_sem] def qC11:=aA (β:=β) func11 (by decide) rfl
@[go_sem] def qC12:=aA (β:=β) func12 (by decide) rfl
@[go_sem] def qC13:=aA (β:=β) func13 (by decide) rfl
@[go_sem] def qC14:=aA (β:=β) func14 (by decide) rfl
@[go_sem] def qC15:=aA (β:=β) func15 (by decide) rfl
@[go_sem] def qC16:=aA (β:=β) func16 (by decide) rfl
@[go_sem] def qC17:=aA (β:=β) func17 (by decide) rfl
@[go_sem] def qC18:=aA (β:=β) func18 (by decide) rfl
@[go_sem] def qC19:=aA (β:=β) func19 (by decide) rfl
@[go_sem] def qC20:=aA (β:=β) func20 (by decide) rfl
@[go_sem] def qC21:=aA (β:=β) func21 (by decide) rfl
@[go_sem] def qC22:=aA (β:=β) func22 (by decide) rfl
@[go_sem] def qC24:=aA (β:=β) func24 (by decide) rfl
@[go_sem] def qC25:=aA (β:=β) func25 (by decide) rfl
@[go_sem] def qC26:=aA (β:=β) func26 (by decide) rfl
@[go_sem] def qC27:=aA (β:=β) func27 (by decide) rfl
@[go_sem] def qC31:=aA (β:=β) func31 (by decide) rfl
@[go_sem] def qC32:=aA (β:=β) func32 (by decide) rfl
@[go_sem] def qC33:=aA (β:=β) func33 (by decide) rfl
@[go_sem] def qC34:=aA (β:=β) func34 (by decide) rfl
@[go_sem] def qC35:=aA (β:=β) func35 (by decide) rfl
@[go_sem] def qC36:=aA (β:=β) func36 (by decide) rfl
@[go_sem] def qC37:=aA (β:=β) func37 (by decide) rfl
@[go_sem] def qC38:=aA (β:=β) func38 (by decide) rfl
@[go_sem] def qC39:=aA (β:=β) func39 (by decide) rfl
@[go_sem] def qC40:=aA (β:=β) func40 (by decide) rfl
@[go_sem] def qC41:=aA (β:=β) func41 (by decide) rfl
@[go_sem] def qC42:=aA (β:=β) func42 (by decide) rfl
@[go_sem] def qC43:=aA (β:=β) func43 (by decide) rfl
@[go_sem] def qC44:=aA (β:=β) func44 (by decide) rfl
@[go_sem] def qC45:=aA (β:=β) func45 (by decide) rfl
@[go_sem] def qC46:=aA (β:=β) func46 (by decide) rfl
@[go_sem] def qC47:=aA (β:=β) func47 (by decide) rfl
@[go_sem] def qC48:=aA (β:=β) func48 (by decide) rfl
@[go_sem] def qC49:=aA (β:=β) func49 (by decide) rfl
@[go_sem] def qC50:=aA (β:=β) func50 (by decide) rfl
@[go_sem] def qC51:=aA (β:=β) func51 (by decide) rfl
@[go_sem] def qC52:=aA (β:=β) func52 (by decide) rfl
@[go_sem] def qC53:=aA (β:=β) func53 (by decide) rfl
@[go_sem] def qC54:=aA (β:=β) func54 (by decide) rfl
@[go_sem] def qC55:=aA (β:=β) func55 (by decide) rfl
@[go_sem] def qC64:=aA (β:=β) func64 (by decide) rfl
@[go_sem] def qC65:=aA (β:=β) func65 (by decide) rfl
@[go_sem] def qC66:=aA (β:=β) func66 (by decide) rfl
@[go_sem] def qC67:=aA (β:=β) func67 (by decide) rfl
@[go_sem] def qC68:=aA (β:=β) func68 (by decide) rfl
@[go_sem] def qC69:=aA (β:=β) func69 (by decide) rfl
@[go_sem] def qC70:=aA (β:=β) func70 (by decide) rfl
@[go_sem] def qC71:=aA (β:=β) func71 (by decide) rfl
@[go_sem] def qC72:=aA (β:=β) func72 (by decide) rfl
@[go_sem] def qC73:=aA (β:=β) func73 (by decide) rfl
@[go_sem] def qC74:=aA (β:=β) func74 (by decide) rfl
@[go_sem] def qC75:=aA (β:=β) func75 (by decide) rfl
@[go_sem] def qC76:=aA (β:=β) func76 (by decide) rfl
@[go_sem] def qC77:=aA (β:=β) func77 (by decide) rfl
@[go_sem] def qC78:=aA (β:=β) func78 (by decide) rfl
@[go_sem] def qC79:=aA (β:=β) func79 (by decide) rfl
@[go_sem] def qC80:=aA (β:=β) func80 (by decide) rfl
@[go_sem] def qC87:=aA (β:=β) func87 (by decide) rfl
@[go_sem] def Bv:=aA (β:=β) func102 (by decide) rfl
@[go_sem] def Bu:=aA (β:=β) func103 (by decide) rfl
@[go_sem] def Bt:=aA (β:=β) func104 (by decide) rfl
@[go_sem] def Bq:=aA (β:=β) func105 (by decide) rfl
@[go_sem] def Bp:=aA (β:=β) func106 (by decide) rfl
@[go_sem] def Bo:=aA (β:=β) func107 (by decide) rfl
@[go_sem] def Bj:=aA (β:=β) func108 (by decide) rfl
@[go_sem] def Bi:=aA (β:=β) func109 (by decide) rfl
@[go_sem] def Bh:=aA (β:=β) func110 (by decide) rfl
@[go_sem] def Bg:=aA (β:=β) func111 (by decide) rfl
@[go_sem] def Bf:=aA (β:=β) func113 (by decide) rfl
@[go_sem] def Be:=aA (β:=β) func114 (by decide) rfl
@[go_sem] def Bd:=aA (β:=β) func115 (by decide) rfl
@[go_sem] def Bc:=aA (β:=β) func116 (by decide) rfl
@[go_sem] def Bb:=aA (β:=β) func117 (by decide) rfl
@[go_sem] def Ba:=aA (β:=β) func123 (by decide) rfl
@[go_sem] def B9:=aA (β:=β) func124 (by decide) rfl
@[go_sem] def B8:=aA (β:=β) func128 (by decide) rfl
@[go_sem] def B7:=aA (β:=β) func135 (by decide) rfl
@[go_sem] def B6:=aA (β:=β) func136 (by decide) rfl
@[go_sem] def B5:=aA (β:=β) func137 (by decide) rfl
@[go_sem] def B4:=aA (β:=β) func138 (by decide) rfl
@[go_sem] def B3:=aA (β:=β) func139 (by decide) rfl
@[go_sem] def AZ:=aA (β:=β) func140 (by decide) rfl
@[go_sem] def AY:=aA (β:=β) func141 (by decide) rfl
@[go_sem] def AX:=aA (β:=β) func142 (by decide) rfl
@[go_sem] def AW:=aA (β:=β) func143 (by decide) rfl
@[go_sem] def AV:=aA (β:=β) func144 (by decide) rfl
@[go_sem] def AU:=aA (β:=β) func145 (by decide) rfl
@[go_sem] def AT:=aA (β:=β) func149 (by decide) rfl
@[go_sem] def AS:=aA (β:=β) func151 (by decide) rfl
@[go_sem] def AQ:=aA (β:=β) func152 (by decide) rfl
@[go_sem] def AP:=aA (β:=β) func153 (by decide) rfl
@[go_sem] def AO:=aA (β:=β) func154 (by decide) rfl
@[go_sem] def AN:=aA (β:=β) func155 (by decide) rfl
@[go_sem] def AM:=aA (β:=β) func156 (by decide) rfl
@[go_sem] def AK:=aA (β:=β) func157 (by decide) rfl
@[go_sem] def AJ:=aA (β:=β) func158 (by decide) rfl
@[go_sem] def AI:=aA (β:=β) func159 (by decide) rfl
@[go_sem] def AH:=aA (β:=β) func160 (by decide) rfl
@[go_sem] def AG:=aA (β:=β) func166 (by decide) rfl
@[go_sem] def AF:=aA (β:=β) func167 (by decide) rfl
@[go_sem] def AE:=aA (β:=β) func168 (by decide) rfl
@[go_sem] def AD:=aA (β:=β) func170 (by decide) rfl
@[go_sem] def AC:=aA (β:=β) func171 (by decide) rfl
@[go_sem] def AB:=aA (β:=β) func172 (by decide) rfl
@[go_sem] def AA:=aA (β:=β) func173 (by decide) rfl
@[go_sem] def Az:=aA (β:=β) func174 (by decide) rfl
@[go_sem] def Ay:=aA (β:=β) func175 (by decide) rfl
@[go_sem] def Aw:=aA (β:=β) func189 (by decide) rfl
@[go_sem] def Av:=aA (β:=β) func195 (by decide) rfl
@[go_sem] def Au:=aA (β:=β) func196 (by decide) rfl
@[go_sem] def As:=aA (β:=β) func198 (by decide) rfl
@[go_sem] def Ar:=aA (β:=β) func199 (by decide) rfl
@[go_sem] def Aq:=aA (β:=β) func200 (by decide) rfl
@[go_sem] def Ap:=aA (β:=β) func201 (by decide) rfl
@[go_sem] def An:=aA (β:=β) func202 (by decide) rfl
@[go_sem] def Am:=aA (β:=β) func203 (by decide) rfl
@[go_sem] def Al:=aA (β:=β) func204 (by decide) rfl
@[go_sem] def Ak:=aA (β:=β) func205 (by decide) rfl
@[go_sem] def Aj:=aA (β:=β) func206 (by decide) rfl
@[go_sem] def Ah:=aA (β:=β) func210 (by decide) rfl
@[go_sem] def Ag:=aA (β:=β) func211 (by decide) rfl
@[go_sem] def Af:=aA (β:=β) func216 (by decide) rfl
@[go_sem] def Ad:=aA (β:=β) func217 (by decide) rfl
@[go_sem] def Ac:=aA (β:=β) func220 (by decide) rfl
@[go_sem] def Ab:=aA (β:=β) func222 (by decide) rfl
@[go_sem] def A9:=aA (β:=β) func223 (by decide) rfl
@[go_sem] def A0:=aA (β:=β) func224 (by decide) rfl
@[go_sem] def zZ:=aA (β:=β) func228 (by decide) rfl
@[go_sem] def zY:=aA (β:=β) func229 (by decide) rfl
@[go_sem] def zX:=aA (β:=β) func232 (by decide) rfl
@[go_sem] def zW:=aA (β:=β) func238 (by decide) rfl
@[go_sem] def zV:=aA (β:=β) func239 (by decide) rfl
def qU0:=(bc (β:=β) 0).trans underlying0
def qU3:=(bc (β:=β) 3).trans underlying3
def qU4:=(bc (β:=β) 4).trans underlying4
def qU5:=(bc (β:=β) 5).trans underlying5
def qU9:=(bc (β:=β) 9).trans underlying9
def vO:=(bc (β:=β) 27).trans underlying27
def zf:=(bc (β:=β) 32).trans underlying32
def ze:=(bc (β:=β) 33).trans underlying33
def zd:=(bc (β:=β) 34).trans underlying34
def wD:=(bc (β:=β) 42).trans underlying42
def zb:=(bc (β:=β) 46).trans underlying46
def yZ:=(bc (β:=β) 54).trans underlying54
def xj:=(bc (β:=β) 56).trans underlying56
def xi:=(bc (β:=β) 61).trans underlying61
def xh:=(bc (β:=β) 83).trans underlying83
def xU:=(bc (β:=β) 106).trans underlying106
def xT:=(bc (β:=β) 111).trans underlying111
def xS:=(bc (β:=β) 146).trans underlying146
def xR:=(bc (β:=β) 147).trans underlying147
def xQ:=(bc (β:=β) 152).trans underlying152
def xP:=(bc (β:=β) 155).trans underlying155
def xO:=(bc (β:=β) 157).trans underlying157
def xN:=(bc (β:=β) 163).trans underlying163
def xM:=(bc (β:=β) 175).trans underlying175
def xL:=(bc (β:=β) 187).trans underlying187
def xK:=(bc (β:=β) 191).trans underlying191
def xJ:=(bc (β:=β) 205).trans underlying205
def xI:=(bc (β:=β) 231).trans underlying231
def xH:=(bc (β:=β) 255).trans underlying255
def xG:=(bc (β:=β) 283).trans underlying283
end
section
open Go.RowKit Go.ChangeShapes Go.WideShapes Go.ChangeAt
section
variable {H:Type} {enc:TypeId×Value->H} {P:Program}
def aai(i:laidOutB P=true){W l:World}{e:Nat->Bool}:∀{g:List TypeId} {j:List Value} {k:List (DataW H)} {f:List MemPlace},
  (∀t∈g,P.readableRec t=true/\t<P.types.size)->DataW.TrodAll enc P W 0 (λ_=>true) true g j k f->(∀p∈f,W.sameAt l p)->(∀p∈f,e p.block=true)->
  DataW.TrodAll enc P l 0 e true g j k f
 |[],_,_,_,_,h,_,_=>by
  obtain⟨rfl,rfl,rfl⟩:=trodAll_nil h;exact trodAll_mk0
 |t::g,_,_,_,hr,h,hs,hsp=>by
  obtain⟨v,q,d,m,a,b,rfl,rfl,rfl,u,n⟩:=trodAll_cons h;obtain⟨o,s⟩:=hr t (by simp);refine trodAll_cons_mk (WideElems.Trod_stays i o s u (λp c=>hs p (by simp[c])) (λp c=>hsp p (by simp[c]))) ?_;exact aai i (λt r=>hr t (by simp[r])) n (λp c=>hs p (by simp[c])) (λp c=>hsp p (by simp[c]))
def ac1{w:World}{base:Nat}{c:Nat->Bool}{e:Bool}:∀{f:List TypeId} {m:List Value} {g:List (DataW H)} {l:List MemPlace},DataW.TrodAll enc P w base c e f m g l->g.length=f.length
 |[],_,_,_,h=>by
  obtain⟨_,rfl,_⟩:=trodAll_nil h;rfl
 |t::f,_,_,_,h=>by
  obtain⟨v,k,d,i,a,b,rfl,rfl,rfl,n,j⟩:=trodAll_cons h;rw[mp,mp,ac1 j]
end
def own:ownKnob prog.godebug=none:=by kernel_rfl
def xe:laidOutB prog=true:=by kernel_rfl
def vJ{x:Int}(h:(Lit.int .i64 x).wf=true):dJ x:=by
 simp[Lit.wf,IntKind.min,IntKind.max,IntKind.signed,IntKind.bits] at h;exact⟨by omega,by omega⟩
section
variable {H:Type} {enc:TypeId×Value->H} {P:Program}
end
end
section
open Go.RowKit Go.ChangeShapes Go.WideShapes Go.ChangeAt Go.Deep
section
variable {H:Type} {enc:TypeId×Value->H} {P:Program} {w:World}
def R2{α β:Type}(A:fq α)(n:Nat)(B:fq β):fq (α×β):=λw b c x e=>∃a d:List Value,e=a++d/\a.length=n/\A w b c x.1 a/\B w b c x.2 d
def R3{α β γ:Type}(A:fq α)(n:Nat)(B:fq β)(m:Nat)(C:fq γ):fq (α×β×γ):=λw b c x f=>∃a d e:List Value,f=a++(d++e)/\a.length=n/\d.length=m/\A w b c x.1 a/\B w b c x.2.1 d/\C w b c x.2.2 e
end
end
section
def opJ(J:Nat->Bool):Operand->Bool
 |.tmp t=>!J t
 |_=>true
def jg:Op->Bool
 |.move _|.assign _|.load .. | .binOp .. | .unOp .. | .alloc _|.store .. | .fieldAddr .. | .indexAddr .. | .buildSlice .. =>true
 |.call c=>match c.callee with
  |.builtin .len|.builtin .append=>true
  |_=>false
 |_=>false
def am1(J:Nat->Bool)(o:Oper):Bool:=o.guard.isNone&&(jg o.op&&o.op.operands.toList.all (opJ J))
def jF(J:Nat->Bool):Code->Bool
 |.skip|.ret|.exit _=>true
 |.region _ d draw=>!draw&&d.toList.all (am1 J)
 |.seq a b=>jF J a&&jF J b
 |.cond c a b=>opJ J c&&(jF J a&&jF J b)
 |.block _ a|.loop a=>jF J a
 |_=>false
def kT(J:Nat->Bool):Item->Bool
 |.code c|.inLoop c=>jF J c
 |.inBlock _=>true
 |.inRegion a _=>a.toList.all (am1 J)
 |_=>false
structure JR (J:Nat->Bool) (fr cj:Frame):Prop where
 fn:cj.fn=fr.fn
 todo:cj.todo=fr.todo
 defers:fr.defers=[]/\cj.defers=[]
 mode:cj.mode=fr.mode
 kind:fr.kind=.normal/\cj.kind=.normal
 round:fr.roundOf=none/\cj.roundOf=none
 size:cj.tmps.size=fr.tmps.size
 agree:∀i,J i=false->cj.tmps[i]?=fr.tmps[i]?
 items:fr.todo.all (kT J)=true
section
variable {P:Program} {J:Nat->Bool} {fr cj:Frame}
def JR.eval(h:JR J fr cj){x:Operand}(a:opJ J x=true):cj.eval x=fr.eval x:=by
 cases x with
 |tmp t=>
  have:=h.agree t (by simpa[opJ] using a);show cj.tmps.getD t undef=fr.tmps.getD t undef;rw[gc,gc,this]
 |_=>rfl
def akG(j:jg o.op=true)(h:∀x∈o.op.operands.toList,e x=e' x):execOp e o=execOp e' o:=by
 obtain⟨dst,op,m,q,after,l⟩:=o;dsimp only at j h;have parts:∀(g:Array (Nat×Operand)),(∀x∈(g.toList.map (·.2)),e x=e' x)->(g.map λ(i,x)=>(i,e x))=g.map λ(i,x)=>(i,e' x):=λg p=>by
  apply vA;rintro⟨i,x⟩ k;have:=p x (lP.2 ⟨(i,x),by simpa using k,rfl⟩);simp only[this]
 cases op with
 |move x=>simp only[execOp];rw[h x (by simp[Op.operands])]
 |assign x=>simp only[execOp];rw[h x (by simp[Op.operands])]
 |load t a=>simp only[execOp];rw[h a (by simp[Op.operands])]
 |unOp op t x=>simp only[execOp];rw[h x (by simp[Op.operands])]
 |alloc t=>rfl
 |fieldAddr t x f=>simp only[execOp];rw[h x (by simp[Op.operands])]
 |store t a x=>simp only[execOp];rw[h a (by simp[Op.operands]),h x (by simp[Op.operands])]
 |binOp op t x y u=>simp only[execOp];rw[h x (by simp[Op.operands]),h y (by simp[Op.operands])]
 |indexAddr t x i=>simp only[execOp];rw[h x (by simp[Op.operands]),h i (by simp[Op.operands])]
 |buildSlice t n g=>simp only[execOp];rw[parts g (by simpa[Op.operands] using h)]
 |call c=>
  obtain⟨d,args,s⟩:=c;cases d with
  |builtin b=>
   have r:args.map e=args.map e':=vA λx k=>h x (by simp[Op.operands,Call.operands];exact k);simp only[execOp,resolve,r]
  |_=>simp[jg] at j
 |_=>simp[jg] at j
def fu{s:Sem Value}{c:Next}(h:(s.bind λa=>Sem.pure (Next.value a)).run P w=.ok c Q):∃v,c=.value v:=by
 have e:=qm P s (λa=>Sem.pure (Next.value a)) w;rw[e] at h;cases b:s.run P w with
 |ok a d=>rw[b] at h;simp only[Result.andThen,Sem.run,rO] at h;exact⟨a,h.1.symm⟩
 |halt q d=>rw[b] at h;simp only[Result.andThen] at h;cases h
def aon{s:Sem Unit}{c:Next}(h:(s.bind λ_=>Sem.pure Next.skip).run P w=.ok c Q):c=.skip:=by
 have e:=qm P s (λ_=>Sem.pure Next.skip) w;rw[e] at h;cases b:s.run P w with
 |ok a d=>rw[b] at h;simp only[Result.andThen,Sem.run,rO] at h;exact h.1.symm
 |halt q d=>rw[b] at h;simp only[Result.andThen] at h;cases h
def aiC(g:jg o.op=true){k:Next}(h:(execOp e o).run P w=.ok k Q):(∃v,k=.value v)\/k=.skip:=by
 obtain⟨dst,op,l,m,after,j⟩:=o;dsimp only at g;cases op with
 |move x=>simp only[execOp] at h;cases h;exact .inl ⟨_,rfl⟩
 |assign x=>simp only[execOp] at h;cases h;exact .inl ⟨_,rfl⟩
 |load t a=>exact .inl (fu h)
 |unOp op t x=>exact .inl (fu h)
 |alloc t=>exact .inl (fu h)
 |fieldAddr t x f=>exact .inl (fu h)
 |store t a x=>exact .inr (aon h)
 |binOp op t x y r=>exact .inl (fu h)
 |indexAddr t x i=>exact .inl (fu h)
 |buildSlice t n p=>exact .inl (fu h)
 |call c=>
  obtain⟨d,args,q⟩:=c;cases d with
  |builtin b=>cases b<;>first|exact .inl (fu h)|simp[jg] at g
  |_=>simp[jg] at g
 |_=>simp[jg] at g
def JR.set(h:JR J fr cj)(d:Nat)(v:Value):(cj.tmps.setIfInBounds d v).size=(fr.tmps.setIfInBounds d v).size/\∀i,J i=false->(cj.tmps.setIfInBounds d v)[i]?=(fr.tmps.setIfInBounds d v)[i]?:=by
 refine⟨by simpa using h.size,λi a=> ?_⟩;rw[pe,pe,h.size];split
 .rfl
 .exact h.agree i a
def aaG:∀{k l:List Item} {id:Nat},exitTo id k=some l->k.all (kT J)=true->l.all (kT J)=true
 |[],_,_,h,_=>by cases h
 |x::k,l,id,h,hk=>by
  simp only[pQ,fb] at hk;unfold exitTo at h;split at h
  .rename_i a b e;cases e;split at h
   .cases h;exact hk.2
   .exact aaG h hk.2
  .rename_i e;cases e;exact aaG h hk.2
  .rename_i e;cases e
def akH{g:Nat}(h:early P fr cs none g w=.go g' Q O) :
  g'.frame.kind=.early\/(g'=⟨fr,cs,.running,none,none⟩/\∀(cj:Frame) (a:List Frame),cj.kind=fr.kind->early P cj a none g w=.go ⟨cj,a,.running,none,none⟩ Q O):=by
 have d:∀{w Q:World} {g':Goroutine} {O:Array Event},(match w.heap[g]? with
   |some (.pending c b)=>GStep.go ⟨fr,cs,.running,none,none⟩ {w with heap:=w.heap.setIfInBounds g (.cells c b)}
   |_=>.ended (.stuck "early: the variable does not wait" (fr.pos P)) w)=.go g' Q O->g'=⟨fr,cs,.running,none,none⟩/\∀(cj:Frame) (a:List Frame),(match w.heap[g]? with
   |some (.pending c b)=>GStep.go ⟨cj,a,.running,none,none⟩ {w with heap:=w.heap.setIfInBounds g (.cells c b)}
   |_=>.ended (.stuck "early: the variable does not wait" (cj.pos P)) w)=.go ⟨cj,a,.running,none,none⟩ Q O:=λ{w Q g' O} h=>by
  split at h
  .rename_i c b e;injection h with k j o
   subst k j o;exact⟨rfl,λcj a=>rfl⟩
  .cases h
 unfold early at h ⊢;dsimp only at h ⊢;by_cases k:(!P.follows .staticDataAhead)=true
 .simp only[k,mT] at h ⊢;exact .inr ⟨(d h).1,λcj a _=>(d h).2 cj a⟩
 .simp only[k,qc,fd] at h ⊢;cases j:P.stepOf g with
  |none=>simp only[j] at h;cases h
  |some f=>
   simp only[j] at h ⊢;by_cases o:((P.code? f).any P.atRunTime)=true
   .simp only[o,mT] at h ⊢;exact .inr ⟨(d h).1,λcj a _=>(d h).2 cj a⟩
   .simp only[o,qc,fd] at h ⊢;by_cases s:(((P.code? f).bind λc=>(readies c).getLast?).bind w.shape?).isSome=true
    .simp only[s,mT] at h ⊢;exact .inr ⟨(d h).1,λcj a _=>(d h).2 cj a⟩
    .simp only[s,qc,fd] at h ⊢;have r:∀cj:Frame,cj.kind=fr.kind->(cj.kind ==CallKind.early)=(fr.kind ==CallKind.early):=λcj e=>by rw[e]
     cases u:P.found w P.funcs.size f<;>cases p:(fr.kind ==CallKind.early)<;>simp only[u,p] at h
     .cases h
     .cases h
     .exact .inr ⟨(d h).1,λcj a e=>by rw[r cj e,p];exact(d h).2 cj a⟩
     .cases h
     .by_cases l:((P.code? f).any P.plainData)=true
      .simp only[l,mT] at h;injection h with i;subst i;exact .inl rfl
      .simp only[l,qc,fd] at h;by_cases m:(!(P.code? f).any P.bareCopy)=true
       .simp only[m,mT] at h;exact .inr ⟨(d h).1,λcj a e=>by rw[r cj e,p];simp only[l,m,qc,mT,fd];exact(d h).2 cj a⟩
       .simp only[m,qc,fd] at h;cases t:(choose (.early g)).run P w with
        |ok n v=>
         rw[t] at h;cases n with
         |zero=>exact .inr ⟨(d h).1,λcj a e=>by rw[r cj e,p];simp only[l,m,qc,fd];exact(d h).2 cj a⟩
         |succ n=>injection h with i;subst i;exact .inl rfl
        |halt q v=>rw[t] at h;cases h
     .injection h with i;subst i;exact .inl rfl
theorem aqm (h:JR J fr cj) (hm:fr.mode=.run) {cs Y:List Frame} {main:Bool} {w w1:World} {es:Array Event} {B:Frame}
  (D:stepG P main ⟨fr,cs,.running,none,none⟩ w=.go ⟨B,Y,.running,none,none⟩ w1 es) (K:B.mode=.run\/B.mode=.returning) (af:B.kind=.normal) :
  Y=cs/\B.fn=fr.fn/\∃I,JR J B I/\∀C,stepG P main ⟨cj,C,.running,none,none⟩ w=.go ⟨I,C,.running,none,none⟩ w1 es:=by
 have h0:=h;obtain⟨fn,n,ao,ds,md,kd,ro⟩:=fr;obtain⟨p,F,eU,ax,av,aD,ay⟩:=cj;obtain⟨E,e2,⟨e3,e4⟩,e5,⟨e6,e7⟩,⟨e8,e9⟩,hz,ha,hi⟩:=h;dsimp only at E e2 e3 e4 e5 e6 e7 e8 e9 hz ha hi hm;subst E e2 e3 e4 e5 e6 e7 e8 e9 hm;have G:∀{k:List Item},k.all (kT J)=true->JR J ⟨p,n,k,[],.run,.normal,none⟩ ⟨p,F,k,[],.run,.normal,none⟩:=λ{k} hk=>⟨rfl,rfl,⟨rfl,rfl⟩,rfl,⟨rfl,rfl⟩,⟨rfl,rfl⟩,hz,ha,hk⟩
 have ret:JR J ⟨p,n,eU,[],.returning,.normal,none⟩ ⟨p,F,eU,[],.returning,.normal,none⟩:=⟨rfl,rfl,⟨rfl,rfl⟩,rfl,⟨rfl,rfl⟩,⟨rfl,rfl⟩,hz,ha,hi⟩;have fin:∀{t:Array Value} {t':Array Value} {k:List Item},t'.size=t.size->(∀i,J i=false->t'[i]?=t[i]?)->k.all (kT J)=true->JR J ⟨p,t,k,[],.run,.normal,none⟩ ⟨p,t',k,[],.run,.normal,none⟩:=λa b hk=>⟨rfl,rfl,⟨rfl,rfl⟩,rfl,⟨rfl,rfl⟩,⟨rfl,rfl⟩,a,b,hk⟩;have still:∀{x x':Frame},stepG P main ⟨⟨p,n,eU,[],.run,.normal,none⟩,cs,.running,none,none⟩ w=.go ⟨x,cs,.running,none,none⟩ w->
   (∀C,stepG P main ⟨⟨p,F,eU,[],.run,.normal,none⟩,C,.running,none,none⟩ w=.go ⟨x',C,.running,none,none⟩ w)->JR J x x'->(U:x.fn=p:=by rfl)->
   Y=cs/\B.fn=p/\∃I,JR J B I/\∀C,stepG P main ⟨⟨p,F,eU,[],.run,.normal,none⟩,C,.running,none,none⟩ w=.go ⟨I,C,.running,none,none⟩ w1 es:=λ{x x'} a b c U=>by
  rw[a] at D;injection D with X V g3
  injection X with Q Z
  subst V g3 Q Z;exact⟨rfl,U,x',c,b⟩
 cases eU with
 |nil=>exact still rfl (λ_=>rfl) ret
 |cons it k=>
  simp only[pQ,fb] at hi;obtain⟨A,H⟩:=hi;cases it with
  |inBlock id=>exact still rfl (λ_=>rfl) (G H)
  |inLoop c=>exact still rfl (λ_=>rfl) (G (by simp only[pQ,fb];exact⟨A,A,H⟩))
  |code c=>
   cases c with
   |skip=>exact still rfl (λ_=>rfl) (G H)
   |ret=>exact still rfl (λ_=>rfl) ret
   |seq a b=>
    simp only[kT,jF,fb] at A;exact still rfl (λ_=>rfl) (G (by simp only[pQ,fb];exact⟨A.1,A.2,H⟩))
   |block id a=>exact still rfl (λ_=>rfl) (G (by simp only[pQ,fb];exact⟨A,rfl,H⟩))
   |loop a=>exact still rfl (λ_=>rfl) (G (by simp only[pQ,fb];exact⟨A,A,H⟩))
   |region id j draw=>
    simp only[kT,jF,fb,tL] at A;obtain⟨rfl,S⟩:=A;exact still rfl (λ_=>rfl) (G (by simp only[pQ,fb];exact⟨S,H⟩))
   |exit id=>
    cases s:exitTo id k with
    |none=>exact absurd D (by
      have:stepG P main ⟨⟨p,n,.code (.exit id)::k,[],.run,.normal,none⟩,cs,.running,none,none⟩ w=.ended (.stuck "exit, goto: no such block or label" (Frame.pos P ⟨p,n,.code (.exit id)::k,[],.run,.normal,none⟩)) w:=by
       simp[stepG,stepG.exec,s]
      rw[this];intro e;cases e)
    |some l=>
     have E:∀(t:Array Value) (c:List Frame),stepG P main ⟨⟨p,t,.code (.exit id)::k,[],.run,.normal,none⟩,c,.running,none,none⟩ w=.go ⟨⟨p,t,l,[],.run,.normal,none⟩,c,.running,none,none⟩ w:=λt c=>by
      simp[stepG,stepG.exec,s]
     exact still (E _ _) (λ_=>E _ _) (G (aaG s H))
   |cond c a b=>
    simp only[kT,jF,fb] at A;have U:=h0.eval A.1;cases hv:Frame.eval ⟨p,n,.code (.cond c a b)::k,[],.run,.normal,none⟩ c with
    |bool q=>
     rw[hv] at U;have E:∀(t:Array Value) (cc:List Frame),Frame.eval ⟨p,t,.code (.cond c a b)::k,[],.run,.normal,none⟩ c=.bool q->stepG P main ⟨⟨p,t,.code (.cond c a b)::k,[],.run,.normal,none⟩,cc,.running,none,none⟩ w=.go ⟨⟨p,t,.code (if q then a else b)::k,[],.run,.normal,none⟩,cc,.running,none,none⟩ w:=λt cc ht=>by
      simp[stepG,stepG.exec,ht]
     exact still (E _ _ hv) (λ_=>E _ _ U) (G (by simp only[pQ,fb];cases q<;>first|exact⟨A.2.1,H⟩|exact⟨A.2.2,H⟩))
    |_=>
     exfalso;have:∃o,stepG P main ⟨⟨p,n,.code (.cond c a b)::k,[],.run,.normal,none⟩,cs,.running,none,none⟩ w=.ended o w:=by
      simp[stepG,stepG.exec,hv]
     obtain⟨o,e⟩:=this;rw[e] at D;cases D
   |_=>cases A
  |inRegion j il=>
   cases il with
   |nil=>exact still rfl (λ_=>rfl) (G H)
   |cons i f=>
    have T:∀l,(Item.inRegion j l::k).all (kT J)=true:=λl=>by simp only[pQ,fb];exact⟨A,H⟩
    cases ho:j[i]? with
    |none=>
     have E:∀(t:Array Value) (c:List Frame),stepG P main ⟨⟨p,t,.inRegion j (i::f)::k,[],.run,.normal,none⟩,c,.running,none,none⟩ w=.go ⟨⟨p,t,.inRegion j f::k,[],.run,.normal,none⟩,c,.running,none,none⟩ w:=λt c=>by
      simp[stepG,stepG.exec,ho,Frame.finish]
     exact still (E _ _) (λ_=>E _ _) (G (T _))
    |some o=>
     have a0:am1 J o=true:=jp.1 A o (rx.2 (pX ho));simp only[am1,fb] at a0;obtain⟨hg,a4,S⟩:=a0;have kU:o.guard=none:=by simpa using hg
     have hw:∀y,Region.wanted o y=true:=λy=>by unfold Region.wanted;rw[kU]
     have al:execOp (Frame.eval ⟨p,F,.inRegion j (i::f)::k,[],.run,.normal,none⟩) o=execOp (Frame.eval ⟨p,n,.inRegion j (i::f)::k,[],.run,.normal,none⟩) o:=
      akG a4 λx s=>h0.eval (jp.1 S x s)
     have E:∀(t:Array Value) (c:List Frame),stepG P main ⟨⟨p,t,.inRegion j (i::f)::k,[],.run,.normal,none⟩,c,.running,none,none⟩ w =
       stepG.apply P true ⟨p,t,.inRegion j (i::f)::k,[],.run,.normal,none⟩ c none (execOp (Frame.eval ⟨p,t,.inRegion j (i::f)::k,[],.run,.normal,none⟩) o) w:=λt c=>by
      simp[stepG,stepG.exec,stepG.oper,Frame.oper?,ho,hw]
     rw[E] at D;cases hr:(execOp (Frame.eval ⟨p,n,.inRegion j (i::f)::k,[],.run,.normal,none⟩) o).runT P w #[] with
     |mk r a2=>
      have a3:(execOp (Frame.eval ⟨p,n,.inRegion j (i::f)::k,[],.run,.normal,none⟩) o).run P w=r:=by rw[<-qE _ _ _ #[],hr]
      have a5:∀(v:Value),(Frame.finish ⟨p,n,.inRegion j (i::f)::k,[],.run,.normal,none⟩ v).fn=p:=λv=>by
       simp only[Frame.finish,ho,qd]
      have a8:∀(v:Value),JR J (Frame.finish ⟨p,n,.inRegion j (i::f)::k,[],.run,.normal,none⟩ v) (Frame.finish ⟨p,F,.inRegion j (i::f)::k,[],.run,.normal,none⟩ v):=λv=>by
       simp only[Frame.finish,ho,qd];cases o.dst with
       |none=>exact G (T _)
       |some d=>exact fin (h0.set d v).1 (h0.set d v).2 (T _)
      have e2:∀c,stepG.apply P true ⟨p,F,.inRegion j (i::f)::k,[],.run,.normal,none⟩ c none (execOp (Frame.eval ⟨p,F,.inRegion j (i::f)::k,[],.run,.normal,none⟩) o) w =
        stepG.apply P true ⟨p,F,.inRegion j (i::f)::k,[],.run,.normal,none⟩ c none (execOp (Frame.eval ⟨p,n,.inRegion j (i::f)::k,[],.run,.normal,none⟩) o) w:=λc=>by rw[al]
      cases r with
      |ok nx w2=>
       have a6:(CallKind.normal ==CallKind.early)=false:=rfl;rcases aiC a4 a3 with⟨v,rfl⟩|rfl
       .have a1:∀(t:Array Value) (c:List Frame),stepG.apply P true ⟨p,t,.inRegion j (i::f)::k,[],.run,.normal,none⟩ c none (execOp (Frame.eval ⟨p,n,.inRegion j (i::f)::k,[],.run,.normal,none⟩) o) w=.go ⟨Frame.finish ⟨p,t,.inRegion j (i::f)::k,[],.run,.normal,none⟩ v,c,.running,none,none⟩ w2 (seen P p a2):=λt c=>by
         unfold stepG.apply;simp only[hr,mT];simp[GStep.after,a6]
        rw[a1] at D;injection D with X V g3
        injection X with Q Z
        subst V g3 Q Z;exact⟨rfl,a5 v,_,a8 v,λc=>by rw[E,e2,a1]⟩
       .have a1:∀(t:Array Value) (c:List Frame),stepG.apply P true ⟨p,t,.inRegion j (i::f)::k,[],.run,.normal,none⟩ c none (execOp (Frame.eval ⟨p,n,.inRegion j (i::f)::k,[],.run,.normal,none⟩) o) w=.go ⟨Frame.finish ⟨p,t,.inRegion j (i::f)::k,[],.run,.normal,none⟩ undef,c,.running,none,none⟩ w2 (seen P p a2):=λt c=>by
         unfold stepG.apply;simp only[hr,mT];simp[GStep.after,a6]
        rw[a1] at D;injection D with X V g3
        injection X with Q Z
        subst V g3 Q Z;exact⟨rfl,a5 undef,_,a8 undef,λc=>by rw[E,e2,a1]⟩
      |halt q w2=>
       have hq:∀(t:Array Value) (c:List Frame),∃u,(q=.unsupported (.initOrder u)/\stepG.apply P true ⟨p,t,.inRegion j (i::f)::k,[],.run,.normal,none⟩ c none (execOp (Frame.eval ⟨p,n,.inRegion j (i::f)::k,[],.run,.normal,none⟩) o) w=GStep.after (seen P p #[]) (early P ⟨p,t,.inRegion j (i::f)::k,[],.run,.normal,none⟩ c none u w2))\/
         (∀(R:Goroutine) ww ee,stepG.apply P true ⟨p,t,.inRegion j (i::f)::k,[],.run,.normal,none⟩ c none (execOp (Frame.eval ⟨p,n,.inRegion j (i::f)::k,[],.run,.normal,none⟩) o) w=.go R ww ee->R.status=.running->R.dying=none->R.frame.mode ≠ .run/\R.frame.mode ≠ .returning):=λt c=>by
        have M:(CallKind.normal ==CallKind.early)=false:=rfl;by_cases a7:∃u,q=.unsupported (.initOrder u)
        .obtain⟨u,rfl⟩:=a7;refine⟨u,.inl ⟨rfl, ?_⟩⟩;unfold stepG.apply;simp only[hr,mT];simp[M]
        .refine⟨0,.inr λR ww ee s h1 h2=> ?_⟩;unfold stepG.apply at s;simp only[hr,mT] at s;cases q with
         |unsupported u=>
          cases u with
          |initOrder g=>exact absurd ⟨g,rfl⟩ a7
          |_=>simp[GStep.after] at s
         |panic v=>simp[GStep.after] at s;obtain⟨rfl, -⟩:=s;exact⟨by simp[Frame.raise],by simp[Frame.raise]⟩
         |goexit=>simp[GStep.after] at s;obtain⟨rfl, -⟩:=s;exact⟨by simp[Frame.raise],by simp[Frame.raise]⟩
         |blocked=>simp[GStep.after] at s;obtain⟨rfl, -⟩:=s;cases h1
         |waiting=>simp[GStep.after] at s;obtain⟨rfl, -⟩:=s;cases h1
         |exit c=>simp[GStep.after] at s
         |stuck c=>simp[GStep.after] at s
         |throw m=>simp[GStep.after,endThrow,dieOf] at s;obtain⟨rfl, -⟩:=s;cases h2
         |fatal m=>
          exfalso;dsimp only at s;unfold endFatal at s;dsimp only at s;generalize Sem.run P _ w2=z at s;cases z with
          |ok z1 z2=>simp[GStep.after,dieOf] at s;obtain⟨rfl, -⟩:=s;cases h2
          |halt z1 z2=>cases z1<;>simp[GStep.after] at s
       obtain⟨u,N⟩:=hq n cs;rcases N with⟨rfl,U⟩|ad
       .rw[U] at D;cases O:early P ⟨p,n,.inRegion j (i::f)::k,[],.run,.normal,none⟩ cs none u w2 with
        |go R ww ee=>
         rw[O] at D;simp only[GStep.after] at D;injection D with X V g3
         subst X V g3;rcases akH O with W|⟨aa,L⟩
         .dsimp only at W;rw[af] at W;cases W
         .injection aa with Q Z
          subst Q Z;refine⟨rfl,rfl,_,h0,λc=> ?_⟩;rw[E,e2];obtain⟨u',N⟩:=hq F c;rcases N with⟨hu,a9⟩|an
          .cases hu;rw[a9,L ⟨p,F,.inRegion j (i::f)::k,[],.run,.normal,none⟩ c rfl];rfl
          .exfalso;have:=hq F c;obtain⟨u2,h2⟩:=this;have M:(CallKind.normal ==CallKind.early)=false:=rfl;have s:stepG.apply P true ⟨p,F,.inRegion j (i::f)::k,[],.run,.normal,none⟩ c none (execOp (Frame.eval ⟨p,n,.inRegion j (i::f)::k,[],.run,.normal,none⟩) o) w=GStep.after (seen P p #[]) (early P ⟨p,F,.inRegion j (i::f)::k,[],.run,.normal,none⟩ c none u w2):=by
            unfold stepG.apply;simp only[hr,mT];simp[M]
           rw[L ⟨p,F,.inRegion j (i::f)::k,[],.run,.normal,none⟩ c rfl] at s;exact(an _ _ _ s rfl rfl).1 rfl
        |_=>rw[O] at D;cases D
       .exfalso;have:=ad _ _ _ D rfl rfl;rcases K with K|K
        .exact this.1 K
        .exact this.2 K
  |_=>cases A
def aqn(h:JR J fr cj)(n:fr.mode=.returning)(d:∃b,P.funcs[fr.fn]?=some b/\results b cj.tmps=results b fr.tmps){c:Frame}{main:Bool} :
  stepG P main ⟨cj,c::cs,.running,none,none⟩ w=stepG P main ⟨fr,c::cs,.running,none,none⟩ w:=by
 obtain⟨b,a,t,L,K,I,H⟩:=fr;obtain⟨i,y,l,A,x,F,D⟩:=cj;obtain⟨o,k,⟨p,s⟩,e,⟨j,f⟩,⟨m,g⟩,B,G,E⟩:=h;dsimp only at o k p s e j f m g B G E n d;subst o k p s e j f m g n;show unwind P main ⟨i,y,l,[],.returning,.normal,none⟩ (c::cs) none w=unwind P main ⟨i,a,l,[],.returning,.normal,none⟩ (c::cs) none w;unfold unwind;dsimp only;obtain⟨b,C,d⟩:=d;rw[C];dsimp only;rw[d];generalize (results b a).runT P w #[]=z;obtain⟨r,M⟩:=z;cases r with
 |ok v u=>rfl
 |halt q u=>cases q<;>rfl
end
end
end Go.Proofs.YtblbaiejjagdoaaGreatDoor