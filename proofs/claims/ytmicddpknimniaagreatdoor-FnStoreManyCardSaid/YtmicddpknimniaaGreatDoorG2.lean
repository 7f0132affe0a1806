/- A part. -/
import Derived.Test.YtmicddpknimniaaGreatDoorG1
import Derived.KernelRfl
import Derived.Test.YtmicddpknimniaaGreatDoorRows
import Derived.ProofKit
import Derived.OpenShut
import Derived.Handy
import Derived.BigQuiet
import Derived.Deep.QuietTactic
import Derived.Outline
import Derived.Deep.Draws
import Derived.Lib.Hide
import Derived.Laws.Strings
import Derived.Maps.AppendAt
import Derived.Deep.OwnRows
set_option maxRecDepth 100000
set_option maxHeartbeats 8000000
set_option linter.all false
open Go Go.RowKit Go.Proofs.Tryz Go.Proofs.YtmicddpknimniaaGreatDoor
variable {W N B c hi k lo m n:Nat} {Z:Type} {o:Oper} {R fr:Frame} {J a w w':World} {v:Value} {e:TypeId} {f:FuncId} {P:Program} {S:Nat→Prop} {i:TypeInfo} {H todo:List Item} {g g':Goroutine} {rest:List Oper} {V cs l l':List Frame} {U news:List Value} {M:Array Oper} {L r:Option Nat} {Y t:Array Value} {O es:Array Event} {A:Option Addr} {I:List Deferred} {e':Operand→Value} {s':List Frame→GStep} {Q:Exit→Act→World→Prop} {K:TypeId→Option TypeInfo} {s:List Frame→World→GStep} {x:Z} {xs:List Z}
namespace Go.Proofs.YtmicddpknimniaaGreatDoor
def ab:=@Go.Lib.hid
def ap:=@List.length_append
def bv:=@decide_eq_false
def da:=@List.mem_of_getElem?
def db:=@decide_eq_true
def eg:=@List.length_cons
def fa:=@beq_eq_false_iff_ne
def fb:=@Nat.zero_le
def ff:=@List.length_take
def ga:=@Array.getD_eq_getD_getElem?
def io:=@Option.map_eq_some_iff
def jp:=@List.mem_cons
def li:=@List.getElem?_eq_getElem
def lm:=@Go.run_underlying
def mc:=@Nat.zero_add
def mx:=@Option.bind_eq_some_iff
def oR:=@Nat.lt_or_ge
def oS:=@List.mem_of_mem_take
def pa:=@Nat.eq_zero_or_pos
def pu:=@List.length_map
def pv:=@Array.getElem?_setIfInBounds_self_of_lt
def pX:=@Go.Value.slice.injEq
def pZ:=@Array.getElem?_eq_none
def qb:=@List.cons.injEq
def qf:=@Option.map_some
def qh:=@List.mem_range
def qi:=@Option.getD_some
def qj:=@List.take_of_length_le
def qk:=@Bool.false_ne_true
def ql:=@and_true
def qm:=@List.getElem?_append_right
def qo:=@List.length_replicate
def qp:=@Go.RowKit.Below.heap_setCell
def qs:=@Go.World.cell?_of_block
def qw:=@Array.mem_of_getElem?
def qy:=@List.getElem?_append_left
def qz:=@Classical.byContradiction
def qD:=@List.getElem?_map
def qE:=@List.mem_cons_of_mem
def qF:=@Go.Stepped.next.injEq
def qJ:=@Go.Sem.run_bind'
def qN:=@Bool.or_eq_true
def qP:=@Go.ByteArray.toList_eq
def qQ:=@List.mem_cons_self
def qR:=@List.map_append
def qS:=@List.cons_append
def qW:=@List.nil_append
def qX:=@List.getElem?_take
def rh:=@List.drop_zero
def rj:=@List.drop_eq_nil_of_le
def rx:=@List.mem_iff_getElem?
def rz:=@Option.isSome_iff_exists
def rF:=@Nat.mul_le_mul_right
def rO:=@Array.getElem?_append_left
def rS:=@Array.mem_toList_iff
def rY:=@List.eq_nil_of_length_eq_zero
def se:=@Go.RowKit.Below.heap_alloc
def sx:=@UInt8.toNat_inj
def sD:=@List.getElem?_eq_none
def sS:=@Nat.add_zero
def th:=@List.all_append
def tp:=@List.append_assoc
def tu:=@dif_pos
def tv:=@Go.Sem.run_bind
def tz:=@List.map_map
def tS:=@Go.Sem.run_pure
def tT:=@Nat.mul_comm
def ub:=@List.getElem?_replicate
def ue:=@Go.Result.andThen_ok
def ug:=@List.all_eq_false
def uo:=@Bool.false_or
def uq:=@Bool.and_true
def uv:=@Array.toList_inj
def uI:=@List.map_congr_left
def uQ:=@Nat.add_assoc
def uR:=@Int.tmod_eq_emod_of_nonneg
def uS:=@Bool.or_false
def uT:=@Bool.not_true
def uZ:=@List.extract_eq_take_drop
def vm:=@List.all_nil
def vz:=@List.range_succ
def vG:=@ByteArray.data_extract
def vQ:=@Nat.pow_le_pow_right
def vR:=@List.replicate_succ'
section
def aaC{t:TypeId}(h:adO P t=true):∀k e,P.underlying t=some (.map k e)->∃b,P.underlying k=some (.int b):=λk e a=>by
 unfold adO agP at h;rw[a] at h;dsimp only at h;split at h
 .exact⟨_,by assumption⟩
 .cases h
section
variable {P P':Program} {ρ:Ren}
variable (T:Twin P P') (X:aih P P')
include T
theorem lr:∀(d:Nat) {ρ:Ren} (t:TypeId) {x k y i:Value},VR ρ x k->VR ρ y i->au P P' je ρ (Op.eqGuardIn d t x y) (Op.eqGuardIn d t k i)
 |0,_,_,_,_,_,_,_,_=>.halt _ _
 |d+1,ρ,t,x,k,y,i,g,c=>by
  unfold Op.eqGuardIn;refine ag (aB T t) λM u O C hd=> ?_;obtain⟨rfl,hd⟩:=hd;replace g:=g.mono C;replace c:=c.mono C;cases u with
  |interface N=>cases g<;>cases c<;>first|exact ai rfl|(cases k<;>first|exact ai rfl|exact absurd (by assumption:jh Value.nilIface=true) (by decide)|exact absurd (by assumption:jh (Value.agg _)=true) qk)|(cases i<;>first|exact ai rfl|exact absurd (by assumption:jh Value.nilIface=true) (by decide)|exact absurd (by assumption:jh (Value.agg _)=true) qk)
  |struct L=>cases g with
   |agg g=>cases c with
    |agg c=>
     refine ag (abi (B:=je) L (rfl:je M (none,()) (none,())) λo f r m l _ _=> ?_) λo r m l e=> ?_
     .refine aP (λ_=> ?_) λ_=>ai (.yield rfl);refine ag (lK T f.type (bQ.mono l g) f.offset) λJ a I w s=> ?_;refine ag (lK T f.type (bQ.mono (l.trans w) c) f.offset) λH b F p j=> ?_;refine ag (lr d f.type (s.mono p) j) λD q v _ e=> ?_;obtain rfl:q=v:=e;exact aP (λ_=>ai (.done rfl)) λ_=>ai (.yield rfl)
     .obtain rfl:r=m:=e;obtain⟨_|q,u⟩:=r<;>exact ai rfl
    |fj=>(cases i<;>first|exact ai rfl|exact absurd (by assumption:jh Value.nilIface=true) (by decide)|exact absurd (by assumption:jh (Value.agg _)=true) qk)
    |_=>exact ai rfl
   |_=>cases c<;>first|exact ai rfl|(cases k<;>first|exact ai rfl|exact absurd (by assumption:jh Value.nilIface=true) (by decide)|exact absurd (by assumption:jh (Value.agg _)=true) qk)|(cases i<;>first|exact ai rfl|exact absurd (by assumption:jh Value.nilIface=true) (by decide)|exact absurd (by assumption:jh (Value.agg _)=true) qk)
  |array n e=>cases g with
   |agg g=>cases c with
    |agg c=>
     refine ag (eX T e) λK z G E q=> ?_;obtain rfl:z=G:=q;refine ag (abj (B:=je) n (rfl:je K (none,()) (none,())) λo f r m l _=> ?_) λo r m l e=> ?_
     .have A:=E.trans l;refine ag (lK T e (bQ.mono A g) (f*z)) λJ a I w s=> ?_;refine ag (lK T e (bQ.mono (A.trans w) c) (f*z)) λH b F p j=> ?_;refine ag (lr d e (s.mono p) j) λD q v _ e=> ?_;obtain rfl:q=v:=e;exact aP (λ_=>ai (.done rfl)) λ_=>ai (.yield rfl)
     .obtain rfl:r=m:=e;obtain⟨_|q,u⟩:=r<;>exact ai rfl
    |fj=>(cases i<;>first|exact ai rfl|exact absurd (by assumption:jh Value.nilIface=true) (by decide)|exact absurd (by assumption:jh (Value.agg _)=true) qk)
    |_=>exact ai rfl
   |_=>cases c<;>first|exact ai rfl|(cases k<;>first|exact ai rfl|exact absurd (by assumption:jh Value.nilIface=true) (by decide)|exact absurd (by assumption:jh (Value.agg _)=true) qk)|(cases i<;>first|exact ai rfl|exact absurd (by assumption:jh Value.nilIface=true) (by decide)|exact absurd (by assumption:jh (Value.agg _)=true) qk)
  |_=>exact ai rfl
theorem aok(op:BinOp)(t:TypeId)(x y:Operand){a b c : Value}(j:VR ρ a v)(d:VR ρ b c):au P P' je ρ (eqGuard op t x y a b) (eqGuard op t x y v c):=by
 unfold eqGuard;refine aP (λ_=>ai rfl) λ_=> ?_;have i:=j;have g:=d;cases j with
 |nilIface=>cases d with
  |nilIface=>
   refine aP (λ_=>ai rfl) λ_=> ?_;refine ag (lr T _ t .nilIface .nilIface) λm q f _ e=> ?_;obtain rfl:q=f:=e;exact aP (λ_=>.halt _ _) λ_=>ai rfl
  |fj=>(cases c<;>first|exact ai rfl|exact absurd (by assumption:jh Value.nilIface=true) (by decide)|exact absurd (by assumption:jh (Value.agg _)=true) qk)
  |_=>exact ai rfl
 |agg j=>cases d with
  |agg d=>
   refine ag cR λm p A l n=> ?_;obtain⟨r,w⟩:=n;refine ag cR λz q f k o=> ?_;obtain⟨s,u⟩:=o;rw[r,w,s,u,T.akn,T.depth];refine aP (λ_=>ai rfl) λ_=> ?_;refine ag (lr T _ t (i.mono (l.trans k)) (g.mono (l.trans k))) λm q f _ e=> ?_;obtain rfl:q=f:=e;exact aP (λ_=>.halt _ _) λ_=>ai rfl
  |fj=>(cases c<;>first|exact ai rfl|exact absurd (by assumption:jh Value.nilIface=true) (by decide)|exact absurd (by assumption:jh (Value.agg _)=true) qk)
  |_=>exact ai rfl
 |_=>cases d<;>first|exact ai rfl|(cases v<;>first|exact ai rfl|exact absurd (by assumption:jh Value.nilIface=true) (by decide)|exact absurd (by assumption:jh (Value.agg _)=true) qk)|(cases c<;>first|exact ai rfl|exact absurd (by assumption:jh Value.nilIface=true) (by decide)|exact absurd (by assumption:jh (Value.agg _)=true) qk)
theorem aol(f dst:TypeId)(a:akl P f dst=true){x g:Value}(c:VR ρ x g):au P P' VR ρ (convert f dst x) (convert f dst g):=by
 unfold convert;refine ag (aB T f) λB u A t m=> ?_;obtain⟨rfl,m⟩:=m;refine ag (aB T dst) λo v w p n=> ?_;obtain⟨rfl,n⟩:=n;replace c:=c.mono (t.trans p);unfold akl at a;rw[m,n] at a;cases v with
 |int k=>
  cases u with
  |int y=>cases c with
   |int=>exact ai (.int _ _)
   |pointer h=>cases h<;>exact .halt _ _
   |slice h=>cases h<;>exact .halt _ _
   |_=>exact .halt _ _
  |_=>cases a
 |string=>
  cases u with
  |slice e=>
   have b:∀{x g:Value},VR o x g->au P P' VR o (do
     match<-underlying e with
     |.int .u8=>Conv.bytesToString x
     |.int .i32=>Conv.runesToString x
     |_=>stuck "Convert: a slice of what to string?") (do
     match<-underlying e with
     |.int .u8=>Conv.bytesToString g
     |.int .i32=>Conv.runesToString g
     |_=>stuck "Convert: a slice of what to string?"):=λ{x g} c=>by
    refine ag (aB T e) λr z q l i=> ?_;obtain⟨rfl,i⟩:=i;dsimp only at a;rw[i] at a;cases z with
    |int k=>cases k<;>first|exact ady (c.mono l)|exact .halt _ _|cases a
    |_=>exact .halt _ _
   have j:=c;cases c with
   |int=>exact ai (.string _)
   |string s=>exact ai (.string _)
   |pointer h=>cases h<;>exact b j
   |slice h=>cases h<;>exact b j
   |fj=>
    refine .dead (Leaves.bind (aeo e) λd _=> ?_) _;cases d with
    |int k=>cases k<;>exact trivial
    |_=>exact trivial
   |_=>exact b j
  |unsafePointer=>cases a
  |_=>cases c with
   |int=>exact ai (.string _)
   |string s=>exact ai (.string _)
   |pointer h=>cases h<;>exact .halt _ _
   |slice h=>cases h<;>exact .halt _ _
   |_=>exact .halt _ _
 |slice e=>
  cases u with
  |string=>cases c with
   |string s=>
    refine ag (aB T e) λr z q l i=> ?_;obtain⟨rfl,i⟩:=i;dsimp only at a;rw[i] at a;cases z with
    |int k=>cases k<;>first|exact adz e s|exact .halt _ _|cases a
    |_=>exact .halt _ _
   |pointer h=>cases h<;>exact .halt _ _
   |slice h=>cases h<;>exact .halt _ _
   |_=>exact .halt _ _
  |_=>cases a
 |_=>cases u<;>cases a
theorem akA{e : Operand->Value}(x:Operand)(dst:Option Tmp)(t:TypeId)(pos:String)(af:Array Edge)(g:Option (Nat×Bool))(o:VR ρ (e x) (e' x)):au P P' gU ρ (execOp e ⟨dst,.nilCheck x,t,pos,af,g⟩) (execOp e' ⟨dst,.nilCheck x,t,pos,af,g⟩):=by
 unfold execOp;dsimp only;revert o;generalize e x=v;generalize e' x=v';intro o;cases o with
 |pointer h=>cases h with
  |none=>exact .dead (dR _) _
  |some h=>exact ai (.value (.pointer (.some h)))
 |nilIface=>exact .dead (dR _) _
 |nilFunc=>exact .dead (dR _) _
 |@func p r i _ _ _ _ m l=>
  cases i with
  |same _ i=>
   cases p with
   |func p=>exact ai (.value (.func (.same _ i) m l))
   |_=>cases i
  |yield h=>exact ai (.value (.func (.yield h) m l))
 |aa8 k j=>exact .dead (dR _) _
 |slice m l q=>exact ai (.value (.slice m l q))
 |map h=>exact ai (.value (.map h))
 |chan h=>exact ai (.value (.chan h))
 |iface t h=>exact ai (.value (.iface t h))
 |agg h=>exact ai (.value (.agg h))
 |tuple h=>exact ai (.value (.tuple h))
 |fj j d=>
  cases v' with
  |pointer a=>cases a with
   |none=>cases d
   |some a=>exact ai (.value (.fj j d))
  |func f a c=>cases f<;>first|(cases d;done)|exact ai (.value (.fj j d))
  |_=>first|(cases d;done)|exact ai (.value (.fj j d))
 |bool b=>exact ai (.value (.bool b))
 |int k n=>exact ai (.value (.int k n))
 |string s=>exact ai (.value (.string s))
theorem aom(b:Builtin)(ts:Array TypeId)(t:TypeId)(cs:Array Bool)(c:ack P b ts=true){a : Array Value}(h:cU ρ a Y):au P P' gU ρ (builtin b ts t cs a) (builtin b ts t cs Y):=by
 cases b with
 |append=>
  refine bm (aqe T ts t (λu e k d=> ?_) h);unfold ack agP at c;rw[e] at c;simp[d] at c
 |cap=>exact bm (ay7 T ts t h)
 |clear=>exact bm (att T ts t h)
 |copy=>exact bm (aw4 T ts t h)
 |len=>exact bm (ay6 T ts t h)
 |max=>exact bm (ay8 ts t h)
 |min=>exact bm (ay9 ts t h)
 |unsafeString=>exact bm (ael T ts t h)
 |unsafeSlice=>exact bm (afv T ts t h)
 |_=>cases c
include X
theorem amS{v' : Value}(a:VR ρ v v'){args args':Array Value}(b:cU ρ args args'):au P P' gU ρ (do let d<-Deferred.ofValue v args;invoke d.target d.args) (do let d<-Deferred.ofValue v' args';invoke d.target d.args):=by
 unfold Deferred.ofValue;cases a with
 |nilFunc=>
  show au P P' gU ρ (runtimePanic .nilDeref) _;exact .dead (dR _) _
 |@func f l a _ _ _ _ g i=>
  cases a with
  |same _ a=>
   cases f with
   |func f=>exact aky T X f a (cU.app (cU.app g b) i)
   |_=>cases a
  |yield h=>exact aty h (cU.app g b)
 |aa8 k j=>
  refine .dead ?_ _;show ku P (invoke (.fn (.method "") (Array.replicate k .nilIface)) (#[.nilIface]++args));have e:(#[Value.nilIface]++args)[0]?=some .nilIface:=by
   rw[rO (by show 0<1;omega)];rfl
  unfold invoke;simp only[e];show ku P (runtimePanic .nilDeref);exact dR _
 |_=>exact .halt _ _
theorem axb(c:Call)(t:TypeId){e : Operand->Value}(l:adA ρ e e')(j:lI P gA gL (.call c)=true):au P P' gU ρ (do let d<-resolve e c t;invoke d.target d.args) (do let d<-resolve e' c t;invoke d.target d.args):=by
 unfold lI at j;simp only[fd] at j;obtain⟨g,k⟩:=j;obtain⟨a,args,n⟩:=c;simp only[Op.operands,Call.operands,pr,th,fd] at g;have i:=l.map g.2;cases a with
 |builtin b=>
  exact aom T b n t _ k i
 |invoke r m=>cases k
 |value f=>exact amS T X (l f (by simpa using g.1)) i
theorem aBJ{o' : Oper}(a:aab gA gL o'.op=true)(c:o={o' with type:=gB}){e : Operand->Value}(f:adA ρ e e'):au P P' gU ρ (execOp e o) (execOp e' o'):=by
 subst c;obtain⟨dst,op,type,d,after,b⟩:=o';dsimp only at a;unfold aab at a;split at a
 .exact bm (abk _ gB type T.atk (f.map a))
 .cases a
theorem aqm(w:lI P gA gL o.op=true){e : Operand->Value}(p:adA ρ e e'):au P P' gU ρ (execOp e o) (execOp e' o):=by
 obtain⟨dst,op,v,K,after,D⟩:=o;dsimp only at w;have A:=w;unfold lI at w;simp only[fd] at w;obtain⟨j,u⟩:=w;cases op with
 |move x=>exact ai (.value (p x (by simpa[Op.operands] using j)))
 |assign x=>exact ai (.value (p x (by simpa[Op.operands] using j)))
 |pick c a b=>
  simp[Op.operands] at j;refine ag (ad9 (p c j.1)) λI q L z e=> ?_;obtain rfl:q=L:=e;cases q with
  |true=>exact ai (.value ((p a j.2.1).mono z))
  |false=>exact ai (.value ((p b j.2.2).mono z))
 |alloc t=>exact bm (atn T t)
 |box t x=>exact bm (ay5 t (p x (by simpa[Op.operands] using j)))
 |build t F=>
  refine bm (atr T t ?_);rw[qC,qC];exact p.parts (by simpa[Op.operands] using j)
 |buildSlice t n F=>
  refine bm (agR T t n ?_);rw[qC,qC];exact p.parts (by simpa[Op.operands] using j)
 |load t a=>exact bm (aqb T t (p a (by simpa[Op.operands] using j)))
 |store t a x=>
  simp[Op.operands] at j;exact agV (an6 T t (p a j.1) (p x j.2))
 |nilCheck x=>exact akA T x _ _ _ _ _ (p x (by simpa[Op.operands] using j))
 |binOp op t x y M=>
  simp[Op.operands] at j;refine bm (ag (aok T op t x y (p x j.1) (p y j.2)) λI _ _ z _=>atx T op t ((p x j.1).mono z) ((p y j.2).mono z))
 |unOp op t x=>exact bm (atu op (p x (by simpa[Op.operands] using j)))
 |convert s d x=>exact bm (aol T s d u (p x (by simpa[Op.operands] using j)))
 |makeInterface t x=>exact bm (adu T t (p x (by simpa[Op.operands] using j)))
 |makeFunc f a c=>
  simp only[Op.operands,pr,th,fd] at j;exact bm (akq (.same f u) (p.map j.1) (p.map j.2))
 |makeMap t r=>cases r with
  |none=>exact bm (akr t)
  |some x=>cases u
 |makeSlice t l c=>
  simp[Op.operands] at j;exact bm (aie T t (p l j.1) (p c j.2))
 |slice t x l h m=>
  simp only[Op.operands,pr,th,fd] at j;obtain⟨⟨⟨C,B⟩,E⟩,G⟩:=j;have op:∀{l:Option Operand},l.toArray.toList.all (bI gA gL)=true->OVR ρ (l.map e) (l.map e'):=λ{l} h=>p.opt λx J=>by subst J;simpa using h
  exact bm (aoa T t (p x (by simpa using C)) (op B) (op E) (op G))
 |fieldAddr t x f=>
  refine bm (an8 T t f (λN g i C B E=> ?_) (p x (by simpa[Op.operands] using j)));unfold amK at u;simpa[C,B,E] using u
 |field t x f=>exact bm (ato T t (p x (by simpa[Op.operands] using j)) f)
 |indexAddr t x i=>
  simp[Op.operands] at j;exact bm (an9 T t (p x j.1) (p i j.2))
 |index t x i=>
  simp[Op.operands] at j;exact bm (atq T t (p x j.1) (p i j.2))
 |lookup t x i H=>
  simp[Op.operands] at j;exact bm (aqg T t (aaC u) (p x j.1) (p i j.2) H)
 |mapUpdate t m k x=>
  simp[Op.operands] at j;exact agV (acW T t (aaC u) (p m j.1) (p k j.2.1) (p x j.2.2))
 |insert t m k x=>
  simp[Op.operands] at j;exact agV (acW T t (aaC u) (p m j.1) (p k j.2.1) (p x j.2.2))
 |range t x=>exact bm (atw T t (p x (by simpa[Op.operands] using j)))
 |next x b=>exact bm (aw9 (p x (by simpa[Op.operands] using j)) b v)
 |extract x i=>exact bm (an7 (p x (by simpa[Op.operands] using j)) i)
 |call c=>exact axb T X c v p A
 |panic x=>exact bm (atv _ _)
 |_=>cases u
end
section
variable (P:Program)
inductive ItR (ρ:Ren):Item->Item->Prop
 |code (c:Code):ItR ρ (.code (gP c)) (.code c)
 |inBlock (id:Nat):ItR ρ (.inBlock id) (.inBlock id)
 |inLoop (c:Code):ItR ρ (.inLoop (gP c)) (.inLoop c)
 |inScope (c:Code):ItR ρ (.inScope (gP c)) (.inScope c)
 |inRegion {ops ops':Array Oper} (h:ap8 P ops ops') (l:List Nat):ItR ρ (.inRegion ops l) (.inRegion ops' l)
 |inRangeFunc {l l':Nat} (h:ρ.r l l'):ItR ρ (.inRangeFunc l) (.inRangeFunc l')
 |endRangeFunc {l l':Nat} (h:ρ.r l l'):ItR ρ (.endRangeFunc l) (.endRangeFunc l')
 |beginRound:ItR ρ .beginRound .beginRound
inductive jm (ρ:Ren):List Item->List Item->Prop
 |nil:jm ρ [] []
 |cons {x x':Item} {l l':List Item} (h:ItR P ρ x x') (hl:jm ρ l l'):jm ρ (x::l) (x'::l')
end
inductive CDs (ρ:Ren):List Deferred->List Deferred->Prop
 |nil:CDs ρ [] []
 |cons {b b':Nat} {l l':List Deferred} (h:ρ.r b b') (hl:CDs ρ l l'):CDs ρ (⟨.collected b,#[]⟩::l) (⟨.collected b',#[]⟩::l')
structure FrR (P:Program) (ρ:Ren) (fr cB:Frame):Prop where
 fn:fr.fn=cB.fn
 tmps:cU ρ fr.tmps cB.tmps
 todo:jm P ρ fr.todo cB.todo
 defers:CDs ρ fr.defers cB.defers
 mode:(fr.mode=.run/\cB.mode=.run)\/(fr.mode=.returning/\cB.mode=.returning)
 kind:fr.kind=.normal/\cB.kind=.normal
 round:NR ρ fr.roundOf cB.roundOf
inductive ik (P:Program) (ρ:Ren):List Frame->List Frame->Prop
 |one {fr cB:Frame} (h:FrR P ρ fr cB) (h0:fr.roundOf=none):ik P ρ [fr] [cB]
 |cons {fr cB:Frame} {l l':List Frame} (h:FrR P ρ fr cB) (hl:ik P ρ l l'):ik P ρ (fr::l) (cB::l')
section
variable {P:Program} {ρ σ:Ren}
def ItR.mono(h:ρ.Le σ){x a:Item}:ItR P ρ x a->ItR P σ x a
 |.code c=>.code c
 |.inBlock id=>.inBlock id
 |.inLoop c=>.inLoop c
 |.inScope c=>.inScope c
 |.inRegion h l=>.inRegion h l
 |.inRangeFunc x=>.inRangeFunc (h.r x)
 |.endRangeFunc x=>.endRangeFunc (h.r x)
 |.beginRound=>.beginRound
def jm.mono(h:ρ.Le σ):∀{x a:List Item},jm P ρ x a->jm P σ x a
 |_,_,.nil=>.nil
 |_,_,.cons x y=>.cons (x.mono h) (y.mono h)
def CDs.mono(h:ρ.Le σ):∀{x a:List Deferred},CDs ρ x a->CDs σ x a
 |_,_,.nil=>.nil
 |_,_,.cons x y=>.cons (h.r x) (y.mono h)
def FrR.mono(h:ρ.Le σ)(x:FrR P ρ fr R):FrR P σ fr R:=
 ⟨x.fn,bQ.mono h x.tmps,x.todo.mono h,x.defers.mono h,x.mode,x.kind,x.round.mono h⟩
def ik.mono(h:ρ.Le σ):∀{x a:List Frame},ik P ρ x a->ik P σ x a
 |_,_,.one x y=>.one (x.mono h) y
 |_,_,.cons x y=>.cons (x.mono h) (y.mono h)
def VR.undef:VR ρ undef undef:=.tuple .nil
def ap8.dst{a : Array Oper}(h:ap8 P M a)(i:Nat):(M[i]?).bind (·.dst)=(a[i]?).bind (·.dst):=by
 obtain⟨f,h⟩:=h;cases e:M[i]? with
 |none=>
  have:a[i]?=none:=by
   rw[qc] at e ⊢;omega
  rw[this]
 |some o=>
  have d:=(de.1 e).1;obtain⟨b,c⟩:∃b,a[i]?=some b:=⟨_,fm (by omega)⟩;rw[c];rcases h i o b e c with⟨rfl,_⟩|⟨_,rfl⟩<;>rfl
def FrR.finish(h:FrR P ρ fr R){v' : Value}(z:VR ρ v v'):FrR P ρ (fr.finish v) (R.finish v'):=by
 obtain⟨f,t,y,d,m,k,r⟩:=fr;obtain⟨E,s,B,D,F,C,A⟩:=R;obtain⟨u,a,w,b,e,g,c⟩:=h;dsimp only at u a w b e g c;subst u;cases w with
 |nil=>exact⟨rfl,a,.nil,b,e,g,c⟩
 |cons x j=>
  cases x with
  |inRegion p l=>
   cases l with
   |nil=>exact⟨rfl,a,.cons (.inRegion p []) j,b,e,g,c⟩
   |cons i o=>
    refine⟨rfl, ?_,.cons (.inRegion p o) j,b,e,g,c⟩;show cU ρ (match _ with|some d=>t.setIfInBounds d v|none=>t) (match _ with|some d=>s.setIfInBounds d v'|none=>s);rw[p.dst i];split
    .exact a.set _ z
    .exact a
  |inRangeFunc q=>exact⟨rfl,a,.cons (.endRangeFunc q) j,b,e,g,c⟩
  |beginRound=>exact⟨rfl,a,j,b,e,g,c⟩
  |code n=>exact⟨rfl,a,.cons (.code n) j,b,e,g,c⟩
  |inBlock id=>exact⟨rfl,a,.cons (.inBlock id) j,b,e,g,c⟩
  |inLoop n=>exact⟨rfl,a,.cons (.inLoop n) j,b,e,g,c⟩
  |inScope n=>exact⟨rfl,a,.cons (.inScope n) j,b,e,g,c⟩
  |endRangeFunc n=>exact⟨rfl,a,.cons (.endRangeFunc n) j,b,e,g,c⟩
def jm.exit(id:Nat):∀{k a:List Item},jm P ρ k a->(exitTo id k=none/\exitTo id a=none)\/∃l c,exitTo id k=some l/\exitTo id a=some c/\jm P ρ l c
 |_,_,.nil=>.inl ⟨rfl,rfl⟩
 |_,_,.cons x y=>by
  have b:=y.exit id;cases x with
  |inBlock i=>
   unfold exitTo;by_cases e:(i ==id)=true
   .rw[dk e,dk e];exact .inr ⟨_,_,rfl,rfl,y⟩
   .rw[be e,be e];exact b
  |code|inLoop|inScope|inRegion|inRangeFunc|endRangeFunc|beginRound=>simpa[exitTo] using b
end
def kh(w:World)(ds:List Deferred):Prop:=∀d∈ds,∃b,d=⟨.collected b,#[]⟩/\∀x l,w.heap[b]?≠some (.deferred (some (x::l)))
inductive mb (base:List Frame):GStep->Prop
 |ended (o:Outcome) (w:World) (es:Array Event):mb base (.ended o w es)
 |stop {g:Goroutine} {w:World} {es:Array Event} (h:g.status=.blocked\/g.status=.waiting):mb base (.go g w es)
 |raised {fr:Frame} {cs:List Frame} {w:World} {es:Array Event} {ch:List PanicEntry} (hm:fr.mode=.panicking ch) (hd:∀f∈fr::cs,kh w f.defers):mb base (.go {frame:=fr,callers:=cs++base,status:=.running,dying:=none} w es)
 |dying {fr:Frame} {w:World} {es:Array Event} {d:Dying} {f:Fatal} (hf:d.fatal=some f) (hc:d.calling=false):mb base (.go {frame:=fr,callers:=[],status:=.running,dying:=some d} w es)
def mb.after{base:List Frame}{s:GStep}(es:Array Event)(h:mb base s):mb base (s.after es):=by
 cases h with
 |ended o w e=>exact .ended o w _
 |stop h=>exact .stop h
 |raised a hd=>exact .raised a hd
 |dying b c=>exact .dying b c
def Gl:List Frame->List Frame->Goroutine
 |[],base=>{(default:Goroutine) with callers:=base}
 |fr::cs,base=>⟨fr,cs++base,.running,none,none⟩
def GoR(P P':Program)(ρ:Ren)(l l':List Frame):Prop:=
 ik P ρ l l'\/∃f a b m c,gH f=true/\cU ρ a b/\ik P ρ m c/\l=Frame.enter P f a .normal::m/\l'=Frame.enter P' f b .normal::c
def ld(P P':Program)(ρ:Ren)(w w':World)(s:List Frame->World->GStep)(s':List Frame->GStep):Prop:=
 ∃(a:Tape) (D:Nat),(∀base t,Agr w D a t->mb base (s base (w.dw t)))\/
  ∃c g e i b f d,(∀base t,Agr w D a t->s base (w.dw t)=.go (Gl g base) (e.dw t) i)/\e.drawn=w.drawn+D/\ρ.Le c/\(∀base,s' base=.go (Gl b base) f d)/\WR c e f/\Kept ρ c w w' e f/\EvW w c i d/\GoR P P' c g b
section
variable {P P':Program} {ρ:Ren} {w w':World}
def ld.still(a:WR ρ w w')(h:∀base w,s base w=.go (Gl l base) w #[])(b:∀base,s' base=.go (Gl l' base) w' #[])(c:GoR P P' ρ l l'):ld P P' ρ w w' s s':=
 ⟨w.tape,0,.inr ⟨ρ,l,w,#[],l',w',#[],λ_ t _=>h _ _,rfl,Ren.Le.refl _,b,a,Kept.refl _ _ _,.nil _ _,c⟩⟩
def ld.bad(h:∀base w,mb base (s base w)):ld P P' ρ w w' s s':=⟨w.tape,0,.inl λ_ _ _=>h _ _⟩
def CDs.marks{b : List Deferred}(h:CDs ρ I b)(c:WR ρ w w'){t:Tape}(i:fp (w.dw t) J):kh J I:=by
 induction h with
 |nil=>intro d hd;cases hd
 |cons g m j=>
  intro d hd;rcases jp.1 hd with rfl|hd
  .refine⟨_,rfl,λx l e=> ?_⟩;have:=i _ _ _ e;obtain⟨o,p,k,n,f⟩:=c.obj g;have a:(w.dw t).heap[_]?=some o:=k;rw[this] at a;cases a;cases f
  .exact j d hd
def axc(T:Twin P P')(fn:FuncId)(h:lJ ρ es.toList O.toList):lJ ρ (seen P fn es).toList (seen P' fn O).toList:=by
 have u:∀f:Nat,(P'.funcs[f]?).any (·.norace)=(P.funcs[f]?).any (·.norace):=λf=>by
  cases o:P.funcs[f]? with
  |none=>
   have:P'.funcs[f]?=none:=by
    rw[qc] at o ⊢;rw[T.aib];exact o
   rw[this]
  |some fn=>
   obtain⟨A,v,s⟩:=T.func f fn o;rw[v];simp[s.norace]
 unfold seen;dsimp only;rw[<-sq,<-sq];simp only[u];generalize t:(λf:Nat=>(P.funcs[f]?).any (·.norace))=Q;have m:∀f:Nat,(P.funcs[f]?).any (·.norace)=Q f:=λf=>by rw[<-t]
 simp only[m];have n:∀{l p:List Event},lJ ρ l p->∀(q:Bool) (k b:Array Event),lJ ρ k.toList b.toList->
   lJ ρ (l.foldl (λx e=>match e.loc with
    |.mark (.extern f)=>(Q f,x.2)
    |_=>(x.1,if x.1&&!e.sync then x.2 else x.2.push e)) (q,k)).2.toList
   (p.foldl (λx e=>match e.loc with
    |.mark (.extern f)=>(Q f,x.2)
    |_=>(x.1,if x.1&&!e.sync then x.2 else x.2.push e)) (q,b)).2.toList:=by
  intro l p h
  induction h with
  |nil=>intro q k b d;exact d
  |cons r B j=>
   intro q k b d;rw[uD,uD];have push:∀e i:Event,EvR ρ e i->lJ ρ (if(q&&!e.sync)=true then k else k.push e).toList (if(q&&!i.sync)=true then b else b.push i).toList:=λe i h=>by
    have w:e.sync=i.sync:=by cases h;rfl
    rw[w];split
    .exact d
    .rw[rL,rL];exact d.app (.cons h .nil)
   have a:=r;cases r with
   |mk g wr z=>
    cases g with
    |cell D=>exact j _ _ _ (push _ _ a)
    |obj C=>exact j _ _ _ (push _ _ a)
    |mark y=>
     cases y with
     |extern f=>exact j _ _ _ d
     |_=>exact j _ _ _ (push _ _ a)
 exact n h _ _ _ .nil
def aqn(P:Program)(fn:FuncId)(es:Array Event):∀e∈(seen P fn es).toList,e∈es.toList:=by
 unfold seen;dsimp only;rw[<-sq];have d:∀(l:List Event) (q:Bool) (k:Array Event) (S:List Event),(∀e∈k.toList,e∈S)->(∀e∈l,e∈S)->
   ∀e∈(l.foldl (λx e=>match e.loc with
    |.mark (.extern f)=>((P.funcs[f]?).any (·.norace),x.2)
    |_=>(x.1,if x.1&&!e.sync then x.2 else x.2.push e)) (q,k)).2.toList,e∈S:=by
  intro l
  induction l with
  |nil=>intro q k S c _;exact c
  |cons x l i=>
   intro q k S c g;rw[uD];have push:∀e∈(if(q&&!x.sync)=true then k else k.push x).toList,e∈S:=by
    split
    .exact c
    .intro e a;rw[rL,ge] at a;rcases a with a|a
     .exact c e a
     .simp at a;subst a;exact g _ (qQ ..)
   have b:∀e∈l,e∈S:=λe a=>g e (qE _ a);split
   .exact i _ k S c b
   .exact i _ _ S push b
 exact d es.toList _ _ es.toList (λe a=>by cases a) λe a=>a
def aaD(T:Twin P P')(fn:FuncId)(h:EvW w ρ es O):EvW w ρ (seen P fn es) (seen P' fn O):=
 ⟨axc T fn h.ev,λb c e a=>h.nw b c e (aqn P fn es e a)⟩
end
section
variable {P P':Program} {ρ σ:Ren} {base:List Frame} {w w':World}
def ik.put(g:ρ.Le σ){a b : Frame}(h:ik P ρ (fr::cs) (R::V))(c:FrR P σ a b)(e:a.roundOf=fr.roundOf):ik P σ (a::cs) (b::V):=by
 cases h with
 |one h f=>exact .one c (e.trans f)
 |cons h d=>exact .cons c (d.mono g)
def ik.head(h:ik P ρ (fr::cs) (R::V)):FrR P ρ fr R:=by
 cases h with
 |one h a=>exact h
 |cons h b=>exact h
def ik.marks(h:ik P ρ l l')(b:WR ρ w w'){t:Tape}(c:fp (w.dw t) J):∀f∈l,kh J f.defers:=by
 induction h with
 |one h g=>intro f a;simp at a;subst a;exact h.defers.marks b c
 |cons h e d=>
  intro f a;rcases jp.1 a with rfl|a
  .exact h.defers.marks b c
  .exact d f a
def GoR.of(h:ik P ρ (fr::cs) (R::V)):GoR P P' ρ (fr::cs) (R::V):=.inl h
def FrR.at(h:FrR P ρ fr R)(a:jm P ρ todo H):FrR P ρ {fr with todo} {R with todo:=H}:=
 ⟨h.fn,h.tmps,a,h.defers,h.mode,h.kind,h.round⟩
def aaE{c:List PanicEntry}(d:∀f∈fr::cs,kh J f.defers):mb base (.go ⟨fr.raise c,cs++base,.running,none,none⟩ J #[]):=by
 have:∃a,(fr.raise c).mode=.panicking a:=by unfold Frame.raise;split<;>exact⟨_,rfl⟩
 obtain⟨a,e⟩:=this;refine .raised e λf b=> ?_;rcases jp.1 b with rfl|b
 .have:(fr.raise c).defers=fr.defers:=by unfold Frame.raise;split<;>rfl
  rw[this];exact d fr (by simp)
 .exact d f (by simp[b])
variable (T:Twin P P')
include T
theorem aon(g:Nat)(w:World):mb base (early P fr cs none g w):=by
 unfold early;simp only[T.mL.1,T.mL.2];exact .ended _ _ _
theorem agX(m:String)(w:World):mb base (endFatal P fr cs none m w):=by
 unfold endFatal;dsimp only;split
 .exact .dying rfl rfl
 .exact .ended _ _ _
 .exact .ended _ _ _
omit T in
theorem fM(fr:Frame)(v:Value):(fr.finish v).roundOf=fr.roundOf:=by
 unfold Frame.finish;split<;>first|rfl|(split<;>rfl)
theorem afW(w:String):gP (.refuse w)=.refuse w:=by rw[T.pc];rfl
theorem abp(w:String):jm P ρ [.code (.refuse w)] [.code (.refuse w)]:=by
 have h:jm P ρ [.code (gP (.refuse w))] [.code (.refuse w)]:=.cons (.code _) .nil;rw[afW T] at h;exact h
omit T in
theorem atB{l l':Nat}(a:ρ.r l l')(f:FuncId)(b:cU ρ t Y)(c d:Code):FrR P ρ (Frame.round l f t (gP c) (gP d) .normal) (Frame.round l' f Y c d .normal):=
 ⟨rfl,b,.cons (.code c) (.cons .beginRound (.cons (.code d) .nil)),.nil,.inl ⟨rfl,rfl⟩,⟨rfl,rfl⟩,.some a⟩
theorem agY(q:gH f=false){a : Array Value}(o:cU ρ a Y):FrR P ρ (Frame.enter P f a .normal) (Frame.enter P' f Y .normal):=by
 have l:∀n,cU ρ (a++Array.replicate (n-a.size) undef) (Y++Array.replicate (n-Y.size) undef):=λn=>by
  rw[o.size];exact cU.app o (bQ.jT λv m=>by simp at m;rw[m.2];exact VR.undef)
 cases b:P.funcs[f]? with
 |none=>
  have k:P'.funcs[f]?=none:=by
   rw[qc] at b ⊢;rw[T.aib];exact b
  unfold Frame.enter;rw[b,k];exact⟨rfl,l _,abp T _,.nil,.inl ⟨rfl,rfl⟩,⟨rfl,rfl⟩,.none⟩
 |some fn=>
  obtain⟨p,j,i⟩:=T.func f fn b;unfold Frame.enter;rw[b,j];refine⟨rfl, ?_, ?_,.nil,.inl ⟨rfl,rfl⟩,⟨rfl,rfl⟩,.none⟩
  .show cU ρ (a++Array.replicate (fn.ntmps-a.size) undef) (Y++Array.replicate (p.ntmps-Y.size) undef);rw[i.ntmps];exact l _
  .show jm P ρ [.code (fn.body.getD _)] [.code (p.body.getD _)];cases d:fn.body with
   |none=>
    obtain rfl:=i.none d;rw[d];exact abp T _
   |some c=>
    obtain⟨r,g,e⟩:=i.some c d;rw[g,e q];exact .cons (.code _) .nil
theorem agZ{s s':Sem Next}(B:ik P ρ (fr::cs) (R::V))(L:WR ρ w w')(hs:au P P' gU ρ s s') :
  ld P P' ρ w w' (λbase w=>stepG.apply P true fr (cs++base) none s w) (λbase=>stepG.apply P' true R (V++base) none s' w'):=by
 have r:=B.head;have n:(fr.kind ==CallKind.early)=false:=by rw[r.kind.1];rfl
 have k:(R.kind ==CallKind.early)=false:=by rw[r.kind.2];rfl
 have F:(match fr.todo with|.call _ true _ _::_=>CallKind.wrapped|_=>CallKind.normal)=.normal:=by
  have e:=r.todo;revert e;generalize fr.todo=a;generalize R.todo=b;intro e;cases e with
  |nil=>rfl
  |cons x _=>cases x<;>rfl
 have G:(match R.todo with|.call _ true _ _::_=>CallKind.wrapped|_=>CallKind.normal)=.normal:=by
  have e:=r.todo;revert e;generalize fr.todo=a;generalize R.todo=b;intro e;cases e with
  |nil=>rfl
  |cons x _=>cases x<;>rfl
 obtain⟨g,D,H⟩:=hs.run w w' #[] #[] L;rcases H with H|⟨σ,a,j,U,o,I,q,h1,S,z,W,h5,h6,h7,Y⟩
 .refine⟨g,D,.inl λbase t e=> ?_⟩;obtain⟨h,j,mJ,hr,hk⟩:=H t e;have Q:=B.marks L hk;unfold stepG.apply;simp only[hr,pb];refine mb.after _ ?_;cases h with
  |panic v=>exact aaE Q
  |goexit=>exact aaE Q
  |blocked=>exact .stop (.inl rfl)
  |waiting=>exact .stop (.inr rfl)
  |exit c=>exact .ended _ _ _
  |fatal m=>exact agX T m j
  |throw m=>exact .dying rfl rfl
  |unsupported u=>
   cases u<;>first|exact .ended _ _ _|exact aon T _ j
  |stuck s=>exact .ended _ _ _
 .refine⟨g,D,.inr ?_⟩;have p:=B.mono z;have he:EvW w σ (seen P fr.fn I) (seen P' R.fn q):=by rw[r.fn];exact aaD T _ Y
  have E:∀t,Agr w D g t->s.runT P (w.dw t) #[]=(.ok a (j.dw t),I):=λt e=>by rw[h1 t e];simp
  have C:s'.runT P' w' #[]=(.ok U o,q):=by rw[W];simp
  have fin:∀y i,(∀base t,Agr w D g t->stepG.apply P true fr (cs++base) none s (w.dw t)=.go (Gl y base) (j.dw t) (seen P fr.fn I))->(∀base,stepG.apply P' true R (V++base) none s' w'=.go (Gl i base) o (seen P' R.fn q))->GoR P P' σ y i->
    ∃σ y j O i o A,(∀base t,Agr w D g t->stepG.apply P true fr (cs++base) none s (w.dw t)=.go (Gl y base) (j.dw t) O)/\j.drawn=w.drawn+D/\ρ.Le σ/\(∀base,stepG.apply P' true R (V++base) none s' w'=.go (Gl i base) o A)/\WR σ j o/\Kept ρ σ w w' j o/\EvW w σ O A/\GoR P P' σ y i:=
   λy i q1 q2 X=>⟨σ,y,j,_,i,o,_,q1,S,z,q2,h6,h7,he,X⟩
  cases h5 with
  |@value v v' hv=>exact fin (fr.finish v::cs) (R.finish v'::V) (λbase t e=>by unfold stepG.apply;simp only[E t e,pb,n];simp[GStep.after,Gl]) (λbase=>by unfold stepG.apply;simp only[C,pb,k];simp[GStep.after,Gl]) (GoR.of (B.put z ((r.mono z).finish hv) (fM _ _)))
  |skip=>exact fin (fr.finish undef::cs) (R.finish undef::V) (λbase t e=>by unfold stepG.apply;simp only[E t e,pb,n];simp[GStep.after,Gl]) (λbase=>by unfold stepG.apply;simp only[C,pb,k];simp[GStep.after,Gl]) (GoR.of (B.put z ((r.mono z).finish VR.undef) (fM _ _)))
  |@enter f a0 K M=>
   refine fin (Frame.enter P f a0 .normal::fr::cs) (Frame.enter P' f K .normal::R::V) (λbase t e=>by unfold stepG.apply;simp only[E t e,pb,n];simp[GStep.after,Gl];exact fi (Frame.enter P f _) F) (λbase=>by unfold stepG.apply;simp only[C,pb,k];simp[GStep.after,Gl];exact fi (Frame.enter P' f _) G) ?_;cases N:gH f with
   |true=>exact .inr ⟨f,_,_,_,_,N,M,p,rfl,rfl⟩
   |false=>exact .inl (.cons (agY T N M) p)
  |@round l l' Z f tm J e c d=>
   exact fin (Frame.round l f tm (gP c) (gP d) .normal::fr::cs) (Frame.round l' f J c d .normal::R::V) (λbase t e=>by unfold stepG.apply;simp only[E t e,pb,n];simp[GStep.after,Gl]) (λbase=>by unfold stepG.apply;simp only[C,pb,k];simp[GStep.after,Gl])
    (.inl (.cons (atB Z f e c d) p))
end
section
variable {P P':Program} {ρ σ:Ren} {w w':World}
def GlR(ρ:Ren):Prop:=∀g∈gL,ρ.r g g
def GlR.mono(h:ρ.Le σ)(x:GlR ρ):GlR σ:=λg a=>h.r (x g a)
def akB{l l':Nat}(h:ρ.r l l'){j a:Option Code}(b:j=a.map gP):au P P' VR ρ (Instr.endRound l j) (Instr.endRound l' a):=by
 unfold Instr.endRound;refine ag (lZ h) λσ x q f c=> ?_;have g:j.isNone=a.isNone:=by subst b;cases a<;>rfl
 rw[g];cases c with
 |loop p o e k n i m d=>
  exact ag (iq (f.r h) (.loop rfl b e k n i m d)) λ_ _ _ _ _=>ai (.bool _)
def aoo{l l':Nat}(h:ρ.r l l'):au P P' (λ_ q m=>q=m.map gP) ρ (Instr.endLoop l) (Instr.endLoop l'):=by
 unfold Instr.endLoop;refine ag (lZ h) λσ x n e b=> ?_;cases b with
 |loop i a d g k f j c=>
  rw[i];refine aP (λ_=>dy _) λ_=> ?_;exact ag (iq (e.r h) (.loop rfl a d g k f j c)) λ_ _ _ _ _=>ai a
def ag0(h:NR ρ r L):au P P' gU ρ (do r.elim (stuck "beginRound: no round") Instr.beginRound;pure .skip) (do L.elim (stuck "beginRound: no round") Instr.beginRound;pure .skip):=by
 cases h with
 |none=>exact .halt _ _
 |some h=>
  refine agV ?_;show au P P' je ρ (Instr.beginRound _) (Instr.beginRound _);unfold Instr.beginRound;refine ag (lZ h) λσ x m e a=> ?_;cases a with
  |loop i c d g k f j b=>
   refine ag (iq (e.r h) (.loop rfl c d g k f j b)) λl _ _ _ _=> ?_;rw[i];split
   .exact ai rfl
   .exact dy _
   .exact dy _
   .exact dy _
def aam(e:Operand->Value)(a:Operand)(l:Nat)(h:∀v,e (.const v)=v):resolve e ⟨.value a,#[.const (.func (.yield l) #[] #[])],#[]⟩ 0=Deferred.ofValue (e a) #[.func (.yield l) #[] #[]]:=by
 unfold resolve;simp[h]
def EnR(ρ:Ren)(x x':Nat×List Deferred):Prop:=ρ.r x.1 x'.1/\CDs ρ x.2 x'.2
def aik(f:FuncId)(n:cU ρ t Y)(d:Array Tmp)(a b:Code)(h:NR ρ r L):au P P' EnR ρ (Instr.enterLoop f t d (gP a) (gP b) r) (Instr.enterLoop f Y d a b L):=by
 unfold Instr.enterLoop;have c:∀(σ:Ren) (q e:Nat×List Deferred),ρ.Le σ->EnR σ q e->au P P' EnR σ (do
   let l<-newObj (.loop ⟨.ready,none,f,t,d,gP a,gP b,q.1⟩)
   pure (l,q.2)) (do
   let l<-newObj (.loop ⟨.ready,none,f,Y,d,a,b,e.1⟩)
   pure (l,e.2)):=λσ q e g k=>by
  refine ag (afP (show OR σ (.loop ⟨.ready,none,f,t,d,gP a,gP b,q.1⟩) (.loop ⟨.ready,none,f,Y,d,a,b,e.1⟩) from .loop rfl rfl rfl (bQ.mono g n) rfl rfl rfl k.1)) λv y o j u=> ?_;exact ai (A:=EnR) (show EnR v (y,q.2) (o,e.2) from⟨u,k.2.mono j⟩)
 cases h with
 |none=>
  exact ag (afP .deferred) λσ x i g m=>c σ (x,[⟨.collected x,#[]⟩]) (i,[⟨.collected i,#[]⟩]) g ⟨m,.cons m .nil⟩
 |some h=>
  refine ag (lZ h) λσ x i g p=> ?_;cases p with
  |loop B w E z D F C s=>exact c σ (_,[]) (_,[]) g ⟨s,.nil⟩
def FrR.env(j:GlR ρ)(h:FrR P ρ fr R):adA ρ fr.eval R.eval:=λx a=>by
 cases x with
 |tmp t=>
  show VR ρ (fr.tmps.getD t undef) (R.tmps.getD t undef);have l:=bQ.size h.tmps;rw[ga,ga];cases e:fr.tmps[t]? with
  |none=>
   have:R.tmps[t]?=none:=by
    rw[qc] at e ⊢;omega
   rw[this];exact VR.undef
  |some v=>
   obtain⟨k,b,d⟩:=bQ.get h.tmps (i:=t) (v:=v) (by rw[dl];exact e);rw[dl] at b;rw[b];exact d
 |const v=>exact agU ρ 5 v a
 |global g=>exact .pointer (.some (.mk (j g (by simpa[bI] using a)) 0 none))
 |func f=>exact .func (.same (.func f) a) .nil .nil
def GoR.jo(h:∀base w,∃o a b,s base w=.ended o a b):ld P P' ρ w w' s s':=ld.bad λbase w=>by
 obtain⟨o,a,b,e⟩:=h base w;rw[e];exact .ended _ _ _
variable (T:Twin P P') (X:aih P P')
include T
theorem axd(a b:Code):gP (.seq a b)=.seq (gP a) (gP b):=by rw[T.pc];rfl
theorem aqo(id:Nat)(a:Code):gP (.block id a)=.block id (gP a):=by rw[T.pc];rfl
theorem atC(a:Code):gP (.loop a)=.loop (gP a):=by rw[T.pc];rfl
theorem aqp(a:Code):gP (.scope a)=.scope (gP a):=by rw[T.pc];rfl
theorem atD:gP .skip=.skip:=by rw[T.pc];rfl
theorem aqq:gP .ret=.ret:=by rw[T.pc];rfl
theorem aqr(l:Nat):gP (.label l)=.label l:=by rw[T.pc];rfl
theorem amT(l:Nat):gP (.exit l)=.exit l:=by rw[T.pc];rfl
theorem atE(l:Nat):gP (.goto l)=.refuse "" :=by rw[T.pc];rfl
theorem atG(c:Operand)(a b:Code):gP (.cond c a b)=if bI gA gL c=true then .cond c (gP a) (gP b) else .refuse "" :=by rw[T.pc];rfl
theorem ag1(f:Operand)(c:Array Tmp)(a b:Code):gP (.rangeFunc f c a b)=if bI gA gL f=true then .rangeFunc f c (gP a) (gP b) else .refuse "" :=by rw[T.pc];rfl
theorem aop{g:Oper->Oper}(c:∀o,(g o).after=o.after)(mixed:Bool)(a:Array Oper)(t:Nat):Region.schedule mixed (a.map g) t=Region.schedule mixed a t:=by
 have j:∀(m:Region.Mode) (b t:Nat) (l:Array Bool) (acc:List Nat),Region.linearise.go m (a.map g) b t l acc=Region.linearise.go m a b t l acc:=by
  intro m b
  induction b with
  |zero=>intro t l acc;rfl
  |succ n f=>
   intro t l acc;unfold Region.linearise.go;have e:∀i,((a.map g)[i]?).map (λo:Oper=>o.after.all λe=>!Region.binds m e||l.getD e.on false)=(a[i]?).map (λo:Oper=>o.after.all λe=>!Region.binds m e||l.getD e.on false):=λi=>by
    rw[qY];cases a[i]? with
    |none=>rfl
    |some o=>simp only[qf,c]
   simp only[tC,e,f]
 have d:Region.departs (a.map g)=Region.departs a:=by
  unfold Region.departs;rw[Array.any_map]
  congr 1
  funext o
  simp only[Function.comp,c]
 unfold Region.schedule Region.linearise;rw[d];simp only[j,tC]
theorem aoq(id:Nat)(a:Array Oper)(c:Bool):(gP (.region id a c)=.region id a c/\ap8 P a a)\/(∃d,gP (.region id a c)=.region id d c/\ap8 P d a/\∀b t,Region.schedule b d t=Region.schedule b a t)\/gP (.region id a c)=.refuse "" :=by
 rw[T.pc];unfold bK;by_cases m:(a.toList.all λo=>lI P gA gL o.op)=true
 .rw[dk m];refine .inl ⟨rfl,rfl,λi o l e f=> ?_⟩;rw[e] at f;obtain rfl:=dq f;refine .inl ⟨rfl,jt.1 m o ?_⟩;exact rS.2 (qw e)
 .rw[be m];by_cases k:(a.toList.all λo=>lI P gA gL o.op||aab gA gL o.op)=true
  .rw[dk k];refine .inr (.inl ⟨_,rfl,⟨by simp,λi o l e f=> ?_⟩,λb t=>aop T (g:=aac gA gL gB) (λo=>by unfold aac;split<;>rfl) b a t⟩);rw[qY,f] at e;obtain rfl:=dq e;have n:=jt.1 k l (rS.2 (qw f));unfold aac;by_cases j:aab gA gL l.op=true
   .rw[dk j];exact .inr ⟨j,rfl⟩
   .rw[be j];simp only[j,uS] at n;exact .inl ⟨rfl,n⟩
  .rw[be k];exact .inr (.inr rfl)
theorem abq  {d : List Deferred}  {k k' : List Item} {m:Bool}  
  (a:ik P ρ (⟨f,t,todo,d,.run,.normal,r⟩::cs) (⟨f,Y,H,I,.run,.normal,L⟩::V)) (b:WR ρ w w') (c:jm P ρ k k')
  (h:∀base w,s base w=.go ⟨⟨f,t,k,d,.run,.normal,r⟩,cs++base,.running,none,none⟩ w #[])
  (e:∀base,s' base=.go ⟨⟨f,Y,k',I,.run,.normal,L⟩,V++base,.running,none,none⟩ w' #[]):ld P P' ρ w w' s s':=
 ld.still b (l:=⟨f,t,k,d,.run,.normal,r⟩::cs) (l':=⟨f,Y,k',I,.run,.normal,L⟩::V) h e (GoR.of (a.put (Ren.Le.refl _) (a.head.at c) rfl))
omit T in
def iz(p:Program)(main:Bool)(fr:Frame)(callers:List Frame)(w:World)(jump:Option Code):GStep:=
 match fr.roundOf with
 |none=>if jump matches none|some .ret then .go {frame:={fr with mode:=.returning},callers,status:=.running,dying:=none} w else .ended (.stuck "exit, goto: no such block or label" (fr.pos p)) w
 |some l=>
  let(r,es):=(Instr.endRound l jump).runT p w #[]
  GStep.after (seen p fr.fn es) <| match r with
  |.ok v w=>doReturn p main fr callers none v w
  |.halt _ w=>.ended (.stuck "range over a function: no such loop" (fr.pos p)) w
theorem ag2(m m':Bool)(C:ik P ρ (fr::cs) (R::V))(G:WR ρ w w')(hm:fr.mode=.run)(j:Option Code)(hj:j=j.map gP) :
  ld P P' ρ w w' (λbase w=>iz P m fr (cs++base) w j) (λbase=>iz P' m' R (V++base) w' j):=by
 have e:=C.head;have q:=e.round;obtain⟨f,t,i,d,F,L,r⟩:=fr;obtain⟨J,E,M,I,W,o,r'⟩:=R;dsimp only at q;cases q with
 |none=>
  unfold iz;dsimp only;have still:=ld.still (P:=P) (P':=P') G (l:=⟨f,t,i,d,.returning,L,none⟩::cs) (l':=⟨J,E,M,I,.returning,o,none⟩::V) (s:=λbase w=>.go ⟨⟨f,t,i,d,.returning,L,none⟩,cs++base,.running,none,none⟩ w #[]) (s':=λbase=>.go ⟨⟨J,E,M,I,.returning,o,none⟩,V++base,.running,none,none⟩ w' #[]) (λ_ _=>rfl) (λ_=>rfl) (GoR.of (C.put (Ren.Le.refl _) ⟨e.fn,e.tmps,e.todo,e.defers,.inr ⟨rfl,rfl⟩,e.kind,e.round⟩ rfl));cases j with
  |none=>exact still
  |some c=>cases c<;>first|exact still|exact ld.bad λ_ w=>.ended _ _ _
 |@some l l' Z=>
  cases C with
  |one h h0=>cases h0
  |cons h b=>
   obtain⟨g,D,H⟩:=(akB (P:=P) (P':=P') Z hj).run w w' #[] #[] G;rcases H with H|⟨σ,a,K,S,O,us,z,h1,Q,A,U,h5,h6,h7,Y⟩
   .refine⟨g,D,.inl λbase t y=> ?_⟩;obtain⟨h,K,mJ,q,B⟩:=H t y;unfold iz;simp only[q];exact mb.after _ (.ended _ _ _)
   .refine⟨g,D,.inr ?_⟩;have B:=e.kind;dsimp only at B;obtain⟨rfl,rfl⟩:=B;have N:=e.fn;dsimp only at N;subst N;have k:∀(p:Program) (m:Bool) (x:Frame) (l:List Frame) (v:Value) (w:World) (tm:Array Value) (td:List Item) (ds:List Deferred) (F:FrameMode) (X:Nat),doReturn p m ⟨f,tm,td,ds,F,.normal,some X⟩ (x::l) none v w=.go ⟨x.finish v,l,.running,none,none⟩ w #[]:=λ_ _ _ _ _ _ _ _ _ _ _=>rfl;obtain⟨x,n,rfl⟩:∃x n,cs=x::n:=by cases b<;>exact⟨_,_,rfl⟩
    obtain⟨x',u,rfl⟩:∃x n,V=x::n:=by cases b<;>exact⟨_,_,rfl⟩
    refine⟨σ,x.finish a::n,K,seen P f us,x'.finish S::u,O,seen P' f z,λbase t y=> ?_,Q,A,λbase=> ?_,h6,h7,aaD T f Y,GoR.of (b.put A ((b.head.mono A).finish h5) (fM _ _))⟩
    .unfold iz;simp only[h1 t y,qS,k];simp[GStep.after,Gl]
    .unfold iz;simp only[U,qS,k];simp[GStep.after,Gl]
theorem ld.seq  {t₁:Tape} {D:Nat} {e : Array Event} (s1:List Frame->World->GStep) (s1':List Frame->GStep) (f:FuncId)
  (r:∀base t,Agr w D t₁ t->s base (w.dw t)=(s1 base (J.dw t)).after (seen P f O)) (A:J.drawn=w.drawn+D) (N:ρ.Le σ) (C:∀base,s' base=(s1' base).after (seen P' f e)) (u:Kept ρ σ w w' J a) (I:EvW w σ O e)
  (H:ld P P' σ J a s1 s1'):ld P P' ρ w w' s s':=by
 obtain⟨g,E,H⟩:=H;have c:∀t,Agr w (D+E) (λi q=>if i<J.drawn then t₁ i q else g i q) t->Agr w D t₁ t/\Agr J E g t:=λt d=>⟨λi q y R=>by
  rw[d i q y (by omega)];exact dk (by omega),λi q y R=>by
  rw[d i q (by omega) (by omega)];exact be (by omega)⟩
 refine⟨λi q=>if i<J.drawn then t₁ i q else g i q,D+E,H.imp (λH base t d=> ?_) ?_⟩
 .rw[r base t (c t d).1];exact mb.after _ (H base t (c t d).2)
 .rintro⟨M,G,S,L,k,m,l,z,Q,p,U,F,K,n,B⟩;have v:=aaD T f I;refine⟨M,G,S,seen P f O++L,k,m,seen P' f e++l,λbase t d=> ?_,by rw[Q,A,uQ],N.trans p,λbase=> ?_,F,u.trans K,⟨?_,λb o x j=> ?_⟩,B⟩
  .rw[r base t (c t d).1,z base t (c t d).2];rfl
  .rw[C,U];rfl
  .rw[pr,pr];exact(v.ev.mono p).app n.ev
  .rw[pr,ge] at j;rcases j with j|j
   .exact v.nw b o x j
   .exact n.nw b (u.frz b o) x j
include X
theorem aze(hg:GlR ρ)(m m':Bool)(A:ik P ρ (fr::cs) (R::V))(C:WR ρ w w')(hm:fr.mode=.run) :
  ld P P' ρ w w' (λbase w=>stepG P m ⟨fr,cs++base,.running,none,none⟩ w) (λbase=>stepG P' m' ⟨R,V++base,.running,none,none⟩ w'):=by
 have lL:=A.head;have a1:=lL.env hg;obtain⟨f,t,aO,d,md,kd,r⟩:=fr;obtain⟨f',B,fe,J,aa,aS,E⟩:=R;obtain⟨h1,h2,h3,h4,h5,h6,h7⟩:=lL;dsimp only at h1 h2 h3 h4 h5 h6 h7 hm;subst h1;subst hm;obtain⟨rfl,rfl⟩:=h6;obtain rfl:aa=.run:=by
  rcases h5 with h5|h5
  .exact h5.2
  .cases h5.1
 cases h3 with
 |nil=>
  have G:∀base w,stepG P m ⟨⟨f,t,[],d,.run,.normal,r⟩,cs++base,.running,none,none⟩ w=iz P m ⟨f,t,[],d,.run,.normal,r⟩ (cs++base) w none:=λ_ _=>rfl;have L:∀base,stepG P' m' ⟨⟨f,B,[],J,.run,.normal,E⟩,V++base,.running,none,none⟩ w'=iz P' m' ⟨f,B,[],J,.run,.normal,E⟩ (V++base) w' none:=λ_=>rfl;simp only[G,L];exact ag2 T m m' A C rfl none rfl
 |@cons x x' k F hx I=>
  cases hx with
  |inBlock id=>exact abq T (m:=m) A C I (λbase w=>by simp[stepG,stepG.exec]) (λbase=>by simp[stepG,stepG.exec])
  |inScope c=>exact abq T (m:=m) A C I (λbase w=>by simp[stepG,stepG.exec]) (λbase=>by simp[stepG,stepG.exec])
  |inLoop c=>exact abq T (m:=m) A C (.cons (.code c) (.cons (.inLoop c) I)) (λbase w=>by simp[stepG,stepG.exec]) (λbase=>by simp[stepG,stepG.exec])
  |inRangeFunc hl=>exact GoR.jo λbase w=>⟨_,_,_,by simp[stepG,stepG.exec];exact⟨rfl,rfl,rfl⟩⟩
  |@endRangeFunc l l' hl=>
   obtain⟨t₁,D,H⟩:=(aoo (P:=P) (P':=P') hl).run w w' #[] #[] C;rcases H with H|⟨σ,a,w1,a',cP,us,a7,h1,h2,h3,h4,h5,h6,ao,h8⟩
   .refine⟨t₁,D,.inl λbase K M=> ?_⟩;obtain⟨h,w1,mJ,hr,a8⟩:=H K M;have Z:=A.marks C a8;simp only[stepG,stepG.exec,hr];refine mb.after _ ?_;cases h<;>first|exact aaE Z|exact .ended _ _ _
   .have hi:jm P σ ((a.map Item.code).toList++k) ((a'.map Item.code).toList++F):=by
     subst h5;cases a' with
     |none=>exact I.mono h3
     |some c=>exact .cons (.code c) (I.mono h3)
    refine⟨t₁,D,.inr ⟨σ,⟨f,t,(a.map Item.code).toList++k,d,.run,.normal,r⟩::cs,w1,seen P f us,⟨f,B,(a'.map Item.code).toList++F,J,.run,.normal,E⟩::V,cP,seen P' f a7,λbase K M=> ?_,h2,h3,λbase=> ?_,h6,ao,aaD T f h8,GoR.of (A.put h3 ((A.head.mono h3).at hi) rfl)⟩⟩
    .simp only[stepG,stepG.exec,h1 K M];simp[GStep.after,Gl]
    .simp only[stepG,stepG.exec,h4];simp[GStep.after,Gl]
  |beginRound=>
   have G:∀base w,stepG P m ⟨⟨f,t,.beginRound::k,d,.run,.normal,r⟩,cs++base,.running,none,none⟩ w=stepG.apply P true ⟨f,t,.beginRound::k,d,.run,.normal,r⟩ (cs++base) none (do r.elim (stuck "beginRound: no round") Instr.beginRound;pure .skip) w:=λ_ _=>rfl;have L:∀base,stepG P' m' ⟨⟨f,B,.beginRound::F,J,.run,.normal,E⟩,V++base,.running,none,none⟩ w'=stepG.apply P' true ⟨f,B,.beginRound::F,J,.run,.normal,E⟩ (V++base) none (do E.elim (stuck "beginRound: no round") Instr.beginRound;pure .skip) w':=λ_=>rfl;simp only[G,L];exact agZ T A C (ag0 h7)
  |@inRegion n u N l=>
   cases l with
   |nil=>exact abq T (m:=m) A C I (λbase w=>by simp[stepG,stepG.exec]) (λbase=>by simp[stepG,stepG.exec])
   |cons i z=>
    have af:=A.head.finish VR.undef;have aN:∀j,yielded n t j=yielded u B j:=λj=>by
     unfold yielded;rw[N.dst j];cases((u[j]?).bind (·.dst)) with
     |none=>rfl
     |some x=>
      show(match t[x]? with|some (.bool b)=>some b|_=>none)=(match B[x]? with|some (.bool b)=>some b|_=>none);have hs:=bQ.size h2;cases e:t[x]? with
      |none=>
       have:B[x]?=none:=by
        rw[qc] at e ⊢;omega
       rw[this]
      |some v=>
       obtain⟨v',G,L⟩:=bQ.get h2 (i:=x) (v:=v) (by rw[dl];exact e);rw[dl] at G;rw[G];cases L<;>first|rfl|(cases v'<;>first|rfl|(cases(by assumption:jh _=true);done))
    have skip:(((n[i]?).map (Region.wanted · (yielded n t))).getD false=false)->(((u[i]?).map (Region.wanted · (yielded u B))).getD false=false)->ld P P' ρ w w' (λbase w=>stepG P m ⟨⟨f,t,.inRegion n (i::z)::k,d,.run,.normal,r⟩,cs++base,.running,none,none⟩ w) (λbase=>stepG P' m' ⟨⟨f,B,.inRegion u (i::z)::F,J,.run,.normal,E⟩,V++base,.running,none,none⟩ w'):=λG L=>
     ld.still C (l:=_::cs) (l':=_::V) (λbase w=>by simp only[stepG,stepG.exec,G];rfl) (λbase=>by simp only[stepG,stepG.exec,L];rfl) (GoR.of (A.put (Ren.Le.refl _) af (fM _ _)))
    cases eo:n[i]? with
    |none=>
     have W:u[i]?=none:=by
      have:=N.1;rw[qc] at eo ⊢;omega
     exact skip (by rw[eo];rfl) (by rw[W];rfl)
    |some o=>
     obtain⟨U,W⟩:∃U,u[i]?=some U:=by
      have:=(de.1 eo).1;have:=N.1;exact⟨_,fm (by omega)⟩
     have a2:=N.2 i o U eo W;have ay:o.guard=U.guard:=by rcases a2 with⟨rfl,_⟩|⟨_,rfl⟩<;>rfl
     have a4:Region.wanted o (yielded n t)=Region.wanted U (yielded u B):=by
      unfold Region.wanted;rw[ay];cases U.guard with
      |none=>rfl
      |some g=>obtain⟨j,b⟩:=g;show(yielded n t j ==some b)=(yielded u B j ==some b);rw[aN j]
     cases ew:Region.wanted U (yielded u B) with
     |false=>exact skip (by rw[eo];simp[a4,ew]) (by rw[W];simp[ew])
     |true=>
      rw[ew] at a4;have nd:(∀c,o.op ≠ .defer c)/\∀c,U.op ≠ .defer c:=by
       rcases a2 with⟨rfl,O⟩|⟨Y,rfl⟩
       .have:∀c,o.op ≠ .defer c:=λc e=>by rw[e] at O;unfold lI at O;simp at O
        exact⟨this,this⟩
       .have:∀c,U.op ≠ .defer c:=λc e=>by rw[e] at Y;cases Y
        exact⟨this,this⟩
      have a5:au P P' gU ρ (execOp (Frame.eval ⟨f,t,.inRegion n (i::z)::k,d,.run,.normal,r⟩) o) (execOp (Frame.eval ⟨f,B,.inRegion u (i::z)::F,J,.run,.normal,E⟩) U):=by
       rcases a2 with⟨rfl,O⟩|⟨Y,an⟩
       .exact aqm T X O a1
       .exact aBJ T X Y an a1
      have G:∀base w,stepG P m ⟨⟨f,t,.inRegion n (i::z)::k,d,.run,.normal,r⟩,cs++base,.running,none,none⟩ w=stepG.apply P true ⟨f,t,.inRegion n (i::z)::k,d,.run,.normal,r⟩ (cs++base) none (execOp (Frame.eval ⟨f,t,.inRegion n (i::z)::k,d,.run,.normal,r⟩) o) w:=λbase w=>by
       simp only[stepG,stepG.exec,eo,qf,qi,a4,pb,stepG.oper,Frame.oper?];cases r with
       |none=>rfl
       |some l0=>
        have:=nd.1;split
        .rename_i S;exact absurd S (this _)
        .rfl
      have L:∀base,stepG P' m' ⟨⟨f,B,.inRegion u (i::z)::F,J,.run,.normal,E⟩,V++base,.running,none,none⟩ w'=stepG.apply P' true ⟨f,B,.inRegion u (i::z)::F,J,.run,.normal,E⟩ (V++base) none (execOp (Frame.eval ⟨f,B,.inRegion u (i::z)::F,J,.run,.normal,E⟩) U) w':=λbase=>by
       simp only[stepG,stepG.exec,W,qf,qi,ew,pb,stepG.oper,Frame.oper?];cases E with
       |none=>rfl
       |some l0=>
        have:=nd.2;split
        .rename_i S;exact absurd S (this _)
        .rfl
      simp only[G,L];exact agZ T A C a5
  |code c=>
   cases c with
   |skip=>rw[atD T] at *;exact abq T (m:=m) A C I (λbase w=>by simp[stepG,stepG.exec]) (λbase=>by simp[stepG,stepG.exec])
   |label l=>rw[aqr T] at *;exact abq T (m:=m) A C I (λbase w=>by simp[stepG,stepG.exec]) (λbase=>by simp[stepG,stepG.exec])
   |seq a b=>rw[axd T] at *;exact abq T (m:=m) A C (.cons (.code a) (.cons (.code b) I)) (λbase w=>by simp[stepG,stepG.exec]) (λbase=>by simp[stepG,stepG.exec])
   |block id a=>rw[aqo T] at *;exact abq T (m:=m) A C (.cons (.code a) (.cons (.inBlock id) I)) (λbase w=>by simp[stepG,stepG.exec]) (λbase=>by simp[stepG,stepG.exec])
   |loop a=>rw[atC T] at *;exact abq T (m:=m) A C (.cons (.code a) (.cons (.inLoop a) I)) (λbase w=>by simp[stepG,stepG.exec]) (λbase=>by simp[stepG,stepG.exec])
   |scope a=>rw[aqp T] at *;exact abq T (m:=m) A C (.cons (.code a) (.cons (.inScope a) I)) (λbase w=>by simp[stepG,stepG.exec]) (λbase=>by simp[stepG,stepG.exec])
   |refuse s=>rw[afW T] at *;exact GoR.jo λbase w=>⟨_,_,_,by simp[stepG,stepG.exec];exact⟨rfl,rfl,rfl⟩⟩
   |goto l=>rw[atE T] at *;exact GoR.jo λbase w=>⟨_,_,_,by simp[stepG,stepG.exec];exact⟨rfl,rfl,rfl⟩⟩
   |cond c a b=>
    rw[atG T] at *;by_cases S:bI gA gL c=true
    .rw[dk S] at *;have hv:=a1 c S;generalize a0:Frame.eval ⟨f,t,.code (.cond c (gP a) (gP b))::k,d,.run,.normal,r⟩ c=v at hv;generalize aJ:Frame.eval ⟨f,B,.code (.cond c a b)::F,J,.run,.normal,E⟩ c=v' at hv;cases hv with
     |bool q=>
      have hi:jm P ρ (.code (if q=true then gP a else gP b)::k) (.code (if q=true then a else b)::F):=by
       cases q with
       |true=>exact .cons (.code a) I
       |false=>exact .cons (.code b) I
      exact abq T (m:=m) A C hi (λbase w=>by simp[stepG,stepG.exec,a0]) (λbase=>by simp[stepG,stepG.exec,aJ])
     |aa8=>exact GoR.jo λbase w=>⟨_,_,_,by unfold an3 at a0;simp[stepG,stepG.exec,a0];first|exact⟨rfl,rfl,rfl⟩|rfl⟩
     |_=>exact GoR.jo λbase w=>⟨_,_,_,by simp[stepG,stepG.exec,a0];exact⟨rfl,rfl,rfl⟩⟩
    .rw[be S] at *;exact GoR.jo λbase w=>⟨_,_,_,by simp[stepG,stepG.exec];exact⟨rfl,rfl,rfl⟩⟩
   |exit id=>
    rw[amT T] at *;rcases I.exit id with⟨x1,x2⟩|⟨l,l',x1,x2,hl⟩
    .have G:∀base w,stepG P m ⟨⟨f,t,.code (.exit id)::k,d,.run,.normal,r⟩,cs++base,.running,none,none⟩ w=iz P m ⟨f,t,.code (.exit id)::k,d,.run,.normal,r⟩ (cs++base) w (some (.exit id)):=λbase w=>by simp[stepG,stepG.exec,x1,iz];rfl
     have L:∀base,stepG P' m' ⟨⟨f,B,.code (.exit id)::F,J,.run,.normal,E⟩,V++base,.running,none,none⟩ w'=iz P' m' ⟨f,B,.code (.exit id)::F,J,.run,.normal,E⟩ (V++base) w' (some (.exit id)):=λbase=>by simp[stepG,stepG.exec,x2,iz];rfl
     simp only[G,L];exact ag2 T m m' A C rfl (some (.exit id)) (by rw[qf,amT T])
    .exact abq T (m:=m) A C hl (λbase w=>by simp[stepG,stepG.exec,x1]) (λbase=>by simp[stepG,stepG.exec,x2])
   |ret=>
    rw[aqq T] at *;have G:∀base w,stepG P m ⟨⟨f,t,.code .ret::k,d,.run,.normal,r⟩,cs++base,.running,none,none⟩ w=iz P m ⟨f,t,.code .ret::k,d,.run,.normal,r⟩ (cs++base) w (some .ret):=λ_ _=>rfl;have L:∀base,stepG P' m' ⟨⟨f,B,.code .ret::F,J,.run,.normal,E⟩,V++base,.running,none,none⟩ w'=iz P' m' ⟨f,B,.code .ret::F,J,.run,.normal,E⟩ (V++base) w' (some .ret):=λ_=>rfl;simp only[G,L];exact ag2 T m m' A C rfl (some .ret) (by rw[qf,aqq T])
   |region id n draw=>
    rcases aoq T id n draw with⟨e,N⟩|⟨Q,e,N,aM⟩|e
    .rw[e] at *;cases draw with
     |false=>exact abq T (m:=m) A C (.cons (.inRegion N (List.range n.size)) I) (λbase w=>by simp[stepG,stepG.exec]) (λbase=>by simp[stepG,stepG.exec])
     |true=>
      have G:∀(p:Program) (q:Question) (w:World),q.forced=false->(choose q).run p w=.ok (q.cut (w.tape w.drawn q)) {w with drawn:=w.drawn+1}:=λp q w hq=>by
       unfold choose;rw[Sem.run,hq];rfl
      obtain⟨q1,q2⟩:=C.ask 1 1;have hi:jm P ρ (.inRegion n (Region.schedule (P.follows .mixedOrders) n (w'.tape w'.drawn (.order f id)))::k) (.inRegion n (Region.schedule (P'.follows .mixedOrders) n (w'.tape w'.drawn (.order f id)))::F):=by
       rw[T.follows];exact .cons (.inRegion N _) I
      refine⟨λ_ _=>w'.tape w'.drawn (.order f id),1,.inr ⟨ρ,⟨f,t,.inRegion n (Region.schedule (P.follows .mixedOrders) n (w'.tape w'.drawn (.order f id)))::k,d,.run,.normal,r⟩::cs,{w with drawn:=w.drawn+1},#[],⟨f,B,.inRegion n (Region.schedule (P'.follows .mixedOrders) n (w'.tape w'.drawn (.order f id)))::F,J,.run,.normal,E⟩::V,{w' with drawn:=w'.drawn+1},#[],λbase K M=> ?_,rfl,Ren.Le.refl _,λbase=> ?_,q1,q2,.nil _ _,GoR.of (A.put (Ren.Le.refl _) (A.head.at hi) rfl)⟩⟩
      .have hd:=M w.drawn (.order f id) (am _) (by omega);simp only[stepG,stepG.exec,G P (.order f id) (w.dw K) rfl];show GStep.go _ _ _=_;have:(w.dw K).tape (w.dw K).drawn (.order f id)=w'.tape w'.drawn (.order f id):=hd;simp only[Question.cut,this];rfl
      .simp only[stepG,stepG.exec,G P' (.order f id) w' rfl];rfl
    .rw[e] at *;have ad:List.range Q.size=List.range n.size:=by rw[N.1]
     cases draw with
     |false=>exact abq T (m:=m) A C (.cons (.inRegion N (List.range n.size)) I) (λbase w=>by simp[stepG,stepG.exec,ad]) (λbase=>by simp[stepG,stepG.exec])
     |true=>
      have G:∀(p:Program) (q:Question) (w:World),q.forced=false->(choose q).run p w=.ok (q.cut (w.tape w.drawn q)) {w with drawn:=w.drawn+1}:=λp q w hq=>by
       unfold choose;rw[Sem.run,hq];rfl
      obtain⟨q1,q2⟩:=C.ask 1 1;have hi:jm P ρ (.inRegion Q (Region.schedule (P.follows .mixedOrders) Q (w'.tape w'.drawn (.order f id)))::k) (.inRegion n (Region.schedule (P'.follows .mixedOrders) n (w'.tape w'.drawn (.order f id)))::F):=by
       rw[T.follows,aM];exact .cons (.inRegion N _) I
      refine⟨λ_ _=>w'.tape w'.drawn (.order f id),1,.inr ⟨ρ,⟨f,t,.inRegion Q (Region.schedule (P.follows .mixedOrders) Q (w'.tape w'.drawn (.order f id)))::k,d,.run,.normal,r⟩::cs,{w with drawn:=w.drawn+1},#[],⟨f,B,.inRegion n (Region.schedule (P'.follows .mixedOrders) n (w'.tape w'.drawn (.order f id)))::F,J,.run,.normal,E⟩::V,{w' with drawn:=w'.drawn+1},#[],λbase K M=> ?_,rfl,Ren.Le.refl _,λbase=> ?_,q1,q2,.nil _ _,GoR.of (A.put (Ren.Le.refl _) (A.head.at hi) rfl)⟩⟩
      .have hd:=M w.drawn (.order f id) (am _) (by omega);simp only[stepG,stepG.exec,G P (.order f id) (w.dw K) rfl];show GStep.go _ _ _=_;have:(w.dw K).tape (w.dw K).drawn (.order f id)=w'.tape w'.drawn (.order f id):=hd;simp only[Question.cut,this];rfl
      .simp only[stepG,stepG.exec,G P' (.order f id) w' rfl];rfl
    .rw[e] at *;exact GoR.jo λbase w=>⟨_,_,_,by simp[stepG,stepG.exec];exact⟨rfl,rfl,rfl⟩⟩
   |rangeFunc fo ps a b=>
    rw[ag1 T] at *;by_cases S:bI gA gL fo=true
    .rw[dk S] at *;obtain⟨t₁,D,H⟩:=(aik (P:=P) (P':=P') f h2 ps a b h7).run w w' #[] #[] C;rcases H with H|⟨σ,q,w1,q',cP,us,a7,g1,g2,g3,g4,g5,g6,g7,g8⟩
     .refine⟨t₁,D,.inl λbase K M=> ?_⟩;obtain⟨h,w1,mJ,hr,a8⟩:=H K M;simp only[stepG,stepG.exec,hr];exact mb.after _ (.ended _ _ _)
     .obtain⟨lp,mk⟩:=q;obtain⟨a3,mk'⟩:=q';obtain⟨a6,Z⟩:=g5;dsimp only at a6 Z;have ax:∀{x x' y y':List Deferred},CDs σ x x'->CDs σ y y'->CDs σ (x++y) (x'++y'):=by
       intro x x' y y' hx hy
       induction hx with
       |nil=>exact hy
       |cons hb _ ih=>exact .cons hb ih
      have a9:ik P σ (⟨f,t,.inRangeFunc lp::k,mk++d,.run,.normal,r⟩::cs) (⟨f,B,.inRangeFunc a3::F,mk'++J,.run,.normal,E⟩::V):=
       A.put g3 ⟨rfl,bQ.mono g3 h2,.cons (.inRangeFunc a6) (I.mono g3),ax Z (h4.mono g3),.inl ⟨rfl,rfl⟩,⟨rfl,rfl⟩,h7.mono g3⟩ rfl
      have al:=a9.head.env (hg.mono g3);have a5:=amS T X (al fo S) (args:=#[.func (.yield lp) #[] #[]]) (args':=#[.func (.yield a3) #[] #[]]) (.cons (.func (.yield a6) .nil .nil) .nil);refine ld.seq T (s1:=λbase w=>stepG.apply P true ⟨f,t,.inRangeFunc lp::k,mk++d,.run,.normal,r⟩ (cs++base) none _ w) (s1':=λbase=>stepG.apply P' true ⟨f,B,.inRangeFunc a3::F,mk'++J,.run,.normal,E⟩ (V++base) none _ cP) f (t₁:=t₁) (D:=D) (λbase K M=> ?_) g2 g3 (λbase=> ?_) g7 g8 (agZ T a9 g6 a5)
      .simp only[stepG,stepG.exec,g1 K M,Array.empty_append];rw[aam _ _ _ λ_=>rfl]
      .simp only[stepG,stepG.exec,g4,Array.empty_append];rw[aam _ _ _ λ_=>rfl]
    .rw[be S] at *;exact GoR.jo λbase w=>⟨_,_,_,by simp[stepG,stepG.exec];exact⟨rfl,rfl,rfl⟩⟩
end
def oD(l:List Frame):Prop:=∃a,l=[a]/\a.mode=.returning/\a.defers=[]/\a.kind=.normal
section
variable {P P':Program} {ρ σ:Ren} {w w':World}
def aer{l l':Nat}(h:ρ.r l l'):au P P' (λ_ q b=>q=[]/\b=[]) ρ (Instr.takeDeferred l) (Instr.takeDeferred l'):=by
 unfold Instr.takeDeferred;refine ag (dZ h) λσ x d c a=> ?_;cases a with
 |deferred=>exact ag (iq (c.r h) .bA) λ_ _ _ _ _=>ai ⟨rfl,rfl⟩
 |_=>exact .halt _ _
variable (T:Twin P P') (X:aih P P')
include T
theorem ail:∀(l:List ResultVar) {ρ:Ren} {t b:Array Value},cU ρ t b->au P P' bQ ρ (l.mapM fun
  |.tmp k=>pure (t.getD k undef)
  |.cell a c=>do loadVar c (<-asAddr (t.getD a undef))) (l.mapM fun
  |.tmp k=>pure (b.getD k undef)
  |.cell a c=>do loadVar c (<-asAddr (b.getD a undef)))
 |[],_,_,_,_=>by
  rw[List.mapM_nil,List.mapM_nil];exact ai .nil
 |x::l,ρ,t,b,h=>by
  have g:∀(σ:Ren) (k:Nat),ρ.Le σ->VR σ (t.getD k undef) (b.getD k undef):=λσ k d=>by
   have y:=bQ.size h;rw[ga,ga];cases e:t[k]? with
   |none=>
    have:b[k]?=none:=by
     rw[qc] at e ⊢;omega
    rw[this];exact VR.undef
   |some v=>
    obtain⟨m,j,n⟩:=bQ.get h (i:=k) (v:=v) (by rw[dl];exact e);rw[dl] at j;rw[j];exact n.mono d
  rw[vL,vL];refine ag (A:=VR) ?_ λσ v m d r=>ag (ail l (bQ.mono d h)) λs u q o f=>ai (.cons (r.mono o) f);cases x with
  |tmp k=>exact ai (g ρ k (Ren.Le.refl _))
  |cell a c=>exact ag (aid (g ρ a (Ren.Le.refl _))) λσ x w d p=>afQ T c p
theorem afX{fn g:Func}(k:g.results=fn.results)(h:cU ρ t Y):au P P' VR ρ (results fn t) (results g Y):=by
 unfold results;rw[k,tP,tP,map_eq_pure_bind,map_eq_pure_bind];refine ag (A:=cU) (ag (ail T fn.results.toList h) λ_ _ _ _ b=>ai (A:=cU) b) λσ c a m b=> ?_;have n:c.size=a.size:=bQ.size b;refine ai ?_;by_cases e:c.size=1
 .have d:a.size=1:=by omega
  rw[tu e,tu d];obtain⟨l,f,j⟩:=bQ.get b (i:=0) (v:=c[0]) (by rw[dl];exact fm (by omega));rw[dl,fm (by omega)] at f;obtain rfl:=dq f;exact j
 .have d:¬a.size=1:=by omega
  rw[dif_neg e,dif_neg d];exact .tuple b
theorem azg(m m':Bool)(hS:ik P ρ (fr::cs) (R::V))(O:WR ρ w w')(hm:fr.mode=.returning)(hn:fr.defers≠[]\/cs≠[]) :
  ld P P' ρ w w' (λbase w=>stepG P m ⟨fr,cs++base,.running,none,none⟩ w) (λbase=>stepG P' m' ⟨R,V++base,.running,none,none⟩ w'):=by
 have lL:=hS.head;obtain⟨f,t,E,d,md,kd,r⟩:=fr;obtain⟨f',I,fe,d',L,a1,r'⟩:=R;obtain⟨G,o,h3,h4,A,h6,h7⟩:=lL;dsimp only at G o h3 h4 A h6 h7 hm hn;subst G;subst hm;obtain⟨rfl,rfl⟩:=h6;obtain rfl:L=.returning:=by
  rcases A with A|A
  .cases A.1
  .exact A.2
 cases h4 with
 |@cons b b' ds N hb hl=>
  obtain⟨g,D,H⟩:=(aer (P:=P) (P':=P') hb).run w w' #[] #[] O;rcases H with H|⟨σ,a,F,a',J,S,s,Y,W,k,Q,g5,U,M,X⟩
  .refine⟨g,D,.inl λbase u q=> ?_⟩;obtain⟨h,F,mJ,Z,K⟩:=H u q;simp only[stepG,unwind,Z];exact mb.after _ (.ended _ _ _)
  .obtain⟨rfl,rfl⟩:=g5;refine⟨g,D,.inr ⟨σ,⟨f,t,E,ds,.returning,.normal,r⟩::cs,F,seen P f S,⟨f,I,fe,N,.returning,.normal,r'⟩::V,J,seen P' f s,λbase u q=> ?_,W,k,λbase=> ?_,U,M,aaD T f X,
    GoR.of (hS.put k ⟨rfl,bQ.mono k o,h3.mono k,hl.mono k,.inr ⟨rfl,rfl⟩,⟨rfl,rfl⟩,h7.mono k⟩ rfl)⟩⟩
   .simp only[stepG,unwind,Y u q];simp[GStep.after,Gl]
   .simp only[stepG,unwind,Q];simp[GStep.after,Gl]
 |nil=>
  have a0:cs≠[]:=hn.resolve_left λh=>h rfl;cases hS with
  |one h h0=>exact absurd rfl a0
  |cons h j=>
   obtain⟨x,B,rfl⟩:∃x B,cs=x::B:=by cases j<;>exact⟨_,_,rfl⟩
   obtain⟨x',C,rfl⟩:∃x B,V=x::B:=by cases j<;>exact⟨_,_,rfl⟩
   have n:∀(p:Program) (m:Bool) (x:Frame) (l:List Frame) (v:Value) (w:World) (tm:Array Value) (td:List Item) (r:Option Nat),doReturn p m ⟨f,tm,td,[],.returning,.normal,r⟩ (x::l) none v w=.go ⟨x.finish v,l,.running,none,none⟩ w #[]:=λ_ _ _ _ _ _ _ _ _=>rfl;cases z:P.funcs[f]? with
   |none=>
    have y:P'.funcs[f]?=none:=by
     rw[qc] at z ⊢;rw[T.aib];exact z
    have hv:VR ρ (t.getD 0 undef) (I.getD 0 undef):=by
     have hz:=bQ.size o;rw[ga,ga];cases e:t[0]? with
     |none=>
      have:I[0]?=none:=by
       rw[qc] at e ⊢;omega
      rw[this];exact VR.undef
     |some v=>
      obtain⟨v',G,o⟩:=bQ.get o (i:=0) (v:=v) (by rw[dl];exact e);rw[dl] at G;rw[G];exact o
    refine ld.still O (l:=x.finish (t.getD 0 undef)::B) (l':=x'.finish (I.getD 0 undef)::C) (λbase w=> ?_) (λbase=> ?_) (GoR.of (j.put (Ren.Le.refl _) (j.head.finish hv) (fM _ _)))
    .simp only[stepG,unwind,z,qS,n,Gl]
    .simp only[stepG,unwind,y,qS,n,Gl]
   |some fn=>
    obtain⟨cX,y,hR⟩:=T.func f fn z;obtain⟨g,D,H⟩:=(afX T hR.results o).run w w' #[] #[] O;rcases H with H|⟨σ,a,F,a',J,S,s,Y,W,k,Q,g5,U,M,X⟩
    .refine⟨g,D,.inl λbase u q=> ?_⟩;obtain⟨h,F,mJ,Z,K⟩:=H u q;simp only[stepG,unwind,z,Z];refine mb.after _ ?_;cases h<;>exact .ended _ _ _
    .refine⟨g,D,.inr ⟨σ,x.finish a::B,F,seen P f S,x'.finish a'::C,J,seen P' f s,λbase u q=> ?_,W,k,λbase=> ?_,U,M,aaD T f X,GoR.of (j.put k ((j.head.mono k).finish g5) (fM _ _))⟩⟩
     .simp only[stepG,unwind,z,Y u q,qS,n];simp[GStep.after,Gl]
     .simp only[stepG,unwind,y,Q,qS,n];simp[GStep.after,Gl]
include X
theorem axi(j:GlR ρ)(m m':Bool)(a:ik P ρ l l')(d:WR ρ w w')(k:¬oD l) :
  ld P P' ρ w w' (λbase w=>stepG P m (Gl l base) w) (λbase=>stepG P' m' (Gl l' base) w'):=by
 obtain⟨f,n,rfl⟩:∃x c,l=x::c:=by cases a<;>exact⟨_,_,rfl⟩
 obtain⟨p,g,rfl⟩:∃x c,l'=x::c:=by cases a<;>exact⟨_,_,rfl⟩
 rcases a.head.mode with b|b
 .exact aze T X j m m' a d b.1
 .refine azg T m m' a d b.1 ?_;refine qz λh=>k ?_;have o:f.defers=[]:=qz λe=>h (.inl e);have i:n=[]:=qz λe=>h (.inr e);subst i;exact⟨f,rfl,b.1,o,a.head.kind.1⟩
end
def gV(dst:Option Tmp)(op:Op)(t:TypeId):Oper:={dst,op,type:=t,pos:= "",after:=#[],guard:=none}
abbrev cx:FuncId:=41
abbrev nCC:FuncId:=151
def cf:Code->Code
 |.seq _ b=>b
 |c=>c
noncomputable def cI:Code:=cf (cf (cf (cf (cf (f41.body.getD .skip)))))
def atH(r:Nat)(ops:Array Oper)(t:Tmp):Code:=.seq (.region r ops false) (.cond (.tmp t) .skip (.refuse ""))
def aaF(r:Nat)(ops:Array Oper)(t:Tmp):Code:=.seq (.region r ops false) (.cond (.tmp t) (.refuse "") .skip)
def aaG(d:Tmp)(x y:Operand):Oper:=gV (some d) (.binOp .lss 3 x y 3) 4
def atI(d:Tmp)(x y:Operand):Oper:=gV (some d) (.binOp .eql 3 x y 3) 4
def atJ(d:Tmp)(x:Operand):Oper:=gV (some d) (.binOp .mul 3 x (.const (.int .i64 1)) 3) 3
def atK(d:Tmp)(x:Operand):Oper:=gV (some d) (.binOp .add 3 x (.const (.int .i64 1)) 3) 3
def aqt(d:Tmp)(x:Tmp)(ty:TypeId):Oper:=gV (some d) (.call ⟨.builtin .len,#[.tmp x],#[ty]⟩) 3
def atM(d:Tmp)(x:Tmp)(ty:TypeId):Oper:=gV (some d) (.call ⟨.builtin .cap,#[.tmp x],#[ty]⟩) 3
def aor(d:Tmp)(n:Int):Oper:=gV (some d) (.assign (.const (.int .i64 n))) 3
abbrev kOp(n:Int):Operand:=.const (.int .i64 n)
def avX:Array Oper:=#[
  gV (some 6) (.assign (.const (.slice none 0 0))) 92,
  gV (some 7) (.assign (.const (.bool false))) 4,
  aaG 16 (.tmp 0) (kOp 1)]
def avY:Array Oper:=#[aaG 16 (kOp 99) (.tmp 0)]
def avZ:Array Oper:=#[
  gV (some 16) (.load 153 (.global 0)) 153,
  gV (some 16) (.load 153 (.global 1)) 153,
  aqt 16 1 23,atM 18 1 23,aor 20 0,
  aaG 19 (kOp 9223372036854775807) (.tmp 18)]
def av0:Array Oper:=#[aaG 19 (.tmp 18) (.tmp 16)]
def av1:Array Oper:=#[aaG 21 (.tmp 20) (.tmp 16)]
def av2:Array Oper:=#[
  gV (some 23) (.indexAddr 23 (.tmp 1) (.tmp 20)) 0,
  gV (some 24) (.load 32 (.tmp 23)) 32,
  gV (some 25) (.field 32 (.tmp 24) 0) 3,
  atJ 26 (.tmp 25),atI 22 (.tmp 26) (.tmp 25)]
def av3:Array Oper:=#[
  gV (some 27) (.field 32 (.tmp 24) 1) 30,
  aqt 28 27 30,atM 3 27 30,aaG 4 (.tmp 28) (kOp 1)]
def av4:Array Oper:=#[aaG 4 (kOp 9223372036854775807) (.tmp 3)]
def av5:Array Oper:=#[aaG 4 (.tmp 3) (.tmp 28)]
def azh:Array Oper:=#[aor 5 0]
def av6:Array Oper:=#[aaG 4 (.tmp 5) (.tmp 28)]
def av7:Array Oper:=#[
  gV (some 9) (.indexAddr 30 (.tmp 27) (.tmp 5)) 0,
  gV (some 10) (.load 49 (.tmp 9)) 49,
  gV (some 11) (.field 49 (.tmp 10) 0) 3,
  atJ 13 (.tmp 11),atI 15 (.tmp 13) (.tmp 11)]
def av8:Array Oper:=#[
  gV (some 26) (.field 49 (.tmp 10) 1) 9,
  aqt 25 26 9,aaG 15 (kOp 9223372036854775807) (.tmp 25)]
def av9:Array Oper:=#[atK 22 (.tmp 5),gV (some 5) (.move (.tmp 22)) 3]
def awa:Array Oper:=#[atK 22 (.tmp 20),gV (some 20) (.move (.tmp 22)) 3]
def aqu:Array Oper:=#[aqt 16 2 40,atM 18 2 40,aaG 19 (kOp 2147483647) (.tmp 16)]
def aqv:Array Oper:=#[aaG 19 (kOp 9223372036854775807) (.tmp 18)]
def aqw:Array Oper:=#[aaG 19 (.tmp 18) (.tmp 16)]
def amU:Array Oper:=#[
  gV (some 27) (.makeSlice 125 (.tmp 16) (.tmp 16)) 125,
  aor 28 0]
def awb:Array Oper:=#[aaG 26 (.tmp 28) (.tmp 16)]
def awc:Array Oper:=#[
  gV (some 25) (.indexAddr 40 (.tmp 2) (.tmp 28)) 0,
  gV (some 20) (.load 3 (.tmp 25)) 3,
  atJ 22 (.tmp 20),atI 21 (.tmp 22) (.tmp 20)]
def aim:Array Oper:=#[
  gV (some 24) (.call ⟨.value (.func 74),#[.tmp 0,.tmp 1,.tmp 20],#[3,23,3]⟩) 136,
  gV (some 23) (.indexAddr 125 (.tmp 27) (.tmp 28)) 0,
  gV none (.store 136 (.tmp 23) (.tmp 24)) 0]
def ain:Array Oper:=#[atK 22 (.tmp 28),gV (some 28) (.move (.tmp 22)) 3]
def aio:Array Oper:=#[
  gV (some 17) (.assign (.tmp 27)) 125,
  gV (some 8) (.alloc 125) 0,
  gV none (.store 125 (.tmp 8) (.tmp 17)) 0]
def cK:List Nat:=[3,4,5,9,10,11,13,15,16,18,19,20,21,22,23,24,25,26,27,28]
def ac0:Array Oper:=⟨cK.map λt=>aor t 0⟩
def aaH:Code:=.seq (.region 70 av6 false) (.seq (.cond (.tmp 4) .skip (.exit 52)) (.seq (atH 71 av7 15) (.seq (aaF 72 av8 15) (.region 73 av9 false))))
def aaI:Code:=.seq (.region 60 av1 false) (.seq (.cond (.tmp 21) .skip (.exit 51)) (.seq (atH 61 av2 22) (.seq (aaF 62 av3 4) (.seq (aaF 63 av4 4) (.seq (aaF 64 av5 4) (.seq (.region 65 azh false)
 (.seq (.block 52 (.loop aaH)) (.region 66 awa false))))))))
def lM:Code:=.seq (.region 80 awb false) (.seq (.cond (.tmp 26) .skip (.exit 53)) (.seq (atH 81 awc 21) (.seq (.region 82 aim false) (.region 83 ain false))))
noncomputable def jH:Code:=.seq (aaF 50 avX 16) (.seq (aaF 51 avY 16) (.seq (aaF 52 avZ 19) (.seq (aaF 53 av0 19) (.seq (.block 51 (.loop aaI))
 (.seq (aaF 54 aqu 19) (.seq (aaF 55 aqv 19) (.seq (aaF 56 aqw 19) (.seq (.region 57 amU false) (.seq (.block 53 (.loop lM)) (.seq (.region 58 aio false) (.seq (.region 59 ac0 false) cI)))))))))))
def oF:Array Oper:=#[
  gV none (.call ⟨.builtin .unsafeSlice,#[.tmp 0,.const (.int .i64 1)],#[177,3]⟩) 0,
  gV (some 4) (.fieldAddr 179 (.tmp 0) 0) 0,
  gV (some 5) (.load 177 (.tmp 4)) 177,
  gV (some 6) (.binOp .eql 177 (.tmp 5) (.const (.pointer none)) 177) 4]
def ag3:Array Oper:=#[gV none (.store 177 (.tmp 4) (.tmp 0)) 0]
def akC:Array Oper:=#[
  gV (some 7) (.fieldAddr 179 (.tmp 5) 0) 0,
  gV none (.store 177 (.tmp 7) (.const (.pointer none))) 0,
  gV (some 8) (.load 177 (.tmp 4)) 177,
  gV (some 9) (.binOp .eql 177 (.tmp 8) (.const (.pointer none)) 177) 4]
def mM:Code:=
 .seq (.region 0 oF false)
 (.seq (.cond (.tmp 6) .skip (.seq (.region 2 akC false) (.cond (.tmp 9) .skip (.refuse ""))))
 (.seq (.region 1 ag3 false) .ret))
noncomputable def qFA(β:Bool):Func:={f41 with body:=some (if β then jH else .refuse "")}
noncomputable def qCC:Func:={f151 with body:=some mM}
noncomputable def pf(fn:Func):Func:={fn with body:=fn.body.map gP}
noncomputable def lN(β:Bool):Array Func:=((prog.funcs.map pf).setIfInBounds cx (qFA β)).setIfInBounds nCC qCC
noncomputable def ah(β:Bool):Program:={prog with funcs:=lN β}
section
variable (P:Program) (fs:Array Func)
def jI(t:TypeId):({P with funcs:=fs}:Program).info? t=P.info? t:=rfl
def cG(t:TypeId):({P with funcs:=fs}:Program).underlying t=P.underlying t:=rfl
def adR:({P with funcs:=fs}:Program).depth=P.depth:=rfl
def adS(t:TypeId):({P with funcs:=fs}:Program).cellsOf t=P.cellsOf t:=rfl
def ag4(t:TypeId):({P with funcs:=fs}:Program).bytesOf t=P.bytesOf t:=rfl
def ag5:∀(d:Nat) (t:TypeId),({P with funcs:=fs}:Program).eqGuardType d t=P.eqGuardType d t
 |0,_=>rfl
 |d+1,t=>by
  unfold Program.eqGuardType;rw[cG];simp only[ag5 d]
def abr:∀(d:Nat) (t:TypeId) (n:Nat),byteOfCell {P with funcs:=fs} d t n=byteOfCell P d t n
 |0,_,_=>rfl
 |d+1,t,n=>by
  unfold byteOfCell;rw[cG];simp only[adS,ag4,abr d];rfl
def abt:∀(d:Nat) (t:TypeId) (n:Nat),cellOfByte {P with funcs:=fs} d t n=cellOfByte P d t n
 |0,_,_=>rfl
 |d+1,t,n=>by
  unfold cellOfByte;rw[cG];simp only[adS,ag4,abt d];rfl
def aqx(d:Nat)(e:TypeId)(c o:Nat)(b:Int):cellAtBytes {P with funcs:=fs} d e c o b=cellAtBytes P d e c o b:=by
 unfold cellAtBytes;simp only[adS,ag4,abr,abt];rfl
def adT(t:TypeId):({P with funcs:=fs}:Program).stoodInHeld t=P.stoodInHeld t:=by
 have b:∀(d:Nat) (t u:TypeId),({P with funcs:=fs}:Program).alikeButTags d t u=P.alikeButTags d t u:=by
  intro d
  induction d with
  |zero=>intro t u;rfl
  |succ d a=>
   intro t u;unfold Program.alikeButTags;simp only[jI,a]
 unfold Program.stoodInHeld Program.stoodInAs;simp only[cG,jI,adR,b];rfl
def afY(d:Departure):({P with funcs:=fs}:Program).follows d=P.follows d:=rfl
def aqy(d:Nat)(e:TypeId)(c o:Nat)(u:TypeId)(n:Nat):liesAt {P with funcs:=fs} d e c o u n=liesAt P d e c o u n:=by
 have g:∀(d:Nat) (t u:TypeId),sameLayout {P with funcs:=fs} d t u=sameLayout P d t u:=by
  intro d
  induction d with
  |zero=>intro t u;rfl
  |succ d b=>
   intro t u;unfold sameLayout;simp only[cG,adT,b];rfl
 have f:∀(a:TypeId->Bool) (d:Nat) (e:TypeId) (c o n:Nat),rowAt {P with funcs:=fs} a d e c o n=rowAt P a d e c o n:=by
  intro a d
  induction d with
  |zero=>intro e c o n;rfl
  |succ d b=>
   intro e c o n;unfold rowAt;simp only[cG,adT,adS,b];rfl
 induction d generalizing e c o u n with
 |zero=>rfl
 |succ d b=>
  unfold liesAt;simp only[cG,g,f,b,adR]
end
def cT(v:Value):Prop:=∀a:Ren,VR a v v
def bQ.diag{ρ:Ren}:∀{l b:List Value},bQ ρ l b->l=b->∀c∈l,VR ρ c c
 |_,_,.nil,_,c,a=>by cases a
 |_,_,.cons x y,e,c,a=>by
  simp only[qb] at e;obtain⟨rfl,e⟩:=e;rcases jp.1 a with rfl|a
  .exact x
  .exact y.diag e c a
def cT.cells(h:cT v):∀c∈v.cells.toList,cT c:=λc a b=>(h b).cells.diag rfl c a
def cT.agg{c:Array Value}(h:∀v∈c.toList,cT v):cT (.agg c):=λa=>.agg (bQ.jT λv b=>h v b a)
def StI{β:Type}(I:β->Prop):ForInStep β->Prop
 |.done b=>I b
 |.yield b=>I b
def afZ{e β:Type}{I:β->Prop}:∀(l:List e) {b c:β} {f:e->β->Option (ForInStep β)},forIn l b f=some c->I b->(∀a b r,I b->f a b=some r->StI I r)->I c
 |[],b,c,f,h,hb,_=>by
  rw[tZ] at h;obtain rfl:=dq h;exact hb
 |a::l,b,c,f,h,hb,hf=>by
  rw[tN] at h;cases d:f a b with
  |none=>rw[d] at h;cases h
  |some r=>
   rw[d] at h;have:=hf a b r hb d;cases r with
   |done x=>
    obtain rfl:=dq h;exact this
   |yield x=>exact afZ l h this hf
def aip(hi:∀t i v,K t=some i->i.zero=some v->cT v){D:Array Field}(h:Made.reckonStruct K D=some i):∀v,i.zero=some v->cT v:=by
 unfold Made.reckonStruct at h;dsimp only at h;obtain⟨s,A,h⟩:=mx.1 h;rw[<-tk] at A;have w:=afZ (I:=λs:Array Field×Nat×Nat×Nat×Nat×Bool×Bool×Option (Array Value)×String=>∀k,s.2.2.2.2.2.2.2.1=some k->∀v∈k.toList,cT v) _ A (λk e v l=>by
  obtain rfl:=dq e;cases l) λf st r C g=> ?_
 .intro v l;have y:i.zero=s.2.2.2.2.2.2.2.1.map Value.agg:=by
   split at h<;>(obtain rfl:=dq h;rfl)
  rw[y] at l;cases u:s.2.2.2.2.2.2.2.1 with
  |none=>rw[u] at l;cases l
  |some k=>
   rw[u] at l;obtain rfl:=dq l;exact cT.agg (w k u)
 .obtain⟨j,E,g⟩:=mx.1 g;have n:∀k,(if st.2.1+j.size>Made.mostCells then none else do
     let a<-st.2.2.2.2.2.2.2.1
     let b<-j.zero
     pure (a++b.cells):Option (Array Value))=some k->∀v∈k.toList,cT v:=λk e v l=>by
   split at e
   .cases e
   .obtain⟨a,F,e⟩:=mx.1 e;obtain⟨b,o,e⟩:=mx.1 e;obtain rfl:=dq e;rw[pr,ge] at l;rcases l with l|l
    .exact C a F v l
    .exact(hi _ _ _ E o).cells v l
  have m:∀(z:Option (Array Value)) (a:Array Field) (b c d e:Nat) (p q:Bool) (x:String),(∀k,z=some k->∀v∈k.toList,cT v)->(some (ForInStep.yield (a,b,c,d,e,p,q,z,x)):Option (ForInStep (Array Field×Nat×Nat×Nat×Nat×Bool×Bool×Option (Array Value)×String)))=some r->
    StI (λb=>∀k,b.2.2.2.2.2.2.2.1=some k->∀v∈k.toList,cT v) r:=λz a b c d e p q x y h=>by
   obtain rfl:=dq h;exact y
  split at g
  .cases g
  .split at g
   .cases g
   .split at g
    .obtain⟨B, -,g⟩:=mx.1 g;by_cases o:j.bytes=0
     .rw[dk o] at g;exact m _ _ _ _ _ _ _ _ _ n g
     .rw[be o] at g;exact m _ _ _ _ _ _ _ _ _ n g
    .obtain⟨B, -,g⟩:=mx.1 g;by_cases o:j.bytes=0
     .rw[dk o] at g;exact m _ _ _ _ _ _ _ _ _ n g
     .rw[be o] at g;exact m _ _ _ _ _ _ _ _ _ n g
def aos(hi:∀t i v,K t=some i->i.zero=some v->cT v){d:TypeDesc}(h:Made.reckon K d=some i):∀v,i.zero=some v->cT v:=by
 have f:∀(d:TypeDesc) (s:String) (z:Value) (c:Bool) (b:Nat),cT z->Made.word d s z c b=i->∀v,i.zero=some v->cT v:=λd s z c b m e v a=>by
  subst e;obtain rfl:=dq a;exact m
 unfold Made.reckon at h;cases d with
 |struct u=>exact aip hi h
 |pointer e=>
  obtain⟨j,l,h⟩:=mx.1 h;have fin:∀{o:Option String},(do pure (Made.word (.pointer e) ("*" ++(<-o)) (.pointer none) true))=some i->∀v,i.zero=some v->cT v:=λ{o} h=>by
   obtain⟨s,g,h⟩:=mx.1 h;exact f _ _ _ _ _ (λ_=>.pointer .none) (dq h)
  split at h
  .cases h
  .split at h
   .cases h
   .exact fin h
  .exact fin h
 |slice e=>
  obtain⟨j,l,h⟩:=mx.1 h;obtain⟨s,g,h⟩:=mx.1 h;exact f _ _ _ _ _ (λ_=>.slice .none 0 0) (dq h)
 |map k e=>
  obtain⟨j,l,h⟩:=mx.1 h;obtain⟨s,g,h⟩:=mx.1 h;obtain⟨j,l,h⟩:=mx.1 h;obtain⟨s,g,h⟩:=mx.1 h;exact f _ _ _ _ _ (λ_=>.map .none) (dq h)
 |chan k e=>
  obtain⟨j,l,h⟩:=mx.1 h;obtain⟨s,g,h⟩:=mx.1 h;exact f _ _ _ _ _ (λ_=>.chan .none) (dq h)
 |func w q v=>
  obtain⟨s,g,h⟩:=mx.1 h;exact f _ _ _ _ _ (λ_=>.nilFunc) (dq h)
 |array n e=>
  obtain⟨j,l,h⟩:=mx.1 h;obtain⟨s,g,h⟩:=mx.1 h;obtain rfl:=dq h;intro v a;dsimp only at a;split at a
  .cases a
  .split at a
   .obtain rfl:=dq a;exact cT.agg λv a=>by cases a
   .cases m:j.zero with
    |none=>rw[m] at a;cases a
    |some z=>
     rw[m] at a;obtain rfl:=dq a;refine cT.agg λv a=>(hi _ _ _ l m).cells v ?_;simp only[rS,Array.mem_flatten] at a;obtain⟨r,p,a⟩:=a;rw[Array.mem_replicate] at p;rw[<-p.2];exact rS.2 a
 |_=>cases h
def aot(c:∀(t:Nat) (i:TypeInfo) (v:Value),P.types[t]?=some i->i.zero=some v->cT v):∀t i v,P.info? t=some i->i.zero=some v->cT v:=by
 have b:∀(f:Nat) t i v,Made.infoAt P.toTables f t=some i->i.zero=some v->cT v:=by
  intro f
  induction f with
  |zero=>intro t i v h;cases h
  |succ f e=>
   intro t i v h a;unfold Made.infoAt at h;split at h
   .exact c t i v h a
   .obtain⟨d,hd,h⟩:=mx.1 h;exact aos e h v a
 intro t i v h a;unfold Tables.info? at h;split at h
 .exact c t i v h a
 .exact b _ t i v h a
noncomputable def zOk(t:Nat):Bool:=match prog.types[t]? with
 |some i=>match i.zero with
  |some v=>nE (λ_=>false) 6 v
  |none=>true
 |none=>true
def atO:(List.range prog.types.size).all zOk=true:=by kernel_rfl
def acp:∀(d:Nat) (v:Value),nE (λ_=>false) d v=true->cT v
 |0,v,h=>by cases h
 |d+1,v,h=>by
  have g:∀l:List Value,l.all (nE (λ_=>false) d)=true->∀e:Ren,bQ e l l:=λl i e=>bQ.jT λv j=>acp d v (jt.1 i v j) e;intro e;cases v with
  |bool b=>exact .bool b
  |int k n=>exact .int k n
  |string s=>exact .string s
  |nilFunc=>exact .nilFunc
  |nilIface=>exact .nilIface
  |pointer a=>cases a with
   |none=>exact .pointer .none
   |some a=>cases h
  |slice a n c=>cases a with
   |none=>exact .slice .none n c
   |some a=>cases h
  |map a=>cases a with
   |none=>exact .map .none
   |some a=>cases h
  |chan a=>cases a with
   |none=>exact .chan .none
   |some a=>cases h
  |func f a c=>
   unfold nE at h;simp only[fd] at h;cases f<;>(have:=h.1.1;cases this)
  |iface t v=>exact .iface t (acp d v h e)
  |agg c=>exact .agg (g _ h e)
  |tuple c=>exact .tuple (g _ h e)
  |float|complex=>cases h
def axj:∀t i v,prog.info? t=some i->i.zero=some v->cT v:=aot λt i v h b=>by
 have a:=(de.1 h).1;have:=jt.1 atO t (qh.2 a);unfold zOk at this;rw[h] at this;dsimp only at this;rw[b] at this;exact acp 6 v this
noncomputable def amV(fn:Func):Bool:=!(fn.name == "runtime.NumGoroutine")
def aiq:prog.funcs.toList.all amV=true:=by kernel_rfl
def af0{a:FuncId->Bool}{b:List Nat}{o:Op}(h:lI P a b o=true)(g:Nat):o ≠ .ready g:=λe=>by
 subst e;unfold lI at h;simp at h
def afx(P:Program)(t:FuncId->Bool)(r:List Nat)(s:TypeId):∀c:Code,readies (bK P t r s c)=[]:=by
 intro c
 induction c with
 |region id u draw=>
  unfold bK;have m:∀l:List Oper,(∀o∈l,∀g,o.op ≠ .ready g)->(l.filterMap λo=>match o.op with|.ready g=>some g|_=>none)=[]:=by
   intro l v;rw[List.filterMap_eq_nil_iff];intro o k;split
   .rename_i g e;exact absurd e (v o k g)
   .rfl
  split
  .rename_i h;exact m _ λo k g=>af0 (jt.1 h o k) g
  .split
   .rename_i h;refine m _ λo k g e=> ?_;rw[qC,mT] at k;obtain⟨p,w,rfl⟩:=k;have j:=jt.1 h p w;have q:(aac t r s p).op=p.op:=by unfold aac;split<;>rfl
    rw[q] at e;simp only[qN] at j;rcases j with j|j
    .exact af0 j g e
    .rw[e] at j;cases j
   .rfl
 |seq a b i d=>unfold bK readies;rw[i,d];rfl
 |cond c a b i d=>
  unfold bK;split
  .unfold readies;rw[i,d];rfl
  .rfl
 |rangeFunc f x a b i d=>
  unfold bK;split
  .unfold readies;rw[i,d];rfl
  .rfl
 |block id a n=>unfold bK readies;exact n
 |loop a n=>unfold bK readies;exact n
 |scope a n=>unfold bK readies;exact n
 |_=>rfl
def atP(P:Program)(m:Array Func)(k:FuncId->Bool)(i:List Nat)(j:TypeId):∀c:Code,bK {P with funcs:=m} k i j c=bK P k i j c:=by
 intro c
 induction c with
 |region id l draw=>rfl
 |seq a b e d=>unfold bK;rw[e,d]
 |cond c a b e d=>unfold bK;rw[e,d]
 |rangeFunc f n a b e d=>unfold bK;rw[e,d]
 |block id a g=>unfold bK;rw[g]
 |loop a g=>unfold bK;rw[g]
 |scope a g=>unfold bK;rw[g]
 |_=>rfl
section
variable (β:Bool)
def acr:(ah β).funcs[nCC]?=some qCC:=by
 have:nCC<(prog.funcs.map pf).size:=by rw[tC];exact(de.1 func151).1
 show(((prog.funcs.map pf).setIfInBounds cx (qFA β)).setIfInBounds nCC qCC)[nCC]?=_;rw[pv (by simpa using this)]
def acs:(ah β).funcs[cx]?=some (qFA β):=by
 have:cx<(prog.funcs.map pf).size:=by rw[tC];exact(de.1 func41).1
 show(((prog.funcs.map pf).setIfInBounds cx (qFA β)).setIfInBounds nCC qCC)[cx]?=_;rw[ip (by decide),pv this]
def akD{f:Nat}(a:f≠nCC)(b:f≠cx):(ah β).funcs[f]?=(prog.funcs[f]?).map pf:=by
 show(((prog.funcs.map pf).setIfInBounds cx (qFA β)).setIfInBounds nCC qCC)[f]?=_;rw[ip (sP a),ip (sP b),qY]
def axk:(ah β).funcs.size=prog.funcs.size:=by
 show(((prog.funcs.map pf).setIfInBounds cx (qFA β)).setIfInBounds nCC qCC).size=_;simp
end
def azi:gH nCC=true:=by unfold gH;kernel_rfl
def akE:readies jH=[]:=by kernel_rfl
def azj:gH cx=true:=by unfold gH;kernel_rfl
def azk:prog.follows .staticDataAhead=true:=by kernel_rfl
def azl:prog.underlying 3=some (.int .i64):=by kernel_rfl
def amW:f151.body.isSome=true:=by kernel_rfl
def amX:f41.body.isSome=true:=by kernel_rfl
section
variable (β:Bool)
def aqz(g:Nat):(ah β).stepOf g=none:=by
 unfold Program.stepOf;rw[Array.findIdx?_eq_none_iff];intro fn b;obtain⟨f,a⟩:=Array.getElem?_of_mem b;by_cases e:f=nCC
 .subst e;rw[acr] at a;obtain rfl:=dq a;show((some mM).map readies).any (·.contains g)=false;rfl
 by_cases d:f=cx
 .subst d;rw[acs] at a;obtain rfl:=dq a;cases β with
  |true=>
   show(readies jH).contains g=false;rw[akE];rfl
  |false=>rfl
 rw[akD β e d] at a;obtain⟨i,j,rfl⟩:=io.1 a;show((i.body.map gP).map readies).any (·.contains g)=false;cases i.body with
 |none=>rfl
 |some c=>
  show(readies (gP c)).contains g=false;have:readies (gP c)=[]:=by unfold gP;exact afx _ _ _ _ c
  rw[this];rfl
def cF{f:Nat}{fn:Func}(h:prog.funcs[f]?=some fn):(fn.name == "runtime.NumGoroutine")=false:=by
 have:=jt.1 aiq fn (rS.2 (qw h));unfold amV at this;simpa using this
def ag6(f:FuncId)(fn:Func)(h:(ah β).funcs[f]?=some fn):∃b,prog.funcs[f]?=some b/\FnR (gH f) fn b:=by
 by_cases k:f=nCC
 .subst k;rw[acr] at h;obtain rfl:=dq h;have g:=cF func151;refine⟨_,func151,rfl,g,rfl,rfl,rfl,λe=>(by cases e),λc _=> ?_⟩;obtain⟨d,a⟩:=rz.1 amW;exact⟨d,a,λe=>by rw[azi] at e;cases e⟩
 by_cases j:f=cx
 .subst j;rw[acs] at h;obtain rfl:=dq h;have g:=cF func41;refine⟨_,func41,rfl,g,rfl,rfl,rfl,λe=>(by cases e),λc _=> ?_⟩;obtain⟨d,a⟩:=rz.1 amX;exact⟨d,a,λe=>by rw[azj] at e;cases e⟩
 rw[akD β k j] at h;obtain⟨b,i,rfl⟩:=io.1 h;have g:=cF i;refine⟨b,i,rfl,g,rfl,rfl,rfl,λe=> ?_,λc e=> ?_⟩
 .have e:b.body.map gP=none:=e;have:b.body=none:=by simpa using e
  unfold pf;rw[this];cases b;dsimp only at this;subst this;rfl
 .have e:b.body.map gP=some c:=e;obtain⟨d,a,rfl⟩:=io.1 e;exact⟨d,a,λ_=>rfl⟩
def lu:Twin (ah β) prog where
 info t:=(jI prog _ t).symm
 under t:=(cG prog _ t).symm
 rt:=rfl
 depth:=(adR prog _).symm
 globals:=by unfold gN;exact⟨rfl,rfl⟩
 zero t i v h hv ρ:=axj t i v ((jI prog _ t).symm.trans h) hv ρ
 stood t:=(adT prog _ t).symm
 avV:=rfl
 cellAt d e c o b:=(aqx prog _ d e c o b).symm
 lies d e c o u n:=(aqy prog _ d e c o u n).symm
 akn d t:=(ag5 prog _ d t).symm
 follows d:=(afY prog _ d).symm
 pc:=by
  unfold gP
  funext c
  exact(atP prog _ gA gL gB c).symm
 atk e h:=by
  have a:gB=3:=by unfold gB;rfl
  rw[a] at h;have:=((cG prog _ 3).symm.trans h);rw[azl] at this;cases this
 func:=ag6 β
 aib:=(axk β).symm
 mL:=⟨(afY prog _ _).trans azk,aqz β⟩
end
def ag7{r:Z->Z->Prop}{a:Z}(h:∀f:Nat->Z,f 0=a->¬ ∀n,r (f (n+1)) (f n)):Acc r a:=by
 refine qz λe=> ?_;have step:∀x:{x:Z // ¬Acc r x},∃y:{x:Z // ¬Acc r x},r y.1 x.1:=λx=>qz λd=>x.2 ⟨_,λy c=>qz λb=>d ⟨⟨y,b⟩,c⟩⟩
 let f:Nat->{x:Z // ¬Acc r x}:=λn=>Nat.rec ⟨a,e⟩ (λ_ x=>(step x).choose) n
 exact h (λn=>(f n).1) rfl λn=>(step (f n)).choose_spec
def jW(g:Goroutine)(w:World):Machine:={world:=w,gs:=#[g],rest:={timers:=#[],alone:=none,slice:=none}}
def gC(h:jW g w=jW g' w'):g=g'/\w=w':=by
 unfold jW at h;simp only[Machine.mk.injEq,Array.mk.injEq,qb,ql] at h;exact⟨h.2,h.1⟩
def air(a:g.status=.running):move P (jW g w)=.goroutine (jW g w) 0:=by
 simp[move,ask,askOn,jW,runnable_eq,due,ahead,Goroutine.canRun,vz,choose,pure,Sem.run,Question.forced,a]
def dr(a:g.status=.running)(h:stepG P true g w=.go g' w' es):step P (jW g w)=.next (jW g' w'):=by
 rw[step,stepT,air a];simp[runT,jW,Array.swapAt!,h]
def cA{o:Outcome}(a:g.status=.running)(h:stepG P true g w=.ended o w' es):step P (jW g w)=.ended o w':=by
 rw[step,stepT,air a];simp[runT,jW,Array.swapAt!,h]
def acu(c:g.status=.blocked):∃o b,step P (jW g w)=.ended o b:=by
 rw[step,stepT];have:∃s a,move P (jW g w)=.machine s a/\∃o b,s=.ended o b:=by
  simp only[move,ask,askOn,jW,runnable_eq,due,ahead,Goroutine.canRun,c];simp[vz,choose,pure,Sem.run,Question.forced,c];generalize endWith _ _ _ _=q;cases q<;>exact⟨_,⟨_,rfl⟩,_,_,rfl⟩
 obtain⟨s,a,d,o,b,rfl⟩:=this;rw[d];exact⟨o,b,rfl⟩
def acv(a:g.status=.waiting):step P (jW g w)=.next (jW g w):=by
 rw[step,stepT];have:move P (jW g w)=.machine (.next (jW g w)):=by
  simp[move,ask,askOn,jW,runnable_eq,due,ahead,Goroutine.canRun,vz,choose,pure,Sem.run,Question.forced,a]
 rw[this]
def jJ(P:Program):Frame:={fn:=P.funcs.size,tmps:=#[],todo:=[.call ⟨.nil,#[]⟩ false "fmt's door" #[]],defers:=[],mode:=.run,kind:=.normal}
def aqA(base:List Frame)(g:Goroutine):Prop:=g.callers=base/\g.frame.mode=.returning/\g.frame.defers=[]/\g.status=.running/\g.dying=none
section
variable {P:Program}
def aaJ{g:Goroutine}{w:World}(h:g.status=.blocked\/g.status=.waiting):∀n a b,runN P n (jW g w)=.next (jW a b)->¬aqA [jJ P] a
 |0,a,b,hr,hf=>by
  simp only[runN,qF] at hr;obtain⟨rfl,rfl⟩:=gC hr;rcases h with h|h<;>rw[hf.2.2.2.1] at h<;>cases h
 |n+1,a,b,hr,hf=>by
  unfold runN at hr;rcases h with h|h
  .obtain⟨o,d,c⟩:=acu (P:=P) (w:=w) h;rw[c] at hr;cases hr
  .rw[acv h] at hr;exact aaJ (.inr h) n a b hr hf
def ac1:∀(n:Nat) {a:Frame} {w:World} {d:Dying} {f:Fatal},d.fatal=some f->d.calling=false->∀b g,runN P n (jW ⟨a,[],.running,some d,none⟩ w)=.next (jW b g)->¬aqA [jJ P] b
 |0,a,w,d,f,h1,h2,b,g,hr,hf=>by
  simp only[runN,qF] at hr;obtain⟨rfl,rfl⟩:=gC hr;have:=hf.2.2.2.2;cases this
 |n+1,a,w,d,f,h1,h2,b,g,hr,hf=>by
  unfold runN at hr;have l:(∃o c i,stepG P true ⟨a,[],.running,some d,none⟩ w=.ended o c i)\/
    ∃st k c i,(st=.running\/st=.blocked)/\stepG P true ⟨a,[],.running,some d,none⟩ w=.go ⟨a,[],st,some {d with fatal:=some k},none⟩ c i:=by
   obtain⟨q,m,e,j,r,hand,fatal⟩:=d;dsimp only at h1 h2;subst h1 h2;simp only[stepG,die,writeOn];split
   .exact .inl ⟨_,_,_,rfl⟩
   .split
    .exact .inr ⟨_,_,_,_,.inl rfl,rfl⟩
    .exact .inr ⟨_,_,_,_,.inr rfl,rfl⟩
    .exact .inl ⟨_,_,_,rfl⟩
    .exact .inl ⟨_,_,_,rfl⟩
  rcases l with⟨o,c,i,h⟩|⟨st,k,c,i,p,h⟩
  .rw[cA rfl h] at hr;cases hr
  .rw[dr rfl h] at hr;rcases p with rfl|rfl
   .exact ac1 n (d:={d with fatal:=some k}) (f:=k) rfl h2 b g hr hf
   .exact aaJ (.inl rfl) n b g hr hf
def aqB{b:Nat}(e:∀x l,w.heap[b]?≠some (.deferred (some (x::l)))):(∃h c a,(Instr.takeDeferred b).runT P w #[]=(.halt h c,a))\/∃a,(Instr.takeDeferred b).runT P w #[]=(.ok [] {w with heap:=w.heap.setIfInBounds b (.deferred none)},a):=by
 unfold Instr.takeDeferred;show(∃h c a,(Sem.getObj b λo=>_).runT P w #[]=_)\/∃a,(Sem.getObj b λo=>_).runT P w #[]=_;rw[Sem.runT];cases d:w.heap[b]? with
 |none=>exact .inl ⟨_,_,_,rfl⟩
 |some o=>
  cases o with
  |deferred q=>
   cases q with
   |none=>exact .inl ⟨_,_,_,rfl⟩
   |some l=>
    cases l with
    |cons x l=>exact absurd d (e x l)
    |nil=>
     refine .inr ⟨(#[].push ⟨.obj b,false,false⟩).push ⟨.obj b,true,false⟩, ?_⟩;show(Sem.setObj b (.deferred none) (Sem.pure [])).runT P w (#[].push ⟨.obj b,false,false⟩)=_;rw[Sem.runT,d];show(Sem.pure []).runT P {w with heap:=w.heap.setIfInBounds b (.deferred none)} _=_;rw[Sem.runT];rfl
  |_=>exact .inl ⟨_,_,_,rfl⟩
def wd(fr:Frame)(b:List PanicEntry):∃a,(fr.raise b).mode=.panicking a:=by
 unfold Frame.raise;split<;>exact⟨_,rfl⟩
def abu(fr:Frame)(a:List PanicEntry):(fr.raise a).defers=fr.defers:=by
 unfold Frame.raise;split<;>rfl
def akF(a:List PanicEntry):((jJ P).raise a).catches P=true:=by
 have h:P.funcs[P.funcs.size]?=none:=by rw[qc];exact am _
 show(match P.funcs[P.funcs.size]?,[Item.call ⟨.nil,#[]⟩ false "fmt's door" #[]] with
  |none,.call _ _ resume _::_=>resume.startsWith "fmt's door"
  |_,_=>false)=true
 rw[h];show "fmt's door".startsWith "fmt's door" =true
 decide+kernel
def mN:∀(n:Nat) {A:Frame} {i:List Frame} {w:World} {a:List PanicEntry},A.mode=.panicking a->((∀f∈A::i,kh w f.defers)\/False)->∀z B,runN P n (jW ⟨A,i++[jJ P],.running,none,none⟩ w)=.next (jW z B)->¬aqA [jJ P] z
 |0,A,i,w,a,hm,_,z,B,hr,hf=>by
  simp only[runN,qF] at hr;obtain⟨rfl,rfl⟩:=gC hr;have:=hf.2.1;rw[hm] at this;cases this
 |n+1,A,i,w,a,hm,hd,z,B,hr,hf=>by
  replace hd:=hd.resolve_right id;unfold runN at hr;obtain⟨f,q,p,s,L,m,k⟩:=A;dsimp only at hm;subst hm;have C:stepG P true ⟨⟨f,q,p,s,.panicking a,m,k⟩,i++[jJ P],.running,none,none⟩ w=unwind P true ⟨f,q,p,s,.panicking a,m,k⟩ (i++[jJ P]) none w:=rfl;cases s with
  |cons d s=>
   obtain⟨b,rfl,I⟩:=hd _ (qQ ..) d (qQ ..);have F:(∃o j g,unwind P true ⟨f,q,p,⟨.collected b,#[]⟩::s,.panicking a,m,k⟩ (i++[jJ P]) none w=.ended o j g)\/
     ∃g,unwind P true ⟨f,q,p,⟨.collected b,#[]⟩::s,.panicking a,m,k⟩ (i++[jJ P]) none w=.go ⟨⟨f,q,p,s,.panicking a,m,k⟩,i++[jJ P],.running,none,none⟩ {w with heap:=w.heap.setIfInBounds b (.deferred none)} g:=by
    rcases aqB (P:=P) I with⟨h,j,g,e⟩|⟨g,e⟩
    .refine .inl ⟨.stuck "the deferred calls of a range-over-func loop have been taken" (Frame.pos P ⟨f,q,p,⟨.collected b,#[]⟩::s,.panicking a,m,k⟩),j,seen P f g, ?_⟩;unfold unwind;simp only[e];simp[GStep.after]
    .refine .inr ⟨seen P f g, ?_⟩;unfold unwind;simp only[e];simp[GStep.after]
   rcases F with⟨o,j,g,h⟩|⟨g,h⟩
   .rw[cA rfl (C.trans h)] at hr;cases hr
   .rw[dr rfl (C.trans h)] at hr;refine mN n rfl (.inl λx u=> ?_) z B hr hf;have D:kh w x.defers:=by
     rcases jp.1 u with rfl|u
     .exact λd v=>hd _ (qQ ..) d (qE _ v)
     .exact hd x (by simp[u])
    intro d v;obtain⟨c,rfl,K⟩:=D d v;exact⟨c,rfl,λy l e=>by
     change (w.heap.setIfInBounds b (.deferred none))[c]?=_ at e;rw[qd] at e;split at e
     .split at e
      .cases e
      .cases e
     .exact K y l e⟩
  |nil=>
   by_cases t:Frame.catches P ⟨f,q,p,[],.panicking a,m,k⟩=true
   .have h:∃o j g,unwind P true ⟨f,q,p,[],.panicking a,m,k⟩ (i++[jJ P]) none w=.ended o j g:=by
     unfold unwind;simp only[t,pb];exact⟨_,_,_,rfl⟩
    obtain⟨o,j,g,h⟩:=h;rw[cA rfl (C.trans h)] at hr;cases hr
   .cases i with
    |nil=>
     have h:unwind P true ⟨f,q,p,[],.panicking a,m,k⟩ ([]++[jJ P]) none w=.go ⟨(jJ P).raise a,[],.running,none,none⟩ w #[]:=by
      unfold unwind;simp only[t,qW];rfl
     rw[dr rfl (C.trans h)] at hr;cases n with
     |zero=>
      simp only[runN,qF] at hr;obtain⟨rfl,rfl⟩:=gC hr;have:=hf.1;cases this
     |succ n=>
      unfold runN at hr;obtain⟨G,r⟩:=wd (jJ P) a;have E:∃o j g,stepG P true ⟨(jJ P).raise a,[],.running,none,none⟩ w=.ended o j g:=by
       have H:stepG P true ⟨(jJ P).raise a,[],.running,none,none⟩ w=unwind P true ((jJ P).raise a) [] none w:=by
        simp only[stepG,r]
       rw[H];unfold unwind;have J:((jJ P).raise a).defers=[]:=(abu _ _).trans rfl;rw[J];simp only[r,akF,pb];exact⟨_,_,_,rfl⟩
      obtain⟨o,j,g,E⟩:=E;simp only[cA rfl E] at hr;cases hr
    |cons c i=>
     have h:unwind P true ⟨f,q,p,[],.panicking a,m,k⟩ (c::i++[jJ P]) none w=.go ⟨c.raise a,i++[jJ P],.running,none,none⟩ w #[]:=by
      unfold unwind;simp only[t,qS];rfl
     rw[dr rfl (C.trans h)] at hr;obtain⟨G,r⟩:=wd c a;refine mN n r (.inl λx u=> ?_) z B hr hf;rcases jp.1 u with rfl|u
     .rw[abu];exact hd c (by simp)
     .exact hd x (by simp[u])
def aou{s:GStep}(h:mb [jJ P] s):(∃o w a,s=.ended o w a)\/∃g w a,s=.go g w a/\∀n b e,runN P n (jW g w)=.next (jW b e)->¬aqA [jJ P] b:=by
 cases h with
 |ended o w a=>exact .inl ⟨_,_,_,rfl⟩
 |stop h=>exact .inr ⟨_,_,_,rfl,aaJ h⟩
 |raised c hd=>exact .inr ⟨_,_,_,rfl,λn=>mN n c (.inl hd)⟩
 |dying d f=>exact .inr ⟨_,_,_,rfl,λn=>ac1 n d f⟩
end
structure Cfg where
 l:List Frame
 w:World
 t:Tape
structure aes (P:Program) (c c1:Cfg):Prop where
 ne:c.l≠[]
 on:¬oD c.l
 drawn:c.w.drawn<=c1.w.drawn
 tape:∀i q,i<c.w.drawn->c1.t i q=c.t i q
 step:∃es,∀(base:List Frame) (t:Tape),(∀i q,i<c1.w.drawn->t i q=c1.t i q)->stepG P true (Gl c.l base) (c.w.dw t)=.go (Gl c1.l base) (c1.w.dw t) es
def jK(P:Program)(R:List Frame->World->Prop)(c:Cfg):Prop:=
 ∀t:Tape,(∀i q,i<c.w.drawn->t i q=c.t i q)->∃n a b,runN P n (jW (Gl c.l [jJ P]) (c.w.dw t))=.next (jW (Gl a [jJ P]) b)/\oD a/\R a b
section
variable {P:Program} {R:List Frame->World->Prop}
def iR(h:l≠[])(base:List Frame):(Gl l base).status=.running:=by
 cases l with
 |nil=>exact absurd rfl h
 |cons x a=>rfl
def mO{base : List Frame}(h:l≠[])(a:l'≠[])(e:Gl l base=Gl l' base):l=l':=by
 cases l with
 |nil=>exact absurd rfl h
 |cons x c=>
  cases l' with
  |nil=>exact absurd rfl a
  |cons y b=>
   unfold Gl at e;simp only[Goroutine.mk.injEq,List.append_cancel_right_eq] at e;rw[e.1,e.2.1]
def oD.ne(h:oD l):l≠[]:=by
 obtain⟨a,rfl, -⟩:=h;exact λe=>by cases e
def oD.fin(h:oD l)(base:List Frame):aqA base (Gl l base):=by
 obtain⟨c,rfl,a,b, -⟩:=h;exact⟨rfl,a,b,rfl,rfl⟩
def jK.step{c c1:Cfg}(h:jK P R c)(a:aes P c c1):jK P R c1:=λt f=>by
 obtain⟨o,k⟩:=a.step;obtain⟨n,m,j,b,d,l⟩:=h t λi q g=>by
  rw[f i q (aE g a.drawn),a.tape i q g]
 cases n with
 |zero=>
  simp only[runN,qF] at b;obtain⟨e, -⟩:=gC b;obtain rfl:=mO a.ne d.ne e;exact absurd d a.on
 |succ n=>
  unfold runN at b;rw[dr (iR a.ne _) (k [jJ P] t f)] at b;exact⟨n,m,j,b,d,l⟩
def jK.acc{c:Cfg}(h:jK P R c):Acc (λw c=>aes P c w) c:=by
 classical
 refine ag7 λf x a=> ?_;subst x;have s:∀{m n},m<=n->(f m).w.drawn<=(f n).w.drawn:=λ{m n} b=>by
  induction b with
  |refl=>exact am _
  |step _ p=>exact bd p (a _).drawn
 have l:∀{m n},m<=n->∀i q,i<(f m).w.drawn->(f n).t i q=(f m).t i q:=λ{m n} b=>by
  induction b with
  |refl=>exact λ_ _ _=>rfl
  |step t p=>exact λi q o=>((a _).tape i q (aE o (s t))).trans (p i q o)
 let T:Tape:=λi q=>if d:∃n,i<(f n).w.drawn then(f d.choose).t i q else 0
 have u:∀n i q,i<(f n).w.drawn->T i q=(f n).t i q:=λn i q o=>by
  have d:∃n,i<(f n).w.drawn:=⟨n,o⟩;show(if d:∃n,i<(f n).w.drawn then(f d.choose).t i q else 0)=_;rw[tu d];rcases Nat.le_total d.choose n with g|g
  .exact(l g i q d.choose_spec).symm
  .exact l g i q o
 have r:∀n,Go.step P (jW (Gl (f n).l [jJ P]) ((f n).w.dw T))=.next (jW (Gl (f (n+1)).l [jJ P]) ((f (n+1)).w.dw T)):=λn=>by
  obtain⟨B,z⟩:=(a n).step;exact dr (iR (a n).ne _) (z _ T (u (n+1)))
 have y:∀n k,runN P n (jW (Gl (f k).l [jJ P]) ((f k).w.dw T))=.next (jW (Gl (f (k+n)).l [jJ P]) ((f (k+n)).w.dw T)):=by
  intro n
  induction n with
  |zero=>intro k;rfl
  |succ n p=>
   intro k;unfold runN;rw[r k];simp only;rw[p (k+1),show k+1+n=k+(n+1) by omega]
 obtain⟨n,C,A,v,j, -⟩:=h T (u 0);rw[y n 0,qF] at v;obtain⟨e, -⟩:=gC v;obtain rfl:=mO (a (0+n)).ne j.ne e;exact(a (0+n)).on j
def jK.fin{c:Cfg}(h:jK P R c)(u:oD c.l)(B:Extern.next "fmt's door" =none)(t:Tape)(z:∀i q,i<c.w.drawn->t i q=c.t i q):R c.l (c.w.dw t):=by
 obtain⟨n,J,E,a,g,C⟩:=h t z;cases n with
 |zero=>
  simp only[runN,qF] at a;obtain⟨e,rfl⟩:=gC a;obtain rfl:=mO u.ne g.ne e;exact C
 |succ n=>
  exfalso;obtain⟨j,A,x,hd,p⟩:=u;rw[A] at a;have k:(∃o b d,stepG P true (Gl [j] [jJ P]) (c.w.dw t)=.ended o b d)\/∃v b d,stepG P true (Gl [j] [jJ P]) (c.w.dw t)=.go ⟨(jJ P).finish v,[],.running,none,none⟩ b d:=by
   obtain⟨f,l,w,H,G,F,m⟩:=j;dsimp only at x hd p;subst x hd p;have y:stepG P true (Gl [⟨f,l,w,[],.returning,.normal,m⟩] [jJ P]) (c.w.dw t)=unwind P true ⟨f,l,w,[],.returning,.normal,m⟩ [jJ P] none (c.w.dw t):=rfl;rw[y];unfold unwind;dsimp only;cases I:P.funcs[f]? with
   |none=>exact .inr ⟨_,_,_,rfl⟩
   |some fn=>
    dsimp only;generalize (results fn l).runT P (c.w.dw t) #[]=q;obtain⟨r,d⟩:=q;cases r with
    |ok v b=>exact .inr ⟨v,b,_,rfl⟩
    |halt h b=>cases h<;>exact .inl ⟨_,_,_,rfl⟩
  unfold runN at a;rcases k with⟨o,b,d,e⟩|⟨v,b,d,e⟩
  .rw[cA rfl e] at a;cases a
  .rw[dr rfl e] at a;cases n with
   |zero=>
    simp only[runN,qF] at a;obtain⟨e, -⟩:=gC a;obtain⟨D,rfl, -⟩:=g;have:=fi Goroutine.callers e;cases this
   |succ n=>
    unfold runN at a;have s:stepG P true ⟨(jJ P).finish v,[],.running,none,none⟩ b=(Extern.next "fmt's door").elim (.ended (.stuck ("no extern row " ++ "fmt's door") (Frame.pos P ((jJ P).finish v))) b #[]) λe=>stepG.apply P true ((jJ P).finish v) [] none (e (#[].push v)) b:=rfl;rw[B] at s;simp only[cA rfl s] at a;cases a
end
section
variable {P P':Program} {R:List Frame->World->Prop} {ρ:Ren}
def sim(T:Twin P P')(X:aih P P')(C:GlR ρ){c:Cfg}(m':Bool)(y:ik P ρ c.l l')(K:WR ρ c.w w')(x:¬oD c.l)(z:jK P R c) :
  ∃p k d m l f,aes P c p/\jK P R p/\ρ.Le k/\(∀base,stepG P' m' (Gl l' base) w'=.go (Gl d base) m f)/\WR k p.w m/\Kept ρ k c.w w' p.w m/\EvW c.w k l f/\GoR P P' k p.l d:=by
 obtain⟨a,D,H⟩:=axi (P:=P) (P':=P') T X C true m' y K x;have b:c.l≠[]:=λe=>by rw[e] at y;cases y
 rcases H with H|⟨k,O,s,l,d,m,f,G,Q,M,F,J,N,I,L⟩
 .exfalso;have B:=H [jJ P] (λi q=>if i<c.w.drawn then c.t i q else a i q) λi q r _=>be (by omega);obtain⟨n,U,V,j,v, -⟩:=z (λi q=>if i<c.w.drawn then c.t i q else a i q) λi q r=>dk r;cases n with
  |zero=>
   simp only[runN,qF] at j;obtain⟨e, -⟩:=gC j;obtain rfl:=mO b v.ne e;exact x v
  |succ n=>
   unfold runN at j;rcases aou B with⟨o,w,l,e⟩|⟨g,w,l,e,u⟩
   .rw[cA (iR b _) e] at j;cases j
   .rw[dr (iR b _) e] at j;exact u n _ _ j (v.fin _)
 .have A:aes P c ⟨O,s,λi q=>if i<c.w.drawn then c.t i q else a i q⟩:=
   ⟨b,x,by show c.w.drawn<=s.drawn;omega,λi q r=>dk r,l,λbase t E=>G base t λi q r S=>by
    rw[E i q (by show i<s.drawn;omega)];exact be (by omega)⟩
  exact⟨_,k,d,m,l,f,A,z.step A,M,F,J,N,I,L⟩
end
section
variable {P P':Program} {ρ:Ren}
def ac2:∀(n t:Nat) (acc:Array Value),(∀v∈acc.toList,cT v)->∀v∈(Extern.BytealgMakeNoZero.digits n t acc).toList,cT v
 |0,_,acc,h=>h
 |n+1,t,acc,h=>by
  unfold Extern.BytealgMakeNoZero.digits;refine ac2 n _ _ λv a=> ?_;rw[rL,ge] at a;rcases a with a|a
  .exact h v a
  .simp at a;subst a;exact λ_=>.int _ _
def abv(T:Twin P P')(i f:Array TypeId){a : Array Value}(h:cU ρ a Y):au P P' VR ρ (Extern.BytealgMakeNoZero.makeNoZero i f a) (Extern.BytealgMakeNoZero.makeNoZero i f Y):=by
 unfold Extern.BytealgMakeNoZero.makeNoZero;obtain⟨a⟩:=a;obtain⟨Y⟩:=Y;have h:bQ ρ a Y:=h;cases h with
 |nil=>exact .halt _ _
 |cons j o=>
  cases o with
  |cons=>cases j<;>exact .halt _ _
  |nil=>
   cases j with
   |int k n=>
    cases k<;>try exact .halt _ _
    dsimp only;cases f[0]? with
    |none=>exact .halt _ _
    |some t=>
     dsimp only;refine ag (aB T t) λE d A D hd=> ?_;obtain⟨rfl, -⟩:=hd;cases d with
     |slice e=>
      dsimp only;refine aP (λ_=>dy _) λ_=> ?_;refine ag (ir _) λB c l w q=> ?_;obtain rfl:c=l:=q;refine ag (ako c) λx _ _ C _=> ?_;refine ag (ir _) λs b m z q=> ?_;obtain rfl:b=m:=q;refine ag (og e (bQ.jT λv g=>ac2 _ _ _ (λv g=>by cases g) v g _)) λy r u F p=> ?_;exact ai (.slice (.some p) _ _)
     |_=>exact .halt _ _
   |_=>exact .halt _ _
def ac3:∀(n:Nat) {ρ:Ren} {a c:Addr} (acc:ByteArray),AR ρ a c->au P P' je ρ (Extern.Bytes.loadBytes a n acc) (Extern.Bytes.loadBytes c n acc)
 |0,_,_,_,_,_=>ai rfl
 |n+1,ρ,a,c,acc,h=>by
  unfold Extern.Bytes.loadBytes;refine ag (ap9 .plain h) λg v f e d=> ?_;cases d with
  |int k b=>
   cases k<;>first|exact ac3 n _ ((h.mono e).add 1)|exact .halt _ _
  |_=>exact .halt _ _
def ac4{a : Array Value}(h:cU ρ a Y):au P P' VR ρ (Extern.BytealgIndexByte.indexByte a) (Extern.BytealgIndexByte.indexByte Y):=by
 unfold Extern.BytealgIndexByte.indexByte;obtain⟨a⟩:=a;obtain⟨Y⟩:=Y;have h:bQ ρ a Y:=h;cases h with
 |nil=>exact .halt _ _
 |cons m d=>
  cases d with
  |nil=>exact .halt _ _
  |cons g d=>
   cases d with
   |cons=>exact .halt _ _
   |nil=>
    refine ag (A:=je) ?_ λr b j q e=> ?_
    .cases m with
     |string s=>exact ai rfl
     |slice f l c=>cases f with
      |none=>exact ai rfl
      |some f=>exact ac3 _ _ f
     |_=>exact .halt _ _
    .obtain rfl:b=j:=e;refine ag (A:=je) ?_ λo c i p e=> ?_
     .cases g with
      |int k n=>cases k<;>first|exact ai rfl|exact .halt _ _
      |_=>exact .halt _ _
     .obtain rfl:c=i:=e;split
      .exact ai (.int _ _)
      .exact ai (.int _ _)
end
noncomputable def akG(f:Nat):Bool:=match prog.funcs[f]? with
 |some fn=>!alw prog f||fn.body.isSome||f ==163||f ==179
 |none=>true
def af1{f:Nat}{fn:Func}(h:prog.funcs[f]?=some fn)(a:akG f=true):(!alw prog f||fn.body.isSome||f ==163||f ==179)=true:=by
 unfold akG at a;generalize prog.funcs[f]?=q at h a;subst h;exact a
def aet:(List.range prog.funcs.size).all akG=true:=by kernel_rfl
def amY:f163.body.isNone=true:=by kernel_rfl
def amZ:f179.body.isNone=true:=by kernel_rfl
def am0:Extern.findNext f163=none:=by kernel_rfl
def ac5:Extern.findNext f179=none:=by kernel_rfl
def am1:Extern.find f163=some (Extern.BytealgMakeNoZero.makeNoZero f163.params f163.resultTypes):=by kernel_rfl
def am2:Extern.find f179=some Extern.BytealgIndexByte.indexByte:=by kernel_rfl
def acx:Extern.next "fmt's door" =none:=by kernel_rfl
def abw {P' : Program} {ρ:Ren} {fn b:Func} {e:Array Value->Sem Value} (r:P.funcs[f]?=some fn) (i:P'.funcs[f]?=some b) (g:fn.body.isNone=true) (k:b.body.isNone=true)
  (q:(fn.name == "runtime.NumGoroutine")=false) (t:(b.name == "runtime.NumGoroutine")=false) (s:Extern.findNext fn=none) (x2:Extern.findNext b=none) (n:Extern.find fn=some e) (u:Extern.find b=some e)
  (o:∀(c:Ren) a Y,cU c a Y->au P P' VR c (e a) (e Y)) {a : Array Value} (h:cU ρ a Y):au P P' gU ρ (callFunc f a) (callFunc f Y):=by
 unfold callFunc;refine ag cR λc p v m d=> ?_;obtain⟨rfl,rfl⟩:=d;rw[r,i];dsimp only;rw[q,t,g,k];simp only[kw,qA,pb];refine ag (aqa (.extern f)) λj _ _ l _=> ?_;rw[s,x2,n,u];exact bm (o j _ _ (bQ.mono (m.trans l) h))
def awd(β:Bool):aih (ah β) prog:=λf fn d i k o a j h=>by
 obtain⟨p,b,n⟩:=ag6 β f fn d;obtain rfl:=n.none i;have g:=(de.1 b).1;have c:=jt.1 aet f (qh.2 g);have c:=af1 b c;have m:alw prog f=true:=by
  have:gA f=alw prog f:=by unfold gA;rfl
  rw[<-this];exact k
 rw[m,i] at c;simp only[uT,ta,uS,uo,qN,mw] at c;rcases c with rfl|rfl
 .have e:=b.symm.trans func163;obtain rfl:=dq e;exact abw d func163 amY amY (cF func163) (cF func163) am0 am0 am1 am1 (λl a j h=>abv (lu β) _ _ h) h
 .have e:=b.symm.trans func179;obtain rfl:=dq e;exact abw d func179 amZ amZ (cF func179) (cF func179) ac5 ac5 am2 am2 (λl a j h=>ac4 h) h
def aan{args:Array Value}{t0:Tape}{Post:Value->World->Prop}(h:∀t:Tape,(∀i q,i<w.drawn->t i q=t0 i q)->Calls P f args (w.dw t) λe b=>∃v,e=.returned v/\Post v b) :
  jK P (λl b=>∃a v,l=[a]/\a.fn=f/\a.leaving P b (.returned v)/\Post v b) ⟨[Frame.enter P f args .normal],w,t0⟩:=λt j=>by
 obtain⟨e,b,a,⟨v,rfl,d⟩,⟨n,k⟩,g,c⟩:=h t j [jJ P];refine⟨n,[a],b,k,⟨a,rfl,c.1,c.2.1,c.2.2.1⟩,a,v,rfl,g,c,d⟩
end
section
open Go.RowKit
def atQ{k:IntKind}{a b:Int}(h:a=b):Ending.returned (.int k a)=.returned (.int k b):=by rw[h]
def aC{a b:Bool}(h:a=b):Ending.returned (.bool a)=.returned (.bool b):=by rw[h]
structure bq (S:Nat->Prop) (w w':World):Prop where
 os:w'.os=w.os
 tape:w'.tape=w.tape
 output:w'.output=w.output
 size:w.heap.size<=w'.heap.size
 block:∀k,k<w.heap.size->¬S k->w'.heap[k]?=w.heap[k]?
def bq.refl(S:Nat->Prop)(w:World):bq S w w:=⟨rfl,rfl,rfl,am _,λ_ _ _=>rfl⟩
def bq.trans{T : Nat->Prop}{b c : World}(h:bq S a b)(k:bq T b c)(f:∀i,i<a.heap.size->T i->S i):bq S a c:=
 ⟨k.os.trans h.os,k.tape.trans h.tape,k.output.trans h.output,bd h.size k.size,
  λi d e=>(k.block i (aE d h.size) (λg=>e (f i d g))).trans (h.block i d e)⟩
def bq.mono{T : Nat->Prop}{b : World}(h:bq S a b)(d:∀i,i<a.heap.size->S i->T i):bq T a b:=
 ⟨h.os,h.tape,h.output,h.size,λi c f=>h.block i c λe=>f (d i c e)⟩
def bq.below(h:bq S w w')(c:B<=w.heap.size)(b:∀i,i<B->¬S i):Below B w w':=
 ⟨h.os,h.tape,h.output,h.size,λk a=>h.block k (aE a c) (b k a)⟩
def bq.aT(h:Below w.heap.size w w'):bq S w w':=
 ⟨h.os,h.tape,h.output,h.size,λk a _=>h.block k a⟩
def bq.alloc(h:bq S a w)(o:Obj):bq S a (w.alloc o):=
 ⟨h.os,h.tape,h.output,bd h.size (by simp),λi c b=>(se w o i (aE c h.size)).trans (h.block i c b)⟩
def bq.drew(h:bq S a w):bq S a w.drew:=⟨h.os,h.tape,h.output,h.size,h.block⟩
def bq.drewN(h:bq S a w)(n:Nat):bq S a (w.drewN n):=⟨h.os,h.tape,h.output,h.size,h.block⟩
def bq.setCell(h:bq S a w){p:Addr}(b:S p.block\/a.heap.size<=p.block)(u:Value):bq S a (w.setCell p u):=
 ⟨h.os,h.tape,h.output,by simpa[World.setCell] using h.size,λi d c=>(qp w p u i (by
  rintro rfl;rcases b with b|b
  .exact c b
  .omega)).trans (h.block i d c)⟩
def ae(h:Below a.heap.size a w)(b:Below w.heap.size w w'):Below a.heap.size a w':=h.trans (b.mono h.size)
def tJ(h:Below B a w)(n:Nat):Below B a (w.drewN n):=⟨h.os,h.tape,h.output,h.size,h.block⟩
abbrev fU(α:Type):=World->Nat->Nat->α->List Value->Prop
structure Lcy {α:Type} (E:fU α):Prop where
 go:∀{w w':World} {lo hi oG hi':Nat} {x:α} {cs:List Value},
  (∀b,lo<=b->b<hi->w'.heap[b]?=w.heap[b]?)->oG<=lo->hi<=hi'->E w lo hi x cs->E w' oG hi' x cs
def bF(x:Int):Prop:= -9223372036854775808<=x/\x<=9223372036854775807
def aeu:fU Int:=λ_ _ _ x a=>a=[.int .i64 x]/\bF x
def jk:fU Int:=λ_ _ _ x a=>a=[.int .u8 x]/\0<=x/\x<256
def aeu.loc:Lcy aeu:=⟨λ_ _ _ h=>h⟩
def jk.loc:Lcy jk:=⟨λ_ _ _ h=>h⟩
def cV{α:Type}(E:fU α)(sz:Nat):fU (List α):=λw f g d k=>
 ∃(A:Option Addr) (c:Nat),k=[.slice A d.length c]/\d.length<=c/\c<=maxLen/\
  (0<d.length->∃b a,A=some ⟨b,a,none⟩/\f<=b/\b<g/\
   ∀i x,d[i]?=some x->∃e:List Value,e.length=sz/\E w f g x e/\∀j u,e[j]?=some u->w.cell? ⟨b,a+i*sz+j,none⟩=some u)
def cV.loc{E:fU Z}(p:Lcy E) :Lcy (cV E W):=by
 refine⟨?_⟩;intro w B H G D d F C n e l ⟨A,c,g,o,y,h⟩;refine⟨A,c,g,o,y,λq=> ?_⟩;obtain⟨b,f,rfl,m,k,v⟩:=h q;refine⟨b,f,rfl,bd e m,aE k l,λi x d=> ?_⟩;obtain⟨s,r,z,a⟩:=v i x d;exact⟨s,r,p.go n e l z,λj u t=>(qs (n b m k)).trans (a j u t)⟩
def Lcy.below{E:fU Z}(c:Lcy E){cs:List Value}(h:E w lo hi x cs)(e:Below B w w')(d:hi<=B):E w' lo hi x cs:=
 c.go (λb _ a=>e.block b (aE a d)) (am _) (am _) h
def Lcy.wide{E:fU Z}(a:Lcy E){oG hi' : Nat}{cs:List Value}(h:E w lo hi x cs)(c:oG<=lo)(b:hi<=hi'):E w oG hi' x cs:=
 a.go (λ_ _ _=>rfl) c b h
def cV.at_{E:fU Z}(h:cV E W w lo hi xs [.slice A n c])(g:xs[k]?=some x) :
  ∃b a e,A=some ⟨b,a,none⟩/\lo<=b/\b<hi/\e.length=W/\E w lo hi x e/\∀j u,e[j]?=some u->w.cell? ⟨b,a+k*W+j,none⟩=some u:=by
 obtain⟨A',r,f,s,t,i⟩:=h;simp only[qb,pX,ql] at f;obtain⟨rfl,rfl,rfl⟩:=f;have l:k<xs.length:=by
  rcases oR k xs.length with h|h
  .exact h
  .rw[sD h] at g;cases g
 obtain⟨b,a,rfl,o,m,i⟩:=i (by omega);obtain⟨e,p,q,d⟩:=i k x g;exact⟨b,a,e,rfl,o,m,p,q,d⟩
def cV.aev{xs:List Int}(h:cV jk 1 w lo hi xs [.slice A n c]){x:Int}(f:xs[k]?=some x) :
  ∃b a,A=some ⟨b,a,none⟩/\lo<=b/\b<hi/\(0<=x/\x<256)/\w.cell? ⟨b,a+k,none⟩=some (.int .u8 x):=by
 obtain⟨b,a,l,rfl,g,e,j,⟨rfl,d⟩,i⟩:=h.at_ f;exact⟨b,a,rfl,g,e,d,by simpa using i 0 _ rfl⟩
def cV.len_{E:fU Z}(h:cV E W w lo hi xs [.slice A n c]):n=xs.length/\n<=c/\c<=maxLen:=by
 obtain⟨A',e,a,d,b,f⟩:=h;simp only[qb,pX,ql] at a;obtain⟨rfl,rfl,rfl⟩:=a;exact⟨rfl,d,b⟩
def cV.form{E:fU Z}(h:cV E W w lo hi xs [v]):∃A c,v=.slice A xs.length c:=by
 obtain⟨A',d,a,e,b,f⟩:=h;simp only[qb,ql] at a;exact⟨_,_,a⟩
def aq{l:List Z}(h:k<l.length):∃x,l[k]?=some x:=⟨l[k],li h⟩
def aG{l:List Z}(h:l[k]?=some x):k<l.length:=by
 rcases oR k l.length with a|a
 .exact a
 .rw[sD a] at h;cases h
def mP{α:Type}{P:List α->Prop}(h0:P [])(h1:∀l a,P l->P (l++[a]))(l:List α):P l:=by
 rw[<-l.reverse_reverse]
 induction l.reverse with
 |nil=>exact h0
 |cons a t b=>rw[List.reverse_cons];exact h1 _ _ b
def nF{l:List Z}(h:l[k]?=some x):l.take (k+1)=l.take k++[x]:=by
 rw[List.take_add_one,h];rfl
def bR(w:World)(g:Nat)(t:TypeId)(cs:Array Value):Prop:=w.heap[g]?=some (.cells cs t (0,0))
section
variable {w w':World} {g:Nat} {t:TypeId} {cs:Array Value}
def bR.lt(h:bR w g t cs):g<w.heap.size:=by
 rcases oR g w.heap.size with a|b
 .exact a
 .unfold bR at h;rw[pZ b] at h;cases h
def bR.cell(h:bR w g t cs)(i:Nat):w.cell? ⟨g,i,none⟩=cs[i]?:=cell_of_row w g i cs t (0,0) h
def bR.frozen(h:bR w g t cs)(i:Nat):w.frozen? ⟨g,i,none⟩=false:=by
 unfold bR at h;simp[World.frozen?,h]
def bR.new(w:World)(t:TypeId)(cs:Array Value):bR (w.alloc (.cells cs t)) w.heap.size t cs:=heap_alloc_new w _
def bR.bM(h:bR w g t cs)(i:Nat)(u:Value):bR (w.setCell ⟨g,i,none⟩ u) g t (cs.setIfInBounds i u):=by
 unfold bR at h ⊢;simp[World.setCell,oE,h]
end
section
variable {w w':World} {g N:Nat} {t:TypeId} {vs:List Value}
end
def cV.aqC{E:fU Z}{cs:List Value}(h:cV E W w lo hi xs cs):∀x∈xs,∃a,E w lo hi x a:=by
 obtain⟨A,c,g,m,l,f⟩:=h;intro x j;obtain⟨i,hi⟩:=rx.1 j;obtain⟨b,e,_,_,_,d⟩:=f (by have:=aG hi;omega);obtain⟨a,_,k,_⟩:=d i x hi;exact⟨a,k⟩
def cV.ais{xs:List Int}{cs:List Value}(h:cV aeu 1 w lo hi xs cs):∀x∈xs,bF x:=λx b=>by
 obtain⟨c,a⟩:=h.aqC x b;exact a.2
section
variable {w:World} {g:Nat} {t:TypeId} {n:Nat} {f f':Nat->Int}
end
end
section
section
variable (P:Program) (fs:Array Func)
def abx(t:TypeId)(w:World):(underlying t).run {P with funcs:=fs} w=(underlying t).run P w:=by
 show Sem.run _ (match({P with funcs:=fs}:Program).underlying t with|some d=>pure d|none=>stuck "no such type") w=Sem.run P (match P.underlying t with|some d=>pure d|none=>stuck "no such type") w;rw[cG];cases P.underlying t<;>rfl
def aaK(t:TypeId)(w:World):(typeInfo t).run {P with funcs:=fs} w=(typeInfo t).run P w:=by
 show Sem.run _ (match({P with funcs:=fs}:Program).info? t with|some d=>pure d|none=>stuck "no such type") w=Sem.run P (match P.info? t with|some d=>pure d|none=>stuck "no such type") w;rw[jI];cases P.info? t<;>rfl
def aqD{β : Type}(P Q:Program)(s:Sem Z)(f:Z->Sem β)(w:World)(h:s.run Q w=s.run P w)(b:∀a w,(f a).run Q w=(f a).run P w):(s.bind f).run Q w=(s.bind f).run P w:=by
 have c:=qJ Q s f w;have e:=qJ P s f w;exact c.trans ((fi (λr=>Result.andThen r λa d=>(f a).run Q d) h).trans ((fi (λF=>Result.andThen (s.run P w) F) (funext λa=>funext λw=>b a w)).trans e.symm))
def akH{β : Type}(s:Sem Z)(f:Z->Sem β)(w:World)(h:s.run {P with funcs:=fs} w=s.run P w)(b:∀a w,(f a).run {P with funcs:=fs} w=(f a).run P w):(s.bind f).run {P with funcs:=fs} w=(s.bind f).run P w:=aqD P _ s f w h b
def aqE(t:TypeId)(w:World):(sizeOf t).run {P with funcs:=fs} w=(sizeOf t).run P w:=akH P fs _ _ w (aaK P fs t w) λ_ _=>rfl
def ait(t:TypeId)(w:World):(zeroValue t).run {P with funcs:=fs} w=(zeroValue t).run P w:=akH P fs _ _ w (aaK P fs t w) λi w=>by
 cases i.zero<;>rfl
def atS(t:TypeId)(w:World):(isAgg t).run {P with funcs:=fs} w=(isAgg t).run P w:=akH P fs _ _ w (abx P fs t w) λd w=>by
 cases d<;>rfl
end
variable {β:Bool}
@[simp,go_sem] theorem atg(t:TypeId)(w:World):(underlying t).run (ah β) w=(underlying t).run prog w:=abx prog (lN β) t w
@[simp,go_sem] theorem awe(t:TypeId)(w:World):(typeInfo t).run (ah β) w=(typeInfo t).run prog w:=aaK prog (lN β) t w
@[simp,go_sem] theorem bu(t:TypeId)(w:World):(sizeOf t).run (ah β) w=(sizeOf t).run prog w:=aqE prog (lN β) t w
@[simp,go_sem] theorem aL(t:TypeId)(w:World):(zeroValue t).run (ah β) w=(zeroValue t).run prog w:=ait prog (lN β) t w
@[simp,go_sem] theorem bX(t:TypeId)(w:World):(isAgg t).run (ah β) w=(isAgg t).run prog w:=atS prog (lN β) t w
@[simp,go_sem] theorem aW(t:TypeId):(ah β).underlying t=prog.underlying t:=cG prog (lN β) t
@[simp,go_sem] theorem azm(t:TypeId):(ah β).stoodInHeld t=prog.stoodInHeld t:=adT prog (lN β) t
@[simp,go_sem] theorem azn(d:Nat)(t:TypeId):(ah β).eqGuardType d t=prog.eqGuardType d t:=ag5 prog (lN β) d t
@[simp,go_sem] theorem azo:(ah β).depth=prog.depth:=adR prog (lN β)
abbrev ag8:List Nat:=[41,71,72,75,126,151,165,169,2,111,112,114,115,121,176,211]
noncomputable def axm(f:Nat):Bool:=ag8.contains f||match prog.funcs[f]? with
 |some fn=>match fn.body with
  |some c=>fw prog gA gL c
  |none=>true
 |none=>true
def aqF:(List.range prog.funcs.size).all axm=true:=by kernel_rfl
def atT{f:Nat}{fn:Func}(h:prog.funcs[f]?=some fn)(a:axm f=true)(b:ag8.contains f=false):∀c,fn.body=some c->fw prog gA gL c=true:=by
 unfold axm at a;rw[b] at a;generalize prog.funcs[f]?=q at h a;subst h;intro c d;simp only[d,uo] at a;exact a
def ar{f:Nat}{fn:Func}(h:prog.funcs[f]?=some fn)(g:ag8.contains f=false):(ah β).funcs[f]?=some fn:=by
 have d:=(de.1 h).1;have b:=atT h (jt.1 aqF f (qh.2 d)) g;have j:f≠nCC:=λe=>by subst e;revert g;decide
 have i:f≠cx:=λe=>by subst e;revert g;decide
 have k:pf fn=fn:=by
  unfold pf;cases a:fn.body with
  |none=>cases fn;dsimp only at a;subst a;rfl
  |some c=>
   have:gP c=c:=by unfold gP;exact ah8 _ _ _ _ c (b c a)
   cases fn;dsimp only at a;subst a;show _=_;simp only[qf,this]
 refine(akD β j i).trans ?_;have e:Option.map pf (prog.funcs[f]?)=Option.map pf (some fn):=fi _ h;rw[e,qf,k]
def kC{fn:Func}(h:P.funcs[f]?=some fn)(d:(fn.name == "runtime.NumGoroutine")=false)(a:fn.body.isSome=true)(args:Array Value)(w:World):(callFunc f args).run P w=.ok (.enter f args) w:=by
 show Sem.run P (match P.funcs[f]? with|none=>_|some fn=>_) w=_;rw[h];obtain⟨c,b⟩:=rz.1 a;simp only[d,b,Option.isNone_some];rfl
def az{f:Nat}{fn:Func}(h:prog.funcs[f]?=some fn)(a:ag8.contains f=false)(b:fn.body.isSome=true)(args:Array Value)(w:World):(callFunc f args).run (ah β) w=.ok (.enter f args) w:=kC (ar h a) (cF h) b args w
end
section
variable {β:Bool}
def qF3:=ar (β:=β) func3 (by decide)
def qF4:=ar (β:=β) func4 (by decide)
def qF5:=ar (β:=β) func5 (by decide)
def qF6:=ar (β:=β) func6 (by decide)
def qF7:=ar (β:=β) func7 (by decide)
def qF8:=ar (β:=β) func8 (by decide)
def qF9:=ar (β:=β) func9 (by decide)
def xr:=ar (β:=β) func10 (by decide)
def zy:=ar (β:=β) func11 (by decide)
def zv:=ar (β:=β) func12 (by decide)
def xq:=ar (β:=β) func13 (by decide)
def zu:=ar (β:=β) func14 (by decide)
def zt:=ar (β:=β) func15 (by decide)
def xp:=ar (β:=β) func16 (by decide)
def zp:=ar (β:=β) func17 (by decide)
def zn:=ar (β:=β) func18 (by decide)
def xo:=ar (β:=β) func19 (by decide)
def zm:=ar (β:=β) func20 (by decide)
def wB:=ar (β:=β) func21 (by decide)
def zl:=ar (β:=β) func22 (by decide)
def zk:=ar (β:=β) func23 (by decide)
def qF24:=ar (β:=β) func24 (by decide)
def qF25:=ar (β:=β) func25 (by decide)
def zj:=ar (β:=β) func26 (by decide)
def zi:=ar (β:=β) func27 (by decide)
def xm:=ar (β:=β) func28 (by decide)
def zh:=ar (β:=β) func29 (by decide)
def zg:=ar (β:=β) func30 (by decide)
def xl:=ar (β:=β) func31 (by decide)
def zf:=ar (β:=β) func32 (by decide)
def ze:=ar (β:=β) func33 (by decide)
def zd:=ar (β:=β) func34 (by decide)
def zc:=ar (β:=β) func35 (by decide)
def yZ:=ar (β:=β) func36 (by decide)
def yY:=ar (β:=β) func37 (by decide)
def yX:=ar (β:=β) func38 (by decide)
def qF39:=ar (β:=β) func39 (by decide)
def qF40:=ar (β:=β) func40 (by decide)
def yW:=ar (β:=β) func42 (by decide)
def yV:=ar (β:=β) func43 (by decide)
def yU:=ar (β:=β) func44 (by decide)
def yT:=ar (β:=β) func45 (by decide)
def yS:=ar (β:=β) func46 (by decide)
def yR:=ar (β:=β) func47 (by decide)
def yQ:=ar (β:=β) func48 (by decide)
def yP:=ar (β:=β) func49 (by decide)
def yO:=ar (β:=β) func50 (by decide)
def yN:=ar (β:=β) func51 (by decide)
def yM:=ar (β:=β) func52 (by decide)
def wn:=ar (β:=β) func53 (by decide)
def xk:=ar (β:=β) func54 (by decide)
def yL:=ar (β:=β) func55 (by decide)
def yK:=ar (β:=β) func56 (by decide)
def yJ:=ar (β:=β) func57 (by decide)
def yI:=ar (β:=β) func58 (by decide)
def yH:=ar (β:=β) func59 (by decide)
def qF60:=ar (β:=β) func60 (by decide)
def qF61:=ar (β:=β) func61 (by decide)
def qF62:=ar (β:=β) func62 (by decide)
def qF63:=ar (β:=β) func63 (by decide)
def qF64:=ar (β:=β) func64 (by decide)
def qF65:=ar (β:=β) func65 (by decide)
def qF66:=ar (β:=β) func66 (by decide)
def qF67:=ar (β:=β) func67 (by decide)
def qF68:=ar (β:=β) func68 (by decide)
def qF69:=ar (β:=β) func69 (by decide)
def qF70:=ar (β:=β) func70 (by decide)
def yG:=ar (β:=β) func74 (by decide)
def wR:=ar (β:=β) func76 (by decide)
def xj:=ar (β:=β) func77 (by decide)
def yF:=ar (β:=β) func78 (by decide)
def yE:=ar (β:=β) func79 (by decide)
def yD:=ar (β:=β) func80 (by decide)
def yC:=ar (β:=β) func81 (by decide)
def xi:=ar (β:=β) func82 (by decide)
def yB:=ar (β:=β) func83 (by decide)
def xh:=ar (β:=β) func84 (by decide)
def yA:=ar (β:=β) func85 (by decide)
def yz:=ar (β:=β) func86 (by decide)
def yy:=ar (β:=β) func87 (by decide)
def yx:=ar (β:=β) func88 (by decide)
def yw:=ar (β:=β) func89 (by decide)
def yv:=ar (β:=β) func90 (by decide)
def yu:=ar (β:=β) func91 (by decide)
def yr:=ar (β:=β) func92 (by decide)
def wQ:=ar (β:=β) func93 (by decide)
def yq:=ar (β:=β) func94 (by decide)
def xg:=ar (β:=β) func95 (by decide)
def wO:=ar (β:=β) func96 (by decide)
def yp:=ar (β:=β) func97 (by decide)
def yo:=ar (β:=β) func98 (by decide)
def qF99:=ar (β:=β) func99 (by decide)
def qF100:=ar (β:=β) func100 (by decide)
def qF101:=ar (β:=β) func101 (by decide)
def qF102:=ar (β:=β) func102 (by decide)
def qF103:=ar (β:=β) func103 (by decide)
def qF104:=ar (β:=β) func104 (by decide)
def yd:=ar (β:=β) func118 (by decide)
def yc:=ar (β:=β) func124 (by decide)
def yb:=ar (β:=β) func125 (by decide)
def ya:=ar (β:=β) func127 (by decide)
def xZ:=ar (β:=β) func128 (by decide)
def xY:=ar (β:=β) func129 (by decide)
def wm:=ar (β:=β) func130 (by decide)
def xX:=ar (β:=β) func131 (by decide)
def wF:=ar (β:=β) func132 (by decide)
def xW:=ar (β:=β) func133 (by decide)
def xV:=ar (β:=β) func134 (by decide)
def wW:=ar (β:=β) func135 (by decide)
def we:=ar (β:=β) func136 (by decide)
def xU:=ar (β:=β) func137 (by decide)
def wD:=ar (β:=β) func141 (by decide)
def xT:=ar (β:=β) func142 (by decide)
def qF143:=ar (β:=β) func143 (by decide)
def xS:=ar (β:=β) func148 (by decide)
def wC:=ar (β:=β) func149 (by decide)
def xR:=ar (β:=β) func152 (by decide)
def wV:=ar (β:=β) func153 (by decide)
def xQ:=ar (β:=β) func154 (by decide)
def wU:=ar (β:=β) func155 (by decide)
def xP:=ar (β:=β) func156 (by decide)
def xO:=ar (β:=β) func160 (by decide)
def xN:=ar (β:=β) func161 (by decide)
def xM:=ar (β:=β) func163 (by decide)
def xL:=ar (β:=β) func164 (by decide)
def xK:=ar (β:=β) func166 (by decide)
def xJ:=ar (β:=β) func171 (by decide)
def xI:=ar (β:=β) func172 (by decide)
def xH:=ar (β:=β) func179 (by decide)
@[go_sem] def qC4:=az (β:=β) func4 (by decide) rfl
@[go_sem] def qC5:=az (β:=β) func5 (by decide) rfl
@[go_sem] def qC6:=az (β:=β) func6 (by decide) rfl
@[go_sem] def qC7:=az (β:=β) func7 (by decide) rfl
@[go_sem] def qC8:=az (β:=β) func8 (by decide) rfl
@[go_sem] def qC9:=az (β:=β) func9 (by decide) rfl
@[go_sem] def qC10:=az (β:=β) func10 (by decide) rfl
@[go_sem] def qC11:=az (β:=β) func11 (by decide) rfl
@[go_sem] def qC12:=az (β:=β) func12 (by decide) rfl
@[go_sem] def qC13:=az (β:=β) func13 (by decide) rfl
@[go_sem] def qC14:=az (β:=β) func14 (by decide) rfl
@[go_sem] def qC15:=az (β:=β) func15 (by decide) rfl
@[go_sem] def qC16:=az (β:=β) func16 (by decide) rfl
@[go_sem] def qC17:=az (β:=β) func17 (by decide) rfl
@[go_sem] def qC18:=az (β:=β) func18 (by decide) rfl
@[go_sem] def qC19:=az (β:=β) func19 (by decide) rfl
@[go_sem] def qC20:=az (β:=β) func20 (by decide) rfl
@[go_sem] def qC21:=az (β:=β) func21 (by decide) rfl
@[go_sem] def qC22:=az (β:=β) func22 (by decide) rfl
@[go_sem] def qC23:=az (β:=β) func23 (by decide) rfl
@[go_sem] def qC24:=az (β:=β) func24 (by decide) rfl
@[go_sem] def qC25:=az (β:=β) func25 (by decide) rfl
@[go_sem] def qC26:=az (β:=β) func26 (by decide) rfl
@[go_sem] def qC27:=az (β:=β) func27 (by decide) rfl
@[go_sem] def qC28:=az (β:=β) func28 (by decide) rfl
@[go_sem] def qC29:=az (β:=β) func29 (by decide) rfl
@[go_sem] def qC30:=az (β:=β) func30 (by decide) rfl
@[go_sem] def qC31:=az (β:=β) func31 (by decide) rfl
@[go_sem] def qC32:=az (β:=β) func32 (by decide) rfl
@[go_sem] def qC33:=az (β:=β) func33 (by decide) rfl
@[go_sem] def qC34:=az (β:=β) func34 (by decide) rfl
@[go_sem] def qC35:=az (β:=β) func35 (by decide) rfl
@[go_sem] def qC36:=az (β:=β) func36 (by decide) rfl
@[go_sem] def qC37:=az (β:=β) func37 (by decide) rfl
@[go_sem] def qC38:=az (β:=β) func38 (by decide) rfl
@[go_sem] def qC42:=az (β:=β) func42 (by decide) rfl
@[go_sem] def qC43:=az (β:=β) func43 (by decide) rfl
@[go_sem] def qC44:=az (β:=β) func44 (by decide) rfl
@[go_sem] def qC45:=az (β:=β) func45 (by decide) rfl
@[go_sem] def qC46:=az (β:=β) func46 (by decide) rfl
@[go_sem] def qC47:=az (β:=β) func47 (by decide) rfl
@[go_sem] def qC48:=az (β:=β) func48 (by decide) rfl
@[go_sem] def qC49:=az (β:=β) func49 (by decide) rfl
@[go_sem] def qC50:=az (β:=β) func50 (by decide) rfl
@[go_sem] def qC51:=az (β:=β) func51 (by decide) rfl
@[go_sem] def qC52:=az (β:=β) func52 (by decide) rfl
@[go_sem] def qC53:=az (β:=β) func53 (by decide) rfl
@[go_sem] def qC54:=az (β:=β) func54 (by decide) rfl
@[go_sem] def qC55:=az (β:=β) func55 (by decide) rfl
@[go_sem] def qC56:=az (β:=β) func56 (by decide) rfl
@[go_sem] def qC57:=az (β:=β) func57 (by decide) rfl
@[go_sem] def qC58:=az (β:=β) func58 (by decide) rfl
@[go_sem] def qC59:=az (β:=β) func59 (by decide) rfl
@[go_sem] def qC74:=az (β:=β) func74 (by decide) rfl
@[go_sem] def qC76:=az (β:=β) func76 (by decide) rfl
@[go_sem] def qC77:=az (β:=β) func77 (by decide) rfl
@[go_sem] def qC78:=az (β:=β) func78 (by decide) rfl
@[go_sem] def qC79:=az (β:=β) func79 (by decide) rfl
@[go_sem] def qC80:=az (β:=β) func80 (by decide) rfl
@[go_sem] def qC81:=az (β:=β) func81 (by decide) rfl
@[go_sem] def qC82:=az (β:=β) func82 (by decide) rfl
@[go_sem] def qC83:=az (β:=β) func83 (by decide) rfl
@[go_sem] def qC84:=az (β:=β) func84 (by decide) rfl
@[go_sem] def qC85:=az (β:=β) func85 (by decide) rfl
@[go_sem] def qC86:=az (β:=β) func86 (by decide) rfl
@[go_sem] def qC87:=az (β:=β) func87 (by decide) rfl
@[go_sem] def qC88:=az (β:=β) func88 (by decide) rfl
@[go_sem] def qC89:=az (β:=β) func89 (by decide) rfl
@[go_sem] def qC90:=az (β:=β) func90 (by decide) rfl
@[go_sem] def qC91:=az (β:=β) func91 (by decide) rfl
@[go_sem] def qC92:=az (β:=β) func92 (by decide) rfl
@[go_sem] def qC93:=az (β:=β) func93 (by decide) rfl
@[go_sem] def qC94:=az (β:=β) func94 (by decide) rfl
@[go_sem] def qC95:=az (β:=β) func95 (by decide) rfl
@[go_sem] def qC96:=az (β:=β) func96 (by decide) rfl
@[go_sem] def qC97:=az (β:=β) func97 (by decide) rfl
@[go_sem] def qC98:=az (β:=β) func98 (by decide) rfl
@[go_sem] def Ad:=az (β:=β) func118 (by decide) rfl
@[go_sem] def Ac:=az (β:=β) func124 (by decide) rfl
@[go_sem] def zZ:=az (β:=β) func125 (by decide) rfl
@[go_sem] def zY:=az (β:=β) func127 (by decide) rfl
@[go_sem] def zX:=az (β:=β) func128 (by decide) rfl
@[go_sem] def zW:=az (β:=β) func129 (by decide) rfl
@[go_sem] def zV:=az (β:=β) func130 (by decide) rfl
@[go_sem] def zU:=az (β:=β) func131 (by decide) rfl
@[go_sem] def zT:=az (β:=β) func132 (by decide) rfl
@[go_sem] def zS:=az (β:=β) func133 (by decide) rfl
@[go_sem] def zR:=az (β:=β) func134 (by decide) rfl
@[go_sem] def zQ:=az (β:=β) func135 (by decide) rfl
@[go_sem] def zP:=az (β:=β) func136 (by decide) rfl
@[go_sem] def zO:=az (β:=β) func137 (by decide) rfl
@[go_sem] def zN:=az (β:=β) func141 (by decide) rfl
@[go_sem] def zM:=az (β:=β) func142 (by decide) rfl
@[go_sem] def zL:=az (β:=β) func148 (by decide) rfl
@[go_sem] def zK:=az (β:=β) func149 (by decide) rfl
@[go_sem] def zJ:=az (β:=β) func152 (by decide) rfl
@[go_sem] def zI:=az (β:=β) func154 (by decide) rfl
@[go_sem] def zH:=az (β:=β) func155 (by decide) rfl
@[go_sem] def zG:=az (β:=β) func156 (by decide) rfl
@[go_sem] def zF:=az (β:=β) func160 (by decide) rfl
@[go_sem] def zE:=az (β:=β) func161 (by decide) rfl
@[go_sem] def zD:=az (β:=β) func164 (by decide) rfl
@[go_sem] def zC:=az (β:=β) func166 (by decide) rfl
@[go_sem] def zB:=az (β:=β) func171 (by decide) rfl
@[go_sem] def zA:=az (β:=β) func172 (by decide) rfl
def qU0:=(aW (β:=β) 0).trans underlying0
def qU3:=(aW (β:=β) 3).trans underlying3
def qU4:=(aW (β:=β) 4).trans underlying4
def qU5:=(aW (β:=β) 5).trans underlying5
def qU9:=(aW (β:=β) 9).trans underlying9
def wA:=(aW (β:=β) 22).trans underlying22
def yn:=(aW (β:=β) 23).trans underlying23
def ym:=(aW (β:=β) 24).trans underlying24
def yl:=(aW (β:=β) 25).trans underlying25
def yk:=(aW (β:=β) 30).trans underlying30
def xf:=(aW (β:=β) 32).trans underlying32
def yj:=(aW (β:=β) 34).trans underlying34
def wx:=(aW (β:=β) 40).trans underlying40
def yi:=(aW (β:=β) 43).trans underlying43
def xe:=(aW (β:=β) 49).trans underlying49
def yh:=(aW (β:=β) 63).trans underlying63
def yg:=(aW (β:=β) 66).trans underlying66
def yf:=(aW (β:=β) 89).trans underlying89
def ye:=(aW (β:=β) 92).trans underlying92
def xG:=(aW (β:=β) 101).trans underlying101
def xF:=(aW (β:=β) 113).trans underlying113
def xE:=(aW (β:=β) 114).trans underlying114
def xD:=(aW (β:=β) 119).trans underlying119
def xC:=(aW (β:=β) 122).trans underlying122
def xB:=(aW (β:=β) 124).trans underlying124
def xA:=(aW (β:=β) 125).trans underlying125
def xz:=(aW (β:=β) 156).trans underlying156
def xy:=(aW (β:=β) 160).trans underlying160
def xw:=(aW (β:=β) 177).trans underlying177
def xv:=(aW (β:=β) 199).trans underlying199
def xu:=(aW (β:=β) 209).trans underlying209
end
section
variable {β:Bool}
open Go.RowKit
def aqG(n lo hi:Int)(w:World) :
  Calls (ah β) 135 #[.int .i64 n,.int .i64 lo,.int .i64 hi] w λe b=>e=.returned (.bool (decide (lo<=n)&&decide (n<=hi)))/\w=b:=by
 by_cases h:lo<=n
 .go_enter wW,ntmps135;go_wp2;go_ret;exact⟨by simp[h],rfl⟩
 .go_enter wW,ntmps135;go_wp2;go_ret;have a:decide (lo<=n)=false:=by simpa using h
  exact⟨by rw[a];rfl,rfl⟩
end
section
variable {β:Bool}
open Go.RowKit
def bs(s:ByteArray):List Nat:=s.data.toList.map UInt8.toNat
def aK(s:ByteArray):(bs s).length=s.size:=by
 unfold bs;rw[pu,qU];rfl
def aaL{s:ByteArray}(h:k<s.size):(bs s)[k]?=some (s[k]'h).toNat:=by
 unfold bs;rw[qD,dl];have:s.data[k]?=some (s.data[k]'h):=fm h;rw[this];rfl
def aqH{s:ByteArray}:∀b∈bs s,b<256:=λb a=>by
 obtain⟨u,_,rfl⟩:=mT.1 a;exact u.toNat_lt
def lO{s t:ByteArray}(h:bs s=bs t):s=t:=by
 have e:s.data.toList=t.data.toList:=by
  unfold bs at h;generalize s.data.toList=a at *;generalize t.data.toList=b at *
  induction a generalizing b with
  |nil=>cases b with
   |nil=>rfl
   |cons y b=>cases h
  |cons x a d=>cases b with
   |nil=>cases h
   |cons y b=>
    simp only[qL,qb] at h;rw[sx.1 h.1,d b h.2]
 have c:s.data=t.data:=uv.1 e;cases s;cases t;simp only at c;rw[c]
def gW(s t:ByteArray):bs (s++t)=bs s++bs t:=by
 unfold bs;rw[<-qR,<-pr]
 congr 2
 simp
def cL(s:ByteArray)(a b:Nat):bs (s.extract a b)=((bs s).take b).drop a:=by
 unfold bs;simp only[vG,tH,uZ];rw[<-List.map_take,<-List.map_drop]
 congr 1
 rw[List.take_drop];by_cases h:a<=b
 .congr 2;omega
 .have:b-a=0:=by omega
  rw[this,rj (by simp;omega),rj (by simp;omega)]
def ag9{s t:ByteArray}(h:¬t=s):(t.toList ==s.toList)=false:=by
 refine fa.2 λe=>h ?_;rw[qP,qP] at e;have a:t.data=s.data:=uv.1 e;cases s;cases t;simp only at a;rw[a]
def oH(b:Nat):Bool:=decide (97<=b)&&decide (b<=122)
def bg(l:List Nat):Prop:=(1<=l.length/\l.length<=8)/\l.all oH=true
def dL:List Nat->Nat->Nat
 |[],n=>n
 |b::l,n=>dL l (27*n+(b-97)+1)
def code(l:List Nat):Nat:=dL l 0
def bG(key:Int)(l:List Nat):Int:=((code l:Int)*(2*key+1)+key*7919) % 999999999989
def cg(n:Nat):Nat:=if n=0\/8<n then 0 else if n<=2 then 2 else if n<=4 then 4 else 8
def fN(l:List Nat):List Nat:=l++List.replicate (cg l.length-l.length) 46
def fO:∀(a b:List Nat) (n:Nat),dL (a++b) n=dL b (dL a n)
 |[],_,_=>rfl
 |x::a,b,n=>by show dL (a++b) _=dL b (dL a _);rw[fO a b]
def aew:∀(l:List Nat) (n:Nat),l.all oH=true->dL l n<(n+1)*27 ^ l.length
 |[],n,_=>by show n<_;simp
 |b::l,n,h=>by
  simp only[qr,fd] at h;have a:=aew l (27*n+(b-97)+1) h.2;have c:b<=122:=by have:=h.1;unfold oH at this;simp at this;exact this.2
  show dL l _<_;refine aE a ?_;rw[eg,Nat.pow_succ,tT (27 ^ l.length) 27,<-Nat.mul_assoc];exact rF _ (by omega)
def aby{l:List Nat}(h:bg l):code l<282429536481:=by
 have a:=aew l 0 h.2;unfold code;have b:27 ^ l.length<=27 ^ 8:=vQ (by omega) h.1.2;have e:(27:Nat) ^ 8=282429536481:=by decide
 omega
def af2{l:List Nat}{b : Nat}(h:l[k]?=some b):code (l.take (k+1))=27*code (l.take k)+(b-97)+1:=by
 unfold code;rw[nF h,fO];rfl
def aov:∀{a b:List Nat},a.all oH=true->b.all oH=true->dL a 0=dL b 0->a=b:=by
 intro a
 induction a using mP with
 |h0=>
  intro b _ c h
  induction b using mP with
  |h0=>rfl
  |h1 l x _=>rw[fO] at h;show[]=_;exfalso;have:dL [x] (dL l 0)=27*dL l 0+(x-97)+1:=rfl;have h0:dL [] 0=0:=rfl;omega
 |h1 l x g=>
  intro b d c h
  induction b using mP with
  |h0=>rw[fO] at h;exfalso;have:dL [x] (dL l 0)=27*dL l 0+(x-97)+1:=rfl;have h0:dL [] 0=0:=rfl;omega
  |h1 m y _=>
   rw[th] at d c;simp only[fd,qr,vm,uq] at d c;rw[fO,fO] at h;have i:dL [x] (dL l 0)=27*dL l 0+(x-97)+1:=rfl;have j:dL [y] (dL m 0)=27*dL m 0+(y-97)+1:=rfl;have f:=d.2;have e:=c.2;unfold oH at f e;simp at f e;have:dL l 0=dL m 0/\x=y:=by omega
   rw[g d.1 c.1 this.1,this.2]
def jq{key:Int}{l:List Nat}:0<=bG key l/\bG key l<=999999999988:=by
 unfold bG;omega
def ed(l:List Nat):Nat->Nat
 |0=>0
 |n+1=>if l[n]?=some 46 then ed l n else n+1
def uX(l:List Nat):List Nat:=l.take (ed l l.length)
def acy(l:List Nat):∀n,ed l n<=n
 |0=>am _
 |n+1=>by
  unfold ed;split
  .exact Nat.le_succ_of_le (acy l n)
  .exact am _
open Classical in
noncomputable def mQ(l:List Nat):Option (List Nat):=if bg (uX l)/\fN (uX l)=l then some (uX l) else none
def pE :cg n<=8/\(n<=8->n<=cg n):=by
 unfold cg;split<;>(try split)<;>(try split)<;>omega
def aiu{l:List Nat}(h:bg l):(fN l).length=cg l.length:=by
 unfold fN;rw[ap,qo];have:=pE.2 h.1.2;omega
def aow{l:List Nat}(h:bg l):uX (fN l)=l:=by
 have c:∀m,ed (fN l) (l.length+m)=l.length\/l.length+m>(fN l).length:=by
  intro m
  induction m with
  |zero=>
   left;obtain⟨k,f⟩:∃k,l.length=k+1:=⟨l.length-1,by have:=h.1.1;omega⟩;rw[sS,f];unfold ed;rw[be];unfold fN;rw[qy (by omega)];intro e;have:=jt.1 h.2 46 (da e);simp[oH] at this
  |succ m b=>
   by_cases a:l.length+m<(fN l).length
   .rcases b with b|b
    .left;show ed (fN l) (l.length+m+1)=_;unfold ed;rw[dk,b];unfold fN at a ⊢;rw[ap,qo] at a;rw[qm (by omega),ub,dk (by omega)]
    .omega
   .right;omega
 have d:l.length<=(fN l).length:=by unfold fN;simp
 have:=c ((fN l).length-l.length);rw[Nat.add_sub_cancel' d] at this;unfold uX;rw[this.resolve_right (by omega)];unfold fN;rw[List.take_left]
def aiv{l:List Nat}(h:bg l):mQ (fN l)=some l:=by
 unfold mQ;rw[aow h,dk ⟨h,rfl⟩]
def rE(l:List Nat):ByteArray:=⟨(l.map UInt8.ofNat).toArray⟩
def am3{l:List Nat}(h:∀b∈l,b<256):bs (rE l)=l:=by
 unfold bs rE;simp only[tz]
 conv=>rhs;rw[<-List.map_id l]
 refine uI λb a=> ?_;have:=h b a;simp[UInt8.toNat_ofNat,Nat.mod_eq_of_lt this]
def awf(s:ByteArray):rE (bs s)=s:=lO (am3 aqH)
def aox{s:ByteArray}:∀b∈fN (bs s),b<256:=λb a=>by
 unfold fN at a;rcases ge.1 a with h|h
 .exact aqH b h
 .have:=List.eq_of_mem_replicate h;omega
def aha(s:ByteArray):bs (rE (fN (bs s)))=fN (bs s):=am3 aox
end
section
variable {β:Bool}
open Go.RowKit
def afy(s:ByteArray)(n:s.size<=maxLen)(w:World) :
  Calls (ah β) 94 #[.string s] w λe m=>e=.returned (.bool ((bs s).all oH))/\w=m:=by
 unfold maxLen at n;go_enter yq,ntmps94;go_wp2
 go_loop [3] (λi=>∃k:Nat,k<=s.size/\i=.int .i64 k/\((bs s).take k).all oH=true) (λi=>s.size-(intOf i).toNat)
 case atStart=>exact⟨0,fb _,rfl,rfl⟩
 case round=>
  obtain⟨k,p,rfl,f⟩:=hrel;replace f:=ab f;by_cases b:k<s.size
  .have d:=aaL b;replace d:=ab d;by_cases q:(s[k]'b).toNat<97
   .have l:=db (show((s[k]'b).toNat:Int)<97 by omega);have a:(bs s).all oH=false:=by
     rw[ug];exact⟨_,da d.out,by unfold oH;simp;omega⟩
    have c:=ab a;clear a;go_wp2;go_ret;exact⟨aC c.out.symm,rfl⟩
   .have l:=bv (show ¬(((s[k]'b).toNat:Int)<97) by omega);by_cases o:122<(s[k]'b).toNat
    .have j:=db (show 122<((s[k]'b).toNat:Int) by omega);have a:(bs s).all oH=false:=by
      rw[ug];exact⟨_,da d.out,by unfold oH;simp;omega⟩
     have c:=ab a;clear a;go_wp2;go_ret;exact⟨aC c.out.symm,rfl⟩
    .have j:=bv (show ¬(122<((s[k]'b).toNat:Int)) by omega);have g:((bs s).take (k+1)).all oH=true:=by
      rw[nF d.out,th,f.out];simp[oH];omega
     replace g:=ab g;go_wp2
     go_round
     case rel=>exact⟨k+1,by omega,by go_num,g.out⟩
     simp[intOf];omega
  .obtain rfl:k=s.size:=by omega
   have a:(bs s).all oH=true:=by
    have:=f.out
    rwa [qj (by rw[aK];exact am _)] at this
   have c:=ab a;clear a;go_wp2;go_ret;exact⟨aC c.out.symm,rfl⟩
def akI(s:ByteArray)(f:bg (bs s))(w:World) :
  Calls (ah β) 134 #[.string s] w λe p=>e=.returned (.int .i64 (code (bs s)))/\w=p:=by
 have o:=ab f;have u:s.size<=8:=by have:=f.1.2;rwa [aK] at this
 clear f;go_enter xV,ntmps134;go_wp2
 go_loop [3,4] (λn i=>∃k:Nat,k<=s.size/\i=.int .i64 k/\n=.int .i64 (code ((bs s).take k))) (λ_ i=>s.size-(intOf i).toNat)
 case atStart=>exact⟨0,fb _,rfl,rfl⟩
 case round=>
  obtain⟨k,v,rfl,rfl⟩:=hrel;by_cases a:k<s.size
  .have j:=aaL a;have g:=jt.1 o.out.2 _ (da j);have q:97<=(s[k]'a).toNat/\(s[k]'a).toNat<=122:=by unfold oH at g;simpa using g
   have d:=af2 j;have l:code ((bs s).take (k+1))<282429536481:=by
    have y:=aew ((bs s).take (k+1)) 0 (jt.2 λx r=>jt.1 o.out.2 x (oS r));have t:27 ^ ((bs s).take (k+1)).length<=27 ^ 8:=vQ (by omega) (by rw[ff,aK];omega);have e:(27:Nat) ^ 8=282429536481:=by decide
    unfold code;omega
   have b:=ab d;clear j g;rw[d] at l;clear d;revert b l;generalize code ((bs s).take k)=c;intro l b;go_wp2
   go_round
   case rel=>exact⟨k+1,by omega,by go_num,by rw[b.out];congr 1;omega⟩
   simp[intOf];omega
  .obtain rfl:k=s.size:=by omega
   have m:(bs s).take s.size=bs s:=qj (by rw[aK];exact am _);rw[m];clear m;go_wp2;go_ret;exact⟨rfl,rfl⟩
def aaM(key:Int)(s:ByteArray)(n:1<=key/\key<=99)(d:bg (bs s))(w:World) :
  Calls (ah β) 87 #[.int .i64 key,.string s] w λe j=>e=.returned (.int .i64 (bG key (bs s)))/\w=j:=by
 have i:=aby d;have f:bG key (bs s)=((code (bs s):Int)*(2*key+1)+key*7919) % 999999999989:=rfl;have b:=ab f;clear f;have g:=akI (β:=β) s d w;have a:=ab g;clear g;revert a;revert b;revert i;generalize code (bs s)=c;intro i b a;have q:0<=(c:Int)*(2*key+1)/\(c:Int)*(2*key+1)<=282429536481*199:=by
  constructor
  .exact Int.mul_nonneg (by omega) (by omega)
  .exact Int.mul_le_mul (by omega) (by omega) (by omega) (by omega)
 go_enter yy,ntmps87;go_wp2;refine a.out.mono ?_;rintro e k ⟨rfl,rfl⟩;have t:wrap64 (2*key)=2*key:=by unfold wrap64;omega
 have p:wrap64 (2*key+1)=2*key+1:=by unfold wrap64;omega
 have o:wrap64 ((c:Int)*(2*key+1))=(c:Int)*(2*key+1):=by unfold wrap64;omega
 have l:wrap64 (key*7919)=key*7919:=by unfold wrap64;omega
 have r:wrap64 ((c:Int)*(2*key+1)+key*7919)=(c:Int)*(2*key+1)+key*7919:=by unfold wrap64;omega
 have m:((c:Int)*(2*key+1)+key*7919).tmod 999999999989=((c:Int)*(2*key+1)+key*7919) % 999999999989:=uR (by omega);go_wp2;go_ret;exact⟨atQ b.out.symm,rfl⟩
def aiw(n:Nat)(w:World) :
  Calls (ah β) 136 #[.int .i64 n] w λe d=>e=.returned (.int .i64 (cg n))/\w=d:=by
 have g:(n=0/\cg n=0)\/(8<n/\cg n=0)\/((1<=n/\n<=2)/\cg n=2)\/((3<=n/\n<=4)/\cg n=4)\/((5<=n/\n<=8)/\cg n=8):=by
  unfold cg;split<;>(try split)<;>(try split)<;>omega
 rcases g with⟨h,e⟩|⟨h,e⟩|⟨h,e⟩|⟨h,e⟩|⟨h,e⟩
 .rw[e];subst h;go_enter we,ntmps136;go_wp2;go_ret;exact⟨rfl,rfl⟩
 .rw[e];have c:=bv (show ¬((n:Int)<1) by omega);have b:=db (show 8<(n:Int) by omega);clear e;go_enter we,ntmps136;go_wp2;go_ret;exact⟨rfl,rfl⟩
 all_goals
  rw[e];have c:=bv (show ¬((n:Int)<1) by omega);have b:=bv (show ¬(8<(n:Int)) by omega);clear e
 .have a:=db (show(n:Int)<=2 by omega);go_enter we,ntmps136;go_wp2;go_ret;exact⟨rfl,rfl⟩
 .have a:=bv (show ¬((n:Int)<=2) by omega);have f:=db (show(n:Int)<=4 by omega);go_enter we,ntmps136;go_wp2;go_ret;exact⟨rfl,rfl⟩
 .have a:=bv (show ¬((n:Int)<=2) by omega);have f:=bv (show ¬((n:Int)<=4) by omega);go_enter we,ntmps136;go_wp2;go_ret;exact⟨rfl,rfl⟩
def azp(l:List Nat)(e:Ending):Prop:=∃t:ByteArray,e=.returned (.string t)/\bs t=l
def aoy(s:ByteArray)(j:s.size<=maxLen)(w:World) :
  Calls (ah β) 92 #[.string s] w λe i=>azp (fN (bs s)) e/\w=i:=by
 unfold maxLen at j;have a:fN (bs s)=bs s++List.replicate (cg s.size-s.size) 46:=by unfold fN;rw[aK]
 replace a:=ab a;have p:=(pE (n:=s.size)).1;go_enter yr,ntmps92;go_wp2;refine(aiw s.size w).mono ?_;rintro e m ⟨rfl,rfl⟩;go_wp2
 go_loop [0] (λv=>∃(t:ByteArray) (k:Nat),v=.string t/\bs t=bs s++List.replicate k 46/\k<=cg s.size-s.size) (λv=>cg s.size-(match v with|.string t=>t.size|_=>0))
 case atStart=>exact⟨s,0,rfl,by simp,fb _⟩
 case round=>
  obtain⟨t,k,rfl,c,o⟩:=hrel;have l:t.size=s.size+k:=by rw[<-aK,c,ap,qo,aK]
  replace c:=ab c;by_cases f:t.size<cg s.size
  .have g:=db (show(t.size:Int)<(cg s.size:Int) by omega);have d:bs (t++⟨#[46]⟩)=bs s++List.replicate (k+1) 46:=by
    rw[gW,c.out,tp,vR];rfl
   replace d:=ab d;go_wp2
   go_round
   case rel=>exact⟨_,k+1,rfl,d.out,by omega⟩
   case measure=> 
    have:(t++(⟨#[46]⟩:ByteArray)).size=t.size+1:=by rw[<-aK,gW,ap,aK];rfl
    simp only[this];omega
  .have g:=bv (show ¬((t.size:Int)<(cg s.size:Int)) by omega);have b:k=cg s.size-s.size:=by omega
   replace b:=ab b;go_wp2;go_ret;exact⟨⟨t,rfl,by rw[c.out,a.out,b.out]⟩,rfl⟩
def vf{s:ByteArray}(a:k<=s.size):(s.extract 0 k).size=k:=by
 rw[<-aK,cL,rh,ff,aK];omega
end
section
variable {β:Bool}
open Go.RowKit
structure gJ (P:Program) (t e:TypeId) (sz bytes:Nat):Prop where
 slice:P.underlying t=some (.slice e)
 info:∃i z,P.info? e=some i/\i.zero=some z/\i.size=sz/\i.bytes=bytes/\z.cells.size=sz
 pos:0<sz
 small:bytes<=128
section
variable {P:Program}
def gJ.mk'{t : TypeId}{z:Value}(f:P.underlying t=some (.slice e))(hi:(P.info? e).map (λi=>(i.zero,i.size,i.bytes))=some (some z,W,N))(k:z.cells.size=W)(a:0<W)(j:N<=128):gJ P t e W N:=by
 obtain⟨i,d,b,g,c⟩:=info_parts hi;exact⟨f,⟨i,z,d,b,g,c,k⟩,a,j⟩
structure am4 (w w':World) (base:Nat) (e:TypeId) (sz:Nat) (v v':Value) (n:Nat) (cells:List Value):Prop where
 own:w'.ownsRow base e sz v' n cells
 dQ:bq (λb=>v.ownBlock=some b) w w'
 at_:∀b,v'.ownBlock=some b->v.ownBlock=some b\/w.heap.size<=b
def ahb{base:Nat}(h:w.ownsRow base e W v n U)(k:bq S w w')(j:∀b,v.ownBlock=some b->¬S b):w'.ownsRow base e W v n U:=by
 refine⟨h.1, ?_⟩;rcases h.2 with i|⟨g,cap,d,rfl,f,a,c⟩
 .exact .inl i
 .refine .inr ⟨g,cap,d,rfl,f, ?_,c⟩;rw[k.block g (de.1 a).1 (j g rfl)];exact a
def aex{base:Nat}(h:w.ownsRow base e W v n U)(a:Below w.heap.size w w'):w'.ownsRow base e W v n U:=
 ahb h (bq.aT (S:=λ_=>False) a) λ_ _ h=>h
def am5 {t ty : TypeId} (q:gJ P t e W N) {base:Nat}   (d:w.ownsRow base e W v n U)
  (Q:news.length=m*W) (S:0<m->∃a,A=some a/\∀(j:Nat) (u:Value),news[j]?=some u->w.cell? (a.add j)=some u) (R:∀u∈news,u.oneCell'=true)
  (X:n+m<=1099511627776) (l:base<=w.heap.size) :
  ∃y x,(Builtin.append_ #[t,t] ty #[v,.slice A m c]).run P w=.ok y x/\am4 w x base e W v y (n+m) (U++news):=by
 obtain⟨i,z,G,O,D,E,F⟩:=q.info;have f:(n+m)*N<=140737488355328:=bd (Nat.mul_le_mul X q.small) (by omega);rcases pa m with I|I
 .subst I;have C:news=[]:=rY (by simpa using Q);subst C;cases A with
  |some K=>
   obtain⟨y,x,M,H,o,_,p⟩:=run_append_own_at (P:=P) w base t ty e i z W N q.slice G O D E F q.pos v n U d K 0 c [] (by simp) (λj u V=>by simp at V) (by simp) (by unfold maxLen;omega) f l;exact⟨y,x,M,H,⟨o.os,o.tape,o.output,o.size,λk J r=>o.block k J λe=>r e.symm⟩,λb B=>by rcases p with p|p<;>rw[p] at B<;>simp_all⟩
  |none=>
   refine⟨v,w, ?_,by simpa using d,bq.refl _ _,λb B=>.inl B⟩;rcases d.2 with⟨rfl,rfl⟩|⟨g,cap,T,rfl,_,_,L,_⟩
   .simp[Builtin.append_,lm q.slice,sizeOf,typeInfo,G,Builtin.lenOf,Builtin.firstCells]
   .simp[Builtin.append_,lm q.slice,sizeOf,typeInfo,G,Builtin.lenOf,Builtin.firstCells,L,storeCells]
 .obtain⟨K,rfl,s⟩:=S I;obtain⟨y,x,M,H,o,_,p⟩:=run_append_own_at (P:=P) w base t ty e i z W N q.slice G O D E F q.pos v n U d K m c news Q s R (by unfold maxLen;omega) f l;exact⟨y,x,M,H,⟨o.os,o.tape,o.output,o.size,λk J r=>o.block k J λe=>r e.symm⟩,λb B=>by rcases p with p|p<;>rw[p] at B<;>simp_all⟩
def axn  {a:Act} {K:Act->World->Prop} (s x:Operand) (t:TypeId)
  (l:o.op=.call ⟨.builtin .append,#[s,x],#[t,t]⟩)
  (k:gJ P t e W N) {base:Nat}   (r:a.eval s=v) (d:w.ownsRow base e W v n U)
  (y:a.eval x=.slice A m c) (p:news.length=m*W) (C:0<m->∃a,A=some a/\∀(j:Nat) (u:Value),news[j]?=some u->w.cell? (a.add j)=some u) (B:∀u∈news,u.oneCell'=true)
  (z:n+m<=1099511627776) (b:base<=w.heap.size)
  (h:∀i g,am4 w g base e W v i (n+m) (U++news)->K (a.put o.dst i) g):o.wp P a w K Q:=by
 obtain⟨i,g,f,q⟩:=am5 (P:=P) (ty:=o.type) k d (c:=c) p C B z b;unfold Oper.wp execOp;simp only[l,resolve,invoke,builtin,tv,tS,ue,List.map_toArray,qL,List.map_nil,r,y,f];exact h i g q
def abz    {a:Act} (i:o.guard=none) (s x:Operand) (t:TypeId)
  (y:o.op=.call ⟨.builtin .append,#[s,x],#[t,t]⟩)
  (r:gJ P t e W N) {base:Nat}   (B:a.eval s=v) (d:w.ownsRow base e W v n U)
  (C:a.eval x=.slice A m c) (z:news.length=m*W) (q:0<m->∃a,A=some a/\∀(j:Nat) (u:Value),news[j]?=some u->w.cell? (a.add j)=some u) (l:∀u∈news,u.oneCell'=true)
  (D:n+m<=1099511627776) (b:base<=w.heap.size)
  (h:∀g f,am4 w f base e W v g (n+m) (U++news)->wpList P M Q rest (a.put o.dst g) f):wpList P M Q (o::rest) a w:=
 wpList_plain i λ_ p=>axn s x t y r B d C z q l D b λg f k=>p _ _ (h g f k)
def atU    {a:Act} (k:o.guard=none) (s x:Operand) (t:TypeId)
  (B:o.op=.call ⟨.builtin .append,#[s,x],#[t,t]⟩)
  (A:gJ P t e W N) {base:Nat}   (E:a.eval s=v) (d:w.ownsRow base e W v n U)
  {es:Array Value} {T:TypeId} (G:a.eval x=.slice (some ⟨w.heap.size,0,none⟩) 1 1) (C:es.size=W) (z:∀u∈es.toList,u.oneCell'=true)
  (H:n<=1099511627775) (p:base<=w.heap.size)
  (h:∀g f,am4 w f base e W v g (n+1) (U++es.toList)->wpList P M Q rest (a.put o.dst g) f):wpList P M Q (o::rest) a (w.alloc (.cells es T)):=by
 refine abz k s x t B A E (d.alloc _) (c:=1) (m:=1) (news:=es.toList) G (by simp[C]) (λ_=>⟨_,rfl,λj u D=> ?_⟩) z (by omega) (by simp;omega) λg f l=>h g f ?_
 .have r:(⟨w.heap.size,0,none⟩:Addr).add j=⟨w.heap.size,j,none⟩:=by unfold Addr.add;split<;>simp_all
  rw[r,(bR.new w T es).cell];simpa using D
 .refine⟨l.own, ?_, ?_⟩
  .exact((bq.refl (λb=>v.ownBlock=some b) w).alloc _).trans l.dQ λi _ F=>F
  .intro b y;rcases l.at_ b y with q|q
   .exact .inl q
   .simp at q;right;omega
end
def oI:gJ (ah β) 40 3 1 8:=gJ.mk' wx (z:=.int .i64 0) (by kernel_rfl) rfl (by decide) (by decide)
def jr{base:Nat}(h:w.ownsRow base e W v n U):∃A c,v=.slice A n c:=by
 rcases h.2 with⟨rfl,rfl⟩|⟨g,cap,a,rfl,_⟩
 .exact⟨_,_,rfl⟩
 .exact⟨_,_,rfl⟩
def axo {E:fU Z} {base : Nat}     (h:w.ownsRow base e W v xs.length U) (o:w.heap.size<=hi)
  (p:∀i x,xs[i]?=some x->∃a:List Value,a.length=W/\E w base hi x a/\∀j u,a[j]?=some u->U[i*W+j]?=some u):cV E W w base hi xs [v]:=by
 obtain⟨A,l⟩:=h;rcases l with⟨rfl,m⟩|⟨g,cap,d,rfl,n,k,f,c,s,y⟩
 .exact⟨none,0,by rw[m],by omega,by unfold maxLen;omega,λB=>by omega⟩
 .refine⟨_,cap,rfl,f,c,λ_=>⟨g,0,rfl,n,aE (de.1 k).1 o,λi x hi=> ?_⟩⟩;obtain⟨a,q,t,z⟩:=p i x hi;refine⟨a,q,t,λj u r=> ?_⟩;have b:=z j u r;rw[<-y,qX] at b;split at b
  .rw[cell_of_row w g (0+i*W+j) d e (0,0) k];rw[mc];simpa using b
  .cases b
end
end Go.Proofs.YtmicddpknimniaaGreatDoor