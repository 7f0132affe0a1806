/- A part. -/
import Derived.Test.YtgjaikdifcbnkaaGreatDoorG1
import Derived.KernelRfl
import Derived.Test.YtgjaikdifcbnkaaGreatDoorRows
import Derived.ProofKit
import Derived.OpenShut
import Derived.Handy
import Derived.BigQuiet
import Derived.Deep.QuietTactic
import Derived.Outline
import Derived.Deep.Draws
import Derived.Lib.Hide
import Derived.Laws.Strings
import Derived.Maps.AppendAt
import Derived.Deep.OwnRows
set_option maxRecDepth 100000
set_option maxHeartbeats 8000000
set_option linter.all false
open Go Go.RowKit Go.Proofs.Tryz Go.Proofs.YtgjaikdifcbnkaaGreatDoor
variable {Z Q B c hi k m n:Nat} {Y:Type} {o:Oper} {R fr:Frame} {K a w w':World} {v:Value} {e:TypeId} {f:FuncId} {P:Program} {S:Nat→Prop} {i:TypeInfo} {I todo:List Item} {g g':Goroutine} {rest:List Oper} {V cs l l':List Frame} {U news:List Value} {N:Array Oper} {M r:Option Nat} {W t:Array Value} {O es:Array Event} {A:Option Addr} {J:List Deferred} {e':Operand→Value} {s':List Frame→GStep} {L:TypeId→Option TypeInfo} {s:List Frame→World→GStep} {x:Y} {xs:List Y}
namespace Go.Proofs.YtgjaikdifcbnkaaGreatDoor
def ab:=@Go.Lib.hid
def aE:=@List.length_append
def db:=@decide_eq_false
def de:=@List.mem_of_getElem?
def dj:=@decide_eq_true
def dk:=@beq_eq_false_iff_ne
def fa:=@List.length_take
def ff:=@Nat.zero_le
def gc:=@List.length_cons
def iS:=@Go.RowKit.Below.heap_setCell
def jn:=@Array.getD_eq_getD_getElem?
def jp:=@List.getElem?_eq_getElem
def lw:=@Option.map_eq_some_iff
def me:=@Nat.zero_add
def mu:=@Go.run_underlying
def nF:=@Go.Value.slice.injEq
def pa:=@List.take_of_length_le
def pb:=@List.mem_cons
def ph:=@Option.bind_eq_some_iff
def pr:=@Nat.lt_or_ge
def pu:=@List.mem_of_mem_take
def qg:=@Nat.eq_zero_or_pos
def qh:=@Array.getElem?_setIfInBounds_self_of_lt
def qi:=@List.length_map
def qj:=@List.cons.injEq
def qk:=@Array.getElem?_eq_none
def qm:=@List.getElem?_append_right
def qp:=@Option.getD_some
def qs:=@Option.map_some
def qw:=@List.getElem?_append_left
def qx:=@and_true
def qy:=@Go.World.cell?_of_block
def qz:=@List.mem_range
def qA:=@List.getElem?_take
def qB:=@Bool.false_ne_true
def qD:=@List.mem_cons_self
def qE:=@List.length_replicate
def qI:=@Array.mem_of_getElem?
def qN:=@List.cons_append
def qO:=@List.getElem?_map
def qP:=@Nat.mul_le_mul_right
def qQ:=@Go.Stepped.next.injEq
def qR:=@Go.ByteArray.toList_eq
def qT:=@List.eq_nil_of_length_eq_zero
def qU:=@Classical.byContradiction
def qW:=@Go.Sem.run_bind'
def qX:=@List.nil_append
def rb:=@decide_eq_true_eq
def rh:=@List.mem_cons_of_mem
def rj:=@Bool.or_eq_true
def rq:=@List.getElem?_eq_none
def rE:=@List.mem_iff_getElem?
def rF:=@Option.isSome_iff_exists
def rI:=@Go.RowKit.Below.heap_alloc
def rO:=@List.drop_zero
def rU:=@List.drop_eq_nil_of_le
def rV:=@Array.getElem?_append_left
def su:=@Array.mem_toList_iff
def th:=@List.append_assoc
def tv:=@Nat.add_zero
def tH:=@List.map_append
def tJ:=@List.all_append
def tP:=@Go.Sem.run_bind
def tQ:=@Nat.mul_comm
def tX:=@dif_pos
def ug:=@Go.Sem.run_pure
def uo:=@List.getElem?_replicate
def uv:=@Go.Result.andThen_ok
def uw:=@List.all_eq_false
def uC:=@Bool.false_or
def uD:=@Bool.and_true
def uJ:=@Array.toList_inj
def uO:=@UInt8.toNat_inj
def uQ:=@Nat.pow_le_pow_right
def uR:=@List.range_succ
def vz:=@Nat.add_assoc
def vA:=@Int.tmod_eq_emod_of_nonneg
def vD:=@Bool.or_false
def vE:=@Bool.not_true
def vL:=@List.extract_eq_take_drop
def vP:=@List.map_map
def vQ:=@List.all_nil
def vX:=@ByteArray.data_extract
def wt:=@List.replicate_succ'
def wG:=@List.map_congr_left
section
def aaT{t:TypeId}(h:adR P t=true):∀k e,P.underlying t=some (.map k e)->∃b,P.underlying k=some (.int b):=λk e a=>by
 unfold adR agG at h;rw[a] at h;dsimp only at h;split at h
 .exact⟨_,by assumption⟩
 .cases h
section
variable {P P':Program} {ρ:Ren}
variable (T:Twin P P') (X:ah7 P P')
include T
theorem mv:∀(d:Nat) {ρ:Ren} (t:TypeId) {x k y i:Value},VR ρ x k->VR ρ y i->az P P' jG ρ (Op.eqGuardIn d t x y) (Op.eqGuardIn d t k i)
 |0,_,_,_,_,_,_,_,_=>.halt _ _
 |d+1,ρ,t,x,k,y,i,g,c=>by
  unfold Op.eqGuardIn;refine aj (aG T t) λM u O C hd=> ?_;obtain⟨rfl,hd⟩:=hd;replace g:=g.mono C;replace c:=c.mono C;cases u with
  |interface N=>cases g<;>cases c<;>first|exact ak rfl|(cases k<;>first|exact ak rfl|exact absurd (by assumption:jK Value.nilIface=true) (by decide)|exact absurd (by assumption:jK (Value.agg _)=true) qB)|(cases i<;>first|exact ak rfl|exact absurd (by assumption:jK Value.nilIface=true) (by decide)|exact absurd (by assumption:jK (Value.agg _)=true) qB)
  |struct L=>cases g with
   |agg g=>cases c with
    |agg c=>
     refine aj (abA (B:=jG) L (rfl:jG M (none,()) (none,())) λo f r m l _ _=> ?_) λo r m l e=> ?_
     .refine aW (λ_=> ?_) λ_=>ak (.yield rfl);refine aj (mE T f.type (bU.mono l g) f.offset) λJ a I w s=> ?_;refine aj (mE T f.type (bU.mono (l.trans w) c) f.offset) λH b F p j=> ?_;refine aj (mv d f.type (s.mono p) j) λD q v _ e=> ?_;obtain rfl:q=v:=e;exact aW (λ_=>ak (.done rfl)) λ_=>ak (.yield rfl)
     .obtain rfl:r=m:=e;obtain⟨_|q,u⟩:=r<;>exact ak rfl
    |fQ=>(cases i<;>first|exact ak rfl|exact absurd (by assumption:jK Value.nilIface=true) (by decide)|exact absurd (by assumption:jK (Value.agg _)=true) qB)
    |_=>exact ak rfl
   |_=>cases c<;>first|exact ak rfl|(cases k<;>first|exact ak rfl|exact absurd (by assumption:jK Value.nilIface=true) (by decide)|exact absurd (by assumption:jK (Value.agg _)=true) qB)|(cases i<;>first|exact ak rfl|exact absurd (by assumption:jK Value.nilIface=true) (by decide)|exact absurd (by assumption:jK (Value.agg _)=true) qB)
  |array n e=>cases g with
   |agg g=>cases c with
    |agg c=>
     refine aj (fO T e) λK z G E q=> ?_;obtain rfl:z=G:=q;refine aj (abB (B:=jG) n (rfl:jG K (none,()) (none,())) λo f r m l _=> ?_) λo r m l e=> ?_
     .have A:=E.trans l;refine aj (mE T e (bU.mono A g) (f*z)) λJ a I w s=> ?_;refine aj (mE T e (bU.mono (A.trans w) c) (f*z)) λH b F p j=> ?_;refine aj (mv d e (s.mono p) j) λD q v _ e=> ?_;obtain rfl:q=v:=e;exact aW (λ_=>ak (.done rfl)) λ_=>ak (.yield rfl)
     .obtain rfl:r=m:=e;obtain⟨_|q,u⟩:=r<;>exact ak rfl
    |fQ=>(cases i<;>first|exact ak rfl|exact absurd (by assumption:jK Value.nilIface=true) (by decide)|exact absurd (by assumption:jK (Value.agg _)=true) qB)
    |_=>exact ak rfl
   |_=>cases c<;>first|exact ak rfl|(cases k<;>first|exact ak rfl|exact absurd (by assumption:jK Value.nilIface=true) (by decide)|exact absurd (by assumption:jK (Value.agg _)=true) qB)|(cases i<;>first|exact ak rfl|exact absurd (by assumption:jK Value.nilIface=true) (by decide)|exact absurd (by assumption:jK (Value.agg _)=true) qB)
  |_=>exact ak rfl
theorem aob(op:BinOp)(t:TypeId)(x y:Operand){a b c : Value}(j:VR ρ a v)(d:VR ρ b c):az P P' jG ρ (eqGuard op t x y a b) (eqGuard op t x y v c):=by
 unfold eqGuard;refine aW (λ_=>ak rfl) λ_=> ?_;have i:=j;have g:=d;cases j with
 |nilIface=>cases d with
  |nilIface=>
   refine aW (λ_=>ak rfl) λ_=> ?_;refine aj (mv T _ t .nilIface .nilIface) λm q f _ e=> ?_;obtain rfl:q=f:=e;exact aW (λ_=>.halt _ _) λ_=>ak rfl
  |fQ=>(cases c<;>first|exact ak rfl|exact absurd (by assumption:jK Value.nilIface=true) (by decide)|exact absurd (by assumption:jK (Value.agg _)=true) qB)
  |_=>exact ak rfl
 |agg j=>cases d with
  |agg d=>
   refine aj dr λm p A l n=> ?_;obtain⟨r,w⟩:=n;refine aj dr λz q f k o=> ?_;obtain⟨s,u⟩:=o;rw[r,w,s,u,T.aka,T.depth];refine aW (λ_=>ak rfl) λ_=> ?_;refine aj (mv T _ t (i.mono (l.trans k)) (g.mono (l.trans k))) λm q f _ e=> ?_;obtain rfl:q=f:=e;exact aW (λ_=>.halt _ _) λ_=>ak rfl
  |fQ=>(cases c<;>first|exact ak rfl|exact absurd (by assumption:jK Value.nilIface=true) (by decide)|exact absurd (by assumption:jK (Value.agg _)=true) qB)
  |_=>exact ak rfl
 |_=>cases d<;>first|exact ak rfl|(cases v<;>first|exact ak rfl|exact absurd (by assumption:jK Value.nilIface=true) (by decide)|exact absurd (by assumption:jK (Value.agg _)=true) qB)|(cases c<;>first|exact ak rfl|exact absurd (by assumption:jK Value.nilIface=true) (by decide)|exact absurd (by assumption:jK (Value.agg _)=true) qB)
theorem aoc(f dst:TypeId)(a:aj8 P f dst=true){x g:Value}(c:VR ρ x g):az P P' VR ρ (convert f dst x) (convert f dst g):=by
 unfold convert;refine aj (aG T f) λB u A t m=> ?_;obtain⟨rfl,m⟩:=m;refine aj (aG T dst) λo v w p n=> ?_;obtain⟨rfl,n⟩:=n;replace c:=c.mono (t.trans p);unfold aj8 at a;rw[m,n] at a;cases v with
 |int k=>
  cases u with
  |int y=>cases c with
   |int=>exact ak (.int _ _)
   |pointer h=>cases h<;>exact .halt _ _
   |slice h=>cases h<;>exact .halt _ _
   |_=>exact .halt _ _
  |_=>cases a
 |string=>
  cases u with
  |slice e=>
   have b:∀{x g:Value},VR o x g->az P P' VR o (do
     match<-underlying e with
     |.int .u8=>Conv.bytesToString x
     |.int .i32=>Conv.runesToString x
     |_=>stuck "Convert: a slice of what to string?") (do
     match<-underlying e with
     |.int .u8=>Conv.bytesToString g
     |.int .i32=>Conv.runesToString g
     |_=>stuck "Convert: a slice of what to string?"):=λ{x g} c=>by
    refine aj (aG T e) λr z q l i=> ?_;obtain⟨rfl,i⟩:=i;dsimp only at a;rw[i] at a;cases z with
    |int k=>cases k<;>first|exact adA (c.mono l)|exact .halt _ _|cases a
    |_=>exact .halt _ _
   have j:=c;cases c with
   |int=>exact ak (.string _)
   |string s=>exact ak (.string _)
   |pointer h=>cases h<;>exact b j
   |slice h=>cases h<;>exact b j
   |fQ=>
    refine .dead (Leaves.bind (aep e) λd _=> ?_) _;cases d with
    |int k=>cases k<;>exact trivial
    |_=>exact trivial
   |_=>exact b j
  |unsafePointer=>cases a
  |_=>cases c with
   |int=>exact ak (.string _)
   |string s=>exact ak (.string _)
   |pointer h=>cases h<;>exact .halt _ _
   |slice h=>cases h<;>exact .halt _ _
   |_=>exact .halt _ _
 |slice e=>
  cases u with
  |string=>cases c with
   |string s=>
    refine aj (aG T e) λr z q l i=> ?_;obtain⟨rfl,i⟩:=i;dsimp only at a;rw[i] at a;cases z with
    |int k=>cases k<;>first|exact adB e s|exact .halt _ _|cases a
    |_=>exact .halt _ _
   |pointer h=>cases h<;>exact .halt _ _
   |slice h=>cases h<;>exact .halt _ _
   |_=>exact .halt _ _
  |_=>cases a
 |_=>cases u<;>cases a
theorem akF{e : Operand->Value}(x:Operand)(dst:Option Tmp)(t:TypeId)(pos:String)(af:Array Edge)(g:Option (Nat×Bool))(o:VR ρ (e x) (e' x)):az P P' iE ρ (execOp e ⟨dst,.nilCheck x,t,pos,af,g⟩) (execOp e' ⟨dst,.nilCheck x,t,pos,af,g⟩):=by
 unfold execOp;dsimp only;revert o;generalize e x=v;generalize e' x=v';intro o;cases o with
 |pointer h=>cases h with
  |none=>exact .dead (eF _) _
  |some h=>exact ak (.value (.pointer (.some h)))
 |nilIface=>exact .dead (eF _) _
 |nilFunc=>exact .dead (eF _) _
 |@func p r i _ _ _ _ m l=>
  cases i with
  |same _ i=>
   cases p with
   |func p=>exact ak (.value (.func (.same _ i) m l))
   |_=>cases i
  |yield h=>exact ak (.value (.func (.yield h) m l))
 |abp k j=>exact .dead (eF _) _
 |slice m l q=>exact ak (.value (.slice m l q))
 |map h=>exact ak (.value (.map h))
 |chan h=>exact ak (.value (.chan h))
 |iface t h=>exact ak (.value (.iface t h))
 |agg h=>exact ak (.value (.agg h))
 |tuple h=>exact ak (.value (.tuple h))
 |fQ j d=>
  cases v' with
  |pointer a=>cases a with
   |none=>cases d
   |some a=>exact ak (.value (.fQ j d))
  |func f a c=>cases f<;>first|(cases d;done)|exact ak (.value (.fQ j d))
  |_=>first|(cases d;done)|exact ak (.value (.fQ j d))
 |bool b=>exact ak (.value (.bool b))
 |int k n=>exact ak (.value (.int k n))
 |string s=>exact ak (.value (.string s))
theorem aod(b:Builtin)(c:Array TypeId)(t:TypeId)(cs:Array Bool)(d:acx P b c=true){a : Array Value}(h:dw ρ a W):az P P' iE ρ (builtin b c t cs a) (builtin b c t cs W):=by
 cases b with
 |append=>
  refine bG (apQ T c t (λu f k e=> ?_) h);unfold acx agG at d;rw[f] at d;simp[e] at d
 |cap=>exact bG (azc T c t h)
 |clear=>exact bG (ath T c t h)
 |copy=>exact bG (aw1 T c t h)
 |len=>exact bG (azb T c t h)
 |max=>exact bG (azd c t h)
 |min=>exact bG (aze c t h)
 |unsafeString=>exact bG (aem T c t h)
 |unsafeSlice=>exact bG (afs T c t h)
 |_=>cases d
include X
theorem amN{v' : Value}(a:VR ρ v v'){args args':Array Value}(b:dw ρ args args'):az P P' iE ρ (do let d<-Deferred.ofValue v args;invoke d.target d.args) (do let d<-Deferred.ofValue v' args';invoke d.target d.args):=by
 unfold Deferred.ofValue;cases a with
 |nilFunc=>
  show az P P' iE ρ (runtimePanic .nilDeref) _;exact .dead (eF _) _
 |@func f l a _ _ _ _ g i=>
  cases a with
  |same _ a=>
   cases f with
   |func f=>exact akl T X f a (dw.app (dw.app g b) i)
   |_=>cases a
  |yield h=>exact atm h (dw.app g b)
 |abp k j=>
  refine .dead ?_ _;show lh P (invoke (.fn (.method "") (Array.replicate k .nilIface)) (#[.nilIface]++args));have e:(#[Value.nilIface]++args)[0]?=some .nilIface:=by
   rw[rV (by show 0<1;omega)];rfl
  unfold invoke;simp only[e];show lh P (runtimePanic .nilDeref);exact eF _
 |_=>exact .halt _ _
theorem axj(c:Call)(t:TypeId){e : Operand->Value}(l:adC ρ e e')(j:mC P gA gL (.call c)=true):az P P' iE ρ (do let d<-resolve e c t;invoke d.target d.args) (do let d<-resolve e' c t;invoke d.target d.args):=by
 unfold mC at j;simp only[ge] at j;obtain⟨g,k⟩:=j;obtain⟨a,args,n⟩:=c;simp only[Op.operands,Call.operands,qe,tJ,ge] at g;have i:=l.map g.2;cases a with
 |builtin b=>
  exact aod T b n t _ k i
 |invoke r m=>cases k
 |value f=>exact amN T X (l f (by simpa using g.1)) i
theorem aCI{o' : Oper}(a:aao gA gL o'.op=true)(c:o={o' with type:=gB}){e : Operand->Value}(f:adC ρ e e'):az P P' iE ρ (execOp e o) (execOp e' o'):=by
 subst c;obtain⟨dst,op,type,d,after,b⟩:=o';dsimp only at a;unfold aao at a;split at a
 .exact bG (abC _ gB type T.as7 (f.map a))
 .cases a
theorem aqj(w:mC P gA gL o.op=true){e : Operand->Value}(p:adC ρ e e'):az P P' iE ρ (execOp e o) (execOp e' o):=by
 obtain⟨dst,op,v,K,after,D⟩:=o;dsimp only at w;have A:=w;unfold mC at w;simp only[ge] at w;obtain⟨j,u⟩:=w;cases op with
 |move x=>exact ak (.value (p x (by simpa[Op.operands] using j)))
 |assign x=>exact ak (.value (p x (by simpa[Op.operands] using j)))
 |pick c a b=>
  simp[Op.operands] at j;refine aj (aea (p c j.1)) λI q L z e=> ?_;obtain rfl:q=L:=e;cases q with
  |true=>exact ak (.value ((p a j.2.1).mono z))
  |false=>exact ak (.value ((p b j.2.2).mono z))
 |alloc t=>exact bG (atc T t)
 |box t x=>exact bG (aza t (p x (by simpa[Op.operands] using j)))
 |build t F=>
  refine bG (atg T t ?_);rw[qG,qG];exact p.parts (by simpa[Op.operands] using j)
 |buildSlice t n F=>
  refine bG (agI T t n ?_);rw[qG,qG];exact p.parts (by simpa[Op.operands] using j)
 |load t a=>exact bG (apN T t (p a (by simpa[Op.operands] using j)))
 |store t a x=>
  simp[Op.operands] at j;exact agM (anL T t (p a j.1) (p x j.2))
 |nilCheck x=>exact akF T x _ _ _ _ _ (p x (by simpa[Op.operands] using j))
 |binOp op t x y M=>
  simp[Op.operands] at j;refine bG (aj (aob T op t x y (p x j.1) (p y j.2)) λI _ _ z _=>atl T op t ((p x j.1).mono z) ((p y j.2).mono z))
 |unOp op t x=>exact bG (ati op (p x (by simpa[Op.operands] using j)))
 |convert s d x=>exact bG (aoc T s d u (p x (by simpa[Op.operands] using j)))
 |makeInterface t x=>exact bG (adw T t (p x (by simpa[Op.operands] using j)))
 |makeFunc f a c=>
  simp only[Op.operands,qe,tJ,ge] at j;exact bG (akd (.same f u) (p.map j.1) (p.map j.2))
 |makeMap t r=>cases r with
  |none=>exact bG (ake t)
  |some x=>cases u
 |makeSlice t l c=>
  simp[Op.operands] at j;exact bG (ah5 T t (p l j.1) (p c j.2))
 |slice t x l h m=>
  simp only[Op.operands,qe,tJ,ge] at j;obtain⟨⟨⟨C,B⟩,E⟩,G⟩:=j;have op:∀{l:Option Operand},l.toArray.toList.all (bM gA gL)=true->OVR ρ (l.map e) (l.map e'):=λ{l} h=>p.opt λx J=>by subst J;simpa using h
  exact bG (anP T t (p x (by simpa using C)) (op B) (op E) (op G))
 |fieldAddr t x f=>
  refine bG (anN T t f (λN g i C B E=> ?_) (p x (by simpa[Op.operands] using j)));unfold amu at u;simpa[C,B,E] using u
 |field t x f=>exact bG (atd T t (p x (by simpa[Op.operands] using j)) f)
 |indexAddr t x i=>
  simp[Op.operands] at j;exact bG (anO T t (p x j.1) (p i j.2))
 |index t x i=>
  simp[Op.operands] at j;exact bG (atf T t (p x j.1) (p i j.2))
 |lookup t x i H=>
  simp[Op.operands] at j;exact bG (apS T t (aaT u) (p x j.1) (p i j.2) H)
 |mapUpdate t m k x=>
  simp[Op.operands] at j;exact agM (ac3 T t (aaT u) (p m j.1) (p k j.2.1) (p x j.2.2))
 |insert t m k x=>
  simp[Op.operands] at j;exact agM (ac3 T t (aaT u) (p m j.1) (p k j.2.1) (p x j.2.2))
 |range t x=>exact bG (atk T t (p x (by simpa[Op.operands] using j)))
 |next x b=>exact bG (aw6 (p x (by simpa[Op.operands] using j)) b v)
 |extract x i=>exact bG (anM (p x (by simpa[Op.operands] using j)) i)
 |call c=>exact axj T X c v p A
 |panic x=>exact bG (atj _ _)
 |_=>cases u
end
section
variable (P:Program)
inductive ItR (ρ:Ren):Item->Item->Prop
 |code (c:Code):ItR ρ (.code (gP c)) (.code c)
 |inBlock (id:Nat):ItR ρ (.inBlock id) (.inBlock id)
 |inLoop (c:Code):ItR ρ (.inLoop (gP c)) (.inLoop c)
 |inScope (c:Code):ItR ρ (.inScope (gP c)) (.inScope c)
 |inRegion {ops ops':Array Oper} (h:apK P ops ops') (l:List Nat):ItR ρ (.inRegion ops l) (.inRegion ops' l)
 |inRangeFunc {l l':Nat} (h:ρ.r l l'):ItR ρ (.inRangeFunc l) (.inRangeFunc l')
 |endRangeFunc {l l':Nat} (h:ρ.r l l'):ItR ρ (.endRangeFunc l) (.endRangeFunc l')
 |beginRound:ItR ρ .beginRound .beginRound
inductive jP (ρ:Ren):List Item->List Item->Prop
 |nil:jP ρ [] []
 |cons {x x':Item} {l l':List Item} (h:ItR P ρ x x') (hl:jP ρ l l'):jP ρ (x::l) (x'::l')
end
inductive CDs (ρ:Ren):List Deferred->List Deferred->Prop
 |nil:CDs ρ [] []
 |cons {b b':Nat} {l l':List Deferred} (h:ρ.r b b') (hl:CDs ρ l l'):CDs ρ (⟨.collected b,#[]⟩::l) (⟨.collected b',#[]⟩::l')
structure FrR (P:Program) (ρ:Ren) (fr cL:Frame):Prop where
 fn:fr.fn=cL.fn
 tmps:dw ρ fr.tmps cL.tmps
 todo:jP P ρ fr.todo cL.todo
 defers:CDs ρ fr.defers cL.defers
 mode:(fr.mode=.run/\cL.mode=.run)\/(fr.mode=.returning/\cL.mode=.returning)
 kind:fr.kind=.normal/\cL.kind=.normal
 round:NR ρ fr.roundOf cL.roundOf
inductive iV (P:Program) (ρ:Ren):List Frame->List Frame->Prop
 |one {fr cL:Frame} (h:FrR P ρ fr cL) (h0:fr.roundOf=none):iV P ρ [fr] [cL]
 |cons {fr cL:Frame} {l l':List Frame} (h:FrR P ρ fr cL) (hl:iV P ρ l l'):iV P ρ (fr::l) (cL::l')
section
variable {P:Program} {ρ σ:Ren}
def ItR.mono(h:ρ.Le σ){x a:Item}:ItR P ρ x a->ItR P σ x a
 |.code c=>.code c
 |.inBlock id=>.inBlock id
 |.inLoop c=>.inLoop c
 |.inScope c=>.inScope c
 |.inRegion h l=>.inRegion h l
 |.inRangeFunc x=>.inRangeFunc (h.r x)
 |.endRangeFunc x=>.endRangeFunc (h.r x)
 |.beginRound=>.beginRound
def jP.mono(h:ρ.Le σ):∀{x a:List Item},jP P ρ x a->jP P σ x a
 |_,_,.nil=>.nil
 |_,_,.cons x y=>.cons (x.mono h) (y.mono h)
def CDs.mono(h:ρ.Le σ):∀{x a:List Deferred},CDs ρ x a->CDs σ x a
 |_,_,.nil=>.nil
 |_,_,.cons x y=>.cons (h.r x) (y.mono h)
def FrR.mono(h:ρ.Le σ)(x:FrR P ρ fr R):FrR P σ fr R:=
 ⟨x.fn,bU.mono h x.tmps,x.todo.mono h,x.defers.mono h,x.mode,x.kind,x.round.mono h⟩
def iV.mono(h:ρ.Le σ):∀{x a:List Frame},iV P ρ x a->iV P σ x a
 |_,_,.one x y=>.one (x.mono h) y
 |_,_,.cons x y=>.cons (x.mono h) (y.mono h)
def VR.undef:VR ρ undef undef:=.tuple .nil
def apK.dst{a : Array Oper}(h:apK P N a)(i:Nat):(N[i]?).bind (·.dst)=(a[i]?).bind (·.dst):=by
 obtain⟨f,h⟩:=h;cases e:N[i]? with
 |none=>
  have:a[i]?=none:=by
   rw[qn] at e ⊢;omega
  rw[this]
 |some o=>
  have d:=(dl.1 e).1;obtain⟨b,c⟩:∃b,a[i]?=some b:=⟨_,gn (by omega)⟩;rw[c];rcases h i o b e c with⟨rfl,_⟩|⟨_,rfl⟩<;>rfl
def FrR.finish(h:FrR P ρ fr R){v' : Value}(z:VR ρ v v'):FrR P ρ (fr.finish v) (R.finish v'):=by
 obtain⟨f,t,y,d,m,k,r⟩:=fr;obtain⟨D,s,F,C,E,B,A⟩:=R;obtain⟨u,a,w,b,e,g,c⟩:=h;dsimp only at u a w b e g c;subst u;cases w with
 |nil=>exact⟨rfl,a,.nil,b,e,g,c⟩
 |cons x j=>
  cases x with
  |inRegion p l=>
   cases l with
   |nil=>exact⟨rfl,a,.cons (.inRegion p []) j,b,e,g,c⟩
   |cons i o=>
    refine⟨rfl, ?_,.cons (.inRegion p o) j,b,e,g,c⟩;show dw ρ (match _ with|some d=>t.setIfInBounds d v|none=>t) (match _ with|some d=>s.setIfInBounds d v'|none=>s);rw[p.dst i];split
    .exact a.set _ z
    .exact a
  |inRangeFunc q=>exact⟨rfl,a,.cons (.endRangeFunc q) j,b,e,g,c⟩
  |beginRound=>exact⟨rfl,a,j,b,e,g,c⟩
  |code n=>exact⟨rfl,a,.cons (.code n) j,b,e,g,c⟩
  |inBlock id=>exact⟨rfl,a,.cons (.inBlock id) j,b,e,g,c⟩
  |inLoop n=>exact⟨rfl,a,.cons (.inLoop n) j,b,e,g,c⟩
  |inScope n=>exact⟨rfl,a,.cons (.inScope n) j,b,e,g,c⟩
  |endRangeFunc n=>exact⟨rfl,a,.cons (.endRangeFunc n) j,b,e,g,c⟩
def jP.exit(id:Nat):∀{k a:List Item},jP P ρ k a->(exitTo id k=none/\exitTo id a=none)\/∃l c,exitTo id k=some l/\exitTo id a=some c/\jP P ρ l c
 |_,_,.nil=>.inl ⟨rfl,rfl⟩
 |_,_,.cons x y=>by
  have b:=y.exit id;cases x with
  |inBlock i=>
   unfold exitTo;by_cases e:(i ==id)=true
   .rw[eg e,eg e];exact .inr ⟨_,_,rfl,rfl,y⟩
   .rw[da e,da e];exact b
  |code|inLoop|inScope|inRegion|inRangeFunc|endRangeFunc|beginRound=>simpa[exitTo] using b
end
def kX(w:World)(ds:List Deferred):Prop:=∀d∈ds,∃b,d=⟨.collected b,#[]⟩/\∀x l,w.heap[b]?≠some (.deferred (some (x::l)))
inductive nj (base:List Frame):GStep->Prop
 |ended (o:Outcome) (w:World) (es:Array Event):nj base (.ended o w es)
 |stop {g:Goroutine} {w:World} {es:Array Event} (h:g.status=.blocked\/g.status=.waiting):nj base (.go g w es)
 |raised {fr:Frame} {cs:List Frame} {w:World} {es:Array Event} {ch:List PanicEntry} (hm:fr.mode=.panicking ch) (hd:∀f∈fr::cs,kX w f.defers):nj base (.go {frame:=fr,callers:=cs++base,status:=.running,dying:=none} w es)
 |dying {fr:Frame} {w:World} {es:Array Event} {d:Dying} {f:Fatal} (hf:d.fatal=some f) (hc:d.calling=false):nj base (.go {frame:=fr,callers:=[],status:=.running,dying:=some d} w es)
def nj.after{base:List Frame}{s:GStep}(es:Array Event)(h:nj base s):nj base (s.after es):=by
 cases h with
 |ended o w e=>exact .ended o w _
 |stop h=>exact .stop h
 |raised a hd=>exact .raised a hd
 |dying b c=>exact .dying b c
def Gl:List Frame->List Frame->Goroutine
 |[],base=>{(default:Goroutine) with callers:=base}
 |fr::cs,base=>⟨fr,cs++base,.running,none,none⟩
def GoR(P P':Program)(ρ:Ren)(l l':List Frame):Prop:=
 iV P ρ l l'\/∃f a b m c,gH f=true/\dw ρ a b/\iV P ρ m c/\l=Frame.enter P f a .normal::m/\l'=Frame.enter P' f b .normal::c
def lY(P P':Program)(ρ:Ren)(w w':World)(s:List Frame->World->GStep)(s':List Frame->GStep):Prop:=
 ∃(a:Tape) (D:Nat),(∀base t,Agr w D a t->nj base (s base (w.dV t)))\/
  ∃c g e i b f d,(∀base t,Agr w D a t->s base (w.dV t)=.go (Gl g base) (e.dV t) i)/\e.drawn=w.drawn+D/\ρ.Le c/\(∀base,s' base=.go (Gl b base) f d)/\WR c e f/\Kept ρ c w w' e f/\EvW w c i d/\GoR P P' c g b
section
variable {P P':Program} {ρ:Ren} {w w':World}
def lY.still(a:WR ρ w w')(h:∀base w,s base w=.go (Gl l base) w #[])(b:∀base,s' base=.go (Gl l' base) w' #[])(c:GoR P P' ρ l l'):lY P P' ρ w w' s s':=
 ⟨w.tape,0,.inr ⟨ρ,l,w,#[],l',w',#[],λ_ t _=>h _ _,rfl,Ren.Le.refl _,b,a,Kept.refl _ _ _,.nil _ _,c⟩⟩
def lY.bad(h:∀base w,nj base (s base w)):lY P P' ρ w w' s s':=⟨w.tape,0,.inl λ_ _ _=>h _ _⟩
def CDs.marks{b : List Deferred}(h:CDs ρ J b)(c:WR ρ w w'){t:Tape}(i:fR (w.dV t) K):kX K J:=by
 induction h with
 |nil=>intro d hd;cases hd
 |cons g m j=>
  intro d hd;rcases pb.1 hd with rfl|hd
  .refine⟨_,rfl,λx l e=> ?_⟩;have:=i _ _ _ e;obtain⟨o,p,k,n,f⟩:=c.obj g;have a:(w.dV t).heap[_]?=some o:=k;rw[this] at a;cases a;cases f
  .exact j d hd
def axk(T:Twin P P')(fn:FuncId)(h:mD ρ es.toList O.toList):mD ρ (seen P fn es).toList (seen P' fn O).toList:=by
 have u:∀f:Nat,(P'.funcs[f]?).any (·.norace)=(P.funcs[f]?).any (·.norace):=λf=>by
  cases o:P.funcs[f]? with
  |none=>
   have:P'.funcs[f]?=none:=by
    rw[qn] at o ⊢;rw[T.ah2];exact o
   rw[this]
  |some fn=>
   obtain⟨D,v,s⟩:=T.func f fn o;rw[v];simp[s.norace]
 unfold seen;dsimp only;rw[<-sQ,<-sQ];simp only[u];generalize t:(λf:Nat=>(P.funcs[f]?).any (·.norace))=Q;have m:∀f:Nat,(P.funcs[f]?).any (·.norace)=Q f:=λf=>by rw[<-t]
 simp only[m];have n:∀{l p:List Event},mD ρ l p->∀(q:Bool) (k b:Array Event),mD ρ k.toList b.toList->
   mD ρ (l.foldl (λx e=>match e.loc with
    |.mark (.extern f)=>(Q f,x.2)
    |_=>(x.1,if x.1&&!e.sync then x.2 else x.2.push e)) (q,k)).2.toList
   (p.foldl (λx e=>match e.loc with
    |.mark (.extern f)=>(Q f,x.2)
    |_=>(x.1,if x.1&&!e.sync then x.2 else x.2.push e)) (q,b)).2.toList:=by
  intro l p h
  induction h with
  |nil=>intro q k b d;exact d
  |cons r A j=>
   intro q k b d;rw[uU,uU];have push:∀e i:Event,EvR ρ e i->mD ρ (if(q&&!e.sync)=true then k else k.push e).toList (if(q&&!i.sync)=true then b else b.push i).toList:=λe i h=>by
    have w:e.sync=i.sync:=by cases h;rfl
    rw[w];split
    .exact d
    .rw[rT,rT];exact d.app (.cons h .nil)
   have a:=r;cases r with
   |mk g wr z=>
    cases g with
    |cell C=>exact j _ _ _ (push _ _ a)
    |obj B=>exact j _ _ _ (push _ _ a)
    |mark y=>
     cases y with
     |extern f=>exact j _ _ _ d
     |_=>exact j _ _ _ (push _ _ a)
 exact n h _ _ _ .nil
def aqk(P:Program)(fn:FuncId)(es:Array Event):∀e∈(seen P fn es).toList,e∈es.toList:=by
 unfold seen;dsimp only;rw[<-sQ];have d:∀(l:List Event) (q:Bool) (k:Array Event) (S:List Event),(∀e∈k.toList,e∈S)->(∀e∈l,e∈S)->
   ∀e∈(l.foldl (λx e=>match e.loc with
    |.mark (.extern f)=>((P.funcs[f]?).any (·.norace),x.2)
    |_=>(x.1,if x.1&&!e.sync then x.2 else x.2.push e)) (q,k)).2.toList,e∈S:=by
  intro l
  induction l with
  |nil=>intro q k S c _;exact c
  |cons x l i=>
   intro q k S c g;rw[uU];have push:∀e∈(if(q&&!x.sync)=true then k else k.push x).toList,e∈S:=by
    split
    .exact c
    .intro e a;rw[rT,oR] at a;rcases a with a|a
     .exact c e a
     .simp at a;subst a;exact g _ (qD ..)
   have b:∀e∈l,e∈S:=λe a=>g e (rh _ a);split
   .exact i _ k S c b
   .exact i _ _ S push b
 exact d es.toList _ _ es.toList (λe a=>by cases a) λe a=>a
def aaU(T:Twin P P')(fn:FuncId)(h:EvW w ρ es O):EvW w ρ (seen P fn es) (seen P' fn O):=
 ⟨axk T fn h.ev,λb c e a=>h.nw b c e (aqk P fn es e a)⟩
end
section
variable {P P':Program} {ρ σ:Ren} {base:List Frame} {w w':World}
def iV.put(g:ρ.Le σ){a b : Frame}(h:iV P ρ (fr::cs) (R::V))(c:FrR P σ a b)(e:a.roundOf=fr.roundOf):iV P σ (a::cs) (b::V):=by
 cases h with
 |one h f=>exact .one c (e.trans f)
 |cons h d=>exact .cons c (d.mono g)
def iV.head(h:iV P ρ (fr::cs) (R::V)):FrR P ρ fr R:=by
 cases h with
 |one h a=>exact h
 |cons h b=>exact h
def iV.marks(h:iV P ρ l l')(b:WR ρ w w'){t:Tape}(c:fR (w.dV t) K):∀f∈l,kX K f.defers:=by
 induction h with
 |one h g=>intro f a;simp at a;subst a;exact h.defers.marks b c
 |cons h e d=>
  intro f a;rcases pb.1 a with rfl|a
  .exact h.defers.marks b c
  .exact d f a
def GoR.of(h:iV P ρ (fr::cs) (R::V)):GoR P P' ρ (fr::cs) (R::V):=.inl h
def FrR.at(h:FrR P ρ fr R)(a:jP P ρ todo I):FrR P ρ {fr with todo} {R with todo:=I}:=
 ⟨h.fn,h.tmps,a,h.defers,h.mode,h.kind,h.round⟩
def aaV{c:List PanicEntry}(d:∀f∈fr::cs,kX K f.defers):nj base (.go ⟨fr.raise c,cs++base,.running,none,none⟩ K #[]):=by
 have:∃a,(fr.raise c).mode=.panicking a:=by unfold Frame.raise;split<;>exact⟨_,rfl⟩
 obtain⟨a,e⟩:=this;refine .raised e λf b=> ?_;rcases pb.1 b with rfl|b
 .have:(fr.raise c).defers=fr.defers:=by unfold Frame.raise;split<;>rfl
  rw[this];exact d fr (by simp)
 .exact d f (by simp[b])
variable (T:Twin P P')
include T
theorem aoe(g:Nat)(w:World):nj base (early P fr cs none g w):=by
 unfold early;simp only[T.nE.1,T.nE.2];exact .ended _ _ _
theorem agU(m:String)(w:World):nj base (endFatal P fr cs none m w):=by
 unfold endFatal;dsimp only;split
 .exact .dying rfl rfl
 .exact .ended _ _ _
 .exact .ended _ _ _
omit T in
theorem gD(fr:Frame)(v:Value):(fr.finish v).roundOf=fr.roundOf:=by
 unfold Frame.finish;split<;>first|rfl|(split<;>rfl)
theorem af2(w:String):gP (.refuse w)=.refuse w:=by rw[T.pc];rfl
theorem abN(w:String):jP P ρ [.code (.refuse w)] [.code (.refuse w)]:=by
 have h:jP P ρ [.code (gP (.refuse w))] [.code (.refuse w)]:=.cons (.code _) .nil;rw[af2 T] at h;exact h
omit T in
theorem atP{l l':Nat}(a:ρ.r l l')(f:FuncId)(b:dw ρ t W)(c d:Code):FrR P ρ (Frame.round l f t (gP c) (gP d) .normal) (Frame.round l' f W c d .normal):=
 ⟨rfl,b,.cons (.code c) (.cons .beginRound (.cons (.code d) .nil)),.nil,.inl ⟨rfl,rfl⟩,⟨rfl,rfl⟩,.some a⟩
theorem agS(q:gH f=false){a : Array Value}(o:dw ρ a W):FrR P ρ (Frame.enter P f a .normal) (Frame.enter P' f W .normal):=by
 have l:∀n,dw ρ (a++Array.replicate (n-a.size) undef) (W++Array.replicate (n-W.size) undef):=λn=>by
  rw[o.size];exact dw.app o (bU.kP λv m=>by simp at m;rw[m.2];exact VR.undef)
 cases b:P.funcs[f]? with
 |none=>
  have k:P'.funcs[f]?=none:=by
   rw[qn] at b ⊢;rw[T.ah2];exact b
  unfold Frame.enter;rw[b,k];exact⟨rfl,l _,abN T _,.nil,.inl ⟨rfl,rfl⟩,⟨rfl,rfl⟩,.none⟩
 |some fn=>
  obtain⟨p,j,i⟩:=T.func f fn b;unfold Frame.enter;rw[b,j];refine⟨rfl, ?_, ?_,.nil,.inl ⟨rfl,rfl⟩,⟨rfl,rfl⟩,.none⟩
  .show dw ρ (a++Array.replicate (fn.ntmps-a.size) undef) (W++Array.replicate (p.ntmps-W.size) undef);rw[i.ntmps];exact l _
  .show jP P ρ [.code (fn.body.getD _)] [.code (p.body.getD _)];cases d:fn.body with
   |none=>
    obtain rfl:=i.none d;rw[d];exact abN T _
   |some c=>
    obtain⟨r,g,e⟩:=i.some c d;rw[g,e q];exact .cons (.code _) .nil
theorem agV{s s':Sem Next}(B:iV P ρ (fr::cs) (R::V))(L:WR ρ w w')(hs:az P P' iE ρ s s') :
  lY P P' ρ w w' (λbase w=>stepG.apply P true fr (cs++base) none s w) (λbase=>stepG.apply P' true R (V++base) none s' w'):=by
 have q:=B.head;have n:(fr.kind ==CallKind.early)=false:=by rw[q.kind.1];rfl
 have k:(R.kind ==CallKind.early)=false:=by rw[q.kind.2];rfl
 have F:(match fr.todo with|.call _ true _ _::_=>CallKind.wrapped|_=>CallKind.normal)=.normal:=by
  have e:=q.todo;revert e;generalize fr.todo=a;generalize R.todo=b;intro e;cases e with
  |nil=>rfl
  |cons x _=>cases x<;>rfl
 have J:(match R.todo with|.call _ true _ _::_=>CallKind.wrapped|_=>CallKind.normal)=.normal:=by
  have e:=q.todo;revert e;generalize fr.todo=a;generalize R.todo=b;intro e;cases e with
  |nil=>rfl
  |cons x _=>cases x<;>rfl
 obtain⟨g,D,H⟩:=hs.run w w' #[] #[] L;rcases H with H|⟨σ,a,j,U,r,G,p,h1,S,z,W,h5,h6,h7,Y⟩
 .refine⟨g,D,.inl λbase t e=> ?_⟩;obtain⟨h,j,nC,hr,hk⟩:=H t e;have Q:=B.marks L hk;unfold stepG.apply;simp only[hr,pv];refine nj.after _ ?_;cases h with
  |panic v=>exact aaV Q
  |goexit=>exact aaV Q
  |blocked=>exact .stop (.inl rfl)
  |waiting=>exact .stop (.inr rfl)
  |exit c=>exact .ended _ _ _
  |fatal m=>exact agU T m j
  |throw m=>exact .dying rfl rfl
  |unsupported u=>
   cases u<;>first|exact .ended _ _ _|exact aoe T _ j
  |stuck s=>exact .ended _ _ _
 .refine⟨g,D,.inr ?_⟩;have o:=B.mono z;have he:EvW w σ (seen P fr.fn G) (seen P' R.fn p):=by rw[q.fn];exact aaU T _ Y
  have E:∀t,Agr w D g t->s.runT P (w.dV t) #[]=(.ok a (j.dV t),G):=λt e=>by rw[h1 t e];simp
  have C:s'.runT P' w' #[]=(.ok U r,p):=by rw[W];simp
  have fin:∀y i,(∀base t,Agr w D g t->stepG.apply P true fr (cs++base) none s (w.dV t)=.go (Gl y base) (j.dV t) (seen P fr.fn G))->(∀base,stepG.apply P' true R (V++base) none s' w'=.go (Gl i base) r (seen P' R.fn p))->GoR P P' σ y i->
    ∃σ y j O i r A,(∀base t,Agr w D g t->stepG.apply P true fr (cs++base) none s (w.dV t)=.go (Gl y base) (j.dV t) O)/\j.drawn=w.drawn+D/\ρ.Le σ/\(∀base,stepG.apply P' true R (V++base) none s' w'=.go (Gl i base) r A)/\WR σ j r/\Kept ρ σ w w' j r/\EvW w σ O A/\GoR P P' σ y i:=
   λy i q1 q2 X=>⟨σ,y,j,_,i,r,_,q1,S,z,q2,h6,h7,he,X⟩
  cases h5 with
  |@value v v' hv=>exact fin (fr.finish v::cs) (R.finish v'::V) (λbase t e=>by unfold stepG.apply;simp only[E t e,pv,n];simp[GStep.after,Gl]) (λbase=>by unfold stepG.apply;simp only[C,pv,k];simp[GStep.after,Gl]) (GoR.of (B.put z ((q.mono z).finish hv) (gD _ _)))
  |skip=>exact fin (fr.finish undef::cs) (R.finish undef::V) (λbase t e=>by unfold stepG.apply;simp only[E t e,pv,n];simp[GStep.after,Gl]) (λbase=>by unfold stepG.apply;simp only[C,pv,k];simp[GStep.after,Gl]) (GoR.of (B.put z ((q.mono z).finish VR.undef) (gD _ _)))
  |@enter f a0 K M=>
   refine fin (Frame.enter P f a0 .normal::fr::cs) (Frame.enter P' f K .normal::R::V) (λbase t e=>by unfold stepG.apply;simp only[E t e,pv,n];simp[GStep.after,Gl];exact jt (Frame.enter P f _) F) (λbase=>by unfold stepG.apply;simp only[C,pv,k];simp[GStep.after,Gl];exact jt (Frame.enter P' f _) J) ?_;cases N:gH f with
   |true=>exact .inr ⟨f,_,_,_,_,N,M,o,rfl,rfl⟩
   |false=>exact .inl (.cons (agS T N M) o)
  |@round l l' Z f tm I e c d=>
   exact fin (Frame.round l f tm (gP c) (gP d) .normal::fr::cs) (Frame.round l' f I c d .normal::R::V) (λbase t e=>by unfold stepG.apply;simp only[E t e,pv,n];simp[GStep.after,Gl]) (λbase=>by unfold stepG.apply;simp only[C,pv,k];simp[GStep.after,Gl])
    (.inl (.cons (atP Z f e c d) o))
end
section
variable {P P':Program} {ρ σ:Ren} {w w':World}
def GlR(ρ:Ren):Prop:=∀g∈gL,ρ.r g g
def GlR.mono(h:ρ.Le σ)(x:GlR ρ):GlR σ:=λg a=>h.r (x g a)
def akG{l l':Nat}(h:ρ.r l l'){j a:Option Code}(b:j=a.map gP):az P P' VR ρ (Instr.endRound l j) (Instr.endRound l' a):=by
 unfold Instr.endRound;refine aj (mY h) λσ x q f c=> ?_;have g:j.isNone=a.isNone:=by subst b;cases a<;>rfl
 rw[g];cases c with
 |loop p o e k n i m d=>
  exact aj (iX (f.r h) (.loop rfl b e k n i m d)) λ_ _ _ _ _=>ak (.bool _)
def aof{l l':Nat}(h:ρ.r l l'):az P P' (λ_ q m=>q=m.map gP) ρ (Instr.endLoop l) (Instr.endLoop l'):=by
 unfold Instr.endLoop;refine aj (mY h) λσ x n e b=> ?_;cases b with
 |loop i a d g k f j c=>
  rw[i];refine aW (λ_=>dY _) λ_=> ?_;exact aj (iX (e.r h) (.loop rfl a d g k f j c)) λ_ _ _ _ _=>ak a
def agW(h:NR ρ r M):az P P' iE ρ (do r.elim (stuck "beginRound: no round") Instr.beginRound;pure .skip) (do M.elim (stuck "beginRound: no round") Instr.beginRound;pure .skip):=by
 cases h with
 |none=>exact .halt _ _
 |some h=>
  refine agM ?_;show az P P' jG ρ (Instr.beginRound _) (Instr.beginRound _);unfold Instr.beginRound;refine aj (mY h) λσ x m e a=> ?_;cases a with
  |loop i c d g k f j b=>
   refine aj (iX (e.r h) (.loop rfl c d g k f j b)) λl _ _ _ _=> ?_;rw[i];split
   .exact ak rfl
   .exact dY _
   .exact dY _
   .exact dY _
def aaF(e:Operand->Value)(a:Operand)(l:Nat)(h:∀v,e (.const v)=v):resolve e ⟨.value a,#[.const (.func (.yield l) #[] #[])],#[]⟩ 0=Deferred.ofValue (e a) #[.func (.yield l) #[] #[]]:=by
 unfold resolve;simp[h]
def EnR(ρ:Ren)(x x':Nat×List Deferred):Prop:=ρ.r x.1 x'.1/\CDs ρ x.2 x'.2
def aiz(f:FuncId)(n:dw ρ t W)(d:Array Tmp)(a b:Code)(h:NR ρ r M):az P P' EnR ρ (Instr.enterLoop f t d (gP a) (gP b) r) (Instr.enterLoop f W d a b M):=by
 unfold Instr.enterLoop;have c:∀(σ:Ren) (q e:Nat×List Deferred),ρ.Le σ->EnR σ q e->az P P' EnR σ (do
   let l<-newObj (.loop ⟨.ready,none,f,t,d,gP a,gP b,q.1⟩)
   pure (l,q.2)) (do
   let l<-newObj (.loop ⟨.ready,none,f,W,d,a,b,e.1⟩)
   pure (l,e.2)):=λσ q e g k=>by
  refine aj (afM (show OR σ (.loop ⟨.ready,none,f,t,d,gP a,gP b,q.1⟩) (.loop ⟨.ready,none,f,W,d,a,b,e.1⟩) from .loop rfl rfl rfl (bU.mono g n) rfl rfl rfl k.1)) λv y o j u=> ?_;exact ak (A:=EnR) (show EnR v (y,q.2) (o,e.2) from⟨u,k.2.mono j⟩)
 cases h with
 |none=>
  exact aj (afM .deferred) λσ x i g m=>c σ (x,[⟨.collected x,#[]⟩]) (i,[⟨.collected i,#[]⟩]) g ⟨m,.cons m .nil⟩
 |some h=>
  refine aj (mY h) λσ x i g p=> ?_;cases p with
  |loop B w E z D F C s=>exact c σ (_,[]) (_,[]) g ⟨s,.nil⟩
def FrR.env(j:GlR ρ)(h:FrR P ρ fr R):adC ρ fr.eval R.eval:=λx a=>by
 cases x with
 |tmp t=>
  show VR ρ (fr.tmps.getD t undef) (R.tmps.getD t undef);have l:=bU.size h.tmps;rw[jn,jn];cases e:fr.tmps[t]? with
  |none=>
   have:R.tmps[t]?=none:=by
    rw[qn] at e ⊢;omega
   rw[this];exact VR.undef
  |some v=>
   obtain⟨k,b,d⟩:=bU.get h.tmps (i:=t) (v:=v) (by rw[fi];exact e);rw[fi] at b;rw[b];exact d
 |const v=>exact agL ρ 5 v a
 |global g=>exact .pointer (.some (.mk (j g (by simpa[bM] using a)) 0 none))
 |func f=>exact .func (.same (.func f) a) .nil .nil
def GoR.jQ(h:∀base w,∃o a b,s base w=.ended o a b):lY P P' ρ w w' s s':=lY.bad λbase w=>by
 obtain⟨o,a,b,e⟩:=h base w;rw[e];exact .ended _ _ _
variable (T:Twin P P') (X:ah7 P P')
include T
theorem axl(a b:Code):gP (.seq a b)=.seq (gP a) (gP b):=by rw[T.pc];rfl
theorem aql(id:Nat)(a:Code):gP (.block id a)=.block id (gP a):=by rw[T.pc];rfl
theorem atQ(a:Code):gP (.loop a)=.loop (gP a):=by rw[T.pc];rfl
theorem aqm(a:Code):gP (.scope a)=.scope (gP a):=by rw[T.pc];rfl
theorem atS:gP .skip=.skip:=by rw[T.pc];rfl
theorem aqn:gP .ret=.ret:=by rw[T.pc];rfl
theorem aqo(l:Nat):gP (.label l)=.label l:=by rw[T.pc];rfl
theorem amO(l:Nat):gP (.exit l)=.exit l:=by rw[T.pc];rfl
theorem atT(l:Nat):gP (.goto l)=.refuse "" :=by rw[T.pc];rfl
theorem atU(c:Operand)(a b:Code):gP (.cond c a b)=if bM gA gL c=true then .cond c (gP a) (gP b) else .refuse "" :=by rw[T.pc];rfl
theorem agX(f:Operand)(c:Array Tmp)(a b:Code):gP (.rangeFunc f c a b)=if bM gA gL f=true then .rangeFunc f c (gP a) (gP b) else .refuse "" :=by rw[T.pc];rfl
theorem aog{g:Oper->Oper}(d:∀o,(g o).after=o.after)(c:Bool)(a:Array Oper)(t:Nat):Region.schedule c (a.map g) t=Region.schedule c a t:=by
 have k:∀(m:Region.Mode) (b t:Nat) (l:Array Bool) (acc:List Nat),Region.linearise.go m (a.map g) b t l acc=Region.linearise.go m a b t l acc:=by
  intro m b
  induction b with
  |zero=>intro t l acc;rfl
  |succ n j=>
   intro t l acc;unfold Region.linearise.go;have e:∀i,((a.map g)[i]?).map (λo:Oper=>o.after.all λe=>!Region.binds m e||l.getD e.on false)=(a[i]?).map (λo:Oper=>o.after.all λe=>!Region.binds m e||l.getD e.on false):=λi=>by
    rw[rv];cases a[i]? with
    |none=>rfl
    |some o=>simp only[qs,d]
   simp only[tS,e,j]
 have f:Region.departs (a.map g)=Region.departs a:=by
  unfold Region.departs;rw[Array.any_map]
  congr 1
  funext o
  simp only[Function.comp,d]
 unfold Region.schedule Region.linearise;rw[f];simp only[k,tS]
theorem aoh(id:Nat)(a:Array Oper)(c:Bool):(gP (.region id a c)=.region id a c/\apK P a a)\/(∃d,gP (.region id a c)=.region id d c/\apK P d a/\∀b t,Region.schedule b d t=Region.schedule b a t)\/gP (.region id a c)=.refuse "" :=by
 rw[T.pc];unfold bQ;by_cases m:(a.toList.all λo=>mC P gA gL o.op)=true
 .rw[eg m];refine .inl ⟨rfl,rfl,λi o l e f=> ?_⟩;rw[e] at f;obtain rfl:=dq f;refine .inl ⟨rfl,lP.1 m o ?_⟩;exact su.2 (qI e)
 .rw[da m];by_cases k:(a.toList.all λo=>mC P gA gL o.op||aao gA gL o.op)=true
  .rw[eg k];refine .inr (.inl ⟨_,rfl,⟨by simp,λi o l e f=> ?_⟩,λb t=>aog T (g:=aap gA gL gB) (λo=>by unfold aap;split<;>rfl) b a t⟩);rw[rv,f] at e;obtain rfl:=dq e;have n:=lP.1 k l (su.2 (qI f));unfold aap;by_cases j:aao gA gL l.op=true
   .rw[eg j];exact .inr ⟨j,rfl⟩
   .rw[da j];simp only[j,vD] at n;exact .inl ⟨rfl,n⟩
  .rw[da k];exact .inr (.inr rfl)
theorem abO  {d : List Deferred}  {k k' : List Item} {m:Bool}  
  (a:iV P ρ (⟨f,t,todo,d,.run,.normal,r⟩::cs) (⟨f,W,I,J,.run,.normal,M⟩::V)) (b:WR ρ w w') (c:jP P ρ k k')
  (h:∀base w,s base w=.go ⟨⟨f,t,k,d,.run,.normal,r⟩,cs++base,.running,none,none⟩ w #[])
  (e:∀base,s' base=.go ⟨⟨f,W,k',J,.run,.normal,M⟩,V++base,.running,none,none⟩ w' #[]):lY P P' ρ w w' s s':=
 lY.still b (l:=⟨f,t,k,d,.run,.normal,r⟩::cs) (l':=⟨f,W,k',J,.run,.normal,M⟩::V) h e (GoR.of (a.put (Ren.Le.refl _) (a.head.at c) rfl))
omit T in
def jc(p:Program)(main:Bool)(fr:Frame)(callers:List Frame)(w:World)(jump:Option Code):GStep:=
 match fr.roundOf with
 |none=>if jump matches none|some .ret then .go {frame:={fr with mode:=.returning},callers,status:=.running,dying:=none} w else .ended (.stuck "exit, goto: no such block or label" (fr.pos p)) w
 |some l=>
  let(r,es):=(Instr.endRound l jump).runT p w #[]
  GStep.after (seen p fr.fn es) <| match r with
  |.ok v w=>doReturn p main fr callers none v w
  |.halt _ w=>.ended (.stuck "range over a function: no such loop" (fr.pos p)) w
theorem agY(m m':Bool)(C:iV P ρ (fr::cs) (R::V))(G:WR ρ w w')(hm:fr.mode=.run)(j:Option Code)(hj:j=j.map gP) :
  lY P P' ρ w w' (λbase w=>jc P m fr (cs++base) w j) (λbase=>jc P' m' R (V++base) w' j):=by
 have e:=C.head;have q:=e.round;obtain⟨f,t,i,d,F,L,r⟩:=fr;obtain⟨J,E,N,I,U,o,r'⟩:=R;dsimp only at q;cases q with
 |none=>
  unfold jc;dsimp only;have still:=lY.still (P:=P) (P':=P') G (l:=⟨f,t,i,d,.returning,L,none⟩::cs) (l':=⟨J,E,N,I,.returning,o,none⟩::V) (s:=λbase w=>.go ⟨⟨f,t,i,d,.returning,L,none⟩,cs++base,.running,none,none⟩ w #[]) (s':=λbase=>.go ⟨⟨J,E,N,I,.returning,o,none⟩,V++base,.running,none,none⟩ w' #[]) (λ_ _=>rfl) (λ_=>rfl) (GoR.of (C.put (Ren.Le.refl _) ⟨e.fn,e.tmps,e.todo,e.defers,.inr ⟨rfl,rfl⟩,e.kind,e.round⟩ rfl));cases j with
  |none=>exact still
  |some c=>cases c<;>first|exact still|exact lY.bad λ_ w=>.ended _ _ _
 |@some l l' Y=>
  cases C with
  |one h h0=>cases h0
  |cons h b=>
   obtain⟨g,D,H⟩:=(akG (P:=P) (P':=P') Y hj).run w w' #[] #[] G;rcases H with H|⟨σ,a,K,Q,Z,us,z,h1,O,A,S,h5,h6,h7,X⟩
   .refine⟨g,D,.inl λbase t y=> ?_⟩;obtain⟨h,K,nC,q,B⟩:=H t y;unfold jc;simp only[q];exact nj.after _ (.ended _ _ _)
   .refine⟨g,D,.inr ?_⟩;have B:=e.kind;dsimp only at B;obtain⟨rfl,rfl⟩:=B;have M:=e.fn;dsimp only at M;subst M;have k:∀(p:Program) (m:Bool) (x:Frame) (l:List Frame) (v:Value) (w:World) (tm:Array Value) (td:List Item) (ds:List Deferred) (F:FrameMode) (W:Nat),doReturn p m ⟨f,tm,td,ds,F,.normal,some W⟩ (x::l) none v w=.go ⟨x.finish v,l,.running,none,none⟩ w #[]:=λ_ _ _ _ _ _ _ _ _ _ _=>rfl;obtain⟨x,n,rfl⟩:∃x n,cs=x::n:=by cases b<;>exact⟨_,_,rfl⟩
    obtain⟨x',u,rfl⟩:∃x n,V=x::n:=by cases b<;>exact⟨_,_,rfl⟩
    refine⟨σ,x.finish a::n,K,seen P f us,x'.finish Q::u,Z,seen P' f z,λbase t y=> ?_,O,A,λbase=> ?_,h6,h7,aaU T f X,GoR.of (b.put A ((b.head.mono A).finish h5) (gD _ _))⟩
    .unfold jc;simp only[h1 t y,qN,k];simp[GStep.after,Gl]
    .unfold jc;simp only[S,qN,k];simp[GStep.after,Gl]
theorem lY.seq  {t₁:Tape} {D:Nat} {g : Array Event} (s1:List Frame->World->GStep) (s1':List Frame->GStep) (f:FuncId)
  (r:∀base t,Agr w D t₁ t->s base (w.dV t)=(s1 base (K.dV t)).after (seen P f O)) (A:K.drawn=w.drawn+D) (N:ρ.Le σ) (C:∀base,s' base=(s1' base).after (seen P' f g)) (u:Kept ρ σ w w' K a) (I:EvW w σ O g)
  (H:lY P P' σ K a s1 s1'):lY P P' ρ w w' s s':=by
 obtain⟨e,E,H⟩:=H;have c:∀t,Agr w (D+E) (λi q=>if i<K.drawn then t₁ i q else e i q) t->Agr w D t₁ t/\Agr K E e t:=λt d=>⟨λi q y R=>by
  rw[d i q y (by omega)];exact eg (by omega),λi q y R=>by
  rw[d i q (by omega) (by omega)];exact da (by omega)⟩
 refine⟨λi q=>if i<K.drawn then t₁ i q else e i q,D+E,H.imp (λH base t d=> ?_) ?_⟩
 .rw[r base t (c t d).1];exact nj.after _ (H base t (c t d).2)
 .rintro⟨M,G,S,L,k,m,l,z,Q,p,U,F,J,n,B⟩;have v:=aaU T f I;refine⟨M,G,S,seen P f O++L,k,m,seen P' f g++l,λbase t d=> ?_,by rw[Q,A,vz],N.trans p,λbase=> ?_,F,u.trans J,⟨?_,λb o x j=> ?_⟩,B⟩
  .rw[r base t (c t d).1,z base t (c t d).2];rfl
  .rw[C,U];rfl
  .rw[qe,qe];exact(v.ev.mono p).app n.ev
  .rw[qe,oR] at j;rcases j with j|j
   .exact v.nw b o x j
   .exact n.nw b (u.frz b o) x j
include X
theorem azB(hg:GlR ρ)(m m':Bool)(A:iV P ρ (fr::cs) (R::V))(C:WR ρ w w')(hm:fr.mode=.run) :
  lY P P' ρ w w' (λbase w=>stepG P m ⟨fr,cs++base,.running,none,none⟩ w) (λbase=>stepG P' m' ⟨R,V++base,.running,none,none⟩ w'):=by
 have mF:=A.head;have a1:=mF.env hg;obtain⟨f,t,aJ,d,md,kd,r⟩:=fr;obtain⟨f',B,fP,J,aa,aR,E⟩:=R;obtain⟨h1,h2,h3,h4,h5,h6,h7⟩:=mF;dsimp only at h1 h2 h3 h4 h5 h6 h7 hm;subst h1;subst hm;obtain⟨rfl,rfl⟩:=h6;obtain rfl:aa=.run:=by
  rcases h5 with h5|h5
  .exact h5.2
  .cases h5.1
 cases h3 with
 |nil=>
  have G:∀base w,stepG P m ⟨⟨f,t,[],d,.run,.normal,r⟩,cs++base,.running,none,none⟩ w=jc P m ⟨f,t,[],d,.run,.normal,r⟩ (cs++base) w none:=λ_ _=>rfl;have L:∀base,stepG P' m' ⟨⟨f,B,[],J,.run,.normal,E⟩,V++base,.running,none,none⟩ w'=jc P' m' ⟨f,B,[],J,.run,.normal,E⟩ (V++base) w' none:=λ_=>rfl;simp only[G,L];exact agY T m m' A C rfl none rfl
 |@cons x x' k F hx I=>
  cases hx with
  |inBlock id=>exact abO T (m:=m) A C I (λbase w=>by simp[stepG,stepG.exec]) (λbase=>by simp[stepG,stepG.exec])
  |inScope c=>exact abO T (m:=m) A C I (λbase w=>by simp[stepG,stepG.exec]) (λbase=>by simp[stepG,stepG.exec])
  |inLoop c=>exact abO T (m:=m) A C (.cons (.code c) (.cons (.inLoop c) I)) (λbase w=>by simp[stepG,stepG.exec]) (λbase=>by simp[stepG,stepG.exec])
  |inRangeFunc hl=>exact GoR.jQ λbase w=>⟨_,_,_,by simp[stepG,stepG.exec];exact⟨rfl,rfl,rfl⟩⟩
  |@endRangeFunc l l' hl=>
   obtain⟨t₁,D,H⟩:=(aof (P:=P) (P':=P') hl).run w w' #[] #[] C;rcases H with H|⟨σ,a,w1,a',cZ,us,a6,h1,h2,h3,h4,h5,h6,al,h8⟩
   .refine⟨t₁,D,.inl λbase K M=> ?_⟩;obtain⟨h,w1,nC,hr,a7⟩:=H K M;have Y:=A.marks C a7;simp only[stepG,stepG.exec,hr];refine nj.after _ ?_;cases h<;>first|exact aaV Y|exact .ended _ _ _
   .have hi:jP P σ ((a.map Item.code).toList++k) ((a'.map Item.code).toList++F):=by
     subst h5;cases a' with
     |none=>exact I.mono h3
     |some c=>exact .cons (.code c) (I.mono h3)
    refine⟨t₁,D,.inr ⟨σ,⟨f,t,(a.map Item.code).toList++k,d,.run,.normal,r⟩::cs,w1,seen P f us,⟨f,B,(a'.map Item.code).toList++F,J,.run,.normal,E⟩::V,cZ,seen P' f a6,λbase K M=> ?_,h2,h3,λbase=> ?_,h6,al,aaU T f h8,GoR.of (A.put h3 ((A.head.mono h3).at hi) rfl)⟩⟩
    .simp only[stepG,stepG.exec,h1 K M];simp[GStep.after,Gl]
    .simp only[stepG,stepG.exec,h4];simp[GStep.after,Gl]
  |beginRound=>
   have G:∀base w,stepG P m ⟨⟨f,t,.beginRound::k,d,.run,.normal,r⟩,cs++base,.running,none,none⟩ w=stepG.apply P true ⟨f,t,.beginRound::k,d,.run,.normal,r⟩ (cs++base) none (do r.elim (stuck "beginRound: no round") Instr.beginRound;pure .skip) w:=λ_ _=>rfl;have L:∀base,stepG P' m' ⟨⟨f,B,.beginRound::F,J,.run,.normal,E⟩,V++base,.running,none,none⟩ w'=stepG.apply P' true ⟨f,B,.beginRound::F,J,.run,.normal,E⟩ (V++base) none (do E.elim (stuck "beginRound: no round") Instr.beginRound;pure .skip) w':=λ_=>rfl;simp only[G,L];exact agV T A C (agW h7)
  |@inRegion n u O l=>
   cases l with
   |nil=>exact abO T (m:=m) A C I (λbase w=>by simp[stepG,stepG.exec]) (λbase=>by simp[stepG,stepG.exec])
   |cons i z=>
    have a9:=A.head.finish VR.undef;have aH:∀j,yielded n t j=yielded u B j:=λj=>by
     unfold yielded;rw[O.dst j];cases((u[j]?).bind (·.dst)) with
     |none=>rfl
     |some x=>
      show(match t[x]? with|some (.bool b)=>some b|_=>none)=(match B[x]? with|some (.bool b)=>some b|_=>none);have hs:=bU.size h2;cases e:t[x]? with
      |none=>
       have:B[x]?=none:=by
        rw[qn] at e ⊢;omega
       rw[this]
      |some v=>
       obtain⟨v',G,L⟩:=bU.get h2 (i:=x) (v:=v) (by rw[fi];exact e);rw[fi] at G;rw[G];cases L<;>first|rfl|(cases v'<;>first|rfl|(cases(by assumption:jK _=true);done))
    have skip:(((n[i]?).map (Region.wanted · (yielded n t))).getD false=false)->(((u[i]?).map (Region.wanted · (yielded u B))).getD false=false)->lY P P' ρ w w' (λbase w=>stepG P m ⟨⟨f,t,.inRegion n (i::z)::k,d,.run,.normal,r⟩,cs++base,.running,none,none⟩ w) (λbase=>stepG P' m' ⟨⟨f,B,.inRegion u (i::z)::F,J,.run,.normal,E⟩,V++base,.running,none,none⟩ w'):=λG L=>
     lY.still C (l:=_::cs) (l':=_::V) (λbase w=>by simp only[stepG,stepG.exec,G];rfl) (λbase=>by simp only[stepG,stepG.exec,L];rfl) (GoR.of (A.put (Ren.Le.refl _) a9 (gD _ _)))
    cases eo:n[i]? with
    |none=>
     have U:u[i]?=none:=by
      have:=O.1;rw[qn] at eo ⊢;omega
     exact skip (by rw[eo];rfl) (by rw[U];rfl)
    |some o=>
     obtain⟨S,U⟩:∃S,u[i]?=some S:=by
      have:=(dl.1 eo).1;have:=O.1;exact⟨_,gn (by omega)⟩
     have a2:=O.2 i o S eo U;have ax:o.guard=S.guard:=by rcases a2 with⟨rfl,_⟩|⟨_,rfl⟩<;>rfl
     have a4:Region.wanted o (yielded n t)=Region.wanted S (yielded u B):=by
      unfold Region.wanted;rw[ax];cases S.guard with
      |none=>rfl
      |some g=>obtain⟨j,b⟩:=g;show(yielded n t j ==some b)=(yielded u B j ==some b);rw[aH j]
     cases ew:Region.wanted S (yielded u B) with
     |false=>exact skip (by rw[eo];simp[a4,ew]) (by rw[U];simp[ew])
     |true=>
      rw[ew] at a4;have nd:(∀c,o.op ≠ .defer c)/\∀c,S.op ≠ .defer c:=by
       rcases a2 with⟨rfl,lV⟩|⟨W,rfl⟩
       .have:∀c,o.op ≠ .defer c:=λc e=>by rw[e] at lV;unfold mC at lV;simp at lV
        exact⟨this,this⟩
       .have:∀c,S.op ≠ .defer c:=λc e=>by rw[e] at W;cases W
        exact⟨this,this⟩
      have a0:az P P' iE ρ (execOp (Frame.eval ⟨f,t,.inRegion n (i::z)::k,d,.run,.normal,r⟩) o) (execOp (Frame.eval ⟨f,B,.inRegion u (i::z)::F,J,.run,.normal,E⟩) S):=by
       rcases a2 with⟨rfl,lV⟩|⟨W,af⟩
       .exact aqj T X lV a1
       .exact aCI T X W af a1
      have G:∀base w,stepG P m ⟨⟨f,t,.inRegion n (i::z)::k,d,.run,.normal,r⟩,cs++base,.running,none,none⟩ w=stepG.apply P true ⟨f,t,.inRegion n (i::z)::k,d,.run,.normal,r⟩ (cs++base) none (execOp (Frame.eval ⟨f,t,.inRegion n (i::z)::k,d,.run,.normal,r⟩) o) w:=λbase w=>by
       simp only[stepG,stepG.exec,eo,qs,qp,a4,pv,stepG.oper,Frame.oper?];cases r with
       |none=>rfl
       |some l0=>
        have:=nd.1;split
        .rename_i Q;exact absurd Q (this _)
        .rfl
      have L:∀base,stepG P' m' ⟨⟨f,B,.inRegion u (i::z)::F,J,.run,.normal,E⟩,V++base,.running,none,none⟩ w'=stepG.apply P' true ⟨f,B,.inRegion u (i::z)::F,J,.run,.normal,E⟩ (V++base) none (execOp (Frame.eval ⟨f,B,.inRegion u (i::z)::F,J,.run,.normal,E⟩) S) w':=λbase=>by
       simp only[stepG,stepG.exec,U,qs,qp,ew,pv,stepG.oper,Frame.oper?];cases E with
       |none=>rfl
       |some l0=>
        have:=nd.2;split
        .rename_i Q;exact absurd Q (this _)
        .rfl
      simp only[G,L];exact agV T A C a0
  |code c=>
   cases c with
   |skip=>rw[atS T] at *;exact abO T (m:=m) A C I (λbase w=>by simp[stepG,stepG.exec]) (λbase=>by simp[stepG,stepG.exec])
   |label l=>rw[aqo T] at *;exact abO T (m:=m) A C I (λbase w=>by simp[stepG,stepG.exec]) (λbase=>by simp[stepG,stepG.exec])
   |seq a b=>rw[axl T] at *;exact abO T (m:=m) A C (.cons (.code a) (.cons (.code b) I)) (λbase w=>by simp[stepG,stepG.exec]) (λbase=>by simp[stepG,stepG.exec])
   |block id a=>rw[aql T] at *;exact abO T (m:=m) A C (.cons (.code a) (.cons (.inBlock id) I)) (λbase w=>by simp[stepG,stepG.exec]) (λbase=>by simp[stepG,stepG.exec])
   |loop a=>rw[atQ T] at *;exact abO T (m:=m) A C (.cons (.code a) (.cons (.inLoop a) I)) (λbase w=>by simp[stepG,stepG.exec]) (λbase=>by simp[stepG,stepG.exec])
   |scope a=>rw[aqm T] at *;exact abO T (m:=m) A C (.cons (.code a) (.cons (.inScope a) I)) (λbase w=>by simp[stepG,stepG.exec]) (λbase=>by simp[stepG,stepG.exec])
   |refuse s=>rw[af2 T] at *;exact GoR.jQ λbase w=>⟨_,_,_,by simp[stepG,stepG.exec];exact⟨rfl,rfl,rfl⟩⟩
   |goto l=>rw[atT T] at *;exact GoR.jQ λbase w=>⟨_,_,_,by simp[stepG,stepG.exec];exact⟨rfl,rfl,rfl⟩⟩
   |cond c a b=>
    rw[atU T] at *;by_cases Q:bM gA gL c=true
    .rw[eg Q] at *;have hv:=a1 c Q;generalize Z:Frame.eval ⟨f,t,.code (.cond c (gP a) (gP b))::k,d,.run,.normal,r⟩ c=v at hv;generalize ay:Frame.eval ⟨f,B,.code (.cond c a b)::F,J,.run,.normal,E⟩ c=v' at hv;cases hv with
     |bool q=>
      have hi:jP P ρ (.code (if q=true then gP a else gP b)::k) (.code (if q=true then a else b)::F):=by
       cases q with
       |true=>exact .cons (.code a) I
       |false=>exact .cons (.code b) I
      exact abO T (m:=m) A C hi (λbase w=>by simp[stepG,stepG.exec,Z]) (λbase=>by simp[stepG,stepG.exec,ay])
     |abp=>exact GoR.jQ λbase w=>⟨_,_,_,by unfold anI at Z;simp[stepG,stepG.exec,Z];first|exact⟨rfl,rfl,rfl⟩|rfl⟩
     |_=>exact GoR.jQ λbase w=>⟨_,_,_,by simp[stepG,stepG.exec,Z];exact⟨rfl,rfl,rfl⟩⟩
    .rw[da Q] at *;exact GoR.jQ λbase w=>⟨_,_,_,by simp[stepG,stepG.exec];exact⟨rfl,rfl,rfl⟩⟩
   |exit id=>
    rw[amO T] at *;rcases I.exit id with⟨x1,x2⟩|⟨l,l',x1,x2,hl⟩
    .have G:∀base w,stepG P m ⟨⟨f,t,.code (.exit id)::k,d,.run,.normal,r⟩,cs++base,.running,none,none⟩ w=jc P m ⟨f,t,.code (.exit id)::k,d,.run,.normal,r⟩ (cs++base) w (some (.exit id)):=λbase w=>by simp[stepG,stepG.exec,x1,jc];rfl
     have L:∀base,stepG P' m' ⟨⟨f,B,.code (.exit id)::F,J,.run,.normal,E⟩,V++base,.running,none,none⟩ w'=jc P' m' ⟨f,B,.code (.exit id)::F,J,.run,.normal,E⟩ (V++base) w' (some (.exit id)):=λbase=>by simp[stepG,stepG.exec,x2,jc];rfl
     simp only[G,L];exact agY T m m' A C rfl (some (.exit id)) (by rw[qs,amO T])
    .exact abO T (m:=m) A C hl (λbase w=>by simp[stepG,stepG.exec,x1]) (λbase=>by simp[stepG,stepG.exec,x2])
   |ret=>
    rw[aqn T] at *;have G:∀base w,stepG P m ⟨⟨f,t,.code .ret::k,d,.run,.normal,r⟩,cs++base,.running,none,none⟩ w=jc P m ⟨f,t,.code .ret::k,d,.run,.normal,r⟩ (cs++base) w (some .ret):=λ_ _=>rfl;have L:∀base,stepG P' m' ⟨⟨f,B,.code .ret::F,J,.run,.normal,E⟩,V++base,.running,none,none⟩ w'=jc P' m' ⟨f,B,.code .ret::F,J,.run,.normal,E⟩ (V++base) w' (some .ret):=λ_=>rfl;simp only[G,L];exact agY T m m' A C rfl (some .ret) (by rw[qs,aqn T])
   |region id n draw=>
    rcases aoh T id n draw with⟨e,O⟩|⟨N,e,O,aF⟩|e
    .rw[e] at *;cases draw with
     |false=>exact abO T (m:=m) A C (.cons (.inRegion O (List.range n.size)) I) (λbase w=>by simp[stepG,stepG.exec]) (λbase=>by simp[stepG,stepG.exec])
     |true=>
      have G:∀(p:Program) (q:Question) (w:World),q.forced=false->(choose q).run p w=.ok (q.cut (w.tape w.drawn q)) {w with drawn:=w.drawn+1}:=λp q w hq=>by
       unfold choose;rw[Sem.run,hq];rfl
      obtain⟨q1,q2⟩:=C.ask 1 1;have hi:jP P ρ (.inRegion n (Region.schedule (P.follows .mixedOrders) n (w'.tape w'.drawn (.order f id)))::k) (.inRegion n (Region.schedule (P'.follows .mixedOrders) n (w'.tape w'.drawn (.order f id)))::F):=by
       rw[T.follows];exact .cons (.inRegion O _) I
      refine⟨λ_ _=>w'.tape w'.drawn (.order f id),1,.inr ⟨ρ,⟨f,t,.inRegion n (Region.schedule (P.follows .mixedOrders) n (w'.tape w'.drawn (.order f id)))::k,d,.run,.normal,r⟩::cs,{w with drawn:=w.drawn+1},#[],⟨f,B,.inRegion n (Region.schedule (P'.follows .mixedOrders) n (w'.tape w'.drawn (.order f id)))::F,J,.run,.normal,E⟩::V,{w' with drawn:=w'.drawn+1},#[],λbase K M=> ?_,rfl,Ren.Le.refl _,λbase=> ?_,q1,q2,.nil _ _,GoR.of (A.put (Ren.Le.refl _) (A.head.at hi) rfl)⟩⟩
      .have hd:=M w.drawn (.order f id) (am _) (by omega);simp only[stepG,stepG.exec,G P (.order f id) (w.dV K) rfl];show GStep.go _ _ _=_;have:(w.dV K).tape (w.dV K).drawn (.order f id)=w'.tape w'.drawn (.order f id):=hd;simp only[Question.cut,this];rfl
      .simp only[stepG,stepG.exec,G P' (.order f id) w' rfl];rfl
    .rw[e] at *;have ad:List.range N.size=List.range n.size:=by rw[O.1]
     cases draw with
     |false=>exact abO T (m:=m) A C (.cons (.inRegion O (List.range n.size)) I) (λbase w=>by simp[stepG,stepG.exec,ad]) (λbase=>by simp[stepG,stepG.exec])
     |true=>
      have G:∀(p:Program) (q:Question) (w:World),q.forced=false->(choose q).run p w=.ok (q.cut (w.tape w.drawn q)) {w with drawn:=w.drawn+1}:=λp q w hq=>by
       unfold choose;rw[Sem.run,hq];rfl
      obtain⟨q1,q2⟩:=C.ask 1 1;have hi:jP P ρ (.inRegion N (Region.schedule (P.follows .mixedOrders) N (w'.tape w'.drawn (.order f id)))::k) (.inRegion n (Region.schedule (P'.follows .mixedOrders) n (w'.tape w'.drawn (.order f id)))::F):=by
       rw[T.follows,aF];exact .cons (.inRegion O _) I
      refine⟨λ_ _=>w'.tape w'.drawn (.order f id),1,.inr ⟨ρ,⟨f,t,.inRegion N (Region.schedule (P.follows .mixedOrders) N (w'.tape w'.drawn (.order f id)))::k,d,.run,.normal,r⟩::cs,{w with drawn:=w.drawn+1},#[],⟨f,B,.inRegion n (Region.schedule (P'.follows .mixedOrders) n (w'.tape w'.drawn (.order f id)))::F,J,.run,.normal,E⟩::V,{w' with drawn:=w'.drawn+1},#[],λbase K M=> ?_,rfl,Ren.Le.refl _,λbase=> ?_,q1,q2,.nil _ _,GoR.of (A.put (Ren.Le.refl _) (A.head.at hi) rfl)⟩⟩
      .have hd:=M w.drawn (.order f id) (am _) (by omega);simp only[stepG,stepG.exec,G P (.order f id) (w.dV K) rfl];show GStep.go _ _ _=_;have:(w.dV K).tape (w.dV K).drawn (.order f id)=w'.tape w'.drawn (.order f id):=hd;simp only[Question.cut,this];rfl
      .simp only[stepG,stepG.exec,G P' (.order f id) w' rfl];rfl
    .rw[e] at *;exact GoR.jQ λbase w=>⟨_,_,_,by simp[stepG,stepG.exec];exact⟨rfl,rfl,rfl⟩⟩
   |rangeFunc fo ps a b=>
    rw[agX T] at *;by_cases Q:bM gA gL fo=true
    .rw[eg Q] at *;obtain⟨t₁,D,H⟩:=(aiz (P:=P) (P':=P') f h2 ps a b h7).run w w' #[] #[] C;rcases H with H|⟨σ,q,w1,q',cZ,us,a6,g1,g2,g3,g4,g5,g6,g7,g8⟩
     .refine⟨t₁,D,.inl λbase K M=> ?_⟩;obtain⟨h,w1,nC,hr,a7⟩:=H K M;simp only[stepG,stepG.exec,hr];exact nj.after _ (.ended _ _ _)
     .obtain⟨lp,mk⟩:=q;obtain⟨a3,mk'⟩:=q';obtain⟨a5,Y⟩:=g5;dsimp only at a5 Y;have an:∀{x x' y y':List Deferred},CDs σ x x'->CDs σ y y'->CDs σ (x++y) (x'++y'):=by
       intro x x' y y' hx hy
       induction hx with
       |nil=>exact hy
       |cons hb _ ih=>exact .cons hb ih
      have a8:iV P σ (⟨f,t,.inRangeFunc lp::k,mk++d,.run,.normal,r⟩::cs) (⟨f,B,.inRangeFunc a3::F,mk'++J,.run,.normal,E⟩::V):=
       A.put g3 ⟨rfl,bU.mono g3 h2,.cons (.inRangeFunc a5) (I.mono g3),an Y (h4.mono g3),.inl ⟨rfl,rfl⟩,⟨rfl,rfl⟩,h7.mono g3⟩ rfl
      have ao:=a8.head.env (hg.mono g3);have a0:=amN T X (ao fo Q) (args:=#[.func (.yield lp) #[] #[]]) (args':=#[.func (.yield a3) #[] #[]]) (.cons (.func (.yield a5) .nil .nil) .nil);refine lY.seq T (s1:=λbase w=>stepG.apply P true ⟨f,t,.inRangeFunc lp::k,mk++d,.run,.normal,r⟩ (cs++base) none _ w) (s1':=λbase=>stepG.apply P' true ⟨f,B,.inRangeFunc a3::F,mk'++J,.run,.normal,E⟩ (V++base) none _ cZ) f (t₁:=t₁) (D:=D) (λbase K M=> ?_) g2 g3 (λbase=> ?_) g7 g8 (agV T a8 g6 a0)
      .simp only[stepG,stepG.exec,g1 K M,Array.empty_append];rw[aaF _ _ _ λ_=>rfl]
      .simp only[stepG,stepG.exec,g4,Array.empty_append];rw[aaF _ _ _ λ_=>rfl]
    .rw[da Q] at *;exact GoR.jQ λbase w=>⟨_,_,_,by simp[stepG,stepG.exec];exact⟨rfl,rfl,rfl⟩⟩
end
def py(l:List Frame):Prop:=∃a,l=[a]/\a.mode=.returning/\a.defers=[]/\a.kind=.normal
section
variable {P P':Program} {ρ σ:Ren} {w w':World}
def aex{l l':Nat}(h:ρ.r l l'):az P P' (λ_ q b=>q=[]/\b=[]) ρ (Instr.takeDeferred l) (Instr.takeDeferred l'):=by
 unfold Instr.takeDeferred;refine aj (eQ h) λσ x d c a=> ?_;cases a with
 |deferred=>exact aj (iX (c.r h) .bI) λ_ _ _ _ _=>ak ⟨rfl,rfl⟩
 |_=>exact .halt _ _
variable (T:Twin P P') (X:ah7 P P')
include T
theorem aiA:∀(l:List ResultVar) {ρ:Ren} {t b:Array Value},dw ρ t b->az P P' bU ρ (l.mapM fun
  |.tmp k=>pure (t.getD k undef)
  |.cell a c=>do loadVar c (<-asAddr (t.getD a undef))) (l.mapM fun
  |.tmp k=>pure (b.getD k undef)
  |.cell a c=>do loadVar c (<-asAddr (b.getD a undef)))
 |[],_,_,_,_=>by
  rw[List.mapM_nil,List.mapM_nil];exact ak .nil
 |x::l,ρ,t,b,h=>by
  have g:∀(σ:Ren) (k:Nat),ρ.Le σ->VR σ (t.getD k undef) (b.getD k undef):=λσ k d=>by
   have y:=bU.size h;rw[jn,jn];cases e:t[k]? with
   |none=>
    have:b[k]?=none:=by
     rw[qn] at e ⊢;omega
    rw[this];exact VR.undef
   |some v=>
    obtain⟨m,j,n⟩:=bU.get h (i:=k) (v:=v) (by rw[fi];exact e);rw[fi] at j;rw[j];exact n.mono d
  rw[wd,wd];refine aj (A:=VR) ?_ λσ v m d r=>aj (aiA l (bU.mono d h)) λs u q o f=>ak (.cons (r.mono o) f);cases x with
  |tmp k=>exact ak (g ρ k (Ren.Le.refl _))
  |cell a c=>exact aj (ah4 (g ρ a (Ren.Le.refl _))) λσ x w d p=>afN T c p
theorem af3{fn g:Func}(k:g.results=fn.results)(h:dw ρ t W):az P P' VR ρ (results fn t) (results g W):=by
 unfold results;rw[k,ue,ue,map_eq_pure_bind,map_eq_pure_bind];refine aj (A:=dw) (aj (aiA T fn.results.toList h) λ_ _ _ _ b=>ak (A:=dw) b) λσ c a m b=> ?_;have n:c.size=a.size:=bU.size b;refine ak ?_;by_cases e:c.size=1
 .have d:a.size=1:=by omega
  rw[tX e,tX d];obtain⟨l,f,j⟩:=bU.get b (i:=0) (v:=c[0]) (by rw[fi];exact gn (by omega));rw[fi,gn (by omega)] at f;obtain rfl:=dq f;exact j
 .have d:¬a.size=1:=by omega
  rw[dif_neg e,dif_neg d];exact .tuple b
theorem azD(m m':Bool)(hS:iV P ρ (fr::cs) (R::V))(N:WR ρ w w')(hm:fr.mode=.returning)(hn:fr.defers≠[]\/cs≠[]) :
  lY P P' ρ w w' (λbase w=>stepG P m ⟨fr,cs++base,.running,none,none⟩ w) (λbase=>stepG P' m' ⟨R,V++base,.running,none,none⟩ w'):=by
 have mF:=hS.head;obtain⟨f,t,E,d,md,kd,r⟩:=fr;obtain⟨f',I,fP,d',K,a1,r'⟩:=R;obtain⟨G,o,h3,h4,A,h6,h7⟩:=mF;dsimp only at G o h3 h4 A h6 h7 hm hn;subst G;subst hm;obtain⟨rfl,rfl⟩:=h6;obtain rfl:K=.returning:=by
  rcases A with A|A
  .cases A.1
  .exact A.2
 cases h4 with
 |@cons b b' ds M hb hl=>
  obtain⟨g,D,H⟩:=(aex (P:=P) (P':=P') hb).run w w' #[] #[] N;rcases H with H|⟨σ,a,F,a',Q,S,s,Y,W,k,O,g5,U,L,X⟩
  .refine⟨g,D,.inl λbase u q=> ?_⟩;obtain⟨h,F,nC,Z,J⟩:=H u q;simp only[stepG,unwind,Z];exact nj.after _ (.ended _ _ _)
  .obtain⟨rfl,rfl⟩:=g5;refine⟨g,D,.inr ⟨σ,⟨f,t,E,ds,.returning,.normal,r⟩::cs,F,seen P f S,⟨f,I,fP,M,.returning,.normal,r'⟩::V,Q,seen P' f s,λbase u q=> ?_,W,k,λbase=> ?_,U,L,aaU T f X,
    GoR.of (hS.put k ⟨rfl,bU.mono k o,h3.mono k,hl.mono k,.inr ⟨rfl,rfl⟩,⟨rfl,rfl⟩,h7.mono k⟩ rfl)⟩⟩
   .simp only[stepG,unwind,Y u q];simp[GStep.after,Gl]
   .simp only[stepG,unwind,O];simp[GStep.after,Gl]
 |nil=>
  have a0:cs≠[]:=hn.resolve_left λh=>h rfl;cases hS with
  |one h h0=>exact absurd rfl a0
  |cons h j=>
   obtain⟨x,B,rfl⟩:∃x B,cs=x::B:=by cases j<;>exact⟨_,_,rfl⟩
   obtain⟨x',C,rfl⟩:∃x B,V=x::B:=by cases j<;>exact⟨_,_,rfl⟩
   have n:∀(p:Program) (m:Bool) (x:Frame) (l:List Frame) (v:Value) (w:World) (tm:Array Value) (td:List Item) (r:Option Nat),doReturn p m ⟨f,tm,td,[],.returning,.normal,r⟩ (x::l) none v w=.go ⟨x.finish v,l,.running,none,none⟩ w #[]:=λ_ _ _ _ _ _ _ _ _=>rfl;cases z:P.funcs[f]? with
   |none=>
    have y:P'.funcs[f]?=none:=by
     rw[qn] at z ⊢;rw[T.ah2];exact z
    have hv:VR ρ (t.getD 0 undef) (I.getD 0 undef):=by
     have hz:=bU.size o;rw[jn,jn];cases e:t[0]? with
     |none=>
      have:I[0]?=none:=by
       rw[qn] at e ⊢;omega
      rw[this];exact VR.undef
     |some v=>
      obtain⟨v',G,o⟩:=bU.get o (i:=0) (v:=v) (by rw[fi];exact e);rw[fi] at G;rw[G];exact o
    refine lY.still N (l:=x.finish (t.getD 0 undef)::B) (l':=x'.finish (I.getD 0 undef)::C) (λbase w=> ?_) (λbase=> ?_) (GoR.of (j.put (Ren.Le.refl _) (j.head.finish hv) (gD _ _)))
    .simp only[stepG,unwind,z,qN,n,Gl]
    .simp only[stepG,unwind,y,qN,n,Gl]
   |some fn=>
    obtain⟨dx,y,hR⟩:=T.func f fn z;obtain⟨g,D,H⟩:=(af3 T hR.results o).run w w' #[] #[] N;rcases H with H|⟨σ,a,F,a',Q,S,s,Y,W,k,O,g5,U,L,X⟩
    .refine⟨g,D,.inl λbase u q=> ?_⟩;obtain⟨h,F,nC,Z,J⟩:=H u q;simp only[stepG,unwind,z,Z];refine nj.after _ ?_;cases h<;>exact .ended _ _ _
    .refine⟨g,D,.inr ⟨σ,x.finish a::B,F,seen P f S,x'.finish a'::C,Q,seen P' f s,λbase u q=> ?_,W,k,λbase=> ?_,U,L,aaU T f X,GoR.of (j.put k ((j.head.mono k).finish g5) (gD _ _))⟩⟩
     .simp only[stepG,unwind,z,Y u q,qN,n];simp[GStep.after,Gl]
     .simp only[stepG,unwind,y,O,qN,n];simp[GStep.after,Gl]
include X
theorem axq(j:GlR ρ)(m m':Bool)(a:iV P ρ l l')(d:WR ρ w w')(k:¬py l) :
  lY P P' ρ w w' (λbase w=>stepG P m (Gl l base) w) (λbase=>stepG P' m' (Gl l' base) w'):=by
 obtain⟨f,n,rfl⟩:∃x c,l=x::c:=by cases a<;>exact⟨_,_,rfl⟩
 obtain⟨p,g,rfl⟩:∃x c,l'=x::c:=by cases a<;>exact⟨_,_,rfl⟩
 rcases a.head.mode with b|b
 .exact azB T X j m m' a d b.1
 .refine azD T m m' a d b.1 ?_;refine qU λh=>k ?_;have o:f.defers=[]:=qU λe=>h (.inl e);have i:n=[]:=qU λe=>h (.inr e);subst i;exact⟨f,rfl,b.1,o,a.head.kind.1⟩
end
def iH(dst:Option Tmp)(op:Op)(t:TypeId):Oper:={dst,op,type:=t,pos:= "",after:=#[],guard:=none}
abbrev cF:FuncId:=57
abbrev nCC:FuncId:=139
def cu:Code->Code
 |.seq _ b=>b
 |c=>c
noncomputable def cU:Code:=cu (cu (cu (cu (cu (f57.body.getD .skip)))))
def atV(r:Nat)(ops:Array Oper)(t:Tmp):Code:=.seq (.region r ops false) (.cond (.tmp t) .skip (.refuse ""))
def aaW(r:Nat)(ops:Array Oper)(t:Tmp):Code:=.seq (.region r ops false) (.cond (.tmp t) (.refuse "") .skip)
def aaX(d:Tmp)(x y:Operand):Oper:=iH (some d) (.binOp .lss 3 x y 3) 4
def atW(d:Tmp)(x y:Operand):Oper:=iH (some d) (.binOp .eql 3 x y 3) 4
def atX(d:Tmp)(x:Operand):Oper:=iH (some d) (.binOp .mul 3 x (.const (.int .i64 1)) 3) 3
def atY(d:Tmp)(x:Operand):Oper:=iH (some d) (.binOp .add 3 x (.const (.int .i64 1)) 3) 3
def aqq(d:Tmp)(x:Tmp)(ty:TypeId):Oper:=iH (some d) (.call ⟨.builtin .len,#[.tmp x],#[ty]⟩) 3
def atZ(d:Tmp)(x:Tmp)(ty:TypeId):Oper:=iH (some d) (.call ⟨.builtin .cap,#[.tmp x],#[ty]⟩) 3
def aoi(d:Tmp)(n:Int):Oper:=iH (some d) (.assign (.const (.int .i64 n))) 3
abbrev kOp(n:Int):Operand:=.const (.int .i64 n)
def av3:Array Oper:=#[
  iH (some 6) (.assign (.const (.slice none 0 0))) 89,
  iH (some 7) (.assign (.const (.bool false))) 4,
  aaX 16 (.tmp 0) (kOp 1)]
def av4:Array Oper:=#[aaX 16 (kOp 99) (.tmp 0)]
def av5:Array Oper:=#[
  iH (some 16) (.load 180 (.global 1)) 180,
  iH (some 16) (.load 180 (.global 2)) 180,
  aqq 16 1 23,atZ 18 1 23,aoi 20 0,
  aaX 19 (kOp 9223372036854775807) (.tmp 18)]
def av6:Array Oper:=#[aaX 19 (.tmp 18) (.tmp 16)]
def av7:Array Oper:=#[aaX 21 (.tmp 20) (.tmp 16)]
def av8:Array Oper:=#[
  iH (some 23) (.indexAddr 23 (.tmp 1) (.tmp 20)) 0,
  iH (some 24) (.load 59 (.tmp 23)) 59,
  iH (some 25) (.field 59 (.tmp 24) 0) 3,
  atX 26 (.tmp 25),atW 22 (.tmp 26) (.tmp 25)]
def av9:Array Oper:=#[
  iH (some 27) (.field 59 (.tmp 24) 1) 57,
  aqq 28 27 57,atZ 3 27 57,aaX 4 (.tmp 28) (kOp 1)]
def awa:Array Oper:=#[aaX 4 (kOp 9223372036854775807) (.tmp 3)]
def awb:Array Oper:=#[aaX 4 (.tmp 3) (.tmp 28)]
def azE:Array Oper:=#[aoi 5 0]
def awc:Array Oper:=#[aaX 4 (.tmp 5) (.tmp 28)]
def awd:Array Oper:=#[
  iH (some 9) (.indexAddr 57 (.tmp 27) (.tmp 5)) 0,
  iH (some 10) (.load 68 (.tmp 9)) 68,
  iH (some 11) (.field 68 (.tmp 10) 0) 3,
  atX 13 (.tmp 11),atW 15 (.tmp 13) (.tmp 11)]
def awe:Array Oper:=#[
  iH (some 26) (.field 68 (.tmp 10) 1) 9,
  aqq 25 26 9,aaX 15 (kOp 9223372036854775807) (.tmp 25)]
def awf:Array Oper:=#[atY 22 (.tmp 5),iH (some 5) (.move (.tmp 22)) 3]
def awg:Array Oper:=#[atY 22 (.tmp 20),iH (some 20) (.move (.tmp 22)) 3]
def aqr:Array Oper:=#[aqq 16 2 98,atZ 18 2 98,aaX 19 (kOp 2147483647) (.tmp 16)]
def aqs:Array Oper:=#[aaX 19 (kOp 9223372036854775807) (.tmp 18)]
def aqt:Array Oper:=#[aaX 19 (.tmp 18) (.tmp 16)]
def amP:Array Oper:=#[
  iH (some 27) (.makeSlice 127 (.tmp 16) (.tmp 16)) 127,
  aoi 28 0]
def awh:Array Oper:=#[aaX 26 (.tmp 28) (.tmp 16)]
def awi:Array Oper:=#[
  iH (some 25) (.indexAddr 98 (.tmp 2) (.tmp 28)) 0,
  iH (some 20) (.load 3 (.tmp 25)) 3,
  atX 22 (.tmp 20),atW 21 (.tmp 22) (.tmp 20)]
def aiB:Array Oper:=#[
  iH (some 24) (.call ⟨.value (.func 79),#[.tmp 0,.tmp 1,.tmp 20],#[3,23,3]⟩) 140,
  iH (some 23) (.indexAddr 127 (.tmp 27) (.tmp 28)) 0,
  iH none (.store 140 (.tmp 23) (.tmp 24)) 0]
def aiC:Array Oper:=#[atY 22 (.tmp 28),iH (some 28) (.move (.tmp 22)) 3]
def aiD:Array Oper:=#[
  iH (some 17) (.assign (.tmp 27)) 127,
  iH (some 8) (.alloc 127) 0,
  iH none (.store 127 (.tmp 8) (.tmp 17)) 0]
def cV:List Nat:=[3,4,5,9,10,11,13,15,16,18,19,20,21,22,23,24,25,26,27,28]
def adb:Array Oper:=⟨cV.map λt=>aoi t 0⟩
def aaY:Code:=.seq (.region 70 awc false) (.seq (.cond (.tmp 4) .skip (.exit 52)) (.seq (atV 71 awd 15) (.seq (aaW 72 awe 15) (.region 73 awf false))))
def aaZ:Code:=.seq (.region 60 av7 false) (.seq (.cond (.tmp 21) .skip (.exit 51)) (.seq (atV 61 av8 22) (.seq (aaW 62 av9 4) (.seq (aaW 63 awa 4) (.seq (aaW 64 awb 4) (.seq (.region 65 azE false)
 (.seq (.block 52 (.loop aaY)) (.region 66 awg false))))))))
def mG:Code:=.seq (.region 80 awh false) (.seq (.cond (.tmp 26) .skip (.exit 53)) (.seq (atV 81 awi 21) (.seq (.region 82 aiB false) (.region 83 aiC false))))
noncomputable def ki:Code:=.seq (aaW 50 av3 16) (.seq (aaW 51 av4 16) (.seq (aaW 52 av5 19) (.seq (aaW 53 av6 19) (.seq (.block 51 (.loop aaZ))
 (.seq (aaW 54 aqr 19) (.seq (aaW 55 aqs 19) (.seq (aaW 56 aqt 19) (.seq (.region 57 amP false) (.seq (.block 53 (.loop mG)) (.seq (.region 58 aiD false) (.seq (.region 59 adb false) cU)))))))))))
def pB:Array Oper:=#[
  iH none (.call ⟨.builtin .unsafeSlice,#[.tmp 0,.const (.int .i64 1)],#[176,3]⟩) 0,
  iH (some 4) (.fieldAddr 178 (.tmp 0) 0) 0,
  iH (some 5) (.load 176 (.tmp 4)) 176,
  iH (some 6) (.binOp .eql 176 (.tmp 5) (.const (.pointer none)) 176) 4]
def agZ:Array Oper:=#[iH none (.store 176 (.tmp 4) (.tmp 0)) 0]
def akH:Array Oper:=#[
  iH (some 7) (.fieldAddr 178 (.tmp 5) 0) 0,
  iH none (.store 176 (.tmp 7) (.const (.pointer none))) 0,
  iH (some 8) (.load 176 (.tmp 4)) 176,
  iH (some 9) (.binOp .eql 176 (.tmp 8) (.const (.pointer none)) 176) 4]
def nH:Code:=
 .seq (.region 0 pB false)
 (.seq (.cond (.tmp 6) .skip (.seq (.region 2 akH false) (.cond (.tmp 9) .skip (.refuse ""))))
 (.seq (.region 1 agZ false) .ret))
noncomputable def qFA(β:Bool):Func:={f57 with body:=some (if β then ki else .refuse "")}
noncomputable def qCC:Func:={f139 with body:=some nH}
noncomputable def pf(fn:Func):Func:={fn with body:=fn.body.map gP}
noncomputable def mJ(β:Bool):Array Func:=((prog.funcs.map pf).setIfInBounds cF (qFA β)).setIfInBounds nCC qCC
noncomputable def ai(β:Bool):Program:={prog with funcs:=mJ β}
section
variable (P:Program) (fs:Array Func)
def ko(t:TypeId):({P with funcs:=fs}:Program).info? t=P.info? t:=rfl
def cP(t:TypeId):({P with funcs:=fs}:Program).underlying t=P.underlying t:=rfl
def adU:({P with funcs:=fs}:Program).depth=P.depth:=rfl
def adV(t:TypeId):({P with funcs:=fs}:Program).cellsOf t=P.cellsOf t:=rfl
def ag0(t:TypeId):({P with funcs:=fs}:Program).bytesOf t=P.bytesOf t:=rfl
def ag1:∀(d:Nat) (t:TypeId),({P with funcs:=fs}:Program).eqGuardType d t=P.eqGuardType d t
 |0,_=>rfl
 |d+1,t=>by
  unfold Program.eqGuardType;rw[cP];simp only[ag1 d]
def abP:∀(d:Nat) (t:TypeId) (n:Nat),byteOfCell {P with funcs:=fs} d t n=byteOfCell P d t n
 |0,_,_=>rfl
 |d+1,t,n=>by
  unfold byteOfCell;rw[cP];simp only[adV,ag0,abP d];rfl
def abQ:∀(d:Nat) (t:TypeId) (n:Nat),cellOfByte {P with funcs:=fs} d t n=cellOfByte P d t n
 |0,_,_=>rfl
 |d+1,t,n=>by
  unfold cellOfByte;rw[cP];simp only[adV,ag0,abQ d];rfl
def aqu(d:Nat)(e:TypeId)(c o:Nat)(b:Int):cellAtBytes {P with funcs:=fs} d e c o b=cellAtBytes P d e c o b:=by
 unfold cellAtBytes;simp only[adV,ag0,abP,abQ];rfl
def adW(t:TypeId):({P with funcs:=fs}:Program).stoodInHeld t=P.stoodInHeld t:=by
 have b:∀(d:Nat) (t u:TypeId),({P with funcs:=fs}:Program).alikeButTags d t u=P.alikeButTags d t u:=by
  intro d
  induction d with
  |zero=>intro t u;rfl
  |succ d a=>
   intro t u;unfold Program.alikeButTags;simp only[ko,a]
 unfold Program.stoodInHeld Program.stoodInAs;simp only[cP,ko,adU,b];rfl
def af4(d:Departure):({P with funcs:=fs}:Program).follows d=P.follows d:=rfl
def aqv(d:Nat)(e:TypeId)(c o:Nat)(u:TypeId)(n:Nat):liesAt {P with funcs:=fs} d e c o u n=liesAt P d e c o u n:=by
 have g:∀(d:Nat) (t u:TypeId),sameLayout {P with funcs:=fs} d t u=sameLayout P d t u:=by
  intro d
  induction d with
  |zero=>intro t u;rfl
  |succ d b=>
   intro t u;unfold sameLayout;simp only[cP,adW,b];rfl
 have f:∀(a:TypeId->Bool) (d:Nat) (e:TypeId) (c o n:Nat),rowAt {P with funcs:=fs} a d e c o n=rowAt P a d e c o n:=by
  intro a d
  induction d with
  |zero=>intro e c o n;rfl
  |succ d b=>
   intro e c o n;unfold rowAt;simp only[cP,adW,adV,b];rfl
 induction d generalizing e c o u n with
 |zero=>rfl
 |succ d b=>
  unfold liesAt;simp only[cP,g,f,b,adU]
end
def dt(v:Value):Prop:=∀a:Ren,VR a v v
def bU.diag{ρ:Ren}:∀{l b:List Value},bU ρ l b->l=b->∀c∈l,VR ρ c c
 |_,_,.nil,_,c,a=>by cases a
 |_,_,.cons x y,e,c,a=>by
  simp only[qj] at e;obtain⟨rfl,e⟩:=e;rcases pb.1 a with rfl|a
  .exact x
  .exact y.diag e c a
def dt.cells(h:dt v):∀c∈v.cells.toList,dt c:=λc a b=>(h b).cells.diag rfl c a
def dt.agg{c:Array Value}(h:∀v∈c.toList,dt v):dt (.agg c):=λa=>.agg (bU.kP λv b=>h v b a)
def StI{β:Type}(I:β->Prop):ForInStep β->Prop
 |.done b=>I b
 |.yield b=>I b
def af5{e β:Type}{I:β->Prop}:∀(l:List e) {b c:β} {f:e->β->Option (ForInStep β)},forIn l b f=some c->I b->(∀a b r,I b->f a b=some r->StI I r)->I c
 |[],b,c,f,h,hb,_=>by
  rw[ul] at h;obtain rfl:=dq h;exact hb
 |a::l,b,c,f,h,hb,hf=>by
  rw[ud] at h;cases d:f a b with
  |none=>rw[d] at h;cases h
  |some r=>
   rw[d] at h;have:=hf a b r hb d;cases r with
   |done x=>
    obtain rfl:=dq h;exact this
   |yield x=>exact af5 l h this hf
def aiE(hi:∀t i v,L t=some i->i.zero=some v->dt v){E:Array Field}(h:Made.reckonStruct L E=some i):∀v,i.zero=some v->dt v:=by
 unfold Made.reckonStruct at h;dsimp only at h;obtain⟨s,A,h⟩:=ph.1 h;rw[<-tL] at A;have w:=af5 (I:=λs:Array Field×Nat×Nat×Nat×Nat×Bool×Bool×Option (Array Value)×String=>∀k,s.2.2.2.2.2.2.2.1=some k->∀v∈k.toList,dt v) _ A (λk e v l=>by
  obtain rfl:=dq e;cases l) λf B r D g=> ?_
 .intro v l;have y:i.zero=s.2.2.2.2.2.2.2.1.map Value.agg:=by
   split at h<;>(obtain rfl:=dq h;rfl)
  rw[y] at l;cases u:s.2.2.2.2.2.2.2.1 with
  |none=>rw[u] at l;cases l
  |some k=>
   rw[u] at l;obtain rfl:=dq l;exact dt.agg (w k u)
 .obtain⟨j,F,g⟩:=ph.1 g;have m:∀k,(if B.2.1+j.size>Made.mostCells then none else do
     let a<-B.2.2.2.2.2.2.2.1
     let b<-j.zero
     pure (a++b.cells):Option (Array Value))=some k->∀v∈k.toList,dt v:=λk e v l=>by
   split at e
   .cases e
   .obtain⟨a,G,e⟩:=ph.1 e;obtain⟨b,o,e⟩:=ph.1 e;obtain rfl:=dq e;rw[qe,oR] at l;rcases l with l|l
    .exact D a G v l
    .exact(hi _ _ _ F o).cells v l
  have n:∀(z:Option (Array Value)) (a:Array Field) (b c d e:Nat) (p q:Bool) (x:String),(∀k,z=some k->∀v∈k.toList,dt v)->(some (ForInStep.yield (a,b,c,d,e,p,q,z,x)):Option (ForInStep (Array Field×Nat×Nat×Nat×Nat×Bool×Bool×Option (Array Value)×String)))=some r->
    StI (λb=>∀k,b.2.2.2.2.2.2.2.1=some k->∀v∈k.toList,dt v) r:=λz a b c d e p q x y h=>by
   obtain rfl:=dq h;exact y
  split at g
  .cases g
  .split at g
   .cases g
   .split at g
    .obtain⟨C, -,g⟩:=ph.1 g;by_cases o:j.bytes=0
     .rw[eg o] at g;exact n _ _ _ _ _ _ _ _ _ m g
     .rw[da o] at g;exact n _ _ _ _ _ _ _ _ _ m g
    .obtain⟨C, -,g⟩:=ph.1 g;by_cases o:j.bytes=0
     .rw[eg o] at g;exact n _ _ _ _ _ _ _ _ _ m g
     .rw[da o] at g;exact n _ _ _ _ _ _ _ _ _ m g
def aoj(hi:∀t i v,L t=some i->i.zero=some v->dt v){d:TypeDesc}(h:Made.reckon L d=some i):∀v,i.zero=some v->dt v:=by
 have f:∀(d:TypeDesc) (s:String) (z:Value) (c:Bool) (b:Nat),dt z->Made.word d s z c b=i->∀v,i.zero=some v->dt v:=λd s z c b p e v a=>by
  subst e;obtain rfl:=dq a;exact p
 unfold Made.reckon at h;cases d with
 |struct u=>exact aiE hi h
 |pointer e=>
  obtain⟨j,l,h⟩:=ph.1 h;have fin:∀{o:Option String},(do pure (Made.word (.pointer e) ("*" ++(<-o)) (.pointer none) true))=some i->∀v,i.zero=some v->dt v:=λ{o} h=>by
   obtain⟨s,g,h⟩:=ph.1 h;exact f _ _ _ _ _ (λ_=>.pointer .none) (dq h)
  split at h
  .cases h
  .split at h
   .cases h
   .exact fin h
  .exact fin h
 |slice e=>
  obtain⟨j,l,h⟩:=ph.1 h;obtain⟨s,g,h⟩:=ph.1 h;exact f _ _ _ _ _ (λ_=>.slice .none 0 0) (dq h)
 |map k e=>
  obtain⟨j,l,h⟩:=ph.1 h;obtain⟨s,g,h⟩:=ph.1 h;obtain⟨j,l,h⟩:=ph.1 h;obtain⟨s,g,h⟩:=ph.1 h;exact f _ _ _ _ _ (λ_=>.map .none) (dq h)
 |chan k e=>
  obtain⟨j,l,h⟩:=ph.1 h;obtain⟨s,g,h⟩:=ph.1 h;exact f _ _ _ _ _ (λ_=>.chan .none) (dq h)
 |func w q v=>
  obtain⟨s,g,h⟩:=ph.1 h;exact f _ _ _ _ _ (λ_=>.nilFunc) (dq h)
 |array n e=>
  obtain⟨j,l,h⟩:=ph.1 h;obtain⟨s,g,h⟩:=ph.1 h;obtain rfl:=dq h;intro v a;dsimp only at a;split at a
  .cases a
  .split at a
   .obtain rfl:=dq a;exact dt.agg λv a=>by cases a
   .cases p:j.zero with
    |none=>rw[p] at a;cases a
    |some z=>
     rw[p] at a;obtain rfl:=dq a;refine dt.agg λv a=>(hi _ _ _ l p).cells v ?_;simp only[su,Array.mem_flatten] at a;obtain⟨r,m,a⟩:=a;rw[Array.mem_replicate] at m;rw[<-m.2];exact su.2 a
 |_=>cases h
def aok(c:∀(t:Nat) (i:TypeInfo) (v:Value),P.types[t]?=some i->i.zero=some v->dt v):∀t i v,P.info? t=some i->i.zero=some v->dt v:=by
 have b:∀(f:Nat) t i v,Made.infoAt P.toTables f t=some i->i.zero=some v->dt v:=by
  intro f
  induction f with
  |zero=>intro t i v h;cases h
  |succ f e=>
   intro t i v h a;unfold Made.infoAt at h;split at h
   .exact c t i v h a
   .obtain⟨d,hd,h⟩:=ph.1 h;exact aoj e h v a
 intro t i v h a;unfold Tables.info? at h;split at h
 .exact c t i v h a
 .exact b _ t i v h a
noncomputable def zOk(t:Nat):Bool:=match prog.types[t]? with
 |some i=>match i.zero with
  |some v=>ow (λ_=>false) 6 v
  |none=>true
 |none=>true
def at1:(List.range prog.types.size).all zOk=true:=by kernel_rfl
def acB:∀(d:Nat) (v:Value),ow (λ_=>false) d v=true->dt v
 |0,v,h=>by cases h
 |d+1,v,h=>by
  have g:∀l:List Value,l.all (ow (λ_=>false) d)=true->∀e:Ren,bU e l l:=λl i e=>bU.kP λv j=>acB d v (lP.1 i v j) e;intro e;cases v with
  |bool b=>exact .bool b
  |int k n=>exact .int k n
  |string s=>exact .string s
  |nilFunc=>exact .nilFunc
  |nilIface=>exact .nilIface
  |pointer a=>cases a with
   |none=>exact .pointer .none
   |some a=>cases h
  |slice a n c=>cases a with
   |none=>exact .slice .none n c
   |some a=>cases h
  |map a=>cases a with
   |none=>exact .map .none
   |some a=>cases h
  |chan a=>cases a with
   |none=>exact .chan .none
   |some a=>cases h
  |func f a c=>
   unfold ow at h;simp only[ge] at h;cases f<;>(have:=h.1.1;cases this)
  |iface t v=>exact .iface t (acB d v h e)
  |agg c=>exact .agg (g _ h e)
  |tuple c=>exact .tuple (g _ h e)
  |float|complex=>cases h
def axr:∀t i v,prog.info? t=some i->i.zero=some v->dt v:=aok λt i v h b=>by
 have a:=(dl.1 h).1;have:=lP.1 at1 t (qz.2 a);unfold zOk at this;rw[h] at this;dsimp only at this;rw[b] at this;exact acB 6 v this
noncomputable def amQ(fn:Func):Bool:=!(fn.name == "runtime.NumGoroutine")
def aiF:prog.funcs.toList.all amQ=true:=by kernel_rfl
def af6{a:FuncId->Bool}{b:List Nat}{o:Op}(h:mC P a b o=true)(g:Nat):o ≠ .ready g:=λe=>by
 subst e;unfold mC at h;simp at h
def afx(P:Program)(t:FuncId->Bool)(r:List Nat)(s:TypeId):∀c:Code,readies (bQ P t r s c)=[]:=by
 intro c
 induction c with
 |region id u draw=>
  unfold bQ;have m:∀l:List Oper,(∀o∈l,∀g,o.op ≠ .ready g)->(l.filterMap λo=>match o.op with|.ready g=>some g|_=>none)=[]:=by
   intro l v;rw[List.filterMap_eq_nil_iff];intro o k;split
   .rename_i g e;exact absurd e (v o k g)
   .rfl
  split
  .rename_i h;exact m _ λo k g=>af6 (lP.1 h o k) g
  .split
   .rename_i h;refine m _ λo k g e=> ?_;rw[qG,qu] at k;obtain⟨p,w,rfl⟩:=k;have j:=lP.1 h p w;have q:(aap t r s p).op=p.op:=by unfold aap;split<;>rfl
    rw[q] at e;simp only[rj] at j;rcases j with j|j
    .exact af6 j g e
    .rw[e] at j;cases j
   .rfl
 |seq a b i d=>unfold bQ readies;rw[i,d];rfl
 |cond c a b i d=>
  unfold bQ;split
  .unfold readies;rw[i,d];rfl
  .rfl
 |rangeFunc f x a b i d=>
  unfold bQ;split
  .unfold readies;rw[i,d];rfl
  .rfl
 |block id a n=>unfold bQ readies;exact n
 |loop a n=>unfold bQ readies;exact n
 |scope a n=>unfold bQ readies;exact n
 |_=>rfl
def at2(P:Program)(m:Array Func)(k:FuncId->Bool)(i:List Nat)(j:TypeId):∀c:Code,bQ {P with funcs:=m} k i j c=bQ P k i j c:=by
 intro c
 induction c with
 |region id l draw=>rfl
 |seq a b e d=>unfold bQ;rw[e,d]
 |cond c a b e d=>unfold bQ;rw[e,d]
 |rangeFunc f n a b e d=>unfold bQ;rw[e,d]
 |block id a g=>unfold bQ;rw[g]
 |loop a g=>unfold bQ;rw[g]
 |scope a g=>unfold bQ;rw[g]
 |_=>rfl
section
variable (β:Bool)
def acC:(ai β).funcs[nCC]?=some qCC:=by
 have:nCC<(prog.funcs.map pf).size:=by rw[tS];exact(dl.1 func139).1
 show(((prog.funcs.map pf).setIfInBounds cF (qFA β)).setIfInBounds nCC qCC)[nCC]?=_;rw[qh (by simpa using this)]
def acD:(ai β).funcs[cF]?=some (qFA β):=by
 have:cF<(prog.funcs.map pf).size:=by rw[tS];exact(dl.1 func57).1
 show(((prog.funcs.map pf).setIfInBounds cF (qFA β)).setIfInBounds nCC qCC)[cF]?=_;rw[kw (by decide),qh this]
def akI{f:Nat}(a:f≠nCC)(b:f≠cF):(ai β).funcs[f]?=(prog.funcs[f]?).map pf:=by
 show(((prog.funcs.map pf).setIfInBounds cF (qFA β)).setIfInBounds nCC qCC)[f]?=_;rw[kw (sI a),kw (sI b),rv]
def axs:(ai β).funcs.size=prog.funcs.size:=by
 show(((prog.funcs.map pf).setIfInBounds cF (qFA β)).setIfInBounds nCC qCC).size=_;simp
end
def azF:gH nCC=true:=by unfold gH;kernel_rfl
def akJ:readies ki=[]:=by kernel_rfl
def azG:gH cF=true:=by unfold gH;kernel_rfl
def azH:prog.follows .staticDataAhead=true:=by kernel_rfl
def azI:prog.underlying 3=some (.int .i64):=by kernel_rfl
def amR:f139.body.isSome=true:=by kernel_rfl
def amS:f57.body.isSome=true:=by kernel_rfl
section
variable (β:Bool)
def aqw(g:Nat):(ai β).stepOf g=none:=by
 unfold Program.stepOf;rw[Array.findIdx?_eq_none_iff];intro fn b;obtain⟨f,a⟩:=Array.getElem?_of_mem b;by_cases e:f=nCC
 .subst e;rw[acC] at a;obtain rfl:=dq a;show((some nH).map readies).any (·.contains g)=false;rfl
 by_cases d:f=cF
 .subst d;rw[acD] at a;obtain rfl:=dq a;cases β with
  |true=>
   show(readies ki).contains g=false;rw[akJ];rfl
  |false=>rfl
 rw[akI β e d] at a;obtain⟨i,j,rfl⟩:=lw.1 a;show((i.body.map gP).map readies).any (·.contains g)=false;cases i.body with
 |none=>rfl
 |some c=>
  show(readies (gP c)).contains g=false;have:readies (gP c)=[]:=by unfold gP;exact afx _ _ _ _ c
  rw[this];rfl
def cM{f:Nat}{fn:Func}(h:prog.funcs[f]?=some fn):(fn.name == "runtime.NumGoroutine")=false:=by
 have:=lP.1 aiF fn (su.2 (qI h));unfold amQ at this;simpa using this
def ag2(f:FuncId)(fn:Func)(h:(ai β).funcs[f]?=some fn):∃b,prog.funcs[f]?=some b/\FnR (gH f) fn b:=by
 by_cases k:f=nCC
 .subst k;rw[acC] at h;obtain rfl:=dq h;have g:=cM func139;refine⟨_,func139,rfl,g,rfl,rfl,rfl,λe=>(by cases e),λc _=> ?_⟩;obtain⟨d,a⟩:=rF.1 amR;exact⟨d,a,λe=>by rw[azF] at e;cases e⟩
 by_cases j:f=cF
 .subst j;rw[acD] at h;obtain rfl:=dq h;have g:=cM func57;refine⟨_,func57,rfl,g,rfl,rfl,rfl,λe=>(by cases e),λc _=> ?_⟩;obtain⟨d,a⟩:=rF.1 amS;exact⟨d,a,λe=>by rw[azG] at e;cases e⟩
 rw[akI β k j] at h;obtain⟨b,i,rfl⟩:=lw.1 h;have g:=cM i;refine⟨b,i,rfl,g,rfl,rfl,rfl,λe=> ?_,λc e=> ?_⟩
 .have e:b.body.map gP=none:=e;have:b.body=none:=by simpa using e
  unfold pf;rw[this];cases b;dsimp only at this;subst this;rfl
 .have e:b.body.map gP=some c:=e;obtain⟨d,a,rfl⟩:=lw.1 e;exact⟨d,a,λ_=>rfl⟩
def mr:Twin (ai β) prog where
 info t:=(ko prog _ t).symm
 under t:=(cP prog _ t).symm
 rt:=rfl
 depth:=(adU prog _).symm
 globals:=by unfold gN;exact⟨rfl,rfl⟩
 zero t i v h hv ρ:=axr t i v ((ko prog _ t).symm.trans h) hv ρ
 stood t:=(adW prog _ t).symm
 avP:=rfl
 cellAt d e c o b:=(aqu prog _ d e c o b).symm
 lies d e c o u n:=(aqv prog _ d e c o u n).symm
 aka d t:=(ag1 prog _ d t).symm
 follows d:=(af4 prog _ d).symm
 pc:=by
  unfold gP
  funext c
  exact(at2 prog _ gA gL gB c).symm
 as7 e h:=by
  have a:gB=3:=by unfold gB;rfl
  rw[a] at h;have:=((cP prog _ 3).symm.trans h);rw[azI] at this;cases this
 func:=ag2 β
 ah2:=(axs β).symm
 nE:=⟨(af4 prog _ _).trans azH,aqw β⟩
end
def ag3{r:Y->Y->Prop}{a:Y}(h:∀f:Nat->Y,f 0=a->¬ ∀n,r (f (n+1)) (f n)):Acc r a:=by
 refine qU λe=> ?_;have step:∀x:{x:Y // ¬Acc r x},∃y:{x:Y // ¬Acc r x},r y.1 x.1:=λx=>qU λd=>x.2 ⟨_,λy c=>qU λb=>d ⟨⟨y,b⟩,c⟩⟩
 let f:Nat->{x:Y // ¬Acc r x}:=λn=>Nat.rec ⟨a,e⟩ (λ_ x=>(step x).choose) n
 exact h (λn=>(f n).1) rfl λn=>(step (f n)).choose_spec
def nI(g:Goroutine)(w:World):Machine:={world:=w,gs:=#[g],rest:={timers:=#[],alone:=none,slice:=none}}
def ik(h:nI g w=nI g' w'):g=g'/\w=w':=by
 unfold nI at h;simp only[Machine.mk.injEq,Array.mk.injEq,qj,qx] at h;exact⟨h.2,h.1⟩
def aiG(a:g.status=.running):move P (nI g w)=.goroutine (nI g w) 0:=by
 simp[move,ask,askOn,nI,runnable_eq,due,ahead,Goroutine.canRun,uR,choose,pure,Sem.run,Question.forced,a]
def dQ(a:g.status=.running)(h:stepG P true g w=.go g' w' es):step P (nI g w)=.next (nI g' w'):=by
 rw[step,stepT,aiG a];simp[runT,nI,Array.swapAt!,h]
def cG{o:Outcome}(a:g.status=.running)(h:stepG P true g w=.ended o w' es):step P (nI g w)=.ended o w':=by
 rw[step,stepT,aiG a];simp[runT,nI,Array.swapAt!,h]
def acE(c:g.status=.blocked):∃o b,step P (nI g w)=.ended o b:=by
 rw[step,stepT];have:∃s a,move P (nI g w)=.machine s a/\∃o b,s=.ended o b:=by
  simp only[move,ask,askOn,nI,runnable_eq,due,ahead,Goroutine.canRun,c];simp[uR,choose,pure,Sem.run,Question.forced,c];generalize endWith _ _ _ _=q;cases q<;>exact⟨_,⟨_,rfl⟩,_,_,rfl⟩
 obtain⟨s,a,d,o,b,rfl⟩:=this;rw[d];exact⟨o,b,rfl⟩
def acF(a:g.status=.waiting):step P (nI g w)=.next (nI g w):=by
 rw[step,stepT];have:move P (nI g w)=.machine (.next (nI g w)):=by
  simp[move,ask,askOn,nI,runnable_eq,due,ahead,Goroutine.canRun,uR,choose,pure,Sem.run,Question.forced,a]
 rw[this]
def kq(P:Program):Frame:={fn:=P.funcs.size,tmps:=#[],todo:=[.call ⟨.nil,#[]⟩ false "fmt's door" #[]],defers:=[],mode:=.run,kind:=.normal}
def aqx(base:List Frame)(g:Goroutine):Prop:=g.callers=base/\g.frame.mode=.returning/\g.frame.defers=[]/\g.status=.running/\g.dying=none
section
variable {P:Program}
def aa0{g:Goroutine}{w:World}(h:g.status=.blocked\/g.status=.waiting):∀n a b,runN P n (nI g w)=.next (nI a b)->¬aqx [kq P] a
 |0,a,b,hr,hf=>by
  simp only[runN,qQ] at hr;obtain⟨rfl,rfl⟩:=ik hr;rcases h with h|h<;>rw[hf.2.2.2.1] at h<;>cases h
 |n+1,a,b,hr,hf=>by
  unfold runN at hr;rcases h with h|h
  .obtain⟨o,d,c⟩:=acE (P:=P) (w:=w) h;rw[c] at hr;cases hr
  .rw[acF h] at hr;exact aa0 (.inr h) n a b hr hf
def ade:∀(n:Nat) {a:Frame} {w:World} {d:Dying} {f:Fatal},d.fatal=some f->d.calling=false->∀b g,runN P n (nI ⟨a,[],.running,some d,none⟩ w)=.next (nI b g)->¬aqx [kq P] b
 |0,a,w,d,f,h1,h2,b,g,hr,hf=>by
  simp only[runN,qQ] at hr;obtain⟨rfl,rfl⟩:=ik hr;have:=hf.2.2.2.2;cases this
 |n+1,a,w,d,f,h1,h2,b,g,hr,hf=>by
  unfold runN at hr;have m:(∃o c i,stepG P true ⟨a,[],.running,some d,none⟩ w=.ended o c i)\/
    ∃k l c i,(k=.running\/k=.blocked)/\stepG P true ⟨a,[],.running,some d,none⟩ w=.go ⟨a,[],k,some {d with fatal:=some l},none⟩ c i:=by
   obtain⟨r,p,e,j,s,hand,fatal⟩:=d;dsimp only at h1 h2;subst h1 h2;simp only[stepG,die,writeOn];split
   .exact .inl ⟨_,_,_,rfl⟩
   .split
    .exact .inr ⟨_,_,_,_,.inl rfl,rfl⟩
    .exact .inr ⟨_,_,_,_,.inr rfl,rfl⟩
    .exact .inl ⟨_,_,_,rfl⟩
    .exact .inl ⟨_,_,_,rfl⟩
  rcases m with⟨o,c,i,h⟩|⟨k,l,c,i,q,h⟩
  .rw[cG rfl h] at hr;cases hr
  .rw[dQ rfl h] at hr;rcases q with rfl|rfl
   .exact ade n (d:={d with fatal:=some l}) (f:=l) rfl h2 b g hr hf
   .exact aa0 (.inl rfl) n b g hr hf
def aqy{b:Nat}(e:∀x l,w.heap[b]?≠some (.deferred (some (x::l)))):(∃h c a,(Instr.takeDeferred b).runT P w #[]=(.halt h c,a))\/∃a,(Instr.takeDeferred b).runT P w #[]=(.ok [] {w with heap:=w.heap.setIfInBounds b (.deferred none)},a):=by
 unfold Instr.takeDeferred;show(∃h c a,(Sem.getObj b λo=>_).runT P w #[]=_)\/∃a,(Sem.getObj b λo=>_).runT P w #[]=_;rw[Sem.runT];cases d:w.heap[b]? with
 |none=>exact .inl ⟨_,_,_,rfl⟩
 |some o=>
  cases o with
  |deferred q=>
   cases q with
   |none=>exact .inl ⟨_,_,_,rfl⟩
   |some l=>
    cases l with
    |cons x l=>exact absurd d (e x l)
    |nil=>
     refine .inr ⟨(#[].push ⟨.obj b,false,false⟩).push ⟨.obj b,true,false⟩, ?_⟩;show(Sem.setObj b (.deferred none) (Sem.pure [])).runT P w (#[].push ⟨.obj b,false,false⟩)=_;rw[Sem.runT,d];show(Sem.pure []).runT P {w with heap:=w.heap.setIfInBounds b (.deferred none)} _=_;rw[Sem.runT];rfl
  |_=>exact .inl ⟨_,_,_,rfl⟩
def wN(fr:Frame)(b:List PanicEntry):∃a,(fr.raise b).mode=.panicking a:=by
 unfold Frame.raise;split<;>exact⟨_,rfl⟩
def abR(fr:Frame)(a:List PanicEntry):(fr.raise a).defers=fr.defers:=by
 unfold Frame.raise;split<;>rfl
def akK(a:List PanicEntry):((kq P).raise a).catches P=true:=by
 have h:P.funcs[P.funcs.size]?=none:=by rw[qn];exact am _
 show(match P.funcs[P.funcs.size]?,[Item.call ⟨.nil,#[]⟩ false "fmt's door" #[]] with
  |none,.call _ _ resume _::_=>resume.startsWith "fmt's door"
  |_,_=>false)=true
 rw[h];show "fmt's door".startsWith "fmt's door" =true
 decide+kernel
def nJ:∀(n:Nat) {A:Frame} {i:List Frame} {w:World} {a:List PanicEntry},A.mode=.panicking a->((∀f∈A::i,kX w f.defers)\/False)->∀z B,runN P n (nI ⟨A,i++[kq P],.running,none,none⟩ w)=.next (nI z B)->¬aqx [kq P] z
 |0,A,i,w,a,hm,_,z,B,hr,hf=>by
  simp only[runN,qQ] at hr;obtain⟨rfl,rfl⟩:=ik hr;have:=hf.2.1;rw[hm] at this;cases this
 |n+1,A,i,w,a,hm,hd,z,B,hr,hf=>by
  replace hd:=hd.resolve_right id;unfold runN at hr;obtain⟨f,q,p,s,L,m,k⟩:=A;dsimp only at hm;subst hm;have C:stepG P true ⟨⟨f,q,p,s,.panicking a,m,k⟩,i++[kq P],.running,none,none⟩ w=unwind P true ⟨f,q,p,s,.panicking a,m,k⟩ (i++[kq P]) none w:=rfl;cases s with
  |cons d s=>
   obtain⟨b,rfl,I⟩:=hd _ (qD ..) d (qD ..);have F:(∃o j g,unwind P true ⟨f,q,p,⟨.collected b,#[]⟩::s,.panicking a,m,k⟩ (i++[kq P]) none w=.ended o j g)\/
     ∃g,unwind P true ⟨f,q,p,⟨.collected b,#[]⟩::s,.panicking a,m,k⟩ (i++[kq P]) none w=.go ⟨⟨f,q,p,s,.panicking a,m,k⟩,i++[kq P],.running,none,none⟩ {w with heap:=w.heap.setIfInBounds b (.deferred none)} g:=by
    rcases aqy (P:=P) I with⟨h,j,g,e⟩|⟨g,e⟩
    .refine .inl ⟨.stuck "the deferred calls of a range-over-func loop have been taken" (Frame.pos P ⟨f,q,p,⟨.collected b,#[]⟩::s,.panicking a,m,k⟩),j,seen P f g, ?_⟩;unfold unwind;simp only[e];simp[GStep.after]
    .refine .inr ⟨seen P f g, ?_⟩;unfold unwind;simp only[e];simp[GStep.after]
   rcases F with⟨o,j,g,h⟩|⟨g,h⟩
   .rw[cG rfl (C.trans h)] at hr;cases hr
   .rw[dQ rfl (C.trans h)] at hr;refine nJ n rfl (.inl λx u=> ?_) z B hr hf;have D:kX w x.defers:=by
     rcases pb.1 u with rfl|u
     .exact λd v=>hd _ (qD ..) d (rh _ v)
     .exact hd x (by simp[u])
    intro d v;obtain⟨c,rfl,K⟩:=D d v;exact⟨c,rfl,λy l e=>by
     change (w.heap.setIfInBounds b (.deferred none))[c]?=_ at e;rw[oS] at e;split at e
     .split at e
      .cases e
      .cases e
     .exact K y l e⟩
  |nil=>
   by_cases t:Frame.catches P ⟨f,q,p,[],.panicking a,m,k⟩=true
   .have h:∃o j g,unwind P true ⟨f,q,p,[],.panicking a,m,k⟩ (i++[kq P]) none w=.ended o j g:=by
     unfold unwind;simp only[t,pv];exact⟨_,_,_,rfl⟩
    obtain⟨o,j,g,h⟩:=h;rw[cG rfl (C.trans h)] at hr;cases hr
   .cases i with
    |nil=>
     have h:unwind P true ⟨f,q,p,[],.panicking a,m,k⟩ ([]++[kq P]) none w=.go ⟨(kq P).raise a,[],.running,none,none⟩ w #[]:=by
      unfold unwind;simp only[t,qX];rfl
     rw[dQ rfl (C.trans h)] at hr;cases n with
     |zero=>
      simp only[runN,qQ] at hr;obtain⟨rfl,rfl⟩:=ik hr;have:=hf.1;cases this
     |succ n=>
      unfold runN at hr;obtain⟨G,r⟩:=wN (kq P) a;have E:∃o j g,stepG P true ⟨(kq P).raise a,[],.running,none,none⟩ w=.ended o j g:=by
       have H:stepG P true ⟨(kq P).raise a,[],.running,none,none⟩ w=unwind P true ((kq P).raise a) [] none w:=by
        simp only[stepG,r]
       rw[H];unfold unwind;have J:((kq P).raise a).defers=[]:=(abR _ _).trans rfl;rw[J];simp only[r,akK,pv];exact⟨_,_,_,rfl⟩
      obtain⟨o,j,g,E⟩:=E;simp only[cG rfl E] at hr;cases hr
    |cons c i=>
     have h:unwind P true ⟨f,q,p,[],.panicking a,m,k⟩ (c::i++[kq P]) none w=.go ⟨c.raise a,i++[kq P],.running,none,none⟩ w #[]:=by
      unfold unwind;simp only[t,qN];rfl
     rw[dQ rfl (C.trans h)] at hr;obtain⟨G,r⟩:=wN c a;refine nJ n r (.inl λx u=> ?_) z B hr hf;rcases pb.1 u with rfl|u
     .rw[abR];exact hd c (by simp)
     .exact hd x (by simp[u])
def aol{s:GStep}(h:nj [kq P] s):(∃o w a,s=.ended o w a)\/∃g w a,s=.go g w a/\∀n b e,runN P n (nI g w)=.next (nI b e)->¬aqx [kq P] b:=by
 cases h with
 |ended o w a=>exact .inl ⟨_,_,_,rfl⟩
 |stop h=>exact .inr ⟨_,_,_,rfl,aa0 h⟩
 |raised c hd=>exact .inr ⟨_,_,_,rfl,λn=>nJ n c (.inl hd)⟩
 |dying d f=>exact .inr ⟨_,_,_,rfl,λn=>ade n d f⟩
end
structure Cfg where
 l:List Frame
 w:World
 t:Tape
structure aey (P:Program) (c c1:Cfg):Prop where
 ne:c.l≠[]
 on:¬py c.l
 drawn:c.w.drawn<=c1.w.drawn
 tape:∀i q,i<c.w.drawn->c1.t i q=c.t i q
 step:∃es,∀(base:List Frame) (t:Tape),(∀i q,i<c1.w.drawn->t i q=c1.t i q)->stepG P true (Gl c.l base) (c.w.dV t)=.go (Gl c1.l base) (c1.w.dV t) es
def kh(P:Program)(R:List Frame->World->Prop)(c:Cfg):Prop:=
 ∀t:Tape,(∀i q,i<c.w.drawn->t i q=c.t i q)->∃n a b,runN P n (nI (Gl c.l [kq P]) (c.w.dV t))=.next (nI (Gl a [kq P]) b)/\py a/\R a b
section
variable {P:Program} {R:List Frame->World->Prop}
def jz(h:l≠[])(base:List Frame):(Gl l base).status=.running:=by
 cases l with
 |nil=>exact absurd rfl h
 |cons x a=>rfl
def nK{base : List Frame}(h:l≠[])(a:l'≠[])(e:Gl l base=Gl l' base):l=l':=by
 cases l with
 |nil=>exact absurd rfl h
 |cons x c=>
  cases l' with
  |nil=>exact absurd rfl a
  |cons y b=>
   unfold Gl at e;simp only[Goroutine.mk.injEq,List.append_cancel_right_eq] at e;rw[e.1,e.2.1]
def py.ne(h:py l):l≠[]:=by
 obtain⟨a,rfl, -⟩:=h;exact λe=>by cases e
def py.fin(h:py l)(base:List Frame):aqx base (Gl l base):=by
 obtain⟨c,rfl,a,b, -⟩:=h;exact⟨rfl,a,b,rfl,rfl⟩
def kh.step{c c1:Cfg}(h:kh P R c)(a:aey P c c1):kh P R c1:=λt f=>by
 obtain⟨o,k⟩:=a.step;obtain⟨n,m,j,b,d,l⟩:=h t λi q g=>by
  rw[f i q (bd g a.drawn),a.tape i q g]
 cases n with
 |zero=>
  simp only[runN,qQ] at b;obtain⟨e, -⟩:=ik b;obtain rfl:=nK a.ne d.ne e;exact absurd d a.on
 |succ n=>
  unfold runN at b;rw[dQ (jz a.ne _) (k [kq P] t f)] at b;exact⟨n,m,j,b,d,l⟩
def kh.acc{c:Cfg}(h:kh P R c):Acc (λw c=>aey P c w) c:=by
 classical
 refine ag3 λf x a=> ?_;subst x;have t:∀{m n},m<=n->(f m).w.drawn<=(f n).w.drawn:=λ{m n} b=>by
  induction b with
  |refl=>exact am _
  |step _ p=>exact ap p (a _).drawn
 have l:∀{m n},m<=n->∀i q,i<(f m).w.drawn->(f n).t i q=(f m).t i q:=λ{m n} b=>by
  induction b with
  |refl=>exact λ_ _ _=>rfl
  |step r p=>exact λi q o=>((a _).tape i q (bd o (t r))).trans (p i q o)
 let T:Tape:=λi q=>if d:∃n,i<(f n).w.drawn then(f d.choose).t i q else 0
 have u:∀n i q,i<(f n).w.drawn->T i q=(f n).t i q:=λn i q o=>by
  have d:∃n,i<(f n).w.drawn:=⟨n,o⟩;show(if d:∃n,i<(f n).w.drawn then(f d.choose).t i q else 0)=_;rw[tX d];rcases Nat.le_total d.choose n with g|g
  .exact(l g i q d.choose_spec).symm
  .exact l g i q o
 have s:∀n,Go.step P (nI (Gl (f n).l [kq P]) ((f n).w.dV T))=.next (nI (Gl (f (n+1)).l [kq P]) ((f (n+1)).w.dV T)):=λn=>by
  obtain⟨B,z⟩:=(a n).step;exact dQ (jz (a n).ne _) (z _ T (u (n+1)))
 have y:∀n k,runN P n (nI (Gl (f k).l [kq P]) ((f k).w.dV T))=.next (nI (Gl (f (k+n)).l [kq P]) ((f (k+n)).w.dV T)):=by
  intro n
  induction n with
  |zero=>intro k;rfl
  |succ n p=>
   intro k;unfold runN;rw[s k];simp only;rw[p (k+1),show k+1+n=k+(n+1) by omega]
 obtain⟨n,C,A,v,j, -⟩:=h T (u 0);rw[y n 0,qQ] at v;obtain⟨e, -⟩:=ik v;obtain rfl:=nK (a (0+n)).ne j.ne e;exact(a (0+n)).on j
def kh.fin{c:Cfg}(h:kh P R c)(u:py c.l)(B:Extern.next "fmt's door" =none)(t:Tape)(z:∀i q,i<c.w.drawn->t i q=c.t i q):R c.l (c.w.dV t):=by
 obtain⟨n,J,E,a,g,C⟩:=h t z;cases n with
 |zero=>
  simp only[runN,qQ] at a;obtain⟨e,rfl⟩:=ik a;obtain rfl:=nK u.ne g.ne e;exact C
 |succ n=>
  exfalso;obtain⟨j,A,x,hd,p⟩:=u;rw[A] at a;have k:(∃o b d,stepG P true (Gl [j] [kq P]) (c.w.dV t)=.ended o b d)\/∃v b d,stepG P true (Gl [j] [kq P]) (c.w.dV t)=.go ⟨(kq P).finish v,[],.running,none,none⟩ b d:=by
   obtain⟨f,l,w,H,G,F,m⟩:=j;dsimp only at x hd p;subst x hd p;have y:stepG P true (Gl [⟨f,l,w,[],.returning,.normal,m⟩] [kq P]) (c.w.dV t)=unwind P true ⟨f,l,w,[],.returning,.normal,m⟩ [kq P] none (c.w.dV t):=rfl;rw[y];unfold unwind;dsimp only;cases I:P.funcs[f]? with
   |none=>exact .inr ⟨_,_,_,rfl⟩
   |some fn=>
    dsimp only;generalize (results fn l).runT P (c.w.dV t) #[]=q;obtain⟨r,d⟩:=q;cases r with
    |ok v b=>exact .inr ⟨v,b,_,rfl⟩
    |halt h b=>cases h<;>exact .inl ⟨_,_,_,rfl⟩
  unfold runN at a;rcases k with⟨o,b,d,e⟩|⟨v,b,d,e⟩
  .rw[cG rfl e] at a;cases a
  .rw[dQ rfl e] at a;cases n with
   |zero=>
    simp only[runN,qQ] at a;obtain⟨e, -⟩:=ik a;obtain⟨D,rfl, -⟩:=g;have:=jt Goroutine.callers e;cases this
   |succ n=>
    unfold runN at a;have s:stepG P true ⟨(kq P).finish v,[],.running,none,none⟩ b=(Extern.next "fmt's door").elim (.ended (.stuck ("no extern row " ++ "fmt's door") (Frame.pos P ((kq P).finish v))) b #[]) λe=>stepG.apply P true ((kq P).finish v) [] none (e (#[].push v)) b:=rfl;rw[B] at s;simp only[cG rfl s] at a;cases a
end
section
variable {P P':Program} {R:List Frame->World->Prop} {ρ:Ren}
def sim(T:Twin P P')(X:ah7 P P')(C:GlR ρ){c:Cfg}(m':Bool)(y:iV P ρ c.l l')(K:WR ρ c.w w')(x:¬py c.l)(z:kh P R c) :
  ∃m k d r l f,aey P c m/\kh P R m/\ρ.Le k/\(∀base,stepG P' m' (Gl l' base) w'=.go (Gl d base) r f)/\WR k m.w r/\Kept ρ k c.w w' m.w r/\EvW c.w k l f/\GoR P P' k m.l d:=by
 obtain⟨a,D,H⟩:=axq (P:=P) (P':=P') T X C true m' y K x;have b:c.l≠[]:=λe=>by rw[e] at y;cases y
 rcases H with H|⟨k,O,s,l,d,r,f,G,Q,M,F,J,N,I,L⟩
 .exfalso;have B:=H [kq P] (λi q=>if i<c.w.drawn then c.t i q else a i q) λi q p _=>da (by omega);obtain⟨n,U,V,j,v, -⟩:=z (λi q=>if i<c.w.drawn then c.t i q else a i q) λi q p=>eg p;cases n with
  |zero=>
   simp only[runN,qQ] at j;obtain⟨e, -⟩:=ik j;obtain rfl:=nK b v.ne e;exact x v
  |succ n=>
   unfold runN at j;rcases aol B with⟨o,w,l,e⟩|⟨g,w,l,e,u⟩
   .rw[cG (jz b _) e] at j;cases j
   .rw[dQ (jz b _) e] at j;exact u n _ _ j (v.fin _)
 .have A:aey P c ⟨O,s,λi q=>if i<c.w.drawn then c.t i q else a i q⟩:=
   ⟨b,x,by show c.w.drawn<=s.drawn;omega,λi q p=>eg p,l,λbase t E=>G base t λi q p S=>by
    rw[E i q (by show i<s.drawn;omega)];exact da (by omega)⟩
  exact⟨_,k,d,r,l,f,A,z.step A,M,F,J,N,I,L⟩
end
section
variable {P P':Program} {ρ:Ren}
def adf:∀(n t:Nat) (acc:Array Value),(∀v∈acc.toList,dt v)->∀v∈(Extern.BytealgMakeNoZero.digits n t acc).toList,dt v
 |0,_,acc,h=>h
 |n+1,t,acc,h=>by
  unfold Extern.BytealgMakeNoZero.digits;refine adf n _ _ λv a=> ?_;rw[rT,oR] at a;rcases a with a|a
  .exact h v a
  .simp at a;subst a;exact λ_=>.int _ _
def abS(T:Twin P P')(i f:Array TypeId){a : Array Value}(h:dw ρ a W):az P P' VR ρ (Extern.BytealgMakeNoZero.makeNoZero i f a) (Extern.BytealgMakeNoZero.makeNoZero i f W):=by
 unfold Extern.BytealgMakeNoZero.makeNoZero;obtain⟨a⟩:=a;obtain⟨W⟩:=W;have h:bU ρ a W:=h;cases h with
 |nil=>exact .halt _ _
 |cons j o=>
  cases o with
  |cons=>cases j<;>exact .halt _ _
  |nil=>
   cases j with
   |int k n=>
    cases k<;>try exact .halt _ _
    dsimp only;cases f[0]? with
    |none=>exact .halt _ _
    |some t=>
     dsimp only;refine aj (aG T t) λE d A D hd=> ?_;obtain⟨rfl, -⟩:=hd;cases d with
     |slice e=>
      dsimp only;refine aW (λ_=>dY _) λ_=> ?_;refine aj (iY _) λB c l w q=> ?_;obtain rfl:c=l:=q;refine aj (akb c) λx _ _ C _=> ?_;refine aj (iY _) λs b m z q=> ?_;obtain rfl:b=m:=q;refine aj (oY e (bU.kP λv g=>adf _ _ _ (λv g=>by cases g) v g _)) λy r u F p=> ?_;exact ak (.slice (.some p) _ _)
     |_=>exact .halt _ _
   |_=>exact .halt _ _
def adg:∀(n:Nat) {ρ:Ren} {a c:Addr} (acc:ByteArray),AR ρ a c->az P P' jG ρ (Extern.Bytes.loadBytes a n acc) (Extern.Bytes.loadBytes c n acc)
 |0,_,_,_,_,_=>ak rfl
 |n+1,ρ,a,c,acc,h=>by
  unfold Extern.Bytes.loadBytes;refine aj (apL .plain h) λg v f e d=> ?_;cases d with
  |int k b=>
   cases k<;>first|exact adg n _ ((h.mono e).add 1)|exact .halt _ _
  |_=>exact .halt _ _
def adh{a : Array Value}(h:dw ρ a W):az P P' VR ρ (Extern.BytealgIndexByte.indexByte a) (Extern.BytealgIndexByte.indexByte W):=by
 unfold Extern.BytealgIndexByte.indexByte;obtain⟨a⟩:=a;obtain⟨W⟩:=W;have h:bU ρ a W:=h;cases h with
 |nil=>exact .halt _ _
 |cons m d=>
  cases d with
  |nil=>exact .halt _ _
  |cons g d=>
   cases d with
   |cons=>exact .halt _ _
   |nil=>
    refine aj (A:=jG) ?_ λr b j q e=> ?_
    .cases m with
     |string s=>exact ak rfl
     |slice f l c=>cases f with
      |none=>exact ak rfl
      |some f=>exact adg _ _ f
     |_=>exact .halt _ _
    .obtain rfl:b=j:=e;refine aj (A:=jG) ?_ λo c i p e=> ?_
     .cases g with
      |int k n=>cases k<;>first|exact ak rfl|exact .halt _ _
      |_=>exact .halt _ _
     .obtain rfl:c=i:=e;split
      .exact ak (.int _ _)
      .exact ak (.int _ _)
end
noncomputable def akL(f:Nat):Bool:=match prog.funcs[f]? with
 |some fn=>!alw prog f||fn.body.isSome||f ==148||f ==166
 |none=>true
def af7{f:Nat}{fn:Func}(h:prog.funcs[f]?=some fn)(a:akL f=true):(!alw prog f||fn.body.isSome||f ==148||f ==166)=true:=by
 unfold akL at a;generalize prog.funcs[f]?=q at h a;subst h;exact a
def aez:(List.range prog.funcs.size).all akL=true:=by kernel_rfl
def amT:f148.body.isNone=true:=by kernel_rfl
def amU:f166.body.isNone=true:=by kernel_rfl
def amV:Extern.findNext f148=none:=by kernel_rfl
def adi:Extern.findNext f166=none:=by kernel_rfl
def amW:Extern.find f148=some (Extern.BytealgMakeNoZero.makeNoZero f148.params f148.resultTypes):=by kernel_rfl
def amX:Extern.find f166=some Extern.BytealgIndexByte.indexByte:=by kernel_rfl
def acA:Extern.next "fmt's door" =none:=by kernel_rfl
def abT {P' : Program} {ρ:Ren} {fn b:Func} {e:Array Value->Sem Value} (r:P.funcs[f]?=some fn) (i:P'.funcs[f]?=some b) (g:fn.body.isNone=true) (k:b.body.isNone=true)
  (q:(fn.name == "runtime.NumGoroutine")=false) (t:(b.name == "runtime.NumGoroutine")=false) (s:Extern.findNext fn=none) (x2:Extern.findNext b=none) (n:Extern.find fn=some e) (u:Extern.find b=some e)
  (o:∀(c:Ren) a W,dw c a W->az P P' VR c (e a) (e W)) {a : Array Value} (h:dw ρ a W):az P P' iE ρ (callFunc f a) (callFunc f W):=by
 unfold callFunc;refine aj dr λc p v m d=> ?_;obtain⟨rfl,rfl⟩:=d;rw[r,i];dsimp only;rw[q,t,g,k];simp only[lc,qL,pv];refine aj (apM (.extern f)) λj _ _ l _=> ?_;rw[s,x2,n,u];exact bG (o j _ _ (bU.mono (m.trans l) h))
def avV(β:Bool):ah7 (ai β) prog:=λf fn d i k o a j h=>by
 obtain⟨p,b,n⟩:=ag2 β f fn d;obtain rfl:=n.none i;have g:=(dl.1 b).1;have c:=lP.1 aez f (qz.2 g);have c:=af7 b c;have m:alw prog f=true:=by
  have:gA f=alw prog f:=by unfold gA;rfl
  rw[<-this];exact k
 rw[m,i] at c;simp only[vE,tF,vD,uC,rj,oE] at c;rcases c with rfl|rfl
 .have e:=b.symm.trans func148;obtain rfl:=dq e;exact abT d func148 amT amT (cM func148) (cM func148) amV amV amW amW (λl a j h=>abS (mr β) _ _ h) h
 .have e:=b.symm.trans func166;obtain rfl:=dq e;exact abT d func166 amU amU (cM func166) (cM func166) adi adi amX amX (λl a j h=>adh h) h
def aaE{args:Array Value}{t0:Tape}{Post:Value->World->Prop}(h:∀t:Tape,(∀i q,i<w.drawn->t i q=t0 i q)->Calls P f args (w.dV t) λe b=>∃v,e=.returned v/\Post v b) :
  kh P (λl b=>∃a v,l=[a]/\a.fn=f/\a.leaving P b (.returned v)/\Post v b) ⟨[Frame.enter P f args .normal],w,t0⟩:=λt j=>by
 obtain⟨e,b,a,⟨v,rfl,d⟩,⟨n,k⟩,g,c⟩:=h t j [kq P];refine⟨n,[a],b,k,⟨a,rfl,c.1,c.2.1,c.2.2.1⟩,a,v,rfl,g,c,d⟩
end
section
open Go.RowKit
def ag4{k:IntKind}{a b:Int}(h:a=b):Ending.returned (.int k a)=.returned (.int k b):=by rw[h]
def aB{a b:Bool}(h:a=b):Ending.returned (.bool a)=.returned (.bool b):=by rw[h]
structure bh (S:Nat->Prop) (w w':World):Prop where
 os:w'.os=w.os
 tape:w'.tape=w.tape
 output:w'.output=w.output
 size:w.heap.size<=w'.heap.size
 block:∀k,k<w.heap.size->¬S k->w'.heap[k]?=w.heap[k]?
def bh.refl(S:Nat->Prop)(w:World):bh S w w:=⟨rfl,rfl,rfl,am _,λ_ _ _=>rfl⟩
def bh.trans{T : Nat->Prop}{b c : World}(h:bh S a b)(k:bh T b c)(f:∀i,i<a.heap.size->T i->S i):bh S a c:=
 ⟨k.os.trans h.os,k.tape.trans h.tape,k.output.trans h.output,ap h.size k.size,
  λi d e=>(k.block i (bd d h.size) (λg=>e (f i d g))).trans (h.block i d e)⟩
def bh.mono{T : Nat->Prop}{b : World}(h:bh S a b)(d:∀i,i<a.heap.size->S i->T i):bh T a b:=
 ⟨h.os,h.tape,h.output,h.size,λi c f=>h.block i c λe=>f (d i c e)⟩
def bh.below(h:bh S w w')(c:B<=w.heap.size)(b:∀i,i<B->¬S i):Below B w w':=
 ⟨h.os,h.tape,h.output,h.size,λk a=>h.block k (bd a c) (b k a)⟩
def bh.aM(h:Below w.heap.size w w'):bh S w w':=
 ⟨h.os,h.tape,h.output,h.size,λk a _=>h.block k a⟩
def bh.alloc(h:bh S a w)(o:Obj):bh S a (w.alloc o):=
 ⟨h.os,h.tape,h.output,ap h.size (by simp),λi c b=>(rI w o i (bd c h.size)).trans (h.block i c b)⟩
def bh.drew(h:bh S a w):bh S a w.drew:=⟨h.os,h.tape,h.output,h.size,h.block⟩
def bh.drewN(h:bh S a w)(n:Nat):bh S a (w.drewN n):=⟨h.os,h.tape,h.output,h.size,h.block⟩
def bh.setCell(h:bh S a w){p:Addr}(b:S p.block\/a.heap.size<=p.block)(u:Value):bh S a (w.setCell p u):=
 ⟨h.os,h.tape,h.output,by simpa[World.setCell] using h.size,λi d c=>(iS w p u i (by
  rintro rfl;rcases b with b|b
  .exact c b
  .omega)).trans (h.block i d c)⟩
def ag(h:Below a.heap.size a w)(b:Below w.heap.size w w'):Below a.heap.size a w':=h.trans (b.mono h.size)
def sM(h:Below B a w)(n:Nat):Below B a (w.drewN n):=⟨h.os,h.tape,h.output,h.size,h.block⟩
abbrev fW(α:Type):=World->Nat->Nat->α->List Value->Prop
structure Lcy {α:Type} (E:fW α):Prop where
 go:∀{w w':World} {lo hi fg hi':Nat} {x:α} {cs:List Value},
  (∀b,lo<=b->b<hi->w'.heap[b]?=w.heap[b]?)->fg<=lo->hi<=hi'->E w lo hi x cs->E w' fg hi' x cs
def cE(x:Int):Prop:= -9223372036854775808<=x/\x<=9223372036854775807
def aaq:fW Int:=λ_ _ _ x a=>a=[.int .i64 x]/\cE x
def iG:fW Int:=λ_ _ _ x a=>a=[.int .u8 x]/\0<=x/\x<256
def aaq.loc:Lcy aaq:=⟨λ_ _ _ h=>h⟩
def iG.loc:Lcy iG:=⟨λ_ _ _ h=>h⟩
def bB{α:Type}(E:fW α)(sz:Nat):fW (List α):=λw f g d k=>
 ∃(A:Option Addr) (c:Nat),k=[.slice A d.length c]/\d.length<=c/\c<=maxLen/\
  (0<d.length->∃b a,A=some ⟨b,a,none⟩/\f<=b/\b<g/\
   ∀i x,d[i]?=some x->∃e:List Value,e.length=sz/\E w f g x e/\∀j u,e[j]?=some u->w.cell? ⟨b,a+i*sz+j,none⟩=some u)
def bB.loc{E:fW Y}(p:Lcy E) :Lcy (bB E Z):=by
 refine⟨?_⟩;intro w B H G F d D C m e n ⟨A,c,g,o,y,h⟩;refine⟨A,c,g,o,y,λq=> ?_⟩;obtain⟨b,f,rfl,l,k,v⟩:=h q;refine⟨b,f,rfl,ap e l,bd k n,λi x d=> ?_⟩;obtain⟨s,r,z,a⟩:=v i x d;exact⟨s,r,p.go m e n z,λj u t=>(qy (m b l k)).trans (a j u t)⟩
def Lcy.below{E:fW Y}(c:Lcy E){cs:List Value}(h:E w Z hi x cs)(e:Below B w w')(d:hi<=B):E w' Z hi x cs:=
 c.go (λb _ a=>e.block b (bd a d)) (am _) (am _) h
def Lcy.fe{E:fW Y}(e:Lcy E){cs:List Value}(h:E w Z hi x cs)(f:bh S w w')(a:∀b,Z<=b->b<hi->b<w.heap.size/\¬S b):E w' Z hi x cs:=
 e.go (λb d c=>f.block b (a b d c).1 (a b d c).2) (am _) (am _) h
def Lcy.wide{E:fW Y}(a:Lcy E){fg hi' : Nat}{cs:List Value}(h:E w Z hi x cs)(c:fg<=Z)(b:hi<=hi'):E w fg hi' x cs:=
 a.go (λ_ _ _=>rfl) c b h
def bB.at_{E:fW Y}(h:bB E Z w Q hi xs [.slice A n c])(g:xs[k]?=some x) :
  ∃b a e,A=some ⟨b,a,none⟩/\Q<=b/\b<hi/\e.length=Z/\E w Q hi x e/\∀j u,e[j]?=some u->w.cell? ⟨b,a+k*Z+j,none⟩=some u:=by
 obtain⟨A',r,f,s,t,i⟩:=h;simp only[qj,nF,qx] at f;obtain⟨rfl,rfl,rfl⟩:=f;have l:k<xs.length:=by
  rcases pr k xs.length with h|h
  .exact h
  .rw[rq h] at g;cases g
 obtain⟨b,a,rfl,o,m,i⟩:=i (by omega);obtain⟨e,p,q,d⟩:=i k x g;exact⟨b,a,e,rfl,o,m,p,q,d⟩
def bB.ints_at{xs:List Int}(h:bB aaq 1 w Z hi xs [.slice A n c]){x:Int}(f:xs[k]?=some x) :
  ∃b a,A=some ⟨b,a,none⟩/\Z<=b/\b<hi/\cE x/\w.cell? ⟨b,a+k,none⟩=some (.int .i64 x):=by
 obtain⟨b,a,l,rfl,g,e,j,⟨rfl,d⟩,i⟩:=h.at_ f;exact⟨b,a,rfl,g,e,d,by simpa using i 0 _ rfl⟩
def bB.aeA{xs:List Int}(h:bB iG 1 w Z hi xs [.slice A n c]){x:Int}(f:xs[k]?=some x) :
  ∃b a,A=some ⟨b,a,none⟩/\Z<=b/\b<hi/\(0<=x/\x<256)/\w.cell? ⟨b,a+k,none⟩=some (.int .u8 x):=by
 obtain⟨b,a,l,rfl,g,e,j,⟨rfl,d⟩,i⟩:=h.at_ f;exact⟨b,a,rfl,g,e,d,by simpa using i 0 _ rfl⟩
def bB.len_{E:fW Y}(h:bB E Z w Q hi xs [.slice A n c]):n=xs.length/\n<=c/\c<=maxLen:=by
 obtain⟨A',e,a,d,b,f⟩:=h;simp only[qj,nF,qx] at a;obtain⟨rfl,rfl,rfl⟩:=a;exact⟨rfl,d,b⟩
def bB.form{E:fW Y}(h:bB E Z w Q hi xs [v]):∃A c,v=.slice A xs.length c:=by
 obtain⟨A',d,a,e,b,f⟩:=h;simp only[qj,qx] at a;exact⟨_,_,a⟩
def aq{l:List Y}(h:k<l.length):∃x,l[k]?=some x:=⟨l[k],jp h⟩
def aD{l:List Y}(h:l[k]?=some x):k<l.length:=by
 rcases pr k l.length with a|a
 .exact a
 .rw[rq a] at h;cases h
def aae{α:Type}{P:List α->Prop}(h0:P [])(h1:∀l a,P l->P (l++[a]))(l:List α):P l:=by
 rw[<-l.reverse_reverse]
 induction l.reverse with
 |nil=>exact h0
 |cons a t b=>rw[List.reverse_cons];exact h1 _ _ b
def li{l:List Y}(h:l[k]?=some x):l.take (k+1)=l.take k++[x]:=by
 rw[List.take_add_one,h];rfl
def aX(w:World)(g:Nat)(t:TypeId)(cs:Array Value):Prop:=w.heap[g]?=some (.cells cs t (0,0))
section
variable {w w':World} {g:Nat} {t:TypeId} {cs:Array Value}
def aX.lt(h:aX w g t cs):g<w.heap.size:=by
 rcases pr g w.heap.size with a|b
 .exact a
 .unfold aX at h;rw[qk b] at h;cases h
def aX.cell(h:aX w g t cs)(i:Nat):w.cell? ⟨g,i,none⟩=cs[i]?:=cell_of_row w g i cs t (0,0) h
def aX.frozen(h:aX w g t cs)(i:Nat):w.frozen? ⟨g,i,none⟩=false:=by
 unfold aX at h;simp[World.frozen?,h]
def aX.new(w:World)(t:TypeId)(cs:Array Value):aX (w.alloc (.cells cs t)) w.heap.size t cs:=heap_alloc_new w _
def aX.bj(h:aX w g t cs)(i:Nat)(u:Value):aX (w.setCell ⟨g,i,none⟩ u) g t (cs.setIfInBounds i u):=by
 unfold aX at h ⊢;simp[World.setCell,pm,h]
def aX.drew(h:aX w g t cs):aX w.drew g t cs:=h
end
section
variable {w w':World} {g N:Nat} {t:TypeId} {vs:List Value}
end
def bB.aqz{E:fW Y}{cs:List Value}(h:bB E Z w Q hi xs cs):∀x∈xs,∃a,E w Q hi x a:=by
 obtain⟨A,c,g,m,l,f⟩:=h;intro x j;obtain⟨i,hi⟩:=rE.1 j;obtain⟨b,e,_,_,_,d⟩:=f (by have:=aD hi;omega);obtain⟨a,_,k,_⟩:=d i x hi;exact⟨a,k⟩
def bB.akM{xs:List Int}{cs:List Value}(h:bB aaq 1 w Z hi xs cs):∀x∈xs,cE x:=λx b=>by
 obtain⟨c,a⟩:=h.aqz x b;exact a.2
section
variable {w:World} {g:Nat} {t:TypeId} {n:Nat} {f f':Nat->Int}
end
end
section
section
variable (P:Program) (fs:Array Func)
def abU(t:TypeId)(w:World):(underlying t).run {P with funcs:=fs} w=(underlying t).run P w:=by
 show Sem.run _ (match({P with funcs:=fs}:Program).underlying t with|some d=>pure d|none=>stuck "no such type") w=Sem.run P (match P.underlying t with|some d=>pure d|none=>stuck "no such type") w;rw[cP];cases P.underlying t<;>rfl
def aa1(t:TypeId)(w:World):(typeInfo t).run {P with funcs:=fs} w=(typeInfo t).run P w:=by
 show Sem.run _ (match({P with funcs:=fs}:Program).info? t with|some d=>pure d|none=>stuck "no such type") w=Sem.run P (match P.info? t with|some d=>pure d|none=>stuck "no such type") w;rw[ko];cases P.info? t<;>rfl
def aqA{β : Type}(P Q:Program)(s:Sem Y)(f:Y->Sem β)(w:World)(h:s.run Q w=s.run P w)(b:∀a w,(f a).run Q w=(f a).run P w):(s.bind f).run Q w=(s.bind f).run P w:=by
 have c:=qW Q s f w;have e:=qW P s f w;exact c.trans ((jt (λr=>Result.andThen r λa d=>(f a).run Q d) h).trans ((jt (λF=>Result.andThen (s.run P w) F) (funext λa=>funext λw=>b a w)).trans e.symm))
def akN{β : Type}(s:Sem Y)(f:Y->Sem β)(w:World)(h:s.run {P with funcs:=fs} w=s.run P w)(b:∀a w,(f a).run {P with funcs:=fs} w=(f a).run P w):(s.bind f).run {P with funcs:=fs} w=(s.bind f).run P w:=aqA P _ s f w h b
def aqB(t:TypeId)(w:World):(sizeOf t).run {P with funcs:=fs} w=(sizeOf t).run P w:=akN P fs _ _ w (aa1 P fs t w) λ_ _=>rfl
def aiH(t:TypeId)(w:World):(zeroValue t).run {P with funcs:=fs} w=(zeroValue t).run P w:=akN P fs _ _ w (aa1 P fs t w) λi w=>by
 cases i.zero<;>rfl
def at5(t:TypeId)(w:World):(isAgg t).run {P with funcs:=fs} w=(isAgg t).run P w:=akN P fs _ _ w (abU P fs t w) λd w=>by
 cases d<;>rfl
end
variable {β:Bool}
@[simp,go_sem] theorem as3(t:TypeId)(w:World):(underlying t).run (ai β) w=(underlying t).run prog w:=abU prog (mJ β) t w
@[simp,go_sem] theorem awj(t:TypeId)(w:World):(typeInfo t).run (ai β) w=(typeInfo t).run prog w:=aa1 prog (mJ β) t w
@[simp,go_sem] theorem ay3(t:TypeId)(w:World):(sizeOf t).run (ai β) w=(sizeOf t).run prog w:=aqB prog (mJ β) t w
@[simp,go_sem] theorem at6(t:TypeId)(w:World):(zeroValue t).run (ai β) w=(zeroValue t).run prog w:=aiH prog (mJ β) t w
@[simp,go_sem] theorem azJ(t:TypeId)(w:World):(isAgg t).run (ai β) w=(isAgg t).run prog w:=at5 prog (mJ β) t w
@[simp,go_sem] theorem di(t:TypeId):(ai β).underlying t=prog.underlying t:=cP prog (mJ β) t
@[simp,go_sem] theorem azK(t:TypeId):(ai β).stoodInHeld t=prog.stoodInHeld t:=adW prog (mJ β) t
@[simp,go_sem] theorem azL(d:Nat)(t:TypeId):(ai β).eqGuardType d t=prog.eqGuardType d t:=ag1 prog (mJ β) d t
@[simp,go_sem] theorem azM:(ai β).depth=prog.depth:=adU prog (mJ β)
abbrev ag5:List Nat:=[57,76,77,80,121,139,150,175,2,106,107,109,110,116,178,208]
noncomputable def axu(f:Nat):Bool:=ag5.contains f||match prog.funcs[f]? with
 |some fn=>match fn.body with
  |some c=>fX prog gA gL c
  |none=>true
 |none=>true
def aqC:(List.range prog.funcs.size).all axu=true:=by kernel_rfl
def at7{f:Nat}{fn:Func}(h:prog.funcs[f]?=some fn)(a:axu f=true)(b:ag5.contains f=false):∀c,fn.body=some c->fX prog gA gL c=true:=by
 unfold axu at a;rw[b] at a;generalize prog.funcs[f]?=q at h a;subst h;intro c d;simp only[d,uC] at a;exact a
def aw{f:Nat}{fn:Func}(h:prog.funcs[f]?=some fn)(d:ag5.contains f=false):(ai β).funcs[f]?=some fn:=by
 have b:=(dl.1 h).1;have k:=at7 h (lP.1 aqC f (qz.2 b)) d;have i:f≠nCC:=λe=>by subst e;revert d;decide
 have g:f≠cF:=λe=>by subst e;revert d;decide
 have j:pf fn=fn:=by
  unfold pf;cases a:fn.body with
  |none=>cases fn;dsimp only at a;subst a;rfl
  |some c=>
   have:gP c=c:=by unfold gP;exact ahZ _ _ _ _ c (k c a)
   cases fn;dsimp only at a;subst a;show _=_;simp only[qs,this]
 refine(akI β i g).trans ?_;have e:Option.map pf (prog.funcs[f]?)=Option.map pf (some fn):=jt _ h;rw[e,qs,j]
def ly{fn:Func}(h:P.funcs[f]?=some fn)(d:(fn.name == "runtime.NumGoroutine")=false)(a:fn.body.isSome=true)(args:Array Value)(w:World):(callFunc f args).run P w=.ok (.enter f args) w:=by
 show Sem.run P (match P.funcs[f]? with|none=>_|some fn=>_) w=_;rw[h];obtain⟨c,b⟩:=rF.1 a;simp only[d,b,Option.isNone_some];rfl
def aA{f:Nat}{fn:Func}(h:prog.funcs[f]?=some fn)(a:ag5.contains f=false)(b:fn.body.isSome=true)(args:Array Value)(w:World):(callFunc f args).run (ai β) w=.ok (.enter f args) w:=ly (aw h a) (cM h) b args w
end
section
variable {β:Bool}
def qF3:=aw (β:=β) func3 (by decide)
def qF4:=aw (β:=β) func4 (by decide)
def qF5:=aw (β:=β) func5 (by decide)
def qF6:=aw (β:=β) func6 (by decide)
def qF7:=aw (β:=β) func7 (by decide)
def qF8:=aw (β:=β) func8 (by decide)
def qF9:=aw (β:=β) func9 (by decide)
def Au:=aw (β:=β) func10 (by decide)
def An:=aw (β:=β) func11 (by decide)
def yl:=aw (β:=β) func12 (by decide)
def Am:=aw (β:=β) func13 (by decide)
def Ak:=aw (β:=β) func14 (by decide)
def Aj:=aw (β:=β) func15 (by decide)
def Ah:=aw (β:=β) func16 (by decide)
def Ag:=aw (β:=β) func17 (by decide)
def Af:=aw (β:=β) func18 (by decide)
def Ad:=aw (β:=β) func19 (by decide)
def Ac:=aw (β:=β) func20 (by decide)
def yk:=aw (β:=β) func21 (by decide)
def yj:=aw (β:=β) func22 (by decide)
def A7:=aw (β:=β) func23 (by decide)
def zZ:=aw (β:=β) func24 (by decide)
def zY:=aw (β:=β) func25 (by decide)
def zX:=aw (β:=β) func26 (by decide)
def yi:=aw (β:=β) func27 (by decide)
def yh:=aw (β:=β) func28 (by decide)
def yg:=aw (β:=β) func29 (by decide)
def zW:=aw (β:=β) func30 (by decide)
def zV:=aw (β:=β) func31 (by decide)
def xe:=aw (β:=β) func32 (by decide)
def zU:=aw (β:=β) func33 (by decide)
def zT:=aw (β:=β) func34 (by decide)
def zS:=aw (β:=β) func35 (by decide)
def zR:=aw (β:=β) func36 (by decide)
def zQ:=aw (β:=β) func37 (by decide)
def zP:=aw (β:=β) func38 (by decide)
def zO:=aw (β:=β) func39 (by decide)
def zN:=aw (β:=β) func40 (by decide)
def yf:=aw (β:=β) func41 (by decide)
def ye:=aw (β:=β) func42 (by decide)
def zM:=aw (β:=β) func43 (by decide)
def yd:=aw (β:=β) func44 (by decide)
def xd:=aw (β:=β) func45 (by decide)
def zL:=aw (β:=β) func46 (by decide)
def yc:=aw (β:=β) func47 (by decide)
def yb:=aw (β:=β) func48 (by decide)
def ya:=aw (β:=β) func49 (by decide)
def xZ:=aw (β:=β) func50 (by decide)
def xc:=aw (β:=β) func51 (by decide)
def xY:=aw (β:=β) func52 (by decide)
def xX:=aw (β:=β) func53 (by decide)
def xW:=aw (β:=β) func54 (by decide)
def xV:=aw (β:=β) func55 (by decide)
def zK:=aw (β:=β) func56 (by decide)
def zJ:=aw (β:=β) func58 (by decide)
def zI:=aw (β:=β) func59 (by decide)
def zH:=aw (β:=β) func60 (by decide)
def zG:=aw (β:=β) func61 (by decide)
def zF:=aw (β:=β) func62 (by decide)
def zE:=aw (β:=β) func63 (by decide)
def zD:=aw (β:=β) func64 (by decide)
def zC:=aw (β:=β) func65 (by decide)
def zB:=aw (β:=β) func66 (by decide)
def wV:=aw (β:=β) func67 (by decide)
def xU:=aw (β:=β) func68 (by decide)
def zA:=aw (β:=β) func69 (by decide)
def zv:=aw (β:=β) func70 (by decide)
def xT:=aw (β:=β) func71 (by decide)
def xS:=aw (β:=β) func72 (by decide)
def zu:=aw (β:=β) func73 (by decide)
def xR:=aw (β:=β) func74 (by decide)
def xQ:=aw (β:=β) func75 (by decide)
def zt:=aw (β:=β) func79 (by decide)
def xy:=aw (β:=β) func81 (by decide)
def xP:=aw (β:=β) func82 (by decide)
def zp:=aw (β:=β) func83 (by decide)
def zn:=aw (β:=β) func84 (by decide)
def zm:=aw (β:=β) func85 (by decide)
def zl:=aw (β:=β) func86 (by decide)
def xO:=aw (β:=β) func87 (by decide)
def zj:=aw (β:=β) func88 (by decide)
def xN:=aw (β:=β) func89 (by decide)
def zi:=aw (β:=β) func90 (by decide)
def zh:=aw (β:=β) func91 (by decide)
def zg:=aw (β:=β) func92 (by decide)
def zf:=aw (β:=β) func93 (by decide)
def ze:=aw (β:=β) func94 (by decide)
def zd:=aw (β:=β) func95 (by decide)
def zc:=aw (β:=β) func96 (by decide)
def yZ:=aw (β:=β) func97 (by decide)
def xw:=aw (β:=β) func98 (by decide)
def yY:=aw (β:=β) func99 (by decide)
def yU:=aw (β:=β) func113 (by decide)
def yT:=aw (β:=β) func119 (by decide)
def yS:=aw (β:=β) func120 (by decide)
def yR:=aw (β:=β) func122 (by decide)
def yQ:=aw (β:=β) func123 (by decide)
def yP:=aw (β:=β) func124 (by decide)
def wU:=aw (β:=β) func125 (by decide)
def yO:=aw (β:=β) func126 (by decide)
def xi:=aw (β:=β) func127 (by decide)
def yN:=aw (β:=β) func128 (by decide)
def yM:=aw (β:=β) func129 (by decide)
def wO:=aw (β:=β) func130 (by decide)
def yL:=aw (β:=β) func135 (by decide)
def xh:=aw (β:=β) func136 (by decide)
def yK:=aw (β:=β) func137 (by decide)
def yJ:=aw (β:=β) func140 (by decide)
def xD:=aw (β:=β) func141 (by decide)
def yI:=aw (β:=β) func142 (by decide)
def xC:=aw (β:=β) func143 (by decide)
def yH:=aw (β:=β) func144 (by decide)
def yG:=aw (β:=β) func145 (by decide)
def yF:=aw (β:=β) func146 (by decide)
def yE:=aw (β:=β) func148 (by decide)
def yD:=aw (β:=β) func149 (by decide)
def yC:=aw (β:=β) func151 (by decide)
def xB:=aw (β:=β) func152 (by decide)
def xg:=aw (β:=β) func153 (by decide)
def yB:=aw (β:=β) func154 (by decide)
def yA:=aw (β:=β) func155 (by decide)
def yz:=aw (β:=β) func156 (by decide)
def yy:=aw (β:=β) func160 (by decide)
def xf:=aw (β:=β) func164 (by decide)
def yx:=aw (β:=β) func165 (by decide)
def yw:=aw (β:=β) func166 (by decide)
def yv:=aw (β:=β) func171 (by decide)
def yu:=aw (β:=β) func172 (by decide)
def yr:=aw (β:=β) func177 (by decide)
@[go_sem] def qC4:=aA (β:=β) func4 (by decide) rfl
@[go_sem] def qC5:=aA (β:=β) func5 (by decide) rfl
@[go_sem] def qC6:=aA (β:=β) func6 (by decide) rfl
@[go_sem] def qC7:=aA (β:=β) func7 (by decide) rfl
@[go_sem] def qC8:=aA (β:=β) func8 (by decide) rfl
@[go_sem] def qC9:=aA (β:=β) func9 (by decide) rfl
@[go_sem] def qC10:=aA (β:=β) func10 (by decide) rfl
@[go_sem] def qC11:=aA (β:=β) func11 (by decide) rfl
@[go_sem] def qC12:=aA (β:=β) func12 (by decide) rfl
@[go_sem] def qC13:=aA (β:=β) func13 (by decide) rfl
@[go_sem] def qC14:=aA (β:=β) func14 (by decide) rfl
@[go_sem] def qC15:=aA (β:=β) func15 (by decide) rfl
@[go_sem] def qC16:=aA (β:=β) func16 (by decide) rfl
@[go_sem] def qC17:=aA (β:=β) func17 (by decide) rfl
@[go_sem] def qC18:=aA (β:=β) func18 (by decide) rfl
@[go_sem] def qC19:=aA (β:=β) func19 (by decide) rfl
@[go_sem] def qC20:=aA (β:=β) func20 (by decide) rfl
@[go_sem] def qC21:=aA (β:=β) func21 (by decide) rfl
@[go_sem] def qC22:=aA (β:=β) func22 (by decide) rfl
@[go_sem] def qC23:=aA (β:=β) func23 (by decide) rfl
@[go_sem] def qC24:=aA (β:=β) func24 (by decide) rfl
@[go_sem] def qC25:=aA (β:=β) func25 (by decide) rfl
@[go_sem] def qC26:=aA (β:=β) func26 (by decide) rfl
@[go_sem] def qC27:=aA (β:=β) func27 (by decide) rfl
@[go_sem] def qC28:=aA (β:=β) func28 (by decide) rfl
@[go_sem] def qC29:=aA (β:=β) func29 (by decide) rfl
@[go_sem] def qC30:=aA (β:=β) func30 (by decide) rfl
@[go_sem] def qC31:=aA (β:=β) func31 (by decide) rfl
@[go_sem] def qC32:=aA (β:=β) func32 (by decide) rfl
@[go_sem] def qC33:=aA (β:=β) func33 (by decide) rfl
@[go_sem] def qC34:=aA (β:=β) func34 (by decide) rfl
@[go_sem] def qC35:=aA (β:=β) func35 (by decide) rfl
@[go_sem] def qC36:=aA (β:=β) func36 (by decide) rfl
@[go_sem] def qC37:=aA (β:=β) func37 (by decide) rfl
@[go_sem] def qC38:=aA (β:=β) func38 (by decide) rfl
@[go_sem] def qC39:=aA (β:=β) func39 (by decide) rfl
@[go_sem] def qC40:=aA (β:=β) func40 (by decide) rfl
@[go_sem] def qC41:=aA (β:=β) func41 (by decide) rfl
@[go_sem] def qC43:=aA (β:=β) func43 (by decide) rfl
@[go_sem] def qC46:=aA (β:=β) func46 (by decide) rfl
@[go_sem] def qC48:=aA (β:=β) func48 (by decide) rfl
@[go_sem] def qC53:=aA (β:=β) func53 (by decide) rfl
@[go_sem] def qC54:=aA (β:=β) func54 (by decide) rfl
@[go_sem] def qC55:=aA (β:=β) func55 (by decide) rfl
@[go_sem] def qC56:=aA (β:=β) func56 (by decide) rfl
@[go_sem] def qC58:=aA (β:=β) func58 (by decide) rfl
@[go_sem] def qC59:=aA (β:=β) func59 (by decide) rfl
@[go_sem] def qC60:=aA (β:=β) func60 (by decide) rfl
@[go_sem] def qC61:=aA (β:=β) func61 (by decide) rfl
@[go_sem] def qC62:=aA (β:=β) func62 (by decide) rfl
@[go_sem] def qC63:=aA (β:=β) func63 (by decide) rfl
@[go_sem] def qC64:=aA (β:=β) func64 (by decide) rfl
@[go_sem] def qC65:=aA (β:=β) func65 (by decide) rfl
@[go_sem] def qC66:=aA (β:=β) func66 (by decide) rfl
@[go_sem] def qC67:=aA (β:=β) func67 (by decide) rfl
@[go_sem] def qC68:=aA (β:=β) func68 (by decide) rfl
@[go_sem] def qC69:=aA (β:=β) func69 (by decide) rfl
@[go_sem] def qC70:=aA (β:=β) func70 (by decide) rfl
@[go_sem] def qC71:=aA (β:=β) func71 (by decide) rfl
@[go_sem] def qC72:=aA (β:=β) func72 (by decide) rfl
@[go_sem] def qC73:=aA (β:=β) func73 (by decide) rfl
@[go_sem] def qC74:=aA (β:=β) func74 (by decide) rfl
@[go_sem] def qC75:=aA (β:=β) func75 (by decide) rfl
@[go_sem] def qC79:=aA (β:=β) func79 (by decide) rfl
@[go_sem] def qC81:=aA (β:=β) func81 (by decide) rfl
@[go_sem] def qC82:=aA (β:=β) func82 (by decide) rfl
@[go_sem] def qC83:=aA (β:=β) func83 (by decide) rfl
@[go_sem] def qC84:=aA (β:=β) func84 (by decide) rfl
@[go_sem] def qC85:=aA (β:=β) func85 (by decide) rfl
@[go_sem] def qC86:=aA (β:=β) func86 (by decide) rfl
@[go_sem] def qC87:=aA (β:=β) func87 (by decide) rfl
@[go_sem] def qC88:=aA (β:=β) func88 (by decide) rfl
@[go_sem] def qC89:=aA (β:=β) func89 (by decide) rfl
@[go_sem] def qC90:=aA (β:=β) func90 (by decide) rfl
@[go_sem] def qC91:=aA (β:=β) func91 (by decide) rfl
@[go_sem] def qC92:=aA (β:=β) func92 (by decide) rfl
@[go_sem] def qC93:=aA (β:=β) func93 (by decide) rfl
@[go_sem] def qC94:=aA (β:=β) func94 (by decide) rfl
@[go_sem] def qC95:=aA (β:=β) func95 (by decide) rfl
@[go_sem] def qC96:=aA (β:=β) func96 (by decide) rfl
@[go_sem] def qC97:=aA (β:=β) func97 (by decide) rfl
@[go_sem] def qC98:=aA (β:=β) func98 (by decide) rfl
@[go_sem] def qC99:=aA (β:=β) func99 (by decide) rfl
@[go_sem] def Be:=aA (β:=β) func113 (by decide) rfl
@[go_sem] def Bd:=aA (β:=β) func119 (by decide) rfl
@[go_sem] def Bc:=aA (β:=β) func120 (by decide) rfl
@[go_sem] def Bb:=aA (β:=β) func122 (by decide) rfl
@[go_sem] def Ba:=aA (β:=β) func123 (by decide) rfl
@[go_sem] def B9:=aA (β:=β) func124 (by decide) rfl
@[go_sem] def B7:=aA (β:=β) func125 (by decide) rfl
@[go_sem] def B6:=aA (β:=β) func126 (by decide) rfl
@[go_sem] def AZ:=aA (β:=β) func127 (by decide) rfl
@[go_sem] def AY:=aA (β:=β) func128 (by decide) rfl
@[go_sem] def AX:=aA (β:=β) func129 (by decide) rfl
@[go_sem] def AW:=aA (β:=β) func130 (by decide) rfl
@[go_sem] def AV:=aA (β:=β) func135 (by decide) rfl
@[go_sem] def AU:=aA (β:=β) func136 (by decide) rfl
@[go_sem] def AT:=aA (β:=β) func137 (by decide) rfl
@[go_sem] def AS:=aA (β:=β) func140 (by decide) rfl
@[go_sem] def AQ:=aA (β:=β) func142 (by decide) rfl
@[go_sem] def AP:=aA (β:=β) func143 (by decide) rfl
@[go_sem] def AO:=aA (β:=β) func144 (by decide) rfl
@[go_sem] def AN:=aA (β:=β) func145 (by decide) rfl
@[go_sem] def AM:=aA (β:=β) func146 (by decide) rfl
@[go_sem] def AK:=aA (β:=β) func149 (by decide) rfl
@[go_sem] def AJ:=aA (β:=β) func151 (by decide) rfl
@[go_sem] def AI:=aA (β:=β) func152 (by decide) rfl
@[go_sem] def AH:=aA (β:=β) func153 (by decide) rfl
@[go_sem] def AG:=aA (β:=β) func154 (by decide) rfl
@[go_sem] def AF:=aA (β:=β) func155 (by decide) rfl
@[go_sem] def AE:=aA (β:=β) func156 (by decide) rfl
@[go_sem] def AC:=aA (β:=β) func160 (by decide) rfl
@[go_sem] def AB:=aA (β:=β) func164 (by decide) rfl
@[go_sem] def AA:=aA (β:=β) func165 (by decide) rfl
@[go_sem] def Az:=aA (β:=β) func171 (by decide) rfl
@[go_sem] def Ax:=aA (β:=β) func172 (by decide) rfl
@[go_sem] def Aw:=aA (β:=β) func177 (by decide) rfl
def qU4:=(di (β:=β) 4).trans underlying4
def qU5:=(di (β:=β) 5).trans underlying5
def qU9:=(di (β:=β) 9).trans underlying9
def wZ:=(di (β:=β) 22).trans underlying22
def xM:=(di (β:=β) 23).trans underlying23
def xL:=(di (β:=β) 24).trans underlying24
def xv:=(di (β:=β) 25).trans underlying25
def yX:=(di (β:=β) 38).trans underlying38
def xu:=(di (β:=β) 57).trans underlying57
def xK:=(di (β:=β) 59).trans underlying59
def yW:=(di (β:=β) 61).trans underlying61
def xJ:=(di (β:=β) 68).trans underlying68
def yV:=(di (β:=β) 89).trans underlying89
def xr:=(di (β:=β) 98).trans underlying98
def yq:=(di (β:=β) 115).trans underlying115
def yp:=(di (β:=β) 127).trans underlying127
def yo:=(di (β:=β) 176).trans underlying176
def yn:=(di (β:=β) 201).trans underlying201
end
section
variable {β:Bool}
open Go.RowKit
def bs(s:ByteArray):List Nat:=s.data.toList.map UInt8.toNat
def aO(s:ByteArray):(bs s).length=s.size:=by
 unfold bs;rw[qi,qS];rfl
def aa2{s:ByteArray}(h:k<s.size):(bs s)[k]?=some (s[k]'h).toNat:=by
 unfold bs;rw[qO,fi];have:s.data[k]?=some (s.data[k]'h):=gn h;rw[this];rfl
def aqD{s:ByteArray}:∀b∈bs s,b<256:=λb a=>by
 obtain⟨u,_,rfl⟩:=qu.1 a;exact u.toNat_lt
def pC{s t:ByteArray}(h:bs s=bs t):s=t:=by
 have e:s.data.toList=t.data.toList:=by
  unfold bs at h;generalize s.data.toList=a at *;generalize t.data.toList=b at *
  induction a generalizing b with
  |nil=>cases b with
   |nil=>rfl
   |cons y b=>cases h
  |cons x a d=>cases b with
   |nil=>cases h
   |cons y b=>
    simp only[sF,qj] at h;rw[uO.1 h.1,d b h.2]
 have c:s.data=t.data:=uJ.1 e;cases s;cases t;simp only at c;rw[c]
def iI(s t:ByteArray):bs (s++t)=bs s++bs t:=by
 unfold bs;rw[<-tH,<-qe]
 congr 2
 simp
def dv(s:ByteArray)(a b:Nat):bs (s.extract a b)=((bs s).take b).drop a:=by
 unfold bs;simp only[vX,tV,vL];rw[<-List.map_take,<-List.map_drop]
 congr 1
 rw[List.take_drop];by_cases h:a<=b
 .congr 2;omega
 .have:b-a=0:=by omega
  rw[this,rU (by simp;omega),rU (by simp;omega)]
def aa3{s t:ByteArray}(h:¬t=s):(t.toList ==s.toList)=false:=by
 refine dk.2 λe=>h ?_;rw[qR,qR] at e;have a:t.data=s.data:=uJ.1 e;cases s;cases t;simp only at a;rw[a]
def pD(b:Nat):Bool:=decide (97<=b)&&decide (b<=122)
def bF(l:List Nat):Prop:=(1<=l.length/\l.length<=8)/\l.all pD=true
def eD:List Nat->Nat->Nat
 |[],n=>n
 |b::l,n=>eD l (27*n+(b-97)+1)
def code(l:List Nat):Nat:=eD l 0
def dc(key:Int)(l:List Nat):Int:=((code l:Int)*(2*key+1)+key*7919) % 999999999989
def cx(n:Nat):Nat:=if n=0\/8<n then 0 else if n<=2 then 2 else if n<=4 then 4 else 8
def gF(l:List Nat):List Nat:=l++List.replicate (cx l.length-l.length) 46
def gG:∀(a b:List Nat) (n:Nat),eD (a++b) n=eD b (eD a n)
 |[],_,_=>rfl
 |x::a,b,n=>by show eD (a++b) _=eD b (eD a _);rw[gG a b]
def aeB:∀(l:List Nat) (n:Nat),l.all pD=true->eD l n<(n+1)*27 ^ l.length
 |[],n,_=>by show n<_;simp
 |b::l,n,h=>by
  simp only[qF,ge] at h;have a:=aeB l (27*n+(b-97)+1) h.2;have c:b<=122:=by have:=h.1;unfold pD at this;simp at this;exact this.2
  show eD l _<_;refine bd a ?_;rw[gc,Nat.pow_succ,tQ (27 ^ l.length) 27,<-Nat.mul_assoc];exact qP _ (by omega)
def abV{l:List Nat}(h:bF l):code l<282429536481:=by
 have a:=aeB l 0 h.2;unfold code;have b:27 ^ l.length<=27 ^ 8:=uQ (by omega) h.1.2;have e:(27:Nat) ^ 8=282429536481:=by decide
 omega
def af8{l:List Nat}{b : Nat}(h:l[k]?=some b):code (l.take (k+1))=27*code (l.take k)+(b-97)+1:=by
 unfold code;rw[li h,gG];rfl
def aom:∀{a b:List Nat},a.all pD=true->b.all pD=true->eD a 0=eD b 0->a=b:=by
 intro a
 induction a using aae with
 |h0=>
  intro b _ c h
  induction b using aae with
  |h0=>rfl
  |h1 l x _=>rw[gG] at h;show[]=_;exfalso;have:eD [x] (eD l 0)=27*eD l 0+(x-97)+1:=rfl;have h0:eD [] 0=0:=rfl;omega
 |h1 l x g=>
  intro b d c h
  induction b using aae with
  |h0=>rw[gG] at h;exfalso;have:eD [x] (eD l 0)=27*eD l 0+(x-97)+1:=rfl;have h0:eD [] 0=0:=rfl;omega
  |h1 m y _=>
   rw[tJ] at d c;simp only[ge,qF,vQ,uD] at d c;rw[gG,gG] at h;have i:eD [x] (eD l 0)=27*eD l 0+(x-97)+1:=rfl;have j:eD [y] (eD m 0)=27*eD m 0+(y-97)+1:=rfl;have f:=d.2;have e:=c.2;unfold pD at f e;simp at f e;have:eD l 0=eD m 0/\x=y:=by omega
   rw[g d.1 c.1 this.1,this.2]
def pE{key:Int}{l:List Nat}:0<=dc key l/\dc key l<=999999999988:=by
 unfold dc;omega
def eW(l:List Nat):Nat->Nat
 |0=>0
 |n+1=>if l[n]?=some 46 then eW l n else n+1
def vI(l:List Nat):List Nat:=l.take (eW l l.length)
def acH(l:List Nat):∀n,eW l n<=n
 |0=>am _
 |n+1=>by
  unfold eW;split
  .exact Nat.le_succ_of_le (acH l n)
  .exact am _
open Classical in
noncomputable def nL(l:List Nat):Option (List Nat):=if bF (vI l)/\gF (vI l)=l then some (vI l) else none
def aaf :cx n<=8/\(n<=8->n<=cx n):=by
 unfold cx;split<;>(try split)<;>(try split)<;>omega
def aiI{l:List Nat}(h:bF l):(gF l).length=cx l.length:=by
 unfold gF;rw[aE,qE];have:=aaf.2 h.1.2;omega
def aon{l:List Nat}(h:bF l):vI (gF l)=l:=by
 have c:∀m,eW (gF l) (l.length+m)=l.length\/l.length+m>(gF l).length:=by
  intro m
  induction m with
  |zero=>
   left;obtain⟨k,f⟩:∃k,l.length=k+1:=⟨l.length-1,by have:=h.1.1;omega⟩;rw[tv,f];unfold eW;rw[da];unfold gF;rw[qw (by omega)];intro e;have:=lP.1 h.2 46 (de e);simp[pD] at this
  |succ m b=>
   by_cases a:l.length+m<(gF l).length
   .rcases b with b|b
    .left;show eW (gF l) (l.length+m+1)=_;unfold eW;rw[eg,b];unfold gF at a ⊢;rw[aE,qE] at a;rw[qm (by omega),uo,eg (by omega)]
    .omega
   .right;omega
 have d:l.length<=(gF l).length:=by unfold gF;simp
 have:=c ((gF l).length-l.length);rw[Nat.add_sub_cancel' d] at this;unfold vI;rw[this.resolve_right (by omega)];unfold gF;rw[List.take_left]
def aiJ{l:List Nat}(h:bF l):nL (gF l)=some l:=by
 unfold nL;rw[aon h,eg ⟨h,rfl⟩]
def rL(l:List Nat):ByteArray:=⟨(l.map UInt8.ofNat).toArray⟩
def amY{l:List Nat}(h:∀b∈l,b<256):bs (rL l)=l:=by
 unfold bs rL;simp only[vP]
 conv=>rhs;rw[<-List.map_id l]
 refine wG λb a=> ?_;have:=h b a;simp[UInt8.toNat_ofNat,Nat.mod_eq_of_lt this]
def azN(s:ByteArray):rL (bs s)=s:=pC (amY aqD)
def aoo{s:ByteArray}:∀b∈gF (bs s),b<256:=λb a=>by
 unfold gF at a;rcases oR.1 a with h|h
 .exact aqD b h
 .have:=List.eq_of_mem_replicate h;omega
def ag6(s:ByteArray):bs (rL (gF (bs s)))=gF (bs s):=amY aoo
end
section
variable {β:Bool}
open Go.RowKit
def lz(n a hi:Int)(w:World) :
  Calls (ai β) 22 #[.int .i64 n,.int .i64 a,.int .i64 hi] w λe c=>e=.returned (.bool (decide (a<=n)&&decide (n<=hi)))/\w=c:=by
 by_cases h:a<=n
 .go_enter yj,ntmps22;go_wp2;go_ret;exact⟨by simp[h],rfl⟩
 .go_enter yj,ntmps22;go_wp2;go_ret;have b:decide (a<=n)=false:=by simpa using h
  exact⟨by rw[b];rfl,rfl⟩
end
section
variable {β:Bool}
open Go.RowKit
def afy(s:ByteArray)(n:s.size<=maxLen)(w:World) :
  Calls (ai β) 99 #[.string s] w λe m=>e=.returned (.bool ((bs s).all pD))/\w=m:=by
 unfold maxLen at n;go_enter yY,ntmps99;go_wp2
 go_loop [3] (λi=>∃k:Nat,k<=s.size/\i=.int .i64 k/\((bs s).take k).all pD=true) (λi=>s.size-(intOf i).toNat)
 case atStart=>exact⟨0,ff _,rfl,rfl⟩
 case round=>
  obtain⟨k,p,rfl,f⟩:=hrel;replace f:=ab f;by_cases b:k<s.size
  .have d:=aa2 b;replace d:=ab d;by_cases q:(s[k]'b).toNat<97
   .have l:=dj (show((s[k]'b).toNat:Int)<97 by omega);have a:(bs s).all pD=false:=by
     rw[uw];exact⟨_,de d.out,by unfold pD;simp;omega⟩
    have c:=ab a;clear a;go_wp2;go_ret;exact⟨aB c.out.symm,rfl⟩
   .have l:=db (show ¬(((s[k]'b).toNat:Int)<97) by omega);by_cases o:122<(s[k]'b).toNat
    .have j:=dj (show 122<((s[k]'b).toNat:Int) by omega);have a:(bs s).all pD=false:=by
      rw[uw];exact⟨_,de d.out,by unfold pD;simp;omega⟩
     have c:=ab a;clear a;go_wp2;go_ret;exact⟨aB c.out.symm,rfl⟩
    .have j:=db (show ¬(122<((s[k]'b).toNat:Int)) by omega);have g:((bs s).take (k+1)).all pD=true:=by
      rw[li d.out,tJ,f.out];simp[pD];omega
     replace g:=ab g;go_wp2
     go_round
     case rel=>exact⟨k+1,by omega,by go_num,g.out⟩
     simp[intOf];omega
  .obtain rfl:k=s.size:=by omega
   have a:(bs s).all pD=true:=by
    have:=f.out
    rwa [pa (by rw[aO];exact am _)] at this
   have c:=ab a;clear a;go_wp2;go_ret;exact⟨aB c.out.symm,rfl⟩
def akO(s:ByteArray)(g:bF (bs s))(w:World) :
  Calls (ai β) 129 #[.string s] w λe o=>e=.returned (.int .i64 (code (bs s)))/\w=o:=by
 have m:=ab g;have u:s.size<=8:=by have:=g.1.2;rwa [aO] at this
 go_enter yM,ntmps129;go_wp2
 go_loop [3,4] (λn i=>∃k:Nat,k<=s.size/\i=.int .i64 k/\n=.int .i64 (code ((bs s).take k))) (λ_ i=>s.size-(intOf i).toNat)
 case atStart=>exact⟨0,ff _,rfl,rfl⟩
 case round=>
  obtain⟨k,v,rfl,rfl⟩:=hrel;by_cases a:k<s.size
  .have l:=aa2 a;have j:=lP.1 m.out.2 _ (de l);have p:97<=(s[k]'a).toNat/\(s[k]'a).toNat<=122:=by unfold pD at j;simpa using j
   have d:=af8 l;have f:code ((bs s).take (k+1))<282429536481:=by
    have y:=aeB ((bs s).take (k+1)) 0 (lP.2 λx q=>lP.1 m.out.2 x (pu q));have t:27 ^ ((bs s).take (k+1)).length<=27 ^ 8:=uQ (by omega) (by rw[fa,aO];omega);have e:(27:Nat) ^ 8=282429536481:=by decide
    unfold code;omega
   have b:=ab d;rw[d] at f;revert b f;generalize code ((bs s).take k)=c;intro f b;go_wp2
   go_round
   case rel=>exact⟨k+1,by omega,by go_num,by rw[b.out];congr 1;omega⟩
   simp[intOf];omega
  .obtain rfl:k=s.size:=by omega
   have r:(bs s).take s.size=bs s:=pa (by rw[aO];exact am _);rw[r];go_wp2;go_ret;exact⟨rfl,rfl⟩
def aa4(key:Int)(s:ByteArray)(n:1<=key/\key<=99)(d:bF (bs s))(w:World) :
  Calls (ai β) 92 #[.int .i64 key,.string s] w λe g=>e=.returned (.int .i64 (dc key (bs s)))/\w=g:=by
 have f:=abV d;have j:dc key (bs s)=((code (bs s):Int)*(2*key+1)+key*7919) % 999999999989:=rfl;have b:=ab j;have i:=akO (β:=β) s d w;have a:=ab i;revert a;revert b;revert f;generalize code (bs s)=c;intro f b a;have q:0<=(c:Int)*(2*key+1)/\(c:Int)*(2*key+1)<=282429536481*199:=by
  constructor
  .exact Int.mul_nonneg (by omega) (by omega)
  .exact Int.mul_le_mul (by omega) (by omega) (by omega) (by omega)
 go_enter zg,ntmps92;go_wp2;refine a.out.mono ?_;rintro e k ⟨rfl,rfl⟩;have t:wrap64 (2*key)=2*key:=by unfold wrap64;omega
 have p:wrap64 (2*key+1)=2*key+1:=by unfold wrap64;omega
 have o:wrap64 ((c:Int)*(2*key+1))=(c:Int)*(2*key+1):=by unfold wrap64;omega
 have l:wrap64 (key*7919)=key*7919:=by unfold wrap64;omega
 have r:wrap64 ((c:Int)*(2*key+1)+key*7919)=(c:Int)*(2*key+1)+key*7919:=by unfold wrap64;omega
 have m:((c:Int)*(2*key+1)+key*7919).tmod 999999999989=((c:Int)*(2*key+1)+key*7919) % 999999999989:=vA (by omega);go_wp2;go_ret;exact⟨ag4 b.out.symm,rfl⟩
def aiK(n:Nat)(w:World) :
  Calls (ai β) 130 #[.int .i64 n] w λe d=>e=.returned (.int .i64 (cx n))/\w=d:=by
 have g:(n=0/\cx n=0)\/(8<n/\cx n=0)\/((1<=n/\n<=2)/\cx n=2)\/((3<=n/\n<=4)/\cx n=4)\/((5<=n/\n<=8)/\cx n=8):=by
  unfold cx;split<;>(try split)<;>(try split)<;>omega
 rcases g with⟨h,e⟩|⟨h,e⟩|⟨h,e⟩|⟨h,e⟩|⟨h,e⟩
 .rw[e];subst h;go_enter wO,ntmps130;go_wp2;go_ret;exact⟨rfl,rfl⟩
 .rw[e];have c:=db (show ¬((n:Int)<1) by omega);have b:=dj (show 8<(n:Int) by omega);go_enter wO,ntmps130;go_wp2;go_ret;exact⟨rfl,rfl⟩
 all_goals
  rw[e];have c:=db (show ¬((n:Int)<1) by omega);have b:=db (show ¬(8<(n:Int)) by omega)
 .have a:=dj (show(n:Int)<=2 by omega);go_enter wO,ntmps130;go_wp2;go_ret;exact⟨rfl,rfl⟩
 .have a:=db (show ¬((n:Int)<=2) by omega);have f:=dj (show(n:Int)<=4 by omega);go_enter wO,ntmps130;go_wp2;go_ret;exact⟨rfl,rfl⟩
 .have a:=db (show ¬((n:Int)<=2) by omega);have f:=db (show ¬((n:Int)<=4) by omega);go_enter wO,ntmps130;go_wp2;go_ret;exact⟨rfl,rfl⟩
def azO(l:List Nat)(e:Ending):Prop:=∃t:ByteArray,e=.returned (.string t)/\bs t=l
def aop(s:ByteArray)(j:s.size<=maxLen)(w:World) :
  Calls (ai β) 97 #[.string s] w λe i=>azO (gF (bs s)) e/\w=i:=by
 unfold maxLen at j;have a:gF (bs s)=bs s++List.replicate (cx s.size-s.size) 46:=by unfold gF;rw[aO]
 replace a:=ab a;have p:=(aaf (n:=s.size)).1;go_enter yZ,ntmps97;go_wp2;refine(aiK s.size w).mono ?_;rintro e m ⟨rfl,rfl⟩;go_wp2
 go_loop [0] (λv=>∃(t:ByteArray) (k:Nat),v=.string t/\bs t=bs s++List.replicate k 46/\k<=cx s.size-s.size) (λv=>cx s.size-(match v with|.string t=>t.size|_=>0))
 case atStart=>exact⟨s,0,rfl,by simp,ff _⟩
 case round=>
  obtain⟨t,k,rfl,c,o⟩:=hrel;have l:t.size=s.size+k:=by rw[<-aO,c,aE,qE,aO]
  replace c:=ab c;by_cases f:t.size<cx s.size
  .have g:=dj (show(t.size:Int)<(cx s.size:Int) by omega);have d:bs (t++⟨#[46]⟩)=bs s++List.replicate (k+1) 46:=by
    rw[iI,c.out,th,wt];rfl
   replace d:=ab d;go_wp2
   go_round
   case rel=>exact⟨_,k+1,rfl,d.out,by omega⟩
   case measure=> 
    have:(t++(⟨#[46]⟩:ByteArray)).size=t.size+1:=by rw[<-aO,iI,aE,aO];rfl
    simp only[this];omega
  .have g:=db (show ¬((t.size:Int)<(cx s.size:Int)) by omega);have b:k=cx s.size-s.size:=by omega
   replace b:=ab b;go_wp2;go_ret;exact⟨⟨t,rfl,by rw[c.out,a.out,b.out]⟩,rfl⟩
def vN{s:ByteArray}(a:k<=s.size):(s.extract 0 k).size=k:=by
 rw[<-aO,dv,rO,fa,aO];omega
end
section
variable {β:Bool}
open Go.RowKit
def ag7(x:Int)(w:World)(b:Bool)(a:b=true↔1<=x/\x<=99):Calls (ai β) 27 #[.int .i64 x] w λe c=>e=.returned (.bool b)/\w=c:=by
 replace a:=ab a;by_cases h:1<=x
 .go_enter yi,ntmps27;go_wp2;go_ret;exact⟨aB (by rw[ru,a.out];simp[h]),rfl⟩
 .go_enter yi,ntmps27;go_wp2;go_ret;exact⟨aB (by rw[ru,a.out];simp[h];omega),rfl⟩
def af9(s:ByteArray)(n:s.size<=maxLen)(w:World) :
  Calls (ai β) 122 #[.string s] w λe m=>e=.returned (.bool ((bs s).all pD))/\w=m:=by
 unfold maxLen at n;go_enter yR,ntmps122;go_wp2
 go_loop [6] (λi=>∃k:Nat,k<=s.size/\i=.int .i64 k/\((bs s).take k).all pD=true) (λi=>s.size-(intOf i).toNat)
 case atStart=>exact⟨0,ff _,rfl,rfl⟩
 case round=>
  obtain⟨k,p,rfl,f⟩:=hrel;replace f:=ab f;by_cases b:k<s.size
  .have d:=aa2 b;replace d:=ab d;by_cases q:(s[k]'b).toNat<97
   .have l:=dj (show((s[k]'b).toNat:Int)<97 by omega);have a:(bs s).all pD=false:=by
     rw[uw];exact⟨_,de d.out,by unfold pD;simp;omega⟩
    have c:=ab a;clear a;go_wp2;go_ret;exact⟨aB c.out.symm,rfl⟩
   .have l:=db (show ¬(((s[k]'b).toNat:Int)<97) by omega);by_cases o:122<(s[k]'b).toNat
    .have j:=dj (show 122<((s[k]'b).toNat:Int) by omega);have a:(bs s).all pD=false:=by
      rw[uw];exact⟨_,de d.out,by unfold pD;simp;omega⟩
     have c:=ab a;clear a;go_wp2;go_ret;exact⟨aB c.out.symm,rfl⟩
    .have j:=db (show ¬(122<((s[k]'b).toNat:Int)) by omega);have g:((bs s).take (k+1)).all pD=true:=by
      rw[li d.out,tJ,f.out];simp[pD];omega
     replace g:=ab g;go_wp2
     go_round
     case rel=>exact⟨k+1,by omega,by go_num,g.out⟩
     simp[intOf];omega
  .obtain rfl:k=s.size:=by omega
   have a:(bs s).all pD=true:=by
    have:=f.out
    rwa [pa (by rw[aO];exact am _)] at this
   have c:=ab a;clear a;go_wp2;go_ret;exact⟨aB c.out.symm,rfl⟩
def aag(s:ByteArray)(j:s.size<=maxLen)(w:World)(b:Bool)(g:b=true↔bF (bs s)) :
  Calls (ai β) 153 #[.string s] w λe l=>e=.returned (.bool b)/\w=l:=by
 replace g:=ab g;have HS:=j;unfold maxLen at j;have a:b=(decide (1<=(s.size:Int))&&decide ((s.size:Int)<=8)&&(bs s).all pD):=by
  rw[ru,g.out];unfold bF;rw[aO];simp only[ge,rb];exact⟨λ⟨⟨k,i⟩,f⟩=>⟨⟨by omega,by omega⟩,f⟩,λ⟨⟨k,i⟩,f⟩=>⟨⟨by omega,by omega⟩,f⟩⟩
 replace a:=ab a;by_cases k:1<=s.size
 .have c:=dj (show 1<=(s.size:Int) by omega);by_cases i:s.size<=8
  .have d:=dj (show(s.size:Int)<=8 by omega);go_enter xg,ntmps153;go_wp2;refine(af9 s HS w).mono ?_;rintro e m ⟨rfl,rfl⟩;go_wp2;go_ret;exact⟨aB (by rw[a.out,c,d];simp),rfl⟩
  .have d:=db (show ¬((s.size:Int)<=8) by omega);go_enter xg,ntmps153;go_wp2;go_ret;exact⟨aB (by rw[a.out,c,d];simp),rfl⟩
 .have c:=db (show ¬(1<=(s.size:Int)) by omega);go_enter xg,ntmps153;go_wp2;go_ret;exact⟨aB (by rw[a.out,c];simp),rfl⟩
end
section
variable {β:Bool}
open Go.RowKit
structure iy (P:Program) (t e:TypeId) (sz bytes:Nat):Prop where
 slice:P.underlying t=some (.slice e)
 info:∃i z,P.info? e=some i/\i.zero=some z/\i.size=sz/\i.bytes=bytes/\z.cells.size=sz
 pos:0<sz
 small:bytes<=128
section
variable {P:Program}
def iy.mk'{t : TypeId}{z:Value}(f:P.underlying t=some (.slice e))(hi:(P.info? e).map (λi=>(i.zero,i.size,i.bytes))=some (some z,Z,Q))(k:z.cells.size=Z)(a:0<Z)(j:Q<=128):iy P t e Z Q:=by
 obtain⟨i,d,b,g,c⟩:=info_parts hi;exact⟨f,⟨i,z,d,b,g,c,k⟩,a,j⟩
structure amZ (w w':World) (base:Nat) (e:TypeId) (sz:Nat) (v v':Value) (n:Nat) (cells:List Value):Prop where
 own:w'.ownsRow base e sz v' n cells
 fe:bh (λb=>v.ownBlock=some b) w w'
 at_:∀b,v'.ownBlock=some b->v.ownBlock=some b\/w.heap.size<=b
def adX{base:Nat}(h:w.ownsRow base e Z v n U)(k:bh S w w')(j:∀b,v.ownBlock=some b->¬S b):w'.ownsRow base e Z v n U:=by
 refine⟨h.1, ?_⟩;rcases h.2 with i|⟨g,cap,d,rfl,f,a,c⟩
 .exact .inl i
 .refine .inr ⟨g,cap,d,rfl,f, ?_,c⟩;rw[k.block g (dl.1 a).1 (j g rfl)];exact a
def aeC{base:Nat}(h:w.ownsRow base e Z v n U)(a:Below w.heap.size w w'):w'.ownsRow base e Z v n U:=
 adX h (bh.aM (S:=λ_=>False) a) λ_ _ h=>h
def am0 {t ty : TypeId} (q:iy P t e Z Q) {base:Nat}   (d:w.ownsRow base e Z v n U)
  (O:news.length=m*Z) (S:0<m->∃a,A=some a/\∀(j:Nat) (u:Value),news[j]?=some u->w.cell? (a.add j)=some u) (R:∀u∈news,u.oneCell'=true)
  (W:n+m<=1099511627776) (l:base<=w.heap.size) :
  ∃y x,(Builtin.append_ #[t,t] ty #[v,.slice A m c]).run P w=.ok y x/\amZ w x base e Z v y (n+m) (U++news):=by
 obtain⟨i,z,G,N,D,E,F⟩:=q.info;have f:(n+m)*Q<=140737488355328:=ap (Nat.mul_le_mul W q.small) (by omega);rcases qg m with I|I
 .subst I;have C:news=[]:=qT (by simpa using O);subst C;cases A with
  |some K=>
   obtain⟨y,x,M,H,o,_,p⟩:=run_append_own_at (P:=P) w base t ty e i z Z Q q.slice G N D E F q.pos v n U d K 0 c [] (by simp) (λj u V=>by simp at V) (by simp) (by unfold maxLen;omega) f l;exact⟨y,x,M,H,⟨o.os,o.tape,o.output,o.size,λk J r=>o.block k J λe=>r e.symm⟩,λb B=>by rcases p with p|p<;>rw[p] at B<;>simp_all⟩
  |none=>
   refine⟨v,w, ?_,by simpa using d,bh.refl _ _,λb B=>.inl B⟩;rcases d.2 with⟨rfl,rfl⟩|⟨g,cap,T,rfl,_,_,L,_⟩
   .simp[Builtin.append_,mu q.slice,sizeOf,typeInfo,G,Builtin.lenOf,Builtin.firstCells]
   .simp[Builtin.append_,mu q.slice,sizeOf,typeInfo,G,Builtin.lenOf,Builtin.firstCells,L,storeCells]
 .obtain⟨K,rfl,s⟩:=S I;obtain⟨y,x,M,H,o,_,p⟩:=run_append_own_at (P:=P) w base t ty e i z Z Q q.slice G N D E F q.pos v n U d K m c news O s R (by unfold maxLen;omega) f l;exact⟨y,x,M,H,⟨o.os,o.tape,o.output,o.size,λk J r=>o.block k J λe=>r e.symm⟩,λb B=>by rcases p with p|p<;>rw[p] at B<;>simp_all⟩
def axv  {a:Act} {K:Act->World->Prop} {Q:Exit->Act->World->Prop} (s x:Operand) (t:TypeId)
  (l:o.op=.call ⟨.builtin .append,#[s,x],#[t,t]⟩)
  (k:iy P t e Z B) {base:Nat}   (r:a.eval s=v) (d:w.ownsRow base e Z v n U)
  (y:a.eval x=.slice A m c) (p:news.length=m*Z) (D:0<m->∃a,A=some a/\∀(j:Nat) (u:Value),news[j]?=some u->w.cell? (a.add j)=some u) (C:∀u∈news,u.oneCell'=true)
  (z:n+m<=1099511627776) (b:base<=w.heap.size)
  (h:∀i g,amZ w g base e Z v i (n+m) (U++news)->K (a.put o.dst i) g):o.wp P a w K Q:=by
 obtain⟨i,g,f,q⟩:=am0 (P:=P) (ty:=o.type) k d (c:=c) p D C z b;unfold Oper.wp execOp;simp only[l,resolve,invoke,builtin,tP,ug,uv,List.map_toArray,sF,List.map_nil,r,y,f];exact h i g q
def aeD    {a:Act} {Q:Exit->Act->World->Prop} (i:o.guard=none) (s x:Operand) (t:TypeId)
  (y:o.op=.call ⟨.builtin .append,#[s,x],#[t,t]⟩)
  (r:iy P t e Z B) {base:Nat}   (C:a.eval s=v) (d:w.ownsRow base e Z v n U)
  (D:a.eval x=.slice A m c) (z:news.length=m*Z) (q:0<m->∃a,A=some a/\∀(j:Nat) (u:Value),news[j]?=some u->w.cell? (a.add j)=some u) (l:∀u∈news,u.oneCell'=true)
  (E:n+m<=1099511627776) (b:base<=w.heap.size)
  (h:∀g f,amZ w f base e Z v g (n+m) (U++news)->wpList P N Q rest (a.put o.dst g) f):wpList P N Q (o::rest) a w:=
 wpList_plain i λ_ p=>axv s x t y r C d D z q l E b λg f k=>p _ _ (h g f k)
def am1    {a:Act} {Q:Exit->Act->World->Prop} (k:o.guard=none) (s x:Operand) (t:TypeId)
  (C:o.op=.call ⟨.builtin .append,#[s,x],#[t,t]⟩)
  (A:iy P t e Z B) {base:Nat}   (F:a.eval s=v) (d:w.ownsRow base e Z v n U)
  {es:Array Value} {T:TypeId} (H:a.eval x=.slice (some ⟨w.heap.size,0,none⟩) 1 1) (D:es.size=Z) (z:∀u∈es.toList,u.oneCell'=true)
  (I:n<=1099511627775) (p:base<=w.heap.size)
  (h:∀g f,amZ w f base e Z v g (n+1) (U++es.toList)->wpList P N Q rest (a.put o.dst g) f):wpList P N Q (o::rest) a (w.alloc (.cells es T)):=by
 refine aeD k s x t C A F (d.alloc _) (c:=1) (m:=1) (news:=es.toList) H (by simp[D]) (λ_=>⟨_,rfl,λj u E=> ?_⟩) z (by omega) (by simp;omega) λg f l=>h g f ?_
 .have r:(⟨w.heap.size,0,none⟩:Addr).add j=⟨w.heap.size,j,none⟩:=by unfold Addr.add;split<;>simp_all
  rw[r,(aX.new w T es).cell];simpa using E
 .refine⟨l.own, ?_, ?_⟩
  .exact((bh.refl (λb=>v.ownBlock=some b) w).alloc _).trans l.fe λi _ G=>G
  .intro b y;rcases l.at_ b y with q|q
   .exact .inl q
   .simp at q;right;omega
end
def abW:iy (ai β) 98 3 1 8:=iy.mk' xr (z:=.int .i64 0) (by kernel_rfl) rfl (by decide) (by decide)
def gV{base:Nat}(h:w.ownsRow base e Z v n U):∃A c,v=.slice A n c:=by
 rcases h.2 with⟨rfl,rfl⟩|⟨g,cap,a,rfl,_⟩
 .exact⟨_,_,rfl⟩
 .exact⟨_,_,rfl⟩
def axw {E:fW Y} {base : Nat}     (h:w.ownsRow base e Z v xs.length U) (t:w.heap.size<=hi)
  (o:∀i x,xs[i]?=some x->∃a:List Value,a.length=Z/\E w base hi x a/\∀j u,a[j]?=some u->U[i*Z+j]?=some u):bB E Z w base hi xs [v]:=by
 obtain⟨A,l⟩:=h;rcases l with⟨rfl,m⟩|⟨g,cap,d,rfl,n,k,f,c,s,p⟩
 .exact⟨none,0,by rw[m],by omega,by unfold maxLen;omega,λB=>by omega⟩
 .refine⟨_,cap,rfl,f,c,λ_=>⟨g,0,rfl,n,bd (dl.1 k).1 t,λi x hi=> ?_⟩⟩;obtain⟨a,q,y,z⟩:=o i x hi;refine⟨a,q,y,λj u r=> ?_⟩;have b:=z j u r;rw[<-p,qA] at b;split at b
  .rw[cell_of_row w g (0+i*Z+j) d e (0,0) k];rw[me];simpa using b
  .cases b
end
end Go.Proofs.YtgjaikdifcbnkaaGreatDoor