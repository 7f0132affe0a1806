/- A part. -/
import Derived.Test.YtlggbfanooejbaaGreatDoorG1
import Derived.KernelRfl
import Derived.Test.YtlggbfanooejbaaGreatDoorRows
import Derived.ProofKit
import Derived.OpenShut
import Derived.Handy
import Derived.BigQuiet
import Derived.Deep.QuietTactic
import Derived.Outline
import Derived.Deep.Draws
import Derived.Lib.Hide
import Derived.Laws.Strings
import Derived.Maps.AppendAt
import Derived.Deep.OwnRows
set_option maxRecDepth 100000
set_option maxHeartbeats 8000000
set_option linter.all false
open Go Go.RowKit Go.Proofs.Tryz Go.Proofs.YtlggbfanooejbaaGreatDoor
variable {W N c hi k lo m n:Nat} {Z:Type} {o:Oper} {R fr:Frame} {J w w':World} {v:Value} {e:TypeId} {f:FuncId} {P:Program} {S:Nat→Prop} {i:TypeInfo} {H todo:List Item} {g g':Goroutine} {rest:List Oper} {V cs l l':List Frame} {U news:List Value} {M:Array Oper} {L r:Option Nat} {Y a t:Array Value} {O es:Array Event} {A:Option Addr} {I:List Deferred} {e':Operand→Value} {s':List Frame→GStep} {Q:Exit→Act→World→Prop} {K:TypeId→Option TypeInfo} {s:List Frame→World→GStep} {x:Z} {xs:List Z}
namespace Go.Proofs.YtlggbfanooejbaaGreatDoor
def ab:=@Go.Lib.hid
def ap:=@List.length_append
def aE:=@List.mem_of_getElem?
def da:=@decide_eq_false
def de:=@decide_eq_true
def du:=@beq_eq_false_iff_ne
def fa:=@Nat.zero_le
def ff:=@List.length_take
def fi:=@List.length_cons
def gc:=@Bool.not_eq_true
def ip:=@Array.getD_eq_getD_getElem?
def iS:=@Option.map_eq_some_iff
def lm:=@Nat.zero_add
def ls:=@List.getElem?_eq_getElem
def lw:=@Go.run_underlying
def me:=@List.mem_cons
def nf:=@Nat.eq_zero_or_pos
def nF:=@Option.bind_eq_some_iff
def oS:=@List.mem_of_mem_take
def pm:=@Nat.lt_or_ge
def pZ:=@List.length_map
def qa:=@Go.Value.slice.injEq
def qb:=@Array.getElem?_setIfInBounds_self_of_lt
def qe:=@Option.map_some
def qf:=@List.cons.injEq
def qg:=@Array.getElem?_eq_none
def qh:=@and_true
def qj:=@List.take_of_length_le
def qn:=@List.mem_range
def qo:=@Option.getD_some
def qp:=@Bool.false_ne_true
def qr:=@List.getElem?_append_right
def qs:=@List.map_append
def qv:=@List.length_replicate
def qw:=@Go.RowKit.Below.heap_setCell
def qy:=@Go.World.cell?_of_block
def qz:=@List.getElem?_map
def qB:=@Array.mem_of_getElem?
def qE:=@List.getElem?_append_left
def qF:=@Classical.byContradiction
def qL:=@List.mem_cons_of_mem
def qM:=@Go.Stepped.next.injEq
def qO:=@Go.Sem.run_bind'
def qQ:=@Bool.or_eq_true
def qR:=@List.cons_append
def qT:=@Go.ByteArray.toList_eq
def qV:=@List.mem_cons_self
def rb:=@List.mem_iff_getElem?
def rc:=@List.drop_zero
def rj:=@List.getElem?_take
def rv:=@List.drop_eq_nil_of_le
def ry:=@List.nil_append
def rD:=@Option.isSome_iff_exists
def rH:=@Nat.mul_le_mul_right
def rO:=@Nat.add_zero
def rP:=@Array.getElem?_append_left
def rU:=@Array.mem_toList_iff
def rY:=@List.append_assoc
def sd:=@List.eq_nil_of_length_eq_zero
def sq:=@Go.RowKit.Below.heap_alloc
def sG:=@UInt8.toNat_inj
def sK:=@List.getElem?_eq_none
def sO:=@true_iff
def tv:=@List.all_append
def tA:=@Nat.mul_one
def tF:=@dif_pos
def tG:=@Go.Sem.run_bind
def tP:=@List.map_congr_left
def tT:=@Go.Sem.run_pure
def tU:=@Nat.mul_comm
def tV:=@List.map_map
def ue:=@List.getElem?_replicate
def uh:=@Go.Result.andThen_ok
def uk:=@List.all_eq_false
def ut:=@Bool.or_false
def uu:=@Bool.false_or
def uv:=@Bool.and_true
def uB:=@Array.toList_inj
def uC:=@false_iff
def uW:=@Nat.add_assoc
def uX:=@Int.tmod_eq_emod_of_nonneg
def uY:=@Bool.not_true
def vk:=@List.extract_eq_take_drop
def vA:=@List.all_nil
def vH:=@List.range_succ
def vM:=@ByteArray.data_extract
def vW:=@Nat.pow_le_pow_right
def vX:=@List.replicate_succ'
section
def aaY{t:TypeId}(h:aeg P t=true):∀k e,P.underlying t=some (.map k e)->∃b,P.underlying k=some (.int b):=λk e a=>by
 unfold aeg ahI at h;rw[a] at h;dsimp only at h;split at h
 .exact⟨_,by assumption⟩
 .cases h
section
variable {P P':Program} {ρ:Ren}
variable (T:Twin P P') (X:ai6 P P')
include T
theorem ma:∀(d:Nat) {ρ:Ren} (t:TypeId) {x j y i:Value},VR ρ x j->VR ρ y i->aw P P' jF ρ (Op.eqGuardIn d t x y) (Op.eqGuardIn d t j i)
 |0,_,_,_,_,_,_,_,_=>.halt _ _
 |d+1,ρ,t,x,j,y,i,g,c=>by
  unfold Op.eqGuardIn;refine ah (aF T t) λM u O C hd=> ?_;obtain⟨rfl,hd⟩:=hd;replace g:=g.mono C;replace c:=c.mono C;cases u with
  |interface N=>cases g<;>cases c<;>first|exact aj rfl|(cases j<;>first|exact aj rfl|exact absurd (by assumption:jI Value.nilIface=true) (by decide)|exact absurd (by assumption:jI (Value.agg _)=true) qp)|(cases i<;>first|exact aj rfl|exact absurd (by assumption:jI Value.nilIface=true) (by decide)|exact absurd (by assumption:jI (Value.agg _)=true) qp)
  |struct L=>cases g with
   |agg g=>cases c with
    |agg c=>
     refine ah (abD (B:=jF) L (rfl:jF M (none,()) (none,())) λo f r l k _ _=> ?_) λo r l k e=> ?_
     .refine aS (λ_=> ?_) λ_=>aj (.yield rfl);refine ah (mB T f.type (bU.mono k g) f.offset) λJ a I w s=> ?_;refine ah (mB T f.type (bU.mono (k.trans w) c) f.offset) λH b F p m=> ?_;refine ah (ma d f.type (s.mono p) m) λD q v _ e=> ?_;obtain rfl:q=v:=e;exact aS (λ_=>aj (.done rfl)) λ_=>aj (.yield rfl)
     .obtain rfl:r=l:=e;obtain⟨_|q,u⟩:=r<;>exact aj rfl
    |fV=>(cases i<;>first|exact aj rfl|exact absurd (by assumption:jI Value.nilIface=true) (by decide)|exact absurd (by assumption:jI (Value.agg _)=true) qp)
    |_=>exact aj rfl
   |_=>cases c<;>first|exact aj rfl|(cases j<;>first|exact aj rfl|exact absurd (by assumption:jI Value.nilIface=true) (by decide)|exact absurd (by assumption:jI (Value.agg _)=true) qp)|(cases i<;>first|exact aj rfl|exact absurd (by assumption:jI Value.nilIface=true) (by decide)|exact absurd (by assumption:jI (Value.agg _)=true) qp)
  |array n e=>cases g with
   |agg g=>cases c with
    |agg c=>
     refine ah (fN T e) λK z G E q=> ?_;obtain rfl:z=G:=q;refine ah (abE (B:=jF) n (rfl:jF K (none,()) (none,())) λo f r l k _=> ?_) λo r l k e=> ?_
     .have A:=E.trans k;refine ah (mB T e (bU.mono A g) (f*z)) λJ a I w s=> ?_;refine ah (mB T e (bU.mono (A.trans w) c) (f*z)) λH b F p m=> ?_;refine ah (ma d e (s.mono p) m) λD q v _ e=> ?_;obtain rfl:q=v:=e;exact aS (λ_=>aj (.done rfl)) λ_=>aj (.yield rfl)
     .obtain rfl:r=l:=e;obtain⟨_|q,u⟩:=r<;>exact aj rfl
    |fV=>(cases i<;>first|exact aj rfl|exact absurd (by assumption:jI Value.nilIface=true) (by decide)|exact absurd (by assumption:jI (Value.agg _)=true) qp)
    |_=>exact aj rfl
   |_=>cases c<;>first|exact aj rfl|(cases j<;>first|exact aj rfl|exact absurd (by assumption:jI Value.nilIface=true) (by decide)|exact absurd (by assumption:jI (Value.agg _)=true) qp)|(cases i<;>first|exact aj rfl|exact absurd (by assumption:jI Value.nilIface=true) (by decide)|exact absurd (by assumption:jI (Value.agg _)=true) qp)
  |_=>exact aj rfl
theorem apf(op:BinOp)(t:TypeId)(x y:Operand){a b c : Value}(j:VR ρ a v)(d:VR ρ b c):aw P P' jF ρ (eqGuard op t x y a b) (eqGuard op t x y v c):=by
 unfold eqGuard;refine aS (λ_=>aj rfl) λ_=> ?_;have i:=j;have g:=d;cases j with
 |nilIface=>cases d with
  |nilIface=>
   refine aS (λ_=>aj rfl) λ_=> ?_;refine ah (ma T _ t .nilIface .nilIface) λm q f _ e=> ?_;obtain rfl:q=f:=e;exact aS (λ_=>.halt _ _) λ_=>aj rfl
  |fV=>(cases c<;>first|exact aj rfl|exact absurd (by assumption:jI Value.nilIface=true) (by decide)|exact absurd (by assumption:jI (Value.agg _)=true) qp)
  |_=>exact aj rfl
 |agg j=>cases d with
  |agg d=>
   refine ah dg λm p A l n=> ?_;obtain⟨r,w⟩:=n;refine ah dg λz q f k o=> ?_;obtain⟨s,u⟩:=o;rw[r,w,s,u,T.ala,T.depth];refine aS (λ_=>aj rfl) λ_=> ?_;refine ah (ma T _ t (i.mono (l.trans k)) (g.mono (l.trans k))) λm q f _ e=> ?_;obtain rfl:q=f:=e;exact aS (λ_=>.halt _ _) λ_=>aj rfl
  |fV=>(cases c<;>first|exact aj rfl|exact absurd (by assumption:jI Value.nilIface=true) (by decide)|exact absurd (by assumption:jI (Value.agg _)=true) qp)
  |_=>exact aj rfl
 |_=>cases d<;>first|exact aj rfl|(cases v<;>first|exact aj rfl|exact absurd (by assumption:jI Value.nilIface=true) (by decide)|exact absurd (by assumption:jI (Value.agg _)=true) qp)|(cases c<;>first|exact aj rfl|exact absurd (by assumption:jI Value.nilIface=true) (by decide)|exact absurd (by assumption:jI (Value.agg _)=true) qp)
theorem apg(f dst:TypeId)(a:ak8 P f dst=true){x g:Value}(c:VR ρ x g):aw P P' VR ρ (convert f dst x) (convert f dst g):=by
 unfold convert;refine ah (aF T f) λB u A t m=> ?_;obtain⟨rfl,m⟩:=m;refine ah (aF T dst) λo v w p n=> ?_;obtain⟨rfl,n⟩:=n;replace c:=c.mono (t.trans p);unfold ak8 at a;rw[m,n] at a;cases v with
 |int k=>
  cases u with
  |int y=>cases c with
   |int=>exact aj (.int _ _)
   |pointer h=>cases h<;>exact .halt _ _
   |slice h=>cases h<;>exact .halt _ _
   |_=>exact .halt _ _
  |_=>cases a
 |string=>
  cases u with
  |slice e=>
   have b:∀{x g:Value},VR o x g->aw P P' VR o (do
     match<-underlying e with
     |.int .u8=>Conv.bytesToString x
     |.int .i32=>Conv.runesToString x
     |_=>stuck "Convert: a slice of what to string?") (do
     match<-underlying e with
     |.int .u8=>Conv.bytesToString g
     |.int .i32=>Conv.runesToString g
     |_=>stuck "Convert: a slice of what to string?"):=λ{x g} c=>by
    refine ah (aF T e) λr z q l i=> ?_;obtain⟨rfl,i⟩:=i;dsimp only at a;rw[i] at a;cases z with
    |int k=>cases k<;>first|exact ad1 (c.mono l)|exact .halt _ _|cases a
    |_=>exact .halt _ _
   have j:=c;cases c with
   |int=>exact aj (.string _)
   |string s=>exact aj (.string _)
   |pointer h=>cases h<;>exact b j
   |slice h=>cases h<;>exact b j
   |fV=>
    refine .dead (Leaves.bind (aeP e) λd _=> ?_) _;cases d with
    |int k=>cases k<;>exact trivial
    |_=>exact trivial
   |_=>exact b j
  |unsafePointer=>cases a
  |_=>cases c with
   |int=>exact aj (.string _)
   |string s=>exact aj (.string _)
   |pointer h=>cases h<;>exact .halt _ _
   |slice h=>cases h<;>exact .halt _ _
   |_=>exact .halt _ _
 |slice e=>
  cases u with
  |string=>cases c with
   |string s=>
    refine ah (aF T e) λr z q l i=> ?_;obtain⟨rfl,i⟩:=i;dsimp only at a;rw[i] at a;cases z with
    |int k=>cases k<;>first|exact ad2 e s|exact .halt _ _|cases a
    |_=>exact .halt _ _
   |pointer h=>cases h<;>exact .halt _ _
   |slice h=>cases h<;>exact .halt _ _
   |_=>exact .halt _ _
  |_=>cases a
 |_=>cases u<;>cases a
theorem alC{e : Operand->Value}(x:Operand)(dst:Option Tmp)(t:TypeId)(pos:String)(af:Array Edge)(g:Option (Nat×Bool))(o:VR ρ (e x) (e' x)):aw P P' iC ρ (execOp e ⟨dst,.nilCheck x,t,pos,af,g⟩) (execOp e' ⟨dst,.nilCheck x,t,pos,af,g⟩):=by
 unfold execOp;dsimp only;revert o;generalize e x=v;generalize e' x=v';intro o;cases o with
 |pointer h=>cases h with
  |none=>exact .dead (eG _) _
  |some h=>exact aj (.value (.pointer (.some h)))
 |nilIface=>exact .dead (eG _) _
 |nilFunc=>exact .dead (eG _) _
 |@func p r i _ _ _ _ m l=>
  cases i with
  |same _ i=>
   cases p with
   |func p=>exact aj (.value (.func (.same _ i) m l))
   |_=>cases i
  |yield h=>exact aj (.value (.func (.yield h) m l))
 |abt k j=>exact .dead (eG _) _
 |slice m l q=>exact aj (.value (.slice m l q))
 |map h=>exact aj (.value (.map h))
 |chan h=>exact aj (.value (.chan h))
 |iface t h=>exact aj (.value (.iface t h))
 |agg h=>exact aj (.value (.agg h))
 |tuple h=>exact aj (.value (.tuple h))
 |fV j d=>
  cases v' with
  |pointer a=>cases a with
   |none=>cases d
   |some a=>exact aj (.value (.fV j d))
  |func f a c=>cases f<;>first|(cases d;done)|exact aj (.value (.fV j d))
  |_=>first|(cases d;done)|exact aj (.value (.fV j d))
 |bool b=>exact aj (.value (.bool b))
 |int k n=>exact aj (.value (.int k n))
 |string s=>exact aj (.value (.string s))
theorem aph(b:Builtin)(ts:Array TypeId)(t:TypeId)(cs:Array Bool)(c:acM P b ts=true)(h:dm ρ a Y):aw P P' iC ρ (builtin b ts t cs a) (builtin b ts t cs Y):=by
 cases b with
 |append=>
  refine bD (aq0 T ts t (λu e k d=> ?_) h);unfold acM ahI at c;rw[e] at c;simp[d] at c
 |cap=>exact bD (azT T ts t h)
 |clear=>exact bD (auk T ts t h)
 |copy=>exact bD (axR T ts t h)
 |len=>exact bD (azS T ts t h)
 |max=>exact bD (azU ts t h)
 |min=>exact bD (azV ts t h)
 |unsafeString=>exact bD (aeM T ts t h)
 |unsafeSlice=>exact bD (agb T ts t h)
 |_=>cases c
include X
theorem anO{v' : Value}(a:VR ρ v v'){args args':Array Value}(b:dm ρ args args'):aw P P' iC ρ (do let d<-Deferred.ofValue v args;invoke d.target d.args) (do let d<-Deferred.ofValue v' args';invoke d.target d.args):=by
 unfold Deferred.ofValue;cases a with
 |nilFunc=>
  show aw P P' iC ρ (runtimePanic .nilDeref) _;exact .dead (eG _) _
 |@func f l a _ _ _ _ g i=>
  cases a with
  |same _ a=>
   cases f with
   |func f=>exact alm T X f a (dm.app (dm.app g b) i)
   |_=>cases a
  |yield h=>exact aup h (dm.app g b)
 |abt k j=>
  refine .dead ?_ _;show kX P (invoke (.fn (.method "") (Array.replicate k .nilIface)) (#[.nilIface]++args));have e:(#[Value.nilIface]++args)[0]?=some .nilIface:=by
   rw[rP (by show 0<1;omega)];rfl
  unfold invoke;simp only[e];show kX P (runtimePanic .nilDeref);exact eG _
 |_=>exact .halt _ _
theorem ax4(c:Call)(t:TypeId){e : Operand->Value}(l:ad3 ρ e e')(j:mz P gA gL (.call c)=true):aw P P' iC ρ (do let d<-resolve e c t;invoke d.target d.args) (do let d<-resolve e' c t;invoke d.target d.args):=by
 unfold mz at j;simp only[fk] at j;obtain⟨g,k⟩:=j;obtain⟨a,args,n⟩:=c;simp only[Op.operands,Call.operands,pv,tv,fk] at g;have i:=l.map g.2;cases a with
 |builtin b=>
  exact aph T b n t _ k i
 |invoke r m=>cases k
 |value f=>exact anO T X (l f (by simpa using g.1)) i
theorem aCC{o' : Oper}(a:aau gA gL o'.op=true)(c:o={o' with type:=gB}){e : Operand->Value}(f:ad3 ρ e e'):aw P P' iC ρ (execOp e o) (execOp e' o'):=by
 subst c;obtain⟨dst,op,type,d,after,b⟩:=o';dsimp only at a;unfold aau at a;split at a
 .exact bD (abF _ gB type T.auc (f.map a))
 .cases a
theorem ari(w:mz P gA gL o.op=true){e : Operand->Value}(p:ad3 ρ e e'):aw P P' iC ρ (execOp e o) (execOp e' o):=by
 obtain⟨dst,op,v,K,after,D⟩:=o;dsimp only at w;have A:=w;unfold mz at w;simp only[fk] at w;obtain⟨j,u⟩:=w;cases op with
 |move x=>exact aj (.value (p x (by simpa[Op.operands] using j)))
 |assign x=>exact aj (.value (p x (by simpa[Op.operands] using j)))
 |pick c a b=>
  simp[Op.operands] at j;refine ah (aeA (p c j.1)) λI q L z e=> ?_;obtain rfl:q=L:=e;cases q with
  |true=>exact aj (.value ((p a j.2.1).mono z))
  |false=>exact aj (.value ((p b j.2.2).mono z))
 |alloc t=>exact bD (auf T t)
 |box t x=>exact bD (azR t (p x (by simpa[Op.operands] using j)))
 |build t F=>
  refine bD (auj T t ?_);rw[qI,qI];exact p.parts (by simpa[Op.operands] using j)
 |buildSlice t n F=>
  refine bD (ahK T t n ?_);rw[qI,qI];exact p.parts (by simpa[Op.operands] using j)
 |load t a=>exact bD (aqX T t (p a (by simpa[Op.operands] using j)))
 |store t a x=>
  simp[Op.operands] at j;exact ahO (aoW T t (p a j.1) (p x j.2))
 |nilCheck x=>exact alC T x _ _ _ _ _ (p x (by simpa[Op.operands] using j))
 |binOp op t x y M=>
  simp[Op.operands] at j;refine bD (ah (apf T op t x y (p x j.1) (p y j.2)) λI _ _ z _=>auo T op t ((p x j.1).mono z) ((p y j.2).mono z))
 |unOp op t x=>exact bD (aul op (p x (by simpa[Op.operands] using j)))
 |convert s d x=>exact bD (apg T s d u (p x (by simpa[Op.operands] using j)))
 |makeInterface t x=>exact bD (adX T t (p x (by simpa[Op.operands] using j)))
 |makeFunc f a c=>
  simp only[Op.operands,pv,tv,fk] at j;exact bD (ald (.same f u) (p.map j.1) (p.map j.2))
 |makeMap t r=>cases r with
  |none=>exact bD (ale t)
  |some x=>cases u
 |makeSlice t l c=>
  simp[Op.operands] at j;exact bD (ai4 T t (p l j.1) (p c j.2))
 |slice t x l h m=>
  simp only[Op.operands,pv,tv,fk] at j;obtain⟨⟨⟨C,B⟩,E⟩,G⟩:=j;have op:∀{l:Option Operand},l.toArray.toList.all (bN gA gL)=true->OVR ρ (l.map e) (l.map e'):=λ{l} h=>p.opt λx J=>by subst J;simpa using h
  exact bD (ao0 T t (p x (by simpa using C)) (op B) (op E) (op G))
 |fieldAddr t x f=>
  refine bD (aoY T t f (λN g i C B E=> ?_) (p x (by simpa[Op.operands] using j)));unfold anG at u;simpa[C,B,E] using u
 |field t x f=>exact bD (aug T t (p x (by simpa[Op.operands] using j)) f)
 |indexAddr t x i=>
  simp[Op.operands] at j;exact bD (aoZ T t (p x j.1) (p i j.2))
 |index t x i=>
  simp[Op.operands] at j;exact bD (aui T t (p x j.1) (p i j.2))
 |lookup t x i H=>
  simp[Op.operands] at j;exact bD (aq2 T t (aaY u) (p x j.1) (p i j.2) H)
 |mapUpdate t m k x=>
  simp[Op.operands] at j;exact ahO (adm T t (aaY u) (p m j.1) (p k j.2.1) (p x j.2.2))
 |insert t m k x=>
  simp[Op.operands] at j;exact ahO (adm T t (aaY u) (p m j.1) (p k j.2.1) (p x j.2.2))
 |range t x=>exact bD (aun T t (p x (by simpa[Op.operands] using j)))
 |next x b=>exact bD (axW (p x (by simpa[Op.operands] using j)) b v)
 |extract x i=>exact bD (aoX (p x (by simpa[Op.operands] using j)) i)
 |call c=>exact ax4 T X c v p A
 |panic x=>exact bD (aum _ _)
 |_=>cases u
end
section
variable (P:Program)
inductive ItR (ρ:Ren):Item->Item->Prop
 |code (c:Code):ItR ρ (.code (gP c)) (.code c)
 |inBlock (id:Nat):ItR ρ (.inBlock id) (.inBlock id)
 |inLoop (c:Code):ItR ρ (.inLoop (gP c)) (.inLoop c)
 |inScope (c:Code):ItR ρ (.inScope (gP c)) (.inScope c)
 |inRegion {ops ops':Array Oper} (h:aqU P ops ops') (l:List Nat):ItR ρ (.inRegion ops l) (.inRegion ops' l)
 |inRangeFunc {l l':Nat} (h:ρ.r l l'):ItR ρ (.inRangeFunc l) (.inRangeFunc l')
 |endRangeFunc {l l':Nat} (h:ρ.r l l'):ItR ρ (.endRangeFunc l) (.endRangeFunc l')
 |beginRound:ItR ρ .beginRound .beginRound
inductive jO (ρ:Ren):List Item->List Item->Prop
 |nil:jO ρ [] []
 |cons {x x':Item} {l l':List Item} (h:ItR P ρ x x') (hl:jO ρ l l'):jO ρ (x::l) (x'::l')
end
inductive CDs (ρ:Ren):List Deferred->List Deferred->Prop
 |nil:CDs ρ [] []
 |cons {b b':Nat} {l l':List Deferred} (h:ρ.r b b') (hl:CDs ρ l l'):CDs ρ (⟨.collected b,#[]⟩::l) (⟨.collected b',#[]⟩::l')
structure FrR (P:Program) (ρ:Ren) (fr cG:Frame):Prop where
 fn:fr.fn=cG.fn
 tmps:dm ρ fr.tmps cG.tmps
 todo:jO P ρ fr.todo cG.todo
 defers:CDs ρ fr.defers cG.defers
 mode:(fr.mode=.run/\cG.mode=.run)\/(fr.mode=.returning/\cG.mode=.returning)
 kind:fr.kind=.normal/\cG.kind=.normal
 round:NR ρ fr.roundOf cG.roundOf
inductive iJ (P:Program) (ρ:Ren):List Frame->List Frame->Prop
 |one {fr cG:Frame} (h:FrR P ρ fr cG) (h0:fr.roundOf=none):iJ P ρ [fr] [cG]
 |cons {fr cG:Frame} {l l':List Frame} (h:FrR P ρ fr cG) (hl:iJ P ρ l l'):iJ P ρ (fr::l) (cG::l')
section
variable {P:Program} {ρ σ:Ren}
def ItR.mono(h:ρ.Le σ){x a:Item}:ItR P ρ x a->ItR P σ x a
 |.code c=>.code c
 |.inBlock id=>.inBlock id
 |.inLoop c=>.inLoop c
 |.inScope c=>.inScope c
 |.inRegion h l=>.inRegion h l
 |.inRangeFunc x=>.inRangeFunc (h.r x)
 |.endRangeFunc x=>.endRangeFunc (h.r x)
 |.beginRound=>.beginRound
def jO.mono(h:ρ.Le σ):∀{x a:List Item},jO P ρ x a->jO P σ x a
 |_,_,.nil=>.nil
 |_,_,.cons x y=>.cons (x.mono h) (y.mono h)
def CDs.mono(h:ρ.Le σ):∀{x a:List Deferred},CDs ρ x a->CDs σ x a
 |_,_,.nil=>.nil
 |_,_,.cons x y=>.cons (h.r x) (y.mono h)
def FrR.mono(h:ρ.Le σ)(x:FrR P ρ fr R):FrR P σ fr R:=
 ⟨x.fn,bU.mono h x.tmps,x.todo.mono h,x.defers.mono h,x.mode,x.kind,x.round.mono h⟩
def iJ.mono(h:ρ.Le σ):∀{x a:List Frame},iJ P ρ x a->iJ P σ x a
 |_,_,.one x y=>.one (x.mono h) y
 |_,_,.cons x y=>.cons (x.mono h) (y.mono h)
def VR.undef:VR ρ undef undef:=.tuple .nil
def aqU.dst{a : Array Oper}(h:aqU P M a)(i:Nat):(M[i]?).bind (·.dst)=(a[i]?).bind (·.dst):=by
 obtain⟨f,h⟩:=h;cases e:M[i]? with
 |none=>
  have:a[i]?=none:=by
   rw[qi] at e ⊢;omega
  rw[this]
 |some o=>
  have d:=(dq.1 e).1;obtain⟨b,c⟩:∃b,a[i]?=some b:=⟨_,gt (by omega)⟩;rw[c];rcases h i o b e c with⟨rfl,_⟩|⟨_,rfl⟩<;>rfl
def FrR.finish(h:FrR P ρ fr R){v' : Value}(z:VR ρ v v'):FrR P ρ (fr.finish v) (R.finish v'):=by
 obtain⟨f,t,y,d,m,k,r⟩:=fr;obtain⟨E,s,B,D,F,C,A⟩:=R;obtain⟨u,a,w,b,e,g,c⟩:=h;dsimp only at u a w b e g c;subst u;cases w with
 |nil=>exact⟨rfl,a,.nil,b,e,g,c⟩
 |cons x j=>
  cases x with
  |inRegion p l=>
   cases l with
   |nil=>exact⟨rfl,a,.cons (.inRegion p []) j,b,e,g,c⟩
   |cons i o=>
    refine⟨rfl, ?_,.cons (.inRegion p o) j,b,e,g,c⟩;show dm ρ (match _ with|some d=>t.setIfInBounds d v|none=>t) (match _ with|some d=>s.setIfInBounds d v'|none=>s);rw[p.dst i];split
    .exact a.set _ z
    .exact a
  |inRangeFunc q=>exact⟨rfl,a,.cons (.endRangeFunc q) j,b,e,g,c⟩
  |beginRound=>exact⟨rfl,a,j,b,e,g,c⟩
  |code n=>exact⟨rfl,a,.cons (.code n) j,b,e,g,c⟩
  |inBlock id=>exact⟨rfl,a,.cons (.inBlock id) j,b,e,g,c⟩
  |inLoop n=>exact⟨rfl,a,.cons (.inLoop n) j,b,e,g,c⟩
  |inScope n=>exact⟨rfl,a,.cons (.inScope n) j,b,e,g,c⟩
  |endRangeFunc n=>exact⟨rfl,a,.cons (.endRangeFunc n) j,b,e,g,c⟩
def jO.exit(id:Nat):∀{k a:List Item},jO P ρ k a->(exitTo id k=none/\exitTo id a=none)\/∃l c,exitTo id k=some l/\exitTo id a=some c/\jO P ρ l c
 |_,_,.nil=>.inl ⟨rfl,rfl⟩
 |_,_,.cons x y=>by
  have b:=y.exit id;cases x with
  |inBlock i=>
   unfold exitTo;by_cases e:(i ==id)=true
   .rw[dj e,dj e];exact .inr ⟨_,_,rfl,rfl,y⟩
   .rw[bv e,bv e];exact b
  |code|inLoop|inScope|inRegion|inRangeFunc|endRangeFunc|beginRound=>simpa[exitTo] using b
end
def kT(w:World)(ds:List Deferred):Prop:=∀d∈ds,∃b,d=⟨.collected b,#[]⟩/\∀x l,w.heap[b]?≠some (.deferred (some (x::l)))
inductive mZ (base:List Frame):GStep->Prop
 |ended (o:Outcome) (w:World) (es:Array Event):mZ base (.ended o w es)
 |stop {g:Goroutine} {w:World} {es:Array Event} (h:g.status=.blocked\/g.status=.waiting):mZ base (.go g w es)
 |raised {fr:Frame} {cs:List Frame} {w:World} {es:Array Event} {ch:List PanicEntry} (hm:fr.mode=.panicking ch) (hd:∀f∈fr::cs,kT w f.defers):mZ base (.go {frame:=fr,callers:=cs++base,status:=.running,dying:=none} w es)
 |dying {fr:Frame} {w:World} {es:Array Event} {d:Dying} {f:Fatal} (hf:d.fatal=some f) (hc:d.calling=false):mZ base (.go {frame:=fr,callers:=[],status:=.running,dying:=some d} w es)
def mZ.after{base:List Frame}{s:GStep}(es:Array Event)(h:mZ base s):mZ base (s.after es):=by
 cases h with
 |ended o w e=>exact .ended o w _
 |stop h=>exact .stop h
 |raised a hd=>exact .raised a hd
 |dying b c=>exact .dying b c
def Gl:List Frame->List Frame->Goroutine
 |[],base=>{(default:Goroutine) with callers:=base}
 |fr::cs,base=>⟨fr,cs++base,.running,none,none⟩
def GoR(P P':Program)(ρ:Ren)(l l':List Frame):Prop:=
 iJ P ρ l l'\/∃f a b m c,gH f=true/\dm ρ a b/\iJ P ρ m c/\l=Frame.enter P f a .normal::m/\l'=Frame.enter P' f b .normal::c
def lQ(P P':Program)(ρ:Ren)(w w':World)(s:List Frame->World->GStep)(s':List Frame->GStep):Prop:=
 ∃(a:Tape) (D:Nat),(∀base t,Agr w D a t->mZ base (s base (w.dN t)))\/
  ∃c g e i b f d,(∀base t,Agr w D a t->s base (w.dN t)=.go (Gl g base) (e.dN t) i)/\e.drawn=w.drawn+D/\ρ.Le c/\(∀base,s' base=.go (Gl b base) f d)/\WR c e f/\Kept ρ c w w' e f/\EvW w c i d/\GoR P P' c g b
section
variable {P P':Program} {ρ:Ren} {w w':World}
def lQ.still(a:WR ρ w w')(h:∀base w,s base w=.go (Gl l base) w #[])(b:∀base,s' base=.go (Gl l' base) w' #[])(c:GoR P P' ρ l l'):lQ P P' ρ w w' s s':=
 ⟨w.tape,0,.inr ⟨ρ,l,w,#[],l',w',#[],λ_ t _=>h _ _,rfl,Ren.Le.refl _,b,a,Kept.refl _ _ _,.nil _ _,c⟩⟩
def lQ.bad(h:∀base w,mZ base (s base w)):lQ P P' ρ w w' s s':=⟨w.tape,0,.inl λ_ _ _=>h _ _⟩
def CDs.marks{b : List Deferred}(h:CDs ρ I b)(c:WR ρ w w'){t:Tape}(i:fW (w.dN t) J):kT J I:=by
 induction h with
 |nil=>intro d hd;cases hd
 |cons g m j=>
  intro d hd;rcases me.1 hd with rfl|hd
  .refine⟨_,rfl,λx l e=> ?_⟩;have:=i _ _ _ e;obtain⟨o,p,k,n,f⟩:=c.obj g;have a:(w.dN t).heap[_]?=some o:=k;rw[this] at a;cases a;cases f
  .exact j d hd
def ax5(T:Twin P P')(fn:FuncId)(h:mA ρ es.toList O.toList):mA ρ (seen P fn es).toList (seen P' fn O).toList:=by
 have u:∀f:Nat,(P'.funcs[f]?).any (·.norace)=(P.funcs[f]?).any (·.norace):=λf=>by
  cases o:P.funcs[f]? with
  |none=>
   have:P'.funcs[f]?=none:=by
    rw[qi] at o ⊢;rw[T.ai1];exact o
   rw[this]
  |some fn=>
   obtain⟨A,v,s⟩:=T.func f fn o;rw[v];simp[s.norace]
 unfold seen;dsimp only;rw[<-sE,<-sE];simp only[u];generalize t:(λf:Nat=>(P.funcs[f]?).any (·.norace))=Q;have m:∀f:Nat,(P.funcs[f]?).any (·.norace)=Q f:=λf=>by rw[<-t]
 simp only[m];have n:∀{l p:List Event},mA ρ l p->∀(q:Bool) (k b:Array Event),mA ρ k.toList b.toList->
   mA ρ (l.foldl (λx e=>match e.loc with
    |.mark (.extern f)=>(Q f,x.2)
    |_=>(x.1,if x.1&&!e.sync then x.2 else x.2.push e)) (q,k)).2.toList
   (p.foldl (λx e=>match e.loc with
    |.mark (.extern f)=>(Q f,x.2)
    |_=>(x.1,if x.1&&!e.sync then x.2 else x.2.push e)) (q,b)).2.toList:=by
  intro l p h
  induction h with
  |nil=>intro q k b d;exact d
  |cons r B j=>
   intro q k b d;rw[uL,uL];have push:∀e i:Event,EvR ρ e i->mA ρ (if(q&&!e.sync)=true then k else k.push e).toList (if(q&&!i.sync)=true then b else b.push i).toList:=λe i h=>by
    have w:e.sync=i.sync:=by cases h;rfl
    rw[w];split
    .exact d
    .rw[rN,rN];exact d.app (.cons h .nil)
   have a:=r;cases r with
   |mk g wr z=>
    cases g with
    |cell D=>exact j _ _ _ (push _ _ a)
    |obj C=>exact j _ _ _ (push _ _ a)
    |mark y=>
     cases y with
     |extern f=>exact j _ _ _ d
     |_=>exact j _ _ _ (push _ _ a)
 exact n h _ _ _ .nil
def arj(P:Program)(fn:FuncId)(es:Array Event):∀e∈(seen P fn es).toList,e∈es.toList:=by
 unfold seen;dsimp only;rw[<-sE];have d:∀(l:List Event) (q:Bool) (k:Array Event) (S:List Event),(∀e∈k.toList,e∈S)->(∀e∈l,e∈S)->
   ∀e∈(l.foldl (λx e=>match e.loc with
    |.mark (.extern f)=>((P.funcs[f]?).any (·.norace),x.2)
    |_=>(x.1,if x.1&&!e.sync then x.2 else x.2.push e)) (q,k)).2.toList,e∈S:=by
  intro l
  induction l with
  |nil=>intro q k S c _;exact c
  |cons x l i=>
   intro q k S c g;rw[uL];have push:∀e∈(if(q&&!x.sync)=true then k else k.push x).toList,e∈S:=by
    split
    .exact c
    .intro e a;rw[rN,io] at a;rcases a with a|a
     .exact c e a
     .simp at a;subst a;exact g _ (qV ..)
   have b:∀e∈l,e∈S:=λe a=>g e (qL _ a);split
   .exact i _ k S c b
   .exact i _ _ S push b
 exact d es.toList _ _ es.toList (λe a=>by cases a) λe a=>a
def aaZ(T:Twin P P')(fn:FuncId)(h:EvW w ρ es O):EvW w ρ (seen P fn es) (seen P' fn O):=
 ⟨ax5 T fn h.ev,λb c e a=>h.nw b c e (arj P fn es e a)⟩
end
section
variable {P P':Program} {ρ σ:Ren} {base:List Frame} {w w':World}
def iJ.put(g:ρ.Le σ){a b : Frame}(h:iJ P ρ (fr::cs) (R::V))(c:FrR P σ a b)(e:a.roundOf=fr.roundOf):iJ P σ (a::cs) (b::V):=by
 cases h with
 |one h f=>exact .one c (e.trans f)
 |cons h d=>exact .cons c (d.mono g)
def iJ.head(h:iJ P ρ (fr::cs) (R::V)):FrR P ρ fr R:=by
 cases h with
 |one h a=>exact h
 |cons h b=>exact h
def iJ.marks(h:iJ P ρ l l')(b:WR ρ w w'){t:Tape}(c:fW (w.dN t) J):∀f∈l,kT J f.defers:=by
 induction h with
 |one h g=>intro f a;simp at a;subst a;exact h.defers.marks b c
 |cons h e d=>
  intro f a;rcases me.1 a with rfl|a
  .exact h.defers.marks b c
  .exact d f a
def GoR.of(h:iJ P ρ (fr::cs) (R::V)):GoR P P' ρ (fr::cs) (R::V):=.inl h
def FrR.at(h:FrR P ρ fr R)(a:jO P ρ todo H):FrR P ρ {fr with todo} {R with todo:=H}:=
 ⟨h.fn,h.tmps,a,h.defers,h.mode,h.kind,h.round⟩
def aa0{c:List PanicEntry}(d:∀f∈fr::cs,kT J f.defers):mZ base (.go ⟨fr.raise c,cs++base,.running,none,none⟩ J #[]):=by
 have:∃a,(fr.raise c).mode=.panicking a:=by unfold Frame.raise;split<;>exact⟨_,rfl⟩
 obtain⟨a,e⟩:=this;refine .raised e λf b=> ?_;rcases me.1 b with rfl|b
 .have:(fr.raise c).defers=fr.defers:=by unfold Frame.raise;split<;>rfl
  rw[this];exact d fr (by simp)
 .exact d f (by simp[b])
variable (T:Twin P P')
include T
theorem api(g:Nat)(w:World):mZ base (early P fr cs none g w):=by
 unfold early;simp only[T.nB.1,T.nB.2];exact .ended _ _ _
theorem ahV(m:String)(w:World):mZ base (endFatal P fr cs none m w):=by
 unfold endFatal;dsimp only;split
 .exact .dying rfl rfl
 .exact .ended _ _ _
 .exact .ended _ _ _
omit T in
theorem gF(fr:Frame)(v:Value):(fr.finish v).roundOf=fr.roundOf:=by
 unfold Frame.finish;split<;>first|rfl|(split<;>rfl)
theorem agP(w:String):gP (.refuse w)=.refuse w:=by rw[T.pc];rfl
theorem abV(w:String):jO P ρ [.code (.refuse w)] [.code (.refuse w)]:=by
 have h:jO P ρ [.code (gP (.refuse w))] [.code (.refuse w)]:=.cons (.code _) .nil;rw[agP T] at h;exact h
omit T in
theorem auy{l l':Nat}(a:ρ.r l l')(f:FuncId)(b:dm ρ t Y)(c d:Code):FrR P ρ (Frame.round l f t (gP c) (gP d) .normal) (Frame.round l' f Y c d .normal):=
 ⟨rfl,b,.cons (.code c) (.cons .beginRound (.cons (.code d) .nil)),.nil,.inl ⟨rfl,rfl⟩,⟨rfl,rfl⟩,.some a⟩
theorem ahW(q:gH f=false)(o:dm ρ a Y):FrR P ρ (Frame.enter P f a .normal) (Frame.enter P' f Y .normal):=by
 have l:∀n,dm ρ (a++Array.replicate (n-a.size) undef) (Y++Array.replicate (n-Y.size) undef):=λn=>by
  rw[o.size];exact dm.app o (bU.kI λv m=>by simp at m;rw[m.2];exact VR.undef)
 cases b:P.funcs[f]? with
 |none=>
  have k:P'.funcs[f]?=none:=by
   rw[qi] at b ⊢;rw[T.ai1];exact b
  unfold Frame.enter;rw[b,k];exact⟨rfl,l _,abV T _,.nil,.inl ⟨rfl,rfl⟩,⟨rfl,rfl⟩,.none⟩
 |some fn=>
  obtain⟨p,j,i⟩:=T.func f fn b;unfold Frame.enter;rw[b,j];refine⟨rfl, ?_, ?_,.nil,.inl ⟨rfl,rfl⟩,⟨rfl,rfl⟩,.none⟩
  .show dm ρ (a++Array.replicate (fn.ntmps-a.size) undef) (Y++Array.replicate (p.ntmps-Y.size) undef);rw[i.ntmps];exact l _
  .show jO P ρ [.code (fn.body.getD _)] [.code (p.body.getD _)];cases d:fn.body with
   |none=>
    obtain rfl:=i.none d;rw[d];exact abV T _
   |some c=>
    obtain⟨r,g,e⟩:=i.some c d;rw[g,e q];exact .cons (.code _) .nil
theorem ahX{s s':Sem Next}(B:iJ P ρ (fr::cs) (R::V))(L:WR ρ w w')(hs:aw P P' iC ρ s s') :
  lQ P P' ρ w w' (λbase w=>stepG.apply P true fr (cs++base) none s w) (λbase=>stepG.apply P' true R (V++base) none s' w'):=by
 have y:=B.head;have n:(fr.kind ==CallKind.early)=false:=by rw[y.kind.1];rfl
 have k:(R.kind ==CallKind.early)=false:=by rw[y.kind.2];rfl
 have F:(match fr.todo with|.call _ true _ _::_=>CallKind.wrapped|_=>CallKind.normal)=.normal:=by
  have e:=y.todo;revert e;generalize fr.todo=a;generalize R.todo=b;intro e;cases e with
  |nil=>rfl
  |cons x _=>cases x<;>rfl
 have G:(match R.todo with|.call _ true _ _::_=>CallKind.wrapped|_=>CallKind.normal)=.normal:=by
  have e:=y.todo;revert e;generalize fr.todo=a;generalize R.todo=b;intro e;cases e with
  |nil=>rfl
  |cons x _=>cases x<;>rfl
 obtain⟨g,D,H⟩:=hs.run w w' #[] #[] L;rcases H with H|⟨σ,a,j,U,q,I,p,h1,S,z,W,h5,h6,h7,Y⟩
 .refine⟨g,D,.inl λbase t e=> ?_⟩;obtain⟨h,j,nu,hr,hk⟩:=H t e;have Q:=B.marks L hk;unfold stepG.apply;simp only[hr,pr];refine mZ.after _ ?_;cases h with
  |panic v=>exact aa0 Q
  |goexit=>exact aa0 Q
  |blocked=>exact .stop (.inl rfl)
  |waiting=>exact .stop (.inr rfl)
  |exit c=>exact .ended _ _ _
  |fatal m=>exact ahV T m j
  |throw m=>exact .dying rfl rfl
  |unsupported u=>
   cases u<;>first|exact .ended _ _ _|exact api T _ j
  |stuck s=>exact .ended _ _ _
 .refine⟨g,D,.inr ?_⟩;have o:=B.mono z;have he:EvW w σ (seen P fr.fn I) (seen P' R.fn p):=by rw[y.fn];exact aaZ T _ Y
  have E:∀t,Agr w D g t->s.runT P (w.dN t) #[]=(.ok a (j.dN t),I):=λt e=>by rw[h1 t e];simp
  have C:s'.runT P' w' #[]=(.ok U q,p):=by rw[W];simp
  have fin:∀r i,(∀base t,Agr w D g t->stepG.apply P true fr (cs++base) none s (w.dN t)=.go (Gl r base) (j.dN t) (seen P fr.fn I))->(∀base,stepG.apply P' true R (V++base) none s' w'=.go (Gl i base) q (seen P' R.fn p))->GoR P P' σ r i->
    ∃σ r j O i q A,(∀base t,Agr w D g t->stepG.apply P true fr (cs++base) none s (w.dN t)=.go (Gl r base) (j.dN t) O)/\j.drawn=w.drawn+D/\ρ.Le σ/\(∀base,stepG.apply P' true R (V++base) none s' w'=.go (Gl i base) q A)/\WR σ j q/\Kept ρ σ w w' j q/\EvW w σ O A/\GoR P P' σ r i:=
   λr i q1 q2 X=>⟨σ,r,j,_,i,q,_,q1,S,z,q2,h6,h7,he,X⟩
  cases h5 with
  |@value v v' hv=>exact fin (fr.finish v::cs) (R.finish v'::V) (λbase t e=>by unfold stepG.apply;simp only[E t e,pr,n];simp[GStep.after,Gl]) (λbase=>by unfold stepG.apply;simp only[C,pr,k];simp[GStep.after,Gl]) (GoR.of (B.put z ((y.mono z).finish hv) (gF _ _)))
  |skip=>exact fin (fr.finish undef::cs) (R.finish undef::V) (λbase t e=>by unfold stepG.apply;simp only[E t e,pr,n];simp[GStep.after,Gl]) (λbase=>by unfold stepG.apply;simp only[C,pr,k];simp[GStep.after,Gl]) (GoR.of (B.put z ((y.mono z).finish VR.undef) (gF _ _)))
  |@enter f a0 K M=>
   refine fin (Frame.enter P f a0 .normal::fr::cs) (Frame.enter P' f K .normal::R::V) (λbase t e=>by unfold stepG.apply;simp only[E t e,pr,n];simp[GStep.after,Gl];exact gn (Frame.enter P f _) F) (λbase=>by unfold stepG.apply;simp only[C,pr,k];simp[GStep.after,Gl];exact gn (Frame.enter P' f _) G) ?_;cases N:gH f with
   |true=>exact .inr ⟨f,_,_,_,_,N,M,o,rfl,rfl⟩
   |false=>exact .inl (.cons (ahW T N M) o)
  |@round l l' Z f tm J e c d=>
   exact fin (Frame.round l f tm (gP c) (gP d) .normal::fr::cs) (Frame.round l' f J c d .normal::R::V) (λbase t e=>by unfold stepG.apply;simp only[E t e,pr,n];simp[GStep.after,Gl]) (λbase=>by unfold stepG.apply;simp only[C,pr,k];simp[GStep.after,Gl])
    (.inl (.cons (auy Z f e c d) o))
end
section
variable {P P':Program} {ρ σ:Ren} {w w':World}
def GlR(ρ:Ren):Prop:=∀g∈gL,ρ.r g g
def GlR.mono(h:ρ.Le σ)(x:GlR ρ):GlR σ:=λg a=>h.r (x g a)
def alD{l l':Nat}(h:ρ.r l l'){j a:Option Code}(b:j=a.map gP):aw P P' VR ρ (Instr.endRound l j) (Instr.endRound l' a):=by
 unfold Instr.endRound;refine ah (mU h) λσ x q f c=> ?_;have g:j.isNone=a.isNone:=by subst b;cases a<;>rfl
 rw[g];cases c with
 |loop p o e k n i m d=>
  exact ah (iL (f.r h) (.loop rfl b e k n i m d)) λ_ _ _ _ _=>aj (.bool _)
def apj{l l':Nat}(h:ρ.r l l'):aw P P' (λ_ q m=>q=m.map gP) ρ (Instr.endLoop l) (Instr.endLoop l'):=by
 unfold Instr.endLoop;refine ah (mU h) λσ x n e b=> ?_;cases b with
 |loop i a d g k f j c=>
  rw[i];refine aS (λ_=>dP _) λ_=> ?_;exact ah (iL (e.r h) (.loop rfl a d g k f j c)) λ_ _ _ _ _=>aj a
def ahY(h:NR ρ r L):aw P P' iC ρ (do r.elim (stuck "beginRound: no round") Instr.beginRound;pure .skip) (do L.elim (stuck "beginRound: no round") Instr.beginRound;pure .skip):=by
 cases h with
 |none=>exact .halt _ _
 |some h=>
  refine ahO ?_;show aw P P' jF ρ (Instr.beginRound _) (Instr.beginRound _);unfold Instr.beginRound;refine ah (mU h) λσ x m e a=> ?_;cases a with
  |loop i c d g k f j b=>
   refine ah (iL (e.r h) (.loop rfl c d g k f j b)) λl _ _ _ _=> ?_;rw[i];split
   .exact aj rfl
   .exact dP _
   .exact dP _
   .exact dP _
def aaI(e:Operand->Value)(a:Operand)(l:Nat)(h:∀v,e (.const v)=v):resolve e ⟨.value a,#[.const (.func (.yield l) #[] #[])],#[]⟩ 0=Deferred.ofValue (e a) #[.func (.yield l) #[] #[]]:=by
 unfold resolve;simp[h]
def EnR(ρ:Ren)(x x':Nat×List Deferred):Prop:=ρ.r x.1 x'.1/\CDs ρ x.2 x'.2
def ajj(f:FuncId)(n:dm ρ t Y)(d:Array Tmp)(a b:Code)(h:NR ρ r L):aw P P' EnR ρ (Instr.enterLoop f t d (gP a) (gP b) r) (Instr.enterLoop f Y d a b L):=by
 unfold Instr.enterLoop;have c:∀(σ:Ren) (q e:Nat×List Deferred),ρ.Le σ->EnR σ q e->aw P P' EnR σ (do
   let l<-newObj (.loop ⟨.ready,none,f,t,d,gP a,gP b,q.1⟩)
   pure (l,q.2)) (do
   let l<-newObj (.loop ⟨.ready,none,f,Y,d,a,b,e.1⟩)
   pure (l,e.2)):=λσ q e g k=>by
  refine ah (agC (show OR σ (.loop ⟨.ready,none,f,t,d,gP a,gP b,q.1⟩) (.loop ⟨.ready,none,f,Y,d,a,b,e.1⟩) from .loop rfl rfl rfl (bU.mono g n) rfl rfl rfl k.1)) λv y o j u=> ?_;exact aj (A:=EnR) (show EnR v (y,q.2) (o,e.2) from⟨u,k.2.mono j⟩)
 cases h with
 |none=>
  exact ah (agC .deferred) λσ x i g m=>c σ (x,[⟨.collected x,#[]⟩]) (i,[⟨.collected i,#[]⟩]) g ⟨m,.cons m .nil⟩
 |some h=>
  refine ah (mU h) λσ x i g p=> ?_;cases p with
  |loop B w E z D F C s=>exact c σ (_,[]) (_,[]) g ⟨s,.nil⟩
def FrR.env(j:GlR ρ)(h:FrR P ρ fr R):ad3 ρ fr.eval R.eval:=λx a=>by
 cases x with
 |tmp t=>
  show VR ρ (fr.tmps.getD t undef) (R.tmps.getD t undef);have l:=bU.size h.tmps;rw[ip,ip];cases e:fr.tmps[t]? with
  |none=>
   have:R.tmps[t]?=none:=by
    rw[qi] at e ⊢;omega
   rw[this];exact VR.undef
  |some v=>
   obtain⟨k,b,d⟩:=bU.get h.tmps (i:=t) (v:=v) (by rw[eg];exact e);rw[eg] at b;rw[b];exact d
 |const v=>exact ahN ρ 5 v a
 |global g=>exact .pointer (.some (.mk (j g (by simpa[bN] using a)) 0 none))
 |func f=>exact .func (.same (.func f) a) .nil .nil
def GoR.jP(h:∀base w,∃o a b,s base w=.ended o a b):lQ P P' ρ w w' s s':=lQ.bad λbase w=>by
 obtain⟨o,a,b,e⟩:=h base w;rw[e];exact .ended _ _ _
variable (T:Twin P P') (X:ai6 P P')
include T
theorem ax6(a b:Code):gP (.seq a b)=.seq (gP a) (gP b):=by rw[T.pc];rfl
theorem ark(id:Nat)(a:Code):gP (.block id a)=.block id (gP a):=by rw[T.pc];rfl
theorem auz(a:Code):gP (.loop a)=.loop (gP a):=by rw[T.pc];rfl
theorem arl(a:Code):gP (.scope a)=.scope (gP a):=by rw[T.pc];rfl
theorem auA:gP .skip=.skip:=by rw[T.pc];rfl
theorem arn:gP .ret=.ret:=by rw[T.pc];rfl
theorem aro(l:Nat):gP (.label l)=.label l:=by rw[T.pc];rfl
theorem anP(l:Nat):gP (.exit l)=.exit l:=by rw[T.pc];rfl
theorem auB(l:Nat):gP (.goto l)=.refuse "" :=by rw[T.pc];rfl
theorem auC(c:Operand)(a b:Code):gP (.cond c a b)=if bN gA gL c=true then .cond c (gP a) (gP b) else .refuse "" :=by rw[T.pc];rfl
theorem ahZ(f:Operand)(c:Array Tmp)(a b:Code):gP (.rangeFunc f c a b)=if bN gA gL f=true then .rangeFunc f c (gP a) (gP b) else .refuse "" :=by rw[T.pc];rfl
theorem apk{g:Oper->Oper}(c:∀o,(g o).after=o.after)(mixed:Bool)(a:Array Oper)(t:Nat):Region.schedule mixed (a.map g) t=Region.schedule mixed a t:=by
 have j:∀(m:Region.Mode) (b t:Nat) (l:Array Bool) (acc:List Nat),Region.linearise.go m (a.map g) b t l acc=Region.linearise.go m a b t l acc:=by
  intro m b
  induction b with
  |zero=>intro t l acc;rfl
  |succ n f=>
   intro t l acc;unfold Region.linearise.go;have e:∀i,((a.map g)[i]?).map (λo:Oper=>o.after.all λe=>!Region.binds m e||l.getD e.on false)=(a[i]?).map (λo:Oper=>o.after.all λe=>!Region.binds m e||l.getD e.on false):=λi=>by
    rw[rm];cases a[i]? with
    |none=>rfl
    |some o=>simp only[qe,c]
   simp only[tI,e,f]
 have d:Region.departs (a.map g)=Region.departs a:=by
  unfold Region.departs;rw[Array.any_map]
  congr 1
  funext o
  simp only[Function.comp,c]
 unfold Region.schedule Region.linearise;rw[d];simp only[j,tI]
theorem apl(id:Nat)(a:Array Oper)(c:Bool):(gP (.region id a c)=.region id a c/\aqU P a a)\/(∃d,gP (.region id a c)=.region id d c/\aqU P d a/\∀b t,Region.schedule b d t=Region.schedule b a t)\/gP (.region id a c)=.refuse "" :=by
 rw[T.pc];unfold bQ;by_cases m:(a.toList.all λo=>mz P gA gL o.op)=true
 .rw[dj m];refine .inl ⟨rfl,rfl,λi o l e f=> ?_⟩;rw[e] at f;obtain rfl:=ef f;refine .inl ⟨rfl,lc.1 m o ?_⟩;exact rU.2 (qB e)
 .rw[bv m];by_cases k:(a.toList.all λo=>mz P gA gL o.op||aau gA gL o.op)=true
  .rw[dj k];refine .inr (.inl ⟨_,rfl,⟨by simp,λi o l e f=> ?_⟩,λb t=>apk T (g:=aav gA gL gB) (λo=>by unfold aav;split<;>rfl) b a t⟩);rw[rm,f] at e;obtain rfl:=ef e;have n:=lc.1 k l (rU.2 (qB f));unfold aav;by_cases j:aau gA gL l.op=true
   .rw[dj j];exact .inr ⟨j,rfl⟩
   .rw[bv j];simp only[j,ut] at n;exact .inl ⟨rfl,n⟩
  .rw[bv k];exact .inr (.inr rfl)
theorem abW  {d : List Deferred}  {k k' : List Item} {m:Bool}  
  (a:iJ P ρ (⟨f,t,todo,d,.run,.normal,r⟩::cs) (⟨f,Y,H,I,.run,.normal,L⟩::V)) (b:WR ρ w w') (c:jO P ρ k k')
  (h:∀base w,s base w=.go ⟨⟨f,t,k,d,.run,.normal,r⟩,cs++base,.running,none,none⟩ w #[])
  (e:∀base,s' base=.go ⟨⟨f,Y,k',I,.run,.normal,L⟩,V++base,.running,none,none⟩ w' #[]):lQ P P' ρ w w' s s':=
 lQ.still b (l:=⟨f,t,k,d,.run,.normal,r⟩::cs) (l':=⟨f,Y,k',I,.run,.normal,L⟩::V) h e (GoR.of (a.put (Ren.Le.refl _) (a.head.at c) rfl))
omit T in
def iQ(p:Program)(main:Bool)(fr:Frame)(callers:List Frame)(w:World)(jump:Option Code):GStep:=
 match fr.roundOf with
 |none=>if jump matches none|some .ret then .go {frame:={fr with mode:=.returning},callers,status:=.running,dying:=none} w else .ended (.stuck "exit, goto: no such block or label" (fr.pos p)) w
 |some l=>
  let(r,es):=(Instr.endRound l jump).runT p w #[]
  GStep.after (seen p fr.fn es) <| match r with
  |.ok v w=>doReturn p main fr callers none v w
  |.halt _ w=>.ended (.stuck "range over a function: no such loop" (fr.pos p)) w
theorem ah0(m m':Bool)(C:iJ P ρ (fr::cs) (R::V))(G:WR ρ w w')(hm:fr.mode=.run)(j:Option Code)(hj:j=j.map gP) :
  lQ P P' ρ w w' (λbase w=>iQ P m fr (cs++base) w j) (λbase=>iQ P' m' R (V++base) w' j):=by
 have e:=C.head;have q:=e.round;obtain⟨f,t,i,d,F,L,r⟩:=fr;obtain⟨J,E,M,I,U,o,r'⟩:=R;dsimp only at q;cases q with
 |none=>
  unfold iQ;dsimp only;have still:=lQ.still (P:=P) (P':=P') G (l:=⟨f,t,i,d,.returning,L,none⟩::cs) (l':=⟨J,E,M,I,.returning,o,none⟩::V) (s:=λbase w=>.go ⟨⟨f,t,i,d,.returning,L,none⟩,cs++base,.running,none,none⟩ w #[]) (s':=λbase=>.go ⟨⟨J,E,M,I,.returning,o,none⟩,V++base,.running,none,none⟩ w' #[]) (λ_ _=>rfl) (λ_=>rfl) (GoR.of (C.put (Ren.Le.refl _) ⟨e.fn,e.tmps,e.todo,e.defers,.inr ⟨rfl,rfl⟩,e.kind,e.round⟩ rfl));cases j with
  |none=>exact still
  |some c=>cases c<;>first|exact still|exact lQ.bad λ_ w=>.ended _ _ _
 |@some l l' Y=>
  cases C with
  |one h h0=>cases h0
  |cons h b=>
   obtain⟨g,D,H⟩:=(alD (P:=P) (P':=P') Y hj).run w w' #[] #[] G;rcases H with H|⟨σ,a,K,Q,Z,us,z,h1,O,A,S,h5,h6,h7,X⟩
   .refine⟨g,D,.inl λbase t y=> ?_⟩;obtain⟨h,K,nu,q,B⟩:=H t y;unfold iQ;simp only[q];exact mZ.after _ (.ended _ _ _)
   .refine⟨g,D,.inr ?_⟩;have B:=e.kind;dsimp only at B;obtain⟨rfl,rfl⟩:=B;have N:=e.fn;dsimp only at N;subst N;have k:∀(p:Program) (m:Bool) (x:Frame) (l:List Frame) (v:Value) (w:World) (tm:Array Value) (td:List Item) (ds:List Deferred) (F:FrameMode) (W:Nat),doReturn p m ⟨f,tm,td,ds,F,.normal,some W⟩ (x::l) none v w=.go ⟨x.finish v,l,.running,none,none⟩ w #[]:=λ_ _ _ _ _ _ _ _ _ _ _=>rfl;obtain⟨x,n,rfl⟩:∃x n,cs=x::n:=by cases b<;>exact⟨_,_,rfl⟩
    obtain⟨x',u,rfl⟩:∃x n,V=x::n:=by cases b<;>exact⟨_,_,rfl⟩
    refine⟨σ,x.finish a::n,K,seen P f us,x'.finish Q::u,Z,seen P' f z,λbase t y=> ?_,O,A,λbase=> ?_,h6,h7,aaZ T f X,GoR.of (b.put A ((b.head.mono A).finish h5) (gF _ _))⟩
    .unfold iQ;simp only[h1 t y,qR,k];simp[GStep.after,Gl]
    .unfold iQ;simp only[S,qR,k];simp[GStep.after,Gl]
theorem lQ.seq  {t₁:Tape} {D:Nat} {y : World} {e : Array Event} (s1:List Frame->World->GStep) (s1':List Frame->GStep) (f:FuncId)
  (p:∀base t,Agr w D t₁ t->s base (w.dN t)=(s1 base (J.dN t)).after (seen P f O)) (A:J.drawn=w.drawn+D) (N:ρ.Le σ) (C:∀base,s' base=(s1' base).after (seen P' f e)) (r:Kept ρ σ w w' J y) (I:EvW w σ O e)
  (H:lQ P P' σ J y s1 s1'):lQ P P' ρ w w' s s':=by
 obtain⟨d,E,H⟩:=H;have a:∀t,Agr w (D+E) (λi q=>if i<J.drawn then t₁ i q else d i q) t->Agr w D t₁ t/\Agr J E d t:=λt c=>⟨λi q v R=>by
  rw[c i q v (by omega)];exact dj (by omega),λi q v R=>by
  rw[c i q (by omega) (by omega)];exact bv (by omega)⟩
 refine⟨λi q=>if i<J.drawn then t₁ i q else d i q,D+E,H.imp (λH base t c=> ?_) ?_⟩
 .rw[p base t (a t c).1];exact mZ.after _ (H base t (a t c).2)
 .rintro⟨M,G,S,L,j,l,k,z,Q,o,U,F,K,m,B⟩;have u:=aaZ T f I;refine⟨M,G,S,seen P f O++L,j,l,seen P' f e++k,λbase t c=> ?_,by rw[Q,A,uW],N.trans o,λbase=> ?_,F,r.trans K,⟨?_,λb n x g=> ?_⟩,B⟩
  .rw[p base t (a t c).1,z base t (a t c).2];rfl
  .rw[C,U];rfl
  .rw[pv,pv];exact(u.ev.mono o).app m.ev
  .rw[pv,io] at g;rcases g with g|g
   .exact u.nw b n x g
   .exact m.nw b (r.frz b n) x g
include X
theorem az4(hg:GlR ρ)(m m':Bool)(A:iJ P ρ (fr::cs) (R::V))(C:WR ρ w w')(hm:fr.mode=.run) :
  lQ P P' ρ w w' (λbase w=>stepG P m ⟨fr,cs++base,.running,none,none⟩ w) (λbase=>stepG P' m' ⟨R,V++base,.running,none,none⟩ w'):=by
 have mG:=A.head;have a5:=mG.env hg;obtain⟨f,t,aQ,d,md,kd,r⟩:=fr;obtain⟨f',B,fR,J,af,aV,E⟩:=R;obtain⟨h1,h2,h3,h4,h5,h6,h7⟩:=mG;dsimp only at h1 h2 h3 h4 h5 h6 h7 hm;subst h1;subst hm;obtain⟨rfl,rfl⟩:=h6;obtain rfl:af=.run:=by
  rcases h5 with h5|h5
  .exact h5.2
  .cases h5.1
 cases h3 with
 |nil=>
  have G:∀base w,stepG P m ⟨⟨f,t,[],d,.run,.normal,r⟩,cs++base,.running,none,none⟩ w=iQ P m ⟨f,t,[],d,.run,.normal,r⟩ (cs++base) w none:=λ_ _=>rfl;have L:∀base,stepG P' m' ⟨⟨f,B,[],J,.run,.normal,E⟩,V++base,.running,none,none⟩ w'=iQ P' m' ⟨f,B,[],J,.run,.normal,E⟩ (V++base) w' none:=λ_=>rfl;simp only[G,L];exact ah0 T m m' A C rfl none rfl
 |@cons x x' k F hx I=>
  cases hx with
  |inBlock id=>exact abW T (m:=m) A C I (λbase w=>by simp[stepG,stepG.exec]) (λbase=>by simp[stepG,stepG.exec])
  |inScope c=>exact abW T (m:=m) A C I (λbase w=>by simp[stepG,stepG.exec]) (λbase=>by simp[stepG,stepG.exec])
  |inLoop c=>exact abW T (m:=m) A C (.cons (.code c) (.cons (.inLoop c) I)) (λbase w=>by simp[stepG,stepG.exec]) (λbase=>by simp[stepG,stepG.exec])
  |inRangeFunc hl=>exact GoR.jP λbase w=>⟨_,_,_,by simp[stepG,stepG.exec];exact⟨rfl,rfl,rfl⟩⟩
  |@endRangeFunc l l' hl=>
   obtain⟨t₁,D,H⟩:=(apj (P:=P) (P':=P') hl).run w w' #[] #[] C;rcases H with H|⟨σ,a,w1,a',cZ,us,a7,h1,h2,h3,h4,h5,h6,ao,h8⟩
   .refine⟨t₁,D,.inl λbase K M=> ?_⟩;obtain⟨h,w1,nu,hr,a8⟩:=H K M;have Z:=A.marks C a8;simp only[stepG,stepG.exec,hr];refine mZ.after _ ?_;cases h<;>first|exact aa0 Z|exact .ended _ _ _
   .have hi:jO P σ ((a.map Item.code).toList++k) ((a'.map Item.code).toList++F):=by
     subst h5;cases a' with
     |none=>exact I.mono h3
     |some c=>exact .cons (.code c) (I.mono h3)
    refine⟨t₁,D,.inr ⟨σ,⟨f,t,(a.map Item.code).toList++k,d,.run,.normal,r⟩::cs,w1,seen P f us,⟨f,B,(a'.map Item.code).toList++F,J,.run,.normal,E⟩::V,cZ,seen P' f a7,λbase K M=> ?_,h2,h3,λbase=> ?_,h6,ao,aaZ T f h8,GoR.of (A.put h3 ((A.head.mono h3).at hi) rfl)⟩⟩
    .simp only[stepG,stepG.exec,h1 K M];simp[GStep.after,Gl]
    .simp only[stepG,stepG.exec,h4];simp[GStep.after,Gl]
  |beginRound=>
   have G:∀base w,stepG P m ⟨⟨f,t,.beginRound::k,d,.run,.normal,r⟩,cs++base,.running,none,none⟩ w=stepG.apply P true ⟨f,t,.beginRound::k,d,.run,.normal,r⟩ (cs++base) none (do r.elim (stuck "beginRound: no round") Instr.beginRound;pure .skip) w:=λ_ _=>rfl;have L:∀base,stepG P' m' ⟨⟨f,B,.beginRound::F,J,.run,.normal,E⟩,V++base,.running,none,none⟩ w'=stepG.apply P' true ⟨f,B,.beginRound::F,J,.run,.normal,E⟩ (V++base) none (do E.elim (stuck "beginRound: no round") Instr.beginRound;pure .skip) w':=λ_=>rfl;simp only[G,L];exact ahX T A C (ahY h7)
  |@inRegion n u N l=>
   cases l with
   |nil=>exact abW T (m:=m) A C I (λbase w=>by simp[stepG,stepG.exec]) (λbase=>by simp[stepG,stepG.exec])
   |cons i z=>
    have aa:=A.head.finish VR.undef;have aP:∀j,yielded n t j=yielded u B j:=λj=>by
     unfold yielded;rw[N.dst j];cases((u[j]?).bind (·.dst)) with
     |none=>rfl
     |some x=>
      show(match t[x]? with|some (.bool b)=>some b|_=>none)=(match B[x]? with|some (.bool b)=>some b|_=>none);have hs:=bU.size h2;cases e:t[x]? with
      |none=>
       have:B[x]?=none:=by
        rw[qi] at e ⊢;omega
       rw[this]
      |some v=>
       obtain⟨v',G,L⟩:=bU.get h2 (i:=x) (v:=v) (by rw[eg];exact e);rw[eg] at G;rw[G];cases L<;>first|rfl|(cases v'<;>first|rfl|(cases(by assumption:jI _=true);done))
    have skip:(((n[i]?).map (Region.wanted · (yielded n t))).getD false=false)->(((u[i]?).map (Region.wanted · (yielded u B))).getD false=false)->lQ P P' ρ w w' (λbase w=>stepG P m ⟨⟨f,t,.inRegion n (i::z)::k,d,.run,.normal,r⟩,cs++base,.running,none,none⟩ w) (λbase=>stepG P' m' ⟨⟨f,B,.inRegion u (i::z)::F,J,.run,.normal,E⟩,V++base,.running,none,none⟩ w'):=λG L=>
     lQ.still C (l:=_::cs) (l':=_::V) (λbase w=>by simp only[stepG,stepG.exec,G];rfl) (λbase=>by simp only[stepG,stepG.exec,L];rfl) (GoR.of (A.put (Ren.Le.refl _) aa (gF _ _)))
    cases eo:n[i]? with
    |none=>
     have W:u[i]?=none:=by
      have:=N.1;rw[qi] at eo ⊢;omega
     exact skip (by rw[eo];rfl) (by rw[W];rfl)
    |some o=>
     obtain⟨S,W⟩:∃S,u[i]?=some S:=by
      have:=(dq.1 eo).1;have:=N.1;exact⟨_,gt (by omega)⟩
     have a2:=N.2 i o S eo W;have ay:o.guard=S.guard:=by rcases a2 with⟨rfl,_⟩|⟨_,rfl⟩<;>rfl
     have a4:Region.wanted o (yielded n t)=Region.wanted S (yielded u B):=by
      unfold Region.wanted;rw[ay];cases S.guard with
      |none=>rfl
      |some g=>obtain⟨j,b⟩:=g;show(yielded n t j ==some b)=(yielded u B j ==some b);rw[aP j]
     cases ew:Region.wanted S (yielded u B) with
     |false=>exact skip (by rw[eo];simp[a4,ew]) (by rw[W];simp[ew])
     |true=>
      rw[ew] at a4;have nd:(∀c,o.op ≠ .defer c)/\∀c,S.op ≠ .defer c:=by
       rcases a2 with⟨rfl,O⟩|⟨Y,rfl⟩
       .have:∀c,o.op ≠ .defer c:=λc e=>by rw[e] at O;unfold mz at O;simp at O
        exact⟨this,this⟩
       .have:∀c,S.op ≠ .defer c:=λc e=>by rw[e] at Y;cases Y
        exact⟨this,this⟩
      have a1:aw P P' iC ρ (execOp (Frame.eval ⟨f,t,.inRegion n (i::z)::k,d,.run,.normal,r⟩) o) (execOp (Frame.eval ⟨f,B,.inRegion u (i::z)::F,J,.run,.normal,E⟩) S):=by
       rcases a2 with⟨rfl,O⟩|⟨Y,an⟩
       .exact ari T X O a5
       .exact aCC T X Y an a5
      have G:∀base w,stepG P m ⟨⟨f,t,.inRegion n (i::z)::k,d,.run,.normal,r⟩,cs++base,.running,none,none⟩ w=stepG.apply P true ⟨f,t,.inRegion n (i::z)::k,d,.run,.normal,r⟩ (cs++base) none (execOp (Frame.eval ⟨f,t,.inRegion n (i::z)::k,d,.run,.normal,r⟩) o) w:=λbase w=>by
       simp only[stepG,stepG.exec,eo,qe,qo,a4,pr,stepG.oper,Frame.oper?];cases r with
       |none=>rfl
       |some l0=>
        have:=nd.1;split
        .rename_i Q;exact absurd Q (this _)
        .rfl
      have L:∀base,stepG P' m' ⟨⟨f,B,.inRegion u (i::z)::F,J,.run,.normal,E⟩,V++base,.running,none,none⟩ w'=stepG.apply P' true ⟨f,B,.inRegion u (i::z)::F,J,.run,.normal,E⟩ (V++base) none (execOp (Frame.eval ⟨f,B,.inRegion u (i::z)::F,J,.run,.normal,E⟩) S) w':=λbase=>by
       simp only[stepG,stepG.exec,W,qe,qo,ew,pr,stepG.oper,Frame.oper?];cases E with
       |none=>rfl
       |some l0=>
        have:=nd.2;split
        .rename_i Q;exact absurd Q (this _)
        .rfl
      simp only[G,L];exact ahX T A C a1
  |code c=>
   cases c with
   |skip=>rw[auA T] at *;exact abW T (m:=m) A C I (λbase w=>by simp[stepG,stepG.exec]) (λbase=>by simp[stepG,stepG.exec])
   |label l=>rw[aro T] at *;exact abW T (m:=m) A C I (λbase w=>by simp[stepG,stepG.exec]) (λbase=>by simp[stepG,stepG.exec])
   |seq a b=>rw[ax6 T] at *;exact abW T (m:=m) A C (.cons (.code a) (.cons (.code b) I)) (λbase w=>by simp[stepG,stepG.exec]) (λbase=>by simp[stepG,stepG.exec])
   |block id a=>rw[ark T] at *;exact abW T (m:=m) A C (.cons (.code a) (.cons (.inBlock id) I)) (λbase w=>by simp[stepG,stepG.exec]) (λbase=>by simp[stepG,stepG.exec])
   |loop a=>rw[auz T] at *;exact abW T (m:=m) A C (.cons (.code a) (.cons (.inLoop a) I)) (λbase w=>by simp[stepG,stepG.exec]) (λbase=>by simp[stepG,stepG.exec])
   |scope a=>rw[arl T] at *;exact abW T (m:=m) A C (.cons (.code a) (.cons (.inScope a) I)) (λbase w=>by simp[stepG,stepG.exec]) (λbase=>by simp[stepG,stepG.exec])
   |refuse s=>rw[agP T] at *;exact GoR.jP λbase w=>⟨_,_,_,by simp[stepG,stepG.exec];exact⟨rfl,rfl,rfl⟩⟩
   |goto l=>rw[auB T] at *;exact GoR.jP λbase w=>⟨_,_,_,by simp[stepG,stepG.exec];exact⟨rfl,rfl,rfl⟩⟩
   |cond c a b=>
    rw[auC T] at *;by_cases Q:bN gA gL c=true
    .rw[dj Q] at *;have hv:=a5 c Q;generalize a0:Frame.eval ⟨f,t,.code (.cond c (gP a) (gP b))::k,d,.run,.normal,r⟩ c=v at hv;generalize aG:Frame.eval ⟨f,B,.code (.cond c a b)::F,J,.run,.normal,E⟩ c=v' at hv;cases hv with
     |bool q=>
      have hi:jO P ρ (.code (if q=true then gP a else gP b)::k) (.code (if q=true then a else b)::F):=by
       cases q with
       |true=>exact .cons (.code a) I
       |false=>exact .cons (.code b) I
      exact abW T (m:=m) A C hi (λbase w=>by simp[stepG,stepG.exec,a0]) (λbase=>by simp[stepG,stepG.exec,aG])
     |abt=>exact GoR.jP λbase w=>⟨_,_,_,by unfold aoT at a0;simp[stepG,stepG.exec,a0];first|exact⟨rfl,rfl,rfl⟩|rfl⟩
     |_=>exact GoR.jP λbase w=>⟨_,_,_,by simp[stepG,stepG.exec,a0];exact⟨rfl,rfl,rfl⟩⟩
    .rw[bv Q] at *;exact GoR.jP λbase w=>⟨_,_,_,by simp[stepG,stepG.exec];exact⟨rfl,rfl,rfl⟩⟩
   |exit id=>
    rw[anP T] at *;rcases I.exit id with⟨x1,x2⟩|⟨l,l',x1,x2,hl⟩
    .have G:∀base w,stepG P m ⟨⟨f,t,.code (.exit id)::k,d,.run,.normal,r⟩,cs++base,.running,none,none⟩ w=iQ P m ⟨f,t,.code (.exit id)::k,d,.run,.normal,r⟩ (cs++base) w (some (.exit id)):=λbase w=>by simp[stepG,stepG.exec,x1,iQ];rfl
     have L:∀base,stepG P' m' ⟨⟨f,B,.code (.exit id)::F,J,.run,.normal,E⟩,V++base,.running,none,none⟩ w'=iQ P' m' ⟨f,B,.code (.exit id)::F,J,.run,.normal,E⟩ (V++base) w' (some (.exit id)):=λbase=>by simp[stepG,stepG.exec,x2,iQ];rfl
     simp only[G,L];exact ah0 T m m' A C rfl (some (.exit id)) (by rw[qe,anP T])
    .exact abW T (m:=m) A C hl (λbase w=>by simp[stepG,stepG.exec,x1]) (λbase=>by simp[stepG,stepG.exec,x2])
   |ret=>
    rw[arn T] at *;have G:∀base w,stepG P m ⟨⟨f,t,.code .ret::k,d,.run,.normal,r⟩,cs++base,.running,none,none⟩ w=iQ P m ⟨f,t,.code .ret::k,d,.run,.normal,r⟩ (cs++base) w (some .ret):=λ_ _=>rfl;have L:∀base,stepG P' m' ⟨⟨f,B,.code .ret::F,J,.run,.normal,E⟩,V++base,.running,none,none⟩ w'=iQ P' m' ⟨f,B,.code .ret::F,J,.run,.normal,E⟩ (V++base) w' (some .ret):=λ_=>rfl;simp only[G,L];exact ah0 T m m' A C rfl (some .ret) (by rw[qe,arn T])
   |region id n draw=>
    rcases apl T id n draw with⟨e,N⟩|⟨U,e,N,ad⟩|e
    .rw[e] at *;cases draw with
     |false=>exact abW T (m:=m) A C (.cons (.inRegion N (List.range n.size)) I) (λbase w=>by simp[stepG,stepG.exec]) (λbase=>by simp[stepG,stepG.exec])
     |true=>
      have G:∀(p:Program) (q:Question) (w:World),q.forced=false->(choose q).run p w=.ok (q.cut (w.tape w.drawn q)) {w with drawn:=w.drawn+1}:=λp q w hq=>by
       unfold choose;rw[Sem.run,hq];rfl
      obtain⟨q1,q2⟩:=C.ask 1 1;have hi:jO P ρ (.inRegion n (Region.schedule (P.follows .mixedOrders) n (w'.tape w'.drawn (.order f id)))::k) (.inRegion n (Region.schedule (P'.follows .mixedOrders) n (w'.tape w'.drawn (.order f id)))::F):=by
       rw[T.follows];exact .cons (.inRegion N _) I
      refine⟨λ_ _=>w'.tape w'.drawn (.order f id),1,.inr ⟨ρ,⟨f,t,.inRegion n (Region.schedule (P.follows .mixedOrders) n (w'.tape w'.drawn (.order f id)))::k,d,.run,.normal,r⟩::cs,{w with drawn:=w.drawn+1},#[],⟨f,B,.inRegion n (Region.schedule (P'.follows .mixedOrders) n (w'.tape w'.drawn (.order f id)))::F,J,.run,.normal,E⟩::V,{w' with drawn:=w'.drawn+1},#[],λbase K M=> ?_,rfl,Ren.Le.refl _,λbase=> ?_,q1,q2,.nil _ _,GoR.of (A.put (Ren.Le.refl _) (A.head.at hi) rfl)⟩⟩
      .have hd:=M w.drawn (.order f id) (am _) (by omega);simp only[stepG,stepG.exec,G P (.order f id) (w.dN K) rfl];show GStep.go _ _ _=_;have:(w.dN K).tape (w.dN K).drawn (.order f id)=w'.tape w'.drawn (.order f id):=hd;simp only[Question.cut,this];rfl
      .simp only[stepG,stepG.exec,G P' (.order f id) w' rfl];rfl
    .rw[e] at *;have al:List.range U.size=List.range n.size:=by rw[N.1]
     cases draw with
     |false=>exact abW T (m:=m) A C (.cons (.inRegion N (List.range n.size)) I) (λbase w=>by simp[stepG,stepG.exec,al]) (λbase=>by simp[stepG,stepG.exec])
     |true=>
      have G:∀(p:Program) (q:Question) (w:World),q.forced=false->(choose q).run p w=.ok (q.cut (w.tape w.drawn q)) {w with drawn:=w.drawn+1}:=λp q w hq=>by
       unfold choose;rw[Sem.run,hq];rfl
      obtain⟨q1,q2⟩:=C.ask 1 1;have hi:jO P ρ (.inRegion U (Region.schedule (P.follows .mixedOrders) U (w'.tape w'.drawn (.order f id)))::k) (.inRegion n (Region.schedule (P'.follows .mixedOrders) n (w'.tape w'.drawn (.order f id)))::F):=by
       rw[T.follows,ad];exact .cons (.inRegion N _) I
      refine⟨λ_ _=>w'.tape w'.drawn (.order f id),1,.inr ⟨ρ,⟨f,t,.inRegion U (Region.schedule (P.follows .mixedOrders) U (w'.tape w'.drawn (.order f id)))::k,d,.run,.normal,r⟩::cs,{w with drawn:=w.drawn+1},#[],⟨f,B,.inRegion n (Region.schedule (P'.follows .mixedOrders) n (w'.tape w'.drawn (.order f id)))::F,J,.run,.normal,E⟩::V,{w' with drawn:=w'.drawn+1},#[],λbase K M=> ?_,rfl,Ren.Le.refl _,λbase=> ?_,q1,q2,.nil _ _,GoR.of (A.put (Ren.Le.refl _) (A.head.at hi) rfl)⟩⟩
      .have hd:=M w.drawn (.order f id) (am _) (by omega);simp only[stepG,stepG.exec,G P (.order f id) (w.dN K) rfl];show GStep.go _ _ _=_;have:(w.dN K).tape (w.dN K).drawn (.order f id)=w'.tape w'.drawn (.order f id):=hd;simp only[Question.cut,this];rfl
      .simp only[stepG,stepG.exec,G P' (.order f id) w' rfl];rfl
    .rw[e] at *;exact GoR.jP λbase w=>⟨_,_,_,by simp[stepG,stepG.exec];exact⟨rfl,rfl,rfl⟩⟩
   |rangeFunc fo ps a b=>
    rw[ahZ T] at *;by_cases Q:bN gA gL fo=true
    .rw[dj Q] at *;obtain⟨t₁,D,H⟩:=(ajj (P:=P) (P':=P') f h2 ps a b h7).run w w' #[] #[] C;rcases H with H|⟨σ,q,w1,q',cZ,us,a7,g1,g2,g3,g4,g5,g6,g7,g8⟩
     .refine⟨t₁,D,.inl λbase K M=> ?_⟩;obtain⟨h,w1,nu,hr,a8⟩:=H K M;simp only[stepG,stepG.exec,hr];exact mZ.after _ (.ended _ _ _)
     .obtain⟨lp,mk⟩:=q;obtain⟨a3,mk'⟩:=q';obtain⟨a6,Z⟩:=g5;dsimp only at a6 Z;have ax:∀{x x' y y':List Deferred},CDs σ x x'->CDs σ y y'->CDs σ (x++y) (x'++y'):=by
       intro x x' y y' hx hy
       induction hx with
       |nil=>exact hy
       |cons hb _ ih=>exact .cons hb ih
      have a9:iJ P σ (⟨f,t,.inRangeFunc lp::k,mk++d,.run,.normal,r⟩::cs) (⟨f,B,.inRangeFunc a3::F,mk'++J,.run,.normal,E⟩::V):=
       A.put g3 ⟨rfl,bU.mono g3 h2,.cons (.inRangeFunc a6) (I.mono g3),ax Z (h4.mono g3),.inl ⟨rfl,rfl⟩,⟨rfl,rfl⟩,h7.mono g3⟩ rfl
      have aK:=a9.head.env (hg.mono g3);have a1:=anO T X (aK fo Q) (args:=#[.func (.yield lp) #[] #[]]) (args':=#[.func (.yield a3) #[] #[]]) (.cons (.func (.yield a6) .nil .nil) .nil);refine lQ.seq T (s1:=λbase w=>stepG.apply P true ⟨f,t,.inRangeFunc lp::k,mk++d,.run,.normal,r⟩ (cs++base) none _ w) (s1':=λbase=>stepG.apply P' true ⟨f,B,.inRangeFunc a3::F,mk'++J,.run,.normal,E⟩ (V++base) none _ cZ) f (t₁:=t₁) (D:=D) (λbase K M=> ?_) g2 g3 (λbase=> ?_) g7 g8 (ahX T a9 g6 a1)
      .simp only[stepG,stepG.exec,g1 K M,Array.empty_append];rw[aaI _ _ _ λ_=>rfl]
      .simp only[stepG,stepG.exec,g4,Array.empty_append];rw[aaI _ _ _ λ_=>rfl]
    .rw[bv Q] at *;exact GoR.jP λbase w=>⟨_,_,_,by simp[stepG,stepG.exec];exact⟨rfl,rfl,rfl⟩⟩
end
def pD(l:List Frame):Prop:=∃a,l=[a]/\a.mode=.returning/\a.defers=[]/\a.kind=.normal
section
variable {P P':Program} {ρ σ:Ren} {w w':World}
def ae6{l l':Nat}(h:ρ.r l l'):aw P P' (λ_ q b=>q=[]/\b=[]) ρ (Instr.takeDeferred l) (Instr.takeDeferred l'):=by
 unfold Instr.takeDeferred;refine ah (eO h) λσ x d c a=> ?_;cases a with
 |deferred=>exact ah (iL (c.r h) .bI) λ_ _ _ _ _=>aj ⟨rfl,rfl⟩
 |_=>exact .halt _ _
variable (T:Twin P P') (X:ai6 P P')
include T
theorem ajk:∀(l:List ResultVar) {ρ:Ren} {t b:Array Value},dm ρ t b->aw P P' bU ρ (l.mapM fun
  |.tmp k=>pure (t.getD k undef)
  |.cell a c=>do loadVar c (<-asAddr (t.getD a undef))) (l.mapM fun
  |.tmp k=>pure (b.getD k undef)
  |.cell a c=>do loadVar c (<-asAddr (b.getD a undef)))
 |[],_,_,_,_=>by
  rw[List.mapM_nil,List.mapM_nil];exact aj .nil
 |x::l,ρ,t,b,h=>by
  have g:∀(σ:Ren) (k:Nat),ρ.Le σ->VR σ (t.getD k undef) (b.getD k undef):=λσ k d=>by
   have y:=bU.size h;rw[ip,ip];cases e:t[k]? with
   |none=>
    have:b[k]?=none:=by
     rw[qi] at e ⊢;omega
    rw[this];exact VR.undef
   |some v=>
    obtain⟨m,j,n⟩:=bU.get h (i:=k) (v:=v) (by rw[eg];exact e);rw[eg] at j;rw[j];exact n.mono d
  rw[vR,vR];refine ah (A:=VR) ?_ λσ v m d r=>ah (ajk l (bU.mono d h)) λs u q o f=>aj (.cons (r.mono o) f);cases x with
  |tmp k=>exact aj (g ρ k (Ren.Le.refl _))
  |cell a c=>exact ah (ai3 (g ρ a (Ren.Le.refl _))) λσ x w d p=>agD T c p
theorem agQ{fn g:Func}(k:g.results=fn.results)(h:dm ρ t Y):aw P P' VR ρ (results fn t) (results g Y):=by
 unfold results;rw[k,tS,tS,map_eq_pure_bind,map_eq_pure_bind];refine ah (A:=dm) (ah (ajk T fn.results.toList h) λ_ _ _ _ b=>aj (A:=dm) b) λσ c a m b=> ?_;have n:c.size=a.size:=bU.size b;refine aj ?_;by_cases e:c.size=1
 .have d:a.size=1:=by omega
  rw[tF e,tF d];obtain⟨l,f,j⟩:=bU.get b (i:=0) (v:=c[0]) (by rw[eg];exact gt (by omega));rw[eg,gt (by omega)] at f;obtain rfl:=ef f;exact j
 .have d:¬a.size=1:=by omega
  rw[dif_neg e,dif_neg d];exact .tuple b
theorem az6(m m':Bool)(hS:iJ P ρ (fr::cs) (R::V))(N:WR ρ w w')(hm:fr.mode=.returning)(hn:fr.defers≠[]\/cs≠[]) :
  lQ P P' ρ w w' (λbase w=>stepG P m ⟨fr,cs++base,.running,none,none⟩ w) (λbase=>stepG P' m' ⟨R,V++base,.running,none,none⟩ w'):=by
 have mG:=hS.head;obtain⟨f,t,E,d,md,kd,r⟩:=fr;obtain⟨f',I,fR,d',K,a1,r'⟩:=R;obtain⟨G,o,h3,h4,A,h6,h7⟩:=mG;dsimp only at G o h3 h4 A h6 h7 hm hn;subst G;subst hm;obtain⟨rfl,rfl⟩:=h6;obtain rfl:K=.returning:=by
  rcases A with A|A
  .cases A.1
  .exact A.2
 cases h4 with
 |@cons b b' ds M hb hl=>
  obtain⟨g,D,H⟩:=(ae6 (P:=P) (P':=P') hb).run w w' #[] #[] N;rcases H with H|⟨σ,a,F,a',Q,S,s,Y,W,k,O,g5,U,L,X⟩
  .refine⟨g,D,.inl λbase u q=> ?_⟩;obtain⟨h,F,nu,Z,J⟩:=H u q;simp only[stepG,unwind,Z];exact mZ.after _ (.ended _ _ _)
  .obtain⟨rfl,rfl⟩:=g5;refine⟨g,D,.inr ⟨σ,⟨f,t,E,ds,.returning,.normal,r⟩::cs,F,seen P f S,⟨f,I,fR,M,.returning,.normal,r'⟩::V,Q,seen P' f s,λbase u q=> ?_,W,k,λbase=> ?_,U,L,aaZ T f X,
    GoR.of (hS.put k ⟨rfl,bU.mono k o,h3.mono k,hl.mono k,.inr ⟨rfl,rfl⟩,⟨rfl,rfl⟩,h7.mono k⟩ rfl)⟩⟩
   .simp only[stepG,unwind,Y u q];simp[GStep.after,Gl]
   .simp only[stepG,unwind,O];simp[GStep.after,Gl]
 |nil=>
  have a0:cs≠[]:=hn.resolve_left λh=>h rfl;cases hS with
  |one h h0=>exact absurd rfl a0
  |cons h j=>
   obtain⟨x,B,rfl⟩:∃x B,cs=x::B:=by cases j<;>exact⟨_,_,rfl⟩
   obtain⟨x',C,rfl⟩:∃x B,V=x::B:=by cases j<;>exact⟨_,_,rfl⟩
   have n:∀(p:Program) (m:Bool) (x:Frame) (l:List Frame) (v:Value) (w:World) (tm:Array Value) (td:List Item) (r:Option Nat),doReturn p m ⟨f,tm,td,[],.returning,.normal,r⟩ (x::l) none v w=.go ⟨x.finish v,l,.running,none,none⟩ w #[]:=λ_ _ _ _ _ _ _ _ _=>rfl;cases z:P.funcs[f]? with
   |none=>
    have y:P'.funcs[f]?=none:=by
     rw[qi] at z ⊢;rw[T.ai1];exact z
    have hv:VR ρ (t.getD 0 undef) (I.getD 0 undef):=by
     have hz:=bU.size o;rw[ip,ip];cases e:t[0]? with
     |none=>
      have:I[0]?=none:=by
       rw[qi] at e ⊢;omega
      rw[this];exact VR.undef
     |some v=>
      obtain⟨v',G,o⟩:=bU.get o (i:=0) (v:=v) (by rw[eg];exact e);rw[eg] at G;rw[G];exact o
    refine lQ.still N (l:=x.finish (t.getD 0 undef)::B) (l':=x'.finish (I.getD 0 undef)::C) (λbase w=> ?_) (λbase=> ?_) (GoR.of (j.put (Ren.Le.refl _) (j.head.finish hv) (gF _ _)))
    .simp only[stepG,unwind,z,qR,n,Gl]
    .simp only[stepG,unwind,y,qR,n,Gl]
   |some fn=>
    obtain⟨dt,y,hR⟩:=T.func f fn z;obtain⟨g,D,H⟩:=(agQ T hR.results o).run w w' #[] #[] N;rcases H with H|⟨σ,a,F,a',Q,S,s,Y,W,k,O,g5,U,L,X⟩
    .refine⟨g,D,.inl λbase u q=> ?_⟩;obtain⟨h,F,nu,Z,J⟩:=H u q;simp only[stepG,unwind,z,Z];refine mZ.after _ ?_;cases h<;>exact .ended _ _ _
    .refine⟨g,D,.inr ⟨σ,x.finish a::B,F,seen P f S,x'.finish a'::C,Q,seen P' f s,λbase u q=> ?_,W,k,λbase=> ?_,U,L,aaZ T f X,GoR.of (j.put k ((j.head.mono k).finish g5) (gF _ _))⟩⟩
     .simp only[stepG,unwind,z,Y u q,qR,n];simp[GStep.after,Gl]
     .simp only[stepG,unwind,y,O,qR,n];simp[GStep.after,Gl]
include X
theorem ayb(j:GlR ρ)(m m':Bool)(a:iJ P ρ l l')(d:WR ρ w w')(k:¬pD l) :
  lQ P P' ρ w w' (λbase w=>stepG P m (Gl l base) w) (λbase=>stepG P' m' (Gl l' base) w'):=by
 obtain⟨f,n,rfl⟩:∃x c,l=x::c:=by cases a<;>exact⟨_,_,rfl⟩
 obtain⟨p,g,rfl⟩:∃x c,l'=x::c:=by cases a<;>exact⟨_,_,rfl⟩
 rcases a.head.mode with b|b
 .exact az4 T X j m m' a d b.1
 .refine az6 T m m' a d b.1 ?_;refine qF λh=>k ?_;have o:f.defers=[]:=qF λe=>h (.inl e);have i:n=[]:=qF λe=>h (.inr e);subst i;exact⟨f,rfl,b.1,o,a.head.kind.1⟩
end
def iE(dst:Option Tmp)(op:Op)(t:TypeId):Oper:={dst,op,type:=t,pos:= "",after:=#[],guard:=none}
abbrev cD:FuncId:=67
abbrev nCC:FuncId:=198
def cj:Code->Code
 |.seq _ b=>b
 |c=>c
noncomputable def cT:Code:=cj (cj (cj (cj (cj (f67.body.getD .skip)))))
def auD(r:Nat)(ops:Array Oper)(t:Tmp):Code:=.seq (.region r ops false) (.cond (.tmp t) .skip (.refuse ""))
def aa1(r:Nat)(ops:Array Oper)(t:Tmp):Code:=.seq (.region r ops false) (.cond (.tmp t) (.refuse "") .skip)
def aa2(d:Tmp)(x y:Operand):Oper:=iE (some d) (.binOp .lss 3 x y 3) 4
def auE(d:Tmp)(x y:Operand):Oper:=iE (some d) (.binOp .eql 3 x y 3) 4
def auF(d:Tmp)(x:Operand):Oper:=iE (some d) (.binOp .mul 3 x (.const (.int .i64 1)) 3) 3
def auG(d:Tmp)(x:Operand):Oper:=iE (some d) (.binOp .add 3 x (.const (.int .i64 1)) 3) 3
def arq(d:Tmp)(x:Tmp)(ty:TypeId):Oper:=iE (some d) (.call ⟨.builtin .len,#[.tmp x],#[ty]⟩) 3
def auH(d:Tmp)(x:Tmp)(ty:TypeId):Oper:=iE (some d) (.call ⟨.builtin .cap,#[.tmp x],#[ty]⟩) 3
def apm(d:Tmp)(n:Int):Oper:=iE (some d) (.assign (.const (.int .i64 n))) 3
abbrev kOp(n:Int):Operand:=.const (.int .i64 n)
def awJ:Array Oper:=#[
  iE (some 6) (.assign (.const (.slice none 0 0))) 117,
  iE (some 7) (.assign (.const (.bool false))) 4,
  aa2 16 (.tmp 0) (kOp 1)]
def awK:Array Oper:=#[aa2 16 (kOp 99) (.tmp 0)]
def awL:Array Oper:=#[
  iE (some 16) (.load 207 (.global 0)) 207,
  iE (some 16) (.load 207 (.global 1)) 207,
  arq 16 1 23,auH 18 1 23,apm 20 0,
  aa2 19 (kOp 9223372036854775807) (.tmp 18)]
def awM:Array Oper:=#[aa2 19 (.tmp 18) (.tmp 16)]
def awN:Array Oper:=#[aa2 21 (.tmp 20) (.tmp 16)]
def awO:Array Oper:=#[
  iE (some 23) (.indexAddr 23 (.tmp 1) (.tmp 20)) 0,
  iE (some 24) (.load 40 (.tmp 23)) 40,
  iE (some 25) (.field 40 (.tmp 24) 0) 3,
  auF 26 (.tmp 25),auE 22 (.tmp 26) (.tmp 25)]
def awP:Array Oper:=#[
  iE (some 27) (.field 40 (.tmp 24) 1) 38,
  arq 28 27 38,auH 3 27 38,aa2 4 (.tmp 28) (kOp 1)]
def awQ:Array Oper:=#[aa2 4 (kOp 9223372036854775807) (.tmp 3)]
def awR:Array Oper:=#[aa2 4 (.tmp 3) (.tmp 28)]
def az7:Array Oper:=#[apm 5 0]
def awS:Array Oper:=#[aa2 4 (.tmp 5) (.tmp 28)]
def awT:Array Oper:=#[
  iE (some 9) (.indexAddr 38 (.tmp 27) (.tmp 5)) 0,
  iE (some 10) (.load 64 (.tmp 9)) 64,
  iE (some 11) (.field 64 (.tmp 10) 0) 3,
  auF 13 (.tmp 11),auE 15 (.tmp 13) (.tmp 11)]
def awU:Array Oper:=#[
  iE (some 26) (.field 64 (.tmp 10) 1) 9,
  arq 25 26 9,aa2 15 (kOp 9223372036854775807) (.tmp 25)]
def awV:Array Oper:=#[auG 22 (.tmp 5),iE (some 5) (.move (.tmp 22)) 3]
def awW:Array Oper:=#[auG 22 (.tmp 20),iE (some 20) (.move (.tmp 22)) 3]
def ars:Array Oper:=#[arq 16 2 31,auH 18 2 31,aa2 19 (kOp 2147483647) (.tmp 16)]
def art:Array Oper:=#[aa2 19 (kOp 9223372036854775807) (.tmp 18)]
def aru:Array Oper:=#[aa2 19 (.tmp 18) (.tmp 16)]
def anQ:Array Oper:=#[
  iE (some 27) (.makeSlice 160 (.tmp 16) (.tmp 16)) 160,
  apm 28 0]
def awX:Array Oper:=#[aa2 26 (.tmp 28) (.tmp 16)]
def awY:Array Oper:=#[
  iE (some 25) (.indexAddr 31 (.tmp 2) (.tmp 28)) 0,
  iE (some 20) (.load 3 (.tmp 25)) 3,
  auF 22 (.tmp 20),auE 21 (.tmp 22) (.tmp 20)]
def ajl:Array Oper:=#[
  iE (some 24) (.call ⟨.value (.func 110),#[.tmp 0,.tmp 1,.tmp 20],#[3,23,3]⟩) 171,
  iE (some 23) (.indexAddr 160 (.tmp 27) (.tmp 28)) 0,
  iE none (.store 171 (.tmp 23) (.tmp 24)) 0]
def ajm:Array Oper:=#[auG 22 (.tmp 28),iE (some 28) (.move (.tmp 22)) 3]
def ajn:Array Oper:=#[
  iE (some 17) (.assign (.tmp 27)) 160,
  iE (some 8) (.alloc 160) 0,
  iE none (.store 160 (.tmp 8) (.tmp 17)) 0]
def cU:List Nat:=[3,4,5,9,10,11,13,15,16,18,19,20,21,22,23,24,25,26,27,28]
def adu:Array Oper:=⟨cU.map λt=>apm t 0⟩
def aa3:Code:=.seq (.region 70 awS false) (.seq (.cond (.tmp 4) .skip (.exit 52)) (.seq (auD 71 awT 15) (.seq (aa1 72 awU 15) (.region 73 awV false))))
def aa4:Code:=.seq (.region 60 awN false) (.seq (.cond (.tmp 21) .skip (.exit 51)) (.seq (auD 61 awO 22) (.seq (aa1 62 awP 4) (.seq (aa1 63 awQ 4) (.seq (aa1 64 awR 4) (.seq (.region 65 az7 false)
 (.seq (.block 52 (.loop aa3)) (.region 66 awW false))))))))
def mJ:Code:=.seq (.region 80 awX false) (.seq (.cond (.tmp 26) .skip (.exit 53)) (.seq (auD 81 awY 21) (.seq (.region 82 ajl false) (.region 83 ajm false))))
noncomputable def ki:Code:=.seq (aa1 50 awJ 16) (.seq (aa1 51 awK 16) (.seq (aa1 52 awL 19) (.seq (aa1 53 awM 19) (.seq (.block 51 (.loop aa4))
 (.seq (aa1 54 ars 19) (.seq (aa1 55 art 19) (.seq (aa1 56 aru 19) (.seq (.region 57 anQ false) (.seq (.block 53 (.loop mJ)) (.seq (.region 58 ajn false) (.seq (.region 59 adu false) cT)))))))))))
def pE:Array Oper:=#[
  iE none (.call ⟨.builtin .unsafeSlice,#[.tmp 0,.const (.int .i64 1)],#[225,3]⟩) 0,
  iE (some 4) (.fieldAddr 227 (.tmp 0) 0) 0,
  iE (some 5) (.load 225 (.tmp 4)) 225,
  iE (some 6) (.binOp .eql 225 (.tmp 5) (.const (.pointer none)) 225) 4]
def ah1:Array Oper:=#[iE none (.store 225 (.tmp 4) (.tmp 0)) 0]
def alE:Array Oper:=#[
  iE (some 7) (.fieldAddr 227 (.tmp 5) 0) 0,
  iE none (.store 225 (.tmp 7) (.const (.pointer none))) 0,
  iE (some 8) (.load 225 (.tmp 4)) 225,
  iE (some 9) (.binOp .eql 225 (.tmp 8) (.const (.pointer none)) 225) 4]
def nI:Code:=
 .seq (.region 0 pE false)
 (.seq (.cond (.tmp 6) .skip (.seq (.region 2 alE false) (.cond (.tmp 9) .skip (.refuse ""))))
 (.seq (.region 1 ah1 false) .ret))
noncomputable def qFA(β:Bool):Func:={f67 with body:=some (if β then ki else .refuse "")}
noncomputable def qCC:Func:={f198 with body:=some nI}
noncomputable def pf(fn:Func):Func:={fn with body:=fn.body.map gP}
noncomputable def mK(β:Bool):Array Func:=((prog.funcs.map pf).setIfInBounds cD (qFA β)).setIfInBounds nCC qCC
noncomputable def ai(β:Bool):Program:={prog with funcs:=mK β}
section
variable (P:Program) (fs:Array Func)
def ko(t:TypeId):({P with funcs:=fs}:Program).info? t=P.info? t:=rfl
def cP(t:TypeId):({P with funcs:=fs}:Program).underlying t=P.underlying t:=rfl
def aem:({P with funcs:=fs}:Program).depth=P.depth:=rfl
def aen(t:TypeId):({P with funcs:=fs}:Program).cellsOf t=P.cellsOf t:=rfl
def ah2(t:TypeId):({P with funcs:=fs}:Program).bytesOf t=P.bytesOf t:=rfl
def ah3:∀(d:Nat) (t:TypeId),({P with funcs:=fs}:Program).eqGuardType d t=P.eqGuardType d t
 |0,_=>rfl
 |d+1,t=>by
  unfold Program.eqGuardType;rw[cP];simp only[ah3 d]
def abX:∀(d:Nat) (t:TypeId) (n:Nat),byteOfCell {P with funcs:=fs} d t n=byteOfCell P d t n
 |0,_,_=>rfl
 |d+1,t,n=>by
  unfold byteOfCell;rw[cP];simp only[aen,ah2,abX d];rfl
def abY:∀(d:Nat) (t:TypeId) (n:Nat),cellOfByte {P with funcs:=fs} d t n=cellOfByte P d t n
 |0,_,_=>rfl
 |d+1,t,n=>by
  unfold cellOfByte;rw[cP];simp only[aen,ah2,abY d];rfl
def arv(d:Nat)(e:TypeId)(c o:Nat)(b:Int):cellAtBytes {P with funcs:=fs} d e c o b=cellAtBytes P d e c o b:=by
 unfold cellAtBytes;simp only[aen,ah2,abX,abY];rfl
def aeo(t:TypeId):({P with funcs:=fs}:Program).stoodInHeld t=P.stoodInHeld t:=by
 have b:∀(d:Nat) (t u:TypeId),({P with funcs:=fs}:Program).alikeButTags d t u=P.alikeButTags d t u:=by
  intro d
  induction d with
  |zero=>intro t u;rfl
  |succ d a=>
   intro t u;unfold Program.alikeButTags;simp only[ko,a]
 unfold Program.stoodInHeld Program.stoodInAs;simp only[cP,ko,aem,b];rfl
def agR(d:Departure):({P with funcs:=fs}:Program).follows d=P.follows d:=rfl
def arw(d:Nat)(e:TypeId)(c o:Nat)(u:TypeId)(n:Nat):liesAt {P with funcs:=fs} d e c o u n=liesAt P d e c o u n:=by
 have g:∀(d:Nat) (t u:TypeId),sameLayout {P with funcs:=fs} d t u=sameLayout P d t u:=by
  intro d
  induction d with
  |zero=>intro t u;rfl
  |succ d b=>
   intro t u;unfold sameLayout;simp only[cP,aeo,b];rfl
 have f:∀(a:TypeId->Bool) (d:Nat) (e:TypeId) (c o n:Nat),rowAt {P with funcs:=fs} a d e c o n=rowAt P a d e c o n:=by
  intro a d
  induction d with
  |zero=>intro e c o n;rfl
  |succ d b=>
   intro e c o n;unfold rowAt;simp only[cP,aeo,aen,b];rfl
 induction d generalizing e c o u n with
 |zero=>rfl
 |succ d b=>
  unfold liesAt;simp only[cP,g,f,b,aem]
end
def dh(v:Value):Prop:=∀a:Ren,VR a v v
def bU.diag{ρ:Ren}:∀{l b:List Value},bU ρ l b->l=b->∀c∈l,VR ρ c c
 |_,_,.nil,_,c,a=>by cases a
 |_,_,.cons x y,e,c,a=>by
  simp only[qf] at e;obtain⟨rfl,e⟩:=e;rcases me.1 a with rfl|a
  .exact x
  .exact y.diag e c a
def dh.cells(h:dh v):∀c∈v.cells.toList,dh c:=λc a b=>(h b).cells.diag rfl c a
def dh.agg{c:Array Value}(h:∀v∈c.toList,dh v):dh (.agg c):=λa=>.agg (bU.kI λv b=>h v b a)
def StI{β:Type}(I:β->Prop):ForInStep β->Prop
 |.done b=>I b
 |.yield b=>I b
def agS{e β:Type}{I:β->Prop}:∀(l:List e) {b c:β} {f:e->β->Option (ForInStep β)},forIn l b f=some c->I b->(∀a b r,I b->f a b=some r->StI I r)->I c
 |[],b,c,f,h,hb,_=>by
  rw[ub] at h;obtain rfl:=ef h;exact hb
 |a::l,b,c,f,h,hb,hf=>by
  rw[tR] at h;cases d:f a b with
  |none=>rw[d] at h;cases h
  |some r=>
   rw[d] at h;have:=hf a b r hb d;cases r with
   |done x=>
    obtain rfl:=ef h;exact this
   |yield x=>exact agS l h this hf
def ajo(hi:∀t i v,K t=some i->i.zero=some v->dh v){E:Array Field}(h:Made.reckonStruct K E=some i):∀v,i.zero=some v->dh v:=by
 unfold Made.reckonStruct at h;dsimp only at h;obtain⟨s,A,h⟩:=nF.1 h;rw[<-tz] at A;have w:=agS (I:=λs:Array Field×Nat×Nat×Nat×Nat×Bool×Bool×Option (Array Value)×String=>∀k,s.2.2.2.2.2.2.2.1=some k->∀v∈k.toList,dh v) _ A (λk e v l=>by
  obtain rfl:=ef e;cases l) λf B r D g=> ?_
 .intro v l;have y:i.zero=s.2.2.2.2.2.2.2.1.map Value.agg:=by
   split at h<;>(obtain rfl:=ef h;rfl)
  rw[y] at l;cases u:s.2.2.2.2.2.2.2.1 with
  |none=>rw[u] at l;cases l
  |some k=>
   rw[u] at l;obtain rfl:=ef l;exact dh.agg (w k u)
 .obtain⟨j,F,g⟩:=nF.1 g;have n:∀k,(if B.2.1+j.size>Made.mostCells then none else do
     let a<-B.2.2.2.2.2.2.2.1
     let b<-j.zero
     pure (a++b.cells):Option (Array Value))=some k->∀v∈k.toList,dh v:=λk e v l=>by
   split at e
   .cases e
   .obtain⟨a,G,e⟩:=nF.1 e;obtain⟨b,o,e⟩:=nF.1 e;obtain rfl:=ef e;rw[pv,io] at l;rcases l with l|l
    .exact D a G v l
    .exact(hi _ _ _ F o).cells v l
  have m:∀(z:Option (Array Value)) (a:Array Field) (b c d e:Nat) (p q:Bool) (x:String),(∀k,z=some k->∀v∈k.toList,dh v)->(some (ForInStep.yield (a,b,c,d,e,p,q,z,x)):Option (ForInStep (Array Field×Nat×Nat×Nat×Nat×Bool×Bool×Option (Array Value)×String)))=some r->
    StI (λb=>∀k,b.2.2.2.2.2.2.2.1=some k->∀v∈k.toList,dh v) r:=λz a b c d e p q x y h=>by
   obtain rfl:=ef h;exact y
  split at g
  .cases g
  .split at g
   .cases g
   .split at g
    .obtain⟨C, -,g⟩:=nF.1 g;by_cases o:j.bytes=0
     .rw[dj o] at g;exact m _ _ _ _ _ _ _ _ _ n g
     .rw[bv o] at g;exact m _ _ _ _ _ _ _ _ _ n g
    .obtain⟨C, -,g⟩:=nF.1 g;by_cases o:j.bytes=0
     .rw[dj o] at g;exact m _ _ _ _ _ _ _ _ _ n g
     .rw[bv o] at g;exact m _ _ _ _ _ _ _ _ _ n g
def apn(hi:∀t i v,K t=some i->i.zero=some v->dh v){d:TypeDesc}(h:Made.reckon K d=some i):∀v,i.zero=some v->dh v:=by
 have f:∀(d:TypeDesc) (s:String) (z:Value) (c:Bool) (b:Nat),dh z->Made.word d s z c b=i->∀v,i.zero=some v->dh v:=λd s z c b m e v a=>by
  subst e;obtain rfl:=ef a;exact m
 unfold Made.reckon at h;cases d with
 |struct u=>exact ajo hi h
 |pointer e=>
  obtain⟨j,l,h⟩:=nF.1 h;have fin:∀{o:Option String},(do pure (Made.word (.pointer e) ("*" ++(<-o)) (.pointer none) true))=some i->∀v,i.zero=some v->dh v:=λ{o} h=>by
   obtain⟨s,g,h⟩:=nF.1 h;exact f _ _ _ _ _ (λ_=>.pointer .none) (ef h)
  split at h
  .cases h
  .split at h
   .cases h
   .exact fin h
  .exact fin h
 |slice e=>
  obtain⟨j,l,h⟩:=nF.1 h;obtain⟨s,g,h⟩:=nF.1 h;exact f _ _ _ _ _ (λ_=>.slice .none 0 0) (ef h)
 |map k e=>
  obtain⟨j,l,h⟩:=nF.1 h;obtain⟨s,g,h⟩:=nF.1 h;obtain⟨j,l,h⟩:=nF.1 h;obtain⟨s,g,h⟩:=nF.1 h;exact f _ _ _ _ _ (λ_=>.map .none) (ef h)
 |chan k e=>
  obtain⟨j,l,h⟩:=nF.1 h;obtain⟨s,g,h⟩:=nF.1 h;exact f _ _ _ _ _ (λ_=>.chan .none) (ef h)
 |func w q v=>
  obtain⟨s,g,h⟩:=nF.1 h;exact f _ _ _ _ _ (λ_=>.nilFunc) (ef h)
 |array n e=>
  obtain⟨j,l,h⟩:=nF.1 h;obtain⟨s,g,h⟩:=nF.1 h;obtain rfl:=ef h;intro v a;dsimp only at a;split at a
  .cases a
  .split at a
   .obtain rfl:=ef a;exact dh.agg λv a=>by cases a
   .cases m:j.zero with
    |none=>rw[m] at a;cases a
    |some z=>
     rw[m] at a;obtain rfl:=ef a;refine dh.agg λv a=>(hi _ _ _ l m).cells v ?_;simp only[rU,Array.mem_flatten] at a;obtain⟨r,p,a⟩:=a;rw[Array.mem_replicate] at p;rw[<-p.2];exact rU.2 a
 |_=>cases h
def apo(c:∀(t:Nat) (i:TypeInfo) (v:Value),P.types[t]?=some i->i.zero=some v->dh v):∀t i v,P.info? t=some i->i.zero=some v->dh v:=by
 have b:∀(f:Nat) t i v,Made.infoAt P.toTables f t=some i->i.zero=some v->dh v:=by
  intro f
  induction f with
  |zero=>intro t i v h;cases h
  |succ f e=>
   intro t i v h a;unfold Made.infoAt at h;split at h
   .exact c t i v h a
   .obtain⟨d,hd,h⟩:=nF.1 h;exact apn e h v a
 intro t i v h a;unfold Tables.info? at h;split at h
 .exact c t i v h a
 .exact b _ t i v h a
noncomputable def zOk(t:Nat):Bool:=match prog.types[t]? with
 |some i=>match i.zero with
  |some v=>ov (λ_=>false) 6 v
  |none=>true
 |none=>true
def auJ:(List.range prog.types.size).all zOk=true:=by kernel_rfl
def acS:∀(d:Nat) (v:Value),ov (λ_=>false) d v=true->dh v
 |0,v,h=>by cases h
 |d+1,v,h=>by
  have g:∀l:List Value,l.all (ov (λ_=>false) d)=true->∀e:Ren,bU e l l:=λl i e=>bU.kI λv j=>acS d v (lc.1 i v j) e;intro e;cases v with
  |bool b=>exact .bool b
  |int k n=>exact .int k n
  |string s=>exact .string s
  |nilFunc=>exact .nilFunc
  |nilIface=>exact .nilIface
  |pointer a=>cases a with
   |none=>exact .pointer .none
   |some a=>cases h
  |slice a n c=>cases a with
   |none=>exact .slice .none n c
   |some a=>cases h
  |map a=>cases a with
   |none=>exact .map .none
   |some a=>cases h
  |chan a=>cases a with
   |none=>exact .chan .none
   |some a=>cases h
  |func f a c=>
   unfold ov at h;simp only[fk] at h;cases f<;>(have:=h.1.1;cases this)
  |iface t v=>exact .iface t (acS d v h e)
  |agg c=>exact .agg (g _ h e)
  |tuple c=>exact .tuple (g _ h e)
  |float|complex=>cases h
def ayc:∀t i v,prog.info? t=some i->i.zero=some v->dh v:=apo λt i v h b=>by
 have a:=(dq.1 h).1;have:=lc.1 auJ t (qn.2 a);unfold zOk at this;rw[h] at this;dsimp only at this;rw[b] at this;exact acS 6 v this
noncomputable def anR(fn:Func):Bool:=!(fn.name == "runtime.NumGoroutine")
def ajp:prog.funcs.toList.all anR=true:=by kernel_rfl
def agT{a:FuncId->Bool}{b:List Nat}{o:Op}(h:mz P a b o=true)(g:Nat):o ≠ .ready g:=λe=>by
 subst e;unfold mz at h;simp at h
def agk(P:Program)(t:FuncId->Bool)(r:List Nat)(s:TypeId):∀c:Code,readies (bQ P t r s c)=[]:=by
 intro c
 induction c with
 |region id u draw=>
  unfold bQ;have m:∀l:List Oper,(∀o∈l,∀g,o.op ≠ .ready g)->(l.filterMap λo=>match o.op with|.ready g=>some g|_=>none)=[]:=by
   intro l v;rw[List.filterMap_eq_nil_iff];intro o k;split
   .rename_i g e;exact absurd e (v o k g)
   .rfl
  split
  .rename_i h;exact m _ λo k g=>agT (lc.1 h o k) g
  .split
   .rename_i h;refine m _ λo k g e=> ?_;rw[qI,mc] at k;obtain⟨p,w,rfl⟩:=k;have j:=lc.1 h p w;have q:(aav t r s p).op=p.op:=by unfold aav;split<;>rfl
    rw[q] at e;simp only[qQ] at j;rcases j with j|j
    .exact agT j g e
    .rw[e] at j;cases j
   .rfl
 |seq a b i d=>unfold bQ readies;rw[i,d];rfl
 |cond c a b i d=>
  unfold bQ;split
  .unfold readies;rw[i,d];rfl
  .rfl
 |rangeFunc f x a b i d=>
  unfold bQ;split
  .unfold readies;rw[i,d];rfl
  .rfl
 |block id a n=>unfold bQ readies;exact n
 |loop a n=>unfold bQ readies;exact n
 |scope a n=>unfold bQ readies;exact n
 |_=>rfl
def auK(P:Program)(m:Array Func)(k:FuncId->Bool)(i:List Nat)(j:TypeId):∀c:Code,bQ {P with funcs:=m} k i j c=bQ P k i j c:=by
 intro c
 induction c with
 |region id l draw=>rfl
 |seq a b e d=>unfold bQ;rw[e,d]
 |cond c a b e d=>unfold bQ;rw[e,d]
 |rangeFunc f n a b e d=>unfold bQ;rw[e,d]
 |block id a g=>unfold bQ;rw[g]
 |loop a g=>unfold bQ;rw[g]
 |scope a g=>unfold bQ;rw[g]
 |_=>rfl
section
variable (β:Bool)
def acT:(ai β).funcs[nCC]?=some qCC:=by
 have:nCC<(prog.funcs.map pf).size:=by rw[tI];exact(dq.1 func198).1
 show(((prog.funcs.map pf).setIfInBounds cD (qFA β)).setIfInBounds nCC qCC)[nCC]?=_;rw[qb (by simpa using this)]
def acU:(ai β).funcs[cD]?=some (qFA β):=by
 have:cD<(prog.funcs.map pf).size:=by rw[tI];exact(dq.1 func67).1
 show(((prog.funcs.map pf).setIfInBounds cD (qFA β)).setIfInBounds nCC qCC)[cD]?=_;rw[jn (by decide),qb this]
def alF{f:Nat}(a:f≠nCC)(b:f≠cD):(ai β).funcs[f]?=(prog.funcs[f]?).map pf:=by
 show(((prog.funcs.map pf).setIfInBounds cD (qFA β)).setIfInBounds nCC qCC)[f]?=_;rw[jn (sj a),jn (sj b),rm]
def ayd:(ai β).funcs.size=prog.funcs.size:=by
 show(((prog.funcs.map pf).setIfInBounds cD (qFA β)).setIfInBounds nCC qCC).size=_;simp
end
def az8:gH nCC=true:=by unfold gH;kernel_rfl
def alG:readies ki=[]:=by kernel_rfl
def az9:gH cD=true:=by unfold gH;kernel_rfl
def aAa:prog.follows .staticDataAhead=true:=by kernel_rfl
def aAb:prog.underlying 3=some (.int .i64):=by kernel_rfl
def anS:f198.body.isSome=true:=by kernel_rfl
def anT:f67.body.isSome=true:=by kernel_rfl
section
variable (β:Bool)
def arx(g:Nat):(ai β).stepOf g=none:=by
 unfold Program.stepOf;rw[Array.findIdx?_eq_none_iff];intro fn b;obtain⟨f,a⟩:=Array.getElem?_of_mem b;by_cases e:f=nCC
 .subst e;rw[acT] at a;obtain rfl:=ef a;show((some nI).map readies).any (·.contains g)=false;rfl
 by_cases d:f=cD
 .subst d;rw[acU] at a;obtain rfl:=ef a;cases β with
  |true=>
   show(readies ki).contains g=false;rw[alG];rfl
  |false=>rfl
 rw[alF β e d] at a;obtain⟨i,j,rfl⟩:=iS.1 a;show((i.body.map gP).map readies).any (·.contains g)=false;cases i.body with
 |none=>rfl
 |some c=>
  show(readies (gP c)).contains g=false;have:readies (gP c)=[]:=by unfold gP;exact agk _ _ _ _ c
  rw[this];rfl
def cL{f:Nat}{fn:Func}(h:prog.funcs[f]?=some fn):(fn.name == "runtime.NumGoroutine")=false:=by
 have:=lc.1 ajp fn (rU.2 (qB h));unfold anR at this;simpa using this
def ah4(f:FuncId)(fn:Func)(h:(ai β).funcs[f]?=some fn):∃b,prog.funcs[f]?=some b/\FnR (gH f) fn b:=by
 by_cases k:f=nCC
 .subst k;rw[acT] at h;obtain rfl:=ef h;have g:=cL func198;refine⟨_,func198,rfl,g,rfl,rfl,rfl,λe=>(by cases e),λc _=> ?_⟩;obtain⟨d,a⟩:=rD.1 anS;exact⟨d,a,λe=>by rw[az8] at e;cases e⟩
 by_cases j:f=cD
 .subst j;rw[acU] at h;obtain rfl:=ef h;have g:=cL func67;refine⟨_,func67,rfl,g,rfl,rfl,rfl,λe=>(by cases e),λc _=> ?_⟩;obtain⟨d,a⟩:=rD.1 anT;exact⟨d,a,λe=>by rw[az9] at e;cases e⟩
 rw[alF β k j] at h;obtain⟨b,i,rfl⟩:=iS.1 h;have g:=cL i;refine⟨b,i,rfl,g,rfl,rfl,rfl,λe=> ?_,λc e=> ?_⟩
 .have e:b.body.map gP=none:=e;have:b.body=none:=by simpa using e
  unfold pf;rw[this];cases b;dsimp only at this;subst this;rfl
 .have e:b.body.map gP=some c:=e;obtain⟨d,a,rfl⟩:=iS.1 e;exact⟨d,a,λ_=>rfl⟩
def mb:Twin (ai β) prog where
 info t:=(ko prog _ t).symm
 under t:=(cP prog _ t).symm
 rt:=rfl
 depth:=(aem prog _).symm
 globals:=by unfold gN;exact⟨rfl,rfl⟩
 zero t i v h hv ρ:=ayc t i v ((ko prog _ t).symm.trans h) hv ρ
 stood t:=(aeo prog _ t).symm
 awH:=rfl
 cellAt d e c o b:=(arv prog _ d e c o b).symm
 lies d e c o u n:=(arw prog _ d e c o u n).symm
 ala d t:=(ah3 prog _ d t).symm
 follows d:=(agR prog _ d).symm
 pc:=by
  unfold gP
  funext c
  exact(auK prog _ gA gL gB c).symm
 auc e h:=by
  have a:gB=3:=by unfold gB;rfl
  rw[a] at h;have:=((cP prog _ 3).symm.trans h);rw[aAb] at this;cases this
 func:=ah4 β
 ai1:=(ayd β).symm
 nB:=⟨(agR prog _ _).trans aAa,arx β⟩
end
def ah5{r:Z->Z->Prop}{a:Z}(h:∀f:Nat->Z,f 0=a->¬ ∀n,r (f (n+1)) (f n)):Acc r a:=by
 refine qF λe=> ?_;have step:∀x:{x:Z // ¬Acc r x},∃y:{x:Z // ¬Acc r x},r y.1 x.1:=λx=>qF λd=>x.2 ⟨_,λy c=>qF λb=>d ⟨⟨y,b⟩,c⟩⟩
 let f:Nat->{x:Z // ¬Acc r x}:=λn=>Nat.rec ⟨a,e⟩ (λ_ x=>(step x).choose) n
 exact h (λn=>(f n).1) rfl λn=>(step (f n)).choose_spec
def gZ(g:Goroutine)(w:World):Machine:={world:=w,gs:=#[g],rest:={timers:=#[],alone:=none,slice:=none}}
def ij(h:gZ g w=gZ g' w'):g=g'/\w=w':=by
 unfold gZ at h;simp only[Machine.mk.injEq,Array.mk.injEq,qf,qh] at h;exact⟨h.2,h.1⟩
def ajq(a:g.status=.running):move P (gZ g w)=.goroutine (gZ g w) 0:=by
 simp[move,ask,askOn,gZ,runnable_eq,due,ahead,Goroutine.canRun,vH,choose,pure,Sem.run,Question.forced,a]
def dK(a:g.status=.running)(h:stepG P true g w=.go g' w' es):step P (gZ g w)=.next (gZ g' w'):=by
 rw[step,stepT,ajq a];simp[runT,gZ,Array.swapAt!,h]
def cE{o:Outcome}(a:g.status=.running)(h:stepG P true g w=.ended o w' es):step P (gZ g w)=.ended o w':=by
 rw[step,stepT,ajq a];simp[runT,gZ,Array.swapAt!,h]
def acV(c:g.status=.blocked):∃o b,step P (gZ g w)=.ended o b:=by
 rw[step,stepT];have:∃s a,move P (gZ g w)=.machine s a/\∃o b,s=.ended o b:=by
  simp only[move,ask,askOn,gZ,runnable_eq,due,ahead,Goroutine.canRun,c];simp[vH,choose,pure,Sem.run,Question.forced,c];generalize endWith _ _ _ _=q;cases q<;>exact⟨_,⟨_,rfl⟩,_,_,rfl⟩
 obtain⟨s,a,d,o,b,rfl⟩:=this;rw[d];exact⟨o,b,rfl⟩
def acW(a:g.status=.waiting):step P (gZ g w)=.next (gZ g w):=by
 rw[step,stepT];have:move P (gZ g w)=.machine (.next (gZ g w)):=by
  simp[move,ask,askOn,gZ,runnable_eq,due,ahead,Goroutine.canRun,vH,choose,pure,Sem.run,Question.forced,a]
 rw[this]
def kq(P:Program):Frame:={fn:=P.funcs.size,tmps:=#[],todo:=[.call ⟨.nil,#[]⟩ false "fmt's door" #[]],defers:=[],mode:=.run,kind:=.normal}
def ary(base:List Frame)(g:Goroutine):Prop:=g.callers=base/\g.frame.mode=.returning/\g.frame.defers=[]/\g.status=.running/\g.dying=none
section
variable {P:Program}
def aa5{g:Goroutine}{w:World}(h:g.status=.blocked\/g.status=.waiting):∀n a b,runN P n (gZ g w)=.next (gZ a b)->¬ary [kq P] a
 |0,a,b,hr,hf=>by
  simp only[runN,qM] at hr;obtain⟨rfl,rfl⟩:=ij hr;rcases h with h|h<;>rw[hf.2.2.2.1] at h<;>cases h
 |n+1,a,b,hr,hf=>by
  unfold runN at hr;rcases h with h|h
  .obtain⟨o,d,c⟩:=acV (P:=P) (w:=w) h;rw[c] at hr;cases hr
  .rw[acW h] at hr;exact aa5 (.inr h) n a b hr hf
def adv:∀(n:Nat) {a:Frame} {w:World} {d:Dying} {f:Fatal},d.fatal=some f->d.calling=false->∀b g,runN P n (gZ ⟨a,[],.running,some d,none⟩ w)=.next (gZ b g)->¬ary [kq P] b
 |0,a,w,d,f,h1,h2,b,g,hr,hf=>by
  simp only[runN,qM] at hr;obtain⟨rfl,rfl⟩:=ij hr;have:=hf.2.2.2.2;cases this
 |n+1,a,w,d,f,h1,h2,b,g,hr,hf=>by
  unfold runN at hr;have m:(∃o c i,stepG P true ⟨a,[],.running,some d,none⟩ w=.ended o c i)\/
    ∃k l c i,(k=.running\/k=.blocked)/\stepG P true ⟨a,[],.running,some d,none⟩ w=.go ⟨a,[],k,some {d with fatal:=some l},none⟩ c i:=by
   obtain⟨r,p,e,j,s,hand,fatal⟩:=d;dsimp only at h1 h2;subst h1 h2;simp only[stepG,die,writeOn];split
   .exact .inl ⟨_,_,_,rfl⟩
   .split
    .exact .inr ⟨_,_,_,_,.inl rfl,rfl⟩
    .exact .inr ⟨_,_,_,_,.inr rfl,rfl⟩
    .exact .inl ⟨_,_,_,rfl⟩
    .exact .inl ⟨_,_,_,rfl⟩
  rcases m with⟨o,c,i,h⟩|⟨k,l,c,i,q,h⟩
  .rw[cE rfl h] at hr;cases hr
  .rw[dK rfl h] at hr;rcases q with rfl|rfl
   .exact adv n (d:={d with fatal:=some l}) (f:=l) rfl h2 b g hr hf
   .exact aa5 (.inl rfl) n b g hr hf
def arz{b:Nat}(e:∀x l,w.heap[b]?≠some (.deferred (some (x::l)))):(∃h c a,(Instr.takeDeferred b).runT P w #[]=(.halt h c,a))\/∃a,(Instr.takeDeferred b).runT P w #[]=(.ok [] {w with heap:=w.heap.setIfInBounds b (.deferred none)},a):=by
 unfold Instr.takeDeferred;show(∃h c a,(Sem.getObj b λo=>_).runT P w #[]=_)\/∃a,(Sem.getObj b λo=>_).runT P w #[]=_;rw[Sem.runT];cases d:w.heap[b]? with
 |none=>exact .inl ⟨_,_,_,rfl⟩
 |some o=>
  cases o with
  |deferred q=>
   cases q with
   |none=>exact .inl ⟨_,_,_,rfl⟩
   |some l=>
    cases l with
    |cons x l=>exact absurd d (e x l)
    |nil=>
     refine .inr ⟨(#[].push ⟨.obj b,false,false⟩).push ⟨.obj b,true,false⟩, ?_⟩;show(Sem.setObj b (.deferred none) (Sem.pure [])).runT P w (#[].push ⟨.obj b,false,false⟩)=_;rw[Sem.runT,d];show(Sem.pure []).runT P {w with heap:=w.heap.setIfInBounds b (.deferred none)} _=_;rw[Sem.runT];rfl
  |_=>exact .inl ⟨_,_,_,rfl⟩
def wt(fr:Frame)(b:List PanicEntry):∃a,(fr.raise b).mode=.panicking a:=by
 unfold Frame.raise;split<;>exact⟨_,rfl⟩
def abZ(fr:Frame)(a:List PanicEntry):(fr.raise a).defers=fr.defers:=by
 unfold Frame.raise;split<;>rfl
def alH(a:List PanicEntry):((kq P).raise a).catches P=true:=by
 have h:P.funcs[P.funcs.size]?=none:=by rw[qi];exact am _
 show(match P.funcs[P.funcs.size]?,[Item.call ⟨.nil,#[]⟩ false "fmt's door" #[]] with
  |none,.call _ _ resume _::_=>resume.startsWith "fmt's door"
  |_,_=>false)=true
 rw[h];show "fmt's door".startsWith "fmt's door" =true
 decide+kernel
def nJ:∀(n:Nat) {A:Frame} {i:List Frame} {w:World} {a:List PanicEntry},A.mode=.panicking a->((∀f∈A::i,kT w f.defers)\/False)->∀z B,runN P n (gZ ⟨A,i++[kq P],.running,none,none⟩ w)=.next (gZ z B)->¬ary [kq P] z
 |0,A,i,w,a,hm,_,z,B,hr,hf=>by
  simp only[runN,qM] at hr;obtain⟨rfl,rfl⟩:=ij hr;have:=hf.2.1;rw[hm] at this;cases this
 |n+1,A,i,w,a,hm,hd,z,B,hr,hf=>by
  replace hd:=hd.resolve_right id;unfold runN at hr;obtain⟨f,q,p,s,L,m,k⟩:=A;dsimp only at hm;subst hm;have C:stepG P true ⟨⟨f,q,p,s,.panicking a,m,k⟩,i++[kq P],.running,none,none⟩ w=unwind P true ⟨f,q,p,s,.panicking a,m,k⟩ (i++[kq P]) none w:=rfl;cases s with
  |cons d s=>
   obtain⟨b,rfl,I⟩:=hd _ (qV ..) d (qV ..);have F:(∃o j g,unwind P true ⟨f,q,p,⟨.collected b,#[]⟩::s,.panicking a,m,k⟩ (i++[kq P]) none w=.ended o j g)\/
     ∃g,unwind P true ⟨f,q,p,⟨.collected b,#[]⟩::s,.panicking a,m,k⟩ (i++[kq P]) none w=.go ⟨⟨f,q,p,s,.panicking a,m,k⟩,i++[kq P],.running,none,none⟩ {w with heap:=w.heap.setIfInBounds b (.deferred none)} g:=by
    rcases arz (P:=P) I with⟨h,j,g,e⟩|⟨g,e⟩
    .refine .inl ⟨.stuck "the deferred calls of a range-over-func loop have been taken" (Frame.pos P ⟨f,q,p,⟨.collected b,#[]⟩::s,.panicking a,m,k⟩),j,seen P f g, ?_⟩;unfold unwind;simp only[e];simp[GStep.after]
    .refine .inr ⟨seen P f g, ?_⟩;unfold unwind;simp only[e];simp[GStep.after]
   rcases F with⟨o,j,g,h⟩|⟨g,h⟩
   .rw[cE rfl (C.trans h)] at hr;cases hr
   .rw[dK rfl (C.trans h)] at hr;refine nJ n rfl (.inl λx u=> ?_) z B hr hf;have D:kT w x.defers:=by
     rcases me.1 u with rfl|u
     .exact λd v=>hd _ (qV ..) d (qL _ v)
     .exact hd x (by simp[u])
    intro d v;obtain⟨c,rfl,K⟩:=D d v;exact⟨c,rfl,λy l e=>by
     change (w.heap.setIfInBounds b (.deferred none))[c]?=_ at e;rw[qk] at e;split at e
     .split at e
      .cases e
      .cases e
     .exact K y l e⟩
  |nil=>
   by_cases t:Frame.catches P ⟨f,q,p,[],.panicking a,m,k⟩=true
   .have h:∃o j g,unwind P true ⟨f,q,p,[],.panicking a,m,k⟩ (i++[kq P]) none w=.ended o j g:=by
     unfold unwind;simp only[t,pr];exact⟨_,_,_,rfl⟩
    obtain⟨o,j,g,h⟩:=h;rw[cE rfl (C.trans h)] at hr;cases hr
   .cases i with
    |nil=>
     have h:unwind P true ⟨f,q,p,[],.panicking a,m,k⟩ ([]++[kq P]) none w=.go ⟨(kq P).raise a,[],.running,none,none⟩ w #[]:=by
      unfold unwind;simp only[t,ry];rfl
     rw[dK rfl (C.trans h)] at hr;cases n with
     |zero=>
      simp only[runN,qM] at hr;obtain⟨rfl,rfl⟩:=ij hr;have:=hf.1;cases this
     |succ n=>
      unfold runN at hr;obtain⟨G,r⟩:=wt (kq P) a;have E:∃o j g,stepG P true ⟨(kq P).raise a,[],.running,none,none⟩ w=.ended o j g:=by
       have H:stepG P true ⟨(kq P).raise a,[],.running,none,none⟩ w=unwind P true ((kq P).raise a) [] none w:=by
        simp only[stepG,r]
       rw[H];unfold unwind;have J:((kq P).raise a).defers=[]:=(abZ _ _).trans rfl;rw[J];simp only[r,alH,pr];exact⟨_,_,_,rfl⟩
      obtain⟨o,j,g,E⟩:=E;simp only[cE rfl E] at hr;cases hr
    |cons c i=>
     have h:unwind P true ⟨f,q,p,[],.panicking a,m,k⟩ (c::i++[kq P]) none w=.go ⟨c.raise a,i++[kq P],.running,none,none⟩ w #[]:=by
      unfold unwind;simp only[t,qR];rfl
     rw[dK rfl (C.trans h)] at hr;obtain⟨G,r⟩:=wt c a;refine nJ n r (.inl λx u=> ?_) z B hr hf;rcases me.1 u with rfl|u
     .rw[abZ];exact hd c (by simp)
     .exact hd x (by simp[u])
def apq{s:GStep}(h:mZ [kq P] s):(∃o w a,s=.ended o w a)\/∃g w a,s=.go g w a/\∀n b e,runN P n (gZ g w)=.next (gZ b e)->¬ary [kq P] b:=by
 cases h with
 |ended o w a=>exact .inl ⟨_,_,_,rfl⟩
 |stop h=>exact .inr ⟨_,_,_,rfl,aa5 h⟩
 |raised c hd=>exact .inr ⟨_,_,_,rfl,λn=>nJ n c (.inl hd)⟩
 |dying d f=>exact .inr ⟨_,_,_,rfl,λn=>adv n d f⟩
end
structure Cfg where
 l:List Frame
 w:World
 t:Tape
structure ae7 (P:Program) (c c1:Cfg):Prop where
 ne:c.l≠[]
 on:¬pD c.l
 drawn:c.w.drawn<=c1.w.drawn
 tape:∀i q,i<c.w.drawn->c1.t i q=c.t i q
 step:∃es,∀(base:List Frame) (t:Tape),(∀i q,i<c1.w.drawn->t i q=c1.t i q)->stepG P true (Gl c.l base) (c.w.dN t)=.go (Gl c1.l base) (c1.w.dN t) es
def ku(P:Program)(R:List Frame->World->Prop)(c:Cfg):Prop:=
 ∀t:Tape,(∀i q,i<c.w.drawn->t i q=c.t i q)->∃n a b,runN P n (gZ (Gl c.l [kq P]) (c.w.dN t))=.next (gZ (Gl a [kq P]) b)/\pD a/\R a b
section
variable {P:Program} {R:List Frame->World->Prop}
def jl(h:l≠[])(base:List Frame):(Gl l base).status=.running:=by
 cases l with
 |nil=>exact absurd rfl h
 |cons x a=>rfl
def nK{base : List Frame}(h:l≠[])(a:l'≠[])(e:Gl l base=Gl l' base):l=l':=by
 cases l with
 |nil=>exact absurd rfl h
 |cons x c=>
  cases l' with
  |nil=>exact absurd rfl a
  |cons y b=>
   unfold Gl at e;simp only[Goroutine.mk.injEq,List.append_cancel_right_eq] at e;rw[e.1,e.2.1]
def pD.ne(h:pD l):l≠[]:=by
 obtain⟨a,rfl, -⟩:=h;exact λe=>by cases e
def pD.fin(h:pD l)(base:List Frame):ary base (Gl l base):=by
 obtain⟨c,rfl,a,b, -⟩:=h;exact⟨rfl,a,b,rfl,rfl⟩
def ku.step{c c1:Cfg}(h:ku P R c)(a:ae7 P c c1):ku P R c1:=λt f=>by
 obtain⟨o,k⟩:=a.step;obtain⟨n,m,j,b,d,l⟩:=h t λi q g=>by
  rw[f i q (bd g a.drawn),a.tape i q g]
 cases n with
 |zero=>
  simp only[runN,qM] at b;obtain⟨e, -⟩:=ij b;obtain rfl:=nK a.ne d.ne e;exact absurd d a.on
 |succ n=>
  unfold runN at b;rw[dK (jl a.ne _) (k [kq P] t f)] at b;exact⟨n,m,j,b,d,l⟩
def ku.acc{c:Cfg}(h:ku P R c):Acc (λw c=>ae7 P c w) c:=by
 classical
 refine ah5 λf x a=> ?_;subst x;have t:∀{m n},m<=n->(f m).w.drawn<=(f n).w.drawn:=λ{m n} b=>by
  induction b with
  |refl=>exact am _
  |step _ p=>exact db p (a _).drawn
 have l:∀{m n},m<=n->∀i q,i<(f m).w.drawn->(f n).t i q=(f m).t i q:=λ{m n} b=>by
  induction b with
  |refl=>exact λ_ _ _=>rfl
  |step s p=>exact λi q o=>((a _).tape i q (bd o (t s))).trans (p i q o)
 let T:Tape:=λi q=>if d:∃n,i<(f n).w.drawn then(f d.choose).t i q else 0
 have u:∀n i q,i<(f n).w.drawn->T i q=(f n).t i q:=λn i q o=>by
  have d:∃n,i<(f n).w.drawn:=⟨n,o⟩;show(if d:∃n,i<(f n).w.drawn then(f d.choose).t i q else 0)=_;rw[tF d];rcases Nat.le_total d.choose n with g|g
  .exact(l g i q d.choose_spec).symm
  .exact l g i q o
 have r:∀n,Go.step P (gZ (Gl (f n).l [kq P]) ((f n).w.dN T))=.next (gZ (Gl (f (n+1)).l [kq P]) ((f (n+1)).w.dN T)):=λn=>by
  obtain⟨B,z⟩:=(a n).step;exact dK (jl (a n).ne _) (z _ T (u (n+1)))
 have y:∀n k,runN P n (gZ (Gl (f k).l [kq P]) ((f k).w.dN T))=.next (gZ (Gl (f (k+n)).l [kq P]) ((f (k+n)).w.dN T)):=by
  intro n
  induction n with
  |zero=>intro k;rfl
  |succ n p=>
   intro k;unfold runN;rw[r k];simp only;rw[p (k+1),show k+1+n=k+(n+1) by omega]
 obtain⟨n,C,A,v,j, -⟩:=h T (u 0);rw[y n 0,qM] at v;obtain⟨e, -⟩:=ij v;obtain rfl:=nK (a (0+n)).ne j.ne e;exact(a (0+n)).on j
def ku.fin{c:Cfg}(h:ku P R c)(u:pD c.l)(B:Extern.next "fmt's door" =none)(t:Tape)(z:∀i q,i<c.w.drawn->t i q=c.t i q):R c.l (c.w.dN t):=by
 obtain⟨n,J,D,a,g,C⟩:=h t z;cases n with
 |zero=>
  simp only[runN,qM] at a;obtain⟨e,rfl⟩:=ij a;obtain rfl:=nK u.ne g.ne e;exact C
 |succ n=>
  exfalso;obtain⟨j,A,x,hd,p⟩:=u;rw[A] at a;have k:(∃o b d,stepG P true (Gl [j] [kq P]) (c.w.dN t)=.ended o b d)\/∃v b d,stepG P true (Gl [j] [kq P]) (c.w.dN t)=.go ⟨(kq P).finish v,[],.running,none,none⟩ b d:=by
   obtain⟨f,l,w,G,F,E,m⟩:=j;dsimp only at x hd p;subst x hd p;have y:stepG P true (Gl [⟨f,l,w,[],.returning,.normal,m⟩] [kq P]) (c.w.dN t)=unwind P true ⟨f,l,w,[],.returning,.normal,m⟩ [kq P] none (c.w.dN t):=rfl;rw[y];unfold unwind;dsimp only;cases I:P.funcs[f]? with
   |none=>exact .inr ⟨_,_,_,rfl⟩
   |some fn=>
    dsimp only;generalize (results fn l).runT P (c.w.dN t) #[]=q;obtain⟨r,d⟩:=q;cases r with
    |ok v b=>exact .inr ⟨v,b,_,rfl⟩
    |halt h b=>cases h<;>exact .inl ⟨_,_,_,rfl⟩
  unfold runN at a;rcases k with⟨o,b,d,e⟩|⟨v,b,d,e⟩
  .rw[cE rfl e] at a;cases a
  .rw[dK rfl e] at a;cases n with
   |zero=>
    simp only[runN,qM] at a;obtain⟨e, -⟩:=ij a;obtain⟨H,rfl, -⟩:=g;have:=gn Goroutine.callers e;cases this
   |succ n=>
    unfold runN at a;have s:stepG P true ⟨(kq P).finish v,[],.running,none,none⟩ b=(Extern.next "fmt's door").elim (.ended (.stuck ("no extern row " ++ "fmt's door") (Frame.pos P ((kq P).finish v))) b #[]) λe=>stepG.apply P true ((kq P).finish v) [] none (e (#[].push v)) b:=rfl;rw[B] at s;simp only[cE rfl s] at a;cases a
end
section
variable {P P':Program} {R:List Frame->World->Prop} {ρ:Ren}
def sim(T:Twin P P')(X:ai6 P P')(C:GlR ρ){c:Cfg}(m':Bool)(y:iJ P ρ c.l l')(K:WR ρ c.w w')(x:¬pD c.l)(z:ku P R c) :
  ∃m k d r l f,ae7 P c m/\ku P R m/\ρ.Le k/\(∀base,stepG P' m' (Gl l' base) w'=.go (Gl d base) r f)/\WR k m.w r/\Kept ρ k c.w w' m.w r/\EvW c.w k l f/\GoR P P' k m.l d:=by
 obtain⟨a,D,H⟩:=ayb (P:=P) (P':=P') T X C true m' y K x;have b:c.l≠[]:=λe=>by rw[e] at y;cases y
 rcases H with H|⟨k,O,s,l,d,r,f,G,Q,M,F,J,N,I,L⟩
 .exfalso;have B:=H [kq P] (λi q=>if i<c.w.drawn then c.t i q else a i q) λi q p _=>bv (by omega);obtain⟨n,U,V,j,v, -⟩:=z (λi q=>if i<c.w.drawn then c.t i q else a i q) λi q p=>dj p;cases n with
  |zero=>
   simp only[runN,qM] at j;obtain⟨e, -⟩:=ij j;obtain rfl:=nK b v.ne e;exact x v
  |succ n=>
   unfold runN at j;rcases apq B with⟨o,w,l,e⟩|⟨g,w,l,e,u⟩
   .rw[cE (jl b _) e] at j;cases j
   .rw[dK (jl b _) e] at j;exact u n _ _ j (v.fin _)
 .have A:ae7 P c ⟨O,s,λi q=>if i<c.w.drawn then c.t i q else a i q⟩:=
   ⟨b,x,by show c.w.drawn<=s.drawn;omega,λi q p=>dj p,l,λbase t E=>G base t λi q p S=>by
    rw[E i q (by show i<s.drawn;omega)];exact bv (by omega)⟩
  exact⟨_,k,d,r,l,f,A,z.step A,M,F,J,N,I,L⟩
end
section
variable {P P':Program} {ρ:Ren}
def adw:∀(n t:Nat) (acc:Array Value),(∀v∈acc.toList,dh v)->∀v∈(Extern.BytealgMakeNoZero.digits n t acc).toList,dh v
 |0,_,acc,h=>h
 |n+1,t,acc,h=>by
  unfold Extern.BytealgMakeNoZero.digits;refine adw n _ _ λv a=> ?_;rw[rN,io] at a;rcases a with a|a
  .exact h v a
  .simp at a;subst a;exact λ_=>.int _ _
def ab0(T:Twin P P')(i f:Array TypeId)(h:dm ρ a Y):aw P P' VR ρ (Extern.BytealgMakeNoZero.makeNoZero i f a) (Extern.BytealgMakeNoZero.makeNoZero i f Y):=by
 unfold Extern.BytealgMakeNoZero.makeNoZero;obtain⟨a⟩:=a;obtain⟨Y⟩:=Y;have h:bU ρ a Y:=h;cases h with
 |nil=>exact .halt _ _
 |cons j o=>
  cases o with
  |cons=>cases j<;>exact .halt _ _
  |nil=>
   cases j with
   |int k n=>
    cases k<;>try exact .halt _ _
    dsimp only;cases f[0]? with
    |none=>exact .halt _ _
    |some t=>
     dsimp only;refine ah (aF T t) λE d A D hd=> ?_;obtain⟨rfl, -⟩:=hd;cases d with
     |slice e=>
      dsimp only;refine aS (λ_=>dP _) λ_=> ?_;refine ah (iM _) λB c l w q=> ?_;obtain rfl:c=l:=q;refine ah (alb c) λx _ _ C _=> ?_;refine ah (iM _) λs b m z q=> ?_;obtain rfl:b=m:=q;refine ah (oZ e (bU.kI λv g=>adw _ _ _ (λv g=>by cases g) v g _)) λy r u F p=> ?_;exact aj (.slice (.some p) _ _)
     |_=>exact .halt _ _
   |_=>exact .halt _ _
def adx:∀(n:Nat) {ρ:Ren} {a c:Addr} (acc:ByteArray),AR ρ a c->aw P P' jF ρ (Extern.Bytes.loadBytes a n acc) (Extern.Bytes.loadBytes c n acc)
 |0,_,_,_,_,_=>aj rfl
 |n+1,ρ,a,c,acc,h=>by
  unfold Extern.Bytes.loadBytes;refine ah (aqV .plain h) λg v f e d=> ?_;cases d with
  |int k b=>
   cases k<;>first|exact adx n _ ((h.mono e).add 1)|exact .halt _ _
  |_=>exact .halt _ _
def ady(h:dm ρ a Y):aw P P' VR ρ (Extern.BytealgIndexByte.indexByte a) (Extern.BytealgIndexByte.indexByte Y):=by
 unfold Extern.BytealgIndexByte.indexByte;obtain⟨a⟩:=a;obtain⟨Y⟩:=Y;have h:bU ρ a Y:=h;cases h with
 |nil=>exact .halt _ _
 |cons m d=>
  cases d with
  |nil=>exact .halt _ _
  |cons g d=>
   cases d with
   |cons=>exact .halt _ _
   |nil=>
    refine ah (A:=jF) ?_ λr b j q e=> ?_
    .cases m with
     |string s=>exact aj rfl
     |slice f l c=>cases f with
      |none=>exact aj rfl
      |some f=>exact adx _ _ f
     |_=>exact .halt _ _
    .obtain rfl:b=j:=e;refine ah (A:=jF) ?_ λo c i p e=> ?_
     .cases g with
      |int k n=>cases k<;>first|exact aj rfl|exact .halt _ _
      |_=>exact .halt _ _
     .obtain rfl:c=i:=e;split
      .exact aj (.int _ _)
      .exact aj (.int _ _)
end
noncomputable def alI(f:Nat):Bool:=match prog.funcs[f]? with
 |some fn=>!alw prog f||fn.body.isSome||f ==210||f ==226
 |none=>true
def agU{f:Nat}{fn:Func}(h:prog.funcs[f]?=some fn)(a:alI f=true):(!alw prog f||fn.body.isSome||f ==210||f ==226)=true:=by
 unfold alI at a;generalize prog.funcs[f]?=q at h a;subst h;exact a
def ae8:(List.range prog.funcs.size).all alI=true:=by kernel_rfl
def anU:f210.body.isNone=true:=by kernel_rfl
def anV:f226.body.isNone=true:=by kernel_rfl
def anW:Extern.findNext f210=none:=by kernel_rfl
def adz:Extern.findNext f226=none:=by kernel_rfl
def anX:Extern.find f210=some (Extern.BytealgMakeNoZero.makeNoZero f210.params f210.resultTypes):=by kernel_rfl
def anY:Extern.find f226=some Extern.BytealgIndexByte.indexByte:=by kernel_rfl
def acY:Extern.next "fmt's door" =none:=by kernel_rfl
def ab1 {P' : Program} {ρ:Ren} {fn b:Func} {e:Array Value->Sem Value} (r:P.funcs[f]?=some fn) (i:P'.funcs[f]?=some b) (g:fn.body.isNone=true) (k:b.body.isNone=true)
  (q:(fn.name == "runtime.NumGoroutine")=false) (t:(b.name == "runtime.NumGoroutine")=false) (s:Extern.findNext fn=none) (x2:Extern.findNext b=none) (n:Extern.find fn=some e) (u:Extern.find b=some e)
  (o:∀(c:Ren) a Y,dm c a Y->aw P P' VR c (e a) (e Y)) (h:dm ρ a Y):aw P P' iC ρ (callFunc f a) (callFunc f Y):=by
 unfold callFunc;refine ah dg λc p v m d=> ?_;obtain⟨rfl,rfl⟩:=d;rw[r,i];dsimp only;rw[q,t,g,k];simp only[jp,qG,pr];refine ah (aqW (.extern f)) λj _ _ l _=> ?_;rw[s,x2,n,u];exact bD (o j _ _ (bU.mono (m.trans l) h))
def awZ(β:Bool):ai6 (ai β) prog:=λf fn d i k o a j h=>by
 obtain⟨p,b,n⟩:=ah4 β f fn d;obtain rfl:=n.none i;have g:=(dq.1 b).1;have c:=lc.1 ae8 f (qn.2 g);have c:=agU b c;have m:alw prog f=true:=by
  have:gA f=alw prog f:=by unfold gA;rfl
  rw[<-this];exact k
 rw[m,i] at c;simp only[uY,tn,ut,uu,qQ,mt] at c;rcases c with rfl|rfl
 .have e:=b.symm.trans func210;obtain rfl:=ef e;exact ab1 d func210 anU anU (cL func210) (cL func210) anW anW anX anX (λl a j h=>ab0 (mb β) _ _ h) h
 .have e:=b.symm.trans func226;obtain rfl:=ef e;exact ab1 d func226 anV anV (cL func226) (cL func226) adz adz anY anY (λl a j h=>ady h) h
def aaJ{args:Array Value}{t0:Tape}{Post:Value->World->Prop}(h:∀t:Tape,(∀i q,i<w.drawn->t i q=t0 i q)->Calls P f args (w.dN t) λe b=>∃v,e=.returned v/\Post v b) :
  ku P (λl b=>∃a v,l=[a]/\a.fn=f/\a.leaving P b (.returned v)/\Post v b) ⟨[Frame.enter P f args .normal],w,t0⟩:=λt j=>by
 obtain⟨e,b,a,⟨v,rfl,d⟩,⟨n,k⟩,g,c⟩:=h t j [kq P];refine⟨n,[a],b,k,⟨a,rfl,c.1,c.2.1,c.2.2.1⟩,a,v,rfl,g,c,d⟩
end
section
open Go.RowKit
def auL{k:IntKind}{a b:Int}(h:a=b):Ending.returned (.int k a)=.returned (.int k b):=by rw[h]
def av{a b:Bool}(h:a=b):Ending.returned (.bool a)=.returned (.bool b):=by rw[h]
structure bV (S:Nat->Prop) (w w':World):Prop where
 os:w'.os=w.os
 tape:w'.tape=w.tape
 output:w'.output=w.output
 size:w.heap.size<=w'.heap.size
 block:∀k,k<w.heap.size->¬S k->w'.heap[k]?=w.heap[k]?
def bV.refl(S:Nat->Prop)(w:World):bV S w w:=⟨rfl,rfl,rfl,am _,λ_ _ _=>rfl⟩
def bV.trans{T : Nat->Prop}{a b c:World}(h:bV S a b)(k:bV T b c)(f:∀i,i<a.heap.size->T i->S i):bV S a c:=
 ⟨k.os.trans h.os,k.tape.trans h.tape,k.output.trans h.output,db h.size k.size,
  λi d e=>(k.block i (bd d h.size) (λg=>e (f i d g))).trans (h.block i d e)⟩
def bV.mono{T : Nat->Prop}{a b:World}(h:bV S a b)(d:∀i,i<a.heap.size->S i->T i):bV T a b:=
 ⟨h.os,h.tape,h.output,h.size,λi c f=>h.block i c λe=>f (d i c e)⟩
def bV.below{B:Nat}(h:bV S w w')(c:B<=w.heap.size)(b:∀i,i<B->¬S i):Below B w w':=
 ⟨h.os,h.tape,h.output,h.size,λk a=>h.block k (bd a c) (b k a)⟩
def bV.bF(h:Below w.heap.size w w'):bV S w w':=
 ⟨h.os,h.tape,h.output,h.size,λk a _=>h.block k a⟩
def bV.alloc{a : World}(h:bV S a w)(o:Obj):bV S a (w.alloc o):=
 ⟨h.os,h.tape,h.output,db h.size (by simp),λi c b=>(sq w o i (bd c h.size)).trans (h.block i c b)⟩
def bV.drew{a : World}(h:bV S a w):bV S a w.drew:=⟨h.os,h.tape,h.output,h.size,h.block⟩
def bV.drewN{a : World}(h:bV S a w)(n:Nat):bV S a (w.drewN n):=⟨h.os,h.tape,h.output,h.size,h.block⟩
def bV.setCell{a : World}(h:bV S a w){p:Addr}(b:S p.block\/a.heap.size<=p.block)(u:Value):bV S a (w.setCell p u):=
 ⟨h.os,h.tape,h.output,by simpa[World.setCell] using h.size,λi d c=>(qw w p u i (by
  rintro rfl;rcases b with b|b
  .exact c b
  .omega)).trans (h.block i d c)⟩
def ae{a : World}(h:Below a.heap.size a w)(b:Below w.heap.size w w'):Below a.heap.size a w':=h.trans (b.mono h.size)
abbrev gR(α:Type):=World->Nat->Nat->α->List Value->Prop
structure Lcy {α:Type} (E:gR α):Prop where
 go:∀{w w':World} {lo hi pF hi':Nat} {x:α} {cs:List Value},
  (∀b,lo<=b->b<hi->w'.heap[b]?=w.heap[b]?)->pF<=lo->hi<=hi'->E w lo hi x cs->E w' pF hi' x cs
def bX(x:Int):Prop:= -9223372036854775808<=x/\x<=9223372036854775807
def pC:gR Int:=λ_ _ _ x a=>a=[.int .i64 x]/\bX x
def iD:gR Int:=λ_ _ _ x a=>a=[.int .u8 x]/\0<=x/\x<256
def pC.loc:Lcy pC:=⟨λ_ _ _ h=>h⟩
def iD.loc:Lcy iD:=⟨λ_ _ _ h=>h⟩
def cB{α:Type}(E:gR α)(sz:Nat):gR (List α):=λw f g d k=>
 ∃(A:Option Addr) (c:Nat),k=[.slice A d.length c]/\d.length<=c/\c<=maxLen/\
  (0<d.length->∃b a,A=some ⟨b,a,none⟩/\f<=b/\b<g/\
   ∀i x,d[i]?=some x->∃e:List Value,e.length=sz/\E w f g x e/\∀j u,e[j]?=some u->w.cell? ⟨b,a+i*sz+j,none⟩=some u)
def cB.loc{E:gR Z}(p:Lcy E) :Lcy (cB E W):=by
 refine⟨?_⟩;intro w B H G C d F D n e m ⟨A,c,g,o,y,h⟩;refine⟨A,c,g,o,y,λq=> ?_⟩;obtain⟨b,f,rfl,l,k,v⟩:=h q;refine⟨b,f,rfl,db e l,bd k m,λi x d=> ?_⟩;obtain⟨s,r,z,a⟩:=v i x d;exact⟨s,r,p.go n e m z,λj u t=>(qy (n b l k)).trans (a j u t)⟩
def Lcy.below{E:gR Z}(c:Lcy E){B : Nat}{cs:List Value}(h:E w lo hi x cs)(e:Below B w w')(d:hi<=B):E w' lo hi x cs:=
 c.go (λb _ a=>e.block b (bd a d)) (am _) (am _) h
def Lcy.wide{E:gR Z}(a:Lcy E){pF hi' : Nat}{cs:List Value}(h:E w lo hi x cs)(c:pF<=lo)(b:hi<=hi'):E w pF hi' x cs:=
 a.go (λ_ _ _=>rfl) c b h
def cB.at_{E:gR Z}(h:cB E W w lo hi xs [.slice A n c])(g:xs[k]?=some x) :
  ∃b a e,A=some ⟨b,a,none⟩/\lo<=b/\b<hi/\e.length=W/\E w lo hi x e/\∀j u,e[j]?=some u->w.cell? ⟨b,a+k*W+j,none⟩=some u:=by
 obtain⟨A',r,f,s,t,i⟩:=h;simp only[qf,qa,qh] at f;obtain⟨rfl,rfl,rfl⟩:=f;have l:k<xs.length:=by
  rcases pm k xs.length with h|h
  .exact h
  .rw[sK h] at g;cases g
 obtain⟨b,a,rfl,o,m,i⟩:=i (by omega);obtain⟨e,p,q,d⟩:=i k x g;exact⟨b,a,e,rfl,o,m,p,q,d⟩
def cB.ints_at{xs:List Int}(h:cB pC 1 w lo hi xs [.slice A n c]){x:Int}(f:xs[k]?=some x) :
  ∃b a,A=some ⟨b,a,none⟩/\lo<=b/\b<hi/\bX x/\w.cell? ⟨b,a+k,none⟩=some (.int .i64 x):=by
 obtain⟨b,a,l,rfl,g,e,j,⟨rfl,d⟩,i⟩:=h.at_ f;exact⟨b,a,rfl,g,e,d,by simpa using i 0 _ rfl⟩
def cB.ae9{xs:List Int}(h:cB iD 1 w lo hi xs [.slice A n c]){x:Int}(f:xs[k]?=some x) :
  ∃b a,A=some ⟨b,a,none⟩/\lo<=b/\b<hi/\(0<=x/\x<256)/\w.cell? ⟨b,a+k,none⟩=some (.int .u8 x):=by
 obtain⟨b,a,l,rfl,g,e,j,⟨rfl,d⟩,i⟩:=h.at_ f;exact⟨b,a,rfl,g,e,d,by simpa using i 0 _ rfl⟩
def cB.len_{E:gR Z}(h:cB E W w lo hi xs [.slice A n c]):n=xs.length/\n<=c/\c<=maxLen:=by
 obtain⟨A',e,a,d,b,f⟩:=h;simp only[qf,qa,qh] at a;obtain⟨rfl,rfl,rfl⟩:=a;exact⟨rfl,d,b⟩
def cB.form{E:gR Z}(h:cB E W w lo hi xs [v]):∃A c,v=.slice A xs.length c:=by
 obtain⟨A',d,a,e,b,f⟩:=h;simp only[qf,qh] at a;exact⟨_,_,a⟩
def ak{l:List Z}(h:k<l.length):∃x,l[k]?=some x:=⟨l[k],ls h⟩
def aI{l:List Z}(h:l[k]?=some x):k<l.length:=by
 rcases pm k l.length with a|a
 .exact a
 .rw[sK a] at h;cases h
def nL{α:Type}{P:List α->Prop}(h0:P [])(h1:∀l a,P l->P (l++[a]))(l:List α):P l:=by
 rw[<-l.reverse_reverse]
 induction l.reverse with
 |nil=>exact h0
 |cons a t b=>rw[List.reverse_cons];exact h1 _ _ b
def mp{l:List Z}(h:l[k]?=some x):l.take (k+1)=l.take k++[x]:=by
 rw[List.take_add_one,h];rfl
def cg(w:World)(g:Nat)(t:TypeId)(cs:Array Value):Prop:=w.heap[g]?=some (.cells cs t (0,0))
section
variable {w w':World} {g:Nat} {t:TypeId} {cs:Array Value}
def cg.lt(h:cg w g t cs):g<w.heap.size:=by
 rcases pm g w.heap.size with a|b
 .exact a
 .unfold cg at h;rw[qg b] at h;cases h
def cg.cell(h:cg w g t cs)(i:Nat):w.cell? ⟨g,i,none⟩=cs[i]?:=cell_of_row w g i cs t (0,0) h
def cg.frozen(h:cg w g t cs)(i:Nat):w.frozen? ⟨g,i,none⟩=false:=by
 unfold cg at h;simp[World.frozen?,h]
def cg.new(w:World)(t:TypeId)(cs:Array Value):cg (w.alloc (.cells cs t)) w.heap.size t cs:=heap_alloc_new w _
def cg.bC(h:cg w g t cs)(i:Nat)(u:Value):cg (w.setCell ⟨g,i,none⟩ u) g t (cs.setIfInBounds i u):=by
 unfold cg at h ⊢;simp[World.setCell,pe,h]
end
section
variable {w w':World} {g N:Nat} {t:TypeId} {vs:List Value}
end
def cB.alx{E:gR Z}{cs:List Value}(h:cB E W w lo hi xs cs):∀x∈xs,∃a,E w lo hi x a:=by
 obtain⟨A,c,g,m,l,f⟩:=h;intro x j;obtain⟨i,hi⟩:=rb.1 j;obtain⟨b,e,_,_,_,d⟩:=f (by have:=aI hi;omega);obtain⟨a,_,k,_⟩:=d i x hi;exact⟨a,k⟩
def cB.ao9{xs:List Int}{cs:List Value}(h:cB pC 1 w lo hi xs cs):∀x∈xs,bX x:=λx b=>by
 obtain⟨c,a⟩:=h.alx x b;exact a.2
section
variable {w:World} {g:Nat} {t:TypeId} {n:Nat} {f f':Nat->Int}
end
end
section
section
variable (P:Program) (fs:Array Func)
def ab2(t:TypeId)(w:World):(underlying t).run {P with funcs:=fs} w=(underlying t).run P w:=by
 show Sem.run _ (match({P with funcs:=fs}:Program).underlying t with|some d=>pure d|none=>stuck "no such type") w=Sem.run P (match P.underlying t with|some d=>pure d|none=>stuck "no such type") w;rw[cP];cases P.underlying t<;>rfl
def aa6(t:TypeId)(w:World):(typeInfo t).run {P with funcs:=fs} w=(typeInfo t).run P w:=by
 show Sem.run _ (match({P with funcs:=fs}:Program).info? t with|some d=>pure d|none=>stuck "no such type") w=Sem.run P (match P.info? t with|some d=>pure d|none=>stuck "no such type") w;rw[ko];cases P.info? t<;>rfl
def arA{β : Type}(P Q:Program)(s:Sem Z)(f:Z->Sem β)(w:World)(h:s.run Q w=s.run P w)(b:∀a w,(f a).run Q w=(f a).run P w):(s.bind f).run Q w=(s.bind f).run P w:=by
 have c:=qO Q s f w;have e:=qO P s f w;exact c.trans ((gn (λr=>Result.andThen r λa d=>(f a).run Q d) h).trans ((gn (λF=>Result.andThen (s.run P w) F) (funext λa=>funext λw=>b a w)).trans e.symm))
def alJ{β : Type}(s:Sem Z)(f:Z->Sem β)(w:World)(h:s.run {P with funcs:=fs} w=s.run P w)(b:∀a w,(f a).run {P with funcs:=fs} w=(f a).run P w):(s.bind f).run {P with funcs:=fs} w=(s.bind f).run P w:=arA P _ s f w h b
def arB(t:TypeId)(w:World):(sizeOf t).run {P with funcs:=fs} w=(sizeOf t).run P w:=alJ P fs _ _ w (aa6 P fs t w) λ_ _=>rfl
def ajr(t:TypeId)(w:World):(zeroValue t).run {P with funcs:=fs} w=(zeroValue t).run P w:=alJ P fs _ _ w (aa6 P fs t w) λi w=>by
 cases i.zero<;>rfl
def auM(t:TypeId)(w:World):(isAgg t).run {P with funcs:=fs} w=(isAgg t).run P w:=alJ P fs _ _ w (ab2 P fs t w) λd w=>by
 cases d<;>rfl
end
variable {β:Bool}
@[simp,go_sem] theorem at6(t:TypeId)(w:World):(underlying t).run (ai β) w=(underlying t).run prog w:=ab2 prog (mK β) t w
@[simp,go_sem] theorem aw0(t:TypeId)(w:World):(typeInfo t).run (ai β) w=(typeInfo t).run prog w:=aa6 prog (mK β) t w
@[simp,go_sem] theorem bW(t:TypeId)(w:World):(sizeOf t).run (ai β) w=(sizeOf t).run prog w:=arB prog (mK β) t w
@[simp,go_sem] theorem aU(t:TypeId)(w:World):(zeroValue t).run (ai β) w=(zeroValue t).run prog w:=ajr prog (mK β) t w
@[simp,go_sem] theorem cM(t:TypeId)(w:World):(isAgg t).run (ai β) w=(isAgg t).run prog w:=auM prog (mK β) t w
@[simp,go_sem] theorem bg(t:TypeId):(ai β).underlying t=prog.underlying t:=cP prog (mK β) t
@[simp,go_sem] theorem aAc(t:TypeId):(ai β).stoodInHeld t=prog.stoodInHeld t:=aeo prog (mK β) t
@[simp,go_sem] theorem aAd(d:Nat)(t:TypeId):(ai β).eqGuardType d t=prog.eqGuardType d t:=ah3 prog (mK β) d t
@[simp,go_sem] theorem aAe:(ai β).depth=prog.depth:=aem prog (mK β)
abbrev ah6:List Nat:=[67,107,108,111,171,198,212,216,2,156,157,159,160,166,223,258]
noncomputable def ayf(f:Nat):Bool:=ah6.contains f||match prog.funcs[f]? with
 |some fn=>match fn.body with
  |some c=>gb prog gA gL c
  |none=>true
 |none=>true
def arC:(List.range prog.funcs.size).all ayf=true:=by kernel_rfl
def auN{f:Nat}{fn:Func}(h:prog.funcs[f]?=some fn)(a:ayf f=true)(b:ah6.contains f=false):∀c,fn.body=some c->gb prog gA gL c=true:=by
 unfold ayf at a;rw[b] at a;generalize prog.funcs[f]?=q at h a;subst h;intro c d;simp only[d,uu] at a;exact a
def au{f:Nat}{fn:Func}(h:prog.funcs[f]?=some fn)(g:ah6.contains f=false):(ai β).funcs[f]?=some fn:=by
 have d:=(dq.1 h).1;have b:=auN h (lc.1 arC f (qn.2 d)) g;have j:f≠nCC:=λe=>by subst e;revert g;decide
 have i:f≠cD:=λe=>by subst e;revert g;decide
 have k:pf fn=fn:=by
  unfold pf;cases a:fn.body with
  |none=>cases fn;dsimp only at a;subst a;rfl
  |some c=>
   have:gP c=c:=by unfold gP;exact aiY _ _ _ _ c (b c a)
   cases fn;dsimp only at a;subst a;show _=_;simp only[qe,this]
 refine(alF β j i).trans ?_;have e:Option.map pf (prog.funcs[f]?)=Option.map pf (some fn):=gn _ h;rw[e,qe,k]
def lu{fn:Func}(h:P.funcs[f]?=some fn)(d:(fn.name == "runtime.NumGoroutine")=false)(a:fn.body.isSome=true)(args:Array Value)(w:World):(callFunc f args).run P w=.ok (.enter f args) w:=by
 show Sem.run P (match P.funcs[f]? with|none=>_|some fn=>_) w=_;rw[h];obtain⟨c,b⟩:=rD.1 a;simp only[d,b,Option.isNone_some];rfl
def aA{f:Nat}{fn:Func}(h:prog.funcs[f]?=some fn)(a:ah6.contains f=false)(b:fn.body.isSome=true)(args:Array Value)(w:World):(callFunc f args).run (ai β) w=.ok (.enter f args) w:=lu (au h a) (cL h) b args w
end
section
variable {β:Bool}
def qF3:=au (β:=β) func3 (by decide)
def qF5:=au (β:=β) func5 (by decide)
def qF6:=au (β:=β) func6 (by decide)
def qF7:=au (β:=β) func7 (by decide)
def qF8:=au (β:=β) func8 (by decide)
def qF9:=au (β:=β) func9 (by decide)
def zT:=au (β:=β) func10 (by decide)
def xA:=au (β:=β) func14 (by decide)
def zS:=au (β:=β) func15 (by decide)
def wN:=au (β:=β) func16 (by decide)
def zR:=au (β:=β) func17 (by decide)
def zQ:=au (β:=β) func18 (by decide)
def xz:=au (β:=β) func19 (by decide)
def zP:=au (β:=β) func20 (by decide)
def zO:=au (β:=β) func21 (by decide)
def xy:=au (β:=β) func22 (by decide)
def zN:=au (β:=β) func23 (by decide)
def zM:=au (β:=β) func24 (by decide)
def xw:=au (β:=β) func25 (by decide)
def zL:=au (β:=β) func26 (by decide)
def zK:=au (β:=β) func27 (by decide)
def zJ:=au (β:=β) func28 (by decide)
def qF29:=au (β:=β) func29 (by decide)
def qF30:=au (β:=β) func30 (by decide)
def zI:=au (β:=β) func40 (by decide)
def zH:=au (β:=β) func41 (by decide)
def zG:=au (β:=β) func42 (by decide)
def zF:=au (β:=β) func43 (by decide)
def zE:=au (β:=β) func44 (by decide)
def xv:=au (β:=β) func45 (by decide)
def zD:=au (β:=β) func46 (by decide)
def zC:=au (β:=β) func47 (by decide)
def xu:=au (β:=β) func48 (by decide)
def zB:=au (β:=β) func49 (by decide)
def qF50:=au (β:=β) func50 (by decide)
def qF51:=au (β:=β) func51 (by decide)
def zA:=au (β:=β) func60 (by decide)
def zy:=au (β:=β) func61 (by decide)
def zv:=au (β:=β) func62 (by decide)
def zu:=au (β:=β) func63 (by decide)
def zt:=au (β:=β) func64 (by decide)
def zp:=au (β:=β) func65 (by decide)
def zn:=au (β:=β) func66 (by decide)
def zm:=au (β:=β) func68 (by decide)
def zl:=au (β:=β) func69 (by decide)
def zk:=au (β:=β) func70 (by decide)
def zj:=au (β:=β) func71 (by decide)
def zh:=au (β:=β) func72 (by decide)
def zg:=au (β:=β) func73 (by decide)
def zf:=au (β:=β) func74 (by decide)
def ze:=au (β:=β) func75 (by decide)
def qF76:=au (β:=β) func76 (by decide)
def qF77:=au (β:=β) func77 (by decide)
def qF78:=au (β:=β) func78 (by decide)
def qF79:=au (β:=β) func79 (by decide)
def qF80:=au (β:=β) func80 (by decide)
def qF81:=au (β:=β) func81 (by decide)
def qF82:=au (β:=β) func82 (by decide)
def qF83:=au (β:=β) func83 (by decide)
def qF84:=au (β:=β) func84 (by decide)
def qF85:=au (β:=β) func85 (by decide)
def qF86:=au (β:=β) func86 (by decide)
def zd:=au (β:=β) func93 (by decide)
def zc:=au (β:=β) func94 (by decide)
def yZ:=au (β:=β) func95 (by decide)
def yY:=au (β:=β) func96 (by decide)
def yX:=au (β:=β) func97 (by decide)
def yW:=au (β:=β) func98 (by decide)
def yV:=au (β:=β) func99 (by decide)
def wv:=au (β:=β) func100 (by decide)
def xk:=au (β:=β) func101 (by decide)
def yN:=au (β:=β) func102 (by decide)
def yM:=au (β:=β) func103 (by decide)
def yL:=au (β:=β) func104 (by decide)
def yK:=au (β:=β) func105 (by decide)
def yJ:=au (β:=β) func106 (by decide)
def yI:=au (β:=β) func110 (by decide)
def wR:=au (β:=β) func112 (by decide)
def xj:=au (β:=β) func113 (by decide)
def yH:=au (β:=β) func114 (by decide)
def yG:=au (β:=β) func115 (by decide)
def yF:=au (β:=β) func116 (by decide)
def yE:=au (β:=β) func117 (by decide)
def xi:=au (β:=β) func118 (by decide)
def yD:=au (β:=β) func119 (by decide)
def yC:=au (β:=β) func120 (by decide)
def yB:=au (β:=β) func121 (by decide)
def yA:=au (β:=β) func122 (by decide)
def yz:=au (β:=β) func123 (by decide)
def yy:=au (β:=β) func124 (by decide)
def xh:=au (β:=β) func125 (by decide)
def qF126:=au (β:=β) func126 (by decide)
def qF127:=au (β:=β) func127 (by decide)
def qF128:=au (β:=β) func128 (by decide)
def qF129:=au (β:=β) func129 (by decide)
def qF130:=au (β:=β) func130 (by decide)
def qF131:=au (β:=β) func131 (by decide)
def yx:=au (β:=β) func138 (by decide)
def yw:=au (β:=β) func139 (by decide)
def yv:=au (β:=β) func140 (by decide)
def yu:=au (β:=β) func141 (by decide)
def yr:=au (β:=β) func142 (by decide)
def yq:=au (β:=β) func143 (by decide)
def wQ:=au (β:=β) func144 (by decide)
def yp:=au (β:=β) func145 (by decide)
def xg:=au (β:=β) func146 (by decide)
def wO:=au (β:=β) func147 (by decide)
def yo:=au (β:=β) func148 (by decide)
def yn:=au (β:=β) func149 (by decide)
def ym:=au (β:=β) func163 (by decide)
def yl:=au (β:=β) func169 (by decide)
def yk:=au (β:=β) func170 (by decide)
def yj:=au (β:=β) func172 (by decide)
def yi:=au (β:=β) func173 (by decide)
def yh:=au (β:=β) func174 (by decide)
def wD:=au (β:=β) func175 (by decide)
def yg:=au (β:=β) func176 (by decide)
def wM:=au (β:=β) func177 (by decide)
def yf:=au (β:=β) func178 (by decide)
def ye:=au (β:=β) func179 (by decide)
def qF180:=au (β:=β) func180 (by decide)
def wu:=au (β:=β) func184 (by decide)
def yd:=au (β:=β) func185 (by decide)
def wK:=au (β:=β) func189 (by decide)
def yc:=au (β:=β) func190 (by decide)
def yb:=au (β:=β) func195 (by decide)
def wJ:=au (β:=β) func196 (by decide)
def ya:=au (β:=β) func199 (by decide)
def xf:=au (β:=β) func200 (by decide)
def xZ:=au (β:=β) func201 (by decide)
def xe:=au (β:=β) func202 (by decide)
def xY:=au (β:=β) func203 (by decide)
def xX:=au (β:=β) func207 (by decide)
def xW:=au (β:=β) func208 (by decide)
def xV:=au (β:=β) func210 (by decide)
def xU:=au (β:=β) func211 (by decide)
def xT:=au (β:=β) func213 (by decide)
def xS:=au (β:=β) func218 (by decide)
def xR:=au (β:=β) func219 (by decide)
def xQ:=au (β:=β) func226 (by decide)
@[go_sem] def qC5:=aA (β:=β) func5 (by decide) rfl
@[go_sem] def qC6:=aA (β:=β) func6 (by decide) rfl
@[go_sem] def qC7:=aA (β:=β) func7 (by decide) rfl
@[go_sem] def qC8:=aA (β:=β) func8 (by decide) rfl
@[go_sem] def qC9:=aA (β:=β) func9 (by decide) rfl
@[go_sem] def qC10:=aA (β:=β) func10 (by decide) rfl
@[go_sem] def qC14:=aA (β:=β) func14 (by decide) rfl
@[go_sem] def qC15:=aA (β:=β) func15 (by decide) rfl
@[go_sem] def qC16:=aA (β:=β) func16 (by decide) rfl
@[go_sem] def qC17:=aA (β:=β) func17 (by decide) rfl
@[go_sem] def qC18:=aA (β:=β) func18 (by decide) rfl
@[go_sem] def qC19:=aA (β:=β) func19 (by decide) rfl
@[go_sem] def qC20:=aA (β:=β) func20 (by decide) rfl
@[go_sem] def qC21:=aA (β:=β) func21 (by decide) rfl
@[go_sem] def qC22:=aA (β:=β) func22 (by decide) rfl
@[go_sem] def qC23:=aA (β:=β) func23 (by decide) rfl
@[go_sem] def qC24:=aA (β:=β) func24 (by decide) rfl
@[go_sem] def qC25:=aA (β:=β) func25 (by decide) rfl
@[go_sem] def qC26:=aA (β:=β) func26 (by decide) rfl
@[go_sem] def qC27:=aA (β:=β) func27 (by decide) rfl
@[go_sem] def qC28:=aA (β:=β) func28 (by decide) rfl
@[go_sem] def qC29:=aA (β:=β) func29 (by decide) rfl
@[go_sem] def qC30:=aA (β:=β) func30 (by decide) rfl
@[go_sem] def qC40:=aA (β:=β) func40 (by decide) rfl
@[go_sem] def qC41:=aA (β:=β) func41 (by decide) rfl
@[go_sem] def qC42:=aA (β:=β) func42 (by decide) rfl
@[go_sem] def qC43:=aA (β:=β) func43 (by decide) rfl
@[go_sem] def qC44:=aA (β:=β) func44 (by decide) rfl
@[go_sem] def qC45:=aA (β:=β) func45 (by decide) rfl
@[go_sem] def qC46:=aA (β:=β) func46 (by decide) rfl
@[go_sem] def qC47:=aA (β:=β) func47 (by decide) rfl
@[go_sem] def qC48:=aA (β:=β) func48 (by decide) rfl
@[go_sem] def qC49:=aA (β:=β) func49 (by decide) rfl
@[go_sem] def qC60:=aA (β:=β) func60 (by decide) rfl
@[go_sem] def qC61:=aA (β:=β) func61 (by decide) rfl
@[go_sem] def qC62:=aA (β:=β) func62 (by decide) rfl
@[go_sem] def qC63:=aA (β:=β) func63 (by decide) rfl
@[go_sem] def qC64:=aA (β:=β) func64 (by decide) rfl
@[go_sem] def qC65:=aA (β:=β) func65 (by decide) rfl
@[go_sem] def qC66:=aA (β:=β) func66 (by decide) rfl
@[go_sem] def qC68:=aA (β:=β) func68 (by decide) rfl
@[go_sem] def qC69:=aA (β:=β) func69 (by decide) rfl
@[go_sem] def qC70:=aA (β:=β) func70 (by decide) rfl
@[go_sem] def qC71:=aA (β:=β) func71 (by decide) rfl
@[go_sem] def qC72:=aA (β:=β) func72 (by decide) rfl
@[go_sem] def qC73:=aA (β:=β) func73 (by decide) rfl
@[go_sem] def qC74:=aA (β:=β) func74 (by decide) rfl
@[go_sem] def qC75:=aA (β:=β) func75 (by decide) rfl
@[go_sem] def qC93:=aA (β:=β) func93 (by decide) rfl
@[go_sem] def qC94:=aA (β:=β) func94 (by decide) rfl
@[go_sem] def qC95:=aA (β:=β) func95 (by decide) rfl
@[go_sem] def qC96:=aA (β:=β) func96 (by decide) rfl
@[go_sem] def qC97:=aA (β:=β) func97 (by decide) rfl
@[go_sem] def qC98:=aA (β:=β) func98 (by decide) rfl
@[go_sem] def qC99:=aA (β:=β) func99 (by decide) rfl
@[go_sem] def Bq:=aA (β:=β) func100 (by decide) rfl
@[go_sem] def Bp:=aA (β:=β) func101 (by decide) rfl
@[go_sem] def Bo:=aA (β:=β) func102 (by decide) rfl
@[go_sem] def Bj:=aA (β:=β) func103 (by decide) rfl
@[go_sem] def Bi:=aA (β:=β) func104 (by decide) rfl
@[go_sem] def Bh:=aA (β:=β) func105 (by decide) rfl
@[go_sem] def Bg:=aA (β:=β) func106 (by decide) rfl
@[go_sem] def Bf:=aA (β:=β) func110 (by decide) rfl
@[go_sem] def Be:=aA (β:=β) func112 (by decide) rfl
@[go_sem] def Bd:=aA (β:=β) func113 (by decide) rfl
@[go_sem] def Bc:=aA (β:=β) func114 (by decide) rfl
@[go_sem] def Bb:=aA (β:=β) func115 (by decide) rfl
@[go_sem] def Ba:=aA (β:=β) func116 (by decide) rfl
@[go_sem] def B9:=aA (β:=β) func117 (by decide) rfl
@[go_sem] def B8:=aA (β:=β) func118 (by decide) rfl
@[go_sem] def B7:=aA (β:=β) func119 (by decide) rfl
@[go_sem] def B6:=aA (β:=β) func120 (by decide) rfl
@[go_sem] def B5:=aA (β:=β) func121 (by decide) rfl
@[go_sem] def B4:=aA (β:=β) func122 (by decide) rfl
@[go_sem] def B3:=aA (β:=β) func123 (by decide) rfl
@[go_sem] def B2:=aA (β:=β) func124 (by decide) rfl
@[go_sem] def AZ:=aA (β:=β) func125 (by decide) rfl
@[go_sem] def AY:=aA (β:=β) func138 (by decide) rfl
@[go_sem] def AX:=aA (β:=β) func139 (by decide) rfl
@[go_sem] def AW:=aA (β:=β) func140 (by decide) rfl
@[go_sem] def AV:=aA (β:=β) func141 (by decide) rfl
@[go_sem] def AU:=aA (β:=β) func142 (by decide) rfl
@[go_sem] def AT:=aA (β:=β) func143 (by decide) rfl
@[go_sem] def AS:=aA (β:=β) func144 (by decide) rfl
@[go_sem] def AQ:=aA (β:=β) func145 (by decide) rfl
@[go_sem] def AP:=aA (β:=β) func146 (by decide) rfl
@[go_sem] def AO:=aA (β:=β) func147 (by decide) rfl
@[go_sem] def AN:=aA (β:=β) func148 (by decide) rfl
@[go_sem] def AM:=aA (β:=β) func149 (by decide) rfl
@[go_sem] def AK:=aA (β:=β) func163 (by decide) rfl
@[go_sem] def AJ:=aA (β:=β) func169 (by decide) rfl
@[go_sem] def AI:=aA (β:=β) func170 (by decide) rfl
@[go_sem] def AH:=aA (β:=β) func172 (by decide) rfl
@[go_sem] def AG:=aA (β:=β) func173 (by decide) rfl
@[go_sem] def AF:=aA (β:=β) func174 (by decide) rfl
@[go_sem] def AE:=aA (β:=β) func175 (by decide) rfl
@[go_sem] def AC:=aA (β:=β) func176 (by decide) rfl
@[go_sem] def AB:=aA (β:=β) func177 (by decide) rfl
@[go_sem] def AA:=aA (β:=β) func178 (by decide) rfl
@[go_sem] def Az:=aA (β:=β) func179 (by decide) rfl
@[go_sem] def Aw:=aA (β:=β) func184 (by decide) rfl
@[go_sem] def Au:=aA (β:=β) func185 (by decide) rfl
@[go_sem] def Am:=aA (β:=β) func189 (by decide) rfl
@[go_sem] def Ak:=aA (β:=β) func190 (by decide) rfl
@[go_sem] def Aj:=aA (β:=β) func195 (by decide) rfl
@[go_sem] def Ah:=aA (β:=β) func196 (by decide) rfl
@[go_sem] def Ag:=aA (β:=β) func199 (by decide) rfl
@[go_sem] def Af:=aA (β:=β) func201 (by decide) rfl
@[go_sem] def Ad:=aA (β:=β) func202 (by decide) rfl
@[go_sem] def Ac:=aA (β:=β) func203 (by decide) rfl
@[go_sem] def zZ:=aA (β:=β) func207 (by decide) rfl
@[go_sem] def zY:=aA (β:=β) func208 (by decide) rfl
@[go_sem] def zX:=aA (β:=β) func211 (by decide) rfl
@[go_sem] def zW:=aA (β:=β) func213 (by decide) rfl
@[go_sem] def zV:=aA (β:=β) func218 (by decide) rfl
@[go_sem] def zU:=aA (β:=β) func219 (by decide) rfl
def qU0:=(bg (β:=β) 0).trans underlying0
def qU3:=(bg (β:=β) 3).trans underlying3
def qU4:=(bg (β:=β) 4).trans underlying4
def qU5:=(bg (β:=β) 5).trans underlying5
def qU9:=(bg (β:=β) 9).trans underlying9
def wI:=(bg (β:=β) 22).trans underlying22
def yU:=(bg (β:=β) 23).trans underlying23
def yT:=(bg (β:=β) 24).trans underlying24
def yS:=(bg (β:=β) 25).trans underlying25
def wZ:=(bg (β:=β) 31).trans underlying31
def yR:=(bg (β:=β) 33).trans underlying33
def yQ:=(bg (β:=β) 38).trans underlying38
def xt:=(bg (β:=β) 40).trans underlying40
def xr:=(bg (β:=β) 64).trans underlying64
def yP:=(bg (β:=β) 83).trans underlying83
def yO:=(bg (β:=β) 93).trans underlying93
def xP:=(bg (β:=β) 117).trans underlying117
def xO:=(bg (β:=β) 129).trans underlying129
def xN:=(bg (β:=β) 130).trans underlying130
def xM:=(bg (β:=β) 135).trans underlying135
def xL:=(bg (β:=β) 138).trans underlying138
def xK:=(bg (β:=β) 140).trans underlying140
def xJ:=(bg (β:=β) 148).trans underlying148
def xI:=(bg (β:=β) 151).trans underlying151
def xH:=(bg (β:=β) 160).trans underlying160
def xG:=(bg (β:=β) 182).trans underlying182
def xF:=(bg (β:=β) 186).trans underlying186
def xE:=(bg (β:=β) 225).trans underlying225
def xD:=(bg (β:=β) 238).trans underlying238
def xC:=(bg (β:=β) 257).trans underlying257
end
section
variable {β:Bool}
open Go.RowKit
def ab3(n lo hi:Int)(w:World) :
  Calls (ai β) 25 #[.int .i64 n,.int .i64 lo,.int .i64 hi] w λe b=>e=.returned (.bool (decide (lo<=n)&&decide (n<=hi)))/\w=b:=by
 by_cases h:lo<=n
 .go_enter xw,ntmps25;go_wp2;go_ret;exact⟨by simp[h],rfl⟩
 .go_enter xw,ntmps25;go_wp2;go_ret;have a:decide (lo<=n)=false:=by simpa using h
  exact⟨by rw[a];rfl,rfl⟩
def afa(n lo hi:Int)(b:lo<=n)(c:n<=hi)(w:World) :
  Calls (ai β) 25 #[.int .i64 n,.int .i64 lo,.int .i64 hi] w λe a=>e=.returned (.bool true)/\w=a:=
 (ab3 n lo hi w).mono λe a ⟨he,hw⟩=>⟨by rw[he];simp[b,c],hw⟩
def ah7(n lo hi:Int)(h:¬(lo<=n/\n<=hi))(w:World) :
  Calls (ai β) 25 #[.int .i64 n,.int .i64 lo,.int .i64 hi] w λe a=>e=.returned (.bool false)/\w=a:=
 (ab3 n lo hi w).mono λe a ⟨he,hw⟩=>⟨by
  rw[he];have:(decide (lo<=n)&&decide (n<=hi))=false:=by rw[<-Bool.decide_and];simpa using h
  rw[this],hw⟩
end
section
variable {β:Bool}
open Go.RowKit
def bs(s:ByteArray):List Nat:=s.data.toList.map UInt8.toNat
def aM(s:ByteArray):(bs s).length=s.size:=by
 unfold bs;rw[pZ,qX];rfl
def pG{s:ByteArray}(h:k<s.size):(bs s)[k]?=some (s[k]'h).toNat:=by
 unfold bs;rw[qz,eg];have:s.data[k]?=some (s.data[k]'h):=gt h;rw[this];rfl
def arD{s:ByteArray}:∀b∈bs s,b<256:=λb a=>by
 obtain⟨u,_,rfl⟩:=mc.1 a;exact u.toNat_lt
def jm{s t:ByteArray}(h:bs s=bs t):s=t:=by
 have e:s.data.toList=t.data.toList:=by
  unfold bs at h;generalize s.data.toList=a at *;generalize t.data.toList=b at *
  induction a generalizing b with
  |nil=>cases b with
   |nil=>rfl
   |cons y b=>cases h
  |cons x a d=>cases b with
   |nil=>cases h
   |cons y b=>
    simp only[qK,qf] at h;rw[sG.1 h.1,d b h.2]
 have c:s.data=t.data:=uB.1 e;cases s;cases t;simp only at c;rw[c]
def gG(s t:ByteArray):bs (s++t)=bs s++bs t:=by
 unfold bs;rw[<-qs,<-pv]
 congr 2
 simp
def cI(s:ByteArray)(a b:Nat):bs (s.extract a b)=((bs s).take b).drop a:=by
 unfold bs;simp only[vM,tL,vk];rw[<-List.map_take,<-List.map_drop]
 congr 1
 rw[List.take_drop];by_cases h:a<=b
 .congr 2;omega
 .have:b-a=0:=by omega
  rw[this,rv (by simp;omega),rv (by simp;omega)]
def aa7{s t:ByteArray}(h:¬t=s):(t.toList ==s.toList)=false:=by
 refine du.2 λe=>h ?_;rw[qT,qT] at e;have a:t.data=s.data:=uB.1 e;cases s;cases t;simp only at a;rw[a]
def oU(b:Nat):Bool:=decide (97<=b)&&decide (b<=122)
def aR(l:List Nat):Prop:=(1<=l.length/\l.length<=8)/\l.all oU=true
def eu:List Nat->Nat->Nat
 |[],n=>n
 |b::l,n=>eu l (27*n+(b-97)+1)
def code(l:List Nat):Nat:=eu l 0
def bG(key:Int)(l:List Nat):Int:=((code l:Int)*(2*key+1)+key*7919) % 999999999989
def cu(n:Nat):Nat:=if n=0\/8<n then 0 else if n<=2 then 2 else if n<=4 then 4 else 8
def fE(l:List Nat):List Nat:=l++List.replicate (cu l.length-l.length) 46
def gI:∀(a b:List Nat) (n:Nat),eu (a++b) n=eu b (eu a n)
 |[],_,_=>rfl
 |x::a,b,n=>by show eu (a++b) _=eu b (eu a _);rw[gI a b]
def afb:∀(l:List Nat) (n:Nat),l.all oU=true->eu l n<(n+1)*27 ^ l.length
 |[],n,_=>by show n<_;simp
 |b::l,n,h=>by
  simp only[qx,fk] at h;have a:=afb l (27*n+(b-97)+1) h.2;have c:b<=122:=by have:=h.1;unfold oU at this;simp at this;exact this.2
  show eu l _<_;refine bd a ?_;rw[fi,Nat.pow_succ,tU (27 ^ l.length) 27,<-Nat.mul_assoc];exact rH _ (by omega)
def ab4{l:List Nat}(h:aR l):code l<282429536481:=by
 have a:=afb l 0 h.2;unfold code;have b:27 ^ l.length<=27 ^ 8:=vW (by omega) h.1.2;have e:(27:Nat) ^ 8=282429536481:=by decide
 omega
def agV{l:List Nat}{b : Nat}(h:l[k]?=some b):code (l.take (k+1))=27*code (l.take k)+(b-97)+1:=by
 unfold code;rw[mp h,gI];rfl
def apr:∀{a b:List Nat},a.all oU=true->b.all oU=true->eu a 0=eu b 0->a=b:=by
 intro a
 induction a using nL with
 |h0=>
  intro b _ c h
  induction b using nL with
  |h0=>rfl
  |h1 l x _=>rw[gI] at h;show[]=_;exfalso;have:eu [x] (eu l 0)=27*eu l 0+(x-97)+1:=rfl;have h0:eu [] 0=0:=rfl;omega
 |h1 l x g=>
  intro b d c h
  induction b using nL with
  |h0=>rw[gI] at h;exfalso;have:eu [x] (eu l 0)=27*eu l 0+(x-97)+1:=rfl;have h0:eu [] 0=0:=rfl;omega
  |h1 m y _=>
   rw[tv] at d c;simp only[fk,qx,vA,uv] at d c;rw[gI,gI] at h;have i:eu [x] (eu l 0)=27*eu l 0+(x-97)+1:=rfl;have j:eu [y] (eu m 0)=27*eu m 0+(y-97)+1:=rfl;have f:=d.2;have e:=c.2;unfold oU at f e;simp at f e;have:eu l 0=eu m 0/\x=y:=by omega
   rw[g d.1 c.1 this.1,this.2]
def mf{key:Int}{l:List Nat}:0<=bG key l/\bG key l<=999999999988:=by
 unfold bG;omega
def di(l:List Nat):Nat->Nat
 |0=>0
 |n+1=>if l[n]?=some 46 then di l n else n+1
def tl(l:List Nat):List Nat:=l.take (di l l.length)
def acZ(l:List Nat):∀n,di l n<=n
 |0=>am _
 |n+1=>by
  unfold di;split
  .exact Nat.le_succ_of_le (acZ l n)
  .exact am _
open Classical in
noncomputable def cX(l:List Nat):Option (List Nat):=if aR (tl l)/\fE (tl l)=l then some (tl l) else none
def na :cu n<=8/\(n<=8->n<=cu n):=by
 unfold cu;split<;>(try split)<;>(try split)<;>omega
def afc{l:List Nat}(h:aR l):(fE l).length=cu l.length:=by
 unfold fE;rw[ap,qv];have:=na.2 h.1.2;omega
def aps{l:List Nat}(h:aR l):tl (fE l)=l:=by
 have c:∀m,di (fE l) (l.length+m)=l.length\/l.length+m>(fE l).length:=by
  intro m
  induction m with
  |zero=>
   left;obtain⟨k,f⟩:∃k,l.length=k+1:=⟨l.length-1,by have:=h.1.1;omega⟩;rw[rO,f];unfold di;rw[bv];unfold fE;rw[qE (by omega)];intro e;have:=lc.1 h.2 46 (aE e);simp[oU] at this
  |succ m b=>
   by_cases a:l.length+m<(fE l).length
   .rcases b with b|b
    .left;show di (fE l) (l.length+m+1)=_;unfold di;rw[dj,b];unfold fE at a ⊢;rw[ap,qv] at a;rw[qr (by omega),ue,dj (by omega)]
    .omega
   .right;omega
 have d:l.length<=(fE l).length:=by unfold fE;simp
 have:=c ((fE l).length-l.length);rw[Nat.add_sub_cancel' d] at this;unfold tl;rw[this.resolve_right (by omega)];unfold fE;rw[List.take_left]
def ajs{l:List Nat}(h:aR l):cX (fE l)=some l:=by
 unfold cX;rw[aps h,dj ⟨h,rfl⟩]
def qU(l:List Nat):ByteArray:=⟨(l.map UInt8.ofNat).toArray⟩
def afd{l:List Nat}(h:∀b∈l,b<256):bs (qU l)=l:=by
 unfold bs qU;simp only[tV]
 conv=>rhs;rw[<-List.map_id l]
 refine tP λb a=> ?_;have:=h b a;simp[UInt8.toNat_ofNat,Nat.mod_eq_of_lt this]
def aw1(s:ByteArray):qU (bs s)=s:=jm (afd arD)
def apt{s:ByteArray}:∀b∈fE (bs s),b<256:=λb a=>by
 unfold fE at a;rcases io.1 a with h|h
 .exact arD b h
 .have:=List.eq_of_mem_replicate h;omega
def ah8(s:ByteArray):bs (qU (fE (bs s)))=fE (bs s):=afd apt
end
section
variable {β:Bool}
open Go.RowKit
def aaK(s:ByteArray)(n:s.size<=maxLen)(w:World) :
  Calls (ai β) 145 #[.string s] w λe m=>e=.returned (.bool ((bs s).all oU))/\w=m:=by
 unfold maxLen at n;go_enter yp,ntmps145;go_wp2
 go_loop [3] (λi=>∃k:Nat,k<=s.size/\i=.int .i64 k/\((bs s).take k).all oU=true) (λi=>s.size-(intOf i).toNat)
 case atStart=>exact⟨0,fa _,rfl,rfl⟩
 case round=>
  obtain⟨k,p,rfl,f⟩:=hrel;replace f:=ab f;by_cases b:k<s.size
  .have c:=pG b;replace c:=ab c;by_cases q:(s[k]'b).toNat<97
   .have l:=de (show((s[k]'b).toNat:Int)<97 by omega);have a:(bs s).all oU=false:=by
     rw[uk];exact⟨_,aE c.out,by unfold oU;simp;omega⟩
    have d:=ab a;clear a;go_wp2;go_ret;exact⟨av d.out.symm,rfl⟩
   .have l:=da (show ¬(((s[k]'b).toNat:Int)<97) by omega);by_cases o:122<(s[k]'b).toNat
    .have j:=de (show 122<((s[k]'b).toNat:Int) by omega);have a:(bs s).all oU=false:=by
      rw[uk];exact⟨_,aE c.out,by unfold oU;simp;omega⟩
     have d:=ab a;clear a;go_wp2;go_ret;exact⟨av d.out.symm,rfl⟩
    .have j:=da (show ¬(122<((s[k]'b).toNat:Int)) by omega);have g:((bs s).take (k+1)).all oU=true:=by
      rw[mp c.out,tv,f.out];simp[oU];omega
     replace g:=ab g;go_wp2
     go_round
     case rel=>exact⟨k+1,by omega,by go_num,g.out⟩
     simp[intOf];omega
  .obtain rfl:k=s.size:=by omega
   have a:(bs s).all oU=true:=by
    have:=f.out
    rwa [qj (by rw[aM];exact am _)] at this
   have d:=ab a;clear a;go_wp2;go_ret;exact⟨av d.out.symm,rfl⟩
def adA(s:ByteArray)(i:s.size<=maxLen)(w:World)(b:Bool)(c:b=true↔aR (bs s)) :
  Calls (ai β) 178 #[.string s] w λe j=>e=.returned (.bool b)/\w=j:=by
 replace c:=ab c;have HS:=i;unfold maxLen at i;go_enter yf,ntmps178;go_wp2;by_cases g:1<=s.size/\s.size<=8
 .refine(afa s.size 1 8 (by omega) (by omega) w).mono ?_;rintro e f ⟨rfl,rfl⟩;go_wp2;refine(aaK s HS w).mono ?_;rintro e f ⟨rfl,rfl⟩;have a:b=(bs s).all oU:=by
   rw[qc,c.out];unfold aR;rw[aM];exact⟨λh=>h.2,λh=>⟨g,h⟩⟩
  have d:=ab a;clear a;go_wp2;go_ret;exact⟨av d.out.symm,rfl⟩
 .refine(ah7 s.size 1 8 (by omega) w).mono ?_;rintro e f ⟨rfl,rfl⟩;have a:b=false:=by
   rw[<-gc,c.out];unfold aR;rw[aM];exact λh=>g h.1
  have d:=ab a;clear a;go_wp2;go_ret;exact⟨av d.out.symm,rfl⟩
def alK(s:ByteArray)(f:aR (bs s))(w:World) :
  Calls (ai β) 121 #[.string s] w λe p=>e=.returned (.int .i64 (code (bs s)))/\w=p:=by
 have o:=ab f;have u:s.size<=8:=by have:=f.1.2;rwa [aM] at this
 clear f;go_enter yB,ntmps121;go_wp2
 go_loop [3,4] (λn i=>∃k:Nat,k<=s.size/\i=.int .i64 k/\n=.int .i64 (code ((bs s).take k))) (λ_ i=>s.size-(intOf i).toNat)
 case atStart=>exact⟨0,fa _,rfl,rfl⟩
 case round=>
  obtain⟨k,v,rfl,rfl⟩:=hrel;by_cases a:k<s.size
  .have l:=pG a;have j:=lc.1 o.out.2 _ (aE l);have q:97<=(s[k]'a).toNat/\(s[k]'a).toNat<=122:=by unfold oU at j;simpa using j
   have d:=agV l;have g:code ((bs s).take (k+1))<282429536481:=by
    have y:=afb ((bs s).take (k+1)) 0 (lc.2 λx r=>lc.1 o.out.2 x (oS r));have t:27 ^ ((bs s).take (k+1)).length<=27 ^ 8:=vW (by omega) (by rw[ff,aM];omega);have e:(27:Nat) ^ 8=282429536481:=by decide
    unfold code;omega
   have b:=ab d;clear l j;rw[d] at g;clear d;revert b g;generalize code ((bs s).take k)=c;intro g b;go_wp2
   go_round
   case rel=>exact⟨k+1,by omega,by go_num,by rw[b.out];congr 1;omega⟩
   simp[intOf];omega
  .obtain rfl:k=s.size:=by omega
   have m:(bs s).take s.size=bs s:=qj (by rw[aM];exact am _);rw[m];clear m;go_wp2;go_ret;exact⟨rfl,rfl⟩
def nM(key:Int)(s:ByteArray)(n:1<=key/\key<=99)(d:aR (bs s))(w:World) :
  Calls (ai β) 72 #[.int .i64 key,.string s] w λe j=>e=.returned (.int .i64 (bG key (bs s)))/\w=j:=by
 have i:=ab4 d;have g:bG key (bs s)=((code (bs s):Int)*(2*key+1)+key*7919) % 999999999989:=rfl;have a:=ab g;clear g;have f:=alK (β:=β) s d w;have b:=ab f;clear f;revert b;revert a;revert i;generalize code (bs s)=c;intro i a b;have q:0<=(c:Int)*(2*key+1)/\(c:Int)*(2*key+1)<=282429536481*199:=by
  constructor
  .exact Int.mul_nonneg (by omega) (by omega)
  .exact Int.mul_le_mul (by omega) (by omega) (by omega) (by omega)
 go_enter zh,ntmps72;go_wp2;refine b.out.mono ?_;rintro e k ⟨rfl,rfl⟩;have t:wrap64 (2*key)=2*key:=by unfold wrap64;omega
 have p:wrap64 (2*key+1)=2*key+1:=by unfold wrap64;omega
 have o:wrap64 ((c:Int)*(2*key+1))=(c:Int)*(2*key+1):=by unfold wrap64;omega
 have l:wrap64 (key*7919)=key*7919:=by unfold wrap64;omega
 have r:wrap64 ((c:Int)*(2*key+1)+key*7919)=(c:Int)*(2*key+1)+key*7919:=by unfold wrap64;omega
 have m:((c:Int)*(2*key+1)+key*7919).tmod 999999999989=((c:Int)*(2*key+1)+key*7919) % 999999999989:=uX (by omega);go_wp2;go_ret;exact⟨auL a.out.symm,rfl⟩
def ajt(n:Nat)(w:World) :
  Calls (ai β) 184 #[.int .i64 n] w λe d=>e=.returned (.int .i64 (cu n))/\w=d:=by
 have g:(n=0/\cu n=0)\/(8<n/\cu n=0)\/((1<=n/\n<=2)/\cu n=2)\/((3<=n/\n<=4)/\cu n=4)\/((5<=n/\n<=8)/\cu n=8):=by
  unfold cu;split<;>(try split)<;>(try split)<;>omega
 rcases g with⟨h,e⟩|⟨h,e⟩|⟨h,e⟩|⟨h,e⟩|⟨h,e⟩
 .rw[e];subst h;go_enter wu,ntmps184;go_wp2;go_ret;exact⟨rfl,rfl⟩
 .rw[e];have c:=da (show ¬((n:Int)<1) by omega);have b:=de (show 8<(n:Int) by omega);clear e;go_enter wu,ntmps184;go_wp2;go_ret;exact⟨rfl,rfl⟩
 all_goals
  rw[e];have c:=da (show ¬((n:Int)<1) by omega);have b:=da (show ¬(8<(n:Int)) by omega);clear e
 .have a:=de (show(n:Int)<=2 by omega);go_enter wu,ntmps184;go_wp2;go_ret;exact⟨rfl,rfl⟩
 .have a:=da (show ¬((n:Int)<=2) by omega);have f:=de (show(n:Int)<=4 by omega);go_enter wu,ntmps184;go_wp2;go_ret;exact⟨rfl,rfl⟩
 .have a:=da (show ¬((n:Int)<=2) by omega);have f:=da (show ¬((n:Int)<=4) by omega);go_enter wu,ntmps184;go_wp2;go_ret;exact⟨rfl,rfl⟩
def aw2(l:List Nat)(e:Ending):Prop:=∃t:ByteArray,e=.returned (.string t)/\bs t=l
def agW(s:ByteArray)(j:s.size<=maxLen)(w:World) :
  Calls (ai β) 143 #[.string s] w λe i=>aw2 (fE (bs s)) e/\w=i:=by
 unfold maxLen at j;have a:fE (bs s)=bs s++List.replicate (cu s.size-s.size) 46:=by unfold fE;rw[aM]
 replace a:=ab a;have m:=(na (n:=s.size)).1;go_enter yq,ntmps143;go_wp2;refine(ajt s.size w).mono ?_;rintro e o ⟨rfl,rfl⟩;go_wp2
 go_loop [0] (λv=>∃(t:ByteArray) (k:Nat),v=.string t/\bs t=bs s++List.replicate k 46/\k<=cu s.size-s.size) (λv=>cu s.size-(match v with|.string t=>t.size|_=>0))
 case atStart=>exact⟨s,0,rfl,by simp,fa _⟩
 case round=>
  obtain⟨t,k,rfl,c,p⟩:=hrel;have l:t.size=s.size+k:=by rw[<-aM,c,ap,qv,aM]
  replace c:=ab c;by_cases f:t.size<cu s.size
  .have g:=de (show(t.size:Int)<(cu s.size:Int) by omega);have d:bs (t++⟨#[46]⟩)=bs s++List.replicate (k+1) 46:=by
    rw[gG,c.out,rY,vX];rfl
   replace d:=ab d;go_wp2
   go_round
   case rel=>exact⟨_,k+1,rfl,d.out,by omega⟩
   case measure=> 
    have:(t++(⟨#[46]⟩:ByteArray)).size=t.size+1:=by rw[<-aM,gG,ap,aM];rfl
    simp only[this];omega
  .have g:=da (show ¬((t.size:Int)<(cu s.size:Int)) by omega);have b:k=cu s.size-s.size:=by omega
   replace b:=ab b;go_wp2;go_ret;exact⟨⟨t,rfl,by rw[c.out,a.out,b.out]⟩,rfl⟩
open Classical in
noncomputable def afe(l:List Nat):List Nat:=if aR l then fE l else[]
def agX(s:ByteArray)(f:s.size<=maxLen)(w:World) :
  Calls (ai β) 120 #[.string s] w λe i=>aw2 (afe (bs s)) e/\w=i:=by
 go_enter yC,ntmps120;by_cases b:aR (bs s)
 .have a:afe (bs s)=fE (bs s):=by unfold afe;rw[dj b]
  have c:=ab a;clear a;replace b:=ab b;go_wp2;refine(adA s f w true (by simp only[sO];exact b.out)).mono ?_;rintro e g ⟨rfl,rfl⟩;go_wp2;refine(agW s f w).mono ?_;rintro e g ⟨⟨t,rfl,d⟩,rfl⟩;replace d:=ab d;go_wp2;go_ret;exact⟨⟨t,rfl,by rw[d.out,c.out]⟩,rfl⟩
 .have a:afe (bs s)=[]:=by unfold afe;rw[bv b]
  have c:=ab a;clear a;replace b:=ab b;go_wp2;refine(adA s f w false (by simp only[jp,uC];exact b.out)).mono ?_;rintro e g ⟨rfl,rfl⟩;go_wp2;go_ret;exact⟨⟨_,rfl,by rw[c.out];rfl⟩,rfl⟩
def aCG(l:List Nat)(e:Ending):Prop:=∃(t:ByteArray) (b:Bool),e=.returned (.tuple #[.string t,.bool b])/\((b=true/\cX l=some (bs t))\/(b=false/\cX l=none/\bs t=[]))
def uH{s:ByteArray}(a:k<=s.size):(s.extract 0 k).size=k:=by
 rw[<-aM,cI,rc,ff,aM];omega
def adB(s:ByteArray)(D:s.size<=maxLen)(w:World) :
  Calls (ai β) 71 #[.string s] w λe F=>aCG (bs s) e/\w=F:=by
 have HS:=D;unfold maxLen at D;go_enter zj,ntmps71;go_wp2
 go_loop [4] (λn=>∃k:Nat,k<=s.size/\n=.int .i64 k/\di (bs s) s.size=di (bs s) k) (λn=>(intOf n).toNat)
 case atStart=>exact⟨s.size,am _,rfl,rfl⟩
 case round=>
  obtain⟨k,C,rfl,f⟩:=hrel;replace f:=ab f;rcases nf k with B|B
  .subst B;have g:tl (bs s)=[]:=by unfold tl;rw[aM,f.out];rfl
   have a:cX (bs s)=none:=by
    unfold cX;rw[g,bv];intro h;have:=h.1.1.1;simp at this
   have l:=ab a;clear a g;by_cases G:8<s.size
   .have z:=de (show 8<(s.size:Int) by omega);go_wp2;go_ret2;exact⟨⟨_,_,rfl,.inr ⟨rfl,l.out,rfl⟩⟩,rfl⟩
   .have z:=da (show ¬(8<(s.size:Int)) by omega);go_wp2;have x:(ByteArray.empty).size<=maxLen:=by unfold maxLen;show 0<=_;omega
    refine(agX ByteArray.empty x w).mono ?_;rintro e E ⟨⟨t,rfl,o⟩,rfl⟩;clear o;by_cases c:t=s
    .subst c;go_wp2;go_ret2;exact⟨⟨_,_,rfl,.inr ⟨rfl,l.out,rfl⟩⟩,rfl⟩
    .have A:=aa7 c;go_wp2;go_ret2;exact⟨⟨_,_,rfl,.inr ⟨rfl,l.out,rfl⟩⟩,rfl⟩
  .obtain⟨j,rfl⟩:∃j,k=j+1:=⟨k-1,by omega⟩;have K:((j+1:Nat):Int)-1=(j:Int):=by omega
   have r:j<s.size:=by omega
   have q:=pG r;by_cases i:(s[j]'r).toNat=46
   .have z:(((s[j]'r).toNat:Int) ==46)=true:=mt.2 (by omega);have v:di (bs s) s.size=di (bs s) j:=by
     rw[f.out];show(if(bs s)[j]?=some 46 then di (bs s) j else j+1)=_;rw[dj (by rw[q,i])]
    replace v:=ab v;clear q i;go_wp2
    go_round
    case rel=>exact⟨j,by omega,rfl,v.out⟩
    simp[intOf]
   .have z:(((s[j]'r).toNat:Int) ==46)=false:=du.2 (by omega);have p:di (bs s) (j+1)=j+1:=by
     show(if(bs s)[j]?=some 46 then di (bs s) j else j+1)=_;rw[bv (by rw[q];intro h;exact i (ef h))]
    have g:bs (s.extract 0 (j+1))=tl (bs s):=by
     rw[cI,rc];unfold tl;rw[aM,f.out,p]
    have m:=ab g;clear g p q i;have H:=uH C;by_cases G:8<s.size
    .have A:=de (show 8<(s.size:Int) by omega);have a:cX (bs s)=none:=by
      unfold cX;rw[bv];intro h;have d:=afc h.1;rw[h.2,aM] at d;have:=(na (n:=(tl (bs s)).length)).1;omega
     have l:=ab a;clear a;go_wp2;go_ret2;exact⟨⟨_,_,rfl,.inr ⟨rfl,l.out,rfl⟩⟩,rfl⟩
    .have A:=da (show ¬(8<(s.size:Int)) by omega);go_wp2;refine(agX (s.extract 0 (j+1)) (db (mu H) (db C HS)) w).mono ?_;rintro e E ⟨⟨t,rfl,o⟩,rfl⟩;rw[m.out] at o;have u:=ab o;clear o;by_cases c:t=s
     .have b:cX (bs s)=some (bs (s.extract 0 (j+1))):=by
       have d:=u.out;rw[c] at d;unfold afe at d;by_cases y:aR (tl (bs s))
       .rw[dj y] at d;unfold cX;rw[dj ⟨y,d.symm⟩,m.out]
       .rw[bv y] at d;have J:s.size=0:=by rw[<-aM,d];rfl
        omega
      replace b:=ab b;clear u;subst c;go_wp2;go_ret2;exact⟨⟨_,_,rfl,.inl ⟨rfl,b.out⟩⟩,rfl⟩
     .have a:cX (bs s)=none:=by
       unfold cX;rw[bv];intro h;have d:=u.out;unfold afe at d;rw[dj h.1,h.2] at d;exact c (jm d)
      have l:=ab a;clear a u;have I:=aa7 c;go_wp2;go_ret2;exact⟨⟨_,_,rfl,.inr ⟨rfl,l.out,rfl⟩⟩,rfl⟩
end
section
variable {β:Bool}
open Go.RowKit
structure iw (P:Program) (t e:TypeId) (sz bytes:Nat):Prop where
 slice:P.underlying t=some (.slice e)
 info:∃i z,P.info? e=some i/\i.zero=some z/\i.size=sz/\i.bytes=bytes/\z.cells.size=sz
 pos:0<sz
 small:bytes<=128
section
variable {P:Program}
def iw.mk'{t : TypeId}{z:Value}(f:P.underlying t=some (.slice e))(hi:(P.info? e).map (λi=>(i.zero,i.size,i.bytes))=some (some z,W,N))(k:z.cells.size=W)(a:0<W)(j:N<=128):iw P t e W N:=by
 obtain⟨i,d,b,g,c⟩:=info_parts hi;exact⟨f,⟨i,z,d,b,g,c,k⟩,a,j⟩
structure anZ (w w':World) (base:Nat) (e:TypeId) (sz:Nat) (v v':Value) (n:Nat) (cells:List Value):Prop where
 own:w'.ownsRow base e sz v' n cells
 fP:bV (λb=>v.ownBlock=some b) w w'
 at_:∀b,v'.ownBlock=some b->v.ownBlock=some b\/w.heap.size<=b
def ah9{base:Nat}(h:w.ownsRow base e W v n U)(k:bV S w w')(j:∀b,v.ownBlock=some b->¬S b):w'.ownsRow base e W v n U:=by
 refine⟨h.1, ?_⟩;rcases h.2 with i|⟨g,cap,d,rfl,f,a,c⟩
 .exact .inl i
 .refine .inr ⟨g,cap,d,rfl,f, ?_,c⟩;rw[k.block g (dq.1 a).1 (j g rfl)];exact a
def afg{base:Nat}(h:w.ownsRow base e W v n U)(a:Below w.heap.size w w'):w'.ownsRow base e W v n U:=
 ah9 h (bV.bF (S:=λ_=>False) a) λ_ _ h=>h
def an0 {t ty : TypeId} (q:iw P t e W N) {base:Nat}   (d:w.ownsRow base e W v n U)
  (Q:news.length=m*W) (S:0<m->∃a,A=some a/\∀(j:Nat) (u:Value),news[j]?=some u->w.cell? (a.add j)=some u) (R:∀u∈news,u.oneCell'=true)
  (X:n+m<=1099511627776) (l:base<=w.heap.size) :
  ∃y x,(Builtin.append_ #[t,t] ty #[v,.slice A m c]).run P w=.ok y x/\anZ w x base e W v y (n+m) (U++news):=by
 obtain⟨i,z,G,O,D,E,F⟩:=q.info;have f:(n+m)*N<=140737488355328:=db (Nat.mul_le_mul X q.small) (by omega);rcases nf m with I|I
 .subst I;have C:news=[]:=sd (by simpa using Q);subst C;cases A with
  |some K=>
   obtain⟨y,x,M,H,o,_,p⟩:=run_append_own_at (P:=P) w base t ty e i z W N q.slice G O D E F q.pos v n U d K 0 c [] (by simp) (λj u V=>by simp at V) (by simp) (by unfold maxLen;omega) f l;exact⟨y,x,M,H,⟨o.os,o.tape,o.output,o.size,λk J r=>o.block k J λe=>r e.symm⟩,λb B=>by rcases p with p|p<;>rw[p] at B<;>simp_all⟩
  |none=>
   refine⟨v,w, ?_,by simpa using d,bV.refl _ _,λb B=>.inl B⟩;rcases d.2 with⟨rfl,rfl⟩|⟨g,cap,T,rfl,_,_,L,_⟩
   .simp[Builtin.append_,lw q.slice,sizeOf,typeInfo,G,Builtin.lenOf,Builtin.firstCells]
   .simp[Builtin.append_,lw q.slice,sizeOf,typeInfo,G,Builtin.lenOf,Builtin.firstCells,L,storeCells]
 .obtain⟨K,rfl,s⟩:=S I;obtain⟨y,x,M,H,o,_,p⟩:=run_append_own_at (P:=P) w base t ty e i z W N q.slice G O D E F q.pos v n U d K m c news Q s R (by unfold maxLen;omega) f l;exact⟨y,x,M,H,⟨o.os,o.tape,o.output,o.size,λk J r=>o.block k J λe=>r e.symm⟩,λb B=>by rcases p with p|p<;>rw[p] at B<;>simp_all⟩
def ayg  {a:Act} {K:Act->World->Prop} (s x:Operand) (t:TypeId)
  (l:o.op=.call ⟨.builtin .append,#[s,x],#[t,t]⟩)
  (k:iw P t e W N) {base:Nat}   (r:a.eval s=v) (d:w.ownsRow base e W v n U)
  (y:a.eval x=.slice A m c) (p:news.length=m*W) (C:0<m->∃a,A=some a/\∀(j:Nat) (u:Value),news[j]?=some u->w.cell? (a.add j)=some u) (B:∀u∈news,u.oneCell'=true)
  (z:n+m<=1099511627776) (b:base<=w.heap.size)
  (h:∀i g,anZ w g base e W v i (n+m) (U++news)->K (a.put o.dst i) g):o.wp P a w K Q:=by
 obtain⟨i,g,f,q⟩:=an0 (P:=P) (ty:=o.type) k d (c:=c) p C B z b;unfold Oper.wp execOp;simp only[l,resolve,invoke,builtin,tG,tT,uh,List.map_toArray,qK,List.map_nil,r,y,f];exact h i g q
def ab5    {a:Act} (i:o.guard=none) (s x:Operand) (t:TypeId)
  (y:o.op=.call ⟨.builtin .append,#[s,x],#[t,t]⟩)
  (r:iw P t e W N) {base:Nat}   (B:a.eval s=v) (d:w.ownsRow base e W v n U)
  (C:a.eval x=.slice A m c) (z:news.length=m*W) (q:0<m->∃a,A=some a/\∀(j:Nat) (u:Value),news[j]?=some u->w.cell? (a.add j)=some u) (l:∀u∈news,u.oneCell'=true)
  (D:n+m<=1099511627776) (b:base<=w.heap.size)
  (h:∀g f,anZ w f base e W v g (n+m) (U++news)->wpList P M Q rest (a.put o.dst g) f):wpList P M Q (o::rest) a w:=
 wpList_plain i λ_ p=>ayg s x t y r B d C z q l D b λg f k=>p _ _ (h g f k)
def auO    {a:Act} (k:o.guard=none) (s x:Operand) (t:TypeId)
  (B:o.op=.call ⟨.builtin .append,#[s,x],#[t,t]⟩)
  (A:iw P t e W N) {base:Nat}   (E:a.eval s=v) (d:w.ownsRow base e W v n U)
  {es:Array Value} {T:TypeId} (G:a.eval x=.slice (some ⟨w.heap.size,0,none⟩) 1 1) (C:es.size=W) (z:∀u∈es.toList,u.oneCell'=true)
  (H:n<=1099511627775) (p:base<=w.heap.size)
  (h:∀g f,anZ w f base e W v g (n+1) (U++es.toList)->wpList P M Q rest (a.put o.dst g) f):wpList P M Q (o::rest) a (w.alloc (.cells es T)):=by
 refine ab5 k s x t B A E (d.alloc _) (c:=1) (m:=1) (news:=es.toList) G (by simp[C]) (λ_=>⟨_,rfl,λj u D=> ?_⟩) z (by omega) (by simp;omega) λg f l=>h g f ?_
 .have q:(⟨w.heap.size,0,none⟩:Addr).add j=⟨w.heap.size,j,none⟩:=by unfold Addr.add;split<;>simp_all
  rw[q,(cg.new w T es).cell];simpa using D
 .refine⟨l.own, ?_, ?_⟩
  .exact((bV.refl (λb=>v.ownBlock=some b) w).alloc _).trans l.fP λi _ F=>F
  .intro b y;rcases l.at_ b y with r|r
   .exact .inl r
   .simp at r;right;omega
end
def auP(w:World)(base:Nat)(v:Value)(xs:List Int):Prop:=w.ownsRow base 3 1 v xs.length (xs.map (Value.int .i64))
def lj:iw (ai β) 31 3 1 8:=iw.mk' wZ (z:=.int .i64 0) (by kernel_rfl) rfl (by decide) (by decide)
def jR{base:Nat}(h:w.ownsRow base e W v n U):∃A c,v=.slice A n c:=by
 rcases h.2 with⟨rfl,rfl⟩|⟨g,cap,a,rfl,_⟩
 .exact⟨_,_,rfl⟩
 .exact⟨_,_,rfl⟩
def arG {E:gR Z} {base : Nat}     (h:w.ownsRow base e W v xs.length U) (r:w.heap.size<=hi)
  (o:∀i x,xs[i]?=some x->∃a:List Value,a.length=W/\E w base hi x a/\∀j u,a[j]?=some u->U[i*W+j]?=some u):cB E W w base hi xs [v]:=by
 obtain⟨A,l⟩:=h;rcases l with⟨rfl,m⟩|⟨g,cap,d,rfl,n,k,f,c,s,y⟩
 .exact⟨none,0,by rw[m],by omega,by unfold maxLen;omega,λB=>by omega⟩
 .refine⟨_,cap,rfl,f,c,λ_=>⟨g,0,rfl,n,bd (dq.1 k).1 r,λi x hi=> ?_⟩⟩;obtain⟨a,p,t,z⟩:=o i x hi;refine⟨a,p,t,λj u q=> ?_⟩;have b:=z j u q;rw[<-y,rj] at b;split at b
  .rw[cell_of_row w g (0+i*W+j) d e (0,0) k];rw[lm];simpa using b
  .cases b
def auP.sl{base : Nat}{xs:List Int}(h:auP w base v xs)(b:∀x∈xs,bX x)(d:w.heap.size<=hi):cB pC 1 w base hi xs [v]:=
 arG h d λi x hi=>⟨[.int .i64 x],rfl,⟨rfl,b x (aE hi)⟩,λj u a=>by
  have c:j=0:=by have:=aI a;simpa using this
  subst c;simp at a;subst a;rw[qz,tA,rO,hi];rfl⟩
end
end Go.Proofs.YtlggbfanooejbaaGreatDoor