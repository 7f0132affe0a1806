/- A part. -/
import Derived.Test.YtblbaiejjagdoaaGreatDoorG5
import Derived.Conc.Holds
import Derived.OpenVars
import Derived.LaidMore
import Derived.Lay
import Derived.SevenTiedAt
import Derived.Test.YtblbaiejjagdoaaGreatDoorTie
import Derived.Test.YtblbaiejjagdoaaGreatDoorCards
import Derived.SizedLaws
import Derived.Laws.Strings
import Derived.Lib.Strings
import Derived.Lib.Slices
import Derived.Lib.AppendStr
import Derived.Lib.FrozenHead
import Derived.Lib.UnsafeStr
import Derived.Lib.MakeNoZero
import Derived.Shelf.RegionOpenPlain
import Derived.Laws.Externs
import Derived.Laws.IdiomCopy
import Derived.Laws.BitsLemmas
import Derived.Maps.AppendAt
import Derived.Deep.OwnRows
import Derived.StillTail
import Derived.Deep.RegionHeld3
import Derived.Deep.RegionLaw
import Derived.Laws.OwnMore
import Derived.Laws.MakeOwn
set_option maxRecDepth 100000
set_option maxHeartbeats 8000000
set_option linter.all false
open Go Go.Conc Go.RowKit Go.Proofs.Tryz Go.Proofs.YtblbaiejjagdoaaGreatDoor
variable {Z X N b c g i j k m n:Nat} {T a:Act} {W:Type} {o:Oper} {p:Addr} {u v:Value} {w w' x:World} {O e t:TypeId} {f:FuncId} {P:Program} {S:Nat→Prop} {l:List Nat} {rest:List Oper} {s:ByteArray} {Y news:List Value} {U:Array Oper} {d:Option Tmp} {listed:Array Bool} {R cs es:Array Value} {A:Option Addr} {V:Act→World→Prop} {Q:Exit→Act→World→Prop} {E:fq W} {xs:List W}
namespace Go.Proofs.YtblbaiejjagdoaaGreatDoor
def ab:=@Go.Lib.hid
def bv:=@Bool.not_eq_true
def db:=@Go.RowKit.Below.refl
def dk:=@List.take_length
def ge:=@List.length_append
def oS:=@List.setIfInBounds_toArray
def pu:=@bne_eq_false_iff_eq
def pM:=@Go.Addr.mk.injEq
def pN:=@Go.bodyPost_ret
def pO:=@List.set_cons_zero
def pP:=@List.length_replicate
def pV:=@List.set_cons_succ
def qf:=@List.mem_of_mem_take
def qj:=@true_iff
def qo:=@Go.ByteArray.toList_eq
def qv:=@Go.Lib.cell_of_heap
def qI:=@List.flatMap_append
def qO:=@false_iff
def qU:=@Go.Lib.byteCells_length
def qW:=@List.nodup_append
def qZ:=@List.length_set
def rj:=@Go.size_madeCells
def rq:=@Nat.mul_le_mul_right
def ru:=@Nat.add_zero
def rz:=@List.append_assoc
def rE:=@Nat.add_sub_cancel_left
def rK:=@List.drop_eq_nil_of_le
def rN:=@UInt8.toNat_inj
def rU:=@Int.toNat_natCast
def so:=@Nat.succ_mul
def sF:=@List.nodup_cons
def sQ:=@List.eq_nil_of_length_eq_zero
def sS:=@List.foldl_append
def sX:=@Go.getD_replicate_false
def tn:=@Go.Sem.run_bind
def tp:=@List.map_map
def tD:=@List.getElem?_replicate
def tE:=@List.filter_cons_of_pos
def tF:=@List.filter_cons_of_neg
def tG:=@of_decide_eq_true
def tI:=@List.size_toArray
def tJ:=@List.ext_getElem?
def tK:=@List.all_eq_false
def tW:=@List.any_eq_true
def tX:=@Array.toList_inj
def ud:=@Go.Sem.run_pure
def ug:=@List.map_nil
def uk:=@List.take_succ_cons
def ul:=@List.map_congr_left
def ut:=@Go.Lib.frozen_of_heap
def uu:=@Int.tmod_eq_emod_of_nonneg
def uy:=@Go.World.ownsRow_nil
def uz:=@Go.Result.andThen_ok
def uC:=@Bool.eq_false_iff
def uD:=@Go.MakeChecks.laidMetH_plain
def uE:=@List.findIdx?_eq_none_iff
def uF:=@List.extract_eq_take_drop
def uG:=@List.drop_eq_getElem_cons
def uP:=@Go.World.block_lt_of_cell?
def uW:=@ByteArray.data_extract
def uY:=@List.take_take
def uZ:=@List.set_append_right
def vt:=@Nat.pow_le_pow_right
def vw:=@List.replicate_succ'
def vC:=@Go.Claim7.new_of_sixth
section
open Go.RowKit Go.ChangeShapes Go.WideShapes Go.ChangeAt Go.Conc
section
variable {H:Type} {enc:TypeId×Value->H} {P:Program}
def abG{w:World}{a:Nat->Bool}:∀{b:List String} {c:List (DataW H)} {i:List MemPlace},DataW.TrodVars enc P w a b c i->c.length=b.length
 |[],[],_,_=>rfl
 |[],_::_,_,h=>h.elim
 |_::_,[],_,h=>h.elim
 |n::b,d::c,i,h=>by
  obtain⟨g,t,o,f,p,q,r,k,l,m,j,e⟩:=h;rw[mp,mp,abG j]
theorem aoR {f:Func} {s:ChangeSpec} {b:Bool} {W u:World} {args:Array Value} {i gs:List (DataW H)} {a:List MemPlace} {o:TypeId}
  (r:laidOutB P=true) (w:∀t∈f.params.toList,P.readableRec t=true/\t<P.types.size) (e:f.resultTypes=#[o]) (n:P.underlying o=some .bool) (j:varsRowed P s.vars=true)
  (c:s.fn H (i++gs)={results:=[.lit (.bool true)],args:=i,vars:=gs})
  (l:DataW.Whole enc P f.params.toList s.vars b W args.toList i gs a) (k:Below W.heap.size W u) :
  s.post enc P f b true false false W args (.bool true) u:=by
 have d:∀p∈a,p.block<W.heap.size:=λp v=>by simpa using l.lt p v
 have m:=l;obtain⟨p,q,B,z,rfl,A,y⟩:=l;refine⟨i,gs,p++q,[],p,q,m, ?_, ?_, ?_,World.keptBut_mono (λx g=>g.elim) (k.frame λ_=>False),λh=>by cases h⟩
 .rw[c,e];exact trodAll_mk1 (shut_bool n _)
 .rw[c];exact aai r w B (λx g=>k.same (d x (by simp[g]))) (λx g=>by simpa using d x (by simp[g]))
 .rw[c];exact k.trodVars r j z
end
def wv (i:Looks) {p:Pinned} {s:OpenSpec} {c:OpenClaim} (l:List (List PathCond)) (kinds:List LaidKind) (a:Bool) (b:Bool×String) (d:Bool)
  (A:c.holds p s) (n:∀D∈l,(c.withDomain D).holds p s) (x:c.wfByText s=true) (m:∀D∈l,(c.withDomain D).wfByText s=true)
  (k:c.laidByTextAt i p kinds a)
  (e:c.start=.entering) (g:c.noBlocks=false/\c.again=false) (v:p.checked.prog.mainIs=some (b.1,b.2.toList)) (z:(!b.1&&b.2.isEmpty&&!d)=false)
  (o:∀f q,p.checked.prog.funcNamed c.func=some f->p.checked.prog.funcs[f]?=some q->d=p.checked.prog.looks []/\∀(j:Nat) t,q.params[j]?=some t->p.checked.prog.wantsStandIn t=false)
  (y:true=c.goesBy p.checked.prog) :
  Claim7.holds p (.plain s) {stood:={row:=c,standIns:=[],harness:=b,looks:=d},kinds:=[],alts:=l,goes:=true,laidByText:=true,laidKinds:=kinds,laidTests:=a,laidLooks:=i}:=by
 have w:∀r:OpenClaim,Claim7.isSixth {stood:={row:=r,standIns:=[],harness:=b,looks:=d},kinds:=[]}=false:=λr=>by simpa[Claim7.isSixth] using z
 refine⟨Claim7.tied_new_at i kinds a (vC A b d e g v (w c) o) x,λD u=> ?_,k,(λh=>by cases h),y⟩;exact Claim7.tied_new_at i kinds a (vC (n D u) b d e g v (w _) o) (m D u)
abbrev laidL:List (String×DataW Unit):=[("unicode/utf8.acceptRanges",Rows.laid_unicode_utf8_acceptRanges),("loop.example/depositary/impl.errPiece",Rows.laid_loop_example_depositary_impl_errPiece),("loop.example/depositary/impl.errKey",Rows.laid_loop_example_depositary_impl_errKey),("unicode/utf8.first",Rows.laid_unicode_utf8_first)]
def wK(os:Os)(args:Array Value):laidMetH prog laidL ((World.laidAll prog os laidL).forCall (λ_ _=>0) ⟨#[],args,[]⟩).memory:=by
 rw[uD _ _ _ (by kernel_rfl)];exact laidMet_laidAll _ (by kernel_rfl) (by kernel_rfl)
end
section
open Go.Conc Go.RowKit Go.ChangeShapes Go.WideShapes Go.ChangeAt
def aoS:decide (prog.globals.size<(begin prog (λ_ _=>0) default).world.heap.size)=true:=by kernel_rfl
def azr{W:World}(h:W.ShapedOpen prog):gN<=W.heap.size:=by
 have b:=tG aoS;obtain⟨o,c,a, -⟩:=h.2 _ (am _) b;have:=(de.1 a).1;unfold gN;omega
def azs(k:FuncId)(W:World)(args:Array Value):Prop:=
 ∃a,a∈gL/\a<gN/\(∀g∈gL,dx W g)/\lW (dx W) args.toList/\
  ∀b:World,abF W (dx W) a b->∀t:Tape,Calls (ah true) k args (b.tap t) λe _=>∃v,e=.returned v/\v=.bool true
def vT {Y:Int->List gz->Int->ByteArray×Bool} (hF:dX Y) (E:∀S nm,Y S [] nm=(⟨#[]⟩,false)) {os:Os} {k:FuncId} {f:Func} {kt:Tmp} {s:ChangeSpec} {b:Bool} {H:Type} {enc:TypeId×Value->H} {X:World->Array Value->Prop}
  (hX:∀(w w':World) (args:Array Value),w.heap=w'.heap->X w args->X w' args)
  (F:ownKnob prog.godebug=none) (c:os.Started) (U:prog.inits.idxOf? k=none) (n:prog.funcs[k]?=some f) (hq:(ah true).funcs[k]?=some f) (I:gH k=false) (R:f.results=#[.tmp kt])
  (hl:laidOutB prog=true) (hr:(f.params.toList.all λt=>prog.readableRec t&&decide (t<prog.types.size))=true) (u:f.resultTypes=#[O]) (L:prog.underlying O=some .bool) (C:varsRowed prog s.vars=true)
  (K:∀l r:List (DataW H),l.length=f.params.toList.length->r.length=s.vars.length->s.fn H (l++r)={results:=[.lit (.bool true)],args:=l,vars:=r})
  (d:∃(w:World) (a:Tape) (i:Input),w.os=os/\(w.forCall a i).Shaped prog/\i.vars=[]/\Input.okWide prog (w.forCall a i) .any w.heap.size k i/\
   ((s.pre enc prog f [] b (w.forCall a i).memory i.args/\X (w.forCall a i).memory i.args)/\sizedMet enc prog f (OpenSpec.ofChange s) b (w.forCall a i).memory i.args)/\Assume.holds {} prog (lone (Frame.enter prog k i.args .normal) [] (w.forCall a i)))
  (z:∀(W:World) (base:Nat) (args:Array Value) (l:List (DataW H)) (p:List MemPlace),
   (∀(j:Nat) t v,f.params[j]?=some t->args[j]?=some v->Value.okWide prog W .any base t v)->
   DataW.TrodAll enc prog W 0 (λ_=>true) true f.params.toList args.toList l p->(∀x∈p,x.block<W.heap.size)->X W args->azs k W args) :
  ReturnsInLeavingWide {} Tryz.checked os k .any (λw args=>(s.pre enc prog f [] b w args/\X w args)/\sizedMet enc prog f (OpenSpec.ofChange s) b w args) (s.post enc prog f b true false false):=by
 refine returnsInLeavingWide_of_good F c d ?_;intro w a i _ oG _ J Q _;obtain⟨_,_,_,Z,V,_,_,_,_,y⟩:=J;have e:Z=f:=dj (V.symm.trans n);subst e;obtain⟨⟨⟨l,r,g,hw,hc⟩,G⟩,hz⟩:=Q;have m:=DataW.Whole.of_heap (w':=w.forCall a i) (by rfl) hw;have A:X (w.forCall a i) i.args:=hX _ _ _ (by rfl) G;have M:∀p∈g,p.block<(w.forCall a i).heap.size:=λp T=>by simpa using m.lt p T
 have B:∀t∈Z.params.toList,prog.readableRec t=true/\t<prog.types.size:=λt ht=>by
  have:=jp.1 hr t ht;simpa using this
 obtain⟨p,q,hA,hV,P,a1,a0⟩:=id m;obtain⟨g0,k1,k2,k3,k4,k5⟩:=z (w.forCall a i) w.heap.size i.args l p y hA (λx G=>M x (by rw[P];simp[G])) A;obtain⟨N,last,o,w',t',g1,g2,g3,g4⟩:=aoQ hF E k1 k2 (λ_ h=>h) k3 (azr oG) k4 I n hq R U k5;refine⟨N,last,o,w',t',g1,g2,g3,g4.mono λv hv=> ?_⟩;obtain⟨rfl,D⟩:=hv;have T:=aoR hl B u L C (K l r (ac1 hA) (abG hV)) m D;have D:=ChangeSpec.post_blind T;exact D
end
section
variable {β:Bool}
open Go.RowKit
def bs(s:ByteArray):List Nat:=s.data.toList.map UInt8.toNat
def aN(s:ByteArray):(bs s).length=s.size:=by
 unfold bs;rw[pF,qJ];rfl
def nR(h:k<s.size):(bs s)[k]?=some (s[k]'h).toNat:=by
 unfold bs;rw[qi,ef];have:s.data[k]?=some (s.data[k]'h):=fi h;rw[this];rfl
def ary :∀b∈bs s,b<256:=λb a=>by
 obtain⟨u,_,rfl⟩:=lP.1 a;exact u.toNat_lt
def jA{t : ByteArray}(h:bs s=bs t):s=t:=by
 have e:s.data.toList=t.data.toList:=by
  unfold bs at h;generalize s.data.toList=a at *;generalize t.data.toList=b at *
  induction a generalizing b with
  |nil=>cases b with
   |nil=>rfl
   |cons y b=>cases h
  |cons x a d=>cases b with
   |nil=>cases h
   |cons y b=>
    simp only[pK,qz] at h;rw[rN.1 h.1,d b h.2]
 have c:s.data=t.data:=tX.1 e;cases s;cases t;simp only at c;rw[c]
def jP(s t:ByteArray):bs (s++t)=bs s++bs t:=by
 unfold bs;rw[<-oR,<-nF]
 congr 2
 simp
def cv(s:ByteArray)(a b:Nat):bs (s.extract a b)=((bs s).take b).drop a:=by
 unfold bs;simp only[uW,sZ,uF];rw[<-List.map_take,<-List.map_drop]
 congr 1
 rw[List.take_drop];by_cases h:a<=b
 .congr 2;omega
 .have:b-a=0:=by omega
  rw[this,rK (by simp;omega),rK (by simp;omega)]
def nS{t : ByteArray}(h:¬t=s):(t.toList ==s.toList)=false:=by
 refine kw.2 λe=>h ?_;rw[qo,qo] at e;have a:t.data=s.data:=tX.1 e;cases s;cases t;simp only at a;rw[a]
def nu(b:Nat):Bool:=decide (97<=b)&&decide (b<=122)
def aZ(l:List Nat):Prop:=(1<=l.length/\l.length<=8)/\l.all nu=true
def dM:List Nat->Nat->Nat
 |[],n=>n
 |b::l,n=>dM l (27*n+(b-97)+1)
def code(l:List Nat):Nat:=dM l 0
def cq(key:Int)(l:List Nat):Int:=((code l:Int)*(2*key+1)+key*7919) % 999999999989
def bY(n:Nat):Nat:=if n=0\/8<n then 0 else if n<=2 then 2 else if n<=4 then 4 else 8
def fP(l:List Nat):List Nat:=l++List.replicate (bY l.length-l.length) 46
def fH:∀(a b:List Nat) (n:Nat),dM (a++b) n=dM b (dM a n)
 |[],_,_=>rfl
 |x::a,b,n=>by show dM (a++b) _=dM b (dM a _);rw[fH a b]
def aeJ:∀(l:List Nat) (n:Nat),l.all nu=true->dM l n<(n+1)*27 ^ l.length
 |[],n,_=>by show n<_;simp
 |b::l,n,h=>by
  simp only[pQ,fb] at h;have a:=aeJ l (27*n+(b-97)+1) h.2;have c:b<=122:=by have:=h.1;unfold nu at this;simp at this;exact this.2
  show dM l _<_;refine aE a ?_;rw[mp,Nat.pow_succ,uK (27 ^ l.length) 27,<-Nat.mul_assoc];exact rq _ (by omega)
def abH(h:aZ l):code l<282429536481:=by
 have a:=aeJ l 0 h.2;unfold code;have b:27 ^ l.length<=27 ^ 8:=vt (by omega) h.1.2;have e:(27:Nat) ^ 8=282429536481:=by decide
 omega
def agp(h:l[k]?=some b):code (l.take (k+1))=27*code (l.take k)+(b-97)+1:=by
 unfold code;rw[gn h,fH];rfl
def aoT:∀{a b:List Nat},a.all nu=true->b.all nu=true->dM a 0=dM b 0->a=b:=by
 intro a
 induction a using kS with
 |h0=>
  intro b _ c h
  induction b using kS with
  |h0=>rfl
  |h1 l x _=>rw[fH] at h;show[]=_;exfalso;have:dM [x] (dM l 0)=27*dM l 0+(x-97)+1:=rfl;have h0:dM [] 0=0:=rfl;omega
 |h1 l x g=>
  intro b d c h
  induction b using kS with
  |h0=>rw[fH] at h;exfalso;have:dM [x] (dM l 0)=27*dM l 0+(x-97)+1:=rfl;have h0:dM [] 0=0:=rfl;omega
  |h1 m y _=>
   rw[sJ] at d c;simp only[fb,pQ,uM,tS] at d c;rw[fH,fH] at h;have i:dM [x] (dM l 0)=27*dM l 0+(x-97)+1:=rfl;have j:dM [y] (dM m 0)=27*dM m 0+(y-97)+1:=rfl;have f:=d.2;have e:=c.2;unfold nu at f e;simp at f e;have:dM l 0=dM m 0/\x=y:=by omega
   rw[g d.1 c.1 this.1,this.2]
def ajl{key:Int} :0<=cq key l/\cq key l<=999999999988:=by
 unfold cq;omega
def cU(l:List Nat):Nat->Nat
 |0=>0
 |n+1=>if l[n]?=some 46 then cU l n else n+1
def sD(l:List Nat):List Nat:=l.take (cU l l.length)
def acv(l:List Nat):∀n,cU l n<=n
 |0=>am _
 |n+1=>by
  unfold cU;split
  .exact Nat.le_succ_of_le (acv l n)
  .exact am _
open Classical in
noncomputable def cJ(l:List Nat):Option (List Nat):=if aZ (sD l)/\fP (sD l)=l then some (sD l) else none
def oM :bY n<=8/\(n<=8->n<=bY n):=by
 unfold bY;split<;>(try split)<;>(try split)<;>omega
def ajm(h:aZ l):(fP l).length=bY l.length:=by
 unfold fP;rw[ge,pP];have:=oM.2 h.1.2;omega
def aoU(h:aZ l):sD (fP l)=l:=by
 have c:∀m,cU (fP l) (l.length+m)=l.length\/l.length+m>(fP l).length:=by
  intro m
  induction m with
  |zero=>
   left;obtain⟨k,f⟩:∃k,l.length=k+1:=⟨l.length-1,by have:=h.1.1;omega⟩;rw[ru,f];unfold cU;rw[bd];unfold fP;rw[qa (by omega)];intro e;have:=jp.1 h.2 46 (be e);simp[nu] at this
  |succ m b=>
   by_cases a:l.length+m<(fP l).length
   .rcases b with b|b
    .left;show cU (fP l) (l.length+m+1)=_;unfold cU;rw[dl,b];unfold fP at a ⊢;rw[ge,pP] at a;rw[pL (by omega),tD,dl (by omega)]
    .omega
   .right;omega
 have d:l.length<=(fP l).length:=by unfold fP;simp
 have:=c ((fP l).length-l.length);rw[Nat.add_sub_cancel' d] at this;unfold sD;rw[this.resolve_right (by omega)];unfold fP;rw[List.take_left]
def ajn(h:aZ l):cJ (fP l)=some l:=by
 unfold cJ;rw[aoU h,dl ⟨h,rfl⟩]
def qF(l:List Nat):ByteArray:=⟨(l.map UInt8.ofNat).toArray⟩
def aeK(h:∀b∈l,b<256):bs (qF l)=l:=by
 unfold bs qF;simp only[tp]
 conv=>rhs;rw[<-List.map_id l]
 refine ul λb a=> ?_;have:=h b a;simp[UInt8.toNat_ofNat,Nat.mod_eq_of_lt this]
def avT(s:ByteArray):qF (bs s)=s:=jA (aeK ary)
def aoV :∀b∈fP (bs s),b<256:=λb a=>by
 unfold fP at a;rcases gt.1 a with h|h
 .exact ary b h
 .have:=List.eq_of_mem_replicate h;omega
def arz(s:ByteArray):bs (qF (fP (bs s)))=fP (bs s):=aeK aoV
end
section
variable {β:Bool}
open Go.RowKit
def abI(n a b:Int)(w:World) :
  Calls (ah β) 39 #[.int .i64 n,.int .i64 a,.int .i64 b] w λe d=>e=.returned (.bool (decide (a<=n)&&decide (n<=b)))/\w=d:=by
 by_cases h:a<=n
 .go_enter xv,ntmps39;go_wp2;go_ret;exact⟨by simp[h],rfl⟩
 .go_enter xv,ntmps39;go_wp2;go_ret;have c:decide (a<=n)=false:=by simpa using h
  exact⟨by rw[c];rfl,rfl⟩
def aeL(n a b:Int)(d:a<=n)(f:n<=b)(w:World) :
  Calls (ah β) 39 #[.int .i64 n,.int .i64 a,.int .i64 b] w λe c=>e=.returned (.bool true)/\w=c:=
 (abI n a b w).mono λe c ⟨he,hw⟩=>⟨by rw[he];simp[d,f],hw⟩
def ahC(n a b:Int)(h:¬(a<=n/\n<=b))(w:World) :
  Calls (ah β) 39 #[.int .i64 n,.int .i64 a,.int .i64 b] w λe c=>e=.returned (.bool false)/\w=c:=
 (abI n a b w).mono λe c ⟨he,hw⟩=>⟨by
  rw[he];have:(decide (a<=n)&&decide (n<=b))=false:=by rw[<-Bool.decide_and];simpa using h
  rw[this],hw⟩
end
section
variable {β:Bool}
open Go.RowKit
def aap(s:ByteArray)(n:s.size<=maxLen)(w:World) :
  Calls (ah β) 168 #[.string s] w λe m=>e=.returned (.bool ((bs s).all nu))/\w=m:=by
 unfold maxLen at n;go_enter yw,ntmps168;go_wp2
 go_loop [3] (λi=>∃k:Nat,k<=s.size/\i=.int .i64 k/\((bs s).take k).all nu=true) (λi=>s.size-(intOf i).toNat)
 case atStart=>exact⟨0,du _,rfl,rfl⟩
 case round=>
  obtain⟨k,p,rfl,f⟩:=hrel;replace f:=ab f;by_cases b:k<s.size
  .have c:=nR b;replace c:=ab c;by_cases q:(s[k]'b).toNat<97
   .have l:=dq (show((s[k]'b).toNat:Int)<97 by omega);have a:(bs s).all nu=false:=by
     rw[tK];exact⟨_,be c.out,by unfold nu;simp;omega⟩
    have d:=ab a;clear a;go_wp2;go_ret;exact⟨ak d.out.symm,rfl⟩
   .have l:=da (show ¬(((s[k]'b).toNat:Int)<97) by omega);by_cases o:122<(s[k]'b).toNat
    .have j:=dq (show 122<((s[k]'b).toNat:Int) by omega);have a:(bs s).all nu=false:=by
      rw[tK];exact⟨_,be c.out,by unfold nu;simp;omega⟩
     have d:=ab a;clear a;go_wp2;go_ret;exact⟨ak d.out.symm,rfl⟩
    .have j:=da (show ¬(122<((s[k]'b).toNat:Int)) by omega);have g:((bs s).take (k+1)).all nu=true:=by
      rw[gn c.out,sJ,f.out];simp[nu];omega
     replace g:=ab g;go_wp2
     go_round
     case rel=>exact⟨k+1,by omega,by go_num,g.out⟩
     simp[intOf];omega
  .obtain rfl:k=s.size:=by omega
   have a:(bs s).all nu=true:=by
    have:=f.out
    rwa [nq (by rw[aN];exact am _)] at this
   have d:=ab a;clear a;go_wp2;go_ret;exact⟨ak d.out.symm,rfl⟩
def ac7(s:ByteArray)(i:s.size<=maxLen)(w:World)(b:Bool)(c:b=true↔aZ (bs s)) :
  Calls (ah β) 170 #[.string s] w λe j=>e=.returned (.bool b)/\w=j:=by
 replace c:=ab c;have HS:=i;unfold maxLen at i;go_enter yv,ntmps170;go_wp2;by_cases g:1<=s.size/\s.size<=8
 .refine(aeL s.size 1 8 (by omega) (by omega) w).mono ?_;rintro e f ⟨rfl,rfl⟩;go_wp2;refine(aap s HS w).mono ?_;rintro e f ⟨rfl,rfl⟩;have a:b=(bs s).all nu:=by
   rw[oi,c.out];unfold aZ;rw[aN];exact⟨λh=>h.2,λh=>⟨g,h⟩⟩
  have d:=ab a;clear a;go_wp2;go_ret;exact⟨ak d.out.symm,rfl⟩
 .refine(ahC s.size 1 8 (by omega) w).mono ?_;rintro e f ⟨rfl,rfl⟩;have a:b=false:=by
   rw[<-bv,c.out];unfold aZ;rw[aN];exact λh=>g h.1
  have d:=ab a;clear a;go_wp2;go_ret;exact⟨ak d.out.symm,rfl⟩
def alo(s:ByteArray)(f:aZ (bs s))(w:World) :
  Calls (ah β) 138 #[.string s] w λe p=>e=.returned (.int .i64 (code (bs s)))/\w=p:=by
 have o:=ab f;have u:s.size<=8:=by have:=f.1.2;rwa [aN] at this
 clear f;go_enter yL,ntmps138;go_wp2
 go_loop [3,4] (λn i=>∃k:Nat,k<=s.size/\i=.int .i64 k/\n=.int .i64 (code ((bs s).take k))) (λ_ i=>s.size-(intOf i).toNat)
 case atStart=>exact⟨0,du _,rfl,rfl⟩
 case round=>
  obtain⟨k,v,rfl,rfl⟩:=hrel;by_cases a:k<s.size
  .have l:=nR a;have g:=jp.1 o.out.2 _ (be l);have q:97<=(s[k]'a).toNat/\(s[k]'a).toNat<=122:=by unfold nu at g;simpa using g
   have d:=agp l;have j:code ((bs s).take (k+1))<282429536481:=by
    have y:=aeJ ((bs s).take (k+1)) 0 (jp.2 λx r=>jp.1 o.out.2 x (qf r));have t:27 ^ ((bs s).take (k+1)).length<=27 ^ 8:=vt (by omega) (by rw[lc,aN];omega);have e:(27:Nat) ^ 8=282429536481:=by decide
    unfold code;omega
   have b:=ab d;clear l g;rw[d] at j;clear d;revert b j;generalize code ((bs s).take k)=c;intro j b;go_wp2
   go_round
   case rel=>exact⟨k+1,by omega,by go_num,by rw[b.out];congr 1;omega⟩
   simp[intOf];omega
  .obtain rfl:k=s.size:=by omega
   have m:(bs s).take s.size=bs s:=nq (by rw[aN];exact am _);rw[m];clear m;go_wp2;go_ret;exact⟨rfl,rfl⟩
def alp(key:Int)(s:ByteArray)(n:1<=key/\key<=99)(d:aZ (bs s))(w:World) :
  Calls (ah β) 105 #[.int .i64 key,.string s] w λe j=>e=.returned (.int .i64 (cq key (bs s)))/\w=j:=by
 have g:=abH d;have f:cq key (bs s)=((code (bs s):Int)*(2*key+1)+key*7919) % 999999999989:=rfl;have a:=ab f;clear f;have i:=alo (β:=β) s d w;have b:=ab i;clear i;revert b;revert a;revert g;generalize code (bs s)=c;intro g a b;have q:0<=(c:Int)*(2*key+1)/\(c:Int)*(2*key+1)<=282429536481*199:=by
  constructor
  .exact Int.mul_nonneg (by omega) (by omega)
  .exact Int.mul_le_mul (by omega) (by omega) (by omega) (by omega)
 go_enter yW,ntmps105;go_wp2;refine b.out.mono ?_;rintro e k ⟨rfl,rfl⟩;have t:wrap64 (2*key)=2*key:=by unfold wrap64;omega
 have p:wrap64 (2*key+1)=2*key+1:=by unfold wrap64;omega
 have o:wrap64 ((c:Int)*(2*key+1))=(c:Int)*(2*key+1):=by unfold wrap64;omega
 have l:wrap64 (key*7919)=key*7919:=by unfold wrap64;omega
 have r:wrap64 ((c:Int)*(2*key+1)+key*7919)=(c:Int)*(2*key+1)+key*7919:=by unfold wrap64;omega
 have m:((c:Int)*(2*key+1)+key*7919).tmod 999999999989=((c:Int)*(2*key+1)+key*7919) % 999999999989:=uu (by omega);go_wp2;go_ret;exact⟨eJ a.out.symm,rfl⟩
def ajo(n:Nat)(w:World) :
  Calls (ah β) 204 #[.int .i64 n] w λe d=>e=.returned (.int .i64 (bY n))/\w=d:=by
 have g:(n=0/\bY n=0)\/(8<n/\bY n=0)\/((1<=n/\n<=2)/\bY n=2)\/((3<=n/\n<=4)/\bY n=4)\/((5<=n/\n<=8)/\bY n=8):=by
  unfold bY;split<;>(try split)<;>(try split)<;>omega
 rcases g with⟨h,e⟩|⟨h,e⟩|⟨h,e⟩|⟨h,e⟩|⟨h,e⟩
 .rw[e];subst h;go_enter vH,ntmps204;go_wp2;go_ret;exact⟨rfl,rfl⟩
 .rw[e];have c:=da (show ¬((n:Int)<1) by omega);have b:=dq (show 8<(n:Int) by omega);clear e;go_enter vH,ntmps204;go_wp2;go_ret;exact⟨rfl,rfl⟩
 all_goals
  rw[e];have c:=da (show ¬((n:Int)<1) by omega);have b:=da (show ¬(8<(n:Int)) by omega);clear e
 .have a:=dq (show(n:Int)<=2 by omega);go_enter vH,ntmps204;go_wp2;go_ret;exact⟨rfl,rfl⟩
 .have a:=da (show ¬((n:Int)<=2) by omega);have f:=dq (show(n:Int)<=4 by omega);go_enter vH,ntmps204;go_wp2;go_ret;exact⟨rfl,rfl⟩
 .have a:=da (show ¬((n:Int)<=2) by omega);have f:=da (show ¬((n:Int)<=4) by omega);go_enter vH,ntmps204;go_wp2;go_ret;exact⟨rfl,rfl⟩
def avU(l:List Nat)(e:Ending):Prop:=∃t:ByteArray,e=.returned (.string t)/\bs t=l
def aoW(s:ByteArray)(j:s.size<=maxLen)(w:World) :
  Calls (ah β) 166 #[.string s] w λe i=>avU (fP (bs s)) e/\w=i:=by
 unfold maxLen at j;have a:fP (bs s)=bs s++List.replicate (bY s.size-s.size) 46:=by unfold fP;rw[aN]
 replace a:=ab a;have o:=(oM (n:=s.size)).1;go_enter yx,ntmps166;go_wp2;refine(ajo s.size w).mono ?_;rintro e m ⟨rfl,rfl⟩;go_wp2
 go_loop [0] (λv=>∃(t:ByteArray) (k:Nat),v=.string t/\bs t=bs s++List.replicate k 46/\k<=bY s.size-s.size) (λv=>bY s.size-(match v with|.string t=>t.size|_=>0))
 case atStart=>exact⟨s,0,rfl,by simp,du _⟩
 case round=>
  obtain⟨t,k,rfl,c,p⟩:=hrel;have l:t.size=s.size+k:=by rw[<-aN,c,ge,pP,aN]
  replace c:=ab c;by_cases f:t.size<bY s.size
  .have g:=dq (show(t.size:Int)<(bY s.size:Int) by omega);have d:bs (t++⟨#[46]⟩)=bs s++List.replicate (k+1) 46:=by
    rw[jP,c.out,rz,vw];rfl
   replace d:=ab d;go_wp2
   go_round
   case rel=>exact⟨_,k+1,rfl,d.out,by omega⟩
   case measure=> 
    have:(t++(⟨#[46]⟩:ByteArray)).size=t.size+1:=by rw[<-aN,jP,ge,aN];rfl
    simp only[this];omega
  .have g:=da (show ¬((t.size:Int)<(bY s.size:Int)) by omega);have b:k=bY s.size-s.size:=by omega
   replace b:=ab b;go_wp2;go_ret;exact⟨⟨t,rfl,by rw[c.out,a.out,b.out]⟩,rfl⟩
open Classical in
noncomputable def aeM(l:List Nat):List Nat:=if aZ l then fP l else[]
def agq(s:ByteArray)(f:s.size<=maxLen)(w:World) :
  Calls (ah β) 137 #[.string s] w λe i=>avU (aeM (bs s)) e/\w=i:=by
 go_enter yM,ntmps137;by_cases b:aZ (bs s)
 .have a:aeM (bs s)=fP (bs s):=by unfold aeM;rw[dl b]
  have c:=ab a;clear a;replace b:=ab b;go_wp2;refine(ac7 s f w true (by simp only[qj];exact b.out)).mono ?_;rintro e g ⟨rfl,rfl⟩;go_wp2;refine(aoW s f w).mono ?_;rintro e g ⟨⟨t,rfl,d⟩,rfl⟩;replace d:=ab d;go_wp2;go_ret;exact⟨⟨t,rfl,by rw[d.out,c.out]⟩,rfl⟩
 .have a:aeM (bs s)=[]:=by unfold aeM;rw[bd b]
  have c:=ab a;clear a;replace b:=ab b;go_wp2;refine(ac7 s f w false (by simp only[fd,qO];exact b.out)).mono ?_;rintro e g ⟨rfl,rfl⟩;go_wp2;go_ret;exact⟨⟨_,rfl,by rw[c.out];rfl⟩,rfl⟩
def aBu(l:List Nat)(e:Ending):Prop:=∃(t:ByteArray) (b:Bool),e=.returned (.tuple #[.string t,.bool b])/\((b=true/\cJ l=some (bs t))\/(b=false/\cJ l=none/\bs t=[]))
def ub(a:k<=s.size):(s.extract 0 k).size=k:=by
 rw[<-aN,cv,qr,lc,aN];omega
def ac8(s:ByteArray)(E:s.size<=maxLen)(w:World) :
  Calls (ah β) 104 #[.string s] w λe G=>aBu (bs s) e/\w=G:=by
 have HS:=E;unfold maxLen at E;go_enter yX,ntmps104;go_wp2
 go_loop [4] (λn=>∃k:Nat,k<=s.size/\n=.int .i64 k/\cU (bs s) s.size=cU (bs s) k) (λn=>(intOf n).toNat)
 case atStart=>exact⟨s.size,am _,rfl,rfl⟩
 case round=>
  obtain⟨k,D,rfl,f⟩:=hrel;replace f:=ab f;rcases mu k with C|C
  .subst C;have g:sD (bs s)=[]:=by unfold sD;rw[aN,f.out];rfl
   have a:cJ (bs s)=none:=by
    unfold cJ;rw[g,bd];intro h;have:=h.1.1.1;simp at this
   have l:=ab a;clear a g;by_cases H:8<s.size
   .have z:=dq (show 8<(s.size:Int) by omega);go_wp2;go_ret2;exact⟨⟨_,_,rfl,.inr ⟨rfl,l.out,rfl⟩⟩,rfl⟩
   .have z:=da (show ¬(8<(s.size:Int)) by omega);go_wp2;have x:(ByteArray.empty).size<=maxLen:=by unfold maxLen;show 0<=_;omega
    refine(agq ByteArray.empty x w).mono ?_;rintro e F ⟨⟨t,rfl,o⟩,rfl⟩;clear o;by_cases c:t=s
    .subst c;go_wp2;go_ret2;exact⟨⟨_,_,rfl,.inr ⟨rfl,l.out,rfl⟩⟩,rfl⟩
    .have B:=nS c;go_wp2;go_ret2;exact⟨⟨_,_,rfl,.inr ⟨rfl,l.out,rfl⟩⟩,rfl⟩
  .obtain⟨j,rfl⟩:∃j,k=j+1:=⟨k-1,by omega⟩;have K:((j+1:Nat):Int)-1=(j:Int):=by omega
   have r:j<s.size:=by omega
   have q:=nR r;by_cases i:(s[j]'r).toNat=46
   .have z:(((s[j]'r).toNat:Int) ==46)=true:=mx.2 (by omega);have A:cU (bs s) s.size=cU (bs s) j:=by
     rw[f.out];show(if(bs s)[j]?=some 46 then cU (bs s) j else j+1)=_;rw[dl (by rw[q,i])]
    replace A:=ab A;clear q i;go_wp2
    go_round
    case rel=>exact⟨j,by omega,rfl,A.out⟩
    simp[intOf]
   .have z:(((s[j]'r).toNat:Int) ==46)=false:=kw.2 (by omega);have m:cU (bs s) (j+1)=j+1:=by
     show(if(bs s)[j]?=some 46 then cU (bs s) j else j+1)=_;rw[bd (by rw[q];intro h;exact i (dj h))]
    have g:bs (s.extract 0 (j+1))=sD (bs s):=by
     rw[cv,qr];unfold sD;rw[aN,f.out,m]
    have p:=ab g;clear g m q i;have v:=ub D;by_cases H:8<s.size
    .have B:=dq (show 8<(s.size:Int) by omega);have a:cJ (bs s)=none:=by
      unfold cJ;rw[bd];intro h;have d:=ajm h.1;rw[h.2,aN] at d;have:=(oM (n:=(sD (bs s)).length)).1;omega
     have l:=ab a;clear a;go_wp2;go_ret2;exact⟨⟨_,_,rfl,.inr ⟨rfl,l.out,rfl⟩⟩,rfl⟩
    .have B:=da (show ¬(8<(s.size:Int)) by omega);go_wp2;refine(agq (s.extract 0 (j+1)) (ap (me v) (ap D HS)) w).mono ?_;rintro e F ⟨⟨t,rfl,o⟩,rfl⟩;rw[p.out] at o;have u:=ab o;clear o;by_cases c:t=s
     .have b:cJ (bs s)=some (bs (s.extract 0 (j+1))):=by
       have d:=u.out;rw[c] at d;unfold aeM at d;by_cases y:aZ (sD (bs s))
       .rw[dl y] at d;unfold cJ;rw[dl ⟨y,d.symm⟩,p.out]
       .rw[bd y] at d;have J:s.size=0:=by rw[<-aN,d];rfl
        omega
      replace b:=ab b;clear u;subst c;go_wp2;go_ret2;exact⟨⟨_,_,rfl,.inl ⟨rfl,b.out⟩⟩,rfl⟩
     .have a:cJ (bs s)=none:=by
       unfold cJ;rw[bd];intro h;have d:=u.out;unfold aeM at d;rw[dl h.1,h.2] at d;exact c (jA d)
      have l:=ab a;clear a u;have I:=nS c;go_wp2;go_ret2;exact⟨⟨_,_,rfl,.inr ⟨rfl,l.out,rfl⟩⟩,rfl⟩
end
section
variable {β:Bool}
open Go.RowKit
def abJ(x:Int)(w:World)(b:Bool)(a:b=true↔1<=x/\x<=99):Calls (ah β) 47 #[.int .i64 x] w λe c=>e=.returned (.bool b)/\w=c:=by
 replace a:=ab a;by_cases h:1<=x
 .go_enter xu,ntmps47;go_wp2;go_ret;exact⟨ak (by rw[oi,a.out];simp[h]),rfl⟩
 .go_enter xu,ntmps47;go_wp2;go_ret;exact⟨ak (by rw[oi,a.out];simp[h];omega),rfl⟩
def ags(s:ByteArray)(n:s.size<=maxLen)(w:World) :
  Calls (ah β) 198 #[.string s] w λe m=>e=.returned (.bool ((bs s).all nu))/\w=m:=by
 unfold maxLen at n;go_enter ym,ntmps198;go_wp2
 go_loop [6] (λi=>∃k:Nat,k<=s.size/\i=.int .i64 k/\((bs s).take k).all nu=true) (λi=>s.size-(intOf i).toNat)
 case atStart=>exact⟨0,du _,rfl,rfl⟩
 case round=>
  obtain⟨k,p,rfl,f⟩:=hrel;replace f:=ab f;by_cases b:k<s.size
  .have c:=nR b;replace c:=ab c;by_cases q:(s[k]'b).toNat<97
   .have l:=dq (show((s[k]'b).toNat:Int)<97 by omega);have a:(bs s).all nu=false:=by
     rw[tK];exact⟨_,be c.out,by unfold nu;simp;omega⟩
    have d:=ab a;clear a;go_wp2;go_ret;exact⟨ak d.out.symm,rfl⟩
   .have l:=da (show ¬(((s[k]'b).toNat:Int)<97) by omega);by_cases o:122<(s[k]'b).toNat
    .have j:=dq (show 122<((s[k]'b).toNat:Int) by omega);have a:(bs s).all nu=false:=by
      rw[tK];exact⟨_,be c.out,by unfold nu;simp;omega⟩
     have d:=ab a;clear a;go_wp2;go_ret;exact⟨ak d.out.symm,rfl⟩
    .have j:=da (show ¬(122<((s[k]'b).toNat:Int)) by omega);have g:((bs s).take (k+1)).all nu=true:=by
      rw[gn c.out,sJ,f.out];simp[nu];omega
     replace g:=ab g;go_wp2
     go_round
     case rel=>exact⟨k+1,by omega,by go_num,g.out⟩
     simp[intOf];omega
  .obtain rfl:k=s.size:=by omega
   have a:(bs s).all nu=true:=by
    have:=f.out
    rwa [nq (by rw[aN];exact am _)] at this
   have d:=ab a;clear a;go_wp2;go_ret;exact⟨ak d.out.symm,rfl⟩
def oN(s:ByteArray)(j:s.size<=maxLen)(w:World)(b:Bool)(g:b=true↔aZ (bs s)) :
  Calls (ah β) 173 #[.string s] w λe l=>e=.returned (.bool b)/\w=l:=by
 replace g:=ab g;have HS:=j;unfold maxLen at j;have a:b=(decide (1<=(s.size:Int))&&decide ((s.size:Int)<=8)&&(bs s).all nu):=by
  rw[oi,g.out];unfold aZ;rw[aN];simp only[fb,qq];exact⟨λ⟨⟨k,i⟩,f⟩=>⟨⟨by omega,by omega⟩,f⟩,λ⟨⟨k,i⟩,f⟩=>⟨⟨by omega,by omega⟩,f⟩⟩
 replace a:=ab a;by_cases k:1<=s.size
 .have c:=dq (show 1<=(s.size:Int) by omega);by_cases i:s.size<=8
  .have d:=dq (show(s.size:Int)<=8 by omega);go_enter wd,ntmps173;go_wp2;refine(ags s HS w).mono ?_;rintro e m ⟨rfl,rfl⟩;go_wp2;go_ret;exact⟨ak (by rw[a.out,c,d];simp),rfl⟩
  .have d:=da (show ¬((s.size:Int)<=8) by omega);go_enter wd,ntmps173;go_wp2;go_ret;exact⟨ak (by rw[a.out,c,d];simp),rfl⟩
 .have c:=da (show ¬(1<=(s.size:Int)) by omega);go_enter wd,ntmps173;go_wp2;go_ret;exact⟨ak (by rw[a.out,c];simp),rfl⟩
end
section
variable {β:Bool}
open Go.RowKit
def alq(h:k<s.size):code ((bs s).take (k+1))=27*code ((bs s).take k)+((s[k]'h).toNat-97)+1:=agp (nR h)
def ajq(h:aZ l)(k:Nat):code (l.take k)<282429536481:=by
 rcases mu k with a|a
 .subst a;simp[code,dM]
 .refine abH ⟨⟨?_, ?_⟩, ?_⟩
  .rw[lc];have:=h.1.1;omega
  .rw[lc];have:=h.1.2;omega
  .rw[jp];exact λx b=>jp.1 h.2 x (qf b)
def aun(key:Int)(s:ByteArray)(r:1<=key/\key<=99)(b:aZ (bs s))(w:World) :
  Calls (ah β) 175 #[.int .i64 key,.string s] w λe q=>e=.returned (.tuple #[.int .i64 (cq key (bs s)),.nilIface])/\w=q:=by
 have u:1<=s.size/\s.size<=8:=by have:=b.1;rw[aN] at this;exact this
 have j:s.size<=maxLen:=by unfold maxLen;omega
 have n:=abH b;replace b:=ab b;replace j:=ab j;have l:cq key (bs s)=((code (bs s):Int)*(2*key+1)+7919*key) % 999999999989:=by unfold cq;rw[Int.mul_comm key 7919]
 have g:=ab l;clear l;go_enter yq,ntmps175;go_wp2;refine(abJ key w true (by simp;exact r)).mono ?_;rintro e o ⟨rfl,rfl⟩;go_wp2;refine(oN s j.out w true (by simp only[qj];exact b.out)).mono ?_;rintro e o ⟨rfl,rfl⟩;go_wp2
 go_loop [6,20] (λc i=>∃k:Nat,k<=s.size/\i=.int .i64 k/\c=.int .i64 (code ((bs s).take k))) (λ_ i=>s.size-(intOf i).toNat)
 case atStart=>exact⟨0,du _,rfl,rfl⟩
 case round=>
  obtain⟨k,p,rfl,rfl⟩:=hrel;by_cases a:k<s.size
  .have d:=alq a;have v:=ajq b.out k;have t:=ajq b.out (k+1);have A:97<=(s[k]'a).toNat/\(s[k]'a).toNat<=122:=by
    have:=jp.1 b.out.2 _ (be (nR a));unfold nu at this;simpa using this
   replace d:=ab d;generalize f:code ((bs s).take k)=cd at *;replace f:=ab f;go_wp2
   go_round
   case rel=>exact⟨k+1,by omega,by go_num,by rw[d.out];congr 1;omega⟩
   simp[intOf];omega
  .obtain rfl:k=s.size:=by omega
   have m:(bs s).take s.size=bs s:=nq (by rw[aN];exact am _);rw[m];clear m;revert g;revert n;generalize code (bs s)=c;intro n g;have y:0<=(c:Int)*(2*key+1)/\(c:Int)*(2*key+1)<=282429536481*199:=by
    constructor
    .exact Int.mul_nonneg (by omega) (by omega)
    .exact Int.mul_le_mul (by omega) (by omega) (by omega) (by omega)
   have C:wrap64 (2*key)=2*key:=by unfold wrap64;omega
   have x:wrap64 (2*key+1)=2*key+1:=by unfold wrap64;omega
   have D:wrap64 ((c:Int)*(2*key+1))=(c:Int)*(2*key+1):=by unfold wrap64;omega
   have z:wrap64 (7919*key)=7919*key:=by unfold wrap64;omega
   have B:wrap64 ((c:Int)*(2*key+1)+7919*key)=(c:Int)*(2*key+1)+7919*key:=by unfold wrap64;omega
   have E:((c:Int)*(2*key+1)+7919*key).tmod 999999999989=((c:Int)*(2*key+1)+7919*key) % 999999999989:=uu (by omega);go_wp2;go_ret2;exact⟨by rw[g.out];rfl,rfl⟩
def arC(key:Int)(s:ByteArray)(nm:Int)(c:1<=key/\key<=99)(b:aZ (bs s))(w:World) :
  Calls (ah β) 145 #[.int .i64 key,.string s,.int .i64 nm] w λe d=>e=.returned (.bool (decide (cq key (bs s)=nm)))/\w=d:=by
 replace b:=ab b;go_enter yE,ntmps145;go_wp2;refine(aun key s c b.out w).mono ?_;rintro e f ⟨rfl,rfl⟩;obtain⟨y,a⟩:∃y,y=cq key (bs s):=⟨_,rfl⟩;rw[<-a];replace a:=ab a;by_cases h:y=nm
 .subst h;go_wp2;go_ret;exact⟨ak (by rw[<-a.out];simp),rfl⟩
 .have g:(y ==nm)=false:=kw.2 h;go_wp2;go_ret;exact⟨ak (by rw[<-a.out];simp[h]),rfl⟩
end
section
variable {β:Bool}
open Go.RowKit
def aoX(n:Nat)(m:1<=n/\n<=8)(w:World) :
  Calls (ah β) 211 #[.int .i64 n] w λe f=>e=.returned (.int .i64 (bY n))/\w=f:=by
 have i:((1<=n/\n<=2)/\bY n=2)\/((3<=n/\n<=4)/\bY n=4)\/((5<=n/\n<=8)/\bY n=8):=by
  unfold bY;split<;>(try split)<;>(try split)<;>omega
 obtain⟨a,b⟩:∃a,a=bY n:=⟨_,rfl⟩;rw[<-b] at i ⊢;replace b:=ab b;have l:=da (show ¬((n:Int)<1) by omega);have j:=da (show ¬(8<(n:Int)) by omega);go_enter yg,ntmps211;go_wp2
 go_loop [3] (λv=>∃k:Nat,v=.int .i64 k/\(k=2\/k=4\/k=8)/\k<=a) (λv=>8-(intOf v).toNat)
 case atStart=>exact⟨2,rfl,.inl rfl,by omega⟩
 case round=>
  obtain⟨k,rfl,o,g⟩:=hrel;by_cases d:k<n
  .have c:=dq (show(k:Int)<(n:Int) by omega);go_wp2
   go_round
   case rel=>exact⟨k*2,by go_num,by omega,by omega⟩
   simp[intOf];omega
  .have c:=da (show ¬((k:Int)<(n:Int)) by omega);obtain rfl:k=a:=by omega
   go_wp2;go_ret;exact⟨rfl,rfl⟩
def alr(s:ByteArray)(r:s.size<=maxLen)(w:World) :
  Calls (ah β) 206 #[.string s,.int .u8 46] w λe q=>e=.returned (.string (s.extract 0 (cU (bs s) s.size)))/\w=q:=by
 unfold maxLen at r;go_enter yh,ntmps206;go_wp2
 go_loop [0] (λv=>∃(t:ByteArray) (k:Nat),v=.string t/\k<=s.size/\t=s.extract 0 k/\cU (bs s) s.size=cU (bs s) k) (λv=>match v with|.string t=>t.size|_=>0)
 case atStart=>exact⟨s,s.size,rfl,am _,by rw[ByteArray.extract_zero_size],rfl⟩
 case round=>
  obtain⟨t,k,rfl,y,d,a⟩:=hrel;have x:t.size=k:=by rw[d,ub y]
  replace d:=ab d;replace a:=ab a;rcases mu k with n|n
  .have p:=da (show ¬(0<(t.size:Int)) by omega);go_wp2;go_ret;exact⟨by rw[a.out,d.out,n];rfl,rfl⟩
  .obtain⟨j,rfl⟩:∃j,k=j+1:=⟨k-1,by omega⟩;have p:=dq (show 0<(t.size:Int) by omega);have z:((j+1:Nat):Int)-1=(j:Int):=by omega
   have f:j<t.size:=by omega
   have g:(bs s)[j]?=some (t[j]'f).toNat:=by
    rw[<-nR f,d.out,cv,qr,List.getElem?_take_of_lt (by omega)]
   replace g:=ab g;by_cases b:(t[j]'f).toNat=46
   .have o:(((t[j]'f).toNat:Int) ==46)=true:=mx.2 (by omega);have m:cU (bs s) s.size=cU (bs s) j:=by
     rw[a.out];show(if(bs s)[j]?=some 46 then cU (bs s) j else j+1)=_;rw[dl (by rw[g.out,b])]
    replace m:=ab m;clear b;have l:t.extract 0 j=s.extract 0 j:=by
     apply jA;rw[cv,cv,d.out,cv,qr,qr,qr,uY]
     congr 1;omega
    have u:(t.extract 0 j).size=j:=ub (by omega);replace l:=ab l;go_wp2
    go_round
    case rel=>exact⟨_,j,rfl,by omega,l.out,m.out⟩
    case measure=>
     show(t.extract 0 j).size<t.size;omega
   .have o:(((t[j]'f).toNat:Int) ==46)=false:=kw.2 (by omega);have c:cU (bs s) (j+1)=j+1:=by
     show(if(bs s)[j]?=some 46 then cU (bs s) j else j+1)=_;rw[bd (by rw[g.out];intro h;exact b (dj h))]
    replace c:=ab c;clear b;go_wp2;go_ret;have i:t=s.extract 0 (cU (bs s) s.size):=by rw[a.out,c.out];exact d.out
    exact⟨by rw[<-i];rfl,rfl⟩
def ajr(s:ByteArray)(b:s.size<=maxLen)(w:World) :
  Calls (ah β) 172 #[.string s,.string ⟨#[46]⟩] w λe c=>e=.returned (.string (s.extract 0 (cU (bs s) s.size)))/\w=c:=by
 by_cases d:s.size=0
 .have a:s=ByteArray.empty:=jA (by
   have:(bs s).length=0:=by rw[aN];exact d
   rw[sQ this];rfl)
  subst a;go_enter wO,ntmps172;go_wp2;go_ret;exact⟨rfl,rfl⟩
 .have g:s.toList.isEmpty=false:=by
   rw[uC];intro h;rw[List.isEmpty_iff,qo] at h;apply d;have:s.data=#[]:=tX.1 h;show s.data.size=0;rw[this];rfl
  have f:¬(128:Int)<=(((⟨#[46]⟩:ByteArray)[0]'Nat.zero_lt_one).toNat:Int):=by decide
  replace b:=ab b;go_enter wO,ntmps172;go_wp2_with(go_at_call 206;refine(alr s b.out w).mono ?_;rintro e c ⟨rfl,rfl⟩);go_ret;exact⟨rfl,rfl⟩
end
section
variable {β:Bool}
open Go.RowKit
def als {ty c : TypeId} {j:TypeInfo}  (l:P.underlying O=some (.pointer t)) (k:P.info? t=some j) (m:j.bytes<18446744073709551616)
  (a:w.shape? b=some (e,Z)) (f:liesAt P P.depth e (Z / P.cellsOf e) 0 t 1=true) :
  (Builtin.unsafeSlice_ #[O,c] ty #[.pointer (some ⟨b,0,none⟩),.int .i64 1]).run P w=.ok (.slice (some ⟨b,0,none⟩) 1 1) w:=by
 have g:¬(18446744073709551616:Nat)<=j.bytes:=by omega
 unfold Builtin.unsafeSlice_;refine(qm P (asInt (.int .i64 1)) _ w).trans ?_;have d:(asInt (.int .i64 1)).run P w=.ok 1 w:=by simp[asInt,asIntOf]
 rw[d];refine(qm P (elemOf O) _ w).trans ?_;have i:(elemOf O).run P w=.ok t w:=by simp[elemOf,lm l]
 rw[i];simp only[Result.andThen];simp[variablesAt,a,f,typeInfo,k,sizeOf,IntKind.max,IntKind.signed,IntKind.bits,g]
noncomputable def xCC:Func:=by
 apply(λ(x:Func) (_:{f219 with body:=some ml}=x)=>x)
 case x=>dsimp only[ml,nG,ahf,akA,gO,f219]
def anr:xCC.results=#[]:=results219
def alu:(ah β).funcs[219]?=some xCC:=ach β
@[go_sem] theorem azu(args:Array Value)(w:World):(callFunc 219 args).run (ah β) w=.ok (.enter 219 args) w:=by
 have a:=cA func219;exact jY alu a rfl args w
def auo:((ah β).info? 257).map (λi=>(i.bytes,i.size))=some (32,2):=by kernel_rfl
def aup:liesAt (ah β) (ah β).depth 257 (2 / (ah β).cellsOf 257) 0 257 1=true:=by kernel_rfl
def ajs(c:w.shape? b=some (257,2)):(Builtin.unsafeSlice_ #[255,3] 0 #[.pointer (some ⟨b,0,none⟩),.int .i64 1]).run (ah β) w=.ok (.slice (some ⟨b,0,none⟩) 1 1) w:=by
 obtain⟨j,d,a⟩:=io.1 (auo (β:=β));simp only[Prod.mk.injEq] at a;exact als xH d (by omega) c aup
def ajt(b:Nat)(w:World)(g:w.cell? ⟨b,0,none⟩=some (.pointer none))(a:w.shape? b=some (257,2))(d:w.frozen? ⟨b,0,none⟩=false) :
  Calls (ah β) 219 #[.pointer (some ⟨b,0,none⟩)] w λe c=>e=.returned (.tuple #[])/\c=w.setCell ⟨b,0,none⟩ (.pointer (some ⟨b,0,none⟩)):=by
 have i:=ajs (β:=β) a;have f:xCC.ntmps=20:=ntmps219;go_enter alu,f;go_wp2;refine pN (results_none anr _ _ _) rfl ?_;exact⟨rfl,rfl⟩
def axh(B b:Nat)(bs:List Value)(w:World)(h:Lib.IsBuilderF 257 5 B b bs w) :
  Calls (ah β) 219 #[.pointer (some ⟨b,0,none⟩)] w λe a=>e=.returned (.tuple #[])/\(Lib.BuilderAtF 257 5 B b (.pointer (some ⟨b,0,none⟩)) bs a/\Below B w a):=by
 rcases h with h|h
 .refine(ajt b w h.cell0 h.shape h.frozen0).mono ?_;rintro e a ⟨rfl,rfl⟩;exact⟨rfl,h.used _,(db B w).setCell (p:=⟨b,0,none⟩) h.1 _⟩
 .have j:=ajs (β:=β) h.shape;have g:xCC.ntmps=20:=ntmps219;have i:=h.cell0;have k:=h.frozen0;have c:=h.used (.pointer none);have f:=c.cell0;have d:=c.frozen0;go_enter alu,g;go_wp2;refine pN (results_none anr _ _ _) rfl ?_;refine⟨rfl,c.used _,((db B w).setCell (p:=⟨b,0,none⟩) h.1 _).setCell (p:=⟨b,0,none⟩) h.1 _⟩
def alv(B b:Nat)(bs:List Value)(w:World)(h:Lib.IsBuilderF 257 5 B b bs w) :
  Calls (ah β) 229 #[.pointer (some ⟨b,0,none⟩)] w λe j=>e=.returned (.int .i64 bs.length)/\j=w:=by
 obtain⟨p,n,v,l,a,i⟩:∃p,Lib.BuilderAtF 257 5 B b p bs w:=by
  rcases h with h|h
  .exact⟨_,h⟩
  .exact⟨_,h⟩
 obtain⟨c,cap,rfl⟩:∃c cap,v=.slice c bs.length cap:=by
  rcases a.2 with⟨d,k⟩|⟨g,cap,f,m,d,_⟩
  .exact⟨none,0,by rw[d,k]⟩
  .exact⟨_,_,d⟩
 have o:w.cell? ⟨b,1,none⟩=some (.slice c bs.length cap):=by rw[qv l];rfl
 go_enter ya,ntmps229;go_wp2;go_ret;exact⟨rfl,rfl⟩
def auq:((ah β).info? 5).map (λi=>(i.zero,i.size,i.bytes))=some (some (.int .u8 0),1,1):=by kernel_rfl
def nT(B b:Nat)(bs:List Value)(s:ByteArray)(w:World)(h:Lib.IsBuilderF 257 5 B b bs w)(C:bs.length+s.size<=140737488355328)(J:B<=w.heap.size) :
  Calls (ah β) 196 #[.pointer (some ⟨b,0,none⟩),.string s] w λe z=>e=.returned (.tuple #[.int .i64 s.size,.nilIface])/\(Lib.BuilderAtF 257 5 B b (.pointer (some ⟨b,0,none⟩)) (bs++Lib.strCells s) z/\Below B w z):=by
 obtain⟨I,K,q,t,u⟩:=info_parts (auq (β:=β));go_enter yn,ntmps196;go_wp2_with(go_at_call 219;refine(axh B b bs _ h).mono ?_);rintro e j ⟨rfl,G,i⟩;obtain⟨D,v,l,f,o⟩:=G;have Q:j.cell? ⟨b,0,none⟩=some (.pointer (some ⟨b,0,none⟩)):=by rw[qv l];rfl
 have O:j.cell? ⟨b,1,none⟩=some v:=by rw[qv l];rfl
 go_wp2_with(at_builtin;refine Lib.wpList_append_own_stringF _ rfl _ _ 42 9 rfl B 5 I wD qU9 K q t u _ _ _ rfl f s rfl ?c3 ?c4 ?c5 ?_)
 case c3=>unfold maxLen;omega
 case c4=>omega
 case c5=>have:=i.size;omega
 intro E m a c _;have n:b<j.heap.size:=by
  rcases nf b j.heap.size with r|r
  .exact r
  .simp[pH r] at l
 have d:m.heap[b]?=some (.cells #[.pointer (some ⟨b,0,none⟩),v] 257 (0,0)):=by
  rw[c.block b n (λe=>o e.symm)];exact l
 have P:m.cell? ⟨b,0,none⟩=some (.pointer (some ⟨b,0,none⟩)):=by rw[qv d];rfl
 have N:m.cell? ⟨b,1,none⟩=some v:=by rw[qv d];rfl
 have M:m.frozen? ⟨b,1,none⟩=false:=ut d 1;obtain⟨A,y,cap,rfl⟩:∃A y cap,E=.slice A y cap:=by
  rcases a.2 with⟨x,_⟩|⟨g,cap,H,L,x,_⟩
  .exact⟨_,_,_,x⟩
  .exact⟨_,_,_,x⟩
 go_wp2;go_ret2;refine⟨rfl, ?_, ?_⟩
 .exact Lib.BuilderAtF.put (T:=257) (e:=5) D d (bs':=bs++Lib.strCells s) (by simpa[Lib.strCells_length] using a) (by decide)
 .exact(i.grown c (by have:=i.size;omega) (λk F=>(f.lt k F).1)).setCell (p:=⟨b,1,none⟩) D _
end
section
variable {β:Bool}
open Go.RowKit
def adW:((ah β)).follows .mixedOrders=true:=by kernel_rfl
def aur(B b n:Nat)(w:World)(r:B<=b)(d:w.heap[b]?=some (.cells #[.pointer (some ⟨b,0,none⟩),.slice none 0 0] 257 (0,0)))(i:B<=w.heap.size)(o:n<=281474976710656) :
  Calls (ah β) 220 #[.pointer (some ⟨b,0,none⟩),.int .i64 n] w λe m=>e=.returned (.tuple #[])/\(Lib.BuilderAt 257 5 B b (.pointer (some ⟨b,0,none⟩)) [] m/\Below B w m):=by
 obtain⟨cs,f,p,g⟩:=Lib.run_makeNoZero (P:=(ah β)) w.drew #[3] 42 5 wD n o;have l:IntKind.i64.wrap (IntKind.i64.wrap 0+(n:Int))=n:=by
  rw[uN,uN];omega
 have v:(callFunc 231 #[.int .i64 (IntKind.i64.wrap (IntKind.i64.wrap 0+(n:Int)))]).run (ah β) w.drew=.ok (.value (.slice (some ⟨w.drew.heap.size,0,none⟩) n cs.size)) (w.drew.drew.drew.alloc (.cells cs 5)):=by
  rw[l,run_callFunc_extern xZ (by kernel_rfl) (by kernel_rfl) (by kernel_rfl) (e:=Extern.BytealgMakeNoZero.makeNoZero #[3] #[42]) (by kernel_rfl),f];rfl
 have u:w.drew.cell? ⟨b,1,none⟩=some (.slice none 0 0):=by
  have:w.drew.heap[b]?=_:=d;rw[qv this];rfl
 have s:(w.alloc (.cells cs 5)).cell? ⟨b,1,none⟩=some (.slice none 0 0):=by
  have a:b<w.heap.size:=by
   rcases nf b w.heap.size with c|c
   .exact c
   .simp[pH c] at d
  have:(w.alloc (.cells cs 5)).heap[b]?=_:=(Lib.alloc_old w _ b a).trans d;rw[qv this];rfl
 have t:(w.alloc (.cells cs 5)).frozen? ⟨b,1,none⟩=false:=by
  have a:b<w.heap.size:=by
   rcases nf b w.heap.size with c|c
   .exact c
   .simp[pH c] at d
  exact ut ((Lib.alloc_old w _ b a).trans d) 1
 have q:∀W:World,(Builtin.copy_ #[42,42] 3 #[.slice (some ⟨w.heap.size,0,none⟩) 0 cs.size,.slice none 0 0]).run (ah β) W=.ok (goInt 0) W:=
  λW=>run_copy_none W 42 42 3 5 _ _ 0 cs.size 0 0 wD (by kernel_rfl) rfl
 clear l;have k:=adW (β:=β);go_enter ye,ntmps220;go_wp2;have j:=Lib.grown_fresh (T:=257) (e:=5) (cs:=cs) r d i (g (by unfold maxLen;omega)) (by decide)
 go_region_o
 all_goals(go_wp2;go_end0;exact⟨rfl,j⟩)
def ans(B b n:Nat)(w:World)(j:B<=b)(f:w.heap[b]?=some (.cells #[.pointer none,.slice none 0 0] 257 (0,0)))(g:B<=w.heap.size)(m:n<=281474976710656) :
  Calls (ah β) 195 #[.pointer (some ⟨b,0,none⟩),.int .i64 n] w λe d=>e=.returned (.tuple #[])/\(Lib.BuilderAt 257 5 B b (.pointer (some ⟨b,0,none⟩)) [] d/\Below B w d):=by
 have a:(w.setCell ⟨b,0,none⟩ (.pointer (some ⟨b,0,none⟩))).heap[b]?=some (.cells #[.pointer (some ⟨b,0,none⟩),.slice none 0 0] 257 (0,0)):=by
  simp[World.setCell,mw,f]
 have r:(w.setCell ⟨b,0,none⟩ (.pointer (some ⟨b,0,none⟩))).cell? ⟨b,1,none⟩=some (.slice none 0 0):=by rw[qv a];rfl
 have c:Below B w (w.setCell ⟨b,0,none⟩ (.pointer (some ⟨b,0,none⟩))):=(db B w).setCell (p:=⟨b,0,none⟩) j _;have i:=adW (β:=β);go_enter yo,ntmps195;have q:Lib.BuilderAt 257 5 B b (.pointer (some ⟨b,0,none⟩)) [] (w.setCell ⟨b,0,none⟩ (.pointer (some ⟨b,0,none⟩))):=⟨j,.slice none 0 0,a,uy _ _ _ _,by simp[Value.ownBlock]⟩;have l:(w.setCell ⟨b,0,none⟩ (.pointer (some ⟨b,0,none⟩))).drew.cell? ⟨b,1,none⟩=some (.slice none 0 0):=r;go_wp2_with(go_at_call 219;refine(ajt b w (by rw[qv f];rfl) (by simp[World.shape?,f]) (ut f 0)).mono ?_;rintro e d ⟨rfl,rfl⟩)
 go_region_o
 all_goals go_wp2_with(go_at_call 220;refine(aur B b n (w.setCell ⟨b,0,none⟩ (.pointer (some ⟨b,0,none⟩))).drew j a (by simpa[World.setCell,World.drew, -World.drew_eq] using g) m).mono ?_;rintro e d ⟨rfl,o,k⟩)
 all_goals first
  |(go_end0;exact⟨rfl,o,c.drew.trans k⟩)
  |(go_end0;exact⟨rfl,q.drew,c.drew⟩)
end
section
variable {β:Bool}
open Go.RowKit
def aus:Code->Code
 |.seq a b=>.seq (aus a) (aus b)
 |.region i ⟨ops⟩ d=>.region i (ops.map λo=>{o with type:=match o.op with|.call ⟨.builtin .unsafeSliceData,_,_⟩=>3|_=>o.type}).toArray d
 |.ret=>.ret
 |_=>.skip
noncomputable def xSt:Func:=by
 apply(λ(x:Func) (_:{f197 with body:=f197.body.map aus}=x)=>x)
 case x=>dsimp only[aus,f197,Option.map,List.map]
def arD:f197.body.map gP=xSt.body:=by unfold gP;kernel_rfl
def arE:(ah β).funcs[197]?=some xSt:=by
 refine(akB β (by decide) (by decide)).trans ?_;have e:Option.map pf (prog.funcs[197]?)=Option.map pf (some f197):=fa _ func197;rw[e,pZ];unfold pf;rw[arD];rfl
@[go_sem] theorem azv(args:Array Value)(w:World):(callFunc 197 args).run (ah β) w=.ok (.enter 197 args) w:=by
 have a:=cA func197;exact jY arE a rfl args w
def acw(B b:Nat)(l:List UInt8)(w:World)(h:Lib.IsBuilderF 257 5 B b (Lib.byteCells l) w)(u:l≠[]) :
  Calls (ah β) 197 #[.pointer (some ⟨b,0,none⟩)] w λe t=>e=.returned (.string ⟨l.toArray⟩)/\(Lib.IsBuilderF 257 5 B b (Lib.byteCells l) t/\Below B w t):=by
 obtain⟨p,F,s⟩:∃p,(p=.pointer none\/p=.pointer (some ⟨b,0,none⟩))/\Lib.BuilderAtF 257 5 B b p (Lib.byteCells l) w:=by
  rcases h with h|h
  .exact⟨_,.inl rfl,h⟩
  .exact⟨_,.inr rfl,h⟩
 obtain⟨O,v,y,c,f⟩:=s;have i:l.length≠0:=by simpa using u
 rw[qU] at c;obtain⟨g,cap,a,d,rfl,o,A,P,I,k,K,Q⟩:∃g cap a d,v=.slice (some ⟨g,0,none⟩) l.length cap/\B<=g/\w.heap[g]?=some (.cells a 5 d)/\d.2<=l.length*1/\l.length<=cap/\cap<=maxLen/\a.size=cap*1/\a.toList.take (l.length*1)=Lib.byteCells l:=by
  rcases c.2 with⟨_,G⟩|⟨g,cap,a,d,N,r⟩
  .exact absurd G i
  .exact⟨g,cap,a,d,N,r⟩
 have D:w.drew.cell? ⟨b,1,none⟩=some (.slice (some ⟨g,0,none⟩) l.length cap):=by
  have:w.drew.heap[b]?=some (.cells #[p,.slice (some ⟨g,0,none⟩) l.length cap] 257 (0,0)):=y;rw[qv this];rfl
 have E:(Builtin.unsafeSliceData_ #[42] 3 #[.slice (some ⟨g,0,none⟩) l.length cap]).run (ah β) w.drew=.ok (.pointer (some ⟨g,0,none⟩)) w.drew:=
  Lib.run_unsafeSliceData_row _ _ _ _ _ _ (by omega)
 have z:(Builtin.unsafeString_ #[283,3] 9 #[.pointer (some ⟨g,0,none⟩),.int .i64 l.length]).run (ah β) w.drew=.ok (.string ⟨l.toArray⟩) (w.drew.freeze ⟨g,0,none⟩ l.length):=by
  refine Lib.run_unsafeString_row w.drew 283 3 9 5 xG (by kernel_rfl) g a.size (by have H:w.drew.heap[g]?=some (.cells a 5 d):=A;simp[World.shape?,H]) l u (by omega) (by unfold maxLen at k;omega) ?_;intro j x L;have:=c.cells (g:=g) rfl j (.int .u8 x.toNat) (by simp[Lib.byteCells,L]);exact this
 have q:Lib.IsBuilderF 257 5 B b (Lib.byteCells l) (w.drew.freeze ⟨g,0,none⟩ l.length):=by
  have C:Lib.BuilderAtF 257 5 B b p (Lib.byteCells l) w.drew:=⟨O,_,y,by rw[qU];exact c,f⟩;have n:=C.froze (g:=g) (cap:=cap) (by rw[qU];exact D);rw[qU] at n;rcases F with rfl|rfl
  .exact .inl n
  .exact .inr n
 have m:=adW (β:=β);have M:xSt.ntmps=14:=ntmps197;have J:xSt.results=#[.tmp 2]:=results197;go_enter arE,M;go_wp2
 go_region_o
 all_goals(go_wp2;refine pN (results_tmp J _ _ _) rfl ?_;exact⟨rfl,q,Lib.below_freeze (Below.drew (db B w)) (p:=⟨g,0,none⟩) o _⟩)
end
section
variable {β:Bool}
open Go.RowKit
def aut(n:Nat)(c:n<=8)(w:World):Calls (ah β) 238 #[.int .u64 1,.int .u64 n] w λe a=>e=.returned (.tuple #[.int .u64 0,.int .u64 n])/\w=a:=by
 have b:n=0\/n=1\/n=2\/n=3\/n=4\/n=5\/n=6\/n=7\/n=8:=by omega
 clear c;rcases b with rfl|rfl|rfl|rfl|rfl|rfl|rfl|rfl|rfl
 all_goals
  go_enter xX,ntmps238;go_wp2;go_ret2;exact⟨rfl,rfl⟩
def azw(n:Nat)(b:n<=8)(w:World):Calls (ah β) 228 #[.int .u64 1,.int .u64 n] w λe a=>e=.returned (.tuple #[.int .u64 0,.int .u64 n])/\w=a:=by
 go_enter yb,ntmps228;go_wp2;refine(aut n b w).mono ?_;rintro e c ⟨rfl,rfl⟩;go_wp2;go_ret2;exact⟨rfl,rfl⟩
def alx(b:Nat)(w:World):Nat:=match w.cell? ⟨b,1,none⟩ with|some (.slice _ l _)=>l|_=>0
def agt{T : TypeId}{B : Nat}{l:List UInt8}(h:Lib.IsBuilderF T e B b (Lib.byteCells l) w):alx b w=l.length:=by
 replace h:∃p,Lib.BuilderAtF T e B b p (Lib.byteCells l) w:=by
  rcases h with h|h
  .exact⟨_,h⟩
  .exact⟨_,h⟩
 obtain⟨p,h⟩:=h;obtain⟨n,v,j,a,f⟩:=h;have k:w.cell? ⟨b,1,none⟩=some v:=by rw[qv j];rfl
 unfold alx;rw[k];rw[qU] at a;rcases a.2 with⟨c,i⟩|⟨g,cap,d,m,c,_⟩
 .rw[c,i]
 .rw[c]
def jJ(q:Nat):List UInt8:=List.replicate q 46
def arF(n:Nat)(R:n=2\/n=3)(w:World):Calls (ah β) 210 #[.string ⟨#[46]⟩,.int .i64 n] w λe F=>e=.returned (.string ⟨(jJ n).toArray⟩)/\Below w.heap.size w F:=by
 have B:((n:Int) ==0)=false:=kw.2 (by omega);have z:((n:Int) ==1)=false:=kw.2 (by omega);go_enter vY,ntmps210;go_wp2;refine(azw n (by omega) w).mono ?_;rintro e O ⟨rfl,rfl⟩;go_wp2;generalize o:w.alloc (.cells #[.pointer none,.slice none 0 0] 257)=w0;have A:w0.heap[w.heap.size]?=some (.cells #[.pointer none,.slice none 0 0] 257 (0,0)):=by
  rw[<-o];show(w.heap.push _)[w.heap.size]?=_;rw[qn]
 have l:Below w.heap.size w w0:=by rw[<-o];exact(db _ w).alloc (am _) _
 refine(ans w.heap.size w.heap.size n w0 (am _) A l.size (by omega)).mono ?_;rintro e M ⟨rfl,a,d⟩;replace d:=l.trans d;clear l A o;go_wp2;refine(nT w.heap.size w.heap.size [] ⟨#[46]⟩ M (.inr (.of a)) (by decide) d.size).mono ?_;rintro e P ⟨rfl,p,k⟩;replace k:=d.trans k;clear d a;have C:([]:List Value)++Lib.strCells ⟨#[46]⟩=Lib.byteCells (jJ 1):=rfl;rw[C] at p;clear C;go_wp2;go_loopw [10] (λ_ wr=>∃q:Nat,1<=q/\q<=n/\Lib.IsBuilderF 257 5 w.heap.size w.heap.size (Lib.byteCells (jJ q)) wr/\Below w.heap.size w wr) (λ_ wr=>n-alx w.heap.size wr)
 case atStart=>exact⟨1,am _,by omega,.inr p,k⟩
 case round=>
  clear p k;obtain⟨q,Q,L,a,i⟩:=hrel;have s:=agt a;have b:(Lib.byteCells (jJ q)).length=q:=by rw[qU];exact pP ..
  have f:(jJ q).length=q:=pP ..;have g:jJ q≠[]:=by intro h;rw[h] at f;simp at f;omega
  go_wp2;refine(alv w.heap.size w.heap.size (Lib.byteCells (jJ q)) wr a).mono ?_;rintro e y ⟨rfl,rfl⟩;rw[b];by_cases E:q<n
  .have t:=dq (show(q:Int)<(n:Int) by omega);go_wp2;refine(alv w.heap.size w.heap.size (Lib.byteCells (jJ q)) y a).mono ?_;rintro e D ⟨rfl,rfl⟩;rw[b];go_wp2;refine(alv w.heap.size w.heap.size (Lib.byteCells (jJ q)) D a).mono ?_;rintro e G ⟨rfl,rfl⟩;rw[b];have c:(n=2/\q=1)\/(n=3/\q=1)\/(n=3/\q=2):=by omega
   have u:∀W:World,(Builtin.min_ #[3,3,3] 3 #[.int .i64 ((n:Int)-(q:Int)),.int .i64 q,.int .i64 n]).run (ah β) W=.ok (.int .i64 1) W:=λW=>by
    clear a i b f g s t B z;rcases c with⟨rfl,rfl⟩|⟨rfl,rfl⟩|⟨rfl,rfl⟩<;>simp[Builtin.min_,Builtin.min2]
   have S:(⟨(jJ q).toArray⟩:ByteArray).extract 0 1=⟨#[46]⟩:=by
    clear u a i b f g s t B z;rcases c with⟨rfl,rfl⟩|⟨rfl,rfl⟩|⟨rfl,rfl⟩<;>rfl
   have J:(⟨(jJ q).toArray⟩:ByteArray).size=q:=by show(jJ q).toArray.size=q;rw[tI];exact f
   replace c:=ab c;go_wp2;refine(acw w.heap.size w.heap.size (jJ q) G a g).mono ?_;rintro e H ⟨rfl,x,j⟩;replace j:=i.trans j;go_wp2;refine(nT w.heap.size w.heap.size (Lib.byteCells (jJ q)) ⟨#[46]⟩ H x (by rw[b];have:=c.out;show q+1<=_;omega) j.size).mono ?_;rintro e T ⟨rfl,r,m⟩;replace m:=j.trans m;have K:Lib.byteCells (jJ q)++Lib.strCells ⟨#[46]⟩=Lib.byteCells (jJ (q+1)):=by
    have:jJ (q+1)=jJ q++[46]:=vw;rw[this];simp[Lib.byteCells,Lib.strCells]
   rw[K] at r;have I:=agt (.inr r);have N:(jJ (q+1)).length=q+1:=pP ..;go_wp2;go_roundw
   case rel=>exact⟨q+1,by omega,by omega,.inr r,m⟩
   omega
  .obtain rfl:q=n:=by omega
   have t:=da (show ¬((q:Int)<(q:Int)) by omega);go_wp2;refine(acw w.heap.size w.heap.size (jJ q) y a g).mono ?_;rintro e D ⟨rfl, -,v⟩;go_wp2;go_ret;exact⟨rfl,i.trans v⟩
end
section
variable {β:Bool}
open Go.RowKit
def alz(n:Nat)(d:n<=3)(w:World):Calls (ah β) 210 #[.string ⟨#[46]⟩,.int .i64 n] w λe c=>e=.returned (.string ⟨(jJ n).toArray⟩)/\Below w.heap.size w c:=by
 by_cases b:n=0
 .subst b;go_enter vY,ntmps210;go_wp2;go_ret;exact⟨rfl,db _ _⟩
 .by_cases a:n=1
  .subst a;go_enter vY,ntmps210;go_wp2;go_ret;exact⟨rfl,db _ _⟩
  .exact arF n (by omega) w
def auu(n:Nat):bs ⟨(jJ n).toArray⟩=List.replicate n 46:=by
 unfold bs jJ;simp[List.map_replicate]
def auv(s:ByteArray)(a:aZ (bs s))(w:World) :
  Calls (ah β) 174 #[.string s] w λe g=>∃t:ByteArray,e=.returned (.string t)/\bs t=fP (bs s)/\Below w.heap.size w g:=by
 have c:1<=s.size/\s.size<=8:=by have:=a.1;rw[aN] at this;exact this
 have b:s.size<=maxLen:=by unfold maxLen;omega
 have i:s.size<=bY s.size/\bY s.size-s.size<=3:=by
  unfold bY;split<;>(try split)<;>(try split)<;>omega
 replace a:=ab a;replace b:=ab b;go_enter yr,ntmps174;go_wp2;refine(oN s b.out w true (by simp only[qj];exact a.out)).mono ?_;rintro e d ⟨rfl,rfl⟩;go_wp2;refine(aoX s.size c w).mono ?_;rintro e d ⟨rfl,rfl⟩;have f:((bY s.size:Nat):Int)-(s.size:Int)=((bY s.size-s.size:Nat):Int):=by omega
 go_wp2;try rw[f]
 refine(alz (bY s.size-s.size) i.2 w).mono ?_;rintro e d ⟨rfl,j⟩;have hd:(jJ (bY s.size-s.size)).length=bY s.size-s.size:=pP ..;go_wp2;go_ret;refine⟨_,rfl, ?_,j⟩;rw[jP,auu];unfold fP;rw[aN]
def afH(s:ByteArray):ByteArray:=s.extract 0 (cU (bs s) s.size)
def abL(s:ByteArray):bs (afH s)=sD (bs s):=by
 unfold afH sD;rw[cv,qr,aN]
open Classical in
noncomputable def dN(s:ByteArray):ByteArray×Bool:=if aZ (bs (afH s))/\fP (bs (afH s))=bs s then(afH s,true) else(⟨#[]⟩,false)
def aoY(s:ByteArray)(k:s.size<=maxLen)(w:World) :
  Calls (ah β) 144 #[.string s] w λe o=>e=.returned (.tuple #[.string (dN s).1,.bool (dN s).2])/\Below w.heap.size w o:=by
 have a:(afH s).size<=maxLen:=by
  unfold afH;rw[ub (acv _ _)];exact ap (acv _ _) k
 replace k:=ab k;replace a:=ab a;have g:s.extract 0 (cU (bs s) s.size)=afH s:=rfl;replace g:=ab g;go_enter yF,ntmps144;go_wp2;refine(ajr s k.out w).mono ?_;rintro e l ⟨rfl,rfl⟩;rw[g.out];obtain⟨p,d⟩:∃p,p=afH s:=⟨_,rfl⟩;have b:dN s=dN s:=rfl;by_cases c:aZ (bs (afH s))
 .replace c:=ab c;rw[<-d] at a c ⊢;replace d:=ab d;clear b;go_wp2;refine(oN p a.out w true (by simp only[qj];exact c.out)).mono ?_;rintro e l ⟨rfl,rfl⟩;go_wp2;refine(auv p c.out w).mono ?_;rintro e l ⟨t,rfl,j,n⟩;by_cases f:t=s
  .subst f;replace j:=ab j;go_wp2;go_ret2;have i:dN t=(p,true):=by
    unfold dN;rw[<-d.out,dl ⟨c.out,j.out.symm⟩]
   rw[i];exact⟨rfl,n⟩
  .have q:=nS f;have i:dN s=(⟨#[]⟩,false):=by
    unfold dN;rw[<-d.out,bd λh=>f (jA (j.trans h.2))]
   have m:=ab i;clear i j;go_wp2;go_ret2;rw[m.out];exact⟨rfl,n⟩
 .have i:dN s=(⟨#[]⟩,false):=by
   unfold dN;rw[bd λh=>c h.1]
  have m:=ab i;clear i;replace c:=ab c;rw[<-d] at a c ⊢;clear d b;go_wp2;refine(oN p a.out w false (by simp only[fd,qO];exact c.out)).mono ?_;rintro e l ⟨rfl,rfl⟩;go_wp2;go_ret2;rw[m.out];exact⟨rfl,db _ _⟩
end
section
variable {β:Bool}
open Go.RowKit
structure aaP (P:Program) (t e:TypeId) (sz bytes:Nat):Prop where
 slice:P.underlying t=some (.slice e)
 info:∃i z,P.info? e=some i/\i.zero=some z/\i.size=sz/\i.bytes=bytes/\z.cells.size=sz
 pos:0<sz
 small:bytes<=128
section
variable {P:Program}
def aaP.mk'{z:Value}(f:P.underlying t=some (.slice e))(k:(P.info? e).map (λi=>(i.zero,i.size,i.bytes))=some (some z,Z,X))(l:z.cells.size=Z)(a:0<Z)(j:X<=128):aaP P t e Z X:=by
 obtain⟨i,d,b,g,c⟩:=info_parts k;exact⟨f,⟨i,z,d,b,g,c,l⟩,a,j⟩
structure ant (w w':World) (base:Nat) (e:TypeId) (sz:Nat) (v v':Value) (n:Nat) (cells:List Value):Prop where
 own:w'.ownsRow base e sz v' n cells
 chg:gq (λb=>v.ownBlock=some b) w w'
 at_:∀b,v'.ownBlock=some b->v.ownBlock=some b\/w.heap.size<=b
def gT{base:Nat}(h:w.ownsRow base e Z v n Y)(d:gq (λb=>v.ownBlock=some b) w w')(c:base<=w.heap.size):Below base w w':=
 d.below c λi f a=>by have:=(h.lt i a).1;omega
def anu{base:Nat}(h:w.ownsRow base e Z v n Y)(k:gq S w w')(j:∀b,v.ownBlock=some b->¬S b):w'.ownsRow base e Z v n Y:=by
 refine⟨h.1, ?_⟩;rcases h.2 with i|⟨g,cap,d,rfl,f,a,c⟩
 .exact .inl i
 .refine .inr ⟨g,cap,d,rfl,f, ?_,c⟩;rw[k.block g (de.1 a).1 (j g rfl)];exact a
def aeN{base:Nat}(h:w.ownsRow base e Z v n Y)(a:Below w.heap.size w w'):w'.ownsRow base e Z v n Y:=
 anu h (gq.aeq (S:=λ_=>False) a) λ_ _ h=>h
def auw {ty : TypeId} (q:aaP P t e Z X) {base:Nat}   (d:w.ownsRow base e Z v n Y)
  (O:news.length=m*Z) (R:0<m->∃a,A=some a/\∀(j:Nat) (u:Value),news[j]?=some u->w.cell? (a.add j)=some u) (Q:∀u∈news,u.oneCell'=true)
  (U:n+m<=1099511627776) (l:base<=w.heap.size) :
  ∃y x,(Builtin.append_ #[t,t] ty #[v,.slice A m c]).run P w=.ok y x/\ant w x base e Z v y (n+m) (Y++news):=by
 obtain⟨i,z,G,N,D,E,F⟩:=q.info;have f:(n+m)*X<=140737488355328:=ap (Nat.mul_le_mul U q.small) (by omega);rcases mu m with I|I
 .subst I;have C:news=[]:=sQ (by simpa using O);subst C;cases A with
  |some K=>
   obtain⟨y,x,M,H,o,_,p⟩:=run_append_own_at (P:=P) w base t ty e i z Z X q.slice G N D E F q.pos v n Y d K 0 c [] (by simp) (λj u T=>by simp at T) (by simp) (by unfold maxLen;omega) f l;exact⟨y,x,M,H,⟨o.os,o.tape,o.output,o.size,λk J r=>o.block k J λe=>r e.symm⟩,λb B=>by rcases p with p|p<;>rw[p] at B<;>simp_all⟩
  |none=>
   refine⟨v,w, ?_,by simpa using d,gq.refl _ _,λb B=>.inl B⟩;rcases d.2 with⟨rfl,rfl⟩|⟨g,cap,S,rfl,_,_,L,_⟩
   .simp[Builtin.append_,lm q.slice,sizeOf,typeInfo,G,Builtin.lenOf,Builtin.firstCells]
   .simp[Builtin.append_,lm q.slice,sizeOf,typeInfo,G,Builtin.lenOf,Builtin.firstCells,L,storeCells]
 .obtain⟨K,rfl,s⟩:=R I;obtain⟨y,x,M,H,o,_,p⟩:=run_append_own_at (P:=P) w base t ty e i z Z X q.slice G N D E F q.pos v n Y d K m c news O s Q (by unfold maxLen;omega) f l;exact⟨y,x,M,H,⟨o.os,o.tape,o.output,o.size,λk J r=>o.block k J λe=>r e.symm⟩,λb B=>by rcases p with p|p<;>rw[p] at B<;>simp_all⟩
def axl     (s x:Operand) (t:TypeId)
  (l:o.op=.call ⟨.builtin .append,#[s,x],#[t,t]⟩)
  (k:aaP P t e Z X) {base:Nat}   (r:a.eval s=v) (d:w.ownsRow base e Z v n Y)
  (y:a.eval x=.slice A m c) (p:news.length=m*Z) (C:0<m->∃a,A=some a/\∀(j:Nat) (u:Value),news[j]?=some u->w.cell? (a.add j)=some u) (B:∀u∈news,u.oneCell'=true)
  (z:n+m<=1099511627776) (b:base<=w.heap.size)
  (h:∀i g,ant w g base e Z v i (n+m) (Y++news)->V (a.put o.dst i) g):o.wp P a w V Q:=by
 obtain⟨i,g,f,q⟩:=auw (P:=P) (ty:=o.type) k d (c:=c) p C B z b;unfold Oper.wp execOp;simp only[l,resolve,invoke,builtin,tn,ud,uz,List.map_toArray,pK,ug,r,y,f];exact h i g q
def aeO      (i:o.guard=none) (s x:Operand) (t:TypeId)
  (y:o.op=.call ⟨.builtin .append,#[s,x],#[t,t]⟩)
  (r:aaP P t e Z X) {base:Nat}   (B:a.eval s=v) (d:w.ownsRow base e Z v n Y)
  (C:a.eval x=.slice A m c) (z:news.length=m*Z) (q:0<m->∃a,A=some a/\∀(j:Nat) (u:Value),news[j]?=some u->w.cell? (a.add j)=some u) (l:∀u∈news,u.oneCell'=true)
  (D:n+m<=1099511627776) (b:base<=w.heap.size)
  (h:∀g f,ant w f base e Z v g (n+m) (Y++news)->wpList P U Q rest (a.put o.dst g) f):wpList P U Q (o::rest) a w:=
 wpList_plain i λ_ p=>axl s x t y r B d C z q l D b λg f k=>p _ _ (h g f k)
def anv      (k:o.guard=none) (s x:Operand) (t:TypeId)
  (B:o.op=.call ⟨.builtin .append,#[s,x],#[t,t]⟩)
  (A:aaP P t e Z X) {base:Nat}   (E:a.eval s=v) (d:w.ownsRow base e Z v n Y)
  {T:TypeId} (G:a.eval x=.slice (some ⟨w.heap.size,0,none⟩) 1 1) (C:es.size=Z) (z:∀u∈es.toList,u.oneCell'=true)
  (H:n<=1099511627775) (p:base<=w.heap.size)
  (h:∀g f,ant w f base e Z v g (n+1) (Y++es.toList)->wpList P U Q rest (a.put o.dst g) f):wpList P U Q (o::rest) a (w.alloc (.cells es T)):=by
 refine aeO k s x t B A E (d.alloc _) (c:=1) (m:=1) (news:=es.toList) G (by simp[C]) (λ_=>⟨_,rfl,λj u D=> ?_⟩) z (by omega) (by simp;omega) λg f l=>h g f ?_
 .have q:(⟨w.heap.size,0,none⟩:Addr).add j=⟨w.heap.size,j,none⟩:=by unfold Addr.add;split<;>simp_all
  rw[q,(gi.new w T es).cell];simpa using D
 .refine⟨l.own, ?_, ?_⟩
  .exact((gq.refl (λb=>v.ownBlock=some b) w).alloc _).trans l.chg λi _ F=>F
  .intro b y;rcases l.at_ b y with r|r
   .exact .inl r
   .simp at r;right;omega
end
def aeP(w:World)(base:Nat)(v:Value)(xs:List Int):Prop:=w.ownsRow base 3 1 v xs.length (xs.map (Value.int .i64))
def lX:aaP (ah β) 27 3 1 8:=aaP.mk' vO (z:=.int .i64 0) (by kernel_rfl) rfl (by decide) (by decide)
def lY{base:Nat}(h:w.ownsRow base e Z v n Y):∃A c,v=.slice A n c:=by
 rcases h.2 with⟨rfl,rfl⟩|⟨g,cap,a,rfl,_⟩
 .exact⟨_,_,rfl⟩
 .exact⟨_,_,rfl⟩
def arH   {base : Nat}     (h:w.ownsRow base e X v xs.length Y) (p:w.heap.size<=Z)
  (q:∀i x,xs[i]?=some x->∃a:List Value,a.length=X/\E w base Z x a/\∀j u,a[j]?=some u->Y[i*X+j]?=some u):aY E X w base Z xs [v]:=by
 obtain⟨A,l⟩:=h;rcases l with⟨rfl,m⟩|⟨g,cap,d,rfl,o,k,f,c,t,n⟩
 .exact⟨none,0,by rw[m],by omega,by unfold maxLen;omega,λB=>by omega⟩
 .refine⟨_,cap,rfl,f,c,λ_=>⟨g,0,rfl,o,aE (de.1 k).1 p,λi x Z=> ?_⟩⟩;obtain⟨a,r,y,z⟩:=q i x Z;refine⟨a,r,y,λj u s=> ?_⟩;have b:=z j u s;rw[<-n,qB] at b;split at b
  .rw[cell_of_row w g (0+i*X+j) d e (0,0) k];rw[ph];simpa using b
  .cases b
def aeP.sl{base : Nat}{xs:List Int}(h:aeP w base v xs)(b:∀x∈xs,dJ x)(c:w.heap.size<=Z):aY bz 1 w base Z xs [v]:=
 arH h c λi x Z=>⟨[.int .i64 x],rfl,⟨rfl,b x (be Z)⟩,λj u a=>by
  have d:j=0:=by have:=aI a;simpa using this
  subst d;simp at a;subst a;rw[qi,sO,ru,Z];rfl⟩
def aeP.aeQ(w:World){base:Nat}(a:base<=w.heap.size):aeP (w.alloc (.cells #[] 3)) base (.slice (some ⟨w.heap.size,0,none⟩) 0 0) []:=
 World.ownsRow_lit w #[] 0 a (by unfold maxLen;omega) rfl
def oO      (g:o.guard=none) (s x:Operand)
  (j:o.op=.call ⟨.builtin .append,#[s,x],#[27,27]⟩)
  {base:Nat} {xs:List Int} (y:Int) (k:a.eval s=v) (d:aeP w base v xs) (m:a.eval x=.slice (some ⟨w.heap.size,0,none⟩) 1 1) (n:xs.length<=1099511627775) (c:base<=w.heap.size)
  (h:∀f e,aeP e base f (xs++[y])->gq (λb=>v.ownBlock=some b) w e->(∀b,f.ownBlock=some b->v.ownBlock=some b\/w.heap.size<=b)->wpList (ah β) U Q rest (a.put o.dst f) e) :
  wpList (ah β) U Q (o::rest) a (w.alloc (.cells #[.int .i64 y] 3)):=
 anv g s x 27 j lX k d m rfl (by simp[Value.oneCell']) n c λf e i=>h f e (by
  have l:=i.own;unfold aeP;rw[oR,ge];exact l) i.chg i.at_
end
section
variable {β:Bool}
def ahD:Op->Bool
 |.move .. | .assign .. | .pick .. | .load .. | .binOp .. | .unOp .. | .convert .. | .slice .. | .fieldAddr .. | .field .. | .indexAddr .. | .index .. | .lookup .. | .extract .. | .build .. | .typeAssert .. | .makeInterface .. | .makeFunc .. | .nilCheck .. =>true
 |.call c=>match c.callee with
  |.builtin .len=>true
  |_=>false
 |_=>false
def ahE(h:ahD o.op=true){ρ:Operand->Value}{args:Array Value}:(execOp ρ o).run P w ≠ .ok (.enter f args) w':=by
 obtain⟨dst,op,j,k,after,g⟩:=o;cases op<;>simp only[ahD,fd] at h
 case nilCheck x=>
  simp only[execOp];intro a;split at a
  .simp[runtimePanic] at a
  .simp[runtimePanic] at a
  .simp[runtimePanic] at a
  .split at a
   .simp[runtimePanic] at a
   .revert a;simp only[tn];generalize (Sem.run P program w:Result _)=r;cases r with
    |halt x i=>simp[Result.andThen]
    |ok p i=>
     simp only[Result.andThen];generalize (Sem.run P (nilAhead _ _ _ _) i:Result _)=r2;cases r2 with
     |halt x l=>simp
     |ok b l=>
      simp only;split
      .simp[unsupported]
      .simp
   .simp at a
  .simp at a
 case call c=>
  obtain⟨d,args,e⟩:=c;cases d with
  |value x=>cases h
  |invoke x n=>cases h
  |builtin b=>
   cases b<;>first
    |(exfalso;cases h;done)
    |(simp only[execOp,resolve,invoke,builtin,tn,ud,uz]
      intro a;revert a;generalize (Sem.run P (Builtin.len_ _ _ _) w:Result _)=r;cases r<;>simp[Result.andThen])
 all_goals simp only[execOp,tn,ud]
 all_goals intro a
 all_goals
  first
   |(cases a;done)
   |(revert a;generalize (Sem.run P _ w:Result _)=r;cases r<;>simp[Result.andThen];done)
   |(revert a;generalize (Sem.run P _ w:Result _)=r;cases r<;>simp[Result.andThen];generalize (Sem.run P _ _:Result _)=r;cases r<;>simp;done)
def kq(o:Oper)(i:Nat):Bool:=o.after.any λe=>Region.binds .any e&&e.on ==i
def aju(h:kq o i=true):∃e∈o.after,Region.binds .any e=true/\e.on=i:=by
 obtain⟨e,a,h⟩:=Array.any_eq_true'.1 h;simp only[fb,mx] at h;exact⟨e,a,h.1,h.2⟩
def arI(i:a.tmps.size=T.tmps.size)(h:T.put d u=T.put d v):a.put d u=a.put d v:=by
 cases d with
 |none=>rfl
 |some t=>
  rcases nf t a.tmps.size with c|g
  .have f:=fa (λb:Act=>b.tmps[t]?) h;have e:t<T.tmps.size:=i▸c;simp[Act.put,e] at f;rw[f]
  .simp[Act.put,Array.setIfInBounds,Nat.not_lt.2 g]
section
variable {P:Program} {ops:Array Oper}
def aoZ  (z:ops[i]?=some o)  {G:Value->World->Prop}  
  (y:a.tmps.size=T.tmps.size) (A:execOp a.eval o=execOp T.eval o) (t:Region.wanted o (yielded ops a.tmps)=Region.wanted o (yielded ops T.tmps))
  (h:wpList P ops (λe b w=>e=.normal/\∃v,b=T.put o.dst v/\G v w) [o] T w)
  (s:∀v w,G v w->V (a.put o.dst v) w):wpOp P ops Q i V a w:=by
 have g:∀{u:Value} {k:World},(∃v,T.put o.dst u=T.put o.dst v/\G v k)->V (a.put o.dst u) k:=by
  rintro u k ⟨v,p,q⟩;rw[arI y p];exact s _ _ q
 unfold wpOp;simp only[z];unfold wpList at h;rw[<-t] at h;split
 .rename_i j;rw[dl j] at h;rcases h with h|⟨_,b,k,m,_⟩
  .refine .inl ?_;unfold Oper.wp at *;rw[<-A] at h;generalize (execOp a.eval o).run P w=r at *;cases r with
   |ok B k=>
    cases B<;>simp only[Oper.upon,wpList] at h ⊢
    case value u=>exact g h.2
    case skip=>exact g h.2
    case defer d=>
     obtain⟨_,v,p,_⟩:=h;have:=fa (λb:Act=>b.defers.length) p;cases hd:o.dst<;>simp[Act.put,hd] at this
    case enter f args=>
     refine h.mono λe n l=> ?_;cases e with
     |returned u=>exact g l.2
     |panicked c=>cases l.1
     |outgrown=>
      obtain⟨b,C,m,_⟩:=l;cases m
    case row row args=>exact Rows.mono h λu n l=>g l.2
   |halt x k=>
    cases x<;>simp only[Oper.upon] at h ⊢
    case panic u=>cases h.1
  .cases m
 .rename_i j;rw[bd j] at h;exact g h.2
def ajv(ops:Array Oper)(n:Nat):Bool:=
 (n ==ops.size||(decide (n<ops.size)&&Region.sinkB .any ops n&&Region.chainB .any ops n))&&Region.seqB .any ops (ops.size-n) n ((Array.replicate n true)++Array.replicate (ops.size-n) false)
def anw(ops:Array Oper)(n:Nat):Bool:=
 (List.range n).all λi=>match ops[i]? with
  |some o=>o.after.all λe=>!Region.binds .any e||decide (e.on<i)
  |none=>false
def ao0(h:anw ops n=true)(g:i<n)(b:ops[i]?=some o){e:Edge}(c:e∈o.after)(f:Region.binds .any e=true):e.on<i:=by
 have a:=jp.1 h i (pm.2 g);simp only[b] at a;have d:=Array.all_eq_true_iff_forall_mem.1 a e c;simpa[f] using d
def left(n:Nat)(listed:Array Bool):Nat:=((List.range n).filter λi=>listed.getD i true ==false).length
def ajw[DecidableEq W]{l:List W}(d:l.Nodup){p q:W->Bool}{i:W}(k:i∈l)(m:p i=true)(n:q i=false)(f:∀j,j≠i->p j=q j):(l.filter p).length=(l.filter q).length+1:=by
 induction l with
 |nil=>cases k
 |cons a t o=>
  rw[sF] at d;by_cases c:a=i
  .subst c;rw[tE m,tF (by simp[n])];have:t.filter p=t.filter q:=List.filter_congr λj r=>f j λe=>d.1 (e▸r);simp[this]
  .have g:i∈t:=by
    rcases lE.1 k with h|h
    .exact absurd h.symm c
    .exact h
   have:=o d.2 g;by_cases b:p a=true
   .rw[tE b,tE (by rw[<-f a c];exact b)];simp[this]
   .rw[tF b,tF (by rw[<-f a c];exact b)];exact this
def arJ(d:i<n)(h:listed.getD i true=false):left n listed=left n (listed.setIfInBounds i true)+1:=by
 have c:i<listed.size:=by
  rcases nf i listed.size with a|a
  .exact a
  .simp[pH a] at h
 refine ajw List.nodup_range (pm.2 d) (by rw[h];rfl) (by simp[c]) λj b=> ?_;rw[getD_set_ne true (sb b)]
def ao1(h:0<left n listed):∃i,i<n/\listed.getD i true=false/\∀j,j<i->listed.getD j true=true:=by
 unfold left at h;have f:∃i,i<n/\listed.getD i true=false:=by
  obtain⟨i,b⟩:=List.exists_mem_of_length_pos h;rw[rQ,pm] at b;exact⟨i,b.1,by simpa using b.2⟩
 obtain⟨i,b⟩:=f;clear h
 induction i using Nat.strongRecOn with
 |_ i k=>
  by_cases a:∀j,j<i->listed.getD j true=true
  .exact⟨i,b.1,b.2,a⟩
  .have g:∃j,j<i/\listed.getD j true=false:=by
    apply qb;intro c;exact a λj d=>by
     cases e:listed.getD j true with
     |true=>rfl
     |false=>exact absurd ⟨j,d,e⟩ c
   obtain⟨j,d,e⟩:=g;exact k j d ⟨by omega,e⟩
def ao2(h:left n listed=0)(c:i<n):listed.getD i true=true:=by
 unfold left at h;have a:=sQ h;rw[List.filter_eq_nil_iff] at a;have:=a i (pm.2 c);cases b:listed.getD i true with
 |true=>rfl
 |false=>rw[b] at this;simp at this
def agu(a:i<listed.size)(h:listed.getD i true=true):listed.getD i false=true:=by
 simp[a] at h ⊢;exact h
inductive Behind (ops:Array Oper):Nat->Nat->Prop where
 |atq {i:Nat} {o:Oper} {e:Edge}:ops[i]?=some o->e∈o.after->Region.binds .any e=true->Behind ops i e.on
 |next {i j:Nat} {o:Oper} {e:Edge}:ops[i]?=some o->e∈o.after->Region.binds .any e=true->Behind ops e.on j->Behind ops i j
def afI{ops:Array Oper}(c:HeadInv .any ops n listed)(h:Behind ops i j):(∀o,ops[i]?=some o->∀e∈o.after,Region.binds .any e=true->listed.getD e.on false=true)->listed.getD j false=true:=by
 induction h with
 |atq a g d=>exact λb=>b _ a _ g d
 |next a g d _ p=>exact λb=>p λm l q k f=>c.closed _ m l (b _ a _ g d) q k f
class bh (X:Type) where
 live:Nat->X->Prop
 down:∀m x,live (m+1) x->live m x
 pend:Nat->X->Prop
def auy(n:Nat)(listed:Array Bool):left n listed<=n:=by
 unfold left;exact ap (List.length_filter_le _ _) (by simp)
variable {X:Type} [bh X] {to:X->World} {le:X->X->Prop} {Q:Exit->Act->World->Prop}
def arK (hn:n<=ops.size) (t:ajv ops n=true) (M:anw ops n=true) (A:Act->Prop) (Φ:Nat->Act->X->Prop)
  (z:∀m i o,i<n->ops[i]?=some o->∀a x,A a->bh.live (m+1) x->bh.pend i x->(∀j,j<n->kq o j=true->Φ j a x)->∀K:Act->World->Prop,
   (∀v y,le x y->bh.live m y->(∀j,j≠i->¬Behind ops i j->bh.pend j x->bh.pend j y)->A (a.put o.dst v)->Φ i (a.put o.dst v) y->K (a.put o.dst v) (to y))->wpOp P ops Q i K a (to x))
  (I:∀i j o a x y v,i<n->j<n->i≠j->ops[j]?=some o->A a->Φ i a x->le x y->Φ i (a.put o.dst v) y)
  (J:∀a x,A a->(∀i,i<n->Φ i a x)->wpList P ops Q (ops.toList.drop n) a (to x)) :
  ∀(f:Nat) (listed:Array Bool) (a:Act) (x:X),left n listed=f->HeadInv .any ops n listed->A a->bh.live f x->(∀i,i<n->listed.getD i false=false->bh.pend i x)->(∀i,i<n->listed.getD i false=true->Φ i a x)->
   wpAny P .any ops Q (f+(ops.size-n)) listed a (to x):=by
 intro f
 induction f with
 |zero=>
  intro listed a x hf inv H G s l;have b:∀i,i<n->listed.getD i true=true:=λi k=>ao2 hf k;have hL:listed=(Array.replicate n true)++Array.replicate (ops.size-n) false:=by
   apply Array.ext
   .rw[inv.size];simp;omega
   .intro i p h2;rcases nf i n with r|r
    .rw[Array.getElem_append_left (by simpa using r)];have:=b i r;simp[p] at this;simp[this]
    .rw[Array.getElem_append_right (by simpa using r)];have:=inv.tail i r (by rw[<-inv.size];exact p);simp[p] at this;simp[this]
  unfold ajv at t;rw[fb] at t;have g:(ops.toList.drop n).length=ops.size-n:=by simp
  rw[ph,<-g,hL];refine wpAny_of_seq _ n _ a (to x) (λj=>by rw[ur,ef]) (by rw[g];exact t.2) (J a x H λi k=>l i k ?_);exact agu (by rw[inv.size];omega) (b i k)
 |succ f ih=>
  intro listed a x hf inv H G s l;obtain⟨u,S,E,R⟩:=ao1 (n:=n) (listed:=listed) (by omega);rw[show f+1+(ops.size-n)=(f+(ops.size-n))+1 by omega];have Z:∀i∈Region.ready .any ops listed,i<n:=by
   intro i k;unfold ajv at t;simp only[fb,qs,mx,qq] at t;rcases t.1 with h|⟨⟨p,h2⟩,r⟩
   .obtain⟨_,o,D,_⟩:=mem_ready.1 k;rw[h];exact(de.1 D).1
   .rcases nf i n with h|h
    .exact h
    .exact absurd k (tail_waits h2 r p inv _ u rfl S E i h)
  refine⟨λh0=> ?_,λi k=> ?_⟩
  .exfalso;have C:u<ops.size:=aE S hn;have:u∈Region.ready .any ops listed:=mem_ready.2 ⟨E,ops[u],fi C,λe F B=>by
    have p:=ao0 M S (fi C) F B;exact agu (by rw[inv.size];omega) (R _ p)⟩
   rw[h0] at this;cases this
  .have d:=Z i k;obtain⟨q,o,D,b⟩:=mem_ready.1 k;have W:listed.getD i false=false:=by
    have U:i<listed.size:=by rw[inv.size];omega
    simp[U] at q ⊢;exact q
   refine z f i o d D a x H G (s i d W) (λj w hw=> ?_) _ λv y Y V L T O=> ?_
   .obtain⟨e,F,B,rfl⟩:=aju hw;exact l _ w (b e F B)
   .refine ih _ _ y ?_ (inv.set k d) T V (λj w g=> ?_) λj w g=> ?_
    .have:=arJ d q;omega
    .have c:j≠i:=by
      rintro rfl;have U:j<listed.size:=by rw[inv.size];omega
      simp[U] at g
     rw[getD_set_ne false (sb c)] at g;refine L j c (λN=> ?_) (s j w g);have:=afI inv N λo' pw e F B=>(by
      obtain rfl:o=o':=dj (D.symm.trans pw);exact b e F B)
     rw[this] at g;cases g
    .by_cases c:j=i
     .subst c;exact O
     .rw[getD_set_ne false (sb c)] at g;exact I j i o a x y v w d c D H (l j w g) Y
inductive iA (X:Type) where
 |fix (v:Value)
 |any (R:Value->X->Prop)
def iA.keep(le:X->X->Prop):iA X->Prop
 |.fix _=>True
 |.any R=>∀v x y,R v x->le x y->R v y
def iA.holds(r:iA X)(v:Value)(x:X):Prop:=
 match r with
 |.fix a=>v=a
 |.any R=>R v x
def Good(P:Program)(ops:Array Oper)(to:X->World)(le:X->X->Prop)(i:Nat)(o:Oper)(a:Act)(x:X)(r:iA X):Prop:=
 ∀m,bh.live (m+1) x->bh.pend i x->∀b:Exit->Act->World->Prop,(∀v y,le x y->bh.live m y->(∀j,j≠i->¬Behind ops i j->bh.pend j x->bh.pend j y)->r.holds v y->b .normal (a.put o.dst v) (to y))->wpList P ops b [o] a (to x)
def nU(ops:Array Oper)(n:Nat)(t:Tmp)(j:Nat):Prop:=j<n/\∃o,ops[j]?=some o/\o.dst=some t
def afJ(ops:Array Oper)(n N:Nat):Bool:=
 (List.range n).all λi=>match ops[i]? with
  |some o=>match o.dst with
   |some d=>decide (d<N)&&(List.range i).all λj=>((ops[j]?).bind (·.dst)) !=some d
   |none=>true
  |none=>true
def alA(h:afJ ops n Z=true){t:Tmp}(d:nU ops n t j):t<Z:=by
 obtain⟨a,o,c,hd⟩:=d;have b:=jp.1 h j (pm.2 a);simp only[c,hd,fb,qq] at b;exact b.1
def ajx(h:afJ ops n Z=true){t:Tmp}(l:nU ops n t i)(m:nU ops n t j)(b:j<i):False:=by
 obtain⟨c,o,k,hd⟩:=l;obtain⟨g,p,f,a⟩:=m;have e:=jp.1 h i (pm.2 c);simp only[k,hd,fb] at e;have d:=jp.1 e.2 j (pm.2 b);rw[f] at d;simp[a] at d
def ahF(h:afJ ops n Z=true){t:Tmp}(c:nU ops n t i)(b:nU ops n t j):i=j:=by
 rcases tH i j with a|a|a
 .exact(ajx h b c a).elim
 .exact a
 .exact(ajx h c b a).elim
def anx(ops:Array Oper)(n:Nat)(t:Tmp):(∃j,nU ops n t j)\/∀j,¬nU ops n t j:=by
 by_cases h:∃j,nU ops n t j
 .exact .inl h
 .exact .inr λj a=>h ⟨j,a⟩
def vV(a:Act)(o:Oper):Value:=match o.dst with
 |some d=>a.tmps.getD d undef
 |none=>undef
structure ahG (ops:Array Oper) (n:Nat) (a0 a:Act):Prop where
 size:a.tmps.size=a0.tmps.size
 off:∀t,(∀j,¬nU ops n t j)->a.tmps[t]?=a0.tmps[t]?
 rest:{a with tmps:=a0.tmps}=a0
def ahG.refl(ops:Array Oper)(n:Nat)(a:Act):ahG ops n a a:=⟨rfl,λ_ _=>rfl,rfl⟩
def mA{t:Tmp}(h:d≠some t):(a.put d v).tmps[t]?=a.tmps[t]?:=by
 cases d with
 |none=>rfl
 |some e=>
  have:e≠t:=λb=>h (by rw[b]);simp[Act.put,ip this]
def anz{t:Tmp}(h:t<a.tmps.size):(a.put (some t) v).tmps[t]?=some v:=by
 simp[Act.put,h]
def abM(a:Act)(d:Option Tmp)(v:Value):(a.put d v).tmps.size=a.tmps.size:=by
 cases d<;>simp[Act.put]
def ahG.put(h:ahG ops n T a)(d:j<n)(c:ops[j]?=some o):ahG ops n T (a.put o.dst v):=by
 refine⟨by rw[abM,h.size],λt b=> ?_, ?_⟩
 .rw[mA (λhd=>b j ⟨d,o,c,hd⟩)];exact h.off t b
 .rw[<-h.rest];cases hd:o.dst<;>simp[Act.put]
def fe(U:Nat->Value)(a:Act)(L:List (Nat×Oper)):Act:=L.foldl (λb p=>b.put p.2.dst (U p.1)) a
def acx(U:Nat->Value):∀(L:List (Nat×Oper)) (a:Act),(fe U a L).tmps.size=a.tmps.size
 |[],_=>rfl
 |p::L,a=>by
  show(fe U (a.put p.2.dst (U p.1)) L).tmps.size=_;rw[acx U L,abM]
def mB(U:Nat->Value){t:Tmp}:∀(L:List (Nat×Oper)) (a:Act),(∀p∈L,p.2.dst≠some t)->(fe U a L).tmps[t]?=a.tmps[t]?
 |[],_,_=>rfl
 |p::L,a,h=>by
  show(fe U (a.put p.2.dst (U p.1)) L).tmps[t]?=_;rw[mB U L _ λq b=>h q (by simp[b]),mA (h p (by simp))]
def abN(U:Nat->Value){t:Tmp}{i:Nat}{o:Oper}:∀(L:List (Nat×Oper)) (a:Act),(i,o)∈L->o.dst=some t->t<a.tmps.size->(∀p∈L,p.2.dst=some t->p.1=i)->(fe U a L).tmps[t]?=some (U i)
 |[],_,h,_,_,_=>by cases h
 |p::L,a,h,hd,hs,ao3=>by
  show(fe U (a.put p.2.dst (U p.1)) L).tmps[t]?=_;by_cases d:(i,o)∈L
  .exact abN U L _ d hd (by rw[abM];exact hs) λq c=>ao3 q (by simp[c])
  .rcases lE.1 h with rfl|h
   .by_cases f:∃q∈L,q.2.dst=some t
    .obtain⟨q,c,b⟩:=f;have e:=ao3 q (by simp[c]) b;have:=abN U (i:=q.1) (o:=q.2) L (a.put o.dst (U i)) c b (by rw[abM];exact hs) λr j g=>by rw[ao3 r (by simp[j]) g,e]
     rw[this,e]
    .rw[mB U L _ λq c b=>f ⟨q,c,b⟩,hd];exact anz hs
   .exact absurd h d
def acy(U:Nat->Value):∀(L:List (Nat×Oper)) (a:Act),{fe U a L with tmps:=a.tmps}=a
 |[],_=>rfl
 |p::L,a=>by
  show{fe U (a.put p.2.dst (U p.1)) L with tmps:=a.tmps}=_;have h:=acy U L (a.put p.2.dst (U p.1));have d:{a.put p.2.dst (U p.1) with tmps:=a.tmps}=a:=by cases hd:p.2.dst<;>simp[Act.put]
  have c:=fa (λb:Act=>{b with tmps:=a.tmps}) h;simp only at c;rw[d] at c;exact c
def auz{b : Act}(h:{a with tmps:=b.tmps}=b)(f:a.tmps.size=b.tmps.size)(e:∀t:Nat,a.tmps[t]?=b.tmps[t]?):a=b:=by
 have c:a.tmps=b.tmps:=Array.ext f λi c d=>by
  have:=e i;simpa[c,d] using this
 rw[<-h,<-c]
def ao4(c:∀l b,o.op ≠ .select l b){b : Act}(h:∀t∈o.looksAt ops,a.tmps[t]?=b.tmps[t]?) :
  execOp a.eval o=execOp b.eval o/\Region.wanted o (yielded ops a.tmps)=Region.wanted o (yielded ops b.tmps):=by
 constructor
 .refine execOp_congr o c λx k=> ?_;cases x with
  |tmp t=>
   have:=h t (rv _ (List.mem_filterMap.2 ⟨.tmp t,by simpa using k,rfl⟩));simp[Act.eval,this]
  |_=>rfl
 .unfold Region.wanted;cases j:o.guard with
  |none=>rfl
  |some i=>
   obtain⟨g,d⟩:=i;have e:yielded ops a.tmps g=yielded ops b.tmps g:=by
    unfold yielded;cases f:(ops[g]?).bind (·.dst) with
    |none=>rfl
    |some t=>
     have:=h t (qM _ (by simp[j,f]));simp[this]
   simp only[e]
def alB(ops:Array Oper)(n:Nat):Bool:=
 (List.range n).all λi=>match ops[i]? with
  |some o=>(o.looksAt ops).all λt=>(List.range n).all λj=>((ops[j]?).bind (·.dst)) !=some t||kq o j
  |none=>true
def aeR(h:alB ops n=true)(l:i<n)(e:ops[i]?=some o){t:Tmp}(k:t∈o.looksAt ops)(f:nU ops n t j):kq o j=true:=by
 obtain⟨a,p,d,hd⟩:=f;have b:=jp.1 h i (pm.2 l);simp only[e] at b;have g:=jp.1 b t k;have c:=jp.1 g j (pm.2 a);rw[d] at c;simpa[hd] using c
def ao5 (hn:n<=ops.size) (ax:Region.noSelect ops=true) (ht:ajv ops n=true) (a9:anw ops n=true) (an:alB ops n=true) {q:Act} (B:afJ ops n q.tmps.size=true)
  (T:Nat->iA X) (hT:∀i,(T i).keep le) (aD:∀i o,i<n->ops[i]?=some o->(∃v,T i=.fix v)\/o.dst.isSome=true\/∀R,T i=.any R->∀u v x,R u x->R v x) (L:List (Nat×Oper)) (hL:∀i o,ops[i]?=some o->i<n->(i,o)∈L) (F:∀p∈L,p.1<n/\ops[p.1]?=some p.2)
  (aO:∀i o,i<n->ops[i]?=some o->∀U:Nat->Value,(∀j g,T j=.fix g->U j=g)->
   ∃al:Act,ahG ops n q al/\(∀t j,t∈o.looksAt ops->nU ops n t j->al.tmps[t]?=some (U j))/\∀x,(∀j,j<n->kq o j=true->(T j).holds (U j) x)->Good P ops to le i o al x (T i))
  (fin:∀U:Nat->Value,(∀j g,T j=.fix g->U j=g)->∀x,(∀j,j<n->(T j).holds (U j) x)->wpList P ops Q (ops.toList.drop n) (fe U q L) (to x))
  (x0:X) (a7:bh.live (left n (Array.replicate ops.size false)) x0) (aR:∀i,i<n->bh.pend i x0):wpAny P .any ops Q ops.size (Array.replicate ops.size false) q (to x0):=by
 let c:Act->Nat->Value:=λa j=>match T j with
  |.fix g=>g
  |.any _=>match ops[j]? with
   |some Y=>vV a Y
   |none=>undef
 have hU:∀a j g,T j=.fix g->c a j=g:=λa j g h=>by simp only[c,h]
 let Φ:Nat->Act->X->Prop:=λi a x=>∀o,ops[i]?=some o->(∀d,o.dst=some d->a.tmps[d]?=some (c a i))/\(T i).holds (c a i) x
 have a6:∀{i o a v x},i<n->ops[i]?=some o->ahG ops n q a->(T i).holds v x->Φ i (a.put o.dst v) x:=by
  intro i o a v x k l z I Z pw;obtain rfl:o=Z:=dj (l.symm.trans pw);have S:∀d,o.dst=some d->(a.put o.dst v).tmps[d]?=some v:=λd hd=>by
   rw[hd];exact anz (by rw[z.size];exact alA B ⟨k,o,l,hd⟩)
  have V:c (a.put o.dst v) i=v\/(o.dst=none/\∃R,T i=.any R/\∀u v x,R u x->R v x):=by
   cases e:T i with
   |fix g=>
    rw[hU _ _ _ e];rw[e] at I;exact .inl I.symm
   |any R=>
    simp only[c,e,l,vV];have s:o.dst.isSome=true->(match o.dst with|some d=>(a.put o.dst v).tmps.getD d undef|none=>undef)=v:=λO=>by
     obtain⟨d,hd⟩:=qP.1 O;have:=S d hd;simp only[hd] at this ⊢;simp[gc,this]
    rcases aD i o k l with⟨g,O⟩|O|O
    .rw[e] at O;cases O
    .exact .inl (s O)
    .cases hd:o.dst with
     |some d=>left;have:=s (by rw[hd];rfl);simpa only[hd] using this
     |none=>exact .inr ⟨rfl,R,rfl,O R e⟩
  rcases V with V|⟨hd,R,hR,aH⟩
  .rw[V];exact⟨S,I⟩
  .refine⟨λd a1=>(by rw[hd] at a1;cases a1), ?_⟩;rw[hR] at I ⊢;exact aH _ _ _ I
 have H:=arK (P:=P) (Q:=Q) (to:=to) (le:=le) hn ht a9 (ahG ops n q) Φ ?step ?axm ?fin (left n (Array.replicate ops.size false)) (Array.replicate ops.size false) q x0 rfl
  ⟨by simp,λj Y _ E=>(by rw[sX] at E;cases E),λt _ ht=>getD_in (by simpa using ht) (sX _ _)⟩ (ahG.refl _ _ _) a7 (λi k _=>aR i k) (λi k E=>(by rw[sX] at E;cases E))
 case step=>
  intro m i o k l a x z aT a8 a4 K hK;obtain⟨al,a2,ad,af⟩:=aO i o k l (c a) (hU a);have aM:∀j,j<n->kq o j=true->(T j).holds (c a j) x:=λj f hw=>(a4 j f hw _ (fi (aE f hn))).2;have aa:∀t∈o.looksAt ops,a.tmps[t]?=al.tmps[t]?:=by
   intro t a3;rcases anx ops n t with⟨j,f⟩|r
   .have hw:=aeR an k l a3 f;obtain⟨C,Y,J,hd⟩:=id f;rw[ad t j a3 f,(a4 j C hw Y J).1 t hd]
   .rw[z.off t r,a2.off t r]
  obtain⟨h1,N⟩:=ao4 (λcs b=>Region.noSelect_spec ax i o cs b l) aa;refine aoZ (G:=λv w=>∃y,w=to y/\le x y/\bh.live m y/\(∀j,j≠i->¬Behind ops i j->bh.pend j x->bh.pend j y)/\(T i).holds v y) l (by rw[z.size,a2.size]) h1 N (af x aM m aT a8 _ λv y A E M I=>⟨rfl,v,rfl,y,rfl,A,E,M,I⟩) ?_;rintro v w ⟨y,rfl,A,E,M,I⟩;exact hK v y A E M (z.put k l) (a6 k l z I)
 case axm=>
  intro i j o a x y v k f ay l z D A Z pw;obtain⟨h1,N⟩:=D Z pw;have a0:∀d,Z.dst=some d->o.dst≠some d:=λd hd aW=>ay (ahF B ⟨k,Z,pw,hd⟩ ⟨f,o,l,aW⟩);have ao:c (a.put o.dst v) i=c a i:=by
   cases e:T i with
   |fix g=>rw[hU _ _ _ e,hU _ _ _ e]
   |any R=>
    simp only[c,e,pw,vV];cases hd:Z.dst with
    |none=>rfl
    |some d=>
     have:=mA (a:=a) (v:=v) (a0 d hd);simp only[gc,this]
  rw[ao];refine⟨λd hd=>by rw[mA (a0 d hd)];exact h1 d hd, ?_⟩;have hk:=hT i;cases e:T i with
  |fix g=>rw[e] at N;exact N
  |any R=>
   rw[e] at N hk;exact hk _ _ _ N A
 case fin=>
  intro a x z D;have a5:∀j,j<n->(T j).holds (c a j) x:=λj f=>(D j f _ (fi (aE f hn))).2;have he:a=fe (c a) q L:=by
   refine auz ?_ ?_ ?_
   .have h1:=z.rest;have N:=acy (c a) L q;have h3:=fa (λb:Act=>{b with tmps:=(fe (c a) q L).tmps}) (h1.trans N.symm);exact h3
   .rw[z.size,acx]
   .intro t;rcases anx ops n t with⟨j,f⟩|r
    .obtain⟨C,Y,J,hd⟩:=id f;rw[(D j C Y J).1 t hd,abN (c a) L q (hL j Y J C) hd (alA B f) λp M W=> ?_];exact ahF B ⟨(F p M).1,p.2,(F p M).2,W⟩ f
    .rw[z.off t r,mB _ _ _ λp M W=>r p.1 ⟨(F p M).1,p.2,(F p M).2,W⟩]
  rw[he];exact fin _ (hU a) x a5
 have av:left n (Array.replicate ops.size false)=n:=by
  unfold left;rw[List.filter_eq_self.2]
  .simp
  .intro i k;have b0:=pm.1 k;rw[getD_in (by simp;omega) (sX _ _)];rfl
 rw[av,show n+(ops.size-n)=ops.size by omega] at H;exact H
def aeS:List (Nat×(X->Prop))->Oper->X->Prop
 |[],_,_=>True
 |(j,p)::F,o,x=>(kq o j=true->p x)/\aeS F o x
def acz:List (Nat×(X->Prop))->X->Prop
 |[],_=>True
 |(_,p)::F,x=>p x/\acz F x
omit [bh X] in
def anB{F:List (Nat×(X->Prop))}{x:X}(h:∀p∈F,kq o p.1=true->p.2 x):aeS F o x:=by
 induction F with
 |nil=>trivial
 |cons p F b=>exact⟨h p (by simp),b λq a=>h q (by simp[a])⟩
omit [bh X] in
def auA{F:List (Nat×(X->Prop))}{x:X}(h:∀p∈F,p.2 x):acz F x:=by
 induction F with
 |nil=>trivial
 |cons p F b=>exact⟨h p (by simp),b λq a=>h q (by simp[a])⟩
def eu(P:Program)(ops:Array Oper)(to:X->World)(le:X->X->Prop)(Qt:Act->World->Prop):List (Nat×Oper)->List (Nat×(X->Prop))->List (iA X)->Act->Prop
 |[],F,[],a=>∀x,acz F x->Qt a (to x)
 |(i,o)::l,F,.fix v0::Rs,a=>(∀x,aeS F o x->Good P ops to le i o a x (.fix v0))/\eu P ops to le Qt l F Rs (a.put o.dst v0)
 |(i,o)::l,F,.any R::Rs,a=>(o.dst.isSome=true\/∀u v x,R u x->R v x)/\(∀v x y,R v x->le x y->R v y)/\(∀x,aeS F o x->Good P ops to le i o a x (.any R))/\∀v,eu P ops to le Qt l ((i,R v)::F) Rs (a.put o.dst v)
 |_,_,_,_=>False
def anC{F:List (Nat×(X->Prop))}(h:∀x,acz F x->V a (to x)):eu P ops to le V [] F [] a:=h
def anD   {l:List (Nat×Oper)} {F:List (Nat×(X->Prop))} {e:List (iA X)} (c:Value)
  (s:∀x,aeS F o x->∀m,bh.live (m+1) x->bh.pend i x->∀b:Exit->Act->World->Prop,(∀y,le x y->bh.live m y->(∀j,j≠i->¬Behind ops i j->bh.pend j x->bh.pend j y)->b .normal (a.put o.dst c) (to y))->wpList P ops b [o] a (to x))
  (g:eu P ops to le V l F e (a.put o.dst c)):eu P ops to le V ((i,o)::l) F (.fix c::e) a:=
 ⟨λx q m r f b p=>s x q m r f b λy n k d=>p c y n k d rfl,g⟩
def ahH   {l:List (Nat×Oper)} {F:List (Nat×(X->Prop))} {d:List (iA X)} (R:Value->X->Prop) (e:o.dst.isSome=true\/∀u v x,R u x->R v x) (p:∀v x y,R v x->le x y->R v y)
  (w:∀x,aeS F o x->∀m,bh.live (m+1) x->bh.pend i x->∀b:Exit->Act->World->Prop,(∀v y,le x y->bh.live m y->(∀j,j≠i->¬Behind ops i j->bh.pend j x->bh.pend j y)->R v y->b .normal (a.put o.dst v) (to y))->wpList P ops b [o] a (to x))
  (g:∀v,eu P ops to le V l ((i,R v)::F) d (a.put o.dst v)):eu P ops to le V ((i,o)::l) F (.any R::d) a:=
 ⟨e,p,λx r m s f b q=>w x r m s f b λv y n k c t=>q v y n k c t,g⟩
def pick(l:List Oper)(ord:List Nat):List (Nat×Oper):=ord.map λi=>(i,l.getD i default)
def ahI(ops:Array Oper)(n:Nat):List Nat->List Nat->Bool
 |[],_=>true
 |i::t,done=>(match ops[i]? with
  |some o=>(List.range n).all λj=>!kq o j||done.contains j
  |none=>false)&&ahI ops n t (i::done)
def aeT{n:Nat}:∀(c done:List Nat),ahI ops n c done=true->∀k i o j,c[k]?=some i->ops[i]?=some o->j<n->kq o j=true->j∈done\/j∈c.take k
 |[],_,_,k,i,_,_,h,_,_,_=>by simp at h
 |a::t,done,hB,k,i,o,j,h,ho,hj,hw=>by
  simp only[ahI,fb] at hB;cases k with
  |zero=>
   simp at h;subst h;have b:=hB.1;simp only[ho] at b;have d:=jp.1 b j (pm.2 hj);left;simpa[hw] using d
  |succ k=>
   rcases aeT t (a::done) hB.2 k i o j (by simpa using h) ho hj hw with b|b
   .rcases lE.1 b with rfl|b
    .right;simp
    .exact .inl b
   .right;rw[uk];exact qk _ b
def alC(l:List Oper)(n:Nat)(bZ dv:List Nat):Bool:=
 Region.noSelect l.toArray&&decide (n<=l.length)&&ajv l.toArray n&&anw l.toArray n&&alB l.toArray n&&decide ((bZ++dv).Nodup)&&(List.range n).all (λi=>(bZ++dv).contains i)&&(bZ++dv).all (λi=>decide (i<n)) &&
  bZ.all (λi=>ahD (l.getD i default).op)&&ahI l.toArray n (bZ++dv) []
def mC{U V:Nat->Value}:∀(L:List (Nat×Oper)) (a:Act),(∀p∈L,U p.1=V p.1)->fe U a L=fe V a L
 |[],_,_=>rfl
 |p::L,a,h=>by
  show fe U (a.put p.2.dst (U p.1)) L=fe V (a.put p.2.dst (V p.1)) L;rw[h p (by simp)];exact mC L _ λq b=>h q (by simp[b])
def ac9(U:Nat->Value)(L M:List (Nat×Oper))(a:Act):fe U a (L++M)=fe U (fe U a L) M:=by
 unfold fe;exact sS
def aeU{C:World->Prop}{i:Act->Prop}:∀(L:List (Nat×Oper)) (a:Act),(L.map (·.1)).Nodup->wpQuiet P ops C i (L.map (·.2)) a->
  ∃V:Nat->Value,i (fe V a L)/\∀(k:Nat) (p:Nat×Oper),L[k]?=some p->YieldsIn P ops C p.2 (V p.1) (fe V a (L.take k))
 |[],a,_,h=>⟨λ_=>undef,h,λk p n=>by simp at n⟩
 |p::L,a,hn,h=>by
  rw[pK,sF] at hn;have t:∃v,YieldsIn P ops C p.2 v a/\wpQuiet P ops C i (L.map (·.2)) (a.put p.2.dst v):=by
   rw[pK] at h;unfold wpQuiet at h;split at h
   .rename_i g;obtain⟨v,u,o⟩:=h;exact⟨v,.inl ⟨g,u⟩,o⟩
   .rename_i g;exact⟨undef,.inr ⟨by simpa using g,rfl⟩,h⟩
  obtain⟨v,r,l⟩:=t;obtain⟨V,s,w⟩:=aeU L _ hn.2 l
  let W:Nat->Value:=λj=>if j=p.1 then v else V j
  have f:W p.1=v:=by simp[W]
  have d:∀q∈L,W q.1=V q.1:=λq b=>by
   have:q.1≠p.1:=λe=>hn.1 (e▸lP.2 ⟨q,b,rfl⟩);simp[W,this]
  have m:∀k,fe W a ((p::L).take (k+1))=fe V (a.put p.2.dst v) (L.take k):=λk=>by
   rw[uk];show fe W (a.put p.2.dst (W p.1)) (L.take k)=_;rw[f];exact mC _ _ λq b=>d q (qf b)
  refine⟨W, ?_,λk q b=> ?_⟩
  .have:=m L.length;rw[dk,<-mp (a:=p),dk] at this;rw[this];exact s
  .cases k with
   |zero=>
    simp at b;subst b;rw[f];exact r
   |succ k=>
    have c:L[k]?=some q:=by simpa using b
    rw[m,d q (be c)];exact w k q c
def oP{A:Act->World->Prop}{n:Nat}{T:Nat->iA X}{U:Nat->Value}(y:∀j g,T j=.fix g->U j=g):∀(L:List (Nat×Oper)) (F:List (Nat×(X->Prop))) (l:List (iA X)) (a:Act),
  eu P ops to le A L F l a->(∀(k:Nat) (p:Nat×Oper) (r:iA X),L[k]?=some p->l[k]?=some r->T p.1=r)->(∀p∈L,p.1<n)->(∀p∈F,p.1<n/\∀x,(T p.1).holds (U p.1) x->p.2 x)->
  (∀(k:Nat) (p:Nat×Oper),L[k]?=some p->∀x,(∀j,j<n->kq p.2 j=true->(T j).holds (U j) x)->Good P ops to le p.1 p.2 (fe U a (L.take k)) x (T p.1))/\(∀x,(∀j,j<n->(T j).holds (U j) x)->A (fe U a L) (to x))
 |[],F,[],a,h,_,_,hF=>⟨λk p b=>by simp at b,λx c=>h x (auA λp b=>(hF p b).2 x (c _ (hF p b).1))⟩
 |[],_,_::_,_,h,_,_,_=>h.elim
 |(i,o)::L,F,[],_,h,_,_,_=>h.elim
 |(i,o)::L,F,.fix g::l,a,h,hT,hn,hF=>by
  obtain⟨w,s⟩:=h;have d:T i=.fix g:=hT 0 (i,o) (.fix g) rfl rfl;have z:U i=g:=y i g d;obtain⟨u,v⟩:=oP y L F l _ s (λk p r b t=>hT (k+1) p r (by simpa using b) (by simpa using t)) (λp b=>hn p (by simp[b])) hF;have f:∀M,fe U a ((i,o)::M)=fe U (a.put o.dst g) M:=λM=>by
   show fe U (a.put o.dst (U i)) M=_;rw[z]
  refine⟨λk p b x c=> ?_,λx c=>by rw[f];exact v x c⟩;cases k with
  |zero=>
   simp at b;subst b;rw[d];exact w x (anB λq e m=>(hF q e).2 x (c _ (hF q e).1 m))
  |succ k=>
   rw[uk,f];exact u k p (by simpa using b) x c
 |(i,o)::L,F,.any R::l,a,h,hT,hn,hF=>by
  obtain⟨_,B,w,s⟩:=h;have d:T i=.any R:=hT 0 (i,o) (.any R) rfl rfl;obtain⟨u,v⟩:=oP y L ((i,R (U i))::F) l _ (s (U i)) (λk p r b t=>hT (k+1) p r (by simpa using b) (by simpa using t)) (λp b=>hn p (by simp[b])) λq e=>by
   rcases lE.1 e with rfl|e
   .exact⟨hn (i,o) (by simp),λx c=>by rw[d] at c;exact c⟩
   .exact hF q e
  refine⟨λk p b x c=> ?_,λx c=>v x c⟩;cases k with
  |zero=>
   simp at b;subst b;rw[d];exact w x (anB λq e m=>(hF q e).2 x (c _ (hF q e).1 m))
  |succ k=>exact u k p (by simpa using b) x c
def aaQ{j:Act->World->Prop}:∀(L:List (Nat×Oper)) (F:List (Nat×(X->Prop))) (d:List (iA X)) (a:Act),
  eu P ops to le j L F d a->d.length=L.length/\∀(k:Nat) (p:Nat×Oper) (r:iA X),L[k]?=some p->d[k]?=some r->r.keep le/\((∃v,r=.fix v)\/p.2.dst.isSome=true\/∀R,r=.any R->∀u v x,R u x->R v x)
 |[],_,[],_,_=>⟨rfl,λk p r b=>by simp at b⟩
 |[],_,_::_,_,h=>h.elim
 |(i,o)::L,F,[],_,h=>h.elim
 |(i,o)::L,F,.fix v0::d,a,h=>by
  obtain⟨_,e⟩:=h;obtain⟨f,g⟩:=aaQ L F d _ e;refine⟨by simp[f],λk p r b c=> ?_⟩;cases k with
  |zero=>
   simp at c;subst c;exact⟨trivial,.inl ⟨_,rfl⟩⟩
  |succ k=>exact g k p r (by simpa using b) (by simpa using c)
 |(i,o)::L,F,.any R::d,a,h=>by
  obtain⟨hd,l,_,e⟩:=h;obtain⟨f,g⟩:=aaQ L _ d _ (e undef);refine⟨by simp[f],λk p r b c=> ?_⟩;cases k with
  |zero=>
   simp at c b;subst c b;exact⟨l,.inr (hd.imp id λhd R' m=>by cases m;exact hd)⟩
  |succ k=>exact g k p r (by simpa using b) (by simpa using c)
def aaR{g:Type}:∀(ks:List Nat) (c:List g) (k i:Nat) (r:g),ks.Nodup->ks[k]?=some i->c[k]?=some r->(ks.zip c).lookup i=some r
 |[],_,_,_,_,_,h,_=>by simp at h
 |a::ks,[],_,_,_,_,_,h=>by simp at h
 |a::ks,b::c,k,i,r,hn,h,hr=>by
  rw[sF] at hn;cases k with
  |zero=>
   simp at h hr;subst h hr;simp[List.lookup]
  |succ k=>
   have f:ks[k]?=some i:=by simpa using h
   have d:(i ==a)=false:=kw.2 λe=>hn.1 (e▸be f);simp only[List.zip_cons_cons,List.lookup,d];exact aaR ks c k i r hn.2 f (by simpa using hr)
def ajy {l:List Oper}  (to:X->World) (le:X->X->Prop) (Y:∀x,le x x) (n:Nat) (b q:List Nat) (hB:alC l n b q=true) (hd:afJ l.toArray n a.tmps.size=true)
  (x0:X) (af:∀m,m<=n->bh.live m x0) (b2:∀i,i<n->bh.pend i x0) (hx:to x0=w.drew)
  (h:wpQuiet P l.toArray (λw'=>∃x,w'=to x) (λa1=>∃B,eu P l.toArray to le (wpList P l.toArray Q (l.drop n)) (pick l q) [] B a1) ((pick l b).map (·.2)) a):wpAny P .any l.toArray Q l.toArray.size (Array.replicate l.toArray.size false) a {w with drawn:=w.drawn+1}:=by
 simp only[alC,fb,qq] at hB;obtain⟨⟨⟨⟨⟨⟨⟨⟨⟨aO,hn⟩,ht⟩,an⟩,a4⟩,K⟩,ay⟩,b4⟩,ao⟩,al⟩:=hB;have b0:n<=l.toArray.size:=by simpa using hn
 have R:∀i,i<n->i∈b++q:=λi d=>by simpa using jp.1 ay i (pm.2 d)
 have z:∀i∈b++q,i<n:=λi d=>by simpa using jp.1 b4 i d
 have G:∀i,i<n->l.toArray[i]?=some (l.getD i default):=λi d=>by
  have b3:i<l.length:=aE d hn;simp[b3]
 have aa:∀E:List Nat,(pick l E).map (·.1)=E:=λE=>by simp[pick,Function.comp_def]
 obtain⟨V,⟨B,N⟩,hV⟩:=aeU (pick l b) a (by rw[aa];exact(qW.1 K).1) h;obtain⟨a3,a5⟩:=aaQ _ _ _ _ N;have b8:B.length=q.length:=by rw[a3];simp[pick]
 let T:Nat->iA X:=λj=>(((b++q).zip (b.map (λi=>iA.fix (V i))++B)).lookup j).getD (.fix undef)
 have D:∀i∈b,T i=.fix (V i):=λi d=>by
  obtain⟨k,v⟩:=qp.1 d;have oJ:k<b.length:=by
   rcases nf k b.length with h|h
   .exact h
   .rw[qN h] at v;cases v
  have:=aaR (b++q) (b.map (λi=>iA.fix (V i))++B) k i (.fix (V i)) K (by rw[qa oJ];exact v) (by rw[qa (by simpa using oJ),qi,v];rfl);simp only[T,this,pS]
 have a0:∀k i r,q[k]?=some i->B[k]?=some r->T i=r:=λk i r v C=>by
  have:=aaR (b++q) (b.map (λi=>iA.fix (V i))++B) (b.length+k) i r K (by rw[pL (by omega),rE];exact v)
   (by rw[pL (by simp),pF,rE];exact C)
  simp only[T,this,pS]
 have Z:∀(k:Nat) (p:Nat×Oper) (r:iA X),(pick l q)[k]?=some p->B[k]?=some r->T p.1=r:=λk p r g C=>by
  simp only[pick,qi,io] at g;obtain⟨i,d,rfl⟩:=g;exact a0 k i r d C
 have a6:∀i,i<n->(i∈b/\T i=.fix (V i))\/∃k r,q[k]?=some i/\B[k]?=some r/\T i=r:=λi d=>by
  rcases gt.1 (R i d) with s|s
  .exact .inl ⟨s,D i s⟩
  .obtain⟨k,v⟩:=qp.1 s;have oJ:k<B.length:=by
    rcases nf k q.length with h|h
    .omega
    .rw[qN h] at v;cases v
   exact .inr ⟨k,B[k],v,jn oJ,a0 k i _ v (jn oJ)⟩
 have b6:∀i,(T i).keep le:=λi=>by
  by_cases d:i<n
  .rcases a6 i d with⟨_,s⟩|⟨k,r,v,C,s⟩
   .rw[s];trivial
   .rw[s];exact(a5 k (i,l.getD i default) r (by simp[pick,v]) C).1
  .have:((b++q).zip (b.map (λi=>iA.fix (V i))++B)).lookup i=none:=by
    rw[List.lookup_eq_none_iff];intro p g;have s:=(List.of_mem_zip g).1;have:=z _ s;have ad:i≠p.1:=λe=>d (by rw[e];exact this);simpa using ad
   simp only[T,this,Option.getD_none];trivial
 have b5:∀i,i∈b++q->(i,l.getD i default)∈pick l (b++q):=λi d=>lP.2 ⟨i,d,rfl⟩;have W:pick l (b++q)=pick l b++pick l q:=by simp[pick]
 have H:=ao5 (P:=P) (Q:=Q) (to:=to) (le:=le) b0 aO ht an a4 hd T b6 ?any (pick l (b++q)) ?L ?L' ?lex ?fin x0 (af _ (auy _ _)) b2
 .rw[hx] at H;exact H
 case any=>
  intro i o d F;rcases a6 i d with⟨_,s⟩|⟨k,r,v,C,s⟩
  .exact .inl ⟨_,s⟩
  .rw[s];obtain rfl:o=l.getD i default:=dj (F.symm.trans (G i d));exact(a5 k (i,l.getD i default) r (by simp[pick,v]) C).2
 case L=>
  intro i o F d;obtain rfl:o=l.getD i default:=dj (F.symm.trans (G i d));exact b5 i (R i d)
 case L'=>
  intro p g;obtain⟨i,d,rfl⟩:=lP.1 g;exact⟨z i d,G i (z i d)⟩
 case lex=>
  intro i o d F U hU;obtain rfl:o=l.getD i default:=dj (F.symm.trans (G i d));obtain⟨hg,_⟩:=oP (n:=n) (T:=T) (U:=U) hU _ _ _ _ N Z (λp g=>by
   obtain⟨j,A,rfl⟩:=lP.1 g;exact z j (qM _ A)) (λp g=>by cases g)
  obtain⟨k,v⟩:=qp.1 (R i d);have a7:∀M:List (Nat×Oper),(∀p∈M,p.1∈b)->fe U a M=fe V a M:=λM hM=>mC M a λp g=>by rw[hU _ _ (D _ (hM p g))]
  have a2:∀p∈pick l b,p.1∈b:=λp g=>by
   obtain⟨j,A,rfl⟩:=lP.1 g;exact A
  refine⟨fe U a ((pick l (b++q)).take k), ?_, ?_, ?_⟩
  .refine⟨acx _ _ _,λt aM=>mB _ _ _ λp g S=> ?_, ?_⟩
   .obtain⟨j,A,rfl⟩:=lP.1 (qf g);exact aM j ⟨z j A,_,G j (z j A),S⟩
   .exact acy _ _ _
  .intro t j ax A;have hw:=aeR a4 d F ax A;have b1:=(aeT (b++q) [] al k i _ j v F A.1 hw).resolve_left (by simp);have aD:=A;obtain⟨av,oj,aT,aW⟩:=aD;obtain rfl:oj=l.getD j default:=dj (aT.symm.trans (G j av));refine abN U (o:=l.getD j default) _ a ?_ aW (alA hd A) λp g S=> ?_
   .rw[pick,<-List.map_take];exact lP.2 ⟨j,b1,rfl⟩
   .obtain⟨j',a8,rfl⟩:=lP.1 (qf g);exact ahF hd ⟨z j' a8,_,G j' (z j' a8),S⟩ A
  .intro x hx;rcases nf k b.length with J|J
   .have lL:b[k]?=some i:=by rw[qa J] at v;exact v
    have a9:i∈b:=be lL;have mU:(pick l (b++q)).take k=(pick l b).take k:=by rw[W,List.take_append_of_le_length (by simp[pick];omega)]
    have hy:=hV k (i,l.getD i default) (by simp[pick,lL]);rw[mU,a7 _ λp g=>a2 p (qf g),D i a9];intro mq O b7 Qx hQ;have aH:ahD (l.getD i default).op=true:=jp.1 ao i a9;have I:=λy hy hl aR=>hQ (V i) y hy hl aR rfl;unfold wpList;rcases hy with⟨hw,hq⟩|⟨hw,hq⟩
    .rw[dl hw];refine .inl ?_;have s:=hq (to x) ⟨x,rfl⟩;unfold Oper.quietAt at s;unfold Oper.wp;cases C:(execOp (fe V a (List.take k (pick l b))).eval (l.getD i default)).run P (to x) with
     |ok nx w'=>
      rw[C] at s;cases nx<;>simp only[Oper.quietUpon] at s
      case value u=>
       obtain⟨rfl,rfl⟩:=s;exact I x (Y x) (bh.down _ _ O) λ_ _ _ h=>h
      case skip=>
       obtain⟨rfl,h2⟩:=s;show Qx .normal _ _;rw[<-h2];exact I x (Y x) (bh.down _ _ O) λ_ _ _ h=>h
      case enter f args=>exact absurd C (ahE aH)
     |halt c w'=>
      rw[C] at s;simp only[Oper.quietUpon] at s
    .rw[bd (by rw[hw];exact pG)];have:=I x (Y x) (bh.down _ _ O) λ_ _ _ h=>h;rw[hq] at this;exact this
   .have fU:q[k-b.length]?=some i:=by rw[pL J] at v;exact v
    have mU:(pick l (b++q)).take k=pick l b++(pick l q).take (k-b.length):=by
     rw[W,List.take_append,nq (by simp[pick];omega)];simp[pick]
    rw[mU,ac9,a7 _ a2];exact hg (k-b.length) (i,l.getD i default) (by simp[pick,fU]) x hx
 case fin=>
  intro U hU x hx;obtain⟨_,hf⟩:=oP (n:=n) (T:=T) (U:=U) hU _ _ _ _ N Z (λp g=>by
   obtain⟨j,A,rfl⟩:=lP.1 g;exact z j (qM _ A)) (λp g=>by cases g)
  have s:=hf x hx;rw[W,ac9,mC (U:=U) (V:=V) (pick l b) a λp g=>by
   obtain⟨j,A,rfl⟩:=lP.1 g;exact hU _ _ (D j A)]
  simpa using s
def aeV {l:List Oper}  (to:X->World) (le:X->X->Prop) (f:∀x,le x x) (n:Nat) (e c:List Nat) (p:P.follows .mixedOrders=true) (r:alC l n e c=true) (g:afJ l.toArray n T.tmps.size=true)
  (a:X) (b:∀m,m<=n->bh.live m a) (d:∀i,i<n->bh.pend i a) (k:to a=w.drew)
  (h:wpQuiet P l.toArray (λj=>∃x,j=to x) (λq=>∃o,eu P l.toArray to le (wpList P l.toArray Q (l.drop n)) (pick l c) [] o q) ((pick l e).map (·.2)) T):(Code.region Z l.toArray true).wp P Q T w:=
 wp_region_any p (ajy to le f n e c r g a b d k h)
end
end
section
variable {β:Bool}
open Go.RowKit
def oQ(b:Below w.heap.size w w')(h:w.cell? p=some v):w'.cell? p=some v:=by
 refine(b.cell (p:=p) ?_).trans h;rcases nf p.block w.heap.size with a|c
 .exact a
 .simp[World.cell?,pH c] at h
def jK{a : World}(h:Below a.heap.size a w)(o:Obj):Below a.heap.size a (w.alloc o):=h.alloc h.size o
def oT(h:gi w g t cs)(o:Obj):gi (w.alloc o) g t cs:=(rH w o g h.lt).trans h
def ahJ(h:gi w g t cs)(u:Value)(a:g≠p.block):gi (w.setCell p u) g t cs:=(mc w p u g a).trans h
def kW(h:gi w g t cs)(b:gq S w w')(a:¬S g):gi w' g t cs:=(b.block g h.lt a).trans h
def aJ(w:World)(o:Obj):Below w.heap.size w (w.alloc o):=(db _ _).alloc (am _) _
def fA(h:w.alloc (.cells cs t)=x):Below w.heap.size w x/\w.heap.size+1<=x.heap.size/\gi x w.heap.size t cs/\(∀i,x.cell? ⟨w.heap.size,i,none⟩=cs[i]?)/\∀i,x.frozen? ⟨w.heap.size,i,none⟩=false:=by
 subst h;have k:=gi.new w t cs;exact⟨aJ _ _,by simp,k,k.cell,k.frozen⟩
def nh{u : TypeId}(h:(w.alloc (.cells cs t)).alloc (.cells R u)=x):Below w.heap.size w x/\w.heap.size+2<=x.heap.size/\gi x w.heap.size t cs/\(∀i,x.cell? ⟨w.heap.size,i,none⟩=cs[i]?)/\(∀i,x.frozen? ⟨w.heap.size,i,none⟩=false)/\
  gi x (w.heap.size+1) u R/\(∀i,x.cell? ⟨w.heap.size+1,i,none⟩=R[i]?)/\∀i,x.frozen? ⟨w.heap.size+1,i,none⟩=false:=by
 obtain⟨e,a,d,b,c⟩:=fA h;have k:=oT (gi.new w t cs) (.cells R u);rw[h] at k;simp only[pa] at a d b c;exact⟨h▸jK (aJ _ _) _,a,k,k.cell,k.frozen,d,b,c⟩
def arP{u v : TypeId}(h:((w.alloc (.cells cs t)).alloc (.cells R u)).alloc (.cells es v)=x):Below w.heap.size w x/\w.heap.size+3<=x.heap.size/\gi x w.heap.size t cs/\(∀i,x.cell? ⟨w.heap.size,i,none⟩=cs[i]?)/\(∀i,x.frozen? ⟨w.heap.size,i,none⟩=false)/\
  gi x (w.heap.size+1) u R/\(∀i,x.cell? ⟨w.heap.size+1,i,none⟩=R[i]?)/\(∀i,x.frozen? ⟨w.heap.size+1,i,none⟩=false)/\gi x (w.heap.size+1+1) v es/\(∀i,x.cell? ⟨w.heap.size+1+1,i,none⟩=es[i]?)/\∀i,x.frozen? ⟨w.heap.size+1+1,i,none⟩=false:=by
 obtain⟨e,a,d,b,c⟩:=fA h;have k:=oT (oT (gi.new w t cs) (.cells R u)) (.cells es v);have l:=oT (gi.new (w.alloc (.cells cs t)) u R) (.cells es v);rw[h] at k l;simp only[pa] at a d b c l;exact⟨h▸jK (jK (aJ _ _) _) _,a,k,k.cell,k.frozen,l,l.cell,l.frozen,d,b,c⟩
structure dA (w:World) where
 to:World
 ok:Below w.heap.size w to
instance auB(w:World):Nonempty (dA w):=⟨⟨w,db _ _⟩⟩
def ag(h:w.cell? p=some v):∀x:dA w,x.to.cell? p=some v:=λx=>oQ x.ok h
def az {id:Nat}   {l:List Oper} (c:P.follows .mixedOrders=true) (e:Region.lexB .any l.toArray=true)
  (h:wpQuiet P l.toArray (λb=>∃x:dA w,b=x.to) (λd=>∀b,(∃x:dA w,b=x.to)->Q .normal d b) l a):(Code.region id l.toArray true).wp P Q a w:=
 wp_region_quiet (C:=λb=>∃x:dA w,b=x.to) c e ⟨⟨w.drew,⟨rfl,rfl,rfl,am _,λ_ _=>rfl⟩⟩,rfl⟩ (by simpa using h)
def aF(h:∃x:dA w,w'=x.to):Below w.heap.size w w':=by
 obtain⟨x,rfl⟩:=h;exact x.ok
def aL  {args:Array Value} {x:dA w} 
  (h:Calls P f args x.to λe b=>e=.returned v/\Below x.to.heap.size x.to b):Calls P f args x.to λe a=>e=.returned v/\∃y:dA w,a=y.to:=
 h.mono λ_ c ⟨he,hb⟩=>⟨he,⟨⟨c,x.ok.trans (hb.mono x.ok.size)⟩,rfl⟩⟩
def dh  {args:Array Value} {x:dA w} 
  (h:Calls P f args x.to λe b=>e=.returned v/\x.to=b):Calls P f args x.to λe a=>e=.returned v/\∃y:dA w,a=y.to:=
 h.mono λ_ _ ⟨he,hb⟩=>⟨he,⟨x,hb.symm⟩⟩
instance axo(w:World):bh (dA w):=⟨λ_ _=>True,λ_ _ _=>trivial,λ_ _=>True⟩
def dA.le{w:World}(x y:dA w):Prop:=Below x.to.heap.size x.to y.to
def dA.le_refl(x:dA w):dA.le x x:=db _ _
def dA.mk'{w:World}(x:dA w){w':World}(h:Below x.to.heap.size x.to w'):dA w:=⟨w',x.ok.trans (h.mono x.ok.size)⟩
def fI   {l:List Oper}  (n:Nat) (a b:List Nat) (d:P.follows .mixedOrders=true:=by kernel_rfl) (g:alC l n a b=true:=by kernel_rfl) (c:afJ l.toArray n T.tmps.size=true:=by kernel_rfl)
  (h:wpQuiet P l.toArray (λe=>∃x:dA w,e=x.to) (λf=>∃i:List (iA (dA w)),eu P l.toArray (dA.to (w:=w)) (dA.le (w:=w)) (wpList P l.toArray Q (l.drop n)) (pick l b) [] i f) ((pick l a).map (·.2)) T):(Code.region Z l.toArray true).wp P Q T w:=
 aeV (dA.to (w:=w)) (dA.le (w:=w)) dA.le_refl n a b d g c ⟨w.drew,⟨rfl,rfl,rfl,am _,λ_ _=>rfl⟩⟩ (λ_ _=>trivial) (λ_ _=>trivial) rfl h
section
variable {P:Program} {ops:Array Oper} {w:World} {Qt:Act->World->Prop} {i:Nat} {o:Oper} {l:List (Nat×Oper)} {F:List (Nat×(dA w->Prop))} {Rs:List (iA (dA w))} {a:Act}
def ajz (R:Value->World->Prop) (f:o.dst.isSome=true) (j:∀v x y,R v x->Below x.heap.size x y->R v y)
  (q:∀x:dA w,aeS F o x->∀b:Exit->Act->World->Prop,(∀v c,Below x.to.heap.size x.to c->R v c->b .normal (a.put o.dst v) c)->wpList P ops b [o] a x.to)
  (g:∀v,eu P ops (dA.to (w:=w)) (dA.le (w:=w)) Qt l ((i,λx=>R v x.to)::F) Rs (a.put o.dst v)):eu P ops (dA.to (w:=w)) (dA.le (w:=w)) Qt ((i,o)::l) F (.any (λv x=>R v x.to)::Rs) a:=
 ahH (X:=dA w) (to:=dA.to (w:=w)) (le:=dA.le (w:=w)) (λv x=>R v x.to) (.inl f) (λv x y h d=>j v x.to y.to h d) (λx n m _ _ b k=>q x n b λv c e p=>k v (x.mk' e) e trivial (λ_ _ _ _=>trivial) p) g
def ajA (c:Value)
  (g:∀x:dA w,aeS F o x->∀b:Exit->Act->World->Prop,(∀d,Below x.to.heap.size x.to d->b .normal (a.put o.dst c) d)->wpList P ops b [o] a x.to)
  (f:eu P ops (dA.to (w:=w)) (dA.le (w:=w)) Qt l F Rs (a.put o.dst c)):eu P ops (dA.to (w:=w)) (dA.le (w:=w)) Qt ((i,o)::l) F (.fix c::Rs) a:=
 anD (X:=dA w) (to:=dA.to (w:=w)) (le:=dA.le (w:=w)) c (λx k m _ _ b j=>g x k b λd e=>j (x.mk' e) e trivial λ_ _ _ _=>trivial) f
def kr(h:∀b,Below w.heap.size w b->∀x:dA w,x.to=b->acz F x->Qt a b):eu P ops (dA.to (w:=w)) (dA.le (w:=w)) Qt [] F [] a:=
 anC (X:=dA w) (to:=dA.to (w:=w)) (le:=dA.le (w:=w)) λx c=>h x.to x.ok x rfl c
end
def ajB(base:Nat)(e:TypeId)(v:Value)(w:World):Prop:=∃g,v=.slice (some ⟨g,0,none⟩) 0 0/\base<=g/\gi w g e #[]
def ajB.own{base:Nat}(h:ajB base e v w)(b:Nat):w.ownsRow base e b v 0 []:=by
 obtain⟨g,rfl,c,a⟩:=h;exact⟨by simp,.inr ⟨g,0,#[],rfl,c,a,am _,by unfold maxLen;omega,by simp,by simp⟩⟩
def ar(h:gi w g t cs)(a:Below w.heap.size w w'):gi w' g t cs:=(a.block g h.lt).trans h
def ajB.new(w:World){base:Nat}(e:TypeId)(a:base<=w.heap.size):ajB base e (.slice (some ⟨w.heap.size,0,none⟩) 0 0) (w.alloc (.cells #[] e)):=⟨_,rfl,a,gi.new _ _ _⟩
def alD(base:Nat)(e:TypeId)(es:Array Value)(v:Value)(w:World):Prop:=∃g,v=.slice (some ⟨g,0,none⟩) 1 1/\base<=g/\gi w g e es
def alD.keep{base:Nat}(h:alD base e es v w)(c:Below w.heap.size w w'):alD base e es v w':=by
 obtain⟨g,rfl,b,a⟩:=h;exact⟨g,rfl,b,ar a c⟩
def alD.new(w:World){base:Nat}(e:TypeId)(es:Array Value)(a:base<=w.heap.size):alD base e es (.slice (some ⟨w.heap.size,0,none⟩) 1 1) (w.alloc (.cells es e)):=⟨_,rfl,a,gi.new _ _ _⟩
end
section
variable {β:Bool}
open Go.RowKit
structure Flat (α:Type) where
 sz:Nat
 cells:α->List Value
 good:α->Prop
 len:∀x,(cells x).length=sz
 one:∀x,∀u∈cells x,u.oneCell'=true
 pos:0<sz
def cD{α:Type}(F:Flat α):fq α:=λ_ _ _ x a=>a=F.cells x/\F.good x
section
variable {α:Type} (F:Flat α)
def cD.loc:Lcy (cD F):=⟨λ_ _ _ h=>h⟩
def dB(xs:List α):List Value:=xs.flatMap F.cells
def mD(xs a:List α):dB F (xs++a)=dB F xs++dB F a:=qI
def aeW(x:α):dB F [x]=F.cells x:=by simp[dB]
def eT:∀a:List α,(dB F a).length=a.length*F.sz
 |[]=>by simp[dB]
 |x::a=>by
  show(F.cells x++dB F a).length=_;rw[ge,eT a,F.len,mp,so,Nat.add_comm]
def gU:∀(a:List α) (i j:Nat) (x:α) (u:Value),a[i]?=some x->(F.cells x)[j]?=some u->(dB F a)[i*F.sz+j]?=some u
 |[],i,j,x,u,h,_=>by simp at h
 |g::a,i,j,x,u,h,hj=>by
  have b:=aI hj;rw[F.len] at b;show(F.cells g++dB F a)[i*F.sz+j]?=some u;cases i with
  |zero=>
   simp at h;subst h;rw[qa (by rw[F.len,sj,ph];exact b),sj,ph];exact hj
  |succ i=>
   have e:(i+1)*F.sz+j=F.sz+(i*F.sz+j):=by rw[so];omega
   rw[e,pL (by rw[F.len];omega),F.len,rE];exact gU a i j x u (by simpa using h) hj
def ao6{xs:List α}(h:(dB F xs)[j]?=some u):∃x,xs[j / F.sz]?=some x/\(F.cells x)[j % F.sz]?=some u:=by
 have a:=aI h;rw[eT] at a;have d:j / F.sz<xs.length:=Nat.div_lt_of_lt_mul (by rw[uK];exact a);refine⟨xs[j / F.sz],jn d, ?_⟩;have b:j % F.sz<(F.cells xs[j / F.sz]).length:=by rw[F.len];exact Nat.mod_lt _ F.pos
 have c:=gU F xs (j / F.sz) (j % F.sz) xs[j / F.sz] _ (jn d) (jn b);rw[Nat.div_add_mod'] at c;rw[jn b,<-c,h]
def acA(xs:List α):∀u∈dB F xs,u.oneCell'=true:=by
 intro u a;obtain⟨g,_,b⟩:=pb.1 a;exact F.one g u b
def aS(e:TypeId)(w:World)(base:Nat)(v:Value)(xs:List α):Prop:=w.ownsRow base e F.sz v xs.length (dB F xs)
variable {F}
def aS.sl{base : Nat}{xs:List α}(h:aS F e w base v xs)(c:∀x∈xs,F.good x)(a:w.heap.size<=Z):aY (cD F) F.sz w base Z xs [v]:=
 arH h a λi x Z=>⟨F.cells x,F.len x,⟨rfl,c x (be Z)⟩,λ_ _ b=>gU F xs i _ x _ Z b⟩
def ajC{base : Nat}(h:w.ownsRow base e X v n Y)(d:Z<=base):w.ownsRow Z e X v n Y:=by
 refine⟨h.1, ?_⟩;rcases h.2 with f|⟨g,cap,b,rfl,c,a⟩
 .exact .inl f
 .exact .inr ⟨g,cap,b,rfl,ap d c,a⟩
def aS.base{base : Nat}{xs:List α}(h:aS F e w base v xs)(a:Z<=base):aS F e w Z v xs:=ajC h a
def aS.nil(e:TypeId)(w:World)(base:Nat):aS F e w base (.slice none 0 0) []:=uy _ _ _ _
def aS.aeQ{base:Nat}(h:ajB base e v w):aS F e w base v []:=h.own F.sz
def aS.below{base:Nat}{xs:List α}(h:aS F e w base v xs)(a:Below w.heap.size w w'):aS F e w' base v xs:=aeN h a
def aS.chg{base:Nat}{xs:List α}(h:aS F e w base v xs)(c:gq S w w')(a:∀b,v.ownBlock=some b->¬S b):aS F e w' base v xs:=anu h c a
def aS.at_{base:Nat}{xs:List α}(h:aS F e w base v xs)(a:v.ownBlock=some g):base<=g/\g<w.heap.size:=h.lt g a
def ao7{base : Nat}{e' : TypeId}{v' : Value}{cs : List Value}(h:w.ownsRow base e X v n cs)(m:w.ownsRow Z e' N v' c Y)(o:e≠e'):∀b,v.ownBlock=some b->v'.ownBlock≠some b:=by
 intro b f a;rcases h.2 with⟨rfl,_⟩|⟨g,cap,l,rfl,_,j,_⟩
 .simp[Value.ownBlock] at f
 .rcases m.2 with⟨rfl,_⟩|⟨p,i,k,rfl,_,d,_⟩
  .simp[Value.ownBlock] at a
  .simp[Value.ownBlock] at f a;rw[f] at j;rw[a,j] at d;simp at d;exact o d.2
def aS.form{base:Nat}{xs:List α}(h:aS F e w base v xs):∃A c,v=.slice A xs.length c:=lY h
def agv:∀(a:List α) (i j:Nat) (x y:α) (u:Value),a[i]?=some x->j<F.sz->F.cells y=(F.cells x).set j u->dB F (a.set i y)=(dB F a).set (i*F.sz+j) u
 |[],i,j,x,y,u,h,_,_=>by simp at h
 |z::a,0,j,x,y,u,h,hj,hy=>by
  simp at h;subst h;show F.cells y++dB F a=(F.cells z++dB F a).set (0*F.sz+j) u
  rw[sj,ph,List.set_append_left _ _ (by rw[F.len];exact hj),hy]
 |z::a,i+1,j,x,y,u,h,hj,hy=>by
  show F.cells z++dB F (a.set i y)=(F.cells z++dB F a).set ((i+1)*F.sz+j) u
  have e:(i+1)*F.sz+j=F.sz+(i*F.sz+j):=by rw[so];omega
  rw[e,uZ _ _ (by rw[F.len];omega),F.len,rE,agv a i j x y u (by simpa using h) hj hy]
def aS.put{base cap : Nat}{xs:List α}(h:aS F e w base (.slice (some ⟨g,0,none⟩) xs.length cap) xs){x y:α}(c:xs[i]?=some x)(a:j<F.sz)(b:F.cells y=(F.cells x).set j u) :
  aS F e (w.setCell ⟨g,i*F.sz+j,none⟩ u) base (.slice (some ⟨g,0,none⟩) xs.length cap) (xs.set i y):=by
 unfold aS;rw[agv xs i j x y u c a b,qZ];exact(h.stored _ u).1
def aS.cell{base cap : Nat}{xs:List α}(h:aS F e w base (.slice (some ⟨g,0,none⟩) xs.length cap) xs){x:α}(b:xs[i]?=some x)(a:(F.cells x)[j]?=some u):w.cell? ⟨g,i*F.sz+j,none⟩=some u:=by
 have c:=aI a;rw[F.len] at c;have d:=aI b;have f:(i+1)*F.sz<=xs.length*F.sz:=rq _ d;rw[so] at f;rw[h.cellAt _ (by omega)];exact gU F xs i j x u b a
def aS.frozen{base cap : Nat}{xs:List α}(h:aS F e w base (.slice (some ⟨g,0,none⟩) n cap) xs)(a:n=xs.length)(j:Nat):w.frozen? ⟨g,j,none⟩=false:=by
 subst a;exact h.frozenAt j
def arQ{xs:List α}(h:aY (cD F) F.sz w Z X xs [.slice A n c])(t:X<=w.heap.size) :
  0<xs.length->∃a,A=some a/\∀(j:Nat) (u:Value),(dB F xs)[j]?=some u->∀g,Below w.heap.size w g->g.cell? (a.add j)=some u:=by
 intro k;obtain⟨x,p⟩:=aq k;obtain⟨b,d,_,rfl,_⟩:=h.at_ p;refine⟨_,rfl,λj u m g o=> ?_⟩;obtain⟨y,l,i⟩:=ao6 F m;obtain⟨s,v,r,e,_,_,_,⟨rfl,_⟩,q⟩:=h.at_ l;simp only[lw,pM,qh] at e;obtain⟨rfl,rfl⟩:=e;have f:(⟨b,d,none⟩:Addr).add j=⟨b,d+j,none⟩:=by unfold Addr.add;split<;>simp_all
 rw[f];have:=q _ _ i;rw[tP,Nat.div_add_mod'] at this;exact oQ o this
def aY.good{xs:List α}{cs:List Value}(h:aY (cD F) F.sz w Z X xs cs):∀x∈xs,F.good x:=λx b=>by
 obtain⟨c,a⟩:=h.atk x b;exact a.2
end
def fW:Flat Int:=⟨1,λx=>[.int .i64 x],dJ,λ_=>rfl,λx u a=>by rw[ga.1 a];rfl,by decide⟩
def jR(xs:List Int):dB fW xs=xs.map (Value.int .i64):=by
 induction xs with
 |nil=>rfl
 |cons x xs a=>show Value.int .i64 x::dB fW xs=_;rw[a];rfl
def arR{base:Nat}{xs:List Int}:aeP w base v xs↔aS fW 3 w base v xs:=by
 unfold aeP aS;rw[jR];exact Iff.rfl
section
variable {P:Program}
variable {α:Type} {F:Flat α}
def ku      (j:o.guard=none) (s x:Operand) (t:TypeId)
  (n:o.op=.call ⟨.builtin .append,#[s,x],#[t,t]⟩)
  (m:aaP P t e F.sz Z) {base:Nat} {xs:List α} (y:α) (p:a.eval s=v) (f:aS F e w base v xs) {T:TypeId} (q:a.eval x=.slice (some ⟨w.heap.size,0,none⟩) 1 1) (d:es.toList=F.cells y)
  (r:xs.length<=1099511627775) (c:base<=w.heap.size)
  (h:∀i g,aS F e g base i (xs++[y])->gq (λb=>v.ownBlock=some b) w g->(∀b,i.ownBlock=some b->v.ownBlock=some b\/w.heap.size<=b)->wpList P U Q rest (a.put o.dst i) g) :
  wpList P U Q (o::rest) a (w.alloc (.cells es T)):=
 anv j s x t n m p f q (by rw[<-qJ,d,F.len]) (by rw[d];exact F.one y) r c λi g k=>h i g (by
  have l:=k.own;unfold aS;rw[mD,aeW,ge];rw[d] at l;exact l) k.chg k.at_
def agw      (k:o.guard=none) (s x:Operand) (t:TypeId)
  (r:o.op=.call ⟨.builtin .append,#[s,x],#[t,t]⟩)
  (q:aaP P t e F.sz Z) {base:Nat} {xs:List α} (y:α) (B:a.eval s=v) (d:aS F e w base v xs)  {T:TypeId} (C:a.eval x=.slice (some ⟨g,0,none⟩) 1 1) (p:gi w g T es) (n:es.toList=F.cells y)
  (D:xs.length<=1099511627775) (c:base<=w.heap.size)
  (h:∀i f,aS F e f base i (xs++[y])->gq (λb=>v.ownBlock=some b) w f->(∀b,i.ownBlock=some b->v.ownBlock=some b\/w.heap.size<=b)->wpList P U Q rest (a.put o.dst i) f) :
  wpList P U Q (o::rest) a w:=
 aeO k s x t r q B d C (news:=F.cells y) (by rw[F.len,Nat.one_mul]) (λ_=>⟨_,rfl,λj u z=>by
  have m:(⟨g,0,none⟩:Addr).add j=⟨g,j,none⟩:=by unfold Addr.add;split<;>simp_all
  rw[m,p.cell,<-ef,n];exact z⟩) (F.one y) (by omega) c λi f l=>h i f (by
  have A:=l.own;unfold aS;rw[mD,aeW,ge];exact A) l.chg l.at_
end
end
section
variable {β:Bool}
open Go.RowKit
def auC{α:Type}(F:Flat α)(te:TypeId)(w:World)(xs:List α)(e:Ending)(w':World):Prop:=∃v,e=.returned v/\aS F te w' w.heap.size v xs/\Below w.heap.size w w'
def jS (t e:TypeId) (z:Value) (f a:Nat) (j:P.underlying t=some (.slice e)) (c:(P.info? e).map (λi=>(i.zero,i.size,i.bytes))=some (some z,f,a))
  (n:Nat) (b:a*n<=281474976710656) (o:n<=9223372036854775807) (w:World) :
  (Instr.makeSlice t (.int .i64 (n:Int)) (.int .i64 (n:Int))).run P w=.ok (.slice (some ⟨w.heap.size,0,none⟩) n n) (w.alloc (.cells (madeCells z.cells (n*f)) e)):=by
 obtain⟨i,m,p,l,k⟩:=info_parts c;have d:(i.bytes:Int)*(n:Int)<=281474976710656:=by
  have h:((i.bytes*n:Nat):Int)<=281474976710656:=by rw[k];omega
  rwa [Int.natCast_mul] at h
 have g:=run_make (P:=P) w t e i z j m p .i64 .i64 n n (by omega) (uq _) d (by omega);simp only[rU,l] at g;exact g
def Pre.own{F:Flat W}{base:Nat}(h:Pre w g e (xs.length*F.sz) (dB F xs))(k:base<=g)(c:xs.length<=maxLen):aS F e w base (.slice (some ⟨g,0,none⟩) xs.length xs.length) xs:=by
 obtain⟨f,d,i,l⟩:=h;refine⟨eT F xs,.inr ⟨g,xs.length,f,rfl,k,d,am _,c,i, ?_⟩⟩;apply tJ;intro j;rw[qB];by_cases b:j<xs.length*F.sz
 .rw[dl b];have a:j<(dB F xs).length:=by rw[eT];exact b
  rw[jn a,<-l j _ (jn a)];simp
 .rw[bd b,qN (by rw[eT];omega)]
end
section
variable {β:Bool}
open Go.RowKit
open Classical in
noncomputable def dC(key:Int)(x:Int×ByteArray):ByteArray×Bool:=if(dN x.2).2=true/\cq key (bs (dN x.2).1)=x.1 then((dN x.2).1,true) else(⟨#[]⟩,false)
def agx(h:(dN s).2=true):aZ (bs (dN s).1):=by
 unfold dN at h ⊢;split
 .rename_i a;exact a.1
 .rename_i a;rw[bd a] at h;cases h
def anE(key:Int)(x:Int×ByteArray)(v:1<=key/\key<=99)(i:x.2.size<=maxLen)(w:World) :
  Calls (ah β) 110 #[.agg #[.int .i64 x.1,.string x.2],.int .i64 key] w λe q=>e=.returned (.tuple #[.string (dC key x).1,.bool (dC key x).2])/\Below w.heap.size w q:=by
 obtain⟨n,s⟩:=x;dsimp only at i ⊢;replace i:=ab i;go_enter yR,ntmps110;go_wp2;generalize l:w.alloc (.cells #[.int .i64 n,.string s] 83)=w0 at *;obtain⟨u,z,j,t,y⟩:=fA l;clear l;refine(aoY s i.out w0).mono ?_;rintro e m ⟨rfl,d⟩;replace j:=ar j d;replace t:=j.cell;replace y:=j.frozen;replace d:=ae u d;cases b:dN s with
 |mk p o=>
  cases o with
  |false=>
   have f:dC key (n,s)=(⟨#[]⟩,false):=by
    unfold dC;rw[bd];intro h;have:=h.1;rw[show(dN (n,s).2).2=false by rw[show dN (n,s).2=_ from b]] at this;cases this
   have HC:=ab f;clear f;replace b:=ab b;go_wp2;go_ret2;rw[HC.out];exact⟨rfl,d⟩
  |true=>
   have k:aZ (bs p):=by
    have:=agx (s:=s) (by rw[b]);rw[b] at this;exact this
   have f:dC key (n,s)=if cq key (bs p)=n then(p,true) else(⟨#[]⟩,false):=by
    unfold dC;rw[show dN (n,s).2=(p,true) from b];by_cases h:cq key (bs p)=n
    .rw[dl ⟨rfl,h⟩,dl h]
    .rw[bd λr=>h r.2,bd h]
   have HC:=ab f;clear f;replace b:=ab b;replace k:=ab k;go_wp2;refine(arC key p n v k.out m).mono ?_;rintro e A ⟨rfl,rfl⟩;by_cases h:cq key (bs p)=n
   .have a:=HC.out;rw[dl h] at a;have c:=ab a;clear a HC;have g:decide (cq key (bs p)=n)=true:=dq h;rw[g];clear h g;go_wp2;go_ret2;rw[c.out];exact⟨rfl,d⟩
   .have a:=HC.out;rw[bd h] at a;have c:=ab a;clear a HC;have g:decide (cq key (bs p)=n)=false:=da h;rw[g];clear h g;go_wp2;go_ret2;rw[c.out];exact⟨rfl,d⟩
end
section
variable {β:Bool}
open Go.RowKit
def oU(xs:List Int)(n:Int)(A:Option Addr)(m c:Nat)(w:World)(r p:Nat)(h:aY bz 1 w r p xs [.slice A m c]) :
  Calls (ah β) 15 #[.slice A m c,.int .i64 n] w λe o=>e=.returned (.bool (decide (n∈xs)))/\w=o:=by
 obtain⟨rfl,t,q⟩:=h.len_;unfold maxLen at q;go_enter zS,ntmps15;go_wp2
 go_loop [5] (λi=>∃k:Nat,k<=xs.length/\i=.int .i64 k/\n∉xs.take k) (λi=>xs.length-(intOf i).toNat)
 case atStart=>exact⟨0,du _,rfl,by simp⟩
 case round=>
  obtain⟨k,s,rfl,d⟩:=hrel;replace d:=ab d;by_cases f:k<xs.length
  .obtain⟨x,a⟩:=aq f;obtain⟨b,l,rfl,_,_,_,g⟩:=h.ints_at a;replace a:=ab a;by_cases j:x=n
   .subst j;go_wp2;go_ret;exact⟨ak (by simp[be a.out]),rfl⟩
   .go_wp2
    go_round
    case rel=>exact⟨k+1,by omega,by go_num,by rw[gn a.out];simp[d.out,sb j]⟩
    simp[intOf];omega
  .obtain rfl:k=xs.length:=by omega
   go_wp2;go_ret;exact⟨ak (by have:=d.out;rw[dk] at this;simp[this]),rfl⟩
def vp{α:Type}(p:α->Bool)(xs:List α):Int:=match xs.findIdx? p with|some i=>(i:Int)|none=> -1
def auD{p:W->Bool}{x:W}(b:xs[k]?=some x)(g:p x=true)(c:∀y∈xs.take k,p y=false):vp p xs=(k:Int):=by
 have:xs.findIdx? p=some k:=by
  induction xs generalizing k with
  |nil=>simp at b
  |cons a t d=>
   cases k with
   |zero=>simp at b;subst b;simp[List.findIdx?_cons,g]
   |succ k=>
    have e:p a=false:=c a (by simp);rw[List.findIdx?_cons,e];have:=d (by simpa using b) (λy f=>c y (by simp[f]));simp[this]
 unfold vp;rw[this]
def arS{p:W->Bool}(a:∀y∈xs,p y=false):vp p xs=-1:=by
 have:xs.findIdx? p=none:=by rw[uE];exact a
 unfold vp;rw[this]
def auE(p:W->Bool)(xs:List W):decide (0<=vp p xs)=xs.any p:=by
 unfold vp;cases h:xs.findIdx? p with
 |none=>
  rw[uE] at h;have:xs.any p=false:=by rw[List.any_eq_false];intro x a;simp[h x a]
  rw[this];rfl
 |some i=>
  have a:=List.findIdx?_eq_some_iff_getElem.1 h;obtain⟨c,b,_⟩:=a;have:xs.any p=true:=by rw[tW];exact⟨xs[i],List.getElem_mem _,b⟩
  rw[this];simp
def ajD(F:FuncId):Prop:=∀(args:Array Value) (w:World),(callFunc F args).run (ah β) w=.ok (.enter F args) w
def arT{fn:Func}{c:Code}(b:(ah β).funcs[f]?=some fn)(a:(fn.name == "runtime.NumGoroutine")=false)(e:fn.body=some c):ajD (β:=β) f:=by
 intro args w;have d:fn.name ≠ "runtime.NumGoroutine" :=by simpa using a
 simp[callFunc,b,d,e]
def afK (F:Nat) (q:Array Value) (p:Int->Bool) (xs:List Int) (A:Option Addr) (m c:Nat) (w:World) (v t:Nat) (h:aY bz 1 w v t xs [.slice A m c]) (r:ajD (β:=β) F)
  (l:∀x∈xs,Calls (ah β) F (#[.int .i64 x]++q) w λe g=>e=.returned (.bool (p x))/\w=g) :
  Calls (ah β) 51 #[.slice A m c,.func (.func F) #[] q] w λe g=>e=.returned (.int .i64 (vp p xs))/\w=g:=by
 obtain⟨rfl,B,u⟩:=h.len_;unfold maxLen at u;replace l:=ab l;go_enter zw,ntmps51;go_wp2
 go_loop [8] (λi=>∃k:Nat,k<=xs.length/\i=.int .i64 k/\∀y∈xs.take k,p y=false) (λi=>xs.length-(intOf i).toNat)
 case atStart=>exact⟨0,du _,rfl,by simp⟩
 case round=>
  obtain⟨k,z,rfl,j⟩:=hrel;replace j:=ab j;by_cases n:k<xs.length
  .obtain⟨x,d⟩:=aq n;obtain⟨b,s,rfl,_,_,_,o⟩:=h.ints_at d;replace d:=ab d;have C:=r (#[.int .i64 x]++q) w;cases a:p x
   .replace a:=ab a;go_wp2;refine(l.out x (be d.out)).mono ?_;rintro e g ⟨rfl,rfl⟩;rw[a.out];go_wp2
    go_round
    case rel=>
     refine⟨k+1,by omega,by go_num,λy f=> ?_⟩;rw[gn d.out,gt] at f;rcases f with f|f
     .exact j.out y f
     .rw[ga.1 f];exact a.out
    case measure=>simp[intOf];omega
   .replace a:=ab a;go_wp2;refine(l.out x (be d.out)).mono ?_;rintro e g ⟨rfl,rfl⟩;rw[a.out];go_wp2;go_ret;exact⟨eJ (auD d.out a.out j.out).symm,rfl⟩
  .obtain rfl:k=xs.length:=by omega
   go_wp2;go_ret;exact⟨eJ (by have:=j.out;rw[dk] at this;exact(arS this).symm),rfl⟩
def acB (F:Nat) (d:Array Value) (p:Int->Bool) (xs:List Int) (A:Option Addr) (m c:Nat) (w:World) (i f:Nat) (h:aY bz 1 w i f xs [.slice A m c]) (j:ajD (β:=β) F)
  (b:∀x∈xs,Calls (ah β) F (#[.int .i64 x]++d) w λe a=>e=.returned (.bool (p x))/\w=a) :
  Calls (ah β) 21 #[.slice A m c,.func (.func F) #[] d] w λe a=>e=.returned (.bool (xs.any p))/\w=a:=by
 replace b:=ab b;have g:=ab (auE p xs);go_enter zN,ntmps21;go_wp2;refine(afK F d p xs _ _ _ _ _ _ h j b.out).mono ?_;rintro e a ⟨rfl,rfl⟩;go_wp2;go_ret;exact⟨ak g.out,rfl⟩
def ajE:((ah β).info? 3).map (λi=>(i.zero,i.size,i.bytes))=some (some (.int .i64 0),1,8):=by kernel_rfl
def aeX(xs:List Int)(v:Value)(w:World)(y q:Nat)(h:aY bz 1 w y q xs [v])(C:q<=w.heap.size)(D:xs.length<=1048576) :
  Calls (ah β) 18 #[v] w (am0 bz 1 w xs):=by
 obtain⟨A,c,rfl⟩:=h.form;have m:=ab h.afB;have s:=Go.run_make_row' (P:=(ah β)) 27 3 (.int .i64 0) 8 vO ajE rfl .i64 .i64 xs.length (by omega) (by omega) w;go_enter xD,ntmps18;go_wp2;go_loopw [4] (λi wr=>∃k:Nat,k<=xs.length/\i=.int .i64 k/\Pre wr w.heap.size 3 xs.length ((xs.take k).map (Value.int .i64))/\Below w.heap.size w wr) (λi _=>xs.length-(intOf i).toNat)
 case atStart=>
  refine⟨0,du _,rfl, ?_,(db _ _).alloc (am _) _⟩;have:=Pre.new w 3 (madeCells #[.int .i64 0] xs.length);rw[rj] at this;exact this
 case round=>
  obtain⟨k,B,rfl,d,j⟩:=hrel;by_cases e:k<xs.length
  .obtain⟨x,g⟩:=aq e;obtain⟨b,f,rfl,_,z,_,o⟩:=h.ints_at g;have l:wr.cell? ⟨b,f+k,none⟩=some (.int .i64 x):=(j.cell (p:=⟨b,f+k,none⟩) (by show b<_;omega)).trans o;obtain⟨u,n⟩:=d.there e;have t:=d.frozen k;have r:=d.push (.int .i64 x) (by simp;omega);have a:((xs.take k).map (Value.int .i64)).length=k:=by simp;omega
   rw[a,<-List.map_singleton,<-oR,<-gn g] at r;replace g:=ab g;replace a:=ab a;clear o;go_wp2;go_roundw
   case rel=>exact⟨k+1,by omega,by go_num,r,j.setCell (am _) _⟩
   simp[intOf];omega
  .obtain rfl:k=xs.length:=by omega
   rw[dk] at d;go_wp2;go_ret;exact⟨_,rfl,d.ints m.out (am _) d.lt (am _) (by unfold maxLen;omega),j⟩
def mE(xs f:List Int)(s t:Value)(w:World)(G E px hi':Nat)(p:aY bz 1 w G E xs [s])(r:aY bz 1 w px hi' f [t]) :
  Calls (ah β) 27 #[s,t] w λe v=>e=.returned (.bool (decide (xs=f)))/\∃n,v=w.drewN n:=by
 obtain⟨A,c,rfl⟩:=p.form;obtain⟨L,J,rfl⟩:=r.form;obtain⟨_,I,F⟩:=p.len_;unfold maxLen at F;by_cases a:xs.length=f.length
 .have B:((xs.length:Int) !=f.length)=false:=by rw[pu];omega
  replace a:=ab a;go_enter xA,ntmps27;go_wp2;go_loopw [5] (λi wr=>∃k:Nat,k<=xs.length/\i=.int .i64 k/\xs.take k=f.take k/\∃n,wr=w.drewN n) (λi _=>xs.length-(intOf i).toNat)
  case atStart=>exact⟨0,du _,rfl,rfl,0,rfl⟩
  case round=>
   obtain⟨k,H,rfl,m,n,rfl⟩:=hrel;replace m:=ab m;by_cases o:k<xs.length
   .obtain⟨x,g⟩:=aq o;obtain⟨y,j⟩:=aq (l:=f) (k:=k) (by have:=a.out;omega);obtain⟨b,C,rfl,_,_,_,q⟩:=p.ints_at g;obtain⟨K,M,rfl,_,_,_,D⟩:=r.ints_at j;have z:(k:Int)<(f.length:Int):=by have:=a.out;omega
    replace g:=ab g;replace j:=ab j;by_cases d:x=y
    .have u:(x !=y)=false:=by rw[pu];exact d
     replace d:=ab d;go_wp2
     go_quiet (fail)
     go_wp2;go_roundw
     case rel=>exact⟨k+1,by omega,by go_num,by rw[gn g.out,gn j.out,m.out,d.out],_,rfl⟩
     simp[intOf];omega
    .have u:(x !=y)=true:=by rw[qx];exact d
     replace d:=ab d;go_wp2
     go_quiet (fail)
     go_wp2;go_ret;exact⟨ak (by symm;rw[decide_eq_false_iff_not];rintro rfl;exact d.out (dj (g.out.symm.trans j.out))),by first|exact⟨_,rfl⟩|exact⟨_,World.drewN_drewN _ _ _⟩⟩
   .obtain rfl:k=xs.length:=by omega
    go_wp2;go_ret;exact⟨ak (by symm;rw[decide_eq_true_iff];have:=m.out;rw[dk,nq (by have:=a.out;omega)] at this;exact this),n,rfl⟩
 .have B:((xs.length:Int) !=f.length)=true:=by rw[qx];omega
  replace a:=ab a;go_enter xA,ntmps27;go_wp2;go_ret;exact⟨ak (by symm;simp;intro e;exact a.out (by rw[e])),0,rfl⟩
end
section
variable {β:Bool}
open Go.RowKit
def abQ{a:Addr}(h:w.cell? a=some v):a.spot=none:=by
 unfold World.cell? at h;split at h
 .split at h
  .cases h
  .rename_i b;cases c:a.spot with
   |none=>rfl
   |some x=>rw[c] at b;exact absurd rfl b
 .cases h
def ItL(w:World)(A:Option Addr)(l:List (Int×ByteArray)):Prop:=∀i x,l[i]?=some x->∃b a,A=some ⟨b,a,none⟩/\b<w.heap.size/\w.cell? ⟨b,a+i*2,none⟩=some (.int .i64 x.1)/\w.cell? ⟨b,a+i*2+1,none⟩=some (.string x.2)/\dJ x.1/\x.2.size<=maxLen
def ItL.of{l:List (Int×ByteArray)}(h:RdI w A 0 l):ItL w A l:=λi x k=>by
 obtain⟨e,j⟩:∃e,l[0]?=some e:=aq (by have:=aI k;omega);obtain⟨⟨p,m,f, -⟩, -, -⟩:=h 0 e j;obtain⟨⟨a,rfl,d,c⟩,o,q⟩:=h i x k;obtain rfl:=dj m;rw[ph] at d c;obtain⟨b,g,n⟩:=a;obtain rfl:n=none:=by
  have:=abQ f;unfold Addr.add at this;simpa using this
 rw[ir] at d c;rw[ir] at c;refine⟨b,g,rfl,eW d,d,c,o,by unfold maxLen;omega⟩
def ItL.below{l:List (Int×ByteArray)}(h:ItL w A l)(d:Below w.heap.size w w'):ItL w' A l:=λi x g=>by
 obtain⟨b,a,k,c,f,j,m⟩:=h i x g;have e:=d.block b c;exact⟨b,a,k,aE c d.size,(pR e).trans f,(pR e).trans j,m⟩
def alE(n m:Int)(s:ByteArray)(g:Nat)(w:World)(b:w.cell? ⟨g,0,none⟩=some (.int .i64 m)) :
  Calls (ah β) 217 #[.agg #[.int .i64 n,.string s],.pointer (some ⟨g,0,none⟩)] w λe c=>e=.returned (.bool (decide (n=m)))/\Below w.heap.size w c:=by
 have i:g≠w.heap.size:=λe=>by
  have:=eW b;simp only at this;omega
 have a:=aJ w (.cells #[.int .i64 n,.string s] 83);have d:(w.alloc (.cells #[.int .i64 n,.string s] 83)).cell? ⟨g,0,none⟩=some (.int .i64 m):=(pR (a.block g (eW b))).trans b;by_cases h:n=m
 .subst h;go_enter vX,ntmps217;go_wp2;go_ret;exact⟨ak (by simp),a⟩
 .have f:(n ==m)=false:=kw.2 h;go_enter vX,ntmps217;go_wp2;go_ret;exact⟨ak (by simp[h]),a⟩
def dO(nm:Int):List (Int×ByteArray)->Int
 |[]=> -1
 |x::l=>if x.1=nm then 0 else let j:=dO nm l;if j<0 then -1 else j+1
def aaS{nm:Int}:∀{l:List (Int×ByteArray)},(∀y∈l,y.1≠nm)->dO nm l=-1
 |[],_=>rfl
 |x::l,h=>by
  show(if x.1=nm then _ else _)=_;rw[bd (h x (by simp)),aaS λy a=>h y (by simp[a])];rfl
def acC{nm:Int}{x:Int×ByteArray}:∀{l:List (Int×ByteArray)} {k:Nat},(∀y∈l.take k,y.1≠nm)->l[k]?=some x->x.1=nm->dO nm l=k
 |[],k,_,h,_=>by simp at h
 |y::l,0,_,h,hx=>by
  simp at h;subst h;show(if y.1=nm then _ else _)=_;rw[dl hx];rfl
 |y::l,k+1,hn,h,hx=>by
  show(if y.1=nm then _ else _)=_;rw[bd (hn y (by simp)),acC (l:=l) (k:=k) (λz a=>hn z (by simp[a])) (by simpa using h) hx];show(if((k:Nat):Int)<0 then _ else _)=_;rw[bd (by omega)];omega
end
section
variable {β:Bool}
open Go.RowKit
def axp:ajD (β:=β) 217:=arT vX (by kernel_rfl) rfl
def ahK(nm:Int)(l:List (Int×ByteArray))(A:Option Addr)(c g:Nat)(w:World)(E:ItL w A l)(G:l.length<=c)(I:c<=maxLen)(v:w.cell? ⟨g,0,none⟩=some (.int .i64 nm)) :
  Calls (ah β) 216 #[.slice A l.length c,.func (.func 217) #[] #[.pointer (some ⟨g,0,none⟩)]] w λe u=>e=.returned (.int .i64 (dO nm l))/\Below w.heap.size w u:=by
 unfold maxLen at I;have t:=eW v;go_enter yf,ntmps216;go_wp2;go_loopw [8] (λi wr=>∃k:Nat,k<=l.length/\i=.int .i64 k/\(∀y∈l.take k,y.1≠nm)/\Below w.heap.size w wr) (λi _=>l.length-(intOf i).toNat)
 case atStart=>exact⟨0,du _,rfl,by simp,db _ _⟩
 case round=>
  obtain⟨k,J,rfl,n,o⟩:=hrel;replace n:=ab n;have r:wr.cell? ⟨g,0,none⟩=some (.int .i64 nm):=(pR (o.block g t)).trans v;by_cases p:k<l.length
  .obtain⟨x,j⟩:=aq p;obtain⟨b,D,rfl,C,z,F,H,B⟩:=(E.below o) k x j;replace j:=ab j;have K:=axp (β:=β) (#[.agg #[.int .i64 x.1,.string x.2]]++#[.pointer (some ⟨g,0,none⟩)]) wr;go_wp2;refine(alE x.1 nm x.2 g wr r).mono ?_;rintro e u ⟨rfl,d⟩;replace d:=ae o d;by_cases h:x.1=nm
   .have a:dO nm l=k:=acC n.out j.out h;have q:=ab a;clear a;have m:decide (x.1=nm)=true:=dq h;rw[m];clear h m;go_wp2;go_ret;exact⟨by rw[q.out];rfl,d⟩
   .have s:∀y∈l.take (k+1),y.1≠nm:=by
     intro y f;rw[gn j.out,gt] at f;rcases f with f|f
     .exact n.out y f
     .rw[ga.1 f];exact h
    replace s:=ab s;have m:decide (x.1=nm)=false:=da h;rw[m];clear h m;go_wp2;go_roundw
    case rel=>exact⟨k+1,by omega,by go_num,s.out,d⟩
    simp[intOf];omega
  .obtain rfl:k=l.length:=by omega
   have a:dO nm l=-1:=aaS (by have:=n.out;rwa [dk] at this);have q:=ab a;clear a;go_wp2;go_ret;exact⟨by rw[q.out];rfl,o⟩
end
section
variable {β:Bool}
open Go.RowKit
noncomputable def eQ(key:Int)(l:List (Int×ByteArray))(nm:Int):ByteArray×Bool:=match l[(dO nm l).toNat]? with
 |some x=>if dO nm l<0 then(⟨#[]⟩,false) else dC key x
 |none=>(⟨#[]⟩,false)
def abR(nm:Int):∀l:List (Int×ByteArray),dO nm l=-1\/∃(k:Nat) (x:Int×ByteArray),dO nm l=k/\l[k]?=some x
 |[]=>.inl rfl
 |y::l=>by
  show(if y.1=nm then _ else _)=(-1:Int)\/∃(k:Nat) (x:Int×ByteArray),(if y.1=nm then _ else _:Int)=k/\_;by_cases h:y.1=nm
  .rw[dl h];exact .inr ⟨0,y,rfl,rfl⟩
  .rw[bd h];rcases abR nm l with a|⟨k,x,a,b⟩
   .rw[a];exact .inl rfl
   .rw[a];refine .inr ⟨k+1,x, ?_,by simpa using b⟩;show(if((k:Nat):Int)<0 then _ else _)=_;rw[bd (by omega)];omega
def ao8(key r nm:Int)(B:1<=key/\key<=99)(l:List (Int×ByteArray))(A:Option Addr)(c:Nat)(w:World)(G:ItL w A l)(o:l.length<=c)(t:c<=maxLen) :
  Calls (ah β) 189 #[.int .i64 key,.agg #[.int .i64 r,.slice A l.length c],.int .i64 nm] w λe v=>e=.returned (.tuple #[.string (eQ key l nm).1,.bool (eQ key l nm).2])/\Below w.heap.size w v:=by
 have HC:=ab t;unfold maxLen at t;go_enter yp,ntmps189;go_wp2;generalize d:(w.alloc (.cells #[.int .i64 r,.slice A l.length c] 56)).alloc (.cells #[.int .i64 nm] 3)=w0 at *;obtain⟨s,K,i,z,D,g,q,I⟩:=nh d;clear d;have f:=G.below s;refine(ahK nm l A c (w.heap.size+1) w0 f o HC.out (q 0)).mono ?_;rintro e u ⟨rfl,a⟩;have p:=f.below a;replace i:=ar i a;replace z:=i.cell;replace D:=i.frozen;replace g:=ar g a;replace q:=g.cell;replace I:=g.frozen;replace a:=ae s a;rcases abR nm l with h|⟨k,x,h,n⟩
 .have d:eQ key l nm=(⟨#[]⟩,false):=by
   unfold eQ;rw[h];split
   .rw[dl (by omega)]
   .rfl
  have HG:=ab d;clear d;rw[h];go_wp2;go_ret2;rw[HG.out];exact⟨rfl,a⟩
 .have d:eQ key l nm=dC key x:=by
   unfold eQ;rw[h,show((k:Nat):Int).toNat=k from rfl,n];show(if((k:Nat):Int)<0 then _ else _)=_;rw[bd (by omega)]
  have HG:=ab d;clear d;obtain⟨b,F,rfl,E,C,H,J,j⟩:=p k x n;have y:=aI n;have L:=da (show ¬((k:Int)<0) by omega);rw[h];go_wp2;refine(anE key x B j u).mono ?_;rintro e M ⟨rfl,m⟩;replace a:=ae a m;go_wp2;go_ret2;rw[HG.out];exact⟨rfl,a⟩
end
section
variable {β:Bool}
open Go.RowKit
noncomputable def bP(key:Int):List gz->Int->ByteArray×Bool
 |[],_=>(⟨#[]⟩,false)
 |p::l,nm=>if(eQ key p.2 nm).2=true then((eQ key p.2 nm).1,true) else bP key l nm
def ahL{key nm:Int}:∀{l:List gz} {k:Nat},(∀p∈l.take k,(eQ key p.2 nm).2=false)->bP key l nm=bP key (l.drop k) nm
 |[],k,_=>by simp
 |p::l,0,_=>rfl
 |p::l,k+1,h=>by
  show(if(eQ key p.2 nm).2=true then _ else bP key l nm)=_;rw[bd (by rw[h p (by simp)];simp),List.drop_succ_cons];exact ahL λq a=>h q (by simp[a])
def PkL(w:World)(A:Option Addr)(l:List gz):Prop:=∀i x,l[i]?=some x->∃b a B c,A=some ⟨b,a,none⟩/\b<w.heap.size/\w.cell? ⟨b,a+i*2,none⟩=some (.int .i64 x.1)/\w.cell? ⟨b,a+i*2+1,none⟩=some (.slice B x.2.length c)/\x.2.length<=c/\c<=maxLen/\ItL w B x.2
def PkL.of{l:List gz}(h:RdP w A 0 l):PkL w A l:=λi x m=>by
 obtain⟨f,k⟩:∃f,l[0]?=some f:=aq (by have:=aI m;omega);obtain⟨⟨s,r,u,n,g, -⟩, -⟩:=h 0 f k;obtain⟨⟨a,B,c,rfl,e,d, -,q,t,p⟩, -⟩:=h i x m;obtain rfl:=dj n;rw[ph] at e d;obtain⟨b,j,o⟩:=a;obtain rfl:o=none:=by
  have:=abQ g;unfold Addr.add at this;simpa using this
 rw[ir] at e d;rw[ir] at d;exact⟨b,j,B,c,rfl,eW e,e,d,q,by unfold maxLen;omega,ItL.of p⟩
def PkL.below{l:List gz}(h:PkL w A l)(d:Below w.heap.size w w'):PkL w' A l:=λi x j=>by
 obtain⟨b,a,B,c,n,f,g,m,p,k,o⟩:=h i x j;have e:=d.block b f;exact⟨b,a,B,c,n,aE f d.size,(pR e).trans g,(pR e).trans m,p,k,o.below d⟩
def anF(w:World)(key:Int)(A:Option Addr)(c:Nat)(l:List gz)(nm:Int)(S:1<=key)(P:key<=99)(Z:l.length<=c)(hc:(c:Int)<=9223372036854775807)(X:PkL w A l)(a1:In_ nm) :
  Calls (ah β) 149 #[.int .i64 key,.slice A l.length c,.int .i64 nm] w λe O=>∃v,e=.returned v/\(v=.agg #[.string (bP key l nm).1,.bool (bP key l nm).2]/\Below w.heap.size w O):=by
 go_enter yD,ntmps149;go_wp2;generalize s:w.alloc (.cells #[.string ⟨#[]⟩,.bool false] 216)=w0 at *;obtain⟨M,dK,a,D,G⟩:=fA s;clear s;go_loopw [13] (λi wr=>∃k:Nat,k<=l.length/\i=.int .i64 k/\(∀p∈l.take k,(eQ key p.2 nm).2=false)/\Below w0.heap.size w0 wr) (λi _=>l.length-(intOf i).toNat)
 case atStart=>exact⟨0,du _,rfl,by simp,db _ _⟩
 case round=>
  obtain⟨k,hk,rfl,f,x⟩:=hrel;replace f:=ab f;replace a:=ar a x;replace D:=a.cell;replace G:=a.frozen;have J:=(X.below M).below x;have d:=ae M x;by_cases j:k<l.length
  .obtain⟨p,r⟩:=aq j;obtain⟨b,W,B,L,rfl,V,U,a0,K,C,F⟩:=J k p r;replace r:=ab r;go_wp2;generalize s:wr.alloc (.cells #[.int .i64 p.1,.slice B p.2.length L] 56)=w5 at *;obtain⟨g,T,q0,R,N⟩:=fA s;clear s;replace a:=ar a g;replace D:=a.cell;replace G:=a.frozen;replace d:=ae d g;refine(ao8 key p.1 nm ⟨S,P⟩ p.2 B L w5 (F.below g) K C).mono ?_;rintro e Q ⟨rfl,m⟩;replace a:=ar a m;replace D:=a.cell;replace G:=a.frozen;replace d:=ae d m;cases z:eQ key p.2 nm with
   |mk t Y=>
    cases Y with
    |true=>
     have q:bP key l nm=(t,true):=by
      rw[ahL (k:=k) f.out,uG j];have e1:l[k]=p:=by have:=r.out;rw[jn j] at this;exact dj this
      rw[e1];show(if(eQ key p.2 nm).2=true then _ else _)=_;rw[z];rfl
     have E:=ab q;clear q z;go_wp2;have u:=(a.aer 0 (.string t)).aer 1 (.bool true);simp only[oS,pO,pV] at u;have n:=u.cell;exact pN (v:=.agg #[.string t,.bool true]) (by simp[results,results149,go_sem,n]) rfl ⟨_,rfl,by rw[E.out],(d.setCell (by simp) _).setCell (by simp) _⟩
    |false=>
     have H:∀y∈l.take (k+1),(eQ key y.2 nm).2=false:=by
      intro y o;rw[gn r.out,gt] at o;rcases o with o|o
      .exact f.out y o
      .rw[ga.1 o,z]
     replace H:=ab H;clear z;have I:Below w0.heap.size w0 Q:=ae (ae x g) m;go_wp2;go_roundw
     case rel=>exact⟨k+1,by omega,by go_num,H.out,I⟩
     simp[intOf];omega
  .obtain rfl:k=l.length:=by omega
   have q:bP key l nm=(⟨#[]⟩,false):=by
    rw[ahL (k:=l.length) f.out,List.drop_length];rfl
   have E:=ab q;clear q;go_wp2;have u:=(a.aer 0 (.string ⟨#[]⟩)).aer 1 (.bool false);simp only[oS,pO,pV] at u;have n:=u.cell;exact pN (v:=.agg #[.string ⟨#[]⟩,.bool false]) (by simp[results,results149,go_sem,n]) rfl ⟨_,rfl,by rw[E.out],(d.setCell (by simp) _).setCell (by simp) _⟩
def wJ:dX bP:=λ_ w a A n c l nm g e j b i f d=>by
 subst j;exact anF w a A c l nm g e b i (PkL.of f) d
def wu(key nm:Int):bP key [] nm=(⟨#[]⟩,false):=rfl
end
section
open Go.RowKit
structure Glo (w:World):Prop where
 key:∃x,w.cell? ⟨0,0,none⟩=some x
 piece:∃x,w.cell? ⟨1,0,none⟩=some x
def Glo.below(h:Glo w)(b:Below w.heap.size w w'):Glo w':=by
 obtain⟨⟨x,c⟩,y,a⟩:=h;exact⟨⟨x,(pR (b.block _ (eW c))).trans c⟩,⟨y,(pR (b.block _ (eW a))).trans a⟩⟩
end
section
open Go.RowKit Go.ChangeAt
def azE:∀g∈gL,g=0\/g=1:=by
 have h:(gL.all λg=>g ==0||g ==1)=true:=by unfold gL;kernel_rfl
 intro g a;have:=jp.1 h g a;simpa using this
def ajF{P:Program}{w:World}{n:String}{d:DataW Unit}:∀{l:List (String×DataW Unit)} {f:List MemPlace},DataW.LaidVars P w l f->(n,d)∈l->
  ∃g t b a p,P.globalNamed n=some g/\(P.globals[g]?).map (·.type)=some t/\w.var? P n=some b/\DataW.trod (λ_=>()) P w 0 (λ_=>true) false a t b.toList=some (d,p)
 |[],_,_,h=>by cases h
 |(m,e)::l,f,h,c=>by
  obtain⟨g,t,b,a,p,q,r,i,k,o,s, -⟩:=h;rcases lE.1 c with j|c
  .cases j;exact⟨g,t,b,a,p,r,i,k,o⟩
  .exact ajF s c
def arV{d:DataW Unit}{p:List MemPlace}(b:∃m,P.underlying t=some (.interface m)):DataW.trod (λ_=>()) P w 0 (λ_=>true) false Z t []≠some (d,p):=by
 obtain⟨m,a⟩:=b;cases Z with
 |zero=>simp[DataW.trod]
 |succ f=>simp[DataW.trod,a]
def auF{n:String}(a:P.globalNamed n=some g)(h:w.var? P n=some cs):∃t z,w.heap[g]?=some (.cells cs t z):=by
 unfold World.var? at h;rw[a] at h;simp only[qd] at h;split at h
 .rename_i c t z b;cases h;exact⟨t,z,b⟩
 .cases h
def auG:∃m,prog.underlying 237=some (.interface m):=⟨_,underlying237⟩
def auH:prog.globalNamed "loop.example/depositary/impl.errKey" =some 0:=by kernel_rfl
def ao9:prog.globalNamed "loop.example/depositary/impl.errPiece" =some 1:=by kernel_rfl
def arW:(prog.globals[0]?).map (·.type)=some 237:=by kernel_rfl
def alF:(prog.globals[1]?).map (·.type)=some 237:=by kernel_rfl
def ajG:(laidL.all λx=>x.2.handleName?.isNone)=true:=by kernel_rfl
def wI{W:World}(j:laidMetH prog laidL W):(∀g∈gL,dx W g)/\Glo W:=by
 rw[uD _ _ _ ajG] at j;obtain⟨A,w, -, -⟩:=j;have one:∀{n:String} {d:DataW Unit} {a:Nat},(n,d)∈laidL->prog.globalNamed n=some a->(prog.globals[a]?).map (·.type)=some 237->dx W a/\∃x,W.cell? ⟨a,0,none⟩=some x:=λ{n d a} v i y=>by
  obtain⟨g,t,b,k,p,q,e,s,o⟩:=ajF w v;rw[i] at q;cases q;rw[y] at e;cases e;obtain⟨t,z,f⟩:=auF i s;refine⟨⟨b,t,z,f⟩, ?_⟩;cases r:b.toList with
  |nil=>rw[r] at o;exact absurd o (arV auG)
  |cons x l=>
   refine⟨x, ?_⟩;unfold World.cell?;rw[f];show b[0]?=some x;rw[<-ef,r];rfl
 have m:=one (n:= "loop.example/depositary/impl.errKey") (d:=Rows.laid_loop_example_depositary_impl_errKey) (by simp[laidL]) auH arW;have c:=one (n:= "loop.example/depositary/impl.errPiece") (d:=Rows.laid_loop_example_depositary_impl_errPiece) (by simp[laidL]) ao9 alF;refine⟨λg u=> ?_,m.2,c.2⟩;rcases azE g u with rfl|rfl
 .exact m.1
 .exact c.1
def abF.glo{W WL:World}{g0:Nat}(h:abF W (dx W) g0 WL)(a:∀g∈gL,dx W g)(b:Glo W)(j:0∈gL)(e:1∈gL):Glo WL:=by
 have one:∀{g:Nat},dx W g->(∃x,W.cell? ⟨g,0,none⟩=some x)->∃x,WL.cell? ⟨g,0,none⟩=some x:=λ{g} a ⟨x,hx⟩=>by
  obtain⟨c,f,t,z,k,d,i,l⟩:=h.row g a;unfold World.cell? at hx ⊢;dsimp only at hx ⊢;rw[d] at hx;rw[i];have:0<c.size:=(de.1 (show c[0]?=some x from hx)).1;exact⟨f[0]'(by omega),fi (by omega)⟩
 exact⟨one (a _ j) b.key,one (a _ e) b.piece⟩
def arX{W:World}{b0:Nat}(f:P.underlying t=some (.slice e))(b:Cell.ok P W .any b0 t v):ClV (dx W) v:=by
 unfold Cell.ok at b;rw[f] at b;cases v with
 |slice A n c=>
  cases A with
  |none=>exact .abE _ _
  |some a=>
   obtain⟨-, -, -, -,g,cells,d, -⟩:=b;refine .slice ?_ _ _;unfold World.shape? at d;split at d
   .rename_i i t z j;exact⟨i,t,z,j⟩
   .cases d
 |_=>exact b.elim
def slB(P:Program)(t:TypeId):Bool:=
 match P.cellTypes P.depth t with
 |some a=>a.all λu=>match P.underlying u with
  |some (.slice _)=>true
  |_=>false
 |none=>false
def apa{W:World}{b0:Nat}{l:Array Field}(k:P.underlying t=some (.struct l))(b:slB P t=true)(f:Value.okWide P W .any b0 t v):ClV (dx W) v:=by
 simp only[Value.okWide,k] at f;obtain⟨q,rfl, -,p,o, -,m⟩:=f;refine .agg (lW.of λx n=> ?_);obtain⟨i,d⟩:=qp.1 n;rw[ef] at d;obtain⟨u,j,a⟩:=m i x d;unfold slB at b;rw[o] at b;have c:=jp.1 b u (be j);split at c
 .rename_i e g;refine arX (b0:=b0) g ?_;unfold Cell.okWide at a;rw[g] at a;exact a
 .cases c
def yY:0<gN:=by
 unfold gN;exact tG (by kernel_rfl)
def cG.arg{H:Type}{enc:TypeId×Value->H}{g0:Nat}(f:cG enc P w w' g0 t E){base:Nat}{b:Bool}{d:DataW H}{p:List MemPlace}(h:DataW.Trod enc P w base (λ_=>true) b t v d p)(e:∀x∈p,x.block<w.heap.size):∃a,E w' 0 w'.heap.size a v.cells.toList:=by
 obtain⟨c,g⟩:=h;exact(f base b c _ _ g e).2 _ ⟨rfl,λj u v i k=>.inl (dj (i.symm.trans k))⟩
end
section
variable {β:Bool}
open Go.RowKit
def vq(w:World)(T:List TypeId)(b:Nat):Prop:=∃t∈T,∃a,gi w b t a
structure gG {α:Type} (E:fq α) (T:List TypeId):Prop where
 go:∀{w w':World} {lo hi px hi':Nat} {x:α} {cs:List Value},
  (∀b,lo<=b->b<hi->vq w T b->w'.heap[b]?=w.heap[b]?)->px<=lo->hi<=hi'->E w lo hi x cs->E w' px hi' x cs
section
variable {α:Type} {E:fq α} {T:List TypeId}
def gG.loc(d:gG E T):Lcy E:=⟨λh a c e=>d.go (λb a c _=>h b a c) a c e⟩
def gG.more(d:gG E T){U:List TypeId}(f:∀t∈T,t∈U):gG E U:=⟨λh c a e=>d.go (λb c a ⟨t,ht,hd⟩=>h b c a ⟨t,f t ht,hd⟩) c a e⟩
def gG.below(a:gG E T){B : Nat}{x:α}{cs:List Value}(h:E w Z X x cs)(c:Below B w w')(b:X<=B):E w' Z X x cs:=a.loc.below h c b
def abS(h:gi w b t cs)(a:gi w b O R):t=O:=by
 unfold gi at h a;rw[h] at a;simp at a;exact a.2
def cD.aK{α:Type}(F:Flat α):gG (cD F) []:=⟨λ_ _ _ h=>h⟩
def lZ(e:TypeId)(E:fq α)(sz:Nat):fq (List α):=λw i j f d=>
 aY E sz w i j f d/\(0<f.length->∀b a n c,d=[.slice (some ⟨b,a,none⟩) n c]->∃g,gi w b e g)
def lZ.aK(D:gG E T)  :gG (lZ e E Z) (e::T):=by
 refine⟨?_⟩;intro w N S R M l Q P s o v ⟨⟨A,c,a,C,J,h⟩,p⟩;refine⟨⟨A,c,a,C,J,λm=> ?_⟩,λm b f n O r=> ?_⟩
 .obtain⟨b,f,rfl,k,g,I⟩:=h m;have q:=p m b f _ _ a;refine⟨b,f,rfl,ap o k,aE g v,λi x l=> ?_⟩;obtain⟨G,F,K,d⟩:=I i x l;exact⟨G,F,D.go (λb k g ⟨t,p,hd⟩=>s b k g ⟨t,qk _ p,hd⟩) o v K,λj u H=>(pR (s b k g ⟨e,qA,q⟩)).trans (d j u H)⟩
 .obtain⟨B,L,z,k,g,_⟩:=h m;rw[a,z] at r;simp only[qz,sR,lw,pM,qh] at r;obtain⟨⟨rfl,rfl⟩,_,_⟩:=r;have q:=p m B L _ _ (a.trans (by rw[z]));obtain⟨y,hd⟩:=q;exact⟨y,(s B k g ⟨e,qA,y,hd⟩).trans hd⟩
def lZ.form{xs:List α}(h:lZ e E Z w X N xs [v]):∃A c,v=.slice A xs.length c:=h.1.form
def aeY(E:fq α)(sz:Nat)(e:TypeId)(w:World)(lo base:Nat)(v:Value)(xs:List α):Prop:=
 ∃cells:List Value,w.ownsRow base e sz v xs.length cells/\(∀u∈cells,u.oneCell'=true)/\
  ∀i x,xs[i]?=some x->∃a:List Value,a.length=sz/\E w lo w.heap.size x a/\∀j u,a[j]?=some u->cells[i*sz+j]?=some u
variable {sz:Nat} {e:TypeId}
def aeY.blk{base : Nat}{xs:List α}(h:aeY E sz e w Z base v xs)(a:v.ownBlock=some g):∃d,gi w g e d:=by
 obtain⟨cells,h,_⟩:=h;rcases h.2 with⟨rfl,_⟩|⟨f,cap,b,rfl,_,c,_⟩
 .cases a
 .cases a;exact⟨_,c⟩
def aeY.sl{base : Nat}{xs:List α}(h:aeY E sz e w Z base v xs)(m:Z<=base):lZ e E sz w Z w.heap.size xs [v]:=by
 have K:=λg y=>h.blk (g:=g) y;obtain⟨cells,p,_,s⟩:=h;refine⟨?_,λB b C n c q=> ?_⟩
 .obtain⟨L,G⟩:=p;rcases G with⟨rfl,a⟩|⟨g,cap,d,rfl,l,r,o,k,H,t⟩
  .exact⟨none,0,by rw[a],by omega,by unfold maxLen;omega,λB=>by omega⟩
  .refine⟨_,cap,rfl,o,k,λ_=>⟨g,0,rfl,ap m l,(de.1 r).1,λi x I=> ?_⟩⟩;obtain⟨D,m,J,A⟩:=s i x I;refine⟨D,m,J,λj u F=> ?_⟩;have f:=A j u F;rw[<-t,qB] at f;split at f
   .rw[cell_of_row w g (0+i*sz+j) d _ (0,0) r,ph];simpa using f
   .cases f
 .simp only[qz,qh] at q;subst q;rcases p.2 with⟨a,_⟩|⟨g,cap,d,a,_,z,_⟩
  .cases a
  .cases a;exact⟨_,z⟩
def aS.deep{α:Type}{F:Flat α}{base:Nat}{xs:List α}(h:aS F e w base v xs)(b:∀x∈xs,F.good x)(d:Nat):aeY (cD F) F.sz e w d base v xs:=
 ⟨_,h,acA F xs,λi x a=>⟨F.cells x,F.len x,⟨rfl,b x (be a)⟩,λ_ _ c=>gU F xs i _ x _ a c⟩⟩
end
section
variable {P:Program} {α:Type} {E:fq α} {T:List TypeId} {sz:Nat} {e:TypeId}
end
section
variable {α:Type} {E:fq α}
end
end
section
variable {β:Bool}
structure Sp where
 n:Int
 p:Int
def spP(s:Sp):Prop:=(0<=s.n/\s.n<=999999999988)/\(1<=s.p/\s.p<=99)
def ahM(s:Sp):List Sp->List Sp
 |[]=>[s]
 |x::xs=>if s.n<x.n then s::x::xs else if x.n<s.n then x::ahM s xs else s::xs
def auI{s:Sp}:∀{l:List Sp},s∈ahM s l
 |[]=>by show s∈[s];simp
 |y::l=>by
  show s∈(if s.n<y.n then s::y::l else if y.n<s.n then y::ahM s l else s::l);split
  .simp
  .split
   .exact qk _ auI
   .simp
inductive Tr where
 |nil
 |node (b:Nat) (s:Sp) (l r:Tr)
namespace Tr
end Tr
def agy:List Sp->List Sp->List Sp
 |[],l=>l
 |s::ss,l=>agy ss (ahM s l)
def gV(n:Int):List Sp->Int
 |[]=>0
 |x::xs=>if x.n=n then x.p else gV n xs
def acD{s:Sp}{n:Int}:∀{l:List Sp},gV n (ahM s l)=if s.n=n then s.p else gV n l
 |[]=>by show(if s.n=n then s.p else 0)=_;rfl
 |x::l=>by
  show gV n (if s.n<x.n then s::x::l else if x.n<s.n then x::ahM s l else s::l)=_;split
  .rfl
  .split
   .show(if x.n=n then x.p else gV n (ahM s l))=(if s.n=n then s.p else(if x.n=n then x.p else gV n l));rw[acD];split
    .rw[bd (by omega)]
    .rfl
   .show(if s.n=n then s.p else gV n l)=(if s.n=n then s.p else(if x.n=n then x.p else gV n l));split
    .rfl
    .rw[bd (by omega)]
end
section
variable {β:Bool}
open Go.RowKit
structure bC (w:World) (s:Nat) (ty:TypeId) (S:Nat->Prop) (pre:List Nat) where
 to:World
 done:Bool
 ok:gq (λb=>done=true/\S b) w to
section
variable {w:World} {s:Nat} {ty:TypeId} {S:Nat->Prop} {pre:List Nat}
instance asP:Nonempty (bC w s ty S pre):=⟨⟨w,false,gq.refl _ _⟩⟩
instance av0:bh (bC w s ty S pre):=⟨λ_ _=>True,λ_ _ _=>trivial,λi x=>i=s\/i∈pre->x.done=false⟩
def bC.le(x y:bC w s ty S pre):Prop:=
 (y.done=x.done/\Below x.to.heap.size x.to y.to)\/(x.done=false/\y.done=true/\gq (λb=>S b\/(w.heap.size<=b/\∃a:Array Value,gi x.to b ty a)) x.to y.to)
def bC.le_refl(x:bC w s ty S pre):bC.le x x:=.inl ⟨rfl,db _ _⟩
def bC.le.from_{x y:bC w s ty S pre}(h:bC.le x y)(b:x.done=true):y.done=true/\Below x.to.heap.size x.to y.to:=by
 rcases h with⟨a,c⟩|⟨a,_⟩
 .exact⟨a.trans b,c⟩
 .rw[b] at a;cases a
def alG(h:w.cell? p=some v)(b:¬S p.block):∀x:bC w s ty S pre,x.to.cell? p=some v:=λx=>by
 have a:=uP w p h;unfold World.cell? at h ⊢;rw[x.ok.block p.block a λh=>b h.2];exact h
def bC.till(x:bC w s ty S pre)(a:x.done=false):Below w.heap.size w x.to:=⟨x.ok.os,x.ok.tape,x.ok.output,x.ok.size,λb c=>x.ok.block b c λh=>by rw[a] at h;cases h.1⟩
def bC.on(x:bC w s ty S pre){w2:World}(hb:Below x.to.heap.size x.to w2):bC w s ty S pre:=⟨w2,x.done,x.ok.trans (gq.aeq (S:=λb=>x.done=true/\S b) hb) λ_ _ e=>e⟩
def bC.did(x:bC w s ty S pre){w2:World}(hc:gq (λb=>S b\/(w.heap.size<=b/\∃a:Array Value,gi x.to b ty a)) x.to w2):bC w s ty S pre:=
 ⟨w2,true,(x.ok.mono (T:=λb=>true=true/\S b) λ_ _ h=>⟨rfl,h.2⟩).trans hc λb c h=>by
  rcases h with h|h
  .exact⟨rfl,h⟩
  .omega⟩
def alH     (s:Nat) (ty:TypeId) (S:Nat->Prop) (pre:List Nat) (n:Nat) (b a:List Nat) (f:P.follows .mixedOrders=true) (i:alC rest n b a=true) (c:afJ rest.toArray n T.tmps.size=true)
  (h:wpQuiet P rest.toArray (λd=>∃x:bC w s ty S pre,d=x.to) (λg=>∃e:List (iA (bC w s ty S pre)),eu P rest.toArray (bC.to (w:=w)) (bC.le (w:=w)) (wpList P rest.toArray Q (rest.drop n)) (pick rest a) [] e g) ((pick rest b).map (·.2)) T):(Code.region Z rest.toArray true).wp P Q T w:=
 aeV (bC.to (w:=w)) (bC.le (w:=w)) bC.le_refl n b a f i c ⟨w.drew,false,(gq.refl _ _).drew⟩ (λ_ _=>trivial) (λ_ _ _=>rfl) rfl h
variable {P:Program} {ops:Array Oper} {Qt:Act->World->Prop} {i:Nat} {o:Oper} {L:List (Nat×Oper)} {F:List (Nat×(bC w s ty S pre->Prop))} {Rs:List (iA (bC w s ty S pre))} {a:Act}
def axs (R:Value->bC w s ty S pre->Prop) (e:o.dst.isSome=true) (j:∀v x y,R v x->bC.le x y->R v y)
  (p:∀x:bC w s ty S pre,aeS F o x->(i∈pre->x.done=false)->∀c:Exit->Act->World->Prop,(∀v d (b:Below x.to.heap.size x.to d),R v (x.on b)->c .normal (a.put o.dst v) d)->wpList P ops c [o] a x.to)
  (g:∀v,eu P ops (bC.to (w:=w)) (bC.le (w:=w)) Qt L ((i,λx=>R v x)::F) Rs (a.put o.dst v)):eu P ops (bC.to (w:=w)) (bC.le (w:=w)) Qt ((i,o)::L) F (.any R::Rs) a:=
 ahH (to:=bC.to (w:=w)) (le:=bC.le (w:=w)) R (.inl e) j (λx m _ _ f c k=>p x m (λl=>f (.inr l)) c λv d b n=>
  k v (x.on b) (.inl ⟨rfl,b⟩) trivial (λ_ _ _ h=>h) n) g
def aeZ (c:Value)
  (j:∀x:bC w s ty S pre,aeS F o x->(i∈pre->x.done=false)->∀b:Exit->Act->World->Prop,(∀d,Below x.to.heap.size x.to d->b .normal (a.put o.dst c) d)->wpList P ops b [o] a x.to)
  (g:eu P ops (bC.to (w:=w)) (bC.le (w:=w)) Qt L F Rs (a.put o.dst c)):eu P ops (bC.to (w:=w)) (bC.le (w:=w)) Qt ((i,o)::L) F (.fix c::Rs) a:=
 anD (to:=bC.to (w:=w)) (le:=bC.le (w:=w)) c (λx m _ _ f b k=>j x m (λl=>f (.inr l)) b λd e=>k (x.on e) (.inl ⟨rfl,e⟩) trivial λ_ _ _ h=>h) g
def axt (R:Value->bC w s ty S pre->Prop) (m:o.dst.isSome=true) (hi':i=s) (f:∀j∈pre,Behind ops i j) (q:∀v x y,R v x->bC.le x y->R v y)
  (A:∀x:bC w s ty S pre,aeS F o x->x.done=false->∀c:Exit->Act->World->Prop,(∀v k (d:gq (λb=>S b\/(w.heap.size<=b/\∃z:Array Value,gi x.to b ty z)) x.to k),R v (x.did d)->c .normal (a.put o.dst v) k)->wpList P ops c [o] a x.to)
  (n:∀v,eu P ops (bC.to (w:=w)) (bC.le (w:=w)) Qt L ((i,λx=>R v x)::F) Rs (a.put o.dst v)):eu P ops (bC.to (w:=w)) (bC.le (w:=w)) Qt ((i,o)::L) F (.any R::Rs) a:=
 ahH (to:=bC.to (w:=w)) (le:=bC.le (w:=w)) R (.inl m) q (λx t _ _ l c r=>A x t (l (.inl hi')) c λv k d p=>
  r v (x.did d) (.inr ⟨l (.inl hi'),rfl,d⟩) trivial (λj u g _ e=>e.elim (λe=>absurd (e.trans hi'.symm) u) λe=>absurd (f j e) g) p) n
def axu(h:∀x:bC w s ty S pre,acz F x->Qt a x.to):eu P ops (bC.to (w:=w)) (bC.le (w:=w)) Qt [] F [] a:=anC h
end
end
section
variable {β:Bool}
open Go.RowKit
structure anG (w:World) (alI:List Nat) (fl:Nat->Bool) (ty:TypeId) (S:Nat->Prop) where
 to:World
 st:Nat
 ok:gq (λb=>0<st/\S b) w to
 lim:st<=alI.length
section
variable {w:World} {alI:List Nat} {fl:Nat->Bool} {ty:TypeId} {S:Nat->Prop}
instance asQ:Nonempty (anG w alI fl ty S):=⟨⟨w,0,gq.refl _ _,du _⟩⟩
instance av1:bh (anG w alI fl ty S):=⟨λ_ _=>True,λ_ _ _=>trivial,λi x=>∀k,alI[k]?=some i->x.st<=k⟩
variable {P:Program} {ops:Array Oper} {Qt:Act->World->Prop} {i:Nat} {o:Oper} {L:List (Nat×Oper)} {F:List (Nat×(anG w alI fl ty S->Prop))} {Rs:List (iA (anG w alI fl ty S))} {a:Act}
end
end
section
variable {β:Bool}
open Go.RowKit
def ahN(n a c:Int)(w:World)(b:Bool)(f:b=true↔a<=n/\n<=c) :
  Calls (ah β) 39 #[.int .i64 n,.int .i64 a,.int .i64 c] w λe d=>e=.returned (.bool b)/\w=d:=
 (abI n a c w).mono λe d ⟨h,hw⟩=>⟨by
  rw[h];have:(decide (a<=n)&&decide (n<=c))=b:=by rw[oi,f];simp
  rw[this],hw⟩
end
section
variable {β:Bool}
open Go.RowKit
def arY(h:w.cell? p=some v)(c:gq S w w')(b:¬S p.block):w'.cell? p=some v:=by
 have a:=uP w p h;unfold World.cell? at h ⊢;rw[c.block p.block a b];exact h
end
section
variable {β:Bool}
open Go.RowKit
structure It where
 n:Int
 b:ByteArray
structure Pk where
 no:Int
 its:List It
def FIt:Flat It:=⟨2,λx=>[.int .i64 x.n,.string x.b],λx=>dJ x.n/\x.b.size<=maxLen,λ_=>rfl,λx u a=>by simp at a;rcases a with rfl|rfl<;>rfl,by decide⟩
abbrev iB:fq (List It):=lZ 83 (cD FIt) 2
def RPk:fq Pk:=λw a b x c=>∃v,c=[.int .i64 x.no,v]/\dJ x.no/\iB w a b x.its [v]
abbrev eE:fq (List Pk):=lZ 56 RPk 2
def iB.aK:gG iB [83]:=lZ.aK (cD.aK FIt)
def RPk.aK:gG RPk [83]:=⟨λh a b ⟨v,e,i,hr⟩=>⟨v,e,i,iB.aK.go h a b hr⟩⟩
def eE.aK:gG eE [56,83]:=lZ.aK RPk.aK
def aaq{xs:List Pk}(h:eE w Z X xs [.slice A n c]){x:Pk}(i:xs[k]?=some x) :
  ∃b a A' d,A=some ⟨b,a,none⟩/\Z<=b/\b<X/\dJ x.no/\w.cell? ⟨b,a+k*2,none⟩=some (.int .i64 x.no)/\w.cell? ⟨b,a+k*2+1,none⟩=some (.slice A' x.its.length d)/\iB w Z X x.its [.slice A' x.its.length d]:=by
 obtain⟨b,a,m,rfl,j,g,l,⟨v,rfl,e,X⟩,f⟩:=h.1.at_ i;obtain⟨A',d,rfl⟩:=X.form;exact⟨b,a,A',d,rfl,j,g,e,by simpa using f 0 _ rfl,f 1 _ rfl,X⟩
def ada{xs:List It}(h:iB w Z X xs [.slice A n c]){x:It}(g:xs[k]?=some x) :
  ∃b a,A=some ⟨b,a,none⟩/\Z<=b/\b<X/\(dJ x.n/\x.b.size<=maxLen)/\w.cell? ⟨b,a+k*2,none⟩=some (.int .i64 x.n)/\w.cell? ⟨b,a+k*2+1,none⟩=some (.string x.b):=by
 obtain⟨b,a,l,rfl,i,f,j,⟨rfl,d⟩,e⟩:=h.1.at_ g;exact⟨b,a,rfl,i,f,d,by simpa using e 0 _ rfl,e 1 _ rfl⟩
def lZ.len_(h:lZ e E Z w X N xs [.slice A n c]):n=xs.length/\n<=c/\c<=maxLen:=h.1.len_
def arZ(p:Pk):List Sp:=p.its.map λx=>⟨x.n,p.no⟩
def adb(l:List Pk):List Sp:=l.flatMap arZ
end
end Go.Proofs.YtblbaiejjagdoaaGreatDoor