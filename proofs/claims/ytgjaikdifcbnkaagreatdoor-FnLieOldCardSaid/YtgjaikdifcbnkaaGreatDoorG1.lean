/- A part. -/
import GoSem.Core.World
import Derived.Test.YtgjaikdifcbnkaaGreatDoorProg
import Derived.WalkKit
set_option maxRecDepth 100000
set_option maxHeartbeats 8000000
set_option linter.all false
open Go Go.Proofs.Tryz
variable {R r:Nat} {o o':Obj} {Y N a b:Addr} {V β:Type} {W U i k k' v v' x y:Value} {S J w w':World} {P P':Program} {D:List Addr} {E:Option Nat} {Z G c:Array Value} {Q F:Option Addr} {L es:Array Event} {M K l l' u:Option Value} {e e':Operand→Value} {O:Array MapEntry} {I p:Array (Nat × Value)} {H s':Sem β} {s:Sem V}
namespace Go.Proofs.YtgjaikdifcbnkaaGreatDoor
def am:=@Nat.le_refl
def ap:=@Nat.le_trans
def bd:=@Nat.lt_of_lt_of_le
def da:=@if_neg
def dl:=@Array.getElem?_eq_some_iff
def dq:=@Option.some.inj
def eg:=@if_pos
def fi:=@Array.getElem?_toList
def ge:=@Bool.and_eq_true
def gn:=@Array.getElem?_eq_getElem
def jt:=@congrArg
def kw:=@Array.getElem?_setIfInBounds_ne
def lc:=@Bool.false_eq_true
def lP:=@List.all_eq_true
def mt:=@Option.some.injEq
def oE:=@beq_iff_eq
def oR:=@List.mem_append
def oS:=@Array.getElem?_setIfInBounds
def pe:=@Nat.le_of_eq
def pm:=@Array.getElem?_modify
def pv:=@if_true
def qe:=@Array.toList_append
def qn:=@Array.getElem?_eq_none_iff
def qu:=@List.mem_map
def qF:=@List.all_cons
def qG:=@Array.toList_map
def qK:=@Array.getElem?_push
def qL:=@if_false
def qS:=@Array.length_toList
def ru:=@Bool.eq_iff_iff
def rv:=@Array.getElem?_map
def rJ:=@Array.append_empty
def rM:=@bne_iff_ne
def rT:=@Array.toList_push
def rX:=@List.filter_cons
def sx:=@Array.isEmpty_toList
def sD:=@Array.size_append
def sE:=@Go.Sem.runT.eq_5
def sF:=@List.map_cons
def sI:=@Ne.symm
def sQ:=@Array.foldl_toList
def sR:=@Array.ext_getElem?
def sX:=@Array.getElem?_append
def tF:=@Option.isSome_none
def tL:=@Array.forIn_toList
def tS:=@Array.size_map
def tV:=@Array.toList_extract
def tY:=@Std.Legacy.Range.forIn_eq_forIn_range'
def ud:=@List.forIn_cons
def ue:=@Array.mapM_eq_mapM_toList
def uj:=@Array.append_assoc
def ul:=@List.forIn_nil
def uF:=@decide_eq_decide
def uU:=@List.foldl_cons
def vF:=@Array.toList_setIfInBounds
def wd:=@List.mapM_cons
def wK:=@Array.toList_modify
section
def _root_.Go.World.ou(w:World):Os×Array (Nat×ByteArray):=(w.os,w.output)
def ay4(h:w.ou=w'.ou):w.os=w'.os:=jt Prod.fst h
def awX(h:w.ou=w'.ou):w.output=w'.output:=jt Prod.snd h
def ay5(h:w.os=w'.os)(k:w.output=w'.output):w.ou=w'.ou:=Prod.ext h k
def alw(P:Program)(f:FuncId):Bool:=match P.funcs[f]? with
 |some fn=>fn.body.isSome||["internal/bytealg.MakeNoZero", "internal/bytealg.IndexByteString"].contains fn.name
 |none=>false
def awY(al:FuncId->Bool):Fn->Bool
 |.func f=>al f
 |_=>false
def ow(al:FuncId->Bool):Nat->Value->Bool
 |0,_=>false
 |d+1,v=>match v with
  |.bool _|.int .. | .string _|.nilFunc|.nilIface=>true
  |.pointer none|.slice none _ _|.map none|.chan none=>true
  |.func f a c=>awY al f&&a.toList.all (ow al d)&&c.toList.all (ow al d)
  |.iface _ v=>ow al d v
  |.agg c|.tuple c=>c.toList.all (ow al d)
  |_=>false
def bM(al:FuncId->Bool)(gl:List Nat):Operand->Bool
 |.const v=>ow al 5 v
 |.global g=>gl.contains g
 |.func f=>al f
 |.tmp _=>true
def agG(P:Program)(t:TypeId):Bool:=match P.underlying t with
 |some (.int _)=>true
 |_=>false
def adR(P:Program)(t:TypeId):Bool:=match P.underlying t with
 |some (.map k _)=>agG P k
 |_=>true
def amu(P:Program)(t:TypeId)(f:Nat):Bool:=match P.underlying t with
 |some (.struct fs)=>match fs[f]? with
  |some g=>match P.info? g.type with
   |some i=>i.size !=0
   |none=>true
  |none=>true
 |_=>true
def aj8(P:Program)(src dst:TypeId):Bool:=match P.underlying src,P.underlying dst with
 |some (.int _),some (.int _)=>true
 |_,some .string=>match P.underlying src with
  |some (.slice e)=>match P.underlying e with
   |some (.int .u8)=>true
   |_=>false
  |some .unsafePointer=>false
  |_=>true
 |some .string,some (.slice e)=>match P.underlying e with
  |some (.int .u8)=>true
  |_=>false
 |_,_=>false
def acx(P:Program)(b:Builtin)(ts:Array TypeId):Bool:=match b with
 |.append=>match ts[1]? with
  |some u=>!agG P u
  |none=>true
 |.cap|.clear|.copy|.len|.max|.min|.unsafeString|.unsafeSlice=>true
 |_=>false
def mC(P:Program)(al:FuncId->Bool)(gl:List Nat)(o:Op):Bool:=o.operands.toList.all (bM al gl)&&match o with
 |.move _|.assign _|.pick .. | .alloc _|.box .. | .build .. | .buildSlice .. | .load .. | .store .. | .nilCheck _|.unOp .. | .makeInterface .. | .makeMap _ none
 |.makeSlice .. | .slice .. | .field .. | .indexAddr .. | .index .. | .range .. | .next .. | .extract .. | .panic _|.binOp .. =>true
 |.makeFunc f _ _=>awY al f
 |.fieldAddr t _ f=>amu P t f
 |.convert a dst _=>aj8 P a dst
 |.lookup t .. =>adR P t
 |.mapUpdate t .. | .insert t .. =>adR P t
 |.call c=>match c.callee with
  |.builtin b=>acx P b c.argTypes
  |.value _=>true
  |.invoke .. =>false
 |_=>false
def fX(P:Program)(al:FuncId->Bool)(gl:List Nat):Code->Bool
 |.skip|.label _|.ret|.exit _|.refuse _=>true
 |.region _ d _=>d.toList.all λo=>mC P al gl o.op
 |.seq a b=>fX P al gl a&&fX P al gl b
 |.cond c a b=>bM al gl c&&(fX P al gl a&&fX P al gl b)
 |.block _ a|.loop a|.scope a=>fX P al gl a
 |.rangeFunc f _ a b=>bM al gl f&&(fX P al gl a&&fX P al gl b)
 |.goto _=>false
def aao(al:FuncId->Bool)(gl:List Nat):Op->Bool
 |.call {callee:=.builtin .unsafeSliceData,args,argTypes:=_}=>args.toList.all (bM al gl)
 |_=>false
def aap(al:FuncId->Bool)(gl:List Nat)(tB:TypeId)(o:Oper):Oper:=if aao al gl o.op then{o with type:=tB} else o
def bQ(P:Program)(al:FuncId->Bool)(gl:List Nat)(tB:TypeId):Code->Code
 |.skip=>.skip
 |.label l=>.label l
 |.ret=>.ret
 |.exit id=>.exit id
 |.refuse w=>.refuse w
 |.goto _=>.refuse ""
 |.region id d draw=>if(d.toList.all λo=>mC P al gl o.op)=true then .region id d draw
  else if(d.toList.all λo=>mC P al gl o.op||aao al gl o.op)=true then .region id (d.map (aap al gl tB)) draw else .refuse ""
 |.seq a b=>.seq (bQ P al gl tB a) (bQ P al gl tB b)
 |.cond c a b=>if bM al gl c=true then .cond c (bQ P al gl tB a) (bQ P al gl tB b) else .refuse ""
 |.block id a=>.block id (bQ P al gl tB a)
 |.loop a=>.loop (bQ P al gl tB a)
 |.scope a=>.scope (bQ P al gl tB a)
 |.rangeFunc f e a b=>if bM al gl f=true then .rangeFunc f e (bQ P al gl tB a) (bQ P al gl tB b) else .refuse ""
def ahZ(P:Program)(j:FuncId->Bool)(i:List Nat)(m:TypeId):∀c:Code,fX P j i c=true->bQ P j i m c=c:=by
 intro c
 induction c with
 |region id k draw=>intro h;unfold fX at h;unfold bQ;rw[eg h]
 |seq a b e d=>intro h;simp only[fX,ge] at h;unfold bQ;rw[e h.1,d h.2]
 |cond c a b e d=>intro h;simp only[fX,ge] at h;unfold bQ;rw[eg h.1,e h.2.1,d h.2.2]
 |block id a g=>intro h;unfold bQ;rw[g h]
 |loop a g=>intro h;unfold bQ;rw[g h]
 |scope a g=>intro h;unfold bQ;rw[g h]
 |rangeFunc f n a b e d=>intro h;simp only[fX,ge] at h;unfold bQ;rw[eg h.1,e h.2.1,d h.2.2]
 |goto l=>intro h;cases h
 |_=>intro _;rfl
@[irreducible] noncomputable def gN:Nat:=prog.globals.size
@[irreducible] noncomputable def gL:List Nat:=(List.range prog.globals.size).filter λg=>match prog.globals[g]? with
 |some x=>["loop.example/depositary/impl.errPiece", "loop.example/depositary/impl.errKey"].contains x.name
 |none=>false
@[irreducible] noncomputable def gH(f:FuncId):Bool:=match prog.funcs[f]? with
 |some fn=>fn.name == "loop.example/depositary/impl.fetchAll" || fn.name == "(*strings.Builder).copyCheck"
 |none=>false
@[irreducible] noncomputable def gA:FuncId->Bool:=alw prog
@[irreducible] noncomputable def gB:TypeId:=3
@[irreducible] noncomputable def gP:Code->Code:=bQ prog gA gL gB
structure Ren where
 r:Nat->Nat->Prop
 lax:Bool
 dim:Bool
 al:Nat->Option Value
 fn:∀{a b c},r a b->r a c->b=c
 inj:∀{a b c},r a c->r b c->a=b
 lf:∀{a b},r a b->(a<gN↔b<gN)
structure Ren.Le (ρ σ:Ren):Prop where
 r:∀{a b},ρ.r a b->σ.r a b
 lax:ρ.lax=σ.lax
 dim:ρ.dim=σ.dim
 al:ρ.al=σ.al
def Ren.Le.refl(ρ:Ren):ρ.Le ρ:=⟨id,rfl,rfl,rfl⟩
def Ren.Le.trans{ρ σ a:Ren}(h:ρ.Le σ)(k:σ.Le a):ρ.Le a:=⟨λx=>k.r (h.r x),h.lax.trans k.lax,h.dim.trans k.dim,h.al.trans k.al⟩
inductive AR (ρ:Ren):Addr->Addr->Prop
 |mk {b b':Nat} (h:ρ.r b b') (o:Nat) (s:Option Nat):AR ρ ⟨b,o,s⟩ ⟨b',o,s⟩
inductive OAR (ρ:Ren):Option Addr->Option Addr->Prop
 |none:OAR ρ none none
 |some {a a':Addr} (h:AR ρ a a'):OAR ρ (some a) (some a')
inductive NR (ρ:Ren):Option Nat->Option Nat->Prop
 |none:NR ρ none none
 |some {a a':Nat} (h:ρ.r a a'):NR ρ (some a) (some a')
def jK:Value->Bool
 |.int .. | .float .. | .complex .. | .slice .. | .pointer (some _)|.map _|.chan _|.func (.func _) .. | .func (.methodOf ..) .. | .func (.via ..) .. | .func (.yield _) .. | .iface .. =>true
 |_=>false
def anI(k:Nat):Value:=.func (.method "") #[.nilIface] (Array.replicate k .nilIface)
mutual
inductive VR (ρ:Ren):Value->Value->Prop
 |bool (b:Bool):VR ρ (.bool b) (.bool b)
 |int (k:IntKind) (n:Int):VR ρ (.int k n) (.int k n)
 |string (s:ByteArray):VR ρ (.string s) (.string s)
 |pointer {a a':Option Addr} (h:OAR ρ a a'):VR ρ (.pointer a) (.pointer a')
 |slice {a a':Option Addr} (h:OAR ρ a a') (l c:Nat):VR ρ (.slice a l c) (.slice a' l c)
 |map {a a':Option Nat} (h:NR ρ a a'):VR ρ (.map a) (.map a')
 |chan {a a':Option Nat} (h:NR ρ a a'):VR ρ (.chan a) (.chan a')
 |func {f f':Fn} (hf:FR ρ f f') {a a' c c':Array Value} (h:bU ρ a.toList a'.toList) (hc:bU ρ c.toList c'.toList):VR ρ (.func f a c) (.func f' a' c')
 |nilFunc:VR ρ .nilFunc .nilFunc
 |iface (t:TypeId) {v v':Value} (h:VR ρ v v'):VR ρ (.iface t v) (.iface t v')
 |nilIface:VR ρ .nilIface .nilIface
 |agg {c c':Array Value} (h:bU ρ c.toList c'.toList):VR ρ (.agg c) (.agg c')
 |tuple {c c':Array Value} (h:bU ρ c.toList c'.toList):VR ρ (.tuple c) (.tuple c')
 |fQ {v':Value} (hl:ρ.dim=true) (h:jK v'=true):VR ρ (.tuple #[]) v'
 |abp (k:Nat) {n:String} {a c:Array Value} (hl:ρ.al k=some (.func (.method n) a c)):VR ρ (anI k) (.func (.method n) a c)
inductive bU (ρ:Ren):List Value->List Value->Prop
 |nil:bU ρ [] []
 |cons {v v':Value} {l l':List Value} (h:VR ρ v v') (hl:bU ρ l l'):bU ρ (v::l) (v'::l')
inductive FR (ρ:Ren):Fn->Fn->Prop
 |same (f:Fn) (h:awY gA f=true):FR ρ f f
 |yield {l l':Nat} (h:ρ.r l l'):FR ρ (.yield l) (.yield l')
end
def AR.mono{ρ b:Ren}(h:ρ.Le b) :AR ρ a Y->AR b a Y
 |.mk x o s=>.mk (h.r x) o s
def OAR.mono{ρ b:Ren}(h:ρ.Le b){a : Option Addr}:OAR ρ a Q->OAR b a Q
 |.none=>.none
 |.some x=>.some (x.mono h)
def NR.mono{ρ b:Ren}(h:ρ.Le b){a : Option Nat}:NR ρ a E->NR b a E
 |.none=>.none
 |.some x=>.some (h.r x)
mutual
def VR.mono{ρ d:Ren}(h:ρ.Le d):∀{v a:Value},VR ρ v a->VR d v a
 |_,_,.bool b=>.bool b
 |_,_,.int k n=>.int k n
 |_,_,.string s=>.string s
 |_,_,.pointer x=>.pointer (x.mono h)
 |_,_,.slice x l c=>.slice (x.mono h) l c
 |_,_,.map x=>.map (x.mono h)
 |_,_,.chan x=>.chan (x.mono h)
 |_,_,.func f x y=>.func (FR.mono h f) (bU.mono h x) (bU.mono h y)
 |_,_,.nilFunc=>.nilFunc
 |_,_,.iface t x=>.iface t (VR.mono h x)
 |_,_,.nilIface=>.nilIface
 |_,_,.agg x=>.agg (bU.mono h x)
 |_,_,.tuple x=>.tuple (bU.mono h x)
 |_,_,.fQ hl x=>.fQ (h.dim▸hl) x
 |_,_,.abp k hl=>.abp k (h.al▸hl)
def bU.mono{ρ a:Ren}(h:ρ.Le a):∀{l b:List Value},bU ρ l b->bU a l b
 |_,_,.nil=>.nil
 |_,_,.cons x y=>.cons (VR.mono h x) (bU.mono h y)
def FR.mono{ρ b:Ren}(h:ρ.Le b):∀{f a:Fn},FR ρ f a->FR b f a
 |_,_,.same f x=>.same f x
 |_,_,.yield x=>.yield (h.r x)
end
def bU.length{ρ:Ren}:∀{l a:List Value},bU ρ l a->l.length=a.length
 |_,_,.nil=>rfl
 |_,_,.cons _ h=>by simp[h.length]
def bU.get{ρ:Ren}:∀{l a:List Value},bU ρ l a->∀{i:Nat} {v:Value},l[i]?=some v->∃b,a[i]?=some b/\VR ρ v b
 |_,_,.nil,_,_,h=>by simp at h
 |_,_,.cons x _,0,_,h=>by simp at h;subst h;exact⟨_,rfl,x⟩
 |_,_,.cons _ y,i+1,_,h=>by simp at h;simpa using y.get h
def bU.set{ρ:Ren}:∀{l a:List Value},bU ρ l a->∀(i:Nat) {v b:Value},VR ρ v b->bU ρ (l.set i v) (a.set i b)
 |_,_,.nil,_,_,_,_=>.nil
 |_,_,.cons _ y,0,_,_,h=>.cons h y
 |_,_,.cons x y,i+1,_,_,h=>.cons x (y.set i h)
def bU.app{ρ:Ren}:∀{l b:List Value},bU ρ l b->∀{m a:List Value},bU ρ m a->bU ρ (l++m) (b++a)
 |_,_,.nil,_,_,h=>h
 |_,_,.cons x y,_,_,h=>.cons x (y.app h)
def ZR(ρ:Ren)(n:Nat)(z z':Nat×Nat):Prop:=z=z'\/(ρ.lax=true/\z.1=0/\n<z.2/\(z'.1=z'.2\/z'.2<=z.2))
inductive ER (ρ:Ren):MapEntry->MapEntry->Prop
 |mk {k k' v v':Value} (hk:VR ρ k k') (hv:VR ρ v v') (b:Nat):ER ρ ⟨k,v,b⟩ ⟨k',v',b⟩
inductive mU (ρ:Ren):List MapEntry->List MapEntry->Prop
 |nil:mU ρ [] []
 |cons {v v':MapEntry} {l l':List MapEntry} (h:ER ρ v v') (hl:mU ρ l l'):mU ρ (v::l) (v'::l')
inductive OR (ρ:Ren):Obj->Obj->Prop
 |cells {c c':Array Value} (h:bU ρ c.toList c'.toList) (t:TypeId) {z z':Nat×Nat} (hz:ZR ρ c.size z z'):OR ρ (.cells c t z) (.cells c' t z')
 |map {e e':Array MapEntry} (h:mU ρ e.toList e'.toList) (k:Nat):OR ρ (.map e k) (.map e' k)
 |stringIter (s:ByteArray) (p:Nat):OR ρ (.stringIter s p) (.stringIter s p)
 |number {a a':Addr} (h:AR ρ a a') (l:Bool):OR ρ (.number a l) (.number a' l)
 |mapIter {m m':Option Nat} (h:NR ρ m m') (s:Nat) (seen:Array Nat) (n:Nat):OR ρ (.mapIter m s seen n) (.mapIter m' s seen n)
 |loop {l l':Loop} (h1:l.state=l'.state) (h2:l.pending=l'.pending.map gP) (h3:l.fn=l'.fn) (h4:bU ρ l.tmps.toList l'.tmps.toList) (h5:l.params=l'.params) (h6:l.assign=gP l'.assign) (h7:l.body=gP l'.body) (h8:ρ.r l.defers l'.defers):OR ρ (.loop l) (.loop l')
 |bI:OR ρ (.deferred none) (.deferred none)
 |deferred:OR ρ (.deferred (some [])) (.deferred (some []))
end
section
open Go
structure WR (ρ:Ren) (w w':World):Prop where
 obj:∀{b b'},ρ.r b b'->∃o o',w.heap[b]?=some o/\w'.heap[b']?=some o'/\OR ρ o o'
 os:w.ou=w'.ou
 lf:gN<=w.heap.size/\gN<=w'.heap.size
def WR.lt{ρ:Ren}(h:WR ρ w w'){b : Nat}(c:ρ.r b R):b<w.heap.size/\R<w'.heap.size:=by
 obtain⟨o,e,d,a, -⟩:=h.obj c;exact⟨(dl.1 d).1,(dl.1 a).1⟩
def Ren.ext(ρ:Ren)(x y:Nat)(hx:∀b,¬ρ.r x b)(hy:∀b,¬ρ.r b y)(gx:gN<=x)(gy:gN<=y):Ren where
 r a b:=ρ.r a b\/(a=x/\b=y)
 lax:=ρ.lax
 dim:=ρ.dim
 al:=ρ.al
 fn:=by
  rintro a b c (h|⟨rfl,rfl⟩) (k|⟨e,rfl⟩)
  .exact ρ.fn h k
  .subst e;exact absurd h (hx _)
  .exact absurd k (hx _)
  .rfl
 inj:=by
  rintro a b c (h|⟨rfl,rfl⟩) (k|⟨rfl,e⟩)
  .exact ρ.inj h k
  .subst e;exact absurd h (hy _)
  .exact absurd k (hy _)
  .rfl
 lf:=by
  rintro a b (h|⟨rfl,rfl⟩)
  .exact ρ.lf h
  .omega
def Ren.ad4{ρ:Ren}{x y:Nat}{d c b a}:ρ.Le (ρ.ext x y d c b a):=⟨.inl,rfl,rfl,rfl⟩
inductive MkR (ρ:Ren):Mark->Mark->Prop
 |extern (f:FuncId):MkR ρ (.extern f) (.extern f)
 |noRoom:MkR ρ .noRoom .noRoom
inductive LR (ρ:Ren):Go.Loc->Go.Loc->Prop
 |cell {a a':Addr} (h:AR ρ a a'):LR ρ (.cell a) (.cell a')
 |obj {r r':Nat} (h:ρ.r r r'):LR ρ (.obj r) (.obj r')
 |mark {m m':Mark} (h:MkR ρ m m'):LR ρ (.mark m) (.mark m')
inductive EvR (ρ:Ren):Event->Event->Prop
 |mk {l l':Go.Loc} (h:LR ρ l l') (w s:Bool):EvR ρ ⟨l,w,s⟩ ⟨l',w,s⟩
inductive mD (ρ:Ren):List Event->List Event->Prop
 |nil:mD ρ [] []
 |cons {v v':Event} {l l':List Event} (h:EvR ρ v v') (hl:mD ρ l l'):mD ρ (v::l) (v'::l')
def MkR.mono{ρ a:Ren}(_:ρ.Le a){m m':Mark}:MkR ρ m m'->MkR a m m'
 |.extern f=>.extern f
 |.noRoom=>.noRoom
def LR.mono{ρ a:Ren}(h:ρ.Le a){m m':Go.Loc}:LR ρ m m'->LR a m m'
 |.cell x=>.cell (x.mono h)
 |.obj x=>.obj (h.r x)
 |.mark x=>.mark (x.mono h)
def EvR.mono{ρ a:Ren}(h:ρ.Le a){m m':Event}:EvR ρ m m'->EvR a m m'
 |.mk x w s=>.mk (x.mono h) w s
def mD.mono{ρ b:Ren}(h:ρ.Le b):∀{m a:List Event},mD ρ m a->mD b m a
 |_,_,.nil=>.nil
 |_,_,.cons x y=>.cons (x.mono h) (y.mono h)
def ZR.mono{ρ b:Ren}(h:ρ.Le b){n:Nat}{z a:Nat×Nat}(x:ZR ρ n z a):ZR b n z a:=x.imp id λy=>⟨h.lax▸y.1,y.2⟩
def ER.mono{ρ a:Ren}(h:ρ.Le a){m m':MapEntry}:ER ρ m m'->ER a m m'
 |.mk x y b=>.mk (x.mono h) (y.mono h) b
def mU.mono{ρ b:Ren}(h:ρ.Le b):∀{m a:List MapEntry},mU ρ m a->mU b m a
 |_,_,.nil=>.nil
 |_,_,.cons x y=>.cons (x.mono h) (y.mono h)
def OR.mono{ρ a:Ren}(h:ρ.Le a){m m':Obj}:OR ρ m m'->OR a m m'
 |.cells x t z=>.cells (x.mono h) t (z.mono h)
 |.map x k=>.map (x.mono h) k
 |.stringIter s p=>.stringIter s p
 |.number x l=>.number (x.mono h) l
 |.mapIter x s t n=>.mapIter (x.mono h) s t n
 |.loop g c d f j e i b=>.loop g c d (f.mono h) j e i (h.r b)
 |.bI=>.bI
 |.deferred=>.deferred
def bJ(w:World)(b:Nat):Prop:=∃c t z,w.heap[b]?=some (.cells c t z)/\z.1=0/\c.size<=z.2/\0<z.2
def NoB(w:World)(b:Nat):Prop:=∀c t z,w.heap[b]?=some (.cells c t z)->∀(i:Nat) k,c[i]?≠some (.int .u8 k)
def ad5(v:Value):Prop:=(∃l,v=.tuple l)\/∃l,v=.agg l
def Rw(w:World)(b:Nat):Prop:=∃c t z,w.heap[b]?=some (.cells c t z)
structure Kept (ρ σ:Ren) (w w' w1 cZ:World):Prop where
 size:w.heap.size<=w1.heap.size
 size':w'.heap.size<=cZ.heap.size
 new:∀{b b'},σ.r b b'->ρ.r b b'\/(w.heap.size<=b/\w'.heap.size<=b')
 out:∀{b},b<w.heap.size->(∀c,¬ρ.r b c)->w1.heap[b]?=w.heap[b]?
 out':∀{b},b<w'.heap.size->(∀c,¬ρ.r c b)->cZ.heap[b]?=w'.heap[b]?
 os:w1.ou=w.ou/\cZ.ou=w'.ou
 tape:w1.tape=w.tape/\cZ.tape=w'.tape
 output:w1.output=w.output/\cZ.output=w'.output
 drawn:w.drawn<=w1.drawn/\w'.drawn<=cZ.drawn
 frz:∀b,bJ w b->bJ w1 b
 le:∀{b b'},ρ.r b b'->σ.r b b'
 still:∀{b b'},ρ.r b b'->bJ w b->NoB w b->w1.heap[b]?=w.heap[b]?/\cZ.heap[b']?=w'.heap[b']?
 poi:∀{b b'},ρ.r b b'->Rw w b->Rw w1 b/\∀i u,ad5 u->w1.cell? ⟨b,i,none⟩=some u->w.cell? ⟨b,i,none⟩=some u/\cZ.cell? ⟨b',i,none⟩=w'.cell? ⟨b',i,none⟩
def bJ.of_eq{b:Nat}(h:bJ w b)(e:S.heap[b]?=w.heap[b]?):bJ S b:=let⟨c,t,z,d,a⟩:=h;⟨c,t,z,e.trans d,a⟩
def NoB.of_eq{b:Nat}(h:NoB w b)(e:S.heap[b]?=w.heap[b]?):NoB S b:=λc t z a=>h c t z (e.symm.trans a)
def Kept.refl(ρ:Ren)(w w':World):Kept ρ ρ w w' w w':=⟨am _,am _,.inl,λ_ _=>rfl,λ_ _=>rfl,⟨rfl,rfl⟩,⟨rfl,rfl⟩,⟨rfl,rfl⟩,⟨am _,am _⟩,λ_ h=>h,id,λ_ _ _=>⟨rfl,rfl⟩,λ_ a=>⟨a,λ_ _ _ b=>⟨b,rfl⟩⟩⟩
def Kept.trans{ρ s q:Ren}{w2 e : World}(h:Kept ρ s w w' S J)(k:Kept s q S J w2 e):Kept ρ q w w' w2 e where
 size:=ap h.size k.size
 size':=ap h.size' k.size'
 new:=λx=>by
  rcases k.new x with y|⟨y,z⟩
  .exact h.new y
  .exact .inr ⟨ap h.size y,ap h.size' z⟩
 out:=λ{b} d a=>by
  rw[k.out (bd d h.size) λc o=> ?_,h.out d a];rcases h.new o with y|⟨y,_⟩
  .exact a c y
  .omega
 out':=λ{b} d a=>by
  rw[k.out' (bd d h.size') λc o=> ?_,h.out' d a];rcases h.new o with y|⟨_,y⟩
  .exact a c y
  .omega
 os:=⟨k.os.1.trans h.os.1,k.os.2.trans h.os.2⟩
 tape:=⟨k.tape.1.trans h.tape.1,k.tape.2.trans h.tape.2⟩
 output:=⟨k.output.1.trans h.output.1,k.output.2.trans h.output.2⟩
 drawn:=⟨ap h.drawn.1 k.drawn.1,ap h.drawn.2 k.drawn.2⟩
 frz:=λb x=>k.frz b (h.frz b x)
 le:=λx=>k.le (h.le x)
 still:=λf p a=>by
  obtain⟨g,n⟩:=h.still f p a;obtain⟨j,m⟩:=k.still (h.le f) (p.of_eq g) (a.of_eq g);exact⟨j.trans g,m.trans n⟩
 poi:=λf B=>by
  obtain⟨v,A⟩:=h.poi f B;obtain⟨l,t⟩:=k.poi (h.le f) v;refine⟨l,λi u r C=> ?_⟩;obtain⟨j,m⟩:=t i u r C;obtain⟨g,n⟩:=A i u r j;exact⟨g,m.trans n⟩
def Obj.ay6:Obj->Bool
 |.cells .. =>true
 |_=>false
def NoD(o:Obj):Prop:=∀d l,o ≠ .deferred (some (d::l))
def Leaves{α:Type}(P:Program)(A:α->Prop):Sem α->Prop
 |.pure a=>A a
 |.load _ _ k=>∀v,Leaves P A (k v)
 |.store _ _ _ k=>Leaves P A k
 |.new o k=>NoD o/\∀r,Leaves P A (k r)
 |.shape _ k=>∀z,Leaves P A (k z)
 |.freeze _ _ k=>Leaves P A k
 |.frozen _ k=>∀b,Leaves P A (k b)
 |.getObj _ k=>∀o,Leaves P A (k o)
 |.setObj _ _ _=>False
 |.choose _ k=>∀n,Leaves P A (k n)
 |.sys _ k=>∀r,Leaves P A (k r)
 |.program k=>Leaves P A (k P)
 |.mark _ k=>Leaves P A k
 |.halt _=>True
def lh{α:Type}(P:Program)(s:Sem α):Prop:=Leaves P (λ_=>False) s
def Leaves.bind{A:V->Prop}{B:β->Prop}{f:V->Sem β}:∀{s:Sem V},Leaves P A s->(∀a,A a->Leaves P B (f a))->Leaves P B (s.bind f):=by
 intro s
 induction s with
 |pure a=>intro h b;exact b a h
 |load m a k d=>intro h b v;exact d v (h v) b
 |store m a v k d=>intro h b;exact d h b
 |new o k d=>intro h b;exact⟨h.1,λr=>d r (h.2 r) b⟩
 |shape r k d=>intro h b v;exact d v (h v) b
 |freeze a n k d=>intro h b;exact d h b
 |frozen a k d=>intro h b v;exact d v (h v) b
 |getObj r k d=>intro h b v;exact d v (h v) b
 |setObj r o k d=>intro h;exact h.elim
 |choose q k d=>intro h b v;exact d v (h v) b
 |sys c k d=>intro h b v;exact d v (h v) b
 |program k d=>intro h b;exact d _ h b
 |mark m k d=>intro h b;exact d h b
 |halt h=>intro _ _;trivial
def lh.bind(h:lh P s)(f:V->Sem β):lh P (s.bind f):=Leaves.bind h λ_ h=>h.elim
def iW(b:Leaves P (λ_=>True) s){f:V->Sem β}(h:∀a,lh P (f a)):lh P (s >>=f):=Leaves.bind b λa _=>h a
def gz(h:Halt):lh P (.halt h:Sem V):=trivial
def fR(w w1:World):Prop:=∀(b:Nat) (d:Deferred) (l:List Deferred),w1.heap[b]?=some (Obj.deferred (some (d::l)))->w.heap[b]?=some (Obj.deferred (some (d::l)))
def fR.refl(w:World):fR w w:=λ_ _ _ h=>h
def fR.trans{a b c:World}(h:fR a b)(k:fR b c):fR a c:=λx d l e=>h x d l (k x d l e)
def fR.setCell(w:World)(a:Addr)(v:Value):fR w (w.setCell a v):=λb d l h=>by
 unfold World.setCell at h;simp only[pm] at h;by_cases e:a.block=b
 .rw[eg e] at h;cases c:w.heap[b]? with
  |none=>rw[c] at h;cases h
  |some o=>rw[c] at h;cases o<;>simp at h;rw[h]
 .rw[da e] at h;exact h
def fR.freeze(w:World)(a:Addr)(n:Nat):fR w (w.freeze a n):=λb d l h=>by
 unfold World.freeze at h;by_cases f:n=0
 .rw[eg f] at h;exact h
 rw[da f] at h;simp only[pm] at h;by_cases e:a.block=b
 .rw[eg e] at h;cases c:w.heap[b]? with
  |none=>rw[c] at h;cases h
  |some o=>rw[c] at h;cases o<;>simp at h;rw[h]
 .rw[da e] at h;exact h
def fR.push(w:World)(a:NoD o):fR w {w with heap:=w.heap.push o}:=λb d l h=>by
 change (w.heap.push o)[b]?=_ at h;rw[qK] at h;split at h
 .simp only[mt] at h;exact absurd h (a d l)
 .exact h
def fR.set(w:World)(r:Nat)(a:NoD o):fR w {w with heap:=w.heap.setIfInBounds r o}:=λb d l h=>by
 change (w.heap.setIfInBounds r o)[b]?=_ at h;rw[oS] at h;split at h
 .split at h
  .simp only[mt] at h;exact absurd h (a d l)
  .cases h
 .exact h
def ad6{u:TypeId}{k:Addr}{b:Bool}(h:w.viewStore P Y u k v b=.ok (S,D)):∃r c e z,S={w with heap:=w.heap.setIfInBounds r (.cells c e z)}:=by
 unfold World.viewStore at h;simp only[bind,Except.bind,pure,Except.pure,throw,throwThe,MonadExceptOf.throw] at h
 repeat' split at h
 all_goals first|(cases h;done)|(cases h;exact⟨_,_,_,_,rfl⟩)
def fR.farStore{b:Bool}(h:w.farStore P a v b=.ok (S,D)):fR w S:=by
 unfold World.farStore at h;split at h
 .split at h
  .rename_i f;simp only[Except.ok.injEq] at h;subst h;obtain⟨r,c,e,z,rfl⟩:=ad6 f;exact fR.set w r λd l e=>by cases e
  .cases h
 .cases h
def ad7{b:Type}:∀(a:Ask b) (w:World),(w.ask a).2.heap=w.heap
 |.done a,w=>rfl
 |.ask what range k,w=>by
  unfold World.ask;dsimp only;split
  .exact ad7 (k 0) w
  .exact ad7 (k _) _
def apJ(w:World)(c:Sys):(w.sys c).2.heap=w.heap:=by
 have h:=ad7 (Kernel.perform c w.os) w;unfold World.sys;split
 .rfl
 .rename_i r d b a;rw[a] at h;exact h
def Leaves.avO  :∀{s:Sem V},lh P s->∀(w:World) (g:Array Event),∃h i t,s.runT P w g=(.halt h i,t)/\fR w i:=by
 intro s
 induction s with
 |pure a=>intro h;exact h.elim
 |load m a k f=>
  intro h w g;rw[Sem.runT];cases C:w.cell? a with
  |some v=>exact f v (h v) _ _
  |none=>
   cases A:w.farLoad P a (m ==.atomic) with
   |error e=>exact⟨_,_,_,rfl,.refl _⟩
   |ok q=>obtain⟨v,B⟩:=q;exact f v (h v) _ _
 |store m a v k f=>
  intro h w g;by_cases z:(∀x,v ≠ .agg x)/\∀x,v ≠ .tuple x
  .rw[sE _ _ _ _ _ _ _ z.1 z.2];cases C:w.cell? a with
   |some u=>
    cases A:w.frozen? a with
    |true=>exact⟨_,_,_,rfl,.refl _⟩
    |false=>
     simp only[lc,qL];obtain⟨y,i,t,p,j⟩:=f h (w.setCell a v) (g.push ⟨.cell a,true,m ==.atomic⟩);exact⟨y,i,t,p,(fR.setCell w a v).trans j⟩
   |none=>
    cases A:w.farStore P a v (m ==.atomic) with
    |error e=>exact⟨_,_,_,rfl,.refl _⟩
    |ok q=>
     obtain⟨D,B⟩:=q;obtain⟨y,i,t,p,j⟩:=f h D (g++B.toArray.map (⟨.cell ·,true,m ==.atomic⟩));exact⟨y,i,t,p,(fR.farStore A).trans j⟩
  .have:(∃x,v=.agg x)\/∃x,v=.tuple x:=by
    by_cases p:∃x,v=.agg x
    .exact .inl p
    .by_cases j:∃x,v=.tuple x
     .exact .inr j
     .exact absurd ⟨λx e=>p ⟨x,e⟩,λx e=>j ⟨x,e⟩⟩ z
   rcases this with⟨x,rfl⟩|⟨x,rfl⟩<;>exact⟨_,_,_,by rw[Sem.runT],.refl _⟩
 |new o k f=>
  intro h w g;rw[Sem.runT];obtain⟨y,i,t,p,j⟩:=f _ (h.2 _) {w with heap:=w.heap.push o} g;exact⟨y,i,t,p,(fR.push w h.1).trans j⟩
 |shape r k f=>intro h w g;rw[Sem.runT];exact f _ (h _) _ _
 |freeze a n k f=>
  intro h w g;rw[Sem.runT];obtain⟨y,i,t,p,j⟩:=f h (w.freeze a n) g;exact⟨y,i,t,p,(fR.freeze w a n).trans j⟩
 |frozen a k f=>intro h w g;rw[Sem.runT];exact f _ (h _) _ _
 |getObj r k f=>
  intro h w g;rw[Sem.runT];cases C:w.heap[r]? with
  |none=>exact⟨_,_,_,rfl,.refl _⟩
  |some o=>cases o<;>first|exact⟨_,_,_,rfl,.refl _⟩|exact f _ (h _) _ _
 |setObj r o k f=>intro h;exact h.elim
 |choose q k f=>
  intro h w g;rw[Sem.runT];split
  .exact f _ (h _) _ _
  .exact f _ (h _) {w with drawn:=w.drawn+1} _
 |sys c k f=>
  intro h w g;rw[Sem.runT];obtain⟨y,i,t,p,j⟩:=f (w.sys c).1 (h _) (w.sys c).2 (g.push ⟨.output,true,false⟩);exact⟨y,i,t,p,fR.trans (λb d l e=>by rw[apJ] at e;exact e) j⟩
 |program k f=>intro h w g;rw[Sem.runT];exact f _ h _ _
 |mark m k f=>intro h w g;rw[Sem.runT];exact f h _ _
 |halt h=>intro _ w g;rw[Sem.runT];exact⟨_,_,_,rfl,.refl _⟩
inductive az (P P':Program) {α β:Type} (A:Ren->α->β->Prop):Ren->Sem α->Sem β->Prop
 |pure {ρ a b} (h:A ρ a b):az P P' A ρ (.pure a) (.pure b)
 |load {ρ} (m:Mode) {a a' k k'} (ha:AR ρ a a') (hk:∀v v',VR ρ v v'->az P P' A ρ (k v) (k' v')):az P P' A ρ (.load m a k) (.load m a' k')
 |store {ρ} (m:Mode) {a a' v v' k k'} (ha:AR ρ a a') (hv:VR ρ v v') (hk:az P P' A ρ k k'):az P P' A ρ (.store m a v k) (.store m a' v' k')
 |new {ρ o o' k k'} (ho:OR ρ o o') (hk:∀σ r r',ρ.Le σ->σ.r r r'->az P P' A σ (k r) (k' r')):az P P' A ρ (.new o k) (.new o' k')
 |shape {ρ r r' k k'} (hr:ρ.r r r') (hk:∀s,az P P' A ρ (k s) (k' s)):az P P' A ρ (.shape r k) (.shape r' k')
 |amv {ρ} {a a':Addr} (n:Nat) {k:ByteArray->Sem α} {k':ByteArray->Sem β} (ha:AR ρ a a') (hk:∀s,az P P' A ρ (k s) (k' s)):az P P' A ρ ((loadBytes a .empty (n+1)).bind λs=>.freeze a (n+1) (k s)) ((loadBytes a' .empty (n+1)).bind λs=>.freeze a' (n+1) (k' s))
 |as6 {ρ} {c c':Array Value} (t:TypeId) {k:Nat->Sem α} {k':Nat->Sem β} (hc:bU ρ c.toList c'.toList) (hk:∀σ r r',ρ.Le σ->σ.r r r'->az P P' A σ (k r) (k' r')):az P P' A ρ (.new (.cells c t) λr=>(markStringish ⟨r,0,none⟩).bind λ_=>k r) (.new (.cells c' t) λr=>(markStringish ⟨r,0,none⟩).bind λ_=>k' r)
 |frozen {ρ a a' k k'} (ha:AR ρ a a') (hk:∀b b':Bool,(b'=true->b=true)->az P P' A ρ (k b) (k' b')):az P P' A ρ (.frozen a k) (.frozen a' k')
 |getObj {ρ r r' k k'} (hr:ρ.r r r') (hk:∀o o',OR ρ o o'->az P P' A ρ (k o) (k' o')):az P P' A ρ (.getObj r k) (.getObj r' k')
 |setObj {ρ r r' o o' k k'} (hr:ρ.r r r') (ho:OR ρ o o') (hk:az P P' A ρ k k'):az P P' A ρ (.setObj r o k) (.setObj r' o' k')
 |choose {ρ} (q:Question) {k k'} (hk:∀n,az P P' A ρ (k n) (k' n)):az P P' A ρ (.choose q k) (.choose q k')
 |abq {ρ} (q:Question) (n:Nat) (hq:q.forced=false) {k} {s':Sem β} (hk:az P P' A ρ (k (q.cut n)) s'):az P P' A ρ (.choose q k) s'
 |adS {ρ} {s:Sem α} {a' k'} (hk:∀b,az P P' A ρ s (k' b)):az P P' A ρ s (.frozen a' k')
 |agH {ρ} {s:Sem α} {r' k'} (hk:∀b,az P P' A ρ s (k' b)):az P P' A ρ s (.shape r' k')
 |program {ρ k k'} (hk:az P P' A ρ (k P) (k' P')):az P P' A ρ (.program k) (.program k')
 |mark {ρ m m' k k'} (hm:MkR ρ m m') (hk:az P P' A ρ k k'):az P P' A ρ (.mark m k) (.mark m' k')
 |halt {ρ} (h:Halt) (s:Sem β):az P P' A ρ (.halt h) s
 |dead {ρ} {s:Sem α} (h:lh P s) (s':Sem β):az P P' A ρ s s'
def az.bind {F G : Type} {A:Ren->V->β->Prop} {B:Ren->F->G->Prop} {ρ:Ren}  {f:V->Sem F} {f':β->Sem G}
  (h:az P P' A ρ s s') (g:∀u a p,ρ.Le u->A u a p->az P P' B u (f a) (f' p)):az P P' B ρ (s.bind f) (s'.bind f'):=by
 induction h with
 |pure x=>exact g _ _ _ (Ren.Le.refl _) x
 |load m j i d=>exact .load m j λv H E=>d v H E g
 |store m j E i d=>exact .store m j E (d g)
 |new w i d=>exact .new w λu r z y l=>d u r z y l λD a p C j=>g D a p (y.trans C) j
 |shape l i d=>exact .shape l λs=>d s g
 |@amv ρ a p n k L j i d=>
  have e:∀(a:Addr) {V β:Type} (k:ByteArray->Sem V) (f:V->Sem β),((loadBytes a .empty (n+1)).bind λs=>Sem.freeze a (n+1) (k s)).bind f=(loadBytes a .empty (n+1)).bind λs=>.freeze a (n+1) ((k s).bind f):=λa V β k f=>Sem.bind_assoc' _ _ _;rw[e,e];exact .amv n j λs=>d s g
 |@as6 ρ c O t k L K i d=>
  have e:∀(c:Array Value) {V β:Type} (k:Nat->Sem V) (f:V->Sem β),(Sem.new (.cells c t) λr=>(markStringish ⟨r,0,none⟩).bind λ_=>k r).bind f=.new (.cells c t) λr=>(markStringish ⟨r,0,none⟩).bind λ_=>(k r).bind f:=λc V β k f=>
   jt (Sem.new (.cells c t)) (funext λr=>Sem.bind_assoc' _ _ _)
  rw[e,e];exact .as6 t K λu r z y l=>d u r z y l λD a p C j=>g D a p (y.trans C) j
 |frozen j i d=>exact .frozen j λb I h=>d b I h g
 |getObj l i d=>exact .getObj l λo M w=>d o M w g
 |setObj l w i d=>exact .setObj l w (d g)
 |choose q i d=>exact .choose q λn=>d n g
 |abq q n J i d=>exact .abq q n J (d g)
 |adS i d=>exact .adS λb=>d b g
 |agH i d=>exact .agH λb=>d b g
 |program i d=>exact .program (d g)
 |mark N i d=>exact .mark N (d g)
 |halt h s=>exact .halt h _
 |dead h s=>exact .dead (h.bind _) _
def bJ.setCell(w:World)(a:Addr)(v:Value)(b:Nat)(h:bJ w b):bJ (w.setCell a v) b:=by
 obtain⟨c,t,z,g,d,i,f⟩:=h;unfold World.setCell;simp only[bJ,pm];by_cases e:a.block=b
 .rw[eg e,g];refine⟨_,t,z,rfl,d, ?_,f⟩;split<;>simpa using i
 .rw[da e];exact⟨c,t,z,g,d,i,f⟩
def bJ.push(w:World)(o:Obj)(b:Nat)(h:bJ w b):bJ {w with heap:=w.heap.push o} b:=by
 obtain⟨c,t,z,a,e,g,f⟩:=h;have d:=(dl.1 a).1;refine⟨c,t,z, ?_,e,g,f⟩;show(w.heap.push o)[b]?=_;rw[qK,da (by omega)];exact a
def bJ.set(w:World)(i:∀c t z,w.heap[r]?≠some (.cells c t z))(b:Nat)(h:bJ w b):bJ {w with heap:=w.heap.setIfInBounds r o} b:=by
 obtain⟨c,t,z,a,d,g,f⟩:=h;refine⟨c,t,z, ?_,d,g,f⟩;show(w.heap.setIfInBounds r o)[b]?=_;by_cases e:r=b
 .subst e;exact absurd a (i _ _ _)
 .rw[kw e];exact a
def bJ.freeze(w:World)(a:Addr)(n:Nat)(b:Nat)(h:bJ w b):bJ (w.freeze a n) b:=by
 obtain⟨c,t,z,i,d,f,g⟩:=h;unfold World.freeze;by_cases k:n=0
 .rw[eg k];exact⟨c,t,z,i,d,f,g⟩
 rw[da k];simp only[bJ,pm];by_cases e:a.block=b
 .rw[eg e,i];obtain⟨l,j⟩:=z;dsimp only at d f g;refine⟨c,t,(min l a.off,max j (a.off+n)), ?_, ?_, ?_, ?_⟩
  .show some (Obj.cells c t (if l ==j then _ else _))=_;rw[da (by simp;omega)]
  .dsimp only;omega
  .dsimp only;omega
  .dsimp only;omega
 .rw[da e];exact⟨c,t,z,i,d,f,g⟩
def WR.dN{ρ a:Ren}(h:WR ρ w w')(k:ρ.Le a)(e:∀{b d},a.r b d->∃o c,S.heap[b]?=some o/\J.heap[d]?=some c/\OR a o c)(f:S.ou=w.ou)(j:J.ou=w'.ou)(i:w.heap.size<=S.heap.size)(g:w'.heap.size<=J.heap.size):WR a S J:=⟨e,f.trans (h.os.trans j.symm),ap h.lf.1 i,ap h.lf.2 g⟩
def WR.cell{ρ:Ren}(h:WR ρ w w')(g:AR ρ a Y)(b:w.cell? a=some v):∃c,w'.cell? Y=some c/\VR ρ v c:=by
 obtain⟨e,o,s⟩:=g;obtain⟨x,k,i,d,f⟩:=h.obj e;unfold World.cell? at b ⊢;simp only at b ⊢;rw[i] at b;rw[d];cases f with
 |cells j t l=>
  simp only at b ⊢;cases s with
  |some s=>simp at b
  |none=>
   simp only[tF,lc,qL] at b ⊢;rw[<-fi] at b ⊢;exact j.get b
 |map|stringIter|number|mapIter|loop|bI|deferred=>simp at b
def WR.aj9{ρ:Ren}(h:WR ρ w w')(f:AR ρ a Y)(p:Program)(b:Bool)(k:w.cell? a=none):(∃e,w.farLoad p a b=.error e)/\∀v,∃e,w.farStore p a v b=.error e:=by
 obtain⟨c,o,s⟩:=f;obtain⟨x,j,g,i,d⟩:=h.obj c;unfold World.farLoad World.farStore;simp only[g];cases d<;>exact⟨⟨_,rfl⟩,λ_=>⟨_,rfl⟩⟩
def WR.anJ{ρ:Ren}(h:WR ρ w w')(j:AR ρ a Y)(b:w.cell? a=some v)(d:w.frozen? a=false):w'.frozen? Y=false:=by
 obtain⟨g,o,s⟩:=j;obtain⟨x,q,k,f,i⟩:=h.obj g;unfold World.frozen? at d ⊢;unfold World.cell? at b;simp only at d b ⊢;rw[k] at d b;rw[f];cases i with
 |cells r t l=>
  rcases l with rfl|⟨_,p,u, -⟩
  .exact d
  .exfalso;rename_i c m z n;simp only at b d;cases s with
   |some s=>simp at b
   |none=>
    simp only[tF,lc,qL] at b;have e:=(dl.1 b).1;simp at d;omega
 |map|stringIter|number|mapIter|loop|bI|deferred=>rfl
def WR.anK{ρ:Ren}(h:WR ρ w w')(f:AR ρ a Y)(b:w'.frozen? Y=true):w.frozen? a=true:=by
 obtain⟨d,o,s⟩:=f;obtain⟨x,m,g,c,e⟩:=h.obj d;unfold World.frozen? at b ⊢;simp only[g,c] at b ⊢;cases e with
 |cells k t i=>
  rcases i with rfl|⟨_,j,n,l⟩
  .exact b
  .simp at b ⊢;omega
 |map|stringIter|number|mapIter|loop|bI|deferred=>cases b
def WR.shape{ρ:Ren}(h:WR ρ w w')(b:ρ.r r R):w.shape? r=w'.shape? R:=by
 obtain⟨x,f,c,a,e⟩:=h.obj b;unfold World.shape?;simp only[c,a];cases e with
 |cells d t g=>
  have:=d.length;simp only[qS] at this;show some (t,_)=some (t,_);rw[this]
 |map|stringIter|number|mapIter|loop|bI|deferred=>rfl
def WR.turn {ρ:Ren} (h:WR ρ w w') (g:ρ.r r R) (F j:Obj->Obj) (q:∀b,S.heap[b]?=if b=r then(w.heap[b]?).map F else w.heap[b]?) (k:∀b,J.heap[b]?=if b=R then(w'.heap[b]?).map j else w'.heap[b]?)
  (u:∀o c,OR ρ o c->OR ρ (F o) (j c)) (n:S.ou=w.ou) (t:J.ou=w'.ou) (p:S.heap.size=w.heap.size) (m:J.heap.size=w'.heap.size):WR ρ S J:=by
 refine h.dN (Ren.Le.refl _) (λ{b l} a=> ?_) n t (pe p.symm) (pe m.symm)
 .obtain⟨o,c,f,i,d⟩:=h.obj a;rw[q,k];by_cases e:b=r
  .subst e;obtain rfl:=ρ.fn a g;rw[eg rfl,eg rfl,f,i];exact⟨_,_,rfl,rfl,u _ _ d⟩
  .have s:l≠R:=λx=>e (ρ.inj a (x▸g));rw[da e,da s,f,i];exact⟨_,_,rfl,rfl,d⟩
def mg(w:World)(a:Addr)(v:Value)(b:Nat):(w.setCell a v).heap[b]?=if b=a.block then(w.heap[b]?).map (fun
   |.cells c d frozen=>.cells (if a.spot.isSome then c else c.setIfInBounds a.off v) d frozen
   |o=>o) else w.heap[b]?:=by
 unfold World.setCell;simp only[pm];by_cases e:b=a.block
 .rw[eg e,eg e.symm]
  congr 1
 .rw[da e,da (sI e)]
def WR.setCell{ρ:Ren}(h:WR ρ w w')(m:AR ρ a Y)(q:VR ρ v v'):WR ρ (w.setCell a v) (w'.setCell Y v'):=by
 obtain⟨f,o,s⟩:=m;refine h.turn f _ _ (mg w _ v) (mg w' _ v') (λx A i=> ?_) rfl rfl (by unfold World.setCell;simp) (by unfold World.setCell;simp);cases i with
 |cells b t c=>
  cases s with
  |some s=>exact .cells b t c
  |none=>exact .cells (by simpa using b.set o q) t (by simpa using c)
 |map x k=>exact .map x k
 |stringIter s p=>exact .stringIter s p
 |number x l=>exact .number x l
 |mapIter x s t n=>exact .mapIter x s t n
 |loop u e g r z j y d=>exact .loop u e g r z j y d
 |bI=>exact .bI
 |deferred=>exact .deferred
def Rw.of_eq{b:Nat}(h:Rw w b)(e:S.heap[b]?=w.heap[b]?):Rw S b:=let⟨c,t,z,a⟩:=h;⟨c,t,z,e.trans a⟩
def js{b i:Nat}(h:S.heap[b]?=w.heap[b]?):S.cell? ⟨b,i,none⟩=w.cell? ⟨b,i,none⟩:=by
 unfold World.cell?;rw[h]
def Kept.turn {ρ:Ren}  (c:ρ.r r R) (j:∀b,b≠r->S.heap[b]?=w.heap[b]?) (k:∀b,b≠R->J.heap[b]?=w'.heap[b]?) (x:S.heap.size=w.heap.size) (t:J.heap.size=w'.heap.size)
  (v:S.ou=w.ou/\J.ou=w'.ou) (q:S.tape=w.tape/\J.tape=w'.tape) (u1:S.output=w.output/\J.output=w'.output) (o:S.drawn=w.drawn/\J.drawn=w'.drawn) (s:∀b,bJ w b->bJ S b) (d:bJ w r->¬NoB w r)
  (p:Rw w r->Rw S r/\∀i u,ad5 u->S.cell? ⟨r,i,none⟩=some u->w.cell? ⟨r,i,none⟩=some u/\J.cell? ⟨R,i,none⟩=w'.cell? ⟨R,i,none⟩):Kept ρ ρ w w' S J:=
 ⟨pe x.symm,pe t.symm,.inl,λ{b} _ a=>j b λe=>a R (e▸c),λ{b} _ a=>k b λe=>a r (e▸c),v,q,u1,⟨pe o.1.symm,pe o.2.symm⟩,s,id,λ{b f} g n a=>⟨j b λe=>d (e▸n) (e▸a),k f λe=>by subst e;obtain rfl:=ρ.inj g c;exact d n a⟩,λ{b f} g m=>by
  by_cases e:b=r
  .subst e;obtain rfl:=ρ.fn g c;exact p m
  .have l:f≠R:=λl=>by subst l;exact e (ρ.inj g c)
   exact⟨m.of_eq (j b e),λi u _ y=>⟨(js (j b e)).symm.trans y,js (k f l)⟩⟩⟩
def Kept.setCell{ρ:Ren}(w w':World)(C:AR ρ a Y)(v v':Value)(p:¬bJ w a.block)(l:¬ad5 v):Kept ρ ρ w w' (w.setCell a v) (w'.setCell Y v'):=by
 obtain⟨y,o,s⟩:=C;refine Kept.turn y (λb n=> ?_) (λb n=> ?_) (by unfold World.setCell;simp) (by unfold World.setCell;simp) ⟨rfl,rfl⟩ ⟨rfl,rfl⟩ ⟨rfl,rfl⟩ ⟨rfl,rfl⟩ (bJ.setCell w _ v) (λh _=>p h) (λx=> ?_)
 .rw[mg,da n]
 .rw[mg,da n]
 .obtain⟨c,t,z,f⟩:=x;rename_i q D;have g:∀(w:World) (b i:Nat) (v:Value),(s.isSome=true\/i≠o)->(w.setCell ⟨b,o,s⟩ v).cell? ⟨b,i,none⟩=w.cell? ⟨b,i,none⟩:=λw b i v j=>by
   unfold World.setCell World.cell?;simp only[pm,pv];cases w.heap[b]? with
   |none=>rfl
   |some B=>
    cases B with
    |cells c t z=>
     cases s with
     |some s=>rfl
     |none=>simp[oS,(j.resolve_left (by simp)).symm]
    |_=>rfl
  have m:Rw (w.setCell ⟨q,o,s⟩ v) q:=by
   unfold Rw World.setCell;simp only[pm,pv,f];cases s<;>exact⟨_,_,_,rfl⟩
  refine⟨m,λi u A k=> ?_⟩;have j:s.isSome=true\/i≠o:=by
   cases s with
   |some s=>exact .inl rfl
   |none=>
    refine .inr λe=> ?_;subst e;unfold World.setCell World.cell? at k;simp only[pm,pv,f] at k;have d:(c.setIfInBounds i v)[i]?=some u:=k;rw[oS,eg rfl] at d;by_cases r:i<c.size
    .rw[eg r] at d;cases d;exact l A
    .rw[da r] at d;cases d
  exact⟨(g _ _ _ _ j).symm.trans k,g _ _ _ _ j⟩
def WR.push{ρ:Ren}(h:WR ρ w w')(l:OR ρ o o') :
  ∃d:Ren,ρ.Le d/\d.r w.heap.size w'.heap.size/\WR d {w with heap:=w.heap.push o} {w' with heap:=w'.heap.push o'}/\Kept ρ d w w' {w with heap:=w.heap.push o} {w' with heap:=w'.heap.push o'}:=by
 have e:∀b,¬ρ.r w.heap.size b:=λb a=>by have:=(h.lt a).1;omega
 have n:∀b,¬ρ.r b w'.heap.size:=λb a=>by have:=(h.lt a).2;omega
 refine⟨ρ.ext _ _ e n h.lf.1 h.lf.2,Ren.ad4,.inr ⟨rfl,rfl⟩,h.dN Ren.ad4 (λ{b c} a=> ?_) rfl rfl (by simp) (by simp), ?_⟩
 .rcases a with a|⟨rfl,rfl⟩
  .obtain⟨x,r,m,q,e⟩:=h.obj a;obtain⟨g,j⟩:=h.lt a;refine⟨x,r, ?_, ?_,e.mono Ren.ad4⟩
   .show(w.heap.push o)[b]?=_;rw[qK,da (by omega)];exact m
   .show(w'.heap.push o')[c]?=_;rw[qK,da (by omega)];exact q
  .exact⟨o,o',by simp,by simp,l.mono Ren.ad4⟩
 .refine⟨by simp,by simp,λa=> ?_,λ{b} a _=> ?_,λ{b} a _=> ?_,⟨rfl,rfl⟩,⟨rfl,rfl⟩,⟨rfl,rfl⟩,⟨am _,am _⟩,bJ.push w o,Ren.ad4.r,λ{b c} a _ _=> ?_,λ{b c} a k=> ?_⟩
  .rcases a with a|⟨rfl,rfl⟩
   .exact .inl a
   .exact .inr ⟨am _,am _⟩
  .show(w.heap.push o)[b]?=_;rw[qK,da (by omega)]
  .show(w'.heap.push o')[b]?=_;rw[qK,da (by omega)]
  .obtain⟨g,j⟩:=h.lt a;refine⟨?_, ?_⟩
   .show(w.heap.push o)[b]?=_;rw[qK,da (by omega)]
   .show(w'.heap.push o')[c]?=_;rw[qK,da (by omega)]
  .obtain⟨g,j⟩:=h.lt a;have f:({w with heap:=w.heap.push o}:World).heap[b]?=w.heap[b]?:=by
    show(w.heap.push o)[b]?=_;rw[qK,da (by omega)]
   have p:({w' with heap:=w'.heap.push o'}:World).heap[c]?=w'.heap[c]?:=by
    show(w'.heap.push o')[c]?=_;rw[qK,da (by omega)]
   exact⟨k.of_eq f,λi u _ s=>⟨(js f).symm.trans s,js p⟩⟩
def WR.set{ρ:Ren}(h:WR ρ w w')(d:ρ.r r R)(m:OR ρ o o') :
  (∀c t z,w.heap[r]?≠some (.cells c t z))->WR ρ {w with heap:=w.heap.setIfInBounds r o} {w' with heap:=w'.heap.setIfInBounds R o'}/\Kept ρ ρ w w' {w with heap:=w.heap.setIfInBounds r o} {w' with heap:=w'.heap.setIfInBounds R o'}:=by
 intro a;have n:=bJ.set w (r:=r) (o:=o) a
 obtain⟨k,l⟩:=h.lt d;have i:∀b,(w.heap.setIfInBounds r o)[b]?=if b=r then(w.heap[b]?).map (λ_=>o) else w.heap[b]?:=λb=>by
  rw[oS];by_cases e:b=r
  .subst e;rw[eg rfl,eg rfl,eg k,gn k];rfl
  .rw[da (sI e),da e]
 have j:∀b,(w'.heap.setIfInBounds R o')[b]?=if b=R then(w'.heap[b]?).map (λ_=>o') else w'.heap[b]?:=λb=>by
  rw[oS];by_cases e:b=R
  .subst e;rw[eg rfl,eg rfl,eg l,gn l];rfl
  .rw[da (sI e),da e]
 refine⟨h.turn d _ _ i j (λ_ _ _=>m) rfl rfl (by simp) (by simp),Kept.turn d (λb f=> ?_) (λb f=> ?_) (by simp) (by simp) ⟨rfl,rfl⟩ ⟨rfl,rfl⟩ ⟨rfl,rfl⟩ ⟨rfl,rfl⟩ n (λ⟨c,t,z,g,_⟩ _=>a c t z g) (λ⟨c,t,z,g⟩=>(a c t z g).elim)⟩
 .show(w.heap.setIfInBounds r o)[b]?=_;rw[i,da f]
 .show(w'.heap.setIfInBounds R o')[b]?=_;rw[j,da f]
def WR.ask{ρ:Ren}(h:WR ρ w w')(d a:Nat):WR ρ {w with drawn:=w.drawn+d} {w' with drawn:=w'.drawn+a}/\Kept ρ ρ w w' {w with drawn:=w.drawn+d} {w' with drawn:=w'.drawn+a}:=
 ⟨h.dN (Ren.Le.refl _) h.obj rfl rfl (am _) (am _),am _,am _,.inl,λ_ _=>rfl,λ_ _=>rfl,⟨rfl,rfl⟩,⟨rfl,rfl⟩,⟨rfl,rfl⟩,⟨Nat.le_add_right _ _,Nat.le_add_right _ _⟩,λ_ h=>h,id,λ_ _ _=>⟨rfl,rfl⟩,λ_ b=>⟨b,λ_ _ _ c=>⟨c,rfl⟩⟩⟩
def ju(w:World)(a:Addr)(n:Nat)(d:n≠0)(b:Nat):(w.freeze a n).heap[b]?=if b=a.block then(w.heap[b]?).map (fun
   |.cells c elem (lo,hi)=>.cells c elem (if lo ==hi then(a.off,a.off+n) else(min lo a.off,max hi (a.off+n)))
   |o=>o) else w.heap[b]?:=by
 unfold World.freeze;rw[da d];simp only[pm];by_cases e:b=a.block
 .rw[eg e,eg e.symm]
  congr 1
 .rw[da e,da (sI e)]
def WR.freeze{ρ:Ren}(h:WR ρ w w')(S:AR ρ a Y)(n:Nat)(j:∃k,w.cell? a=some (.int .u8 k)):WR ρ (w.freeze a n) (w'.freeze Y n)/\Kept ρ ρ w w' (w.freeze a n) (w'.freeze Y n):=by
 have B:bJ w a.block->¬NoB w a.block:=λ⟨c,t,z,g,_⟩ hnb=>by
  obtain⟨k,v⟩:=j;unfold World.cell? at v;rw[g] at v;obtain⟨b,o,s⟩:=a;cases s with
  |none=>exact hnb c t z g o k (by simpa using v)
  |some s=>simp at v
 by_cases f:n=0
 .unfold World.freeze;rw[eg f,eg f];exact⟨h,Kept.refl _ _ _⟩
 obtain⟨E,o,s⟩:=S;have d:∀(w:World) (a:Addr),(w.freeze a n).ou=w.ou/\(w.freeze a n).tape=w.tape/\(w.freeze a n).drawn=w.drawn/\(w.freeze a n).output=w.output/\(w.freeze a n).heap.size=w.heap.size:=λw a=>by
  unfold World.freeze;rw[da f];exact⟨rfl,rfl,rfl,rfl,by simp⟩
 refine⟨h.turn E _ _ (ju w _ n f) (ju w' _ n f) (λx X Q=> ?_) (d _ _).1 (d _ _).1 (d _ _).2.2.2.2 (d _ _).2.2.2.2,Kept.turn E (λb j=> ?_) (λb j=> ?_) (d _ _).2.2.2.2 (d _ _).2.2.2.2 ⟨(d _ _).1,(d _ _).1⟩ ⟨(d _ _).2.1,(d _ _).2.1⟩ ⟨(d _ _).2.2.2.1,(d _ _).2.2.2.1⟩ ⟨(d _ _).2.2.1,(d _ _).2.2.1⟩ (bJ.freeze w _ n) B (λM=> ?_)⟩
 .cases Q with
  |cells g t L=>
   rcases L with rfl|⟨y,q⟩
   .exact .cells g t (.inl rfl)
   .refine .cells g t (.inr ⟨y, ?_⟩);obtain⟨V,Z,W⟩:=q;rename_i c T z U;have G:(z.1 ==z.2)=false:=by simp;omega
    rw[G];simp only[lc,qL];refine⟨by omega,by omega,.inr ?_⟩;split
    .dsimp only;omega
    .rename_i A;simp at A;dsimp only;omega
  |map x k=>exact .map x k
  |stringIter s p=>exact .stringIter s p
  |number x l=>exact .number x l
  |mapIter x s t n=>exact .mapIter x s t n
  |loop I F O H K R J N=>exact .loop I F O H K R J N
  |bI=>exact .bI
  |deferred=>exact .deferred
 .rw[ju _ _ _ f,da j]
 .rw[ju _ _ _ f,da j]
 .have m:∀(w:World) (b i:Nat),(w.freeze ⟨b,o,s⟩ n).cell? ⟨b,i,none⟩=w.cell? ⟨b,i,none⟩:=λw b i=>by
   unfold World.cell?;rw[ju _ _ _ f,eg rfl];cases w.heap[b]? with
   |none=>rfl
   |some P=>cases P<;>rfl
  obtain⟨c,t,z,r⟩:=M;rename_i C D;refine⟨?_,λi u _ g=>⟨(m w C i).symm.trans g,m w' D i⟩⟩;have e:=ju w ⟨C,o,s⟩ n f C;rw[eg rfl,r] at e;exact⟨_,_,_,e⟩
def mD.app{ρ:Ren}:∀{l b:List Event},mD ρ l b->∀{m a:List Event},mD ρ m a->mD ρ (l++m) (b++a)
 |_,_,.nil,_,_,h=>h
 |_,_,.cons x y,_,_,h=>.cons x (y.app h)
def OR.noD{ρ:Ren}(h:OR ρ o o'):NoD o:=λd l e=>by cases h<;>cases e
def _root_.Go.World.dV(w:World)(t:Tape):World:={w with tape:=t}
def WR.dV{ρ:Ren}(h:WR ρ w w')(t:Tape):WR ρ (w.dV t) w':=⟨h.obj,h.os,h.lf⟩
def Agr(w:World)(D:Nat)(t₁ t:Tape):Prop:=∀i q,w.drawn<=i->i<w.drawn+D->t i q=t₁ i q
def aBX(w:World)(es:List Event):Prop:=∀b,bJ w b->∀e∈es,e.write=true->(∀a,e.loc=.cell a->a.block≠b)/\∀r,e.loc=.obj r->r≠b
def bJ.ah0{u:Value}(d:w.cell? a=some u)(f:w.frozen? a=false){b:Nat}(i:bJ w b):a.block≠b:=λe=>by
 subst e;obtain⟨c,t,z,g,j,l,k⟩:=i;unfold World.cell? at d;unfold World.frozen? at f;rw[g] at d f;simp only at d f;split at d
 .cases d
 .have:=(dl.1 d).1;simp at f;omega
structure EvW (w:World) (σ:Ren) (us us':Array Event):Prop where
 ev:mD σ us.toList us'.toList
 nw:aBX w us.toList
def EvW.nil(w:World)(b:Ren):EvW w b #[] #[]:=⟨.nil,λ_ _ e a=>by cases a⟩
def iq(P P':Program){α β:Type}(A:Ren->α->β->Prop)(ρ:Ren)(s:Sem α)(s':Sem β)(w w':World)(es es':Array Event):Prop:=
 ∃(b:Tape) (D:Nat),(∀t,Agr w D b t->∃h c j,s.runT P (w.dV t) es=(.halt h c,j)/\fR w c)\/
  ∃e a c i f g d,(∀t,Agr w D b t->s.runT P (w.dV t) es=(.ok a (c.dV t),es++g))/\c.drawn=w.drawn+D/\ρ.Le e/\s'.runT P' w' es'=(.ok i f,es'++d)/\A e a i/\WR e c f/\Kept ρ e w w' c f/\EvW w e g d
def iq.no{A:Ren->V->β->Prop}{ρ:Ren}(h:∀t,∃h a b,s.runT P (w.dV t) es=(.halt h a,b)/\fR w a):iq P P' A ρ s s' w w' es L:=
 ⟨w.tape,0,.inl λt _=>h t⟩
def iq.step  {A:Ren->V->β->Prop} {ρ g:Ren} {y : Sem V} {w0 : World} {e e' : Array Event} (h:iq P P' A g y H w0 S (es++e) (L++e'))
  (C:∀t,s.runT P (w.dV t) es=y.runT P (w0.dV t) (es++e)) (M:s'.runT P' w' L=H.runT P' S (L++e')) (d:w0.drawn=w.drawn) (p:fR w w0) (Q:ρ.Le g) (v:Kept ρ g w w' w0 S) (E:EvW w g e e'):iq P P' A ρ s s' w w' es L:=by
 obtain⟨f,D,h⟩:=h;refine⟨f,D,h.imp (λh t m=> ?_) ?_⟩
 .rw[C];obtain⟨F,j,N,n,k⟩:=h t λi q o r=>m i q (d▸o) (d▸r);exact⟨F,j,N,n,p.trans k⟩
 .rintro⟨O,a,j,G,R,U,l,n,k,B,I,K,T,J,z⟩;refine⟨O,a,j,G,R,e++U,e'++l,λt m=> ?_,k.trans (by rw[d]),Q.trans B, ?_,K,T,v.trans J, ?_⟩
  .rw[C,n t λi q o r=>m i q (d▸o) (d▸r),uj]
  .rw[M,I,uj]
  .refine⟨by rw[qe,qe];exact(E.ev.mono B).app z.ev,λb u x c=> ?_⟩;rw[qe,oR] at c;rcases c with c|c
   .exact E.nw b u x c
   .exact z.nw b (v.frz b u) x c
def iq.step0  {A:Ren->V->β->Prop} {ρ a:Ren} {c : Sem V} {w0 : World} (h:iq P P' A a c H w0 S es L)
  (j:∀t,s.runT P (w.dV t) es=c.runT P (w0.dV t) es) (f:s'.runT P' w' L=H.runT P' S L) (d:w0.drawn=w.drawn) (b:fR w w0) (g:ρ.Le a) (i:Kept ρ a w w' w0 S):iq P P' A ρ s s' w w' es L:=
 iq.step (e:=#[]) (e':=#[]) (by rw[rJ,rJ];exact h) (λt=>by rw[rJ];exact j t) (by rw[rJ];exact f) d b g i (.nil _ _)
def iq.draw  {A:Ren->V->β->Prop} {ρ:Ren} {q:Question} {k:Nat->Sem V}   (n:Nat) (u:q.forced=false) (h:iq P P' A ρ (k (q.cut n)) H {w with drawn:=w.drawn+1} S es L)
  (C:s'.runT P' w' L=H.runT P' S L) (s:Kept ρ ρ w w' {w with drawn:=w.drawn+1} S):iq P P' A ρ (.choose q k) s' w w' es L:=by
 obtain⟨c,D,h⟩:=h;have l:∀t:Tape,t w.drawn q=n->(Sem.choose q k).runT P (w.dV t) es=(k (q.cut n)).runT P (World.dV {w with drawn:=w.drawn+1} t) es:=λt d=>by
  rw[Sem.runT,u,da (by simp)];show(k (q.cut (t w.drawn q))).runT P _ es=_;rw[d];rfl
 have e:∀t,Agr w (D+1) (λi q=>if i=w.drawn then n else c i q) t->t w.drawn q=n/\Agr {w with drawn:=w.drawn+1} D c t:=λt d=>by
  refine⟨by rw[d w.drawn q (am _) (by omega)];exact eg rfl,λi q j m=> ?_⟩;have j:w.drawn+1<=i:=j;have m:i<w.drawn+1+D:=m;rw[d i q (by omega) (by omega)];exact da (by omega)
 refine⟨λi q=>if i=w.drawn then n else c i q,D+1,h.imp (λh t d=> ?_) ?_⟩
 .rw[l t (e t d).1];exact h t (e t d).2
 .rintro⟨E,a,o,v,G,J,f,y,p,F,x,B,I,z,g⟩;refine⟨E,a,o,v,G,J,f,λt d=> ?_, ?_,F,C.trans x,B,I,s.trans z,⟨g.ev,λb r=>g.nw b r⟩⟩
  .rw[l t (e t d).1,y t (e t d).2]
  .rw[p];show w.drawn+1+D=w.drawn+(D+1);omega
def Sem.aaN(P:Program)(s:Sem V)(f:V->Sem β):∀(w:World) (d:Array Event),(s.bind f).runT P w d=match s.runT P w d with
  |(.ok a w1,nC)=>(f a).runT P w1 nC
  |(.halt h w1,nC)=>(.halt h w1,nC):=by
 induction s with
 |pure a=>intro w d;rfl
 |load m a k b=>
  intro w d;show(Sem.load m a λv=>(k v).bind f).runT P w d=_;rw[Sem.runT,Sem.runT];cases w.cell? a with
  |some v=>exact b v _ _
  |none=>
   dsimp only;cases w.farLoad P a (m ==.atomic) with
   |ok x=>exact b _ _ _
   |error x=>rfl
 |store m a v k b=>
  intro w d;by_cases g:(∀x,v ≠ .agg x)/\∀x,v ≠ .tuple x
  .show(Sem.store m a v (k.bind f)).runT P w d=_;rw[sE _ _ _ _ _ _ _ g.1 g.2,sE _ _ _ _ _ _ _ g.1 g.2];cases w.cell? a with
   |some u=>
    dsimp only;split
    .rfl
    .exact b _ _
   |none=>
    dsimp only;cases w.farStore P a v (m ==.atomic) with
    |ok x=>exact b _ _
    |error x=>rfl
  .have:(∃x,v=.agg x)\/∃x,v=.tuple x:=by
    by_cases j:∃x,v=.agg x
    .exact .inl j
    .by_cases i:∃x,v=.tuple x
     .exact .inr i
     .exact absurd ⟨λx e=>j ⟨x,e⟩,λx e=>i ⟨x,e⟩⟩ g
   rcases this with⟨x,rfl⟩|⟨x,rfl⟩<;>rfl
 |new o k b=>intro w d;exact b _ _ _
 |shape r k b=>intro w d;exact b _ _ _
 |freeze a n k b=>intro w d;exact b _ _
 |frozen a k b=>intro w d;exact b _ _ _
 |getObj r k b=>
  intro w d;show(Sem.getObj r λv=>(k v).bind f).runT P w d=_;rw[Sem.runT,Sem.runT];cases w.heap[r]? with
  |none=>rfl
  |some o=>cases o<;>first|rfl|exact b _ _ _
 |setObj r o k b=>
  intro w d;show(Sem.setObj r o (k.bind f)).runT P w d=_;rw[Sem.runT,Sem.runT];cases w.heap[r]? with
  |none=>rfl
  |some o=>cases o<;>first|rfl|exact b _ _
 |choose q k b=>
  intro w d;show(Sem.choose q λn=>(k n).bind f).runT P w d=_;rw[Sem.runT,Sem.runT];split<;>exact b _ _ _
 |sys c k b=>intro w d;exact b _ _ _
 |program k b=>intro w d;exact b _ _ _
 |mark m k b=>intro w d;exact b _ _
 |halt h=>intro w d;rfl
def ah1(P:Program)(c:Array Value)(t:TypeId)(k:Nat->Sem V)(w:World)(es:Array Event) :
  (Sem.new (.cells c t) λr=>(markStringish ⟨r,0,none⟩).bind λ_=>k r).runT P w es=(k w.heap.size).runT P {w with heap:=w.heap.push (.cells c t (c.size,c.size+1))} es:=by
 have b:({w with heap:=w.heap.push (.cells c t)}:World).shape? w.heap.size=some (t,c.size):=by
  unfold World.shape?;simp
 have a:({w with heap:=w.heap.push (.cells c t)}:World).freeze ⟨w.heap.size,c.size,none⟩ 1={w with heap:=w.heap.push (.cells c t (c.size,c.size+1))}:=by
  unfold World.freeze;rw[da (by decide)]
  congr 1
  apply sR;intro j;simp only[pm,qK];by_cases e:j=w.heap.size
  .subst e;simp
  .rw[da (sI e),da e,da e]
 show(Sem.shape w.heap.size λs=>(match s with
   |some (_,n)=>Go.freeze ⟨w.heap.size,n,none⟩ 1
   |_=>Pure.pure ()).bind λ_=>k w.heap.size).runT P {w with heap:=w.heap.push (.cells c t)} es=_
 rw[Sem.runT,b];show(Sem.freeze ⟨w.heap.size,c.size,none⟩ 1 (k w.heap.size)).runT P {w with heap:=w.heap.push (.cells c t)} es=_;rw[Sem.runT,a]
def awZ{ρ:Ren}(D:WR ρ w w'):∀(n:Nat) (a f:Addr) (acc:ByteArray) (c d:Array Event),AR ρ a f->
  (∀t,∃h l m,(loadBytes a acc n).runT P (w.dV t) c=(.halt h l,m)/\fR w l)\/
  ∃s p g,(∀t,(loadBytes a acc n).runT P (w.dV t) c=(.ok s (w.dV t),c++p))/\(loadBytes f acc n).runT P' w' d=(.ok s w',d++g)/\EvW w ρ p g/\(0<n->∃k,w.cell? a=some (.int .u8 k)):=by
 have E:∀(c:Array Event) (x:Event),c.push x=c++#[x]:=λc x=>by simp
 intro n
 induction n with
 |zero=>exact λa f acc c d _=>.inr ⟨acc,#[],#[],λt=>by rw[rJ];rfl,by rw[rJ];rfl,.nil _ _,λh=>absurd h (Nat.lt_irrefl 0)⟩
 |succ n O=>
  intro a f acc c d r;have e:∀(P:Program) (a:Addr) (w:World) (c:Array Event),(loadBytes a acc (n+1)).runT P w c=(Sem.load .plain a λv=>match v with
    |.int .u8 b=>loadBytes (a.add 1) (acc.push b.toNat.toUInt8) n
    |_=>stuck "a byte variable that holds no byte").runT P w c:=λP a w c=>rfl
  cases A:w.cell? a with
  |none=>
   refine .inl λt=> ?_;have j:(w.dV t).cell? a=none:=A;obtain⟨x,B⟩:=((D.dV t).aj9 r P (Go.Mode.plain ==Go.Mode.atomic) j).1;refine⟨x,w.dV t,c, ?_,.refl _⟩;rw[e,Sem.runT,j];simp only[B]
  |some v=>
   obtain⟨G,z,N⟩:=D.cell r A;have y:∀t,(loadBytes a acc (n+1)).runT P (w.dV t) c=(match v with
    |.int .u8 b=>loadBytes (a.add 1) (acc.push b.toNat.toUInt8) n
    |_=>stuck "a byte variable that holds no byte").runT P (w.dV t) (c++#[(⟨.cell a,false,Go.Mode.plain ==Go.Mode.atomic⟩:Event)]):=λt=>by
    have j:(w.dV t).cell? a=some v:=A;rw[e,Sem.runT,j];simp only[E]
   have M:(loadBytes f acc (n+1)).runT P' w' d=(match G with
    |.int .u8 b=>loadBytes (f.add 1) (acc.push b.toNat.toUInt8) n
    |_=>stuck "a byte variable that holds no byte").runT P' w' (d++#[(⟨.cell f,false,Go.Mode.plain ==Go.Mode.atomic⟩:Event)]):=by
    rw[e,Sem.runT,z];simp only[E]
   have no:(∀b,v ≠ .int .u8 b)->∀t,∃h l m,(loadBytes a acc (n+1)).runT P (w.dV t) c=(.halt h l,m)/\fR w l:=λL t=>by
    refine⟨.stuck "a byte variable that holds no byte",w.dV t,c++#[(⟨.cell a,false,Go.Mode.plain ==Go.Mode.atomic⟩:Event)], ?_,.refl _⟩;rw[y];split
    .exact absurd rfl (L _)
    .rfl
   by_cases C:∃b,v=.int .u8 b
   .obtain⟨b,rfl⟩:=C;cases N;rcases O (a.add 1) (f.add 1) (acc.push b.toNat.toUInt8) (c++#[(⟨.cell a,false,Go.Mode.plain ==Go.Mode.atomic⟩:Event)]) (d++#[(⟨.cell f,false,Go.Mode.plain ==Go.Mode.atomic⟩:Event)]) (by cases r with|mk h o s=>exact .mk h _ _) with i|⟨s,p,g,K,H,F,R⟩
    .exact .inl λt=>by obtain⟨h,l,m,J,Q⟩:=i t;exact⟨h,l,m,(y t).trans J,Q⟩
    .refine .inr ⟨s,#[(⟨.cell a,false,Go.Mode.plain ==Go.Mode.atomic⟩:Event)]++p,#[(⟨.cell f,false,Go.Mode.plain ==Go.Mode.atomic⟩:Event)]++g,λt=>(y t).trans ((K t).trans (by rw[uj])),M.trans (H.trans (by rw[uj])),⟨?_,λq I x i=> ?_⟩,λ_=>⟨b,rfl⟩⟩
     .rw[qe,qe];exact mD.app (.cons (.mk (.cell r) _ _) .nil) F.ev
     .rw[qe,oR] at i;rcases i with i|i
      .intro u;simp at i;subst i;cases u
      .exact F.nw q I x i
   .exact .inl (no λb e=>C ⟨b,e⟩)
def az.run{A:Ren->V->β->Prop}{ρ:Ren}(h:az P P' A ρ s s') :
  ∀(w p:World) (j f:Array Event),WR ρ w p->iq P P' A ρ s s' w p j f:=by
 have N:∀(j:Array Event) (x:Event),j.push x=j++#[x]:=λj x=>Array.append_singleton.symm
 induction h with
 |pure x=>
  intro w p j f i;exact⟨w.tape,0,.inr ⟨_,_,w,_,p,#[],#[],λt _=>by unfold Sem.runT;rw[rJ],rfl,Ren.Le.refl _,by unfold Sem.runT;rw[rJ],x,i,Kept.refl _ _ _,.nil _ _⟩⟩
 |@load ρ m G E k K H J y=>
  intro w p j f i;cases D:w.cell? G with
  |none=>
   refine .no λt=> ?_;have C:(w.dV t).cell? G=none:=D;obtain⟨e,W⟩:=((i.dV t).aj9 H P (m ==.atomic) C).1;refine⟨e,w.dV t,j, ?_,.refl _⟩;rw[Sem.runT,C];simp only[W]
  |some v=>
   obtain⟨v',Y,hv⟩:=i.cell H D;refine iq.step (y v v' hv w p _ _ i) (λt=> ?_) ?_ rfl (.refl _) (Ren.Le.refl _) (Kept.refl ρ w p) (e:=#[⟨.cell G,false,m ==.atomic⟩]) (e':=#[⟨.cell E,false,m ==.atomic⟩]) ⟨.cons (.mk (.cell H) _ _) .nil,λ_ _ e I L=>by simp at I;subst I;cases L⟩
   .have C:(w.dV t).cell? G=some v:=D;rw[Sem.runT,C];simp only[N]
   .rw[Sem.runT,Y];simp only[N]
 |@store ρ m G E v v' k K H hv J y=>
  intro w p j f i;by_cases B:(∀x,v ≠ .agg x)/\∀x,v ≠ .tuple x
  .have a1:(∀x,v' ≠ .agg x)/\∀x,v' ≠ .tuple x:=by
    constructor<;>(rintro x rfl;cases hv<;>first|exact B.1 _ rfl|exact B.2 _ rfl)
   cases D:w.cell? G with
   |none=>
    refine .no λt=> ?_;have C:(w.dV t).cell? G=none:=D;obtain⟨e,W⟩:=((i.dV t).aj9 H P (m ==.atomic) C).2 v;refine⟨e,w.dV t,j, ?_,.refl _⟩;rw[sE _ _ _ _ _ _ _ B.1 B.2,C];simp only[W]
   |some u=>
    cases O:w.frozen? G with
    |true=>
     refine .no λt=>⟨.unsupported (.unsafePointer "a write to bytes that a string shares"),w.dV t,j, ?_,.refl _⟩;have C:(w.dV t).cell? G=some u:=D;have a0:(w.dV t).frozen? G=true:=O;rw[sE _ _ _ _ _ _ _ B.1 B.2,C];simp only[a0,pv]
    |false=>
     obtain⟨u',Y, -⟩:=i.cell H D;refine iq.step (y _ _ _ _ (i.setCell H hv)) (λt=> ?_) ?_ rfl (fR.setCell w _ v) (Ren.Le.refl _) (Kept.setCell w p H v v' (λU=>bJ.ah0 D O U rfl) (λhu=>hu.elim (λ⟨l,e⟩=>B.2 l e) λ⟨l,e⟩=>B.1 l e)) (e:=#[⟨.cell G,true,m ==.atomic⟩]) (e':=#[⟨.cell E,true,m ==.atomic⟩]) ⟨.cons (.mk (.cell H) _ _) .nil,λb U e I _=>by
      simp at I;subst I;refine⟨λa S=> ?_,λr S=>by cases S⟩;simp only[Loc.cell.injEq] at S;subst S;exact bJ.ah0 D O U⟩
     .have C:(w.dV t).cell? G=some u:=D;have a0:(w.dV t).frozen? G=false:=O;rw[sE _ _ _ _ _ _ _ B.1 B.2,C];simp only[a0,N];rfl
     .rw[sE _ _ _ _ _ _ _ a1.1 a1.2,Y];simp only[i.anJ H D O,N];rfl
  .have:(∃x,v=.agg x)\/∃x,v=.tuple x:=by
    by_cases M:∃x,v=.agg x
    .exact .inl M
    .by_cases R:∃x,v=.tuple x
     .exact .inr R
     .exact absurd ⟨λx e=>M ⟨x,e⟩,λx e=>R ⟨x,e⟩⟩ B
   rcases this with⟨x,rfl⟩|⟨x,rfl⟩<;>exact .no λt=>⟨_,w.dV t,j,by rw[Sem.runT],.refl _⟩
 |new Q J y=>
  intro w p j f i;obtain⟨σ,M,R,h3,h4⟩:=i.push Q;exact iq.step0 (y σ _ _ M R _ _ _ _ h3) (λt=>by rw[Sem.runT];rfl) (by rw[Sem.runT]) rfl (fR.push w (OR.noD Q)) M h4
 |@shape ρ r T k K F J y=>
  intro w p j f i;refine iq.step0 (y (w.shape? r) w p j f i) (λt=>by rw[Sem.runT];rfl) (by rw[Sem.runT,i.shape F]) rfl (.refl _) (Ren.Le.refl _) (Kept.refl _ _ _)
 |@amv ρ G E n k K H J y=>
  intro w p j f i;rcases awZ (P:=P) (P':=P') i (n+1) G E .empty j f H with U|⟨s,us,a2,M,R,h3,h4⟩
  .refine .no λt=> ?_;obtain⟨h,w1,nC,e,hd⟩:=U t;exact⟨h,w1,nC,by rw[Sem.aaN,e],hd⟩
  .obtain⟨h5,h6⟩:=i.freeze H (n+1) (h4 (Nat.succ_pos n));refine iq.step (y s _ _ (j++us) (f++a2) h5) (λt=> ?_) ?_ (by unfold World.freeze;split<;>rfl) (fR.freeze w _ (n+1)) (Ren.Le.refl _) h6 h3
   .rw[Sem.aaN,M t];dsimp only;rw[Sem.runT];unfold World.freeze;split<;>rfl
   .rw[Sem.aaN,R];dsimp only;rw[Sem.runT]
 |@as6 ρ c c' t k K D J y=>
  intro w p j f i;have hz:c.size=c'.size:=by have:=D.length;simpa using this
  obtain⟨σ,M,R,h3,h4⟩:=i.push (o:=.cells c t (c.size,c.size+1)) (o':=.cells c' t (c'.size,c'.size+1)) (.cells D t (.inl (by rw[hz])));exact iq.step0 (y σ _ _ M R _ _ _ _ h3) (λt=>by rw[ah1];rfl) (by rw[ah1]) rfl (fR.push w (o:=.cells c t (c.size,c.size+1)) (λd l e=>by cases e)) M h4
 |@frozen ρ G E k K H J y=>
  intro w p j f i;exact iq.step0 (y (w.frozen? G) (p.frozen? E) (i.anK H) w p j f i) (λt=>by rw[Sem.runT];rfl) (by rw[Sem.runT]) rfl (.refl _) (Ren.Le.refl _) (Kept.refl _ _ _)
 |@getObj ρ r T k K F J y=>
  intro w p j f i;obtain⟨o,o',g1,g2,Q⟩:=i.obj F;have Z:(∀c t z,o ≠ .cells c t z)->(∀c t z,o' ≠ .cells c t z)->o.isChan=o'.isChan->iq P P' _ ρ (.getObj r k) (.getObj T K) w p j f:=λn1 n2 X=>by
   refine iq.step (y o o' Q w p _ _ i) (λt=> ?_) ?_ rfl (.refl _) (Ren.Le.refl _) (Kept.refl ρ w p) (e:=#[⟨.obj r,false,o.isChan⟩]) (e':=#[⟨.obj T,false,o'.isChan⟩]) (by rw[X];exact⟨.cons (.mk (.obj F) _ _) .nil,λ_ _ e I L=>by simp at I;subst I;cases L⟩)
   .have g:(w.dV t).heap[r]?=some o:=g1;rw[Sem.runT,g];cases o<;>first|exact absurd rfl (n1 _ _ _)|simp only[N]
   .rw[Sem.runT,g2];cases o'<;>first|exact absurd rfl (n2 _ _ _)|simp only[N]
  cases Q with
  |cells D t hz=>
   refine .no λt=>⟨.stuck "getObj: a row of cells",w.dV t,j, ?_,.refl _⟩;have g:(w.dV t).heap[r]?=_:=g1;rw[Sem.runT,g]
  |map|stringIter|number|mapIter|loop|bI|deferred=>exact Z (λ_ _ _ h=>by cases h) (λ_ _ _ h=>by cases h) rfl
 |@setObj ρ r T o o' k K F Q J y=>
  intro w p j f i;obtain⟨x,x',g1,g2,hx⟩:=i.obj F;have X:o.isChan=o'.isChan:=by cases Q<;>rfl
  have Z:(∀c t z,x ≠ .cells c t z)->(∀c t z,x' ≠ .cells c t z)->iq P P' _ ρ (.setObj r o k) (.setObj T o' K) w p j f:=λn1 n2=>by
   obtain⟨q1,q2⟩:=i.set F Q λc t z e=>by rw[g1] at e;exact n1 c t z (dq e)
   refine iq.step (y _ _ _ _ q1) (λt=> ?_) ?_ rfl (fR.set w r (OR.noD Q)) (Ren.Le.refl _) q2 (e:=#[⟨.obj r,true,o.isChan⟩]) (e':=#[⟨.obj T,true,o'.isChan⟩]) (by rw[X];exact⟨.cons (.mk (.obj F) _ _) .nil,λb U e I _=>by
    simp at I;subst I;refine⟨λa S=>(by cases S),λq S=> ?_⟩;cases S;rintro rfl;obtain⟨c,t,z,D, -⟩:=U;rw[g1] at D;exact n1 _ _ _ (dq D)⟩)
   .have g:(w.dV t).heap[r]?=some x:=g1;rw[Sem.runT,g];cases x<;>first|exact absurd rfl (n1 _ _ _)|(simp only[N];rfl)
   .rw[Sem.runT,g2];cases x'<;>first|exact absurd rfl (n2 _ _ _)|simp only[N]
  cases hx with
  |cells D t hz=>
   refine .no λt=>⟨.stuck "setObj: a row of cells",w.dV t,j, ?_,.refl _⟩;have g:(w.dV t).heap[r]?=_:=g1;rw[Sem.runT,g]
  |map|stringIter|number|mapIter|loop|bI|deferred=>exact Z (λ_ _ _ h=>by cases h) (λ_ _ _ h=>by cases h)
 |choose q J y=>
  intro w p j f i;cases O:q.forced with
  |true=>exact iq.step0 (y 0 w p j f i) (λt=>by rw[Sem.runT,O,eg rfl]) (by rw[Sem.runT,O,eg rfl]) rfl (.refl _) (Ren.Le.refl _) (Kept.refl _ _ _)
  |false=>
   obtain⟨q1,q2⟩:=i.ask 1 1;exact iq.draw (p.tape p.drawn q) O (y _ _ _ j f q1) (by rw[Sem.runT,O,da (by simp)]) q2
 |abq q n hq J y=>
  intro w p j f i;obtain⟨q1,q2⟩:=i.ask 1 0;exact iq.draw n hq (y _ _ j f q1) rfl q2
 |@adS ρ s E K J y=>
  intro w p j f i;exact iq.step0 (y (p.frozen? E) w p j f i) (λt=>rfl) (by rw[Sem.runT]) rfl (.refl _) (Ren.Le.refl _) (Kept.refl _ _ _)
 |@agH ρ s T K J y=>
  intro w p j f i;exact iq.step0 (y (p.shape? T) w p j f i) (λt=>rfl) (by rw[Sem.runT]) rfl (.refl _) (Ren.Le.refl _) (Kept.refl _ _ _)
 |program J y=>
  intro w p j f i;exact iq.step0 (y w p j f i) (λt=>by rw[Sem.runT]) (by rw[Sem.runT]) rfl (.refl _) (Ren.Le.refl _) (Kept.refl _ _ _)
 |@mark ρ m m' k K hm J y=>
  intro w p j f i;exact iq.step (y w p _ _ i) (λt=>by rw[Sem.runT,N]) (by rw[Sem.runT,N]) rfl (.refl _) (Ren.Le.refl _) (Kept.refl _ w p) (e:=#[⟨.mark m,false,true⟩]) (e':=#[⟨.mark m',false,true⟩]) ⟨.cons (.mk (.mark hm) _ _) .nil,λ_ _ e I L=>by simp at I;subst I;cases L⟩
 |halt h s=>
  intro w p j f i;exact .no λt=>⟨h,w.dV t,j,by rw[Sem.runT],.refl _⟩
 |dead h s=>
  intro w p j f i;exact .no λt=>Leaves.avO h (w.dV t) j
def afr :∀s:Sem V,s.bind .pure=s:=by
 intro s
 induction s with
 |pure a=>rfl
 |halt h=>rfl
 |load m a k b=>exact jt (Sem.load m a) (funext b)
 |store m a v k b=>exact jt (Sem.store m a v) b
 |new o k b=>exact jt (Sem.new o) (funext b)
 |shape r k b=>exact jt (Sem.shape r) (funext b)
 |freeze a n k b=>exact jt (Sem.freeze a n) b
 |frozen a k b=>exact jt (Sem.frozen a) (funext b)
 |getObj r k b=>exact jt (Sem.getObj r) (funext b)
 |setObj r o k b=>exact jt (Sem.setObj r o) b
 |choose q k b=>exact jt (Sem.choose q) (funext b)
 |sys c k b=>exact jt (Sem.sys c) (funext b)
 |program k b=>exact jt Sem.program (funext b)
 |mark m k b=>exact jt (Sem.mark m) b
def ad8{d : Type}(f:V->Sem β)(g:β->Sem d):∀s:Sem V,(s.bind f).bind g=s.bind λa=>(f a).bind g:=by
 intro s
 induction s with
 |pure a=>rfl
 |halt h=>rfl
 |load m a k b=>exact jt (Sem.load m a) (funext b)
 |store m a v k b=>exact jt (Sem.store m a v) b
 |new o k b=>exact jt (Sem.new o) (funext b)
 |shape r k b=>exact jt (Sem.shape r) (funext b)
 |freeze a n k b=>exact jt (Sem.freeze a n) b
 |frozen a k b=>exact jt (Sem.frozen a) (funext b)
 |getObj r k b=>exact jt (Sem.getObj r) (funext b)
 |setObj r o k b=>exact jt (Sem.setObj r o) b
 |choose q k b=>exact jt (Sem.choose q) (funext b)
 |sys c k b=>exact jt (Sem.sys c) (funext b)
 |program k b=>exact jt Sem.program (funext b)
 |mark m k b=>exact jt (Sem.mark m) b
instance ay2:LawfulMonad Sem:=LawfulMonad.mk' Sem (λs=>afr s) (λ_ _=>rfl) (λs f g=>ad8 f g s)
end
section
open Go
def ay8(P:Program)(o o':Oper):Prop:=(o=o'/\mC P gA gL o.op=true)\/(aao gA gL o'.op=true/\o={o' with type:=gB})
def apK(P:Program)(ops ops':Array Oper):Prop:=ops.size=ops'.size/\∀(i:Nat) (o a:Oper),ops[i]?=some o->ops'[i]?=some a->ay8 P o a
structure FnR (hole:Bool) (fn dx:Func):Prop where
 name:dx.name=fn.name
 ay9:(fn.name == "runtime.NumGoroutine")=false
 norace:dx.norace=fn.norace
 ntmps:dx.ntmps=fn.ntmps
 results:dx.results=fn.results
 none:fn.body=none->dx=fn
 some:∀c,fn.body=some c->∃c',dx.body=some c'/\(hole=false->c=gP c')
structure Twin (P P':Program):Prop where
 info:∀t,P'.info? t=P.info? t
 under:∀t,P'.underlying t=P.underlying t
 rt:P'.rt=P.rt
 depth:P'.depth=P.depth
 globals:P.globals.size=gN/\P'.globals.size=gN
 zero:∀t i v,P.info? t=some i->i.zero=some v->∀ρ:Ren,VR ρ v v
 stood:∀t,P'.stoodInHeld t=P.stoodInHeld t
 avP:P'.types.size=P.types.size
 cellAt:∀d e c o b,cellAtBytes P' d e c o b=cellAtBytes P d e c o b
 lies:∀d e c o u n,liesAt P' d e c o u n=liesAt P d e c o u n
 aka:∀d t,P'.eqGuardType d t=P.eqGuardType d t
 follows:∀d,P'.follows d=P.follows d
 pc:gP=bQ P gA gL gB
 as7:∀e,P.underlying gB≠some (.pointer e)
 func:∀f fn,P.funcs[f]?=some fn->∃dx,P'.funcs[f]?=some dx/\FnR (gH f) fn dx
 ah2:P'.funcs.size=P.funcs.size
 nE:P.follows .staticDataAhead=true/\∀g,P.stepOf g=none
def bU.kP{ρ:Ren}:∀{l:List Value},(∀v∈l,VR ρ v v)->bU ρ l l
 |[],_=>.nil
 |_::_,h=>.cons (h _ (by simp)) (bU.kP λv a=>h v (by simp[a]))
def VR.cells{ρ:Ren}(h:VR ρ v v'):bU ρ v.cells.toList v'.cells.toList:=by
 cases h with
 |agg h=>exact h
 |bool b=>exact .cons (.bool b) .nil
 |int k n=>exact .cons (.int k n) .nil
 |string s=>exact .cons (.string s) .nil
 |pointer x=>exact .cons (.pointer x) .nil
 |slice x l c=>exact .cons (.slice x l c) .nil
 |map x=>exact .cons (.map x) .nil
 |chan x=>exact .cons (.chan x) .nil
 |func f x y=>exact .cons (.func f x y) .nil
 |nilFunc=>exact .cons .nilFunc .nil
 |iface t x=>exact .cons (.iface t x) .nil
 |nilIface=>exact .cons .nilIface .nil
 |tuple x=>exact .cons (.tuple x) .nil
 |fQ a h=>cases v'<;>first|(cases h;done)|exact .cons (.fQ a h) .nil
 |abp k a=>exact .cons (.abp k a) .nil
def bU.size{ρ:Ren}(h:bU ρ c.toList Z.toList):c.size=Z.size:=by simpa using h.length
def bU.extract{ρ:Ren}(h:bU ρ c.toList Z.toList)(i j:Nat):bU ρ (c.extract i j).toList (Z.extract i j).toList:=by
 have hd:∀{l d:List Value},bU ρ l d->∀n,bU ρ (l.drop n) (d.drop n):=by
  intro l d h
  induction l generalizing d with
  |nil=>cases h;intro n;simp;exact .nil
  |cons x l e=>
   cases h with
   |cons a b=>
    intro n;cases n with
    |zero=>exact .cons a b
    |succ n=>exact e b n
 have f:∀{l d:List Value},bU ρ l d->∀n,bU ρ (l.take n) (d.take n):=by
  intro l d h
  induction l generalizing d with
  |nil=>cases h;intro n;simp;exact .nil
  |cons x l e=>
   cases h with
   |cons a b=>
    intro n;cases n with
    |zero=>exact .nil
    |succ n=>exact .cons a (e b n)
 rw[tV,tV];unfold List.extract;exact f (hd h i) _
def AR.add{ρ:Ren}(h:AR ρ a Y)(n:Nat):AR ρ (a.add n) (Y.add n):=by
 obtain⟨b,o,s⟩:=h;unfold Addr.add;by_cases e:n=0
 .rw[eg e,eg e];exact .mk b o s
 .rw[da e,da e];exact .mk b _ none
def jG{α:Type}(_:Ren)(a b:α):Prop:=a=b
def dw(ρ:Ren)(c c':Array Value):Prop:=bU ρ c.toList c'.toList
section
variable {P P':Program} {α β γ δ:Type} {A:Ren->α->β->Prop} {B:Ren->γ->δ->Prop} {ρ:Ren}
def ak{a:α}{b:β}(h:A ρ a b):az P P' A ρ (pure a:Sem α) (pure b:Sem β):=.pure h
def aj{s:Sem α}{s':Sem β}{f:α->Sem γ}{f':β->Sem δ}(h:az P P' A ρ s s')(d:∀b a c,ρ.Le b->A b a c->az P P' B b (f a) (f' c)):az P P' B ρ (s >>=f) (s' >>=f'):=az.bind h d
def amw(w:String)(s:Sem β):az P P' A ρ (stuck w) s:=.halt _ _
def as8(w:Unsupported)(s:Sem β):az P P' A ρ (unsupported w) s:=.halt _ _
def apL(m:Mode)(h:AR ρ a Y):az P P' VR ρ (load a m) (load Y m):=.load m h λ_ _ b=>.pure b
def afM(h:OR ρ o o'):az P P' (λa=>a.r) ρ (newObj o) (newObj o'):=.new h λ_ _ _ _ b=>.pure b
def mj(h:ρ.r r R):az P P' jG ρ (shape r) (shape R):=.shape h λ_=>.pure rfl
def eQ(h:ρ.r r R):az P P' OR ρ (getObj r) (getObj R):=.getObj h λ_ _ a=>.pure a
def iX(h:ρ.r r R)(a:OR ρ o o'):az P P' jG ρ (setObj r o) (setObj R o'):=.setObj h a (.pure rfl)
def iY(q:Question):az P P' jG ρ (choose q) (choose q):=.choose q λ_=>.pure rfl
def dr:az P P' (λ_ p a=>p=P/\a=P') ρ program program:=.program (.pure ⟨rfl,rfl⟩)
def apM{m m':Mark}(h:MkR ρ m m'):az P P' jG ρ (mark m) (mark m'):=.mark h (.pure rfl)
def akb(n:Nat):az P P' jG ρ (askRoom n) (askRoom n):=by
 unfold askRoom;split
 .exact apM .noRoom
 .exact ak rfl
variable (T:Twin P P')
include T
theorem dX(t:TypeId):az P P' (λ_ a b=>a=b/\P.info? t=some a) ρ (typeInfo t) (typeInfo t):=by
 unfold typeInfo;refine aj dr λe p d _ c=> ?_;obtain⟨rfl,rfl⟩:=c;rw[T.info];cases h:p.info? t with
 |some i=>exact ak ⟨rfl,rfl⟩
 |none=>exact amw _ _
theorem aG(t:TypeId):az P P' (λ_ a b=>a=b/\P.underlying t=some a) ρ (underlying t) (underlying t):=by
 unfold underlying;refine aj dr λe p d _ c=> ?_;obtain⟨rfl,rfl⟩:=c;rw[T.under];cases h:p.underlying t with
 |some i=>exact ak ⟨rfl,rfl⟩
 |none=>exact amw _ _
theorem aaO(t:TypeId):az P P' VR ρ (zeroValue t) (zeroValue t):=by
 unfold zeroValue;refine aj (dX T t) λb i c _ a=> ?_;obtain⟨rfl,a⟩:=a;cases h:i.zero with
 |some v=>exact ak (T.zero t i v a h b)
 |none=>exact as8 _ _
theorem fO(t:TypeId):az P P' jG ρ (sizeOf t) (sizeOf t):=by
 unfold sizeOf;refine aj (dX T t) λc i b _ a=> ?_;obtain⟨rfl,a⟩:=a;exact ak rfl
theorem amx(t:TypeId):az P P' jG ρ (isAgg t) (isAgg t):=by
 unfold isAgg;refine aj (aG T t) λc i b _ a=> ?_;obtain⟨rfl,a⟩:=a;cases i<;>exact ak rfl
omit T in
theorem ad9{a d:Addr}(h:AR ρ a d):∀(n i:Nat) {c b:Array Value},dw ρ c b->az P P' dw ρ (loadCellsFrom a i n c) (loadCellsFrom d i n b)
 |0,i,c,b,hc=>ak hc
 |n+1,i,c,b,hc=>by
  unfold loadCellsFrom;refine .load .plain (h.add i) λv f e=> ?_;exact ad9 h n (i+1) (by unfold dw;rw[rT,rT];exact bU.app hc (.cons e .nil))
omit T in
theorem oX(h:AR ρ a Y)(n:Nat):az P P' dw ρ (loadCells a n) (loadCells Y n):=ad9 h n 0 .nil
omit T in
theorem iZ{a b:Addr}(h:AR ρ a b):∀{l c:List Value} (i:Nat),bU ρ l c->az P P' jG ρ (storeCells a l i) (storeCells b c i)
 |_,_,_,.nil=>ak rfl
 |_,_,i,.cons x y=>by
  unfold storeCells;exact .store .plain (h.add i) x (iZ h (i+1) y)
theorem afN(t:TypeId)(h:AR ρ a Y):az P P' VR ρ (loadVar t a) (loadVar t Y):=by
 unfold loadVar;refine aj (amx T t) λo b f d i=> ?_;obtain rfl:b=f:=i;cases b with
 |true=>
  refine aj (fO T t) λm n e g j=> ?_;obtain rfl:n=e:=j;exact aj (oX (h.mono (d.trans g)) n) λ_ c l _ k=>ak (.agg k)
 |false=>exact apL _ (h.mono d)
theorem akc(t:TypeId)(h:AR ρ a Y)(b:VR ρ v v'):az P P' jG ρ (storeVar t a v) (storeVar t Y v'):=by
 unfold storeVar;refine aj (fO T t) λi n d c f=> ?_;obtain rfl:n=d:=f;have g:=b.cells.size;by_cases e:v.cells.size≠n
 .rw[eg e];exact .halt _ _
 .rw[da e,da (by rw[<-g];exact e)];exact iZ (h.mono c) 0 (b.mono c).cells
omit T in
theorem oY(t:TypeId)(h:dw ρ c Z):az P P' AR ρ (newRow t c) (newRow t Z):=by
 unfold newRow;exact aj (afM (.cells h t (.inl rfl))) λ_ r b _ a=>ak (.mk a 0 none)
omit T in
theorem ah3(t:TypeId)(h:VR ρ v v'):az P P' AR ρ (newVar t v) (newVar t v'):=oY t h.cells
theorem mE(t:TypeId)(h:dw ρ c Z)(n:Nat):az P P' VR ρ (part t c n) (part t Z n):=by
 unfold part;refine aj (amx T t) λr b e d f=> ?_;obtain rfl:b=e:=f;cases b with
 |true=>
  refine aj (fO T t) λq m j g k=> ?_;obtain rfl:m=j:=k;exact ak (.agg ((bU.mono (d.trans g) h).extract _ _))
 |false=>
  cases o:c[n]? with
  |none=>exact .halt _ _
  |some v=>
   obtain⟨p,a,l⟩:=bU.get h (i:=n) (v:=v) (by rw[fi];exact o);rw[fi] at a;rw[a];exact ak (l.mono d)
end
end
section
open Go
section
variable {P P':Program} {α β γ δ:Type} {A:Ren->α->β->Prop} {B:Ren->γ->δ->Prop} {ρ:Ren}
def aW{c:Prop}[Decidable c]{s t:Sem α}{s' a:Sem β}(b:c->az P P' A ρ s s')(d:¬c->az P P' A ρ t a):az P P' A ρ (if c then s else t) (if c then s' else a):=by
 split
 .exact b (by assumption:_)
 .exact d (by assumption:_)
def lj(h:VR ρ v v'):az P P' AR ρ (Instr.sureAddr v) (Instr.sureAddr v'):=by
 cases h with
 |pointer h=>
  cases h with
  |none=>exact .halt _ _
  |some h=>exact ak h
 |_=>exact .halt _ _
def aaa(h:VR ρ v v'):az P P' jG ρ (asIntOf v) (asIntOf v'):=by
 cases h with
 |int k n=>exact ak rfl
 |pointer h=>cases h<;>exact .halt _ _
 |_=>exact .halt _ _
def abr(h:VR ρ v v'):az P P' jG ρ (asInt v) (asInt v'):=by
 unfold asInt;refine aj (aaa h) λc x a _ b=> ?_;obtain rfl:x=a:=b;exact ak rfl
def aea(h:VR ρ v v'):az P P' jG ρ (asBool v) (asBool v'):=by
 cases h with
 |bool b=>exact ak rfl
 |_=>exact .halt _ _
def as9(h:VR ρ v v'):az P P' dw ρ (asAgg v) (asAgg v'):=by
 cases h with
 |agg h=>exact ak h
 |_=>exact .halt _ _
variable (T:Twin P P')
include T
theorem atc(t:TypeId):az P P' VR ρ (Instr.alloc t true (.tuple #[])) (Instr.alloc t true (.tuple #[])):=by
 unfold Instr.alloc;refine aj (aaO T t) λf z e _ c=> ?_;exact aj (ah3 t c) λ_ a d _ b=>ak (.pointer (.some b))
omit T in
theorem aza(t:TypeId)(h:VR ρ v v'):az P P' VR ρ (Instr.box t v) (Instr.box t v'):=by
 unfold Instr.box;exact aj (ah3 t h) λ_ a c _ b=>ak (.pointer (.some b))
theorem apN(t:TypeId)(h:VR ρ v v'):az P P' VR ρ (Instr.loadAt t v) (Instr.loadAt t v'):=by
 unfold Instr.loadAt;exact aj (lj h) λ_ a c _ b=>afN T t b
theorem anL(t:TypeId){u : Value}(h:VR ρ v v')(c:VR ρ u W):az P P' jG ρ (Instr.storeAt t v u) (Instr.storeAt t v' W):=by
 unfold Instr.storeAt;exact aj (lj h) λ_ a e d b=>akc T t b (c.mono d)
theorem atd(t:TypeId)(h:VR ρ v v')(f:Nat):az P P' VR ρ (Instr.field t v f) (Instr.field t v' f):=by
 unfold Instr.field;refine aj (aG T t) λl d j b hd=> ?_;obtain⟨rfl, -⟩:=hd;cases d with
 |struct a=>
  simp only;cases i:a[f]? with
  |none=>exact .halt _ _
  |some g=>exact aj (as9 (h.mono b)) λ_ c k _ e=>mE T g.type e g.offset
 |_=>exact .halt _ _
omit T in
theorem anM(h:VR ρ v v')(i:Nat):az P P' VR ρ (Instr.extract v i) (Instr.extract v' i):=by
 cases h with
 |@tuple c e h=>
  unfold Instr.extract;simp only;cases d:c[i]? with
  |none=>exact .halt _ _
  |some v=>
   obtain⟨v',a,b⟩:=bU.get h (i:=i) (v:=v) (by rw[fi];exact d);rw[fi] at a;rw[a];exact ak b
 |_=>exact .halt _ _
omit T in
theorem akd{f f':Fn}(b:FR ρ f f'){a : Array Value}(h:dw ρ a Z)(d:dw ρ c G):az P P' VR ρ (Instr.makeFunc f a c) (Instr.makeFunc f' Z G):=ak (.func b h d)
theorem adw(t:TypeId)(h:VR ρ v v'):az P P' VR ρ (Instr.makeInterface t v) (Instr.makeInterface t v'):=by
 unfold Instr.makeInterface;refine aj (aG T t) λc d b a hd=> ?_;obtain⟨rfl, -⟩:=hd;cases d<;>first|exact .halt _ _|exact ak (.iface t (h.mono a))
omit T in
theorem ake(t:TypeId):az P P' VR ρ (Instr.makeMap t none) (Instr.makeMap t none):=by
 unfold Instr.makeMap;exact aj (afM (.map .nil 0)) λ_ r b _ a=>ak (.map (.some a))
omit T in
theorem apO(x y:Int)(s:Bool)(c:BoundsCode):az P P' A ρ (runtimePanic (.bounds x y s c)) (runtimePanic (.bounds x y s c)):=by
 unfold runtimePanic;exact aj dr λa p b _ _=>.halt _ _
omit T in
theorem dY(m:String):az P P' A ρ (runtimePanic (.error m)) (runtimePanic (.error m)):=by
 unfold runtimePanic;exact aj dr λa p b _ _=>.halt _ _
omit T in
theorem apP:az P P' A ρ (runtimePanic .nilDeref) (runtimePanic .nilDeref):=by
 unfold runtimePanic;exact aj dr λa p b _ _=>.halt _ _
omit T in
theorem acy{α:Type}(k:IntKind)(x y:Int)(c:BoundsCode):(boundsPanic k x y c:Sem α)=((if k !=.u64&&0<=x&&x<=31 then(· ==1) <$> choose (.extern "runtime.boundsError.signed" 2) else pure (k !=.u64)) >>=λa=>runtimePanic (.bounds (IntKind.i64.wrap x) y a c)):=by
 unfold boundsPanic;dsimp only;split<;>rfl
omit T in
theorem oZ(b:Bool)(n m:Nat)(l h x:Option Value):Instr.sliceBounds b n m l h x=((match x with
  |some v=>Instr.sliceBound v m (if b then .slice3Acap else .slice3Alen)
  |none=>pure m) >>=λm=>(match h,x with
  |some v,some _=>Instr.sliceBound v m .slice3B
  |some v,none=>Instr.sliceBound v m (if b then .sliceAcap else .sliceAlen)
  |none,none=>pure n
  |none,some _=>stuck "Slice: max without high") >>=λh=>(match l with
  |some v=>Instr.sliceBound v h (if x.isSome then .slice3C else .sliceB)
  |none=>pure 0) >>=λl=>pure (l,h,m)):=by
 unfold Instr.sliceBounds;cases l<;>cases h<;>cases x<;>rfl
omit T in
theorem pd(k:IntKind)(x y:Int)(c:BoundsCode):az P P' A ρ (boundsPanic k x y c) (boundsPanic k x y c):=by
 rw[acy,acy];refine aj (A:=jG) ?_ λe b a _ d=> ?_
 .refine aW (λ_=> ?_) (λ_=>ak rfl);exact .choose _ λn=>.pure rfl
 .obtain rfl:b=a:=d;exact apO _ _ _ _
omit T in
theorem ah4(h:VR ρ v v'):az P P' AR ρ (asAddr v) (asAddr v'):=by
 cases h with
 |pointer h=>
  cases h with
  |none=>exact apP
  |some h=>exact ak h
 |_=>exact .halt _ _
omit T in
theorem kQ(h:VR ρ v v')(y:Nat)(c:BoundsCode):az P P' jG ρ (Instr.sliceBound v y c) (Instr.sliceBound v' y c):=by
 unfold Instr.sliceBound;refine aj (aaa h) λd x a _ b=> ?_;obtain rfl:x=a:=b;exact aW (λ_=>ak rfl) λ_=>pd _ _ _ _
inductive OVR (ρ:Ren):Option Value->Option Value->Prop
 |none:OVR ρ none none
 |some {a a':Value} (h:VR ρ a a'):OVR ρ (some a) (some a')
omit T in
theorem OVR.mono{ρ b:Ren}(h:ρ.Le b){a : Option Value}:OVR ρ a M->OVR b a M
 |.none=>.none
 |.some x=>.some (x.mono h)
omit T in
theorem jH(b:Bool)(n m:Nat){h x : Option Value}(f:OVR ρ l l')(c:OVR ρ h M)(a:OVR ρ x K):az P P' jG ρ (Instr.sliceBounds b n m l h x) (Instr.sliceBounds b n m l' M K):=by
 rw[oZ,oZ];refine aj (A:=jG) ?_ λy p d i r=> ?_
 .cases a with
  |none=>exact ak rfl
  |some a=>exact kQ a _ _
 obtain rfl:p=d:=r;refine aj (A:=jG) ?_ λv k g j o=> ?_
 .cases c with
  |none=>
   cases a with
   |none=>exact ak rfl
   |some a=>exact .halt _ _
  |some c=>
   cases a with
   |none=>exact kQ (c.mono i) _ _
   |some a=>exact kQ (c.mono i) _ _
 obtain rfl:k=g:=o;have q:x.isSome=K.isSome:=by cases a<;>rfl
 refine aj (A:=jG) ?_ λu t e w s=> ?_
 .cases f with
  |none=>exact ak rfl
  |some f=>simp only[q];exact kQ (f.mono (i.trans j)) _ _
 obtain rfl:t=e:=s;exact ak rfl
theorem ate(t:TypeId)(h:VR ρ v v'){x : Option Value}(r:OVR ρ l l')(w:OVR ρ u M)(A:OVR ρ x K):az P P' VR ρ (Instr.slice t v l u x) (Instr.slice t v' l' M K):=by
 unfold Instr.slice;refine aj (aG T t) λG d F f hd=> ?_;obtain⟨rfl, -⟩:=hd;have H:x.isSome=K.isSome:=by cases A<;>rfl
 cases d with
 |string=>
  cases h with
  |string s=>
   simp only[H];cases K.isSome with
   |true=>exact .halt _ _
   |false=>
    refine aj (jH _ _ _ (r.mono f) (w.mono f) .none) λD b k _ e=> ?_;obtain rfl:b=k:=e;exact ak (.string _)
  |_=>exact .halt _ _
 |slice e=>
  cases h with
  |slice i n c=>
   refine aj (jH _ _ _ (r.mono f) (w.mono f) (A.mono f)) λD b k p e=> ?_;obtain rfl:b=k:=e;refine aj (fO T _) λE z q j e=> ?_;obtain rfl:z=q:=e;refine ak (.slice ?_ _ _);split
   .exact i.mono (f.trans (p.trans j))
   .cases i with
    |none=>exact .none
    |some i=>exact .some ((i.mono (f.trans (p.trans j))).add _)
  |_=>exact .halt _ _
 |pointer g=>
  have o:az P P' VR G (do
    let a<-asAddr v
    let .array n elem<-underlying g|stuck "Slice: array type expected"
    let(l,h,m)<-Instr.sliceBounds false n n l u x
    let size<-sizeOf elem
    pure (.slice (some (if m=l then a else a.add (l*size))) (h-l) (m-l))) (do
    let a<-asAddr v'
    let .array n elem<-underlying g|stuck "Slice: array type expected"
    let(l,h,m)<-Instr.sliceBounds false n n l' M K
    let size<-sizeOf elem
    pure (.slice (some (if m=l then a else a.add (l*size))) (h-l) (m-l))):=by
   refine aj (ah4 (h.mono f)) λD a L p i=> ?_;refine aj (aG T g) λE d F j hd=> ?_;obtain⟨rfl, -⟩:=hd;cases d with
   |array n e=>
    have y:=f.trans (p.trans j);refine aj (jH _ _ _ (r.mono y) (w.mono y) (A.mono y)) λI b k C e=> ?_;obtain rfl:b=k:=e;refine aj (fO T _) λJ z q B e=> ?_;obtain rfl:z=q:=e;refine ak (.slice (.some ?_) _ _);split
    .exact i.mono (j.trans (C.trans B))
    .exact(i.mono (j.trans (C.trans B))).add _
   |_=>exact .halt _ _
  cases h<;>exact o
 |_=>cases h<;>exact .halt _ _
theorem atf(t:TypeId)(h:VR ρ v v')(hi:VR ρ i W):az P P' VR ρ (Instr.index t v i) (Instr.index t v' W):=by
 unfold Instr.index;refine aj (aaa hi) λm x j c g=> ?_;obtain rfl:x=j:=g;refine aj (aG T t) λl d k b hd=> ?_;obtain⟨rfl, -⟩:=hd;cases d with
 |array n e=>
  cases h with
  |agg h=>
   refine aW (λ_=> ?_) (λ_=>pd _ _ _ _);refine aj (fO T _) λo z f a e=> ?_;obtain rfl:z=f:=e;exact mE T _ (bU.mono (c.trans (b.trans a)) h) _
  |_=>exact .halt _ _
 |string=>
  cases h with
  |string s=>
   simp only;split
   .exact ak (.int _ _)
   .exact pd _ _ _ _
  |_=>exact .halt _ _
 |_=>cases h<;>exact .halt _ _
end
end
section
open Go
section
variable {P P':Program} {α β γ δ:Type} {A:Ren->α->β->Prop} {B:Ren->γ->δ->Prop} {ρ:Ren}
variable (T:Twin P P')
include T
theorem anN(t:TypeId)(f:Nat)(q:∀c g i,P.underlying t=some (.struct c)->c[f]?=some g->P.info? g.type=some i->i.size≠0)(h:VR ρ v v'):az P P' VR ρ (Instr.fieldAt t v f) (Instr.fieldAt t v' f):=by
 unfold Instr.fieldAt;refine aj (aG T t) λE d D w hd=> ?_;obtain⟨rfl,hd⟩:=hd;cases d with
 |struct c=>
  simp only;cases r:c[f]? with
  |none=>exact .halt _ _
  |some g=>
   refine aj (lj (h.mono w)) λs a l B z=> ?_;refine aj (A:=AR) ?_ λo b C _ n=>ak (.pointer (.some n));unfold fieldPlace sizeOf;have j:az P P' AR s (typeInfo g.type >>=λi=>if i.size=0 then partAt a g.offset g.byteOffset else pure (a.add g.offset)) (typeInfo g.type >>=λi=>if i.size=0 then partAt l g.offset g.byteOffset else pure (l.add g.offset)):=by
    refine aj (dX T g.type) λo i F u k=> ?_;obtain⟨rfl,k⟩:=k;have m:=q c g i hd r k;rw[da m,da m];exact ak ((z.mono u).add _)
   have e:∀x:Addr,((do let y<-(do pure (<-typeInfo g.type).size);if y=0 then partAt x g.offset g.byteOffset else pure (x.add g.offset)):Sem Addr)=(typeInfo g.type >>=λi=>if i.size=0 then partAt x g.offset g.byteOffset else pure (x.add g.offset)):=by
    intro x;unfold typeInfo;show Sem.bind (Sem.bind (Sem.bind program _) _) _=Sem.bind (Sem.bind program _) _;unfold program;simp only[Sem.bind]
    congr 1
    funext p
    cases p.info? g.type<;>rfl
   rw[e,e];exact j
 |_=>exact .halt _ _
theorem anO(t:TypeId)(h:VR ρ v v')(hi:VR ρ i W):az P P' VR ρ (Instr.indexAt t v i) (Instr.indexAt t v' W):=by
 unfold Instr.indexAt;refine aj (aaa hi) λF x w r B=> ?_;obtain rfl:x=w:=B;refine aj (aG T t) λτ d A p hd=> ?_;obtain⟨rfl, -⟩:=hd;have f:∀(j:Ren),τ.Le j->∀{b l:Option Addr} (n:Nat) (e:TypeId),OAR j b l->
   az P P' VR j (do
    let(base,len,elem):=(b,n,e)
    let g:=len<=1&&(match<-underlying t with|.array .. =>true|_=>false)
    match base with
    |some a=>
     if 0<=x.2/\x.2<len then pure (.pointer (some (a.add (x.2.toNat*(<-sizeOf elem)))))
     else if g then unsupported (.noEntry "op/indexAddr.an index out of range at an array of length 0 or 1 (ledger 616)")
     else boundsPanic x.1 x.2 len .index
    |none=>boundsPanic x.1 x.2 0 .index) (do
    let(base,len,elem):=(l,n,e)
    let g:=len<=1&&(match<-underlying t with|.array .. =>true|_=>false)
    match base with
    |some a=>
     if 0<=x.2/\x.2<len then pure (.pointer (some (a.add (x.2.toNat*(<-sizeOf elem)))))
     else if g then unsupported (.noEntry "op/indexAddr.an index out of range at an array of length 0 or 1 (ledger 616)")
     else boundsPanic x.1 x.2 len .index
    |none=>boundsPanic x.1 x.2 0 .index):=by
  intro j q b l n e m;dsimp only;refine aj (aG T t) λC d A y hd=> ?_;obtain⟨rfl, -⟩:=hd;cases m with
  |none=>exact pd _ _ _ _
  |some m=>
   refine aW (λ_=> ?_) λ_=>aW (λ_=>.halt _ _) λ_=>pd _ _ _ _;refine aj (fO T _) λD z s u e=> ?_;obtain rfl:z=s:=e;exact ak (.pointer (.some ((m.mono (y.trans u)).add _)))
 cases d with
 |array n e=>
  have k:az P P' VR τ _ _:=aj (lj (h.mono (r.trans p))) λj a E q o=>f j q n e (.some o);cases h<;>exact k
 |slice e=>
  cases h with
  |slice o n c=>exact f τ (Ren.Le.refl _) n e (o.mono (r.trans p))
  |_=>exact .halt _ _
 |_=>cases h<;>exact .halt _ _
end
end
section
open Go
inductive PRs (ρ:Ren):List (Nat×Value)->List (Nat×Value)->Prop
 |nil:PRs ρ [] []
 |cons (i:Nat) {v v':Value} {l l':List (Nat×Value)} (h:VR ρ v v') (hl:PRs ρ l l'):PRs ρ ((i,v)::l) ((i,v')::l')
def PRs.mono{ρ a:Ren}(h:ρ.Le a):∀{l b:List (Nat×Value)},PRs ρ l b->PRs a l b
 |_,_,.nil=>.nil
 |_,_,.cons i x y=>.cons i (x.mono h) (y.mono h)
def dw.set{ρ:Ren}(h:dw ρ c Z)(i:Nat)(a:VR ρ v v'):dw ρ (c.setIfInBounds i v) (Z.setIfInBounds i v'):=by
 unfold dw;rw[vF,vF];exact bU.set h i a
def dw.fT{ρ:Ren}(a:Nat):∀{l d:List Value} (k:Nat) {c e:Array Value},bU ρ l d->dw ρ c e->
  dw ρ ((l.zipIdx k).foldl (λb (x:Value×Nat)=>b.setIfInBounds (a+x.2) x.1) c) ((d.zipIdx k).foldl (λb (x:Value×Nat)=>b.setIfInBounds (a+x.2) x.1) e)
 |_,_,_,_,_,.nil,h=>h
 |_,_,k,_,_,.cons x y,h=>by
  simp only[List.zipIdx_cons,uU];exact dw.fT a (k+1) y (h.set _ x)
def aeb{ρ:Ren}(a:Nat->Option (Nat×Nat)):∀{l f:List (Nat×Value)} {c b:Array Value},PRs ρ l f->dw ρ c b->∀{d},Instr.fill a c l=some d->∃g,Instr.fill a b f=some g/\dw ρ d g
 |_,_,c,b,.nil,h,d,hd=>by
  unfold Instr.fill at hd ⊢;cases hd;exact⟨b,rfl,h⟩
 |_,_,c,b,.cons i x y,h,d,hd=>by
  unfold Instr.fill at hd ⊢;cases e:a i with
  |none=>rw[e] at hd;cases hd
  |some q=>
   rw[e] at hd;simp only at hd ⊢;rw[<-x.cells.size,<-bU.size h];split at hd
   .cases hd
   .rename_i j;rw[da j];refine aeb a y ?_ hd;have:=dw.fT q.1 0 x.cells h;simpa[sQ,<-Array.toList_zipIdx] using this
def bU.acz{ρ:Ren}{f g:Nat->Value}(h:∀i,VR ρ (f i) (g i)):∀l:List Nat,bU ρ (l.map f) (l.map g)
 |[]=>.nil
 |x::l=>.cons (h x) (bU.acz h l)
def dw.getD{ρ:Ren}(h:dw ρ c Z)(i:Nat):VR ρ c[i]! Z[i]!:=by
 rw[getElem!_def,getElem!_def];cases b:c[i]? with
 |none=>
  have:Z[i]?=none:=by
   rw[qn] at b ⊢;rw[<-bU.size h];exact b
  rw[this];exact .bool _
 |some v=>
  obtain⟨e,a,d⟩:=bU.get h (i:=i) (v:=v) (by rw[fi];exact b);rw[fi] at a;rw[a];exact d
def dw.zeros{ρ:Ren}(h:dw ρ c Z)(k:Nat):dw ρ ((Array.range k).map (c[· % c.size]!)) ((Array.range k).map (Z[· % Z.size]!)):=by
 unfold dw;rw[qG,qG,bU.size h];exact bU.acz (λi=>h.getD _) _
section
variable {P P':Program} {α β γ δ:Type} {A:Ren->α->β->Prop} {B:Ren->γ->δ->Prop} {ρ:Ren}
variable (T:Twin P P')
include T
theorem agI(t:TypeId)(n:Nat)(h:PRs ρ p.toList I.toList):az P P' VR ρ (Instr.buildSlice t n p) (Instr.buildSlice t n I):=by
 unfold Instr.buildSlice;refine aj (aG T t) λH d G w hd=> ?_;obtain⟨rfl,hd⟩:=hd;cases d with
 |slice e=>
  refine aj (fO T _) λτ z r o v=> ?_;obtain rfl:z=r:=v;dsimp only;refine aW (λ_=> ?_) (λ_=> ?_)
  .exact .halt _ _
  .have k:∀(f:Ren) (g:τ.Le f) (q b:Array Value),dw f q b->az P P' VR f (do
     let some cells:=Instr.fill (λi=>some (i*z,z)) ((Array.range (n*z)).map (q[· % q.size]!)) p.toList
      |stuck "buildSlice: a part of the wrong size"
     pure (.slice (some (<-newRow e cells)) n n)) (do
     let some cells:=Instr.fill (λi=>some (i*z,z)) ((Array.range (n*z)).map (b[· % b.size]!)) I.toList
      |stuck "buildSlice: a part of the wrong size"
     pure (.slice (some (<-newRow e cells)) n n)):=by
    intro f g q b j;cases u:Instr.fill (λi=>some (i*z,z)) ((Array.range (n*z)).map (q[· % q.size]!)) p.toList with
    |none=>exact .halt _ _
    |some c=>
     obtain⟨D,l,C⟩:=aeb _ (h.mono (w.trans (o.trans g))) (j.zeros (n*z)) u;rw[l];exact aj (oY e C) λ_ a E _ B=>ak (.slice (.some B) _ _)
   refine aW (λ_=> ?_) (λ_=> ?_)
   .exact aj (A:=dw) (ak .nil) λf q b g j=>k f g q b j
   .exact aj (aaO T _) λf x F g y=>aj (A:=dw) (ak y.cells) λm q b s j=>k m (g.trans s) q b j
 |_=>exact .halt _ _
theorem ah5(t:TypeId){l l' c : Value}(D:VR ρ l l')(H:VR ρ c W):az P P' VR ρ (Instr.makeSlice t l c) (Instr.makeSlice t l' W):=by
 unfold Instr.makeSlice;refine aj (aG T t) λV d R m hd=> ?_;obtain⟨rfl,hd⟩:=hd;cases d with
 |slice e=>
  dsimp only;refine aj (abr (D.mono m)) λS x k v r=> ?_;obtain rfl:x=k:=r;refine aj (abr (H.mono (m.trans v))) λK y B U G=> ?_;obtain rfl:y=B:=G;refine aj (dX T e) λI i X O o=> ?_;obtain⟨rfl,o⟩:=o;refine aW (λ_=> ?_) (λ_=> ?_)
  .refine aW (λ_=> ?_) (λ_=>aW (λ_=> ?_) (λ_=> ?_))
   .exact aj (dY (A:=λ_ _ _=>False) _) λ_ _ _ _ h=>h.elim
   .exact aj (dY (A:=λ_ _ _=>False) _) λ_ _ _ _ h=>h.elim
   .refine aj (iY _) λ_ n s _ E=> ?_;obtain rfl:n=s:=E;exact aj (dY (A:=λ_ _ _=>False) _) λ_ _ _ _ h=>h.elim
  .refine aj (akb _) λJ u N Q _=> ?_;refine aj (fO T _) λM z w p C=> ?_;obtain rfl:z=w:=C;have j:∀(b:Ren) (q f:Array Value),dw b q f->az P P' VR b (do
     let a<-newRow e ((Array.range ((IntKind.i64.wrap y).toNat*z)).map (q[· % q.size]!))
     pure (.slice (some a) (IntKind.i64.wrap x).toNat (IntKind.i64.wrap y).toNat)) (do
     let a<-newRow e ((Array.range ((IntKind.i64.wrap y).toNat*z)).map (f[· % f.size]!))
     pure (.slice (some a) (IntKind.i64.wrap x).toNat (IntKind.i64.wrap y).toNat)):=λb q f g=>
    aj (oY e (g.zeros _)) λ_ a L _ F=>ak (.slice (.some F) _ _)
   refine aW (λ_=> ?_) (λ_=> ?_)
   .exact aj (A:=dw) (ak .nil) λb q f _ g=>j b q f g
   .exact aj (aaO T _) λb x k _ p=>aj (A:=dw) (ak p.cells) λb q f _ g=>j b q f g
 |_=>exact .halt _ _
theorem amy:∀(a:List Field) (ρ:Ren),az P P' jG ρ (a.mapM λf=>(do pure (f.offset,<-sizeOf f.type):Sem (Nat×Nat))) (a.mapM λf=>(do pure (f.offset,<-sizeOf f.type):Sem (Nat×Nat)))
 |[],_=>by rw[List.mapM_nil];exact ak rfl
 |f::a,ρ=>by
  rw[wd];refine aj (A:=jG) ?_ λb x i _ c=> ?_
  .refine aj (fO T _) λb z j _ d=> ?_;obtain rfl:z=j:=d;exact ak rfl
  obtain rfl:x=i:=c;refine aj (amy a b) λk y g _ e=> ?_;obtain rfl:y=g:=e;exact ak rfl
theorem atg(t:TypeId)(h:PRs ρ p.toList I.toList):az P P' VR ρ (Instr.build t p) (Instr.build t I):=by
 unfold Instr.build;refine aj (aaO T t) λE z v q o=> ?_;refine aj (aG T t) λτ d D j hd=> ?_;obtain⟨rfl,hd⟩:=hd;have B:∀(k:Ren) (f:τ.Le k) (a:Nat->Option (Nat×Nat)),az P P' VR k (do
   let some cells:=Instr.fill a z.cells p.toList|stuck "build: no such field, or a part of the wrong size"
   pure (.agg cells)) (do
   let some cells:=Instr.fill a v.cells I.toList|stuck "build: no such field, or a part of the wrong size"
   pure (.agg cells)):=by
  intro k f a;cases g:Instr.fill a z.cells p.toList with
  |none=>exact .halt _ _
  |some c=>
   obtain⟨s,b,l⟩:=aeb a (h.mono (q.trans (j.trans f))) (o.mono (j.trans f)).cells g;rw[b];exact ak (.agg l)
 cases d with
 |struct C=>
  simp only[ue];refine aj (A:=jG) ?_ λk x w f u=> ?_
  .exact aj (amy T C.toList _) λ_ y m _ r=>by
    obtain rfl:y=m:=r;exact ak rfl
  obtain rfl:x=w:=u;cases g:Instr.fill (λi=>x[i]?) z.cells p.toList with
  |none=>exact .halt _ _
  |some c=>
   obtain⟨s,b,l⟩:=aeb _ (h.mono (q.trans (j.trans f))) (o.mono (j.trans f)).cells g;simp only[b];exact ak (.agg l)
 |array n e=>
  refine aj (fO T _) λk y m f r=> ?_;obtain rfl:y=m:=r;cases g:Instr.fill (λi=>some (i*y,y)) z.cells p.toList with
  |none=>simp only[g];exact .halt _ _
  |some c=>
   obtain⟨s,b,l⟩:=aeb _ (h.mono (q.trans (j.trans f))) (o.mono (j.trans f)).cells g;simp only[g,b];exact ak (.agg l)
 |_=>exact .halt _ _
end
end
section
open Go
section
variable {P P':Program} {α β γ δ:Type} {A:Ren->α->β->Prop} {B:Ren->γ->δ->Prop} {ρ:Ren}
def dw.args(h:dw ρ c Z)(i:Nat):OVR ρ c[i]? Z[i]?:=by
 cases b:c[i]? with
 |none=>
  have:Z[i]?=none:=by
   rw[qn] at b ⊢;rw[<-bU.size h];exact b
  rw[this];exact .none
 |some v=>
  obtain⟨e,a,d⟩:=bU.get h (i:=i) (v:=v) (by rw[fi];exact b);rw[fi] at a;rw[a];exact .some d
variable (T:Twin P P')
include T
theorem azb(r:Array TypeId)(t:TypeId){a : Array Value}(h:dw ρ a Z):az P P' VR ρ (Builtin.len_ r t a) (Builtin.len_ r t Z):=by
 unfold Builtin.len_;cases H:r[0]? with
 |none=>exact .halt _ _
 |some w=>
  have g:=h.args 0;cases E:a[0]? with
  |none=>exact .halt _ _
  |some x=>
   rw[E] at g;obtain⟨j,p,b⟩:∃j,Z[0]?=some j/\VR ρ x j:=by
    cases u:Z[0]? with
    |none=>rw[u] at g;cases g
    |some j=>rw[u] at g;cases g with|some h=>exact⟨j,rfl,h⟩
   rw[p];dsimp only;refine aj (aG T w) λC d z A hd=> ?_;obtain⟨rfl,hd⟩:=hd;replace b:=b.mono A;cases d with
   |string=>cases b<;>first|exact ak (.int _ _)|exact .halt _ _
   |array n e=>cases b<;>exact ak (.int _ _)
   |slice e=>cases b<;>first|exact ak (.int _ _)|exact .halt _ _
   |pointer f=>
    have i:az P P' VR C (do
      let .array n _<-underlying f|stuck "len: pointer to array expected"
      pure (goInt n)) (do
      let .array n _<-underlying f|stuck "len: pointer to array expected"
      pure (goInt n)):=by
     refine aj (aG T f) λm d z _ hd=> ?_;obtain⟨rfl, -⟩:=hd;cases d<;>first|exact ak (.int _ _)|exact .halt _ _
    cases b<;>exact i
   |map k e=>
    cases b with
    |map c=>
     cases c with
     |none=>exact ak (.int _ _)
     |some c=>
      refine aj (eQ c) λm o B _ q=> ?_;cases q with
      |@map e v F _=>
       have y:e.size=v.size:=by
        have:∀{l s:List MapEntry},mU m l s->l.length=s.length:=by
         intro l s h
         induction h with
         |nil=>rfl
         |cons _ _ G=>simp[G]
        simpa using this F
       show az P P' VR m (pure (goInt e.size)) (pure (goInt v.size));rw[y];exact ak (.int _ _)
      |_=>exact .halt _ _
    |_=>exact .halt _ _
   |chan D e=>
    cases b with
    |chan c=>
     cases c with
     |none=>exact ak (.int _ _)
     |some c=>
      refine aj (eQ c) λm o B _ q=> ?_;cases q<;>exact .halt _ _
    |_=>exact .halt _ _
   |_=>cases b<;>exact .halt _ _
omit T in
theorem agJ(a:VR ρ x W):az P P' jG ρ (Builtin.lenOf x) (Builtin.lenOf W):=by
 cases a<;>first|exact ak rfl|exact .halt _ _
omit T in
theorem kR(z n:Nat)(d:VR ρ x W):az P P' dw ρ (Builtin.firstCells z n x) (Builtin.firstCells z n W):=by
 cases d with
 |slice h l c=>
  cases h with
  |none=>exact ak .nil
  |some h=>exact oX h _
 |string s=>
  refine ak ?_;unfold dw;exact bU.kP λv a=>by
   simp only[qG,qu] at a;obtain⟨b,_,rfl⟩:=a;exact .int _ _
 |_=>exact .halt _ _
omit T in
theorem dw.zeroCells(h:dw ρ c Z)(n:Nat):dw ρ (Builtin.zeroCells c n) (Builtin.zeroCells Z n):=by
 unfold Builtin.zeroCells dw;rw[qG,qG,bU.size h];exact bU.acz (λi=>h.getD _) _
omit T in
theorem dw.app{d : Array Value}(h:dw ρ c Z)(k:dw ρ d G):dw ρ (c++d) (Z++G):=by
 unfold dw;rw[qe,qe];exact bU.app h k
theorem aw1(j:Array TypeId)(t:TypeId){a : Array Value}(h:dw ρ a Z):az P P' VR ρ (Builtin.copy_ j t a) (Builtin.copy_ j t Z):=by
 unfold Builtin.copy_;have b:=h.args 0;have f:=h.args 1;revert b f;generalize a[0]?=x0;generalize Z[0]?=x0';generalize a[1]?=x1;generalize Z[1]?=x1';intro b f;cases y:j[0]? with
 |none=>exact .halt _ _
 |some p=>
  cases b with
  |none=>exact .halt _ _
  |some b=>
   cases f with
   |none=>exact .halt _ _
   |some f=>
    dsimp only;refine aj (aG T p) λE d C i hd=> ?_;obtain⟨rfl,hd⟩:=hd;cases d with
    |slice e=>
     replace b:=b.mono i;cases b with
     |slice g n c=>
      dsimp only;refine aj (agJ (f.mono i)) λD m v l r=> ?_;obtain rfl:m=v:=r;refine aj (fO T e) λA z o k s=> ?_;obtain rfl:z=o:=s;refine aj (kR z _ (f.mono (i.trans (l.trans k)))) λx B u q w=> ?_;cases g with
      |none=>exact ak (.int _ _)
      |some g=>exact aj (iZ (g.mono (l.trans (k.trans q))) 0 w) λ_ _ _ _ _=>ak (.int _ _)
     |_=>exact .halt _ _
    |_=>exact .halt _ _
end
end
section
open Go
def ja(a:Addr)(n:Nat):Leaves P (λ_=>True) (Builtin.holdsCells a n):=by
 unfold Builtin.holdsCells;intro z;cases z<;>trivial
def adx(z l n:Nat)(b:Option Addr)(x:Value):Leaves P (λ_=>True) (Builtin.mayShare z l n b x):=by
 unfold Builtin.mayShare;cases b with
 |none=>
  cases x with
  |slice a _ _=>cases a with
   |none=>trivial
   |some c=>exact Leaves.bind (P:=P) (s:=Builtin.holdsCells c (n*z)) (ja _ _) λ_ _=>trivial
  |_=>trivial
 |some a=>
  refine Leaves.bind (ja _ _) λq _ f=> ?_;show Leaves P _ (if(!(q&&!f))=true then pure true else _);cases(q&&!f) with
  |false=>trivial
  |true=>
   cases x with
   |slice a _ _=>cases a with
    |none=>trivial
    |some c=>exact Leaves.bind (ja _ _) λ_ _=>trivial
   |_=>trivial
section
variable {P P':Program} {ρ:Ren}
variable (T:Twin P P')
include T
theorem apQ(E:Array TypeId)(t:TypeId)(Y:∀u,E[1]?=some u->∀k,P.underlying u≠some (.int k)){a : Array Value}(h:dw ρ a Z):az P P' VR ρ (Builtin.append_ E t a) (Builtin.append_ E t Z):=by
 unfold Builtin.append_;have w:=h.args 0;have l:=h.args 1;revert w l;generalize a[0]?=x0;generalize Z[0]?=x0';generalize a[1]?=x1;generalize Z[1]?=x1';intro w l;cases ht:E[0]? with
 |none=>exact .halt _ _
 |some t0=>
  cases w with
  |none=>exact .halt _ _
  |some w=>
   cases l with
   |none=>exact .halt _ _
   |@some x J l=>
    dsimp only;refine aj (aG T t0) λσ d U K hd=> ?_;obtain⟨rfl,hd⟩:=hd;cases d with
    |slice e=>
     replace w:=w.mono K;cases w with
     |@slice b F p sl j=>
      dsimp only;refine aj (fO T e) λτ z z' m ez=> ?_;obtain rfl:z=z':=ez;have o:∀(υ:Ren),τ.Le υ->∀n:Nat,az P P' VR υ
        (let f:=sl+n
         if f<=j then do
          let new<-Builtin.firstCells z n x
          if let some a:=b then storeCells (a.add (sl*z)) new.toList
          pure (.slice b f j)
         else do
          if(f:Int)>IntKind.i64.max/\(false=true\/(<-typeInfo e).bytes=0) then runtimePanic (.error "growslice: len out of range")
          if Builtin.nextslicecap f j*(<-typeInfo e).bytes>2 ^ 48 then(if false then runtimePanic (.error "growslice: len out of range") else do
           if !(<-Builtin.mayShare z sl n b x) then mark .noRoom
           unsupported (.resourceLimit "append: a slice or a string whose bytes no memory bears"))
          let ir<-choose (.appendCap f j e)
          askRoom (ir*(<-typeInfo e).bytes)
          let old<-Builtin.firstCells z sl (.slice b sl j)
          let new<-Builtin.firstCells z n x
          let g:=Builtin.zeroCells (<-zeroValue e).cells (ir-f)
          pure (.slice (some (<-newRow e (old++new++g))) f ir):Sem Value)
        (let f:=sl+n
         if f<=j then do
          let new<-Builtin.firstCells z n J
          if let some a:=F then storeCells (a.add (sl*z)) new.toList
          pure (.slice F f j)
         else do
          if(f:Int)>IntKind.i64.max/\(false=true\/(<-typeInfo e).bytes=0) then runtimePanic (.error "growslice: len out of range")
          if Builtin.nextslicecap f j*(<-typeInfo e).bytes>2 ^ 48 then(if false then runtimePanic (.error "growslice: len out of range") else do
           if !(<-Builtin.mayShare z sl n F J) then mark .noRoom
           unsupported (.resourceLimit "append: a slice or a string whose bytes no memory bears"))
          let ir<-choose (.appendCap f j e)
          askRoom (ir*(<-typeInfo e).bytes)
          let old<-Builtin.firstCells z sl (.slice F sl j)
          let new<-Builtin.firstCells z n J
          let g:=Builtin.zeroCells (<-zeroValue e).cells (ir-f)
          pure (.slice (some (<-newRow e (old++new++g))) f ir):Sem Value):=by
       intro υ I n;have lx:=K.trans (m.trans I);replace p:=p.mono (m.trans I);replace l:=l.mono lx;dsimp only;refine aW (λ_=> ?_) (λ_=> ?_)
       .refine aj (kR z n l) λv c c' C N=> ?_;cases p with
        |none=>exact ak (.slice .none _ _)
        |some p=>exact aj (iZ ((p.mono C).add _) 0 N) λQ _ _ G _=>ak (.slice (.some (p.mono (C.trans G))) _ _)
       .have grow:∀(v:Ren),υ.Le v->az P P' VR v (do
          let ir<-choose (.appendCap (sl+n) j e)
          askRoom (ir*(<-typeInfo e).bytes)
          let old<-Builtin.firstCells z sl (.slice b sl j)
          let new<-Builtin.firstCells z n x
          let g:=Builtin.zeroCells (<-zeroValue e).cells (ir-(sl+n))
          pure (.slice (some (<-newRow e (old++new++g))) (sl+n) ir):Sem Value) (do
          let ir<-choose (.appendCap (sl+n) j e)
          askRoom (ir*(<-typeInfo e).bytes)
          let old<-Builtin.firstCells z sl (.slice F sl j)
          let new<-Builtin.firstCells z n J
          let g:=Builtin.zeroCells (<-zeroValue e).cells (ir-(sl+n))
          pure (.slice (some (<-newRow e (old++new++g))) (sl+n) ir):Sem Value):=by
         intro v C;refine aj (iY _) λQ k X G ek=> ?_;obtain rfl:k=X:=ek;refine aj (dX T e) λχ i3 a3 hx D=> ?_;obtain⟨rfl, -⟩:=D;refine aj (akb _) λω _ _ L _=> ?_;have W:=C.trans (G.trans (hx.trans L));refine aj (kR z sl (.slice (p.mono W) sl j)) λa0 c c' S N=> ?_;refine aj (kR z n (l.mono (W.trans S))) λa1 d U L hd=> ?_;refine aj (aaO T e) λξ y y' V R=> ?_;exact aj (oY e (dw.app (dw.app (bU.mono (L.trans V) N) (bU.mono V hd)) (dw.zeroCells R.cells _))) λ_ r r' _ hr=>ak (.slice (.some hr) _ _)
        refine aj (dX T e) λv i i' C D=> ?_;obtain⟨rfl, -⟩:=D;refine aW (λ_=> ?_) (λ_=> ?_)
        .exact aj (dY (A:=λ_ _ _=>False) _) λ_ _ _ _ h=>h.elim
        .refine aj (dX T e) λQ i2 a2 G D=> ?_;obtain⟨rfl, -⟩:=D;refine aW (λ_=> ?_) (λ_=>grow Q (C.trans G));refine .dead (lh.bind (iW (adx _ _ _ _ _) λq=> ?_) _) _;cases q
         .exact iW (P:=P) (s:=mark .noRoom) trivial λ_=>gz _
         .exact gz _
      cases I:E[1]? with
      |none=>
       have B:=aj (agJ (P:=P) (P':=P') (l.mono (K.trans m))) λυ n O H M=>by
        obtain rfl:n=O:=M;exact o υ H n
       exact B
      |some u=>
       refine aj (aG T u) λυ d U H hd=> ?_;obtain⟨rfl,hd⟩:=hd;have B:=aj (agJ (P:=P) (P':=P') (l.mono (K.trans (m.trans H)))) λv n O hn M=>by
        obtain rfl:n=O:=M;exact o v (H.trans hn) n
       cases d with
       |int k=>exact absurd hd (Y u I k)
       |_=>exact B
     |_=>exact .halt _ _
    |_=>exact .halt _ _
end
end
section
open Go
section
variable {P P':Program} {ρ:Ren}
variable (T:Twin P P')
include T
theorem anP(t:TypeId)(h:VR ρ v v'){x : Option Value}(j:OVR ρ l l')(k:OVR ρ u M)(m:OVR ρ x K):az P P' VR ρ (Instr.sliceAt t v l u x) (Instr.sliceAt t v' l' M K):=by
 unfold Instr.sliceAt;refine aj (aG T t) λC d A c hd=> ?_;obtain⟨rfl,hd⟩:=hd;cases d with
 |array n e=>
  refine aj (lj (h.mono c)) λB a y p o=> ?_;have f:=c.trans p;refine aj (jH _ _ _ (j.mono f) (k.mono f) (m.mono f)) λs b q i e=> ?_;obtain rfl:b=q:=e;refine aj (fO T _) λw z r g e=> ?_;obtain rfl:z=r:=e;refine ak (.slice (.some ?_) _ _);split
  .exact o.mono (i.trans g)
  .exact(o.mono (i.trans g)).add _
 |_=>exact ate T t (h.mono c) (j.mono c) (k.mono c) (m.mono c)
theorem ath(j:Array TypeId)(t:TypeId){a : Array Value}(h:dw ρ a Z):az P P' VR ρ (Builtin.clear_ j t a) (Builtin.clear_ j t Z):=by
 unfold Builtin.clear_;have b:=h.args 0;revert b;generalize a[0]?=x0;generalize Z[0]?=x0';intro b;cases u:j[0]? with
 |none=>exact .halt _ _
 |some r=>
  cases b with
  |none=>exact .halt _ _
  |some b=>
   dsimp only;refine aj (aG T r) λx d s m hd=> ?_;obtain⟨rfl,hd⟩:=hd;replace b:=b.mono m;cases b with
   |map g=>
    cases g with
    |none=>cases d<;>exact ak (.tuple .nil)
    |some g=>
     cases d<;>(refine aj (eQ g) λl o w f k=> ?_;cases k<;>first|exact .halt _ _|exact aj (iX (f.r g) (.map .nil _)) λ_ _ _ _ _=>ak (.tuple .nil))
   |slice i n c=>
    cases i with
    |none=>cases d<;>exact ak (.tuple .nil)
    |some i=>
     cases n with
     |zero=>cases d<;>exact ak (.tuple .nil)
     |succ n=>
      cases d with
      |slice e=>exact aj (aaO T e) λl z v f p=>aj (iZ (i.mono f) 0 (p.cells |> λq=>dw.zeroCells q _)) λ_ _ _ _ _=>ak (.tuple .nil)
      |_=>exact .halt _ _
   |_=>cases d<;>exact .halt _ _
theorem azc(i:Array TypeId)(t:TypeId){a : Array Value}(h:dw ρ a Z):az P P' VR ρ (Builtin.cap_ i t a) (Builtin.cap_ i t Z):=by
 unfold Builtin.cap_;have b:=h.args 0;revert b;generalize a[0]?=x0;generalize Z[0]?=x0';intro b;cases s:i[0]? with
 |none=>exact .halt _ _
 |some r=>
  cases b with
  |none=>exact .halt _ _
  |some b=>
   dsimp only;refine aj (aG T r) λp d k m hd=> ?_;obtain⟨rfl,hd⟩:=hd;replace b:=b.mono m;cases d with
   |array n e=>cases b<;>exact ak (.int _ _)
   |slice e=>cases b<;>first|exact ak (.int _ _)|exact .halt _ _
   |pointer c=>
    have f:az P P' VR p (do
      let .array n _<-underlying c|stuck "cap: pointer to array expected"
      pure (goInt n)) (do
      let .array n _<-underlying c|stuck "cap: pointer to array expected"
      pure (goInt n)):=by
     refine aj (aG T c) λl d k _ hd=> ?_;obtain⟨rfl, -⟩:=hd;cases d<;>first|exact ak (.int _ _)|exact .halt _ _
    cases b<;>exact f
   |chan q e=>
    cases b with
    |chan g=>
     cases g with
     |none=>exact ak (.int _ _)
     |some g=>
      refine aj (eQ g) λl o u _ j=> ?_;cases j<;>exact .halt _ _
    |_=>exact .halt _ _
   |_=>cases b<;>exact .halt _ _
omit T in
theorem aec(op:BinOp)(k:IntKind)(x y:Int):az P P' VR ρ (Op.intArith op k x y) (Op.intArith op k x y):=by
 unfold Op.intArith;cases op<;>first|exact ak (.int _ _)|exact .halt _ _
omit T in
theorem apR(op:BinOp)(k:IntKind)(x y:Int):az P P' VR ρ (Op.intDiv op k x y) (Op.intDiv op k x y):=by
 unfold Op.intDiv;refine aW (λ_=>dY _) (λ_=> ?_);cases op<;>first|exact ak (.int _ _)|exact .halt _ _
omit T in
theorem afO(op:BinOp)(k:IntKind)(x y:Int):az P P' VR ρ (Op.intBits op k x y) (Op.intBits op k x y):=by
 unfold Op.intBits;cases op<;>first|exact ak (.int _ _)|exact .halt _ _
omit T in
theorem amz(op:BinOp)(k l:IntKind)(x y:Int):az P P' VR ρ (Op.shift op k x l y) (Op.shift op k x l y):=by
 unfold Op.shift;refine aW (λ_=>dY _) (λ_=> ?_);cases op<;>first|exact ak (.int _ _)|exact .halt _ _
omit T in
theorem aed(op:BinOp)(x y:Int):az P P' VR ρ (Op.intCmp op x y) (Op.intCmp op x y):=by
 unfold Op.intCmp;cases op<;>first|exact ak (.bool _)|exact .halt _ _
omit T in
theorem lq(op:BinOp)(x y:ByteArray):az P P' VR ρ (Op.stringOp op x y) (Op.stringOp op x y):=by
 unfold Op.stringOp;cases op<;>first|exact ak (.bool _)|exact .halt _ _|exact aW (λ_=>.halt _ _) (λ_=>ak (.string _))
omit T in
theorem ati(op:UnOp)(h:VR ρ v v'):az P P' VR ρ (Op.unary op v) (Op.unary op v'):=by
 cases h with
 |int k n=>cases op<;>simp only[Op.unary]<;>first|exact aec _ _ _ _|exact afO _ _ _ _|exact .halt _ _
 |bool b=>cases op<;>first|exact ak (.bool _)|exact .halt _ _
 |pointer h=>cases h<;>cases op<;>exact .halt _ _
 |_=>cases op<;>exact .halt _ _
end
end
section
open Go
inductive FdR (ρ:Ren):Option (Nat×Value)->Option (Nat×Value)->Prop
 |none:FdR ρ none none
 |some (i:Nat) {v v':Value} (h:VR ρ v v'):FdR ρ (some (i,v)) (some (i,v'))
inductive aw2 (ρ:Ren):Option (Option (Nat×Value))->Option (Option (Nat×Value))->Prop
 |none:aw2 ρ none none
 |some {a a':Option (Nat×Value)} (h:FdR ρ a a'):aw2 ρ (some a) (some a')
def anQ{ρ:Ren}(a:IntKind){e e' : Value}(b:VR ρ k k')(c:VR ρ e e'):Instr.sameNow (.int a) k e=Instr.sameNow (.int a) k' e'\/k=.tuple #[]\/e=.tuple #[]:=by
 cases b<;>cases c<;>first|exact .inl rfl|exact .inr (.inl rfl)|exact .inr (.inr rfl)
section
variable {P:Program} {t:TypeId} {kd:IntKind} (ht:P.underlying t=some (.int kd))
include ht
theorem abt:Leaves P (λd=>d=.int kd) (underlying t):=by
 unfold underlying;show Leaves P (λd=>d=.int kd) (match P.underlying t with
  |some d=>pure d
  |none=>stuck "no such type")
 rw[ht];exact rfl
theorem akf(h:x=.tuple #[]\/y=.tuple #[]):lh P (Op.equal t x y):=by
 unfold Op.equal Op.maxDepth Op.equalIn;refine Leaves.bind (abt ht) λd hd=> ?_;subst hd;rcases h with rfl|rfl
 .cases y with
  |pointer a=>cases a<;>exact trivial
  |int k n=>exact trivial
  |_=>exact trivial
 .cases x with
  |pointer a=>cases a<;>exact trivial
  |int k n=>exact trivial
  |_=>exact trivial
theorem agK{b:Bool}(h:Instr.sameNow (.int kd) x y=some b):Leaves P (λr=>r=b) (Op.equal t x y):=by
 unfold Op.equal Op.maxDepth Op.equalIn;refine Leaves.bind (abt ht) λd hd=> ?_;subst hd;cases x with
 |int k n=>
  cases y with
  |int a m=>
   by_cases e:k=a
   .simp only[Instr.sameNow,e,pv,mt] at h;dsimp only;rw[eg e];exact h
   .simp[Instr.sameNow,e] at h
  |_=>cases h
 |_=>cases y<;>cases h
theorem afP{ρ:Ren}{k k':Value}(a:VR ρ k k'):∀{l c:List MapEntry},mU ρ l c->∀i,aw2 ρ (Instr.findNow (.int kd) k l i) (Instr.findNow (.int kd) k' c i)\/(Instr.findNow (.int kd) k l i=none/\lh P (Instr.findAsking t k l i))
 |_,_,.nil,_=>.inl (.some .none)
 |_,_,.cons (.mk (k:=ek) h1 h2 b) y,i=>by
  rcases anQ kd a h1 with e|e
  .unfold Instr.findNow;rw[e];cases f:Instr.sameNow (.int kd) k' _ with
   |none=>exact .inl .none
   |some q=>
    cases q with
    |true=>exact .inl (.some (.some i h2))
    |false=>
     refine(afP a y (i+1)).imp id λh=>⟨h.1, ?_⟩;unfold Instr.findAsking;refine Leaves.bind (agK ht (e.trans f)) λb d=> ?_;subst d;exact h.2
  .refine .inr ⟨?_, ?_⟩
   .unfold Instr.findNow;have:Instr.sameNow (.int kd) k ek=none:=by
     rcases e with rfl|rfl
     .rfl
     .cases k<;>rfl
    rw[this]
   .unfold Instr.findAsking;exact Leaves.bind (akf ht e) λ_ h=>h.elim
end
section
variable {P P':Program} {ρ:Ren}
variable (T:Twin P P')
include T
end
end
section
open Go
section
variable {P P':Program} {ρ:Ren}
def aw3(d:VR ρ x W)(a:VR ρ y U):az P P' VR ρ (Builtin.max2 x y) (Builtin.max2 W U):=by
 cases d with
 |int k n=>cases a with
  |int p m=>exact ak (.int _ _)
  |pointer h=>cases h<;>exact .halt _ _
  |_=>exact .halt _ _
 |string s=>cases a with
  |string t=>
   unfold Builtin.max2;refine aj (lq .geq s t) λo v g l f=>aj (aea f) λi b c j e=> ?_;obtain rfl:b=c:=e;exact ak (.string _)
  |pointer h=>cases h<;>exact .halt _ _
  |_=>exact .halt _ _
 |pointer h=>cases h<;>cases a with
  |pointer h=>cases h<;>exact .halt _ _
  |_=>exact .halt _ _
 |_=>cases a with
  |pointer h=>cases h<;>exact .halt _ _
  |_=>exact .halt _ _
def aw4(d:VR ρ x W)(a:VR ρ y U):az P P' VR ρ (Builtin.min2 x y) (Builtin.min2 W U):=by
 cases d with
 |int k n=>cases a with
  |int p m=>exact ak (.int _ _)
  |pointer h=>cases h<;>exact .halt _ _
  |_=>exact .halt _ _
 |string s=>cases a with
  |string t=>
   unfold Builtin.min2;refine aj (lq .leq s t) λo v g l f=>aj (aea f) λi b c j e=> ?_;obtain rfl:b=c:=e;exact ak (.string _)
  |pointer h=>cases h<;>exact .halt _ _
  |_=>exact .halt _ _
 |pointer h=>cases h<;>cases a with
  |pointer h=>cases h<;>exact .halt _ _
  |_=>exact .halt _ _
 |_=>cases a with
  |pointer h=>cases h<;>exact .halt _ _
  |_=>exact .halt _ _
def aee{f g:Value->Value->Sem Value}(e:∀(d:Ren) x c y j,VR d x c->VR d y j->az P P' VR d (f x y) (g c j)):∀(l:List Value) {i:List Value} {ρ:Ren},bU ρ l i->∀{x c:Value},VR ρ x c->az P P' VR ρ (l.foldlM f x) (i.foldlM g c)
 |[],_,_,.nil,_,_,h=>ak h
 |_::l,_,ρ,.cons a b,x,c,h=>by
  rw[List.foldlM_cons,List.foldlM_cons];exact aj (e _ _ _ _ _ h a) λd v n m k=>aee e l (b.mono m) k
def azd(b:Array TypeId)(t:TypeId){a : Array Value}(h:dw ρ a Z):az P P' VR ρ (Builtin.max_ b t a) (Builtin.max_ b t Z):=by
 unfold Builtin.max_;unfold dw at h;revert h;generalize a.toList=l;generalize Z.toList=l';intro h;cases h with
 |nil=>exact .halt _ _
 |cons x y=>exact aee (λ_ _ _ _ _=>aw3) _ y x
def aze(b:Array TypeId)(t:TypeId){a : Array Value}(h:dw ρ a Z):az P P' VR ρ (Builtin.min_ b t a) (Builtin.min_ b t Z):=by
 unfold Builtin.min_;unfold dw at h;revert h;generalize a.toList=l;generalize Z.toList=l';intro h;cases h with
 |nil=>exact .halt _ _
 |cons x y=>exact aee (λ_ _ _ _ _=>aw4) _ y x
def ady(t:TypeId):Leaves P (λ_=>True) (typeInfo t):=by
 show Leaves P (λ_=>True) (match P.info? t with|some i=>pure i|none=>stuck "no such type");split<;>trivial
def abu(t:TypeId):Leaves P (λ_=>True) (underlying t):=by
 show Leaves P (λ_=>True) (match P.underlying t with|some i=>pure i|none=>stuck "no such type");split<;>trivial
def aaw(t:TypeId):Leaves P (λ_=>True) (elemOf t):=by
 unfold elemOf;refine Leaves.bind (abu t) λd _=> ?_;split<;>trivial
def aax(t:TypeId)(v:Value):Leaves P (λ_=>True) (newVar t v):=by
 unfold newVar newRow;exact⟨λd l e=>(by cases e),λr=>trivial⟩
def pg:Leaves P (λ_=>True) program:=trivial
def aef(t:TypeId):Leaves P (λ_=>True) (typeStr t):=by
 unfold typeStr;refine Leaves.bind (ady t) λi _=> ?_;dsimp only;split<;>trivial
def adz:Leaves P (λ_=>True) Instr.panicnil:=by
 unfold Instr.panicnil;intro r;cases r<;>trivial
def eF(e:RuntimeError) :lh P (runtimePanic e:Sem V):=by
 unfold runtimePanic;refine iW pg λp=> ?_;cases e with
 |typeAssertion=>exact iW (aaw _) λ_=>iW (aax _ _) λ_=>gz _
 |panicNil=>exact iW (aaw _) λ_=>iW (aax _ _) λ_=>gz _
 |_=>exact gz _
def atj(x:Value)(s:Sem Value):az P P' VR ρ (Instr.panic x) s:=by
 cases x with
 |iface t v=>exact .halt _ _
 |nilIface=>
  refine .dead ?_ _;refine iW adz λn=> ?_;split
  .exact gz _
  .exact eF _
 |_=>exact .halt _ _
end
section
variable {P P':Program} {ρ:Ren}
variable (T:Twin P P')
include T
theorem atk(t:TypeId)(h:VR ρ x W):az P P' VR ρ (Instr.range t x) (Instr.range t W):=by
 unfold Instr.range;refine aj (aG T t) λq d n l hd=> ?_;obtain⟨rfl,hd⟩:=hd;replace h:=h.mono l;have fin:∀{f:Ren} {o g:Obj},OR f o g->az P P' VR f (do pure (.pointer (some ⟨<-newObj o,0,none⟩))) (do pure (.pointer (some ⟨<-newObj g,0,none⟩))):=λb=>
  aj (afM b) λ_ r m _ i=>ak (.pointer (.some (.mk i 0 none)))
 cases d with
 |string=>cases h with
  |string s=>exact fin (.stringIter s 0)
  |_=>exact .halt _ _
 |map k e=>cases h with
  |map a=>cases a with
   |none=>exact fin (.mapIter .none 0 #[] 0)
   |some a=>
    refine aj (eQ a) λf o g j b=> ?_;cases b with
    |map p c=>exact fin (.mapIter (.some (j.r a)) c #[] c)
    |_=>exact .halt _ _
  |_=>exact .halt _ _
 |_=>cases h<;>exact .halt _ _
end
end
section
open Go
section
variable {P P':Program} {ρ:Ren}
inductive ONR (ρ:Ren):Option (Addr×Bool)->Option (Addr×Bool)->Prop
 |none:ONR ρ none none
 |some {a a':Addr} (h:AR ρ a a') (l:Bool):ONR ρ (some (a,l)) (some (a',l))
def aeg(h:ρ.r r R):az P P' ONR ρ (numberAt r) (numberAt R):=by
 unfold numberAt;refine aj (mj h) λi s a c e=> ?_;obtain rfl:s=a:=e;cases s with
 |some z=>exact ak .none
 |none=>
  refine aj (eQ (c.r h)) λd o g f b=> ?_;cases b with
  |number h l=>exact ak (.some h l)
  |_=>exact ak .none
def abv(h:ρ.r r R):az P P' (λ_ a b=>a=none/\b=none) ρ (viewAt r) (viewAt R):=by
 unfold viewAt;refine aj (mj h) λk s c f e=> ?_;obtain rfl:s=c:=e;cases s with
 |some z=>exact ak ⟨rfl,rfl⟩
 |none=>
  refine aj (eQ (f.r h)) λg o j i d=> ?_;cases d<;>exact ak ⟨rfl,rfl⟩
def aeh(h:AR ρ a Y):az P P' jG ρ (noView a) (noView Y):=by
 unfold noView;obtain⟨b,o,s⟩:=h;refine aj (abv b) λf x c d e=> ?_;obtain⟨rfl,rfl⟩:=e;exact ak rfl
def mW(h:AR ρ a Y):az P P' (λd p b=>AR d p.1 b.1/\p.2=b.2) ρ (behindNumber a) (behindNumber Y):=by
 unfold behindNumber;obtain⟨c,o,s⟩:=h;refine aj (aeg c) λd x g f e=> ?_;cases e with
 |none=>exact ak ⟨.mk (f.r c) o s,rfl⟩
 |some h l=>exact ak ⟨h,rfl⟩
variable (T:Twin P P')
include T
theorem adT(t:TypeId):P'.cellsOf t=P.cellsOf t:=by unfold Program.cellsOf;rw[T.info]
theorem amA(t:TypeId):P'.bytesOf t=P.bytesOf t:=by unfold Program.bytesOf;rw[T.info]
theorem abw:∀(d:Nat) (t:TypeId) (n:Nat),byteOfCell P' d t n=byteOfCell P d t n
 |0,_,_=>rfl
 |d+1,t,n=>by
  unfold byteOfCell;rw[T.under];simp only[adT T,amA T,abw d]
theorem pj(h:AR ρ a Y):az P P' jG ρ (byteOf a) (byteOf Y):=by
 obtain⟨c,o,s⟩:=h;unfold byteOf;cases s with
 |some s=>exact ak rfl
 |none=>
  refine aj dr λl p q d f=> ?_;obtain⟨rfl,rfl⟩:=f;refine aj (aeh (.mk (d.r c) o none)) λj _ _ g _=> ?_;refine aj (mj ((d.trans g).r c)) λm z i k e=> ?_;obtain rfl:z=i:=e;cases z with
  |none=>exact .halt _ _
  |some z=>
   obtain⟨e,n⟩:=z;dsimp only;rw[adT T,amA T,T.depth,abw T];refine aW (λ_=>ak rfl) λ_=> ?_;cases byteOfCell p p.depth e (o % p.cellsOf e) with
   |none=>exact .halt _ _
   |some b=>exact ak rfl
theorem abx(G:Nat)(t:TypeId)(J:IntKind)(N:P.underlying t=some (.int J))(j:VR ρ x W)(f:VR ρ y U):az P P' jG ρ (Op.equalIn (G+1) t x y) (Op.equalIn (G+1) t W U):=by
 unfold Op.equalIn;refine aj (aG T t) λσ d d' M hd=> ?_;obtain⟨rfl,hd⟩:=hd;obtain rfl:d=.int J:=dq (hd.symm.trans N);replace j:=j.mono M;replace f:=f.mono M;cases j with
 |int k n=>cases f with
  |int k2 m=>exact aW (λ_=>ak rfl) (λ_=>.halt _ _)
  |pointer h=>cases h with
   |none=>exact .halt _ _
   |some h=>
    by_cases e:n=0
    .subst e;exact ak rfl
    .refine .dead ?_ _;split<;>first|exact gz _|(exfalso;simp_all)
  |_=>exact .halt _ _
 |pointer j=>cases j with
  |none=>cases f<;>exact .halt _ _
  |some j=>cases f with
   |int k m=>
    by_cases e:m=0
    .subst e;exact ak rfl
    .refine .dead ?_ _;split<;>first|exact gz _|(exfalso;simp_all)
   |pointer f=>cases f with
    |none=>exact .halt _ _
    |some f=>
     refine aj (mW j) λτ p p' A c=> ?_;refine aj (mW (f.mono A)) λυ q V R g=> ?_;obtain⟨c, -⟩:=c;obtain⟨g, -⟩:=g;obtain⟨a,l⟩:=p;obtain⟨v,l'⟩:=p';obtain⟨b,m⟩:=q;obtain⟨I,m'⟩:=V;replace c:=c.mono R;dsimp only at c g ⊢;refine aj dr λs z z' L Q=> ?_;obtain⟨rfl,rfl⟩:=Q;rw[T.globals.1,T.globals.2];replace c:=c.mono L;replace g:=g.mono L;have O:(a.block ==b.block)=(v.block ==I.block):=by
      obtain⟨o,K,H⟩:=c;obtain⟨r,Z,Y⟩:=g;rw[ru];simp only[oE];exact⟨λe=>by subst e;exact s.fn o r,λe=>by subst e;exact s.inj o r⟩
     have X:decide (a.block<gN)=decide (v.block<gN):=by
      obtain⟨o,K,H⟩:=c;exact uF.2 (s.lf o)
     have S:(a ==b)=(v ==I):=by
      rw[ru];simp only[oE];obtain⟨o,K,H⟩:=c;obtain⟨r,Z,Y⟩:=g;constructor
      .intro e;injection e with C w E
       subst C w E;rw[s.fn o r]
      .intro e;injection e with C w E
       subst C w E;rw[s.inj o r]
     rw[O,X,S];refine aW (λ_=> ?_) λ_=> ?_
     .refine aj (pj T c) λF u D B e=> ?_;obtain rfl:u=D:=e;refine aj (pj T (g.mono B)) λF u D B e=> ?_;obtain rfl:u=D:=e;exact ak rfl
     .refine aj (dX T t) λF i i' B e=> ?_;obtain⟨rfl,_⟩:=e;split
      .exact aW (λ_=>ak rfl) λ_=>.halt _ _
      .exact .halt _ _
   |_=>exact .halt _ _
 |_=>cases f<;>exact .halt _ _
theorem akg(t:TypeId)(a:IntKind)(c:P.underlying t=some (.int a))(d:VR ρ x W)(b:VR ρ y U):az P P' jG ρ (Op.equal t x y) (Op.equal t W U):=by
 unfold Op.equal Op.maxDepth;exact abx T 9999 t a c d b
end
end
section
open Go
section
variable {P P':Program} {ρ:Ren}
variable (T:Twin P P')
include T
theorem aby(t:TypeId)(c:IntKind)(f:P.underlying t=some (.int c)):∀(l:List MapEntry) {d:List MapEntry} {ρ:Ren} {k g:Value},VR ρ k g->mU ρ l d->∀i,az P P' FdR ρ (Instr.findAsking t k l i) (Instr.findAsking t g d i)
 |[],_,_,_,_,_,.nil,_=>ak .none
 |_::l,_,ρ,_,_,hk,.cons (.mk h1 h2 b) y,i=>by
  unfold Instr.findAsking;refine aj (akg T t c f hk h1) λm x j a e=> ?_;obtain rfl:x=j:=e;exact aW (λ_=>ak (.some i (h2.mono a))) λ_=>aby t c f l (hk.mono a) (y.mono a) (i+1)
theorem afQ(t:TypeId)(a:IntKind)(e:P.underlying t=some (.int a)){l l':List MapEntry}(f:VR ρ k k')(g:mU ρ l l'):az P P' FdR ρ (Instr.findKey t k l) (Instr.findKey t k' l'):=by
 unfold Instr.findKey;refine aj (aG T t) λm d j b hd=> ?_;obtain⟨rfl,hd⟩:=hd;obtain rfl:d=.int a:=dq (hd.symm.trans e);refine Or.elim (afP e (f.mono b) (g.mono b) 0) (λh=> ?_) (λ⟨i,c⟩=>by rw[i];exact .dead c _);revert h;generalize Instr.findNow (.int a) k l 0=r;generalize Instr.findNow (.int a) k' l' 0=r';intro h;cases h with
 |none=>exact aby T t a e l (f.mono b) (g.mono b) 0
 |some h=>exact ak h
theorem aei(b:Bool)(n:Nat)(t:TypeId)(a:IntKind)(c:P.underlying t=some (.int a))(k k':Value):az P P' jG ρ (Instr.checkKey b (n+1) t k) (Instr.checkKey b (n+1) t k'):=by
 unfold Instr.checkKey;refine aj (aG T t) λg d e f hd=> ?_;obtain⟨rfl,hd⟩:=hd;obtain rfl:d=.int a:=dq (hd.symm.trans c);exact ak rfl
theorem apS(t:TypeId)(E:∀k e,P.underlying t=some (.map k e)->∃s,P.underlying k=some (.int s))(D:VR ρ x W)(hi:VR ρ i U)(l:Bool):az P P' VR ρ (Instr.lookup t x i l) (Instr.lookup t W U l):=by
 unfold Instr.lookup;refine aj (aG T t) λσ d O G hd=> ?_;obtain⟨rfl,hd⟩:=hd;replace D:=D.mono G;replace hi:=hi.mono G;cases d with
 |map f g=>
  obtain⟨s,p⟩:=E _ _ hd;have fin:∀{q:Ren} {m c:Array MapEntry},σ.Le q->mU q m.toList c.toList->az P P' VR q
    (do
     Instr.checkKey m.isEmpty 10000 f i
     let(v,k)<-match<-Instr.findKey f i m.toList with
      |some (_,v)=>pure (v,true)
      |none=>pure (<-zeroValue g,false)
     pure (if l then .tuple #[v,.bool k] else v))
    (do
     Instr.checkKey c.isEmpty 10000 f U
     let(v,k)<-match<-Instr.findKey f U c.toList with
      |some (_,v)=>pure (v,true)
      |none=>pure (<-zeroValue g,false)
     pure (if l then .tuple #[v,.bool k] else v)):=λ{q m c} y n=>by
   have B:m.isEmpty=c.isEmpty:=by
    rw[<-sx,<-sx];revert n;generalize m.toList=a;generalize c.toList=b;intro n;cases n<;>rfl
   rw[B];refine aj (aei T _ _ f s p i U) λM _ _ F _=> ?_;refine aj (afQ T f s p (hi.mono (y.trans F)) (n.mono F)) λJ r K N C=> ?_;have last:∀{A:Ren} {v w:Value} (b:Bool),VR A v w->az P P' VR A (pure (if l then .tuple #[v,.bool b] else v)) (pure (if l then .tuple #[w,.bool b] else w)):=λb u=>by
    cases l
    .exact ak u
    .exact ak (.tuple (.cons u (.cons (.bool b) .nil)))
   cases C with
   |none=>exact aj (aaO T g) λA z L _ H=>last false H
   |some j u=>exact last true u
  cases D with
  |map E=>cases E with
   |none=>exact fin (Ren.Le.refl _) .nil
   |some C=>
    refine aj (eQ C) λq o Q y I=> ?_;cases I with
    |map n k=>exact fin y n
    |_=>exact .halt _ _
  |_=>exact .halt _ _
 |_=>exact .halt _ _
end
end
section
open Go
def AR.eq_iff{ρ:Ren}(j:AR ρ a Y)(k:AR ρ b N):(a ==b)=(Y ==N):=by
 rw[ru];simp only[oE];obtain⟨i,o,l⟩:=j;obtain⟨g,n,m⟩:=k;constructor
 .intro e;injection e with c f d
  subst c f d;rw[ρ.fn i g]
 .intro e;injection e with c f d
  subst c f d;rw[ρ.inj i g]
def OAR.eq_iff{ρ:Ren}{a b : Option Addr}(d:OAR ρ a Q)(c:OAR ρ b F):(a ==b)=(Q ==F):=by
 cases d with
 |none=>cases c<;>rfl
 |some d=>cases c with
  |none=>rfl
  |some c=>exact AR.eq_iff d c
def NR.eq_iff{ρ:Ren}{a b f : Option Nat}(d:NR ρ a E)(c:NR ρ b f):(a ==b)=(E ==f):=by
 rw[ru];simp only[oE];cases d with
 |none=>cases c<;>simp
 |some d=>cases c with
  |none=>simp
  |some c=>
   simp only[mt];exact⟨λe=>by subst e;exact ρ.fn d c,λe=>by subst e;exact ρ.inj d c⟩
def avQ{ρ:Ren}{f:Value->Value->Bool}(c:∀x i y g,VR ρ x i->VR ρ y g->f x y=true->f i g=true):∀{a d b e:List Value},bU ρ a d->bU ρ b e->((a.zip b).all λ(x,y)=>f x y)=true->((d.zip e).all λ(x,y)=>f x y)=true
 |_,_,_,_,.nil,_,_=>rfl
 |_,_,_,_,.cons _ _,.nil,_=>rfl
 |_,_,_,_,.cons x y,.cons u v,h=>by
  rw[List.zip_cons_cons,qF,ge] at h ⊢;exact⟨c _ _ _ _ x u h.1,avQ c y v h.2⟩
def akh{ρ:Ren}:∀(n:Nat) {x d y c:Value},VR ρ x d->VR ρ y c->Instr.sameBits n x y=true->Instr.sameBits n d c=true:=by
 intro n
 induction n with
 |zero=>
  intro x d y c b a;cases b with
  |pointer h=>cases a with
   |pointer k=>intro e;exact(OAR.eq_iff h k).symm.trans e
   |_=>intro e;cases e
  |chan h=>cases a with
   |chan k=>intro e;exact(NR.eq_iff h k).symm.trans e
   |_=>intro e;cases e
  |_=>cases a<;>first|exact id|(intro e;cases e;done)
 |succ n f=>
  intro x d y c b a;cases b with
  |agg b=>
   cases a with
   |agg a=>
    unfold Instr.sameBits;rw[bU.size b,bU.size a,ge,ge];exact λh=>⟨h.1,avQ (λ_ _ _ _=>f) b a h.2⟩
   |_=>intro e;cases e
  |iface t b=>cases a with
   |iface u a=>
    unfold Instr.sameBits;rw[ge,ge];exact λh=>⟨h.1,f b a h.2⟩
   |_=>intro e;cases e
  |pointer h=>cases a with
   |pointer k=>intro e;exact(OAR.eq_iff h k).symm.trans e
   |_=>intro e;cases e
  |chan h=>cases a with
   |chan k=>intro e;exact(NR.eq_iff h k).symm.trans e
   |_=>intro e;cases e
  |_=>cases a<;>first|exact id|(intro e;cases e;done)
def mU.push{ρ:Ren}{a : Array MapEntry}(h:mU ρ a.toList O.toList){e e':MapEntry}(k:ER ρ e e'):mU ρ (a.push e).toList (O.push e').toList:=by
 rw[rT,rT];revert h;generalize a.toList=l;generalize O.toList=l';intro h
 induction l generalizing l' with
 |nil=>cases h;exact .cons k .nil
 |cons x l b=>cases h with
  |cons u v=>exact .cons u (b _ v)
def mU.modify{ρ:Ren}{a : Array MapEntry}(h:mU ρ a.toList O.toList)(i:Nat){f f':MapEntry->MapEntry}(c:∀e b,ER ρ e b->ER ρ (f e) (f' b)):mU ρ (a.modify i f).toList (O.modify i f').toList:=by
 rw[wK,wK];revert h;generalize a.toList=l;generalize O.toList=l';intro h
 induction l generalizing l' i with
 |nil=>cases h;simpa using .nil
 |cons x l d=>cases h with
  |cons u v=>cases i with
   |zero=>exact .cons (c _ _ u) v
   |succ i=>exact .cons u (d i _ v)
def mU.at{ρ:Ren}{a : Array MapEntry}(h:mU ρ a.toList O.toList)(i:Nat)(c:VR ρ k k'):VR ρ (((a[i]?).map (·.key)).getD k) (((O[i]?).map (·.key)).getD k'):=by
 rw[<-fi,<-fi];revert h;generalize a.toList=l;generalize O.toList=l';intro h
 induction l generalizing l' i with
 |nil=>cases h;simpa using c
 |cons x l d=>cases h with
  |cons u v=>cases i with
   |zero=>cases u with
    |mk e f b=>simpa using e
   |succ i=>simpa using d i _ v
section
variable {P P':Program} {ρ:Ren}
def aej(f:VR ρ x W)(a:VR ρ y U):az P P' VR ρ (Instr.keyThatStays x y) (Instr.keyThatStays W U):=by
 unfold Instr.keyThatStays;by_cases b:Instr.sameBits 10000 x y=true
 .rw[eg b,eg (akh 10000 f a b)];exact ak a
 rw[da b];by_cases d:Instr.sameBits 10000 W U=true
 .rw[eg d];refine az.abq (.extern "map.whichKeyStays" 2) 0 rfl ?_;exact ak a
 rw[da d];refine aj (iY _) λi n g c e=> ?_;obtain rfl:n=g:=e;by_cases e:n=0
 .rw[eg e,eg e];exact ak (a.mono c)
 .rw[da e,da e];exact ak (f.mono c)
variable (T:Twin P P')
include T
theorem ac3(t:TypeId)(H:∀k e,P.underlying t=some (.map k e)->∃p,P.underlying k=some (.int p))(A:VR ρ x W)(hi:VR ρ i U)(s:VR ρ v v'):az P P' jG ρ (Instr.mapUpdate t x i v) (Instr.mapUpdate t W U v'):=by
 unfold Instr.mapUpdate;refine aj (aG T t) λS d Q z hd=> ?_;obtain⟨rfl,hd⟩:=hd;replace A:=A.mono z;replace hi:=hi.mono z;replace s:=s.mono z;cases d with
 |map m D=>
  obtain⟨p,l⟩:=H _ _ hd;cases A with
  |map w=>cases w with
   |none=>exact .dead (eF _) _
   |some y=>
    refine aj (eQ y) λR o V C G=> ?_;cases G with
    |map u c=>
     refine aj (aei T _ _ m p l i U) λK _ _ g _=> ?_;refine aj (afQ T m p l (hi.mono (C.trans g)) (u.mono g)) λJ r I q F=> ?_;have f:=C.trans (g.trans q);cases F with
     |none=>exact iX (f.r y) (.map ((u.mono (g.trans q)).push (.mk (hi.mono f) (s.mono f) c)) _)
     |some j O=>
      refine aj (aej ((u.mono (g.trans q)).at j (hi.mono f)) (hi.mono f)) λL k N B E=> ?_;refine iX ((f.trans B).r y) (.map ((u.mono (g.trans (q.trans B))).modify j λe M h=> ?_) _);cases h with
      |mk a b n=>exact .mk E (s.mono (f.trans B)) n
    |_=>exact .halt _ _
  |_=>exact .halt _ _
 |_=>exact .halt _ _
end
end
section
open Go
def mU.filter{ρ:Ren}(p:Nat->Bool):∀{l l':List MapEntry},mU ρ l l'->mU ρ (l.filter λe=>p e.born) (l'.filter λe=>p e.born)
 |_,_,.nil=>.nil
 |_,_,.cons (v:=v) (v':=v') (l:=l) (l':=l') h y=>by
  have a:v.born=v'.born:=by cases h;rfl
  rw[rX,rX,a];split
  .exact .cons h (mU.filter p y)
  .exact mU.filter p y
def mU.all{ρ:Ren}(p:Nat->Bool):∀{l l':List MapEntry},mU ρ l l'->(l.all λe=>p e.born)=(l'.all λe=>p e.born)
 |_,_,.nil=>rfl
 |_,_,.cons (v:=v) (v':=v') (l:=l) (l':=l') h y=>by
  have a:v.born=v'.born:=by cases h;rfl
  rw[qF,qF,a,mU.all p y]
def mU.len{ρ:Ren}:∀{l a:List MapEntry},mU ρ l a->l.length=a.length
 |_,_,.nil=>rfl
 |_,_,.cons _ y=>by simp[y.len]
def mU.app{ρ:Ren}:∀{l b:List MapEntry},mU ρ l b->∀{m a:List MapEntry},mU ρ m a->mU ρ (l++m) (b++a)
 |_,_,.nil,_,_,h=>h
 |_,_,.cons x y,_,_,h=>.cons x (y.app h)
def mU.get{ρ:Ren}:∀{l a:List MapEntry},mU ρ l a->∀i:Nat,(l[i]?=none/\a[i]?=none)\/∃e b,l[i]?=some e/\a[i]?=some b/\ER ρ e b
 |_,_,.nil,_=>.inl ⟨rfl,rfl⟩
 |_,_,.cons x _,0=>.inr ⟨_,_,rfl,rfl,x⟩
 |_,_,.cons _ y,i+1=>by simpa using y.get i
inductive OER (ρ:Ren):Option MapEntry->Option MapEntry->Prop
 |none:OER ρ none none
 |some {e e':MapEntry} (h:ER ρ e e'):OER ρ (some e) (some e')
def aw5{ρ:Ren}(b:Bool){a : Array MapEntry}(h:mU ρ a.toList O.toList)(n:Nat) :
  (((if b then #[none] else #[])++a.map some)[n]?=none/\((if b then #[none] else #[])++O.map some)[n]?=none)\/∃e c,((if b then #[none] else #[])++a.map some)[n]?=some e/\((if b then #[none] else #[])++O.map some)[n]?=some c/\OER ρ e c:=by
 have d:∀i:Nat,((a.map some)[i]?=none/\(O.map some)[i]?=none)\/∃e c,(a.map some)[i]?=some e/\(O.map some)[i]?=some c/\OER ρ e c:=λi=>by
  rw[rv,rv,<-fi,<-fi];rcases h.get i with⟨g,f⟩|⟨e,c,g,f,j⟩
  .rw[g,f];exact .inl ⟨rfl,rfl⟩
  .rw[g,f];exact .inr ⟨_,_,rfl,rfl,.some j⟩
 cases b with
 |false=>simpa using d n
 |true=>
  cases n with
  |zero=>exact .inr ⟨none,none,by simp[sX],by simp[sX],.none⟩
  |succ n=>
   have k:∀x:Array (Option MapEntry),(#[none]++x)[n+1]?=x[n]?:=λx=>by simp[sX]
   simp only[pv,k];exact d n
section
variable {P P':Program} {ρ:Ren}
def aw6(h:VR ρ x W)(b:Bool)(t:TypeId):az P P' VR ρ (Instr.next x b t) (Instr.next W b t):=by
 unfold Instr.next
 cases h with
 |pointer h=>cases h with
  |none=>exact .halt _ _
  |some h=>
   obtain⟨A,o,s⟩:=h;cases o with
   |succ n=>exact .halt _ _
   |zero=>
    refine aj (eQ A) λS q M F w=> ?_;cases w with
    |stringIter s p=>cases b with
     |false=>exact .halt _ _
     |true=>
      refine aW (λ_=> ?_) λ_=>ak (.tuple (.cons (.bool _) .nil));exact aj (iX (F.r A) (.stringIter _ _)) λ_ _ _ _ _=>ak (.tuple (.cons (.bool _) (.cons (.int _ _) (.cons (.int _ _) .nil))))
    |mapIter l c d last=>cases b with
     |true=>cases l<;>exact .halt _ _
     |false=>cases l with
      |none=>exact ak (.tuple (.cons (.bool _) .nil))
      |some l=>
       refine aj (eQ l) λR q M D w=> ?_;cases w with
       |@map k f m B=>
        have J:k.isEmpty=f.isEmpty:=by
         rw[<-sx,<-sx];revert m;generalize k.toList=a;generalize f.toList=b;intro m;cases m<;>rfl
        have K:(k.all λe=>decide (e.born>=last))=(f.all λe=>decide (e.born>=last)):=by
         rw[<-Array.all_toList,<-Array.all_toList];exact m.all λn=>decide (n>=last)
        have z:=m.filter λn=>!d.contains n;have j:=z.filter λn=>decide (n<c);have G:=z.filter λn=>decide (n>=c);simp only[<-Array.toList_filter] at z j G;dsimp only;rw[J,K];refine aW (λ_=>.halt _ _) λ_=> ?_;have r:=j.app G;rw[<-qe,<-qe] at r;have C:(Array.filter (λe=>decide (e.born<c)) (Array.filter (λe=>!d.contains e.born) k)).isEmpty=(Array.filter (λe=>decide (e.born<c)) (Array.filter (λe=>!d.contains e.born) f)).isEmpty:=by
         rw[<-sx,<-sx];revert j;generalize Array.toList _=a;generalize Array.toList _=b;intro j;cases j<;>rfl
        rw[C];have g:=r.len;simp only[qS] at g;revert r g;generalize Array.isEmpty _=bb;generalize Array.filter _ (Array.filter _ k)++_=c1;generalize Array.filter _ (Array.filter _ f)++_=c2;intro r g;rw[sD,sD,tS,tS,g];refine aj (iY _) λO n H u e=> ?_;obtain rfl:n=H:=e;rcases aw5 bb r n with⟨y,v⟩|⟨e,Q,y,v,i⟩
        .rw[y,v];exact .halt _ _
        .rw[y,v];cases i with
         |none=>exact ak (.tuple (.cons (.bool _) .nil))
         |some i=>
          obtain⟨I,L,T⟩:=i;exact aj (iX ((F.trans (D.trans u)).r A) (.mapIter (.some ((D.trans u).r l)) _ _ _)) λN _ _ E _=>ak (.tuple (.cons (.bool _) (.cons ((I.mono u).mono E) (.cons ((L.mono u).mono E) .nil))))
       |_=>exact .halt _ _
    |_=>cases b<;>exact .halt _ _
 |_=>exact .halt _ _
end
end
section
open Go
section
variable {P P':Program} {ρ:Ren}
def LeR(_:Ren)(b b':Bool):Prop:=b'=true->b=true
def abz(h:AR ρ a Y):az P P' LeR ρ (frozen a) (frozen Y):=.frozen h λ_ _ b=>ak b
def ac4(h:AR ρ a Y):az P P' LeR ρ (stringish a) (stringish Y):=by
 obtain⟨c,o,s⟩:=h;unfold stringish;refine aj (abz (.mk c o s)) λk b f d e=> ?_;cases f with
 |true=>
  obtain rfl:=e rfl;exact ak λ_=>rfl
 |false=>
  cases b with
  |true=>
   refine az.agH λz=> ?_;cases z with
   |none=>exact ak λ_=>rfl
   |some z=>exact az.adS λb=>ak λ_=>rfl
  |false=>
   refine aj (mj (d.r c)) λj z i g e=> ?_;obtain rfl:z=i:=e;cases z with
   |none=>exact ak id
   |some z=>exact abz (.mk ((d.trans g).r c) _ none)
def aki(l:AR ρ a Y)(j:AR ρ b N):az P P' LeR ρ (mayBeOne a b) (mayBeOne Y N):=by
 have c:∀{i:Ren} {a Y:Addr},AR i a Y->az P P' jG i (do pure ((<-shape a.block) matches some (_,0)):Sem Bool) (do pure ((<-shape Y.block) matches some (_,0))):=λh=>by
  obtain⟨n,o,s⟩:=h;refine aj (mj n) λp z f d e=> ?_;obtain rfl:z=f:=e;exact ak rfl
 unfold mayBeOne;refine aj (ac4 l) λi x v g m=> ?_;refine aj (ac4 (j.mono g)) λp y t d r=> ?_;refine aj (c (l.mono (g.trans d))) λq z f k e=> ?_;obtain rfl:z=f:=e;refine aj (c (j.mono (g.trans (d.trans k)))) λq u w k e=> ?_;obtain rfl:u=w:=e;refine ak ?_;unfold LeR at m r ⊢;cases x<;>cases v<;>cases y<;>cases t<;>cases z<;>cases u<;>simp_all
def aek(f:AR ρ a Y)(d:AR ρ b N):az P P' jG ρ (sameAddr a b) (sameAddr Y N):=by
 unfold sameAddr;have g:(a.block ==b.block)=(Y.block ==N.block):=by
  obtain⟨k,G,J⟩:=f;obtain⟨c,F,D⟩:=d;rw[ru];simp only[oE];exact⟨λe=>by subst e;exact ρ.fn k c,λe=>by subst e;exact ρ.inj k c⟩
 rw[g,AR.eq_iff f d];refine aW (λ_=>ak rfl) λ_=> ?_;refine aj (abz f) λK x m q r=> ?_;refine aj (abz (d.mono q)) λI y l t w=> ?_;have c:=q.trans t;by_cases j:(x&&y)=true
 .rw[eg j];exact .halt _ _
 have i:¬(m&&l)=true:=λe=>j (by
  unfold LeR at r w;cases x<;>cases m<;>cases y<;>cases l<;>simp_all)
 rw[da j,da i];refine aj (aeh (f.mono c)) λC _ _ o _=> ?_;refine aj (aeh (d.mono (c.trans o))) λA _ _ v _=> ?_;have p:=c.trans (o.trans v);refine aj (aki (f.mono p) (d.mono p)) λE z u L e=> ?_;cases u with
 |true=>
  obtain rfl:=e rfl;refine aj (iY _) λB n s H e=> ?_;obtain rfl:n=s:=e;exact ak rfl
 |false=>
  cases z with
  |false=>exact ak rfl
  |true=>exact az.abq (.extern "sameAddr.stringBytes" 2) 0 rfl (.pure rfl)
end
end
section
open Go
inductive afR {β δ:Type} (B:Ren->β->δ->Prop) (ρ:Ren):ForInStep β->ForInStep δ->Prop
 |done {b d} (h:B ρ b d):afR B ρ (.done b) (.done d)
 |yield {b d} (h:B ρ b d):afR B ρ (.yield b) (.yield d)
section
variable {P P':Program} {β δ:Type} {B:Ren->β->δ->Prop}
def po{i:Type}:∀(l:List i) {ρ:Ren} {b:β} {d:δ} {f:i->β->Sem (ForInStep β)} {g:i->δ->Sem (ForInStep δ)},B ρ b d->
  (∀(e:Ren) a b d,ρ.Le e->a∈l->B e b d->az P P' (afR B) e (f a b) (g a d))->az P P' B ρ (forIn l b f) (forIn l d g)
 |[],_,_,_,_,_,c,_=>by
  rw[ul,ul];exact ak c
 |a::l,ρ,_,_,f,g,c,hf=>by
  rw[ud,ud];refine aj (hf ρ a _ _ (Ren.Le.refl _) (by simp) c) λe s o m h=> ?_;cases h with
  |done h=>exact ak h
  |yield h=>exact po l h λj a b d k n c=>hf j a b d (m.trans k) (by simp[n]) c
def abA (l:Array V) {ρ:Ren} {b:β} {d:δ} {f:V->β->Sem (ForInStep β)} {g:V->δ->Sem (ForInStep δ)} (j:B ρ b d)
  (e:∀(c:Ren) a b d,ρ.Le c->a∈l->B c b d->az P P' (afR B) c (f a b) (g a d)):az P P' B ρ (forIn l b f) (forIn l d g):=by
 rw[<-tL,<-tL];exact po l.toList j λc a b d k i=>e c a b d k (by simpa using i)
def abB (n:Nat) {ρ:Ren} {b:β} {d:δ} {f:Nat->β->Sem (ForInStep β)} {g:Nat->δ->Sem (ForInStep δ)} (i:B ρ b d)
  (e:∀(c:Ren) a b d,ρ.Le c->B c b d->az P P' (afR B) c (f a b) (g a d)):az P P' B ρ (forIn [0:n] b f) (forIn [0:n] d g):=by
 rw[tY,tY];exact po _ i λc a b d j _=>e c a b d j
end
end
section
open Go
def apT{c:Prop}[Decidable c]{t : Sem V}(h:lh P s)(k:lh P t):lh P (if c then s else t):=by
 split
 .exact h
 .exact k
section
variable {P P':Program} {ρ:Ren}
variable (T:Twin P P')
include T
theorem aab:∀(d:Nat) {ρ:Ren} (t:TypeId) {x I y H:Value},VR ρ x I->VR ρ y H->az P P' jG ρ (Op.equalIn d t x y) (Op.equalIn d t I H)
 |0,_,_,_,_,_,_,_,_=>.halt _ _
 |d+1,ρ,t,x,I,y,H,j,g=>by
  by_cases D:∃v,P.underlying t=some (.int v)
  .obtain⟨v,D⟩:=D;exact abx T d t v D j g
  unfold Op.equalIn;refine aj (aG T t) λσ u u' M hd=> ?_;obtain⟨rfl,hd⟩:=hd;replace j:=j.mono M;replace g:=g.mono M;cases u with
  |int v=>exact absurd ⟨v,hd⟩ D
  |bool=>cases j<;>cases g<;>first|exact ak rfl|exact .halt _ _
  |string=>cases j<;>cases g<;>first|exact ak rfl|exact .halt _ _
  |float k=>cases j<;>cases g<;>first|exact aW (λ_=>ak rfl) (λ_=>.halt _ _)|exact .halt _ _
  |complex k=>cases j<;>cases g<;>first|exact aW (λ_=>ak rfl) (λ_=>.halt _ _)|exact .halt _ _
  |struct X=>cases j with
   |agg j=>cases g with
    |agg g=>
     refine aj dr λC p p' l q=> ?_;obtain⟨Y,W⟩:=q;rw[Y,W,T.stood];refine aW (λ_=>.halt _ _) λ_=> ?_;refine aj (abA (B:=jG) X (rfl:jG C (none,()) (none,())) λE f r s A _ _=> ?_) λE r s A e=> ?_
     .have w:=l.trans A;refine aW (λ_=> ?_) λ_=>ak (.yield rfl);refine aj (mE T f.type (bU.mono w j) f.offset) λV a U L J=> ?_;refine aj (mE T f.type (bU.mono (w.trans L) g) f.offset) λS b R F o=> ?_;refine aj (aab d f.type (J.mono F) o) λQ q K _ e=> ?_;obtain rfl:q=K:=e;exact aW (λ_=>ak (.done rfl)) λ_=>ak (.yield rfl)
     .obtain rfl:r=s:=e;obtain⟨_|q,u⟩:=r<;>exact ak rfl
    |_=>exact .halt _ _
   |_=>cases g<;>exact .halt _ _
  |array n e=>cases j with
   |agg j=>cases g with
    |agg g=>
     refine aj (fO T e) λC z G l q=> ?_;obtain rfl:z=G:=q;refine aj (abB (B:=jG) n (rfl:jG C (none,()) (none,())) λE f r s A _=> ?_) λE r s A e=> ?_
     .have w:=l.trans A;refine aj (mE T e (bU.mono w j) (f*z)) λV a U L J=> ?_;refine aj (mE T e (bU.mono (w.trans L) g) (f*z)) λS b R F o=> ?_;refine aj (aab d e (J.mono F) o) λQ q K _ e=> ?_;obtain rfl:q=K:=e;exact aW (λ_=>ak (.done rfl)) λ_=>ak (.yield rfl)
     .obtain rfl:r=s:=e;obtain⟨_|q,u⟩:=r<;>exact ak rfl
    |_=>exact .halt _ _
   |_=>cases g<;>exact .halt _ _
  |interface Z=>cases j with
   |nilIface=>cases g<;>first|exact ak rfl|exact .halt _ _
   |iface N j=>cases g with
    |nilIface=>exact ak rfl
    |iface ty g=>
     refine aW (λ_=>ak rfl) λ_=> ?_;refine aj (dX T N) λC i i' l q=> ?_;obtain⟨rfl,_⟩:=q;refine aW (λ_=> ?_) λ_=>aab d N (j.mono l) (g.mono l);refine .dead (iW pg λp=> ?_) _;refine apT (gz _) (iW (aef _) λ_=>eF _)
    |_=>exact .halt _ _
   |_=>cases g<;>exact .halt _ _
  |pointer e=>cases j with
   |pointer h=>cases h with
    |none=>cases g with
     |pointer k=>cases k<;>exact ak rfl
     |_=>exact .halt _ _
    |some h=>cases g with
     |pointer k=>cases k with
      |none=>exact ak rfl
      |some k=>
       refine aj (fO T e) λC z G l q=> ?_;obtain rfl:z=G:=q;refine aW (λ_=>aek (h.mono l) (k.mono l)) λ_=> ?_;rw[AR.eq_iff h k];refine aW (λ_=>ak rfl) λ_=>aj (iY _) λυ n O hu q=> ?_;obtain rfl:n=O:=q;exact ak rfl
     |_=>exact .halt _ _
   |_=>cases g<;>exact .halt _ _
  |unsafePointer=>cases j with
   |pointer h=>cases g with
    |pointer k=>cases h with
     |none=>cases k<;>exact ak rfl
     |some h=>cases k with
      |none=>exact ak rfl
      |some k=>exact aek h k
    |_=>exact .halt _ _
   |_=>cases g<;>exact .halt _ _
  |chan a b=>cases j with
   |chan h=>cases g with
    |chan k=>
     exact ak (NR.eq_iff h k)
    |_=>exact .halt _ _
   |_=>cases g<;>exact .halt _ _
  |slice e=>cases j with
   |slice h n c=>cases h with
    |none=>cases g with
     |slice k m c=>cases k<;>exact ak rfl
     |_=>exact .halt _ _
    |some h=>cases g with
     |slice k m c=>cases k with
      |none=>exact ak rfl
      |some k=>exact .halt _ _
     |_=>exact .halt _ _
   |_=>cases g<;>exact .halt _ _
  |map k e=>cases j with
   |map h=>cases h with
    |none=>cases g with
     |map k=>cases k<;>exact ak rfl
     |_=>exact .halt _ _
    |some h=>cases g with
     |map k=>cases k with
      |none=>exact ak rfl
      |some k=>exact .halt _ _
     |_=>exact .halt _ _
   |_=>cases g<;>exact .halt _ _
  |func a b c=>cases j with
   |nilFunc=>cases g<;>first|exact ak rfl|exact .halt _ _
   |func=>cases g<;>first|exact ak rfl|exact .halt _ _
   |abp=>cases g<;>first|exact ak rfl|exact .halt _ _
   |_=>cases g<;>exact .halt _ _
  |_=>exact .halt _ _
end
end
section
open Go
section
variable {P P':Program} {ρ:Ren}
def ael{β:Type}{f f':Value->β->Sem (ForInStep β)}:∀{l e:List Value} {ρ:Ren},(∀(c:Ren) v b s,ρ.Le c->VR c v b->az P P' (afR jG) c (f v s) (f' b s))->bU ρ l e->∀s,az P P' jG ρ (forIn l s f) (forIn e s f')
 |_,_,_,_,.nil,s=>by rw[ul,ul];exact ak rfl
 |_,_,ρ,hf,.cons x y,s=>by
  rw[ud,ud];refine aj (hf ρ _ _ s (Ren.Le.refl _) x) λc a k d h=> ?_;cases h with
  |done h=>exact ak h
  |yield h=>
   obtain rfl:=h;exact ael (λg v b s i j=>hf g v b s (d.trans i) j) (bU.mono d y) _
def adA(h:VR ρ x W):az P P' VR ρ (Conv.bytesToString x) (Conv.bytesToString W):=by
 unfold Conv.bytesToString;cases h with
 |slice h l c=>
  cases h with
  |none=>exact ak (.string _)
  |some h=>
   refine aj (oX h l) λo c j m g=> ?_;refine aj (A:=jG) ?_ λb s a d e=> ?_
   .rw[<-tL,<-tL];refine ael (λb v i s d f=> ?_) g ByteArray.empty;cases f with
    |int k n=>cases k<;>first|exact ak (.yield rfl)|exact .halt _ _
    |_=>exact .halt _ _
   .obtain rfl:s=a:=e;exact ak (.string _)
 |_=>exact .halt _ _
variable (T:Twin P P')
include T
omit T in
theorem adB(e:TypeId)(s:ByteArray):az P P' VR ρ (Conv.stringToBytes e s) (Conv.stringToBytes e s):=by
 unfold Conv.stringToBytes;refine aj (iY _) λf n c l q=> ?_;obtain rfl:n=c:=q;refine az.as6 (P:=P) (P':=P') (A:=VR) (ρ:=f) e (k:=λr=>Sem.pure (Value.slice (some ⟨r,0,none⟩) s.size n)) (k':=λr=>Sem.pure (Value.slice (some ⟨r,0,none⟩) s.size n)) (bU.kP λv a=> ?_) λi r g j d=>az.pure (VR.slice (.some (.mk d 0 none)) _ _);simp only[qe,oR,Array.toList_replicate,List.mem_replicate] at a;rcases a with a|⟨_,rfl⟩
 .simp at a;obtain⟨b,_,rfl⟩:=a;exact .int _ _
 .exact .int _ _
omit T in
theorem abC(j:Array TypeId)(b t:TypeId)(p:∀e,P.underlying b≠some (.pointer e)){a : Array Value}(h:dw ρ a Z):az P P' VR ρ (Builtin.unsafeSliceData_ j b a) (Builtin.unsafeSliceData_ j t Z):=by
 unfold Builtin.unsafeSliceData_;obtain⟨a⟩:=a;obtain⟨Z⟩:=Z;have h:bU ρ a Z:=h;cases h with
 |nil=>exact .halt _ _
 |cons g k=>
  cases k with
  |cons=>cases g<;>exact .halt _ _
  |nil=>
   cases g with
   |slice f l c=>
    cases f with
    |none=>exact ak (.pointer .none)
    |some f=>
     refine aW (λ_=>ak (.pointer (.some f))) λ_=> ?_
     .obtain⟨m,o,s⟩:=f;refine aj (abv m) λv x w u q=> ?_;obtain⟨rfl,rfl⟩:=q;refine .dead ?_ _;refine Leaves.bind (A:=λ_=>False) ?_ λ_ h=>h.elim;unfold elemOf;refine Leaves.bind (A:=λd=>∀e,d ≠ .pointer e) ?_ λd hd=> ?_
      .show Leaves P _ (match P.underlying b with|some i=>pure i|none=>stuck "no such type");cases n:P.underlying b with
       |none=>trivial
       |some d=>exact λe r=>p e (by rw[n,r])
      .cases d<;>first|trivial|exact absurd rfl (hd _)
   |_=>exact .halt _ _
theorem aay(h:AR ρ a Y)(u:TypeId)(n:Nat):az P P' jG ρ (variablesAt a u n) (variablesAt Y u n):=by
 obtain⟨c,o,s⟩:=h;unfold variablesAt;refine aj dr λj p k d b=> ?_;obtain⟨rfl,rfl⟩:=b;refine aj (mj (d.r c)) λg z f i e=> ?_;obtain rfl:z=f:=e;cases z with
 |none=>exact ak rfl
 |some z=>
  obtain⟨e,n⟩:=z;dsimp only;rw[T.lies,T.depth,adT T];exact ak rfl
theorem ah6(t:TypeId):az P P' jG ρ (elemOf t) (elemOf t):=by
 unfold elemOf;refine aj (aG T t) λb d c a hd=> ?_;obtain⟨rfl, -⟩:=hd;cases d<;>first|exact ak rfl|exact .halt _ _
theorem aem(f:Array TypeId)(t:TypeId){a : Array Value}(h:dw ρ a Z):az P P' VR ρ (Builtin.unsafeString_ f t a) (Builtin.unsafeString_ f t Z):=by
 unfold Builtin.unsafeString_;obtain⟨a⟩:=a;obtain⟨Z⟩:=Z;have h:bU ρ a Z:=h;cases h with
 |nil=>exact .halt _ _
 |cons d c=>
  cases c with
  |nil=>cases d<;>exact .halt _ _
  |cons w c=>
   cases c with
   |cons=>cases d<;>exact .halt _ _
   |nil=>
    cases d with
    |pointer v=>
     dsimp only;refine aj (abr w) λC n o j e=> ?_;obtain rfl:n=o:=e;cases f[0]? with
     |none=>exact .halt _ _
     |some r=>
      dsimp only;refine aW (λ_=>dY _) λ_=> ?_;refine aW (λ_=>.halt _ _) λ_=> ?_;cases v with
      |none=>exact aW (λ_=>ak (.string _)) λ_=>dY _
      |some l=>
       refine aW (λ_=>ak (.string _)) λ_=> ?_;refine aj (ah6 T r) λB e u i q=> ?_;obtain rfl:e=u:=q;refine aj (aay T (l.mono (j.trans i)) e n.toNat) λz b p x q=> ?_;obtain rfl:b=p:=q;refine aW (λ_=> ?_) λ_=>.halt _ _;have g:∃m,n.toNat=m+1:=⟨n.toNat-1,by omega⟩;obtain⟨m,y⟩:=g;rw[y];exact az.amv (P:=P) (P':=P') (A:=VR) m (k:=λs=>Sem.pure (Value.string s)) (k':=λs=>Sem.pure (Value.string s)) (l.mono (j.trans (i.trans x))) λs=>az.pure (VR.string s)
    |_=>exact .halt _ _
theorem afs(g:Array TypeId)(t:TypeId){a : Array Value}(h:dw ρ a Z):az P P' VR ρ (Builtin.unsafeSlice_ g t a) (Builtin.unsafeSlice_ g t Z):=by
 unfold Builtin.unsafeSlice_;obtain⟨a⟩:=a;obtain⟨Z⟩:=Z;have h:bU ρ a Z:=h;cases h with
 |nil=>exact .halt _ _
 |cons f d=>
  cases d with
  |nil=>cases f<;>exact .halt _ _
  |cons A d=>
   cases d with
   |cons=>cases f<;>exact .halt _ _
   |nil=>
    cases f with
    |pointer w=>
     dsimp only;refine aj (abr A) λJ n l j e=> ?_;obtain rfl:n=l:=e;cases g[0]? with
     |none=>exact .halt _ _
     |some u=>
      dsimp only;refine aj (ah6 T u) λI e v m q=> ?_;obtain rfl:e=v:=q;refine aW (λ_=>dY _) λ_=> ?_;refine aW (λ_=>.halt _ _) λ_=> ?_;cases w with
      |none=>exact aW (λ_=>ak (.slice .none _ _)) λ_=>dY _
      |some c=>
       dsimp only;refine aj (dX T e) λF i K C q=> ?_;obtain⟨rfl, -⟩:=q;refine aW (λ_=>.halt _ _) λ_=> ?_;refine aj (fO T e) λD z r y q=> ?_;obtain rfl:z=r:=q;have c:=c.mono (j.trans (m.trans (C.trans y)));refine aj (aay T c e n.toNat) λG b p k q=> ?_;obtain rfl:b=p:=q;refine aW (λ_=>ak (.slice (.some (c.mono k)) _ _)) λ_=> ?_;obtain⟨B,o,s⟩:=c.mono k;refine aj (abv B) λE x H j q=> ?_;obtain⟨rfl,rfl⟩:=q;exact .halt _ _
    |_=>exact .halt _ _
omit T in
theorem wQ(s:Sem V):(s >>=λv=>(pure v:Sem V))=s:=by
 show s.bind Sem.pure=s
 induction s with
 |pure a=>rfl
 |load m a k b=>exact jt (Sem.load m a) (funext b)
 |store m a v k b=>exact jt (Sem.store m a v) b
 |new o k b=>exact jt (Sem.new o) (funext b)
 |shape r k b=>exact jt (Sem.shape r) (funext b)
 |freeze a n k b=>exact jt (Sem.freeze a n) b
 |frozen a k b=>exact jt (Sem.frozen a) (funext b)
 |getObj r k b=>exact jt (Sem.getObj r) (funext b)
 |setObj r o k b=>exact jt (Sem.setObj r o) b
 |choose q k b=>exact jt (Sem.choose q) (funext b)
 |sys c k b=>exact jt (Sem.sys c) (funext b)
 |program k b=>exact jt Sem.program (funext b)
 |mark m k b=>exact jt (Sem.mark m) b
 |halt h=>rfl
theorem abD(k:Array TypeId)(t:TypeId)(B:VR ρ x W)(r:VR ρ y U):az P P' (λj v i=>VR j v i/\∃a,v=.pointer a) ρ (Builtin.unsafeAdd_ k t #[x,y]) (Builtin.unsafeAdd_ k t #[W,U]):=by
 unfold Builtin.unsafeAdd_;cases B with
 |pointer d=>
  dsimp only;refine aj (abr r) λj n l A e=> ?_;obtain rfl:n=l:=e;cases d with
  |none=>exact aW (λ_=>.halt _ _) λ_=>aW (λ_=>.halt _ _) λ_=>.halt _ _
  |some g=>
   replace g:=g.mono A;obtain⟨b,o,s⟩:=g;dsimp only;refine aW (λ_=> ?_) λ_=> ?_
   .refine aj (abv b) λu v i c e=> ?_;obtain⟨rfl,rfl⟩:=e;exact ak ⟨.pointer (.some (.mk (c.r b) o s)),_,rfl⟩
   .refine aW (λ_=>.halt _ _) λ_=> ?_;refine aj (mj b) λu z q c e=> ?_;obtain rfl:z=q:=e;cases z with
    |none=>exact .halt _ _
    |some z=>
     obtain⟨e,m⟩:=z;dsimp only;refine aj dr λC p D w d=> ?_;obtain⟨rfl,rfl⟩:=d;rw[T.cellAt,T.depth,adT T];cases cellAtBytes p p.depth e (m / p.cellsOf e) o n with
     |none=>exact .halt _ _
     |some f=>exact ak ⟨.pointer (.some (.mk (w.r (c.r b)) f s)),_,rfl⟩
 |_=>exact .halt _ _
theorem jL(a:Array TypeId)(t:TypeId)(c:VR ρ x W)(b:VR ρ y U):az P P' VR ρ (Builtin.unsafeAdd_ a t #[x,y]) (Builtin.unsafeAdd_ a t #[W,U]):=by
 have h:=aj (f:=λv=>(pure v:Sem Value)) (f':=λv=>(pure v:Sem Value)) (B:=VR) (abD T a t c b) λg v d _ e=>ak e.1
 rwa [wQ,wQ] at h
omit T in
theorem akj(h:AR ρ a Y)(l:Bool):az P P' VR ρ (asNumber a l) (asNumber Y l):=aj (afM (.number h l)) λ_ _ _ _ b=>ak (.pointer (.some (.mk b 0 none)))
theorem gT(t:TypeId)(i:VR ρ x W)(f:VR ρ y U):az P P' VR ρ (movedNumber t x y) (movedNumber t W U):=by
 unfold movedNumber;refine aj (aG T t) λu d D m hd=> ?_;obtain⟨rfl, -⟩:=hd;replace i:=i.mono m;replace f:=f.mono m;cases i with
 |pointer g=>
  cases g with
  |none=>
   have c:=jL T #[] t (.pointer .none) f;cases d<;>first|exact .halt _ _|exact c
  |@some a k w=>
   have c:az P P' VR u (do
     let(a,lost)<-behindNumber a
     match<-Builtin.unsafeAdd_ #[] t #[.pointer (some a),y] with
     |.pointer (some b)=>asNumber b lost
     |v=>pure v) (do
     let(a,lost)<-behindNumber k
     match<-Builtin.unsafeAdd_ #[] t #[.pointer (some a),U] with
     |.pointer (some b)=>asNumber b lost
     |v=>pure v):=by
    refine aj (mW w) λE q A o e=> ?_;obtain⟨a,l⟩:=q;obtain⟨k,z⟩:=A;obtain⟨s,n⟩:=e;obtain rfl:l=z:=n;refine aj (abD T _ t (.pointer (.some s)) (f.mono o)) λC v B F j=> ?_;obtain⟨j,p,rfl⟩:=j;cases j with
    |pointer g=>cases g with
     |none=>exact ak (.pointer .none)
     |some r=>exact akj r l
   cases d<;>first|exact .halt _ _|exact c
 |_=>cases d<;>exact .halt _ _
theorem aen(t:TypeId)(g:VR ρ x W)(a:VR ρ y U):az P P' VR ρ (movedPointer t x y) (movedPointer t W U):=by
 unfold movedPointer;cases g with
 |pointer d=>
  cases d with
  |none=>exact jL T _ t (.pointer .none) a
  |some i=>
   obtain⟨b,o,s⟩:=i;refine aj (aeg b) λm n j c e=> ?_;cases e with
   |none=>exact jL T #[] t (.pointer (.some (.mk (c.r b) o s))) (a.mono c)
   |some h l=>exact .halt _ _
 |fQ=>exact .halt _ _
 |abp k f=>exact jL T _ t (.abp k f) a
 |_=>exact jL T _ t (by constructor<;>assumption) a
theorem ac5(j:AR ρ a Y)(g:AR ρ b N):az P P' jG ρ (Op.twoPlaces a b) (Op.twoPlaces Y N):=by
 unfold Op.twoPlaces;refine aj dr λu p n i k=> ?_;obtain⟨rfl,rfl⟩:=k;have o:(a.block !=b.block||decide (a.block>=p.globals.size))=(Y.block !=N.block||decide (Y.block>=n.globals.size)):=by
  obtain⟨d,A,t⟩:=j;obtain⟨f,z,w⟩:=g;dsimp only;rw[T.globals.1,T.globals.2];have m:∀x c,ρ.r x c->decide (x>=gN)=decide (c>=gN):=λx c h=>uF.2 (by have:=ρ.lf h;omega);rw[m _ _ d]
  congr 1
  rw[ru];simp only[rM,ne_eq];exact not_congr ⟨λe=>by subst e;exact ρ.fn d f,λe=>by subst e;exact ρ.inj d f⟩
 rw[o];refine aW (λ_=>.halt _ _) λ_=> ?_;refine aj (pj T (j.mono i)) λr x c l e=> ?_;obtain rfl:x=c:=e;refine aj (pj T (g.mono (i.trans l))) λv y q s e=> ?_;obtain rfl:y=q:=e;exact ak rfl
theorem anR(k:IntKind)(c:AR ρ a Y)(d:AR ρ b N):az P P' VR ρ (Op.addrSub k a b) (Op.addrSub k Y N):=by
 unfold Op.addrSub;refine aj (ac5 T c d) λi x f g e=> ?_;obtain rfl:x=f:=e;exact ak (.int _ _)
theorem anS(op:BinOp)(c:AR ρ a Y)(d:AR ρ b N):az P P' VR ρ (Op.addrCmp op a b) (Op.addrCmp op Y N):=by
 unfold Op.addrCmp;refine aj (ac5 T c d) λi x f g e=> ?_;obtain rfl:x=f:=e;cases op<;>first|exact ak (.bool _)|exact .halt _ _
theorem afS(k:IntKind)(g:AR ρ a Y)(n:Int):az P P' VR ρ (Op.addrMod k a n) (Op.addrMod k Y n):=by
 unfold Op.addrMod;obtain⟨b,o,s⟩:=g;refine aj (mj b) λr z d f e=> ?_;obtain rfl:z=d:=e;cases z with
 |none=>exact .halt _ _
 |some z=>
  obtain⟨e,m⟩:=z;dsimp only;refine aj (dX T e) λl i u c q=> ?_;obtain⟨rfl, -⟩:=q;refine aW (λ_=>.halt _ _) λ_=> ?_;refine aj (pj T (.mk ((f.trans c).r b) o s)) λt x j p e=> ?_;obtain rfl:x=j:=e;exact ak (.int _ _)
theorem amB(t:TypeId)(b:VR ρ x W)(a:VR ρ y U):az P P' jG ρ (Op.equal t x y) (Op.equal t W U):=aab T _ t b a
theorem azf(t:TypeId)(d:VR ρ x W)(a:VR ρ y U):az P P' VR ρ (do pure (.bool (<-Op.equal t x y)):Sem Value) (do pure (.bool (<-Op.equal t W U))):=
 aj (amB T t d a) λ_ b c _ e=>by obtain rfl:b=c:=e;exact ak (.bool _)
theorem azg(t:TypeId)(d:VR ρ x W)(a:VR ρ y U):az P P' VR ρ (do pure (.bool (!(<-Op.equal t x y))):Sem Value) (do pure (.bool (!(<-Op.equal t W U)))):=
 aj (amB T t d a) λ_ b c _ e=>by obtain rfl:b=c:=e;exact ak (.bool _)
omit T in
theorem apU(j:AR ρ a Y)(m:AR ρ b N){f:Addr->Addr->Sem Value}(i:∀(c:Ren) x g y d,AR c x g->AR c y d->az P P' VR c (f x y) (f g d)) :
  az P P' VR ρ (do f (<-behindNumber a).1 (<-behindNumber b).1) (do f (<-behindNumber Y).1 (<-behindNumber N).1):=by
 refine aj (mW j) λc x g o e=> ?_;refine aj (mW (m.mono o)) λk y d l n=> ?_;exact i k _ _ _ _ (e.1.mono l) n.1
omit T in
theorem apV(g:AR ρ a Y){f:Addr->Sem Value}(d:∀(b:Ren) x c,AR b x c->az P P' VR b (f x) (f c)) :
  az P P' VR ρ (do f (<-behindNumber a).1) (do f (<-behindNumber Y).1):=
 aj (mW g) λb x c _ e=>d b _ _ e.1
theorem anT(op:BinOp)(e:op ≠ .eql)(d:op ≠ .neq)(t:TypeId){a b : Option Addr}(c:OAR ρ a Q)(f:OAR ρ b F):az P P' VR ρ (binOp op t (.pointer a) (.pointer b)) (binOp op t (.pointer Q) (.pointer F)):=by
 cases c<;>cases f<;>cases op<;>first
  |exact absurd rfl e
  |exact absurd rfl d
  |exact .halt _ _
  |exact apU (by assumption:_) (by assumption:_) λg _ _ _ _ h k=>anR T _ h k
  |exact apU (by assumption:_) (by assumption:_) λg _ _ _ _ h k=>anS T _ h k
theorem anU(op:BinOp)(g:op ≠ .eql)(f:op ≠ .neq)(t:TypeId){a : Option Addr}(b:OAR ρ a Q)(k:IntKind)(n:Int):az P P' VR ρ (binOp op t (.pointer a) (.int k n)) (binOp op t (.pointer Q) (.int k n)):=by
 by_cases c:op=.add
 .subst c;show az P P' VR ρ (do if(<-underlying t) matches .unsafePointer then movedPointer t (.pointer a) (.int k n) else movedNumber t (.pointer a) (.int k n)) (do if(<-underlying t) matches .unsafePointer then movedPointer t (.pointer Q) (.int k n) else movedNumber t (.pointer Q) (.int k n));refine aj (aG T t) λi d j e hd=> ?_;obtain⟨rfl, -⟩:=hd;exact aW (λ_=>aen T t (.pointer (b.mono e)) (.int k n)) λ_=>gT T t (.pointer (b.mono e)) (.int k n)
 cases b<;>cases op<;>first
  |exact absurd rfl g
  |exact absurd rfl f
  |exact absurd rfl c
  |exact .halt _ _
  |exact gT T t (.pointer .none) (.int _ _)
  |exact gT T t (.pointer (.some (by assumption:_))) (.int _ _)
  |exact apV (by assumption:_) λi _ _ h=>afS T _ h _
theorem anV(op:BinOp)(d:op ≠ .eql)(c:op ≠ .neq)(t:TypeId){a : Option Addr}(b:OAR ρ a Q)(k:IntKind)(n:Int):az P P' VR ρ (binOp op t (.int k n) (.pointer a)) (binOp op t (.int k n) (.pointer Q)):=by
 cases b<;>cases op<;>first
  |exact absurd rfl d
  |exact absurd rfl c
  |exact .halt _ _
  |exact gT T t (.pointer .none) (.int _ _)
  |exact gT T t (.pointer (.some (by assumption:_))) (.int _ _)
  |exact apV (by assumption:_) λe _ _ h=>afS T _ h _
omit T in
theorem aeo(op:BinOp)(t:TypeId)(x y:ByteArray):binOp op t (.string x) (.string y)=Op.stringOp op x y:=by cases op<;>rfl
omit T in
theorem xp(t:TypeId)(k l:IntKind)(x y:Int):binOp .shl t (.int k x) (.int l y)=Op.shift .shl k x l y:=rfl
omit T in
theorem xo(t:TypeId)(k l:IntKind)(x y:Int):binOp .shr t (.int k x) (.int l y)=Op.shift .shr k x l y:=rfl
omit T in
theorem aep(t:TypeId):Leaves P (λ_=>True) (underlying t):=by
 unfold underlying;show Leaves P (λ_=>True) (match P.underlying t with
  |some d=>pure d
  |none=>stuck "no such type")
 cases P.underlying t<;>exact trivial
omit T in
theorem akk{t:TypeId}(h:x=.tuple #[]\/y=.tuple #[]):lh P (Op.equal t x y):=by
 unfold Op.equal Op.maxDepth Op.equalIn;refine Leaves.bind (aep t) λd _=> ?_;rcases h with rfl|rfl
 .cases d<;>cases y<;>first|exact trivial|(rename_i a;cases a<;>exact trivial)
 .cases d<;>cases x<;>first|exact trivial|(rename_i a;cases a<;>exact trivial)|(rename_i a b c;cases a<;>exact trivial)
omit T in
theorem aeq{op:BinOp}{t:TypeId}(h:x=.tuple #[]\/y=.tuple #[]):lh P (binOp op t x y):=by
 have b:lh P (Op.equal t x y):=akk h;rcases h with rfl|rfl
 .cases op<;>first|exact b.bind _|(cases y<;>first|exact trivial|(rename_i a;cases a<;>exact trivial)|exact b.bind _)
 .cases op<;>first|exact b.bind _|(cases x<;>first|exact trivial|(rename_i a;cases a<;>exact trivial)|exact b.bind _)
theorem atl(op:BinOp)(t:TypeId)(f:VR ρ x W)(d:VR ρ y U):az P P' VR ρ (binOp op t x y) (binOp op t W U):=by
 have a:=f;have b:=d;by_cases c:x=.tuple #[]
 .exact .dead (aeq (.inl c)) _
 by_cases e:y=.tuple #[]
 .exact .dead (aeq (.inr e)) _
 by_cases g:op=.eql
 .subst g;cases f<;>cases d<;>first|exact absurd rfl c|exact absurd rfl e|exact azf T t a b|exact aW (λ_=>.halt _ _) (λ_=>aed _ _ _)|(rw[aeo];exact lq _ _ _)
 by_cases i:op=.neq
 .subst i;cases f<;>cases d<;>first|exact absurd rfl c|exact absurd rfl e|exact azg T t a b|exact aW (λ_=>.halt _ _) (λ_=>aed _ _ _)|(rw[aeo];exact lq _ _ _)
 cases op<;>first|exact absurd rfl g|exact absurd rfl i|(cases f<;>cases d<;>first
  |exact .halt _ _
  |exact absurd rfl c|exact absurd rfl e|(rw[aeo];exact lq _ _ _)
  |(rw[xp];exact amz _ _ _ _ _)
  |(rw[xo];exact amz _ _ _ _ _)
  |exact aW (λ_=>.halt _ _) (λ_=>aec _ _ _ _)
  |exact aW (λ_=>.halt _ _) (λ_=>apR _ _ _ _)
  |exact aW (λ_=>.halt _ _) (λ_=>afO _ _ _ _)
  |exact aW (λ_=>.halt _ _) (λ_=>aed _ _ _)
  |exact anT T _ (by decide) (by decide) t (by assumption:_) (by assumption:_)
  |exact anU T _ (by decide) (by decide) t (by assumption:_) _ _
  |exact anV T _ (by decide) (by decide) t (by assumption:_) _ _
  |(cases a;rename_i h;cases h<;>exact .halt _ _)
  |(cases b;rename_i h;cases h<;>exact .halt _ _)
  |skip)
end
end
section
open Go
inductive iE (ρ:Ren):Next->Next->Prop
 |value {v v':Value} (h:VR ρ v v'):iE ρ (.value v) (.value v')
 |skip:iE ρ .skip .skip
 |enter (f:FuncId) {a a':Array Value} (h:dw ρ a a'):iE ρ (.enter f a) (.enter f a')
 |round {l l':Nat} (h:ρ.r l l') (f:FuncId) {t t':Array Value} (ht:dw ρ t t') (c d:Code):iE ρ (.round l f t (gP c) (gP d)) (.round l' f t' c d)
def agL(ρ:Ren):∀(d:Nat) (v:Value),ow gA d v=true->VR ρ v v
 |0,v,h=>by cases h
 |d+1,v,h=>by
  have e:∀l:List Value,l.all (ow gA d)=true->bU ρ l l:=λl g=>bU.kP λv i=>agL ρ d v (lP.1 g v i);cases v with
  |bool b=>exact .bool b
  |int k n=>exact .int k n
  |string s=>exact .string s
  |nilFunc=>exact .nilFunc
  |nilIface=>exact .nilIface
  |pointer a=>cases a with
   |none=>exact .pointer .none
   |some a=>cases h
  |slice a n c=>cases a with
   |none=>exact .slice .none n c
   |some a=>cases h
  |map a=>cases a with
   |none=>exact .map .none
   |some a=>cases h
  |chan a=>cases a with
   |none=>exact .chan .none
   |some a=>cases h
  |func f a c=>
   unfold ow at h;simp only[ge] at h;exact .func (.same f h.1.1) (e _ h.1.2) (e _ h.2)
  |iface t v=>exact .iface t (agL ρ d v h)
  |agg c=>exact .agg (e _ h)
  |tuple c=>exact .tuple (e _ h)
  |float|complex=>cases h
def adC(ρ:Ren)(e e':Operand->Value):Prop:=∀x,bM gA gL x=true->VR ρ (e x) (e' x)
def adC.maps{ρ:Ren}(h:adC ρ e e'):∀{l:List Operand},l.all (bM gA gL)=true->bU ρ (l.map e) (l.map e')
 |[],_=>.nil
 |x::l,hl=>by
  simp only[qF,ge] at hl;exact .cons (h x hl.1) (h.maps hl.2)
def adC.map{ρ:Ren}(h:adC ρ e e'){l:Array Operand}(a:l.toList.all (bM gA gL)=true):dw ρ (l.map e) (l.map e'):=by
 unfold dw;rw[qG,qG];exact h.maps a
def adC.opt{ρ:Ren}(h:adC ρ e e'){l:Option Operand}(a:∀x,l=some x->bM gA gL x=true):OVR ρ (l.map e) (l.map e'):=by
 cases l with
 |none=>exact .none
 |some x=>exact .some (h x (a x rfl))
def adC.parts{ρ:Ren}(h:adC ρ e e'):∀{l:List (Nat×Operand)},(l.map (·.2)).all (bM gA gL)=true->PRs ρ (l.map λ(i,x)=>(i,e x)) (l.map λ(i,x)=>(i,e' x))
 |[],_=>.nil
 |(i,x)::l,hl=>by
  simp only[sF,qF,ge] at hl;exact .cons i (h x hl.1) (h.parts hl.2)
section
variable {P P':Program} {ρ:Ren}
def ah7(P P':Program):Prop:=∀(f:FuncId) (fn:Func),P.funcs[f]?=some fn->fn.body=none->gA f=true->∀(ρ:Ren) (a b:Array Value),dw ρ a b->az P P' iE ρ (callFunc f a) (callFunc f b)
def bG{s s':Sem Value}(h:az P P' VR ρ s s'):az P P' iE ρ (do pure (.value (<-s))) (do pure (.value (<-s'))):=aj h λ_ _ _ _ a=>ak (.value a)
def agM{s s':Sem Unit}(h:az P P' jG ρ s s'):az P P' iE ρ (do s;pure .skip) (do s';pure .skip):=aj h λ_ _ _ _ _=>ak .skip
variable (T:Twin P P') (X:ah7 P P')
include T X
theorem akl(f:FuncId)(k:gA f=true){a : Array Value}(h:dw ρ a Z):az P P' iE ρ (callFunc f a) (callFunc f Z):=by
 cases b:P.funcs[f]? with
 |none=>
  refine .dead ?_ _;unfold callFunc;show Leaves P _ (match P.funcs[f]? with|none=>_|some fn=>_);rw[b];trivial
 |some fn=>
  cases d:fn.body with
  |none=>exact X f fn b d k ρ a Z h
  |some c=>
   obtain⟨q,i,g⟩:=T.func f fn b;obtain⟨m,e, -⟩:=g.some c d;unfold callFunc;refine aj dr λn p o l j=> ?_;obtain⟨rfl,rfl⟩:=j;rw[b,i];dsimp only;rw[g.name,g.ay9,d,e];exact ak (.enter f (bU.mono l h))
omit T X in
theorem bU.apW{ρ:Ren}:∀(b:List Tmp) {l c:List Value} {t d:Array Value},bU ρ l c->dw ρ t d->dw ρ ((b.zip l).foldl (λa (x:Tmp×Value)=>a.setIfInBounds x.1 x.2) t) ((b.zip c).foldl (λa (x:Tmp×Value)=>a.setIfInBounds x.1 x.2) d)
 |[],_,_,_,_,_,ht=>ht
 |_::_,_,_,_,_,.nil,ht=>ht
 |p::b,_,_,_,_,.cons hx hl,ht=>bU.apW b hl (ht.set p hx)
omit T X in
theorem mY{l l':Nat}(h:ρ.r l l'):az P P' (λa x m=>OR a (.loop x) (.loop m)) ρ (Instr.getLoop l) (Instr.getLoop l'):=by
 unfold Instr.getLoop;refine aj (eQ h) λa o p n b=> ?_;cases b with
 |loop i d e g k f j c=>exact ak (.loop i d e g k f j c)
 |_=>exact .halt _ _
omit T X in
theorem atm{l l':Nat}(h:ρ.r l l'){a : Array Value}(c:dw ρ a Z):az P P' iE ρ (Instr.yield l a) (Instr.yield l' Z):=by
 unfold Instr.yield;refine aj (mY h) λn x p b d=> ?_;cases d with
 |loop o m e g j f i k=>
  rw[j,e,f,i,c.size];refine aW (λ_=>.halt _ _) λ_=>ak (.round (b.r h) _ ?_ _ _);rw[<-sQ,<-sQ,Array.toList_zip,Array.toList_zip];exact bU.apW _ (bU.mono b c) g
end
end
end Go.Proofs.YtgjaikdifcbnkaaGreatDoor