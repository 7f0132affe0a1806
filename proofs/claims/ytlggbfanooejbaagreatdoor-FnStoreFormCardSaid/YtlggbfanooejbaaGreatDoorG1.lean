/- A part. -/
import GoSem.Core.World
import Derived.Test.YtlggbfanooejbaaGreatDoorProg
import Derived.WalkKit
set_option maxRecDepth 100000
set_option maxHeartbeats 8000000
set_option linter.all false
open Go Go.Proofs.Tryz
variable {R r:Nat} {o o':Obj} {Y N a b:Addr} {V β:Type} {W U i k k' v v' x y:Value} {S J w w':World} {P P':Program} {ts:List Addr} {E:Option Nat} {Z G c:Array Value} {Q F:Option Addr} {L es:Array Event} {M K l l' u:Option Value} {e e':Operand→Value} {O:Array MapEntry} {I p:Array (Nat × Value)} {H s':Sem β} {s:Sem V}
namespace Go.Proofs.YtlggbfanooejbaaGreatDoor
def am:=@Nat.le_refl
def bd:=@Nat.lt_of_lt_of_le
def bv:=@if_neg
def db:=@Nat.le_trans
def dj:=@if_pos
def dq:=@Array.getElem?_eq_some_iff
def ef:=@Option.some.inj
def eg:=@Array.getElem?_toList
def fk:=@Bool.and_eq_true
def gn:=@congrArg
def gt:=@Array.getElem?_eq_getElem
def io:=@List.mem_append
def jn:=@Array.getElem?_setIfInBounds_ne
def jp:=@Bool.false_eq_true
def jt:=@Option.some.injEq
def lc:=@List.all_eq_true
def mc:=@List.mem_map
def mt:=@beq_iff_eq
def mu:=@Nat.le_of_eq
def pe:=@Array.getElem?_modify
def pr:=@if_true
def pv:=@Array.toList_append
def qc:=@Bool.eq_iff_iff
def qi:=@Array.getElem?_eq_none_iff
def qk:=@Array.getElem?_setIfInBounds
def qx:=@List.all_cons
def qD:=@Array.getElem?_push
def qG:=@if_false
def qI:=@Array.toList_map
def qK:=@List.map_cons
def qX:=@Array.length_toList
def rm:=@Array.getElem?_map
def rF:=@Array.append_empty
def rN:=@Array.toList_push
def rR:=@List.filter_cons
def rV:=@Array.isEmpty_toList
def rZ:=@Array.size_append
def sb:=@Go.Sem.runT.eq_5
def sj:=@Ne.symm
def sE:=@Array.foldl_toList
def sF:=@Array.ext_getElem?
def sN:=@Array.getElem?_append
def tn:=@Option.isSome_none
def tz:=@Array.forIn_toList
def tI:=@Array.size_map
def tL:=@Array.toList_extract
def tN:=@Std.Legacy.Range.forIn_eq_forIn_range'
def tR:=@List.forIn_cons
def tS:=@Array.mapM_eq_mapM_toList
def tX:=@Array.append_assoc
def ub:=@List.forIn_nil
def uz:=@decide_eq_decide
def uI:=@bne_iff_ne
def uL:=@List.foldl_cons
def uZ:=@Array.toList_setIfInBounds
def vR:=@List.mapM_cons
def wl:=@Array.toList_modify
section
def _root_.Go.World.ou(w:World):Os×Array (Nat×ByteArray):=(w.os,w.output)
def azL(h:w.ou=w'.ou):w.os=w'.os:=gn Prod.fst h
def axN(h:w.ou=w'.ou):w.output=w'.output:=gn Prod.snd h
def azM(h:w.os=w'.os)(k:w.output=w'.output):w.ou=w'.ou:=Prod.ext h k
def alw(P:Program)(f:FuncId):Bool:=match P.funcs[f]? with
 |some fn=>fn.body.isSome||["internal/bytealg.MakeNoZero", "internal/bytealg.IndexByteString"].contains fn.name
 |none=>false
def axO(al:FuncId->Bool):Fn->Bool
 |.func f=>al f
 |_=>false
def ov(al:FuncId->Bool):Nat->Value->Bool
 |0,_=>false
 |d+1,v=>match v with
  |.bool _|.int .. | .string _|.nilFunc|.nilIface=>true
  |.pointer none|.slice none _ _|.map none|.chan none=>true
  |.func f a c=>axO al f&&a.toList.all (ov al d)&&c.toList.all (ov al d)
  |.iface _ v=>ov al d v
  |.agg c|.tuple c=>c.toList.all (ov al d)
  |_=>false
def bN(al:FuncId->Bool)(gl:List Nat):Operand->Bool
 |.const v=>ov al 5 v
 |.global g=>gl.contains g
 |.func f=>al f
 |.tmp _=>true
def ahI(P:Program)(t:TypeId):Bool:=match P.underlying t with
 |some (.int _)=>true
 |_=>false
def aeg(P:Program)(t:TypeId):Bool:=match P.underlying t with
 |some (.map k _)=>ahI P k
 |_=>true
def anG(P:Program)(t:TypeId)(f:Nat):Bool:=match P.underlying t with
 |some (.struct fs)=>match fs[f]? with
  |some g=>match P.info? g.type with
   |some i=>i.size !=0
   |none=>true
  |none=>true
 |_=>true
def ak8(P:Program)(src dst:TypeId):Bool:=match P.underlying src,P.underlying dst with
 |some (.int _),some (.int _)=>true
 |_,some .string=>match P.underlying src with
  |some (.slice e)=>match P.underlying e with
   |some (.int .u8)=>true
   |_=>false
  |some .unsafePointer=>false
  |_=>true
 |some .string,some (.slice e)=>match P.underlying e with
  |some (.int .u8)=>true
  |_=>false
 |_,_=>false
def acM(P:Program)(b:Builtin)(ts:Array TypeId):Bool:=match b with
 |.append=>match ts[1]? with
  |some u=>!ahI P u
  |none=>true
 |.cap|.clear|.copy|.len|.max|.min|.unsafeString|.unsafeSlice=>true
 |_=>false
def mz(P:Program)(al:FuncId->Bool)(gl:List Nat)(o:Op):Bool:=o.operands.toList.all (bN al gl)&&match o with
 |.move _|.assign _|.pick .. | .alloc _|.box .. | .build .. | .buildSlice .. | .load .. | .store .. | .nilCheck _|.unOp .. | .makeInterface .. | .makeMap _ none
 |.makeSlice .. | .slice .. | .field .. | .indexAddr .. | .index .. | .range .. | .next .. | .extract .. | .panic _|.binOp .. =>true
 |.makeFunc f _ _=>axO al f
 |.fieldAddr t _ f=>anG P t f
 |.convert a dst _=>ak8 P a dst
 |.lookup t .. =>aeg P t
 |.mapUpdate t .. | .insert t .. =>aeg P t
 |.call c=>match c.callee with
  |.builtin b=>acM P b c.argTypes
  |.value _=>true
  |.invoke .. =>false
 |_=>false
def gb(P:Program)(al:FuncId->Bool)(gl:List Nat):Code->Bool
 |.skip|.label _|.ret|.exit _|.refuse _=>true
 |.region _ d _=>d.toList.all λo=>mz P al gl o.op
 |.seq a b=>gb P al gl a&&gb P al gl b
 |.cond c a b=>bN al gl c&&(gb P al gl a&&gb P al gl b)
 |.block _ a|.loop a|.scope a=>gb P al gl a
 |.rangeFunc f _ a b=>bN al gl f&&(gb P al gl a&&gb P al gl b)
 |.goto _=>false
def aau(al:FuncId->Bool)(gl:List Nat):Op->Bool
 |.call {callee:=.builtin .unsafeSliceData,args,argTypes:=_}=>args.toList.all (bN al gl)
 |_=>false
def aav(al:FuncId->Bool)(gl:List Nat)(tB:TypeId)(o:Oper):Oper:=if aau al gl o.op then{o with type:=tB} else o
def bQ(P:Program)(al:FuncId->Bool)(gl:List Nat)(tB:TypeId):Code->Code
 |.skip=>.skip
 |.label l=>.label l
 |.ret=>.ret
 |.exit id=>.exit id
 |.refuse w=>.refuse w
 |.goto _=>.refuse ""
 |.region id d draw=>if(d.toList.all λo=>mz P al gl o.op)=true then .region id d draw
  else if(d.toList.all λo=>mz P al gl o.op||aau al gl o.op)=true then .region id (d.map (aav al gl tB)) draw else .refuse ""
 |.seq a b=>.seq (bQ P al gl tB a) (bQ P al gl tB b)
 |.cond c a b=>if bN al gl c=true then .cond c (bQ P al gl tB a) (bQ P al gl tB b) else .refuse ""
 |.block id a=>.block id (bQ P al gl tB a)
 |.loop a=>.loop (bQ P al gl tB a)
 |.scope a=>.scope (bQ P al gl tB a)
 |.rangeFunc f e a b=>if bN al gl f=true then .rangeFunc f e (bQ P al gl tB a) (bQ P al gl tB b) else .refuse ""
def aiY(P:Program)(j:FuncId->Bool)(i:List Nat)(m:TypeId):∀c:Code,gb P j i c=true->bQ P j i m c=c:=by
 intro c
 induction c with
 |region id k draw=>intro h;unfold gb at h;unfold bQ;rw[dj h]
 |seq a b e d=>intro h;simp only[gb,fk] at h;unfold bQ;rw[e h.1,d h.2]
 |cond c a b e d=>intro h;simp only[gb,fk] at h;unfold bQ;rw[dj h.1,e h.2.1,d h.2.2]
 |block id a g=>intro h;unfold bQ;rw[g h]
 |loop a g=>intro h;unfold bQ;rw[g h]
 |scope a g=>intro h;unfold bQ;rw[g h]
 |rangeFunc f n a b e d=>intro h;simp only[gb,fk] at h;unfold bQ;rw[dj h.1,e h.2.1,d h.2.2]
 |goto l=>intro h;cases h
 |_=>intro _;rfl
@[irreducible] noncomputable def gN:Nat:=prog.globals.size
@[irreducible] noncomputable def gL:List Nat:=(List.range prog.globals.size).filter λg=>match prog.globals[g]? with
 |some x=>["loop.example/depositary/impl.errPiece", "loop.example/depositary/impl.errKey"].contains x.name
 |none=>false
@[irreducible] noncomputable def gH(f:FuncId):Bool:=match prog.funcs[f]? with
 |some fn=>fn.name == "loop.example/depositary/impl.fetchAll" || fn.name == "(*strings.Builder).copyCheck"
 |none=>false
@[irreducible] noncomputable def gA:FuncId->Bool:=alw prog
@[irreducible] noncomputable def gB:TypeId:=3
@[irreducible] noncomputable def gP:Code->Code:=bQ prog gA gL gB
structure Ren where
 r:Nat->Nat->Prop
 lax:Bool
 dim:Bool
 al:Nat->Option Value
 fn:∀{a b c},r a b->r a c->b=c
 inj:∀{a b c},r a c->r b c->a=b
 kW:∀{a b},r a b->(a<gN↔b<gN)
structure Ren.Le (ρ σ:Ren):Prop where
 r:∀{a b},ρ.r a b->σ.r a b
 lax:ρ.lax=σ.lax
 dim:ρ.dim=σ.dim
 al:ρ.al=σ.al
def Ren.Le.refl(ρ:Ren):ρ.Le ρ:=⟨id,rfl,rfl,rfl⟩
def Ren.Le.trans{ρ σ a:Ren}(h:ρ.Le σ)(k:σ.Le a):ρ.Le a:=⟨λx=>k.r (h.r x),h.lax.trans k.lax,h.dim.trans k.dim,h.al.trans k.al⟩
inductive AR (ρ:Ren):Addr->Addr->Prop
 |mk {b b':Nat} (h:ρ.r b b') (o:Nat) (s:Option Nat):AR ρ ⟨b,o,s⟩ ⟨b',o,s⟩
inductive OAR (ρ:Ren):Option Addr->Option Addr->Prop
 |none:OAR ρ none none
 |some {a a':Addr} (h:AR ρ a a'):OAR ρ (some a) (some a')
inductive NR (ρ:Ren):Option Nat->Option Nat->Prop
 |none:NR ρ none none
 |some {a a':Nat} (h:ρ.r a a'):NR ρ (some a) (some a')
def jI:Value->Bool
 |.int .. | .float .. | .complex .. | .slice .. | .pointer (some _)|.map _|.chan _|.func (.func _) .. | .func (.methodOf ..) .. | .func (.via ..) .. | .func (.yield _) .. | .iface .. =>true
 |_=>false
def aoT(k:Nat):Value:=.func (.method "") #[.nilIface] (Array.replicate k .nilIface)
mutual
inductive VR (ρ:Ren):Value->Value->Prop
 |bool (b:Bool):VR ρ (.bool b) (.bool b)
 |int (k:IntKind) (n:Int):VR ρ (.int k n) (.int k n)
 |string (s:ByteArray):VR ρ (.string s) (.string s)
 |pointer {a a':Option Addr} (h:OAR ρ a a'):VR ρ (.pointer a) (.pointer a')
 |slice {a a':Option Addr} (h:OAR ρ a a') (l c:Nat):VR ρ (.slice a l c) (.slice a' l c)
 |map {a a':Option Nat} (h:NR ρ a a'):VR ρ (.map a) (.map a')
 |chan {a a':Option Nat} (h:NR ρ a a'):VR ρ (.chan a) (.chan a')
 |func {f f':Fn} (hf:FR ρ f f') {a a' c c':Array Value} (h:bU ρ a.toList a'.toList) (hc:bU ρ c.toList c'.toList):VR ρ (.func f a c) (.func f' a' c')
 |nilFunc:VR ρ .nilFunc .nilFunc
 |iface (t:TypeId) {v v':Value} (h:VR ρ v v'):VR ρ (.iface t v) (.iface t v')
 |nilIface:VR ρ .nilIface .nilIface
 |agg {c c':Array Value} (h:bU ρ c.toList c'.toList):VR ρ (.agg c) (.agg c')
 |tuple {c c':Array Value} (h:bU ρ c.toList c'.toList):VR ρ (.tuple c) (.tuple c')
 |fV {v':Value} (hl:ρ.dim=true) (h:jI v'=true):VR ρ (.tuple #[]) v'
 |abt (k:Nat) {n:String} {a c:Array Value} (hl:ρ.al k=some (.func (.method n) a c)):VR ρ (aoT k) (.func (.method n) a c)
inductive bU (ρ:Ren):List Value->List Value->Prop
 |nil:bU ρ [] []
 |cons {v v':Value} {l l':List Value} (h:VR ρ v v') (hl:bU ρ l l'):bU ρ (v::l) (v'::l')
inductive FR (ρ:Ren):Fn->Fn->Prop
 |same (f:Fn) (h:axO gA f=true):FR ρ f f
 |yield {l l':Nat} (h:ρ.r l l'):FR ρ (.yield l) (.yield l')
end
def AR.mono{ρ b:Ren}(h:ρ.Le b) :AR ρ a Y->AR b a Y
 |.mk x o s=>.mk (h.r x) o s
def OAR.mono{ρ b:Ren}(h:ρ.Le b){a : Option Addr}:OAR ρ a Q->OAR b a Q
 |.none=>.none
 |.some x=>.some (x.mono h)
def NR.mono{ρ b:Ren}(h:ρ.Le b){a : Option Nat}:NR ρ a E->NR b a E
 |.none=>.none
 |.some x=>.some (h.r x)
mutual
def VR.mono{ρ d:Ren}(h:ρ.Le d):∀{v a:Value},VR ρ v a->VR d v a
 |_,_,.bool b=>.bool b
 |_,_,.int k n=>.int k n
 |_,_,.string s=>.string s
 |_,_,.pointer x=>.pointer (x.mono h)
 |_,_,.slice x l c=>.slice (x.mono h) l c
 |_,_,.map x=>.map (x.mono h)
 |_,_,.chan x=>.chan (x.mono h)
 |_,_,.func f x y=>.func (FR.mono h f) (bU.mono h x) (bU.mono h y)
 |_,_,.nilFunc=>.nilFunc
 |_,_,.iface t x=>.iface t (VR.mono h x)
 |_,_,.nilIface=>.nilIface
 |_,_,.agg x=>.agg (bU.mono h x)
 |_,_,.tuple x=>.tuple (bU.mono h x)
 |_,_,.fV hl x=>.fV (h.dim▸hl) x
 |_,_,.abt k hl=>.abt k (h.al▸hl)
def bU.mono{ρ a:Ren}(h:ρ.Le a):∀{l b:List Value},bU ρ l b->bU a l b
 |_,_,.nil=>.nil
 |_,_,.cons x y=>.cons (VR.mono h x) (bU.mono h y)
def FR.mono{ρ b:Ren}(h:ρ.Le b):∀{f a:Fn},FR ρ f a->FR b f a
 |_,_,.same f x=>.same f x
 |_,_,.yield x=>.yield (h.r x)
end
def bU.length{ρ:Ren}:∀{l a:List Value},bU ρ l a->l.length=a.length
 |_,_,.nil=>rfl
 |_,_,.cons _ h=>by simp[h.length]
def bU.get{ρ:Ren}:∀{l a:List Value},bU ρ l a->∀{i:Nat} {v:Value},l[i]?=some v->∃b,a[i]?=some b/\VR ρ v b
 |_,_,.nil,_,_,h=>by simp at h
 |_,_,.cons x _,0,_,h=>by simp at h;subst h;exact⟨_,rfl,x⟩
 |_,_,.cons _ y,i+1,_,h=>by simp at h;simpa using y.get h
def bU.set{ρ:Ren}:∀{l a:List Value},bU ρ l a->∀(i:Nat) {v b:Value},VR ρ v b->bU ρ (l.set i v) (a.set i b)
 |_,_,.nil,_,_,_,_=>.nil
 |_,_,.cons _ y,0,_,_,h=>.cons h y
 |_,_,.cons x y,i+1,_,_,h=>.cons x (y.set i h)
def bU.app{ρ:Ren}:∀{l b:List Value},bU ρ l b->∀{m a:List Value},bU ρ m a->bU ρ (l++m) (b++a)
 |_,_,.nil,_,_,h=>h
 |_,_,.cons x y,_,_,h=>.cons x (y.app h)
def ZR(ρ:Ren)(n:Nat)(z z':Nat×Nat):Prop:=z=z'\/(ρ.lax=true/\z.1=0/\n<z.2/\(z'.1=z'.2\/z'.2<=z.2))
inductive ER (ρ:Ren):MapEntry->MapEntry->Prop
 |mk {k k' v v':Value} (hk:VR ρ k k') (hv:VR ρ v v') (b:Nat):ER ρ ⟨k,v,b⟩ ⟨k',v',b⟩
inductive mQ (ρ:Ren):List MapEntry->List MapEntry->Prop
 |nil:mQ ρ [] []
 |cons {v v':MapEntry} {l l':List MapEntry} (h:ER ρ v v') (hl:mQ ρ l l'):mQ ρ (v::l) (v'::l')
inductive OR (ρ:Ren):Obj->Obj->Prop
 |cells {c c':Array Value} (h:bU ρ c.toList c'.toList) (t:TypeId) {z z':Nat×Nat} (hz:ZR ρ c.size z z'):OR ρ (.cells c t z) (.cells c' t z')
 |map {e e':Array MapEntry} (h:mQ ρ e.toList e'.toList) (k:Nat):OR ρ (.map e k) (.map e' k)
 |stringIter (s:ByteArray) (p:Nat):OR ρ (.stringIter s p) (.stringIter s p)
 |number {a a':Addr} (h:AR ρ a a') (l:Bool):OR ρ (.number a l) (.number a' l)
 |mapIter {m m':Option Nat} (h:NR ρ m m') (s:Nat) (seen:Array Nat) (n:Nat):OR ρ (.mapIter m s seen n) (.mapIter m' s seen n)
 |loop {l l':Loop} (h1:l.state=l'.state) (h2:l.pending=l'.pending.map gP) (h3:l.fn=l'.fn) (h4:bU ρ l.tmps.toList l'.tmps.toList) (h5:l.params=l'.params) (h6:l.assign=gP l'.assign) (h7:l.body=gP l'.body) (h8:ρ.r l.defers l'.defers):OR ρ (.loop l) (.loop l')
 |bI:OR ρ (.deferred none) (.deferred none)
 |deferred:OR ρ (.deferred (some [])) (.deferred (some []))
end
section
open Go
structure WR (ρ:Ren) (w w':World):Prop where
 obj:∀{b b'},ρ.r b b'->∃o o',w.heap[b]?=some o/\w'.heap[b']?=some o'/\OR ρ o o'
 os:w.ou=w'.ou
 kW:gN<=w.heap.size/\gN<=w'.heap.size
def WR.lt{ρ:Ren}(h:WR ρ w w'){b : Nat}(c:ρ.r b R):b<w.heap.size/\R<w'.heap.size:=by
 obtain⟨o,e,d,a, -⟩:=h.obj c;exact⟨(dq.1 d).1,(dq.1 a).1⟩
def Ren.ext(ρ:Ren)(x y:Nat)(hx:∀b,¬ρ.r x b)(hy:∀b,¬ρ.r b y)(gx:gN<=x)(gy:gN<=y):Ren where
 r a b:=ρ.r a b\/(a=x/\b=y)
 lax:=ρ.lax
 dim:=ρ.dim
 al:=ρ.al
 fn:=by
  rintro a b c (h|⟨rfl,rfl⟩) (k|⟨e,rfl⟩)
  .exact ρ.fn h k
  .subst e;exact absurd h (hx _)
  .exact absurd k (hx _)
  .rfl
 inj:=by
  rintro a b c (h|⟨rfl,rfl⟩) (k|⟨rfl,e⟩)
  .exact ρ.inj h k
  .subst e;exact absurd h (hy _)
  .exact absurd k (hy _)
  .rfl
 kW:=by
  rintro a b (h|⟨rfl,rfl⟩)
  .exact ρ.kW h
  .omega
def Ren.aeu{ρ:Ren}{x y:Nat}{d c b a}:ρ.Le (ρ.ext x y d c b a):=⟨.inl,rfl,rfl,rfl⟩
inductive MkR (ρ:Ren):Mark->Mark->Prop
 |extern (f:FuncId):MkR ρ (.extern f) (.extern f)
 |noRoom:MkR ρ .noRoom .noRoom
inductive LR (ρ:Ren):Go.Loc->Go.Loc->Prop
 |cell {a a':Addr} (h:AR ρ a a'):LR ρ (.cell a) (.cell a')
 |obj {r r':Nat} (h:ρ.r r r'):LR ρ (.obj r) (.obj r')
 |mark {m m':Mark} (h:MkR ρ m m'):LR ρ (.mark m) (.mark m')
inductive EvR (ρ:Ren):Event->Event->Prop
 |mk {l l':Go.Loc} (h:LR ρ l l') (w s:Bool):EvR ρ ⟨l,w,s⟩ ⟨l',w,s⟩
inductive mA (ρ:Ren):List Event->List Event->Prop
 |nil:mA ρ [] []
 |cons {v v':Event} {l l':List Event} (h:EvR ρ v v') (hl:mA ρ l l'):mA ρ (v::l) (v'::l')
def MkR.mono{ρ a:Ren}(_:ρ.Le a){m m':Mark}:MkR ρ m m'->MkR a m m'
 |.extern f=>.extern f
 |.noRoom=>.noRoom
def LR.mono{ρ a:Ren}(h:ρ.Le a){m m':Go.Loc}:LR ρ m m'->LR a m m'
 |.cell x=>.cell (x.mono h)
 |.obj x=>.obj (h.r x)
 |.mark x=>.mark (x.mono h)
def EvR.mono{ρ a:Ren}(h:ρ.Le a){m m':Event}:EvR ρ m m'->EvR a m m'
 |.mk x w s=>.mk (x.mono h) w s
def mA.mono{ρ b:Ren}(h:ρ.Le b):∀{m a:List Event},mA ρ m a->mA b m a
 |_,_,.nil=>.nil
 |_,_,.cons x y=>.cons (x.mono h) (y.mono h)
def ZR.mono{ρ b:Ren}(h:ρ.Le b){n:Nat}{z a:Nat×Nat}(x:ZR ρ n z a):ZR b n z a:=x.imp id λy=>⟨h.lax▸y.1,y.2⟩
def ER.mono{ρ a:Ren}(h:ρ.Le a){m m':MapEntry}:ER ρ m m'->ER a m m'
 |.mk x y b=>.mk (x.mono h) (y.mono h) b
def mQ.mono{ρ b:Ren}(h:ρ.Le b):∀{m a:List MapEntry},mQ ρ m a->mQ b m a
 |_,_,.nil=>.nil
 |_,_,.cons x y=>.cons (x.mono h) (y.mono h)
def OR.mono{ρ a:Ren}(h:ρ.Le a){m m':Obj}:OR ρ m m'->OR a m m'
 |.cells x t z=>.cells (x.mono h) t (z.mono h)
 |.map x k=>.map (x.mono h) k
 |.stringIter s p=>.stringIter s p
 |.number x l=>.number (x.mono h) l
 |.mapIter x s t n=>.mapIter (x.mono h) s t n
 |.loop g c d f j e i b=>.loop g c d (f.mono h) j e i (h.r b)
 |.bI=>.bI
 |.deferred=>.deferred
def bJ(w:World)(b:Nat):Prop:=∃c t z,w.heap[b]?=some (.cells c t z)/\z.1=0/\c.size<=z.2/\0<z.2
def NoB(w:World)(b:Nat):Prop:=∀c t z,w.heap[b]?=some (.cells c t z)->∀(i:Nat) k,c[i]?≠some (.int .u8 k)
def aev(v:Value):Prop:=(∃l,v=.tuple l)\/∃l,v=.agg l
def Rw(w:World)(b:Nat):Prop:=∃c t z,w.heap[b]?=some (.cells c t z)
structure Kept (ρ σ:Ren) (w w' w1 cZ:World):Prop where
 size:w.heap.size<=w1.heap.size
 size':w'.heap.size<=cZ.heap.size
 new:∀{b b'},σ.r b b'->ρ.r b b'\/(w.heap.size<=b/\w'.heap.size<=b')
 out:∀{b},b<w.heap.size->(∀c,¬ρ.r b c)->w1.heap[b]?=w.heap[b]?
 out':∀{b},b<w'.heap.size->(∀c,¬ρ.r c b)->cZ.heap[b]?=w'.heap[b]?
 os:w1.ou=w.ou/\cZ.ou=w'.ou
 tape:w1.tape=w.tape/\cZ.tape=w'.tape
 output:w1.output=w.output/\cZ.output=w'.output
 drawn:w.drawn<=w1.drawn/\w'.drawn<=cZ.drawn
 frz:∀b,bJ w b->bJ w1 b
 le:∀{b b'},ρ.r b b'->σ.r b b'
 still:∀{b b'},ρ.r b b'->bJ w b->NoB w b->w1.heap[b]?=w.heap[b]?/\cZ.heap[b']?=w'.heap[b']?
 poi:∀{b b'},ρ.r b b'->Rw w b->Rw w1 b/\∀i u,aev u->w1.cell? ⟨b,i,none⟩=some u->w.cell? ⟨b,i,none⟩=some u/\cZ.cell? ⟨b',i,none⟩=w'.cell? ⟨b',i,none⟩
def bJ.of_eq{b:Nat}(h:bJ w b)(e:S.heap[b]?=w.heap[b]?):bJ S b:=let⟨c,t,z,d,a⟩:=h;⟨c,t,z,e.trans d,a⟩
def NoB.of_eq{b:Nat}(h:NoB w b)(e:S.heap[b]?=w.heap[b]?):NoB S b:=λc t z a=>h c t z (e.symm.trans a)
def Kept.refl(ρ:Ren)(w w':World):Kept ρ ρ w w' w w':=⟨am _,am _,.inl,λ_ _=>rfl,λ_ _=>rfl,⟨rfl,rfl⟩,⟨rfl,rfl⟩,⟨rfl,rfl⟩,⟨am _,am _⟩,λ_ h=>h,id,λ_ _ _=>⟨rfl,rfl⟩,λ_ a=>⟨a,λ_ _ _ b=>⟨b,rfl⟩⟩⟩
def Kept.trans{ρ s q:Ren}{w2 e : World}(h:Kept ρ s w w' S J)(k:Kept s q S J w2 e):Kept ρ q w w' w2 e where
 size:=db h.size k.size
 size':=db h.size' k.size'
 new:=λx=>by
  rcases k.new x with y|⟨y,z⟩
  .exact h.new y
  .exact .inr ⟨db h.size y,db h.size' z⟩
 out:=λ{b} d a=>by
  rw[k.out (bd d h.size) λc o=> ?_,h.out d a];rcases h.new o with y|⟨y,_⟩
  .exact a c y
  .omega
 out':=λ{b} d a=>by
  rw[k.out' (bd d h.size') λc o=> ?_,h.out' d a];rcases h.new o with y|⟨_,y⟩
  .exact a c y
  .omega
 os:=⟨k.os.1.trans h.os.1,k.os.2.trans h.os.2⟩
 tape:=⟨k.tape.1.trans h.tape.1,k.tape.2.trans h.tape.2⟩
 output:=⟨k.output.1.trans h.output.1,k.output.2.trans h.output.2⟩
 drawn:=⟨db h.drawn.1 k.drawn.1,db h.drawn.2 k.drawn.2⟩
 frz:=λb x=>k.frz b (h.frz b x)
 le:=λx=>k.le (h.le x)
 still:=λf p a=>by
  obtain⟨g,n⟩:=h.still f p a;obtain⟨j,m⟩:=k.still (h.le f) (p.of_eq g) (a.of_eq g);exact⟨j.trans g,m.trans n⟩
 poi:=λf B=>by
  obtain⟨v,A⟩:=h.poi f B;obtain⟨l,t⟩:=k.poi (h.le f) v;refine⟨l,λi u r C=> ?_⟩;obtain⟨j,m⟩:=t i u r C;obtain⟨g,n⟩:=A i u r j;exact⟨g,m.trans n⟩
def Obj.azN:Obj->Bool
 |.cells .. =>true
 |_=>false
def NoD(o:Obj):Prop:=∀d l,o ≠ .deferred (some (d::l))
def Leaves{α:Type}(P:Program)(A:α->Prop):Sem α->Prop
 |.pure a=>A a
 |.load _ _ k=>∀v,Leaves P A (k v)
 |.store _ _ _ k=>Leaves P A k
 |.new o k=>NoD o/\∀r,Leaves P A (k r)
 |.shape _ k=>∀z,Leaves P A (k z)
 |.freeze _ _ k=>Leaves P A k
 |.frozen _ k=>∀b,Leaves P A (k b)
 |.getObj _ k=>∀o,Leaves P A (k o)
 |.setObj _ _ _=>False
 |.choose _ k=>∀n,Leaves P A (k n)
 |.sys _ k=>∀r,Leaves P A (k r)
 |.program k=>Leaves P A (k P)
 |.mark _ k=>Leaves P A k
 |.halt _=>True
def kX{α:Type}(P:Program)(s:Sem α):Prop:=Leaves P (λ_=>False) s
def Leaves.bind{A:V->Prop}{B:β->Prop}{f:V->Sem β}:∀{s:Sem V},Leaves P A s->(∀a,A a->Leaves P B (f a))->Leaves P B (s.bind f):=by
 intro s
 induction s with
 |pure a=>intro h b;exact b a h
 |load m a k d=>intro h b v;exact d v (h v) b
 |store m a v k d=>intro h b;exact d h b
 |new o k d=>intro h b;exact⟨h.1,λr=>d r (h.2 r) b⟩
 |shape r k d=>intro h b v;exact d v (h v) b
 |freeze a n k d=>intro h b;exact d h b
 |frozen a k d=>intro h b v;exact d v (h v) b
 |getObj r k d=>intro h b v;exact d v (h v) b
 |setObj r o k d=>intro h;exact h.elim
 |choose q k d=>intro h b v;exact d v (h v) b
 |sys c k d=>intro h b v;exact d v (h v) b
 |program k d=>intro h b;exact d _ h b
 |mark m k d=>intro h b;exact d h b
 |halt h=>intro _ _;trivial
def kX.bind(h:kX P s)(f:V->Sem β):kX P (s.bind f):=Leaves.bind h λ_ h=>h.elim
def iK(b:Leaves P (λ_=>True) s){f:V->Sem β}(h:∀a,kX P (f a)):kX P (s >>=f):=Leaves.bind b λa _=>h a
def gC(h:Halt):kX P (.halt h:Sem V):=trivial
def fW(w w1:World):Prop:=∀(b:Nat) (d:Deferred) (l:List Deferred),w1.heap[b]?=some (Obj.deferred (some (d::l)))->w.heap[b]?=some (Obj.deferred (some (d::l)))
def fW.refl(w:World):fW w w:=λ_ _ _ h=>h
def fW.trans{a b c:World}(h:fW a b)(k:fW b c):fW a c:=λx d l e=>h x d l (k x d l e)
def fW.setCell(w:World)(a:Addr)(v:Value):fW w (w.setCell a v):=λb d l h=>by
 unfold World.setCell at h;simp only[pe] at h;by_cases e:a.block=b
 .rw[dj e] at h;cases c:w.heap[b]? with
  |none=>rw[c] at h;cases h
  |some o=>rw[c] at h;cases o<;>simp at h;rw[h]
 .rw[bv e] at h;exact h
def fW.freeze(w:World)(a:Addr)(n:Nat):fW w (w.freeze a n):=λb d l h=>by
 unfold World.freeze at h;by_cases f:n=0
 .rw[dj f] at h;exact h
 rw[bv f] at h;simp only[pe] at h;by_cases e:a.block=b
 .rw[dj e] at h;cases c:w.heap[b]? with
  |none=>rw[c] at h;cases h
  |some o=>rw[c] at h;cases o<;>simp at h;rw[h]
 .rw[bv e] at h;exact h
def fW.push(w:World)(a:NoD o):fW w {w with heap:=w.heap.push o}:=λb d l h=>by
 change (w.heap.push o)[b]?=_ at h;rw[qD] at h;split at h
 .simp only[jt] at h;exact absurd h (a d l)
 .exact h
def fW.set(w:World)(r:Nat)(a:NoD o):fW w {w with heap:=w.heap.setIfInBounds r o}:=λb d l h=>by
 change (w.heap.setIfInBounds r o)[b]?=_ at h;rw[qk] at h;split at h
 .split at h
  .simp only[jt] at h;exact absurd h (a d l)
  .cases h
 .exact h
def aew{u:TypeId}{k:Addr}{b:Bool}(h:w.viewStore P Y u k v b=.ok (S,ts)):∃r c e z,S={w with heap:=w.heap.setIfInBounds r (.cells c e z)}:=by
 unfold World.viewStore at h;simp only[bind,Except.bind,pure,Except.pure,throw,throwThe,MonadExceptOf.throw] at h
 repeat' split at h
 all_goals first|(cases h;done)|(cases h;exact⟨_,_,_,_,rfl⟩)
def fW.farStore{b:Bool}(h:w.farStore P a v b=.ok (S,ts)):fW w S:=by
 unfold World.farStore at h;split at h
 .split at h
  .rename_i f;simp only[Except.ok.injEq] at h;subst h;obtain⟨r,c,e,z,rfl⟩:=aew f;exact fW.set w r λd l e=>by cases e
  .cases h
 .cases h
def aex{b:Type}:∀(a:Ask b) (w:World),(w.ask a).2.heap=w.heap
 |.done a,w=>rfl
 |.ask what range k,w=>by
  unfold World.ask;dsimp only;split
  .exact aex (k 0) w
  .exact aex (k _) _
def aqT(w:World)(c:Sys):(w.sys c).2.heap=w.heap:=by
 have h:=aex (Kernel.perform c w.os) w;unfold World.sys;split
 .rfl
 .rename_i r d b a;rw[a] at h;exact h
def Leaves.awG  :∀{s:Sem V},kX P s->∀(w:World) (g:Array Event),∃h i t,s.runT P w g=(.halt h i,t)/\fW w i:=by
 intro s
 induction s with
 |pure a=>intro h;exact h.elim
 |load m a k f=>
  intro h w g;rw[Sem.runT];cases C:w.cell? a with
  |some v=>exact f v (h v) _ _
  |none=>
   cases A:w.farLoad P a (m ==.atomic) with
   |error e=>exact⟨_,_,_,rfl,.refl _⟩
   |ok q=>obtain⟨v,B⟩:=q;exact f v (h v) _ _
 |store m a v k f=>
  intro h w g;by_cases z:(∀x,v ≠ .agg x)/\∀x,v ≠ .tuple x
  .rw[sb _ _ _ _ _ _ _ z.1 z.2];cases C:w.cell? a with
   |some u=>
    cases A:w.frozen? a with
    |true=>exact⟨_,_,_,rfl,.refl _⟩
    |false=>
     simp only[jp,qG];obtain⟨y,i,t,p,j⟩:=f h (w.setCell a v) (g.push ⟨.cell a,true,m ==.atomic⟩);exact⟨y,i,t,p,(fW.setCell w a v).trans j⟩
   |none=>
    cases A:w.farStore P a v (m ==.atomic) with
    |error e=>exact⟨_,_,_,rfl,.refl _⟩
    |ok q=>
     obtain⟨D,B⟩:=q;obtain⟨y,i,t,p,j⟩:=f h D (g++B.toArray.map (⟨.cell ·,true,m ==.atomic⟩));exact⟨y,i,t,p,(fW.farStore A).trans j⟩
  .have:(∃x,v=.agg x)\/∃x,v=.tuple x:=by
    by_cases p:∃x,v=.agg x
    .exact .inl p
    .by_cases j:∃x,v=.tuple x
     .exact .inr j
     .exact absurd ⟨λx e=>p ⟨x,e⟩,λx e=>j ⟨x,e⟩⟩ z
   rcases this with⟨x,rfl⟩|⟨x,rfl⟩<;>exact⟨_,_,_,by rw[Sem.runT],.refl _⟩
 |new o k f=>
  intro h w g;rw[Sem.runT];obtain⟨y,i,t,p,j⟩:=f _ (h.2 _) {w with heap:=w.heap.push o} g;exact⟨y,i,t,p,(fW.push w h.1).trans j⟩
 |shape r k f=>intro h w g;rw[Sem.runT];exact f _ (h _) _ _
 |freeze a n k f=>
  intro h w g;rw[Sem.runT];obtain⟨y,i,t,p,j⟩:=f h (w.freeze a n) g;exact⟨y,i,t,p,(fW.freeze w a n).trans j⟩
 |frozen a k f=>intro h w g;rw[Sem.runT];exact f _ (h _) _ _
 |getObj r k f=>
  intro h w g;rw[Sem.runT];cases C:w.heap[r]? with
  |none=>exact⟨_,_,_,rfl,.refl _⟩
  |some o=>cases o<;>first|exact⟨_,_,_,rfl,.refl _⟩|exact f _ (h _) _ _
 |setObj r o k f=>intro h;exact h.elim
 |choose q k f=>
  intro h w g;rw[Sem.runT];split
  .exact f _ (h _) _ _
  .exact f _ (h _) {w with drawn:=w.drawn+1} _
 |sys c k f=>
  intro h w g;rw[Sem.runT];obtain⟨y,i,t,p,j⟩:=f (w.sys c).1 (h _) (w.sys c).2 (g.push ⟨.output,true,false⟩);exact⟨y,i,t,p,fW.trans (λb d l e=>by rw[aqT] at e;exact e) j⟩
 |program k f=>intro h w g;rw[Sem.runT];exact f _ h _ _
 |mark m k f=>intro h w g;rw[Sem.runT];exact f h _ _
 |halt h=>intro _ w g;rw[Sem.runT];exact⟨_,_,_,rfl,.refl _⟩
inductive aw (P P':Program) {α β:Type} (A:Ren->α->β->Prop):Ren->Sem α->Sem β->Prop
 |pure {ρ a b} (h:A ρ a b):aw P P' A ρ (.pure a) (.pure b)
 |load {ρ} (m:Mode) {a a' k k'} (ha:AR ρ a a') (hk:∀v v',VR ρ v v'->aw P P' A ρ (k v) (k' v')):aw P P' A ρ (.load m a k) (.load m a' k')
 |store {ρ} (m:Mode) {a a' v v' k k'} (ha:AR ρ a a') (hv:VR ρ v v') (hk:aw P P' A ρ k k'):aw P P' A ρ (.store m a v k) (.store m a' v' k')
 |new {ρ o o' k k'} (ho:OR ρ o o') (hk:∀σ r r',ρ.Le σ->σ.r r r'->aw P P' A σ (k r) (k' r')):aw P P' A ρ (.new o k) (.new o' k')
 |shape {ρ r r' k k'} (hr:ρ.r r r') (hk:∀s,aw P P' A ρ (k s) (k' s)):aw P P' A ρ (.shape r k) (.shape r' k')
 |anH {ρ} {a a':Addr} (n:Nat) {k:ByteArray->Sem α} {k':ByteArray->Sem β} (ha:AR ρ a a') (hk:∀s,aw P P' A ρ (k s) (k' s)):aw P P' A ρ ((loadBytes a .empty (n+1)).bind λs=>.freeze a (n+1) (k s)) ((loadBytes a' .empty (n+1)).bind λs=>.freeze a' (n+1) (k' s))
 |aub {ρ} {c c':Array Value} (t:TypeId) {k:Nat->Sem α} {k':Nat->Sem β} (hc:bU ρ c.toList c'.toList) (hk:∀σ r r',ρ.Le σ->σ.r r r'->aw P P' A σ (k r) (k' r')):aw P P' A ρ (.new (.cells c t) λr=>(markStringish ⟨r,0,none⟩).bind λ_=>k r) (.new (.cells c' t) λr=>(markStringish ⟨r,0,none⟩).bind λ_=>k' r)
 |frozen {ρ a a' k k'} (ha:AR ρ a a') (hk:∀b b':Bool,(b'=true->b=true)->aw P P' A ρ (k b) (k' b')):aw P P' A ρ (.frozen a k) (.frozen a' k')
 |getObj {ρ r r' k k'} (hr:ρ.r r r') (hk:∀o o',OR ρ o o'->aw P P' A ρ (k o) (k' o')):aw P P' A ρ (.getObj r k) (.getObj r' k')
 |setObj {ρ r r' o o' k k'} (hr:ρ.r r r') (ho:OR ρ o o') (hk:aw P P' A ρ k k'):aw P P' A ρ (.setObj r o k) (.setObj r' o' k')
 |choose {ρ} (q:Question) {k k'} (hk:∀n,aw P P' A ρ (k n) (k' n)):aw P P' A ρ (.choose q k) (.choose q k')
 |abu {ρ} (q:Question) (n:Nat) (hq:q.forced=false) {k} {s':Sem β} (hk:aw P P' A ρ (k (q.cut n)) s'):aw P P' A ρ (.choose q k) s'
 |aeh {ρ} {s:Sem α} {a' k'} (hk:∀b,aw P P' A ρ s (k' b)):aw P P' A ρ s (.frozen a' k')
 |ahJ {ρ} {s:Sem α} {r' k'} (hk:∀b,aw P P' A ρ s (k' b)):aw P P' A ρ s (.shape r' k')
 |program {ρ k k'} (hk:aw P P' A ρ (k P) (k' P')):aw P P' A ρ (.program k) (.program k')
 |mark {ρ m m' k k'} (hm:MkR ρ m m') (hk:aw P P' A ρ k k'):aw P P' A ρ (.mark m k) (.mark m' k')
 |halt {ρ} (h:Halt) (s:Sem β):aw P P' A ρ (.halt h) s
 |dead {ρ} {s:Sem α} (h:kX P s) (s':Sem β):aw P P' A ρ s s'
def aw.bind {F G : Type} {A:Ren->V->β->Prop} {B:Ren->F->G->Prop} {ρ:Ren}  {f:V->Sem F} {f':β->Sem G}
  (h:aw P P' A ρ s s') (g:∀u a p,ρ.Le u->A u a p->aw P P' B u (f a) (f' p)):aw P P' B ρ (s.bind f) (s'.bind f'):=by
 induction h with
 |pure x=>exact g _ _ _ (Ren.Le.refl _) x
 |load m j i d=>exact .load m j λv H E=>d v H E g
 |store m j E i d=>exact .store m j E (d g)
 |new w i d=>exact .new w λu r z y l=>d u r z y l λD a p C j=>g D a p (y.trans C) j
 |shape l i d=>exact .shape l λs=>d s g
 |@anH ρ a p n k L j i d=>
  have e:∀(a:Addr) {V β:Type} (k:ByteArray->Sem V) (f:V->Sem β),((loadBytes a .empty (n+1)).bind λs=>Sem.freeze a (n+1) (k s)).bind f=(loadBytes a .empty (n+1)).bind λs=>.freeze a (n+1) ((k s).bind f):=λa V β k f=>Sem.bind_assoc' _ _ _;rw[e,e];exact .anH n j λs=>d s g
 |@aub ρ c O t k L K i d=>
  have e:∀(c:Array Value) {V β:Type} (k:Nat->Sem V) (f:V->Sem β),(Sem.new (.cells c t) λr=>(markStringish ⟨r,0,none⟩).bind λ_=>k r).bind f=.new (.cells c t) λr=>(markStringish ⟨r,0,none⟩).bind λ_=>(k r).bind f:=λc V β k f=>
   gn (Sem.new (.cells c t)) (funext λr=>Sem.bind_assoc' _ _ _)
  rw[e,e];exact .aub t K λu r z y l=>d u r z y l λD a p C j=>g D a p (y.trans C) j
 |frozen j i d=>exact .frozen j λb I h=>d b I h g
 |getObj l i d=>exact .getObj l λo M w=>d o M w g
 |setObj l w i d=>exact .setObj l w (d g)
 |choose q i d=>exact .choose q λn=>d n g
 |abu q n J i d=>exact .abu q n J (d g)
 |aeh i d=>exact .aeh λb=>d b g
 |ahJ i d=>exact .ahJ λb=>d b g
 |program i d=>exact .program (d g)
 |mark N i d=>exact .mark N (d g)
 |halt h s=>exact .halt h _
 |dead h s=>exact .dead (h.bind _) _
def bJ.setCell(w:World)(a:Addr)(v:Value)(b:Nat)(h:bJ w b):bJ (w.setCell a v) b:=by
 obtain⟨c,t,z,g,d,i,f⟩:=h;unfold World.setCell;simp only[bJ,pe];by_cases e:a.block=b
 .rw[dj e,g];refine⟨_,t,z,rfl,d, ?_,f⟩;split<;>simpa using i
 .rw[bv e];exact⟨c,t,z,g,d,i,f⟩
def bJ.push(w:World)(o:Obj)(b:Nat)(h:bJ w b):bJ {w with heap:=w.heap.push o} b:=by
 obtain⟨c,t,z,a,e,g,f⟩:=h;have d:=(dq.1 a).1;refine⟨c,t,z, ?_,e,g,f⟩;show(w.heap.push o)[b]?=_;rw[qD,bv (by omega)];exact a
def bJ.set(w:World)(i:∀c t z,w.heap[r]?≠some (.cells c t z))(b:Nat)(h:bJ w b):bJ {w with heap:=w.heap.setIfInBounds r o} b:=by
 obtain⟨c,t,z,a,d,g,f⟩:=h;refine⟨c,t,z, ?_,d,g,f⟩;show(w.heap.setIfInBounds r o)[b]?=_;by_cases e:r=b
 .subst e;exact absurd a (i _ _ _)
 .rw[jn e];exact a
def bJ.freeze(w:World)(a:Addr)(n:Nat)(b:Nat)(h:bJ w b):bJ (w.freeze a n) b:=by
 obtain⟨c,t,z,i,d,f,g⟩:=h;unfold World.freeze;by_cases k:n=0
 .rw[dj k];exact⟨c,t,z,i,d,f,g⟩
 rw[bv k];simp only[bJ,pe];by_cases e:a.block=b
 .rw[dj e,i];obtain⟨l,j⟩:=z;dsimp only at d f g;refine⟨c,t,(min l a.off,max j (a.off+n)), ?_, ?_, ?_, ?_⟩
  .show some (Obj.cells c t (if l ==j then _ else _))=_;rw[bv (by simp;omega)]
  .dsimp only;omega
  .dsimp only;omega
  .dsimp only;omega
 .rw[bv e];exact⟨c,t,z,i,d,f,g⟩
def WR.eL{ρ a:Ren}(h:WR ρ w w')(k:ρ.Le a)(e:∀{b d},a.r b d->∃o c,S.heap[b]?=some o/\J.heap[d]?=some c/\OR a o c)(f:S.ou=w.ou)(j:J.ou=w'.ou)(i:w.heap.size<=S.heap.size)(g:w'.heap.size<=J.heap.size):WR a S J:=⟨e,f.trans (h.os.trans j.symm),db h.kW.1 i,db h.kW.2 g⟩
def WR.cell{ρ:Ren}(h:WR ρ w w')(g:AR ρ a Y)(b:w.cell? a=some v):∃c,w'.cell? Y=some c/\VR ρ v c:=by
 obtain⟨e,o,s⟩:=g;obtain⟨x,k,i,d,f⟩:=h.obj e;unfold World.cell? at b ⊢;simp only at b ⊢;rw[i] at b;rw[d];cases f with
 |cells j t l=>
  simp only at b ⊢;cases s with
  |some s=>simp at b
  |none=>
   simp only[tn,jp,qG] at b ⊢;rw[<-eg] at b ⊢;exact j.get b
 |map|stringIter|number|mapIter|loop|bI|deferred=>simp at b
def WR.ak9{ρ:Ren}(h:WR ρ w w')(f:AR ρ a Y)(p:Program)(b:Bool)(k:w.cell? a=none):(∃e,w.farLoad p a b=.error e)/\∀v,∃e,w.farStore p a v b=.error e:=by
 obtain⟨c,o,s⟩:=f;obtain⟨x,j,g,i,d⟩:=h.obj c;unfold World.farLoad World.farStore;simp only[g];cases d<;>exact⟨⟨_,rfl⟩,λ_=>⟨_,rfl⟩⟩
def WR.aoU{ρ:Ren}(h:WR ρ w w')(j:AR ρ a Y)(b:w.cell? a=some v)(d:w.frozen? a=false):w'.frozen? Y=false:=by
 obtain⟨g,o,s⟩:=j;obtain⟨x,q,k,f,i⟩:=h.obj g;unfold World.frozen? at d ⊢;unfold World.cell? at b;simp only at d b ⊢;rw[k] at d b;rw[f];cases i with
 |cells r t l=>
  rcases l with rfl|⟨_,p,u, -⟩
  .exact d
  .exfalso;rename_i c m z n;simp only at b d;cases s with
   |some s=>simp at b
   |none=>
    simp only[tn,jp,qG] at b;have e:=(dq.1 b).1;simp at d;omega
 |map|stringIter|number|mapIter|loop|bI|deferred=>rfl
def WR.aoV{ρ:Ren}(h:WR ρ w w')(f:AR ρ a Y)(b:w'.frozen? Y=true):w.frozen? a=true:=by
 obtain⟨d,o,s⟩:=f;obtain⟨x,m,g,c,e⟩:=h.obj d;unfold World.frozen? at b ⊢;simp only[g,c] at b ⊢;cases e with
 |cells k t i=>
  rcases i with rfl|⟨_,j,n,l⟩
  .exact b
  .simp at b ⊢;omega
 |map|stringIter|number|mapIter|loop|bI|deferred=>cases b
def WR.shape{ρ:Ren}(h:WR ρ w w')(b:ρ.r r R):w.shape? r=w'.shape? R:=by
 obtain⟨x,f,c,a,e⟩:=h.obj b;unfold World.shape?;simp only[c,a];cases e with
 |cells d t g=>
  have:=d.length;simp only[qX] at this;show some (t,_)=some (t,_);rw[this]
 |map|stringIter|number|mapIter|loop|bI|deferred=>rfl
def WR.turn {ρ:Ren} (h:WR ρ w w') (g:ρ.r r R) (F j:Obj->Obj) (q:∀b,S.heap[b]?=if b=r then(w.heap[b]?).map F else w.heap[b]?) (k:∀b,J.heap[b]?=if b=R then(w'.heap[b]?).map j else w'.heap[b]?)
  (u:∀o c,OR ρ o c->OR ρ (F o) (j c)) (n:S.ou=w.ou) (t:J.ou=w'.ou) (p:S.heap.size=w.heap.size) (m:J.heap.size=w'.heap.size):WR ρ S J:=by
 refine h.eL (Ren.Le.refl _) (λ{b l} a=> ?_) n t (mu p.symm) (mu m.symm)
 .obtain⟨o,c,f,i,d⟩:=h.obj a;rw[q,k];by_cases e:b=r
  .subst e;obtain rfl:=ρ.fn a g;rw[dj rfl,dj rfl,f,i];exact⟨_,_,rfl,rfl,u _ _ d⟩
  .have s:l≠R:=λx=>e (ρ.inj a (x▸g));rw[bv e,bv s,f,i];exact⟨_,_,rfl,rfl,d⟩
def lT(w:World)(a:Addr)(v:Value)(b:Nat):(w.setCell a v).heap[b]?=if b=a.block then(w.heap[b]?).map (fun
   |.cells c d frozen=>.cells (if a.spot.isSome then c else c.setIfInBounds a.off v) d frozen
   |o=>o) else w.heap[b]?:=by
 unfold World.setCell;simp only[pe];by_cases e:b=a.block
 .rw[dj e,dj e.symm]
  congr 1
 .rw[bv e,bv (sj e)]
def WR.setCell{ρ:Ren}(h:WR ρ w w')(m:AR ρ a Y)(q:VR ρ v v'):WR ρ (w.setCell a v) (w'.setCell Y v'):=by
 obtain⟨f,o,s⟩:=m;refine h.turn f _ _ (lT w _ v) (lT w' _ v') (λx A i=> ?_) rfl rfl (by unfold World.setCell;simp) (by unfold World.setCell;simp);cases i with
 |cells b t c=>
  cases s with
  |some s=>exact .cells b t c
  |none=>exact .cells (by simpa using b.set o q) t (by simpa using c)
 |map x k=>exact .map x k
 |stringIter s p=>exact .stringIter s p
 |number x l=>exact .number x l
 |mapIter x s t n=>exact .mapIter x s t n
 |loop u e g r z j y d=>exact .loop u e g r z j y d
 |bI=>exact .bI
 |deferred=>exact .deferred
def Rw.of_eq{b:Nat}(h:Rw w b)(e:S.heap[b]?=w.heap[b]?):Rw S b:=let⟨c,t,z,a⟩:=h;⟨c,t,z,e.trans a⟩
def jf{b i:Nat}(h:S.heap[b]?=w.heap[b]?):S.cell? ⟨b,i,none⟩=w.cell? ⟨b,i,none⟩:=by
 unfold World.cell?;rw[h]
def Kept.turn {ρ:Ren}  (c:ρ.r r R) (j:∀b,b≠r->S.heap[b]?=w.heap[b]?) (k:∀b,b≠R->J.heap[b]?=w'.heap[b]?) (x:S.heap.size=w.heap.size) (t:J.heap.size=w'.heap.size)
  (v:S.ou=w.ou/\J.ou=w'.ou) (q:S.tape=w.tape/\J.tape=w'.tape) (u1:S.output=w.output/\J.output=w'.output) (o:S.drawn=w.drawn/\J.drawn=w'.drawn) (s:∀b,bJ w b->bJ S b) (d:bJ w r->¬NoB w r)
  (p:Rw w r->Rw S r/\∀i u,aev u->S.cell? ⟨r,i,none⟩=some u->w.cell? ⟨r,i,none⟩=some u/\J.cell? ⟨R,i,none⟩=w'.cell? ⟨R,i,none⟩):Kept ρ ρ w w' S J:=
 ⟨mu x.symm,mu t.symm,.inl,λ{b} _ a=>j b λe=>a R (e▸c),λ{b} _ a=>k b λe=>a r (e▸c),v,q,u1,⟨mu o.1.symm,mu o.2.symm⟩,s,id,λ{b f} g n a=>⟨j b λe=>d (e▸n) (e▸a),k f λe=>by subst e;obtain rfl:=ρ.inj g c;exact d n a⟩,λ{b f} g m=>by
  by_cases e:b=r
  .subst e;obtain rfl:=ρ.fn g c;exact p m
  .have l:f≠R:=λl=>by subst l;exact e (ρ.inj g c)
   exact⟨m.of_eq (j b e),λi u _ y=>⟨(jf (j b e)).symm.trans y,jf (k f l)⟩⟩⟩
def Kept.setCell{ρ:Ren}(w w':World)(C:AR ρ a Y)(v v':Value)(p:¬bJ w a.block)(l:¬aev v):Kept ρ ρ w w' (w.setCell a v) (w'.setCell Y v'):=by
 obtain⟨y,o,s⟩:=C;refine Kept.turn y (λb n=> ?_) (λb n=> ?_) (by unfold World.setCell;simp) (by unfold World.setCell;simp) ⟨rfl,rfl⟩ ⟨rfl,rfl⟩ ⟨rfl,rfl⟩ ⟨rfl,rfl⟩ (bJ.setCell w _ v) (λh _=>p h) (λx=> ?_)
 .rw[lT,bv n]
 .rw[lT,bv n]
 .obtain⟨c,t,z,f⟩:=x;rename_i q D;have g:∀(w:World) (b i:Nat) (v:Value),(s.isSome=true\/i≠o)->(w.setCell ⟨b,o,s⟩ v).cell? ⟨b,i,none⟩=w.cell? ⟨b,i,none⟩:=λw b i v j=>by
   unfold World.setCell World.cell?;simp only[pe,pr];cases w.heap[b]? with
   |none=>rfl
   |some B=>
    cases B with
    |cells c t z=>
     cases s with
     |some s=>rfl
     |none=>simp[qk,(j.resolve_left (by simp)).symm]
    |_=>rfl
  have m:Rw (w.setCell ⟨q,o,s⟩ v) q:=by
   unfold Rw World.setCell;simp only[pe,pr,f];cases s<;>exact⟨_,_,_,rfl⟩
  refine⟨m,λi u A k=> ?_⟩;have j:s.isSome=true\/i≠o:=by
   cases s with
   |some s=>exact .inl rfl
   |none=>
    refine .inr λe=> ?_;subst e;unfold World.setCell World.cell? at k;simp only[pe,pr,f] at k;have d:(c.setIfInBounds i v)[i]?=some u:=k;rw[qk,dj rfl] at d;by_cases r:i<c.size
    .rw[dj r] at d;cases d;exact l A
    .rw[bv r] at d;cases d
  exact⟨(g _ _ _ _ j).symm.trans k,g _ _ _ _ j⟩
def WR.push{ρ:Ren}(h:WR ρ w w')(l:OR ρ o o') :
  ∃d:Ren,ρ.Le d/\d.r w.heap.size w'.heap.size/\WR d {w with heap:=w.heap.push o} {w' with heap:=w'.heap.push o'}/\Kept ρ d w w' {w with heap:=w.heap.push o} {w' with heap:=w'.heap.push o'}:=by
 have e:∀b,¬ρ.r w.heap.size b:=λb a=>by have:=(h.lt a).1;omega
 have n:∀b,¬ρ.r b w'.heap.size:=λb a=>by have:=(h.lt a).2;omega
 refine⟨ρ.ext _ _ e n h.kW.1 h.kW.2,Ren.aeu,.inr ⟨rfl,rfl⟩,h.eL Ren.aeu (λ{b c} a=> ?_) rfl rfl (by simp) (by simp), ?_⟩
 .rcases a with a|⟨rfl,rfl⟩
  .obtain⟨x,r,m,q,e⟩:=h.obj a;obtain⟨g,j⟩:=h.lt a;refine⟨x,r, ?_, ?_,e.mono Ren.aeu⟩
   .show(w.heap.push o)[b]?=_;rw[qD,bv (by omega)];exact m
   .show(w'.heap.push o')[c]?=_;rw[qD,bv (by omega)];exact q
  .exact⟨o,o',by simp,by simp,l.mono Ren.aeu⟩
 .refine⟨by simp,by simp,λa=> ?_,λ{b} a _=> ?_,λ{b} a _=> ?_,⟨rfl,rfl⟩,⟨rfl,rfl⟩,⟨rfl,rfl⟩,⟨am _,am _⟩,bJ.push w o,Ren.aeu.r,λ{b c} a _ _=> ?_,λ{b c} a k=> ?_⟩
  .rcases a with a|⟨rfl,rfl⟩
   .exact .inl a
   .exact .inr ⟨am _,am _⟩
  .show(w.heap.push o)[b]?=_;rw[qD,bv (by omega)]
  .show(w'.heap.push o')[b]?=_;rw[qD,bv (by omega)]
  .obtain⟨g,j⟩:=h.lt a;refine⟨?_, ?_⟩
   .show(w.heap.push o)[b]?=_;rw[qD,bv (by omega)]
   .show(w'.heap.push o')[c]?=_;rw[qD,bv (by omega)]
  .obtain⟨g,j⟩:=h.lt a;have f:({w with heap:=w.heap.push o}:World).heap[b]?=w.heap[b]?:=by
    show(w.heap.push o)[b]?=_;rw[qD,bv (by omega)]
   have p:({w' with heap:=w'.heap.push o'}:World).heap[c]?=w'.heap[c]?:=by
    show(w'.heap.push o')[c]?=_;rw[qD,bv (by omega)]
   exact⟨k.of_eq f,λi u _ s=>⟨(jf f).symm.trans s,jf p⟩⟩
def WR.set{ρ:Ren}(h:WR ρ w w')(d:ρ.r r R)(m:OR ρ o o') :
  (∀c t z,w.heap[r]?≠some (.cells c t z))->WR ρ {w with heap:=w.heap.setIfInBounds r o} {w' with heap:=w'.heap.setIfInBounds R o'}/\Kept ρ ρ w w' {w with heap:=w.heap.setIfInBounds r o} {w' with heap:=w'.heap.setIfInBounds R o'}:=by
 intro a;have n:=bJ.set w (r:=r) (o:=o) a
 obtain⟨k,l⟩:=h.lt d;have i:∀b,(w.heap.setIfInBounds r o)[b]?=if b=r then(w.heap[b]?).map (λ_=>o) else w.heap[b]?:=λb=>by
  rw[qk];by_cases e:b=r
  .subst e;rw[dj rfl,dj rfl,dj k,gt k];rfl
  .rw[bv (sj e),bv e]
 have j:∀b,(w'.heap.setIfInBounds R o')[b]?=if b=R then(w'.heap[b]?).map (λ_=>o') else w'.heap[b]?:=λb=>by
  rw[qk];by_cases e:b=R
  .subst e;rw[dj rfl,dj rfl,dj l,gt l];rfl
  .rw[bv (sj e),bv e]
 refine⟨h.turn d _ _ i j (λ_ _ _=>m) rfl rfl (by simp) (by simp),Kept.turn d (λb f=> ?_) (λb f=> ?_) (by simp) (by simp) ⟨rfl,rfl⟩ ⟨rfl,rfl⟩ ⟨rfl,rfl⟩ ⟨rfl,rfl⟩ n (λ⟨c,t,z,g,_⟩ _=>a c t z g) (λ⟨c,t,z,g⟩=>(a c t z g).elim)⟩
 .show(w.heap.setIfInBounds r o)[b]?=_;rw[i,bv f]
 .show(w'.heap.setIfInBounds R o')[b]?=_;rw[j,bv f]
def WR.ask{ρ:Ren}(h:WR ρ w w')(d a:Nat):WR ρ {w with drawn:=w.drawn+d} {w' with drawn:=w'.drawn+a}/\Kept ρ ρ w w' {w with drawn:=w.drawn+d} {w' with drawn:=w'.drawn+a}:=
 ⟨h.eL (Ren.Le.refl _) h.obj rfl rfl (am _) (am _),am _,am _,.inl,λ_ _=>rfl,λ_ _=>rfl,⟨rfl,rfl⟩,⟨rfl,rfl⟩,⟨rfl,rfl⟩,⟨Nat.le_add_right _ _,Nat.le_add_right _ _⟩,λ_ h=>h,id,λ_ _ _=>⟨rfl,rfl⟩,λ_ b=>⟨b,λ_ _ _ c=>⟨c,rfl⟩⟩⟩
def jg(w:World)(a:Addr)(n:Nat)(d:n≠0)(b:Nat):(w.freeze a n).heap[b]?=if b=a.block then(w.heap[b]?).map (fun
   |.cells c elem (lo,hi)=>.cells c elem (if lo ==hi then(a.off,a.off+n) else(min lo a.off,max hi (a.off+n)))
   |o=>o) else w.heap[b]?:=by
 unfold World.freeze;rw[bv d];simp only[pe];by_cases e:b=a.block
 .rw[dj e,dj e.symm]
  congr 1
 .rw[bv e,bv (sj e)]
def WR.freeze{ρ:Ren}(h:WR ρ w w')(S:AR ρ a Y)(n:Nat)(j:∃k,w.cell? a=some (.int .u8 k)):WR ρ (w.freeze a n) (w'.freeze Y n)/\Kept ρ ρ w w' (w.freeze a n) (w'.freeze Y n):=by
 have B:bJ w a.block->¬NoB w a.block:=λ⟨c,t,z,g,_⟩ hnb=>by
  obtain⟨k,v⟩:=j;unfold World.cell? at v;rw[g] at v;obtain⟨b,o,s⟩:=a;cases s with
  |none=>exact hnb c t z g o k (by simpa using v)
  |some s=>simp at v
 by_cases f:n=0
 .unfold World.freeze;rw[dj f,dj f];exact⟨h,Kept.refl _ _ _⟩
 obtain⟨E,o,s⟩:=S;have d:∀(w:World) (a:Addr),(w.freeze a n).ou=w.ou/\(w.freeze a n).tape=w.tape/\(w.freeze a n).drawn=w.drawn/\(w.freeze a n).output=w.output/\(w.freeze a n).heap.size=w.heap.size:=λw a=>by
  unfold World.freeze;rw[bv f];exact⟨rfl,rfl,rfl,rfl,by simp⟩
 refine⟨h.turn E _ _ (jg w _ n f) (jg w' _ n f) (λx X Q=> ?_) (d _ _).1 (d _ _).1 (d _ _).2.2.2.2 (d _ _).2.2.2.2,Kept.turn E (λb j=> ?_) (λb j=> ?_) (d _ _).2.2.2.2 (d _ _).2.2.2.2 ⟨(d _ _).1,(d _ _).1⟩ ⟨(d _ _).2.1,(d _ _).2.1⟩ ⟨(d _ _).2.2.2.1,(d _ _).2.2.2.1⟩ ⟨(d _ _).2.2.1,(d _ _).2.2.1⟩ (bJ.freeze w _ n) B (λM=> ?_)⟩
 .cases Q with
  |cells g t L=>
   rcases L with rfl|⟨y,q⟩
   .exact .cells g t (.inl rfl)
   .refine .cells g t (.inr ⟨y, ?_⟩);obtain⟨V,Z,W⟩:=q;rename_i c T z U;have G:(z.1 ==z.2)=false:=by simp;omega
    rw[G];simp only[jp,qG];refine⟨by omega,by omega,.inr ?_⟩;split
    .dsimp only;omega
    .rename_i A;simp at A;dsimp only;omega
  |map x k=>exact .map x k
  |stringIter s p=>exact .stringIter s p
  |number x l=>exact .number x l
  |mapIter x s t n=>exact .mapIter x s t n
  |loop I F O H K R J N=>exact .loop I F O H K R J N
  |bI=>exact .bI
  |deferred=>exact .deferred
 .rw[jg _ _ _ f,bv j]
 .rw[jg _ _ _ f,bv j]
 .have m:∀(w:World) (b i:Nat),(w.freeze ⟨b,o,s⟩ n).cell? ⟨b,i,none⟩=w.cell? ⟨b,i,none⟩:=λw b i=>by
   unfold World.cell?;rw[jg _ _ _ f,dj rfl];cases w.heap[b]? with
   |none=>rfl
   |some P=>cases P<;>rfl
  obtain⟨c,t,z,r⟩:=M;rename_i C D;refine⟨?_,λi u _ g=>⟨(m w C i).symm.trans g,m w' D i⟩⟩;have e:=jg w ⟨C,o,s⟩ n f C;rw[dj rfl,r] at e;exact⟨_,_,_,e⟩
def mA.app{ρ:Ren}:∀{l b:List Event},mA ρ l b->∀{m a:List Event},mA ρ m a->mA ρ (l++m) (b++a)
 |_,_,.nil,_,_,h=>h
 |_,_,.cons x y,_,_,h=>.cons x (y.app h)
def OR.noD{ρ:Ren}(h:OR ρ o o'):NoD o:=λd l e=>by cases h<;>cases e
def _root_.Go.World.dN(w:World)(t:Tape):World:={w with tape:=t}
def WR.dN{ρ:Ren}(h:WR ρ w w')(t:Tape):WR ρ (w.dN t) w':=⟨h.obj,h.os,h.kW⟩
def Agr(w:World)(D:Nat)(t₁ t:Tape):Prop:=∀i q,w.drawn<=i->i<w.drawn+D->t i q=t₁ i q
def aCs(w:World)(es:List Event):Prop:=∀b,bJ w b->∀e∈es,e.write=true->(∀a,e.loc=.cell a->a.block≠b)/\∀r,e.loc=.obj r->r≠b
def bJ.aiZ{u:Value}(d:w.cell? a=some u)(f:w.frozen? a=false){b:Nat}(i:bJ w b):a.block≠b:=λe=>by
 subst e;obtain⟨c,t,z,g,j,l,k⟩:=i;unfold World.cell? at d;unfold World.frozen? at f;rw[g] at d f;simp only at d f;split at d
 .cases d
 .have:=(dq.1 d).1;simp at f;omega
structure EvW (w:World) (σ:Ren) (us us':Array Event):Prop where
 ev:mA σ us.toList us'.toList
 nw:aCs w us.toList
def EvW.nil(w:World)(b:Ren):EvW w b #[] #[]:=⟨.nil,λ_ _ e a=>by cases a⟩
def im(P P':Program){α β:Type}(A:Ren->α->β->Prop)(ρ:Ren)(s:Sem α)(s':Sem β)(w w':World)(es es':Array Event):Prop:=
 ∃(b:Tape) (D:Nat),(∀t,Agr w D b t->∃h c j,s.runT P (w.dN t) es=(.halt h c,j)/\fW w c)\/
  ∃e a c i f g d,(∀t,Agr w D b t->s.runT P (w.dN t) es=(.ok a (c.dN t),es++g))/\c.drawn=w.drawn+D/\ρ.Le e/\s'.runT P' w' es'=(.ok i f,es'++d)/\A e a i/\WR e c f/\Kept ρ e w w' c f/\EvW w e g d
def im.no{A:Ren->V->β->Prop}{ρ:Ren}(h:∀t,∃h a b,s.runT P (w.dN t) es=(.halt h a,b)/\fW w a):im P P' A ρ s s' w w' es L:=
 ⟨w.tape,0,.inl λt _=>h t⟩
def im.step  {A:Ren->V->β->Prop} {ρ g:Ren} {y : Sem V} {w0 : World} {e e' : Array Event} (h:im P P' A g y H w0 S (es++e) (L++e'))
  (C:∀t,s.runT P (w.dN t) es=y.runT P (w0.dN t) (es++e)) (M:s'.runT P' w' L=H.runT P' S (L++e')) (d:w0.drawn=w.drawn) (p:fW w w0) (Q:ρ.Le g) (v:Kept ρ g w w' w0 S) (E:EvW w g e e'):im P P' A ρ s s' w w' es L:=by
 obtain⟨f,D,h⟩:=h;refine⟨f,D,h.imp (λh t m=> ?_) ?_⟩
 .rw[C];obtain⟨F,j,N,n,k⟩:=h t λi q o r=>m i q (d▸o) (d▸r);exact⟨F,j,N,n,p.trans k⟩
 .rintro⟨O,a,j,G,R,U,l,n,k,B,I,K,T,J,z⟩;refine⟨O,a,j,G,R,e++U,e'++l,λt m=> ?_,k.trans (by rw[d]),Q.trans B, ?_,K,T,v.trans J, ?_⟩
  .rw[C,n t λi q o r=>m i q (d▸o) (d▸r),tX]
  .rw[M,I,tX]
  .refine⟨by rw[pv,pv];exact(E.ev.mono B).app z.ev,λb u x c=> ?_⟩;rw[pv,io] at c;rcases c with c|c
   .exact E.nw b u x c
   .exact z.nw b (v.frz b u) x c
def im.step0  {A:Ren->V->β->Prop} {ρ a:Ren} {c : Sem V} {w0 : World} (h:im P P' A a c H w0 S es L)
  (j:∀t,s.runT P (w.dN t) es=c.runT P (w0.dN t) es) (f:s'.runT P' w' L=H.runT P' S L) (d:w0.drawn=w.drawn) (b:fW w w0) (g:ρ.Le a) (i:Kept ρ a w w' w0 S):im P P' A ρ s s' w w' es L:=
 im.step (e:=#[]) (e':=#[]) (by rw[rF,rF];exact h) (λt=>by rw[rF];exact j t) (by rw[rF];exact f) d b g i (.nil _ _)
def im.draw  {A:Ren->V->β->Prop} {ρ:Ren} {q:Question} {k:Nat->Sem V}   (n:Nat) (u:q.forced=false) (h:im P P' A ρ (k (q.cut n)) H {w with drawn:=w.drawn+1} S es L)
  (C:s'.runT P' w' L=H.runT P' S L) (s:Kept ρ ρ w w' {w with drawn:=w.drawn+1} S):im P P' A ρ (.choose q k) s' w w' es L:=by
 obtain⟨c,D,h⟩:=h;have l:∀t:Tape,t w.drawn q=n->(Sem.choose q k).runT P (w.dN t) es=(k (q.cut n)).runT P (World.dN {w with drawn:=w.drawn+1} t) es:=λt d=>by
  rw[Sem.runT,u,bv (by simp)];show(k (q.cut (t w.drawn q))).runT P _ es=_;rw[d];rfl
 have e:∀t,Agr w (D+1) (λi q=>if i=w.drawn then n else c i q) t->t w.drawn q=n/\Agr {w with drawn:=w.drawn+1} D c t:=λt d=>by
  refine⟨by rw[d w.drawn q (am _) (by omega)];exact dj rfl,λi q j m=> ?_⟩;have j:w.drawn+1<=i:=j;have m:i<w.drawn+1+D:=m;rw[d i q (by omega) (by omega)];exact bv (by omega)
 refine⟨λi q=>if i=w.drawn then n else c i q,D+1,h.imp (λh t d=> ?_) ?_⟩
 .rw[l t (e t d).1];exact h t (e t d).2
 .rintro⟨E,a,o,v,G,J,f,y,p,F,x,B,I,z,g⟩;refine⟨E,a,o,v,G,J,f,λt d=> ?_, ?_,F,C.trans x,B,I,s.trans z,⟨g.ev,λb r=>g.nw b r⟩⟩
  .rw[l t (e t d).1,y t (e t d).2]
  .rw[p];show w.drawn+1+D=w.drawn+(D+1);omega
def Sem.aaV(P:Program)(s:Sem V)(f:V->Sem β):∀(w:World) (d:Array Event),(s.bind f).runT P w d=match s.runT P w d with
  |(.ok a w1,nu)=>(f a).runT P w1 nu
  |(.halt h w1,nu)=>(.halt h w1,nu):=by
 induction s with
 |pure a=>intro w d;rfl
 |load m a k b=>
  intro w d;show(Sem.load m a λv=>(k v).bind f).runT P w d=_;rw[Sem.runT,Sem.runT];cases w.cell? a with
  |some v=>exact b v _ _
  |none=>
   dsimp only;cases w.farLoad P a (m ==.atomic) with
   |ok x=>exact b _ _ _
   |error x=>rfl
 |store m a v k b=>
  intro w d;by_cases g:(∀x,v ≠ .agg x)/\∀x,v ≠ .tuple x
  .show(Sem.store m a v (k.bind f)).runT P w d=_;rw[sb _ _ _ _ _ _ _ g.1 g.2,sb _ _ _ _ _ _ _ g.1 g.2];cases w.cell? a with
   |some u=>
    dsimp only;split
    .rfl
    .exact b _ _
   |none=>
    dsimp only;cases w.farStore P a v (m ==.atomic) with
    |ok x=>exact b _ _
    |error x=>rfl
  .have:(∃x,v=.agg x)\/∃x,v=.tuple x:=by
    by_cases j:∃x,v=.agg x
    .exact .inl j
    .by_cases i:∃x,v=.tuple x
     .exact .inr i
     .exact absurd ⟨λx e=>j ⟨x,e⟩,λx e=>i ⟨x,e⟩⟩ g
   rcases this with⟨x,rfl⟩|⟨x,rfl⟩<;>rfl
 |new o k b=>intro w d;exact b _ _ _
 |shape r k b=>intro w d;exact b _ _ _
 |freeze a n k b=>intro w d;exact b _ _
 |frozen a k b=>intro w d;exact b _ _ _
 |getObj r k b=>
  intro w d;show(Sem.getObj r λv=>(k v).bind f).runT P w d=_;rw[Sem.runT,Sem.runT];cases w.heap[r]? with
  |none=>rfl
  |some o=>cases o<;>first|rfl|exact b _ _ _
 |setObj r o k b=>
  intro w d;show(Sem.setObj r o (k.bind f)).runT P w d=_;rw[Sem.runT,Sem.runT];cases w.heap[r]? with
  |none=>rfl
  |some o=>cases o<;>first|rfl|exact b _ _
 |choose q k b=>
  intro w d;show(Sem.choose q λn=>(k n).bind f).runT P w d=_;rw[Sem.runT,Sem.runT];split<;>exact b _ _ _
 |sys c k b=>intro w d;exact b _ _ _
 |program k b=>intro w d;exact b _ _ _
 |mark m k b=>intro w d;exact b _ _
 |halt h=>intro w d;rfl
def ai0(P:Program)(c:Array Value)(t:TypeId)(k:Nat->Sem V)(w:World)(es:Array Event) :
  (Sem.new (.cells c t) λr=>(markStringish ⟨r,0,none⟩).bind λ_=>k r).runT P w es=(k w.heap.size).runT P {w with heap:=w.heap.push (.cells c t (c.size,c.size+1))} es:=by
 have b:({w with heap:=w.heap.push (.cells c t)}:World).shape? w.heap.size=some (t,c.size):=by
  unfold World.shape?;simp
 have a:({w with heap:=w.heap.push (.cells c t)}:World).freeze ⟨w.heap.size,c.size,none⟩ 1={w with heap:=w.heap.push (.cells c t (c.size,c.size+1))}:=by
  unfold World.freeze;rw[bv (by decide)]
  congr 1
  apply sF;intro j;simp only[pe,qD];by_cases e:j=w.heap.size
  .subst e;simp
  .rw[bv (sj e),bv e,bv e]
 show(Sem.shape w.heap.size λs=>(match s with
   |some (_,n)=>Go.freeze ⟨w.heap.size,n,none⟩ 1
   |_=>Pure.pure ()).bind λ_=>k w.heap.size).runT P {w with heap:=w.heap.push (.cells c t)} es=_
 rw[Sem.runT,b];show(Sem.freeze ⟨w.heap.size,c.size,none⟩ 1 (k w.heap.size)).runT P {w with heap:=w.heap.push (.cells c t)} es=_;rw[Sem.runT,a]
def axP{ρ:Ren}(D:WR ρ w w'):∀(n:Nat) (a f:Addr) (acc:ByteArray) (c d:Array Event),AR ρ a f->
  (∀t,∃h l m,(loadBytes a acc n).runT P (w.dN t) c=(.halt h l,m)/\fW w l)\/
  ∃s p g,(∀t,(loadBytes a acc n).runT P (w.dN t) c=(.ok s (w.dN t),c++p))/\(loadBytes f acc n).runT P' w' d=(.ok s w',d++g)/\EvW w ρ p g/\(0<n->∃k,w.cell? a=some (.int .u8 k)):=by
 have E:∀(c:Array Event) (x:Event),c.push x=c++#[x]:=λc x=>by simp
 intro n
 induction n with
 |zero=>exact λa f acc c d _=>.inr ⟨acc,#[],#[],λt=>by rw[rF];rfl,by rw[rF];rfl,.nil _ _,λh=>absurd h (Nat.lt_irrefl 0)⟩
 |succ n O=>
  intro a f acc c d r;have e:∀(P:Program) (a:Addr) (w:World) (c:Array Event),(loadBytes a acc (n+1)).runT P w c=(Sem.load .plain a λv=>match v with
    |.int .u8 b=>loadBytes (a.add 1) (acc.push b.toNat.toUInt8) n
    |_=>stuck "a byte variable that holds no byte").runT P w c:=λP a w c=>rfl
  cases A:w.cell? a with
  |none=>
   refine .inl λt=> ?_;have j:(w.dN t).cell? a=none:=A;obtain⟨x,B⟩:=((D.dN t).ak9 r P (Go.Mode.plain ==Go.Mode.atomic) j).1;refine⟨x,w.dN t,c, ?_,.refl _⟩;rw[e,Sem.runT,j];simp only[B]
  |some v=>
   obtain⟨G,z,N⟩:=D.cell r A;have y:∀t,(loadBytes a acc (n+1)).runT P (w.dN t) c=(match v with
    |.int .u8 b=>loadBytes (a.add 1) (acc.push b.toNat.toUInt8) n
    |_=>stuck "a byte variable that holds no byte").runT P (w.dN t) (c++#[(⟨.cell a,false,Go.Mode.plain ==Go.Mode.atomic⟩:Event)]):=λt=>by
    have j:(w.dN t).cell? a=some v:=A;rw[e,Sem.runT,j];simp only[E]
   have M:(loadBytes f acc (n+1)).runT P' w' d=(match G with
    |.int .u8 b=>loadBytes (f.add 1) (acc.push b.toNat.toUInt8) n
    |_=>stuck "a byte variable that holds no byte").runT P' w' (d++#[(⟨.cell f,false,Go.Mode.plain ==Go.Mode.atomic⟩:Event)]):=by
    rw[e,Sem.runT,z];simp only[E]
   have no:(∀b,v ≠ .int .u8 b)->∀t,∃h l m,(loadBytes a acc (n+1)).runT P (w.dN t) c=(.halt h l,m)/\fW w l:=λL t=>by
    refine⟨.stuck "a byte variable that holds no byte",w.dN t,c++#[(⟨.cell a,false,Go.Mode.plain ==Go.Mode.atomic⟩:Event)], ?_,.refl _⟩;rw[y];split
    .exact absurd rfl (L _)
    .rfl
   by_cases C:∃b,v=.int .u8 b
   .obtain⟨b,rfl⟩:=C;cases N;rcases O (a.add 1) (f.add 1) (acc.push b.toNat.toUInt8) (c++#[(⟨.cell a,false,Go.Mode.plain ==Go.Mode.atomic⟩:Event)]) (d++#[(⟨.cell f,false,Go.Mode.plain ==Go.Mode.atomic⟩:Event)]) (by cases r with|mk h o s=>exact .mk h _ _) with i|⟨s,p,g,K,H,F,R⟩
    .exact .inl λt=>by obtain⟨h,l,m,J,Q⟩:=i t;exact⟨h,l,m,(y t).trans J,Q⟩
    .refine .inr ⟨s,#[(⟨.cell a,false,Go.Mode.plain ==Go.Mode.atomic⟩:Event)]++p,#[(⟨.cell f,false,Go.Mode.plain ==Go.Mode.atomic⟩:Event)]++g,λt=>(y t).trans ((K t).trans (by rw[tX])),M.trans (H.trans (by rw[tX])),⟨?_,λq I x i=> ?_⟩,λ_=>⟨b,rfl⟩⟩
     .rw[pv,pv];exact mA.app (.cons (.mk (.cell r) _ _) .nil) F.ev
     .rw[pv,io] at i;rcases i with i|i
      .intro u;simp at i;subst i;cases u
      .exact F.nw q I x i
   .exact .inl (no λb e=>C ⟨b,e⟩)
def aw.run{A:Ren->V->β->Prop}{ρ:Ren}(h:aw P P' A ρ s s') :
  ∀(w p:World) (j f:Array Event),WR ρ w p->im P P' A ρ s s' w p j f:=by
 have N:∀(j:Array Event) (x:Event),j.push x=j++#[x]:=λj x=>Array.append_singleton.symm
 induction h with
 |pure x=>
  intro w p j f i;exact⟨w.tape,0,.inr ⟨_,_,w,_,p,#[],#[],λt _=>by unfold Sem.runT;rw[rF],rfl,Ren.Le.refl _,by unfold Sem.runT;rw[rF],x,i,Kept.refl _ _ _,.nil _ _⟩⟩
 |@load ρ m G E k K H J y=>
  intro w p j f i;cases D:w.cell? G with
  |none=>
   refine .no λt=> ?_;have C:(w.dN t).cell? G=none:=D;obtain⟨e,W⟩:=((i.dN t).ak9 H P (m ==.atomic) C).1;refine⟨e,w.dN t,j, ?_,.refl _⟩;rw[Sem.runT,C];simp only[W]
  |some v=>
   obtain⟨v',Y,hv⟩:=i.cell H D;refine im.step (y v v' hv w p _ _ i) (λt=> ?_) ?_ rfl (.refl _) (Ren.Le.refl _) (Kept.refl ρ w p) (e:=#[⟨.cell G,false,m ==.atomic⟩]) (e':=#[⟨.cell E,false,m ==.atomic⟩]) ⟨.cons (.mk (.cell H) _ _) .nil,λ_ _ e I L=>by simp at I;subst I;cases L⟩
   .have C:(w.dN t).cell? G=some v:=D;rw[Sem.runT,C];simp only[N]
   .rw[Sem.runT,Y];simp only[N]
 |@store ρ m G E v v' k K H hv J y=>
  intro w p j f i;by_cases B:(∀x,v ≠ .agg x)/\∀x,v ≠ .tuple x
  .have a1:(∀x,v' ≠ .agg x)/\∀x,v' ≠ .tuple x:=by
    constructor<;>(rintro x rfl;cases hv<;>first|exact B.1 _ rfl|exact B.2 _ rfl)
   cases D:w.cell? G with
   |none=>
    refine .no λt=> ?_;have C:(w.dN t).cell? G=none:=D;obtain⟨e,W⟩:=((i.dN t).ak9 H P (m ==.atomic) C).2 v;refine⟨e,w.dN t,j, ?_,.refl _⟩;rw[sb _ _ _ _ _ _ _ B.1 B.2,C];simp only[W]
   |some u=>
    cases O:w.frozen? G with
    |true=>
     refine .no λt=>⟨.unsupported (.unsafePointer "a write to bytes that a string shares"),w.dN t,j, ?_,.refl _⟩;have C:(w.dN t).cell? G=some u:=D;have a0:(w.dN t).frozen? G=true:=O;rw[sb _ _ _ _ _ _ _ B.1 B.2,C];simp only[a0,pr]
    |false=>
     obtain⟨u',Y, -⟩:=i.cell H D;refine im.step (y _ _ _ _ (i.setCell H hv)) (λt=> ?_) ?_ rfl (fW.setCell w _ v) (Ren.Le.refl _) (Kept.setCell w p H v v' (λU=>bJ.aiZ D O U rfl) (λhu=>hu.elim (λ⟨l,e⟩=>B.2 l e) λ⟨l,e⟩=>B.1 l e)) (e:=#[⟨.cell G,true,m ==.atomic⟩]) (e':=#[⟨.cell E,true,m ==.atomic⟩]) ⟨.cons (.mk (.cell H) _ _) .nil,λb U e I _=>by
      simp at I;subst I;refine⟨λa S=> ?_,λr S=>by cases S⟩;simp only[Loc.cell.injEq] at S;subst S;exact bJ.aiZ D O U⟩
     .have C:(w.dN t).cell? G=some u:=D;have a0:(w.dN t).frozen? G=false:=O;rw[sb _ _ _ _ _ _ _ B.1 B.2,C];simp only[a0,N];rfl
     .rw[sb _ _ _ _ _ _ _ a1.1 a1.2,Y];simp only[i.aoU H D O,N];rfl
  .have:(∃x,v=.agg x)\/∃x,v=.tuple x:=by
    by_cases M:∃x,v=.agg x
    .exact .inl M
    .by_cases R:∃x,v=.tuple x
     .exact .inr R
     .exact absurd ⟨λx e=>M ⟨x,e⟩,λx e=>R ⟨x,e⟩⟩ B
   rcases this with⟨x,rfl⟩|⟨x,rfl⟩<;>exact .no λt=>⟨_,w.dN t,j,by rw[Sem.runT],.refl _⟩
 |new Q J y=>
  intro w p j f i;obtain⟨σ,M,R,h3,h4⟩:=i.push Q;exact im.step0 (y σ _ _ M R _ _ _ _ h3) (λt=>by rw[Sem.runT];rfl) (by rw[Sem.runT]) rfl (fW.push w (OR.noD Q)) M h4
 |@shape ρ r T k K F J y=>
  intro w p j f i;refine im.step0 (y (w.shape? r) w p j f i) (λt=>by rw[Sem.runT];rfl) (by rw[Sem.runT,i.shape F]) rfl (.refl _) (Ren.Le.refl _) (Kept.refl _ _ _)
 |@anH ρ G E n k K H J y=>
  intro w p j f i;rcases axP (P:=P) (P':=P') i (n+1) G E .empty j f H with U|⟨s,us,a2,M,R,h3,h4⟩
  .refine .no λt=> ?_;obtain⟨h,w1,nu,e,hd⟩:=U t;exact⟨h,w1,nu,by rw[Sem.aaV,e],hd⟩
  .obtain⟨h5,h6⟩:=i.freeze H (n+1) (h4 (Nat.succ_pos n));refine im.step (y s _ _ (j++us) (f++a2) h5) (λt=> ?_) ?_ (by unfold World.freeze;split<;>rfl) (fW.freeze w _ (n+1)) (Ren.Le.refl _) h6 h3
   .rw[Sem.aaV,M t];dsimp only;rw[Sem.runT];unfold World.freeze;split<;>rfl
   .rw[Sem.aaV,R];dsimp only;rw[Sem.runT]
 |@aub ρ c c' t k K D J y=>
  intro w p j f i;have hz:c.size=c'.size:=by have:=D.length;simpa using this
  obtain⟨σ,M,R,h3,h4⟩:=i.push (o:=.cells c t (c.size,c.size+1)) (o':=.cells c' t (c'.size,c'.size+1)) (.cells D t (.inl (by rw[hz])));exact im.step0 (y σ _ _ M R _ _ _ _ h3) (λt=>by rw[ai0];rfl) (by rw[ai0]) rfl (fW.push w (o:=.cells c t (c.size,c.size+1)) (λd l e=>by cases e)) M h4
 |@frozen ρ G E k K H J y=>
  intro w p j f i;exact im.step0 (y (w.frozen? G) (p.frozen? E) (i.aoV H) w p j f i) (λt=>by rw[Sem.runT];rfl) (by rw[Sem.runT]) rfl (.refl _) (Ren.Le.refl _) (Kept.refl _ _ _)
 |@getObj ρ r T k K F J y=>
  intro w p j f i;obtain⟨o,o',g1,g2,Q⟩:=i.obj F;have Z:(∀c t z,o ≠ .cells c t z)->(∀c t z,o' ≠ .cells c t z)->o.isChan=o'.isChan->im P P' _ ρ (.getObj r k) (.getObj T K) w p j f:=λn1 n2 X=>by
   refine im.step (y o o' Q w p _ _ i) (λt=> ?_) ?_ rfl (.refl _) (Ren.Le.refl _) (Kept.refl ρ w p) (e:=#[⟨.obj r,false,o.isChan⟩]) (e':=#[⟨.obj T,false,o'.isChan⟩]) (by rw[X];exact⟨.cons (.mk (.obj F) _ _) .nil,λ_ _ e I L=>by simp at I;subst I;cases L⟩)
   .have g:(w.dN t).heap[r]?=some o:=g1;rw[Sem.runT,g];cases o<;>first|exact absurd rfl (n1 _ _ _)|simp only[N]
   .rw[Sem.runT,g2];cases o'<;>first|exact absurd rfl (n2 _ _ _)|simp only[N]
  cases Q with
  |cells D t hz=>
   refine .no λt=>⟨.stuck "getObj: a row of cells",w.dN t,j, ?_,.refl _⟩;have g:(w.dN t).heap[r]?=_:=g1;rw[Sem.runT,g]
  |map|stringIter|number|mapIter|loop|bI|deferred=>exact Z (λ_ _ _ h=>by cases h) (λ_ _ _ h=>by cases h) rfl
 |@setObj ρ r T o o' k K F Q J y=>
  intro w p j f i;obtain⟨x,x',g1,g2,hx⟩:=i.obj F;have X:o.isChan=o'.isChan:=by cases Q<;>rfl
  have Z:(∀c t z,x ≠ .cells c t z)->(∀c t z,x' ≠ .cells c t z)->im P P' _ ρ (.setObj r o k) (.setObj T o' K) w p j f:=λn1 n2=>by
   obtain⟨q1,q2⟩:=i.set F Q λc t z e=>by rw[g1] at e;exact n1 c t z (ef e)
   refine im.step (y _ _ _ _ q1) (λt=> ?_) ?_ rfl (fW.set w r (OR.noD Q)) (Ren.Le.refl _) q2 (e:=#[⟨.obj r,true,o.isChan⟩]) (e':=#[⟨.obj T,true,o'.isChan⟩]) (by rw[X];exact⟨.cons (.mk (.obj F) _ _) .nil,λb U e I _=>by
    simp at I;subst I;refine⟨λa S=>(by cases S),λq S=> ?_⟩;cases S;rintro rfl;obtain⟨c,t,z,D, -⟩:=U;rw[g1] at D;exact n1 _ _ _ (ef D)⟩)
   .have g:(w.dN t).heap[r]?=some x:=g1;rw[Sem.runT,g];cases x<;>first|exact absurd rfl (n1 _ _ _)|(simp only[N];rfl)
   .rw[Sem.runT,g2];cases x'<;>first|exact absurd rfl (n2 _ _ _)|simp only[N]
  cases hx with
  |cells D t hz=>
   refine .no λt=>⟨.stuck "setObj: a row of cells",w.dN t,j, ?_,.refl _⟩;have g:(w.dN t).heap[r]?=_:=g1;rw[Sem.runT,g]
  |map|stringIter|number|mapIter|loop|bI|deferred=>exact Z (λ_ _ _ h=>by cases h) (λ_ _ _ h=>by cases h)
 |choose q J y=>
  intro w p j f i;cases O:q.forced with
  |true=>exact im.step0 (y 0 w p j f i) (λt=>by rw[Sem.runT,O,dj rfl]) (by rw[Sem.runT,O,dj rfl]) rfl (.refl _) (Ren.Le.refl _) (Kept.refl _ _ _)
  |false=>
   obtain⟨q1,q2⟩:=i.ask 1 1;exact im.draw (p.tape p.drawn q) O (y _ _ _ j f q1) (by rw[Sem.runT,O,bv (by simp)]) q2
 |abu q n hq J y=>
  intro w p j f i;obtain⟨q1,q2⟩:=i.ask 1 0;exact im.draw n hq (y _ _ j f q1) rfl q2
 |@aeh ρ s E K J y=>
  intro w p j f i;exact im.step0 (y (p.frozen? E) w p j f i) (λt=>rfl) (by rw[Sem.runT]) rfl (.refl _) (Ren.Le.refl _) (Kept.refl _ _ _)
 |@ahJ ρ s T K J y=>
  intro w p j f i;exact im.step0 (y (p.shape? T) w p j f i) (λt=>rfl) (by rw[Sem.runT]) rfl (.refl _) (Ren.Le.refl _) (Kept.refl _ _ _)
 |program J y=>
  intro w p j f i;exact im.step0 (y w p j f i) (λt=>by rw[Sem.runT]) (by rw[Sem.runT]) rfl (.refl _) (Ren.Le.refl _) (Kept.refl _ _ _)
 |@mark ρ m m' k K hm J y=>
  intro w p j f i;exact im.step (y w p _ _ i) (λt=>by rw[Sem.runT,N]) (by rw[Sem.runT,N]) rfl (.refl _) (Ren.Le.refl _) (Kept.refl _ w p) (e:=#[⟨.mark m,false,true⟩]) (e':=#[⟨.mark m',false,true⟩]) ⟨.cons (.mk (.mark hm) _ _) .nil,λ_ _ e I L=>by simp at I;subst I;cases L⟩
 |halt h s=>
  intro w p j f i;exact .no λt=>⟨h,w.dN t,j,by rw[Sem.runT],.refl _⟩
 |dead h s=>
  intro w p j f i;exact .no λt=>Leaves.awG h (w.dN t) j
def aga :∀s:Sem V,s.bind .pure=s:=by
 intro s
 induction s with
 |pure a=>rfl
 |halt h=>rfl
 |load m a k b=>exact gn (Sem.load m a) (funext b)
 |store m a v k b=>exact gn (Sem.store m a v) b
 |new o k b=>exact gn (Sem.new o) (funext b)
 |shape r k b=>exact gn (Sem.shape r) (funext b)
 |freeze a n k b=>exact gn (Sem.freeze a n) b
 |frozen a k b=>exact gn (Sem.frozen a) (funext b)
 |getObj r k b=>exact gn (Sem.getObj r) (funext b)
 |setObj r o k b=>exact gn (Sem.setObj r o) b
 |choose q k b=>exact gn (Sem.choose q) (funext b)
 |sys c k b=>exact gn (Sem.sys c) (funext b)
 |program k b=>exact gn Sem.program (funext b)
 |mark m k b=>exact gn (Sem.mark m) b
def aey{d : Type}(f:V->Sem β)(g:β->Sem d):∀s:Sem V,(s.bind f).bind g=s.bind λa=>(f a).bind g:=by
 intro s
 induction s with
 |pure a=>rfl
 |halt h=>rfl
 |load m a k b=>exact gn (Sem.load m a) (funext b)
 |store m a v k b=>exact gn (Sem.store m a v) b
 |new o k b=>exact gn (Sem.new o) (funext b)
 |shape r k b=>exact gn (Sem.shape r) (funext b)
 |freeze a n k b=>exact gn (Sem.freeze a n) b
 |frozen a k b=>exact gn (Sem.frozen a) (funext b)
 |getObj r k b=>exact gn (Sem.getObj r) (funext b)
 |setObj r o k b=>exact gn (Sem.setObj r o) b
 |choose q k b=>exact gn (Sem.choose q) (funext b)
 |sys c k b=>exact gn (Sem.sys c) (funext b)
 |program k b=>exact gn Sem.program (funext b)
 |mark m k b=>exact gn (Sem.mark m) b
instance azK:LawfulMonad Sem:=LawfulMonad.mk' Sem (λs=>aga s) (λ_ _=>rfl) (λs f g=>aey f g s)
end
section
open Go
def azP(P:Program)(o o':Oper):Prop:=(o=o'/\mz P gA gL o.op=true)\/(aau gA gL o'.op=true/\o={o' with type:=gB})
def aqU(P:Program)(ops ops':Array Oper):Prop:=ops.size=ops'.size/\∀(i:Nat) (o a:Oper),ops[i]?=some o->ops'[i]?=some a->azP P o a
structure FnR (hole:Bool) (fn dt:Func):Prop where
 name:dt.name=fn.name
 azQ:(fn.name == "runtime.NumGoroutine")=false
 norace:dt.norace=fn.norace
 ntmps:dt.ntmps=fn.ntmps
 results:dt.results=fn.results
 none:fn.body=none->dt=fn
 some:∀c,fn.body=some c->∃c',dt.body=some c'/\(hole=false->c=gP c')
structure Twin (P P':Program):Prop where
 info:∀t,P'.info? t=P.info? t
 under:∀t,P'.underlying t=P.underlying t
 rt:P'.rt=P.rt
 depth:P'.depth=P.depth
 globals:P.globals.size=gN/\P'.globals.size=gN
 zero:∀t i v,P.info? t=some i->i.zero=some v->∀ρ:Ren,VR ρ v v
 stood:∀t,P'.stoodInHeld t=P.stoodInHeld t
 awH:P'.types.size=P.types.size
 cellAt:∀d e c o b,cellAtBytes P' d e c o b=cellAtBytes P d e c o b
 lies:∀d e c o u n,liesAt P' d e c o u n=liesAt P d e c o u n
 ala:∀d t,P'.eqGuardType d t=P.eqGuardType d t
 follows:∀d,P'.follows d=P.follows d
 pc:gP=bQ P gA gL gB
 auc:∀e,P.underlying gB≠some (.pointer e)
 func:∀f fn,P.funcs[f]?=some fn->∃dt,P'.funcs[f]?=some dt/\FnR (gH f) fn dt
 ai1:P'.funcs.size=P.funcs.size
 nB:P.follows .staticDataAhead=true/\∀g,P.stepOf g=none
def bU.kI{ρ:Ren}:∀{l:List Value},(∀v∈l,VR ρ v v)->bU ρ l l
 |[],_=>.nil
 |_::_,h=>.cons (h _ (by simp)) (bU.kI λv a=>h v (by simp[a]))
def VR.cells{ρ:Ren}(h:VR ρ v v'):bU ρ v.cells.toList v'.cells.toList:=by
 cases h with
 |agg h=>exact h
 |bool b=>exact .cons (.bool b) .nil
 |int k n=>exact .cons (.int k n) .nil
 |string s=>exact .cons (.string s) .nil
 |pointer x=>exact .cons (.pointer x) .nil
 |slice x l c=>exact .cons (.slice x l c) .nil
 |map x=>exact .cons (.map x) .nil
 |chan x=>exact .cons (.chan x) .nil
 |func f x y=>exact .cons (.func f x y) .nil
 |nilFunc=>exact .cons .nilFunc .nil
 |iface t x=>exact .cons (.iface t x) .nil
 |nilIface=>exact .cons .nilIface .nil
 |tuple x=>exact .cons (.tuple x) .nil
 |fV a h=>cases v'<;>first|(cases h;done)|exact .cons (.fV a h) .nil
 |abt k a=>exact .cons (.abt k a) .nil
def bU.size{ρ:Ren}(h:bU ρ c.toList Z.toList):c.size=Z.size:=by simpa using h.length
def bU.extract{ρ:Ren}(h:bU ρ c.toList Z.toList)(i j:Nat):bU ρ (c.extract i j).toList (Z.extract i j).toList:=by
 have hd:∀{l d:List Value},bU ρ l d->∀n,bU ρ (l.drop n) (d.drop n):=by
  intro l d h
  induction l generalizing d with
  |nil=>cases h;intro n;simp;exact .nil
  |cons x l e=>
   cases h with
   |cons a b=>
    intro n;cases n with
    |zero=>exact .cons a b
    |succ n=>exact e b n
 have f:∀{l d:List Value},bU ρ l d->∀n,bU ρ (l.take n) (d.take n):=by
  intro l d h
  induction l generalizing d with
  |nil=>cases h;intro n;simp;exact .nil
  |cons x l e=>
   cases h with
   |cons a b=>
    intro n;cases n with
    |zero=>exact .nil
    |succ n=>exact .cons a (e b n)
 rw[tL,tL];unfold List.extract;exact f (hd h i) _
def AR.add{ρ:Ren}(h:AR ρ a Y)(n:Nat):AR ρ (a.add n) (Y.add n):=by
 obtain⟨b,o,s⟩:=h;unfold Addr.add;by_cases e:n=0
 .rw[dj e,dj e];exact .mk b o s
 .rw[bv e,bv e];exact .mk b _ none
def jF{α:Type}(_:Ren)(a b:α):Prop:=a=b
def dm(ρ:Ren)(c c':Array Value):Prop:=bU ρ c.toList c'.toList
section
variable {P P':Program} {α β γ δ:Type} {A:Ren->α->β->Prop} {B:Ren->γ->δ->Prop} {ρ:Ren}
def aj{a:α}{b:β}(h:A ρ a b):aw P P' A ρ (pure a:Sem α) (pure b:Sem β):=.pure h
def ah{s:Sem α}{s':Sem β}{f:α->Sem γ}{f':β->Sem δ}(h:aw P P' A ρ s s')(d:∀b a c,ρ.Le b->A b a c->aw P P' B b (f a) (f' c)):aw P P' B ρ (s >>=f) (s' >>=f'):=aw.bind h d
def anI(w:String)(s:Sem β):aw P P' A ρ (stuck w) s:=.halt _ _
def aud(w:Unsupported)(s:Sem β):aw P P' A ρ (unsupported w) s:=.halt _ _
def aqV(m:Mode)(h:AR ρ a Y):aw P P' VR ρ (load a m) (load Y m):=.load m h λ_ _ b=>.pure b
def agC(h:OR ρ o o'):aw P P' (λa=>a.r) ρ (newObj o) (newObj o'):=.new h λ_ _ _ _ b=>.pure b
def lU(h:ρ.r r R):aw P P' jF ρ (shape r) (shape R):=.shape h λ_=>.pure rfl
def eO(h:ρ.r r R):aw P P' OR ρ (getObj r) (getObj R):=.getObj h λ_ _ a=>.pure a
def iL(h:ρ.r r R)(a:OR ρ o o'):aw P P' jF ρ (setObj r o) (setObj R o'):=.setObj h a (.pure rfl)
def iM(q:Question):aw P P' jF ρ (choose q) (choose q):=.choose q λ_=>.pure rfl
def dg:aw P P' (λ_ p a=>p=P/\a=P') ρ program program:=.program (.pure ⟨rfl,rfl⟩)
def aqW{m m':Mark}(h:MkR ρ m m'):aw P P' jF ρ (mark m) (mark m'):=.mark h (.pure rfl)
def alb(n:Nat):aw P P' jF ρ (askRoom n) (askRoom n):=by
 unfold askRoom;split
 .exact aqW .noRoom
 .exact aj rfl
variable (T:Twin P P')
include T
theorem dO(t:TypeId):aw P P' (λ_ a b=>a=b/\P.info? t=some a) ρ (typeInfo t) (typeInfo t):=by
 unfold typeInfo;refine ah dg λe p d _ c=> ?_;obtain⟨rfl,rfl⟩:=c;rw[T.info];cases h:p.info? t with
 |some i=>exact aj ⟨rfl,rfl⟩
 |none=>exact anI _ _
theorem aF(t:TypeId):aw P P' (λ_ a b=>a=b/\P.underlying t=some a) ρ (underlying t) (underlying t):=by
 unfold underlying;refine ah dg λe p d _ c=> ?_;obtain⟨rfl,rfl⟩:=c;rw[T.under];cases h:p.underlying t with
 |some i=>exact aj ⟨rfl,rfl⟩
 |none=>exact anI _ _
theorem aaW(t:TypeId):aw P P' VR ρ (zeroValue t) (zeroValue t):=by
 unfold zeroValue;refine ah (dO T t) λb i c _ a=> ?_;obtain⟨rfl,a⟩:=a;cases h:i.zero with
 |some v=>exact aj (T.zero t i v a h b)
 |none=>exact aud _ _
theorem fN(t:TypeId):aw P P' jF ρ (sizeOf t) (sizeOf t):=by
 unfold sizeOf;refine ah (dO T t) λc i b _ a=> ?_;obtain⟨rfl,a⟩:=a;exact aj rfl
theorem anJ(t:TypeId):aw P P' jF ρ (isAgg t) (isAgg t):=by
 unfold isAgg;refine ah (aF T t) λc i b _ a=> ?_;obtain⟨rfl,a⟩:=a;cases i<;>exact aj rfl
omit T in
theorem aez{a d:Addr}(h:AR ρ a d):∀(n i:Nat) {c b:Array Value},dm ρ c b->aw P P' dm ρ (loadCellsFrom a i n c) (loadCellsFrom d i n b)
 |0,i,c,b,hc=>aj hc
 |n+1,i,c,b,hc=>by
  unfold loadCellsFrom;refine .load .plain (h.add i) λv f e=> ?_;exact aez h n (i+1) (by unfold dm;rw[rN,rN];exact bU.app hc (.cons e .nil))
omit T in
theorem oY(h:AR ρ a Y)(n:Nat):aw P P' dm ρ (loadCells a n) (loadCells Y n):=aez h n 0 .nil
omit T in
theorem iN{a b:Addr}(h:AR ρ a b):∀{l c:List Value} (i:Nat),bU ρ l c->aw P P' jF ρ (storeCells a l i) (storeCells b c i)
 |_,_,_,.nil=>aj rfl
 |_,_,i,.cons x y=>by
  unfold storeCells;exact .store .plain (h.add i) x (iN h (i+1) y)
theorem agD(t:TypeId)(h:AR ρ a Y):aw P P' VR ρ (loadVar t a) (loadVar t Y):=by
 unfold loadVar;refine ah (anJ T t) λo b f d i=> ?_;obtain rfl:b=f:=i;cases b with
 |true=>
  refine ah (fN T t) λm n e g j=> ?_;obtain rfl:n=e:=j;exact ah (oY (h.mono (d.trans g)) n) λ_ c l _ k=>aj (.agg k)
 |false=>exact aqV _ (h.mono d)
theorem alc(t:TypeId)(h:AR ρ a Y)(b:VR ρ v v'):aw P P' jF ρ (storeVar t a v) (storeVar t Y v'):=by
 unfold storeVar;refine ah (fN T t) λi n d c f=> ?_;obtain rfl:n=d:=f;have g:=b.cells.size;by_cases e:v.cells.size≠n
 .rw[dj e];exact .halt _ _
 .rw[bv e,bv (by rw[<-g];exact e)];exact iN (h.mono c) 0 (b.mono c).cells
omit T in
theorem oZ(t:TypeId)(h:dm ρ c Z):aw P P' AR ρ (newRow t c) (newRow t Z):=by
 unfold newRow;exact ah (agC (.cells h t (.inl rfl))) λ_ r b _ a=>aj (.mk a 0 none)
omit T in
theorem ai2(t:TypeId)(h:VR ρ v v'):aw P P' AR ρ (newVar t v) (newVar t v'):=oZ t h.cells
theorem mB(t:TypeId)(h:dm ρ c Z)(n:Nat):aw P P' VR ρ (part t c n) (part t Z n):=by
 unfold part;refine ah (anJ T t) λr b e d f=> ?_;obtain rfl:b=e:=f;cases b with
 |true=>
  refine ah (fN T t) λq m j g k=> ?_;obtain rfl:m=j:=k;exact aj (.agg ((bU.mono (d.trans g) h).extract _ _))
 |false=>
  cases o:c[n]? with
  |none=>exact .halt _ _
  |some v=>
   obtain⟨p,a,l⟩:=bU.get h (i:=n) (v:=v) (by rw[eg];exact o);rw[eg] at a;rw[a];exact aj (l.mono d)
end
end
section
open Go
section
variable {P P':Program} {α β γ δ:Type} {A:Ren->α->β->Prop} {B:Ren->γ->δ->Prop} {ρ:Ren}
def aS{c:Prop}[Decidable c]{s t:Sem α}{s' a:Sem β}(b:c->aw P P' A ρ s s')(d:¬c->aw P P' A ρ t a):aw P P' A ρ (if c then s else t) (if c then s' else a):=by
 split
 .exact b (by assumption:_)
 .exact d (by assumption:_)
def kY(h:VR ρ v v'):aw P P' AR ρ (Instr.sureAddr v) (Instr.sureAddr v'):=by
 cases h with
 |pointer h=>
  cases h with
  |none=>exact .halt _ _
  |some h=>exact aj h
 |_=>exact .halt _ _
def aab(h:VR ρ v v'):aw P P' jF ρ (asIntOf v) (asIntOf v'):=by
 cases h with
 |int k n=>exact aj rfl
 |pointer h=>cases h<;>exact .halt _ _
 |_=>exact .halt _ _
def abv(h:VR ρ v v'):aw P P' jF ρ (asInt v) (asInt v'):=by
 unfold asInt;refine ah (aab h) λc x a _ b=> ?_;obtain rfl:x=a:=b;exact aj rfl
def aeA(h:VR ρ v v'):aw P P' jF ρ (asBool v) (asBool v'):=by
 cases h with
 |bool b=>exact aj rfl
 |_=>exact .halt _ _
def aue(h:VR ρ v v'):aw P P' dm ρ (asAgg v) (asAgg v'):=by
 cases h with
 |agg h=>exact aj h
 |_=>exact .halt _ _
variable (T:Twin P P')
include T
theorem auf(t:TypeId):aw P P' VR ρ (Instr.alloc t true (.tuple #[])) (Instr.alloc t true (.tuple #[])):=by
 unfold Instr.alloc;refine ah (aaW T t) λf z e _ c=> ?_;exact ah (ai2 t c) λ_ a d _ b=>aj (.pointer (.some b))
omit T in
theorem azR(t:TypeId)(h:VR ρ v v'):aw P P' VR ρ (Instr.box t v) (Instr.box t v'):=by
 unfold Instr.box;exact ah (ai2 t h) λ_ a c _ b=>aj (.pointer (.some b))
theorem aqX(t:TypeId)(h:VR ρ v v'):aw P P' VR ρ (Instr.loadAt t v) (Instr.loadAt t v'):=by
 unfold Instr.loadAt;exact ah (kY h) λ_ a c _ b=>agD T t b
theorem aoW(t:TypeId){u : Value}(h:VR ρ v v')(c:VR ρ u W):aw P P' jF ρ (Instr.storeAt t v u) (Instr.storeAt t v' W):=by
 unfold Instr.storeAt;exact ah (kY h) λ_ a e d b=>alc T t b (c.mono d)
theorem aug(t:TypeId)(h:VR ρ v v')(f:Nat):aw P P' VR ρ (Instr.field t v f) (Instr.field t v' f):=by
 unfold Instr.field;refine ah (aF T t) λl d j b hd=> ?_;obtain⟨rfl, -⟩:=hd;cases d with
 |struct a=>
  simp only;cases i:a[f]? with
  |none=>exact .halt _ _
  |some g=>exact ah (aue (h.mono b)) λ_ c k _ e=>mB T g.type e g.offset
 |_=>exact .halt _ _
omit T in
theorem aoX(h:VR ρ v v')(i:Nat):aw P P' VR ρ (Instr.extract v i) (Instr.extract v' i):=by
 cases h with
 |@tuple c e h=>
  unfold Instr.extract;simp only;cases d:c[i]? with
  |none=>exact .halt _ _
  |some v=>
   obtain⟨v',a,b⟩:=bU.get h (i:=i) (v:=v) (by rw[eg];exact d);rw[eg] at a;rw[a];exact aj b
 |_=>exact .halt _ _
omit T in
theorem ald{f f':Fn}(b:FR ρ f f'){a : Array Value}(h:dm ρ a Z)(d:dm ρ c G):aw P P' VR ρ (Instr.makeFunc f a c) (Instr.makeFunc f' Z G):=aj (.func b h d)
theorem adX(t:TypeId)(h:VR ρ v v'):aw P P' VR ρ (Instr.makeInterface t v) (Instr.makeInterface t v'):=by
 unfold Instr.makeInterface;refine ah (aF T t) λc d b a hd=> ?_;obtain⟨rfl, -⟩:=hd;cases d<;>first|exact .halt _ _|exact aj (.iface t (h.mono a))
omit T in
theorem ale(t:TypeId):aw P P' VR ρ (Instr.makeMap t none) (Instr.makeMap t none):=by
 unfold Instr.makeMap;exact ah (agC (.map .nil 0)) λ_ r b _ a=>aj (.map (.some a))
omit T in
theorem aqY(x y:Int)(s:Bool)(c:BoundsCode):aw P P' A ρ (runtimePanic (.bounds x y s c)) (runtimePanic (.bounds x y s c)):=by
 unfold runtimePanic;exact ah dg λa p b _ _=>.halt _ _
omit T in
theorem dP(m:String):aw P P' A ρ (runtimePanic (.error m)) (runtimePanic (.error m)):=by
 unfold runtimePanic;exact ah dg λa p b _ _=>.halt _ _
omit T in
theorem aqZ:aw P P' A ρ (runtimePanic .nilDeref) (runtimePanic .nilDeref):=by
 unfold runtimePanic;exact ah dg λa p b _ _=>.halt _ _
omit T in
theorem acN{α:Type}(k:IntKind)(x y:Int)(c:BoundsCode):(boundsPanic k x y c:Sem α)=((if k !=.u64&&0<=x&&x<=31 then(· ==1) <$> choose (.extern "runtime.boundsError.signed" 2) else pure (k !=.u64)) >>=λa=>runtimePanic (.bounds (IntKind.i64.wrap x) y a c)):=by
 unfold boundsPanic;dsimp only;split<;>rfl
omit T in
theorem pd(b:Bool)(n m:Nat)(l h x:Option Value):Instr.sliceBounds b n m l h x=((match x with
  |some v=>Instr.sliceBound v m (if b then .slice3Acap else .slice3Alen)
  |none=>pure m) >>=λm=>(match h,x with
  |some v,some _=>Instr.sliceBound v m .slice3B
  |some v,none=>Instr.sliceBound v m (if b then .sliceAcap else .sliceAlen)
  |none,none=>pure n
  |none,some _=>stuck "Slice: max without high") >>=λh=>(match l with
  |some v=>Instr.sliceBound v h (if x.isSome then .slice3C else .sliceB)
  |none=>pure 0) >>=λl=>pure (l,h,m)):=by
 unfold Instr.sliceBounds;cases l<;>cases h<;>cases x<;>rfl
omit T in
theorem pg(k:IntKind)(x y:Int)(c:BoundsCode):aw P P' A ρ (boundsPanic k x y c) (boundsPanic k x y c):=by
 rw[acN,acN];refine ah (A:=jF) ?_ λe b a _ d=> ?_
 .refine aS (λ_=> ?_) (λ_=>aj rfl);exact .choose _ λn=>.pure rfl
 .obtain rfl:b=a:=d;exact aqY _ _ _ _
omit T in
theorem ai3(h:VR ρ v v'):aw P P' AR ρ (asAddr v) (asAddr v'):=by
 cases h with
 |pointer h=>
  cases h with
  |none=>exact aqZ
  |some h=>exact aj h
 |_=>exact .halt _ _
omit T in
theorem kJ(h:VR ρ v v')(y:Nat)(c:BoundsCode):aw P P' jF ρ (Instr.sliceBound v y c) (Instr.sliceBound v' y c):=by
 unfold Instr.sliceBound;refine ah (aab h) λd x a _ b=> ?_;obtain rfl:x=a:=b;exact aS (λ_=>aj rfl) λ_=>pg _ _ _ _
inductive OVR (ρ:Ren):Option Value->Option Value->Prop
 |none:OVR ρ none none
 |some {a a':Value} (h:VR ρ a a'):OVR ρ (some a) (some a')
omit T in
theorem OVR.mono{ρ b:Ren}(h:ρ.Le b){a : Option Value}:OVR ρ a M->OVR b a M
 |.none=>.none
 |.some x=>.some (x.mono h)
omit T in
theorem jG(b:Bool)(n m:Nat){h x : Option Value}(f:OVR ρ l l')(c:OVR ρ h M)(a:OVR ρ x K):aw P P' jF ρ (Instr.sliceBounds b n m l h x) (Instr.sliceBounds b n m l' M K):=by
 rw[pd,pd];refine ah (A:=jF) ?_ λy p d i r=> ?_
 .cases a with
  |none=>exact aj rfl
  |some a=>exact kJ a _ _
 obtain rfl:p=d:=r;refine ah (A:=jF) ?_ λv k g j o=> ?_
 .cases c with
  |none=>
   cases a with
   |none=>exact aj rfl
   |some a=>exact .halt _ _
  |some c=>
   cases a with
   |none=>exact kJ (c.mono i) _ _
   |some a=>exact kJ (c.mono i) _ _
 obtain rfl:k=g:=o;have q:x.isSome=K.isSome:=by cases a<;>rfl
 refine ah (A:=jF) ?_ λu t e w s=> ?_
 .cases f with
  |none=>exact aj rfl
  |some f=>simp only[q];exact kJ (f.mono (i.trans j)) _ _
 obtain rfl:t=e:=s;exact aj rfl
theorem auh(t:TypeId)(h:VR ρ v v'){x : Option Value}(r:OVR ρ l l')(w:OVR ρ u M)(A:OVR ρ x K):aw P P' VR ρ (Instr.slice t v l u x) (Instr.slice t v' l' M K):=by
 unfold Instr.slice;refine ah (aF T t) λG d F f hd=> ?_;obtain⟨rfl, -⟩:=hd;have H:x.isSome=K.isSome:=by cases A<;>rfl
 cases d with
 |string=>
  cases h with
  |string s=>
   simp only[H];cases K.isSome with
   |true=>exact .halt _ _
   |false=>
    refine ah (jG _ _ _ (r.mono f) (w.mono f) .none) λD b k _ e=> ?_;obtain rfl:b=k:=e;exact aj (.string _)
  |_=>exact .halt _ _
 |slice e=>
  cases h with
  |slice i n c=>
   refine ah (jG _ _ _ (r.mono f) (w.mono f) (A.mono f)) λD b k p e=> ?_;obtain rfl:b=k:=e;refine ah (fN T _) λE z q j e=> ?_;obtain rfl:z=q:=e;refine aj (.slice ?_ _ _);split
   .exact i.mono (f.trans (p.trans j))
   .cases i with
    |none=>exact .none
    |some i=>exact .some ((i.mono (f.trans (p.trans j))).add _)
  |_=>exact .halt _ _
 |pointer g=>
  have o:aw P P' VR G (do
    let a<-asAddr v
    let .array n elem<-underlying g|stuck "Slice: array type expected"
    let(l,h,m)<-Instr.sliceBounds false n n l u x
    let size<-sizeOf elem
    pure (.slice (some (if m=l then a else a.add (l*size))) (h-l) (m-l))) (do
    let a<-asAddr v'
    let .array n elem<-underlying g|stuck "Slice: array type expected"
    let(l,h,m)<-Instr.sliceBounds false n n l' M K
    let size<-sizeOf elem
    pure (.slice (some (if m=l then a else a.add (l*size))) (h-l) (m-l))):=by
   refine ah (ai3 (h.mono f)) λD a L p i=> ?_;refine ah (aF T g) λE d F j hd=> ?_;obtain⟨rfl, -⟩:=hd;cases d with
   |array n e=>
    have y:=f.trans (p.trans j);refine ah (jG _ _ _ (r.mono y) (w.mono y) (A.mono y)) λI b k C e=> ?_;obtain rfl:b=k:=e;refine ah (fN T _) λJ z q B e=> ?_;obtain rfl:z=q:=e;refine aj (.slice (.some ?_) _ _);split
    .exact i.mono (j.trans (C.trans B))
    .exact(i.mono (j.trans (C.trans B))).add _
   |_=>exact .halt _ _
  cases h<;>exact o
 |_=>cases h<;>exact .halt _ _
theorem aui(t:TypeId)(h:VR ρ v v')(hi:VR ρ i W):aw P P' VR ρ (Instr.index t v i) (Instr.index t v' W):=by
 unfold Instr.index;refine ah (aab hi) λm x j c g=> ?_;obtain rfl:x=j:=g;refine ah (aF T t) λl d k b hd=> ?_;obtain⟨rfl, -⟩:=hd;cases d with
 |array n e=>
  cases h with
  |agg h=>
   refine aS (λ_=> ?_) (λ_=>pg _ _ _ _);refine ah (fN T _) λo z f a e=> ?_;obtain rfl:z=f:=e;exact mB T _ (bU.mono (c.trans (b.trans a)) h) _
  |_=>exact .halt _ _
 |string=>
  cases h with
  |string s=>
   simp only;split
   .exact aj (.int _ _)
   .exact pg _ _ _ _
  |_=>exact .halt _ _
 |_=>cases h<;>exact .halt _ _
end
end
section
open Go
section
variable {P P':Program} {α β γ δ:Type} {A:Ren->α->β->Prop} {B:Ren->γ->δ->Prop} {ρ:Ren}
variable (T:Twin P P')
include T
theorem aoY(t:TypeId)(f:Nat)(q:∀c g i,P.underlying t=some (.struct c)->c[f]?=some g->P.info? g.type=some i->i.size≠0)(h:VR ρ v v'):aw P P' VR ρ (Instr.fieldAt t v f) (Instr.fieldAt t v' f):=by
 unfold Instr.fieldAt;refine ah (aF T t) λE d D w hd=> ?_;obtain⟨rfl,hd⟩:=hd;cases d with
 |struct c=>
  simp only;cases r:c[f]? with
  |none=>exact .halt _ _
  |some g=>
   refine ah (kY (h.mono w)) λs a l B z=> ?_;refine ah (A:=AR) ?_ λo b C _ n=>aj (.pointer (.some n));unfold fieldPlace sizeOf;have j:aw P P' AR s (typeInfo g.type >>=λi=>if i.size=0 then partAt a g.offset g.byteOffset else pure (a.add g.offset)) (typeInfo g.type >>=λi=>if i.size=0 then partAt l g.offset g.byteOffset else pure (l.add g.offset)):=by
    refine ah (dO T g.type) λo i F u k=> ?_;obtain⟨rfl,k⟩:=k;have m:=q c g i hd r k;rw[bv m,bv m];exact aj ((z.mono u).add _)
   have e:∀x:Addr,((do let y<-(do pure (<-typeInfo g.type).size);if y=0 then partAt x g.offset g.byteOffset else pure (x.add g.offset)):Sem Addr)=(typeInfo g.type >>=λi=>if i.size=0 then partAt x g.offset g.byteOffset else pure (x.add g.offset)):=by
    intro x;unfold typeInfo;show Sem.bind (Sem.bind (Sem.bind program _) _) _=Sem.bind (Sem.bind program _) _;unfold program;simp only[Sem.bind]
    congr 1
    funext p
    cases p.info? g.type<;>rfl
   rw[e,e];exact j
 |_=>exact .halt _ _
theorem aoZ(t:TypeId)(h:VR ρ v v')(hi:VR ρ i W):aw P P' VR ρ (Instr.indexAt t v i) (Instr.indexAt t v' W):=by
 unfold Instr.indexAt;refine ah (aab hi) λE x u q A=> ?_;obtain rfl:x=u:=A;refine ah (aF T t) λτ d y o hd=> ?_;obtain⟨rfl, -⟩:=hd;have tail:∀(g:Ren),τ.Le g->∀{b k:Option Addr} (n:Nat) (e:TypeId),OAR g b k->
   aw P P' VR g (do
    let(base,len,elem):=(b,n,e)
    let f:=len<=1&&(match<-underlying t with|.array .. =>true|_=>false)
    match base with
    |some a=>
     if 0<=x.2/\x.2<len then pure (.pointer (some (a.add (x.2.toNat*(<-sizeOf elem)))))
     else if f then unsupported (.noEntry "op/indexAddr.an index out of range at an array of length 0 or 1 (ledger 616)")
     else boundsPanic x.1 x.2 len .index
    |none=>boundsPanic x.1 x.2 0 .index) (do
    let(base,len,elem):=(k,n,e)
    let f:=len<=1&&(match<-underlying t with|.array .. =>true|_=>false)
    match base with
    |some a=>
     if 0<=x.2/\x.2<len then pure (.pointer (some (a.add (x.2.toNat*(<-sizeOf elem)))))
     else if f then unsupported (.noEntry "op/indexAddr.an index out of range at an array of length 0 or 1 (ledger 616)")
     else boundsPanic x.1 x.2 len .index
    |none=>boundsPanic x.1 x.2 0 .index):=by
  intro g p b k n e l;dsimp only;refine ah (aF T t) λB d y w hd=> ?_;obtain⟨rfl, -⟩:=hd;cases l with
  |none=>exact pg _ _ _ _
  |some l=>
   refine aS (λ_=> ?_) λ_=>aS (λ_=>.halt _ _) λ_=>pg _ _ _ _;refine ah (fN T _) λC z r s e=> ?_;obtain rfl:z=r:=e;exact aj (.pointer (.some ((l.mono (w.trans s)).add _)))
 cases d with
 |array n e=>
  have j:aw P P' VR τ _ _:=ah (kY (h.mono (q.trans o))) λg a D p m=>tail g p n e (.some m);cases h<;>exact j
 |slice e=>
  cases h with
  |slice m n c=>exact tail τ (Ren.Le.refl _) n e (m.mono (q.trans o))
  |_=>exact .halt _ _
 |_=>cases h<;>exact .halt _ _
end
end
section
open Go
inductive PRs (ρ:Ren):List (Nat×Value)->List (Nat×Value)->Prop
 |nil:PRs ρ [] []
 |cons (i:Nat) {v v':Value} {l l':List (Nat×Value)} (h:VR ρ v v') (hl:PRs ρ l l'):PRs ρ ((i,v)::l) ((i,v')::l')
def PRs.mono{ρ a:Ren}(h:ρ.Le a):∀{l b:List (Nat×Value)},PRs ρ l b->PRs a l b
 |_,_,.nil=>.nil
 |_,_,.cons i x y=>.cons i (x.mono h) (y.mono h)
def dm.set{ρ:Ren}(h:dm ρ c Z)(i:Nat)(a:VR ρ v v'):dm ρ (c.setIfInBounds i v) (Z.setIfInBounds i v'):=by
 unfold dm;rw[uZ,uZ];exact bU.set h i a
def dm.fX{ρ:Ren}(a:Nat):∀{l d:List Value} (k:Nat) {c e:Array Value},bU ρ l d->dm ρ c e->
  dm ρ ((l.zipIdx k).foldl (λb (x:Value×Nat)=>b.setIfInBounds (a+x.2) x.1) c) ((d.zipIdx k).foldl (λb (x:Value×Nat)=>b.setIfInBounds (a+x.2) x.1) e)
 |_,_,_,_,_,.nil,h=>h
 |_,_,k,_,_,.cons x y,h=>by
  simp only[List.zipIdx_cons,uL];exact dm.fX a (k+1) y (h.set _ x)
def aeB{ρ:Ren}(a:Nat->Option (Nat×Nat)):∀{l f:List (Nat×Value)} {c b:Array Value},PRs ρ l f->dm ρ c b->∀{d},Instr.fill a c l=some d->∃g,Instr.fill a b f=some g/\dm ρ d g
 |_,_,c,b,.nil,h,d,hd=>by
  unfold Instr.fill at hd ⊢;cases hd;exact⟨b,rfl,h⟩
 |_,_,c,b,.cons i x y,h,d,hd=>by
  unfold Instr.fill at hd ⊢;cases e:a i with
  |none=>rw[e] at hd;cases hd
  |some q=>
   rw[e] at hd;simp only at hd ⊢;rw[<-x.cells.size,<-bU.size h];split at hd
   .cases hd
   .rename_i j;rw[bv j];refine aeB a y ?_ hd;have:=dm.fX q.1 0 x.cells h;simpa[sE,<-Array.toList_zipIdx] using this
def bU.acO{ρ:Ren}{f g:Nat->Value}(h:∀i,VR ρ (f i) (g i)):∀l:List Nat,bU ρ (l.map f) (l.map g)
 |[]=>.nil
 |x::l=>.cons (h x) (bU.acO h l)
def dm.getD{ρ:Ren}(h:dm ρ c Z)(i:Nat):VR ρ c[i]! Z[i]!:=by
 rw[getElem!_def,getElem!_def];cases b:c[i]? with
 |none=>
  have:Z[i]?=none:=by
   rw[qi] at b ⊢;rw[<-bU.size h];exact b
  rw[this];exact .bool _
 |some v=>
  obtain⟨e,a,d⟩:=bU.get h (i:=i) (v:=v) (by rw[eg];exact b);rw[eg] at a;rw[a];exact d
def dm.zeros{ρ:Ren}(h:dm ρ c Z)(k:Nat):dm ρ ((Array.range k).map (c[· % c.size]!)) ((Array.range k).map (Z[· % Z.size]!)):=by
 unfold dm;rw[qI,qI,bU.size h];exact bU.acO (λi=>h.getD _) _
section
variable {P P':Program} {α β γ δ:Type} {A:Ren->α->β->Prop} {B:Ren->γ->δ->Prop} {ρ:Ren}
variable (T:Twin P P')
include T
theorem ahK(t:TypeId)(n:Nat)(h:PRs ρ p.toList I.toList):aw P P' VR ρ (Instr.buildSlice t n p) (Instr.buildSlice t n I):=by
 unfold Instr.buildSlice;refine ah (aF T t) λH d G w hd=> ?_;obtain⟨rfl,hd⟩:=hd;cases d with
 |slice e=>
  refine ah (fN T _) λτ z r o v=> ?_;obtain rfl:z=r:=v;dsimp only;refine aS (λ_=> ?_) (λ_=> ?_)
  .exact .halt _ _
  .have k:∀(f:Ren) (g:τ.Le f) (q b:Array Value),dm f q b->aw P P' VR f (do
     let some cells:=Instr.fill (λi=>some (i*z,z)) ((Array.range (n*z)).map (q[· % q.size]!)) p.toList
      |stuck "buildSlice: a part of the wrong size"
     pure (.slice (some (<-newRow e cells)) n n)) (do
     let some cells:=Instr.fill (λi=>some (i*z,z)) ((Array.range (n*z)).map (b[· % b.size]!)) I.toList
      |stuck "buildSlice: a part of the wrong size"
     pure (.slice (some (<-newRow e cells)) n n)):=by
    intro f g q b j;cases u:Instr.fill (λi=>some (i*z,z)) ((Array.range (n*z)).map (q[· % q.size]!)) p.toList with
    |none=>exact .halt _ _
    |some c=>
     obtain⟨D,l,C⟩:=aeB _ (h.mono (w.trans (o.trans g))) (j.zeros (n*z)) u;rw[l];exact ah (oZ e C) λ_ a E _ B=>aj (.slice (.some B) _ _)
   refine aS (λ_=> ?_) (λ_=> ?_)
   .exact ah (A:=dm) (aj .nil) λf q b g j=>k f g q b j
   .exact ah (aaW T _) λf x F g y=>ah (A:=dm) (aj y.cells) λm q b s j=>k m (g.trans s) q b j
 |_=>exact .halt _ _
theorem ai4(t:TypeId){l l' c : Value}(D:VR ρ l l')(H:VR ρ c W):aw P P' VR ρ (Instr.makeSlice t l c) (Instr.makeSlice t l' W):=by
 unfold Instr.makeSlice;refine ah (aF T t) λV d R m hd=> ?_;obtain⟨rfl,hd⟩:=hd;cases d with
 |slice e=>
  dsimp only;refine ah (abv (D.mono m)) λS x k v r=> ?_;obtain rfl:x=k:=r;refine ah (abv (H.mono (m.trans v))) λK y B U G=> ?_;obtain rfl:y=B:=G;refine ah (dO T e) λI i X O o=> ?_;obtain⟨rfl,o⟩:=o;refine aS (λ_=> ?_) (λ_=> ?_)
  .refine aS (λ_=> ?_) (λ_=>aS (λ_=> ?_) (λ_=> ?_))
   .exact ah (dP (A:=λ_ _ _=>False) _) λ_ _ _ _ h=>h.elim
   .exact ah (dP (A:=λ_ _ _=>False) _) λ_ _ _ _ h=>h.elim
   .refine ah (iM _) λ_ n s _ E=> ?_;obtain rfl:n=s:=E;exact ah (dP (A:=λ_ _ _=>False) _) λ_ _ _ _ h=>h.elim
  .refine ah (alb _) λJ u N Q _=> ?_;refine ah (fN T _) λM z w p C=> ?_;obtain rfl:z=w:=C;have j:∀(b:Ren) (q f:Array Value),dm b q f->aw P P' VR b (do
     let a<-newRow e ((Array.range ((IntKind.i64.wrap y).toNat*z)).map (q[· % q.size]!))
     pure (.slice (some a) (IntKind.i64.wrap x).toNat (IntKind.i64.wrap y).toNat)) (do
     let a<-newRow e ((Array.range ((IntKind.i64.wrap y).toNat*z)).map (f[· % f.size]!))
     pure (.slice (some a) (IntKind.i64.wrap x).toNat (IntKind.i64.wrap y).toNat)):=λb q f g=>
    ah (oZ e (g.zeros _)) λ_ a L _ F=>aj (.slice (.some F) _ _)
   refine aS (λ_=> ?_) (λ_=> ?_)
   .exact ah (A:=dm) (aj .nil) λb q f _ g=>j b q f g
   .exact ah (aaW T _) λb x k _ p=>ah (A:=dm) (aj p.cells) λb q f _ g=>j b q f g
 |_=>exact .halt _ _
theorem anK:∀(a:List Field) (ρ:Ren),aw P P' jF ρ (a.mapM λf=>(do pure (f.offset,<-sizeOf f.type):Sem (Nat×Nat))) (a.mapM λf=>(do pure (f.offset,<-sizeOf f.type):Sem (Nat×Nat)))
 |[],_=>by rw[List.mapM_nil];exact aj rfl
 |f::a,ρ=>by
  rw[vR];refine ah (A:=jF) ?_ λb x i _ c=> ?_
  .refine ah (fN T _) λb z j _ d=> ?_;obtain rfl:z=j:=d;exact aj rfl
  obtain rfl:x=i:=c;refine ah (anK a b) λk y g _ e=> ?_;obtain rfl:y=g:=e;exact aj rfl
theorem auj(t:TypeId)(h:PRs ρ p.toList I.toList):aw P P' VR ρ (Instr.build t p) (Instr.build t I):=by
 unfold Instr.build;refine ah (aaW T t) λE z v q o=> ?_;refine ah (aF T t) λτ d D j hd=> ?_;obtain⟨rfl,hd⟩:=hd;have B:∀(k:Ren) (f:τ.Le k) (a:Nat->Option (Nat×Nat)),aw P P' VR k (do
   let some cells:=Instr.fill a z.cells p.toList|stuck "build: no such field, or a part of the wrong size"
   pure (.agg cells)) (do
   let some cells:=Instr.fill a v.cells I.toList|stuck "build: no such field, or a part of the wrong size"
   pure (.agg cells)):=by
  intro k f a;cases g:Instr.fill a z.cells p.toList with
  |none=>exact .halt _ _
  |some c=>
   obtain⟨s,b,l⟩:=aeB a (h.mono (q.trans (j.trans f))) (o.mono (j.trans f)).cells g;rw[b];exact aj (.agg l)
 cases d with
 |struct C=>
  simp only[tS];refine ah (A:=jF) ?_ λk x w f u=> ?_
  .exact ah (anK T C.toList _) λ_ y m _ r=>by
    obtain rfl:y=m:=r;exact aj rfl
  obtain rfl:x=w:=u;cases g:Instr.fill (λi=>x[i]?) z.cells p.toList with
  |none=>exact .halt _ _
  |some c=>
   obtain⟨s,b,l⟩:=aeB _ (h.mono (q.trans (j.trans f))) (o.mono (j.trans f)).cells g;simp only[b];exact aj (.agg l)
 |array n e=>
  refine ah (fN T _) λk y m f r=> ?_;obtain rfl:y=m:=r;cases g:Instr.fill (λi=>some (i*y,y)) z.cells p.toList with
  |none=>simp only[g];exact .halt _ _
  |some c=>
   obtain⟨s,b,l⟩:=aeB _ (h.mono (q.trans (j.trans f))) (o.mono (j.trans f)).cells g;simp only[g,b];exact aj (.agg l)
 |_=>exact .halt _ _
end
end
section
open Go
section
variable {P P':Program} {α β γ δ:Type} {A:Ren->α->β->Prop} {B:Ren->γ->δ->Prop} {ρ:Ren}
def dm.args(h:dm ρ c Z)(i:Nat):OVR ρ c[i]? Z[i]?:=by
 cases b:c[i]? with
 |none=>
  have:Z[i]?=none:=by
   rw[qi] at b ⊢;rw[<-bU.size h];exact b
  rw[this];exact .none
 |some v=>
  obtain⟨e,a,d⟩:=bU.get h (i:=i) (v:=v) (by rw[eg];exact b);rw[eg] at a;rw[a];exact .some d
variable (T:Twin P P')
include T
theorem azS(ts:Array TypeId)(t:TypeId){a : Array Value}(h:dm ρ a Z):aw P P' VR ρ (Builtin.len_ ts t a) (Builtin.len_ ts t Z):=by
 unfold Builtin.len_;cases G:ts[0]? with
 |none=>exact .halt _ _
 |some v=>
  have g:=h.args 0;cases D:a[0]? with
  |none=>exact .halt _ _
  |some x=>
   rw[D] at g;obtain⟨j,p,b⟩:∃j,Z[0]?=some j/\VR ρ x j:=by
    cases s:Z[0]? with
    |none=>rw[s] at g;cases g
    |some j=>rw[s] at g;cases g with|some h=>exact⟨j,rfl,h⟩
   rw[p];dsimp only;refine ah (aF T v) λB d y z hd=> ?_;obtain⟨rfl,hd⟩:=hd;replace b:=b.mono z;cases d with
   |string=>cases b<;>first|exact aj (.int _ _)|exact .halt _ _
   |array n e=>cases b<;>exact aj (.int _ _)
   |slice e=>cases b<;>first|exact aj (.int _ _)|exact .halt _ _
   |pointer f=>
    have i:aw P P' VR B (do
      let .array n _<-underlying f|stuck "len: pointer to array expected"
      pure (goInt n)) (do
      let .array n _<-underlying f|stuck "len: pointer to array expected"
      pure (goInt n)):=by
     refine ah (aF T f) λm d y _ hd=> ?_;obtain⟨rfl, -⟩:=hd;cases d<;>first|exact aj (.int _ _)|exact .halt _ _
    cases b<;>exact i
   |map k e=>
    cases b with
    |map c=>
     cases c with
     |none=>exact aj (.int _ _)
     |some c=>
      refine ah (eO c) λm o A _ q=> ?_;cases q with
      |@map e u E _=>
       have w:e.size=u.size:=by
        have:∀{l r:List MapEntry},mQ m l r->l.length=r.length:=by
         intro l r h
         induction h with
         |nil=>rfl
         |cons _ _ F=>simp[F]
        simpa using this E
       show aw P P' VR m (pure (goInt e.size)) (pure (goInt u.size));rw[w];exact aj (.int _ _)
      |_=>exact .halt _ _
    |_=>exact .halt _ _
   |chan C e=>
    cases b with
    |chan c=>
     cases c with
     |none=>exact aj (.int _ _)
     |some c=>
      refine ah (eO c) λm o A _ q=> ?_;cases q<;>exact .halt _ _
    |_=>exact .halt _ _
   |_=>cases b<;>exact .halt _ _
omit T in
theorem ahL(a:VR ρ x W):aw P P' jF ρ (Builtin.lenOf x) (Builtin.lenOf W):=by
 cases a<;>first|exact aj rfl|exact .halt _ _
omit T in
theorem kK(z n:Nat)(d:VR ρ x W):aw P P' dm ρ (Builtin.firstCells z n x) (Builtin.firstCells z n W):=by
 cases d with
 |slice h l c=>
  cases h with
  |none=>exact aj .nil
  |some h=>exact oY h _
 |string s=>
  refine aj ?_;unfold dm;exact bU.kI λv a=>by
   simp only[qI,mc] at a;obtain⟨b,_,rfl⟩:=a;exact .int _ _
 |_=>exact .halt _ _
omit T in
theorem dm.zeroCells(h:dm ρ c Z)(n:Nat):dm ρ (Builtin.zeroCells c n) (Builtin.zeroCells Z n):=by
 unfold Builtin.zeroCells dm;rw[qI,qI,bU.size h];exact bU.acO (λi=>h.getD _) _
omit T in
theorem dm.app{d : Array Value}(h:dm ρ c Z)(k:dm ρ d G):dm ρ (c++d) (Z++G):=by
 unfold dm;rw[pv,pv];exact bU.app h k
theorem axR(ts:Array TypeId)(t:TypeId){a : Array Value}(h:dm ρ a Z):aw P P' VR ρ (Builtin.copy_ ts t a) (Builtin.copy_ ts t Z):=by
 unfold Builtin.copy_;have b:=h.args 0;have f:=h.args 1;revert b f;generalize a[0]?=x0;generalize Z[0]?=x0';generalize a[1]?=x1;generalize Z[1]?=x1';intro b f;cases x:ts[0]? with
 |none=>exact .halt _ _
 |some o=>
  cases b with
  |none=>exact .halt _ _
  |some b=>
   cases f with
   |none=>exact .halt _ _
   |some f=>
    dsimp only;refine ah (aF T o) λD d B i hd=> ?_;obtain⟨rfl,hd⟩:=hd;cases d with
    |slice e=>
     replace b:=b.mono i;cases b with
     |slice g n c=>
      dsimp only;refine ah (ahL (f.mono i)) λC m u k q=> ?_;obtain rfl:m=u:=q;refine ah (fN T e) λy z l j r=> ?_;obtain rfl:z=l:=r;refine ah (kK z _ (f.mono (i.trans (k.trans j)))) λw A s p v=> ?_;cases g with
      |none=>exact aj (.int _ _)
      |some g=>exact ah (iN (g.mono (k.trans (j.trans p))) 0 v) λ_ _ _ _ _=>aj (.int _ _)
     |_=>exact .halt _ _
    |_=>exact .halt _ _
end
end
section
open Go
def iO(a:Addr)(n:Nat):Leaves P (λ_=>True) (Builtin.holdsCells a n):=by
 unfold Builtin.holdsCells;intro z;cases z<;>trivial
def adY(z l n:Nat)(b:Option Addr)(x:Value):Leaves P (λ_=>True) (Builtin.mayShare z l n b x):=by
 unfold Builtin.mayShare;cases b with
 |none=>
  cases x with
  |slice a _ _=>cases a with
   |none=>trivial
   |some c=>exact Leaves.bind (P:=P) (s:=Builtin.holdsCells c (n*z)) (iO _ _) λ_ _=>trivial
  |_=>trivial
 |some a=>
  refine Leaves.bind (iO _ _) λq _ f=> ?_;show Leaves P _ (if(!(q&&!f))=true then pure true else _);cases(q&&!f) with
  |false=>trivial
  |true=>
   cases x with
   |slice a _ _=>cases a with
    |none=>trivial
    |some c=>exact Leaves.bind (iO _ _) λ_ _=>trivial
   |_=>trivial
section
variable {P P':Program} {ρ:Ren}
variable (T:Twin P P')
include T
theorem aq0(ts:Array TypeId)(t:TypeId)(X:∀u,ts[1]?=some u->∀k,P.underlying u≠some (.int k)){a : Array Value}(h:dm ρ a Z):aw P P' VR ρ (Builtin.append_ ts t a) (Builtin.append_ ts t Z):=by
 unfold Builtin.append_;have w:=h.args 0;have l:=h.args 1;revert w l;generalize a[0]?=x0;generalize Z[0]?=x0';generalize a[1]?=x1;generalize Z[1]?=x1';intro w l;cases ht:ts[0]? with
 |none=>exact .halt _ _
 |some Y=>
  cases w with
  |none=>exact .halt _ _
  |some w=>
   cases l with
   |none=>exact .halt _ _
   |@some x I l=>
    dsimp only;refine ah (aF T Y) λσ d S J hd=> ?_;obtain⟨rfl,hd⟩:=hd;cases d with
    |slice e=>
     replace w:=w.mono J;cases w with
     |@slice b E p sl j=>
      dsimp only;refine ah (fN T e) λτ z z' m ez=> ?_;obtain rfl:z=z':=ez;have o:∀(υ:Ren),τ.Le υ->∀n:Nat,aw P P' VR υ
        (let f:=sl+n
         if f<=j then do
          let new<-Builtin.firstCells z n x
          if let some a:=b then storeCells (a.add (sl*z)) new.toList
          pure (.slice b f j)
         else do
          if(f:Int)>IntKind.i64.max/\(false=true\/(<-typeInfo e).bytes=0) then runtimePanic (.error "growslice: len out of range")
          if Builtin.nextslicecap f j*(<-typeInfo e).bytes>2 ^ 48 then(if false then runtimePanic (.error "growslice: len out of range") else do
           if !(<-Builtin.mayShare z sl n b x) then mark .noRoom
           unsupported (.resourceLimit "append: a slice or a string whose bytes no memory bears"))
          let iq<-choose (.appendCap f j e)
          askRoom (iq*(<-typeInfo e).bytes)
          let old<-Builtin.firstCells z sl (.slice b sl j)
          let new<-Builtin.firstCells z n x
          let g:=Builtin.zeroCells (<-zeroValue e).cells (iq-f)
          pure (.slice (some (<-newRow e (old++new++g))) f iq):Sem Value)
        (let f:=sl+n
         if f<=j then do
          let new<-Builtin.firstCells z n I
          if let some a:=E then storeCells (a.add (sl*z)) new.toList
          pure (.slice E f j)
         else do
          if(f:Int)>IntKind.i64.max/\(false=true\/(<-typeInfo e).bytes=0) then runtimePanic (.error "growslice: len out of range")
          if Builtin.nextslicecap f j*(<-typeInfo e).bytes>2 ^ 48 then(if false then runtimePanic (.error "growslice: len out of range") else do
           if !(<-Builtin.mayShare z sl n E I) then mark .noRoom
           unsupported (.resourceLimit "append: a slice or a string whose bytes no memory bears"))
          let iq<-choose (.appendCap f j e)
          askRoom (iq*(<-typeInfo e).bytes)
          let old<-Builtin.firstCells z sl (.slice E sl j)
          let new<-Builtin.firstCells z n I
          let g:=Builtin.zeroCells (<-zeroValue e).cells (iq-f)
          pure (.slice (some (<-newRow e (old++new++g))) f iq):Sem Value):=by
       intro υ H n;have lx:=J.trans (m.trans H);replace p:=p.mono (m.trans H);replace l:=l.mono lx;dsimp only;refine aS (λ_=> ?_) (λ_=> ?_)
       .refine ah (kK z n l) λv c c' C M=> ?_;cases p with
        |none=>exact aj (.slice .none _ _)
        |some p=>exact ah (iN ((p.mono C).add _) 0 M) λO _ _ F _=>aj (.slice (.some (p.mono (C.trans F))) _ _)
       .have grow:∀(v:Ren),υ.Le v->aw P P' VR v (do
          let iq<-choose (.appendCap (sl+n) j e)
          askRoom (iq*(<-typeInfo e).bytes)
          let old<-Builtin.firstCells z sl (.slice b sl j)
          let new<-Builtin.firstCells z n x
          let g:=Builtin.zeroCells (<-zeroValue e).cells (iq-(sl+n))
          pure (.slice (some (<-newRow e (old++new++g))) (sl+n) iq):Sem Value) (do
          let iq<-choose (.appendCap (sl+n) j e)
          askRoom (iq*(<-typeInfo e).bytes)
          let old<-Builtin.firstCells z sl (.slice E sl j)
          let new<-Builtin.firstCells z n I
          let g:=Builtin.zeroCells (<-zeroValue e).cells (iq-(sl+n))
          pure (.slice (some (<-newRow e (old++new++g))) (sl+n) iq):Sem Value):=by
         intro v C;refine ah (iM _) λO k W F ek=> ?_;obtain rfl:k=W:=ek;refine ah (dO T e) λχ i3 a3 hx D=> ?_;obtain⟨rfl, -⟩:=D;refine ah (alb _) λω _ _ K _=> ?_;have V:=C.trans (F.trans (hx.trans K));refine ah (kK z sl (.slice (p.mono V) sl j)) λa0 c c' R M=> ?_;refine ah (kK z n (l.mono (V.trans R))) λa1 d S K hd=> ?_;refine ah (aaW T e) λξ y y' U Q=> ?_;exact ah (oZ e (dm.app (dm.app (bU.mono (K.trans U) M) (bU.mono U hd)) (dm.zeroCells Q.cells _))) λ_ r r' _ hr=>aj (.slice (.some hr) _ _)
        refine ah (dO T e) λv i i' C D=> ?_;obtain⟨rfl, -⟩:=D;refine aS (λ_=> ?_) (λ_=> ?_)
        .exact ah (dP (A:=λ_ _ _=>False) _) λ_ _ _ _ h=>h.elim
        .refine ah (dO T e) λO i2 a2 F D=> ?_;obtain⟨rfl, -⟩:=D;refine aS (λ_=> ?_) (λ_=>grow O (C.trans F));refine .dead (kX.bind (iK (adY _ _ _ _ _) λq=> ?_) _) _;cases q
         .exact iK (P:=P) (s:=mark .noRoom) trivial λ_=>gC _
         .exact gC _
      cases H:ts[1]? with
      |none=>
       have B:=ah (ahL (P:=P) (P':=P') (l.mono (J.trans m))) λυ n N G L=>by
        obtain rfl:n=N:=L;exact o υ G n
       exact B
      |some u=>
       refine ah (aF T u) λυ d S G hd=> ?_;obtain⟨rfl,hd⟩:=hd;have B:=ah (ahL (P:=P) (P':=P') (l.mono (J.trans (m.trans G)))) λv n N hn L=>by
        obtain rfl:n=N:=L;exact o v (G.trans hn) n
       cases d with
       |int k=>exact absurd hd (X u H k)
       |_=>exact B
     |_=>exact .halt _ _
    |_=>exact .halt _ _
end
end
section
open Go
section
variable {P P':Program} {ρ:Ren}
variable (T:Twin P P')
include T
theorem ao0(t:TypeId)(h:VR ρ v v'){x : Option Value}(j:OVR ρ l l')(k:OVR ρ u M)(m:OVR ρ x K):aw P P' VR ρ (Instr.sliceAt t v l u x) (Instr.sliceAt t v' l' M K):=by
 unfold Instr.sliceAt;refine ah (aF T t) λC d A c hd=> ?_;obtain⟨rfl,hd⟩:=hd;cases d with
 |array n e=>
  refine ah (kY (h.mono c)) λB a y p o=> ?_;have f:=c.trans p;refine ah (jG _ _ _ (j.mono f) (k.mono f) (m.mono f)) λs b q i e=> ?_;obtain rfl:b=q:=e;refine ah (fN T _) λw z r g e=> ?_;obtain rfl:z=r:=e;refine aj (.slice (.some ?_) _ _);split
  .exact o.mono (i.trans g)
  .exact(o.mono (i.trans g)).add _
 |_=>exact auh T t (h.mono c) (j.mono c) (k.mono c) (m.mono c)
theorem auk(ts:Array TypeId)(t:TypeId){a : Array Value}(h:dm ρ a Z):aw P P' VR ρ (Builtin.clear_ ts t a) (Builtin.clear_ ts t Z):=by
 unfold Builtin.clear_;have b:=h.args 0;revert b;generalize a[0]?=x0;generalize Z[0]?=x0';intro b;cases s:ts[0]? with
 |none=>exact .halt _ _
 |some p=>
  cases b with
  |none=>exact .halt _ _
  |some b=>
   dsimp only;refine ah (aF T p) λw d r l hd=> ?_;obtain⟨rfl,hd⟩:=hd;replace b:=b.mono l;cases b with
   |map g=>
    cases g with
    |none=>cases d<;>exact aj (.tuple .nil)
    |some g=>
     cases d<;>(refine ah (eO g) λk o v f j=> ?_;cases j<;>first|exact .halt _ _|exact ah (iL (f.r g) (.map .nil _)) λ_ _ _ _ _=>aj (.tuple .nil))
   |slice i n c=>
    cases i with
    |none=>cases d<;>exact aj (.tuple .nil)
    |some i=>
     cases n with
     |zero=>cases d<;>exact aj (.tuple .nil)
     |succ n=>
      cases d with
      |slice e=>exact ah (aaW T e) λk z u f m=>ah (iN (i.mono f) 0 (m.cells |> λq=>dm.zeroCells q _)) λ_ _ _ _ _=>aj (.tuple .nil)
      |_=>exact .halt _ _
   |_=>cases d<;>exact .halt _ _
theorem azT(ts:Array TypeId)(t:TypeId){a : Array Value}(h:dm ρ a Z):aw P P' VR ρ (Builtin.cap_ ts t a) (Builtin.cap_ ts t Z):=by
 unfold Builtin.cap_;have b:=h.args 0;revert b;generalize a[0]?=x0;generalize Z[0]?=x0';intro b;cases r:ts[0]? with
 |none=>exact .halt _ _
 |some q=>
  cases b with
  |none=>exact .halt _ _
  |some b=>
   dsimp only;refine ah (aF T q) λm d j l hd=> ?_;obtain⟨rfl,hd⟩:=hd;replace b:=b.mono l;cases d with
   |array n e=>cases b<;>exact aj (.int _ _)
   |slice e=>cases b<;>first|exact aj (.int _ _)|exact .halt _ _
   |pointer c=>
    have f:aw P P' VR m (do
      let .array n _<-underlying c|stuck "cap: pointer to array expected"
      pure (goInt n)) (do
      let .array n _<-underlying c|stuck "cap: pointer to array expected"
      pure (goInt n)):=by
     refine ah (aF T c) λk d j _ hd=> ?_;obtain⟨rfl, -⟩:=hd;cases d<;>first|exact aj (.int _ _)|exact .halt _ _
    cases b<;>exact f
   |chan p e=>
    cases b with
    |chan g=>
     cases g with
     |none=>exact aj (.int _ _)
     |some g=>
      refine ah (eO g) λk o s _ i=> ?_;cases i<;>exact .halt _ _
    |_=>exact .halt _ _
   |_=>cases b<;>exact .halt _ _
omit T in
theorem aeC(op:BinOp)(k:IntKind)(x y:Int):aw P P' VR ρ (Op.intArith op k x y) (Op.intArith op k x y):=by
 unfold Op.intArith;cases op<;>first|exact aj (.int _ _)|exact .halt _ _
omit T in
theorem aq1(op:BinOp)(k:IntKind)(x y:Int):aw P P' VR ρ (Op.intDiv op k x y) (Op.intDiv op k x y):=by
 unfold Op.intDiv;refine aS (λ_=>dP _) (λ_=> ?_);cases op<;>first|exact aj (.int _ _)|exact .halt _ _
omit T in
theorem agE(op:BinOp)(k:IntKind)(x y:Int):aw P P' VR ρ (Op.intBits op k x y) (Op.intBits op k x y):=by
 unfold Op.intBits;cases op<;>first|exact aj (.int _ _)|exact .halt _ _
omit T in
theorem anL(op:BinOp)(k l:IntKind)(x y:Int):aw P P' VR ρ (Op.shift op k x l y) (Op.shift op k x l y):=by
 unfold Op.shift;refine aS (λ_=>dP _) (λ_=> ?_);cases op<;>first|exact aj (.int _ _)|exact .halt _ _
omit T in
theorem aeD(op:BinOp)(x y:Int):aw P P' VR ρ (Op.intCmp op x y) (Op.intCmp op x y):=by
 unfold Op.intCmp;cases op<;>first|exact aj (.bool _)|exact .halt _ _
omit T in
theorem kZ(op:BinOp)(x y:ByteArray):aw P P' VR ρ (Op.stringOp op x y) (Op.stringOp op x y):=by
 unfold Op.stringOp;cases op<;>first|exact aj (.bool _)|exact .halt _ _|exact aS (λ_=>.halt _ _) (λ_=>aj (.string _))
omit T in
theorem aul(op:UnOp)(h:VR ρ v v'):aw P P' VR ρ (Op.unary op v) (Op.unary op v'):=by
 cases h with
 |int k n=>cases op<;>simp only[Op.unary]<;>first|exact aeC _ _ _ _|exact agE _ _ _ _|exact .halt _ _
 |bool b=>cases op<;>first|exact aj (.bool _)|exact .halt _ _
 |pointer h=>cases h<;>cases op<;>exact .halt _ _
 |_=>cases op<;>exact .halt _ _
end
end
section
open Go
inductive FdR (ρ:Ren):Option (Nat×Value)->Option (Nat×Value)->Prop
 |none:FdR ρ none none
 |some (i:Nat) {v v':Value} (h:VR ρ v v'):FdR ρ (some (i,v)) (some (i,v'))
inductive axS (ρ:Ren):Option (Option (Nat×Value))->Option (Option (Nat×Value))->Prop
 |none:axS ρ none none
 |some {a a':Option (Nat×Value)} (h:FdR ρ a a'):axS ρ (some a) (some a')
def ao1{ρ:Ren}(a:IntKind){e e' : Value}(b:VR ρ k k')(c:VR ρ e e'):Instr.sameNow (.int a) k e=Instr.sameNow (.int a) k' e'\/k=.tuple #[]\/e=.tuple #[]:=by
 cases b<;>cases c<;>first|exact .inl rfl|exact .inr (.inl rfl)|exact .inr (.inr rfl)
section
variable {P:Program} {t:TypeId} {kd:IntKind} (ht:P.underlying t=some (.int kd))
include ht
theorem abw:Leaves P (λd=>d=.int kd) (underlying t):=by
 unfold underlying;show Leaves P (λd=>d=.int kd) (match P.underlying t with
  |some d=>pure d
  |none=>stuck "no such type")
 rw[ht];exact rfl
theorem alf(h:x=.tuple #[]\/y=.tuple #[]):kX P (Op.equal t x y):=by
 unfold Op.equal Op.maxDepth Op.equalIn;refine Leaves.bind (abw ht) λd hd=> ?_;subst hd;rcases h with rfl|rfl
 .cases y with
  |pointer a=>cases a<;>exact trivial
  |int k n=>exact trivial
  |_=>exact trivial
 .cases x with
  |pointer a=>cases a<;>exact trivial
  |int k n=>exact trivial
  |_=>exact trivial
theorem ahM{b:Bool}(h:Instr.sameNow (.int kd) x y=some b):Leaves P (λr=>r=b) (Op.equal t x y):=by
 unfold Op.equal Op.maxDepth Op.equalIn;refine Leaves.bind (abw ht) λd hd=> ?_;subst hd;cases x with
 |int k n=>
  cases y with
  |int a m=>
   by_cases e:k=a
   .simp only[Instr.sameNow,e,pr,jt] at h;dsimp only;rw[dj e];exact h
   .simp[Instr.sameNow,e] at h
  |_=>cases h
 |_=>cases y<;>cases h
theorem agF{ρ:Ren}{k k':Value}(a:VR ρ k k'):∀{l c:List MapEntry},mQ ρ l c->∀i,axS ρ (Instr.findNow (.int kd) k l i) (Instr.findNow (.int kd) k' c i)\/(Instr.findNow (.int kd) k l i=none/\kX P (Instr.findAsking t k l i))
 |_,_,.nil,_=>.inl (.some .none)
 |_,_,.cons (.mk (k:=ek) h1 h2 b) y,i=>by
  rcases ao1 kd a h1 with e|e
  .unfold Instr.findNow;rw[e];cases f:Instr.sameNow (.int kd) k' _ with
   |none=>exact .inl .none
   |some q=>
    cases q with
    |true=>exact .inl (.some (.some i h2))
    |false=>
     refine(agF a y (i+1)).imp id λh=>⟨h.1, ?_⟩;unfold Instr.findAsking;refine Leaves.bind (ahM ht (e.trans f)) λb d=> ?_;subst d;exact h.2
  .refine .inr ⟨?_, ?_⟩
   .unfold Instr.findNow;have:Instr.sameNow (.int kd) k ek=none:=by
     rcases e with rfl|rfl
     .rfl
     .cases k<;>rfl
    rw[this]
   .unfold Instr.findAsking;exact Leaves.bind (alf ht e) λ_ h=>h.elim
end
section
variable {P P':Program} {ρ:Ren}
variable (T:Twin P P')
include T
end
end
section
open Go
section
variable {P P':Program} {ρ:Ren}
def axT(d:VR ρ x W)(a:VR ρ y U):aw P P' VR ρ (Builtin.max2 x y) (Builtin.max2 W U):=by
 cases d with
 |int k n=>cases a with
  |int p m=>exact aj (.int _ _)
  |pointer h=>cases h<;>exact .halt _ _
  |_=>exact .halt _ _
 |string s=>cases a with
  |string t=>
   unfold Builtin.max2;refine ah (kZ .geq s t) λo v g l f=>ah (aeA f) λi b c j e=> ?_;obtain rfl:b=c:=e;exact aj (.string _)
  |pointer h=>cases h<;>exact .halt _ _
  |_=>exact .halt _ _
 |pointer h=>cases h<;>cases a with
  |pointer h=>cases h<;>exact .halt _ _
  |_=>exact .halt _ _
 |_=>cases a with
  |pointer h=>cases h<;>exact .halt _ _
  |_=>exact .halt _ _
def axU(d:VR ρ x W)(a:VR ρ y U):aw P P' VR ρ (Builtin.min2 x y) (Builtin.min2 W U):=by
 cases d with
 |int k n=>cases a with
  |int p m=>exact aj (.int _ _)
  |pointer h=>cases h<;>exact .halt _ _
  |_=>exact .halt _ _
 |string s=>cases a with
  |string t=>
   unfold Builtin.min2;refine ah (kZ .leq s t) λo v g l f=>ah (aeA f) λi b c j e=> ?_;obtain rfl:b=c:=e;exact aj (.string _)
  |pointer h=>cases h<;>exact .halt _ _
  |_=>exact .halt _ _
 |pointer h=>cases h<;>cases a with
  |pointer h=>cases h<;>exact .halt _ _
  |_=>exact .halt _ _
 |_=>cases a with
  |pointer h=>cases h<;>exact .halt _ _
  |_=>exact .halt _ _
def aeE{f g:Value->Value->Sem Value}(e:∀(d:Ren) x c y j,VR d x c->VR d y j->aw P P' VR d (f x y) (g c j)):∀(l:List Value) {i:List Value} {ρ:Ren},bU ρ l i->∀{x c:Value},VR ρ x c->aw P P' VR ρ (l.foldlM f x) (i.foldlM g c)
 |[],_,_,.nil,_,_,h=>aj h
 |_::l,_,ρ,.cons a b,x,c,h=>by
  rw[List.foldlM_cons,List.foldlM_cons];exact ah (e _ _ _ _ _ h a) λd v n m k=>aeE e l (b.mono m) k
def azU(ts:Array TypeId)(t:TypeId){a : Array Value}(h:dm ρ a Z):aw P P' VR ρ (Builtin.max_ ts t a) (Builtin.max_ ts t Z):=by
 unfold Builtin.max_;unfold dm at h;revert h;generalize a.toList=l;generalize Z.toList=l';intro h;cases h with
 |nil=>exact .halt _ _
 |cons x y=>exact aeE (λ_ _ _ _ _=>axT) _ y x
def azV(ts:Array TypeId)(t:TypeId){a : Array Value}(h:dm ρ a Z):aw P P' VR ρ (Builtin.min_ ts t a) (Builtin.min_ ts t Z):=by
 unfold Builtin.min_;unfold dm at h;revert h;generalize a.toList=l;generalize Z.toList=l';intro h;cases h with
 |nil=>exact .halt _ _
 |cons x y=>exact aeE (λ_ _ _ _ _=>axU) _ y x
def adZ(t:TypeId):Leaves P (λ_=>True) (typeInfo t):=by
 show Leaves P (λ_=>True) (match P.info? t with|some i=>pure i|none=>stuck "no such type");split<;>trivial
def abx(t:TypeId):Leaves P (λ_=>True) (underlying t):=by
 show Leaves P (λ_=>True) (match P.underlying t with|some i=>pure i|none=>stuck "no such type");split<;>trivial
def aaC(t:TypeId):Leaves P (λ_=>True) (elemOf t):=by
 unfold elemOf;refine Leaves.bind (abx t) λd _=> ?_;split<;>trivial
def aaD(t:TypeId)(v:Value):Leaves P (λ_=>True) (newVar t v):=by
 unfold newVar newRow;exact⟨λd l e=>(by cases e),λr=>trivial⟩
def pj:Leaves P (λ_=>True) program:=trivial
def aeF(t:TypeId):Leaves P (λ_=>True) (typeStr t):=by
 unfold typeStr;refine Leaves.bind (adZ t) λi _=> ?_;dsimp only;split<;>trivial
def ad0:Leaves P (λ_=>True) Instr.panicnil:=by
 unfold Instr.panicnil;intro r;cases r<;>trivial
def eG(e:RuntimeError) :kX P (runtimePanic e:Sem V):=by
 unfold runtimePanic;refine iK pj λp=> ?_;cases e with
 |typeAssertion=>exact iK (aaC _) λ_=>iK (aaD _ _) λ_=>gC _
 |panicNil=>exact iK (aaC _) λ_=>iK (aaD _ _) λ_=>gC _
 |_=>exact gC _
def aum(x:Value)(s:Sem Value):aw P P' VR ρ (Instr.panic x) s:=by
 cases x with
 |iface t v=>exact .halt _ _
 |nilIface=>
  refine .dead ?_ _;refine iK ad0 λn=> ?_;split
  .exact gC _
  .exact eG _
 |_=>exact .halt _ _
end
section
variable {P P':Program} {ρ:Ren}
variable (T:Twin P P')
include T
theorem aun(t:TypeId)(h:VR ρ x W):aw P P' VR ρ (Instr.range t x) (Instr.range t W):=by
 unfold Instr.range;refine ah (aF T t) λq d n l hd=> ?_;obtain⟨rfl,hd⟩:=hd;replace h:=h.mono l;have fin:∀{f:Ren} {o g:Obj},OR f o g->aw P P' VR f (do pure (.pointer (some ⟨<-newObj o,0,none⟩))) (do pure (.pointer (some ⟨<-newObj g,0,none⟩))):=λb=>
  ah (agC b) λ_ r m _ i=>aj (.pointer (.some (.mk i 0 none)))
 cases d with
 |string=>cases h with
  |string s=>exact fin (.stringIter s 0)
  |_=>exact .halt _ _
 |map k e=>cases h with
  |map a=>cases a with
   |none=>exact fin (.mapIter .none 0 #[] 0)
   |some a=>
    refine ah (eO a) λf o g j b=> ?_;cases b with
    |map p c=>exact fin (.mapIter (.some (j.r a)) c #[] c)
    |_=>exact .halt _ _
  |_=>exact .halt _ _
 |_=>cases h<;>exact .halt _ _
end
end
section
open Go
section
variable {P P':Program} {ρ:Ren}
inductive ONR (ρ:Ren):Option (Addr×Bool)->Option (Addr×Bool)->Prop
 |none:ONR ρ none none
 |some {a a':Addr} (h:AR ρ a a') (l:Bool):ONR ρ (some (a,l)) (some (a',l))
def aeG(h:ρ.r r R):aw P P' ONR ρ (numberAt r) (numberAt R):=by
 unfold numberAt;refine ah (lU h) λi s a c e=> ?_;obtain rfl:s=a:=e;cases s with
 |some z=>exact aj .none
 |none=>
  refine ah (eO (c.r h)) λd o g f b=> ?_;cases b with
  |number h l=>exact aj (.some h l)
  |_=>exact aj .none
def aby(h:ρ.r r R):aw P P' (λ_ a b=>a=none/\b=none) ρ (viewAt r) (viewAt R):=by
 unfold viewAt;refine ah (lU h) λk s c f e=> ?_;obtain rfl:s=c:=e;cases s with
 |some z=>exact aj ⟨rfl,rfl⟩
 |none=>
  refine ah (eO (f.r h)) λg o j i d=> ?_;cases d<;>exact aj ⟨rfl,rfl⟩
def aeH(h:AR ρ a Y):aw P P' jF ρ (noView a) (noView Y):=by
 unfold noView;obtain⟨b,o,s⟩:=h;refine ah (aby b) λf x c d e=> ?_;obtain⟨rfl,rfl⟩:=e;exact aj rfl
def mS(h:AR ρ a Y):aw P P' (λd p b=>AR d p.1 b.1/\p.2=b.2) ρ (behindNumber a) (behindNumber Y):=by
 unfold behindNumber;obtain⟨c,o,s⟩:=h;refine ah (aeG c) λd x g f e=> ?_;cases e with
 |none=>exact aj ⟨.mk (f.r c) o s,rfl⟩
 |some h l=>exact aj ⟨h,rfl⟩
variable (T:Twin P P')
include T
theorem aei(t:TypeId):P'.cellsOf t=P.cellsOf t:=by unfold Program.cellsOf;rw[T.info]
theorem anM(t:TypeId):P'.bytesOf t=P.bytesOf t:=by unfold Program.bytesOf;rw[T.info]
theorem abz:∀(d:Nat) (t:TypeId) (n:Nat),byteOfCell P' d t n=byteOfCell P d t n
 |0,_,_=>rfl
 |d+1,t,n=>by
  unfold byteOfCell;rw[T.under];simp only[aei T,anM T,abz d]
theorem po(h:AR ρ a Y):aw P P' jF ρ (byteOf a) (byteOf Y):=by
 obtain⟨c,o,s⟩:=h;unfold byteOf;cases s with
 |some s=>exact aj rfl
 |none=>
  refine ah dg λl p q d f=> ?_;obtain⟨rfl,rfl⟩:=f;refine ah (aeH (.mk (d.r c) o none)) λj _ _ g _=> ?_;refine ah (lU ((d.trans g).r c)) λm z i k e=> ?_;obtain rfl:z=i:=e;cases z with
  |none=>exact .halt _ _
  |some z=>
   obtain⟨e,n⟩:=z;dsimp only;rw[aei T,anM T,T.depth,abz T];refine aS (λ_=>aj rfl) λ_=> ?_;cases byteOfCell p p.depth e (o % p.cellsOf e) with
   |none=>exact .halt _ _
   |some b=>exact aj rfl
theorem abA(G:Nat)(t:TypeId)(J:IntKind)(N:P.underlying t=some (.int J))(j:VR ρ x W)(f:VR ρ y U):aw P P' jF ρ (Op.equalIn (G+1) t x y) (Op.equalIn (G+1) t W U):=by
 unfold Op.equalIn;refine ah (aF T t) λσ d d' M hd=> ?_;obtain⟨rfl,hd⟩:=hd;obtain rfl:d=.int J:=ef (hd.symm.trans N);replace j:=j.mono M;replace f:=f.mono M;cases j with
 |int k n=>cases f with
  |int k2 m=>exact aS (λ_=>aj rfl) (λ_=>.halt _ _)
  |pointer h=>cases h with
   |none=>exact .halt _ _
   |some h=>
    by_cases e:n=0
    .subst e;exact aj rfl
    .refine .dead ?_ _;split<;>first|exact gC _|(exfalso;simp_all)
  |_=>exact .halt _ _
 |pointer j=>cases j with
  |none=>cases f<;>exact .halt _ _
  |some j=>cases f with
   |int k m=>
    by_cases e:m=0
    .subst e;exact aj rfl
    .refine .dead ?_ _;split<;>first|exact gC _|(exfalso;simp_all)
   |pointer f=>cases f with
    |none=>exact .halt _ _
    |some f=>
     refine ah (mS j) λτ p p' A c=> ?_;refine ah (mS (f.mono A)) λυ q V R g=> ?_;obtain⟨c, -⟩:=c;obtain⟨g, -⟩:=g;obtain⟨a,l⟩:=p;obtain⟨v,l'⟩:=p';obtain⟨b,m⟩:=q;obtain⟨I,m'⟩:=V;replace c:=c.mono R;dsimp only at c g ⊢;refine ah dg λs z z' L Q=> ?_;obtain⟨rfl,rfl⟩:=Q;rw[T.globals.1,T.globals.2];replace c:=c.mono L;replace g:=g.mono L;have O:(a.block ==b.block)=(v.block ==I.block):=by
      obtain⟨o,K,H⟩:=c;obtain⟨r,Z,Y⟩:=g;rw[qc];simp only[mt];exact⟨λe=>by subst e;exact s.fn o r,λe=>by subst e;exact s.inj o r⟩
     have X:decide (a.block<gN)=decide (v.block<gN):=by
      obtain⟨o,K,H⟩:=c;exact uz.2 (s.kW o)
     have S:(a ==b)=(v ==I):=by
      rw[qc];simp only[mt];obtain⟨o,K,H⟩:=c;obtain⟨r,Z,Y⟩:=g;constructor
      .intro e;injection e with C w E
       subst C w E;rw[s.fn o r]
      .intro e;injection e with C w E
       subst C w E;rw[s.inj o r]
     rw[O,X,S];refine aS (λ_=> ?_) λ_=> ?_
     .refine ah (po T c) λF u D B e=> ?_;obtain rfl:u=D:=e;refine ah (po T (g.mono B)) λF u D B e=> ?_;obtain rfl:u=D:=e;exact aj rfl
     .refine ah (dO T t) λF i i' B e=> ?_;obtain⟨rfl,_⟩:=e;split
      .exact aS (λ_=>aj rfl) λ_=>.halt _ _
      .exact .halt _ _
   |_=>exact .halt _ _
 |_=>cases f<;>exact .halt _ _
theorem alg(t:TypeId)(a:IntKind)(c:P.underlying t=some (.int a))(d:VR ρ x W)(b:VR ρ y U):aw P P' jF ρ (Op.equal t x y) (Op.equal t W U):=by
 unfold Op.equal Op.maxDepth;exact abA T 9999 t a c d b
end
end
section
open Go
section
variable {P P':Program} {ρ:Ren}
variable (T:Twin P P')
include T
theorem abB(t:TypeId)(c:IntKind)(f:P.underlying t=some (.int c)):∀(l:List MapEntry) {d:List MapEntry} {ρ:Ren} {k g:Value},VR ρ k g->mQ ρ l d->∀i,aw P P' FdR ρ (Instr.findAsking t k l i) (Instr.findAsking t g d i)
 |[],_,_,_,_,_,.nil,_=>aj .none
 |_::l,_,ρ,_,_,hk,.cons (.mk h1 h2 b) y,i=>by
  unfold Instr.findAsking;refine ah (alg T t c f hk h1) λm x j a e=> ?_;obtain rfl:x=j:=e;exact aS (λ_=>aj (.some i (h2.mono a))) λ_=>abB t c f l (hk.mono a) (y.mono a) (i+1)
theorem agG(t:TypeId)(a:IntKind)(e:P.underlying t=some (.int a)){l l':List MapEntry}(f:VR ρ k k')(g:mQ ρ l l'):aw P P' FdR ρ (Instr.findKey t k l) (Instr.findKey t k' l'):=by
 unfold Instr.findKey;refine ah (aF T t) λm d j b hd=> ?_;obtain⟨rfl,hd⟩:=hd;obtain rfl:d=.int a:=ef (hd.symm.trans e);refine Or.elim (agF e (f.mono b) (g.mono b) 0) (λh=> ?_) (λ⟨i,c⟩=>by rw[i];exact .dead c _);revert h;generalize Instr.findNow (.int a) k l 0=r;generalize Instr.findNow (.int a) k' l' 0=r';intro h;cases h with
 |none=>exact abB T t a e l (f.mono b) (g.mono b) 0
 |some h=>exact aj h
theorem aeI(b:Bool)(n:Nat)(t:TypeId)(a:IntKind)(c:P.underlying t=some (.int a))(k k':Value):aw P P' jF ρ (Instr.checkKey b (n+1) t k) (Instr.checkKey b (n+1) t k'):=by
 unfold Instr.checkKey;refine ah (aF T t) λg d e f hd=> ?_;obtain⟨rfl,hd⟩:=hd;obtain rfl:d=.int a:=ef (hd.symm.trans c);exact aj rfl
theorem aq2(t:TypeId)(E:∀k e,P.underlying t=some (.map k e)->∃s,P.underlying k=some (.int s))(D:VR ρ x W)(hi:VR ρ i U)(l:Bool):aw P P' VR ρ (Instr.lookup t x i l) (Instr.lookup t W U l):=by
 unfold Instr.lookup;refine ah (aF T t) λσ d O G hd=> ?_;obtain⟨rfl,hd⟩:=hd;replace D:=D.mono G;replace hi:=hi.mono G;cases d with
 |map f g=>
  obtain⟨s,p⟩:=E _ _ hd;have fin:∀{q:Ren} {m c:Array MapEntry},σ.Le q->mQ q m.toList c.toList->aw P P' VR q
    (do
     Instr.checkKey m.isEmpty 10000 f i
     let(v,k)<-match<-Instr.findKey f i m.toList with
      |some (_,v)=>pure (v,true)
      |none=>pure (<-zeroValue g,false)
     pure (if l then .tuple #[v,.bool k] else v))
    (do
     Instr.checkKey c.isEmpty 10000 f U
     let(v,k)<-match<-Instr.findKey f U c.toList with
      |some (_,v)=>pure (v,true)
      |none=>pure (<-zeroValue g,false)
     pure (if l then .tuple #[v,.bool k] else v)):=λ{q m c} y n=>by
   have B:m.isEmpty=c.isEmpty:=by
    rw[<-rV,<-rV];revert n;generalize m.toList=a;generalize c.toList=b;intro n;cases n<;>rfl
   rw[B];refine ah (aeI T _ _ f s p i U) λM _ _ F _=> ?_;refine ah (agG T f s p (hi.mono (y.trans F)) (n.mono F)) λJ r K N C=> ?_;have last:∀{A:Ren} {v w:Value} (b:Bool),VR A v w->aw P P' VR A (pure (if l then .tuple #[v,.bool b] else v)) (pure (if l then .tuple #[w,.bool b] else w)):=λb u=>by
    cases l
    .exact aj u
    .exact aj (.tuple (.cons u (.cons (.bool b) .nil)))
   cases C with
   |none=>exact ah (aaW T g) λA z L _ H=>last false H
   |some j u=>exact last true u
  cases D with
  |map E=>cases E with
   |none=>exact fin (Ren.Le.refl _) .nil
   |some C=>
    refine ah (eO C) λq o Q y I=> ?_;cases I with
    |map n k=>exact fin y n
    |_=>exact .halt _ _
  |_=>exact .halt _ _
 |_=>exact .halt _ _
end
end
section
open Go
def AR.eq_iff{ρ:Ren}(j:AR ρ a Y)(k:AR ρ b N):(a ==b)=(Y ==N):=by
 rw[qc];simp only[mt];obtain⟨i,o,l⟩:=j;obtain⟨g,n,m⟩:=k;constructor
 .intro e;injection e with c f d
  subst c f d;rw[ρ.fn i g]
 .intro e;injection e with c f d
  subst c f d;rw[ρ.inj i g]
def OAR.eq_iff{ρ:Ren}{a b : Option Addr}(d:OAR ρ a Q)(c:OAR ρ b F):(a ==b)=(Q ==F):=by
 cases d with
 |none=>cases c<;>rfl
 |some d=>cases c with
  |none=>rfl
  |some c=>exact AR.eq_iff d c
def NR.eq_iff{ρ:Ren}{a b f : Option Nat}(d:NR ρ a E)(c:NR ρ b f):(a ==b)=(E ==f):=by
 rw[qc];simp only[mt];cases d with
 |none=>cases c<;>simp
 |some d=>cases c with
  |none=>simp
  |some c=>
   simp only[jt];exact⟨λe=>by subst e;exact ρ.fn d c,λe=>by subst e;exact ρ.inj d c⟩
def awI{ρ:Ren}{f:Value->Value->Bool}(c:∀x i y g,VR ρ x i->VR ρ y g->f x y=true->f i g=true):∀{a d b e:List Value},bU ρ a d->bU ρ b e->((a.zip b).all λ(x,y)=>f x y)=true->((d.zip e).all λ(x,y)=>f x y)=true
 |_,_,_,_,.nil,_,_=>rfl
 |_,_,_,_,.cons _ _,.nil,_=>rfl
 |_,_,_,_,.cons x y,.cons u v,h=>by
  rw[List.zip_cons_cons,qx,fk] at h ⊢;exact⟨c _ _ _ _ x u h.1,awI c y v h.2⟩
def alh{ρ:Ren}:∀(n:Nat) {x d y c:Value},VR ρ x d->VR ρ y c->Instr.sameBits n x y=true->Instr.sameBits n d c=true:=by
 intro n
 induction n with
 |zero=>
  intro x d y c b a;cases b with
  |pointer h=>cases a with
   |pointer k=>intro e;exact(OAR.eq_iff h k).symm.trans e
   |_=>intro e;cases e
  |chan h=>cases a with
   |chan k=>intro e;exact(NR.eq_iff h k).symm.trans e
   |_=>intro e;cases e
  |_=>cases a<;>first|exact id|(intro e;cases e;done)
 |succ n f=>
  intro x d y c b a;cases b with
  |agg b=>
   cases a with
   |agg a=>
    unfold Instr.sameBits;rw[bU.size b,bU.size a,fk,fk];exact λh=>⟨h.1,awI (λ_ _ _ _=>f) b a h.2⟩
   |_=>intro e;cases e
  |iface t b=>cases a with
   |iface u a=>
    unfold Instr.sameBits;rw[fk,fk];exact λh=>⟨h.1,f b a h.2⟩
   |_=>intro e;cases e
  |pointer h=>cases a with
   |pointer k=>intro e;exact(OAR.eq_iff h k).symm.trans e
   |_=>intro e;cases e
  |chan h=>cases a with
   |chan k=>intro e;exact(NR.eq_iff h k).symm.trans e
   |_=>intro e;cases e
  |_=>cases a<;>first|exact id|(intro e;cases e;done)
def mQ.push{ρ:Ren}{a : Array MapEntry}(h:mQ ρ a.toList O.toList){e e':MapEntry}(k:ER ρ e e'):mQ ρ (a.push e).toList (O.push e').toList:=by
 rw[rN,rN];revert h;generalize a.toList=l;generalize O.toList=l';intro h
 induction l generalizing l' with
 |nil=>cases h;exact .cons k .nil
 |cons x l b=>cases h with
  |cons u v=>exact .cons u (b _ v)
def mQ.modify{ρ:Ren}{a : Array MapEntry}(h:mQ ρ a.toList O.toList)(i:Nat){f f':MapEntry->MapEntry}(c:∀e b,ER ρ e b->ER ρ (f e) (f' b)):mQ ρ (a.modify i f).toList (O.modify i f').toList:=by
 rw[wl,wl];revert h;generalize a.toList=l;generalize O.toList=l';intro h
 induction l generalizing l' i with
 |nil=>cases h;simpa using .nil
 |cons x l d=>cases h with
  |cons u v=>cases i with
   |zero=>exact .cons (c _ _ u) v
   |succ i=>exact .cons u (d i _ v)
def mQ.at{ρ:Ren}{a : Array MapEntry}(h:mQ ρ a.toList O.toList)(i:Nat)(c:VR ρ k k'):VR ρ (((a[i]?).map (·.key)).getD k) (((O[i]?).map (·.key)).getD k'):=by
 rw[<-eg,<-eg];revert h;generalize a.toList=l;generalize O.toList=l';intro h
 induction l generalizing l' i with
 |nil=>cases h;simpa using c
 |cons x l d=>cases h with
  |cons u v=>cases i with
   |zero=>cases u with
    |mk e f b=>simpa using e
   |succ i=>simpa using d i _ v
section
variable {P P':Program} {ρ:Ren}
def aeJ(f:VR ρ x W)(a:VR ρ y U):aw P P' VR ρ (Instr.keyThatStays x y) (Instr.keyThatStays W U):=by
 unfold Instr.keyThatStays;by_cases b:Instr.sameBits 10000 x y=true
 .rw[dj b,dj (alh 10000 f a b)];exact aj a
 rw[bv b];by_cases d:Instr.sameBits 10000 W U=true
 .rw[dj d];refine aw.abu (.extern "map.whichKeyStays" 2) 0 rfl ?_;exact aj a
 rw[bv d];refine ah (iM _) λi n g c e=> ?_;obtain rfl:n=g:=e;by_cases e:n=0
 .rw[dj e,dj e];exact aj (a.mono c)
 .rw[bv e,bv e];exact aj (f.mono c)
variable (T:Twin P P')
include T
theorem adm(t:TypeId)(H:∀k e,P.underlying t=some (.map k e)->∃p,P.underlying k=some (.int p))(A:VR ρ x W)(hi:VR ρ i U)(s:VR ρ v v'):aw P P' jF ρ (Instr.mapUpdate t x i v) (Instr.mapUpdate t W U v'):=by
 unfold Instr.mapUpdate;refine ah (aF T t) λS d Q z hd=> ?_;obtain⟨rfl,hd⟩:=hd;replace A:=A.mono z;replace hi:=hi.mono z;replace s:=s.mono z;cases d with
 |map m D=>
  obtain⟨p,l⟩:=H _ _ hd;cases A with
  |map w=>cases w with
   |none=>exact .dead (eG _) _
   |some y=>
    refine ah (eO y) λR o V C G=> ?_;cases G with
    |map u c=>
     refine ah (aeI T _ _ m p l i U) λK _ _ g _=> ?_;refine ah (agG T m p l (hi.mono (C.trans g)) (u.mono g)) λJ r I q F=> ?_;have f:=C.trans (g.trans q);cases F with
     |none=>exact iL (f.r y) (.map ((u.mono (g.trans q)).push (.mk (hi.mono f) (s.mono f) c)) _)
     |some j O=>
      refine ah (aeJ ((u.mono (g.trans q)).at j (hi.mono f)) (hi.mono f)) λL k N B E=> ?_;refine iL ((f.trans B).r y) (.map ((u.mono (g.trans (q.trans B))).modify j λe M h=> ?_) _);cases h with
      |mk a b n=>exact .mk E (s.mono (f.trans B)) n
    |_=>exact .halt _ _
  |_=>exact .halt _ _
 |_=>exact .halt _ _
end
end
section
open Go
def mQ.filter{ρ:Ren}(p:Nat->Bool):∀{l l':List MapEntry},mQ ρ l l'->mQ ρ (l.filter λe=>p e.born) (l'.filter λe=>p e.born)
 |_,_,.nil=>.nil
 |_,_,.cons (v:=v) (v':=v') (l:=l) (l':=l') h y=>by
  have a:v.born=v'.born:=by cases h;rfl
  rw[rR,rR,a];split
  .exact .cons h (mQ.filter p y)
  .exact mQ.filter p y
def mQ.all{ρ:Ren}(p:Nat->Bool):∀{l l':List MapEntry},mQ ρ l l'->(l.all λe=>p e.born)=(l'.all λe=>p e.born)
 |_,_,.nil=>rfl
 |_,_,.cons (v:=v) (v':=v') (l:=l) (l':=l') h y=>by
  have a:v.born=v'.born:=by cases h;rfl
  rw[qx,qx,a,mQ.all p y]
def mQ.len{ρ:Ren}:∀{l a:List MapEntry},mQ ρ l a->l.length=a.length
 |_,_,.nil=>rfl
 |_,_,.cons _ y=>by simp[y.len]
def mQ.app{ρ:Ren}:∀{l b:List MapEntry},mQ ρ l b->∀{m a:List MapEntry},mQ ρ m a->mQ ρ (l++m) (b++a)
 |_,_,.nil,_,_,h=>h
 |_,_,.cons x y,_,_,h=>.cons x (y.app h)
def mQ.get{ρ:Ren}:∀{l a:List MapEntry},mQ ρ l a->∀i:Nat,(l[i]?=none/\a[i]?=none)\/∃e b,l[i]?=some e/\a[i]?=some b/\ER ρ e b
 |_,_,.nil,_=>.inl ⟨rfl,rfl⟩
 |_,_,.cons x _,0=>.inr ⟨_,_,rfl,rfl,x⟩
 |_,_,.cons _ y,i+1=>by simpa using y.get i
inductive OER (ρ:Ren):Option MapEntry->Option MapEntry->Prop
 |none:OER ρ none none
 |some {e e':MapEntry} (h:ER ρ e e'):OER ρ (some e) (some e')
def axV{ρ:Ren}(b:Bool){a : Array MapEntry}(h:mQ ρ a.toList O.toList)(n:Nat) :
  (((if b then #[none] else #[])++a.map some)[n]?=none/\((if b then #[none] else #[])++O.map some)[n]?=none)\/∃e c,((if b then #[none] else #[])++a.map some)[n]?=some e/\((if b then #[none] else #[])++O.map some)[n]?=some c/\OER ρ e c:=by
 have d:∀i:Nat,((a.map some)[i]?=none/\(O.map some)[i]?=none)\/∃e c,(a.map some)[i]?=some e/\(O.map some)[i]?=some c/\OER ρ e c:=λi=>by
  rw[rm,rm,<-eg,<-eg];rcases h.get i with⟨g,f⟩|⟨e,c,g,f,j⟩
  .rw[g,f];exact .inl ⟨rfl,rfl⟩
  .rw[g,f];exact .inr ⟨_,_,rfl,rfl,.some j⟩
 cases b with
 |false=>simpa using d n
 |true=>
  cases n with
  |zero=>exact .inr ⟨none,none,by simp[sN],by simp[sN],.none⟩
  |succ n=>
   have k:∀x:Array (Option MapEntry),(#[none]++x)[n+1]?=x[n]?:=λx=>by simp[sN]
   simp only[pr,k];exact d n
section
variable {P P':Program} {ρ:Ren}
def axW(h:VR ρ x W)(b:Bool)(t:TypeId):aw P P' VR ρ (Instr.next x b t) (Instr.next W b t):=by
 unfold Instr.next
 cases h with
 |pointer h=>cases h with
  |none=>exact .halt _ _
  |some h=>
   obtain⟨A,o,s⟩:=h;cases o with
   |succ n=>exact .halt _ _
   |zero=>
    refine ah (eO A) λS q M F w=> ?_;cases w with
    |stringIter s p=>cases b with
     |false=>exact .halt _ _
     |true=>
      refine aS (λ_=> ?_) λ_=>aj (.tuple (.cons (.bool _) .nil));exact ah (iL (F.r A) (.stringIter _ _)) λ_ _ _ _ _=>aj (.tuple (.cons (.bool _) (.cons (.int _ _) (.cons (.int _ _) .nil))))
    |mapIter l c d last=>cases b with
     |true=>cases l<;>exact .halt _ _
     |false=>cases l with
      |none=>exact aj (.tuple (.cons (.bool _) .nil))
      |some l=>
       refine ah (eO l) λR q M D w=> ?_;cases w with
       |@map k f m B=>
        have J:k.isEmpty=f.isEmpty:=by
         rw[<-rV,<-rV];revert m;generalize k.toList=a;generalize f.toList=b;intro m;cases m<;>rfl
        have K:(k.all λe=>decide (e.born>=last))=(f.all λe=>decide (e.born>=last)):=by
         rw[<-Array.all_toList,<-Array.all_toList];exact m.all λn=>decide (n>=last)
        have z:=m.filter λn=>!d.contains n;have j:=z.filter λn=>decide (n<c);have G:=z.filter λn=>decide (n>=c);simp only[<-Array.toList_filter] at z j G;dsimp only;rw[J,K];refine aS (λ_=>.halt _ _) λ_=> ?_;have r:=j.app G;rw[<-pv,<-pv] at r;have C:(Array.filter (λe=>decide (e.born<c)) (Array.filter (λe=>!d.contains e.born) k)).isEmpty=(Array.filter (λe=>decide (e.born<c)) (Array.filter (λe=>!d.contains e.born) f)).isEmpty:=by
         rw[<-rV,<-rV];revert j;generalize Array.toList _=a;generalize Array.toList _=b;intro j;cases j<;>rfl
        rw[C];have g:=r.len;simp only[qX] at g;revert r g;generalize Array.isEmpty _=bb;generalize Array.filter _ (Array.filter _ k)++_=c1;generalize Array.filter _ (Array.filter _ f)++_=c2;intro r g;rw[rZ,rZ,tI,tI,g];refine ah (iM _) λO n H u e=> ?_;obtain rfl:n=H:=e;rcases axV bb r n with⟨y,v⟩|⟨e,Q,y,v,i⟩
        .rw[y,v];exact .halt _ _
        .rw[y,v];cases i with
         |none=>exact aj (.tuple (.cons (.bool _) .nil))
         |some i=>
          obtain⟨I,L,T⟩:=i;exact ah (iL ((F.trans (D.trans u)).r A) (.mapIter (.some ((D.trans u).r l)) _ _ _)) λN _ _ E _=>aj (.tuple (.cons (.bool _) (.cons ((I.mono u).mono E) (.cons ((L.mono u).mono E) .nil))))
       |_=>exact .halt _ _
    |_=>cases b<;>exact .halt _ _
 |_=>exact .halt _ _
end
end
section
open Go
section
variable {P P':Program} {ρ:Ren}
def LeR(_:Ren)(b b':Bool):Prop:=b'=true->b=true
def abC(h:AR ρ a Y):aw P P' LeR ρ (frozen a) (frozen Y):=.frozen h λ_ _ b=>aj b
def adn(h:AR ρ a Y):aw P P' LeR ρ (stringish a) (stringish Y):=by
 obtain⟨c,o,s⟩:=h;unfold stringish;refine ah (abC (.mk c o s)) λk b f d e=> ?_;cases f with
 |true=>
  obtain rfl:=e rfl;exact aj λ_=>rfl
 |false=>
  cases b with
  |true=>
   refine aw.ahJ λz=> ?_;cases z with
   |none=>exact aj λ_=>rfl
   |some z=>exact aw.aeh λb=>aj λ_=>rfl
  |false=>
   refine ah (lU (d.r c)) λj z i g e=> ?_;obtain rfl:z=i:=e;cases z with
   |none=>exact aj id
   |some z=>exact abC (.mk ((d.trans g).r c) _ none)
def ali(l:AR ρ a Y)(j:AR ρ b N):aw P P' LeR ρ (mayBeOne a b) (mayBeOne Y N):=by
 have c:∀{i:Ren} {a Y:Addr},AR i a Y->aw P P' jF i (do pure ((<-shape a.block) matches some (_,0)):Sem Bool) (do pure ((<-shape Y.block) matches some (_,0))):=λh=>by
  obtain⟨n,o,s⟩:=h;refine ah (lU n) λp z f d e=> ?_;obtain rfl:z=f:=e;exact aj rfl
 unfold mayBeOne;refine ah (adn l) λi x v g m=> ?_;refine ah (adn (j.mono g)) λp y t d r=> ?_;refine ah (c (l.mono (g.trans d))) λq z f k e=> ?_;obtain rfl:z=f:=e;refine ah (c (j.mono (g.trans (d.trans k)))) λq u w k e=> ?_;obtain rfl:u=w:=e;refine aj ?_;unfold LeR at m r ⊢;cases x<;>cases v<;>cases y<;>cases t<;>cases z<;>cases u<;>simp_all
def aeK(g:AR ρ a Y)(f:AR ρ b N):aw P P' jF ρ (sameAddr a b) (sameAddr Y N):=by
 unfold sameAddr;have i:(a.block ==b.block)=(Y.block ==N.block):=by
  obtain⟨k,G,J⟩:=g;obtain⟨d,F,D⟩:=f;rw[qc];simp only[mt];exact⟨λe=>by subst e;exact ρ.fn k d,λe=>by subst e;exact ρ.inj k d⟩
 rw[i,AR.eq_iff g f];refine aS (λ_=>aj rfl) λ_=> ?_;refine ah (abC g) λK x m q r=> ?_;refine ah (abC (f.mono q)) λI y l t w=> ?_;have d:=q.trans t;by_cases c:(x&&y)=true
 .rw[dj c];exact .halt _ _
 have j:¬(m&&l)=true:=λe=>c (by
  unfold LeR at r w;cases x<;>cases m<;>cases y<;>cases l<;>simp_all)
 rw[bv c,bv j];refine ah (aeH (g.mono d)) λC _ _ o _=> ?_;refine ah (aeH (f.mono (d.trans o))) λA _ _ v _=> ?_;have p:=d.trans (o.trans v);refine ah (ali (g.mono p) (f.mono p)) λE z u L e=> ?_;cases u with
 |true=>
  obtain rfl:=e rfl;refine ah (iM _) λB n s H e=> ?_;obtain rfl:n=s:=e;exact aj rfl
 |false=>
  cases z with
  |false=>exact aj rfl
  |true=>exact aw.abu (.extern "sameAddr.stringBytes" 2) 0 rfl (.pure rfl)
end
end
section
open Go
inductive agH {β δ:Type} (B:Ren->β->δ->Prop) (ρ:Ren):ForInStep β->ForInStep δ->Prop
 |done {b d} (h:B ρ b d):agH B ρ (.done b) (.done d)
 |yield {b d} (h:B ρ b d):agH B ρ (.yield b) (.yield d)
section
variable {P P':Program} {β δ:Type} {B:Ren->β->δ->Prop}
def pq{i:Type}:∀(l:List i) {ρ:Ren} {b:β} {d:δ} {f:i->β->Sem (ForInStep β)} {g:i->δ->Sem (ForInStep δ)},B ρ b d->
  (∀(e:Ren) a b d,ρ.Le e->a∈l->B e b d->aw P P' (agH B) e (f a b) (g a d))->aw P P' B ρ (forIn l b f) (forIn l d g)
 |[],_,_,_,_,_,c,_=>by
  rw[ub,ub];exact aj c
 |a::l,ρ,_,_,f,g,c,hf=>by
  rw[tR,tR];refine ah (hf ρ a _ _ (Ren.Le.refl _) (by simp) c) λe s o m h=> ?_;cases h with
  |done h=>exact aj h
  |yield h=>exact pq l h λj a b d k n c=>hf j a b d (m.trans k) (by simp[n]) c
def abD (l:Array V) {ρ:Ren} {b:β} {d:δ} {f:V->β->Sem (ForInStep β)} {g:V->δ->Sem (ForInStep δ)} (j:B ρ b d)
  (e:∀(c:Ren) a b d,ρ.Le c->a∈l->B c b d->aw P P' (agH B) c (f a b) (g a d)):aw P P' B ρ (forIn l b f) (forIn l d g):=by
 rw[<-tz,<-tz];exact pq l.toList j λc a b d k i=>e c a b d k (by simpa using i)
def abE (n:Nat) {ρ:Ren} {b:β} {d:δ} {f:Nat->β->Sem (ForInStep β)} {g:Nat->δ->Sem (ForInStep δ)} (i:B ρ b d)
  (e:∀(c:Ren) a b d,ρ.Le c->B c b d->aw P P' (agH B) c (f a b) (g a d)):aw P P' B ρ (forIn [0:n] b f) (forIn [0:n] d g):=by
 rw[tN,tN];exact pq _ i λc a b d j _=>e c a b d j
end
end
section
open Go
def aq3{c:Prop}[Decidable c]{t : Sem V}(h:kX P s)(k:kX P t):kX P (if c then s else t):=by
 split
 .exact h
 .exact k
section
variable {P P':Program} {ρ:Ren}
variable (T:Twin P P')
include T
theorem aac:∀(d:Nat) {ρ:Ren} (t:TypeId) {x I y H:Value},VR ρ x I->VR ρ y H->aw P P' jF ρ (Op.equalIn d t x y) (Op.equalIn d t I H)
 |0,_,_,_,_,_,_,_,_=>.halt _ _
 |d+1,ρ,t,x,I,y,H,j,g=>by
  by_cases C:∃s,P.underlying t=some (.int s)
  .obtain⟨s,C⟩:=C;exact abA T d t s C j g
  unfold Op.equalIn;refine ah (aF T t) λσ u u' M hd=> ?_;obtain⟨rfl,hd⟩:=hd;replace j:=j.mono M;replace g:=g.mono M;cases u with
  |int s=>exact absurd ⟨s,hd⟩ C
  |bool=>cases j<;>cases g<;>first|exact aj rfl|exact .halt _ _
  |string=>cases j<;>cases g<;>first|exact aj rfl|exact .halt _ _
  |float k=>cases j<;>cases g<;>first|exact aS (λ_=>aj rfl) (λ_=>.halt _ _)|exact .halt _ _
  |complex k=>cases j<;>cases g<;>first|exact aS (λ_=>aj rfl) (λ_=>.halt _ _)|exact .halt _ _
  |struct X=>cases j with
   |agg j=>cases g with
    |agg g=>
     refine ah dg λA p p' l q=> ?_;obtain⟨Y,W⟩:=q;rw[Y,W,T.stood];refine aS (λ_=>.halt _ _) λ_=> ?_;refine ah (abD (B:=jF) X (rfl:jF A (none,()) (none,())) λE f r o w _ _=> ?_) λE r o w e=> ?_
     .have v:=l.trans w;refine aS (λ_=> ?_) λ_=>aj (.yield rfl);refine ah (mB T f.type (bU.mono v j) f.offset) λV a U L J=> ?_;refine ah (mB T f.type (bU.mono (v.trans L) g) f.offset) λS b R F D=> ?_;refine ah (aac d f.type (J.mono F) D) λQ q K _ e=> ?_;obtain rfl:q=K:=e;exact aS (λ_=>aj (.done rfl)) λ_=>aj (.yield rfl)
     .obtain rfl:r=o:=e;obtain⟨_|q,u⟩:=r<;>exact aj rfl
    |_=>exact .halt _ _
   |_=>cases g<;>exact .halt _ _
  |array n e=>cases j with
   |agg j=>cases g with
    |agg g=>
     refine ah (fN T e) λA z G l q=> ?_;obtain rfl:z=G:=q;refine ah (abE (B:=jF) n (rfl:jF A (none,()) (none,())) λE f r o w _=> ?_) λE r o w e=> ?_
     .have v:=l.trans w;refine ah (mB T e (bU.mono v j) (f*z)) λV a U L J=> ?_;refine ah (mB T e (bU.mono (v.trans L) g) (f*z)) λS b R F D=> ?_;refine ah (aac d e (J.mono F) D) λQ q K _ e=> ?_;obtain rfl:q=K:=e;exact aS (λ_=>aj (.done rfl)) λ_=>aj (.yield rfl)
     .obtain rfl:r=o:=e;obtain⟨_|q,u⟩:=r<;>exact aj rfl
    |_=>exact .halt _ _
   |_=>cases g<;>exact .halt _ _
  |interface Z=>cases j with
   |nilIface=>cases g<;>first|exact aj rfl|exact .halt _ _
   |iface N j=>cases g with
    |nilIface=>exact aj rfl
    |iface ty g=>
     refine aS (λ_=>aj rfl) λ_=> ?_;refine ah (dO T N) λA i i' l q=> ?_;obtain⟨rfl,_⟩:=q;refine aS (λ_=> ?_) λ_=>aac d N (j.mono l) (g.mono l);refine .dead (iK pj λp=> ?_) _;refine aq3 (gC _) (iK (aeF _) λ_=>eG _)
    |_=>exact .halt _ _
   |_=>cases g<;>exact .halt _ _
  |pointer e=>cases j with
   |pointer h=>cases h with
    |none=>cases g with
     |pointer k=>cases k<;>exact aj rfl
     |_=>exact .halt _ _
    |some h=>cases g with
     |pointer k=>cases k with
      |none=>exact aj rfl
      |some k=>
       refine ah (fN T e) λA z G l q=> ?_;obtain rfl:z=G:=q;refine aS (λ_=>aeK (h.mono l) (k.mono l)) λ_=> ?_;rw[AR.eq_iff h k];refine aS (λ_=>aj rfl) λ_=>ah (iM _) λυ n O hu q=> ?_;obtain rfl:n=O:=q;exact aj rfl
     |_=>exact .halt _ _
   |_=>cases g<;>exact .halt _ _
  |unsafePointer=>cases j with
   |pointer h=>cases g with
    |pointer k=>cases h with
     |none=>cases k<;>exact aj rfl
     |some h=>cases k with
      |none=>exact aj rfl
      |some k=>exact aeK h k
    |_=>exact .halt _ _
   |_=>cases g<;>exact .halt _ _
  |chan a b=>cases j with
   |chan h=>cases g with
    |chan k=>
     exact aj (NR.eq_iff h k)
    |_=>exact .halt _ _
   |_=>cases g<;>exact .halt _ _
  |slice e=>cases j with
   |slice h n c=>cases h with
    |none=>cases g with
     |slice k m c=>cases k<;>exact aj rfl
     |_=>exact .halt _ _
    |some h=>cases g with
     |slice k m c=>cases k with
      |none=>exact aj rfl
      |some k=>exact .halt _ _
     |_=>exact .halt _ _
   |_=>cases g<;>exact .halt _ _
  |map k e=>cases j with
   |map h=>cases h with
    |none=>cases g with
     |map k=>cases k<;>exact aj rfl
     |_=>exact .halt _ _
    |some h=>cases g with
     |map k=>cases k with
      |none=>exact aj rfl
      |some k=>exact .halt _ _
     |_=>exact .halt _ _
   |_=>cases g<;>exact .halt _ _
  |func a b c=>cases j with
   |nilFunc=>cases g<;>first|exact aj rfl|exact .halt _ _
   |func=>cases g<;>first|exact aj rfl|exact .halt _ _
   |abt=>cases g<;>first|exact aj rfl|exact .halt _ _
   |_=>cases g<;>exact .halt _ _
  |_=>exact .halt _ _
end
end
section
open Go
section
variable {P P':Program} {ρ:Ren}
def aeL{β:Type}{f f':Value->β->Sem (ForInStep β)}:∀{l e:List Value} {ρ:Ren},(∀(c:Ren) v b s,ρ.Le c->VR c v b->aw P P' (agH jF) c (f v s) (f' b s))->bU ρ l e->∀s,aw P P' jF ρ (forIn l s f) (forIn e s f')
 |_,_,_,_,.nil,s=>by rw[ub,ub];exact aj rfl
 |_,_,ρ,hf,.cons x y,s=>by
  rw[tR,tR];refine ah (hf ρ _ _ s (Ren.Le.refl _) x) λc a k d h=> ?_;cases h with
  |done h=>exact aj h
  |yield h=>
   obtain rfl:=h;exact aeL (λg v b s i j=>hf g v b s (d.trans i) j) (bU.mono d y) _
def ad1(h:VR ρ x W):aw P P' VR ρ (Conv.bytesToString x) (Conv.bytesToString W):=by
 unfold Conv.bytesToString;cases h with
 |slice h l c=>
  cases h with
  |none=>exact aj (.string _)
  |some h=>
   refine ah (oY h l) λo c j m g=> ?_;refine ah (A:=jF) ?_ λb s a d e=> ?_
   .rw[<-tz,<-tz];refine aeL (λb v i s d f=> ?_) g ByteArray.empty;cases f with
    |int k n=>cases k<;>first|exact aj (.yield rfl)|exact .halt _ _
    |_=>exact .halt _ _
   .obtain rfl:s=a:=e;exact aj (.string _)
 |_=>exact .halt _ _
variable (T:Twin P P')
include T
omit T in
theorem ad2(e:TypeId)(s:ByteArray):aw P P' VR ρ (Conv.stringToBytes e s) (Conv.stringToBytes e s):=by
 unfold Conv.stringToBytes;refine ah (iM _) λf n c l q=> ?_;obtain rfl:n=c:=q;refine aw.aub (P:=P) (P':=P') (A:=VR) (ρ:=f) e (k:=λr=>Sem.pure (Value.slice (some ⟨r,0,none⟩) s.size n)) (k':=λr=>Sem.pure (Value.slice (some ⟨r,0,none⟩) s.size n)) (bU.kI λv a=> ?_) λi r g j d=>aw.pure (VR.slice (.some (.mk d 0 none)) _ _);simp only[pv,io,Array.toList_replicate,List.mem_replicate] at a;rcases a with a|⟨_,rfl⟩
 .simp at a;obtain⟨b,_,rfl⟩:=a;exact .int _ _
 .exact .int _ _
omit T in
theorem abF(ts:Array TypeId)(b t:TypeId)(n:∀e,P.underlying b≠some (.pointer e)){a : Array Value}(h:dm ρ a Z):aw P P' VR ρ (Builtin.unsafeSliceData_ ts b a) (Builtin.unsafeSliceData_ ts t Z):=by
 unfold Builtin.unsafeSliceData_;obtain⟨a⟩:=a;obtain⟨Z⟩:=Z;have h:bU ρ a Z:=h;cases h with
 |nil=>exact .halt _ _
 |cons g j=>
  cases j with
  |cons=>cases g<;>exact .halt _ _
  |nil=>
   cases g with
   |slice f l c=>
    cases f with
    |none=>exact aj (.pointer .none)
    |some f=>
     refine aS (λ_=>aj (.pointer (.some f))) λ_=> ?_
     .obtain⟨k,o,s⟩:=f;refine ah (aby k) λu x v r q=> ?_;obtain⟨rfl,rfl⟩:=q;refine .dead ?_ _;refine Leaves.bind (A:=λ_=>False) ?_ λ_ h=>h.elim;unfold elemOf;refine Leaves.bind (A:=λd=>∀e,d ≠ .pointer e) ?_ λd hd=> ?_
      .show Leaves P _ (match P.underlying b with|some i=>pure i|none=>stuck "no such type");cases m:P.underlying b with
       |none=>trivial
       |some d=>exact λe p=>n e (by rw[m,p])
      .cases d<;>first|trivial|exact absurd rfl (hd _)
   |_=>exact .halt _ _
theorem aaE(h:AR ρ a Y)(u:TypeId)(n:Nat):aw P P' jF ρ (variablesAt a u n) (variablesAt Y u n):=by
 obtain⟨c,o,s⟩:=h;unfold variablesAt;refine ah dg λj p k d b=> ?_;obtain⟨rfl,rfl⟩:=b;refine ah (lU (d.r c)) λg z f i e=> ?_;obtain rfl:z=f:=e;cases z with
 |none=>exact aj rfl
 |some z=>
  obtain⟨e,n⟩:=z;dsimp only;rw[T.lies,T.depth,aei T];exact aj rfl
theorem ai5(t:TypeId):aw P P' jF ρ (elemOf t) (elemOf t):=by
 unfold elemOf;refine ah (aF T t) λb d c a hd=> ?_;obtain⟨rfl, -⟩:=hd;cases d<;>first|exact aj rfl|exact .halt _ _
theorem aeM(ts:Array TypeId)(t:TypeId){a : Array Value}(h:dm ρ a Z):aw P P' VR ρ (Builtin.unsafeString_ ts t a) (Builtin.unsafeString_ ts t Z):=by
 unfold Builtin.unsafeString_;obtain⟨a⟩:=a;obtain⟨Z⟩:=Z;have h:bU ρ a Z:=h;cases h with
 |nil=>exact .halt _ _
 |cons d c=>
  cases c with
  |nil=>cases d<;>exact .halt _ _
  |cons v c=>
   cases c with
   |cons=>cases d<;>exact .halt _ _
   |nil=>
    cases d with
    |pointer u=>
     dsimp only;refine ah (abv v) λB n l i e=> ?_;obtain rfl:n=l:=e;cases ts[0]? with
     |none=>exact .halt _ _
     |some p=>
      dsimp only;refine aS (λ_=>dP _) λ_=> ?_;refine aS (λ_=>.halt _ _) λ_=> ?_;cases u with
      |none=>exact aS (λ_=>aj (.string _)) λ_=>dP _
      |some j=>
       refine aS (λ_=>aj (.string _)) λ_=> ?_;refine ah (ai5 T p) λz e r g q=> ?_;obtain rfl:e=r:=q;refine ah (aaE T (j.mono (i.trans g)) e n.toNat) λy b o w q=> ?_;obtain rfl:b=o:=q;refine aS (λ_=> ?_) λ_=>.halt _ _;have f:∃m,n.toNat=m+1:=⟨n.toNat-1,by omega⟩;obtain⟨m,x⟩:=f;rw[x];exact aw.anH (P:=P) (P':=P') (A:=VR) m (k:=λs=>Sem.pure (Value.string s)) (k':=λs=>Sem.pure (Value.string s)) (j.mono (i.trans (g.trans w))) λs=>aw.pure (VR.string s)
    |_=>exact .halt _ _
theorem agb(ts:Array TypeId)(t:TypeId){a : Array Value}(h:dm ρ a Z):aw P P' VR ρ (Builtin.unsafeSlice_ ts t a) (Builtin.unsafeSlice_ ts t Z):=by
 unfold Builtin.unsafeSlice_;obtain⟨a⟩:=a;obtain⟨Z⟩:=Z;have h:bU ρ a Z:=h;cases h with
 |nil=>exact .halt _ _
 |cons f d=>
  cases d with
  |nil=>cases f<;>exact .halt _ _
  |cons y d=>
   cases d with
   |cons=>cases f<;>exact .halt _ _
   |nil=>
    cases f with
    |pointer v=>
     dsimp only;refine ah (abv y) λI n k g e=> ?_;obtain rfl:n=k:=e;cases ts[0]? with
     |none=>exact .halt _ _
     |some r=>
      dsimp only;refine ah (ai5 T r) λH e u l q=> ?_;obtain rfl:e=u:=q;refine aS (λ_=>dP _) λ_=> ?_;refine aS (λ_=>.halt _ _) λ_=> ?_;cases v with
      |none=>exact aS (λ_=>aj (.slice .none _ _)) λ_=>dP _
      |some c=>
       dsimp only;refine ah (dO T e) λE i J B q=> ?_;obtain⟨rfl, -⟩:=q;refine aS (λ_=>.halt _ _) λ_=> ?_;refine ah (fN T e) λC z p w q=> ?_;obtain rfl:z=p:=q;have c:=c.mono (g.trans (l.trans (B.trans w)));refine ah (aaE T c e n.toNat) λF b m j q=> ?_;obtain rfl:b=m:=q;refine aS (λ_=>aj (.slice (.some (c.mono j)) _ _)) λ_=> ?_;obtain⟨A,o,s⟩:=c.mono j;refine ah (aby A) λD x G g q=> ?_;obtain⟨rfl,rfl⟩:=q;exact .halt _ _
    |_=>exact .halt _ _
omit T in
theorem wA(s:Sem V):(s >>=λv=>(pure v:Sem V))=s:=by
 show s.bind Sem.pure=s
 induction s with
 |pure a=>rfl
 |load m a k b=>exact gn (Sem.load m a) (funext b)
 |store m a v k b=>exact gn (Sem.store m a v) b
 |new o k b=>exact gn (Sem.new o) (funext b)
 |shape r k b=>exact gn (Sem.shape r) (funext b)
 |freeze a n k b=>exact gn (Sem.freeze a n) b
 |frozen a k b=>exact gn (Sem.frozen a) (funext b)
 |getObj r k b=>exact gn (Sem.getObj r) (funext b)
 |setObj r o k b=>exact gn (Sem.setObj r o) b
 |choose q k b=>exact gn (Sem.choose q) (funext b)
 |sys c k b=>exact gn (Sem.sys c) (funext b)
 |program k b=>exact gn Sem.program (funext b)
 |mark m k b=>exact gn (Sem.mark m) b
 |halt h=>rfl
theorem abG(ts:Array TypeId)(t:TypeId)(A:VR ρ x W)(q:VR ρ y U):aw P P' (λj v i=>VR j v i/\∃a,v=.pointer a) ρ (Builtin.unsafeAdd_ ts t #[x,y]) (Builtin.unsafeAdd_ ts t #[W,U]):=by
 unfold Builtin.unsafeAdd_;cases A with
 |pointer d=>
  dsimp only;refine ah (abv q) λj n k w e=> ?_;obtain rfl:n=k:=e;cases d with
  |none=>exact aS (λ_=>.halt _ _) λ_=>aS (λ_=>.halt _ _) λ_=>.halt _ _
  |some g=>
   replace g:=g.mono w;obtain⟨b,o,s⟩:=g;dsimp only;refine aS (λ_=> ?_) λ_=> ?_
   .refine ah (aby b) λr v i c e=> ?_;obtain⟨rfl,rfl⟩:=e;exact aj ⟨.pointer (.some (.mk (c.r b) o s)),_,rfl⟩
   .refine aS (λ_=>.halt _ _) λ_=> ?_;refine ah (lU b) λr z l c e=> ?_;obtain rfl:z=l:=e;cases z with
    |none=>exact .halt _ _
    |some z=>
     obtain⟨e,m⟩:=z;dsimp only;refine ah dg λB p C u d=> ?_;obtain⟨rfl,rfl⟩:=d;rw[T.cellAt,T.depth,aei T];cases cellAtBytes p p.depth e (m / p.cellsOf e) o n with
     |none=>exact .halt _ _
     |some f=>exact aj ⟨.pointer (.some (.mk (u.r (c.r b)) f s)),_,rfl⟩
 |_=>exact .halt _ _
theorem jK(ts:Array TypeId)(t:TypeId)(b:VR ρ x W)(a:VR ρ y U):aw P P' VR ρ (Builtin.unsafeAdd_ ts t #[x,y]) (Builtin.unsafeAdd_ ts t #[W,U]):=by
 have h:=ah (f:=λv=>(pure v:Sem Value)) (f':=λv=>(pure v:Sem Value)) (B:=VR) (abG T ts t b a) λd v c _ e=>aj e.1
 rwa [wA,wA] at h
omit T in
theorem alj(h:AR ρ a Y)(l:Bool):aw P P' VR ρ (asNumber a l) (asNumber Y l):=ah (agC (.number h l)) λ_ _ _ _ b=>aj (.pointer (.some (.mk b 0 none)))
theorem gY(t:TypeId)(i:VR ρ x W)(f:VR ρ y U):aw P P' VR ρ (movedNumber t x y) (movedNumber t W U):=by
 unfold movedNumber;refine ah (aF T t) λu d D m hd=> ?_;obtain⟨rfl, -⟩:=hd;replace i:=i.mono m;replace f:=f.mono m;cases i with
 |pointer g=>
  cases g with
  |none=>
   have c:=jK T #[] t (.pointer .none) f;cases d<;>first|exact .halt _ _|exact c
  |@some a k w=>
   have c:aw P P' VR u (do
     let(a,lost)<-behindNumber a
     match<-Builtin.unsafeAdd_ #[] t #[.pointer (some a),y] with
     |.pointer (some b)=>asNumber b lost
     |v=>pure v) (do
     let(a,lost)<-behindNumber k
     match<-Builtin.unsafeAdd_ #[] t #[.pointer (some a),U] with
     |.pointer (some b)=>asNumber b lost
     |v=>pure v):=by
    refine ah (mS w) λE q A o e=> ?_;obtain⟨a,l⟩:=q;obtain⟨k,z⟩:=A;obtain⟨s,n⟩:=e;obtain rfl:l=z:=n;refine ah (abG T _ t (.pointer (.some s)) (f.mono o)) λC v B F j=> ?_;obtain⟨j,p,rfl⟩:=j;cases j with
    |pointer g=>cases g with
     |none=>exact aj (.pointer .none)
     |some r=>exact alj r l
   cases d<;>first|exact .halt _ _|exact c
 |_=>cases d<;>exact .halt _ _
theorem aeN(t:TypeId)(g:VR ρ x W)(a:VR ρ y U):aw P P' VR ρ (movedPointer t x y) (movedPointer t W U):=by
 unfold movedPointer;cases g with
 |pointer d=>
  cases d with
  |none=>exact jK T _ t (.pointer .none) a
  |some i=>
   obtain⟨b,o,s⟩:=i;refine ah (aeG b) λm n j c e=> ?_;cases e with
   |none=>exact jK T #[] t (.pointer (.some (.mk (c.r b) o s))) (a.mono c)
   |some h l=>exact .halt _ _
 |fV=>exact .halt _ _
 |abt k f=>exact jK T _ t (.abt k f) a
 |_=>exact jK T _ t (by constructor<;>assumption) a
theorem ado(j:AR ρ a Y)(g:AR ρ b N):aw P P' jF ρ (Op.twoPlaces a b) (Op.twoPlaces Y N):=by
 unfold Op.twoPlaces;refine ah dg λu p n i k=> ?_;obtain⟨rfl,rfl⟩:=k;have o:(a.block !=b.block||decide (a.block>=p.globals.size))=(Y.block !=N.block||decide (Y.block>=n.globals.size)):=by
  obtain⟨d,A,t⟩:=j;obtain⟨f,z,w⟩:=g;dsimp only;rw[T.globals.1,T.globals.2];have m:∀x c,ρ.r x c->decide (x>=gN)=decide (c>=gN):=λx c h=>uz.2 (by have:=ρ.kW h;omega);rw[m _ _ d]
  congr 1
  rw[qc];simp only[uI,ne_eq];exact not_congr ⟨λe=>by subst e;exact ρ.fn d f,λe=>by subst e;exact ρ.inj d f⟩
 rw[o];refine aS (λ_=>.halt _ _) λ_=> ?_;refine ah (po T (j.mono i)) λr x c l e=> ?_;obtain rfl:x=c:=e;refine ah (po T (g.mono (i.trans l))) λv y q s e=> ?_;obtain rfl:y=q:=e;exact aj rfl
theorem ao2(k:IntKind)(c:AR ρ a Y)(d:AR ρ b N):aw P P' VR ρ (Op.addrSub k a b) (Op.addrSub k Y N):=by
 unfold Op.addrSub;refine ah (ado T c d) λi x f g e=> ?_;obtain rfl:x=f:=e;exact aj (.int _ _)
theorem ao3(op:BinOp)(c:AR ρ a Y)(d:AR ρ b N):aw P P' VR ρ (Op.addrCmp op a b) (Op.addrCmp op Y N):=by
 unfold Op.addrCmp;refine ah (ado T c d) λi x f g e=> ?_;obtain rfl:x=f:=e;cases op<;>first|exact aj (.bool _)|exact .halt _ _
theorem agI(k:IntKind)(g:AR ρ a Y)(n:Int):aw P P' VR ρ (Op.addrMod k a n) (Op.addrMod k Y n):=by
 unfold Op.addrMod;obtain⟨b,o,s⟩:=g;refine ah (lU b) λr z d f e=> ?_;obtain rfl:z=d:=e;cases z with
 |none=>exact .halt _ _
 |some z=>
  obtain⟨e,m⟩:=z;dsimp only;refine ah (dO T e) λl i u c q=> ?_;obtain⟨rfl, -⟩:=q;refine aS (λ_=>.halt _ _) λ_=> ?_;refine ah (po T (.mk ((f.trans c).r b) o s)) λt x j p e=> ?_;obtain rfl:x=j:=e;exact aj (.int _ _)
theorem anN(t:TypeId)(b:VR ρ x W)(a:VR ρ y U):aw P P' jF ρ (Op.equal t x y) (Op.equal t W U):=aac T _ t b a
theorem azW(t:TypeId)(d:VR ρ x W)(a:VR ρ y U):aw P P' VR ρ (do pure (.bool (<-Op.equal t x y)):Sem Value) (do pure (.bool (<-Op.equal t W U))):=
 ah (anN T t d a) λ_ b c _ e=>by obtain rfl:b=c:=e;exact aj (.bool _)
theorem azX(t:TypeId)(d:VR ρ x W)(a:VR ρ y U):aw P P' VR ρ (do pure (.bool (!(<-Op.equal t x y))):Sem Value) (do pure (.bool (!(<-Op.equal t W U)))):=
 ah (anN T t d a) λ_ b c _ e=>by obtain rfl:b=c:=e;exact aj (.bool _)
omit T in
theorem aq4(j:AR ρ a Y)(m:AR ρ b N){f:Addr->Addr->Sem Value}(i:∀(c:Ren) x g y d,AR c x g->AR c y d->aw P P' VR c (f x y) (f g d)) :
  aw P P' VR ρ (do f (<-behindNumber a).1 (<-behindNumber b).1) (do f (<-behindNumber Y).1 (<-behindNumber N).1):=by
 refine ah (mS j) λc x g o e=> ?_;refine ah (mS (m.mono o)) λk y d l n=> ?_;exact i k _ _ _ _ (e.1.mono l) n.1
omit T in
theorem aq5(g:AR ρ a Y){f:Addr->Sem Value}(d:∀(b:Ren) x c,AR b x c->aw P P' VR b (f x) (f c)) :
  aw P P' VR ρ (do f (<-behindNumber a).1) (do f (<-behindNumber Y).1):=
 ah (mS g) λb x c _ e=>d b _ _ e.1
theorem ao4(op:BinOp)(e:op ≠ .eql)(d:op ≠ .neq)(t:TypeId){a b : Option Addr}(c:OAR ρ a Q)(f:OAR ρ b F):aw P P' VR ρ (binOp op t (.pointer a) (.pointer b)) (binOp op t (.pointer Q) (.pointer F)):=by
 cases c<;>cases f<;>cases op<;>first
  |exact absurd rfl e
  |exact absurd rfl d
  |exact .halt _ _
  |exact aq4 (by assumption:_) (by assumption:_) λg _ _ _ _ h k=>ao2 T _ h k
  |exact aq4 (by assumption:_) (by assumption:_) λg _ _ _ _ h k=>ao3 T _ h k
theorem ao5(op:BinOp)(g:op ≠ .eql)(f:op ≠ .neq)(t:TypeId){a : Option Addr}(b:OAR ρ a Q)(k:IntKind)(n:Int):aw P P' VR ρ (binOp op t (.pointer a) (.int k n)) (binOp op t (.pointer Q) (.int k n)):=by
 by_cases c:op=.add
 .subst c;show aw P P' VR ρ (do if(<-underlying t) matches .unsafePointer then movedPointer t (.pointer a) (.int k n) else movedNumber t (.pointer a) (.int k n)) (do if(<-underlying t) matches .unsafePointer then movedPointer t (.pointer Q) (.int k n) else movedNumber t (.pointer Q) (.int k n));refine ah (aF T t) λi d j e hd=> ?_;obtain⟨rfl, -⟩:=hd;exact aS (λ_=>aeN T t (.pointer (b.mono e)) (.int k n)) λ_=>gY T t (.pointer (b.mono e)) (.int k n)
 cases b<;>cases op<;>first
  |exact absurd rfl g
  |exact absurd rfl f
  |exact absurd rfl c
  |exact .halt _ _
  |exact gY T t (.pointer .none) (.int _ _)
  |exact gY T t (.pointer (.some (by assumption:_))) (.int _ _)
  |exact aq5 (by assumption:_) λi _ _ h=>agI T _ h _
theorem ao6(op:BinOp)(d:op ≠ .eql)(c:op ≠ .neq)(t:TypeId){a : Option Addr}(b:OAR ρ a Q)(k:IntKind)(n:Int):aw P P' VR ρ (binOp op t (.int k n) (.pointer a)) (binOp op t (.int k n) (.pointer Q)):=by
 cases b<;>cases op<;>first
  |exact absurd rfl d
  |exact absurd rfl c
  |exact .halt _ _
  |exact gY T t (.pointer .none) (.int _ _)
  |exact gY T t (.pointer (.some (by assumption:_))) (.int _ _)
  |exact aq5 (by assumption:_) λe _ _ h=>agI T _ h _
omit T in
theorem aeO(op:BinOp)(t:TypeId)(x y:ByteArray):binOp op t (.string x) (.string y)=Op.stringOp op x y:=by cases op<;>rfl
omit T in
theorem wX(t:TypeId)(k l:IntKind)(x y:Int):binOp .shl t (.int k x) (.int l y)=Op.shift .shl k x l y:=rfl
omit T in
theorem wW(t:TypeId)(k l:IntKind)(x y:Int):binOp .shr t (.int k x) (.int l y)=Op.shift .shr k x l y:=rfl
omit T in
theorem aeP(t:TypeId):Leaves P (λ_=>True) (underlying t):=by
 unfold underlying;show Leaves P (λ_=>True) (match P.underlying t with
  |some d=>pure d
  |none=>stuck "no such type")
 cases P.underlying t<;>exact trivial
omit T in
theorem alk{t:TypeId}(h:x=.tuple #[]\/y=.tuple #[]):kX P (Op.equal t x y):=by
 unfold Op.equal Op.maxDepth Op.equalIn;refine Leaves.bind (aeP t) λd _=> ?_;rcases h with rfl|rfl
 .cases d<;>cases y<;>first|exact trivial|(rename_i a;cases a<;>exact trivial)
 .cases d<;>cases x<;>first|exact trivial|(rename_i a;cases a<;>exact trivial)|(rename_i a b c;cases a<;>exact trivial)
omit T in
theorem aeQ{op:BinOp}{t:TypeId}(h:x=.tuple #[]\/y=.tuple #[]):kX P (binOp op t x y):=by
 have b:kX P (Op.equal t x y):=alk h;rcases h with rfl|rfl
 .cases op<;>first|exact b.bind _|(cases y<;>first|exact trivial|(rename_i a;cases a<;>exact trivial)|exact b.bind _)
 .cases op<;>first|exact b.bind _|(cases x<;>first|exact trivial|(rename_i a;cases a<;>exact trivial)|exact b.bind _)
theorem auo(op:BinOp)(t:TypeId)(f:VR ρ x W)(d:VR ρ y U):aw P P' VR ρ (binOp op t x y) (binOp op t W U):=by
 have a:=f;have b:=d;by_cases c:x=.tuple #[]
 .exact .dead (aeQ (.inl c)) _
 by_cases e:y=.tuple #[]
 .exact .dead (aeQ (.inr e)) _
 by_cases g:op=.eql
 .subst g;cases f<;>cases d<;>first|exact absurd rfl c|exact absurd rfl e|exact azW T t a b|exact aS (λ_=>.halt _ _) (λ_=>aeD _ _ _)|(rw[aeO];exact kZ _ _ _)
 by_cases i:op=.neq
 .subst i;cases f<;>cases d<;>first|exact absurd rfl c|exact absurd rfl e|exact azX T t a b|exact aS (λ_=>.halt _ _) (λ_=>aeD _ _ _)|(rw[aeO];exact kZ _ _ _)
 cases op<;>first|exact absurd rfl g|exact absurd rfl i|(cases f<;>cases d<;>first
  |exact .halt _ _
  |exact absurd rfl c|exact absurd rfl e|(rw[aeO];exact kZ _ _ _)
  |(rw[wX];exact anL _ _ _ _ _)
  |(rw[wW];exact anL _ _ _ _ _)
  |exact aS (λ_=>.halt _ _) (λ_=>aeC _ _ _ _)
  |exact aS (λ_=>.halt _ _) (λ_=>aq1 _ _ _ _)
  |exact aS (λ_=>.halt _ _) (λ_=>agE _ _ _ _)
  |exact aS (λ_=>.halt _ _) (λ_=>aeD _ _ _)
  |exact ao4 T _ (by decide) (by decide) t (by assumption:_) (by assumption:_)
  |exact ao5 T _ (by decide) (by decide) t (by assumption:_) _ _
  |exact ao6 T _ (by decide) (by decide) t (by assumption:_) _ _
  |(cases a;rename_i h;cases h<;>exact .halt _ _)
  |(cases b;rename_i h;cases h<;>exact .halt _ _)
  |skip)
end
end
section
open Go
inductive iC (ρ:Ren):Next->Next->Prop
 |value {v v':Value} (h:VR ρ v v'):iC ρ (.value v) (.value v')
 |skip:iC ρ .skip .skip
 |enter (f:FuncId) {a a':Array Value} (h:dm ρ a a'):iC ρ (.enter f a) (.enter f a')
 |round {l l':Nat} (h:ρ.r l l') (f:FuncId) {t t':Array Value} (ht:dm ρ t t') (c d:Code):iC ρ (.round l f t (gP c) (gP d)) (.round l' f t' c d)
def ahN(ρ:Ren):∀(d:Nat) (v:Value),ov gA d v=true->VR ρ v v
 |0,v,h=>by cases h
 |d+1,v,h=>by
  have e:∀l:List Value,l.all (ov gA d)=true->bU ρ l l:=λl g=>bU.kI λv i=>ahN ρ d v (lc.1 g v i);cases v with
  |bool b=>exact .bool b
  |int k n=>exact .int k n
  |string s=>exact .string s
  |nilFunc=>exact .nilFunc
  |nilIface=>exact .nilIface
  |pointer a=>cases a with
   |none=>exact .pointer .none
   |some a=>cases h
  |slice a n c=>cases a with
   |none=>exact .slice .none n c
   |some a=>cases h
  |map a=>cases a with
   |none=>exact .map .none
   |some a=>cases h
  |chan a=>cases a with
   |none=>exact .chan .none
   |some a=>cases h
  |func f a c=>
   unfold ov at h;simp only[fk] at h;exact .func (.same f h.1.1) (e _ h.1.2) (e _ h.2)
  |iface t v=>exact .iface t (ahN ρ d v h)
  |agg c=>exact .agg (e _ h)
  |tuple c=>exact .tuple (e _ h)
  |float|complex=>cases h
def ad3(ρ:Ren)(e e':Operand->Value):Prop:=∀x,bN gA gL x=true->VR ρ (e x) (e' x)
def ad3.maps{ρ:Ren}(h:ad3 ρ e e'):∀{l:List Operand},l.all (bN gA gL)=true->bU ρ (l.map e) (l.map e')
 |[],_=>.nil
 |x::l,hl=>by
  simp only[qx,fk] at hl;exact .cons (h x hl.1) (h.maps hl.2)
def ad3.map{ρ:Ren}(h:ad3 ρ e e'){l:Array Operand}(a:l.toList.all (bN gA gL)=true):dm ρ (l.map e) (l.map e'):=by
 unfold dm;rw[qI,qI];exact h.maps a
def ad3.opt{ρ:Ren}(h:ad3 ρ e e'){l:Option Operand}(a:∀x,l=some x->bN gA gL x=true):OVR ρ (l.map e) (l.map e'):=by
 cases l with
 |none=>exact .none
 |some x=>exact .some (h x (a x rfl))
def ad3.parts{ρ:Ren}(h:ad3 ρ e e'):∀{l:List (Nat×Operand)},(l.map (·.2)).all (bN gA gL)=true->PRs ρ (l.map λ(i,x)=>(i,e x)) (l.map λ(i,x)=>(i,e' x))
 |[],_=>.nil
 |(i,x)::l,hl=>by
  simp only[qK,qx,fk] at hl;exact .cons i (h x hl.1) (h.parts hl.2)
section
variable {P P':Program} {ρ:Ren}
def ai6(P P':Program):Prop:=∀(f:FuncId) (fn:Func),P.funcs[f]?=some fn->fn.body=none->gA f=true->∀(ρ:Ren) (a b:Array Value),dm ρ a b->aw P P' iC ρ (callFunc f a) (callFunc f b)
def bD{s s':Sem Value}(h:aw P P' VR ρ s s'):aw P P' iC ρ (do pure (.value (<-s))) (do pure (.value (<-s'))):=ah h λ_ _ _ _ a=>aj (.value a)
def ahO{s s':Sem Unit}(h:aw P P' jF ρ s s'):aw P P' iC ρ (do s;pure .skip) (do s';pure .skip):=ah h λ_ _ _ _ _=>aj .skip
variable (T:Twin P P') (X:ai6 P P')
include T X
theorem alm(f:FuncId)(k:gA f=true){a : Array Value}(h:dm ρ a Z):aw P P' iC ρ (callFunc f a) (callFunc f Z):=by
 cases b:P.funcs[f]? with
 |none=>
  refine .dead ?_ _;unfold callFunc;show Leaves P _ (match P.funcs[f]? with|none=>_|some fn=>_);rw[b];trivial
 |some fn=>
  cases d:fn.body with
  |none=>exact X f fn b d k ρ a Z h
  |some c=>
   obtain⟨q,i,g⟩:=T.func f fn b;obtain⟨m,e, -⟩:=g.some c d;unfold callFunc;refine ah dg λn p o l j=> ?_;obtain⟨rfl,rfl⟩:=j;rw[b,i];dsimp only;rw[g.name,g.azQ,d,e];exact aj (.enter f (bU.mono l h))
omit T X in
theorem bU.aq6{ρ:Ren}:∀(b:List Tmp) {l c:List Value} {t d:Array Value},bU ρ l c->dm ρ t d->dm ρ ((b.zip l).foldl (λa (x:Tmp×Value)=>a.setIfInBounds x.1 x.2) t) ((b.zip c).foldl (λa (x:Tmp×Value)=>a.setIfInBounds x.1 x.2) d)
 |[],_,_,_,_,_,ht=>ht
 |_::_,_,_,_,_,.nil,ht=>ht
 |p::b,_,_,_,_,.cons hx hl,ht=>bU.aq6 b hl (ht.set p hx)
omit T X in
theorem mU{l l':Nat}(h:ρ.r l l'):aw P P' (λa x m=>OR a (.loop x) (.loop m)) ρ (Instr.getLoop l) (Instr.getLoop l'):=by
 unfold Instr.getLoop;refine ah (eO h) λa o p n b=> ?_;cases b with
 |loop i d e g k f j c=>exact aj (.loop i d e g k f j c)
 |_=>exact .halt _ _
omit T X in
theorem aup{l l':Nat}(h:ρ.r l l'){a : Array Value}(c:dm ρ a Z):aw P P' iC ρ (Instr.yield l a) (Instr.yield l' Z):=by
 unfold Instr.yield;refine ah (mU h) λn x p b d=> ?_;cases d with
 |loop o m e g j f i k=>
  rw[j,e,f,i,c.size];refine aS (λ_=>.halt _ _) λ_=>aj (.round (b.r h) _ ?_ _ _);rw[<-sE,<-sE,Array.toList_zip,Array.toList_zip];exact bU.aq6 _ (bU.mono b c) g
end
end
end Go.Proofs.YtlggbfanooejbaaGreatDoor