/- A part. -/
import GoSem.Core.World
import Derived.Test.YtblbaiejjagdoaaGreatDoorProg
import Derived.WalkKit
set_option maxRecDepth 100000
set_option maxHeartbeats 8000000
set_option linter.all false
open Go Go.Proofs.Tryz
variable {R r:Nat} {o o':Obj} {Y a b b':Addr} {W β:Type} {X V i k k' v v' x y:Value} {U L w w':World} {P P':Program} {ts:List Addr} {H:Option Nat} {Z I c:Array Value} {Q:Option Addr} {M es:Array Event} {S N h l l' u:Option Value} {O:Array MapEntry} {K p:Array (Nat × Value)} {J s':Sem β} {s:Sem W}
namespace Go.Proofs.YtblbaiejjagdoaaGreatDoor
def am:=@Nat.le_refl
def ap:=@Nat.le_trans
def aE:=@Nat.lt_of_lt_of_le
def bd:=@if_neg
def de:=@Array.getElem?_eq_some_iff
def dj:=@Option.some.inj
def dl:=@if_pos
def ef:=@Array.getElem?_toList
def fa:=@congrArg
def fb:=@Bool.and_eq_true
def fd:=@Bool.false_eq_true
def fi:=@Array.getElem?_eq_getElem
def gt:=@List.mem_append
def ip:=@Array.getElem?_setIfInBounds_ne
def lw:=@Option.some.injEq
def lP:=@List.mem_map
def me:=@Nat.le_of_eq
def mw:=@Array.getElem?_modify
def mx:=@beq_iff_eq
def mT:=@if_true
def nF:=@Array.toList_append
def oi:=@Bool.eq_iff_iff
def pe:=@Array.getElem?_setIfInBounds
def pi:=@Array.getElem?_eq_none_iff
def pQ:=@List.all_cons
def pY:=@Array.getElem?_push
def qc:=@if_false
def qe:=@Array.toList_map
def qx:=@bne_iff_ne
def qC:=@Array.getElem?_map
def qJ:=@Array.length_toList
def qQ:=@Array.append_empty
def qX:=@Array.toList_push
def rh:=@List.filter_cons
def ry:=@Array.isEmpty_toList
def rA:=@Array.size_append
def rB:=@Go.Sem.runT.eq_5
def rM:=@Array.foldl_toList
def rS:=@Array.getElem?_append
def sb:=@Ne.symm
def sd:=@Array.size_map
def sj:=@Nat.zero_mul
def sB:=@Nat.lt_irrefl
def sE:=@Option.isSome_none
def sG:=@List.foldl_cons
def sL:=@Array.forIn_toList
def sM:=@Array.ext_getElem?
def sY:=@decide_eq_decide
def sZ:=@Array.toList_extract
def tf:=@Std.Legacy.Range.forIn_eq_forIn_range'
def tk:=@List.forIn_cons
def tl:=@Array.mapM_eq_mapM_toList
def tv:=@Array.append_assoc
def tA:=@List.forIn_nil
def ux:=@Array.toList_setIfInBounds
def vg:=@List.mapM_cons
def vD:=@Array.toList_modify
section
def _root_.Go.World.ou(w:World):Os×Array (Nat×ByteArray):=(w.os,w.output)
def axT(h:w.ou=w'.ou):w.os=w'.os:=fa Prod.fst h
def awb(h:w.ou=w'.ou):w.output=w'.output:=fa Prod.snd h
def axU(h:w.os=w'.os)(k:w.output=w'.output):w.ou=w'.ou:=Prod.ext h k
def alw(P:Program)(f:FuncId):Bool:=match P.funcs[f]? with
 |some a=>a.body.isSome||["internal/bytealg.MakeNoZero", "internal/bytealg.IndexByteString"].contains a.name
 |none=>false
def awc(al:FuncId->Bool):Fn->Bool
 |.func f=>al f
 |_=>false
def mR(al:FuncId->Bool):Nat->Value->Bool
 |0,_=>false
 |d+1,v=>match v with
  |.bool _|.int .. | .string _|.nilFunc|.nilIface=>true
  |.pointer none|.slice none _ _|.map none|.chan none=>true
  |.func f a c=>awc al f&&a.toList.all (mR al d)&&c.toList.all (mR al d)
  |.iface _ v=>mR al d v
  |.agg c|.tuple c=>c.toList.all (mR al d)
  |_=>false
def bJ(al:FuncId->Bool)(gl:List Nat):Operand->Bool
 |.const v=>mR al 5 v
 |.global g=>gl.contains g
 |.func f=>al f
 |.tmp _=>true
def ag2(P:Program)(t:TypeId):Bool:=match P.underlying t with
 |some (.int _)=>true
 |_=>false
def adO(P:Program)(t:TypeId):Bool:=match P.underlying t with
 |some (.map k _)=>ag2 P k
 |_=>true
def amH(P:Program)(t:TypeId)(f:Nat):Bool:=match P.underlying t with
 |some (.struct fs)=>match fs[f]? with
  |some g=>match P.info? g.type with
   |some i=>i.size !=0
   |none=>true
  |none=>true
 |_=>true
def akl(P:Program)(src dst:TypeId):Bool:=match P.underlying src,P.underlying dst with
 |some (.int _),some (.int _)=>true
 |_,some .string=>match P.underlying src with
  |some (.slice e)=>match P.underlying e with
   |some (.int .u8)=>true
   |_=>false
  |some .unsafePointer=>false
  |_=>true
 |some .string,some (.slice e)=>match P.underlying e with
  |some (.int .u8)=>true
  |_=>false
 |_,_=>false
def acd(P:Program)(b:Builtin)(ts:Array TypeId):Bool:=match b with
 |.append=>match ts[1]? with
  |some u=>!ag2 P u
  |none=>true
 |.cap|.clear|.copy|.len|.max|.min|.unsafeString|.unsafeSlice=>true
 |_=>false
def lr(P:Program)(al:FuncId->Bool)(gl:List Nat)(o:Op):Bool:=o.operands.toList.all (bJ al gl)&&match o with
 |.move _|.assign _|.pick .. | .alloc _|.box .. | .build .. | .buildSlice .. | .load .. | .store .. | .nilCheck _|.unOp .. | .makeInterface .. | .makeMap _ none
 |.makeSlice .. | .slice .. | .field .. | .indexAddr .. | .index .. | .range .. | .next .. | .extract .. | .panic _|.binOp .. =>true
 |.makeFunc f _ _=>awc al f
 |.fieldAddr t _ f=>amH P t f
 |.convert a dst _=>akl P a dst
 |.lookup t .. =>adO P t
 |.mapUpdate t .. | .insert t .. =>adO P t
 |.call c=>match c.callee with
  |.builtin b=>acd P b c.argTypes
  |.value _=>true
  |.invoke .. =>false
 |_=>false
def ft(P:Program)(al:FuncId->Bool)(gl:List Nat):Code->Bool
 |.skip|.label _|.ret|.exit _|.refuse _=>true
 |.region _ d _=>d.toList.all λo=>lr P al gl o.op
 |.seq a b=>ft P al gl a&&ft P al gl b
 |.cond c a b=>bJ al gl c&&(ft P al gl a&&ft P al gl b)
 |.block _ a|.loop a|.scope a=>ft P al gl a
 |.rangeFunc f _ a b=>bJ al gl f&&(ft P al gl a&&ft P al gl b)
 |.goto _=>false
def pj(al:FuncId->Bool)(gl:List Nat):Op->Bool
 |.call {callee:=.builtin .unsafeSliceData,args,argTypes:=_}=>args.toList.all (bJ al gl)
 |_=>false
def po(al:FuncId->Bool)(gl:List Nat)(tB:TypeId)(o:Oper):Oper:=if pj al gl o.op then{o with type:=tB} else o
def bM(P:Program)(al:FuncId->Bool)(gl:List Nat)(tB:TypeId):Code->Code
 |.skip=>.skip
 |.label l=>.label l
 |.ret=>.ret
 |.exit id=>.exit id
 |.refuse w=>.refuse w
 |.goto _=>.refuse ""
 |.region id d draw=>if(d.toList.all λo=>lr P al gl o.op)=true then .region id d draw
  else if(d.toList.all λo=>lr P al gl o.op||pj al gl o.op)=true then .region id (d.map (po al gl tB)) draw else .refuse ""
 |.seq a b=>.seq (bM P al gl tB a) (bM P al gl tB b)
 |.cond c a b=>if bJ al gl c=true then .cond c (bM P al gl tB a) (bM P al gl tB b) else .refuse ""
 |.block id a=>.block id (bM P al gl tB a)
 |.loop a=>.loop (bM P al gl tB a)
 |.scope a=>.scope (bM P al gl tB a)
 |.rangeFunc f e a b=>if bJ al gl f=true then .rangeFunc f e (bM P al gl tB a) (bM P al gl tB b) else .refuse ""
def aik(P:Program)(j:FuncId->Bool)(i:List Nat)(m:TypeId):∀c:Code,ft P j i c=true->bM P j i m c=c:=by
 intro c
 induction c with
 |region id k draw=>intro h;unfold ft at h;unfold bM;rw[dl h]
 |seq a b e d=>intro h;simp only[ft,fb] at h;unfold bM;rw[e h.1,d h.2]
 |cond c a b e d=>intro h;simp only[ft,fb] at h;unfold bM;rw[dl h.1,e h.2.1,d h.2.2]
 |block id a g=>intro h;unfold bM;rw[g h]
 |loop a g=>intro h;unfold bM;rw[g h]
 |scope a g=>intro h;unfold bM;rw[g h]
 |rangeFunc f n a b e d=>intro h;simp only[ft,fb] at h;unfold bM;rw[dl h.1,e h.2.1,d h.2.2]
 |goto l=>intro h;cases h
 |_=>intro _;rfl
@[irreducible] noncomputable def gN:Nat:=prog.globals.size
@[irreducible] noncomputable def gL:List Nat:=(List.range prog.globals.size).filter λg=>match prog.globals[g]? with
 |some x=>["loop.example/depositary/impl.errPiece", "loop.example/depositary/impl.errKey"].contains x.name
 |none=>false
@[irreducible] noncomputable def gH(f:FuncId):Bool:=match prog.funcs[f]? with
 |some a=>a.name == "loop.example/depositary/impl.fetchAll" || a.name == "(*strings.Builder).copyCheck"
 |none=>false
@[irreducible] noncomputable def gA:FuncId->Bool:=alw prog
@[irreducible] noncomputable def gB:TypeId:=3
@[irreducible] noncomputable def gP:Code->Code:=bM prog gA gL gB
structure Ren where
 r:Nat->Nat->Prop
 lax:Bool
 dim:Bool
 al:Nat->Option Value
 fn:∀{a b c},r a b->r a c->b=c
 inj:∀{a b c},r a c->r b c->a=b
 jc:∀{a b},r a b->(a<gN↔b<gN)
structure Ren.Le (ρ σ:Ren):Prop where
 r:∀{a b},ρ.r a b->σ.r a b
 lax:ρ.lax=σ.lax
 dim:ρ.dim=σ.dim
 al:ρ.al=σ.al
def Ren.Le.refl(ρ:Ren):ρ.Le ρ:=⟨id,rfl,rfl,rfl⟩
def Ren.Le.trans{ρ σ a:Ren}(h:ρ.Le σ)(k:σ.Le a):ρ.Le a:=⟨λx=>k.r (h.r x),h.lax.trans k.lax,h.dim.trans k.dim,h.al.trans k.al⟩
inductive AR (ρ:Ren):Addr->Addr->Prop
 |mk {b b':Nat} (h:ρ.r b b') (o:Nat) (s:Option Nat):AR ρ ⟨b,o,s⟩ ⟨b',o,s⟩
inductive OAR (ρ:Ren):Option Addr->Option Addr->Prop
 |none:OAR ρ none none
 |some {a a':Addr} (h:AR ρ a a'):OAR ρ (some a) (some a')
inductive NR (ρ:Ren):Option Nat->Option Nat->Prop
 |none:NR ρ none none
 |some {a a':Nat} (h:ρ.r a a'):NR ρ (some a) (some a')
def jd:Value->Bool
 |.int .. | .float .. | .complex .. | .slice .. | .pointer (some _)|.map _|.chan _|.func (.func _) .. | .func (.methodOf ..) .. | .func (.via ..) .. | .func (.yield _) .. | .iface .. =>true
 |_=>false
def anX(k:Nat):Value:=.func (.method "") #[.nilIface] (Array.replicate k .nilIface)
mutual
inductive VR (ρ:Ren):Value->Value->Prop
 |bool (b:Bool):VR ρ (.bool b) (.bool b)
 |int (k:IntKind) (n:Int):VR ρ (.int k n) (.int k n)
 |string (s:ByteArray):VR ρ (.string s) (.string s)
 |pointer {a a':Option Addr} (h:OAR ρ a a'):VR ρ (.pointer a) (.pointer a')
 |slice {a a':Option Addr} (h:OAR ρ a a') (l c:Nat):VR ρ (.slice a l c) (.slice a' l c)
 |empty {a:Addr} {b':Nat} (h:ρ.r a.block b') (hg:b'<gN) (a':Addr):VR ρ (.slice (some a) 0 0) (.slice (some a') 0 0)
 |map {a a':Option Nat} (h:NR ρ a a'):VR ρ (.map a) (.map a')
 |chan {a a':Option Nat} (h:NR ρ a a'):VR ρ (.chan a) (.chan a')
 |func {f f':Fn} (hf:FR ρ f f') {a a' c c':Array Value} (h:bN ρ a.toList a'.toList) (hc:bN ρ c.toList c'.toList):VR ρ (.func f a c) (.func f' a' c')
 |nilFunc:VR ρ .nilFunc .nilFunc
 |iface (t:TypeId) {v v':Value} (h:VR ρ v v'):VR ρ (.iface t v) (.iface t v')
 |nilIface:VR ρ .nilIface .nilIface
 |agg {c c':Array Value} (h:bN ρ c.toList c'.toList):VR ρ (.agg c) (.agg c')
 |tuple {c c':Array Value} (h:bN ρ c.toList c'.toList):VR ρ (.tuple c) (.tuple c')
 |fc {v':Value} (hl:ρ.dim=true) (h:jd v'=true):VR ρ (.tuple #[]) v'
 |aa1 (k:Nat) {n:String} {a c:Array Value} (hl:ρ.al k=some (.func (.method n) a c)):VR ρ (anX k) (.func (.method n) a c)
inductive bN (ρ:Ren):List Value->List Value->Prop
 |nil:bN ρ [] []
 |cons {v v':Value} {l l':List Value} (h:VR ρ v v') (hl:bN ρ l l'):bN ρ (v::l) (v'::l')
inductive FR (ρ:Ren):Fn->Fn->Prop
 |same (f:Fn) (h:awc gA f=true):FR ρ f f
 |yield {l l':Nat} (h:ρ.r l l'):FR ρ (.yield l) (.yield l')
end
def AR.mono{ρ b:Ren}(h:ρ.Le b) :AR ρ a Y->AR b a Y
 |.mk x o s=>.mk (h.r x) o s
def OAR.mono{ρ b:Ren}(h:ρ.Le b){a : Option Addr}:OAR ρ a Q->OAR b a Q
 |.none=>.none
 |.some x=>.some (x.mono h)
def NR.mono{ρ b:Ren}(h:ρ.Le b){a : Option Nat}:NR ρ a H->NR b a H
 |.none=>.none
 |.some x=>.some (h.r x)
mutual
def VR.mono{ρ d:Ren}(h:ρ.Le d):∀{v a:Value},VR ρ v a->VR d v a
 |_,_,.bool b=>.bool b
 |_,_,.int k n=>.int k n
 |_,_,.string s=>.string s
 |_,_,.pointer x=>.pointer (x.mono h)
 |_,_,.slice x l c=>.slice (x.mono h) l c
 |_,_,.empty x hg a'=>.empty (h.r x) hg a'
 |_,_,.map x=>.map (x.mono h)
 |_,_,.chan x=>.chan (x.mono h)
 |_,_,.func f x y=>.func (FR.mono h f) (bN.mono h x) (bN.mono h y)
 |_,_,.nilFunc=>.nilFunc
 |_,_,.iface t x=>.iface t (VR.mono h x)
 |_,_,.nilIface=>.nilIface
 |_,_,.agg x=>.agg (bN.mono h x)
 |_,_,.tuple x=>.tuple (bN.mono h x)
 |_,_,.fc hl x=>.fc (h.dim▸hl) x
 |_,_,.aa1 k hl=>.aa1 k (h.al▸hl)
def bN.mono{ρ a:Ren}(h:ρ.Le a):∀{l b:List Value},bN ρ l b->bN a l b
 |_,_,.nil=>.nil
 |_,_,.cons x y=>.cons (VR.mono h x) (bN.mono h y)
def FR.mono{ρ b:Ren}(h:ρ.Le b):∀{f a:Fn},FR ρ f a->FR b f a
 |_,_,.same f x=>.same f x
 |_,_,.yield x=>.yield (h.r x)
end
def bN.length{ρ:Ren}:∀{l a:List Value},bN ρ l a->l.length=a.length
 |_,_,.nil=>rfl
 |_,_,.cons _ h=>by simp[h.length]
def bN.get{ρ:Ren}:∀{l a:List Value},bN ρ l a->∀{i:Nat} {v:Value},l[i]?=some v->∃b,a[i]?=some b/\VR ρ v b
 |_,_,.nil,_,_,h=>by simp at h
 |_,_,.cons x _,0,_,h=>by simp at h;subst h;exact⟨_,rfl,x⟩
 |_,_,.cons _ y,i+1,_,h=>by simp at h;simpa using y.get h
def bN.set{ρ:Ren}:∀{l a:List Value},bN ρ l a->∀(i:Nat) {v b:Value},VR ρ v b->bN ρ (l.set i v) (a.set i b)
 |_,_,.nil,_,_,_,_=>.nil
 |_,_,.cons _ y,0,_,_,h=>.cons h y
 |_,_,.cons x y,i+1,_,_,h=>.cons x (y.set i h)
def bN.app{ρ:Ren}:∀{l b:List Value},bN ρ l b->∀{m a:List Value},bN ρ m a->bN ρ (l++m) (b++a)
 |_,_,.nil,_,_,h=>h
 |_,_,.cons x y,_,_,h=>.cons x (y.app h)
def ZR(ρ:Ren)(n:Nat)(z z':Nat×Nat):Prop:=z=z'\/(ρ.lax=true/\z.1=0/\n<z.2/\(z'.1=z'.2\/z'.2<=z.2))
inductive ER (ρ:Ren):MapEntry->MapEntry->Prop
 |mk {k k' v v':Value} (hk:VR ρ k k') (hv:VR ρ v v') (b:Nat):ER ρ ⟨k,v,b⟩ ⟨k',v',b⟩
inductive lK (ρ:Ren):List MapEntry->List MapEntry->Prop
 |nil:lK ρ [] []
 |cons {v v':MapEntry} {l l':List MapEntry} (h:ER ρ v v') (hl:lK ρ l l'):lK ρ (v::l) (v'::l')
inductive OR (ρ:Ren):Obj->Obj->Prop
 |cells {c c':Array Value} (h:bN ρ c.toList c'.toList) (t:TypeId) {z z':Nat×Nat} (hz:ZR ρ c.size z z'):OR ρ (.cells c t z) (.cells c' t z')
 |map {e e':Array MapEntry} (h:lK ρ e.toList e'.toList) (k:Nat):OR ρ (.map e k) (.map e' k)
 |stringIter (s:ByteArray) (p:Nat):OR ρ (.stringIter s p) (.stringIter s p)
 |number {a a':Addr} (h:AR ρ a a') (l:Bool):OR ρ (.number a l) (.number a' l)
 |mapIter {m m':Option Nat} (h:NR ρ m m') (s:Nat) (seen:Array Nat) (n:Nat):OR ρ (.mapIter m s seen n) (.mapIter m' s seen n)
 |loop {l l':Loop} (h1:l.state=l'.state) (h2:l.pending=l'.pending.map gP) (h3:l.fn=l'.fn) (h4:bN ρ l.tmps.toList l'.tmps.toList) (h5:l.params=l'.params) (h6:l.assign=gP l'.assign) (h7:l.body=gP l'.body) (h8:ρ.r l.defers l'.defers):OR ρ (.loop l) (.loop l')
 |bD:OR ρ (.deferred none) (.deferred none)
 |deferred:OR ρ (.deferred (some [])) (.deferred (some []))
end
section
open Go
structure WR (ρ:Ren) (w w':World):Prop where
 obj:∀{b b'},ρ.r b b'->∃o o',w.heap[b]?=some o/\w'.heap[b']?=some o'/\OR ρ o o'
 os:w.ou=w'.ou
 jc:gN<=w.heap.size/\gN<=w'.heap.size
def WR.lt{ρ:Ren}(h:WR ρ w w'){b b':Nat}(c:ρ.r b b'):b<w.heap.size/\b'<w'.heap.size:=by
 obtain⟨o,e,d,a, -⟩:=h.obj c;exact⟨(de.1 d).1,(de.1 a).1⟩
def Ren.ext(ρ:Ren)(x y:Nat)(hx:∀b,¬ρ.r x b)(hy:∀b,¬ρ.r b y)(gx:gN<=x)(gy:gN<=y):Ren where
 r a b:=ρ.r a b\/(a=x/\b=y)
 lax:=ρ.lax
 dim:=ρ.dim
 al:=ρ.al
 fn:=by
  rintro a b c (h|⟨rfl,rfl⟩) (k|⟨e,rfl⟩)
  .exact ρ.fn h k
  .subst e;exact absurd h (hx _)
  .exact absurd k (hx _)
  .rfl
 inj:=by
  rintro a b c (h|⟨rfl,rfl⟩) (k|⟨rfl,e⟩)
  .exact ρ.inj h k
  .subst e;exact absurd h (hy _)
  .exact absurd k (hy _)
  .rfl
 jc:=by
  rintro a b (h|⟨rfl,rfl⟩)
  .exact ρ.jc h
  .omega
def Ren.adZ{ρ:Ren}{x y:Nat}{d c b a}:ρ.Le (ρ.ext x y d c b a):=⟨.inl,rfl,rfl,rfl⟩
inductive MkR (ρ:Ren):Mark->Mark->Prop
 |extern (f:FuncId):MkR ρ (.extern f) (.extern f)
 |noRoom:MkR ρ .noRoom .noRoom
inductive LR (ρ:Ren):Go.Loc->Go.Loc->Prop
 |cell {a a':Addr} (h:AR ρ a a'):LR ρ (.cell a) (.cell a')
 |obj {r r':Nat} (h:ρ.r r r'):LR ρ (.obj r) (.obj r')
 |mark {m m':Mark} (h:MkR ρ m m'):LR ρ (.mark m) (.mark m')
inductive EvR (ρ:Ren):Event->Event->Prop
 |mk {l l':Go.Loc} (h:LR ρ l l') (w s:Bool):EvR ρ ⟨l,w,s⟩ ⟨l',w,s⟩
inductive lu (ρ:Ren):List Event->List Event->Prop
 |nil:lu ρ [] []
 |cons {v v':Event} {l l':List Event} (h:EvR ρ v v') (hl:lu ρ l l'):lu ρ (v::l) (v'::l')
def MkR.mono{ρ a:Ren}(_:ρ.Le a){m m':Mark}:MkR ρ m m'->MkR a m m'
 |.extern f=>.extern f
 |.noRoom=>.noRoom
def LR.mono{ρ a:Ren}(h:ρ.Le a){m m':Go.Loc}:LR ρ m m'->LR a m m'
 |.cell x=>.cell (x.mono h)
 |.obj x=>.obj (h.r x)
 |.mark x=>.mark (x.mono h)
def EvR.mono{ρ a:Ren}(h:ρ.Le a){m m':Event}:EvR ρ m m'->EvR a m m'
 |.mk x w s=>.mk (x.mono h) w s
def lu.mono{ρ b:Ren}(h:ρ.Le b):∀{m a:List Event},lu ρ m a->lu b m a
 |_,_,.nil=>.nil
 |_,_,.cons x y=>.cons (x.mono h) (y.mono h)
def ZR.mono{ρ b:Ren}(h:ρ.Le b){n:Nat}{z a:Nat×Nat}(x:ZR ρ n z a):ZR b n z a:=x.imp id λy=>⟨h.lax▸y.1,y.2⟩
def ER.mono{ρ a:Ren}(h:ρ.Le a){m m':MapEntry}:ER ρ m m'->ER a m m'
 |.mk x y b=>.mk (x.mono h) (y.mono h) b
def lK.mono{ρ b:Ren}(h:ρ.Le b):∀{m a:List MapEntry},lK ρ m a->lK b m a
 |_,_,.nil=>.nil
 |_,_,.cons x y=>.cons (x.mono h) (y.mono h)
def OR.mono{ρ a:Ren}(h:ρ.Le a){m m':Obj}:OR ρ m m'->OR a m m'
 |.cells x t z=>.cells (x.mono h) t (z.mono h)
 |.map x k=>.map (x.mono h) k
 |.stringIter s p=>.stringIter s p
 |.number x l=>.number (x.mono h) l
 |.mapIter x s t n=>.mapIter (x.mono h) s t n
 |.loop g c d f j e i b=>.loop g c d (f.mono h) j e i (h.r b)
 |.bD=>.bD
 |.deferred=>.deferred
def bB(w:World)(b:Nat):Prop:=∃c t z,w.heap[b]?=some (.cells c t z)/\z.1=0/\c.size<=z.2/\0<z.2
def NoB(w:World)(b:Nat):Prop:=∀c t z,w.heap[b]?=some (.cells c t z)->∀(i:Nat) k,c[i]?≠some (.int .u8 k)
def anY(v:Value):Prop:=(∃l,v=.tuple l)\/∃l,v=.agg l
def Rw(w:World)(b:Nat):Prop:=∃c t z,w.heap[b]?=some (.cells c t z)
structure Kept (ρ σ:Ren) (w w' w1 cL:World):Prop where
 size:w.heap.size<=w1.heap.size
 size':w'.heap.size<=cL.heap.size
 new:∀{b b'},σ.r b b'->ρ.r b b'\/(w.heap.size<=b/\w'.heap.size<=b')
 out:∀{b},b<w.heap.size->(∀c,¬ρ.r b c)->w1.heap[b]?=w.heap[b]?
 out':∀{b},b<w'.heap.size->(∀c,¬ρ.r c b)->cL.heap[b]?=w'.heap[b]?
 os:w1.ou=w.ou/\cL.ou=w'.ou
 tape:w1.tape=w.tape/\cL.tape=w'.tape
 output:w1.output=w.output/\cL.output=w'.output
 drawn:w.drawn<=w1.drawn/\w'.drawn<=cL.drawn
 frz:∀b,bB w b->bB w1 b
 le:∀{b b'},ρ.r b b'->σ.r b b'
 still:∀{b b'},ρ.r b b'->bB w b->NoB w b->w1.heap[b]?=w.heap[b]?/\cL.heap[b']?=w'.heap[b']?
 poi:∀{b b'},ρ.r b b'->Rw w b->Rw w1 b/\∀i u,anY u->w1.cell? ⟨b,i,none⟩=some u->w.cell? ⟨b,i,none⟩=some u/\cL.cell? ⟨b',i,none⟩=w'.cell? ⟨b',i,none⟩
def bB.of_eq{b:Nat}(h:bB w b)(e:U.heap[b]?=w.heap[b]?):bB U b:=let⟨c,t,z,d,a⟩:=h;⟨c,t,z,e.trans d,a⟩
def NoB.of_eq{b:Nat}(h:NoB w b)(e:U.heap[b]?=w.heap[b]?):NoB U b:=λc t z a=>h c t z (e.symm.trans a)
def Kept.refl(ρ:Ren)(w w':World):Kept ρ ρ w w' w w':=⟨am _,am _,.inl,λ_ _=>rfl,λ_ _=>rfl,⟨rfl,rfl⟩,⟨rfl,rfl⟩,⟨rfl,rfl⟩,⟨am _,am _⟩,λ_ h=>h,id,λ_ _ _=>⟨rfl,rfl⟩,λ_ a=>⟨a,λ_ _ _ b=>⟨b,rfl⟩⟩⟩
def Kept.trans{ρ s q:Ren}{w2 e : World}(h:Kept ρ s w w' U L)(k:Kept s q U L w2 e):Kept ρ q w w' w2 e where
 size:=ap h.size k.size
 size':=ap h.size' k.size'
 new:=λx=>by
  rcases k.new x with y|⟨y,z⟩
  .exact h.new y
  .exact .inr ⟨ap h.size y,ap h.size' z⟩
 out:=λ{b} d a=>by
  rw[k.out (aE d h.size) λc o=> ?_,h.out d a];rcases h.new o with y|⟨y,_⟩
  .exact a c y
  .omega
 out':=λ{b} d a=>by
  rw[k.out' (aE d h.size') λc o=> ?_,h.out' d a];rcases h.new o with y|⟨_,y⟩
  .exact a c y
  .omega
 os:=⟨k.os.1.trans h.os.1,k.os.2.trans h.os.2⟩
 tape:=⟨k.tape.1.trans h.tape.1,k.tape.2.trans h.tape.2⟩
 output:=⟨k.output.1.trans h.output.1,k.output.2.trans h.output.2⟩
 drawn:=⟨ap h.drawn.1 k.drawn.1,ap h.drawn.2 k.drawn.2⟩
 frz:=λb x=>k.frz b (h.frz b x)
 le:=λx=>k.le (h.le x)
 still:=λf p a=>by
  obtain⟨g,n⟩:=h.still f p a;obtain⟨j,m⟩:=k.still (h.le f) (p.of_eq g) (a.of_eq g);exact⟨j.trans g,m.trans n⟩
 poi:=λf B=>by
  obtain⟨t,A⟩:=h.poi f B;obtain⟨l,v⟩:=k.poi (h.le f) t;refine⟨l,λi u r C=> ?_⟩;obtain⟨j,m⟩:=v i u r C;obtain⟨g,n⟩:=A i u r j;exact⟨g,m.trans n⟩
def Obj.axV:Obj->Bool
 |.cells .. =>true
 |_=>false
def NoD(o:Obj):Prop:=∀d l,o ≠ .deferred (some (d::l))
def Leaves{α:Type}(P:Program)(A:α->Prop):Sem α->Prop
 |.pure a=>A a
 |.load _ _ k=>∀v,Leaves P A (k v)
 |.store _ _ _ k=>Leaves P A k
 |.new o k=>NoD o/\∀r,Leaves P A (k r)
 |.shape _ k=>∀z,Leaves P A (k z)
 |.freeze _ _ k=>Leaves P A k
 |.frozen _ k=>∀b,Leaves P A (k b)
 |.getObj _ k=>∀o,Leaves P A (k o)
 |.setObj _ _ _=>False
 |.choose _ k=>∀n,Leaves P A (k n)
 |.sys _ k=>∀r,Leaves P A (k r)
 |.program k=>Leaves P A (k P)
 |.mark _ k=>Leaves P A k
 |.halt _=>True
def js{α:Type}(P:Program)(s:Sem α):Prop:=Leaves P (λ_=>False) s
def Leaves.bind{A:W->Prop}{B:β->Prop}{f:W->Sem β}:∀{s:Sem W},Leaves P A s->(∀a,A a->Leaves P B (f a))->Leaves P B (s.bind f):=by
 intro s
 induction s with
 |pure a=>intro h b;exact b a h
 |load m a k d=>intro h b v;exact d v (h v) b
 |store m a v k d=>intro h b;exact d h b
 |new o k d=>intro h b;exact⟨h.1,λr=>d r (h.2 r) b⟩
 |shape r k d=>intro h b v;exact d v (h v) b
 |freeze a n k d=>intro h b;exact d h b
 |frozen a k d=>intro h b v;exact d v (h v) b
 |getObj r k d=>intro h b v;exact d v (h v) b
 |setObj r o k d=>intro h;exact h.elim
 |choose q k d=>intro h b v;exact d v (h v) b
 |sys c k d=>intro h b v;exact d v (h v) b
 |program k d=>intro h b;exact d _ h b
 |mark m k d=>intro h b;exact d h b
 |halt h=>intro _ _;trivial
def js.bind(h:js P s)(f:W->Sem β):js P (s.bind f):=Leaves.bind h λ_ h=>h.elim
def fC(b:Leaves P (λ_=>True) s){f:W->Sem β}(h:∀a,js P (f a)):js P (s >>=f):=Leaves.bind b λa _=>h a
def dZ(h:Halt):js P (.halt h:Sem W):=trivial
def eI(w w1:World):Prop:=∀(b:Nat) (d:Deferred) (l:List Deferred),w1.heap[b]?=some (Obj.deferred (some (d::l)))->w.heap[b]?=some (Obj.deferred (some (d::l)))
def eI.refl(w:World):eI w w:=λ_ _ _ h=>h
def eI.trans{a b c:World}(h:eI a b)(k:eI b c):eI a c:=λx d l e=>h x d l (k x d l e)
def eI.setCell(w:World)(a:Addr)(v:Value):eI w (w.setCell a v):=λb d l h=>by
 unfold World.setCell at h;simp only[mw] at h;by_cases e:a.block=b
 .rw[dl e] at h;cases c:w.heap[b]? with
  |none=>rw[c] at h;cases h
  |some o=>rw[c] at h;cases o<;>simp at h;rw[h]
 .rw[bd e] at h;exact h
def eI.freeze(w:World)(a:Addr)(n:Nat):eI w (w.freeze a n):=λb d l h=>by
 unfold World.freeze at h;by_cases f:n=0
 .rw[dl f] at h;exact h
 rw[bd f] at h;simp only[mw] at h;by_cases e:a.block=b
 .rw[dl e] at h;cases c:w.heap[b]? with
  |none=>rw[c] at h;cases h
  |some o=>rw[c] at h;cases o<;>simp at h;rw[h]
 .rw[bd e] at h;exact h
def eI.push(w:World)(a:NoD o):eI w {w with heap:=w.heap.push o}:=λb d l h=>by
 change (w.heap.push o)[b]?=_ at h;rw[pY] at h;split at h
 .simp only[lw] at h;exact absurd h (a d l)
 .exact h
def eI.set(w:World)(r:Nat)(a:NoD o):eI w {w with heap:=w.heap.setIfInBounds r o}:=λb d l h=>by
 change (w.heap.setIfInBounds r o)[b]?=_ at h;rw[pe] at h;split at h
 .split at h
  .simp only[lw] at h;exact absurd h (a d l)
  .cases h
 .exact h
def ad0{u:TypeId}{k:Addr}{b:Bool}(h:w.viewStore P Y u k v b=.ok (U,ts)):∃r c e z,U={w with heap:=w.heap.setIfInBounds r (.cells c e z)}:=by
 unfold World.viewStore at h;simp only[bind,Except.bind,pure,Except.pure,throw,throwThe,MonadExceptOf.throw] at h
 repeat' split at h
 all_goals first|(cases h;done)|(cases h;exact⟨_,_,_,_,rfl⟩)
def eI.farStore{b:Bool}(h:w.farStore P a v b=.ok (U,ts)):eI w U:=by
 unfold World.farStore at h;split at h
 .split at h
  .rename_i f;simp only[Except.ok.injEq] at h;subst h;obtain⟨r,c,e,z,rfl⟩:=ad0 f;exact eI.set w r λd l e=>by cases e
  .cases h
 .cases h
def ad1{b:Type}:∀(a:Ask b) (w:World),(w.ask a).2.heap=w.heap
 |.done a,w=>rfl
 |.ask what range k,w=>by
  unfold World.ask;dsimp only;split
  .exact ad1 (k 0) w
  .exact ad1 (k _) _
def apP(w:World)(c:Sys):(w.sys c).2.heap=w.heap:=by
 have h:=ad1 (Kernel.perform c w.os) w;unfold World.sys;split
 .rfl
 .rename_i r d b a;rw[a] at h;exact h
def Leaves.acR  :∀{s:Sem W},js P s->∀(w:World) (g:Array Event),∃h i t,s.runT P w g=(.halt h i,t)/\eI w i:=by
 intro s
 induction s with
 |pure a=>intro h;exact h.elim
 |load m a k f=>
  intro h w g;rw[Sem.runT];cases C:w.cell? a with
  |some v=>exact f v (h v) _ _
  |none=>
   cases A:w.farLoad P a (m ==.atomic) with
   |error e=>exact⟨_,_,_,rfl,.refl _⟩
   |ok q=>obtain⟨v,B⟩:=q;exact f v (h v) _ _
 |store m a v k f=>
  intro h w g;by_cases z:(∀x,v ≠ .agg x)/\∀x,v ≠ .tuple x
  .rw[rB _ _ _ _ _ _ _ z.1 z.2];cases C:w.cell? a with
   |some u=>
    cases A:w.frozen? a with
    |true=>exact⟨_,_,_,rfl,.refl _⟩
    |false=>
     simp only[fd,qc];obtain⟨y,i,t,p,j⟩:=f h (w.setCell a v) (g.push ⟨.cell a,true,m ==.atomic⟩);exact⟨y,i,t,p,(eI.setCell w a v).trans j⟩
   |none=>
    cases A:w.farStore P a v (m ==.atomic) with
    |error e=>exact⟨_,_,_,rfl,.refl _⟩
    |ok q=>
     obtain⟨D,B⟩:=q;obtain⟨y,i,t,p,j⟩:=f h D (g++B.toArray.map (⟨.cell ·,true,m ==.atomic⟩));exact⟨y,i,t,p,(eI.farStore A).trans j⟩
  .have:(∃x,v=.agg x)\/∃x,v=.tuple x:=by
    by_cases p:∃x,v=.agg x
    .exact .inl p
    .by_cases j:∃x,v=.tuple x
     .exact .inr j
     .exact absurd ⟨λx e=>p ⟨x,e⟩,λx e=>j ⟨x,e⟩⟩ z
   rcases this with⟨x,rfl⟩|⟨x,rfl⟩<;>exact⟨_,_,_,by rw[Sem.runT],.refl _⟩
 |new o k f=>
  intro h w g;rw[Sem.runT];obtain⟨y,i,t,p,j⟩:=f _ (h.2 _) {w with heap:=w.heap.push o} g;exact⟨y,i,t,p,(eI.push w h.1).trans j⟩
 |shape r k f=>intro h w g;rw[Sem.runT];exact f _ (h _) _ _
 |freeze a n k f=>
  intro h w g;rw[Sem.runT];obtain⟨y,i,t,p,j⟩:=f h (w.freeze a n) g;exact⟨y,i,t,p,(eI.freeze w a n).trans j⟩
 |frozen a k f=>intro h w g;rw[Sem.runT];exact f _ (h _) _ _
 |getObj r k f=>
  intro h w g;rw[Sem.runT];cases C:w.heap[r]? with
  |none=>exact⟨_,_,_,rfl,.refl _⟩
  |some o=>cases o<;>first|exact⟨_,_,_,rfl,.refl _⟩|exact f _ (h _) _ _
 |setObj r o k f=>intro h;exact h.elim
 |choose q k f=>
  intro h w g;rw[Sem.runT];split
  .exact f _ (h _) _ _
  .exact f _ (h _) {w with drawn:=w.drawn+1} _
 |sys c k f=>
  intro h w g;rw[Sem.runT];obtain⟨y,i,t,p,j⟩:=f (w.sys c).1 (h _) (w.sys c).2 (g.push ⟨.output,true,false⟩);exact⟨y,i,t,p,eI.trans (λb d l e=>by rw[apP] at e;exact e) j⟩
 |program k f=>intro h w g;rw[Sem.runT];exact f _ h _ _
 |mark m k f=>intro h w g;rw[Sem.runT];exact f h _ _
 |halt h=>intro _ w g;rw[Sem.runT];exact⟨_,_,_,rfl,.refl _⟩
inductive aB (P P':Program) {α β:Type} (A:Ren->α->β->Prop):Ren->Sem α->Sem β->Prop
 |pure {ρ a b} (h:A ρ a b):aB P P' A ρ (.pure a) (.pure b)
 |load {ρ} (m:Mode) {a a' k k'} (ha:AR ρ a a') (hk:∀v v',VR ρ v v'->aB P P' A ρ (k v) (k' v')):aB P P' A ρ (.load m a k) (.load m a' k')
 |store {ρ} (m:Mode) {a a' v v' k k'} (ha:AR ρ a a') (hv:VR ρ v v') (hk:aB P P' A ρ k k'):aB P P' A ρ (.store m a v k) (.store m a' v' k')
 |new {ρ o o' k k'} (ho:OR ρ o o') (hk:∀σ r r',ρ.Le σ->σ.r r r'->aB P P' A σ (k r) (k' r')):aB P P' A ρ (.new o k) (.new o' k')
 |shape {ρ r r' k k'} (hr:ρ.r r r') (hk:∀s,aB P P' A ρ (k s) (k' s)):aB P P' A ρ (.shape r k) (.shape r' k')
 |amI {ρ} {a a':Addr} (n:Nat) {k:ByteArray->Sem α} {k':ByteArray->Sem β} (ha:AR ρ a a') (hk:∀s,aB P P' A ρ (k s) (k' s)):aB P P' A ρ ((loadBytes a .empty (n+1)).bind λs=>.freeze a (n+1) (k s)) ((loadBytes a' .empty (n+1)).bind λs=>.freeze a' (n+1) (k' s))
 |asR {ρ} {c c':Array Value} (t:TypeId) {k:Nat->Sem α} {k':Nat->Sem β} (hc:bN ρ c.toList c'.toList) (hk:∀σ r r',ρ.Le σ->σ.r r r'->aB P P' A σ (k r) (k' r')):aB P P' A ρ (.new (.cells c t) λr=>(markStringish ⟨r,0,none⟩).bind λ_=>k r) (.new (.cells c' t) λr=>(markStringish ⟨r,0,none⟩).bind λ_=>k' r)
 |frozen {ρ a a' k k'} (ha:AR ρ a a') (hk:∀b b':Bool,(b'=true->b=true)->aB P P' A ρ (k b) (k' b')):aB P P' A ρ (.frozen a k) (.frozen a' k')
 |getObj {ρ r r' k k'} (hr:ρ.r r r') (hk:∀o o',OR ρ o o'->aB P P' A ρ (k o) (k' o')):aB P P' A ρ (.getObj r k) (.getObj r' k')
 |setObj {ρ r r' o o' k k'} (hr:ρ.r r r') (ho:OR ρ o o') (hk:aB P P' A ρ k k'):aB P P' A ρ (.setObj r o k) (.setObj r' o' k')
 |choose {ρ} (q:Question) {k k'} (hk:∀n,aB P P' A ρ (k n) (k' n)):aB P P' A ρ (.choose q k) (.choose q k')
 |aa2 {ρ} (q:Question) (n:Nat) (hq:q.forced=false) {k} {s':Sem β} (hk:aB P P' A ρ (k (q.cut n)) s'):aB P P' A ρ (.choose q k) s'
 |adP {ρ} {s:Sem α} {a' k'} (hk:∀b,aB P P' A ρ s (k' b)):aB P P' A ρ s (.frozen a' k')
 |ag3 {ρ} {s:Sem α} {r' k'} (hk:∀b,aB P P' A ρ s (k' b)):aB P P' A ρ s (.shape r' k')
 |program {ρ k k'} (hk:aB P P' A ρ (k P) (k' P')):aB P P' A ρ (.program k) (.program k')
 |mark {ρ m m' k k'} (hm:MkR ρ m m') (hk:aB P P' A ρ k k'):aB P P' A ρ (.mark m k) (.mark m' k')
 |halt {ρ} (h:Halt) (s:Sem β):aB P P' A ρ (.halt h) s
 |dead {ρ} {s:Sem α} (h:js P s) (s':Sem β):aB P P' A ρ s s'
 |acR {ρ} {s:Sem α} (h:∀(w w':World),WR ρ w w'->∀es:Array Event,∃h w1 iw,s.runT P w es=(.halt h w1,iw)/\eI w w1) (s':Sem β):aB P P' A ρ s s'
def Sem.jU(P:Program)(s:Sem W)(f:W->Sem β):∀(w:World) (d:Array Event),(s.bind f).runT P w d=match s.runT P w d with
  |(.ok a w1,iw)=>(f a).runT P w1 iw
  |(.halt h w1,iw)=>(.halt h w1,iw):=by
 induction s with
 |pure a=>intro w d;rfl
 |load m a k b=>
  intro w d;show(Sem.load m a λv=>(k v).bind f).runT P w d=_;rw[Sem.runT,Sem.runT];cases w.cell? a with
  |some v=>exact b v _ _
  |none=>
   dsimp only;cases w.farLoad P a (m ==.atomic) with
   |ok x=>exact b _ _ _
   |error x=>rfl
 |store m a v k b=>
  intro w d;by_cases g:(∀x,v ≠ .agg x)/\∀x,v ≠ .tuple x
  .show(Sem.store m a v (k.bind f)).runT P w d=_;rw[rB _ _ _ _ _ _ _ g.1 g.2,rB _ _ _ _ _ _ _ g.1 g.2];cases w.cell? a with
   |some u=>
    dsimp only;split
    .rfl
    .exact b _ _
   |none=>
    dsimp only;cases w.farStore P a v (m ==.atomic) with
    |ok x=>exact b _ _
    |error x=>rfl
  .have:(∃x,v=.agg x)\/∃x,v=.tuple x:=by
    by_cases j:∃x,v=.agg x
    .exact .inl j
    .by_cases i:∃x,v=.tuple x
     .exact .inr i
     .exact absurd ⟨λx e=>j ⟨x,e⟩,λx e=>i ⟨x,e⟩⟩ g
   rcases this with⟨x,rfl⟩|⟨x,rfl⟩<;>rfl
 |new o k b=>intro w d;exact b _ _ _
 |shape r k b=>intro w d;exact b _ _ _
 |freeze a n k b=>intro w d;exact b _ _
 |frozen a k b=>intro w d;exact b _ _ _
 |getObj r k b=>
  intro w d;show(Sem.getObj r λv=>(k v).bind f).runT P w d=_;rw[Sem.runT,Sem.runT];cases w.heap[r]? with
  |none=>rfl
  |some o=>cases o<;>first|rfl|exact b _ _ _
 |setObj r o k b=>
  intro w d;show(Sem.setObj r o (k.bind f)).runT P w d=_;rw[Sem.runT,Sem.runT];cases w.heap[r]? with
  |none=>rfl
  |some o=>cases o<;>first|rfl|exact b _ _
 |choose q k b=>
  intro w d;show(Sem.choose q λn=>(k n).bind f).runT P w d=_;rw[Sem.runT,Sem.runT];split<;>exact b _ _ _
 |sys c k b=>intro w d;exact b _ _ _
 |program k b=>intro w d;exact b _ _ _
 |mark m k b=>intro w d;exact b _ _
 |halt h=>intro w d;rfl
def aB.bind {H G : Type} {A:Ren->W->β->Prop} {B:Ren->H->G->Prop} {ρ:Ren}  {f:W->Sem H} {f':β->Sem G}
  (h:aB P P' A ρ s s') (g:∀u a p,ρ.Le u->A u a p->aB P P' B u (f a) (f' p)):aB P P' B ρ (s.bind f) (s'.bind f'):=by
 induction h with
 |pure x=>exact g _ _ _ (Ren.Le.refl _) x
 |load m j i d=>exact .load m j λv O D=>d v O D g
 |store m j D i d=>exact .store m j D (d g)
 |new y i d=>exact .new y λu r E z l=>d u r E z l λF a p C j=>g F a p (z.trans C) j
 |shape l i d=>exact .shape l λs=>d s g
 |@amI ρ a p n k J j i d=>
  have e:∀(a:Addr) {W β:Type} (k:ByteArray->Sem W) (f:W->Sem β),((loadBytes a .empty (n+1)).bind λs=>Sem.freeze a (n+1) (k s)).bind f=(loadBytes a .empty (n+1)).bind λs=>.freeze a (n+1) ((k s).bind f):=λa W β k f=>Sem.bind_assoc' _ _ _;rw[e,e];exact .amI n j λs=>d s g
 |@asR ρ c X t k J L i d=>
  have e:∀(c:Array Value) {W β:Type} (k:Nat->Sem W) (f:W->Sem β),(Sem.new (.cells c t) λr=>(markStringish ⟨r,0,none⟩).bind λ_=>k r).bind f=.new (.cells c t) λr=>(markStringish ⟨r,0,none⟩).bind λ_=>(k r).bind f:=λc W β k f=>
   fa (Sem.new (.cells c t)) (funext λr=>Sem.bind_assoc' _ _ _)
  rw[e,e];exact .asR t L λu r E z l=>d u r E z l λF a p C j=>g F a p (z.trans C) j
 |frozen j i d=>exact .frozen j λb Q h=>d b Q h g
 |getObj l i d=>exact .getObj l λo U y=>d o U y g
 |setObj l y i d=>exact .setObj l y (d g)
 |choose q i d=>exact .choose q λn=>d n g
 |aa2 q n R i d=>exact .aa2 q n R (d g)
 |adP i d=>exact .adP λb=>d b g
 |ag3 i d=>exact .ag3 λb=>d b g
 |program i d=>exact .program (d g)
 |mark V i d=>exact .mark V (d g)
 |halt h s=>exact .halt h _
 |dead h s=>exact .dead (h.bind _) _
 |acR h s=>
  refine .acR (λw N K T=> ?_) _;obtain⟨S,M,I,e,hd⟩:=h w N K T;exact⟨S,M,I,by rw[Sem.jU,e],hd⟩
def bB.setCell(w:World)(a:Addr)(v:Value)(b:Nat)(h:bB w b):bB (w.setCell a v) b:=by
 obtain⟨c,t,z,g,d,i,f⟩:=h;unfold World.setCell;simp only[bB,mw];by_cases e:a.block=b
 .rw[dl e,g];refine⟨_,t,z,rfl,d, ?_,f⟩;split<;>simpa using i
 .rw[bd e];exact⟨c,t,z,g,d,i,f⟩
def bB.push(w:World)(o:Obj)(b:Nat)(h:bB w b):bB {w with heap:=w.heap.push o} b:=by
 obtain⟨c,t,z,a,e,g,f⟩:=h;have d:=(de.1 a).1;refine⟨c,t,z, ?_,e,g,f⟩;show(w.heap.push o)[b]?=_;rw[pY,bd (by omega)];exact a
def bB.set(w:World)(i:∀c t z,w.heap[r]?≠some (.cells c t z))(b:Nat)(h:bB w b):bB {w with heap:=w.heap.setIfInBounds r o} b:=by
 obtain⟨c,t,z,a,d,g,f⟩:=h;refine⟨c,t,z, ?_,d,g,f⟩;show(w.heap.setIfInBounds r o)[b]?=_;by_cases e:r=b
 .subst e;exact absurd a (i _ _ _)
 .rw[ip e];exact a
def bB.freeze(w:World)(a:Addr)(n:Nat)(b:Nat)(h:bB w b):bB (w.freeze a n) b:=by
 obtain⟨c,t,z,i,d,f,g⟩:=h;unfold World.freeze;by_cases k:n=0
 .rw[dl k];exact⟨c,t,z,i,d,f,g⟩
 rw[bd k];simp only[bB,mw];by_cases e:a.block=b
 .rw[dl e,i];obtain⟨l,j⟩:=z;dsimp only at d f g;refine⟨c,t,(min l a.off,max j (a.off+n)), ?_, ?_, ?_, ?_⟩
  .show some (Obj.cells c t (if l ==j then _ else _))=_;rw[bd (by simp;omega)]
  .dsimp only;omega
  .dsimp only;omega
  .dsimp only;omega
 .rw[bd e];exact⟨c,t,z,i,d,f,g⟩
def WR.dW{ρ a:Ren}(h:WR ρ w w')(k:ρ.Le a)(e:∀{b d},a.r b d->∃o c,U.heap[b]?=some o/\L.heap[d]?=some c/\OR a o c)(f:U.ou=w.ou)(j:L.ou=w'.ou)(i:w.heap.size<=U.heap.size)(g:w'.heap.size<=L.heap.size):WR a U L:=⟨e,f.trans (h.os.trans j.symm),ap h.jc.1 i,ap h.jc.2 g⟩
def WR.cell{ρ:Ren}(h:WR ρ w w')(g:AR ρ a Y)(b:w.cell? a=some v):∃c,w'.cell? Y=some c/\VR ρ v c:=by
 obtain⟨e,o,s⟩:=g;obtain⟨x,k,i,d,f⟩:=h.obj e;unfold World.cell? at b ⊢;simp only at b ⊢;rw[i] at b;rw[d];cases f with
 |cells j t l=>
  simp only at b ⊢;cases s with
  |some s=>simp at b
  |none=>
   simp only[sE,fd,qc] at b ⊢;rw[<-ef] at b ⊢;exact j.get b
 |map|stringIter|number|mapIter|loop|bD|deferred=>simp at b
def WR.akm{ρ:Ren}(h:WR ρ w w')(f:AR ρ a Y)(p:Program)(b:Bool)(k:w.cell? a=none):(∃e,w.farLoad p a b=.error e)/\∀v,∃e,w.farStore p a v b=.error e:=by
 obtain⟨c,o,s⟩:=f;obtain⟨x,j,g,i,d⟩:=h.obj c;unfold World.farLoad World.farStore;simp only[g];cases d<;>exact⟨⟨_,rfl⟩,λ_=>⟨_,rfl⟩⟩
def WR.anZ{ρ:Ren}(h:WR ρ w w')(j:AR ρ a Y)(b:w.cell? a=some v)(d:w.frozen? a=false):w'.frozen? Y=false:=by
 obtain⟨g,o,s⟩:=j;obtain⟨x,q,k,f,i⟩:=h.obj g;unfold World.frozen? at d ⊢;unfold World.cell? at b;simp only at d b ⊢;rw[k] at d b;rw[f];cases i with
 |cells r t l=>
  rcases l with rfl|⟨_,p,u, -⟩
  .exact d
  .exfalso;rename_i c m z n;simp only at b d;cases s with
   |some s=>simp at b
   |none=>
    simp only[sE,fd,qc] at b;have e:=(de.1 b).1;simp at d;omega
 |map|stringIter|number|mapIter|loop|bD|deferred=>rfl
def WR.an0{ρ:Ren}(h:WR ρ w w')(f:AR ρ a Y)(b:w'.frozen? Y=true):w.frozen? a=true:=by
 obtain⟨d,o,s⟩:=f;obtain⟨x,m,g,c,e⟩:=h.obj d;unfold World.frozen? at b ⊢;simp only[g,c] at b ⊢;cases e with
 |cells k t i=>
  rcases i with rfl|⟨_,j,n,l⟩
  .exact b
  .simp at b ⊢;omega
 |map|stringIter|number|mapIter|loop|bD|deferred=>cases b
def WR.shape{ρ:Ren}(h:WR ρ w w')(b:ρ.r r R):w.shape? r=w'.shape? R:=by
 obtain⟨x,f,c,a,e⟩:=h.obj b;unfold World.shape?;simp only[c,a];cases e with
 |cells d t g=>
  have:=d.length;simp only[qJ] at this;show some (t,_)=some (t,_);rw[this]
 |map|stringIter|number|mapIter|loop|bD|deferred=>rfl
def WR.turn {ρ:Ren} (h:WR ρ w w') (g:ρ.r r R) (F j:Obj->Obj) (q:∀b,U.heap[b]?=if b=r then(w.heap[b]?).map F else w.heap[b]?) (k:∀b,L.heap[b]?=if b=R then(w'.heap[b]?).map j else w'.heap[b]?)
  (u:∀o c,OR ρ o c->OR ρ (F o) (j c)) (n:U.ou=w.ou) (t:L.ou=w'.ou) (p:U.heap.size=w.heap.size) (m:L.heap.size=w'.heap.size):WR ρ U L:=by
 refine h.dW (Ren.Le.refl _) (λ{b l} a=> ?_) n t (me p.symm) (me m.symm)
 .obtain⟨o,c,f,i,d⟩:=h.obj a;rw[q,k];by_cases e:b=r
  .subst e;obtain rfl:=ρ.fn a g;rw[dl rfl,dl rfl,f,i];exact⟨_,_,rfl,rfl,u _ _ d⟩
  .have s:l≠R:=λx=>e (ρ.inj a (x▸g));rw[bd e,bd s,f,i];exact⟨_,_,rfl,rfl,d⟩
def kN(w:World)(a:Addr)(v:Value)(b:Nat):(w.setCell a v).heap[b]?=if b=a.block then(w.heap[b]?).map (fun
   |.cells c d frozen=>.cells (if a.spot.isSome then c else c.setIfInBounds a.off v) d frozen
   |o=>o) else w.heap[b]?:=by
 unfold World.setCell;simp only[mw];by_cases e:b=a.block
 .rw[dl e,dl e.symm]
  congr 1
 .rw[bd e,bd (sb e)]
def WR.setCell{ρ:Ren}(h:WR ρ w w')(m:AR ρ a Y)(q:VR ρ v v'):WR ρ (w.setCell a v) (w'.setCell Y v'):=by
 obtain⟨f,o,s⟩:=m;refine h.turn f _ _ (kN w _ v) (kN w' _ v') (λx A i=> ?_) rfl rfl (by unfold World.setCell;simp) (by unfold World.setCell;simp);cases i with
 |cells b t c=>
  cases s with
  |some s=>exact .cells b t c
  |none=>exact .cells (by simpa using b.set o q) t (by simpa using c)
 |map x k=>exact .map x k
 |stringIter s p=>exact .stringIter s p
 |number x l=>exact .number x l
 |mapIter x s t n=>exact .mapIter x s t n
 |loop u e g r z j y d=>exact .loop u e g r z j y d
 |bD=>exact .bD
 |deferred=>exact .deferred
def Rw.of_eq{b:Nat}(h:Rw w b)(e:U.heap[b]?=w.heap[b]?):Rw U b:=let⟨c,t,z,a⟩:=h;⟨c,t,z,e.trans a⟩
def iD{b i:Nat}(h:U.heap[b]?=w.heap[b]?):U.cell? ⟨b,i,none⟩=w.cell? ⟨b,i,none⟩:=by
 unfold World.cell?;rw[h]
def Kept.turn {ρ:Ren}  (c:ρ.r r R) (j:∀b,b≠r->U.heap[b]?=w.heap[b]?) (k:∀b,b≠R->L.heap[b]?=w'.heap[b]?) (x:U.heap.size=w.heap.size) (t:L.heap.size=w'.heap.size)
  (v:U.ou=w.ou/\L.ou=w'.ou) (q:U.tape=w.tape/\L.tape=w'.tape) (u1:U.output=w.output/\L.output=w'.output) (o:U.drawn=w.drawn/\L.drawn=w'.drawn) (s:∀b,bB w b->bB U b) (d:bB w r->¬NoB w r)
  (p:Rw w r->Rw U r/\∀i u,anY u->U.cell? ⟨r,i,none⟩=some u->w.cell? ⟨r,i,none⟩=some u/\L.cell? ⟨R,i,none⟩=w'.cell? ⟨R,i,none⟩):Kept ρ ρ w w' U L:=
 ⟨me x.symm,me t.symm,.inl,λ{b} _ a=>j b λe=>a R (e▸c),λ{b} _ a=>k b λe=>a r (e▸c),v,q,u1,⟨me o.1.symm,me o.2.symm⟩,s,id,λ{b f} g n a=>⟨j b λe=>d (e▸n) (e▸a),k f λe=>by subst e;obtain rfl:=ρ.inj g c;exact d n a⟩,λ{b f} g m=>by
  by_cases e:b=r
  .subst e;obtain rfl:=ρ.fn g c;exact p m
  .have l:f≠R:=λl=>by subst l;exact e (ρ.inj g c)
   exact⟨m.of_eq (j b e),λi u _ y=>⟨(iD (j b e)).symm.trans y,iD (k f l)⟩⟩⟩
def Kept.setCell{ρ:Ren}(w w':World)(C:AR ρ a Y)(v v':Value)(p:¬bB w a.block)(l:¬anY v):Kept ρ ρ w w' (w.setCell a v) (w'.setCell Y v'):=by
 obtain⟨y,o,s⟩:=C;refine Kept.turn y (λb n=> ?_) (λb n=> ?_) (by unfold World.setCell;simp) (by unfold World.setCell;simp) ⟨rfl,rfl⟩ ⟨rfl,rfl⟩ ⟨rfl,rfl⟩ ⟨rfl,rfl⟩ (bB.setCell w _ v) (λh _=>p h) (λx=> ?_)
 .rw[kN,bd n]
 .rw[kN,bd n]
 .obtain⟨c,t,z,f⟩:=x;rename_i q D;have g:∀(w:World) (b i:Nat) (v:Value),(s.isSome=true\/i≠o)->(w.setCell ⟨b,o,s⟩ v).cell? ⟨b,i,none⟩=w.cell? ⟨b,i,none⟩:=λw b i v j=>by
   unfold World.setCell World.cell?;simp only[mw,mT];cases w.heap[b]? with
   |none=>rfl
   |some B=>
    cases B with
    |cells c t z=>
     cases s with
     |some s=>rfl
     |none=>simp[pe,(j.resolve_left (by simp)).symm]
    |_=>rfl
  have m:Rw (w.setCell ⟨q,o,s⟩ v) q:=by
   unfold Rw World.setCell;simp only[mw,mT,f];cases s<;>exact⟨_,_,_,rfl⟩
  refine⟨m,λi u A k=> ?_⟩;have j:s.isSome=true\/i≠o:=by
   cases s with
   |some s=>exact .inl rfl
   |none=>
    refine .inr λe=> ?_;subst e;unfold World.setCell World.cell? at k;simp only[mw,mT,f] at k;have d:(c.setIfInBounds i v)[i]?=some u:=k;rw[pe,dl rfl] at d;by_cases r:i<c.size
    .rw[dl r] at d;cases d;exact l A
    .rw[bd r] at d;cases d
  exact⟨(g _ _ _ _ j).symm.trans k,g _ _ _ _ j⟩
def WR.push{ρ:Ren}(h:WR ρ w w')(l:OR ρ o o') :
  ∃d:Ren,ρ.Le d/\d.r w.heap.size w'.heap.size/\WR d {w with heap:=w.heap.push o} {w' with heap:=w'.heap.push o'}/\Kept ρ d w w' {w with heap:=w.heap.push o} {w' with heap:=w'.heap.push o'}:=by
 have e:∀b,¬ρ.r w.heap.size b:=λb a=>by have:=(h.lt a).1;omega
 have n:∀b,¬ρ.r b w'.heap.size:=λb a=>by have:=(h.lt a).2;omega
 refine⟨ρ.ext _ _ e n h.jc.1 h.jc.2,Ren.adZ,.inr ⟨rfl,rfl⟩,h.dW Ren.adZ (λ{b c} a=> ?_) rfl rfl (by simp) (by simp), ?_⟩
 .rcases a with a|⟨rfl,rfl⟩
  .obtain⟨x,r,m,q,e⟩:=h.obj a;obtain⟨g,j⟩:=h.lt a;refine⟨x,r, ?_, ?_,e.mono Ren.adZ⟩
   .show(w.heap.push o)[b]?=_;rw[pY,bd (by omega)];exact m
   .show(w'.heap.push o')[c]?=_;rw[pY,bd (by omega)];exact q
  .exact⟨o,o',by simp,by simp,l.mono Ren.adZ⟩
 .refine⟨by simp,by simp,λa=> ?_,λ{b} a _=> ?_,λ{b} a _=> ?_,⟨rfl,rfl⟩,⟨rfl,rfl⟩,⟨rfl,rfl⟩,⟨am _,am _⟩,bB.push w o,Ren.adZ.r,λ{b c} a _ _=> ?_,λ{b c} a k=> ?_⟩
  .rcases a with a|⟨rfl,rfl⟩
   .exact .inl a
   .exact .inr ⟨am _,am _⟩
  .show(w.heap.push o)[b]?=_;rw[pY,bd (by omega)]
  .show(w'.heap.push o')[b]?=_;rw[pY,bd (by omega)]
  .obtain⟨g,j⟩:=h.lt a;refine⟨?_, ?_⟩
   .show(w.heap.push o)[b]?=_;rw[pY,bd (by omega)]
   .show(w'.heap.push o')[c]?=_;rw[pY,bd (by omega)]
  .obtain⟨g,j⟩:=h.lt a;have f:({w with heap:=w.heap.push o}:World).heap[b]?=w.heap[b]?:=by
    show(w.heap.push o)[b]?=_;rw[pY,bd (by omega)]
   have p:({w' with heap:=w'.heap.push o'}:World).heap[c]?=w'.heap[c]?:=by
    show(w'.heap.push o')[c]?=_;rw[pY,bd (by omega)]
   exact⟨k.of_eq f,λi u _ s=>⟨(iD f).symm.trans s,iD p⟩⟩
def WR.set{ρ:Ren}(h:WR ρ w w')(d:ρ.r r R)(m:OR ρ o o') :
  (∀c t z,w.heap[r]?≠some (.cells c t z))->WR ρ {w with heap:=w.heap.setIfInBounds r o} {w' with heap:=w'.heap.setIfInBounds R o'}/\Kept ρ ρ w w' {w with heap:=w.heap.setIfInBounds r o} {w' with heap:=w'.heap.setIfInBounds R o'}:=by
 intro a;have n:=bB.set w (r:=r) (o:=o) a
 obtain⟨k,l⟩:=h.lt d;have i:∀b,(w.heap.setIfInBounds r o)[b]?=if b=r then(w.heap[b]?).map (λ_=>o) else w.heap[b]?:=λb=>by
  rw[pe];by_cases e:b=r
  .subst e;rw[dl rfl,dl rfl,dl k,fi k];rfl
  .rw[bd (sb e),bd e]
 have j:∀b,(w'.heap.setIfInBounds R o')[b]?=if b=R then(w'.heap[b]?).map (λ_=>o') else w'.heap[b]?:=λb=>by
  rw[pe];by_cases e:b=R
  .subst e;rw[dl rfl,dl rfl,dl l,fi l];rfl
  .rw[bd (sb e),bd e]
 refine⟨h.turn d _ _ i j (λ_ _ _=>m) rfl rfl (by simp) (by simp),Kept.turn d (λb f=> ?_) (λb f=> ?_) (by simp) (by simp) ⟨rfl,rfl⟩ ⟨rfl,rfl⟩ ⟨rfl,rfl⟩ ⟨rfl,rfl⟩ n (λ⟨c,t,z,g,_⟩ _=>a c t z g) (λ⟨c,t,z,g⟩=>(a c t z g).elim)⟩
 .show(w.heap.setIfInBounds r o)[b]?=_;rw[i,bd f]
 .show(w'.heap.setIfInBounds R o')[b]?=_;rw[j,bd f]
def WR.ask{ρ:Ren}(h:WR ρ w w')(d a:Nat):WR ρ {w with drawn:=w.drawn+d} {w' with drawn:=w'.drawn+a}/\Kept ρ ρ w w' {w with drawn:=w.drawn+d} {w' with drawn:=w'.drawn+a}:=
 ⟨h.dW (Ren.Le.refl _) h.obj rfl rfl (am _) (am _),am _,am _,.inl,λ_ _=>rfl,λ_ _=>rfl,⟨rfl,rfl⟩,⟨rfl,rfl⟩,⟨rfl,rfl⟩,⟨Nat.le_add_right _ _,Nat.le_add_right _ _⟩,λ_ h=>h,id,λ_ _ _=>⟨rfl,rfl⟩,λ_ b=>⟨b,λ_ _ _ c=>⟨c,rfl⟩⟩⟩
def iE(w:World)(a:Addr)(n:Nat)(d:n≠0)(b:Nat):(w.freeze a n).heap[b]?=if b=a.block then(w.heap[b]?).map (fun
   |.cells c elem (lo,hi)=>.cells c elem (if lo ==hi then(a.off,a.off+n) else(min lo a.off,max hi (a.off+n)))
   |o=>o) else w.heap[b]?:=by
 unfold World.freeze;rw[bd d];simp only[mw];by_cases e:b=a.block
 .rw[dl e,dl e.symm]
  congr 1
 .rw[bd e,bd (sb e)]
def WR.freeze{ρ:Ren}(h:WR ρ w w')(S:AR ρ a Y)(n:Nat)(j:∃k,w.cell? a=some (.int .u8 k)):WR ρ (w.freeze a n) (w'.freeze Y n)/\Kept ρ ρ w w' (w.freeze a n) (w'.freeze Y n):=by
 have B:bB w a.block->¬NoB w a.block:=λ⟨c,t,z,g,_⟩ hnb=>by
  obtain⟨k,v⟩:=j;unfold World.cell? at v;rw[g] at v;obtain⟨b,o,s⟩:=a;cases s with
  |none=>exact hnb c t z g o k (by simpa using v)
  |some s=>simp at v
 by_cases f:n=0
 .unfold World.freeze;rw[dl f,dl f];exact⟨h,Kept.refl _ _ _⟩
 obtain⟨E,o,s⟩:=S;have d:∀(w:World) (a:Addr),(w.freeze a n).ou=w.ou/\(w.freeze a n).tape=w.tape/\(w.freeze a n).drawn=w.drawn/\(w.freeze a n).output=w.output/\(w.freeze a n).heap.size=w.heap.size:=λw a=>by
  unfold World.freeze;rw[bd f];exact⟨rfl,rfl,rfl,rfl,by simp⟩
 refine⟨h.turn E _ _ (iE w _ n f) (iE w' _ n f) (λx X Q=> ?_) (d _ _).1 (d _ _).1 (d _ _).2.2.2.2 (d _ _).2.2.2.2,Kept.turn E (λb j=> ?_) (λb j=> ?_) (d _ _).2.2.2.2 (d _ _).2.2.2.2 ⟨(d _ _).1,(d _ _).1⟩ ⟨(d _ _).2.1,(d _ _).2.1⟩ ⟨(d _ _).2.2.2.1,(d _ _).2.2.2.1⟩ ⟨(d _ _).2.2.1,(d _ _).2.2.1⟩ (bB.freeze w _ n) B (λM=> ?_)⟩
 .cases Q with
  |cells g t L=>
   rcases L with rfl|⟨y,q⟩
   .exact .cells g t (.inl rfl)
   .refine .cells g t (.inr ⟨y, ?_⟩);obtain⟨V,Z,W⟩:=q;rename_i c T z U;have G:(z.1 ==z.2)=false:=by simp;omega
    rw[G];simp only[fd,qc];refine⟨by omega,by omega,.inr ?_⟩;split
    .dsimp only;omega
    .rename_i A;simp at A;dsimp only;omega
  |map x k=>exact .map x k
  |stringIter s p=>exact .stringIter s p
  |number x l=>exact .number x l
  |mapIter x s t n=>exact .mapIter x s t n
  |loop I F O H K R J N=>exact .loop I F O H K R J N
  |bD=>exact .bD
  |deferred=>exact .deferred
 .rw[iE _ _ _ f,bd j]
 .rw[iE _ _ _ f,bd j]
 .have m:∀(w:World) (b i:Nat),(w.freeze ⟨b,o,s⟩ n).cell? ⟨b,i,none⟩=w.cell? ⟨b,i,none⟩:=λw b i=>by
   unfold World.cell?;rw[iE _ _ _ f,dl rfl];cases w.heap[b]? with
   |none=>rfl
   |some P=>cases P<;>rfl
  obtain⟨c,t,z,r⟩:=M;rename_i C D;refine⟨?_,λi u _ g=>⟨(m w C i).symm.trans g,m w' D i⟩⟩;have e:=iE w ⟨C,o,s⟩ n f C;rw[dl rfl,r] at e;exact⟨_,_,_,e⟩
def lu.app{ρ:Ren}:∀{l b:List Event},lu ρ l b->∀{m a:List Event},lu ρ m a->lu ρ (l++m) (b++a)
 |_,_,.nil,_,_,h=>h
 |_,_,.cons x y,_,_,h=>.cons x (y.app h)
def OR.noD{ρ:Ren}(h:OR ρ o o'):NoD o:=λd l e=>by cases h<;>cases e
def _root_.Go.World.tap(w:World)(t:Tape):World:={w with tape:=t}
def WR.tap{ρ:Ren}(h:WR ρ w w')(t:Tape):WR ρ (w.tap t) w':=⟨h.obj,h.os,h.jc⟩
def Agr(w:World)(D:Nat)(t₁ t:Tape):Prop:=∀i q,w.drawn<=i->i<w.drawn+D->t i q=t₁ i q
def aAd(w:World)(es:List Event):Prop:=∀b,bB w b->∀e∈es,e.write=true->(∀a,e.loc=.cell a->a.block≠b)/\∀r,e.loc=.obj r->r≠b
def bB.ail{u:Value}(d:w.cell? a=some u)(f:w.frozen? a=false){b:Nat}(i:bB w b):a.block≠b:=λe=>by
 subst e;obtain⟨c,t,z,g,j,l,k⟩:=i;unfold World.cell? at d;unfold World.frozen? at f;rw[g] at d f;simp only at d f;split at d
 .cases d
 .have:=(de.1 d).1;simp at f;omega
structure EvW (w:World) (σ:Ren) (us pq:Array Event):Prop where
 ev:lu σ us.toList pq.toList
 nw:aAd w us.toList
def EvW.nil(w:World)(b:Ren):EvW w b #[] #[]:=⟨.nil,λ_ _ e a=>by cases a⟩
def gp(P P':Program){α β:Type}(A:Ren->α->β->Prop)(ρ:Ren)(s:Sem α)(s':Sem β)(w w':World)(es es':Array Event):Prop:=
 ∃(b:Tape) (D:Nat),(∀t,Agr w D b t->∃h c j,s.runT P (w.tap t) es=(.halt h c,j)/\eI w c)\/
  ∃d a c g e f i,(∀t,Agr w D b t->s.runT P (w.tap t) es=(.ok a (c.tap t),es++f))/\c.drawn=w.drawn+D/\ρ.Le d/\s'.runT P' w' es'=(.ok g e,es'++i)/\A d a g/\WR d c e/\Kept ρ d w w' c e/\EvW w d f i
def gp.no{A:Ren->W->β->Prop}{ρ:Ren}(h:∀t,∃h a b,s.runT P (w.tap t) es=(.halt h a,b)/\eI w a):gp P P' A ρ s s' w w' es M:=
 ⟨w.tape,0,.inl λt _=>h t⟩
def gp.step  {A:Ren->W->β->Prop} {ρ g:Ren} {v : Sem W} {w0 : World} {e e' : Array Event} (h:gp P P' A g v J w0 U (es++e) (M++e'))
  (B:∀t,s.runT P (w.tap t) es=v.runT P (w0.tap t) (es++e)) (N:s'.runT P' w' M=J.runT P' U (M++e')) (d:w0.drawn=w.drawn) (o:eI w w0) (Q:ρ.Le g) (u:Kept ρ g w w' w0 U) (C:EvW w g e e'):gp P P' A ρ s s' w w' es M:=by
 obtain⟨f,D,h⟩:=h;refine⟨f,D,h.imp (λh t l=> ?_) ?_⟩
 .rw[B];obtain⟨G,j,E,m,k⟩:=h t λi q n p=>l i q (d▸n) (d▸p);exact⟨G,j,E,m,o.trans k⟩
 .rintro⟨O,a,j,H,F,T,R,m,k,z,I,L,S,K,y⟩;refine⟨O,a,j,H,F,e++T,e'++R,λt l=> ?_,k.trans (by rw[d]),Q.trans z, ?_,L,S,u.trans K, ?_⟩
  .rw[B,m t λi q n p=>l i q (d▸n) (d▸p),tv]
  .rw[N,I,tv]
  .refine⟨by rw[nF,nF];exact(C.ev.mono z).app y.ev,λb r x c=> ?_⟩;rw[nF,gt] at c;rcases c with c|c
   .exact C.nw b r x c
   .exact y.nw b (u.frz b r) x c
def gp.step0  {A:Ren->W->β->Prop} {ρ a:Ren} {c : Sem W} {w0 : World} (h:gp P P' A a c J w0 U es M)
  (j:∀t,s.runT P (w.tap t) es=c.runT P (w0.tap t) es) (f:s'.runT P' w' M=J.runT P' U M) (d:w0.drawn=w.drawn) (b:eI w w0) (g:ρ.Le a) (i:Kept ρ a w w' w0 U):gp P P' A ρ s s' w w' es M:=
 gp.step (e:=#[]) (e':=#[]) (by rw[qQ,qQ];exact h) (λt=>by rw[qQ];exact j t) (by rw[qQ];exact f) d b g i (.nil _ _)
def gp.draw  {A:Ren->W->β->Prop} {ρ:Ren} {q:Question} {k:Nat->Sem W}   (n:Nat) (u:q.forced=false) (h:gp P P' A ρ (k (q.cut n)) J {w with drawn:=w.drawn+1} U es M)
  (C:s'.runT P' w' M=J.runT P' U M) (s:Kept ρ ρ w w' {w with drawn:=w.drawn+1} U):gp P P' A ρ (.choose q k) s' w w' es M:=by
 obtain⟨c,D,h⟩:=h;have j:∀t:Tape,t w.drawn q=n->(Sem.choose q k).runT P (w.tap t) es=(k (q.cut n)).runT P (World.tap {w with drawn:=w.drawn+1} t) es:=λt d=>by
  rw[Sem.runT,u,bd (by simp)];show(k (q.cut (t w.drawn q))).runT P _ es=_;rw[d];rfl
 have e:∀t,Agr w (D+1) (λi q=>if i=w.drawn then n else c i q) t->t w.drawn q=n/\Agr {w with drawn:=w.drawn+1} D c t:=λt d=>by
  refine⟨by rw[d w.drawn q (am _) (by omega)];exact dl rfl,λi q g l=> ?_⟩;have g:w.drawn+1<=i:=g;have l:i<w.drawn+1+D:=l;rw[d i q (by omega) (by omega)];exact bd (by omega)
 refine⟨λi q=>if i=w.drawn then n else c i q,D+1,h.imp (λh t d=> ?_) ?_⟩
 .rw[j t (e t d).1];exact h t (e t d).2
 .rintro⟨E,a,m,v,o,I,G,y,p,F,x,B,H,z,f⟩;refine⟨E,a,m,v,o,I,G,λt d=> ?_, ?_,F,C.trans x,B,H,s.trans z,⟨f.ev,λb r=>f.nw b r⟩⟩
  .rw[j t (e t d).1,y t (e t d).2]
  .rw[p];show w.drawn+1+D=w.drawn+(D+1);omega
def aim(P:Program)(c:Array Value)(t:TypeId)(k:Nat->Sem W)(w:World)(es:Array Event) :
  (Sem.new (.cells c t) λr=>(markStringish ⟨r,0,none⟩).bind λ_=>k r).runT P w es=(k w.heap.size).runT P {w with heap:=w.heap.push (.cells c t (c.size,c.size+1))} es:=by
 have b:({w with heap:=w.heap.push (.cells c t)}:World).shape? w.heap.size=some (t,c.size):=by
  unfold World.shape?;simp
 have a:({w with heap:=w.heap.push (.cells c t)}:World).freeze ⟨w.heap.size,c.size,none⟩ 1={w with heap:=w.heap.push (.cells c t (c.size,c.size+1))}:=by
  unfold World.freeze;rw[bd (by decide)]
  congr 1
  apply sM;intro j;simp only[mw,pY];by_cases e:j=w.heap.size
  .subst e;simp
  .rw[bd (sb e),bd e,bd e]
 show(Sem.shape w.heap.size λs=>(match s with
   |some (_,n)=>Go.freeze ⟨w.heap.size,n,none⟩ 1
   |_=>Pure.pure ()).bind λ_=>k w.heap.size).runT P {w with heap:=w.heap.push (.cells c t)} es=_
 rw[Sem.runT,b];show(Sem.freeze ⟨w.heap.size,c.size,none⟩ 1 (k w.heap.size)).runT P {w with heap:=w.heap.push (.cells c t)} es=_;rw[Sem.runT,a]
def awd{ρ:Ren}(D:WR ρ w w'):∀(n:Nat) (a f:Addr) (acc:ByteArray) (c d:Array Event),AR ρ a f->
  (∀t,∃h j l,(loadBytes a acc n).runT P (w.tap t) c=(.halt h j,l)/\eI w j)\/
  ∃s p m,(∀t,(loadBytes a acc n).runT P (w.tap t) c=(.ok s (w.tap t),c++p))/\(loadBytes f acc n).runT P' w' d=(.ok s w',d++m)/\EvW w ρ p m/\(0<n->∃k,w.cell? a=some (.int .u8 k)):=by
 have E:∀(c:Array Event) (x:Event),c.push x=c++#[x]:=λc x=>by simp
 intro n
 induction n with
 |zero=>exact λa f acc c d _=>.inr ⟨acc,#[],#[],λt=>by rw[qQ];rfl,by rw[qQ];rfl,.nil _ _,λh=>absurd h (sB 0)⟩
 |succ n O=>
  intro a f acc c d r;have e:∀(P:Program) (a:Addr) (w:World) (c:Array Event),(loadBytes a acc (n+1)).runT P w c=(Sem.load .plain a λv=>match v with
    |.int .u8 b=>loadBytes (a.add 1) (acc.push b.toNat.toUInt8) n
    |_=>stuck "a byte variable that holds no byte").runT P w c:=λP a w c=>rfl
  cases A:w.cell? a with
  |none=>
   refine .inl λt=> ?_;have i:(w.tap t).cell? a=none:=A;obtain⟨x,B⟩:=((D.tap t).akm r P (Go.Mode.plain ==Go.Mode.atomic) i).1;refine⟨x,w.tap t,c, ?_,.refl _⟩;rw[e,Sem.runT,i];simp only[B]
  |some v=>
   obtain⟨G,z,N⟩:=D.cell r A;have y:∀t,(loadBytes a acc (n+1)).runT P (w.tap t) c=(match v with
    |.int .u8 b=>loadBytes (a.add 1) (acc.push b.toNat.toUInt8) n
    |_=>stuck "a byte variable that holds no byte").runT P (w.tap t) (c++#[(⟨.cell a,false,Go.Mode.plain ==Go.Mode.atomic⟩:Event)]):=λt=>by
    have i:(w.tap t).cell? a=some v:=A;rw[e,Sem.runT,i];simp only[E]
   have M:(loadBytes f acc (n+1)).runT P' w' d=(match G with
    |.int .u8 b=>loadBytes (f.add 1) (acc.push b.toNat.toUInt8) n
    |_=>stuck "a byte variable that holds no byte").runT P' w' (d++#[(⟨.cell f,false,Go.Mode.plain ==Go.Mode.atomic⟩:Event)]):=by
    rw[e,Sem.runT,z];simp only[E]
   have no:(∀b,v ≠ .int .u8 b)->∀t,∃h j l,(loadBytes a acc (n+1)).runT P (w.tap t) c=(.halt h j,l)/\eI w j:=λL t=>by
    refine⟨.stuck "a byte variable that holds no byte",w.tap t,c++#[(⟨.cell a,false,Go.Mode.plain ==Go.Mode.atomic⟩:Event)], ?_,.refl _⟩;rw[y];split
    .exact absurd rfl (L _)
    .rfl
   by_cases C:∃b,v=.int .u8 b
   .obtain⟨b,rfl⟩:=C;cases N;rcases O (a.add 1) (f.add 1) (acc.push b.toNat.toUInt8) (c++#[(⟨.cell a,false,Go.Mode.plain ==Go.Mode.atomic⟩:Event)]) (d++#[(⟨.cell f,false,Go.Mode.plain ==Go.Mode.atomic⟩:Event)]) (by cases r with|mk h o s=>exact .mk h _ _) with g|⟨s,p,m,K,H,F,R⟩
    .exact .inl λt=>by obtain⟨h,j,l,J,Q⟩:=g t;exact⟨h,j,l,(y t).trans J,Q⟩
    .refine .inr ⟨s,#[(⟨.cell a,false,Go.Mode.plain ==Go.Mode.atomic⟩:Event)]++p,#[(⟨.cell f,false,Go.Mode.plain ==Go.Mode.atomic⟩:Event)]++m,λt=>(y t).trans ((K t).trans (by rw[tv])),M.trans (H.trans (by rw[tv])),⟨?_,λq I x g=> ?_⟩,λ_=>⟨b,rfl⟩⟩
     .rw[nF,nF];exact lu.app (.cons (.mk (.cell r) _ _) .nil) F.ev
     .rw[nF,gt] at g;rcases g with g|g
      .intro u;simp at g;subst g;cases u
      .exact F.nw q I x g
   .exact .inl (no λb e=>C ⟨b,e⟩)
def aB.run{A:Ren->W->β->Prop}{ρ:Ren}(h:aB P P' A ρ s s') :
  ∀(w p:World) (j f:Array Event),WR ρ w p->gp P P' A ρ s s' w p j f:=by
 have N:∀(j:Array Event) (x:Event),j.push x=j++#[x]:=λj x=>Array.append_singleton.symm
 induction h with
 |pure x=>
  intro w p j f i;exact⟨w.tape,0,.inr ⟨_,_,w,_,p,#[],#[],λt _=>by unfold Sem.runT;rw[qQ],rfl,Ren.Le.refl _,by unfold Sem.runT;rw[qQ],x,i,Kept.refl _ _ _,.nil _ _⟩⟩
 |@load ρ m G E k K H J y=>
  intro w p j f i;cases D:w.cell? G with
  |none=>
   refine .no λt=> ?_;have C:(w.tap t).cell? G=none:=D;obtain⟨e,V⟩:=((i.tap t).akm H P (m ==.atomic) C).1;refine⟨e,w.tap t,j, ?_,.refl _⟩;rw[Sem.runT,C];simp only[V]
  |some v=>
   obtain⟨v',Y,hv⟩:=i.cell H D;refine gp.step (y v v' hv w p _ _ i) (λt=> ?_) ?_ rfl (.refl _) (Ren.Le.refl _) (Kept.refl ρ w p) (e:=#[⟨.cell G,false,m ==.atomic⟩]) (e':=#[⟨.cell E,false,m ==.atomic⟩]) ⟨.cons (.mk (.cell H) _ _) .nil,λ_ _ e I L=>by simp at I;subst I;cases L⟩
   .have C:(w.tap t).cell? G=some v:=D;rw[Sem.runT,C];simp only[N]
   .rw[Sem.runT,Y];simp only[N]
 |@store ρ m G E v v' k K H hv J y=>
  intro w p j f i;by_cases B:(∀x,v ≠ .agg x)/\∀x,v ≠ .tuple x
  .have a1:(∀x,v' ≠ .agg x)/\∀x,v' ≠ .tuple x:=by
    constructor<;>(rintro x rfl;cases hv<;>first|exact B.1 _ rfl|exact B.2 _ rfl)
   cases D:w.cell? G with
   |none=>
    refine .no λt=> ?_;have C:(w.tap t).cell? G=none:=D;obtain⟨e,V⟩:=((i.tap t).akm H P (m ==.atomic) C).2 v;refine⟨e,w.tap t,j, ?_,.refl _⟩;rw[rB _ _ _ _ _ _ _ B.1 B.2,C];simp only[V]
   |some u=>
    cases O:w.frozen? G with
    |true=>
     refine .no λt=>⟨.unsupported (.unsafePointer "a write to bytes that a string shares"),w.tap t,j, ?_,.refl _⟩;have C:(w.tap t).cell? G=some u:=D;have a0:(w.tap t).frozen? G=true:=O;rw[rB _ _ _ _ _ _ _ B.1 B.2,C];simp only[a0,mT]
    |false=>
     obtain⟨u',Y, -⟩:=i.cell H D;refine gp.step (y _ _ _ _ (i.setCell H hv)) (λt=> ?_) ?_ rfl (eI.setCell w _ v) (Ren.Le.refl _) (Kept.setCell w p H v v' (λU=>bB.ail D O U rfl) (λhu=>hu.elim (λ⟨l,e⟩=>B.2 l e) λ⟨l,e⟩=>B.1 l e)) (e:=#[⟨.cell G,true,m ==.atomic⟩]) (e':=#[⟨.cell E,true,m ==.atomic⟩]) ⟨.cons (.mk (.cell H) _ _) .nil,λb U e I _=>by
      simp at I;subst I;refine⟨λa S=> ?_,λr S=>by cases S⟩;simp only[Loc.cell.injEq] at S;subst S;exact bB.ail D O U⟩
     .have C:(w.tap t).cell? G=some u:=D;have a0:(w.tap t).frozen? G=false:=O;rw[rB _ _ _ _ _ _ _ B.1 B.2,C];simp only[a0,N];rfl
     .rw[rB _ _ _ _ _ _ _ a1.1 a1.2,Y];simp only[i.anZ H D O,N];rfl
  .have:(∃x,v=.agg x)\/∃x,v=.tuple x:=by
    by_cases M:∃x,v=.agg x
    .exact .inl M
    .by_cases R:∃x,v=.tuple x
     .exact .inr R
     .exact absurd ⟨λx e=>M ⟨x,e⟩,λx e=>R ⟨x,e⟩⟩ B
   rcases this with⟨x,rfl⟩|⟨x,rfl⟩<;>exact .no λt=>⟨_,w.tap t,j,by rw[Sem.runT],.refl _⟩
 |new Q J y=>
  intro w p j f i;obtain⟨σ,M,R,h3,h4⟩:=i.push Q;exact gp.step0 (y σ _ _ M R _ _ _ _ h3) (λt=>by rw[Sem.runT];rfl) (by rw[Sem.runT]) rfl (eI.push w (OR.noD Q)) M h4
 |@shape ρ r T k K F J y=>
  intro w p j f i;refine gp.step0 (y (w.shape? r) w p j f i) (λt=>by rw[Sem.runT];rfl) (by rw[Sem.runT,i.shape F]) rfl (.refl _) (Ren.Le.refl _) (Kept.refl _ _ _)
 |@amI ρ G E n k K H J y=>
  intro w p j f i;rcases awd (P:=P) (P':=P') i (n+1) G E .empty j f H with U|⟨s,us,pq,M,R,h3,h4⟩
  .refine .no λt=> ?_;obtain⟨h,w1,iw,e,hd⟩:=U t;exact⟨h,w1,iw,by rw[Sem.jU,e],hd⟩
  .obtain⟨h5,h6⟩:=i.freeze H (n+1) (h4 (Nat.succ_pos n));refine gp.step (y s _ _ (j++us) (f++pq) h5) (λt=> ?_) ?_ (by unfold World.freeze;split<;>rfl) (eI.freeze w _ (n+1)) (Ren.Le.refl _) h6 h3
   .rw[Sem.jU,M t];dsimp only;rw[Sem.runT];unfold World.freeze;split<;>rfl
   .rw[Sem.jU,R];dsimp only;rw[Sem.runT]
 |@asR ρ c c' t k K D J y=>
  intro w p j f i;have hz:c.size=c'.size:=by have:=D.length;simpa using this
  obtain⟨σ,M,R,h3,h4⟩:=i.push (o:=.cells c t (c.size,c.size+1)) (o':=.cells c' t (c'.size,c'.size+1)) (.cells D t (.inl (by rw[hz])));exact gp.step0 (y σ _ _ M R _ _ _ _ h3) (λt=>by rw[aim];rfl) (by rw[aim]) rfl (eI.push w (o:=.cells c t (c.size,c.size+1)) (λd l e=>by cases e)) M h4
 |@frozen ρ G E k K H J y=>
  intro w p j f i;exact gp.step0 (y (w.frozen? G) (p.frozen? E) (i.an0 H) w p j f i) (λt=>by rw[Sem.runT];rfl) (by rw[Sem.runT]) rfl (.refl _) (Ren.Le.refl _) (Kept.refl _ _ _)
 |@getObj ρ r T k K F J y=>
  intro w p j f i;obtain⟨o,o',g1,g2,Q⟩:=i.obj F;have Z:(∀c t z,o ≠ .cells c t z)->(∀c t z,o' ≠ .cells c t z)->o.isChan=o'.isChan->gp P P' _ ρ (.getObj r k) (.getObj T K) w p j f:=λn1 n2 X=>by
   refine gp.step (y o o' Q w p _ _ i) (λt=> ?_) ?_ rfl (.refl _) (Ren.Le.refl _) (Kept.refl ρ w p) (e:=#[⟨.obj r,false,o.isChan⟩]) (e':=#[⟨.obj T,false,o'.isChan⟩]) (by rw[X];exact⟨.cons (.mk (.obj F) _ _) .nil,λ_ _ e I L=>by simp at I;subst I;cases L⟩)
   .have g:(w.tap t).heap[r]?=some o:=g1;rw[Sem.runT,g];cases o<;>first|exact absurd rfl (n1 _ _ _)|simp only[N]
   .rw[Sem.runT,g2];cases o'<;>first|exact absurd rfl (n2 _ _ _)|simp only[N]
  cases Q with
  |cells D t hz=>
   refine .no λt=>⟨.stuck "getObj: a row of cells",w.tap t,j, ?_,.refl _⟩;have g:(w.tap t).heap[r]?=_:=g1;rw[Sem.runT,g]
  |map|stringIter|number|mapIter|loop|bD|deferred=>exact Z (λ_ _ _ h=>by cases h) (λ_ _ _ h=>by cases h) rfl
 |@setObj ρ r T o o' k K F Q J y=>
  intro w p j f i;obtain⟨x,x',g1,g2,hx⟩:=i.obj F;have X:o.isChan=o'.isChan:=by cases Q<;>rfl
  have Z:(∀c t z,x ≠ .cells c t z)->(∀c t z,x' ≠ .cells c t z)->gp P P' _ ρ (.setObj r o k) (.setObj T o' K) w p j f:=λn1 n2=>by
   obtain⟨q1,q2⟩:=i.set F Q λc t z e=>by rw[g1] at e;exact n1 c t z (dj e)
   refine gp.step (y _ _ _ _ q1) (λt=> ?_) ?_ rfl (eI.set w r (OR.noD Q)) (Ren.Le.refl _) q2 (e:=#[⟨.obj r,true,o.isChan⟩]) (e':=#[⟨.obj T,true,o'.isChan⟩]) (by rw[X];exact⟨.cons (.mk (.obj F) _ _) .nil,λb U e I _=>by
    simp at I;subst I;refine⟨λa S=>(by cases S),λq S=> ?_⟩;cases S;rintro rfl;obtain⟨c,t,z,D, -⟩:=U;rw[g1] at D;exact n1 _ _ _ (dj D)⟩)
   .have g:(w.tap t).heap[r]?=some x:=g1;rw[Sem.runT,g];cases x<;>first|exact absurd rfl (n1 _ _ _)|(simp only[N];rfl)
   .rw[Sem.runT,g2];cases x'<;>first|exact absurd rfl (n2 _ _ _)|simp only[N]
  cases hx with
  |cells D t hz=>
   refine .no λt=>⟨.stuck "setObj: a row of cells",w.tap t,j, ?_,.refl _⟩;have g:(w.tap t).heap[r]?=_:=g1;rw[Sem.runT,g]
  |map|stringIter|number|mapIter|loop|bD|deferred=>exact Z (λ_ _ _ h=>by cases h) (λ_ _ _ h=>by cases h)
 |choose q J y=>
  intro w p j f i;cases O:q.forced with
  |true=>exact gp.step0 (y 0 w p j f i) (λt=>by rw[Sem.runT,O,dl rfl]) (by rw[Sem.runT,O,dl rfl]) rfl (.refl _) (Ren.Le.refl _) (Kept.refl _ _ _)
  |false=>
   obtain⟨q1,q2⟩:=i.ask 1 1;exact gp.draw (p.tape p.drawn q) O (y _ _ _ j f q1) (by rw[Sem.runT,O,bd (by simp)]) q2
 |aa2 q n hq J y=>
  intro w p j f i;obtain⟨q1,q2⟩:=i.ask 1 0;exact gp.draw n hq (y _ _ j f q1) rfl q2
 |@adP ρ s E K J y=>
  intro w p j f i;exact gp.step0 (y (p.frozen? E) w p j f i) (λt=>rfl) (by rw[Sem.runT]) rfl (.refl _) (Ren.Le.refl _) (Kept.refl _ _ _)
 |@ag3 ρ s T K J y=>
  intro w p j f i;exact gp.step0 (y (p.shape? T) w p j f i) (λt=>rfl) (by rw[Sem.runT]) rfl (.refl _) (Ren.Le.refl _) (Kept.refl _ _ _)
 |program J y=>
  intro w p j f i;exact gp.step0 (y w p j f i) (λt=>by rw[Sem.runT]) (by rw[Sem.runT]) rfl (.refl _) (Ren.Le.refl _) (Kept.refl _ _ _)
 |@mark ρ m m' k K hm J y=>
  intro w p j f i;exact gp.step (y w p _ _ i) (λt=>by rw[Sem.runT,N]) (by rw[Sem.runT,N]) rfl (.refl _) (Ren.Le.refl _) (Kept.refl _ w p) (e:=#[⟨.mark m,false,true⟩]) (e':=#[⟨.mark m',false,true⟩]) ⟨.cons (.mk (.mark hm) _ _) .nil,λ_ _ e I L=>by simp at I;subst I;cases L⟩
 |halt h s=>
  intro w p j f i;exact .no λt=>⟨h,w.tap t,j,by rw[Sem.runT],.refl _⟩
 |dead h s=>
  intro w p j f i;exact .no λt=>Leaves.acR h (w.tap t) j
 |acR h s=>
  intro w p j f i;exact .no λt=>h (w.tap t) p ⟨i.obj,i.os,i.jc⟩ j
def afx :∀s:Sem W,s.bind .pure=s:=by
 intro s
 induction s with
 |pure a=>rfl
 |halt h=>rfl
 |load m a k b=>exact fa (Sem.load m a) (funext b)
 |store m a v k b=>exact fa (Sem.store m a v) b
 |new o k b=>exact fa (Sem.new o) (funext b)
 |shape r k b=>exact fa (Sem.shape r) (funext b)
 |freeze a n k b=>exact fa (Sem.freeze a n) b
 |frozen a k b=>exact fa (Sem.frozen a) (funext b)
 |getObj r k b=>exact fa (Sem.getObj r) (funext b)
 |setObj r o k b=>exact fa (Sem.setObj r o) b
 |choose q k b=>exact fa (Sem.choose q) (funext b)
 |sys c k b=>exact fa (Sem.sys c) (funext b)
 |program k b=>exact fa Sem.program (funext b)
 |mark m k b=>exact fa (Sem.mark m) b
def ad2{d : Type}(f:W->Sem β)(g:β->Sem d):∀s:Sem W,(s.bind f).bind g=s.bind λa=>(f a).bind g:=by
 intro s
 induction s with
 |pure a=>rfl
 |halt h=>rfl
 |load m a k b=>exact fa (Sem.load m a) (funext b)
 |store m a v k b=>exact fa (Sem.store m a v) b
 |new o k b=>exact fa (Sem.new o) (funext b)
 |shape r k b=>exact fa (Sem.shape r) (funext b)
 |freeze a n k b=>exact fa (Sem.freeze a n) b
 |frozen a k b=>exact fa (Sem.frozen a) (funext b)
 |getObj r k b=>exact fa (Sem.getObj r) (funext b)
 |setObj r o k b=>exact fa (Sem.setObj r o) b
 |choose q k b=>exact fa (Sem.choose q) (funext b)
 |sys c k b=>exact fa (Sem.sys c) (funext b)
 |program k b=>exact fa Sem.program (funext b)
 |mark m k b=>exact fa (Sem.mark m) b
instance axS:LawfulMonad Sem:=LawfulMonad.mk' Sem (λs=>afx s) (λ_ _=>rfl) (λs f g=>ad2 f g s)
end
section
open Go
def axX(P:Program)(o o':Oper):Prop:=(o=o'/\lr P gA gL o.op=true)\/(pj gA gL o'.op=true/\o={o' with type:=gB})
def apQ(P:Program)(ops ops':Array Oper):Prop:=ops.size=ops'.size/\∀(i:Nat) (o a:Oper),ops[i]?=some o->ops'[i]?=some a->axX P o a
structure FnR (hole:Bool) (fn cV:Func):Prop where
 name:cV.name=fn.name
 axY:(fn.name == "runtime.NumGoroutine")=false
 norace:cV.norace=fn.norace
 ntmps:cV.ntmps=fn.ntmps
 results:cV.results=fn.results
 none:fn.body=none->cV=fn
 some:∀c,fn.body=some c->∃c',cV.body=some c'/\(hole=false->c=gP c')
structure Twin (P P':Program):Prop where
 info:∀t,P'.info? t=P.info? t
 under:∀t,P'.underlying t=P.underlying t
 rt:P'.rt=P.rt
 depth:P'.depth=P.depth
 globals:P.globals.size=gN/\P'.globals.size=gN
 zero:∀t i v,P.info? t=some i->i.zero=some v->∀ρ:Ren,VR ρ v v
 stood:∀t,P'.stoodInHeld t=P.stoodInHeld t
 avd:P'.types.size=P.types.size
 cellAt:∀d e c o b,cellAtBytes P' d e c o b=cellAtBytes P d e c o b
 lies:∀d e c o u n,liesAt P' d e c o u n=liesAt P d e c o u n
 akn:∀d t,P'.eqGuardType d t=P.eqGuardType d t
 follows:∀d,P'.follows d=P.follows d
 pc:gP=bM P gA gL gB
 asS:∀e,P.underlying gB≠some (.pointer e)
 func:∀f fn,P.funcs[f]?=some fn->∃cV,P'.funcs[f]?=some cV/\FnR (gH f) fn cV
 ain:P'.funcs.size=P.funcs.size
 mj:P.follows .staticDataAhead=true/\∀g,P.stepOf g=none
def bN.jH{ρ:Ren}:∀{l:List Value},(∀v∈l,VR ρ v v)->bN ρ l l
 |[],_=>.nil
 |_::_,h=>.cons (h _ (by simp)) (bN.jH λv a=>h v (by simp[a]))
def VR.cells{ρ:Ren}(h:VR ρ v v'):bN ρ v.cells.toList v'.cells.toList:=by
 cases h with
 |agg h=>exact h
 |bool b=>exact .cons (.bool b) .nil
 |int k n=>exact .cons (.int k n) .nil
 |string s=>exact .cons (.string s) .nil
 |pointer x=>exact .cons (.pointer x) .nil
 |slice x l c=>exact .cons (.slice x l c) .nil
 |empty x d e=>exact .cons (.empty x d e) .nil
 |map x=>exact .cons (.map x) .nil
 |chan x=>exact .cons (.chan x) .nil
 |func f x y=>exact .cons (.func f x y) .nil
 |nilFunc=>exact .cons .nilFunc .nil
 |iface t x=>exact .cons (.iface t x) .nil
 |nilIface=>exact .cons .nilIface .nil
 |tuple x=>exact .cons (.tuple x) .nil
 |fc a h=>cases v'<;>first|(cases h;done)|exact .cons (.fc a h) .nil
 |aa1 k a=>exact .cons (.aa1 k a) .nil
def bN.size{ρ:Ren}(h:bN ρ c.toList Z.toList):c.size=Z.size:=by simpa using h.length
def bN.extract{ρ:Ren}(h:bN ρ c.toList Z.toList)(i j:Nat):bN ρ (c.extract i j).toList (Z.extract i j).toList:=by
 have hd:∀{l d:List Value},bN ρ l d->∀n,bN ρ (l.drop n) (d.drop n):=by
  intro l d h
  induction l generalizing d with
  |nil=>cases h;intro n;simp;exact .nil
  |cons x l e=>
   cases h with
   |cons a b=>
    intro n;cases n with
    |zero=>exact .cons a b
    |succ n=>exact e b n
 have f:∀{l d:List Value},bN ρ l d->∀n,bN ρ (l.take n) (d.take n):=by
  intro l d h
  induction l generalizing d with
  |nil=>cases h;intro n;simp;exact .nil
  |cons x l e=>
   cases h with
   |cons a b=>
    intro n;cases n with
    |zero=>exact .nil
    |succ n=>exact .cons a (e b n)
 rw[sZ,sZ];unfold List.extract;exact f (hd h i) _
def AR.add{ρ:Ren}(h:AR ρ a Y)(n:Nat):AR ρ (a.add n) (Y.add n):=by
 obtain⟨b,o,s⟩:=h;unfold Addr.add;by_cases e:n=0
 .rw[dl e,dl e];exact .mk b o s
 .rw[bd e,bd e];exact .mk b _ none
def iF{α:Type}(_:Ren)(a b:α):Prop:=a=b
def cQ(ρ:Ren)(c c':Array Value):Prop:=bN ρ c.toList c'.toList
section
variable {P P':Program} {α β γ δ:Type} {A:Ren->α->β->Prop} {B:Ren->γ->δ->Prop} {ρ:Ren}
def aj{a:α}{b:β}(h:A ρ a b):aB P P' A ρ (pure a:Sem α) (pure b:Sem β):=.pure h
def ai{s:Sem α}{s':Sem β}{f:α->Sem γ}{f':β->Sem δ}(h:aB P P' A ρ s s')(d:∀b a c,ρ.Le b->A b a c->aB P P' B b (f a) (f' c)):aB P P' B ρ (s >>=f) (s' >>=f'):=aB.bind h d
def amJ(w:String)(s:Sem β):aB P P' A ρ (stuck w) s:=.halt _ _
def asT(w:Unsupported)(s:Sem β):aB P P' A ρ (unsupported w) s:=.halt _ _
def apR(m:Mode)(h:AR ρ a Y):aB P P' VR ρ (load a m) (load Y m):=.load m h λ_ _ b=>.pure b
def afV(h:OR ρ o o'):aB P P' (λa=>a.r) ρ (newObj o) (newObj o'):=.new h λ_ _ _ _ b=>.pure b
def kO(h:ρ.r r R):aB P P' iF ρ (shape r) (shape R):=.shape h λ_=>.pure rfl
def ed(h:ρ.r r R):aB P P' OR ρ (getObj r) (getObj R):=.getObj h λ_ _ a=>.pure a
def ie(h:ρ.r r R)(a:OR ρ o o'):aB P P' iF ρ (setObj r o) (setObj R o'):=.setObj h a (.pure rfl)
def fR(q:Question):aB P P' iF ρ (choose q) (choose q):=.choose q λ_=>.pure rfl
def cR:aB P P' (λ_ p a=>p=P/\a=P') ρ program program:=.program (.pure ⟨rfl,rfl⟩)
def apS{m m':Mark}(h:MkR ρ m m'):aB P P' iF ρ (mark m) (mark m'):=.mark h (.pure rfl)
def ag4(n:Nat):aB P P' iF ρ (askRoom n) (askRoom n):=by
 unfold askRoom;split
 .exact apS .noRoom
 .exact aj rfl
variable (T:Twin P P')
include T
theorem cI(t:TypeId):aB P P' (λ_ a b=>a=b/\P.info? t=some a) ρ (typeInfo t) (typeInfo t):=by
 unfold typeInfo;refine ai cR λe p d _ c=> ?_;obtain⟨rfl,rfl⟩:=c;rw[T.info];cases h:p.info? t with
 |some i=>exact aj ⟨rfl,rfl⟩
 |none=>exact amJ _ _
theorem aC(t:TypeId):aB P P' (λ_ a b=>a=b/\P.underlying t=some a) ρ (underlying t) (underlying t):=by
 unfold underlying;refine ai cR λe p d _ c=> ?_;obtain⟨rfl,rfl⟩:=c;rw[T.under];cases h:p.underlying t with
 |some i=>exact aj ⟨rfl,rfl⟩
 |none=>exact amJ _ _
theorem nz(t:TypeId):aB P P' VR ρ (zeroValue t) (zeroValue t):=by
 unfold zeroValue;refine ai (cI T t) λb i c _ a=> ?_;obtain⟨rfl,a⟩:=a;cases h:i.zero with
 |some v=>exact aj (T.zero t i v a h b)
 |none=>exact asT _ _
theorem dP(t:TypeId):aB P P' iF ρ (sizeOf t) (sizeOf t):=by
 unfold sizeOf;refine ai (cI T t) λc i b _ a=> ?_;obtain⟨rfl,a⟩:=a;exact aj rfl
theorem amK(t:TypeId):aB P P' iF ρ (isAgg t) (isAgg t):=by
 unfold isAgg;refine ai (aC T t) λc i b _ a=> ?_;obtain⟨rfl,a⟩:=a;cases i<;>exact aj rfl
omit T in
theorem ad3{a d:Addr}(h:AR ρ a d):∀(n i:Nat) {c b:Array Value},cQ ρ c b->aB P P' cQ ρ (loadCellsFrom a i n c) (loadCellsFrom d i n b)
 |0,i,c,b,hc=>aj hc
 |n+1,i,c,b,hc=>by
  unfold loadCellsFrom;refine .load .plain (h.add i) λv f e=> ?_;exact ad3 h n (i+1) (by unfold cQ;rw[qX,qX];exact bN.app hc (.cons e .nil))
omit T in
theorem nA(h:AR ρ a Y)(n:Nat):aB P P' cQ ρ (loadCells a n) (loadCells Y n):=ad3 h n 0 .nil
omit T in
theorem ig{a b:Addr}(h:AR ρ a b):∀{l c:List Value} (i:Nat),bN ρ l c->aB P P' iF ρ (storeCells a l i) (storeCells b c i)
 |_,_,_,.nil=>aj rfl
 |_,_,i,.cons x y=>by
  unfold storeCells;exact .store .plain (h.add i) x (ig h (i+1) y)
theorem afW(t:TypeId)(h:AR ρ a Y):aB P P' VR ρ (loadVar t a) (loadVar t Y):=by
 unfold loadVar;refine ai (amK T t) λo b f d i=> ?_;obtain rfl:b=f:=i;cases b with
 |true=>
  refine ai (dP T t) λm n e g j=> ?_;obtain rfl:n=e:=j;exact ai (nA (h.mono (d.trans g)) n) λ_ c l _ k=>aj (.agg k)
 |false=>exact apR _ (h.mono d)
theorem ako(t:TypeId)(h:AR ρ a Y)(b:VR ρ v v'):aB P P' iF ρ (storeVar t a v) (storeVar t Y v'):=by
 unfold storeVar;refine ai (dP T t) λi n d c f=> ?_;obtain rfl:n=d:=f;have g:=b.cells.size;by_cases e:v.cells.size≠n
 .rw[dl e];exact .halt _ _
 .rw[bd e,bd (by rw[<-g];exact e)];exact ig (h.mono c) 0 (b.mono c).cells
omit T in
theorem lM(t:TypeId)(h:cQ ρ c Z):aB P P' AR ρ (newRow t c) (newRow t Z):=by
 unfold newRow;exact ai (afV (.cells h t (.inl rfl))) λ_ r b _ a=>aj (.mk a 0 none)
omit T in
theorem aio(t:TypeId)(h:VR ρ v v'):aB P P' AR ρ (newVar t v) (newVar t v'):=lM t h.cells
theorem lv(t:TypeId)(h:cQ ρ c Z)(n:Nat):aB P P' VR ρ (part t c n) (part t Z n):=by
 unfold part;refine ai (amK T t) λr b e d f=> ?_;obtain rfl:b=e:=f;cases b with
 |true=>
  refine ai (dP T t) λq m j g k=> ?_;obtain rfl:m=j:=k;exact aj (.agg ((bN.mono (d.trans g) h).extract _ _))
 |false=>
  cases o:c[n]? with
  |none=>exact .halt _ _
  |some v=>
   obtain⟨p,a,l⟩:=bN.get h (i:=n) (v:=v) (by rw[ef];exact o);rw[ef] at a;rw[a];exact aj (l.mono d)
end
end
section
open Go
section
variable {P P':Program} {α β γ δ:Type} {A:Ren->α->β->Prop} {B:Ren->γ->δ->Prop} {ρ:Ren}
def aQ{c:Prop}[Decidable c]{s t:Sem α}{s' a:Sem β}(b:c->aB P P' A ρ s s')(d:¬c->aB P P' A ρ t a):aB P P' A ρ (if c then s else t) (if c then s' else a):=by
 split
 .exact b (by assumption:_)
 .exact d (by assumption:_)
def jV(h:VR ρ v v'):aB P P' AR ρ (Instr.sureAddr v) (Instr.sureAddr v'):=by
 cases h with
 |pointer h=>
  cases h with
  |none=>exact .halt _ _
  |some h=>exact aj h
 |_=>exact .halt _ _
def lN(h:VR ρ v v'):aB P P' iF ρ (asIntOf v) (asIntOf v'):=by
 cases h with
 |int k n=>exact aj rfl
 |pointer h=>cases h<;>exact .halt _ _
 |_=>exact .halt _ _
def aa3(h:VR ρ v v'):aB P P' iF ρ (asInt v) (asInt v'):=by
 unfold asInt;refine ai (lN h) λc x a _ b=> ?_;obtain rfl:x=a:=b;exact aj rfl
def ad4(h:VR ρ v v'):aB P P' iF ρ (asBool v) (asBool v'):=by
 cases h with
 |bool b=>exact aj rfl
 |_=>exact .halt _ _
def asU(h:VR ρ v v'):aB P P' cQ ρ (asAgg v) (asAgg v'):=by
 cases h with
 |agg h=>exact aj h
 |_=>exact .halt _ _
variable (T:Twin P P')
include T
theorem asV(t:TypeId):aB P P' VR ρ (Instr.alloc t true (.tuple #[])) (Instr.alloc t true (.tuple #[])):=by
 unfold Instr.alloc;refine ai (nz T t) λf z e _ c=> ?_;exact ai (aio t c) λ_ a d _ b=>aj (.pointer (.some b))
omit T in
theorem axZ(t:TypeId)(h:VR ρ v v'):aB P P' VR ρ (Instr.box t v) (Instr.box t v'):=by
 unfold Instr.box;exact ai (aio t h) λ_ a c _ b=>aj (.pointer (.some b))
theorem apT(t:TypeId)(h:VR ρ v v'):aB P P' VR ρ (Instr.loadAt t v) (Instr.loadAt t v'):=by
 unfold Instr.loadAt;exact ai (jV h) λ_ a c _ b=>afW T t b
theorem an1(t:TypeId){u : Value}(h:VR ρ v v')(c:VR ρ u X):aB P P' iF ρ (Instr.storeAt t v u) (Instr.storeAt t v' X):=by
 unfold Instr.storeAt;exact ai (jV h) λ_ a e d b=>ako T t b (c.mono d)
theorem asW(t:TypeId)(h:VR ρ v v')(f:Nat):aB P P' VR ρ (Instr.field t v f) (Instr.field t v' f):=by
 unfold Instr.field;refine ai (aC T t) λl d j b hd=> ?_;obtain⟨rfl, -⟩:=hd;cases d with
 |struct a=>
  simp only;cases i:a[f]? with
  |none=>exact .halt _ _
  |some g=>exact ai (asU (h.mono b)) λ_ c k _ e=>lv T g.type e g.offset
 |_=>exact .halt _ _
omit T in
theorem an2(h:VR ρ v v')(i:Nat):aB P P' VR ρ (Instr.extract v i) (Instr.extract v' i):=by
 cases h with
 |@tuple c e h=>
  unfold Instr.extract;simp only;cases d:c[i]? with
  |none=>exact .halt _ _
  |some v=>
   obtain⟨v',a,b⟩:=bN.get h (i:=i) (v:=v) (by rw[ef];exact d);rw[ef] at a;rw[a];exact aj b
 |_=>exact .halt _ _
omit T in
theorem akp{f f':Fn}(b:FR ρ f f'){a : Array Value}(h:cQ ρ a Z)(d:cQ ρ c I):aB P P' VR ρ (Instr.makeFunc f a c) (Instr.makeFunc f' Z I):=aj (.func b h d)
theorem adw(t:TypeId)(h:VR ρ v v'):aB P P' VR ρ (Instr.makeInterface t v) (Instr.makeInterface t v'):=by
 unfold Instr.makeInterface;refine ai (aC T t) λc d b a hd=> ?_;obtain⟨rfl, -⟩:=hd;cases d<;>first|exact .halt _ _|exact aj (.iface t (h.mono a))
omit T in
theorem akq(t:TypeId):aB P P' VR ρ (Instr.makeMap t none) (Instr.makeMap t none):=by
 unfold Instr.makeMap;exact ai (afV (.map .nil 0)) λ_ r b _ a=>aj (.map (.some a))
omit T in
theorem apU(x y:Int)(s:Bool)(c:BoundsCode):aB P P' A ρ (runtimePanic (.bounds x y s c)) (runtimePanic (.bounds x y s c)):=by
 unfold runtimePanic;exact ai cR λa p b _ _=>.halt _ _
omit T in
theorem dr(m:String):aB P P' A ρ (runtimePanic (.error m)) (runtimePanic (.error m)):=by
 unfold runtimePanic;exact ai cR λa p b _ _=>.halt _ _
omit T in
theorem apV:aB P P' A ρ (runtimePanic .nilDeref) (runtimePanic .nilDeref):=by
 unfold runtimePanic;exact ai cR λa p b _ _=>.halt _ _
omit T in
theorem ace{α:Type}(k:IntKind)(x y:Int)(c:BoundsCode):(boundsPanic k x y c:Sem α)=((if k !=.u64&&0<=x&&x<=31 then(· ==1) <$> choose (.extern "runtime.boundsError.signed" 2) else pure (k !=.u64)) >>=λa=>runtimePanic (.bounds (IntKind.i64.wrap x) y a c)):=by
 unfold boundsPanic;dsimp only;split<;>rfl
omit T in
theorem ij(b:Bool)(n m:Nat)(l h x:Option Value):Instr.sliceBounds b n m l h x=((match x with
  |some v=>Instr.sliceBound v m (if b then .slice3Acap else .slice3Alen)
  |none=>pure m) >>=λm=>(match h,x with
  |some v,some _=>Instr.sliceBound v m .slice3B
  |some v,none=>Instr.sliceBound v m (if b then .sliceAcap else .sliceAlen)
  |none,none=>pure n
  |none,some _=>stuck "Slice: max without high") >>=λh=>(match l with
  |some v=>Instr.sliceBound v h (if x.isSome then .slice3C else .sliceB)
  |none=>pure 0) >>=λl=>pure (l,h,m)):=by
 unfold Instr.sliceBounds;cases l<;>cases h<;>cases x<;>rfl
omit T in
theorem jW(k:IntKind)(x y:Int)(c:BoundsCode):aB P P' A ρ (boundsPanic k x y c) (boundsPanic k x y c):=by
 rw[ace,ace];refine ai (A:=iF) ?_ λe b a _ d=> ?_
 .refine aQ (λ_=> ?_) (λ_=>aj rfl);exact .choose _ λn=>.pure rfl
 .obtain rfl:b=a:=d;exact apU _ _ _ _
omit T in
theorem aip(h:VR ρ v v'):aB P P' AR ρ (asAddr v) (asAddr v'):=by
 cases h with
 |pointer h=>
  cases h with
  |none=>exact apV
  |some h=>exact aj h
 |_=>exact .halt _ _
omit T in
theorem jI(h:VR ρ v v')(y:Nat)(c:BoundsCode):aB P P' iF ρ (Instr.sliceBound v y c) (Instr.sliceBound v' y c):=by
 unfold Instr.sliceBound;refine ai (lN h) λd x a _ b=> ?_;obtain rfl:x=a:=b;exact aQ (λ_=>aj rfl) λ_=>jW _ _ _ _
inductive OVR (ρ:Ren):Option Value->Option Value->Prop
 |none:OVR ρ none none
 |some {a a':Value} (h:VR ρ a a'):OVR ρ (some a) (some a')
omit T in
theorem OVR.mono{ρ b:Ren}(h:ρ.Le b){a : Option Value}:OVR ρ a S->OVR b a S
 |.none=>.none
 |.some x=>.some (x.mono h)
omit T in
theorem iY(b:Bool)(n m:Nat){x : Option Value}(f:OVR ρ l l')(c:OVR ρ h S)(a:OVR ρ x N):aB P P' iF ρ (Instr.sliceBounds b n m l h x) (Instr.sliceBounds b n m l' S N):=by
 rw[ij,ij];refine ai (A:=iF) ?_ λy p d i r=> ?_
 .cases a with
  |none=>exact aj rfl
  |some a=>exact jI a _ _
 obtain rfl:p=d:=r;refine ai (A:=iF) ?_ λv k g j o=> ?_
 .cases c with
  |none=>
   cases a with
   |none=>exact aj rfl
   |some a=>exact .halt _ _
  |some c=>
   cases a with
   |none=>exact jI (c.mono i) _ _
   |some a=>exact jI (c.mono i) _ _
 obtain rfl:k=g:=o;have q:x.isSome=N.isSome:=by cases a<;>rfl
 refine ai (A:=iF) ?_ λu t e w s=> ?_
 .cases f with
  |none=>exact aj rfl
  |some f=>simp only[q];exact jI (f.mono (i.trans j)) _ _
 obtain rfl:t=e:=s;exact aj rfl
omit T in
theorem iZ(h:VR ρ v v')(c:BoundsCode):aB P P' (λ_ a b=>a=0/\b=0) ρ (Instr.sliceBound v 0 c) (Instr.sliceBound v' 0 c):=by
 unfold Instr.sliceBound;refine ai (lN h) λi x e _ f=> ?_;obtain rfl:x=e:=f;refine aQ (λg=> ?_) λ_=>jW _ _ _ _;have d:x.2.toNat=0:=by omega
 exact aj ⟨d,d⟩
omit T in
theorem ad5(b:Bool){x : Option Value}(e:OVR ρ l l')(d:OVR ρ h S)(c:OVR ρ x N):aB P P' (λ_ a b=>a=(0,0,0)/\b=(0,0,0)) ρ (Instr.sliceBounds b 0 0 l h x) (Instr.sliceBounds b 0 0 l' S N):=by
 rw[ij,ij];refine ai (A:=λ_ a b=>a=0/\b=0) ?_ λv u g f o=> ?_
 .cases c with
  |none=>exact aj ⟨rfl,rfl⟩
  |some c=>exact iZ c _
 obtain⟨rfl,rfl⟩:=o;refine ai (A:=λ_ a b=>a=0/\b=0) ?_ λs r m i k=> ?_
 .cases d with
  |none=>
   cases c with
   |none=>exact aj ⟨rfl,rfl⟩
   |some c=>exact .halt _ _
  |some d=>
   cases c with
   |none=>exact iZ (d.mono f) _
   |some c=>exact iZ (d.mono f) _
 obtain⟨rfl,rfl⟩:=k;have n:x.isSome=N.isSome:=by cases c<;>rfl
 refine ai (A:=λ_ a b=>a=0/\b=0) ?_ λq w j t p=> ?_
 .cases e with
  |none=>exact aj ⟨rfl,rfl⟩
  |some e=>simp only[n];exact iZ (e.mono (f.trans i)) _
 obtain⟨rfl,rfl⟩:=p;exact aj ⟨rfl,rfl⟩
theorem asX(t:TypeId)(h:VR ρ v v'){x : Option Value}(r:OVR ρ l l')(w:OVR ρ u S)(y:OVR ρ x N):aB P P' VR ρ (Instr.slice t v l u x) (Instr.slice t v' l' S N):=by
 unfold Instr.slice;refine ai (aC T t) λJ d I f hd=> ?_;obtain⟨rfl, -⟩:=hd;have K:x.isSome=N.isSome:=by cases y<;>rfl
 cases d with
 |string=>
  cases h with
  |string s=>
   simp only[K];cases N.isSome with
   |true=>exact .halt _ _
   |false=>
    refine ai (iY _ _ _ (r.mono f) (w.mono f) .none) λA b k _ e=> ?_;obtain rfl:b=k:=e;exact aj (.string _)
  |_=>exact .halt _ _
 |slice e=>
  cases h with
  |slice j n c=>
   refine ai (iY _ _ _ (r.mono f) (w.mono f) (y.mono f)) λA b k o e=> ?_;obtain rfl:b=k:=e;refine ai (dP T _) λD z q g e=> ?_;obtain rfl:z=q:=e;refine aj (.slice ?_ _ _);split
   .exact j.mono (f.trans (o.trans g))
   .cases j with
    |none=>exact .none
    |some j=>exact .some ((j.mono (f.trans (o.trans g))).add _)
  |empty H G E=>
   refine ai (ad5 _ (r.mono f) (w.mono f) (y.mono f)) λA b k o e=> ?_;obtain⟨rfl,rfl⟩:=e;refine ai (dP T _) λD z q g e=> ?_;obtain rfl:z=q:=e;exact aj (.empty (f.trans (o.trans g) |>.r H) G E)
  |_=>exact .halt _ _
 |pointer i=>
  have p:aB P P' VR J (do
    let a<-asAddr v
    let .array n elem<-underlying i|stuck "Slice: array type expected"
    let(l,h,m)<-Instr.sliceBounds false n n l u x
    let size<-sizeOf elem
    pure (.slice (some (if m=l then a else a.add (l*size))) (h-l) (m-l))) (do
    let a<-asAddr v'
    let .array n elem<-underlying i|stuck "Slice: array type expected"
    let(l,h,m)<-Instr.sliceBounds false n n l' S N
    let size<-sizeOf elem
    pure (.slice (some (if m=l then a else a.add (l*size))) (h-l) (m-l))):=by
   refine ai (aip (h.mono f)) λA a E o j=> ?_;refine ai (aC T i) λD d I g hd=> ?_;obtain⟨rfl, -⟩:=hd;cases d with
   |array n e=>
    have B:=f.trans (o.trans g);refine ai (iY _ _ _ (r.mono B) (w.mono B) (y.mono B)) λL b k F e=> ?_;obtain rfl:b=k:=e;refine ai (dP T _) λM z q C e=> ?_;obtain rfl:z=q:=e;refine aj (.slice (.some ?_) _ _);split
    .exact j.mono (g.trans (F.trans C))
    .exact(j.mono (g.trans (F.trans C))).add _
   |_=>exact .halt _ _
  cases h<;>exact p
 |_=>cases h<;>exact .halt _ _
theorem asY(t:TypeId)(h:VR ρ v v')(g:VR ρ i X):aB P P' VR ρ (Instr.index t v i) (Instr.index t v' X):=by
 unfold Instr.index;refine ai (lN g) λo x k c j=> ?_;obtain rfl:x=k:=j;refine ai (aC T t) λm d l b hd=> ?_;obtain⟨rfl, -⟩:=hd;cases d with
 |array n e=>
  cases h with
  |agg h=>
   refine aQ (λ_=> ?_) (λ_=>jW _ _ _ _);refine ai (dP T _) λp z f a e=> ?_;obtain rfl:z=f:=e;exact lv T _ (bN.mono (c.trans (b.trans a)) h) _
  |_=>exact .halt _ _
 |string=>
  cases h with
  |string s=>
   simp only;split
   .exact aj (.int _ _)
   .exact jW _ _ _ _
  |_=>exact .halt _ _
 |_=>cases h<;>exact .halt _ _
end
end
section
open Go
section
variable {P P':Program} {α β γ δ:Type} {A:Ren->α->β->Prop} {B:Ren->γ->δ->Prop} {ρ:Ren}
variable (T:Twin P P')
include T
theorem an3(t:TypeId)(f:Nat)(q:∀c g i,P.underlying t=some (.struct c)->c[f]?=some g->P.info? g.type=some i->i.size≠0)(h:VR ρ v v'):aB P P' VR ρ (Instr.fieldAt t v f) (Instr.fieldAt t v' f):=by
 unfold Instr.fieldAt;refine ai (aC T t) λE d D w hd=> ?_;obtain⟨rfl,hd⟩:=hd;cases d with
 |struct c=>
  simp only;cases r:c[f]? with
  |none=>exact .halt _ _
  |some g=>
   refine ai (jV (h.mono w)) λs a l B z=> ?_;refine ai (A:=AR) ?_ λo b C _ n=>aj (.pointer (.some n));unfold fieldPlace sizeOf;have j:aB P P' AR s (typeInfo g.type >>=λi=>if i.size=0 then partAt a g.offset g.byteOffset else pure (a.add g.offset)) (typeInfo g.type >>=λi=>if i.size=0 then partAt l g.offset g.byteOffset else pure (l.add g.offset)):=by
    refine ai (cI T g.type) λo i F u k=> ?_;obtain⟨rfl,k⟩:=k;have m:=q c g i hd r k;rw[bd m,bd m];exact aj ((z.mono u).add _)
   have e:∀x:Addr,((do let y<-(do pure (<-typeInfo g.type).size);if y=0 then partAt x g.offset g.byteOffset else pure (x.add g.offset)):Sem Addr)=(typeInfo g.type >>=λi=>if i.size=0 then partAt x g.offset g.byteOffset else pure (x.add g.offset)):=by
    intro x;unfold typeInfo;show Sem.bind (Sem.bind (Sem.bind program _) _) _=Sem.bind (Sem.bind program _) _;unfold program;simp only[Sem.bind]
    congr 1
    funext p
    cases p.info? g.type<;>rfl
   rw[e,e];exact j
 |_=>exact .halt _ _
theorem an4(t:TypeId)(h:VR ρ v v')(D:VR ρ i X):aB P P' VR ρ (Instr.indexAt t v i) (Instr.indexAt t v' X):=by
 unfold Instr.indexAt;refine ai (lN D) λJ x A r E=> ?_;obtain rfl:x=A:=E;refine ai (aC T t) λτ d C p hd=> ?_;obtain⟨rfl, -⟩:=hd;have f:∀(j:Ren),τ.Le j->∀{b b':Option Addr} (n:Nat) (e:TypeId),(OAR j b b'\/(n=0/\b.isSome=true/\b'.isSome=true))->
   aB P P' VR j (do
    let(base,len,elem):=(b,n,e)
    let g:=len<=1&&(match<-underlying t with|.array .. =>true|_=>false)
    match base with
    |some a=>
     if 0<=x.2/\x.2<len then pure (.pointer (some (a.add (x.2.toNat*(<-sizeOf elem)))))
     else if g then unsupported (.noEntry "op/indexAddr.an index out of range at an array of length 0 or 1 (ledger 616)")
     else boundsPanic x.1 x.2 len .index
    |none=>boundsPanic x.1 x.2 0 .index) (do
    let(base,len,elem):=(b',n,e)
    let g:=len<=1&&(match<-underlying t with|.array .. =>true|_=>false)
    match base with
    |some a=>
     if 0<=x.2/\x.2<len then pure (.pointer (some (a.add (x.2.toNat*(<-sizeOf elem)))))
     else if g then unsupported (.noEntry "op/indexAddr.an index out of range at an array of length 0 or 1 (ledger 616)")
     else boundsPanic x.1 x.2 len .index
    |none=>boundsPanic x.1 x.2 0 .index):=by
  intro j q b b' n e k;dsimp only;refine ai (aC T t) λF d C B hd=> ?_;obtain⟨rfl, -⟩:=hd;rcases k with k|⟨rfl,y,s⟩
  case' inr=>
   cases b with
   |none=>cases y
   |some a=>
    cases b' with
    |none=>cases s
    |some m=>exact aQ (λh=>absurd h (by omega)) λ_=>aQ (λ_=>.halt _ _) λ_=>jW _ _ _ _
  cases k with
  |none=>exact jW _ _ _ _
  |some k=>
   refine aQ (λ_=> ?_) λ_=>aQ (λ_=>.halt _ _) λ_=>jW _ _ _ _;refine ai (dP T _) λH z u w e=> ?_;obtain rfl:z=u:=e;exact aj (.pointer (.some ((k.mono (B.trans w)).add _)))
 cases d with
 |array n e=>
  have l:aB P P' VR τ _ _:=ai (jV (h.mono (r.trans p))) λj a m q o=>f j q n e (.inl (.some o));cases h<;>exact l
 |slice e=>
  cases h with
  |slice o n c=>exact f τ (Ren.Le.refl _) n e (.inl (o.mono (r.trans p)))
  |@empty a _ I G m=>exact f τ (Ren.Le.refl _) (b:=some a) (b':=some m) 0 e (.inr ⟨rfl,rfl,rfl⟩)
  |_=>exact .halt _ _
 |_=>cases h<;>exact .halt _ _
end
end
section
open Go
inductive PRs (ρ:Ren):List (Nat×Value)->List (Nat×Value)->Prop
 |nil:PRs ρ [] []
 |cons (i:Nat) {v v':Value} {l l':List (Nat×Value)} (h:VR ρ v v') (hl:PRs ρ l l'):PRs ρ ((i,v)::l) ((i,v')::l')
def PRs.mono{ρ a:Ren}(h:ρ.Le a):∀{l b:List (Nat×Value)},PRs ρ l b->PRs a l b
 |_,_,.nil=>.nil
 |_,_,.cons i x y=>.cons i (x.mono h) (y.mono h)
def cQ.set{ρ:Ren}(h:cQ ρ c Z)(i:Nat)(a:VR ρ v v'):cQ ρ (c.setIfInBounds i v) (Z.setIfInBounds i v'):=by
 unfold cQ;rw[ux,ux];exact bN.set h i a
def cQ.fe{ρ:Ren}(a:Nat):∀{l d:List Value} (k:Nat) {c e:Array Value},bN ρ l d->cQ ρ c e->
  cQ ρ ((l.zipIdx k).foldl (λb (x:Value×Nat)=>b.setIfInBounds (a+x.2) x.1) c) ((d.zipIdx k).foldl (λb (x:Value×Nat)=>b.setIfInBounds (a+x.2) x.1) e)
 |_,_,_,_,_,.nil,h=>h
 |_,_,k,_,_,.cons x y,h=>by
  simp only[List.zipIdx_cons,sG];exact cQ.fe a (k+1) y (h.set _ x)
def ad6{ρ:Ren}(a:Nat->Option (Nat×Nat)):∀{l f:List (Nat×Value)} {c b:Array Value},PRs ρ l f->cQ ρ c b->∀{d},Instr.fill a c l=some d->∃g,Instr.fill a b f=some g/\cQ ρ d g
 |_,_,c,b,.nil,h,d,hd=>by
  unfold Instr.fill at hd ⊢;cases hd;exact⟨b,rfl,h⟩
 |_,_,c,b,.cons i x y,h,d,hd=>by
  unfold Instr.fill at hd ⊢;cases e:a i with
  |none=>rw[e] at hd;cases hd
  |some q=>
   rw[e] at hd;simp only at hd ⊢;rw[<-x.cells.size,<-bN.size h];split at hd
   .cases hd
   .rename_i j;rw[bd j];refine ad6 a y ?_ hd;have:=cQ.fe q.1 0 x.cells h;simpa[rM,<-Array.toList_zipIdx] using this
def bN.acf{ρ:Ren}{f g:Nat->Value}(h:∀i,VR ρ (f i) (g i)):∀l:List Nat,bN ρ (l.map f) (l.map g)
 |[]=>.nil
 |x::l=>.cons (h x) (bN.acf h l)
def cQ.getD{ρ:Ren}(h:cQ ρ c Z)(i:Nat):VR ρ c[i]! Z[i]!:=by
 rw[getElem!_def,getElem!_def];cases b:c[i]? with
 |none=>
  have:Z[i]?=none:=by
   rw[pi] at b ⊢;rw[<-bN.size h];exact b
  rw[this];exact .bool _
 |some v=>
  obtain⟨e,a,d⟩:=bN.get h (i:=i) (v:=v) (by rw[ef];exact b);rw[ef] at a;rw[a];exact d
def cQ.zeros{ρ:Ren}(h:cQ ρ c Z)(k:Nat):cQ ρ ((Array.range k).map (c[· % c.size]!)) ((Array.range k).map (Z[· % Z.size]!)):=by
 unfold cQ;rw[qe,qe,bN.size h];exact bN.acf (λi=>h.getD _) _
section
variable {P P':Program} {α β γ δ:Type} {A:Ren->α->β->Prop} {B:Ren->γ->δ->Prop} {ρ:Ren}
variable (T:Twin P P')
include T
theorem ag5(t:TypeId)(n:Nat)(h:PRs ρ p.toList K.toList):aB P P' VR ρ (Instr.buildSlice t n p) (Instr.buildSlice t n K):=by
 unfold Instr.buildSlice;refine ai (aC T t) λH d G w hd=> ?_;obtain⟨rfl,hd⟩:=hd;cases d with
 |slice e=>
  refine ai (dP T _) λτ z r o v=> ?_;obtain rfl:z=r:=v;dsimp only;refine aQ (λ_=> ?_) (λ_=> ?_)
  .exact .halt _ _
  .have k:∀(f:Ren) (g:τ.Le f) (q b:Array Value),cQ f q b->aB P P' VR f (do
     let some cells:=Instr.fill (λi=>some (i*z,z)) ((Array.range (n*z)).map (q[· % q.size]!)) p.toList
      |stuck "buildSlice: a part of the wrong size"
     pure (.slice (some (<-newRow e cells)) n n)) (do
     let some cells:=Instr.fill (λi=>some (i*z,z)) ((Array.range (n*z)).map (b[· % b.size]!)) K.toList
      |stuck "buildSlice: a part of the wrong size"
     pure (.slice (some (<-newRow e cells)) n n)):=by
    intro f g q b j;cases u:Instr.fill (λi=>some (i*z,z)) ((Array.range (n*z)).map (q[· % q.size]!)) p.toList with
    |none=>exact .halt _ _
    |some c=>
     obtain⟨D,l,C⟩:=ad6 _ (h.mono (w.trans (o.trans g))) (j.zeros (n*z)) u;rw[l];exact ai (lM e C) λ_ a E _ B=>aj (.slice (.some B) _ _)
   refine aQ (λ_=> ?_) (λ_=> ?_)
   .exact ai (A:=cQ) (aj .nil) λf q b g j=>k f g q b j
   .exact ai (nz T _) λf x F g y=>ai (A:=cQ) (aj y.cells) λm q b s j=>k m (g.trans s) q b j
 |_=>exact .halt _ _
theorem aiq(t:TypeId){l l' c : Value}(D:VR ρ l l')(H:VR ρ c X):aB P P' VR ρ (Instr.makeSlice t l c) (Instr.makeSlice t l' X):=by
 unfold Instr.makeSlice;refine ai (aC T t) λV d R m hd=> ?_;obtain⟨rfl,hd⟩:=hd;cases d with
 |slice e=>
  dsimp only;refine ai (aa3 (D.mono m)) λS x k v r=> ?_;obtain rfl:x=k:=r;refine ai (aa3 (H.mono (m.trans v))) λK y B U G=> ?_;obtain rfl:y=B:=G;refine ai (cI T e) λI i W O o=> ?_;obtain⟨rfl,o⟩:=o;refine aQ (λ_=> ?_) (λ_=> ?_)
  .refine aQ (λ_=> ?_) (λ_=>aQ (λ_=> ?_) (λ_=> ?_))
   .exact ai (dr (A:=λ_ _ _=>False) _) λ_ _ _ _ h=>h.elim
   .exact ai (dr (A:=λ_ _ _=>False) _) λ_ _ _ _ h=>h.elim
   .refine ai (fR _) λ_ n s _ E=> ?_;obtain rfl:n=s:=E;exact ai (dr (A:=λ_ _ _=>False) _) λ_ _ _ _ h=>h.elim
  .refine ai (ag4 _) λJ u N Q _=> ?_;refine ai (dP T _) λM z w p C=> ?_;obtain rfl:z=w:=C;have j:∀(b:Ren) (q f:Array Value),cQ b q f->aB P P' VR b (do
     let a<-newRow e ((Array.range ((IntKind.i64.wrap y).toNat*z)).map (q[· % q.size]!))
     pure (.slice (some a) (IntKind.i64.wrap x).toNat (IntKind.i64.wrap y).toNat)) (do
     let a<-newRow e ((Array.range ((IntKind.i64.wrap y).toNat*z)).map (f[· % f.size]!))
     pure (.slice (some a) (IntKind.i64.wrap x).toNat (IntKind.i64.wrap y).toNat)):=λb q f g=>
    ai (lM e (g.zeros _)) λ_ a L _ F=>aj (.slice (.some F) _ _)
   refine aQ (λ_=> ?_) (λ_=> ?_)
   .exact ai (A:=cQ) (aj .nil) λb q f _ g=>j b q f g
   .exact ai (nz T _) λb x k _ p=>ai (A:=cQ) (aj p.cells) λb q f _ g=>j b q f g
 |_=>exact .halt _ _
theorem amL:∀(a:List Field) (ρ:Ren),aB P P' iF ρ (a.mapM λf=>(do pure (f.offset,<-sizeOf f.type):Sem (Nat×Nat))) (a.mapM λf=>(do pure (f.offset,<-sizeOf f.type):Sem (Nat×Nat)))
 |[],_=>by rw[List.mapM_nil];exact aj rfl
 |f::a,ρ=>by
  rw[vg];refine ai (A:=iF) ?_ λb x i _ c=> ?_
  .refine ai (dP T _) λb z j _ d=> ?_;obtain rfl:z=j:=d;exact aj rfl
  obtain rfl:x=i:=c;refine ai (amL a b) λk y g _ e=> ?_;obtain rfl:y=g:=e;exact aj rfl
theorem asZ(t:TypeId)(h:PRs ρ p.toList K.toList):aB P P' VR ρ (Instr.build t p) (Instr.build t K):=by
 unfold Instr.build;refine ai (nz T t) λE z v q o=> ?_;refine ai (aC T t) λτ d D j hd=> ?_;obtain⟨rfl,hd⟩:=hd;have B:∀(k:Ren) (f:τ.Le k) (a:Nat->Option (Nat×Nat)),aB P P' VR k (do
   let some cells:=Instr.fill a z.cells p.toList|stuck "build: no such field, or a part of the wrong size"
   pure (.agg cells)) (do
   let some cells:=Instr.fill a v.cells K.toList|stuck "build: no such field, or a part of the wrong size"
   pure (.agg cells)):=by
  intro k f a;cases g:Instr.fill a z.cells p.toList with
  |none=>exact .halt _ _
  |some c=>
   obtain⟨s,b,l⟩:=ad6 a (h.mono (q.trans (j.trans f))) (o.mono (j.trans f)).cells g;rw[b];exact aj (.agg l)
 cases d with
 |struct C=>
  simp only[tl];refine ai (A:=iF) ?_ λk x w f u=> ?_
  .exact ai (amL T C.toList _) λ_ y m _ r=>by
    obtain rfl:y=m:=r;exact aj rfl
  obtain rfl:x=w:=u;cases g:Instr.fill (λi=>x[i]?) z.cells p.toList with
  |none=>exact .halt _ _
  |some c=>
   obtain⟨s,b,l⟩:=ad6 _ (h.mono (q.trans (j.trans f))) (o.mono (j.trans f)).cells g;simp only[b];exact aj (.agg l)
 |array n e=>
  refine ai (dP T _) λk y m f r=> ?_;obtain rfl:y=m:=r;cases g:Instr.fill (λi=>some (i*y,y)) z.cells p.toList with
  |none=>simp only[g];exact .halt _ _
  |some c=>
   obtain⟨s,b,l⟩:=ad6 _ (h.mono (q.trans (j.trans f))) (o.mono (j.trans f)).cells g;simp only[g,b];exact aj (.agg l)
 |_=>exact .halt _ _
end
end
section
open Go
section
variable {P P':Program} {α β γ δ:Type} {A:Ren->α->β->Prop} {B:Ren->γ->δ->Prop} {ρ:Ren}
def cQ.args(h:cQ ρ c Z)(i:Nat):OVR ρ c[i]? Z[i]?:=by
 cases b:c[i]? with
 |none=>
  have:Z[i]?=none:=by
   rw[pi] at b ⊢;rw[<-bN.size h];exact b
  rw[this];exact .none
 |some v=>
  obtain⟨e,a,d⟩:=bN.get h (i:=i) (v:=v) (by rw[ef];exact b);rw[ef] at a;rw[a];exact .some d
variable (T:Twin P P')
include T
theorem ax0(ts:Array TypeId)(t:TypeId){a : Array Value}(h:cQ ρ a Z):aB P P' VR ρ (Builtin.len_ ts t a) (Builtin.len_ ts t Z):=by
 unfold Builtin.len_;cases G:ts[0]? with
 |none=>exact .halt _ _
 |some v=>
  have g:=h.args 0;cases D:a[0]? with
  |none=>exact .halt _ _
  |some x=>
   rw[D] at g;obtain⟨j,p,b⟩:∃j,Z[0]?=some j/\VR ρ x j:=by
    cases s:Z[0]? with
    |none=>rw[s] at g;cases g
    |some j=>rw[s] at g;cases g with|some h=>exact⟨j,rfl,h⟩
   rw[p];dsimp only;refine ai (aC T v) λB d y z hd=> ?_;obtain⟨rfl,hd⟩:=hd;replace b:=b.mono z;cases d with
   |string=>cases b<;>first|exact aj (.int _ _)|exact .halt _ _
   |array n e=>cases b<;>exact aj (.int _ _)
   |slice e=>cases b<;>first|exact aj (.int _ _)|exact .halt _ _
   |pointer f=>
    have i:aB P P' VR B (do
      let .array n _<-underlying f|stuck "len: pointer to array expected"
      pure (goInt n)) (do
      let .array n _<-underlying f|stuck "len: pointer to array expected"
      pure (goInt n)):=by
     refine ai (aC T f) λm d y _ hd=> ?_;obtain⟨rfl, -⟩:=hd;cases d<;>first|exact aj (.int _ _)|exact .halt _ _
    cases b<;>exact i
   |map k e=>
    cases b with
    |map c=>
     cases c with
     |none=>exact aj (.int _ _)
     |some c=>
      refine ai (ed c) λm o A _ q=> ?_;cases q with
      |@map e u E _=>
       have w:e.size=u.size:=by
        have:∀{l r:List MapEntry},lK m l r->l.length=r.length:=by
         intro l r h
         induction h with
         |nil=>rfl
         |cons _ _ F=>simp[F]
        simpa using this E
       show aB P P' VR m (pure (goInt e.size)) (pure (goInt u.size));rw[w];exact aj (.int _ _)
      |_=>exact .halt _ _
    |_=>exact .halt _ _
   |chan C e=>
    cases b with
    |chan c=>
     cases c with
     |none=>exact aj (.int _ _)
     |some c=>
      refine ai (ed c) λm o A _ q=> ?_;cases q<;>exact .halt _ _
    |_=>exact .halt _ _
   |_=>cases b<;>exact .halt _ _
omit T in
theorem oB(c:VR ρ x X):aB P P' (λ_ m b=>m=b/\∀a,x=.slice (some a) 0 0->m=0) ρ (Builtin.lenOf x) (Builtin.lenOf X):=by
 cases c<;>first|exact aj ⟨rfl,λa e=>by cases e<;>rfl⟩|exact .halt _ _
omit T in
theorem dL{z:Nat}{l c:Nat}:Builtin.firstCells z 0 (.slice (some a) l c)=pure #[]:=by
 show loadCells a (0*z)=_;rw[sj];rfl
omit T in
theorem aab(z:Nat)(d:VR ρ x X):aB P P' (λ_ c a=>c=#[]/\a=#[]) ρ (Builtin.firstCells z 0 x) (Builtin.firstCells z 0 X):=by
 cases d with
 |slice h l c=>
  cases h with
  |none=>exact aj ⟨rfl,rfl⟩
  |some h=>rw[dL,dL];exact aj ⟨rfl,rfl⟩
 |empty g i f=>rw[dL,dL];exact aj ⟨rfl,rfl⟩
 |string s=>
  have e:((s.extract 0 0).data.map λb=>Value.int .u8 b.toNat)=#[]:=Array.eq_empty_of_size_eq_zero (by
   rw[sd];show(s.extract 0 0).size=0;simp)
  exact aj ⟨e,e⟩
 |_=>exact .halt _ _
omit T in
theorem fD(z n:Nat)(e:VR ρ x X)(f:∀a,x=.slice (some a) 0 0->n=0):aB P P' cQ ρ (Builtin.firstCells z n x) (Builtin.firstCells z n X):=by
 cases e with
 |slice h l c=>
  cases h with
  |none=>exact aj .nil
  |some h=>exact nA h _
 |@empty a _ g i j=>
  obtain rfl:=f a rfl;rw[dL,dL];exact aj .nil
 |string s=>
  refine aj ?_;unfold cQ;exact bN.jH λv d=>by
   simp only[qe,lP] at d;obtain⟨b,_,rfl⟩:=d;exact .int _ _
 |_=>exact .halt _ _
omit T in
theorem cQ.zeroCells(h:cQ ρ c Z)(n:Nat):cQ ρ (Builtin.zeroCells c n) (Builtin.zeroCells Z n):=by
 unfold Builtin.zeroCells cQ;rw[qe,qe,bN.size h];exact bN.acf (λi=>h.getD _) _
omit T in
theorem cQ.app{d : Array Value}(h:cQ ρ c Z)(k:cQ ρ d I):cQ ρ (c++d) (Z++I):=by
 unfold cQ;rw[nF,nF];exact bN.app h k
theorem awf(ts:Array TypeId)(t:TypeId){a : Array Value}(h:cQ ρ a Z):aB P P' VR ρ (Builtin.copy_ ts t a) (Builtin.copy_ ts t Z):=by
 unfold Builtin.copy_;have f:=h.args 0;have b:=h.args 1;revert f b;generalize a[0]?=x0;generalize Z[0]?=x0';generalize a[1]?=x1;generalize Z[1]?=x1';intro f b;cases D:ts[0]? with
 |none=>exact .halt _ _
 |some y=>
  cases f with
  |none=>exact .halt _ _
  |some f=>
   cases b with
   |none=>exact .halt _ _
   |some b=>
    dsimp only;refine ai (aC T y) λI d H g hd=> ?_;obtain⟨rfl,hd⟩:=hd;cases d with
    |slice e=>
     replace f:=f.mono g;cases f with
     |slice k n c=>
      dsimp only;refine ai (oB (b.mono g)) λB m C j p=> ?_;obtain⟨rfl,o⟩:=p;refine ai (dP T e) λw z l i q=> ?_;obtain rfl:z=l:=q;refine ai (fD z _ (b.mono (g.trans (j.trans i))) λa e=>by rw[o a e];exact Nat.zero_min _) λv x r u s=> ?_;cases k with
      |none=>exact aj (.int _ _)
      |some k=>exact ai (ig (k.mono (j.trans (i.trans u))) 0 s) λ_ _ _ _ _=>aj (.int _ _)
     |empty G F E=>
      dsimp only;refine ai (oB (b.mono g)) λB m C j p=> ?_;obtain⟨rfl, -⟩:=p;refine ai (dP T e) λw z l i q=> ?_;obtain rfl:z=l:=q;rw[show Nat.min m 0=0 from Nat.min_zero _];refine ai (aab z (b.mono (g.trans (j.trans i)))) λv x r u s=> ?_;obtain⟨rfl,rfl⟩:=s;exact ai (aj (A:=iF) rfl) λ_ _ _ _ _=>aj (.int _ _)
     |_=>exact .halt _ _
    |_=>exact .halt _ _
end
end
section
open Go
def ik(a:Addr)(n:Nat):Leaves P (λ_=>True) (Builtin.holdsCells a n):=by
 unfold Builtin.holdsCells;intro z;cases z<;>trivial
def mS(z l n:Nat)(b:Option Addr)(x:Value):Leaves P (λ_=>True) (Builtin.mayShare z l n b x):=by
 unfold Builtin.mayShare;cases b with
 |none=>
  cases x with
  |slice a _ _=>cases a with
   |none=>trivial
   |some c=>exact Leaves.bind (P:=P) (s:=Builtin.holdsCells c (n*z)) (ik _ _) λ_ _=>trivial
  |_=>trivial
 |some a=>
  refine Leaves.bind (ik _ _) λq _ f=> ?_;show Leaves P _ (if(!(q&&!f))=true then pure true else _);cases(q&&!f) with
  |false=>trivial
  |true=>
   cases x with
   |slice a _ _=>cases a with
    |none=>trivial
    |some c=>exact Leaves.bind (ik _ _) λ_ _=>trivial
   |_=>trivial
section
variable {P P':Program} {ρ:Ren}
variable (T:Twin P P')
include T
theorem apW(ts:Array TypeId)(t:TypeId)(hz:∀u,ts[1]?=some u->∀k,P.underlying u≠some (.int k)){a : Array Value}(h:cQ ρ a Z):aB P P' VR ρ (Builtin.append_ ts t a) (Builtin.append_ ts t Z):=by
 unfold Builtin.append_;have M:=h.args 0;have o:=h.args 1;revert M o;generalize a[0]?=x0;generalize Z[0]?=x0';generalize a[1]?=x1;generalize Z[1]?=x1';intro M o;cases ht:ts[0]? with
 |none=>exact .halt _ _
 |some t0=>
  cases M with
  |none=>exact .halt _ _
  |some M=>
   cases o with
   |none=>exact .halt _ _
   |@some x H o=>
    dsimp only;refine ai (aC T t0) λσ d X Q hd=> ?_;obtain⟨rfl,hd⟩:=hd;cases d with
    |slice e=>
     replace M:=M.mono Q;cases M with
     |@slice b B I sl w=>
      dsimp only;refine ai (dP T e) λτ z z' l ez=> ?_;obtain rfl:z=z':=ez;have m:∀(υ:Ren),τ.Le υ->∀n:Nat,(∀a,x=.slice (some a) 0 0->n=0)->aB P P' VR υ
        (let f:=sl+n
         if f<=w then do
          let new<-Builtin.firstCells z n x
          if let some a:=b then storeCells (a.add (sl*z)) new.toList
          pure (.slice b f w)
         else do
          if(f:Int)>IntKind.i64.max/\(false=true\/(<-typeInfo e).bytes=0) then runtimePanic (.error "growslice: len out of range")
          if Builtin.nextslicecap f w*(<-typeInfo e).bytes>2 ^ 48 then(if false then runtimePanic (.error "growslice: len out of range") else do
           if !(<-Builtin.mayShare z sl n b x) then mark .noRoom
           unsupported (.resourceLimit "append: a slice or a string whose bytes no memory bears"))
          let cu<-choose (.appendCap f w e)
          askRoom (cu*(<-typeInfo e).bytes)
          let old<-Builtin.firstCells z sl (.slice b sl w)
          let new<-Builtin.firstCells z n x
          let g:=Builtin.zeroCells (<-zeroValue e).cells (cu-f)
          pure (.slice (some (<-newRow e (old++new++g))) f cu):Sem Value)
        (let f:=sl+n
         if f<=w then do
          let new<-Builtin.firstCells z n H
          if let some a:=B then storeCells (a.add (sl*z)) new.toList
          pure (.slice B f w)
         else do
          if(f:Int)>IntKind.i64.max/\(false=true\/(<-typeInfo e).bytes=0) then runtimePanic (.error "growslice: len out of range")
          if Builtin.nextslicecap f w*(<-typeInfo e).bytes>2 ^ 48 then(if false then runtimePanic (.error "growslice: len out of range") else do
           if !(<-Builtin.mayShare z sl n B H) then mark .noRoom
           unsupported (.resourceLimit "append: a slice or a string whose bytes no memory bears"))
          let cu<-choose (.appendCap f w e)
          askRoom (cu*(<-typeInfo e).bytes)
          let old<-Builtin.firstCells z sl (.slice B sl w)
          let new<-Builtin.firstCells z n H
          let g:=Builtin.zeroCells (<-zeroValue e).cells (cu-f)
          pure (.slice (some (<-newRow e (old++new++g))) f cu):Sem Value):=by
       intro υ F n j;have lx:=Q.trans (l.trans F);replace I:=I.mono (l.trans F);replace o:=o.mono lx;dsimp only;refine aQ (λ_=> ?_) (λ_=> ?_)
       .refine ai (fD z n o j) λp c c' C L=> ?_;cases I with
        |none=>exact aj (.slice .none _ _)
        |some I=>exact ai (ig ((I.mono C).add _) 0 L) λR _ _ E _=>aj (.slice (.some (I.mono (C.trans E))) _ _)
       .have grow:∀(p:Ren),υ.Le p->aB P P' VR p (do
          let cu<-choose (.appendCap (sl+n) w e)
          askRoom (cu*(<-typeInfo e).bytes)
          let old<-Builtin.firstCells z sl (.slice b sl w)
          let new<-Builtin.firstCells z n x
          let g:=Builtin.zeroCells (<-zeroValue e).cells (cu-(sl+n))
          pure (.slice (some (<-newRow e (old++new++g))) (sl+n) cu):Sem Value) (do
          let cu<-choose (.appendCap (sl+n) w e)
          askRoom (cu*(<-typeInfo e).bytes)
          let old<-Builtin.firstCells z sl (.slice B sl w)
          let new<-Builtin.firstCells z n H
          let g:=Builtin.zeroCells (<-zeroValue e).cells (cu-(sl+n))
          pure (.slice (some (<-newRow e (old++new++g))) (sl+n) cu):Sem Value):=by
         intro p C;refine ai (fR _) λR k Y E ek=> ?_;obtain rfl:k=Y:=ek;refine ai (cI T e) λχ i3 a3 hx D=> ?_;obtain⟨rfl, -⟩:=D;refine ai (ag4 _) λω _ _ J _=> ?_;have W:=C.trans (E.trans (hx.trans J));refine ai (fD z sl (.slice (I.mono W) sl w) λa e=>by cases e;rfl) λa0 c c' O L=> ?_;refine ai (fD z n (o.mono (W.trans O)) j) λa1 d X J hd=> ?_;refine ai (nz T e) λξ y y' U N=> ?_;exact ai (lM e (cQ.app (cQ.app (bN.mono (J.trans U) L) (bN.mono U hd)) (cQ.zeroCells N.cells _))) λ_ r r' _ hr=>aj (.slice (.some hr) _ _)
        refine ai (cI T e) λp i i' C D=> ?_;obtain⟨rfl, -⟩:=D;refine aQ (λ_=> ?_) (λ_=> ?_)
        .exact ai (dr (A:=λ_ _ _=>False) _) λ_ _ _ _ h=>h.elim
        .refine ai (cI T e) λR i2 a2 E D=> ?_;obtain⟨rfl, -⟩:=D;refine aQ (λ_=> ?_) (λ_=>grow R (C.trans E));refine .dead (js.bind (fC (mS _ _ _ _ _) λq=> ?_) _) _;cases q
         .exact fC (P:=P) (s:=mark .noRoom) trivial λ_=>dZ _
         .exact dZ _
      cases F:ts[1]? with
      |none=>
       have v:=ai (oB (P:=P) (P':=P') (o.mono (Q.trans l))) λυ n n' G K=>by
        obtain⟨rfl,j⟩:=K;exact m υ G n j
       exact v
      |some u=>
       refine ai (aC T u) λυ d X G hd=> ?_;obtain⟨rfl,hd⟩:=hd;have v:=ai (oB (P:=P) (P':=P') (o.mono (Q.trans (l.trans G)))) λp n n' hn K=>by
        obtain⟨rfl,j⟩:=K;exact m p (G.trans hn) n j
       cases d with
       |int k=>exact absurd hd (hz u F k)
       |_=>exact v
     |@empty b _ S V B=>
      dsimp only;refine ai (dP T e) λτ z z' l ez=> ?_;obtain rfl:z=z':=ez;have m:∀(υ:Ren),τ.Le υ->∀n:Nat,(∀a,x=.slice (some a) 0 0->n=0)->aB P P' VR υ
        (let f:=0+n
         if f<=0 then do
          let new<-Builtin.firstCells z n x
          if let some a:=(some b:Option Addr) then storeCells (a.add (0*z)) new.toList
          pure (.slice (some b) f 0)
         else do
          if(f:Int)>IntKind.i64.max/\(false=true\/(<-typeInfo e).bytes=0) then runtimePanic (.error "growslice: len out of range")
          if Builtin.nextslicecap f 0*(<-typeInfo e).bytes>2 ^ 48 then(if false then runtimePanic (.error "growslice: len out of range") else do
           if !(<-Builtin.mayShare z 0 n (some b) x) then mark .noRoom
           unsupported (.resourceLimit "append: a slice or a string whose bytes no memory bears"))
          let cu<-choose (.appendCap f 0 e)
          askRoom (cu*(<-typeInfo e).bytes)
          let old<-Builtin.firstCells z 0 (.slice (some b) 0 0)
          let new<-Builtin.firstCells z n x
          let g:=Builtin.zeroCells (<-zeroValue e).cells (cu-f)
          pure (.slice (some (<-newRow e (old++new++g))) f cu):Sem Value)
        (let f:=0+n
         if f<=0 then do
          let new<-Builtin.firstCells z n H
          if let some a:=(some B:Option Addr) then storeCells (a.add (0*z)) new.toList
          pure (.slice (some B) f 0)
         else do
          if(f:Int)>IntKind.i64.max/\(false=true\/(<-typeInfo e).bytes=0) then runtimePanic (.error "growslice: len out of range")
          if Builtin.nextslicecap f 0*(<-typeInfo e).bytes>2 ^ 48 then(if false then runtimePanic (.error "growslice: len out of range") else do
           if !(<-Builtin.mayShare z 0 n (some B) H) then mark .noRoom
           unsupported (.resourceLimit "append: a slice or a string whose bytes no memory bears"))
          let cu<-choose (.appendCap f 0 e)
          askRoom (cu*(<-typeInfo e).bytes)
          let old<-Builtin.firstCells z 0 (.slice (some B) 0 0)
          let new<-Builtin.firstCells z n H
          let g:=Builtin.zeroCells (<-zeroValue e).cells (cu-f)
          pure (.slice (some (<-newRow e (old++new++g))) f cu):Sem Value):=by
       intro υ F n j;have lx:=Q.trans (l.trans F);replace o:=o.mono lx;dsimp only;refine aQ (λa4=> ?_) (λ_=> ?_)
       .obtain rfl:n=0:=by omega
        refine ai (aab z o) λp c c' C L=> ?_;obtain⟨rfl,rfl⟩:=L;exact ai (aj (A:=iF) rfl) λ_ _ _ E _=>aj (.empty (l.trans (F.trans (C.trans E)) |>.r S) V _)
       .have grow:∀(p:Ren),υ.Le p->aB P P' VR p (do
          let cu<-choose (.appendCap (0+n) 0 e)
          askRoom (cu*(<-typeInfo e).bytes)
          let old<-Builtin.firstCells z 0 (.slice (some b) 0 0)
          let new<-Builtin.firstCells z n x
          let g:=Builtin.zeroCells (<-zeroValue e).cells (cu-(0+n))
          pure (.slice (some (<-newRow e (old++new++g))) (0+n) cu):Sem Value) (do
          let cu<-choose (.appendCap (0+n) 0 e)
          askRoom (cu*(<-typeInfo e).bytes)
          let old<-Builtin.firstCells z 0 (.slice (some B) 0 0)
          let new<-Builtin.firstCells z n H
          let g:=Builtin.zeroCells (<-zeroValue e).cells (cu-(0+n))
          pure (.slice (some (<-newRow e (old++new++g))) (0+n) cu):Sem Value):=by
         intro p C;refine ai (fR _) λR k Y E ek=> ?_;obtain rfl:k=Y:=ek;refine ai (cI T e) λχ i3 a3 hx D=> ?_;obtain⟨rfl, -⟩:=D;refine ai (ag4 _) λω _ _ J _=> ?_;have W:=C.trans (E.trans (hx.trans J));refine ai (fD z 0 (.empty (l.trans (F.trans W) |>.r S) V B) λ_ _=>rfl) λa0 c c' O L=> ?_;refine ai (fD z n (o.mono (W.trans O)) j) λa1 d X J hd=> ?_;refine ai (nz T e) λξ y y' U N=> ?_;exact ai (lM e (cQ.app (cQ.app (bN.mono (J.trans U) L) (bN.mono U hd)) (cQ.zeroCells N.cells _))) λ_ r r' _ hr=>aj (.slice (.some hr) _ _)
        refine ai (cI T e) λp i i' C D=> ?_;obtain⟨rfl, -⟩:=D;refine aQ (λ_=> ?_) (λ_=> ?_)
        .exact ai (dr (A:=λ_ _ _=>False) _) λ_ _ _ _ h=>h.elim
        .refine ai (cI T e) λR i2 a2 E D=> ?_;obtain⟨rfl, -⟩:=D;refine aQ (λ_=> ?_) (λ_=>grow R (C.trans E));refine .dead (js.bind (fC (mS _ _ _ _ _) λq=> ?_) _) _;cases q
         .exact fC (P:=P) (s:=mark .noRoom) trivial λ_=>dZ _
         .exact dZ _
      cases F:ts[1]? with
      |none=>
       have v:=ai (oB (P:=P) (P':=P') (o.mono (Q.trans l))) λυ n n' G K=>by
        obtain⟨rfl,j⟩:=K;exact m υ G n j
       exact v
      |some u=>
       refine ai (aC T u) λυ d X G hd=> ?_;obtain⟨rfl,hd⟩:=hd;have v:=ai (oB (P:=P) (P':=P') (o.mono (Q.trans (l.trans G)))) λp n n' hn K=>by
        obtain⟨rfl,j⟩:=K;exact m p (G.trans hn) n j
       cases d with
       |int k=>exact absurd hd (hz u F k)
       |_=>exact v
     |_=>exact .halt _ _
    |_=>exact .halt _ _
end
end
section
open Go
section
variable {P P':Program} {ρ:Ren}
variable (T:Twin P P')
include T
theorem an5(t:TypeId)(h:VR ρ v v'){x : Option Value}(j:OVR ρ l l')(k:OVR ρ u S)(m:OVR ρ x N):aB P P' VR ρ (Instr.sliceAt t v l u x) (Instr.sliceAt t v' l' S N):=by
 unfold Instr.sliceAt;refine ai (aC T t) λC d A c hd=> ?_;obtain⟨rfl,hd⟩:=hd;cases d with
 |array n e=>
  refine ai (jV (h.mono c)) λB a y p o=> ?_;have f:=c.trans p;refine ai (iY _ _ _ (j.mono f) (k.mono f) (m.mono f)) λs b q i e=> ?_;obtain rfl:b=q:=e;refine ai (dP T _) λw z r g e=> ?_;obtain rfl:z=r:=e;refine aj (.slice (.some ?_) _ _);split
  .exact o.mono (i.trans g)
  .exact(o.mono (i.trans g)).add _
 |_=>exact asX T t (h.mono c) (j.mono c) (k.mono c) (m.mono c)
theorem as0(ts:Array TypeId)(t:TypeId){a : Array Value}(h:cQ ρ a Z):aB P P' VR ρ (Builtin.clear_ ts t a) (Builtin.clear_ ts t Z):=by
 unfold Builtin.clear_;have b:=h.args 0;revert b;generalize a[0]?=x0;generalize Z[0]?=x0';intro b;cases s:ts[0]? with
 |none=>exact .halt _ _
 |some p=>
  cases b with
  |none=>exact .halt _ _
  |some b=>
   dsimp only;refine ai (aC T p) λx d r l hd=> ?_;obtain⟨rfl,hd⟩:=hd;replace b:=b.mono l;cases b with
   |map g=>
    cases g with
    |none=>cases d<;>exact aj (.tuple .nil)
    |some g=>
     cases d<;>(refine ai (ed g) λk o w f j=> ?_;cases j<;>first|exact .halt _ _|exact ai (ie (f.r g) (.map .nil _)) λ_ _ _ _ _=>aj (.tuple .nil))
   |slice i n c=>
    cases i with
    |none=>cases d<;>exact aj (.tuple .nil)
    |some i=>
     cases n with
     |zero=>cases d<;>exact aj (.tuple .nil)
     |succ n=>
      cases d with
      |slice e=>exact ai (nz T e) λk z u f m=>ai (ig (i.mono f) 0 (m.cells |> λq=>cQ.zeroCells q _)) λ_ _ _ _ _=>aj (.tuple .nil)
      |_=>exact .halt _ _
   |empty g v Z=>cases d<;>exact aj (.tuple .nil)
   |_=>cases d<;>exact .halt _ _
theorem ax1(ts:Array TypeId)(t:TypeId){a : Array Value}(h:cQ ρ a Z):aB P P' VR ρ (Builtin.cap_ ts t a) (Builtin.cap_ ts t Z):=by
 unfold Builtin.cap_;have b:=h.args 0;revert b;generalize a[0]?=x0;generalize Z[0]?=x0';intro b;cases r:ts[0]? with
 |none=>exact .halt _ _
 |some q=>
  cases b with
  |none=>exact .halt _ _
  |some b=>
   dsimp only;refine ai (aC T q) λm d j l hd=> ?_;obtain⟨rfl,hd⟩:=hd;replace b:=b.mono l;cases d with
   |array n e=>cases b<;>exact aj (.int _ _)
   |slice e=>cases b<;>first|exact aj (.int _ _)|exact .halt _ _
   |pointer c=>
    have f:aB P P' VR m (do
      let .array n _<-underlying c|stuck "cap: pointer to array expected"
      pure (goInt n)) (do
      let .array n _<-underlying c|stuck "cap: pointer to array expected"
      pure (goInt n)):=by
     refine ai (aC T c) λk d j _ hd=> ?_;obtain⟨rfl, -⟩:=hd;cases d<;>first|exact aj (.int _ _)|exact .halt _ _
    cases b<;>exact f
   |chan p e=>
    cases b with
    |chan g=>
     cases g with
     |none=>exact aj (.int _ _)
     |some g=>
      refine ai (ed g) λk o s _ i=> ?_;cases i<;>exact .halt _ _
    |_=>exact .halt _ _
   |_=>cases b<;>exact .halt _ _
omit T in
theorem ad7(op:BinOp)(k:IntKind)(x y:Int):aB P P' VR ρ (Op.intArith op k x y) (Op.intArith op k x y):=by
 unfold Op.intArith;cases op<;>first|exact aj (.int _ _)|exact .halt _ _
omit T in
theorem apX(op:BinOp)(k:IntKind)(x y:Int):aB P P' VR ρ (Op.intDiv op k x y) (Op.intDiv op k x y):=by
 unfold Op.intDiv;refine aQ (λ_=>dr _) (λ_=> ?_);cases op<;>first|exact aj (.int _ _)|exact .halt _ _
omit T in
theorem afX(op:BinOp)(k:IntKind)(x y:Int):aB P P' VR ρ (Op.intBits op k x y) (Op.intBits op k x y):=by
 unfold Op.intBits;cases op<;>first|exact aj (.int _ _)|exact .halt _ _
omit T in
theorem amM(op:BinOp)(k l:IntKind)(x y:Int):aB P P' VR ρ (Op.shift op k x l y) (Op.shift op k x l y):=by
 unfold Op.shift;refine aQ (λ_=>dr _) (λ_=> ?_);cases op<;>first|exact aj (.int _ _)|exact .halt _ _
omit T in
theorem ad8(op:BinOp)(x y:Int):aB P P' VR ρ (Op.intCmp op x y) (Op.intCmp op x y):=by
 unfold Op.intCmp;cases op<;>first|exact aj (.bool _)|exact .halt _ _
omit T in
theorem jX(op:BinOp)(x y:ByteArray):aB P P' VR ρ (Op.stringOp op x y) (Op.stringOp op x y):=by
 unfold Op.stringOp;cases op<;>first|exact aj (.bool _)|exact .halt _ _|exact aQ (λ_=>.halt _ _) (λ_=>aj (.string _))
omit T in
theorem as1(op:UnOp)(h:VR ρ v v'):aB P P' VR ρ (Op.unary op v) (Op.unary op v'):=by
 cases h with
 |int k n=>cases op<;>simp only[Op.unary]<;>first|exact ad7 _ _ _ _|exact afX _ _ _ _|exact .halt _ _
 |bool b=>cases op<;>first|exact aj (.bool _)|exact .halt _ _
 |pointer h=>cases h<;>cases op<;>exact .halt _ _
 |_=>cases op<;>exact .halt _ _
end
end
section
open Go
inductive FdR (ρ:Ren):Option (Nat×Value)->Option (Nat×Value)->Prop
 |none:FdR ρ none none
 |some (i:Nat) {v v':Value} (h:VR ρ v v'):FdR ρ (some (i,v)) (some (i,v'))
inductive awg (ρ:Ren):Option (Option (Nat×Value))->Option (Option (Nat×Value))->Prop
 |none:awg ρ none none
 |some {a a':Option (Nat×Value)} (h:FdR ρ a a'):awg ρ (some a) (some a')
def an6{ρ:Ren}(a:IntKind){e e' : Value}(b:VR ρ k k')(c:VR ρ e e'):Instr.sameNow (.int a) k e=Instr.sameNow (.int a) k' e'\/k=.tuple #[]\/e=.tuple #[]:=by
 cases b<;>cases c<;>first|exact .inl rfl|exact .inr (.inl rfl)|exact .inr (.inr rfl)
section
variable {P:Program} {t:TypeId} {kd:IntKind} (ht:P.underlying t=some (.int kd))
include ht
theorem aa4:Leaves P (λd=>d=.int kd) (underlying t):=by
 unfold underlying;show Leaves P (λd=>d=.int kd) (match P.underlying t with
  |some d=>pure d
  |none=>stuck "no such type")
 rw[ht];exact rfl
theorem akr(h:x=.tuple #[]\/y=.tuple #[]):js P (Op.equal t x y):=by
 unfold Op.equal Op.maxDepth Op.equalIn;refine Leaves.bind (aa4 ht) λd hd=> ?_;subst hd;rcases h with rfl|rfl
 .cases y with
  |pointer a=>cases a<;>exact trivial
  |int k n=>exact trivial
  |_=>exact trivial
 .cases x with
  |pointer a=>cases a<;>exact trivial
  |int k n=>exact trivial
  |_=>exact trivial
theorem ag6{b:Bool}(h:Instr.sameNow (.int kd) x y=some b):Leaves P (λr=>r=b) (Op.equal t x y):=by
 unfold Op.equal Op.maxDepth Op.equalIn;refine Leaves.bind (aa4 ht) λd hd=> ?_;subst hd;cases x with
 |int k n=>
  cases y with
  |int a m=>
   by_cases e:k=a
   .simp only[Instr.sameNow,e,mT,lw] at h;dsimp only;rw[dl e];exact h
   .simp[Instr.sameNow,e] at h
  |_=>cases h
 |_=>cases y<;>cases h
theorem afY{ρ:Ren}{k k':Value}(a:VR ρ k k'):∀{l c:List MapEntry},lK ρ l c->∀i,awg ρ (Instr.findNow (.int kd) k l i) (Instr.findNow (.int kd) k' c i)\/(Instr.findNow (.int kd) k l i=none/\js P (Instr.findAsking t k l i))
 |_,_,.nil,_=>.inl (.some .none)
 |_,_,.cons (.mk (k:=ek) h1 h2 b) y,i=>by
  rcases an6 kd a h1 with e|e
  .unfold Instr.findNow;rw[e];cases f:Instr.sameNow (.int kd) k' _ with
   |none=>exact .inl .none
   |some q=>
    cases q with
    |true=>exact .inl (.some (.some i h2))
    |false=>
     refine(afY a y (i+1)).imp id λh=>⟨h.1, ?_⟩;unfold Instr.findAsking;refine Leaves.bind (ag6 ht (e.trans f)) λb d=> ?_;subst d;exact h.2
  .refine .inr ⟨?_, ?_⟩
   .unfold Instr.findNow;have:Instr.sameNow (.int kd) k ek=none:=by
     rcases e with rfl|rfl
     .rfl
     .cases k<;>rfl
    rw[this]
   .unfold Instr.findAsking;exact Leaves.bind (akr ht e) λ_ h=>h.elim
end
section
variable {P P':Program} {ρ:Ren}
variable (T:Twin P P')
include T
end
end
section
open Go
section
variable {P P':Program} {ρ:Ren}
def awh(d:VR ρ x X)(a:VR ρ y V):aB P P' VR ρ (Builtin.max2 x y) (Builtin.max2 X V):=by
 cases d with
 |int k n=>cases a with
  |int p m=>exact aj (.int _ _)
  |pointer h=>cases h<;>exact .halt _ _
  |_=>exact .halt _ _
 |string s=>cases a with
  |string t=>
   unfold Builtin.max2;refine ai (jX .geq s t) λo v g l f=>ai (ad4 f) λi b c j e=> ?_;obtain rfl:b=c:=e;exact aj (.string _)
  |pointer h=>cases h<;>exact .halt _ _
  |_=>exact .halt _ _
 |pointer h=>cases h<;>cases a with
  |pointer h=>cases h<;>exact .halt _ _
  |_=>exact .halt _ _
 |_=>cases a with
  |pointer h=>cases h<;>exact .halt _ _
  |_=>exact .halt _ _
def awi(d:VR ρ x X)(a:VR ρ y V):aB P P' VR ρ (Builtin.min2 x y) (Builtin.min2 X V):=by
 cases d with
 |int k n=>cases a with
  |int p m=>exact aj (.int _ _)
  |pointer h=>cases h<;>exact .halt _ _
  |_=>exact .halt _ _
 |string s=>cases a with
  |string t=>
   unfold Builtin.min2;refine ai (jX .leq s t) λo v g l f=>ai (ad4 f) λi b c j e=> ?_;obtain rfl:b=c:=e;exact aj (.string _)
  |pointer h=>cases h<;>exact .halt _ _
  |_=>exact .halt _ _
 |pointer h=>cases h<;>cases a with
  |pointer h=>cases h<;>exact .halt _ _
  |_=>exact .halt _ _
 |_=>cases a with
  |pointer h=>cases h<;>exact .halt _ _
  |_=>exact .halt _ _
def ad9{f g:Value->Value->Sem Value}(e:∀(d:Ren) x c y j,VR d x c->VR d y j->aB P P' VR d (f x y) (g c j)):∀(l:List Value) {i:List Value} {ρ:Ren},bN ρ l i->∀{x c:Value},VR ρ x c->aB P P' VR ρ (l.foldlM f x) (i.foldlM g c)
 |[],_,_,.nil,_,_,h=>aj h
 |_::l,_,ρ,.cons a b,x,c,h=>by
  rw[List.foldlM_cons,List.foldlM_cons];exact ai (e _ _ _ _ _ h a) λd v n m k=>ad9 e l (b.mono m) k
def ax2(ts:Array TypeId)(t:TypeId){a : Array Value}(h:cQ ρ a Z):aB P P' VR ρ (Builtin.max_ ts t a) (Builtin.max_ ts t Z):=by
 unfold Builtin.max_;unfold cQ at h;revert h;generalize a.toList=l;generalize Z.toList=l';intro h;cases h with
 |nil=>exact .halt _ _
 |cons x y=>exact ad9 (λ_ _ _ _ _=>awh) _ y x
def ax3(ts:Array TypeId)(t:TypeId){a : Array Value}(h:cQ ρ a Z):aB P P' VR ρ (Builtin.min_ ts t a) (Builtin.min_ ts t Z):=by
 unfold Builtin.min_;unfold cQ at h;revert h;generalize a.toList=l;generalize Z.toList=l';intro h;cases h with
 |nil=>exact .halt _ _
 |cons x y=>exact ad9 (λ_ _ _ _ _=>awi) _ y x
def adx(t:TypeId):Leaves P (λ_=>True) (typeInfo t):=by
 show Leaves P (λ_=>True) (match P.info? t with|some i=>pure i|none=>stuck "no such type");split<;>trivial
def aa5(t:TypeId):Leaves P (λ_=>True) (underlying t):=by
 show Leaves P (λ_=>True) (match P.underlying t with|some i=>pure i|none=>stuck "no such type");split<;>trivial
def aac(t:TypeId):Leaves P (λ_=>True) (elemOf t):=by
 unfold elemOf;refine Leaves.bind (aa5 t) λd _=> ?_;split<;>trivial
def aad(t:TypeId)(v:Value):Leaves P (λ_=>True) (newVar t v):=by
 unfold newVar newRow;exact⟨λd l e=>(by cases e),λr=>trivial⟩
def nB:Leaves P (λ_=>True) program:=trivial
def aea(t:TypeId):Leaves P (λ_=>True) (typeStr t):=by
 unfold typeStr;refine Leaves.bind (adx t) λi _=> ?_;dsimp only;split<;>trivial
def ady:Leaves P (λ_=>True) Instr.panicnil:=by
 unfold Instr.panicnil;intro r;cases r<;>trivial
def dQ(e:RuntimeError) :js P (runtimePanic e:Sem W):=by
 unfold runtimePanic;refine fC nB λp=> ?_;cases e with
 |typeAssertion=>exact fC (aac _) λ_=>fC (aad _ _) λ_=>dZ _
 |panicNil=>exact fC (aac _) λ_=>fC (aad _ _) λ_=>dZ _
 |_=>exact dZ _
def as2(x:Value)(s:Sem Value):aB P P' VR ρ (Instr.panic x) s:=by
 cases x with
 |iface t v=>exact .halt _ _
 |nilIface=>
  refine .dead ?_ _;refine fC ady λn=> ?_;split
  .exact dZ _
  .exact dQ _
 |_=>exact .halt _ _
end
section
variable {P P':Program} {ρ:Ren}
variable (T:Twin P P')
include T
theorem as3(t:TypeId)(h:VR ρ x X):aB P P' VR ρ (Instr.range t x) (Instr.range t X):=by
 unfold Instr.range;refine ai (aC T t) λq d n l hd=> ?_;obtain⟨rfl,hd⟩:=hd;replace h:=h.mono l;have fin:∀{f:Ren} {o g:Obj},OR f o g->aB P P' VR f (do pure (.pointer (some ⟨<-newObj o,0,none⟩))) (do pure (.pointer (some ⟨<-newObj g,0,none⟩))):=λb=>
  ai (afV b) λ_ r m _ i=>aj (.pointer (.some (.mk i 0 none)))
 cases d with
 |string=>cases h with
  |string s=>exact fin (.stringIter s 0)
  |_=>exact .halt _ _
 |map k e=>cases h with
  |map a=>cases a with
   |none=>exact fin (.mapIter .none 0 #[] 0)
   |some a=>
    refine ai (ed a) λf o g j b=> ?_;cases b with
    |map p c=>exact fin (.mapIter (.some (j.r a)) c #[] c)
    |_=>exact .halt _ _
  |_=>exact .halt _ _
 |_=>cases h<;>exact .halt _ _
end
end
section
open Go
section
variable {P P':Program} {ρ:Ren}
inductive ONR (ρ:Ren):Option (Addr×Bool)->Option (Addr×Bool)->Prop
 |none:ONR ρ none none
 |some {a a':Addr} (h:AR ρ a a') (l:Bool):ONR ρ (some (a,l)) (some (a',l))
def aeb(h:ρ.r r R):aB P P' ONR ρ (numberAt r) (numberAt R):=by
 unfold numberAt;refine ai (kO h) λi s a c e=> ?_;obtain rfl:s=a:=e;cases s with
 |some z=>exact aj .none
 |none=>
  refine ai (ed (c.r h)) λd o g f b=> ?_;cases b with
  |number h l=>exact aj (.some h l)
  |_=>exact aj .none
def aa6(h:ρ.r r R):aB P P' (λ_ a b=>a=none/\b=none) ρ (viewAt r) (viewAt R):=by
 unfold viewAt;refine ai (kO h) λk s c f e=> ?_;obtain rfl:s=c:=e;cases s with
 |some z=>exact aj ⟨rfl,rfl⟩
 |none=>
  refine ai (ed (f.r h)) λg o j i d=> ?_;cases d<;>exact aj ⟨rfl,rfl⟩
def aec(h:AR ρ a Y):aB P P' iF ρ (noView a) (noView Y):=by
 unfold noView;obtain⟨b,o,s⟩:=h;refine ai (aa6 b) λf x c d e=> ?_;obtain⟨rfl,rfl⟩:=e;exact aj rfl
def lO(h:AR ρ a Y):aB P P' (λd p b=>AR d p.1 b.1/\p.2=b.2) ρ (behindNumber a) (behindNumber Y):=by
 unfold behindNumber;obtain⟨c,o,s⟩:=h;refine ai (aeb c) λd x g f e=> ?_;cases e with
 |none=>exact aj ⟨.mk (f.r c) o s,rfl⟩
 |some h l=>exact aj ⟨h,rfl⟩
variable (T:Twin P P')
include T
theorem adQ(t:TypeId):P'.cellsOf t=P.cellsOf t:=by unfold Program.cellsOf;rw[T.info]
theorem amN(t:TypeId):P'.bytesOf t=P.bytesOf t:=by unfold Program.bytesOf;rw[T.info]
theorem aa7:∀(d:Nat) (t:TypeId) (n:Nat),byteOfCell P' d t n=byteOfCell P d t n
 |0,_,_=>rfl
 |d+1,t,n=>by
  unfold byteOfCell;rw[T.under];simp only[adQ T,amN T,aa7 d]
theorem nC(h:AR ρ a Y):aB P P' iF ρ (byteOf a) (byteOf Y):=by
 obtain⟨c,o,s⟩:=h;unfold byteOf;cases s with
 |some s=>exact aj rfl
 |none=>
  refine ai cR λl p q d f=> ?_;obtain⟨rfl,rfl⟩:=f;refine ai (aec (.mk (d.r c) o none)) λj _ _ g _=> ?_;refine ai (kO ((d.trans g).r c)) λm z i k e=> ?_;obtain rfl:z=i:=e;cases z with
  |none=>exact .halt _ _
  |some z=>
   obtain⟨e,n⟩:=z;dsimp only;rw[adQ T,amN T,T.depth,aa7 T];refine aQ (λ_=>aj rfl) λ_=> ?_;cases byteOfCell p p.depth e (o % p.cellsOf e) with
   |none=>exact .halt _ _
   |some b=>exact aj rfl
theorem aa8(G:Nat)(t:TypeId)(J:IntKind)(N:P.underlying t=some (.int J))(j:VR ρ x X)(f:VR ρ y V):aB P P' iF ρ (Op.equalIn (G+1) t x y) (Op.equalIn (G+1) t X V):=by
 unfold Op.equalIn;refine ai (aC T t) λσ d d' M hd=> ?_;obtain⟨rfl,hd⟩:=hd;obtain rfl:d=.int J:=dj (hd.symm.trans N);replace j:=j.mono M;replace f:=f.mono M;cases j with
 |int k n=>cases f with
  |int k2 m=>exact aQ (λ_=>aj rfl) (λ_=>.halt _ _)
  |pointer h=>cases h with
   |none=>exact .halt _ _
   |some h=>
    by_cases e:n=0
    .subst e;exact aj rfl
    .refine .dead ?_ _;split<;>first|exact dZ _|(exfalso;simp_all)
  |_=>exact .halt _ _
 |pointer j=>cases j with
  |none=>cases f<;>exact .halt _ _
  |some j=>cases f with
   |int k m=>
    by_cases e:m=0
    .subst e;exact aj rfl
    .refine .dead ?_ _;split<;>first|exact dZ _|(exfalso;simp_all)
   |pointer f=>cases f with
    |none=>exact .halt _ _
    |some f=>
     refine ai (lO j) λτ p p' A c=> ?_;refine ai (lO (f.mono A)) λυ q U R g=> ?_;obtain⟨c, -⟩:=c;obtain⟨g, -⟩:=g;obtain⟨a,l⟩:=p;obtain⟨v,l'⟩:=p';obtain⟨b,m⟩:=q;obtain⟨I,m'⟩:=U;replace c:=c.mono R;dsimp only at c g ⊢;refine ai cR λs z z' L Q=> ?_;obtain⟨rfl,rfl⟩:=Q;rw[T.globals.1,T.globals.2];replace c:=c.mono L;replace g:=g.mono L;have O:(a.block ==b.block)=(v.block ==I.block):=by
      obtain⟨o,K,H⟩:=c;obtain⟨r,Z,Y⟩:=g;rw[oi];simp only[mx];exact⟨λe=>by subst e;exact s.fn o r,λe=>by subst e;exact s.inj o r⟩
     have W:decide (a.block<gN)=decide (v.block<gN):=by
      obtain⟨o,K,H⟩:=c;exact sY.2 (s.jc o)
     have S:(a ==b)=(v ==I):=by
      rw[oi];simp only[mx];obtain⟨o,K,H⟩:=c;obtain⟨r,Z,Y⟩:=g;constructor
      .intro e;injection e with C w E
       subst C w E;rw[s.fn o r]
      .intro e;injection e with C w E
       subst C w E;rw[s.inj o r]
     rw[O,W,S];refine aQ (λ_=> ?_) λ_=> ?_
     .refine ai (nC T c) λF u D B e=> ?_;obtain rfl:u=D:=e;refine ai (nC T (g.mono B)) λF u D B e=> ?_;obtain rfl:u=D:=e;exact aj rfl
     .refine ai (cI T t) λF i i' B e=> ?_;obtain⟨rfl,_⟩:=e;split
      .exact aQ (λ_=>aj rfl) λ_=>.halt _ _
      .exact .halt _ _
   |_=>exact .halt _ _
 |_=>cases f<;>exact .halt _ _
theorem aks(t:TypeId)(a:IntKind)(c:P.underlying t=some (.int a))(d:VR ρ x X)(b:VR ρ y V):aB P P' iF ρ (Op.equal t x y) (Op.equal t X V):=by
 unfold Op.equal Op.maxDepth;exact aa8 T 9999 t a c d b
end
end
section
open Go
section
variable {P P':Program} {ρ:Ren}
variable (T:Twin P P')
include T
theorem aa9(t:TypeId)(c:IntKind)(f:P.underlying t=some (.int c)):∀(l:List MapEntry) {d:List MapEntry} {ρ:Ren} {k g:Value},VR ρ k g->lK ρ l d->∀i,aB P P' FdR ρ (Instr.findAsking t k l i) (Instr.findAsking t g d i)
 |[],_,_,_,_,_,.nil,_=>aj .none
 |_::l,_,ρ,_,_,hk,.cons (.mk h1 h2 b) y,i=>by
  unfold Instr.findAsking;refine ai (aks T t c f hk h1) λm x j a e=> ?_;obtain rfl:x=j:=e;exact aQ (λ_=>aj (.some i (h2.mono a))) λ_=>aa9 t c f l (hk.mono a) (y.mono a) (i+1)
theorem afZ(t:TypeId)(a:IntKind)(e:P.underlying t=some (.int a)){l l':List MapEntry}(f:VR ρ k k')(g:lK ρ l l'):aB P P' FdR ρ (Instr.findKey t k l) (Instr.findKey t k' l'):=by
 unfold Instr.findKey;refine ai (aC T t) λm d j b hd=> ?_;obtain⟨rfl,hd⟩:=hd;obtain rfl:d=.int a:=dj (hd.symm.trans e);refine Or.elim (afY e (f.mono b) (g.mono b) 0) (λh=> ?_) (λ⟨i,c⟩=>by rw[i];exact .dead c _);revert h;generalize Instr.findNow (.int a) k l 0=r;generalize Instr.findNow (.int a) k' l' 0=r';intro h;cases h with
 |none=>exact aa9 T t a e l (f.mono b) (g.mono b) 0
 |some h=>exact aj h
theorem aed(b:Bool)(n:Nat)(t:TypeId)(a:IntKind)(c:P.underlying t=some (.int a))(k k':Value):aB P P' iF ρ (Instr.checkKey b (n+1) t k) (Instr.checkKey b (n+1) t k'):=by
 unfold Instr.checkKey;refine ai (aC T t) λg d e f hd=> ?_;obtain⟨rfl,hd⟩:=hd;obtain rfl:d=.int a:=dj (hd.symm.trans c);exact aj rfl
theorem apY(t:TypeId)(F:∀k e,P.underlying t=some (.map k e)->∃s,P.underlying k=some (.int s))(E:VR ρ x X)(D:VR ρ i V)(l:Bool):aB P P' VR ρ (Instr.lookup t x i l) (Instr.lookup t X V l):=by
 unfold Instr.lookup;refine ai (aC T t) λσ d Q H hd=> ?_;obtain⟨rfl,hd⟩:=hd;replace E:=E.mono H;replace D:=D.mono H;cases d with
 |map f g=>
  obtain⟨s,p⟩:=F _ _ hd;have fin:∀{q:Ren} {m c:Array MapEntry},σ.Le q->lK q m.toList c.toList->aB P P' VR q
    (do
     Instr.checkKey m.isEmpty 10000 f i
     let(v,k)<-match<-Instr.findKey f i m.toList with
      |some (_,v)=>pure (v,true)
      |none=>pure (<-zeroValue g,false)
     pure (if l then .tuple #[v,.bool k] else v))
    (do
     Instr.checkKey c.isEmpty 10000 f V
     let(v,k)<-match<-Instr.findKey f V c.toList with
      |some (_,v)=>pure (v,true)
      |none=>pure (<-zeroValue g,false)
     pure (if l then .tuple #[v,.bool k] else v)):=λ{q m c} y n=>by
   have B:m.isEmpty=c.isEmpty:=by
    rw[<-ry,<-ry];revert n;generalize m.toList=a;generalize c.toList=b;intro n;cases n<;>rfl
   rw[B];refine ai (aed T _ _ f s p i V) λN _ _ G _=> ?_;refine ai (afZ T f s p (D.mono (y.trans G)) (n.mono G)) λK r L O C=> ?_;have last:∀{A:Ren} {v w:Value} (b:Bool),VR A v w->aB P P' VR A (pure (if l then .tuple #[v,.bool b] else v)) (pure (if l then .tuple #[w,.bool b] else w)):=λb u=>by
    cases l
    .exact aj u
    .exact aj (.tuple (.cons u (.cons (.bool b) .nil)))
   cases C with
   |none=>exact ai (nz T g) λA z M _ I=>last false I
   |some j u=>exact last true u
  cases E with
  |map F=>cases F with
   |none=>exact fin (Ren.Le.refl _) .nil
   |some C=>
    refine ai (ed C) λq o R y J=> ?_;cases J with
    |map n k=>exact fin y n
    |_=>exact .halt _ _
  |_=>exact .halt _ _
 |_=>exact .halt _ _
end
end
section
open Go
def AR.eq_iff{ρ:Ren}(j:AR ρ a Y)(k:AR ρ b b'):(a ==b)=(Y ==b'):=by
 rw[oi];simp only[mx];obtain⟨i,o,l⟩:=j;obtain⟨g,n,m⟩:=k;constructor
 .intro e;injection e with c f d
  subst c f d;rw[ρ.fn i g]
 .intro e;injection e with c f d
  subst c f d;rw[ρ.inj i g]
def OAR.eq_iff{ρ:Ren}{a b b' : Option Addr}(d:OAR ρ a Q)(c:OAR ρ b b'):(a ==b)=(Q ==b'):=by
 cases d with
 |none=>cases c<;>rfl
 |some d=>cases c with
  |none=>rfl
  |some c=>exact AR.eq_iff d c
def NR.eq_iff{ρ:Ren}{a b b' : Option Nat}(d:NR ρ a H)(c:NR ρ b b'):(a ==b)=(H ==b'):=by
 rw[oi];simp only[mx];cases d with
 |none=>cases c<;>simp
 |some d=>cases c with
  |none=>simp
  |some c=>
   simp only[lw];exact⟨λe=>by subst e;exact ρ.fn d c,λe=>by subst e;exact ρ.inj d c⟩
def ave{ρ:Ren}{f:Value->Value->Bool}(c:∀x i y g,VR ρ x i->VR ρ y g->f x y=true->f i g=true):∀{a d b e:List Value},bN ρ a d->bN ρ b e->((a.zip b).all λ(x,y)=>f x y)=true->((d.zip e).all λ(x,y)=>f x y)=true
 |_,_,_,_,.nil,_,_=>rfl
 |_,_,_,_,.cons _ _,.nil,_=>rfl
 |_,_,_,_,.cons x y,.cons u v,h=>by
  rw[List.zip_cons_cons,pQ,fb] at h ⊢;exact⟨c _ _ _ _ x u h.1,ave c y v h.2⟩
def akt{ρ:Ren}:∀(n:Nat) {x d y c:Value},VR ρ x d->VR ρ y c->Instr.sameBits n x y=true->Instr.sameBits n d c=true:=by
 intro n
 induction n with
 |zero=>
  intro x d y c b a;cases b with
  |pointer h=>cases a with
   |pointer k=>intro e;exact(OAR.eq_iff h k).symm.trans e
   |_=>intro e;cases e
  |chan h=>cases a with
   |chan k=>intro e;exact(NR.eq_iff h k).symm.trans e
   |_=>intro e;cases e
  |_=>cases a<;>first|exact id|(intro e;cases e;done)
 |succ n f=>
  intro x d y c b a;cases b with
  |agg b=>
   cases a with
   |agg a=>
    unfold Instr.sameBits;rw[bN.size b,bN.size a,fb,fb];exact λh=>⟨h.1,ave (λ_ _ _ _=>f) b a h.2⟩
   |_=>intro e;cases e
  |iface t b=>cases a with
   |iface u a=>
    unfold Instr.sameBits;rw[fb,fb];exact λh=>⟨h.1,f b a h.2⟩
   |_=>intro e;cases e
  |pointer h=>cases a with
   |pointer k=>intro e;exact(OAR.eq_iff h k).symm.trans e
   |_=>intro e;cases e
  |chan h=>cases a with
   |chan k=>intro e;exact(NR.eq_iff h k).symm.trans e
   |_=>intro e;cases e
  |_=>cases a<;>first|exact id|(intro e;cases e;done)
def lK.push{ρ:Ren}{a : Array MapEntry}(h:lK ρ a.toList O.toList){e e':MapEntry}(k:ER ρ e e'):lK ρ (a.push e).toList (O.push e').toList:=by
 rw[qX,qX];revert h;generalize a.toList=l;generalize O.toList=l';intro h
 induction l generalizing l' with
 |nil=>cases h;exact .cons k .nil
 |cons x l b=>cases h with
  |cons u v=>exact .cons u (b _ v)
def lK.modify{ρ:Ren}{a : Array MapEntry}(h:lK ρ a.toList O.toList)(i:Nat){f f':MapEntry->MapEntry}(c:∀e b,ER ρ e b->ER ρ (f e) (f' b)):lK ρ (a.modify i f).toList (O.modify i f').toList:=by
 rw[vD,vD];revert h;generalize a.toList=l;generalize O.toList=l';intro h
 induction l generalizing l' i with
 |nil=>cases h;simpa using .nil
 |cons x l d=>cases h with
  |cons u v=>cases i with
   |zero=>exact .cons (c _ _ u) v
   |succ i=>exact .cons u (d i _ v)
def lK.at{ρ:Ren}{a : Array MapEntry}(h:lK ρ a.toList O.toList)(i:Nat)(c:VR ρ k k'):VR ρ (((a[i]?).map (·.key)).getD k) (((O[i]?).map (·.key)).getD k'):=by
 rw[<-ef,<-ef];revert h;generalize a.toList=l;generalize O.toList=l';intro h
 induction l generalizing l' i with
 |nil=>cases h;simpa using c
 |cons x l d=>cases h with
  |cons u v=>cases i with
   |zero=>cases u with
    |mk e f b=>simpa using e
   |succ i=>simpa using d i _ v
section
variable {P P':Program} {ρ:Ren}
def aee(f:VR ρ x X)(a:VR ρ y V):aB P P' VR ρ (Instr.keyThatStays x y) (Instr.keyThatStays X V):=by
 unfold Instr.keyThatStays;by_cases b:Instr.sameBits 10000 x y=true
 .rw[dl b,dl (akt 10000 f a b)];exact aj a
 rw[bd b];by_cases d:Instr.sameBits 10000 X V=true
 .rw[dl d];refine aB.aa2 (.extern "map.whichKeyStays" 2) 0 rfl ?_;exact aj a
 rw[bd d];refine ai (fR _) λi n g c e=> ?_;obtain rfl:n=g:=e;by_cases e:n=0
 .rw[dl e,dl e];exact aj (a.mono c)
 .rw[bd e,bd e];exact aj (f.mono c)
variable (T:Twin P P')
include T
theorem acS(t:TypeId)(I:∀k e,P.underlying t=some (.map k e)->∃q,P.underlying k=some (.int q))(B:VR ρ x X)(l:VR ρ i V)(u:VR ρ v v'):aB P P' iF ρ (Instr.mapUpdate t x i v) (Instr.mapUpdate t X V v'):=by
 unfold Instr.mapUpdate;refine ai (aC T t) λU d R A hd=> ?_;obtain⟨rfl,hd⟩:=hd;replace B:=B.mono A;replace l:=l.mono A;replace u:=u.mono A;cases d with
 |map p E=>
  obtain⟨q,m⟩:=I _ _ hd;cases B with
  |map y=>cases y with
   |none=>exact .dead (dQ _) _
   |some z=>
    refine ai (ed z) λS o W D H=> ?_;cases H with
    |map w c=>
     refine ai (aed T _ _ p q m i V) λL _ _ g _=> ?_;refine ai (afZ T p q m (l.mono (D.trans g)) (w.mono g)) λK r J s G=> ?_;have f:=D.trans (g.trans s);cases G with
     |none=>exact ie (f.r z) (.map ((w.mono (g.trans s)).push (.mk (l.mono f) (u.mono f) c)) _)
     |some j Q=>
      refine ai (aee ((w.mono (g.trans s)).at j (l.mono f)) (l.mono f)) λM k O C F=> ?_;refine ie ((f.trans C).r z) (.map ((w.mono (g.trans (s.trans C))).modify j λe N h=> ?_) _);cases h with
      |mk a b n=>exact .mk F (u.mono (f.trans C)) n
    |_=>exact .halt _ _
  |_=>exact .halt _ _
 |_=>exact .halt _ _
end
end
section
open Go
def lK.filter{ρ:Ren}(p:Nat->Bool):∀{l l':List MapEntry},lK ρ l l'->lK ρ (l.filter λe=>p e.born) (l'.filter λe=>p e.born)
 |_,_,.nil=>.nil
 |_,_,.cons (v:=v) (v':=v') (l:=l) (l':=l') h y=>by
  have a:v.born=v'.born:=by cases h;rfl
  rw[rh,rh,a];split
  .exact .cons h (lK.filter p y)
  .exact lK.filter p y
def lK.all{ρ:Ren}(p:Nat->Bool):∀{l l':List MapEntry},lK ρ l l'->(l.all λe=>p e.born)=(l'.all λe=>p e.born)
 |_,_,.nil=>rfl
 |_,_,.cons (v:=v) (v':=v') (l:=l) (l':=l') h y=>by
  have a:v.born=v'.born:=by cases h;rfl
  rw[pQ,pQ,a,lK.all p y]
def lK.len{ρ:Ren}:∀{l a:List MapEntry},lK ρ l a->l.length=a.length
 |_,_,.nil=>rfl
 |_,_,.cons _ y=>by simp[y.len]
def lK.app{ρ:Ren}:∀{l b:List MapEntry},lK ρ l b->∀{m a:List MapEntry},lK ρ m a->lK ρ (l++m) (b++a)
 |_,_,.nil,_,_,h=>h
 |_,_,.cons x y,_,_,h=>.cons x (y.app h)
def lK.get{ρ:Ren}:∀{l a:List MapEntry},lK ρ l a->∀i:Nat,(l[i]?=none/\a[i]?=none)\/∃e b,l[i]?=some e/\a[i]?=some b/\ER ρ e b
 |_,_,.nil,_=>.inl ⟨rfl,rfl⟩
 |_,_,.cons x _,0=>.inr ⟨_,_,rfl,rfl,x⟩
 |_,_,.cons _ y,i+1=>by simpa using y.get i
inductive OER (ρ:Ren):Option MapEntry->Option MapEntry->Prop
 |none:OER ρ none none
 |some {e e':MapEntry} (h:ER ρ e e'):OER ρ (some e) (some e')
def awj{ρ:Ren}(b:Bool){a : Array MapEntry}(h:lK ρ a.toList O.toList)(n:Nat) :
  (((if b then #[none] else #[])++a.map some)[n]?=none/\((if b then #[none] else #[])++O.map some)[n]?=none)\/∃e c,((if b then #[none] else #[])++a.map some)[n]?=some e/\((if b then #[none] else #[])++O.map some)[n]?=some c/\OER ρ e c:=by
 have d:∀i:Nat,((a.map some)[i]?=none/\(O.map some)[i]?=none)\/∃e c,(a.map some)[i]?=some e/\(O.map some)[i]?=some c/\OER ρ e c:=λi=>by
  rw[qC,qC,<-ef,<-ef];rcases h.get i with⟨g,f⟩|⟨e,c,g,f,j⟩
  .rw[g,f];exact .inl ⟨rfl,rfl⟩
  .rw[g,f];exact .inr ⟨_,_,rfl,rfl,.some j⟩
 cases b with
 |false=>simpa using d n
 |true=>
  cases n with
  |zero=>exact .inr ⟨none,none,by simp[rS],by simp[rS],.none⟩
  |succ n=>
   have k:∀x:Array (Option MapEntry),(#[none]++x)[n+1]?=x[n]?:=λx=>by simp[rS]
   simp only[mT,k];exact d n
section
variable {P P':Program} {ρ:Ren}
def awk(h:VR ρ x X)(b:Bool)(t:TypeId):aB P P' VR ρ (Instr.next x b t) (Instr.next X b t):=by
 unfold Instr.next
 cases h with
 |pointer h=>cases h with
  |none=>exact .halt _ _
  |some h=>
   obtain⟨A,o,s⟩:=h;cases o with
   |succ n=>exact .halt _ _
   |zero=>
    refine ai (ed A) λS q M F w=> ?_;cases w with
    |stringIter s p=>cases b with
     |false=>exact .halt _ _
     |true=>
      refine aQ (λ_=> ?_) λ_=>aj (.tuple (.cons (.bool _) .nil));exact ai (ie (F.r A) (.stringIter _ _)) λ_ _ _ _ _=>aj (.tuple (.cons (.bool _) (.cons (.int _ _) (.cons (.int _ _) .nil))))
    |mapIter l c d last=>cases b with
     |true=>cases l<;>exact .halt _ _
     |false=>cases l with
      |none=>exact aj (.tuple (.cons (.bool _) .nil))
      |some l=>
       refine ai (ed l) λR q M D w=> ?_;cases w with
       |@map k f m B=>
        have J:k.isEmpty=f.isEmpty:=by
         rw[<-ry,<-ry];revert m;generalize k.toList=a;generalize f.toList=b;intro m;cases m<;>rfl
        have K:(k.all λe=>decide (e.born>=last))=(f.all λe=>decide (e.born>=last)):=by
         rw[<-Array.all_toList,<-Array.all_toList];exact m.all λn=>decide (n>=last)
        have z:=m.filter λn=>!d.contains n;have j:=z.filter λn=>decide (n<c);have G:=z.filter λn=>decide (n>=c);simp only[<-Array.toList_filter] at z j G;dsimp only;rw[J,K];refine aQ (λ_=>.halt _ _) λ_=> ?_;have r:=j.app G;rw[<-nF,<-nF] at r;have C:(Array.filter (λe=>decide (e.born<c)) (Array.filter (λe=>!d.contains e.born) k)).isEmpty=(Array.filter (λe=>decide (e.born<c)) (Array.filter (λe=>!d.contains e.born) f)).isEmpty:=by
         rw[<-ry,<-ry];revert j;generalize Array.toList _=a;generalize Array.toList _=b;intro j;cases j<;>rfl
        rw[C];have g:=r.len;simp only[qJ] at g;revert r g;generalize Array.isEmpty _=bb;generalize Array.filter _ (Array.filter _ k)++_=c1;generalize Array.filter _ (Array.filter _ f)++_=c2;intro r g;rw[rA,rA,sd,sd,g];refine ai (fR _) λO n H u e=> ?_;obtain rfl:n=H:=e;rcases awj bb r n with⟨y,v⟩|⟨e,Q,y,v,i⟩
        .rw[y,v];exact .halt _ _
        .rw[y,v];cases i with
         |none=>exact aj (.tuple (.cons (.bool _) .nil))
         |some i=>
          obtain⟨I,L,T⟩:=i;exact ai (ie ((F.trans (D.trans u)).r A) (.mapIter (.some ((D.trans u).r l)) _ _ _)) λN _ _ E _=>aj (.tuple (.cons (.bool _) (.cons ((I.mono u).mono E) (.cons ((L.mono u).mono E) .nil))))
       |_=>exact .halt _ _
    |_=>cases b<;>exact .halt _ _
 |_=>exact .halt _ _
end
end
section
open Go
section
variable {P P':Program} {ρ:Ren}
def LeR(_:Ren)(b b':Bool):Prop:=b'=true->b=true
def aba(h:AR ρ a Y):aB P P' LeR ρ (frozen a) (frozen Y):=.frozen h λ_ _ b=>aj b
def acT(h:AR ρ a Y):aB P P' LeR ρ (stringish a) (stringish Y):=by
 obtain⟨c,o,s⟩:=h;unfold stringish;refine ai (aba (.mk c o s)) λk b f d e=> ?_;cases f with
 |true=>
  obtain rfl:=e rfl;exact aj λ_=>rfl
 |false=>
  cases b with
  |true=>
   refine aB.ag3 λz=> ?_;cases z with
   |none=>exact aj λ_=>rfl
   |some z=>exact aB.adP λb=>aj λ_=>rfl
  |false=>
   refine ai (kO (d.r c)) λj z i g e=> ?_;obtain rfl:z=i:=e;cases z with
   |none=>exact aj id
   |some z=>exact aba (.mk ((d.trans g).r c) _ none)
def aku(l:AR ρ a Y)(j:AR ρ b b'):aB P P' LeR ρ (mayBeOne a b) (mayBeOne Y b'):=by
 have c:∀{i:Ren} {a Y:Addr},AR i a Y->aB P P' iF i (do pure ((<-shape a.block) matches some (_,0)):Sem Bool) (do pure ((<-shape Y.block) matches some (_,0))):=λh=>by
  obtain⟨n,o,s⟩:=h;refine ai (kO n) λp z f d e=> ?_;obtain rfl:z=f:=e;exact aj rfl
 unfold mayBeOne;refine ai (acT l) λi x v g m=> ?_;refine ai (acT (j.mono g)) λp y t d r=> ?_;refine ai (c (l.mono (g.trans d))) λq z f k e=> ?_;obtain rfl:z=f:=e;refine ai (c (j.mono (g.trans (d.trans k)))) λq u w k e=> ?_;obtain rfl:u=w:=e;refine aj ?_;unfold LeR at m r ⊢;cases x<;>cases v<;>cases y<;>cases t<;>cases z<;>cases u<;>simp_all
def aef(f:AR ρ a Y)(d:AR ρ b b'):aB P P' iF ρ (sameAddr a b) (sameAddr Y b'):=by
 unfold sameAddr;have g:(a.block ==b.block)=(Y.block ==b'.block):=by
  obtain⟨k,G,J⟩:=f;obtain⟨c,F,D⟩:=d;rw[oi];simp only[mx];exact⟨λe=>by subst e;exact ρ.fn k c,λe=>by subst e;exact ρ.inj k c⟩
 rw[g,AR.eq_iff f d];refine aQ (λ_=>aj rfl) λ_=> ?_;refine ai (aba f) λK x m q r=> ?_;refine ai (aba (d.mono q)) λI y l t w=> ?_;have c:=q.trans t;by_cases j:(x&&y)=true
 .rw[dl j];exact .halt _ _
 have i:¬(m&&l)=true:=λe=>j (by
  unfold LeR at r w;cases x<;>cases m<;>cases y<;>cases l<;>simp_all)
 rw[bd j,bd i];refine ai (aec (f.mono c)) λC _ _ o _=> ?_;refine ai (aec (d.mono (c.trans o))) λA _ _ v _=> ?_;have p:=c.trans (o.trans v);refine ai (aku (f.mono p) (d.mono p)) λE z u L e=> ?_;cases u with
 |true=>
  obtain rfl:=e rfl;refine ai (fR _) λB n s H e=> ?_;obtain rfl:n=s:=e;exact aj rfl
 |false=>
  cases z with
  |false=>exact aj rfl
  |true=>exact aB.aa2 (.extern "sameAddr.stringBytes" 2) 0 rfl (.pure rfl)
end
end
section
open Go
inductive af0 {β δ:Type} (B:Ren->β->δ->Prop) (ρ:Ren):ForInStep β->ForInStep δ->Prop
 |done {b d} (h:B ρ b d):af0 B ρ (.done b) (.done d)
 |yield {b d} (h:B ρ b d):af0 B ρ (.yield b) (.yield d)
section
variable {P P':Program} {β δ:Type} {B:Ren->β->δ->Prop}
def nD{i:Type}:∀(l:List i) {ρ:Ren} {b:β} {d:δ} {f:i->β->Sem (ForInStep β)} {g:i->δ->Sem (ForInStep δ)},B ρ b d->
  (∀(e:Ren) a b d,ρ.Le e->a∈l->B e b d->aB P P' (af0 B) e (f a b) (g a d))->aB P P' B ρ (forIn l b f) (forIn l d g)
 |[],_,_,_,_,_,c,_=>by
  rw[tA,tA];exact aj c
 |a::l,ρ,_,_,f,g,c,hf=>by
  rw[tk,tk];refine ai (hf ρ a _ _ (Ren.Le.refl _) (by simp) c) λe s o m h=> ?_;cases h with
  |done h=>exact aj h
  |yield h=>exact nD l h λj a b d k n c=>hf j a b d (m.trans k) (by simp[n]) c
def abb (l:Array W) {ρ:Ren} {b:β} {d:δ} {f:W->β->Sem (ForInStep β)} {g:W->δ->Sem (ForInStep δ)} (j:B ρ b d)
  (e:∀(c:Ren) a b d,ρ.Le c->a∈l->B c b d->aB P P' (af0 B) c (f a b) (g a d)):aB P P' B ρ (forIn l b f) (forIn l d g):=by
 rw[<-sL,<-sL];exact nD l.toList j λc a b d k i=>e c a b d k (by simpa using i)
def abc (n:Nat) {ρ:Ren} {b:β} {d:δ} {f:Nat->β->Sem (ForInStep β)} {g:Nat->δ->Sem (ForInStep δ)} (i:B ρ b d)
  (e:∀(c:Ren) a b d,ρ.Le c->B c b d->aB P P' (af0 B) c (f a b) (g a d)):aB P P' B ρ (forIn [0:n] b f) (forIn [0:n] d g):=by
 rw[tf,tf];exact nD _ i λc a b d j _=>e c a b d j
end
end
section
open Go
def apZ{c:Prop}[Decidable c]{t : Sem W}(h:js P s)(k:js P t):js P (if c then s else t):=by
 split
 .exact h
 .exact k
section
variable {P P':Program} {ρ:Ren}
variable (T:Twin P P')
include T
theorem oC:∀(d:Nat) {ρ:Ren} (t:TypeId) {x J y I:Value},VR ρ x J->VR ρ y I->aB P P' iF ρ (Op.equalIn d t x y) (Op.equalIn d t J I)
 |0,_,_,_,_,_,_,_,_=>.halt _ _
 |d+1,ρ,t,x,J,y,I,j,g=>by
  by_cases C:∃s,P.underlying t=some (.int s)
  .obtain⟨s,C⟩:=C;exact aa8 T d t s C j g
  unfold Op.equalIn;refine ai (aC T t) λσ u u' N hd=> ?_;obtain⟨rfl,hd⟩:=hd;replace j:=j.mono N;replace g:=g.mono N;cases u with
  |int s=>exact absurd ⟨s,hd⟩ C
  |bool=>cases j<;>cases g<;>first|exact aj rfl|exact .halt _ _
  |string=>cases j<;>cases g<;>first|exact aj rfl|exact .halt _ _
  |float k=>cases j<;>cases g<;>first|exact aQ (λ_=>aj rfl) (λ_=>.halt _ _)|exact .halt _ _
  |complex k=>cases j<;>cases g<;>first|exact aQ (λ_=>aj rfl) (λ_=>.halt _ _)|exact .halt _ _
  |struct Z=>cases j with
   |agg j=>cases g with
    |agg g=>
     refine ai cR λA p p' l q=> ?_;obtain⟨e1,X⟩:=q;rw[e1,X,T.stood];refine aQ (λ_=>.halt _ _) λ_=> ?_;refine ai (abb (B:=iF) Z (rfl:iF A (none,()) (none,())) λD f r o w _ _=> ?_) λD r o w e=> ?_
     .have v:=l.trans w;refine aQ (λ_=> ?_) λ_=>aj (.yield rfl);refine ai (lv T f.type (bN.mono v j) f.offset) λW a H M K=> ?_;refine ai (lv T f.type (bN.mono (v.trans M) g) f.offset) λV b S F E=> ?_;refine ai (oC d f.type (K.mono F) E) λR q L _ e=> ?_;obtain rfl:q=L:=e;exact aQ (λ_=>aj (.done rfl)) λ_=>aj (.yield rfl)
     .obtain rfl:r=o:=e;obtain⟨_|q,u⟩:=r<;>exact aj rfl
    |_=>exact .halt _ _
   |_=>cases g<;>exact .halt _ _
  |array n e=>cases j with
   |agg j=>cases g with
    |agg g=>
     refine ai (dP T e) λA z G l q=> ?_;obtain rfl:z=G:=q;refine ai (abc (B:=iF) n (rfl:iF A (none,()) (none,())) λD f r o w _=> ?_) λD r o w e=> ?_
     .have v:=l.trans w;refine ai (lv T e (bN.mono v j) (f*z)) λW a H M K=> ?_;refine ai (lv T e (bN.mono (v.trans M) g) (f*z)) λV b S F E=> ?_;refine ai (oC d e (K.mono F) E) λR q L _ e=> ?_;obtain rfl:q=L:=e;exact aQ (λ_=>aj (.done rfl)) λ_=>aj (.yield rfl)
     .obtain rfl:r=o:=e;obtain⟨_|q,u⟩:=r<;>exact aj rfl
    |_=>exact .halt _ _
   |_=>cases g<;>exact .halt _ _
  |interface ms=>cases j with
   |nilIface=>cases g<;>first|exact aj rfl|exact .halt _ _
   |iface O j=>cases g with
    |nilIface=>exact aj rfl
    |iface ty g=>
     refine aQ (λ_=>aj rfl) λ_=> ?_;refine ai (cI T O) λA i i' l q=> ?_;obtain⟨rfl,_⟩:=q;refine aQ (λ_=> ?_) λ_=>oC d O (j.mono l) (g.mono l);refine .dead (fC nB λp=> ?_) _;refine apZ (dZ _) (fC (aea _) λ_=>dQ _)
    |_=>exact .halt _ _
   |_=>cases g<;>exact .halt _ _
  |pointer e=>cases j with
   |pointer h=>cases h with
    |none=>cases g with
     |pointer k=>cases k<;>exact aj rfl
     |_=>exact .halt _ _
    |some h=>cases g with
     |pointer k=>cases k with
      |none=>exact aj rfl
      |some k=>
       refine ai (dP T e) λA z G l q=> ?_;obtain rfl:z=G:=q;refine aQ (λ_=>aef (h.mono l) (k.mono l)) λ_=> ?_;rw[AR.eq_iff h k];refine aQ (λ_=>aj rfl) λ_=>ai (fR _) λυ n Q hu q=> ?_;obtain rfl:n=Q:=q;exact aj rfl
     |_=>exact .halt _ _
   |_=>cases g<;>exact .halt _ _
  |unsafePointer=>cases j with
   |pointer h=>cases g with
    |pointer k=>cases h with
     |none=>cases k<;>exact aj rfl
     |some h=>cases k with
      |none=>exact aj rfl
      |some k=>exact aef h k
    |_=>exact .halt _ _
   |_=>cases g<;>exact .halt _ _
  |chan a b=>cases j with
   |chan h=>cases g with
    |chan k=>
     exact aj (NR.eq_iff h k)
    |_=>exact .halt _ _
   |_=>cases g<;>exact .halt _ _
  |slice e=>cases j with
   |slice h n c=>cases h with
    |none=>cases g with
     |slice k m c=>cases k<;>exact aj rfl
     |empty Y U H=>exact aj rfl
     |_=>exact .halt _ _
    |some h=>cases g with
     |slice k m c=>cases k with
      |none=>exact aj rfl
      |some k=>exact .halt _ _
     |_=>exact .halt _ _
   |empty Y U H=>cases g with
    |slice k m c=>cases k with
     |none=>exact aj rfl
     |some k=>exact .halt _ _
    |_=>exact .halt _ _
   |_=>cases g<;>exact .halt _ _
  |map k e=>cases j with
   |map h=>cases h with
    |none=>cases g with
     |map k=>cases k<;>exact aj rfl
     |_=>exact .halt _ _
    |some h=>cases g with
     |map k=>cases k with
      |none=>exact aj rfl
      |some k=>exact .halt _ _
     |_=>exact .halt _ _
   |_=>cases g<;>exact .halt _ _
  |func a b c=>cases j with
   |nilFunc=>cases g<;>first|exact aj rfl|exact .halt _ _
   |func=>cases g<;>first|exact aj rfl|exact .halt _ _
   |aa1=>cases g<;>first|exact aj rfl|exact .halt _ _
   |_=>cases g<;>exact .halt _ _
  |_=>exact .halt _ _
end
end
section
open Go
section
variable {P P':Program} {ρ:Ren}
def aeg{β:Type}{f f':Value->β->Sem (ForInStep β)}:∀{l e:List Value} {ρ:Ren},(∀(c:Ren) v b s,ρ.Le c->VR c v b->aB P P' (af0 iF) c (f v s) (f' b s))->bN ρ l e->∀s,aB P P' iF ρ (forIn l s f) (forIn e s f')
 |_,_,_,_,.nil,s=>by rw[tA,tA];exact aj rfl
 |_,_,ρ,hf,.cons x y,s=>by
  rw[tk,tk];refine ai (hf ρ _ _ s (Ren.Le.refl _) x) λc a k d h=> ?_;cases h with
  |done h=>exact aj h
  |yield h=>
   obtain rfl:=h;exact aeg (λg v b s i j=>hf g v b s (d.trans i) j) (bN.mono d y) _
def adz(h:VR ρ x X):aB P P' VR ρ (Conv.bytesToString x) (Conv.bytesToString X):=by
 unfold Conv.bytesToString;cases h with
 |slice h l c=>
  cases h with
  |none=>exact aj (.string _)
  |some h=>
   refine ai (nA h l) λq c j o g=> ?_;refine ai (A:=iF) ?_ λb s a d e=> ?_
   .rw[<-sL,<-sL];refine aeg (λb v i s d f=> ?_) g ByteArray.empty;cases f with
    |int k n=>cases k<;>first|exact aj (.yield rfl)|exact .halt _ _
    |_=>exact .halt _ _
   .obtain rfl:s=a:=e;exact aj (.string _)
 |empty m p r=>exact aj (.string ByteArray.empty)
 |_=>exact .halt _ _
variable (T:Twin P P')
include T
omit T in
theorem adA(e:TypeId)(s:ByteArray):aB P P' VR ρ (Conv.stringToBytes e s) (Conv.stringToBytes e s):=by
 unfold Conv.stringToBytes;refine ai (fR _) λf n c l q=> ?_;obtain rfl:n=c:=q;refine aB.asR (P:=P) (P':=P') (A:=VR) (ρ:=f) e (k:=λr=>Sem.pure (Value.slice (some ⟨r,0,none⟩) s.size n)) (k':=λr=>Sem.pure (Value.slice (some ⟨r,0,none⟩) s.size n)) (bN.jH λv a=> ?_) λi r g j d=>aB.pure (VR.slice (.some (.mk d 0 none)) _ _);simp only[nF,gt,Array.toList_replicate,List.mem_replicate] at a;rcases a with a|⟨_,rfl⟩
 .simp at a;obtain⟨b,_,rfl⟩:=a;exact .int _ _
 .exact .int _ _
omit T in
theorem abd(ts:Array TypeId)(f t:TypeId)(v:∀e,P.underlying f≠some (.pointer e)){a : Array Value}(h:cQ ρ a Z):aB P P' VR ρ (Builtin.unsafeSliceData_ ts f a) (Builtin.unsafeSliceData_ ts t Z):=by
 unfold Builtin.unsafeSliceData_;obtain⟨a⟩:=a;obtain⟨Z⟩:=Z;have h:bN ρ a Z:=h;cases h with
 |nil=>exact .halt _ _
 |cons y G=>
  cases G with
  |cons=>cases y<;>exact .halt _ _
  |nil=>
   cases y with
   |slice k l c=>
    cases k with
    |none=>exact aj (.pointer .none)
    |some k=>
     refine aQ (λ_=>aj (.pointer (.some k))) λ_=> ?_
     .obtain⟨n,o,s⟩:=k;refine ai (aa6 n) λQ x M N q=> ?_;obtain⟨rfl,rfl⟩:=q;refine .dead ?_ _;refine Leaves.bind (A:=λ_=>False) ?_ λ_ h=>h.elim;unfold elemOf;refine Leaves.bind (A:=λd=>∀e,d ≠ .pointer e) ?_ λd hd=> ?_
      .show Leaves P _ (match P.underlying f with|some i=>pure i|none=>stuck "no such type");cases p:P.underlying f with
       |none=>trivial
       |some d=>exact λe u=>v e (by rw[p,u])
      .cases d<;>first|trivial|exact absurd rfl (hd _)
   |@empty a _ n L Z=>
    refine aB.acR (λw J D g=> ?_) _;obtain⟨o,O,F, -,E⟩:=D.obj n;have m:∀{H:Type} (K:TypeId->Sem H),js P (elemOf f >>=K):=λK=>by
     refine Leaves.bind (A:=λ_=>False) ?_ λ_ h=>h.elim;unfold elemOf;refine Leaves.bind (A:=λd=>∀e,d ≠ .pointer e) ?_ λd hd=> ?_
     .show Leaves P _ (match P.underlying f with|some i=>pure i|none=>stuck "no such type");cases p:P.underlying f with
      |none=>trivial
      |some d=>exact λe u=>v e (by rw[p,u])
     .cases d<;>first|trivial|exact absurd rfl (hd _)
    have C:∀(w:World) (g:Array Event),∃h j b,Sem.runT P (elemOf f >>=λe=>newObj (.view a e) >>=λr=>(pure (Value.pointer (some ⟨r,0,none⟩)):Sem Value)) w g=(.halt h j,b)/\eI w j:=λw g=>Leaves.acR (m _) w g;show ∃h j b,Sem.runT P ((viewAt a.block).bind λx=>if x.isSome=true then pure (Value.pointer (some a)) else(elemOf f >>=λe=>newObj (.view a e) >>=λr=>pure (Value.pointer (some ⟨r,0,none⟩)))) w g=(.halt h j,b)/\eI w j;have I:(∃b,(viewAt a.block).runT P w g=(.ok none w,b))\/∃h b,(viewAt a.block).runT P w g=(.halt h w,b):=by
     unfold viewAt;show(∃b,(Sem.shape a.block λz=>(if z.isSome=true then(pure none:Sem (Option (Addr×TypeId))) else Sem.getObj a.block λo=>(match o with|.view a t=>pure (some (a,t))|_=>pure none))).runT P w g=_)\/∃h b,(Sem.shape a.block λz=>(if z.isSome=true then(pure none:Sem (Option (Addr×TypeId))) else Sem.getObj a.block λo=>(match o with|.view a t=>pure (some (a,t))|_=>pure none))).runT P w g=_;rw[Sem.runT];split
     .exact .inl ⟨_,rfl⟩
     .rw[Sem.runT,F];cases E with
      |cells=>exact .inr ⟨_,_,rfl⟩
      |map|stringIter|number|mapIter|loop|bD|deferred=>exact .inl ⟨_,rfl⟩
    rw[Sem.jU];rcases I with⟨b,e⟩|⟨B,b,e⟩
    .rw[e];exact C w b
    .rw[e];exact⟨B,w,b,rfl,.refl _⟩
   |_=>exact .halt _ _
theorem aae(h:AR ρ a Y)(u:TypeId)(n:Nat):aB P P' iF ρ (variablesAt a u n) (variablesAt Y u n):=by
 obtain⟨c,o,s⟩:=h;unfold variablesAt;refine ai cR λj p k d b=> ?_;obtain⟨rfl,rfl⟩:=b;refine ai (kO (d.r c)) λg z f i e=> ?_;obtain rfl:z=f:=e;cases z with
 |none=>exact aj rfl
 |some z=>
  obtain⟨e,n⟩:=z;dsimp only;rw[T.lies,T.depth,adQ T];exact aj rfl
theorem air(t:TypeId):aB P P' iF ρ (elemOf t) (elemOf t):=by
 unfold elemOf;refine ai (aC T t) λb d c a hd=> ?_;obtain⟨rfl, -⟩:=hd;cases d<;>first|exact aj rfl|exact .halt _ _
theorem aeh(ts:Array TypeId)(t:TypeId){a : Array Value}(h:cQ ρ a Z):aB P P' VR ρ (Builtin.unsafeString_ ts t a) (Builtin.unsafeString_ ts t Z):=by
 unfold Builtin.unsafeString_;obtain⟨a⟩:=a;obtain⟨Z⟩:=Z;have h:bN ρ a Z:=h;cases h with
 |nil=>exact .halt _ _
 |cons d c=>
  cases c with
  |nil=>cases d<;>exact .halt _ _
  |cons v c=>
   cases c with
   |cons=>cases d<;>exact .halt _ _
   |nil=>
    cases d with
    |pointer u=>
     dsimp only;refine ai (aa3 v) λB n l i e=> ?_;obtain rfl:n=l:=e;cases ts[0]? with
     |none=>exact .halt _ _
     |some p=>
      dsimp only;refine aQ (λ_=>dr _) λ_=> ?_;refine aQ (λ_=>.halt _ _) λ_=> ?_;cases u with
      |none=>exact aQ (λ_=>aj (.string _)) λ_=>dr _
      |some j=>
       refine aQ (λ_=>aj (.string _)) λ_=> ?_;refine ai (air T p) λz e r g q=> ?_;obtain rfl:e=r:=q;refine ai (aae T (j.mono (i.trans g)) e n.toNat) λy b o w q=> ?_;obtain rfl:b=o:=q;refine aQ (λ_=> ?_) λ_=>.halt _ _;have f:∃m,n.toNat=m+1:=⟨n.toNat-1,by omega⟩;obtain⟨m,x⟩:=f;rw[x];exact aB.amI (P:=P) (P':=P') (A:=VR) m (k:=λs=>Sem.pure (Value.string s)) (k':=λs=>Sem.pure (Value.string s)) (j.mono (i.trans (g.trans w))) λs=>aB.pure (VR.string s)
    |_=>exact .halt _ _
theorem afy(ts:Array TypeId)(t:TypeId){a : Array Value}(h:cQ ρ a Z):aB P P' VR ρ (Builtin.unsafeSlice_ ts t a) (Builtin.unsafeSlice_ ts t Z):=by
 unfold Builtin.unsafeSlice_;obtain⟨a⟩:=a;obtain⟨Z⟩:=Z;have h:bN ρ a Z:=h;cases h with
 |nil=>exact .halt _ _
 |cons f d=>
  cases d with
  |nil=>cases f<;>exact .halt _ _
  |cons y d=>
   cases d with
   |cons=>cases f<;>exact .halt _ _
   |nil=>
    cases f with
    |pointer v=>
     dsimp only;refine ai (aa3 y) λI n k g e=> ?_;obtain rfl:n=k:=e;cases ts[0]? with
     |none=>exact .halt _ _
     |some r=>
      dsimp only;refine ai (air T r) λH e u l q=> ?_;obtain rfl:e=u:=q;refine aQ (λ_=>dr _) λ_=> ?_;refine aQ (λ_=>.halt _ _) λ_=> ?_;cases v with
      |none=>exact aQ (λ_=>aj (.slice .none _ _)) λ_=>dr _
      |some c=>
       dsimp only;refine ai (cI T e) λE i J B q=> ?_;obtain⟨rfl, -⟩:=q;refine aQ (λ_=>.halt _ _) λ_=> ?_;refine ai (dP T e) λC z p w q=> ?_;obtain rfl:z=p:=q;have c:=c.mono (g.trans (l.trans (B.trans w)));refine ai (aae T c e n.toNat) λF b m j q=> ?_;obtain rfl:b=m:=q;refine aQ (λ_=>aj (.slice (.some (c.mono j)) _ _)) λ_=> ?_;obtain⟨A,o,s⟩:=c.mono j;refine ai (aa6 A) λD x G g q=> ?_;obtain⟨rfl,rfl⟩:=q;exact .halt _ _
    |_=>exact .halt _ _
omit T in
theorem vK(s:Sem W):(s >>=λv=>(pure v:Sem W))=s:=by
 show s.bind Sem.pure=s
 induction s with
 |pure a=>rfl
 |load m a k b=>exact fa (Sem.load m a) (funext b)
 |store m a v k b=>exact fa (Sem.store m a v) b
 |new o k b=>exact fa (Sem.new o) (funext b)
 |shape r k b=>exact fa (Sem.shape r) (funext b)
 |freeze a n k b=>exact fa (Sem.freeze a n) b
 |frozen a k b=>exact fa (Sem.frozen a) (funext b)
 |getObj r k b=>exact fa (Sem.getObj r) (funext b)
 |setObj r o k b=>exact fa (Sem.setObj r o) b
 |choose q k b=>exact fa (Sem.choose q) (funext b)
 |sys c k b=>exact fa (Sem.sys c) (funext b)
 |program k b=>exact fa Sem.program (funext b)
 |mark m k b=>exact fa (Sem.mark m) b
 |halt h=>rfl
theorem abe(ts:Array TypeId)(t:TypeId)(A:VR ρ x X)(q:VR ρ y V):aB P P' (λj v i=>VR j v i/\∃a,v=.pointer a) ρ (Builtin.unsafeAdd_ ts t #[x,y]) (Builtin.unsafeAdd_ ts t #[X,V]):=by
 unfold Builtin.unsafeAdd_;cases A with
 |pointer d=>
  dsimp only;refine ai (aa3 q) λj n k w e=> ?_;obtain rfl:n=k:=e;cases d with
  |none=>exact aQ (λ_=>.halt _ _) λ_=>aQ (λ_=>.halt _ _) λ_=>.halt _ _
  |some g=>
   replace g:=g.mono w;obtain⟨b,o,s⟩:=g;dsimp only;refine aQ (λ_=> ?_) λ_=> ?_
   .refine ai (aa6 b) λr v i c e=> ?_;obtain⟨rfl,rfl⟩:=e;exact aj ⟨.pointer (.some (.mk (c.r b) o s)),_,rfl⟩
   .refine aQ (λ_=>.halt _ _) λ_=> ?_;refine ai (kO b) λr z l c e=> ?_;obtain rfl:z=l:=e;cases z with
    |none=>exact .halt _ _
    |some z=>
     obtain⟨e,m⟩:=z;dsimp only;refine ai cR λB p C u d=> ?_;obtain⟨rfl,rfl⟩:=d;rw[T.cellAt,T.depth,adQ T];cases cellAtBytes p p.depth e (m / p.cellsOf e) o n with
     |none=>exact .halt _ _
     |some f=>exact aj ⟨.pointer (.some (.mk (u.r (c.r b)) f s)),_,rfl⟩
 |_=>exact .halt _ _
theorem gK(ts:Array TypeId)(t:TypeId)(b:VR ρ x X)(a:VR ρ y V):aB P P' VR ρ (Builtin.unsafeAdd_ ts t #[x,y]) (Builtin.unsafeAdd_ ts t #[X,V]):=by
 have h:=ai (f:=λv=>(pure v:Sem Value)) (f':=λv=>(pure v:Sem Value)) (B:=VR) (abe T ts t b a) λd v c _ e=>aj e.1
 rwa [vK,vK] at h
omit T in
theorem akv(h:AR ρ a Y)(l:Bool):aB P P' VR ρ (asNumber a l) (asNumber Y l):=ai (afV (.number h l)) λ_ _ _ _ b=>aj (.pointer (.some (.mk b 0 none)))
theorem fS(t:TypeId)(i:VR ρ x X)(f:VR ρ y V):aB P P' VR ρ (movedNumber t x y) (movedNumber t X V):=by
 unfold movedNumber;refine ai (aC T t) λu d D m hd=> ?_;obtain⟨rfl, -⟩:=hd;replace i:=i.mono m;replace f:=f.mono m;cases i with
 |pointer g=>
  cases g with
  |none=>
   have c:=gK T #[] t (.pointer .none) f;cases d<;>first|exact .halt _ _|exact c
  |@some a k w=>
   have c:aB P P' VR u (do
     let(a,lost)<-behindNumber a
     match<-Builtin.unsafeAdd_ #[] t #[.pointer (some a),y] with
     |.pointer (some b)=>asNumber b lost
     |v=>pure v) (do
     let(a,lost)<-behindNumber k
     match<-Builtin.unsafeAdd_ #[] t #[.pointer (some a),V] with
     |.pointer (some b)=>asNumber b lost
     |v=>pure v):=by
    refine ai (lO w) λE q A o e=> ?_;obtain⟨a,l⟩:=q;obtain⟨k,z⟩:=A;obtain⟨s,n⟩:=e;obtain rfl:l=z:=n;refine ai (abe T _ t (.pointer (.some s)) (f.mono o)) λC v B F j=> ?_;obtain⟨j,p,rfl⟩:=j;cases j with
    |pointer g=>cases g with
     |none=>exact aj (.pointer .none)
     |some r=>exact akv r l
   cases d<;>first|exact .halt _ _|exact c
 |_=>cases d<;>exact .halt _ _
theorem aei(t:TypeId)(i:VR ρ x X)(a:VR ρ y V):aB P P' VR ρ (movedPointer t x y) (movedPointer t X V):=by
 unfold movedPointer;cases i with
 |pointer d=>
  cases d with
  |none=>exact gK T _ t (.pointer .none) a
  |some j=>
   obtain⟨b,o,s⟩:=j;refine ai (aeb b) λq n p c e=> ?_;cases e with
   |none=>exact gK T #[] t (.pointer (.some (.mk (c.r b) o s))) (a.mono c)
   |some h l=>exact .halt _ _
 |fc=>exact .halt _ _
 |aa1 k f=>exact gK T _ t (.aa1 k f) a
 |empty b g m=>exact gK T _ t (.empty b g m) a
 |_=>exact gK T _ t (by constructor<;>assumption) a
theorem acU(j:AR ρ a Y)(g:AR ρ b b'):aB P P' iF ρ (Op.twoPlaces a b) (Op.twoPlaces Y b'):=by
 unfold Op.twoPlaces;refine ai cR λu p n i k=> ?_;obtain⟨rfl,rfl⟩:=k;have o:(a.block !=b.block||decide (a.block>=p.globals.size))=(Y.block !=b'.block||decide (Y.block>=n.globals.size)):=by
  obtain⟨d,A,t⟩:=j;obtain⟨f,z,w⟩:=g;dsimp only;rw[T.globals.1,T.globals.2];have m:∀x c,ρ.r x c->decide (x>=gN)=decide (c>=gN):=λx c h=>sY.2 (by have:=ρ.jc h;omega);rw[m _ _ d]
  congr 1
  rw[oi];simp only[qx,ne_eq];exact not_congr ⟨λe=>by subst e;exact ρ.fn d f,λe=>by subst e;exact ρ.inj d f⟩
 rw[o];refine aQ (λ_=>.halt _ _) λ_=> ?_;refine ai (nC T (j.mono i)) λr x c l e=> ?_;obtain rfl:x=c:=e;refine ai (nC T (g.mono (i.trans l))) λv y q s e=> ?_;obtain rfl:y=q:=e;exact aj rfl
theorem an7(k:IntKind)(c:AR ρ a Y)(d:AR ρ b b'):aB P P' VR ρ (Op.addrSub k a b) (Op.addrSub k Y b'):=by
 unfold Op.addrSub;refine ai (acU T c d) λi x f g e=> ?_;obtain rfl:x=f:=e;exact aj (.int _ _)
theorem an8(op:BinOp)(c:AR ρ a Y)(d:AR ρ b b'):aB P P' VR ρ (Op.addrCmp op a b) (Op.addrCmp op Y b'):=by
 unfold Op.addrCmp;refine ai (acU T c d) λi x f g e=> ?_;obtain rfl:x=f:=e;cases op<;>first|exact aj (.bool _)|exact .halt _ _
theorem af1(k:IntKind)(g:AR ρ a Y)(n:Int):aB P P' VR ρ (Op.addrMod k a n) (Op.addrMod k Y n):=by
 unfold Op.addrMod;obtain⟨b,o,s⟩:=g;refine ai (kO b) λr z d f e=> ?_;obtain rfl:z=d:=e;cases z with
 |none=>exact .halt _ _
 |some z=>
  obtain⟨e,m⟩:=z;dsimp only;refine ai (cI T e) λl i u c q=> ?_;obtain⟨rfl, -⟩:=q;refine aQ (λ_=>.halt _ _) λ_=> ?_;refine ai (nC T (.mk ((f.trans c).r b) o s)) λt x j p e=> ?_;obtain rfl:x=j:=e;exact aj (.int _ _)
theorem amO(t:TypeId)(b:VR ρ x X)(a:VR ρ y V):aB P P' iF ρ (Op.equal t x y) (Op.equal t X V):=oC T _ t b a
theorem ax4(t:TypeId)(d:VR ρ x X)(a:VR ρ y V):aB P P' VR ρ (do pure (.bool (<-Op.equal t x y)):Sem Value) (do pure (.bool (<-Op.equal t X V))):=
 ai (amO T t d a) λ_ b c _ e=>by obtain rfl:b=c:=e;exact aj (.bool _)
theorem ax5(t:TypeId)(d:VR ρ x X)(a:VR ρ y V):aB P P' VR ρ (do pure (.bool (!(<-Op.equal t x y))):Sem Value) (do pure (.bool (!(<-Op.equal t X V)))):=
 ai (amO T t d a) λ_ b c _ e=>by obtain rfl:b=c:=e;exact aj (.bool _)
omit T in
theorem ap0(j:AR ρ a Y)(m:AR ρ b b'){f:Addr->Addr->Sem Value}(i:∀(c:Ren) x g y d,AR c x g->AR c y d->aB P P' VR c (f x y) (f g d)) :
  aB P P' VR ρ (do f (<-behindNumber a).1 (<-behindNumber b).1) (do f (<-behindNumber Y).1 (<-behindNumber b').1):=by
 refine ai (lO j) λc x g o e=> ?_;refine ai (lO (m.mono o)) λk y d l n=> ?_;exact i k _ _ _ _ (e.1.mono l) n.1
omit T in
theorem ap1(g:AR ρ a Y){f:Addr->Sem Value}(d:∀(b:Ren) x c,AR b x c->aB P P' VR b (f x) (f c)) :
  aB P P' VR ρ (do f (<-behindNumber a).1) (do f (<-behindNumber Y).1):=
 ai (lO g) λb x c _ e=>d b _ _ e.1
theorem an9(op:BinOp)(e:op ≠ .eql)(d:op ≠ .neq)(t:TypeId){a b b' : Option Addr}(c:OAR ρ a Q)(f:OAR ρ b b'):aB P P' VR ρ (binOp op t (.pointer a) (.pointer b)) (binOp op t (.pointer Q) (.pointer b')):=by
 cases c<;>cases f<;>cases op<;>first
  |exact absurd rfl e
  |exact absurd rfl d
  |exact .halt _ _
  |exact ap0 (by assumption:_) (by assumption:_) λg _ _ _ _ h k=>an7 T _ h k
  |exact ap0 (by assumption:_) (by assumption:_) λg _ _ _ _ h k=>an8 T _ h k
theorem aoa(op:BinOp)(g:op ≠ .eql)(f:op ≠ .neq)(t:TypeId){a : Option Addr}(b:OAR ρ a Q)(k:IntKind)(n:Int):aB P P' VR ρ (binOp op t (.pointer a) (.int k n)) (binOp op t (.pointer Q) (.int k n)):=by
 by_cases c:op=.add
 .subst c;show aB P P' VR ρ (do if(<-underlying t) matches .unsafePointer then movedPointer t (.pointer a) (.int k n) else movedNumber t (.pointer a) (.int k n)) (do if(<-underlying t) matches .unsafePointer then movedPointer t (.pointer Q) (.int k n) else movedNumber t (.pointer Q) (.int k n));refine ai (aC T t) λi d j e hd=> ?_;obtain⟨rfl, -⟩:=hd;exact aQ (λ_=>aei T t (.pointer (b.mono e)) (.int k n)) λ_=>fS T t (.pointer (b.mono e)) (.int k n)
 cases b<;>cases op<;>first
  |exact absurd rfl g
  |exact absurd rfl f
  |exact absurd rfl c
  |exact .halt _ _
  |exact fS T t (.pointer .none) (.int _ _)
  |exact fS T t (.pointer (.some (by assumption:_))) (.int _ _)
  |exact ap1 (by assumption:_) λi _ _ h=>af1 T _ h _
theorem aob(op:BinOp)(d:op ≠ .eql)(c:op ≠ .neq)(t:TypeId){a : Option Addr}(b:OAR ρ a Q)(k:IntKind)(n:Int):aB P P' VR ρ (binOp op t (.int k n) (.pointer a)) (binOp op t (.int k n) (.pointer Q)):=by
 cases b<;>cases op<;>first
  |exact absurd rfl d
  |exact absurd rfl c
  |exact .halt _ _
  |exact fS T t (.pointer .none) (.int _ _)
  |exact fS T t (.pointer (.some (by assumption:_))) (.int _ _)
  |exact ap1 (by assumption:_) λe _ _ h=>af1 T _ h _
omit T in
theorem aej(op:BinOp)(t:TypeId)(x y:ByteArray):binOp op t (.string x) (.string y)=Op.stringOp op x y:=by cases op<;>rfl
omit T in
theorem wB(t:TypeId)(k l:IntKind)(x y:Int):binOp .shl t (.int k x) (.int l y)=Op.shift .shl k x l y:=rfl
omit T in
theorem wA(t:TypeId)(k l:IntKind)(x y:Int):binOp .shr t (.int k x) (.int l y)=Op.shift .shr k x l y:=rfl
omit T in
theorem aek(t:TypeId):Leaves P (λ_=>True) (underlying t):=by
 unfold underlying;show Leaves P (λ_=>True) (match P.underlying t with
  |some d=>pure d
  |none=>stuck "no such type")
 cases P.underlying t<;>exact trivial
omit T in
theorem akw{t:TypeId}(h:x=.tuple #[]\/y=.tuple #[]):js P (Op.equal t x y):=by
 unfold Op.equal Op.maxDepth Op.equalIn;refine Leaves.bind (aek t) λd _=> ?_;rcases h with rfl|rfl
 .cases d<;>cases y<;>first|exact trivial|(rename_i a;cases a<;>exact trivial)
 .cases d<;>cases x<;>first|exact trivial|(rename_i a;cases a<;>exact trivial)|(rename_i a b c;cases a<;>exact trivial)
omit T in
theorem ael{op:BinOp}{t:TypeId}(h:x=.tuple #[]\/y=.tuple #[]):js P (binOp op t x y):=by
 have b:js P (Op.equal t x y):=akw h;rcases h with rfl|rfl
 .cases op<;>first|exact b.bind _|(cases y<;>first|exact trivial|(rename_i a;cases a<;>exact trivial)|exact b.bind _)
 .cases op<;>first|exact b.bind _|(cases x<;>first|exact trivial|(rename_i a;cases a<;>exact trivial)|exact b.bind _)
theorem as4(op:BinOp)(t:TypeId)(f:VR ρ x X)(d:VR ρ y V):aB P P' VR ρ (binOp op t x y) (binOp op t X V):=by
 have a:=f;have b:=d;by_cases c:x=.tuple #[]
 .exact .dead (ael (.inl c)) _
 by_cases e:y=.tuple #[]
 .exact .dead (ael (.inr e)) _
 by_cases g:op=.eql
 .subst g;cases f<;>cases d<;>first|exact absurd rfl c|exact absurd rfl e|exact ax4 T t a b|exact aQ (λ_=>.halt _ _) (λ_=>ad8 _ _ _)|(rw[aej];exact jX _ _ _)
 by_cases i:op=.neq
 .subst i;cases f<;>cases d<;>first|exact absurd rfl c|exact absurd rfl e|exact ax5 T t a b|exact aQ (λ_=>.halt _ _) (λ_=>ad8 _ _ _)|(rw[aej];exact jX _ _ _)
 cases op<;>first|exact absurd rfl g|exact absurd rfl i|(cases f<;>cases d<;>first
  |exact .halt _ _
  |exact absurd rfl c|exact absurd rfl e|(rw[aej];exact jX _ _ _)
  |(rw[wB];exact amM _ _ _ _ _)
  |(rw[wA];exact amM _ _ _ _ _)
  |exact aQ (λ_=>.halt _ _) (λ_=>ad7 _ _ _ _)
  |exact aQ (λ_=>.halt _ _) (λ_=>apX _ _ _ _)
  |exact aQ (λ_=>.halt _ _) (λ_=>afX _ _ _ _)
  |exact aQ (λ_=>.halt _ _) (λ_=>ad8 _ _ _)
  |exact an9 T _ (by decide) (by decide) t (by assumption:_) (by assumption:_)
  |exact aoa T _ (by decide) (by decide) t (by assumption:_) _ _
  |exact aob T _ (by decide) (by decide) t (by assumption:_) _ _
  |(cases a;rename_i h;cases h<;>exact .halt _ _)
  |(cases b;rename_i h;cases h<;>exact .halt _ _)
  |skip)
end
end
end Go.Proofs.YtblbaiejjagdoaaGreatDoor