/- A part of the proof. -/
import Derived.Test.YtpbbcfocomejmaaGreatDoorG2
import Derived.Lib.Builder
import Derived.Lib.Strings
import Derived.Lib.Slices
import Derived.Lib.AppendStr
import Derived.Lib.FrozenHead
import Derived.Lib.UnsafeStr
import Derived.Lib.MakeNoZero
import Derived.Shelf.RegionOpenPlain
import Derived.Laws.Externs
import Derived.Laws.IdiomCopy
import Derived.Laws.BitsLemmas
import Derived.Maps.AppendAt
import Derived.Deep.OwnRows
import Derived.StillTail
import Derived.Deep.RegionHeld3
import Derived.Deep.RegionLaw
import Derived.Laws.OwnMore
import Derived.Laws.MakeOwn
import Derived.Conc.CrowdRun
import Derived.Conc.Beside
set_option maxRecDepth 100000
set_option maxHeartbeats 8000000
set_option linter.all false
open Go Go.Conc Go.ConcN Go.RowKit Go.Proofs.Tryz Go.Proofs.YtpbbcfocomejmaaGreatDoor
variable {Z V b base' c g hi i j m m' n κ:Nat} {U a:Act} {R:Type} {N:Next} {o:Oper} {p:Addr} {S w w' x:World} {u v:Value} {T e t ty:TypeId} {f:FuncId} {pos:String} {P:Program} {L:Goroutine} {l rest:List Oper} {Y news:List Value} {X:Array Oper} {d:Option Tmp} {listed:Array Bool} {M cs es:Array Value} {A:Option Addr} {W:Act→World→Prop} {O Q:Exit→Act→World→Prop}
namespace Go.Proofs.YtpbbcfocomejmaaGreatDoor
def ge:=@_root_.List.take_length
def gn:=@_root_.Go.RowKit.Below.refl
def jt:=@_root_.Nat.zero_add
def lc:=@_root_.List.mem_singleton
def lw:=@_root_.Go.run_underlying
def lE:=@_root_.Go.Conc.mem_ofEvents
def mu:=@_root_.Go.World.size_alloc
def oR:=@_root_.Go.bodyPost_ret
def qf:=@_root_.Go.ConcN.upd_same
def qg:=@_root_.List.mem_flatMap
def qk:=@_root_.Go.Addr.mk.injEq
def qw:=@_root_.Go.Conc.Goes.stop
def qC:=@_root_.Option.bind_some
def qI:=@_root_.Go.ConcN.upd_ne
def qL:=@_root_.List.length_set
def qM:=@_root_.Array.getElem?_push_size
def qQ:=@_root_.List.mem_filter
def qV:=@_root_.Go.Lib.cell_of_heap
def rc:=@_root_.Go.Conc.Deaf_other
def rh:=@_root_.Go.Sem.runT_fst
def ru:=@_root_.Go.Conc.getElem?_append_cases
def rz:=@_root_.Nat.succ_mul
def rB:=@_root_.List.getElem?_take
def rH:=@_root_.Go.Lib.byteCells_length
def rJ:=@_root_.Nat.add_sub_cancel_left
def rM:=@_root_.List.flatMap_append
def rP:=@_root_.List.mem_append_right
def rQ:=@_root_.List.length_filter_le
def rS:=@_root_.List.mem_append_left
def sq:=@_root_.Go.Conc.Goes.running
def sB:=@_root_.Go.Result.ok.injEq
def sE:=@_root_.Nat.not_lt_zero
def sM:=@_root_.List.foldl_append
def sN:=@_root_.Int.toNat_natCast
def sR:=@_root_.Go.ConcN.get_map_set
def sS:=@_root_.Go.Conc.woken_quitsD
def sW:=@_root_.decide_eq_false_iff_not
def sZ:=@_root_.Go.Conc.runT_crowd_go
def tc:=@_root_.List.getElem?_drop
def th:=@_root_.Go.Conc.Goes.rely
def tl:=@_root_.Nat.lt_trichotomy
def tp:=@_root_.Go.Conc.goes_go
def tu:=@_root_.Go.Sem.run_bind
def tF:=@_root_.Go.getD_replicate_false
def tJ:=@_root_.bne_eq_false_iff_eq
def tN:=@_root_.List.nodup_cons
def tR:=@_root_.decide_eq_true_iff
def tS:=@_root_.Go.Sem.run_pure
def tT:=@_root_.Nat.zero_mul
def ud:=@_root_.Nat.mod_lt
def ui:=@_root_.List.filter_cons_of_pos
def uj:=@_root_.List.filter_cons_of_neg
def uk:=@_root_.Go.Result.andThen_ok
def ul:=@_root_.List.size_toArray
def um:=@_root_.List.nodup_append
def uq:=@_root_.Bool.not_eq_true'
def ur:=@_root_.Int.le_refl
def uv:=@_root_.Go.ConcN.cell_of_block
def uC:=@_root_.Go.ConcN.get_map_set_same
def uF:=@_root_.Go.IntKind.wrap_i64
def uI:=@_root_.List.set_append_right
def uR:=@_root_.List.take_succ_cons
def uW:=@_root_.Go.Lib.frozen_of_heap
def uY:=@_root_.Prod.mk.injEq
def vk:=@_root_.Go.World.ownsRow_nil
def vD:=@_root_.Nat.div_add_mod'
def vO:=@_root_.List.filter_eq_nil_iff
def vR:=@_root_.Array.mem_iff_getElem?
def wd:=@_root_.Nat.div_lt_of_lt_mul
def wm:=@_root_.Array.map_congr_left
section
variable {β:Bool}
open Go.RowKit
def ak1 {a : TypeId} {j:TypeInfo}  (k:P.underlying T=some (.pointer t)) (hi:P.info? t=some j) (l:j.bytes<18446744073709551616)
  (f:w.shape? b=some (e,Z)) (d:liesAt P P.depth e (Z / P.cellsOf e) 0 t 1=true) :
  (Builtin.unsafeSlice_ #[T,a] ty #[.pointer (some ⟨b,0,none⟩),.int .i64 1]).run P w=.ok (.slice (some ⟨b,0,none⟩) 1 1) w:=by
 have g:¬(18446744073709551616:Nat)<=j.bytes:=by omega
 unfold Builtin.unsafeSlice_;refine(qJ P (asInt (.int .i64 1)) _ w).trans ?_;have c:(asInt (.int .i64 1)).run P w=.ok 1 w:=by simp[asInt,asIntOf]
 rw[c];refine(qJ P (elemOf T) _ w).trans ?_;have i:(elemOf T).run P w=.ok t w:=by simp[elemOf,lw k]
 rw[i];simp only[Result.andThen];simp[variablesAt,f,d,typeInfo,hi,sizeOf,IntKind.max,IntKind.signed,IntKind.bits,g]
noncomputable def xCC:Func:=by
 apply(λ(x:Func) (_:{f158 with body:=some ni}=x)=>x)
 case x=>dsimp only[ni,oY,aho,akS,ij,f158]
def anm:xCC.results=#[]:=results158
def ak2:(ah β).funcs[158]?=some xCC:=acy β
@[go_sem] theorem azN(args:Array Value)(w:World):(callFunc 158 args).run (ah β) w=.ok (.enter 158 args) w:=by
 have a:=cH func158;exact kK ak2 a rfl args w
def aur:((ah β).info? 174).map (λi=>(i.bytes,i.size))=some (32,2):=by kernel_rfl
def aus:liesAt (ah β) (ah β).depth 174 (2 / (ah β).cellsOf 174) 0 174 1=true:=by kernel_rfl
def aiM(d:w.shape? b=some (174,2)):(Builtin.unsafeSlice_ #[172,3] 0 #[.pointer (some ⟨b,0,none⟩),.int .i64 1]).run (ah β) w=.ok (.slice (some ⟨b,0,none⟩) 1 1) w:=by
 obtain⟨j,c,a⟩:=gE.1 (aur (β:=β));simp only[uY] at a;exact ak1 xL c (by omega) d aus
def aiN(b:Nat)(w:World)(g:w.cell? ⟨b,0,none⟩=some (.pointer none))(c:w.shape? b=some (174,2))(d:w.frozen? ⟨b,0,none⟩=false) :
  Calls (ah β) 158 #[.pointer (some ⟨b,0,none⟩)] w λe a=>e=.returned (.tuple #[])/\a=w.setCell ⟨b,0,none⟩ (.pointer (some ⟨b,0,none⟩)):=by
 have i:=aiM (β:=β) c;have f:xCC.ntmps=20:=ntmps158;go_enter ak2,f;go_wp2;refine oR (results_none anm _ _ _) rfl ?_;exact⟨rfl,rfl⟩
def axS(B b:Nat)(bs:List Value)(w:World)(h:Lib.IsBuilderF 174 5 B b bs w) :
  Calls (ah β) 158 #[.pointer (some ⟨b,0,none⟩)] w λe a=>e=.returned (.tuple #[])/\(Lib.BuilderAtF 174 5 B b (.pointer (some ⟨b,0,none⟩)) bs a/\Below B w a):=by
 rcases h with h|h
 .refine(aiN b w h.cell0 h.shape h.frozen0).mono ?_;rintro e a ⟨rfl,rfl⟩;exact⟨rfl,h.used _,(gn B w).setCell (p:=⟨b,0,none⟩) h.1 _⟩
 .have j:=aiM (β:=β) h.shape;have g:xCC.ntmps=20:=ntmps158;have i:=h.cell0;have k:=h.frozen0;have c:=h.used (.pointer none);have f:=c.cell0;have d:=c.frozen0;go_enter ak2,g;go_wp2;refine oR (results_none anm _ _ _) rfl ?_;refine⟨rfl,c.used _,((gn B w).setCell (p:=⟨b,0,none⟩) h.1 _).setCell (p:=⟨b,0,none⟩) h.1 _⟩
def ak3(B b:Nat)(bs:List Value)(w:World)(h:Lib.IsBuilderF 174 5 B b bs w) :
  Calls (ah β) 120 #[.pointer (some ⟨b,0,none⟩)] w λe j=>e=.returned (.int .i64 bs.length)/\j=w:=by
 obtain⟨p,n,v,l,a,i⟩:∃p,Lib.BuilderAtF 174 5 B b p bs w:=by
  rcases h with h|h
  .exact⟨_,h⟩
  .exact⟨_,h⟩
 obtain⟨c,cap,rfl⟩:∃c cap,v=.slice c bs.length cap:=by
  rcases a.2 with⟨d,k⟩|⟨g,cap,f,m,d,_⟩
  .exact⟨none,0,by rw[d,k]⟩
  .exact⟨_,_,d⟩
 have o:w.cell? ⟨b,1,none⟩=some (.slice c bs.length cap):=by rw[qV l];rfl
 go_enter yh,ntmps120;go_wp2;go_ret;exact⟨rfl,rfl⟩
def aut:((ah β).info? 5).map (λi=>(i.zero,i.size,i.bytes))=some (some (.int .u8 0),1,1):=by kernel_rfl
def pg(B b:Nat)(bs:List Value)(s:ByteArray)(w:World)(h:Lib.IsBuilderF 174 5 B b bs w)(C:bs.length+s.size<=140737488355328)(J:B<=w.heap.size) :
  Calls (ah β) 119 #[.pointer (some ⟨b,0,none⟩),.string s] w λe z=>e=.returned (.tuple #[.int .i64 s.size,.nilIface])/\(Lib.BuilderAtF 174 5 B b (.pointer (some ⟨b,0,none⟩)) (bs++Lib.strCells s) z/\Below B w z):=by
 obtain⟨I,K,q,t,u⟩:=info_parts (aut (β:=β));go_enter yi,ntmps119;go_wp2_with(go_at_call 158;refine(axS B b bs _ h).mono ?_);rintro e j ⟨rfl,G,i⟩;obtain⟨D,v,l,f,o⟩:=G;have Q:j.cell? ⟨b,0,none⟩=some (.pointer (some ⟨b,0,none⟩)):=by rw[qV l];rfl
 have O:j.cell? ⟨b,1,none⟩=some v:=by rw[qV l];rfl
 go_wp2_with(at_builtin;refine Lib.wpList_append_own_stringF _ rfl _ _ 22 9 rfl B 5 I wO qU9 K q t u _ _ _ rfl f s rfl ?c3 ?c4 ?c5 ?_)
 case c3=>unfold maxLen;omega
 case c4=>omega
 case c5=>have:=i.size;omega
 intro E m a c _;have n:b<j.heap.size:=by
  rcases pa b j.heap.size with r|r
  .exact r
  .simp[qa r] at l
 have d:m.heap[b]?=some (.cells #[.pointer (some ⟨b,0,none⟩),v] 174 (0,0)):=by
  rw[c.block b n (λe=>o e.symm)];exact l
 have P:m.cell? ⟨b,0,none⟩=some (.pointer (some ⟨b,0,none⟩)):=by rw[qV d];rfl
 have N:m.cell? ⟨b,1,none⟩=some v:=by rw[qV d];rfl
 have M:m.frozen? ⟨b,1,none⟩=false:=uW d 1;obtain⟨A,y,cap,rfl⟩:∃A y cap,E=.slice A y cap:=by
  rcases a.2 with⟨x,_⟩|⟨g,cap,H,L,x,_⟩
  .exact⟨_,_,_,x⟩
  .exact⟨_,_,_,x⟩
 go_wp2;go_ret2;refine⟨rfl, ?_, ?_⟩
 .exact Lib.BuilderAtF.put (T:=174) (e:=5) D d (bs':=bs++Lib.strCells s) (by simpa[Lib.strCells_length] using a) (by decide)
 .exact(i.grown c (by have:=i.size;omega) (λk F=>(f.lt k F).1)).setCell (p:=⟨b,1,none⟩) D _
end
section
variable {β:Bool}
open Go.RowKit
def adX:((ah β)).follows .mixedOrders=true:=by kernel_rfl
def auu(B b n:Nat)(w:World)(r:B<=b)(d:w.heap[b]?=some (.cells #[.pointer (some ⟨b,0,none⟩),.slice none 0 0] 174 (0,0)))(g:B<=w.heap.size)(p:n<=281474976710656) :
  Calls (ah β) 159 #[.pointer (some ⟨b,0,none⟩),.int .i64 n] w λe m=>e=.returned (.tuple #[])/\(Lib.BuilderAt 174 5 B b (.pointer (some ⟨b,0,none⟩)) [] m/\Below B w m):=by
 obtain⟨cs,f,q,k⟩:=Lib.run_makeNoZero (P:=(ah β)) w.drew #[3] 22 5 wO n p;have l:IntKind.i64.wrap (IntKind.i64.wrap 0+(n:Int))=n:=by
  rw[uF,uF];omega
 have t:(callFunc 178 #[.int .i64 (IntKind.i64.wrap (IntKind.i64.wrap 0+(n:Int)))]).run (ah β) w.drew=.ok (.value (.slice (some ⟨w.drew.heap.size,0,none⟩) n cs.size)) (w.drew.drew.drew.alloc (.cells cs 5)):=by
  rw[l,run_callFunc_extern xW (by kernel_rfl) (by kernel_rfl) (by kernel_rfl) (e:=Extern.BytealgMakeNoZero.makeNoZero #[3] #[22]) (by kernel_rfl),f];rfl
 have v:w.drew.cell? ⟨b,1,none⟩=some (.slice none 0 0):=by
  have:w.drew.heap[b]?=_:=d;rw[qV this];rfl
 have s:(w.alloc (.cells cs 5)).cell? ⟨b,1,none⟩=some (.slice none 0 0):=by
  have a:b<w.heap.size:=by
   rcases pa b w.heap.size with c|c
   .exact c
   .simp[qa c] at d
  have:(w.alloc (.cells cs 5)).heap[b]?=_:=(Lib.alloc_old w _ b a).trans d;rw[qV this];rfl
 have u:(w.alloc (.cells cs 5)).frozen? ⟨b,1,none⟩=false:=by
  have a:b<w.heap.size:=by
   rcases pa b w.heap.size with c|c
   .exact c
   .simp[qa c] at d
  exact uW ((Lib.alloc_old w _ b a).trans d) 1
 have o:∀W:World,(Builtin.copy_ #[22,22] 3 #[.slice (some ⟨w.heap.size,0,none⟩) 0 cs.size,.slice none 0 0]).run (ah β) W=.ok (goInt 0) W:=
  λW=>run_copy_none W 22 22 3 5 _ _ 0 cs.size 0 0 wO (by kernel_rfl) rfl
 clear l;have i:=adX (β:=β);go_enter ya,ntmps159;go_wp2;have j:=Lib.grown_fresh (T:=174) (e:=5) (cs:=cs) r d g (k (by unfold maxLen;omega)) (by decide)
 go_region_o
 all_goals(go_wp2;go_end0;exact⟨rfl,j⟩)
def ann(B b n:Nat)(w:World)(j:B<=b)(f:w.heap[b]?=some (.cells #[.pointer none,.slice none 0 0] 174 (0,0)))(g:B<=w.heap.size)(m:n<=281474976710656) :
  Calls (ah β) 118 #[.pointer (some ⟨b,0,none⟩),.int .i64 n] w λe d=>e=.returned (.tuple #[])/\(Lib.BuilderAt 174 5 B b (.pointer (some ⟨b,0,none⟩)) [] d/\Below B w d):=by
 have a:(w.setCell ⟨b,0,none⟩ (.pointer (some ⟨b,0,none⟩))).heap[b]?=some (.cells #[.pointer (some ⟨b,0,none⟩),.slice none 0 0] 174 (0,0)):=by
  simp[World.setCell,pb,f]
 have r:(w.setCell ⟨b,0,none⟩ (.pointer (some ⟨b,0,none⟩))).cell? ⟨b,1,none⟩=some (.slice none 0 0):=by rw[qV a];rfl
 have c:Below B w (w.setCell ⟨b,0,none⟩ (.pointer (some ⟨b,0,none⟩))):=(gn B w).setCell (p:=⟨b,0,none⟩) j _;have i:=adX (β:=β);go_enter yj,ntmps118;have q:Lib.BuilderAt 174 5 B b (.pointer (some ⟨b,0,none⟩)) [] (w.setCell ⟨b,0,none⟩ (.pointer (some ⟨b,0,none⟩))):=⟨j,.slice none 0 0,a,vk _ _ _ _,by simp[Value.ownBlock]⟩;have l:(w.setCell ⟨b,0,none⟩ (.pointer (some ⟨b,0,none⟩))).drew.cell? ⟨b,1,none⟩=some (.slice none 0 0):=r;go_wp2_with(go_at_call 158;refine(aiN b w (by rw[qV f];rfl) (by simp[World.shape?,f]) (uW f 0)).mono ?_;rintro e d ⟨rfl,rfl⟩)
 go_region_o
 all_goals go_wp2_with(go_at_call 159;refine(auu B b n (w.setCell ⟨b,0,none⟩ (.pointer (some ⟨b,0,none⟩))).drew j a (by simpa[World.setCell,World.drew, -World.drew_eq] using g) m).mono ?_;rintro e d ⟨rfl,o,k⟩)
 all_goals first
  |(go_end0;exact⟨rfl,o,c.drew.trans k⟩)
  |(go_end0;exact⟨rfl,q.drew,c.drew⟩)
end
section
variable {β:Bool}
open Go.RowKit
def auv:Code->Code
 |.seq a b=>.seq (auv a) (auv b)
 |.region i ⟨ops⟩ d=>.region i (ops.map λo=>{o with type:=match o.op with|.call ⟨.builtin .unsafeSliceData,_,_⟩=>3|_=>o.type}).toArray d
 |.ret=>.ret
 |_=>.skip
noncomputable def xSt:Func:=by
 apply(λ(x:Func) (_:{f121 with body:=f121.body.map auv}=x)=>x)
 case x=>dsimp only[auv,f121,Option.map,List.map]
def arh:f121.body.map gP=xSt.body:=by unfold gP;kernel_rfl
def ari:(ah β).funcs[121]?=some xSt:=by
 refine(akT β (by decide) (by decide)).trans ?_;have e:Option.map pf (prog.funcs[121]?)=Option.map pf (some f121):=fk _ func121;rw[e,qh];unfold pf;rw[arh];rfl
@[go_sem] theorem azO(args:Array Value)(w:World):(callFunc 121 args).run (ah β) w=.ok (.enter 121 args) w:=by
 have a:=cH func121;exact kK ari a rfl args w
def acG(B b:Nat)(l:List UInt8)(w:World)(h:Lib.IsBuilderF 174 5 B b (Lib.byteCells l) w)(t:l≠[]) :
  Calls (ah β) 121 #[.pointer (some ⟨b,0,none⟩)] w λe s=>e=.returned (.string ⟨l.toArray⟩)/\(Lib.IsBuilderF 174 5 B b (Lib.byteCells l) s/\Below B w s):=by
 obtain⟨p,F,q⟩:∃p,(p=.pointer none\/p=.pointer (some ⟨b,0,none⟩))/\Lib.BuilderAtF 174 5 B b p (Lib.byteCells l) w:=by
  rcases h with h|h
  .exact⟨_,.inl rfl,h⟩
  .exact⟨_,.inr rfl,h⟩
 obtain⟨O,v,u,c,f⟩:=q;have i:l.length≠0:=by simpa using t
 rw[rH] at c;obtain⟨g,cap,a,d,rfl,o,z,P,H,k,K,Q⟩:∃g cap a d,v=.slice (some ⟨g,0,none⟩) l.length cap/\B<=g/\w.heap[g]?=some (.cells a 5 d)/\d.2<=l.length*1/\l.length<=cap/\cap<=maxLen/\a.size=cap*1/\a.toList.take (l.length*1)=Lib.byteCells l:=by
  rcases c.2 with⟨_,G⟩|⟨g,cap,a,d,N,r⟩
  .exact absurd G i
  .exact⟨g,cap,a,d,N,r⟩
 have C:w.drew.cell? ⟨b,1,none⟩=some (.slice (some ⟨g,0,none⟩) l.length cap):=by
  have:w.drew.heap[b]?=some (.cells #[p,.slice (some ⟨g,0,none⟩) l.length cap] 174 (0,0)):=u;rw[qV this];rfl
 have E:(Builtin.unsafeSliceData_ #[22] 3 #[.slice (some ⟨g,0,none⟩) l.length cap]).run (ah β) w.drew=.ok (.pointer (some ⟨g,0,none⟩)) w.drew:=
  Lib.run_unsafeSliceData_row _ _ _ _ _ _ (by omega)
 have y:(Builtin.unsafeString_ #[213,3] 9 #[.pointer (some ⟨g,0,none⟩),.int .i64 l.length]).run (ah β) w.drew=.ok (.string ⟨l.toArray⟩) (w.drew.freeze ⟨g,0,none⟩ l.length):=by
  refine Lib.run_unsafeString_row w.drew 213 3 9 5 xI (by kernel_rfl) g a.size (by have J:w.drew.heap[g]?=some (.cells a 5 d):=z;simp[World.shape?,J]) l t (by omega) (by unfold maxLen at k;omega) ?_;intro j x L;have:=c.cells (g:=g) rfl j (.int .u8 x.toNat) (by simp[Lib.byteCells,L]);exact this
 have D:Lib.IsBuilderF 174 5 B b (Lib.byteCells l) (w.drew.freeze ⟨g,0,none⟩ l.length):=by
  have A:Lib.BuilderAtF 174 5 B b p (Lib.byteCells l) w.drew:=⟨O,_,u,by rw[rH];exact c,f⟩;have n:=A.froze (g:=g) (cap:=cap) (by rw[rH];exact C);rw[rH] at n;rcases F with rfl|rfl
  .exact .inl n
  .exact .inr n
 have m:=adX (β:=β);have M:xSt.ntmps=14:=ntmps121;have I:xSt.results=#[.tmp 2]:=results121;go_enter ari,M;go_wp2
 go_region_o
 all_goals(go_wp2;refine oR (results_tmp I _ _ _) rfl ?_;exact⟨rfl,D,Lib.below_freeze (Below.drew (gn B w)) (p:=⟨g,0,none⟩) o _⟩)
end
section
variable {β:Bool}
open Go.RowKit
def auw(n:Nat)(c:n<=8)(w:World):Calls (ah β) 157 #[.int .u64 1,.int .u64 n] w λe a=>e=.returned (.tuple #[.int .u64 0,.int .u64 n])/\w=a:=by
 have b:n=0\/n=1\/n=2\/n=3\/n=4\/n=5\/n=6\/n=7\/n=8:=by omega
 rcases b with rfl|rfl|rfl|rfl|rfl|rfl|rfl|rfl|rfl
 all_goals
  go_enter yb,ntmps157;go_wp2;go_ret2;exact⟨rfl,rfl⟩
def azP(n:Nat)(b:n<=8)(w:World):Calls (ah β) 117 #[.int .u64 1,.int .u64 n] w λe a=>e=.returned (.tuple #[.int .u64 0,.int .u64 n])/\w=a:=by
 go_enter yk,ntmps117;go_wp2;refine(auw n b w).mono ?_;rintro e c ⟨rfl,rfl⟩;go_wp2;go_ret2;exact⟨rfl,rfl⟩
def ak4(b:Nat)(w:World):Nat:=match w.cell? ⟨b,1,none⟩ with|some (.slice _ l _)=>l|_=>0
def agm{B : Nat}{l:List UInt8}(h:Lib.IsBuilderF T e B b (Lib.byteCells l) w):ak4 b w=l.length:=by
 replace h:∃p,Lib.BuilderAtF T e B b p (Lib.byteCells l) w:=by
  rcases h with h|h
  .exact⟨_,h⟩
  .exact⟨_,h⟩
 obtain⟨p,h⟩:=h;obtain⟨n,v,j,a,f⟩:=h;have k:w.cell? ⟨b,1,none⟩=some v:=by rw[qV j];rfl
 unfold ak4;rw[k];rw[rH] at a;rcases a.2 with⟨c,i⟩|⟨g,cap,d,m,c,_⟩
 .rw[c,i]
 .rw[c]
def kq(q:Nat):List UInt8:=List.replicate q 46
def arj(n:Nat)(R:n=2\/n=3)(w:World):Calls (ah β) 85 #[.string ⟨#[46]⟩,.int .i64 n] w λe z=>e=.returned (.string ⟨(kq n).toArray⟩)/\Below w.heap.size w z:=by
 have Q:((n:Int) ==0)=false:=dq.2 (by omega);have N:((n:Int) ==1)=false:=dq.2 (by omega);go_enter xe,ntmps85;go_wp2;refine(azP n (by omega) w).mono ?_;rintro e O ⟨rfl,rfl⟩;go_wp2;generalize r:w.alloc (.cells #[.pointer none,.slice none 0 0] 174)=w0;have C:w0.heap[w.heap.size]?=some (.cells #[.pointer none,.slice none 0 0] 174 (0,0)):=by
  rw[<-r];show(w.heap.push _)[w.heap.size]?=_;rw[qM]
 have o:Below w.heap.size w w0:=by rw[<-r];exact(gn _ w).alloc (am _) _
 refine(ann w.heap.size w.heap.size n w0 (am _) C o.size (by omega)).mono ?_;rintro e L ⟨rfl,a,d⟩;replace d:=o.trans d;go_wp2;refine(pg w.heap.size w.heap.size [] ⟨#[46]⟩ L (.inr (.of a)) (by decide) d.size).mono ?_;rintro e P ⟨rfl,p,k⟩;replace k:=d.trans k;have J:([]:List Value)++Lib.strCells ⟨#[46]⟩=Lib.byteCells (kq 1):=rfl;rw[J] at p;go_wp2;go_loopw [10] (λ_ wr=>∃q:Nat,1<=q/\q<=n/\Lib.IsBuilderF 174 5 w.heap.size w.heap.size (Lib.byteCells (kq q)) wr/\Below w.heap.size w wr) (λ_ wr=>n-ak4 w.heap.size wr)
 case atStart=>exact⟨1,am _,by omega,.inr p,k⟩
 case round=>
  obtain⟨q,y,I,a,m⟩:=hrel;have G:=agm a;have b:(Lib.byteCells (kq q)).length=q:=by rw[rH];exact qs ..
  have g:(kq q).length=q:=qs ..;have l:kq q≠[]:=by intro h;rw[h] at g;simp at g;omega
  go_wp2;refine(ak3 w.heap.size w.heap.size (Lib.byteCells (kq q)) wr a).mono ?_;rintro e t ⟨rfl,rfl⟩;rw[b];by_cases x:q<n
  .have v:=db (show(q:Int)<(n:Int) by omega);go_wp2;refine(ak3 w.heap.size w.heap.size (Lib.byteCells (kq q)) t a).mono ?_;rintro e u ⟨rfl,rfl⟩;rw[b];go_wp2;refine(ak3 w.heap.size w.heap.size (Lib.byteCells (kq q)) u a).mono ?_;rintro e A ⟨rfl,rfl⟩;rw[b];have c:(n=2/\q=1)\/(n=3/\q=1)\/(n=3/\q=2):=by omega
   have K:∀W:World,(Builtin.min_ #[3,3,3] 3 #[.int .i64 ((n:Int)-(q:Int)),.int .i64 q,.int .i64 n]).run (ah β) W=.ok (.int .i64 1) W:=λW=>by
    rcases c with⟨rfl,rfl⟩|⟨rfl,rfl⟩|⟨rfl,rfl⟩<;>simp[Builtin.min_,Builtin.min2]
   have S:(⟨(kq q).toArray⟩:ByteArray).extract 0 1=⟨#[46]⟩:=by
    rcases c with⟨rfl,rfl⟩|⟨rfl,rfl⟩|⟨rfl,rfl⟩<;>rfl
   have F:(⟨(kq q).toArray⟩:ByteArray).size=q:=by show(kq q).toArray.size=q;rw[ul];exact g
   replace c:=ab c;go_wp2;refine(acG w.heap.size w.heap.size (kq q) A a l).mono ?_;rintro e B ⟨rfl,s,f⟩;replace f:=m.trans f;go_wp2;refine(pg w.heap.size w.heap.size (Lib.byteCells (kq q)) ⟨#[46]⟩ B s (by rw[b];have:=c.out;show q+1<=_;omega) f.size).mono ?_;rintro e T ⟨rfl,j,i⟩;replace i:=f.trans i;have H:Lib.byteCells (kq q)++Lib.strCells ⟨#[46]⟩=Lib.byteCells (kq (q+1)):=by
    have:kq (q+1)=kq q++[46]:=we;rw[this];simp[Lib.byteCells,Lib.strCells]
   rw[H] at j;have D:=agm (.inr j);have M:(kq (q+1)).length=q+1:=qs ..;go_wp2;go_roundw
   case rel=>exact⟨q+1,by omega,by omega,.inr j,i⟩
   omega
  .obtain rfl:q=n:=by omega
   have v:=bv (show ¬((q:Int)<(q:Int)) by omega);go_wp2;refine(acG w.heap.size w.heap.size (kq q) t a l).mono ?_;rintro e u ⟨rfl, -,E⟩;go_wp2;go_ret;exact⟨rfl,m.trans E⟩
end
section
variable {β:Bool}
open Go.RowKit
def ak6(n:Nat)(d:n<=3)(w:World):Calls (ah β) 85 #[.string ⟨#[46]⟩,.int .i64 n] w λe c=>e=.returned (.string ⟨(kq n).toArray⟩)/\Below w.heap.size w c:=by
 by_cases b:n=0
 .subst b;go_enter xe,ntmps85;go_wp2;go_ret;exact⟨rfl,gn _ _⟩
 .by_cases a:n=1
  .subst a;go_enter xe,ntmps85;go_wp2;go_ret;exact⟨rfl,gn _ _⟩
  .exact arj n (by omega) w
def auy(n:Nat):bs ⟨(kq n).toArray⟩=List.replicate n 46:=by
 unfold bs kq;simp[List.map_replicate]
def auz(s:ByteArray)(a:aU (bs s))(w:World) :
  Calls (ah β) 59 #[.string s] w λe g=>∃t:ByteArray,e=.returned (.string t)/\bs t=fw (bs s)/\Below w.heap.size w g:=by
 have c:1<=s.size/\s.size<=8:=by have:=a.1;rw[aM] at this;exact this
 have b:s.size<=maxLen:=by unfold maxLen;omega
 have i:s.size<=cj s.size/\cj s.size-s.size<=3:=by
  unfold cj;split<;>(try split)<;>(try split)<;>omega
 replace a:=ab a;replace b:=ab b;go_enter yW,ntmps59;go_wp2;refine(pT s b.out w true (by simp only[uB];exact a.out)).mono ?_;rintro e d ⟨rfl,rfl⟩;go_wp2;refine(aoV s.size c w).mono ?_;rintro e d ⟨rfl,rfl⟩;have f:((cj s.size:Nat):Int)-(s.size:Int)=((cj s.size-s.size:Nat):Int):=by omega
 go_wp2;try rw[f]
 refine(ak6 (cj s.size-s.size) i.2 w).mono ?_;rintro e d ⟨rfl,j⟩;have hd:(kq (cj s.size-s.size)).length=cj s.size-s.size:=qs ..;go_wp2;go_ret;refine⟨_,rfl, ?_,j⟩;rw[ik,auy];unfold fw;rw[aM]
def afL(s:ByteArray):ByteArray:=s.extract 0 (cX (bs s) s.size)
def ahw(s:ByteArray):bs (afL s)=tD (bs s):=by
 unfold afL tD;rw[cF,qX,aM]
open Classical in
noncomputable def eZ(s:ByteArray):ByteArray×Bool:=if aU (bs (afL s))/\fw (bs (afL s))=bs s then(afL s,true) else(⟨#[]⟩,false)
def aoW(s:ByteArray)(k:s.size<=maxLen)(w:World) :
  Calls (ah β) 35 #[.string s] w λe o=>e=.returned (.tuple #[.string (eZ s).1,.bool (eZ s).2])/\Below w.heap.size w o:=by
 have a:(afL s).size<=maxLen:=by
  unfold afL;rw[uK (acF _ _)];exact bd (acF _ _) k
 replace k:=ab k;replace a:=ab a;have g:s.extract 0 (cX (bs s) s.size)=afL s:=rfl;replace g:=ab g;go_enter zp,ntmps35;go_wp2;refine(aiL s k.out w).mono ?_;rintro e l ⟨rfl,rfl⟩;rw[g.out];obtain⟨p,d⟩:∃p,p=afL s:=⟨_,rfl⟩;have b:eZ s=eZ s:=rfl;by_cases c:aU (bs (afL s))
 .replace c:=ab c;rw[<-d] at a c ⊢;replace d:=ab d;clear b;go_wp2;refine(pT p a.out w true (by simp only[uB];exact c.out)).mono ?_;rintro e l ⟨rfl,rfl⟩;go_wp2;refine(auz p c.out w).mono ?_;rintro e l ⟨t,rfl,j,n⟩;by_cases f:t=s
  .subst f;replace j:=ab j;go_wp2;go_ret2;have i:eZ t=(p,true):=by
    unfold eZ;rw[<-d.out,dl ⟨c.out,j.out.symm⟩]
   rw[i];exact⟨rfl,n⟩
  .have q:=acE f;have i:eZ s=(⟨#[]⟩,false):=by
    unfold eZ;rw[<-d.out,be λh=>f (kL (j.trans h.2))]
   have m:=ab i;clear i j;go_wp2;go_ret2;rw[m.out];exact⟨rfl,n⟩
 .have i:eZ s=(⟨#[]⟩,false):=by
   unfold eZ;rw[be λh=>c h.1]
  have m:=ab i;clear i;replace c:=ab c;rw[<-d] at a c ⊢;clear d b;go_wp2;refine(pT p a.out w false (by simp only[kw,false_iff];exact c.out)).mono ?_;rintro e l ⟨rfl,rfl⟩;go_wp2;go_ret2;rw[m.out];exact⟨rfl,gn _ _⟩
end
section
variable {β:Bool}
open Go.RowKit
structure gD (P:Program) (t e:TypeId) (sz bytes:Nat):Prop where
 slice:P.underlying t=some (.slice e)
 info:∃i z,P.info? e=some i/\i.zero=some z/\i.size=sz/\i.bytes=bytes/\z.cells.size=sz
 pos:0<sz
 small:bytes<=128
section
variable {P:Program}
def gD.mk'{z:Value}(f:P.underlying t=some (.slice e))(hi:(P.info? e).map (λi=>(i.zero,i.size,i.bytes))=some (some z,Z,V))(k:z.cells.size=Z)(a:0<Z)(j:V<=128):gD P t e Z V:=by
 obtain⟨i,d,b,g,c⟩:=info_parts hi;exact⟨f,⟨i,z,d,b,g,c,k⟩,a,j⟩
structure ano (w w':World) (base:Nat) (e:TypeId) (sz:Nat) (v v':Value) (n:Nat) (cells:List Value):Prop where
 own:w'.ownsRow base e sz v' n cells
 fc:bM (λb=>v.ownBlock=some b) w w'
 at_:∀b,v'.ownBlock=some b->v.ownBlock=some b\/w.heap.size<=b
def adY{base:Nat}{S:Nat->Prop}(h:w.ownsRow base e Z v n Y)(k:bM S w w')(j:∀b,v.ownBlock=some b->¬S b):w'.ownsRow base e Z v n Y:=by
 refine⟨h.1, ?_⟩;rcases h.2 with i|⟨g,cap,d,rfl,f,a,c⟩
 .exact .inl i
 .refine .inr ⟨g,cap,d,rfl,f, ?_,c⟩;rw[k.block g (dk.1 a).1 (j g rfl)];exact a
def aeE{base:Nat}(h:w.ownsRow base e Z v n Y)(a:Below w.heap.size w w'):w'.ownsRow base e Z v n Y:=
 adY h (bM.bF (S:=λ_=>False) a) λ_ _ h=>h
def anp   (q:gD P t e Z V) {base:Nat}   (d:w.ownsRow base e Z v n Y)
  (O:news.length=m*Z) (R:0<m->∃a,A=some a/\∀(j:Nat) (u:Value),news[j]?=some u->w.cell? (a.add j)=some u) (Q:∀u∈news,u.oneCell'=true)
  (U:n+m<=1099511627776) (l:base<=w.heap.size) :
  ∃y x,(Builtin.append_ #[t,t] ty #[v,.slice A m c]).run P w=.ok y x/\ano w x base e Z v y (n+m) (Y++news):=by
 obtain⟨i,z,G,N,D,E,F⟩:=q.info;have f:(n+m)*V<=140737488355328:=bd (Nat.mul_le_mul U q.small) (by omega);rcases oS m with I|I
 .subst I;have C:news=[]:=rZ (by simpa using O);subst C;cases A with
  |some K=>
   obtain⟨y,x,M,H,o,_,p⟩:=run_append_own_at (P:=P) w base t ty e i z Z V q.slice G N D E F q.pos v n Y d K 0 c [] (by simp) (λj u T=>by simp at T) (by simp) (by unfold maxLen;omega) f l;exact⟨y,x,M,H,⟨o.os,o.tape,o.output,o.size,λk J r=>o.block k J λe=>r e.symm⟩,λb B=>by rcases p with p|p<;>rw[p] at B<;>simp_all⟩
  |none=>
   refine⟨v,w, ?_,by simpa using d,bM.refl _ _,λb B=>.inl B⟩;rcases d.2 with⟨rfl,rfl⟩|⟨g,cap,S,rfl,_,_,L,_⟩
   .simp[Builtin.append_,lw q.slice,sizeOf,typeInfo,G,Builtin.lenOf,Builtin.firstCells]
   .simp[Builtin.append_,lw q.slice,sizeOf,typeInfo,G,Builtin.lenOf,Builtin.firstCells,L,storeCells]
 .obtain⟨K,rfl,s⟩:=R I;obtain⟨y,x,M,H,o,_,p⟩:=run_append_own_at (P:=P) w base t ty e i z Z V q.slice G N D E F q.pos v n Y d K m c news O s Q (by unfold maxLen;omega) f l;exact⟨y,x,M,H,⟨o.os,o.tape,o.output,o.size,λk J r=>o.block k J λe=>r e.symm⟩,λb B=>by rcases p with p|p<;>rw[p] at B<;>simp_all⟩
def axW     (s x:Operand) (t:TypeId)
  (l:o.op=.call ⟨.builtin .append,#[s,x],#[t,t]⟩)
  (k:gD P t e Z V) {base:Nat}   (r:a.eval s=v) (d:w.ownsRow base e Z v n Y)
  (y:a.eval x=.slice A m c) (p:news.length=m*Z) (C:0<m->∃a,A=some a/\∀(j:Nat) (u:Value),news[j]?=some u->w.cell? (a.add j)=some u) (B:∀u∈news,u.oneCell'=true)
  (z:n+m<=1099511627776) (b:base<=w.heap.size)
  (h:∀i g,ano w g base e Z v i (n+m) (Y++news)->W (a.put o.dst i) g):o.wp P a w W Q:=by
 obtain⟨i,g,f,q⟩:=anp (P:=P) (ty:=o.type) k d (c:=c) p C B z b;unfold Oper.wp execOp;simp only[l,resolve,invoke,builtin,tu,tS,uk,List.map_toArray,qP,List.map_nil,r,y,f];exact h i g q
def abJ      (i:o.guard=none) (s x:Operand) (t:TypeId)
  (y:o.op=.call ⟨.builtin .append,#[s,x],#[t,t]⟩)
  (r:gD P t e Z V) {base:Nat}   (B:a.eval s=v) (d:w.ownsRow base e Z v n Y)
  (C:a.eval x=.slice A m c) (z:news.length=m*Z) (q:0<m->∃a,A=some a/\∀(j:Nat) (u:Value),news[j]?=some u->w.cell? (a.add j)=some u) (l:∀u∈news,u.oneCell'=true)
  (D:n+m<=1099511627776) (b:base<=w.heap.size)
  (h:∀g f,ano w f base e Z v g (n+m) (Y++news)->wpList P X Q rest (a.put o.dst g) f):wpList P X Q (o::rest) a w:=
 wpList_plain i λ_ p=>axW s x t y r B d C z q l D b λg f k=>p _ _ (h g f k)
def anq      (k:o.guard=none) (s x:Operand) (t:TypeId)
  (B:o.op=.call ⟨.builtin .append,#[s,x],#[t,t]⟩)
  (A:gD P t e Z V) {base:Nat}   (E:a.eval s=v) (d:w.ownsRow base e Z v n Y)
  (G:a.eval x=.slice (some ⟨w.heap.size,0,none⟩) 1 1) (C:es.size=Z) (z:∀u∈es.toList,u.oneCell'=true)
  (H:n<=1099511627775) (p:base<=w.heap.size)
  (h:∀g f,ano w f base e Z v g (n+1) (Y++es.toList)->wpList P X Q rest (a.put o.dst g) f):wpList P X Q (o::rest) a (w.alloc (.cells es T)):=by
 refine abJ k s x t B A E (d.alloc _) (c:=1) (m:=1) (news:=es.toList) G (by simp[C]) (λ_=>⟨_,rfl,λj u D=> ?_⟩) z (by omega) (by simp;omega) λg f l=>h g f ?_
 .have q:(⟨w.heap.size,0,none⟩:Addr).add j=⟨w.heap.size,j,none⟩:=by unfold Addr.add;split<;>simp_all
  rw[q,(bW.new w T es).cell];simpa using D
 .refine⟨l.own, ?_, ?_⟩
  .exact((bM.refl (λb=>v.ownBlock=some b) w).alloc _).trans l.fc λi _ F=>F
  .intro b y;rcases l.at_ b y with r|r
   .exact .inl r
   .simp at r;right;omega
end
def kO:gD (ah β) 30 3 1 8:=gD.mk' wN (z:=.int .i64 0) (by kernel_rfl) rfl (by decide) (by decide)
def iH{base:Nat}(h:w.ownsRow base e Z v n Y):∃A c,v=.slice A n c:=by
 rcases h.2 with⟨rfl,rfl⟩|⟨g,cap,a,rfl,_⟩
 .exact⟨_,_,rfl⟩
 .exact⟨_,_,rfl⟩
def axX {E:fV R} {base : Nat}    {xs:List R} (h:w.ownsRow base e Z v xs.length Y) (o:w.heap.size<=hi)
  (q:∀i x,xs[i]?=some x->∃a:List Value,a.length=Z/\E w base hi x a/\∀j u,a[j]?=some u->Y[i*Z+j]?=some u):cG E Z w base hi xs [v]:=by
 obtain⟨A,l⟩:=h;rcases l with⟨rfl,m⟩|⟨g,cap,d,rfl,n,k,f,c,t,p⟩
 .exact⟨none,0,by rw[m],by omega,by unfold maxLen;omega,λB=>by omega⟩
 .refine⟨_,cap,rfl,f,c,λ_=>⟨g,0,rfl,n,aE (dk.1 k).1 o,λi x hi=> ?_⟩⟩;obtain⟨a,r,y,z⟩:=q i x hi;refine⟨a,r,y,λj u s=> ?_⟩;have b:=z j u s;rw[<-p,rB] at b;split at b
  .rw[cell_of_row w g (0+i*Z+j) d e (0,0) k];rw[jt];simpa using b
  .cases b
end
section
variable {β:Bool}
def ahx:Op->Bool
 |.move .. | .assign .. | .pick .. | .load .. | .binOp .. | .unOp .. | .convert .. | .slice .. | .fieldAddr .. | .field .. | .indexAddr .. | .index .. | .lookup .. | .extract .. | .build .. | .typeAssert .. | .makeInterface .. | .makeFunc .. | .nilCheck .. =>true
 |.call c=>match c.callee with
  |.builtin .len=>true
  |_=>false
 |_=>false
def ahy(h:ahx o.op=true){ρ:Operand->Value}{args:Array Value}:(execOp ρ o).run P w ≠ .ok (.enter f args) w':=by
 obtain⟨dst,op,j,k,after,g⟩:=o;cases op<;>simp only[ahx,kw] at h
 case nilCheck x=>
  simp only[execOp];intro a;split at a
  .simp[runtimePanic] at a
  .simp[runtimePanic] at a
  .simp[runtimePanic] at a
  .split at a
   .simp[runtimePanic] at a
   .revert a;simp only[tu];generalize (Sem.run P program w:Result _)=r;cases r with
    |halt x i=>simp[Result.andThen]
    |ok p i=>
     simp only[Result.andThen];generalize (Sem.run P (nilAhead _ _ _ _) i:Result _)=r2;cases r2 with
     |halt x l=>simp
     |ok b l=>
      simp only;split
      .simp[unsupported]
      .simp
   .simp at a
  .simp at a
 case call c=>
  obtain⟨d,args,e⟩:=c;cases d with
  |value x=>cases h
  |invoke x n=>cases h
  |builtin b=>
   cases b<;>first
    |(exfalso;cases h;done)
    |(simp only[execOp,resolve,invoke,builtin,tu,tS,uk]
      intro a;revert a;generalize (Sem.run P (Builtin.len_ _ _ _) w:Result _)=r;cases r<;>simp[Result.andThen])
 all_goals simp only[execOp,tu,tS]
 all_goals intro a
 all_goals
  first
   |(cases a;done)
   |(revert a;generalize (Sem.run P _ w:Result _)=r;cases r<;>simp[Result.andThen];done)
   |(revert a;generalize (Sem.run P _ w:Result _)=r;cases r<;>simp[Result.andThen];generalize (Sem.run P _ _:Result _)=r;cases r<;>simp;done)
def kP(o:Oper)(i:Nat):Bool:=o.after.any λe=>Region.binds .any e&&e.on ==i
def aiO(h:kP o i=true):∃e∈o.after,Region.binds .any e=true/\e.on=i:=by
 obtain⟨e,a,h⟩:=Array.any_eq_true'.1 h;simp only[fd,mp] at h;exact⟨e,a,h.1,h.2⟩
def ark(i:a.tmps.size=U.tmps.size)(h:U.put d u=U.put d v):a.put d u=a.put d v:=by
 cases d with
 |none=>rfl
 |some t=>
  rcases pa t a.tmps.size with e|g
  .have f:=fk (λb:Act=>b.tmps[t]?) h;have c:t<U.tmps.size:=i▸e;simp[Act.put,c] at f;rw[f]
  .simp[Act.put,Array.setIfInBounds,Nat.not_lt.2 g]
section
variable {P:Program} {ops:Array Oper}
def aoX  (hi:ops[i]?=some o)  {G:Value->World->Prop}  
  (y:a.tmps.size=U.tmps.size) (z:execOp a.eval o=execOp U.eval o) (t:Region.wanted o (yielded ops a.tmps)=Region.wanted o (yielded ops U.tmps))
  (h:wpList P ops (λe b w=>e=.normal/\∃v,b=U.put o.dst v/\G v w) [o] U w)
  (s:∀v w,G v w->W (a.put o.dst v) w):wpOp P ops Q i W a w:=by
 have g:∀{u:Value} {k:World},(∃v,U.put o.dst u=U.put o.dst v/\G v k)->W (a.put o.dst u) k:=by
  rintro u k ⟨v,p,q⟩;rw[ark y p];exact s _ _ q
 unfold wpOp;simp only[hi];unfold wpList at h;rw[<-t] at h;split
 .rename_i j;rw[dl j] at h;rcases h with h|⟨_,b,k,m,_⟩
  .refine .inl ?_;unfold Oper.wp at *;rw[<-z] at h;generalize (execOp a.eval o).run P w=r at *;cases r with
   |ok A k=>
    cases A<;>simp only[Oper.upon,wpList] at h ⊢
    case value u=>exact g h.2
    case skip=>exact g h.2
    case defer d=>
     obtain⟨_,v,p,_⟩:=h;have:=fk (λb:Act=>b.defers.length) p;cases hd:o.dst<;>simp[Act.put,hd] at this
    case enter f args=>
     refine h.mono λe n l=> ?_;cases e with
     |returned u=>exact g l.2
     |panicked c=>cases l.1
     |outgrown=>
      obtain⟨b,B,m,_⟩:=l;cases m
    case row row args=>exact Rows.mono h λu n l=>g l.2
   |halt x k=>
    cases x<;>simp only[Oper.upon] at h ⊢
    case panic u=>cases h.1
  .cases m
 .rename_i j;rw[be j] at h;exact g h.2
def aiP(ops:Array Oper)(n:Nat):Bool:=
 (n ==ops.size||(decide (n<ops.size)&&Region.sinkB .any ops n&&Region.chainB .any ops n))&&Region.seqB .any ops (ops.size-n) n ((Array.replicate n true)++Array.replicate (ops.size-n) false)
def anr(ops:Array Oper)(n:Nat):Bool:=
 (List.range n).all λi=>match ops[i]? with
  |some o=>o.after.all λe=>!Region.binds .any e||decide (e.on<i)
  |none=>false
def aoY(h:anr ops n=true)(hi:i<n)(b:ops[i]?=some o){e:Edge}(c:e∈o.after)(f:Region.binds .any e=true):e.on<i:=by
 have a:=jn.1 h i (ql.2 hi);simp only[b] at a;have d:=Array.all_eq_true_iff_forall_mem.1 a e c;simpa[f] using d
def left(n:Nat)(listed:Array Bool):Nat:=((List.range n).filter λi=>listed.getD i true ==false).length
def aiQ[DecidableEq R]{l:List R}(d:l.Nodup){p q:R->Bool}{i:R}(hi:i∈l)(k:p i=true)(m:q i=false)(f:∀j,j≠i->p j=q j):(l.filter p).length=(l.filter q).length+1:=by
 induction l with
 |nil=>cases hi
 |cons a t n=>
  rw[tN] at d;by_cases c:a=i
  .subst c;rw[ui k,uj (by simp[m])];have:t.filter p=t.filter q:=List.filter_congr λj o=>f j λe=>d.1 (e▸o);simp[this]
  .have g:i∈t:=by
    rcases mc.1 hi with h|h
    .exact absurd h.symm c
    .exact h
   have:=n d.2 g;by_cases b:p a=true
   .rw[ui b,ui (by rw[<-f a c];exact b)];simp[this]
   .rw[uj b,uj (by rw[<-f a c];exact b)];exact this
def arl(hi:i<n)(h:listed.getD i true=false):left n listed=left n (listed.setIfInBounds i true)+1:=by
 have c:i<listed.size:=by
  rcases pa i listed.size with a|a
  .exact a
  .simp[qa a] at h
 refine aiQ List.nodup_range (ql.2 hi) (by rw[h];rfl) (by simp[c]) λj b=> ?_;rw[getD_set_ne true (sD b)]
def aoZ(h:0<left n listed):∃i,i<n/\listed.getD i true=false/\∀j,j<i->listed.getD j true=true:=by
 unfold left at h;have f:∃i,i<n/\listed.getD i true=false:=by
  obtain⟨i,b⟩:=List.exists_mem_of_length_pos h;rw[qQ,ql] at b;exact⟨i,b.1,by simpa using b.2⟩
 obtain⟨i,b⟩:=f
 induction i using Nat.strongRecOn with
 |_ i k=>
  by_cases a:∀j,j<i->listed.getD j true=true
  .exact⟨i,b.1,b.2,a⟩
  .have g:∃j,j<i/\listed.getD j true=false:=by
    apply qA;intro c;exact a λj d=>by
     cases e:listed.getD j true with
     |true=>rfl
     |false=>exact absurd ⟨j,d,e⟩ c
   obtain⟨j,d,e⟩:=g;exact k j d ⟨by omega,e⟩
def ao0(h:left n listed=0)(hi:i<n):listed.getD i true=true:=by
 unfold left at h;have a:=rZ h;rw[vO] at a;have:=a i (ql.2 hi);cases b:listed.getD i true with
 |true=>rfl
 |false=>rw[b] at this;simp at this
def agn(a:i<listed.size)(h:listed.getD i true=true):listed.getD i false=true:=by
 simp[a] at h ⊢;exact h
inductive Behind (ops:Array Oper):Nat->Nat->Prop where
 |auA {i:Nat} {o:Oper} {e:Edge}:ops[i]?=some o->e∈o.after->Region.binds .any e=true->Behind ops i e.on
 |next {i j:Nat} {o:Oper} {e:Edge}:ops[i]?=some o->e∈o.after->Region.binds .any e=true->Behind ops e.on j->Behind ops i j
def afM{ops:Array Oper}(c:HeadInv .any ops n listed)(h:Behind ops i j):(∀o,ops[i]?=some o->∀e∈o.after,Region.binds .any e=true->listed.getD e.on false=true)->listed.getD j false=true:=by
 induction h with
 |auA a g d=>exact λb=>b _ a _ g d
 |next a g d _ p=>exact λb=>p λl m q k f=>c.closed _ l m (b _ a _ g d) q k f
class aW (X:Type) where
 live:Nat->X->Prop
 down:∀m x,live (m+1) x->live m x
 pend:Nat->X->Prop
def auB(n:Nat)(listed:Array Bool):left n listed<=n:=by
 unfold left;exact bd (rQ _ _) (by simp)
variable {X:Type} [aW X] {to:X->World} {le:X->X->Prop} {Q:Exit->Act->World->Prop}
def arn (hn:n<=ops.size) (s:aiP ops n=true) (N:anr ops n=true) (A:Act->Prop) (Φ:Nat->Act->X->Prop)
  (w:∀m i o,i<n->ops[i]?=some o->∀a x,A a->aW.live (m+1) x->aW.pend i x->(∀j,j<n->kP o j=true->Φ j a x)->∀K:Act->World->Prop,
   (∀v y,le x y->aW.live m y->(∀j,j≠i->¬Behind ops i j->aW.pend j x->aW.pend j y)->A (a.put o.dst v)->Φ i (a.put o.dst v) y->K (a.put o.dst v) (to y))->wpOp P ops Q i K a (to x))
  (W:∀i j o a x y v,i<n->j<n->i≠j->ops[j]?=some o->A a->Φ i a x->le x y->Φ i (a.put o.dst v) y)
  (L:∀a x,A a->(∀i,i<n->Φ i a x)->wpList P ops Q (ops.toList.drop n) a (to x)) :
  ∀(f:Nat) (listed:Array Bool) (a:Act) (x:X),left n listed=f->HeadInv .any ops n listed->A a->aW.live f x->(∀i,i<n->listed.getD i false=false->aW.pend i x)->(∀i,i<n->listed.getD i false=true->Φ i a x)->
   wpAny P .any ops Q (f+(ops.size-n)) listed a (to x):=by
 intro f
 induction f with
 |zero=>
  intro listed a x hf inv H G q k;have b:∀i,i<n->listed.getD i true=true:=λi g=>ao0 hf g;have hL:listed=(Array.replicate n true)++Array.replicate (ops.size-n) false:=by
   apply Array.ext
   .rw[inv.size];simp;omega
   .intro i l h2;rcases pa i n with p|p
    .rw[Array.getElem_append_left (by simpa using p)];have:=b i p;simp[l] at this;simp[this]
    .rw[Array.getElem_append_right (by simpa using p)];have:=inv.tail i p (by rw[<-inv.size];exact l);simp[l] at this;simp[this]
  unfold aiP at s;rw[fd] at s;have d:(ops.toList.drop n).length=ops.size-n:=by simp
  rw[jt,<-d,hL];refine wpAny_of_seq _ n _ a (to x) (λj=>by rw[tc,du]) (by rw[d];exact s.2) (L a x H λi g=>k i g ?_);exact agn (by rw[inv.size];omega) (b i g)
 |succ f ih=>
  intro listed a x hf inv H G q k;obtain⟨u,T,E,Y⟩:=aoZ (n:=n) (listed:=listed) (by omega);rw[show f+1+(ops.size-n)=(f+(ops.size-n))+1 by omega];have J:∀i∈Region.ready .any ops listed,i<n:=by
   intro i g;unfold aiP at s;simp only[fd,qT,mp,qH] at s;rcases s.1 with h|⟨⟨l,h2⟩,p⟩
   .obtain⟨_,o,D,_⟩:=mem_ready.1 g;rw[h];exact(dk.1 D).1
   .rcases pa i n with h|h
    .exact h
    .exact absurd g (tail_waits h2 p l inv _ u rfl T E i h)
  refine⟨λh0=> ?_,λi g=> ?_⟩
  .exfalso;have C:u<ops.size:=aE T hn;have:u∈Region.ready .any ops listed:=mem_ready.2 ⟨E,ops[u],fm C,λe F z=>by
    have l:=aoY N T (fm C) F z;exact agn (by rw[inv.size];omega) (Y _ l)⟩
   rw[h0] at this;cases this
  .have B:=J i g;obtain⟨r,o,D,b⟩:=mem_ready.1 g;have R:listed.getD i false=false:=by
    have V:i<listed.size:=by rw[inv.size];omega
    simp[V] at r ⊢;exact r
   refine w f i o B D a x H G (q i B R) (λj t hw=> ?_) _ λv y Z S M U I=> ?_
   .obtain⟨e,F,z,rfl⟩:=aiO hw;exact k _ t (b e F z)
   .refine ih _ _ y ?_ (inv.set g B) U S (λj t d=> ?_) λj t d=> ?_
    .have:=arl B r;omega
    .have c:j≠i:=by
      rintro rfl;have V:j<listed.size:=by rw[inv.size];omega
      simp[V] at d
     rw[getD_set_ne false (sD c)] at d;refine M j c (λO=> ?_) (q j t d);have:=afM inv O λo' oH e F z=>(by
      obtain rfl:o=o':=ef (D.symm.trans oH);exact b e F z)
     rw[this] at d;cases d
    .by_cases c:j=i
     .subst c;exact I
     .rw[getD_set_ne false (sD c)] at d;exact W j i o a x y v t B c D H (k j t d) Z
inductive iI (X:Type) where
 |fix (v:Value)
 |any (R:Value->X->Prop)
def iI.keep(le:X->X->Prop):iI X->Prop
 |.fix _=>True
 |.any R=>∀v x y,R v x->le x y->R v y
def iI.holds(r:iI X)(v:Value)(x:X):Prop:=
 match r with
 |.fix a=>v=a
 |.any R=>R v x
def Good(P:Program)(ops:Array Oper)(to:X->World)(le:X->X->Prop)(i:Nat)(o:Oper)(a:Act)(x:X)(r:iI X):Prop:=
 ∀m,aW.live (m+1) x->aW.pend i x->∀b:Exit->Act->World->Prop,(∀v y,le x y->aW.live m y->(∀j,j≠i->¬Behind ops i j->aW.pend j x->aW.pend j y)->r.holds v y->b .normal (a.put o.dst v) (to y))->wpList P ops b [o] a (to x)
def pj(ops:Array Oper)(n:Nat)(t:Tmp)(j:Nat):Prop:=j<n/\∃o,ops[j]?=some o/\o.dst=some t
def aeF(ops:Array Oper)(n N:Nat):Bool:=
 (List.range n).all λi=>match ops[i]? with
  |some o=>match o.dst with
   |some d=>decide (d<N)&&(List.range i).all λj=>((ops[j]?).bind (·.dst)) !=some d
   |none=>true
  |none=>true
def ak8{N : Nat}(h:aeF ops n N=true){t:Tmp}(d:pj ops n t j):t<N:=by
 obtain⟨a,o,c,hd⟩:=d;have b:=jn.1 h j (ql.2 a);simp only[c,hd,fd,qH] at b;exact b.1
def aiR{N : Nat}(h:aeF ops n N=true){t:Tmp}(hi:pj ops n t i)(l:pj ops n t j)(b:j<i):False:=by
 obtain⟨k,o,g,hd⟩:=hi;obtain⟨f,p,e,a⟩:=l;have d:=jn.1 h i (ql.2 k);simp only[g,hd,fd] at d;have c:=jn.1 d.2 j (ql.2 b);rw[e] at c;simp[a] at c
def ahz{N : Nat}(h:aeF ops n N=true){t:Tmp}(hi:pj ops n t i)(b:pj ops n t j):i=j:=by
 rcases tl i j with a|a|a
 .exact(aiR h b hi a).elim
 .exact a
 .exact(aiR h hi b a).elim
def ans(ops:Array Oper)(n:Nat)(t:Tmp):(∃j,pj ops n t j)\/∀j,¬pj ops n t j:=by
 by_cases h:∃j,pj ops n t j
 .exact .inl h
 .exact .inr λj a=>h ⟨j,a⟩
def wM(a:Act)(o:Oper):Value:=match o.dst with
 |some d=>a.tmps.getD d undef
 |none=>undef
structure ahA (ops:Array Oper) (n:Nat) (a0 a:Act):Prop where
 size:a.tmps.size=a0.tmps.size
 off:∀t,(∀j,¬pj ops n t j)->a.tmps[t]?=a0.tmps[t]?
 rest:{a with tmps:=a0.tmps}=a0
def ahA.refl(ops:Array Oper)(n:Nat)(a:Act):ahA ops n a a:=⟨rfl,λ_ _=>rfl,rfl⟩
def nA{t:Tmp}(h:d≠some t):(a.put d v).tmps[t]?=a.tmps[t]?:=by
 cases d with
 |none=>rfl
 |some e=>
  have:e≠t:=λb=>h (by rw[b]);simp[Act.put,io this]
def ant{t:Tmp}(h:t<a.tmps.size):(a.put (some t) v).tmps[t]?=some v:=by
 simp[Act.put,h]
def abK(a:Act)(d:Option Tmp)(v:Value):(a.put d v).tmps.size=a.tmps.size:=by
 cases d<;>simp[Act.put]
def ahA.put(h:ahA ops n U a)(d:j<n)(c:ops[j]?=some o):ahA ops n U (a.put o.dst v):=by
 refine⟨by rw[abK,h.size],λt b=> ?_, ?_⟩
 .rw[nA (λhd=>b j ⟨d,o,c,hd⟩)];exact h.off t b
 .rw[<-h.rest];cases hd:o.dst<;>simp[Act.put]
def fJ(U:Nat->Value)(a:Act)(L:List (Nat×Oper)):Act:=L.foldl (λb p=>b.put p.2.dst (U p.1)) a
def acH(U:Nat->Value):∀(L:List (Nat×Oper)) (a:Act),(fJ U a L).tmps.size=a.tmps.size
 |[],_=>rfl
 |p::L,a=>by
  show(fJ U (a.put p.2.dst (U p.1)) L).tmps.size=_;rw[acH U L,abK]
def nB(U:Nat->Value){t:Tmp}:∀(L:List (Nat×Oper)) (a:Act),(∀p∈L,p.2.dst≠some t)->(fJ U a L).tmps[t]?=a.tmps[t]?
 |[],_,_=>rfl
 |p::L,a,h=>by
  show(fJ U (a.put p.2.dst (U p.1)) L).tmps[t]?=_;rw[nB U L _ λq b=>h q (by simp[b]),nA (h p (by simp))]
def abL(U:Nat->Value){t:Tmp}{i:Nat}{o:Oper}:∀(L:List (Nat×Oper)) (a:Act),(i,o)∈L->o.dst=some t->t<a.tmps.size->(∀p∈L,p.2.dst=some t->p.1=i)->(fJ U a L).tmps[t]?=some (U i)
 |[],_,h,_,_,_=>by cases h
 |p::L,a,h,hd,hs,aoz=>by
  show(fJ U (a.put p.2.dst (U p.1)) L).tmps[t]?=_;by_cases g:(i,o)∈L
  .exact abL U L _ g hd (by rw[abK];exact hs) λq c=>aoz q (by simp[c])
  .rcases mc.1 h with rfl|h
   .by_cases e:∃q∈L,q.2.dst=some t
    .obtain⟨q,c,b⟩:=e;have d:=aoz q (by simp[c]) b;have:=abL U (i:=q.1) (o:=q.2) L (a.put o.dst (U i)) c b (by rw[abK];exact hs) λr j f=>by rw[aoz r (by simp[j]) f,d]
     rw[this,d]
    .rw[nB U L _ λq c b=>e ⟨q,c,b⟩,hd];exact ant hs
   .exact absurd h g
def acI(U:Nat->Value):∀(L:List (Nat×Oper)) (a:Act),{fJ U a L with tmps:=a.tmps}=a
 |[],_=>rfl
 |p::L,a=>by
  show{fJ U (a.put p.2.dst (U p.1)) L with tmps:=a.tmps}=_;have h:=acI U L (a.put p.2.dst (U p.1));have d:{a.put p.2.dst (U p.1) with tmps:=a.tmps}=a:=by cases hd:p.2.dst<;>simp[Act.put]
  have c:=fk (λb:Act=>{b with tmps:=a.tmps}) h;simp only at c;rw[d] at c;exact c
def auC{b : Act}(h:{a with tmps:=b.tmps}=b)(f:a.tmps.size=b.tmps.size)(e:∀t:Nat,a.tmps[t]?=b.tmps[t]?):a=b:=by
 have c:a.tmps=b.tmps:=Array.ext f λi c d=>by
  have:=e i;simpa[c,d] using this
 rw[<-h,<-c]
def ao1(c:∀l b,o.op ≠ .select l b){b : Act}(h:∀t∈o.looksAt ops,a.tmps[t]?=b.tmps[t]?) :
  execOp a.eval o=execOp b.eval o/\Region.wanted o (yielded ops a.tmps)=Region.wanted o (yielded ops b.tmps):=by
 constructor
 .refine execOp_congr o c λx k=> ?_;cases x with
  |tmp t=>
   have:=h t (rS _ (List.mem_filterMap.2 ⟨.tmp t,by simpa using k,rfl⟩));simp[Act.eval,this]
  |_=>rfl
 .unfold Region.wanted;cases j:o.guard with
  |none=>rfl
  |some i=>
   obtain⟨g,d⟩:=i;have e:yielded ops a.tmps g=yielded ops b.tmps g:=by
    unfold yielded;cases f:(ops[g]?).bind (·.dst) with
    |none=>rfl
    |some t=>
     have:=h t (rP _ (by simp[j,f]));simp[this]
   simp only[e]
def ak9(ops:Array Oper)(n:Nat):Bool:=
 (List.range n).all λi=>match ops[i]? with
  |some o=>(o.looksAt ops).all λt=>(List.range n).all λj=>((ops[j]?).bind (·.dst)) !=some t||kP o j
  |none=>true
def aeG(h:ak9 ops n=true)(hi:i<n)(e:ops[i]?=some o){t:Tmp}(k:t∈o.looksAt ops)(f:pj ops n t j):kP o j=true:=by
 obtain⟨a,p,d,hd⟩:=f;have b:=jn.1 h i (ql.2 hi);simp only[e] at b;have g:=jn.1 b t k;have c:=jn.1 g j (ql.2 a);rw[d] at c;simpa[hd] using c
def ao2 (hn:n<=ops.size) (af:Region.noSelect ops=true) (ht:aiP ops n=true) (aa:anr ops n=true) (an:ak9 ops n=true) {q:Act} (B:aeF ops n q.tmps.size=true)
  (T:Nat->iI X) (hT:∀i,(T i).keep le) (ad:∀i o,i<n->ops[i]?=some o->(∃v,T i=.fix v)\/o.dst.isSome=true\/∀R,T i=.any R->∀u v x,R u x->R v x) (L:List (Nat×Oper)) (hL:∀i o,ops[i]?=some o->i<n->(i,o)∈L) (F:∀p∈L,p.1<n/\ops[p.1]?=some p.2)
  (aL:∀i o,i<n->ops[i]?=some o->∀U:Nat->Value,(∀j g,T j=.fix g->U j=g)->
   ∃al:Act,ahA ops n q al/\(∀t j,t∈o.looksAt ops->pj ops n t j->al.tmps[t]?=some (U j))/\∀x,(∀j,j<n->kP o j=true->(T j).holds (U j) x)->Good P ops to le i o al x (T i))
  (fin:∀U:Nat->Value,(∀j g,T j=.fix g->U j=g)->∀x,(∀j,j<n->(T j).holds (U j) x)->wpList P ops Q (ops.toList.drop n) (fJ U q L) (to x))
  (x0:X) (a8:aW.live (left n (Array.replicate ops.size false)) x0) (aT:∀i,i<n->aW.pend i x0):wpAny P .any ops Q ops.size (Array.replicate ops.size false) q (to x0):=by
 let c:Act->Nat->Value:=λa j=>match T j with
  |.fix g=>g
  |.any _=>match ops[j]? with
   |some Y=>wM a Y
   |none=>undef
 have hU:∀a j g,T j=.fix g->c a j=g:=λa j g h=>by simp only[c,h]
 let Φ:Nat->Act->X->Prop:=λi a x=>∀o,ops[i]?=some o->(∀d,o.dst=some d->a.tmps[d]?=some (c a i))/\(T i).holds (c a i) x
 have a6:∀{i o a v x},i<n->ops[i]?=some o->ahA ops n q a->(T i).holds v x->Φ i (a.put o.dst v) x:=by
  intro i o a v x k l z I Z oH;obtain rfl:o=Z:=ef (l.symm.trans oH);have S:∀d,o.dst=some d->(a.put o.dst v).tmps[d]?=some v:=λd hd=>by
   rw[hd];exact ant (by rw[z.size];exact ak8 B ⟨k,o,l,hd⟩)
  have V:c (a.put o.dst v) i=v\/(o.dst=none/\∃R,T i=.any R/\∀u v x,R u x->R v x):=by
   cases e:T i with
   |fix g=>
    rw[hU _ _ _ e];rw[e] at I;exact .inl I.symm
   |any R=>
    simp only[c,e,l,wM];have s:o.dst.isSome=true->(match o.dst with|some d=>(a.put o.dst v).tmps.getD d undef|none=>undef)=v:=λO=>by
     obtain⟨d,hd⟩:=ry.1 O;have:=S d hd;simp only[hd] at this ⊢;simp[gc,this]
    rcases ad i o k l with⟨g,O⟩|O|O
    .rw[e] at O;cases O
    .exact .inl (s O)
    .cases hd:o.dst with
     |some d=>left;have:=s (by rw[hd];rfl);simpa only[hd] using this
     |none=>exact .inr ⟨rfl,R,rfl,O R e⟩
  rcases V with V|⟨hd,R,hR,aJ⟩
  .rw[V];exact⟨S,I⟩
  .refine⟨λd a2=>(by rw[hd] at a2;cases a2), ?_⟩;rw[hR] at I ⊢;exact aJ _ _ _ I
 have H:=arn (P:=P) (Q:=Q) (to:=to) (le:=le) hn ht aa (ahA ops n q) Φ ?step ?axY ?fin (left n (Array.replicate ops.size false)) (Array.replicate ops.size false) q x0 rfl
  ⟨by simp,λj Y _ E=>(by rw[tF] at E;cases E),λt _ ht=>getD_in (by simpa using ht) (tF _ _)⟩ (ahA.refl _ _ _) a8 (λi k _=>aT i k) (λi k E=>(by rw[tF] at E;cases E))
 case step=>
  intro m i o k l a x z aX a9 a1 K hK;obtain⟨al,a3,ax,po⟩:=aL i o k l (c a) (hU a);have a7:∀j,j<n->kP o j=true->(T j).holds (c a j) x:=λj f hw=>(a1 j f hw _ (fm (aE f hn))).2;have aP:∀t∈o.looksAt ops,a.tmps[t]?=al.tmps[t]?:=by
   intro t a4;rcases ans ops n t with⟨j,f⟩|r
   .have hw:=aeG an k l a4 f;obtain⟨C,Y,J,hd⟩:=id f;rw[ax t j a4 f,(a1 j C hw Y J).1 t hd]
   .rw[z.off t r,a3.off t r]
  obtain⟨h1,N⟩:=ao1 (λcs b=>Region.noSelect_spec af i o cs b l) aP;refine aoX (G:=λv w=>∃y,w=to y/\le x y/\aW.live m y/\(∀j,j≠i->¬Behind ops i j->aW.pend j x->aW.pend j y)/\(T i).holds v y) l (by rw[z.size,a3.size]) h1 N (po x a7 m aX a9 _ λv y A E M I=>⟨rfl,v,rfl,y,rfl,A,E,M,I⟩) ?_;rintro v w ⟨y,rfl,A,E,M,I⟩;exact hK v y A E M (z.put k l) (a6 k l z I)
 case axY=>
  intro i j o a x y v k f ay l z D A Z oH;obtain⟨h1,N⟩:=D Z oH;have a0:∀d,Z.dst=some d->o.dst≠some d:=λd hd b0=>ay (ahz B ⟨k,Z,oH,hd⟩ ⟨f,o,l,b0⟩);have ao:c (a.put o.dst v) i=c a i:=by
   cases e:T i with
   |fix g=>rw[hU _ _ _ e,hU _ _ _ e]
   |any R=>
    simp only[c,e,oH,wM];cases hd:Z.dst with
    |none=>rfl
    |some d=>
     have:=nA (a:=a) (v:=v) (a0 d hd);simp only[gc,this]
  rw[ao];refine⟨λd hd=>by rw[nA (a0 d hd)];exact h1 d hd, ?_⟩;have hk:=hT i;cases e:T i with
  |fix g=>rw[e] at N;exact N
  |any R=>
   rw[e] at N hk;exact hk _ _ _ N A
 case fin=>
  intro a x z D;have a5:∀j,j<n->(T j).holds (c a j) x:=λj f=>(D j f _ (fm (aE f hn))).2;have he:a=fJ (c a) q L:=by
   refine auC ?_ ?_ ?_
   .have h1:=z.rest;have N:=acI (c a) L q;have h3:=fk (λb:Act=>{b with tmps:=(fJ (c a) q L).tmps}) (h1.trans N.symm);exact h3
   .rw[z.size,acH]
   .intro t;rcases ans ops n t with⟨j,f⟩|r
    .obtain⟨C,Y,J,hd⟩:=id f;rw[(D j C Y J).1 t hd,abL (c a) L q (hL j Y J C) hd (ak8 B f) λp M W=> ?_];exact ahz B ⟨(F p M).1,p.2,(F p M).2,W⟩ f
    .rw[z.off t r,nB _ _ _ λp M W=>r p.1 ⟨(F p M).1,p.2,(F p M).2,W⟩]
  rw[he];exact fin _ (hU a) x a5
 have aK:left n (Array.replicate ops.size false)=n:=by
  unfold left;rw[List.filter_eq_self.2]
  .simp
  .intro i k;have b1:=ql.1 k;rw[getD_in (by simp;omega) (tF _ _)];rfl
 rw[aK,show n+(ops.size-n)=ops.size by omega] at H;exact H
def aam:List (Nat×(X->Prop))->Oper->X->Prop
 |[],_,_=>True
 |(j,p)::F,o,x=>(kP o j=true->p x)/\aam F o x
def gU:List (Nat×(X->Prop))->X->Prop
 |[],_=>True
 |(_,p)::F,x=>p x/\gU F x
omit [aW X] in
def anu{F:List (Nat×(X->Prop))}{x:X}(h:∀p∈F,kP o p.1=true->p.2 x):aam F o x:=by
 induction F with
 |nil=>trivial
 |cons p F b=>exact⟨h p (by simp),b λq a=>h q (by simp[a])⟩
omit [aW X] in
def auD{F:List (Nat×(X->Prop))}{x:X}(h:∀p∈F,p.2 x):gU F x:=by
 induction F with
 |nil=>trivial
 |cons p F b=>exact⟨h p (by simp),b λq a=>h q (by simp[a])⟩
def cI(P:Program)(ops:Array Oper)(to:X->World)(le:X->X->Prop)(Qt:Act->World->Prop):List (Nat×Oper)->List (Nat×(X->Prop))->List (iI X)->Act->Prop
 |[],F,[],a=>∀x,gU F x->Qt a (to x)
 |(i,o)::l,F,.fix v0::Rs,a=>(∀x,aam F o x->Good P ops to le i o a x (.fix v0))/\cI P ops to le Qt l F Rs (a.put o.dst v0)
 |(i,o)::l,F,.any R::Rs,a=>(o.dst.isSome=true\/∀u v x,R u x->R v x)/\(∀v x y,R v x->le x y->R v y)/\(∀x,aam F o x->Good P ops to le i o a x (.any R))/\∀v,cI P ops to le Qt l ((i,R v)::F) Rs (a.put o.dst v)
 |_,_,_,_=>False
def ahB{F:List (Nat×(X->Prop))}(h:∀x,gU F x->W a (to x)):cI P ops to le W [] F [] a:=h
def anv   {l:List (Nat×Oper)} {F:List (Nat×(X->Prop))} {e:List (iI X)} (c:Value)
  (s:∀x,aam F o x->∀m,aW.live (m+1) x->aW.pend i x->∀b:Exit->Act->World->Prop,(∀y,le x y->aW.live m y->(∀j,j≠i->¬Behind ops i j->aW.pend j x->aW.pend j y)->b .normal (a.put o.dst c) (to y))->wpList P ops b [o] a (to x))
  (g:cI P ops to le W l F e (a.put o.dst c)):cI P ops to le W ((i,o)::l) F (.fix c::e) a:=
 ⟨λx q m r f b p=>s x q m r f b λy n k d=>p c y n k d rfl,g⟩
def ku   {l:List (Nat×Oper)} {F:List (Nat×(X->Prop))} {d:List (iI X)} (R:Value->X->Prop) (e:o.dst.isSome=true\/∀u v x,R u x->R v x) (p:∀v x y,R v x->le x y->R v y)
  (w:∀x,aam F o x->∀m,aW.live (m+1) x->aW.pend i x->∀b:Exit->Act->World->Prop,(∀v y,le x y->aW.live m y->(∀j,j≠i->¬Behind ops i j->aW.pend j x->aW.pend j y)->R v y->b .normal (a.put o.dst v) (to y))->wpList P ops b [o] a (to x))
  (g:∀v,cI P ops to le W l ((i,R v)::F) d (a.put o.dst v)):cI P ops to le W ((i,o)::l) F (.any R::d) a:=
 ⟨e,p,λx r m s f b q=>w x r m s f b λv y n k c t=>q v y n k c t,g⟩
def pick(l:List Oper)(ord:List Nat):List (Nat×Oper):=ord.map λi=>(i,l.getD i default)
def ahC(ops:Array Oper)(n:Nat):List Nat->List Nat->Bool
 |[],_=>true
 |i::t,done=>(match ops[i]? with
  |some o=>(List.range n).all λj=>!kP o j||done.contains j
  |none=>false)&&ahC ops n t (i::done)
def aeI{n:Nat}:∀(c done:List Nat),ahC ops n c done=true->∀k i o j,c[k]?=some i->ops[i]?=some o->j<n->kP o j=true->j∈done\/j∈c.take k
 |[],_,_,k,i,_,_,h,_,_,_=>by simp at h
 |a::t,done,hB,k,i,o,j,h,ho,hj,hw=>by
  simp only[ahC,fd] at hB;cases k with
  |zero=>
   simp at h;subst h;have b:=hB.1;simp only[ho] at b;have d:=jn.1 b j (ql.2 hj);left;simpa[hw] using d
  |succ k=>
   rcases aeI t (a::done) hB.2 k i o j (by simpa using h) ho hj hw with b|b
   .rcases mc.1 b with rfl|b
    .right;simp
    .exact .inl b
   .right;rw[uR];exact qS _ b
def aiS(l:List Oper)(n:Nat)(bV di:List Nat):Bool:=
 Region.noSelect l.toArray&&decide (n<=l.length)&&aiP l.toArray n&&anr l.toArray n&&ak9 l.toArray n&&decide ((bV++di).Nodup)&&(List.range n).all (λi=>(bV++di).contains i)&&(bV++di).all (λi=>decide (i<n)) &&
  bV.all (λi=>ahx (l.getD i default).op)&&ahC l.toArray n (bV++di) []
def nC{U V:Nat->Value}:∀(L:List (Nat×Oper)) (a:Act),(∀p∈L,U p.1=V p.1)->fJ U a L=fJ V a L
 |[],_,_=>rfl
 |p::L,a,h=>by
  show fJ U (a.put p.2.dst (U p.1)) L=fJ V (a.put p.2.dst (V p.1)) L;rw[h p (by simp)];exact nC L _ λq b=>h q (by simp[b])
def adb(U:Nat->Value)(L M:List (Nat×Oper))(a:Act):fJ U a (L++M)=fJ U (fJ U a L) M:=by
 unfold fJ;exact sM
def aeJ{C:World->Prop}{i:Act->Prop}:∀(L:List (Nat×Oper)) (a:Act),(L.map (·.1)).Nodup->wpQuiet P ops C i (L.map (·.2)) a->
  ∃V:Nat->Value,i (fJ V a L)/\∀(k:Nat) (p:Nat×Oper),L[k]?=some p->YieldsIn P ops C p.2 (V p.1) (fJ V a (L.take k))
 |[],a,_,h=>⟨λ_=>undef,h,λk p n=>by simp at n⟩
 |p::L,a,hn,h=>by
  rw[qP,tN] at hn;have t:∃v,YieldsIn P ops C p.2 v a/\wpQuiet P ops C i (L.map (·.2)) (a.put p.2.dst v):=by
   rw[qP] at h;unfold wpQuiet at h;split at h
   .rename_i g;obtain⟨v,u,o⟩:=h;exact⟨v,.inl ⟨g,u⟩,o⟩
   .rename_i g;exact⟨undef,.inr ⟨by simpa using g,rfl⟩,h⟩
  obtain⟨v,r,l⟩:=t;obtain⟨V,s,w⟩:=aeJ L _ hn.2 l
  let W:Nat->Value:=λj=>if j=p.1 then v else V j
  have f:W p.1=v:=by simp[W]
  have d:∀q∈L,W q.1=V q.1:=λq b=>by
   have:q.1≠p.1:=λe=>hn.1 (e▸mw.2 ⟨q,b,rfl⟩);simp[W,this]
  have m:∀k,fJ W a ((p::L).take (k+1))=fJ V (a.put p.2.dst v) (L.take k):=λk=>by
   rw[uR];show fJ W (a.put p.2.dst (W p.1)) (L.take k)=_;rw[f];exact nC _ _ λq b=>d q (pu b)
  refine⟨W, ?_,λk q b=> ?_⟩
  .have:=m L.length;rw[ge,<-ff (a:=p),ge] at this;rw[this];exact s
  .cases k with
   |zero=>
    simp at b;subst b;rw[f];exact r
   |succ k=>
    have c:L[k]?=some q:=by simpa using b
    rw[m,d q (da c)];exact w k q c
def pV{A:Act->World->Prop}{n:Nat}{T:Nat->iI X}{U:Nat->Value}(y:∀j g,T j=.fix g->U j=g):∀(L:List (Nat×Oper)) (F:List (Nat×(X->Prop))) (l:List (iI X)) (a:Act),
  cI P ops to le A L F l a->(∀(k:Nat) (p:Nat×Oper) (r:iI X),L[k]?=some p->l[k]?=some r->T p.1=r)->(∀p∈L,p.1<n)->(∀p∈F,p.1<n/\∀x,(T p.1).holds (U p.1) x->p.2 x)->
  (∀(k:Nat) (p:Nat×Oper),L[k]?=some p->∀x,(∀j,j<n->kP p.2 j=true->(T j).holds (U j) x)->Good P ops to le p.1 p.2 (fJ U a (L.take k)) x (T p.1))/\(∀x,(∀j,j<n->(T j).holds (U j) x)->A (fJ U a L) (to x))
 |[],F,[],a,h,_,_,hF=>⟨λk p b=>by simp at b,λx c=>h x (auD λp b=>(hF p b).2 x (c _ (hF p b).1))⟩
 |[],_,_::_,_,h,_,_,_=>h.elim
 |(i,o)::L,F,[],_,h,_,_,_=>h.elim
 |(i,o)::L,F,.fix g::l,a,h,hT,hn,hF=>by
  obtain⟨w,s⟩:=h;have d:T i=.fix g:=hT 0 (i,o) (.fix g) rfl rfl;have z:U i=g:=y i g d;obtain⟨u,v⟩:=pV y L F l _ s (λk p r b t=>hT (k+1) p r (by simpa using b) (by simpa using t)) (λp b=>hn p (by simp[b])) hF;have f:∀M,fJ U a ((i,o)::M)=fJ U (a.put o.dst g) M:=λM=>by
   show fJ U (a.put o.dst (U i)) M=_;rw[z]
  refine⟨λk p b x c=> ?_,λx c=>by rw[f];exact v x c⟩;cases k with
  |zero=>
   simp at b;subst b;rw[d];exact w x (anu λq e m=>(hF q e).2 x (c _ (hF q e).1 m))
  |succ k=>
   rw[uR,f];exact u k p (by simpa using b) x c
 |(i,o)::L,F,.any R::l,a,h,hT,hn,hF=>by
  obtain⟨_,B,w,s⟩:=h;have d:T i=.any R:=hT 0 (i,o) (.any R) rfl rfl;obtain⟨u,v⟩:=pV y L ((i,R (U i))::F) l _ (s (U i)) (λk p r b t=>hT (k+1) p r (by simpa using b) (by simpa using t)) (λp b=>hn p (by simp[b])) λq e=>by
   rcases mc.1 e with rfl|e
   .exact⟨hn (i,o) (by simp),λx c=>by rw[d] at c;exact c⟩
   .exact hF q e
  refine⟨λk p b x c=> ?_,λx c=>v x c⟩;cases k with
  |zero=>
   simp at b;subst b;rw[d];exact w x (anu λq e m=>(hF q e).2 x (c _ (hF q e).1 m))
  |succ k=>exact u k p (by simpa using b) x c
def aaX{j:Act->World->Prop}:∀(L:List (Nat×Oper)) (F:List (Nat×(X->Prop))) (d:List (iI X)) (a:Act),
  cI P ops to le j L F d a->d.length=L.length/\∀(k:Nat) (p:Nat×Oper) (r:iI X),L[k]?=some p->d[k]?=some r->r.keep le/\((∃v,r=.fix v)\/p.2.dst.isSome=true\/∀R,r=.any R->∀u v x,R u x->R v x)
 |[],_,[],_,_=>⟨rfl,λk p r b=>by simp at b⟩
 |[],_,_::_,_,h=>h.elim
 |(i,o)::L,F,[],_,h=>h.elim
 |(i,o)::L,F,.fix v0::d,a,h=>by
  obtain⟨_,e⟩:=h;obtain⟨f,g⟩:=aaX L F d _ e;refine⟨by simp[f],λk p r b c=> ?_⟩;cases k with
  |zero=>
   simp at c;subst c;exact⟨trivial,.inl ⟨_,rfl⟩⟩
  |succ k=>exact g k p r (by simpa using b) (by simpa using c)
 |(i,o)::L,F,.any R::d,a,h=>by
  obtain⟨hd,l,_,e⟩:=h;obtain⟨f,g⟩:=aaX L _ d _ (e undef);refine⟨by simp[f],λk p r b c=> ?_⟩;cases k with
  |zero=>
   simp at c b;subst c b;exact⟨l,.inr (hd.imp id λhd R' m=>by cases m;exact hd)⟩
  |succ k=>exact g k p r (by simpa using b) (by simpa using c)
def aaY{g:Type}:∀(ks:List Nat) (c:List g) (k i:Nat) (r:g),ks.Nodup->ks[k]?=some i->c[k]?=some r->(ks.zip c).lookup i=some r
 |[],_,_,_,_,_,h,_=>by simp at h
 |a::ks,[],_,_,_,_,_,h=>by simp at h
 |a::ks,b::c,k,i,r,hn,h,hr=>by
  rw[tN] at hn;cases k with
  |zero=>
   simp at h hr;subst h hr;simp[List.lookup]
  |succ k=>
   have f:ks[k]?=some i:=by simpa using h
   have d:(i ==a)=false:=dq.2 λe=>hn.1 (e▸da f);simp only[List.zip_cons_cons,List.lookup,d];exact aaY ks c k i r hn.2 f (by simpa using hr)
def aiT   (to:X->World) (le:X->X->Prop) (Z:∀x,le x x) (n:Nat) (b q:List Nat) (hB:aiS l n b q=true) (hd:aeF l.toArray n a.tmps.size=true)
  (x0:X) (af:∀m,m<=n->aW.live m x0) (b8:∀i,i<n->aW.pend i x0) (hx:to x0=w.drew)
  (h:wpQuiet P l.toArray (λw'=>∃x,w'=to x) (λa1=>∃C,cI P l.toArray to le (wpList P l.toArray Q (l.drop n)) (pick l q) [] C a1) ((pick l b).map (·.2)) a):wpAny P .any l.toArray Q l.toArray.size (Array.replicate l.toArray.size false) a {w with drawn:=w.drawn+1}:=by
 simp only[aiS,fd,qH] at hB;obtain⟨⟨⟨⟨⟨⟨⟨⟨⟨ay,hn⟩,ht⟩,al⟩,a5⟩,O⟩,ao⟩,b0⟩,aP⟩,b3⟩:=hB;have b5:n<=l.toArray.size:=by simpa using hn
 have G:∀i,i<n->i∈b++q:=λi d=>by simpa using jn.1 ao i (ql.2 d)
 have z:∀i∈b++q,i<n:=λi d=>by simpa using jn.1 b0 i d
 have B:∀i,i<n->l.toArray[i]?=some (l.getD i default):=λi d=>by
  have b9:i<l.length:=aE d hn;simp[b9]
 have an:∀I:List Nat,(pick l I).map (·.1)=I:=λI=>by simp[pick,Function.comp_def]
 obtain⟨V,⟨C,R⟩,hV⟩:=aeJ (pick l b) a (by rw[an];exact(um.1 O).1) h;obtain⟨a4,a6⟩:=aaX _ _ _ _ R;have ba:C.length=q.length:=by rw[a4];simp[pick]
 let T:Nat->iI X:=λj=>(((b++q).zip (b.map (λi=>iI.fix (V i))++C)).lookup j).getD (.fix undef)
 have F:∀i∈b,T i=.fix (V i):=λi d=>by
  obtain⟨k,v⟩:=qW.1 d;have D:k<b.length:=by
   rcases pa k b.length with h|h
   .exact h
   .rw[rx h] at v;cases v
  have:=aaY (b++q) (b.map (λi=>iI.fix (V i))++C) k i (.fix (V i)) O (by rw[qz D];exact v) (by rw[qz (by simpa using D),qE,v];rfl);simp only[T,this,qn]
 have a2:∀k i r,q[k]?=some i->C[k]?=some r->T i=r:=λk i r v E=>by
  have:=aaY (b++q) (b.map (λi=>iI.fix (V i))++C) (b.length+k) i r O (by rw[qo (by omega),rJ];exact v)
   (by rw[qo (by simp),pe,rJ];exact E)
  simp only[T,this,qn]
 have a0:∀(k:Nat) (p:Nat×Oper) (r:iI X),(pick l q)[k]?=some p->C[k]?=some r->T p.1=r:=λk p r g E=>by
  simp only[pick,qE,gE] at g;obtain⟨i,d,rfl⟩:=g;exact a2 k i r d E
 have a7:∀i,i<n->(i∈b/\T i=.fix (V i))\/∃k r,q[k]?=some i/\C[k]?=some r/\T i=r:=λi d=>by
  rcases me.1 (G i d) with s|s
  .exact .inl ⟨s,F i s⟩
  .obtain⟨k,v⟩:=qW.1 s;have D:k<C.length:=by
    rcases pa k q.length with h|h
    .omega
    .rw[rx h] at v;cases v
   exact .inr ⟨k,C[k],v,iS D,a2 k i _ v (iS D)⟩
 have aX:∀i,(T i).keep le:=λi=>by
  by_cases d:i<n
  .rcases a7 i d with⟨_,s⟩|⟨k,r,v,E,s⟩
   .rw[s];trivial
   .rw[s];exact(a6 k (i,l.getD i default) r (by simp[pick,v]) E).1
  .have:((b++q).zip (b.map (λi=>iI.fix (V i))++C)).lookup i=none:=by
    rw[List.lookup_eq_none_iff];intro p g;have s:=(List.of_mem_zip g).1;have:=z _ s;have ad:i≠p.1:=λe=>d (by rw[e];exact this);simpa using ad
   simp only[T,this,Option.getD_none];trivial
 have b6:∀i,i∈b++q->(i,l.getD i default)∈pick l (b++q):=λi d=>mw.2 ⟨i,d,rfl⟩;have Y:pick l (b++q)=pick l b++pick l q:=by simp[pick]
 have H:=ao2 (P:=P) (Q:=Q) (to:=to) (le:=le) b5 ay ht al a5 hd T aX ?any (pick l (b++q)) ?L ?L' ?lex ?fin x0 (af _ (auB _ _)) b8
 .rw[hx] at H;exact H
 case any=>
  intro i o d J;rcases a7 i d with⟨_,s⟩|⟨k,r,v,E,s⟩
  .exact .inl ⟨_,s⟩
  .rw[s];obtain rfl:o=l.getD i default:=ef (J.symm.trans (B i d));exact(a6 k (i,l.getD i default) r (by simp[pick,v]) E).2
 case L=>
  intro i o J d;obtain rfl:o=l.getD i default:=ef (J.symm.trans (B i d));exact b6 i (G i d)
 case L'=>
  intro p g;obtain⟨i,d,rfl⟩:=mw.1 g;exact⟨z i d,B i (z i d)⟩
 case lex=>
  intro i o d J U hU;obtain rfl:o=l.getD i default:=ef (J.symm.trans (B i d));obtain⟨hg,_⟩:=pV (n:=n) (T:=T) (U:=U) hU _ _ _ _ R a0 (λp g=>by
   obtain⟨j,A,rfl⟩:=mw.1 g;exact z j (rP _ A)) (λp g=>by cases g)
  obtain⟨k,v⟩:=qW.1 (G i d);have a8:∀M:List (Nat×Oper),(∀p∈M,p.1∈b)->fJ U a M=fJ V a M:=λM hM=>nC M a λp g=>by rw[hU _ _ (F _ (hM p g))]
  have a3:∀p∈pick l b,p.1∈b:=λp g=>by
   obtain⟨j,A,rfl⟩:=mw.1 g;exact A
  refine⟨fJ U a ((pick l (b++q)).take k), ?_, ?_, ?_⟩
  .refine⟨acH _ _ _,λt aT=>nB _ _ _ λp g W=> ?_, ?_⟩
   .obtain⟨j,A,rfl⟩:=mw.1 (pu g);exact aT j ⟨z j A,_,B j (z j A),W⟩
   .exact acI _ _ _
  .intro t j aJ A;have hw:=aeG a5 d J aJ A;have b7:=(aeI (b++q) [] b3 k i _ j v J A.1 hw).resolve_left (by simp);have aK:=A;obtain⟨ax,oj,b2,b4⟩:=aK;obtain rfl:oj=l.getD j default:=ef (b2.symm.trans (B j ax));refine abL U (o:=l.getD j default) _ a ?_ b4 (ak8 hd A) λp g W=> ?_
   .rw[pick,<-List.map_take];exact mw.2 ⟨j,b7,rfl⟩
   .obtain⟨j',aa,rfl⟩:=mw.1 (pu g);exact ahz hd ⟨z j' aa,_,B j' (z j' aa),W⟩ A
  .intro x hx;rcases pa k b.length with N|N
   .have mo:b[k]?=some i:=by rw[qz N] at v;exact v
    have a9:i∈b:=da mo;have lT:(pick l (b++q)).take k=(pick l b).take k:=by rw[Y,List.take_append_of_le_length (by simp[pick];omega)]
    have hy:=hV k (i,l.getD i default) (by simp[pick,mo]);rw[lT,a8 _ λp g=>a3 p (pu g),F i a9];intro mq S bb Qx hQ;have aL:ahx (l.getD i default).op=true:=jn.1 aP i a9;have K:=λy hy hl b1=>hQ (V i) y hy hl b1 rfl;unfold wpList;rcases hy with⟨hw,hq⟩|⟨hw,hq⟩
    .rw[dl hw];refine .inl ?_;have s:=hq (to x) ⟨x,rfl⟩;unfold Oper.quietAt at s;unfold Oper.wp;cases E:(execOp (fJ V a (List.take k (pick l b))).eval (l.getD i default)).run P (to x) with
     |ok nx w'=>
      rw[E] at s;cases nx<;>simp only[Oper.quietUpon] at s
      case value u=>
       obtain⟨rfl,rfl⟩:=s;exact K x (Z x) (aW.down _ _ S) λ_ _ _ h=>h
      case skip=>
       obtain⟨rfl,h2⟩:=s;show Qx .normal _ _;rw[<-h2];exact K x (Z x) (aW.down _ _ S) λ_ _ _ h=>h
      case enter f args=>exact absurd E (ahy aL)
     |halt c w'=>
      rw[E] at s;simp only[Oper.quietUpon] at s
    .rw[be (by rw[hw];exact qp)];have:=K x (Z x) (aW.down _ _ S) λ_ _ _ h=>h;rw[hq] at this;exact this
   .have nD:q[k-b.length]?=some i:=by rw[qo N] at v;exact v
    have lT:(pick l (b++q)).take k=pick l b++(pick l q).take (k-b.length):=by
     rw[Y,List.take_append,qe (by simp[pick];omega)];simp[pick]
    rw[lT,adb,a8 _ a3];exact hg (k-b.length) (i,l.getD i default) (by simp[pick,nD]) x hx
 case fin=>
  intro U hU x hx;obtain⟨_,hf⟩:=pV (n:=n) (T:=T) (U:=U) hU _ _ _ _ R a0 (λp g=>by
   obtain⟨j,A,rfl⟩:=mw.1 g;exact z j (rP _ A)) (λp g=>by cases g)
  have s:=hf x hx;rw[Y,adb,nC (U:=U) (V:=V) (pick l b) a λp g=>by
   obtain⟨j,A,rfl⟩:=mw.1 g;exact hU _ _ (F j A)]
  simpa using s
def aa0    (to:X->World) (le:X->X->Prop) (f:∀x,le x x) (n:Nat) (d b:List Nat) (p:P.follows .mixedOrders=true) (r:aiS l n d b=true) (g:aeF l.toArray n U.tmps.size=true)
  (a:X) (c:∀m,m<=n->aW.live m a) (e:∀i,i<n->aW.pend i a) (k:to a=w.drew)
  (h:wpQuiet P l.toArray (λj=>∃x,j=to x) (λq=>∃o,cI P l.toArray to le (wpList P l.toArray Q (l.drop n)) (pick l b) [] o q) ((pick l d).map (·.2)) U):(Code.region Z l.toArray true).wp P Q U w:=
 wp_region_any p (aiT to le f n d b r g a c e k h)
end
end
section
variable {β:Bool}
open Go.RowKit
def bQ(b:Below w.heap.size w w')(h:w.cell? p=some v):w'.cell? p=some v:=by
 refine(b.cell (p:=p) ?_).trans h;rcases pa p.block w.heap.size with a|c
 .exact a
 .simp[World.cell?,qa c] at h
def cQ{a : World}(h:Below a.heap.size a w)(o:Obj):Below a.heap.size a (w.alloc o):=h.alloc h.size o
def bc(h:bW w g t cs)(o:Obj):bW (w.alloc o) g t cs:=(se w o g h.lt).trans h
def eI(h:bW w g t cs)(u:Value)(a:g≠p.block):bW (w.setCell p u) g t cs:=(qb w p u g a).trans h
def bq(h:bW w g t cs){S:Nat->Prop}(b:bM S w w')(a:¬S g):bW w' g t cs:=(b.block g h.lt a).trans h
def aA(w:World)(o:Obj):Below w.heap.size w (w.alloc o):=(gn _ _).alloc (am _) _
def anx{E:fV R}(a:Lcy E){xs:List R}{cs:List Value}(h:cG E Z w V hi xs cs)(b:Below w.heap.size w w')(c:hi<=w.heap.size):cG E Z w' V hi xs cs:=
 (cG.loc a).below h b c
def gT(h:w.alloc (.cells cs t)=x):Below w.heap.size w x/\w.heap.size+1<=x.heap.size/\bW x w.heap.size t cs/\(∀i,x.cell? ⟨w.heap.size,i,none⟩=cs[i]?)/\∀i,x.frozen? ⟨w.heap.size,i,none⟩=false:=by
 subst h;have k:=bW.new w t cs;exact⟨aA _ _,by simp,k,k.cell,k.frozen⟩
def aeK{u : TypeId}(h:(w.alloc (.cells cs t)).alloc (.cells M u)=x):Below w.heap.size w x/\w.heap.size+2<=x.heap.size/\bW x w.heap.size t cs/\(∀i,x.cell? ⟨w.heap.size,i,none⟩=cs[i]?)/\(∀i,x.frozen? ⟨w.heap.size,i,none⟩=false)/\
  bW x (w.heap.size+1) u M/\(∀i,x.cell? ⟨w.heap.size+1,i,none⟩=M[i]?)/\∀i,x.frozen? ⟨w.heap.size+1,i,none⟩=false:=by
 obtain⟨e,a,d,b,c⟩:=gT h;have k:=bc (bW.new w t cs) (.cells M u);rw[h] at k;simp only[mu] at a d b c;exact⟨h▸cQ (aA _ _) _,a,k,k.cell,k.frozen,d,b,c⟩
def aiU{u v : TypeId}(h:((w.alloc (.cells cs t)).alloc (.cells M u)).alloc (.cells es v)=x):Below w.heap.size w x/\w.heap.size+3<=x.heap.size/\bW x w.heap.size t cs/\(∀i,x.cell? ⟨w.heap.size,i,none⟩=cs[i]?)/\(∀i,x.frozen? ⟨w.heap.size,i,none⟩=false)/\
  bW x (w.heap.size+1) u M/\(∀i,x.cell? ⟨w.heap.size+1,i,none⟩=M[i]?)/\(∀i,x.frozen? ⟨w.heap.size+1,i,none⟩=false)/\bW x (w.heap.size+1+1) v es/\(∀i,x.cell? ⟨w.heap.size+1+1,i,none⟩=es[i]?)/\∀i,x.frozen? ⟨w.heap.size+1+1,i,none⟩=false:=by
 obtain⟨e,a,d,b,c⟩:=gT h;have k:=bc (bc (bW.new w t cs) (.cells M u)) (.cells es v);have l:=bc (bW.new (w.alloc (.cells cs t)) u M) (.cells es v);rw[h] at k l;simp only[mu] at a d b c l;exact⟨h▸cQ (cQ (aA _ _) _) _,a,k,k.cell,k.frozen,l,l.cell,l.frozen,d,b,c⟩
structure gh (w:World) where
 to:World
 ok:Below w.heap.size w to
instance auE(w:World):Nonempty (gh w):=⟨⟨w,gn _ _⟩⟩
def aj(h:w.cell? p=some v):∀x:gh w,x.to.cell? p=some v:=λx=>bQ x.ok h
def aG {id:Nat}    (c:P.follows .mixedOrders=true) (e:Region.lexB .any l.toArray=true)
  (h:wpQuiet P l.toArray (λb=>∃x:gh w,b=x.to) (λd=>∀b,(∃x:gh w,b=x.to)->Q .normal d b) l a):(Code.region id l.toArray true).wp P Q a w:=
 wp_region_quiet (C:=λb=>∃x:gh w,b=x.to) c e ⟨⟨w.drew,⟨rfl,rfl,rfl,am _,λ_ _=>rfl⟩⟩,rfl⟩ (by simpa using h)
def aN(h:∃x:gh w,w'=x.to):Below w.heap.size w w':=by
 obtain⟨x,rfl⟩:=h;exact x.ok
def cY  {args:Array Value} {x:gh w} 
  (h:Calls P f args x.to λe b=>e=.returned v/\Below x.to.heap.size x.to b):Calls P f args x.to λe a=>e=.returned v/\∃y:gh w,a=y.to:=
 h.mono λ_ c ⟨he,hb⟩=>⟨he,⟨⟨c,x.ok.trans (hb.mono x.ok.size)⟩,rfl⟩⟩
def dv  {args:Array Value} {x:gh w} 
  (h:Calls P f args x.to λe b=>e=.returned v/\x.to=b):Calls P f args x.to λe a=>e=.returned v/\∃y:gh w,a=y.to:=
 h.mono λ_ _ ⟨he,hb⟩=>⟨he,⟨x,hb.symm⟩⟩
instance ax0(w:World):aW (gh w):=⟨λ_ _=>True,λ_ _ _=>trivial,λ_ _=>True⟩
def gh.le{w:World}(x y:gh w):Prop:=Below x.to.heap.size x.to y.to
def gh.le_refl(x:gh w):gh.le x x:=gn _ _
def gh.mk'{w:World}(x:gh w){w':World}(h:Below x.to.heap.size x.to w'):gh w:=⟨w',x.ok.trans (h.mono x.ok.size)⟩
def aQ      (n:Nat) (b a:List Nat) (d:P.follows .mixedOrders=true:=by kernel_rfl) (g:aiS l n b a=true:=by kernel_rfl) (c:aeF l.toArray n U.tmps.size=true:=by kernel_rfl)
  (h:wpQuiet P l.toArray (λe=>∃x:gh w,e=x.to) (λf=>∃i:List (iI (gh w)),cI P l.toArray (gh.to (w:=w)) (gh.le (w:=w)) (wpList P l.toArray Q (l.drop n)) (pick l a) [] i f) ((pick l b).map (·.2)) U):(Code.region Z l.toArray true).wp P Q U w:=
 aa0 (gh.to (w:=w)) (gh.le (w:=w)) gh.le_refl n b a d g c ⟨w.drew,⟨rfl,rfl,rfl,am _,λ_ _=>rfl⟩⟩ (λ_ _=>trivial) (λ_ _=>trivial) rfl h
section
variable {P:Program} {ops:Array Oper} {w:World} {Qt:Act->World->Prop} {i:Nat} {o:Oper} {l:List (Nat×Oper)} {F:List (Nat×(gh w->Prop))} {Rs:List (iI (gh w))} {a:Act}
def dB (R:Value->World->Prop) (f:o.dst.isSome=true) (j:∀v x y,R v x->Below x.heap.size x y->R v y)
  (q:∀x:gh w,aam F o x->∀b:Exit->Act->World->Prop,(∀v c,Below x.to.heap.size x.to c->R v c->b .normal (a.put o.dst v) c)->wpList P ops b [o] a x.to)
  (g:∀v,cI P ops (gh.to (w:=w)) (gh.le (w:=w)) Qt l ((i,λx=>R v x.to)::F) Rs (a.put o.dst v)):cI P ops (gh.to (w:=w)) (gh.le (w:=w)) Qt ((i,o)::l) F (.any (λv x=>R v x.to)::Rs) a:=
 ku (X:=gh w) (to:=gh.to (w:=w)) (le:=gh.le (w:=w)) (λv x=>R v x.to) (.inl f) (λv x y h d=>j v x.to y.to h d) (λx n m _ _ b k=>q x n b λv c e p=>k v (x.mk' e) e trivial (λ_ _ _ _=>trivial) p) g
def gF (c:Value)
  (g:∀x:gh w,aam F o x->∀b:Exit->Act->World->Prop,(∀d,Below x.to.heap.size x.to d->b .normal (a.put o.dst c) d)->wpList P ops b [o] a x.to)
  (f:cI P ops (gh.to (w:=w)) (gh.le (w:=w)) Qt l F Rs (a.put o.dst c)):cI P ops (gh.to (w:=w)) (gh.le (w:=w)) Qt ((i,o)::l) F (.fix c::Rs) a:=
 anv (X:=gh w) (to:=gh.to (w:=w)) (le:=gh.le (w:=w)) c (λx k m _ _ b j=>g x k b λd e=>j (x.mk' e) e trivial λ_ _ _ _=>trivial) f
def bY(h:∀b,Below w.heap.size w b->∀x:gh w,x.to=b->gU F x->Qt a b):cI P ops (gh.to (w:=w)) (gh.le (w:=w)) Qt [] F [] a:=
 ahB (X:=gh w) (to:=gh.to (w:=w)) (le:=gh.le (w:=w)) λx c=>h x.to x.ok x rfl c
end
def eJ(base:Nat)(e:TypeId)(v:Value)(w:World):Prop:=∃g,v=.slice (some ⟨g,0,none⟩) 0 0/\base<=g/\bW w g e #[]
def eJ.own{base:Nat}(h:eJ base e v w)(b:Nat):w.ownsRow base e b v 0 []:=by
 obtain⟨g,rfl,c,a⟩:=h;exact⟨by simp,.inr ⟨g,0,#[],rfl,c,a,am _,by unfold maxLen;omega,by simp,by simp⟩⟩
def ak(h:bW w g t cs)(a:Below w.heap.size w w'):bW w' g t cs:=(a.block g h.lt).trans h
def eJ.keep{base:Nat}(h:eJ base e v w)(c:Below w.heap.size w w'):eJ base e v w':=by
 obtain⟨g,rfl,b,a⟩:=h;exact⟨g,rfl,b,ak a c⟩
def eJ.new(w:World){base:Nat}(e:TypeId)(a:base<=w.heap.size):eJ base e (.slice (some ⟨w.heap.size,0,none⟩) 0 0) (w.alloc (.cells #[] e)):=⟨_,rfl,a,bW.new _ _ _⟩
def ala(base:Nat)(e:TypeId)(es:Array Value)(v:Value)(w:World):Prop:=∃g,v=.slice (some ⟨g,0,none⟩) 1 1/\base<=g/\bW w g e es
def ala.keep{base:Nat}(h:ala base e es v w)(c:Below w.heap.size w w'):ala base e es v w':=by
 obtain⟨g,rfl,b,a⟩:=h;exact⟨g,rfl,b,ak a c⟩
def ala.new(w:World){base:Nat}(e:TypeId)(es:Array Value)(a:base<=w.heap.size):ala base e es (.slice (some ⟨w.heap.size,0,none⟩) 1 1) (w.alloc (.cells es e)):=⟨_,rfl,a,bW.new _ _ _⟩
end
section
variable {β:Bool}
open Go.RowKit
structure Flat (α:Type) where
 sz:Nat
 cells:α->List Value
 good:α->Prop
 len:∀x,(cells x).length=sz
 one:∀x,∀u∈cells x,u.oneCell'=true
 pos:0<sz
def cx{α:Type}(F:Flat α):fV α:=λ_ _ _ x a=>a=F.cells x/\F.good x
section
variable {α:Type} (F:Flat α)
def cx.loc:Lcy (cx F):=⟨λ_ _ _ h=>h⟩
def dm(xs:List α):List Value:=xs.flatMap F.cells
def nE(xs a:List α):dm F (xs++a)=dm F xs++dm F a:=rM
def aeL(x:α):dm F [x]=F.cells x:=by simp[dm]
def dJ:∀a:List α,(dm F a).length=a.length*F.sz
 |[]=>by simp[dm]
 |x::a=>by
  show(F.cells x++dm F a).length=_;rw[ap,dJ a,F.len,ff,rz,Nat.add_comm]
def dX:∀(a:List α) (i j:Nat) (x:α) (u:Value),a[i]?=some x->(F.cells x)[j]?=some u->(dm F a)[i*F.sz+j]?=some u
 |[],i,j,x,u,h,_=>by simp at h
 |g::a,i,j,x,u,h,hj=>by
  have b:=aB hj;rw[F.len] at b;show(F.cells g++dm F a)[i*F.sz+j]?=some u;cases i with
  |zero=>
   simp at h;subst h;rw[qz (by rw[F.len,tT,jt];exact b),tT,jt];exact hj
  |succ i=>
   have e:(i+1)*F.sz+j=F.sz+(i*F.sz+j):=by rw[rz];omega
   rw[e,qo (by rw[F.len];omega),F.len,rJ];exact dX a i j x u (by simpa using h) hj
def ao3{xs:List α}(h:(dm F xs)[j]?=some u):∃x,xs[j / F.sz]?=some x/\(F.cells x)[j % F.sz]?=some u:=by
 have a:=aB h;rw[dJ] at a;have d:j / F.sz<xs.length:=wd (by rw[tw];exact a);refine⟨xs[j / F.sz],iS d, ?_⟩;have b:j % F.sz<(F.cells xs[j / F.sz]).length:=by rw[F.len];exact ud _ F.pos
 have c:=dX F xs (j / F.sz) (j % F.sz) xs[j / F.sz] _ (iS d) (iS b);rw[vD] at c;rw[iS b,<-c,h]
def pW(xs:List α):∀u∈dm F xs,u.oneCell'=true:=by
 intro u a;obtain⟨g,_,b⟩:=qg.1 a;exact F.one g u b
def aH(e:TypeId)(w:World)(base:Nat)(v:Value)(xs:List α):Prop:=w.ownsRow base e F.sz v xs.length (dm F xs)
variable {F}
def aH.sl{base : Nat}{xs:List α}(h:aH F e w base v xs)(c:∀x∈xs,F.good x)(a:w.heap.size<=hi):cG (cx F) F.sz w base hi xs [v]:=
 axX h a λi x hi=>⟨F.cells x,F.len x,⟨rfl,c x (da hi)⟩,λ_ _ b=>dX F xs i _ x _ hi b⟩
def aiV{base : Nat}(h:w.ownsRow base e Z v n Y)(d:base'<=base):w.ownsRow base' e Z v n Y:=by
 refine⟨h.1, ?_⟩;rcases h.2 with f|⟨g,cap,b,rfl,c,a⟩
 .exact .inl f
 .exact .inr ⟨g,cap,b,rfl,bd d c,a⟩
def aH.base{base : Nat}{xs:List α}(h:aH F e w base v xs)(a:base'<=base):aH F e w base' v xs:=aiV h a
def aH.nil(e:TypeId)(w:World)(base:Nat):aH F e w base (.slice none 0 0) []:=vk _ _ _ _
def aH.ahE{base:Nat}(h:eJ base e v w):aH F e w base v []:=h.own F.sz
def aH.below{base:Nat}{xs:List α}(h:aH F e w base v xs)(a:Below w.heap.size w w'):aH F e w' base v xs:=aeE h a
def aH.fc{base:Nat}{xs:List α}{S:Nat->Prop}(h:aH F e w base v xs)(c:bM S w w')(a:∀b,v.ownBlock=some b->¬S b):aH F e w' base v xs:=adY h c a
def aH.at_{base:Nat}{xs:List α}(h:aH F e w base v xs)(a:v.ownBlock=some g):base<=g/\g<w.heap.size:=h.lt g a
def aH.cf{base:Nat}{xs:List α}(h:aH F e w base v xs)(u:Value)(c:p.block<base):aH F e (w.setCell p u) base v xs:=
 h.fc (S:=λb=>b=p.block) ((bM.refl (λb=>b=p.block) w).setCell (p:=p) (.inl rfl) u) λb a e=>by have:=h.at_ a;omega
def ao4{base : Nat}{e' : TypeId}{v' : Value}{cs : List Value}(h:w.ownsRow base e Z v n cs)(m:w.ownsRow base' e' V v' c Y)(o:e≠e'):∀b,v.ownBlock=some b->v'.ownBlock≠some b:=by
 intro b f a;rcases h.2 with⟨rfl,_⟩|⟨g,cap,l,rfl,_,j,_⟩
 .simp[Value.ownBlock] at f
 .rcases m.2 with⟨rfl,_⟩|⟨p,i,k,rfl,_,d,_⟩
  .simp[Value.ownBlock] at a
  .simp[Value.ownBlock] at f a;rw[f] at j;rw[a,j] at d;simp at d;exact o d.2
def aH.art{base:Nat}{xs:List α}(h:aH F e w base v xs)(u:Value)(a:∀b,v.ownBlock=some b->b≠p.block):aH F e (w.setCell p u) base v xs:=
 h.fc (S:=λb=>b=p.block) ((bM.refl (λb=>b=p.block) w).setCell (p:=p) (.inl rfl) u) a
def aH.form{base:Nat}{xs:List α}(h:aH F e w base v xs):∃A c,v=.slice A xs.length c:=iH h
def acJ:∀(a:List α) (i j:Nat) (x y:α) (u:Value),a[i]?=some x->j<F.sz->F.cells y=(F.cells x).set j u->dm F (a.set i y)=(dm F a).set (i*F.sz+j) u
 |[],i,j,x,y,u,h,_,_=>by simp at h
 |z::a,0,j,x,y,u,h,hj,hy=>by
  simp at h;subst h;show F.cells y++dm F a=(F.cells z++dm F a).set (0*F.sz+j) u
  rw[tT,jt,List.set_append_left _ _ (by rw[F.len];exact hj),hy]
 |z::a,i+1,j,x,y,u,h,hj,hy=>by
  show F.cells z++dm F (a.set i y)=(F.cells z++dm F a).set ((i+1)*F.sz+j) u
  have e:(i+1)*F.sz+j=F.sz+(i*F.sz+j):=by rw[rz];omega
  rw[e,uI _ _ (by rw[F.len];omega),F.len,rJ,acJ a i j x y u (by simpa using h) hj hy]
def aH.put{base cap : Nat}{xs:List α}(h:aH F e w base (.slice (some ⟨g,0,none⟩) xs.length cap) xs){x y:α}(c:xs[i]?=some x)(a:j<F.sz)(b:F.cells y=(F.cells x).set j u) :
  aH F e (w.setCell ⟨g,i*F.sz+j,none⟩ u) base (.slice (some ⟨g,0,none⟩) xs.length cap) (xs.set i y):=by
 unfold aH;rw[acJ xs i j x y u c a b,qL];exact(h.stored _ u).1
def aH.cell{base cap : Nat}{xs:List α}(h:aH F e w base (.slice (some ⟨g,0,none⟩) xs.length cap) xs){x:α}(b:xs[i]?=some x)(a:(F.cells x)[j]?=some u):w.cell? ⟨g,i*F.sz+j,none⟩=some u:=by
 have c:=aB a;rw[F.len] at c;have d:=aB b;have f:(i+1)*F.sz<=xs.length*F.sz:=rb _ d;rw[rz] at f;rw[h.cellAt _ (by omega)];exact dX F xs i j x u b a
def aH.frozen{base cap : Nat}{xs:List α}(h:aH F e w base (.slice (some ⟨g,0,none⟩) n cap) xs)(a:n=xs.length)(j:Nat):w.frozen? ⟨g,j,none⟩=false:=by
 subst a;exact h.frozenAt j
def aH.some_{base:Nat}{xs:List α}(h:aH F e w base v xs)(b:0<xs.length):∃g c,v=.slice (some ⟨g,0,none⟩) xs.length c:=by
 rcases h.2 with⟨_,d⟩|⟨g,cap,a,rfl,_⟩
 .omega
 .exact⟨g,cap,rfl⟩
def pq{xs:List α}(h:cG (cx F) F.sz w Z hi xs [.slice A n c])(t:hi<=w.heap.size) :
  0<xs.length->∃a,A=some a/\∀(j:Nat) (u:Value),(dm F xs)[j]?=some u->∀f,Below w.heap.size w f->f.cell? (a.add j)=some u:=by
 intro k;obtain⟨x,p⟩:=ar k;obtain⟨b,d,_,rfl,_⟩:=h.at_ p;refine⟨_,rfl,λj u m f o=> ?_⟩;obtain⟨y,l,g⟩:=ao3 F m;obtain⟨s,v,r,e,_,_,_,⟨rfl,_⟩,q⟩:=h.at_ l;simp only[jp,qk,qm] at e;obtain⟨rfl,rfl⟩:=e;have i:(⟨b,d,none⟩:Addr).add j=⟨b,d+j,none⟩:=by unfold Addr.add;split<;>simp_all
 rw[i];have:=q _ _ g;rw[vd,vD] at this;exact bQ o this
def cG.good{xs:List α}{cs:List Value}(h:cG (cx F) F.sz w Z hi xs cs):∀x∈xs,F.good x:=λx b=>by
 obtain⟨c,a⟩:=h.aq7 x b;exact a.2
end
def fM:Flat Int:=⟨1,λx=>[.int .i64 x],cA,λ_=>rfl,λx u a=>by rw[lc.1 a];rfl,by decide⟩
def pX(xs:List Int):dm fM xs=xs.map (Value.int .i64):=by
 induction xs with
 |nil=>rfl
 |cons x xs a=>show Value.int .i64 x::dm fM xs=_;rw[a];rfl
section
variable {P:Program}
def aiW   (p:gD P t e Z V) {base:Nat} (q:eJ base e v w)
  (D:news.length=m*Z) (F:0<m->∃a,A=some a/\∀(j:Nat) (u:Value),news[j]?=some u->w.cell? (a.add j)=some u) (J:∀u∈news,u.oneCell'=true)
  (Q:m<=1099511627776) (l:base<=w.heap.size) :
  ∃E s,(Builtin.append_ #[t,t] ty #[v,.slice A m c]).run P w=.ok E s/\s.ownsRow base e Z E m news/\Below w.heap.size w s:=by
 obtain⟨i,z,G,M,B,C,R⟩:=p.info;have o:=q.own Z;obtain⟨K,I,d,y⟩:=anp (P:=P) (ty:=ty) p o (c:=c) D F J (by omega) l;have b:=y.own;rw[jt,rr] at b;refine⟨K,I,d,b, ?_⟩;obtain⟨g,rfl,N,H⟩:=q;rcases oS m with x|x
 .subst x;have r:news=[]:=rZ (by simpa using D);subst r;have k:(Builtin.append_ #[t,t] ty #[.slice (some ⟨g,0,none⟩) 0 0,.slice A 0 c]).run P w=.ok (.slice (some ⟨g,0,none⟩) 0 0) w:=by
   cases A<;>simp[Builtin.append_,lw p.slice,sizeOf,typeInfo,G,Builtin.lenOf,Builtin.firstCells,storeCells,loadCells,loadCellsFrom]
  rw[k] at d;cases d;exact gn _ _
 .obtain⟨L,rfl,n⟩:=F x;have f:m*V<=140737488355328:=bd (Nat.mul_le_mul Q p.small) (by omega);have k:=run_append_grow (P:=P) w t ty e i z p.slice G M ⟨g,0,none⟩ 0 0 [] (by simp) (λj u O=>by simp at O) L m c news (by rw[B];exact D) n (by omega) (by omega) (growslice_fits (by omega) (by rw[C,jt];exact f));rw[k] at d;cases d;exact((gn _ _).drew).alloc (am _) _
variable {α:Type} {F:Flat α}
def aeN (n:Below w.heap.size w x)     (g:o.guard=none) (s y:Operand) (t:TypeId)
  (D:o.op=.call ⟨.builtin .append,#[s,y],#[t,t]⟩)
  (B:gD P t e F.sz Z) {xs:List α} {base : Nat} (p:base<=w.heap.size) (I:a.eval s=v) (E:a.eval y=.slice A xs.length c) (k:eJ base e v x)
  (m:0<xs.length->∃a,A=some a/\∀(j:Nat) (u:Value),(dm F xs)[j]?=some u->∀d,Below w.heap.size w d->d.cell? (a.add j)=some u) (J:xs.length<=1099511627776)
  (h:∀f i,Below x.heap.size x i->aH F e i base f xs->wpList P X O rest (a.put o.dst f) i):wpList P X O (o::rest) a x:=by
 obtain⟨f,d,G,b,l⟩:=aiW (P:=P) (ty:=o.type) B k (c:=c) (dJ F xs) (λC=>by
  obtain⟨z,r,L⟩:=m C;exact⟨z,r,λj u H=>L j u H _ n⟩) (pW F xs) J (bd p n.size)
 refine wpList_plain g λK q=> ?_;unfold Oper.wp execOp;simp only[D,resolve,invoke,builtin,tu,tS,uk,List.map_toArray,qP,List.map_nil,I,E,G];exact q _ _ (h f d l b)
def aiX {x:gh w}    (g:o.guard=none) (s y:Operand) (t:TypeId)
  (k:o.op=.call ⟨.builtin .append,#[s,y],#[t,t]⟩)
  (n:gD P t e F.sz Z) {xs:List α} {base : Nat} (q:base<=w.heap.size) (r:a.eval s=v) (p:a.eval y=.slice A xs.length c) (i:eJ base e v x.to)
  (l:0<xs.length->∃a,A=some a/\∀(j:Nat) (u:Value),(dm F xs)[j]?=some u->∀m,Below w.heap.size w m->m.cell? (a.add j)=some u) (z:xs.length<=1099511627776)
  (h:∀d (f:gh w),gh.le x f->aH F e f.to base d xs->O .normal (a.put o.dst d) f.to):wpList P X O [o] a x.to:=
 aeN x.ok g s y t k n q r p i l z λd f b k=>h d (x.mk' b) b k
def bN      (j:o.guard=none) (s x:Operand) (t:TypeId)
  (n:o.op=.call ⟨.builtin .append,#[s,x],#[t,t]⟩)
  (m:gD P t e F.sz Z) {base:Nat} {xs:List α} (y:α) (p:a.eval s=v) (f:aH F e w base v xs)  (q:a.eval x=.slice (some ⟨w.heap.size,0,none⟩) 1 1) (d:es.toList=F.cells y)
  (r:xs.length<=1099511627775) (c:base<=w.heap.size)
  (h:∀i g,aH F e g base i (xs++[y])->bM (λb=>v.ownBlock=some b) w g->(∀b,i.ownBlock=some b->v.ownBlock=some b\/w.heap.size<=b)->wpList P X Q rest (a.put o.dst i) g) :
  wpList P X Q (o::rest) a (w.alloc (.cells es T)):=
 anq j s x t n m p f q (by rw[<-qO,d,F.len]) (by rw[d];exact F.one y) r c λi g k=>h i g (by
  have l:=k.own;unfold aH;rw[nE,aeL,ap];rw[d] at l;exact l) k.fc k.at_
def ago      (k:o.guard=none) (s x:Operand) (t:TypeId)
  (r:o.op=.call ⟨.builtin .append,#[s,x],#[t,t]⟩)
  (q:gD P t e F.sz Z) {base:Nat} {xs:List α} (y:α) (B:a.eval s=v) (d:aH F e w base v xs)   (C:a.eval x=.slice (some ⟨g,0,none⟩) 1 1) (p:bW w g T es) (n:es.toList=F.cells y)
  (D:xs.length<=1099511627775) (c:base<=w.heap.size)
  (h:∀i f,aH F e f base i (xs++[y])->bM (λb=>v.ownBlock=some b) w f->(∀b,i.ownBlock=some b->v.ownBlock=some b\/w.heap.size<=b)->wpList P X Q rest (a.put o.dst i) f) :
  wpList P X Q (o::rest) a w:=
 abJ k s x t r q B d C (news:=F.cells y) (by rw[F.len,Nat.one_mul]) (λ_=>⟨_,rfl,λj u z=>by
  have m:(⟨g,0,none⟩:Addr).add j=⟨g,j,none⟩:=by unfold Addr.add;split<;>simp_all
  rw[m,p.cell,<-du,n];exact z⟩) (F.one y) (by omega) c λi f l=>h i f (by
  have A:=l.own;unfold aH;rw[nE,aeL,ap];exact A) l.fc l.at_
end
end
section
variable {β:Bool}
open Go.RowKit
def ao5 (t e:TypeId) (z:Value) (f a:Nat) (j:P.underlying t=some (.slice e)) (d:(P.info? e).map (λi=>(i.zero,i.size,i.bytes))=some (some z,f,a))
  (n:Nat) (b:a*n<=281474976710656) (o:n<=9223372036854775807) (w:World) :
  (Instr.makeSlice t (.int .i64 (n:Int)) (.int .i64 (n:Int))).run P w=.ok (.slice (some ⟨w.heap.size,0,none⟩) n n) (w.alloc (.cells (madeCells z.cells (n*f)) e)):=by
 obtain⟨i,m,p,l,k⟩:=info_parts d;have c:(i.bytes:Int)*(n:Int)<=281474976710656:=by
  have h:((i.bytes*n:Nat):Int)<=281474976710656:=by rw[k];omega
  rwa [Int.natCast_mul] at h
 have g:=run_make (P:=P) w t e i z j m p .i64 .i64 n n (by omega) (ur _) c (by omega);simp only[sN,l] at g;exact g
end
section
variable {β:Bool}
open Go.RowKit
open Classical in
noncomputable def fA(key:Int)(x:Int×ByteArray):ByteArray×Bool:=if(eZ x.2).2=true/\bA key (bs (eZ x.2).1)=x.1 then((eZ x.2).1,true) else(⟨#[]⟩,false)
def agp{s:ByteArray}(h:(eZ s).2=true):aU (bs (eZ s).1):=by
 unfold eZ at h ⊢;split
 .rename_i a;exact a.1
 .rename_i a;rw[be a] at h;cases h
def anz(key:Int)(x:Int×ByteArray)(u:1<=key/\key<=99)(f:x.2.size<=maxLen)(w:World) :
  Calls (ah β) 16 #[.agg #[.int .i64 x.1,.string x.2],.int .i64 key] w λe o=>e=.returned (.tuple #[.string (fA key x).1,.bool (fA key x).2])/\Below w.heap.size w o:=by
 obtain⟨n,s⟩:=x;dsimp only at f ⊢;replace f:=ab f;go_enter zL,ntmps16;go_wp2;generalize r:w.alloc (.cells #[.int .i64 n,.string s] 48)=w0 at *;obtain⟨y,z,g,t,v⟩:=gT r;refine(aoW s f.out w0).mono ?_;rintro e l ⟨rfl,d⟩;replace g:=ak g d;replace t:=g.cell;replace v:=g.frozen;replace d:=ae y d;cases b:eZ s with
 |mk p m=>
  cases m with
  |false=>
   have j:fA key (n,s)=(⟨#[]⟩,false):=by
    unfold fA;rw[be];intro h;have:=h.1;rw[show(eZ (n,s).2).2=false by rw[show eZ (n,s).2=_ from b]] at this;cases this
   have HC:=ab j;replace b:=ab b;go_wp2;go_ret2;rw[HC.out];exact⟨rfl,d⟩
  |true=>
   have i:aU (bs p):=by
    have:=agp (s:=s) (by rw[b]);rw[b] at this;exact this
   have j:fA key (n,s)=if bA key (bs p)=n then(p,true) else(⟨#[]⟩,false):=by
    unfold fA;rw[show eZ (n,s).2=(p,true) from b];by_cases h:bA key (bs p)=n
    .rw[dl ⟨rfl,h⟩,dl h]
    .rw[be λq=>h q.2,be h]
   have HC:=ab j;replace b:=ab b;replace i:=ab i;go_wp2;refine(arf key p n u i.out l).mono ?_;rintro e A ⟨rfl,rfl⟩;by_cases h:bA key (bs p)=n
   .have a:=HC.out;rw[dl h] at a;have c:=ab a;have k:decide (bA key (bs p)=n)=true:=db h;rw[k];go_wp2;go_ret2;rw[c.out];exact⟨rfl,d⟩
   .have a:=HC.out;rw[be h] at a;have c:=ab a;have k:decide (bA key (bs p)=n)=false:=bv h;rw[k];go_wp2;go_ret2;rw[c.out];exact⟨rfl,d⟩
end
section
variable {β:Bool}
open Go.RowKit
def aqQ(xs:List Int)(n:Int)(A:Option Addr)(m c:Nat)(w:World)(q hi:Nat)(h:cG oZ 1 w q hi xs [.slice A m c]) :
  Calls (ah β) 9 #[.slice A m c,.int .i64 n] w λe o=>e=.returned (.bool (decide (n∈xs)))/\w=o:=by
 obtain⟨rfl,s,p⟩:=h.len_;unfold maxLen at p;go_enter qF9,ntmps9;go_wp2
 go_loop [5] (λi=>∃k:Nat,k<=xs.length/\i=.int .i64 k/\n∉xs.take k) (λi=>xs.length-(intOf i).toNat)
 case atStart=>exact⟨0,fa _,rfl,by simp⟩
 case round=>
  obtain⟨k,r,rfl,d⟩:=hrel;replace d:=ab d;by_cases f:k<xs.length
  .obtain⟨x,a⟩:=ar f;obtain⟨b,l,rfl,_,_,_,g⟩:=h.ints_at a;replace a:=ab a;by_cases j:x=n
   .subst j;go_wp2;go_ret;exact⟨aC (by simp[da a.out]),rfl⟩
   .go_wp2
    go_round
    case rel=>exact⟨k+1,by omega,by go_num,by rw[mx a.out];simp[d.out,sD j]⟩
    simp[intOf];omega
  .obtain rfl:k=xs.length:=by omega
   go_wp2;go_ret;exact⟨aC (by have:=d.out;rw[ge] at this;simp[this]),rfl⟩
def auF(F:FuncId):Prop:=∀(args:Array Value) (w:World),(callFunc F args).run (ah β) w=.ok (.enter F args) w
def ax1{fn:Func}{c:Code}(b:(ah β).funcs[f]?=some fn)(a:(fn.name == "runtime.NumGoroutine")=false)(e:fn.body=some c):auF (β:=β) f:=by
 intro args w;have d:fn.name ≠ "runtime.NumGoroutine" :=by simpa using a
 simp[callFunc,b,d,e]
def alb(xs f:List Int)(s t:Value)(w:World)(F hi jR hi':Nat)(p:cG oZ 1 w F hi xs [s])(r:cG oZ 1 w jR hi' f [t]) :
  Calls (ah β) 6 #[s,t] w λe v=>e=.returned (.bool (decide (xs=f)))/\∃n,v=w.drewN n:=by
 obtain⟨A,c,rfl⟩:=p.form;obtain⟨L,J,rfl⟩:=r.form;obtain⟨_,I,D⟩:=p.len_;unfold maxLen at D;by_cases a:xs.length=f.length
 .have B:((xs.length:Int) !=f.length)=false:=by rw[tJ];omega
  replace a:=ab a;go_enter qF6,ntmps6;go_wp2;go_loopw [5] (λi wr=>∃k:Nat,k<=xs.length/\i=.int .i64 k/\xs.take k=f.take k/\∃n,wr=w.drewN n) (λi _=>xs.length-(intOf i).toNat)
  case atStart=>exact⟨0,fa _,rfl,rfl,0,rfl⟩
  case round=>
   obtain⟨k,H,rfl,m,n,rfl⟩:=hrel;replace m:=ab m;by_cases o:k<xs.length
   .obtain⟨x,g⟩:=ar o;obtain⟨y,j⟩:=ar (l:=f) (k:=k) (by have:=a.out;omega);obtain⟨b,C,rfl,_,_,_,q⟩:=p.ints_at g;obtain⟨K,G,rfl,_,_,_,E⟩:=r.ints_at j;have z:(k:Int)<(f.length:Int):=by have:=a.out;omega
    replace g:=ab g;replace j:=ab j;by_cases d:x=y
    .have u:(x !=y)=false:=by rw[tJ];exact d
     replace d:=ab d;go_wp2
     go_quiet (fail)
     go_wp2;go_roundw
     case rel=>exact⟨k+1,by omega,by go_num,by rw[mx g.out,mx j.out,m.out,d.out],_,rfl⟩
     simp[intOf];omega
    .have u:(x !=y)=true:=by rw[tY];exact d
     replace d:=ab d;go_wp2
     go_quiet (fail)
     go_wp2;go_ret;exact⟨aC (by symm;rw[sW];rintro rfl;exact d.out (ef (g.out.symm.trans j.out))),by first|exact⟨_,rfl⟩|exact⟨_,World.drewN_drewN _ _ _⟩⟩
   .obtain rfl:k=xs.length:=by omega
    go_wp2;go_ret;exact⟨aC (by symm;rw[tR];have:=m.out;rw[ge,qe (by have:=a.out;omega)] at this;exact this),n,rfl⟩
 .have B:((xs.length:Int) !=f.length)=true:=by rw[tY];omega
  replace a:=ab a;go_enter qF6,ntmps6;go_wp2;go_ret;exact⟨aC (by symm;simp;intro e;exact a.out (by rw[e])),0,rfl⟩
end
section
def opJ(J:Nat->Bool):Operand->Bool
 |.tmp t=>!J t
 |_=>true
def jA:Op->Bool
 |.move _|.assign _|.load .. | .binOp .. | .unOp .. | .alloc _|.store .. | .fieldAddr .. | .indexAddr .. | .buildSlice .. =>true
 |.call c=>match c.callee with
  |.builtin .len|.builtin .append=>true
  |_=>false
 |_=>false
def anA(J:Nat->Bool)(o:Oper):Bool:=o.guard.isNone&&(jA o.op&&o.op.operands.toList.all (opJ J))
def jY(J:Nat->Bool):Code->Bool
 |.skip|.ret|.exit _=>true
 |.region _ d draw=>!draw&&d.toList.all (anA J)
 |.seq a b=>jY J a&&jY J b
 |.cond c a b=>opJ J c&&(jY J a&&jY J b)
 |.block _ a|.loop a=>jY J a
 |_=>false
def lV(J:Nat->Bool):Item->Bool
 |.code c|.inLoop c=>jY J c
 |.inBlock _=>true
 |.inRegion a _=>a.toList.all (anA J)
 |_=>false
structure JR (J:Nat->Bool) (fr cE:Frame):Prop where
 fn:cE.fn=fr.fn
 todo:cE.todo=fr.todo
 defers:fr.defers=[]/\cE.defers=[]
 mode:cE.mode=fr.mode
 kind:fr.kind=.normal/\cE.kind=.normal
 round:fr.roundOf=none/\cE.roundOf=none
 size:cE.tmps.size=fr.tmps.size
 agree:∀i,J i=false->cE.tmps[i]?=fr.tmps[i]?
 items:fr.todo.all (lV J)=true
section
variable {P:Program} {J:Nat->Bool} {fr cE:Frame}
def JR.eval(h:JR J fr cE){x:Operand}(a:opJ J x=true):cE.eval x=fr.eval x:=by
 cases x with
 |tmp t=>
  have:=h.agree t (by simpa[opJ] using a);show cE.tmps.getD t undef=fr.tmps.getD t undef;rw[gc,gc,this]
 |_=>rfl
def alc{e e':Operand->Value}(j:jA o.op=true)(h:∀x∈o.op.operands.toList,e x=e' x):execOp e o=execOp e' o:=by
 obtain⟨dst,op,m,q,after,l⟩:=o;dsimp only at j h;have parts:∀(g:Array (Nat×Operand)),(∀x∈(g.toList.map (·.2)),e x=e' x)->(g.map λ(i,x)=>(i,e x))=g.map λ(i,x)=>(i,e' x):=λg p=>by
  apply wm;rintro⟨i,x⟩ k;have:=p x (mw.2 ⟨(i,x),by simpa using k,rfl⟩);simp only[this]
 cases op with
 |move x=>simp only[execOp];rw[h x (by simp[Op.operands])]
 |assign x=>simp only[execOp];rw[h x (by simp[Op.operands])]
 |load t a=>simp only[execOp];rw[h a (by simp[Op.operands])]
 |unOp op t x=>simp only[execOp];rw[h x (by simp[Op.operands])]
 |alloc t=>rfl
 |fieldAddr t x f=>simp only[execOp];rw[h x (by simp[Op.operands])]
 |store t a x=>simp only[execOp];rw[h a (by simp[Op.operands]),h x (by simp[Op.operands])]
 |binOp op t x y u=>simp only[execOp];rw[h x (by simp[Op.operands]),h y (by simp[Op.operands])]
 |indexAddr t x i=>simp only[execOp];rw[h x (by simp[Op.operands]),h i (by simp[Op.operands])]
 |buildSlice t n g=>simp only[execOp];rw[parts g (by simpa[Op.operands] using h)]
 |call c=>
  obtain⟨d,args,s⟩:=c;cases d with
  |builtin b=>
   have r:args.map e=args.map e':=wm λx k=>h x (by simp[Op.operands,Call.operands];exact k);simp only[execOp,resolve,r]
  |_=>simp[jA] at j
 |_=>simp[jA] at j
def fP{s:Sem Value}(h:(s.bind λa=>Sem.pure (Next.value a)).run P w=.ok N S):∃v,N=.value v:=by
 have e:=qJ P s (λa=>Sem.pure (Next.value a)) w;rw[e] at h;cases b:s.run P w with
 |ok a c=>rw[b] at h;simp only[Result.andThen,Sem.run,sB] at h;exact⟨a,h.1.symm⟩
 |halt q c=>rw[b] at h;simp only[Result.andThen] at h;cases h
def ao6{s:Sem Unit}(h:(s.bind λ_=>Sem.pure Next.skip).run P w=.ok N S):N=.skip:=by
 have e:=qJ P s (λ_=>Sem.pure Next.skip) w;rw[e] at h;cases b:s.run P w with
 |ok a c=>rw[b] at h;simp only[Result.andThen,Sem.run,sB] at h;exact h.1.symm
 |halt q c=>rw[b] at h;simp only[Result.andThen] at h;cases h
def aiY{e:Operand->Value}(g:jA o.op=true)(h:(execOp e o).run P w=.ok N S):(∃v,N=.value v)\/N=.skip:=by
 obtain⟨dst,op,k,l,after,j⟩:=o;dsimp only at g;cases op with
 |move x=>simp only[execOp] at h;cases h;exact .inl ⟨_,rfl⟩
 |assign x=>simp only[execOp] at h;cases h;exact .inl ⟨_,rfl⟩
 |load t a=>exact .inl (fP h)
 |unOp op t x=>exact .inl (fP h)
 |alloc t=>exact .inl (fP h)
 |fieldAddr t x f=>exact .inl (fP h)
 |store t a x=>exact .inr (ao6 h)
 |binOp op t x y q=>exact .inl (fP h)
 |indexAddr t x i=>exact .inl (fP h)
 |buildSlice t n m=>exact .inl (fP h)
 |call c=>
  obtain⟨d,args,p⟩:=c;cases d with
  |builtin b=>cases b<;>first|exact .inl (fP h)|simp[jA] at g
  |_=>simp[jA] at g
 |_=>simp[jA] at g
def JR.set(h:JR J fr cE)(d:Nat)(v:Value):(cE.tmps.setIfInBounds d v).size=(fr.tmps.setIfInBounds d v).size/\∀i,J i=false->(cE.tmps.setIfInBounds d v)[i]?=(fr.tmps.setIfInBounds d v)[i]?:=by
 refine⟨by simpa using h.size,λi a=> ?_⟩;rw[pm,pm,h.size];split
 .rfl
 .exact h.agree i a
def aa1:∀{k l:List Item} {id:Nat},exitTo id k=some l->k.all (lV J)=true->l.all (lV J)=true
 |[],_,_,h,_=>by cases h
 |x::k,l,id,h,hk=>by
  simp only[qu,fd] at hk;unfold exitTo at h;split at h
  .rename_i a b e;cases e;split at h
   .cases h;exact hk.2
   .exact aa1 h hk.2
  .rename_i e;cases e;exact aa1 h hk.2
  .rename_i e;cases e
def ald{fr:Frame}{cs:List Frame}{i:Array Event}(h:early P fr cs none g w=.go L S i) :
  L.frame.kind=.early\/(L=⟨fr,cs,.running,none,none⟩/\∀(cE:Frame) (a:List Frame),cE.kind=fr.kind->early P cE a none g w=.go ⟨cE,a,.running,none,none⟩ S i):=by
 have d:∀{w S:World} {L:Goroutine} {i:Array Event},(match w.heap[g]? with
   |some (.pending c b)=>GStep.go ⟨fr,cs,.running,none,none⟩ {w with heap:=w.heap.setIfInBounds g (.cells c b)}
   |_=>.ended (.stuck "early: the variable does not wait" (fr.pos P)) w)=.go L S i->L=⟨fr,cs,.running,none,none⟩/\∀(cE:Frame) (a:List Frame),(match w.heap[g]? with
   |some (.pending c b)=>GStep.go ⟨cE,a,.running,none,none⟩ {w with heap:=w.heap.setIfInBounds g (.cells c b)}
   |_=>.ended (.stuck "early: the variable does not wait" (cE.pos P)) w)=.go ⟨cE,a,.running,none,none⟩ S i:=λ{w S L i} h=>by
  split at h
  .rename_i c b e;injection h with l k p
   subst l k p;exact⟨rfl,λcE a=>rfl⟩
  .cases h
 unfold early at h ⊢;dsimp only at h ⊢;by_cases l:(!P.follows .staticDataAhead)=true
 .simp only[l,ph] at h ⊢;exact .inr ⟨(d h).1,λcE a _=>(d h).2 cE a⟩
 .simp only[l,qB,kw] at h ⊢;cases k:P.stepOf g with
  |none=>simp only[k] at h;cases h
  |some f=>
   simp only[k] at h ⊢;by_cases p:((P.code? f).any P.atRunTime)=true
   .simp only[p,ph] at h ⊢;exact .inr ⟨(d h).1,λcE a _=>(d h).2 cE a⟩
   .simp only[p,qB,kw] at h ⊢;by_cases t:(((P.code? f).bind λc=>(readies c).getLast?).bind w.shape?).isSome=true
    .simp only[t,ph] at h ⊢;exact .inr ⟨(d h).1,λcE a _=>(d h).2 cE a⟩
    .simp only[t,qB,kw] at h ⊢;have s:∀cE:Frame,cE.kind=fr.kind->(cE.kind ==CallKind.early)=(fr.kind ==CallKind.early):=λcE e=>by rw[e]
     cases v:P.found w P.funcs.size f<;>cases r:(fr.kind ==CallKind.early)<;>simp only[v,r] at h
     .cases h
     .cases h
     .exact .inr ⟨(d h).1,λcE a e=>by rw[s cE e,r];exact(d h).2 cE a⟩
     .cases h
     .by_cases m:((P.code? f).any P.plainData)=true
      .simp only[m,ph] at h;injection h with j;subst j;exact .inl rfl
      .simp only[m,qB,kw] at h;by_cases o:(!(P.code? f).any P.bareCopy)=true
       .simp only[o,ph] at h;exact .inr ⟨(d h).1,λcE a e=>by rw[s cE e,r];simp only[m,o,qB,ph,kw];exact(d h).2 cE a⟩
       .simp only[o,qB,kw] at h;cases u:(choose (.early g)).run P w with
        |ok n x=>
         rw[u] at h;cases n with
         |zero=>exact .inr ⟨(d h).1,λcE a e=>by rw[s cE e,r];simp only[m,o,qB,kw];exact(d h).2 cE a⟩
         |succ n=>injection h with j;subst j;exact .inl rfl
        |halt q x=>rw[u] at h;cases h
     .injection h with j;subst j;exact .inl rfl
theorem aru (h:JR J fr cE) (hm:fr.mode=.run) {cs Y:List Frame} {main:Bool} {w w1:World} {es:Array Event} {B:Frame}
  (D:stepG P main ⟨fr,cs,.running,none,none⟩ w=.go ⟨B,Y,.running,none,none⟩ w1 es) (K:B.mode=.run\/B.mode=.returning) (af:B.kind=.normal) :
  Y=cs/\B.fn=fr.fn/\∃I,JR J B I/\∀C,stepG P main ⟨cE,C,.running,none,none⟩ w=.go ⟨I,C,.running,none,none⟩ w1 es:=by
 have h0:=h;obtain⟨fn,n,ao,ds,md,kd,ro⟩:=fr;obtain⟨p,F,fE,ay,ax,aK,aJ⟩:=cE;obtain⟨E,e2,⟨e3,e4⟩,e5,⟨e6,e7⟩,⟨e8,e9⟩,hz,ha,hi⟩:=h;dsimp only at E e2 e3 e4 e5 e6 e7 e8 e9 hz ha hi hm;subst E e2 e3 e4 e5 e6 e7 e8 e9 hm;have G:∀{k:List Item},k.all (lV J)=true->JR J ⟨p,n,k,[],.run,.normal,none⟩ ⟨p,F,k,[],.run,.normal,none⟩:=λ{k} hk=>⟨rfl,rfl,⟨rfl,rfl⟩,rfl,⟨rfl,rfl⟩,⟨rfl,rfl⟩,hz,ha,hk⟩
 have ret:JR J ⟨p,n,fE,[],.returning,.normal,none⟩ ⟨p,F,fE,[],.returning,.normal,none⟩:=⟨rfl,rfl,⟨rfl,rfl⟩,rfl,⟨rfl,rfl⟩,⟨rfl,rfl⟩,hz,ha,hi⟩;have fin:∀{t:Array Value} {t':Array Value} {k:List Item},t'.size=t.size->(∀i,J i=false->t'[i]?=t[i]?)->k.all (lV J)=true->JR J ⟨p,t,k,[],.run,.normal,none⟩ ⟨p,t',k,[],.run,.normal,none⟩:=λa b hk=>⟨rfl,rfl,⟨rfl,rfl⟩,rfl,⟨rfl,rfl⟩,⟨rfl,rfl⟩,a,b,hk⟩;have still:∀{x x':Frame},stepG P main ⟨⟨p,n,fE,[],.run,.normal,none⟩,cs,.running,none,none⟩ w=.go ⟨x,cs,.running,none,none⟩ w->
   (∀C,stepG P main ⟨⟨p,F,fE,[],.run,.normal,none⟩,C,.running,none,none⟩ w=.go ⟨x',C,.running,none,none⟩ w)->JR J x x'->(S:x.fn=p:=by rfl)->
   Y=cs/\B.fn=p/\∃I,JR J B I/\∀C,stepG P main ⟨⟨p,F,fE,[],.run,.normal,none⟩,C,.running,none,none⟩ w=.go ⟨I,C,.running,none,none⟩ w1 es:=λ{x x'} a b c S=>by
  rw[a] at D;injection D with X V g3
  injection X with Q Z
  subst V g3 Q Z;exact⟨rfl,S,x',c,b⟩
 cases fE with
 |nil=>exact still rfl (λ_=>rfl) ret
 |cons it k=>
  simp only[qu,fd] at hi;obtain⟨A,H⟩:=hi;cases it with
  |inBlock id=>exact still rfl (λ_=>rfl) (G H)
  |inLoop c=>exact still rfl (λ_=>rfl) (G (by simp only[qu,fd];exact⟨A,A,H⟩))
  |code c=>
   cases c with
   |skip=>exact still rfl (λ_=>rfl) (G H)
   |ret=>exact still rfl (λ_=>rfl) ret
   |seq a b=>
    simp only[lV,jY,fd] at A;exact still rfl (λ_=>rfl) (G (by simp only[qu,fd];exact⟨A.1,A.2,H⟩))
   |block id a=>exact still rfl (λ_=>rfl) (G (by simp only[qu,fd];exact⟨A,rfl,H⟩))
   |loop a=>exact still rfl (λ_=>rfl) (G (by simp only[qu,fd];exact⟨A,A,H⟩))
   |region id j draw=>
    simp only[lV,jY,fd,uq] at A;obtain⟨rfl,U⟩:=A;exact still rfl (λ_=>rfl) (G (by simp only[qu,fd];exact⟨U,H⟩))
   |exit id=>
    cases s:exitTo id k with
    |none=>exact absurd D (by
      have:stepG P main ⟨⟨p,n,.code (.exit id)::k,[],.run,.normal,none⟩,cs,.running,none,none⟩ w=.ended (.stuck "exit, goto: no such block or label" (Frame.pos P ⟨p,n,.code (.exit id)::k,[],.run,.normal,none⟩)) w:=by
       simp[stepG,stepG.exec,s]
      rw[this];intro e;cases e)
    |some l=>
     have E:∀(t:Array Value) (c:List Frame),stepG P main ⟨⟨p,t,.code (.exit id)::k,[],.run,.normal,none⟩,c,.running,none,none⟩ w=.go ⟨⟨p,t,l,[],.run,.normal,none⟩,c,.running,none,none⟩ w:=λt c=>by
      simp[stepG,stepG.exec,s]
     exact still (E _ _) (λ_=>E _ _) (G (aa1 s H))
   |cond c a b=>
    simp only[lV,jY,fd] at A;have S:=h0.eval A.1;cases hv:Frame.eval ⟨p,n,.code (.cond c a b)::k,[],.run,.normal,none⟩ c with
    |bool q=>
     rw[hv] at S;have E:∀(t:Array Value) (cc:List Frame),Frame.eval ⟨p,t,.code (.cond c a b)::k,[],.run,.normal,none⟩ c=.bool q->stepG P main ⟨⟨p,t,.code (.cond c a b)::k,[],.run,.normal,none⟩,cc,.running,none,none⟩ w=.go ⟨⟨p,t,.code (if q then a else b)::k,[],.run,.normal,none⟩,cc,.running,none,none⟩ w:=λt cc ht=>by
      simp[stepG,stepG.exec,ht]
     exact still (E _ _ hv) (λ_=>E _ _ S) (G (by simp only[qu,fd];cases q<;>first|exact⟨A.2.1,H⟩|exact⟨A.2.2,H⟩))
    |_=>
     exfalso;have:∃o,stepG P main ⟨⟨p,n,.code (.cond c a b)::k,[],.run,.normal,none⟩,cs,.running,none,none⟩ w=.ended o w:=by
      simp[stepG,stepG.exec,hv]
     obtain⟨o,e⟩:=this;rw[e] at D;cases D
   |_=>cases A
  |inRegion j il=>
   cases il with
   |nil=>exact still rfl (λ_=>rfl) (G H)
   |cons i f=>
    have T:∀l,(Item.inRegion j l::k).all (lV J)=true:=λl=>by simp only[qu,fd];exact⟨A,H⟩
    cases ho:j[i]? with
    |none=>
     have E:∀(t:Array Value) (c:List Frame),stepG P main ⟨⟨p,t,.inRegion j (i::f)::k,[],.run,.normal,none⟩,c,.running,none,none⟩ w=.go ⟨⟨p,t,.inRegion j f::k,[],.run,.normal,none⟩,c,.running,none,none⟩ w:=λt c=>by
      simp[stepG,stepG.exec,ho,Frame.finish]
     exact still (E _ _) (λ_=>E _ _) (G (T _))
    |some o=>
     have a0:anA J o=true:=jn.1 A o (rT.2 (qx ho));simp only[anA,fd] at a0;obtain⟨hg,a5,U⟩:=a0;have lU:o.guard=none:=by simpa using hg
     have hw:∀y,Region.wanted o y=true:=λy=>by unfold Region.wanted;rw[lU]
     have al:execOp (Frame.eval ⟨p,F,.inRegion j (i::f)::k,[],.run,.normal,none⟩) o=execOp (Frame.eval ⟨p,n,.inRegion j (i::f)::k,[],.run,.normal,none⟩) o:=
      alc a5 λx s=>h0.eval (jn.1 U x s)
     have E:∀(t:Array Value) (c:List Frame),stepG P main ⟨⟨p,t,.inRegion j (i::f)::k,[],.run,.normal,none⟩,c,.running,none,none⟩ w =
       stepG.apply P true ⟨p,t,.inRegion j (i::f)::k,[],.run,.normal,none⟩ c none (execOp (Frame.eval ⟨p,t,.inRegion j (i::f)::k,[],.run,.normal,none⟩) o) w:=λt c=>by
      simp[stepG,stepG.exec,stepG.oper,Frame.oper?,ho,hw]
     rw[E] at D;cases hr:(execOp (Frame.eval ⟨p,n,.inRegion j (i::f)::k,[],.run,.normal,none⟩) o).runT P w #[] with
     |mk r a2=>
      have a4:(execOp (Frame.eval ⟨p,n,.inRegion j (i::f)::k,[],.run,.normal,none⟩) o).run P w=r:=by rw[<-rh _ _ _ #[],hr]
      have a6:∀(v:Value),(Frame.finish ⟨p,n,.inRegion j (i::f)::k,[],.run,.normal,none⟩ v).fn=p:=λv=>by
       simp only[Frame.finish,ho,qC]
      have a3:∀(v:Value),JR J (Frame.finish ⟨p,n,.inRegion j (i::f)::k,[],.run,.normal,none⟩ v) (Frame.finish ⟨p,F,.inRegion j (i::f)::k,[],.run,.normal,none⟩ v):=λv=>by
       simp only[Frame.finish,ho,qC];cases o.dst with
       |none=>exact G (T _)
       |some d=>exact fin (h0.set d v).1 (h0.set d v).2 (T _)
      have e2:∀c,stepG.apply P true ⟨p,F,.inRegion j (i::f)::k,[],.run,.normal,none⟩ c none (execOp (Frame.eval ⟨p,F,.inRegion j (i::f)::k,[],.run,.normal,none⟩) o) w =
        stepG.apply P true ⟨p,F,.inRegion j (i::f)::k,[],.run,.normal,none⟩ c none (execOp (Frame.eval ⟨p,n,.inRegion j (i::f)::k,[],.run,.normal,none⟩) o) w:=λc=>by rw[al]
      cases r with
      |ok nx w2=>
       have a7:(CallKind.normal ==CallKind.early)=false:=rfl;rcases aiY a5 a4 with⟨v,rfl⟩|rfl
       .have a1:∀(t:Array Value) (c:List Frame),stepG.apply P true ⟨p,t,.inRegion j (i::f)::k,[],.run,.normal,none⟩ c none (execOp (Frame.eval ⟨p,n,.inRegion j (i::f)::k,[],.run,.normal,none⟩) o) w=.go ⟨Frame.finish ⟨p,t,.inRegion j (i::f)::k,[],.run,.normal,none⟩ v,c,.running,none,none⟩ w2 (seen P p a2):=λt c=>by
         unfold stepG.apply;simp only[hr,ph];simp[GStep.after,a7]
        rw[a1] at D;injection D with X V g3
        injection X with Q Z
        subst V g3 Q Z;exact⟨rfl,a6 v,_,a3 v,λc=>by rw[E,e2,a1]⟩
       .have a1:∀(t:Array Value) (c:List Frame),stepG.apply P true ⟨p,t,.inRegion j (i::f)::k,[],.run,.normal,none⟩ c none (execOp (Frame.eval ⟨p,n,.inRegion j (i::f)::k,[],.run,.normal,none⟩) o) w=.go ⟨Frame.finish ⟨p,t,.inRegion j (i::f)::k,[],.run,.normal,none⟩ undef,c,.running,none,none⟩ w2 (seen P p a2):=λt c=>by
         unfold stepG.apply;simp only[hr,ph];simp[GStep.after,a7]
        rw[a1] at D;injection D with X V g3
        injection X with Q Z
        subst V g3 Q Z;exact⟨rfl,a6 undef,_,a3 undef,λc=>by rw[E,e2,a1]⟩
      |halt q w2=>
       have hq:∀(t:Array Value) (c:List Frame),∃u,(q=.unsupported (.initOrder u)/\stepG.apply P true ⟨p,t,.inRegion j (i::f)::k,[],.run,.normal,none⟩ c none (execOp (Frame.eval ⟨p,n,.inRegion j (i::f)::k,[],.run,.normal,none⟩) o) w=GStep.after (seen P p #[]) (early P ⟨p,t,.inRegion j (i::f)::k,[],.run,.normal,none⟩ c none u w2))\/
         (∀(R:Goroutine) ww ee,stepG.apply P true ⟨p,t,.inRegion j (i::f)::k,[],.run,.normal,none⟩ c none (execOp (Frame.eval ⟨p,n,.inRegion j (i::f)::k,[],.run,.normal,none⟩) o) w=.go R ww ee->R.status=.running->R.dying=none->R.frame.mode ≠ .run/\R.frame.mode ≠ .returning):=λt c=>by
        have M:(CallKind.normal ==CallKind.early)=false:=rfl;by_cases a8:∃u,q=.unsupported (.initOrder u)
        .obtain⟨u,rfl⟩:=a8;refine⟨u,.inl ⟨rfl, ?_⟩⟩;unfold stepG.apply;simp only[hr,ph];simp[M]
        .refine⟨0,.inr λR ww ee s h1 h2=> ?_⟩;unfold stepG.apply at s;simp only[hr,ph] at s;cases q with
         |unsupported u=>
          cases u with
          |initOrder g=>exact absurd ⟨g,rfl⟩ a8
          |_=>simp[GStep.after] at s
         |panic v=>simp[GStep.after] at s;obtain⟨rfl, -⟩:=s;exact⟨by simp[Frame.raise],by simp[Frame.raise]⟩
         |goexit=>simp[GStep.after] at s;obtain⟨rfl, -⟩:=s;exact⟨by simp[Frame.raise],by simp[Frame.raise]⟩
         |blocked=>simp[GStep.after] at s;obtain⟨rfl, -⟩:=s;cases h1
         |waiting=>simp[GStep.after] at s;obtain⟨rfl, -⟩:=s;cases h1
         |exit c=>simp[GStep.after] at s
         |stuck c=>simp[GStep.after] at s
         |throw m=>simp[GStep.after,endThrow,dieOf] at s;obtain⟨rfl, -⟩:=s;cases h2
         |fatal m=>
          exfalso;dsimp only at s;unfold endFatal at s;dsimp only at s;generalize Sem.run P _ w2=z at s;cases z with
          |ok z1 z2=>simp[GStep.after,dieOf] at s;obtain⟨rfl, -⟩:=s;cases h2
          |halt z1 z2=>cases z1<;>simp[GStep.after] at s
       obtain⟨u,N⟩:=hq n cs;rcases N with⟨rfl,S⟩|ad
       .rw[S] at D;cases O:early P ⟨p,n,.inRegion j (i::f)::k,[],.run,.normal,none⟩ cs none u w2 with
        |go R ww ee=>
         rw[O] at D;simp only[GStep.after] at D;injection D with X V g3
         subst X V g3;rcases ald O with W|⟨aa,L⟩
         .dsimp only at W;rw[af] at W;cases W
         .injection aa with Q Z
          subst Q Z;refine⟨rfl,rfl,_,h0,λc=> ?_⟩;rw[E,e2];obtain⟨u',N⟩:=hq F c;rcases N with⟨hu,a9⟩|an
          .cases hu;rw[a9,L ⟨p,F,.inRegion j (i::f)::k,[],.run,.normal,none⟩ c rfl];rfl
          .exfalso;have:=hq F c;obtain⟨u2,h2⟩:=this;have M:(CallKind.normal ==CallKind.early)=false:=rfl;have s:stepG.apply P true ⟨p,F,.inRegion j (i::f)::k,[],.run,.normal,none⟩ c none (execOp (Frame.eval ⟨p,n,.inRegion j (i::f)::k,[],.run,.normal,none⟩) o) w=GStep.after (seen P p #[]) (early P ⟨p,F,.inRegion j (i::f)::k,[],.run,.normal,none⟩ c none u w2):=by
            unfold stepG.apply;simp only[hr,ph];simp[M]
           rw[L ⟨p,F,.inRegion j (i::f)::k,[],.run,.normal,none⟩ c rfl] at s;exact(an _ _ _ s rfl rfl).1 rfl
        |_=>rw[O] at D;cases D
       .exfalso;have:=ad _ _ _ D rfl rfl;rcases K with K|K
        .exact this.1 K
        .exact this.2 K
  |_=>cases A
def arv(h:JR J fr cE)(m:fr.mode=.returning)(b:∃fn,P.funcs[fr.fn]?=some fn/\results fn cE.tmps=results fn fr.tmps){c:Frame}{cs:List Frame}{main:Bool} :
  stepG P main ⟨cE,c::cs,.running,none,none⟩ w=stepG P main ⟨fr,c::cs,.running,none,none⟩ w:=by
 obtain⟨fn,a,s,K,I,H,G⟩:=fr;obtain⟨e,u,d,y,x,E,C⟩:=cE;obtain⟨n,k,⟨o,p⟩,f,⟨j,g⟩,⟨l,i⟩,A,F,D⟩:=h;dsimp only at n k o p f j g l i A F D m b;subst n k o p f j g l i m;show unwind P main ⟨e,u,d,[],.returning,.normal,none⟩ (c::cs) none w=unwind P main ⟨e,a,d,[],.returning,.normal,none⟩ (c::cs) none w;unfold unwind;dsimp only;obtain⟨fn,B,b⟩:=b;rw[B];dsimp only;rw[b];generalize (results fn a).runT P w #[]=z;obtain⟨r,L⟩:=z;cases r with
 |ok v t=>rfl
 |halt q t=>cases q<;>rfl
end
end
section
open Go.Conc Go.ConcN
open Go.ConcR (KK wgBlock WgAt stA smA rd wr mk Payload DC0 Bk g_of_ofEvents ofEvent_mk)
abbrev aq:=Nat->Prop
def In(S:aq):Loc->Prop
 |.cell a=>S a.block
 |.obj r=>S r
 |_=>False
inductive jo where
 |leaf
 |node (f:World->jo)
def jo.Lt(a b:jo):Prop:=∃f w,b=.node f/\a=f w
def jo.wf:WellFounded jo.Lt:=⟨λt=>by
 induction t with
 |leaf=>exact⟨_,by rintro _ ⟨g,w,e,rfl⟩;cases e⟩
 |node f a=>exact⟨_,by rintro _ ⟨g,w,e,rfl⟩;cases e;exact a w⟩⟩
def VLt(N:Nat)(f g:Nat->jo):Prop:=∃i,i<N/\jo.Lt (f i) (g i)/\∀k,k≠i->f k=g k
def anB:∀(N:Nat) (g:Nat->jo),Acc (VLt N) g
 |0,g=>⟨_,λf ⟨i,hi,_⟩=>absurd hi (sE i)⟩
 |N+1,g=>by
  have a:∀t:jo,∀g:Nat->jo,g N=t->Acc (VLt (N+1)) g:=by
   intro t
   induction t using jo.wf.induction with
   |_ t d=>
    intro g
    induction anB N g with
    |intro g _ b=>
     intro c;refine⟨_,λf ⟨i,hi,hlt,hk⟩=> ?_⟩;by_cases e:i=N
     .subst e;exact d (f i) (c▸hlt) f rfl
     .exact b f ⟨i,by omega,hlt,hk⟩ ((hk N (sD e)).trans c)
  exact a _ g rfl
abbrev Mu:=Nat×((Nat->jo)×Nat)
def aa2(N:Nat):Mu->Mu->Prop:=Prod.Lex (· < ·) (Prod.Lex (VLt N) (· < ·))
def auG(N:Nat):WellFounded (aa2 N):=(Prod.lex Nat.lt_wfRel ⟨_,(Prod.lex ⟨_,⟨anB N⟩⟩ Nat.lt_wfRel).wf⟩).wf
section
variable (P:Program) (main:Bool) (Rl:aq->World->World->Prop) (Gr:aq->aq->World->World->Array Event->Prop) (Stop:aq->Goroutine->World->Prop)
def GoT:jo->aq->Goroutine->World->Prop
 |.leaf,S,g,w=>∀a,Rl S w a->Stop S g a
 |.node f,S,g,w=>(∀a,Rl S w a->Stop S g a)\/(g.status=.running/\∀a,Rl S w a->∃e b d c,stepG P main g a=.go e b d/\Gr S c a b d/\GoT (f a) c e b)
def bE(S:aq)(g:Goroutine)(w:World):Prop:=∃T,GoT P main Rl Gr Stop T S g w
end
section
variable {P:Program} {main:Bool} {Rl:aq->World->World->Prop} {Gr:aq->aq->World->World->Array Event->Prop} {Stop aeO:aq->Goroutine->World->Prop} {S:aq} {g:Goroutine} {w w₁:World}
def GoT.cases{T:jo}(h:GoT P main Rl Gr Stop T S g w):(∀w₁,Rl S w w₁->Stop S g w₁)\/∃f,T=.node f/\g.status=.running/\∀w₁,Rl S w w₁->∃d a c b,stepG P main g w₁=.go d a c/\Gr S b w₁ a c/\GoT P main Rl Gr Stop (f w₁) b d a:=by
 cases T with
 |leaf=>exact .inl h
 |node f=>exact Or.imp id (λx=>⟨f,rfl,x⟩) h
def bE.stop(h:∀w₁,Rl S w w₁->Stop S g w₁):bE P main Rl Gr Stop S g w:=⟨.leaf,h⟩
def bE.step(l:g.status=.running)(h:∀w₁,Rl S w w₁->∃d a c b,stepG P main g w₁=.go d a c/\Gr S b w₁ a c/\bE P main Rl Gr Stop b d a):bE P main Rl Gr Stop S g w:=by
 classical
 have f:∀w₁,∃T,Rl S w w₁->∃d a c b,stepG P main g w₁=.go d a c/\Gr S b w₁ a c/\GoT P main Rl Gr Stop T b d a:=λw₁=>by
  by_cases e:Rl S w w₁
  .obtain⟨d,a,c,b,j,i,T,k⟩:=h w₁ e;exact⟨T,λ_=>⟨d,a,c,b,j,i,k⟩⟩
  .exact⟨.leaf,λx=>absurd x e⟩
 exact⟨.node λw₁=>(f w₁).choose,.inr ⟨l,λw₁ e=>(f w₁).choose_spec e⟩⟩
def GoT.rely(i:∀S a b c,Rl S a b->Rl S b c->Rl S a c){T:jo}(h:GoT P main Rl Gr Stop T S g w)(j:Rl S w w₁):GoT P main Rl Gr Stop T S g w₁:=by
 cases T with
 |leaf=>exact λe d=>h e (i _ _ _ _ j d)
 |node f=>exact Or.imp (λh e d=>h e (i _ _ _ _ j d)) (λx=>⟨x.1,λe d=>x.2 e (i _ _ _ _ j d)⟩) h
def bE.bind(d:∀S w,Rl S w w)(e:∀S a b c,Rl S a b->Rl S b c->Rl S a c)(h:bE P main Rl Gr Stop S g w)(i:∀S g w,Stop S g w->bE P main Rl Gr aeO S g w):bE P main Rl Gr aeO S g w:=by
 obtain⟨T,h⟩:=h
 induction T generalizing S g w with
 |leaf=>exact i _ _ _ (h w (d _ _))
 |node f q=>
  rcases h with h|⟨o,h⟩
  .exact i _ _ _ (h w (d _ _))
  .exact bE.step o λw₁ l=>let⟨s,j,m,p,r,k,n⟩:=h w₁ l;⟨s,j,m,p,r,k,q w₁ n⟩
def bE.abN{R:World->World->Prop}{D:World->World->Array Event->Prop}{St:Goroutine->World->Prop}(d:∀w w₁,Rl S w w₁->R w w₁)(i:∀w b c,D w b c->Gr S S w b c)(e:∀g w,St g w->Stop S g w) :
  ∀{n:Nat} {g:Goroutine} {w:World},Goes P main R D St n g w->bE P main Rl Gr Stop S g w
 |0,_,_,h=>.stop λw₁ a=>e _ _ (h w₁ (d _ _ a))
 |n+1,g,w,h=>by
  rcases h with h|⟨j,h⟩
  .exact .stop λw₁ a=>e _ _ (h w₁ (d _ _ a))
  .refine .step j λw₁ a=> ?_;have:=h w₁ (d _ _ a);cases f:stepG P main g w₁ with
   |go k b c=>
    rw[f,tp] at this;exact⟨k,b,c,S,rfl,i _ _ _ this.1,bE.abN d i e this.2⟩
   |_=>rw[f] at this;exact this.elim
def GoT.running(b:∀S g w,Stop S g w->g.status=.running)(a:∀S w,Rl S w w){T:jo}(h:GoT P main Rl Gr Stop T S g w):g.status=.running:=by
 rcases h.cases with h|⟨_,_,h,_⟩
 .exact b _ _ _ (h w (a _ _))
 .exact h
end
section
variable [Payload] (ty:TypeId) (Wg C N:Nat)
structure jC (R cl S:aq) (w w₁:World):Prop where
 keep:∀b,S b\/R b->w₁.heap[b]?=w.heap[b]?
 size:w.heap.size<=w₁.heap.size
 os:w₁.ou=w.ou
 live:WgLive ty Wg w->WgLive ty Wg w₁
 pay:PayAt C N w->PayAt C N w₁
 cell:∀i,cl i->w₁.cell? ⟨C,i,none⟩=w.cell? ⟨C,i,none⟩
structure EvP (R cl S:aq) (B:Nat) (e:Event):Prop where
 touch:∀x,(MemAct.ofEvent e).touch?=some x->In S x.loc\/(∃a,x.loc=.cell a/\a.block=C/\cl a.off)\/(In R x.loc/\x.write=false)
 dis:e.loc ≠ .mark .disable
 en:e.loc ≠ .mark .enable
 rel:e.loc ≠ .mark (.release (stA Wg))
 low:(MemAct.ofEvent e).low B
structure Gua (R cl S S':aq) (w w':World) (es:Array Event):Prop where
 keep:∀b,b<w.heap.size->¬S b->b≠C->w'.heap[b]?=w.heap[b]?
 size:w.heap.size<=w'.heap.size
 os:w'.ou=w.ou
 pay:PayAt C N w->PayAt C N w'
 cell:∀i,¬cl i->w'.cell? ⟨C,i,none⟩=w.cell? ⟨C,i,none⟩
 mono:∀b,S b->S' b
 new:∀b,S' b->S b\/(w.heap.size<=b/\b<w'.heap.size)
 ev:∀e∈es,EvP Wg C R cl S' w'.heap.size e
end
section
variable [Payload] {ty:TypeId} {Wg C N:Nat} {R cl S S' auH arw auI:aq} {w w₁ w₂ w':World} {es:Array Event}
def jC.refl(R cl S:aq)(w:World):jC ty Wg C N R cl S w w:=⟨λ_ _=>rfl,am _,rfl,id,id,λ_ _=>rfl⟩
def jC.trans(h:jC ty Wg C N R cl S w w₁)(k:jC ty Wg C N R cl S w₁ w₂):jC ty Wg C N R cl S w w₂:=
 ⟨λb a=>(k.keep b a).trans (h.keep b a),bd h.size k.size,k.os.trans h.os,k.live∘h.live,k.pay∘h.pay,λi c=>(k.cell i c).trans (h.cell i c)⟩
def jC.at(R cl S:aq)(w:World)(d:Nat):jC ty Wg C N R cl S w (w.at d):=⟨λ_ _=>rfl,am _,rfl,id,id,λ_ _=>rfl⟩
def jC.alf(h:Gua Wg C N R cl S S' w w' es)(a:∀b,auI b\/auH b->b<w.heap.size/\¬S b/\b≠C)(g:∀i,arw i->¬cl i)(c:Wg<w.heap.size/\¬S Wg/\Wg≠C):jC ty Wg C N auH arw auI w w':=
 ⟨λb d=>h.keep b (a b d).1 (a b d).2.1 (a b d).2.2,h.size,h.os,λ⟨j,sm,e⟩=>⟨j,sm,e.of_block (h.keep Wg c.1 c.2.1 c.2.2)⟩,h.pay,λi f=>h.cell i (g i f)⟩
def jC.of_wg(h:Aside Wg w w')(d:WgLive ty Wg w')(c:∀b,auI b\/auH b->b≠Wg)(a:C≠Wg):jC ty Wg C N auH arw auI w w':=
 ⟨λb g=>h.block b (c b g),mt h.size.symm,azn h.os h.output,λ_=>d,λ⟨e,j,f⟩=>⟨e,(h.block C a).trans j,f⟩,λi _=>uv (h.block C a) i⟩
def jC.rw(h:jC ty Wg C N R cl S w w')(hi:cl i):RW ty Wg C N 0 i w w':=⟨λb a=>absurd a (sE b),h.live,h.pay,h.cell i hi⟩
end
section
variable {Sh:Loc->Prop} {Own Rd ax3 Rd':Nat->Loc->Prop} {t:Trace} {j:Nat}
def agq(h:CT Sh Own Rd t j)(n:∀k,1<=k->k<=j->∀l,ax3 k l->Own k l\/∀i a,touchAt t i=some a->a.loc≠l)(m:∀k,1<=k->k<=j->∀l,Own k l->ax3 k l)(g:∀k,1<=k->k<=j->∀l,Rd' k l↔Rd k l):CT Sh ax3 Rd' t j:=
 ⟨h.quiet,λk b c l d=>(n k b c l d).elim (h.own k b c l) λo i a p e=>absurd e (o i a p),λk b c l d=>h.rd k b c l ((g k b c l).1 d),
  λl f d=>h.free l f λk b c=>⟨λx=>(d k b c).1 (m k b c l x),λx=>(d k b c).2 ((g k b c l).2 x)⟩,λl f d=>h.mine l f λk b c x=>d k b c (m k b c l x),h.nr,h.gs⟩
end
variable [Payload]
def dN(κ:Nat):aq:=λi=>i / 2=κ
def noC:aq:=λ_=>False
abbrev FF:Nat->Loc->Prop:=λ_ _=>False
section
variable (P:Program) (ty:TypeId) (Wg C n K0:Nat) (val:Nat->Value) (aT:aq)
def ags(κ:Nat):aq->Goroutine->World->Prop:=λ_ g w=>AtR0 P ty Wg C (2*n) 0 (2*κ+1) (val (2*κ)) g w/\Has C (2*κ+1) (val (2*κ+1)) w
abbrev GW(κ:Nat)(R:aq):jo->aq->Goroutine->World->Prop:=GoT P false (jC ty Wg C (2*n) R (dN κ)) (Gua Wg C (2*n) R (dN κ)) (ags P ty Wg C n val κ)
inductive WK (κ:Nat) (R:aq):Nat->Nat->Nat->jo->aq->Goroutine->World->Prop
 |work {T:jo} {S:aq} {g:Goroutine} {w:World}:GW P ty Wg C n val κ R T S g w->WK κ R 7 0 0 T S g w
 |rest {s m d:Nat} {T:jo} {S:aq} {g:Goroutine} {w:World}:s<=6->WSit P ty Wg C (2*n) FF FF 0 (2*κ+1) (val (2*κ)) s m d g w->WK κ R s m d T S g w
abbrev RM(R S:aq):World->World->Prop:=jC ty Wg C (2*n) R noC S
def aa3(e:Event):Prop:=∃a:Addr,a.block=Wg/\(e=mk (.read a)\/e=mk (.write a))
def DSd(w w':World)(es:Array Event):Prop:=w'=w/\∀e∈es,aa3 Wg e
section
variable (R S:aq) (aP Fin:aq->aq->Goroutine->World->Prop)
abbrev GP(St:Goroutine->World->Prop)(m:Nat)(g:Goroutine)(w:World):Prop:=Goes P true (RM ty Wg C n R S) (DSd Wg) St m g w
def ax4(g:Goroutine)(w:World):Prop:=g.status=.running/\∃a,stepG P true g w=.go a w #[mk (.acquire (stA Wg))]/\Fin R S a w
def MKe(g:Goroutine)(w:World):Prop:=g.status=.running/\∃a,stepG P true g w=.go a w #[mk .enable]/\∃m,GP P ty Wg C n R S (ax4 P Wg R S Fin) m a w
def MW4(g:Goroutine)(w:World):Prop:=g.status=.running/\(WgAt ty Wg w 0 0->∃a,stepG P true g w=.go a w #[rd (stA Wg)]/\∃m,GP P ty Wg C n R S (MKe P ty Wg C n R S Fin) m a w)
def MW3(g:Goroutine)(w:World):Prop:=g.status=.running/\g.offers=none/\
  ((∃b,WgAt ty Wg w b 0)->stepG P true g w=.go {g with status:=.blocked} w #[])/\
  (WgAt ty Wg w 0 1->∃a,stepG P true g w=.go a (w.setCell (smA Wg) (.int .u32 0)) (semEvents (smA Wg))/\∃m,GP P ty Wg C n R S (MW4 P ty Wg C n R S Fin) m a (w.setCell (smA Wg) (.int .u32 0)))
def MW2(vs:Nat)(g:Goroutine)(w:World):Prop:=g.status=.running/\∀v:Nat,v<2147483648->WgAt ty Wg w (v*KK) 0->
  (v=vs->∃a,stepG P true g w=.go a (w.setCell (stA Wg) (.int .u64 (v*KK+1))) #[rd (stA Wg),wr (stA Wg)]/\∃m,GP P ty Wg C n R S (MW3 P ty Wg C n R S Fin) m a (w.setCell (stA Wg) (.int .u64 (v*KK+1))))/\
  (v≠vs->∃a,stepG P true g w=.go a w #[rd (stA Wg)]/\∃m,GP P ty Wg C n R S (aP R S) m a w)
def MW1(g:Goroutine)(w:World):Prop:=g.status=.running/\∀v:Nat,v<2147483648->WgAt ty Wg w (v*KK) 0->∃a,stepG P true g w=.go a w #[rd (stA Wg)]/\
  (v=0->∃m,GP P ty Wg C n R S (MKe P ty Wg C n R S Fin) m a w)/\(v≠0->∃m,GP P ty Wg C n R S (MW2 P ty Wg C n R S aP Fin v) m a w)
def MKd(g:Goroutine)(w:World):Prop:=g.status=.running/\∃a,stepG P true g w=.go a w #[mk .disable]/\∃m,GP P ty Wg C n R S (aP R S) m a w
end
abbrev GM(R:aq)(St:aq->Goroutine->World->Prop):jo->aq->Goroutine->World->Prop:=GoT P true (jC ty Wg C (2*n) R noC) (Gua Wg C (2*n) R noC) St
section
variable (j:Nat) (Next:aq->Goroutine->World->Prop) (R S:aq)
def MGo(S:aq)(g:Goroutine)(w:World):Prop:=g.status=.running/\∃d a c,stepG P true g w=.spawn d a w #[]/\(∀b,c b->S b\/R b)/\
  (PayAt C (2*n) w->WgLive ty Wg w->∃T,GW P ty Wg C n val j c T (λ_=>False) a w)/\Next (λb=>S b\/R b) d w
def ax5(g:Goroutine)(w:World):Prop:=g.status=.running/\∃a,stepG P true g w=.go a w #[mk .enable]/\∃T,GM P ty Wg C n R (MGo P ty Wg C n val j Next R) T S a w
def MA1(g:Goroutine)(w:World):Prop:=g.status=.running/\∀v:Nat,v<2147483647->WgAt ty Wg w (v*KK) 0->
  ∃a,stepG P true g w=.go a (w.setCell (stA Wg) (.int .u64 ((v+1)*KK))) #[rd (stA Wg),wr (stA Wg)]/\∃m,GP P ty Wg C n R S (ax5 P ty Wg C n val j Next R S) m a (w.setCell (stA Wg) (.int .u64 ((v+1)*KK)))
def arx(g:Goroutine)(w:World):Prop:=g.status=.running/\∃a,stepG P true g w=.go a w #[mk .disable]/\∃m,GP P ty Wg C n R S (MA1 P ty Wg C n val j Next R S) m a w
end
variable (aP Fin:aq->aq->Goroutine->World->Prop)
def tH:Nat->aq->Goroutine->World->Prop
 |0,R,g,w=>∃T,GM P ty Wg C n R (λS g w=>MKd P ty Wg C n R S aP g w) T (λ_=>False) g w
 |r+1,R,g,w=>∃T,GM P ty Wg C n R (λS g w=>arx P ty Wg C n val (n-(r+1)) (tH r) R S g w) T (λ_=>False) g w
inductive fe:CTag->Nat->aq->aq->jo->Nat->Nat->Goroutine->World->Prop
 |skd {r:Nat} {R S:aq} {T:jo} {g:Goroutine} {w:World}:r<n->GM P ty Wg C n R (λS g w=>arx P ty Wg C n val (n-(r+1)) (tH P ty Wg C n val aP r) R S g w) T S g w->fe (.sp r 5) (n-(r+1)) R S T 0 0 g w
 |sa1 {r m:Nat} {R S:aq} {T:jo} {g:Goroutine} {w:World}:r<n->GP P ty Wg C n R S (MA1 P ty Wg C n val (n-(r+1)) (tH P ty Wg C n val aP r) R S) m g w->fe (.sp r 4) (n-(r+1)) R S T m 1 g w
 |ske {r m:Nat} {R S:aq} {T:jo} {g:Goroutine} {w:World}:r<n->GP P ty Wg C n R S (ax5 P ty Wg C n val (n-(r+1)) (tH P ty Wg C n val aP r) R S) m g w->fe (.sp r 3) (n-(r+1)) R S T m 1 g w
 |sgo {r:Nat} {R S:aq} {T:jo} {g:Goroutine} {w:World}:r<n->GM P ty Wg C n R (MGo P ty Wg C n val (n-(r+1)) (tH P ty Wg C n val aP r) R) T S g w->fe (.sp r 2) (n-(r+1)) R S T 0 0 g w
 |kd {R S:aq} {T:jo} {g:Goroutine} {w:World}:GM P ty Wg C n R (λS g w=>MKd P ty Wg C n R S aP g w) T S g w->fe .kd n R S T 0 0 g w
 |anch {m:Nat} {R S:aq} {T:jo} {g:Goroutine} {w:World}:GP P ty Wg C n R S (aP R S) m g w->fe .anch n R S T m 1 g w
 |w1 {m:Nat} {R S:aq} {T:jo} {g:Goroutine} {w:World}:GP P ty Wg C n R S (MW1 P ty Wg C n R S aP Fin) m g w->fe .w1 n R S T m 1 g w
 |w2 {vs m:Nat} {R S:aq} {T:jo} {g:Goroutine} {w:World}:GP P ty Wg C n R S (MW2 P ty Wg C n R S aP Fin vs) m g w->fe (.w2 vs) n R S T m 1 g w
 |w3 {m:Nat} {R S:aq} {T:jo} {g:Goroutine} {w:World}:GP P ty Wg C n R S (MW3 P ty Wg C n R S Fin) m g w->fe .w3 n R S T (m+1) 1 g w
 |blk {R S:aq} {T:jo} {g:Goroutine} {w:World}:(∀w₁,RM ty Wg C n R S w w₁->MW3 P ty Wg C n R S Fin g w₁)->fe .blk n R S T 0 1 {g with status:=.blocked} w
 |w4 {m:Nat} {R S:aq} {T:jo} {g:Goroutine} {w:World}:GP P ty Wg C n R S (MW4 P ty Wg C n R S Fin) m g w->fe .w4 n R S T m 1 g w
 |ke {m:Nat} {R S:aq} {T:jo} {g:Goroutine} {w:World}:GP P ty Wg C n R S (MKe P ty Wg C n R S Fin) m g w->fe .ke n R S T m 1 g w
 |acq {m:Nat} {R S:aq} {T:jo} {g:Goroutine} {w:World}:GP P ty Wg C n R S (ax4 P Wg R S Fin) m g w->fe .acq n R S T m 0 g w
def Shr(Wg:Nat)(aT:aq)(l:Loc):Prop:=∃a,l=.cell a/\(a.block=Wg\/aT a.block)
def aa4(C K0:Nat)(O:Nat->aq)(k:Nat)(l:Loc):Prop:=∃b,k=K0+1+b/\(In (O b) l\/∃a,l=.cell a/\a.block=C/\a.off / 2=b)
def RdL(K0:Nat)(Rk:Nat->aq)(k:Nat)(l:Loc):Prop:=∃a,k=K0+1+a/\In (Rk a) l
structure Sets (w:World) (R S:aq) (O Rk:Nat->aq):Prop where
 rlt:∀b,R b->b<w.heap.size
 slt:∀b,S b->b<w.heap.size
 olt:∀κ b,O κ b->b<w.heap.size
 rk:∀κ b,Rk κ b->R b
 rs:∀b,R b->¬S b
 orr:∀κ b,O κ b->¬R b
 os:∀κ b,O κ b->¬S b
 oo:∀κ gj b,O κ b->O gj b->κ=gj
 wlt:Wg<w.heap.size
 clt:C<w.heap.size
 cw:C≠Wg
 wr:¬R Wg
 ws:¬S Wg
 wo:∀κ,¬O κ Wg
 cr:¬R C
 cs:¬S C
 co:∀κ,¬O κ C
 shr:∀b,aT b->¬R b
 shs:∀b,aT b->¬S b
 sho:∀κ b,aT b->¬O κ b
 shc:¬aT C
 aiZ:∀b,aT b->b<w.heap.size
end
section
variable {Wg C K0:Nat} {aT R S:aq} {w w':World} {O Rk:Nat->aq}
omit [Payload] in
def In.mono{S a:aq}(h:∀b,S b->a b){l:Loc}(x:In S l):In a l:=by
 cases l<;>first|exact h _ x|exact x.elim
omit [Payload] in
def In.no{S a:aq}(h:∀b,S b->¬a b){l:Loc}(x:In S l):¬In a l:=by
 cases l<;>first|exact h _ x|exact x.elim
omit [Payload] in
def In.block{S:aq}{l:Loc}(x:In S l){a:Addr}(e:l=.cell a):S a.block:=by subst e;exact x
omit [Payload] in
def Sets.apart(h:Sets Wg C aT w R S O Rk):Apart (Shr Wg aT) (aa4 C K0 O) (RdL K0 Rk) where
 own:=by
  rintro k m l ⟨f,rfl,d⟩ ⟨i,rfl,c⟩;have:f=i:=by
   rcases d with d|⟨a,rfl,g,o⟩<;>rcases c with c|⟨b,e,j,n⟩
   .cases l<;>first|exact h.oo _ _ _ d c|exact d.elim
   .subst e;exact absurd (j▸d) (h.co f)
   .exact absurd (g▸c) (h.co i)
   .cases e;omega
  rw[this]
 ownRd:=by
  rintro k m l ⟨f,rfl,d⟩ ⟨i,rfl,c⟩;rcases d with d|⟨a,rfl,g, -⟩
  .cases l<;>first|exact h.orr _ _ d (h.rk _ _ c)|exact d.elim
  .exact h.cr (g▸h.rk _ _ c)
 ownSh:=by
  rintro k l ⟨f,rfl,d⟩ ⟨a,rfl,c⟩;rcases d with d|⟨b,e,g, -⟩
  .rcases c with c|c
   .exact h.wo f (c▸d)
   .exact h.sho f _ c d
  .cases e;rcases c with c|c
   .exact h.cw (g.symm.trans c)
   .exact h.shc (g▸c)
 rdSh:=by
  rintro k l ⟨f,rfl,d⟩ ⟨a,rfl,c⟩;rcases c with c|c
  .exact h.wr (c▸h.rk _ _ d)
  .exact h.shr _ c (h.rk _ _ d)
omit [Payload] in
def Sets.at(h:Sets Wg C aT w R S O Rk)(d:Nat):Sets Wg C aT (w.at d) R S O Rk:=⟨h.rlt,h.slt,h.olt,h.rk,h.rs,h.orr,h.os,h.oo,h.wlt,h.clt,h.cw,h.wr,h.ws,h.wo,h.cr,h.cs,h.co,h.shr,h.shs,h.sho,h.shc,h.aiZ⟩
omit [Payload] in
def Sets.size(h:Sets Wg C aT w R S O Rk)(a:w.heap.size<=w'.heap.size):Sets Wg C aT w' R S O Rk:=
 ⟨λb x=>aE (h.rlt b x) a,λb x=>aE (h.slt b x) a,λc b x=>aE (h.olt c b x) a,h.rk,h.rs,h.orr,h.os,h.oo,aE h.wlt a,aE h.clt a,h.cw,h.wr,h.ws,h.wo,h.cr,h.cs,h.co,h.shr,h.shs,h.sho,h.shc,λb x=>aE (h.aiZ b x) a⟩
omit [Payload] in
def Sets.azZ(h:Sets Wg C aT w R S O Rk)(o:w.heap.size<=w'.heap.size){g:aq}(k:∀b,g b->O κ b\/(w.heap.size<=b/\b<w'.heap.size)):Sets Wg C aT w' R S (upd O κ g) Rk:=by
 have a:∀{c:Nat} {b:Nat},upd O κ g c b->O c b\/(c=κ/\w.heap.size<=b/\b<w'.heap.size):=λ{c b} x=>by
  by_cases e:c=κ
  .subst e;rw[qf] at x;exact(k b x).imp id λy=>⟨rfl,y⟩
  .rw[qI O _ e] at x;exact .inl x
 have d:=h.size o;refine⟨d.rlt,d.slt,λc b x=> ?_,h.rk,h.rs,λc b x=> ?_,λc b x=> ?_,λl j b x y=> ?_,d.wlt,d.clt,h.cw,h.wr,h.ws,λc x=> ?_,h.cr,h.cs,λc x=> ?_,h.shr,h.shs,λc b i x=> ?_,h.shc,d.aiZ⟩
 .rcases a x with x|⟨-, -,x⟩
  .exact d.olt _ _ x
  .exact x
 .rcases a x with x|⟨-,x, -⟩
  .exact h.orr _ _ x
  .intro f;have:=h.rlt b f;omega
 .rcases a x with x|⟨-,x, -⟩
  .exact h.os _ _ x
  .intro f;have:=h.slt b f;omega
 .rcases a x with x|⟨m,x, -⟩<;>rcases a y with y|⟨n,y, -⟩
  .exact h.oo _ _ _ x y
  .have:=h.olt _ _ x;omega
  .have:=h.olt _ _ y;omega
  .rw[m,n]
 .rcases a x with x|⟨-,x, -⟩
  .exact h.wo _ x
  .have:=h.wlt;omega
 .rcases a x with x|⟨-,x, -⟩
  .exact h.co _ x
  .have:=h.clt;omega
 .rcases a x with x|⟨-,x, -⟩
  .exact h.sho _ _ i x
  .have:=h.aiZ b i;omega
omit [Payload] in
def Sets.awL(h:Sets Wg C aT w R S O Rk)(j:w.heap.size<=w'.heap.size){d:aq}(c:∀b,d b->S b\/(w.heap.size<=b/\b<w'.heap.size)):Sets Wg C aT w' R d O Rk:=by
 have a:=h.size j;refine⟨a.rlt,λb x=> ?_,a.olt,h.rk,λb f x=> ?_,h.orr,λi b e x=> ?_,h.oo,a.wlt,a.clt,h.cw,h.wr,λx=> ?_,h.wo,h.cr,λx=> ?_,h.co,h.shr,λb g x=> ?_,h.sho,h.shc,a.aiZ⟩
 .rcases c b x with x|x
  .exact a.slt b x
  .exact x.2
 .rcases c b x with x|x
  .exact h.rs b f x
  .have:=h.rlt b f;omega
 .rcases c b x with x|x
  .exact h.os i b e x
  .have:=h.olt i b e;omega
 .rcases c _ x with x|x
  .exact h.ws x
  .have:=h.wlt;omega
 .rcases c _ x with x|x
  .exact h.cs x
  .have:=h.clt;omega
 .rcases c _ x with x|x
  .exact h.shs b g x
  .have:=h.aiZ b g;omega
omit [Payload] in
def Sets.hand(h:Sets Wg C aT w R S O Rk)(κ:Nat){X:aq}(d:∀b,X b->S b\/R b):Sets Wg C aT w (λb=>S b\/R b) (λ_=>False) O (upd Rk κ X):=by
 refine⟨λb x=>x.elim (h.slt b) (h.rlt b),λb x=>x.elim,h.olt,λa b x=> ?_,λb _ x=>x,λa b x y=>y.elim (h.os a b x) (h.orr a b x),λa b _ x=>x,h.oo,h.wlt,h.clt,h.cw,λx=>x.elim h.ws h.wr,id,h.wo,λx=>x.elim h.cs h.cr,id,h.co,λb c x=>x.elim (h.shs b c) (h.shr b c),λb _ x=>x,h.sho,h.shc,h.aiZ⟩;by_cases e:a=κ
 .subst e;rw[qf] at x;exact d b x
 .rw[qI Rk _ e] at x;exact .inr (h.rk a b x)
end
end
section
open Go.Conc Go.ConcN
open Go.ConcR (KK wgBlock WgAt stA smA rd wr mk Payload DC0 Bk g_of_ofEvents ofEvent_mk ofEvent_loc_mark loc_of_ofEvent)
def ShL(aT:aq)(l:Loc):Prop:=∃a,l=.cell a/\aT a.block
structure eK (aT:aq) (K B:Nat) (t:Trace):Prop where
 clean:∀said,¬Race said t
 known:∀(i:Nat) (op:MemOp) (x:Touch),t[i]?=some op->op.act.touch?=some x->¬ShL aT x.loc->Knows t 0 i
 quiet:Quiet (ShL aT) t
 over:t.HandedOver
 hears:Deaf t 0=0
 seen:∀op∈t,op.act.low B
 gs:∀op∈t,op.g<=K
def nG(Wg:Nat)(aT:aq)(t:Trace)(k r:Nat):Prop:=∀(i:Nat) (op:MemOp) (x:Touch),r<i->t[i]?=some op->op.g=k->op.act.touch?=some x->Shr Wg aT x.loc
def nG.app{Wg:Nat}{aT:aq}{t u:Trace}{k r:Nat}(h:nG Wg aT t k r)(f:∀op∈u,op.g=k->∀x,op.act.touch?=some x->Shr Wg aT x.loc):nG Wg aT (t++u) k r:=λi op x g d b c=>by
 rcases ru d with⟨_,e⟩|⟨_,a⟩
 .exact h i op x g e b c
 .exact f op a b x c
structure TI (Wg C K0:Nat) (aT:aq) (j:Nat) (t:Trace) (D:Nat->WD) (O Rk:Nat->aq) (d0 B:Nat):Prop where
 ct:CT (Shr Wg aT) (aa4 C K0 O) (RdL K0 Rk) t (K0+j)
 norel:NoRelease (stA Wg) t
 deaf0:Deaf t 0=d0
 deafW:∀κ,κ<j->Deaf t (K0+1+κ)=(D κ).deaf
 rel:∀κ,κ<j->(D κ).stage<=6->∃r,RelBy (stA Wg) t (K0+1+κ) r/\nG Wg aT t (K0+1+κ) r
 seen:∀op∈t,op.act.low B
 over:∀(i g:Nat),t.g? i=some g->g≠0->g<=K0->t.counts i->∃p,t.g? p=some 0/\HappensBefore t i p
 known:∀(i:Nat) (op:MemOp) (x:Touch),t[i]?=some op->op.g<=K0->op.act.touch?=some x->¬Shr Wg aT x.loc->Knows t 0 i
section
variable {Wg C K0:Nat} {aT:aq} {j:Nat} {t u:Trace} {D:Nat->WD} {O Rk:Nat->aq} {d0 B B':Nat}
def abO(h:∀(i g:Nat),t.g? i=some g->g≠0->g<=K0->t.counts i->∃p,t.g? p=some 0/\HappensBefore t i p)(o:∀op∈u,op.g=0\/K0<op.g\/op.act.touch?=none) :
  ∀(i g:Nat),(t++u).g? i=some g->g≠0->g<=K0->(t++u).counts i->∃p,(t++u).g? p=some 0/\HappensBefore (t++u) i p:=by
 intro i g l d k n;obtain⟨x,r,y,A⟩:=id n;obtain⟨op,a,b⟩:=touch_of r;have v:op.g=g:=by simpa[Trace.g?,a] using l
 rcases ru a with⟨m,s⟩|⟨_,j⟩
 .obtain⟨p,c,q⟩:=h i g (by rw[<-g?_old (u:=u) m];exact l) d k ((counts_old m).1 n);have e:p<t.size:=by
   unfold Trace.g? at c;obtain⟨z,w,_⟩:=gE.1 c;exact lt_size_of_getElem? w
  exact⟨p,by rw[g?_old e];exact c,hb_app u q⟩
 .rcases o op j with f|f|f
  .omega
  .omega
  .rw[f] at b;cases b
def aaa(h:∀(i:Nat) (op:MemOp) (x:Touch),t[i]?=some op->op.g<=K0->op.act.touch?=some x->¬Shr Wg aT x.loc->Knows t 0 i)(f:∀op∈u,op.g=0\/K0<op.g\/op.act.touch?=none) :
  ∀(i:Nat) (op:MemOp) (x:Touch),(t++u)[i]?=some op->op.g<=K0->op.act.touch?=some x->¬Shr Wg aT x.loc->Knows (t++u) 0 i:=by
 intro i op x d g c j;rcases ru d with⟨_,e⟩|⟨_,b⟩
 .exact(h i op x e g c j).app u
 .rcases f op b with a|a|a
  .have:=knows_own d;rwa [a] at this
  .omega
  .rw[a] at c;cases c
def acK(h:∀op∈t,op.act.low B)(b:B<=B'):∀op∈t,op.act.low B':=λop a=>MemAct.low_mono b (h op a)
def agt{x:Touch}(h:∀op∈t,op.act.low B)(n:touchAt t i=some x){S:aq}(k:∀b,S b->B<=b)(d:In S x.loc):False:=by
 obtain⟨op,l,a⟩:=touch_of n;have c:=h op (qx l);obtain⟨g,fn,o,f⟩:=op;cases f with
 |access e=>
  simp only[MemAct.touch?,jp] at a;subst a;obtain⟨loc,wr,p⟩:=e;cases loc<;>first|exact d.elim|(have j:=k _ d;exact absurd c (Nat.not_lt.2 j))
 |mark m=>
  cases m<;>simp only[MemAct.touch?,jp,reduceCtorEq] at a<;>(subst a;have j:=k _ d;exact absurd c (Nat.not_lt.2 j))
 |_=>simp[MemAct.touch?] at a
def TI.appW (h:TI Wg C K0 aT j t D O Rk d0 B) (H:B<=B') (I:κ<j) {o:aq} {s' : Nat} {fn:FuncId} {es:Array Event}
  (A:Apart (Shr Wg aT) (aa4 C K0 (upd O κ o)) (RdL K0 Rk))
  (E:∀b,O κ b->o b) (v:∀b,o b->O κ b\/B<=b)
  (w:∀op∈MemOp.ofEvents (K0+1+κ) fn pos es,OkW (Shr Wg aT) (aa4 C K0 (upd O κ o)) (RdL K0 Rk) (K0+1+κ) op) (s:∀e∈es,e.loc ≠ .mark (.release (stA Wg)))
  (p:deafBehind (D κ).deaf es=Z) (y:∀op∈MemOp.ofEvents (K0+1+κ) fn pos es,op.act.low B')
  (hrel:s'<=6->∃r,RelBy (stA Wg) (t++MemOp.ofEvents (K0+1+κ) fn pos es) (K0+1+κ) r/\nG Wg aT (t++MemOp.ofEvents (K0+1+κ) fn pos es) (K0+1+κ) r) :
  TI Wg C K0 aT j (t++MemOp.ofEvents (K0+1+κ) fn pos es) (upd D κ ⟨s',m',Z⟩) (upd O κ o) Rk d0 B':=by
 have n:∀op∈MemOp.ofEvents (K0+1+κ) fn pos es,op.g=K0+1+κ:=g_of_ofEvents;have u:CT (Shr Wg aT) (aa4 C K0 (upd O κ o)) (RdL K0 Rk) t (K0+j):=agq h.ct (λk _ _ l c=>by
   obtain⟨d,rfl,c⟩:=c;by_cases e:d=κ
   .subst e;rw[qf] at c;rcases c with c|c
    .have:In (O d) l\/In (λb=>B<=b) l:=by
      cases l<;>first|exact v _ c|exact c.elim
     rcases this with x|x
     .exact .inl ⟨d,rfl,.inl x⟩
     .exact .inr λi a G e=>agt h.seen G (λb q=>q) (e▸x)
    .exact .inl ⟨d,rfl,.inr c⟩
   .rw[qI O _ e] at c;exact .inl ⟨d,rfl,c⟩) (λk _ _ l c=>by
   obtain⟨d,rfl,c⟩:=c;refine⟨d,rfl, ?_⟩;by_cases e:d=κ
   .subst e;rw[qf];exact c.imp (In.mono E) id
   .rw[qI O _ e];exact c) (λ_ _ _ _=>Iff.rfl)
 refine⟨u.appW A (by omega) (by omega) w,h.norel.app (norel_of s),by rw[rc t (by omega) _ n,h.deaf0],λd m=> ?_,λd m g=> ?_,seen_app (acK h.seen H) y,
  abO h.over λop f=>.inr (.inl (by rw[n op f];omega)),aaa h.known λop f=>.inr (.inl (by rw[n op f];omega))⟩
 .by_cases e:d=κ
  .subst e;rw[Deaf_own,h.deafW d m,qf];exact p
  .rw[rc t (by omega) _ n,h.deafW d m,qI D _ e]
 .by_cases e:d=κ
  .subst e;rw[qf] at g;exact hrel g
  .rw[qI D _ e] at g;obtain⟨r,F,q⟩:=h.rel d m g;exact⟨r,F.appOther n (by omega),q.app λop f z=>by rw[n op f] at z;omega⟩
def TI.app0 (h:TI Wg C K0 aT j t D O Rk d0 B) (n:B<=B') (A:Apart (Shr Wg aT) (aa4 C K0 O) (RdL K0 Rk)) {fn:FuncId} {es:Array Event}
  (f:∀op∈MemOp.ofEvents 0 fn pos es,Ok0 (Shr Wg aT) (aa4 C K0 O) (RdL K0 Rk) (K0+j) op) (g:∀e∈es,e.loc ≠ .mark (.release (stA Wg))) (i:∀op∈MemOp.ofEvents 0 fn pos es,op.act.low B') :
  TI Wg C K0 aT j (t++MemOp.ofEvents 0 fn pos es) D O Rk (deafBehind d0 es) B':=by
 have b:∀op∈MemOp.ofEvents 0 fn pos es,op.g=0:=g_of_ofEvents;refine⟨h.ct.app0 A f,h.norel.app (norel_of g),by rw[Deaf_own,h.deaf0],λc k=>by rw[rc t (by omega) _ b,h.deafW c k],λc k d=> ?_,seen_app (acK h.seen n) i,
  abO h.over λop a=>.inl (b op a),aaa h.known λop a=>.inl (b op a)⟩
 obtain⟨r,l,m⟩:=h.rel c k d;exact⟨r,l.appOther b (by omega),m.app λop a o=>by rw[b op a] at o;omega⟩
def TI.ax6(h:TI Wg C K0 aT j t D O Rk d0 B)(R:i≠0)(hi:i<=K0){fn:FuncId}{es:Array Event}(H:∀e∈es,e.mute=true) :
  TI Wg C K0 aT j (t++MemOp.ofEvents i fn pos es) D O Rk d0 B:=by
 have n:∀op∈MemOp.ofEvents i fn pos es,op.g=i:=g_of_ofEvents;have u:∀op∈MemOp.ofEvents i fn pos es,op.act.touch?=none:=λop c=>by obtain⟨e,p,rfl⟩:=lE c;exact touch_mute (H e p)
 have g:∀op∈MemOp.ofEvents i fn pos es,op.act.low B:=λop c=>by obtain⟨e,p,rfl⟩:=lE c;exact low_mute (H e p) B
 have old:∀{q:Nat} {a:Touch},touchAt (t++MemOp.ofEvents i fn pos es) q=some a->touchAt t q=some a:=λ{q a} Q=>by
  obtain⟨z,K,m⟩:=touch_of Q;rcases ru K with⟨_,J⟩|⟨_,F⟩
  .rw[touchAt_of J];exact m
  .rw[u z F] at m;cases m
 have f:∀op∈MemOp.ofEvents i fn pos es,∀b,op.act.touch?=some b->False:=λop c b d=>by rw[u op c] at d;cases d
 refine⟨⟨h.ct.quiet.app λop c x N _=>(f op c x N).elim,λk v E l g=>(h.ct.own k v E l g).app λop c b d _=>(f op c b d).elim,λk v E l g=>(h.ct.rd k v E l g).app λop c b d _ _=>(f op c b d).elim,
   λl G g=>(h.ct.free l G g).app λop c b d _=>(f op c b d).elim,λl G g=>(h.ct.mine l G g).app λop c b d _ _=>(f op c b d).elim,λo=>noRace_append (h.ct.nr o) n λ_ _ _ op c b d _=>(f op c b d).elim,λq op L=> ?_⟩,
  h.norel.app λop c e=> ?_,by rw[rc t (by omega) _ n,h.deaf0],λy I=>by rw[rc t (by omega) _ n,h.deafW y I],λy I A=> ?_,seen_app h.seen g,abO h.over λop c=>.inr (.inr (u op c)),aaa h.known λop c=>.inr (.inr (u op c))⟩
 .rcases ru L with⟨_,P⟩|⟨_,w⟩
  .exact h.ct.gs q op P
  .rw[n op w];omega
 .obtain⟨s,p,rfl⟩:=lE c;have g:=loc_of_ofEvent e;have:=H s p;obtain⟨loc,wr,S⟩:=s;dsimp only at g;subst g;simp[Event.mute] at this
 .obtain⟨r,M,d⟩:=h.rel y I A;exact⟨r,M.appOther n (by omega),d.app λop c s=>by rw[n op c] at s;omega⟩
def TI.fork(h:TI Wg C K0 aT j t D O Rk 0 B){X:aq}(A:Apart (Shr Wg aT) (aa4 C K0 O) (RdL K0 (upd Rk j X))){x y:MemOp}(i:x.g=0/\x.act=.go (K0+j+1))(g:y.g=K0+j+1/\y.act=.start) :
  TI Wg C K0 aT (j+1) (t++#[x,y]) (upd D j ⟨7,m',0⟩) O (upd Rk j X) 0 B:=by
 have n:∀op∈#[x,y],op=x\/op=y:=by intro op b;simpa using b
 have m:∀op∈#[x,y],op.act ≠ .mark .disable/\op.act ≠ .mark .enable:=by
  intro op b;rcases n op b with rfl|rfl
  .rw[i.2];exact⟨by simp,by simp⟩
  .rw[g.2];exact⟨by simp,by simp⟩
 have q:∀op∈#[x,y],op.act.touch?=none:=by
  intro op b;rcases n op b with rfl|rfl
  .rw[i.2];rfl
  .rw[g.2];rfl
 have p:CT (Shr Wg aT) (aa4 C K0 O) (RdL K0 (upd Rk j X)) t (K0+j):=agq h.ct (λ_ _ _ _ d=>.inl d) (λ_ _ _ _ d=>d) (λk _ G l=>by
  constructor
  .rintro⟨c,rfl,d⟩;rw[qI Rk _ (by omega)] at d;exact⟨c,rfl,d⟩
  .rintro⟨c,rfl,d⟩;exact⟨c,rfl,by rw[qI Rk _ (by omega)];exact d⟩)
 refine⟨?_,h.norel.app λop b=> ?_,by rw[Deaf_still t 0 _ m,h.deaf0],λc F=> ?_,λc F o=> ?_,seen_app h.seen λop b=> ?_,abO h.over λop b=>.inr (.inr (q op b)),aaa h.known λop b=>.inr (.inr (q op b))⟩
 .have:=p.fork A i g h.deaf0
  rwa [vd] at this
 .rcases n op b with rfl|rfl
  .rw[i.2];simp
  .rw[g.2];simp
 .rw[Deaf_still t _ _ m];rcases pa c j with f|v
  .rw[h.deafW c f,qI D _ (by omega)]
  .obtain rfl:c=j:=by omega
   rw[qf];exact Deaf_absent λa op E e=>by have:=h.ct.gs a op E;omega
 .rcases pa c j with f|v
  .rw[qI D _ (by omega)] at o;obtain⟨r,w,u⟩:=h.rel c f o;refine⟨r,w.appNot λop b=> ?_,u.app λop b H z s=>by rw[q op b] at s;cases s⟩;rcases n op b with rfl|rfl
   .rw[i.1];omega
   .rw[g.1];omega
  .obtain rfl:c=j:=by omega
   rw[qf] at o;simp at o
 .rcases n op b with rfl|rfl
  .rw[i.2];trivial
  .rw[g.2];trivial
def TI.join(h:TI Wg C K0 aT j t D O Rk 0 B)(P:∀d,d<j->(D d).stage<=6)(A:Apart (Shr Wg aT) (aa4 C K0 O) (RdL K0 Rk))(fn:FuncId)(pos:String)(N:Wg<B) :
  eK (λb=>b=Wg\/aT b) (K0+j) B (t++MemOp.ofEvents 0 fn pos #[Go.ConcR.mk (.acquire (stA Wg))]):=by
 have I:MemOp.ofEvents 0 fn pos #[Go.ConcR.mk (.acquire (stA Wg))]=#[{g:=0,fn,pos,act:=.mark (.acquire (stA Wg))}]:=by rw[ofEvents_eq];simp[ofEvent_mk]
 have z:(t++#[({g:=0,fn,pos,act:=.mark (.acquire (stA Wg))}:MemOp)])[t.size]?=some {g:=0,fn,pos,act:=.mark (.acquire (stA Wg))}:=by simp
 have f:=h.app0 (am B) A (fn:=fn) (pos:=pos) (es:=#[Go.ConcR.mk (.acquire (stA Wg))]) (λop a=>by
   rw[I] at a;simp at a;subst a;exact⟨rfl,λx v=>by simp[MemAct.touch?] at v⟩) (by intro e l;simp at l;subst l;simp[Go.ConcR.mk]) (λop a=>by
   rw[I] at a;simp at a;subst a;exact N)
 rw[I] at f ⊢;have E:(t++#[({g:=0,fn,pos,act:=.mark (.acquire (stA Wg))}:MemOp)]).act? t.size=some (.mark (.acquire (stA Wg))):=by rw[act?_of z]
 have n:(t++#[({g:=0,fn,pos,act:=.mark (.acquire (stA Wg))}:MemOp)]).g? t.size=some 0:=by simp[Trace.g?]
 have H:(t++#[({g:=0,fn,pos,act:=.mark (.acquire (stA Wg))}:MemOp)]).heard t.size:=⟨0,n,by rw[deaf_old (am _)];exact h.deaf0⟩;have q:∀d,d<j->∃r,RelBy (stA Wg) (t++#[({g:=0,fn,pos,act:=.mark (.acquire (stA Wg))}:MemOp)]) (K0+1+d) r/\nG Wg aT (t++#[({g:=0,fn,pos,act:=.mark (.acquire (stA Wg))}:MemOp)]) (K0+1+d) r/\
   HappensBefore (t++#[({g:=0,fn,pos,act:=.mark (.acquire (stA Wg))}:MemOp)]) r t.size:=λd L=>by
  obtain⟨r,o,s⟩:=h.rel d L (P d L);have G:=lt_of_act? o.act;have m:RelBy (stA Wg) (t++#[({g:=0,fn,pos,act:=.mark (.acquire (stA Wg))}:MemOp)]) (K0+1+d) r:=o.appNot λop a=>by simp at a;subst a;show 0≠_;omega
  exact⟨r,m,s.app λop a e=>by simp at a;subst a;have:(0:Nat)=K0+1+d:=e;omega,.single (.inr ⟨.marked G (.inr m.act) E (λk _ _=>f.norel k),m.heard,H⟩)⟩
 refine⟨f.ct.nr,λi op x p v K=> ?_,f.ct.quiet,λi g u y M=> ?_,by rw[f.deaf0];rfl,f.seen,λop a=> ?_⟩
 .rcases pa K0 op.g with w|F
  .obtain⟨d,J⟩:∃d,op.g=K0+1+d:=⟨op.g-(K0+1),by omega⟩;have:=f.ct.gs i op p;obtain⟨r,o,s,l⟩:=q d (by omega);rcases tl r i with c|c|c
   .exact absurd (s i op x c p J v) K
   .subst c;exact⟨t.size,_,z,rfl,.inr l⟩
   .exact⟨t.size,_,z,rfl,.inr (.trans (.single (.inl ⟨c,_,by simp only[Trace.g?,p,qh];rw[J],o.g⟩)) l)⟩
  .exact f.known i op x p F v K
 .rcases pa K0 g with w|F
  .obtain⟨d,rfl⟩:∃d,g=K0+1+d:=⟨g-(K0+1),by omega⟩;obtain⟨op,p,R⟩:=gE.1 u;have:=f.ct.gs i op p;obtain⟨r,o,s,l⟩:=q d (by omega);rcases tl r i with c|c|c
   .exact absurd M (o.after i c u)
   .subst c;exact⟨t.size,n,l⟩
   .exact⟨t.size,n,.trans (.single (.inl ⟨c,_,u,o.g⟩)) l⟩
  .exact f.over i g u y F M
 .obtain⟨i,Q⟩:=vR.1 a;exact f.ct.gs i op Q
def TI.begin(h:eK aT K0 B t)(z:∀(i:Nat) (x:Touch),touchAt t i=some x->∀a,x.loc=.cell a->a.block≠Wg)(y:NoRelease (stA Wg) t):TI Wg C K0 aT 0 t D O Rk 0 B:=by
 have j:∀k,k<=K0->∀l,¬aa4 C K0 O k l:=λk H l ⟨q,e,_⟩=>by omega
 have E:∀(i:Nat) (x:Touch),touchAt t i=some x->Shr Wg aT x.loc->ShL aT x.loc:=λi x f ⟨a,e,h⟩=>⟨a,e,h.resolve_left (z i x f a e)⟩;have s:∀l,¬Shr Wg aT l->Perm t 0 l:=λl n i a A e=>by
  obtain⟨op,d,r⟩:=touch_of A;exact h.known i op a d r λ⟨b,p,c⟩=>n (e▸⟨b,p,.inr c⟩)
 refine⟨⟨λi op x d f c=>h.quiet i op x d f (E i x (by rw[touchAt_of d];exact f) c),λk v u l n=>absurd n (j k u l),λk v u l ⟨q,e,_⟩=>by omega,λl c _=>s l c,λl c _=>.of (s l c),h.clean,λi op d=>h.gs op (qx d)⟩,
  y,h.hears,λq F=>by omega,λq F=>by omega,h.seen,λi g w m _ G=>h.over i g w m G,λi op x d _ f c=>h.known i op x d f λ⟨b,p,o⟩=>c ⟨b,p,.inr o⟩⟩
end
end
section
open Go.Conc Go.ConcN
open Go.ConcR (KK wgBlock WgAt stA smA rd wr mk Payload DC0 Bk g_of_ofEvents ofEvent_mk ofEvent_loc_mark loc_of_ofEvent bk_of_mute again_blocked)
variable [Payload]
section
variable {P:Program} {ty:TypeId} {Wg C n:Nat} {val:Nat->Value} {κ s m d:Nat} {R S:aq} {T:jo} {g:Goroutine} {w w':World}
def WK.rely(h:WK P ty Wg C n val κ R s m d T S g w)(b:jC ty Wg C (2*n) R (dN κ) S w w'):WK P ty Wg C n val κ R s m d T S g w':=by
 cases h with
 |work h=>
  have a:∀S x y z,jC ty Wg C (2*n) R (dN κ) S x y->jC ty Wg C (2*n) R (dN κ) S y z->jC ty Wg C (2*n) R (dN κ) S x z:=λ_ _ _ _ e c=>e.trans c;exact .work (GoT.rely a h b)
 |rest f h=>exact .rest f (h.rely (by rw[Nat.add_sub_cancel];exact b.rw (i:=2*κ) (by unfold dN;omega)))
def WK.status(h:WK P ty Wg C n val κ R s m d T S g w):g.status=.running\/g.status=.finished:=by
 cases h with
 |work h=>exact .inl (GoT.running (λ_ _ _ x=>x.1.1) (λ_ _=>jC.refl _ _ _ _) h)
 |rest a h=>exact h.status
def WK.woken(h:WK P ty Wg C n val κ R s m d T S g w)(a b:Goroutine)(w':World):woken P a b w' g=g:=by
 unfold Go.Conc.woken;split
 .exact again_running _ h.status
 .rfl
def WK.running_of(h:WK P ty Wg C n val κ R s m d T S g w)(a:s≠1):g.status=.running:=by
 cases h with
 |work h=>exact GoT.running (λ_ _ _ x=>x.1.1) (λ_ _=>jC.refl _ _ _ _) h
 |rest _ h=>exact h.running_of a
end
section
variable {P:Program} {ty:TypeId} {Wg C n:Nat} {val:Nat->Value} {aP Fin:aq->aq->Goroutine->World->Prop} {tag:CTag} {j f d:Nat} {R S:aq} {T:jo} {a:Goroutine} {w w':World}
def fe.rely(h:fe P ty Wg C n val aP Fin tag j R S T f d a w)(b:RM ty Wg C n R S w w'):fe P ty Wg C n val aP Fin tag j R S T f d a w':=by
 have c:∀x y z,RM ty Wg C n R S x y->RM ty Wg C n R S y z->RM ty Wg C n R S x z:=λ_ _ _ m l=>m.trans l;have e:∀S x y z,jC ty Wg C (2*n) R noC S x y->jC ty Wg C (2*n) R noC S y z->jC ty Wg C (2*n) R noC S x z:=λ_ _ _ _ m l=>m.trans l;cases h with
 |skd g h=>exact .skd g (GoT.rely e h b)
 |sa1 g h=>exact .sa1 g (th c h b)
 |ske g h=>exact .ske g (th c h b)
 |sgo g h=>exact .sgo g (GoT.rely e h b)
 |kd h=>exact .kd (GoT.rely e h b)
 |anch h=>exact .anch (th c h b)
 |w1 h=>exact .w1 (th c h b)
 |w2 h=>exact .w2 (th c h b)
 |w3 h=>exact .w3 (th c h b)
 |blk h=>exact .blk (λk i=>h k (b.trans i))
 |w4 h=>exact .w4 (th c h b)
 |ke h=>exact .ke (th c h b)
 |acq h=>exact .acq (th c h b)
def fe.status(c:∀R S g w,aP R S g w->g.status=.running)(h:fe P ty Wg C n val aP Fin tag j R S T f d a w):(a.status=.running/\tag ≠ .blk)\/(a.status=.blocked/\tag=.blk):=by
 have b:RM ty Wg C n R S w w:=.refl _ _ _ _;cases h with
 |skd _ h=>exact .inl ⟨GoT.running (λ_ _ _ x=>x.1) (λ_ _=>jC.refl _ _ _ _) h,by simp⟩
 |sa1 _ h=>exact .inl ⟨sq (λ_ _ x=>x.1) w b h,by simp⟩
 |ske _ h=>exact .inl ⟨sq (λ_ _ x=>x.1) w b h,by simp⟩
 |sgo _ h=>exact .inl ⟨GoT.running (λ_ _ _ x=>x.1) (λ_ _=>jC.refl _ _ _ _) h,by simp⟩
 |kd h=>exact .inl ⟨GoT.running (λ_ _ _ x=>x.1) (λ_ _=>jC.refl _ _ _ _) h,by simp⟩
 |anch h=>exact .inl ⟨sq (c _ _) w b h,by simp⟩
 |w1 h=>exact .inl ⟨sq (λ_ _ x=>x.1) w b h,by simp⟩
 |w2 h=>exact .inl ⟨sq (λ_ _ x=>x.1) w b h,by simp⟩
 |w3 h=>exact .inl ⟨sq (λ_ _ x=>x.1) w b h,by simp⟩
 |blk h=>exact .inr ⟨rfl,rfl⟩
 |w4 h=>exact .inl ⟨sq (λ_ _ x=>x.1) w b h,by simp⟩
 |ke h=>exact .inl ⟨sq (λ_ _ x=>x.1) w b h,by simp⟩
 |acq h=>exact .inl ⟨sq (λ_ _ x=>x.1) w b h,by simp⟩
def fe.wokenBy(i:∀R S g w,aP R S g w->g.status=.running)(h:fe P ty Wg C n val aP Fin tag j R S T f d a w)(p:RM ty Wg C n R S w w')(g g':Goroutine) :
  ∃b k,fe P ty Wg C n val aP Fin b j R S T k d (woken P g g' w' a) w'/\k<=f+1/\(b=tag\/(tag=.blk/\b=.w3))/\(mayWake P g=true->g'.status=.running->b ≠ .blk):=by
 have c:=h.rely p;unfold Go.Conc.woken;split
 .rcases c.status i with⟨q,e⟩|⟨_,rfl⟩
  .exact⟨tag,f,by rw[again_running _ (.inl q)];exact c,by omega,.inl rfl,λ_ _=>e⟩
  .cases c with
   |blk m=>
    rename_i t;have l:=m w' (.refl _ _ _ _);exact⟨.w3,0+1,by rw[again_blocked l.1 l.2.1];exact .w3 (qw m),by omega,.inr ⟨rfl,rfl⟩,λ_ _=>by simp⟩
 .rename_i s;exact⟨tag,f,c,by omega,.inl rfl,λr o=>absurd (by simp[r,o]) s⟩
def fe.bound(h:fe P ty Wg C n val aP Fin tag j R S T f d a w):j+pend tag<=n:=by
 cases h<;>simp only[pend]<;>(try simp)<;>omega
end
section
variable (P:Program) (ty:TypeId) (Wg C n K0:Nat) (val:Nat->Value) (aT:aq) (aP Fin:aq->aq->Goroutine->World->Prop)
structure MI (j:Nat) (gs:Array Goroutine) (w:World) (t:Trace) (D:Nat->WD) (TV:Nat->jo) (R S:aq) (O Rk:Nat->aq) (q:Nat->Nat) (d0:Nat):Prop where
 size:gs.size=K0+1+j
 old:∀i g,0<i->i<=K0->gs[i]?=some g->QuitsD P (q i) (Deaf t i) g
 wk:∀κ,κ<j->∃g,gs[K0+1+κ]?=some g/\WK P ty Wg C n val κ (Rk κ) (D κ).stage (D κ).fuel (D κ).deaf (TV (κ+1)) (O κ) g w
 ti:TI Wg C K0 aT j t D O Rk d0 w.heap.size
 cu:Sets Wg C aT w R S O Rk
 has:∀κ,κ<j->(D κ).stage<=6->Has C (2*κ) (val (2*κ)) w/\Has C (2*κ+1) (val (2*κ+1)) w
 pay:PayAt C (2*n) w
 unO:∀κ,j<=κ->O κ=λ_=>False
def aan(μ:Mu)(m:Machine)(t:Trace):Prop:=
 ∃(d:Array Goroutine) (w:World) (sl:Option (Nat×Nat)) (j:Nat) (D:Nat->WD) (c:Nat->jo) (R S:aq) (O i:Nat->aq) (q:Nat->Nat) (b:CTag) (g e:Nat) (a:Goroutine) (f sm:Int),
  m=crowd d w sl/\d[0]?=some a/\fe P ty Wg C n val aP Fin b j R S (c 0) g e a w/\MI P ty Wg C n K0 val aT j d w t D c R S O i q e/\WgAt ty Wg w f sm/\ConcN.Mode j D b f sm/\
  μ=(phi n (Vc j D) b+Ssum j D,(c,g+2*Fsum j D+2*sumTo (K0+1) q))
def anC(m:Machine)(t:Trace):Prop:=
 ∃(d:Array Goroutine) (w:World) (sl:Option (Nat×Nat)) (a:Goroutine) (q:Nat->Nat) (R S:aq),
  m=crowd d w sl/\d[0]?=some a/\d.size=K0+1+n/\Fin R S a w/\Leavers P t d q/\eK (λb=>b=Wg\/aT b) (K0+n) w.heap.size t/\PayAt C (2*n) w/\(∀c,c<n->Has C (2*c) (val (2*c)) w/\Has C (2*c+1) (val (2*c+1)) w)/\WgLive ty Wg w/\
  (∀b,aT b\/b=Wg->¬R b/\¬S b/\b≠C/\b<w.heap.size)
end
section
variable {P:Program} {ty:TypeId} {Wg C n K0:Nat} {val:Nat->Value} {aT:aq} {aP Fin:aq->aq->Goroutine->World->Prop}
 {gs:Array Goroutine} {w w':World} {sl:Option (Nat×Nat)} {j:Nat} {D:Nat->WD} {TV:Nat->jo} {R S:aq} {O Rk:Nat->aq} {q:Nat->Nat} {tag:CTag} {f0 d0:Nat} {a:Goroutine} {t:Trace} {st sm:Int}
omit [Payload] in
def ai0{a:Type}(f:Nat->a)(i:Nat):upd f i (f i)=f:=by
 funext x
 by_cases e:x=i
 .subst e;rw[qf]
 .rw[qI f _ e]
def MI.at(h:MI P ty Wg C n K0 val aT j gs w t D TV R S O Rk q d0)(d:Nat):MI P ty Wg C n K0 val aT j gs (w.at d) t D TV R S O Rk q d0:=
 ⟨h.size,h.old,λc a=>let⟨g,b,e⟩:=h.wk c a;⟨g,b,e.rely (.at _ _ _ w d)⟩,h.ti,h.cu.at d,h.has,h.pay,h.unO⟩
def pw (a3:∀R S g w,aP R S g w->g.status=.running) (ha:gs[0]?=some a) (lD:fe P ty Wg C n val aP Fin tag j R S (TV 0) f0 d0 a w) (o:MI P ty Wg C n K0 val aT j gs w t D TV R S O Rk q d0)
  (N:κ<j) {g g':Goroutine} {es:Array Event} {s' : Nat} {T':jo} {F:aq} {A u:Int} (hg:gs[K0+1+κ]?=some g) (a5:stepG P false g w=.go g' w' es)
  (p:RM ty Wg C n R S w w') (H:∀c,c<j->c≠κ->jC ty Wg C (2*n) (Rk c) (dN c) (O c) w w')
  (U:WK P ty Wg C n val κ (Rk κ) s' m' Z T' F g' w') (hO:∀b,O κ b->F b) (J:∀b,F b->O κ b\/(w.heap.size<=b/\b<w'.heap.size))
  (a0:∀op∈MemOp.ofEvents (K0+1+κ) g.frame.fn g.frame.place es,OkW (Shr Wg aT) (aa4 C K0 (upd O κ F)) (RdL K0 Rk) (K0+1+κ) op) (W:∀e∈es,e.loc ≠ .mark (.release (stA Wg)))
  (T:deafBehind (D κ).deaf es=Z) (a1:∀op∈MemOp.ofEvents (K0+1+κ) g.frame.fn g.frame.place es,op.act.low w'.heap.size)
  (hrel:s'<=6->∃r,RelBy (stA Wg) (t++MemOp.ofEvents (K0+1+κ) g.frame.fn g.frame.place es) (K0+1+κ) r/\nG Wg aT (t++MemOp.ofEvents (K0+1+κ) g.frame.fn g.frame.place es) (K0+1+κ) r)
  (a4:s'<=6->Has C (2*κ) (val (2*κ)) w'/\Has C (2*κ+1) (val (2*κ+1)) w') (X:PayAt C (2*n) w') (eY:WgAt ty Wg w' A u)
  (aX:∀m,(m=tag\/(tag=.blk/\m=.w3))->(mayWake P g=true->g'.status=.running->m ≠ .blk)->ConcN.Mode j (upd D κ ⟨s',m',Z⟩) m A u)
  (a2:(s'<(D κ).stage/\cnt ⟨s',m',Z⟩<=cnt (D κ))\/(s'=(D κ).stage/\jo.Lt T' (TV (κ+1)))\/(s'=(D κ).stage/\T'=TV (κ+1)/\m'+1=(D κ).fuel)) :
  ∃l I mr,runT P (crowd gs w sl) (K0+1+κ)=(.next l,I)/\aa2 (n+1) mr (phi n (Vc j D) tag+Ssum j D,(TV,f0+2*Fsum j D+2*sumTo (K0+1) q))/\aan P ty Wg C n K0 val aT aP Fin mr l (t++I):=by
 obtain⟨m,f',px,a6,G,Y⟩:=lD.wokenBy a3 p g g';have s:(K0+1+κ ==0)=false:=by simp
 have E:=sZ (P:=P) (sl:=sl) (i:=K0+1+κ) hg (by rw[s];exact a5);have e1:=sumTo_upd D (⟨s',m',Z⟩:WD) cnt N;have e2:=sumTo_upd D (⟨s',m',Z⟩:WD) WD.stage N;have e3:=sumTo_upd D (⟨s',m',Z⟩:WD) WD.fuel N;have hb:=lD.bound;have B:=o.cu.azZ (w':=w') p.size J;refine⟨_,_,(phi n (Vc j (upd D κ ⟨s',m',Z⟩)) m+Ssum j (upd D κ ⟨s',m',Z⟩),(upd TV (κ+1) T',f'+2*Fsum j (upd D κ ⟨s',m',Z⟩)+2*sumTo (K0+1) q)),E, ?_,
  _,w',sl,j,upd D κ ⟨s',m',Z⟩,upd TV (κ+1) T',R,S,upd O κ F,Rk,q,m,f',d0,woken P g g' w' a,A,u,rfl,by rw[sR _ _ _ _ (by omega),ha];rfl,by rw[qI TV _ (by omega)];exact px, ?_,eY,aX m G Y,rfl⟩
 .rw[phi_retag n _ G];simp only[Vc,Ssum,Fsum] at *;rcases a2 with⟨Q,L⟩|⟨Q,L⟩|⟨Q,L,h3⟩
  .refine Prod.Lex.left _ _ ?_;have:=phi_mono n (v':=sumTo j λa=>cnt (upd D κ ⟨s',m',Z⟩ a)) (v:=sumTo j λa=>cnt (D a)) (by omega) tag;omega
  .have ec:cnt (⟨s',m',Z⟩:WD)=cnt (D κ):=by simp only[cnt,Q]
   have V:(sumTo j λa=>cnt (upd D κ ⟨s',m',Z⟩ a))=sumTo j λa=>cnt (D a):=by omega
   have z:(sumTo j λa=>(upd D κ ⟨s',m',Z⟩ a).stage)=sumTo j λa=>(D a).stage:=by omega
   rw[V,z];refine Prod.Lex.right _ (Prod.Lex.left _ _ ⟨κ+1,by omega,by rw[qf];exact L,λk hk=>qI TV _ hk⟩)
  .have ec:cnt (⟨s',m',Z⟩:WD)=cnt (D κ):=by simp only[cnt,Q]
   have V:(sumTo j λa=>cnt (upd D κ ⟨s',m',Z⟩ a))=sumTo j λa=>cnt (D a):=by omega
   have z:(sumTo j λa=>(upd D κ ⟨s',m',Z⟩ a).stage)=sumTo j λa=>(D a).stage:=by omega
   rw[V,z,L,ai0];refine Prod.Lex.right _ (Prod.Lex.right _ ?_);omega
 .refine⟨by simp[o.size],λi x s hi M=> ?_,λc d=> ?_,o.ti.appW p.size N B.apart hO (λb x=>(J b x).imp id (·.1)) a0 W T a1 hrel,B,λc d f=> ?_,X,λc d=>by rw[qI O _ (by omega)];exact o.unO c d⟩
  .rw[sR _ _ _ _ (by omega)] at M;obtain⟨y,hy,rfl⟩:=gE.1 M;have hq:=o.old i y s hi hy;rw[sS hq,rc t (by omega) _ g_of_ofEvents];exact hq
  .by_cases e:c=κ
   .subst e;exact⟨g',uC _ _ _ (by rw[o.size];omega),by rw[qf,qf,qf];exact U⟩
   .obtain⟨x,M,K⟩:=o.wk c d;refine⟨x,by rw[sR _ _ _ _ (by omega),M,qh,K.woken], ?_⟩;rw[qI D _ e,qI TV _ (by omega),qI O _ e];exact K.rely (H c d e)
  .by_cases e:c=κ
   .subst e;rw[qf] at f;exact a4 f
   .rw[qI D _ e] at f;have hh:=o.has c d f;have hr:=H c d e;exact⟨(hr.cell (2*c) (by unfold dN;omega)).trans hh.1,(hr.cell (2*c+1) (by unfold dN;omega)).trans hh.2⟩
def jD (ha:gs[0]?=some a) (d:MI P ty Wg C n K0 val aT j gs w t D TV R S O Rk q d0)
  {es:Array Event} {dT:CTag} {f':Nat} {T':jo} {H:aq} {l g:Int} (G:stepG P true a w=.go L w' es)
  (Q:w.heap.size<=w'.heap.size) (m:∀c,c<j->jC ty Wg C (2*n) (Rk c) (dN c) (O c) w w') (F:∀b,H b->S b\/(w.heap.size<=b/\b<w'.heap.size))
  (I:∀op∈MemOp.ofEvents 0 a.frame.fn a.frame.place es,Ok0 (Shr Wg aT) (aa4 C K0 O) (RdL K0 Rk) (K0+j) op) (B:∀e∈es,e.loc ≠ .mark (.release (stA Wg))) (J:∀op∈MemOp.ofEvents 0 a.frame.fn a.frame.place es,op.act.low w'.heap.size)
  (E:PayAt C (2*n) w') (W:fe P ty Wg C n val aP Fin dT j R H T' f' (deafBehind d0 es) L w') (Z:WgAt ty Wg w' l g) (aX:ConcN.Mode j D dT l g)
  (z:phi n (Vc j D) dT<phi n (Vc j D) tag\/(phi n (Vc j D) dT=phi n (Vc j D) tag/\(jo.Lt T' (TV 0)\/(T'=TV 0/\f'<f0)))) :
  ∃f o V,runT P (crowd gs w sl) 0=(.next f,o)/\aa2 (n+1) V (phi n (Vc j D) tag+Ssum j D,(TV,f0+2*Fsum j D+2*sumTo (K0+1) q))/\aan P ty Wg C n K0 val aT aP Fin V f (t++o):=by
 have p:=sZ (P:=P) (sl:=sl) (i:=0) ha (by simpa using G);have v:=d.cu.awL (w':=w') Q F;refine⟨_,_,(phi n (Vc j D) dT+Ssum j D,(upd TV 0 T',f'+2*Fsum j D+2*sumTo (K0+1) q)),p, ?_,
  _,w',sl,j,D,upd TV 0 T',R,H,O,Rk,q,dT,f',deafBehind d0 es,L,l,g,rfl,uC _ _ _ (by rw[d.size];omega),by rw[qf];exact W, ?_,Z,aX,rfl⟩
 .rcases z with h|⟨N,h|⟨X,h3⟩⟩
  .exact Prod.Lex.left _ _ (by omega)
  .rw[N];exact Prod.Lex.right _ (Prod.Lex.left _ _ ⟨0,by omega,by rw[qf];exact h,λk Y=>qI TV _ Y⟩)
  .rw[N,X,ai0];exact Prod.Lex.right _ (Prod.Lex.right _ (by omega))
 .refine⟨by simp[d.size],λi x K hi u=> ?_,λc s=> ?_,d.ti.app0 Q d.cu.apart I B J,v,λc s A=> ?_,E,d.unO⟩
  .rw[sR _ _ _ _ (by omega)] at u;obtain⟨y,hy,rfl⟩:=gE.1 u;have M:=d.old i y K hi hy;rw[sS M,rc t (by omega) _ g_of_ofEvents];exact M
  .obtain⟨x,u,r⟩:=d.wk c s;refine⟨x,by rw[sR _ _ _ _ (by omega),u,qh,r.woken], ?_⟩;rw[qI TV _ (by omega)];exact r.rely (m c s)
  .have T:=d.has c s A;have U:=m c s;exact⟨(U.cell (2*c) (by unfold dN;omega)).trans T.1,(U.cell (2*c+1) (by unfold dN;omega)).trans T.2⟩
def arz (z:∀R S g w,aP R S g w->g.status=.running) (ha:gs[0]?=some a) (T:fe P ty Wg C n val aP Fin tag j R S (TV 0) f0 d0 a w) (c:MI P ty Wg C n K0 val aT j gs w t D TV R S O Rk q d0) (W:WgAt ty Wg w st sm) (aX:ConcN.Mode j D tag st sm)
  (l:0<i) (hi:i<=K0) {g:Goroutine} (G:gs[i]?=some g) (b:g.status=.running) :
  ∃d p J,runT P (crowd gs w sl) i=(.next d,p)/\aa2 (n+1) J (phi n (Vc j D) tag+Ssum j D,(TV,f0+2*Fsum j D+2*sumTo (K0+1) q))/\aan P ty Wg C n K0 val aT aP Fin J d (t++p):=by
 have u:=c.old i g l hi G;cases f:q i with
 |zero=>rw[f] at u;rw[u.1] at b;cases b
 |succ k=>
  rw[f] at u;rcases u with⟨U,_⟩|⟨_,H,es,Z,v,B⟩
  .rw[U] at b;cases b
  have E:(i ==0)=false:=by simp;omega
  have F:=sZ (P:=P) (sl:=sl) (i:=i) G (by rw[E];exact v w);obtain⟨K,I,M,Q,o,V⟩:=T.wokenBy z (.refl _ _ _ w) g H;have Y:sumTo (K0+1) (upd q i k)+(k+1)=sumTo (K0+1) q+k:=by
   have:=sumTo_upd q k id (show i<K0+1 by omega);simpa[f] using this
  refine⟨_,_,(phi n (Vc j D) K+Ssum j D,(TV,I+2*Fsum j D+2*sumTo (K0+1) (upd q i k))),F, ?_,
   _,w,sl,j,D,TV,R,S,O,Rk,upd q i k,K,I,d0,woken P g H w a,st,sm,rfl,by rw[sR _ _ _ _ (by omega),ha];rfl,M, ?_,W,aX.retag o,rfl⟩
  .rw[phi_retag n _ o];exact Prod.Lex.right _ (Prod.Lex.right _ (by omega))
  .refine⟨by simp[c.size],λL x l A m=> ?_,λN gG=> ?_,c.ti.ax6 (by omega) hi Z,c.cu,c.has,c.pay,c.unO⟩
   .by_cases e:i=L
    .subst e;rw[uC _ _ _ (by rw[c.size];omega)] at m;obtain rfl:=ef m;rw[qf,Deaf_own];exact B
    .rw[sR _ _ _ _ e] at m;obtain⟨y,X,rfl⟩:=gE.1 m;have r:=c.old L y l A X;rw[sS r,qI q k (sD e),rc t e _ g_of_ofEvents];exact r
   .obtain⟨x,m,s⟩:=c.wk N gG;exact⟨x,by rw[sR _ _ _ _ (by omega),m,qh,s.woken],s⟩
end
end
end Go.Proofs.YtpbbcfocomejmaaGreatDoor