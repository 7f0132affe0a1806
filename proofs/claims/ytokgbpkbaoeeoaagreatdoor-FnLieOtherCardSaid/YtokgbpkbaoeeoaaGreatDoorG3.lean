/- A part. -/
import Derived.Test.YtokgbpkbaoeeoaaGreatDoorG2
import Derived.Maps.AppendAt
import Derived.Deep.OwnRows
import Derived.StillTail
import Derived.Deep.RegionHeld3
import Derived.Deep.RegionLaw
import Derived.Laws.OwnMore
import Derived.Laws.MakeOwn
import Derived.Conc.CrowdRun
import Derived.Conc.Beside
set_option maxRecDepth 100000
set_option maxHeartbeats 8000000
set_option linter.all false
open Go Go.Conc Go.ConcN Go.RowKit Go.Proofs.Tryz Go.Proofs.YtokgbpkbaoeeoaaGreatDoor
variable {Z V B base' c g hi i j m m' n κ:Nat} {U a:Act} {R:Type} {N:Next} {o:Oper} {p:Addr} {S w w' x:World} {u v:Value} {T e t:TypeId} {f:FuncId} {pos:String} {P:Program} {L:Goroutine} {l rest:List Oper} {Y news:List Value} {X:Array Oper} {d:Option Tmp} {listed:Array Bool} {M cs:Array Value} {A:Option Addr} {es:Array Event} {Own:Nat→Loc→Prop} {W:Act→World→Prop} {O Q:Exit→Act→World→Prop}
namespace Go.Proofs.YtokgbpkbaoeeoaaGreatDoor
def gc:=@_root_.List.take_length
def mc:=@_root_.Nat.zero_add
def mt:=@_root_.Go.Conc.mem_ofEvents
def mw:=@_root_.List.mem_singleton
def oS:=@_root_.Go.World.size_alloc
def qo:=@_root_.List.mem_flatMap
def qs:=@_root_.Go.ConcN.upd_same
def qB:=@_root_.Go.Addr.mk.injEq
def qE:=@_root_.List.getElem?_take
def qH:=@_root_.Go.Conc.Goes.stop
def qJ:=@_root_.bne_eq_false_iff_eq
def qN:=@_root_.Option.bind_some
def qX:=@_root_.Go.ConcN.upd_ne
def rb:=@_root_.List.length_set
def rh:=@_root_.Array.getElem?_push_size
def rv:=@_root_.Nat.succ_mul
def rz:=@_root_.Go.Conc.Deaf_other
def rA:=@_root_.Go.Sem.runT_fst
def rI:=@_root_.List.mem_filter
def rJ:=@_root_.Go.Conc.getElem?_append_cases
def rU:=@_root_.Go.Lib.byteCells_length
def rV:=@_root_.Go.Conc.Goes.cases
def rX:=@_root_.Nat.add_sub_cancel_left
def sb:=@_root_.List.flatMap_append
def sg:=@_root_.List.mem_append_right
def sj:=@_root_.List.length_filter_le
def sq:=@_root_.List.mem_append_left
def sH:=@_root_.List.filter_eq_self
def sO:=@_root_.Go.Conc.Goes.running
def sS:=@_root_.Go.Result.ok.injEq
def sT:=@_root_.Nat.not_lt_zero
def sX:=@_root_.Go.Conc.aside_setCell
def ta:=@_root_.List.foldl_append
def tf:=@_root_.Int.toNat_natCast
def tk:=@_root_.Go.ConcN.get_map_set
def tl:=@_root_.Go.Conc.woken_quitsD
def tu:=@_root_.decide_eq_false_iff_not
def tA:=@_root_.Go.Conc.runT_crowd_go
def tD:=@_root_.Nat.mod_lt
def tE:=@_root_.List.getElem?_drop
def tH:=@_root_.Go.Conc.Goes.rely
def tM:=@_root_.List.size_toArray
def tO:=@_root_.Go.Conc.goes_go
def tQ:=@_root_.Go.Sem.run_bind
def tS:=@_root_.Go.ConcN.deafBehind_idle
def tV:=@_root_.Go.getD_replicate_false
def ug:=@_root_.List.nodup_cons
def uk:=@_root_.Go.Sem.run_pure
def uo:=@_root_.Go.ConcN.RW.refl
def uv:=@_root_.List.filter_cons_of_pos
def uw:=@_root_.List.filter_cons_of_neg
def uz:=@_root_.Go.Result.andThen_ok
def uA:=@_root_.Nat.lt_trichotomy
def uB:=@_root_.List.nodup_append
def uD:=@_root_.Bool.not_eq_true'
def uH:=@_root_.Go.ConcN.cell_of_block
def uL:=@_root_.Go.ConcN.get_map_set_same
def uR:=@_root_.false_iff
def uT:=@_root_.List.set_append_right
def uW:=@_root_.Nat.zero_mul
def vm:=@_root_.List.take_succ_cons
def vC:=@_root_.Int.le_refl
def vX:=@_root_.Nat.div_add_mod'
def wx:=@_root_.Array.mem_iff_getElem?
def wM:=@_root_.Nat.div_lt_of_lt_mul
def wS:=@_root_.Array.map_congr_left
section
variable {β:Bool}
open Go.RowKit
def auX:Code->Code
 |.seq a b=>.seq (auX a) (auX b)
 |.region i ⟨ops⟩ d=>.region i (ops.map λo=>{o with type:=match o.op with|.call ⟨.builtin .unsafeSliceData,_,_⟩=>3|_=>o.type}).toArray d
 |.ret=>.ret
 |_=>.skip
noncomputable def xSt:Func:=by
 apply(λ(x:Func) (_:{f134 with body:=f134.body.map auX}=x)=>x)
 case x=>dsimp only[auX,f134,Option.map,List.map]
def arB:f134.body.map gP=xSt.body:=by unfold gP;kernel_rfl
def arC:(ah β).funcs[134]?=some xSt:=by
 refine(alu β (by decide) (by decide)).trans ?_;have e:Option.map pf (prog.funcs[134]?)=Option.map pf (some f134):=ga _ func134;rw[e,qu];unfold pf;rw[arB];rfl
@[go_sem] theorem aAD(args:Array Value)(w:World):(callFunc 134 args).run (ah β) w=.ok (.enter 134 args) w:=by
 have a:=cH func134;exact lQ arC a rfl args w
def ac8(B b:Nat)(l:List UInt8)(w:World)(h:Lib.IsBuilderF 183 5 B b (Lib.byteCells l) w)(t:l≠[]) :
  Calls (ah β) 134 #[.pointer (some ⟨b,0,none⟩)] w λe s=>e=.returned (.string ⟨l.toArray⟩)/\(Lib.IsBuilderF 183 5 B b (Lib.byteCells l) s/\Below B w s):=by
 obtain⟨p,F,q⟩:∃p,(p=.pointer none\/p=.pointer (some ⟨b,0,none⟩))/\Lib.BuilderAtF 183 5 B b p (Lib.byteCells l) w:=by
  rcases h with h|h
  .exact⟨_,.inl rfl,h⟩
  .exact⟨_,.inr rfl,h⟩
 obtain⟨O,v,u,c,f⟩:=q;have i:l.length≠0:=by simpa using t
 rw[rU] at c;obtain⟨g,cap,a,d,rfl,o,z,P,H,k,J,Q⟩:∃g cap a d,v=.slice (some ⟨g,0,none⟩) l.length cap/\B<=g/\w.heap[g]?=some (.cells a 5 d)/\d.2<=l.length*1/\l.length<=cap/\cap<=maxLen/\a.size=cap*1/\a.toList.take (l.length*1)=Lib.byteCells l:=by
  rcases c.2 with⟨_,G⟩|⟨g,cap,a,d,M,r⟩
  .exact absurd G i
  .exact⟨g,cap,a,d,M,r⟩
 have D:w.drew.cell? ⟨b,1,none⟩=some (.slice (some ⟨g,0,none⟩) l.length cap):=by
  have:w.drew.heap[b]?=some (.cells #[p,.slice (some ⟨g,0,none⟩) l.length cap] 183 (0,0)):=u;rw[rr this];rfl
 have E:(Builtin.unsafeSliceData_ #[22] 3 #[.slice (some ⟨g,0,none⟩) l.length cap]).run (ah β) w.drew=.ok (.pointer (some ⟨g,0,none⟩)) w.drew:=
  Lib.run_unsafeSliceData_row _ _ _ _ _ _ (by omega)
 have y:(Builtin.unsafeString_ #[208,3] 9 #[.pointer (some ⟨g,0,none⟩),.int .i64 l.length]).run (ah β) w.drew=.ok (.string ⟨l.toArray⟩) (w.drew.freeze ⟨g,0,none⟩ l.length):=by
  refine Lib.run_unsafeString_row w.drew 208 3 9 5 yo (by kernel_rfl) g a.size (by have N:w.drew.heap[g]?=some (.cells a 5 d):=z;simp[World.shape?,N]) l t (by omega) (by unfold maxLen at k;omega) ?_;intro j x K;have:=c.cells (g:=g) rfl j (.int .u8 x.toNat) (by simp[Lib.byteCells,K]);exact this
 have A:Lib.IsBuilderF 183 5 B b (Lib.byteCells l) (w.drew.freeze ⟨g,0,none⟩ l.length):=by
  have C:Lib.BuilderAtF 183 5 B b p (Lib.byteCells l) w.drew:=⟨O,_,u,by rw[rU];exact c,f⟩;have n:=C.froze (g:=g) (cap:=cap) (by rw[rU];exact D);rw[rU] at n;rcases F with rfl|rfl
  .exact .inl n
  .exact .inr n
 have m:=aef (β:=β);have L:xSt.ntmps=14:=ntmps134;have I:xSt.results=#[.tmp 2]:=results134;go_enter arC,L;go_wp2
 go_region_o
 all_goals(go_wp2;refine pb (results_tmp I _ _ _) rfl ?_;exact⟨rfl,A,Lib.below_freeze (Below.drew (fd B w)) (p:=⟨g,0,none⟩) o _⟩)
end
section
variable {β:Bool}
open Go.RowKit
def auY(n:Nat)(c:n<=8)(w:World):Calls (ah β) 191 #[.int .u64 1,.int .u64 n] w λe a=>e=.returned (.tuple #[.int .u64 0,.int .u64 n])/\w=a:=by
 have b:n=0\/n=1\/n=2\/n=3\/n=4\/n=5\/n=6\/n=7\/n=8:=by omega
 rcases b with rfl|rfl|rfl|rfl|rfl|rfl|rfl|rfl|rfl
 all_goals
  go_enter yD,ntmps191;go_wp2;go_ret2;exact⟨rfl,rfl⟩
def aAE(n:Nat)(b:n<=8)(w:World):Calls (ah β) 185 #[.int .u64 1,.int .u64 n] w λe a=>e=.returned (.tuple #[.int .u64 0,.int .u64 n])/\w=a:=by
 go_enter yF,ntmps185;go_wp2;refine(auY n b w).mono ?_;rintro e c ⟨rfl,rfl⟩;go_wp2;go_ret2;exact⟨rfl,rfl⟩
def alH(b:Nat)(w:World):Nat:=match w.cell? ⟨b,1,none⟩ with|some (.slice _ l _)=>l|_=>0
def agB{b : Nat}{l:List UInt8}(h:Lib.IsBuilderF T e B b (Lib.byteCells l) w):alH b w=l.length:=by
 replace h:∃p,Lib.BuilderAtF T e B b p (Lib.byteCells l) w:=by
  rcases h with h|h
  .exact⟨_,h⟩
  .exact⟨_,h⟩
 obtain⟨p,h⟩:=h;obtain⟨n,v,j,a,f⟩:=h;have k:w.cell? ⟨b,1,none⟩=some v:=by rw[rr j];rfl
 unfold alH;rw[k];rw[rU] at a;rcases a.2 with⟨c,i⟩|⟨g,cap,d,m,c,_⟩
 .rw[c,i]
 .rw[c]
def ly(q:Nat):List UInt8:=List.replicate q 46
def arD(n:Nat)(R:n=2\/n=3)(w:World):Calls (ah β) 178 #[.string ⟨#[46]⟩,.int .i64 n] w λe z=>e=.returned (.string ⟨(ly n).toArray⟩)/\Below w.heap.size w z:=by
 have Q:((n:Int) ==0)=false:=de.2 (by omega);have N:((n:Int) ==1)=false:=de.2 (by omega);go_enter xo,ntmps178;go_wp2;refine(aAE n (by omega) w).mono ?_;rintro e O ⟨rfl,rfl⟩;go_wp2;generalize p:w.alloc (.cells #[.pointer none,.slice none 0 0] 183)=w0;have L:w0.heap[w.heap.size]?=some (.cells #[.pointer none,.slice none 0 0] 183 (0,0)):=by
  rw[<-p];show(w.heap.push _)[w.heap.size]?=_;rw[rh]
 have o:Below w.heap.size w w0:=by rw[<-p];exact(fd _ w).alloc (am _) _
 refine(anM w.heap.size w.heap.size n w0 (am _) L o.size (by omega)).mono ?_;rintro e M ⟨rfl,a,d⟩;replace d:=o.trans d;go_wp2;refine(pZ w.heap.size w.heap.size [] ⟨#[46]⟩ M (.inr (.of a)) (by decide) d.size).mono ?_;rintro e P ⟨rfl,r,k⟩;replace k:=d.trans k;have K:([]:List Value)++Lib.strCells ⟨#[46]⟩=Lib.byteCells (ly 1):=rfl;rw[K] at r;go_wp2;go_loopw [10] (λ_ wr=>∃q:Nat,1<=q/\q<=n/\Lib.IsBuilderF 183 5 w.heap.size w.heap.size (Lib.byteCells (ly q)) wr/\Below w.heap.size w wr) (λ_ wr=>n-alH w.heap.size wr)
 case atStart=>exact⟨1,am _,by omega,.inr r,k⟩
 case round=>
  obtain⟨q,y,J,a,m⟩:=hrel;have C:=agB a;have b:(Lib.byteCells (ly q)).length=q:=by rw[rU];exact qD ..
  have g:(ly q).length=q:=qD ..;have l:ly q≠[]:=by intro h;rw[h] at g;simp at g;omega
  go_wp2;refine(alG w.heap.size w.heap.size (Lib.byteCells (ly q)) wr a).mono ?_;rintro e t ⟨rfl,rfl⟩;rw[b];by_cases x:q<n
  .have v:=dk (show(q:Int)<(n:Int) by omega);go_wp2;refine(alG w.heap.size w.heap.size (Lib.byteCells (ly q)) t a).mono ?_;rintro e u ⟨rfl,rfl⟩;rw[b];go_wp2;refine(alG w.heap.size w.heap.size (Lib.byteCells (ly q)) u a).mono ?_;rintro e B ⟨rfl,rfl⟩;rw[b];have c:(n=2/\q=1)\/(n=3/\q=1)\/(n=3/\q=2):=by omega
   have E:∀W:World,(Builtin.min_ #[3,3,3] 3 #[.int .i64 ((n:Int)-(q:Int)),.int .i64 q,.int .i64 n]).run (ah β) W=.ok (.int .i64 1) W:=λW=>by
    rcases c with⟨rfl,rfl⟩|⟨rfl,rfl⟩|⟨rfl,rfl⟩<;>simp[Builtin.min_,Builtin.min2]
   have S:(⟨(ly q).toArray⟩:ByteArray).extract 0 1=⟨#[46]⟩:=by
    rcases c with⟨rfl,rfl⟩|⟨rfl,rfl⟩|⟨rfl,rfl⟩<;>rfl
   have G:(⟨(ly q).toArray⟩:ByteArray).size=q:=by show(ly q).toArray.size=q;rw[tM];exact g
   replace c:=ab c;go_wp2;refine(ac8 w.heap.size w.heap.size (ly q) B a l).mono ?_;rintro e D ⟨rfl,s,f⟩;replace f:=m.trans f;go_wp2;refine(pZ w.heap.size w.heap.size (Lib.byteCells (ly q)) ⟨#[46]⟩ D s (by rw[b];have:=c.out;show q+1<=_;omega) f.size).mono ?_;rintro e T ⟨rfl,j,i⟩;replace i:=f.trans i;have I:Lib.byteCells (ly q)++Lib.strCells ⟨#[46]⟩=Lib.byteCells (ly (q+1)):=by
    have:ly (q+1)=ly q++[46]:=wN;rw[this];simp[Lib.byteCells,Lib.strCells]
   rw[I] at j;have F:=agB (.inr j);have A:(ly (q+1)).length=q+1:=qD ..;go_wp2;go_roundw
   case rel=>exact⟨q+1,by omega,by omega,.inr j,i⟩
   omega
  .obtain rfl:q=n:=by omega
   have v:=da (show ¬((q:Int)<(q:Int)) by omega);go_wp2;refine(ac8 w.heap.size w.heap.size (ly q) t a l).mono ?_;rintro e u ⟨rfl, -,H⟩;go_wp2;go_ret;exact⟨rfl,m.trans H⟩
end
section
variable {β:Bool}
open Go.RowKit
def alJ(n:Nat)(d:n<=3)(w:World):Calls (ah β) 178 #[.string ⟨#[46]⟩,.int .i64 n] w λe c=>e=.returned (.string ⟨(ly n).toArray⟩)/\Below w.heap.size w c:=by
 by_cases b:n=0
 .subst b;go_enter xo,ntmps178;go_wp2;go_ret;exact⟨rfl,fd _ _⟩
 .by_cases a:n=1
  .subst a;go_enter xo,ntmps178;go_wp2;go_ret;exact⟨rfl,fd _ _⟩
  .exact arD n (by omega) w
def auZ(n:Nat):bs ⟨(ly n).toArray⟩=List.replicate n 46:=by
 unfold bs ly;simp[List.map_replicate]
def au0(s:ByteArray)(a:bA (bs s))(w:World) :
  Calls (ah β) 168 #[.string s] w λe g=>∃t:ByteArray,e=.returned (.string t)/\bs t=gT (bs s)/\Below w.heap.size w g:=by
 have c:1<=s.size/\s.size<=8:=by have:=a.1;rw[aM] at this;exact this
 have b:s.size<=maxLen:=by unfold maxLen;omega
 have i:s.size<=cB s.size/\cB s.size-s.size<=3:=by
  unfold cB;split<;>(try split)<;>(try split)<;>omega
 replace a:=ab a;replace b:=ab b;go_enter yL,ntmps168;go_wp2;refine(aav s b.out w true (by simp only[tJ];exact a.out)).mono ?_;rintro e d ⟨rfl,rfl⟩;go_wp2;refine(ape s.size c w).mono ?_;rintro e d ⟨rfl,rfl⟩;have f:((cB s.size:Nat):Int)-(s.size:Int)=((cB s.size-s.size:Nat):Int):=by omega
 go_wp2;try rw[f]
 refine(alJ (cB s.size-s.size) i.2 w).mono ?_;rintro e d ⟨rfl,j⟩;have hd:(ly (cB s.size-s.size)).length=cB s.size-s.size:=qD ..;go_wp2;go_ret;refine⟨_,rfl, ?_,j⟩;rw[iQ,auZ];unfold gT;rw[aM]
def afW(s:ByteArray):ByteArray:=s.extract 0 (fc (bs s) s.size)
def ahK(s:ByteArray):bs (afW s)=vP (bs s):=by
 unfold afW vP;rw[cV,rD,aM]
open Classical in
noncomputable def fN(s:ByteArray):ByteArray×Bool:=if bA (bs (afW s))/\gT (bs (afW s))=bs s then(afW s,true) else(⟨#[]⟩,false)
def apf(s:ByteArray)(k:s.size<=maxLen)(w:World) :
  Calls (ah β) 159 #[.string s] w λe o=>e=.returned (.tuple #[.string (fN s).1,.bool (fN s).2])/\Below w.heap.size w o:=by
 have a:(afW s).size<=maxLen:=by
  unfold afW;rw[vU (ac7 _ _)];exact ap (ac7 _ _) k
 replace k:=ab k;replace a:=ab a;have g:s.extract 0 (fc (bs s) s.size)=afW s:=rfl;replace g:=ab g;go_enter yQ,ntmps159;go_wp2;refine(ajk s k.out w).mono ?_;rintro e l ⟨rfl,rfl⟩;rw[g.out];obtain⟨p,d⟩:∃p,p=afW s:=⟨_,rfl⟩;have b:fN s=fN s:=rfl;by_cases c:bA (bs (afW s))
 .replace c:=ab c;rw[<-d] at a c ⊢;replace d:=ab d;clear b;go_wp2;refine(aav p a.out w true (by simp only[tJ];exact c.out)).mono ?_;rintro e l ⟨rfl,rfl⟩;go_wp2;refine(au0 p c.out w).mono ?_;rintro e l ⟨t,rfl,j,n⟩;by_cases f:t=s
  .subst f;replace j:=ab j;go_wp2;go_ret2;have i:fN t=(p,true):=by
    unfold fN;rw[<-d.out,du ⟨c.out,j.out.symm⟩]
   rw[i];exact⟨rfl,n⟩
  .have q:=abn f;have i:fN s=(⟨#[]⟩,false):=by
    unfold fN;rw[<-d.out,be λh=>f (nt (j.trans h.2))]
   have m:=ab i;clear i j;go_wp2;go_ret2;rw[m.out];exact⟨rfl,n⟩
 .have i:fN s=(⟨#[]⟩,false):=by
   unfold fN;rw[be λh=>c h.1]
  have m:=ab i;clear i;replace c:=ab c;rw[<-d] at a c ⊢;clear d b;go_wp2;refine(aav p a.out w false (by simp only[li,uR];exact c.out)).mono ?_;rintro e l ⟨rfl,rfl⟩;go_wp2;go_ret2;rw[m.out];exact⟨rfl,fd _ _⟩
end
section
variable {β:Bool}
open Go.RowKit
structure iu (P:Program) (t e:TypeId) (sz bytes:Nat):Prop where
 slice:P.underlying t=some (.slice e)
 info:∃i z,P.info? e=some i/\i.zero=some z/\i.size=sz/\i.bytes=bytes/\z.cells.size=sz
 pos:0<sz
 small:bytes<=128
section
variable {P:Program}
def iu.mk'{z:Value}(f:P.underlying t=some (.slice e))(hi:(P.info? e).map (λi=>(i.zero,i.size,i.bytes))=some (some z,Z,V))(k:z.cells.size=Z)(a:0<Z)(j:V<=128):iu P t e Z V:=by
 obtain⟨i,d,b,g,c⟩:=info_parts hi;exact⟨f,⟨i,z,d,b,g,c,k⟩,a,j⟩
structure anN (w w':World) (base:Nat) (e:TypeId) (sz:Nat) (v v':Value) (n:Nat) (cells:List Value):Prop where
 own:w'.ownsRow base e sz v' n cells
 fE:bj (λb=>v.ownBlock=some b) w w'
 at_:∀b,v'.ownBlock=some b->v.ownBlock=some b\/w.heap.size<=b
def aeg{base:Nat}{S:Nat->Prop}(h:w.ownsRow base e Z v n Y)(k:bj S w w')(j:∀b,v.ownBlock=some b->¬S b):w'.ownsRow base e Z v n Y:=by
 refine⟨h.1, ?_⟩;rcases h.2 with i|⟨g,cap,d,rfl,f,a,c⟩
 .exact .inl i
 .refine .inr ⟨g,cap,d,rfl,f, ?_,c⟩;rw[k.block g (dl.1 a).1 (j g rfl)];exact a
def aeU{base:Nat}(h:w.ownsRow base e Z v n Y)(a:Below w.heap.size w w'):w'.ownsRow base e Z v n Y:=
 aeg h (bj.aN (S:=λ_=>False) a) λ_ _ h=>h
def anO {ty : TypeId} (q:iu P t e Z V) {base:Nat}   (d:w.ownsRow base e Z v n Y)
  (O:news.length=m*Z) (R:0<m->∃a,A=some a/\∀(j:Nat) (u:Value),news[j]?=some u->w.cell? (a.add j)=some u) (Q:∀u∈news,u.oneCell'=true)
  (U:n+m<=1099511627776) (l:base<=w.heap.size) :
  ∃y x,(Builtin.append_ #[t,t] ty #[v,.slice A m c]).run P w=.ok y x/\anN w x base e Z v y (n+m) (Y++news):=by
 obtain⟨i,z,G,N,D,E,F⟩:=q.info;have f:(n+m)*V<=140737488355328:=ap (Nat.mul_le_mul U q.small) (by omega);rcases pv m with I|I
 .subst I;have C:news=[]:=qU (by simpa using O);subst C;cases A with
  |some K=>
   obtain⟨y,x,M,H,o,_,p⟩:=run_append_own_at (P:=P) w base t ty e i z Z V q.slice G N D E F q.pos v n Y d K 0 c [] (by simp) (λj u T=>by simp at T) (by simp) (by unfold maxLen;omega) f l;exact⟨y,x,M,H,⟨o.os,o.tape,o.output,o.size,λk J r=>o.block k J λe=>r e.symm⟩,λb B=>by rcases p with p|p<;>rw[p] at B<;>simp_all⟩
  |none=>
   refine⟨v,w, ?_,by simpa using d,bj.refl _ _,λb B=>.inl B⟩;rcases d.2 with⟨rfl,rfl⟩|⟨g,cap,S,rfl,_,_,L,_⟩
   .simp[Builtin.append_,me q.slice,sizeOf,typeInfo,G,Builtin.lenOf,Builtin.firstCells]
   .simp[Builtin.append_,me q.slice,sizeOf,typeInfo,G,Builtin.lenOf,Builtin.firstCells,L,storeCells]
 .obtain⟨K,rfl,s⟩:=R I;obtain⟨y,x,M,H,o,_,p⟩:=run_append_own_at (P:=P) w base t ty e i z Z V q.slice G N D E F q.pos v n Y d K m c news O s Q (by unfold maxLen;omega) f l;exact⟨y,x,M,H,⟨o.os,o.tape,o.output,o.size,λk J r=>o.block k J λe=>r e.symm⟩,λb B=>by rcases p with p|p<;>rw[p] at B<;>simp_all⟩
def ayk     (s x:Operand) (t:TypeId)
  (l:o.op=.call ⟨.builtin .append,#[s,x],#[t,t]⟩)
  (k:iu P t e Z V) {base:Nat}   (r:a.eval s=v) (d:w.ownsRow base e Z v n Y)
  (y:a.eval x=.slice A m c) (p:news.length=m*Z) (C:0<m->∃a,A=some a/\∀(j:Nat) (u:Value),news[j]?=some u->w.cell? (a.add j)=some u) (B:∀u∈news,u.oneCell'=true)
  (z:n+m<=1099511627776) (b:base<=w.heap.size)
  (h:∀i g,anN w g base e Z v i (n+m) (Y++news)->W (a.put o.dst i) g):o.wp P a w W Q:=by
 obtain⟨i,g,f,q⟩:=anO (P:=P) (ty:=o.type) k d (c:=c) p C B z b;unfold Oper.wp execOp;simp only[l,resolve,invoke,builtin,tQ,uk,uz,List.map_toArray,ru,List.map_nil,r,y,f];exact h i g q
def ack      (i:o.guard=none) (s x:Operand) (t:TypeId)
  (y:o.op=.call ⟨.builtin .append,#[s,x],#[t,t]⟩)
  (r:iu P t e Z V) {base:Nat}   (B:a.eval s=v) (d:w.ownsRow base e Z v n Y)
  (C:a.eval x=.slice A m c) (z:news.length=m*Z) (q:0<m->∃a,A=some a/\∀(j:Nat) (u:Value),news[j]?=some u->w.cell? (a.add j)=some u) (l:∀u∈news,u.oneCell'=true)
  (D:n+m<=1099511627776) (b:base<=w.heap.size)
  (h:∀g f,anN w f base e Z v g (n+m) (Y++news)->wpList P X Q rest (a.put o.dst g) f):wpList P X Q (o::rest) a w:=
 wpList_plain i λ_ p=>ayk s x t y r B d C z q l D b λg f k=>p _ _ (h g f k)
def anP      (k:o.guard=none) (s x:Operand) (t:TypeId)
  (B:o.op=.call ⟨.builtin .append,#[s,x],#[t,t]⟩)
  (A:iu P t e Z V) {base:Nat}   (E:a.eval s=v) (d:w.ownsRow base e Z v n Y)
  {es:Array Value} (G:a.eval x=.slice (some ⟨w.heap.size,0,none⟩) 1 1) (C:es.size=Z) (z:∀u∈es.toList,u.oneCell'=true)
  (H:n<=1099511627775) (p:base<=w.heap.size)
  (h:∀g f,anN w f base e Z v g (n+1) (Y++es.toList)->wpList P X Q rest (a.put o.dst g) f):wpList P X Q (o::rest) a (w.alloc (.cells es T)):=by
 refine ack k s x t B A E (d.alloc _) (c:=1) (m:=1) (news:=es.toList) G (by simp[C]) (λ_=>⟨_,rfl,λj u D=> ?_⟩) z (by omega) (by simp;omega) λg f l=>h g f ?_
 .have r:(⟨w.heap.size,0,none⟩:Addr).add j=⟨w.heap.size,j,none⟩:=by unfold Addr.add;split<;>simp_all
  rw[r,(bg.new w T es).cell];simpa using D
 .refine⟨l.own, ?_, ?_⟩
  .exact((bj.refl (λb=>v.ownBlock=some b) w).alloc _).trans l.fE λi _ F=>F
  .intro b y;rcases l.at_ b y with q|q
   .exact .inl q
   .simp at q;right;omega
end
def nM:iu (ah β) 37 3 1 8:=iu.mk' wZ (z:=.int .i64 0) (by kernel_rfl) rfl (by decide) (by decide)
def iv{base:Nat}(h:w.ownsRow base e Z v n Y):∃A c,v=.slice A n c:=by
 rcases h.2 with⟨rfl,rfl⟩|⟨g,cap,a,rfl,_⟩
 .exact⟨_,_,rfl⟩
 .exact⟨_,_,rfl⟩
def ayl {E:gG R} {base : Nat}    {xs:List R} (h:w.ownsRow base e Z v xs.length Y) (p:w.heap.size<=hi)
  (q:∀i x,xs[i]?=some x->∃a:List Value,a.length=Z/\E w base hi x a/\∀j u,a[j]?=some u->Y[i*Z+j]?=some u):bD E Z w base hi xs [v]:=by
 obtain⟨A,l⟩:=h;rcases l with⟨rfl,m⟩|⟨g,cap,d,rfl,n,k,f,c,t,o⟩
 .exact⟨none,0,by rw[m],by omega,by unfold maxLen;omega,λB=>by omega⟩
 .refine⟨_,cap,rfl,f,c,λ_=>⟨g,0,rfl,n,bd (dl.1 k).1 p,λi x hi=> ?_⟩⟩;obtain⟨a,r,y,z⟩:=q i x hi;refine⟨a,r,y,λj u s=> ?_⟩;have b:=z j u s;rw[<-o,qE] at b;split at b
  .rw[cell_of_row w g (0+i*Z+j) d e (0,0) k];rw[mc];simpa using b
  .cases b
end
section
variable {β:Bool}
def ahL:Op->Bool
 |.move .. | .assign .. | .pick .. | .load .. | .binOp .. | .unOp .. | .convert .. | .slice .. | .fieldAddr .. | .field .. | .indexAddr .. | .index .. | .lookup .. | .extract .. | .build .. | .typeAssert .. | .makeInterface .. | .makeFunc .. | .nilCheck .. =>true
 |.call c=>match c.callee with
  |.builtin .len=>true
  |_=>false
 |_=>false
def ahM(h:ahL o.op=true){ρ:Operand->Value}{args:Array Value}:(execOp ρ o).run P w ≠ .ok (.enter f args) w':=by
 obtain⟨dst,op,j,k,after,g⟩:=o;cases op<;>simp only[ahL,li] at h
 case nilCheck x=>
  simp only[execOp];intro a;split at a
  .simp[runtimePanic] at a
  .simp[runtimePanic] at a
  .simp[runtimePanic] at a
  .split at a
   .simp[runtimePanic] at a
   .revert a;simp only[tQ];generalize (Sem.run P program w:Result _)=r;cases r with
    |halt x i=>simp[Result.andThen]
    |ok p i=>
     simp only[Result.andThen];generalize (Sem.run P (nilAhead _ _ _ _) i:Result _)=r2;cases r2 with
     |halt x l=>simp
     |ok b l=>
      simp only;split
      .simp[unsupported]
      .simp
   .simp at a
  .simp at a
 case call c=>
  obtain⟨d,args,e⟩:=c;cases d with
  |value x=>cases h
  |invoke x n=>cases h
  |builtin b=>
   cases b<;>first
    |(exfalso;cases h;done)
    |(simp only[execOp,resolve,invoke,builtin,tQ,uk,uz]
      intro a;revert a;generalize (Sem.run P (Builtin.len_ _ _ _) w:Result _)=r;cases r<;>simp[Result.andThen])
 all_goals simp only[execOp,tQ,uk]
 all_goals intro a
 all_goals
  first
   |(cases a;done)
   |(revert a;generalize (Sem.run P _ w:Result _)=r;cases r<;>simp[Result.andThen];done)
   |(revert a;generalize (Sem.run P _ w:Result _)=r;cases r<;>simp[Result.andThen];generalize (Sem.run P _ _:Result _)=r;cases r<;>simp;done)
def lU(o:Oper)(i:Nat):Bool:=o.after.any λe=>Region.binds .any e&&e.on ==i
def ajn(h:lU o i=true):∃e∈o.after,Region.binds .any e=true/\e.on=i:=by
 obtain⟨e,a,h⟩:=Array.any_eq_true'.1 h;simp only[ff,nF] at h;exact⟨e,a,h.1,h.2⟩
def arE(i:a.tmps.size=U.tmps.size)(h:U.put d u=U.put d v):a.put d u=a.put d v:=by
 cases d with
 |none=>rfl
 |some t=>
  rcases pm t a.tmps.size with e|g
  .have f:=ga (λb:Act=>b.tmps[t]?) h;have c:t<U.tmps.size:=i▸e;simp[Act.put,c] at f;rw[f]
  .simp[Act.put,Array.setIfInBounds,Nat.not_lt.2 g]
section
variable {P:Program} {ops:Array Oper}
def apg  (hi:ops[i]?=some o)  {G:Value->World->Prop}  
  (y:a.tmps.size=U.tmps.size) (z:execOp a.eval o=execOp U.eval o) (t:Region.wanted o (yielded ops a.tmps)=Region.wanted o (yielded ops U.tmps))
  (h:wpList P ops (λe b w=>e=.normal/\∃v,b=U.put o.dst v/\G v w) [o] U w)
  (s:∀v w,G v w->W (a.put o.dst v) w):wpOp P ops Q i W a w:=by
 have g:∀{u:Value} {k:World},(∃v,U.put o.dst u=U.put o.dst v/\G v k)->W (a.put o.dst u) k:=by
  rintro u k ⟨v,p,q⟩;rw[arE y p];exact s _ _ q
 unfold wpOp;simp only[hi];unfold wpList at h;rw[<-t] at h;split
 .rename_i j;rw[du j] at h;rcases h with h|⟨_,b,k,m,_⟩
  .refine .inl ?_;unfold Oper.wp at *;rw[<-z] at h;generalize (execOp a.eval o).run P w=r at *;cases r with
   |ok A k=>
    cases A<;>simp only[Oper.upon,wpList] at h ⊢
    case value u=>exact g h.2
    case skip=>exact g h.2
    case defer d=>
     obtain⟨_,v,p,_⟩:=h;have:=ga (λb:Act=>b.defers.length) p;cases hd:o.dst<;>simp[Act.put,hd] at this
    case enter f args=>
     refine h.mono λe n l=> ?_;cases e with
     |returned u=>exact g l.2
     |panicked c=>cases l.1
     |outgrown=>
      obtain⟨b,B,m,_⟩:=l;cases m
    case row row args=>exact Rows.mono h λu n l=>g l.2
   |halt x k=>
    cases x<;>simp only[Oper.upon] at h ⊢
    case panic u=>cases h.1
  .cases m
 .rename_i j;rw[be j] at h;exact g h.2
def ajo(ops:Array Oper)(n:Nat):Bool:=
 (n ==ops.size||(decide (n<ops.size)&&Region.sinkB .any ops n&&Region.chainB .any ops n))&&Region.seqB .any ops (ops.size-n) n ((Array.replicate n true)++Array.replicate (ops.size-n) false)
def anQ(ops:Array Oper)(n:Nat):Bool:=
 (List.range n).all λi=>match ops[i]? with
  |some o=>o.after.all λe=>!Region.binds .any e||decide (e.on<i)
  |none=>false
def aph(h:anQ ops n=true)(hi:i<n)(b:ops[i]?=some o){e:Edge}(c:e∈o.after)(f:Region.binds .any e=true):e.on<i:=by
 have a:=lE.1 h i (qz.2 hi);simp only[b] at a;have d:=Array.all_eq_true_iff_forall_mem.1 a e c;simpa[f] using d
def left(n:Nat)(listed:Array Bool):Nat:=((List.range n).filter λi=>listed.getD i true ==false).length
def ajp[DecidableEq R]{l:List R}(d:l.Nodup){p q:R->Bool}{i:R}(hi:i∈l)(k:p i=true)(m:q i=false)(f:∀j,j≠i->p j=q j):(l.filter p).length=(l.filter q).length+1:=by
 induction l with
 |nil=>cases hi
 |cons a t n=>
  rw[ug] at d;by_cases c:a=i
  .subst c;rw[uv k,uw (by simp[m])];have:t.filter p=t.filter q:=List.filter_congr λj o=>f j λe=>d.1 (e▸o);simp[this]
  .have g:i∈t:=by
    rcases mu.1 hi with h|h
    .exact absurd h.symm c
    .exact h
   have:=n d.2 g;by_cases b:p a=true
   .rw[uv b,uv (by rw[<-f a c];exact b)];simp[this]
   .rw[uw b,uw (by rw[<-f a c];exact b)];exact this
def arF(hi:i<n)(h:listed.getD i true=false):left n listed=left n (listed.setIfInBounds i true)+1:=by
 have c:i<listed.size:=by
  rcases pm i listed.size with a|a
  .exact a
  .simp[qm a] at h
 refine ajp List.nodup_range (qz.2 hi) (by rw[h];rfl) (by simp[c]) λj b=> ?_;rw[getD_set_ne true (sB b)]
def api(h:0<left n listed):∃i,i<n/\listed.getD i true=false/\∀j,j<i->listed.getD j true=true:=by
 unfold left at h;have f:∃i,i<n/\listed.getD i true=false:=by
  obtain⟨i,b⟩:=List.exists_mem_of_length_pos h;rw[rI,qz] at b;exact⟨i,b.1,by simpa using b.2⟩
 obtain⟨i,b⟩:=f
 induction i using Nat.strongRecOn with
 |_ i k=>
  by_cases a:∀j,j<i->listed.getD j true=true
  .exact⟨i,b.1,b.2,a⟩
  .have g:∃j,j<i/\listed.getD j true=false:=by
    apply qL;intro c;exact a λj d=>by
     cases e:listed.getD j true with
     |true=>rfl
     |false=>exact absurd ⟨j,d,e⟩ c
   obtain⟨j,d,e⟩:=g;exact k j d ⟨by omega,e⟩
def apj(h:left n listed=0)(hi:i<n):listed.getD i true=true:=by
 unfold left at h;have a:=qU h;rw[List.filter_eq_nil_iff] at a;have:=a i (qz.2 hi);cases b:listed.getD i true with
 |true=>rfl
 |false=>rw[b] at this;simp at this
def agC(a:i<listed.size)(h:listed.getD i true=true):listed.getD i false=true:=by
 simp[a] at h ⊢;exact h
inductive Behind (ops:Array Oper):Nat->Nat->Prop where
 |au1 {i:Nat} {o:Oper} {e:Edge}:ops[i]?=some o->e∈o.after->Region.binds .any e=true->Behind ops i e.on
 |next {i j:Nat} {o:Oper} {e:Edge}:ops[i]?=some o->e∈o.after->Region.binds .any e=true->Behind ops e.on j->Behind ops i j
def afX{ops:Array Oper}(c:HeadInv .any ops n listed)(h:Behind ops i j):(∀o,ops[i]?=some o->∀e∈o.after,Region.binds .any e=true->listed.getD e.on false=true)->listed.getD j false=true:=by
 induction h with
 |au1 a g d=>exact λb=>b _ a _ g d
 |next a g d _ p=>exact λb=>p λm l q k f=>c.closed _ m l (b _ a _ g d) q k f
class bm (X:Type) where
 live:Nat->X->Prop
 down:∀m x,live (m+1) x->live m x
 pend:Nat->X->Prop
def au2(n:Nat)(listed:Array Bool):left n listed<=n:=by
 unfold left;exact ap (sj _ _) (by simp)
variable {X:Type} [bm X] {to:X->World} {le:X->X->Prop} {Q:Exit->Act->World->Prop}
def arG (hn:n<=ops.size) (s:ajo ops n=true) (O:anQ ops n=true) (A:Act->Prop) (Φ:Nat->Act->X->Prop)
  (z:∀m i o,i<n->ops[i]?=some o->∀a x,A a->bm.live (m+1) x->bm.pend i x->(∀j,j<n->lU o j=true->Φ j a x)->∀K:Act->World->Prop,
   (∀v y,le x y->bm.live m y->(∀j,j≠i->¬Behind ops i j->bm.pend j x->bm.pend j y)->A (a.put o.dst v)->Φ i (a.put o.dst v) y->K (a.put o.dst v) (to y))->wpOp P ops Q i K a (to x))
  (T:∀i j o a x y v,i<n->j<n->i≠j->ops[j]?=some o->A a->Φ i a x->le x y->Φ i (a.put o.dst v) y)
  (M:∀a x,A a->(∀i,i<n->Φ i a x)->wpList P ops Q (ops.toList.drop n) a (to x)) :
  ∀(f:Nat) (listed:Array Bool) (a:Act) (x:X),left n listed=f->HeadInv .any ops n listed->A a->bm.live f x->(∀i,i<n->listed.getD i false=false->bm.pend i x)->(∀i,i<n->listed.getD i false=true->Φ i a x)->
   wpAny P .any ops Q (f+(ops.size-n)) listed a (to x):=by
 intro f
 induction f with
 |zero=>
  intro listed a x hf inv H G r k;have b:∀i,i<n->listed.getD i true=true:=λi g=>apj hf g;have hL:listed=(Array.replicate n true)++Array.replicate (ops.size-n) false:=by
   apply Array.ext
   .rw[inv.size];simp;omega
   .intro i p h2;rcases pm i n with q|q
    .rw[Array.getElem_append_left (by simpa using q)];have:=b i q;simp[p] at this;simp[this]
    .rw[Array.getElem_append_right (by simpa using q)];have:=inv.tail i q (by rw[<-inv.size];exact p);simp[p] at this;simp[this]
  unfold ajo at s;rw[ff] at s;have d:(ops.toList.drop n).length=ops.size-n:=by simp
  rw[mc,<-d,hL];refine wpAny_of_seq _ n _ a (to x) (λj=>by rw[tE,fa]) (by rw[d];exact s.2) (M a x H λi g=>k i g ?_);exact agC (by rw[inv.size];omega) (b i g)
 |succ f ih=>
  intro listed a x hf inv H G r k;obtain⟨u,U,E,R⟩:=api (n:=n) (listed:=listed) (by omega);rw[show f+1+(ops.size-n)=(f+(ops.size-n))+1 by omega];have Z:∀i∈Region.ready .any ops listed,i<n:=by
   intro i g;unfold ajo at s;simp only[ff,rm,nF,qT] at s;rcases s.1 with h|⟨⟨p,h2⟩,q⟩
   .obtain⟨_,o,D,_⟩:=mem_ready.1 g;rw[h];exact(dl.1 D).1
   .rcases pm i n with h|h
    .exact h
    .exact absurd g (tail_waits h2 q p inv _ u rfl U E i h)
  refine⟨λh0=> ?_,λi g=> ?_⟩
  .exfalso;have C:u<ops.size:=bd U hn;have:u∈Region.ready .any ops listed:=mem_ready.2 ⟨E,ops[u],gn C,λe F B=>by
    have p:=aph O U (gn C) F B;exact agC (by rw[inv.size];omega) (R _ p)⟩
   rw[h0] at this;cases this
  .have w:=Z i g;obtain⟨l,o,D,b⟩:=mem_ready.1 g;have L:listed.getD i false=false:=by
    have W:i<listed.size:=by rw[inv.size];omega
    simp[W] at l ⊢;exact l
   refine z f i o w D a x H G (r i w L) (λj t hw=> ?_) _ λv y Y J N V I=> ?_
   .obtain⟨e,F,B,rfl⟩:=ajn hw;exact k _ t (b e F B)
   .refine ih _ _ y ?_ (inv.set g w) V J (λj t d=> ?_) λj t d=> ?_
    .have:=arF w l;omega
    .have c:j≠i:=by
      rintro rfl;have W:j<listed.size:=by rw[inv.size];omega
      simp[W] at d
     rw[getD_set_ne false (sB c)] at d;refine N j c (λS=> ?_) (r j t d);have:=afX inv S λo' pE e F B=>(by
      obtain rfl:o=o':=dq (D.symm.trans pE);exact b e F B)
     rw[this] at d;cases d
    .by_cases c:j=i
     .subst c;exact I
     .rw[getD_set_ne false (sB c)] at d;exact T j i o a x y v t w c D H (k j t d) Y
inductive jl (X:Type) where
 |fix (v:Value)
 |any (R:Value->X->Prop)
def jl.keep(le:X->X->Prop):jl X->Prop
 |.fix _=>True
 |.any R=>∀v x y,R v x->le x y->R v y
def jl.holds(r:jl X)(v:Value)(x:X):Prop:=
 match r with
 |.fix a=>v=a
 |.any R=>R v x
def Good(P:Program)(ops:Array Oper)(to:X->World)(le:X->X->Prop)(i:Nat)(o:Oper)(a:Act)(x:X)(r:jl X):Prop:=
 ∀m,bm.live (m+1) x->bm.pend i x->∀b:Exit->Act->World->Prop,(∀v y,le x y->bm.live m y->(∀j,j≠i->¬Behind ops i j->bm.pend j x->bm.pend j y)->r.holds v y->b .normal (a.put o.dst v) (to y))->wpList P ops b [o] a (to x)
def qa(ops:Array Oper)(n:Nat)(t:Tmp)(j:Nat):Prop:=j<n/\∃o,ops[j]?=some o/\o.dst=some t
def aeV(ops:Array Oper)(n N:Nat):Bool:=
 (List.range n).all λi=>match ops[i]? with
  |some o=>match o.dst with
   |some d=>decide (d<N)&&(List.range i).all λj=>((ops[j]?).bind (·.dst)) !=some d
   |none=>true
  |none=>true
def alL{N : Nat}(h:aeV ops n N=true){t:Tmp}(d:qa ops n t j):t<N:=by
 obtain⟨a,o,c,hd⟩:=d;have b:=lE.1 h j (qz.2 a);simp only[c,hd,ff,qT] at b;exact b.1
def ajq{N : Nat}(h:aeV ops n N=true){t:Tmp}(hi:qa ops n t i)(l:qa ops n t j)(b:j<i):False:=by
 obtain⟨g,o,k,hd⟩:=hi;obtain⟨f,p,e,a⟩:=l;have d:=lE.1 h i (qz.2 g);simp only[k,hd,ff] at d;have c:=lE.1 d.2 j (qz.2 b);rw[e] at c;simp[a] at c
def ahN{N : Nat}(h:aeV ops n N=true){t:Tmp}(hi:qa ops n t i)(b:qa ops n t j):i=j:=by
 rcases uA i j with a|a|a
 .exact(ajq h b hi a).elim
 .exact a
 .exact(ajq h hi b a).elim
def anR(ops:Array Oper)(n:Nat)(t:Tmp):(∃j,qa ops n t j)\/∀j,¬qa ops n t j:=by
 by_cases h:∃j,qa ops n t j
 .exact .inl h
 .exact .inr λj a=>h ⟨j,a⟩
def xi(a:Act)(o:Oper):Value:=match o.dst with
 |some d=>a.tmps.getD d undef
 |none=>undef
structure ahO (ops:Array Oper) (n:Nat) (a0 a:Act):Prop where
 size:a.tmps.size=a0.tmps.size
 off:∀t,(∀j,¬qa ops n t j)->a.tmps[t]?=a0.tmps[t]?
 rest:{a with tmps:=a0.tmps}=a0
def ahO.refl(ops:Array Oper)(n:Nat)(a:Act):ahO ops n a a:=⟨rfl,λ_ _=>rfl,rfl⟩
def oB{t:Tmp}(h:d≠some t):(a.put d v).tmps[t]?=a.tmps[t]?:=by
 cases d with
 |none=>rfl
 |some e=>
  have:e≠t:=λb=>h (by rw[b]);simp[Act.put,lc this]
def anS{t:Tmp}(h:t<a.tmps.size):(a.put (some t) v).tmps[t]?=some v:=by
 simp[Act.put,h]
def acm(a:Act)(d:Option Tmp)(v:Value):(a.put d v).tmps.size=a.tmps.size:=by
 cases d<;>simp[Act.put]
def ahO.put(h:ahO ops n U a)(d:j<n)(c:ops[j]?=some o):ahO ops n U (a.put o.dst v):=by
 refine⟨by rw[acm,h.size],λt b=> ?_, ?_⟩
 .rw[oB (λhd=>b j ⟨d,o,c,hd⟩)];exact h.off t b
 .rw[<-h.rest];cases hd:o.dst<;>simp[Act.put]
def gu(U:Nat->Value)(a:Act)(L:List (Nat×Oper)):Act:=L.foldl (λb p=>b.put p.2.dst (U p.1)) a
def ac9(U:Nat->Value):∀(L:List (Nat×Oper)) (a:Act),(gu U a L).tmps.size=a.tmps.size
 |[],_=>rfl
 |p::L,a=>by
  show(gu U (a.put p.2.dst (U p.1)) L).tmps.size=_;rw[ac9 U L,acm]
def oC(U:Nat->Value){t:Tmp}:∀(L:List (Nat×Oper)) (a:Act),(∀p∈L,p.2.dst≠some t)->(gu U a L).tmps[t]?=a.tmps[t]?
 |[],_,_=>rfl
 |p::L,a,h=>by
  show(gu U (a.put p.2.dst (U p.1)) L).tmps[t]?=_;rw[oC U L _ λq b=>h q (by simp[b]),oB (h p (by simp))]
def acn(U:Nat->Value){t:Tmp}{i:Nat}{o:Oper}:∀(L:List (Nat×Oper)) (a:Act),(i,o)∈L->o.dst=some t->t<a.tmps.size->(∀p∈L,p.2.dst=some t->p.1=i)->(gu U a L).tmps[t]?=some (U i)
 |[],_,h,_,_,_=>by cases h
 |p::L,a,h,hd,hs,ajr=>by
  show(gu U (a.put p.2.dst (U p.1)) L).tmps[t]?=_;by_cases g:(i,o)∈L
  .exact acn U L _ g hd (by rw[acm];exact hs) λq c=>ajr q (by simp[c])
  .rcases mu.1 h with rfl|h
   .by_cases e:∃q∈L,q.2.dst=some t
    .obtain⟨q,c,b⟩:=e;have d:=ajr q (by simp[c]) b;have:=acn U (i:=q.1) (o:=q.2) L (a.put o.dst (U i)) c b (by rw[acm];exact hs) λr j f=>by rw[ajr r (by simp[j]) f,d]
     rw[this,d]
    .rw[oC U L _ λq c b=>e ⟨q,c,b⟩,hd];exact anS hs
   .exact absurd h g
def ada(U:Nat->Value):∀(L:List (Nat×Oper)) (a:Act),{gu U a L with tmps:=a.tmps}=a
 |[],_=>rfl
 |p::L,a=>by
  show{gu U (a.put p.2.dst (U p.1)) L with tmps:=a.tmps}=_;have h:=ada U L (a.put p.2.dst (U p.1));have d:{a.put p.2.dst (U p.1) with tmps:=a.tmps}=a:=by cases hd:p.2.dst<;>simp[Act.put]
  have c:=ga (λb:Act=>{b with tmps:=a.tmps}) h;simp only at c;rw[d] at c;exact c
def au3{b : Act}(h:{a with tmps:=b.tmps}=b)(f:a.tmps.size=b.tmps.size)(e:∀t:Nat,a.tmps[t]?=b.tmps[t]?):a=b:=by
 have c:a.tmps=b.tmps:=Array.ext f λi c d=>by
  have:=e i;simpa[c,d] using this
 rw[<-h,<-c]
def apk(c:∀l b,o.op ≠ .select l b){b : Act}(h:∀t∈o.looksAt ops,a.tmps[t]?=b.tmps[t]?) :
  execOp a.eval o=execOp b.eval o/\Region.wanted o (yielded ops a.tmps)=Region.wanted o (yielded ops b.tmps):=by
 constructor
 .refine execOp_congr o c λx k=> ?_;cases x with
  |tmp t=>
   have:=h t (sq _ (List.mem_filterMap.2 ⟨.tmp t,by simpa using k,rfl⟩));simp[Act.eval,this]
  |_=>rfl
 .unfold Region.wanted;cases j:o.guard with
  |none=>rfl
  |some i=>
   obtain⟨g,d⟩:=i;have e:yielded ops a.tmps g=yielded ops b.tmps g:=by
    unfold yielded;cases f:(ops[g]?).bind (·.dst) with
    |none=>rfl
    |some t=>
     have:=h t (sg _ (by simp[j,f]));simp[this]
   simp only[e]
def alM(ops:Array Oper)(n:Nat):Bool:=
 (List.range n).all λi=>match ops[i]? with
  |some o=>(o.looksAt ops).all λt=>(List.range n).all λj=>((ops[j]?).bind (·.dst)) !=some t||lU o j
  |none=>true
def aeW(h:alM ops n=true)(hi:i<n)(e:ops[i]?=some o){t:Tmp}(k:t∈o.looksAt ops)(f:qa ops n t j):lU o j=true:=by
 obtain⟨a,p,d,hd⟩:=f;have b:=lE.1 h i (qz.2 hi);simp only[e] at b;have g:=lE.1 b t k;have c:=lE.1 g j (qz.2 a);rw[d] at c;simpa[hd] using c
def apl (hn:n<=ops.size) (af:Region.noSelect ops=true) (ht:ajo ops n=true) (a8:anQ ops n=true) (aa:alM ops n=true) {q:Act} (B:aeV ops n q.tmps.size=true)
  (T:Nat->jl X) (hT:∀i,(T i).keep le) (a9:∀i o,i<n->ops[i]?=some o->(∃v,T i=.fix v)\/o.dst.isSome=true\/∀R,T i=.any R->∀u v x,R u x->R v x) (L:List (Nat×Oper)) (hL:∀i o,ops[i]?=some o->i<n->(i,o)∈L) (F:∀p∈L,p.1<n/\ops[p.1]?=some p.2)
  (aI:∀i o,i<n->ops[i]?=some o->∀U:Nat->Value,(∀j g,T j=.fix g->U j=g)->
   ∃al:Act,ahO ops n q al/\(∀t j,t∈o.looksAt ops->qa ops n t j->al.tmps[t]?=some (U j))/\∀x,(∀j,j<n->lU o j=true->(T j).holds (U j) x)->Good P ops to le i o al x (T i))
  (fin:∀U:Nat->Value,(∀j g,T j=.fix g->U j=g)->∀x,(∀j,j<n->(T j).holds (U j) x)->wpList P ops Q (ops.toList.drop n) (gu U q L) (to x))
  (x0:X) (a6:bm.live (left n (Array.replicate ops.size false)) x0) (aL:∀i,i<n->bm.pend i x0):wpAny P .any ops Q ops.size (Array.replicate ops.size false) q (to x0):=by
 let c:Act->Nat->Value:=λa j=>match T j with
  |.fix g=>g
  |.any _=>match ops[j]? with
   |some Y=>xi a Y
   |none=>undef
 have hU:∀a j g,T j=.fix g->c a j=g:=λa j g h=>by simp only[c,h]
 let Φ:Nat->Act->X->Prop:=λi a x=>∀o,ops[i]?=some o->(∀d,o.dst=some d->a.tmps[d]?=some (c a i))/\(T i).holds (c a i) x
 have a5:∀{i o a v x},i<n->ops[i]?=some o->ahO ops n q a->(T i).holds v x->Φ i (a.put o.dst v) x:=by
  intro i o a v x k l z I Z pE;obtain rfl:o=Z:=dq (l.symm.trans pE);have S:∀d,o.dst=some d->(a.put o.dst v).tmps[d]?=some v:=λd hd=>by
   rw[hd];exact anS (by rw[z.size];exact alL B ⟨k,o,l,hd⟩)
  have V:c (a.put o.dst v) i=v\/(o.dst=none/\∃R,T i=.any R/\∀u v x,R u x->R v x):=by
   cases e:T i with
   |fix g=>
    rw[hU _ _ _ e];rw[e] at I;exact .inl I.symm
   |any R=>
    simp only[c,e,l,xi];have s:o.dst.isSome=true->(match o.dst with|some d=>(a.put o.dst v).tmps.getD d undef|none=>undef)=v:=λO=>by
     obtain⟨d,hd⟩:=rM.1 O;have:=S d hd;simp only[hd] at this ⊢;simp[iS,this]
    rcases a9 i o k l with⟨g,O⟩|O|O
    .rw[e] at O;cases O
    .exact .inl (s O)
    .cases hd:o.dst with
     |some d=>left;have:=s (by rw[hd];rfl);simpa only[hd] using this
     |none=>exact .inr ⟨rfl,R,rfl,O R e⟩
  rcases V with V|⟨hd,R,hR,ay⟩
  .rw[V];exact⟨S,I⟩
  .refine⟨λd a1=>(by rw[hd] at a1;cases a1), ?_⟩;rw[hR] at I ⊢;exact ay _ _ _ I
 have H:=arG (P:=P) (Q:=Q) (to:=to) (le:=le) hn ht a8 (ahO ops n q) Φ ?step ?aym ?fin (left n (Array.replicate ops.size false)) (Array.replicate ops.size false) q x0 rfl
  ⟨by simp,λj Y _ E=>(by rw[tV] at E;cases E),λt _ ht=>getD_in (by simpa using ht) (tV _ _)⟩ (ahO.refl _ _ _) a6 (λi k _=>aL i k) (λi k E=>(by rw[tV] at E;cases E))
 case step=>
  intro m i o k l a x z aT a7 a3 K hK;obtain⟨al,py,aH,jm⟩:=aI i o k l (c a) (hU a);have ad:∀j,j<n->lU o j=true->(T j).holds (c a j) x:=λj f hw=>(a3 j f hw _ (gn (bd f hn))).2;have ld:∀t∈o.looksAt ops,a.tmps[t]?=al.tmps[t]?:=by
   intro t a2;rcases anR ops n t with⟨j,f⟩|r
   .have hw:=aeW aa k l a2 f;obtain⟨C,Y,J,hd⟩:=id f;rw[aH t j a2 f,(a3 j C hw Y J).1 t hd]
   .rw[z.off t r,py.off t r]
  obtain⟨h1,N⟩:=apk (λcs b=>Region.noSelect_spec af i o cs b l) ld;refine apg (G:=λv w=>∃y,w=to y/\le x y/\bm.live m y/\(∀j,j≠i->¬Behind ops i j->bm.pend j x->bm.pend j y)/\(T i).holds v y) l (by rw[z.size,py.size]) h1 N (jm x ad m aT a7 _ λv y A E M I=>⟨rfl,v,rfl,y,rfl,A,E,M,I⟩) ?_;rintro v w ⟨y,rfl,A,E,M,I⟩;exact hK v y A E M (z.put k l) (a5 k l z I)
 case aym=>
  intro i j o a x y v k f ax l z D A Z pE;obtain⟨h1,N⟩:=D Z pE;have a0:∀d,Z.dst=some d->o.dst≠some d:=λd hd aV=>ax (ahN B ⟨k,Z,pE,hd⟩ ⟨f,o,l,aV⟩);have an:c (a.put o.dst v) i=c a i:=by
   cases e:T i with
   |fix g=>rw[hU _ _ _ e,hU _ _ _ e]
   |any R=>
    simp only[c,e,pE,xi];cases hd:Z.dst with
    |none=>rfl
    |some d=>
     have:=oB (a:=a) (v:=v) (a0 d hd);simp only[iS,this]
  rw[an];refine⟨λd hd=>by rw[oB (a0 d hd)];exact h1 d hd, ?_⟩;have hk:=hT i;cases e:T i with
  |fix g=>rw[e] at N;exact N
  |any R=>
   rw[e] at N hk;exact hk _ _ _ N A
 case fin=>
  intro a x z D;have a4:∀j,j<n->(T j).holds (c a j) x:=λj f=>(D j f _ (gn (bd f hn))).2;have he:a=gu (c a) q L:=by
   refine au3 ?_ ?_ ?_
   .have h1:=z.rest;have N:=ada (c a) L q;have h3:=ga (λb:Act=>{b with tmps:=(gu (c a) q L).tmps}) (h1.trans N.symm);exact h3
   .rw[z.size,ac9]
   .intro t;rcases anR ops n t with⟨j,f⟩|r
    .obtain⟨C,Y,J,hd⟩:=id f;rw[(D j C Y J).1 t hd,acn (c a) L q (hL j Y J C) hd (alL B f) λp M W=> ?_];exact ahN B ⟨(F p M).1,p.2,(F p M).2,W⟩ f
    .rw[z.off t r,oC _ _ _ λp M W=>r p.1 ⟨(F p M).1,p.2,(F p M).2,W⟩]
  rw[he];exact fin _ (hU a) x a4
 have ao:left n (Array.replicate ops.size false)=n:=by
  unfold left;rw[sH.2]
  .simp
  .intro i k;have aZ:=qz.1 k;rw[getD_in (by simp;omega) (tV _ _)];rfl
 rw[ao,show n+(ops.size-n)=ops.size by omega] at H;exact H
def aco:List (Nat×(X->Prop))->Oper->X->Prop
 |[],_,_=>True
 |(j,p)::F,o,x=>(lU o j=true->p x)/\aco F o x
def dQ:List (Nat×(X->Prop))->X->Prop
 |[],_=>True
 |(_,p)::F,x=>p x/\dQ F x
omit [bm X] in
def anT{F:List (Nat×(X->Prop))}{x:X}(h:∀p∈F,lU o p.1=true->p.2 x):aco F o x:=by
 induction F with
 |nil=>trivial
 |cons p F b=>exact⟨h p (by simp),b λq a=>h q (by simp[a])⟩
omit [bm X] in
def au4{F:List (Nat×(X->Prop))}{x:X}(h:∀p∈F,p.2 x):dQ F x:=by
 induction F with
 |nil=>trivial
 |cons p F b=>exact⟨h p (by simp),b λq a=>h q (by simp[a])⟩
def dg(P:Program)(ops:Array Oper)(to:X->World)(le:X->X->Prop)(Qt:Act->World->Prop):List (Nat×Oper)->List (Nat×(X->Prop))->List (jl X)->Act->Prop
 |[],F,[],a=>∀x,dQ F x->Qt a (to x)
 |(i,o)::l,F,.fix v0::Rs,a=>(∀x,aco F o x->Good P ops to le i o a x (.fix v0))/\dg P ops to le Qt l F Rs (a.put o.dst v0)
 |(i,o)::l,F,.any R::Rs,a=>(o.dst.isSome=true\/∀u v x,R u x->R v x)/\(∀v x y,R v x->le x y->R v y)/\(∀x,aco F o x->Good P ops to le i o a x (.any R))/\∀v,dg P ops to le Qt l ((i,R v)::F) Rs (a.put o.dst v)
 |_,_,_,_=>False
def ahP{F:List (Nat×(X->Prop))}(h:∀x,dQ F x->W a (to x)):dg P ops to le W [] F [] a:=h
def au5   {l:List (Nat×Oper)} {F:List (Nat×(X->Prop))} {e:List (jl X)} (c:Value)
  (s:∀x,aco F o x->∀m,bm.live (m+1) x->bm.pend i x->∀b:Exit->Act->World->Prop,(∀y,le x y->bm.live m y->(∀j,j≠i->¬Behind ops i j->bm.pend j x->bm.pend j y)->b .normal (a.put o.dst c) (to y))->wpList P ops b [o] a (to x))
  (g:dg P ops to le W l F e (a.put o.dst c)):dg P ops to le W ((i,o)::l) F (.fix c::e) a:=
 ⟨λx q m r f b p=>s x q m r f b λy n k d=>p c y n k d rfl,g⟩
def mR   {l:List (Nat×Oper)} {F:List (Nat×(X->Prop))} {d:List (jl X)} (R:Value->X->Prop) (e:o.dst.isSome=true\/∀u v x,R u x->R v x) (p:∀v x y,R v x->le x y->R v y)
  (w:∀x,aco F o x->∀m,bm.live (m+1) x->bm.pend i x->∀b:Exit->Act->World->Prop,(∀v y,le x y->bm.live m y->(∀j,j≠i->¬Behind ops i j->bm.pend j x->bm.pend j y)->R v y->b .normal (a.put o.dst v) (to y))->wpList P ops b [o] a (to x))
  (g:∀v,dg P ops to le W l ((i,R v)::F) d (a.put o.dst v)):dg P ops to le W ((i,o)::l) F (.any R::d) a:=
 ⟨e,p,λx r m s f b q=>w x r m s f b λv y n k c t=>q v y n k c t,g⟩
def pick(l:List Oper)(ord:List Nat):List (Nat×Oper):=ord.map λi=>(i,l.getD i default)
def ahQ(ops:Array Oper)(n:Nat):List Nat->List Nat->Bool
 |[],_=>true
 |i::t,done=>(match ops[i]? with
  |some o=>(List.range n).all λj=>!lU o j||done.contains j
  |none=>false)&&ahQ ops n t (i::done)
def aeX{n:Nat}:∀(c done:List Nat),ahQ ops n c done=true->∀k i o j,c[k]?=some i->ops[i]?=some o->j<n->lU o j=true->j∈done\/j∈c.take k
 |[],_,_,k,i,_,_,h,_,_,_=>by simp at h
 |a::t,done,hB,k,i,o,j,h,ho,hj,hw=>by
  simp only[ahQ,ff] at hB;cases k with
  |zero=>
   simp at h;subst h;have b:=hB.1;simp only[ho] at b;have d:=lE.1 b j (qz.2 hj);left;simpa[hw] using d
  |succ k=>
   rcases aeX t (a::done) hB.2 k i o j (by simpa using h) ho hj hw with b|b
   .rcases mu.1 b with rfl|b
    .right;simp
    .exact .inl b
   .right;rw[vm];exact qV _ b
def ajs(l:List Oper)(n:Nat)(bZ dC:List Nat):Bool:=
 Region.noSelect l.toArray&&decide (n<=l.length)&&ajo l.toArray n&&anQ l.toArray n&&alM l.toArray n&&decide ((bZ++dC).Nodup)&&(List.range n).all (λi=>(bZ++dC).contains i)&&(bZ++dC).all (λi=>decide (i<n)) &&
  bZ.all (λi=>ahL (l.getD i default).op)&&ahQ l.toArray n (bZ++dC) []
def oD{U V:Nat->Value}:∀(L:List (Nat×Oper)) (a:Act),(∀p∈L,U p.1=V p.1)->gu U a L=gu V a L
 |[],_,_=>rfl
 |p::L,a,h=>by
  show gu U (a.put p.2.dst (U p.1)) L=gu V (a.put p.2.dst (V p.1)) L;rw[h p (by simp)];exact oD L _ λq b=>h q (by simp[b])
def adE(U:Nat->Value)(L M:List (Nat×Oper))(a:Act):gu U a (L++M)=gu U (gu U a L) M:=by
 unfold gu;exact ta
def aeY{C:World->Prop}{l:Act->Prop}:∀(L:List (Nat×Oper)) (a:Act),(L.map (·.1)).Nodup->wpQuiet P ops C l (L.map (·.2)) a->
  ∃V:Nat->Value,l (gu V a L)/\∀(k:Nat) (p:Nat×Oper),L[k]?=some p->YieldsIn P ops C p.2 (V p.1) (gu V a (L.take k))
 |[],a,_,h=>⟨λ_=>undef,h,λk p n=>by simp at n⟩
 |p::L,a,hn,h=>by
  rw[ru,ug] at hn;have t:∃v,YieldsIn P ops C p.2 v a/\wpQuiet P ops C l (L.map (·.2)) (a.put p.2.dst v):=by
   rw[ru] at h;unfold wpQuiet at h;split at h
   .rename_i g;obtain⟨v,u,o⟩:=h;exact⟨v,.inl ⟨g,u⟩,o⟩
   .rename_i g;exact⟨undef,.inr ⟨by simpa using g,rfl⟩,h⟩
  obtain⟨v,r,i⟩:=t;obtain⟨V,s,w⟩:=aeY L _ hn.2 i
  let W:Nat->Value:=λj=>if j=p.1 then v else V j
  have f:W p.1=v:=by simp[W]
  have d:∀q∈L,W q.1=V q.1:=λq b=>by
   have:q.1≠p.1:=λe=>hn.1 (e▸pe.2 ⟨q,b,rfl⟩);simp[W,this]
  have m:∀k,gu W a ((p::L).take (k+1))=gu V (a.put p.2.dst v) (L.take k):=λk=>by
   rw[vm];show gu W (a.put p.2.dst (W p.1)) (L.take k)=_;rw[f];exact oD _ _ λq b=>d q (qf b)
  refine⟨W, ?_,λk q b=> ?_⟩
  .have:=m L.length;rw[gc,<-fi (a:=p),gc] at this;rw[this];exact s
  .cases k with
   |zero=>
    simp at b;subst b;rw[f];exact r
   |succ k=>
    have c:L[k]?=some q:=by simpa using b
    rw[m,d q (db c)];exact w k q c
def aaw{A:Act->World->Prop}{n:Nat}{T:Nat->jl X}{U:Nat->Value}(y:∀j g,T j=.fix g->U j=g):∀(L:List (Nat×Oper)) (F:List (Nat×(X->Prop))) (l:List (jl X)) (a:Act),
  dg P ops to le A L F l a->(∀(k:Nat) (p:Nat×Oper) (r:jl X),L[k]?=some p->l[k]?=some r->T p.1=r)->(∀p∈L,p.1<n)->(∀p∈F,p.1<n/\∀x,(T p.1).holds (U p.1) x->p.2 x)->
  (∀(k:Nat) (p:Nat×Oper),L[k]?=some p->∀x,(∀j,j<n->lU p.2 j=true->(T j).holds (U j) x)->Good P ops to le p.1 p.2 (gu U a (L.take k)) x (T p.1))/\(∀x,(∀j,j<n->(T j).holds (U j) x)->A (gu U a L) (to x))
 |[],F,[],a,h,_,_,hF=>⟨λk p b=>by simp at b,λx c=>h x (au4 λp b=>(hF p b).2 x (c _ (hF p b).1))⟩
 |[],_,_::_,_,h,_,_,_=>h.elim
 |(i,o)::L,F,[],_,h,_,_,_=>h.elim
 |(i,o)::L,F,.fix g::l,a,h,hT,hn,hF=>by
  obtain⟨w,s⟩:=h;have d:T i=.fix g:=hT 0 (i,o) (.fix g) rfl rfl;have z:U i=g:=y i g d;obtain⟨u,v⟩:=aaw y L F l _ s (λk p r b t=>hT (k+1) p r (by simpa using b) (by simpa using t)) (λp b=>hn p (by simp[b])) hF;have f:∀M,gu U a ((i,o)::M)=gu U (a.put o.dst g) M:=λM=>by
   show gu U (a.put o.dst (U i)) M=_;rw[z]
  refine⟨λk p b x c=> ?_,λx c=>by rw[f];exact v x c⟩;cases k with
  |zero=>
   simp at b;subst b;rw[d];exact w x (anT λq e m=>(hF q e).2 x (c _ (hF q e).1 m))
  |succ k=>
   rw[vm,f];exact u k p (by simpa using b) x c
 |(i,o)::L,F,.any R::l,a,h,hT,hn,hF=>by
  obtain⟨_,B,w,s⟩:=h;have d:T i=.any R:=hT 0 (i,o) (.any R) rfl rfl;obtain⟨u,v⟩:=aaw y L ((i,R (U i))::F) l _ (s (U i)) (λk p r b t=>hT (k+1) p r (by simpa using b) (by simpa using t)) (λp b=>hn p (by simp[b])) λq e=>by
   rcases mu.1 e with rfl|e
   .exact⟨hn (i,o) (by simp),λx c=>by rw[d] at c;exact c⟩
   .exact hF q e
  refine⟨λk p b x c=> ?_,λx c=>v x c⟩;cases k with
  |zero=>
   simp at b;subst b;rw[d];exact w x (anT λq e m=>(hF q e).2 x (c _ (hF q e).1 m))
  |succ k=>exact u k p (by simpa using b) x c
def abp{j:Act->World->Prop}:∀(L:List (Nat×Oper)) (F:List (Nat×(X->Prop))) (d:List (jl X)) (a:Act),
  dg P ops to le j L F d a->d.length=L.length/\∀(k:Nat) (p:Nat×Oper) (r:jl X),L[k]?=some p->d[k]?=some r->r.keep le/\((∃v,r=.fix v)\/p.2.dst.isSome=true\/∀R,r=.any R->∀u v x,R u x->R v x)
 |[],_,[],_,_=>⟨rfl,λk p r b=>by simp at b⟩
 |[],_,_::_,_,h=>h.elim
 |(i,o)::L,F,[],_,h=>h.elim
 |(i,o)::L,F,.fix v0::d,a,h=>by
  obtain⟨_,e⟩:=h;obtain⟨f,g⟩:=abp L F d _ e;refine⟨by simp[f],λk p r b c=> ?_⟩;cases k with
  |zero=>
   simp at c;subst c;exact⟨trivial,.inl ⟨_,rfl⟩⟩
  |succ k=>exact g k p r (by simpa using b) (by simpa using c)
 |(i,o)::L,F,.any R::d,a,h=>by
  obtain⟨hd,l,_,e⟩:=h;obtain⟨f,g⟩:=abp L _ d _ (e undef);refine⟨by simp[f],λk p r b c=> ?_⟩;cases k with
  |zero=>
   simp at c b;subst c b;exact⟨l,.inr (hd.imp id λhd R' m=>by cases m;exact hd)⟩
  |succ k=>exact g k p r (by simpa using b) (by simpa using c)
def abq{g:Type}:∀(ks:List Nat) (c:List g) (k i:Nat) (r:g),ks.Nodup->ks[k]?=some i->c[k]?=some r->(ks.zip c).lookup i=some r
 |[],_,_,_,_,_,h,_=>by simp at h
 |a::ks,[],_,_,_,_,_,h=>by simp at h
 |a::ks,b::c,k,i,r,hn,h,hr=>by
  rw[ug] at hn;cases k with
  |zero=>
   simp at h hr;subst h hr;simp[List.lookup]
  |succ k=>
   have f:ks[k]?=some i:=by simpa using h
   have d:(i ==a)=false:=de.2 λe=>hn.1 (e▸db f);simp only[List.zip_cons_cons,List.lookup,d];exact abq ks c k i r hn.2 f (by simpa using hr)
def ajt   (to:X->World) (le:X->X->Prop) (Y:∀x,le x x) (n:Nat) (b q:List Nat) (hB:ajs l n b q=true) (hd:aeV l.toArray n a.tmps.size=true)
  (x0:X) (af:∀m,m<=n->bm.live m x0) (b7:∀i,i<n->bm.pend i x0) (hx:to x0=w.drew)
  (h:wpQuiet P l.toArray (λw'=>∃x,w'=to x) (λa1=>∃C,dg P l.toArray to le (wpList P l.toArray Q (l.drop n)) (pick l q) [] C a1) ((pick l b).map (·.2)) a):wpAny P .any l.toArray Q l.toArray.size (Array.replicate l.toArray.size false) a {w with drawn:=w.drawn+1}:=by
 simp only[ajs,ff,qT] at hB;obtain⟨⟨⟨⟨⟨⟨⟨⟨⟨aT,hn⟩,ht⟩,al⟩,a6⟩,N⟩,b9⟩,ay⟩,b3⟩,an⟩:=hB;have b5:n<=l.toArray.size:=by simpa using hn
 have G:∀i,i<n->i∈b++q:=λi d=>by simpa using lE.1 b9 i (qz.2 d)
 have z:∀i∈b++q,i<n:=λi d=>by simpa using lE.1 ay i d
 have B:∀i,i<n->l.toArray[i]?=some (l.getD i default):=λi d=>by
  have b8:i<l.length:=bd d hn;simp[b8]
 have b0:∀F:List Nat,(pick l F).map (·.1)=F:=λF=>by simp[pick,Function.comp_def]
 obtain⟨V,⟨C,O⟩,hV⟩:=aeY (pick l b) a (by rw[b0];exact(uB.1 N).1) h;obtain⟨a4,a9⟩:=abp _ _ _ _ O;have ba:C.length=q.length:=by rw[a4];simp[pick]
 let T:Nat->jl X:=λj=>(((b++q).zip (b.map (λi=>jl.fix (V i))++C)).lookup j).getD (.fix undef)
 have E:∀i∈b,T i=.fix (V i):=λi d=>by
  obtain⟨k,v⟩:=rL.1 d;have Z:k<b.length:=by
   rcases pm k b.length with h|h
   .exact h
   .rw[rx h] at v;cases v
  have:=abq (b++q) (b.map (λi=>jl.fix (V i))++C) k i (.fix (V i)) N (by rw[qv Z];exact v) (by rw[qv (by simpa using Z),qO,v];rfl);simp only[T,this,qw]
 have a2:∀k i r,q[k]?=some i->C[k]?=some r->T i=r:=λk i r v D=>by
  have:=abq (b++q) (b.map (λi=>jl.fix (V i))++C) (b.length+k) i r N (by rw[qp (by omega),rX];exact v)
   (by rw[qp (by simp),qg,rX];exact D)
  simp only[T,this,qw]
 have a0:∀(k:Nat) (p:Nat×Oper) (r:jl X),(pick l q)[k]?=some p->C[k]?=some r->T p.1=r:=λk p r g D=>by
  simp only[pick,qO,jt] at g;obtain⟨i,d,rfl⟩:=g;exact a2 k i r d D
 have a7:∀i,i<n->(i∈b/\T i=.fix (V i))\/∃k r,q[k]?=some i/\C[k]?=some r/\T i=r:=λi d=>by
  rcases mx.1 (G i d) with s|s
  .exact .inl ⟨s,E i s⟩
  .obtain⟨k,v⟩:=rL.1 s;have Z:k<C.length:=by
    rcases pm k q.length with h|h
    .omega
    .rw[rx h] at v;cases v
   exact .inr ⟨k,C[k],v,jp Z,a2 k i _ v (jp Z)⟩
 have aH:∀i,(T i).keep le:=λi=>by
  by_cases d:i<n
  .rcases a7 i d with⟨_,s⟩|⟨k,r,v,D,s⟩
   .rw[s];trivial
   .rw[s];exact(a9 k (i,l.getD i default) r (by simp[pick,v]) D).1
  .have:((b++q).zip (b.map (λi=>jl.fix (V i))++C)).lookup i=none:=by
    rw[List.lookup_eq_none_iff];intro p g;have s:=(List.of_mem_zip g).1;have:=z _ s;have ad:i≠p.1:=λe=>d (by rw[e];exact this);simpa using ad
   simp only[T,this,Option.getD_none];trivial
 have aV:∀i,i∈b++q->(i,l.getD i default)∈pick l (b++q):=λi d=>pe.2 ⟨i,d,rfl⟩;have W:pick l (b++q)=pick l b++pick l q:=by simp[pick]
 have H:=apl (P:=P) (Q:=Q) (to:=to) (le:=le) b5 aT ht al a6 hd T aH ?any (pick l (b++q)) ?L ?L' ?lex ?fin x0 (af _ (au2 _ _)) b7
 .rw[hx] at H;exact H
 case any=>
  intro i o d I;rcases a7 i d with⟨_,s⟩|⟨k,r,v,D,s⟩
  .exact .inl ⟨_,s⟩
  .rw[s];obtain rfl:o=l.getD i default:=dq (I.symm.trans (B i d));exact(a9 k (i,l.getD i default) r (by simp[pick,v]) D).2
 case L=>
  intro i o I d;obtain rfl:o=l.getD i default:=dq (I.symm.trans (B i d));exact aV i (G i d)
 case L'=>
  intro p g;obtain⟨i,d,rfl⟩:=pe.1 g;exact⟨z i d,B i (z i d)⟩
 case lex=>
  intro i o d I U hU;obtain rfl:o=l.getD i default:=dq (I.symm.trans (B i d));obtain⟨hg,_⟩:=aaw (n:=n) (T:=T) (U:=U) hU _ _ _ _ O a0 (λp g=>by
   obtain⟨j,A,rfl⟩:=pe.1 g;exact z j (sg _ A)) (λp g=>by cases g)
  obtain⟨k,v⟩:=rL.1 (G i d);have a5:∀M:List (Nat×Oper),(∀p∈M,p.1∈b)->gu U a M=gu V a M:=λM hM=>oD M a λp g=>by rw[hU _ _ (E _ (hM p g))]
  have a3:∀p∈pick l b,p.1∈b:=λp g=>by
   obtain⟨j,A,rfl⟩:=pe.1 g;exact A
  refine⟨gu U a ((pick l (b++q)).take k), ?_, ?_, ?_⟩
  .refine⟨ac9 _ _ _,λt aZ=>oC _ _ _ λp g S=> ?_, ?_⟩
   .obtain⟨j,A,rfl⟩:=pe.1 (qf g);exact aZ j ⟨z j A,_,B j (z j A),S⟩
   .exact ada _ _ _
  .intro t j ax A;have hw:=aeW a6 d I ax A;have b6:=(aeX (b++q) [] an k i _ j v I A.1 hw).resolve_left (by simp);have aI:=A;obtain⟨ao,oj,b2,b4⟩:=aI;obtain rfl:oj=l.getD j default:=dq (b2.symm.trans (B j ao));refine acn U (o:=l.getD j default) _ a ?_ b4 (alL hd A) λp g S=> ?_
   .rw[pick,<-List.map_take];exact pe.2 ⟨j,b6,rfl⟩
   .obtain⟨j',aa,rfl⟩:=pe.1 (qf g);exact ahN hd ⟨z j' aa,_,B j' (z j' aa),S⟩ A
  .intro x hx;rcases pm k b.length with K|K
   .have mK:b[k]?=some i:=by rw[qv K] at v;exact v
    have a8:i∈b:=db mK;have kY:(pick l (b++q)).take k=(pick l b).take k:=by rw[W,List.take_append_of_le_length (by simp[pick];omega)]
    have hy:=hV k (i,l.getD i default) (by simp[pick,mK]);rw[kY,a5 _ λp g=>a3 p (qf g),E i a8];intro mq R bb Qx hQ;have aL:ahL (l.getD i default).op=true:=lE.1 b3 i a8;have J:=λy hy hl b1=>hQ (V i) y hy hl b1 rfl;unfold wpList;rcases hy with⟨hw,hq⟩|⟨hw,hq⟩
    .rw[du hw];refine .inl ?_;have s:=hq (to x) ⟨x,rfl⟩;unfold Oper.quietAt at s;unfold Oper.wp;cases D:(execOp (gu V a (List.take k (pick l b))).eval (l.getD i default)).run P (to x) with
     |ok nx w'=>
      rw[D] at s;cases nx<;>simp only[Oper.quietUpon] at s
      case value u=>
       obtain⟨rfl,rfl⟩:=s;exact J x (Y x) (bm.down _ _ R) λ_ _ _ h=>h
      case skip=>
       obtain⟨rfl,h2⟩:=s;show Qx .normal _ _;rw[<-h2];exact J x (Y x) (bm.down _ _ R) λ_ _ _ h=>h
      case enter f args=>exact absurd D (ahM aL)
     |halt c w'=>
      rw[D] at s;simp only[Oper.quietUpon] at s
    .rw[be (by rw[hw];exact qA)];have:=J x (Y x) (bm.down _ _ R) λ_ _ _ h=>h;rw[hq] at this;exact this
   .have kL:q[k-b.length]?=some i:=by rw[qp K] at v;exact v
    have kY:(pick l (b++q)).take k=pick l b++(pick l q).take (k-b.length):=by
     rw[W,List.take_append,pu (by simp[pick];omega)];simp[pick]
    rw[kY,adE,a5 _ a3];exact hg (k-b.length) (i,l.getD i default) (by simp[pick,kL]) x hx
 case fin=>
  intro U hU x hx;obtain⟨_,hf⟩:=aaw (n:=n) (T:=T) (U:=U) hU _ _ _ _ O a0 (λp g=>by
   obtain⟨j,A,rfl⟩:=pe.1 g;exact z j (sg _ A)) (λp g=>by cases g)
  have s:=hf x hx;rw[W,adE,oD (U:=U) (V:=V) (pick l b) a λp g=>by
   obtain⟨j,A,rfl⟩:=pe.1 g;exact hU _ _ (E j A)]
  simpa using s
def abr    (to:X->World) (le:X->X->Prop) (f:∀x,le x x) (n:Nat) (d e:List Nat) (p:P.follows .mixedOrders=true) (r:ajs l n d e=true) (g:aeV l.toArray n U.tmps.size=true)
  (a:X) (b:∀m,m<=n->bm.live m a) (c:∀i,i<n->bm.pend i a) (k:to a=w.drew)
  (h:wpQuiet P l.toArray (λj=>∃x,j=to x) (λq=>∃o,dg P l.toArray to le (wpList P l.toArray Q (l.drop n)) (pick l e) [] o q) ((pick l d).map (·.2)) U):(Code.region Z l.toArray true).wp P Q U w:=
 wp_region_any p (ajt to le f n d e r g a b c k h)
end
end
section
variable {β:Bool}
open Go.RowKit
def aU(c:Below w.heap.size w w')(h:w.cell? p=some v):w'.cell? p=some v:=by
 refine(c.cell (p:=p) ?_).trans h;rcases pm p.block w.heap.size with a|b
 .exact a
 .simp[World.cell?,qm b] at h
def cX{a : World}(h:Below a.heap.size a w)(o:Obj):Below a.heap.size a (w.alloc o):=h.alloc h.size o
def bC(h:bg w g t cs)(o:Obj):bg (w.alloc o) g t cs:=(sK w o g h.lt).trans h
def cj(h:bg w g t cs)(u:Value)(a:g≠p.block):bg (w.setCell p u) g t cs:=(jn w p u g a).trans h
def aP(h:bg w g t cs){S:Nat->Prop}(b:bj S w w')(a:¬S g):bg w' g t cs:=(b.block g h.lt a).trans h
def av(w:World)(o:Obj):Below w.heap.size w (w.alloc o):=(fd _ _).alloc (am _) _
def anV{E:gG R}(a:Lcy E){xs:List R}{cs:List Value}(h:bD E Z w V hi xs cs)(c:Below w.heap.size w w')(b:hi<=w.heap.size):bD E Z w' V hi xs cs:=
 (bD.loc a).below h c b
def mB(h:w.alloc (.cells cs t)=x):Below w.heap.size w x/\w.heap.size+1<=x.heap.size/\bg x w.heap.size t cs/\(∀i,x.cell? ⟨w.heap.size,i,none⟩=cs[i]?)/\∀i,x.frozen? ⟨w.heap.size,i,none⟩=false:=by
 subst h;have k:=bg.new w t cs;exact⟨av _ _,by simp,k,k.cell,k.frozen⟩
def pW{u : TypeId}(h:(w.alloc (.cells cs t)).alloc (.cells M u)=x):Below w.heap.size w x/\w.heap.size+2<=x.heap.size/\bg x w.heap.size t cs/\(∀i,x.cell? ⟨w.heap.size,i,none⟩=cs[i]?)/\(∀i,x.frozen? ⟨w.heap.size,i,none⟩=false)/\
  bg x (w.heap.size+1) u M/\(∀i,x.cell? ⟨w.heap.size+1,i,none⟩=M[i]?)/\∀i,x.frozen? ⟨w.heap.size+1,i,none⟩=false:=by
 obtain⟨e,a,d,b,c⟩:=mB h;have k:=bC (bg.new w t cs) (.cells M u);rw[h] at k;simp only[oS] at a d b c;exact⟨h▸cX (av _ _) _,a,k,k.cell,k.frozen,d,b,c⟩
def aeZ{u v : TypeId}{es : Array Value}(h:((w.alloc (.cells cs t)).alloc (.cells M u)).alloc (.cells es v)=x):Below w.heap.size w x/\w.heap.size+3<=x.heap.size/\bg x w.heap.size t cs/\(∀i,x.cell? ⟨w.heap.size,i,none⟩=cs[i]?)/\(∀i,x.frozen? ⟨w.heap.size,i,none⟩=false)/\
  bg x (w.heap.size+1) u M/\(∀i,x.cell? ⟨w.heap.size+1,i,none⟩=M[i]?)/\(∀i,x.frozen? ⟨w.heap.size+1,i,none⟩=false)/\bg x (w.heap.size+1+1) v es/\(∀i,x.cell? ⟨w.heap.size+1+1,i,none⟩=es[i]?)/\∀i,x.frozen? ⟨w.heap.size+1+1,i,none⟩=false:=by
 obtain⟨e,a,d,b,c⟩:=mB h;have k:=bC (bC (bg.new w t cs) (.cells M u)) (.cells es v);have l:=bC (bg.new (w.alloc (.cells cs t)) u M) (.cells es v);rw[h] at k l;simp only[oS] at a d b c l;exact⟨h▸cX (cX (av _ _) _) _,a,k,k.cell,k.frozen,l,l.cell,l.frozen,d,b,c⟩
structure fB (w:World) where
 to:World
 ok:Below w.heap.size w to
instance au6(w:World):Nonempty (fB w):=⟨⟨w,fd _ _⟩⟩
def ae(h:w.cell? p=some v):∀x:fB w,x.to.cell? p=some v:=λx=>aU x.ok h
def aR {id:Nat}    (c:P.follows .mixedOrders=true) (e:Region.lexB .any l.toArray=true)
  (h:wpQuiet P l.toArray (λb=>∃x:fB w,b=x.to) (λd=>∀b,(∃x:fB w,b=x.to)->Q .normal d b) l a):(Code.region id l.toArray true).wp P Q a w:=
 wp_region_quiet (C:=λb=>∃x:fB w,b=x.to) c e ⟨⟨w.drew,⟨rfl,rfl,rfl,am _,λ_ _=>rfl⟩⟩,rfl⟩ (by simpa using h)
def bH(h:∃x:fB w,w'=x.to):Below w.heap.size w w':=by
 obtain⟨x,rfl⟩:=h;exact x.ok
def dS  {args:Array Value} {x:fB w} 
  (h:Calls P f args x.to λe b=>e=.returned v/\Below x.to.heap.size x.to b):Calls P f args x.to λe a=>e=.returned v/\∃y:fB w,a=y.to:=
 h.mono λ_ c ⟨he,hb⟩=>⟨he,⟨⟨c,x.ok.trans (hb.mono x.ok.size)⟩,rfl⟩⟩
def dT  {args:Array Value} {x:fB w} 
  (h:Calls P f args x.to λe b=>e=.returned v/\x.to=b):Calls P f args x.to λe a=>e=.returned v/\∃y:fB w,a=y.to:=
 h.mono λ_ _ ⟨he,hb⟩=>⟨he,⟨x,hb.symm⟩⟩
instance ayo(w:World):bm (fB w):=⟨λ_ _=>True,λ_ _ _=>trivial,λ_ _=>True⟩
def fB.le{w:World}(x y:fB w):Prop:=Below x.to.heap.size x.to y.to
def fB.le_refl(x:fB w):fB.le x x:=fd _ _
def fB.mk'{w:World}(x:fB w){w':World}(h:Below x.to.heap.size x.to w'):fB w:=⟨w',x.ok.trans (h.mono x.ok.size)⟩
def aC      (n:Nat) (a b:List Nat) (d:P.follows .mixedOrders=true:=by kernel_rfl) (g:ajs l n a b=true:=by kernel_rfl) (c:aeV l.toArray n U.tmps.size=true:=by kernel_rfl)
  (h:wpQuiet P l.toArray (λe=>∃x:fB w,e=x.to) (λf=>∃i:List (jl (fB w)),dg P l.toArray (fB.to (w:=w)) (fB.le (w:=w)) (wpList P l.toArray Q (l.drop n)) (pick l b) [] i f) ((pick l a).map (·.2)) U):(Code.region Z l.toArray true).wp P Q U w:=
 abr (fB.to (w:=w)) (fB.le (w:=w)) fB.le_refl n a b d g c ⟨w.drew,⟨rfl,rfl,rfl,am _,λ_ _=>rfl⟩⟩ (λ_ _=>trivial) (λ_ _=>trivial) rfl h
section
variable {P:Program} {ops:Array Oper} {w:World} {Qt:Act->World->Prop} {i:Nat} {o:Oper} {l:List (Nat×Oper)} {F:List (Nat×(fB w->Prop))} {Rs:List (jl (fB w))} {a:Act}
def aY (R:Value->World->Prop) (f:o.dst.isSome=true) (j:∀v x y,R v x->Below x.heap.size x y->R v y)
  (q:∀x:fB w,aco F o x->∀b:Exit->Act->World->Prop,(∀v c,Below x.to.heap.size x.to c->R v c->b .normal (a.put o.dst v) c)->wpList P ops b [o] a x.to)
  (g:∀v,dg P ops (fB.to (w:=w)) (fB.le (w:=w)) Qt l ((i,λx=>R v x.to)::F) Rs (a.put o.dst v)):dg P ops (fB.to (w:=w)) (fB.le (w:=w)) Qt ((i,o)::l) F (.any (λv x=>R v x.to)::Rs) a:=
 mR (X:=fB w) (to:=fB.to (w:=w)) (le:=fB.le (w:=w)) (λv x=>R v x.to) (.inl f) (λv x y h d=>j v x.to y.to h d) (λx n m _ _ b k=>q x n b λv c e p=>k v (x.mk' e) e trivial (λ_ _ _ _=>trivial) p) g
def cT (c:Value)
  (g:∀x:fB w,aco F o x->∀b:Exit->Act->World->Prop,(∀d,Below x.to.heap.size x.to d->b .normal (a.put o.dst c) d)->wpList P ops b [o] a x.to)
  (f:dg P ops (fB.to (w:=w)) (fB.le (w:=w)) Qt l F Rs (a.put o.dst c)):dg P ops (fB.to (w:=w)) (fB.le (w:=w)) Qt ((i,o)::l) F (.fix c::Rs) a:=
 au5 (X:=fB w) (to:=fB.to (w:=w)) (le:=fB.le (w:=w)) c (λx k m _ _ b j=>g x k b λd e=>j (x.mk' e) e trivial λ_ _ _ _=>trivial) f
def aQ(h:∀b,Below w.heap.size w b->∀x:fB w,x.to=b->dQ F x->Qt a b):dg P ops (fB.to (w:=w)) (fB.le (w:=w)) Qt [] F [] a:=
 ahP (X:=fB w) (to:=fB.to (w:=w)) (le:=fB.le (w:=w)) λx c=>h x.to x.ok x rfl c
end
def eG(base:Nat)(e:TypeId)(v:Value)(w:World):Prop:=∃g,v=.slice (some ⟨g,0,none⟩) 0 0/\base<=g/\bg w g e #[]
def eG.own{base:Nat}(h:eG base e v w)(b:Nat):w.ownsRow base e b v 0 []:=by
 obtain⟨g,rfl,c,a⟩:=h;exact⟨by simp,.inr ⟨g,0,#[],rfl,c,a,am _,by unfold maxLen;omega,by simp,by simp⟩⟩
def ak(h:bg w g t cs)(a:Below w.heap.size w w'):bg w' g t cs:=(a.block g h.lt).trans h
def eG.keep{base:Nat}(h:eG base e v w)(c:Below w.heap.size w w'):eG base e v w':=by
 obtain⟨g,rfl,b,a⟩:=h;exact⟨g,rfl,b,ak a c⟩
def eG.new(w:World){base:Nat}(e:TypeId)(a:base<=w.heap.size):eG base e (.slice (some ⟨w.heap.size,0,none⟩) 0 0) (w.alloc (.cells #[] e)):=⟨_,rfl,a,bg.new _ _ _⟩
def alN(base:Nat)(e:TypeId)(es:Array Value)(v:Value)(w:World):Prop:=∃g,v=.slice (some ⟨g,0,none⟩) 1 1/\base<=g/\bg w g e es
def alN.keep{base:Nat}{es:Array Value}(h:alN base e es v w)(c:Below w.heap.size w w'):alN base e es v w':=by
 obtain⟨g,rfl,b,a⟩:=h;exact⟨g,rfl,b,ak a c⟩
def alN.new(w:World){base:Nat}(e:TypeId)(es:Array Value)(a:base<=w.heap.size):alN base e es (.slice (some ⟨w.heap.size,0,none⟩) 1 1) (w.alloc (.cells es e)):=⟨_,rfl,a,bg.new _ _ _⟩
end
section
variable {β:Bool}
open Go.RowKit
structure Flat (α:Type) where
 sz:Nat
 cells:α->List Value
 good:α->Prop
 len:∀x,(cells x).length=sz
 one:∀x,∀u∈cells x,u.oneCell'=true
 pos:0<sz
def bV{α:Type}(F:Flat α):gG α:=λ_ _ _ x a=>a=F.cells x/\F.good x
section
variable {α:Type} (F:Flat α)
def bV.loc:Lcy (bV F):=⟨λ_ _ _ h=>h⟩
def dA(xs:List α):List Value:=xs.flatMap F.cells
def lz(xs a:List α):dA F (xs++a)=dA F xs++dA F a:=sb
def ae0(x:α):dA F [x]=F.cells x:=by simp[dA]
def dU:∀a:List α,(dA F a).length=a.length*F.sz
 |[]=>by simp[dA]
 |x::a=>by
  show(F.cells x++dA F a).length=_;rw[aE,dU a,F.len,fi,rv,Nat.add_comm]
def eE:∀(a:List α) (i j:Nat) (x:α) (u:Value),a[i]?=some x->(F.cells x)[j]?=some u->(dA F a)[i*F.sz+j]?=some u
 |[],i,j,x,u,h,_=>by simp at h
 |g::a,i,j,x,u,h,hj=>by
  have b:=aB hj;rw[F.len] at b;show(F.cells g++dA F a)[i*F.sz+j]?=some u;cases i with
  |zero=>
   simp at h;subst h;rw[qv (by rw[F.len,uW,mc];exact b),uW,mc];exact hj
  |succ i=>
   have e:(i+1)*F.sz+j=F.sz+(i*F.sz+j):=by rw[rv];omega
   rw[e,qp (by rw[F.len];omega),F.len,rX];exact eE a i j x u (by simpa using h) hj
def apm{xs:List α}(h:(dA F xs)[j]?=some u):∃x,xs[j / F.sz]?=some x/\(F.cells x)[j % F.sz]?=some u:=by
 have a:=aB h;rw[dU] at a;have d:j / F.sz<xs.length:=wM (by rw[tR];exact a);refine⟨xs[j / F.sz],jp d, ?_⟩;have b:j % F.sz<(F.cells xs[j / F.sz]).length:=by rw[F.len];exact tD _ F.pos
 have c:=eE F xs (j / F.sz) (j % F.sz) xs[j / F.sz] _ (jp d) (jp b);rw[vX] at c;rw[jp b,<-c,h]
def aax(xs:List α):∀u∈dA F xs,u.oneCell'=true:=by
 intro u a;obtain⟨g,_,b⟩:=qo.1 a;exact F.one g u b
def aJ(e:TypeId)(w:World)(base:Nat)(v:Value)(xs:List α):Prop:=w.ownsRow base e F.sz v xs.length (dA F xs)
variable {F}
def aJ.sl{base : Nat}{xs:List α}(h:aJ F e w base v xs)(c:∀x∈xs,F.good x)(a:w.heap.size<=hi):bD (bV F) F.sz w base hi xs [v]:=
 ayl h a λi x hi=>⟨F.cells x,F.len x,⟨rfl,c x (db hi)⟩,λ_ _ b=>eE F xs i _ x _ hi b⟩
def aju{base : Nat}(h:w.ownsRow base e Z v n Y)(d:base'<=base):w.ownsRow base' e Z v n Y:=by
 refine⟨h.1, ?_⟩;rcases h.2 with f|⟨g,cap,b,rfl,c,a⟩
 .exact .inl f
 .exact .inr ⟨g,cap,b,rfl,ap d c,a⟩
def aJ.base{base : Nat}{xs:List α}(h:aJ F e w base v xs)(a:base'<=base):aJ F e w base' v xs:=aju h a
def aJ.nil(e:TypeId)(w:World)(base:Nat):aJ F e w base (.slice none 0 0) []:=uy _ _ _ _
def aJ.ajv{base:Nat}(h:eG base e v w):aJ F e w base v []:=h.own F.sz
def aJ.below{base:Nat}{xs:List α}(h:aJ F e w base v xs)(a:Below w.heap.size w w'):aJ F e w' base v xs:=aeU h a
def aJ.fE{base:Nat}{xs:List α}{S:Nat->Prop}(h:aJ F e w base v xs)(c:bj S w w')(a:∀b,v.ownBlock=some b->¬S b):aJ F e w' base v xs:=aeg h c a
def aJ.at_{base:Nat}{xs:List α}(h:aJ F e w base v xs)(a:v.ownBlock=some g):base<=g/\g<w.heap.size:=h.lt g a
def aJ.bG{base:Nat}{xs:List α}(h:aJ F e w base v xs)(u:Value)(c:p.block<base):aJ F e (w.setCell p u) base v xs:=
 h.fE (S:=λb=>b=p.block) ((bj.refl (λb=>b=p.block) w).setCell (p:=p) (.inl rfl) u) λb a e=>by have:=h.at_ a;omega
def apn{base : Nat}{e' : TypeId}{v' : Value}{cs : List Value}(h:w.ownsRow base e Z v n cs)(l:w.ownsRow base' e' V v' B Y)(m:e≠e'):∀b,v.ownBlock=some b->v'.ownBlock≠some b:=by
 intro b c a;rcases h.2 with⟨rfl,_⟩|⟨g,cap,k,rfl,_,i,_⟩
 .simp[Value.ownBlock] at c
 .rcases l.2 with⟨rfl,_⟩|⟨o,f,j,rfl,_,d,_⟩
  .simp[Value.ownBlock] at a
  .simp[Value.ownBlock] at c a;rw[c] at i;rw[a,i] at d;simp at d;exact m d.2
def aJ.arL{base:Nat}{xs:List α}(h:aJ F e w base v xs)(u:Value)(a:∀b,v.ownBlock=some b->b≠p.block):aJ F e (w.setCell p u) base v xs:=
 h.fE (S:=λb=>b=p.block) ((bj.refl (λb=>b=p.block) w).setCell (p:=p) (.inl rfl) u) a
def aJ.form{base:Nat}{xs:List α}(h:aJ F e w base v xs):∃A c,v=.slice A xs.length c:=iv h
def adb:∀(a:List α) (i j:Nat) (x y:α) (u:Value),a[i]?=some x->j<F.sz->F.cells y=(F.cells x).set j u->dA F (a.set i y)=(dA F a).set (i*F.sz+j) u
 |[],i,j,x,y,u,h,_,_=>by simp at h
 |z::a,0,j,x,y,u,h,hj,hy=>by
  simp at h;subst h;show F.cells y++dA F a=(F.cells z++dA F a).set (0*F.sz+j) u
  rw[uW,mc,List.set_append_left _ _ (by rw[F.len];exact hj),hy]
 |z::a,i+1,j,x,y,u,h,hj,hy=>by
  show F.cells z++dA F (a.set i y)=(F.cells z++dA F a).set ((i+1)*F.sz+j) u
  have e:(i+1)*F.sz+j=F.sz+(i*F.sz+j):=by rw[rv];omega
  rw[e,uT _ _ (by rw[F.len];omega),F.len,rX,adb a i j x y u (by simpa using h) hj hy]
def aJ.put{base cap : Nat}{xs:List α}(h:aJ F e w base (.slice (some ⟨g,0,none⟩) xs.length cap) xs){x y:α}(c:xs[i]?=some x)(a:j<F.sz)(b:F.cells y=(F.cells x).set j u) :
  aJ F e (w.setCell ⟨g,i*F.sz+j,none⟩ u) base (.slice (some ⟨g,0,none⟩) xs.length cap) (xs.set i y):=by
 unfold aJ;rw[adb xs i j x y u c a b,rb];exact(h.stored _ u).1
def aJ.cell{base cap : Nat}{xs:List α}(h:aJ F e w base (.slice (some ⟨g,0,none⟩) xs.length cap) xs){x:α}(b:xs[i]?=some x)(a:(F.cells x)[j]?=some u):w.cell? ⟨g,i*F.sz+j,none⟩=some u:=by
 have c:=aB a;rw[F.len] at c;have d:=aB b;have f:(i+1)*F.sz<=xs.length*F.sz:=qP _ d;rw[rv] at f;rw[h.cellAt _ (by omega)];exact eE F xs i j x u b a
def aJ.frozen{base cap : Nat}{xs:List α}(h:aJ F e w base (.slice (some ⟨g,0,none⟩) n cap) xs)(a:n=xs.length)(j:Nat):w.frozen? ⟨g,j,none⟩=false:=by
 subst a;exact h.frozenAt j
def aJ.some_{base:Nat}{xs:List α}(h:aJ F e w base v xs)(b:0<xs.length):∃g c,v=.slice (some ⟨g,0,none⟩) xs.length c:=by
 rcases h.2 with⟨_,d⟩|⟨g,cap,a,rfl,_⟩
 .omega
 .exact⟨g,cap,rfl⟩
def kq{xs:List α}(h:bD (bV F) F.sz w Z hi xs [.slice A n c])(v:hi<=w.heap.size) :
  0<xs.length->∃a,A=some a/\∀(j:Nat) (u:Value),(dA F xs)[j]?=some u->∀f,Below w.heap.size w f->f.cell? (a.add j)=some u:=by
 intro k;obtain⟨x,p⟩:=aq k;obtain⟨b,d,_,rfl,_⟩:=h.at_ p;refine⟨_,rfl,λj u m f o=> ?_⟩;obtain⟨y,l,g⟩:=apm F m;obtain⟨s,t,r,e,_,_,_,⟨rfl,_⟩,q⟩:=h.at_ l;simp only[lP,qB,qx] at e;obtain⟨rfl,rfl⟩:=e;have i:(⟨b,d,none⟩:Addr).add j=⟨b,d+j,none⟩:=by unfold Addr.add;split<;>simp_all
 rw[i];have:=q _ _ g;rw[vI,vX] at this;exact aU o this
def bD.good{xs:List α}{cs:List Value}(h:bD (bV F) F.sz w Z hi xs cs):∀x∈xs,F.good x:=λx b=>by
 obtain⟨c,a⟩:=h.alo x b;exact a.2
end
def gR:Flat Int:=⟨1,λx=>[.int .i64 x],cf,λ_=>rfl,λx u a=>by rw[mw.1 a];rfl,by decide⟩
def aat(xs:List Int):dA gR xs=xs.map (Value.int .i64):=by
 induction xs with
 |nil=>rfl
 |cons x xs a=>show Value.int .i64 x::dA gR xs=_;rw[a];rfl
section
variable {P:Program}
def ajw {ty : TypeId} (p:iu P t e Z V) {base:Nat} (r:eG base e v w)
  (D:news.length=m*Z) (F:0<m->∃a,A=some a/\∀(j:Nat) (u:Value),news[j]?=some u->w.cell? (a.add j)=some u) (J:∀u∈news,u.oneCell'=true)
  (Q:m<=1099511627776) (l:base<=w.heap.size) :
  ∃E s,(Builtin.append_ #[t,t] ty #[v,.slice A m c]).run P w=.ok E s/\s.ownsRow base e Z E m news/\Below w.heap.size w s:=by
 obtain⟨i,z,G,M,B,C,R⟩:=p.info;have o:=r.own Z;obtain⟨K,I,d,y⟩:=anO (P:=P) (ty:=ty) p o (c:=c) D F J (by omega) l;have b:=y.own;rw[mc,rH] at b;refine⟨K,I,d,b, ?_⟩;obtain⟨g,rfl,N,H⟩:=r;rcases pv m with x|x
 .subst x;have q:news=[]:=qU (by simpa using D);subst q;have k:(Builtin.append_ #[t,t] ty #[.slice (some ⟨g,0,none⟩) 0 0,.slice A 0 c]).run P w=.ok (.slice (some ⟨g,0,none⟩) 0 0) w:=by
   cases A<;>simp[Builtin.append_,me p.slice,sizeOf,typeInfo,G,Builtin.lenOf,Builtin.firstCells,storeCells,loadCells,loadCellsFrom]
  rw[k] at d;cases d;exact fd _ _
 .obtain⟨L,rfl,n⟩:=F x;have f:m*V<=140737488355328:=ap (Nat.mul_le_mul Q p.small) (by omega);have k:=run_append_grow (P:=P) w t ty e i z p.slice G M ⟨g,0,none⟩ 0 0 [] (by simp) (λj u O=>by simp at O) L m c news (by rw[B];exact D) n (by omega) (by omega) (growslice_fits (by omega) (by rw[C,mc];exact f));rw[k] at d;cases d;exact((fd _ _).drew).alloc (am _) _
variable {α:Type} {F:Flat α}
def nO (n:Below w.heap.size w x)     (g:o.guard=none) (s y:Operand) (t:TypeId)
  (D:o.op=.call ⟨.builtin .append,#[s,y],#[t,t]⟩)
  (B:iu P t e F.sz Z) {xs:List α} {base : Nat} (p:base<=w.heap.size) (I:a.eval s=v) (E:a.eval y=.slice A xs.length c) (m:eG base e v x)
  (l:0<xs.length->∃a,A=some a/\∀(j:Nat) (u:Value),(dA F xs)[j]?=some u->∀d,Below w.heap.size w d->d.cell? (a.add j)=some u) (J:xs.length<=1099511627776)
  (h:∀f i,Below x.heap.size x i->aJ F e i base f xs->wpList P X O rest (a.put o.dst f) i):wpList P X O (o::rest) a x:=by
 obtain⟨f,d,G,b,k⟩:=ajw (P:=P) (ty:=o.type) B m (c:=c) (dU F xs) (λC=>by
  obtain⟨z,r,L⟩:=l C;exact⟨z,r,λj u H=>L j u H _ n⟩) (aax F xs) J (ap p n.size)
 refine wpList_plain g λK q=> ?_;unfold Oper.wp execOp;simp only[D,resolve,invoke,builtin,tQ,uk,uz,List.map_toArray,ru,List.map_nil,I,E,G];exact q _ _ (h f d k b)
def ajx {x:fB w}    (g:o.guard=none) (s y:Operand) (t:TypeId)
  (i:o.op=.call ⟨.builtin .append,#[s,y],#[t,t]⟩)
  (n:iu P t e F.sz Z) {xs:List α} {base : Nat} (q:base<=w.heap.size) (r:a.eval s=v) (p:a.eval y=.slice A xs.length c) (l:eG base e v x.to)
  (k:0<xs.length->∃a,A=some a/\∀(j:Nat) (u:Value),(dA F xs)[j]?=some u->∀m,Below w.heap.size w m->m.cell? (a.add j)=some u) (z:xs.length<=1099511627776)
  (h:∀d (f:fB w),fB.le x f->aJ F e f.to base d xs->O .normal (a.put o.dst d) f.to):wpList P X O [o] a x.to:=
 nO x.ok g s y t i n q r p l k z λd f b i=>h d (x.mk' b) b i
def cx      (j:o.guard=none) (s x:Operand) (t:TypeId)
  (n:o.op=.call ⟨.builtin .append,#[s,x],#[t,t]⟩)
  (m:iu P t e F.sz Z) {base:Nat} {xs:List α} (y:α) (p:a.eval s=v) (f:aJ F e w base v xs) {es:Array Value} (q:a.eval x=.slice (some ⟨w.heap.size,0,none⟩) 1 1) (d:es.toList=F.cells y)
  (r:xs.length<=1099511627775) (c:base<=w.heap.size)
  (h:∀i g,aJ F e g base i (xs++[y])->bj (λb=>v.ownBlock=some b) w g->(∀b,i.ownBlock=some b->v.ownBlock=some b\/w.heap.size<=b)->wpList P X Q rest (a.put o.dst i) g) :
  wpList P X Q (o::rest) a (w.alloc (.cells es T)):=
 anP j s x t n m p f q (by rw[<-qS,d,F.len]) (by rw[d];exact F.one y) r c λi g k=>h i g (by
  have l:=k.own;unfold aJ;rw[lz,ae0,aE];rw[d] at l;exact l) k.fE k.at_
def agD      (k:o.guard=none) (s x:Operand) (t:TypeId)
  (r:o.op=.call ⟨.builtin .append,#[s,x],#[t,t]⟩)
  (q:iu P t e F.sz Z) {base:Nat} {xs:List α} (y:α) (B:a.eval s=v) (d:aJ F e w base v xs) {es:Array Value} (C:a.eval x=.slice (some ⟨g,0,none⟩) 1 1) (p:bg w g T es) (m:es.toList=F.cells y)
  (D:xs.length<=1099511627775) (c:base<=w.heap.size)
  (h:∀i f,aJ F e f base i (xs++[y])->bj (λb=>v.ownBlock=some b) w f->(∀b,i.ownBlock=some b->v.ownBlock=some b\/w.heap.size<=b)->wpList P X Q rest (a.put o.dst i) f) :
  wpList P X Q (o::rest) a w:=
 ack k s x t r q B d C (news:=F.cells y) (by rw[F.len,Nat.one_mul]) (λ_=>⟨_,rfl,λj u z=>by
  have n:(⟨g,0,none⟩:Addr).add j=⟨g,j,none⟩:=by unfold Addr.add;split<;>simp_all
  rw[n,p.cell,<-fa,m];exact z⟩) (F.one y) (by omega) c λi f l=>h i f (by
  have A:=l.own;unfold aJ;rw[lz,ae0,aE];exact A) l.fE l.at_
end
end
section
variable {β:Bool}
open Go.RowKit
def ahR{α:Type}(F:Flat α)(te:TypeId)(w:World)(xs:List α)(e:Ending)(w':World):Prop:=∃v,e=.returned v/\aJ F te w' w.heap.size v xs/\Below w.heap.size w w'
def apo (t e:TypeId) (z:Value) (f a:Nat) (j:P.underlying t=some (.slice e)) (d:(P.info? e).map (λi=>(i.zero,i.size,i.bytes))=some (some z,f,a))
  (n:Nat) (b:a*n<=281474976710656) (o:n<=9223372036854775807) (w:World) :
  (Instr.makeSlice t (.int .i64 (n:Int)) (.int .i64 (n:Int))).run P w=.ok (.slice (some ⟨w.heap.size,0,none⟩) n n) (w.alloc (.cells (madeCells z.cells (n*f)) e)):=by
 obtain⟨i,m,p,l,k⟩:=info_parts d;have c:(i.bytes:Int)*(n:Int)<=281474976710656:=by
  have h:((i.bytes*n:Nat):Int)<=281474976710656:=by rw[k];omega
  rwa [Int.natCast_mul] at h
 have g:=run_make (P:=P) w t e i z j m p .i64 .i64 n n (by omega) (vC _) c (by omega);simp only[tf,l] at g;exact g
end
section
variable {β:Bool}
open Go.RowKit
open Classical in
noncomputable def ik(key:Int)(x:Int×ByteArray):ByteArray×Bool:=if(fN x.2).2=true/\bN key (bs (fN x.2).1)=x.1 then((fN x.2).1,true) else(⟨#[]⟩,false)
def agE{s:ByteArray}(h:(fN s).2=true):bA (bs (fN s).1):=by
 unfold fN at h ⊢;split
 .rename_i a;exact a.1
 .rename_i a;rw[be a] at h;cases h
def au7(key:Int)(x:Int×ByteArray)(y:1<=key/\key<=99)(f:x.2.size<=maxLen)(w:World) :
  Calls (ah β) 151 #[.agg #[.int .i64 x.1,.string x.2],.int .i64 key] w λe q=>e=.returned (.tuple #[.string (ik key x).1,.bool (ik key x).2])/\Below w.heap.size w q:=by
 obtain⟨n,s⟩:=x;dsimp only at f ⊢;replace f:=ab f;go_enter yU,ntmps151;go_wp2;generalize t:w.alloc (.cells #[.int .i64 n,.string s] 63)=w0 at *;obtain⟨v,z,g,m,u⟩:=mB t;refine(apf s f.out w0).mono ?_;rintro e l ⟨rfl,d⟩;replace g:=ak g d;replace m:=g.cell;replace u:=g.frozen;replace d:=ag v d;cases b:fN s with
 |mk p o=>
  cases o with
  |false=>
   have j:ik key (n,s)=(⟨#[]⟩,false):=by
    unfold ik;rw[be];intro h;have:=h.1;rw[show(fN (n,s).2).2=false by rw[show fN (n,s).2=_ from b]] at this;cases this
   have HC:=ab j;replace b:=ab b;go_wp2;go_ret2;rw[HC.out];exact⟨rfl,d⟩
  |true=>
   have i:bA (bs p):=by
    have:=agE (s:=s) (by rw[b]);rw[b] at this;exact this
   have j:ik key (n,s)=if bN key (bs p)=n then(p,true) else(⟨#[]⟩,false):=by
    unfold ik;rw[show fN (n,s).2=(p,true) from b];by_cases h:bN key (bs p)=n
    .rw[du ⟨rfl,h⟩,du h]
    .rw[be λr=>h r.2,be h]
   have HC:=ab j;replace b:=ab b;replace i:=ab i;go_wp2;refine(arA key p n y i.out l).mono ?_;rintro e A ⟨rfl,rfl⟩;by_cases h:bN key (bs p)=n
   .have a:=HC.out;rw[du h] at a;have c:=ab a;have k:decide (bN key (bs p)=n)=true:=dk h;rw[k];go_wp2;go_ret2;rw[c.out];exact⟨rfl,d⟩
   .have a:=HC.out;rw[be h] at a;have c:=ab a;have k:decide (bN key (bs p)=n)=false:=da h;rw[k];go_wp2;go_ret2;rw[c.out];exact⟨rfl,d⟩
end
section
variable {β:Bool}
open Go.RowKit
def aq8(xs:List Int)(n:Int)(A:Option Addr)(m c:Nat)(w:World)(q hi:Nat)(h:bD nj 1 w q hi xs [.slice A m c]) :
  Calls (ah β) 9 #[.slice A m c,.int .i64 n] w λe o=>e=.returned (.bool (decide (n∈xs)))/\w=o:=by
 obtain⟨rfl,s,p⟩:=h.len_;unfold maxLen at p;go_enter qF9,ntmps9;go_wp2
 go_loop [5] (λi=>∃k:Nat,k<=xs.length/\i=.int .i64 k/\n∉xs.take k) (λi=>xs.length-(intOf i).toNat)
 case atStart=>exact⟨0,eg _,rfl,by simp⟩
 case round=>
  obtain⟨k,r,rfl,d⟩:=hrel;replace d:=ab d;by_cases f:k<xs.length
  .obtain⟨x,a⟩:=aq f;obtain⟨b,l,rfl,_,_,_,g⟩:=h.ints_at a;replace a:=ab a;by_cases j:x=n
   .subst j;go_wp2;go_ret;exact⟨aD (by simp[db a.out]),rfl⟩
   .go_wp2
    go_round
    case rel=>exact⟨k+1,by omega,by go_num,by rw[kw a.out];simp[d.out,sB j]⟩
    simp[intOf];omega
  .obtain rfl:k=xs.length:=by omega
   go_wp2;go_ret;exact⟨aD (by have:=d.out;rw[gc] at this;simp[this]),rfl⟩
def acr(F:FuncId):Prop:=∀(args:Array Value) (w:World),(callFunc F args).run (ah β) w=.ok (.enter F args) w
def ae2{fn:Func}{c:Code}(b:(ah β).funcs[f]?=some fn)(a:(fn.name == "runtime.NumGoroutine")=false)(e:fn.body=some c):acr (β:=β) f:=by
 intro args w;have d:fn.name ≠ "runtime.NumGoroutine" :=by simpa using a
 simp[callFunc,b,d,e]
def alO(xs d:List Int)(s t:Value)(w:World)(F hi fI hi':Nat)(p:bD nj 1 w F hi xs [s])(r:bD nj 1 w fI hi' d [t]) :
  Calls (ah β) 50 #[s,t] w λe v=>e=.returned (.bool (decide (xs=d)))/\∃n,v=w.drewN n:=by
 obtain⟨A,c,rfl⟩:=p.form;obtain⟨L,J,rfl⟩:=r.form;obtain⟨_,I,D⟩:=p.len_;unfold maxLen at D;by_cases a:xs.length=d.length
 .have B:((xs.length:Int) !=d.length)=false:=by rw[qJ];omega
  replace a:=ab a;go_enter ya,ntmps50;go_wp2;go_loopw [5] (λi wr=>∃k:Nat,k<=xs.length/\i=.int .i64 k/\xs.take k=d.take k/\∃n,wr=w.drewN n) (λi _=>xs.length-(intOf i).toNat)
  case atStart=>exact⟨0,eg _,rfl,rfl,0,rfl⟩
  case round=>
   obtain⟨k,G,rfl,m,n,rfl⟩:=hrel;replace m:=ab m;by_cases o:k<xs.length
   .obtain⟨x,j⟩:=aq o;obtain⟨y,g⟩:=aq (l:=d) (k:=k) (by have:=a.out;omega);obtain⟨b,C,rfl,_,_,_,q⟩:=p.ints_at j;obtain⟨K,H,rfl,_,_,_,E⟩:=r.ints_at g;have z:(k:Int)<(d.length:Int):=by have:=a.out;omega
    replace j:=ab j;replace g:=ab g;by_cases f:x=y
    .have u:(x !=y)=false:=by rw[qJ];exact f
     replace f:=ab f;go_wp2
     go_quiet (fail)
     go_wp2;go_roundw
     case rel=>exact⟨k+1,by omega,by go_num,by rw[kw j.out,kw g.out,m.out,f.out],_,rfl⟩
     simp[intOf];omega
    .have u:(x !=y)=true:=by rw[rS];exact f
     replace f:=ab f;go_wp2
     go_quiet (fail)
     go_wp2;go_ret;exact⟨aD (by symm;rw[tu];rintro rfl;exact f.out (dq (j.out.symm.trans g.out))),by first|exact⟨_,rfl⟩|exact⟨_,World.drewN_drewN _ _ _⟩⟩
   .obtain rfl:k=xs.length:=by omega
    go_wp2;go_ret;exact⟨aD (by symm;rw[decide_eq_true_iff];have:=m.out;rw[gc,pu (by have:=a.out;omega)] at this;exact this),n,rfl⟩
 .have B:((xs.length:Int) !=d.length)=true:=by rw[rS];omega
  replace a:=ab a;go_enter ya,ntmps50;go_wp2;go_ret;exact⟨aD (by symm;simp;intro e;exact a.out (by rw[e])),0,rfl⟩
end
section
def opJ(J:Nat->Bool):Operand->Bool
 |.tmp t=>!J t
 |_=>true
def ku:Op->Bool
 |.move _|.assign _|.load .. | .binOp .. | .unOp .. | .alloc _|.store .. | .fieldAddr .. | .indexAddr .. | .buildSlice .. =>true
 |.call c=>match c.callee with
  |.builtin .len|.builtin .append=>true
  |_=>false
 |_=>false
def anW(J:Nat->Bool)(o:Oper):Bool:=o.guard.isNone&&(ku o.op&&o.op.operands.toList.all (opJ J))
def kX(J:Nat->Bool):Code->Bool
 |.skip|.ret|.exit _=>true
 |.region _ d draw=>!draw&&d.toList.all (anW J)
 |.seq a b=>kX J a&&kX J b
 |.cond c a b=>opJ J c&&(kX J a&&kX J b)
 |.block _ a|.loop a=>kX J a
 |_=>false
def mL(J:Nat->Bool):Item->Bool
 |.code c|.inLoop c=>kX J c
 |.inBlock _=>true
 |.inRegion a _=>a.toList.all (anW J)
 |_=>false
structure JR (J:Nat->Bool) (fr cG:Frame):Prop where
 fn:cG.fn=fr.fn
 todo:cG.todo=fr.todo
 defers:fr.defers=[]/\cG.defers=[]
 mode:cG.mode=fr.mode
 kind:fr.kind=.normal/\cG.kind=.normal
 round:fr.roundOf=none/\cG.roundOf=none
 size:cG.tmps.size=fr.tmps.size
 agree:∀i,J i=false->cG.tmps[i]?=fr.tmps[i]?
 items:fr.todo.all (mL J)=true
section
variable {P:Program} {J:Nat->Bool} {fr cG:Frame}
def JR.eval(h:JR J fr cG){x:Operand}(a:opJ J x=true):cG.eval x=fr.eval x:=by
 cases x with
 |tmp t=>
  have:=h.agree t (by simpa[opJ] using a);show cG.tmps.getD t undef=fr.tmps.getD t undef;rw[iS,iS,this]
 |_=>rfl
def alP{e e':Operand->Value}(j:ku o.op=true)(h:∀x∈o.op.operands.toList,e x=e' x):execOp e o=execOp e' o:=by
 obtain⟨dst,op,m,q,after,l⟩:=o;dsimp only at j h;have parts:∀(g:Array (Nat×Operand)),(∀x∈(g.toList.map (·.2)),e x=e' x)->(g.map λ(i,x)=>(i,e x))=g.map λ(i,x)=>(i,e' x):=λg p=>by
  apply wS;rintro⟨i,x⟩ k;have:=p x (pe.2 ⟨(i,x),by simpa using k,rfl⟩);simp only[this]
 cases op with
 |move x=>simp only[execOp];rw[h x (by simp[Op.operands])]
 |assign x=>simp only[execOp];rw[h x (by simp[Op.operands])]
 |load t a=>simp only[execOp];rw[h a (by simp[Op.operands])]
 |unOp op t x=>simp only[execOp];rw[h x (by simp[Op.operands])]
 |alloc t=>rfl
 |fieldAddr t x f=>simp only[execOp];rw[h x (by simp[Op.operands])]
 |store t a x=>simp only[execOp];rw[h a (by simp[Op.operands]),h x (by simp[Op.operands])]
 |binOp op t x y u=>simp only[execOp];rw[h x (by simp[Op.operands]),h y (by simp[Op.operands])]
 |indexAddr t x i=>simp only[execOp];rw[h x (by simp[Op.operands]),h i (by simp[Op.operands])]
 |buildSlice t n g=>simp only[execOp];rw[parts g (by simpa[Op.operands] using h)]
 |call c=>
  obtain⟨d,args,s⟩:=c;cases d with
  |builtin b=>
   have r:args.map e=args.map e':=wS λx k=>h x (by simp[Op.operands,Call.operands];exact k);simp only[execOp,resolve,r]
  |_=>simp[ku] at j
 |_=>simp[ku] at j
def gI{s:Sem Value}(h:(s.bind λa=>Sem.pure (Next.value a)).run P w=.ok N S):∃v,N=.value v:=by
 have e:=qY P s (λa=>Sem.pure (Next.value a)) w;rw[e] at h;cases b:s.run P w with
 |ok a c=>rw[b] at h;simp only[Result.andThen,Sem.run,sS] at h;exact⟨a,h.1.symm⟩
 |halt q c=>rw[b] at h;simp only[Result.andThen] at h;cases h
def apq{s:Sem Unit}(h:(s.bind λ_=>Sem.pure Next.skip).run P w=.ok N S):N=.skip:=by
 have e:=qY P s (λ_=>Sem.pure Next.skip) w;rw[e] at h;cases b:s.run P w with
 |ok a c=>rw[b] at h;simp only[Result.andThen,Sem.run,sS] at h;exact h.1.symm
 |halt q c=>rw[b] at h;simp only[Result.andThen] at h;cases h
def ajy{e:Operand->Value}(g:ku o.op=true)(h:(execOp e o).run P w=.ok N S):(∃v,N=.value v)\/N=.skip:=by
 obtain⟨dst,op,k,l,after,j⟩:=o;dsimp only at g;cases op with
 |move x=>simp only[execOp] at h;cases h;exact .inl ⟨_,rfl⟩
 |assign x=>simp only[execOp] at h;cases h;exact .inl ⟨_,rfl⟩
 |load t a=>exact .inl (gI h)
 |unOp op t x=>exact .inl (gI h)
 |alloc t=>exact .inl (gI h)
 |fieldAddr t x f=>exact .inl (gI h)
 |store t a x=>exact .inr (apq h)
 |binOp op t x y q=>exact .inl (gI h)
 |indexAddr t x i=>exact .inl (gI h)
 |buildSlice t n m=>exact .inl (gI h)
 |call c=>
  obtain⟨d,args,p⟩:=c;cases d with
  |builtin b=>cases b<;>first|exact .inl (gI h)|simp[ku] at g
  |_=>simp[ku] at g
 |_=>simp[ku] at g
def JR.set(h:JR J fr cG)(d:Nat)(v:Value):(cG.tmps.setIfInBounds d v).size=(fr.tmps.setIfInBounds d v).size/\∀i,J i=false->(cG.tmps.setIfInBounds d v)[i]?=(fr.tmps.setIfInBounds d v)[i]?:=by
 refine⟨by simpa using h.size,λi a=> ?_⟩;rw[oR,oR,h.size];split
 .rfl
 .exact h.agree i a
def abt:∀{k l:List Item} {id:Nat},exitTo id k=some l->k.all (mL J)=true->l.all (mL J)=true
 |[],_,_,h,_=>by cases h
 |x::k,l,id,h,hk=>by
  simp only[qF,ff] at hk;unfold exitTo at h;split at h
  .rename_i a b e;cases e;split at h
   .cases h;exact hk.2
   .exact abt h hk.2
  .rename_i e;cases e;exact abt h hk.2
  .rename_i e;cases e
def alQ{fr:Frame}{cs:List Frame}(h:early P fr cs none g w=.go L S es) :
  L.frame.kind=.early\/(L=⟨fr,cs,.running,none,none⟩/\∀(cG:Frame) (a:List Frame),cG.kind=fr.kind->early P cG a none g w=.go ⟨cG,a,.running,none,none⟩ S es):=by
 have d:∀{w S:World} {L:Goroutine} {es:Array Event},(match w.heap[g]? with
   |some (.pending c b)=>GStep.go ⟨fr,cs,.running,none,none⟩ {w with heap:=w.heap.setIfInBounds g (.cells c b)}
   |_=>.ended (.stuck "early: the variable does not wait" (fr.pos P)) w)=.go L S es->L=⟨fr,cs,.running,none,none⟩/\∀(cG:Frame) (a:List Frame),(match w.heap[g]? with
   |some (.pending c b)=>GStep.go ⟨cG,a,.running,none,none⟩ {w with heap:=w.heap.setIfInBounds g (.cells c b)}
   |_=>.ended (.stuck "early: the variable does not wait" (cG.pos P)) w)=.go ⟨cG,a,.running,none,none⟩ S es:=λ{w S L es} h=>by
  split at h
  .rename_i c b e;injection h with k j o
   subst k j o;exact⟨rfl,λcG a=>rfl⟩
  .cases h
 unfold early at h ⊢;dsimp only at h ⊢;by_cases k:(!P.follows .staticDataAhead)=true
 .simp only[k,qe] at h ⊢;exact .inr ⟨(d h).1,λcG a _=>(d h).2 cG a⟩
 .simp only[k,qM,li] at h ⊢;cases j:P.stepOf g with
  |none=>simp only[j] at h;cases h
  |some f=>
   simp only[j] at h ⊢;by_cases o:((P.code? f).any P.atRunTime)=true
   .simp only[o,qe] at h ⊢;exact .inr ⟨(d h).1,λcG a _=>(d h).2 cG a⟩
   .simp only[o,qM,li] at h ⊢;by_cases s:(((P.code? f).bind λc=>(readies c).getLast?).bind w.shape?).isSome=true
    .simp only[s,qe] at h ⊢;exact .inr ⟨(d h).1,λcG a _=>(d h).2 cG a⟩
    .simp only[s,qM,li] at h ⊢;have r:∀cG:Frame,cG.kind=fr.kind->(cG.kind ==CallKind.early)=(fr.kind ==CallKind.early):=λcG e=>by rw[e]
     cases u:P.found w P.funcs.size f<;>cases p:(fr.kind ==CallKind.early)<;>simp only[u,p] at h
     .cases h
     .cases h
     .exact .inr ⟨(d h).1,λcG a e=>by rw[r cG e,p];exact(d h).2 cG a⟩
     .cases h
     .by_cases l:((P.code? f).any P.plainData)=true
      .simp only[l,qe] at h;injection h with i;subst i;exact .inl rfl
      .simp only[l,qM,li] at h;by_cases m:(!(P.code? f).any P.bareCopy)=true
       .simp only[m,qe] at h;exact .inr ⟨(d h).1,λcG a e=>by rw[r cG e,p];simp only[l,m,qM,qe,li];exact(d h).2 cG a⟩
       .simp only[m,qM,li] at h;cases t:(choose (.early g)).run P w with
        |ok n v=>
         rw[t] at h;cases n with
         |zero=>exact .inr ⟨(d h).1,λcG a e=>by rw[r cG e,p];simp only[l,m,qM,li];exact(d h).2 cG a⟩
         |succ n=>injection h with i;subst i;exact .inl rfl
        |halt q v=>rw[t] at h;cases h
     .injection h with i;subst i;exact .inl rfl
theorem arM (h:JR J fr cG) (hm:fr.mode=.run) {cs X:List Frame} {main:Bool} {w w1:World} {es:Array Event} {B:Frame}
  (D:stepG P main ⟨fr,cs,.running,none,none⟩ w=.go ⟨B,X,.running,none,none⟩ w1 es) (K:B.mode=.run\/B.mode=.returning) (an:B.kind=.normal) :
  X=cs/\B.fn=fr.fn/\∃I,JR J B I/\∀C,stepG P main ⟨cG,C,.running,none,none⟩ w=.go ⟨I,C,.running,none,none⟩ w1 es:=by
 have h0:=h;obtain⟨fn,n,ao,ds,md,kd,ro⟩:=fr;obtain⟨p,F,fZ,ay,ax,aI,aH⟩:=cG;obtain⟨E,e2,⟨e3,e4⟩,e5,⟨e6,e7⟩,⟨e8,e9⟩,hz,ha,hi⟩:=h;dsimp only at E e2 e3 e4 e5 e6 e7 e8 e9 hz ha hi hm;subst E e2 e3 e4 e5 e6 e7 e8 e9 hm;have G:∀{k:List Item},k.all (mL J)=true->JR J ⟨p,n,k,[],.run,.normal,none⟩ ⟨p,F,k,[],.run,.normal,none⟩:=λ{k} hk=>⟨rfl,rfl,⟨rfl,rfl⟩,rfl,⟨rfl,rfl⟩,⟨rfl,rfl⟩,hz,ha,hk⟩
 have ret:JR J ⟨p,n,fZ,[],.returning,.normal,none⟩ ⟨p,F,fZ,[],.returning,.normal,none⟩:=⟨rfl,rfl,⟨rfl,rfl⟩,rfl,⟨rfl,rfl⟩,⟨rfl,rfl⟩,hz,ha,hi⟩;have fin:∀{t:Array Value} {t':Array Value} {k:List Item},t'.size=t.size->(∀i,J i=false->t'[i]?=t[i]?)->k.all (mL J)=true->JR J ⟨p,t,k,[],.run,.normal,none⟩ ⟨p,t',k,[],.run,.normal,none⟩:=λa b hk=>⟨rfl,rfl,⟨rfl,rfl⟩,rfl,⟨rfl,rfl⟩,⟨rfl,rfl⟩,a,b,hk⟩;have still:∀{x x':Frame},stepG P main ⟨⟨p,n,fZ,[],.run,.normal,none⟩,cs,.running,none,none⟩ w=.go ⟨x,cs,.running,none,none⟩ w->
   (∀C,stepG P main ⟨⟨p,F,fZ,[],.run,.normal,none⟩,C,.running,none,none⟩ w=.go ⟨x',C,.running,none,none⟩ w)->JR J x x'->(T:x.fn=p:=by rfl)->
   X=cs/\B.fn=p/\∃I,JR J B I/\∀C,stepG P main ⟨⟨p,F,fZ,[],.run,.normal,none⟩,C,.running,none,none⟩ w=.go ⟨I,C,.running,none,none⟩ w1 es:=λ{x x'} a b c T=>by
  rw[a] at D;injection D with W U g3
  injection W with Q Z
  subst U g3 Q Z;exact⟨rfl,T,x',c,b⟩
 cases fZ with
 |nil=>exact still rfl (λ_=>rfl) ret
 |cons it k=>
  simp only[qF,ff] at hi;obtain⟨A,H⟩:=hi;cases it with
  |inBlock id=>exact still rfl (λ_=>rfl) (G H)
  |inLoop c=>exact still rfl (λ_=>rfl) (G (by simp only[qF,ff];exact⟨A,A,H⟩))
  |code c=>
   cases c with
   |skip=>exact still rfl (λ_=>rfl) (G H)
   |ret=>exact still rfl (λ_=>rfl) ret
   |seq a b=>
    simp only[mL,kX,ff] at A;exact still rfl (λ_=>rfl) (G (by simp only[qF,ff];exact⟨A.1,A.2,H⟩))
   |block id a=>exact still rfl (λ_=>rfl) (G (by simp only[qF,ff];exact⟨A,rfl,H⟩))
   |loop a=>exact still rfl (λ_=>rfl) (G (by simp only[qF,ff];exact⟨A,A,H⟩))
   |region id j draw=>
    simp only[mL,kX,ff,uD] at A;obtain⟨rfl,Y⟩:=A;exact still rfl (λ_=>rfl) (G (by simp only[qF,ff];exact⟨Y,H⟩))
   |exit id=>
    cases s:exitTo id k with
    |none=>exact absurd D (by
      have:stepG P main ⟨⟨p,n,.code (.exit id)::k,[],.run,.normal,none⟩,cs,.running,none,none⟩ w=.ended (.stuck "exit, goto: no such block or label" (Frame.pos P ⟨p,n,.code (.exit id)::k,[],.run,.normal,none⟩)) w:=by
       simp[stepG,stepG.exec,s]
      rw[this];intro e;cases e)
    |some l=>
     have E:∀(t:Array Value) (c:List Frame),stepG P main ⟨⟨p,t,.code (.exit id)::k,[],.run,.normal,none⟩,c,.running,none,none⟩ w=.go ⟨⟨p,t,l,[],.run,.normal,none⟩,c,.running,none,none⟩ w:=λt c=>by
      simp[stepG,stepG.exec,s]
     exact still (E _ _) (λ_=>E _ _) (G (abt s H))
   |cond c a b=>
    simp only[mL,kX,ff] at A;have T:=h0.eval A.1;cases hv:Frame.eval ⟨p,n,.code (.cond c a b)::k,[],.run,.normal,none⟩ c with
    |bool q=>
     rw[hv] at T;have E:∀(t:Array Value) (cc:List Frame),Frame.eval ⟨p,t,.code (.cond c a b)::k,[],.run,.normal,none⟩ c=.bool q->stepG P main ⟨⟨p,t,.code (.cond c a b)::k,[],.run,.normal,none⟩,cc,.running,none,none⟩ w=.go ⟨⟨p,t,.code (if q then a else b)::k,[],.run,.normal,none⟩,cc,.running,none,none⟩ w:=λt cc ht=>by
      simp[stepG,stepG.exec,ht]
     exact still (E _ _ hv) (λ_=>E _ _ T) (G (by simp only[qF,ff];cases q<;>first|exact⟨A.2.1,H⟩|exact⟨A.2.2,H⟩))
    |_=>
     exfalso;have:∃o,stepG P main ⟨⟨p,n,.code (.cond c a b)::k,[],.run,.normal,none⟩,cs,.running,none,none⟩ w=.ended o w:=by
      simp[stepG,stepG.exec,hv]
     obtain⟨o,e⟩:=this;rw[e] at D;cases D
   |_=>cases A
  |inRegion j il=>
   cases il with
   |nil=>exact still rfl (λ_=>rfl) (G H)
   |cons i f=>
    have S:∀l,(Item.inRegion j l::k).all (mL J)=true:=λl=>by simp only[qF,ff];exact⟨A,H⟩
    cases ho:j[i]? with
    |none=>
     have E:∀(t:Array Value) (c:List Frame),stepG P main ⟨⟨p,t,.inRegion j (i::f)::k,[],.run,.normal,none⟩,c,.running,none,none⟩ w=.go ⟨⟨p,t,.inRegion j f::k,[],.run,.normal,none⟩,c,.running,none,none⟩ w:=λt c=>by
      simp[stepG,stepG.exec,ho,Frame.finish]
     exact still (E _ _) (λ_=>E _ _) (G (S _))
    |some o=>
     have a0:anW J o=true:=lE.1 A o (sx.2 (qI ho));simp only[anW,ff] at a0;obtain⟨hg,a4,Y⟩:=a0;have mQ:o.guard=none:=by simpa using hg
     have hw:∀y,Region.wanted o y=true:=λy=>by unfold Region.wanted;rw[mQ]
     have a9:execOp (Frame.eval ⟨p,F,.inRegion j (i::f)::k,[],.run,.normal,none⟩) o=execOp (Frame.eval ⟨p,n,.inRegion j (i::f)::k,[],.run,.normal,none⟩) o:=
      alP a4 λx s=>h0.eval (lE.1 Y x s)
     have E:∀(t:Array Value) (c:List Frame),stepG P main ⟨⟨p,t,.inRegion j (i::f)::k,[],.run,.normal,none⟩,c,.running,none,none⟩ w =
       stepG.apply P true ⟨p,t,.inRegion j (i::f)::k,[],.run,.normal,none⟩ c none (execOp (Frame.eval ⟨p,t,.inRegion j (i::f)::k,[],.run,.normal,none⟩) o) w:=λt c=>by
      simp[stepG,stepG.exec,stepG.oper,Frame.oper?,ho,hw]
     rw[E] at D;cases hr:(execOp (Frame.eval ⟨p,n,.inRegion j (i::f)::k,[],.run,.normal,none⟩) o).runT P w #[] with
     |mk r a2=>
      have a3:(execOp (Frame.eval ⟨p,n,.inRegion j (i::f)::k,[],.run,.normal,none⟩) o).run P w=r:=by rw[<-rA _ _ _ #[],hr]
      have a5:∀(v:Value),(Frame.finish ⟨p,n,.inRegion j (i::f)::k,[],.run,.normal,none⟩ v).fn=p:=λv=>by
       simp only[Frame.finish,ho,qN]
      have a7:∀(v:Value),JR J (Frame.finish ⟨p,n,.inRegion j (i::f)::k,[],.run,.normal,none⟩ v) (Frame.finish ⟨p,F,.inRegion j (i::f)::k,[],.run,.normal,none⟩ v):=λv=>by
       simp only[Frame.finish,ho,qN];cases o.dst with
       |none=>exact G (S _)
       |some d=>exact fin (h0.set d v).1 (h0.set d v).2 (S _)
      have e2:∀c,stepG.apply P true ⟨p,F,.inRegion j (i::f)::k,[],.run,.normal,none⟩ c none (execOp (Frame.eval ⟨p,F,.inRegion j (i::f)::k,[],.run,.normal,none⟩) o) w =
        stepG.apply P true ⟨p,F,.inRegion j (i::f)::k,[],.run,.normal,none⟩ c none (execOp (Frame.eval ⟨p,n,.inRegion j (i::f)::k,[],.run,.normal,none⟩) o) w:=λc=>by rw[a9]
      cases r with
      |ok nx w2=>
       have a6:(CallKind.normal ==CallKind.early)=false:=rfl;rcases ajy a4 a3 with⟨v,rfl⟩|rfl
       .have a1:∀(t:Array Value) (c:List Frame),stepG.apply P true ⟨p,t,.inRegion j (i::f)::k,[],.run,.normal,none⟩ c none (execOp (Frame.eval ⟨p,n,.inRegion j (i::f)::k,[],.run,.normal,none⟩) o) w=.go ⟨Frame.finish ⟨p,t,.inRegion j (i::f)::k,[],.run,.normal,none⟩ v,c,.running,none,none⟩ w2 (seen P p a2):=λt c=>by
         unfold stepG.apply;simp only[hr,qe];simp[GStep.after,a6]
        rw[a1] at D;injection D with W U g3
        injection W with Q Z
        subst U g3 Q Z;exact⟨rfl,a5 v,_,a7 v,λc=>by rw[E,e2,a1]⟩
       .have a1:∀(t:Array Value) (c:List Frame),stepG.apply P true ⟨p,t,.inRegion j (i::f)::k,[],.run,.normal,none⟩ c none (execOp (Frame.eval ⟨p,n,.inRegion j (i::f)::k,[],.run,.normal,none⟩) o) w=.go ⟨Frame.finish ⟨p,t,.inRegion j (i::f)::k,[],.run,.normal,none⟩ undef,c,.running,none,none⟩ w2 (seen P p a2):=λt c=>by
         unfold stepG.apply;simp only[hr,qe];simp[GStep.after,a6]
        rw[a1] at D;injection D with W U g3
        injection W with Q Z
        subst U g3 Q Z;exact⟨rfl,a5 undef,_,a7 undef,λc=>by rw[E,e2,a1]⟩
      |halt q w2=>
       have hq:∀(t:Array Value) (c:List Frame),∃u,(q=.unsupported (.initOrder u)/\stepG.apply P true ⟨p,t,.inRegion j (i::f)::k,[],.run,.normal,none⟩ c none (execOp (Frame.eval ⟨p,n,.inRegion j (i::f)::k,[],.run,.normal,none⟩) o) w=GStep.after (seen P p #[]) (early P ⟨p,t,.inRegion j (i::f)::k,[],.run,.normal,none⟩ c none u w2))\/
         (∀(R:Goroutine) ww ee,stepG.apply P true ⟨p,t,.inRegion j (i::f)::k,[],.run,.normal,none⟩ c none (execOp (Frame.eval ⟨p,n,.inRegion j (i::f)::k,[],.run,.normal,none⟩) o) w=.go R ww ee->R.status=.running->R.dying=none->R.frame.mode ≠ .run/\R.frame.mode ≠ .returning):=λt c=>by
        have M:(CallKind.normal ==CallKind.early)=false:=rfl;by_cases a8:∃u,q=.unsupported (.initOrder u)
        .obtain⟨u,rfl⟩:=a8;refine⟨u,.inl ⟨rfl, ?_⟩⟩;unfold stepG.apply;simp only[hr,qe];simp[M]
        .refine⟨0,.inr λR ww ee s h1 h2=> ?_⟩;unfold stepG.apply at s;simp only[hr,qe] at s;cases q with
         |unsupported u=>
          cases u with
          |initOrder g=>exact absurd ⟨g,rfl⟩ a8
          |_=>simp[GStep.after] at s
         |panic v=>simp[GStep.after] at s;obtain⟨rfl, -⟩:=s;exact⟨by simp[Frame.raise],by simp[Frame.raise]⟩
         |goexit=>simp[GStep.after] at s;obtain⟨rfl, -⟩:=s;exact⟨by simp[Frame.raise],by simp[Frame.raise]⟩
         |blocked=>simp[GStep.after] at s;obtain⟨rfl, -⟩:=s;cases h1
         |waiting=>simp[GStep.after] at s;obtain⟨rfl, -⟩:=s;cases h1
         |exit c=>simp[GStep.after] at s
         |stuck c=>simp[GStep.after] at s
         |throw m=>simp[GStep.after,endThrow,dieOf] at s;obtain⟨rfl, -⟩:=s;cases h2
         |fatal m=>
          exfalso;dsimp only at s;unfold endFatal at s;dsimp only at s;generalize Sem.run P _ w2=z at s;cases z with
          |ok z1 z2=>simp[GStep.after,dieOf] at s;obtain⟨rfl, -⟩:=s;cases h2
          |halt z1 z2=>cases z1<;>simp[GStep.after] at s
       obtain⟨u,N⟩:=hq n cs;rcases N with⟨rfl,T⟩|al
       .rw[T] at D;cases O:early P ⟨p,n,.inRegion j (i::f)::k,[],.run,.normal,none⟩ cs none u w2 with
        |go R ww ee=>
         rw[O] at D;simp only[GStep.after] at D;injection D with W U g3
         subst W U g3;rcases alQ O with V|⟨af,L⟩
         .dsimp only at V;rw[an] at V;cases V
         .injection af with Q Z
          subst Q Z;refine⟨rfl,rfl,_,h0,λc=> ?_⟩;rw[E,e2];obtain⟨u',N⟩:=hq F c;rcases N with⟨hu,ad⟩|aa
          .cases hu;rw[ad,L ⟨p,F,.inRegion j (i::f)::k,[],.run,.normal,none⟩ c rfl];rfl
          .exfalso;have:=hq F c;obtain⟨u2,h2⟩:=this;have M:(CallKind.normal ==CallKind.early)=false:=rfl;have s:stepG.apply P true ⟨p,F,.inRegion j (i::f)::k,[],.run,.normal,none⟩ c none (execOp (Frame.eval ⟨p,n,.inRegion j (i::f)::k,[],.run,.normal,none⟩) o) w=GStep.after (seen P p #[]) (early P ⟨p,F,.inRegion j (i::f)::k,[],.run,.normal,none⟩ c none u w2):=by
            unfold stepG.apply;simp only[hr,qe];simp[M]
           rw[L ⟨p,F,.inRegion j (i::f)::k,[],.run,.normal,none⟩ c rfl] at s;exact(aa _ _ _ s rfl rfl).1 rfl
        |_=>rw[O] at D;cases D
       .exfalso;have:=al _ _ _ D rfl rfl;rcases K with K|K
        .exact this.1 K
        .exact this.2 K
  |_=>cases A
def arN(h:JR J fr cG)(k:fr.mode=.returning)(b:∃fn,P.funcs[fr.fn]?=some fn/\results fn cG.tmps=results fn fr.tmps){c:Frame}{cs:List Frame}{main:Bool} :
  stepG P main ⟨cG,c::cs,.running,none,none⟩ w=stepG P main ⟨fr,c::cs,.running,none,none⟩ w:=by
 obtain⟨fn,a,s,K,I,H,G⟩:=fr;obtain⟨o,u,p,y,x,E,C⟩:=cG;obtain⟨l,i,⟨m,n⟩,d,⟨g,e⟩,⟨j,f⟩,A,F,D⟩:=h;dsimp only at l i m n d g e j f A F D k b;subst l i m n d g e j f k;show unwind P main ⟨o,u,p,[],.returning,.normal,none⟩ (c::cs) none w=unwind P main ⟨o,a,p,[],.returning,.normal,none⟩ (c::cs) none w;unfold unwind;dsimp only;obtain⟨fn,B,b⟩:=b;rw[B];dsimp only;rw[b];generalize (results fn a).runT P w #[]=z;obtain⟨r,L⟩:=z;cases r with
 |ok v t=>rfl
 |halt q t=>cases q<;>rfl
end
end
section
open Go.Conc Go.ConcN
open Go.ConcR (KK wgBlock WgAt stA smA rd wr mk Payload DC0 Bk g_of_ofEvents ofEvent_mk)
abbrev au:=Nat->Prop
def In(S:au):Loc->Prop
 |.cell a=>S a.block
 |.obj r=>S r
 |_=>False
inductive jU where
 |leaf
 |node (f:World->jU)
def jU.Lt(a b:jU):Prop:=∃f w,b=.node f/\a=f w
def jU.wf:WellFounded jU.Lt:=⟨λt=>by
 induction t with
 |leaf=>exact⟨_,by rintro _ ⟨g,w,e,rfl⟩;cases e⟩
 |node f a=>exact⟨_,by rintro _ ⟨g,w,e,rfl⟩;cases e;exact a w⟩⟩
def VLt(N:Nat)(f g:Nat->jU):Prop:=∃i,i<N/\jU.Lt (f i) (g i)/\∀k,k≠i->f k=g k
def anX:∀(N:Nat) (g:Nat->jU),Acc (VLt N) g
 |0,g=>⟨_,λf ⟨i,hi,_⟩=>absurd hi (sT i)⟩
 |N+1,g=>by
  have a:∀t:jU,∀g:Nat->jU,g N=t->Acc (VLt (N+1)) g:=by
   intro t
   induction t using jU.wf.induction with
   |_ t d=>
    intro g
    induction anX N g with
    |intro g _ b=>
     intro c;refine⟨_,λf ⟨i,hi,hlt,hk⟩=> ?_⟩;by_cases e:i=N
     .subst e;exact d (f i) (c▸hlt) f rfl
     .exact b f ⟨i,by omega,hlt,hk⟩ ((hk N (sB e)).trans c)
  exact a _ g rfl
abbrev Mu:=Nat×((Nat->jU)×Nat)
def abu(N:Nat):Mu->Mu->Prop:=Prod.Lex (· < ·) (Prod.Lex (VLt N) (· < ·))
def au8(N:Nat):WellFounded (abu N):=(Prod.lex Nat.lt_wfRel ⟨_,(Prod.lex ⟨_,⟨anX N⟩⟩ Nat.lt_wfRel).wf⟩).wf
section
variable (P:Program) (main:Bool) (Rl:au->World->World->Prop) (Gr:au->au->World->World->Array Event->Prop) (Stop:au->Goroutine->World->Prop)
def GoT:jU->au->Goroutine->World->Prop
 |.leaf,S,g,w=>∀a,Rl S w a->Stop S g a
 |.node f,S,g,w=>(∀a,Rl S w a->Stop S g a)\/(g.status=.running/\∀a,Rl S w a->∃e b d c,stepG P main g a=.go e b d/\Gr S c a b d/\GoT (f a) c e b)
def bM(S:au)(g:Goroutine)(w:World):Prop:=∃T,GoT P main Rl Gr Stop T S g w
end
section
variable {P:Program} {main:Bool} {Rl:au->World->World->Prop} {Gr:au->au->World->World->Array Event->Prop} {Stop ae3:au->Goroutine->World->Prop} {S:au} {g:Goroutine} {w w₁:World}
def GoT.cases{T:jU}(h:GoT P main Rl Gr Stop T S g w):(∀w₁,Rl S w w₁->Stop S g w₁)\/∃f,T=.node f/\g.status=.running/\∀w₁,Rl S w w₁->∃d a c b,stepG P main g w₁=.go d a c/\Gr S b w₁ a c/\GoT P main Rl Gr Stop (f w₁) b d a:=by
 cases T with
 |leaf=>exact .inl h
 |node f=>exact Or.imp id (λx=>⟨f,rfl,x⟩) h
def bM.stop(h:∀w₁,Rl S w w₁->Stop S g w₁):bM P main Rl Gr Stop S g w:=⟨.leaf,h⟩
def bM.step(l:g.status=.running)(h:∀w₁,Rl S w w₁->∃d a c b,stepG P main g w₁=.go d a c/\Gr S b w₁ a c/\bM P main Rl Gr Stop b d a):bM P main Rl Gr Stop S g w:=by
 classical
 have f:∀w₁,∃T,Rl S w w₁->∃d a c b,stepG P main g w₁=.go d a c/\Gr S b w₁ a c/\GoT P main Rl Gr Stop T b d a:=λw₁=>by
  by_cases e:Rl S w w₁
  .obtain⟨d,a,c,b,j,i,T,k⟩:=h w₁ e;exact⟨T,λ_=>⟨d,a,c,b,j,i,k⟩⟩
  .exact⟨.leaf,λx=>absurd x e⟩
 exact⟨.node λw₁=>(f w₁).choose,.inr ⟨l,λw₁ e=>(f w₁).choose_spec e⟩⟩
def GoT.rely(i:∀S a b c,Rl S a b->Rl S b c->Rl S a c){T:jU}(h:GoT P main Rl Gr Stop T S g w)(j:Rl S w w₁):GoT P main Rl Gr Stop T S g w₁:=by
 cases T with
 |leaf=>exact λe d=>h e (i _ _ _ _ j d)
 |node f=>exact Or.imp (λh e d=>h e (i _ _ _ _ j d)) (λx=>⟨x.1,λe d=>x.2 e (i _ _ _ _ j d)⟩) h
def bM.bind(d:∀S w,Rl S w w)(e:∀S a b c,Rl S a b->Rl S b c->Rl S a c)(h:bM P main Rl Gr Stop S g w)(i:∀S g w,Stop S g w->bM P main Rl Gr ae3 S g w):bM P main Rl Gr ae3 S g w:=by
 obtain⟨T,h⟩:=h
 induction T generalizing S g w with
 |leaf=>exact i _ _ _ (h w (d _ _))
 |node f q=>
  rcases h with h|⟨o,h⟩
  .exact i _ _ _ (h w (d _ _))
  .exact bM.step o λw₁ l=>let⟨s,j,m,p,r,k,n⟩:=h w₁ l;⟨s,j,m,p,r,k,q w₁ n⟩
def bM.ab2{R:World->World->Prop}{D:World->World->Array Event->Prop}{St:Goroutine->World->Prop}(d:∀w w₁,Rl S w w₁->R w w₁)(i:∀w b c,D w b c->Gr S S w b c)(e:∀g w,St g w->Stop S g w) :
  ∀{n:Nat} {g:Goroutine} {w:World},Goes P main R D St n g w->bM P main Rl Gr Stop S g w
 |0,_,_,h=>.stop λw₁ a=>e _ _ (h w₁ (d _ _ a))
 |n+1,g,w,h=>by
  rcases h with h|⟨j,h⟩
  .exact .stop λw₁ a=>e _ _ (h w₁ (d _ _ a))
  .refine .step j λw₁ a=> ?_;have:=h w₁ (d _ _ a);cases f:stepG P main g w₁ with
   |go k b c=>
    rw[f,tO] at this;exact⟨k,b,c,S,rfl,i _ _ _ this.1,bM.ab2 d i e this.2⟩
   |_=>rw[f] at this;exact this.elim
def GoT.running(b:∀S g w,Stop S g w->g.status=.running)(a:∀S w,Rl S w w){T:jU}(h:GoT P main Rl Gr Stop T S g w):g.status=.running:=by
 rcases h.cases with h|⟨_,_,h,_⟩
 .exact b _ _ _ (h w (a _ _))
 .exact h
end
section
variable [Payload] (ty:TypeId) (Wg C N:Nat)
structure kg (R cl S:au) (w w₁:World):Prop where
 keep:∀b,S b\/R b->w₁.heap[b]?=w.heap[b]?
 size:w.heap.size<=w₁.heap.size
 os:w₁.ou=w.ou
 live:WgLive ty Wg w->WgLive ty Wg w₁
 pay:PayAt C N w->PayAt C N w₁
 cell:∀i,cl i->w₁.cell? ⟨C,i,none⟩=w.cell? ⟨C,i,none⟩
structure EvP (R cl S:au) (B:Nat) (e:Event):Prop where
 touch:∀x,(MemAct.ofEvent e).touch?=some x->In S x.loc\/(∃a,x.loc=.cell a/\a.block=C/\cl a.off)\/(In R x.loc/\x.write=false)
 dis:e.loc ≠ .mark .disable
 en:e.loc ≠ .mark .enable
 rel:e.loc ≠ .mark (.release (stA Wg))
 low:(MemAct.ofEvent e).low B
structure Gua (R cl S S':au) (w w':World) (es:Array Event):Prop where
 keep:∀b,b<w.heap.size->¬S b->b≠C->w'.heap[b]?=w.heap[b]?
 size:w.heap.size<=w'.heap.size
 os:w'.ou=w.ou
 pay:PayAt C N w->PayAt C N w'
 cell:∀i,¬cl i->w'.cell? ⟨C,i,none⟩=w.cell? ⟨C,i,none⟩
 mono:∀b,S b->S' b
 new:∀b,S' b->S b\/(w.heap.size<=b/\b<w'.heap.size)
 ev:∀e∈es,EvP Wg C R cl S' w'.heap.size e
end
section
variable [Payload] {ty:TypeId} {Wg C N:Nat} {R cl S S' au9 arO ava:au} {w w₁ w₂ w':World} {es:Array Event}
def kg.refl(R cl S:au)(w:World):kg ty Wg C N R cl S w w:=⟨λ_ _=>rfl,am _,rfl,id,id,λ_ _=>rfl⟩
def kg.trans(h:kg ty Wg C N R cl S w w₁)(k:kg ty Wg C N R cl S w₁ w₂):kg ty Wg C N R cl S w w₂:=
 ⟨λb a=>(k.keep b a).trans (h.keep b a),ap h.size k.size,k.os.trans h.os,k.live∘h.live,k.pay∘h.pay,λi c=>(k.cell i c).trans (h.cell i c)⟩
def kg.at(R cl S:au)(w:World)(d:Nat):kg ty Wg C N R cl S w (w.at d):=⟨λ_ _=>rfl,am _,rfl,id,id,λ_ _=>rfl⟩
def kg.alS(h:Gua Wg C N R cl S S' w w' es)(a:∀b,ava b\/au9 b->b<w.heap.size/\¬S b/\b≠C)(g:∀i,arO i->¬cl i)(c:Wg<w.heap.size/\¬S Wg/\Wg≠C):kg ty Wg C N au9 arO ava w w':=
 ⟨λb d=>h.keep b (a b d).1 (a b d).2.1 (a b d).2.2,h.size,h.os,λ⟨j,sm,e⟩=>⟨j,sm,e.of_block (h.keep Wg c.1 c.2.1 c.2.2)⟩,h.pay,λi f=>h.cell i (g i f)⟩
def kg.of_wg(h:Aside Wg w w')(d:WgLive ty Wg w')(c:∀b,ava b\/au9 b->b≠Wg)(a:C≠Wg):kg ty Wg C N au9 arO ava w w':=
 ⟨λb g=>h.block b (c b g),pa h.size.symm,azN h.os h.output,λ_=>d,λ⟨e,j,f⟩=>⟨e,(h.block C a).trans j,f⟩,λi _=>uH (h.block C a) i⟩
def kg.rw(h:kg ty Wg C N R cl S w w')(hi:cl i):RW ty Wg C N 0 i w w':=⟨λb a=>absurd a (sT b),h.live,h.pay,h.cell i hi⟩
end
section
variable {Sh:Loc->Prop} {Own Rd ayq Rd':Nat->Loc->Prop} {t:Trace} {j:Nat}
def agF(h:CT Sh Own Rd t j)(n:∀k,1<=k->k<=j->∀l,ayq k l->Own k l\/∀i a,touchAt t i=some a->a.loc≠l)(m:∀k,1<=k->k<=j->∀l,Own k l->ayq k l)(g:∀k,1<=k->k<=j->∀l,Rd' k l↔Rd k l):CT Sh ayq Rd' t j:=
 ⟨h.quiet,λk b c l d=>(n k b c l d).elim (h.own k b c l) λo i a p e=>absurd e (o i a p),λk b c l d=>h.rd k b c l ((g k b c l).1 d),
  λl f d=>h.free l f λk b c=>⟨λx=>(d k b c).1 (m k b c l x),λx=>(d k b c).2 ((g k b c l).2 x)⟩,λl f d=>h.mine l f λk b c x=>d k b c (m k b c l x),h.nr,h.gs⟩
end
variable [Payload]
def dZ(κ:Nat):au:=λi=>i / 2=κ
def noC:au:=λ_=>False
abbrev FF:Nat->Loc->Prop:=λ_ _=>False
section
variable (P:Program) (ty:TypeId) (Wg C n K0:Nat) (val:Nat->Value) (aZ:au)
def agG(κ:Nat):au->Goroutine->World->Prop:=λ_ g w=>AtR0 P ty Wg C (2*n) 0 (2*κ+1) (val (2*κ)) g w/\Has C (2*κ+1) (val (2*κ+1)) w
abbrev GW(κ:Nat)(R:au):jU->au->Goroutine->World->Prop:=GoT P false (kg ty Wg C (2*n) R (dZ κ)) (Gua Wg C (2*n) R (dZ κ)) (agG P ty Wg C n val κ)
inductive WK (κ:Nat) (R:au):Nat->Nat->Nat->jU->au->Goroutine->World->Prop
 |work {T:jU} {S:au} {g:Goroutine} {w:World}:GW P ty Wg C n val κ R T S g w->WK κ R 7 0 0 T S g w
 |rest {s m d:Nat} {T:jU} {S:au} {g:Goroutine} {w:World}:s<=6->WSit P ty Wg C (2*n) FF FF 0 (2*κ+1) (val (2*κ)) s m d g w->WK κ R s m d T S g w
abbrev RM(R S:au):World->World->Prop:=kg ty Wg C (2*n) R noC S
def abv(e:Event):Prop:=∃a:Addr,a.block=Wg/\(e=mk (.read a)\/e=mk (.write a))
def DSd(w w':World)(es:Array Event):Prop:=w'=w/\∀e∈es,abv Wg e
section
variable (R S:au) (aT Fin:au->au->Goroutine->World->Prop)
abbrev GP(St:Goroutine->World->Prop)(m:Nat)(g:Goroutine)(w:World):Prop:=Goes P true (RM ty Wg C n R S) (DSd Wg) St m g w
def ayr(g:Goroutine)(w:World):Prop:=g.status=.running/\∃a,stepG P true g w=.go a w #[mk (.acquire (stA Wg))]/\Fin R S a w
def MKe(g:Goroutine)(w:World):Prop:=g.status=.running/\∃a,stepG P true g w=.go a w #[mk .enable]/\∃m,GP P ty Wg C n R S (ayr P Wg R S Fin) m a w
def MW4(g:Goroutine)(w:World):Prop:=g.status=.running/\(WgAt ty Wg w 0 0->∃a,stepG P true g w=.go a w #[rd (stA Wg)]/\∃m,GP P ty Wg C n R S (MKe P ty Wg C n R S Fin) m a w)
def MW3(g:Goroutine)(w:World):Prop:=g.status=.running/\g.offers=none/\
  ((∃b,WgAt ty Wg w b 0)->stepG P true g w=.go {g with status:=.blocked} w #[])/\
  (WgAt ty Wg w 0 1->∃a,stepG P true g w=.go a (w.setCell (smA Wg) (.int .u32 0)) (semEvents (smA Wg))/\∃m,GP P ty Wg C n R S (MW4 P ty Wg C n R S Fin) m a (w.setCell (smA Wg) (.int .u32 0)))
def MW2(vs:Nat)(g:Goroutine)(w:World):Prop:=g.status=.running/\∀v:Nat,v<2147483648->WgAt ty Wg w (v*KK) 0->
  (v=vs->∃a,stepG P true g w=.go a (w.setCell (stA Wg) (.int .u64 (v*KK+1))) #[rd (stA Wg),wr (stA Wg)]/\∃m,GP P ty Wg C n R S (MW3 P ty Wg C n R S Fin) m a (w.setCell (stA Wg) (.int .u64 (v*KK+1))))/\
  (v≠vs->∃a,stepG P true g w=.go a w #[rd (stA Wg)]/\∃m,GP P ty Wg C n R S (aT R S) m a w)
def MW1(g:Goroutine)(w:World):Prop:=g.status=.running/\∀v:Nat,v<2147483648->WgAt ty Wg w (v*KK) 0->∃a,stepG P true g w=.go a w #[rd (stA Wg)]/\
  (v=0->∃m,GP P ty Wg C n R S (MKe P ty Wg C n R S Fin) m a w)/\(v≠0->∃m,GP P ty Wg C n R S (MW2 P ty Wg C n R S aT Fin v) m a w)
def MKd(g:Goroutine)(w:World):Prop:=g.status=.running/\∃a,stepG P true g w=.go a w #[mk .disable]/\∃m,GP P ty Wg C n R S (aT R S) m a w
end
abbrev GM(R:au)(St:au->Goroutine->World->Prop):jU->au->Goroutine->World->Prop:=GoT P true (kg ty Wg C (2*n) R noC) (Gua Wg C (2*n) R noC) St
section
variable (j:Nat) (Next:au->Goroutine->World->Prop) (R S:au)
def MGo(S:au)(g:Goroutine)(w:World):Prop:=g.status=.running/\∃d a c,stepG P true g w=.spawn d a w #[]/\(∀b,c b->S b\/R b)/\
  (PayAt C (2*n) w->WgLive ty Wg w->∃T,GW P ty Wg C n val j c T (λ_=>False) a w)/\Next (λb=>S b\/R b) d w
def ays(g:Goroutine)(w:World):Prop:=g.status=.running/\∃a,stepG P true g w=.go a w #[mk .enable]/\∃T,GM P ty Wg C n R (MGo P ty Wg C n val j Next R) T S a w
def MA1(g:Goroutine)(w:World):Prop:=g.status=.running/\∀v:Nat,v<2147483647->WgAt ty Wg w (v*KK) 0->
  ∃a,stepG P true g w=.go a (w.setCell (stA Wg) (.int .u64 ((v+1)*KK))) #[rd (stA Wg),wr (stA Wg)]/\∃m,GP P ty Wg C n R S (ays P ty Wg C n val j Next R S) m a (w.setCell (stA Wg) (.int .u64 ((v+1)*KK)))
def aqO(g:Goroutine)(w:World):Prop:=g.status=.running/\∃a,stepG P true g w=.go a w #[mk .disable]/\∃m,GP P ty Wg C n R S (MA1 P ty Wg C n val j Next R S) m a w
end
variable (aT Fin:au->au->Goroutine->World->Prop)
def tY:Nat->au->Goroutine->World->Prop
 |0,R,g,w=>∃T,GM P ty Wg C n R (λS g w=>MKd P ty Wg C n R S aT g w) T (λ_=>False) g w
 |r+1,R,g,w=>∃T,GM P ty Wg C n R (λS g w=>aqO P ty Wg C n val (n-(r+1)) (tY r) R S g w) T (λ_=>False) g w
inductive fO:CTag->Nat->au->au->jU->Nat->Nat->Goroutine->World->Prop
 |skd {r:Nat} {R S:au} {T:jU} {g:Goroutine} {w:World}:r<n->GM P ty Wg C n R (λS g w=>aqO P ty Wg C n val (n-(r+1)) (tY P ty Wg C n val aT r) R S g w) T S g w->fO (.sp r 5) (n-(r+1)) R S T 0 0 g w
 |sa1 {r m:Nat} {R S:au} {T:jU} {g:Goroutine} {w:World}:r<n->GP P ty Wg C n R S (MA1 P ty Wg C n val (n-(r+1)) (tY P ty Wg C n val aT r) R S) m g w->fO (.sp r 4) (n-(r+1)) R S T m 1 g w
 |ske {r m:Nat} {R S:au} {T:jU} {g:Goroutine} {w:World}:r<n->GP P ty Wg C n R S (ays P ty Wg C n val (n-(r+1)) (tY P ty Wg C n val aT r) R S) m g w->fO (.sp r 3) (n-(r+1)) R S T m 1 g w
 |sgo {r:Nat} {R S:au} {T:jU} {g:Goroutine} {w:World}:r<n->GM P ty Wg C n R (MGo P ty Wg C n val (n-(r+1)) (tY P ty Wg C n val aT r) R) T S g w->fO (.sp r 2) (n-(r+1)) R S T 0 0 g w
 |kd {R S:au} {T:jU} {g:Goroutine} {w:World}:GM P ty Wg C n R (λS g w=>MKd P ty Wg C n R S aT g w) T S g w->fO .kd n R S T 0 0 g w
 |anch {m:Nat} {R S:au} {T:jU} {g:Goroutine} {w:World}:GP P ty Wg C n R S (aT R S) m g w->fO .anch n R S T m 1 g w
 |w1 {m:Nat} {R S:au} {T:jU} {g:Goroutine} {w:World}:GP P ty Wg C n R S (MW1 P ty Wg C n R S aT Fin) m g w->fO .w1 n R S T m 1 g w
 |w2 {vs m:Nat} {R S:au} {T:jU} {g:Goroutine} {w:World}:GP P ty Wg C n R S (MW2 P ty Wg C n R S aT Fin vs) m g w->fO (.w2 vs) n R S T m 1 g w
 |w3 {m:Nat} {R S:au} {T:jU} {g:Goroutine} {w:World}:GP P ty Wg C n R S (MW3 P ty Wg C n R S Fin) m g w->fO .w3 n R S T (m+1) 1 g w
 |blk {R S:au} {T:jU} {g:Goroutine} {w:World}:(∀w₁,RM ty Wg C n R S w w₁->MW3 P ty Wg C n R S Fin g w₁)->fO .blk n R S T 0 1 {g with status:=.blocked} w
 |w4 {m:Nat} {R S:au} {T:jU} {g:Goroutine} {w:World}:GP P ty Wg C n R S (MW4 P ty Wg C n R S Fin) m g w->fO .w4 n R S T m 1 g w
 |ke {m:Nat} {R S:au} {T:jU} {g:Goroutine} {w:World}:GP P ty Wg C n R S (MKe P ty Wg C n R S Fin) m g w->fO .ke n R S T m 1 g w
 |acq {m:Nat} {R S:au} {T:jU} {g:Goroutine} {w:World}:GP P ty Wg C n R S (ayr P Wg R S Fin) m g w->fO .acq n R S T m 0 g w
def Shr(Wg:Nat)(aZ:au)(l:Loc):Prop:=∃a,l=.cell a/\(a.block=Wg\/aZ a.block)
def abw(C K0:Nat)(O:Nat->au)(k:Nat)(l:Loc):Prop:=∃b,k=K0+1+b/\(In (O b) l\/∃a,l=.cell a/\a.block=C/\a.off / 2=b)
def RdL(K0:Nat)(Rk:Nat->au)(k:Nat)(l:Loc):Prop:=∃a,k=K0+1+a/\In (Rk a) l
structure Sets (w:World) (R S:au) (O Rk:Nat->au):Prop where
 rlt:∀b,R b->b<w.heap.size
 slt:∀b,S b->b<w.heap.size
 olt:∀κ b,O κ b->b<w.heap.size
 rk:∀κ b,Rk κ b->R b
 rs:∀b,R b->¬S b
 orr:∀κ b,O κ b->¬R b
 os:∀κ b,O κ b->¬S b
 oo:∀κ ib b,O κ b->O ib b->κ=ib
 wlt:Wg<w.heap.size
 clt:C<w.heap.size
 cw:C≠Wg
 wr:¬R Wg
 ws:¬S Wg
 wo:∀κ,¬O κ Wg
 cr:¬R C
 cs:¬S C
 co:∀κ,¬O κ C
 shr:∀b,aZ b->¬R b
 shs:∀b,aZ b->¬S b
 sho:∀κ b,aZ b->¬O κ b
 shc:¬aZ C
 ajz:∀b,aZ b->b<w.heap.size
end
section
variable {Wg C K0:Nat} {aZ R S:au} {w w':World} {O Rk:Nat->au}
omit [Payload] in
def In.mono{S a:au}(h:∀b,S b->a b){l:Loc}(x:In S l):In a l:=by
 cases l<;>first|exact h _ x|exact x.elim
omit [Payload] in
def In.no{S a:au}(h:∀b,S b->¬a b){l:Loc}(x:In S l):¬In a l:=by
 cases l<;>first|exact h _ x|exact x.elim
omit [Payload] in
def In.block{S:au}{l:Loc}(x:In S l){a:Addr}(e:l=.cell a):S a.block:=by subst e;exact x
omit [Payload] in
def Sets.apart(h:Sets Wg C aZ w R S O Rk):Apart (Shr Wg aZ) (abw C K0 O) (RdL K0 Rk) where
 own:=by
  rintro k m l ⟨f,rfl,d⟩ ⟨i,rfl,c⟩;have:f=i:=by
   rcases d with d|⟨a,rfl,g,o⟩<;>rcases c with c|⟨b,e,j,n⟩
   .cases l<;>first|exact h.oo _ _ _ d c|exact d.elim
   .subst e;exact absurd (j▸d) (h.co f)
   .exact absurd (g▸c) (h.co i)
   .cases e;omega
  rw[this]
 ownRd:=by
  rintro k m l ⟨f,rfl,d⟩ ⟨i,rfl,c⟩;rcases d with d|⟨a,rfl,g, -⟩
  .cases l<;>first|exact h.orr _ _ d (h.rk _ _ c)|exact d.elim
  .exact h.cr (g▸h.rk _ _ c)
 ownSh:=by
  rintro k l ⟨f,rfl,d⟩ ⟨a,rfl,c⟩;rcases d with d|⟨b,e,g, -⟩
  .rcases c with c|c
   .exact h.wo f (c▸d)
   .exact h.sho f _ c d
  .cases e;rcases c with c|c
   .exact h.cw (g.symm.trans c)
   .exact h.shc (g▸c)
 rdSh:=by
  rintro k l ⟨f,rfl,d⟩ ⟨a,rfl,c⟩;rcases c with c|c
  .exact h.wr (c▸h.rk _ _ d)
  .exact h.shr _ c (h.rk _ _ d)
omit [Payload] in
def Sets.at(h:Sets Wg C aZ w R S O Rk)(d:Nat):Sets Wg C aZ (w.at d) R S O Rk:=⟨h.rlt,h.slt,h.olt,h.rk,h.rs,h.orr,h.os,h.oo,h.wlt,h.clt,h.cw,h.wr,h.ws,h.wo,h.cr,h.cs,h.co,h.shr,h.shs,h.sho,h.shc,h.ajz⟩
omit [Payload] in
def Sets.size(h:Sets Wg C aZ w R S O Rk)(a:w.heap.size<=w'.heap.size):Sets Wg C aZ w' R S O Rk:=
 ⟨λb x=>bd (h.rlt b x) a,λb x=>bd (h.slt b x) a,λc b x=>bd (h.olt c b x) a,h.rk,h.rs,h.orr,h.os,h.oo,bd h.wlt a,bd h.clt a,h.cw,h.wr,h.ws,h.wo,h.cr,h.cs,h.co,h.shr,h.shs,h.sho,h.shc,λb x=>bd (h.ajz b x) a⟩
omit [Payload] in
def Sets.aAO(h:Sets Wg C aZ w R S O Rk)(o:w.heap.size<=w'.heap.size){g:au}(l:∀b,g b->O κ b\/(w.heap.size<=b/\b<w'.heap.size)):Sets Wg C aZ w' R S (upd O κ g) Rk:=by
 have a:∀{c:Nat} {b:Nat},upd O κ g c b->O c b\/(c=κ/\w.heap.size<=b/\b<w'.heap.size):=λ{c b} x=>by
  by_cases e:c=κ
  .subst e;rw[qs] at x;exact(l b x).imp id λy=>⟨rfl,y⟩
  .rw[qX O _ e] at x;exact .inl x
 have d:=h.size o;refine⟨d.rlt,d.slt,λc b x=> ?_,h.rk,h.rs,λc b x=> ?_,λc b x=> ?_,λj k b x y=> ?_,d.wlt,d.clt,h.cw,h.wr,h.ws,λc x=> ?_,h.cr,h.cs,λc x=> ?_,h.shr,h.shs,λc b i x=> ?_,h.shc,d.ajz⟩
 .rcases a x with x|⟨-, -,x⟩
  .exact d.olt _ _ x
  .exact x
 .rcases a x with x|⟨-,x, -⟩
  .exact h.orr _ _ x
  .intro f;have:=h.rlt b f;omega
 .rcases a x with x|⟨-,x, -⟩
  .exact h.os _ _ x
  .intro f;have:=h.slt b f;omega
 .rcases a x with x|⟨m,x, -⟩<;>rcases a y with y|⟨n,y, -⟩
  .exact h.oo _ _ _ x y
  .have:=h.olt _ _ x;omega
  .have:=h.olt _ _ y;omega
  .rw[m,n]
 .rcases a x with x|⟨-,x, -⟩
  .exact h.wo _ x
  .have:=h.wlt;omega
 .rcases a x with x|⟨-,x, -⟩
  .exact h.co _ x
  .have:=h.clt;omega
 .rcases a x with x|⟨-,x, -⟩
  .exact h.sho _ _ i x
  .have:=h.ajz b i;omega
omit [Payload] in
def Sets.aw9(h:Sets Wg C aZ w R S O Rk)(j:w.heap.size<=w'.heap.size){d:au}(c:∀b,d b->S b\/(w.heap.size<=b/\b<w'.heap.size)):Sets Wg C aZ w' R d O Rk:=by
 have a:=h.size j;refine⟨a.rlt,λb x=> ?_,a.olt,h.rk,λb f x=> ?_,h.orr,λi b e x=> ?_,h.oo,a.wlt,a.clt,h.cw,h.wr,λx=> ?_,h.wo,h.cr,λx=> ?_,h.co,h.shr,λb g x=> ?_,h.sho,h.shc,a.ajz⟩
 .rcases c b x with x|x
  .exact a.slt b x
  .exact x.2
 .rcases c b x with x|x
  .exact h.rs b f x
  .have:=h.rlt b f;omega
 .rcases c b x with x|x
  .exact h.os i b e x
  .have:=h.olt i b e;omega
 .rcases c _ x with x|x
  .exact h.ws x
  .have:=h.wlt;omega
 .rcases c _ x with x|x
  .exact h.cs x
  .have:=h.clt;omega
 .rcases c _ x with x|x
  .exact h.shs b g x
  .have:=h.ajz b g;omega
omit [Payload] in
def Sets.hand(h:Sets Wg C aZ w R S O Rk)(κ:Nat){X:au}(d:∀b,X b->S b\/R b):Sets Wg C aZ w (λb=>S b\/R b) (λ_=>False) O (upd Rk κ X):=by
 refine⟨λb x=>x.elim (h.slt b) (h.rlt b),λb x=>x.elim,h.olt,λa b x=> ?_,λb _ x=>x,λa b x y=>y.elim (h.os a b x) (h.orr a b x),λa b _ x=>x,h.oo,h.wlt,h.clt,h.cw,λx=>x.elim h.ws h.wr,id,h.wo,λx=>x.elim h.cs h.cr,id,h.co,λb c x=>x.elim (h.shs b c) (h.shr b c),λb _ x=>x,h.sho,h.shc,h.ajz⟩;by_cases e:a=κ
 .subst e;rw[qs] at x;exact d b x
 .rw[qX Rk _ e] at x;exact .inr (h.rk a b x)
end
end
section
open Go.Conc Go.ConcN
open Go.ConcR (KK wgBlock WgAt stA smA rd wr mk Payload DC0 Bk g_of_ofEvents ofEvent_mk ofEvent_loc_mark loc_of_ofEvent)
def ShL(aZ:au)(l:Loc):Prop:=∃a,l=.cell a/\aZ a.block
structure eZ (aZ:au) (K B:Nat) (t:Trace):Prop where
 clean:∀said,¬Race said t
 known:∀(i:Nat) (op:MemOp) (x:Touch),t[i]?=some op->op.act.touch?=some x->¬ShL aZ x.loc->Knows t 0 i
 quiet:Quiet (ShL aZ) t
 over:t.HandedOver
 hears:Deaf t 0=0
 seen:∀op∈t,op.act.low B
 gs:∀op∈t,op.g<=K
def oF(Wg:Nat)(aZ:au)(t:Trace)(k r:Nat):Prop:=∀(i:Nat) (op:MemOp) (x:Touch),r<i->t[i]?=some op->op.g=k->op.act.touch?=some x->Shr Wg aZ x.loc
def oF.app{Wg:Nat}{aZ:au}{t u:Trace}{k r:Nat}(h:oF Wg aZ t k r)(e:∀op∈u,op.g=k->∀x,op.act.touch?=some x->Shr Wg aZ x.loc):oF Wg aZ (t++u) k r:=λi op x g d b c=>by
 rcases rJ d with⟨_,f⟩|⟨_,a⟩
 .exact h i op x g f b c
 .exact e op a b x c
structure TI (Wg C K0:Nat) (aZ:au) (j:Nat) (t:Trace) (D:Nat->WD) (O Rk:Nat->au) (d0 B:Nat):Prop where
 ct:CT (Shr Wg aZ) (abw C K0 O) (RdL K0 Rk) t (K0+j)
 norel:NoRelease (stA Wg) t
 deaf0:Deaf t 0=d0
 deafW:∀κ,κ<j->Deaf t (K0+1+κ)=(D κ).deaf
 rel:∀κ,κ<j->(D κ).stage<=6->∃r,RelBy (stA Wg) t (K0+1+κ) r/\oF Wg aZ t (K0+1+κ) r
 seen:∀op∈t,op.act.low B
 over:∀(i g:Nat),t.g? i=some g->g≠0->g<=K0->t.counts i->∃p,t.g? p=some 0/\HappensBefore t i p
 known:∀(i:Nat) (op:MemOp) (x:Touch),t[i]?=some op->op.g<=K0->op.act.touch?=some x->¬Shr Wg aZ x.loc->Knows t 0 i
section
variable {Wg C K0:Nat} {aZ:au} {j:Nat} {t u:Trace} {D:Nat->WD} {O Rk:Nat->au} {d0 B B':Nat}
def acs(h:∀(i g:Nat),t.g? i=some g->g≠0->g<=K0->t.counts i->∃p,t.g? p=some 0/\HappensBefore t i p)(q:∀op∈u,op.g=0\/K0<op.g\/op.act.touch?=none) :
  ∀(i g:Nat),(t++u).g? i=some g->g≠0->g<=K0->(t++u).counts i->∃p,(t++u).g? p=some 0/\HappensBefore (t++u) i p:=by
 intro i g l d k n;obtain⟨x,s,y,A⟩:=id n;obtain⟨op,a,b⟩:=touch_of s;have v:op.g=g:=by simpa[Trace.g?,a] using l
 rcases rJ a with⟨m,o⟩|⟨_,e⟩
 .obtain⟨p,c,r⟩:=h i g (by rw[<-g?_old (u:=u) m];exact l) d k ((counts_old m).1 n);have f:p<t.size:=by
   unfold Trace.g? at c;obtain⟨z,w,_⟩:=jt.1 c;exact lt_size_of_getElem? w
  exact⟨p,by rw[g?_old f];exact c,hb_app u r⟩
 .rcases q op e with j|j|j
  .omega
  .omega
  .rw[j] at b;cases b
def aay(h:∀(i:Nat) (op:MemOp) (x:Touch),t[i]?=some op->op.g<=K0->op.act.touch?=some x->¬Shr Wg aZ x.loc->Knows t 0 i)(e:∀op∈u,op.g=0\/K0<op.g\/op.act.touch?=none) :
  ∀(i:Nat) (op:MemOp) (x:Touch),(t++u)[i]?=some op->op.g<=K0->op.act.touch?=some x->¬Shr Wg aZ x.loc->Knows (t++u) 0 i:=by
 intro i op x d g c j;rcases rJ d with⟨_,f⟩|⟨_,b⟩
 .exact(h i op x f g c j).app u
 .rcases e op b with a|a|a
  .have:=knows_own d;rwa [a] at this
  .omega
  .rw[a] at c;cases c
def ade(h:∀op∈t,op.act.low B)(b:B<=B'):∀op∈t,op.act.low B':=λop a=>MemAct.low_mono b (h op a)
def agm{x:Touch}(h:∀op∈t,op.act.low B)(n:touchAt t i=some x){S:au}(k:∀b,S b->B<=b)(d:In S x.loc):False:=by
 obtain⟨op,l,a⟩:=touch_of n;have c:=h op (qI l);obtain⟨g,fn,o,f⟩:=op;cases f with
 |access e=>
  simp only[MemAct.touch?,lP] at a;subst a;obtain⟨loc,wr,p⟩:=e;cases loc<;>first|exact d.elim|(have j:=k _ d;exact absurd c (Nat.not_lt.2 j))
 |mark m=>
  cases m<;>simp only[MemAct.touch?,lP,reduceCtorEq] at a<;>(subst a;have j:=k _ d;exact absurd c (Nat.not_lt.2 j))
 |_=>simp[MemAct.touch?] at a
def TI.appW (h:TI Wg C K0 aZ j t D O Rk d0 B) (H:B<=B') (I:κ<j) {o:au} {s' : Nat} {fn:FuncId}  
  (A:Apart (Shr Wg aZ) (abw C K0 (upd O κ o)) (RdL K0 Rk))
  (E:∀b,O κ b->o b) (w:∀b,o b->O κ b\/B<=b)
  (y:∀op∈MemOp.ofEvents (K0+1+κ) fn pos es,OkW (Shr Wg aZ) (abw C K0 (upd O κ o)) (RdL K0 Rk) (K0+1+κ) op) (s:∀e∈es,e.loc ≠ .mark (.release (stA Wg)))
  (p:deafBehind (D κ).deaf es=Z) (v:∀op∈MemOp.ofEvents (K0+1+κ) fn pos es,op.act.low B')
  (hrel:s'<=6->∃r,RelBy (stA Wg) (t++MemOp.ofEvents (K0+1+κ) fn pos es) (K0+1+κ) r/\oF Wg aZ (t++MemOp.ofEvents (K0+1+κ) fn pos es) (K0+1+κ) r) :
  TI Wg C K0 aZ j (t++MemOp.ofEvents (K0+1+κ) fn pos es) (upd D κ ⟨s',m',Z⟩) (upd O κ o) Rk d0 B':=by
 have n:∀op∈MemOp.ofEvents (K0+1+κ) fn pos es,op.g=K0+1+κ:=g_of_ofEvents;have u:CT (Shr Wg aZ) (abw C K0 (upd O κ o)) (RdL K0 Rk) t (K0+j):=agF h.ct (λk _ _ l c=>by
   obtain⟨d,rfl,c⟩:=c;by_cases e:d=κ
   .subst e;rw[qs] at c;rcases c with c|c
    .have:In (O d) l\/In (λb=>B<=b) l:=by
      cases l<;>first|exact w _ c|exact c.elim
     rcases this with x|x
     .exact .inl ⟨d,rfl,.inl x⟩
     .exact .inr λi a G e=>agm h.seen G (λb q=>q) (e▸x)
    .exact .inl ⟨d,rfl,.inr c⟩
   .rw[qX O _ e] at c;exact .inl ⟨d,rfl,c⟩) (λk _ _ l c=>by
   obtain⟨d,rfl,c⟩:=c;refine⟨d,rfl, ?_⟩;by_cases e:d=κ
   .subst e;rw[qs];exact c.imp (In.mono E) id
   .rw[qX O _ e];exact c) (λ_ _ _ _=>Iff.rfl)
 refine⟨u.appW A (by omega) (by omega) y,h.norel.app (norel_of s),by rw[rz t (by omega) _ n,h.deaf0],λd g=> ?_,λd g m=> ?_,seen_app (ade h.seen H) v,
  acs h.over λop f=>.inr (.inl (by rw[n op f];omega)),aay h.known λop f=>.inr (.inl (by rw[n op f];omega))⟩
 .by_cases e:d=κ
  .subst e;rw[Deaf_own,h.deafW d g,qs];exact p
  .rw[rz t (by omega) _ n,h.deafW d g,qX D _ e]
 .by_cases e:d=κ
  .subst e;rw[qs] at m;exact hrel m
  .rw[qX D _ e] at m;obtain⟨r,F,q⟩:=h.rel d g m;exact⟨r,F.appOther n (by omega),q.app λop f z=>by rw[n op f] at z;omega⟩
def TI.app0 (h:TI Wg C K0 aZ j t D O Rk d0 B) (n:B<=B') (A:Apart (Shr Wg aZ) (abw C K0 O) (RdL K0 Rk)) {fn:FuncId}  
  (i:∀op∈MemOp.ofEvents 0 fn pos es,Ok0 (Shr Wg aZ) (abw C K0 O) (RdL K0 Rk) (K0+j) op) (k:∀e∈es,e.loc ≠ .mark (.release (stA Wg))) (c:∀op∈MemOp.ofEvents 0 fn pos es,op.act.low B') :
  TI Wg C K0 aZ j (t++MemOp.ofEvents 0 fn pos es) D O Rk (deafBehind d0 es) B':=by
 have b:∀op∈MemOp.ofEvents 0 fn pos es,op.g=0:=g_of_ofEvents;refine⟨h.ct.app0 A i,h.norel.app (norel_of k),by rw[Deaf_own,h.deaf0],λd f=>by rw[rz t (by omega) _ b,h.deafW d f],λd f g=> ?_,seen_app (ade h.seen n) c,
  acs h.over λop a=>.inl (b op a),aay h.known λop a=>.inl (b op a)⟩
 obtain⟨r,l,m⟩:=h.rel d f g;exact⟨r,l.appOther b (by omega),m.app λop a o=>by rw[b op a] at o;omega⟩
def TI.ayt(h:TI Wg C K0 aZ j t D O Rk d0 B)(R:i≠0)(hi:i<=K0){fn:FuncId}(I:∀e∈es,e.mute=true) :
  TI Wg C K0 aZ j (t++MemOp.ofEvents i fn pos es) D O Rk d0 B:=by
 have n:∀op∈MemOp.ofEvents i fn pos es,op.g=i:=g_of_ofEvents;have u:∀op∈MemOp.ofEvents i fn pos es,op.act.touch?=none:=λop c=>by obtain⟨e,p,rfl⟩:=mt c;exact touch_mute (I e p)
 have g:∀op∈MemOp.ofEvents i fn pos es,op.act.low B:=λop c=>by obtain⟨e,p,rfl⟩:=mt c;exact low_mute (I e p) B
 have old:∀{q:Nat} {a:Touch},touchAt (t++MemOp.ofEvents i fn pos es) q=some a->touchAt t q=some a:=λ{q a} Q=>by
  obtain⟨z,L,m⟩:=touch_of Q;rcases rJ L with⟨_,J⟩|⟨_,G⟩
  .rw[touchAt_of J];exact m
  .rw[u z G] at m;cases m
 have f:∀op∈MemOp.ofEvents i fn pos es,∀b,op.act.touch?=some b->False:=λop c b d=>by rw[u op c] at d;cases d
 refine⟨⟨h.ct.quiet.app λop c x P _=>(f op c x P).elim,λk v F l g=>(h.ct.own k v F l g).app λop c b d _=>(f op c b d).elim,λk v F l g=>(h.ct.rd k v F l g).app λop c b d _ _=>(f op c b d).elim,
   λl H g=>(h.ct.free l H g).app λop c b d _=>(f op c b d).elim,λl H g=>(h.ct.mine l H g).app λop c b d _ _=>(f op c b d).elim,λo=>noRace_append (h.ct.nr o) n λ_ _ _ op c b d _=>(f op c b d).elim,λq op M=> ?_⟩,
  h.norel.app λop c e=> ?_,by rw[rz t (by omega) _ n,h.deaf0],λA y=>by rw[rz t (by omega) _ n,h.deafW A y],λA y E=> ?_,seen_app h.seen g,acs h.over λop c=>.inr (.inr (u op c)),aay h.known λop c=>.inr (.inr (u op c))⟩
 .rcases rJ M with⟨_,K⟩|⟨_,w⟩
  .exact h.ct.gs q op K
  .rw[n op w];omega
 .obtain⟨s,p,rfl⟩:=mt c;have g:=loc_of_ofEvent e;have:=I s p;obtain⟨loc,wr,S⟩:=s;dsimp only at g;subst g;simp[Event.mute] at this
 .obtain⟨r,N,d⟩:=h.rel A y E;exact⟨r,N.appOther n (by omega),d.app λop c s=>by rw[n op c] at s;omega⟩
def TI.fork(h:TI Wg C K0 aZ j t D O Rk 0 B){X:au}(A:Apart (Shr Wg aZ) (abw C K0 O) (RdL K0 (upd Rk j X))){x y:MemOp}(i:x.g=0/\x.act=.go (K0+j+1))(g:y.g=K0+j+1/\y.act=.start) :
  TI Wg C K0 aZ (j+1) (t++#[x,y]) (upd D j ⟨7,m',0⟩) O (upd Rk j X) 0 B:=by
 have n:∀op∈#[x,y],op=x\/op=y:=by intro op b;simpa using b
 have m:∀op∈#[x,y],op.act ≠ .mark .disable/\op.act ≠ .mark .enable:=by
  intro op b;rcases n op b with rfl|rfl
  .rw[i.2];exact⟨by simp,by simp⟩
  .rw[g.2];exact⟨by simp,by simp⟩
 have q:∀op∈#[x,y],op.act.touch?=none:=by
  intro op b;rcases n op b with rfl|rfl
  .rw[i.2];rfl
  .rw[g.2];rfl
 have p:CT (Shr Wg aZ) (abw C K0 O) (RdL K0 (upd Rk j X)) t (K0+j):=agF h.ct (λ_ _ _ _ d=>.inl d) (λ_ _ _ _ d=>d) (λk _ G l=>by
  constructor
  .rintro⟨c,rfl,d⟩;rw[qX Rk _ (by omega)] at d;exact⟨c,rfl,d⟩
  .rintro⟨c,rfl,d⟩;exact⟨c,rfl,by rw[qX Rk _ (by omega)];exact d⟩)
 refine⟨?_,h.norel.app λop b=> ?_,by rw[Deaf_still t 0 _ m,h.deaf0],λc w=> ?_,λc w o=> ?_,seen_app h.seen λop b=> ?_,acs h.over λop b=>.inr (.inr (q op b)),aay h.known λop b=>.inr (.inr (q op b))⟩
 .have:=p.fork A i g h.deaf0
  rwa [vI] at this
 .rcases n op b with rfl|rfl
  .rw[i.2];simp
  .rw[g.2];simp
 .rw[Deaf_still t _ _ m];rcases pm c j with f|u
  .rw[h.deafW c f,qX D _ (by omega)]
  .obtain rfl:c=j:=by omega
   rw[qs];exact Deaf_absent λa op F e=>by have:=h.ct.gs a op F;omega
 .rcases pm c j with f|u
  .rw[qX D _ (by omega)] at o;obtain⟨r,E,v⟩:=h.rel c f o;refine⟨r,E.appNot λop b=> ?_,v.app λop b H z s=>by rw[q op b] at s;cases s⟩;rcases n op b with rfl|rfl
   .rw[i.1];omega
   .rw[g.1];omega
  .obtain rfl:c=j:=by omega
   rw[qs] at o;simp at o
 .rcases n op b with rfl|rfl
  .rw[i.2];trivial
  .rw[g.2];trivial
def TI.join(h:TI Wg C K0 aZ j t D O Rk 0 B)(P:∀d,d<j->(D d).stage<=6)(A:Apart (Shr Wg aZ) (abw C K0 O) (RdL K0 Rk))(fn:FuncId)(pos:String)(N:Wg<B) :
  eZ (λb=>b=Wg\/aZ b) (K0+j) B (t++MemOp.ofEvents 0 fn pos #[Go.ConcR.mk (.acquire (stA Wg))]):=by
 have I:MemOp.ofEvents 0 fn pos #[Go.ConcR.mk (.acquire (stA Wg))]=#[{g:=0,fn,pos,act:=.mark (.acquire (stA Wg))}]:=by rw[ofEvents_eq];simp[ofEvent_mk]
 have E:(t++#[({g:=0,fn,pos,act:=.mark (.acquire (stA Wg))}:MemOp)])[t.size]?=some {g:=0,fn,pos,act:=.mark (.acquire (stA Wg))}:=by simp
 have f:=h.app0 (am B) A (fn:=fn) (pos:=pos) (es:=#[Go.ConcR.mk (.acquire (stA Wg))]) (λop a=>by
   rw[I] at a;simp at a;subst a;exact⟨rfl,λx v=>by simp[MemAct.touch?] at v⟩) (by intro e l;simp at l;subst l;simp[Go.ConcR.mk]) (λop a=>by
   rw[I] at a;simp at a;subst a;exact N)
 rw[I] at f ⊢;have F:(t++#[({g:=0,fn,pos,act:=.mark (.acquire (stA Wg))}:MemOp)]).act? t.size=some (.mark (.acquire (stA Wg))):=by rw[act?_of E]
 have n:(t++#[({g:=0,fn,pos,act:=.mark (.acquire (stA Wg))}:MemOp)]).g? t.size=some 0:=by simp[Trace.g?]
 have H:(t++#[({g:=0,fn,pos,act:=.mark (.acquire (stA Wg))}:MemOp)]).heard t.size:=⟨0,n,by rw[deaf_old (am _)];exact h.deaf0⟩;have q:∀d,d<j->∃r,RelBy (stA Wg) (t++#[({g:=0,fn,pos,act:=.mark (.acquire (stA Wg))}:MemOp)]) (K0+1+d) r/\oF Wg aZ (t++#[({g:=0,fn,pos,act:=.mark (.acquire (stA Wg))}:MemOp)]) (K0+1+d) r/\
   HappensBefore (t++#[({g:=0,fn,pos,act:=.mark (.acquire (stA Wg))}:MemOp)]) r t.size:=λd J=>by
  obtain⟨r,o,s⟩:=h.rel d J (P d J);have G:=lt_of_act? o.act;have m:RelBy (stA Wg) (t++#[({g:=0,fn,pos,act:=.mark (.acquire (stA Wg))}:MemOp)]) (K0+1+d) r:=o.appNot λop a=>by simp at a;subst a;show 0≠_;omega
  exact⟨r,m,s.app λop a e=>by simp at a;subst a;have:(0:Nat)=K0+1+d:=e;omega,.single (.inr ⟨.marked G (.inr m.act) F (λk _ _=>f.norel k),m.heard,H⟩)⟩
 refine⟨f.ct.nr,λi op x p v L=> ?_,f.ct.quiet,λi g u z M=> ?_,by rw[f.deaf0];rfl,f.seen,λop a=> ?_⟩
 .rcases pm K0 op.g with y|w
  .obtain⟨d,K⟩:∃d,op.g=K0+1+d:=⟨op.g-(K0+1),by omega⟩;have:=f.ct.gs i op p;obtain⟨r,o,s,l⟩:=q d (by omega);rcases uA r i with c|c|c
   .exact absurd (s i op x c p K v) L
   .subst c;exact⟨t.size,_,E,rfl,.inr l⟩
   .exact⟨t.size,_,E,rfl,.inr (.trans (.single (.inl ⟨c,_,by simp only[Trace.g?,p,qu];rw[K],o.g⟩)) l)⟩
  .exact f.known i op x p w v L
 .rcases pm K0 g with y|w
  .obtain⟨d,rfl⟩:∃d,g=K0+1+d:=⟨g-(K0+1),by omega⟩;obtain⟨op,p,R⟩:=jt.1 u;have:=f.ct.gs i op p;obtain⟨r,o,s,l⟩:=q d (by omega);rcases uA r i with c|c|c
   .exact absurd M (o.after i c u)
   .subst c;exact⟨t.size,n,l⟩
   .exact⟨t.size,n,.trans (.single (.inl ⟨c,_,u,o.g⟩)) l⟩
  .exact f.over i g u z w M
 .obtain⟨i,Q⟩:=wx.1 a;exact f.ct.gs i op Q
def TI.begin(h:eZ aZ K0 B t)(E:∀(i:Nat) (x:Touch),touchAt t i=some x->∀a,x.loc=.cell a->a.block≠Wg)(A:NoRelease (stA Wg) t):TI Wg C K0 aZ 0 t D O Rk 0 B:=by
 have j:∀k,k<=K0->∀l,¬abw C K0 O k l:=λk H l ⟨q,e,_⟩=>by omega
 have s:∀(i:Nat) (x:Touch),touchAt t i=some x->Shr Wg aZ x.loc->ShL aZ x.loc:=λi x f ⟨a,e,h⟩=>⟨a,e,h.resolve_left (E i x f a e)⟩;have u:∀l,¬Shr Wg aZ l->Perm t 0 l:=λl n i a F e=>by
  obtain⟨op,d,r⟩:=touch_of F;exact h.known i op a d r λ⟨b,p,c⟩=>n (e▸⟨b,p,.inr c⟩)
 refine⟨⟨λi op x d f c=>h.quiet i op x d f (s i x (by rw[touchAt_of d];exact f) c),λk w v l n=>absurd n (j k v l),λk w v l ⟨q,e,_⟩=>by omega,λl c _=>u l c,λl c _=>.of (u l c),h.clean,λi op d=>h.gs op (qI d)⟩,
  A,h.hears,λq y=>by omega,λq y=>by omega,h.seen,λi g z m _ G=>h.over i g z m G,λi op x d _ f c=>h.known i op x d f λ⟨b,p,o⟩=>c ⟨b,p,.inr o⟩⟩
end
end
section
open Go.Conc Go.ConcN
open Go.ConcR (KK wgBlock WgAt stA smA rd wr mk Payload DC0 Bk g_of_ofEvents ofEvent_mk ofEvent_loc_mark loc_of_ofEvent bk_of_mute again_blocked)
variable [Payload]
section
variable {P:Program} {ty:TypeId} {Wg C n:Nat} {val:Nat->Value} {κ s m d:Nat} {R S:au} {T:jU} {g:Goroutine} {w w':World}
def WK.rely(h:WK P ty Wg C n val κ R s m d T S g w)(b:kg ty Wg C (2*n) R (dZ κ) S w w'):WK P ty Wg C n val κ R s m d T S g w':=by
 cases h with
 |work h=>
  have a:∀S x y z,kg ty Wg C (2*n) R (dZ κ) S x y->kg ty Wg C (2*n) R (dZ κ) S y z->kg ty Wg C (2*n) R (dZ κ) S x z:=λ_ _ _ _ e c=>e.trans c;exact .work (GoT.rely a h b)
 |rest f h=>exact .rest f (h.rely (by rw[Nat.add_sub_cancel];exact b.rw (i:=2*κ) (by unfold dZ;omega)))
def WK.status(h:WK P ty Wg C n val κ R s m d T S g w):g.status=.running\/g.status=.finished:=by
 cases h with
 |work h=>exact .inl (GoT.running (λ_ _ _ x=>x.1.1) (λ_ _=>kg.refl _ _ _ _) h)
 |rest a h=>exact h.status
def WK.woken(h:WK P ty Wg C n val κ R s m d T S g w)(a b:Goroutine)(w':World):woken P a b w' g=g:=by
 unfold Go.Conc.woken;split
 .exact again_running _ h.status
 .rfl
def WK.running_of(h:WK P ty Wg C n val κ R s m d T S g w)(a:s≠1):g.status=.running:=by
 cases h with
 |work h=>exact GoT.running (λ_ _ _ x=>x.1.1) (λ_ _=>kg.refl _ _ _ _) h
 |rest _ h=>exact h.running_of a
end
section
variable {P:Program} {ty:TypeId} {Wg C n:Nat} {val:Nat->Value} {aT Fin:au->au->Goroutine->World->Prop} {tag:CTag} {j f d:Nat} {R S:au} {T:jU} {a:Goroutine} {w w':World}
def fO.rely(h:fO P ty Wg C n val aT Fin tag j R S T f d a w)(b:RM ty Wg C n R S w w'):fO P ty Wg C n val aT Fin tag j R S T f d a w':=by
 have c:∀x y z,RM ty Wg C n R S x y->RM ty Wg C n R S y z->RM ty Wg C n R S x z:=λ_ _ _ m l=>m.trans l;have e:∀S x y z,kg ty Wg C (2*n) R noC S x y->kg ty Wg C (2*n) R noC S y z->kg ty Wg C (2*n) R noC S x z:=λ_ _ _ _ m l=>m.trans l;cases h with
 |skd g h=>exact .skd g (GoT.rely e h b)
 |sa1 g h=>exact .sa1 g (tH c h b)
 |ske g h=>exact .ske g (tH c h b)
 |sgo g h=>exact .sgo g (GoT.rely e h b)
 |kd h=>exact .kd (GoT.rely e h b)
 |anch h=>exact .anch (tH c h b)
 |w1 h=>exact .w1 (tH c h b)
 |w2 h=>exact .w2 (tH c h b)
 |w3 h=>exact .w3 (tH c h b)
 |blk h=>exact .blk (λk i=>h k (b.trans i))
 |w4 h=>exact .w4 (tH c h b)
 |ke h=>exact .ke (tH c h b)
 |acq h=>exact .acq (tH c h b)
def fO.status(c:∀R S g w,aT R S g w->g.status=.running)(h:fO P ty Wg C n val aT Fin tag j R S T f d a w):(a.status=.running/\tag ≠ .blk)\/(a.status=.blocked/\tag=.blk):=by
 have b:RM ty Wg C n R S w w:=.refl _ _ _ _;cases h with
 |skd _ h=>exact .inl ⟨GoT.running (λ_ _ _ x=>x.1) (λ_ _=>kg.refl _ _ _ _) h,by simp⟩
 |sa1 _ h=>exact .inl ⟨sO (λ_ _ x=>x.1) w b h,by simp⟩
 |ske _ h=>exact .inl ⟨sO (λ_ _ x=>x.1) w b h,by simp⟩
 |sgo _ h=>exact .inl ⟨GoT.running (λ_ _ _ x=>x.1) (λ_ _=>kg.refl _ _ _ _) h,by simp⟩
 |kd h=>exact .inl ⟨GoT.running (λ_ _ _ x=>x.1) (λ_ _=>kg.refl _ _ _ _) h,by simp⟩
 |anch h=>exact .inl ⟨sO (c _ _) w b h,by simp⟩
 |w1 h=>exact .inl ⟨sO (λ_ _ x=>x.1) w b h,by simp⟩
 |w2 h=>exact .inl ⟨sO (λ_ _ x=>x.1) w b h,by simp⟩
 |w3 h=>exact .inl ⟨sO (λ_ _ x=>x.1) w b h,by simp⟩
 |blk h=>exact .inr ⟨rfl,rfl⟩
 |w4 h=>exact .inl ⟨sO (λ_ _ x=>x.1) w b h,by simp⟩
 |ke h=>exact .inl ⟨sO (λ_ _ x=>x.1) w b h,by simp⟩
 |acq h=>exact .inl ⟨sO (λ_ _ x=>x.1) w b h,by simp⟩
def fO.wokenBy(i:∀R S g w,aT R S g w->g.status=.running)(h:fO P ty Wg C n val aT Fin tag j R S T f d a w)(p:RM ty Wg C n R S w w')(g g':Goroutine) :
  ∃c k,fO P ty Wg C n val aT Fin c j R S T k d (woken P g g' w' a) w'/\k<=f+1/\(c=tag\/(tag=.blk/\c=.w3))/\(mayWake P g=true->g'.status=.running->c ≠ .blk):=by
 have b:=h.rely p;unfold Go.Conc.woken;split
 .rcases b.status i with⟨q,e⟩|⟨_,rfl⟩
  .exact⟨tag,f,by rw[again_running _ (.inl q)];exact b,by omega,.inl rfl,λ_ _=>e⟩
  .cases b with
   |blk m=>
    rename_i t;have l:=m w' (.refl _ _ _ _);exact⟨.w3,0+1,by rw[again_blocked l.1 l.2.1];exact .w3 (qH m),by omega,.inr ⟨rfl,rfl⟩,λ_ _=>by simp⟩
 .rename_i s;exact⟨tag,f,b,by omega,.inl rfl,λr o=>absurd (by simp[r,o]) s⟩
def fO.bound(h:fO P ty Wg C n val aT Fin tag j R S T f d a w):j+pend tag<=n:=by
 cases h<;>simp only[pend]<;>(try simp)<;>omega
end
section
variable (P:Program) (ty:TypeId) (Wg C n K0:Nat) (val:Nat->Value) (aZ:au) (aT Fin:au->au->Goroutine->World->Prop)
structure MI (j:Nat) (gs:Array Goroutine) (w:World) (t:Trace) (D:Nat->WD) (TV:Nat->jU) (R S:au) (O Rk:Nat->au) (q:Nat->Nat) (d0:Nat):Prop where
 size:gs.size=K0+1+j
 old:∀i g,0<i->i<=K0->gs[i]?=some g->QuitsD P (q i) (Deaf t i) g
 wk:∀κ,κ<j->∃g,gs[K0+1+κ]?=some g/\WK P ty Wg C n val κ (Rk κ) (D κ).stage (D κ).fuel (D κ).deaf (TV (κ+1)) (O κ) g w
 ti:TI Wg C K0 aZ j t D O Rk d0 w.heap.size
 cD:Sets Wg C aZ w R S O Rk
 has:∀κ,κ<j->(D κ).stage<=6->Has C (2*κ) (val (2*κ)) w/\Has C (2*κ+1) (val (2*κ+1)) w
 pay:PayAt C (2*n) w
 unO:∀κ,j<=κ->O κ=λ_=>False
def aaJ(μ:Mu)(m:Machine)(t:Trace):Prop:=
 ∃(d:Array Goroutine) (w:World) (sl:Option (Nat×Nat)) (j:Nat) (D:Nat->WD) (c:Nat->jU) (R S:au) (O i:Nat->au) (q:Nat->Nat) (b:CTag) (g e:Nat) (a:Goroutine) (f sm:Int),
  m=crowd d w sl/\d[0]?=some a/\fO P ty Wg C n val aT Fin b j R S (c 0) g e a w/\MI P ty Wg C n K0 val aZ j d w t D c R S O i q e/\WgAt ty Wg w f sm/\ConcN.Mode j D b f sm/\
  μ=(phi n (Vc j D) b+Ssum j D,(c,g+2*Fsum j D+2*sumTo (K0+1) q))
def anY(m:Machine)(t:Trace):Prop:=
 ∃(d:Array Goroutine) (w:World) (sl:Option (Nat×Nat)) (a:Goroutine) (q:Nat->Nat) (R S:au),
  m=crowd d w sl/\d[0]?=some a/\d.size=K0+1+n/\Fin R S a w/\Leavers P t d q/\eZ (λb=>b=Wg\/aZ b) (K0+n) w.heap.size t/\PayAt C (2*n) w/\(∀c,c<n->Has C (2*c) (val (2*c)) w/\Has C (2*c+1) (val (2*c+1)) w)/\WgLive ty Wg w/\
  (∀b,aZ b\/b=Wg->¬R b/\¬S b/\b≠C/\b<w.heap.size)
end
section
variable {P:Program} {ty:TypeId} {Wg C n K0:Nat} {val:Nat->Value} {aZ:au} {aT Fin:au->au->Goroutine->World->Prop}
 {gs:Array Goroutine} {w w':World} {sl:Option (Nat×Nat)} {j:Nat} {D:Nat->WD} {TV:Nat->jU} {R S:au} {O Rk:Nat->au} {q:Nat->Nat} {tag:CTag} {f0 d0:Nat} {a:Goroutine} {t:Trace} {st sm:Int}
omit [Payload] in
def ajA{a:Type}(f:Nat->a)(i:Nat):upd f i (f i)=f:=by
 funext x
 by_cases e:x=i
 .subst e;rw[qs]
 .rw[qX f _ e]
def MI.at(h:MI P ty Wg C n K0 val aZ j gs w t D TV R S O Rk q d0)(d:Nat):MI P ty Wg C n K0 val aZ j gs (w.at d) t D TV R S O Rk q d0:=
 ⟨h.size,h.old,λc b=>let⟨g,a,e⟩:=h.wk c b;⟨g,a,e.rely (.at _ _ _ w d)⟩,h.ti,h.cD.at d,h.has,h.pay,h.unO⟩
def qb (a3:∀R S g w,aT R S g w->g.status=.running) (ha:gs[0]?=some a) (mD:fO P ty Wg C n val aT Fin tag j R S (TV 0) f0 d0 a w) (o:MI P ty Wg C n K0 val aZ j gs w t D TV R S O Rk q d0)
  (M:κ<j) {g g':Goroutine} {s' : Nat} {T':jU} {F:au} {A u:Int} (hg:gs[K0+1+κ]?=some g) (a5:stepG P false g w=.go g' w' es)
  (p:RM ty Wg C n R S w w') (G:∀c,c<j->c≠κ->kg ty Wg C (2*n) (Rk c) (dZ c) (O c) w w')
  (T:WK P ty Wg C n val κ (Rk κ) s' m' Z T' F g' w') (hO:∀b,O κ b->F b) (I:∀b,F b->O κ b\/(w.heap.size<=b/\b<w'.heap.size))
  (a0:∀op∈MemOp.ofEvents (K0+1+κ) g.frame.fn g.frame.place es,OkW (Shr Wg aZ) (abw C K0 (upd O κ F)) (RdL K0 Rk) (K0+1+κ) op) (W:∀e∈es,e.loc ≠ .mark (.release (stA Wg)))
  (U:deafBehind (D κ).deaf es=Z) (a4:∀op∈MemOp.ofEvents (K0+1+κ) g.frame.fn g.frame.place es,op.act.low w'.heap.size)
  (hrel:s'<=6->∃r,RelBy (stA Wg) (t++MemOp.ofEvents (K0+1+κ) g.frame.fn g.frame.place es) (K0+1+κ) r/\oF Wg aZ (t++MemOp.ofEvents (K0+1+κ) g.frame.fn g.frame.place es) (K0+1+κ) r)
  (X:s'<=6->Has C (2*κ) (val (2*κ)) w'/\Has C (2*κ+1) (val (2*κ+1)) w') (a2:PayAt C (2*n) w') (fH:WgAt ty Wg w' A u)
  (bq:∀m,(m=tag\/(tag=.blk/\m=.w3))->(mayWake P g=true->g'.status=.running->m ≠ .blk)->ConcN.Mode j (upd D κ ⟨s',m',Z⟩) m A u)
  (a1:(s'<(D κ).stage/\cnt ⟨s',m',Z⟩<=cnt (D κ))\/(s'=(D κ).stage/\jU.Lt T' (TV (κ+1)))\/(s'=(D κ).stage/\T'=TV (κ+1)/\m'+1=(D κ).fuel)) :
  ∃l H nu,runT P (crowd gs w sl) (K0+1+κ)=(.next l,H)/\abu (n+1) nu (phi n (Vc j D) tag+Ssum j D,(TV,f0+2*Fsum j D+2*sumTo (K0+1) q))/\aaJ P ty Wg C n K0 val aZ aT Fin nu l (t++H):=by
 obtain⟨m,f',qc,a6,B,Y⟩:=mD.wokenBy a3 p g g';have s:(K0+1+κ ==0)=false:=by simp
 have E:=tA (P:=P) (sl:=sl) (i:=K0+1+κ) hg (by rw[s];exact a5);have e1:=sumTo_upd D (⟨s',m',Z⟩:WD) cnt M;have e2:=sumTo_upd D (⟨s',m',Z⟩:WD) WD.stage M;have e3:=sumTo_upd D (⟨s',m',Z⟩:WD) WD.fuel M;have hb:=mD.bound;have K:=o.cD.aAO (w':=w') p.size I;refine⟨_,_,(phi n (Vc j (upd D κ ⟨s',m',Z⟩)) m+Ssum j (upd D κ ⟨s',m',Z⟩),(upd TV (κ+1) T',f'+2*Fsum j (upd D κ ⟨s',m',Z⟩)+2*sumTo (K0+1) q)),E, ?_,
  _,w',sl,j,upd D κ ⟨s',m',Z⟩,upd TV (κ+1) T',R,S,upd O κ F,Rk,q,m,f',d0,woken P g g' w' a,A,u,rfl,by rw[tk _ _ _ _ (by omega),ha];rfl,by rw[qX TV _ (by omega)];exact qc, ?_,fH,bq m B Y,rfl⟩
 .rw[phi_retag n _ B];simp only[Vc,Ssum,Fsum] at *;rcases a1 with⟨Q,L⟩|⟨Q,L⟩|⟨Q,L,h3⟩
  .refine Prod.Lex.left _ _ ?_;have:=phi_mono n (v':=sumTo j λa=>cnt (upd D κ ⟨s',m',Z⟩ a)) (v:=sumTo j λa=>cnt (D a)) (by omega) tag;omega
  .have ec:cnt (⟨s',m',Z⟩:WD)=cnt (D κ):=by simp only[cnt,Q]
   have V:(sumTo j λa=>cnt (upd D κ ⟨s',m',Z⟩ a))=sumTo j λa=>cnt (D a):=by omega
   have z:(sumTo j λa=>(upd D κ ⟨s',m',Z⟩ a).stage)=sumTo j λa=>(D a).stage:=by omega
   rw[V,z];refine Prod.Lex.right _ (Prod.Lex.left _ _ ⟨κ+1,by omega,by rw[qs];exact L,λk hk=>qX TV _ hk⟩)
  .have ec:cnt (⟨s',m',Z⟩:WD)=cnt (D κ):=by simp only[cnt,Q]
   have V:(sumTo j λa=>cnt (upd D κ ⟨s',m',Z⟩ a))=sumTo j λa=>cnt (D a):=by omega
   have z:(sumTo j λa=>(upd D κ ⟨s',m',Z⟩ a).stage)=sumTo j λa=>(D a).stage:=by omega
   rw[V,z,L,ajA];refine Prod.Lex.right _ (Prod.Lex.right _ ?_);omega
 .refine⟨by simp[o.size],λi x s hi N=> ?_,λc d=> ?_,o.ti.appW p.size M K.apart hO (λb x=>(I b x).imp id (·.1)) a0 W U a4 hrel,K,λc d f=> ?_,a2,λc d=>by rw[qX O _ (by omega)];exact o.unO c d⟩
  .rw[tk _ _ _ _ (by omega)] at N;obtain⟨y,hy,rfl⟩:=jt.1 N;have hq:=o.old i y s hi hy;rw[tl hq,rz t (by omega) _ g_of_ofEvents];exact hq
  .by_cases e:c=κ
   .subst e;exact⟨g',uL _ _ _ (by rw[o.size];omega),by rw[qs,qs,qs];exact T⟩
   .obtain⟨x,N,J⟩:=o.wk c d;refine⟨x,by rw[tk _ _ _ _ (by omega),N,qu,J.woken], ?_⟩;rw[qX D _ e,qX TV _ (by omega),qX O _ e];exact J.rely (G c d e)
  .by_cases e:c=κ
   .subst e;rw[qs] at f;exact X f
   .rw[qX D _ e] at f;have hh:=o.has c d f;have hr:=G c d e;exact⟨(hr.cell (2*c) (by unfold dZ;omega)).trans hh.1,(hr.cell (2*c+1) (by unfold dZ;omega)).trans hh.2⟩
def kD (ha:gs[0]?=some a) (d:MI P ty Wg C n K0 val aZ j gs w t D TV R S O Rk q d0)
  {et:CTag} {f':Nat} {T':jU} {I:au} {l g:Int} (H:stepG P true a w=.go L w' es)
  (Q:w.heap.size<=w'.heap.size) (o:∀c,c<j->kg ty Wg C (2*n) (Rk c) (dZ c) (O c) w w') (F:∀b,I b->S b\/(w.heap.size<=b/\b<w'.heap.size))
  (J:∀op∈MemOp.ofEvents 0 a.frame.fn a.frame.place es,Ok0 (Shr Wg aZ) (abw C K0 O) (RdL K0 Rk) (K0+j) op) (E:∀e∈es,e.loc ≠ .mark (.release (stA Wg))) (G:∀op∈MemOp.ofEvents 0 a.frame.fn a.frame.place es,op.act.low w'.heap.size)
  (A:PayAt C (2*n) w') (qc:fO P ty Wg C n val aT Fin et j R I T' f' (deafBehind d0 es) L w') (W:WgAt ty Wg w' l g) (Y:ConcN.Mode j D et l g)
  (v:phi n (Vc j D) et<phi n (Vc j D) tag\/(phi n (Vc j D) et=phi n (Vc j D) tag/\(jU.Lt T' (TV 0)\/(T'=TV 0/\f'<f0)))) :
  ∃f p V,runT P (crowd gs w sl) 0=(.next f,p)/\abu (n+1) V (phi n (Vc j D) tag+Ssum j D,(TV,f0+2*Fsum j D+2*sumTo (K0+1) q))/\aaJ P ty Wg C n K0 val aZ aT Fin V f (t++p):=by
 have r:=tA (P:=P) (sl:=sl) (i:=0) ha (by simpa using H);have z:=d.cD.aw9 (w':=w') Q F;refine⟨_,_,(phi n (Vc j D) et+Ssum j D,(upd TV 0 T',f'+2*Fsum j D+2*sumTo (K0+1) q)),r, ?_,
  _,w',sl,j,D,upd TV 0 T',R,I,O,Rk,q,et,f',deafBehind d0 es,L,l,g,rfl,uL _ _ _ (by rw[d.size];omega),by rw[qs];exact qc, ?_,W,Y,rfl⟩
 .rcases v with h|⟨N,h|⟨X,h3⟩⟩
  .exact Prod.Lex.left _ _ (by omega)
  .rw[N];exact Prod.Lex.right _ (Prod.Lex.left _ _ ⟨0,by omega,by rw[qs];exact h,λk Z=>qX TV _ Z⟩)
  .rw[N,X,ajA];exact Prod.Lex.right _ (Prod.Lex.right _ (by omega))
 .refine⟨by simp[d.size],λi x K hi u=> ?_,λc m=> ?_,d.ti.app0 Q d.cD.apart J E G,z,λc m B=> ?_,A,d.unO⟩
  .rw[tk _ _ _ _ (by omega)] at u;obtain⟨y,hy,rfl⟩:=jt.1 u;have M:=d.old i y K hi hy;rw[tl M,rz t (by omega) _ g_of_ofEvents];exact M
  .obtain⟨x,u,s⟩:=d.wk c m;refine⟨x,by rw[tk _ _ _ _ (by omega),u,qu,s.woken], ?_⟩;rw[qX TV _ (by omega)];exact s.rely (o c m)
  .have T:=d.has c m B;have U:=o c m;exact⟨(U.cell (2*c) (by unfold dZ;omega)).trans T.1,(U.cell (2*c+1) (by unfold dZ;omega)).trans T.2⟩
def arQ (v:∀R S g w,aT R S g w->g.status=.running) (ha:gs[0]?=some a) (Y:fO P ty Wg C n val aT Fin tag j R S (TV 0) f0 d0 a w) (c:MI P ty Wg C n K0 val aZ j gs w t D TV R S O Rk q d0) (M:WgAt ty Wg w st sm) (U:ConcN.Mode j D tag st sm)
  (l:0<i) (hi:i<=K0) {g:Goroutine} (G:gs[i]?=some g) (b:g.status=.running) :
  ∃d p J,runT P (crowd gs w sl) i=(.next d,p)/\abu (n+1) J (phi n (Vc j D) tag+Ssum j D,(TV,f0+2*Fsum j D+2*sumTo (K0+1) q))/\aaJ P ty Wg C n K0 val aZ aT Fin J d (t++p):=by
 have u:=c.old i g l hi G;cases f:q i with
 |zero=>rw[f] at u;rw[u.1] at b;cases b
 |succ k=>
  rw[f] at u;rcases u with⟨X,_⟩|⟨_,H,es,hm,B,E⟩
  .rw[X] at b;cases b
  have A:(i ==0)=false:=by simp;omega
  have F:=tA (P:=P) (sl:=sl) (i:=i) G (by rw[A];exact B w);obtain⟨I,K,W,V,o,Z⟩:=Y.wokenBy v (.refl _ _ _ w) g H;have T:sumTo (K0+1) (upd q i k)+(k+1)=sumTo (K0+1) q+k:=by
   have:=sumTo_upd q k id (show i<K0+1 by omega);simpa[f] using this
  refine⟨_,_,(phi n (Vc j D) I+Ssum j D,(TV,K+2*Fsum j D+2*sumTo (K0+1) (upd q i k))),F, ?_,
   _,w,sl,j,D,TV,R,S,O,Rk,upd q i k,I,K,d0,woken P g H w a,st,sm,rfl,by rw[tk _ _ _ _ (by omega),ha];rfl,W, ?_,M,U.retag o,rfl⟩
  .rw[phi_retag n _ o];exact Prod.Lex.right _ (Prod.Lex.right _ (by omega))
  .refine⟨by simp[c.size],λL x l z m=> ?_,λQ N=> ?_,c.ti.ayt (by omega) hi hm,c.cD,c.has,c.pay,c.unO⟩
   .by_cases e:i=L
    .subst e;rw[uL _ _ _ (by rw[c.size];omega)] at m;obtain rfl:=dq m;rw[qs,Deaf_own];exact E
    .rw[tk _ _ _ _ e] at m;obtain⟨y,hy,rfl⟩:=jt.1 m;have r:=c.old L y l z hy;rw[tl r,qX q k (sB e),rz t e _ g_of_ofEvents];exact r
   .obtain⟨x,m,s⟩:=c.wk Q N;exact⟨x,by rw[tk _ _ _ _ (by omega),m,qu,s.woken],s⟩
end
end
section
open Go.Conc Go.ConcN
open Go.ConcR (KK wgBlock WgAt stA smA rd wr mk Payload DC0 Bk g_of_ofEvents ofEvent_mk ofEvent_loc_mark loc_of_ofEvent bk_of_mute again_blocked)
section
variable {Wg C K0:Nat} {aZ:au}
def alU{l:Loc}(h:ShN Wg l):Shr Wg aZ l:=let⟨a,e,h⟩:=h;⟨a,e,.inl h⟩
def ajB{e:Event}(h:Bk Wg e){x:Touch}(b:(MemAct.ofEvent e).touch?=some x):Shr Wg aZ x.loc:=by
 rcases h with h|h|⟨a,wr,rfl,c⟩
 .rw[ofEvent_loc_mark h] at b;cases b
 .rw[ofEvent_loc_mark h] at b;cases b
 .simp[MemAct.ofEvent,MemAct.touch?] at b;subst b;exact⟨a,rfl,.inl c⟩
def ayv{e:Event}(h:Bk Wg e)(b:Wg<B):(MemAct.ofEvent e).low B:=by
 rcases h with h|h|⟨a,wr,rfl,c⟩
 .rw[ofEvent_loc_mark h];trivial
 .rw[ofEvent_loc_mark h];trivial
 .show a.block<B;omega
def ayw{Rd : Nat->Loc->Prop}{k:Nat}{fn:FuncId}(h:∀e∈es,Bk Wg e):∀op∈MemOp.ofEvents k fn pos es,OkW (Shr Wg aZ) Own Rd k op:=λop c=>
 let⟨g,d⟩:=okW_of_Bk (Own:=Own) (Rd:=Rd) h op c;⟨g,λx f=>(d x f).imp (λ⟨a,b⟩=>⟨alU a,b⟩) id⟩
def arR{Rd : Nat->Loc->Prop}{fn:FuncId}(h:∀e∈es,Bk Wg e):∀op∈MemOp.ofEvents 0 fn pos es,Ok0 (Shr Wg aZ) Own Rd j op:=λop c=>by
 obtain⟨e,d,rfl⟩:=mt c;exact⟨rfl,λx b=>.inl ⟨ajB (h e d) b,by
  rcases h e d with h|h|⟨a,wr,rfl,f⟩
  .simp only[ofEvent_loc_mark h] at b;cases b
  .simp only[ofEvent_loc_mark h] at b;cases b
  .simp[MemAct.ofEvent,MemAct.touch?] at b;subst b;simp⟩⟩
def avb{R d:au}{O c:Nat->au}{fn:FuncId}(k:O κ=d)(j:c κ=R)(h:∀e∈es,EvP Wg C R (dZ κ) d B e) :
  ∀op∈MemOp.ofEvents (K0+1+κ) fn pos es,OkW (Shr Wg aZ) (abw C K0 O) (RdL K0 c) (K0+1+κ) op:=λop b=>by
 obtain⟨e,i,rfl⟩:=mt b;refine⟨rfl,λx g=> ?_⟩;rcases(h e i).touch x g with a|a|⟨a,f⟩
 .exact .inr (.inl ⟨κ,rfl,.inl (k▸a)⟩)
 .exact .inr (.inl ⟨κ,rfl,.inr a⟩)
 .exact .inr (.inr ⟨⟨κ,rfl,j▸a⟩,f⟩)
def anZ{R c b:au}{fn:FuncId}(h:∀e∈es,EvP Wg C R c b B e):∀op∈MemOp.ofEvents g fn pos es,op.act.low B:=λop a=>by
 obtain⟨e,d,rfl⟩:=mt a;exact(h e d).low
def ahS(b:Wg<B){fn:FuncId}(h:∀e∈es,Bk Wg e):∀op∈MemOp.ofEvents g fn pos es,op.act.low B:=λop a=>by
 obtain⟨e,c,rfl⟩:=mt a;exact ayv (h e c) b
end
section
variable [Payload] {P:Program} {ty:TypeId} {Wg C n K0:Nat} {val:Nat->Value} {aZ:au} {aT Fin:au->au->Goroutine->World->Prop}
 {gs:Array Goroutine} {w w':World} {sl:Option (Nat×Nat)} {j:Nat} {D:Nat->WD} {TV:Nat->jU} {R S:au} {O Rk:Nat->au} {q:Nat->Nat} {tag:CTag} {f0 d0:Nat} {a:Goroutine} {t:Trace} {st sm:Int}
def MI.wgO(h:MI P ty Wg C n K0 val aZ j gs w t D TV R S O Rk q d0)(d:Aside Wg w w')(a:WgLive ty Wg w')(κ:Nat):kg ty Wg C (2*n) (Rk κ) (dZ κ) (O κ) w w':=
 .of_wg d a (λb c e=>by subst e;exact c.elim (h.cD.wo κ) λx=>h.cD.wr (h.cD.rk κ _ x)) h.cD.cw
def MI.wgM(h:MI P ty Wg C n K0 val aZ j gs w t D TV R S O Rk q d0)(c:Aside Wg w w')(d:WgLive ty Wg w'):RM ty Wg C n R S w w':=
 .of_wg c d (λb a e=>by subst e;exact a.elim h.cD.ws h.cD.wr) h.cD.cw
def ajC (hn:n<2147483648) (an:∀R S g w,aT R S g w->g.status=.running) (N:gs[0]?=some a) (mD:fO P ty Wg C n val aT Fin tag j R S (TV 0) f0 d0 a w) (p:MI P ty Wg C n K0 val aZ j gs w t D TV R S O Rk q d0) (H:WgAt ty Wg w st sm) (bq:ConcN.Mode j D tag st sm)
  (F:κ<j) {g:Goroutine} (hg:gs[K0+1+κ]?=some g) (U:g.status=.running) :
  ∃l E nu,runT P (crowd gs w sl) (K0+1+κ)=(.next l,E)/\abu (n+1) nu (phi n (Vc j D) tag+Ssum j D,(TV,f0+2*Fsum j D+2*sumTo (K0+1) q))/\aaJ P ty Wg C n K0 val aZ aT Fin nu l (t++E):=by
 obtain⟨aL,ay,hs⟩:=p.wk κ F;obtain rfl:g=aL:=by rw[hg] at ay;exact dq ay
 have hb:=mD.bound;have bi:=Vc_le j D;have a9:=p.ti.deafW κ F;have hW:=p.cD.wlt;generalize A:(D κ).stage=s at hs;generalize b7:(D κ).fuel=m at hs;generalize a3:(D κ).deaf=dd at hs;rw[a3] at a9;cases hs with
 |work h=>
  rcases h.cases with bX|⟨f,hT,_,d⟩
  .obtain⟨⟨_,a1,u,c,B,hk⟩,b2⟩:=bX w (.refl _ _ _ w);rw[Nat.add_sub_cancel] at a1;have e1:MemOp.ofEvents (K0+1+κ) g.frame.fn g.frame.place #[mk (.releaseMerge (stA Wg))]=#[{g:=K0+1+κ,fn:=g.frame.fn,pos:=g.frame.place,act:=.mark (.releaseMerge (stA Wg))}]:=by rw[ofEvents_eq];simp[ofEvent_mk]
   refine qb (T':=TV (κ+1)) an N mD p F hg c (.refl _ _ _ w) (λ_ _ _=>.refl _ _ _ w) (.rest (by omega) (.k1 hk)) (λ_ x=>x) (λ_ x=>.inl x) (λop J=> ?_) (by intro e k;simp at k;subst k;simp[mk]) (by rw[a3];rfl) (λop J=> ?_)
    (λ_=>⟨t.size,RelBy.new a9 _ _,λi op x hi ho _ _=> ?_⟩) (λ_=>⟨a1,b2⟩) p.pay H (λ_ ht _=>(bq.counted F (by omega) (.inl rfl) _ _).retag ht) (.inl ⟨by omega,by simp[cnt,A]⟩)
   .rw[e1] at J;simp at J;subst J;exact⟨rfl,λx hx=>by simp[MemAct.touch?] at hx⟩
   .rw[e1] at J;simp at J;subst J;exact hW
   .have:=lt_size_of_getElem? ho;rw[e1] at this;simp at this;omega
  .obtain⟨u,w',es,S',c,hG,b8⟩:=d w (.refl _ _ _ w);have Z:Wg<w.heap.size/\¬O κ Wg/\Wg≠C:=⟨hW,p.cD.wo κ,λe=>p.cD.cw e.symm⟩;have b0:WgAt ty Wg w' st sm:=H.of_block (hG.keep Wg Z.1 Z.2.1 Z.2.2);refine qb an N mD p F hg c
    (.alS hG (λb hb=>hb.elim (λx=>⟨p.cD.slt b x,λy=>p.cD.os κ b y x,λe=>p.cD.cs (e▸x)⟩) λx=>⟨p.cD.rlt b x,λy=>p.cD.orr κ b y x,λe=>p.cD.cr (e▸x)⟩) (λi x=>x.elim) Z)
    (λib _ ao=>.alS hG (λb hb=>hb.elim (λx=>⟨p.cD.olt ib b x,λy=>ao (p.cD.oo ib κ b x y),λe=>p.cD.co ib (e▸x)⟩) λx=>⟨p.cD.rlt b (p.cD.rk ib b x),λy=>p.cD.orr κ b y (p.cD.rk ib b x),λe=>p.cD.cr (e▸p.cD.rk ib b x)⟩) (λi x y=>ao (x.symm.trans y)) Z)
    (.work b8) hG.mono hG.new (avb (by rw[qs]) rfl hG.ev) (λe k=>(hG.ev e k).rel) (by rw[a3];exact tS (λe k=>⟨(hG.ev e k).dis,(hG.ev e k).en⟩) 0) (anZ hG.ev)
    (λh=>by omega) (λh=>by omega) (hG.pay p.pay) b0 (λ_ ht _=>ConcN.Mode.retag (by have:=bq.same (i:=κ) 0 0;rwa [A] at this) ht) (.inr (.inl ⟨A.symm,by rw[hT];exact⟨f,w,rfl,rfl⟩⟩))
 |rest h6 h=>
  have aV:∀{u:Goroutine} {w':World} {es:Array Event} {V I G:Nat} {W Y:Int},stepG P false g w=.go u w' es->Aside Wg w w'->WgAt ty Wg w' W Y->(∀e∈es,Bk Wg e)->
    (∀jx e,es[jx]?=some e->(MemAct.ofEvent e).touch?=none\/0<deafBehind dd (es.extract 0 jx))->WSit P ty Wg C (2*n) FF FF 0 (2*κ+1) (val (2*κ)) V I G u w'->deafBehind dd es=G->V<=6->
    (∀et,(et=tag\/(tag=.blk/\et=.w3))->(mayWake P g=true->u.status=.running->et ≠ .blk)->ConcN.Mode j (upd D κ ⟨V,I,G⟩) et W Y)->((V<s/\cnt ⟨V,I,G⟩<=cnt (D κ))\/(V=s/\I+1=m))->
    ∃l E nu,runT P (crowd gs w sl) (K0+1+κ)=(.next l,E)/\abu (n+1) nu (phi n (Vc j D) tag+Ssum j D,(TV,f0+2*Fsum j D+2*sumTo (K0+1) q))/\aaJ P ty Wg C n K0 val aZ aT Fin nu l (t++E):=by
   intro u w' es V I G W Y c T a4 jk hd a0 af ba a6 aa;obtain⟨cs,b1,b6⟩:=p.pay;have hl:WgLive ty Wg w':=⟨_,_,a4⟩;have a1:=p.has κ F (by omega);have ec:∀o,w'.cell? ⟨C,o,none⟩=w.cell? ⟨C,o,none⟩:=uH (T.block C p.cD.cw);exact qb an N mD p F hg c (p.wgM T hl) (λib _ _=>p.wgO T hl ib) (.rest ba a0) (λ_ x=>x) (λ_ x=>.inl x) (ayw jk) (norel_of_Bk jk) (by rw[a3];exact af) (ahS (by rw[T.size];exact hW) jk)
    (λ_=>let⟨r,hr,b9⟩:=p.ti.rel κ F (by omega);⟨r,hr.book a9 _ _ jk hd,b9.app λop J _ x hx=>by obtain⟨e,k,rfl⟩:=mt J;exact ajB (jk e k) hx⟩)
    (λ_=>⟨(ec _).trans a1.1,(ec _).trans a1.2⟩) ⟨cs,(T.block C p.cD.cw).trans b1,b6⟩ a4 a6
    (by rw[A,b7];exact aa.imp id λx=>.inr ⟨x.1,rfl,x.2⟩)
  have z:∀{u:Goroutine} {w':World} {es:Array Event} {V I G:Nat} {W Y:Int},stepG P false g w=.go u w' es->Aside Wg w w'->WgAt ty Wg w' W Y->(∀e∈es,Bk Wg e)->
    (∀jx e,es[jx]?=some e->(MemAct.ofEvent e).touch?=none\/0<deafBehind dd (es.extract 0 jx))->WSit P ty Wg C (2*n) FF FF 0 (2*κ+1) (val (2*κ)) V I G u w'->deafBehind dd es=G->V<=6->
    ConcN.Mode j (upd D κ ⟨V,I,G⟩) tag W Y->((V<s/\cnt ⟨V,I,G⟩<=cnt (D κ))\/(V=s/\I+1=m))->
    ∃l E nu,runT P (crowd gs w sl) (K0+1+κ)=(.next l,E)/\abu (n+1) nu (phi n (Vc j D) tag+Ssum j D,(TV,f0+2*Fsum j D+2*sumTo (K0+1) q))/\aaJ P ty Wg C n K0 val aZ aT Fin nu l (t++E):=
   λc T a4 jk hd a0 af h6 a6 aa=>aV c T a4 jk hd a0 af h6 (λ_ ht _=>a6.retag ht) aa
  have K:∀{u:Goroutine} {I:Nat},stepG P false g w=.go u w #[]->WSit P ty Wg C (2*n) FF FF 0 (2*κ+1) (val (2*κ)) s I dd u w->I+1=m->
    ∃l E nu,runT P (crowd gs w sl) (K0+1+κ)=(.next l,E)/\abu (n+1) nu (phi n (Vc j D) tag+Ssum j D,(TV,f0+2*Fsum j D+2*sumTo (K0+1) q))/\aaJ P ty Wg C n K0 val aZ aT Fin nu l (t++E):=by
   intro u I c a0 hm;exact z c (.refl Wg w) H (by simp) (by simp) a0 rfl h6 (by have:=bq.same (i:=κ) I dd;rwa [A] at this) (.inr ⟨rfl,hm⟩)
  cases h with
  |r0 h=>omega
  |k1 h=>
   rcases rV h with bX|⟨I,rfl,d⟩
   .obtain⟨_,u,c,B,hk⟩:=bX w (uo w);exact z c (.refl Wg w) H (by intro e k;simp at k;subst k;exact .inl rfl) (by intro jx e k;exact .inl (by have:=qI k;simp at this;subst this;rfl)) (.d1 hk) rfl (by omega)
     (bq.counted F (by omega) (.inr rfl) _ _) (.inl ⟨by omega,by simp[cnt,A]⟩)
   .obtain⟨u,w',es,c,⟨rfl,rfl⟩,mQ⟩:=d w (uo w);exact K c (.k1 mQ) rfl
  |d1 h=>
   rcases rV h with bX|⟨I,rfl,d⟩
   .obtain⟨_,a5⟩:=bX w (uo w);have bc:cnt (D κ)=1:=by simp[cnt,A]
    have bf:1<=Vc j D:=by have:=le_sumTo (f:=λx=>cnt (D x)) F;simp only[Vc];omega
    have a7:∀e∈#[rd (stA Wg),wr (stA Wg)],Bk Wg e:=by intro e k;simp at k;rcases k with rfl|rfl<;>exact ConcN.bk_cell _ _ rfl
    have ad:∀jx e,(#[rd (stA Wg),wr (stA Wg)]:Array Event)[jx]?=some e->(MemAct.ofEvent e).touch?=none\/0<deafBehind 1 ((#[rd (stA Wg),wr (stA Wg)]:Array Event).extract 0 jx):=by
     intro jx e k
     match jx,k with
     |0,_=>exact .inr (by simp[deafBehind])
     |1,_=>exact .inr (by simp[deafBehind,rd])
     |jx+2,k=>simp at k
    have ax:∀q,cnt (⟨1,q,1⟩:WD)=0:=λ_=>rfl;have aI:∀q,OpenSt j D->OpenSt j (upd D κ ⟨1,q,1⟩):=λq h a N=>by
     by_cases e:a=κ
     .subst e;rw[qs];simp
     .rw[qX D _ e];exact h a N
    cases bq with
    |opn h1 h2 h3=>
     obtain⟨v,hv⟩:∃v,Vc j D+pend tag=v+1:=⟨Vc j D+pend tag-1,by omega⟩;rw[hv] at H;have cZ:WgAt ty Wg w (((v:Nat)+1)*KK+((0:Nat):Int)) 0:=by simpa using H
     obtain⟨u,c,_,X⟩:=a5 v 0 (by omega) (by omega) cZ;obtain⟨M,X⟩:=X (by omega);have al:Vc j (upd D κ ⟨1,M,1⟩)+pend tag=v:=by have:=Vc_upd D (⟨1,M,1⟩:WD) F;have:=ax M;omega
     refine z c (sX w (stA Wg) _) (H.setSt _) a7 ad (.quit X) rfl (by omega) ?_ (.inl ⟨by omega,by simp[cnt]⟩);have e:((v:Nat):Int)*KK+((0:Nat):Int)=((Vc j (upd D κ ⟨1,M,1⟩)+pend tag:Nat):Int)*KK:=by rw[al];simp
     rw[e];exact .opn h1 (aI M h2) (λvs ev=>by have:=h3 vs ev;omega)
    |reg h1 h2 h3=>
     obtain⟨v,hv⟩:∃v,Vc j D=v+1:=⟨Vc j D-1,by omega⟩;rw[hv] at H;have hp:pend tag=0:=by cases tag<;>first|rfl|exact h1.elim
     have cZ:WgAt ty Wg w (((v:Nat)+1)*KK+((1:Nat):Int)) 0:=by simpa using H
     obtain⟨u,c,hl,X⟩:=a5 v 1 (by omega) (by omega) cZ;by_cases bb:v=0
     .subst bb;obtain⟨B,hk⟩:=hl ⟨rfl,rfl⟩;refine z c (sX w (stA Wg) _) (H.setSt _) a7 ad (.d2 hk) rfl (by omega) ?_ (.inl ⟨by omega,by simp[cnt]⟩);have Q:∀a,a<j->a≠κ->(D a).stage=1:=λa N e=>by
       have c0:=others_uncounted F hv bc a N e;have:=h2 a N;simp only[cnt] at c0;split at c0<;>omega
      have:=ConcN.Mode.last (j:=j) (D:=upd D κ ⟨4,B,1⟩) (tag:=tag) κ h1 F (by rw[qs];simp) (λa N e=>by rw[qX D _ e];exact Q a N e);rw[qs] at this;simpa using this
     .obtain⟨M,X⟩:=X (by omega);have al:Vc j (upd D κ ⟨1,M,1⟩)=v:=by have:=Vc_upd D (⟨1,M,1⟩:WD) F;have:=ax M;omega
      refine z c (sX w (stA Wg) _) (H.setSt _) a7 ad (.quit X) rfl (by omega) ?_ (.inl ⟨by omega,by simp[cnt]⟩);have e:((v:Nat):Int)*KK+((1:Nat):Int)=((Vc j (upd D κ ⟨1,M,1⟩):Nat):Int)*KK+1:=by rw[al];simp
      rw[e];exact .reg h1 (aI M h2) (by omega)
    |last L _ h2 h3 h4=>
     by_cases e:κ=L
     .subst e;omega
     .have:=h4 κ F e;omega
    |sema h2=>have:=h2 κ F;omega
    |fin _ h2=>have:=h2 κ F;omega
   .obtain⟨u,w',es,c,⟨rfl,rfl⟩,mQ⟩:=d w (uo w);exact K c (.d1 mQ) rfl
  |d2 h=>
   rcases rV h with bX|⟨I,rfl,d⟩
   .obtain⟨_,hx⟩:=bX w (uo w);obtain⟨a2,Q,rfl,rfl⟩:=bq.isLast F (by omega);simp only[A] at H;obtain⟨u,c,B,hk⟩:=hx (by simpa using H);refine z c (.refl Wg w) H (by intro e k;simp at k;subst k;exact ConcN.bk_cell _ _ rfl) (by intro jx e k;match jx,k with|0,_=>exact .inr (by simp[deafBehind])|jx+1,k=>simp at k) (.d3 hk) rfl (by omega) ?_ (.inl ⟨by omega,by simp[cnt]⟩);have:=ConcN.Mode.last (j:=j) (D:=upd D κ ⟨3,B,1⟩) (tag:=tag) κ a2 F (by rw[qs];simp) (λa N e=>by rw[qX D _ e];exact Q a N e);rw[qs] at this;simpa using this
   .obtain⟨u,w',es,c,⟨rfl,rfl⟩,mQ⟩:=d w (uo w);exact K c (.d2 mQ) rfl
  |d3 h=>
   rcases rV h with bX|⟨I,rfl,d⟩
   .obtain⟨_,hx⟩:=bX w (uo w);obtain⟨a2,Q,rfl,rfl⟩:=bq.isLast F (by omega);simp only[A] at H;obtain⟨u,c,B,hk⟩:=hx (by simpa using H);refine z c (sX w (stA Wg) _) (H.setSt 0) (by intro e k;simp at k;subst k;exact ConcN.bk_cell _ _ rfl) (by intro jx e k;match jx,k with|0,_=>exact .inr (by simp[deafBehind])|jx+1,k=>simp at k) (.d4 hk) rfl (by omega) ?_ (.inl ⟨by omega,by simp[cnt]⟩);have:=ConcN.Mode.last (j:=j) (D:=upd D κ ⟨2,B,1⟩) (tag:=tag) κ a2 F (by rw[qs];simp) (λa N e=>by rw[qX D _ e];exact Q a N e);rw[qs] at this;simpa using this
   .obtain⟨u,w',es,c,⟨rfl,rfl⟩,mQ⟩:=d w (uo w);exact K c (.d3 mQ) rfl
  |d4 h=>
   rcases rV h with bX|⟨I,rfl,d⟩
   .obtain⟨_,b3,hx⟩:=bX w (uo w);obtain⟨a2,Q,rfl,rfl⟩:=bq.isLast F (by omega);simp only[A] at H;obtain⟨u,c,M,X⟩:=hx (by simpa using H);have a8:u.status=.running:=by
     cases M with
     |zero=>exact absurd X.2 (by decide)
     |succ M=>exact X.elim (λx=>absurd x.2 (by decide)) (λx=>x.1)
    refine aV c (sX w (smA Wg) _) (H.setSm 1) (es:=semEvents (smA Wg)) ?_ ?_ (.quit X) (by simp[deafBehind,semEvents]) (by omega) ?_ (.inl ⟨by omega,by simp[cnt]⟩)
    .exact bk_sem
    .intro jx e k
     match jx,k with
     |0,k=>simp[semEvents] at k;subst k;exact .inl rfl
     |1,_=>exact .inr (by simp[deafBehind,semEvents])
     |2,_=>exact .inr (by simp[deafBehind,semEvents])
     |3,k=>simp[semEvents] at k;subst k;exact .inl rfl
     |jx+4,k=>simp[semEvents] at k
    .intro et ht hw;have b5:=hw b3 a8;have e3:et=.w3:=by
      rcases ht with rfl|⟨_,rfl⟩
      .cases et<;>first|rfl|exact a2.elim|exact absurd rfl b5
      .rfl
     subst e3;simp only[qe];exact .sema λa N=>by
      by_cases e:a=κ
      .subst e;rw[qs]
      .rw[qX D _ e];exact Q a N e
   .obtain⟨u,w',es,c,⟨rfl,rfl⟩,mQ⟩:=d w (uo w);exact K c (.d4 mQ) rfl
  |quit h=>
   cases m with
   |zero=>rw[h.1] at U;cases U
   |succ M=>
    rcases h with⟨hf,_⟩|⟨_,u,es,aH,d,X⟩
    .rw[hf] at U;cases U
    .have jk:∀e∈es,Bk Wg e:=λe k=>bk_of_mute (aH e k);have b4:∀jx e,es[jx]?=some e->(MemAct.ofEvent e).touch?=none\/0<deafBehind dd (es.extract 0 jx):=λjx e k=>.inl (touch_mute (aH e (qI k)));exact z (d w) (.refl Wg w) H jk b4 (.quit X) rfl (by omega) (by have:=bq.same (i:=κ) M (deafBehind dd es);rwa [A] at this) (.inr ⟨rfl,rfl⟩)
end
end
end Go.Proofs.YtokgbpkbaoeeoaaGreatDoor