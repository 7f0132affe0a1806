/- A part of the proof. -/
import Derived.Test.YtbeafkpaghapeaaGreatDoorG3
import Derived.Laws.MakeOwn
import Derived.Conc.CrowdRun
import Derived.Conc.Beside
set_option maxRecDepth 100000
set_option maxHeartbeats 8000000
set_option linter.all false
open Go Go.Conc Go.ConcN Go.RowKit Go.Proofs.Tryz Go.Proofs.YtbeafkpaghapeaaGreatDoor
variable {B Wg i m' κ:Nat} {d t:Tmp} {ρ:Ren} {W:Next} {V:Type} {A:Addr} {o:Oper} {X w w' w2:World} {e:Event} {x y:Frame} {f:FuncId} {pos:String} {P:Program} {rest:List Nat} {U g:Goroutine} {k:List Item} {Z:Array Oper} {Y cs l l':List Frame} {es:Array Event} {u:Option Addr} {Own:Nat→Loc→Prop}
namespace Go.Proofs.YtbeafkpaghapeaaGreatDoor
def mu:=@_root_.Go.Conc.mem_ofEvents
def qi:=@_root_.Go.ConcN.upd_same
def qB:=@_root_.Go.Conc.Goes.stop
def qG:=@_root_.Option.bind_some
def qO:=@_root_.Go.ConcN.upd_ne
def rh:=@_root_.Go.Conc.Deaf_other
def rj:=@_root_.Go.Sem.runT_fst
def rv:=@_root_.Go.Conc.getElem?_append_cases
def rJ:=@_root_.Go.Conc.Goes.cases
def sA:=@_root_.Go.Conc.Goes.running
def sE:=@_root_.Go.Result.ok.injEq
def sF:=@_root_.Nat.not_lt_zero
def sK:=@_root_.Go.Conc.aside_setCell
def sR:=@_root_.Go.ConcN.get_map_set
def sS:=@_root_.Go.Conc.woken_quitsD
def sV:=@_root_.Nat.sub_self
def sZ:=@_root_.Relation.TransGen.trans
def ta:=@_root_.Go.Conc.runT_crowd_go
def tl:=@_root_.Go.Conc.Goes.rely
def tz:=@_root_.Go.Conc.goes_go
def tE:=@_root_.Go.ConcN.deafBehind_idle
def tV:=@_root_.Go.ConcN.RW.refl
def ul:=@_root_.Array.getElem?_push_lt
def un:=@_root_.Go.ConcN.cell_of_block
def ur:=@_root_.Go.ConcN.get_map_set_same
def uu:=@_root_.Go.Conc.awake_of
def uP:=@_root_.Int.le_refl
def vk:=@_root_.Bool.not_eq_true'
def vF:=@_root_.Array.mem_append
def vM:=@_root_.Array.mem_iff_getElem?
def vU:=@_root_.Array.mem_iff_getElem
def wi:=@_root_.Array.map_congr_left
section
variable {β:Bool}
open Go.RowKit
def akG(n:Nat)(d:n<=3)(w:World):Calls (ah β) 154 #[.string ⟨#[46]⟩,.int .i64 n] w λe c=>e=.returned (.string ⟨(kF n).toArray⟩)/\Below w.heap.size w c:=by
 by_cases b:n=0
 .subst b;go_enter wR,ntmps154;go_wp2;go_ret;exact⟨rfl,fd _ _⟩
 .by_cases a:n=1
  .subst a;go_enter wR,ntmps154;go_wp2;go_ret;exact⟨rfl,fd _ _⟩
  .exact aqk n (by omega) w
def atC(n:Nat):bs ⟨(kF n).toArray⟩=List.replicate n 46:=by
 unfold bs kF;simp[List.map_replicate]
def atD(s:ByteArray)(a:bB (bs s))(w:World) :
  Calls (ah β) 144 #[.string s] w λe i=>∃t:ByteArray,e=.returned (.string t)/\bs t=gb (bs s)/\Below w.heap.size w i:=by
 have c:1<=s.size/\s.size<=8:=by have:=a.1;rw[aO] at this;exact this
 have b:s.size<=maxLen:=by unfold maxLen;omega
 have g:s.size<=bX s.size/\bX s.size-s.size<=3:=by
  unfold bX;split<;>(try split)<;>(try split)<;>omega
 replace a:=ab a;replace b:=ab b;go_enter yh,ntmps144;go_wp2;refine(pP s b.out w true (by simp only[tp];exact a.out)).mono ?_;rintro e d ⟨rfl,rfl⟩;go_wp2;refine(an3 s.size c w).mono ?_;rintro e d ⟨rfl,rfl⟩;have f:((bX s.size:Nat):Int)-(s.size:Int)=((bX s.size-s.size:Nat):Int):=by omega
 go_wp2;try rw[f]
 refine(akG (bX s.size-s.size) g.2 w).mono ?_;rintro e d ⟨rfl,j⟩;have hd:(kF (bX s.size-s.size)).length=bX s.size-s.size:=qw ..;go_wp2;go_ret;refine⟨_,rfl, ?_,j⟩;rw[iv,atC];unfold gb;rw[aO]
def afg(s:ByteArray):ByteArray:=s.extract 0 (eJ (bs s) s.size)
def agZ(s:ByteArray):bs (afg s)=vm (bs s):=by
 unfold afg vm;rw[dg,rH,aO]
open Classical in
noncomputable def fh(s:ByteArray):ByteArray×Bool:=if bB (bs (afg s))/\gb (bs (afg s))=bs s then(afg s,true) else(⟨#[]⟩,false)
def an4(s:ByteArray)(k:s.size<=maxLen)(w:World) :
  Calls (ah β) 135 #[.string s] w λe o=>e=.returned (.tuple #[.string (fh s).1,.bool (fh s).2])/\Below w.heap.size w o:=by
 have a:(afg s).size<=maxLen:=by
  unfold afg;rw[vC (acy _ _)];exact ap (acy _ _) k
 replace k:=ab k;replace a:=ab a;have g:s.extract 0 (eJ (bs s) s.size)=afg s:=rfl;replace g:=ab g;go_enter ym,ntmps135;go_wp2;refine(aiq s k.out w).mono ?_;rintro e l ⟨rfl,rfl⟩;rw[g.out];obtain⟨p,d⟩:∃p,p=afg s:=⟨_,rfl⟩;have b:fh s=fh s:=rfl;by_cases c:bB (bs (afg s))
 .replace c:=ab c;rw[<-d] at a c ⊢;replace d:=ab d;clear b;go_wp2;refine(pP p a.out w true (by simp only[tp];exact c.out)).mono ?_;rintro e l ⟨rfl,rfl⟩;go_wp2;refine(atD p c.out w).mono ?_;rintro e l ⟨t,rfl,j,n⟩;by_cases f:t=s
  .subst f;replace j:=ab j;go_wp2;go_ret2;have i:fh t=(p,true):=by
    unfold fh;rw[<-d.out,dq ⟨c.out,j.out.symm⟩]
   rw[i];exact⟨rfl,n⟩
  .have q:=aaL f;have i:fh s=(⟨#[]⟩,false):=by
    unfold fh;rw[<-d.out,bv λh=>f (oP (j.trans h.2))]
   have m:=ab i;clear i j;go_wp2;go_ret2;rw[m.out];exact⟨rfl,n⟩
 .have i:fh s=(⟨#[]⟩,false):=by
   unfold fh;rw[bv λh=>c h.1]
  have m:=ab i;clear i;replace c:=ab c;rw[<-d] at a c ⊢;clear d b;go_wp2;refine(pP p a.out w false (by simp only[kw,uz];exact c.out)).mono ?_;rintro e l ⟨rfl,rfl⟩;go_wp2;go_ret2;rw[m.out];exact⟨rfl,fd _ _⟩
end
section
variable {β:Bool}
open Go.RowKit
def ag0{α:Type}(F:Flat α)(te:TypeId)(w:World)(xs:List α)(e:Ending)(w':World):Prop:=∃v,e=.returned v/\aK F te w' w.heap.size v xs/\Below w.heap.size w w'
def an5 (t e:TypeId) (z:Value) (f a:Nat) (j:P.underlying t=some (.slice e)) (c:(P.info? e).map (λi=>(i.zero,i.size,i.bytes))=some (some z,f,a))
  (n:Nat) (b:a*n<=281474976710656) (o:n<=9223372036854775807) (w:World) :
  (Instr.makeSlice t (.int .i64 (n:Int)) (.int .i64 (n:Int))).run P w=.ok (.slice (some ⟨w.heap.size,0,none⟩) n n) (w.alloc (.cells (madeCells z.cells (n*f)) e)):=by
 obtain⟨i,m,p,l,k⟩:=info_parts c;have d:(i.bytes:Int)*(n:Int)<=281474976710656:=by
  have h:((i.bytes*n:Nat):Int)<=281474976710656:=by rw[k];omega
  rwa [Int.natCast_mul] at h
 have g:=run_make (P:=P) w t e i z j m p .i64 .i64 n n (by omega) (uP _) d (by omega);simp only[tw,l] at g;exact g
end
section
variable {β:Bool}
open Go.RowKit
open Classical in
noncomputable def gF(key:Int)(x:Int×ByteArray):ByteArray×Bool:=if(fh x.2).2=true/\cP key (bs (fh x.2).1)=x.1 then((fh x.2).1,true) else(⟨#[]⟩,false)
def afY{s:ByteArray}(h:(fh s).2=true):bB (bs (fh s).1):=by
 unfold fh at h ⊢;split
 .rename_i a;exact a.1
 .rename_i a;rw[bv a] at h;cases h
def atE(key:Int)(x:Int×ByteArray)(u:1<=key/\key<=99)(f:x.2.size<=maxLen)(w:World) :
  Calls (ah β) 127 #[.agg #[.int .i64 x.1,.string x.2],.int .i64 key] w λe o=>e=.returned (.tuple #[.string (gF key x).1,.bool (gF key x).2])/\Below w.heap.size w o:=by
 obtain⟨n,s⟩:=x;dsimp only at f ⊢;replace f:=ab f;go_enter yq,ntmps127;go_wp2;generalize r:w.alloc (.cells #[.int .i64 n,.string s] 60)=w0 at *;obtain⟨t,z,g,v,y⟩:=mL r;refine(an4 s f.out w0).mono ?_;rintro e l ⟨rfl,d⟩;replace g:=ak g d;replace v:=g.cell;replace y:=g.frozen;replace d:=ag t d;cases b:fh s with
 |mk p m=>
  cases m with
  |false=>
   have j:gF key (n,s)=(⟨#[]⟩,false):=by
    unfold gF;rw[bv];intro h;have:=h.1;rw[show(fh (n,s).2).2=false by rw[show fh (n,s).2=_ from b]] at this;cases this
   have HC:=ab j;replace b:=ab b;go_wp2;go_ret2;rw[HC.out];exact⟨rfl,d⟩
  |true=>
   have i:bB (bs p):=by
    have:=afY (s:=s) (by rw[b]);rw[b] at this;exact this
   have j:gF key (n,s)=if cP key (bs p)=n then(p,true) else(⟨#[]⟩,false):=by
    unfold gF;rw[show fh (n,s).2=(p,true) from b];by_cases h:cP key (bs p)=n
    .rw[dq ⟨rfl,h⟩,dq h]
    .rw[bv λq=>h q.2,bv h]
   have HC:=ab j;replace b:=ab b;replace i:=ab i;go_wp2;refine(aqh key p n u i.out l).mono ?_;rintro e A ⟨rfl,rfl⟩;by_cases h:cP key (bs p)=n
   .have a:=HC.out;rw[dq h] at a;have c:=ab a;have k:decide (cP key (bs p)=n)=true:=dj h;rw[k];go_wp2;go_ret2;rw[c.out];exact⟨rfl,d⟩
   .have a:=HC.out;rw[bv h] at a;have c:=ab a;have k:decide (cP key (bs p)=n)=false:=da h;rw[k];go_wp2;go_ret2;rw[c.out];exact⟨rfl,d⟩
end
section
def opJ(J:Nat->Bool):Operand->Bool
 |.tmp t=>!J t
 |_=>true
def jG:Op->Bool
 |.move _|.assign _|.load .. | .binOp .. | .unOp .. | .alloc _|.store .. | .fieldAddr .. | .indexAddr .. | .buildSlice .. =>true
 |.call c=>match c.callee with
  |.builtin .len|.builtin .append=>true
  |_=>false
 |_=>false
def amI(J:Nat->Bool)(o:Oper):Bool:=o.guard.isNone&&(jG o.op&&o.op.operands.toList.all (opJ J))
def jX(J:Nat->Bool):Code->Bool
 |.skip|.ret|.exit _=>true
 |.region _ d draw=>!draw&&d.toList.all (amI J)
 |.seq a b=>jX J a&&jX J b
 |.cond c a b=>opJ J c&&(jX J a&&jX J b)
 |.block _ a|.loop a=>jX J a
 |_=>false
def lM(J:Nat->Bool):Item->Bool
 |.code c|.inLoop c=>jX J c
 |.inBlock _=>true
 |.inRegion a _=>a.toList.all (amI J)
 |_=>false
structure JR (J:Nat->Bool) (fr cA:Frame):Prop where
 fn:cA.fn=fr.fn
 todo:cA.todo=fr.todo
 defers:fr.defers=[]/\cA.defers=[]
 mode:cA.mode=fr.mode
 kind:fr.kind=.normal/\cA.kind=.normal
 round:fr.roundOf=none/\cA.roundOf=none
 size:cA.tmps.size=fr.tmps.size
 agree:∀i,J i=false->cA.tmps[i]?=fr.tmps[i]?
 items:fr.todo.all (lM J)=true
section
variable {P:Program} {J:Nat->Bool} {fr cA:Frame}
def JR.eval(h:JR J fr cA){x:Operand}(a:opJ J x=true):cA.eval x=fr.eval x:=by
 cases x with
 |tmp t=>
  have:=h.agree t (by simpa[opJ] using a);show cA.tmps.getD t undef=fr.tmps.getD t undef;rw[gE,gE,this]
 |_=>rfl
def akH{e e':Operand->Value}(j:jG o.op=true)(h:∀x∈o.op.operands.toList,e x=e' x):execOp e o=execOp e' o:=by
 obtain⟨dst,op,m,q,after,l⟩:=o;dsimp only at j h;have parts:∀(g:Array (Nat×Operand)),(∀x∈(g.toList.map (·.2)),e x=e' x)->(g.map λ(i,x)=>(i,e x))=g.map λ(i,x)=>(i,e' x):=λg p=>by
  apply wi;rintro⟨i,x⟩ k;have:=p x (ql.2 ⟨(i,x),by simpa using k,rfl⟩);simp only[this]
 cases op with
 |move x=>simp only[execOp];rw[h x (by simp[Op.operands])]
 |assign x=>simp only[execOp];rw[h x (by simp[Op.operands])]
 |load t a=>simp only[execOp];rw[h a (by simp[Op.operands])]
 |unOp op t x=>simp only[execOp];rw[h x (by simp[Op.operands])]
 |alloc t=>rfl
 |fieldAddr t x f=>simp only[execOp];rw[h x (by simp[Op.operands])]
 |store t a x=>simp only[execOp];rw[h a (by simp[Op.operands]),h x (by simp[Op.operands])]
 |binOp op t x y u=>simp only[execOp];rw[h x (by simp[Op.operands]),h y (by simp[Op.operands])]
 |indexAddr t x i=>simp only[execOp];rw[h x (by simp[Op.operands]),h i (by simp[Op.operands])]
 |buildSlice t n g=>simp only[execOp];rw[parts g (by simpa[Op.operands] using h)]
 |call c=>
  obtain⟨d,args,s⟩:=c;cases d with
  |builtin b=>
   have r:args.map e=args.map e':=wi λx k=>h x (by simp[Op.operands,Call.operands];exact k);simp only[execOp,resolve,r]
  |_=>simp[jG] at j
 |_=>simp[jG] at j
def fO{s:Sem Value}(h:(s.bind λa=>Sem.pure (Next.value a)).run P w=.ok W X):∃v,W=.value v:=by
 have e:=qP P s (λa=>Sem.pure (Next.value a)) w;rw[e] at h;cases b:s.run P w with
 |ok a c=>rw[b] at h;simp only[Result.andThen,Sem.run,sE] at h;exact⟨a,h.1.symm⟩
 |halt q c=>rw[b] at h;simp only[Result.andThen] at h;cases h
def an6{s:Sem Unit}(h:(s.bind λ_=>Sem.pure Next.skip).run P w=.ok W X):W=.skip:=by
 have e:=qP P s (λ_=>Sem.pure Next.skip) w;rw[e] at h;cases b:s.run P w with
 |ok a c=>rw[b] at h;simp only[Result.andThen,Sem.run,sE] at h;exact h.1.symm
 |halt q c=>rw[b] at h;simp only[Result.andThen] at h;cases h
def ait{e:Operand->Value}(g:jG o.op=true)(h:(execOp e o).run P w=.ok W X):(∃v,W=.value v)\/W=.skip:=by
 obtain⟨dst,op,k,l,after,j⟩:=o;dsimp only at g;cases op with
 |move x=>simp only[execOp] at h;cases h;exact .inl ⟨_,rfl⟩
 |assign x=>simp only[execOp] at h;cases h;exact .inl ⟨_,rfl⟩
 |load t a=>exact .inl (fO h)
 |unOp op t x=>exact .inl (fO h)
 |alloc t=>exact .inl (fO h)
 |fieldAddr t x f=>exact .inl (fO h)
 |store t a x=>exact .inr (an6 h)
 |binOp op t x y q=>exact .inl (fO h)
 |indexAddr t x i=>exact .inl (fO h)
 |buildSlice t n m=>exact .inl (fO h)
 |call c=>
  obtain⟨d,args,p⟩:=c;cases d with
  |builtin b=>cases b<;>first|exact .inl (fO h)|simp[jG] at g
  |_=>simp[jG] at g
 |_=>simp[jG] at g
def JR.set(h:JR J fr cA)(d:Nat)(v:Value):(cA.tmps.setIfInBounds d v).size=(fr.tmps.setIfInBounds d v).size/\∀i,J i=false->(cA.tmps.setIfInBounds d v)[i]?=(fr.tmps.setIfInBounds d v)[i]?:=by
 refine⟨by simpa using h.size,λi a=> ?_⟩;rw[mT,mT,h.size];split
 .rfl
 .exact h.agree i a
def aaT:∀{k l:List Item} {id:Nat},exitTo id k=some l->k.all (lM J)=true->l.all (lM J)=true
 |[],_,_,h,_=>by cases h
 |x::k,l,id,h,hk=>by
  simp only[qy,ff] at hk;unfold exitTo at h;split at h
  .rename_i a b e;cases e;split at h
   .cases h;exact hk.2
   .exact aaT h hk.2
  .rename_i e;cases e;exact aaT h hk.2
  .rename_i e;cases e
def akI{fr:Frame}{g:Nat}(h:early P fr cs none g w=.go U X es) :
  U.frame.kind=.early\/(U=⟨fr,cs,.running,none,none⟩/\∀(cA:Frame) (a:List Frame),cA.kind=fr.kind->early P cA a none g w=.go ⟨cA,a,.running,none,none⟩ X es):=by
 have d:∀{w X:World} {U:Goroutine} {es:Array Event},(match w.heap[g]? with
   |some (.pending c b)=>GStep.go ⟨fr,cs,.running,none,none⟩ {w with heap:=w.heap.setIfInBounds g (.cells c b)}
   |_=>.ended (.stuck "early: the variable does not wait" (fr.pos P)) w)=.go U X es->U=⟨fr,cs,.running,none,none⟩/\∀(cA:Frame) (a:List Frame),(match w.heap[g]? with
   |some (.pending c b)=>GStep.go ⟨cA,a,.running,none,none⟩ {w with heap:=w.heap.setIfInBounds g (.cells c b)}
   |_=>.ended (.stuck "early: the variable does not wait" (cA.pos P)) w)=.go ⟨cA,a,.running,none,none⟩ X es:=λ{w X U es} h=>by
  split at h
  .rename_i c b e;injection h with k j o
   subst k j o;exact⟨rfl,λcA a=>rfl⟩
  .cases h
 unfold early at h ⊢;dsimp only at h ⊢;by_cases k:(!P.follows .staticDataAhead)=true
 .simp only[k,pr] at h ⊢;exact .inr ⟨(d h).1,λcA a _=>(d h).2 cA a⟩
 .simp only[k,qF,kw] at h ⊢;cases j:P.stepOf g with
  |none=>simp only[j] at h;cases h
  |some f=>
   simp only[j] at h ⊢;by_cases o:((P.code? f).any P.atRunTime)=true
   .simp only[o,pr] at h ⊢;exact .inr ⟨(d h).1,λcA a _=>(d h).2 cA a⟩
   .simp only[o,qF,kw] at h ⊢;by_cases s:(((P.code? f).bind λc=>(readies c).getLast?).bind w.shape?).isSome=true
    .simp only[s,pr] at h ⊢;exact .inr ⟨(d h).1,λcA a _=>(d h).2 cA a⟩
    .simp only[s,qF,kw] at h ⊢;have r:∀cA:Frame,cA.kind=fr.kind->(cA.kind ==CallKind.early)=(fr.kind ==CallKind.early):=λcA e=>by rw[e]
     cases u:P.found w P.funcs.size f<;>cases p:(fr.kind ==CallKind.early)<;>simp only[u,p] at h
     .cases h
     .cases h
     .exact .inr ⟨(d h).1,λcA a e=>by rw[r cA e,p];exact(d h).2 cA a⟩
     .cases h
     .by_cases l:((P.code? f).any P.plainData)=true
      .simp only[l,pr] at h;injection h with i;subst i;exact .inl rfl
      .simp only[l,qF,kw] at h;by_cases m:(!(P.code? f).any P.bareCopy)=true
       .simp only[m,pr] at h;exact .inr ⟨(d h).1,λcA a e=>by rw[r cA e,p];simp only[l,m,qF,pr,kw];exact(d h).2 cA a⟩
       .simp only[m,qF,kw] at h;cases t:(choose (.early g)).run P w with
        |ok n v=>
         rw[t] at h;cases n with
         |zero=>exact .inr ⟨(d h).1,λcA a e=>by rw[r cA e,p];simp only[l,m,qF,kw];exact(d h).2 cA a⟩
         |succ n=>injection h with i;subst i;exact .inl rfl
        |halt q v=>rw[t] at h;cases h
     .injection h with i;subst i;exact .inl rfl
theorem aql (h:JR J fr cA) (hm:fr.mode=.run) {cs X:List Frame} {main:Bool} {w w1:World} {es:Array Event} {B:Frame}
  (D:stepG P main ⟨fr,cs,.running,none,none⟩ w=.go ⟨B,X,.running,none,none⟩ w1 es) (K:B.mode=.run\/B.mode=.returning) (al:B.kind=.normal) :
  X=cs/\B.fn=fr.fn/\∃I,JR J B I/\∀C,stepG P main ⟨cA,C,.running,none,none⟩ w=.go ⟨I,C,.running,none,none⟩ w1 es:=by
 have h0:=h;obtain⟨fn,n,ao,ds,md,kd,ro⟩:=fr;obtain⟨p,F,fF,ay,ax,aI,aG⟩:=cA;obtain⟨E,e2,⟨e3,e4⟩,e5,⟨e6,e7⟩,⟨e8,e9⟩,hz,ha,hi⟩:=h;dsimp only at E e2 e3 e4 e5 e6 e7 e8 e9 hz ha hi hm;subst E e2 e3 e4 e5 e6 e7 e8 e9 hm;have G:∀{k:List Item},k.all (lM J)=true->JR J ⟨p,n,k,[],.run,.normal,none⟩ ⟨p,F,k,[],.run,.normal,none⟩:=λ{k} hk=>⟨rfl,rfl,⟨rfl,rfl⟩,rfl,⟨rfl,rfl⟩,⟨rfl,rfl⟩,hz,ha,hk⟩
 have ret:JR J ⟨p,n,fF,[],.returning,.normal,none⟩ ⟨p,F,fF,[],.returning,.normal,none⟩:=⟨rfl,rfl,⟨rfl,rfl⟩,rfl,⟨rfl,rfl⟩,⟨rfl,rfl⟩,hz,ha,hi⟩;have fin:∀{t:Array Value} {t':Array Value} {k:List Item},t'.size=t.size->(∀i,J i=false->t'[i]?=t[i]?)->k.all (lM J)=true->JR J ⟨p,t,k,[],.run,.normal,none⟩ ⟨p,t',k,[],.run,.normal,none⟩:=λa b hk=>⟨rfl,rfl,⟨rfl,rfl⟩,rfl,⟨rfl,rfl⟩,⟨rfl,rfl⟩,a,b,hk⟩;have still:∀{x x':Frame},stepG P main ⟨⟨p,n,fF,[],.run,.normal,none⟩,cs,.running,none,none⟩ w=.go ⟨x,cs,.running,none,none⟩ w->
   (∀C,stepG P main ⟨⟨p,F,fF,[],.run,.normal,none⟩,C,.running,none,none⟩ w=.go ⟨x',C,.running,none,none⟩ w)->JR J x x'->(T:x.fn=p:=by rfl)->
   X=cs/\B.fn=p/\∃I,JR J B I/\∀C,stepG P main ⟨⟨p,F,fF,[],.run,.normal,none⟩,C,.running,none,none⟩ w=.go ⟨I,C,.running,none,none⟩ w1 es:=λ{x x'} a b c T=>by
  rw[a] at D;injection D with W U g3
  injection W with R Y
  subst U g3 R Y;exact⟨rfl,T,x',c,b⟩
 cases fF with
 |nil=>exact still rfl (λ_=>rfl) ret
 |cons it k=>
  simp only[qy,ff] at hi;obtain⟨A,H⟩:=hi;cases it with
  |inBlock id=>exact still rfl (λ_=>rfl) (G H)
  |inLoop c=>exact still rfl (λ_=>rfl) (G (by simp only[qy,ff];exact⟨A,A,H⟩))
  |code c=>
   cases c with
   |skip=>exact still rfl (λ_=>rfl) (G H)
   |ret=>exact still rfl (λ_=>rfl) ret
   |seq a b=>
    simp only[lM,jX,ff] at A;exact still rfl (λ_=>rfl) (G (by simp only[qy,ff];exact⟨A.1,A.2,H⟩))
   |block id a=>exact still rfl (λ_=>rfl) (G (by simp only[qy,ff];exact⟨A,rfl,H⟩))
   |loop a=>exact still rfl (λ_=>rfl) (G (by simp only[qy,ff];exact⟨A,A,H⟩))
   |region id j draw=>
    simp only[lM,jX,ff,vk] at A;obtain⟨rfl,Q⟩:=A;exact still rfl (λ_=>rfl) (G (by simp only[qy,ff];exact⟨Q,H⟩))
   |exit id=>
    cases s:exitTo id k with
    |none=>exact absurd D (by
      have:stepG P main ⟨⟨p,n,.code (.exit id)::k,[],.run,.normal,none⟩,cs,.running,none,none⟩ w=.ended (.stuck "exit, goto: no such block or label" (Frame.pos P ⟨p,n,.code (.exit id)::k,[],.run,.normal,none⟩)) w:=by
       simp[stepG,stepG.exec,s]
      rw[this];intro e;cases e)
    |some l=>
     have E:∀(t:Array Value) (c:List Frame),stepG P main ⟨⟨p,t,.code (.exit id)::k,[],.run,.normal,none⟩,c,.running,none,none⟩ w=.go ⟨⟨p,t,l,[],.run,.normal,none⟩,c,.running,none,none⟩ w:=λt c=>by
      simp[stepG,stepG.exec,s]
     exact still (E _ _) (λ_=>E _ _) (G (aaT s H))
   |cond c a b=>
    simp only[lM,jX,ff] at A;have T:=h0.eval A.1;cases hv:Frame.eval ⟨p,n,.code (.cond c a b)::k,[],.run,.normal,none⟩ c with
    |bool q=>
     rw[hv] at T;have E:∀(t:Array Value) (cc:List Frame),Frame.eval ⟨p,t,.code (.cond c a b)::k,[],.run,.normal,none⟩ c=.bool q->stepG P main ⟨⟨p,t,.code (.cond c a b)::k,[],.run,.normal,none⟩,cc,.running,none,none⟩ w=.go ⟨⟨p,t,.code (if q then a else b)::k,[],.run,.normal,none⟩,cc,.running,none,none⟩ w:=λt cc ht=>by
      simp[stepG,stepG.exec,ht]
     exact still (E _ _ hv) (λ_=>E _ _ T) (G (by simp only[qy,ff];cases q<;>first|exact⟨A.2.1,H⟩|exact⟨A.2.2,H⟩))
    |_=>
     exfalso;have:∃o,stepG P main ⟨⟨p,n,.code (.cond c a b)::k,[],.run,.normal,none⟩,cs,.running,none,none⟩ w=.ended o w:=by
      simp[stepG,stepG.exec,hv]
     obtain⟨o,e⟩:=this;rw[e] at D;cases D
   |_=>cases A
  |inRegion j il=>
   cases il with
   |nil=>exact still rfl (λ_=>rfl) (G H)
   |cons i f=>
    have Z:∀l,(Item.inRegion j l::k).all (lM J)=true:=λl=>by simp only[qy,ff];exact⟨A,H⟩
    cases ho:j[i]? with
    |none=>
     have E:∀(t:Array Value) (c:List Frame),stepG P main ⟨⟨p,t,.inRegion j (i::f)::k,[],.run,.normal,none⟩,c,.running,none,none⟩ w=.go ⟨⟨p,t,.inRegion j f::k,[],.run,.normal,none⟩,c,.running,none,none⟩ w:=λt c=>by
      simp[stepG,stepG.exec,ho,Frame.finish]
     exact still (E _ _) (λ_=>E _ _) (G (Z _))
    |some o=>
     have a0:amI J o=true:=lE.1 A o (rV.2 (qC ho));simp only[amI,ff] at a0;obtain⟨hg,a5,Q⟩:=a0;have lT:o.guard=none:=by simpa using hg
     have hw:∀y,Region.wanted o y=true:=λy=>by unfold Region.wanted;rw[lT]
     have a9:execOp (Frame.eval ⟨p,F,.inRegion j (i::f)::k,[],.run,.normal,none⟩) o=execOp (Frame.eval ⟨p,n,.inRegion j (i::f)::k,[],.run,.normal,none⟩) o:=
      akH a5 λx s=>h0.eval (lE.1 Q x s)
     have E:∀(t:Array Value) (c:List Frame),stepG P main ⟨⟨p,t,.inRegion j (i::f)::k,[],.run,.normal,none⟩,c,.running,none,none⟩ w =
       stepG.apply P true ⟨p,t,.inRegion j (i::f)::k,[],.run,.normal,none⟩ c none (execOp (Frame.eval ⟨p,t,.inRegion j (i::f)::k,[],.run,.normal,none⟩) o) w:=λt c=>by
      simp[stepG,stepG.exec,stepG.oper,Frame.oper?,ho,hw]
     rw[E] at D;cases hr:(execOp (Frame.eval ⟨p,n,.inRegion j (i::f)::k,[],.run,.normal,none⟩) o).runT P w #[] with
     |mk r a3=>
      have a4:(execOp (Frame.eval ⟨p,n,.inRegion j (i::f)::k,[],.run,.normal,none⟩) o).run P w=r:=by rw[<-rj _ _ _ #[],hr]
      have a6:∀(v:Value),(Frame.finish ⟨p,n,.inRegion j (i::f)::k,[],.run,.normal,none⟩ v).fn=p:=λv=>by
       simp only[Frame.finish,ho,qG]
      have a2:∀(v:Value),JR J (Frame.finish ⟨p,n,.inRegion j (i::f)::k,[],.run,.normal,none⟩ v) (Frame.finish ⟨p,F,.inRegion j (i::f)::k,[],.run,.normal,none⟩ v):=λv=>by
       simp only[Frame.finish,ho,qG];cases o.dst with
       |none=>exact G (Z _)
       |some d=>exact fin (h0.set d v).1 (h0.set d v).2 (Z _)
      have e2:∀c,stepG.apply P true ⟨p,F,.inRegion j (i::f)::k,[],.run,.normal,none⟩ c none (execOp (Frame.eval ⟨p,F,.inRegion j (i::f)::k,[],.run,.normal,none⟩) o) w =
        stepG.apply P true ⟨p,F,.inRegion j (i::f)::k,[],.run,.normal,none⟩ c none (execOp (Frame.eval ⟨p,n,.inRegion j (i::f)::k,[],.run,.normal,none⟩) o) w:=λc=>by rw[a9]
      cases r with
      |ok nx w2=>
       have a7:(CallKind.normal ==CallKind.early)=false:=rfl;rcases ait a5 a4 with⟨v,rfl⟩|rfl
       .have a1:∀(t:Array Value) (c:List Frame),stepG.apply P true ⟨p,t,.inRegion j (i::f)::k,[],.run,.normal,none⟩ c none (execOp (Frame.eval ⟨p,n,.inRegion j (i::f)::k,[],.run,.normal,none⟩) o) w=.go ⟨Frame.finish ⟨p,t,.inRegion j (i::f)::k,[],.run,.normal,none⟩ v,c,.running,none,none⟩ w2 (seen P p a3):=λt c=>by
         unfold stepG.apply;simp only[hr,pr];simp[GStep.after,a7]
        rw[a1] at D;injection D with W U g3
        injection W with R Y
        subst U g3 R Y;exact⟨rfl,a6 v,_,a2 v,λc=>by rw[E,e2,a1]⟩
       .have a1:∀(t:Array Value) (c:List Frame),stepG.apply P true ⟨p,t,.inRegion j (i::f)::k,[],.run,.normal,none⟩ c none (execOp (Frame.eval ⟨p,n,.inRegion j (i::f)::k,[],.run,.normal,none⟩) o) w=.go ⟨Frame.finish ⟨p,t,.inRegion j (i::f)::k,[],.run,.normal,none⟩ undef,c,.running,none,none⟩ w2 (seen P p a3):=λt c=>by
         unfold stepG.apply;simp only[hr,pr];simp[GStep.after,a7]
        rw[a1] at D;injection D with W U g3
        injection W with R Y
        subst U g3 R Y;exact⟨rfl,a6 undef,_,a2 undef,λc=>by rw[E,e2,a1]⟩
      |halt q w2=>
       have hq:∀(t:Array Value) (c:List Frame),∃u,(q=.unsupported (.initOrder u)/\stepG.apply P true ⟨p,t,.inRegion j (i::f)::k,[],.run,.normal,none⟩ c none (execOp (Frame.eval ⟨p,n,.inRegion j (i::f)::k,[],.run,.normal,none⟩) o) w=GStep.after (seen P p #[]) (early P ⟨p,t,.inRegion j (i::f)::k,[],.run,.normal,none⟩ c none u w2))\/
         (∀(S:Goroutine) ww ee,stepG.apply P true ⟨p,t,.inRegion j (i::f)::k,[],.run,.normal,none⟩ c none (execOp (Frame.eval ⟨p,n,.inRegion j (i::f)::k,[],.run,.normal,none⟩) o) w=.go S ww ee->S.status=.running->S.dying=none->S.frame.mode ≠ .run/\S.frame.mode ≠ .returning):=λt c=>by
        have M:(CallKind.normal ==CallKind.early)=false:=rfl;by_cases a8:∃u,q=.unsupported (.initOrder u)
        .obtain⟨u,rfl⟩:=a8;refine⟨u,.inl ⟨rfl, ?_⟩⟩;unfold stepG.apply;simp only[hr,pr];simp[M]
        .refine⟨0,.inr λS ww ee s h1 h2=> ?_⟩;unfold stepG.apply at s;simp only[hr,pr] at s;cases q with
         |unsupported u=>
          cases u with
          |initOrder g=>exact absurd ⟨g,rfl⟩ a8
          |_=>simp[GStep.after] at s
         |panic v=>simp[GStep.after] at s;obtain⟨rfl, -⟩:=s;exact⟨by simp[Frame.raise],by simp[Frame.raise]⟩
         |goexit=>simp[GStep.after] at s;obtain⟨rfl, -⟩:=s;exact⟨by simp[Frame.raise],by simp[Frame.raise]⟩
         |blocked=>simp[GStep.after] at s;obtain⟨rfl, -⟩:=s;cases h1
         |waiting=>simp[GStep.after] at s;obtain⟨rfl, -⟩:=s;cases h1
         |exit c=>simp[GStep.after] at s
         |stuck c=>simp[GStep.after] at s
         |throw m=>simp[GStep.after,endThrow,dieOf] at s;obtain⟨rfl, -⟩:=s;cases h2
         |fatal m=>
          exfalso;dsimp only at s;unfold endFatal at s;dsimp only at s;generalize Sem.run P _ w2=z at s;cases z with
          |ok z1 z2=>simp[GStep.after,dieOf] at s;obtain⟨rfl, -⟩:=s;cases h2
          |halt z1 z2=>cases z1<;>simp[GStep.after] at s
       obtain⟨u,N⟩:=hq n cs;rcases N with⟨rfl,T⟩|af
       .rw[T] at D;cases O:early P ⟨p,n,.inRegion j (i::f)::k,[],.run,.normal,none⟩ cs none u w2 with
        |go S ww ee=>
         rw[O] at D;simp only[GStep.after] at D;injection D with W U g3
         subst W U g3;rcases akI O with V|⟨ad,L⟩
         .dsimp only at V;rw[al] at V;cases V
         .injection ad with R Y
          subst R Y;refine⟨rfl,rfl,_,h0,λc=> ?_⟩;rw[E,e2];obtain⟨u',N⟩:=hq F c;rcases N with⟨hu,aa⟩|an
          .cases hu;rw[aa,L ⟨p,F,.inRegion j (i::f)::k,[],.run,.normal,none⟩ c rfl];rfl
          .exfalso;have:=hq F c;obtain⟨u2,h2⟩:=this;have M:(CallKind.normal ==CallKind.early)=false:=rfl;have s:stepG.apply P true ⟨p,F,.inRegion j (i::f)::k,[],.run,.normal,none⟩ c none (execOp (Frame.eval ⟨p,n,.inRegion j (i::f)::k,[],.run,.normal,none⟩) o) w=GStep.after (seen P p #[]) (early P ⟨p,F,.inRegion j (i::f)::k,[],.run,.normal,none⟩ c none u w2):=by
            unfold stepG.apply;simp only[hr,pr];simp[M]
           rw[L ⟨p,F,.inRegion j (i::f)::k,[],.run,.normal,none⟩ c rfl] at s;exact(an _ _ _ s rfl rfl).1 rfl
        |_=>rw[O] at D;cases D
       .exfalso;have:=af _ _ _ D rfl rfl;rcases K with K|K
        .exact this.1 K
        .exact this.2 K
  |_=>cases A
def aqm(h:JR J fr cA)(m:fr.mode=.returning)(b:∃fn,P.funcs[fr.fn]?=some fn/\results fn cA.tmps=results fn fr.tmps){c:Frame}{main:Bool} :
  stepG P main ⟨cA,c::cs,.running,none,none⟩ w=stepG P main ⟨fr,c::cs,.running,none,none⟩ w:=by
 obtain⟨fn,a,s,K,I,H,G⟩:=fr;obtain⟨d,E,f,x,u,D,B⟩:=cA;obtain⟨n,k,⟨o,p⟩,e,⟨j,g⟩,⟨l,i⟩,y,F,C⟩:=h;dsimp only at n k o p e j g l i y F C m b;subst n k o p e j g l i m;show unwind P main ⟨d,E,f,[],.returning,.normal,none⟩ (c::cs) none w=unwind P main ⟨d,a,f,[],.returning,.normal,none⟩ (c::cs) none w;unfold unwind;dsimp only;obtain⟨fn,A,b⟩:=b;rw[A];dsimp only;rw[b];generalize (results fn a).runT P w #[]=z;obtain⟨r,L⟩:=z;cases r with
 |ok v t=>rfl
 |halt q t=>cases q<;>rfl
end
end
section
open Go.Conc Go.ConcN
open Go.ConcR (KK wgBlock WgAt stA smA rd wr mk Payload DC0 Bk g_of_ofEvents ofEvent_mk)
abbrev au:=Nat->Prop
def In(S:au):Loc->Prop
 |.cell a=>S a.block
 |.obj r=>S r
 |_=>False
inductive jv where
 |leaf
 |node (f:World->jv)
def jv.Lt(a b:jv):Prop:=∃f w,b=.node f/\a=f w
def jv.wf:WellFounded jv.Lt:=⟨λt=>by
 induction t with
 |leaf=>exact⟨_,by rintro _ ⟨g,w,e,rfl⟩;cases e⟩
 |node f a=>exact⟨_,by rintro _ ⟨g,w,e,rfl⟩;cases e;exact a w⟩⟩
def VLt(N:Nat)(f g:Nat->jv):Prop:=∃i,i<N/\jv.Lt (f i) (g i)/\∀k,k≠i->f k=g k
def amJ:∀(N:Nat) (g:Nat->jv),Acc (VLt N) g
 |0,g=>⟨_,λf ⟨i,hi,_⟩=>absurd hi (sF i)⟩
 |N+1,g=>by
  have a:∀t:jv,∀g:Nat->jv,g N=t->Acc (VLt (N+1)) g:=by
   intro t
   induction t using jv.wf.induction with
   |_ t d=>
    intro g
    induction amJ N g with
    |intro g _ b=>
     intro c;refine⟨_,λf ⟨i,hi,hlt,hk⟩=> ?_⟩;by_cases e:i=N
     .subst e;exact d (f i) (c▸hlt) f rfl
     .exact b f ⟨i,by omega,hlt,hk⟩ ((hk N (sj e)).trans c)
  exact a _ g rfl
abbrev Mu:=Nat×((Nat->jv)×Nat)
def aaU(N:Nat):Mu->Mu->Prop:=Prod.Lex (· < ·) (Prod.Lex (VLt N) (· < ·))
def atG(N:Nat):WellFounded (aaU N):=(Prod.lex Nat.lt_wfRel ⟨_,(Prod.lex ⟨_,⟨amJ N⟩⟩ Nat.lt_wfRel).wf⟩).wf
section
variable (P:Program) (main:Bool) (Rl:au->World->World->Prop) (Gr:au->au->World->World->Array Event->Prop) (Stop:au->Goroutine->World->Prop)
def pU:jv->au->Goroutine->World->Prop
 |.leaf,S,g,w=>∀a,Rl S w a->Stop S g a
 |.node f,S,g,w=>(∀a,Rl S w a->Stop S g a)\/(g.status=.running/\∀a,Rl S w a->∃e b d c,stepG P main g a=.go e b d/\Gr S c a b d/\pU (f a) c e b)
def bI(S:au)(g:Goroutine)(w:World):Prop:=∃T,pU P main Rl Gr Stop T S g w
end
section
variable {P:Program} {main:Bool} {Rl:au->World->World->Prop} {Gr:au->au->World->World->Array Event->Prop} {Stop aeC:au->Goroutine->World->Prop} {S:au} {g:Goroutine} {w w₁:World}
def pU.cases{T:jv}(h:pU P main Rl Gr Stop T S g w):(∀w₁,Rl S w w₁->Stop S g w₁)\/∃f,T=.node f/\g.status=.running/\∀w₁,Rl S w w₁->∃d a c b,stepG P main g w₁=.go d a c/\Gr S b w₁ a c/\pU P main Rl Gr Stop (f w₁) b d a:=by
 cases T with
 |leaf=>exact .inl h
 |node f=>exact Or.imp id (λx=>⟨f,rfl,x⟩) h
def bI.stop(h:∀w₁,Rl S w w₁->Stop S g w₁):bI P main Rl Gr Stop S g w:=⟨.leaf,h⟩
def bI.step(l:g.status=.running)(h:∀w₁,Rl S w w₁->∃d a c b,stepG P main g w₁=.go d a c/\Gr S b w₁ a c/\bI P main Rl Gr Stop b d a):bI P main Rl Gr Stop S g w:=by
 classical
 have f:∀w₁,∃T,Rl S w w₁->∃d a c b,stepG P main g w₁=.go d a c/\Gr S b w₁ a c/\pU P main Rl Gr Stop T b d a:=λw₁=>by
  by_cases e:Rl S w w₁
  .obtain⟨d,a,c,b,j,i,T,k⟩:=h w₁ e;exact⟨T,λ_=>⟨d,a,c,b,j,i,k⟩⟩
  .exact⟨.leaf,λx=>absurd x e⟩
 exact⟨.node λw₁=>(f w₁).choose,.inr ⟨l,λw₁ e=>(f w₁).choose_spec e⟩⟩
def pU.rely(i:∀S a b c,Rl S a b->Rl S b c->Rl S a c){T:jv}(h:pU P main Rl Gr Stop T S g w)(j:Rl S w w₁):pU P main Rl Gr Stop T S g w₁:=by
 cases T with
 |leaf=>exact λe d=>h e (i _ _ _ _ j d)
 |node f=>exact Or.imp (λh e d=>h e (i _ _ _ _ j d)) (λx=>⟨x.1,λe d=>x.2 e (i _ _ _ _ j d)⟩) h
def bI.bind(d:∀S w,Rl S w w)(e:∀S a b c,Rl S a b->Rl S b c->Rl S a c)(h:bI P main Rl Gr Stop S g w)(i:∀S g w,Stop S g w->bI P main Rl Gr aeC S g w):bI P main Rl Gr aeC S g w:=by
 obtain⟨T,h⟩:=h
 induction T generalizing S g w with
 |leaf=>exact i _ _ _ (h w (d _ _))
 |node f q=>
  rcases h with h|⟨o,h⟩
  .exact i _ _ _ (h w (d _ _))
  .exact bI.step o λw₁ l=>let⟨s,j,m,p,r,k,n⟩:=h w₁ l;⟨s,j,m,p,r,k,q w₁ n⟩
def bI.abv{R:World->World->Prop}{D:World->World->Array Event->Prop}{St:Goroutine->World->Prop}(d:∀w w₁,Rl S w w₁->R w w₁)(i:∀w b c,D w b c->Gr S S w b c)(e:∀g w,St g w->Stop S g w) :
  ∀{n:Nat} {g:Goroutine} {w:World},Goes P main R D St n g w->bI P main Rl Gr Stop S g w
 |0,_,_,h=>.stop λw₁ a=>e _ _ (h w₁ (d _ _ a))
 |n+1,g,w,h=>by
  rcases h with h|⟨j,h⟩
  .exact .stop λw₁ a=>e _ _ (h w₁ (d _ _ a))
  .refine .step j λw₁ a=> ?_;have:=h w₁ (d _ _ a);cases f:stepG P main g w₁ with
   |go k b c=>
    rw[f,tz] at this;exact⟨k,b,c,S,rfl,i _ _ _ this.1,bI.abv d i e this.2⟩
   |_=>rw[f] at this;exact this.elim
def pU.running(b:∀S g w,Stop S g w->g.status=.running)(a:∀S w,Rl S w w){T:jv}(h:pU P main Rl Gr Stop T S g w):g.status=.running:=by
 rcases h.cases with h|⟨_,_,h,_⟩
 .exact b _ _ _ (h w (a _ _))
 .exact h
end
section
variable [Payload] (ty:TypeId) (Wg C N:Nat)
structure jB (R cl S:au) (w w₁:World):Prop where
 keep:∀b,S b\/R b->w₁.heap[b]?=w.heap[b]?
 size:w.heap.size<=w₁.heap.size
 os:w₁.ou=w.ou
 live:WgLive ty Wg w->WgLive ty Wg w₁
 pay:PayAt C N w->PayAt C N w₁
 cell:∀i,cl i->w₁.cell? ⟨C,i,none⟩=w.cell? ⟨C,i,none⟩
structure EvP (R cl S:au) (B:Nat) (e:Event):Prop where
 touch:∀x,(MemAct.ofEvent e).touch?=some x->In S x.loc\/(∃a,x.loc=.cell a/\a.block=C/\cl a.off)\/(In R x.loc/\x.write=false)
 dis:e.loc ≠ .mark .disable
 en:e.loc ≠ .mark .enable
 rel:e.loc ≠ .mark (.release (stA Wg))
 low:(MemAct.ofEvent e).low B
structure Gua (R cl S S':au) (w w':World) (es:Array Event):Prop where
 keep:∀b,b<w.heap.size->¬S b->b≠C->w'.heap[b]?=w.heap[b]?
 size:w.heap.size<=w'.heap.size
 os:w'.ou=w.ou
 pay:PayAt C N w->PayAt C N w'
 cell:∀i,¬cl i->w'.cell? ⟨C,i,none⟩=w.cell? ⟨C,i,none⟩
 mono:∀b,S b->S' b
 new:∀b,S' b->S b\/(w.heap.size<=b/\b<w'.heap.size)
 ev:∀e∈es,EvP Wg C R cl S' w'.heap.size e
end
section
variable [Payload] {ty:TypeId} {Wg C N:Nat} {R cl S S' atH aqn atI:au} {w w₁ w₂ w':World} {es:Array Event}
def jB.refl(R cl S:au)(w:World):jB ty Wg C N R cl S w w:=⟨λ_ _=>rfl,am _,rfl,id,id,λ_ _=>rfl⟩
def jB.trans(h:jB ty Wg C N R cl S w w₁)(k:jB ty Wg C N R cl S w₁ w₂):jB ty Wg C N R cl S w w₂:=
 ⟨λb a=>(k.keep b a).trans (h.keep b a),ap h.size k.size,k.os.trans h.os,k.live∘h.live,k.pay∘h.pay,λi c=>(k.cell i c).trans (h.cell i c)⟩
def jB.at(R cl S:au)(w:World)(d:Nat):jB ty Wg C N R cl S w (w.at d):=⟨λ_ _=>rfl,am _,rfl,id,id,λ_ _=>rfl⟩
def jB.akK(h:Gua Wg C N R cl S S' w w' es)(a:∀b,atI b\/atH b->b<w.heap.size/\¬S b/\b≠C)(g:∀i,aqn i->¬cl i)(c:Wg<w.heap.size/\¬S Wg/\Wg≠C):jB ty Wg C N atH aqn atI w w':=
 ⟨λb d=>h.keep b (a b d).1 (a b d).2.1 (a b d).2.2,h.size,h.os,λ⟨j,sm,e⟩=>⟨j,sm,e.of_block (h.keep Wg c.1 c.2.1 c.2.2)⟩,h.pay,λi f=>h.cell i (g i f)⟩
def jB.of_wg(h:Aside Wg w w')(d:WgLive ty Wg w')(c:∀b,atI b\/atH b->b≠Wg)(a:C≠Wg):jB ty Wg C N atH aqn atI w w':=
 ⟨λb g=>h.block b (c b g),oS h.size.symm,ayh h.os h.output,λ_=>d,λ⟨e,j,f⟩=>⟨e,(h.block C a).trans j,f⟩,λi _=>un (h.block C a) i⟩
def jB.rw(h:jB ty Wg C N R cl S w w')(hi:cl i):RW ty Wg C N 0 i w w':=⟨λb a=>absurd a (sF b),h.live,h.pay,h.cell i hi⟩
end
section
variable {Sh:Loc->Prop} {Own Rd awZ Rd':Nat->Loc->Prop} {t:Trace} {j:Nat}
def afZ(h:CT Sh Own Rd t j)(n:∀k,1<=k->k<=j->∀l,awZ k l->Own k l\/∀i a,touchAt t i=some a->a.loc≠l)(m:∀k,1<=k->k<=j->∀l,Own k l->awZ k l)(g:∀k,1<=k->k<=j->∀l,Rd' k l↔Rd k l):CT Sh awZ Rd' t j:=
 ⟨h.quiet,λk b c l d=>(n k b c l d).elim (h.own k b c l) λo i a p e=>absurd e (o i a p),λk b c l d=>h.rd k b c l ((g k b c l).1 d),
  λl f d=>h.free l f λk b c=>⟨λx=>(d k b c).1 (m k b c l x),λx=>(d k b c).2 ((g k b c l).2 x)⟩,λl f d=>h.mine l f λk b c x=>d k b c (m k b c l x),h.nr,h.gs⟩
end
variable [Payload]
def dR(κ:Nat):au:=λi=>i / 2=κ
def noC:au:=λ_=>False
abbrev FF:Nat->Loc->Prop:=λ_ _=>False
section
variable (P:Program) (ty:TypeId) (Wg C n K0:Nat) (val:Nat->Value) (aY:au)
def af0(κ:Nat):au->Goroutine->World->Prop:=λ_ g w=>AtR0 P ty Wg C (2*n) 0 (2*κ+1) (val (2*κ)) g w/\Has C (2*κ+1) (val (2*κ+1)) w
abbrev GW(κ:Nat)(R:au):jv->au->Goroutine->World->Prop:=pU P false (jB ty Wg C (2*n) R (dR κ)) (Gua Wg C (2*n) R (dR κ)) (af0 P ty Wg C n val κ)
inductive WK (κ:Nat) (R:au):Nat->Nat->Nat->jv->au->Goroutine->World->Prop
 |work {T:jv} {S:au} {g:Goroutine} {w:World}:GW P ty Wg C n val κ R T S g w->WK κ R 7 0 0 T S g w
 |rest {s m d:Nat} {T:jv} {S:au} {g:Goroutine} {w:World}:s<=6->WSit P ty Wg C (2*n) FF FF 0 (2*κ+1) (val (2*κ)) s m d g w->WK κ R s m d T S g w
abbrev RM(R S:au):World->World->Prop:=jB ty Wg C (2*n) R noC S
def aaV(e:Event):Prop:=∃a:Addr,a.block=Wg/\(e=mk (.read a)\/e=mk (.write a))
def DSd(w w':World)(es:Array Event):Prop:=w'=w/\∀e∈es,aaV Wg e
section
variable (R S:au) (aT Fin:au->au->Goroutine->World->Prop)
abbrev GP(St:Goroutine->World->Prop)(m:Nat)(g:Goroutine)(w:World):Prop:=Goes P true (RM ty Wg C n R S) (DSd Wg) St m g w
def aw0(g:Goroutine)(w:World):Prop:=g.status=.running/\∃a,stepG P true g w=.go a w #[mk (.acquire (stA Wg))]/\Fin R S a w
def MKe(g:Goroutine)(w:World):Prop:=g.status=.running/\∃a,stepG P true g w=.go a w #[mk .enable]/\∃m,GP P ty Wg C n R S (aw0 P Wg R S Fin) m a w
def MW4(g:Goroutine)(w:World):Prop:=g.status=.running/\(WgAt ty Wg w 0 0->∃a,stepG P true g w=.go a w #[rd (stA Wg)]/\∃m,GP P ty Wg C n R S (MKe P ty Wg C n R S Fin) m a w)
def MW3(g:Goroutine)(w:World):Prop:=g.status=.running/\g.offers=none/\
  ((∃b,WgAt ty Wg w b 0)->stepG P true g w=.go {g with status:=.blocked} w #[])/\
  (WgAt ty Wg w 0 1->∃a,stepG P true g w=.go a (w.setCell (smA Wg) (.int .u32 0)) (semEvents (smA Wg))/\∃m,GP P ty Wg C n R S (MW4 P ty Wg C n R S Fin) m a (w.setCell (smA Wg) (.int .u32 0)))
def MW2(vs:Nat)(g:Goroutine)(w:World):Prop:=g.status=.running/\∀v:Nat,v<2147483648->WgAt ty Wg w (v*KK) 0->
  (v=vs->∃a,stepG P true g w=.go a (w.setCell (stA Wg) (.int .u64 (v*KK+1))) #[rd (stA Wg),wr (stA Wg)]/\∃m,GP P ty Wg C n R S (MW3 P ty Wg C n R S Fin) m a (w.setCell (stA Wg) (.int .u64 (v*KK+1))))/\
  (v≠vs->∃a,stepG P true g w=.go a w #[rd (stA Wg)]/\∃m,GP P ty Wg C n R S (aT R S) m a w)
def MW1(g:Goroutine)(w:World):Prop:=g.status=.running/\∀v:Nat,v<2147483648->WgAt ty Wg w (v*KK) 0->∃a,stepG P true g w=.go a w #[rd (stA Wg)]/\
  (v=0->∃m,GP P ty Wg C n R S (MKe P ty Wg C n R S Fin) m a w)/\(v≠0->∃m,GP P ty Wg C n R S (MW2 P ty Wg C n R S aT Fin v) m a w)
def MKd(g:Goroutine)(w:World):Prop:=g.status=.running/\∃a,stepG P true g w=.go a w #[mk .disable]/\∃m,GP P ty Wg C n R S (aT R S) m a w
end
abbrev GM(R:au)(St:au->Goroutine->World->Prop):jv->au->Goroutine->World->Prop:=pU P true (jB ty Wg C (2*n) R noC) (Gua Wg C (2*n) R noC) St
section
variable (j:Nat) (Next:au->Goroutine->World->Prop) (R S:au)
def MGo(S:au)(g:Goroutine)(w:World):Prop:=g.status=.running/\∃d a c,stepG P true g w=.spawn d a w #[]/\(∀b,c b->S b\/R b)/\
  (PayAt C (2*n) w->WgLive ty Wg w->∃T,GW P ty Wg C n val j c T (λ_=>False) a w)/\Next (λb=>S b\/R b) d w
def aw1(g:Goroutine)(w:World):Prop:=g.status=.running/\∃a,stepG P true g w=.go a w #[mk .enable]/\∃T,GM P ty Wg C n R (MGo P ty Wg C n val j Next R) T S a w
def MA1(g:Goroutine)(w:World):Prop:=g.status=.running/\∀v:Nat,v<2147483647->WgAt ty Wg w (v*KK) 0->
  ∃a,stepG P true g w=.go a (w.setCell (stA Wg) (.int .u64 ((v+1)*KK))) #[rd (stA Wg),wr (stA Wg)]/\∃m,GP P ty Wg C n R S (aw1 P ty Wg C n val j Next R S) m a (w.setCell (stA Wg) (.int .u64 ((v+1)*KK)))
def aqo(g:Goroutine)(w:World):Prop:=g.status=.running/\∃a,stepG P true g w=.go a w #[mk .disable]/\∃m,GP P ty Wg C n R S (MA1 P ty Wg C n val j Next R S) m a w
end
variable (aT Fin:au->au->Goroutine->World->Prop)
def tK:Nat->au->Goroutine->World->Prop
 |0,R,g,w=>∃T,GM P ty Wg C n R (λS g w=>MKd P ty Wg C n R S aT g w) T (λ_=>False) g w
 |r+1,R,g,w=>∃T,GM P ty Wg C n R (λS g w=>aqo P ty Wg C n val (n-(r+1)) (tK r) R S g w) T (λ_=>False) g w
inductive fj:CTag->Nat->au->au->jv->Nat->Nat->Goroutine->World->Prop
 |skd {r:Nat} {R S:au} {T:jv} {g:Goroutine} {w:World}:r<n->GM P ty Wg C n R (λS g w=>aqo P ty Wg C n val (n-(r+1)) (tK P ty Wg C n val aT r) R S g w) T S g w->fj (.sp r 5) (n-(r+1)) R S T 0 0 g w
 |sa1 {r m:Nat} {R S:au} {T:jv} {g:Goroutine} {w:World}:r<n->GP P ty Wg C n R S (MA1 P ty Wg C n val (n-(r+1)) (tK P ty Wg C n val aT r) R S) m g w->fj (.sp r 4) (n-(r+1)) R S T m 1 g w
 |ske {r m:Nat} {R S:au} {T:jv} {g:Goroutine} {w:World}:r<n->GP P ty Wg C n R S (aw1 P ty Wg C n val (n-(r+1)) (tK P ty Wg C n val aT r) R S) m g w->fj (.sp r 3) (n-(r+1)) R S T m 1 g w
 |sgo {r:Nat} {R S:au} {T:jv} {g:Goroutine} {w:World}:r<n->GM P ty Wg C n R (MGo P ty Wg C n val (n-(r+1)) (tK P ty Wg C n val aT r) R) T S g w->fj (.sp r 2) (n-(r+1)) R S T 0 0 g w
 |kd {R S:au} {T:jv} {g:Goroutine} {w:World}:GM P ty Wg C n R (λS g w=>MKd P ty Wg C n R S aT g w) T S g w->fj .kd n R S T 0 0 g w
 |anch {m:Nat} {R S:au} {T:jv} {g:Goroutine} {w:World}:GP P ty Wg C n R S (aT R S) m g w->fj .anch n R S T m 1 g w
 |w1 {m:Nat} {R S:au} {T:jv} {g:Goroutine} {w:World}:GP P ty Wg C n R S (MW1 P ty Wg C n R S aT Fin) m g w->fj .w1 n R S T m 1 g w
 |w2 {vs m:Nat} {R S:au} {T:jv} {g:Goroutine} {w:World}:GP P ty Wg C n R S (MW2 P ty Wg C n R S aT Fin vs) m g w->fj (.w2 vs) n R S T m 1 g w
 |w3 {m:Nat} {R S:au} {T:jv} {g:Goroutine} {w:World}:GP P ty Wg C n R S (MW3 P ty Wg C n R S Fin) m g w->fj .w3 n R S T (m+1) 1 g w
 |blk {R S:au} {T:jv} {g:Goroutine} {w:World}:(∀w₁,RM ty Wg C n R S w w₁->MW3 P ty Wg C n R S Fin g w₁)->fj .blk n R S T 0 1 {g with status:=.blocked} w
 |w4 {m:Nat} {R S:au} {T:jv} {g:Goroutine} {w:World}:GP P ty Wg C n R S (MW4 P ty Wg C n R S Fin) m g w->fj .w4 n R S T m 1 g w
 |ke {m:Nat} {R S:au} {T:jv} {g:Goroutine} {w:World}:GP P ty Wg C n R S (MKe P ty Wg C n R S Fin) m g w->fj .ke n R S T m 1 g w
 |acq {m:Nat} {R S:au} {T:jv} {g:Goroutine} {w:World}:GP P ty Wg C n R S (aw0 P Wg R S Fin) m g w->fj .acq n R S T m 0 g w
def Shr(Wg:Nat)(aY:au)(l:Loc):Prop:=∃a,l=.cell a/\(a.block=Wg\/aY a.block)
def aaW(C K0:Nat)(O:Nat->au)(k:Nat)(l:Loc):Prop:=∃b,k=K0+1+b/\(In (O b) l\/∃a,l=.cell a/\a.block=C/\a.off / 2=b)
def RdL(K0:Nat)(Rk:Nat->au)(k:Nat)(l:Loc):Prop:=∃a,k=K0+1+a/\In (Rk a) l
structure Sets (w:World) (R S:au) (O Rk:Nat->au):Prop where
 rlt:∀b,R b->b<w.heap.size
 slt:∀b,S b->b<w.heap.size
 olt:∀κ b,O κ b->b<w.heap.size
 rk:∀κ b,Rk κ b->R b
 rs:∀b,R b->¬S b
 orr:∀κ b,O κ b->¬R b
 os:∀κ b,O κ b->¬S b
 oo:∀κ gC b,O κ b->O gC b->κ=gC
 wlt:Wg<w.heap.size
 clt:C<w.heap.size
 cw:C≠Wg
 wr:¬R Wg
 ws:¬S Wg
 wo:∀κ,¬O κ Wg
 cr:¬R C
 cs:¬S C
 co:∀κ,¬O κ C
 shr:∀b,aY b->¬R b
 shs:∀b,aY b->¬S b
 sho:∀κ b,aY b->¬O κ b
 shc:¬aY C
 aiu:∀b,aY b->b<w.heap.size
end
section
variable {Wg C K0:Nat} {aY R S:au} {w w':World} {O Rk:Nat->au}
omit [Payload] in
def In.mono{S a:au}(h:∀b,S b->a b){l:Loc}(x:In S l):In a l:=by
 cases l<;>first|exact h _ x|exact x.elim
omit [Payload] in
def In.no{S a:au}(h:∀b,S b->¬a b){l:Loc}(x:In S l):¬In a l:=by
 cases l<;>first|exact h _ x|exact x.elim
omit [Payload] in
def In.block{S:au}{l:Loc}(x:In S l){a:Addr}(e:l=.cell a):S a.block:=by subst e;exact x
omit [Payload] in
def Sets.apart(h:Sets Wg C aY w R S O Rk):Apart (Shr Wg aY) (aaW C K0 O) (RdL K0 Rk) where
 own:=by
  rintro k m l ⟨f,rfl,d⟩ ⟨i,rfl,c⟩;have:f=i:=by
   rcases d with d|⟨a,rfl,g,o⟩<;>rcases c with c|⟨b,e,j,n⟩
   .cases l<;>first|exact h.oo _ _ _ d c|exact d.elim
   .subst e;exact absurd (j▸d) (h.co f)
   .exact absurd (g▸c) (h.co i)
   .cases e;omega
  rw[this]
 ownRd:=by
  rintro k m l ⟨f,rfl,d⟩ ⟨i,rfl,c⟩;rcases d with d|⟨a,rfl,g, -⟩
  .cases l<;>first|exact h.orr _ _ d (h.rk _ _ c)|exact d.elim
  .exact h.cr (g▸h.rk _ _ c)
 ownSh:=by
  rintro k l ⟨f,rfl,d⟩ ⟨a,rfl,c⟩;rcases d with d|⟨b,e,g, -⟩
  .rcases c with c|c
   .exact h.wo f (c▸d)
   .exact h.sho f _ c d
  .cases e;rcases c with c|c
   .exact h.cw (g.symm.trans c)
   .exact h.shc (g▸c)
 rdSh:=by
  rintro k l ⟨f,rfl,d⟩ ⟨a,rfl,c⟩;rcases c with c|c
  .exact h.wr (c▸h.rk _ _ d)
  .exact h.shr _ c (h.rk _ _ d)
omit [Payload] in
def Sets.at(h:Sets Wg C aY w R S O Rk)(d:Nat):Sets Wg C aY (w.at d) R S O Rk:=⟨h.rlt,h.slt,h.olt,h.rk,h.rs,h.orr,h.os,h.oo,h.wlt,h.clt,h.cw,h.wr,h.ws,h.wo,h.cr,h.cs,h.co,h.shr,h.shs,h.sho,h.shc,h.aiu⟩
omit [Payload] in
def Sets.size(h:Sets Wg C aY w R S O Rk)(a:w.heap.size<=w'.heap.size):Sets Wg C aY w' R S O Rk:=
 ⟨λb x=>bd (h.rlt b x) a,λb x=>bd (h.slt b x) a,λc b x=>bd (h.olt c b x) a,h.rk,h.rs,h.orr,h.os,h.oo,bd h.wlt a,bd h.clt a,h.cw,h.wr,h.ws,h.wo,h.cr,h.cs,h.co,h.shr,h.shs,h.sho,h.shc,λb x=>bd (h.aiu b x) a⟩
omit [Payload] in
def Sets.aza(h:Sets Wg C aY w R S O Rk)(o:w.heap.size<=w'.heap.size){g:au}(k:∀b,g b->O κ b\/(w.heap.size<=b/\b<w'.heap.size)):Sets Wg C aY w' R S (upd O κ g) Rk:=by
 have a:∀{c:Nat} {b:Nat},upd O κ g c b->O c b\/(c=κ/\w.heap.size<=b/\b<w'.heap.size):=λ{c b} x=>by
  by_cases e:c=κ
  .subst e;rw[qi] at x;exact(k b x).imp id λy=>⟨rfl,y⟩
  .rw[qO O _ e] at x;exact .inl x
 have d:=h.size o;refine⟨d.rlt,d.slt,λc b x=> ?_,h.rk,h.rs,λc b x=> ?_,λc b x=> ?_,λj n b x y=> ?_,d.wlt,d.clt,h.cw,h.wr,h.ws,λc x=> ?_,h.cr,h.cs,λc x=> ?_,h.shr,h.shs,λc b i x=> ?_,h.shc,d.aiu⟩
 .rcases a x with x|⟨-, -,x⟩
  .exact d.olt _ _ x
  .exact x
 .rcases a x with x|⟨-,x, -⟩
  .exact h.orr _ _ x
  .intro f;have:=h.rlt b f;omega
 .rcases a x with x|⟨-,x, -⟩
  .exact h.os _ _ x
  .intro f;have:=h.slt b f;omega
 .rcases a x with x|⟨l,x, -⟩<;>rcases a y with y|⟨m,y, -⟩
  .exact h.oo _ _ _ x y
  .have:=h.olt _ _ x;omega
  .have:=h.olt _ _ y;omega
  .rw[l,m]
 .rcases a x with x|⟨-,x, -⟩
  .exact h.wo _ x
  .have:=h.wlt;omega
 .rcases a x with x|⟨-,x, -⟩
  .exact h.co _ x
  .have:=h.clt;omega
 .rcases a x with x|⟨-,x, -⟩
  .exact h.sho _ _ i x
  .have:=h.aiu b i;omega
omit [Payload] in
def Sets.avN(h:Sets Wg C aY w R S O Rk)(j:w.heap.size<=w'.heap.size){d:au}(c:∀b,d b->S b\/(w.heap.size<=b/\b<w'.heap.size)):Sets Wg C aY w' R d O Rk:=by
 have a:=h.size j;refine⟨a.rlt,λb x=> ?_,a.olt,h.rk,λb f x=> ?_,h.orr,λi b e x=> ?_,h.oo,a.wlt,a.clt,h.cw,h.wr,λx=> ?_,h.wo,h.cr,λx=> ?_,h.co,h.shr,λb g x=> ?_,h.sho,h.shc,a.aiu⟩
 .rcases c b x with x|x
  .exact a.slt b x
  .exact x.2
 .rcases c b x with x|x
  .exact h.rs b f x
  .have:=h.rlt b f;omega
 .rcases c b x with x|x
  .exact h.os i b e x
  .have:=h.olt i b e;omega
 .rcases c _ x with x|x
  .exact h.ws x
  .have:=h.wlt;omega
 .rcases c _ x with x|x
  .exact h.cs x
  .have:=h.clt;omega
 .rcases c _ x with x|x
  .exact h.shs b g x
  .have:=h.aiu b g;omega
omit [Payload] in
def Sets.hand(h:Sets Wg C aY w R S O Rk)(κ:Nat){X:au}(d:∀b,X b->S b\/R b):Sets Wg C aY w (λb=>S b\/R b) (λ_=>False) O (upd Rk κ X):=by
 refine⟨λb x=>x.elim (h.slt b) (h.rlt b),λb x=>x.elim,h.olt,λa b x=> ?_,λb _ x=>x,λa b x y=>y.elim (h.os a b x) (h.orr a b x),λa b _ x=>x,h.oo,h.wlt,h.clt,h.cw,λx=>x.elim h.ws h.wr,id,h.wo,λx=>x.elim h.cs h.cr,id,h.co,λb c x=>x.elim (h.shs b c) (h.shr b c),λb _ x=>x,h.sho,h.shc,h.aiu⟩;by_cases e:a=κ
 .subst e;rw[qi] at x;exact d b x
 .rw[qO Rk _ e] at x;exact .inr (h.rk a b x)
end
end
section
open Go.Conc Go.ConcN
open Go.ConcR (KK wgBlock WgAt stA smA rd wr mk Payload DC0 Bk g_of_ofEvents ofEvent_mk ofEvent_loc_mark loc_of_ofEvent)
def ShL(aY:au)(l:Loc):Prop:=∃a,l=.cell a/\aY a.block
structure eI (aY:au) (K B:Nat) (t:Trace):Prop where
 clean:∀said,¬Race said t
 known:∀(i:Nat) (op:MemOp) (x:Touch),t[i]?=some op->op.act.touch?=some x->¬ShL aY x.loc->Knows t 0 i
 quiet:Quiet (ShL aY) t
 over:t.HandedOver
 hears:Deaf t 0=0
 seen:∀op∈t,op.act.low B
 gs:∀op∈t,op.g<=K
def nC(Wg:Nat)(aY:au)(t:Trace)(k r:Nat):Prop:=∀(i:Nat) (op:MemOp) (x:Touch),r<i->t[i]?=some op->op.g=k->op.act.touch?=some x->Shr Wg aY x.loc
def nC.app{aY:au}{t u:Trace}{k r:Nat}(h:nC Wg aY t k r)(e:∀op∈u,op.g=k->∀x,op.act.touch?=some x->Shr Wg aY x.loc):nC Wg aY (t++u) k r:=λi op x g d b c=>by
 rcases rv d with⟨_,f⟩|⟨_,a⟩
 .exact h i op x g f b c
 .exact e op a b x c
structure TI (Wg C K0:Nat) (aY:au) (j:Nat) (t:Trace) (D:Nat->WD) (O Rk:Nat->au) (d0 B:Nat):Prop where
 ct:CT (Shr Wg aY) (aaW C K0 O) (RdL K0 Rk) t (K0+j)
 norel:NoRelease (stA Wg) t
 deaf0:Deaf t 0=d0
 deafW:∀κ,κ<j->Deaf t (K0+1+κ)=(D κ).deaf
 rel:∀κ,κ<j->(D κ).stage<=6->∃r,RelBy (stA Wg) t (K0+1+κ) r/\nC Wg aY t (K0+1+κ) r
 seen:∀op∈t,op.act.low B
 over:∀(i g:Nat),t.g? i=some g->g≠0->g<=K0->t.counts i->∃p,t.g? p=some 0/\HappensBefore t i p
 known:∀(i:Nat) (op:MemOp) (x:Touch),t[i]?=some op->op.g<=K0->op.act.touch?=some x->¬Shr Wg aY x.loc->Knows t 0 i
section
variable {Wg C K0:Nat} {aY:au} {j:Nat} {t u:Trace} {D:Nat->WD} {O Rk:Nat->au} {d0 B B':Nat}
def abU(h:∀(i g:Nat),t.g? i=some g->g≠0->g<=K0->t.counts i->∃p,t.g? p=some 0/\HappensBefore t i p)(o:∀op∈u,op.g=0\/K0<op.g\/op.act.touch?=none) :
  ∀(i g:Nat),(t++u).g? i=some g->g≠0->g<=K0->(t++u).counts i->∃p,(t++u).g? p=some 0/\HappensBefore (t++u) i p:=by
 intro i g l d k n;obtain⟨x,r,y,A⟩:=id n;obtain⟨op,a,b⟩:=touch_of r;have v:op.g=g:=by simpa[Trace.g?,a] using l
 rcases rv a with⟨m,s⟩|⟨_,j⟩
 .obtain⟨p,c,q⟩:=h i g (by rw[<-g?_old (u:=u) m];exact l) d k ((counts_old m).1 n);have e:p<t.size:=by
   unfold Trace.g? at c;obtain⟨z,w,_⟩:=lc.1 c;exact lt_size_of_getElem? w
  exact⟨p,by rw[g?_old e];exact c,hb_app u q⟩
 .rcases o op j with f|f|f
  .omega
  .omega
  .rw[f] at b;cases b
def pV(h:∀(i:Nat) (op:MemOp) (x:Touch),t[i]?=some op->op.g<=K0->op.act.touch?=some x->¬Shr Wg aY x.loc->Knows t 0 i)(e:∀op∈u,op.g=0\/K0<op.g\/op.act.touch?=none) :
  ∀(i:Nat) (op:MemOp) (x:Touch),(t++u)[i]?=some op->op.g<=K0->op.act.touch?=some x->¬Shr Wg aY x.loc->Knows (t++u) 0 i:=by
 intro i op x d g c j;rcases rv d with⟨_,f⟩|⟨_,b⟩
 .exact(h i op x f g c j).app u
 .rcases e op b with a|a|a
  .have:=knows_own d;rwa [a] at this
  .omega
  .rw[a] at c;cases c
def acF(h:∀op∈t,op.act.low B)(b:B<=B'):∀op∈t,op.act.low B':=λop a=>MemAct.low_mono b (h op a)
def afC{x:Touch}(h:∀op∈t,op.act.low B)(n:touchAt t i=some x){S:au}(k:∀b,S b->B<=b)(d:In S x.loc):False:=by
 obtain⟨op,l,a⟩:=touch_of n;have c:=h op (qC l);obtain⟨g,fn,o,f⟩:=op;cases f with
 |access e=>
  simp only[MemAct.touch?,mt] at a;subst a;obtain⟨loc,wr,p⟩:=e;cases loc<;>first|exact d.elim|(have j:=k _ d;exact absurd c (Nat.not_lt.2 j))
 |mark m=>
  cases m<;>simp only[MemAct.touch?,mt,reduceCtorEq] at a<;>(subst a;have j:=k _ d;exact absurd c (Nat.not_lt.2 j))
 |_=>simp[MemAct.touch?] at a
def TI.appW (h:TI Wg C K0 aY j t D O Rk d0 B) (H:B<=B') (I:κ<j) {o:au} {s' : Nat} {fn:FuncId}  
  (A:Apart (Shr Wg aY) (aaW C K0 (upd O κ o)) (RdL K0 Rk))
  (E:∀b,O κ b->o b) (w:∀b,o b->O κ b\/B<=b)
  (y:∀op∈MemOp.ofEvents (K0+1+κ) fn pos es,OkW (Shr Wg aY) (aaW C K0 (upd O κ o)) (RdL K0 Rk) (K0+1+κ) op) (s:∀e∈es,e.loc ≠ .mark (.release (stA Wg)))
  (u:deafBehind (D κ).deaf es=i) (p:∀op∈MemOp.ofEvents (K0+1+κ) fn pos es,op.act.low B')
  (hrel:s'<=6->∃r,RelBy (stA Wg) (t++MemOp.ofEvents (K0+1+κ) fn pos es) (K0+1+κ) r/\nC Wg aY (t++MemOp.ofEvents (K0+1+κ) fn pos es) (K0+1+κ) r) :
  TI Wg C K0 aY j (t++MemOp.ofEvents (K0+1+κ) fn pos es) (upd D κ ⟨s',m',i⟩) (upd O κ o) Rk d0 B':=by
 have n:∀op∈MemOp.ofEvents (K0+1+κ) fn pos es,op.g=K0+1+κ:=g_of_ofEvents;have v:CT (Shr Wg aY) (aaW C K0 (upd O κ o)) (RdL K0 Rk) t (K0+j):=afZ h.ct (λk _ _ l c=>by
   obtain⟨d,rfl,c⟩:=c;by_cases e:d=κ
   .subst e;rw[qi] at c;rcases c with c|c
    .have:In (O d) l\/In (λb=>B<=b) l:=by
      cases l<;>first|exact w _ c|exact c.elim
     rcases this with x|x
     .exact .inl ⟨d,rfl,.inl x⟩
     .exact .inr λi a G e=>afC h.seen G (λb q=>q) (e▸x)
    .exact .inl ⟨d,rfl,.inr c⟩
   .rw[qO O _ e] at c;exact .inl ⟨d,rfl,c⟩) (λk _ _ l c=>by
   obtain⟨d,rfl,c⟩:=c;refine⟨d,rfl, ?_⟩;by_cases e:d=κ
   .subst e;rw[qi];exact c.imp (In.mono E) id
   .rw[qO O _ e];exact c) (λ_ _ _ _=>Iff.rfl)
 refine⟨v.appW A (by omega) (by omega) y,h.norel.app (norel_of s),by rw[rh t (by omega) _ n,h.deaf0],λd m=> ?_,λd m g=> ?_,seen_app (acF h.seen H) p,
  abU h.over λop f=>.inr (.inl (by rw[n op f];omega)),pV h.known λop f=>.inr (.inl (by rw[n op f];omega))⟩
 .by_cases e:d=κ
  .subst e;rw[Deaf_own,h.deafW d m,qi];exact u
  .rw[rh t (by omega) _ n,h.deafW d m,qO D _ e]
 .by_cases e:d=κ
  .subst e;rw[qi] at g;exact hrel g
  .rw[qO D _ e] at g;obtain⟨r,F,q⟩:=h.rel d m g;exact⟨r,F.appOther n (by omega),q.app λop f z=>by rw[n op f] at z;omega⟩
def TI.app0 (h:TI Wg C K0 aY j t D O Rk d0 B) (n:B<=B') (A:Apart (Shr Wg aY) (aaW C K0 O) (RdL K0 Rk)) {fn:FuncId}  
  (i:∀op∈MemOp.ofEvents 0 fn pos es,Ok0 (Shr Wg aY) (aaW C K0 O) (RdL K0 Rk) (K0+j) op) (k:∀e∈es,e.loc ≠ .mark (.release (stA Wg))) (c:∀op∈MemOp.ofEvents 0 fn pos es,op.act.low B') :
  TI Wg C K0 aY j (t++MemOp.ofEvents 0 fn pos es) D O Rk (deafBehind d0 es) B':=by
 have b:∀op∈MemOp.ofEvents 0 fn pos es,op.g=0:=g_of_ofEvents;refine⟨h.ct.app0 A i,h.norel.app (norel_of k),by rw[Deaf_own,h.deaf0],λd f=>by rw[rh t (by omega) _ b,h.deafW d f],λd f g=> ?_,seen_app (acF h.seen n) c,
  abU h.over λop a=>.inl (b op a),pV h.known λop a=>.inl (b op a)⟩
 obtain⟨r,l,m⟩:=h.rel d f g;exact⟨r,l.appOther b (by omega),m.app λop a o=>by rw[b op a] at o;omega⟩
def TI.aw2(h:TI Wg C K0 aY j t D O Rk d0 B)(R:i≠0)(hi:i<=K0){fn:FuncId}(I:∀e∈es,e.mute=true) :
  TI Wg C K0 aY j (t++MemOp.ofEvents i fn pos es) D O Rk d0 B:=by
 have n:∀op∈MemOp.ofEvents i fn pos es,op.g=i:=g_of_ofEvents;have u:∀op∈MemOp.ofEvents i fn pos es,op.act.touch?=none:=λop c=>by obtain⟨e,p,rfl⟩:=mu c;exact touch_mute (I e p)
 have g:∀op∈MemOp.ofEvents i fn pos es,op.act.low B:=λop c=>by obtain⟨e,p,rfl⟩:=mu c;exact low_mute (I e p) B
 have old:∀{q:Nat} {a:Touch},touchAt (t++MemOp.ofEvents i fn pos es) q=some a->touchAt t q=some a:=λ{q a} Q=>by
  obtain⟨z,K,m⟩:=touch_of Q;rcases rv K with⟨_,J⟩|⟨_,F⟩
  .rw[touchAt_of J];exact m
  .rw[u z F] at m;cases m
 have f:∀op∈MemOp.ofEvents i fn pos es,∀b,op.act.touch?=some b->False:=λop c b d=>by rw[u op c] at d;cases d
 refine⟨⟨h.ct.quiet.app λop c x P _=>(f op c x P).elim,λk v E l g=>(h.ct.own k v E l g).app λop c b d _=>(f op c b d).elim,λk v E l g=>(h.ct.rd k v E l g).app λop c b d _ _=>(f op c b d).elim,
   λl G g=>(h.ct.free l G g).app λop c b d _=>(f op c b d).elim,λl G g=>(h.ct.mine l G g).app λop c b d _ _=>(f op c b d).elim,λo=>noRace_append (h.ct.nr o) n λ_ _ _ op c b d _=>(f op c b d).elim,λq op L=> ?_⟩,
  h.norel.app λop c e=> ?_,by rw[rh t (by omega) _ n,h.deaf0],λy H=>by rw[rh t (by omega) _ n,h.deafW y H],λy H A=> ?_,seen_app h.seen g,abU h.over λop c=>.inr (.inr (u op c)),pV h.known λop c=>.inr (.inr (u op c))⟩
 .rcases rv L with⟨_,N⟩|⟨_,w⟩
  .exact h.ct.gs q op N
  .rw[n op w];omega
 .obtain⟨s,p,rfl⟩:=mu c;have g:=loc_of_ofEvent e;have:=I s p;obtain⟨loc,wr,S⟩:=s;dsimp only at g;subst g;simp[Event.mute] at this
 .obtain⟨r,M,d⟩:=h.rel y H A;exact⟨r,M.appOther n (by omega),d.app λop c s=>by rw[n op c] at s;omega⟩
def TI.fork(h:TI Wg C K0 aY j t D O Rk 0 B){X:au}(A:Apart (Shr Wg aY) (aaW C K0 O) (RdL K0 (upd Rk j X))){x y:MemOp}(i:x.g=0/\x.act=.go (K0+j+1))(g:y.g=K0+j+1/\y.act=.start) :
  TI Wg C K0 aY (j+1) (t++#[x,y]) (upd D j ⟨7,m',0⟩) O (upd Rk j X) 0 B:=by
 have n:∀op∈#[x,y],op=x\/op=y:=by intro op b;simpa using b
 have m:∀op∈#[x,y],op.act ≠ .mark .disable/\op.act ≠ .mark .enable:=by
  intro op b;rcases n op b with rfl|rfl
  .rw[i.2];exact⟨by simp,by simp⟩
  .rw[g.2];exact⟨by simp,by simp⟩
 have q:∀op∈#[x,y],op.act.touch?=none:=by
  intro op b;rcases n op b with rfl|rfl
  .rw[i.2];rfl
  .rw[g.2];rfl
 have p:CT (Shr Wg aY) (aaW C K0 O) (RdL K0 (upd Rk j X)) t (K0+j):=afZ h.ct (λ_ _ _ _ d=>.inl d) (λ_ _ _ _ d=>d) (λk _ G l=>by
  constructor
  .rintro⟨c,rfl,d⟩;rw[qO Rk _ (by omega)] at d;exact⟨c,rfl,d⟩
  .rintro⟨c,rfl,d⟩;exact⟨c,rfl,by rw[qO Rk _ (by omega)];exact d⟩)
 refine⟨?_,h.norel.app λop b=> ?_,by rw[Deaf_still t 0 _ m,h.deaf0],λc E=> ?_,λc E o=> ?_,seen_app h.seen λop b=> ?_,abU h.over λop b=>.inr (.inr (q op b)),pV h.known λop b=>.inr (.inr (q op b))⟩
 .have:=p.fork A i g h.deaf0
  rwa [uV] at this
 .rcases n op b with rfl|rfl
  .rw[i.2];simp
  .rw[g.2];simp
 .rw[Deaf_still t _ _ m];rcases pi c j with f|v
  .rw[h.deafW c f,qO D _ (by omega)]
  .obtain rfl:c=j:=by omega
   rw[qi];exact Deaf_absent λa op F e=>by have:=h.ct.gs a op F;omega
 .rcases pi c j with f|v
  .rw[qO D _ (by omega)] at o;obtain⟨r,w,u⟩:=h.rel c f o;refine⟨r,w.appNot λop b=> ?_,u.app λop b H z s=>by rw[q op b] at s;cases s⟩;rcases n op b with rfl|rfl
   .rw[i.1];omega
   .rw[g.1];omega
  .obtain rfl:c=j:=by omega
   rw[qi] at o;simp at o
 .rcases n op b with rfl|rfl
  .rw[i.2];trivial
  .rw[g.2];trivial
def TI.join(h:TI Wg C K0 aY j t D O Rk 0 B)(P:∀d,d<j->(D d).stage<=6)(A:Apart (Shr Wg aY) (aaW C K0 O) (RdL K0 Rk))(fn:FuncId)(pos:String)(N:Wg<B) :
  eI (λb=>b=Wg\/aY b) (K0+j) B (t++MemOp.ofEvents 0 fn pos #[Go.ConcR.mk (.acquire (stA Wg))]):=by
 have I:MemOp.ofEvents 0 fn pos #[Go.ConcR.mk (.acquire (stA Wg))]=#[{g:=0,fn,pos,act:=.mark (.acquire (stA Wg))}]:=by rw[ofEvents_eq];simp[ofEvent_mk]
 have E:(t++#[({g:=0,fn,pos,act:=.mark (.acquire (stA Wg))}:MemOp)])[t.size]?=some {g:=0,fn,pos,act:=.mark (.acquire (stA Wg))}:=by simp
 have f:=h.app0 (am B) A (fn:=fn) (pos:=pos) (es:=#[Go.ConcR.mk (.acquire (stA Wg))]) (λop a=>by
   rw[I] at a;simp at a;subst a;exact⟨rfl,λx v=>by simp[MemAct.touch?] at v⟩) (by intro e l;simp at l;subst l;simp[Go.ConcR.mk]) (λop a=>by
   rw[I] at a;simp at a;subst a;exact N)
 rw[I] at f ⊢;have F:(t++#[({g:=0,fn,pos,act:=.mark (.acquire (stA Wg))}:MemOp)]).act? t.size=some (.mark (.acquire (stA Wg))):=by rw[act?_of E]
 have n:(t++#[({g:=0,fn,pos,act:=.mark (.acquire (stA Wg))}:MemOp)]).g? t.size=some 0:=by simp[Trace.g?]
 have H:(t++#[({g:=0,fn,pos,act:=.mark (.acquire (stA Wg))}:MemOp)]).heard t.size:=⟨0,n,by rw[deaf_old (am _)];exact h.deaf0⟩;have q:∀d,d<j->∃r,RelBy (stA Wg) (t++#[({g:=0,fn,pos,act:=.mark (.acquire (stA Wg))}:MemOp)]) (K0+1+d) r/\nC Wg aY (t++#[({g:=0,fn,pos,act:=.mark (.acquire (stA Wg))}:MemOp)]) (K0+1+d) r/\
   HappensBefore (t++#[({g:=0,fn,pos,act:=.mark (.acquire (stA Wg))}:MemOp)]) r t.size:=λd K=>by
  obtain⟨r,o,s⟩:=h.rel d K (P d K);have G:=lt_of_act? o.act;have m:RelBy (stA Wg) (t++#[({g:=0,fn,pos,act:=.mark (.acquire (stA Wg))}:MemOp)]) (K0+1+d) r:=o.appNot λop a=>by simp at a;subst a;show 0≠_;omega
  exact⟨r,m,s.app λop a e=>by simp at a;subst a;have:(0:Nat)=K0+1+d:=e;omega,.single (.inr ⟨.marked G (.inr m.act) F (λk _ _=>f.norel k),m.heard,H⟩)⟩
 refine⟨f.ct.nr,λi op x p v L=> ?_,f.ct.quiet,λi g u y M=> ?_,by rw[f.deaf0];rfl,f.seen,λop a=> ?_⟩
 .rcases pi K0 op.g with w|z
  .obtain⟨d,J⟩:∃d,op.g=K0+1+d:=⟨op.g-(K0+1),by omega⟩;have:=f.ct.gs i op p;obtain⟨r,o,s,l⟩:=q d (by omega);rcases vh r i with c|c|c
   .exact absurd (s i op x c p J v) L
   .subst c;exact⟨t.size,_,E,rfl,.inr l⟩
   .exact⟨t.size,_,E,rfl,.inr (.trans (.single (.inl ⟨c,_,by simp only[Trace.g?,p,qk];rw[J],o.g⟩)) l)⟩
  .exact f.known i op x p z v L
 .rcases pi K0 g with w|z
  .obtain⟨d,rfl⟩:∃d,g=K0+1+d:=⟨g-(K0+1),by omega⟩;obtain⟨op,p,R⟩:=lc.1 u;have:=f.ct.gs i op p;obtain⟨r,o,s,l⟩:=q d (by omega);rcases vh r i with c|c|c
   .exact absurd M (o.after i c u)
   .subst c;exact⟨t.size,n,l⟩
   .exact⟨t.size,n,.trans (.single (.inl ⟨c,_,u,o.g⟩)) l⟩
  .exact f.over i g u y z M
 .obtain⟨i,Q⟩:=vM.1 a;exact f.ct.gs i op Q
def TI.begin(h:eI aY K0 B t)(E:∀(i:Nat) (x:Touch),touchAt t i=some x->∀a,x.loc=.cell a->a.block≠Wg)(z:NoRelease (stA Wg) t):TI Wg C K0 aY 0 t D O Rk 0 B:=by
 have j:∀k,k<=K0->∀l,¬aaW C K0 O k l:=λk H l ⟨q,e,_⟩=>by omega
 have A:∀(i:Nat) (x:Touch),touchAt t i=some x->Shr Wg aY x.loc->ShL aY x.loc:=λi x f ⟨a,e,h⟩=>⟨a,e,h.resolve_left (E i x f a e)⟩;have s:∀l,¬Shr Wg aY l->Perm t 0 l:=λl n i a F e=>by
  obtain⟨op,d,r⟩:=touch_of F;exact h.known i op a d r λ⟨b,p,c⟩=>n (e▸⟨b,p,.inr c⟩)
 refine⟨⟨λi op x d f c=>h.quiet i op x d f (A i x (by rw[touchAt_of d];exact f) c),λk v u l n=>absurd n (j k u l),λk v u l ⟨q,e,_⟩=>by omega,λl c _=>s l c,λl c _=>.of (s l c),h.clean,λi op d=>h.gs op (qC d)⟩,
  z,h.hears,λq w=>by omega,λq w=>by omega,h.seen,λi g y m _ G=>h.over i g y m G,λi op x d _ f c=>h.known i op x d f λ⟨b,p,o⟩=>c ⟨b,p,.inr o⟩⟩
end
end
section
open Go.Conc Go.ConcN
open Go.ConcR (KK wgBlock WgAt stA smA rd wr mk Payload DC0 Bk g_of_ofEvents ofEvent_mk ofEvent_loc_mark loc_of_ofEvent bk_of_mute again_blocked)
variable [Payload]
section
variable {P:Program} {ty:TypeId} {Wg C n:Nat} {val:Nat->Value} {κ s m d:Nat} {R S:au} {T:jv} {g:Goroutine} {w w':World}
def WK.rely(h:WK P ty Wg C n val κ R s m d T S g w)(b:jB ty Wg C (2*n) R (dR κ) S w w'):WK P ty Wg C n val κ R s m d T S g w':=by
 cases h with
 |work h=>
  have a:∀S x y z,jB ty Wg C (2*n) R (dR κ) S x y->jB ty Wg C (2*n) R (dR κ) S y z->jB ty Wg C (2*n) R (dR κ) S x z:=λ_ _ _ _ e c=>e.trans c;exact .work (pU.rely a h b)
 |rest f h=>exact .rest f (h.rely (by rw[Nat.add_sub_cancel];exact b.rw (i:=2*κ) (by unfold dR;omega)))
def WK.status(h:WK P ty Wg C n val κ R s m d T S g w):g.status=.running\/g.status=.finished:=by
 cases h with
 |work h=>exact .inl (pU.running (λ_ _ _ x=>x.1.1) (λ_ _=>jB.refl _ _ _ _) h)
 |rest a h=>exact h.status
def WK.woken(h:WK P ty Wg C n val κ R s m d T S g w)(a b:Goroutine)(w':World):woken P a b w' g=g:=by
 unfold Go.Conc.woken;split
 .exact again_running _ h.status
 .rfl
def WK.running_of(h:WK P ty Wg C n val κ R s m d T S g w)(a:s≠1):g.status=.running:=by
 cases h with
 |work h=>exact pU.running (λ_ _ _ x=>x.1.1) (λ_ _=>jB.refl _ _ _ _) h
 |rest _ h=>exact h.running_of a
end
section
variable {P:Program} {ty:TypeId} {Wg C n:Nat} {val:Nat->Value} {aT Fin:au->au->Goroutine->World->Prop} {tag:CTag} {j f d:Nat} {R S:au} {T:jv} {a:Goroutine} {w w':World}
def fj.rely(h:fj P ty Wg C n val aT Fin tag j R S T f d a w)(b:RM ty Wg C n R S w w'):fj P ty Wg C n val aT Fin tag j R S T f d a w':=by
 have c:∀x y z,RM ty Wg C n R S x y->RM ty Wg C n R S y z->RM ty Wg C n R S x z:=λ_ _ _ m l=>m.trans l;have e:∀S x y z,jB ty Wg C (2*n) R noC S x y->jB ty Wg C (2*n) R noC S y z->jB ty Wg C (2*n) R noC S x z:=λ_ _ _ _ m l=>m.trans l;cases h with
 |skd g h=>exact .skd g (pU.rely e h b)
 |sa1 g h=>exact .sa1 g (tl c h b)
 |ske g h=>exact .ske g (tl c h b)
 |sgo g h=>exact .sgo g (pU.rely e h b)
 |kd h=>exact .kd (pU.rely e h b)
 |anch h=>exact .anch (tl c h b)
 |w1 h=>exact .w1 (tl c h b)
 |w2 h=>exact .w2 (tl c h b)
 |w3 h=>exact .w3 (tl c h b)
 |blk h=>exact .blk (λk i=>h k (b.trans i))
 |w4 h=>exact .w4 (tl c h b)
 |ke h=>exact .ke (tl c h b)
 |acq h=>exact .acq (tl c h b)
def fj.status(c:∀R S g w,aT R S g w->g.status=.running)(h:fj P ty Wg C n val aT Fin tag j R S T f d a w):(a.status=.running/\tag ≠ .blk)\/(a.status=.blocked/\tag=.blk):=by
 have b:RM ty Wg C n R S w w:=.refl _ _ _ _;cases h with
 |skd _ h=>exact .inl ⟨pU.running (λ_ _ _ x=>x.1) (λ_ _=>jB.refl _ _ _ _) h,by simp⟩
 |sa1 _ h=>exact .inl ⟨sA (λ_ _ x=>x.1) w b h,by simp⟩
 |ske _ h=>exact .inl ⟨sA (λ_ _ x=>x.1) w b h,by simp⟩
 |sgo _ h=>exact .inl ⟨pU.running (λ_ _ _ x=>x.1) (λ_ _=>jB.refl _ _ _ _) h,by simp⟩
 |kd h=>exact .inl ⟨pU.running (λ_ _ _ x=>x.1) (λ_ _=>jB.refl _ _ _ _) h,by simp⟩
 |anch h=>exact .inl ⟨sA (c _ _) w b h,by simp⟩
 |w1 h=>exact .inl ⟨sA (λ_ _ x=>x.1) w b h,by simp⟩
 |w2 h=>exact .inl ⟨sA (λ_ _ x=>x.1) w b h,by simp⟩
 |w3 h=>exact .inl ⟨sA (λ_ _ x=>x.1) w b h,by simp⟩
 |blk h=>exact .inr ⟨rfl,rfl⟩
 |w4 h=>exact .inl ⟨sA (λ_ _ x=>x.1) w b h,by simp⟩
 |ke h=>exact .inl ⟨sA (λ_ _ x=>x.1) w b h,by simp⟩
 |acq h=>exact .inl ⟨sA (λ_ _ x=>x.1) w b h,by simp⟩
def fj.wokenBy(i:∀R S g w,aT R S g w->g.status=.running)(h:fj P ty Wg C n val aT Fin tag j R S T f d a w)(p:RM ty Wg C n R S w w')(g g':Goroutine) :
  ∃b k,fj P ty Wg C n val aT Fin b j R S T k d (woken P g g' w' a) w'/\k<=f+1/\(b=tag\/(tag=.blk/\b=.w3))/\(mayWake P g=true->g'.status=.running->b ≠ .blk):=by
 have c:=h.rely p;unfold Go.Conc.woken;split
 .rcases c.status i with⟨q,e⟩|⟨_,rfl⟩
  .exact⟨tag,f,by rw[again_running _ (.inl q)];exact c,by omega,.inl rfl,λ_ _=>e⟩
  .cases c with
   |blk m=>
    rename_i t;have l:=m w' (.refl _ _ _ _);exact⟨.w3,0+1,by rw[again_blocked l.1 l.2.1];exact .w3 (qB m),by omega,.inr ⟨rfl,rfl⟩,λ_ _=>by simp⟩
 .rename_i s;exact⟨tag,f,c,by omega,.inl rfl,λr o=>absurd (by simp[r,o]) s⟩
def fj.bound(h:fj P ty Wg C n val aT Fin tag j R S T f d a w):j+pend tag<=n:=by
 cases h<;>simp only[pend]<;>(try simp)<;>omega
end
section
variable (P:Program) (ty:TypeId) (Wg C n K0:Nat) (val:Nat->Value) (aY:au) (aT Fin:au->au->Goroutine->World->Prop)
structure MI (j:Nat) (gs:Array Goroutine) (w:World) (t:Trace) (D:Nat->WD) (TV:Nat->jv) (R S:au) (O Rk:Nat->au) (q:Nat->Nat) (d0:Nat):Prop where
 size:gs.size=K0+1+j
 old:∀i g,0<i->i<=K0->gs[i]?=some g->QuitsD P (q i) (Deaf t i) g
 wk:∀κ,κ<j->∃g,gs[K0+1+κ]?=some g/\WK P ty Wg C n val κ (Rk κ) (D κ).stage (D κ).fuel (D κ).deaf (TV (κ+1)) (O κ) g w
 ti:TI Wg C K0 aY j t D O Rk d0 w.heap.size
 bY:Sets Wg C aY w R S O Rk
 has:∀κ,κ<j->(D κ).stage<=6->Has C (2*κ) (val (2*κ)) w/\Has C (2*κ+1) (val (2*κ+1)) w
 pay:PayAt C (2*n) w
 unO:∀κ,j<=κ->O κ=λ_=>False
def aac(μ:Mu)(m:Machine)(t:Trace):Prop:=
 ∃(d:Array Goroutine) (w:World) (sl:Option (Nat×Nat)) (j:Nat) (D:Nat->WD) (c:Nat->jv) (R S:au) (O i:Nat->au) (q:Nat->Nat) (b:CTag) (g e:Nat) (a:Goroutine) (f sm:Int),
  m=crowd d w sl/\d[0]?=some a/\fj P ty Wg C n val aT Fin b j R S (c 0) g e a w/\MI P ty Wg C n K0 val aY j d w t D c R S O i q e/\WgAt ty Wg w f sm/\ConcN.Mode j D b f sm/\
  μ=(phi n (Vc j D) b+Ssum j D,(c,g+2*Fsum j D+2*sumTo (K0+1) q))
def amK(m:Machine)(t:Trace):Prop:=
 ∃(d:Array Goroutine) (w:World) (sl:Option (Nat×Nat)) (a:Goroutine) (q:Nat->Nat) (R S:au),
  m=crowd d w sl/\d[0]?=some a/\d.size=K0+1+n/\Fin R S a w/\Leavers P t d q/\eI (λb=>b=Wg\/aY b) (K0+n) w.heap.size t/\PayAt C (2*n) w/\(∀c,c<n->Has C (2*c) (val (2*c)) w/\Has C (2*c+1) (val (2*c+1)) w)/\WgLive ty Wg w/\
  (∀b,aY b\/b=Wg->¬R b/\¬S b/\b≠C/\b<w.heap.size)
end
section
variable {P:Program} {ty:TypeId} {Wg C n K0:Nat} {val:Nat->Value} {aY:au} {aT Fin:au->au->Goroutine->World->Prop}
 {gs:Array Goroutine} {w w':World} {sl:Option (Nat×Nat)} {j:Nat} {D:Nat->WD} {TV:Nat->jv} {R S:au} {O Rk:Nat->au} {q:Nat->Nat} {tag:CTag} {f0 d0:Nat} {a:Goroutine} {t:Trace} {st sm:Int}
omit [Payload] in
def aiv(f:Nat->V)(i:Nat):upd f i (f i)=f:=by
 funext x
 by_cases e:x=i
 .subst e;rw[qi]
 .rw[qO f _ e]
def MI.at(h:MI P ty Wg C n K0 val aY j gs w t D TV R S O Rk q d0)(d:Nat):MI P ty Wg C n K0 val aY j gs (w.at d) t D TV R S O Rk q d0:=
 ⟨h.size,h.old,λc b=>let⟨g,a,e⟩:=h.wk c b;⟨g,a,e.rely (.at _ _ _ w d)⟩,h.ti,h.bY.at d,h.has,h.pay,h.unO⟩
def pg (a4:∀R S g w,aT R S g w->g.status=.running) (ha:gs[0]?=some a) (lH:fj P ty Wg C n val aT Fin tag j R S (TV 0) f0 d0 a w) (o:MI P ty Wg C n K0 val aY j gs w t D TV R S O Rk q d0)
  (T:κ<j) {g' : Goroutine} {s' : Nat} {T':jv} {G:au} {A u:Int} (hg:gs[K0+1+κ]?=some g) (a5:stepG P false g w=.go g' w' es)
  (p:RM ty Wg C n R S w w') (I:∀c,c<j->c≠κ->jB ty Wg C (2*n) (Rk c) (dR c) (O c) w w')
  (U:WK P ty Wg C n val κ (Rk κ) s' m' B T' G g' w') (hO:∀b,O κ b->G b) (K:∀b,G b->O κ b\/(w.heap.size<=b/\b<w'.heap.size))
  (a1:∀op∈MemOp.ofEvents (K0+1+κ) g.frame.fn g.frame.place es,OkW (Shr Wg aY) (aaW C K0 (upd O κ G)) (RdL K0 Rk) (K0+1+κ) op) (W:∀e∈es,e.loc ≠ .mark (.release (stA Wg)))
  (Y:deafBehind (D κ).deaf es=B) (a2:∀op∈MemOp.ofEvents (K0+1+κ) g.frame.fn g.frame.place es,op.act.low w'.heap.size)
  (hrel:s'<=6->∃r,RelBy (stA Wg) (t++MemOp.ofEvents (K0+1+κ) g.frame.fn g.frame.place es) (K0+1+κ) r/\nC Wg aY (t++MemOp.ofEvents (K0+1+κ) g.frame.fn g.frame.place es) (K0+1+κ) r)
  (Z:s'<=6->Has C (2*κ) (val (2*κ)) w'/\Has C (2*κ+1) (val (2*κ+1)) w') (X:PayAt C (2*n) w') (eZ:WgAt ty Wg w' A u)
  (bh:∀l,(l=tag\/(tag=.blk/\l=.w3))->(mayWake P g=true->g'.status=.running->l ≠ .blk)->ConcN.Mode j (upd D κ ⟨s',m',B⟩) l A u)
  (a3:(s'<(D κ).stage/\cnt ⟨s',m',B⟩<=cnt (D κ))\/(s'=(D κ).stage/\jv.Lt T' (TV (κ+1)))\/(s'=(D κ).stage/\T'=TV (κ+1)/\m'+1=(D κ).fuel)) :
  ∃m J mr,runT P (crowd gs w sl) (K0+1+κ)=(.next m,J)/\aaU (n+1) mr (phi n (Vc j D) tag+Ssum j D,(TV,f0+2*Fsum j D+2*sumTo (K0+1) q))/\aac P ty Wg C n K0 val aY aT Fin mr m (t++J):=by
 obtain⟨l,f',pj,a6,H,a0⟩:=lH.wokenBy a4 p g g';have s:(K0+1+κ ==0)=false:=by simp
 have F:=ta (P:=P) (sl:=sl) (i:=K0+1+κ) hg (by rw[s];exact a5);have e1:=sumTo_upd D (⟨s',m',B⟩:WD) cnt T;have e2:=sumTo_upd D (⟨s',m',B⟩:WD) WD.stage T;have e3:=sumTo_upd D (⟨s',m',B⟩:WD) WD.fuel T;have hb:=lH.bound;have E:=o.bY.aza (w':=w') p.size K;refine⟨_,_,(phi n (Vc j (upd D κ ⟨s',m',B⟩)) l+Ssum j (upd D κ ⟨s',m',B⟩),(upd TV (κ+1) T',f'+2*Fsum j (upd D κ ⟨s',m',B⟩)+2*sumTo (K0+1) q)),F, ?_,
  _,w',sl,j,upd D κ ⟨s',m',B⟩,upd TV (κ+1) T',R,S,upd O κ G,Rk,q,l,f',d0,woken P g g' w' a,A,u,rfl,by rw[sR _ _ _ _ (by omega),ha];rfl,by rw[qO TV _ (by omega)];exact pj, ?_,eZ,bh l H a0,rfl⟩
 .rw[phi_retag n _ H];simp only[Vc,Ssum,Fsum] at *;rcases a3 with⟨Q,M⟩|⟨Q,M⟩|⟨Q,M,h3⟩
  .refine Prod.Lex.left _ _ ?_;have:=phi_mono n (v':=sumTo j λa=>cnt (upd D κ ⟨s',m',B⟩ a)) (v:=sumTo j λa=>cnt (D a)) (by omega) tag;omega
  .have ec:cnt (⟨s',m',B⟩:WD)=cnt (D κ):=by simp only[cnt,Q]
   have V:(sumTo j λa=>cnt (upd D κ ⟨s',m',B⟩ a))=sumTo j λa=>cnt (D a):=by omega
   have z:(sumTo j λa=>(upd D κ ⟨s',m',B⟩ a).stage)=sumTo j λa=>(D a).stage:=by omega
   rw[V,z];refine Prod.Lex.right _ (Prod.Lex.left _ _ ⟨κ+1,by omega,by rw[qi];exact M,λk hk=>qO TV _ hk⟩)
  .have ec:cnt (⟨s',m',B⟩:WD)=cnt (D κ):=by simp only[cnt,Q]
   have V:(sumTo j λa=>cnt (upd D κ ⟨s',m',B⟩ a))=sumTo j λa=>cnt (D a):=by omega
   have z:(sumTo j λa=>(upd D κ ⟨s',m',B⟩ a).stage)=sumTo j λa=>(D a).stage:=by omega
   rw[V,z,M,aiv];refine Prod.Lex.right _ (Prod.Lex.right _ ?_);omega
 .refine⟨by simp[o.size],λi x s hi N=> ?_,λc d=> ?_,o.ti.appW p.size T E.apart hO (λb x=>(K b x).imp id (·.1)) a1 W Y a2 hrel,E,λc d f=> ?_,X,λc d=>by rw[qO O _ (by omega)];exact o.unO c d⟩
  .rw[sR _ _ _ _ (by omega)] at N;obtain⟨y,hy,rfl⟩:=lc.1 N;have hq:=o.old i y s hi hy;rw[sS hq,rh t (by omega) _ g_of_ofEvents];exact hq
  .by_cases e:c=κ
   .subst e;exact⟨g',ur _ _ _ (by rw[o.size];omega),by rw[qi,qi,qi];exact U⟩
   .obtain⟨x,N,L⟩:=o.wk c d;refine⟨x,by rw[sR _ _ _ _ (by omega),N,qk,L.woken], ?_⟩;rw[qO D _ e,qO TV _ (by omega),qO O _ e];exact L.rely (I c d e)
  .by_cases e:c=κ
   .subst e;rw[qi] at f;exact Z f
   .rw[qO D _ e] at f;have hh:=o.has c d f;have hr:=I c d e;exact⟨(hr.cell (2*c) (by unfold dR;omega)).trans hh.1,(hr.cell (2*c+1) (by unfold dR;omega)).trans hh.2⟩
def jI (ha:gs[0]?=some a) (d:MI P ty Wg C n K0 val aY j gs w t D TV R S O Rk q d0)
  {dU:CTag} {f':Nat} {T':jv} {I:au} {l g:Int} (H:stepG P true a w=.go U w' es)
  (N:w.heap.size<=w'.heap.size) (m:∀c,c<j->jB ty Wg C (2*n) (Rk c) (dR c) (O c) w w') (G:∀b,I b->S b\/(w.heap.size<=b/\b<w'.heap.size))
  (J:∀op∈MemOp.ofEvents 0 a.frame.fn a.frame.place es,Ok0 (Shr Wg aY) (aaW C K0 O) (RdL K0 Rk) (K0+j) op) (E:∀e∈es,e.loc ≠ .mark (.release (stA Wg))) (v:∀op∈MemOp.ofEvents 0 a.frame.fn a.frame.place es,op.act.low w'.heap.size)
  (F:PayAt C (2*n) w') (pj:fj P ty Wg C n val aT Fin dU j R I T' f' (deafBehind d0 es) U w') (Z:WgAt ty Wg w' l g) (bh:ConcN.Mode j D dU l g)
  (z:phi n (Vc j D) dU<phi n (Vc j D) tag\/(phi n (Vc j D) dU=phi n (Vc j D) tag/\(jv.Lt T' (TV 0)\/(T'=TV 0/\f'<f0)))) :
  ∃f o V,runT P (crowd gs w sl) 0=(.next f,o)/\aaU (n+1) V (phi n (Vc j D) tag+Ssum j D,(TV,f0+2*Fsum j D+2*sumTo (K0+1) q))/\aac P ty Wg C n K0 val aY aT Fin V f (t++o):=by
 have p:=ta (P:=P) (sl:=sl) (i:=0) ha (by simpa using H);have A:=d.bY.avN (w':=w') N G;refine⟨_,_,(phi n (Vc j D) dU+Ssum j D,(upd TV 0 T',f'+2*Fsum j D+2*sumTo (K0+1) q)),p, ?_,
  _,w',sl,j,D,upd TV 0 T',R,I,O,Rk,q,dU,f',deafBehind d0 es,U,l,g,rfl,ur _ _ _ (by rw[d.size];omega),by rw[qi];exact pj, ?_,Z,bh,rfl⟩
 .rcases z with h|⟨M,h|⟨W,h3⟩⟩
  .exact Prod.Lex.left _ _ (by omega)
  .rw[M];exact Prod.Lex.right _ (Prod.Lex.left _ _ ⟨0,by omega,by rw[qi];exact h,λk X=>qO TV _ X⟩)
  .rw[M,W,aiv];exact Prod.Lex.right _ (Prod.Lex.right _ (by omega))
 .refine⟨by simp[d.size],λi x K hi u=> ?_,λc r=> ?_,d.ti.app0 N d.bY.apart J E v,A,λc r B=> ?_,F,d.unO⟩
  .rw[sR _ _ _ _ (by omega)] at u;obtain⟨y,Y,rfl⟩:=lc.1 u;have L:=d.old i y K hi Y;rw[sS L,rh t (by omega) _ g_of_ofEvents];exact L
  .obtain⟨x,u,s⟩:=d.wk c r;refine⟨x,by rw[sR _ _ _ _ (by omega),u,qk,s.woken], ?_⟩;rw[qO TV _ (by omega)];exact s.rely (m c r)
  .have Q:=d.has c r B;have T:=m c r;exact⟨(T.cell (2*c) (by unfold dR;omega)).trans Q.1,(T.cell (2*c+1) (by unfold dR;omega)).trans Q.2⟩
def aqq (z:∀R S g w,aT R S g w->g.status=.running) (ha:gs[0]?=some a) (X:fj P ty Wg C n val aT Fin tag j R S (TV 0) f0 d0 a w) (c:MI P ty Wg C n K0 val aY j gs w t D TV R S O Rk q d0) (V:WgAt ty Wg w st sm) (bh:ConcN.Mode j D tag st sm)
  (l:0<i) (hi:i<=K0) (G:gs[i]?=some g) (b:g.status=.running) :
  ∃d p K,runT P (crowd gs w sl) i=(.next d,p)/\aaU (n+1) K (phi n (Vc j D) tag+Ssum j D,(TV,f0+2*Fsum j D+2*sumTo (K0+1) q))/\aac P ty Wg C n K0 val aY aT Fin K d (t++p):=by
 have u:=c.old i g l hi G;cases f:q i with
 |zero=>rw[f] at u;rw[u.1] at b;cases b
 |succ k=>
  rw[f] at u;rcases u with⟨Q,_⟩|⟨_,H,es,Z,F,B⟩
  .rw[Q] at b;cases b
  have E:(i ==0)=false:=by simp;omega
  have v:=ta (P:=P) (sl:=sl) (i:=i) G (by rw[E];exact F w);obtain⟨I,J,pj,N,o,T⟩:=X.wokenBy z (.refl _ _ _ w) g H;have W:sumTo (K0+1) (upd q i k)+(k+1)=sumTo (K0+1) q+k:=by
   have:=sumTo_upd q k id (show i<K0+1 by omega);simpa[f] using this
  refine⟨_,_,(phi n (Vc j D) I+Ssum j D,(TV,J+2*Fsum j D+2*sumTo (K0+1) (upd q i k))),v, ?_,
   _,w,sl,j,D,TV,R,S,O,Rk,upd q i k,I,J,d0,woken P g H w a,st,sm,rfl,by rw[sR _ _ _ _ (by omega),ha];rfl,pj, ?_,V,bh.retag o,rfl⟩
  .rw[phi_retag n _ o];exact Prod.Lex.right _ (Prod.Lex.right _ (by omega))
  .refine⟨by simp[c.size],λL x l A m=> ?_,λM Y=> ?_,c.ti.aw2 (by omega) hi Z,c.bY,c.has,c.pay,c.unO⟩
   .by_cases e:i=L
    .subst e;rw[ur _ _ _ (by rw[c.size];omega)] at m;obtain rfl:=dk m;rw[qi,Deaf_own];exact B
    .rw[sR _ _ _ _ e] at m;obtain⟨y,U,rfl⟩:=lc.1 m;have r:=c.old L y l A U;rw[sS r,qO q k (sj e),rh t e _ g_of_ofEvents];exact r
   .obtain⟨x,m,s⟩:=c.wk M Y;exact⟨x,by rw[sR _ _ _ _ (by omega),m,qk,s.woken],s⟩
end
end
section
open Go.Conc Go.ConcN
open Go.ConcR (KK wgBlock WgAt stA smA rd wr mk Payload DC0 Bk g_of_ofEvents ofEvent_mk ofEvent_loc_mark loc_of_ofEvent bk_of_mute again_blocked)
section
variable {Wg C K0:Nat} {aY:au}
def akM{l:Loc}(h:ShN Wg l):Shr Wg aY l:=let⟨a,e,h⟩:=h;⟨a,e,.inl h⟩
def aiw(h:Bk Wg e){x:Touch}(b:(MemAct.ofEvent e).touch?=some x):Shr Wg aY x.loc:=by
 rcases h with h|h|⟨a,wr,rfl,c⟩
 .rw[ofEvent_loc_mark h] at b;cases b
 .rw[ofEvent_loc_mark h] at b;cases b
 .simp[MemAct.ofEvent,MemAct.touch?] at b;subst b;exact⟨a,rfl,.inl c⟩
def aw4(h:Bk Wg e)(b:Wg<B):(MemAct.ofEvent e).low B:=by
 rcases h with h|h|⟨a,wr,rfl,c⟩
 .rw[ofEvent_loc_mark h];trivial
 .rw[ofEvent_loc_mark h];trivial
 .show a.block<B;omega
def aw5{Rd : Nat->Loc->Prop}{k:Nat}{fn:FuncId}(h:∀e∈es,Bk Wg e):∀op∈MemOp.ofEvents k fn pos es,OkW (Shr Wg aY) Own Rd k op:=λop c=>
 let⟨g,d⟩:=okW_of_Bk (Own:=Own) (Rd:=Rd) h op c;⟨g,λx f=>(d x f).imp (λ⟨a,b⟩=>⟨akM a,b⟩) id⟩
def aqr{Rd : Nat->Loc->Prop}{j:Nat}{fn:FuncId}(h:∀e∈es,Bk Wg e):∀op∈MemOp.ofEvents 0 fn pos es,Ok0 (Shr Wg aY) Own Rd j op:=λop c=>by
 obtain⟨e,d,rfl⟩:=mu c;exact⟨rfl,λx b=>.inl ⟨aiw (h e d) b,by
  rcases h e d with h|h|⟨a,wr,rfl,f⟩
  .simp only[ofEvent_loc_mark h] at b;cases b
  .simp only[ofEvent_loc_mark h] at b;cases b
  .simp[MemAct.ofEvent,MemAct.touch?] at b;subst b;simp⟩⟩
def atJ{R d:au}{O c:Nat->au}{fn:FuncId}(k:O κ=d)(j:c κ=R)(h:∀e∈es,EvP Wg C R (dR κ) d B e) :
  ∀op∈MemOp.ofEvents (K0+1+κ) fn pos es,OkW (Shr Wg aY) (aaW C K0 O) (RdL K0 c) (K0+1+κ) op:=λop b=>by
 obtain⟨e,i,rfl⟩:=mu b;refine⟨rfl,λx g=> ?_⟩;rcases(h e i).touch x g with a|a|⟨a,f⟩
 .exact .inr (.inl ⟨κ,rfl,.inl (k▸a)⟩)
 .exact .inr (.inl ⟨κ,rfl,.inr a⟩)
 .exact .inr (.inr ⟨⟨κ,rfl,j▸a⟩,f⟩)
def amL{R c b:au}{g:Nat}{fn:FuncId}(h:∀e∈es,EvP Wg C R c b B e):∀op∈MemOp.ofEvents g fn pos es,op.act.low B:=λop a=>by
 obtain⟨e,d,rfl⟩:=mu a;exact(h e d).low
def ag1(b:Wg<B){g:Nat}{fn:FuncId}(h:∀e∈es,Bk Wg e):∀op∈MemOp.ofEvents g fn pos es,op.act.low B:=λop a=>by
 obtain⟨e,c,rfl⟩:=mu a;exact aw4 (h e c) b
end
section
variable [Payload] {P:Program} {ty:TypeId} {Wg C n K0:Nat} {val:Nat->Value} {aY:au} {aT Fin:au->au->Goroutine->World->Prop}
 {gs:Array Goroutine} {w w':World} {sl:Option (Nat×Nat)} {j:Nat} {D:Nat->WD} {TV:Nat->jv} {R S:au} {O Rk:Nat->au} {q:Nat->Nat} {tag:CTag} {f0 d0:Nat} {a:Goroutine} {t:Trace} {st sm:Int}
def MI.wgO(h:MI P ty Wg C n K0 val aY j gs w t D TV R S O Rk q d0)(d:Aside Wg w w')(a:WgLive ty Wg w')(κ:Nat):jB ty Wg C (2*n) (Rk κ) (dR κ) (O κ) w w':=
 .of_wg d a (λb c e=>by subst e;exact c.elim (h.bY.wo κ) λx=>h.bY.wr (h.bY.rk κ _ x)) h.bY.cw
def MI.wgM(h:MI P ty Wg C n K0 val aY j gs w t D TV R S O Rk q d0)(c:Aside Wg w w')(d:WgLive ty Wg w'):RM ty Wg C n R S w w':=
 .of_wg c d (λb a e=>by subst e;exact a.elim h.bY.ws h.bY.wr) h.bY.cw
def aix (hn:n<2147483648) (an:∀R S g w,aT R S g w->g.status=.running) (N:gs[0]?=some a) (lH:fj P ty Wg C n val aT Fin tag j R S (TV 0) f0 d0 a w) (p:MI P ty Wg C n K0 val aY j gs w t D TV R S O Rk q d0) (H:WgAt ty Wg w st sm) (bh:ConcN.Mode j D tag st sm)
  (F:κ<j) (hg:gs[K0+1+κ]?=some g) (U:g.status=.running) :
  ∃l E mr,runT P (crowd gs w sl) (K0+1+κ)=(.next l,E)/\aaU (n+1) mr (phi n (Vc j D) tag+Ssum j D,(TV,f0+2*Fsum j D+2*sumTo (K0+1) q))/\aac P ty Wg C n K0 val aY aT Fin mr l (t++E):=by
 obtain⟨aL,ax,hs⟩:=p.wk κ F;obtain rfl:g=aL:=by rw[hg] at ax;exact dk ax
 have hb:=lH.bound;have bi:=Vc_le j D;have a8:=p.ti.deafW κ F;have hW:=p.bY.wlt;generalize A:(D κ).stage=s at hs;generalize b4:(D κ).fuel=m at hs;generalize a4:(D κ).deaf=dd at hs;rw[a4] at a8;cases hs with
 |work h=>
  rcases h.cases with bR|⟨f,hT,_,d⟩
  .obtain⟨⟨_,a0,u,c,B,hk⟩,aZ⟩:=bR w (.refl _ _ _ w);rw[Nat.add_sub_cancel] at a0;have e1:MemOp.ofEvents (K0+1+κ) g.frame.fn g.frame.place #[mk (.releaseMerge (stA Wg))]=#[{g:=K0+1+κ,fn:=g.frame.fn,pos:=g.frame.place,act:=.mark (.releaseMerge (stA Wg))}]:=by rw[ofEvents_eq];simp[ofEvent_mk]
   refine pg (T':=TV (κ+1)) an N lH p F hg c (.refl _ _ _ w) (λ_ _ _=>.refl _ _ _ w) (.rest (by omega) (.k1 hk)) (λ_ x=>x) (λ_ x=>.inl x) (λop J=> ?_) (by intro e k;simp at k;subst k;simp[mk]) (by rw[a4];rfl) (λop J=> ?_)
    (λ_=>⟨t.size,RelBy.new a8 _ _,λi op x hi ho _ _=> ?_⟩) (λ_=>⟨a0,aZ⟩) p.pay H (λ_ ht _=>(bh.counted F (by omega) (.inl rfl) _ _).retag ht) (.inl ⟨by omega,by simp[cnt,A]⟩)
   .rw[e1] at J;simp at J;subst J;exact⟨rfl,λx hx=>by simp[MemAct.touch?] at hx⟩
   .rw[e1] at J;simp at J;subst J;exact hW
   .have:=lt_size_of_getElem? ho;rw[e1] at this;simp at this;omega
  .obtain⟨u,w',es,S',c,hG,b6⟩:=d w (.refl _ _ _ w);have Z:Wg<w.heap.size/\¬O κ Wg/\Wg≠C:=⟨hW,p.bY.wo κ,λe=>p.bY.cw e.symm⟩;have b2:WgAt ty Wg w' st sm:=H.of_block (hG.keep Wg Z.1 Z.2.1 Z.2.2);refine pg an N lH p F hg c
    (.akK hG (λb hb=>hb.elim (λx=>⟨p.bY.slt b x,λy=>p.bY.os κ b y x,λe=>p.bY.cs (e▸x)⟩) λx=>⟨p.bY.rlt b x,λy=>p.bY.orr κ b y x,λe=>p.bY.cr (e▸x)⟩) (λi x=>x.elim) Z)
    (λgC _ ao=>.akK hG (λb hb=>hb.elim (λx=>⟨p.bY.olt gC b x,λy=>ao (p.bY.oo gC κ b x y),λe=>p.bY.co gC (e▸x)⟩) λx=>⟨p.bY.rlt b (p.bY.rk gC b x),λy=>p.bY.orr κ b y (p.bY.rk gC b x),λe=>p.bY.cr (e▸p.bY.rk gC b x)⟩) (λi x y=>ao (x.symm.trans y)) Z)
    (.work b6) hG.mono hG.new (atJ (by rw[qi]) rfl hG.ev) (λe k=>(hG.ev e k).rel) (by rw[a4];exact tE (λe k=>⟨(hG.ev e k).dis,(hG.ev e k).en⟩) 0) (amL hG.ev)
    (λh=>by omega) (λh=>by omega) (hG.pay p.pay) b2 (λ_ ht _=>ConcN.Mode.retag (by have:=bh.same (i:=κ) 0 0;rwa [A] at this) ht) (.inr (.inl ⟨A.symm,by rw[hT];exact⟨f,w,rfl,rfl⟩⟩))
 |rest h6 h=>
  have aX:∀{u:Goroutine} {w':World} {es:Array Event} {V I G:Nat} {W Y:Int},stepG P false g w=.go u w' es->Aside Wg w w'->WgAt ty Wg w' W Y->(∀e∈es,Bk Wg e)->
    (∀jx e,es[jx]?=some e->(MemAct.ofEvent e).touch?=none\/0<deafBehind dd (es.extract 0 jx))->WSit P ty Wg C (2*n) FF FF 0 (2*κ+1) (val (2*κ)) V I G u w'->deafBehind dd es=G->V<=6->
    (∀dU,(dU=tag\/(tag=.blk/\dU=.w3))->(mayWake P g=true->u.status=.running->dU ≠ .blk)->ConcN.Mode j (upd D κ ⟨V,I,G⟩) dU W Y)->((V<s/\cnt ⟨V,I,G⟩<=cnt (D κ))\/(V=s/\I+1=m))->
    ∃l E mr,runT P (crowd gs w sl) (K0+1+κ)=(.next l,E)/\aaU (n+1) mr (phi n (Vc j D) tag+Ssum j D,(TV,f0+2*Fsum j D+2*sumTo (K0+1) q))/\aac P ty Wg C n K0 val aY aT Fin mr l (t++E):=by
   intro u w' es V I G W Y c Q a3 iQ hd a1 ad b8 af a9;obtain⟨cs,b5,ba⟩:=p.pay;have hl:WgLive ty Wg w':=⟨_,_,a3⟩;have a0:=p.has κ F (by omega);have ec:∀o,w'.cell? ⟨C,o,none⟩=w.cell? ⟨C,o,none⟩:=un (Q.block C p.bY.cw);exact pg an N lH p F hg c (p.wgM Q hl) (λgC _ _=>p.wgO Q hl gC) (.rest b8 a1) (λ_ x=>x) (λ_ x=>.inl x) (aw5 iQ) (norel_of_Bk iQ) (by rw[a4];exact ad) (ag1 (by rw[Q.size];exact hW) iQ)
    (λ_=>let⟨r,hr,b7⟩:=p.ti.rel κ F (by omega);⟨r,hr.book a8 _ _ iQ hd,b7.app λop J _ x hx=>by obtain⟨e,k,rfl⟩:=mu J;exact aiw (iQ e k) hx⟩)
    (λ_=>⟨(ec _).trans a0.1,(ec _).trans a0.2⟩) ⟨cs,(Q.block C p.bY.cw).trans b5,ba⟩ a3 af
    (by rw[A,b4];exact a9.imp id λx=>.inr ⟨x.1,rfl,x.2⟩)
  have z:∀{u:Goroutine} {w':World} {es:Array Event} {V I G:Nat} {W Y:Int},stepG P false g w=.go u w' es->Aside Wg w w'->WgAt ty Wg w' W Y->(∀e∈es,Bk Wg e)->
    (∀jx e,es[jx]?=some e->(MemAct.ofEvent e).touch?=none\/0<deafBehind dd (es.extract 0 jx))->WSit P ty Wg C (2*n) FF FF 0 (2*κ+1) (val (2*κ)) V I G u w'->deafBehind dd es=G->V<=6->
    ConcN.Mode j (upd D κ ⟨V,I,G⟩) tag W Y->((V<s/\cnt ⟨V,I,G⟩<=cnt (D κ))\/(V=s/\I+1=m))->
    ∃l E mr,runT P (crowd gs w sl) (K0+1+κ)=(.next l,E)/\aaU (n+1) mr (phi n (Vc j D) tag+Ssum j D,(TV,f0+2*Fsum j D+2*sumTo (K0+1) q))/\aac P ty Wg C n K0 val aY aT Fin mr l (t++E):=
   λc Q a3 iQ hd a1 ad h6 af a9=>aX c Q a3 iQ hd a1 ad h6 (λ_ ht _=>af.retag ht) a9
  have K:∀{u:Goroutine} {I:Nat},stepG P false g w=.go u w #[]->WSit P ty Wg C (2*n) FF FF 0 (2*κ+1) (val (2*κ)) s I dd u w->I+1=m->
    ∃l E mr,runT P (crowd gs w sl) (K0+1+κ)=(.next l,E)/\aaU (n+1) mr (phi n (Vc j D) tag+Ssum j D,(TV,f0+2*Fsum j D+2*sumTo (K0+1) q))/\aac P ty Wg C n K0 val aY aT Fin mr l (t++E):=by
   intro u I c a1 hm;exact z c (.refl Wg w) H (by simp) (by simp) a1 rfl h6 (by have:=bh.same (i:=κ) I dd;rwa [A] at this) (.inr ⟨rfl,hm⟩)
  cases h with
  |r0 h=>omega
  |k1 h=>
   rcases rJ h with bR|⟨I,rfl,d⟩
   .obtain⟨_,u,c,B,hk⟩:=bR w (tV w);exact z c (.refl Wg w) H (by intro e k;simp at k;subst k;exact .inl rfl) (by intro jx e k;exact .inl (by have:=qC k;simp at this;subst this;rfl)) (.d1 hk) rfl (by omega)
     (bh.counted F (by omega) (.inr rfl) _ _) (.inl ⟨by omega,by simp[cnt,A]⟩)
   .obtain⟨u,w',es,c,⟨rfl,rfl⟩,lT⟩:=d w (tV w);exact K c (.k1 lT) rfl
  |d1 h=>
   rcases rJ h with bR|⟨I,rfl,d⟩
   .obtain⟨_,a5⟩:=bR w (tV w);have bb:cnt (D κ)=1:=by simp[cnt,A]
    have bf:1<=Vc j D:=by have:=le_sumTo (f:=λx=>cnt (D x)) F;simp only[Vc];omega
    have a6:∀e∈#[rd (stA Wg),wr (stA Wg)],Bk Wg e:=by intro e k;simp at k;rcases k with rfl|rfl<;>exact ConcN.bk_cell _ _ rfl
    have aa:∀jx e,(#[rd (stA Wg),wr (stA Wg)]:Array Event)[jx]?=some e->(MemAct.ofEvent e).touch?=none\/0<deafBehind 1 ((#[rd (stA Wg),wr (stA Wg)]:Array Event).extract 0 jx):=by
     intro jx e k
     match jx,k with
     |0,_=>exact .inr (by simp[deafBehind])
     |1,_=>exact .inr (by simp[deafBehind,rd])
     |jx+2,k=>simp at k
    have ay:∀q,cnt (⟨1,q,1⟩:WD)=0:=λ_=>rfl;have aG:∀q,OpenSt j D->OpenSt j (upd D κ ⟨1,q,1⟩):=λq h a N=>by
     by_cases e:a=κ
     .subst e;rw[qi];simp
     .rw[qO D _ e];exact h a N
    cases bh with
    |opn h1 h2 h3=>
     obtain⟨v,hv⟩:∃v,Vc j D+pend tag=v+1:=⟨Vc j D+pend tag-1,by omega⟩;rw[hv] at H;have cE:WgAt ty Wg w (((v:Nat)+1)*KK+((0:Nat):Int)) 0:=by simpa using H
     obtain⟨u,c,_,X⟩:=a5 v 0 (by omega) (by omega) cE;obtain⟨M,X⟩:=X (by omega);have al:Vc j (upd D κ ⟨1,M,1⟩)+pend tag=v:=by have:=Vc_upd D (⟨1,M,1⟩:WD) F;have:=ay M;omega
     refine z c (sK w (stA Wg) _) (H.setSt _) a6 aa (.quit X) rfl (by omega) ?_ (.inl ⟨by omega,by simp[cnt]⟩);have e:((v:Nat):Int)*KK+((0:Nat):Int)=((Vc j (upd D κ ⟨1,M,1⟩)+pend tag:Nat):Int)*KK:=by rw[al];simp
     rw[e];exact .opn h1 (aG M h2) (λvs ev=>by have:=h3 vs ev;omega)
    |reg h1 h2 h3=>
     obtain⟨v,hv⟩:∃v,Vc j D=v+1:=⟨Vc j D-1,by omega⟩;rw[hv] at H;have hp:pend tag=0:=by cases tag<;>first|rfl|exact h1.elim
     have cE:WgAt ty Wg w (((v:Nat)+1)*KK+((1:Nat):Int)) 0:=by simpa using H
     obtain⟨u,c,hl,X⟩:=a5 v 1 (by omega) (by omega) cE;by_cases b9:v=0
     .subst b9;obtain⟨B,hk⟩:=hl ⟨rfl,rfl⟩;refine z c (sK w (stA Wg) _) (H.setSt _) a6 aa (.d2 hk) rfl (by omega) ?_ (.inl ⟨by omega,by simp[cnt]⟩);have T:∀a,a<j->a≠κ->(D a).stage=1:=λa N e=>by
       have c0:=others_uncounted F hv bb a N e;have:=h2 a N;simp only[cnt] at c0;split at c0<;>omega
      have:=ConcN.Mode.last (j:=j) (D:=upd D κ ⟨4,B,1⟩) (tag:=tag) κ h1 F (by rw[qi];simp) (λa N e=>by rw[qO D _ e];exact T a N e);rw[qi] at this;simpa using this
     .obtain⟨M,X⟩:=X (by omega);have al:Vc j (upd D κ ⟨1,M,1⟩)=v:=by have:=Vc_upd D (⟨1,M,1⟩:WD) F;have:=ay M;omega
      refine z c (sK w (stA Wg) _) (H.setSt _) a6 aa (.quit X) rfl (by omega) ?_ (.inl ⟨by omega,by simp[cnt]⟩);have e:((v:Nat):Int)*KK+((1:Nat):Int)=((Vc j (upd D κ ⟨1,M,1⟩):Nat):Int)*KK+1:=by rw[al];simp
      rw[e];exact .reg h1 (aG M h2) (by omega)
    |last L _ h2 h3 h4=>
     by_cases e:κ=L
     .subst e;omega
     .have:=h4 κ F e;omega
    |sema h2=>have:=h2 κ F;omega
    |fin _ h2=>have:=h2 κ F;omega
   .obtain⟨u,w',es,c,⟨rfl,rfl⟩,lT⟩:=d w (tV w);exact K c (.d1 lT) rfl
  |d2 h=>
   rcases rJ h with bR|⟨I,rfl,d⟩
   .obtain⟨_,hx⟩:=bR w (tV w);obtain⟨a2,T,rfl,rfl⟩:=bh.isLast F (by omega);simp only[A] at H;obtain⟨u,c,B,hk⟩:=hx (by simpa using H);refine z c (.refl Wg w) H (by intro e k;simp at k;subst k;exact ConcN.bk_cell _ _ rfl) (by intro jx e k;match jx,k with|0,_=>exact .inr (by simp[deafBehind])|jx+1,k=>simp at k) (.d3 hk) rfl (by omega) ?_ (.inl ⟨by omega,by simp[cnt]⟩);have:=ConcN.Mode.last (j:=j) (D:=upd D κ ⟨3,B,1⟩) (tag:=tag) κ a2 F (by rw[qi];simp) (λa N e=>by rw[qO D _ e];exact T a N e);rw[qi] at this;simpa using this
   .obtain⟨u,w',es,c,⟨rfl,rfl⟩,lT⟩:=d w (tV w);exact K c (.d2 lT) rfl
  |d3 h=>
   rcases rJ h with bR|⟨I,rfl,d⟩
   .obtain⟨_,hx⟩:=bR w (tV w);obtain⟨a2,T,rfl,rfl⟩:=bh.isLast F (by omega);simp only[A] at H;obtain⟨u,c,B,hk⟩:=hx (by simpa using H);refine z c (sK w (stA Wg) _) (H.setSt 0) (by intro e k;simp at k;subst k;exact ConcN.bk_cell _ _ rfl) (by intro jx e k;match jx,k with|0,_=>exact .inr (by simp[deafBehind])|jx+1,k=>simp at k) (.d4 hk) rfl (by omega) ?_ (.inl ⟨by omega,by simp[cnt]⟩);have:=ConcN.Mode.last (j:=j) (D:=upd D κ ⟨2,B,1⟩) (tag:=tag) κ a2 F (by rw[qi];simp) (λa N e=>by rw[qO D _ e];exact T a N e);rw[qi] at this;simpa using this
   .obtain⟨u,w',es,c,⟨rfl,rfl⟩,lT⟩:=d w (tV w);exact K c (.d3 lT) rfl
  |d4 h=>
   rcases rJ h with bR|⟨I,rfl,d⟩
   .obtain⟨_,b0,hx⟩:=bR w (tV w);obtain⟨a2,T,rfl,rfl⟩:=bh.isLast F (by omega);simp only[A] at H;obtain⟨u,c,M,X⟩:=hx (by simpa using H);have a7:u.status=.running:=by
     cases M with
     |zero=>exact absurd X.2 (by decide)
     |succ M=>exact X.elim (λx=>absurd x.2 (by decide)) (λx=>x.1)
    refine aX c (sK w (smA Wg) _) (H.setSm 1) (es:=semEvents (smA Wg)) ?_ ?_ (.quit X) (by simp[deafBehind,semEvents]) (by omega) ?_ (.inl ⟨by omega,by simp[cnt]⟩)
    .exact bk_sem
    .intro jx e k
     match jx,k with
     |0,k=>simp[semEvents] at k;subst k;exact .inl rfl
     |1,_=>exact .inr (by simp[deafBehind,semEvents])
     |2,_=>exact .inr (by simp[deafBehind,semEvents])
     |3,k=>simp[semEvents] at k;subst k;exact .inl rfl
     |jx+4,k=>simp[semEvents] at k
    .intro dU ht hw;have b3:=hw b0 a7;have e3:dU=.w3:=by
      rcases ht with rfl|⟨_,rfl⟩
      .cases dU<;>first|rfl|exact a2.elim|exact absurd rfl b3
      .rfl
     subst e3;simp only[pr];exact .sema λa N=>by
      by_cases e:a=κ
      .subst e;rw[qi]
      .rw[qO D _ e];exact T a N e
   .obtain⟨u,w',es,c,⟨rfl,rfl⟩,lT⟩:=d w (tV w);exact K c (.d4 lT) rfl
  |quit h=>
   cases m with
   |zero=>rw[h.1] at U;cases U
   |succ M=>
    rcases h with⟨hf,_⟩|⟨_,u,es,aI,d,X⟩
    .rw[hf] at U;cases U
    .have iQ:∀e∈es,Bk Wg e:=λe k=>bk_of_mute (aI e k);have b1:∀jx e,es[jx]?=some e->(MemAct.ofEvent e).touch?=none\/0<deafBehind dd (es.extract 0 jx):=λjx e k=>.inl (touch_mute (aI e (qC k)));exact z (d w) (.refl Wg w) H iQ b1 (.quit X) rfl (by omega) (by have:=bh.same (i:=κ) M (deafBehind dd es);rwa [A] at this) (.inr ⟨rfl,rfl⟩)
end
variable [Payload]
omit [Payload] in
def pW(h:aaV Wg e):e.loc ≠ .mark .disable/\e.loc ≠ .mark .enable/\e.loc ≠ .mark (.release (stA Wg)):=by
 obtain⟨a,_,rfl|rfl⟩:=h<;>simp[mk]
omit [Payload] in
def nD(h:aaV Wg e){x:Touch}(b:(MemAct.ofEvent e).touch?=some x):ShN Wg x.loc/\x.kind ≠ .plain:=by
 obtain⟨a,c,rfl|rfl⟩:=h<;>(simp[mk,MemAct.ofEvent,MemAct.touch?] at b;subst b;exact⟨⟨a,rfl,c⟩,by simp⟩)
omit [Payload] in
def aiy(h:aaV Wg e)(b:Wg<B):(MemAct.ofEvent e).low B:=by
 obtain⟨a,c,rfl|rfl⟩:=h<;>(show a.block<B;omega)
section
variable {P:Program} {ty:TypeId} {Wg C n K0:Nat} {val:Nat->Value} {aY:au} {aT Fin:au->au->Goroutine->World->Prop}
 {gs:Array Goroutine} {w w':World} {sl:Option (Nat×Nat)} {j:Nat} {D:Nat->WD} {TV:Nat->jv} {R S S':au} {O Rk:Nat->au} {q:Nat->Nat} {tag dU:CTag} {f0 f' d0:Nat} {a a':Goroutine} {t:Trace} {st sm st' sm':Int} {es:Array Event} {T':jv}
def jU (y:gs[0]?=some a) (g:MI P ty Wg C n K0 val aY j gs w t D TV R S O Rk q d0) (o:stepG P true a w=.go a' w' es) (c:Aside Wg w w') (f:WgAt ty Wg w' st' sm') (l:∀e∈es,Bk Wg e)
  (v:fj P ty Wg C n val aT Fin dU j R S (TV 0) f' (deafBehind d0 es) a' w') (p:ConcN.Mode j D dU st' sm')
  (k:phi n (Vc j D) dU<phi n (Vc j D) tag\/(phi n (Vc j D) dU=phi n (Vc j D) tag/\f'<f0)) :
  ∃d i s,runT P (crowd gs w sl) 0=(.next d,i)/\aaU (n+1) s (phi n (Vc j D) tag+Ssum j D,(TV,f0+2*Fsum j D+2*sumTo (K0+1) q))/\aac P ty Wg C n K0 val aY aT Fin s d (t++i):=by
 obtain⟨z,r,m⟩:=g.pay;exact jI y g o (oS c.size.symm) (λu _=>g.wgO c ⟨_,_,f⟩ u) (λb x=>.inl x) (aqr l) (norel_of_Bk l) (ag1 (by rw[c.size];exact g.bY.wlt) l) ⟨z,(c.block C g.bY.cw).trans r,m⟩ v f p
  (k.imp id λx=>⟨x.1,.inr ⟨rfl,x.2⟩⟩)
def aw6 (y:gs[0]?=some a) (g:MI P ty Wg C n K0 val aY j gs w t D TV R S O Rk q d0) (o:stepG P true a w=.go a' w' es) (c:Aside Wg w w') (f:WgAt ty Wg w' st' sm') (l:∀e∈es,Bk Wg e)
  (v:fj P ty Wg C n val aT Fin dU j R S T' f' (deafBehind d0 es) a' w') (p:ConcN.Mode j D dU st' sm') (k:phi n (Vc j D) dU<phi n (Vc j D) tag) :
  ∃d i s,runT P (crowd gs w sl) 0=(.next d,i)/\aaU (n+1) s (phi n (Vc j D) tag+Ssum j D,(TV,f0+2*Fsum j D+2*sumTo (K0+1) q))/\aac P ty Wg C n K0 val aY aT Fin s d (t++i):=by
 obtain⟨z,r,m⟩:=g.pay;exact jI y g o (oS c.size.symm) (λu _=>g.wgO c ⟨_,_,f⟩ u) (λb x=>.inl x) (aqr l) (norel_of_Bk l) (ag1 (by rw[c.size];exact g.bY.wlt) l) ⟨z,(c.block C g.bY.cw).trans r,m⟩ v f p (.inl k)
def nE (z:gs[0]?=some a) (k:MI P ty Wg C n K0 val aY j gs w t D TV R S O Rk q d0) (s:WgAt ty Wg w st sm) (y:ConcN.Mode j D tag st sm) (l:stepG P true a w=.go a' w' es) (u:DSd Wg w w' es)
  (v:fj P ty Wg C n val aT Fin tag j R S (TV 0) f' d0 a' w') (r:f'<f0) :
  ∃f i o,runT P (crowd gs w sl) 0=(.next f,i)/\aaU (n+1) o (phi n (Vc j D) tag+Ssum j D,(TV,f0+2*Fsum j D+2*sumTo (K0+1) q))/\aac P ty Wg C n K0 val aY aT Fin o f (t++i):=by
 obtain⟨rfl,c⟩:=u;have m:deafBehind d0 es=d0:=tE (λe d=>⟨(pW (c e d)).1,(pW (c e d)).2.1⟩) d0;refine jI z k l (am _) (λ_ _=>.refl _ _ _ _) (λb x=>.inl x) (λop g=> ?_) (λe d=>(pW (c e d)).2.2) (λop g=> ?_) k.pay (by rw[m];exact v) s y (.inr ⟨rfl,.inr ⟨rfl,r⟩⟩)
 .obtain⟨e,d,rfl⟩:=mu g;exact⟨rfl,λx p=>.inl ⟨akM (nD (c e d) p).1,(nD (c e d) p).2⟩⟩
 .obtain⟨e,d,rfl⟩:=mu g;exact aiy (c e d) k.bY.wlt
def akO (U:gs[0]?=some a) (c:MI P ty Wg C n K0 val aY j gs w t D TV R S O Rk q d0) (M:WgAt ty Wg w st sm) (T:ConcN.Mode j D tag st sm) (G:stepG P true a w=.go a' w' es) (f:Gua Wg C (2*n) R noC S S' w w' es)
  (Q:fj P ty Wg C n val aT Fin tag j R S' T' f' d0 a' w') (K:jv.Lt T' (TV 0)) :
  ∃o s I,runT P (crowd gs w sl) 0=(.next o,s)/\aaU (n+1) I (phi n (Vc j D) tag+Ssum j D,(TV,f0+2*Fsum j D+2*sumTo (K0+1) q))/\aac P ty Wg C n K0 val aY aT Fin I o (t++s):=by
 have B:deafBehind d0 es=d0:=tE (λe p=>⟨(f.ev e p).dis,(f.ev e p).en⟩) d0;have l:Wg<w.heap.size/\¬S Wg/\Wg≠C:=⟨c.bY.wlt,c.bY.ws,λe=>c.bY.cw e.symm⟩;have g:=c.bY.avN f.size f.new;refine jI U c G f.size (λd _=>.akK f (λb z=>z.elim (λx=>⟨c.bY.olt d b x,λy=>c.bY.os d b x y,λe=>c.bY.co d (e▸x)⟩) λx=>⟨c.bY.rlt b (c.bY.rk d b x),λy=>c.bY.rs b (c.bY.rk d b x) y,λe=>c.bY.cr (e▸c.bY.rk d b x)⟩) (λi _ y=>y.elim) l)
  f.new (λop A=> ?_) (λe p=>(f.ev e p).rel) (amL f.ev) (f.pay c.pay) (by rw[B];exact Q) (M.of_block (f.keep Wg l.1 l.2.1 l.2.2)) T (.inr ⟨rfl,.inl K⟩)
 obtain⟨e,p,rfl⟩:=mu A;refine⟨rfl,λx N=>.inr ?_⟩;have u:∀{Z:au},(¬Z Wg)->(∀b,aY b->¬Z b)->In Z x.loc->¬Shr Wg aY x.loc:=λF E v ⟨L,e,h⟩=>by
  have:=In.block v e;rcases h with h|h
  .rw[h] at this;exact F this
  .exact E _ h this
 have r:∀{Z:au},(∀d b,O d b->¬Z b)->(¬Z C)->In Z x.loc->∀k,¬aaW C K0 O k x.loc:=λF E v k ⟨d,_,h⟩=>by
  rcases h with h|⟨L,e,h,_⟩
  .exact In.no (F d) h v
  .have:=In.block v e;rw[h] at this;exact E this
 rcases(f.ev e p).touch x N with m|⟨_,_,_,m⟩|⟨m,J⟩
 .refine⟨u g.ws g.shs m,λk _ _=>r g.os g.cs m k,λ_ k _ _ ⟨d,_,hr⟩=> ?_⟩;exact In.no (λb z=>g.rs b (c.bY.rk d b z)) hr m
 .exact m.elim
 .refine⟨u c.bY.wr c.bY.shr m,λk _ _=>r c.bY.orr c.bY.cr m k,λH=> ?_⟩;rw[J] at H;cases H
def an7 (hn:n<2147483648) (b6:∀R S g w,aT R S g w->∃m,GP P ty Wg C n R S (MW1 P ty Wg C n R S aT Fin) m g w)
  (z:gs[0]?=some a) (lH:fj P ty Wg C n val aT Fin tag j R S (TV 0) f0 d0 a w) (k:MI P ty Wg C n K0 val aY j gs w t D TV R S O Rk q d0) (o:WgAt ty Wg w st sm) (v:ConcN.Mode j D tag st sm) (al:a.status=.running) :
  (∃B M,runT P (crowd gs w sl) 0=(.next B,M)/\amK P ty Wg C n K0 val aY Fin B (t++M))\/
  (∃B M mr,runT P (crowd gs w sl) 0=(.next B,M)/\aaU (n+1) mr (phi n (Vc j D) tag+Ssum j D,(TV,f0+2*Fsum j D+2*sumTo (K0+1) q))/\aac P ty Wg C n K0 val aY aT Fin mr B (t++M)):=by
 have b3:=Vc_le j D;have F:RM ty Wg C n R S w w:=.refl _ _ _ _;have ao:∀{m':Nat} {tag:CTag},j=n->d0=1->isOpen tag->pend tag=0->phi n (Vc n D) .w1<=phi n (Vc n D) tag->f0=f0->(tag=.w1->m'<=f0)->ConcN.Mode j D tag st sm->GP P ty Wg C n R S (MW1 P ty Wg C n R S aT Fin) m' a w->
   (∃B M mr,runT P (crowd gs w sl) 0=(.next B,M)/\aaU (n+1) mr (phi n (Vc j D) tag+Ssum j D,(TV,f0+2*Fsum j D+2*sumTo (K0+1) q))/\aac P ty Wg C n K0 val aY aT Fin mr B (t++M)):=by
  intro m' tag hj hd J hp Q _ hm v h;subst hj hd;have a3:ConcN.Mode j D .w1 st sm:=v.reopen J trivial (by rw[hp];rfl) (by simp);rcases rJ h with E|⟨m',rfl,c⟩
  .obtain⟨_,N⟩:=E w F;obtain⟨W,rfl,rfl,_⟩:=a3.open_inv trivial;obtain⟨a',d,h0,ay⟩:=N (Vc j D) (by omega) (by simpa[pend] using o);by_cases hv:Vc j D=0
   .obtain⟨s,A⟩:=h0 hv;refine jU z k d (.refl Wg w) o bk_rd (dU:=.ke) (.ke A) ?_ (.inl (by simp only[phi] at Q ⊢;omega));have e:((Vc j D+pend .w1:Nat):Int)*KK=0:=by rw[hv];simp[pend]
    rw[e];exact .fin trivial (allQuit_of W hv)
   .obtain⟨s,A⟩:=ay hv;exact jU z k d (.refl Wg w) o bk_rd (dU:=.w2 (Vc j D)) (.w2 A) (a3.reopen trivial trivial rfl (λvs e=>by cases e;omega)) (.inl (by simp only[phi] at Q ⊢;omega))
  .obtain⟨a',w',es,d,K,I⟩:=c w F;rcases Nat.lt_or_eq_of_le Q with Q|Q
   .obtain⟨rfl,U⟩:=K;have b1:deafBehind 1 es=1:=tE (λe he=>⟨(pW (U e he)).1,(pW (U e he)).2.1⟩) 1;refine jI z k d (am _) (λ_ _=>.refl _ _ _ _) (λb x=>.inl x) (λop J=> ?_) (λe he=>(pW (U e he)).2.2) (λop J=> ?_) k.pay (T':=TV 0) (dU:=.w1) (by rw[b1];exact .w1 I) o a3 (.inl Q)
    .obtain⟨e,he,rfl⟩:=mu J;exact⟨rfl,λx Y=>.inl ⟨akM (nD (U e he) Y).1,(nD (U e he) Y).2⟩⟩
    .obtain⟨e,he,rfl⟩:=mu J;exact aiy (U e he) k.bY.wlt
   .have b0:tag=.w1:=by
     cases tag<;>first|rfl|exact J.elim|(simp only[phi] at Q;omega)
    subst b0;exact nE z k o v d K (.w1 I) (by have:=hm rfl;omega)
 cases lH with
 |skd Z h=>
  rcases h.cases with E|⟨f,hT,_,c⟩
  .obtain⟨_,a',d,s,A⟩:=E w F;exact .inr (jU z k d (.refl Wg w) o bk_dis (.sa1 Z A) (v.reopen trivial trivial rfl (by simp)) (.inl (by simp only[phi];omega)))
  .obtain⟨a',w',es,S',d,hG,V⟩:=c w F;exact .inr (akO z k o v d hG (.skd Z V) (by rw[hT];exact⟨f,w,rfl,rfl⟩))
 |sa1 Z h=>
  rename_i r;rcases rJ h with E|⟨m',rfl,c⟩
  .obtain⟨_,N⟩:=E w F;obtain⟨W,rfl,rfl,_⟩:=v.open_inv trivial;obtain⟨a',d,s,A⟩:=N (Vc (n-(r+1)) D) (by omega) (by simpa[pend] using o);refine .inr (jU z k d (sK w (stA Wg) _) (o.setSt _) bk_rw (.ske Z A) ?_ (.inl (by simp only[phi];omega)));have e:(((Vc (n-(r+1)) D:Nat):Int)+1)*KK=((Vc (n-(r+1)) D+pend (.sp r 3):Nat):Int)*KK:=by simp[pend]
   rw[e];exact .opn trivial W (by simp)
  .obtain⟨a',w',es,d,K,I⟩:=c w F;exact .inr (nE z k o v d K (.sa1 Z I) (by omega))
 |ske Z h=>
  rcases rJ h with E|⟨m',rfl,c⟩
  .obtain⟨_,a',d,b9,A⟩:=E w F;exact .inr (aw6 z k d (.refl Wg w) o bk_en (.sgo Z A) (v.reopen trivial trivial rfl (by simp)) (by simp only[phi];omega))
  .obtain⟨a',w',es,d,K,I⟩:=c w F;exact .inr (nE z k o v d K (.ske Z I) (by omega))
 |sgo Z h=>
  rename_i r;rcases h.cases with E|⟨f,hT,_,c⟩
  .obtain⟨_,a',H,X,aI,hX,aL,iw⟩:=E w F;obtain⟨W,rfl,rfl,_⟩:=v.open_inv trivial;obtain⟨Tc,af⟩:=aL k.pay ⟨_,_,o⟩;obtain⟨l,b2⟩:∃l,n-(r+1)=l:=⟨_,rfl⟩;rw[b2] at k o v W af b3 ⊢;have G:=runT_crowd_spawn (P:=P) (sl:=sl) (i:=0) z (by simpa using aI);rw[k.size] at G;have a6:=k.bY.hand l hX;have b5:=k.ti.fork (X:=X) (m':=0) a6.apart (x:={g:=0,fn:=a.frame.fn,pos:=a.frame.place,act:=.go (K0+1+l)}) (y:={g:=K0+1+l,fn:=H.frame.fn,pos:=a.frame.place,act:=.start})
    ⟨rfl,by rw[show K0+1+l=K0+l+1 by omega]⟩ ⟨by show K0+1+l=_;omega,rfl⟩
   have eV:Vc (l+1) (upd D l ⟨7,0,0⟩)=Vc l D+1:=by
    simp only[Vc,sumTo,qi];rw[sumTo_upd_out D _ cnt (am _)];rfl
   have eS:Ssum (l+1) (upd D l ⟨7,0,0⟩)=Ssum l D+7:=by
    simp only[Ssum,sumTo,qi];rw[sumTo_upd_out D _ WD.stage (am _)]
   have ov:OpenSt (l+1) (upd D l ⟨7,0,0⟩):=λi hi=>by
    by_cases e:i=l
    .subst e;rw[qi];simp
    .rw[qO D _ e];exact W i (by omega)
   have ax:((gs.setIfInBounds 0 a').push H)[0]?=some a':=by
    have an:0<gs.size:=by rw[k.size];omega
    rw[ul (by simpa using an),<-fi];simp[an]
   have ej:l+1=n-r:=by omega
   have a9:∀dU,pend dU=0->((Vc l D+pend (.sp r 2):Nat):Int)*KK=((Vc (l+1) (upd D l ⟨7,0,0⟩)+pend dU:Nat):Int)*KK:=λdU hp=>by rw[eV,hp];simp[pend]
   have mi:∀T0,MI P ty Wg C n K0 val aY (l+1) ((gs.setIfInBounds 0 a').push H) w (t++#[{g:=0,fn:=a.frame.fn,pos:=a.frame.place,act:=.go (K0+1+l)},{g:=K0+1+l,fn:=H.frame.fn,pos:=a.frame.place,act:=.start}]) (upd D l ⟨7,0,0⟩) (upd (upd TV (l+1) Tc) 0 T0) (λb=>S b\/R b) (λ_=>False) O (upd Rk l X) q 0:=λT0=>by
    refine⟨by simp[k.size];omega,λi x a4 hi Y=> ?_,λu gJ=> ?_,b5,a6,λu gJ hs=> ?_,k.pay,λu gJ=>k.unO u (by omega)⟩
    .rw[ul (by simp[k.size];omega),<-fi,jp (by omega)] at Y;rw[Deaf_still t i _ (λop J=>by simp at J;rcases J with rfl|rfl<;>simp)];exact k.old i x a4 hi Y
    .rw[qO _ _ (show u+1≠0 by omega)];rcases pi u l with a0|nZ
     .obtain⟨g,hg,b4⟩:=k.wk u a0;refine⟨g, ?_,by rw[qO D _ (by omega),qO Rk _ (by omega),qO TV _ (by omega)];exact b4⟩;rw[ul (by simp[k.size];omega),<-fi,jp (by omega)];exact hg
     .obtain rfl:u=l:=by omega
      refine⟨H, ?_,by rw[qi,qi,qi,k.unO u (am _)];exact .work af⟩;rw[show K0+1+u=(gs.setIfInBounds 0 a').size by simp[k.size],qR]
    .rcases pi u l with a0|nZ
     .rw[qO D _ (by omega)] at hs;exact k.has u a0 hs
     .obtain rfl:u=l:=by omega
      rw[qi] at hs;simp at hs
   cases r with
   |zero=>
    obtain⟨T,A⟩:=iw;have a2:l+1=n:=by omega
    have a5:fj P ty Wg C n val aT Fin .kd (l+1) (λb=>S b\/R b) (λ_=>False) (upd (upd TV (l+1) Tc) 0 T 0) 0 0 a' w:=by
     rw[qi,a2];exact .kd A
    refine .inr ⟨_,_,(phi n (Vc (l+1) (upd D l ⟨7,0,0⟩)) .kd+Ssum (l+1) (upd D l ⟨7,0,0⟩),(upd (upd TV (l+1) Tc) 0 T,0+2*Fsum (l+1) (upd D l ⟨7,0,0⟩)+2*sumTo (K0+1) q)),G,Prod.Lex.left _ _ (by simp only[phi];omega),
     _,w,sl,l+1,_,_,_,_,O,_,q,.kd,0,0,a',_,_,rfl,ax,a5,mi T,o, ?_,rfl⟩
    rw[a9 .kd rfl];exact .opn trivial ov (by simp)
   |succ r'=>
    obtain⟨T,A⟩:=iw;have a2:l+1=n-(r'+1):=by omega
    have a5:fj P ty Wg C n val aT Fin (.sp r' 5) (l+1) (λb=>S b\/R b) (λ_=>False) (upd (upd TV (l+1) Tc) 0 T 0) 0 0 a' w:=by
     rw[qi,a2];exact .skd (by omega) A
    refine .inr ⟨_,_,(phi n (Vc (l+1) (upd D l ⟨7,0,0⟩)) (.sp r' 5)+Ssum (l+1) (upd D l ⟨7,0,0⟩),(upd (upd TV (l+1) Tc) 0 T,0+2*Fsum (l+1) (upd D l ⟨7,0,0⟩)+2*sumTo (K0+1) q)),G,Prod.Lex.left _ _ (by simp only[phi];omega),
     _,w,sl,l+1,_,_,_,_,O,_,q,.sp r' 5,0,0,a',_,_,rfl,ax,a5,mi T,o, ?_,rfl⟩
    rw[a9 (.sp r' 5) rfl];exact .opn trivial ov (by simp)
  .obtain⟨a',w',es,S',d,hG,V⟩:=c w F;exact .inr (akO z k o v d hG (.sgo Z V) (by rw[hT];exact⟨f,w,rfl,rfl⟩))
 |kd h=>
  rcases h.cases with E|⟨f,hT,_,c⟩
  .obtain⟨_,a',d,s,A⟩:=E w F;exact .inr (jU z k d (.refl Wg w) o bk_dis (.anch A) (v.reopen trivial trivial rfl (by simp)) (.inl (by simp only[phi];omega)))
  .obtain⟨a',w',es,S',d,hG,V⟩:=c w F;exact .inr (akO z k o v d hG (.kd V) (by rw[hT];exact⟨f,w,rfl,rfl⟩))
 |anch h=>
  rcases rJ h with E|⟨m',rfl,c⟩
  .obtain⟨s,A⟩:=b6 R S a w (E w F);exact .inr (ao rfl rfl trivial rfl (by simp only[phi];omega) rfl (by simp) v A)
  .obtain⟨a',w',es,d,K,I⟩:=c w F;exact .inr (nE z k o v d K (.anch I) (by omega))
 |w1 h=>exact .inr (ao rfl rfl trivial rfl (am _) rfl (λ_=>am _) v h)
 |w2 h=>
  rename_i vs;rcases rJ h with E|⟨m',rfl,c⟩
  .obtain⟨_,N⟩:=E w F;obtain⟨W,rfl,rfl,aG⟩:=v.open_inv trivial;obtain⟨ba,h1⟩:=aG vs rfl;obtain⟨aZ,aX⟩:=N (Vc n D) (by omega) (by simpa[pend] using o);by_cases e:Vc n D=vs
   .obtain⟨a',d,s,A⟩:=aZ e;exact .inr (jU z k d (sK w (stA Wg) _) (o.setSt _) bk_rw (.w3 A) (.reg trivial W (by omega)) (.inl (by simp only[phi];omega)))
   .obtain⟨a',d,s,A⟩:=aX e;exact .inr (jU z k d (.refl Wg w) o bk_rd (.anch A) (v.reopen trivial trivial rfl (by simp)) (.inl (by simp only[phi];omega)))
  .obtain⟨a',w',es,d,K,I⟩:=c w F;exact .inr (nE z k o v d K (.w2 I) (by omega))
 |w3 h=>
  rcases rJ h with E|⟨m',rfl,c⟩
  .obtain⟨_,b8,a1,jY⟩:=E w F;cases v with
   |opn h1 _ _=>exact h1.elim
   |reg h1 h2 h3=>exact .inr (jU z k (a1 ⟨_,o⟩) (.refl Wg w) o (by simp) (.blk E) (.reg trivial h2 h3) (.inr ⟨rfl,by omega⟩))
   |last L h1 h2 h3 h4=>exact .inr (jU z k (a1 ⟨_,o⟩) (.refl Wg w) o (by simp) (.blk E) (.last L trivial h2 h3 h4) (.inr ⟨rfl,by omega⟩))
   |sema h2=>
    obtain⟨a',d,s,A⟩:=jY o;exact .inr (jU z k d (sK w (smA Wg) _) (o.setSm 0) bk_sem (.w4 A) (.fin trivial h2) (.inl (by simp only[phi];omega)))
   |fin h1 _=>exact h1.elim
  .obtain⟨a',w',es,d,K,I⟩:=c w F;exact .inr (nE z k o v d K (.w3 I) (by omega))
 |blk h=>simp at al
 |w4 h=>
  rcases rJ h with E|⟨m',rfl,c⟩
  .obtain⟨_,Y⟩:=E w F;obtain⟨hq,rfl,rfl⟩:=v.fin_inv trivial;obtain⟨a',d,s,A⟩:=Y o;exact .inr (jU z k d (.refl Wg w) o bk_rd (.ke A) (.fin trivial hq) (.inl (by simp only[phi];omega)))
  .obtain⟨a',w',es,d,K,I⟩:=c w F;exact .inr (nE z k o v d K (.w4 I) (by omega))
 |ke h=>
  rcases rJ h with E|⟨m',rfl,c⟩
  .obtain⟨_,a',d,s,A⟩:=E w F;obtain⟨hq,rfl,rfl⟩:=v.fin_inv trivial;exact .inr (jU z k d (.refl Wg w) o bk_en (.acq A) (.fin trivial hq) (.inl (by simp only[phi];omega)))
  .obtain⟨a',w',es,d,K,I⟩:=c w F;exact .inr (nE z k o v d K (.ke I) (by omega))
 |acq h=>
  rcases rJ h with E|⟨m',rfl,c⟩
  .obtain⟨_,a',d,b7⟩:=E w F;obtain⟨hq,rfl,rfl⟩:=v.fin_inv trivial;have G:=ta (P:=P) (sl:=sl) (i:=0) z (by simpa using d);have h6:∀u,u<n->(D u).stage<=6:=λu gJ=>by rw[hq u gJ];omega
   have a7:=k.ti.join h6 k.bY.apart a.frame.fn a.frame.place k.bY.wlt;refine .inl ⟨_,_,G,_,w,sl,a',λi=>if i<=K0 then q i else(D (i-(K0+1))).fuel,R,S,rfl,ur _ _ _ (by rw[k.size];omega),by simp[k.size],b7,⟨λi x a4 Y=> ?_,λi hi=> ?_⟩,a7,k.pay,λu gJ=>k.has u gJ (h6 u gJ),⟨_,_,o⟩,λb hb=> ?_⟩
   .rw[sR _ _ _ _ (by omega)] at Y;obtain⟨y,hy,rfl⟩:=lc.1 Y;rw[rh t (g':=0) (by omega) _ g_of_ofEvents];by_cases hi:i<=K0
    .have ad:=k.old i y a4 hi hy;rw[sS ad];simp only[dq hi];exact ad
    .have a0:i<K0+1+n:=by have:=(dl.1 hy).1;rw[k.size] at this;omega
     obtain⟨u,rfl⟩:∃u,i=K0+1+u:=⟨i-(K0+1),by omega⟩;obtain⟨g',I,aa⟩:=k.wk u (by omega);rw[hy] at I;cases I;have hd:=k.ti.deafW u (by omega);have h1:=hq u (by omega);rw[h1] at aa;have a8:QuitsD P (D u).fuel (D u).deaf y:=by
      cases aa with
      |rest _ h=>exact h.quits rfl
     rw[sS a8,hd];simp only[bv hi];rw[show K0+1+u-(K0+1)=u by omega];exact a8
   .refine Deaf_absent λp op W e=> ?_;have h1:=a7.gs op (qC W);simp[k.size] at hi;omega
   .rcases hb with hb|rfl
    .exact⟨k.bY.shr b hb,k.bY.shs b hb,λe=>k.bY.shc (e▸hb),k.bY.aiu b hb⟩
    .exact⟨k.bY.wr,k.bY.ws,λe=>k.bY.cw e.symm,k.bY.wlt⟩
  .obtain⟨a',w',es,d,K,I⟩:=c w F;exact .inr (nE z k o v d K (.acq I) (by omega))
end
end
section
open Go.Conc Go.ConcN
open Go.ConcR (KK wgBlock WgAt stA smA rd wr mk Payload DC0 Bk g_of_ofEvents ofEvent_mk ofEvent_loc_mark loc_of_ofEvent bk_of_mute again_blocked)
variable [Payload]
section
variable {P:Program} {ty:TypeId} {Wg C n K0:Nat} {val:Nat->Value} {aY:au} {aT Fin:au->au->Goroutine->World->Prop}
 {gs:Array Goroutine} {w:World} {sl:Option (Nat×Nat)} {j:Nat} {D:Nat->WD} {TV:Nat->jv} {R S:au} {O Rk:Nat->au} {q:Nat->Nat} {tag:CTag} {f0 d0:Nat} {a:Goroutine} {t:Trace} {st sm:Int}
def afh(d:∀R S g w,aT R S g w->g.status=.running)(r:gs[0]?=some a)(m:fj P ty Wg C n val aT Fin tag j R S (TV 0) f0 d0 a w)(f:MI P ty Wg C n K0 val aY j gs w t D TV R S O Rk q d0)(p:ConcN.Mode j D tag st sm) :
  ∃(i:Nat) (g:Goroutine),gs[i]?=some g/\g.status=.running:=by
 rcases m.status d with⟨b,_⟩|⟨_,rfl⟩
 .exact⟨0,a,r,b⟩
 .cases p with
  |opn e _ _=>exact e.elim
  |reg _ _ k=>
   obtain⟨i,o,s⟩:=exists_counted k;obtain⟨g,c,b⟩:=f.wk i o;exact⟨K0+1+i,g,c,b.running_of (by omega)⟩
  |last L _ l k _=>
   obtain⟨g,c,b⟩:=f.wk L l;exact⟨K0+1+L,g,c,b.running_of (by omega)⟩
  |fin e _=>exact e.elim
def akS(f:∀R S g w,aT R S g w->g.status=.running)(s:gs[0]?=some a)(o:fj P ty Wg C n val aT Fin tag j R S (TV 0) f0 d0 a w)(d:MI P ty Wg C n K0 val aY j gs w t D TV R S O Rk q d0):∀g∈gs,awake g:=by
 intro g p;obtain⟨i,c⟩:=vM.1 p;rcases qa i with rfl|r
 .rw[s] at c;cases c;rcases o.status f with⟨b,_⟩|⟨b,_⟩
  .exact uu (.inl b)
  .exact uu (.inr (.inl b))
 .by_cases k:i<=K0
  .exact uu ((d.old i g r k c).status.elim .inl λx=>.inr (.inr x))
  .have m:i<K0+1+j:=by have:=(dl.1 c).1;rw[d.size] at this;exact this
   obtain⟨e,rfl⟩:∃e,i=K0+1+e:=⟨i-(K0+1),by omega⟩;obtain⟨u,l,b⟩:=d.wk e (by omega);rw[c] at l;cases l;exact uu (b.status.elim .inl λx=>.inr (.inr x))
def aiz (G:n<2147483648) (f:∀R S g w,aT R S g w->g.status=.running) (y:∀R S g w,aT R S g w->∃m,GP P ty Wg C n R S (MW1 P ty Wg C n R S aT Fin) m g w) (B:Mu) (m:Machine) (t:Trace)
  (h:aac P ty Wg C n K0 val aY aT Fin B m t) :
  (∃b e,stepT P m=(.next b,e)/\amK P ty Wg C n K0 val aY Fin b (t++e))\/(∃b e F,stepT P m=(.next b,e)/\aaU (n+1) F B/\aac P ty Wg C n K0 val aY aT Fin F b (t++e)):=by
 obtain⟨gs,w,sl,j,D,TV,R,S,O,Rk,q,tag,f0,d0,a,st,sm,rfl,r,x,u,I,v,rfl⟩:=h;obtain⟨i,g,d,p,s,c,l⟩:=crowd_pick (P:=P) (w:=w) (sl:=sl) (akS f r x u) (afh f r x u v);rw[l];have z:=x.rely (.at _ _ _ w d);have o:=u.at d;have k:WgAt ty Wg (w.at d) st sm:=I;rcases qa i with rfl|J
 .rw[r] at s;cases s;exact an7 (sl:=p) G y r z o k v c
 .by_cases A:i<=K0
  .exact .inr (aqq (sl:=p) f r z o k v J A s c)
  .have H:i<K0+1+j:=by have:=(dl.1 s).1;rw[u.size] at this;exact this
   obtain⟨E,rfl⟩:∃E,i=K0+1+E:=⟨i-(K0+1),by omega⟩;exact .inr (aix (sl:=p) G f r z o k v (by omega) s c)
def aeE(q:n<2147483648)(l:∀R S g w,aT R S g w->g.status=.running)(i:∀R S g w,aT R S g w->∃m,GP P ty Wg C n R S (MW1 P ty Wg C n R S aT Fin) m g w) :
  ∀(c:Mu) (m:Machine) (t:Trace),aac P ty Wg C n K0 val aY aT Fin c m t->∃N e d,runNT P N m t=(.next e,d)/\amK P ty Wg C n K0 val aY Fin e d:=by
 intro c
 induction c using(atG (n+1)).induction with
 |_ c r=>
  intro m t h;rcases aiz q l i c m t h with⟨a,b,j,k⟩|⟨a,b,p,j,f,k⟩
  .exact⟨1,a,t++b,by rw[runNT_succ_next j];rfl,k⟩
  .obtain⟨N,e,d,s,o⟩:=r p f a (t++b) k;exact⟨N+1,e,d,by rw[runNT_succ_next j];exact s,o⟩
def ahJ (B:n<2147483648) (b:∀R S g w,aT R S g w->g.status=.running) (c:∀R S g w,aT R S g w->∃m,GP P ty Wg C n R S (MW1 P ty Wg C n R S aT Fin) m g w)
  (u:gs[0]?=some a) (p:gs.size=K0+1) (L:Leavers P t gs q) (Q:eI aY K0 w.heap.size t) (d:tK P ty Wg C n val aT n R a w) (y:WgAt ty Wg w 0 0) (k:PayAt C (2*n) w)
  (J:∀(i:Nat) (x:Touch),touchAt t i=some x->∀a,x.loc=.cell a->a.block≠Wg) (f:NoRelease (stA Wg) t) (U:Sets Wg C aY w R (λ_=>False) (λ_ _=>False) (λ_ _=>False)) :
  ∃N A s,runNT P N (crowd gs w sl) t=(.next A,s)/\amK P ty Wg C n K0 val aY Fin A s:=by
 have v:∀T0,MI P ty Wg C n K0 val aY 0 gs w t (λ_=>⟨0,0,0⟩) (upd (λ_=>jv.leaf) 0 T0) R (λ_=>False) (λ_ _=>False) (λ_ _=>False) q 0:=λT0=>
  ⟨p,λi g z _ I=>L.old i g z I,λH O=>by omega,.begin Q J f,U,λH O=>by omega,k,λ_ _=>rfl⟩
 have E:∀tag,isOpen tag->pend tag=0->(∀o,tag ≠ .w2 o)->ConcN.Mode 0 (λ_=>(⟨0,0,0⟩:WD)) tag 0 0:=λtag K G M=>by
  have:=ConcN.Mode.opn (j:=0) (D:=λ_=>(⟨0,0,0⟩:WD)) K (λi z=>by omega) (λo e=>absurd e (M o));simpa[Vc,sumTo,G] using this
 cases n with
 |zero=>
  obtain⟨T,l⟩:=d;exact aeE B b c _ _ _ ⟨gs,w,sl,0,_,_,R,_,_,_,q,.kd,0,0,a,0,0,rfl,u,.kd (by rw[qi];exact l),v T,y,E .kd trivial rfl (by simp),rfl⟩
 |succ r=>
  obtain⟨T,l⟩:=d;have F:=fj.skd (Fin:=Fin) (Nat.lt_succ_self r) l;rw[sV] at F;exact aeE B b c _ _ _ ⟨gs,w,sl,0,_,_,R,_,_,_,q,.sp r 5,0,0,a,0,0,rfl,u,by rw[qi];exact F,v T,y,E (.sp r 5) trivial rfl (by simp),rfl⟩
end
end
section
open Go.Conc Go.ConcN
section
variable {P:Program} {main:Bool} {Rl Rl':au->World->World->Prop} {Gr Gr':au->au->World->World->Array Event->Prop} {Stop aeC:au->Goroutine->World->Prop}
def pU.weak(i:∀S w a,Rl' S w a->Rl S w a)(k:∀S e w c d,Gr S e w c d->Gr' S e w c d)(j:∀S g w,Stop S g w->aeC S g w):∀{T:jv} {S:au} {g:Goroutine} {w:World},pU P main Rl Gr Stop T S g w->pU P main Rl' Gr' aeC T S g w
 |.leaf,_,_,_,h=>λa b=>j _ _ _ (h a (i _ _ _ b))
 |.node f,_,_,_,h=>Or.imp (λh a b=>j _ _ _ (h a (i _ _ _ b))) (λx=>⟨x.1,λa b=>let⟨o,c,d,e,n,l,m⟩:=x.2 a (i _ _ _ b);⟨o,c,d,e,n,k _ _ _ _ _ l,pU.weak i k j m⟩⟩) h
def bI.weak(i:∀S w a,Rl' S w a->Rl S w a)(e:∀S d w b c,Gr S d w b c->Gr' S d w b c)(f:∀S g w,Stop S g w->aeC S g w){S:au}(h:bI P main Rl Gr Stop S g w):bI P main Rl' Gr' aeC S g w:=
 let⟨T,h⟩:=h;⟨T,pU.weak i e f h⟩
end
def RlB(_:au)(w w₁:World):Prop:=AtRel w w₁
def GrB(aY:au)(_ _:au)(w w':World)(es:Array Event):Prop:=
 w.heap.size<=w'.heap.size/\∀e∈es,(∀x,(MemAct.ofEvent e).touch?=some x->¬ShL aY x.loc)/\e.loc ≠ .mark .disable/\e.loc ≠ .mark .enable/\(MemAct.ofEvent e).low w'.heap.size
section
variable {aY:au} {K B B':Nat} {t u:Trace}
def eI.own(h:eI aY K B t)(u:B<=B'){fn:FuncId}(d:∀e∈es,(∀x,(MemAct.ofEvent e).touch?=some x->¬ShL aY x.loc)/\e.loc ≠ .mark .disable/\e.loc ≠ .mark .enable/\(MemAct.ofEvent e).low B') :
  eI aY K B' (t++MemOp.ofEvents 0 fn pos es):=by
 have k:∀op∈MemOp.ofEvents 0 fn pos es,op.g=0:=λop c=>by obtain⟨e,_,rfl⟩:=mu c;rfl
 refine⟨λg=>noRace_append (h.clean g) k λi a s op c b p v=> ?_,λi op x j n r=> ?_,h.quiet.app λop c x n m=> ?_,handedOver_app h.over λop c=>.inl (k op c), ?_,seen_app (acF h.seen u) λop c=> ?_,λop c=> ?_⟩
 .obtain⟨e,f,rfl⟩:=mu c;obtain⟨op,j,o⟩:=touch_of s;exact h.known i op a j o λm=>(d e f).1 b p (v.1▸m)
 .rcases rv j with⟨_,q⟩|⟨_,l⟩
  .exact(h.known i op x q n r).app _
  .have:=knows_own j;rwa [k op l] at this
 .obtain⟨e,f,rfl⟩:=mu c;exact absurd m ((d e f).1 x n)
 .rw[Deaf_own,h.hears];exact deafBehind_still (λe f=>⟨(d e f).2.1,(d e f).2.2.1⟩) 0
 .obtain⟨e,f,rfl⟩:=mu c;exact(d e f).2.2.2
 .rcases vF.1 c with c|c
  .exact h.gs op c
  .rw[k op c];exact fb _
def eI.mute(h:eI aY K B t){g:Nat}(m:g≠0)(n:g<=K){fn:FuncId}(q:∀e∈es,e.mute=true):eI aY K B (t++MemOp.ofEvents g fn pos es):=by
 have l:∀op∈MemOp.ofEvents g fn pos es,op.g=g:=λop c=>by obtain⟨e,_,rfl⟩:=mu c;rfl
 have j:∀op∈MemOp.ofEvents g fn pos es,op.act.touch?=none:=λop c=>by obtain⟨e,o,rfl⟩:=mu c;exact touch_mute (q e o)
 refine⟨λf=>noRace_append (h.clean f) l λi a _ op c b p _=>(by rw[j op c] at p;cases p),λi op x r d u=> ?_,h.quiet.app λop c x d _=>(by rw[j op c] at d;cases d),handedOver_app h.over λop c=>.inr (j op c),(rh t m _ l).trans h.hears,seen_app h.seen λop c=> ?_,λop c=> ?_⟩
 .rcases rv r with⟨_,s⟩|⟨_,k⟩
  .exact(h.known i op x s d u).app _
  .rw[j op k] at d;cases d
 .obtain⟨e,o,rfl⟩:=mu c;exact low_mute (q e o) B
 .rcases vF.1 c with c|c
  .exact h.gs op c
  .rw[l op c];exact n
def eI.nil(B:Nat):eI (λ_=>False) 0 B #[]:=
 ⟨λd=>by rintro⟨i,j,_,⟨a,b,e,_⟩,_⟩;simp[Trace.act?] at e,λi op x c=>by simp at c,λi op x c=>by simp at c,λi g f=>by simp[Trace.g?] at f,rfl,by simp,by simp⟩
end
structure awo (Gr:au->au->World->World->Array Event->Prop) (TQ:Nat->Nat->Trace->Prop):Prop where
 own:∀{K:Nat} {t:Trace} {S S':au} {w w':World} {es:Array Event} (fn:FuncId) (pos:String),Gr S S' w w' es->TQ K w.heap.size t->TQ K w'.heap.size (t++MemOp.ofEvents 0 fn pos es)
 mute:∀{K B:Nat} {t:Trace} {g:Nat} {es:Array Event} (fn:FuncId) (pos:String),g≠0->g<=K->(∀e∈es,e.mute=true)->TQ K B t->TQ K B (t++MemOp.ofEvents g fn pos es)
def aay{aY:au}:awo (GrB aY) (eI aY):=⟨λ_ _ b a=>a.own b.1 b.2,λ_ _ e c d a=>a.mute e c d⟩
section
variable {P:Program} {TQ:Nat->Nat->Trace->Prop} {Gr:au->au->World->World->Array Event->Prop} (HT:awo Gr TQ) {Stop:au->Goroutine->World->Prop}
include HT
theorem aiA(T:jv):∀(M:Nat) (l:Array Goroutine) (a:Goroutine) (w:World) (sl:Option (Nat×Nat)) (t:Trace) (q:Nat->Nat) (S:au),sumTo l.size q<=M->l[0]?=some a->Leavers P t l q->TQ (l.size-1) w.heap.size t->
  pU P true RlB Gr Stop T S a w->
  ∃(N:Nat) (o:Array Goroutine) (z:Goroutine) (Q:World) (r:Option (Nat×Nat)) (X:Trace) (q':Nat->Nat) (S':au),
   runNT P N (crowd l w sl) t=(.next (crowd o Q r),X)/\o.size=l.size/\o[0]?=some z/\Stop S' z Q/\Leavers P X o q'/\TQ (l.size-1) Q.heap.size X:=by
 induction T using jv.wf.induction with
 |_ T a3=>
 intro M
 induction M with
 |zero=> 
  intro l a w sl t q S hM W B hP hG;rcases hG.cases with bR|⟨f,rfl,p,v⟩
  .exact⟨0,l,a,w,sl,t,q,S,rfl,rfl,W,bR w (atRel_refl w),B,hP⟩
  have a0:∀g∈l,awake g:=by
   intro g R;obtain⟨i,s,rfl⟩:=vU.1 R;rcases qa i with rfl|gZ
   .have:l[0]=a:=by simpa[fi s] using W
    rw[this];exact uu (.inl p)
   .exact uu ((B.old i _ gZ (fi s)).status.elim .inl λx=>.inr (.inr x))
  obtain⟨i,g,d,r,s,R,Z⟩:=crowd_pick (P:=P) (w:=w) (sl:=sl) a0 ⟨0,a,W,p⟩;have C:i<l.size:=(dl.1 s).1;rcases qa i with rfl|gZ
  .obtain rfl:g=a:=by rw[W] at s;exact(dk s).symm
   obtain⟨z,Q,es,S',a2,hD,a1⟩:=v (w.at d) ⟨d,rfl⟩;have E:=ta (P:=P) (sl:=r) (i:=0) s (show stepG P (0 ==0) g (w.at d)=_ from a2);have m:((l.map (woken P g z Q)).setIfInBounds 0 z).size=l.size:=by simp
   obtain⟨N,o,O,H,I,X,q',K,hr,G,L,hS,J,u⟩:=a3 _ ⟨f,w.at d,rfl,rfl⟩ _ ((l.map (woken P g z Q)).setIfInBounds 0 z) z Q r (t++MemOp.ofEvents 0 g.frame.fn g.frame.place es) q S' (am _) (by simp[C])
    ⟨λj x A V=>by
     have F:0≠j:=by omega
     rw[jp F,rc] at V;obtain⟨y,hy,rfl⟩:=lc.1 V;have D:=B.old j y A hy;rw[sS D,rh t (by omega) _ (λop n=>by obtain⟨e,_,rfl⟩:=mu n;rfl)];exact D,λj A=>by
     rw[rh t (g':=0) (by simp at A;omega) _ (λop n=>by obtain⟨e,_,rfl⟩:=mu n;rfl)];exact B.above j (by simpa using A)⟩
    (by rw[m];exact HT.own _ _ hD hP) a1
   exact⟨N+1,o,O,H,I,X,q',K,by simp only[runNT,Z,E];exact hr,G.trans m,L,hS,J,by rw[m] at u;exact u⟩
  .have D:=B.old i g gZ s;have:q i<=sumTo l.size q:=le_sumTo C;have U:q i=0:=by omega
   rw[U] at D;rw[D.1] at R;cases R
 |succ M ih=>
  intro l a w sl t q S hM W B hP hG;rcases hG.cases with bR|⟨f,rfl,p,v⟩
  .exact⟨0,l,a,w,sl,t,q,S,rfl,rfl,W,bR w (atRel_refl w),B,hP⟩
  have a0:∀g∈l,awake g:=by
   intro g R;obtain⟨i,s,rfl⟩:=vU.1 R;rcases qa i with rfl|gZ
   .have:l[0]=a:=by simpa[fi s] using W
    rw[this];exact uu (.inl p)
   .exact uu ((B.old i _ gZ (fi s)).status.elim .inl λx=>.inr (.inr x))
  obtain⟨i,g,d,r,s,R,Z⟩:=crowd_pick (P:=P) (w:=w) (sl:=sl) a0 ⟨0,a,W,p⟩;have C:i<l.size:=(dl.1 s).1;rcases qa i with rfl|gZ
  .obtain rfl:g=a:=by rw[W] at s;exact(dk s).symm
   obtain⟨z,Q,es,S',a2,hD,a1⟩:=v (w.at d) ⟨d,rfl⟩;have E:=ta (P:=P) (sl:=r) (i:=0) s (show stepG P (0 ==0) g (w.at d)=_ from a2);have m:((l.map (woken P g z Q)).setIfInBounds 0 z).size=l.size:=by simp
   obtain⟨N,o,O,H,I,X,q',K,hr,G,L,hS,J,u⟩:=a3 _ ⟨f,w.at d,rfl,rfl⟩ _ ((l.map (woken P g z Q)).setIfInBounds 0 z) z Q r (t++MemOp.ofEvents 0 g.frame.fn g.frame.place es) q S' (am _) (by simp[C])
    ⟨λj x A V=>by
     have F:0≠j:=by omega
     rw[jp F,rc] at V;obtain⟨y,hy,rfl⟩:=lc.1 V;have D:=B.old j y A hy;rw[sS D,rh t (by omega) _ (λop n=>by obtain⟨e,_,rfl⟩:=mu n;rfl)];exact D,λj A=>by
     rw[rh t (g':=0) (by simp at A;omega) _ (λop n=>by obtain⟨e,_,rfl⟩:=mu n;rfl)];exact B.above j (by simpa using A)⟩
    (by rw[m];exact HT.own _ _ hD hP) a1
   exact⟨N+1,o,O,H,I,X,q',K,by simp only[runNT,Z,E];exact hr,G.trans m,L,hS,J,by rw[m] at u;exact u⟩
  .have D:=B.old i g gZ s;have a6:(i ==0)=false:=by simp;omega
   cases U:q i with
   |zero=>rw[U] at D;rw[D.1] at R;cases R
   |succ k=>
    rw[U] at D;rcases D with⟨hf,_⟩|⟨_,g',es,hm,a7,a5⟩
    .rw[hf] at R;cases R
    have E:=ta (P:=P) (sl:=r) (i:=i) s (by rw[a6];exact a7 (w.at d));have m:((l.map (woken P g g' (w.at d))).setIfInBounds i g').size=l.size:=by simp
    have a9:sumTo l.size (upd q i k)+(k+1)=sumTo l.size q+k:=by
     have:=sumTo_upd q k id C;simpa[U] using this
    have a8:∀S a b c,RlB S a b->RlB S b c->RlB S a c:=λ_ a b c=>atRel_trans a b c;obtain⟨N,o,O,H,I,X,q',K,hr,G,L,hS,J,u⟩:=ih ((l.map (woken P g g' (w.at d))).setIfInBounds i g') a (w.at d) r (t++MemOp.ofEvents i g.frame.fn g.frame.place es) (upd q i k) S (by rw[m];omega)
     (by
      have F:i≠0:=by omega
      rw[jp F,rc,W];simp[woken_run p])
     ⟨λj x A V=>by
      by_cases Y:i=j
      .subst Y;rw[qb (by simpa using C)] at V;obtain rfl:=dk V;rw[qi,Deaf_own];exact a5
      .rw[jp Y,rc] at V;obtain⟨y,hy,rfl⟩:=lc.1 V;have a4:=B.old j y A hy;rw[sS a4,qO q k (sj Y),rh t Y _ (λop n=>by obtain⟨e,_,rfl⟩:=mu n;rfl)];exact a4,λj A=>by
      rw[rh t (g':=i) (by simp at A;omega) _ (λop n=>by obtain⟨e,_,rfl⟩:=mu n;rfl)];exact B.above j (by simpa using A)⟩
     (by rw[m];exact HT.mute _ _ (by omega) (by omega) hm hP) (pU.rely a8 hG ⟨d,rfl⟩)
    exact⟨N+1,o,O,H,I,X,q',K,by simp only[runNT,Z,E];exact hr,G.trans m,L,hS,J,by rw[m] at u;exact u⟩
theorem pJ{gs:Array Goroutine}{a:Goroutine}{sl:Option (Nat×Nat)}{t:Trace}{q:Nat->Nat}{S:au}(i:gs[0]?=some a)(m:Leavers P t gs q)(k:TQ (gs.size-1) w.heap.size t)(e:bI P true RlB Gr Stop S a w) :
  ∃(N:Nat) (b:Array Goroutine) (g:Goroutine) (c:World) (f:Option (Nat×Nat)) (d:Trace) (l:Nat->Nat) (j:au),
   runNT P N (crowd gs w sl) t=(.next (crowd b c f),d)/\b.size=gs.size/\b[0]?=some g/\Stop j g c/\Leavers P d b l/\TQ (gs.size-1) c.heap.size d:=
 let⟨T,e⟩:=e;aiA HT T _ gs a w sl t q S (am _) i m k e
end
def ir(P:Program):Cfg->Cfg->Prop:=Relation.TransGen λa b=>aei P b a
def Rng(ρ:Ren)(w:World)(S Rr:au):Prop:=∀b a,ρ.r b a->S a\/(Rr a/\bH w b/\NoB w b)
def mP(S Rr:au)(B:Nat)(e:Event):Prop:=
 (∀x,(MemAct.ofEvent e).touch?=some x->In S x.loc\/(In Rr x.loc/\x.write=false))/\(∀m,e.loc=.mark m->(∃f,m=.extern f)\/m=.noRoom)/\(MemAct.ofEvent e).low B
def PkG(ρ:Ren)(w w' w1 cN:World):Prop:=∀b a,ρ.r b a->Rw w b->Rw w1 b/\∀i u,adQ u->w1.cell? ⟨b,i,none⟩=some u->w.cell? ⟨b,i,none⟩=some u/\cN.cell? ⟨a,i,none⟩=w'.cell? ⟨a,i,none⟩
def PkG.rely(h:∀b a,ρ.r b a->X.heap[a]?=w'.heap[a]?):PkG ρ w w' w X:=λ_ _ d c=>⟨c,λ_ _ _ e=>⟨e,jd (h _ _ d)⟩⟩
def PkG.amM{k : Ren}{j : World}(d:Kept ρ k w w' X j)(h:∀b e,ρ.r b e->w2.heap[e]?=j.heap[e]?):PkG ρ w w' X w2:=λ_ _ a c=>
 ⟨(d.poi a c).1,λi u f g=>⟨((d.poi a c).2 i u f g).1,(jd (h _ _ a)).trans ((d.poi a c).2 i u f g).2⟩⟩
def PkG.trans{j : Ren}{g a : World}(h:PkG ρ w w' X g)(c:ρ.Le j)(k:PkG j X g w2 a):PkG ρ w w' w2 a:=λb f d m=>by
 obtain⟨q,r⟩:=h b f d m;obtain⟨o,p⟩:=k b f (c.r d) q;refine⟨o,λi u e t=> ?_⟩;obtain⟨v,l⟩:=p i u e t;obtain⟨s,n⟩:=r i u e v;exact⟨s,l.trans n⟩
structure ahN (P:Program) (R:List Frame->World->Prop) (Rr S:au) (ρ:Ren) (c:Cfg) (l':List Frame) (w':World):Prop where
 st:iF P ρ c.l l'
 wr:WR ρ c.w w'
 gl:GlR ρ
 will:jP P R c
 rng:Rng ρ c.w S Rr
def Rt(P':Program)(J:Nat->Bool)(l l':List Frame):Prop:=
 l'=l\/∃c d a,l=c::a/\l'=d::a/\a≠[]/\JR J c d/\∃fn,P'.funcs[c.fn]?=some fn/\∀t b:Array Value,b.size=t.size->(∀i,J i=false->b[i]?=t[i]?)->results fn b=results fn t
def ma.mem{ρ:Ren}:∀{l b:List Event},ma ρ l b->∀a∈b,∃e∈l,EvR ρ e a
 |_,_,.nil,_,h=>by cases h
 |_,_,.cons x y,a,h=>by
  rcases oE.1 h with rfl|h
  .exact⟨_,qv ..,x⟩
  .obtain⟨e,c,d⟩:=ma.mem y a h;exact⟨e,qU _ c,d⟩
section
variable {P P':Program} {R:List Frame->World->Prop} {Rr S:au} {ρ σ:Ren} {w w' w1 cN:World} {es es':Array Event}
def Rng.step(h:Rng ρ w S Rr)(j:WR σ w1 cN)(d:Kept ρ σ w w' w1 cN):Rng σ w1 (λb=>S b\/(w'.heap.size<=b/\b<cN.heap.size)) Rr:=λb k i=>by
 rcases d.new i with f|⟨_,a⟩
 .rcases h b k f with c|⟨c,a,g⟩
  .exact .inl (.inl c)
  .have e:=(d.still f a g).1;exact .inr ⟨c,a.of_eq e,g.of_eq e⟩
 .exact .inl (.inr ⟨a,(j.lt i).2⟩)
def aqt(h:Rng ρ w S Rr)(u:WR σ w1 cN)(D:Kept ρ σ w w' w1 cN)(v:EvW w σ es es'):∀e∈es',mP (λb=>S b\/(w'.heap.size<=b/\b<cN.heap.size)) Rr cN.heap.size e:=by
 intro E t;obtain⟨e,A,j⟩:=v.ev.mem E (by simpa using t);have p:∀{b i},σ.r b i->(S i\/(w'.heap.size<=i/\i<cN.heap.size))\/(Rr i/\bH w b):=λ{b i} y=>by
  rcases D.new y with C|⟨_,g⟩
  .rcases h b i C with c|⟨c,g,_⟩
   .exact .inl (.inl c)
   .exact .inr ⟨c,g⟩
  .exact .inl (.inr ⟨g,(u.lt y).2⟩)
 cases j with
 |mk n wr q=>
  cases n with
  |@cell a z G=>
   have j:σ.r a.block z.block:=by cases G with|mk h o s=>exact h
   refine⟨λx k=> ?_,λm l=>(by cases l),(u.lt j).2⟩;have d:x=⟨.cell z,wr,if q then .atomic else .plain⟩:=by simp[MemAct.ofEvent,MemAct.touch?] at k;exact k.symm
   subst d;rcases p j with c|⟨c,g⟩
   .exact .inl c
   .cases wr with
    |false=>exact .inr ⟨c,rfl⟩
    |true=>exact absurd rfl ((v.nw _ g _ A rfl).1 _ rfl)
  |@obj r B j=>
   refine⟨λx k=> ?_,λm l=>(by cases l), ?_⟩
   .have d:x.loc=.obj B/\x.write=wr:=by
     cases wr<;>cases q<;>simp[MemAct.ofEvent,MemAct.touch?] at k<;>(subst k;exact⟨rfl,rfl⟩)
    obtain⟨H,F⟩:=d;rw[H];rcases p j with c|⟨c,g⟩
    .exact .inl c
    .cases wr with
     |false=>exact .inr ⟨c,F⟩
     |true=>exact absurd rfl ((v.nw _ g _ A rfl).2 _ rfl)
   .have:=(u.lt j).2;cases wr<;>cases q<;>exact this
  |mark l=>
   refine⟨λx k=> ?_,λm e=> ?_, ?_⟩
   .cases l<;>simp[MemAct.ofEvent,MemAct.touch?] at k
   .cases e;cases l with
    |extern f=>exact .inl ⟨f,rfl⟩
    |noRoom=>exact .inr rfl
   .cases l<;>trivial
def aiB(h:Rng ρ w S Rr)(d:Kept ρ σ w w' w1 cN):∀b,b<w'.heap.size->¬S b->cN.heap[b]?=w'.heap[b]?:=λb l i=>by
 by_cases f:∃a,ρ.r a b
 .obtain⟨a,e⟩:=f;rcases h a b e with j|⟨_,g,k⟩
  .exact absurd j i
  .exact(d.still e g k).2
 .exact d.out' l λc m=>f ⟨c,m⟩
def WR.rely(h:WR ρ w w')(g:Rng ρ w S Rr)(i:∀b,S b\/Rr b->cN.heap[b]?=w'.heap[b]?)(e:w'.heap.size<=cN.heap.size)(j:cN.ou=w'.ou):WR ρ w cN:=
 ⟨λ{b a} c=>by
  obtain⟨o,l,f,d,k⟩:=h.obj c;exact⟨o,l,f,(i a ((g b a c).imp id (·.1))).trans d,k⟩,h.os.trans j.symm,h.kN.1,ap h.kN.2 e⟩
end
def iF.ne'   :iF P ρ l l'->∃x b y a,l=x::b/\l'=y::a
 |.one .. =>⟨_,_,_,_,rfl,rfl⟩
 |.cons .. =>⟨_,_,_,_,rfl,rfl⟩
def iF.hd   :iF P ρ l l'->∀{y a},l'=y::a->(y.mode=.run\/y.mode=.returning)/\y.kind=.normal
 |.one hx _,_,_,e=>by cases e;exact⟨hx.mode.elim (λy=>.inl y.2) (λy=>.inr y.2),hx.kind.2⟩
 |.cons hx _,_,_,e=>by cases e;exact⟨hx.mode.elim (λy=>.inl y.2) (λy=>.inr y.2),hx.kind.2⟩
def iF.lone   :iF P ρ l l'->∀{x},l=[x]->∀{y a},l'=y::a->a=[]
 |.one ..,_,_,_,_,e=>by cases e;rfl
 |.cons _ hl,_,e,_,_,_=>by
  obtain⟨_,_,_,_,b,_⟩:=hl.ne';cases e;cases b
section
variable {P P':Program} {R:List Frame->World->Prop} {Rr:au} {main:Bool} {Rl:au->World->World->Prop} {Gr:au->au->World->World->Array Event->Prop} {J:Nat->Bool} {base:List Frame}
def aqu(P P':Program)(R:List Frame->World->Prop)(Rr:au)(base:List Frame)(c0:Cfg)(iy:Ren)(w0:World)(S0 S:au)(g:Goroutine)(w1:World):Prop:=
 ∃c d e,(c=c0\/ir P c c0)/\iy.Le d/\(∀b,S0 b->S b)/\g=Gl e base/\WR d c.w w1/\GlR d/\jP P R c/\Rng d c.w S Rr/\PkG iy c0.w w0 c.w w1/\
  ((oL c.l/\iF P d c.l e)\/∃a f m i,dh d a f/\iF P d m i/\c.l=Frame.enter P cf a .normal::m/\e=Frame.enter P' cf f .normal::i)
def xd(P P':Program)(R:List Frame->World->Prop)(Rr:au)(main:Bool)(Rl:au->World->World->Prop)(Gr:au->au->World->World->Array Event->Prop)(base:List Frame):Prop:=
 ∀(f:FuncId) (c:Cfg) (ρ:Ren) (a l:Array Value) (m o:List Frame) (e:World) (S:au),gH f=true->f≠cf->dh ρ a l->iF P ρ m o->c.l=Frame.enter P f a .normal::m->WR ρ c.w e->GlR ρ->jP P R c->Rng ρ c.w S Rr->
  bI P' main Rl Gr (λn g j=>∃i d k,ir P i c/\ρ.Le d/\(∀b,S b->n b)/\g=Gl k base/\ahN P R Rr n d i k j/\PkG ρ c.w e i.w j) S (Gl (Frame.enter P' f l .normal::o) base) e
def ahO (T:Twin P P') (X:ahH P P') (fK:∀S w,Rl S w w) (tr:∀S a b c,Rl S a b->Rl S b c->Rl S a c)
  (rl:∀S w o,Rl S w o->(∀b,S b\/Rr b->o.heap[b]?=w.heap[b]?)/\w.heap.size<=o.heap.size/\o.ou=w.ou)
  (gr:∀S w l es,(∀b,b<w.heap.size->¬S b->l.heap[b]?=w.heap[b]?)->w.heap.size<=l.heap.size->l.ou=w.ou->(∀e∈es,mP (λb=>S b\/(w.heap.size<=b/\b<l.heap.size)) Rr l.heap.size e)->
   Gr S (λb=>S b\/(w.heap.size<=b/\b<l.heap.size)) w l es)
  (al:∀f,gH f=true->∀a,(Frame.enter P' f a .normal).todo.all (lM J)=false)
  (a0:xd P P' R Rr main Rl Gr base) {c:Cfg} (aY:Acc (ir P) c) :
  ∀{ρ:Ren} {l' lR:List Frame} {l:World} {S:au},ahN P R Rr S ρ c l' l->Rt P' J l' lR->bI P' main Rl Gr (aqu P P' R Rr base c ρ l S) S (Gl lR base) l:=by
 induction aY with
 |intro c _ ih=>
  intro ρ l' lR l S h hR;have on:∀{s:Cfg} {I:Ren} {l1 lR1:List Frame} {o:World} {S1:au},ir P s c->ρ.Le I->(∀b,S b->S1 b)->ahN P R Rr S1 I s l1 o->PkG ρ c.w l s.w o->Rt P' J l1 lR1->bI P' main Rl Gr (aqu P P' R Rr base c ρ l S) S1 (Gl lR1 base) o:=λ{s I l1 lR1 o S1} Z d hS h1 U A=>
   bI.weak (λ_ _ _ x=>x) (λ_ _ _ _ _ x=>x) (λS2 g w2 ⟨c2,ρ2,l2,a1,a2,a3,a4,a5,a6,a7,a8,a9,a10⟩=>⟨c2,ρ2,l2,.inr (a1.elim (λe=>e▸Z) λx=>sZ x Z),d.trans a2,λb n=>a3 b (hS b n),a4,a5,a6,a7,a8,U.trans d a9,a10⟩) (ih s Z h1 A)
  have b2:∀{x:Frame} {xs:List Frame},(Gl (x::xs) base).status=.running:=rfl;by_cases hf:oL c.l
  .-- at its end: one frame,and it is clean
   refine .stop λo hr=> ?_;obtain⟨r1,r2,r3⟩:=rl _ _ _ hr;have aX:lR=l':=by
    rcases hR with e|⟨fr,cA,j,K,_,ax,_⟩
    .exact e
    .exfalso;obtain⟨f0,Z,_⟩:=hf;exact ax (h.st.lone Z K)
   subst aX;exact⟨c,ρ,_,.inl rfl,Ren.Le.refl _,λ_ n=>n,rfl,h.wr.rely h.rng r1 r2 r3,h.gl,h.will,h.rng,.rely λb E n=>r1 E ((h.rng b E n).imp id (·.1)),.inl ⟨hf,h.st⟩⟩
  .obtain⟨_,_,x0,b3,_,aZ⟩:=h.st.ne';have aI:(Gl lR base).status=.running:=by
    rcases hR with e|⟨fr,cA,j,_,C,_⟩
    .rw[e,aZ];rfl
    .rw[C];rfl
   refine .step aI λo hr=> ?_;obtain⟨r1,r2,r3⟩:=rl _ _ _ hr;have cE:=h.wr.rely h.rng r1 r2 r3;obtain⟨s,σ,p,B,es,v,hs,G,d,k,t,N,hE,z⟩:=sim T X h.gl main h.st cE hf h.will;have L:ir P s c:=.single hs;have oM:=h.rng.step t N;have b0:PkG ρ c.w l c.w o:=.rely λb E n=>r1 E ((h.rng b E n).imp id (·.1));have U:PkG ρ c.w l s.w B:=b0.trans (.refl _) (.amM N λ_ _ _=>rfl);have hG:=gr S o B v (aiB h.rng N) N.size' N.os.2 (aqt h.rng t N hE);have after:∀{lR1:List Frame},(Rt P' J p lR1/\(iF P σ s.l p\/lR1=p))->bI P' main Rl Gr (aqu P P' R Rr base c ρ l S) (λb=>S b\/(o.heap.size<=b/\b<B.heap.size)) (Gl lR1 base) B:=λ{lR1} ⟨A,hor⟩=>by
    rcases z with i|⟨f,a,H,m,m',u,W,i,K,C⟩
    .exact on L d (λb n=>.inl n) ⟨i,t,h.gl.mono d,G,oM⟩ U A
    .have iZ:lR1=p:=by
      rcases hor with b4|e
      .rcases A with e|⟨fr,cA,j,O,_,_,M,_⟩
       .exact e
       .exfalso;rw[C] at O;injection O with e4 e5
        have:=M.items;rw[<-e4,al f u H] at this;cases this
      .exact e
     subst iZ;by_cases Q:f=cf
     .subst Q;refine .stop λw2 ao=> ?_;obtain⟨q1,q2,q3⟩:=rl _ _ _ ao;exact⟨s,σ,_,.inr L,d,λb n=>.inl n,rfl,t.rely oM q1 q2 q3,h.gl.mono d,G,oM,U.trans d (.rely λb E n=>q1 E ((oM b E n).imp id (·.1))),.inr ⟨a,H,m,m',W,i,K,C⟩⟩
     .rw[C];refine bI.bind fK tr (a0 f s σ a H m m' B _ u Q W i K t (h.gl.mono d) G oM) λS2 g w2 ⟨c2,ρ2,l2,a1,a2,a3,a4,a5,a6⟩=> ?_;rw[a4];exact on (sZ a1 L) (d.trans a2) (λb n=>a3 b (.inl n)) a5 (U.trans d a6) (.inl rfl)
   rcases hR with e|⟨fr,cA,j,K,C,an,M,fn,aa,D⟩
   .subst e;exact⟨_,B,v,_,k base,hG,after ⟨.inl rfl,.inr rfl⟩⟩
   .rw[K] at k;have bh:=h.st.hd K;obtain⟨y,F,hy⟩:∃y F,p=y::F:=by
     rcases z with i|⟨f,a,H,m,m',_,_,_,_,e⟩
     .obtain⟨_,_,y,F,_,e⟩:=i.ne';exact⟨y,F,e⟩
     .exact⟨_,_,e⟩
    have ad:(y.mode=.run\/y.mode=.returning)/\y.kind=.normal:=by
     rcases z with i|⟨f,a,H,m,m',_,_,_,_,e⟩
     .exact i.hd hy
     .rw[hy] at e;injection e with O e4
      subst O;exact⟨.inl rfl,rfl⟩
    rcases bh.1 with hm|hm
    .have q:=k base;rw[hy] at q;obtain⟨b1,aT,V,af,ay⟩:=aql M hm q ad.1 ad.2;have aG:F=j:=List.append_cancel_right b1;subst aG;refine⟨_,B,v,_,by rw[C];exact ay (F++base),hG, ?_⟩;have:=after (lR1:=V::F) ⟨.inr ⟨y,V,F,hy,rfl,an,af,fn,by rw[aT];exact aa,D⟩, ?_⟩
     .exact this
     .rcases z with i|⟨f,a,H,m,m',u,_,_,_,e⟩
      .exact .inl i
      .exfalso;rw[hy] at e;injection e with O e4
       have:=af.items;rw[O,al f u H] at this;cases this
    .obtain⟨r0,rs,Y⟩:∃r rs,j=r::rs:=by
      cases j with
      |nil=>exact absurd rfl an
      |cons r rs=>exact⟨r,rs,rfl⟩
     have aL:=aqm (P:=P') M hm ⟨fn,aa,D _ _ M.size M.agree⟩ (c:=r0) (cs:=rs++base) (main:=main) (w:=o);refine⟨_,B,v,_, ?_,hG,after (lR1:=p) ⟨.inl rfl,.inr rfl⟩⟩;rw[C,Y];have q:=k base;rw[Y] at q;exact aL.trans q
end
section
variable {P P':Program} {ρ:Ren} {w w':World}
def atK(T:Twin P P'){fr : Frame}(hS:iF P ρ [fr] [x])(Y:WR ρ w w'){t0:Tape}{Post:Value->World->Prop}(J:∀t,(∀i q,i<w.drawn->t i q=t0 i q)->∃v,fr.leaving P (w.dM t) (.returned v)/\Post v (w.dM t)) :
  ∃j v M l o es u t,ρ.Le j/\Post v (w.dM t)/\(∀i q,i<w.drawn->t i q=t0 i q)/\l.dM t=w.dM t/\VR j v M/\WR j l o/\Kept ρ j w w' l o/\EvW w j es u/\∀m c z,stepG P' m (Gl [x] (c::z)) w'=.go ⟨c.finish M,z,.running,none,none⟩ o u:=by
 have S:=hS.head;obtain⟨f,tm,L,d,md,kd,r⟩:=fr;obtain⟨f',a0,fF,d',A,a1,r'⟩:=x;obtain⟨O,G,h3,I,n,R,h7⟩:=S;dsimp only at O G h3 I n R h7;subst O;obtain⟨v0,⟨Q,hd,N,fn,E,hr⟩,hp⟩:=J t0 λ_ _ _=>rfl;dsimp only at Q hd N E hr;subst Q hd N;obtain rfl:A=.returning:=by
  rcases n with n|n
  .cases n.1
  .exact n.2
 obtain⟨-,rfl⟩:=R;obtain rfl:d'=[]:=by cases I;rfl
 obtain⟨di,C,hR⟩:=T.func f fn E;have good:∀t:Tape,(∀i q,i<w.drawn->t i q=t0 i q)->∃v,(results fn tm).run P (w.dM t)=.ok v (w.dM t)/\Post v (w.dM t):=λt y=>by
  obtain⟨v,⟨_,_,_,W,k,g⟩,B⟩:=J t y;dsimp only at k g;rw[E] at k;cases k;exact⟨v,g,B⟩
 obtain⟨b,D,H⟩:=(afG T hR.results G).run w w' #[] #[] Y;have s:Agr w D b λi q=>if i<w.drawn then t0 i q else b i q:=λi q K _=>bv (by omega)
 have y:∀i q,i<w.drawn->(λi q=>if i<w.drawn then t0 i q else b i q) i q=t0 i q:=λi q K=>dq K;obtain⟨v,p,F⟩:=good _ y;rcases H with H|⟨j,a,l,V,o,us,U,g1,g2,g3,Z,g5,g6,X,g8⟩
 .exfalso;obtain⟨h,l,mV,g, -⟩:=H _ s;rw[<-rj _ _ _ #[],g] at p;cases p
 .have e:=g1 _ s;rw[<-rj _ _ _ #[],e] at p;simp only[sE] at p;obtain⟨rfl,cE⟩:=p;refine⟨j,a,V,l,o,_,_,_,g3,F,y,cE,g5,g6,X,aaC T f g8,λm c z=> ?_⟩;simp only[Gl,stepG,unwind,C,Z,ru];simp[doReturn,GStep.after]
end
end
section
def amN(a:FuncId->Bool)(b:List Nat)(c:TypeId)(o:Oper):(aaa a b c o).op=o.op:=by unfold aaa;split<;>rfl
def an8(a:FuncId->Bool)(b:List Nat)(c:TypeId)(o:Oper):aaa a b c (aaa a b c o)=aaa a b c o:=by
 by_cases h:pZ a b o.op=true
 .unfold aaa;simp[h]
 .unfold aaa;simp[h]
def acG(P:Program)(c:FuncId->Bool)(d:List Nat)(e:TypeId)(id:Nat)(a:Array Oper)(b:Bool):bM P c d e (.region id a b)=if(a.toList.all λo=>lZ P c d o.op)=true then .region id a b
  else if(a.toList.all λo=>lZ P c d o.op||pZ c d o.op)=true then .region id (a.map (aaa c d e)) b else .refuse "" :=rfl
def amO(P:Program)(d:FuncId->Bool)(e:List Nat)(f:TypeId)(c:Operand)(a b:Code):bM P d e f (.cond c a b)=if bJ d e c=true then .cond c (bM P d e f a) (bM P d e f b) else .refuse "" :=rfl
def aiC(P:Program)(d:FuncId->Bool)(c:List Nat)(e:TypeId)(f:Operand)(g:Array Tmp)(a b:Code):bM P d c e (.rangeFunc f g a b)=if bJ d c f=true then .rangeFunc f g (bM P d c e a) (bM P d c e b) else .refuse "" :=rfl
def aqv(P:Program)(c:FuncId->Bool)(d:List Nat)(e:TypeId)(a b:Code):bM P c d e (.seq a b)=.seq (bM P c d e a) (bM P c d e b):=rfl
def akT(P:Program)(e:FuncId->Bool)(d:List Nat)(l:TypeId):∀c:Code,bM P e d l (bM P e d l c)=bM P e d l c:=by
 intro c
 induction c with
 |region id i draw=>
  rw[acG];by_cases h:(i.toList.all λo=>lZ P e d o.op)=true
  .rw[dq h,acG,dq h]
  .rw[bv h];by_cases n:(i.toList.all λo=>lZ P e d o.op||pZ e d o.op)=true
   .rw[dq n,acG];have p:((i.map (aaa e d l)).toList.all λo=>lZ P e d o.op)=i.toList.all λo=>lZ P e d o.op:=by
     rw[qA,List.all_map];congr 1;funext o;simp only[Function.comp,amN]
    have q:((i.map (aaa e d l)).toList.all λo=>lZ P e d o.op||pZ e d o.op)=i.toList.all λo=>lZ P e d o.op||pZ e d o.op:=by
     rw[qA,List.all_map];congr 1;funext o;simp only[Function.comp,amN]
    rw[p,q,bv h,dq n,Array.map_map];exact jn (λg=>Code.region id (Array.map g i) draw) (funext λo=>an8 e d l o)
   .rw[bv n];rfl
 |seq a b k j=>rw[aqv,aqv,k,j]
 |cond c a b k j=>
  rw[amO];by_cases h:bJ e d c=true
  .rw[dq h,amO,dq h,k,j]
  .rw[bv h];rfl
 |rangeFunc f r a b k j=>
  rw[aiC];by_cases h:bJ e d f=true
  .rw[dq h,aiC,dq h,k,j]
  .rw[bv h];rfl
 |block id a m=>exact jn (Code.block id) m
 |loop a m=>exact jn Code.loop m
 |scope a m=>exact jn Code.scope m
 |_=>rfl
def atM(c:Code):gP (gP c)=gP c:=by unfold gP;exact akT _ _ _ _ c
def aBU:fM prog (alw prog) gL mY=true:=by unfold gL;kernel_rfl
def aBV:fM prog (alw prog) gL jQ=true:=by unfold gL;kernel_rfl
def aqw{c:Code}(h:fM prog (alw prog) gL c=true):gP c=c:=by
 have e:gA=alw prog:=by unfold gA;rfl
 unfold gP;rw[e];exact ahz _ _ _ _ c h
section
variable (β:Bool)
def aqx{fn:Func}{c:Code}(h:(ah β).funcs[f]?=some fn)(a:fn.body=some c):gP c=c:=by
 by_cases d:f=nCC
 .subst d;rw[acs] at h;obtain rfl:=dk h;obtain rfl:mY=c:=dk a;exact aqw aBU
 by_cases b:f=cf
 .subst b;rw[acu] at h;obtain rfl:=dk h;cases β with
  |true=>obtain rfl:jQ=c:=dk a;exact aqw aBV
  |false=>obtain rfl:Code.refuse "" =c:=dk a;exact aqw rfl
 rw[aj9 β d b] at h;obtain⟨g,k,rfl⟩:=lc.1 h;have e:g.body.map gP=some c:=a;obtain⟨j,i,rfl⟩:=lc.1 e;exact atM j
def atN(f:FuncId)(fn:Func)(h:(ah β).funcs[f]?=some fn):∃a,(ah β).funcs[f]?=some a/\FnR (gH f) fn a:=by
 obtain⟨g,e,d⟩:=agH β f fn h;exact⟨fn,h,rfl,d.ayl,rfl,rfl,rfl,λ_=>rfl,λc b=>⟨c,b,λ_=>(aqx β h b).symm⟩⟩
def ag2:Twin (ah β) (ah β) where
 info _:=rfl
 under _:=rfl
 rt:=rfl
 depth:=rfl
 globals:=⟨(lN β).globals.1,(lN β).globals.1⟩
 zero:=(lN β).zero
 stood _:=rfl
 au8:=rfl
 cellAt _ _ _ _ _:=rfl
 lies _ _ _ _ _ _:=rfl
 ajI _ _:=rfl
 follows _:=rfl
 pc:=(lN β).pc
 asq:=(lN β).asq
 func:=atN β
 ahC:=rfl
 mX:=(lN β).mX
def aw8:ahH (ah β) (ah β):=λf fn c i k p a j h=>by
 obtain⟨o,b,n⟩:=agH β f fn c;obtain rfl:=n.none i;have g:=(dl.1 b).1;have d:=lE.1 aej f (qr.2 g);have d:=afK b d;have m:alw prog f=true:=by
  have:gA f=alw prog f:=by unfold gA;rfl
  rw[<-this];exact k
 rw[m,i] at d;simp only[uZ,tc,uY,uo,qV,nF] at d;rcases d with rfl|rfl
 .have e:=b.symm.trans func138;obtain rfl:=dk e;exact abE c c amm amm (cB func138) (cB func138) amo amo amp amp (λl a j h=>abD (ag2 β) _ _ h) h
 .have e:=b.symm.trans func156;obtain rfl:=dk e;exact abE c c amn amn (cB func156) (cB func156) ac6 ac6 amq amq (λl a j h=>ac5 h) h
def aeF{a b:Array Value}(i:dh ρ a b):FrR (ah β) ρ (Frame.enter (ah β) f a .normal) (Frame.enter (ah β) f b .normal):=by
 have j:∀n,dh ρ (a++Array.replicate (n-a.size) undef) (b++Array.replicate (n-b.size) undef):=λn=>by
  rw[i.size];exact dh.app i (bN.kC λv g=>by simp at g;rw[g.2];exact VR.undef)
 cases d:(ah β).funcs[f]? with
 |none=>
  unfold Frame.enter;rw[d];exact⟨rfl,j _,aby (ag2 β) _,.nil,.inl ⟨rfl,rfl⟩,⟨rfl,rfl⟩,.none⟩
 |some fn=>
  unfold Frame.enter;rw[d];refine⟨rfl,j _, ?_,.nil,.inl ⟨rfl,rfl⟩,⟨rfl,rfl⟩,.none⟩;show jD (ah β) ρ [.code (fn.body.getD _)] [.code (fn.body.getD _)];cases k:fn.body with
  |none=>exact aby (ag2 β) _
  |some c=>
   have e:gP c=c:=aqx β d k;have:ItR (ah β) ρ (.code (gP c)) (.code c):=.code c;rw[e] at this;exact .cons this .nil
def aw9(h:GoR (ah β) (ah β) ρ l l'):iF (ah β) ρ l l':=by
 rcases h with h|⟨f,a,d,m,e, -,c,b,rfl,rfl⟩
 .exact h
 .exact .cons (aeF β c) b
def aBW{R:List Frame->World->Prop}(m:GlR ρ){c:Cfg}(m':Bool)(q:iF (ah β) ρ c.l l')(i:WR ρ c.w w')(n:¬oL c.l)(o:jP (ah β) R c) :
  ∃e d a f g b,aei (ah β) c e/\jP (ah β) R e/\ρ.Le d/\(∀base,stepG (ah β) m' (Gl l' base) w'=.go (Gl a base) f b)/\WR d e.w f/\Kept ρ d c.w w' e.w f/\EvW c.w d g b/\iF (ah β) d e.l a:=by
 obtain⟨e,d,a,f,g,b,s,k,l,r,u,p,t,j⟩:=sim (ag2 β) (aw8 β) m m' q i n o;exact⟨e,d,a,f,g,b,s,k,l,r,u,p,t,aw9 β j⟩
end
end
section
open Go.Conc Go.ConcN Go.RowKit Go.Lib
def dS{β : Type}{s:Sem V}{f:V->Sem β}{v:β}(h:(Bind.bind s f).run P w=.ok v w2):∃a b,s.run P w=.ok a b/\(f a).run P b=.ok v w2:=by
 have h:(s.bind f).run P w=.ok v w2:=h;rw[qP] at h;cases c:s.run P w with
 |ok a b=>rw[c] at h;exact⟨a,b,rfl,h⟩
 |halt q b=>rw[c] at h;cases h
def NoV(P:Program)(w:World)(A:Addr):Prop:=(∀s a,(viewAt A.block).run P w ≠ .ok (some s) a)/\(w.cell? A=none->(∀b,∃e,w.farLoad P A b=.error e)/\∀v b,∃e,w.farStore P A v b=.error e)
def aqy{m:String}{v:V}:(runtimePanic (.error m):Sem V).run P w ≠ .ok v w2:=by
 intro h;unfold runtimePanic at h;simp[goPanic] at h
structure CcT (P:Program):Prop where
 u:P.underlying 160=some (.pointer 162)
 up:P.underlying 144=some .unsafePointer
 i6:∃i,P.info? 160=some i/\i.size=1
 i8:∃i,P.info? 162=some i/\i.size=2/\i.bytes<1000
 f:∃fs g,P.underlying 162=some (.struct fs)/\fs[0]?=some g/\g.offset=0/\g.type=160
section
variable {P:Program} (T:CcT P) {w w2:World} {x v:Value}
include T
theorem aqz{y:Value}(C:y=.int .i64 1)(j:∀A,x=.pointer (some A)->NoV P w A)(h:(Builtin.unsafeSlice_ #[160,3] 0 #[x,y]).run P w=.ok v w2) :
  w2=w/\∃A e n,x=.pointer (some A)/\w.shape? A.block=some (e,n)/\liesAt P P.depth e (n / P.cellsOf e) A.off 162 1=true:=by
 obtain⟨i,r,p,F⟩:=T.i8;have o:¬IntKind.i64.max<1:=by decide
 have g:¬18446744073709551616<=i.bytes:=by omega
 have c:∃l,l=[x,y]:=⟨_,rfl⟩;obtain⟨l,c⟩:=c;replace h:(Builtin.unsafeSlice_ #[160,3] 0 ⟨l⟩).run P w=.ok v w2:=by rw[c];exact h
 unfold Builtin.unsafeSlice_ at h;cases l with
 |nil=>cases c
 |cons a l=>
  cases l with
  |nil=>cases c
  |cons b l=>
   cases l with
   |cons=>cases c
   |nil=>
    injection c with D k
    injection k with k G
    cases a with
    |pointer a=>
     subst D k;subst C;obtain⟨n,t,B,E⟩:=dS (s:=asInt (.int .i64 1)) h;obtain⟨rfl,rfl⟩:(1:Int)=n/\w=t:=by simpa[asInt,asIntOf] using B
     obtain⟨e,f,u,h⟩:=dS (s:=elemOf 160) E;obtain⟨rfl,rfl⟩:162=e/\w=f:=by simpa[elemOf,me T.u] using u
     cases a with
     |none=>
      simp[o] at h;exact absurd h aqy
     |some A=>
      have j:=(j A rfl).1;cases m:w.shape? A.block with
      |none=>
       simp[o,g,typeInfo,sizeOf,r,p,variablesAt,m] at h;cases d:(viewAt A.block).run P w with
       |halt q f=>rw[d] at h;cases h
       |ok z f=>
        cases z with
        |some z=>exact absurd d (j _ _)
        |none=>rw[d] at h;cases h
      |some z=>
       obtain⟨e,n⟩:=z;simp[o,g,typeInfo,sizeOf,r,p,variablesAt,m] at h;by_cases c:liesAt P P.depth e (n / P.cellsOf e) A.off 162 1=true
       .simp only[c,pr,sE] at h;exact⟨h.2.symm,A,e,n,rfl,m,c⟩
       .simp only[c,qF,kw] at h;cases d:(viewAt A.block).run P w with
        |halt q f=>rw[d] at h;cases h
        |ok z f=>
         cases z with
         |some z=>exact absurd d (j _ _)
         |none=>rw[d] at h;cases h
    |_=>cases(show Result.halt _ _=Result.ok v w2 from h)
theorem aqA(A:Addr):(Instr.fieldAt 162 (.pointer (some A)) 0).run P w=.ok (.pointer (some A)) w:=by
 obtain⟨j,g,c,a,d,b⟩:=T.f;obtain⟨i,e,f⟩:=T.i6;simp[Instr.fieldAt,Instr.sureAddr,me c,a,fieldPlace,sizeOf,typeInfo,b,e,f,d,Addr.add]
theorem atO(b:NoV P w A)(h:(Instr.loadAt 160 (.pointer (some A))).run P w=.ok v w2):w2=w/\w.cell? A=some v:=by
 have h:(Sem.load .plain A Sem.pure).run P w=.ok v w2:=by simpa[Instr.loadAt,Instr.sureAddr,loadVar,isAgg,me T.u,load] using h
 unfold Sem.run at h;cases a:w.cell? A with
 |some u=>
  simp only[a,Sem.run,sE] at h;exact⟨h.2.symm,by rw[h.1]⟩
 |none=>
  obtain⟨e,c⟩:=(b.2 a).1 (Mode.plain ==.atomic);simp only[a,c] at h;cases h
theorem aqB{r:Unit}(c:NoV P w A)(h:(Instr.storeAt 160 (.pointer (some A)) (.pointer u)).run P w=.ok r w2):w2=w.setCell A (.pointer u)/\w.frozen? A=false/\∃v,w.cell? A=some v:=by
 obtain⟨i,f,g⟩:=T.i6;have h:(Sem.store .plain A (.pointer u) (Sem.pure ())).run P w=.ok r w2:=by
  simpa[Instr.storeAt,Instr.sureAddr,storeVar,sizeOf,typeInfo,f,g,Value.cells,storeCells,store,Addr.add] using h
 unfold Sem.run at h;cases a:w.cell? A with
 |some v=>
  simp only[a] at h;cases b:w.frozen? A with
  |true=>rw[b] at h;cases h
  |false=>
   rw[b] at h;simp only[kw,qF,Sem.run,sE] at h;exact⟨h.2.symm,rfl,v,rfl⟩
 |none=>
  obtain⟨e,d⟩:=(c.2 a).2 (.pointer u) (Mode.plain ==.atomic);simp only[a,d] at h;cases h
theorem axa{b:Value}(h:(binOp .eql 160 v (.pointer none)).run P w=.ok b w2):w2=w/\((v=.pointer none/\b=.bool true)\/∃B,v=.pointer (some B)/\b=.bool false):=by
 have i:∀(d:Nat) (a:Option Addr),(Op.equalIn (d+1) 160 (.pointer a) (.pointer none)).run P w=.ok a.isNone w:=λd a=>by
  cases a<;>simp[Op.equalIn,me T.u]
 have j:∀(d:Nat) (r:Bool) (c:World),(∀a,v ≠ .pointer a)->(Op.equalIn (d+1) 160 v (.pointer none)).run P w ≠ .ok r c:=λd r c l=>by
  cases v with
  |pointer a=>exact absurd rfl (l a)
  |_=>simp[Op.equalIn,me T.u,stuck]
 simp only[binOp] at h;by_cases g:∃a,v=.pointer a
 .obtain⟨a,rfl⟩:=g;simp[Op.equal,Op.maxDepth,i 9999] at h;refine⟨h.2.symm, ?_⟩;cases a with
  |none=>exact .inl ⟨rfl,h.1.symm⟩
  |some B=>exact .inr ⟨B,rfl,h.1.symm⟩
 .exfalso;have f:∀a,v ≠ .pointer a:=λa e=>g ⟨a,e⟩;obtain⟨r,c,k, -⟩:=dS h;exact j 9999 r c f k
end
end
section
open Go.Conc Go.ConcN
def azh:(prog.info? 160).map (·.size ==1)=some true:=by kernel_rfl
def azi:(prog.info? 162).map (λi=>i.size ==2&&decide (i.bytes<1000))=some true:=by kernel_rfl
def azj:prog.underlying 160=some (.pointer 162):=by kernel_rfl
def azk:prog.underlying 144=some .unsafePointer:=by kernel_rfl
def azl:(match prog.underlying 162 with
 |some (.struct fs)=>(match fs[0]? with
  |some g=>g.offset ==0&&g.type ==160
  |none=>false)
 |_=>false)=true:=by kernel_rfl
def ccT:CcT prog where
 u:=azj
 up:=azk
 i6:=by
  obtain⟨i,c,a⟩:=lc.1 azh;exact⟨i,c,by simpa using a⟩
 i8:=by
  obtain⟨i,c,a⟩:=lc.1 azi;simp only[ff,nF,qS] at a;exact⟨i,c,a⟩
 f:=by
  have h:=azl;generalize prog.underlying 162=q at h;cases q with
  |none=>cases h
  |some d=>
   cases d with
   |struct e=>
    dsimp only at h;cases b:e[0]? with
    |none=>rw[b] at h;cases h
    |some g=>
     rw[b] at h;simp only[ff,nF] at h;exact⟨e,g,rfl,b,h⟩
   |_=>cases h
def ccQ(β:Bool):CcT (ah β) where
 u:=(cF prog _ 160).trans ccT.u
 up:=(cF prog _ 144).trans ccT.up
 i6:=let⟨i,h,k⟩:=ccT.i6;⟨i,(jR prog _ 160).trans h,k⟩
 i8:=let⟨i,h,k⟩:=ccT.i8;⟨i,(jR prog _ 162).trans h,k⟩
 f:=let⟨a,g,h,k⟩:=ccT.f;⟨a,g,(cF prog _ 162).trans h,k⟩
def WR.noV(h:WR ρ w w'){a : Addr}(f:AR ρ a A):NoV P w' A:=by
 obtain⟨d,o,s⟩:=f;obtain⟨x,j,i,b,c⟩:=h.obj d;refine⟨λs g=> ?_,λk=> ?_⟩
 .intro e;unfold viewAt at e;cases c<;>simp[World.shape?,b,shape,getObj,Sem.run] at e
 .unfold World.farLoad World.farStore;simp only[b];cases c<;>exact⟨λ_=>⟨_,rfl⟩,λ_ _=>⟨_,rfl⟩⟩
section
variable {β m:Bool} {fr:Frame} {xs base:List Frame} {ops:Array Oper} {i:Nat} {rest:List Nat} {k:List Item} {o:Oper} {w w2:World} {l2:List Frame} {es:Array Event}
def xu (G:fr.mode=.run) (E:fr.kind=.normal) (n:fr.roundOf=none) (D:fr.todo=.inRegion ops (i::rest)::k) (P:ops[i]?=some o) (L:o.guard=none)
  (a:stepG (ah β) m (Gl (fr::xs) base) w=.go (Gl l2 base) w2 es) (e:∀y j,l2=y::j->(y.mode=.run\/y.mode=.returning)/\y.kind=.normal) (C:l2≠[])
  (H:∀p l,(execOp fr.eval o).run (ah β) w=.ok p l->(∃v,p=.value v)\/p=.skip) :
  (∃v,(execOp fr.eval o).run (ah β) w=.ok (.value v) w2/\l2=fr.finish v::xs)\/((execOp fr.eval o).run (ah β) w=.ok .skip w2/\l2=fr.finish undef::xs):=by
 obtain⟨fn,b,I,t,V,U,T⟩:=fr;dsimp only at G E n D;subst G E n D;have O:∀y,Region.wanted o y=true:=λy=>by unfold Region.wanted;rw[L]
 have Q:stepG (ah β) m (Gl (⟨fn,b,.inRegion ops (i::rest)::k,t,.run,.normal,none⟩::xs) base) w =
   stepG.apply (ah β) true ⟨fn,b,.inRegion ops (i::rest)::k,t,.run,.normal,none⟩ (xs++base) none (execOp (Frame.eval ⟨fn,b,.inRegion ops (i::rest)::k,t,.run,.normal,none⟩) o) w:=by
  simp[Gl,stepG,stepG.exec,stepG.oper,Frame.oper?,P,O]
 rw[Q] at a;generalize execOp (Frame.eval ⟨fn,b,.inRegion ops (i::rest)::k,t,.run,.normal,none⟩) o=s at a H ⊢;have f:(CallKind.normal ==CallKind.early)=false:=rfl;cases x:s.runT (ah β) w #[] with
 |mk r N=>
  have d:s.run (ah β) w=r:=by rw[<-rj _ _ _ #[],x]
  cases r with
  |ok p l=>
   rcases H p l d with⟨v,rfl⟩|rfl
   .unfold stepG.apply at a;simp only[x,pr] at a;simp[GStep.after,f] at a;obtain⟨B,A, -⟩:=a;refine .inl ⟨v,by rw[d,A], ?_⟩;exact(nh (base:=base) (by simp) C (by rw[<-B];rfl)).symm
   .unfold stepG.apply at a;simp only[x,pr] at a;simp[GStep.after,f] at a;obtain⟨B,A, -⟩:=a;refine .inr ⟨by rw[d,A], ?_⟩;exact(nh (base:=base) (by simp) C (by rw[<-B];rfl)).symm
  |halt q l=>
   exfalso;obtain⟨y,j,rfl⟩:∃y j,l2=y::j:=by cases l2 with|nil=>exact absurd rfl C|cons y j=>exact⟨y,j,rfl⟩
   obtain⟨e,K⟩:=e y j rfl;unfold stepG.apply at a;simp only[x,pr] at a;cases q with
   |unsupported u=>
    cases u with
    |initOrder g=>
     have R:=(lN β).mX.1;have S:=(lN β).mX.2;simp[f,early,R,S,GStep.after] at a
    |_=>simp[GStep.after] at a
   |panic v=>simp[GStep.after,Gl] at a;obtain⟨⟨rfl, -⟩, -⟩:=a;rcases e with h|h<;>simp[Frame.raise] at h
   |goexit=>simp[GStep.after,Gl] at a;obtain⟨⟨rfl, -⟩, -⟩:=a;rcases e with h|h<;>simp[Frame.raise] at h
   |blocked=>simp[GStep.after,Gl] at a
   |waiting=>simp[GStep.after,Gl] at a
   |exit c=>simp[GStep.after] at a
   |stuck c=>simp[GStep.after] at a
   |throw J=>simp[GStep.after,endThrow,dieOf,Gl] at a
   |fatal J=>
    dsimp only at a;unfold endFatal at a;dsimp only at a;generalize Sem.run (ah β) _ l=z at a;cases z with
    |ok F M=>simp[GStep.after,dieOf,Gl] at a
    |halt F M=>cases F<;>simp[GStep.after] at a
end
structure gV (β:Bool) (R:List Frame->World->Prop) (c0:Cfg) (iy:Ren) (w0:World) (c:Cfg) (ρ:Ren) (l:List Frame) (w:World):Prop where
 later:c=c0\/ir (ah β) c c0
 le:iy.Le ρ
 st:iF (ah β) ρ c.l l
 wr:WR ρ c.w w
 gl:GlR ρ
 will:jP (ah β) R c
 kept:Kept iy ρ c0.w w0 c.w w
section
variable {β:Bool} {R:List Frame->World->Prop} {c0 c:Cfg} {iy ρ:Ren} {w0 w w2:World} {l l2:List Frame}
def iF.two(h:iF P ρ l l')(e:l'=x::y::Y):¬oL l:=λ⟨b,a,_⟩=>by
 have:=h.lone a e;cases this
def gV.ac6(h:gV β R c0 iy w0 c ρ l w)(m:Bool)(q:¬oL c.l) :
  ∃a d f b n,gV β R c0 iy w0 a d f b/\ir (ah β) a c0/\ρ.Le d/\(∀base,stepG (ah β) m (Gl l base) w=.go (Gl f base) b n)/\aei (ah β) c a:=by
 obtain⟨a,d,f,b,n,j,i,p,g,s,t,r,u,o⟩:=aBW β h.gl m h.st h.wr q h.will;have k:ir (ah β) a c0:=h.later.elim (λe=>e ▸ .single i) λx=>sZ (.single i) x;exact⟨a,d,f,b,j,⟨.inr k,h.le.trans g,o,t,h.gl.mono g,p,h.kept.trans r⟩,k,g,s,i⟩
def gV.next(h:gV β R c0 iy w0 c ρ l w)(m:Bool)(e:l=x::y::Y) :
  ∃f b d a g,gV β R c0 iy w0 f b d a/\ir (ah β) f c0/\ρ.Le b/\∀base,stepG (ah β) m (Gl l base) w=.go (Gl d base) a g:=
 let⟨f,b,d,a,g,n,i,j,k,_⟩:=h.ac6 m (h.st.two e);⟨f,b,d,a,g,n,i,j,k⟩
def gV.go(h:gV β R c0 iy w0 c ρ l w)(e:l=x::y::Y)(m:Bool){x2:Frame}{xs2:List Frame}(i:∀base,stepG (ah β) m (Gl l base) w=.go (Gl (x2::xs2) base) w2 es) :
  ∃b a,gV β R c0 iy w0 b a (x2::xs2) w2/\ir (ah β) b c0/\ρ.Le a:=by
 obtain⟨b,a,k,r,u,d,f,g,n⟩:=h.next m e
 have:=n [];rw[i []] at this;injection this with j q t
 obtain⟨_,_,s,p,_,o⟩:=d.st.ne';have:x2::xs2=k:=nh (base:=[]) (by simp) (by rw[o];simp) j;subst this q;exact⟨b,a,d,f,g⟩
def gV.no(h:gV β R c0 iy w0 c ρ l w)(e:l=x::y::Y)(m:Bool){o:Outcome}(b:stepG (ah β) m (Gl l []) w=.ended o w2):False:=by
 obtain⟨p,n,g,d,f,j,i,k,a⟩:=h.next m e
 have:=a [];rw[b] at this;cases this
abbrev FQ(f:FuncId)(T:Array Value)(k:List Item):Frame:=⟨f,T,k,[],.run,.normal,none⟩
abbrev FC(T:Array Value)(k:List Item):Frame:=FQ nCC T k
def iF.hdL   :iF P ρ l l'->∀{y a},l=y::a->(y.mode=.run\/y.mode=.returning)/\y.kind=.normal
 |.one hx _,_,_,e=>by cases e;exact⟨hx.mode.elim (λy=>.inl y.1) (λy=>.inr y.1),hx.kind.1⟩
 |.cons hx _,_,_,e=>by cases e;exact⟨hx.mode.elim (λy=>.inl y.1) (λy=>.inr y.1),hx.kind.1⟩
def gV.aoa {T:Array Value}       (h:gV β R c0 iy w0 c ρ (FQ f T (.inRegion Z (i::rest)::k)::y::Y) w)
  (A:Z[i]?=some o) (X:o.guard=none) (r:pZ gA gL o.op=false) (t:Tmp) (d:∀(e:Operand->Value) (w:World),e (.tmp t)=.tuple #[]->∀q S,(execOp e o).run (ah β) w ≠ .ok q S) :
  ∃x,VR ρ x (T.getD t undef)/\x ≠ .tuple #[]:=by
 obtain⟨c1,σ,l1,w1,es,F, -, -, -,hR⟩:=h.ac6 true (h.st.two rfl);obtain⟨E,a0,_,_,C,e2⟩:=h.st.ne';have I:=h.st;rw[C] at I;have G:=I.head;have N:VR ρ (E.eval (.tmp t)) (T.getD t undef):=G.env h.gl (.tmp t) rfl;refine⟨_,N,λp=> ?_⟩;obtain⟨x1,U,_,_,e3,_⟩:=F.st.ne';obtain⟨a1,a⟩:=hR.step;have a:=a [] c1.t λ_ _ _=>rfl;rw[C] at a;obtain⟨fn,P,D,ds,K,kd,V⟩:=E;obtain⟨L,O,J,Q,B,H,u⟩:=G;dsimp only at L O J Q B H u;obtain rfl:K=.run:=B.elim (·.1) λx=>by cases x.2
 obtain rfl:V=none:=by cases u;rfl
 cases J with
 |cons x hl=>
  cases x with
  |@inRegion b _ z l=>
   have M:i<b.size:=by rw[z.1];exact(dl.1 A).1
   have n:b[i]?=some o:=by
    obtain⟨s,n⟩:∃s,b[i]?=some s:=⟨_,fi M⟩;rcases z.2 i s o n A with⟨rfl,_⟩|⟨g,_⟩
    .exact n
    .rw[r] at g;cases g
   have hq:=xu (β:=β) (m:=true) (fr:=⟨fn,P,_,ds,.run,kd,none⟩) rfl H.1 rfl rfl n X a (λy Y e=>F.st.hdL e) (by rw[e3];simp) (λq W j=>absurd j (d _ _ p q W));rcases hq with⟨v,j,_⟩|⟨j,_⟩
   .exact d _ _ p _ _ j
   .exact d _ _ p _ _ j
def gV.op {T:Array Value}       (h:gV β R c0 iy w0 c ρ (FQ f T (.inRegion Z (i::rest)::k)::y::Y) w)
  (p:Z[i]?=some o) (s:o.guard=none) (z:∀m r,(execOp (FQ f T (.inRegion Z (i::rest)::k)).eval o).run (ah β) w=.ok m r->(∃v,m=.value v)\/m=.skip) :
  ∃v a j g,((execOp (FQ f T (.inRegion Z (i::rest)::k)).eval o).run (ah β) w=.ok (.value v) a\/((execOp (FQ f T (.inRegion Z (i::rest)::k)).eval o).run (ah β) w=.ok .skip a/\v=undef))/\
   gV β R c0 iy w0 j g (FQ f (match o.dst with|some d=>T.setIfInBounds d v|none=>T) (.inRegion Z rest::k)::y::Y) a/\ρ.Le g:=by
 obtain⟨j,g,D,a,C,b,A,q,t⟩:=h.next true rfl
 obtain⟨_,_,B,u,_,x⟩:=b.st.ne';have n:∀v,Frame.finish (FQ f T (.inRegion Z (i::rest)::k)) v=FQ f (match o.dst with|some d=>T.setIfInBounds d v|none=>T) (.inRegion Z rest::k):=λv=>by
  simp only[Frame.finish,p,qG];cases o.dst<;>rfl
 rcases xu (base:=[]) rfl rfl rfl rfl p s (t []) (λy Y e=>b.st.hd e) (by rw[x];simp) z with⟨v,l,rfl⟩|⟨l,rfl⟩
 .rw[n] at b;exact⟨v,a,j,g,.inl l,b,q⟩
 .rw[n] at b;exact⟨undef,a,j,g,.inr ⟨l,rfl⟩,b,q⟩
section
variable {T:Array Value} {k:List Item} {y:Frame} {ys:List Frame}
def gV.seq{a b:Code}(h:gV β R c0 iy w0 c ρ (FC T (.code (.seq a b)::k)::y::ys) w):∃e d,gV β R c0 iy w0 e d (FC T (.code a :: .code b::k)::y::ys) w/\ρ.Le d:=by
 obtain⟨e,d,g, -,f⟩:=h.go rfl true (es:=#[]) (x2:=FC T (.code a :: .code b::k)) (xs2:=y::ys) (w2:=w) λbase=>by simp[Gl,stepG,stepG.exec]
 exact⟨e,d,g,f⟩
def gV.region{id:Nat}(h:gV β R c0 iy w0 c ρ (FC T (.code (.region id Z false)::k)::y::ys) w):∃b a,gV β R c0 iy w0 b a (FC T (.inRegion Z (List.range Z.size)::k)::y::ys) w/\ρ.Le a:=by
 obtain⟨b,a,e, -,d⟩:=h.go rfl true (es:=#[]) (x2:=FC T (.inRegion Z (List.range Z.size)::k)) (xs2:=y::ys) (w2:=w) λbase=>by simp[Gl,stepG,stepG.exec]
 exact⟨b,a,e,d⟩
def gV.jb(h:gV β R c0 iy w0 c ρ (FC T (.inRegion Z []::k)::y::ys) w):∃b a,gV β R c0 iy w0 b a (FC T k::y::ys) w/\ρ.Le a:=by
 obtain⟨b,a,d, -,e⟩:=h.go rfl true (es:=#[]) (x2:=FC T k) (xs2:=y::ys) (w2:=w) λbase=>by simp[Gl,stepG,stepG.exec]
 exact⟨b,a,d,e⟩
def gV.skip(h:gV β R c0 iy w0 c ρ (FC T (.code .skip::k)::y::ys) w):∃b a,gV β R c0 iy w0 b a (FC T k::y::ys) w/\ρ.Le a:=by
 obtain⟨b,a,d, -,e⟩:=h.go rfl true (es:=#[]) (x2:=FC T k) (xs2:=y::ys) (w2:=w) λbase=>by simp[Gl,stepG,stepG.exec]
 exact⟨b,a,d,e⟩
def gV.cond{a b:Code}{q:Bool}(f:T.getD t undef=.bool q)(h:gV β R c0 iy w0 c ρ (FC T (.code (.cond (.tmp t) a b)::k)::y::ys) w):∃e d,gV β R c0 iy w0 e d (FC T (.code (if q then a else b)::k)::y::ys) w/\ρ.Le d:=by
 have g:Frame.eval (FC T (.code (.cond (.tmp t) a b)::k)) (.tmp t)=.bool q:=f;obtain⟨e,d,j, -,i⟩:=h.go rfl true (es:=#[]) (x2:=FC T (.code (if q then a else b)::k)) (xs2:=y::ys) (w2:=w) λbase=>by simp[Gl,stepG,stepG.exec,g]
 exact⟨e,d,j,i⟩
def gV.ret(h:gV β R c0 iy w0 c ρ (FC T (.code .ret::k)::y::ys) w):∃d b,gV β R c0 iy w0 d b (y.finish (.tuple #[])::ys) w/\ρ.Le b/\ir (ah β) d c0:=by
 obtain⟨d,b,l, -,g⟩:=h.go rfl true (es:=#[]) (x2:=⟨nCC,T,.code .ret::k,[],.returning,.normal,none⟩) (xs2:=y::ys) (w2:=w) λbase=>by simp[Gl,stepG,stepG.exec]
 have f:(ah β).funcs[nCC]?=some qCC:=acs β;have a:qCC.results=#[]:=rfl;obtain⟨e,n,o,i,m⟩:=l.go rfl true (es:=#[]) (x2:=y.finish (.tuple #[])) (xs2:=ys) (w2:=w) λbase=>by
  have j:(results qCC T).runT (ah β) w #[]=(.ok (.tuple #[]) w,#[]):=by
   simp[results,a,Sem.runT]
  simp only[Gl,stepG,unwind,f,j];simp[doReturn,GStep.after,seen]
 exact⟨e,n,o,g.trans m,i⟩
end
end
section
variable {β:Bool} {R:List Frame->World->Prop} {c0 c:Cfg} {iy ρ:Ren} {w0 w w2:World} {T:Array Value} {k:List Item} {y:Frame} {ys:List Frame}
def gV.noV(h:gV β R c0 iy w0 c ρ (FC T k::y::ys) w)(e:T.getD t undef=.pointer (some A))(b:∃x,VR ρ x (T.getD t undef)/\x ≠ .tuple #[]):(∃d,AR ρ d A)/\NoV (ah β) w A:=by
 obtain⟨x,b,f⟩:=b;rw[e] at b;cases b with
 |pointer a=>cases a with
  |some a=>exact⟨⟨_,a⟩,h.wr.noV a⟩
 |fH=>exact absurd rfl f
def aH{T:Array Value}{d t:Nat}{v:Value}(a:d<T.size):(T.setIfInBounds d v).getD t undef=if t=d then v else T.getD t undef:=by
 rw[gE,gE,mT];by_cases e:d=t
 .subst e;simp[a]
 .rw[bv e,bv (λx=>e x.symm)]
def eqG{x y:Operand}{v:Value}:eqGuard .eql 160 x y v (.pointer none)=Sem.pure ():=by
 unfold eqGuard;cases v<;>rfl
def gV.slice(h:gV β R c0 iy w0 c ρ (FC T (.inRegion oO (0::rest)::k)::y::ys) w) :
  ∃A e n q i,T.getD 0 undef=.pointer (some A)/\(∃x,AR ρ x A)/\w.shape? A.block=some (e,n)/\liesAt (ah β) (ah β).depth e (n / (ah β).cellsOf e) A.off 162 1=true/\gV β R c0 iy w0 q i (FC T (.inRegion oO rest::k)::y::ys) w/\ρ.Le i:=by
 have a:∀d g,(execOp (FC T (.inRegion oO (0::rest)::k)).eval (iu none (.call ⟨.builtin .unsafeSlice,#[.tmp 0,.const (.int .i64 1)],#[160,3]⟩) 0)).run (ah β) w=.ok d g->
   ∃v,(Builtin.unsafeSlice_ #[160,3] 0 #[T.getD 0 undef,.int .i64 1]).run (ah β) w=.ok v g/\d=.value v:=λd g b=>by
  have j:execOp (FC T (.inRegion oO (0::rest)::k)).eval (iu none (.call ⟨.builtin .unsafeSlice,#[.tmp 0,.const (.int .i64 1)],#[160,3]⟩) 0) =
    (Builtin.unsafeSlice_ #[160,3] 0 #[T.getD 0 undef,.int .i64 1]).bind λv=>Sem.pure (.value v):=by
   have p:Array.map (FC T (.inRegion oO (0::rest)::k)).eval #[.tmp 0,.const (.int .i64 1)]=#[T.getD 0 undef,.int .i64 1]:=by simp[Frame.eval]
   simp only[execOp,iu,resolve];rw[p];rfl
  rw[j] at b;obtain⟨v,z,f,l⟩:=dS (s:=Builtin.unsafeSlice_ #[160,3] 0 #[T.getD 0 undef,.int .i64 1]) b;cases(show Result.ok (Next.value v) z=Result.ok d g from l);exact⟨v,f,rfl⟩
 obtain⟨v,B,q,i,m,f,l⟩:=h.op (o:=iu none (.call ⟨.builtin .unsafeSlice,#[.tmp 0,.const (.int .i64 1)],#[160,3]⟩) 0) rfl rfl λd g b=>.inl (let⟨v,_,e⟩:=a d g b;⟨v,e⟩);have G:∃u,(Builtin.unsafeSlice_ #[160,3] 0 #[T.getD 0 undef,.int .i64 1]).run (ah β) w=.ok u B:=by
  rcases m with b|⟨b, -⟩
  .obtain⟨u,f, -⟩:=a _ _ b;exact⟨u,f⟩
  .obtain⟨u,f, -⟩:=a _ _ b;exact⟨u,f⟩
 obtain⟨u,E⟩:=G;have r:=h.aoa (o:=iu none (.call ⟨.builtin .unsafeSlice,#[.tmp 0,.const (.int .i64 1)],#[160,3]⟩) 0) rfl rfl rfl 0 λe w H d C b=>by
  have j:execOp e (iu none (.call ⟨.builtin .unsafeSlice,#[.tmp 0,.const (.int .i64 1)],#[160,3]⟩) 0)=(Builtin.unsafeSlice_ #[160,3] 0 #[.tuple #[],e (.const (.int .i64 1))]).bind λv=>Sem.pure (.value v):=by
   have p:Array.map e #[.tmp 0,.const (.int .i64 1)]=#[.tuple #[],e (.const (.int .i64 1))]:=by simp[H]
   simp only[execOp,iu,resolve];rw[p];rfl
  rw[j] at b;cases(show Result.halt _ _=Result.ok d C from b)
 obtain⟨rfl,A,e,n,t,D,F⟩:=aqz (ccQ β) rfl (λA e=>(h.noV e r).2) E;exact⟨A,e,n,q,i,t,(h.noV t r).1,D,F,f,l⟩
def gV.field(h:gV β R c0 iy w0 c ρ (FC T (.inRegion Z (i::rest)::k)::y::ys) w)(l:Z[i]?=some (iu (some d) (.fieldAddr 162 (.tmp t) 0) 0))(e:T.getD t undef=.pointer (some A)) :
  ∃j g,gV β R c0 iy w0 j g (FC (T.setIfInBounds d (.pointer (some A))) (.inRegion Z rest::k)::y::ys) w/\ρ.Le g:=by
 have a:(execOp (FC T (.inRegion Z (i::rest)::k)).eval (iu (some d) (.fieldAddr 162 (.tmp t) 0) 0)).run (ah β) w=.ok (.value (.pointer (some A))) w:=by
  have:(execOp (FC T (.inRegion Z (i::rest)::k)).eval (iu (some d) (.fieldAddr 162 (.tmp t) 0) 0))=(Instr.fieldAt 162 (T.getD t undef) 0).bind λv=>Sem.pure (.value v):=rfl;rw[this,e,qP,aqA (ccQ β)];rfl
 obtain⟨v,o,j,g,f,n,m⟩:=h.op l rfl λq p b=>by rw[a] at b;cases b;exact .inl ⟨_,rfl⟩
 rw[a] at f;rcases f with b|⟨b, -⟩
 .cases b;exact⟨j,g,n,m⟩
 .cases b
def gV.load(h:gV β R c0 iy w0 c ρ (FC T (.inRegion Z (i::rest)::k)::y::ys) w)(x:Z[i]?=some (iu (some d) (.load 160 (.tmp t)) 160))(e:T.getD t undef=.pointer (some A)) :
  ∃v r m,w.cell? A=some v/\gV β R c0 iy w0 r m (FC (T.setIfInBounds d v) (.inRegion Z rest::k)::y::ys) w/\ρ.Le m:=by
 have a:∀g j,(execOp (FC T (.inRegion Z (i::rest)::k)).eval (iu (some d) (.load 160 (.tmp t)) 160)).run (ah β) w=.ok g j->∃v,j=w/\w.cell? A=some v/\g=.value v:=λg j b=>by
  obtain⟨v,n,f,l⟩:=dS (s:=Instr.loadAt 160 (T.getD t undef)) b;rw[e] at f;have z:=h.aoa x rfl rfl t λe w B g D b=>by
   obtain⟨v,n,f,l⟩:=dS (s:=Instr.loadAt 160 (e (.tmp t))) b;rw[B] at f;cases(show Result.halt _ _=Result.ok v n from f)
  obtain⟨rfl,p⟩:=atO (ccQ β) (h.noV e z).2 f;cases(show Result.ok (Next.value v) n=Result.ok g j from l);exact⟨v,rfl,p,rfl⟩
 obtain⟨v,C,r,m,o,f,l⟩:=h.op x rfl λg j b=>.inl (let⟨v,_,_,e⟩:=a g j b;⟨v,e⟩);rcases o with b|⟨b, -⟩
 .obtain⟨u,rfl,p,q⟩:=a _ _ b;cases q;exact⟨v,r,m,p,f,l⟩
 .obtain⟨u, -, -,q⟩:=a _ _ b;cases q
def gV.eql(h:gV β R c0 iy w0 c ρ (FC T (.inRegion Z (i::rest)::k)::y::ys) w)(A:Z[i]?=some (iu (some d) (.binOp .eql 160 (.tmp t) (.const (.pointer none)) 160) 4)) :
  ∃b x l,((T.getD t undef=.pointer none/\b=true)\/∃B,T.getD t undef=.pointer (some B)/\b=false)/\gV β R c0 iy w0 x l (FC (T.setIfInBounds d (.bool b)) (.inRegion Z rest::k)::y::ys) w/\ρ.Le l:=by
 have a:∀j g,(execOp (FC T (.inRegion Z (i::rest)::k)).eval (iu (some d) (.binOp .eql 160 (.tmp t) (.const (.pointer none)) 160) 4)).run (ah β) w=.ok j g->
   ∃b,g=w/\((T.getD t undef=.pointer none/\b=true)\/∃B,T.getD t undef=.pointer (some B)/\b=false)/\j=.value (.bool b):=λj g f=>by
  have:(execOp (FC T (.inRegion Z (i::rest)::k)).eval (iu (some d) (.binOp .eql 160 (.tmp t) (.const (.pointer none)) 160) 4))=((eqGuard .eql 160 (.tmp t) (.const (.pointer none)) (T.getD t undef) (.pointer none)).bind λ_=>binOp .eql 160 (T.getD t undef) (.pointer none)).bind λv=>Sem.pure (.value v):=rfl;rw[this,eqG] at f;obtain⟨v,z,r,m⟩:=dS (s:=binOp .eql 160 (T.getD t undef) (.pointer none)) f;obtain⟨rfl,o⟩:=axa (ccQ β) r;cases(show Result.ok (Next.value v) z=Result.ok j g from m);rcases o with⟨p,rfl⟩|⟨B,p,rfl⟩
  .exact⟨true,rfl,.inl ⟨p,rfl⟩,rfl⟩
  .exact⟨false,rfl,.inr ⟨B,p,rfl⟩,rfl⟩
 obtain⟨v,C,x,l,n,r,m⟩:=h.op A rfl λj g f=>.inl (let⟨b,_,_,e⟩:=a j g f;⟨_,e⟩);rcases n with f|⟨f, -⟩
 .obtain⟨u,rfl,o,q⟩:=a _ _ f;cases q;exact⟨u,x,l,o,r,m⟩
 .obtain⟨u, -, -,q⟩:=a _ _ f;cases q
def gV.store    {x:Operand} (h:gV β R c0 iy w0 c ρ (FC T (.inRegion Z (i::rest)::k)::y::ys) w) (r:Z[i]?=some (iu none (.store 160 (.tmp t) x) 0))  
  (e:T.getD t undef=.pointer (some A)) (z:(FC T (.inRegion Z (i::rest)::k)).eval x=.pointer u) :
  ∃n l,w.frozen? A=false/\(∃v,w.cell? A=some v)/\gV β R c0 iy w0 n l (FC T (.inRegion Z rest::k)::y::ys) (w.setCell A (.pointer u))/\ρ.Le l:=by
 have a:∀d f,(execOp (FC T (.inRegion Z (i::rest)::k)).eval (iu none (.store 160 (.tmp t) x) 0)).run (ah β) w=.ok d f->f=w.setCell A (.pointer u)/\w.frozen? A=false/\(∃v,w.cell? A=some v)/\d=.skip:=λd f b=>by
  have:(execOp (FC T (.inRegion Z (i::rest)::k)).eval (iu none (.store 160 (.tmp t) x) 0))=(Instr.storeAt 160 (T.getD t undef) ((FC T (.inRegion Z (i::rest)::k)).eval x)).bind λ_=>Sem.pure .skip:=rfl;rw[this,e,z] at b;obtain⟨v,q,g,j⟩:=dS (s:=Instr.storeAt 160 (.pointer (some A)) (.pointer u)) b;have B:=h.aoa r rfl rfl t λe w D d F b=>by
   obtain⟨v,q,g,j⟩:=dS (s:=Instr.storeAt 160 (e (.tmp t)) (e x)) b;rw[D] at g;cases(show Result.halt _ _=Result.ok v q from g)
  obtain⟨rfl,p,m⟩:=aqB (ccQ β) (h.noV e B).2 g;cases(show Result.ok Next.skip _=Result.ok d f from j);exact⟨rfl,p,m,rfl⟩
 obtain⟨v,E,n,l,o,g,j⟩:=h.op r rfl λd f b=>.inr (a d f b).2.2.2;rcases o with b|⟨b, -⟩
 .obtain⟨-, -, -,C⟩:=a _ _ b;cases C
 .obtain⟨rfl,p,m, -⟩:=a _ _ b;exact⟨n,l,p,m,g,j⟩
end
end
end Go.Proofs.YtbeafkpaghapeaaGreatDoor