/- A part. -/
import Derived.Test.YtblbaiejjagdoaaGreatDoorG3
import Derived.Below
import Derived.Conc.WgGenN3
set_option maxRecDepth 100000
set_option maxHeartbeats 8000000
set_option linter.all false
open Go Go.Conc Go.ConcN Go.RowKit Go.Proofs.Tryz Go.Proofs.YtblbaiejjagdoaaGreatDoor
variable {Rr:aw} {C b c i j n:Nat} {key:Int} {ρ:Ren} {S:Type} {A:Addr} {o:Oper} {q:Bool} {Q w w' w0:World} {c0 u u0 u1 v:Value} {y:Frame} {X t t0:TypeId} {f:FuncId} {P:Program} {O l rest:List Nat} {Rg:Nat→Prop} {d:TypeDesc} {k k2:List Item} {z:Nat × Nat} {Z:Array Oper} {W m xs:List Frame} {af:Array Edge} {Y T T' a cs:Array Value} {V:Array Field} {B:Option Addr} {es:Array Event} {e:Operand→Value} {x:Int × ByteArray} {Post:Value→World→Prop} {gd:Option (Nat × Bool)} {R:List Frame→World→Prop} {U:List (ByteArray × Bool)}
namespace Go.Proofs.YtblbaiejjagdoaaGreatDoor
def da:=@decide_eq_false
def dq:=@decide_eq_true
def eg:=@Go.Conc.stepG_region_end
def gE:=@Go.World.size_setCell
def iS:=@Go.Conc.stepG_seq
def jt:=@List.getElem?_eq_some_iff
def oR:=@List.map_append
def pa:=@Go.World.size_alloc
def pb:=@List.mem_flatMap
def ph:=@Nat.zero_add
def pF:=@List.length_map
def qM:=@List.mem_append_right
def qS:=@Go.Conc.stepG_skip
def rc:=@List.not_mem_nil
def rv:=@List.mem_append_left
def rG:=@List.mem_toArray
def rI:=@Go.Conc.stepG_ret'
def sg:=@Go.Conc.mem_seen
def sH:=@List.contains_cons
def sO:=@Nat.mul_one
def tc:=@List.getD_eq_getElem?_getD
def tu:=@Array.getElem?_replicate
def tS:=@Bool.and_true
def tT:=@or_false
def tY:=@Go.World.frozen?_setCell
def ua:=@Go.Conc.stepG_markAt
def uc:=@Go.Proofs.Tryz.zeroValue4
def uf:=@List.mem_iff_getElem
def uo:=@Go.Conc.stepG_mark0
def uK:=@Nat.mul_comm
def uM:=@List.all_nil
def uQ:=@Go.Proofs.Tryz.zeroValue3
def uR:=@Go.Proofs.Tryz.zeroValue0
def vy:=@List.getElem?_append
def vE:=@Array.getElem?_ofFn
section
open Go.Conc Go.ConcN
section
variable {P:Program} {w:World} {e:Operand->Value} {x:Operand} {v:Value} {dst:Option Tmp} {ty:TypeId} {pos:String} {af:Array Edge} {gd:Option (Nat×Bool)}
def eO(h:e x=v):(execOp e ⟨dst,.move x,ty,pos,af,gd⟩).runT P w #[]=(.ok (.value v) w,#[]):=by rw[atA,h]
end
section
variable {P:Program} {main:Bool} {Rl:aw->World->World->Prop} {Gr:aw->aw->World->World->Array Event->Prop} {St:aw->Goroutine->World->Prop} {S Rr:aw} {w0:World}
def bu(B:Nat):∀e∈seen P f #[],lT S Rr B e:=λe a=>by cases(by simpa using sg a:False)
def abu{wr:Bool}{B:Nat}(d:S A.block)(g:A.block<B):∀e∈seen P f #[⟨.cell A,wr,false⟩],lT S Rr B e:=λe c=>by
 have h:=sg c;simp only[rG,lE,rc,tT] at h;subst h;refine⟨λx a=>.inl ?_,λm b=>(by cases b),g⟩;simp[MemAct.ofEvent,MemAct.touch?] at a;rw[<-a];exact d
def awO{g : FuncId}{B:Nat}:∀e∈seen P f #[⟨.mark (.extern g),false,true⟩],lT S Rr B e:=λe b=>by
 have h:=sg b;simp only[rG,lE,rc,tT] at h;subst h;refine⟨λx c=> ?_,λm a=>.inl ⟨g,by cases a;rfl⟩,trivial⟩;simp[MemAct.ofEvent,MemAct.touch?] at c
def aez(C:Cmp Rl Gr Rr)(a:S A.block)(h:Rl S w0 w):w.cell? A=w0.cell? A/\w.frozen? A=w0.frozen? A/\w.shape? A.block=w0.shape? A.block/\w0.heap.size<=w.heap.size:=by
 obtain⟨b,c, -⟩:=C.rl _ _ _ h;have e:=b A.block (.inl a);refine⟨fF e, ?_, ?_,c⟩
 .unfold World.frozen?;rw[e]
 .unfold World.shape?;rw[e]
def bm(w:World)(A:Addr)(v:Value)(h:A.block≠b):(w.setCell A v).heap[b]?=w.heap[b]?:=by
 unfold World.setCell;simp only[mw,bd h]
def aeA (C:Cmp Rl Gr Rr)   {base : List Frame}       (g:Z[i]?=some o) (n:o.guard=none) (j:o.dst=none)
  (m:∀w,Rl S w0 w->(execOp (FQ f T (.inRegion Z (i::rest)::k)).eval o).runT P w #[]=(.ok .skip (w.setCell A u),es)) (s:S A.block) (r:∀w,Rl S w0 w->∀e∈seen P f es,lT S Rr w.heap.size e)
  (q:∀w,Rl S w0 w->∀a,Rl S (w.setCell A u) a->bH P main Rl Gr St S (Gl (FQ f T (.inRegion Z rest::k)::xs) base) a):∀w,Rl S w0 w->bH P main Rl Gr St S (Gl (FQ f T (.inRegion Z (i::rest)::k)::xs) base) w:=λw l=>by
 refine .step rfl λa d=> ?_;have c:=C.tr _ _ _ _ l d;refine⟨_,_,_,S,aex rfl rfl rfl rfl g n (m a c),C.same (λb _ p=>bm _ _ _ (λe=>p (e▸s))) (gE _ _ _) rfl (r a c), ?_⟩;have:Frame.finish (FQ f T (.inRegion Z (i::rest)::k)) undef=FQ f T (.inRegion Z rest::k):=by
  simp only[Frame.finish,g,qd,j]
 rw[this];exact q a c _ (C.fg _ _)
def bK (C:Cmp Rl Gr Rr)   {base : List Frame}    {d:Tmp}  (b:d<T.size) (c:Z[i]?=some o) (l:o.guard=none) (a:o.dst=some d)
  (g:∀w,Rl S w0 w->(execOp (FQ f T (.inRegion Z (i::rest)::k)).eval o).runT P w #[]=(.ok (.value v) w,es)) (n:∀w,Rl S w0 w->∀e∈seen P f es,lT S Rr w.heap.size e)
  (m:∀T':Array Value,T'.size=T.size->T'.getD d undef=v->(∀t,t≠d->T'.getD t undef=T.getD t undef)->∀w,Rl S w0 w->bH P main Rl Gr St S (Gl (FQ f T' (.inRegion Z rest::k)::xs) base) w):∀w,Rl S w0 w->bH P main Rl Gr St S (Gl (FQ f T (.inRegion Z (i::rest)::k)::xs) base) w:=
 ayx C c l a g n (m _ (by simp) (by rw[aG b,dl rfl]) λt j=>by rw[aG b,bd j])
def aqH:Code->Code
 |.seq _ (.cond _ a _)=>a
 |c=>c
def aqI:Code->Code
 |.seq _ (.cond _ _ b)=>b
 |c=>c
def ayy(C:Cmp Rl Gr Rr){base : List Frame}(c:20<=T.size)(e:T.getD 0 undef=.pointer (some A))(p:S A.block)(D:A.block<w0.heap.size)(s:w0.shape? A.block=some (X,n))(x:A.off<n)(z:liesAt prog prog.depth X (n / prog.cellsOf X) A.off 257 1=true)(E:w0.cell? A=some (.pointer none))(t:w0.frozen? A=false)(B:∀w,Rl S w0 w->∀r,Rl S (w.setCell A (.pointer (some A))) r->bH prog main Rl Gr St S (Gl (y.finish (.tuple #[])::W) base) r) :
  ∀w,Rl S w0 w->bH prog main Rl Gr St S (Gl (FC T [.code (aqH (f219.body.getD .skip))]::y::W) base) w:=by
 have F:=λw (h:Rl S w0 w)=>aez (A:=A) C p h;simp only[f219,pS,aqH];refine fw C (l:=[0,1,2,3,4,5,6,7]) rfl ?_;refine bK C (d:=7) (v:=.pointer (some A)) (es:=#[]) (aE (by decide) c) rfl rfl rfl (λw b=>eO e) (λw b=>bu _) ?_;intro T a g o;replace c:=ap c (me a.symm);replace e:=(o 0 (by decide)).trans e;clear o a;refine bK C (d:=8) (v:=.pointer (some A)) (es:=#[]) (aE (by decide) c) rfl rfl rfl (λw b=>eO e) (λw b=>bu _) ?_;intro T a j o;replace c:=ap c (me a.symm);replace e:=(o 0 (by decide)).trans e;replace g:=(o 7 (by decide)).trans g;clear o a;refine bK C (d:=9) (v:=.pointer (some A)) (es:=#[]) (aE (by decide) c) rfl rfl rfl (λw b=>awN ccT j ((F w b).2.2.1.trans s) x) (λw b=>bu _) ?_;intro T a k o;replace c:=ap c (me a.symm);replace e:=(o 0 (by decide)).trans e;replace g:=(o 7 (by decide)).trans g;replace j:=(o 8 (by decide)).trans j;clear o a;refine bK C (d:=10) (v:=.pointer (some A)) (aE (by decide) c) rfl rfl rfl (λw b=>aos rfl k) (λw b=>awO) ?_;intro T a f o;replace c:=ap c (me a.symm);replace e:=(o 0 (by decide)).trans e;replace g:=(o 7 (by decide)).trans g;replace j:=(o 8 (by decide)).trans j;replace k:=(o 9 (by decide)).trans k;clear o a;refine bK C (d:=11) (v:=.pointer (some A)) (es:=#[]) (aE (by decide) c) rfl rfl rfl (λw b=>aqD ccT f ((F w b).2.2.1.trans s) z) (λw b=>bu _) ?_;intro T a i o;replace c:=ap c (me a.symm);replace e:=(o 0 (by decide)).trans e;replace g:=(o 7 (by decide)).trans g;replace j:=(o 8 (by decide)).trans j;replace k:=(o 9 (by decide)).trans k;replace f:=(o 10 (by decide)).trans f;clear o a;refine bK C (d:=12) (v:=.pointer (some A)) (es:=#[]) (aE (by decide) c) rfl rfl rfl (λw b=>akV g) (λw b=>bu _) ?_;intro T a m o;replace c:=ap c (me a.symm);replace e:=(o 0 (by decide)).trans e;replace g:=(o 7 (by decide)).trans g;replace j:=(o 8 (by decide)).trans j;replace k:=(o 9 (by decide)).trans k;replace f:=(o 10 (by decide)).trans f;replace i:=(o 11 (by decide)).trans i;clear o a;refine bK C (d:=13) (v:=.pointer (some A)) (es:=#[]) (aE (by decide) c) rfl rfl rfl (λw b=>aew ccT m) (λw b=>bu _) ?_;intro T a q o;replace c:=ap c (me a.symm);replace e:=(o 0 (by decide)).trans e;replace g:=(o 7 (by decide)).trans g;replace j:=(o 8 (by decide)).trans j;replace k:=(o 9 (by decide)).trans k;replace f:=(o 10 (by decide)).trans f;replace i:=(o 11 (by decide)).trans i;replace m:=(o 12 (by decide)).trans m;clear o a;refine aeA C (A:=A) (u:=.pointer (some A)) rfl rfl rfl (λw b=>aqE ccT (A:=A) (u:=some A) q i ((F w b).1.trans E) ((F w b).2.1.trans t)) p (λw b=>abu p (aE D (F w b).2.2.2)) ?_;intro w b;exact gu C (aiP C func219 rfl (B w b))
def ayz(C:Cmp Rl Gr Rr){base : List Frame}(e:20<=T.size)(i:T.getD 0 undef=.pointer (some A))(m:S A.block)(t:A.block<w0.heap.size)(r:w0.cell? A=some (.pointer (some A)))(s:∀w,Rl S w0 w->∀p,Rl S (w.setCell A (.pointer (some A))) p->bH prog main Rl Gr St S (Gl (y.finish (.tuple #[])::W) base) p) :
  ∀w,Rl S w0 w->bH prog main Rl Gr St S (Gl (FC T [.code (aqI (f219.body.getD .skip))]::y::W) base) w:=by
 have F:=λw (h:Rl S w0 w)=>aez (A:=A) C m h;simp only[f219,pS,aqI];refine dR C ?_;refine fw C (l:=[0,1,2,3,4,5]) rfl ?_;refine bK C (d:=14) (v:=.pointer (some A)) (es:=#[]) (aE (by decide) e) rfl rfl rfl (λw f=>eO i) (λw f=>bu _) ?_;intro T a b o;replace e:=ap e (me a.symm);replace i:=(o 0 (by decide)).trans i;clear o a;refine bK C (d:=15) (v:=.pointer (some A)) (es:=#[]) (aE (by decide) e) rfl rfl rfl (λw f=>akV b) (λw f=>bu _) ?_;intro T a c o;replace e:=ap e (me a.symm);replace i:=(o 0 (by decide)).trans i;replace b:=(o 14 (by decide)).trans b;clear o a;refine bK C (d:=16) (v:=.pointer (some A)) (es:=#[]) (aE (by decide) e) rfl rfl rfl (λw f=>aew ccT c) (λw f=>bu _) ?_;intro T a g o;replace e:=ap e (me a.symm);replace i:=(o 0 (by decide)).trans i;replace b:=(o 14 (by decide)).trans b;replace c:=(o 15 (by decide)).trans c;clear o a;refine bK C (d:=17) (v:=.pointer (some A)) (aE (by decide) e) rfl rfl rfl (λw f=>am9 ccT g ((F w f).1.trans r)) (λw f=>abu m (aE t (F w f).2.2.2)) ?_;intro T a j o;replace e:=ap e (me a.symm);replace i:=(o 0 (by decide)).trans i;replace b:=(o 14 (by decide)).trans b;replace c:=(o 15 (by decide)).trans c;replace g:=(o 16 (by decide)).trans g;clear o a;refine bK C (d:=18) (v:=.pointer (some A)) (es:=#[]) (aE (by decide) e) rfl rfl rfl (λw f=>eO i) (λw f=>bu _) ?_;intro T a k o;replace e:=ap e (me a.symm);replace i:=(o 0 (by decide)).trans i;replace b:=(o 14 (by decide)).trans b;replace c:=(o 15 (by decide)).trans c;replace g:=(o 16 (by decide)).trans g;replace j:=(o 17 (by decide)).trans j;clear o a;refine bK C (d:=19) (v:=.bool false) (es:=#[]) (aE (by decide) e) rfl rfl rfl (λw f=>awM ccT (A:=A) j k) (λw f=>bu _) ?_;intro T a n o;replace e:=ap e (me a.symm);replace i:=(o 0 (by decide)).trans i;replace b:=(o 14 (by decide)).trans b;replace c:=(o 15 (by decide)).trans c;replace g:=(o 16 (by decide)).trans g;replace j:=(o 17 (by decide)).trans j;replace k:=(o 18 (by decide)).trans k;clear o a;refine gu C ?_;refine abt C (q:=false) n ?_;simp only[qc,fd];refine anb C ?_;refine aiP C func219 rfl ?_;intro w f;refine s w f w ?_;rw[ahp ((F w f).1.trans r)];exact C.fg _ _
def aqJ(C:Cmp Rl Gr Rr){base : List Frame}(c:20<=T.size)(g:T.getD 0 undef=.pointer (some A))(j:S A.block)(t:A.block<w0.heap.size)(G:w0.shape? A.block=some (X,n))(I:A.off<n)(J:liesAt prog prog.depth X (n / prog.cellsOf X) A.off 257 1=true)(u:w0.cell? A=some v)(H:w0.frozen? A=false)(E:v=.pointer none\/v=.pointer (some A))(B:∀w,Rl S w0 w->∀z,Rl S (w.setCell A (.pointer (some A))) z->bH prog main Rl Gr St S (Gl (y.finish (.tuple #[])::W) base) z) :
  ∀w,Rl S w0 w->bH prog main Rl Gr St S (Gl (FC T [.code (f219.body.getD .skip)]::y::W) base) w:=by
 have F:=λw (h:Rl S w0 w)=>aez (A:=A) C j h;obtain⟨a,rfl⟩:∃a,v=.pointer a:=E.elim (λe=>⟨_,e⟩) λe=>⟨_,e⟩;have x:=λ(p:Array Value) (b:20<=p.size) (f:p.getD 0 undef=.pointer (some A)) (k:w0.cell? A=some (.pointer none))=>ayy (T:=p) C b f j t G I J k H B
 have D:=λ(p:Array Value) (b:20<=p.size) (f:p.getD 0 undef=.pointer (some A)) (k:w0.cell? A=some (.pointer (some A)))=>ayz (T:=p) C b f j t k B
 simp only[f219,pS,aqH,aqI] at x D ⊢;refine dR C ?_;refine fw C (l:=[0,1,2,3,4]) rfl ?_;refine bK C (d:=2) (v:=.pointer (some A)) (es:=#[]) (aE (by decide) c) rfl rfl rfl (λw i=>eO g) (λw i=>bu _) ?_;intro T b f o;replace c:=ap c (me b.symm);replace g:=(o 0 (by decide)).trans g;clear o b;refine bK C (d:=3) (v:=.pointer (some A)) (es:=#[]) (aE (by decide) c) rfl rfl rfl (λw i=>akV f) (λw i=>bu _) ?_;intro T b m o;replace c:=ap c (me b.symm);replace g:=(o 0 (by decide)).trans g;replace f:=(o 2 (by decide)).trans f;clear o b;refine bK C (d:=4) (v:=.pointer (some A)) (es:=#[]) (aE (by decide) c) rfl rfl rfl (λw i=>aew ccT m) (λw i=>bu _) ?_;intro T b r o;replace c:=ap c (me b.symm);replace g:=(o 0 (by decide)).trans g;replace f:=(o 2 (by decide)).trans f;replace m:=(o 3 (by decide)).trans m;clear o b;refine bK C (d:=5) (v:=.pointer a) (aE (by decide) c) rfl rfl rfl (λw i=>am9 ccT r ((F w i).1.trans u)) (λw i=>abu j (aE t (F w i).2.2.2)) ?_;intro T b s o;replace c:=ap c (me b.symm);replace g:=(o 0 (by decide)).trans g;replace f:=(o 2 (by decide)).trans f;replace m:=(o 3 (by decide)).trans m;replace r:=(o 4 (by decide)).trans r;clear o b;refine bK C (d:=6) (v:=.bool a.isNone) (aE (by decide) c) rfl rfl rfl (λw i=>awL ccT (a:=a) s rfl) (λw i=>bu _) ?_;intro T b K o;replace c:=ap c (me b.symm);replace g:=(o 0 (by decide)).trans g;replace f:=(o 2 (by decide)).trans f;replace m:=(o 3 (by decide)).trans m;replace r:=(o 4 (by decide)).trans r;replace s:=(o 5 (by decide)).trans s;clear o b;refine gu C ?_;refine abt C (q:=a.isNone) K ?_;rcases E with e|e
 .cases e;simp only[Option.isNone_none,mT];exact x _ c g u
 .cases e;simp only[Option.isNone_some,qc,fd];exact D _ c g u
end
noncomputable def aqK(f:FuncId):Bool:=match prog.funcs[f]? with
 |some a=>!(a.name == "loop.example/depositary/impl.fetchAll" || a.name == "(*strings.Builder).copyCheck")||f ==cf||f ==nCC
 |none=>true
def akW:(List.range prog.funcs.size).all aqK=true:=by kernel_rfl
def wZ(h:gH f=true):f=cf\/f=nCC:=by
 unfold gH at h;cases b:prog.funcs[f]? with
 |none=>rw[b] at h;cases h
 |some c=>
  rw[b] at h;have a:=jp.1 akW f (pm.2 (de.1 b).1);unfold aqK at a;rw[b] at a;dsimp only at h a;rw[h] at a;simpa using a
def aqL :Frame.enter prog nCC Y .normal=FC (T0C Y) [.code (f219.body.getD .skip)]:=by
 unfold Frame.enter;rw[func219];rfl
def aqM{e:TypeId}(d:w.shape? A.block=some (e,n))(a:w.cell? A=some v):A.off<n:=by
 unfold World.shape? at d;unfold World.cell? at a;cases f:w.heap[A.block]? with
 |none=>rw[f] at a;simp at a
 |some o=>
  rw[f] at d a;cases o with
  |cells c t z=>
   cases b:A.spot with
   |some s=>simp[b] at a
   |none=>
    simp[b] at a d;have:=(de.1 a).1;omega
  |_=>simp at a
def aaj(h:Q.heap[b]?=w.heap[b]?):(Q.setCell A u).heap[b]?=(w.setCell A u).heap[b]?:=by
 unfold World.setCell;simp only[mw,h]
section
variable {β main:Bool} {Rl:aw->World->World->Prop} {Gr:aw->aw->World->World->Array Event->Prop} {Rr:aw} {R:List Frame->World->Prop}
def agb(C:Cmp Rl Gr Rr){base:List Frame}:wC (ah β) prog R Rr main Rl Gr base:=by
 intro f c ρ a T m m' l S hf r ha M hc H hg hW F;obtain rfl:f=nCC:=(wZ hf).resolve_left r;obtain⟨_,_,y,ys,rfl,rfl⟩:=M.ne';obtain⟨A,v,e,n,c1,X,h0,I,V,d,ly,Z,⟨N,t⟩,D,g,B⟩:=atz ha M hc H hg hW;have i:ρ.r N.block A.block:=by cases t with|mk h o s=>exact h
 have z:S A.block:=by
  rcases F _ _ i with h|⟨_,Q,W⟩
  .exact h
  .exact(D _ i Q W).elim
 have hB:A.block<l.heap.size:=(H.lt i).2;have U:20<=(T0C T).size:=by simp only[T0C,rA,rY];omega
 rw[aqL];have G:liesAt prog prog.depth e (n / prog.cellsOf e) A.off 257 1=true:=by
  rw[<-V];exact(aqf prog _ _ _ _ _ _ _).symm
 refine aqJ C U h0 z hB I (aqM I d) G d ly Z (λw O w1 x=> ?_) l (C.fg _ _);refine .stop λw2 u=> ?_;have L:=g.kept;have p:(l.setCell A (.pointer (some A))).heap.size=l.heap.size:=gE _ _ _;have j:=F.step g.wr L;have hS:(λb=>S b\/(l.heap.size<=b/\b<(l.setCell A (.pointer (some A))).heap.size))=S:=by
  funext b
  rw[p];exact propext ⟨λh=>h.elim id λh=>absurd h.1 (by omega),.inl⟩
 rw[hS] at j;obtain⟨K,r2,P⟩:=C.rl _ _ _ O;obtain⟨J,s2,Y⟩:=C.rl _ _ _ (C.tr _ _ _ _ x u);refine⟨c1,X,_,B,g.le,λ_ k=>k,rfl,⟨g.st, ?_,g.gl,g.will,j⟩,.am5 L λb E k=> ?_⟩
 case refine_2=>
  have q:=(F b E k).imp (λh=>h) (λh=>h.1);exact(J E q).trans (aaj (K E q))
 refine g.wr.rely j (λb k=>(J b k).trans (aaj (K b k))) ?_ ?_
 .rw[p];have:(w.setCell A (.pointer (some A))).heap.size=w.heap.size:=gE _ _ _;omega
 .exact Y.trans P
end
structure FaT (P:Program):Prop where
 u3:P.underlying 3=some (.int .i64)
 u9:P.underlying 9=some .string
 u23:P.underlying 32=some (.slice 56)
 u31:P.underlying 27=some (.slice 3)
 u38:P.underlying 54=some (.slice 83)
 ahr:P.underlying 205=some (.slice 216)
 atD:∃ms,P.underlying 237=some (.interface ms)
 u40:∃fs g0 g1,P.underlying 56=some (.struct fs)/\fs[0]?=some g0/\fs[1]?=some g1/\g0.offset=0/\g0.type=3/\g1.offset=1/\g1.type=54
 atE:∃fs g0 g1,P.underlying 83=some (.struct fs)/\fs[0]?=some g0/\fs[1]?=some g1/\g0.offset=0/\g0.type=3/\g1.offset=1/\g1.type=9
 atG:∃fs,P.underlying 216=some (.struct fs)
 i3:∃i,P.info? 3=some i/\i.size=1
 i40:∃i,P.info? 56=some i/\i.size=2
 i110:∃i,P.info? 83=some i/\i.size=2
 i258:∃i,P.info? 216=some i/\i.size=2/\i.bytes=24/\i.zero=some (.agg #[.string ⟨#[]⟩,.bool false])
 i247:∃i,P.info? 205=some i/\i.size=1/\i.zero=some (.slice none 0 0)
def atH:((prog.info? 3).map (·.size ==1)=some true/\(prog.info? 56).map (·.size ==2)=some true)/\((prog.info? 83).map (·.size ==2)=some true/\(prog.info? 216).map (λi=>i.size ==2&&i.bytes ==24)=some true):=by
 refine⟨⟨?_, ?_⟩, ?_, ?_⟩<;>kernel_rfl
def ayA:(prog.info? 216).map (·.zero)=some (some (.agg #[.string ⟨#[]⟩,.bool false])):=by kernel_rfl
def ayB:(prog.info? 205).map (λi=>(i.size,i.zero))=some (1,some (.slice none 0 0)):=by kernel_rfl
def faT:FaT prog where
 u3:=underlying3
 u9:=underlying9
 u23:=underlying32
 u31:=underlying27
 u38:=underlying54
 ahr:=underlying205
 atD:=⟨_,underlying237⟩
 u40:=⟨_,_,_,underlying56,rfl,rfl,rfl,rfl,rfl,rfl⟩
 atE:=⟨_,_,_,underlying83,rfl,rfl,rfl,rfl,rfl,rfl⟩
 atG:=⟨_,underlying216⟩
 i3:=let⟨i,h,k⟩:=io.1 atH.1.1;⟨i,h,by simpa using k⟩
 i40:=let⟨i,h,k⟩:=io.1 atH.1.2;⟨i,h,by simpa using k⟩
 i110:=let⟨i,h,k⟩:=io.1 atH.2.1;⟨i,h,by simpa using k⟩
 i258:=by
  obtain⟨i,h,k⟩:=io.1 atH.2.2;have z:=ayA;rw[h] at z;simp only[fb,mx] at k;exact⟨i,h,k.1,k.2,by simpa using z⟩
 i247:=by
  obtain⟨i,h,k⟩:=io.1 ayB;simp only[Prod.mk.injEq] at k;exact⟨i,h,k.1,k.2⟩
def faQ(β:Bool):FaT (ah β) where
 u3:=(cE prog _ _).trans faT.u3
 u9:=(cE prog _ _).trans faT.u9
 u23:=(cE prog _ _).trans faT.u23
 u31:=(cE prog _ _).trans faT.u31
 u38:=(cE prog _ _).trans faT.u38
 ahr:=(cE prog _ _).trans faT.ahr
 atD:=let⟨d,h⟩:=faT.atD;⟨d,(cE prog _ _).trans h⟩
 u40:=let⟨a,b,c,h,k⟩:=faT.u40;⟨a,b,c,(cE prog _ _).trans h,k⟩
 atE:=let⟨a,b,c,h,k⟩:=faT.atE;⟨a,b,c,(cE prog _ _).trans h,k⟩
 atG:=let⟨d,h⟩:=faT.atG;⟨d,(cE prog _ _).trans h⟩
 i3:=let⟨i,h,k⟩:=faT.i3;⟨i,(jv prog _ _).trans h,k⟩
 i40:=let⟨i,h,k⟩:=faT.i40;⟨i,(jv prog _ _).trans h,k⟩
 i110:=let⟨i,h,k⟩:=faT.i110;⟨i,(jv prog _ _).trans h,k⟩
 i258:=let⟨i,h,k⟩:=faT.i258;⟨i,(jv prog _ _).trans h,k⟩
 i247:=let⟨i,h,k⟩:=faT.i247;⟨i,(jv prog _ _).trans h,k⟩
def kg{s:Sem Value}{a:Next}(h:(s.bind λv=>Sem.pure (Next.value v)).run P w=.ok a Q):∃v,a=.value v/\s.run P w=.ok v Q:=by
 obtain⟨v,b,d,c⟩:=dF (s:=s) h;cases(show Result.ok (Next.value v) b=Result.ok a Q from c);exact⟨v,rfl,d⟩
section
variable {P:Program} {w w3:World} {e:Operand->Value} {x y:Operand} {nx:Next} {a b:Int} {dst:Option Tmp} {ty:TypeId} {pos:String} {af:Array Edge} {gd:Option (Nat×Bool)}
def iJ(h:(execOp e ⟨dst,.assign x,ty,pos,af,gd⟩).run P w=.ok nx w3):∃v,nx=.value v/\(v=e x/\w3=w):=by
 cases(show Result.ok (Next.value (e x)) w=Result.ok nx w3 from h);exact⟨_,rfl,rfl,rfl⟩
def ahs(h:(execOp e ⟨dst,.move x,ty,pos,af,gd⟩).run P w=.ok nx w3):∃v,nx=.value v/\(v=e x/\w3=w):=by
 cases(show Result.ok (Next.value (e x)) w=Result.ok nx w3 from h);exact⟨_,rfl,rfl,rfl⟩
def aqO(f:e y=.int .i64 b)(h:(execOp e ⟨dst,.binOp .lss 3 x y 3,ty,pos,af,gd⟩).run P w=.ok nx w3):∃v,nx=.value v/\(∃a,e x=.int .i64 a/\v=.bool (decide (a<b))/\w3=w):=by
 obtain⟨v,rfl,d⟩:=kg (s:=binOp .lss 3 (e x) (e y)) h;clear h;have h:=d;clear d;refine⟨v,rfl, ?_⟩;rw[f] at h;generalize e x=u at h ⊢;cases u with
 |int k n=>
  by_cases c:k=.i64
  .subst c;cases(show Result.ok (.bool (decide (n<b))) w=Result.ok v w3 from h);exact⟨_,rfl,rfl,rfl⟩
  .simp only[binOp,c,ne_eq,not_false_eq_true,mT] at h;cases(show Result.halt _ _=Result.ok v w3 from h)
 |pointer p=>cases p<;>cases(show Result.halt _ _=Result.ok v w3 from h)
 |_=>cases(show Result.halt _ _=Result.ok v w3 from h)
def fG(i:e x=.int .i64 a)(d:e y=.int .i64 b)(h:(execOp e ⟨dst,.binOp .lss 3 x y 3,ty,pos,af,gd⟩).run P w=.ok nx w3):∃v,nx=.value v/\(v=.bool (decide (a<b))/\w3=w):=by
 obtain⟨v,rfl,j,c,f,g⟩:=aqO d h;rw[i] at c;cases c;exact⟨_,rfl,f,g⟩
def akX(h:(execOp e ⟨dst,.binOp .mul 3 x (.const (.int .i64 1)) 3,ty,pos,af,gd⟩).run P w=.ok nx w3)(d:e (.const (.int .i64 1))=.int .i64 1):∃v,nx=.value v/\(∃a,e x=.int .i64 a/\v=.int .i64 (IntKind.i64.wrap (a*1))/\w3=w):=by
 obtain⟨v,rfl,c⟩:=kg (s:=binOp .mul 3 (e x) (e (.const (.int .i64 1)))) h;clear h;have h:=c;clear c;refine⟨v,rfl, ?_⟩;rw[d] at h;generalize e x=u at h ⊢;cases u with
 |int k n=>
  by_cases b:k=.i64
  .subst b;cases(show Result.ok (.int .i64 (IntKind.i64.wrap (n*1))) w=Result.ok v w3 from h);exact⟨_,rfl,rfl,rfl⟩
  .simp only[binOp,b,ne_eq,not_false_eq_true,mT] at h;cases(show Result.halt _ _=Result.ok v w3 from h)
 |pointer p=>cases p<;>cases(show Result.halt _ _=Result.ok v w3 from h)
 |_=>cases(show Result.halt _ _=Result.ok v w3 from h)
def akY(d:e x=.int .i64 a)(c:e (.const (.int .i64 1))=.int .i64 1)(h:(execOp e ⟨dst,.binOp .add 3 x (.const (.int .i64 1)) 3,ty,pos,af,gd⟩).run P w=.ok nx w3):∃v,nx=.value v/\(v=.int .i64 (IntKind.i64.wrap (a+1))/\w3=w):=by
 obtain⟨v,rfl,b⟩:=kg (s:=binOp .add 3 (e x) (e (.const (.int .i64 1)))) h;clear h;have h:=b;clear b;rw[d,c] at h;cases(show Result.ok (.int .i64 (IntKind.i64.wrap (a+1))) w=Result.ok v w3 from h);exact⟨_,rfl,rfl,rfl⟩
def akZ(f:e x=.int .i64 a)(d:e y=.int .i64 b)(h:(execOp e ⟨dst,.binOp .eql 3 x y 3,ty,pos,af,gd⟩).run P w=.ok nx w3):∃v,nx=.value v/\(v=.bool (a ==b)/\w3=w):=by
 have g:eqGuard .eql 3 x y (e x) (e y)=Sem.pure ():=by rw[f,d];rfl
 have c:(((eqGuard .eql 3 x y (e x) (e y)).bind λ_=>binOp .eql 3 (e x) (e y)).bind λv=>Sem.pure (Next.value v)).run P w=.ok nx w3:=h;clear h;rw[g] at c;obtain⟨v,rfl,h⟩:=kg (s:=binOp .eql 3 (e x) (e y)) c;clear c;rw[f,d] at h;cases(show Result.ok (.bool (a ==b)) w=Result.ok v w3 from h);exact⟨_,rfl,rfl,rfl⟩
def nK{a:Builtin}{t:Tmp}{s:Value->Sem Value}(d:∀c v,builtin a #[t0] ty c #[v]=(s v).bind λu=>Sem.pure (.value u)):execOp e ⟨dst,.call ⟨.builtin a,#[.tmp t],#[t0]⟩,ty,pos,af,gd⟩=(s (e (.tmp t))).bind λu=>Sem.pure (.value u):=by
 have b:Array.map e #[.tmp t]=#[e (.tmp t)]:=by simp
 simp only[execOp,resolve];rw[b];exact d _ _
def aht{t:Tmp}(k:P.underlying t0=some (.slice X))(h:(execOp e ⟨dst,.call ⟨.builtin .len,#[.tmp t],#[t0]⟩,ty,pos,af,gd⟩).run P w=.ok nx w3) :
  ∃v,nx=.value v/\(∃A n c,e (.tmp t)=.slice A n c/\v=.int .i64 n/\w3=w):=by
 rw[nK (s:=λv=>Builtin.len_ #[t0] ty #[v]) λ_ v=>rfl] at h;obtain⟨v,rfl,g⟩:=kg h;clear h;have h:=g;clear g;refine⟨v,rfl, ?_⟩;generalize e (.tmp t)=u at h ⊢;obtain⟨d,l,g,j⟩:=dF (s:=underlying t0) (f:=λd=>match d,u with
  |.string,.string s=>pure (goInt s.size)
  |.array n _,_=>pure (goInt n)
  |.pointer arr,_=>(underlying arr).bind λd=>match d with
   |.array n _=>pure (goInt n)
   |_=>stuck "len: pointer to array expected"
  |.slice _,.slice _ n _=>pure (goInt n)
  |.map _ _,.map none|.chan _ _,.chan none=>pure (goInt 0)
  |.map _ _,.map (some r)=>(getObj r).bind λo=>match o with
   |.map a _=>pure (goInt a.size)
   |_=>stuck "len: map expected"
  |.chan _ _,.chan (some r)=>(getObj r).bind λo=>match o with
   |.chan _ i _ _ _ b=>pure (goInt (if b then 0 else i.size))
   |_=>stuck "len: channel expected"
  |_,_=>stuck "len: string, array, pointer to array, slice, map or channel expected") h
 rw[lm k] at g;cases g;cases u with
 |slice A n c=>
  cases(show Result.ok (.int .i64 n) w=Result.ok v w3 from j);exact⟨A,n,c,rfl,rfl,rfl⟩
 |_=>cases(show Result.halt _ _=Result.ok v w3 from j)
end
def aiS:TypeDesc->Bool
 |.struct _|.array .. =>false
 |_=>true
def atI{s:Sem S}(h:js P s){v:S}:s.run P w ≠ .ok v w':=λe=>by
 obtain⟨q,b,c,a, -⟩:=Leaves.acR h w #[];rw[<-qE _ _ _ #[],a] at e;cases e
def aiT(k:IntKind)(x y:Int)(c:BoundsCode):js P (boundsPanic k x y c:Sem S):=by
 rw[ace];refine fC ?_ λa=>dQ _;split
 .exact λ_=>trivial
 .exact trivial
section
variable {P:Program} (F:FaT P) {w w3:World} {e:Operand->Value} {x y:Operand} {nx:Next} {dst:Option Tmp} {ty:TypeId} {pos:String} {af:Array Edge} {gd:Option (Nat×Bool)}
def ak0{t:Tmp}{A:Option Addr}(b:P.underlying t0=some (.slice X))(d:e (.tmp t)=.slice A n c)(h:(execOp e ⟨dst,.call ⟨.builtin .cap,#[.tmp t],#[t0]⟩,ty,pos,af,gd⟩).run P w=.ok nx w3) :
  ∃v,nx=.value v/\(v=.int .i64 c/\w3=w):=by
 rw[nK (s:=λv=>Builtin.cap_ #[t0] ty #[v]) λ_ v=>rfl,d] at h;obtain⟨v,rfl,a⟩:=kg h;refine⟨v,rfl, ?_⟩;have:(Builtin.cap_ #[t0] ty #[.slice A n c]).run P w=.ok (.int .i64 c) w:=by
  simp[Builtin.cap_,lm b,goInt]
 rw[this] at a;cases a;exact⟨rfl,rfl⟩
include F in
theorem atJ{t:Tmp}(h:(execOp e ⟨dst,.call ⟨.builtin .len,#[.tmp t],#[9]⟩,ty,pos,af,gd⟩).run P w=.ok nx w3) :
  ∃v,nx=.value v/\(∃s:ByteArray,e (.tmp t)=.string s/\v=.int .i64 s.size/\w3=w):=by
 rw[nK (s:=λv=>Builtin.len_ #[9] ty #[v]) λ_ v=>rfl] at h;obtain⟨v,rfl,a⟩:=kg h;refine⟨v,rfl, ?_⟩;generalize e (.tmp t)=u at a ⊢;cases u with
 |string s=>
  have:(Builtin.len_ #[9] ty #[.string s]).run P w=.ok (.int .i64 s.size) w:=by
   simp[Builtin.len_,lm F.u9,goInt]
  rw[this] at a;cases a;exact⟨s,rfl,rfl,rfl⟩
 |_=>simp[Builtin.len_,lm F.u9,stuck] at a
theorem aak{a:TypeDesc}(b:P.underlying t=some a):Leaves P (λd=>d=a) (underlying t):=by
 unfold underlying;show Leaves P (λd=>d=a) (match P.underlying t with
  |some d=>pure d
  |none=>stuck "no such type")
 rw[b];exact rfl
theorem atK(a:P.underlying t=some (.struct V)):(isAgg t).run P w=.ok true w:=by simp[isAgg,lm a]
theorem aiU(a:P.underlying t=some d)(b:aiS d=true):(isAgg t).run P w=.ok false w:=by
 cases d<;>first|(cases b;done)|simp[isAgg,lm a]
theorem aeB(b:NoV P w A)(h:(load A).run P w=.ok v w3):w3=w/\w.cell? A=some v:=by
 have h:(Sem.load .plain A Sem.pure).run P w=.ok v w3:=h;unfold Sem.run at h;cases a:w.cell? A with
 |some u=>
  simp only[a,Sem.run,rO] at h;exact⟨h.2.symm,by rw[h.1]⟩
 |none=>
  obtain⟨e,c⟩:=(b.2 a).1 (Mode.plain ==.atomic);simp only[a,c] at h;cases h
theorem ahu(j:P.underlying t=some d)(i:aiS d=true)(l:e x=.pointer (some A))(m:NoV P w A)(h:(execOp e ⟨dst,.load t x,ty,pos,af,gd⟩).run P w=.ok nx w3) :
  ∃v,nx=.value v/\(w.cell? A=some v/\w3=w):=by
 obtain⟨v,rfl,g⟩:=kg (s:=Instr.loadAt t (e x)) h;refine⟨v,rfl, ?_⟩;rw[l] at g;obtain⟨q,r,a,k⟩:=dF (s:=isAgg t) (f:=λb=>if b then(sizeOf t).bind λn=>(loadCells A n).bind λc=>Sem.pure (Value.agg c) else load A) g;rw[aiU j i] at a;cases a;obtain⟨o,p⟩:=aeB m k;exact⟨p,o⟩
theorem aiV{i:TypeInfo}(D:P.underlying t=some (.struct V))(F:P.info? t=some i)(B:i.size=2)(G:e x=.pointer (some A))(J:NoV P w A)(k:NoV P w (A.add 1))(h:(execOp e ⟨dst,.load t x,ty,pos,af,gd⟩).run P w=.ok nx w3) :
  ∃v,nx=.value v/\(∃d a,v=.agg #[d,a]/\w.cell? A=some d/\w.cell? (A.add 1)=some a/\w3=w):=by
 obtain⟨v,rfl,u⟩:=kg (s:=Instr.loadAt t (e x)) h;refine⟨v,rfl, ?_⟩;rw[G] at u;obtain⟨q,g,p,E⟩:=dF (s:=isAgg t) (f:=λb=>if b then(sizeOf t).bind λn=>(loadCells A n).bind λc=>Sem.pure (Value.agg c) else load A) u;rw[atK D] at p;cases p;obtain⟨n,g,r,z⟩:=dF (s:=sizeOf t) (f:=λn=>(loadCells A n).bind λc=>Sem.pure (Value.agg c)) E;have:(sizeOf t).run P w=.ok 2 w:=by simp[sizeOf,typeInfo,F,B]
 rw[this] at r;cases r;obtain⟨c,g,H,y⟩:=dF (s:=loadCells A 2) (f:=λc=>Sem.pure (Value.agg c)) z;cases(show Result.ok (.agg c) g=Result.ok v w3 from y);obtain⟨d,L,C,I⟩:=dF (s:=load (A.add 0)) (f:=λd=>(load (A.add 1)).bind λa=>Sem.pure #[d,a]) H;obtain⟨rfl,l⟩:=aeB J C;obtain⟨a,K,o,m⟩:=dF (s:=load (A.add 1)) (f:=λa=>Sem.pure #[d,a]) I;obtain⟨rfl,j⟩:=aeB k o;cases(show Result.ok #[d,a] _=Result.ok c _ from m);exact⟨d,a,rfl,l,j,rfl⟩
theorem abv{g:Field}{f:Nat}(i:P.underlying t=some (.struct V))(c:V[f]?=some g)(j:P.underlying g.type=some d)(b:aiS d=true)(l:e x=.agg cs)(k:cs[g.offset]?=some u)(h:(execOp e ⟨dst,.field t x f,ty,pos,af,gd⟩).run P w=.ok nx w3) :
  ∃v,nx=.value v/\(v=u/\w3=w):=by
 obtain⟨v,rfl,a⟩:=kg (s:=Instr.field t (e x) f) h;refine⟨v,rfl, ?_⟩;rw[l] at a;have:(Instr.field t (.agg cs) f).run P w=.ok u w:=by
  simp[Instr.field,lm i,c,asAgg,part,aiU j b,k]
 rw[this] at a;cases a;exact⟨rfl,rfl⟩
theorem abw{i:TypeInfo}{A:Option Addr}{k : Nat}(f:P.underlying t=some (.slice X))(l:P.info? X=some i)(m:e x=.slice A n c)(j:e y=.int .i64 k)(o:k<n)(h:(execOp e ⟨dst,.indexAddr t x y,ty,pos,af,gd⟩).run P w=.ok nx w3) :
  ∃v,nx=.value v/\(∃a,A=some a/\v=.pointer (some (a.add (k*i.size)))/\w3=w):=by
 obtain⟨v,rfl,b⟩:=kg (s:=Instr.indexAt t (e x) (e y)) h;refine⟨v,rfl, ?_⟩;rw[m,j] at b;have p:(0:Int)<=k/\(k:Int)<n:=by omega
 cases A with
 |none=>
  exfalso;have hd:js P (Instr.indexAt t (.slice none n c) (.int .i64 k)):=by
   unfold Instr.indexAt;refine Leaves.bind (A:=λq=>q=(IntKind.i64,(k:Int))) rfl λq g=> ?_;subst g;refine Leaves.bind (aak f) λd hd=> ?_;subst hd;refine Leaves.bind (s:=Sem.pure (none,n,X)) (A:=λq=>q=(none,n,X)) rfl λq g=> ?_;subst g;exact Leaves.bind (aak f) λd hd=>aiT _ _ _ _
  exact atI hd b
 |some a=>
  have:(Instr.indexAt t (.slice (some a) n c) (.int .i64 k)).run P w=.ok (.pointer (some (a.add (k*i.size)))) w:=by
   simp[Instr.indexAt,asIntOf,lm f,o,sizeOf,typeInfo,l]
  rw[this] at b;cases b;exact⟨a,rfl,rfl,rfl⟩
end
def ak1:Value->Bool
 |.agg _|.tuple _=>false
 |_=>true
section
variable {P:Program} (F:FaT P) {w w3:World} {e:Operand->Value} {x y:Operand} {nx:Next} {dst:Option Tmp} {ty:TypeId} {pos:String} {af:Array Edge} {gd:Option (Nat×Bool)}
def acr{c : Value}(b:ak1 u=true)(f:w.cell? A=some c)(d:w.frozen? A=false)(k:Sem S):(Sem.store .plain A u k).run P w=k.run P (w.setCell A u):=by
 have a:(∀x,u ≠ .agg x)/\∀x,u ≠ .tuple x:=⟨λx e=>(by subst e;cases b),λx e=>(by subst e;cases b)⟩;rw[<-qE _ _ _ #[],rB _ _ _ _ _ _ _ a.1 a.2];simp only[f,d,fd,qc];rw[qE]
def aqP :A.add 1≠A:=by
 unfold Addr.add;intro e;have:=fa Addr.off e;simp at this
include F in
theorem aot{c1 : Value}(k:ak1 u0=true)(r:ak1 u1=true)(o:e x=.pointer (some A))(j:e y=.agg #[u0,u1])(a:w.cell? A=some c0)(d:w.frozen? A=false)(f:w.cell? (A.add 1)=some c1)(b:w.frozen? (A.add 1)=false) :
  (execOp e ⟨dst,.store 216 x y,ty,pos,af,gd⟩).run P w=.ok .skip ((w.setCell A u0).setCell (A.add 1) u1):=by
 obtain⟨i,m,t, -⟩:=F.i258;have p:(storeCells A [u0,u1] 0).run P w=.ok () ((w.setCell A u0).setCell (A.add 1) u1):=by
  show(Sem.store .plain (A.add 0) u0 (Sem.store .plain (A.add 1) u1 (Sem.pure ()))).run P w=_;have g:A.add 0=A:=by unfold Addr.add;simp
  rw[g,acr k a d,acr r (c:=c1) (by rw[tj _ _ _ _ (λe=>aqP e.symm)];exact f) (by rw[tY];exact b)];rfl
 have s:(storeVar 216 A (.agg #[u0,u1])).run P w=.ok () ((w.setCell A u0).setCell (A.add 1) u1):=by
  have l:(sizeOf 216).run P w=.ok 2 w:=by simp[sizeOf,typeInfo,m,t]
  unfold storeVar;show((sizeOf 216).bind λn=>if(Value.agg #[u0,u1]).cells.size≠n then stuck _ else storeCells A (Value.agg #[u0,u1]).cells.toList 0).run P w=_;rw[qm,l];exact p
 have:execOp e ⟨dst,.store 216 x y,ty,pos,af,gd⟩=(Instr.storeAt 216 (e x) (e y)).bind λ_=>Sem.pure .skip:=rfl;rw[this,o,j,qm];have q:(Instr.storeAt 216 (.pointer (some A)) (.agg #[u0,u1])).run P w=.ok () ((w.setCell A u0).setCell (A.add 1) u1):=s;rw[q];rfl
include F in
theorem aou(j:∃a n c,u=.slice a n c)(o:e x=.pointer (some A))(g:e y=u)(b:w.cell? A=some c0)(d:w.frozen? A=false) :
  (execOp e ⟨dst,.store 205 x y,ty,pos,af,gd⟩).run P w=.ok .skip (w.setCell A u):=by
 obtain⟨i,l,s, -⟩:=F.i247;obtain⟨a,n,c,rfl⟩:=j;have p:(storeCells A [.slice a n c] 0).run P w=.ok () (w.setCell A (.slice a n c)):=by
  show(Sem.store .plain (A.add 0) (.slice a n c) (Sem.pure ())).run P w=_;have f:A.add 0=A:=by unfold Addr.add;simp
  rw[f,acr rfl b d];rfl
 have r:(storeVar 205 A (.slice a n c)).run P w=.ok () (w.setCell A (.slice a n c)):=by
  have k:(sizeOf 205).run P w=.ok 1 w:=by simp[sizeOf,typeInfo,l,s]
  unfold storeVar;show((sizeOf 205).bind λm=>if(Value.slice a n c).cells.size≠m then stuck _ else storeCells A (Value.slice a n c).cells.toList 0).run P w=_;rw[qm,k];exact p
 have:execOp e ⟨dst,.store 205 x y,ty,pos,af,gd⟩=(Instr.storeAt 205 (e x) (e y)).bind λ_=>Sem.pure .skip:=rfl;rw[this,o,g,qm];have q:(Instr.storeAt 205 (.pointer (some A)) (.slice a n c)).run P w=.ok () (w.setCell A (.slice a n c)):=r;rw[q];rfl
include F in
theorem aqQ:(execOp e ⟨dst,.alloc 205,ty,pos,af,gd⟩).run P w=.ok (.value (.pointer (some ⟨w.heap.size,0,none⟩))) (w.alloc (.cells #[.slice none 0 0] 205)):=by
 obtain⟨i,b,c,a⟩:=F.i247;have:execOp e ⟨dst,.alloc 205,ty,pos,af,gd⟩=(Instr.alloc 205 true (.tuple #[])).bind λv=>Sem.pure (.value v):=rfl;rw[this,qm];have:(Instr.alloc 205 true (.tuple #[])).run P w=.ok (.pointer (some ⟨w.heap.size,0,none⟩)) (w.alloc (.cells #[.slice none 0 0] 205)):=by
  simp[Instr.alloc,zeroValue,typeInfo,b,a,newVar,newRow,Value.cells]
 rw[this];rfl
include F in
theorem anf(t:(n:Int)<=2147483647)(o:e x=.int .i64 n):∃c:Array Value,c.size=2*n/\(execOp e ⟨dst,.makeSlice 205 x x,ty,pos,af,gd⟩).run P w=.ok (.value (.slice (some ⟨w.heap.size,0,none⟩) n n)) (w.alloc (.cells c 216)):=by
 obtain⟨i,a,r,g,p⟩:=F.i258;have k:IntKind.i64.wrap (n:Int)=n:=by
  unfold IntKind.wrap;simp[IntKind.signed,IntKind.bits];omega
 have q:¬(n:Int)<0:=by omega
 have s:¬(2:Int) ^ 48<24*n:=by omega
 have:execOp e ⟨dst,.makeSlice 205 x x,ty,pos,af,gd⟩=(Instr.makeSlice 205 (e x) (e x)).bind λv=>Sem.pure (.value v):=rfl;rw[this,o];have l:¬(281474976710656:Int)<24*n:=by omega
 have j:∀w,(sizeOf 216).run P w=.ok 2 w:=λw=>by simp[sizeOf,typeInfo,a,r]
 have d:∀m:Nat,(askRoom m).run P w=.ok () w:=λm=>by
  unfold askRoom;split<;>rfl
 by_cases f:n=0
 .subst f;refine⟨(Array.range 0).map λ_=>default,by simp, ?_⟩;rw[qm];have:(Instr.makeSlice 205 (.int .i64 (0:Nat)) (.int .i64 (0:Nat))).run P w=.ok (.slice (some ⟨w.heap.size,0,none⟩) 0 0) (w.alloc (.cells ((Array.range 0).map λ_=>default) 216)):=by
   simp[Instr.makeSlice,lm F.ahr,asInt,asIntOf,typeInfo,a,g,d,j,newRow,(show IntKind.i64.wrap 0=0 by decide)]
  rw[this];rfl
 .refine⟨(Array.range (n*2)).map λi=>(#[.string ⟨#[]⟩,.bool false]:Array Value)[i % 2]!,by simp;omega, ?_⟩;rw[qm];have:(Instr.makeSlice 205 (.int .i64 n) (.int .i64 n)).run P w=.ok (.slice (some ⟨w.heap.size,0,none⟩) n n) (w.alloc (.cells ((Array.range (n*2)).map λi=>(#[.string ⟨#[]⟩,.bool false]:Array Value)[i % 2]!) 216)):=by
   have b:∀w,(zeroValue 216).run P w=.ok (.agg #[.string ⟨#[]⟩,.bool false]) w:=λw=>by simp[zeroValue,typeInfo,a,p]
   simp[Instr.makeSlice,lm F.ahr,asInt,asIntOf,typeInfo,a,g,k,q,l,d,j,b,newRow,f,Value.cells];intro h;omega
  rw[this];rfl
end
def eW(h:w.cell? A=some v):A.block<w.heap.size:=by
 unfold World.cell? at h;cases a:w.heap[A.block]? with
 |none=>rw[a] at h;simp at h
 |some o=>exact(de.1 a).1
structure Cx where
 R:List Frame->World->Prop
 c0:Cfg
 gR:Ren
 w0:World
 y:Frame
 ys:List Frame
def At(X:Cx)(T:Array Value)(k:List Item)(w:World):Prop:=45<=T.size/\∃c a,gj true X.R X.c0 X.gR X.w0 c a (FQ cf T k::X.y::X.ys) w
structure Tm (M:List Nat) (T T':Array Value):Prop where
 size:T'.size=T.size
 same:∀t,M.contains t=false->T'.getD t undef=T.getD t undef
def Tm.refl(M:List Nat)(T:Array Value):Tm M T T:=⟨rfl,λ_ _=>rfl⟩
def Tm.trans(h:Tm O T T')(k:Tm O T' Y):Tm O T Y:=⟨k.size.trans h.size,λt a=>(k.same t a).trans (h.same t a)⟩
def Tm.mono(h:Tm O T T')(b:∀t,O.contains t=true->l.contains t=true):Tm l T T':=⟨h.size,λt a=>h.same t (by
 cases e:O.contains t with
 |false=>rfl
 |true=>rw[b t e] at a;cases a)⟩
def Tm.sw{d:Nat}(h:Tm [d] T T')(b:cH.contains d=true):Tm cH T T':=h.mono λt a=>by
 simp at a;subst a;exact b
def Tm.one{d:Nat}(b:T'.size=T.size)(h:∀t,t≠d->T'.getD t undef=T.getD t undef):Tm [d] T T':=⟨b,λt a=>h t λe=>by subst e;simp at a⟩
def aeC{n:Tmp}{ty : TypeId}{dst:Option Tmp}{pos:String}(f:e (.tmp n)=.tuple #[]):∀c a,(execOp e ⟨dst,.load t (.tmp n),ty,pos,af,gd⟩).run P w ≠ .ok c a:=λc a g=>by
 obtain⟨v,d,b,i⟩:=dF (s:=Instr.loadAt t (e (.tmp n))) g;rw[f] at b;cases(show Result.halt _ _=Result.ok v d from b)
section
variable {X:Cx} {T:Array Value} {k:List Item} {w w2:World}
def At.go(h:At X T k w)(b:∀base,stepG (ah true) true (Gl (FQ cf T k::X.y::X.ys) base) w=.go (Gl (FQ cf T k2::X.y::X.ys) base) w2 es):At X T k2 w2:=
 let⟨e,_,_,h⟩:=h;let⟨d,c,a,_,_⟩:=h.go rfl true b;⟨e,d,c,a⟩
def At.seq{a b:Code}(h:At X T (.code (.seq a b)::k) w):At X T (.code a :: .code b::k) w:=h.go (es:=#[]) λbase=>by simp[Gl,stepG,stepG.exec]
def At.region{id:Nat}(a:List.range Z.size=l)(h:At X T (.code (.region id Z false)::k) w):At X T (.inRegion Z l::k) w:=h.go (es:=#[]) λbase=>by subst a;simp[Gl,stepG,stepG.exec]
def At.iz(h:At X T (.inRegion Z []::k) w):At X T k w:=h.go (es:=#[]) λbase=>by simp[Gl,stepG,stepG.exec]
def AtL(X:Cx)(T:Array Value)(k:List Item)(w:World):Prop:=45<=T.size/\∃c a,gj true X.R X.c0 X.gR X.w0 c a (FQ cf T k::X.y::X.ys) w/\gQ (ah true) c X.c0
def At.ayC(h:At X T (.inRegion Z []::k) w):AtL X T k w:=
 let⟨e,_,_,h⟩:=h;let⟨d,c,b,a,_⟩:=h.go (w2:=w) (x2:=FQ cf T k) (xs2:=X.y::X.ys) (es:=#[]) rfl true λbase=>by simp[Gl,stepG,stepG.exec]
 ⟨e,d,c,b,a⟩
def At.skip(h:At X T (.code .skip::k) w):At X T k w:=h.go (es:=#[]) λbase=>by simp[Gl,stepG,stepG.exec]
def At.cond{t:Tmp}{a b:Code}(d:T.getD t undef=.bool q)(h:At X T (.code (.cond (.tmp t) a b)::k) w):At X T (.code (if q then a else b)::k) w:=h.go (es:=#[]) λbase=>by
 have c:Frame.eval (FQ cf T (.code (.cond (.tmp t) a b)::k)) (.tmp t)=.bool q:=d;simp[Gl,stepG,stepG.exec,c]
def At.block{id:Nat}{a:Code}(h:At X T (.code (.block id a)::k) w):At X T (.code a :: .inBlock id::k) w:=h.go (es:=#[]) λbase=>by simp[Gl,stepG,stepG.exec]
def At.loop{a:Code}(h:At X T (.code (.loop a)::k) w):At X T (.code a :: .inLoop a::k) w:=h.go (es:=#[]) λbase=>by simp[Gl,stepG,stepG.exec]
def At.again{a:Code}(h:At X T (.inLoop a::k) w):At X T (.code a :: .inLoop a::k) w:=h.go (es:=#[]) λbase=>by simp[Gl,stepG,stepG.exec]
def At.exit{id:Nat}(a:exitTo id k=some k2)(h:At X T (.code (.exit id)::k) w):At X T k2 w:=h.go (es:=#[]) λbase=>by simp[Gl,stepG,stepG.exec,a]
def At.no(h:At X T (.code (.refuse "")::k) w):False:=by
 obtain⟨a,c,b,h⟩:=h;exact h.no rfl true (o:=_) (w2:=w) (by simp only[Gl,stepG,stepG.exec];rfl)
def At.iK    {d:Tmp} {Φ:Value->World->Prop} (h:At X T (.inRegion Z (i::rest)::k) w) (A:Z[i]?=some o) (y:o.guard=none) (s:o.dst=some d) (l:d<45)
  (a:∀m j,(execOp (FQ cf T (.inRegion Z (i::rest)::k)).eval o).run (ah true) w=.ok m j->∃v,m=.value v/\Φ v j) :
  ∃v b n,Φ v b/\Tm [d] T n/\n.getD d undef=v/\At X n (.inRegion Z rest::k) b:=by
 obtain⟨f,c,D,h⟩:=h;obtain⟨v,b,z,C,q,r, -⟩:=h.op A y λm j g=>.inl (let⟨v,e,_⟩:=a m j g;⟨v,e⟩);have p:Φ v b:=by
  rcases q with g|⟨g, -⟩
  .obtain⟨u,e,B⟩:=a _ _ g;cases e;exact B
  .obtain⟨u,e, -⟩:=a _ _ g;cases e
 rw[s] at r;replace l:d<T.size:=aE l f;exact⟨v,b,_,p,.one (by simp) (λt x=>by rw[aG l,bd x]),by rw[aG l,dl rfl],by simpa using f,z,C,r⟩
def At.opk    (h:At X T (.inRegion Z (i::rest)::k) w) (j:Z[i]?=some o) (l:o.guard=none) (g:o.dst=none)
  (b:(execOp (FQ cf T (.inRegion Z (i::rest)::k)).eval o).run (ah true) w=.ok .skip w2):At X T (.inRegion Z rest::k) w2:=by
 obtain⟨d,c,q,h⟩:=h;obtain⟨v,p,n,m,e,f, -⟩:=h.op j l λs r a=>.inr (by rw[b] at a;cases a;rfl);rw[g] at f;rcases e with a|⟨a, -⟩
 .rw[b] at a;cases a
 .rw[b] at a;cases a;exact⟨d,n,m,f⟩
def At.noV    {t:Tmp} (h:At X T (.inRegion Z (i::rest)::k) w) (g:Z[i]?=some o) (m:o.guard=none) (b:pj gA gL o.op=false) (e:T.getD t undef=.pointer (some A))
  (d:∀(e:Operand->Value) (w:World),e (.tmp t)=.tuple #[]->∀p j,(execOp e o).run (ah true) w ≠ .ok p j):NoV (ah true) w A/\NoV (ah true) w (A.add 1):=by
 obtain⟨l,c,q,h⟩:=h;obtain⟨x,f,n⟩:=h.aor g m b t d;rw[e] at f;cases f with
 |pointer a=>cases a with
  |some a=>exact⟨h.wr.noV a,h.wr.noV (a.add 1)⟩
 |fc=>exact absurd rfl n
def At.ayD{g:Nat}(b:g∈gL)(h:At X T k w):NoV (ah true) w ⟨g,0,none⟩:=by
 obtain⟨a,c,d,h⟩:=h;exact h.wr.noV (.mk (h.gl g b) 0 none)
def At.chk{t:Tmp}(a:T.getD t undef=.bool q)(h:At X T (.code (.cond (.tmp t) (.refuse "") .skip)::k) w):q=false/\At X T k w:=by
 have h:=h.cond a;cases q with
 |true=>exact(h.no).elim
 |false=>exact⟨rfl,h.skip⟩
def At.awP{t:Tmp}(a:T.getD t undef=.bool q)(h:At X T (.code (.cond (.tmp t) .skip (.refuse ""))::k) w):q=true/\At X T k w:=by
 have h:=h.cond a;cases q with
 |false=>exact(h.no).elim
 |true=>exact⟨rfl,h.skip⟩
end
def In_(x:Int):Prop:= -9223372036854775808<=x/\x<=9223372036854775807
def aaN{x:Int}(h:(IntKind.i64.wrap (x*1) ==x)=true):In_ x:=by
 rw[mx] at h;unfold IntKind.wrap at h;simp[IntKind.signed,IntKind.bits] at h;unfold In_;omega
def aeD(h:(n:Int)<9223372036854775807):IntKind.i64.wrap ((n:Int)+1)=((n+1:Nat):Int):=by
 unfold IntKind.wrap;simp[IntKind.signed,IntKind.bits];omega
def ei{a b:Int}(h:decide (a<b)=false):b<=a:=by simpa using h
structure ahv (w:World) (B:Option Addr) (i:Nat) (x:Int×ByteArray):Prop where
 c:∃a,B=some a/\w.cell? (a.add (i*2))=some (.int .i64 x.1)/\w.cell? ((a.add (i*2)).add 1)=some (.string x.2)
 i:In_ x.1
 s:(x.2.size:Int)<=9223372036854775807
def RdI(w:World)(B:Option Addr)(j:Nat)(l:List (Int×ByteArray)):Prop:=∀i x,l[i]?=some x->ahv w B (j+i) x
abbrev inC(k:List Item):List Item:=.inLoop aaC :: .inBlock 52::k
abbrev mI:List Nat:=[4,5,9,10,11,13,15,26,25,22]
def Tm.mi{d:Nat}(h:Tm [d] T T')(b:mI.contains d=true):Tm mI T T':=h.mono λt a=>by
 simp at a;subst a;exact b
section
variable {X:Cx} {T:Array Value} {k:List Item} {w:World}
def At.ayE{m : Nat}(h:At X T (.code aaC::inC k) w)(W:T.getD 27 undef=.slice B m c)(iy:T.getD 28 undef=.int .i64 m)(n:T.getD 5 undef=.int .i64 j)(hj:j<=m)(hm:(m:Int)<=9223372036854775807) :
  (j=m/\∃T',Tm mI T T'/\At X T' k w)\/(j<m/\∃x T',ahv w B j x/\Tm mI T T'/\T'.getD 5 undef=.int .i64 (j+1:Nat)/\At X T' (.code aaC::inC k) w):=by
 have o:=Tm.refl mI T;unfold Go.Proofs.YtblbaiejjagdoaaGreatDoor.aaC at h;have h:=h.seq;replace h:=h.region (l:=[0]) rfl;obtain⟨v,A,T1,⟨g,f⟩,m,s4,b⟩:=h.iK (d:=4) (Φ:=λv i=>v=.bool (decide ((j:Int)<m))/\i=w) rfl rfl rfl (by decide) λy i q=>fG (by exact n) (by exact iy) q;rw[g] at s4;rw[f] at b;clear g f;replace n:=(m.same 5 rfl).trans n;replace W:=(m.same 27 rfl).trans W;replace o:=o.trans (m.mi rfl);clear m;replace h:=b;clear b;replace h:=h.iz.seq.cond s4;by_cases F:(j:Int)<m
 .right;rw[dq F] at h;simp only[mT] at h;replace h:=h.skip.seq.seq;replace h:=h.region (l:=[0,1,2,3,4]) rfl;obtain⟨ii,hi,hz⟩:=(faQ true).i110;obtain⟨fs,g0,g1,O,U,Y,Z,V,Q,M⟩:=(faQ true).atE;obtain⟨v,A,T2,⟨a,hB,g,f⟩,m,R,b⟩:=h.iK (d:=9) (Φ:=λv i=>∃a,B=some a/\v=.pointer (some (a.add (j*ii.size)))/\i=w) rfl rfl rfl (by decide) λy i q=>abw (faQ true).u38 hi (by exact W) (by exact n) (by omega) q;rw[g,hz] at R;rw[f] at b;clear g f;replace n:=(m.same 5 rfl).trans n;replace o:=o.trans (m.mi rfl);clear m;replace h:=b;clear b;have hv:=h.noV (t:=9) rfl rfl rfl R (λe w he=>aeC he);obtain⟨v,A,T3,⟨E,C,g,L,a1,f⟩,m,r,b⟩:=h.iK (d:=10) (Φ:=λv i=>∃E C,v=.agg #[E,C]/\w.cell? (a.add (j*2))=some E/\w.cell? ((a.add (j*2)).add 1)=some C/\i=w) rfl rfl rfl (by decide) λy i q=>aiV O hi hz (by exact R) hv.1 hv.2 q;rw[g] at r;rw[f] at b;clear g f;replace n:=(m.same 5 rfl).trans n;replace o:=o.trans (m.mi rfl);clear m;replace h:=b;clear b;obtain⟨v,A,T4,⟨g,f⟩,m,u,b⟩:=h.iK (d:=11) (Φ:=λv i=>v=E/\i=w) rfl rfl rfl (by decide) λy i q=>abv O U (by rw[V];exact(faQ true).u3) rfl (by exact r) (by rw[Z];rfl) q;rw[g] at u;rw[f] at b;clear g f;replace n:=(m.same 5 rfl).trans n;replace r:=(m.same 10 rfl).trans r;replace o:=o.trans (m.mi rfl);clear m;replace h:=b;clear b;obtain⟨v,A,T5,⟨z,P,g,f⟩,m,I,b⟩:=h.iK (d:=13) (Φ:=λv i=>∃z,E=.int .i64 z/\v=.int .i64 (IntKind.i64.wrap (z*1))/\i=w) rfl rfl rfl (by decide) λy i q=>let⟨v,J,z,D,H,N⟩:=akX q rfl;⟨v,J,z,u.symm.trans D,H,N⟩
  rw[g] at I;rw[f] at b;clear g f;replace n:=(m.same 5 rfl).trans n;replace r:=(m.same 10 rfl).trans r;replace u:=(m.same 11 rfl).trans u;replace o:=o.trans (m.mi rfl);clear m;replace h:=b;clear b;subst P;obtain⟨v,A,T6,⟨g,f⟩,m,p,b⟩:=h.iK (d:=15) (Φ:=λv i=>v=.bool (IntKind.i64.wrap (z*1) ==z)/\i=w) rfl rfl rfl (by decide) λy i q=>akZ (by exact I) (by exact u) q;rw[g] at p;rw[f] at b;clear g f;replace n:=(m.same 5 rfl).trans n;replace r:=(m.same 10 rfl).trans r;replace o:=o.trans (m.mi rfl);clear m;replace h:=b;clear b;obtain⟨hq,b⟩:=h.iz.awP p;replace h:=b.seq.seq;clear b;replace h:=h.region (l:=[0,1,2]) rfl;obtain⟨v,A,T7,⟨g,f⟩,m,G,b⟩:=h.iK (d:=26) (Φ:=λv i=>v=C/\i=w) rfl rfl rfl (by decide) λy i q=>abv O Y (by rw[M];exact(faQ true).u9) rfl (by exact r) (by rw[Q];rfl) q;rw[g] at G;rw[f] at b;clear g f;replace n:=(m.same 5 rfl).trans n;replace p:=(m.same 15 rfl).trans p;replace o:=o.trans (m.mi rfl);clear m;replace h:=b;clear b;obtain⟨v,A,T8,⟨s,S,g,f⟩,m,K,b⟩:=h.iK (d:=25) (Φ:=λv i=>∃s:ByteArray,C=.string s/\v=.int .i64 s.size/\i=w) rfl rfl rfl (by decide) λy i q=>let⟨v,J,z,D,H,N⟩:=atJ (faQ true) q;⟨v,J,z,G.symm.trans D,H,N⟩
  rw[g] at K;rw[f] at b;clear g f;replace n:=(m.same 5 rfl).trans n;replace p:=(m.same 15 rfl).trans p;replace o:=o.trans (m.mi rfl);clear m;replace h:=b;clear b;subst S;clear p;obtain⟨v,A,T9,⟨g,f⟩,m,p,b⟩:=h.iK (d:=15) (Φ:=λv i=>v=.bool (decide ((9223372036854775807:Int)<s.size))/\i=w) rfl rfl rfl (by decide) λy i q=>fG rfl (by exact K) q;rw[g] at p;rw[f] at b;clear g f;replace n:=(m.same 5 rfl).trans n;replace o:=o.trans (m.mi rfl);clear m;replace h:=b;clear b;obtain⟨a0,b⟩:=h.iz.chk p;replace h:=b.region (l:=[0,1]) rfl;clear b;obtain⟨v,A,a3,⟨g,f⟩,m,nt,b⟩:=h.iK (d:=22) (Φ:=λv i=>v=.int .i64 (IntKind.i64.wrap ((j:Int)+1))/\i=w) rfl rfl rfl (by decide) λy i q=>akY (by exact n) rfl q;rw[g] at nt;rw[f] at b;clear g f;replace n:=(m.same 5 rfl).trans n;replace o:=o.trans (m.mi rfl);clear m;replace h:=b;clear b;clear n;obtain⟨v,A,a2,⟨g,f⟩,m,n,b⟩:=h.iK (d:=5) (Φ:=λv i=>v=.int .i64 (IntKind.i64.wrap ((j:Int)+1))/\i=w) rfl rfl rfl (by decide) λy i q=>let⟨v,J,D,H⟩:=ahs q;⟨v,J,D.trans nt,H⟩
  rw[g] at n;rw[f] at b;clear g f;replace o:=o.trans (m.mi rfl);clear m;replace h:=b;clear b;rw[aeD (by omega)] at n;exact⟨by omega,(z,s),_,⟨⟨a,hB,L,a1⟩,aaN hq,ei a0⟩,o,n,h.iz.again⟩
 .left;rw[da F] at h;simp only[fd,qc] at h;exact⟨by omega,_,o,h.exit rfl⟩
def At.avE{B:Option Addr}{m c:Nat}(g:(m:Int)<=9223372036854775807):∀(n j:Nat) {T:Array Value},m=j+n->At X T (.code Go.Proofs.YtblbaiejjagdoaaGreatDoor.aaC::inC k) w->T.getD 27 undef=.slice B m c->T.getD 28 undef=.int .i64 m->T.getD 5 undef=.int .i64 j->
  ∃l T',l.length=n/\RdI w B j l/\Tm mI T T'/\At X T' k w
 |0,j,T,e,h,iq,iy,s5=>by
  rcases h.ayE iq iy s5 (by omega) g with⟨_,T',u,t⟩|⟨d,_⟩
  .exact⟨[],T',rfl,λi x b=>by simp at b,u,t⟩
  .omega
 |n+1,j,T,e,h,iq,iy,s5=>by
  rcases h.ayE iq iy s5 (by omega) g with⟨A,_⟩|⟨d,x,z,s,a,o,v⟩
  .omega
  .obtain⟨l,T',p,r,f,q⟩:=At.avE g n (j+1) (by omega) v ((a.same 27 rfl).trans iq) ((a.same 28 rfl).trans iy) o;refine⟨x::l,T',by simp[p],λi y b=> ?_,a.trans f,q⟩;cases i with
   |zero=>simp at b;subst b;exact s
   |succ i=>
    have:=r i y (by simpa using b);have e:j+1+i=j+(i+1):=by omega
    rwa [e] at this
end
structure ayF (w:World) (A:Option Addr) (i:Nat) (x:Int×List (Int×ByteArray)):Prop where
 c:∃a B c,A=some a/\w.cell? (a.add (i*2))=some (.int .i64 x.1)/\w.cell? ((a.add (i*2)).add 1)=some (.slice B x.2.length c)/\1<=x.2.length/\x.2.length<=c/\(c:Int)<=9223372036854775807/\RdI w B 0 x.2
 i:In_ x.1
def RdP(w:World)(A:Option Addr)(j:Nat)(l:List (Int×List (Int×ByteArray))):Prop:=∀i x,l[i]?=some x->ayF w A (j+i) x
def Rgd(X:Cx)(b:Nat):Prop:=(∃a,X.gR.r a b)\/X.w0.heap.size<=b
def PkR(X:Cx)(w:World)(A:Option Addr)(i:Nat):Prop:=∀a b n c,A=some a->w.cell? ((a.add (i*2)).add 1)=some (.slice (some b) n c)->0<c->Rgd X b.block
abbrev inB(k:List Item):List Item:=.inLoop aaD :: .inBlock 51::k
def ayG(t:Nat)(h:mI.contains t=true):cH.contains t=true:=by
 simp only[mI,sH,List.contains_nil,uv,qs,mx] at h;rcases h with rfl|rfl|rfl|rfl|rfl|rfl|rfl|rfl|rfl|rfl<;>rfl
section
variable {X:Cx} {T:Array Value} {k:List Item} {w:World}
def adU{n:Tmp}{ty : TypeId}{dst:Option Tmp}{pos:String}(g:P.underlying t0=some (.slice t))(i:e (.tmp n)=.tuple #[]):∀d a,(execOp e ⟨dst,.call ⟨.builtin .len,#[.tmp n],#[t0]⟩,ty,pos,af,gd⟩).run P w ≠ .ok d a:=λd a f=>by
 obtain⟨v,_,A,m,c,b,_⟩:=aht g f;rw[i] at b;cases b
def At.atM    {t:Tmp} (h:At X T (.inRegion Z (i::rest)::k) w) (l:Z[i]?=some o) (r:o.guard=none) (b:pj gA gL o.op=false)
  (d:∀(e:Operand->Value) (w:World),e (.tmp t)=.tuple #[]->∀u m,(execOp e o).run (ah true) w ≠ .ok u m):∀a n c,T.getD t undef=.slice (some a) n c->0<c->a.block<w.heap.size:=λa n c e f=>by
 obtain⟨q,c,v,h⟩:=h;obtain⟨x,j,s⟩:=h.aor l r b t d;rw[e] at j;cases j with
 |slice g=>cases g with
  |some g=>obtain⟨p,_,_⟩:=g;exact(h.wr.lt p).2
 |empty=>exact absurd f (sB _)
 |fc=>exact absurd rfl s
def At.ahw    {t:Tmp} (h:At X T (.inRegion Z (i::rest)::k) w) (l:Z[i]?=some o) (r:o.guard=none) (b:pj gA gL o.op=false)
  (d:∀(e:Operand->Value) (w:World),e (.tmp t)=.tuple #[]->∀u m,(execOp e o).run (ah true) w ≠ .ok u m):∀a n c,T.getD t undef=.slice (some a) n c->0<c->Rgd X a.block:=λa n c e f=>by
 obtain⟨q,c,v,h⟩:=h;obtain⟨x,j,s⟩:=h.aor l r b t d;rw[e] at j;cases j with
 |slice g=>cases g with
  |some g=>
   obtain⟨p,_,_⟩:=g;exact(h.kept.new p).imp (λh=>⟨_,h⟩) (·.2)
 |empty=>exact absurd f (sB _)
 |fc=>exact absurd rfl s
def At.ayH{A:Option Addr}{c0 : Nat}(h:At X T (.code aaD::inB k) w)(s1:T.getD 1 undef=.slice A n c0)(D:T.getD 16 undef=.int .i64 n)(y:T.getD 20 undef=.int .i64 j)(hj:j<=n)(hm:(n:Int)<=9223372036854775807) :
  (j=n/\∃T',Tm cH T T'/\At X T' k w)\/(j<n/\∃x T',ayF w A j x/\PkR X w A j/\Tm cH T T'/\T'.getD 16 undef=.int .i64 n/\T'.getD 20 undef=.int .i64 (j+1:Nat)/\At X T' (.code aaD::inB k) w):=by
 have C:=Tm.refl cH T;unfold Go.Proofs.YtblbaiejjagdoaaGreatDoor.aaD at h;have h:=h.seq;replace h:=h.region (l:=[0]) rfl;obtain⟨v,K,ad,⟨r,q⟩,m,g,f⟩:=h.iK (d:=21) (Φ:=λv s=>v=.bool (decide ((j:Int)<n))/\s=w) rfl rfl rfl (by decide) λJ s E=>fG (by exact y) (by exact D) E;rw[r] at g;rw[q] at f;clear r q;replace s1:=(m.same 1 rfl).trans s1;replace D:=(m.same 16 rfl).trans D;replace y:=(m.same 20 rfl).trans y;replace C:=C.trans (m.sw rfl);clear m;replace h:=f;clear f;replace h:=h.iz.seq.cond g;by_cases U:(j:Int)<n
 .right;rw[dq U] at h;simp only[mT] at h;replace h:=h.skip.seq.seq;replace h:=h.region (l:=[0,1,2,3,4]) rfl;obtain⟨ii,hi,hz⟩:=(faQ true).i40;obtain⟨fs,g0,g1,hu,a7,a9,aa,a8,a5,a2⟩:=(faQ true).u40;obtain⟨v,K,ay,⟨a,hB,r,q⟩,m,i,f⟩:=h.iK (d:=23) (Φ:=λv s=>∃a,A=some a/\v=.pointer (some (a.add (j*ii.size)))/\s=w) rfl rfl rfl (by decide) λJ s E=>abw (faQ true).u23 hi (by exact s1) (by exact y) (by omega) E;rw[r,hz] at i;rw[q] at f;clear r q;replace s1:=(m.same 1 rfl).trans s1;replace D:=(m.same 16 rfl).trans D;replace y:=(m.same 20 rfl).trans y;replace g:=(m.same 21 rfl).trans g;replace C:=C.trans (m.sw rfl);clear m;replace h:=f;clear f;have hv:=h.noV (t:=23) rfl rfl rfl i (λe w he=>aeC he);obtain⟨v,K,af,⟨S,P,r,a1,a0,q⟩,m,o,f⟩:=h.iK (d:=24) (Φ:=λv s=>∃S P,v=.agg #[S,P]/\w.cell? (a.add (j*2))=some S/\w.cell? ((a.add (j*2)).add 1)=some P/\s=w) rfl rfl rfl (by decide) λJ s E=>aiV hu hi hz (by exact i) hv.1 hv.2 E;rw[r] at o;rw[q] at f;clear r q;replace s1:=(m.same 1 rfl).trans s1;replace D:=(m.same 16 rfl).trans D;replace y:=(m.same 20 rfl).trans y;replace g:=(m.same 21 rfl).trans g;replace i:=(m.same 23 rfl).trans i;replace C:=C.trans (m.sw rfl);clear m;replace h:=f;clear f;obtain⟨v,K,an,⟨r,q⟩,m,p,f⟩:=h.iK (d:=25) (Φ:=λv s=>v=S/\s=w) rfl rfl rfl (by decide) λJ s E=>abv hu a7 (by rw[a8];exact(faQ true).u3) rfl (by exact o) (by rw[aa];rfl) E;rw[r] at p;rw[q] at f;clear r q;replace s1:=(m.same 1 rfl).trans s1;replace D:=(m.same 16 rfl).trans D;replace y:=(m.same 20 rfl).trans y;replace g:=(m.same 21 rfl).trans g;replace i:=(m.same 23 rfl).trans i;replace o:=(m.same 24 rfl).trans o;replace C:=C.trans (m.sw rfl);clear m;replace h:=f;clear f;obtain⟨v,K,ao,⟨z,a3,r,q⟩,m,u,f⟩:=h.iK (d:=26) (Φ:=λv s=>∃z,S=.int .i64 z/\v=.int .i64 (IntKind.i64.wrap (z*1))/\s=w) rfl rfl rfl (by decide) λJ s E=>let⟨v,Z,z,O,W,a4⟩:=akX E rfl;⟨v,Z,z,p.symm.trans O,W,a4⟩
  rw[r] at u;rw[q] at f;clear r q;replace s1:=(m.same 1 rfl).trans s1;replace D:=(m.same 16 rfl).trans D;replace y:=(m.same 20 rfl).trans y;replace g:=(m.same 21 rfl).trans g;replace i:=(m.same 23 rfl).trans i;replace o:=(m.same 24 rfl).trans o;replace p:=(m.same 25 rfl).trans p;replace C:=C.trans (m.sw rfl);clear m;replace h:=f;clear f;subst a3;obtain⟨v,K,aD,⟨r,q⟩,m,G,f⟩:=h.iK (d:=22) (Φ:=λv s=>v=.bool (IntKind.i64.wrap (z*1) ==z)/\s=w) rfl rfl rfl (by decide) λJ s E=>akZ (by exact u) (by exact p) E;rw[r] at G;rw[q] at f;clear r q;replace s1:=(m.same 1 rfl).trans s1;replace D:=(m.same 16 rfl).trans D;replace y:=(m.same 20 rfl).trans y;replace g:=(m.same 21 rfl).trans g;replace i:=(m.same 23 rfl).trans i;replace o:=(m.same 24 rfl).trans o;replace p:=(m.same 25 rfl).trans p;replace u:=(m.same 26 rfl).trans u;replace C:=C.trans (m.sw rfl);clear m;replace h:=f;clear f;obtain⟨hq,f⟩:=h.iz.awP G;replace h:=f.seq.seq;clear f;replace h:=h.region (l:=[0,1,2,3]) rfl;obtain⟨v,K,al,⟨r,q⟩,m,H,f⟩:=h.iK (d:=27) (Φ:=λv s=>v=P/\s=w) rfl rfl rfl (by decide) λJ s E=>abv hu a9 (by rw[a2];exact(faQ true).u38) rfl (by exact o) (by rw[a5];rfl) E;rw[r] at H;rw[q] at f;clear r q;replace s1:=(m.same 1 rfl).trans s1;replace D:=(m.same 16 rfl).trans D;replace y:=(m.same 20 rfl).trans y;replace g:=(m.same 21 rfl).trans g;replace G:=(m.same 22 rfl).trans G;replace i:=(m.same 23 rfl).trans i;replace o:=(m.same 24 rfl).trans o;replace p:=(m.same 25 rfl).trans p;replace u:=(m.same 26 rfl).trans u;replace C:=C.trans (m.sw rfl);clear m;replace h:=f;clear f;have V:=h.ahw (t:=27) rfl rfl rfl λe w he=>adU (faQ true).u38 he;rw[H] at V;obtain⟨v,K,aM,⟨B,m,c,a6,r,q⟩,m,I,f⟩:=h.iK (d:=28) (Φ:=λv s=>∃B m c,P=.slice B m c/\v=.int .i64 m/\s=w) rfl rfl rfl (by decide) λJ s E=>let⟨v,Z,B,m,c,O,W,a4⟩:=aht (faQ true).u38 E;⟨v,Z,B,m,c,H.symm.trans O,W,a4⟩
  rw[r] at I;rw[q] at f;clear r q;replace s1:=(m.same 1 rfl).trans s1;replace D:=(m.same 16 rfl).trans D;replace y:=(m.same 20 rfl).trans y;replace g:=(m.same 21 rfl).trans g;replace G:=(m.same 22 rfl).trans G;replace i:=(m.same 23 rfl).trans i;replace o:=(m.same 24 rfl).trans o;replace p:=(m.same 25 rfl).trans p;replace u:=(m.same 26 rfl).trans u;replace H:=(m.same 27 rfl).trans H;replace C:=C.trans (m.sw rfl);clear m;replace h:=f;clear f;subst a6;obtain⟨v,K,aO,⟨r,q⟩,m,M,f⟩:=h.iK (d:=3) (Φ:=λv s=>v=.int .i64 c/\s=w) rfl rfl rfl (by decide) λJ s E=>ak0 (faQ true).u38 (by exact H) E;rw[r] at M;rw[q] at f;clear r q;replace s1:=(m.same 1 rfl).trans s1;replace D:=(m.same 16 rfl).trans D;replace y:=(m.same 20 rfl).trans y;replace g:=(m.same 21 rfl).trans g;replace G:=(m.same 22 rfl).trans G;replace i:=(m.same 23 rfl).trans i;replace o:=(m.same 24 rfl).trans o;replace p:=(m.same 25 rfl).trans p;replace u:=(m.same 26 rfl).trans u;replace H:=(m.same 27 rfl).trans H;replace I:=(m.same 28 rfl).trans I;replace C:=C.trans (m.sw rfl);clear m;replace h:=f;clear f;obtain⟨v,K,ax,⟨r,q⟩,m,L,f⟩:=h.iK (d:=4) (Φ:=λv s=>v=.bool (decide ((m:Int)<1))/\s=w) rfl rfl rfl (by decide) λJ s E=>fG (by exact I) rfl E;rw[r] at L;rw[q] at f;clear r q;replace s1:=(m.same 1 rfl).trans s1;replace M:=(m.same 3 rfl).trans M;replace D:=(m.same 16 rfl).trans D;replace y:=(m.same 20 rfl).trans y;replace g:=(m.same 21 rfl).trans g;replace G:=(m.same 22 rfl).trans G;replace i:=(m.same 23 rfl).trans i;replace o:=(m.same 24 rfl).trans o;replace p:=(m.same 25 rfl).trans p;replace u:=(m.same 26 rfl).trans u;replace H:=(m.same 27 rfl).trans H;replace I:=(m.same 28 rfl).trans I;replace C:=C.trans (m.sw rfl);clear m;replace h:=f;clear f;obtain⟨iL,f⟩:=h.iz.chk L;replace h:=f.seq.seq;clear f;replace h:=h.region (l:=[0]) rfl;clear L;obtain⟨v,K,aW,⟨r,q⟩,m,L,f⟩:=h.iK (d:=4) (Φ:=λv s=>v=.bool (decide ((9223372036854775807:Int)<c))/\s=w) rfl rfl rfl (by decide) λJ s E=>fG rfl (by exact M) E;rw[r] at L;rw[q] at f;clear r q;replace s1:=(m.same 1 rfl).trans s1;replace M:=(m.same 3 rfl).trans M;replace D:=(m.same 16 rfl).trans D;replace y:=(m.same 20 rfl).trans y;replace g:=(m.same 21 rfl).trans g;replace G:=(m.same 22 rfl).trans G;replace i:=(m.same 23 rfl).trans i;replace o:=(m.same 24 rfl).trans o;replace p:=(m.same 25 rfl).trans p;replace u:=(m.same 26 rfl).trans u;replace H:=(m.same 27 rfl).trans H;replace I:=(m.same 28 rfl).trans I;replace C:=C.trans (m.sw rfl);clear m;replace h:=f;clear f;obtain⟨N,f⟩:=h.iz.chk L;replace h:=f.seq.seq;clear f;replace h:=h.region (l:=[0]) rfl;clear L;obtain⟨v,K,aR,⟨r,q⟩,m,L,f⟩:=h.iK (d:=4) (Φ:=λv s=>v=.bool (decide ((c:Int)<m))/\s=w) rfl rfl rfl (by decide) λJ s E=>fG (by exact M) (by exact I) E;rw[r] at L;rw[q] at f;clear r q;replace s1:=(m.same 1 rfl).trans s1;replace M:=(m.same 3 rfl).trans M;replace D:=(m.same 16 rfl).trans D;replace y:=(m.same 20 rfl).trans y;replace g:=(m.same 21 rfl).trans g;replace G:=(m.same 22 rfl).trans G;replace i:=(m.same 23 rfl).trans i;replace o:=(m.same 24 rfl).trans o;replace p:=(m.same 25 rfl).trans p;replace u:=(m.same 26 rfl).trans u;replace H:=(m.same 27 rfl).trans H;replace I:=(m.same 28 rfl).trans I;replace C:=C.trans (m.sw rfl);clear m;replace h:=f;clear f;obtain⟨R,f⟩:=h.iz.chk L;replace h:=f.seq;clear f;replace h:=h.region (l:=[0]) rfl;obtain⟨v,K,aT,⟨r,q⟩,m,s5,f⟩:=h.iK (d:=5) (Φ:=λv s=>v=.int .i64 (0:Nat)/\s=w) rfl rfl rfl (by decide) λJ s E=>iJ E;rw[r] at s5;rw[q] at f;clear r q;replace s1:=(m.same 1 rfl).trans s1;replace M:=(m.same 3 rfl).trans M;replace L:=(m.same 4 rfl).trans L;replace D:=(m.same 16 rfl).trans D;replace y:=(m.same 20 rfl).trans y;replace g:=(m.same 21 rfl).trans g;replace G:=(m.same 22 rfl).trans G;replace i:=(m.same 23 rfl).trans i;replace o:=(m.same 24 rfl).trans o;replace p:=(m.same 25 rfl).trans p;replace u:=(m.same 26 rfl).trans u;replace H:=(m.same 27 rfl).trans H;replace I:=(m.same 28 rfl).trans I;replace C:=C.trans (m.sw rfl);clear m;replace h:=f;clear f;replace iL:=ei iL;replace N:=ei N;replace R:=ei R;replace h:=h.iz.seq.block.loop;obtain⟨l,T2,hl,E,F,f⟩:=At.avE (by omega) m 0 (by omega) h H I s5;replace h:=f.region (l:=[0,1]) rfl;clear f;replace s1:=(F.same 1 rfl).trans s1;replace M:=(F.same 3 rfl).trans M;clear L;clear s5;replace D:=(F.same 16 rfl).trans D;replace y:=(F.same 20 rfl).trans y;replace g:=(F.same 21 rfl).trans g;clear G;replace i:=(F.same 23 rfl).trans i;replace o:=(F.same 24 rfl).trans o;clear p;clear u;replace H:=(F.same 27 rfl).trans H;replace I:=(F.same 28 rfl).trans I;replace C:=C.trans (F.mono ayG);clear F;obtain⟨v,K,av,⟨r,q⟩,m,G,f⟩:=h.iK (d:=22) (Φ:=λv s=>v=.int .i64 (IntKind.i64.wrap ((j:Int)+1))/\s=w) rfl rfl rfl (by decide) λJ s E=>akY (by exact y) rfl E;rw[r] at G;rw[q] at f;clear r q;replace D:=(m.same 16 rfl).trans D;replace y:=(m.same 20 rfl).trans y;replace C:=C.trans (m.sw rfl);clear m;replace h:=f;clear f;clear y;obtain⟨v,K,aH,⟨r,q⟩,m,y,f⟩:=h.iK (d:=20) (Φ:=λv s=>v=.int .i64 (IntKind.i64.wrap ((j:Int)+1))/\s=w) rfl rfl rfl (by decide) λJ s E=>let⟨v,Z,O,W⟩:=ahs E;⟨v,Z,O.trans G,W⟩
  rw[r] at y;rw[q] at f;clear r q;replace D:=(m.same 16 rfl).trans D;replace C:=C.trans (m.sw rfl);clear m;replace h:=f;clear f;rw[aeD (by omega)] at y;subst hl;exact⟨by omega,(z,l),_,⟨⟨a,B,c,hB,a1,a0,(by show 1<=l.length;omega),(by show l.length<=c;omega),N,E⟩,aaN hq⟩,λO b n2 c2 Q Y=>(by rw[hB] at Q;cases Q;rw[a0] at Y;exact V b n2 c2 (dj Y)),C,D,y,h.iz.again⟩
 .left;rw[da U] at h;simp only[fd,qc] at h;exact⟨by omega,_,C,h.exit rfl⟩
def At.avF{A:Option Addr}{m c:Nat}(p:(m:Int)<=9223372036854775807):∀(n j:Nat) {T:Array Value},m=j+n->At X T (.code aaD::inB k) w->T.getD 1 undef=.slice A m c->T.getD 16 undef=.int .i64 m->T.getD 20 undef=.int .i64 j->
  ∃l T',l.length=n/\RdP w A j l/\(∀i,i<n->PkR X w A (j+i))/\Tm cH T T'/\At X T' k w
 |0,j,T,e,h,s1,cY,gv=>by
  rcases h.ayH s1 cY gv (by omega) p with⟨_,T',B,v⟩|⟨d,_⟩
  .exact⟨[],T',rfl,λi x a=>by simp at a,λi a=>absurd a (rP i),B,v⟩
  .omega
 |n+1,j,T,e,h,s1,cY,gv=>by
  rcases h.ayH s1 cY gv (by omega) p with⟨E,_⟩|⟨d,x,D,u,q,b,g,f,C⟩
  .omega
  .obtain⟨l,T',r,t,z,o,s⟩:=At.avF p n (j+1) (by omega) C ((b.same 1 rfl).trans s1) g f;refine⟨x::l,T',by simp[r],λi y a=> ?_,λi a=> ?_,b.trans o,s⟩
   case refine_2=>
    cases i with
    |zero=>exact q
    |succ i=>
     have:=z i (by omega);have e:j+1+i=j+(i+1):=by omega
     rwa [e] at this
   cases i with
   |zero=>simp at a;subst a;exact u
   |succ i=>
    have:=t i y (by simpa using a);have e:j+1+i=j+(i+1):=by omega
    rwa [e] at this
end
def vR:gL.contains 0=true:=by unfold gL;kernel_rfl
def vQ:gL.contains 1=true:=by unfold gL;kernel_rfl
def vF{g:Nat}(h:gL.contains g=true):g∈gL:=by simpa using h
abbrev mH:List Nat:=6::7::cH
def Tm.mh{d:Nat}(h:Tm [d] T T')(b:mH.contains d=true):Tm mH T T':=h.mono λt a=>by
 simp at a;subst a;exact b
def ayI(t:Nat)(h:cH.contains t=true):mH.contains t=true:=by
 simp only[mH,sH,qs];exact .inr (.inr h)
noncomputable def aiW:Code:=.seq (.region 58 aix false) (.seq (.region 59 acV false) cF)
noncomputable def aqR:Code:=.seq (aaA 54 aqb 19) (.seq (aaA 55 aqc 19) (.seq (aaA 56 aqd 19) (.seq (.region 57 amR false) (.seq (.block 53 (.loop lz)) aiW))))
section
variable {X:Cx} {T:Array Value} {k:List Item} {w:World}
def At.head(h:At X T (.code ju::k) w):∃x A n c l T',T.getD 0 undef=.int .i64 x/\1<=x/\x<=99/\(∃v,w.cell? ⟨0,0,none⟩=some v)/\(∃v,w.cell? ⟨1,0,none⟩=some v)/\
  T.getD 1 undef=.slice A n c/\n<=c/\(c:Int)<=9223372036854775807/\l.length=n/\RdP w A 0 l/\(∀i,i<n->PkR X w A i)/\(∀a,A=some a->0<c->Rgd X a.block)/\Tm mH T T'/\T'.getD 6 undef=.slice none 0 0/\T'.getD 7 undef=.bool false/\At X T' (.code aqR::k) w:=by
 have o:=Tm.refl mH T;unfold ju at h;have h:=h.seq.seq;replace h:=h.region (l:=[0,1,2]) rfl;obtain⟨v,E,Z,⟨p,g⟩,m,s,f⟩:=h.iK (d:=6) (Φ:=λv j=>v=.slice none 0 0/\j=w) rfl rfl rfl (by decide) λD j r=>iJ r;rw[p] at s;rw[g] at f;clear p g;replace o:=o.trans (m.mh rfl);clear m;replace h:=f;clear f;obtain⟨v,E,a1,⟨p,g⟩,m,u,f⟩:=h.iK (d:=7) (Φ:=λv j=>v=.bool false/\j=w) rfl rfl rfl (by decide) λD j r=>iJ r;rw[p] at u;rw[g] at f;clear p g;replace s:=(m.same 6 rfl).trans s;replace o:=o.trans (m.mh rfl);clear m;replace h:=f;clear f;obtain⟨v,E,a2,⟨x,V,p,g⟩,m,q,f⟩:=h.iK (d:=16) (Φ:=λv j=>∃x,T.getD 0 undef=.int .i64 x/\v=.bool (decide (x<1))/\j=w) rfl rfl rfl (by decide) λD j r=>let⟨v,U,z,O,P,N⟩:=aqO (b:=1) rfl r;⟨v,U,z,(o.same 0 rfl).symm.trans O,P,N⟩
 rw[p] at q;rw[g] at f;clear p g;replace s:=(m.same 6 rfl).trans s;replace u:=(m.same 7 rfl).trans u;replace o:=o.trans (m.mh rfl);clear m;replace h:=f;clear f;obtain⟨S,f⟩:=h.iz.chk q;replace h:=f.seq.seq;clear f;replace h:=h.region (l:=[0]) rfl;clear q;obtain⟨v,E,a6,⟨p,g⟩,m,q,f⟩:=h.iK (d:=16) (Φ:=λv j=>v=.bool (decide ((99:Int)<x))/\j=w) rfl rfl rfl (by decide) λD j r=>fG rfl (by exact(o.same 0 rfl).trans V) r;rw[p] at q;rw[g] at f;clear p g;replace s:=(m.same 6 rfl).trans s;replace u:=(m.same 7 rfl).trans u;replace o:=o.trans (m.mh rfl);clear m;replace h:=f;clear f;obtain⟨I,f⟩:=h.iz.chk q;replace h:=f.seq.seq;clear f;replace h:=h.region (l:=[0,1,2,3,4,5]) rfl;obtain⟨ms,W⟩:=(faQ true).atD;have hv:=h.ayD (vF vR);clear q;obtain⟨v,E,a5,⟨Q,g⟩,m,q,f⟩:=h.iK (d:=16) (Φ:=λv j=>w.cell? ⟨0,0,none⟩=some v/\j=w) rfl rfl rfl (by decide) λD j r=>ahu W rfl rfl hv r;rw[g] at f;clear g;replace s:=(m.same 6 rfl).trans s;replace u:=(m.same 7 rfl).trans u;replace o:=o.trans (m.mh rfl);clear m;replace h:=f;clear f;have M:=h.ayD (vF vQ);clear q;obtain⟨v,E,a0,⟨R,g⟩,m,q,f⟩:=h.iK (d:=16) (Φ:=λv j=>w.cell? ⟨1,0,none⟩=some v/\j=w) rfl rfl rfl (by decide) λD j r=>ahu W rfl rfl M r;rw[g] at f;clear g;replace s:=(m.same 6 rfl).trans s;replace u:=(m.same 7 rfl).trans u;replace o:=o.trans (m.mh rfl);clear m;replace h:=f;clear f;have L:=h.ahw (t:=1) rfl rfl rfl λe w he=>adU (faQ true).u23 he;rw[o.same 1 rfl] at L;clear q;obtain⟨v,E,a4,⟨A,n,c,F,p,g⟩,m,q,f⟩:=h.iK (d:=16) (Φ:=λv j=>∃A n c,T.getD 1 undef=.slice A n c/\v=.int .i64 n/\j=w) rfl rfl rfl (by decide) λD j r=>let⟨v,U,B,m,c,O,P,N⟩:=aht (faQ true).u23 r;⟨v,U,B,m,c,(o.same 1 rfl).symm.trans O,P,N⟩
 rw[p] at q;rw[g] at f;clear p g;replace s:=(m.same 6 rfl).trans s;replace u:=(m.same 7 rfl).trans u;replace o:=o.trans (m.mh rfl);clear m;replace h:=f;clear f;obtain⟨v,E,a3,⟨p,g⟩,m,y,f⟩:=h.iK (d:=18) (Φ:=λv j=>v=.int .i64 c/\j=w) rfl rfl rfl (by decide) λD j r=>ak0 (faQ true).u23 (by exact(o.same 1 rfl).trans F) r;rw[p] at y;rw[g] at f;clear p g;replace s:=(m.same 6 rfl).trans s;replace u:=(m.same 7 rfl).trans u;replace q:=(m.same 16 rfl).trans q;replace o:=o.trans (m.mh rfl);clear m;replace h:=f;clear f;obtain⟨v,E,a7,⟨p,g⟩,m,J,f⟩:=h.iK (d:=20) (Φ:=λv j=>v=.int .i64 (0:Nat)/\j=w) rfl rfl rfl (by decide) λD j r=>iJ r;rw[p] at J;rw[g] at f;clear p g;replace s:=(m.same 6 rfl).trans s;replace u:=(m.same 7 rfl).trans u;replace q:=(m.same 16 rfl).trans q;replace y:=(m.same 18 rfl).trans y;replace o:=o.trans (m.mh rfl);clear m;replace h:=f;clear f;obtain⟨v,E,a8,⟨p,g⟩,m,C,f⟩:=h.iK (d:=19) (Φ:=λv j=>v=.bool (decide ((9223372036854775807:Int)<c))/\j=w) rfl rfl rfl (by decide) λD j r=>fG rfl (by exact y) r;rw[p] at C;rw[g] at f;clear p g;replace s:=(m.same 6 rfl).trans s;replace u:=(m.same 7 rfl).trans u;replace q:=(m.same 16 rfl).trans q;replace y:=(m.same 18 rfl).trans y;replace J:=(m.same 20 rfl).trans J;replace o:=o.trans (m.mh rfl);clear m;replace h:=f;clear f;obtain⟨H,f⟩:=h.iz.chk C;replace h:=f.seq.seq;clear f;replace h:=h.region (l:=[0]) rfl;clear C;obtain⟨v,E,Y,⟨p,g⟩,m,C,f⟩:=h.iK (d:=19) (Φ:=λv j=>v=.bool (decide ((c:Int)<n))/\j=w) rfl rfl rfl (by decide) λD j r=>fG (by exact y) (by exact q) r;rw[p] at C;rw[g] at f;clear p g;replace s:=(m.same 6 rfl).trans s;replace u:=(m.same 7 rfl).trans u;replace q:=(m.same 16 rfl).trans q;replace J:=(m.same 20 rfl).trans J;replace o:=o.trans (m.mh rfl);clear m;replace h:=f;clear f;obtain⟨K,f⟩:=h.iz.chk C;replace h:=f.seq.block.loop;clear f;replace S:=ei S;replace I:=ei I;replace H:=ei H;replace K:=ei K;obtain⟨l,T2,hl,r,hR,G,f⟩:=At.avF (by omega) n 0 (by omega) h ((o.same 1 rfl).trans F) q J;exact⟨x,A,n,c,l,T2,V,S,I,⟨_,Q⟩,⟨_,R⟩,F,by omega,H,hl,r,λi hi=>(by have:=hR i hi;rwa [ph] at this),λa e=>L a n c (by rw[F,e]),o.trans (G.mono ayI),(G.same 6 rfl).trans s,(G.same 7 rfl).trans u,f⟩
def At.names(h:At X T (.code aqR::k) w):∃A n c z T',T.getD 2 undef=.slice A n c/\(∀a,A=some a->0<c->a.block<w.heap.size)/\(∀a,A=some a->0<c->Rgd X a.block)/\(n:Int)<=2147483647/\n<=c/\(c:Int)<=9223372036854775807/\z.size=2*n/\Tm cH T T'/\
  T'.getD 16 undef=.int .i64 n/\T'.getD 27 undef=.slice (some ⟨w.heap.size,0,none⟩) n n/\T'.getD 28 undef=.int .i64 (0:Nat)/\At X T' (.code (.block 53 (.loop lz)) :: .code aiW::k) (w.alloc (.cells z 216)):=by
 have p:=Tm.refl cH T;unfold aqR at h;have h:=h.seq.seq;replace h:=h.region (l:=[0,1,2]) rfl;have G:=h.atM (t:=2) rfl rfl rfl λe w M=>adU (faQ true).u31 M;have J:=h.ahw (t:=2) rfl rfl rfl λe w M=>adU (faQ true).u31 M;obtain⟨v,y,Q,⟨A,n,c,s,j,i⟩,m,o,b⟩:=h.iK (d:=16) (Φ:=λv g=>∃A n c,T.getD 2 undef=.slice A n c/\v=.int .i64 n/\g=w) rfl rfl rfl (by decide) λC g r=>let⟨v,Y,B,m,c,Z,R,S⟩:=aht (faQ true).u31 r;⟨v,Y,B,m,c,Z,R,S⟩
 rw[j] at o;rw[i] at b;clear j i;replace p:=p.trans (m.sw rfl);clear m;replace h:=b;clear b;obtain⟨v,y,O,⟨j,i⟩,m,q,b⟩:=h.iK (d:=18) (Φ:=λv g=>v=.int .i64 c/\g=w) rfl rfl rfl (by decide) λC g r=>ak0 (faQ true).u31 (by exact(p.same 2 rfl).trans s) r;rw[j] at q;rw[i] at b;clear j i;replace o:=(m.same 16 rfl).trans o;replace p:=p.trans (m.sw rfl);clear m;replace h:=b;clear b;obtain⟨v,y,U,⟨j,i⟩,m,f,b⟩:=h.iK (d:=19) (Φ:=λv g=>v=.bool (decide ((2147483647:Int)<n))/\g=w) rfl rfl rfl (by decide) λC g r=>fG rfl (by exact o) r;rw[j] at f;rw[i] at b;clear j i;replace o:=(m.same 16 rfl).trans o;replace q:=(m.same 18 rfl).trans q;replace p:=p.trans (m.sw rfl);clear m;replace h:=b;clear b;obtain⟨E,b⟩:=h.iz.chk f;replace h:=b.seq.seq;clear b;replace h:=h.region (l:=[0]) rfl;clear f;obtain⟨v,y,W,⟨j,i⟩,m,f,b⟩:=h.iK (d:=19) (Φ:=λv g=>v=.bool (decide ((9223372036854775807:Int)<c))/\g=w) rfl rfl rfl (by decide) λC g r=>fG rfl (by exact q) r;rw[j] at f;rw[i] at b;clear j i;replace o:=(m.same 16 rfl).trans o;replace q:=(m.same 18 rfl).trans q;replace p:=p.trans (m.sw rfl);clear m;replace h:=b;clear b;obtain⟨u,b⟩:=h.iz.chk f;replace h:=b.seq.seq;clear b;replace h:=h.region (l:=[0]) rfl;clear f;obtain⟨v,y,H,⟨j,i⟩,m,f,b⟩:=h.iK (d:=19) (Φ:=λv g=>v=.bool (decide ((c:Int)<n))/\g=w) rfl rfl rfl (by decide) λC g r=>fG (by exact q) (by exact o) r;rw[j] at f;rw[i] at b;clear j i;replace o:=(m.same 16 rfl).trans o;replace p:=p.trans (m.sw rfl);clear m;replace h:=b;clear b;obtain⟨D,b⟩:=h.iz.chk f;replace h:=b.seq;clear b;replace h:=h.region (l:=[0,1]) rfl;replace E:=ei E;replace u:=ei u;replace D:=ei D;obtain⟨z,L,K⟩:=anf (faQ true) (w:=w) (e:=(FQ cf H (.inRegion amR (0::[1]) :: .code (.seq (.block 53 (.loop lz)) aiW)::k)).eval) (x:=.tmp 16) (dst:=some 40) (ty:=205) (pos:= "") (af:=#[]) (gd:=none) E (by exact o);obtain⟨v,y,V,⟨j,i⟩,m,F,b⟩:=h.iK (d:=27) (Φ:=λv g=>v=.slice (some ⟨w.heap.size,0,none⟩) n n/\g=w.alloc (.cells z 216)) rfl rfl rfl (by decide) λC g r=>by have I:=K.symm.trans r;cases I;exact⟨_,rfl,rfl,rfl⟩
 rw[j] at F;rw[i] at b;clear j i;replace o:=(m.same 16 rfl).trans o;replace p:=p.trans (m.sw rfl);clear m;replace h:=b;clear b;obtain⟨v,y,P,⟨j,i⟩,m,N,b⟩:=h.iK (d:=28) (Φ:=λv g=>v=.int .i64 (0:Nat)/\g=w.alloc (.cells z 216)) rfl rfl rfl (by decide) λC g r=>iJ r;rw[j] at N;rw[i] at b;clear j i;replace o:=(m.same 16 rfl).trans o;replace F:=(m.same 27 rfl).trans F;replace p:=p.trans (m.sw rfl);clear m;replace h:=b;clear b;exact⟨A,n,c,z,_,s,λa e=>G a n c (by rw[s,e]),λa e=>J a n c (by rw[s,e]),E,by omega,u,L,p,o,F,N,h.iz.seq⟩
end
section
variable {β:Bool} {R:List Frame->World->Prop} {c0 c:Cfg} {gR ρ:Ren} {w0 w w2:World} {l l2:List Frame}
def aqS   :∃o a,step P (mm ⟨(jw P).finish v,[],.running,none,none⟩ w)=.ended o a:=by
 have h:∃o a b,stepG P true ⟨(jw P).finish v,[],.running,none,none⟩ w=.ended o a b:=by
  simp only[jw,Frame.finish,stepG,stepG.exec,acn];exact⟨_,_,_,rfl⟩
 obtain⟨o,a,b,h⟩:=h;exact⟨o,a,cg rfl h⟩
def aqT(g:gZ (ah β) ρ c.l l)(E:nE c.l):(∃o a,step (ah β) (mm (Gl l [jw (ah β)]) w)=.ended o a)\/∃v a,step (ah β) (mm (Gl l [jw (ah β)]) w)=.next (mm ⟨(jw (ah β)).finish v,[],.running,none,none⟩ a):=by
 obtain⟨M,m,G,hd,L⟩:=E;obtain⟨x,N,y,P,O,k⟩:=g.ne';have H:=g.lone m k;subst H k;rw[m] at g;have K:=g.head;obtain⟨n,t,e,D,B,z,u⟩:=y;obtain⟨C,F,J,j,b,s,A⟩:=K;dsimp only at C F J j b s A;obtain rfl:B=.returning:=by
  rcases b with b|b
  .rw[G] at b;cases b.1
  .exact b.2
 obtain rfl:D=[]:=by rw[hd] at j;cases j;rfl
 obtain rfl:z=.normal:=s.2;have i:∀{r:GStep},stepG (ah β) true (Gl [⟨n,t,e,[],.returning,.normal,u⟩] [jw (ah β)]) w=r->(∃o a d,r=.ended o a d)\/(∃v a d,r=.go ⟨(jw (ah β)).finish v,[],.running,none,none⟩ a d):=by
  intro r p;subst p;simp only[Gl,stepG,unwind,qY];cases I:(ah β).funcs[n]? with
  |none=>exact .inr ⟨_,_,_,rfl⟩
  |some f=>
   dsimp only;cases p:(results f t).runT (ah β) w #[] with
   |mk q d=>
    cases q with
    |ok v a=>exact .inr ⟨v,a,_,rfl⟩
    |halt q a=>cases q<;>exact .inl ⟨_,_,_,rfl⟩
 rcases i rfl with⟨o,a,d,h⟩|⟨v,a,d,h⟩
 .exact .inl ⟨o,a,cg rfl h⟩
 .exact .inr ⟨v,a,dw rfl h⟩
def gj.runs:∀(n:Nat) {c:Cfg} {ρ:Ren} {l:List Frame} {w:World},gj β R c0 gR w0 c ρ l w->runN (ah β) n (mm (Gl l [jw (ah β)]) w)=.next (mm (Gl l2 [jw (ah β)]) w2)->l2≠[]->∃i g,gj β R c0 gR w0 i g l2 w2
 |0,c,ρ,l,w,h,hr,hne=>by
  simp only[runN,qg] at hr;obtain⟨b,rfl⟩:=gh hr;obtain⟨_,_,y,m,_,a⟩:=h.st.ne';obtain rfl:=mo (by rw[a];simp) hne b;exact⟨c,ρ,h⟩
 |n+1,c,ρ,l,w,h,hr,hne=>by
  obtain⟨_,_,y,m,_,a⟩:=h.st.ne';have j:l≠[]:=by rw[a];simp
  unfold runN at hr;by_cases d:nE c.l
  .exfalso;rcases aqT (w:=w) h.st d with⟨o,f,e⟩|⟨v,f,e⟩
   .rw[e] at hr;cases hr
   .rw[e] at hr;cases n with
    |zero=>
     simp only[runN,qg] at hr;obtain⟨b, -⟩:=gh hr;cases l2 with
     |nil=>exact hne rfl
     |cons x t=>
      have:=fa Goroutine.callers b;simp[Gl] at this
    |succ n=>
     unfold runN at hr;obtain⟨o,s,p⟩:=aqS (P:=ah β) (v:=v) (w:=f);simp only[p] at hr;cases hr
  .obtain⟨i,g,z,r,u,q, -, -,k, -⟩:=h.ac0 true d;rw[dw (iG j _) (k _)] at hr;exact gj.runs n q hr hne
def gj.calls{args:Array Value}(h:gj β R c0 gR w0 c ρ (Frame.enter (ah β) f args .normal::y::W) w)(u:Calls (ah β) f args w λe a=>∃v,e=.returned v/\Post v a) :
  ∃k p v i,gj β R c0 gR w0 k p (y.finish v::W) i/\Post v i:=by
 obtain⟨e,a,g,⟨v,rfl,B⟩,⟨n,F⟩,G,D⟩:=u (y::W++[jw (ah β)]);obtain⟨k,p,A⟩:=h.runs (l2:=g::y::W) (w2:=a) n F (by simp);have d:∀base,stepG (ah β) true (Gl (g::y::W) base) a=.go (Gl (y.finish v::W) base) a (seen (ah β) g.fn ((results ((ah β).funcs[g.fn]?.getD default) g.tmps).runT (ah β) a #[]).2):=λbase=>by
  obtain⟨r,hd,j,m,l,o⟩:=D;obtain⟨J,s,t,L,K,I,H⟩:=g;dsimp only at r hd j l o;subst r hd j;have b:((results m s).runT (ah β) a #[]).1=.ok v a:=by rw[qE];exact o
  simp only[Gl,stepG,unwind,l,pS,qu];cases z:(results m s).runT (ah β) a #[] with
  |mk q M=>
   rw[z] at b;dsimp only at b;subst b;simp[doReturn,GStep.after]
 obtain⟨C,E,x, -, -⟩:=A.go rfl true d;exact⟨C,E,v,a,x,B⟩
end
end
section
open Go.Conc Go.ConcN Go.RowKit
abbrev gz:=Int×List (Int×ByteArray)
def dX(fv:Int->List gz->Int->ByteArray×Bool):Prop:=∀(b:Bool) (w:World) (a:Int) (A:Option Addr) (n c:Nat) (l:List gz) (nm:Int),1<=a->a<=99->l.length=n->n<=c->(c:Int)<=9223372036854775807->RdP w A 0 l->In_ nm->
 Calls (ah b) 149 #[.int .i64 a,.slice A n c,.int .i64 nm] w λe d=>∃v,e=.returned v/\(v=.agg #[.string (fv a l nm).1,.bool (fv a l nm).2]/\Below w.heap.size w d)
def aiX(w:World)(A:Option Addr)(i:Nat)(nm:Int):Prop:=∃a,A=some a/\w.cell? (a.add i)=some (.int .i64 nm)/\In_ nm
def ahv.below(h:ahv w B i x)(f:∀b,b<w.heap.size->w'.heap[b]?=w.heap[b]?):ahv w' B i x:=by
 obtain⟨⟨a,j,d,e⟩,g,l⟩:=h;have k:∀{A:Addr} {v:Value},w.cell? A=some v->w'.cell? A=some v:=λ{A v} c=>by
  rw[fF (f A.block (eW c))];exact c
 exact⟨⟨a,j,k d,k e⟩,g,l⟩
def RdP.below{A:Option Addr}{l:List gz}(h:RdP w A j l)(d:∀b,b<w.heap.size->w'.heap[b]?=w.heap[b]?):RdP w' A j l:=λi x o=>by
 obtain⟨⟨a,B,c,r,g,n,q,t,p,s⟩,f⟩:=h i x o;have k:∀{A:Addr} {v:Value},w.cell? A=some v->w'.cell? A=some v:=λ{A v} e=>by
  rw[fF (d A.block (eW e))];exact e
 exact⟨⟨a,B,c,r,k g,k n,q,t,p,λi y m=>(s i y m).below d⟩,f⟩
def qw(a:Addr)(n:Nat):(a.add n).block=a.block:=by unfold Addr.add;split<;>rfl
def ir(b o n:Nat):(⟨b,o,none⟩:Addr).add n=⟨b,o+n,none⟩:=by
 unfold Addr.add;by_cases h:n=0
 .subst h;simp
 .simp[h]
section
variable {X:Cx} {T:Array Value} {k:List Item} {w:World}
def At.call    {d:Tmp} {args:Array Value} (h:At X T (.inRegion Z (i::rest)::k) w) (n:Z[i]?=some o) (u:o.guard=none) (p:o.dst=some d) (j:d<45)
  (D:∀w,(execOp (FQ cf T (.inRegion Z (i::rest)::k)).eval o).runT (ah true) w #[]=(.ok (.enter f args) w,#[])) (q:Calls (ah true) f args w λe r=>∃v,e=.returned v/\Post v r) :
  ∃v g l,Post v g/\Tm [d] T l/\l.getD d undef=v/\At X l (.inRegion Z rest::k) g:=by
 obtain⟨b,c,H,h⟩:=h;have a:∀base,stepG (ah true) true (Gl (FQ cf T (.inRegion Z (i::rest)::k)::X.y::X.ys) base) w=.go (Gl (Frame.enter (ah true) f args .normal::FQ cf T (.inRegion Z (i::rest)::k)::X.y::X.ys) base) w (seen (ah true) cf #[]):=λbase=>by
  have z:∀y,Region.wanted o y=true:=λy=>by unfold Region.wanted;rw[u]
  have F:stepG (ah true) true (Gl (FQ cf T (.inRegion Z (i::rest)::k)::X.y::X.ys) base) w =
    stepG.apply (ah true) true (FQ cf T (.inRegion Z (i::rest)::k)) (X.y::X.ys++base) none (execOp (FQ cf T (.inRegion Z (i::rest)::k)).eval o) w:=by
   simp[Gl,stepG,stepG.exec,stepG.oper,Frame.oper?,n,z]
  rw[F];unfold stepG.apply;simp only[D,mT];simp[GStep.after,Gl]
 obtain⟨G,I,x, -, -⟩:=h.go rfl true a;obtain⟨A,E,v,g,m,C⟩:=x.calls q;have B:Frame.finish (FQ cf T (.inRegion Z (i::rest)::k)) v=FQ cf (T.setIfInBounds d v) (.inRegion Z rest::k):=by
  simp only[Frame.finish,n,qd,p]
 rw[B] at m;replace j:d<T.size:=aE j b;exact⟨v,g,_,C,.one (by simp) (λt s=>by rw[aG j,bd s]),by rw[aG j,dl rfl],by simpa using b,A,E,m⟩
end
structure nL (w0 w:World) (n:Nat) (res:List (ByteArray×Bool)):Prop where
 low:∀b,b<w0.heap.size->w.heap[b]?=w0.heap[b]?
 lt:w0.heap.size<w.heap.size
 row:∃cs,w.heap[w0.heap.size]?=some (.cells cs 216 (0,0))/\cs.size=2*n/\∀i x,res[i]?=some x->cs[2*i]?=some (.string x.1)/\cs[2*i+1]?=some (.bool x.2)
def uI(h:w.heap[C]?=some (.cells cs t z)):(w.setCell ⟨C,i,none⟩ v).heap[C]?=some (.cells (cs.setIfInBounds i v) t z):=by
 unfold World.setCell;simp[mw,h]
def ep(h:w.heap[C]?=some (.cells cs t z)):w.cell? ⟨C,i,none⟩=cs[i]?:=by
 unfold World.cell?;simp[h]
def gC(h:w.heap[C]?=some (.cells cs t (0,0))):w.frozen? ⟨C,i,none⟩=false:=by
 unfold World.frozen?;simp[h]
def nL.below(h:nL w0 w n U)(c:Below w.heap.size w w'):nL w0 w' n U:=by
 obtain⟨e,f,d⟩:=h.row;exact⟨λb a=>(c.block b (Nat.lt_trans a h.lt)).trans (h.low b a),aE h.lt c.size,e,(c.block _ h.lt).trans f,d⟩
def nL.store(h:nL w0 w n U)(o:U.length<n)(x:ByteArray×Bool):nL w0 ((w.setCell ⟨w0.heap.size,2*U.length,none⟩ (.string x.1)).setCell ⟨w0.heap.size,2*U.length+1,none⟩ (.bool x.2)) n (U++[x]):=by
 obtain⟨p,l,g,j⟩:=h.row;refine⟨λb k=> ?_, ?_,_,uI (uI l),by simpa using g,λi y c=> ?_⟩
 .have d:w0.heap.size≠b:=by omega
  rw[bm _ _ _ d,bm _ _ _ d];exact h.low b k
 .rw[gE,gE];exact h.lt
 .rw[vy] at c;split at c
  .rename_i f;obtain⟨a,b⟩:=j i y c;constructor
   .rw[ip (by omega),ip (by omega)];exact a
   .rw[ip (by omega),ip (by omega)];exact b
  .rename_i m;have e:i=U.length:=by
    have:=(jt.1 c).1;simp at this;omega
   subst e;simp at c;subst c;constructor
   .rw[ip (by omega),oE (by omega)]
   .rw[oE (by simp;omega)]
abbrev inH(k:List Item):List Item:=.inLoop lz :: .inBlock 53::k
def aeE:f149.body.isSome=true:=by kernel_rfl
def aqU(β:Bool):∃a,(ah β).funcs[149]?=some a/\a.body.isSome=true/\(a.name == "runtime.NumGoroutine")=false:=by
 refine⟨pf f149, ?_, ?_,by have:=cA func149;exact this⟩
 .rw[akB β (by decide) (by decide),func149];rfl
 .show(f149.body.map gP).isSome=true;rw[Option.isSome_map];exact aeE
def aiY{β:Bool}{args:Array Value} :(callFunc 149 args).runT (ah β) w #[]=(.ok (.enter 149 args) w,#[]):=by
 obtain⟨c,d,b,f⟩:=aqU β;unfold callFunc;have g:¬c.name= "runtime.NumGoroutine" :=by simpa using f
 have a:¬c.body=none:=λe=>by rw[e] at b;cases b
 simp[d,g,a]
section
variable {X:Cx} {T:Array Value} {k:List Item} {w:World}
def At.ayJ {N:Int->List gz->Int->ByteArray×Bool} (hF:dX N)  {A : Option Addr} {l:List gz} {di:List Int} (h:At X T (.code lz::inH k) w)
  (k1:1<=key) (k2:key<=99) (hl:l.length=n) (hc:n<=c) (av:(c:Int)<=9223372036854775807) (hp:RdP w0 A 0 l) (a8:∀a,B=some a->0<C->a.block<w0.heap.size) (aW:(C:Int)<=2147483647)
  (I:T.getD 0 undef=.int .i64 key) (s1:T.getD 1 undef=.slice A n c) (s2:T.getD 2 undef=.slice B C b) (F:T.getD 16 undef=.int .i64 C) (r:T.getD 27 undef=.slice (some ⟨w0.heap.size,0,none⟩) C C) (i:T.getD 28 undef=.int .i64 j)
  (hj:j<=C) (an:di.length=j) (D:nL w0 w C (di.map (N key l))) :
  (j=C/\∃T',Tm cH T T'/\T'.getD 27 undef=.slice (some ⟨w0.heap.size,0,none⟩) C C/\At X T' k w)\/
  (j<C/\∃nm T' w',aiX w0 B j nm/\Tm cH T T'/\T'.getD 16 undef=.int .i64 C/\T'.getD 27 undef=.slice (some ⟨w0.heap.size,0,none⟩) C C/\T'.getD 28 undef=.int .i64 (j+1:Nat)/\nL w0 w' C ((di++[nm]).map (N key l))/\At X T' (.code lz::inH k) w'):=by
 have E:=Tm.refl cH T;unfold Go.Proofs.YtblbaiejjagdoaaGreatDoor.lz at h;have h:=h.seq;replace h:=h.region (l:=[0]) rfl;obtain⟨v,K,b0,⟨p,o⟩,m,Z,g⟩:=h.iK (d:=26) (Φ:=λv q=>v=.bool (decide ((j:Int)<C))/\q=w) rfl rfl rfl (by decide) λP q G=>fG (by exact i) (by exact F) G;rw[p] at Z;rw[o] at g;clear p o;replace I:=(m.same 0 rfl).trans I;replace s1:=(m.same 1 rfl).trans s1;replace s2:=(m.same 2 rfl).trans s2;replace F:=(m.same 16 rfl).trans F;replace r:=(m.same 27 rfl).trans r;replace i:=(m.same 28 rfl).trans i;replace E:=E.trans (m.sw rfl);clear m;replace h:=g;clear g;replace h:=h.iz.seq.cond Z;by_cases V:(j:Int)<C
 .right;rw[dq V] at h;simp only[mT] at h;replace h:=h.skip.seq.seq;replace h:=h.region (l:=[0,1,2,3]) rfl;obtain⟨ii,hi,hz⟩:=(faQ true).i3;obtain⟨v,K,ay,⟨a,hB,p,o⟩,m,Q,g⟩:=h.iK (d:=25) (Φ:=λv q=>∃a,B=some a/\v=.pointer (some (a.add (j*ii.size)))/\q=w) rfl rfl rfl (by decide) λP q G=>abw (faQ true).u31 hi (by exact s2) (by exact i) (by omega) G;rw[p,hz,sO] at Q;rw[o] at g;clear p o;replace I:=(m.same 0 rfl).trans I;replace s1:=(m.same 1 rfl).trans s1;replace F:=(m.same 16 rfl).trans F;replace r:=(m.same 27 rfl).trans r;replace i:=(m.same 28 rfl).trans i;replace E:=E.trans (m.sw rfl);clear m;replace h:=g;clear g;have hv:=h.noV (t:=25) rfl rfl rfl Q (λe w he=>aeC he);obtain⟨vv,K,aR,⟨J,o⟩,m,O,g⟩:=h.iK (d:=20) (Φ:=λv q=>w.cell? (a.add j)=some v/\q=w) rfl rfl rfl (by decide) λP q G=>ahu (faQ true).u3 rfl (by exact Q) hv.1 G;rw[o] at g;clear o;replace I:=(m.same 0 rfl).trans I;replace s1:=(m.same 1 rfl).trans s1;replace F:=(m.same 16 rfl).trans F;replace r:=(m.same 27 rfl).trans r;replace i:=(m.same 28 rfl).trans i;replace E:=E.trans (m.sw rfl);clear m;replace h:=g;clear g;obtain⟨v,K,aO,⟨z,ad,p,o⟩,m,H,g⟩:=h.iK (d:=22) (Φ:=λv q=>∃z,vv=.int .i64 z/\v=.int .i64 (IntKind.i64.wrap (z*1))/\q=w) rfl rfl rfl (by decide) λP q G=>let⟨v,a1,z,a2,a3,a4⟩:=akX G rfl;⟨v,a1,z,O.symm.trans a2,a3,a4⟩
  rw[p] at H;rw[o] at g;clear p o;replace I:=(m.same 0 rfl).trans I;replace s1:=(m.same 1 rfl).trans s1;replace F:=(m.same 16 rfl).trans F;replace O:=(m.same 20 rfl).trans O;replace r:=(m.same 27 rfl).trans r;replace i:=(m.same 28 rfl).trans i;replace E:=E.trans (m.sw rfl);clear m;replace h:=g;clear g;subst ad;obtain⟨v,K,R,⟨p,o⟩,m,a5,g⟩:=h.iK (d:=21) (Φ:=λv q=>v=.bool (IntKind.i64.wrap (z*1) ==z)/\q=w) rfl rfl rfl (by decide) λP q G=>akZ (by exact H) (by exact O) G;rw[p] at a5;rw[o] at g;clear p o;replace I:=(m.same 0 rfl).trans I;replace s1:=(m.same 1 rfl).trans s1;replace F:=(m.same 16 rfl).trans F;replace O:=(m.same 20 rfl).trans O;replace H:=(m.same 22 rfl).trans H;replace r:=(m.same 27 rfl).trans r;replace i:=(m.same 28 rfl).trans i;replace E:=E.trans (m.sw rfl);clear m;replace h:=g;clear g;obtain⟨hq,g⟩:=h.iz.awP a5;replace h:=g.seq;clear g;replace h:=h.region (l:=[0,1,2]) rfl;have a0:=aaN hq;have a9:aiX w0 B j z:=⟨a,hB,by rw[<-fF (D.low (a.add j).block (by rw[qw];exact a8 a hB (by omega)))];exact J,a0⟩;obtain⟨v,K,aD,⟨p,U⟩,m,L,g⟩:=h.call (d:=24) (f:=149) (args:=#[.int .i64 key,.slice A n c,.int .i64 z]) rfl rfl rfl (by decide) (λw=>by
    have hm:Array.map (Frame.eval (FQ cf R (.inRegion aiv [0,1,2] :: .code (.region 83 aiw false)::inH k))) #[.tmp 0,.tmp 1,.tmp 20]=#[.int .i64 key,.slice A n c,.int .i64 z]:=by
     rw[<-I,<-s1,<-O];simp[Frame.eval]
    have e0:execOp (Frame.eval (FQ cf R (.inRegion aiv [0,1,2] :: .code (.region 83 aiw false)::inH k))) (gO (some 24) (.call ⟨.value (.func 149),#[.tmp 0,.tmp 1,.tmp 20],#[3,32,3]⟩) 216)=callFunc 149 #[.int .i64 key,.slice A n c,.int .i64 z]:=by
     simp only[execOp,gO,resolve];rw[hm];simp[Deferred.ofValue,invoke,Frame.eval];try rfl
    exact(fa (λs=>Sem.runT (ah true) s w #[]) e0).trans aiY) (hF true w key A n c l z k1 k2 hl hc av (hp.below D.low) a0)
  rw[p] at L;replace D:=D.below U;clear p U;replace F:=(m.same 16 rfl).trans F;replace H:=(m.same 22 rfl).trans H;replace r:=(m.same 27 rfl).trans r;replace i:=(m.same 28 rfl).trans i;replace E:=E.trans (m.sw rfl);clear m;replace h:=g;clear g;clear J hv;obtain⟨i2,fU,a7, -⟩:=(faQ true).i258;obtain⟨v,w2,al,⟨a2,ao,p,o⟩,m,a6,g⟩:=h.iK (d:=23) (Φ:=λv q=>∃a,some (⟨w0.heap.size,0,none⟩:Addr)=some a/\v=.pointer (some (a.add (j*i2.size)))/\q=K) rfl rfl rfl (by decide) λP q G=>abw (faQ true).ahr fU (by exact r) (by exact i) (by omega) G;cases ao;rw[p,a7,ir,ph,uK] at a6;rw[o] at g;clear p o;replace F:=(m.same 16 rfl).trans F;replace H:=(m.same 22 rfl).trans H;replace L:=(m.same 24 rfl).trans L;replace r:=(m.same 27 rfl).trans r;replace i:=(m.same 28 rfl).trans i;replace E:=E.trans (m.sw rfl);clear m;replace h:=g;clear g;have W:=D.store (by simp;omega) (N key l z);rw[pF,an] at W;obtain⟨cs,M,aT, -⟩:=D.row;obtain⟨u0,ax⟩:∃u,cs[2*j]?=some u:=⟨_,fi (by omega)⟩;obtain⟨u1,aa⟩:∃u,cs[2*j+1]?=some u:=⟨_,fi (by omega)⟩;have ha:(⟨w0.heap.size,2*j,none⟩:Addr).add 1=⟨w0.heap.size,2*j+1,none⟩:=ir _ _ _;have Y:=aot (faQ true) (dst:=none) (ty:=0) (pos:= "") (af:=#[]) (gd:=none) (w:=K) (A:=⟨w0.heap.size,2*j,none⟩) (u0:=.string (N key l z).1) (u1:=.bool (N key l z).2) (e:=(FQ cf al (.inRegion aiv (2::[]) :: .code (.region 83 aiw false)::inH k)).eval) (x:=.tmp 23) (y:=.tmp 24) rfl rfl (by exact a6) (by exact L) ((ep M).trans ax) (gC M) (by rw[ha];exact(ep M).trans aa) (by rw[ha];exact gC M);rw[ha] at Y;replace h:=h.opk rfl rfl rfl Y;replace h:=h.iz.region (l:=[0,1]) rfl;generalize (K.setCell ⟨w0.heap.size,2*j,none⟩ (.string (N key l z).1)).setCell ⟨w0.heap.size,2*j+1,none⟩ (.bool (N key l z).2)=q at *;clear H;obtain⟨v,K,aH,⟨p,o⟩,m,H,g⟩:=h.iK (d:=22) (Φ:=λv S=>v=.int .i64 (IntKind.i64.wrap ((j:Int)+1))/\S=q) rfl rfl rfl (by decide) λP S G=>akY (by exact i) rfl G;rw[p] at H;rw[o] at g;clear p o;replace F:=(m.same 16 rfl).trans F;replace r:=(m.same 27 rfl).trans r;replace i:=(m.same 28 rfl).trans i;replace E:=E.trans (m.sw rfl);clear m;replace h:=g;clear g;clear i;obtain⟨v,K,aM,⟨p,o⟩,m,i,g⟩:=h.iK (d:=28) (Φ:=λv S=>v=.int .i64 (IntKind.i64.wrap ((j:Int)+1))/\S=q) rfl rfl rfl (by decide) λP S G=>let⟨v,a1,a2,a3⟩:=ahs G;⟨v,a1,a2.trans H,a3⟩
  rw[p] at i;rw[o] at g;clear p o;replace F:=(m.same 16 rfl).trans F;replace r:=(m.same 27 rfl).trans r;replace E:=E.trans (m.sw rfl);clear m;replace h:=g;clear g;rw[aeD (by omega)] at i;exact⟨by omega,z,_,q,a9,E,F,r,i,by rw[oR];exact W,h.iz.again⟩
 .left;rw[da V] at h;simp only[fd,qc] at h;exact⟨by omega,_,E,r,h.exit rfl⟩
def At.avG {G:Int->List gz->Int->ByteArray×Bool} (C:dX G) {w0:World} {key:Int} {A v:Option Addr} {n c b N:Nat} {l:List gz}
  (x:1<=key) (k2:key<=99) (E:l.length=n) (H:n<=c) (q:(c:Int)<=9223372036854775807) (D:RdP w0 A 0 l) (o:∀a,v=some a->0<b->a.block<w0.heap.size) (r:(b:Int)<=2147483647):∀(m j:Nat) {T:Array Value} {w:World} {s:List Int},b=j+m->At X T (.code lz::inH k) w->
  T.getD 0 undef=.int .i64 key->T.getD 1 undef=.slice A n c->T.getD 2 undef=.slice v b N->T.getD 16 undef=.int .i64 b->T.getD 27 undef=.slice (some ⟨w0.heap.size,0,none⟩) b b->T.getD 28 undef=.int .i64 j->s.length=j->(∀i nm,s[i]?=some nm->aiX w0 v i nm)->nL w0 w b (s.map (G key l))->
  ∃(d:List Int) (T':Array Value) (u:World),d.length=b/\(∀i nm,d[i]?=some nm->aiX w0 v i nm)/\nL w0 u b (d.map (G key l))/\Tm cH T T'/\T'.getD 27 undef=.slice (some ⟨w0.heap.size,0,none⟩) b b/\At X T' k u
 |0,j,T,w,s,e,h,s0,s1,s2,cY,iq,iy,hnl,hnm,hrow=>by
  rcases h.ayJ C x k2 E H q D o r s0 s1 s2 cY iq iy (by omega) hnl hrow with⟨_,T',J,p,I⟩|⟨y,_⟩
  .exact⟨s,T',w,by omega,hnm,hrow,J,p,I⟩
  .omega
 |m+1,j,T,w,s,e,h,s0,s1,s2,cY,iq,iy,hnl,hnm,hrow=>by
  rcases h.ayJ C x k2 E H q D o r s0 s1 s2 cY iq iy (by omega) hnl hrow with⟨W,_⟩|⟨y,nm,V,U,P,f,F,p,z,g,K⟩
  .omega
  .obtain⟨d,T',u,R,S,L,O,M,Q⟩:=At.avG C x k2 E H q D o r m (j+1) (by omega) K ((f.same 0 rfl).trans s0) ((f.same 1 rfl).trans s1) ((f.same 2 rfl).trans s2) F p z (by simp[hnl]) (λi B t=>by
    rw[vy] at t;split at t
    .exact hnm i B t
    .have:i=j:=by
      have:=(jt.1 t).1;simp at this;omega
     subst this;simp[hnl] at t;subst t;exact P) g
   exact⟨d,T',u,R,S,L,f.trans O,M,Q⟩
end
end
section
open Go.Conc Go.ConcN
def mxA:Option Addr->Nat
 |none=>0
 |some a=>a.block+1
def mxN:Option Nat->Nat
 |none=>0
 |some a=>a+1
def atN:Fn->Nat
 |.yield l=>l+1
 |_=>0
mutual
noncomputable def mxV:Value->Nat
 |.pointer a=>mxA a
 |.slice a _ _=>max (mxA a) gN
 |.map a=>mxN a
 |.chan a=>mxN a
 |.func f ⟨a⟩ ⟨c⟩=>max (atN f) (max (mxL a) (mxL c))
 |.iface _ v=>mxV v
 |.agg ⟨l⟩=>mxL l
 |.tuple ⟨l⟩=>mxL l
 |_=>0
noncomputable def mxL:List Value->Nat
 |[]=>0
 |v::l=>max (mxV v) (mxL l)
end
noncomputable def mxE:List MapEntry->Nat
 |[]=>0
 |e::l=>max (max (mxV e.key) (mxV e.val)) (mxE l)
noncomputable def mxO:Obj->Nat
 |.cells c _ _=>mxL c.toList
 |.map e _=>mxE e.toList
 |.loop l=>mxL l.tmps.toList
 |_=>0
noncomputable def mxH:List Obj->Nat
 |[]=>0
 |o::l=>max (mxO o) (mxH l)
def ang:∀{l:List Obj} {i:Nat} {o:Obj},l[i]?=some o->mxO o<=mxH l
 |[],i,o,h=>by simp at h
 |x::l,0,o,h=>by simp at h;subst h;simp only[mxH];omega
 |x::l,i+1,o,h=>by
  have:=ang (l:=l) (i:=i) (o:=o) (by simpa using h);simp only[mxH];omega
noncomputable def ak2:List Frame->Nat
 |[]=>0
 |f::l=>max (mxL f.tmps.toList) (ak2 l)
def aqW(f:Fn)(a c:Array Value):mxV (.func f a c)=max (atN f) (max (mxL a.toList) (mxL c.toList)):=by
 obtain⟨a⟩:=a;obtain⟨c⟩:=c;simp only[mxV]
def atO(a:Array Value):mxV (.agg a)=mxL a.toList:=by
 obtain⟨a⟩:=a;simp only[mxV]
def aov(a:Array Value):mxV (.tuple a)=mxL a.toList:=by
 obtain⟨a⟩:=a;simp only[mxV]
section
variable {ρ σ:Ren} {D:Nat} (hd:σ.dim=ρ.dim/\σ.al=ρ.al) (H:∀{a b:Nat},σ.r a b->b<D->ρ.r a b)
include H
theorem OAR.down{u v:Option Addr}(k:OAR σ u v)(a:mxA v<=D):OAR ρ u v:=by
 cases k with
 |none=>exact .none
 |some k=>cases k with
  |mk h o s=>exact .some (.mk (H h (by simp only[mxA] at a;omega)) o s)
theorem NR.down{u v:Option Nat}(k:NR σ u v)(a:mxN v<=D):NR ρ u v:=by
 cases k with
 |none=>exact .none
 |some h=>exact .some (H h (by simp only[mxN] at a;omega))
theorem FR.down{u v:Fn}(k:FR σ u v)(a:atN v<=D):FR ρ u v:=by
 cases k with
 |same f b=>exact .same _ b
 |yield h=>exact .yield (H h (by simp only[atN] at a;omega))
include hd
mutual
theorem VR.down:∀{u v:Value},VR σ u v->mxV v<=D->VR ρ u v
 |_,_,.fc hl k,_=>.fc (hd.1▸hl) k
 |_,_,.aa1 k hl,_=>.aa1 k (hd.2▸hl)
 |_,_,.bool b,_=>.bool b
 |_,_,.int k n,_=>.int k n
 |_,_,.string s,_=>.string s
 |_,_,.pointer k,hb=>.pointer (OAR.down H k (by simpa only[mxV] using hb))
 |_,_,.slice k l c,hb=>.slice (OAR.down H k (by simp only[mxV] at hb;omega)) l c
 |_,_,.empty k hg a',hb=>.empty (H k (by simp only[mxV] at hb;omega)) hg a'
 |_,_,.map k,hb=>.map (NR.down H k (by simpa only[mxV] using hb))
 |_,_,.chan k,hb=>.chan (NR.down H k (by simpa only[mxV] using hb))
 |_,_,.func f x y,hb=>by
  rw[aqW] at hb;exact .func (FR.down H f (by omega)) (bN.down x (by omega)) (bN.down y (by omega))
 |_,_,.nilFunc,_=>.nilFunc
 |_,_,.iface t k,hb=>.iface t (VR.down k (by simpa only[mxV] using hb))
 |_,_,.nilIface,_=>.nilIface
 |_,_,.agg k,hb=>.agg (bN.down k (by rwa [atO] at hb))
 |_,_,.tuple k,hb=>.tuple (bN.down k (by rwa [aov] at hb))
theorem bN.down:∀{u v:List Value},bN σ u v->mxL v<=D->bN ρ u v
 |_,_,.nil,_=>.nil
 |_,_,.cons k kl,hb=>.cons (VR.down k (by simp only[mxL] at hb;omega)) (bN.down kl (by simp only[mxL] at hb;omega))
end
def lK.down:∀{u v:List MapEntry},lK σ u v->mxE v<=D->lK ρ u v
 |_,_,.nil,_=>.nil
 |_,_,.cons (.mk k1 k2 b) kl,hb=>.cons (.mk (VR.down hd H k1 (by simp only[mxE] at hb;omega)) (VR.down hd H k2 (by simp only[mxE] at hb;omega)) b) (lK.down kl (by simp only[mxE] at hb;omega))
variable (hx:σ.lax=ρ.lax) (hle:ρ.Le σ)
include hx hle
theorem OR.down{u v v':Obj}(h:OR ρ u v')(k:OR σ v v')(b:mxO v'<=D):OR ρ v v':=by
 cases h with
 |cells h t C=>cases k with
  |cells k _ g=>
   refine .cells (bN.down hd H k b) t ?_;unfold ZR at g ⊢;rw[<-hx];exact g
 |map h c=>cases k with
  |map k _=>exact .map (lK.down hd H k b) c
 |stringIter s p=>cases k;exact .stringIter s p
 |number h l=>cases k with
  |number k _=>
   obtain⟨d,o,s⟩:=h;cases k with
   |mk f _ _=>
    have:=σ.inj (hle.r d) f;subst this;exact .number (.mk d o s) l
 |mapIter h s a n=>cases k with
  |mapIter k _ _ _=>
   cases h with
   |none=>cases k;exact .mapIter .none s a n
   |some h=>cases k with
    |some k=>
     have:=σ.inj (hle.r h) k;subst this;exact .mapIter (.some h) s a n
 |loop d f E z B F A e=>cases k with
  |loop i x q y r w m j=>
   have:=σ.inj (hle.r e) j;rw[this] at e;exact .loop i x q (bN.down hd H y b) r w m e
 |bD=>cases k;exact .bD
 |deferred=>cases k;exact .deferred
omit hd hx in
omit H in
theorem Ren.down{a b' : Nat}(h:ρ.r a b')(k:σ.r b b'):ρ.r b b':=by
 have:=σ.inj (hle.r h) k;subst this;exact h
omit hd hx in
omit H in
theorem je.down{P:Program}:∀{u v a:List Item},je P ρ u a->je P σ v a->je P ρ v a
 |_,_,_,.nil,.nil=>.nil
 |_,_,_,.cons h hl,.cons k kl=>.cons (by
   cases h with
   |code c=>cases k;exact .code c
   |inBlock id=>cases k;exact .inBlock id
   |inLoop c=>cases k;exact .inLoop c
   |inScope c=>cases k;exact .inScope c
   |inRegion h l=>cases k with
    |inRegion k _=>exact .inRegion k l
   |inRangeFunc h=>cases k with
    |inRangeFunc k=>exact .inRangeFunc (Ren.down hle h k)
   |endRangeFunc h=>cases k with
    |endRangeFunc k=>exact .endRangeFunc (Ren.down hle h k)
   |beginRound=>cases k;exact .beginRound) (je.down hl kl)
omit hd hx in
omit H in
theorem CDs.down:∀{u v a:List Deferred},CDs ρ u a->CDs σ v a->CDs ρ v a
 |_,_,_,.nil,.nil=>.nil
 |_,_,_,.cons h hl,.cons k kl=>.cons (Ren.down hle h k) (CDs.down hl kl)
omit hd hx in
omit H in
theorem NR.ayK{u v v':Option Nat}(h:NR ρ u v')(k:NR σ v v'):NR ρ v v':=by
 cases h with
 |none=>cases k;exact .none
 |some h=>cases k with
  |some k=>exact .some (Ren.down hle h k)
omit hx in
theorem FrR.down{u v v':Frame}(h:FrR P ρ u v')(k:FrR P σ v v')(a:mxL v'.tmps.toList<=D):FrR P ρ v v':=
 ⟨k.fn,bN.down hd H k.tmps a,je.down hle h.todo k.todo,CDs.down hle h.defers k.defers,k.mode,k.kind,NR.ayK hle h.round k.round⟩
omit hx in
theorem gZ.down{P:Program}:∀{u v a:List Frame},gZ P ρ u a->gZ P σ v a->ak2 a<=D->gZ P ρ v a
 |_,_,_,.one h h0,.one k k0,hb=>.one (FrR.down hd H hle h k (by simp only[ak2] at hb;omega)) k0
 |_,_,_,.cons h b,.cons k kl,hb=>.cons (FrR.down hd H hle h k (by simp only[ak2] at hb;omega)) (gZ.down b kl (by simp only[ak2] at hb;omega))
 |_,_,_,.one h h0,.cons k kl,_=>by cases kl
 |_,_,_,.cons h b,.one k k0,_=>by cases b
end
end
section
open Go Go.Conc Go.ConcN Go.RowKit
def ayL:∀i,i<20->cH.getD i 0<45/\acV[i]?=some (aoj (cH.getD i 0) 0)/\cH.contains (cH.getD i 0)=true:=by
 intro i a;have:i=0\/i=1\/i=2\/i=3\/i=4\/i=5\/i=6\/i=7\/i=8\/i=9\/i=10\/i=11\/i=12\/i=13\/i=14\/i=15\/i=16\/i=17\/i=18\/i=19:=by omega
 rcases this with rfl|rfl|rfl|rfl|rfl|rfl|rfl|rfl|rfl|rfl|rfl|rfl|rfl|rfl|rfl|rfl|rfl|rfl|rfl|rfl<;>exact⟨by decide,rfl,rfl⟩
def ayM{t:Nat}(h:cH.contains t=true):∃i,i<20/\cH.getD i 0=t:=by
 have b:t∈cH:=by simpa using h
 obtain⟨i,a,c⟩:=uf.1 b;exact⟨i,a,by rw[tc,jn a];exact c⟩
def awS:∀i,i<20->∀j,j<20->cH.getD i 0=cH.getD j 0->i=j:=by decide
section
variable {X:Cx} {T:Array Value} {k:List Item} {w:World}
def At.avH:∀(m i:Nat) {T:Array Value},i+m=20->At X T (.inRegion acV (List.range' i m)::k) w->(∀j,j<i->T.getD (cH.getD j 0) undef=.int .i64 0)->
  ∃T',At X T' (.inRegion acV []::k) w/\(∀j,j<20->T'.getD (cH.getD j 0) undef=.int .i64 0)/\Tm cH T T'
 |0,i,T,e,h,hd=>⟨T,h,λj u=>hd j (by omega),.refl _ _⟩
 |m+1,i,T,e,h,hd=>by
  have l:i<20:=by omega
  obtain⟨x,o,q⟩:=ayL i l;rw[List.range'_succ] at h;obtain⟨v,z,A,⟨t,y⟩,n,s,h⟩:=h.iK (d:=cH.getD i 0) (Φ:=λv g=>v=.int .i64 0/\g=w) o rfl rfl x λB g p=>iJ p;rw[t] at s;rw[y] at h;obtain⟨T',r,f,c⟩:=At.avH m (i+1) (by omega) h λj u=>by
   by_cases a:j=i
   .subst a;exact s
   .have b:cH.getD j 0≠cH.getD i 0:=λe=>a (awS j (by omega) i l e);rw[n.same _ (by simpa using b)];exact hd j (by omega)
  exact⟨T',r,f,(n.sw q).trans c⟩
def At.last{C:Addr}(h:At X T (.code aiW::k) w)(r:T.getD 27 undef=.slice (some C) n n):∃T' m,AtL X T' (.code cF::k) m/\(∀b,b<w.heap.size->m.heap[b]?=w.heap[b]?)/\w.heap.size<m.heap.size/\
  m.heap[w.heap.size]?=some (.cells #[.slice (some C) n n] 205 (0,0))/\T'.getD 17 undef=.slice (some C) n n/\T'.getD 8 undef=.pointer (some ⟨w.heap.size,0,none⟩)/\(∀t,cH.contains t=true->T'.getD t undef=.int .i64 0)/\Tm (8::17::cH) T T':=by
 unfold aiW at h;have h:=h.seq;replace h:=h.region (l:=[0,1,2]) rfl;obtain⟨v,G,H,⟨B,s⟩,L,a,F⟩:=h.iK (d:=17) (Φ:=λv g=>v=.slice (some C) n n/\g=w) rfl rfl rfl (by decide) λR g z=>let⟨v,P,Q,K⟩:=iJ z;⟨v,P,Q.trans r,K⟩
 rw[B] at a;rw[s] at F;obtain⟨v,G,S,⟨B,s⟩,E,o,f⟩:=F.iK (d:=8) (Φ:=λv g=>v=.pointer (some ⟨w.heap.size,0,none⟩)/\g=w.alloc (.cells #[.slice none 0 0] 205)) rfl rfl rfl (by decide) λR g z=>by
  have:=(aqQ (faQ true) (w:=w) (e:=(FQ cf H (.inRegion aix (1::[2]) :: .code (.seq (.region 59 acV false) cF)::k)).eval) (dst:=some 8) (ty:=0) (pos:= "") (af:=#[]) (gd:=none)).symm.trans z;cases this;exact⟨_,rfl,rfl,rfl⟩
 rw[B] at o;rw[s] at f;replace a:=(E.same 17 rfl).trans a;have q:(w.alloc (.cells #[.slice none 0 0] 205)).heap[w.heap.size]?=some (.cells #[.slice none 0 0] 205 (0,0)):=by
  show(w.heap.push _)[w.heap.size]?=_;rw[qn]
 have I:=aou (faQ true) (dst:=none) (ty:=0) (pos:= "") (af:=#[]) (gd:=none) (w:=w.alloc (.cells #[.slice none 0 0] 205)) (A:=⟨w.heap.size,0,none⟩) (u:=.slice (some C) n n) (c0:=.slice none 0 0)
  (e:=(FQ cf S (.inRegion aix (2::[]) :: .code (.seq (.region 59 acV false) cF)::k)).eval) (x:=.tmp 8) (y:=.tmp 17) ⟨_,_,_,rfl⟩ (by exact o) (by exact a) (ep q) (gC q)
 replace f:=(f.opk rfl rfl rfl I).iz.seq;replace f:=f.region (l:=List.range' 0 20) rfl;obtain⟨J,M,N,p⟩:=f.avH 20 0 (by rfl) (λj U=>by omega);refine⟨J,_,M.ayC,λb D=> ?_, ?_, ?_,(p.same 17 rfl).trans a,(p.same 8 rfl).trans o,λt c=> ?_, ?_⟩
 .rw[bm _ _ _ (by show w.heap.size≠b;omega)];exact rH w _ b D
 .rw[gE,pa];omega
 .exact uI q
 .obtain⟨i,O,rfl⟩:=ayM c;exact N i O
 .exact((L.mono λt c=>by simp at c;subst c;rfl).trans (E.mono λt c=>by simp at c;subst c;rfl)).trans (p.mono λt c=>by
   simp only[sH,qs];exact .inr (.inr c))
end
end
section
open Go Go.Conc Go.ConcN Go.RowKit
def aqX{ρ:Ren}:∀(x y:List Value),x.length=y.length->(∀(i:Nat) u v,x[i]?=some u->y[i]?=some v->VR ρ u v)->bN ρ x y
 |[],[],_,_=>.nil
 |[],_::_,h,_=>by cases h
 |_::_,[],h,_=>by cases h
 |a::x,b::y,hs,h=>.cons (h 0 a b rfl rfl) (aqX x y (by simpa using hs) λi u v c d=>h (i+1) u v (by simpa using c) (by simpa using d))
def ak3{x y:Array Value}(b:x.size=y.size)(h:∀(i:Nat) u v,x[i]?=some u->y[i]?=some v->VR ρ u v):cQ ρ x y:=
 aqX _ _ (by simpa using b) λi u v a c=>h i u v (by rw[<-ef];exact a) (by rw[<-ef];exact c)
def cQ.at{x y:Array Value}(h:cQ ρ x y)(d:x[i]?=some u)(b:y[i]?=some v):VR ρ u v:=by
 obtain⟨e,a,c⟩:=bN.get h (i:=i) (v:=u) (by rw[ef];exact d);rw[ef,b] at a;cases a;exact c
abbrev T0F(a:Array Value):Array Value:=a++Array.replicate (45-a.size) undef
def atP :Frame.enter (ah true) cf Y .normal=FQ cf (T0F Y) [.code ju]:=by
 have a:(ah true).funcs[cf]?=some (qFA true):=aci true;unfold Frame.enter;rw[a];rfl
def anh(h:T[i]?=some v):T.getD i undef=v:=by
 rw[gc,h];rfl
def dx(w:World)(b:Nat):Prop:=∃c t z,w.heap[b]?=some (.cells c t z)
def gD(a:w.cell? A=some v):dx w A.block:=by
 unfold World.cell? at a;cases b:w.heap[A.block]? with
 |none=>rw[b] at a;simp at a
 |some o=>
  rw[b] at a;cases o with
  |cells c t z=>exact⟨c,t,z,b⟩
  |_=>simp at a
def awT:(gL.all λg=>g ==0||g ==1)=true:=by unfold gL;kernel_rfl
structure ayN (ρ:Ren) (a':Array Value) (w:World) (key:Int) (A:Option Addr) (n c:Nat) (l:List gz) (A2:Option Addr) (n2 c2:Nat) (di:List Int):Prop where
 s0:(T0F a').getD 0 undef=.int .i64 key
 k1:1<=key
 k2:key<=99
 s1:(T0F a').getD 1 undef=.slice A n c
 nc:n<=c
 cm:(c:Int)<=9223372036854775807
 ln:l.length=n
 rd:RdP w A 0 l
 rg:∀i x,l[i]?=some x->∀a b m e,A=some a->w.cell? ((a.add (i*2)).add 1)=some (.slice (some b) m e)->0<e->∃y,ρ.r y b.block
 s2:(T0F a').getD 2 undef=.slice A2 n2 c2
 n2m:(n2:Int)<=2147483647
 n2c:n2<=c2
 c2m:(c2:Int)<=9223372036854775807
 nn:di.length=n2
 nm:∀i nm,di[i]?=some nm->aiX w A2 i nm
 gl:∀g∈gL,dx w g
 al:∀a,A=some a->0<c->∃b,ρ.r b a.block
 al2:∀a,A2=some a->0<c2->∃b,ρ.r b a.block
def aal(t:Nat):Bool:=t ==12||t ==14||decide (29<=t)
def ak4{t:Nat}(h:(l.all λx=>decide (x<29))=true)(c:29<=t):l.contains t=false:=by
 cases b:l.contains t with
 |false=>rfl
 |true=>
  have a:t∈l:=by simpa using b
  have:=jp.1 h t a;simp only[qq] at this;omega
def aqY{t:Nat}(h:aal t=true):mH.contains t=false/\cH.contains t=false/\(8::17::cH).contains t=false/\t≠8/\t≠17:=by
 simp only[aal,qs,mx,qq] at h;rcases h with(rfl|rfl)|h
 .exact⟨rfl,rfl,rfl,by decide,by decide⟩
 .exact⟨rfl,rfl,rfl,by decide,by decide⟩
 .exact⟨ak4 rfl h,ak4 rfl h,ak4 rfl h,by omega,by omega⟩
def uH(h:i<T.size):T[i]?=some (T.getD i undef):=by
 rw[gc,fi h];rfl
def ani:∀{l:List Value} {i:Nat} {v:Value},l[i]?=some v->mxV v<=mxL l
 |[],i,v,h=>by simp at h
 |x::l,0,v,h=>by simp at h;subst h;simp only[mxL];omega
 |x::l,i+1,v,h=>by
  have:=ani (l:=l) (i:=i) (v:=v) (by simpa using h);simp only[mxL];omega
def anj(h:(T0F Y)[i]?=some v):mxV v<=mxL Y.toList:=by
 unfold T0F at h;rw[rS] at h;split at h
 .exact ani (i:=i) (by rw[ef];exact h)
 .rw[tu] at h;split at h
  .cases h;have:mxV undef=0:=by
    show mxV (.tuple ⟨[]⟩)=0;simp only[mxV,mxL]
   omega
  .cases h
def ahv.cells(h:ahv w B i x)(k:∀A,w.cell? A=w'.cell? A):ahv w' B i x:=by
 obtain⟨⟨a,d,b,f⟩,c,e⟩:=h;exact⟨⟨a,d,(k _).symm.trans b,(k _).symm.trans f⟩,c,e⟩
def RdP.cells{A:Option Addr}{l:List gz}(h:RdP w A j l)(k:∀A,w.cell? A=w'.cell? A):RdP w' A j l:=λi x g=>by
 obtain⟨⟨a,B,c,o,d,f,n,q,m,p⟩,b⟩:=h i x g;exact⟨⟨a,B,c,o,(k _).symm.trans d,(k _).symm.trans f,n,q,m,λi y e=>(p i y e).cells k⟩,b⟩
def aqZ(w:World)(n:Nat):World:={w with heap:=w.heap++Array.replicate n (.deferred none)}
def aiZ(w:World)(n:Nat)(h:b<w.heap.size):(aqZ w n).heap[b]?=w.heap[b]?:=by
 show(w.heap++_)[b]?=_;rw[rb h]
def aow(w:World)(n:Nat)(A:Addr):(aqZ w n).cell? A=w.cell? A:=by
 by_cases h:A.block<w.heap.size
 .exact fF (aiZ w n h)
 .unfold World.cell?;rw[pH (by omega:w.heap.size<=A.block)];have:(aqZ w n).heap[A.block]?=none\/(aqZ w n).heap[A.block]?=some (.deferred none):=by
   show(w.heap++_)[A.block]?=none\/(w.heap++_)[A.block]?=_;rw[rS,bd (by omega),tu];split
   .exact .inr rfl
   .exact .inl rfl
  rcases this with e|e<;>rw[e]
def aox {fv:Int->List gz->Int->ByteArray×Bool} (hF:dX fv) {c:Cfg}  {m' : List Frame} (c0:cQ ρ a Y) (a7:gZ (ah true) ρ m m') (hc:c.l=Frame.enter (ah true) cf a .normal::m)
  (E:WR ρ c.w w') (hg:GlR ρ) (hW:jy (ah true) R c) :
  ∃M A n cc l A2 G c2 di c1,ayN ρ Y w' M A n cc l A2 G c2 di/\gQ (ah true) c1 c/\jy (ah true) R c1/\(∀b F,ρ.r b F->Rw c.w b->Rw c1.w b/\∀i u,anY u->c1.w.cell? ⟨b,i,none⟩=some u->c.w.cell? ⟨b,i,none⟩=some u)/\(∀b F,ρ.r b F->bB c.w b->NoB c.w b->c1.w.heap[b]?=c.w.heap[b]?)/\
   ∀(wr:World) (T X:Nat) (cs:Array Value),(∀b F,ρ.r b F->wr.heap[F]?=w'.heap[F]?)->wr.ou=w'.ou->w'.heap.size<=wr.heap.size->w'.heap.size<=T->w'.heap.size<=X->T≠X->wr.heap[T]?=some (.cells cs 216 (0,0))->cs.size=2*G->
    (∀i nm,di[i]?=some nm->cs[2*i]?=some (.string (fv M l nm).1)/\cs[2*i+1]?=some (.bool (fv M l nm).2))->wr.heap[X]?=some (.cells #[.slice (some ⟨T,0,none⟩) G G] 205 (0,0))->
    ∃p T2,ρ.Le p/\gZ (ah true) p c1.l (FQ cf T2 [.code cF]::m')/\WR p c1.w wr/\(∀b F,p.r b F->ρ.r b F\/F=T\/F=X)/\T2.size=(T0F Y).size/\(∀i,i<3->T2.getD i undef=(T0F Y).getD i undef)/\
     T2.getD 6 undef=.slice none 0 0/\T2.getD 7 undef=.bool false/\T2.getD 8 undef=.pointer (some ⟨X,0,none⟩)/\T2.getD 17 undef=.slice (some ⟨T,0,none⟩) G G/\(∀i,aal i=true->T2.getD i undef=(T0F Y).getD i undef):=by
 obtain⟨_,_,y,ys,e1,rfl⟩:=a7.ne';have bk:45<=(T0F Y).size:=by simp only[T0F,rA,rY];omega
 obtain⟨D,aO,ba,ci,bw⟩:∃D,w'.heap.size<=D/\mxH w'.heap.toList<=D/\mxL Y.toList<=D/\ak2 (y::ys)<=D:=⟨w'.heap.size+(mxH w'.heap.toList+(mxL Y.toList+ak2 (y::ys))),by omega,by omega,by omega,by omega⟩;obtain⟨w,S⟩:∃w,w=aqZ w' (D-w'.heap.size):=⟨_,rfl⟩;have b6:w.heap.size=D:=by
  rw[S];show(w'.heap++_).size=D;rw[rA,rY];omega
 have b4:∀{b},b<w'.heap.size->w.heap[b]?=w'.heap[b]?:=λ{b} h=>by rw[S];exact aiZ _ _ h
 have V:∀A,w.cell? A=w'.cell? A:=λA=>by rw[S];exact aow _ _ _
 have bi:w.ou=w'.ou:=by rw[S];rfl
 have c7:WR ρ c.w w:=⟨λ{b F} f=>by
  obtain⟨o,o',U,O,h3⟩:=E.obj f;exact⟨o,o',U,(b4 (E.lt f).2).trans O,h3⟩,E.os.trans bi.symm,E.jc.1,by rw[b6];exact ap E.jc.2 aO⟩
 clear S;have bo:FrR (ah true) ρ (Frame.enter (ah true) cf a .normal) (FQ cf (T0F Y) [.code ju]):=by rw[<-atP];exact aev true c0
 have h0:At ⟨R,c,ρ,w,y,ys⟩ (T0F Y) [.code ju] w:=⟨bk,c,ρ,.inl rfl,.refl _,by rw[hc];exact .cons bo a7,c7,hg,hW,Kept.refl _ _ _⟩;obtain⟨M,A,n,cc,l,T1,s0,k1,k2,⟨cM,bp⟩,⟨cz,ce⟩,s1,aR,aM,hl,hp,hR,bD,m1,s6,s7,U⟩:=h0.head;obtain⟨A2,G,c2,ao,T2,s2,bb,b8,b3,bL,bZ,cd,m2,cY,bl,bX,O⟩:=U.names;replace s2:=(m1.same 2 rfl).symm.trans s2;have bR:nL w (w.alloc (.cells ao 216)) G (([]:List Int).map (fv M l)):=by
  refine⟨λb f=>rH w _ b f,by rw[pa];omega,ao, ?_,cd,λi x J=>by simp at J⟩;show(w.heap.push _)[w.heap.size]?=_;rw[qn]
 have g0:=λt (h:mH.contains t=false) (h':cH.contains t=false)=>(m2.same t h').trans (m1.same t h);obtain⟨di,T3,w3,cn,bj,K,m3,bf,h3⟩:=At.avG hF k1 k2 hl aR aM hp (λa e h0=>bb a e (by omega)) b3 G 0 (by omega) O.block.loop ((g0 0 rfl rfl).trans s0) ((g0 1 rfl rfl).trans s1) ((g0 2 rfl rfl).trans s2) cY bl bX rfl (λi nm J=>by simp at J) bR;obtain⟨T4,w4,h4,aT,cp,c8,bt,s8,c5,m4⟩:=h3.last bf;obtain⟨b5,bg,cr,bx⟩:=K.row;have a5:w4.heap[w.heap.size]?=some (.cells b5 216 (0,0)):=(aT _ K.lt).trans bg;have co:∀b,b<w'.heap.size->w4.heap[b]?=w'.heap[b]?:=λb f=>((aT b (Nat.lt_trans (by omega) K.lt)).trans (K.low b (by omega))).trans (b4 f);have g1:=λt (h:mH.contains t=false) (h':cH.contains t=false) (bn:(8::17::cH).contains t=false)=>(m4.same t bn).trans ((m3.same t h').trans (g0 t h h'));have t6:T4.getD 6 undef=.slice none 0 0:=(m4.same 6 rfl).trans ((m3.same 6 rfl).trans ((m2.same 6 rfl).trans s6));have t7:T4.getD 7 undef=.bool false:=(m4.same 7 rfl).trans ((m3.same 7 rfl).trans ((m2.same 7 rfl).trans s7));have af:T4.size=(T0F Y).size:=m4.size.trans (m3.size.trans (m2.size.trans m1.size));obtain⟨cL,c1,C,q,b9⟩:=h4;obtain⟨x,xs,_,_,av,e2⟩:=q.st.ne';cases e2;have hq:=q.st;rw[av] at hq;have W:=hq.head;have c9:gZ (ah true) C xs (y::ys):=by cases hq with|cons _ h=>exact h
 have H:∀{a b:Nat},C.r a b->b<D->ρ.r a b:=λ{a b} h f=>(q.kept.new h).elim id λh=>by
  have:w.heap.size<=b:=h.2;omega
 have hd:C.dim=ρ.dim/\C.al=ρ.al:=⟨q.le.dim.symm,q.le.al.symm⟩;have cy:gN<=D:=ap E.jc.2 aO;have ax:C.lax=ρ.lax:=q.le.lax.symm;have aD:∀{i:Nat} {P:Addr} {n m:Nat},i<(T0F Y).size->(T0F Y).getD i undef=.slice (some P) n m->Rgd ⟨R,c,ρ,w,y,ys⟩ P.block->∃b,ρ.r b P.block:=λ{i P n m} J e h=>h.elim id λh=>by
  have f:=anj (uH J);rw[e] at f;simp only[mxV,mxA] at f;have h':w.heap.size<=P.block:=h;omega
 refine⟨M,A,n,cc,l,A2,G,c2,di,c1,⟨s0,k1,k2,s1,aR,aM,hl,hp.cells V,λi x hx P b0 m0 e0 hA iI Q=> ?_,s2,b3,bL,bZ,cn,λi nm J=> ?_,λg bT=> ?_,λP aa Q=> ?_,λP aa Q=> ?_⟩,b9,q.will,λb F f aW=>⟨(q.kept.poi f aW).1,λi u hu c6=>((q.kept.poi f aW).2 i u hu c6).1⟩,λb F f cb bO=>(q.kept.still f cb bO).1,λwr T X cs bS bG b7 cx cC ad cm cw aH bq=> ?_⟩
 .-- an item's row
  subst hA;obtain⟨⟨a1,B,c3,f1,f2,f3,f4,f5,f6,f7⟩, -⟩:=hp i x hx;cases f1;rw[ph] at f3;rw[<-V,f3] at iI;cases iI;obtain⟨z,hz⟩:∃z,x.2[0]?=some z:=⟨_,jn (by omega)⟩;obtain⟨⟨a2,ca,br, -⟩, -⟩:=f7 0 z hz;cases ca;have a4:=eW br;rw[qw] at a4;have J:i<n:=by rw[<-hl];exact(jt.1 hx).1
  rcases hR i J P b0 _ _ rfl f3 Q with h|h
  .exact h
  .have h':w.heap.size<=b0.block:=h;omega
 .obtain⟨P,f1,f2,f3⟩:=bj i nm J;exact⟨P,f1,(V _).symm.trans f2,f3⟩
 .have:=jp.1 awT g bT;simp only[qs,mx] at this;rcases this with rfl|rfl
  .exact gD ((V _).symm.trans bp)
  .exact gD ((V _).symm.trans ce)
 .subst aa;exact aD (by omega) s1 (bD P rfl Q)
 .subst aa;exact aD (by omega) s2 (b8 P rfl Q)
 have ct:w'.heap.size<=w.heap.size:=by omega
 have cu:w.heap.size<w3.heap.size:=K.lt
 let p:Ren:={
  r:=λa b=>ρ.r a b\/(b=T/\C.r a w.heap.size)\/(b=X/\C.r a w3.heap.size)
  lax:=ρ.lax
  dim:=ρ.dim
  al:=ρ.al
  fn:=λ{a b d} h k=>by
   rcases h with h|⟨rfl,h⟩|⟨rfl,h⟩<;>rcases k with k|⟨rfl,k⟩|⟨rfl,k⟩
   .exact ρ.fn h k
   .have:=C.fn (q.le.r h) k;have:=(E.lt h).2;omega
   .have:=C.fn (q.le.r h) k;have:=(E.lt h).2;omega
   .have:=C.fn (q.le.r k) h;have:=(E.lt k).2;omega
   .rfl
   .have:=C.fn h k;omega
   .have:=C.fn (q.le.r k) h;have:=(E.lt k).2;omega
   .have:=C.fn h k;omega
   .rfl
  inj:=λ{a b d} h k=>by
   rcases h with h|⟨rfl,h⟩|⟨rfl,h⟩<;>rcases k with k|⟨e,k⟩|⟨e,k⟩
   .exact ρ.inj h k
   .have:=(E.lt h).2;omega
   .have:=(E.lt h).2;omega
   .have:=(E.lt k).2;omega
   .exact C.inj h k
   .exact absurd e ad
   .have:=(E.lt k).2;omega
   .exact absurd e.symm ad
   .exact C.inj h k
  jc:=λ{a b} h=>by
   have:=E.jc.2;rcases h with h|⟨rfl,h⟩|⟨rfl,h⟩
   .exact ρ.jc h
   .have:=C.jc h;omega
   .have:=C.jc h;omega}
 have a0:ρ.Le p:=⟨.inl,rfl,rfl,rfl⟩;have down:∀{u v:Value},VR C u v->mxV v<=D->VR p u v:=λh f=>(VR.down hd H h f).mono a0;have ay:∀{u:Value},VR C u (.slice (some ⟨w.heap.size,0,none⟩) G G)->VR p u (.slice (some ⟨T,0,none⟩) G G):=λ{u} h=>by
  cases h with
  |slice hA=>cases hA with
   |some hA=>cases hA with
    |mk h o s=>exact .slice (.some (.mk (Or.inr (Or.inl ⟨rfl,h⟩)) 0 none)) _ _
  |empty hr cj _=>exact .empty (Or.inl (H hr (by have:=E.jc.2;omega))) cj _
  |fc hl _=>exact .fc (hd.1▸hl) rfl
 have c4:∀{u:Value},VR C u (.pointer (some ⟨w3.heap.size,0,none⟩))->VR p u (.pointer (some ⟨X,0,none⟩)):=λ{u} h=>by
  cases h with
  |pointer hA=>cases hA with
   |some hA=>cases hA with
    |mk h o s=>exact .pointer (.some (.mk (Or.inr (Or.inr ⟨rfl,h⟩)) 0 none))
  |fc hl _=>exact .fc (hd.1▸hl) rfl
 have zr:∀{n:Nat} {z z':Nat×Nat},ZR C n z z'->ZR p n z z':=λh=>by
  unfold ZR at h ⊢;rw[ax] at h;exact h
 have ck:b5=cs:=by
  apply sM;intro i;rcases nf i (2*G) with J|J
  .obtain⟨j,hj⟩:∃j,i=2*j\/i=2*j+1:=⟨i / 2,by omega⟩;obtain⟨nm,a3⟩:∃nm,di[j]?=some nm:=⟨_,jn (by omega)⟩;have b1:=bx j (fv M l nm) (by rw[qi,a3];rfl);have b2:=aH j nm a3;rcases hj with rfl|rfl
   .rw[b1.1,b2.1]
   .rw[b1.2,b2.2]
  .rw[pH (by omega),pH (by omega)]
 refine⟨p,(T4.setIfInBounds 17 (.slice (some ⟨T,0,none⟩) G G)).setIfInBounds 8 (.pointer (some ⟨X,0,none⟩)),a0, ?_,⟨λ{b F} f=> ?_, ?_, ?_, ?_⟩, ?_,by simpa using af,λi J=> ?_, ?_, ?_, ?_, ?_,λi J=> ?_⟩
 .-- frames
  rw[av];refine .cons ⟨W.fn, ?_, ?_, ?_,W.mode,W.kind, ?_⟩ ((gZ.down hd H q.le (e1▸a7) c9 bw).mono a0)
  .refine ak3 (by simp only[Array.size_setIfInBounds];exact bN.size W.tmps) λi u v hu I=> ?_;by_cases i8:i=8
   .subst i8;rw[oE (by simp;omega)] at I;cases I;exact c4 (cQ.at W.tmps hu (by rw[<-s8];exact uH (by show 8<T4.size;omega)))
   rw[ip (λe=>i8 e.symm)] at I;by_cases a6:i=17
   .subst a6;rw[oE (by omega)] at I;cases I;exact ay (cQ.at W.tmps hu (by rw[<-bt];exact uH (by show 17<T4.size;omega)))
   rw[ip (λe=>a6 e.symm)] at I;have N:VR C u v:=cQ.at W.tmps hu I;have L:=anh I;cases Z:cH.contains i with
   |true=>
    rw[c5 i Z] at L;subst L;exact down N (by simp only[mxV];omega)
   |false=>
    by_cases i6:i=6
    .subst i6;rw[t6] at L;subst L;exact down N (by simp only[mxV,mxA];omega)
    by_cases i7:i=7
    .subst i7;rw[t7] at L;subst L;exact down N (by simp only[mxV];omega)
    have ch:(T0F Y).getD i undef=v:=by
     rw[<-L];exact(g1 i (by simp only[mH,sH,Z];simp[i6,i7]) Z (by simp only[sH,Z];simp[i8,a6])).symm
    have a9:(T0F Y)[i]?=some v:=by
     have a4:i<(T0F Y).size:=by rw[<-af];exact(de.1 I).1
     rw[<-ch];exact uH a4
    exact down N (ap (anj a9) ci)
  .have ht:=W.todo;generalize x.todo=td at ht ⊢;cases ht with
   |cons U O=>cases U;cases O;exact .cons (.code _) .nil
  .have ht:=W.defers;generalize x.defers=td at ht ⊢;cases ht;exact .nil
  .have ht:=W.round;generalize x.roundOf=td at ht ⊢;cases ht;exact .none
 .-- objects
  rcases f with f|⟨rfl,f⟩|⟨rfl,f⟩
  .obtain⟨o,o',U,O,h3⟩:=q.wr.obj (q.le.r f);obtain⟨u,u',k1,k2,k3⟩:=E.obj f;have e:=co F (E.lt f).2;rw[O,k2] at e;cases e;exact⟨o,o',U,(bS _ _ f).trans k2,(OR.down hd H ax q.le k3 h3 (ap (ang (i:=F) (by rw[ef];exact k2)) ba)).mono a0⟩
  .obtain⟨o,o',U,O,h3⟩:=q.wr.obj f;rw[a5] at O;cases O;cases h3 with
   |@cells cl _ iI _ z _ a8=>
    refine⟨_,_,U,cm, ?_⟩;subst ck;refine .cells (ak3 (by simpa using iI.length) λi u v hu I=> ?_) _ (zr a8);have N:=cQ.at iI hu I;obtain⟨j,hj⟩:∃j,i=2*j\/i=2*j+1:=⟨i / 2,by omega⟩;have J:=(de.1 I).1;obtain⟨nm,a3⟩:∃nm,di[j]?=some nm:=⟨_,jn (by omega)⟩;have b2:=aH j nm a3;rcases hj with rfl|rfl
    .rw[b2.1] at I;cases I;exact down N (by simp only[mxV];omega)
    .rw[b2.2] at I;cases I;exact down N (by simp only[mxV];omega)
  .obtain⟨o,o',U,O,h3⟩:=q.wr.obj f;rw[c8] at O;cases O;cases h3 with
   |@cells cl _ iI _ z _ a8=>
    refine⟨_,_,U,bq,.cells (ak3 (by simpa using iI.length) λi u v hu I=> ?_) _ (zr a8)⟩;have J:=(de.1 I).1;have a9:i=0:=by simpa using J
    subst a9;cases I;exact ay (cQ.at iI hu rfl)
 .exact q.kept.os.1.trans (E.os.trans bG.symm)
 .exact ap E.jc.1 q.kept.size
 .exact ap E.jc.2 b7
 .rintro b F (h|⟨rfl,_⟩|⟨rfl,_⟩)
  .exact .inl h
  .exact .inr (.inl rfl)
  .exact .inr (.inr rfl)
 .rw[aG (by simp;omega),bd (by omega),aG (by omega),bd (by omega)];have:i=0\/i=1\/i=2:=by omega
  rcases this with rfl|rfl|rfl
  .exact g1 0 rfl rfl rfl
  .exact g1 1 rfl rfl rfl
  .exact g1 2 rfl rfl rfl
 .rw[aG (by simp;omega),bd (by decide),aG (by omega),bd (by decide)];exact t6
 .rw[aG (by simp;omega),bd (by decide),aG (by omega),bd (by decide)];exact t7
 .rw[aG (by simp;omega),dl rfl]
 .rw[aG (by simp;omega),bd (by decide),aG (by omega),dl rfl]
 .obtain⟨i1,i2,i3,i4,i5⟩:=aqY J;have e:((T4.setIfInBounds 17 (.slice (some ⟨T,0,none⟩) G G)).setIfInBounds 8 (.pointer (some ⟨X,0,none⟩))).getD i undef=T4.getD i undef:=by
   rw[aG (by simp;omega),bd i4,aG (by omega),bd i5]
  exact e.trans (g1 i i1 i2 i3)
end
section
open Go Go.Conc Go.ConcN Go.RowKit
def plV(V:Nat->Prop):Value->Prop
 |.int k _=>k ≠ .u8
 |.string _=>True
 |.slice (some a) _ _=>V a.block
 |_=>False
def aq1:Value->Bool
 |.func (.method _) _ _=>true
 |_=>false
mutual
def aeF:Value->List Value
 |.agg ⟨l⟩=>nM l
 |.tuple ⟨l⟩=>nM l
 |v=>if aq1 v then[v] else[]
def nM:List Value->List Value
 |[]=>[]
 |v::l=>aeF v++nM l
end
def agc:∀{l:List Value} {i:Nat} {v x:Value},l[i]?=some v->x∈aeF v->x∈nM l
 |[],i,v,x,h,_=>by simp at h
 |y::l,0,v,x,h,hx=>by simp at h;subst h;simp only[nM];exact rv _ hx
 |y::l,i+1,v,x,h,hx=>by simp only[nM];exact qM _ (agc (i:=i) (by simpa using h) hx)
def ayP:Obj->List Value
 |.cells c _ _=>nM c.toList
 |_=>[]
def fN(w:World):List Value:=w.heap.toList.flatMap ayP
def agd{c:Array Value}{x : Value}(d:w.heap[b]?=some (.cells c t z))(a:c[i]?=some v)(e:x∈aeF v):x∈fN w:=
 pb.2 ⟨.cells c t z,be (i:=b) (by rw[ef];exact d),by
  show x∈nM c.toList;exact agc (i:=i) (by rw[ef];exact a) e⟩
section
variable {ρ:Ren} (hl:ρ.dim=true)
include hl
mutual
theorem awW:∀(v:Value),(∀x∈aeF v,∃k,ρ.al k=some x)->∃u,VR ρ u v/\(∀k,u ≠ .int .u8 k)/\(anY u\/∀(g:Ren) d,g.al=ρ.al->VR g u d->d=v)
 |.bool b,_=>⟨_,.bool b,(λk e=>by cases e),.inr λg d _ h=>by cases h;rfl⟩
 |.int k n,_=>⟨_,.fc hl rfl,(λk e=>by cases e),.inl (.inl ⟨_,rfl⟩)⟩
 |.float k n,_=>⟨_,.fc hl rfl,(λk e=>by cases e),.inl (.inl ⟨_,rfl⟩)⟩
 |.complex k n m,_=>⟨_,.fc hl rfl,(λk e=>by cases e),.inl (.inl ⟨_,rfl⟩)⟩
 |.string s,_=>⟨_,.string s,(λk e=>by cases e),.inr λg d _ h=>by cases h;rfl⟩
 |.pointer none,_=>⟨_,.pointer .none,(λk e=>by cases e),.inr λg d _ h=>by cases h with|pointer h=>cases h;rfl⟩
 |.pointer (some a),_=>⟨_,.fc hl rfl,(λk e=>by cases e),.inl (.inl ⟨_,rfl⟩)⟩
 |.slice a l c,_=>⟨_,.fc hl rfl,(λk e=>by cases e),.inl (.inl ⟨_,rfl⟩)⟩
 |.map a,_=>⟨_,.fc hl rfl,(λk e=>by cases e),.inl (.inl ⟨_,rfl⟩)⟩
 |.chan a,_=>⟨_,.fc hl rfl,(λk e=>by cases e),.inl (.inl ⟨_,rfl⟩)⟩
 |.func (.func f) a c,_=>⟨_,.fc hl rfl,(λk e=>by cases e),.inl (.inl ⟨_,rfl⟩)⟩
 |.func (.methodOf t f) a c,_=>⟨_,.fc hl rfl,(λk e=>by cases e),.inl (.inl ⟨_,rfl⟩)⟩
 |.func (.via t p f q) a c,_=>⟨_,.fc hl rfl,(λk e=>by cases e),.inl (.inl ⟨_,rfl⟩)⟩
 |.func (.yield f) a c,_=>⟨_,.fc hl rfl,(λk e=>by cases e),.inl (.inl ⟨_,rfl⟩)⟩
 |.func (.method n) a c,hm=>by
  obtain⟨k,y⟩:=hm (.func (.method n) a c) (by simp[aeF,aq1]);refine⟨_,.aa1 k y,(λk e=>by cases e),.inr λg d B h=> ?_⟩;generalize j:anX k=u at h;cases h with
  |aa1 D z=>
   have e:k=D:=by
    unfold anX at j;injection j with _ _ A
    have:=fa Array.size A;simpa using this
   subst e;rw[B,y] at z;exact(dj z).symm
  |func o _ _=>
   unfold anX at j;injection j with C _ _
   subst C;cases o with
   |same f o=>cases o
  |_=>unfold anX at j;cases j
 |.nilFunc,_=>⟨_,.nilFunc,(λk e=>by cases e),.inr λg d _ h=>by cases h;rfl⟩
 |.iface t v,_=>⟨_,.fc hl rfl,(λk e=>by cases e),.inl (.inl ⟨_,rfl⟩)⟩
 |.nilIface,_=>⟨_,.nilIface,(λk e=>by cases e),.inr λg d _ h=>by cases h;rfl⟩
 |.agg ⟨l⟩,hm=>by
  obtain⟨r,i⟩:=awX l λx w=>hm x (by simpa only[aeF] using w);exact⟨.agg ⟨r⟩,.agg i,(λk e=>by cases e),.inl (.inr ⟨_,rfl⟩)⟩
 |.tuple ⟨l⟩,hm=>by
  obtain⟨r,i⟩:=awX l λx w=>hm x (by simpa only[aeF] using w);exact⟨.tuple ⟨r⟩,.tuple i,(λk e=>by cases e),.inl (.inl ⟨_,rfl⟩)⟩
theorem awX:∀(l:List Value),(∀x∈nM l,∃k,ρ.al k=some x)->∃a,bN ρ a l
 |[],_=>⟨[],.nil⟩
 |v::l,hm=>by
  obtain⟨x,c,_⟩:=awW v λx b=>hm x (by simp only[nM];exact rv _ b);obtain⟨a,d⟩:=awX l λx b=>hm x (by simp only[nM];exact qM _ b);exact⟨x::a,.cons c d⟩
end
end
def awY(L:List Value)(k:Nat):Option Value:=L[k]?
def ai0{L:List Value}{x:Value}(h:x∈L):∃k,awY L k=some x:=by
 obtain⟨k,a,e⟩:=uf.1 h;exact⟨k,by unfold awY;rw[jn a,e]⟩
def ak5{ρ:Ren}{Q:Nat->Value->Value->Prop}:∀(l:List Value) (j:Nat),(∀i v,l[i]?=some v->∃u,VR ρ u v/\Q (j+i) u v)->∃d,bN ρ d l/\∀i v,l[i]?=some v->∃u,d[i]?=some u/\Q (j+i) u v
 |[],_,_=>⟨[],.nil,λi v h=>by simp at h⟩
 |v::l,j,h=>by
  obtain⟨u,m,e⟩:=h 0 v rfl;obtain⟨d,f,k⟩:=ak5 l (j+1) λi x c=>by
   obtain⟨u,a,b⟩:=h (i+1) x (by simpa using c);exact⟨u,a,by rwa [show j+1+i=j+(i+1) by omega]⟩
  refine⟨u::d,.cons m f,λi x c=> ?_⟩;cases i with
  |zero=>simp at c;subst c;exact⟨u,rfl,e⟩
  |succ i=>
   obtain⟨g,a,b⟩:=k i x (by simpa using c);exact⟨g,by simpa using a,by rwa [show j+1+i=j+(i+1) by omega] at b⟩
def Ren.rows(V:Nat->Prop)(lax:Bool)(L:List Value):Ren where
 r a b:=a=b/\V a
 lax:=lax
 dim:=true
 al:=awY L
 fn:=λh k=>h.1.symm.trans k.1
 inj:=λh k=>h.1.trans k.1.symm
 jc:=λh=>by rw[h.1]
def avJ{V:Nat->Prop}(w:World)(F:∀b,V b->Obj):∃a:Array Obj,a.size=w.heap.size/\(∀b (h:V b),b<w.heap.size->a[b]?=some (F b h))/\∀b,¬V b->a[b]?=w.heap[b]?:=by
 classical
 refine⟨Array.ofFn λi:Fin w.heap.size=>if h:V i.1 then F i.1 h else w.heap[i],by simp,λb h c=> ?_,λb h=> ?_⟩
 .rw[vE,sU c];simp only[sU h]
 .rw[vE];by_cases c:b<w.heap.size
  .rw[sU c,fi c];simp only[dif_neg h];rfl
  .rw[dif_neg c,pH (by omega)]
theorem mask{w:World}{V:Nat->Prop}(hV:∀b,V b->dx w b)(hg:∀g∈gL,V g)(hN:gN<=w.heap.size) :
  ∃wL:World,WR (Ren.rows V true (fN w)) wL w/\GlR (Ren.rows V true (fN w))/\wL.heap.size=w.heap.size/\(∀b,V b->bB wL b/\NoB wL b)/\∀A v,w.cell? A=some v->V A.block->plV V v->wL.cell? A=some v:=by
 classical
 have row:∀b,V b->∃(c:Array Value) (t:TypeId) (z:Nat×Nat) (xs:List Value),w.heap[b]?=some (.cells c t z)/\bN (Ren.rows V true (fN w)) xs c.toList/\∀(i:Nat) v,c.toList[i]?=some v->∃u,xs[i]?=some u/\((∀k,u ≠ .int .u8 k)/\(plV V v->u=v)):=λb hb=>by
  obtain⟨c,t,z,hc⟩:=hV b hb;obtain⟨xs,h1,h2⟩:=ak5 (ρ:=Ren.rows V true (fN w)) (Q:=λ_ u v=>(∀k,u ≠ .int .u8 k)/\(plV V v->u=v)) c.toList 0 λi v hi=>by
   by_cases hp:plV V v
   .cases v with
    |int k n=>exact⟨_,.int k n,(λk' e=>by cases e;exact hp rfl),λ_=>rfl⟩
    |string s=>exact⟨_,.string s,(λk e=>by cases e),λ_=>rfl⟩
    |slice a l c=>cases a with
     |none=>exact hp.elim
     |some a=>
      obtain⟨b,o,s⟩:=a;have hr:(Ren.rows V true (fN w)).r b b:=⟨rfl,hp⟩;exact⟨_,.slice (.some (.mk hr o s)) l c,(λk e=>by cases e),λ_=>rfl⟩
    |_=>exact hp.elim
   .obtain⟨u,h1,h2, -⟩:=awW (ρ:=Ren.rows V true (fN w)) rfl v λx hx=>ai0 (agd hc (i:=i) (by rw[<-ef];exact hi) hx);exact⟨u,h1,h2,λh=>absurd h hp⟩
  exact⟨c,t,z,xs,hc,h1,h2⟩
 let F:∀b,V b->Obj:=λb hb=>.cells ⟨(row b hb).choose_spec.choose_spec.choose_spec.choose⟩ (row b hb).choose_spec.choose (0,max ((row b hb).choose.size+1) (row b hb).choose_spec.choose_spec.choose.2)
 have hF:∀b (hb:V b),∃(c:Array Value) (t:TypeId) (z:Nat×Nat) (xs:List Value),w.heap[b]?=some (.cells c t z)/\bN (Ren.rows V true (fN w)) xs c.toList/\(∀(i:Nat) v,c.toList[i]?=some v->∃u,xs[i]?=some u/\((∀k,u ≠ .int .u8 k)/\(plV V v->u=v)))/\F b hb=.cells ⟨xs⟩ t (0,max (c.size+1) z.2):=λb hb=>
  let h:=(row b hb).choose_spec.choose_spec.choose_spec.choose_spec
  ⟨_,_,_,_,h.1,h.2.1,h.2.2,rfl⟩
 obtain⟨heap,hs,h1,h2⟩:=avJ w F;have pz:∀b,V b->∃(c:Array Value) (t:TypeId) (z:Nat×Nat) (xs:List Value),w.heap[b]?=some (.cells c t z)/\heap[b]?=some (.cells ⟨xs⟩ t (0,max (c.size+1) z.2))/\bN (Ren.rows V true (fN w)) xs c.toList/\∀(i:Nat) v,c.toList[i]?=some v->∃u,xs[i]?=some u/\((∀k,u ≠ .int .u8 k)/\(plV V v->u=v)):=λb hb=>by
  obtain⟨c,t,z,xs,k1,k2,k3,k4⟩:=hF b hb;exact⟨c,t,z,xs,k1,(h1 b hb (de.1 k1).1).trans (fa some k4),k2,k3⟩
 refine⟨{w with heap},⟨λ{b b'} hb=> ?_,rfl,by show gN<=heap.size;omega,hN⟩,λg kU=>⟨rfl,hg g kU⟩,hs,λb hb=> ?_,λA v hc hA hp=> ?_⟩
 .obtain⟨rfl,hb⟩:=hb;obtain⟨c,t,z,xs,k1,k2,k3, -⟩:=pz b hb;have hlen:=k3.length;refine⟨_,_,k2,k1,.cells k3 t (.inr ⟨rfl,rfl, ?_,.inr ?_⟩)⟩
  .show xs.length<max _ _;simp at hlen;omega
  .show z.2<=max _ _;omega
 .obtain⟨c,t,z,xs,k1,k2,k3,k4⟩:=pz b hb;have hlen:=k3.length;simp at hlen;refine⟨⟨_,_,_,k2,rfl, ?_, ?_⟩,λc' t' z' hc' i k e=> ?_⟩
  .show xs.length<=max _ _;omega
  .show 0<max _ _;omega
  .have:heap[b]?=some (.cells c' t' z'):=hc';rw[k2] at this;cases this;have hi:i<c.toList.length:=by
    have:=(de.1 e).1;simp at this ⊢;omega
   obtain⟨u,q1,q2, -⟩:=k4 i _ (jn hi);have e':xs[i]?=some (.int .u8 k):=by simpa using e
   rw[q1] at e';exact q2 k (dj e')
 .obtain⟨c,t,z,xs,k1,k2,k3,k4⟩:=pz A.block hA;have k2':({w with heap}:World).heap[A.block]?=some (.cells ⟨xs⟩ t (0,max (c.size+1) z.2)):=k2;unfold World.cell? at hc ⊢;rw[k2'];rw[k1] at hc;cases hsp:A.spot with
  |some s=>simp[hsp] at hc
  |none=>
   simp[hsp] at hc ⊢;obtain⟨u,q1, -,q2⟩:=k4 A.off v (by rw[ef];exact hc);rw[q1,q2 hp]
end
section
open Go Go.Conc Go.ConcN Go.RowKit
def nN(Rr:aw)(S S':aw)(w w':World)(es:Array Event):Prop:=
 (∀b,b<w.heap.size->¬S b->w'.heap[b]?=w.heap[b]?)/\w.heap.size<=w'.heap.size/\w'.ou=w.ou/\S'=(λb=>S b\/(w.heap.size<=b/\b<w'.heap.size))/\∀e∈es,lT S' Rr w'.heap.size e
structure nO (Rl:aw->World->World->Prop) (Rr:aw):Prop where
 fg:∀S w,Rl S w w
 tr:∀S a b c,Rl S a b->Rl S b c->Rl S a c
 rl:∀S w w1,Rl S w w1->(∀b,S b\/Rr b->w1.heap[b]?=w.heap[b]?)/\w.heap.size<=w1.heap.size/\w1.ou=w.ou
def nO.cmp{Rl:aw->World->World->Prop}(h:nO Rl Rr):Cmp Rl (nN Rr) Rr:=⟨h.fg,h.tr,h.rl,λ_ _ _ _ a b c d=>⟨a,b,c,rfl,d⟩⟩
section
variable {P:Program} {main:Bool} {Rl:aw->World->World->Prop} {Gr Gr2:aw->aw->World->World->Array Event->Prop} {Stop age:aw->Goroutine->World->Prop} {Inv:aw->World->Prop}
def oD.inv(i:∀S w a,Inv S w->Rl S w a->Inv S a)(k:∀S d w c e,Inv S w->Gr S d w c e->Gr2 S d w c e/\Inv d c)(j:∀S g w,Stop S g w->Inv S w->age S g w):∀{T:ja} {S:aw} {g:Goroutine} {w:World},oD P main Rl Gr Stop T S g w->Inv S w->oD P main Rl Gr2 age T S g w
 |.leaf,_,_,_,h,hi=>λa b=>j _ _ _ (h a b) (i _ _ _ hi b)
 |.node f,_,_,_,h,hi=>Or.imp (λh a b=>j _ _ _ (h a b) (i _ _ _ hi b)) (λx=>⟨x.1,λa b=>
   let⟨q,c,e,d,o,l,m⟩:=x.2 a b
   let⟨n,p⟩:=k _ _ _ _ _ (i _ _ _ hi b) l
   ⟨q,c,e,d,o,n,oD.inv i k j m p⟩⟩) h
def bH.inv(f:∀S w c,Inv S w->Rl S w c->Inv S c)(j:∀S a w b d,Inv S w->Gr S a w b d->Gr2 S a w b d/\Inv a b)(e:∀S g w,Stop S g w->Inv S w->age S g w){S:aw}{g:Goroutine}(h:bH P main Rl Gr Stop S g w)(i:Inv S w):bH P main Rl Gr2 age S g w:=
 let⟨T,h⟩:=h;⟨T,oD.inv f j e h i⟩
end
def ak6   :(Frame.enter P f a .normal).mode=.run:=by
 unfold Frame.enter;cases P.funcs[f]?<;>rfl
def aoy{c:Cfg}(q:jy (ah false) R c)(i:c.l=Frame.enter (ah false) cf a .normal::m):False:=by
 obtain⟨n,t,s,d,f, -⟩:=q c.t λ_ _ _=>rfl;have b:c.l≠[]:=by rw[i];simp
 cases n with
 |zero=>
  simp only[runN,qg] at d;obtain⟨e, -⟩:=gh d;obtain rfl:=mo b f.ne e;obtain⟨u,l,p, -⟩:=f;rw[i] at l;cases l;rw[ak6] at p;cases p
 |succ n=>
  unfold runN at d;have r:Frame.enter (ah false) cf a .normal=⟨cf,T0F a,[.code (.refuse "")],[],.run,.normal,none⟩:=by
   have f:(ah false).funcs[cf]?=some (qFA false):=aci false;unfold Frame.enter;rw[f];rfl
  have g:∃o j k,stepG (ah false) true (Gl c.l [jw (ah false)]) (c.w.tap c.t)=.ended o j k:=by
   rw[i,r];simp only[Gl,stepG,stepG.exec];exact⟨_,_,_,rfl⟩
  obtain⟨o,j,k,g⟩:=g;rw[cg (iG b _) g] at d;cases d
def ayQ:jF (λ_=>false) (f219.body.getD .skip)=false:=by kernel_rfl
def ayR:jF (λ_=>false) (f112.body.getD .skip)=false:=by kernel_rfl
def ac2{fn:Func}(h:prog.funcs[f]?=some fn)(b:fn.body.isSome=true)(a:Array Value):(Frame.enter prog f a .normal).todo=[.code (fn.body.getD .skip)]:=by
 unfold Frame.enter;rw[h];obtain⟨c,d⟩:=qP.1 b;simp[d]
def avK{J:Nat->Bool}(d:jF J (f219.body.getD .skip)=false)(c:jF J (f112.body.getD .skip)=false):∀f,gH f=true->∀a,(Frame.enter prog f a .normal).todo.all (kT J)=false:=λf b a=>by
 rcases wZ b with rfl|rfl
 .rw[ac2 func112 amU];simp only[pQ,uM,tS,kT];exact c
 .rw[ac2 func219 amT];simp only[pQ,uM,tS,kT];exact d
def ahx:gH 149=false:=by unfold gH;kernel_rfl
def ai1{c:Array Value}(h:w.heap[A.block]?=some (.cells c t z))(a:w.cell? A=some v):c[A.off]?=some v:=by
 unfold World.cell? at a;rw[h] at a;cases b:A.spot with
 |some s=>simp[b] at a
 |none=>simpa[b] using a
def RgP(Rg:Nat->Prop)(w:World)(A:Option Addr)(l:List gz):Prop:=∀i x,l[i]?=some x->∀a b m e,A=some a->w.cell? ((a.add (i*2)).add 1)=some (.slice (some b) m e)->0<e->Rg b.block
def RgP.move{A:Option Addr}{l:List gz}(h:RgP Rg w A l)(k:∀a,A=some a->0<l.length->Rg a.block)(f:∀b,Rg b->w'.heap[b]?=w.heap[b]?):RgP Rg w' A l:=λi x d a b m e c j g=>
 h i x d a b m e c ((fF (by rw[qw,qw];exact f _ (k a c (Nat.lt_of_le_of_lt (du _) (jt.1 d).1)))).symm.trans j) g
def RdP.mask  {A:Option Addr} {l:List gz} (h:RdP w A 0 l) (D:RgP Rg w A l) (m:∀a,A=some a->0<l.length->Rg a.block)
  (g:∀A v,w.cell? A=some v->Rg A.block->plV (λb=>Rg b/\dx w b) v->Q.cell? A=some v):RdP Q A 0 l:=λi x q=>by
 obtain⟨⟨a,B,c,k,z,p,E,F,I,s⟩,G⟩:=h i x q;replace m:=λa e=>m a e (Nat.lt_of_le_of_lt (du _) (jt.1 q).1);have r:∀b,B=some b->Rg b.block:=λb C=>by
  subst C;rw[ph] at p;exact D i x q a b _ _ k p (by omega)
 have n:∀j y,x.2[j]?=some y->ahv Q B (0+j) y:=λj y J=>by
  obtain⟨⟨b,f,o,t⟩,K,u⟩:=s j y J;exact⟨⟨b,f,g _ _ o (by rw[qw];exact r b f) (by show IntKind.i64 ≠ .u8;decide),g _ _ t (by rw[qw,qw];exact r b f) trivial⟩,K,u⟩
 refine⟨⟨a,B,c,k,g _ _ z (by rw[qw];exact m a k) (by show IntKind.i64 ≠ .u8;decide),g _ _ p (by rw[qw,qw];exact m a k) ?_,E,F,I,n⟩,G⟩;obtain⟨y,H⟩:∃y,x.2[0]?=some y:=⟨_,jn (by omega)⟩;obtain⟨⟨b,f,o,t⟩, -⟩:=s 0 y H;subst f;have d:=gD o;rw[qw] at d;exact⟨r b rfl,d⟩
end
section
open Go Go.Conc Go.ConcN Go.RowKit
def ac3   :(Frame.enter P f a .normal).roundOf=none:=by
 unfold Frame.enter;cases P.funcs[f]?<;>rfl
def aoz{s:ByteArray}{b:Bool}{v':Value}(h:VR ρ (.agg #[.string s,.bool b]) v'):v'=.agg #[.string s,.bool b]:=by
 cases h with
 |@agg c e h=>
  obtain⟨l⟩:=e;change bN ρ [.string s,.bool b] l at h;cases h with
  |cons f a=>
   cases f;cases a with
   |cons g d=>cases g;cases d;rfl
def aq2 {f:Int->List gz->Int->ByteArray×Bool} (hF:dX f)  (hN:gN<=w.heap.size) (J:∀g∈gL,Rg g/\dx w g) {A:Option Addr} {l:List gz} {nm:Int}
  (k1:1<=key) (k2:key<=99) (hl:l.length=n) (z:n<=c) (D:(c:Int)<=9223372036854775807) (q:RdP w A 0 l) (N:RgP Rg w A l) (hA:∀a,A=some a->0<l.length->Rg a.block) (hn:0<n) (I:In_ nm)
  {main:Bool} {Rl:aw->World->World->Prop} (d:nO Rl Rr) (hR:∀b,(Rg b/\dx w b)->Rr b) {S:aw} {cfr:Frame} {cs:List Frame} :
  bH prog main Rl (nN Rr) (λ_ g _=>g=⟨cfr.finish (.agg #[.string (f key l nm).1,.bool (f key l nm).2]),cs,.running,none,none⟩) S
   (Gl (Frame.enter prog 149 #[.int .i64 key,.slice A n c,.int .i64 nm] .normal::[]) (cfr::cs)) w:=by
 obtain⟨k,h1,X,h3,h4,h5⟩:=mask (V:=λb=>Rg b/\dx w b) (λb h=>h.2) J hN;have M:=q.mask N hA λA v z Q hp=>h5 A v z ⟨Q,gD z⟩ hp;obtain⟨y,hy⟩:∃y,l[0]?=some y:=⟨_,jn (by omega)⟩;obtain⟨⟨a,_,_,e1,e2,_⟩,_⟩:=q 0 y hy;subst e1;have j:=gD e2;rw[qw] at j;have p:(Ren.rows (λb=>Rg b/\dx w b) true (fN w)).r a.block a.block:=⟨rfl,hA a rfl (by omega),j⟩;generalize T:(Ren.rows (λb=>Rg b/\dx w b) true (fN w))=ρ at h1 X p;have F:∀b r,ρ.r b r->Rr r/\bB k b/\NoB k b:=λb r x=>by
  subst T;obtain⟨rfl,Z⟩:=x;exact⟨hR _ Z,h4 _ Z⟩
 have u:cQ ρ #[.int .i64 key,.slice (some a) n c,.int .i64 nm] #[.int .i64 key,.slice (some a) n c,.int .i64 nm]:=by
  obtain⟨b,o,s⟩:=a;exact .cons (.int _ _) (.cons (.slice (.some (.mk p o s)) _ _) (.cons (.int _ _) .nil))
 have Y:∀t:Tape,Calls (ah false) 149 #[.int .i64 key,.slice (some a) n c,.int .i64 nm] (k.tap t) λe K=>∃v,e=.returned v/\v=.agg #[.string (f key l nm).1,.bool (f key l nm).2]:=λt=>by
  refine(hF false (k.tap t) key (some a) n c l nm k1 k2 hl z D (M.below λb x=>rfl) I).mono ?_;rintro e K ⟨v,rfl,hv, -⟩;exact⟨v,rfl,hv⟩
 generalize (#[.int .i64 key,.slice (some a) n c,.int .i64 nm]:Array Value)=args at u Y
 let R:List Frame->World->Prop:=λfs K=>∃C v,fs=[C]/\C.fn=149/\C.leaving (ah false) K (.returned v)/\v=.agg #[.string (f key l nm).1,.bool (f key l nm).2]
 have hW:jy (ah false) R ⟨[Frame.enter (ah false) 149 args .normal],k,λ_ _=>0⟩:=aah (Post:=λv _=>v=.agg #[.string (f key l nm).1,.bool (f key l nm).2]) λt _=>Y t;have P:Acc (gQ (ah false)) ⟨[Frame.enter (ah false) 149 args .normal],k,λ_ _=>0⟩:=hW.acc.transGen;have H:aiL (ah false) R Rr S ρ ⟨[Frame.enter (ah false) 149 args .normal],k,λ_ _=>0⟩ [Frame.enter prog 149 args .normal] w:=
  ⟨.one (aha (kR false) ahx u) ac3,h1,X,hW,λb r x=>.inr (F b r x)⟩
 have G:=aiN (kR false) (avv false) d.fg d.tr d.rl d.cmp.gr (avK ayQ ayR) (agb d.cmp) (main:=main) (base:=cfr::cs) P H (.inl rfl);refine bH.bind d.fg d.tr G λS1 g w1 ⟨c1,ρ1,l',hor,hle,hS1,fT,aAG,aCb,hW1,nJ,_,hend⟩=> ?_;subst fT;rcases hend with⟨hf,i⟩|⟨_,_,_,_,_,_,U,_⟩
 .obtain⟨_,_,y1,a0,_,e3⟩:=i.ne';obtain⟨C,m, -⟩:=id hf;have e4:=i.lone m e3;subst e4 e3;rw[m] at i;refine .step rfl λw2 Q=> ?_;obtain⟨r1,r2,r3⟩:=d.rl _ _ _ Q;have L:=aAG.rely nJ r1 r2 r3;obtain⟨σ,v,v',w3,E,es,O,t,q1,q2,q3,q4,q5,q6,B,q8,q9⟩:=atu (kR false) (t0:=c1.t) (Post:=λv _=>v=.agg #[.string (f key l nm).1,.bool (f key l nm).2]) i L λt ht=>by
   obtain⟨cj,v,W,_,e6,e7⟩:=hW1.fin hf acn t ht;rw[m] at W;cases W;exact⟨v,e6,e7⟩
  refine⟨_,E,O,_,q9 main cfr cs,⟨aiM nJ B,B.size',B.os.2,rfl,aqu nJ q6 B q8⟩,.stop λ_ _=> ?_⟩;subst q2;rw[aoz q5]
 .exact(aoy hW1 U).elim
end
section
open Go Go.Conc Go.ConcN Go.RowKit
abbrev SN(S:aw)(w w':World):aw:=λb=>S b\/(w.heap.size<=b/\b<w'.heap.size)
section
variable {P:Program} {main:Bool} {Rl:aw->World->World->Prop} {St:aw->Goroutine->World->Prop} {S Rr:aw} {w0:World} {f:FuncId} {T:Array Value} {k:List Item} {xs base:List Frame}
def lU (H:nO Rl Rr)    {d:Tmp} {ob:Obj} (j:d<T.size) (l:Z[i]?=some o) (s:o.guard=none) (c:o.dst=some d)
  (p:∀w,(execOp (FQ f T (.inRegion Z (i::rest)::k)).eval o).runT P w #[]=(.ok (.value (.pointer (some ⟨w.heap.size,0,none⟩))) (w.alloc ob),#[]))
  (u:∀w,Rl S w0 w->∀T':Array Value,T'.size=T.size->T'.getD d undef=.pointer (some ⟨w.heap.size,0,none⟩)->(∀t,t≠d->T'.getD t undef=T.getD t undef)->∀a,Rl (SN S w (w.alloc ob)) (w.alloc ob) a->bH P main Rl (nN Rr) St (SN S w (w.alloc ob)) (Gl (FQ f T' (.inRegion Z rest::k)::xs) base) a) :
  ∀w,Rl S w0 w->bH P main Rl (nN Rr) St S (Gl (FQ f T (.inRegion Z (i::rest)::k)::xs) base) w:=λw m=>by
 refine .step rfl λa g=> ?_;have n:=H.tr _ _ _ _ m g;refine⟨_,_,_,_,ana rfl rfl rfl rfl l s (p a),⟨λb r _=>rH a _ b r,by rw[pa];omega,rfl,rfl,λe v=>by cases(by simpa using sg v:False)⟩, ?_⟩;have:Frame.finish (FQ f T (.inRegion Z (i::rest)::k)) (.pointer (some ⟨a.heap.size,0,none⟩))=FQ f (T.setIfInBounds d (.pointer (some ⟨a.heap.size,0,none⟩))) (.inRegion Z rest::k):=by
  simp only[Frame.finish,l,qd,c]
 rw[this];exact u a n _ (by simp) (by rw[aG j,dl rfl]) (λt q=>by rw[aG j,bd q]) _ (H.fg _ _)
end
section
variable {P:Program} (F:FaT P) {w:World} {e:Operand->Value} {x:Operand} {dst:Option Tmp} {ty:TypeId} {pos:String} {af:Array Edge} {gd:Option (Nat×Bool)}
include F
theorem ai2:(execOp e ⟨dst,.alloc 216,ty,pos,af,gd⟩).runT P w #[]=(.ok (.value (.pointer (some ⟨w.heap.size,0,none⟩))) (w.alloc (.cells #[.string ⟨#[]⟩,.bool false] 216)),#[]):=by
 obtain⟨i,b,d,c,a⟩:=F.i258;simp[execOp,Instr.alloc,zeroValue,typeInfo,b,a,newVar,newRow,Value.cells]
theorem aq4{t:Tmp}{A:Option Addr}(h:e (.tmp t)=.slice A n c):(execOp e ⟨dst,.call ⟨.builtin .len,#[.tmp t],#[32]⟩,ty,pos,af,gd⟩).runT P w #[]=(.ok (.value (.int .i64 n)) w,#[]):=by
 rw[nK (s:=λv=>Builtin.len_ #[32] ty #[v]) λ_ v=>rfl,h];change Sem.runT P (Builtin.len_ #[32] ty #[.slice A n c] >>=λu=>pure (Next.value u)) w #[]=_;simp[Builtin.len_,lm F.u23,goInt]
omit F in
theorem aq5{y:Operand}{a b:Int}(d:e x=.int .i64 a)(c:e y=.int .i64 b):(execOp e ⟨dst,.binOp .lss 3 x y 3,ty,pos,af,gd⟩).runT P w #[]=(.ok (.value (.bool (decide (a<b)))) w,#[]):=by
 have:execOp e ⟨dst,.binOp .lss 3 x y 3,ty,pos,af,gd⟩=(binOp .lss 3 (e x) (e y)).bind λv=>Sem.pure (.value v):=rfl;rw[this,d,c];rfl
omit F in
theorem aq6:(prog.info? 9).map (·.size ==1)=some true/\(prog.info? 4).map (·.size ==1)=some true:=by
 constructor<;>kernel_rfl
omit F in
theorem ai3:(execOp e ⟨dst,.build 216 #[],ty,pos,af,gd⟩).runT prog w #[]=(.ok (.value (.agg #[.string ⟨#[]⟩,.bool false])) w,#[]):=by
 obtain⟨i,d,m,l,b⟩:=faT.i258;obtain⟨f,a,j⟩:=io.1 aq6.1;obtain⟨k,c,g⟩:=io.1 aq6.2;simp[execOp,Instr.build,zeroValue,typeInfo,d,b,lm underlying216,sizeOf,a,c,Instr.fill,Value.cells]
end
end
section
open Go Go.Conc Go.ConcN Go.RowKit
def atU{S:aw}(h:w'.heap.size=w.heap.size):SN S w w'=S:=by
 funext b
 show(S b\/(w.heap.size<=b/\b<w'.heap.size))=S b;rw[h];exact propext ⟨λx=>x.elim id λy=>absurd y.1 (by omega),.inl⟩
def aaO{c : Value}(b:ak1 u=true)(f:w.cell? A=some c)(d:w.frozen? A=false)(k:Sem S)(es:Array Event):(Sem.store .plain A u k).runT P w es=k.runT P (w.setCell A u) (es.push ⟨.cell A,true,false⟩):=by
 have a:(∀x,u ≠ .agg x)/\∀x,u ≠ .tuple x:=⟨λx e=>(by subst e;cases b),λx e=>(by subst e;cases b)⟩;rw[rB _ _ _ _ _ _ _ a.1 a.2];simp only[f,d,fd,qc];rfl
section
variable {P:Program} (F:FaT P) {w:World} {e:Operand->Value} {x y:Operand} {dst:Option Tmp} {ty:TypeId} {pos:String} {af:Array Edge} {gd:Option (Nat×Bool)}
include F
theorem agf{c1 : Value}(m:ak1 u0=true)(q:ak1 u1=true)(o:e x=.pointer (some A))(l:e y=.agg #[u0,u1])(a:w.cell? A=some c0)(d:w.frozen? A=false)(f:w.cell? (A.add 1)=some c1)(b:w.frozen? (A.add 1)=false) :
  (execOp e ⟨dst,.store 216 x y,ty,pos,af,gd⟩).runT P w #[]=(.ok .skip ((w.setCell A u0).setCell (A.add 1) u1),#[⟨.cell A,true,false⟩,⟨.cell (A.add 1),true,false⟩]):=by
 obtain⟨i,n,r, -⟩:=F.i258;have g:(storeCells A [u0,u1] 0).runT P w #[]=(.ok () ((w.setCell A u0).setCell (A.add 1) u1),#[⟨.cell A,true,false⟩,⟨.cell (A.add 1),true,false⟩]):=by
  show(Sem.store .plain (A.add 0) u0 (Sem.store .plain (A.add 1) u1 (Sem.pure ()))).runT P w #[]=_;have j:A.add 0=A:=by unfold Addr.add;simp
  rw[j,aaO m a d,aaO q (c:=c1) (by rw[tj _ _ _ _ (λe=>aqP e.symm)];exact f) (by rw[tY];exact b)];rfl
 have p:(storeCells A [u0,u1] 0).run P w=.ok () ((w.setCell A u0).setCell (A.add 1) u1):=by
  rw[<-qE _ _ _ #[]];exact fa Prod.fst g
 have k:(storeCells A [u0,u1] 0).events P w #[]=#[⟨.cell A,true,false⟩,⟨.cell (A.add 1),true,false⟩]:=fa Prod.snd g;simp[execOp,o,l,Instr.storeAt,Instr.sureAddr,storeVar,sizeOf,typeInfo,n,r,Value.cells,p,k]
theorem aq7{fn:Func}(c:fn.results=#[.cell 6 216])(m:T.getD 6 undef=.pointer (some A))(b:w.cell? A=some u0)(d:w.cell? (A.add 1)=some u1) :
  (results fn T).runT P w #[]=(.ok (.agg #[u0,u1]) w,#[⟨.cell A,false,false⟩,⟨.cell (A.add 1),false,false⟩]):=by
 obtain⟨i,k,p, -⟩:=F.i258;obtain⟨q,j⟩:=F.atG;have e:(loadCells A 2).runT P w #[]=(.ok #[u0,u1] w,#[⟨.cell A,false,false⟩,⟨.cell (A.add 1),false,false⟩]):=by
  show(Sem.load .plain (A.add 0) λo=>Sem.load .plain (A.add 1) λn=>Sem.pure #[o,n]).runT P w #[]=_;have f:A.add 0=A:=by unfold Addr.add;simp
  rw[f,Sem.runT];simp only[b];rw[Sem.runT];simp only[d];rfl
 have l:(loadCells A 2).run P w=.ok #[u0,u1] w:=by
  rw[<-qE _ _ _ #[]];exact fa Prod.fst e
 have g:(loadCells A 2).events P w #[]=#[⟨.cell A,false,false⟩,⟨.cell (A.add 1),false,false⟩]:=fa Prod.snd e;have a:T[6]?.getD undef=.pointer (some A):=by rw[<-gc];exact m
 simp[results,c,a,asAddr,loadVar,isAgg,lm j,sizeOf,typeInfo,k,p,l,g]
end
def atV{main:Bool}{Rl:aw->World->World->Prop}(H:nO Rl Rr){nm : Int}{A:Option Addr}{S:aw}{cfr:Frame}{cs:List Frame} :
  bH prog main Rl (nN Rr) (λ_ g _=>g=⟨cfr.finish (.agg #[.string ⟨#[]⟩,.bool false]),cs,.running,none,none⟩) S
   (Gl (Frame.enter prog 149 #[.int .i64 key,.slice A 0 c,.int .i64 nm] .normal::[]) (cfr::cs)) w:=by
 have C:=H.cmp;have F:Frame.enter prog 149 #[.int .i64 key,.slice A 0 c,.int .i64 nm] .normal=FQ 149 (#[.int .i64 key,.slice A 0 c,.int .i64 nm]++Array.replicate 26 undef) [.code (f149.body.getD .skip)]:=by
  unfold Frame.enter;rw[func149];rfl
 rw[F];obtain⟨T,hT,j,R⟩:∃T:Array Value,T=#[.int .i64 key,.slice A 0 c,.int .i64 nm]++Array.replicate 26 undef/\29<=T.size/\T.getD 1 undef=.slice A 0 c:=⟨_,rfl,by simp,by rw[gc,rb (by simp)];rfl⟩;rw[<-hT];clear hT F;simp only[f149,pS];have key:∀y,Rl S w y->bH prog main Rl (nN Rr) (λ_ g _=>g=⟨cfr.finish (.agg #[.string ⟨#[]⟩,.bool false]),cs,.running,none,none⟩) S (Gl (FQ 149 T [.code (f149.body.getD .skip)]::[]) (cfr::cs)) y:=by
  simp only[f149,pS];refine dR C (fw C (l:=[0]) rfl (lU H (d:=6) (aE (by decide) j) rfl rfl rfl (λw=>ai2 faT) λn aT T1 a k o=> ?_));replace R:=(o 1 (by decide)).trans R;replace j:=ap j (me a.symm);clear o a;have hB:(n.alloc (.cells #[.string ⟨#[]⟩,.bool false] 216)).heap[n.heap.size]?=some (.cells #[.string ⟨#[]⟩,.bool false] 216 (0,0)):=by
   show(n.heap.push _)[n.heap.size]?=_;rw[qn]
  have s:SN S n (n.alloc (.cells #[.string ⟨#[]⟩,.bool false] 216)) n.heap.size:=.inr ⟨am _,by rw[pa];omega⟩;have I:n.heap.size<(n.alloc (.cells #[.string ⟨#[]⟩,.bool false] 216)).heap.size:=by rw[pa];omega
  generalize SN S n (n.alloc (.cells #[.string ⟨#[]⟩,.bool false] 216))=S1 at s ⊢;generalize n.alloc (.cells #[.string ⟨#[]⟩,.bool false] 216)=w2 at hB I ⊢;generalize n.heap.size=B at hB s k I;refine gu C (dR C (dR C (fw C (l:=[0,1,2]) rfl ?_)));refine bK C (d:=11) (v:=.slice A 0 c) (es:=#[]) (aE (by decide) j) rfl rfl rfl (λw r=>eO R) (λw r=>bu _) λT2 a U o=> ?_;replace k:=(o 6 (by decide)).trans k;replace j:=ap j (me a.symm);clear o a;refine bK C (d:=12) (v:=.int .i64 (0:Nat)) (es:=#[]) (aE (by decide) j) rfl rfl rfl (λw r=>aq4 faT U) (λw r=>bu _) λT3 a E o=> ?_;replace k:=(o 6 (by decide)).trans k;replace j:=ap j (me a.symm);clear o a;refine bK C (d:=13) (v:=.int .i64 0) (es:=#[]) (aE (by decide) j) rfl rfl rfl (λw r=>eO rfl) (λw r=>bu _) λT4 a a0 o=> ?_;replace k:=(o 6 (by decide)).trans k;replace E:=(o 12 (by decide)).trans E;replace j:=ap j (me a.symm);clear o a;refine gu C (aey C (anc C (dR C (fw C (l:=[0]) rfl ?_))));refine bK C (d:=14) (v:=.bool (decide ((0:Int)<((0:Nat):Int)))) (es:=#[]) (aE (by decide) j) rfl rfl rfl (λw r=>aq5 a0 E) (λw r=>bu _) λT5 a z o=> ?_;replace k:=(o 6 (by decide)).trans k;replace j:=ap j (me a.symm);clear o a;replace z:T5.getD 14 undef=.bool false:=z.trans rfl;refine gu C (dR C (abt C (q:=false) z ?_));simp only[fd,qc];refine ane C rfl (dR C (fw C (l:=[0,1]) rfl ?_));refine bK C (d:=28) (v:=.agg #[.string ⟨#[]⟩,.bool false]) (es:=#[]) (aE (by decide) j) rfl rfl rfl (λw r=>ai3) (λw r=>bu _) λV a iy o=> ?_;replace k:=(o 6 (by decide)).trans k;replace j:=ap j (me a.symm);clear o a;have u:(⟨B,0,none⟩:Addr).add 1=⟨B,1,none⟩:=ir _ _ _;have keep:∀y,Rl S1 w2 y->y.heap[B]?=some (.cells #[.string ⟨#[]⟩,.bool false] 216 (0,0))/\B<y.heap.size:=λy hr=>by
   obtain⟨Z,r2, -⟩:=H.rl _ _ _ hr;exact⟨(Z B (.inl s)).trans hB,by omega⟩
  intro w3 Q;refine .step rfl λt Y=> ?_;obtain⟨L,b2⟩:=keep t (H.tr _ _ _ _ Q Y);have c0:=ep (i:=0) L;have c1:=ep (i:=1) L;refine⟨_,_,_,_,aex rfl rfl rfl rfl rfl rfl (agf faT (A:=⟨B,0,none⟩) (u0:=.string ⟨#[]⟩) (u1:=.bool false) (c0:=.string ⟨#[]⟩) (c1:=.bool false) rfl rfl k iy c0 (gC L) (by rw[u];exact c1) (by rw[u];exact gC L)),⟨λb hb hn=> ?_, ?_,rfl,rfl,λev F=> ?_⟩, ?_⟩
  .have G:B≠b:=λe=>hn (e▸s);rw[u,bm _ _ _ G,bm _ _ _ G]
  .rw[gE,gE];exact am _
  .have N:=sg F;simp only[rG,lE,rc,tT] at N;have M:B<((t.setCell ⟨B,0,none⟩ (.string ⟨#[]⟩)).setCell ((⟨B,0,none⟩:Addr).add 1) (.bool false)).heap.size:=by rw[gE,gE];exact b2
   rcases N with rfl|rfl
   .exact⟨λx p=>.inl (by simp[MemAct.ofEvent,MemAct.touch?] at p;rw[<-p];exact .inl s),λm D=>(by cases D),M⟩
   .refine⟨λx p=>.inl ?_,λm D=>(by cases D), ?_⟩
    .simp[MemAct.ofEvent,MemAct.touch?] at p;rw[<-p,u];exact .inl s
    .show((⟨B,0,none⟩:Addr).add 1).block<_;rw[qw];exact M
  have P:(λb=>S1 b\/(t.heap.size<=b/\b<((t.setCell ⟨B,0,none⟩ (.string ⟨#[]⟩)).setCell ((⟨B,0,none⟩:Addr).add 1) (.bool false)).heap.size))=S1:=atU (by rw[gE,gE]);rw[P];have J:((t.setCell ⟨B,0,none⟩ (.string ⟨#[]⟩)).setCell ((⟨B,0,none⟩:Addr).add 1) (.bool false)).heap[B]?=some (.cells #[.string ⟨#[]⟩,.bool false] 216 (0,0)):=by
   rw[u];exact uI (uI L)
  have X:B<((t.setCell ⟨B,0,none⟩ (.string ⟨#[]⟩)).setCell ((⟨B,0,none⟩:Addr).add 1) (.bool false)).heap.size:=by rw[gE,gE];exact b2
  generalize (t.setCell ⟨B,0,none⟩ (.string ⟨#[]⟩)).setCell ((⟨B,0,none⟩:Addr).add 1) (.bool false)=w5 at J X ⊢;refine gu (f:=149) (T:=V) C (w0:=w5) ?_ w5 (H.fg _ _);refine bH.still C (l2:=⟨149,V,[.code .ret],[],.returning,.normal,none⟩::[]) (es:=λ_=>#[]) (λw _=>by simp[Gl,stepG,stepG.exec]) (λ_ _ e h=>by cases(by simpa using h:False)) ?_;intro w6 O;refine .step rfl λw7 W=> ?_;obtain⟨Z,r2, -⟩:=H.rl _ _ _ (H.tr _ _ _ _ O W);have b7:=(Z B (.inl s)).trans J;have K:=aq7 faT (T:=V) (A:=⟨B,0,none⟩) (fn:=f149) rfl k (ep (i:=0) b7) (by rw[u];exact ep (i:=1) b7);refine⟨⟨cfr.finish (.agg #[.string ⟨#[]⟩,.bool false]),cs,.running,none,none⟩,w7,seen prog 149 #[⟨.cell ⟨B,0,none⟩,false,false⟩,⟨.cell ((⟨B,0,none⟩:Addr).add 1),false,false⟩],_, ?_,⟨λ_ _ _=>rfl,am _,rfl,rfl,λev F=> ?_⟩,.stop λ_ _=>rfl⟩
  .simp only[Gl,stepG,unwind,func149,K,qY];simp[doReturn,GStep.after]
  .have N:=sg F;simp only[rG,lE,rc,tT] at N;rcases N with rfl|rfl
   .exact⟨λx p=>.inl (by simp[MemAct.ofEvent,MemAct.touch?] at p;rw[<-p];exact .inl s),λm D=>(by cases D),by show B<_;omega⟩
   .refine⟨λx p=>.inl ?_,λm D=>(by cases D), ?_⟩
    .simp[MemAct.ofEvent,MemAct.touch?] at p;rw[<-p,u];exact .inl s
    .show((⟨B,0,none⟩:Addr).add 1).block<_;rw[qw];show B<_;omega
 exact key w (H.fg _ _)
end
section
open Go Go.Conc Go.ConcR Go.RowKit Go.Conc.Lib Go.ConcR.Gen
abbrev dY:WgLink:={add:=146,done:=148,wait:=150,relMerge:=176,disable:=177,enable:=178,inBubble:=179,associate:=180,fatal:=181,uOr:=182,uAdd:=183,raceRead:=184,uLoad:=185,uStore:=186,disassociate:=187,semrelease:=188,acquire:=190,isAssociated:=191,uCas:=192,raceWrite:=193,semacquire:=194,orU64:=212,addU64:=213,loadU64:=214,storeU64:=215,casU64:=218,tWgP:=240,tUP:=242,tAssoc:=244,tWg:=213,tAU:=211,tU64:=157,tUint:=111,tU32:=155,tPU32:=248,tPAU:=275,tPU64:=277,tNoCopy:=207,tANoCopy:=208,tAlign64:=209}
def aam:WgLib prog dY:=
 ⟨func146,func148,func150,func176,func177,func178,func179,func180,func181,func182,func183,func184,func185,func186,func187,func188,func190,func191,func192,func193,func194,func212,func213,func214,func215,func218,underlying240,Tryz.runUnderlying240,Tryz.sizeOf240,Tryz.isAgg240,Tryz.zeroValue240,underlying242,Tryz.runUnderlying242,Tryz.sizeOf242,Tryz.isAgg242,Tryz.zeroValue242,underlying244,Tryz.runUnderlying244,Tryz.sizeOf244,Tryz.isAgg244,Tryz.zeroValue244,underlying213,Tryz.runUnderlying213,Tryz.sizeOf213,Tryz.isAgg213,Tryz.zeroValue213,underlying211,Tryz.runUnderlying211,Tryz.sizeOf211,Tryz.isAgg211,Tryz.zeroValue211,underlying157,Tryz.runUnderlying157,Tryz.sizeOf157,Tryz.isAgg157,Tryz.zeroValue157,underlying111,Tryz.runUnderlying111,Tryz.sizeOf111,Tryz.isAgg111,Tryz.zeroValue111,underlying155,Tryz.runUnderlying155,Tryz.sizeOf155,Tryz.isAgg155,Tryz.zeroValue155,underlying248,Tryz.runUnderlying248,Tryz.sizeOf248,Tryz.isAgg248,Tryz.zeroValue248,underlying275,Tryz.runUnderlying275,Tryz.sizeOf275,Tryz.isAgg275,Tryz.zeroValue275,underlying277,Tryz.runUnderlying277,Tryz.sizeOf277,Tryz.isAgg277,Tryz.zeroValue277,underlying0,Tryz.runUnderlying0,Tryz.sizeOf0,Tryz.isAgg0,uR,underlying3,Tryz.runUnderlying3,Tryz.sizeOf3,Tryz.isAgg3,uQ,underlying4,Tryz.runUnderlying4,Tryz.sizeOf4,Tryz.isAgg4,uc,underlying9,Tryz.runUnderlying9,Tryz.sizeOf9,Tryz.isAgg9,Tryz.zeroValue9,underlying20,Tryz.runUnderlying20,Tryz.sizeOf20,Tryz.isAgg20,Tryz.zeroValue20,underlying21,Tryz.runUnderlying21,Tryz.sizeOf21,Tryz.isAgg21,Tryz.zeroValue21,(by kernel_rfl),(by kernel_rfl)⟩
end
section
open Go Go.Conc Go.ConcN Go.RowKit Go.Conc.Lib Go.ConcR.Gen Go.ConcN.Gen
open Go.ConcR (KK wgBlock WgAt stA smA rd wr mk Payload Aside2 DC0)
section
variable (P:Program) (R:World->World->Prop) (ty:TypeId) (Wg:Nat)
def ng(e:Mark)(m:Nat)(S:Goroutine->World->Prop)(g:Goroutine)(w:World):Prop:=
 g.status=.running/\∃a,stepG P true g w=.go a w #[mk e]/\Goes P true R DC0 S m a w
def ai4(S:Goroutine->World->Prop)(g:Goroutine)(w:World):Prop:=
 g.status=.running/\∀v:Nat,v<2147483647->WgAt ty Wg w (v*KK) 0->
  ∃a,stepG P true g w=.go a (w.setCell (stA Wg) (.int .u64 ((v+1)*KK))) #[rd (stA Wg),wr (stA Wg)]/\
   (v=0->Goes P true R DC0 (ng P R (.read ⟨Wg,1,none⟩) 120 (ng P R .enable 3 S)) 120 a (w.setCell (stA Wg) (.int .u64 ((v+1)*KK))))/\
   (v≠0->Goes P true R DC0 (ng P R .enable 3 S) 120 a (w.setCell (stA Wg) (.int .u64 ((v+1)*KK))))
end
section
variable {P:Program} {L:WgLink} {R:World->World->Prop} {Wg:Nat} {S:Goroutine->World->Prop}
 {b₀:Frame} {a₀:Act} {ops₀:Array Oper} {i₀:Nat} {rest₀:List Nat} {k₀:List Item} {cs:List Frame}
def aq8 (H:WgLib P L) (b:∀w d,WgLive L.tWg Wg w->R w d->WgLive L.tWg Wg d)
  (l:∀w,WgLive L.tWg Wg w->S (G (b₀.at (a₀.put ((ops₀[i₀]?).bind (·.dst)) (.tuple #[])) (.inRegion ops₀ rest₀::k₀)) cs) w)
  (w:World) (a:WgLive L.tWg Wg w) :
  Goes P true R DC0 (ng P R .disable 60 (ai4 P R L.tWg Wg S)) 30
   (G ((base L.add).at ⟨#[.pointer (some ⟨Wg,0,none⟩),.int .i64 1,undef,undef,undef,undef,undef,undef,undef,undef,undef,undef,undef,undef,undef,undef,undef,undef,undef,undef,undef,undef,undef,undef,undef,undef,undef,undef,undef,undef,undef,undef,undef,undef,undef,undef,undef,undef,undef,undef,undef,undef,undef,undef,undef,undef,undef,undef,undef,undef,undef,undef,undef,undef,undef,undef,undef,undef,undef,undef,undef,undef,undef,undef,undef,undef,undef,undef,undef,undef,undef,undef,undef,undef,undef,undef,undef,undef,undef,undef,undef,undef,undef,undef,undef,undef,undef,undef,undef,undef,undef,undef,undef,undef,undef,undef,undef,undef,undef,undef,undef,undef,undef,undef,undef,undef,undef,undef,undef,undef,undef,undef,undef,undef,undef,undef,undef],[]⟩ [.code (body_add L)]) (b₀.at a₀ (.inRegion ops₀ (i₀::rest₀)::k₀)::cs)) w:=by
 lib_facts
 simp only[body_add,addFn,pS]
 u_c iS (b _ _) a
 u_cond true (b _ _) a
 u_c iS (b _ _) a
 u_c iS (b _ _) a
 u_reg (b _ _) a
 u_op (b _ _) a
 u_op (b _ _) a
 u_c eg (b _ _) a
 u_cond false (b _ _) a
 u_c qS (b _ _) a
 u_c iS (b _ _) a
 u_reg (b _ _) a
 refine pW (λd c=> ?_);replace a:=b _ _ a c;clear c;refine⟨rfl,_,uo .disable (by simp) rfl rfl (by k_ne) rfl H.f_disable (x_disable_n L) (x_disable_b L) (x_disable_x L) (x_disable_f L), ?_⟩
 walk_nrm
 u_c eg (b _ _) a
 u_reg (b _ _) a
 u_defer (b _ _) a
 u_c eg (b _ _) a
 u_c iS (b _ _) a
 u_reg (b _ _) a
 u_op (b _ _) a
 u_c eg (b _ _) a
 u_c iS (b _ _) a
 u_c iS (b _ _) a
 u_reg (b _ _) a
 u_bub (b _ _) a
 u_c eg (b _ _) a
 u_cond false (b _ _) a
 u_c qS (b _ _) a
 u_c iS (b _ _) a
 u_reg (b _ _) a
 u_op (b _ _) a
 u_op (b _ _) a
 u_op (b _ _) a
 u_op (b _ _) a
 u_op (b _ _) a
 u_op (b _ _) a
 u_call H.f_uAdd (nm_uAdd L) uAddFn (b _ _) a
 u_c iS (b _ _) a
 u_reg (b _ _) a
 u_op (b _ _) a
 u_c eg (b _ _) a
 u_c iS (b _ _) a
 u_reg (b _ _) a
 u_op (b _ _) a
 u_op (b _ _) a
 u_op (b _ _) a
 u_op (b _ _) a
 refine pW (λd c=> ?_);replace a:=b _ _ a c;clear c;refine⟨rfl,λv B g=> ?_⟩;rcases mu v with rfl|o
 .replace g:WgAt L.tWg Wg d 0 0:=by simpa using g
  have z:(((0:Nat):Int)+1)*KK=KK:=by simp
  rw[z];have m:IntKind.u64.wrap (0+4294967296)=KK:=by decide
  refine⟨_,(stepG_add_atomic rfl rfl (by k_ne) rfl H.f_addU64 (x_addU64_n L) (x_addU64_b L) (x_addU64_x L) .u64 (x_addU64_f L) rfl rfl g.cellSt (g.thaw 0)).trans (by rw[m];rfl),λ_=> ?_,λh=>absurd rfl h⟩;replace a:WgLive L.tWg Wg (d.setCell (stA Wg) (.int .u64 KK)):=⟨_,_,g.setSt _⟩;clear g;simp only[KK] at a ⊢
  walk_nrm
  u_op (b _ _) a
  u_c eg (b _ _) a
  u_c rI (b _ _) a
  u_leave1 H.f_uAdd (b _ _) a
  u_op (b _ _) a
  u_c eg (b _ _) a
  u_c iS (b _ _) a
  u_c iS (b _ _) a
  u_reg (b _ _) a
  u_op (b _ _) a
  u_op (b _ _) a
  u_op (b _ _) a
  u_op (b _ _) a
  u_skip (b _ _) a
  u_skip (b _ _) a
  u_op (b _ _) a
  u_c eg (b _ _) a
  u_cond false (b _ _) a
  u_c qS (b _ _) a
  u_c iS (b _ _) a
  u_reg (b _ _) a
  u_op (b _ _) a
  u_op (b _ _) a
  u_op (b _ _) a
  u_op (b _ _) a
  u_c eg (b _ _) a
  u_c iS (b _ _) a
  u_reg (b _ _) a
  u_op (b _ _) a
  u_op (b _ _) a
  u_op (b _ _) a
  u_op (b _ _) a
  u_c eg (b _ _) a
  u_c iS (b _ _) a
  u_c iS (b _ _) a
  u_reg (b _ _) a
  u_op (b _ _) a
  u_op (b _ _) a
  u_op (b _ _) a
  u_op (b _ _) a
  u_op (b _ _) a
  u_op (b _ _) a
  u_op (b _ _) a
  u_op (b _ _) a
  u_op (b _ _) a
  u_op (b _ _) a
  u_c eg (b _ _) a
  u_cond true (b _ _) a
  u_reg (b _ _) a
  u_op (b _ _) a
  u_op (b _ _) a
  u_op (b _ _) a
  u_conv H.underlying_tPU32 H.room_tU32 (WgLive.cell1 a).choose_spec (b _ _) a
  refine pW (λd c=> ?_);replace a:=b _ _ a c;clear c;refine⟨rfl,_,ua .read (by simp) rfl rfl (by k_ne) rfl H.f_raceRead (x_raceRead_n L) (x_raceRead_b L) (x_raceRead_x L) (x_raceRead_f L) (ad:=⟨Wg,1,none⟩) (by simp[Act.eval]), ?_⟩
  walk_nrm
  u_c eg (b _ _) a
  u_c iS (b _ _) a
  u_c iS (b _ _) a
  u_reg (b _ _) a
  u_op (b _ _) a
  u_op (b _ _) a
  u_c eg (b _ _) a
  u_cond false (b _ _) a
  u_c qS (b _ _) a
  u_c iS (b _ _) a
  u_c iS (b _ _) a
  u_reg (b _ _) a
  u_op (b _ _) a
  u_op (b _ _) a
  u_op (b _ _) a
  u_skip (b _ _) a
  u_skip (b _ _) a
  u_op (b _ _) a
  u_op (b _ _) a
  u_skip (b _ _) a
  u_skip (b _ _) a
  u_skip (b _ _) a
  u_skip (b _ _) a
  u_op (b _ _) a
  u_c eg (b _ _) a
  u_cond false (b _ _) a
  u_c qS (b _ _) a
  u_c iS (b _ _) a
  u_c iS (b _ _) a
  u_reg (b _ _) a
  u_op (b _ _) a
  u_op (b _ _) a
  u_op (b _ _) a
  u_skip (b _ _) a
  u_skip (b _ _) a
  u_op (b _ _) a
  u_c eg (b _ _) a
  u_cond true (b _ _) a
  u_c rI (b _ _) a
  refine pW (λd c=> ?_);replace a:=b _ _ a c;clear c;refine⟨rfl,_,stepG_unwind_entry (v:=.tuple #[]) (evs:=#[mk .enable]) rfl H.f_enable (x_enable_n L) (x_enable_b L) (x_enable_x L) (x_enable_f L) (by simp[Extern.Race.none_]) (by simp[mk]) (by simp[mk]), ?_⟩
  u_leave0 H.f_add (b _ _) a
  exact pW λi f=>l _ (b _ _ a f)
 .obtain⟨V,j⟩:∃V:Int,V=(v:Int)+1:=⟨_,rfl⟩;obtain⟨St,e⟩:∃St:Int,St=V*KK:=⟨_,rfl⟩;have k:IntKind.u64.wrap ((v:Int)*KK+4294967296)=St:=by rw[IntKind.wrap_u64,e,j];simp only[KK];omega
  rw[<-j,<-e];have C:St / 4294967296=V:=by rw[e];simp only[KK];omega
  have q:bits .and .u64 St 2147483648=0:=by rw[e,j];have:=st_flag (v+1) 0 (by omega) (by omega);simpa[KK] using this
  have A:bits .and .u64 St 2147483647=0:=by rw[e,j];have:=st_waiters (v+1) 0 (by omega) (by omega);simpa[KK] using this
  have u:IntKind.i32.wrap V=V:=by rw[IntKind.wrap_i32];omega
  have n:1<V:=by omega
  have p:V<2147483648:=by omega
  have s:(V ==1)=false:=by simp;omega
  have D:=da (show ¬(V=1) by omega);have t:=da (show ¬(V<0) by omega);have y:=dq (show 0<V by omega);have x:(V ==0)=false:=by simp;omega
  have r:=da (show ¬(V=0) by omega);refine⟨_,(stepG_add_atomic rfl rfl (by k_ne) rfl H.f_addU64 (x_addU64_n L) (x_addU64_b L) (x_addU64_x L) .u64 (x_addU64_f L) rfl rfl g.cellSt (g.thaw 0)).trans (by rw[k];rfl),λh=>absurd h (by omega),λ_=> ?_⟩;replace a:WgLive L.tWg Wg (d.setCell (stA Wg) (.int .u64 St)):=⟨_,_,g.setSt _⟩;clear g e j k
  walk_nrm
  u_op (b _ _) a
  u_c eg (b _ _) a
  u_c rI (b _ _) a
  u_leave1 H.f_uAdd (b _ _) a
  u_op (b _ _) a
  u_c eg (b _ _) a
  u_c iS (b _ _) a
  u_c iS (b _ _) a
  u_reg (b _ _) a
  u_op (b _ _) a
  u_op (b _ _) a
  u_op (b _ _) a
  u_op (b _ _) a
  u_skip (b _ _) a
  u_skip (b _ _) a
  u_op (b _ _) a
  u_c eg (b _ _) a
  u_cnd false (b _ _) a
  u_c qS (b _ _) a
  u_c iS (b _ _) a
  u_reg (b _ _) a
  u_op (b _ _) a
  u_op (b _ _) a
  u_op (b _ _) a
  u_op (b _ _) a
  u_c eg (b _ _) a
  u_c iS (b _ _) a
  u_reg (b _ _) a
  u_op (b _ _) a
  u_op (b _ _) a
  u_op (b _ _) a
  u_op (b _ _) a
  u_c eg (b _ _) a
  u_c iS (b _ _) a
  u_c iS (b _ _) a
  u_reg (b _ _) a
  u_op (b _ _) a
  u_op (b _ _) a
  u_op (b _ _) a
  u_op (b _ _) a
  u_op (b _ _) a
  u_op (b _ _) a
  u_op (b _ _) a
  u_op (b _ _) a
  u_op (b _ _) a
  u_op (b _ _) a
  u_c eg (b _ _) a
  u_cnd false (b _ _) a
  u_c qS (b _ _) a
  u_c iS (b _ _) a
  u_c iS (b _ _) a
  u_reg (b _ _) a
  u_op (b _ _) a
  u_op (b _ _) a
  u_c eg (b _ _) a
  u_cnd false (b _ _) a
  u_c qS (b _ _) a
  u_c iS (b _ _) a
  u_c iS (b _ _) a
  u_reg (b _ _) a
  u_op (b _ _) a
  u_op (b _ _) a
  u_op (b _ _) a
  u_skip (b _ _) a
  u_skip (b _ _) a
  u_op (b _ _) a
  u_op (b _ _) a
  u_skip (b _ _) a
  u_skip (b _ _) a
  u_skip (b _ _) a
  u_skip (b _ _) a
  u_op (b _ _) a
  u_c eg (b _ _) a
  u_cnd false (b _ _) a
  u_c qS (b _ _) a
  u_c iS (b _ _) a
  u_c iS (b _ _) a
  u_reg (b _ _) a
  u_op (b _ _) a
  u_op (b _ _) a
  u_op (b _ _) a
  u_skip (b _ _) a
  u_skip (b _ _) a
  u_op (b _ _) a
  u_c eg (b _ _) a
  u_cnd true (b _ _) a
  u_c rI (b _ _) a
  refine pW (λd c=> ?_);replace a:=b _ _ a c;clear c;refine⟨rfl,_,stepG_unwind_entry (v:=.tuple #[]) (evs:=#[mk .enable]) rfl H.f_enable (x_enable_n L) (x_enable_b L) (x_enable_x L) (x_enable_f L) (by simp[Extern.Race.none_]) (by simp[mk]) (by simp[mk]), ?_⟩
  u_leave0 H.f_add (b _ _) a
  exact pW λi f=>l _ (b _ _ a f)
end
end
end Go.Proofs.YtblbaiejjagdoaaGreatDoor