/- A part of the proof. -/
import Derived.Test.YtlaobkmopohmnaaGreatDoorG8
import Derived.Conc.Holds
import Derived.OpenVars
import Derived.LaidMore
import Derived.Lay
import Derived.SevenTiedAt
import Derived.Test.YtlaobkmopohmnaaGreatDoorTie
import Derived.Test.YtlaobkmopohmnaaGreatDoorCards
import Derived.Conc.WgGenN3
import Derived.Orders
import Derived.Conc.AppendWalk
set_option maxRecDepth 100000
set_option maxHeartbeats 8000000
set_option linter.all false
open Go Go.Conc Go.ConcN Go.RowKit Go.Proofs.Tryz Go.Proofs.YtlaobkmopohmnaaGreatDoor
variable {Rr S:av} {V C b c i j m n:Nat} {key:Int} {ρ:Ren} {main:Bool} {U w w' w0:World} {cfr fr:Frame} {u v:Value} {f:FuncId} {t ty:TypeId} {P:Program} {l:List iP} {y:Operand} {Rg:Nat→Prop} {d:TypeDesc} {rest:List Nat} {g:Goroutine} {k:List Item} {z:Nat × Nat} {Q:Array Oper} {af:Array Edge} {listed:Array Bool} {xs:List Frame} {X T a cs x:Array Value} {A:Option Addr} {es:Array Event} {e:Operand→Value} {gd:Option (Nat × Bool)} {Y St:Goroutine→World→Prop} {R:List Frame→World→Prop} {W:List (ByteArray × Bool)} {Stop:av→Goroutine→World→Prop} {Z:Int→List iP→Int→ByteArray × Bool}
namespace Go.Proofs.YtlaobkmopohmnaaGreatDoor
def fb:=@_root_.Go.Conc.stepG_region_end
def li:=@_root_.Go.Conc.stepG_seq
def rJ:=@_root_.Go.Conc.stepG_skip
def sK:=@_root_.Go.Conc.stepG_ret'
def uh:=@_root_.Array.getElem?_replicate
def uM:=@_root_.Go.Conc.stepG_markAt
def uX:=@_root_.Go.Conc.stepG_mark0
def vI:=@_root_.Go.MakeChecks.laidMetH_plain
def wi:=@_root_.Bool.and_assoc
def wu:=@_root_.List.mem_iff_getElem
def wv:=@_root_.List.getElem?_append
def wH:=@_root_.Go.Claim7.new_of_sixth
def wJ:=@_root_.Array.getElem?_ofFn
section
open Go.RowKit Go.ChangeShapes Go.WideShapes Go.ChangeAt Go.Conc
section
variable {H:Type} {enc:TypeId×Value->H} {P:Program}
def abK{w:World}{a:Nat->Bool}:∀{b:List String} {c:List (DataW H)} {i:List MemPlace},DataW.TrodVars enc P w a b c i->c.length=b.length
 |[],[],_,_=>rfl
 |[],_::_,_,h=>h.elim
 |_::_,[],_,h=>h.elim
 |n::b,d::c,i,h=>by
  obtain⟨g,t,o,f,p,q,r,k,l,m,j,e⟩:=h;rw[fi,fi,abK j]
theorem an1 {f:Func} {s:ChangeSpec} {b:Bool} {W u:World} {args:Array Value} {i gs:List (DataW H)} {a:List MemPlace} {o:TypeId}
  (r:laidOutB P=true) (w:∀t∈f.params.toList,P.readableRec t=true/\t<P.types.size) (e:f.resultTypes=#[o]) (n:P.underlying o=some .bool) (m:varsRowed P s.vars=true)
  (c:s.fn H (i++gs)={results:=[.lit (.bool true)],args:=i,vars:=gs})
  (k:DataW.Whole enc P f.params.toList s.vars b W args.toList i gs a) (j:Below W.heap.size W u) :
  s.post enc P f b true false false W args (.bool true) u:=by
 have d:∀p∈a,p.block<W.heap.size:=λp v=>by simpa using k.lt p v
 have l:=k;obtain⟨p,q,B,z,rfl,A,y⟩:=k;refine⟨i,gs,p++q,[],p,q,l, ?_, ?_, ?_,World.keptBut_mono (λx g=>g.elim) (j.frame λ_=>False),λh=>by cases h⟩
 .rw[c,e];exact trodAll_mk1 (shut_bool n _)
 .rw[c];exact aaH r w B (λx g=>j.same (d x (by simp[g]))) (λx g=>by simpa using d x (by simp[g]))
 .rw[c];exact j.trodVars r m z
end
def xl (i:Looks) {p:Pinned} {s:OpenSpec} {c:OpenClaim} (k:List (List PathCond)) (kinds:List LaidKind) (a:Bool) (b:Bool×String) (d:Bool)
  (z:c.holds p s) (y:∀D∈k,(c.withDomain D).holds p s) (v:c.wfByText s=true) (l:∀D∈k,(c.withDomain D).wfByText s=true)
  (m:c.laidByTextAt i p kinds a)
  (e:c.start=.entering) (g:c.noBlocks=false/\c.again=false) (q:p.checked.prog.mainIs=some (b.1,b.2.toList)) (x:(!b.1&&b.2.isEmpty&&!d)=false)
  (n:∀f fn,p.checked.prog.funcNamed c.func=some f->p.checked.prog.funcs[f]?=some fn->d=p.checked.prog.looks []/\∀(j:Nat) t,fn.params[j]?=some t->p.checked.prog.wantsStandIn t=false)
  (w:true=c.goesBy p.checked.prog) :
  Claim7.holds p (.plain s) {stood:={row:=c,standIns:=[],harness:=b,looks:=d},kinds:=[],alts:=k,goes:=true,laidByText:=true,laidKinds:=kinds,laidTests:=a,laidLooks:=i}:=by
 have u:∀r:OpenClaim,Claim7.isSixth {stood:={row:=r,standIns:=[],harness:=b,looks:=d},kinds:=[]}=false:=λr=>by simpa[Claim7.isSixth] using x
 refine⟨Claim7.tied_new_at i kinds a (wH z b d e g q (u c) n) v,λD o=> ?_,m,(λh=>by cases h),w⟩;exact Claim7.tied_new_at i kinds a (wH (y D o) b d e g q (u _) n) (l D o)
abbrev laidL:List (String×DataW Unit):=[("unicode/utf8.acceptRanges",Rows.laid_unicode_utf8_acceptRanges),("loop.example/depositary/impl.errPiece",Rows.laid_loop_example_depositary_impl_errPiece),("loop.example/depositary/impl.errKey",Rows.laid_loop_example_depositary_impl_errKey),("unicode/utf8.first",Rows.laid_unicode_utf8_first)]
def xz(os:Os)(args:Array Value):laidMetH prog laidL ((World.laidAll prog os laidL).forCall (λ_ _=>0) ⟨#[],args,[]⟩).memory:=by
 rw[vI _ _ _ (by kernel_rfl)];exact laidMet_laidAll _ (by kernel_rfl) (by kernel_rfl)
end
section
open Go.Conc Go.ConcN Go.RowKit
structure pY (w0 w:World) (n:Nat) (res:List (ByteArray×Bool)):Prop where
 low:∀b,b<w0.heap.size->w.heap[b]?=w0.heap[b]?
 lt:w0.heap.size<w.heap.size
 row:∃cs,w.heap[w0.heap.size]?=some (.cells cs 151 (0,0))/\cs.size=2*n/\∀i x,res[i]?=some x->cs[2*i]?=some (.string x.1)/\cs[2*i+1]?=some (.bool x.2)
def setRow(h:w.heap[C]?=some (.cells cs t z)):(w.setCell ⟨C,i,none⟩ v).heap[C]?=some (.cells (cs.setIfInBounds i v) t z):=by
 unfold World.setCell;simp[pi,h]
def eX(h:w.heap[C]?=some (.cells cs t z)):w.cell? ⟨C,i,none⟩=cs[i]?:=by
 unfold World.cell?;simp[h]
def iB(h:w.heap[C]?=some (.cells cs t (0,0))):w.frozen? ⟨C,i,none⟩=false:=by
 unfold World.frozen?;simp[h]
def pY.below(h:pY w0 w n W)(c:Below w.heap.size w w'):pY w0 w' n W:=by
 obtain⟨e,f,d⟩:=h.row;exact⟨λb a=>(c.block b (Nat.lt_trans a h.lt)).trans (h.low b a),bd h.lt c.size,e,(c.block _ h.lt).trans f,d⟩
def pY.store(h:pY w0 w n W)(o:W.length<n)(x:ByteArray×Bool):pY w0 ((w.setCell ⟨w0.heap.size,2*W.length,none⟩ (.string x.1)).setCell ⟨w0.heap.size,2*W.length+1,none⟩ (.bool x.2)) n (W++[x]):=by
 obtain⟨p,l,g,j⟩:=h.row;refine⟨λb k=> ?_, ?_,_,setRow (setRow l),by simpa using g,λi y c=> ?_⟩
 .have d:w0.heap.size≠b:=by omega
  rw[bj _ _ _ d,bj _ _ _ d];exact h.low b k
 .rw[be,be];exact h.lt
 .rw[wv] at c;split at c
  .rename_i f;obtain⟨a,b⟩:=j i y c;constructor
   .rw[jt (by omega),jt (by omega)];exact a
   .rw[jt (by omega),jt (by omega)];exact b
  .rename_i m;have e:i=W.length:=by
    have:=(qu.1 c).1;simp at this;omega
   subst e;simp at c;subst c;constructor
   .rw[jt (by omega),qg (by omega)]
   .rw[qg (by simp;omega)]
abbrev inH(k:List Item):List Item:=.inLoop mF :: .inBlock 53::k
def afh:f89.body.isSome=true:=by kernel_rfl
def asx(β:Bool):∃fn,(ai β).funcs[89]?=some fn/\fn.body.isSome=true/\(fn.name == "runtime.NumGoroutine")=false:=by
 refine⟨pf f89, ?_, ?_,by have:=cJ func89;exact this⟩
 .rw[akA β (by decide) (by decide),func89];rfl
 .show(f89.body.map gP).isSome=true;rw[Option.isSome_map];exact afh
def ajR{β:Bool}{args:Array Value} :(callFunc 89 args).runT (ai β) w #[]=(.ok (.enter 89 args) w,#[]):=by
 obtain⟨fn,c,b,d⟩:=asx β;unfold callFunc;have f:¬fn.name= "runtime.NumGoroutine" :=by simpa using d
 have a:¬fn.body=none:=λe=>by rw[e] at b;cases b
 simp[c,f,a]
section
variable {X:Cx} {T:Array Value} {k:List Item} {w:World}
def At.aBj (hF:eL Z)  {Y : Option Addr}  {dF:List Int} (h:At X T (.code mF::inH k) w)
  (k1:1<=key) (k2:key<=99) (hl:l.length=n) (hc:n<=c) (ao:(c:Int)<=9223372036854775807) (hp:RdP w0 A 0 l) (a7:∀a,Y=some a->a.block<w0.heap.size) (aY:(V:Int)<=2147483647)
  (G:T.getD 0 undef=.int .i64 key) (s1:T.getD 1 undef=.slice A n c) (s2:T.getD 2 undef=.slice Y V C) (r:T.getD 16 undef=.int .i64 V) (o:T.getD 27 undef=.slice (some ⟨w0.heap.size,0,none⟩) V V) (g:T.getD 28 undef=.int .i64 j)
  (hj:j<=V) (al:dF.length=j) (p:pY w0 w V (dF.map (Z key l))) :
  (j=V/\∃T',Tm cT T T'/\T'.getD 27 undef=.slice (some ⟨w0.heap.size,0,none⟩) V V/\At X T' k w)\/
  (j<V/\∃nm T' w',ah2 w0 Y j nm/\Tm cT T T'/\T'.getD 16 undef=.int .i64 V/\T'.getD 27 undef=.slice (some ⟨w0.heap.size,0,none⟩) V V/\T'.getD 28 undef=.int .i64 (j+1:Nat)/\pY w0 w' V ((dF++[nm]).map (Z key l))/\At X T' (.code mF::inH k) w'):=by
 have q:=Tm.refl cT T;unfold Go.Proofs.YtlaobkmopohmnaaGreatDoor.mF at h;have h:=h.seq;replace h:=h.region (l:=[0]) rfl;obtain⟨v,H,b0,⟨D,B⟩,m,U,b⟩:=h.jz (d:=26) (Φ:=λv i=>v=.bool (decide ((j:Int)<V))/\i=w) rfl rfl rfl (by decide) λL i E=>gF (by exact g) (by exact r) E;rw[D] at U;rw[B] at b;replace G:=(m.same 0 rfl).trans G;replace s1:=(m.same 1 rfl).trans s1;replace s2:=(m.same 2 rfl).trans s2;replace r:=(m.same 16 rfl).trans r;replace o:=(m.same 27 rfl).trans o;replace g:=(m.same 28 rfl).trans g;replace q:=q.trans (m.sw rfl);replace h:=b;replace h:=h.jk.seq.cond U;by_cases Q:(j:Int)<V
 .right;rw[dj Q] at h;simp only[pu] at h;replace h:=h.skip.seq.seq;replace h:=h.region (l:=[0,1,2,3]) rfl;obtain⟨ii,hi,hz⟩:=(faQ true).i3;obtain⟨v,H,ay,⟨a,hB,D,B⟩,m,N,b⟩:=h.jz (d:=25) (Φ:=λv i=>∃a,Y=some a/\v=.pointer (some (a.add (j*ii.size)))/\i=w) rfl rfl rfl (by decide) λL i E=>ab8 (faQ true).u31 hi (by exact s2) (by exact g) (by omega) E;rw[D,hz,Nat.mul_one] at N;rw[B] at b;replace G:=(m.same 0 rfl).trans G;replace s1:=(m.same 1 rfl).trans s1;replace r:=(m.same 16 rfl).trans r;replace o:=(m.same 27 rfl).trans o;replace g:=(m.same 28 rfl).trans g;replace q:=q.trans (m.sw rfl);replace h:=b;have hv:=h.noV (t:=25) rfl rfl rfl N (λe w he=>aeV he);obtain⟨vv,H,aT,⟨M,B⟩,m,K,b⟩:=h.jz (d:=20) (Φ:=λv i=>w.cell? (a.add j)=some v/\i=w) rfl rfl rfl (by decide) λL i E=>aho (faQ true).u3 rfl (by exact N) hv.1 E;rw[B] at b;replace G:=(m.same 0 rfl).trans G;replace s1:=(m.same 1 rfl).trans s1;replace r:=(m.same 16 rfl).trans r;replace o:=(m.same 27 rfl).trans o;replace g:=(m.same 28 rfl).trans g;replace q:=q.trans (m.sw rfl);replace h:=b;obtain⟨v,H,aR,⟨z,aa,D,B⟩,m,F,b⟩:=h.jz (d:=22) (Φ:=λv i=>∃z,vv=.int .i64 z/\v=.int .i64 (IntKind.i64.wrap (z*1))/\i=w) rfl rfl rfl (by decide) λL i E=>let⟨v,a1,z,a2,a3,a4⟩:=aln E rfl;⟨v,a1,z,K.symm.trans a2,a3,a4⟩
  rw[D] at F;rw[B] at b;replace G:=(m.same 0 rfl).trans G;replace s1:=(m.same 1 rfl).trans s1;replace r:=(m.same 16 rfl).trans r;replace K:=(m.same 20 rfl).trans K;replace o:=(m.same 27 rfl).trans o;replace g:=(m.same 28 rfl).trans g;replace q:=q.trans (m.sw rfl);replace h:=b;subst aa;obtain⟨v,H,O,⟨D,B⟩,m,W,b⟩:=h.jz (d:=21) (Φ:=λv i=>v=.bool (IntKind.i64.wrap (z*1) ==z)/\i=w) rfl rfl rfl (by decide) λL i E=>alp (by exact F) (by exact K) E;rw[D] at W;rw[B] at b;replace G:=(m.same 0 rfl).trans G;replace s1:=(m.same 1 rfl).trans s1;replace r:=(m.same 16 rfl).trans r;replace K:=(m.same 20 rfl).trans K;replace F:=(m.same 22 rfl).trans F;replace o:=(m.same 27 rfl).trans o;replace g:=(m.same 28 rfl).trans g;replace q:=q.trans (m.sw rfl);replace h:=b;obtain⟨hq,b⟩:=h.jk.axT W;replace h:=b.seq;replace h:=h.region (l:=[0,1,2]) rfl;have kC:=abb hq;have a8:ah2 w0 Y j z:=⟨a,hB,by rw[<-gu (p.low (a.add j).block (by rw[rA];exact a7 a hB))];exact M,kC⟩;obtain⟨v,H,aG,⟨D,a5⟩,m,I,b⟩:=h.call (d:=24) (f:=89) (args:=#[.int .i64 key,.slice A n c,.int .i64 z]) rfl rfl rfl (by decide) (λw=>by
    have hm:Array.map (Frame.eval (FQ cD O (.inRegion ais [0,1,2] :: .code (.region 83 ait false)::inH k))) #[.tmp 0,.tmp 1,.tmp 20]=#[.int .i64 key,.slice A n c,.int .i64 z]:=by
     rw[<-G,<-s1,<-K];simp[Frame.eval]
    have e0:execOp (Frame.eval (FQ cD O (.inRegion ais [0,1,2] :: .code (.region 83 ait false)::inH k))) (iE (some 24) (.call ⟨.value (.func 89),#[.tmp 0,.tmp 1,.tmp 20],#[3,23,3]⟩) 151)=callFunc 89 #[.int .i64 key,.slice A n c,.int .i64 z]:=by
     simp only[execOp,iE,resolve];rw[hm];simp[Deferred.ofValue,invoke,Frame.eval];try rfl
    exact(jp (λs=>Sem.runT (ai true) s w #[]) e0).trans ajR) (hF true w key A n c l z k1 k2 hl hc ao (hp.below p.low) kC)
  rw[D] at I;replace p:=p.below a5;replace r:=(m.same 16 rfl).trans r;replace F:=(m.same 22 rfl).trans F;replace o:=(m.same 27 rfl).trans o;replace g:=(m.same 28 rfl).trans g;replace q:=q.trans (m.sw rfl);replace h:=b;obtain⟨i2,jX,a6, -⟩:=(faQ true).adF;obtain⟨v,w2,ad,⟨a2,an,D,B⟩,m,a0,b⟩:=h.jz (d:=23) (Φ:=λv i=>∃a,some (⟨w0.heap.size,0,none⟩:Addr)=some a/\v=.pointer (some (a.add (j*i2.size)))/\i=H) rfl rfl rfl (by decide) λL i E=>ab8 (faQ true).ahl jX (by exact o) (by exact g) (by omega) E;cases an;rw[D,a6,jf,lP,tO] at a0;rw[B] at b;replace r:=(m.same 16 rfl).trans r;replace F:=(m.same 22 rfl).trans F;replace I:=(m.same 24 rfl).trans I;replace o:=(m.same 27 rfl).trans o;replace g:=(m.same 28 rfl).trans g;replace q:=q.trans (m.sw rfl);replace h:=b;have R:=p.store (by simp;omega) (Z key l z);rw[qh,al] at R;obtain⟨cs,J,b1, -⟩:=p.row;obtain⟨u0,ax⟩:∃u,cs[2*j]?=some u:=⟨_,ge (by omega)⟩;obtain⟨u1,a9⟩:∃u,cs[2*j+1]?=some u:=⟨_,ge (by omega)⟩;have ha:(⟨w0.heap.size,2*j,none⟩:Addr).add 1=⟨w0.heap.size,2*j+1,none⟩:=jf _ _ _;have S:=aoH (faQ true) (dst:=none) (ty:=0) (pos:= "") (af:=#[]) (gd:=none) (w:=H) (A:=⟨w0.heap.size,2*j,none⟩) (u0:=.string (Z key l z).1) (u1:=.bool (Z key l z).2) (e:=(FQ cD ad (.inRegion ais (2::[]) :: .code (.region 83 ait false)::inH k)).eval) (x:=.tmp 23) (y:=.tmp 24) rfl rfl (by exact a0) (by exact I) ((eX J).trans ax) (iB J) (by rw[ha];exact(eX J).trans a9) (by rw[ha];exact iB J);rw[ha] at S;replace h:=h.opk rfl rfl rfl S;replace h:=h.jk.region (l:=[0,1]) rfl;generalize (H.setCell ⟨w0.heap.size,2*j,none⟩ (.string (Z key l z).1)).setCell ⟨w0.heap.size,2*j+1,none⟩ (.bool (Z key l z).2)=i at *;obtain⟨v,H,aI,⟨D,B⟩,m,F,b⟩:=h.jz (d:=22) (Φ:=λv P=>v=.int .i64 (IntKind.i64.wrap ((j:Int)+1))/\P=i) rfl rfl rfl (by decide) λL P E=>alo (by exact g) rfl E;rw[D] at F;rw[B] at b;replace r:=(m.same 16 rfl).trans r;replace o:=(m.same 27 rfl).trans o;replace g:=(m.same 28 rfl).trans g;replace q:=q.trans (m.sw rfl);replace h:=b;obtain⟨v,H,aJ,⟨D,B⟩,m,g,b⟩:=h.jz (d:=28) (Φ:=λv P=>v=.int .i64 (IntKind.i64.wrap ((j:Int)+1))/\P=i) rfl rfl rfl (by decide) λL P E=>let⟨v,a1,a2,a3⟩:=ahm E;⟨v,a1,a2.trans F,a3⟩
  rw[D] at g;rw[B] at b;replace r:=(m.same 16 rfl).trans r;replace o:=(m.same 27 rfl).trans o;replace q:=q.trans (m.sw rfl);replace h:=b;rw[aeW (by omega)] at g;exact⟨by omega,z,_,i,a8,q,r,o,g,by rw[tF];exact R,h.jk.again⟩
 .left;rw[bv Q] at h;simp only[kw,qK] at h;exact⟨by omega,_,q,o,h.exit rfl⟩
def At.awJ {G:Int->List iP->Int->ByteArray×Bool} (B:eL G) {w0:World} {key:Int} {A v:Option Addr} {n c d N:Nat} {l:List iP}
  (x:1<=key) (k2:key<=99) (D:l.length=n) (H:n<=c) (q:(c:Int)<=9223372036854775807) (C:RdP w0 A 0 l) (p:∀a,v=some a->a.block<w0.heap.size) (r:(d:Int)<=2147483647):∀(m j:Nat) {T:Array Value} {w:World} {s:List Int},d=j+m->At X T (.code mF::inH k) w->
  T.getD 0 undef=.int .i64 key->T.getD 1 undef=.slice A n c->T.getD 2 undef=.slice v d N->T.getD 16 undef=.int .i64 d->T.getD 27 undef=.slice (some ⟨w0.heap.size,0,none⟩) d d->T.getD 28 undef=.int .i64 j->s.length=j->(∀i nm,s[i]?=some nm->ah2 w0 v i nm)->pY w0 w d (s.map (G key l))->
  ∃(b:List Int) (T':Array Value) (u:World),b.length=d/\(∀i nm,b[i]?=some nm->ah2 w0 v i nm)/\pY w0 u d (b.map (G key l))/\Tm cT T T'/\T'.getD 27 undef=.slice (some ⟨w0.heap.size,0,none⟩) d d/\At X T' k u
 |0,j,T,w,s,e,h,s0,s1,s2,dB,je,ji,hnl,hnm,hrow=>by
  rcases h.aBj B x k2 D H q C p r s0 s1 s2 dB je ji (by omega) hnl hrow with⟨_,T',J,g,I⟩|⟨y,_⟩
  .exact⟨s,T',w,by omega,hnm,hrow,J,g,I⟩
  .omega
 |m+1,j,T,w,s,e,h,s0,s1,s2,dB,je,ji,hnl,hnm,hrow=>by
  rcases h.aBj B x k2 D H q C p r s0 s1 s2 dB je ji (by omega) hnl hrow with⟨W,_⟩|⟨y,nm,V,U,P,f,F,g,E,o,K⟩
  .omega
  .obtain⟨b,T',u,R,S,L,O,M,Q⟩:=At.awJ B x k2 D H q C p r m (j+1) (by omega) K ((f.same 0 rfl).trans s0) ((f.same 1 rfl).trans s1) ((f.same 2 rfl).trans s2) F g E (by simp[hnl]) (λi z t=>by
    rw[wv] at t;split at t
    .exact hnm i z t
    .have:i=j:=by
      have:=(qu.1 t).1;simp at this;omega
     subst this;simp[hnl] at t;subst t;exact P) o
   exact⟨b,T',u,R,S,L,f.trans O,M,Q⟩
end
end
section
open Go.Conc Go.ConcN
def mxA:Option Addr->Nat
 |none=>0
 |some a=>a.block+1
def mxN:Option Nat->Nat
 |none=>0
 |some a=>a+1
def avw:Fn->Nat
 |.yield l=>l+1
 |_=>0
mutual
def mxV:Value->Nat
 |.pointer a=>mxA a
 |.slice a _ _=>mxA a
 |.map a=>mxN a
 |.chan a=>mxN a
 |.func f ⟨a⟩ ⟨c⟩=>max (avw f) (max (mxL a) (mxL c))
 |.iface _ v=>mxV v
 |.agg ⟨l⟩=>mxL l
 |.tuple ⟨l⟩=>mxL l
 |_=>0
def mxL:List Value->Nat
 |[]=>0
 |v::l=>max (mxV v) (mxL l)
end
def mxE:List MapEntry->Nat
 |[]=>0
 |e::l=>max (max (mxV e.key) (mxV e.val)) (mxE l)
def mxO:Obj->Nat
 |.cells c _ _=>mxL c.toList
 |.map e _=>mxE e.toList
 |.loop l=>mxL l.tmps.toList
 |_=>0
def mxH:List Obj->Nat
 |[]=>0
 |o::l=>max (mxO o) (mxH l)
def anv:∀{l:List Obj} {i:Nat} {o:Obj},l[i]?=some o->mxO o<=mxH l
 |[],i,o,h=>by simp at h
 |x::l,0,o,h=>by simp at h;subst h;simp only[mxH];omega
 |x::l,i+1,o,h=>by
  have:=anv (l:=l) (i:=i) (o:=o) (by simpa using h);simp only[mxH];omega
def amh:List Frame->Nat
 |[]=>0
 |f::l=>max (mxL f.tmps.toList) (amh l)
def asz(f:Fn)(a c:Array Value):mxV (.func f a c)=max (avw f) (max (mxL a.toList) (mxL c.toList)):=by
 obtain⟨a⟩:=a;obtain⟨c⟩:=c;simp only[mxV]
def avx(a:Array Value):mxV (.agg a)=mxL a.toList:=by
 obtain⟨a⟩:=a;simp only[mxV]
def apt(a:Array Value):mxV (.tuple a)=mxL a.toList:=by
 obtain⟨a⟩:=a;simp only[mxV]
section
variable {ρ σ:Ren} {D:Nat} (hd:σ.dim=ρ.dim/\σ.al=ρ.al) (H:∀{a b:Nat},σ.r a b->b<D->ρ.r a b)
include H
theorem OAR.down{u v:Option Addr}(k:OAR σ u v)(a:mxA v<=D):OAR ρ u v:=by
 cases k with
 |none=>exact .none
 |some k=>cases k with
  |mk h o s=>exact .some (.mk (H h (by simp only[mxA] at a;omega)) o s)
theorem NR.down{u v:Option Nat}(k:NR σ u v)(a:mxN v<=D):NR ρ u v:=by
 cases k with
 |none=>exact .none
 |some h=>exact .some (H h (by simp only[mxN] at a;omega))
theorem FR.down{u v:Fn}(k:FR σ u v)(a:avw v<=D):FR ρ u v:=by
 cases k with
 |same f b=>exact .same _ b
 |yield h=>exact .yield (H h (by simp only[avw] at a;omega))
include hd
mutual
theorem VR.down:∀{u v:Value},VR σ u v->mxV v<=D->VR ρ u v
 |_,_,.fO hl k,_=>.fO (hd.1▸hl) k
 |_,_,.abn k hl,_=>.abn k (hd.2▸hl)
 |_,_,.bool b,_=>.bool b
 |_,_,.int k n,_=>.int k n
 |_,_,.string s,_=>.string s
 |_,_,.pointer k,hb=>.pointer (OAR.down H k (by simpa only[mxV] using hb))
 |_,_,.slice k l c,hb=>.slice (OAR.down H k (by simpa only[mxV] using hb)) l c
 |_,_,.map k,hb=>.map (NR.down H k (by simpa only[mxV] using hb))
 |_,_,.chan k,hb=>.chan (NR.down H k (by simpa only[mxV] using hb))
 |_,_,.func f x y,hb=>by
  rw[asz] at hb;exact .func (FR.down H f (by omega)) (bR.down x (by omega)) (bR.down y (by omega))
 |_,_,.nilFunc,_=>.nilFunc
 |_,_,.iface t k,hb=>.iface t (VR.down k (by simpa only[mxV] using hb))
 |_,_,.nilIface,_=>.nilIface
 |_,_,.agg k,hb=>.agg (bR.down k (by rwa [avx] at hb))
 |_,_,.tuple k,hb=>.tuple (bR.down k (by rwa [apt] at hb))
theorem bR.down:∀{u v:List Value},bR σ u v->mxL v<=D->bR ρ u v
 |_,_,.nil,_=>.nil
 |_,_,.cons k kl,hb=>.cons (VR.down k (by simp only[mxL] at hb;omega)) (bR.down kl (by simp only[mxL] at hb;omega))
end
def mQ.down:∀{u v:List MapEntry},mQ σ u v->mxE v<=D->mQ ρ u v
 |_,_,.nil,_=>.nil
 |_,_,.cons (.mk k1 k2 b) kl,hb=>.cons (.mk (VR.down hd H k1 (by simp only[mxE] at hb;omega)) (VR.down hd H k2 (by simp only[mxE] at hb;omega)) b) (mQ.down kl (by simp only[mxE] at hb;omega))
variable (hx:σ.lax=ρ.lax) (hle:ρ.Le σ)
include hx hle
theorem OR.down{u v v':Obj}(h:OR ρ u v')(k:OR σ v v')(b:mxO v'<=D):OR ρ v v':=by
 cases h with
 |cells h t C=>cases k with
  |cells k _ g=>
   refine .cells (bR.down hd H k b) t ?_;unfold ZR at g ⊢;rw[<-hx];exact g
 |map h c=>cases k with
  |map k _=>exact .map (mQ.down hd H k b) c
 |stringIter s p=>cases k;exact .stringIter s p
 |number h l=>cases k with
  |number k _=>
   obtain⟨d,o,s⟩:=h;cases k with
   |mk f _ _=>
    have:=σ.inj (hle.r d) f;subst this;exact .number (.mk d o s) l
 |mapIter h s a n=>cases k with
  |mapIter k _ _ _=>
   cases h with
   |none=>cases k;exact .mapIter .none s a n
   |some h=>cases k with
    |some k=>
     have:=σ.inj (hle.r h) k;subst this;exact .mapIter (.some h) s a n
 |loop d f E z B F A e=>cases k with
  |loop i x q y r w m j=>
   have:=σ.inj (hle.r e) j;rw[this] at e;exact .loop i x q (bR.down hd H y b) r w m e
 |bH=>cases k;exact .bH
 |deferred=>cases k;exact .deferred
omit hd hx in
omit H in
theorem Ren.down{a : Nat}(h:ρ.r a V)(k:σ.r b V):ρ.r b V:=by
 have:=σ.inj (hle.r h) k;subst this;exact h
omit hd hx in
omit H in
theorem jL.down{P:Program}:∀{u v a:List Item},jL P ρ u a->jL P σ v a->jL P ρ v a
 |_,_,_,.nil,.nil=>.nil
 |_,_,_,.cons h hl,.cons k kl=>.cons (by
   cases h with
   |code c=>cases k;exact .code c
   |inBlock id=>cases k;exact .inBlock id
   |inLoop c=>cases k;exact .inLoop c
   |inScope c=>cases k;exact .inScope c
   |inRegion h l=>cases k with
    |inRegion k _=>exact .inRegion k l
   |inRangeFunc h=>cases k with
    |inRangeFunc k=>exact .inRangeFunc (Ren.down hle h k)
   |endRangeFunc h=>cases k with
    |endRangeFunc k=>exact .endRangeFunc (Ren.down hle h k)
   |beginRound=>cases k;exact .beginRound) (jL.down hl kl)
omit hd hx in
omit H in
theorem CDs.down:∀{u v a:List Deferred},CDs ρ u a->CDs σ v a->CDs ρ v a
 |_,_,_,.nil,.nil=>.nil
 |_,_,_,.cons h hl,.cons k kl=>.cons (Ren.down hle h k) (CDs.down hl kl)
omit hd hx in
omit H in
theorem NR.aBk{u v v':Option Nat}(h:NR ρ u v')(k:NR σ v v'):NR ρ v v':=by
 cases h with
 |none=>cases k;exact .none
 |some h=>cases k with
  |some k=>exact .some (Ren.down hle h k)
omit hx in
theorem FrR.down{u v v':Frame}(h:FrR P ρ u v')(k:FrR P σ v v')(a:mxL v'.tmps.toList<=D):FrR P ρ v v':=
 ⟨k.fn,bR.down hd H k.tmps a,jL.down hle h.todo k.todo,CDs.down hle h.defers k.defers,k.mode,k.kind,NR.aBk hle h.round k.round⟩
omit hx in
theorem iR.down{P:Program}:∀{u v a:List Frame},iR P ρ u a->iR P σ v a->amh a<=D->iR P ρ v a
 |_,_,_,.one h h0,.one k k0,hb=>.one (FrR.down hd H hle h k (by simp only[amh] at hb;omega)) k0
 |_,_,_,.cons h b,.cons k kl,hb=>.cons (FrR.down hd H hle h k (by simp only[amh] at hb;omega)) (iR.down b kl (by simp only[amh] at hb;omega))
 |_,_,_,.one h h0,.cons k kl,_=>by cases kl
 |_,_,_,.cons h b,.one k k0,_=>by cases b
end
end
section
open Go Go.Conc Go.ConcN Go.RowKit
def aBl:∀i,i<20->cT.getD i 0<45/\ac9[i]?=some (aoa (cT.getD i 0) 0)/\cT.contains (cT.getD i 0)=true:=by
 intro i a;have:i=0\/i=1\/i=2\/i=3\/i=4\/i=5\/i=6\/i=7\/i=8\/i=9\/i=10\/i=11\/i=12\/i=13\/i=14\/i=15\/i=16\/i=17\/i=18\/i=19:=by omega
 rcases this with rfl|rfl|rfl|rfl|rfl|rfl|rfl|rfl|rfl|rfl|rfl|rfl|rfl|rfl|rfl|rfl|rfl|rfl|rfl|rfl<;>exact⟨by decide,rfl,rfl⟩
def aBm{t:Nat}(h:cT.contains t=true):∃i,i<20/\cT.getD i 0=t:=by
 have b:t∈cT:=by simpa using h
 obtain⟨i,a,c⟩:=wu.1 b;exact⟨i,a,by rw[sY,jn a];exact c⟩
def ayH:∀i,i<20->∀j,j<20->cT.getD i 0=cT.getD j 0->i=j:=by decide
section
variable {X:Cx} {T:Array Value} {k:List Item} {w:World}
def At.awK:∀(m i:Nat) {T:Array Value},i+m=20->At X T (.inRegion ac9 (List.range' i m)::k) w->(∀j,j<i->T.getD (cT.getD j 0) undef=.int .i64 0)->
  ∃T',At X T' (.inRegion ac9 []::k) w/\(∀j,j<20->T'.getD (cT.getD j 0) undef=.int .i64 0)/\Tm cT T T'
 |0,i,T,e,h,hd=>⟨T,h,λj u=>hd j (by omega),.refl _ _⟩
 |m+1,i,T,e,h,hd=>by
  have l:i<20:=by omega
  obtain⟨x,o,q⟩:=aBl i l;rw[List.range'_succ] at h;obtain⟨v,z,A,⟨t,y⟩,n,s,h⟩:=h.jz (d:=cT.getD i 0) (Φ:=λv g=>v=.int .i64 0/\g=w) o rfl rfl x λB g p=>jy p;rw[t] at s;rw[y] at h;obtain⟨T',r,f,c⟩:=At.awK m (i+1) (by omega) h λj u=>by
   by_cases a:j=i
   .subst a;exact s
   .have b:cT.getD j 0≠cT.getD i 0:=λe=>a (ayH j (by omega) i l e);rw[n.same _ (by simpa using b)];exact hd j (by omega)
  exact⟨T',r,f,(n.sw q).trans c⟩
def At.last{C:Addr}(h:At X T (.code ajb::k) w)(r:T.getD 27 undef=.slice (some C) n n):∃T' m,AtL X T' (.code cR::k) m/\(∀b,b<w.heap.size->m.heap[b]?=w.heap[b]?)/\w.heap.size<m.heap.size/\
  m.heap[w.heap.size]?=some (.cells #[.slice (some C) n n] 138 (0,0))/\T'.getD 17 undef=.slice (some C) n n/\T'.getD 8 undef=.pointer (some ⟨w.heap.size,0,none⟩)/\(∀t,cT.contains t=true->T'.getD t undef=.int .i64 0)/\Tm (8::17::cT) T T':=by
 unfold ajb at h;have h:=h.seq;replace h:=h.region (l:=[0,1,2]) rfl;obtain⟨v,G,H,⟨B,s⟩,L,a,F⟩:=h.jz (d:=17) (Φ:=λv g=>v=.slice (some C) n n/\g=w) rfl rfl rfl (by decide) λR g z=>let⟨v,P,Q,K⟩:=jy z;⟨v,P,Q.trans r,K⟩
 rw[B] at a;rw[s] at F;obtain⟨v,G,S,⟨B,s⟩,E,o,f⟩:=F.jz (d:=8) (Φ:=λv g=>v=.pointer (some ⟨w.heap.size,0,none⟩)/\g=w.alloc (.cells #[.slice none 0 0] 138)) rfl rfl rfl (by decide) λR g z=>by
  have:=(arp (faQ true) (w:=w) (e:=(FQ cD H (.inRegion aiu (1::[2]) :: .code (.seq (.region 59 ac9 false) cR)::k)).eval) (dst:=some 8) (ty:=0) (pos:= "") (af:=#[]) (gd:=none)).symm.trans z;cases this;exact⟨_,rfl,rfl,rfl⟩
 rw[B] at o;rw[s] at f;replace a:=(E.same 17 rfl).trans a;have q:(w.alloc (.cells #[.slice none 0 0] 138)).heap[w.heap.size]?=some (.cells #[.slice none 0 0] 138 (0,0)):=by
  show(w.heap.push _)[w.heap.size]?=_;rw[qX]
 have I:=aoI (faQ true) (dst:=none) (ty:=0) (pos:= "") (af:=#[]) (gd:=none) (w:=w.alloc (.cells #[.slice none 0 0] 138)) (A:=⟨w.heap.size,0,none⟩) (u:=.slice (some C) n n) (c0:=.slice none 0 0)
  (e:=(FQ cD S (.inRegion aiu (2::[]) :: .code (.seq (.region 59 ac9 false) cR)::k)).eval) (x:=.tmp 8) (y:=.tmp 17) ⟨_,_,_,rfl⟩ (by exact o) (by exact a) (eX q) (iB q)
 replace f:=(f.opk rfl rfl rfl I).jk.seq;replace f:=f.region (l:=List.range' 0 20) rfl;obtain⟨J,M,N,p⟩:=f.awK 20 0 (by rfl) (λj U=>by omega);refine⟨J,_,M.aAc,λb D=> ?_, ?_, ?_,(p.same 17 rfl).trans a,(p.same 8 rfl).trans o,λt c=> ?_, ?_⟩
 .rw[bj _ _ _ (by show w.heap.size≠b;omega)];exact rH w _ b D
 .rw[be,mp];omega
 .exact setRow q
 .obtain⟨i,O,rfl⟩:=aBm c;exact N i O
 .exact((L.mono λt c=>by simp at c;subst c;rfl).trans (E.mono λt c=>by simp at c;subst c;rfl)).trans (p.mono λt c=>by
   simp only[tG,rc];exact .inr (.inr c))
end
end
section
open Go Go.Conc Go.ConcN Go.RowKit
def asA{ρ:Ren}:∀(x y:List Value),x.length=y.length->(∀(i:Nat) u v,x[i]?=some u->y[i]?=some v->VR ρ u v)->bR ρ x y
 |[],[],_,_=>.nil
 |[],_::_,h,_=>by cases h
 |_::_,[],h,_=>by cases h
 |a::x,b::y,hs,h=>.cons (h 0 a b rfl rfl) (asA x y (by simpa using hs) λi u v c d=>h (i+1) u v (by simpa using c) (by simpa using d))
def ami{y : Array Value}(b:x.size=y.size)(h:∀(i:Nat) u v,x[i]?=some u->y[i]?=some v->VR ρ u v):dw ρ x y:=
 asA _ _ (by simpa using b) λi u v a c=>h i u v (by rw[<-ef];exact a) (by rw[<-ef];exact c)
def dw.at{y : Array Value}(h:dw ρ x y)(d:x[i]?=some u)(b:y[i]?=some v):VR ρ u v:=by
 obtain⟨e,a,c⟩:=bR.get h (i:=i) (v:=u) (by rw[ef];exact d);rw[ef,b] at a;cases a;exact c
abbrev T0F(a:Array Value):Array Value:=a++Array.replicate (45-a.size) undef
def avy :Frame.enter (ai true) cD X .normal=FQ cD (T0F X) [.code jZ]:=by
 have a:(ai true).funcs[cD]?=some (qFA true):=acB true;unfold Frame.enter;rw[a];rfl
def amF(h:T[i]?=some v):T.getD i undef=v:=by
 rw[iS,h];rfl
def eG(w:World)(b:Nat):Prop:=∃c t z,w.heap[b]?=some (.cells c t z)
def lQ{A:Addr}(a:w.cell? A=some v):eG w A.block:=by
 unfold World.cell? at a;cases b:w.heap[A.block]? with
 |none=>rw[b] at a;simp at a
 |some o=>
  rw[b] at a;cases o with
  |cells c t z=>exact⟨c,t,z,b⟩
  |_=>simp at a
def ayI:(gL.all λg=>g ==1||g ==2)=true:=by unfold gL;kernel_rfl
structure aBn (ρ:Ren) (a':Array Value) (w:World) (key:Int) (A:Option Addr) (n c:Nat) (l:List iP) (A2:Option Addr) (n2 c2:Nat) (dF:List Int):Prop where
 s0:(T0F a').getD 0 undef=.int .i64 key
 k1:1<=key
 k2:key<=99
 s1:(T0F a').getD 1 undef=.slice A n c
 nc:n<=c
 cm:(c:Int)<=9223372036854775807
 ln:l.length=n
 rd:RdP w A 0 l
 rg:∀i x,l[i]?=some x->∀a b m e,A=some a->w.cell? ((a.add (i*2)).add 1)=some (.slice (some b) m e)->∃y,ρ.r y b.block
 s2:(T0F a').getD 2 undef=.slice A2 n2 c2
 n2m:(n2:Int)<=2147483647
 n2c:n2<=c2
 c2m:(c2:Int)<=9223372036854775807
 nn:dF.length=n2
 nm:∀i nm,dF[i]?=some nm->ah2 w A2 i nm
 gl:∀g∈gL,eG w g
 al:∀a,A=some a->∃b,ρ.r b a.block
 al2:∀a,A2=some a->∃b,ρ.r b a.block
def aau(t:Nat):Bool:=t ==12||t ==14||decide (29<=t)
def amj{l:List Nat}{t:Nat}(h:(l.all λx=>decide (x<29))=true)(c:29<=t):l.contains t=false:=by
 cases b:l.contains t with
 |false=>rfl
 |true=>
  have a:t∈l:=by simpa using b
  have:=lw.1 h t a;simp only[qY] at this;omega
def asB{t:Nat}(h:aau t=true):mH.contains t=false/\cT.contains t=false/\(8::17::cT).contains t=false/\t≠8/\t≠17:=by
 simp only[aau,rc,nf,qY] at h;rcases h with(rfl|rfl)|h
 .exact⟨rfl,rfl,rfl,by decide,by decide⟩
 .exact⟨rfl,rfl,rfl,by decide,by decide⟩
 .exact⟨amj rfl h,amj rfl h,amj rfl h,by omega,by omega⟩
def vL(h:i<T.size):T[i]?=some (T.getD i undef):=by
 rw[iS,ge h];rfl
def anw:∀{l:List Value} {i:Nat} {v:Value},l[i]?=some v->mxV v<=mxL l
 |[],i,v,h=>by simp at h
 |x::l,0,v,h=>by simp at h;subst h;simp only[mxL];omega
 |x::l,i+1,v,h=>by
  have:=anw (l:=l) (i:=i) (v:=v) (by simpa using h);simp only[mxL];omega
def anx(h:(T0F X)[i]?=some v):mxV v<=mxL X.toList:=by
 unfold T0F at h;rw[sW] at h;split at h
 .exact anw (i:=i) (by rw[ef];exact h)
 .rw[uh] at h;split at h
  .cases h;have:mxV undef=0:=by
    show mxV (.tuple ⟨[]⟩)=0;simp only[mxV,mxL]
   omega
  .cases h
def ahp.cells{B:Option Addr}{x:Int×ByteArray}(h:ahp w B i x)(k:∀A,w.cell? A=w'.cell? A):ahp w' B i x:=by
 obtain⟨⟨a,d,b,f⟩,c,e⟩:=h;exact⟨⟨a,d,(k _).symm.trans b,(k _).symm.trans f⟩,c,e⟩
def RdP.cells(h:RdP w A j l)(k:∀A,w.cell? A=w'.cell? A):RdP w' A j l:=λi x g=>by
 obtain⟨⟨a,B,c,o,d,f,n,q,m,p⟩,b⟩:=h i x g;exact⟨⟨a,B,c,o,(k _).symm.trans d,(k _).symm.trans f,n,q,m,λi y e=>(p i y e).cells k⟩,b⟩
def asC(w:World)(n:Nat):World:={w with heap:=w.heap++Array.replicate n (.deferred none)}
def ajS(w:World)(n:Nat)(h:b<w.heap.size):(asC w n).heap[b]?=w.heap[b]?:=by
 show(w.heap++_)[b]?=_;rw[rU h]
def apu(w:World)(n:Nat)(A:Addr):(asC w n).cell? A=w.cell? A:=by
 by_cases h:A.block<w.heap.size
 .exact gu (ajS w n h)
 .unfold World.cell?;rw[qj (by omega:w.heap.size<=A.block)];have:(asC w n).heap[A.block]?=none\/(asC w n).heap[A.block]?=some (.deferred none):=by
   show(w.heap++_)[A.block]?=none\/(w.heap++_)[A.block]?=_;rw[sW,da (by omega),uh];split
   .exact .inr rfl
   .exact .inl rfl
  rcases this with e|e<;>rw[e]
def anY (hF:eL Z) {c:Cfg}  {m m':List Frame} (c0:dw ρ a X) (a8:iR (ai true) ρ m m') (hc:c.l=Frame.enter (ai true) cD a .normal::m)
  (F:WR ρ c.w w') (hg:GlR ρ) (hW:jY (ai true) R c) :
  ∃M A n cc l A2 E c2 dF c1,aBn ρ X w' M A n cc l A2 E c2 dF/\iD (ai true) c1 c/\jY (ai true) R c1/\(∀b K,ρ.r b K->Rw c.w b->Rw c1.w b/\∀i u,ad1 u->c1.w.cell? ⟨b,i,none⟩=some u->c.w.cell? ⟨b,i,none⟩=some u)/\
   ∀(wr:World) (Q V:Nat) (cs:Array Value),(∀b K,ρ.r b K->wr.heap[K]?=w'.heap[K]?)->wr.ou=w'.ou->w'.heap.size<=wr.heap.size->w'.heap.size<=Q->w'.heap.size<=V->Q≠V->wr.heap[Q]?=some (.cells cs 151 (0,0))->cs.size=2*E->
    (∀i nm,dF[i]?=some nm->cs[2*i]?=some (.string (Z M l nm).1)/\cs[2*i+1]?=some (.bool (Z M l nm).2))->wr.heap[V]?=some (.cells #[.slice (some ⟨Q,0,none⟩) E E] 138 (0,0))->
    ∃p T2,ρ.Le p/\iR (ai true) p c1.l (FQ cD T2 [.code cR]::m')/\WR p c1.w wr/\(∀b K,p.r b K->ρ.r b K\/K=Q\/K=V)/\T2.size=(T0F X).size/\(∀i,i<3->T2.getD i undef=(T0F X).getD i undef)/\
     T2.getD 6 undef=.slice none 0 0/\T2.getD 7 undef=.bool false/\T2.getD 8 undef=.pointer (some ⟨V,0,none⟩)/\T2.getD 17 undef=.slice (some ⟨Q,0,none⟩) E E/\(∀i,aau i=true->T2.getD i undef=(T0F X).getD i undef):=by
 obtain⟨_,_,y,ys,e1,rfl⟩:=a8.ne';have bp:45<=(T0F X).size:=by simp only[T0F,sB,tj];omega
 obtain⟨D,bZ,bf,cg,bL⟩:∃D,w'.heap.size<=D/\mxH w'.heap.toList<=D/\mxL X.toList<=D/\amh (y::ys)<=D:=⟨w'.heap.size+(mxH w'.heap.toList+(mxL X.toList+amh (y::ys))),by omega,by omega,by omega,by omega⟩;obtain⟨w,Y⟩:∃w,w=asC w' (D-w'.heap.size):=⟨_,rfl⟩;have b8:w.heap.size=D:=by
  rw[Y];show(w'.heap++_).size=D;rw[sB,tj];omega
 have b6:∀{b},b<w'.heap.size->w.heap[b]?=w'.heap[b]?:=λ{b} h=>by rw[Y];exact ajS _ _ h
 have T:∀A,w.cell? A=w'.cell? A:=λA=>by rw[Y];exact apu _ _ _
 have bl:w.ou=w'.ou:=by rw[Y];rfl
 have c7:WR ρ c.w w:=⟨λ{b K} f=>by
  obtain⟨o,o',S,O,W⟩:=F.obj f;exact⟨o,o',S,(b6 (F.lt f).2).trans O,W⟩,F.os.trans bl.symm,F.kZ.1,by rw[b8];exact ap F.kZ.2 bZ⟩
 have bb:FrR (ai true) ρ (Frame.enter (ai true) cD a .normal) (FQ cD (T0F X) [.code jZ]):=by rw[<-avy];exact aeQ true c0
 have h0:At ⟨R,c,ρ,w,y,ys⟩ (T0F X) [.code jZ] w:=⟨bp,c,ρ,.inl rfl,.refl _,by rw[hc];exact .cons bb a8,c7,hg,hW,Kept.refl _ _ _⟩;obtain⟨M,A,n,cc,l,T1,s0,k1,k2,⟨cw,bx⟩,⟨cu,cd⟩,s1,aY,aT,hl,hp,hR,bO,m1,s6,s7,S⟩:=h0.head;obtain⟨A2,E,c2,ax,T2,s2,bh,ba,b4,bX,c8,bi,m2,dB,br,bY,O⟩:=S.names;replace s2:=(m1.same 2 rfl).symm.trans s2;have bo:pY w (w.alloc (.cells ax 151)) E (([]:List Int).map (Z M l)):=by
  refine⟨λb f=>rH w _ b f,by rw[mp];omega,ax, ?_,bi,λi x I=>by simp at I⟩;show(w.heap.push _)[w.heap.size]?=_;rw[qX]
 have g0:=λt (h:mH.contains t=false) (h':cT.contains t=false)=>(m2.same t h').trans (m1.same t h);obtain⟨dF,T3,w3,ci,bn,J,m3,bH,W⟩:=At.awJ hF k1 k2 hl aY aT hp bh b4 E 0 (by omega) O.block.loop ((g0 0 rfl rfl).trans s0) ((g0 1 rfl rfl).trans s1) ((g0 2 rfl rfl).trans s2) dB br bY rfl (λi nm I=>by simp at I) bo;obtain⟨T4,w4,h4,b5,cr,cb,bB,s8,c5,m4⟩:=W.last bH;obtain⟨b7,bk,cm,bN⟩:=J.row;have a6:w4.heap[w.heap.size]?=some (.cells b7 151 (0,0)):=(b5 _ J.lt).trans bk;have ch:∀b,b<w'.heap.size->w4.heap[b]?=w'.heap[b]?:=λb f=>((b5 b (Nat.lt_trans (by omega) J.lt)).trans (J.low b (by omega))).trans (b6 f);have g1:=λt (h:mH.contains t=false) (h':cT.contains t=false) (bt:(8::17::cT).contains t=false)=>(m4.same t bt).trans ((m3.same t h').trans (g0 t h h'));have t6:T4.getD 6 undef=.slice none 0 0:=(m4.same 6 rfl).trans ((m3.same 6 rfl).trans ((m2.same 6 rfl).trans s6));have t7:T4.getD 7 undef=.bool false:=(m4.same 7 rfl).trans ((m3.same 7 rfl).trans ((m2.same 7 rfl).trans s7));have ao:T4.size=(T0F X).size:=m4.size.trans (m3.size.trans (m2.size.trans m1.size));obtain⟨cv,c1,C,q,b9⟩:=h4;obtain⟨x,xs,_,_,ay,e2⟩:=q.st.ne';cases e2;have hq:=q.st;rw[ay] at hq;have U:=hq.head;have c9:iR (ai true) C xs (y::ys):=by cases hq with|cons _ h=>exact h
 have H:∀{a b:Nat},C.r a b->b<D->ρ.r a b:=λ{a b} h f=>(q.kept.new h).elim id λh=>by
  have:w.heap.size<=b:=h.2;omega
 have hd:C.dim=ρ.dim/\C.al=ρ.al:=⟨q.le.dim.symm,q.le.al.symm⟩;have aG:C.lax=ρ.lax:=q.le.lax.symm;have aJ:∀{i:Nat} {P:Addr} {n m:Nat},i<(T0F X).size->(T0F X).getD i undef=.slice (some P) n m->Rgd ⟨R,c,ρ,w,y,ys⟩ P.block->∃b,ρ.r b P.block:=λ{i P n m} I e h=>h.elim id λh=>by
  have f:=anx (vL I);rw[e] at f;simp only[mxV,mxA] at f;have h':w.heap.size<=P.block:=h;omega
 refine⟨M,A,n,cc,l,A2,E,c2,dF,c1,⟨s0,k1,k2,s1,aY,aT,hl,hp.cells T,λi x hx P b0 m0 e0 hA iY=> ?_,s2,b4,bX,c8,ci,λi nm I=> ?_,λg bT=> ?_,λP ad=> ?_,λP ad=> ?_⟩,b9,q.will,λb K f b3=>⟨(q.kept.poi f b3).1,λi u hu c6=>((q.kept.poi f b3).2 i u hu c6).1⟩,λwr Q V cs bS bQ bw cq ct af fT cp aR bz=> ?_⟩
 .-- an item's row
  subst hA;obtain⟨⟨a1,B,c3,f1,f2,f3,f4,f5,f6,f7⟩, -⟩:=hp i x hx;cases f1;rw[lP] at f3;rw[<-T,f3] at iY;cases iY;obtain⟨z,hz⟩:∃z,x.2[0]?=some z:=⟨_,jn (by omega)⟩;obtain⟨⟨a2,ca,bA, -⟩, -⟩:=f7 0 z hz;cases ca;have a5:=eK bA;rw[rA] at a5;have I:i<n:=by rw[<-hl];exact(qu.1 hx).1
  rcases hR i I P b0 _ _ rfl f3 with h|h
  .exact h
  .have h':w.heap.size<=b0.block:=h;omega
 .obtain⟨P,f1,f2,f3⟩:=bn i nm I;exact⟨P,f1,(T _).symm.trans f2,f3⟩
 .have:=lw.1 ayI g bT;simp only[rc,nf] at this;rcases this with rfl|rfl
  .exact lQ ((T _).symm.trans bx)
  .exact lQ ((T _).symm.trans cd)
 .subst ad;exact aJ (by omega) s1 (bO P rfl)
 .subst ad;exact aJ (by omega) s2 (ba P rfl)
 have cn:w'.heap.size<=w.heap.size:=by omega
 have co:w.heap.size<w3.heap.size:=J.lt
 let p:Ren:={
  r:=λa b=>ρ.r a b\/(b=Q/\C.r a w.heap.size)\/(b=V/\C.r a w3.heap.size)
  lax:=ρ.lax
  dim:=ρ.dim
  al:=ρ.al
  fn:=λ{a b d} h k=>by
   rcases h with h|⟨rfl,h⟩|⟨rfl,h⟩<;>rcases k with k|⟨rfl,k⟩|⟨rfl,k⟩
   .exact ρ.fn h k
   .have:=C.fn (q.le.r h) k;have:=(F.lt h).2;omega
   .have:=C.fn (q.le.r h) k;have:=(F.lt h).2;omega
   .have:=C.fn (q.le.r k) h;have:=(F.lt k).2;omega
   .rfl
   .have:=C.fn h k;omega
   .have:=C.fn (q.le.r k) h;have:=(F.lt k).2;omega
   .have:=C.fn h k;omega
   .rfl
  inj:=λ{a b d} h k=>by
   rcases h with h|⟨rfl,h⟩|⟨rfl,h⟩<;>rcases k with k|⟨e,k⟩|⟨e,k⟩
   .exact ρ.inj h k
   .have:=(F.lt h).2;omega
   .have:=(F.lt h).2;omega
   .have:=(F.lt k).2;omega
   .exact C.inj h k
   .exact absurd e af
   .have:=(F.lt k).2;omega
   .exact absurd e.symm af
   .exact C.inj h k
  kZ:=λ{a b} h=>by
   have:=F.kZ.2;rcases h with h|⟨rfl,h⟩|⟨rfl,h⟩
   .exact ρ.kZ h
   .have:=C.kZ h;omega
   .have:=C.kZ h;omega}
 have a4:ρ.Le p:=⟨.inl,rfl,rfl,rfl⟩;have down:∀{u v:Value},VR C u v->mxV v<=D->VR p u v:=λh f=>(VR.down hd H h f).mono a4;have aI:∀{u:Value},VR C u (.slice (some ⟨w.heap.size,0,none⟩) E E)->VR p u (.slice (some ⟨Q,0,none⟩) E E):=λ{u} h=>by
  cases h with
  |slice hA=>cases hA with
   |some hA=>cases hA with
    |mk h o s=>exact .slice (.some (.mk (Or.inr (Or.inl ⟨rfl,h⟩)) 0 none)) _ _
  |fO hl _=>exact .fO (hd.1▸hl) rfl
 have c4:∀{u:Value},VR C u (.pointer (some ⟨w3.heap.size,0,none⟩))->VR p u (.pointer (some ⟨V,0,none⟩)):=λ{u} h=>by
  cases h with
  |pointer hA=>cases hA with
   |some hA=>cases hA with
    |mk h o s=>exact .pointer (.some (.mk (Or.inr (Or.inr ⟨rfl,h⟩)) 0 none))
  |fO hl _=>exact .fO (hd.1▸hl) rfl
 have zr:∀{n:Nat} {z z':Nat×Nat},ZR C n z z'->ZR p n z z':=λh=>by
  unfold ZR at h ⊢;rw[aG] at h;exact h
 have ck:b7=cs:=by
  apply sQ;intro i;rcases pm i (2*E) with I|I
  .obtain⟨j,hj⟩:∃j,i=2*j\/i=2*j+1:=⟨i / 2,by omega⟩;obtain⟨nm,a0⟩:∃nm,dF[j]?=some nm:=⟨_,jn (by omega)⟩;have b1:=bN j (Z M l nm) (by rw[qN,a0];rfl);have b2:=aR j nm a0;rcases hj with rfl|rfl
   .rw[b1.1,b2.1]
   .rw[b1.2,b2.2]
  .rw[qj (by omega),qj (by omega)]
 refine⟨p,(T4.setIfInBounds 17 (.slice (some ⟨Q,0,none⟩) E E)).setIfInBounds 8 (.pointer (some ⟨V,0,none⟩)),a4, ?_,⟨λ{b K} f=> ?_, ?_, ?_, ?_⟩, ?_,by simpa using ao,λi I=> ?_, ?_, ?_, ?_, ?_,λi I=> ?_⟩
 .-- frames
  rw[ay];refine .cons ⟨U.fn, ?_, ?_, ?_,U.mode,U.kind, ?_⟩ ((iR.down hd H q.le (e1▸a8) c9 bL).mono a4)
  .refine ami (by simp only[Array.size_setIfInBounds];exact bR.size U.tmps) λi u v hu G=> ?_;by_cases i8:i=8
   .subst i8;rw[qg (by simp;omega)] at G;cases G;exact c4 (dw.at U.tmps hu (by rw[<-s8];exact vL (by show 8<T4.size;omega)))
   rw[jt (λe=>i8 e.symm)] at G;by_cases a7:i=17
   .subst a7;rw[qg (by omega)] at G;cases G;exact aI (dw.at U.tmps hu (by rw[<-bB];exact vL (by show 17<T4.size;omega)))
   rw[jt (λe=>a7 e.symm)] at G;have N:VR C u v:=dw.at U.tmps hu G;have L:=amF G;cases a3:cT.contains i with
   |true=>
    rw[c5 i a3] at L;subst L;exact down N (by simp only[mxV];omega)
   |false=>
    by_cases i6:i=6
    .subst i6;rw[t6] at L;subst L;exact down N (by simp only[mxV,mxA];omega)
    by_cases i7:i=7
    .subst i7;rw[t7] at L;subst L;exact down N (by simp only[mxV];omega)
    have ce:(T0F X).getD i undef=v:=by
     rw[<-L];exact(g1 i (by simp only[mH,tG,a3];simp[i6,i7]) a3 (by simp only[tG,a3];simp[i8,a7])).symm
    have aa:(T0F X)[i]?=some v:=by
     have a5:i<(T0F X).size:=by rw[<-ao];exact(dl.1 G).1
     rw[<-ce];exact vL a5
    exact down N (ap (anx aa) cg)
  .have ht:=U.todo;generalize x.todo=td at ht ⊢;cases ht with
   |cons S O=>cases S;cases O;exact .cons (.code _) .nil
  .have ht:=U.defers;generalize x.defers=td at ht ⊢;cases ht;exact .nil
  .have ht:=U.round;generalize x.roundOf=td at ht ⊢;cases ht;exact .none
 .-- objects
  rcases f with f|⟨rfl,f⟩|⟨rfl,f⟩
  .obtain⟨o,o',S,O,W⟩:=q.wr.obj (q.le.r f);obtain⟨u,u',k1,k2,k3⟩:=F.obj f;have e:=ch K (F.lt f).2;rw[O,k2] at e;cases e;exact⟨o,o',S,(bS _ _ f).trans k2,(OR.down hd H aG q.le k3 W (ap (anv (i:=K) (by rw[ef];exact k2)) bf)).mono a4⟩
  .obtain⟨o,o',S,O,W⟩:=q.wr.obj f;rw[a6] at O;cases O;cases W with
   |@cells cl _ iY _ z _ a9=>
    refine⟨_,_,S,fT, ?_⟩;subst ck;refine .cells (ami (by simpa using iY.length) λi u v hu G=> ?_) _ (zr a9);have N:=dw.at iY hu G;obtain⟨j,hj⟩:∃j,i=2*j\/i=2*j+1:=⟨i / 2,by omega⟩;have I:=(dl.1 G).1;obtain⟨nm,a0⟩:∃nm,dF[j]?=some nm:=⟨_,jn (by omega)⟩;have b2:=aR j nm a0;rcases hj with rfl|rfl
    .rw[b2.1] at G;cases G;exact down N (by simp only[mxV];omega)
    .rw[b2.2] at G;cases G;exact down N (by simp only[mxV];omega)
  .obtain⟨o,o',S,O,W⟩:=q.wr.obj f;rw[cb] at O;cases O;cases W with
   |@cells cl _ iY _ z _ a9=>
    refine⟨_,_,S,bz,.cells (ami (by simpa using iY.length) λi u v hu G=> ?_) _ (zr a9)⟩;have I:=(dl.1 G).1;have aa:i=0:=by simpa using I
    subst aa;cases G;exact aI (dw.at iY hu rfl)
 .exact q.kept.os.1.trans (F.os.trans bQ.symm)
 .exact ap F.kZ.1 q.kept.size
 .exact ap F.kZ.2 bw
 .rintro b K (h|⟨rfl,_⟩|⟨rfl,_⟩)
  .exact .inl h
  .exact .inr (.inl rfl)
  .exact .inr (.inr rfl)
 .rw[aH (by simp;omega),da (by omega),aH (by omega),da (by omega)];have:i=0\/i=1\/i=2:=by omega
  rcases this with rfl|rfl|rfl
  .exact g1 0 rfl rfl rfl
  .exact g1 1 rfl rfl rfl
  .exact g1 2 rfl rfl rfl
 .rw[aH (by simp;omega),da (by decide),aH (by omega),da (by decide)];exact t6
 .rw[aH (by simp;omega),da (by decide),aH (by omega),da (by decide)];exact t7
 .rw[aH (by simp;omega),du rfl]
 .rw[aH (by simp;omega),da (by decide),aH (by omega),du rfl]
 .obtain⟨i1,i2,i3,i4,i5⟩:=asB I;have e:((T4.setIfInBounds 17 (.slice (some ⟨Q,0,none⟩) E E)).setIfInBounds 8 (.pointer (some ⟨V,0,none⟩))).getD i undef=T4.getD i undef:=by
   rw[aH (by simp;omega),da i4,aH (by omega),da i5]
  exact e.trans (g1 i i1 i2 i3)
end
section
open Go Go.Conc Go.ConcN Go.RowKit
def plV(V:Nat->Prop):Value->Prop
 |.int k _=>k ≠ .u8
 |.string _=>True
 |.slice (some a) _ _=>V a.block
 |_=>False
def asE:Value->Bool
 |.func (.method _) _ _=>true
 |_=>false
mutual
def afi:Value->List Value
 |.agg ⟨l⟩=>pZ l
 |.tuple ⟨l⟩=>pZ l
 |v=>if asE v then[v] else[]
def pZ:List Value->List Value
 |[]=>[]
 |v::l=>afi v++pZ l
end
def agt:∀{l:List Value} {i:Nat} {v x:Value},l[i]?=some v->x∈afi v->x∈pZ l
 |[],i,v,x,h,_=>by simp at h
 |y::l,0,v,x,h,hx=>by simp at h;subst h;simp only[pZ];exact uS _ hx
 |y::l,i+1,v,x,h,hx=>by simp only[pZ];exact sU _ (agt (i:=i) (by simpa using h) hx)
def aBp:Obj->List Value
 |.cells c _ _=>pZ c.toList
 |_=>[]
def fc(w:World):List Value:=w.heap.toList.flatMap aBp
def afS{c:Array Value}{x : Value}(a:w.heap[b]?=some (.cells c t z))(hi:c[i]?=some v)(d:x∈afi v):x∈fc w:=
 sJ.2 ⟨.cells c t z,db (i:=b) (by rw[ef];exact a),by
  show x∈pZ c.toList;exact agt (i:=i) (by rw[ef];exact hi) d⟩
section
variable {ρ:Ren} (hl:ρ.dim=true)
include hl
mutual
theorem aw7:∀(v:Value),(∀x∈afi v,∃k,ρ.al k=some x)->∃u,VR ρ u v/\(∀k,u ≠ .int .u8 k)/\(ad1 u\/∀(g:Ren) d,g.al=ρ.al->VR g u d->d=v)
 |.bool b,_=>⟨_,.bool b,(λk e=>by cases e),.inr λg d _ h=>by cases h;rfl⟩
 |.int k n,_=>⟨_,.fO hl rfl,(λk e=>by cases e),.inl (.inl ⟨_,rfl⟩)⟩
 |.float k n,_=>⟨_,.fO hl rfl,(λk e=>by cases e),.inl (.inl ⟨_,rfl⟩)⟩
 |.complex k n m,_=>⟨_,.fO hl rfl,(λk e=>by cases e),.inl (.inl ⟨_,rfl⟩)⟩
 |.string s,_=>⟨_,.string s,(λk e=>by cases e),.inr λg d _ h=>by cases h;rfl⟩
 |.pointer none,_=>⟨_,.pointer .none,(λk e=>by cases e),.inr λg d _ h=>by cases h with|pointer h=>cases h;rfl⟩
 |.pointer (some a),_=>⟨_,.fO hl rfl,(λk e=>by cases e),.inl (.inl ⟨_,rfl⟩)⟩
 |.slice a l c,_=>⟨_,.fO hl rfl,(λk e=>by cases e),.inl (.inl ⟨_,rfl⟩)⟩
 |.map a,_=>⟨_,.fO hl rfl,(λk e=>by cases e),.inl (.inl ⟨_,rfl⟩)⟩
 |.chan a,_=>⟨_,.fO hl rfl,(λk e=>by cases e),.inl (.inl ⟨_,rfl⟩)⟩
 |.func (.func f) a c,_=>⟨_,.fO hl rfl,(λk e=>by cases e),.inl (.inl ⟨_,rfl⟩)⟩
 |.func (.methodOf t f) a c,_=>⟨_,.fO hl rfl,(λk e=>by cases e),.inl (.inl ⟨_,rfl⟩)⟩
 |.func (.via t p f q) a c,_=>⟨_,.fO hl rfl,(λk e=>by cases e),.inl (.inl ⟨_,rfl⟩)⟩
 |.func (.yield f) a c,_=>⟨_,.fO hl rfl,(λk e=>by cases e),.inl (.inl ⟨_,rfl⟩)⟩
 |.func (.method n) a c,hm=>by
  obtain⟨k,y⟩:=hm (.func (.method n) a c) (by simp[afi,asE]);refine⟨_,.abn k y,(λk e=>by cases e),.inr λg d B h=> ?_⟩;generalize j:anC k=u at h;cases h with
  |abn D z=>
   have e:k=D:=by
    unfold anC at j;injection j with _ _ A
    have:=jp Array.size A;simpa using this
   subst e;rw[B,y] at z;exact(dq z).symm
  |func o _ _=>
   unfold anC at j;injection j with C _ _
   subst C;cases o with
   |same f o=>cases o
  |_=>unfold anC at j;cases j
 |.nilFunc,_=>⟨_,.nilFunc,(λk e=>by cases e),.inr λg d _ h=>by cases h;rfl⟩
 |.iface t v,_=>⟨_,.fO hl rfl,(λk e=>by cases e),.inl (.inl ⟨_,rfl⟩)⟩
 |.nilIface,_=>⟨_,.nilIface,(λk e=>by cases e),.inr λg d _ h=>by cases h;rfl⟩
 |.agg ⟨l⟩,hm=>by
  obtain⟨r,i⟩:=ayL l λx w=>hm x (by simpa only[afi] using w);exact⟨.agg ⟨r⟩,.agg i,(λk e=>by cases e),.inl (.inr ⟨_,rfl⟩)⟩
 |.tuple ⟨l⟩,hm=>by
  obtain⟨r,i⟩:=ayL l λx w=>hm x (by simpa only[afi] using w);exact⟨.tuple ⟨r⟩,.tuple i,(λk e=>by cases e),.inl (.inl ⟨_,rfl⟩)⟩
theorem ayL:∀(l:List Value),(∀x∈pZ l,∃k,ρ.al k=some x)->∃a,bR ρ a l
 |[],_=>⟨[],.nil⟩
 |v::l,hm=>by
  obtain⟨x,c,_⟩:=aw7 v λx b=>hm x (by simp only[pZ];exact uS _ b);obtain⟨a,d⟩:=ayL l λx b=>hm x (by simp only[pZ];exact sU _ b);exact⟨x::a,.cons c d⟩
end
end
def ail(L:List Value)(k:Nat):Option Value:=L[k]?
def aim{L:List Value}{x:Value}(h:x∈L):∃k,ail L k=some x:=by
 obtain⟨k,a,e⟩:=wu.1 h;exact⟨k,by unfold ail;rw[jn a,e]⟩
def akv{ρ:Ren}{Q:Nat->Value->Value->Prop}:∀(l:List Value) (j:Nat),(∀i v,l[i]?=some v->∃u,VR ρ u v/\Q (j+i) u v)->∃d,bR ρ d l/\∀i v,l[i]?=some v->∃u,d[i]?=some u/\Q (j+i) u v
 |[],_,_=>⟨[],.nil,λi v h=>by simp at h⟩
 |v::l,j,h=>by
  obtain⟨u,m,e⟩:=h 0 v rfl;obtain⟨d,f,k⟩:=akv l (j+1) λi x c=>by
   obtain⟨u,a,b⟩:=h (i+1) x (by simpa using c);exact⟨u,a,by rwa [show j+1+i=j+(i+1) by omega]⟩
  refine⟨u::d,.cons m f,λi x c=> ?_⟩;cases i with
  |zero=>simp at c;subst c;exact⟨u,rfl,e⟩
  |succ i=>
   obtain⟨g,a,b⟩:=k i x (by simpa using c);exact⟨g,by simpa using a,by rwa [show j+1+i=j+(i+1) by omega] at b⟩
def Ren.rows(V:Nat->Prop)(lax:Bool)(L:List Value):Ren where
 r a b:=a=b/\V a
 lax:=lax
 dim:=true
 al:=ail L
 fn:=λh k=>h.1.symm.trans k.1
 inj:=λh k=>h.1.trans k.1.symm
 kZ:=λh=>by rw[h.1]
def avS{V:Nat->Prop}(w:World)(F:∀b,V b->Obj):∃a:Array Obj,a.size=w.heap.size/\(∀b (h:V b),b<w.heap.size->a[b]?=some (F b h))/\∀b,¬V b->a[b]?=w.heap[b]?:=by
 classical
 refine⟨Array.ofFn λi:Fin w.heap.size=>if h:V i.1 then F i.1 h else w.heap[i],by simp,λb h c=> ?_,λb h=> ?_⟩
 .rw[wJ,tW c];simp only[tW h]
 .rw[wJ];by_cases c:b<w.heap.size
  .rw[tW c,ge c];simp only[dif_neg h];rfl
  .rw[dif_neg c,qj (by omega)]
theorem mask{w:World}{V:Nat->Prop}(hV:∀b,V b->eG w b)(hg:∀g∈gL,V g)(hN:gN<=w.heap.size) :
  ∃wL:World,WR (Ren.rows V true (fc w)) wL w/\GlR (Ren.rows V true (fc w))/\wL.heap.size=w.heap.size/\(∀b,V b->bI wL b/\NoB wL b)/\∀A v,w.cell? A=some v->V A.block->plV V v->wL.cell? A=some v:=by
 classical
 have row:∀b,V b->∃(c:Array Value) (t:TypeId) (z:Nat×Nat) (xs:List Value),w.heap[b]?=some (.cells c t z)/\bR (Ren.rows V true (fc w)) xs c.toList/\∀(i:Nat) v,c.toList[i]?=some v->∃u,xs[i]?=some u/\((∀k,u ≠ .int .u8 k)/\(plV V v->u=v)):=λb hb=>by
  obtain⟨c,t,z,hc⟩:=hV b hb;obtain⟨xs,h1,h2⟩:=akv (ρ:=Ren.rows V true (fc w)) (Q:=λ_ u v=>(∀k,u ≠ .int .u8 k)/\(plV V v->u=v)) c.toList 0 λi v hi=>by
   by_cases hp:plV V v
   .cases v with
    |int k n=>exact⟨_,.int k n,(λk' e=>by cases e;exact hp rfl),λ_=>rfl⟩
    |string s=>exact⟨_,.string s,(λk e=>by cases e),λ_=>rfl⟩
    |slice a l c=>cases a with
     |none=>exact hp.elim
     |some a=>
      obtain⟨b,o,s⟩:=a;have hr:(Ren.rows V true (fc w)).r b b:=⟨rfl,hp⟩;exact⟨_,.slice (.some (.mk hr o s)) l c,(λk e=>by cases e),λ_=>rfl⟩
    |_=>exact hp.elim
   .obtain⟨u,h1,h2, -⟩:=aw7 (ρ:=Ren.rows V true (fc w)) rfl v λx hx=>aim (afS hc (i:=i) (by rw[<-ef];exact hi) hx);exact⟨u,h1,h2,λh=>absurd h hp⟩
  exact⟨c,t,z,xs,hc,h1,h2⟩
 let F:∀b,V b->Obj:=λb hb=>.cells ⟨(row b hb).choose_spec.choose_spec.choose_spec.choose⟩ (row b hb).choose_spec.choose (0,max ((row b hb).choose.size+1) (row b hb).choose_spec.choose_spec.choose.2)
 have hF:∀b (hb:V b),∃(c:Array Value) (t:TypeId) (z:Nat×Nat) (xs:List Value),w.heap[b]?=some (.cells c t z)/\bR (Ren.rows V true (fc w)) xs c.toList/\(∀(i:Nat) v,c.toList[i]?=some v->∃u,xs[i]?=some u/\((∀k,u ≠ .int .u8 k)/\(plV V v->u=v)))/\F b hb=.cells ⟨xs⟩ t (0,max (c.size+1) z.2):=λb hb=>
  let h:=(row b hb).choose_spec.choose_spec.choose_spec.choose_spec
  ⟨_,_,_,_,h.1,h.2.1,h.2.2,rfl⟩
 obtain⟨heap,hs,h1,h2⟩:=avS w F;have aaM:∀b,V b->∃(c:Array Value) (t:TypeId) (z:Nat×Nat) (xs:List Value),w.heap[b]?=some (.cells c t z)/\heap[b]?=some (.cells ⟨xs⟩ t (0,max (c.size+1) z.2))/\bR (Ren.rows V true (fc w)) xs c.toList/\∀(i:Nat) v,c.toList[i]?=some v->∃u,xs[i]?=some u/\((∀k,u ≠ .int .u8 k)/\(plV V v->u=v)):=λb hb=>by
  obtain⟨c,t,z,xs,k1,k2,k3,k4⟩:=hF b hb;exact⟨c,t,z,xs,k1,(h1 b hb (dl.1 k1).1).trans (jp some k4),k2,k3⟩
 refine⟨{w with heap},⟨λ{b b'} hb=> ?_,rfl,by show gN<=heap.size;omega,hN⟩,λg mv=>⟨rfl,hg g mv⟩,hs,λb hb=> ?_,λA v hc hA hp=> ?_⟩
 .obtain⟨rfl,hb⟩:=hb;obtain⟨c,t,z,xs,k1,k2,k3, -⟩:=aaM b hb;have hlen:=k3.length;refine⟨_,_,k2,k1,.cells k3 t (.inr ⟨rfl,rfl, ?_,.inr ?_⟩)⟩
  .show xs.length<max _ _;simp at hlen;omega
  .show z.2<=max _ _;omega
 .obtain⟨c,t,z,xs,k1,k2,k3,k4⟩:=aaM b hb;have hlen:=k3.length;simp at hlen;refine⟨⟨_,_,_,k2,rfl, ?_, ?_⟩,λc' t' z' hc' i k e=> ?_⟩
  .show xs.length<=max _ _;omega
  .show 0<max _ _;omega
  .have:heap[b]?=some (.cells c' t' z'):=hc';rw[k2] at this;cases this;have hi:i<c.toList.length:=by
    have:=(dl.1 e).1;simp at this ⊢;omega
   obtain⟨u,q1,q2, -⟩:=k4 i _ (jn hi);have e':xs[i]?=some (.int .u8 k):=by simpa using e
   rw[q1] at e';exact q2 k (dq e')
 .obtain⟨c,t,z,xs,k1,k2,k3,k4⟩:=aaM A.block hA;have k2':({w with heap}:World).heap[A.block]?=some (.cells ⟨xs⟩ t (0,max (c.size+1) z.2)):=k2;unfold World.cell? at hc ⊢;rw[k2'];rw[k1] at hc;cases hsp:A.spot with
  |some s=>simp[hsp] at hc
  |none=>
   simp[hsp] at hc ⊢;obtain⟨u,q1, -,q2⟩:=k4 A.off v (by rw[ef];exact hc);rw[q1,q2 hp]
end
section
open Go Go.Conc Go.ConcN Go.RowKit
def pg(Rr:av)(S S':av)(w w':World)(es:Array Event):Prop:=
 (∀b,b<w.heap.size->¬S b->w'.heap[b]?=w.heap[b]?)/\w.heap.size<=w'.heap.size/\w'.ou=w.ou/\S'=(λb=>S b\/(w.heap.size<=b/\b<w'.heap.size))/\∀e∈es,mX S' Rr w'.heap.size e
structure pd (Rl:av->World->World->Prop) (Rr:av):Prop where
 fR:∀S w,Rl S w w
 tr:∀S a b c,Rl S a b->Rl S b c->Rl S a c
 rl:∀S w w1,Rl S w w1->(∀b,S b\/Rr b->w1.heap[b]?=w.heap[b]?)/\w.heap.size<=w1.heap.size/\w1.ou=w.ou
def pd.cmp{Rl:av->World->World->Prop}(h:pd Rl Rr):Cmp Rl (pg Rr) Rr:=⟨h.fR,h.tr,h.rl,λ_ _ _ _ a b c d=>⟨a,b,c,rfl,d⟩⟩
section
variable {P:Program} {main:Bool} {Rl:av->World->World->Prop} {Gr Gr2:av->av->World->World->Array Event->Prop} {Stop afP:av->Goroutine->World->Prop} {Inv:av->World->Prop}
def GoT.inv(i:∀S w a,Inv S w->Rl S w a->Inv S a)(k:∀S d w c e,Inv S w->Gr S d w c e->Gr2 S d w c e/\Inv d c)(j:∀S g w,Stop S g w->Inv S w->afP S g w):∀{T:jE} {S:av} {g:Goroutine} {w:World},GoT P main Rl Gr Stop T S g w->Inv S w->GoT P main Rl Gr2 afP T S g w
 |.leaf,_,_,_,h,hi=>λa b=>j _ _ _ (h a b) (i _ _ _ hi b)
 |.node f,_,_,_,h,hi=>Or.imp (λh a b=>j _ _ _ (h a b) (i _ _ _ hi b)) (λx=>⟨x.1,λa b=>
   let⟨q,c,e,d,o,l,m⟩:=x.2 a b
   let⟨n,p⟩:=k _ _ _ _ _ (i _ _ _ hi b) l
   ⟨q,c,e,d,o,n,GoT.inv i k j m p⟩⟩) h
def bJ.inv(f:∀S w c,Inv S w->Rl S w c->Inv S c)(i:∀S a w b d,Inv S w->Gr S a w b d->Gr2 S a w b d/\Inv a b)(e:∀S g w,Stop S g w->Inv S w->afP S g w)(h:bJ P main Rl Gr Stop S g w)(hi:Inv S w):bJ P main Rl Gr2 afP S g w:=
 let⟨T,h⟩:=h;⟨T,GoT.inv f i e h hi⟩
end
def amk   :(Frame.enter P f a .normal).mode=.run:=by
 unfold Frame.enter;cases P.funcs[f]?<;>rfl
def apv{c:Cfg}{m:List Frame}(q:jY (ai false) R c)(i:c.l=Frame.enter (ai false) cD a .normal::m):False:=by
 obtain⟨n,t,s,d,f, -⟩:=q c.t λ_ _ _=>rfl;have b:c.l≠[]:=by rw[i];simp
 cases n with
 |zero=>
  simp only[runN,qP] at d;obtain⟨e, -⟩:=ib d;obtain rfl:=nH b f.ne e;obtain⟨u,l,p, -⟩:=f;rw[i] at l;cases l;rw[amk] at p;cases p
 |succ n=>
  unfold runN at d;have r:Frame.enter (ai false) cD a .normal=⟨cD,T0F a,[.code (.refuse "")],[],.run,.normal,none⟩:=by
   have f:(ai false).funcs[cD]?=some (qFA false):=acB false;unfold Frame.enter;rw[f];rfl
  have g:∃o j k,stepG (ai false) true (Gl c.l [kh (ai false)]) (c.w.dR c.t)=.ended o j k:=by
   rw[i,r];simp only[Gl,stepG,stepG.exec];exact⟨_,_,_,rfl⟩
  obtain⟨o,j,k,g⟩:=g;rw[cE (ju b _) g] at d;cases d
def aBq:kD (λ_=>false) (f139.body.getD .skip)=false:=by kernel_rfl
def aBr:kD (λ_=>false) (f72.body.getD .skip)=false:=by kernel_rfl
def adr{fn:Func}(h:prog.funcs[f]?=some fn)(b:fn.body.isSome=true)(a:Array Value):(Frame.enter prog f a .normal).todo=[.code (fn.body.getD .skip)]:=by
 unfold Frame.enter;rw[h];obtain⟨c,d⟩:=rE.1 b;simp[d]
def avP{J:Nat->Bool}(d:kD J (f139.body.getD .skip)=false)(c:kD J (f72.body.getD .skip)=false):∀f,gH f=true->∀a,(Frame.enter prog f a .normal).todo.all (mn J)=false:=λf b a=>by
 rcases xD b with rfl|rfl
 .rw[adr func72 amL];simp only[qE,vP,uC,mn];exact c
 .rw[adr func139 amK];simp only[qE,vP,uC,mn];exact d
def ahP:gH 89=false:=by unfold gH;kernel_rfl
def aif{A:Addr}{c:Array Value}(h:w.heap[A.block]?=some (.cells c t z))(a:w.cell? A=some v):c[A.off]?=some v:=by
 unfold World.cell? at a;rw[h] at a;cases b:A.spot with
 |some s=>simp[b] at a
 |none=>simpa[b] using a
def RgP(Rg:Nat->Prop)(w:World)(A:Option Addr)(l:List iP):Prop:=∀i x,l[i]?=some x->∀a b m e,A=some a->w.cell? ((a.add (i*2)).add 1)=some (.slice (some b) m e)->Rg b.block
def RgP.move(h:RgP Rg w A l)(j:∀a,A=some a->Rg a.block)(d:∀b,Rg b->w'.heap[b]?=w.heap[b]?):RgP Rg w' A l:=λi x f a b m e c g=>
 h i x f a b m e c ((gu (by rw[rA,rA];exact d _ (j a c))).symm.trans g)
def RdP.mask    (h:RdP w A 0 l) (C:RgP Rg w A l) (q:∀a,A=some a->Rg a.block)
  (f:∀A v,w.cell? A=some v->Rg A.block->plV (λb=>Rg b/\eG w b) v->U.cell? A=some v):RdP U A 0 l:=λi x r=>by
 obtain⟨⟨a,B,c,g,u,n,D,E,H,p⟩,F⟩:=h i x r;have o:∀b,B=some b->Rg b.block:=λb z=>by
  subst z;rw[lP] at n;exact C i x r a b _ _ g n
 have k:∀j y,x.2[j]?=some y->ahp U B (0+j) y:=λj y I=>by
  obtain⟨⟨b,e,m,s⟩,J,t⟩:=p j y I;exact⟨⟨b,e,f _ _ m (by rw[rA];exact o b e) (by show IntKind.i64 ≠ .u8;decide),f _ _ s (by rw[rA,rA];exact o b e) trivial⟩,J,t⟩
 refine⟨⟨a,B,c,g,f _ _ u (by rw[rA];exact q a g) (by show IntKind.i64 ≠ .u8;decide),f _ _ n (by rw[rA,rA];exact q a g) ?_,D,E,H,k⟩,F⟩;obtain⟨y,G⟩:∃y,x.2[0]?=some y:=⟨_,jn (by omega)⟩;obtain⟨⟨b,e,m,s⟩, -⟩:=p 0 y G;subst e;have d:=lQ m;rw[rA] at d;exact⟨o b rfl,d⟩
end
section
open Go Go.Conc Go.ConcN Go.RowKit
def ac7   :(Frame.enter P f a .normal).roundOf=none:=by
 unfold Frame.enter;cases P.funcs[f]?<;>rfl
def apw{s:ByteArray}{b:Bool}{v':Value}(h:VR ρ (.agg #[.string s,.bool b]) v'):v'=.agg #[.string s,.bool b]:=by
 cases h with
 |@agg c e h=>
  obtain⟨l⟩:=e;change bR ρ [.string s,.bool b] l at h;cases h with
  |cons f a=>
   cases f;cases a with
   |cons g d=>cases g;cases d;rfl
def asF (hF:eL Z)  (hN:gN<=w.heap.size) (L:∀g∈gL,Rg g/\eG w g)    {nm:Int}
  (k1:1<=key) (k2:key<=99) (hl:l.length=n) (x:n<=c) (C:(c:Int)<=9223372036854775807) (q:RdP w A 0 l) (N:RgP Rg w A l) (hA:∀a,A=some a->Rg a.block) (hn:0<n) (K:In_ nm)
  {Rl:av->World->World->Prop} (d:pd Rl Rr) (hR:∀b,(Rg b/\eG w b)->Rr b)  {cs:List Frame} :
  bJ prog main Rl (pg Rr) (λ_ g _=>g=⟨cfr.finish (.agg #[.string (Z key l nm).1,.bool (Z key l nm).2]),cs,.running,none,none⟩) S
   (Gl (Frame.enter prog 89 #[.int .i64 key,.slice A n c,.int .i64 nm] .normal::[]) (cfr::cs)) w:=by
 obtain⟨j,h1,W,h3,h4,h5⟩:=mask (V:=λb=>Rg b/\eG w b) (λb h=>h.2) L hN;have F:=q.mask N hA λA v x P hp=>h5 A v x ⟨P,lQ x⟩ hp;obtain⟨y,hy⟩:∃y,l[0]?=some y:=⟨_,jn (by omega)⟩;obtain⟨⟨a,_,_,e1,e2,_⟩,_⟩:=q 0 y hy;subst e1;have i:=lQ e2;rw[rA] at i;have m:(Ren.rows (λb=>Rg b/\eG w b) true (fc w)).r a.block a.block:=⟨rfl,hA a rfl,i⟩;generalize Q:(Ren.rows (λb=>Rg b/\eG w b) true (fc w))=ρ at h1 W m;have I:∀b r,ρ.r b r->Rr r/\bI j b/\NoB j b:=λb r u=>by
  subst Q;obtain⟨rfl,Y⟩:=u;exact⟨hR _ Y,h4 _ Y⟩
 have p:dw ρ #[.int .i64 key,.slice (some a) n c,.int .i64 nm] #[.int .i64 key,.slice (some a) n c,.int .i64 nm]:=by
  obtain⟨b,o,s⟩:=a;exact .cons (.int _ _) (.cons (.slice (.some (.mk m o s)) _ _) (.cons (.int _ _) .nil))
 have X:∀t:Tape,Calls (ai false) 89 #[.int .i64 key,.slice (some a) n c,.int .i64 nm] (j.dR t) λe M=>∃v,e=.returned v/\v=.agg #[.string (Z key l nm).1,.bool (Z key l nm).2]:=λt=>by
  refine(hF false (j.dR t) key (some a) n c l nm k1 k2 hl x C (F.below λb u=>rfl) K).mono ?_;rintro e M ⟨v,rfl,hv, -⟩;exact⟨v,rfl,hv⟩
 generalize (#[.int .i64 key,.slice (some a) n c,.int .i64 nm]:Array Value)=args at p X
 let R:List Frame->World->Prop:=λfs M=>∃B v,fs=[B]/\B.fn=89/\B.leaving (ai false) M (.returned v)/\v=.agg #[.string (Z key l nm).1,.bool (Z key l nm).2]
 have hW:jY (ai false) R ⟨[Frame.enter (ai false) 89 args .normal],j,λ_ _=>0⟩:=aaz (Post:=λv _=>v=.agg #[.string (Z key l nm).1,.bool (Z key l nm).2]) λt _=>X t;have D:Acc (iD (ai false)) ⟨[Frame.enter (ai false) 89 args .normal],j,λ_ _=>0⟩:=hW.acc.transGen;have H:aii (ai false) R Rr S ρ ⟨[Frame.enter (ai false) 89 args .normal],j,λ_ _=>0⟩ [Frame.enter prog 89 args .normal] w:=
  ⟨.one (agL (mo false) ahP p) ac7,h1,W,hW,λb r u=>.inr (I b r u)⟩
 have J:=aij (mo false) (avO false) d.fR d.tr d.rl d.cmp.gr (avP aBq aBr) (afR d.cmp) (main:=main) (base:=cfr::cs) D H (.inl rfl);refine bJ.bind d.fR d.tr J λS1 g w1 ⟨c1,ρ1,l',hor,hle,hS1,oI,aDM,aEY,hW1,po,_,hend⟩=> ?_;subst oI;rcases hend with⟨hf,f⟩|⟨_,_,_,_,_,_,T,_⟩
 .obtain⟨_,_,y1,a0,_,e3⟩:=f.ne';obtain⟨B,k, -⟩:=id hf;have e4:=f.lone k e3;subst e4 e3;rw[k] at f;refine .step rfl λw2 P=> ?_;obtain⟨r1,r2,r3⟩:=d.rl _ _ _ P;have G:=aDM.rely po r1 r2 r3;obtain⟨σ,v,v',w3,E,es,O,t,q1,q2,q3,q4,q5,q6,z,q8,q9⟩:=auA (mo false) (t0:=c1.t) (Post:=λv _=>v=.agg #[.string (Z key l nm).1,.bool (Z key l nm).2]) f G λt ht=>by
   obtain⟨cI,v,U,_,e6,e7⟩:=hW1.fin hf acy t ht;rw[k] at U;cases U;exact⟨v,e6,e7⟩
  refine⟨_,E,O,_,q9 main cfr cs,⟨ai4 po z,z.size',z.os.2,rfl,aq2 po q6 z q8⟩,.stop λ_ _=> ?_⟩;subst q2;rw[apw q5]
 .exact(apv hW1 T).elim
end
section
open Go Go.Conc Go.ConcN Go.RowKit
abbrev SN(S:av)(w w':World):av:=λb=>S b\/(w.heap.size<=b/\b<w'.heap.size)
section
variable {P:Program} {main:Bool} {Rl:av->World->World->Prop} {St:av->Goroutine->World->Prop} {S Rr:av} {w0:World} {f:FuncId} {T:Array Value} {k:List Item} {xs base:List Frame}
def mW (H:pd Rl Rr)   {o:Oper} {d:Tmp} {ob:Obj} (j:d<T.size) (l:Q[i]?=some o) (r:o.guard=none) (c:o.dst=some d)
  (n:∀w,(execOp (FQ f T (.inRegion Q (i::rest)::k)).eval o).runT P w #[]=(.ok (.value (.pointer (some ⟨w.heap.size,0,none⟩))) (w.alloc ob),#[]))
  (s:∀w,Rl S w0 w->∀T':Array Value,T'.size=T.size->T'.getD d undef=.pointer (some ⟨w.heap.size,0,none⟩)->(∀t,t≠d->T'.getD t undef=T.getD t undef)->∀a,Rl (SN S w (w.alloc ob)) (w.alloc ob) a->bJ P main Rl (pg Rr) St (SN S w (w.alloc ob)) (Gl (FQ f T' (.inRegion Q rest::k)::xs) base) a) :
  ∀w,Rl S w0 w->bJ P main Rl (pg Rr) St S (Gl (FQ f T (.inRegion Q (i::rest)::k)::xs) base) w:=λw m=>by
 refine .step rfl λa g=> ?_;have u:=H.tr _ _ _ _ m g;refine⟨_,_,_,_,amx rfl rfl rfl rfl l r (n a),⟨λb q _=>rH a _ b q,by rw[mp];omega,rfl,rfl,λe v=>by cases(by simpa using tn v:False)⟩, ?_⟩;have:Frame.finish (FQ f T (.inRegion Q (i::rest)::k)) (.pointer (some ⟨a.heap.size,0,none⟩))=FQ f (T.setIfInBounds d (.pointer (some ⟨a.heap.size,0,none⟩))) (.inRegion Q rest::k):=by
  simp only[Frame.finish,l,qL,c]
 rw[this];exact s a u _ (by simp) (by rw[aH j,du rfl]) (λt p=>by rw[aH j,da p]) _ (H.fR _ _)
end
section
variable {P:Program} (F:FaT P) {w:World} {e:Operand->Value} {x:Operand} {dst:Option Tmp} {ty:TypeId} {pos:String} {af:Array Edge} {gd:Option (Nat×Bool)}
include F
theorem ajT:(execOp e ⟨dst,.alloc 151,ty,pos,af,gd⟩).runT P w #[]=(.ok (.value (.pointer (some ⟨w.heap.size,0,none⟩))) (w.alloc (.cells #[.string ⟨#[]⟩,.bool false] 151)),#[]):=by
 obtain⟨i,b,d,c,a⟩:=F.adF;simp[execOp,Instr.alloc,zeroValue,typeInfo,b,a,newVar,newRow,Value.cells]
theorem asG{t:Tmp}(h:e (.tmp t)=.slice A n c):(execOp e ⟨dst,.call ⟨.builtin .len,#[.tmp t],#[23]⟩,ty,pos,af,gd⟩).runT P w #[]=(.ok (.value (.int .i64 n)) w,#[]):=by
 rw[pI (s:=λv=>Builtin.len_ #[23] ty #[v]) λ_ v=>rfl,h];change Sem.runT P (Builtin.len_ #[23] ty #[.slice A n c] >>=λu=>pure (Next.value u)) w #[]=_;simp[Builtin.len_,mt F.u23,goInt]
omit F in
theorem apV{a b:Int}(d:e x=.int .i64 a)(c:e y=.int .i64 b):(execOp e ⟨dst,.binOp .lss 3 x y 3,ty,pos,af,gd⟩).runT P w #[]=(.ok (.value (.bool (decide (a<b)))) w,#[]):=by
 have:execOp e ⟨dst,.binOp .lss 3 x y 3,ty,pos,af,gd⟩=(binOp .lss 3 (e x) (e y)).bind λv=>Sem.pure (.value v):=rfl;rw[this,d,c];rfl
omit F in
theorem asH:(prog.info? 9).map (·.size ==1)=some true/\(prog.info? 4).map (·.size ==1)=some true:=by
 constructor<;>kernel_rfl
omit F in
theorem ajU:(execOp e ⟨dst,.build 151 #[],ty,pos,af,gd⟩).runT prog w #[]=(.ok (.value (.agg #[.string ⟨#[]⟩,.bool false])) w,#[]):=by
 obtain⟨i,d,m,l,b⟩:=faT.adF;obtain⟨f,a,j⟩:=lc.1 asH.1;obtain⟨k,c,g⟩:=lc.1 asH.2;simp[execOp,Instr.build,zeroValue,typeInfo,d,b,mt underlying151,sizeOf,a,c,Instr.fill,Value.cells]
end
end
section
open Go Go.Conc Go.ConcN Go.RowKit
def avA(h:w'.heap.size=w.heap.size):SN S w w'=S:=by
 funext b
 show(S b\/(w.heap.size<=b/\b<w'.heap.size))=S b;rw[h];exact propext ⟨λx=>x.elim id λy=>absurd y.1 (by omega),.inl⟩
def abm{A:Addr}{c : Value}(b:alr u=true)(g:w.cell? A=some c)(d:w.frozen? A=false){f:Type}(k:Sem f)(es:Array Event):(Sem.store .plain A u k).runT P w es=k.runT P (w.setCell A u) (es.push ⟨.cell A,true,false⟩):=by
 have a:(∀x,u ≠ .agg x)/\∀x,u ≠ .tuple x:=⟨λx e=>(by subst e;cases b),λx e=>(by subst e;cases b)⟩;rw[sD _ _ _ _ _ _ _ a.1 a.2];simp only[g,d,kw,qK];rfl
section
variable {P:Program} (F:FaT P) {w:World} {e:Operand->Value} {x y:Operand} {dst:Option Tmp} {ty:TypeId} {pos:String} {af:Array Edge} {gd:Option (Nat×Bool)}
include F
theorem agu{A:Addr}{u0 u1 c0 c1:Value}(m:alr u0=true)(q:alr u1=true)(o:e x=.pointer (some A))(l:e y=.agg #[u0,u1])(a:w.cell? A=some c0)(d:w.frozen? A=false)(f:w.cell? (A.add 1)=some c1)(b:w.frozen? (A.add 1)=false) :
  (execOp e ⟨dst,.store 151 x y,ty,pos,af,gd⟩).runT P w #[]=(.ok .skip ((w.setCell A u0).setCell (A.add 1) u1),#[⟨.cell A,true,false⟩,⟨.cell (A.add 1),true,false⟩]):=by
 obtain⟨i,n,r, -⟩:=F.adF;have g:(storeCells A [u0,u1] 0).runT P w #[]=(.ok () ((w.setCell A u0).setCell (A.add 1) u1),#[⟨.cell A,true,false⟩,⟨.cell (A.add 1),true,false⟩]):=by
  show(Sem.store .plain (A.add 0) u0 (Sem.store .plain (A.add 1) u1 (Sem.pure ()))).runT P w #[]=_;have j:A.add 0=A:=by unfold Addr.add;simp
  rw[j,abm m a d,abm q (c:=c1) (by rw[tY _ _ _ _ (λe=>aro e.symm)];exact f) (by rw[uK];exact b)];rfl
 have p:(storeCells A [u0,u1] 0).run P w=.ok () ((w.setCell A u0).setCell (A.add 1) u1):=by
  rw[<-rx _ _ _ #[]];exact jp Prod.fst g
 have k:(storeCells A [u0,u1] 0).events P w #[]=#[⟨.cell A,true,false⟩,⟨.cell (A.add 1),true,false⟩]:=jp Prod.snd g;simp[execOp,o,l,Instr.storeAt,Instr.sureAddr,storeVar,sizeOf,typeInfo,n,r,Value.cells,p,k]
theorem asI{A:Addr}{u0 u1:Value}{fn:Func}(c:fn.results=#[.cell 6 151])(m:T.getD 6 undef=.pointer (some A))(b:w.cell? A=some u0)(d:w.cell? (A.add 1)=some u1) :
  (results fn T).runT P w #[]=(.ok (.agg #[u0,u1]) w,#[⟨.cell A,false,false⟩,⟨.cell (A.add 1),false,false⟩]):=by
 obtain⟨i,k,p, -⟩:=F.adF;obtain⟨q,j⟩:=F.auL;have e:(loadCells A 2).runT P w #[]=(.ok #[u0,u1] w,#[⟨.cell A,false,false⟩,⟨.cell (A.add 1),false,false⟩]):=by
  show(Sem.load .plain (A.add 0) λo=>Sem.load .plain (A.add 1) λn=>Sem.pure #[o,n]).runT P w #[]=_;have f:A.add 0=A:=by unfold Addr.add;simp
  rw[f,Sem.runT];simp only[b];rw[Sem.runT];simp only[d];rfl
 have l:(loadCells A 2).run P w=.ok #[u0,u1] w:=by
  rw[<-rx _ _ _ #[]];exact jp Prod.fst e
 have g:(loadCells A 2).events P w #[]=#[⟨.cell A,false,false⟩,⟨.cell (A.add 1),false,false⟩]:=jp Prod.snd e;have a:T[6]?.getD undef=.pointer (some A):=by rw[<-iS];exact m
 simp[results,c,a,asAddr,loadVar,isAgg,mt j,sizeOf,typeInfo,k,p,l,g]
end
def avB{Rl:av->World->World->Prop}(H:pd Rl Rr){nm : Int}{cs:List Frame} :
  bJ prog main Rl (pg Rr) (λ_ g _=>g=⟨cfr.finish (.agg #[.string ⟨#[]⟩,.bool false]),cs,.running,none,none⟩) S
   (Gl (Frame.enter prog 89 #[.int .i64 key,.slice A 0 c,.int .i64 nm] .normal::[]) (cfr::cs)) w:=by
 have C:=H.cmp;have K:Frame.enter prog 89 #[.int .i64 key,.slice A 0 c,.int .i64 nm] .normal=FQ 89 (#[.int .i64 key,.slice A 0 c,.int .i64 nm]++Array.replicate 26 undef) [.code (f89.body.getD .skip)]:=by
  unfold Frame.enter;rw[func89];rfl
 rw[K];obtain⟨T,hT,j,R⟩:∃T:Array Value,T=#[.int .i64 key,.slice A 0 c,.int .i64 nm]++Array.replicate 26 undef/\29<=T.size/\T.getD 1 undef=.slice A 0 c:=⟨_,rfl,by simp,by rw[iS,rU (by simp)];rfl⟩;rw[<-hT];simp only[f89,qo];have key:∀y,Rl S w y->bJ prog main Rl (pg Rr) (λ_ g _=>g=⟨cfr.finish (.agg #[.string ⟨#[]⟩,.bool false]),cs,.running,none,none⟩) S (Gl (FQ 89 T [.code (f89.body.getD .skip)]::[]) (cfr::cs)) y:=by
  simp only[f89,qo];refine eF C (fV C (l:=[0]) rfl (mW H (d:=6) (bd (by decide) j) rfl rfl rfl (λw=>ajT faT) λn cZ T1 a k o=> ?_));replace R:=(o 1 (by decide)).trans R;replace j:=ap j (pb a.symm);have hB:(n.alloc (.cells #[.string ⟨#[]⟩,.bool false] 151)).heap[n.heap.size]?=some (.cells #[.string ⟨#[]⟩,.bool false] 151 (0,0)):=by
   show(n.heap.push _)[n.heap.size]?=_;rw[qX]
  have s:SN S n (n.alloc (.cells #[.string ⟨#[]⟩,.bool false] 151)) n.heap.size:=.inr ⟨am _,by rw[mp];omega⟩;have G:n.heap.size<(n.alloc (.cells #[.string ⟨#[]⟩,.bool false] 151)).heap.size:=by rw[mp];omega
  generalize SN S n (n.alloc (.cells #[.string ⟨#[]⟩,.bool false] 151))=S1 at s ⊢;generalize n.alloc (.cells #[.string ⟨#[]⟩,.bool false] 151)=w2 at hB G ⊢;generalize n.heap.size=B at hB s k G;refine ik C (eF C (eF C (fV C (l:=[0,1,2]) rfl ?_)));refine bM C (d:=11) (v:=.slice A 0 c) (es:=#[]) (bd (by decide) j) rfl rfl rfl (λw r=>fB R) (λw r=>bm _) λT2 a U o=> ?_;replace k:=(o 6 (by decide)).trans k;replace j:=ap j (pb a.symm);refine bM C (d:=12) (v:=.int .i64 (0:Nat)) (es:=#[]) (bd (by decide) j) rfl rfl rfl (λw r=>asG faT U) (λw r=>bm _) λT3 a E o=> ?_;replace k:=(o 6 (by decide)).trans k;replace j:=ap j (pb a.symm);refine bM C (d:=13) (v:=.int .i64 0) (es:=#[]) (bd (by decide) j) rfl rfl rfl (λw r=>fB rfl) (λw r=>bm _) λT4 a a0 o=> ?_;replace k:=(o 6 (by decide)).trans k;replace E:=(o 12 (by decide)).trans E;replace j:=ap j (pb a.symm);refine ik C (aeo C (amC C (eF C (fV C (l:=[0]) rfl ?_))));refine bM C (d:=14) (v:=.bool (decide ((0:Int)<((0:Nat):Int)))) (es:=#[]) (bd (by decide) j) rfl rfl rfl (λw r=>apV a0 E) (λw r=>bm _) λT5 a z o=> ?_;replace k:=(o 6 (by decide)).trans k;replace j:=ap j (pb a.symm);replace z:T5.getD 14 undef=.bool false:=z.trans rfl;refine ik C (eF C (abF C (q:=false) z ?_));simp only[kw,qK];refine amA C rfl (eF C (fV C (l:=[0,1]) rfl ?_));refine bM C (d:=28) (v:=.agg #[.string ⟨#[]⟩,.bool false]) (es:=#[]) (bd (by decide) j) rfl rfl rfl (λw r=>ajU) (λw r=>bm _) λV a ji o=> ?_;replace k:=(o 6 (by decide)).trans k;replace j:=ap j (pb a.symm);have u:(⟨B,0,none⟩:Addr).add 1=⟨B,1,none⟩:=jf _ _ _;have keep:∀y,Rl S1 w2 y->y.heap[B]?=some (.cells #[.string ⟨#[]⟩,.bool false] 151 (0,0))/\B<y.heap.size:=λy hr=>by
   obtain⟨Z,r2, -⟩:=H.rl _ _ _ hr;exact⟨(Z B (.inl s)).trans hB,by omega⟩
  intro w3 Q;refine .step rfl λt Y=> ?_;obtain⟨L,b2⟩:=keep t (H.tr _ _ _ _ Q Y);have c0:=eX (i:=0) L;have c1:=eX (i:=1) L;refine⟨_,_,_,_,aeS rfl rfl rfl rfl rfl rfl (agu faT (A:=⟨B,0,none⟩) (u0:=.string ⟨#[]⟩) (u1:=.bool false) (c0:=.string ⟨#[]⟩) (c1:=.bool false) rfl rfl k ji c0 (iB L) (by rw[u];exact c1) (by rw[u];exact iB L)),⟨λb hb hn=> ?_, ?_,rfl,rfl,λev K=> ?_⟩, ?_⟩
  .have F:B≠b:=λe=>hn (e▸s);rw[u,bj _ _ _ F,bj _ _ _ F]
  .rw[be,be];exact am _
  .have N:=tn K;simp only[sI,pa,rF,ue] at N;have M:B<((t.setCell ⟨B,0,none⟩ (.string ⟨#[]⟩)).setCell ((⟨B,0,none⟩:Addr).add 1) (.bool false)).heap.size:=by rw[be,be];exact b2
   rcases N with rfl|rfl
   .exact⟨λx p=>.inl (by simp[MemAct.ofEvent,MemAct.touch?] at p;rw[<-p];exact .inl s),λm D=>(by cases D),M⟩
   .refine⟨λx p=>.inl ?_,λm D=>(by cases D), ?_⟩
    .simp[MemAct.ofEvent,MemAct.touch?] at p;rw[<-p,u];exact .inl s
    .show((⟨B,0,none⟩:Addr).add 1).block<_;rw[rA];exact M
  have P:(λb=>S1 b\/(t.heap.size<=b/\b<((t.setCell ⟨B,0,none⟩ (.string ⟨#[]⟩)).setCell ((⟨B,0,none⟩:Addr).add 1) (.bool false)).heap.size))=S1:=avA (by rw[be,be]);rw[P];have I:((t.setCell ⟨B,0,none⟩ (.string ⟨#[]⟩)).setCell ((⟨B,0,none⟩:Addr).add 1) (.bool false)).heap[B]?=some (.cells #[.string ⟨#[]⟩,.bool false] 151 (0,0)):=by
   rw[u];exact setRow (setRow L)
  have X:B<((t.setCell ⟨B,0,none⟩ (.string ⟨#[]⟩)).setCell ((⟨B,0,none⟩:Addr).add 1) (.bool false)).heap.size:=by rw[be,be];exact b2
  generalize (t.setCell ⟨B,0,none⟩ (.string ⟨#[]⟩)).setCell ((⟨B,0,none⟩:Addr).add 1) (.bool false)=w5 at I X ⊢;refine ik (f:=89) (T:=V) C (w0:=w5) ?_ w5 (H.fR _ _);refine bJ.still C (l2:=⟨89,V,[.code .ret],[],.returning,.normal,none⟩::[]) (es:=λ_=>#[]) (λw _=>by simp[Gl,stepG,stepG.exec]) (λ_ _ e h=>by cases(by simpa using h:False)) ?_;intro w6 O;refine .step rfl λw7 W=> ?_;obtain⟨Z,r2, -⟩:=H.rl _ _ _ (H.tr _ _ _ _ O W);have b7:=(Z B (.inl s)).trans I;have J:=asI faT (T:=V) (A:=⟨B,0,none⟩) (fn:=f89) rfl k (eX (i:=0) b7) (by rw[u];exact eX (i:=1) b7);refine⟨⟨cfr.finish (.agg #[.string ⟨#[]⟩,.bool false]),cs,.running,none,none⟩,w7,seen prog 89 #[⟨.cell ⟨B,0,none⟩,false,false⟩,⟨.cell ((⟨B,0,none⟩:Addr).add 1),false,false⟩],_, ?_,⟨λ_ _ _=>rfl,am _,rfl,rfl,λev K=> ?_⟩,.stop λ_ _=>rfl⟩
  .simp only[Gl,stepG,unwind,func89,J,qV];simp[doReturn,GStep.after]
  .have N:=tn K;simp only[sI,pa,rF,ue] at N;rcases N with rfl|rfl
   .exact⟨λx p=>.inl (by simp[MemAct.ofEvent,MemAct.touch?] at p;rw[<-p];exact .inl s),λm D=>(by cases D),by show B<_;omega⟩
   .refine⟨λx p=>.inl ?_,λm D=>(by cases D), ?_⟩
    .simp[MemAct.ofEvent,MemAct.touch?] at p;rw[<-p,u];exact .inl s
    .show((⟨B,0,none⟩:Addr).add 1).block<_;rw[rA];show B<_;omega
 exact key w (H.fR _ _)
end
section
open Go Go.Conc Go.ConcR Go.RowKit Go.Conc.Lib Go.ConcR.Gen
abbrev eJ:WgLink:={add:=86,done:=88,wait:=90,relMerge:=102,disable:=103,enable:=104,inBubble:=105,associate:=106,fatal:=107,uOr:=108,uAdd:=109,raceRead:=110,uLoad:=111,uStore:=112,disassociate:=113,semrelease:=114,acquire:=116,isAssociated:=117,uCas:=118,raceWrite:=119,semacquire:=120,orU64:=131,addU64:=132,loadU64:=133,storeU64:=134,casU64:=138,tWgP:=159,tUP:=161,tAssoc:=163,tWg:=148,tAU:=145,tU64:=143,tUint:=167,tU32:=146,tPU32:=168,tPAU:=192,tPU64:=194,tNoCopy:=140,tANoCopy:=141,tAlign64:=142}
def aav:WgLib prog eJ:=
 ⟨func86,func88,func90,func102,func103,func104,func105,func106,func107,func108,func109,func110,func111,func112,func113,func114,func116,func117,func118,func119,func120,func131,func132,func133,func134,func138,underlying159,Tryz.runUnderlying159,Tryz.sizeOf159,Tryz.isAgg159,Tryz.zeroValue159,underlying161,Tryz.runUnderlying161,Tryz.sizeOf161,Tryz.isAgg161,Tryz.zeroValue161,underlying163,Tryz.runUnderlying163,Tryz.sizeOf163,Tryz.isAgg163,Tryz.zeroValue163,underlying148,Tryz.runUnderlying148,Tryz.sizeOf148,Tryz.isAgg148,Tryz.zeroValue148,underlying145,Tryz.runUnderlying145,Tryz.sizeOf145,Tryz.isAgg145,Tryz.zeroValue145,underlying143,Tryz.runUnderlying143,Tryz.sizeOf143,Tryz.isAgg143,Tryz.zeroValue143,underlying167,Tryz.runUnderlying167,Tryz.sizeOf167,Tryz.isAgg167,Tryz.zeroValue167,underlying146,Tryz.runUnderlying146,Tryz.sizeOf146,Tryz.isAgg146,Tryz.zeroValue146,underlying168,Tryz.runUnderlying168,Tryz.sizeOf168,Tryz.isAgg168,Tryz.zeroValue168,underlying192,Tryz.runUnderlying192,Tryz.sizeOf192,Tryz.isAgg192,Tryz.zeroValue192,underlying194,Tryz.runUnderlying194,Tryz.sizeOf194,Tryz.isAgg194,Tryz.zeroValue194,underlying0,Tryz.runUnderlying0,Tryz.sizeOf0,Tryz.isAgg0,Tryz.zeroValue0,underlying3,Tryz.runUnderlying3,Tryz.sizeOf3,Tryz.isAgg3,Tryz.zeroValue3,underlying4,Tryz.runUnderlying4,Tryz.sizeOf4,Tryz.isAgg4,Tryz.zeroValue4,underlying9,Tryz.runUnderlying9,Tryz.sizeOf9,Tryz.isAgg9,Tryz.zeroValue9,underlying20,Tryz.runUnderlying20,Tryz.sizeOf20,Tryz.isAgg20,Tryz.zeroValue20,underlying21,Tryz.runUnderlying21,Tryz.sizeOf21,Tryz.isAgg21,Tryz.zeroValue21,(by kernel_rfl),(by kernel_rfl)⟩
end
section
open Go Go.Conc Go.ConcN Go.RowKit Go.Conc.Lib Go.ConcR.Gen Go.ConcN.Gen
open Go.ConcR (KK wgBlock WgAt stA smA rd wr mk Payload Aside2 DC0)
section
variable (P:Program) (R:World->World->Prop) (ty:TypeId) (Wg:Nat)
def oN(e:Mark)(m:Nat)(S:Goroutine->World->Prop)(g:Goroutine)(w:World):Prop:=
 g.status=.running/\∃a,stepG P true g w=.go a w #[mk e]/\Goes P true R DC0 S m a w
def ajV(S:Goroutine->World->Prop)(g:Goroutine)(w:World):Prop:=
 g.status=.running/\∀v:Nat,v<2147483647->WgAt ty Wg w (v*KK) 0->
  ∃a,stepG P true g w=.go a (w.setCell (stA Wg) (.int .u64 ((v+1)*KK))) #[rd (stA Wg),wr (stA Wg)]/\
   (v=0->Goes P true R DC0 (oN P R (.read ⟨Wg,1,none⟩) 120 (oN P R .enable 3 S)) 120 a (w.setCell (stA Wg) (.int .u64 ((v+1)*KK))))/\
   (v≠0->Goes P true R DC0 (oN P R .enable 3 S) 120 a (w.setCell (stA Wg) (.int .u64 ((v+1)*KK))))
end
section
variable {P:Program} {L:WgLink} {R:World->World->Prop} {Wg:Nat} {S:Goroutine->World->Prop}
 {b₀:Frame} {a₀:Act} {ops₀:Array Oper} {i₀:Nat} {rest₀:List Nat} {k₀:List Item} {cs:List Frame}
def asJ (H:WgLib P L) (b:∀w d,WgLive L.tWg Wg w->R w d->WgLive L.tWg Wg d)
  (l:∀w,WgLive L.tWg Wg w->S (G (b₀.at (a₀.put ((ops₀[i₀]?).bind (·.dst)) (.tuple #[])) (.inRegion ops₀ rest₀::k₀)) cs) w)
  (w:World) (a:WgLive L.tWg Wg w) :
  Goes P true R DC0 (oN P R .disable 60 (ajV P R L.tWg Wg S)) 30
   (G ((base L.add).at ⟨#[.pointer (some ⟨Wg,0,none⟩),.int .i64 1,undef,undef,undef,undef,undef,undef,undef,undef,undef,undef,undef,undef,undef,undef,undef,undef,undef,undef,undef,undef,undef,undef,undef,undef,undef,undef,undef,undef,undef,undef,undef,undef,undef,undef,undef,undef,undef,undef,undef,undef,undef,undef,undef,undef,undef,undef,undef,undef,undef,undef,undef,undef,undef,undef,undef,undef,undef,undef,undef,undef,undef,undef,undef,undef,undef,undef,undef,undef,undef,undef,undef,undef,undef,undef,undef,undef,undef,undef,undef,undef,undef,undef,undef,undef,undef,undef,undef,undef,undef,undef,undef,undef,undef,undef,undef,undef,undef,undef,undef,undef,undef,undef,undef,undef,undef,undef,undef,undef,undef,undef,undef,undef,undef,undef,undef],[]⟩ [.code (body_add L)]) (b₀.at a₀ (.inRegion ops₀ (i₀::rest₀)::k₀)::cs)) w:=by
 lib_facts
 simp only[body_add,addFn,qo]
 u_c li (b _ _) a
 u_cond true (b _ _) a
 u_c li (b _ _) a
 u_c li (b _ _) a
 u_reg (b _ _) a
 u_op (b _ _) a
 u_op (b _ _) a
 u_c fb (b _ _) a
 u_cond false (b _ _) a
 u_c rJ (b _ _) a
 u_c li (b _ _) a
 u_reg (b _ _) a
 refine qG (λd c=> ?_);replace a:=b _ _ a c;clear c;refine⟨rfl,_,uX .disable (by simp) rfl rfl (by k_ne) rfl H.f_disable (x_disable_n L) (x_disable_b L) (x_disable_x L) (x_disable_f L), ?_⟩
 walk_nrm
 u_c fb (b _ _) a
 u_reg (b _ _) a
 u_defer (b _ _) a
 u_c fb (b _ _) a
 u_c li (b _ _) a
 u_reg (b _ _) a
 u_op (b _ _) a
 u_c fb (b _ _) a
 u_c li (b _ _) a
 u_c li (b _ _) a
 u_reg (b _ _) a
 u_bub (b _ _) a
 u_c fb (b _ _) a
 u_cond false (b _ _) a
 u_c rJ (b _ _) a
 u_c li (b _ _) a
 u_reg (b _ _) a
 u_op (b _ _) a
 u_op (b _ _) a
 u_op (b _ _) a
 u_op (b _ _) a
 u_op (b _ _) a
 u_op (b _ _) a
 u_call H.f_uAdd (nm_uAdd L) uAddFn (b _ _) a
 u_c li (b _ _) a
 u_reg (b _ _) a
 u_op (b _ _) a
 u_c fb (b _ _) a
 u_c li (b _ _) a
 u_reg (b _ _) a
 u_op (b _ _) a
 u_op (b _ _) a
 u_op (b _ _) a
 u_op (b _ _) a
 refine qG (λd c=> ?_);replace a:=b _ _ a c;clear c;refine⟨rfl,λv B g=> ?_⟩;rcases qe v with rfl|o
 .replace g:WgAt L.tWg Wg d 0 0:=by simpa using g
  have z:(((0:Nat):Int)+1)*KK=KK:=by simp
  rw[z];have m:IntKind.u64.wrap (0+4294967296)=KK:=by decide
  refine⟨_,(stepG_add_atomic rfl rfl (by k_ne) rfl H.f_addU64 (x_addU64_n L) (x_addU64_b L) (x_addU64_x L) .u64 (x_addU64_f L) rfl rfl g.cellSt (g.thaw 0)).trans (by rw[m];rfl),λ_=> ?_,λh=>absurd rfl h⟩;replace a:WgLive L.tWg Wg (d.setCell (stA Wg) (.int .u64 KK)):=⟨_,_,g.setSt _⟩;clear g;simp only[KK] at a ⊢
  walk_nrm
  u_op (b _ _) a
  u_c fb (b _ _) a
  u_c sK (b _ _) a
  u_leave1 H.f_uAdd (b _ _) a
  u_op (b _ _) a
  u_c fb (b _ _) a
  u_c li (b _ _) a
  u_c li (b _ _) a
  u_reg (b _ _) a
  u_op (b _ _) a
  u_op (b _ _) a
  u_op (b _ _) a
  u_op (b _ _) a
  u_skip (b _ _) a
  u_skip (b _ _) a
  u_op (b _ _) a
  u_c fb (b _ _) a
  u_cond false (b _ _) a
  u_c rJ (b _ _) a
  u_c li (b _ _) a
  u_reg (b _ _) a
  u_op (b _ _) a
  u_op (b _ _) a
  u_op (b _ _) a
  u_op (b _ _) a
  u_c fb (b _ _) a
  u_c li (b _ _) a
  u_reg (b _ _) a
  u_op (b _ _) a
  u_op (b _ _) a
  u_op (b _ _) a
  u_op (b _ _) a
  u_c fb (b _ _) a
  u_c li (b _ _) a
  u_c li (b _ _) a
  u_reg (b _ _) a
  u_op (b _ _) a
  u_op (b _ _) a
  u_op (b _ _) a
  u_op (b _ _) a
  u_op (b _ _) a
  u_op (b _ _) a
  u_op (b _ _) a
  u_op (b _ _) a
  u_op (b _ _) a
  u_op (b _ _) a
  u_c fb (b _ _) a
  u_cond true (b _ _) a
  u_reg (b _ _) a
  u_op (b _ _) a
  u_op (b _ _) a
  u_op (b _ _) a
  u_conv H.underlying_tPU32 H.room_tU32 (WgLive.cell1 a).choose_spec (b _ _) a
  refine qG (λd c=> ?_);replace a:=b _ _ a c;clear c;refine⟨rfl,_,uM .read (by simp) rfl rfl (by k_ne) rfl H.f_raceRead (x_raceRead_n L) (x_raceRead_b L) (x_raceRead_x L) (x_raceRead_f L) (ad:=⟨Wg,1,none⟩) (by simp[Act.eval]), ?_⟩
  walk_nrm
  u_c fb (b _ _) a
  u_c li (b _ _) a
  u_c li (b _ _) a
  u_reg (b _ _) a
  u_op (b _ _) a
  u_op (b _ _) a
  u_c fb (b _ _) a
  u_cond false (b _ _) a
  u_c rJ (b _ _) a
  u_c li (b _ _) a
  u_c li (b _ _) a
  u_reg (b _ _) a
  u_op (b _ _) a
  u_op (b _ _) a
  u_op (b _ _) a
  u_skip (b _ _) a
  u_skip (b _ _) a
  u_op (b _ _) a
  u_op (b _ _) a
  u_skip (b _ _) a
  u_skip (b _ _) a
  u_skip (b _ _) a
  u_skip (b _ _) a
  u_op (b _ _) a
  u_c fb (b _ _) a
  u_cond false (b _ _) a
  u_c rJ (b _ _) a
  u_c li (b _ _) a
  u_c li (b _ _) a
  u_reg (b _ _) a
  u_op (b _ _) a
  u_op (b _ _) a
  u_op (b _ _) a
  u_skip (b _ _) a
  u_skip (b _ _) a
  u_op (b _ _) a
  u_c fb (b _ _) a
  u_cond true (b _ _) a
  u_c sK (b _ _) a
  refine qG (λd c=> ?_);replace a:=b _ _ a c;clear c;refine⟨rfl,_,stepG_unwind_entry (v:=.tuple #[]) (evs:=#[mk .enable]) rfl H.f_enable (x_enable_n L) (x_enable_b L) (x_enable_x L) (x_enable_f L) (by simp[Extern.Race.none_]) (by simp[mk]) (by simp[mk]), ?_⟩
  u_leave0 H.f_add (b _ _) a
  exact qG λi f=>l _ (b _ _ a f)
 .obtain⟨V,j⟩:∃V:Int,V=(v:Int)+1:=⟨_,rfl⟩;obtain⟨St,e⟩:∃St:Int,St=V*KK:=⟨_,rfl⟩;have k:IntKind.u64.wrap ((v:Int)*KK+4294967296)=St:=by rw[IntKind.wrap_u64,e,j];simp only[KK];omega
  rw[<-j,<-e];have C:St / 4294967296=V:=by rw[e];simp only[KK];omega
  have q:bits .and .u64 St 2147483648=0:=by rw[e,j];have:=st_flag (v+1) 0 (by omega) (by omega);simpa[KK] using this
  have A:bits .and .u64 St 2147483647=0:=by rw[e,j];have:=st_waiters (v+1) 0 (by omega) (by omega);simpa[KK] using this
  have u:IntKind.i32.wrap V=V:=by rw[IntKind.wrap_i32];omega
  have n:1<V:=by omega
  have p:V<2147483648:=by omega
  have s:(V ==1)=false:=by simp;omega
  have D:=bv (show ¬(V=1) by omega);have t:=bv (show ¬(V<0) by omega);have y:=dj (show 0<V by omega);have x:(V ==0)=false:=by simp;omega
  have r:=bv (show ¬(V=0) by omega);refine⟨_,(stepG_add_atomic rfl rfl (by k_ne) rfl H.f_addU64 (x_addU64_n L) (x_addU64_b L) (x_addU64_x L) .u64 (x_addU64_f L) rfl rfl g.cellSt (g.thaw 0)).trans (by rw[k];rfl),λh=>absurd h (by omega),λ_=> ?_⟩;replace a:WgLive L.tWg Wg (d.setCell (stA Wg) (.int .u64 St)):=⟨_,_,g.setSt _⟩;clear g e j k
  walk_nrm
  u_op (b _ _) a
  u_c fb (b _ _) a
  u_c sK (b _ _) a
  u_leave1 H.f_uAdd (b _ _) a
  u_op (b _ _) a
  u_c fb (b _ _) a
  u_c li (b _ _) a
  u_c li (b _ _) a
  u_reg (b _ _) a
  u_op (b _ _) a
  u_op (b _ _) a
  u_op (b _ _) a
  u_op (b _ _) a
  u_skip (b _ _) a
  u_skip (b _ _) a
  u_op (b _ _) a
  u_c fb (b _ _) a
  u_cnd false (b _ _) a
  u_c rJ (b _ _) a
  u_c li (b _ _) a
  u_reg (b _ _) a
  u_op (b _ _) a
  u_op (b _ _) a
  u_op (b _ _) a
  u_op (b _ _) a
  u_c fb (b _ _) a
  u_c li (b _ _) a
  u_reg (b _ _) a
  u_op (b _ _) a
  u_op (b _ _) a
  u_op (b _ _) a
  u_op (b _ _) a
  u_c fb (b _ _) a
  u_c li (b _ _) a
  u_c li (b _ _) a
  u_reg (b _ _) a
  u_op (b _ _) a
  u_op (b _ _) a
  u_op (b _ _) a
  u_op (b _ _) a
  u_op (b _ _) a
  u_op (b _ _) a
  u_op (b _ _) a
  u_op (b _ _) a
  u_op (b _ _) a
  u_op (b _ _) a
  u_c fb (b _ _) a
  u_cnd false (b _ _) a
  u_c rJ (b _ _) a
  u_c li (b _ _) a
  u_c li (b _ _) a
  u_reg (b _ _) a
  u_op (b _ _) a
  u_op (b _ _) a
  u_c fb (b _ _) a
  u_cnd false (b _ _) a
  u_c rJ (b _ _) a
  u_c li (b _ _) a
  u_c li (b _ _) a
  u_reg (b _ _) a
  u_op (b _ _) a
  u_op (b _ _) a
  u_op (b _ _) a
  u_skip (b _ _) a
  u_skip (b _ _) a
  u_op (b _ _) a
  u_op (b _ _) a
  u_skip (b _ _) a
  u_skip (b _ _) a
  u_skip (b _ _) a
  u_skip (b _ _) a
  u_op (b _ _) a
  u_c fb (b _ _) a
  u_cnd false (b _ _) a
  u_c rJ (b _ _) a
  u_c li (b _ _) a
  u_c li (b _ _) a
  u_reg (b _ _) a
  u_op (b _ _) a
  u_op (b _ _) a
  u_op (b _ _) a
  u_skip (b _ _) a
  u_skip (b _ _) a
  u_op (b _ _) a
  u_c fb (b _ _) a
  u_cnd true (b _ _) a
  u_c sK (b _ _) a
  refine qG (λd c=> ?_);replace a:=b _ _ a c;clear c;refine⟨rfl,_,stepG_unwind_entry (v:=.tuple #[]) (evs:=#[mk .enable]) rfl H.f_enable (x_enable_n L) (x_enable_b L) (x_enable_x L) (x_enable_f L) (by simp[Extern.Race.none_]) (by simp[mk]) (by simp[mk]), ?_⟩
  u_leave0 H.f_add (b _ _) a
  exact qG λi f=>l _ (b _ _ a f)
end
end
section
open Go Go.Conc Go.ConcN Go.RowKit Go.Conc.Lib Go.ConcR.Gen Go.ConcN.Gen
open Go.ConcR (KK wgBlock WgAt stA smA rd wr mk Aside2 DC0)
section
variable (P:Program) (R:World->World->Prop) (ty:TypeId) (Wg:Nat) (aml S:Goroutine->World->Prop)
abbrev WKe:Goroutine->World->Prop:=oN P R .enable 12 (oN P R (.acquire (stA Wg)) 20 S)
def WW4(g:Goroutine)(w:World):Prop:=g.status=.running/\(WgAt ty Wg w 0 0->∃a,stepG P true g w=.go a w #[rd (stA Wg)]/\Goes P true R DC0 (WKe P R Wg S) 40 a w)
def WW3(g:Goroutine)(w:World):Prop:=g.status=.running/\g.offers=none/\
  ((∃b,WgAt ty Wg w b 0)->stepG P true g w=.go {g with status:=.blocked} w #[])/\
  (WgAt ty Wg w 0 1->∃a,stepG P true g w=.go a (w.setCell (smA Wg) (.int .u32 0)) (semEvents (smA Wg))/\Goes P true R DC0 (WW4 P R ty Wg S) 40 a (w.setCell (smA Wg) (.int .u32 0)))
def WW2(vs:Nat)(g:Goroutine)(w:World):Prop:=g.status=.running/\∀v:Nat,v<2147483648->WgAt ty Wg w (v*KK) 0->
  (v=vs->∃a,stepG P true g w=.go a (w.setCell (stA Wg) (.int .u64 (v*KK+1))) #[rd (stA Wg),wr (stA Wg)]/\Goes P true R DC0 (oN P R (.write ⟨Wg,1,none⟩) 60 (WW3 P R ty Wg S)) 120 a (w.setCell (stA Wg) (.int .u64 (v*KK+1))))/\
  (v≠vs->∃a,stepG P true g w=.go a w #[rd (stA Wg)]/\Goes P true R DC0 aml 60 a w)
def WW1(g:Goroutine)(w:World):Prop:=g.status=.running/\∀v:Nat,v<2147483648->WgAt ty Wg w (v*KK) 0->∃a,stepG P true g w=.go a w #[rd (stA Wg)]/\
  (v=0->Goes P true R DC0 (WKe P R Wg S) 60 a w)/\(v≠0->Goes P true R DC0 (WW2 P R ty Wg aml S v) 120 a w)
end
def ah8(L:WgLink)(Wg:Nat)(c:Frame)(cs:List Frame)(g:Goroutine)(w:World):Prop:=
 ∃T:Array Value,g=G ((base L.wait).at ⟨T,[]⟩ [.code (L7 L),.inLoop (L7 L),.inBlock 0]) (c::cs)/\T.size=84/\T[0]?=some (.pointer (some ⟨Wg,0,none⟩))/\WgLive L.tWg Wg w
section
variable {P:Program} {L:WgLink} {R:World->World->Prop} {Wg:Nat} {S:Goroutine->World->Prop}
 {b₀:Frame} {a₀:Act} {ops₀:Array Oper} {i₀:Nat} {rest₀:List Nat} {k₀:List Item} {cs:List Frame}
def akl(H:WgLib P L)(c:∀w a,WgLive L.tWg Wg w->R w a->WgLive L.tWg Wg a)(w:World)(b:WgLive L.tWg Wg w) :
  Goes P true R DC0 (oN P R .disable 3 (ah8 L Wg (b₀.at a₀ (.inRegion ops₀ (i₀::rest₀)::k₀)) cs)) 3
   (G ((base L.wait).at ⟨#[.pointer (some ⟨Wg,0,none⟩)]++(List.replicate 83 undef).toArray,[]⟩ [.code (body_wait L)]) (b₀.at a₀ (.inRegion ops₀ (i₀::rest₀)::k₀)::cs)) w:=by
 lib_facts
 simp only[body_wait,waitFn,qo]
 u_c li (c _ _) b
 u_cond true (c _ _) b
 u_reg (c _ _) b
 refine qG (λa d=> ?_);replace b:=c _ _ b d;refine⟨rfl,_,uX .disable (by simp) rfl rfl (by k_ne) rfl H.f_disable (x_disable_n L) (x_disable_b L) (x_disable_x L) (x_disable_f L), ?_⟩
 walk_nrm
 u_c fb (c _ _) b
 u_c stepG_block (c _ _) b
 u_c stepG_loop (c _ _) b
 exact qG (λf e=>⟨_,rfl,by simp,by simp,c _ _ b e⟩)
def akj (H:WgLib P L) (b:∀w c,WgLive L.tWg Wg w->R w c->WgLive L.tWg Wg c)
  (x:∀w,WgLive L.tWg Wg w->S (G (b₀.at (a₀.put ((ops₀[i₀]?).bind (·.dst)) (.tuple #[])) (.inRegion ops₀ rest₀::k₀)) cs) w)
  (g:Goroutine) (w:World) (h:ah8 L Wg (b₀.at a₀ (.inRegion ops₀ (i₀::rest₀)::k₀)) cs g w) :
  Goes P true R DC0 (WW1 P R L.tWg Wg (ah8 L Wg (b₀.at a₀ (.inRegion ops₀ (i₀::rest₀)::k₀)) cs) S) 30 g w:=by
 lib_facts
 obtain⟨T,rfl,p,t,a⟩:=h;obtain⟨v0,v1,v2,v3,v4,v5,v6,v7,v8,v9,aR,O,bn,z,ba,C,K,ao,bO,a8,a2,A,bH,bX,J,bx,bi,a4,bA,aa,Y,b0,y,bN,a0,N,bS,bL,bh,X,U,W,br,a7,aT,Q,D,bp,b9,bf,aJ,bl,aI,af,E,b6,bk,b5,a5,bB,a3,bQ,ay,b4,b7,B,I,M,bb,b8,bz,aY,bt,bT,a6,aG,bY,a9,F,b3,bo,an,al,Z,rfl⟩:=array84 T p;simp only[vZ,uo,me] at t;subst t;simp only[L7,body_wait,waitFn,qo]
 u_c stepG_block (b _ _) a
 u_c li (b _ _) a
 u_reg (b _ _) a
 u_op (b _ _) a
 u_op (b _ _) a
 u_op (b _ _) a
 u_call H.f_uLoad (nm_uLoad L) uLoadFn (b _ _) a
 u_c li (b _ _) a
 u_reg (b _ _) a
 u_op (b _ _) a
 u_c fb (b _ _) a
 u_c li (b _ _) a
 u_reg (b _ _) a
 u_op (b _ _) a
 u_op (b _ _) a
 u_op (b _ _) a
 refine qG (λc d=> ?_);replace a:=b _ _ a d;refine⟨rfl,λv hv j=> ?_⟩;rcases qe v with rfl|ax
 .replace j:WgAt L.tWg Wg c 0 0:=by simpa using j
  refine⟨_,stepG_load_atomic (v:=0) rfl rfl (by k_ne) rfl H.f_loadU64 (x_loadU64_n L) (x_loadU64_b L) (x_loadU64_x L) .u64 (x_loadU64_f L) rfl j.cellSt,λ_=> ?_,λh=>absurd rfl h⟩
  walk_nrm
  u_op (b _ _) a
  u_c fb (b _ _) a
  u_c sK (b _ _) a
  u_leave1 H.f_uLoad (b _ _) a
  u_op (b _ _) a
  u_c fb (b _ _) a
  u_c li (b _ _) a
  u_reg (b _ _) a
  u_op (b _ _) a
  u_op (b _ _) a
  u_op (b _ _) a
  u_op (b _ _) a
  u_c fb (b _ _) a
  u_c li (b _ _) a
  u_reg (b _ _) a
  u_op (b _ _) a
  u_op (b _ _) a
  u_op (b _ _) a
  u_op (b _ _) a
  u_c fb (b _ _) a
  u_c li (b _ _) a
  u_c li (b _ _) a
  u_reg (b _ _) a
  u_op (b _ _) a
  u_op (b _ _) a
  u_c fb (b _ _) a
  u_cond true (b _ _) a
  u_c li (b _ _) a
  u_cond true (b _ _) a
  u_c li (b _ _) a
  u_reg (b _ _) a
  refine qG (λc d=> ?_);replace a:=b _ _ a d;refine⟨rfl,_,uX .enable (by simp) rfl rfl (by k_ne) rfl H.f_enable (x_enable_n L) (x_enable_b L) (x_enable_x L) (x_enable_f L), ?_⟩
  walk_nrm
  u_c fb (b _ _) a
  u_reg (b _ _) a
  u_op (b _ _) a
  u_conv H.underlying_tWgP H.room_tWg (WgLive.cell0 a).choose_spec (b _ _) a
  refine qG (λc d=> ?_);replace a:=b _ _ a d;refine⟨rfl,_,uM .acquire (by simp) rfl rfl (by k_ne) rfl H.f_acquire (x_acquire_n L) (x_acquire_b L) (x_acquire_x L) (x_acquire_f L) (by simp[Act.eval,stA]), ?_⟩
  walk_nrm
  u_c fb (b _ _) a
  u_c li (b _ _) a
  u_c li (b _ _) a
  u_reg (b _ _) a
  u_op (b _ _) a
  u_op (b _ _) a
  u_op (b _ _) a
  u_op (b _ _) a
  u_op (b _ _) a
  u_op (b _ _) a
  u_op (b _ _) a
  u_op (b _ _) a
  u_skip (b _ _) a
  u_skip (b _ _) a
  u_op (b _ _) a
  u_c fb (b _ _) a
  u_cond false (b _ _) a
  u_c rJ (b _ _) a
  u_c sK (b _ _) a
  u_leave0 H.f_wait (b _ _) a
  exact qG λk f=>x _ (b _ _ a f)
 .obtain⟨V,o⟩:∃V:Int,(v:Int)*KK=V:=⟨_,rfl⟩;have a1:V / 4294967296=(v:Int):=by rw[<-o];simp only[KK];omega
  have b1:bits .and .u64 V 2147483648=0:=by rw[<-o];have:=st_flag v 0 (by omega) (by omega);simpa[KK] using this
  have b2:bits .and .u64 V 2147483647=0:=by rw[<-o];have:=st_waiters v 0 (by omega) (by omega);simpa[KK] using this
  have c1:IntKind.i32.wrap (v:Int)=(v:Int):=by rw[IntKind.wrap_i32];omega
  have w1:IntKind.u64.wrap (V+1)=V+1:=by rw[IntKind.wrap_u64,<-o];simp only[KK];omega
  have q3:=bv (show ¬((v:Int)<0) by omega);have q4:=dj (show 0<(v:Int) by omega);have q5:((v:Int) ==0)=false:=by simp;omega
  have q6:=bv (show ¬((v:Int)=0) by omega);rw[o] at j;refine⟨_,stepG_load_atomic (v:=V) rfl rfl (by k_ne) rfl H.f_loadU64 (x_loadU64_n L) (x_loadU64_b L) (x_loadU64_x L) .u64 (x_loadU64_f L) rfl j.cellSt,λh0=>absurd h0 (by omega),λ_=> ?_⟩
  walk_nrm
  u_op (b _ _) a
  u_c fb (b _ _) a
  u_c sK (b _ _) a
  u_leave1 H.f_uLoad (b _ _) a
  u_op (b _ _) a
  u_c fb (b _ _) a
  u_c li (b _ _) a
  u_reg (b _ _) a
  u_op (b _ _) a
  u_op (b _ _) a
  u_op (b _ _) a
  u_op (b _ _) a
  u_c fb (b _ _) a
  u_c li (b _ _) a
  u_reg (b _ _) a
  u_op (b _ _) a
  u_op (b _ _) a
  u_op (b _ _) a
  u_op (b _ _) a
  u_c fb (b _ _) a
  u_c li (b _ _) a
  u_c li (b _ _) a
  u_reg (b _ _) a
  u_op (b _ _) a
  u_op (b _ _) a
  u_c fb (b _ _) a
  u_cnd false (b _ _) a
  u_c rJ (b _ _) a
  u_c li (b _ _) a
  u_reg (b _ _) a
  u_op (b _ _) a
  u_op (b _ _) a
  u_op (b _ _) a
  u_op (b _ _) a
  u_op (b _ _) a
  u_op (b _ _) a
  u_call H.f_uCas (nm_uCas L) uCasFn (b _ _) a
  u_c li (b _ _) a
  u_reg (b _ _) a
  u_op (b _ _) a
  u_c fb (b _ _) a
  u_c li (b _ _) a
  u_reg (b _ _) a
  u_op (b _ _) a
  u_op (b _ _) a
  u_op (b _ _) a
  u_op (b _ _) a
  u_op (b _ _) a
  refine qG (λk f=> ?_);replace a:=b _ _ a f;refine⟨rfl,λv' bw j=>⟨λe=> ?_,λe=> ?_⟩⟩
  .subst e;rw[o] at j ⊢;refine⟨_,stepG_cas_hit (v:=V) (n:=V+1) rfl rfl (by k_ne) rfl H.f_casU64 (x_casU64_n L) (x_casU64_b L) (x_casU64_x L) .u64 (x_casU64_f L) rfl rfl rfl j.cellSt (j.thaw 0), ?_⟩;replace a:WgLive L.tWg Wg (k.setCell (stA Wg) (.int .u64 (V+1))):=⟨_,_,j.setSt _⟩
   walk_nrm
   u_op (b _ _) a
   u_c fb (b _ _) a
   u_c sK (b _ _) a
   u_leave1 H.f_uCas (b _ _) a
   u_c fb (b _ _) a
   u_cond true (b _ _) a
   u_c li (b _ _) a
   u_c li (b _ _) a
   u_reg (b _ _) a
   u_op (b _ _) a
   u_op (b _ _) a
   u_op (b _ _) a
   u_op (b _ _) a
   u_c fb (b _ _) a
   u_cond true (b _ _) a
   u_reg (b _ _) a
   u_op (b _ _) a
   u_op (b _ _) a
   u_op (b _ _) a
   u_conv H.underlying_tPU32 H.room_tU32 (WgLive.cell1 a).choose_spec (b _ _) a
   refine qG (λm i=> ?_);replace a:=b _ _ a i;refine⟨rfl,_,uM .write (by simp) rfl rfl (by k_ne) rfl H.f_raceWrite (x_raceWrite_n L) (x_raceWrite_b L) (x_raceWrite_x L) (x_raceWrite_f L) (ad:=⟨Wg,1,none⟩) (by simp[Act.eval]), ?_⟩
   walk_nrm
   u_c fb (b _ _) a
   u_c li (b _ _) a
   u_reg (b _ _) a
   u_op (b _ _) a
   u_c fb (b _ _) a
   u_c li (b _ _) a
   u_c li (b _ _) a
   u_reg (b _ _) a
   u_op (b _ _) a
   u_op (b _ _) a
   u_op (b _ _) a
   u_op (b _ _) a
   u_skip (b _ _) a
   u_op (b _ _) a
   u_c fb (b _ _) a
   u_cond false (b _ _) a
   u_c rJ (b _ _) a
   u_c li (b _ _) a
   u_reg (b _ _) a
   u_op (b _ _) a
   u_op (b _ _) a
   u_op (b _ _) a
   u_op (b _ _) a
   refine qG (λm i=> ?_);replace a:=b _ _ a i;refine⟨rfl,rfl,λ⟨st,j⟩=>stepG_semacquire_wait rfl rfl rfl H.f_semacquire (x_semacquire_n L) (x_semacquire_b L) (x_semacquire_x L) (x_semacquire_f L) (by simp[Act.eval,smA]) j.cellSm,λs=> ?_⟩;refine⟨_,(stepG_semacquire (n:=1) rfl rfl (by k_ne) rfl H.f_semacquire (x_semacquire_n L) (x_semacquire_b L) (x_semacquire_x L) (x_semacquire_f L) (by simp[Act.eval,smA]) s.cellSm (by decide) (s.thaw 1)).trans rfl, ?_⟩;replace a:WgLive L.tWg Wg (m.setCell (smA Wg) (.int .u32 0)):=⟨_,_,s.setSm 0⟩
   walk_nrm
   u_c fb (b _ _) a
   u_c li (b _ _) a
   u_reg (b _ _) a
   u_op (b _ _) a
   u_op (b _ _) a
   u_op (b _ _) a
   u_call H.f_uLoad (nm_uLoad L) uLoadFn (b _ _) a
   u_c li (b _ _) a
   u_reg (b _ _) a
   u_op (b _ _) a
   u_c fb (b _ _) a
   u_c li (b _ _) a
   u_reg (b _ _) a
   u_op (b _ _) a
   u_op (b _ _) a
   u_op (b _ _) a
   refine qG (λu r=> ?_);replace a:=b _ _ a r;refine⟨rfl,λj=>⟨_,stepG_load_atomic (v:=0) rfl rfl (by k_ne) rfl H.f_loadU64 (x_loadU64_n L) (x_loadU64_b L) (x_loadU64_x L) .u64 (x_loadU64_f L) rfl j.cellSt, ?_⟩⟩
   walk_nrm
   u_op (b _ _) a
   u_c fb (b _ _) a
   u_c sK (b _ _) a
   u_leave1 H.f_uLoad (b _ _) a
   u_op (b _ _) a
   u_op (b _ _) a
   u_c fb (b _ _) a
   u_c li (b _ _) a
   u_cond true (b _ _) a
   u_c li (b _ _) a
   u_reg (b _ _) a
   refine qG (λq l=> ?_);replace a:=b _ _ a l;refine⟨rfl,_,uX .enable (by simp) rfl rfl (by k_ne) rfl H.f_enable (x_enable_n L) (x_enable_b L) (x_enable_x L) (x_enable_f L), ?_⟩
   walk_nrm
   u_c fb (b _ _) a
   u_reg (b _ _) a
   u_op (b _ _) a
   u_conv H.underlying_tWgP H.room_tWg (WgLive.cell0 a).choose_spec (b _ _) a
   refine qG (λq l=> ?_);replace a:=b _ _ a l;refine⟨rfl,_,uM .acquire (by simp) rfl rfl (by k_ne) rfl H.f_acquire (x_acquire_n L) (x_acquire_b L) (x_acquire_x L) (x_acquire_f L) (by simp[Act.eval,stA]), ?_⟩
   walk_nrm
   u_c fb (b _ _) a
   u_c li (b _ _) a
   u_c li (b _ _) a
   u_reg (b _ _) a
   u_op (b _ _) a
   u_c fb (b _ _) a
   u_cond false (b _ _) a
   u_c rJ (b _ _) a
   u_c sK (b _ _) a
   u_leave0 H.f_wait (b _ _) a
   exact qG λk f=>x _ (b _ _ a f)
  .refine⟨_,stepG_cas_miss (v:=(v':Int)*KK) (old:=V) (n:=V+1) rfl rfl (by k_ne) rfl H.f_casU64 (x_casU64_n L) (x_casU64_b L) (x_casU64_x L) .u64 (x_casU64_f L) rfl rfl rfl j.cellSt (j.thaw 0) (by rw[<-o];simp only[KK];omega), ?_⟩
   walk_nrm
   u_op (b _ _) a
   u_c fb (b _ _) a
   u_c sK (b _ _) a
   u_leave1 H.f_uCas (b _ _) a
   u_c fb (b _ _) a
   u_cond false (b _ _) a
   u_c rJ (b _ _) a
   u_c stepG_inBlock (b _ _) a
   u_c stepG_inLoop (b _ _) a
   exact qG λm i=>⟨_,rfl,by simp,by simp,b _ _ a i⟩
end
end
section
open Go Go.Conc Go.ConcN Go.RowKit Go.Conc.Lib Go.ConcR.Gen Go.ConcN.Gen
open Go.ConcR (KK wgBlock WgAt stA smA rd wr mk Payload DC0)
section
variable {P:Program} {R:World->World->Prop} {Wg:Nat}
def apx:aa8 Wg (mk (.read ⟨Wg,1,none⟩)):=⟨_,rfl,.inl rfl⟩
def amm:aa8 Wg (mk (.write ⟨Wg,1,none⟩)):=⟨_,rfl,.inr rfl⟩
def og{D i:World->World->Array Event->Prop}{St c:Goroutine->World->Prop}{main:Bool}(k:∀w d e,D w d e->i w d e)(f:∀g w,St g w->c g w) :
  ∀{n:Nat} {g:Goroutine} {w:World},Goes P main R D St n g w->Goes P main R i c n g w
 |0,_,_,h=>λa b=>f _ _ (h a b)
 |n+1,g,w,h=>by
  rcases h with h|⟨l,h⟩
  .exact .inl λa b=>f _ _ (h a b)
  .refine .inr ⟨l,λa b=> ?_⟩;have:=h a b;cases j:stepG P main g a with
   |go m d e=>
    rw[j,tM] at this;rw[tM];exact⟨k _ _ _ this.1,og k f this.2⟩
   |_=>rw[j] at this;exact this.elim
def avC{D:World->World->Array Event->Prop}(b:n<=V)(h:Goes P main R D St n g w):Goes P main R D St V g w:=by
 induction b with
 |refl=>exact h
 |step _ a=>exact a.more
def dsd(h:DC0 w w' es):DSd Wg w w' es:=⟨h.1,by rw[h.2];simp⟩
def agv{e:Mark}(q:aa8 Wg (mk e))(s:∀g w,St g w->Y g w)(k:∀w,R w w)(l:∀a b c,R a b->R b c->R a c) :
  ∀{n:Nat} {g:Goroutine} {w:World},Goes P true R DC0 (oN P R e m St) n g w->Goes P true R (DSd Wg) Y (n+(m+1)) g w:=by
 have stop:∀{g:Goroutine} {w:World},(∀d,R w d->oN P R e m St g d)->Goes P true R (DSd Wg) Y (m+1) g w:=λ{g w} h=>by
  refine .inr ⟨(h w (k w)).1,λd i=> ?_⟩;obtain⟨-,p,f,j⟩:=h d i;rw[f,tM];exact⟨⟨rfl,by simp;exact q⟩,og (λ_ _ _ x=>dsd x) s j⟩
 intro n
 induction n with
 |zero=>intro g w h;rw[lP];exact stop h
 |succ n r=>
  intro g w h;rcases h with h|⟨o,h⟩
  .exact avC (by omega) (stop h)
  .rw[Nat.succ_add];refine .inr ⟨o,λd i=> ?_⟩;have:=h d i;cases f:stepG P true g d with
   |go p t u=>
    rw[f,tM] at this;rw[tM];exact⟨dsd this.1,r this.2⟩
   |_=>rw[f] at this;exact this.elim
end
section
variable [Payload] {P:Program} {ty:TypeId} {Wg C n:Nat} {R S:av}
def aax(a:∀g w,St g w->Y g w)(h:Goes P true (RM ty Wg C n R S) DC0 St m g w):GP P ty Wg C n R S Y m g w:=og (λ_ _ _ x=>dsd x) a h
def ayM{F:av->av->Goroutine->World->Prop}(a:∀g w,Goes P true (RM ty Wg C n R S) DC0 St m g w->F R S g w)(h:oN P (RM ty Wg C n R S) (.acquire (stA Wg)) m St g w):axE P Wg R S F g w:=
 ⟨h.1,let⟨b,e,k⟩:=h.2;⟨b,e,a _ _ k⟩⟩
section
variable {St:Goroutine->World->Prop} {F A:av->av->Goroutine->World->Prop} {aml:Goroutine->World->Prop} (hF:∀g w,Goes P true (RM ty Wg C n R S) DC0 St 20 g w->F R S g w) (hA:∀g w,aml g w->A R S g w)
include hF in
theorem awM(h:WKe P (RM ty Wg C n R S) Wg St g w):MKe P ty Wg C n R S F g w:=
 ⟨h.1,let⟨a,e,k⟩:=h.2;⟨a,e,_,aax (λ_ _ x=>ayM hF x) k⟩⟩
include hF in
theorem aBt(h:WW4 P (RM ty Wg C n R S) ty Wg St g w):MW4 P ty Wg C n R S F g w:=
 ⟨h.1,λa=>let⟨b,e,k⟩:=h.2 a;⟨b,e,_,aax (λ_ _ x=>awM hF x) k⟩⟩
include hF in
theorem aBu(h:WW3 P (RM ty Wg C n R S) ty Wg St g w):MW3 P ty Wg C n R S F g w:=
 ⟨h.1,h.2.1,h.2.2.1,λa=>let⟨b,e,k⟩:=h.2.2.2 a;⟨b,e,_,aax (λ_ _ x=>aBt hF x) k⟩⟩
include hF hA in
theorem aBv{v:Nat}(h:WW2 P (RM ty Wg C n R S) ty Wg aml St v g w):MW2 P ty Wg C n R S A F v g w:=
 ⟨h.1,λd f c=>⟨λe=>let⟨b,a,k⟩:=(h.2 d f c).1 e;⟨b,a,_,agv amm (λ_ _ x=>aBu hF x) (jI.refl _ _ _) (λ_ _ _=>jI.trans) k⟩,
  λe=>let⟨b,a,k⟩:=(h.2 d f c).2 e;⟨b,a,_,aax hA k⟩⟩⟩
include hF hA in
theorem azc(h:WW1 P (RM ty Wg C n R S) ty Wg aml St g w):MW1 P ty Wg C n R S A F g w:=
 ⟨h.1,λv c b=>let⟨f,e,d,a⟩:=h.2 v c b;⟨f,e,λe=>⟨_,aax (λ_ _ x=>awM hF x) (d e)⟩,λe=>⟨_,aax (λ_ _ x=>aBv hF hA x) (a e)⟩⟩⟩
include hA in
theorem azd(h:oN P (RM ty Wg C n R S) .disable m aml g w):MKd P ty Wg C n R S A g w:=
 ⟨h.1,let⟨a,e,k⟩:=h.2;⟨a,e,_,aax hA k⟩⟩
end
section
variable {val:Nat->Value} {j:Nat} {Next:av->Goroutine->World->Prop} {St:Goroutine->World->Prop}
def asK(a:∀g w,Goes P true (RM ty Wg C n R S) DC0 St m g w->∃T,GM P ty Wg C n R (MGo P ty Wg C n val j Next R) T S g w)(h:oN P (RM ty Wg C n R S) .enable m St g w):axF P ty Wg C n val j Next R S g w:=
 ⟨h.1,let⟨b,e,k⟩:=h.2;⟨b,e,a _ _ k⟩⟩
def aBw(b:∀g w,Goes P true (RM ty Wg C n R S) DC0 St 3 g w->∃T,GM P ty Wg C n R (MGo P ty Wg C n val j Next R) T S g w)(h:ajV P (RM ty Wg C n R S) ty Wg St g w):MA1 P ty Wg C n val j Next R S g w:=
 ⟨h.1,λv f d=>by
  obtain⟨k,e,i,c⟩:=h.2 v f d;refine⟨k,e, ?_⟩;by_cases a:v=0
  .exact⟨_,agv apx (λ_ _ x=>asK b x) (jI.refl _ _ _) (λ_ _ _=>jI.trans) (i a)⟩
  .exact⟨_,aax (λ_ _ x=>asK b x) (c a)⟩⟩
def ayN(a:∀g w,Goes P true (RM ty Wg C n R S) DC0 St 3 g w->∃T,GM P ty Wg C n R (MGo P ty Wg C n val j Next R) T S g w)(h:oN P (RM ty Wg C n R S) .disable m (ajV P (RM ty Wg C n R S) ty Wg St) g w):apY P ty Wg C n val j Next R S g w:=
 ⟨h.1,let⟨b,e,k⟩:=h.2;⟨b,e,_,aax (λ_ _ x=>aBw a x) k⟩⟩
end
end
end
section
open Go Go.Conc Go.ConcN Go.RowKit Go.Conc.Lib Go.ConcR.Gen Go.ConcN.Gen
open Go.ConcR (KK wgBlock WgAt stA smA rd wr mk Payload Aside2 DC0)
section
variable (P:Program) (R:World->World->Prop) (Wg:Nat)
def asL(g:Goroutine)(w:World):Prop:=∃a,stepG P false g w=.go a w #[mk .disable]
def ayO(m:Nat)(g:Goroutine)(w:World):Prop:=∃a,stepG P false g w=.go a w #[mk (.releaseMerge (stA Wg))]/\Goes P false R DC0 (asL P) m a w
end
section
variable {P:Program} {L:WgLink} {R:World->World->Prop} {Wg:Nat} {c:Frame} {cs:List Frame}
def apy(H:WgLib P L)(b:∀w d,WgLive L.tWg Wg w->R w d->WgLive L.tWg Wg d)(w:World)(a:WgLive L.tWg Wg w) :
  Goes P false R DC0 (ayO P R Wg 10) 23 (G ((baseD L.done).at ⟨#[.pointer (some ⟨Wg,0,none⟩),undef,undef,undef],[]⟩ [.code (body_done L)]) (c::cs)) w:=by
 lib_facts
 simp only[body_done,body_add,doneFn,addFn,qo]
 u_reg (b _ _) a
 u_op (b _ _) a
 u_in (b _ _) a
 refine goes_call rfl rfl (by k_ne) rfl H.f_add (nm_add L) rfl ⟨by u_nil, ?_⟩
 walk_nrmf addFn
 u_c li (b _ _) a
 u_cond true (b _ _) a
 u_c li (b _ _) a
 u_c li (b _ _) a
 u_reg (b _ _) a
 u_op (b _ _) a
 u_op (b _ _) a
 u_c fb (b _ _) a
 u_cond true (b _ _) a
 u_reg (b _ _) a
 u_op (b _ _) a
 u_conv H.underlying_tWgP H.room_tWg (WgLive.cell0 a).choose_spec (b _ _) a
 refine qG (λd e=> ?_);replace a:=b _ _ a e;refine⟨_,uM .releaseMerge (by simp) rfl rfl (by k_ne) rfl H.f_relMerge (x_relMerge_n L) (x_relMerge_b L) (x_relMerge_x L) (x_relMerge_f L) (by simp[Act.eval,stA]), ?_⟩
 walk_nrm
 u_c fb (b _ _) a
 u_c li (b _ _) a
 u_reg (b _ _) a
 refine qG (λd e=> ?_);replace a:=b _ _ a e;exact⟨_,uX .disable (by simp) rfl rfl (by k_ne) rfl H.f_disable (x_disable_n L) (x_disable_b L) (x_disable_x L) (x_disable_f L)⟩
end
section
variable [Payload] {P:Program} {ty:TypeId} {Wg C n k:Nat} {R:World->World->Prop} {v:Value}
def asM(c:∀w,R w w)(q:∀g w,St g w->∃p,stepG P false g w=.go p w #[mk (.releaseMerge (stA Wg))]) :
  ∀{m f:Nat} {g:Goroutine} {w:World},Goes P false R DC0 (asL P) m g w->¬Goes P false R (DWs Wg FF FF C n k) St f g w:=by
 have i:∀{f:Nat} {g:Goroutine} {w:World},(∀a,R w a->asL P g a)->¬Goes P false R (DWs Wg FF FF C n k) St f g w:=λ{f g w} d b=>by
  obtain⟨p,e⟩:=d w (c w);have l:¬ ∀a,R w a->St g a:=λh=>by
   obtain⟨s,o⟩:=q _ _ (h w (c w));rw[e] at o;cases o
  cases f with
  |zero=>exact l b
  |succ f=>
   rcases b with b|⟨-,b⟩
   .exact l b
   .have:=b w (c w);rw[e,tM] at this;exact(this.1.2 (mk .disable) (by simp)).2.1 rfl
 intro m
 induction m with
 |zero=>intro f g w d b;exact i d b
 |succ m t=>
  intro f g w d b;rcases d with d|⟨-,d⟩
  .exact i d b
  .have d:=d w (c w);obtain⟨p,j,u,e,⟨rfl,rfl⟩,r⟩:=goes_elim d;have l:¬ ∀a,R j a->St g a:=λh=>by
    obtain⟨s,o⟩:=q _ _ (h j (c j));rw[e] at o;cases o
   cases f with
   |zero=>exact l b
   |succ f=>
    rcases b with b|⟨-,b⟩
    .exact l b
    .have:=b j (c j);rw[e,tM] at this;exact t r this.2
def amn(j:∀w,R w w)(r:∀a b c,R a b->R b c->R a c)(y:∀g w,St g w->∃t,stepG P false g w=.go t w #[mk (.releaseMerge (stA Wg))]) :
  ∀{m o i:Nat} {g:Goroutine} {w:World},Goes P false R DC0 (ayO P R Wg o) m g w->Goes P false R (DWs Wg FF FF C n k) St i g w->Goes P false R DC0 St m g w:=by
 have p:∀{m o i:Nat} {g:Goroutine} {w:World},(∀d,R w d->ayO P R Wg o g d)->Goes P false R (DWs Wg FF FF C n k) St i g w->Goes P false R DC0 St m g w:=λ{m o i g w} l f=>by
  refine qG λd q=> ?_;have f:=tI r f q;cases i with
  |zero=>exact f d (j _)
  |succ i=>
   rcases f with f|⟨-,f⟩
   .exact f d (j _)
   .obtain⟨t,e,s⟩:=l d q;have:=f d (j _);rw[e,tM] at this;exact absurd this.2 (asM j y s)
 intro m
 induction m with
 |zero=>intro o i g w l f;exact p l f
 |succ m x=>
  intro o i g w l f;rcases l with l|⟨u,l⟩
  .exact p l f
  .cases i with
   |zero=>exact .inl f
   |succ i=>
    rcases f with f|⟨-,f⟩
    .exact .inl f
    .refine .inr ⟨u,λd q=> ?_⟩;obtain⟨t,z,A,e,hd,v⟩:=goes_elim (l d q);have:=f d q;rw[e,tM] at this ⊢;exact⟨hd,x v this.2⟩
end
section
variable [Payload] {P:Program} {L:WgLink} {Wg C n κ:Nat} {val:Nat->Value} {R S:av} {c:Frame} {cs:List Frame} {qt:Nat}
def apz(H:WgLib P L)(q:c.mode=.returning)(D:QuitsD P qt 0 (G c cs))(w:World)(v:WgLive L.tWg Wg w)(B:Has C (2*κ) (val (2*κ)) w)(o:Has C (2*κ+1) (val (2*κ+1)) w) :
  bJ P false (jI L.tWg Wg C (2*n) R (dX κ)) (Gua Wg C (2*n) R (dX κ)) (age P L.tWg Wg C n val κ) S (G ((baseD L.done).at ⟨#[.pointer (some ⟨Wg,0,none⟩),undef,undef,undef],[]⟩ [.code (body_done L)]) (c::cs)) w:=by
 have J:=doneN H (Own:=FF) (Rd:=FF) (Wg:=Wg) (C:=C) (n:=2*n) (Low:=0) (k:=2*κ+1) (val:=val (2*κ)) q D w ⟨v,B⟩;have K:=apy (Wg:=Wg) (R:=RW L.tWg Wg C (2*n) 0 (2*κ+1-1)) (c:=c) (cs:=cs) H (λ_ _ h r=>r.live h) w v;have E:=amn (St:=AtR0 P L.tWg Wg C (2*n) 0 (2*κ+1) (val (2*κ))) (λw=>⟨λ_ _ _ _=>rfl,id,id,rfl⟩) (λa b c x y=>⟨λb o u z=>(y.low b o u z).trans (x.low b o u z),y.live∘x.live,y.pay∘x.pay,y.cell.trans x.cell⟩)
  (λg w h=>let⟨_,_,s,e,_⟩:=h;⟨s,e⟩) K J
 have t:∀{m:Nat} {g:Goroutine} {w:World},Has C (2*κ+1) (val (2*κ+1)) w->Goes P false (RW L.tWg Wg C (2*n) 0 (2*κ+1-1)) DC0 (AtR0 P L.tWg Wg C (2*n) 0 (2*κ+1) (val (2*κ))) m g w->
   bJ P false (jI L.tWg Wg C (2*n) R (dX κ)) (Gua Wg C (2*n) R (dX κ)) (age P L.tWg Wg C n val κ) S g w:=by
  have j:∀{w d:World},jI L.tWg Wg C (2*n) R (dX κ) S w d->RW L.tWg Wg C (2*n) 0 (2*κ+1-1) w d:=λf=>jI.rw (i:=2*κ) f (by show 2*κ / 2=κ;omega);have l:∀{w d:World},Has C (2*κ+1) (val (2*κ+1)) w->jI L.tWg Wg C (2*n) R (dX κ) S w d->Has C (2*κ+1) (val (2*κ+1)) d:=λh f=>(f.cell (2*κ+1) (by show(2*κ+1) / 2=κ;omega)).trans h;intro m
  induction m with
  |zero=>intro g w p h;exact .stop λd f=>⟨h d (j f),l p f⟩
  |succ m M=>
   intro g w p h;rcases h with h|⟨F,h⟩
   .exact .stop λd f=>⟨h d (j f),l p f⟩
   .refine .step F λd f=> ?_;obtain⟨s,A,N,e,⟨rfl,rfl⟩,I⟩:=goes_elim (h d (j f));exact⟨s,A,#[],S,e,⟨λ_ _ _ _=>rfl,am _,rfl,id,λ_ _=>rfl,λ_ h=>h,λ_ h=>.inl h,by simp⟩,M (l p f) I⟩
 exact t o E
end
end
section
open Go Go.Conc Go.ConcN Go.RowKit
open Go.ConcR (KK wgBlock WgAt stA smA rd wr mk Payload DC0)
instance aEZ:Payload:=⟨151⟩
structure Wx where
 w0:World
 Wg:Nat
 C:Nat
 n2:Nat
 κ:Nat
 R:av
 Rg:Nat->Prop
 key:Int
 A:Option Addr
 n:Nat
 c:Nat
 l:List iP
 nm:Int
 bk:Nat
 bp:Nat
 bn:Nat
 ba:Nat
 bi:Nat
 tWg:TypeId
structure Wx.Ok (X:Wx):Prop where
 hN:gN<=X.w0.heap.size
 gl:∀g∈gL,X.Rg g
 gr:∀g∈gL,eG X.w0 g
 k1:1<=X.key
 k2:X.key<=99
 hl:X.l.length=X.n
 hc:X.n<=X.c
 hcm:(X.c:Int)<=9223372036854775807
 rd:RdP X.w0 X.A 0 X.l
 rgp:RgP X.Rg X.w0 X.A X.l
 al:∀a,X.A=some a->X.Rg a.block
 nm:In_ X.nm
 kn:X.κ<X.n2
 rows:∀b,X.Rg b->X.R b
 rk:X.R X.bk/\X.w0.cell? ⟨X.bk,0,none⟩=some (.int .i64 X.key)
 rp:X.R X.bp/\X.w0.cell? ⟨X.bp,0,none⟩=some (.slice X.A X.n X.c)
 rn:X.R X.bn/\X.w0.cell? ⟨X.bn,0,none⟩=some (.int .i64 X.nm)
 ra:X.R X.ba/\X.w0.cell? ⟨X.ba,0,none⟩=some (.slice (some ⟨X.C,0,none⟩) X.n2 X.n2)
 ri:X.R X.bi/\X.w0.cell? ⟨X.bi,0,none⟩=some (.int .i64 X.κ)
 rlt:∀b,X.R b->b<X.w0.heap.size
 rC:¬X.R X.C
 rW:¬X.R X.Wg
 cW:X.C≠X.Wg
abbrev Wx.Rl(X:Wx):av->World->World->Prop:=jI X.tWg X.Wg X.C (2*X.n2) X.R (dX X.κ)
abbrev Wx.Gr(X:Wx):av->av->World->World->Array Event->Prop:=Gua X.Wg X.C (2*X.n2) X.R (dX X.κ)
def Wx.mY(X:Wx):pd X.Rl X.R:=⟨λS w=>jI.refl _ _ _ _,λ_ _ _ _=>jI.trans,λ_ _ _ h=>⟨h.keep,h.size,h.os⟩⟩
structure Wx.Inv (X:Wx) (S:av) (w:World):Prop where
 r:∀b,X.R b->w.heap[b]?=X.w0.heap[b]?
 s:∀b,S b->¬X.R b/\b≠X.C/\b≠X.Wg
 c:X.C<w.heap.size
 wg:X.Wg<w.heap.size
 sz:X.w0.heap.size<=w.heap.size
 live:WgLive X.tWg X.Wg w
 pay:PayAt X.C (2*X.n2) w
 os:w.ou=X.w0.ou
section
variable {X:Wx} {S S':av} {w w' w1:World} {es:Array Event}
def Wx.Inv.rely(h:X.Inv S w)(a:X.Rl S w w1):X.Inv S w1:=
 ⟨λb c=>(a.keep b (.inr c)).trans (h.r b c),h.s,bd h.c a.size,bd h.wg a.size,ap h.sz a.size,a.live h.live,a.pay h.pay,a.os.trans h.os⟩
def Wx.step(s:X.Ok)(h:X.Inv S w)(g:pg X.R S S' w w' es):X.Gr S S' w w' es/\X.Inv S' w':=by
 obtain⟨l,k,q,rfl,B⟩:=g;have m:w'.heap[X.C]?=w.heap[X.C]?:=l _ h.c λd=>(h.s _ d).2.1 rfl;have r:w'.heap[X.Wg]?=w.heap[X.Wg]?:=l _ h.wg λd=>(h.s _ d).2.2 rfl;refine⟨⟨λb c A _=>l b c A,k,q,λ⟨n,a,b⟩=>⟨n,m.trans a,b⟩,λi _=>uA m i,λb c=>.inl c,λb c=>c,λe E=> ?_⟩, ?_⟩
 .obtain⟨C,o,D⟩:=B e E;refine⟨λx v=>(C x v).elim .inl λy=>.inr (.inr y),λj=> ?_,λj=> ?_,λj=> ?_,D⟩
  .rcases o _ j with⟨f,e⟩|e<;>cases e
  .rcases o _ j with⟨f,e⟩|e<;>cases e
  .rcases o _ j with⟨f,e⟩|e<;>cases e
 .have p:∀b,X.R b->b<w.heap.size:=λb c=>bd (s.rlt b c) h.sz;refine⟨λb c=>(l b (p b c) λd=>(h.s b d).1 c).trans (h.r b c),λb c=> ?_,bd h.c k,bd h.wg k,ap h.sz k, ?_, ?_,q.trans h.os⟩
  .rcases c with c|⟨c,_⟩
   .exact h.s b c
   .refine⟨λu=> ?_,λe=> ?_,λe=> ?_⟩
    .have:=p b u;omega
    .have:=h.c;omega
    .have:=h.wg;omega
  .obtain⟨z,sm,t⟩:=h.live;exact⟨z,sm,r.trans t⟩
  .obtain⟨n,a,b⟩:=h.pay;exact⟨n,m.trans a,b⟩
def Wx.lift(c:X.Ok)(h:bJ prog false X.Rl (pg X.R) Stop S g w)(hi:X.Inv S w):bJ prog false X.Rl X.Gr (λS g w=>Stop S g w/\X.Inv S w) S g w:=
 bJ.inv (Rl:=X.Rl) (Gr:=pg X.R) (Gr2:=X.Gr) (Stop:=Stop) (Inv:=X.Inv) (λ_ _ _ a b=>a.rely b) (λ_ _ _ _ _ a b=>Wx.step c a b) (λ_ _ _ a b=>⟨a,b⟩) h hi
def Wx.Inv.cell(h:X.Inv S w)(a:X.R b)(c:X.w0.cell? ⟨b,i,none⟩=some v):w.cell? ⟨b,i,none⟩=some v:=(uA (h.r b a) i).trans c
end
end
section
open Go Go.Conc Go.ConcN Go.RowKit
open Go.ConcR (KK wgBlock WgAt stA smA rd wr mk Payload DC0)
abbrev nCl:FuncId:=87
def lS:Code->Code
 |.seq a _=>a
 |c=>c
def uz:Code->Array Oper
 |.region _ o _=>o
 |_=>#[]
noncomputable def anz:Code:=f87.body.getD .skip
noncomputable def oG:Array Oper:=uz (lS anz)
noncomputable def aW:Array Oper:=uz (cf anz)
def asN:anz=.seq (.region 0 oG false) (.region 1 aW true):=rfl
def anA:aW.size=8:=rfl
def aBx:∃p,aW[0]?=some ⟨some 6,.load 138 (.tmp 4),138,p,#[],none⟩:=⟨_,rfl⟩
def aBy:∃p,aW[1]?=some ⟨some 7,.load 3 (.tmp 5),3,p,#[],none⟩:=⟨_,rfl⟩
def aBz:∃p,aW[2]?=some ⟨some 8,.load 3 (.tmp 1),3,p,#[],none⟩:=⟨_,rfl⟩
def aBA:∃p,aW[3]?=some ⟨some 9,.load 23 (.tmp 2),23,p,#[],none⟩:=⟨_,rfl⟩
def aBB:∃p,aW[4]?=some ⟨some 10,.load 3 (.tmp 3),3,p,#[],none⟩:=⟨_,rfl⟩
def aBC:∃p,aW[5]?=some ⟨some 11,.call ⟨.value (.func 89),#[.tmp 8,.tmp 9,.tmp 10],#[3,23,3]⟩,151,p,#[⟨2,.data⟩,⟨3,.data⟩,⟨4,.data⟩],none⟩:=⟨_,rfl⟩
def aBD:∃p,aW[6]?=some ⟨some 12,.indexAddr 138 (.tmp 6) (.tmp 7),0,p,#[⟨0,.data⟩,⟨1,.data⟩,⟨0,.phase⟩,⟨1,.phase⟩,⟨2,.phase⟩,⟨3,.phase⟩,⟨4,.phase⟩,⟨5,.phase⟩],none⟩:=⟨_,rfl⟩
def aBE:∃p,aW[7]?=some ⟨none,.store 151 (.tmp 12) (.tmp 11),0,p,#[⟨6,.data⟩,⟨5,.data⟩,⟨5,.chain⟩,⟨0,.phase⟩,⟨1,.phase⟩,⟨2,.phase⟩,⟨3,.phase⟩,⟨4,.phase⟩,⟨5,.phase⟩],none⟩:=⟨_,rfl⟩
def jW(L:Nat->Bool):Nat->Bool
 |5=>L 2&&L 3&&L 4
 |6=>L 0&&L 1&&L 2&&L 3&&L 4&&L 5
 |7=>L 6&&L 5&&L 0&&L 1&&L 2&&L 3&&L 4
 |_=>true
def anB(L:Nat->Bool)(hi:i<8):((aW[i]?).map (λo:Oper=>o.after.all λe=>!Region.binds .any e||L e.on)).getD false=jW L i:=by
 have:i=0\/i=1\/i=2\/i=3\/i=4\/i=5\/i=6\/i=7:=by omega
 rcases this with rfl|rfl|rfl|rfl|rfl|rfl|rfl|rfl
 .obtain⟨p,e⟩:=aBx;rw[e];simp[jW]
 .obtain⟨p,e⟩:=aBy;rw[e];simp[jW]
 .obtain⟨p,e⟩:=aBz;rw[e];simp[jW]
 .obtain⟨p,e⟩:=aBA;rw[e];simp[jW]
 .obtain⟨p,e⟩:=aBB;rw[e];simp[jW]
 .obtain⟨p,e⟩:=aBC;rw[e];simp[Region.binds,jW,wi]
 .obtain⟨p,e⟩:=aBD;rw[e];simp[Region.binds,jW];cases L 0<;>cases L 1<;>simp[wi]
 .obtain⟨p,e⟩:=aBE;rw[e];simp[Region.binds,jW];cases L 5<;>cases L 6<;>simp[wi]
def afj(d:listed.size=8) :i∈Region.ready .any aW listed↔i<8/\listed.getD i false=false/\jW (λj=>listed.getD j false) i=true:=by
 unfold Region.ready;rw[sT,qy,anA];constructor
 .rintro⟨b,a⟩;rw[anB (λj=>listed.getD j false) b] at a;simp only[ga,vG] at a;refine⟨b, ?_,a.2⟩;have:=a.1;rw[iS,ge (by omega)] at this ⊢;exact this
 .rintro⟨b,a,c⟩;refine⟨b, ?_⟩;rw[anB (λj=>listed.getD j false) b,c];rw[iS,ge (by omega)] at a ⊢;simp only[qo] at a ⊢;rw[a];rfl
def unW(listed:Array Bool):Nat:=(List.range 8).countP λi=>!listed.getD i false
def agw{p q:Nat->Bool}:∀{l:List Nat} {x:Nat},(∀y,q y=true->p y=true)->x∈l->p x=true->q x=false->l.countP q<l.countP p
 |[],x,_,b,_,_=>by cases b
 |a::l,x,h,b,hp,hq=>by
  rw[List.countP_cons,List.countP_cons];have e:l.countP q<=l.countP p:=List.countP_mono_left λy _=>h y;rcases pa.1 b with rfl|b
  .rw[hp,hq];simp;omega
  .have:=agw h b hp hq;have f:=h a;cases d:q a<;>cases c:p a<;>simp_all<;>omega
def iO(hi:i<listed.size):(listed.setIfInBounds i true).getD j false=if j=i then true else listed.getD j false:=by
 rw[iS,iS,oR];by_cases e:i=j
 .subst e;simp[hi]
 .rw[da e,da (λx=>e x.symm)]
def avD(b:listed.size=8)(hi:i<8)(h:listed.getD i false=false):unW (listed.setIfInBounds i true)<unW listed:=by
 refine agw (x:=i) (λy a=> ?_) (qy.2 hi) (by rw[h];rfl) (by rw[iO (by omega)];simp);rw[iO (by omega)] at a;by_cases e:y=i
 .simp[e] at a
 .simpa[e] using a
def aBF(m:listed.size=8)(h:Region.ready .any aW listed=[]\/unW listed=0):∀i,i<8->listed.getD i false=true:=by
 rcases h with h|h
 .have a:∀i,i<8->jW (λj=>listed.getD j false) i=true->listed.getD i false=true:=λi b hd=>by
   cases e:listed.getD i false with
   |true=>rfl
   |false=>
    have:i∈Region.ready .any aW listed:=(afj m).2 ⟨b,e,hd⟩;rw[h] at this;cases this
  have g:=a 0 (by omega) rfl;have k:=a 1 (by omega) rfl;have c:=a 2 (by omega) rfl;have d:=a 3 (by omega) rfl;have f:=a 4 (by omega) rfl;have l:=a 5 (by omega) (by simp only[jW,c,d,f];rfl);have n:=a 6 (by omega) (by simp only[jW,g,k,c,d,f,l];rfl);have o:=a 7 (by omega) (by simp only[jW,g,k,c,d,f,l,n];rfl);intro i b;have:i=0\/i=1\/i=2\/i=3\/i=4\/i=5\/i=6\/i=7:=by omega
  rcases this with rfl|rfl|rfl|rfl|rfl|rfl|rfl|rfl<;>assumption
 .intro i b;have:=List.countP_eq_zero.1 h i (qy.2 b);simpa using this
end
section
open Go Go.Conc Go.ConcN Go.RowKit
open Go.ConcR (KK wgBlock WgAt stA smA rd wr mk Payload DC0)
def Wx.cap(X:Wx):Nat->Value
 |1=>.pointer (some ⟨X.bk,0,none⟩)
 |2=>.pointer (some ⟨X.bp,0,none⟩)
 |3=>.pointer (some ⟨X.bn,0,none⟩)
 |4=>.pointer (some ⟨X.ba,0,none⟩)
 |_=>.pointer (some ⟨X.bi,0,none⟩)
def Wx.val(X:Wx)(v:ByteArray×Bool):Nat->Value
 |0=>.slice (some ⟨X.C,0,none⟩) X.n2 X.n2
 |1=>.int .i64 X.κ
 |2=>.int .i64 X.key
 |3=>.slice X.A X.n X.c
 |4=>.int .i64 X.nm
 |5=>.agg #[.string v.1,.bool v.2]
 |_=>.pointer (some ⟨X.C,2*X.κ,none⟩)
abbrev FW(dd:Deferred)(T:Array Value)(k:List Item):Frame:=⟨nCl,T,k,[dd],.run,.deferred,none⟩
structure RI (X:Wx) (v:ByteArray×Bool) (listed:Array Bool) (T:Array Value) (S:av) (w:World):Prop where
 sz:T.size=13
 cap:∀t,1<=t->t<=5->T.getD t undef=X.cap t
 done:∀j,j<7->listed.getD j false=true->T.getD (6+j) undef=X.val v j
 st:listed.getD 7 false=true->Has X.C (2*X.κ) (.string v.1) w/\Has X.C (2*X.κ+1) (.bool v.2) w
 ord:listed.getD 7 false=true->∀j,j<7->listed.getD j false=true
 inv:X.Inv S w
section
variable {P:Program} {m:Bool} {fr:Frame} {xs base:List Frame} {ops:Array Oper} {i:Nat} {rest:List Nat} {k:List Item} {o:Oper} {w w2:World} {es:Array Event} {v:Value}
def asO (f:fr.mode=.run) (g:(fr.kind ==.early)=false) (b:fr.roundOf=none) (e:fr.todo=.inRegion ops (i::rest)::k) (n:ops[i]?=some o) (q:o.guard=none)
  (p:(execOp fr.eval o).runT P w #[]=(.ok (.value v) w2,es)):stepG P m (Gl (fr::xs) base) w=.go (Gl (fr.finish v::xs) base) w2 (seen P fr.fn es):=by
 obtain⟨fn,a,j,d,t,c,s⟩:=fr;dsimp only at f g b e;subst f b e;have l:∀y,Region.wanted o y=true:=λy=>by unfold Region.wanted;rw[q]
 have r:stepG P m (Gl (⟨fn,a,.inRegion ops (i::rest)::k,d,.run,c,none⟩::xs) base) w =
   stepG.apply P true ⟨fn,a,.inRegion ops (i::rest)::k,d,.run,c,none⟩ (xs++base) none (execOp (Frame.eval ⟨fn,a,.inRegion ops (i::rest)::k,d,.run,c,none⟩) o) w:=by
  simp[Gl,stepG,stepG.exec,stepG.oper,Frame.oper?,n,l]
 rw[r];unfold stepG.apply;simp only[p,pu];simp[GStep.after,g,Gl]
def ajW (f:fr.mode=.run) (g:(fr.kind ==.early)=false) (b:fr.roundOf=none) (e:fr.todo=.inRegion ops (i::rest)::k) (n:ops[i]?=some o) (q:o.guard=none)
  (p:(execOp fr.eval o).runT P w #[]=(.ok .skip w2,es)):stepG P m (Gl (fr::xs) base) w=.go (Gl (fr.finish undef::xs) base) w2 (seen P fr.fn es):=by
 obtain⟨fn,a,j,d,t,c,s⟩:=fr;dsimp only at f g b e;subst f b e;have l:∀y,Region.wanted o y=true:=λy=>by unfold Region.wanted;rw[q]
 have r:stepG P m (Gl (⟨fn,a,.inRegion ops (i::rest)::k,d,.run,c,none⟩::xs) base) w =
   stepG.apply P true ⟨fn,a,.inRegion ops (i::rest)::k,d,.run,c,none⟩ (xs++base) none (execOp (Frame.eval ⟨fn,a,.inRegion ops (i::rest)::k,d,.run,c,none⟩) o) w:=by
  simp[Gl,stepG,stepG.exec,stepG.oper,Frame.oper?,n,l]
 rw[r];unfold stepG.apply;simp only[p,pu];simp[GStep.after,g,Gl]
end
noncomputable def fw:Frame:={(default:Frame) with fn:=prog.funcs.size,defers:=[],mode:=.panicking [goexitEntry]}
section
variable {X:Wx} {v:ByteArray×Bool} {listed:Array Bool} {T T':Array Value} {S:av} {w w1:World} {dd:Deferred} {k:List Item} {rest:List Nat}
def acr(h:Has X.C (2*X.κ) (.string v.1) w/\Has X.C (2*X.κ+1) (.bool v.2) w)(a:X.Rl S w w1):Has X.C (2*X.κ) (.string v.1) w1/\Has X.C (2*X.κ+1) (.bool v.2) w1:=
 ⟨(a.cell (2*X.κ) (by show 2*X.κ / 2=X.κ;omega)).trans h.1,(a.cell (2*X.κ+1) (by show(2*X.κ+1) / 2=X.κ;omega)).trans h.2⟩
def RI.rely(h:RI X v listed T S w)(a:X.Rl S w w1):RI X v listed T S w1:=⟨h.sz,h.cap,h.done,λe=>acr (h.st e) a,h.ord,h.inv.rely a⟩
def RI.put(h:RI X v listed T S w)(k:listed.size=8)(hi:i<7)(b:Tm [6+i] T T')(d:T'.getD (6+i) undef=X.val v i):RI X v (listed.setIfInBounds i true) T' S w:=by
 refine⟨b.size.trans h.sz,λt f g=>(b.same t (by simp;omega)).trans (h.cap t f g),λj c e=> ?_,λe=> ?_,λe j c=> ?_,h.inv⟩
 .by_cases a:j=i
  .subst a;exact d
  .rw[iO (by omega),da a] at e;exact(b.same (6+j) (by simp;omega)).trans (h.done j c e)
 .rw[iO (by omega),da (by omega)] at e;exact h.st e
 .rw[iO (by omega),da (by omega)] at e;rw[iO (by omega)];by_cases a:j=i
  .rw[du a]
  .rw[da a];exact h.ord e j c
def asP(hi:X.Inv S w)(g:X.Ok)(c:X.R b):X.Gr S S w w (seen prog f #[⟨.cell ⟨b,0,none⟩,false,false⟩]):=by
 refine⟨λ_ _ _ _=>rfl,am _,rfl,id,λ_ _=>rfl,λ_ h=>h,λ_ h=>.inl h,λe i=> ?_⟩;have a:=tn i;simp only[sI,pa,rF,ue] at a;subst a;refine⟨λx d=>.inr (.inr ?_),(λe=>by cases e),(λe=>by cases e),(λe=>by cases e), ?_⟩
 .simp[MemAct.ofEvent,MemAct.touch?] at d;rw[<-d];exact⟨c,rfl⟩
 .exact bd (g.rlt b c) hi.sz
def ajX :X.Gr S S w w (seen prog f #[]):=
 ⟨λ_ _ _ _=>rfl,am _,rfl,id,λ_ _=>rfl,λ_ h=>h,λ_ h=>.inl h,λe a=>by cases(by simpa using tn a:False)⟩
def ah3{x:Operand}{A:Addr}{dst:Option Tmp}{pos:String}(b:P.underlying t=some d)(a:ai7 d=true)(c:e x=.pointer (some A))(f:w.cell? A=some u) :
  (execOp e ⟨dst,.load t x,ty,pos,af,gd⟩).runT P w #[]=(.ok (.value u) w,#[⟨.cell A,false,false⟩]):=by
 cases d<;>first|(cases a;done)|simp[execOp,c,Instr.loadAt,Instr.sureAddr,loadVar,isAgg,mt b,f]
def acs (n:X.Ok) (h:RI X v listed T S w) {t ty : Nat}  (hi:i<5) (a:∃p,aW[i]?=some ⟨some (6+i),.load ty (.tmp t),ty,p,#[],none⟩) (q:prog.underlying ty=some d) (l:ai7 d=true)
  (c:T.getD t undef=.pointer (some ⟨b,0,none⟩)) (e:X.R b/\X.w0.cell? ⟨b,0,none⟩=some (X.val v i))
  (K:∀T' g,RI X v listed T S g->Tm [6+i] T T'->T'.getD (6+i) undef=X.val v i->bJ prog false X.Rl X.Gr Stop S (Gl [FW dd T' (.inRegion aW rest::k)] [fw]) g) :
  bJ prog false X.Rl X.Gr Stop S (Gl [FW dd T (.inRegion aW (i::rest)::k)] [fw]) w:=by
 obtain⟨p,a⟩:=a;refine .step rfl λw1 o=> ?_;have f:=h.rely o;refine⟨_,w1,_,S,asO (xs:=[]) (base:=[fw]) rfl rfl rfl rfl a rfl (ah3 q l (x:=.tmp t) (A:=⟨b,0,none⟩) c (f.inv.cell e.1 e.2)),asP f.inv n e.1, ?_⟩;have m:Frame.finish (FW dd T (.inRegion aW (i::rest)::k)) (X.val v i)=FW dd (T.setIfInBounds (6+i) (X.val v i)) (.inRegion aW rest::k):=by
  simp only[Frame.finish,a,qL]
 rw[m];have j:6+i<T.size:=by rw[h.sz];omega
 exact K _ w1 f (.one (by simp) λt c=>by rw[aH j,da c]) (by rw[aH j,du rfl])
def asQ(F:FaT P){x : Operand}{a:Addr}{dst:Option Tmp}{pos:String}(f:e x=.slice (some a) n c)(b:e y=.int .i64 j)(g:j<n) :
  (execOp e ⟨dst,.indexAddr 138 x y,ty,pos,af,gd⟩).runT P w #[]=(.ok (.value (.pointer (some (a.add (j*2))))) w,#[]):=by
 obtain⟨i,d,k, -⟩:=F.adF;simp[execOp,f,b,Instr.indexAt,asIntOf,mt F.ahl,g,sizeOf,typeInfo,d,k]
def asR (e:X.Ok) (h:RI X v listed T S w) (g:listed.getD 0 false=true) (l:listed.getD 1 false=true)
  (K:∀T' b,RI X v listed T S b->Tm [6+6] T T'->T'.getD (6+6) undef=X.val v 6->bJ prog false X.Rl X.Gr Stop S (Gl [FW dd T' (.inRegion aW rest::k)] [fw]) b) :
  bJ prog false X.Rl X.Gr Stop S (Gl [FW dd T (.inRegion aW (6::rest)::k)] [fw]) w:=by
 obtain⟨p,a⟩:=aBD;refine .step rfl λw1 f=> ?_;refine⟨_,w1,_,S,asO (xs:=[]) (base:=[fw]) rfl rfl rfl rfl a rfl (asQ faT (x:=.tmp 6) (y:=.tmp 7) (h.done 0 (by omega) g) (h.done 1 (by omega) l) e.kn),ajX, ?_⟩;have j:(⟨X.C,0,none⟩:Addr).add (X.κ*2)=⟨X.C,2*X.κ,none⟩:=by rw[jf,lP,tO]
 rw[j];have d:Frame.finish (FW dd T (.inRegion aW (6::rest)::k)) (X.val v 6)=FW dd (T.setIfInBounds 12 (X.val v 6)) (.inRegion aW rest::k):=by
  simp only[Frame.finish,a,qL]
 have c:12<T.size:=by rw[h.sz];omega
 have:=K (T.setIfInBounds 12 (X.val v 6)) w1 (h.rely f) (.one (by simp) λt i=>by rw[aH c,da i]) (by rw[aH c,du rfl]);rw[<-d] at this;exact this
end
end
section
open Go Go.Conc Go.ConcN Go.RowKit
open Go.ConcR (KK wgBlock WgAt stA smA rd wr mk Payload DC0)
def ahQ{args:Array Value} :(callFunc 89 args).runT prog w #[]=(.ok (.enter 89 args) w,#[]):=by
 have a:=cJ func89;have c:¬f89.name= "runtime.NumGoroutine" :=by simpa using a
 have b:¬f89.body=none:=λe=>by have:=afh;rw[e] at this;cases this
 unfold callFunc;simp[func89,c,b]
def ah5 {m:Bool} {base : List Frame}    {o:Oper} {w2 : World}  {args:Array Value} (j:fr.mode=.run) (l:(fr.kind ==.early)=false) (b:fr.roundOf=none) (g:fr.todo=.inRegion Q (i::rest)::k) (p:Q[i]?=some o) (r:o.guard=none)
  (q:(execOp fr.eval o).runT P w #[]=(.ok (.enter f args) w2,es)):stepG P m (Gl (fr::xs) base) w=.go (Gl (Frame.enter P f args .normal::fr::xs) base) w2 (seen P fr.fn es):=by
 obtain⟨fn,a,e,d,u,c,t⟩:=fr;dsimp only at j l b g;subst j b g;have n:∀y,Region.wanted o y=true:=λy=>by unfold Region.wanted;rw[r]
 have s:stepG P m (Gl (⟨fn,a,.inRegion Q (i::rest)::k,d,.run,c,none⟩::xs) base) w =
   stepG.apply P true ⟨fn,a,.inRegion Q (i::rest)::k,d,.run,c,none⟩ (xs++base) none (execOp (Frame.eval ⟨fn,a,.inRegion Q (i::rest)::k,d,.run,c,none⟩) o) w:=by
  simp[Gl,stepG,stepG.exec,stepG.oper,Frame.oper?,p,n]
 rw[s];unfold stepG.apply;simp only[q,pu];simp[GStep.after,l,Gl]
section
variable {X:Wx} {v:ByteArray×Bool} {listed:Array Bool} {T T':Array Value} {S:av} {w w1:World} {dd:Deferred} {k:List Item} {rest:List Nat}
def avE(a:X.Ok)(q:eL Z)(j:∀d nm,Z d [] nm=(⟨#[]⟩,false))(hi:X.Inv S w) :
  bJ prog false X.Rl X.Gr (λn g w1=>g=⟨cfr.finish (.agg #[.string (Z X.key X.l X.nm).1,.bool (Z X.key X.l X.nm).2]),[fw],.running,none,none⟩/\X.Inv n w1) S
   (Gl (Frame.enter prog 89 #[.int .i64 X.key,.slice X.A X.n X.c,.int .i64 X.nm] .normal::[]) [cfr,fw]) w:=by
 by_cases k:X.n=0
 .have l:X.l=[]:=by have:=a.hl;rw[k] at this;exact qZ.1 this
  rw[l,j,k];exact Wx.lift a (avB X.mY) hi
 .have m:∀(A:Addr) (u:Value),X.w0.cell? A=some u->X.Rg A.block->plV (λb=>X.Rg b/\eG X.w0 b) u->w.cell? A=some u:=λA u o p _=>(gu (hi.r _ (a.rows _ p))).trans o;exact Wx.lift a (asF (Rg:=X.Rg) q (ap a.hN hi.sz) (λg i=>by
   obtain⟨c,t,z,e⟩:=a.gr g i;exact⟨a.gl g i,c,t,z,(hi.r g (a.rows g (a.gl g i))).trans e⟩) a.k1 a.k2 a.hl a.hc a.hcm (a.rd.mask a.rgp a.al m) (a.rgp.move a.al λb f=>hi.r b (a.rows b f)) a.al (by omega) a.nm X.mY (λb f=>a.rows b f.1)) hi
def asS (B:X.Ok) (x:eL Z) (a:∀b nm,Z b [] nm=(⟨#[]⟩,false)) (h:RI X (Z X.key X.l X.nm) listed T S w) (f:listed.getD 5 false=false) (n:listed.getD 2 false=true) (D:listed.getD 3 false=true) (q:listed.getD 4 false=true)
  (K:∀T' l d,RI X (Z X.key X.l X.nm) listed T l d->Tm [6+5] T T'->T'.getD (6+5) undef=X.val (Z X.key X.l X.nm) 5->bJ prog false X.Rl X.Gr Stop l (Gl [FW dd T' (.inRegion aW rest::k)] [fw]) d) :
  bJ prog false X.Rl X.Gr Stop S (Gl [FW dd T (.inRegion aW (5::rest)::k)] [fw]) w:=by
 obtain⟨p,j⟩:=aBC;refine .step rfl λw1 C=> ?_;have r:=h.rely C;have m:∀w,(execOp (Frame.eval (FW dd T (.inRegion aW (5::rest)::k))) ⟨some 11,.call ⟨.value (.func 89),#[.tmp 8,.tmp 9,.tmp 10],#[3,23,3]⟩,151,p,#[⟨2,.data⟩,⟨3,.data⟩,⟨4,.data⟩],none⟩).runT prog w #[]=(.ok (.enter 89 #[.int .i64 X.key,.slice X.A X.n X.c,.int .i64 X.nm]) w,#[]):=λw=>by
  have E:Array.map (Frame.eval (FW dd T (.inRegion aW (5::rest)::k))) #[.tmp 8,.tmp 9,.tmp 10]=#[.int .i64 X.key,.slice X.A X.n X.c,.int .i64 X.nm]:=by
   have G:T.getD 8 undef=.int .i64 X.key:=h.done 2 (by omega) n;have v:T.getD 9 undef=.slice X.A X.n X.c:=h.done 3 (by omega) D;have y:T.getD 10 undef=.int .i64 X.nm:=h.done 4 (by omega) q;rw[<-G,<-v,<-y];simp[Frame.eval]
  have F:execOp (Frame.eval (FW dd T (.inRegion aW (5::rest)::k))) ⟨some 11,.call ⟨.value (.func 89),#[.tmp 8,.tmp 9,.tmp 10],#[3,23,3]⟩,151,p,#[⟨2,.data⟩,⟨3,.data⟩,⟨4,.data⟩],none⟩=callFunc 89 #[.int .i64 X.key,.slice X.A X.n X.c,.int .i64 X.nm]:=by
   simp only[execOp,resolve];rw[E];simp[Deferred.ofValue,invoke,Frame.eval];try rfl
  exact(jp (λs=>Sem.runT prog s w #[]) F).trans ahQ
 refine⟨_,w1,_,S,ah5 (xs:=[]) (base:=[fw]) rfl rfl rfl rfl j rfl (m w1),ajX, ?_⟩;refine bJ.bind X.mY.fR X.mY.tr (avE B x a r.inv (cfr:=FW dd T (.inRegion aW (5::rest)::k))) λz g H ⟨hg,jX⟩=> ?_;subst hg;have i:11<T.size:=by rw[h.sz];omega
 have A:Frame.finish (FW dd T (.inRegion aW (5::rest)::k)) (X.val (Z X.key X.l X.nm) 5)=FW dd (T.setIfInBounds 11 (X.val (Z X.key X.l X.nm) 5)) (.inRegion aW rest::k):=by
  simp only[Frame.finish,j,qL]
 have u:listed.getD 7 false=false:=by
  cases e:listed.getD 7 false with
  |false=>rfl
  |true=>rw[h.ord e 5 (by omega)] at f;cases f
 have:=K (T.setIfInBounds 11 (X.val (Z X.key X.l X.nm) 5)) z H ⟨h.sz,h.cap,h.done,λe=>(by rw[u] at e;cases e),h.ord,jX⟩ (.one (by simp) λt o=>by rw[aH i,da o]) (by rw[aH i,du rfl]);rw[<-A] at this;exact this
end
end
section
open Go Go.Conc Go.ConcN Go.RowKit
open Go.ConcR (KK wgBlock WgAt stA smA rd wr mk Payload DC0)
section
variable {X:Wx} {v:ByteArray×Bool} {listed:Array Bool} {T T':Array Value} {S:av} {w w1:World} {dd:Deferred} {k:List Item} {rest:List Nat}
def apA (B:X.Ok) (h:RI X v listed T S w) (M:listed.getD 5 false=true) (U:listed.getD 6 false=true)
  (K:∀s,X.Inv S s->(Has X.C (2*X.κ) (.string v.1) s/\Has X.C (2*X.κ+1) (.bool v.2) s)->bJ prog false X.Rl X.Gr Stop S (Gl [FW dd T (.inRegion aW rest::k)] [fw]) s) :
  bJ prog false X.Rl X.Gr Stop S (Gl [FW dd T (.inRegion aW (7::rest)::k)] [fw]) w:=by
 obtain⟨p,F⟩:=aBE;refine .step rfl λw1 Q=> ?_;have E:=h.rely Q;obtain⟨t,g,H⟩:=E.inv.pay;have g:w1.heap[X.C]?=some (.cells t 151 (0,0)):=g;have L:=B.kn;obtain⟨u0,C⟩:∃u,t[2*X.κ]?=some u:=⟨_,ge (by omega)⟩;obtain⟨u1,z⟩:∃u,t[2*X.κ+1]?=some u:=⟨_,ge (by omega)⟩;have D:(⟨X.C,2*X.κ,none⟩:Addr).add 1=⟨X.C,2*X.κ+1,none⟩:=jf _ _ _;have q:=agu faT (w:=w1) (e:=Frame.eval (FW dd T (.inRegion aW (7::rest)::k))) (x:=.tmp 12) (y:=.tmp 11) (dst:=none) (ty:=0) (pos:=p) (af:=#[⟨6,.data⟩,⟨5,.data⟩,⟨5,.chain⟩,⟨0,.phase⟩,⟨1,.phase⟩,⟨2,.phase⟩,⟨3,.phase⟩,⟨4,.phase⟩,⟨5,.phase⟩]) (gd:=none) (A:=⟨X.C,2*X.κ,none⟩) (u0:=.string v.1) (u1:=.bool v.2) rfl rfl
  (h.done 6 (by omega) U) (h.done 5 (by omega) M) ((eX g).trans C) (iB g) (by rw[D];exact(eX g).trans z) (by rw[D];exact iB g)
 rw[D] at q;have a:((w1.setCell ⟨X.C,2*X.κ,none⟩ (.string v.1)).setCell ⟨X.C,2*X.κ+1,none⟩ (.bool v.2)).heap[X.C]?=some (.cells ((t.setIfInBounds (2*X.κ) (.string v.1)).setIfInBounds (2*X.κ+1) (.bool v.2)) 151 (0,0)):=setRow (setRow g);have c:((w1.setCell ⟨X.C,2*X.κ,none⟩ (.string v.1)).setCell ⟨X.C,2*X.κ+1,none⟩ (.bool v.2)).heap.size=w1.heap.size:=by rw[be,be]
 have d:∀b,b≠X.C->((w1.setCell ⟨X.C,2*X.κ,none⟩ (.string v.1)).setCell ⟨X.C,2*X.κ+1,none⟩ (.bool v.2)).heap[b]?=w1.heap[b]?:=λb j=>by
  rw[bj _ _ _ (λe=>j e.symm),bj _ _ _ (λe=>j e.symm)]
 have n:((w1.setCell ⟨X.C,2*X.κ,none⟩ (.string v.1)).setCell ⟨X.C,2*X.κ+1,none⟩ (.bool v.2)).ou=w1.ou:=rfl;have l:=ajW (m:=false) (xs:=[]) (base:=[fw]) (k:=k) (fr:=FW dd T (.inRegion aW (7::rest)::k)) rfl rfl rfl rfl F rfl q;generalize ((w1.setCell ⟨X.C,2*X.κ,none⟩ (.string v.1)).setCell ⟨X.C,2*X.κ+1,none⟩ (.bool v.2))=w2 at a c d n l;have O:Frame.finish (FW dd T (.inRegion aW (7::rest)::k)) undef=FW dd T (.inRegion aW rest::k):=by
  simp only[Frame.finish,F,qL]
 rw[O] at l;have f:=E.inv;have o:X.Inv S w2:=by
  refine⟨λb j=>(d b (λe=>B.rC (e▸j))).trans (f.r b j),f.s,by rw[c];exact f.c,by rw[c];exact f.wg,by rw[c];exact f.sz, ?_,⟨_,a,by simpa using H⟩,n.trans f.os⟩;obtain⟨R,sm,P⟩:=f.live;exact⟨R,sm,(d X.Wg (λe=>B.cW e.symm)).trans P⟩
 refine⟨_,w2,_,S,l,⟨λb _ _ j=>d b j,pb c.symm,n,λ_=>⟨_,a,by simpa using H⟩,λi I=> ?_,λ_ h=>h,λ_ h=>.inl h,λe V=> ?_⟩,K w2 o ⟨?_, ?_⟩⟩
 .have N:i≠2*X.κ:=λe=>I (by show i / 2=X.κ;omega);have W:i≠2*X.κ+1:=λe=>I (by show i / 2=X.κ;omega);rw[eX a,eX g,jt (λe=>W e.symm),jt (λe=>N e.symm)]
 .have G:=tn V;simp only[sI,pa,rF,ue] at G;have J:X.C<w2.heap.size:=by rw[c];exact f.c
  rcases G with rfl|rfl
  .refine⟨λx r=>.inr (.inl ⟨⟨X.C,2*X.κ,none⟩, ?_,rfl, ?_⟩),(λe=>by cases e),(λe=>by cases e),(λe=>by cases e),J⟩
   .simp[MemAct.ofEvent,MemAct.touch?] at r;rw[<-r]
   .show 2*X.κ / 2=X.κ;omega
  .refine⟨λx r=>.inr (.inl ⟨⟨X.C,2*X.κ+1,none⟩, ?_,rfl, ?_⟩),(λe=>by cases e),(λe=>by cases e),(λe=>by cases e),J⟩
   .simp[MemAct.ofEvent,MemAct.touch?] at r;rw[<-r]
   .show(2*X.κ+1) / 2=X.κ;omega
 .show w2.cell? ⟨X.C,2*X.κ,none⟩=_;rw[eX a,jt (by omega),qg (by omega)]
 .show w2.cell? ⟨X.C,2*X.κ+1,none⟩=_;rw[eX a,qg (by simp;omega)]
def awN(X:Wx)(v:ByteArray×Bool)(dd:Deferred)(k:List Item):av->Goroutine->World->Prop:=λS g w=>∃T,g=Gl [FW dd T (.inRegion aW []::k)] [fw]/\T.size=13/\X.Inv S w/\Has X.C (2*X.κ) (.string v.1) w/\Has X.C (2*X.κ+1) (.bool v.2) w
def agx(c:X.Ok){o:Int->List iP->Int->ByteArray×Bool}(B:eL o)(p:∀v nm,o v [] nm=(⟨#[]⟩,false)):∀(fuel t:Nat) (listed:Array Bool) (T:Array Value) (S:av) (w:World),listed.size=8->unW listed<=fuel->RI X (o X.key X.l X.nm) listed T S w->
  bJ prog false X.Rl X.Gr (awN X (o X.key X.l X.nm) dd k) S (Gl [FW dd T (.inRegion aW (Region.linearise.go .any aW fuel t listed [])::k)] [fw]) w
 |0,t,listed,T,S,w,d,hf,h=>by
  have l:=aBF d (.inr (by omega));exact .stop λw1 m=>⟨T,rfl,h.sz,h.inv.rely m,acr (h.st (l 7 (by omega))) m⟩
 |fuel+1,t,listed,T,S,w,d,hf,h=>by
  simp only[Region.linearise.go];change bJ _ _ _ _ _ S (Gl [FW dd T (.inRegion aW (match(Region.ready .any aW listed)[t % (Region.ready .any aW listed).length]? with
   |some i=>Region.linearise.go .any aW fuel (t / (Region.ready .any aW listed).length) (listed.setIfInBounds i true) [i]
   |none=>[].reverse)::k)] [fw]) w
  cases A:(Region.ready .any aW listed)[t % (Region.ready .any aW listed).length]? with
  |none=>
   have q:Region.ready .any aW listed=[]:=by
    cases m:Region.ready .any aW listed with
    |nil=>rfl
    |cons x D=>
     rw[m] at A;have r:t % (x::D).length<(x::D).length:=tT _ (by simp);simp at A;simp at r;omega
   have l:=aBF d (.inl q);exact .stop λw1 m=>⟨T,rfl,h.sz,h.inv.rely m,acr (h.st (l 7 (by omega))) m⟩
  |some i=>
   simp only[];rw[linearise_go_acc,List.reverse_singleton,List.singleton_append];obtain⟨z,C,hd⟩:=(afj d).1 (db A);have F:=avD d z C;have s:(listed.setIfInBounds i true).size=8:=by simpa using d
   have next:∀T' n a,RI X (o X.key X.l X.nm) (listed.setIfInBounds i true) T' n a->bJ prog false X.Rl X.Gr (awN X (o X.key X.l X.nm) dd k) n (Gl [FW dd T' (.inRegion aW (Region.linearise.go .any aW fuel (t / (Region.ready .any aW listed).length) (listed.setIfInBounds i true) [])::k)] [fw]) a:=
    λT' n a b=>agx c B p fuel _ _ T' n a s (by omega) b
   generalize Region.linearise.go .any aW fuel (t / (Region.ready .any aW listed).length) (listed.setIfInBounds i true) []=rest at next ⊢
   have:i=0\/i=1\/i=2\/i=3\/i=4\/i=5\/i=6\/i=7:=by omega
   rcases this with rfl|rfl|rfl|rfl|rfl|rfl|rfl|rfl
   .exact acs c h (by omega) aBx faT.ahl rfl (h.cap 4 (by omega) (by omega)) c.ra λT' a b f g=>next T' S a (b.put d (by omega) f g)
   .exact acs c h (by omega) aBy faT.u3 rfl (h.cap 5 (by omega) (by omega)) c.ri λT' a b f g=>next T' S a (b.put d (by omega) f g)
   .exact acs c h (by omega) aBz faT.u3 rfl (h.cap 1 (by omega) (by omega)) c.rk λT' a b f g=>next T' S a (b.put d (by omega) f g)
   .exact acs c h (by omega) aBA faT.u23 rfl (h.cap 2 (by omega) (by omega)) c.rp λT' a b f g=>next T' S a (b.put d (by omega) f g)
   .exact acs c h (by omega) aBB faT.u3 rfl (h.cap 3 (by omega) (by omega)) c.rn λT' a b f g=>next T' S a (b.put d (by omega) f g)
   .simp only[jW,ga] at hd;exact asS c B p h C hd.1.1 hd.1.2 hd.2 λT' n a b f g=>next T' n a (b.put d (by omega) f g)
   .simp only[jW,ga] at hd;exact asR c h hd.1.1.1.1.1 hd.1.1.1.1.2 λT' a b f g=>next T' S a (b.put d (by omega) f g)
   .simp only[jW,ga] at hd;refine apA c h hd.1.1.1.1.1.2 hd.1.1.1.1.1.1 λa u y=>next T S a ⟨h.sz,h.cap,λj E e=> ?_,λ_=>y,λ_ j E=> ?_,u⟩
    .rw[iO (by omega),da (by omega)] at e;exact h.done j E e
    .rw[iO (by omega),da (by omega)];have:j=0\/j=1\/j=2\/j=3\/j=4\/j=5\/j=6:=by omega
     rcases this with rfl|rfl|rfl|rfl|rfl|rfl|rfl
     .exact hd.1.1.1.1.2
     .exact hd.1.1.1.2
     .exact hd.1.1.2
     .exact hd.1.2
     .exact hd.2
     .exact hd.1.1.1.1.1.2
     .exact hd.1.1.1.1.1.1
end
end
section
open Go Go.Conc Go.ConcN Go.RowKit Go.Conc.Lib Go.ConcR.Gen Go.ConcN.Gen
open Go.ConcR (KK wgBlock WgAt stA smA rd wr mk Payload DC0)
section
variable {X:Wx} {v:ByteArray×Bool} {T:Array Value} {S:av} {w w1:World} {dd:Deferred} {k:List Item} {Stop:av->Goroutine->World->Prop}
def acu {fr2 : Frame} {es:World->Array Event} {g:World->World} (hi:X.Inv S w) (p:∀w,X.Inv S w->stepG prog false (Gl [fr] [fw]) w=.go (Gl [fr2] [fw]) (g w) (es w)) (q:∀w,(g w).heap=w.heap/\(g w).ou=w.ou) (s:∀w,X.Inv S w->∀e∈es w,False)
  (K:∀k,X.Inv S k->bJ prog false X.Rl X.Gr Stop S (Gl [fr2] [fw]) k):bJ prog false X.Rl X.Gr Stop S (Gl [fr] [fw]) w:=by
 refine .step rfl λw1 n=> ?_;have d:=hi.rely n;obtain⟨c,l⟩:=q w1;have f:∀a,(g w1).cell? a=w1.cell? a:=λa=>by unfold World.cell?;rw[c]
 refine⟨_,g w1,_,S,p w1 d,⟨λb _ _ _=>by rw[c],pb (by rw[c]),l,λ⟨j,a,b⟩=>⟨j,by rw[c];exact a,b⟩,λi _=>f _,λ_ h=>h,λ_ h=>.inl h,λe h=>(s w1 d e h).elim⟩,K _ ⟨λb o=>by rw[c];exact d.r b o,d.s,by rw[c];exact d.c,by rw[c];exact d.wg,by rw[c];exact d.sz, ?_, ?_,l.trans d.os⟩⟩
 .obtain⟨r,sm,m⟩:=d.live;exact⟨r,sm,by unfold WgAt;rw[c];exact m⟩
 .obtain⟨j,a,b⟩:=d.pay;exact⟨j,by rw[c];exact a,b⟩
abbrev ddW(Wg:Nat):Deferred:=⟨.fn (.func eJ.done) #[],#[.pointer (some ⟨Wg,0,none⟩)]⟩
def aDO:∃p,oG[0]?=some ⟨none,.defer ⟨.value (.func eJ.done),#[.tmp 0],#[148]⟩,0,p,#[],none⟩:=⟨_,rfl⟩
def avF(T:Array Value):QuitsD prog 2 0 (G ⟨nCl,T,[],[],.returning,.deferred,none⟩ [fw]):=by
 refine QuitsD.ctl (g':=G fw []) rfl (λw=> ?_) ?_
 .have a:(results f87 T).runT prog w #[]=(.ok (.tuple #[]) w,#[]):=by
   have:f87.results=#[]:=rfl;simp[results,this]
  simp only[G,stepG,unwind,func87,a];simp[doReturn,GStep.after,seen,fw,goexitEntry]
 refine QuitsD.ctl (g':={G fw [] with status:=.finished}) rfl (λw=> ?_) ⟨rfl,rfl⟩;simp[G,stepG,unwind,fw,goexitEntry,Frame.catches];rfl
def ac0 {fr2 : Frame} {cs cs2:List Frame} (hi:X.Inv S w) (c:Has X.C (2*X.κ) (.string v.1) w/\Has X.C (2*X.κ+1) (.bool v.2) w) {es:World->Array Event} (f:∀w,stepG prog false (G fr cs) w=.go (G fr2 cs2) w (es w)) (d:∀w,∀e∈es w,False)
  (K:∀a,X.Inv S a->Has X.C (2*X.κ) (.string v.1) a/\Has X.C (2*X.κ+1) (.bool v.2) a->bJ prog false X.Rl X.Gr Stop S (G fr2 cs2) a):bJ prog false X.Rl X.Gr Stop S (G fr cs) w:=by
 refine .step rfl λw1 b=> ?_;exact⟨_,w1,_,S,f w1,⟨λ_ _ _ _=>rfl,am _,rfl,id,λ_ _=>rfl,λ_ h=>h,λ_ h=>.inl h,λe h=>(d w1 e h).elim⟩,K w1 (hi.rely b) (acr c b)⟩
def abJ  :∀e∈seen P f #[],False:=λe h=>by simpa using tn h
def ajY{args:Array Value} :(callFunc eJ.done args).runT prog w #[]=(.ok (.enter eJ.done args) w,#[]):=by
 have h:=aav.f_done;have b:¬(doneFn eJ).name= "runtime.NumGoroutine" :=by decide
 have a:¬(doneFn eJ).body=none:=λe=>by cases e
 unfold callFunc;simp[h,b,a]
def ayP(r:X.Ok)(k:X.tWg=eJ.tWg){val:Nat->Value}(q:val (2*X.κ)=.string v.1)(p:val (2*X.κ+1)=.bool v.2)(hi:X.Inv S w)(o:Has X.C (2*X.κ) (.string v.1) w/\Has X.C (2*X.κ+1) (.bool v.2) w) :
  bJ prog false X.Rl X.Gr (age prog X.tWg X.Wg X.C X.n2 val X.κ) S (G (FW (ddW X.Wg) T [.inRegion aW []]) [fw]) w:=by
 refine ac0 (fr2:=FW (ddW X.Wg) T []) (cs2:=[fw]) hi o (es:=λ_=>#[]) (λw=>by simp[G,stepG,stepG.exec]) (λ_ e h=>by simpa using h) λt m f=> ?_;refine ac0 (fr2:=⟨nCl,T,[],[ddW X.Wg],.returning,.deferred,none⟩) (cs2:=[fw]) m f (es:=λ_=>#[]) (λw=>by simp[G,stepG,stepG.exec]) (λ_ e h=>by simpa using h) λs g d=> ?_;have j:Frame.enter prog eJ.done #[.pointer (some ⟨X.Wg,0,none⟩)] .deferred=(baseD eJ.done).at ⟨#[.pointer (some ⟨X.Wg,0,none⟩),undef,undef,undef],[]⟩ [.code (body_done eJ)]:=by
  unfold Frame.enter;rw[aav.f_done];rfl
 refine ac0 (fr2:=(baseD eJ.done).at ⟨#[.pointer (some ⟨X.Wg,0,none⟩),undef,undef,undef],[]⟩ [.code (body_done eJ)]) (cs2:=[⟨nCl,T,[],[],.returning,.deferred,none⟩,fw]) g d (es:=λw=>seen prog nCl #[]) (λw=> ?_) (λ_=>abJ) λl i b=> ?_
 .have a:(invoke (ddW X.Wg).target (ddW X.Wg).args).runT prog w #[]=(.ok (.enter eJ.done #[.pointer (some ⟨X.Wg,0,none⟩)]) w,#[]):=ajY;simp only[G,stepG,unwind,callDeferred,a,j];simp[GStep.after]
 .have:=apz (κ:=X.κ) (n:=X.n2) (R:=X.R) (S:=S) (val:=val) (c:=⟨nCl,T,[],[],.returning,.deferred,none⟩) (cs:=[fw]) aav rfl (avF T) l (k▸i.live) (by rw[q];exact b.1) (by rw[p];exact b.2);rw[<-k] at this;exact this
end
end
section
open Go Go.Conc Go.ConcN Go.RowKit Go.Conc.Lib Go.ConcR.Gen Go.ConcN.Gen
open Go.ConcR (KK wgBlock WgAt stA smA rd wr mk Payload DC0)
abbrev Wx.dL(X:Wx):Array Value:=#[.pointer (some ⟨X.Wg,0,none⟩),.pointer (some ⟨X.bk,0,none⟩),.pointer (some ⟨X.bp,0,none⟩),.pointer (some ⟨X.bn,0,none⟩),.pointer (some ⟨X.ba,0,none⟩),.pointer (some ⟨X.bi,0,none⟩)]
abbrev FD(T:Array Value)(k:List Item):Frame:=⟨nCl,T,k,[],.run,.deferred,none⟩
def avG :Frame.enter prog nCl a .deferred=FD (a++Array.replicate (13-a.size) undef) [.code anz]:=by
 unfold Frame.enter;rw[func87];rfl
def ayQ:prog.follows .mixedOrders=true:=by kernel_rfl
section
variable {X:Wx} {S:av} {w:World}
def ajZ(ok:X.Ok)(hF:eL Z)(u:∀E nm,Z E [] nm=(⟨#[]⟩,false))(M:X.tWg=eJ.tWg){val:Nat->Value}(v0:val (2*X.κ)=.string (Z X.key X.l X.nm).1)(P:val (2*X.κ+1)=.bool (Z X.key X.l X.nm).2)(hi:X.Inv S w) :
  bJ prog false X.Rl X.Gr (age prog X.tWg X.Wg X.C X.n2 val X.κ) S (G (Frame.enter prog nCl X.dL .deferred) [fw]) w:=by
 rw[avG];obtain⟨T,hT,Q,g0,A⟩:∃T:Array Value,T=X.dL++Array.replicate (13-X.dL.size) undef/\T.size=13/\T.getD 0 undef=.pointer (some ⟨X.Wg,0,none⟩)/\∀t,1<=t->t<=5->T.getD t undef=X.cap t:=by
  refine⟨_,rfl,by simp, ?_,λt K m=> ?_⟩
  .rw[iS,rU (by simp)];rfl
  .rw[iS,rU (by simp;omega)];have:t=1\/t=2\/t=3\/t=4\/t=5:=by omega
   rcases this with rfl|rfl|rfl|rfl|rfl<;>rfl
 rw[<-hT];rw[asN];refine acu (fr:=FD T [.code (.seq (.region 0 oG false) (.region 1 aW true))]) (fr2:=FD T [.code (.region 0 oG false),.code (.region 1 aW true)]) (g:=id) (es:=λ_=>#[]) hi (λw _=>by simp[Gl,stepG,stepG.exec]) (λ_=>⟨rfl,rfl⟩) (λ_ _ e h=>by simpa using h) λw1 K=> ?_;have x:List.range oG.size=[0]:=rfl;refine acu (fr2:=FD T [.inRegion oG [0],.code (.region 1 aW true)]) (g:=id) (es:=λ_=>#[]) K (λw _=>by simp[Gl,stepG,stepG.exec,x]) (λ_=>⟨rfl,rfl⟩) (λ_ _ e h=>by simpa using h) λw2 L=> ?_;obtain⟨p,I⟩:=aDO;refine acu (fr2:=FW (ddW X.Wg) T [.inRegion oG [],.code (.region 1 aW true)]) (g:=id) (es:=λ_=>seen prog nCl #[]) L (λw _=> ?_) (λ_=>⟨rfl,rfl⟩) (λ_ _=>abJ) λw3 V=> ?_
 .have H:(execOp (Frame.eval (FD T [.inRegion oG [0],.code (.region 1 aW true)])) ⟨none,.defer ⟨.value (.func eJ.done),#[.tmp 0],#[148]⟩,0,p,#[],none⟩).runT prog w #[]=(.ok (.defer (ddW X.Wg)) w,#[]):=by
   have hm:Array.map (Frame.eval (FD T [.inRegion oG [0],.code (.region 1 aW true)])) #[.tmp 0]=#[.pointer (some ⟨X.Wg,0,none⟩)]:=by
    rw[<-g0];simp[Frame.eval]
   simp only[execOp,resolve];rw[hm];simp[Deferred.ofValue,Frame.eval]
  have R:∀y,Region.wanted ⟨none,.defer ⟨.value (.func eJ.done),#[.tmp 0],#[148]⟩,0,p,#[],none⟩ y=true:=λy=>rfl;have Y:stepG prog false (Gl [FD T [.inRegion oG [0],.code (.region 1 aW true)]] [fw]) w =
    stepG.apply prog true (FD T [.inRegion oG [0],.code (.region 1 aW true)]) [fw] none (execOp (Frame.eval (FD T [.inRegion oG [0],.code (.region 1 aW true)])) ⟨none,.defer ⟨.value (.func eJ.done),#[.tmp 0],#[148]⟩,0,p,#[],none⟩) w:=by
   simp[Gl,stepG,stepG.exec,stepG.oper,Frame.oper?,I,R]
  rw[Y];unfold stepG.apply;simp only[H,pu];have D:(CallKind.deferred ==CallKind.early)=false:=rfl;simp[GStep.after,D,Gl,Frame.finish,I]
 refine acu (fr2:=FW (ddW X.Wg) T [.code (.region 1 aW true)]) (g:=id) (es:=λ_=>#[]) V (λw _=>by simp[Gl,stepG,stepG.exec]) (λ_=>⟨rfl,rfl⟩) (λ_ _ e h=>by simpa using h) λw4 O=> ?_;refine .step rfl λr s=> ?_;have m:=O.rely s;have C:∃(t:Nat) (f:World),f.heap=r.heap/\f.ou=r.ou/\stepG prog false (Gl [FW (ddW X.Wg) T [.code (.region 1 aW true)]] [fw]) r=.go (Gl [FW (ddW X.Wg) T [.inRegion aW (Region.linearise.go .any aW 8 t (Array.replicate 8 false) [])]] [fw]) f #[]:=by
  have B:∀t,Region.schedule (prog.follows .mixedOrders) aW t=Region.linearise.go .any aW 8 t (Array.replicate 8 false) []:=λt=>by
   simp only[Region.schedule,ayQ,Bool.true_or,pu,Region.linearise,anA]
  simp only[Gl,stepG,stepG.exec,B,vD,kw,qK];cases d:(choose (.order nCl 1)).run prog r with
  |ok t f=>
   refine⟨t,f, ?_⟩;have:f.heap=r.heap/\f.ou=r.ou:=by
    unfold choose at d;rw[Sem.run] at d;split at d
    .cases d;exact⟨rfl,rfl⟩
    .cases d;exact⟨rfl,rfl⟩
   exact⟨this.1,this.2,rfl⟩
  |halt q f=>
   exfalso;unfold choose at d;rw[Sem.run] at d;split at d<;>cases d
 obtain⟨t,f,l,J,F⟩:=C;have n:∀a,f.cell? a=r.cell? a:=λa=>by unfold World.cell?;rw[l]
 have h6:X.Inv S f:=by
  refine⟨λb N=>by rw[l];exact m.r b N,m.s,by rw[l];exact m.c,by rw[l];exact m.wg,by rw[l];exact m.sz, ?_, ?_,J.trans m.os⟩
  .obtain⟨W,sm,U⟩:=m.live;exact⟨W,sm,by unfold WgAt;rw[l];exact U⟩
  .obtain⟨v,a,b⟩:=m.pay;exact⟨v,by rw[l];exact a,b⟩
 have o:∀j,(Array.replicate 8 false).getD j false=false:=λj=>by
  rw[iS,uh];split<;>rfl
 refine⟨_,f,_,S,F,⟨λb _ _ _=>by rw[l],pb (by rw[l]),J,λ⟨v,a,b⟩=>⟨v,by rw[l];exact a,b⟩,λi _=>n _,λ_ h=>h,λ_ h=>.inl h,λe h=>by simp at h⟩, ?_⟩;have z:=agx (dd:=ddW X.Wg) (k:=[]) ok hF u 8 t (Array.replicate 8 false) T S f (by simp) (List.countP_le_length) ⟨Q,A,λj _ e=>(by rw[o] at e;cases e),λe=>(by rw[o] at e;cases e),λe=>(by rw[o] at e;cases e),h6⟩;refine bJ.bind X.mY.fR X.mY.tr z λS2 g w7 ⟨T2,hg,_,hi7,hv0,hv1⟩=> ?_;subst hg;exact ayP ok M v0 P hi7 ⟨hv0,hv1⟩
def apB{args:Array Value} :(callFunc nCl args).runT prog w #[]=(.ok (.enter nCl args) w,#[]):=by
 have a:=cJ func87;have c:¬f87.name= "runtime.NumGoroutine" :=by simpa using a
 have b:¬f87.body=none:=λe=>by cases e
 unfold callFunc;simp[func87,c,b]
def aib(i:X.Ok)(n:eL Z)(g:∀d nm,Z d [] nm=(⟨#[]⟩,false))(k:X.tWg=eJ.tWg){val:Nat->Value}(m:val (2*X.κ)=.string (Z X.key X.l X.nm).1)(l:val (2*X.κ+1)=.bool (Z X.key X.l X.nm).2)(hi:X.Inv S w) :
  bJ prog false X.Rl X.Gr (age prog X.tWg X.Wg X.C X.n2 val X.κ) S (born prog ⟨.fn (.func nCl) X.dL,#[]⟩) w:=by
 refine .step rfl λa j=> ?_;have b:(invoke (Target.fn (.func nCl) X.dL) #[]).runT prog a #[]=(.ok (.enter nCl X.dL) a,#[]):=apB;have f:stepG prog false (born prog ⟨.fn (.func nCl) X.dL,#[]⟩) a=.go (G (Frame.enter prog nCl X.dL .deferred) [fw]) a (seen prog prog.funcs.size #[]):=by
  simp only[born,stepG,unwind,callDeferred,b];simp[GStep.after,G,fw]
 exact⟨_,a,_,S,f,⟨λ_ _ _ _=>rfl,am _,rfl,id,λ_ _=>rfl,λ_ h=>h,λ_ h=>.inl h,λe h=>(abJ e h).elim⟩,ajZ i n g k m l (hi.rely j)⟩
end
end
section
open Go Go.Conc Go.ConcN Go.RowKit Go.Conc.Lib Go.ConcR.Gen Go.ConcN.Gen
open Go.ConcR (KK wgBlock WgAt stA smA rd wr mk Payload DC0)
section
variable {P:Program} {R:World->World->Prop} {Q:World->Prop} {St:Goroutine->World->Prop}
def eN{main:Bool}(c:∀w d,Q w->R w d->Q d) :
  ∀{n:Nat} {g:Goroutine} {w:World},Q w->Goes P main R DC0 St n g w->Goes P main R DC0 (λg w=>St g w/\Q w) n g w
 |0,_,_,hq,h=>λa b=>⟨h a b,c _ _ hq b⟩
 |n+1,g,w,hq,h=>by
  rcases h with h|⟨f,h⟩
  .exact .inl λa b=>⟨h a b,c _ _ hq b⟩
  .refine .inr ⟨f,λa b=> ?_⟩;have:=h a b;cases e:stepG P main g a with
   |go k i j=>
    rw[e,tM] at this;rw[tM];exact⟨this.1,eN c (this.1.1▸c _ _ hq b) this.2⟩
   |_=>rw[e] at this;exact this.elim
def fC(a:∀g w,St g w->Y g w)(h:Goes P main R DC0 St n g w):Goes P main R DC0 Y n g w:=og (λ_ _ _ x=>x) a h
def jJ(c:∀w a,Q w->R w a->Q a){e:Mark}(b:Q w)(h:oN P R e m St g w):oN P R e m (λg w=>St g w/\Q w) g w:=
 ⟨h.1,let⟨f,d,k⟩:=h.2;⟨f,d,eN c b k⟩⟩
def abG(b:∀g w,St g w->Y g w){e:Mark}(h:oN P R e m St g w):oN P R e m Y g w:=
 ⟨h.1,let⟨c,a,k⟩:=h.2;⟨c,a,fC b k⟩⟩
def apC{Wg:Nat}(a:∀w d,Q w->R w d->Q d)(k:∀w v i,Q w->WgAt ty Wg w v 0->Q (w.setCell (stA Wg) (.int .u64 i)))(l:Q w)(h:ajV P R ty Wg St g w):ajV P R ty Wg (λg w=>St g w/\Q w) g w:=
 ⟨h.1,λv m c=>by
  obtain⟨p,e,n,f⟩:=h.2 v m c;have b:=k w _ ((v+1)*KK) l c;exact⟨p,e,λj=>fC (λg w x=>abG (λg w x=>jJ a x.2 x.1) (jJ a x.2 x.1)) (eN a b (n j)),λo=>fC (λg w x=>jJ a x.2 x.1) (eN a b (f o))⟩⟩
end
section
variable [Payload] {P:Program} {L:WgLink} {Wg C n:Nat} {R S:av}
 {b₀:Frame} {a₀:Act} {ops₀:Array Oper} {i₀:Nat} {rest₀:List Nat} {k₀:List Item} {cs:List Frame}
def aw1(h:DC0 w w' es):Gua Wg C n R Rr S S w w' es:=by
 obtain⟨rfl,rfl⟩:=h;exact⟨λ_ _ _ _=>rfl,am _,rfl,id,λ_ _=>rfl,λ_ h=>h,λ_ h=>.inl h,by simp⟩
omit [Payload] in
def apD:(#[.pointer (some ⟨Wg,0,none⟩),.int .i64 1]:Array Value)++(List.replicate 115 undef).toArray=#[.pointer (some ⟨Wg,0,none⟩),.int .i64 1,undef,undef,undef,undef,undef,undef,undef,undef,undef,undef,undef,undef,undef,undef,undef,undef,undef,undef,undef,undef,undef,undef,undef,undef,undef,undef,undef,undef,undef,undef,undef,undef,undef,undef,undef,undef,undef,undef,undef,undef,undef,undef,undef,undef,undef,undef,undef,undef,undef,undef,undef,undef,undef,undef,undef,undef,undef,undef,undef,undef,undef,undef,undef,undef,undef,undef,undef,undef,undef,undef,undef,undef,undef,undef,undef,undef,undef,undef,undef,undef,undef,undef,undef,undef,undef,undef,undef,undef,undef,undef,undef,undef,undef,undef,undef,undef,undef,undef,undef,undef,undef,undef,undef,undef,undef,undef,undef,undef,undef,undef,undef,undef,undef,undef,undef]:=by
 simp[List.replicate]
def anX (H:WgLib P L) {val:Nat->Value} {d:av->Goroutine->World->Prop} {Q:World->Prop} (e:∀w i,Q w->RM L.tWg Wg C n R S w i->Q i) (q:∀w v l,Q w->WgAt L.tWg Wg w v 0->Q (w.setCell (stA Wg) (.int .u64 l)))
  (s:∀w,WgLive L.tWg Wg w->Q w->bJ P true (jI L.tWg Wg C (2*n) R noC) (Gua Wg C (2*n) R noC) (MGo P L.tWg Wg C n val j d R) S (G (b₀.at (a₀.put ((ops₀[i₀]?).bind (·.dst)) (.tuple #[])) (.inRegion ops₀ rest₀::k₀)) cs) w)
  (w:World) (u:WgLive L.tWg Wg w) (f:Q w) :
  bJ P true (jI L.tWg Wg C (2*n) R noC) (Gua Wg C (2*n) R noC) (λS g w=>apY P L.tWg Wg C n val j d R S g w) S
   (G ((base L.add).at ⟨#[.pointer (some ⟨Wg,0,none⟩),.int .i64 1]++(List.replicate 115 undef).toArray,[]⟩ [.code (body_add L)]) (b₀.at a₀ (.inRegion ops₀ (i₀::rest₀)::k₀)::cs)) w:=by
 rw[apD];have t:=asJ (b₀:=b₀) (a₀:=a₀) (ops₀:=ops₀) (i₀:=i₀) (rest₀:=rest₀) (k₀:=k₀) (cs:=cs) (R:=RM L.tWg Wg C n R S) (S:=λg w=>g=G (b₀.at (a₀.put ((ops₀[i₀]?).bind (·.dst)) (.tuple #[])) (.inRegion ops₀ rest₀::k₀)) cs/\WgLive L.tWg Wg w) H (λ_ _ h r=>r.live h) (λ_ h=>⟨rfl,h⟩) w u;have m:=fC (λg w x=>abG (λg w x=>apC e q x.2 x.1) (jJ e x.2 x.1)) (eN (Q:=Q) e f t);refine bJ.abH (R:=RM L.tWg Wg C n R S) (λ_ _ h=>h) (λ_ _ _ h=>aw1 h) (λ_ _ h=>ayN (λg w p=> ?_) h) m;refine bJ.bind (λS w=>jI.refl R noC S w) (λS a b c=>jI.trans) (bJ.abH (S:=S) (R:=RM L.tWg Wg C n R S) (Stop:=λk g w=>k=S/\(g=G (b₀.at (a₀.put ((ops₀[i₀]?).bind (·.dst)) (.tuple #[])) (.inRegion ops₀ rest₀::k₀)) cs/\WgLive L.tWg Wg w)/\Q w) (λ_ _ h=>h) (λ_ _ _ h=>aw1 h) (λ_ _ h=>⟨rfl,h⟩) p) ?_;rintro k g w ⟨rfl,⟨rfl,o⟩,f⟩;exact s w o f
end
end
section
open Go Go.Conc Go.ConcN Go.RowKit
open Go.ConcR (KK wgBlock WgAt stA smA rd wr mk Payload DC0)
noncomputable def abD:Code:=f72.body.getD .skip
noncomputable def agy:Array Oper:=uz (lS abD)
noncomputable def ac4:Array Oper:=uz (lS (cf abD))
noncomputable def ov:Array Oper:=uz (lS (cf (cf abD)))
noncomputable def awO:Code:=lS (cf (cf (cf abD)))
noncomputable def afN:Array Oper:=uz (lS awO)
def ayS:Code->Code
 |.block _ (.loop c)=>c
 |c=>c
def avH:Code->Code
 |.block _ c=>c
 |c=>c
noncomputable def js:Code:=ayS (cf awO)
noncomputable def apU:Array Oper:=uz (lS js)
noncomputable def amo:Code:=avH (lS (cf (cf js)))
noncomputable def abE:Array Oper:=uz (lS amo)
noncomputable def aaw:Array Oper:=uz (lS (cf amo))
noncomputable def mj:Array Oper:=uz (cf (cf amo))
noncomputable def ah7:Array Oper:=uz (cf (cf (cf js)))
noncomputable def jH:Array Oper:=uz (lS (cf (cf (cf (cf abD)))))
def apT:abD=.seq (.region 0 agy false) (.seq (.region 1 ac4 false) (.seq (.region 2 ov false) (.seq (.seq (.region 3 afN false) (.block 0 (.loop js))) (.seq (.region 9 jH false) cR)))):=rfl
def afO:js=.seq (.region 4 apU false) (.seq (.cond (.tmp 21) .skip (.exit 0)) (.seq (.block 1 (.seq (.region 5 abE false) (.seq (.region 6 aaw false) (.region 7 mj false)))) (.region 8 ah7 false))):=rfl
def aDR:∃p a,agy[0]?=some ⟨some 3,.box 3 (.tmp 0),0,p,a,none⟩:=⟨_,_,rfl⟩
def aDS:∃p a,agy[1]?=some ⟨some 4,.box 23 (.tmp 1),0,p,a,none⟩:=⟨_,_,rfl⟩
def aDT:∃p a,agy[2]?=some ⟨some 6,.assign (.const (.slice none 0 0)),83,p,a,none⟩:=⟨_,_,rfl⟩
def aDU:∃p a,agy[3]?=some ⟨some 7,.assign (.const (.bool false)),4,p,a,none⟩:=⟨_,_,rfl⟩
def aBN:∃p a,ac4[0]?=some ⟨some 15,.move (.tmp 2),93,p,a,none⟩:=⟨_,_,rfl⟩
def aBO:∃p a,ac4[1]?=some ⟨some 16,.call ⟨.builtin .len,#[.tmp 15],#[93]⟩,3,p,a,none⟩:=⟨_,_,rfl⟩
def aBP:∃p a,ac4[2]?=some ⟨some 17,.makeSlice 138 (.tmp 16) (.tmp 16),138,p,a,none⟩:=⟨_,_,rfl⟩
def aBQ:∃p a,ac4[3]?=some ⟨some 8,.alloc 138,0,p,a,none⟩:=⟨_,_,rfl⟩
def aBR:∃p a,ac4[4]?=some ⟨none,.store 138 (.tmp 8) (.tmp 17),0,p,a,none⟩:=⟨_,_,rfl⟩
def aB9:∃p a,ov[0]?=some ⟨some 9,.alloc eJ.tWg,0,p,a,none⟩:=⟨_,_,rfl⟩
def aBS:∃p a,afN[0]?=some ⟨some 18,.move (.tmp 2),93,p,a,none⟩:=⟨_,_,rfl⟩
def aBT:∃p a,afN[1]?=some ⟨some 19,.call ⟨.builtin .len,#[.tmp 18],#[93]⟩,3,p,a,none⟩:=⟨_,_,rfl⟩
def aBU:∃p a,afN[2]?=some ⟨some 20,.move (.const (.int .i64 0)),3,p,a,none⟩:=⟨_,_,rfl⟩
def aBV:∃p a,apU[0]?=some ⟨some 21,.binOp .lss 3 (.tmp 20) (.tmp 19) 3,0,p,a,none⟩:=⟨_,_,rfl⟩
def aBW:∃p a,abE[0]?=some ⟨some 22,.move (.tmp 20),3,p,a,none⟩:=⟨_,_,rfl⟩
def aBX:∃p a,abE[1]?=some ⟨some 23,.indexAddr 93 (.tmp 18) (.tmp 20),0,p,a,none⟩:=⟨_,_,rfl⟩
def aBY:∃p a,abE[2]?=some ⟨some 24,.load 3 (.tmp 23),3,p,a,none⟩:=⟨_,_,rfl⟩
def aBZ:∃p a,abE[3]?=some ⟨some 10,.alloc 3,0,p,a,none⟩:=⟨_,_,rfl⟩
def aB0:∃p a,abE[4]?=some ⟨some 11,.alloc 3,0,p,a,none⟩:=⟨_,_,rfl⟩
def aB1:∃p a,abE[5]?=some ⟨none,.store 3 (.tmp 10) (.tmp 22),0,p,a,none⟩:=⟨_,_,rfl⟩
def aB2:∃p a,abE[6]?=some ⟨none,.store 3 (.tmp 11) (.tmp 24),0,p,a,none⟩:=⟨_,_,rfl⟩
def ay9:∃p a,aaw[0]?=some ⟨some 25,.call ⟨.value (.func eJ.add),#[.tmp 9,.const (.int .i64 1)],#[eJ.tWg,3]⟩,0,p,a,none⟩:=⟨_,_,rfl⟩
def aB4:∃p a,mj[0]?=some ⟨some 26,.makeFunc (.func nCl) #[] #[.tmp 9,.tmp 3,.tmp 4,.tmp 11,.tmp 8,.tmp 10],1,p,a,none⟩:=⟨_,_,rfl⟩
def aDV:∃p a,mj[1]?=some ⟨none,.go ⟨.value (.tmp 26),#[],#[]⟩,0,p,a,none⟩:=⟨_,_,rfl⟩
def aB5:∃p a,ah7[0]?=some ⟨some 27,.binOp .add 3 (.tmp 20) (.const (.int .i64 1)) 3,3,p,a,none⟩:=⟨_,_,rfl⟩
def aB6:∃p a,ah7[1]?=some ⟨some 20,.move (.tmp 27),3,p,a,none⟩:=⟨_,_,rfl⟩
def aza:∃p a,jH[0]?=some ⟨some 28,.call ⟨.value (.func eJ.wait),#[.tmp 9],#[eJ.tWg]⟩,0,p,a,none⟩:=⟨_,_,rfl⟩
def wS  :seen P f #[]=#[]:=by
 rw[Array.eq_empty_iff_size_eq_zero];rcases h:(seen P f #[]).size with _|n
 .rfl
 .exact(abJ _ (Array.getElem_mem (xs:=seen P f #[]) (i:=0) (by omega))).elim
def att{base : List Frame}(h:T.getD 26 undef=.func (.func nCl) #[] X) :
  stepG prog true (Gl (FQ cD T (.inRegion mj [1]::k)::xs) base) w=.spawn (Gl (FQ cD T (.inRegion mj []::k)::xs) base) (born prog ⟨.fn (.func nCl) X,#[]⟩) w #[]:=by
 obtain⟨p,a,e⟩:=aDV;have b:(execOp (Frame.eval (FQ cD T (.inRegion mj [1]::k))) ⟨none,.go ⟨.value (.tmp 26),#[],#[]⟩,0,p,a,none⟩).runT prog w #[]=(.ok (.spawn ⟨.fn (.func nCl) X,#[]⟩) w,#[]):=by
  have i:Frame.eval (FQ cD T (.inRegion mj [1]::k)) (.tmp 26)=.func (.func nCl) #[] X:=h;simp only[execOp,resolve,i];simp[Deferred.ofValue]
 have f:∀y,Region.wanted ⟨none,.go ⟨.value (.tmp 26),#[],#[]⟩,0,p,a,none⟩ y=true:=λy=>rfl;have g:stepG prog true (Gl (FQ cD T (.inRegion mj [1]::k)::xs) base) w =
   stepG.apply prog true (FQ cD T (.inRegion mj [1]::k)) (xs++base) none (execOp (Frame.eval (FQ cD T (.inRegion mj [1]::k))) ⟨none,.go ⟨.value (.tmp 26),#[],#[]⟩,0,p,a,none⟩) w:=by
  simp[Gl,stepG,stepG.exec,stepG.oper,Frame.oper?,e,f]
 rw[g];unfold stepG.apply;simp only[b,pu];have d:(CallKind.normal ==CallKind.early)=false:=rfl;simp[GStep.after,d,Gl,Frame.finish,e,born,wS]
end
section
open Go Go.Conc Go.ConcN Go.RowKit
open Go.ConcR (KK wgBlock WgAt stA smA rd wr mk Payload DC0)
section
variable {P:Program} {w:World} {e:Operand->Value} {x y:Operand} {v:Value} {dst:Option Tmp} {t ty:TypeId} {pos:String} {af:Array Edge} {gd:Option (Nat×Bool)}
def asT(h:e x=v)(a:v.cells=#[v]):(execOp e ⟨dst,.box t x,ty,pos,af,gd⟩).runT P w #[]=(.ok (.value (.pointer (some ⟨w.heap.size,0,none⟩))) (w.alloc (.cells #[v] t)),#[]):=by
 simp[execOp,Instr.box,newVar,newRow,h,a]
def agz(h:e x=v):(execOp e ⟨dst,.assign x,ty,pos,af,gd⟩).runT P w #[]=(.ok (.value v) w,#[]):=by
 simp[execOp,h]
def qc{i:TypeInfo}(hi:P.info? t=some i)(a:i.zero=some v):(execOp e ⟨dst,.alloc t,ty,pos,af,gd⟩).runT P w #[]=(.ok (.value (.pointer (some ⟨w.heap.size,0,none⟩))) (w.alloc (.cells v.cells t)),#[]):=by
 simp[execOp,Instr.alloc,zeroValue,typeInfo,hi,a,newVar,newRow]
def afM{i:TypeInfo}{A:Addr}(hi:P.info? t=some i)(n:i.size=1)(k:alr v=true)(a:v.cells=#[v])(m:e x=.pointer (some A))(j:e y=v)(l:w.cell? A=some u)(d:w.frozen? A=false) :
  (execOp e ⟨dst,.store t x y,ty,pos,af,gd⟩).runT P w #[]=(.ok .skip (w.setCell A v),#[⟨.cell A,true,false⟩]):=by
 have b:(storeCells A [v] 0).runT P w #[]=(.ok () (w.setCell A v),#[⟨.cell A,true,false⟩]):=by
  show(Sem.store .plain (A.add 0) v (Sem.pure ())).runT P w #[]=_;have f:A.add 0=A:=by unfold Addr.add;simp
  rw[f,abm k l d];rfl
 have c:(storeCells A [v] 0).run P w=.ok () (w.setCell A v):=by
  rw[<-rx _ _ _ #[]];exact jp Prod.fst b
 have g:(storeCells A [v] 0).events P w #[]=#[⟨.cell A,true,false⟩]:=jp Prod.snd b;simp[execOp,m,j,Instr.storeAt,Instr.sureAddr,storeVar,sizeOf,typeInfo,hi,n,a,c,g]
def ah0(F:FaT P){s:Tmp}(h:e (.tmp s)=.slice A n c):(execOp e ⟨dst,.call ⟨.builtin .len,#[.tmp s],#[93]⟩,ty,pos,af,gd⟩).runT P w #[]=(.ok (.value (.int .i64 n)) w,#[]):=by
 rw[pI (s:=λv=>Builtin.len_ #[93] ty #[v]) λ_ v=>rfl,h];change Sem.runT P (Builtin.len_ #[93] ty #[.slice A n c] >>=λu=>pure (Next.value u)) w #[]=_;simp[Builtin.len_,mt F.u31,goInt]
def ah9{fn:Fn}{a:Array Operand}(h:a.map e=X):(execOp e ⟨dst,.makeFunc fn #[] a,ty,pos,af,gd⟩).runT P w #[]=(.ok (.value (.func fn #[] X)) w,#[]):=by
 simp[execOp,Instr.makeFunc,h]
def atf(F:FaT P)(m:(n:Int)<=2147483647)(b:e x=.int .i64 n):∃c:Array Value,c.size=2*n/\(execOp e ⟨dst,.makeSlice 138 x x,ty,pos,af,gd⟩).runT P w #[]=(.ok (.value (.slice (some ⟨w.heap.size,0,none⟩) n n)) (w.alloc (.cells c 151)),#[]):=by
 obtain⟨c,k,g⟩:=anf F (w:=w) (dst:=dst) (ty:=ty) (pos:=pos) (af:=af) (gd:=gd) m b;refine⟨c,k,Prod.ext ((rx _ _ _ _).trans g) ?_⟩;obtain⟨i,l,o,a,f⟩:=F.adF;have d:=events_make w 138 151 i _ F.ahl l f .i64 .i64 n n (by omega) (uZ _) (by rw[a];omega) (by omega) (by rw[a];omega) #[];show(execOp e ⟨dst,.makeSlice 138 x x,ty,pos,af,gd⟩).events P w #[]=#[];have j:execOp e ⟨dst,.makeSlice 138 x x,ty,pos,af,gd⟩=(Instr.makeSlice 138 (e x) (e x)).bind λv=>Sem.pure (.value v):=rfl;rw[j,b,Sem.events_bind',d];cases(Instr.makeSlice 138 (.int .i64 n) (.int .i64 n)).run P w<;>rfl
def atr{a:Int}(d:e x=.int .i64 a)(c:e y=.int .i64 1)(g:0<=a)(f:a<2147483647):(execOp e ⟨dst,.binOp .add 3 x y 3,ty,pos,af,gd⟩).runT P w #[]=(.ok (.value (.int .i64 (a+1))) w,#[]):=by
 have:execOp e ⟨dst,.binOp .add 3 x y 3,ty,pos,af,gd⟩=(binOp .add 3 (e x) (e y)).bind λv=>Sem.pure (.value v):=rfl;rw[this,d,c];have b:IntKind.i64.wrap (a+1)=a+1:=by rw[uH];omega
 show(Result.ok (Next.value (.int .i64 (IntKind.i64.wrap (a+1)))) w,#[])=_;rw[b]
end
end
section
open Go Go.Conc Go.ConcN Go.RowKit
section
variable {Rl:av->World->World->Prop} {St:av->Goroutine->World->Prop} {S Rr:av} {w0:World} {T:Array Value} {k:List Item} {xs base:List Frame}
structure Kp (S Rr:av) (w0:World) (S':av) (w':World):Prop where
 keep:∀b,b<w0.heap.size->S b\/Rr b->w'.heap[b]?=w0.heap[b]?
 size:w0.heap.size<=w'.heap.size
 os:w'.ou=w0.ou
 mono:∀b,S b->S' b
 new:∀b,S' b->S b\/(w0.heap.size<=b/\b<w'.heap.size)
def Kp.rl(H:pd Rl Rr)(h:Rl S w0 U):Kp S Rr w0 S U:=let⟨a,b,c⟩:=H.rl _ _ _ h;⟨λx _ d=>a x d,b,c,λ_ h=>h,λ_ h=>.inl h⟩
def Kp.alloc(S Rr:av)(w:World)(ob:Obj):Kp S Rr w (SN S w (w.alloc ob)) (w.alloc ob):=
 ⟨λb a _=>rH w _ b a,by rw[mp];omega,rfl,λ_ h=>.inl h,λ_ h=>h⟩
def Kp.trans{d c:av}{w2 : World}(a:Kp S Rr w0 d U)(b:Kp d Rr U c w2):Kp S Rr w0 c w2:=
 ⟨λx e h=>(b.keep x (bd e a.size) (h.imp (a.mono x) id)).trans (a.keep x e h),ap a.size b.size,b.os.trans a.os,λx h=>b.mono x (a.mono x h),λx h=>(b.new x h).elim (λh=>(a.new x h).imp id λh=>⟨h.1,bd h.2 b.size⟩) λh=>.inr ⟨ap a.size h.1,h.2⟩⟩
def kU(w:World)(ob:Obj):(w.alloc ob).heap[w.heap.size]?=some ob:=by
 show(w.heap.push _)[_]?=_;rw[qX]
def lj(S:av)(w:World)(ob:Obj):SN S w (w.alloc ob) w.heap.size:=.inr ⟨am _,by rw[mp];omega⟩
def ath (H:pd Rl Rr) (hZ:45<=V) (hz:T.size=V)   (N:T.getD 0 undef=.int .i64 key) (P:T.getD 1 undef=.slice A n c)
  (K:∀(T':Array Value) (i:av) (e:World) (f g:Nat),T'.size=V->(∀t,t≠3->t≠4->t≠6->t≠7->T'.getD t undef=T.getD t undef)->T'.getD 3 undef=.pointer (some ⟨f,0,none⟩)->T'.getD 4 undef=.pointer (some ⟨g,0,none⟩)->
   T'.getD 6 undef=.slice none 0 0->T'.getD 7 undef=.bool false->Kp S Rr w0 i e->i f->i g->w0.heap.size<=f->f<g->e.heap[f]?=some (.cells #[.int .i64 key] 3)->e.heap[g]?=some (.cells #[.slice A n c] 23)->bJ prog true Rl (pg Rr) St i (Gl (FQ cD T' k::xs) base) e) :
  bJ prog true Rl (pg Rr) St S (Gl (FQ cD T (.inRegion agy [0,1,2,3]::k)::xs) base) w0:=by
 obtain⟨p0,a0,y⟩:=aDR;obtain⟨p1,a1,G⟩:=aDS;obtain⟨Y,a2,D⟩:=aDT;obtain⟨X,a3,W⟩:=aDU;refine mW H (d:=3) (ob:=.cells #[.int .i64 key] 3) (by show(3:Nat)<_;omega) y rfl rfl (λw=>asT (x:=.tmp 0) N rfl) (λa I T1 z1 B s=> ?_) w0 (H.fR _ _);refine mW H (d:=4) (ob:=.cells #[.slice A n c] 23) (by show(4:Nat)<_;omega) G rfl rfl (λw=>asT (x:=.tmp 1) ((s 1 (by decide)).trans P) rfl) (λb z T2 z2 F u=> ?_);refine bM H.cmp (d:=6) (v:=.slice none 0 0) (es:=#[]) (by show(6:Nat)<_;omega) D rfl rfl (λw _=>agz rfl) (λw _=>bm _) (λT3 z3 M l=> ?_);refine bM H.cmp (d:=7) (v:=.bool false) (es:=#[]) (by show(7:Nat)<_;omega) W rfl rfl (λw _=>agz rfl) (λw _=>bm _) (λE Z U j=> ?_);refine ik H.cmp λe m=> ?_;have r:=Kp.rl H I;have J:=Kp.alloc S Rr a (.cells #[.int .i64 key] 3);have q:=Kp.rl H z;have p:=Kp.alloc (SN S a (a.alloc (.cells #[.int .i64 key] 3))) Rr b (.cells #[.slice A n c] 23);have o:=Kp.rl H m;have s1:(a.alloc (.cells #[.int .i64 key] 3)).heap.size=a.heap.size+1:=mp _ _;have s2:(b.alloc (.cells #[.slice A n c] 23)).heap.size=b.heap.size+1:=mp _ _;have Q:=r.size;have g2:=q.size;refine K E _ e a.heap.size b.heap.size (by omega) (λt O L C R=> ?_) ?_ ?_ ?_ U ((((r.trans J).trans q).trans p).trans o) (p.mono _ (lj S a _)) (lj _ b _) Q (by omega) ?_ ?_
 .rw[j t R,l t C,u t L,s t O]
 .rw[j 3 (by decide),l 3 (by decide),u 3 (by decide),B]
 .rw[j 4 (by decide),l 4 (by decide),F]
 .rw[j 6 (by decide),M]
 .rw[((q.trans p).trans o).keep a.heap.size (by omega) (.inl (lj S a _)),kU]
 .rw[o.keep b.heap.size (by omega) (.inl (lj _ b _)),kU]
end
end
end Go.Proofs.YtlaobkmopohmnaaGreatDoor