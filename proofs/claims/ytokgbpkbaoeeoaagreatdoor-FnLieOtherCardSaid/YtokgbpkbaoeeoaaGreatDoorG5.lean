/- A part. -/
import Derived.Test.YtokgbpkbaoeeoaaGreatDoorG4
import Derived.Laws.Cover1
set_option maxRecDepth 100000
set_option maxHeartbeats 8000000
set_option linter.all false
open Go Go.Conc Go.ConcN Go.RowKit Go.Proofs.Tryz Go.Proofs.YtokgbpkbaoeeoaaGreatDoor
variable {Z X b c fI g hi hi' i j k m n p:Nat} {Y:Type} {v:Value} {w w' w2:World} {e:TypeId} {P:Program} {S:Nat→Prop} {T:List Oper} {s:ByteArray} {W cs:List Value} {V:Array Oper} {A:Option Addr} {U:List TypeId} {xs:List ByteArray} {Post:Value→World→Prop} {Q:Exit→Act→World→Prop} {E:gG Y} {F:Flat Y}
namespace Go.Proofs.YtokgbpkbaoeeoaaGreatDoor
def dj:=@_root_.List.setIfInBounds_toArray
def ge:=@_root_.List.set_cons_zero
def gt:=@_root_.List.getD_cons_zero
def gE:=@_root_.List.getD_cons_succ
def io:=@_root_.List.set_cons_succ
def ip:=@_root_.Go.wpQuiet_nil
def mp:=@_root_.List.length_singleton
def mT:=@_root_.List.length_nil
def nf:=@_root_.Bool.not_eq_true
def pi:=@_root_.List.getElem?_eq_some_iff
def qj:=@_root_.List.length_drop
def qn:=@_root_.Int.eq_ofNat_of_zero_le
def qR:=@_root_.Nat.min_eq_left
def qW:=@_root_.List.getElem?_of_mem
def rB:=@_root_.List.getElem?_set_self
def rG:=@_root_.List.pairwise_iff_getElem
def rK:=@_root_.UInt8.lt_iff_toNat_lt
def rT:=@_root_.List.getElem?_set_ne
def so:=@_root_.List.drop_eq_getElem_cons
def su:=@_root_.List.append_nil
def sD:=@_root_.Nat.le_of_succ_le
def sN:=@_root_.List.pairwise_cons
def sU:=@_root_.List.take_append_drop
def sY:=@_root_.List.getD_eq_getElem?_getD
def sZ:=@_root_.of_decide_eq_true
def th:=@_root_.List.mem_or_eq_of_mem_set
def tw:=@_root_.List.pairwise_singleton
def tN:=@_root_.List.ext_getElem?
def tW:=@_root_.List.pairwise_append
def tZ:=@_root_.Nat.mul_one
def ur:=@_root_.Bool.false_and
def ut:=@_root_.Go.World.block_lt_of_cell?
def uI:=@_root_.Bool.true_and
def uO:=@_root_.List.drop_length
def uX:=@_root_.List.mem_of_mem_drop
def vF:=@_root_.Int.emod_lt_of_pos
def vH:=@_root_.Nat.mod_two_eq_zero_or_one
def vJ:=@_root_.List.sum_cons
def wl:=@_root_.Int.emod_nonneg
section
open Go.Conc Go.ConcN
def aq1:gL.contains 1=true:=by unfold gL;kernel_rfl
def aiX:gL.contains 2=true:=by unfold gL;kernel_rfl
def aht(h:gL.contains g=true):g∈gL:=by simpa using h
abbrev mH:List Nat:=6::7::cQ
def Tm.mh{T T':Array Value}{d:Nat}(h:Tm [d] T T')(b:mH.contains d=true):Tm mH T T':=h.mono λt a=>by
 simp at a;subst a;exact b
def aBc(t:Nat)(h:cQ.contains t=true):mH.contains t=true:=by
 simp only[mH,tF,rm];exact .inr (.inr h)
noncomputable def ajN:Code:=.seq (.region 58 ajb false) (.seq (.region 59 ady false) cM)
noncomputable def asg:Code:=.seq (abg 54 arl 19) (.seq (abg 55 arn 19) (.seq (abg 56 aro 19) (.seq (.region 57 anA false) (.seq (.block 53 (.loop nk)) ajN))))
section
variable {X:Cx} {T:Array Value} {k:List Item} {w:World}
def At.head(h:At X T (.code kR::k) w):∃u A n c l T',T.getD 0 undef=.int .i64 u/\1<=u/\u<=99/\(∃v,w.cell? ⟨1,0,none⟩=some v)/\(∃v,w.cell? ⟨2,0,none⟩=some v)/\
  T.getD 1 undef=.slice A n c/\n<=c/\(c:Int)<=9223372036854775807/\l.length=n/\RdP w A 0 l/\(∀i,i<n->PkR X w A i)/\(∀a,A=some a->Rgd X a.block)/\Tm mH T T'/\T'.getD 6 undef=.slice none 0 0/\T'.getD 7 undef=.bool false/\At X T' (.code asg::k) w:=by
 have j:=Tm.refl mH T;unfold kR at h;have h:=h.seq.seq;replace h:=h.region (l:=[0,1,2]) rfl;obtain⟨v,E,Z,⟨x,q⟩,m,p,f⟩:=h.jJ (d:=6) (Φ:=λv g=>v=.slice none 0 0/\g=w) rfl rfl rfl (by decide) λD g o=>jI o;rw[x] at p;rw[q] at f;replace j:=j.trans (m.mh rfl);replace h:=f;obtain⟨v,E,a1,⟨x,q⟩,m,r,f⟩:=h.jJ (d:=7) (Φ:=λv g=>v=.bool false/\g=w) rfl rfl rfl (by decide) λD g o=>jI o;rw[x] at r;rw[q] at f;replace p:=(m.same 6 rfl).trans p;replace j:=j.trans (m.mh rfl);replace h:=f;obtain⟨v,E,a2,⟨u,V,x,q⟩,m,s,f⟩:=h.jJ (d:=16) (Φ:=λv g=>∃u,T.getD 0 undef=.int .i64 u/\v=.bool (decide (u<1))/\g=w) rfl rfl rfl (by decide) λD g o=>let⟨v,U,z,P,Q,O⟩:=asb (b:=1) rfl o;⟨v,U,z,(j.same 0 rfl).symm.trans P,Q,O⟩
 rw[x] at s;rw[q] at f;replace p:=(m.same 6 rfl).trans p;replace r:=(m.same 7 rfl).trans r;replace j:=j.trans (m.mh rfl);replace h:=f;obtain⟨I,f⟩:=h.jC.chk s;replace h:=f.seq.seq;replace h:=h.region (l:=[0]) rfl;obtain⟨v,E,a6,⟨x,q⟩,m,s,f⟩:=h.jJ (d:=16) (Φ:=λv g=>v=.bool (decide ((99:Int)<u))/\g=w) rfl rfl rfl (by decide) λD g o=>gV rfl (by exact(j.same 0 rfl).trans V) o;rw[x] at s;rw[q] at f;replace p:=(m.same 6 rfl).trans p;replace r:=(m.same 7 rfl).trans r;replace j:=j.trans (m.mh rfl);replace h:=f;obtain⟨J,f⟩:=h.jC.chk s;replace h:=f.seq.seq;replace h:=h.region (l:=[0,1,2,3,4,5]) rfl;obtain⟨ms,W⟩:=(faQ true).avl;have hv:=h.aA7 (aht aq1);obtain⟨v,E,a5,⟨R,q⟩,m,s,f⟩:=h.jJ (d:=16) (Φ:=λv g=>w.cell? ⟨1,0,none⟩=some v/\g=w) rfl rfl rfl (by decide) λD g o=>ahZ W rfl rfl hv o;rw[q] at f;replace p:=(m.same 6 rfl).trans p;replace r:=(m.same 7 rfl).trans r;replace j:=j.trans (m.mh rfl);replace h:=f;have N:=h.aA7 (aht aiX);obtain⟨v,E,a0,⟨S,q⟩,m,s,f⟩:=h.jJ (d:=16) (Φ:=λv g=>w.cell? ⟨2,0,none⟩=some v/\g=w) rfl rfl rfl (by decide) λD g o=>ahZ W rfl rfl N o;rw[q] at f;replace p:=(m.same 6 rfl).trans p;replace r:=(m.same 7 rfl).trans r;replace j:=j.trans (m.mh rfl);replace h:=f;have M:=h.ah1 (t:=1) rfl rfl rfl λe w he=>aeh (faQ true).u23 he;rw[j.same 1 rfl] at M;obtain⟨v,E,a4,⟨A,n,c,F,x,q⟩,m,s,f⟩:=h.jJ (d:=16) (Φ:=λv g=>∃A n c,T.getD 1 undef=.slice A n c/\v=.int .i64 n/\g=w) rfl rfl rfl (by decide) λD g o=>let⟨v,U,B,m,c,P,Q,O⟩:=ahY (faQ true).u23 o;⟨v,U,B,m,c,(j.same 1 rfl).symm.trans P,Q,O⟩
 rw[x] at s;rw[q] at f;replace p:=(m.same 6 rfl).trans p;replace r:=(m.same 7 rfl).trans r;replace j:=j.trans (m.mh rfl);replace h:=f;obtain⟨v,E,a3,⟨x,q⟩,m,y,f⟩:=h.jJ (d:=18) (Φ:=λv g=>v=.int .i64 c/\g=w) rfl rfl rfl (by decide) λD g o=>al8 (faQ true).u23 (by exact(j.same 1 rfl).trans F) o;rw[x] at y;rw[q] at f;replace p:=(m.same 6 rfl).trans p;replace r:=(m.same 7 rfl).trans r;replace s:=(m.same 16 rfl).trans s;replace j:=j.trans (m.mh rfl);replace h:=f;obtain⟨v,E,a7,⟨x,q⟩,m,K,f⟩:=h.jJ (d:=20) (Φ:=λv g=>v=.int .i64 (0:Nat)/\g=w) rfl rfl rfl (by decide) λD g o=>jI o;rw[x] at K;rw[q] at f;replace p:=(m.same 6 rfl).trans p;replace r:=(m.same 7 rfl).trans r;replace s:=(m.same 16 rfl).trans s;replace y:=(m.same 18 rfl).trans y;replace j:=j.trans (m.mh rfl);replace h:=f;obtain⟨v,E,a8,⟨x,q⟩,m,C,f⟩:=h.jJ (d:=19) (Φ:=λv g=>v=.bool (decide ((9223372036854775807:Int)<c))/\g=w) rfl rfl rfl (by decide) λD g o=>gV rfl (by exact y) o;rw[x] at C;rw[q] at f;replace p:=(m.same 6 rfl).trans p;replace r:=(m.same 7 rfl).trans r;replace s:=(m.same 16 rfl).trans s;replace y:=(m.same 18 rfl).trans y;replace K:=(m.same 20 rfl).trans K;replace j:=j.trans (m.mh rfl);replace h:=f;obtain⟨H,f⟩:=h.jC.chk C;replace h:=f.seq.seq;replace h:=h.region (l:=[0]) rfl;obtain⟨v,E,Y,⟨x,q⟩,m,C,f⟩:=h.jJ (d:=19) (Φ:=λv g=>v=.bool (decide ((c:Int)<n))/\g=w) rfl rfl rfl (by decide) λD g o=>gV (by exact y) (by exact s) o;rw[x] at C;rw[q] at f;replace p:=(m.same 6 rfl).trans p;replace r:=(m.same 7 rfl).trans r;replace s:=(m.same 16 rfl).trans s;replace K:=(m.same 20 rfl).trans K;replace j:=j.trans (m.mh rfl);replace h:=f;obtain⟨L,f⟩:=h.jC.chk C;replace h:=f.seq.block.loop;replace I:=fe I;replace J:=fe J;replace H:=fe H;replace L:=fe L;obtain⟨l,T2,hl,o,hR,G,f⟩:=At.axh (by omega) n 0 (by omega) h ((j.same 1 rfl).trans F) s K;exact⟨u,A,n,c,l,T2,V,I,J,⟨_,R⟩,⟨_,S⟩,F,by omega,H,hl,o,λi hi=>(by have:=hR i hi;rwa [mc] at this),λa e=>M a n c (by rw[F,e]),j.trans (G.mono aBc),(G.same 6 rfl).trans p,(G.same 7 rfl).trans r,f⟩
def At.names(h:At X T (.code asg::k) w):∃A n c C T',T.getD 2 undef=.slice A n c/\(∀a,A=some a->a.block<w.heap.size)/\(∀a,A=some a->Rgd X a.block)/\(n:Int)<=2147483647/\n<=c/\(c:Int)<=9223372036854775807/\C.size=2*n/\Tm cQ T T'/\
  T'.getD 16 undef=.int .i64 n/\T'.getD 27 undef=.slice (some ⟨w.heap.size,0,none⟩) n n/\T'.getD 28 undef=.int .i64 (0:Nat)/\At X T' (.code (.block 53 (.loop nk)) :: .code ajN::k) (w.alloc (.cells C 141)):=by
 have j:=Tm.refl cQ T;unfold asg at h;have h:=h.seq.seq;replace h:=h.region (l:=[0,1,2]) rfl;have G:=h.avs (t:=2) rfl rfl rfl λe w M=>aeh (faQ true).u31 M;have J:=h.ah1 (t:=2) rfl rfl rfl λe w M=>aeh (faQ true).u31 M;obtain⟨v,z,Q,⟨A,n,c,u,r,p⟩,m,g,b⟩:=h.jJ (d:=16) (Φ:=λv f=>∃A n c,T.getD 2 undef=.slice A n c/\v=.int .i64 n/\f=w) rfl rfl rfl (by decide) λD f q=>let⟨v,Y,B,m,c,Z,R,S⟩:=ahY (faQ true).u31 q;⟨v,Y,B,m,c,Z,R,S⟩
 rw[r] at g;rw[p] at b;replace j:=j.trans (m.sw rfl);replace h:=b;obtain⟨v,z,O,⟨r,p⟩,m,o,b⟩:=h.jJ (d:=18) (Φ:=λv f=>v=.int .i64 c/\f=w) rfl rfl rfl (by decide) λD f q=>al8 (faQ true).u31 (by exact(j.same 2 rfl).trans u) q;rw[r] at o;rw[p] at b;replace g:=(m.same 16 rfl).trans g;replace j:=j.trans (m.sw rfl);replace h:=b;obtain⟨v,z,U,⟨r,p⟩,m,i,b⟩:=h.jJ (d:=19) (Φ:=λv f=>v=.bool (decide ((2147483647:Int)<n))/\f=w) rfl rfl rfl (by decide) λD f q=>gV rfl (by exact g) q;rw[r] at i;rw[p] at b;replace g:=(m.same 16 rfl).trans g;replace o:=(m.same 18 rfl).trans o;replace j:=j.trans (m.sw rfl);replace h:=b;obtain⟨s,b⟩:=h.jC.chk i;replace h:=b.seq.seq;replace h:=h.region (l:=[0]) rfl;obtain⟨v,z,W,⟨r,p⟩,m,i,b⟩:=h.jJ (d:=19) (Φ:=λv f=>v=.bool (decide ((9223372036854775807:Int)<c))/\f=w) rfl rfl rfl (by decide) λD f q=>gV rfl (by exact o) q;rw[r] at i;rw[p] at b;replace g:=(m.same 16 rfl).trans g;replace o:=(m.same 18 rfl).trans o;replace j:=j.trans (m.sw rfl);replace h:=b;obtain⟨y,b⟩:=h.jC.chk i;replace h:=b.seq.seq;replace h:=h.region (l:=[0]) rfl;obtain⟨v,z,H,⟨r,p⟩,m,i,b⟩:=h.jJ (d:=19) (Φ:=λv f=>v=.bool (decide ((c:Int)<n))/\f=w) rfl rfl rfl (by decide) λD f q=>gV (by exact o) (by exact g) q;rw[r] at i;rw[p] at b;replace g:=(m.same 16 rfl).trans g;replace j:=j.trans (m.sw rfl);replace h:=b;obtain⟨E,b⟩:=h.jC.chk i;replace h:=b.seq;replace h:=h.region (l:=[0,1]) rfl;replace s:=fe s;replace y:=fe y;replace E:=fe E;obtain⟨C,L,K⟩:=an6 (faQ true) (w:=w) (e:=(FQ cE H (.inRegion anA (0::[1]) :: .code (.seq (.block 53 (.loop nk)) ajN)::k)).eval) (x:=.tmp 16) (dst:=some 40) (ty:=130) (pos:= "") (af:=#[]) (gd:=none) s (by exact g);obtain⟨v,z,V,⟨r,p⟩,m,F,b⟩:=h.jJ (d:=27) (Φ:=λv f=>v=.slice (some ⟨w.heap.size,0,none⟩) n n/\f=w.alloc (.cells C 141)) rfl rfl rfl (by decide) λD f q=>by have I:=K.symm.trans q;cases I;exact⟨_,rfl,rfl,rfl⟩
 rw[r] at F;rw[p] at b;replace g:=(m.same 16 rfl).trans g;replace j:=j.trans (m.sw rfl);replace h:=b;obtain⟨v,z,P,⟨r,p⟩,m,N,b⟩:=h.jJ (d:=28) (Φ:=λv f=>v=.int .i64 (0:Nat)/\f=w.alloc (.cells C 141)) rfl rfl rfl (by decide) λD f q=>jI q;rw[r] at N;rw[p] at b;replace g:=(m.same 16 rfl).trans g;replace F:=(m.same 27 rfl).trans F;replace j:=j.trans (m.sw rfl);replace h:=b;exact⟨A,n,c,C,_,u,λa e=>G a n c (by rw[u,e]),λa e=>J a n c (by rw[u,e]),s,by omega,y,L,j,g,F,N,h.jC.seq⟩
end
section
variable {β:Bool} {R:List Frame->World->Prop} {c0 c:Cfg} {iT ρ:Ren} {w0 w w2:World} {l l2:List Frame}
def ash   :∃o a,step P (oh ⟨(kT P).finish v,[],.running,none,none⟩ w)=.ended o a:=by
 have h:∃o a b,stepG P true ⟨(kT P).finish v,[],.running,none,none⟩ w=.ended o a b:=by
  simp only[kT,Frame.finish,stepG,stepG.exec,acZ];exact⟨_,_,_,rfl⟩
 obtain⟨o,a,b,h⟩:=h;exact⟨o,a,cF rfl h⟩
def asi(g:ja (ah β) ρ c.l l)(E:pR c.l):(∃o a,step (ah β) (oh (Gl l [kT (ah β)]) w)=.ended o a)\/∃v a,step (ah β) (oh (Gl l [kT (ah β)]) w)=.next (oh ⟨(kT (ah β)).finish v,[],.running,none,none⟩ a):=by
 obtain⟨L,m,G,hd,K⟩:=E;obtain⟨x,M,y,O,N,k⟩:=g.ne';have H:=g.lone m k;subst H k;rw[m] at g;have C:=g.head;obtain⟨fn,s,e,D,A,u,t⟩:=y;obtain⟨B,F,J,j,b,p,z⟩:=C;dsimp only at B F J j b p z;obtain rfl:A=.returning:=by
  rcases b with b|b
  .rw[G] at b;cases b.1
  .exact b.2
 obtain rfl:D=[]:=by rw[hd] at j;cases j;rfl
 obtain rfl:u=.normal:=p.2;have i:∀{r:GStep},stepG (ah β) true (Gl [⟨fn,s,e,[],.returning,.normal,t⟩] [kT (ah β)]) w=r->(∃o a d,r=.ended o a d)\/(∃v a d,r=.go ⟨(kT (ah β)).finish v,[],.running,none,none⟩ a d):=by
  intro r n;subst n;simp only[Gl,stepG,unwind,rH];cases I:(ah β).funcs[fn]? with
  |none=>exact .inr ⟨_,_,_,rfl⟩
  |some f=>
   dsimp only;cases n:(results f s).runT (ah β) w #[] with
   |mk q d=>
    cases q with
    |ok v a=>exact .inr ⟨v,a,_,rfl⟩
    |halt q a=>cases q<;>exact .inl ⟨_,_,_,rfl⟩
 rcases i rfl with⟨o,a,d,h⟩|⟨v,a,d,h⟩
 .exact .inl ⟨o,a,cF rfl h⟩
 .exact .inr ⟨v,a,dR rfl h⟩
def iB.runs:∀(n:Nat) {c:Cfg} {ρ:Ren} {l:List Frame} {w:World},iB β R c0 iT w0 c ρ l w->runN (ah β) n (oh (Gl l [kT (ah β)]) w)=.next (oh (Gl l2 [kT (ah β)]) w2)->l2≠[]->∃i g,iB β R c0 iT w0 i g l2 w2
 |0,c,ρ,l,w,h,hr,hne=>by
  simp only[runN,qQ] at hr;obtain⟨b,rfl⟩:=iA hr;obtain⟨_,_,y,m,_,a⟩:=h.st.ne';obtain rfl:=ov (by rw[a];simp) hne b;exact⟨c,ρ,h⟩
 |n+1,c,ρ,l,w,h,hr,hne=>by
  obtain⟨_,_,y,m,_,a⟩:=h.st.ne';have j:l≠[]:=by rw[a];simp
  unfold runN at hr;by_cases d:pR c.l
  .exfalso;rcases asi (w:=w) h.st d with⟨o,f,e⟩|⟨v,f,e⟩
   .rw[e] at hr;cases hr
   .rw[e] at hr;cases n with
    |zero=>
     simp only[runN,qQ] at hr;obtain⟨b, -⟩:=iA hr;cases l2 with
     |nil=>exact hne rfl
     |cons x t=>
      have:=ga Goroutine.callers b;simp[Gl] at this
    |succ n=>
     unfold runN at hr;obtain⟨o,s,p⟩:=ash (P:=ah β) (v:=v) (w:=f);simp only[p] at hr;cases hr
  .obtain⟨i,g,z,r,u,q, -, -,k, -⟩:=h.adD true d;rw[dR (jH j _) (k _)] at hr;exact iB.runs n q hr hne
def iB.calls{f:FuncId}{args:Array Value}{y:Frame}{i:List Frame}(h:iB β R c0 iT w0 c ρ (Frame.enter (ah β) f args .normal::y::i) w)(u:Calls (ah β) f args w λe a=>∃v,e=.returned v/\Post v a) :
  ∃l p v j,iB β R c0 iT w0 l p (y.finish v::i) j/\Post v j:=by
 obtain⟨e,a,g,⟨v,rfl,B⟩,⟨n,F⟩,G,D⟩:=u (y::i++[kT (ah β)]);obtain⟨l,p,A⟩:=h.runs (l2:=g::y::i) (w2:=a) n F (by simp);have d:∀base,stepG (ah β) true (Gl (g::y::i) base) a=.go (Gl (y.finish v::i) base) a (seen (ah β) g.fn ((results ((ah β).funcs[g.fn]?.getD default) g.tmps).runT (ah β) a #[]).2):=λbase=>by
  obtain⟨r,hd,k,fn,m,o⟩:=D;obtain⟨J,s,t,L,K,I,H⟩:=g;dsimp only at r hd k m o;subst r hd k;have b:((results fn s).runT (ah β) a #[]).1=.ok v a:=by rw[rA];exact o
  simp only[Gl,stepG,unwind,m,qw,rq];cases z:(results fn s).runT (ah β) a #[] with
  |mk q M=>
   rw[z] at b;dsimp only at b;subst b;simp[doReturn,GStep.after]
 obtain⟨C,E,x, -, -⟩:=A.go rfl true d;exact⟨C,E,v,a,x,B⟩
end
end
section
open Go.Conc Go.ConcN Go.RowKit
abbrev iY:=Int×List (Int×ByteArray)
def eT(fv:Int->List iY->Int->ByteArray×Bool):Prop:=∀(b:Bool) (w:World) (a:Int) (A:Option Addr) (n c:Nat) (l:List iY) (nm:Int),1<=a->a<=99->l.length=n->n<=c->(c:Int)<=9223372036854775807->RdP w A 0 l->In_ nm->
 Calls (ah b) 86 #[.int .i64 a,.slice A n c,.int .i64 nm] w λe d=>∃v,e=.returned v/\(v=.agg #[.string (fv a l nm).1,.bool (fv a l nm).2]/\Below w.heap.size w d)
def ajO(w:World)(A:Option Addr)(i:Nat)(nm:Int):Prop:=∃a,A=some a/\w.cell? (a.add i)=some (.int .i64 nm)/\In_ nm
def ah0.below{B:Option Addr}{x:Int×ByteArray}(h:ah0 w B i x)(f:∀b,b<w.heap.size->w'.heap[b]?=w.heap[b]?):ah0 w' B i x:=by
 obtain⟨⟨a,j,d,e⟩,g,l⟩:=h;have k:∀{A:Addr} {v:Value},w.cell? A=some v->w'.cell? A=some v:=λ{A v} c=>by
  rw[gQ (f A.block (eW c))];exact c
 exact⟨⟨a,j,k d,k e⟩,g,l⟩
def RdP.below{l:List iY}(h:RdP w A j l)(d:∀b,b<w.heap.size->w'.heap[b]?=w.heap[b]?):RdP w' A j l:=λi x o=>by
 obtain⟨⟨a,B,c,r,g,n,q,t,p,s⟩,f⟩:=h i x o;have k:∀{A:Addr} {v:Value},w.cell? A=some v->w'.cell? A=some v:=λ{A v} e=>by
  rw[gQ (d A.block (eW e))];exact e
 exact⟨⟨a,B,c,r,k g,k n,q,t,p,λi y m=>(s i y m).below d⟩,f⟩
def rF(a:Addr)(n:Nat):(a.add n).block=a.block:=by unfold Addr.add;split<;>rfl
def jr(b o n:Nat):(⟨b,o,none⟩:Addr).add n=⟨b,o+n,none⟩:=by
 unfold Addr.add;by_cases h:n=0
 .subst h;simp
 .simp[h]
section
variable {X:Cx} {T:Array Value} {k:List Item} {w:World}
def At.call  {rest:List Nat} {o:Oper} {d:Tmp} {f:FuncId} {args:Array Value} (h:At X T (.inRegion V (i::rest)::k) w) (n:V[i]?=some o) (u:o.guard=none) (p:o.dst=some d) (j:d<45)
  (D:∀w,(execOp (FQ cE T (.inRegion V (i::rest)::k)).eval o).runT (ah true) w #[]=(.ok (.enter f args) w,#[])) (q:Calls (ah true) f args w λe r=>∃v,e=.returned v/\Post v r) :
  ∃v g l,Post v g/\Tm [d] T l/\l.getD d undef=v/\At X l (.inRegion V rest::k) g:=by
 obtain⟨b,c,H,h⟩:=h;have a:∀base,stepG (ah true) true (Gl (FQ cE T (.inRegion V (i::rest)::k)::X.y::X.ys) base) w=.go (Gl (Frame.enter (ah true) f args .normal::FQ cE T (.inRegion V (i::rest)::k)::X.y::X.ys) base) w (seen (ah true) cE #[]):=λbase=>by
  have z:∀y,Region.wanted o y=true:=λy=>by unfold Region.wanted;rw[u]
  have F:stepG (ah true) true (Gl (FQ cE T (.inRegion V (i::rest)::k)::X.y::X.ys) base) w =
    stepG.apply (ah true) true (FQ cE T (.inRegion V (i::rest)::k)) (X.y::X.ys++base) none (execOp (FQ cE T (.inRegion V (i::rest)::k)).eval o) w:=by
   simp[Gl,stepG,stepG.exec,stepG.oper,Frame.oper?,n,z]
  rw[F];unfold stepG.apply;simp only[D,qe];simp[GStep.after,Gl]
 obtain⟨G,I,x, -, -⟩:=h.go rfl true a;obtain⟨A,E,v,g,m,C⟩:=x.calls q;have B:Frame.finish (FQ cE T (.inRegion V (i::rest)::k)) v=FQ cE (T.setIfInBounds d v) (.inRegion V rest::k):=by
  simp only[Frame.finish,n,qN,p]
 rw[B] at m;replace j:d<T.size:=bd j b;exact⟨v,g,_,C,.one (by simp) (λt s=>by rw[aG j,be s]),by rw[aG j,du rfl],by simpa using b,A,E,m⟩
end
end
section
variable {β:Bool}
open Go.RowKit
def acz{a:Addr}(h:w.cell? a=some v):a.spot=none:=by
 unfold World.cell? at h;split at h
 .split at h
  .cases h
  .rename_i b;cases c:a.spot with
   |none=>rfl
   |some x=>rw[c] at b;exact absurd rfl b
 .cases h
def ItL(w:World)(A:Option Addr)(l:List (Int×ByteArray)):Prop:=∀i x,l[i]?=some x->∃b a,A=some ⟨b,a,none⟩/\b<w.heap.size/\w.cell? ⟨b,a+i*2,none⟩=some (.int .i64 x.1)/\w.cell? ⟨b,a+i*2+1,none⟩=some (.string x.2)/\cf x.1/\x.2.size<=maxLen
def ItL.of{l:List (Int×ByteArray)}(h:RdI w A 0 l):ItL w A l:=λi x k=>by
 obtain⟨e,j⟩:∃e,l[0]?=some e:=aq (by have:=aB k;omega);obtain⟨⟨p,m,f, -⟩, -, -⟩:=h 0 e j;obtain⟨⟨a,rfl,d,c⟩,o,q⟩:=h i x k;obtain rfl:=dq m;rw[mc] at d c;obtain⟨b,g,n⟩:=a;obtain rfl:n=none:=by
  have:=acz f;unfold Addr.add at this;simpa using this
 rw[jr] at d c;rw[jr] at c;refine⟨b,g,rfl,eW d,d,c,o,by unfold maxLen;omega⟩
def ItL.below{l:List (Int×ByteArray)}(h:ItL w A l)(d:Below w.heap.size w w'):ItL w' A l:=λi x g=>by
 obtain⟨b,a,k,c,f,j,m⟩:=h i x g;have e:=d.block b c;exact⟨b,a,k,bd c d.size,(qy e).trans f,(qy e).trans j,m⟩
def ama(n m:Int)(s:ByteArray)(g:Nat)(w:World)(b:w.cell? ⟨g,0,none⟩=some (.int .i64 m)) :
  Calls (ah β) 150 #[.agg #[.int .i64 n,.string s],.pointer (some ⟨g,0,none⟩)] w λe c=>e=.returned (.bool (decide (n=m)))/\Below w.heap.size w c:=by
 have i:g≠w.heap.size:=λe=>by
  have:=eW b;simp only at this;omega
 have a:=av w (.cells #[.int .i64 n,.string s] 63);have d:(w.alloc (.cells #[.int .i64 n,.string s] 63)).cell? ⟨g,0,none⟩=some (.int .i64 m):=(qy (a.block g (eW b))).trans b;by_cases h:n=m
 .subst h;go_enter xq,ntmps150;go_wp2;go_ret;exact⟨aD (by simp),a⟩
 .have f:(n ==m)=false:=de.2 h;go_enter xq,ntmps150;go_wp2;go_ret;exact⟨aD (by simp[h]),a⟩
def eH(nm:Int):List (Int×ByteArray)->Int
 |[]=> -1
 |x::l=>if x.1=nm then 0 else let j:=eH nm l;if j<0 then -1 else j+1
def afe{nm:Int}:∀{l:List (Int×ByteArray)},(∀y∈l,y.1≠nm)->eH nm l=-1
 |[],_=>rfl
 |x::l,h=>by
  show(if x.1=nm then _ else _)=_;rw[be (h x (by simp)),afe λy a=>h y (by simp[a])];rfl
def agH{nm:Int}{x:Int×ByteArray}:∀{l:List (Int×ByteArray)} {k:Nat},(∀y∈l.take k,y.1≠nm)->l[k]?=some x->x.1=nm->eH nm l=k
 |[],k,_,h,_=>by simp at h
 |y::l,0,_,h,hx=>by
  simp at h;subst h;show(if y.1=nm then _ else _)=_;rw[du hx];rfl
 |y::l,k+1,hn,h,hx=>by
  show(if y.1=nm then _ else _)=_;rw[be (hn y (by simp)),agH (l:=l) (k:=k) (λz a=>hn z (by simp[a])) (by simpa using h) hx];show(if((k:Nat):Int)<0 then _ else _)=_;rw[be (by omega)];omega
end
section
variable {β:Bool}
open Go.RowKit
def ayJ:acr (β:=β) 150:=ae2 xq (by kernel_rfl) rfl
def ah2(nm:Int)(l:List (Int×ByteArray))(A:Option Addr)(c g:Nat)(w:World)(E:ItL w A l)(G:l.length<=c)(I:c<=maxLen)(v:w.cell? ⟨g,0,none⟩=some (.int .i64 nm)) :
  Calls (ah β) 149 #[.slice A l.length c,.func (.func 150) #[] #[.pointer (some ⟨g,0,none⟩)]] w λe u=>e=.returned (.int .i64 (eH nm l))/\Below w.heap.size w u:=by
 unfold maxLen at I;have r:=eW v;go_enter yV,ntmps149;go_wp2;go_loopw [8] (λi wr=>∃k:Nat,k<=l.length/\i=.int .i64 k/\(∀y∈l.take k,y.1≠nm)/\Below w.heap.size w wr) (λi _=>l.length-(intOf i).toNat)
 case atStart=>exact⟨0,eg _,rfl,by simp,fd _ _⟩
 case round=>
  obtain⟨k,J,rfl,m,n⟩:=hrel;replace m:=ab m;have t:wr.cell? ⟨g,0,none⟩=some (.int .i64 nm):=(qy (n.block g r)).trans v;by_cases o:k<l.length
  .obtain⟨x,j⟩:=aq o;obtain⟨b,D,rfl,z,B,F,H,C⟩:=(E.below n) k x j;replace j:=ab j;have K:=ayJ (β:=β) (#[.agg #[.int .i64 x.1,.string x.2]]++#[.pointer (some ⟨g,0,none⟩)]) wr;go_wp2;refine(ama x.1 nm x.2 g wr t).mono ?_;rintro e u ⟨rfl,a⟩;replace a:=ag n a;by_cases h:x.1=nm
   .have d:eH nm l=k:=agH m.out j.out h;have p:=ab d;have s:decide (x.1=nm)=true:=dk h;rw[s];go_wp2;go_ret;exact⟨by rw[p.out];rfl,a⟩
   .have q:∀y∈l.take (k+1),y.1≠nm:=by
     intro y f;rw[kw j.out,mx] at f;rcases f with f|f
     .exact m.out y f
     .rw[mw.1 f];exact h
    replace q:=ab q;have s:decide (x.1=nm)=false:=da h;rw[s];go_wp2;go_roundw
    case rel=>exact⟨k+1,by omega,by go_num,q.out,a⟩
    simp[intOf];omega
  .obtain rfl:k=l.length:=by omega
   have d:eH nm l=-1:=afe (by have:=m.out;rwa [gc] at this);have p:=ab d;go_wp2;go_ret;exact⟨by rw[p.out];rfl,n⟩
end
section
variable {β:Bool}
open Go.RowKit
noncomputable def iH(key:Int)(l:List (Int×ByteArray))(nm:Int):ByteArray×Bool:=match l[(eH nm l).toNat]? with
 |some x=>if eH nm l<0 then(⟨#[]⟩,false) else ik key x
 |none=>(⟨#[]⟩,false)
def acA(nm:Int):∀l:List (Int×ByteArray),eH nm l=-1\/∃(k:Nat) (x:Int×ByteArray),eH nm l=k/\l[k]?=some x
 |[]=>.inl rfl
 |y::l=>by
  show(if y.1=nm then _ else _)=(-1:Int)\/∃(k:Nat) (x:Int×ByteArray),(if y.1=nm then _ else _:Int)=k/\_;by_cases h:y.1=nm
  .rw[du h];exact .inr ⟨0,y,rfl,rfl⟩
  .rw[be h];rcases acA nm l with a|⟨k,x,a,b⟩
   .rw[a];exact .inl rfl
   .rw[a];refine .inr ⟨k+1,x, ?_,by simpa using b⟩;show(if((k:Nat):Int)<0 then _ else _)=_;rw[be (by omega)];omega
def apx(key s nm:Int)(D:1<=key/\key<=99)(l:List (Int×ByteArray))(A:Option Addr)(c:Nat)(w:World)(H:ItL w A l)(o:l.length<=c)(t:c<=maxLen) :
  Calls (ah β) 126 #[.int .i64 key,.agg #[.int .i64 s,.slice A l.length c],.int .i64 nm] w λe v=>e=.returned (.tuple #[.string (iH key l nm).1,.bool (iH key l nm).2])/\Below w.heap.size w v:=by
 have HC:=ab t;unfold maxLen at t;go_enter zg,ntmps126;go_wp2;generalize f:(w.alloc (.cells #[.int .i64 s,.slice A l.length c] 36)).alloc (.cells #[.int .i64 nm] 3)=w0 at *;obtain⟨q,K,i,F,B,g,r,C⟩:=pW f;have d:=H.below q;refine(ah2 nm l A c (w.heap.size+1) w0 d o HC.out (r 0)).mono ?_;rintro e u ⟨rfl,a⟩;have p:=d.below a;replace i:=ak i a;replace F:=i.cell;replace B:=i.frozen;replace g:=ak g a;replace r:=g.cell;replace C:=g.frozen;replace a:=ag q a;rcases acA nm l with h|⟨k,x,h,n⟩
 .have f:iH key l nm=(⟨#[]⟩,false):=by
   unfold iH;rw[h];split
   .rw[du (by omega)]
   .rfl
  have HG:=ab f;rw[h];go_wp2;go_ret2;rw[HG.out];exact⟨rfl,a⟩
 .have f:iH key l nm=ik key x:=by
   unfold iH;rw[h,show((k:Nat):Int).toNat=k from rfl,n];show(if((k:Nat):Int)<0 then _ else _)=_;rw[be (by omega)]
  have HG:=ab f;obtain⟨b,G,rfl,z,E,I,J,j⟩:=p k x n;have y:=aB n;have L:=da (show ¬((k:Int)<0) by omega);rw[h];go_wp2;refine(au7 key x D j u).mono ?_;rintro e M ⟨rfl,m⟩;replace a:=ag a m;go_wp2;go_ret2;rw[HG.out];exact⟨rfl,a⟩
end
section
variable {β:Bool}
open Go.RowKit
noncomputable def cP(key:Int):List iY->Int->ByteArray×Bool
 |[],_=>(⟨#[]⟩,false)
 |p::l,nm=>if(iH key p.2 nm).2=true then((iH key p.2 nm).1,true) else cP key l nm
def ah3{key nm:Int}:∀{l:List iY} {k:Nat},(∀p∈l.take k,(iH key p.2 nm).2=false)->cP key l nm=cP key (l.drop k) nm
 |[],k,_=>by simp
 |p::l,0,_=>rfl
 |p::l,k+1,h=>by
  show(if(iH key p.2 nm).2=true then _ else cP key l nm)=_;rw[be (by rw[h p (by simp)];simp),List.drop_succ_cons];exact ah3 λq a=>h q (by simp[a])
def PkL(w:World)(A:Option Addr)(l:List iY):Prop:=∀i x,l[i]?=some x->∃b a B c,A=some ⟨b,a,none⟩/\b<w.heap.size/\w.cell? ⟨b,a+i*2,none⟩=some (.int .i64 x.1)/\w.cell? ⟨b,a+i*2+1,none⟩=some (.slice B x.2.length c)/\x.2.length<=c/\c<=maxLen/\ItL w B x.2
def PkL.of{l:List iY}(h:RdP w A 0 l):PkL w A l:=λi x m=>by
 obtain⟨f,k⟩:∃f,l[0]?=some f:=aq (by have:=aB m;omega);obtain⟨⟨s,r,u,n,g, -⟩, -⟩:=h 0 f k;obtain⟨⟨a,B,c,rfl,e,d, -,q,t,p⟩, -⟩:=h i x m;obtain rfl:=dq n;rw[mc] at e d;obtain⟨b,j,o⟩:=a;obtain rfl:o=none:=by
  have:=acz g;unfold Addr.add at this;simpa using this
 rw[jr] at e d;rw[jr] at d;exact⟨b,j,B,c,rfl,eW e,e,d,q,by unfold maxLen;omega,ItL.of p⟩
def PkL.below{l:List iY}(h:PkL w A l)(d:Below w.heap.size w w'):PkL w' A l:=λi x j=>by
 obtain⟨b,a,B,c,n,f,g,m,p,k,o⟩:=h i x j;have e:=d.block b f;exact⟨b,a,B,c,n,bd f d.size,(qy e).trans g,(qy e).trans m,p,k,o.below d⟩
def an7(w:World)(key:Int)(A:Option Addr)(c:Nat)(l:List iY)(nm:Int)(U:1<=key)(P:key<=99)(Z:l.length<=c)(hc:(c:Int)<=9223372036854775807)(X:PkL w A l)(a1:In_ nm) :
  Calls (ah β) 86 #[.int .i64 key,.slice A l.length c,.int .i64 nm] w λe O=>∃v,e=.returned v/\(v=.agg #[.string (cP key l nm).1,.bool (cP key l nm).2]/\Below w.heap.size w O):=by
 go_enter zI,ntmps86;go_wp2;generalize F:w.alloc (.cells #[.string ⟨#[]⟩,.bool false] 141)=w0 at *;obtain⟨L,jo,a,E,x⟩:=mB F;go_loopw [13] (λi wr=>∃k:Nat,k<=l.length/\i=.int .i64 k/\(∀p∈l.take k,(iH key p.2 nm).2=false)/\Below w0.heap.size w0 wr) (λi _=>l.length-(intOf i).toNat)
 case atStart=>exact⟨0,eg _,rfl,by simp,fd _ _⟩
 case round=>
  obtain⟨k,hk,rfl,f,r⟩:=hrel;replace f:=ab f;replace a:=ak a r;replace E:=a.cell;replace x:=a.frozen;have I:=(X.below L).below r;have d:=ag L r;by_cases j:k<l.length
  .obtain⟨p,o⟩:=aq j;obtain⟨b,W,B,M,rfl,Q,V,a0,J,s,C⟩:=I k p o;replace o:=ab o;go_wp2;generalize F:wr.alloc (.cells #[.int .i64 p.1,.slice B p.2.length M] 36)=w5 at *;obtain⟨g,S,q0,T,N⟩:=mB F;replace a:=ak a g;replace E:=a.cell;replace x:=a.frozen;replace d:=ag d g;refine(apx key p.1 nm ⟨U,P⟩ p.2 B M w5 (C.below g) J s).mono ?_;rintro e R ⟨rfl,H⟩;replace a:=ak a H;replace E:=a.cell;replace x:=a.frozen;replace d:=ag d H;cases K:iH key p.2 nm with
   |mk t Y=>
    cases Y with
    |true=>
     have D:cP key l nm=(t,true):=by
      rw[ah3 (k:=k) f.out,so j];have e1:l[k]=p:=by have:=o.out;rw[jp j] at this;exact dq this
      rw[e1];show(if(iH key p.2 nm).2=true then _ else _)=_;rw[K];rfl
     have u:=ab D;go_wp2;have q:=(a.bG 0 (.string t)).bG 1 (.bool true);simp only[dj,ge,io] at q;have m:=q.cell;exact pb (v:=.agg #[.string t,.bool true]) (by simp[results,results86,go_sem,m]) rfl ⟨_,rfl,by rw[u.out],(d.setCell (by simp) _).setCell (by simp) _⟩
    |false=>
     have z:∀y∈l.take (k+1),(iH key y.2 nm).2=false:=by
      intro y n;rw[kw o.out,mx] at n;rcases n with n|n
      .exact f.out y n
      .rw[mw.1 n,K]
     replace z:=ab z;have G:Below w0.heap.size w0 R:=ag (ag r g) H;go_wp2;go_roundw
     case rel=>exact⟨k+1,by omega,by go_num,z.out,G⟩
     simp[intOf];omega
  .obtain rfl:k=l.length:=by omega
   have D:cP key l nm=(⟨#[]⟩,false):=by
    rw[ah3 (k:=l.length) f.out,uO];rfl
   have u:=ab D;go_wp2;have q:=(a.bG 0 (.string ⟨#[]⟩)).bG 1 (.bool false);simp only[dj,ge,io] at q;have m:=q.cell;exact pb (v:=.agg #[.string ⟨#[]⟩,.bool false]) (by simp[results,results86,go_sem,m]) rfl ⟨_,rfl,by rw[u.out],(d.setCell (by simp) _).setCell (by simp) _⟩
def xF:eT cP:=λ_ w a A n c l nm g e j b i f d=>by
 subst j;exact an7 w a A c l nm g e b i (PkL.of f) d
def xv(key nm:Int):cP key [] nm=(⟨#[]⟩,false):=rfl
end
section
variable {β:Bool}
open Go.RowKit
def Typed(w:World)(T:List TypeId)(b:Nat):Prop:=∃t∈T,∃a,bg w b t a
structure dL {α:Type} (E:gG α) (T:List TypeId):Prop where
 go:∀{w w':World} {lo hi fI hi':Nat} {x:α} {cs:List Value},
  (∀b,lo<=b->b<hi->Typed w T b->w'.heap[b]?=w.heap[b]?)->fI<=lo->hi<=hi'->E w lo hi x cs->E w' fI hi' x cs
section
variable {α:Type} {E:gG α} {T:List TypeId}
def dL.loc(d:dL E T):Lcy E:=⟨λh a c e=>d.go (λb a c _=>h b a c) a c e⟩
def dL.more(d:dL E T)(f:∀t∈T,t∈U):dL E U:=⟨λh c a e=>d.go (λb c a ⟨t,ht,hd⟩=>h b c a ⟨t,f t ht,hd⟩) c a e⟩
def dL.below(a:dL E T){B : Nat}{x:α}(h:E w Z hi x cs)(c:Below B w w')(b:hi<=B):E w' Z hi x cs:=a.loc.below h c b
def dL.wide(a:dL E T){x:α}(h:E w Z hi x cs)(c:fI<=Z)(b:hi<=hi'):E w fI hi' x cs:=a.loc.wide h c b
def cI{t : TypeId}{cs c:Array Value}(h:bg w b t cs)(a:bg w b e c):t=e:=by
 unfold bg at h a;rw[h] at a;simp at a;exact a.2
def dL.fE(c:dL E T){x:α}(h:E w Z hi x cs)(i:bj S w w')(f:∀b,Z<=b->b<hi->Typed w T b->¬S b):E w' Z hi x cs:=
 c.go (λb g e a=>i.block b (by obtain⟨_,_,_,d⟩:=a;exact d.lt) (f b g e a)) (am _) (am _) h
def bV.ar{α:Type}(F:Flat α):dL (bV F) []:=⟨λ_ _ _ h=>h⟩
def nj.ar:dL nj []:=⟨λ_ _ _ h=>h⟩
def eI(e:TypeId)(E:gG α)(sz:Nat):gG (List α):=λw i j f d=>
 bD E sz w i j f d/\(0<f.length->∀b a n c,d=[.slice (some ⟨b,a,none⟩) n c]->∃g,bg w b e g)
def eI.ar(F:dL E T)  :dL (eI e E Z) (e::T):=by
 refine⟨?_⟩;intro w M S Q R l P O s o v ⟨⟨A,c,a,D,K,h⟩,p⟩;refine⟨⟨A,c,a,D,K,λm=> ?_⟩,λm b f n N r=> ?_⟩
 .obtain⟨b,f,rfl,k,g,J⟩:=h m;have q:=p m b f _ _ a;refine⟨b,f,rfl,ap o k,bd g v,λi x l=> ?_⟩;obtain⟨H,G,L,d⟩:=J i x l;exact⟨H,G,F.go (λb k g ⟨t,p,hd⟩=>s b k g ⟨t,qV _ p,hd⟩) o v L,λj u I=>(qy (s b k g ⟨e,qC,q⟩)).trans (d j u I)⟩
 .obtain⟨B,C,z,k,g,_⟩:=h m;rw[a,z] at r;simp only[ql,oE,lP,qB,qx] at r;obtain⟨⟨rfl,rfl⟩,_,_⟩:=r;have q:=p m B C _ _ (a.trans (by rw[z]));obtain⟨y,hd⟩:=q;exact⟨y,(s B k g ⟨e,qC,y,hd⟩).trans hd⟩
def eI.form{xs:List α}(h:eI e E Z w X hi xs [v]):∃A c,v=.slice A xs.length c:=h.1.form
def eI.nil(e:TypeId)(E:gG α)(a:Nat)(w:World)(b hi:Nat):eI e E a w b hi [] [.slice none 0 0]:=
 ⟨⟨none,0,rfl,am _,eg _,λh=>absurd h (by simp)⟩,λh=>absurd h (by simp)⟩
def iI(E:gG α)(sz:Nat)(e:TypeId)(w:World)(lo base:Nat)(v:Value)(xs:List α):Prop:=
 ∃cells:List Value,w.ownsRow base e sz v xs.length cells/\(∀u∈cells,u.oneCell'=true)/\
  ∀i x,xs[i]?=some x->∃a:List Value,a.length=sz/\E w lo w.heap.size x a/\∀j u,a[j]?=some u->cells[i*sz+j]?=some u
variable {sz:Nat} {e:TypeId}
def iI.form{base : Nat}{xs:List α}(h:iI E sz e w Z base v xs):∃A c,v=.slice A xs.length c:=by
 obtain⟨cells,h,_⟩:=h;exact iv h
def iI.at_{base : Nat}{xs:List α}(h:iI E sz e w Z base v xs)(a:v.ownBlock=some g):base<=g/\g<w.heap.size:=by
 obtain⟨cells,h,_⟩:=h;exact h.lt g a
def iI.blk{base : Nat}{xs:List α}(h:iI E sz e w Z base v xs)(a:v.ownBlock=some g):∃d,bg w g e d:=by
 obtain⟨cells,h,_⟩:=h;rcases h.2 with⟨rfl,_⟩|⟨f,cap,b,rfl,_,c,_⟩
 .cases a
 .cases a;exact⟨_,c⟩
def iI.ajv{base : Nat}(h:eG base e v w):iI E sz e w Z base v []:=⟨[],h.own sz,λ_ h=>(by cases h),λi x h=>(by simp at h)⟩
def iI.sl{base : Nat}{xs:List α}(h:iI E sz e w Z base v xs)(m:Z<=base):eI e E sz w Z w.heap.size xs [v]:=by
 have K:=λg t=>h.blk (g:=g) t;obtain⟨cells,p,_,s⟩:=h;refine⟨?_,λB b C n c q=> ?_⟩
 .obtain⟨L,G⟩:=p;rcases G with⟨rfl,a⟩|⟨g,cap,d,rfl,l,r,o,k,H,z⟩
  .exact⟨none,0,by rw[a],by omega,by unfold maxLen;omega,λB=>by omega⟩
  .refine⟨_,cap,rfl,o,k,λ_=>⟨g,0,rfl,ap m l,(dl.1 r).1,λi x I=> ?_⟩⟩;obtain⟨D,m,J,A⟩:=s i x I;refine⟨D,m,J,λj u F=> ?_⟩;have f:=A j u F;rw[<-z,qE] at f;split at f
   .rw[cell_of_row w g (0+i*sz+j) d _ (0,0) r,mc];simpa using f
   .cases f
 .simp only[ql,qx] at q;subst q;rcases p.2 with⟨a,_⟩|⟨g,cap,d,a,_,y,_⟩
  .cases a
  .cases a;exact⟨_,y⟩
def iI.fE(f:dL E T){base : Nat}{xs:List α}(h:iI E sz e w Z base v xs)(d:bj S w w')(o:∀b,v.ownBlock=some b->¬S b)(p:∀b,Z<=b->Typed w T b->¬S b):iI E sz e w' Z base v xs:=by
 obtain⟨cells,q,k,g⟩:=h;refine⟨cells,aeg q d o,k,λi x n=> ?_⟩;obtain⟨j,a,b,c⟩:=g i x n;exact⟨j,a,f.wide (f.fE b d λb l _ m=>p b l m) (am _) d.size,c⟩
def iI.below(a:dL E T){base : Nat}{xs:List α}(h:iI E sz e w Z base v xs)(b:Below w.heap.size w w'):iI E sz e w' Z base v xs:=
 h.fE a (bj.aN (S:=λ_=>False) b) (λ_ _ h=>h) λ_ _ _ h=>h
def aJ.deep{α:Type}{F:Flat α}{base:Nat}{xs:List α}(h:aJ F e w base v xs)(b:∀x∈xs,F.good x)(d:Nat):iI (bV F) F.sz e w d base v xs:=
 ⟨_,h,aax F xs,λi x a=>⟨F.cells x,F.len x,⟨rfl,b x (db a)⟩,λ_ _ c=>eE F xs i _ x _ a c⟩⟩
end
section
variable {P:Program} {α:Type} {E:gG α} {T:List TypeId} {sz:Nat} {e:TypeId}
def ajP (M:dL E T) (F:e∉T)  {rest:List Oper} {o:Oper} {a:Act} (B:o.guard=none) (s x:Operand) (t:TypeId)
  (ho:o.op=.call ⟨.builtin .append,#[s,x],#[t,t]⟩)
  (C:iu P t e sz Z) {base : Nat} {xs:List α} (y:α) (hs:a.eval s=v) (c:iI E sz e w X base v xs) {es:Array Value} {W:TypeId} (hx:a.eval x=.slice (some ⟨w.heap.size,0,none⟩) 1 1) (p:es.toList.length=sz) (L:∀u∈es.toList,u.oneCell'=true) (hy:E w X w.heap.size y es.toList)
  (hn:xs.length<=1099511627775) (k:base<=w.heap.size)
  (h:∀n f,iI E sz e f X base n (xs++[y])->bj (λb=>v.ownBlock=some b) w f->(∀b,n.ownBlock=some b->v.ownBlock=some b\/w.heap.size<=b)->wpList P V Q rest (a.put o.dst n) f) :
  wpList P V Q (o::rest) a (w.alloc (.cells es W)):=by
 have D:=λg U=>c.blk (g:=g) U;obtain⟨cells,c,R,O⟩:=c;have jb:cells.length=xs.length*sz:=c.1;refine anP B s x t ho C hs c hx (by rw[<-qS,p]) L hn k λn f q=>h n f ⟨cells++es.toList, ?_, ?_, ?_⟩ q.fE q.at_
 .have:=q.own;rw[aE];exact this
 .intro u d;rcases mx.1 d with d|d
  .exact R u d
  .exact L u d
 .have K:∀{z:α} {r:List Value},E w X w.heap.size z r->E f X f.heap.size z r:=λH=>
   M.wide (M.fE H q.fE λb _ _ ⟨t',ht',ds,hd⟩ he=>by
    obtain⟨Y,J⟩:=D b he;exact F (cI J hd▸ht')) (am _) q.fE.size
  intro i z l;rcases pm i xs.length with m|N
  .rw[qv m] at l;obtain⟨r,G,H,I⟩:=O i z l;refine⟨r,G,K H,λj u d=> ?_⟩;have hj:=aB d;have S:(i+1)*sz<=xs.length*sz:=qP _ m;rw[rv] at S;rw[qv (by omega)];exact I j u d
  .rw[qp N] at l;have:i-xs.length=0:=by have:=aB l;simp at this;omega
   rw[this] at l;simp at l;subst l;have A:i=xs.length:=by omega
   refine⟨es.toList,p,K hy,λj u d=> ?_⟩;rw[A,qp (by omega),jb,rX];exact d
end
section
variable {α:Type} {E:gG α}
def aff(b o i:Nat):(⟨b,o,none⟩:Addr).add i=⟨b,o+i,none⟩:=by unfold Addr.add;split<;>simp_all
def eI.an8{xs:List α}(h:eI e E Z w X hi xs [.slice A n c])(H:k<=xs.length):eI e E Z w X hi (xs.drop k) [.slice (if c=k then A else A.map λx=>x.add (k*Z)) (xs.length-k) (c-k)]:=by
 obtain⟨⟨A',s,o,I,J,r⟩,t⟩:=h;simp only[ql,oE,qx] at o;obtain⟨rfl,rfl,rfl⟩:=o;refine⟨⟨_,c-k,by rw[qj],by rw[qj];omega,by omega,λm=> ?_⟩,λm b g G s l=> ?_⟩
 .rw[qj] at m;have d:¬c=k:=by omega
  have a:0<xs.length:=by omega
  obtain⟨b,g,rfl,q,p,f⟩:=r a;refine⟨b,g+k*Z,by rw[be d];simp[Addr.add],q,p,λi x hi=> ?_⟩;rw[tE] at hi;obtain⟨B,D,y,z⟩:=f _ _ hi;refine⟨B,D,y,λj u F=> ?_⟩;have:=z j u F;rw[<-this,Nat.add_mul]
  congr 2
  omega
 .rw[qj] at m;have d:¬c=k:=by omega
  have a:0<xs.length:=by omega
  obtain⟨C,v,rfl,q,p,f⟩:=r a;rw[be d] at l;simp only[qu,aff,ql,oE,lP,qB,qx] at l;obtain⟨⟨rfl,_⟩,_⟩:=l;exact t a C v _ _ rfl
def eI.agI{xs:List α}(h:eI e E Z w X hi xs [.slice A n c])(u:k<=xs.length):eI e E Z w X hi (xs.take k) [.slice A k c]:=by
 obtain⟨⟨A',o,j,v,s,r⟩,p⟩:=h;simp only[ql,oE,qx] at j;obtain⟨rfl,rfl,rfl⟩:=j;have d:(xs.take k).length=k:=by rw[ef];omega
 refine⟨⟨_,c,by rw[d],by rw[d];omega,s,λg=> ?_⟩,λg b a t o l=> ?_⟩
 .rw[d] at g;obtain⟨b,a,rfl,q,m,f⟩:=r (by omega);refine⟨b,a,rfl,q,m,λi x hi=> ?_⟩;rw[qE] at hi;split at hi
  .exact f _ _ hi
  .cases hi
 .rw[d] at g;simp only[ql,oE,qx] at l;obtain⟨rfl,rfl,rfl⟩:=l;exact p (by omega) b a _ _ rfl
end
def acB{base : Nat}{xs:List Y}{cs:Array Value}(c:bg w g e cs)(a:cs.toList=dA F xs)(f:base<=g)(i:n=xs.length)(b:n<=maxLen):aJ F e w base (.slice (some ⟨g,0,none⟩) n n) xs:=by
 subst i;have d:cs.toList.length=xs.length*F.sz:=by rw[a,dU]
 exact⟨dU F xs,.inr ⟨g,xs.length,cs,rfl,f,c,am _,b,by rw[<-qS];exact d,by rw[a,pu (by rw[dU];exact am _)]⟩⟩
end
section
variable {β:Bool}
structure Sp where
 n:Int
 p:Int
def ad5(l:List Sp):Prop:=l.Pairwise λa b=>a.n<b.n
def spP(s:Sp):Prop:=(0<=s.n/\s.n<=999999999988)/\(1<=s.p/\s.p<=99)
def ixP(l:List Sp):Prop:=(∀s∈l,spP s)/\ad5 l
def fW(s:Sp):List Sp->List Sp
 |[]=>[s]
 |x::xs=>if s.n<x.n then s::x::xs else if x.n<s.n then x::fW s xs else s::xs
def acC{s x:Sp}:∀{l:List Sp},x∈fW s l->x=s\/x∈l
 |[],h=>by have:x∈[s]:=h;simp at this;exact .inl this
 |y::l,h=>by
  have a:x∈(if s.n<y.n then s::y::l else if y.n<s.n then y::fW s l else s::l):=h;split at a
  .rcases mu.1 a with e|e
   .exact .inl e
   .exact .inr e
  .split at a
   .rcases mu.1 a with e|e
    .exact .inr (by rw[e];simp)
    .rcases acC e with e|e
     .exact .inl e
     .exact .inr (by simp[e])
   .rcases mu.1 a with e|e
    .exact .inl e
    .exact .inr (by simp[e])
def avu{s:Sp}:∀{l:List Sp},s∈fW s l
 |[]=>by show s∈[s];simp
 |y::l=>by
  show s∈(if s.n<y.n then s::y::l else if y.n<s.n then y::fW s l else s::l);split
  .simp
  .split
   .exact qV _ avu
   .simp
def afg{s:Sp}:∀{l:List Sp},ad5 l->ad5 (fW s l)
 |[],_=>tw _ _
 |y::l,h=>by
  have c:=sN.1 h;show ad5 (if s.n<y.n then s::y::l else if y.n<s.n then y::fW s l else s::l);split
  .rename_i b;refine sN.2 ⟨λz a=> ?_,h⟩;rcases mu.1 a with rfl|a
   .exact b
   .have:=c.1 z a;omega
  .split
   .rename_i b;refine sN.2 ⟨λz a=> ?_,afg c.2⟩;rcases acC a with rfl|a
    .exact b
    .exact c.1 z a
   .refine sN.2 ⟨λz a=> ?_,c.2⟩;have:=c.1 z a;omega
def avv{s:Sp}{l:List Sp}(h:ixP l)(b:spP s):ixP (fW s l):=⟨λx a=>by
 rcases acC a with rfl|a
 .exact b
 .exact h.1 x a,afg h.2⟩
def afh{s:Sp}:∀{l:List Sp},(fW s l).length<=l.length+1
 |[]=>by show[s].length<=_;simp
 |y::l=>by
  show(if s.n<y.n then s::y::l else if y.n<s.n then y::fW s l else s::l).length<=_;split
  .simp
  .split
   .have:=afh (s:=s) (l:=l);simp;omega
   .simp
def acD{s:Sp}:∀{a b:List Sp},(∀x∈a,x.n<s.n)->fW s (a++b)=a++fW s b
 |[],_,_=>rfl
 |x::a,b,h=>by
  have d:=h x (by simp);show(if s.n<x.n then s::x::(a++b) else if x.n<s.n then x::fW s (a++b) else s::(a++b))=x::(a++fW s b);rw[be (by omega),du d,acD λy c=>h y (by simp[c])]
def agJ{s x:Sp}(c:s.n<x.n):∀{a b:List Sp},fW s (a++x::b)=fW s a++x::b
 |[],b=>by
  show(if s.n<x.n then s::x::b else _)=[s]++x::b;rw[du c];rfl
 |y::a,b=>by
  show(if s.n<y.n then s::y::(a++x::b) else if y.n<s.n then y::fW s (a++x::b) else s::(a++x::b))=(if s.n<y.n then s::y::a else if y.n<s.n then y::fW s a else s::a)++x::b;split
  .rfl
  .split
   .rw[agJ c];rfl
   .rfl
inductive Tr where
 |nil
 |node (b:Nat) (s:Sp) (l r:Tr)
namespace Tr
end Tr
def eJ:List Sp->List Sp->List Sp
 |[],l=>l
 |s::ss,l=>eJ ss (fW s l)
def acE:∀(a b l:List Sp),eJ (a++b) l=eJ b (eJ a l)
 |[],_,_=>rfl
 |s::a,b,l=>acE a b (fW s l)
def agK:∀{a l:List Sp},ad5 l->ad5 (eJ a l)
 |[],_,h=>h
 |s::a,l,h=>by show ad5 (eJ a (fW s l));exact agK (afg h)
def ajQ:∀{a l:List Sp},ixP l->(∀s∈a,spP s)->ixP (eJ a l)
 |[],_,h,_=>h
 |s::a,l,h,hs=>by show ixP (eJ a (fW s l));exact ajQ (avv h (hs s (by simp))) λx b=>hs x (by simp[b])
def agL:∀{a l:List Sp},(eJ a l).length<=a.length+l.length
 |[],_=>by show _<=_;simp[eJ]
 |s::a,l=>by
  have b:=agL (a:=a) (l:=fW s l);have c:=afh (s:=s) (l:=l);show(eJ a (fW s l)).length<=_;simp only[fi];omega
def apy{s:Sp}{l:List Sp}(h:∀x∈l,x.n<s.n):fW s l=l++[s]:=by
 have:=acD (s:=s) (a:=l) (b:=[]) h;rw[su] at this;rw[this];rfl
def eK(n:Int):List Sp->Int
 |[]=>0
 |x::xs=>if x.n=n then x.p else eK n xs
def adh{s:Sp}{n:Int}:∀{l:List Sp},eK n (fW s l)=if s.n=n then s.p else eK n l
 |[]=>by show(if s.n=n then s.p else 0)=_;rfl
 |x::l=>by
  show eK n (if s.n<x.n then s::x::l else if x.n<s.n then x::fW s l else s::l)=_;split
  .rfl
  .split
   .show(if x.n=n then x.p else eK n (fW s l))=(if s.n=n then s.p else(if x.n=n then x.p else eK n l));rw[adh];split
    .rw[be (by omega)]
    .rfl
   .show(if s.n=n then s.p else eK n l)=(if s.n=n then s.p else(if x.n=n then x.p else eK n l));split
    .rfl
    .rw[be (by omega)]
end
section
variable {β:Bool}
open Go.RowKit
structure dh (w:World) (s:Nat) (ty:TypeId) (S:Nat->Prop) (pre:List Nat) where
 to:World
 done:Bool
 ok:bj (λb=>done=true/\S b) w to
section
variable {w:World} {s:Nat} {ty:TypeId} {S:Nat->Prop} {pre:List Nat}
instance atW:Nonempty (dh w s ty S pre):=⟨⟨w,false,bj.refl _ _⟩⟩
instance axi:bm (dh w s ty S pre):=⟨λ_ _=>True,λ_ _ _=>trivial,λi x=>i=s\/i∈pre->x.done=false⟩
def dh.le(x y:dh w s ty S pre):Prop:=
 (y.done=x.done/\Below x.to.heap.size x.to y.to)\/(x.done=false/\y.done=true/\bj (λb=>S b\/(w.heap.size<=b/\∃a:Array Value,bg x.to b ty a)) x.to y.to)
def dh.le_refl(x:dh w s ty S pre):dh.le x x:=.inl ⟨rfl,fd _ _⟩
def dh.le.from_{x y:dh w s ty S pre}(h:dh.le x y)(b:x.done=true):y.done=true/\Below x.to.heap.size x.to y.to:=by
 rcases h with⟨a,c⟩|⟨a,_⟩
 .exact⟨a.trans b,c⟩
 .rw[b] at a;cases a
def abz{p:Addr}(h:w.cell? p=some v)(b:¬S p.block):∀x:dh w s ty S pre,x.to.cell? p=some v:=λx=>by
 have a:=ut w p h;unfold World.cell? at h ⊢;rw[x.ok.block p.block a λh=>b h.2];exact h
def dh.till(x:dh w s ty S pre)(a:x.done=false):Below w.heap.size w x.to:=⟨x.ok.os,x.ok.tape,x.ok.output,x.ok.size,λb c=>x.ok.block b c λh=>by rw[a] at h;cases h.1⟩
def dh.did(x:dh w s ty S pre){w2:World}(hc:bj (λb=>S b\/(w.heap.size<=b/\∃a:Array Value,bg x.to b ty a)) x.to w2):dh w s ty S pre:=
 ⟨w2,true,(x.ok.mono (T:=λb=>true=true/\S b) λ_ _ h=>⟨rfl,h.2⟩).trans hc λb c h=>by
  rcases h with h|h
  .exact⟨rfl,h⟩
  .omega⟩
def amb    {a:Act} (s:Nat) (ty:TypeId) (S:Nat->Prop) (pre:List Nat) (n:Nat) (b c:List Nat) (g:P.follows .mixedOrders=true) (j:ajs T n b c=true) (d:aeV T.toArray n a.tmps.size=true)
  (h:wpQuiet P T.toArray (λe=>∃x:dh w s ty S pre,e=x.to) (λi=>∃f:List (jl (dh w s ty S pre)),dg P T.toArray (dh.to (w:=w)) (dh.le (w:=w)) (wpList P T.toArray Q (T.drop n)) (pick T c) [] f i) ((pick T b).map (·.2)) a):(Code.region Z T.toArray true).wp P Q a w:=
 abr (dh.to (w:=w)) (dh.le (w:=w)) dh.le_refl n b c g j d ⟨w.drew,false,(bj.refl _ _).drew⟩ (λ_ _=>trivial) (λ_ _ _=>rfl) rfl h
variable {P:Program} {ops:Array Oper} {Qt:Act->World->Prop} {i:Nat} {o:Oper} {L:List (Nat×Oper)} {F:List (Nat×(dh w s ty S pre->Prop))} {Rs:List (jl (dh w s ty S pre))} {a:Act}
def ayL (R:Value->dh w s ty S pre->Prop) (m:o.dst.isSome=true) (hi':i=s) (f:∀j∈pre,Behind ops i j) (q:∀v x y,R v x->dh.le x y->R v y)
  (A:∀x:dh w s ty S pre,aco F o x->x.done=false->∀c:Exit->Act->World->Prop,(∀v k (d:bj (λb=>S b\/(w.heap.size<=b/\∃z:Array Value,bg x.to b ty z)) x.to k),R v (x.did d)->c .normal (a.put o.dst v) k)->wpList P ops c [o] a x.to)
  (n:∀v,dg P ops (dh.to (w:=w)) (dh.le (w:=w)) Qt L ((i,λx=>R v x)::F) Rs (a.put o.dst v)):dg P ops (dh.to (w:=w)) (dh.le (w:=w)) Qt ((i,o)::L) F (.any R::Rs) a:=
 mR (to:=dh.to (w:=w)) (le:=dh.le (w:=w)) R (.inl m) q (λx t _ _ l c r=>A x t (l (.inl hi')) c λv k d p=>
  r v (x.did d) (.inr ⟨l (.inl hi'),rfl,d⟩) trivial (λj u g _ e=>e.elim (λe=>absurd (e.trans hi'.symm) u) λe=>absurd (f j e) g) p) n
def ayM(h:∀x:dh w s ty S pre,dQ F x->Qt a x.to):dg P ops (dh.to (w:=w)) (dh.le (w:=w)) Qt [] F [] a:=ahP h
end
end
section
variable {β:Bool}
open Go.RowKit
structure an9 (w:World) (amc:List Nat) (fl:Nat->Bool) (ty:TypeId) (S:Nat->Prop) where
 to:World
 st:Nat
 ok:bj (λb=>0<st/\S b) w to
 lim:st<=amc.length
section
variable {w:World} {amc:List Nat} {fl:Nat->Bool} {ty:TypeId} {S:Nat->Prop}
instance atX:Nonempty (an9 w amc fl ty S):=⟨⟨w,0,bj.refl _ _,eg _⟩⟩
instance axj:bm (an9 w amc fl ty S):=⟨λ_ _=>True,λ_ _ _=>trivial,λi x=>∀k,amc[k]?=some i->x.st<=k⟩
variable {P:Program} {ops:Array Oper} {Qt:Act->World->Prop} {i:Nat} {o:Oper} {L:List (Nat×Oper)} {F:List (Nat×(an9 w amc fl ty S->Prop))} {Rs:List (jl (an9 w amc fl ty S))} {a:Act}
end
end
section
variable {β:Bool}
open Go.RowKit
def FSp:Flat Sp:=⟨2,λs=>[.int .i64 s.n,.int .i64 s.p],λx=>cf x.n/\cf x.p,λ_=>rfl,λx u a=>by simp at a;rcases a with rfl|rfl<;>rfl,by decide⟩
def aaA:iu (ah β) 107 153 2 16:=iu.mk' yB (z:=.agg #[.int .i64 0,.int .i64 0]) (by kernel_rfl) rfl (by decide) (by decide)
end
section
variable {β:Bool}
open Go.RowKit
abbrev RSp:gG Sp:=bV FSp
def RSp.loc:Lcy RSp:=bV.loc FSp
def axk{xs:List Sp}(h:bD RSp 2 w Z hi xs [.slice A n c]){x:Sp}(g:xs[k]?=some x) :
  ∃b a,A=some ⟨b,a,none⟩/\Z<=b/\b<hi/\(cf x.n/\cf x.p)/\w.cell? ⟨b,a+k*2,none⟩=some (.int .i64 x.n)/\w.cell? ⟨b,a+k*2+1,none⟩=some (.int .i64 x.p):=by
 obtain⟨b,a,l,rfl,i,f,j,⟨rfl,d⟩,e⟩:=h.at_ g;exact⟨b,a,rfl,i,f,d,by simpa using e 0 _ rfl,e 1 _ rfl⟩
def asm:ixP []:=⟨λx h=>(by cases h),List.Pairwise.nil⟩
def ah4(n a hi:Int)(w:World)(b:Bool)(d:b=true↔a<=n/\n<=hi) :
  Calls (ah β) 22 #[.int .i64 n,.int .i64 a,.int .i64 hi] w λe c=>e=.returned (.bool b)/\w=c:=
 (lS n a hi w).mono λe c ⟨h,hw⟩=>⟨by
  rw[h];have:(decide (a<=n)&&decide (n<=hi))=b:=by rw[rc,d];simp
  rw[this],hw⟩
def amd(s:Sp)(w:World)(b:Bool)(c:b=true↔spP s) :
  Calls (ah β) 101 #[.agg #[.int .i64 s.n,.int .i64 s.p]] w λe g=>e=.returned (.bool b)/\Below w.heap.size w g:=by
 replace c:=ab c;have f:=av w (.cells #[.int .i64 s.n,.int .i64 s.p] 153);go_enter zm,ntmps101;by_cases a:0<=s.n/\s.n<=999999999988
 .go_wp2;refine(ah4 s.n _ _ _ true (by simp only[tJ];exact a)).mono ?_;rintro e d ⟨rfl,rfl⟩;replace a:=ab a;go_wp2;refine(ah4 s.p _ _ _ b (by rw[c.out];exact⟨λh=>h.2,λh=>⟨a.out,h⟩⟩)).mono ?_;rintro e d ⟨rfl,rfl⟩;go_wp2;go_ret;exact⟨rfl,f⟩
 .go_wp2;refine(ah4 s.n _ _ _ false (by simp only[li,uR];exact a)).mono ?_;rintro e d ⟨rfl,rfl⟩;replace a:=ab a;go_wp2;go_ret;exact⟨aD (by rw[eq_comm,<-nf,c.out];exact λh=>a.out h.1),f⟩
end
section
variable {β:Bool}
open Go.RowKit
def oZ(s:Sp)(xs:List Sp)(put:Bool)(o:List Sp):Prop:=
 (put=false/\(∀x∈xs,x.n<s.n)/\o=xs)\/(put=true/\(∃x∈xs,s.n<=x.n)/\o=fW s xs)
def apz(s:Sp):oZ s [] false []:=.inl ⟨rfl,λx a=>(by cases a),rfl⟩
def apA{s x:Sp}{xs o:List Sp}(h:oZ s xs false o)(a:s.n<x.n):oZ s (xs++[x]) true (o++[s]++[x]):=by
 rcases h with⟨_,h,rfl⟩|⟨h,_⟩
 .refine .inr ⟨rfl,⟨x,by simp,by omega⟩, ?_⟩;rw[acD h];show _=o++(if s.n<x.n then s::x::[] else _);rw[du a];simp
 .cases h
def ame{s x:Sp}{xs o:List Sp}(h:oZ s xs false o)(a:x.n=s.n):oZ s (xs++[x]) true (o++[s]):=by
 rcases h with⟨_,h,rfl⟩|⟨h,_⟩
 .refine .inr ⟨rfl,⟨x,by simp,by omega⟩, ?_⟩;rw[acD h];show _=o++(if s.n<x.n then s::x::[] else if x.n<s.n then x::fW s [] else s::[]);rw[be (by omega),be (by omega)]
 .cases h
def amf{s x:Sp}{xs o:List Sp}(h:oZ s xs false o)(b:x.n<s.n):oZ s (xs++[x]) false (o++[x]):=by
 rcases h with⟨_,h,rfl⟩|⟨h,_⟩
 .refine .inl ⟨rfl,λy a=> ?_,rfl⟩;rcases mx.1 a with a|a
  .exact h y a
  .rw[mw.1 a];exact b
 .cases h
def amg{s x:Sp}{xs o:List Sp}(h:oZ s xs true o)(b:ad5 (xs++[x])):s.n<x.n/\oZ s (xs++[x]) true (o++[x]):=by
 rcases h with⟨h,_⟩|⟨_,⟨y,a,c⟩,rfl⟩
 .cases h
 .have:=(tW.1 b).2.2 y a x (by simp);refine⟨by omega,.inr ⟨rfl,⟨y,by simp[a],c⟩, ?_⟩⟩;rw[show xs++[x]=xs++x::[] from rfl,agJ (by omega)]
def apB{s:Sp}{xs o:List Sp}{a:Bool}(h:oZ s xs a o):(a=false/\fW s xs=o++[s])\/(a=true/\fW s xs=o):=by
 rcases h with⟨h,b,rfl⟩|⟨h,_,rfl⟩
 .exact .inl ⟨h,apy b⟩
 .exact .inr ⟨h,rfl⟩
def jK{s:Sp}{xs o:List Sp}{a:Bool}(h:oZ s xs a o):o.length<=xs.length+1:=by
 rcases h with⟨_,_,rfl⟩|⟨_,_,rfl⟩
 .omega
 .exact afh
def asn{xs:List Sp}(h:ad5 xs)(k:Nat):ad5 (xs.take k):=List.Pairwise.sublist (List.take_sublist k xs) h
def axl(w:World)(ys:List Sp)(e:Ending)(w':World):Prop:=∃v,e=.returned v/\aJ FSp 153 w' w.heap.size v ys/\Below w.heap.size w w'
def js{p:Addr}(h:w.cell? p=some v)(c:bj S w w')(b:¬S p.block):w'.cell? p=some v:=by
 have a:=ut w p h;unfold World.cell? at h ⊢;rw[c.block p.block a b];exact h
def apC(s:Sp)(aa:cf s.n/\cf s.p)(xs:List Sp)(v:Value)(w:World)(lo hi:Nat)(aV:hi<=w.heap.size)(h:bD RSp 2 w lo hi xs [v])(Y:ad5 xs)(hl:xs.length<=1000000000) :
  Calls (ah β) 102 #[v,.agg #[.int .i64 s.n,.int .i64 s.p]] w (axl w (fW s xs)):=by
 obtain⟨A,c,rfl⟩:=h.form;obtain⟨_,hc,S⟩:=h.len_;unfold maxLen at S;go_enter zl,ntmps102;go_wp2;generalize hG:(w.alloc (.cells #[.int .i64 s.n,.int .i64 s.p] 153)).alloc (.cells #[] 153)=w0 at *;obtain⟨Q,jo,N,dn,eQ,k1,dG,eD⟩:=pW hG;have G:w.heap.size+1<=w0.heap.size:=by omega
 have g0:=anV RSp.loc h Q aV;have o0:aJ FSp 153 w0 (w.heap.size+1) (.slice (some ⟨w.heap.size+1,0,none⟩) 0 0) []:=aJ.ajv ⟨_,rfl,am _,k1⟩;have a4:∀k,k<xs.length->∃x,xs[k]?=some x/\(k=0\/True):=λk hk=>by
  obtain⟨x,S⟩:=aq hk;exact⟨x,S,.inr trivial⟩
 go_loopw [5,6,7] (λoo pp ii wr=>∃(k:Nat) (b:Bool) (o:List Sp),k<=xs.length/\pp=.bool b/\ii=.int .i64 k/\aJ FSp 153 wr (w.heap.size+1) oo o/\oZ s (xs.take k) b o/\bj (λb=>w.heap.size+1<=b) w0 wr) (λoo pp ii _=>xs.length-(intOf ii).toNat)
 case atStart=>exact⟨0,false,[],eg _,rfl,rfl,o0,apz s,bj.refl _ _⟩
 case round=>
  obtain⟨k,b,o,hk,rfl,rfl,u,e,j⟩:=hrel;replace e:=ab e;obtain⟨p,q,rfl⟩:=u.form;have W:=jK e.out;rw[ef] at W;by_cases V:k<xs.length
  .obtain⟨x,y⟩:=aq V;obtain⟨b1,a5,rfl,a8,a6,a7,D,E⟩:=axk g0 y;have z:ad5 (xs.take k++[x]):=by rw[<-kw y];exact asn Y _
   replace y:=ab y;replace z:=ab z;have dn:=(aP N j (by omega)).cell;have X:=js D j (by dsimp only;omega);have a9:=js E j (by dsimp only;omega);cases b with
   |false=>
    rcases Int.lt_trichotomy x.n s.n with g|g|g
    .have B:=ab (amf e.out g);have t1:=da (show ¬(s.n<=x.n) by omega);have U:(x.n !=s.n)=true:=by rw[rS];omega
     go_wp2
     go_quiet (fail)
     revert nq;intro d;go_wp2
     go_quiet (fail)
     have m:aJ FSp 153 (wr.drewN (d+nq)) (w.heap.size+1) (.slice p o.length q) o:=u;go_wp2_with(at_builtin;refine cx (F:=FSp) (v:=.slice p o.length q) rfl (.tmp 39) (.tmp 44) 107 rfl aaA x rfl m rfl rfl (by have:=jK e.out;rw[ef] at this;first|omega|(simp;omega)) (ap G ((j.drewN (d+nq))).size) ?_;intro M K f r n;obtain⟨H,I,rfl⟩:=f.form;simp only[aE,fi,mT,mc] at f;have a:=((j.drewN (d+nq))).trans (r.mono (T:=λb=>w.heap.size+1<=b) λb _ l=>((m).at_ l).1) λ_ _ h=>h;skip);go_roundw
     case rel=>exact⟨k+1,false,o++[x],by omega,rfl,by go_num,f,by rw[kw y.out];exact B.out,a⟩
     simp[intOf];omega
    .have B:=ab (ame e.out g);have t1:=dk (show s.n<=x.n by omega);have U:(x.n !=s.n)=false:=by rw[qJ];exact g
     go_wp2
     go_quiet (fail)
     revert nq;intro d;have m:aJ FSp 153 (wr.drewN d) (w.heap.size+1) (.slice p o.length q) o:=u;go_wp2_with(at_builtin;refine cx (F:=FSp) (v:=.slice p o.length q) rfl (.tmp 27) (.tmp 29) 107 rfl aaA s rfl m rfl rfl (by have:=jK e.out;rw[ef] at this;first|omega|(simp;omega)) (ap G ((j.drewN d)).size) ?_;intro M K f r n;obtain⟨H,I,rfl⟩:=f.form;simp only[aE,fi,mT,mc] at f;have a:=((j.drewN d)).trans (r.mono (T:=λb=>w.heap.size+1<=b) λb _ l=>((m).at_ l).1) λ_ _ h=>h;have O:=(aP N a (by omega)).cell;have R:=js D a (by dsimp only;omega);have Z:=js E a (by dsimp only;omega))
     go_quiet (fail)
     go_wp2;go_roundw
     case rel=>exact⟨k+1,true,o++[s],by omega,rfl,by go_num,f,by rw[kw y.out];exact B.out,a.drewN nq⟩
     simp[intOf];omega
    .have B:=ab (apA e.out g);have t1:=dk (show s.n<=x.n by omega);have U:(x.n !=s.n)=true:=by rw[rS];omega
     go_wp2
     go_quiet (fail)
     revert nq;intro d;have m:aJ FSp 153 (wr.drewN d) (w.heap.size+1) (.slice p o.length q) o:=u;go_wp2_with(at_builtin;refine cx (F:=FSp) (v:=.slice p o.length q) rfl (.tmp 27) (.tmp 29) 107 rfl aaA s rfl m rfl rfl (by have:=jK e.out;rw[ef] at this;first|omega|(simp;omega)) (ap G ((j.drewN d)).size) ?_;intro M K f r n;obtain⟨H,I,rfl⟩:=f.form;simp only[aE,fi,mT,mc] at f;have a:=((j.drewN d)).trans (r.mono (T:=λb=>w.heap.size+1<=b) λb _ l=>((m).at_ l).1) λ_ _ h=>h;have O:=(aP N a (by omega)).cell;have R:=js D a (by dsimp only;omega);have Z:=js E a (by dsimp only;omega))
     go_quiet (fail)
     have L:aJ FSp 153 (K.drewN nq) (w.heap.size+1) (.slice H (o.length+1) I) (o++[s]):=f;go_wp2_with(at_builtin;refine cx (F:=FSp) (v:=.slice H (o.length+1) I) rfl (.tmp 39) (.tmp 44) 107 rfl aaA x rfl L rfl rfl (by have:=jK e.out;rw[ef] at this;first|omega|(simp;omega)) (ap G ((a.drewN nq)).size) ?_;intro v4 w4 o4 P a3;obtain⟨A4,c4,rfl⟩:=o4.form;simp only[aE,fi,mT,mc] at o4;have a1:=((a.drewN nq)).trans (P.mono (T:=λb=>w.heap.size+1<=b) λb _ l=>((L).at_ l).1) λ_ _ h=>h;skip);go_roundw
     case rel=>exact⟨k+1,true,o++[s]++[x],by omega,rfl,by go_num,o4,by rw[kw y.out];exact B.out,a1⟩
     simp[intOf];omega
   |true=>
    obtain⟨g,a0⟩:=amg e.out z.out;have B:=ab a0;have U:(x.n !=s.n)=true:=by rw[rS];omega
    go_wp2
    go_quiet (fail)
    revert nq;intro d;go_wp2
    go_quiet (fail)
    have m:aJ FSp 153 (wr.drewN (d+nq)) (w.heap.size+1) (.slice p o.length q) o:=u;go_wp2_with(at_builtin;refine cx (F:=FSp) (v:=.slice p o.length q) rfl (.tmp 39) (.tmp 44) 107 rfl aaA x rfl m rfl rfl (by have:=jK e.out;rw[ef] at this;first|omega|(simp;omega)) (ap G ((j.drewN (d+nq))).size) ?_;intro M K f r n;obtain⟨H,I,rfl⟩:=f.form;simp only[aE,fi,mT,mc] at f;have a:=((j.drewN (d+nq))).trans (r.mono (T:=λb=>w.heap.size+1<=b) λb _ l=>((m).at_ l).1) λ_ _ h=>h;skip);go_roundw
    case rel=>exact⟨k+1,true,o++[x],by omega,rfl,by go_num,f,by rw[kw y.out];exact B.out,a⟩
    simp[intOf];omega
  .obtain rfl:k=xs.length:=by omega
   have t:=apB e.out;rw[gc] at t;have dn:=(aP N j (by omega)).cell;have J:∀{w9:World},bj (λb=>w.heap.size+1<=b) w0 w9->Below w.heap.size w w9:=λa2=>Q.trans (a2.below Q.size λi hi h=>by omega);rcases t with⟨rfl,C⟩|⟨rfl,C⟩
   .replace C:=ab C;go_wp2_with(at_builtin;refine cx (F:=FSp) (v:=.slice p o.length q) rfl (.tmp 48) (.tmp 50) 107 rfl aaA s rfl u rfl rfl (by have:=jK e.out;rw[ef] at this;first|omega|(simp;omega)) (ap G (j).size) ?_;intro M K f r n;obtain⟨H,I,rfl⟩:=f.form;simp only[aE,fi,mT,mc] at f;have a:=(j).trans (r.mono (T:=λb=>w.heap.size+1<=b) λb _ l=>((u).at_ l).1) λ_ _ h=>h;skip);go_ret;exact⟨_,rfl,by rw[C.out];exact f.base (by omega),J a⟩
   .replace C:=ab C;go_wp2;go_ret;exact⟨_,rfl,by rw[C.out];exact u.base (by omega),J j⟩
end
section
variable {β:Bool}
open Go.RowKit
structure It where
 n:Int
 b:ByteArray
structure Pk where
 no:Int
 its:List It
def nA:Flat It:=⟨2,λx=>[.int .i64 x.n,.string x.b],λx=>cf x.n/\x.b.size<=maxLen,λ_=>rfl,λx u a=>by simp at a;rcases a with rfl|rfl<;>rfl,by decide⟩
abbrev aaI:gG (List It):=eI 63 (bV nA) 2
def RPk:gG Pk:=λw a b x c=>∃v,c=[.int .i64 x.no,v]/\cf x.no/\aaI w a b x.its [v]
abbrev ajR:gG (List Pk):=eI 36 RPk 2
def aaI.ar:dL aaI [63]:=eI.ar (bV.ar nA)
def RPk.ar:dL RPk [63]:=⟨λh a b ⟨v,e,i,hr⟩=>⟨v,e,i,aaI.ar.go h a b hr⟩⟩
def ajR.ar:dL ajR [36,63]:=eI.ar RPk.ar
def oI:iu (ah β) 34 63 2 24:=iu.mk' xC (z:=.agg #[.int .i64 0,.string ⟨#[]⟩]) (by kernel_rfl) rfl (by decide) (by decide)
def aei:iu (ah β) 23 36 2 32:=iu.mk' xS (z:=.agg #[.int .i64 0,.slice none 0 0]) (by kernel_rfl) rfl (by decide) (by decide)
def aq7{xs:List Pk}(h:ajR w Z hi xs [.slice A n c]){x:Pk}(i:xs[k]?=some x) :
  ∃b a A' d,A=some ⟨b,a,none⟩/\Z<=b/\b<hi/\cf x.no/\w.cell? ⟨b,a+k*2,none⟩=some (.int .i64 x.no)/\w.cell? ⟨b,a+k*2+1,none⟩=some (.slice A' x.its.length d)/\aaI w Z hi x.its [.slice A' x.its.length d]:=by
 obtain⟨b,a,m,rfl,j,g,l,⟨v,rfl,e,hi⟩,f⟩:=h.1.at_ i;obtain⟨A',d,rfl⟩:=hi.form;exact⟨b,a,A',d,rfl,j,g,e,by simpa using f 0 _ rfl,f 1 _ rfl,hi⟩
def aso{xs:List It}(h:aaI w Z hi xs [.slice A n c]){x:It}(g:xs[k]?=some x) :
  ∃b a,A=some ⟨b,a,none⟩/\Z<=b/\b<hi/\(cf x.n/\x.b.size<=maxLen)/\w.cell? ⟨b,a+k*2,none⟩=some (.int .i64 x.n)/\w.cell? ⟨b,a+k*2+1,none⟩=some (.string x.b):=by
 obtain⟨b,a,l,rfl,i,f,j,⟨rfl,d⟩,e⟩:=h.1.at_ g;exact⟨b,a,rfl,i,f,d,by simpa using e 0 _ rfl,e 1 _ rfl⟩
def eI.len_{xs:List Y}(h:eI e E Z w X hi xs [.slice A n c]):n=xs.length/\n<=c/\c<=maxLen:=h.1.len_
def aaa(p:Pk):List Sp:=p.its.map λx=>⟨x.n,p.no⟩
def dw(l:List Pk):List Sp:=l.flatMap aaa
def IOf(l:List Pk)(r:List Sp):Prop:=((∀s∈dw l,spP s)/\r=eJ (dw l) [])\/((¬ ∀s∈dw l,spP s)/\r=[])
def ami{l:List Pk}{x:Pk}(h:l[k]?=some x):dw (l.take (k+1))=dw (l.take k)++aaa x:=by
 rw[kw h];unfold dw;rw[sb];simp
def cK(l:List Pk)(k j:Nat):List Sp:=dw (l.take k)++((l[k]?.map λp=>(aaa p).take j).getD [])
def acF(l:List Pk)(k:Nat):cK l k 0=dw (l.take k):=by
 unfold cK;cases l[k]?<;>simp
def ah6{l:List Pk}{x:Pk}{y:It}(h:l[k]?=some x)(a:x.its[j]?=some y):cK l k (j+1)=cK l k j++[⟨y.n,x.no⟩]:=by
 unfold cK;rw[h];simp only[qu,qw];rw[tc]
 congr 1
 refine kw (k:=j) ?_;unfold aaa;rw[qO,a];rfl
def ajS{l:List Pk}{x:Pk}(h:l[k]?=some x):cK l k x.its.length=dw (l.take (k+1)):=by
 rw[ami h];unfold cK;rw[h];simp only[qu,qw]
 congr 1
 unfold aaa;exact pu (by rw[qg];exact am _)
def ajT{l:List Pk} :∀s∈cK l k j,s∈dw l:=λs a=>by
 unfold cK at a;rcases mx.1 a with h|h
 .obtain⟨p,c,a⟩:=qo.1 h;exact qo.2 ⟨p,qf c,a⟩
 .cases b:l[k]? with
  |none=>rw[b] at h;cases h
  |some x=>
   rw[b] at h;exact qo.2 ⟨x,db b,qf h⟩
def ajU{l:List Pk}{x:Pk}(h:l[k]?=some x):(cK l k j).length<=(dw l).length:=by
 have a:dw l=dw (l.take k)++dw (l.drop k):=by
  unfold dw;rw[<-sb,sU]
 rw[a];unfold cK;rw[h,aE,aE];have:l.drop k=x::l.drop (k+1):=by
  rw[so (aB h)]
  congr 1
  exact(pi.1 h).2
 rw[this];unfold dw;rw[List.flatMap_cons,aE];simp only[qu,qw,ef];omega
def IOf.ix{l:List Pk}{r:List Sp}(h:IOf l r):ixP r:=by
 rcases h with⟨h,rfl⟩|⟨_,rfl⟩
 .exact ajQ asm h
 .exact asm
end
section
variable {β:Bool}
open Go.RowKit
section
variable {α:Type} {E:gG α} {T:List TypeId} {sz:Nat} {e:TypeId}
def Els(E:gG α)(sz:Nat)(w:World)(lo hi:Nat)(xs:List α)(cells:List Value):Prop:=
 cells.length=xs.length*sz/\(∀u∈cells,u.oneCell'=true)/\∃m:Nat->Nat,(∀i,m i<=m (i+1))/\lo<=m 0/\m xs.length<=hi/\
  ∀i x,xs[i]?=some x->∃a:List Value,a.length=sz/\E w (m i) (m (i+1)) x a/\∀j u,a[j]?=some u->cells[i*sz+j]?=some u
def dO{m:Nat->Nat}(h:∀i,m i<=m (i+1)){i:Nat}:∀{j:Nat},i<=j->m i<=m j
 |0,hj=>by obtain rfl:i=0:=by omega
           exact am _
 |j+1,hj=>by
  by_cases a:i=j+1
  .rw[a];exact am _
  .exact ap (dO h (show i<=j by omega)) (h j)
def Els.nil(h:Z<=hi):Els E sz w Z hi [] []:=⟨by simp,λ_ h=>(by cases h),λ_=>Z,λ_=>am _,am _,h,λi x h=>by simp at h⟩
def Els.le{xs:List α}(h:Els E sz w Z hi xs W):Z<=hi:=by
 obtain⟨_,_,m,b,a,c,_⟩:=h;exact ap a (ap (dO b (eg _)) c)
def Els.go(g:dL E T){xs:List α}(h:Els E sz w Z hi xs W)(k:∀b,Z<=b->b<hi->Typed w T b->w'.heap[b]?=w.heap[b]?)(t:fI<=Z)(r:hi<=hi'):Els E sz w' fI hi' xs W:=by
 obtain⟨a,b,m,c,q,s,o⟩:=h;refine⟨a,b,m,c,by omega,by omega,λi x hi=> ?_⟩;obtain⟨j,l,f,n⟩:=o i x hi;have d:=aB hi;have v:=dO c (eg i);have y:=dO c (show i+1<=xs.length by omega);exact⟨j,l,g.go (λb p u e=>k b (by omega) (by omega) e) (am _) (am _) f,n⟩
def Els.snoc{xs:List α}(h:Els E sz w Z X xs W){y:α}{es:List Value}(n:es.length=sz)(B:∀u∈es,u.oneCell'=true)(H:X<=hi)(C:E w X hi y es)(G:∀a b,a<=X->E w X hi y es->E w a b y es->True:=λ_ _ _ _ _=>trivial):Lcy E->Els E sz w Z hi (xs++[y]) (W++es):=by
 intro g;obtain⟨a,b,m,p,r,s,F⟩:=h;refine⟨by rw[aE,aE,a,n,mp,Nat.add_mul,Nat.one_mul],λu d=> ?_,λi=>if i<=xs.length then m i else hi,λi=> ?_, ?_, ?_,λi x c=> ?_⟩
 .rcases mx.1 d with d|d
  .exact b u d
  .exact B u d
 .show(if i<=xs.length then m i else hi)<=(if i+1<=xs.length then m (i+1) else hi);by_cases o:i+1<=xs.length
  .rw[du o,du (by omega)];exact p i
  .rw[be o];by_cases k:i<=xs.length
   .rw[du k];have:=dO p k;omega
   .rw[be k];exact am _
 .show Z<=(if 0<=xs.length then m 0 else hi);rw[du (eg _)];exact r
 .show(if(xs++[y]).length<=xs.length then _ else hi)<=hi;rw[be (by rw[aE,mp];omega)];exact am _
 .rcases pm i xs.length with f|q
  .rw[qv f] at c;obtain⟨l,A,z,D⟩:=F i x c;refine⟨l,A, ?_,λj u d=> ?_⟩
   .show E w (if i<=xs.length then m i else hi) (if i+1<=xs.length then m (i+1) else hi) x l;rw[du (by omega),du (by omega)];exact z
   .have I:=aB d;have v:(i+1)*sz<=xs.length*sz:=qP _ f;rw[rv] at v;rw[qv (by omega)];exact D j u d
  .rw[qp q] at c;have t:i-xs.length=0:=by have:=aB c;simp at this;omega
   rw[t] at c;simp at c;subst c;have e:i=xs.length:=by omega
   refine⟨es,n, ?_,λj u d=> ?_⟩
   .show E w (if i<=xs.length then m i else hi) (if i+1<=xs.length then m (i+1) else hi) y es;rw[du (by omega),be (by omega),e];exact g.wide C s (am _)
   .rw[e,qp (by omega),a,rX];exact d
def Els.at_(K:dL E T){xs:List α}(h:Els E sz w Z hi xs W){x:α}(v:xs[i]?=some x) :
  ∃m l g,Z<=m/\m<=l/\l<=hi/\g.length=sz/\E w m l x g/\(∀j u,g[j]?=some u->W[i*sz+j]?=some u)/\
   ∀(n:World) (y:α) (d:List Value),d.length=sz->(∀u∈d,u.oneCell'=true)->(∀b,Z<=b->b<hi->Typed w T b->¬(m<=b/\b<l)->n.heap[b]?=w.heap[b]?)->E n m l y d->
    ∀c:List Value,c.length=W.length->(∀k,¬(i*sz<=k/\k<i*sz+sz)->c[k]?=W[k]?)->(∀j u,d[j]?=some u->c[i*sz+j]?=some u)->(∀u∈c,u.oneCell'=true)->Els E sz n Z hi (xs.set i y) c:=by
 obtain⟨a,b,m,e,B,C,A⟩:=h;have p:=aB v;obtain⟨g,P,J,Q⟩:=A i x v;have l1:=dO e (eg i);have l2:=dO e (show i+1<=xs.length by omega);refine⟨m i,m (i+1),g,by omega,e i,by omega,P,J,Q,λn y d L X N M c R r q s=>⟨by rw[R,a,rb],s,m,e,B,by rw[rb];exact C,λk z f=> ?_⟩⟩;by_cases o:i=k
 .subst o;rw[rB p] at f;cases f;exact⟨d,L,M,q⟩
 .rw[rT o] at f;obtain⟨G,I,H,O⟩:=A k z f;have D:=aB f;have S:=dO e (eg k);have k2:=dO e (show k+1<=xs.length by omega);refine⟨G,I,K.go (λb U Y F=>N b (by omega) (by omega) F λV=> ?_) (am _) (am _) H,λj u t=> ?_⟩
  .rcases Nat.lt_or_gt_of_ne o with h|h
   .have:=dO e (show i+1<=k by omega);omega
   .have:=dO e (show k+1<=i by omega);omega
  .rw[r _ (by
    have hj:=aB t;rcases Nat.lt_or_gt_of_ne o with h|h
    .have:(i+1)*sz<=k*sz:=qP _ h;rw[rv] at this;omega
    .have:(k+1)*sz<=i*sz:=qP _ h;rw[rv] at this;omega)]
   exact O j u t
def aO(e:TypeId)(E:gG α)(sz:Nat):gG (List α):=λw b c a d=>
 ∃(v:Value) (cells:List Value),d=[v]/\w.ownsRow b e sz v a.length cells/\(∀g,v.ownBlock=some g->g<c)/\Els E sz w b c a cells
def aO.form{xs:List α}(h:aO e E sz w Z hi xs [v]):∃A c,v=.slice A xs.length c:=by
 obtain⟨b,cells,a,h,_⟩:=h;cases a;exact iv h
def aO.nil(h:Z<=hi):aO e E sz w Z hi [] [.slice none 0 0]:=⟨_,[],rfl,uy _ _ _ _,λ_ h=>(by cases h),Els.nil h⟩
def aO.ar(o:dL E T):dL (aO e E sz) (e::T):=by
 refine⟨?_⟩;intro w u B y z s x A l n j h;obtain⟨v,cells,rfl,i,m,f⟩:=h;refine⟨v,cells,rfl,⟨i.1, ?_⟩,λg a=>bd (m g a) j,f.go o (λb p q ⟨t,ht,hd⟩=>l b p q ⟨t,qV _ ht,hd⟩) n j⟩;rcases i.2 with r|⟨g,cap,c,rfl,k,a,d⟩
 .exact .inl r
 .refine .inr ⟨g,cap,c,rfl,ap n k, ?_,d⟩;rw[l g k (m g rfl) ⟨e,qC,c,a⟩];exact a
def aO.sl{k:gG α}(d:Lcy k)(H:∀{w:World} {Z hi:Nat} {x:α} {b:List Value},E w Z hi x b->k w Z hi x b){xs:List α}(h:aO e E sz w Z hi xs cs):bD k sz w Z hi xs cs:=by
 obtain⟨v,cells,rfl,z,t,a,_,m,o,J,K,I⟩:=h;obtain⟨_,q⟩:=z;rcases q with⟨rfl,r⟩|⟨g,cap,l,rfl,s,B,n,f,D,y⟩
 .exact⟨none,0,by rw[r],by omega,by unfold maxLen;omega,λL=>by omega⟩
 .refine⟨_,cap,rfl,n,f,λ_=>⟨g,0,rfl,s,t g rfl,λi x hi=> ?_⟩⟩;obtain⟨b,F,A,G⟩:=I i x hi;have p:=aB hi;have M:=dO o (eg i);have N:=dO o (show i+1<=xs.length by omega);refine⟨b,F,d.wide (H A) (by omega) (by omega),λj u C=> ?_⟩;have c:=G j u C;rw[<-y,qE] at c;split at c
  .rw[cell_of_row w g (0+i*sz+j) l _ (0,0) B,mc];simpa using c
  .cases c
def aO.slT{f:gG α}(a:Lcy f)(o:∀{w:World} {Z hi:Nat} {x:α} {i:List Value},E w Z hi x i->f w Z hi x i){xs:List α}(h:aO e E sz w Z hi xs cs):eI e f sz w Z hi xs cs:=by
 refine⟨h.sl a o,λq b l n c j=> ?_⟩;obtain⟨v,cells,rfl,p,r,_⟩:=h;simp only[ql,qx] at j;subst j;rcases p.2 with⟨d,_⟩|⟨g,cap,k,d,_,m,_⟩
 .cases d
 .cases d;exact⟨_,m⟩
def aO.some_{xs:List α}(h:aO e E sz w Z hi xs [v])(k:0<xs.length):∃g c,v=.slice (some ⟨g,0,none⟩) xs.length c/\Z<=g/\g<hi/\g<w.heap.size/\∃j,bg w g e j:=by
 obtain⟨l,cells,i,h,f,_⟩:=h;cases i;rcases h.2 with⟨_,m⟩|⟨g,cap,a,rfl,d,b,_⟩
 .omega
 .exact⟨g,cap,rfl,d,f g rfl,(show bg w g e a from b).lt,a,b⟩
def aO.frozen{xs:List α}(h:aO e E sz w Z hi xs [.slice (some ⟨g,0,none⟩) n c])(j:Nat):w.frozen? ⟨g,j,none⟩=false:=by
 obtain⟨d,cells,a,h,i,_⟩:=h;cases a;obtain⟨A,f,b⟩:=iv h;cases b;exact h.frozenAt j
def aO.at_(P:dL E T)(B:e∉T){xs:List α}(h:aO e E sz w Z hi xs [.slice (some ⟨g,0,none⟩) n c]){x:α}(I:xs[i]?=some x) :
  ∃m a d,Z<=m/\m<=a/\a<=hi/\d.length=sz/\E w m a x d/\(∀j u,d[j]?=some u->w.cell? ⟨g,i*sz+j,none⟩=some u)/\
   ∀(k:World) (y:α),bj (λb=>m<=b/\b<a/\Typed w T b) w k->E k m a y d->aO e E sz k Z hi (xs.set i y) [.slice (some ⟨g,0,none⟩) n c]:=by
 obtain⟨V,cells,q,o,K,f⟩:=h;cases q;obtain⟨A,W,C⟩:=iv o;cases C;have r:=aB I;obtain⟨m,a,d,R,S,N,q,C,F,z⟩:=f.at_ P I;refine⟨m,a,d,R,S,N,q,C,λj u p=> ?_,λk y G Q=> ?_⟩
 .have J:=aB p;have l:(i+1)*sz<=xs.length*sz:=qP _ r;rw[rv] at l;rw[o.cellAt _ (by omega)];exact F j u p
 .have D:¬(m<=g/\g<a/\Typed w T g):=λ⟨_,_,t,s,M,hd⟩=>by
   rcases o.2 with⟨v,_⟩|⟨X,cap,O,v,_,L,_⟩
   .cases v
   .cases v;exact B (cI L hd▸s)
  refine⟨_,cells,rfl, ?_,K,z k y d q (λu p=> ?_) (λb U Y s l=> ?_) Q cells rfl (λ_ _=>rfl) F f.2.1⟩
  .rw[rb];exact aeg o G λb l=>by cases l;exact D
  .obtain⟨j,J⟩:=qW p;exact f.2.1 u (db (F j u J))
  .obtain⟨t,_,M,hd⟩:=id s;exact G.block b hd.lt λH=>l ⟨H.1,H.2.1⟩
def aO.put(Q:dL E T)(K:e∉T){xs:List α}(h:aO e E sz w Z hi xs [.slice (some ⟨g,0,none⟩) n c]){x y:α}{u:Value}(N:xs[i]?=some x)(hj:j<sz)(U:u.oneCell'=true)(W:∀(O:World) (Z hi:Nat) (s:List Value),E O Z hi x s->E O Z hi y (s.set j u)) :
  aO e E sz (w.setCell ⟨g,i*sz+j,none⟩ u) Z hi (xs.set i y) [.slice (some ⟨g,0,none⟩) n c]:=by
 obtain⟨v',cells,D,C,V,o⟩:=h;cases D;obtain⟨A,c',B⟩:=iv C;cases B;have F:=aB N;have I:=(C.stored (i*sz+j) u).1;obtain⟨m,m',s,l1,l2,l3,D,B,X,J⟩:=o.at_ Q N;have H:¬Typed w T g:=λ⟨t,l,ds,hd⟩=>by
  rcases C.2 with⟨G,_⟩|⟨Y,cap,S,G,_,P,_⟩
  .cases G
  .cases G;exact K (cI P hd▸l)
 have M:∀b,Typed w T b->(w.setCell ⟨g,i*sz+j,none⟩ u).heap[b]?=w.heap[b]?:=λb l=>jn _ _ _ _ (by rintro rfl;exact H l);have d:∀v∈cells.set (i*sz+j) u,v.oneCell'=true:=λv q=>by
  rcases th q with q|rfl
  .exact o.2.1 v q
  .exact U
 have p:∀f z,(s.set j u)[f]?=some z->(cells.set (i*sz+j) u)[i*sz+f]?=some z:=λf z a=>by
  by_cases r:j=f
  .subst r;rw[rB (by omega)] at a;rw[rB (by
    have R:(i+1)*sz<=xs.length*sz:=qP _ F;rw[rv] at R;rw[o.1];omega)]
   exact a
  .rw[rT r] at a;rw[rT (by omega)];exact X f z a
 refine⟨_,cells.set (i*sz+j) u,rfl,by rw[rb];exact I,V,J _ y (s.set j u) (by rw[rb];exact D) (λv q=> ?_) (λb b1 b2 l _=>M b l) (W _ _ _ _ (Q.go (λb _ _ l=>M b l) (am _) (am _) B)) _ (by rw[rb]) (λk P=> ?_) p d⟩
 .obtain⟨f,L⟩:=qW q;exact d v (db (p f v L))
 .rw[rT (by omega)]
end
def aJ.aaL{base : Nat}{xs:List Y}(h:aJ F e w base v xs)(b:∀x∈xs,F.good x)(c:base<=hi)(a:∀g,v.ownBlock=some g->g<hi):aO e (bV F) F.sz w base hi xs [v]:=
 ⟨v,dA F xs,rfl,h,a,dU F xs,aax F xs,λ_=>base,λ_=>am _,am _,c,λi x hi=>⟨F.cells x,F.len x,⟨rfl,b x (db hi)⟩,λ_ _ d=>eE F xs i _ x _ hi d⟩⟩
def aO.flat{xs:List Y}(h:aO e (bV F) F.sz w Z hi xs [v]):aJ F e w Z v xs/\(∀x∈xs,F.good x)/\Z<=hi/\∀g,v.ownBlock=some g->g<hi:=by
 obtain⟨A,cells,u,j,p,a⟩:=h;cases u;have d:=a.le;obtain⟨D,C,m,E,z,B,o⟩:=a;have y:∀x∈xs,F.good x:=λx b=>by
  obtain⟨i,hi⟩:=qW b;obtain⟨t,_,s,_⟩:=o i x hi;exact s.2
 refine⟨?_,y,d,p⟩;have:cells=dA F xs:=by
  apply tN;intro k;rcases pm k (xs.length*F.sz) with c|c
  .have hi:k / F.sz<xs.length:=wM (by rw[tR];exact c);have b:=jp hi;obtain⟨t,q,⟨rfl,_⟩,r⟩:=o _ _ b;have n:k % F.sz<(F.cells xs[k / F.sz]).length:=by rw[F.len];exact tD _ F.pos
   have l:=r (k % F.sz) _ (jp n);have f:=eE F xs (k / F.sz) (k % F.sz) _ _ b (jp n);rw[vX] at l f;rw[l,f]
  .rw[rx (by omega),rx (by rw[dU];exact c)]
 rw[this] at j;exact j
end
section
variable {β:Bool}
open Go.RowKit
structure Ls where
 p:ByteArray
 ns:List Int
structure Sn where
 no:Int
 all:List Ls
structure Hd where
 b:Int
 s:Int
structure dy where
 pk:List Pk
 sn:List Sn
 lg:List Hd
def pB:Flat Hd:=⟨2,λx=>[.int .i64 x.b,.int .i64 x.s],λx=>cf x.b/\cf x.s,λ_=>rfl,λx u a=>by simp at a;rcases a with rfl|rfl<;>rfl,by decide⟩
abbrev ju:gG (List It):=bD (bV nA) 2
def amj:gG Pk:=λw a b x c=>∃v,c=[.int .i64 x.no,v]/\cf x.no/\ju w a b x.its [v]
abbrev iw:gG (List Pk):=bD amj 2
def apD:gG Ls:=λw a b x c=>∃v,c=[.string x.p,v]/\x.p.size<=maxLen/\bD nj 1 w a b x.ns [v]
abbrev fw:gG (List Ls):=bD apD 2
def apE:gG Sn:=λw a b x c=>∃v,c=[.int .i64 x.no,v]/\cf x.no/\fw w a b x.all [v]
abbrev iy:gG (List Sn):=bD apE 2
abbrev fP:gG (List Hd):=bD (bV pB) 2
def ju.loc:Lcy ju:=bD.loc (bV.loc nA)
def amj.loc:Lcy amj:=⟨λh a b ⟨v,e,i,hr⟩=>⟨v,e,i,ju.loc.go h a b hr⟩⟩
def iw.loc:Lcy iw:=bD.loc amj.loc
def lM.loc:Lcy (bD nj 1):=bD.loc nj.loc
def apD.loc:Lcy apD:=⟨λh a b ⟨v,e,i,hr⟩=>⟨v,e,i,lM.loc.go h a b hr⟩⟩
def fw.loc:Lcy fw:=bD.loc apD.loc
def apE.loc:Lcy apE:=⟨λh a b ⟨v,e,i,hr⟩=>⟨v,e,i,fw.loc.go h a b hr⟩⟩
def iy.loc:Lcy iy:=bD.loc apE.loc
def fP.loc:Lcy fP:=bD.loc (bV.loc pB)
def bD.ayP{g : gG Y}(t:∀{w:World} {X hi:Nat} {x:Y} {a:List Value},E w X hi x a->g w X hi x a){xs:List Y}(h:bD E Z w X hi xs cs):bD g Z w X hi xs cs:=by
 obtain⟨A,c,f,l,q,p⟩:=h;refine⟨A,c,f,l,q,λo=> ?_⟩;obtain⟨b,e,m,k,j,d⟩:=p o;refine⟨b,e,m,k,j,λi x hi=> ?_⟩;obtain⟨a,r,n,s⟩:=d i x hi;exact⟨a,r,t n,s⟩
def RPk.l{x:Pk}(h:RPk w Z hi x cs):amj w Z hi x cs:=by
 obtain⟨v,e,i,a⟩:=h;exact⟨v,e,i,a.1⟩
def ajR.l{x:List Pk}(h:ajR w Z hi x cs):iw w Z hi x cs:=bD.ayP RPk.l h.1
abbrev abA:gG (List It):=aO 63 (bV nA) 2
def lh:gG Pk:=λw a b x c=>∃v,c=[.int .i64 x.no,v]/\cf x.no/\abA w a b x.its [v]
abbrev bF:gG (List Pk):=aO 36 lh 2
abbrev iU:gG (List Int):=aO 3 (bV gR) 1
def abA.ar:dL abA [63]:=aO.ar (bV.ar nA)
def lh.ar:dL lh [63]:=⟨λh a b ⟨v,e,i,hr⟩=>⟨v,e,i,abA.ar.go h a b hr⟩⟩
def bF.ar:dL bF [36,63]:=aO.ar lh.ar
def iU.ar:dL iU [3]:=aO.ar (bV.ar gR)
def abA.l{x:List It}(h:abA w Z hi x cs):ju w Z hi x cs:=aO.sl (bV.loc nA) (λh=>h) h
def abA.t{x:List It}(h:abA w Z hi x cs):aaI w Z hi x cs:=aO.slT (bV.loc nA) (λh=>h) h
def lh.l{x:Pk}(h:lh w Z hi x cs):amj w Z hi x cs:=by
 obtain⟨v,e,i,a⟩:=h;exact⟨v,e,i,abA.l a⟩
def lh.t{x:Pk}(h:lh w Z hi x cs):RPk w Z hi x cs:=by
 obtain⟨v,e,i,a⟩:=h;exact⟨v,e,i,abA.t a⟩
def bF.l{x:List Pk}(h:bF w Z hi x cs):iw w Z hi x cs:=aO.sl amj.loc lh.l h
def bF.t{x:List Pk}(h:bF w Z hi x cs):ajR w Z hi x cs:=aO.slT RPk.ar.loc lh.t h
def iU.l{x:List Int}(h:iU w Z hi x cs):bD nj 1 w Z hi x cs:=aO.sl nj.loc (λh=>h) h
def OLs:gG Ls:=λw a b x c=>∃v,c=[.string x.p,v]/\x.p.size<=maxLen/\iU w a b x.ns [v]
abbrev fQ:gG (List Ls):=aO 67 OLs 2
def mE:gG Sn:=λw a b x c=>∃v,c=[.int .i64 x.no,v]/\cf x.no/\fQ w a b x.all [v]
abbrev bR:gG (List Sn):=aO 41 mE 2
abbrev dH:gG (List Hd):=aO 65 (bV pB) 2
def OLs.ar:dL OLs [3]:=⟨λh a b ⟨v,e,i,hr⟩=>⟨v,e,i,iU.ar.go h a b hr⟩⟩
def fQ.ar:dL fQ [67,3]:=aO.ar OLs.ar
def mE.ar:dL mE [67,3]:=⟨λh a b ⟨v,e,i,hr⟩=>⟨v,e,i,fQ.ar.go h a b hr⟩⟩
def bR.ar:dL bR [41,67,3]:=aO.ar mE.ar
def dH.ar:dL dH [65]:=aO.ar (bV.ar pB)
def OLs.l{x:Ls}(h:OLs w Z hi x cs):apD w Z hi x cs:=by
 obtain⟨v,e,i,a⟩:=h;exact⟨v,e,i,iU.l a⟩
def fQ.l{x:List Ls}(h:fQ w Z hi x cs):fw w Z hi x cs:=aO.sl apD.loc OLs.l h
def mE.l{x:Sn}(h:mE w Z hi x cs):apE w Z hi x cs:=by
 obtain⟨v,e,i,a⟩:=h;exact⟨v,e,i,fQ.l a⟩
def bR.l{x:List Sn}(h:bR w Z hi x cs):iy w Z hi x cs:=aO.sl apE.loc mE.l h
def dH.l{x:List Hd}(h:dH w Z hi x cs):fP w Z hi x cs:=aO.sl (bV.loc pB) (λh=>h) h
def eu{α:Type}(f:α->Nat)(l:List α):Nat:=l.length+(l.map f).sum
def jL{a:Type}{f:a->Nat}:∀{l:List a} {x:a},x∈l->f x<=eu f l
 |[],_,h=>by cases h
 |y::l,x,h=>by
  have e:eu f (y::l)=eu f l+1+f y:=by unfold eu;simp only[fi,ru,vJ];omega
  rcases mu.1 h with rfl|h
  .omega
  .have:=jL (f:=f) h;omega
def dV{f:Y->Nat}{l:List Y}:l.length<=eu f l:=by unfold eu;omega
def bIt(x:It):Nat:=x.b.size
def bPk(x:Pk):Nat:=eu bIt x.its
def bLs(x:Ls):Nat:=x.p.size+x.ns.length
def bSn(x:Sn):Nat:=eu bLs x.all
def ab8{α:Type}(n:α->Nat)(l:List α)(j:Nat):Nat:=((l.take j).map n).sum
def aeN{α:Type}(n:α->Nat)(l:List α):Nat:=(l.map n).sum
def alk{n:Y->Nat}{l:List Y}{x:Y}(h:l[j]?=some x):ab8 n l (j+1)=ab8 n l j+n x:=by
 unfold ab8;rw[kw h,qZ,List.sum_append];simp
def aoW(n:Y->Nat)(l:List Y):ab8 n l l.length=aeN n l:=by unfold ab8 aeN;rw[gc]
def ai3{n:Y->Nat}{l:List Y} :ab8 n l j<=aeN n l:=by
 unfold ab8 aeN;have h:l.map n=(l.take j).map n++(l.drop j).map n:=by rw[<-qZ,sU]
 rw[h,List.sum_append];omega
def acG{c:Type}:∀(l:List c) (j:Nat) (a b:c),(l.set j a).set j b=l.set j b
 |[],_,_,_=>rfl
 |_::_,0,_,_=>rfl
 |x::l,j+1,a,b=>by show x::(l.set j a).set j b=x::l.set j b;rw[acG l j a b]
def lW(h:bj S w w'){T : List TypeId}(c:∀t∈T,t∈U)(j:b<hi)(i:hi<=w.heap.size)(d:S b->Typed w U b)(f:Typed w' T b):Typed w U b:=by
 by_cases a:S b
 .exact d a
 .obtain⟨t,e,g,hd⟩:=f;exact⟨t,c t e,g,(h.block b (by omega) a).symm.trans hd⟩
end
section
variable {β:Bool}
open Go.RowKit
def ah7(p:Prop)(e:Ending):Prop:=(e=.returned (.bool true)/\p)\/e=.returned (.bool false)
def ah7.of{q:Bool}{p:Prop}(h:q=true->p):ah7 p (.returned (.bool q)):=by
 cases q
 .exact .inr rfl
 .exact .inl ⟨rfl,h rfl⟩
def nm(b:Nat):Bool:=decide (97<=b)&&decide (b<=101)
def ie(s:ByteArray):Bool:=if h:s.size=1 then nm (s[0]'(by omega)).toNat else if h:s.size=3 then nm (s[0]'(by omega)).toNat&&(decide ((s[1]'(by omega)).toNat=47)&&nm (s[2]'(by omega)).toNat) else false
def dN(s:ByteArray):Bool:=decide (s.size<=40)&&(bs s).all pY
def lX(h:ie s=true):s.size=1\/s.size=3:=by
 unfold ie at h;split at h
 .exact .inl (by assumption)
 .split at h
  .exact .inr (by assumption)
  .cases h
def aab(b:Nat)(w:World) :
  Calls (ah β) 105 #[.int .u8 b] w λe f=>e=.returned (.bool (nm b))/\w=f:=by
 by_cases c:97<=b
 .by_cases a:b<=101
  .have e:nm b=true:=by unfold nm;rw[dk c,dk a];rfl
   rw[e];have d:=dk (show(b:Int)<=101 by omega);go_enter xt,ntmps105;go_wp2;go_ret;exact⟨rfl,rfl⟩
  .have e:nm b=false:=by unfold nm;rw[da a,Bool.and_false]
   rw[e];have d:=da (show ¬((b:Int)<=101) by omega);go_enter xt,ntmps105;go_wp2;go_ret;exact⟨rfl,rfl⟩
 .have e:nm b=false:=by unfold nm;rw[da c,ur]
  rw[e];go_enter xt,ntmps105;go_wp2;go_ret;exact⟨rfl,rfl⟩
def lY(s:ByteArray)(f:s.size<=maxLen)(w:World) :
  Calls (ah β) 65 #[.string s] w λe d=>e=.returned (.bool (dN s))/\w=d:=by
 by_cases b:s.size<=40
 .have a:(bs s).all pY=dN s:=by unfold dN;rw[dk b,uI]
  replace a:=ab a;have c:=dk (show(s.size:Int)<=40 by omega);go_enter xY,ntmps65;go_wp2;refine(afV s f w).mono ?_;rintro e g ⟨rfl,rfl⟩;rw[a.out];go_wp2;go_ret;exact⟨rfl,rfl⟩
 .have c:=da (show ¬((s.size:Int)<=40) by omega);have e:dN s=false:=by unfold dN;rw[da b,ur]
  rw[e];go_enter xY,ntmps65;go_wp2;go_ret;exact⟨rfl,rfl⟩
def afi(s:ByteArray)(n:Nat)(H:s.size*n<=100)(G:s.size<=100)(j:n<=100)(w:World) :
  Calls (ah β) 67 #[.string s,.int .i64 n] w λe r=>(∃t:ByteArray,e=.returned (.string t)/\t.size<=100)/\w=r:=by
 go_enter zL,ntmps67;go_wp2
 go_loop [0,1,5] (λa i o=>∃(x y:ByteArray) (k:Nat),a=.string x/\i=.int .i64 k/\o=.string y/\y.size+x.size*k<=100/\x.size<=200/\k<=100) (λ_ i _=>(intOf i).toNat)
 case atStart=>exact⟨s,⟨#[]⟩,n,rfl,rfl,rfl,by show 0+_<=_;omega,by omega,j⟩
 case round=>
  obtain⟨x,y,k,rfl,rfl,rfl,f,C,F⟩:=hrel;have d:(x++x).size=x.size+x.size:=by rw[<-aM,iQ,aE,aM]
  have c:(y++x).size=y.size+x.size:=by rw[<-aM,iQ,aE,aM,aM]
  by_cases v:k=0
  .subst v;go_wp2;go_ret;exact⟨⟨y,rfl,by omega⟩,rfl⟩
  .have A:x.size<=100:=by
    have:x.size*1<=x.size*k:=Nat.mul_le_mul_left _ (by omega);omega
   obtain⟨m,p⟩:∃m,m=k / 2:=⟨_,rfl⟩;have E:(k:Int) / 2=((m:Nat):Int):=by omega
   have D:0<(k:Int):=by omega
   have z:m<=100/\m<k:=by omega
   have u:y.size<=100:=by omega
   rcases vH k with l|l
   .have q:(k:Int) % 2=0:=by omega
    have b:(x.size+x.size)*m=x.size*k:=by
     have:k=2*m:=by omega
     rw[this,<-Nat.two_mul,tR 2,Nat.mul_assoc]
    have g:=ab b;replace d:=ab d;replace f:=ab f;clear b c l p;go_wp2
    go_round
    case rel=>exact⟨x++x,y,m,rfl,rfl,rfl,by rw[d.out,g.out];exact f.out,by rw[d.out];omega,by omega⟩
    simp[intOf];omega
   .have q:(k:Int) % 2=1:=by omega
    have b:y.size+x.size+(x.size+x.size)*m=y.size+x.size*k:=by
     have:k=2*m+1:=by omega
     rw[this,Nat.mul_add,<-Nat.two_mul,tR 2,Nat.mul_assoc,tZ];omega
    have g:=ab b;replace d:=ab d;replace c:=ab c;replace f:=ab f;clear b p;have B:(((k:Int) % 2) ==1)=true:=by rw[q];rfl
    go_wp2
    go_round
    case rel=>exact⟨x++x,y++x,m,rfl,rfl,rfl,by rw[d.out,c.out,g.out];exact f.out,by rw[d.out];omega,by omega⟩
    simp[intOf];omega
def jM(s:ByteArray)(p:s.size<=maxLen)(w:World) :
  Calls (ah β) 64 #[.string s] w λe o=>e=.returned (.bool (ie s))/\w=o:=by
 unfold maxLen at p;by_cases j:s.size=1
 .have m:((s.size:Int) ==1)=true:=by rw[j];rfl
  have a:0<s.size:=by omega
  have g:nm (s[0]'a).toNat=ie s:=by unfold ie;rw[tP j]
  have q:=ab g;have HC:=ab (aab (β:=β) (s[0]'a).toNat w);go_enter xf,ntmps64;go_wp2;refine HC.out.mono ?_;rintro e i ⟨rfl,rfl⟩;rw[q.out];go_wp2;go_ret;exact⟨rfl,rfl⟩
 .by_cases l:s.size=3
  .have m:((s.size:Int) ==1)=false:=de.2 (by omega);have n:((s.size:Int) ==3)=true:=by rw[l];rfl
   have a:0<s.size:=by omega
   have b:1<s.size:=by omega
   have c:2<s.size:=by omega
   have g:ie s=(nm (s[0]'a).toNat&&(decide ((s[1]'b).toNat=47)&&nm (s[2]'c).toNat)):=by unfold ie;rw[dif_neg j,tP l]
   have HC:=ab (aab (β:=β) (s[0]'a).toNat w);have d:=ab (aab (β:=β) (s[2]'c).toNat w);rw[g];revert HC;revert d;generalize nm (s[0]'a).toNat=q0;generalize nm (s[2]'c).toNat=q2;intro d HC;cases q0
   .go_enter xf,ntmps64;go_wp2;refine HC.out.mono ?_;rintro e i ⟨rfl,rfl⟩;go_wp2;go_ret;exact⟨rfl,rfl⟩
   .by_cases f:(s[1]'b).toNat=47
    .rw[dk f];have k:(((s[1]'b).toNat:Int) ==47)=true:=by rw[f];rfl
     go_enter xf,ntmps64;go_wp2;refine HC.out.mono ?_;rintro e i ⟨rfl,rfl⟩;go_wp2;refine d.out.mono ?_;rintro e i ⟨rfl,rfl⟩;go_wp2;go_ret;exact⟨by cases q2<;>rfl,rfl⟩
    .rw[da f];have k:(((s[1]'b).toNat:Int) ==47)=false:=de.2 (by omega);go_enter xf,ntmps64;go_wp2;refine HC.out.mono ?_;rintro e i ⟨rfl,rfl⟩;go_wp2;go_ret;exact⟨rfl,rfl⟩
  .have m:((s.size:Int) ==1)=false:=de.2 (by omega);have n:((s.size:Int) ==3)=false:=de.2 (by omega);have g:ie s=false:=by unfold ie;rw[dif_neg j,dif_neg l]
   rw[g];go_enter xf,ntmps64;go_wp2;go_ret;exact⟨rfl,rfl⟩
def jN(s t:ByteArray):Bool:=if h:0<s.size/\0<t.size then(if s.size=t.size then false else((s[0]'h.1).toNat:Int) ==((t[0]'h.2).toNat:Int)) else false
def ah8(s t:ByteArray)(o:0<s.size/\s.size<=maxLen)(n:0<t.size/\t.size<=maxLen)(w:World) :
  Calls (ah β) 96 #[.string s,.string t] w λe l=>e=.returned (.bool (jN s t))/\Below w.heap.size w l:=by
 obtain⟨a,j⟩:=o;obtain⟨b,k⟩:=n;by_cases i:s.size=t.size
 .have f:jN s t=false:=by unfold jN;rw[tP ⟨a,b⟩,du i]
  rw[f];go_enter xT,ntmps96;go_wp2;refine aC 12 [0,1,2,3,4,5,6,7,8,9,10,11] [] (h:= ?_);simp only[pick,List.map,gt,gE];repeat(go_big_quiet_step (fail))
  refine ip ?_;apply Exists.intro;refine aQ ?_;intro p g m d c;dsimp only[dQ] at c;try rw[d] at c
  simp only[List.drop];go_wp2;go_ret;exact⟨rfl,g⟩
 .have q:((s.size:Int) !=(t.size:Int))=true:=by simp;omega
  have f:jN s t=(((s[0]'a).toNat:Int) ==((t[0]'b).toNat:Int)):=by unfold jN;rw[tP ⟨a,b⟩,be i]
  rw[f];go_enter xT,ntmps96;go_wp2;refine aC 12 [0,1,2,3,4,5,6,7,8,9,10,11] [] (h:= ?_);simp only[pick,List.map,gt,gE];repeat(go_big_quiet_step (fail))
  refine ip ?_;apply Exists.intro;refine aQ ?_;intro p g m d c;dsimp only[dQ] at c;try rw[d] at c
  simp only[List.drop];go_wp2;go_ret;exact⟨rfl,g⟩
def dig(x:Nat):Int:=((x:Int)-97) % 256
def aac(l:List Nat)(p:Nat):Bool:=(dig (l.getD (p-1) 0)+2*dig (l.getD (p-2) 0)+3*dig (l.getD (p-3) 0)) % 5 ==0
def aaB(h:k<s.size):(bs s).getD k 0=(s[k]'h).toNat:=by rw[sY,abm h];rfl
def amk(s:ByteArray)(p:Nat)(v:3<=p/\p<s.size)(r:s.size<=maxLen)(w:World) :
  Calls (ah β) 165 #[.string s,.int .i64 p] w λe o=>e=.returned (.bool (aac (bs s) p))/\Below w.heap.size w o:=by
 unfold maxLen at r;obtain⟨a,l⟩:∃a,a=p-1:=⟨_,rfl⟩;obtain⟨b,i⟩:∃b,b=p-2:=⟨_,rfl⟩;obtain⟨c,n⟩:∃c,c=p-3:=⟨_,rfl⟩;have m:a<s.size:=by omega
 have f:b<s.size:=by omega
 have g:c<s.size:=by omega
 have y:(p:Int)-1=((a:Nat):Int):=by omega
 have x:(p:Int)-2=((b:Nat):Int):=by omega
 have z:(p:Int)-3=((c:Nat):Int):=by omega
 have t:(p:Int)<=9223372036854775807:=by omega
 have k:aac (bs s) p=((dig (s[a]'m).toNat+2*dig (s[b]'f).toNat+3*dig (s[c]'g).toNat) % 5 ==0):=by unfold aac;rw[<-l,<-i,<-n,aaB m,aaB f,aaB g]
 rw[k];clear l i n k;go_enter yM,ntmps165;go_wp2;refine aC 24 [0,1,2,3,4,5,6,7,8,9,10,11,12,13,14,15,16,17,18,19,20,21,22,23] [] (h:= ?_);simp only[pick,List.map,gt,gE];repeat(go_big_quiet_step (fail))
 refine ip ?_;apply Exists.intro;refine aQ ?_;intro A u q j d;dsimp only[dQ] at d;try rw[j] at d
 clear j q;simp only[List.drop];clear d;go_wp2;go_ret;exact⟨aD rfl,u⟩
end
section
variable {β:Bool}
open Go.RowKit
def pg(key:Int)(x:It):Prop:=∃p,oA (bs x.b)=some p/\bN key p=x.n
def avy(p:Prop):∃b:Bool,b=true↔p:=by
 by_cases h:p
 .exact⟨true,by simp[h]⟩
 .exact⟨false,by simp[h]⟩
end
section
variable {β:Bool}
open Go.RowKit
def Rd(w:World)(lo hi g:Nat)(l:List Int)(p:Nat):Prop:=
 ∃A c,bg w g 74 #[.slice A l.length c,.int .i64 p]/\l.length<=2000/\bD iO 1 w lo hi l [.slice A l.length c]/\hi<=g
def ayQ(n v:Int):Prop:=(n<1->v=0)/\(1<=n->0<=v/\v<n)
def asp(w:World)(lo hi g:Nat)(l:List Int)(p:Nat)(n:Int)(e:Ending)(w':World):Prop:=
 ∃v:Int,e=.returned (.int .i64 v)/\ayQ n v/\Rd w' lo hi g l (p+1)/\bj (λb=>b=g) w w'
def Rd.fE{l:List Int}(h:Rd w Z hi g l p)(f:bj S w w')(e:∀b,b<hi\/b=g->¬S b):Rd w' Z hi g l p:=by
 obtain⟨A,c,d,i,k,m⟩:=h;have a:=d.lt;exact⟨A,c,(f.block g a (e g (.inr rfl))).trans d,i,(bD.loc iO.loc).go (λb _ j=>f.block b (by omega) (e b (.inl j))) (am _) (am _) k,m⟩
def Rd.lt{l:List Int}(h:Rd w Z hi g l p):g<w.heap.size:=by
 obtain⟨A,c,a,_⟩:=h;exact a.lt
def Rd.drew{l:List Int}(h:Rd w Z hi g l p):Rd w.drew Z hi g l p:=h.fE ((bj.refl (λ_=>False) _).drew) (λ_ _ h=>h)
def Rd.alloc{l:List Int}(h:Rd w Z hi g l p)(o:Obj):Rd (w.alloc o) Z hi g l p:=h.fE ((bj.refl (λ_=>False) _).alloc o) (λ_ _ h=>h)
def avz{l:List Int}(h:Rd w Z hi g l p)(n:Int)(j:n=(p:Int)+1):Rd (w.setCell ⟨g,1,none⟩ (.int .i64 n)) Z hi g l (p+1):=by
 obtain⟨A,c,f,a,d,e⟩:=h;refine⟨A,c, ?_,a, ?_,e⟩
 .have:=f.bG 1 (.int .i64 n);rw[j] at this ⊢;exact this
 .refine(bD.loc iO.loc).go (λb _ i=> ?_) (am _) (am _) d;exact jn _ _ _ _ (by show b≠g;omega)
def agM(a:Nat)(b:a<9223372036854775808):(BitVec.ofInt 64 (a:Int)).toNat=a:=by
 rw[BitVec.ofInt_natCast,BitVec.toNat_ofNat];exact Nat.mod_eq_of_lt (by omega)
def aml(a b:Int)(d:0<=a)(f:a<9223372036854775808)(e:0<=b)(c:b<9223372036854775808):0<=bits .xor .i64 a b:=by
 obtain⟨a,rfl⟩:=qn d;obtain⟨b,rfl⟩:=qn e;have g:a ^^^ b<2 ^ 63:=Nat.xor_lt_two_pow (by omega) (by omega);show 0<=IntKind.i64.wrap ((BitVec.ofInt 64 (a:Int) ^^^ BitVec.ofInt 64 (b:Int)).toNat:Int);rw[BitVec.toNat_xor,agM a (by omega),agM b (by omega),uP];omega
def di(w:World)(B hi g:Nat)(l:List Int)(p:Nat)(n:Int)(h:Rd w B hi g l p)(S:p<=1099511627776) :
  Calls (ah β) 29 #[.pointer (some ⟨g,0,none⟩),.int .i64 n] w (asp w B hi g l p n):=by
 have a:=λn z=>avz h n z;obtain⟨A,c,o,T,s,N⟩:=h;have I:=o.cell 0;have G:=o.cell 1;have O:=o.frozen 1;simp at I G;by_cases z:n<1
 .go_enter xm,ntmps29;go_wp2;go_ret;exact⟨0,rfl,⟨λ_=>rfl,λh=>absurd h (by omega)⟩,a _ rfl,(bj.refl (λb=>b=g) _).setCell (p:=⟨g,1,none⟩) (.inl rfl) _⟩
 by_cases d:l.length=0
 .have f:((l.length:Int) ==0)=true:=by rw[nF];omega
  replace d:=ab d;go_enter xm,ntmps29;go_wp2;go_ret;exact⟨0,rfl,⟨λ_=>rfl,λh=>⟨by omega,by omega⟩⟩,a _ rfl,(bj.refl (λb=>b=g) _).setCell (p:=⟨g,1,none⟩) (.inl rfl) _⟩
 by_cases E:p<l.length
 .obtain⟨x,i⟩:=aq E;obtain⟨b,r,rfl,u,t,j,q⟩:=s.aeS i;have V:=ab i;have m:b≠g:=by omega
  have f:((l.length:Int) ==0)=false:=by rw[de];omega
  go_enter xm,ntmps29;go_wp2;go_ret;exact⟨x % n,rfl,⟨λh=>absurd h (by omega),λh=>⟨wl _ (by omega),vF _ (by omega)⟩⟩,a _ rfl,(bj.refl (λb=>b=g) _).setCell (p:=⟨g,1,none⟩) (.inl rfl) _⟩
 .have f:((l.length:Int) ==0)=false:=by rw[de];omega
  obtain⟨x,i⟩:=aq (l:=l) (k:=p % l.length) (tD _ (by omega));obtain⟨y,H⟩:=aq (l:=l) (k:=(p*7+3) % l.length) (tD _ (by omega));obtain⟨b,r,rfl,u,t,j,C⟩:=s.aeS i;obtain⟨M,v,e,_,_,D,F⟩:=s.aeS H;simp only[lP,qB,qx] at e;obtain⟨rfl,rfl⟩:=e;have m:b≠g:=by omega
  have U:p % l.length<l.length:=tD _ (by omega);have L:(p*7+3) % l.length<l.length:=tD _ (by omega);have P:0<=((p:Int)*7+3) % (l.length:Int):=wl _ (by omega);have W:((p:Int)*7+3) % (l.length:Int)<(l.length:Int):=vF _ (by omega);have R:(((p:Int)*7+3) % (l.length:Int)).toNat=(p*7+3) % l.length:=by
   have:((p:Int)*7+3) % (l.length:Int)=(((p*7+3) % l.length:Nat):Int):=rfl;rw[this];rfl
  have Q:0<=(p:Int) / (l.length:Int):=Int.ediv_nonneg (by omega) (by omega);have K:(p:Int) / (l.length:Int)<=p:=Int.ediv_le_self _ (by omega);go_enter xm,ntmps29;go_wp2;have J:=aml (x*131+y*1117+(p:Int)*29+(p:Int) / (l.length:Int)*53) ((x*131+y*1117+(p:Int)*29+(p:Int) / (l.length:Int)*53) / 64) (by omega) (by omega) (by omega) (by omega)
  go_quiet (fail)
  go_wp2;go_ret;exact⟨_,rfl,⟨λh=>absurd h (by omega),λh=>⟨wl _ (by omega),vF _ (by omega)⟩⟩,
   (a _ rfl).fE ((bj.refl (λ_=>False) _).drewN nq) (λ_ _ h=>h),((bj.refl (λb=>b=g) _).setCell (p:=⟨g,1,none⟩) (.inl rfl) _).drewN nq⟩
def asq(w:World)(lo hi:Nat)(l:List Int)(e:Ending)(w':World):Prop:=
 ∃g,e=.returned (.pointer (some ⟨g,0,none⟩))/\Rd w' lo hi g (l.take 2000) 0/\w.heap.size<=g/\Below w.heap.size w w'
def bD.cut{xs:List Y}(h:bD E Z w X hi xs [.slice A n c])(q:m<=n):bD E Z w X hi (xs.take m) [.slice A m c]:=by
 obtain⟨A',p,a,r,k,g⟩:=h;simp only[ql,oE,qx] at a;obtain⟨rfl,rfl,rfl⟩:=a;have f:(xs.take m).length=m:=by rw[ef];omega
 refine⟨A,c,by rw[f],by omega,k,λo=> ?_⟩;obtain⟨b,d,rfl,l,j,e⟩:=g (by omega);refine⟨b,d,rfl,l,j,λi x hi=>e i x ?_⟩;have:=aB hi;rw[tq (by omega)] at hi;exact hi
def asr(l:List Int)(A:Option Addr)(n c:Nat)(w:World)(f hi:Nat)(h:bD iO 1 w f hi l [.slice A n c])(d:hi<=w.heap.size) :
  Calls (ah β) 12 #[.slice A n c] w (asq w f hi l):=by
 obtain⟨rfl,j,g⟩:=h.len_;unfold maxLen at g;by_cases i:2000<l.length
 .have b:=h.cut (m:=2000) (by omega);have a:(l.take 2000).length=2000:=by rw[ef];omega
  go_enter ym,ntmps12;go_wp2;go_ret;refine⟨_,rfl,⟨A,c, ?_,by omega, ?_,d⟩,am _,(fd _ _).alloc (am _) _⟩
  .rw[a];exact bg.new _ _ _
  .rw[a];exact Lcy.below (bD.loc iO.loc) b ((fd _ _).alloc (am _) _) d
 .have a:l.take 2000=l:=pu (by omega);have e:=ab a;go_enter ym,ntmps12;go_wp2;go_ret;refine⟨_,rfl,⟨A,c, ?_,by rw[e.out];omega, ?_,d⟩,am _,(fd _ _).alloc (am _) _⟩
  .rw[e.out];exact bg.new _ _ _
  .rw[e.out];exact Lcy.below (bD.loc iO.loc) h ((fd _ _).alloc (am _) _) d
end
section
variable {β:Bool}
open Go.RowKit
structure ass (w:World) (lo hi g:Nat) (l:List Int) (N:Nat) where
 to:World
 q:Nat
 rd:Rd to lo hi g l q
 ok:bj (λb=>b=g) w to
 lim:q<=N
section
variable {w:World} {lo hi g:Nat} {l:List Int} {N:Nat}
instance axn:bm (ass w lo hi g l N):=⟨λm x=>x.q+m<=N,λ_ _ h=>sD h,λ_ _=>True⟩
variable {P:Program}
variable {ops:Array Oper} {Qt:Act->World->Prop} {i:Nat} {o:Oper} {L:List (Nat×Oper)} {F:List (Nat×(ass w lo hi g l N->Prop))} {Rs:List (jl (ass w lo hi g l N))} {a:Act}
end
end
section
variable {β:Bool}
open Go.RowKit
def Rd.hi_{l:List Int}(h:Rd w Z hi g l p):hi<=g:=by
 obtain⟨A,c,_,_,_,a⟩:=h;exact a
structure aK (w:World) (lo hi g:Nat) (l:List Int) (N s ia ic bk:Nat) (fx:Bool) (ty:TypeId) (n:Nat) (S:Nat->Prop) (pre:List Nat) where
 to:World
 q:Nat
 box:Option Nat
 done:Bool
 res:Option Value
 rd:Rd to lo hi g l q
 ok:bj (λb=>b=g\/box=some b\/(done=true/\S b)) w to
 lim:q<=N
 bw:∀b,box=some b->b=bk\/w.heap.size<=b
 bf:fx=true->box=some bk
 sf:∀b,S b->b≠g/\hi<=b/\b≠bk/\b<w.heap.size
 bx:∀b,box=some b->b≠g/\hi<=b/\∃cs:Array Value,cs.size=n/\bg to b ty cs
section
variable {w:World} {lo hi g:Nat} {l:List Int} {N s ia ic bk:Nat} {fx:Bool} {ty:TypeId} {n:Nat} {S:Nat->Prop} {pre:List Nat}
instance axo:bm (aK w lo hi g l N s ia ic bk fx ty n S pre):=⟨λm x=>x.q+m<=N,λ_ _ h=>sD h,λi x=>(i=s\/i∈pre->x.done=false)/\(i=ia->x.box=none)/\(i=ic->x.res=none)⟩
structure aK.le (x y:aK w lo hi g l N s ia ic bk fx ty n S pre):Prop where
 fE:bj (λb=>b=g\/(x.done=false/\(x.box=some b\/S b))) x.to y.to
 done:x.done=true->y.done=true
 box:∀b,x.box=some b->y.box=some b
 fresh:∀b,x.box=none->y.box=some b->x.to.heap.size<=b
 res:∀v,x.res=some v->y.res=some v
def aK.le_refl(x:aK w lo hi g l N s ia ic bk fx ty n S pre):aK.le x x:=⟨bj.refl _ _,id,λ_ h=>h,λb c a=>(by rw[c] at a;cases a),λ_ h=>h⟩
def aK.free(x:aK w lo hi g l N s ia ic bk fx ty n S pre)(b:Nat):Prop:=b<x.to.heap.size/\b≠g/\x.box≠some b/\¬S b
def aK.le.free{x y:aK w lo hi g l N s ia ic bk fx ty n S pre}(h:aK.le x y)(a:x.free b):y.free b:=by
 refine⟨bd a.1 h.fE.size,a.2.1,λe=> ?_,a.2.2.2⟩;cases d:x.box with
 |none=>have:=h.fresh b d e;have:=a.1;omega
 |some c=>
  have:=h.box c d;rw[e] at this;cases this;exact a.2.2.1 d
def aK.le.not{x y:aK w lo hi g l N s ia ic bk fx ty n S pre}(_:aK.le x y)(a:x.free b):¬(b=g\/(x.done=false/\(x.box=some b\/S b))):=by
 rintro(rfl|⟨_,h|h⟩)
 .exact a.2.1 rfl
 .exact a.2.2.1 h
 .exact a.2.2.2 h
def aK.le.full{x y:aK w lo hi g l N s ia ic bk fx ty n S pre}(h:aK.le x y){t:TypeId}{cs:Array Value}(a:x.done=true)(e:x.box=some b)(c:bg x.to b t cs):y.done=true/\y.box=some b/\bg y.to b t cs:=by
 refine⟨h.done a,h.box b e,(h.fE.block b c.lt ?_).trans c⟩;rintro(rfl|⟨d,_⟩)
 .exact(x.bx _ e).1 rfl
 .rw[a] at d;cases d
def abB{p:Addr}(h:w.cell? p=some v){x:aK w lo hi g l N s ia ic bk fx ty n S pre}(c:p.block≠g)(b:p.block≠bk)(d:¬S p.block):x.to.cell? p=some v:=by
 have a:=ut w p h;have b:x.box≠some p.block:=λe=>by
  rcases x.bw _ e with h|h
  .exact b h
  .omega
 unfold World.cell? at h ⊢;rw[x.ok.block p.block a (by
  rintro(h|h|⟨_,h⟩)
  .exact c h
  .exact b h
  .exact d h)]
 exact h
def amm    {r:Act} (k q:Nat) (f t:List Nat) (v:P.follows .mixedOrders=true) (I:ajs T k f t=true) (y:aeV T.toArray k r.tmps.size=true)
  (D:Rd w lo hi g l q) (J:q+k<=N) (a:Option Nat) (H:∀b,a=some b->b=bk) (p:fx=true->a=some bk) (o:∀b,S b->b≠g/\hi<=b/\b≠bk/\b<w.heap.size) (j:∀b,a=some b->b≠g/\hi<=b/\∃c:Array Value,c.size=n/\bg w b ty c) (u:a=none\/k<=ia)
  (h:wpQuiet P T.toArray (λz=>∃x:aK w lo hi g l N s ia ic bk fx ty n S pre,z=x.to) (λG=>∃F:List (jl (aK w lo hi g l N s ia ic bk fx ty n S pre)),dg P T.toArray (aK.to (w:=w)) (aK.le (w:=w)) (wpList P T.toArray Q (T.drop k)) (pick T t) [] F G) ((pick T f).map (·.2)) r):(Code.region Z T.toArray true).wp P Q r w:=
 abr (aK.to (w:=w)) (aK.le (w:=w)) aK.le_refl k f t v I y
  ⟨w.drew,q,a,false,none,D.drew,(bj.refl _ _).drew,by omega,λb d=>.inl (H b d),p,o,λb d=>by
   obtain⟨C,A,c,E,B⟩:=j b d;exact⟨C,A,c,E,B⟩⟩ (λm v=>by show q+m<=N;omega) (λi hi=>And.intro (λ_=>rfl) (And.intro (λe=>by
   rcases u with h|h
   .exact h
   .omega) λ_=>rfl)) rfl h
def aK.on(x:aK w lo hi g l N s ia ic bk fx ty n S pre){w2:World}(hb:Below x.to.heap.size x.to w2):aK w lo hi g l N s ia ic bk fx ty n S pre:=
 ⟨w2,x.q,x.box,x.done,x.res,x.rd.fE (bj.aN (S:=λ_=>False) hb) (λ_ _ h=>h),x.ok.trans (bj.aN (S:=λb=>b=g\/x.box=some b\/(x.done=true/\S b)) hb) λ_ _ e=>e,x.lim,x.bw,x.bf,x.sf,λb h=>by
  obtain⟨f,a,d,i,c⟩:=x.bx b h;exact⟨f,a,d,i,ak c hb⟩⟩
def aK.told(x:aK w lo hi g l N s ia ic bk fx ty n S pre){w2:World}(hb:Below x.to.heap.size x.to w2)(v:Value):aK w lo hi g l N s ia ic bk fx ty n S pre:={x.on hb with res:=some v}
def aK.avA(x:aK w lo hi g l N s ia ic bk fx ty n S pre)(a:Below x.to.heap.size x.to w2)(v:Value)(d:x.res=none):aK.le x (x.told a v):=⟨bj.aN a,id,λ_ h=>h,λb e c=>(by
 have:x.box=some b:=c;rw[e] at this;cases this),λu h=>by rw[d] at h;cases h⟩
def aK.took(x:aK w lo hi g l N s ia ic bk fx ty n S pre){w2:World}(hr:Rd w2 lo hi g l (x.q+1))(hc:bj (λb=>b=g) x.to w2)(hl:x.q+1<=N):aK w lo hi g l N s ia ic bk fx ty n S pre:=
 ⟨w2,x.q+1,x.box,x.done,x.res,hr,x.ok.trans (hc.mono λb _ h=>.inl h) λ_ _ e=>e,hl,x.bw,x.bf,x.sf,λb h=>by
  obtain⟨a,c,f,i,d⟩:=x.bx b h;exact⟨a,c,f,i,aP d hc a⟩⟩
def aK.avB(x:aK w lo hi g l N s ia ic bk fx ty n S pre)(e:Rd w2 lo hi g l (x.q+1))(a:bj (λb=>b=g) x.to w2)(c:x.q+1<=N):aK.le x (x.took e a c):=⟨a.mono λb _ h=>.inl h,id,λ_ h=>h,λb f d=>(by
 have:x.box=some b:=d;rw[f] at this;cases this),λ_ h=>h⟩
def aK.made(x:aK w lo hi g l N s ia ic bk fx ty n S pre)(hx:x.box=none)(cs:Array Value)(hn:cs.size=n)(hg:hi<=x.to.heap.size):aK w lo hi g l N s ia ic bk fx ty n S pre:=
 ⟨x.to.alloc (.cells cs ty),x.q,some x.to.heap.size,x.done,x.res,x.rd.alloc _,(x.ok.mono λb _ h=>by rw[hx] at h;exact h.elim .inl λh=>h.elim (λh=>by cases h) λh=>.inr (.inr h)).alloc _,x.lim,λb h=>(by cases h;exact .inr x.ok.size),λh=>(by rw[x.bf h] at hx;cases hx),x.sf,λb h=>by
  cases h;exact⟨Nat.ne_of_gt x.rd.lt,hg,cs,hn,bg.new _ _ _⟩⟩
def aK.avC(x:aK w lo hi g l N s ia ic bk fx ty n S pre)(a:x.box=none)(cs:Array Value)(e:cs.size=n)(c:hi<=x.to.heap.size):aK.le x (x.made a cs e c):=⟨(bj.refl _ _).alloc _,id,λb h=>(by rw[a] at h;cases h),λb _ d=>(by
 have:some x.to.heap.size=some b:=d;cases this;exact am _),λ_ h=>h⟩
def aK.fill(x:aK w lo hi g l N s ia ic bk fx ty n S pre){b:Nat}(hx:x.box=some b){w2:World}(hc:bj (λc=>c=b) x.to w2){cs:Array Value}(hn:cs.size=n)(hk:bg w2 b ty cs):aK w lo hi g l N s ia ic bk fx ty n S pre:=
 ⟨w2,x.q,x.box,true,x.res,x.rd.fE hc (λc h e=>by
  obtain⟨a,d,_⟩:=x.bx b hx;rcases h with h|h
  .omega
  .exact a (e▸h)),(x.ok.mono (T:=λb=>b=g\/x.box=some b\/(true=true/\S b)) λc _ h=>h.elim .inl λh=>h.elim (λh=>.inr (.inl h)) λh=>.inr (.inr ⟨rfl,h.2⟩)).trans (hc.mono λc _ h=>.inr (.inl (by rw[hx,h]))) λ_ _ e=>e,x.lim,x.bw,x.bf,x.sf,λc h=>by
  rw[hx] at h;cases h;exact⟨(x.bx _ hx).1,(x.bx _ hx).2.1,cs,hn,hk⟩⟩
def aK.avD(x:aK w lo hi g l N s ia ic bk fx ty n S pre)(a:x.box=some b)(e:bj (λc=>c=b) x.to w2){cs:Array Value}(j:cs.size=n)(i:bg w2 b ty cs)(f:x.done=false):aK.le x (x.fill a e j i):=
 ⟨e.mono λc _ h=>.inr ⟨f,.inl (by rw[a,h])⟩,λ_=>rfl,λ_ h=>h,λc d k=>(by rw[a] at d;cases d),λ_ h=>h⟩
variable {P:Program} {ops:Array Oper} {Qt:Act->World->Prop} {i:Nat} {o:Oper} {L:List (Nat×Oper)} {F:List (Nat×(aK w lo hi g l N s ia ic bk fx ty n S pre->Prop))} {Rs:List (jl (aK w lo hi g l N s ia ic bk fx ty n S pre))} {a:Act}
def aoa (R:Value->Prop) (c:o.dst.isSome=true)
  (j:∀x:aK w lo hi g l N s ia ic bk fx ty n S pre,aco F o x->∀b:Exit->Act->World->Prop,(∀v,R v->b .normal (a.put o.dst v) x.to)->wpList P ops b [o] a x.to)
  (e:∀v,dg P ops (aK.to (w:=w)) (aK.le (w:=w)) Qt L ((i,λ_=>R v)::F) Rs (a.put o.dst v)):dg P ops (aK.to (w:=w)) (aK.le (w:=w)) Qt ((i,o)::L) F (.any (λv _=>R v)::Rs) a:=
 mR (to:=aK.to (w:=w)) (le:=aK.le (w:=w)) (λv _=>R v) (.inl c) (λ_ _ _ h _=>h) (λx p m d q b k=>j x p b λv f=>
  k v x (aK.le_refl x) (sD d) (λ_ _ _ h=>h) f) e
def avE (R:Value->Prop) (j:o.dst.isSome=true)
  (z:∀x:aK w lo hi g l N s ia ic bk fx ty n S pre,aco F o x->x.q<N->∀c:Exit->Act->World->Prop,(∀v d,Rd d lo hi g l (x.q+1)->bj (λb=>b=g) x.to d->R v->c .normal (a.put o.dst v) d)->wpList P ops c [o] a x.to)
  (p:∀v,dg P ops (aK.to (w:=w)) (aK.le (w:=w)) Qt L ((i,λ_=>R v)::F) Rs (a.put o.dst v)):dg P ops (aK.to (w:=w)) (aK.le (w:=w)) Qt ((i,o)::L) F (.any (λv _=>R v)::Rs) a:=
 mR (to:=aK.to (w:=w)) (le:=aK.le (w:=w)) (λv _=>R v) (.inl j) (λv x y h _=>h) (λx r m t A c q=>by
  have k:x.q+(m+1)<=N:=t;exact z x r (by omega) c λv d e f u=>
   q v (x.took e f (by omega)) (x.avB e f (by omega)) (by show x.q+1+m<=N;omega) (λ_ _ _ h=>h) u) p
def avF (R:Value->aK w lo hi g l N s ia ic bk fx ty n S pre->Prop) (p:o.dst.isSome=true) (hi':i=ic) (t:∀v x y,R v x->aK.le x y->R v y)
  (D:∀x:aK w lo hi g l N s ia ic bk fx ty n S pre,aco F o x->∀d:Exit->Act->World->Prop,(∀v f (c:Below x.to.heap.size x.to f),R v (x.told c v)->d .normal (a.put o.dst v) f)->wpList P ops d [o] a x.to)
  (r:∀v,dg P ops (aK.to (w:=w)) (aK.le (w:=w)) Qt L ((i,λx=>R v x/\x.res=some v)::F) Rs (a.put o.dst v)):dg P ops (aK.to (w:=w)) (aK.le (w:=w)) Qt ((i,o)::L) F (.any (λv x=>R v x/\x.res=some v)::Rs) a:=
 mR (to:=aK.to (w:=w)) (le:=aK.le (w:=w)) (λv x=>R v x/\x.res=some v) (.inl p) (λv x y h k=>⟨t v x y h.1 k,k.res v h.2⟩) (λx z m A q d u=>D x z d λv f c B=>
  u v (x.told c v) (x.avA c v (q.2.2 hi')) (sD A) (λj C _ b=>⟨b.1,b.2.1,λe=>absurd (e.trans hi'.symm) C⟩) ⟨B,rfl⟩) r
def ah9 (R:Value->Value->Prop) (c:o.dst.isSome=true)
  (q:∀x:aK w lo hi g l N s ia ic bk fx ty n S pre,aco F o x->∀b:Exit->Act->World->Prop,(∀v u,x.res=some u->R v u->b .normal (a.put o.dst v) x.to)->wpList P ops b [o] a x.to)
  (d:∀v,dg P ops (aK.to (w:=w)) (aK.le (w:=w)) Qt L ((i,λx=>∃u,x.res=some u/\R v u)::F) Rs (a.put o.dst v)):dg P ops (aK.to (w:=w)) (aK.le (w:=w)) Qt ((i,o)::L) F (.any (λv x=>∃u,x.res=some u/\R v u)::Rs) a:=
 mR (to:=aK.to (w:=w)) (le:=aK.le (w:=w)) (λv x=>∃u,x.res=some u/\R v u) (.inl c) (λ_ _ _ ⟨u,h,hr⟩ hl=>⟨u,hl.res u h,hr⟩) (λx j m k r b f=>q x j b λv u e p=>
  f v x (aK.le_refl x) (sD k) (λ_ _ _ h=>h) ⟨u,e,p⟩) d
def ast (q:o.dst.isSome=true) (hi':i=ia) (t:ia≠s) (z:hi<=w.heap.size) (cs:Array Value) (p:cs.size=n)
  (D:∀x:aK w lo hi g l N s ia ic bk fx ty n S pre,∀k:Exit->Act->World->Prop,(k .normal (a.put o.dst (.pointer (some ⟨x.to.heap.size,0,none⟩))) (x.to.alloc (.cells cs ty)))->wpList P ops k [o] a x.to)
  (u:∀v,dg P ops (aK.to (w:=w)) (aK.le (w:=w)) Qt L ((i,λx=>∃b,v=.pointer (some ⟨b,0,none⟩)/\w.heap.size<=b/\x.box=some b)::F) Rs (a.put o.dst v)):dg P ops (aK.to (w:=w)) (aK.le (w:=w)) Qt ((i,o)::L) F (.any (λv x=>∃b,v=.pointer (some ⟨b,0,none⟩)/\w.heap.size<=b/\x.box=some b)::Rs) a:=
 mR (to:=aK.to (w:=w)) (le:=aK.le (w:=w)) (λv x=>∃b,v=.pointer (some ⟨b,0,none⟩)/\w.heap.size<=b/\x.box=some b) (.inl q) (λv x y ⟨b,e,hb,h⟩ hle=>⟨b,e,hb,hle.box b h⟩) (λx E m B r k A=>by
  have d:=r.2.1 hi';have f:hi<=x.to.heap.size:=ap z x.ok.size;refine D x k (A _ (x.made d cs p f) (x.avC d cs p f) (sD B) (λj C _ c=>⟨c.1,λe=>absurd (e.trans hi'.symm) C,c.2.2⟩) ⟨_,rfl,x.ok.size,rfl⟩)) u
def asu (R:aK w lo hi g l N s ia ic bk fx ty n S pre->Prop) (hi':i=s) (A:∀j∈pre,Behind ops i j) (K:∀x y,R x->aK.le x y->R y)
  (I:∀x:aK w lo hi g l N s ia ic bk fx ty n S pre,aco F o x->x.done=false->∀k:Exit->Act->World->Prop,(∀b (z:x.box=some b) q (r:bj (λc=>c=b) x.to q) (t:Array Value) (p:t.size=n) (f:bg q b ty t),R (x.fill z r p f)->k .normal (a.put o.dst undef) q)->wpList P ops k [o] a x.to)
  (E:o.dst=none)
  (G:dg P ops (aK.to (w:=w)) (aK.le (w:=w)) Qt L ((i,λx=>R x)::F) Rs (a.put o.dst undef)):dg P ops (aK.to (w:=w)) (aK.le (w:=w)) Qt ((i,o)::L) F (.any (λ_ x=>R x)::Rs) a:=
 mR (to:=aK.to (w:=w)) (le:=aK.le (w:=w)) (λ_ x=>R x) (.inr λ_ _ _ h=>h) (λ_ x y h B=>K x y h B) (λx z m M D k H=>I x z (D.1 (.inl hi')) k λb d q r t p f J=>by
  exact H undef (x.fill d r p f) (x.avD d r p f (D.1 (.inl hi'))) (sD M) (λj O C u=>⟨λe=>e.elim (λe=>absurd (e.trans hi'.symm) O) λe=>absurd (A j e) C,u.2⟩) J) (λv=>by
  have e:a.put o.dst v=a.put o.dst undef:=by rw[E];rfl
  rw[e];exact G)
def ayR(h:∀x:aK w lo hi g l N s ia ic bk fx ty n S pre,dQ F x->Qt a x.to):dg P ops (aK.to (w:=w)) (aK.le (w:=w)) Qt [] F [] a:=ahP h
end
end
section
variable {β:Bool}
open Go.RowKit
def iJ:Flat ByteArray:=⟨1,λs=>[.string s],λs=>s.size<=maxLen,λ_=>rfl,λs u a=>by rw[mw.1 a];rfl,by decide⟩
abbrev dE:gG (List ByteArray):=eI 9 (bV iJ) 1
def dE.ar:dL dE [9]:=eI.ar (bV.ar iJ)
def acH:iu (ah β) 83 9 1 16:=iu.mk' zt (z:=.string ⟨#[]⟩) (by kernel_rfl) rfl (by decide) (by decide)
def lZ(h:dE w Z hi xs [.slice A n c]){x:ByteArray}(f:xs[k]?=some x) :
  ∃b a,A=some ⟨b,a,none⟩/\Z<=b/\b<hi/\x.size<=maxLen/\w.cell? ⟨b,a+k,none⟩=some (.string x):=by
 obtain⟨b,a,l,rfl,g,e,j,⟨rfl,d⟩,i⟩:=h.1.at_ f;exact⟨b,a,rfl,g,e,d,by simpa using i 0 _ rfl⟩
def Rd.blk{l:List Int}(h:Rd w Z hi g l p):∃b,bg w g 74 b:=by
 obtain⟨A,c,a,_⟩:=h;exact⟨_,a⟩
def avG{l:List Int}(h:dE w fI hi' xs cs)(c:Rd w Z hi g l p)(d:bj (λb=>b=g) w w'):dE w' fI hi' xs cs:=
 dE.ar.fE h d λb _ _ ⟨t,ht,ds,hd⟩ e=>by
  obtain⟨f,a⟩:=c.blk;subst e;have:=cI hd a;rw[mw.1 ht] at this;exact absurd this (by decide)
def aia(h:xs.all (λs=>decide (s.size<=9))=true):∀s∈xs,s.size<=9:=λs a=>sZ (lE.1 h s a)
def oJ(h:xs.all (λs=>decide (s.size<=9))=true):∀s∈xs,iJ.good s:=λs a=>by
 have:=aia h s a;show s.size<=maxLen;unfold maxLen;omega
def ayS(xs:List ByteArray)(w:World)(lo hi g:Nat)(l:List Int)(p:Nat)(e:Ending)(w':World):Prop:=∃s∈xs,e=.returned (.string s)/\Rd w' lo hi g l (p+1)/\bj (λb=>b=g) w w'
def aib(xs:List ByteArray)(B:0<xs.length/\xs.length<=100)(v:Value)(l:List Int)(g p n hi fI hi':Nat)(w:World)(j:Rd w n hi g l p)(z:p<=1000000)(h:dE w fI hi' xs [v]) :
  Calls (ah β) 35 #[.pointer (some ⟨g,0,none⟩),v] w (ayS xs w n hi g l p):=by
 obtain⟨A,c,rfl⟩:=h.form;go_enter Ad,ntmps35;go_wp2;refine(di _ _ _ _ _ _ _ j (by omega)).mono ?_;rintro e x ⟨m,rfl,⟨_,u⟩,i,a⟩;obtain⟨o,C⟩:=u (by omega);obtain⟨k,rfl⟩:=qn o;obtain⟨s,d⟩:=aq (l:=xs) (k:=k) (by omega);have q:=avG h j a;obtain⟨b,t,rfl,_,_,r,f⟩:=lZ q d;replace d:=ab d;have y:k<xs.length:=by omega
 go_wp2;go_ret;exact⟨s,db d.out,rfl,i,a⟩
def apF(w:World)(lo hi g:Nat)(l:List Int)(p:Nat)(e:Ending)(w':World):Prop:=∃s q,e=.returned (.string s)/\s.size<=9/\Rd w' lo hi g l q/\q<=p+3/\bj (λb=>b=g) w w'
def apG(xs:List ByteArray)(s:ByteArray)(v:Value)(w:World)(t hi:Nat)(h:dE w t hi xs [v])(b:Bool)(d:b=true↔s∈xs) :
  Calls (ah β) 100 #[v,.string s] w λe p=>e=.returned (.bool b)/\w=p:=by
 replace d:=ab d;obtain⟨A,c,rfl⟩:=h.form;obtain⟨_,z,r⟩:=h.len_;unfold maxLen at r;go_enter zn,ntmps100;go_wp2
 go_loop [5] (λi=>∃k:Nat,k<=xs.length/\i=.int .i64 k/\s∉xs.take k) (λi=>xs.length-(intOf i).toNat)
 case atStart=>exact⟨0,eg _,rfl,by simp⟩
 case round=>
  obtain⟨k,y,rfl,f⟩:=hrel;replace f:=ab f;by_cases g:k<xs.length
  .obtain⟨x,a⟩:=aq g;obtain⟨u,q,rfl,_,_,_,m⟩:=lZ h a;replace a:=ab a;by_cases o:x=s
   .subst o;have n:=db a.out;have j:=ab n;go_wp2;go_ret;exact⟨aD (by rw[eq_comm,d.out];exact j.out),rfl⟩
   .have B:=abn o;have l:s∉xs.take (k+1):=by
     rw[kw a.out];simp[f.out,sB o]
    replace l:=ab l;go_wp2
    go_round
    case rel=>exact⟨k+1,by omega,by go_num,l.out⟩
    simp[intOf];omega
  .obtain rfl:k=xs.length:=by omega
   have n:s∉xs:=by have:=f.out;rwa [gc] at this
   have j:=ab n;go_wp2;go_ret;exact⟨aD (by rw[eq_comm,<-nf,d.out];exact j.out),rfl⟩
end
section
variable {β:Bool}
open Go.RowKit
def atF(l:List Nat)(a:Nat):Nat->Nat->Nat
 |0,_=>min (a+8) l.length
 |f+1,n=>if l.length<=a+n then l.length else if aac l (a+n)=true then a+n else atF l a f (n+1)
def pH(l:List Nat)(a:Nat):Nat:=atF l a 5 3
def afj{l:List Nat}{a:Nat}(b:a<l.length):∀(f n:Nat),0<n->n+f<=8->a<atF l a f n/\atF l a f n<=l.length/\atF l a f n<=a+8
 |0,n,_,_=>by show a<min _ _/\min _ _<=_/\min _ _<=_;omega
 |f+1,n,h0,h8=>by
  unfold atF;split
  .omega
  .split
   .omega
   .exact afj b f (n+1) (by omega) (by omega)
def eO{l:List Nat}{a:Nat}(b:a<l.length):a<pH l a/\pH l a<=l.length/\pH l a<=a+8:=afj b 5 3 (by omega) (by omega)
def dF(l:List Nat):Nat->List Int->Nat->Prop
 |a,[],b=>a=b
 |a,x::xs,b=>a<l.length/\x=(pH l a:Int)/\dF l (pH l a) xs b
def dF.snoc{l:List Nat}:∀{a:Nat} {c:List Int} {b:Nat},dF l a c b->b<l.length->dF l a (c++[(pH l b:Int)]) (pH l b)
 |a,[],b,h,h1=>by
  have h:a=b:=h;subst h;exact⟨h1,rfl,rfl⟩
 |a,x::c,b,⟨h2,h3,h4⟩,h1=>⟨h2,h3,h4.snoc h1⟩
def dF.len{l:List Nat}:∀{a:Nat} {c:List Int} {b:Nat},dF l a c b->a+c.length<=b
 |a,[],b,h=>by
  have h:a=b:=h;simp;omega
 |a,x::c,b,⟨h1,_,h⟩=>by
  have:=h.len;have:=(eO h1).1;simp only[fi];omega
def dF.at_{l:List Nat}:∀{a:Nat} {d:List Int} {b k m:Nat} {x:Int},dF l a d b->dF l a (d.take k) m->d[k]?=some x->x=(pH l m:Int)/\m<l.length/\dF l a (d.take (k+1)) (pH l m)
 |a,[],b,k,m,x,_,_,c=>by simp at c
 |a,y::d,b,0,m,x,⟨h1,e,h3⟩,f,c=>by
  have f:a=m:=f;subst f;have c:y=x:=by simpa using c
  subst c;exact⟨e,h1,h1,e,rfl⟩
 |a,y::d,b,k+1,m,x,⟨h1,e,h3⟩,⟨h1',e',f⟩,c=>by
  obtain⟨j,g,i⟩:=dF.at_ h3 f (by simpa using c);exact⟨j,g,h1,e,i⟩
def dF.alz{l:List Nat}(f:l.length<=maxLen):∀{a:Nat} {d:List Int} {b:Nat},dF l a d b->∀x∈d,cf x
 |a,[],b,_,x,c=>by cases c
 |a,y::d,b,⟨h1,e,h⟩,x,c=>by
  have:=(eO h1).2.1;unfold maxLen at f;rcases mu.1 c with rfl|c
  .rw[e];unfold cf;omega
  .exact h.alz f x c
def agN(l:List Nat):Nat->Nat->List Int
 |0,_=>[]
 |f+1,a=>if a<l.length then(pH l a:Int)::agN l f (pH l a) else[]
def dF.uniq{l:List Nat}:∀{a:Nat} {b:List Int} {f:Nat},dF l a b l.length->l.length-a<=f->b=agN l f a
 |a,[],f,h,_=>by
  have h:a=l.length:=h;cases f with
  |zero=>rfl
  |succ f=>show[]=if _ then _ else _;rw[be (by omega)]
 |a,x::b,f,⟨h1,e,h⟩,hf=>by
  have:=(eO h1).1;cases f with
  |zero=>omega
  |succ f=>
   show x::b=if _ then _ else _
   rw[du h1,e,<-h.uniq (f:=f) (by omega)]
def adF{l:List Nat}:∀{f a:Nat},a<=l.length->l.length-a<=f->dF l a (agN l f a) l.length
 |0,a,h1,h2=>by show a=l.length;omega
 |f+1,a,h1,h2=>by
  show dF l a (if a<l.length then(pH l a:Int)::agN l f (pH l a) else[]) l.length;by_cases b:a<l.length
  .rw[du b];have:=eO b;exact⟨b,rfl,adF (by omega) (by omega)⟩
  .rw[be b];show a=l.length;omega
def bY(s:ByteArray):Nat->List Int->List ByteArray
 |_,[]=>[]
 |a,x::xs=>s.extract a x.toNat::bY s x.toNat xs
def aa3{s:ByteArray}{l:List Nat}:∀{a:Nat} {b:List Int} {m q:Nat},dF l a b m->bY s a (b++[(q:Int)])=bY s a b++[s.extract m q]
 |a,[],m,q,h=>by
  have h:a=m:=h;subst h;rfl
 |a,x::b,m,q,⟨_,e,h⟩=>by
  show s.extract a x.toNat::bY s x.toNat (b++[(q:Int)])=s.extract a x.toNat::(bY s x.toNat b++_);rw[e,tf,aa3 h]
def oK(s:ByteArray):∀(a:Nat) (b:List Int),(bY s a b).length=b.length
 |_,[]=>rfl
 |a,x::b=>by show(bY s x.toNat b).length+1=_;rw[oK];rfl
def aa4(s:ByteArray):∀(c:List Int) (a:Nat),∀x∈bY s a c,x.size<=s.size
 |[],_,x,b=>by cases b
 |z::c,a,x,b=>by
  have b:x∈s.extract a z.toNat::bY s z.toNat c:=b;rcases mu.1 b with rfl|b
  .rw[<-aM,cV,qj,ef,aM];omega
  .exact aa4 s c _ x b
def im(s:ByteArray):List ByteArray:=bY s 0 (agN (bs s) s.size 0)
def aob{xs:List Int}(h:dF (bs s) 0 xs s.size):bY s 0 xs=im s:=by
 rw[<-aM] at h;unfold im;rw[h.uniq (f:=s.size) (by rw[aM];omega)]
def asv{q : Nat}(a:(bs s).all pY=true)(e:m<q)(d:q<=m+8)(f:q<=s.size):bA (bs (s.extract m q)):=by
 have b:(((bs s).take q).drop m).length=q-m:=by rw[qj,ef,aM];omega
 rw[cV];refine⟨⟨by omega,by omega⟩, ?_⟩;rw[lE] at a ⊢;exact λx c=>a x (qf (uX c))
def afk(s:ByteArray){q : Nat}(a:q<=s.size):(s.extract m q).size=q-m:=by
 rw[<-aM,cV,qj,ef,aM];omega
def aad{s:ByteArray}(g:(bs s).all pY=true):∀{a:Nat} {d:List Int} {b:Nat},dF (bs s) a d b->∀x∈bY s a d,bA (bs x)
 |a,[],b,_,x,c=>by cases c
 |a,y::d,b,⟨h1,e,h⟩,x,c=>by
  obtain⟨i,f,j⟩:=eO h1;rw[aM] at f;have c:x∈s.extract a y.toNat::bY s y.toNat d:=c;rw[e,tf] at c;rcases mu.1 c with rfl|c
  .exact asv g i j f
  .exact aad g h x c
def afl(s:ByteArray):dF (bs s) 0 (agN (bs s) s.size 0) s.size:=by
 have:=adF (l:=bs s) (f:=s.size) (a:=0) (eg _) (by rw[aM];omega)
 rwa [aM] at this
def ma(a:(bs s).all pY=true):∀x∈im s,bA (bs x):=aad a (afl s)
def acI(s:ByteArray):(im s).length<=s.size:=by
 have:=(afl s).len;unfold im;rw[oK];omega
def iV(l:List ByteArray):List Nat:=l.flatMap bs
def acJ{s:ByteArray}:∀{a:Nat} {c:List Int} {b:Nat},dF (bs s) a c b->iV (bY s a c)=((bs s).take b).drop a
 |a,[],b,h=>by
  have h:a=b:=h;subst h;show[]=_;rw[rE (by rw[ef];omega)]
 |a,x::c,b,⟨h1,e,h⟩=>by
  obtain⟨g,i,j⟩:=eO h1;have d:=h.len;show bs (s.extract a x.toNat)++iV (bY s x.toNat c)=_;rw[e,tf,acJ h,cV];have f:((bs s).take b).drop a=(((bs s).take b).take (pH (bs s) a)).drop a++((bs s).take b).drop (pH (bs s) a):=by
   conv=>lhs;rw[<-sU (pH (bs s) a) ((bs s).take b)]
   rw[List.drop_append_of_le_length (by rw[ef,ef];omega)]
  rw[f,wB,qR (show pH (bs s) a<=b by omega)]
def apH(s:ByteArray):iV (im s)=bs s:=by
 unfold im;rw[acJ (afl s),rD,<-aM,gc]
def asw(s:ByteArray)(p:Nat)(B:p<s.size)(D:s.size<=1000000)(w:World) :
  Calls (ah β) 158 #[.string s,.int .i64 p] w λe v=>e=.returned (.int .i64 (pH (bs s) p:Nat))/\Below w.heap.size w v:=by
 have q:s.size<=maxLen:=by unfold maxLen;omega
 go_enter yR,ntmps158;go_wp2;go_loopw [5] (λr wr=>∃k f:Nat,k+f=8/\3<=k/\r=.int .i64 k/\pH (bs s) p=atF (bs s) p f k/\Below w.heap.size w wr) (λr _=>8-(intOf r).toNat)
 case atStart=>exact⟨3,5,rfl,by omega,rfl,rfl,fd _ _⟩
 case round=>
  obtain⟨k,f,y,C,rfl,b,d⟩:=hrel;replace b:=ab b;by_cases A:k<8
  .obtain⟨g,rfl⟩:∃g,f=g+1:=⟨f-1,by omega⟩;have a:atF (bs s) p (g+1) k=if s.size<=p+k then s.size else if aac (bs s) (p+k)=true then p+k else atF (bs s) p g (k+1):=by
    show(if(bs s).length<=p+k then(bs s).length else _)=_;rw[aM]
   have HS:=ab a;clear a;by_cases j:s.size<=p+k
   .have n:=dk (show(s.size:Int)<=(p:Int)+(k:Int) by omega);go_wp2;go_ret;exact⟨by rw[b.out,HS.out,du j];rfl,d⟩
   .have n:=da (show ¬((s.size:Int)<=(p:Int)+(k:Int)) by omega);rw[be j] at HS;obtain⟨i,u⟩:∃m,m=p+k:=⟨_,rfl⟩;have x:(p:Int)+(k:Int)=((i:Nat):Int):=by omega
    have o:3<=i/\i<s.size:=by omega
    rw[x] at n;rw[<-u] at HS;clear u;go_wp2;refine(amk s i o q wr).mono ?_;rintro e z ⟨rfl,t⟩;cases l:aac (bs s) i with
    |true=>
     have c:=ab (b.out.trans (HS.out.trans (du l)));clear l;go_wp2;go_ret;exact⟨by rw[c.out];rfl,ag d t⟩
    |false=>
     have c:=ab (b.out.trans (HS.out.trans (be (by rw[l];exact qA))));clear l;go_wp2;go_roundw
     case rel=>exact⟨k+1,g,by omega,by omega,by go_num,c.out,ag d t⟩
     simp[intOf];omega
  .obtain rfl:k=8:=by omega
   obtain rfl:f=0:=by omega
   have a:atF (bs s) p 0 8=min (p+8) s.size:=by
    show min (p+8) (bs s).length=_;rw[aM]
   have c:=ab (b.out.trans a);clear a b;by_cases j:p+8<=s.size
   .have n:=dk (show(p:Int)+8<=(s.size:Int) by omega);rw[qR j] at c;go_wp2;go_ret;exact⟨by rw[c.out];simp,d⟩
   .have n:=da (show ¬((p:Int)+8<=(s.size:Int)) by omega);rw[Nat.min_eq_right (by omega)] at c;go_wp2;go_ret;exact⟨by rw[c.out];simp,d⟩
def asx(s:ByteArray)(w:World)(e:Ending)(w':World):Prop:=∃v a,e=.returned v/\aJ gR 3 w' w.heap.size v a/\dF (bs s) 0 a s.size/\Below w.heap.size w w'
def amn(s:ByteArray)(L:s.size<=100000)(w:World) :
  Calls (ah β) 141 #[.string s] w (asx s w):=by
 go_enter yX,ntmps141;go_wp2;have o:=av w (.cells #[] 3);have m:aJ gR 3 (w.alloc (.cells #[] 3)) w.heap.size (.slice (some ⟨w.heap.size,0,none⟩) 0 0) []:=(eG.new w 3 (am _)).own 1;generalize w.alloc (.cells #[] 3)=w0 at *;go_loopw [3,4] (λB u wr=>∃(k:Nat) (g:List Int),k<=s.size/\u=.int .i64 k/\aJ gR 3 wr w.heap.size B g/\dF (bs s) 0 g k/\Below w.heap.size w wr) (λ_ u _=>s.size-(intOf u).toNat)
 case atStart=>exact⟨0,[],eg _,rfl,m,rfl,o⟩
 case round=>
  obtain⟨k,g,G,rfl,p,n,y⟩:=hrel;obtain⟨A,c,rfl⟩:=p.form;by_cases d:k<s.size
  .go_wp2;refine(asw s k d (by omega) wr).mono ?_;rintro e E ⟨rfl,x⟩;have b:=eO (l:=bs s) (a:=k) (by rw[aM];exact d);rw[aM] at b;have J:=n.len;have j:=p.below x;have f:=ag y x;have HC:=ab (n.snoc (by rw[aM];exact d));revert HC b;generalize pH (bs s) k=q;intro b HC;go_wp2_with(at_builtin;refine cx (F:=gR) (v:=.slice A g.length c) rfl (.tmp 13) (.tmp 15) 37 rfl nM (q:Int) rfl j rfl rfl (by omega) f.size ?_;intro K H r t z;obtain⟨D,I,rfl⟩:=r.form;simp only[aE,fi,mT,mc] at r);go_roundw
   case rel=>exact⟨q,g++[(q:Int)],b.2.1,rfl,by simpa using r,HC.out,f.trans (t.below f.size λi M C=>by have:=(j.at_ C).1;omega)⟩
   simp[intOf];omega
  .obtain rfl:k=s.size:=by omega
   go_wp2;go_ret;exact⟨_,g,rfl,p,n,y⟩
def amo(s:ByteArray)(w:World)(e:Ending)(w':World):Prop:=∃v,e=.returned v/\aJ iJ 9 w' w.heap.size v (im s)/\Below w.heap.size w w'
def agO(s:ByteArray)(B:s.size<=100000)(w:World) :
  Calls (ah β) 97 #[.string s] w (amo s w):=by
 go_enter zC,ntmps97;go_wp2;have J:=av w (.cells #[] 9);have C:aJ iJ 9 (w.alloc (.cells #[] 9)) w.heap.size (.slice (some ⟨w.heap.size,0,none⟩) 0 0) []:=(eG.new w 9 (am _)).own 1;generalize w.alloc (.cells #[] 9)=w0 at *;refine(amn s B w0).mono ?_;rintro e w1 ⟨ve,f,rfl,W,a,G⟩;obtain⟨Ae,ce,rfl⟩:=W.form;have j:=C.below G;have l:=ag J G;have z1:=G.size;have a3:=a.len;have H:=W.deep (a.alz (by rw[aM];unfold maxLen;omega)) w0.heap.size;have D:=H.sl (am _);replace a:=ab a;replace j:=ab j;have O:=ab D;replace l:=ab l;clear C J G H D W;go_wp2;go_loopw [3,4,6] (λoo aa Z wr=>∃(k m:Nat),k<=f.length/\m<=s.size/\Z=.int .i64 k/\aa=.int .i64 m/\dF (bs s) 0 (f.take k) m/\aJ iJ 9 wr w.heap.size oo (bY s 0 (f.take k))/\Below w.heap.size w wr/\eI 3 (bV gR) 1 wr w0.heap.size w1.heap.size f [.slice Ae f.length ce]) (λ_ _ Z _=>f.length-(intOf Z).toNat)
 case atStart=>exact⟨0,0,eg _,eg _,rfl,rfl,rfl,j.out,l.out,O.out⟩
 case round=>
  clear j l O;obtain⟨k,m,hk,mD,rfl,rfl,U,g,L,P⟩:=hrel;by_cases V:k<f.length
  .obtain⟨y,z⟩:=aq V;obtain⟨rfl,K,N⟩:=a.out.at_ U z;obtain⟨h1,E,h2⟩:=eO K;rw[aM] at E;have M:bY s 0 (f.take (k+1))=bY s 0 (f.take k)++[s.extract m (pH (bs s) m)]:=by rw[kw z,aa3 U]
   have u:(bY s 0 (f.take k)).length=k:=by rw[oK,ef,qR hk]
   have n:∀x∈bY s 0 (f.take k),x.size<=maxLen:=λx p=>by
    have:=aa4 s _ _ x p;unfold maxLen;omega
   revert M;revert N;revert E;revert h2;revert h1;revert z;generalize pH (bs s) m=q;generalize bY s 0 (f.take k)=xs at g u n ⊢;intro z h1 h2 E N M;obtain⟨A,c,rfl⟩:=g.form;obtain⟨b',X,cs,e0,a1,a2,_,⟨rfl,a0⟩,I⟩:=P.1.at_ z;subst e0;obtain⟨a5,T⟩:=P.2 (by omega) _ _ _ _ rfl;have R:wr.cell? ⟨b',X+k,none⟩=some (.int .i64 (q:Int)):=by simpa using I 0 _ rfl
   have HN:=ab M;have H4:=ab N;have O:=ab P;have HG:=ab n;have a8:(s.extract m q).size<=maxLen:=by rw[afk s E];unfold maxLen;omega
   have a4:=ab u;have a6:xs.length<=100000:=by omega
   clear I M N P U z u K n;have o:∀B:(Value.slice A xs.length c).ownBlock=some b',False:=λB=>by
    obtain⟨ds,hd⟩:=(aJ.deep g (λx p=>HG.out x p) 0).blk B;exact absurd (cI T hd) (by decide)
   replace o:=ab o;have g1:¬((m:Int)<0):=by omega
   have g2:(m:Int)<=(q:Int):=by omega
   have g3:(q:Int)<=(s.size:Int):=by omega
   go_wp2_with(at_builtin;refine cx (F:=iJ) (v:=.slice A xs.length c) rfl (.tmp 16) (.tmp 24) 83 rfl acH (s.extract m q) rfl g rfl rfl (by omega) L.size ?_;intro va wa Y r a7;obtain⟨Aa,ca,rfl⟩:=Y.form;simp only[aE,fi,mT,mc] at Y;have a9:=js R r o.out);go_roundw
   case rel=>
    refine⟨k+1,q,by omega,E,by go_num,rfl,H4.out,by rw[HN.out];simpa using Y,L.trans (r.below L.size λi hi p=>by have:=(g.at_ p).1;omega), ?_⟩;exact(eI.ar (bV.ar gR)).go (λb G b2 ht=>r.block b (by obtain⟨t,_,d,hd⟩:=ht;exact hd.lt) λB=>by
      obtain⟨ds,hd⟩:=(aJ.deep g (λx p=>HG.out x p) 0).blk B;obtain⟨t,S,d2,Q⟩:=ht;have e1:=cI hd Q;rw[mw.1 S] at e1;exact absurd e1 (by decide)) (am _) (am _) O.out
   case measure=>simp[intOf];omega
  .obtain rfl:k=f.length:=by omega
   rw[gc,aob a.out] at g;obtain⟨A,c,rfl⟩:=g.form;go_wp2;go_ret;exact⟨_,rfl,g,L⟩
end
section
variable {β:Bool}
open Go.RowKit
structure Nd where
 p:ByteArray
 b:ByteArray
def nB:Flat Nd:=⟨2,λx=>[.string x.p,.string x.b],λx=>x.p.size<=maxLen/\x.b.size<=maxLen,λ_=>rfl,λx u a=>by simp at a;rcases a with rfl|rfl<;>rfl,by decide⟩
abbrev fX:gG (List Nd):=eI 102 (bV nB) 2
def fX.ar:dL fX [102]:=eI.ar (bV.ar nB)
def oL:iu (ah β) 44 102 2 32:=iu.mk' zu (z:=.agg #[.string ⟨#[]⟩,.string ⟨#[]⟩]) (by kernel_rfl) rfl (by decide) (by decide)
def af1(x:Nd):Prop:=ie x.p=true/\dN x.b=true
def pj:∀{a b c:List UInt8},Op.bytesLess a b=true->Op.bytesLess b c=true->Op.bytesLess a c=true
 |_,[],_,h,_=>by simp[Op.bytesLess] at h
 |_,_::_,[],_,h=>by simp[Op.bytesLess] at h
 |[],_::_,_::_,_,_=>by simp[Op.bytesLess]
 |x::a,y::b,z::c,e,d=>by
  simp only[Op.bytesLess,rm,qT,ff,nF,rK,<-sR] at e d ⊢;rcases e with e|⟨e,g⟩
  .rcases d with d|⟨d,f⟩
   .exact .inl (by omega)
   .exact .inl (by omega)
  .rcases d with d|⟨d,f⟩
   .exact .inl (by omega)
   .exact .inr ⟨by omega,pj g f⟩
def aoc(t:List Nd)(i:Nat)(x:Nd):Prop:=af1 x/\(∀y,0<i->t[i-1]?=some y->Op.bytesLess y.p.toList x.p.toList=true)/\∀k y,k<i->t[k]?=some y->jN y.p x.p=false
def ajW(t:List Nd):Prop:=t.length<=6/\∀i x,t[i]?=some x->aoc t i x
def aej{t:List Nd}(h:∀i x,t[i]?=some x->∀y,0<i->t[i-1]?=some y->Op.bytesLess y.p.toList x.p.toList=true):∀(d k:Nat) {x y:Nd},t[k+d+1]?=some x->t[k]?=some y->Op.bytesLess y.p.toList x.p.toList=true
 |0,k,x,y,hx,hy=>h (k+1) x hx y (by omega) hy
 |d+1,k,x,y,hx,hy=>by
  obtain⟨z,a⟩:∃z,t[k+d+1]?=some z:=aq (by have:=aB hx;omega);exact pj (aej h d k a hy) (h (k+(d+1)+1) x hx z (by omega) a)
def kV(xs:List Nd):Prop:=(∀x∈xs,af1 x)/\xs.length<=6/\xs.Pairwise λa b=>Op.bytesLess a.p.toList b.p.toList=true/\jN a.p b.p=false
def kV.nil:kV []:=⟨λy a=>(by cases a),eg _,.nil⟩
def kV.one{x:Nd}(h:af1 x):kV [x]:=⟨λy a=>by rw[mw.1 a];exact h,by simp,tw _ _⟩
def kV.sub{xs ys:List Nd}(h:kV xs)(a:ys.Sublist xs):kV ys:=⟨λy b=>h.1 y (a.mem b),ap a.length_le h.2.1,h.2.2.sublist a⟩
def ajX{t:List Nd}:ajW t↔kV t:=by
 unfold kV ajW;rw[rG];constructor
 .rintro⟨g,h⟩;refine⟨λx a=> ?_,g,λi j b m d=>⟨?_, ?_⟩⟩
  .obtain⟨i,b⟩:=qW a;exact(h i x b).1
  .exact aej (λi x a=>(h i x a).2.1) (j-i-1) i (by rw[show i+(j-i-1)+1=j by omega];exact jp m) (jp b)
  .exact(h j t[j] (jp m)).2.2 i t[i] d (jp b)
 .rintro⟨p,n,l⟩;refine⟨n,λi x a=>⟨p x (db a),λy g c=> ?_,λk y o c=> ?_⟩⟩
  .obtain⟨e,rfl⟩:=pi.1 a;obtain⟨f,rfl⟩:=pi.1 c;exact(l (i-1) i f e (by omega)).1
  .obtain⟨e,rfl⟩:=pi.1 a;obtain⟨f,rfl⟩:=pi.1 c;exact(l k i f e o).2
def mb{xs:List Nd}(h:fX w Z hi xs [.slice A n c]){x:Nd}(i:xs[k]?=some x) :
  ∃b a,A=some ⟨b,a,none⟩/\Z<=b/\b<hi/\nB.good x/\w.cell? ⟨b,a+k*2,none⟩=some (.string x.p)/\w.cell? ⟨b,a+k*2+1,none⟩=some (.string x.b):=by
 obtain⟨b,a,l,e,j,f,_,⟨rfl,g⟩,d⟩:=h.1.at_ i;exact⟨b,a,e,j,f,g,by simpa using d 0 _ rfl,by simpa using d 1 _ rfl⟩
def apI(xs:List Nd)(v:Value)(w:World)(lo hi:Nat)(h:fX w lo hi xs [v])(X:hi<=w.heap.size)(q:Bool)(g:q=true↔ajW xs) :
  Calls (ah β) 58 #[v] w λe w'=>e=.returned (.bool q)/\Below w.heap.size w w':=by
 have O:=ab g;clear g;obtain⟨A,c,rfl⟩:=h.form;obtain⟨_,hc,Z⟩:=h.1.len_;unfold maxLen at Z;go_enter zS,ntmps58;go_wp2;go_loopw [3] (λii wr=>∃k:Nat,k<=xs.length/\ii=.int .i64 k/\(∀i x,i<k->xs[i]?=some x->aoc xs i x)/\Below w.heap.size w wr) (λii _=>xs.length-(intOf ii).toNat)
 case atStart=>exact⟨0,eg _,rfl,λi x hi=>absurd hi (sT i),fd _ _⟩
 case round=>
  obtain⟨k,hk,rfl,p,G⟩:=hrel;replace p:=ab p;by_cases r:k<xs.length
  .obtain⟨x,D⟩:=aq r;obtain⟨b0,a7,rfl,_,a6,B,E,R⟩:=mb (fX.ar.below h G X) D;replace D:=ab D;cases a:ie x.p
   .replace a:=ab a;have f:q=false:=by
     rw[<-nf,O.out];rintro⟨-,h⟩;have h:=h k x D.out;have h:=h.1.1;rw[a.out] at h;cases h
    have s:=ab f;clear f;go_wp2;have o:=ae E;have n:=ae R;refine aR (by kernel_rfl) (by kernel_rfl) ?_;repeat(go_big_quiet_step (first|(go_at_call 64;refine dT (v:=.bool false) ?_;rw[<-a.out];exact jM x.p B.1 _)))
    refine ip ?_;intro P d;have g:=bH d;clear d o n;go_wp2;go_ret;exact⟨aD s.out.symm,ag G g⟩
   .replace a:=ab a;cases b:dN x.b
    .replace b:=ab b;have f:q=false:=by
      rw[<-nf,O.out];rintro⟨-,h⟩;have h:=h k x D.out;have h:=h.1.2;rw[b.out] at h;cases h
     have s:=ab f;clear f;go_wp2;have o:=ae E;have n:=ae R;refine aR (by kernel_rfl) (by kernel_rfl) ?_;repeat(go_big_quiet_step (first|(go_at_call 64;refine dT (v:=.bool true) ?_;rw[<-a.out];exact jM x.p B.1 _)|(go_at_call 65;refine dT (v:=.bool false) ?_;rw[<-b.out];exact lY x.b B.2 _)))
     refine ip ?_;intro P d;have g:=bH d;clear d o n;go_wp2;go_ret;exact⟨aD s.out.symm,ag G g⟩
    .replace b:=ab b;by_cases a4:k=0
     case' pos=>
      have Y:=da (show ¬(0<k) by omega);have S:af1 x/\∀y,0<k->xs[k-1]?=some y->Op.bytesLess y.p.toList x.p.toList=true:=⟨⟨a.out,b.out⟩,λy h0=>by omega⟩;have lT:=ab S;clear S;clear a4;go_wp2;have o:=ae E;have n:=ae R;refine aR (by kernel_rfl) (by kernel_rfl) ?_;repeat(go_big_quiet_step (first|(go_at_call 64;refine dT (v:=.bool true) ?_;rw[<-a.out];exact jM x.p B.1 _)|(go_at_call 65;refine dT (v:=.bool true) ?_;rw[<-b.out];exact lY x.b B.2 _)))
      refine ip ?_;intro P d;have g:=bH d;clear d o n
     case' neg=>
      obtain⟨k',pF⟩:∃m,m=k-1:=⟨_,rfl⟩;have e1:(k:Int)-1=((k':Nat):Int):=by omega
      have a2:k'<xs.length:=by omega
      have Y:=dk (show 0<k by omega);obtain⟨z,t⟩:=aq a2;obtain⟨b1,W,F,_,_,a8,Q,_⟩:=mb (fX.ar.below h G X) t;simp only[lP,qB,qx] at F;obtain⟨rfl,rfl⟩:=F;replace t:=ab t;have T:=ab pF;have a1:0<k:=by omega
      clear pF;cases M:Op.bytesLess z.p.toList x.p.toList
      .have L:=ab M;have f:q=false:=by
        rw[<-nf,O.out];rintro⟨-,h⟩;have h:=h k x D.out;have h:=h.2.1 z a1 (by rw[<-T.out];exact t.out);rw[L.out] at h;cases h
       have s:=ab f;clear f;go_wp2;have o:=ae E;have n:=ae R;have bc:=ae Q;refine aR (by kernel_rfl) (by kernel_rfl) ?_;repeat(go_big_quiet_step (first|(go_at_call 64;refine dT (v:=.bool true) ?_;rw[<-a.out];exact jM x.p B.1 _)|(go_at_call 65;refine dT (v:=.bool true) ?_;rw[<-b.out];exact lY x.b B.2 _)))
       refine ip ?_;intro P d;have g:=bH d;clear d o n bc;go_wp2;go_ret;exact⟨aD s.out.symm,ag G g⟩
      have L:=ab M;have S:af1 x/\∀y,0<k->xs[k-1]?=some y->Op.bytesLess y.p.toList x.p.toList=true:=⟨⟨a.out,b.out⟩,λy h0 hy=>by
       rw[<-T.out,t.out] at hy;cases hy;exact L.out⟩
      have lT:=ab S;clear S;go_wp2;have o:=ae E;have n:=ae R;have bc:=ae Q;refine aR (by kernel_rfl) (by kernel_rfl) ?_;repeat(go_big_quiet_step (first|(go_at_call 64;refine dT (v:=.bool true) ?_;rw[<-a.out];exact jM x.p B.1 _)|(go_at_call 65;refine dT (v:=.bool true) ?_;rw[<-b.out];exact lY x.b B.2 _)))
      refine ip ?_;intro P d;have g:=bH d;clear d o n bc;clear Q M e1
     all_goals
      have V:=ag G g;clear E R Y;go_wp2;go_loopw [4] (λjj wr=>∃j:Nat,j<=k/\jj=.int .i64 j/\(∀i y,i<j->xs[i]?=some y->jN y.p x.p=false)/\Below w.heap.size w wr) (λjj _=>k-(intOf jj).toNat)
      case atStart=>exact⟨0,eg _,rfl,λi y hi=>absurd hi (sT i),V⟩
      case round=>
       clear V g;obtain⟨j,hj,rfl,C,u⟩:=hrel;replace C:=ab C;by_cases U:j<k
       .obtain⟨y,N⟩:=aq (l:=xs) (k:=j) (by omega);obtain⟨b1,W,F,_,_,a5,Q,_⟩:=mb (fX.ar.below h u X) N;simp only[lP,qB,qx] at F;obtain⟨rfl,rfl⟩:=F;obtain⟨b1,W,F,_,_,_,E,_⟩:=mb (fX.ar.below h u X) D.out;simp only[lP,qB,qx] at F;obtain⟨rfl,rfl⟩:=F;have a3:0<y.p.size:=by
         have:=lX (p.out j y U N).1.1;omega
        have a0:0<x.p.size:=by have:=lX lT.out.1.1;omega
        have HC:=ab (λw':World=>ah8 (β:=β) y.p x.p ⟨a3,a5.1⟩ ⟨a0,B.1⟩ w');replace N:=ab N;cases H:jN y.p x.p
        .replace H:=ab H;have I:∀i z,i<j+1->xs[i]?=some z->jN z.p x.p=false:=λi z hi K=>by
          rcases pm i j with r|nY
          .exact C.out i z r K
          .obtain rfl:i=j:=by omega
           rw[N.out] at K;cases K;exact H.out
         replace I:=ab I;go_wp2;have o:=ae Q;have n:=ae E;refine aR (by kernel_rfl) (by kernel_rfl) ?_;repeat(go_big_quiet_step (first|(go_at_call 96;refine dS (v:=.bool false) ?_;rw[<-H.out];exact HC.out _)))
         refine ip ?_;intro P d;have g:=bH d;clear d o n;go_wp2;go_roundw
         case rel=>exact⟨j+1,by omega,by go_num,I.out,ag u g⟩
         simp[intOf];omega
        .replace H:=ab H;have f:q=false:=by
          rw[<-nf,O.out];rintro⟨-,h⟩;have h:=h k x D.out;have h:=h.2.2 j y U N.out;rw[H.out] at h;cases h
         have s:=ab f;clear f;go_wp2;have o:=ae Q;have n:=ae E;refine aR (by kernel_rfl) (by kernel_rfl) ?_;repeat(go_big_quiet_step (first|(go_at_call 96;refine dS (v:=.bool true) ?_;rw[<-H.out];exact HC.out _)))
         refine ip ?_;intro P d;have g:=bH d;clear d o n;go_wp2;go_ret;exact⟨aD s.out.symm,ag u g⟩
       .obtain rfl:j=k:=by omega
        have J:∀i z,i<j+1->xs[i]?=some z->aoc xs i z:=λi z hi K=>by
         rcases pm i j with r|nY
         .exact p.out i z r K
         .obtain rfl:i=j:=by omega
          rw[D.out] at K;cases K;exact⟨lT.out.1,lT.out.2,C.out⟩
        replace J:=ab J;go_wp2;go_roundw
        case rel=>exact⟨j+1,by omega,by go_num,J.out,u⟩
        simp[intOf];omega
  .obtain rfl:k=xs.length:=by omega
   by_cases h6:xs.length<=6
   .have Y:=dk (show(xs.length:Int)<=6 by omega);have f:q=true:=O.out.2 ⟨h6,λi x Z=>p.out i x (aB Z) Z⟩;have s:=ab f;clear f;go_wp2;go_ret;exact⟨aD s.out.symm,G⟩
   .have Y:=da (show ¬((xs.length:Int)<=6) by omega);have f:q=false:=by
     rw[<-nf,O.out];rintro⟨h, -⟩;exact h6 h
    have s:=ab f;clear f;go_wp2;go_ret;exact⟨aD s.out.symm,G⟩
open Classical in
def abC(xs:List Nd)(v:Value)(w:World)(b hi:Nat)(h:fX w b hi xs [v])(c:hi<=w.heap.size) :
  Calls (ah β) 58 #[v] w λe a=>ah7 (kV xs) e/\Below w.heap.size w a:=
 (apI xs v w b hi h c (decide (kV xs)) (by rw[decide_eq_true_iff,ajX])).mono λe a ⟨he,hb⟩=>⟨he▸ah7.of λh=>sZ h,hb⟩
end
section
variable {β:Bool}
open Go.RowKit
def lA(x:It):List It->List It
 |[]=>[x]
 |y::l=>if x.n<y.n then x::y::l else y::lA x l
def agP{x:It}:∀{a:List It},(∀y∈a,¬x.n<y.n)->lA x a=a++[x]
 |[],_=>rfl
 |y::a,h=>by
  show(if x.n<y.n then _ else _)=_;rw[be (h y (by simp)),agP λz b=>h z (by simp[b])];rfl
def ajZ{x z:It}:∀{a:List It},(∀y∈a,¬x.n<y.n)->x.n<z.n->lA x (a++[z])=a++[x]++[z]
 |[],_,b=>by show(if x.n<z.n then _ else _)=_;rw[du b];rfl
 |y::a,h,b=>by
  show(if x.n<y.n then _ else _)=_;rw[be (h y (by simp))];show y::lA x (a++[z])=_;rw[ajZ (λz b=>h z (by simp[b])) b];rfl
def aj0{x z:It}:∀{a:List It},(∃y∈a,x.n<y.n)->lA x (a++[z])=lA x a++[z]
 |[],h=>by obtain⟨y,b,_⟩:=h;cases b
 |y::a,h=>by
  show(if x.n<y.n then _ else _)=(if x.n<y.n then _ else _)++_;by_cases b:x.n<y.n
  .rw[du b,du b];rfl
  .rw[be b,be b];show y::lA x (a++[z])=y::(lA x a++[z]);rw[aj0];obtain⟨u,d,c⟩:=h;rcases mu.1 d with rfl|d
   .exact absurd c b
   .exact⟨u,d,c⟩
def afm(x:It):∀l:List It,(lA x l).length=l.length+1
 |[]=>rfl
 |y::l=>by
  show(if x.n<y.n then _ else _:List It).length=_;split
  .rfl
  .show(lA x l).length+1=_;rw[afm x l];rfl
def aj1{x z:It}:∀{l:List It},z∈lA x l↔z=x\/z∈l
 |[]=>by show z∈[x]↔_;simp
 |y::l=>by
  show z∈(if x.n<y.n then _ else _)↔_;split
  .simp
  .rw[mu,aj1,mu];constructor
   .rintro(h|h|h)<;>simp[h]
   .rintro(h|h|h)<;>simp[h]
def acK(x:It)(a:List It)(b:Bool)(o:List It):Prop:=(b=false/\o=a/\∀y∈a,¬x.n<y.n)\/(b=true/\o=lA x a/\∃y∈a,x.n<y.n)
def apJ{x:It}{a o:List It}{b:Bool}(h:acK x a b o):o.length<=a.length+1:=by
 rcases h with⟨_,rfl,_⟩|⟨_,rfl,_⟩
 .omega
 .rw[afm];exact am _
def apK{x z:It}{a o:List It}(h:acK x a false o)(b:x.n<z.n):acK x (a++[z]) true (o++[x]++[z]):=by
 rcases h with⟨_,rfl,h⟩|⟨h,_⟩
 .exact .inr ⟨rfl,(ajZ h b).symm,z,by simp,b⟩
 .cases h
def asz{x z:It}{a o:List It}(h:acK x a false o)(c:¬x.n<z.n):acK x (a++[z]) false (o++[z]):=by
 rcases h with⟨_,rfl,h⟩|⟨h,_⟩
 .exact .inl ⟨rfl,rfl,λy b=>by
   rcases mx.1 b with b|b
   .exact h y b
   .rw[mw.1 b];exact c⟩
 .cases h
def amp{x z:It}{a o:List It}(h:acK x a true o):acK x (a++[z]) true (o++[z]):=by
 rcases h with⟨h,_⟩|⟨_,rfl,y,b,c⟩
 .cases h
 .exact .inr ⟨rfl,(aj0 ⟨y,b,c⟩).symm,y,by simp[b],c⟩
def apL{x:It}{a o:List It}{b:Bool}(h:acK x a b o):(b=false/\lA x a=o++[x])\/(b=true/\lA x a=o):=by
 rcases h with⟨c,rfl,h⟩|⟨c,rfl,_⟩
 .exact .inl ⟨c,agP h⟩
 .exact .inr ⟨c,rfl⟩
def aBe(w:World)(ys:List It)(e:Ending)(w':World):Prop:=∃v,e=.returned v/\aJ nA 63 w' w.heap.size v ys/\Below w.heap.size w w'
def apM(x:It)(a3:nA.good x)(xs:List It)(v:Value)(w:World)(U hi:Nat)(Y:hi<=w.heap.size)(h:aaI w U hi xs [v])(hl:xs.length<=1000000) :
  Calls (ah β) 103 #[v,.agg #[.int .i64 x.n,.string x.b]] w (aBe w (lA x xs)):=by
 obtain⟨A,c,rfl⟩:=h.form;obtain⟨_,hc,hx⟩:=h.len_;unfold maxLen at hx;go_enter zj,ntmps103;go_wp2;generalize hG:(w.alloc (.cells #[.int .i64 x.n,.string x.b] 63)).alloc (.cells #[] 63)=w0 at *;obtain⟨B,jo,k0,dn,eQ,J,T,eD⟩:=pW hG;have D:w.heap.size+1<=w0.heap.size:=by omega
 have g0:=aaI.ar.below h B Y;have o0:aJ nA 63 w0 (w.heap.size+1) (.slice (some ⟨w.heap.size+1,0,none⟩) 0 0) []:=aJ.ajv ⟨_,rfl,am _,J⟩;go_loopw [5,6,7] (λoo pp S wr=>∃(k:Nat) (b:Bool) (o:List It),k<=xs.length/\pp=.bool b/\S=.int .i64 k/\aJ nA 63 wr (w.heap.size+1) oo o/\acK x (xs.take k) b o/\bj (λb=>w.heap.size+1<=b) w0 wr) (λ_ _ S _=>xs.length-(intOf S).toNat)
 case atStart=>exact⟨0,false,[],eg _,rfl,rfl,o0,.inl ⟨rfl,rfl,λy hy=>(by cases hy)⟩,bj.refl _ _⟩
 case round=>
  obtain⟨k,b,o,hk,rfl,rfl,s,f,g⟩:=hrel;replace f:=ab f;obtain⟨r,t,rfl⟩:=s.form;have P:=apJ f.out;rw[ef] at P;have g1:aaI wr U hi xs [.slice A xs.length c]:=aaI.ar.fE g0 g λb _ h2 _ h3=>by omega
  have J:=aP k0 g (by omega);have T:=J.cell;have eD:=J.frozen;by_cases N:k<xs.length
  .obtain⟨z,n⟩:=aq N;obtain⟨b1,a1,rfl,a5,a2,X,cn,cb⟩:=aso g1 n;replace n:=ab n;have M:=ab (kw n.out);cases b with
   |true=>
    have C:=ab (amp (z:=z) f.out);go_wp2
    go_quiet (fail)
    have j:aJ nA 63 (wr.drewN nq) (w.heap.size+1) (.slice r o.length t) o:=s;go_wp2_with(at_builtin;refine cx (F:=nA) (v:=.slice r o.length t) rfl (.tmp 31) (.tmp 36) 34 rfl oI z rfl j rfl rfl (by first|omega|(simp only[aE,fi,mT];omega)) (ap D (g.drewN nq).size) ?_;intro O u d m q;obtain⟨E,G,rfl⟩:=d.form;simp only[aE,fi,mT,mc] at d;skip);have a:bj (λb=>w.heap.size+1<=b) w0 u:=(g.drewN nq).trans m λb I e=>(j.at_ e).1;go_roundw
    case rel=>exact⟨k+1,true,o++[z],by omega,rfl,by go_num,d,by rw[M.out];exact C.out,a⟩
    simp[intOf];omega
   |false=>
    by_cases l:x.n<z.n
    .have t1:decide (x.n<z.n)=true:=dk l;have C:=ab (apK f.out l);go_wp2
     go_quiet (fail)
     have j:aJ nA 63 (wr.drewN nq) (w.heap.size+1) (.slice r o.length t) o:=s;have gW:∀i,(wr.drewN nq).cell? ⟨w.heap.size,i,none⟩=_:=T;go_wp2_with(first|(at_builtin;refine cx (F:=nA) (v:=.slice r o.length t) rfl (.tmp 27) (.tmp 29) 34 rfl oI x rfl j rfl rfl (by first|omega|(simp only[aE,fi,mT];omega)) (ap D (g.drewN nq).size) ?_;intro O u d m q;obtain⟨E,G,rfl⟩:=d.form;simp only[aE,fi,mT,mc] at d;have a:bj (λb=>w.heap.size+1<=b) w0 u:=(g.drewN nq).trans m λb I e=>(j.at_ e).1;have a0:=js (w:=wr.drewN nq) cn m (λH=>by have:=(j.at_ H).1;dsimp only at this;omega);have a4:=js (w:=wr.drewN nq) cb m (λH=>by have:=(j.at_ H).1;dsimp only at this;omega))|(at_builtin;refine cx (F:=nA) (v:=.slice E (o.length+1) G) rfl (.tmp 31) (.tmp 36) 34 rfl oI z rfl d rfl rfl (by first|omega|(simp only[aE,fi,mT];omega)) (ap D a.size) ?_;intro v4 W R K Z;obtain⟨A4,c4,rfl⟩:=R.form;simp only[aE,fi,mT,mc] at R;have Q:bj (λb=>w.heap.size+1<=b) w0 W:=a.trans K λb I e=>(d.at_ e).1));go_roundw
     case rel=>exact⟨k+1,true,o++[x]++[z],by omega,rfl,by go_num,R,by rw[M.out];exact C.out,Q⟩
     simp[intOf];omega
    .have t1:decide (x.n<z.n)=false:=da l;have C:=ab (asz f.out l);go_wp2
     go_quiet (fail)
     have j:aJ nA 63 (wr.drewN nq) (w.heap.size+1) (.slice r o.length t) o:=s;go_wp2_with(at_builtin;refine cx (F:=nA) (v:=.slice r o.length t) rfl (.tmp 31) (.tmp 36) 34 rfl oI z rfl j rfl rfl (by first|omega|(simp only[aE,fi,mT];omega)) (ap D (g.drewN nq).size) ?_;intro O u d m q;obtain⟨E,G,rfl⟩:=d.form;simp only[aE,fi,mT,mc] at d;skip);have a:bj (λb=>w.heap.size+1<=b) w0 u:=(g.drewN nq).trans m λb I e=>(j.at_ e).1;go_roundw
     case rel=>exact⟨k+1,false,o++[z],by omega,rfl,by go_num,d,by rw[M.out];exact C.out,a⟩
     simp[intOf];omega
  .obtain rfl:k=xs.length:=by omega
   have p:=apL f.out;rw[gc] at p;have V:=ab p;have mz:Below w.heap.size w wr:=B.trans (g.below B.size λi hi H=>by omega);cases b with
   |true=>
    have L:lA x xs=o:=by
     rcases V.out with⟨h,_⟩|⟨_,h⟩
     .cases h
     .exact h
    rw[L];go_wp2;go_ret;exact⟨_,rfl,s.base (by omega),mz⟩
   |false=>
    have L:lA x xs=o++[x]:=by
     rcases V.out with⟨_,h⟩|⟨h,_⟩
     .exact h
     .cases h
    rw[L];go_wp2_with(at_builtin;refine cx (F:=nA) (v:=.slice r o.length t) rfl (.tmp 40) (.tmp 42) 34 rfl oI x rfl s rfl rfl (by first|omega|(simp only[aE,fi,mT];omega)) (ap D g.size) ?_;intro O u d m q;obtain⟨E,G,rfl⟩:=d.form;simp only[aE,fi,mT,mc] at d;skip);have a:bj (λb=>w.heap.size+1<=b) w0 u:=g.trans m λb I e=>(s.at_ e).1;go_ret;exact⟨.slice E (o.length+1) G,rfl,by have:=d.base (base':=w.heap.size) (by omega);simpa using this,B.trans (a.below B.size λi hi H=>by omega)⟩
def jv(key:Int)(s:ByteArray):It:=⟨bN key (bs s),rR (gT (bs s))⟩
def gJ(key:Int)(l:List ByteArray):List It:=l.foldl (λa s=>lA (jv key s) a) []
def oM(key:Int)(l:List ByteArray)(s:ByteArray):gJ key (l++[s])=lA (jv key s) (gJ key l):=by
 unfold gJ;rw[ta];rfl
def aaC(key:Int)(l:List ByteArray):(gJ key l).length=l.length:=by
 induction l using ow with
 |h0=>rfl
 |h1 l s a=>rw[oM,afm,a,aE];rfl
def adi{key:Int}{x:It}{l:List ByteArray}:x∈gJ key l↔∃s∈l,x=jv key s:=by
 induction l using ow with
 |h0=>simp[gJ]
 |h1 l s b=>
  rw[oM,aj1,b];constructor
  .rintro(h|⟨t,a,h⟩)
   .exact⟨s,by simp,h⟩
   .exact⟨t,by simp[a],h⟩
  .rintro⟨t,a,h⟩;rcases mx.1 a with a|a
   .exact .inr ⟨t,a,h⟩
   .rw[mw.1 a] at h;exact .inl h
def adG(key:Int)(a:bA (bs s)):nA.good (jv key s):=by
 have b:=mP (key:=key) (l:=bs s);show cf (bN key (bs s))/\(rR (gT (bs s))).size<=maxLen;refine⟨by unfold cf;omega, ?_⟩;rw[<-aM,ahJ,ajg a];have:=(aau (n:=(bs s).length)).1;unfold maxLen;omega
def afn{key:Int}{l:List ByteArray}(h:∀s∈l,bA (bs s)):∀x∈gJ key l,nA.good x:=λx b=>by
 obtain⟨s,a,rfl⟩:=adi.1 b;exact adG key (h s a)
def aBf(no:Int)(w:World)(ys:List It)(e:Ending)(w':World):Prop:=∃v,e=.returned (.agg #[.int .i64 no,v])/\aJ nA 63 w' w.heap.size v ys/\Below w.heap.size w w'
def amq(u key:Int)(hk:1<=key/\key<=99)(xs:List ByteArray)(F:∀s∈xs,bA (bs s))(hl:xs.length<=100)(v:Value)(w:World)(lo hi:Nat)(aV:hi<=w.heap.size)(h:dE w lo hi xs [v]) :
  Calls (ah β) 62 #[.int .i64 u,.int .i64 key,v] w (aBf u w (gJ key xs)):=by
 replace F:=ab F;obtain⟨A,c,rfl⟩:=h.form;go_enter zO,ntmps62;go_wp2;generalize hG:((w.alloc (.cells #[.int .i64 0,.slice none 0 0] 36)).alloc (.cells #[] 63)).alloc (.cells #[.int .i64 u,.slice (some ⟨w.heap.size+1,0,none⟩) 0 0] 36)=w0 at *;obtain⟨aL,jo,f,dn,eQ,k1,dG,eD,b,l,jV⟩:=aeZ hG;have o0:aJ nA 63 w0 (w.heap.size+1) (.slice (some ⟨w.heap.size+1,0,none⟩) 0 0) []:=aJ.ajv ⟨_,rfl,am _,k1⟩;go_loopw [8] (λY wr=>∃(k:Nat) (Q:Value),k<=xs.length/\Y=.int .i64 k/\aJ nA 63 wr (w.heap.size+1) Q (gJ key (xs.take k))/\bg wr w.heap.size 36 #[.int .i64 0,.slice none 0 0]/\bg wr (w.heap.size+1+1) 36 #[.int .i64 u,Q]/\Below w.heap.size w wr) (λY _=>xs.length-(intOf Y).toNat)
 case atStart=>exact⟨0,_,eg _,rfl,o0,f,b,aL⟩
 case round=>
  obtain⟨k,Q,a1,rfl,i,f,b,d⟩:=hrel;obtain⟨K,R,rfl⟩:=i.form;have h1:=dE.ar.below h d aV;have dn:=f.cell;have eQ:=f.frozen;have l:=b.cell;have jV:=b.frozen;have q:Hid (∀x∈gJ key (xs.take k),nA.good x):=ab (afn λs hs=>F.out s (qf hs));have C:(gJ key (xs.take k)).length<=100:=by rw[aaC,ef];omega
  by_cases S:k<xs.length
  .obtain⟨s,m⟩:=aq S;obtain⟨b1,a3,rfl,_,_,M,n⟩:=lZ h1 m;have D:=F.out s (db m);have o:gJ key (xs.take (k+1))=lA (jv key s) (gJ key (xs.take k)):=by rw[kw m,oM]
   have HST:=ab o;have N:=ab (adG key D);have T:=ab (λw=>abo (β:=β) key s hk D w);have W:=ab (λw=>apd (β:=β) s M w);have U:jv key s=⟨bN key (bs s),rR (gT (bs s))⟩:=rfl;have a2:=ab U;have O:=ab (ahJ s);have I:=i.deep q.out (w.heap.size+1) |>.sl (am _)
   have G:wr.cell? ⟨w.heap.size+1+1,1,none⟩=some (.slice K (gJ key (xs.take k)).length R):=l 1;have z:=ab (λg hg=>i.at_ (g:=g) hg);have a0:w.heap.size+1+1<wr.heap.size:=b.lt;revert HST;revert C;revert G;revert I;revert q;revert z;revert i;revert l;revert b;generalize gJ key (xs.take k)=L;intro b l i z q I G C HST;go_wp2;have aH:=ae G;have aI:=ae n;refine aC 15 [0,1,2,3,4,5,6,8,9,10,11] [7,12,13,14] (h:= ?_);simp only[pick,List.map,gt,gE];repeat(go_big_quiet_step (fail))
   refine ip ?_;apply Exists.intro;apply cT (.int .i64 (bN key (bs s)))
   .intro y j H a;replace a:=ab a;go_wp2;refine(T.out y.to).mono ?_;rintro e Z ⟨rfl,rfl⟩;go_wp2;exact a.out _ (fd _ _)
   apply cT (.string (rR (gT (bs s))))
   .intro y j H a;replace a:=ab a;go_wp2;refine(W.out y.to).mono ?_;rintro e Z ⟨⟨t,rfl,ht⟩,rfl⟩;have P:t=rR (gT (bs s)):=nt (ht.trans O.out.symm);subst P;go_wp2;exact a.out _ (fd _ _)
   apply cT (.agg #[.int .i64 (bN key (bs s)),.string (rR (gT (bs s)))])
   .intro y j H a;replace a:=ab a;go_wp2;exact a.out _ (fd _ _)
   apply aY (λv w'=>aJ nA 63 w' wr.heap.size v (lA (jv key s) L))
   .rfl
   .exact λv x y h X=>h.below X
   .intro y j H a;replace a:=ab a;have r1:=aaI.ar.below I y.ok (am _);go_wp2;refine(apM (jv key s) N.out L _ y.to _ _ y.ok.size r1 (by omega)).mono ?_;rintro e Z ⟨vy,rfl,oy,J⟩;go_wp2;exact a.out _ _ J (oy.base y.ok.size)
   intro a4;refine aQ ?_;intro w2 r xx cU j;dsimp only[dQ] at j;try rw[cU] at j
   obtain⟨A5,c5,rfl⟩:=j.1.form;have o5:=j.1;simp only[List.drop];replace f:=ak f r;replace dn:=f.cell;replace eQ:=f.frozen;replace b:=ak b r;replace l:=b.cell;replace jV:=b.frozen;replace d:=ag d r;go_wp2;have B:=b.bG 1 (.slice A5 (lA (jv key s) L).length c5);simp only[dj,ge,io] at B;go_roundw
   case rel=>exact⟨k+1,_,by omega,by go_num,by rw[HST.out];exact(o5.bG _ (by dsimp only;omega)).base (by omega),cj f _ (by dsimp only;omega),B,d.setCell (by dsimp only;omega) _⟩
   simp[intOf];omega
  .obtain rfl:k=xs.length:=by omega
   rw[gc] at i l b;obtain⟨L,E⟩:∃L,L=gJ key xs:=⟨_,rfl⟩;rw[<-E] at i l b ⊢;replace E:=ab E;go_wp2;have k4:=(f.bG 0 (.int .i64 u)).bG 1 (.slice K L.length R);simp only[dj,ge,io] at k4;have V:=k4.cell;exact pb (v:=.agg #[.int .i64 u,.slice K L.length R]) (by simp[results,results62,go_sem,V]) rfl ⟨_,rfl,by rw[<-E.out];exact aJ.base (base:=w.heap.size+1) ((i.bG (p:=⟨w.heap.size,0,none⟩) _ (by dsimp only;omega)).bG (p:=⟨w.heap.size,1,none⟩) _ (by dsimp only;omega)) (by omega),(d.setCell (by simp) _).setCell (by simp) _⟩
end
section
variable {β:Bool}
open Go.RowKit
def aod(p:List Nd->Prop)(w:World)(e:Ending)(w':World):Prop:=∃v a,e=.returned v/\aJ nB 102 w' w.heap.size v a/\p a/\Below w.heap.size w w'
def aj2(xs:List Nd)(s:ByteArray)(v:Value)(w:World)(E hi:Nat)(h:fX w E hi xs [v])(t:hi<=w.heap.size)(O:xs.length<=1000) :
  Calls (ah β) 34 #[v,.string s] w (aod (λys=>ys.Sublist xs) w):=by
 obtain⟨A,c,rfl⟩:=h.form;go_enter Af,ntmps34;go_wp2;have l:=av w (.cells #[] 102);have j:aJ nB 102 (w.alloc (.cells #[] 102)) w.heap.size (.slice (some ⟨w.heap.size,0,none⟩) 0 0) []:=(eG.new w 102 (am _)).own 2;generalize w.alloc (.cells #[] 102)=w0 at *;go_loopw [5,6] (λz p wr=>∃(k:Nat) (ys:List Nd),k<=xs.length/\p=.int .i64 k/\aJ nB 102 wr w.heap.size z ys/\ys.Sublist (xs.take k)/\Below w.heap.size w wr) (λ_ p _=>xs.length-(intOf p).toNat)
 case atStart=>exact⟨0,[],eg _,rfl,j,List.Sublist.refl _,l⟩
 case round=>
  obtain⟨k,ys,J,rfl,e,f,d⟩:=hrel;obtain⟨D,y,rfl⟩:=e.form;have r:ys.length<=k:=by have:=f.length_le;rw[ef] at this;omega
  by_cases g:k<xs.length
  .obtain⟨x,m⟩:=aq g;obtain⟨H,u,rfl,_,C,I,Q,N⟩:=mb (fX.ar.below h d t) m;have a:(ys++[x]).Sublist (xs.take (k+1)):=by rw[kw m];exact f.append (List.Sublist.refl _)
   have b:ys.Sublist (xs.take (k+1)):=by rw[kw m];exact f.trans (List.sublist_append_left _ _)
   replace a:=ab a;replace b:=ab b;cases K:(x.p.toList ==s.toList)
   .go_wp2_with(at_builtin;refine cx (F:=nB) (v:=.slice D ys.length y) rfl (.tmp 21) (.tmp 26) 44 rfl oL x rfl e rfl rfl (by omega) d.size ?_;intro P L n o q;obtain⟨G,M,rfl⟩:=n.form;simp only[aE,fi,mT,mc] at n);go_roundw
    case rel=>
     exact⟨k+1,ys++[x],by omega,by go_num,by simpa using n,a.out,d.trans (o.below d.size λi hi B=>by have:=(e.at_ B).1;omega)⟩
    case measure=>simp[intOf];omega
   .go_wp2;go_roundw
    case rel=>exact⟨k+1,ys,by omega,by go_num,e,b.out,d⟩
    simp[intOf];omega
  .obtain rfl:k=xs.length:=by omega
   go_wp2;go_ret;exact⟨_,ys,rfl,e,by rwa [gc] at f,d⟩
def amr(xs:List Nd)(f:Nd)(hf:nB.good f)(v:Value)(w:World)(lo hi:Nat)(h:fX w lo hi xs [v])(W:hi<=w.heap.size)(hl:xs.length<=1000) :
  Calls (ah β) 66 #[v,.agg #[.string f.p,.string f.b]] w (aod (λa=>(∀y∈a,y∈xs\/y=f)/\a.length<=xs.length+1) w):=by
 obtain⟨A,c,rfl⟩:=h.form;go_enter zM,ntmps66;go_wp2;generalize hG:(w.alloc (.cells #[.string f.p,.string f.b] 102)).alloc (.cells #[] 102)=w0 at *;obtain⟨aL,jo,k0,dn,eQ,k1,dG,eD⟩:=pW hG;clear hG;have P:aJ nB 102 w0 (w.heap.size+1) (.slice (some ⟨w.heap.size+1,0,none⟩) 0 0) []:=eG.own ⟨_,rfl,am _,k1⟩ 2;clear k1 dG eD dn eQ;go_loopw [5,6,7] (λoo dd ii wr=>∃(k:Nat) (d:Bool) (a:List Nd),k<=xs.length/\ii=.int .i64 k/\dd=.bool d/\aJ nB 102 wr (w.heap.size+1) oo a/\(∀y∈a,y∈xs\/y=f)/\a.length<=k+(if d then 1 else 0)/\Below (w.heap.size+1) w0 wr) (λ_ _ ii _=>xs.length-(intOf ii).toNat)
 case atStart=>exact⟨0,false,[],eg _,rfl,rfl,P,λy b=>(by cases b),am _,fd _ _⟩
 case round=>
  clear P;obtain⟨k,d,a,hk,rfl,rfl,p,b,e,m⟩:=hrel;obtain⟨Z,Y,rfl⟩:=p.form;have T:bg wr w.heap.size 102 #[.string f.p,.string f.b]:=(m.block _ (by omega)).trans k0;have j:wr.cell? ⟨w.heap.size,0,none⟩=some (.string f.p):=T.cell 0;have u:wr.cell? ⟨w.heap.size,1,none⟩=some (.string f.b):=T.cell 1;have B:Below w.heap.size w wr:=aL.trans (m.mono (by omega));have G:=ab b;clear b;by_cases a1:k<xs.length
  .obtain⟨x,K⟩:=aq a1;obtain⟨b1,aa,rfl,_,af,hg,M,c1⟩:=mb (fX.ar.below h B W) K;have HX:=ab (db K);replace K:=ab K;clear M c1;cases d
   case' true=>
    go_wp2;have t:=ae j;refine aR (by kernel_rfl) (by kernel_rfl) ?_;repeat(go_big_quiet_step (fail))
    refine ip ?_;intro V l;have g:=bH l;clear l t;have D:=m.trans (g.mono (by have:=m.size;omega));have oz:=p.below g;clear p j u m B T;go_wp2;have q:=G;have o:=e;clear G e;generalize Z=A2 at *;generalize Y=X at *;generalize a=ys2 at *
   case' false=>
    cases U:Op.bytesLess x.p.toList f.p.toList
    case' false=>
     obtain⟨b2,iZ,C,_,_,_,M,_⟩:=mb (fX.ar.below h B W) K.out;simp only[lP,qB,qx] at C;obtain⟨rfl,rfl⟩:=C;go_wp2;have t:=ae M;have I:=ae j;refine aR (by kernel_rfl) (by kernel_rfl) ?_;repeat(go_big_quiet_step (fail))
     refine ip ?_;intro V l;have g:=bH l;clear l t I;have z:=m.trans (g.mono (by have:=m.size;omega));have J:=p.below g;have a3:=aU g j;have a4:=aU g u;have a9:a.length<=k:=by simpa using e
     clear p M j u U;go_wp2_with(at_builtin;refine cx (F:=nB) (v:=.slice Z a.length Y) rfl (.tmp 27) (.tmp 29) 44 rfl oL f rfl J rfl rfl (by omega) (by have:=z.size;omega) ?_;intro va wa H L a2;obtain⟨A2,X,rfl⟩:=H.form;simp only[aE,fi,mT,mc] at H);have oz:aJ nB 102 wa (w.heap.size+1) (.slice A2 (a++[f]).length X) (a++[f]):=by simpa using H
     have D:Below (w.heap.size+1) w0 wa:=z.trans (L.below (by have:=z.size;omega) λi hi S=>by have:=(J.at_ S).1;omega);have q:Hid (∀y∈a++[f],y∈xs\/y=f):=ab λy b=>by
      rcases mx.1 b with b|b
      .exact G.out y b
      .exact .inr (mw.1 b)
     have o:(a++[f]).length<=k+(if true then 1 else 0):=by simp;omega
     have E:(a++[f]).length=a.length+1:=by simp
     rw[<-E];clear E H J z m B T e a3 a4;clear G;generalize a++[f]=ys2 at *
    case' true=>
     obtain⟨b2,iZ,C,_,_,_,M,_⟩:=mb (fX.ar.below h B W) K.out;simp only[lP,qB,qx] at C;obtain⟨rfl,rfl⟩:=C;go_wp2;have t:=ae M;have I:=ae j;refine aR (by kernel_rfl) (by kernel_rfl) ?_;repeat(go_big_quiet_step (fail))
     refine ip ?_;intro V l;have g:=bH l;clear l t I;have D:=m.trans (g.mono (by have:=m.size;omega));have oz:=p.below g;clear p M j u U m B T;go_wp2;have q:=G;have o:=e;clear G e;generalize Z=A2 at *;generalize Y=X at *;generalize a=ys2 at *
   all_goals
    rename World=>wz
    have N:bg wz w.heap.size 102 #[.string f.p,.string f.b]:=((D).block _ (by omega)).trans k0;have r:(wz).cell? ⟨w.heap.size,0,none⟩=some (.string f.p):=N.cell 0;have O:Below w.heap.size w wz:=aL.trans ((D).mono (by omega));obtain⟨b3,a7,C,_,_,_,R,d1⟩:=mb (fX.ar.below h O W) K.out;simp only[lP,qB,qx] at C;obtain⟨rfl,rfl⟩:=C;cases Q:(x.p.toList ==f.p.toList)
    .have t:=ae R;have I:=ae r;refine aR (by kernel_rfl) (by kernel_rfl) ?_;repeat(go_big_quiet_step (fail))
     refine ip ?_;intro V l;have g:=bH l;clear l t I;have n:=(D).trans (g.mono (by have:=(D).size;omega));have s:=(oz).below g;have a5:=aU g R;have a8:=aU g d1;have a6:(ys2).length<=k+1:=ap o (by simp);have HL:=ab o;clear R d1 r Q O N;go_wp2_with(at_builtin;refine cx (F:=nB) (v:=.slice A2 (ys2).length X) rfl (.tmp 39) (.tmp 44) 44 rfl oL x rfl s rfl rfl (by omega) (by have:=n.size;omega) ?_;intro vb wb ob a0 ad;obtain⟨Ab,cb,rfl⟩:=ob.form);go_roundw
     case rel=>
      refine⟨k+1,_,ys2++[x],by omega,by go_num,rfl,by simpa using ob,λy b=> ?_,by have:=HL.out;rw[aE];simp at this ⊢;omega,n.trans (a0.below (by have:=n.size;omega) λi hi S=>by have:=(s.at_ S).1;omega)⟩;rcases mx.1 b with b|b
      .exact(q).out y b
      .rw[mw.1 b];exact .inl HX.out
     case measure=>simp[intOf];omega
    .have t:=ae R;have I:=ae r;refine aR (by kernel_rfl) (by kernel_rfl) ?_;repeat(go_big_quiet_step (fail))
     refine ip ?_;intro V l;have g:=bH l;clear l t I;have n:=(D).trans (g.mono (by have:=(D).size;omega));have s:=(oz).below g;have HL:=ab o;clear R d1 r Q O N;go_wp2;go_roundw
     case rel=>exact⟨k+1,_,ys2,by omega,by go_num,rfl,s,(q).out,by have:=HL.out;simp at this ⊢;omega,n⟩
     simp[intOf];omega
  .obtain rfl:k=xs.length:=by omega
   cases d
   .go_wp2_with(at_builtin;refine cx (F:=nB) (v:=.slice Z a.length Y) rfl (.tmp 48) (.tmp 50) 44 rfl oL f rfl p rfl rfl (by simp at e;omega) (by have:=m.size;omega) ?_;intro va wa H L a2;obtain⟨Aa,ca,rfl⟩:=H.form;simp only[aE,fi,mT,mc] at H);go_ret;refine⟨_,a++[f],rfl,(by simpa using H:aJ nB 102 wa (w.heap.size+1) (.slice Aa (a.length+1) ca) (a++[f])).base (by omega),⟨λy b=> ?_,by simp at e ⊢;omega⟩,B.trans (L.below B.size λi hi S=>by have:=(p.at_ S).1;omega)⟩;rcases mx.1 b with b|b
    .exact G.out y b
    .exact .inr (mw.1 b)
   .go_wp2;go_ret;exact⟨_,a,rfl,p.base (by omega),⟨G.out,by simpa using e⟩,B⟩
def asA(w:World)(e:Ending)(w':World):Prop:=∃v a q,e=.returned (.tuple #[v,.bool q])/\aJ nB 102 w' w.heap.size v a/\kV a/\Below w.heap.size w w'
def aaD{b:List Nd}(h:kV b):∀y∈b,nB.good y:=λy c=>by
 have d:=lX (h.1 y c).1;have a:=(h.1 y c).2;unfold dN at a;rw[ff] at a;have e:=sZ a.1;exact⟨by unfold maxLen;omega,by unfold maxLen;omega⟩
def adH(xs:List Nd)(p b:ByteArray)(u:p.size<=maxLen)(n:b.size<=maxLen)(v:Value)(w:World)(E hi:Nat)(h:fX w E hi xs [v])(j:hi<=w.heap.size)(O:xs.length<=1000) :
  Calls (ah β) 31 #[v,.string p,.string b] w (asA w):=by
 obtain⟨A,c,rfl⟩:=h.form;go_enter Aj,ntmps31;go_wp2;refine(abC xs _ w E hi h j).mono ?_;rintro e f ⟨⟨rfl,g⟩|rfl,a⟩
 .replace g:=ab g;go_wp2;refine(jM p u f).mono ?_;rintro e l ⟨rfl,rfl⟩;cases S:ie p
  .go_wp2;exact pb (v:=.tuple #[.slice (some ⟨(f).heap.size,0,none⟩) 0 0,.bool false]) (by simp[results,results31,go_sem]) rfl ⟨_,[],false,rfl,(eG.new f 102 (a).size).own 2,.nil,(a).alloc (a).size _⟩
  .go_wp2;refine(lY b n f).mono ?_;rintro e l ⟨rfl,rfl⟩;cases J:dN b
   .go_wp2;exact pb (v:=.tuple #[.slice (some ⟨(f).heap.size,0,none⟩) 0 0,.bool false]) (by simp[results,results31,go_sem]) rfl ⟨_,[],false,rfl,(eG.new f 102 (a).size).own 2,.nil,(a).alloc (a).size _⟩
   .go_wp2;refine(amr xs ⟨p,b⟩ ⟨u,n⟩ _ f E hi (fX.ar.below h a j) (ap j a.size) O).mono ?_;rintro e l ⟨W,k,rfl,r,⟨m,K⟩,B⟩;obtain⟨R,M,rfl⟩:=r.form;have s:∀y∈k,nB.good y:=λy P=>by
     rcases m y P with L|rfl
     .exact aaD g.out y L
     .exact⟨u,n⟩
    have V:=B.size;have Q:=(r.deep s f.heap.size).sl (am _);go_wp2;refine(abC k _ l f.heap.size l.heap.size Q (am _)).mono ?_;rintro e G ⟨⟨rfl,z⟩|rfl,o⟩
    .have t:=ab z;have d:=ag (ag a B) o;have N:=(r.below o).base a.size;go_wp2;exact pb (v:=.tuple #[.slice R k.length M,.bool true]) (by simp[results,results31,go_sem]) rfl ⟨_,k,true,rfl,N,t.out,d⟩
    .have d:=ag (ag a B) o;have q:=kq (F:=nB) (fX.ar.below h d j).1 (ap j d.size);have x:=ab q;have i:=av G (.cells #[] 102);have D:=ab (eG.new G 102 (am _));go_wp2_with(at_builtin;refine nO (F:=nB) (xs:=xs) i rfl (.tmp 31) (.tmp 32) 44 rfl oL (am _) rfl rfl D.out x.out (by omega) ?_;intro U T C H;obtain⟨A',I,rfl⟩:=H.form);exact pb (v:=.tuple #[.slice A' xs.length I,.bool false]) (by simp[results,results31,go_sem]) rfl ⟨_,xs,false,rfl,H.base d.size,g.out,ag d (ag i C)⟩
 .go_wp2;exact pb (v:=.tuple #[.slice (some ⟨(f).heap.size,0,none⟩) 0 0,.bool false]) (by simp[results,results31,go_sem]) rfl ⟨_,[],false,rfl,(eG.new f 102 (a).size).own 2,.nil,(a).alloc (a).size _⟩
end
section
variable {β:Bool}
open Go.RowKit
def avH(p:Prop):∃q:Bool,q=true↔p:=by
 by_cases h:p
 .exact⟨true,by simp[h]⟩
 .exact⟨false,by simp[h]⟩
def avI{l:List Sp}(h:ixP l):∀x∈l,FSp.good x:=λx a=>by
 have:=h.1 x a;unfold spP at this;refine⟨?_, ?_⟩<;>unfold cf<;>omega
end
section
variable {β:Bool}
open Go.RowKit
def agQ:∀{a l:List Sp} {x:Sp},x∈eJ a l->x∈a\/x∈l
 |[],_,_,h=>.inr h
 |s::a,l,x,h=>by
  have b:x∈eJ a (fW s l):=h;rcases agQ b with h|h
  .exact .inl (by simp[h])
  .rcases acC h with rfl|h
   .exact .inl (by simp)
   .exact .inr h
instance aEW:Inhabited Tr:=⟨.nil⟩
end
end Go.Proofs.YtokgbpkbaoeeoaaGreatDoor