/- A part. -/
import Derived.Test.YtmicddpknimniaaGreatDoorG6
import Derived.RangeFuncNested
import Derived.RangeFuncBound
import Derived.RangeFuncCalls
import Derived.RangeFuncLeaves
import Derived.Shelf.Abstract
import Derived.Shelf.RegionOpen
import Derived.OwnWalkIn
import Derived.TacticsInMore
import Derived.LoopNIn
import Derived.LoopIn
import Derived.Lib.IndexLaws
import Derived.Lib.Bytealg
import Derived.OrdersIn
set_option maxRecDepth 100000
set_option maxHeartbeats 8000000
set_option linter.all false
open Go Go.Conc Go.ConcN Go.RowKit Go.Proofs.Tryz Go.Proofs.YtmicddpknimniaaGreatDoor
variable {s:dK} {W B hi i k lo n₀:Nat} {a:Act} {key n:Int} {V:Type} {o:Oper} {Z Y X v:Value} {w w':World} {f g:ByteArray} {R:Array Oper} {cs:List Value} {A:Option Addr} {U S:Act→World→Prop} {x:Int × ByteArray} {Post:Value→World→Prop}
namespace Go.Proofs.YtmicddpknimniaaGreatDoor
def sb:=@beq_self_eq_true
def sE:=@List.find?_cons
def sU:=@List.mem_map_of_mem
def sX:=@List.getElem?_cons_zero
def tl:=@List.length_eq_one_iff
def uE:=@Array.replicate_zero
def uF:=@Array.replicate_succ
def uG:=@Int.mul_le_mul_of_nonneg_left
def uJ:=@List.filterMap_cons
def uK:=@List.append_toArray
def uW:=@List.push_toArray
def vk:=@List.map_flatMap
def vE:=@List.length_pos_of_mem
def vF:=@Go.KeepsOthers.of_grownBy
def vM:=@Int.emod_add_mul_ediv
section
open Go.Conc Go.ConcN
def ar8:gL.contains 0=true:=by unfold gL;kernel_rfl
def ajy:gL.contains 1=true:=by unfold gL;kernel_rfl
def ahR{g:Nat}(h:gL.contains g=true):g∈gL:=by simpa using h
abbrev mH:List Nat:=6::7::cK
def Tm.mh{T T':Array Value}{d:Nat}(h:Tm [d] T T')(b:mH.contains d=true):Tm mH T T':=h.mono λt a=>by
 simp at a;subst a;exact b
def aAC(t:Nat)(h:cK.contains t=true):mH.contains t=true:=by
 simp only[mH,te,qN];exact .inr (.inr h)
noncomputable def ajz:Code:=.seq (.region 58 aio false) (.seq (.region 59 ac0 false) cI)
noncomputable def ar9:Code:=.seq (aaF 54 aqu 19) (.seq (aaF 55 aqv 19) (.seq (aaF 56 aqw 19) (.seq (.region 57 amU false) (.seq (.block 53 (.loop lM)) ajz))))
section
variable {X:Cx} {T:Array Value} {k:List Item} {w:World}
def At.head(h:At X T (.code jH::k) w):∃x A n c l T',T.getD 0 undef=.int .i64 x/\1<=x/\x<=99/\(∃v,w.cell? ⟨0,0,none⟩=some v)/\(∃v,w.cell? ⟨1,0,none⟩=some v)/\
  T.getD 1 undef=.slice A n c/\n<=c/\(c:Int)<=9223372036854775807/\l.length=n/\RdP w A 0 l/\(∀i,i<n->PkR X w A i)/\(∀a,A=some a->Rgd X a.block)/\Tm mH T T'/\T'.getD 6 undef=.slice none 0 0/\T'.getD 7 undef=.bool false/\At X T' (.code ar9::k) w:=by
 have o:=Tm.refl mH T;unfold jH at h;have h:=h.seq.seq;replace h:=h.region (l:=[0,1,2]) rfl;obtain⟨v,E,Z,⟨p,g⟩,m,s,f⟩:=h.jb (d:=6) (Φ:=λv j=>v=.slice none 0 0/\j=w) rfl rfl rfl (by decide) λD j r=>ja r;rw[p] at s;rw[g] at f;clear p g;replace o:=o.trans (m.mh rfl);clear m;replace h:=f;clear f;obtain⟨v,E,a1,⟨p,g⟩,m,u,f⟩:=h.jb (d:=7) (Φ:=λv j=>v=.bool false/\j=w) rfl rfl rfl (by decide) λD j r=>ja r;rw[p] at u;rw[g] at f;clear p g;replace s:=(m.same 6 rfl).trans s;replace o:=o.trans (m.mh rfl);clear m;replace h:=f;clear f;obtain⟨v,E,a2,⟨x,V,p,g⟩,m,q,f⟩:=h.jb (d:=16) (Φ:=λv j=>∃x,T.getD 0 undef=.int .i64 x/\v=.bool (decide (x<1))/\j=w) rfl rfl rfl (by decide) λD j r=>let⟨v,U,z,P,Q,O⟩:=ar5 (b:=1) rfl r;⟨v,U,z,(o.same 0 rfl).symm.trans P,Q,O⟩
 rw[p] at q;rw[g] at f;clear p g;replace s:=(m.same 6 rfl).trans s;replace u:=(m.same 7 rfl).trans u;replace o:=o.trans (m.mh rfl);clear m;replace h:=f;clear f;obtain⟨I,f⟩:=h.iO.chk q;replace h:=f.seq.seq;clear f;replace h:=h.region (l:=[0]) rfl;clear q;obtain⟨v,E,a6,⟨p,g⟩,m,q,f⟩:=h.jb (d:=16) (Φ:=λv j=>v=.bool (decide ((99:Int)<x))/\j=w) rfl rfl rfl (by decide) λD j r=>fS rfl (by exact(o.same 0 rfl).trans V) r;rw[p] at q;rw[g] at f;clear p g;replace s:=(m.same 6 rfl).trans s;replace u:=(m.same 7 rfl).trans u;replace o:=o.trans (m.mh rfl);clear m;replace h:=f;clear f;obtain⟨J,f⟩:=h.iO.chk q;replace h:=f.seq.seq;clear f;replace h:=h.region (l:=[0,1,2,3,4,5]) rfl;obtain⟨ms,W⟩:=(faQ true).auT;have hv:=h.aAx (ahR ar8);clear q;obtain⟨v,E,a5,⟨R,g⟩,m,q,f⟩:=h.jb (d:=16) (Φ:=λv j=>w.cell? ⟨0,0,none⟩=some v/\j=w) rfl rfl rfl (by decide) λD j r=>ahO W rfl rfl hv r;rw[g] at f;clear g;replace s:=(m.same 6 rfl).trans s;replace u:=(m.same 7 rfl).trans u;replace o:=o.trans (m.mh rfl);clear m;replace h:=f;clear f;have N:=h.aAx (ahR ajy);clear q;obtain⟨v,E,a0,⟨S,g⟩,m,q,f⟩:=h.jb (d:=16) (Φ:=λv j=>w.cell? ⟨1,0,none⟩=some v/\j=w) rfl rfl rfl (by decide) λD j r=>ahO W rfl rfl N r;rw[g] at f;clear g;replace s:=(m.same 6 rfl).trans s;replace u:=(m.same 7 rfl).trans u;replace o:=o.trans (m.mh rfl);clear m;replace h:=f;clear f;have M:=h.ahQ (t:=1) rfl rfl rfl λe w he=>ad1 (faQ true).u23 he;rw[o.same 1 rfl] at M;clear q;obtain⟨v,E,a4,⟨A,n,c,F,p,g⟩,m,q,f⟩:=h.jb (d:=16) (Φ:=λv j=>∃A n c,T.getD 1 undef=.slice A n c/\v=.int .i64 n/\j=w) rfl rfl rfl (by decide) λD j r=>let⟨v,U,B,m,c,P,Q,O⟩:=ahN (faQ true).u23 r;⟨v,U,B,m,c,(o.same 1 rfl).symm.trans P,Q,O⟩
 rw[p] at q;rw[g] at f;clear p g;replace s:=(m.same 6 rfl).trans s;replace u:=(m.same 7 rfl).trans u;replace o:=o.trans (m.mh rfl);clear m;replace h:=f;clear f;obtain⟨v,E,a3,⟨p,g⟩,m,y,f⟩:=h.jb (d:=18) (Φ:=λv j=>v=.int .i64 c/\j=w) rfl rfl rfl (by decide) λD j r=>alW (faQ true).u23 (by exact(o.same 1 rfl).trans F) r;rw[p] at y;rw[g] at f;clear p g;replace s:=(m.same 6 rfl).trans s;replace u:=(m.same 7 rfl).trans u;replace q:=(m.same 16 rfl).trans q;replace o:=o.trans (m.mh rfl);clear m;replace h:=f;clear f;obtain⟨v,E,a7,⟨p,g⟩,m,K,f⟩:=h.jb (d:=20) (Φ:=λv j=>v=.int .i64 (0:Nat)/\j=w) rfl rfl rfl (by decide) λD j r=>ja r;rw[p] at K;rw[g] at f;clear p g;replace s:=(m.same 6 rfl).trans s;replace u:=(m.same 7 rfl).trans u;replace q:=(m.same 16 rfl).trans q;replace y:=(m.same 18 rfl).trans y;replace o:=o.trans (m.mh rfl);clear m;replace h:=f;clear f;obtain⟨v,E,a8,⟨p,g⟩,m,C,f⟩:=h.jb (d:=19) (Φ:=λv j=>v=.bool (decide ((9223372036854775807:Int)<c))/\j=w) rfl rfl rfl (by decide) λD j r=>fS rfl (by exact y) r;rw[p] at C;rw[g] at f;clear p g;replace s:=(m.same 6 rfl).trans s;replace u:=(m.same 7 rfl).trans u;replace q:=(m.same 16 rfl).trans q;replace y:=(m.same 18 rfl).trans y;replace K:=(m.same 20 rfl).trans K;replace o:=o.trans (m.mh rfl);clear m;replace h:=f;clear f;obtain⟨H,f⟩:=h.iO.chk C;replace h:=f.seq.seq;clear f;replace h:=h.region (l:=[0]) rfl;clear C;obtain⟨v,E,Y,⟨p,g⟩,m,C,f⟩:=h.jb (d:=19) (Φ:=λv j=>v=.bool (decide ((c:Int)<n))/\j=w) rfl rfl rfl (by decide) λD j r=>fS (by exact y) (by exact q) r;rw[p] at C;rw[g] at f;clear p g;replace s:=(m.same 6 rfl).trans s;replace u:=(m.same 7 rfl).trans u;replace q:=(m.same 16 rfl).trans q;replace K:=(m.same 20 rfl).trans K;replace o:=o.trans (m.mh rfl);clear m;replace h:=f;clear f;obtain⟨L,f⟩:=h.iO.chk C;replace h:=f.seq.block.loop;clear f;replace I:=eE I;replace J:=eE J;replace H:=eE H;replace L:=eE L;obtain⟨l,T2,hl,r,hR,G,f⟩:=At.awB (by omega) n 0 (by omega) h ((o.same 1 rfl).trans F) q K;exact⟨x,A,n,c,l,T2,V,I,J,⟨_,R⟩,⟨_,S⟩,F,by omega,H,hl,r,λi hi=>(by have:=hR i hi;rwa [mc] at this),λa e=>M a n c (by rw[F,e]),o.trans (G.mono aAC),(G.same 6 rfl).trans s,(G.same 7 rfl).trans u,f⟩
def At.names(h:At X T (.code ar9::k) w):∃A n c C T',T.getD 2 undef=.slice A n c/\(∀a,A=some a->a.block<w.heap.size)/\(∀a,A=some a->Rgd X a.block)/\(n:Int)<=2147483647/\n<=c/\(c:Int)<=9223372036854775807/\C.size=2*n/\Tm cK T T'/\
  T'.getD 16 undef=.int .i64 n/\T'.getD 27 undef=.slice (some ⟨w.heap.size,0,none⟩) n n/\T'.getD 28 undef=.int .i64 (0:Nat)/\At X T' (.code (.block 53 (.loop lM)) :: .code ajz::k) (w.alloc (.cells C 136)):=by
 have p:=Tm.refl cK T;unfold ar9 at h;have h:=h.seq.seq;replace h:=h.region (l:=[0,1,2]) rfl;have G:=h.au0 (t:=2) rfl rfl rfl λe w M=>ad1 (faQ true).u31 M;have J:=h.ahQ (t:=2) rfl rfl rfl λe w M=>ad1 (faQ true).u31 M;obtain⟨v,z,Q,⟨A,n,c,u,j,i⟩,m,o,b⟩:=h.jb (d:=16) (Φ:=λv g=>∃A n c,T.getD 2 undef=.slice A n c/\v=.int .i64 n/\g=w) rfl rfl rfl (by decide) λD g r=>let⟨v,Y,B,m,c,Z,R,S⟩:=ahN (faQ true).u31 r;⟨v,Y,B,m,c,Z,R,S⟩
 rw[j] at o;rw[i] at b;clear j i;replace p:=p.trans (m.sw rfl);clear m;replace h:=b;clear b;obtain⟨v,z,O,⟨j,i⟩,m,q,b⟩:=h.jb (d:=18) (Φ:=λv g=>v=.int .i64 c/\g=w) rfl rfl rfl (by decide) λD g r=>alW (faQ true).u31 (by exact(p.same 2 rfl).trans u) r;rw[j] at q;rw[i] at b;clear j i;replace o:=(m.same 16 rfl).trans o;replace p:=p.trans (m.sw rfl);clear m;replace h:=b;clear b;obtain⟨v,z,U,⟨j,i⟩,m,f,b⟩:=h.jb (d:=19) (Φ:=λv g=>v=.bool (decide ((2147483647:Int)<n))/\g=w) rfl rfl rfl (by decide) λD g r=>fS rfl (by exact o) r;rw[j] at f;rw[i] at b;clear j i;replace o:=(m.same 16 rfl).trans o;replace q:=(m.same 18 rfl).trans q;replace p:=p.trans (m.sw rfl);clear m;replace h:=b;clear b;obtain⟨s,b⟩:=h.iO.chk f;replace h:=b.seq.seq;clear b;replace h:=h.region (l:=[0]) rfl;clear f;obtain⟨v,z,W,⟨j,i⟩,m,f,b⟩:=h.jb (d:=19) (Φ:=λv g=>v=.bool (decide ((9223372036854775807:Int)<c))/\g=w) rfl rfl rfl (by decide) λD g r=>fS rfl (by exact q) r;rw[j] at f;rw[i] at b;clear j i;replace o:=(m.same 16 rfl).trans o;replace q:=(m.same 18 rfl).trans q;replace p:=p.trans (m.sw rfl);clear m;replace h:=b;clear b;obtain⟨y,b⟩:=h.iO.chk f;replace h:=b.seq.seq;clear b;replace h:=h.region (l:=[0]) rfl;clear f;obtain⟨v,z,H,⟨j,i⟩,m,f,b⟩:=h.jb (d:=19) (Φ:=λv g=>v=.bool (decide ((c:Int)<n))/\g=w) rfl rfl rfl (by decide) λD g r=>fS (by exact q) (by exact o) r;rw[j] at f;rw[i] at b;clear j i;replace o:=(m.same 16 rfl).trans o;replace p:=p.trans (m.sw rfl);clear m;replace h:=b;clear b;obtain⟨E,b⟩:=h.iO.chk f;replace h:=b.seq;clear b;replace h:=h.region (l:=[0,1]) rfl;replace s:=eE s;replace y:=eE y;replace E:=eE E;obtain⟨C,L,K⟩:=anG (faQ true) (w:=w) (e:=(FQ cx H (.inRegion amU (0::[1]) :: .code (.seq (.block 53 (.loop lM)) ajz)::k)).eval) (x:=.tmp 16) (dst:=some 40) (ty:=125) (pos:= "") (af:=#[]) (gd:=none) s (by exact o);obtain⟨v,z,V,⟨j,i⟩,m,F,b⟩:=h.jb (d:=27) (Φ:=λv g=>v=.slice (some ⟨w.heap.size,0,none⟩) n n/\g=w.alloc (.cells C 136)) rfl rfl rfl (by decide) λD g r=>by have I:=K.symm.trans r;cases I;exact⟨_,rfl,rfl,rfl⟩
 rw[j] at F;rw[i] at b;clear j i;replace o:=(m.same 16 rfl).trans o;replace p:=p.trans (m.sw rfl);clear m;replace h:=b;clear b;obtain⟨v,z,P,⟨j,i⟩,m,N,b⟩:=h.jb (d:=28) (Φ:=λv g=>v=.int .i64 (0:Nat)/\g=w.alloc (.cells C 136)) rfl rfl rfl (by decide) λD g r=>ja r;rw[j] at N;rw[i] at b;clear j i;replace o:=(m.same 16 rfl).trans o;replace F:=(m.same 27 rfl).trans F;replace p:=p.trans (m.sw rfl);clear m;replace h:=b;clear b;exact⟨A,n,c,C,_,u,λa e=>G a n c (by rw[u,e]),λa e=>J a n c (by rw[u,e]),s,by omega,y,L,p,o,F,N,h.iO.seq⟩
end
section
variable {β:Bool} {R:List Frame->World->Prop} {c0 c:Cfg} {ib ρ:Ren} {w0 w w2:World} {l l2:List Frame}
def asa{P:Program}  :∃o a,step P (jW ⟨(jJ P).finish v,[],.running,none,none⟩ w)=.ended o a:=by
 have h:∃o a b,stepG P true ⟨(jJ P).finish v,[],.running,none,none⟩ w=.ended o a b:=by
  simp only[jJ,Frame.finish,stepG,stepG.exec,acx];exact⟨_,_,_,rfl⟩
 obtain⟨o,a,b,h⟩:=h;exact⟨o,a,cA rfl h⟩
def asb(g:ik (ah β) ρ c.l l)(D:oD c.l):(∃o a,step (ah β) (jW (Gl l [jJ (ah β)]) w)=.ended o a)\/∃v a,step (ah β) (jW (Gl l [jJ (ah β)]) w)=.next (jW ⟨(jJ (ah β)).finish v,[],.running,none,none⟩ a):=by
 obtain⟨L,m,G,hd,K⟩:=D;obtain⟨x,M,y,O,N,k⟩:=g.ne';have H:=g.lone m k;subst H k;rw[m] at g;have F:=g.head;obtain⟨fn,s,e,C,A,u,t⟩:=y;obtain⟨B,E,J,j,b,p,z⟩:=F;dsimp only at B E J j b p z;obtain rfl:A=.returning:=by
  rcases b with b|b
  .rw[G] at b;cases b.1
  .exact b.2
 obtain rfl:C=[]:=by rw[hd] at j;cases j;rfl
 obtain rfl:u=.normal:=p.2;have i:∀{r:GStep},stepG (ah β) true (Gl [⟨fn,s,e,[],.returning,.normal,t⟩] [jJ (ah β)]) w=r->(∃o a d,r=.ended o a d)\/(∃v a d,r=.go ⟨(jJ (ah β)).finish v,[],.running,none,none⟩ a d):=by
  intro r n;subst n;simp only[Gl,stepG,unwind,qW];cases I:(ah β).funcs[fn]? with
  |none=>exact .inr ⟨_,_,_,rfl⟩
  |some f=>
   dsimp only;cases n:(results f s).runT (ah β) w #[] with
   |mk q d=>
    cases q with
    |ok v a=>exact .inr ⟨v,a,_,rfl⟩
    |halt q a=>cases q<;>exact .inl ⟨_,_,_,rfl⟩
 rcases i rfl with⟨o,a,d,h⟩|⟨v,a,d,h⟩
 .exact .inl ⟨o,a,cA rfl h⟩
 .exact .inr ⟨v,a,dr rfl h⟩
def gD.runs:∀(n:Nat) {c:Cfg} {ρ:Ren} {l:List Frame} {w:World},gD β R c0 ib w0 c ρ l w->runN (ah β) n (jW (Gl l [jJ (ah β)]) w)=.next (jW (Gl l2 [jJ (ah β)]) w2)->l2≠[]->∃i g,gD β R c0 ib w0 i g l2 w2
 |0,c,ρ,l,w,h,hr,hne=>by
  simp only[runN,qF] at hr;obtain⟨b,rfl⟩:=gC hr;obtain⟨_,_,y,m,_,a⟩:=h.st.ne';obtain rfl:=mO (by rw[a];simp) hne b;exact⟨c,ρ,h⟩
 |n+1,c,ρ,l,w,h,hr,hne=>by
  obtain⟨_,_,y,m,_,a⟩:=h.st.ne';have j:l≠[]:=by rw[a];simp
  unfold runN at hr;by_cases d:oD c.l
  .exfalso;rcases asb (w:=w) h.st d with⟨o,f,e⟩|⟨v,f,e⟩
   .rw[e] at hr;cases hr
   .rw[e] at hr;cases n with
    |zero=>
     simp only[runN,qF] at hr;obtain⟨b, -⟩:=gC hr;cases l2 with
     |nil=>exact hne rfl
     |cons x t=>
      have:=fi Goroutine.callers b;simp[Gl] at this
    |succ n=>
     unfold runN at hr;obtain⟨o,s,p⟩:=asa (P:=ah β) (v:=v) (w:=f);simp only[p] at hr;cases hr
  .obtain⟨i,g,z,r,u,q, -, -,k, -⟩:=h.ac5 true d;rw[dr (iR j _) (k _)] at hr;exact gD.runs n q hr hne
def gD.calls{f:FuncId}{args:Array Value}{y:Frame}{i:List Frame}(h:gD β R c0 ib w0 c ρ (Frame.enter (ah β) f args .normal::y::i) w)(u:Calls (ah β) f args w λe a=>∃v,e=.returned v/\Post v a) :
  ∃l p v j,gD β R c0 ib w0 l p (y.finish v::i) j/\Post v j:=by
 obtain⟨e,a,g,⟨v,rfl,B⟩,⟨n,F⟩,G,D⟩:=u (y::i++[jJ (ah β)]);obtain⟨l,p,A⟩:=h.runs (l2:=g::y::i) (w2:=a) n F (by simp);have d:∀base,stepG (ah β) true (Gl (g::y::i) base) a=.go (Gl (y.finish v::i) base) a (seen (ah β) g.fn ((results ((ah β).funcs[g.fn]?.getD default) g.tmps).runT (ah β) a #[]).2):=λbase=>by
  obtain⟨r,hd,k,fn,m,o⟩:=D;obtain⟨J,s,t,L,K,I,H⟩:=g;dsimp only at r hd k m o;subst r hd k;have b:((results fn s).runT (ah β) a #[]).1=.ok v a:=by rw[rc];exact o
  simp only[Gl,stepG,unwind,m,qi,qS];cases z:(results fn s).runT (ah β) a #[] with
  |mk q M=>
   rw[z] at b;dsimp only at b;subst b;simp[doReturn,GStep.after]
 obtain⟨C,E,x, -, -⟩:=A.go rfl true d;exact⟨C,E,v,a,x,B⟩
end
end
section
open Go.Conc Go.ConcN Go.RowKit
abbrev ij:=Int×List (Int×ByteArray)
def dX(fv:Int->List ij->Int->ByteArray×Bool):Prop:=∀(b:Bool) (w:World) (a:Int) (A:Option Addr) (n c:Nat) (l:List ij) (nm:Int),1<=a->a<=99->l.length=n->n<=c->(c:Int)<=9223372036854775807->RdP w A 0 l->In_ nm->
 Calls (ah b) 74 #[.int .i64 a,.slice A n c,.int .i64 nm] w λe d=>∃v,e=.returned v/\(v=.agg #[.string (fv a l nm).1,.bool (fv a l nm).2]/\Below w.heap.size w d)
def ajA(w:World)(A:Option Addr)(i:Nat)(nm:Int):Prop:=∃a,A=some a/\w.cell? (a.add i)=some (.int .i64 nm)/\In_ nm
def ahP.below{B:Option Addr}(h:ahP w B i x)(f:∀b,b<w.heap.size->w'.heap[b]?=w.heap[b]?):ahP w' B i x:=by
 obtain⟨⟨a,j,d,e⟩,g,l⟩:=h;have k:∀{A:Addr} {v:Value},w.cell? A=some v->w'.cell? A=some v:=λ{A v} c=>by
  rw[fR (f A.block (fT c))];exact c
 exact⟨⟨a,j,k d,k e⟩,g,l⟩
def RdP.below{j:Nat}{l:List ij}(h:RdP w A j l)(d:∀b,b<w.heap.size->w'.heap[b]?=w.heap[b]?):RdP w' A j l:=λi x o=>by
 obtain⟨⟨a,B,c,r,g,n,q,t,p,s⟩,f⟩:=h i x o;have k:∀{A:Addr} {v:Value},w.cell? A=some v->w'.cell? A=some v:=λ{A v} e=>by
  rw[fR (d A.block (fT e))];exact e
 exact⟨⟨a,B,c,r,k g,k n,q,t,p,λi y m=>(s i y m).below d⟩,f⟩
def rm(a:Addr)(n:Nat):(a.add n).block=a.block:=by unfold Addr.add;split<;>rfl
def iJ(b o n:Nat):(⟨b,o,none⟩:Addr).add n=⟨b,o+n,none⟩:=by
 unfold Addr.add;by_cases h:n=0
 .subst h;simp
 .simp[h]
section
variable {X:Cx} {T:Array Value} {k:List Item} {w:World}
def At.call  {rest:List Nat} {d:Tmp} {f:FuncId} {args:Array Value} (h:At X T (.inRegion R (i::rest)::k) w) (n:R[i]?=some o) (u:o.guard=none) (p:o.dst=some d) (j:d<45)
  (D:∀w,(execOp (FQ cx T (.inRegion R (i::rest)::k)).eval o).runT (ah true) w #[]=(.ok (.enter f args) w,#[])) (q:Calls (ah true) f args w λe r=>∃v,e=.returned v/\Post v r) :
  ∃v g l,Post v g/\Tm [d] T l/\l.getD d undef=v/\At X l (.inRegion R rest::k) g:=by
 obtain⟨b,c,H,h⟩:=h;have a:∀base,stepG (ah true) true (Gl (FQ cx T (.inRegion R (i::rest)::k)::X.y::X.ys) base) w=.go (Gl (Frame.enter (ah true) f args .normal::FQ cx T (.inRegion R (i::rest)::k)::X.y::X.ys) base) w (seen (ah true) cx #[]):=λbase=>by
  have z:∀y,Region.wanted o y=true:=λy=>by unfold Region.wanted;rw[u]
  have F:stepG (ah true) true (Gl (FQ cx T (.inRegion R (i::rest)::k)::X.y::X.ys) base) w =
    stepG.apply (ah true) true (FQ cx T (.inRegion R (i::rest)::k)) (X.y::X.ys++base) none (execOp (FQ cx T (.inRegion R (i::rest)::k)).eval o) w:=by
   simp[Gl,stepG,stepG.exec,stepG.oper,Frame.oper?,n,z]
  rw[F];unfold stepG.apply;simp only[D,pb];simp[GStep.after,Gl]
 obtain⟨G,I,x, -, -⟩:=h.go rfl true a;obtain⟨A,E,v,g,m,C⟩:=x.calls q;have B:Frame.finish (FQ cx T (.inRegion R (i::rest)::k)) v=FQ cx (T.setIfInBounds d v) (.inRegion R rest::k):=by
  simp only[Frame.finish,n,qB,p]
 rw[B] at m;replace j:d<T.size:=aE j b;exact⟨v,g,_,C,.one (by simp) (λt s=>by rw[aD j,be s]),by rw[aD j,dk rfl],by simpa using b,A,E,m⟩
end
end
section
variable {β:Bool}
open Go.RowKit
def ab2{a:Addr}(h:w.cell? a=some v):a.spot=none:=by
 unfold World.cell? at h;split at h
 .split at h
  .cases h
  .rename_i b;cases c:a.spot with
   |none=>rfl
   |some x=>rw[c] at b;exact absurd rfl b
 .cases h
def ItL(w:World)(A:Option Addr)(l:List (Int×ByteArray)):Prop:=∀i x,l[i]?=some x->∃b a,A=some ⟨b,a,none⟩/\b<w.heap.size/\w.cell? ⟨b,a+i*2,none⟩=some (.int .i64 x.1)/\w.cell? ⟨b,a+i*2+1,none⟩=some (.string x.2)/\bF x.1/\x.2.size<=maxLen
def ItL.of{l:List (Int×ByteArray)}(h:RdI w A 0 l):ItL w A l:=λi x k=>by
 obtain⟨e,j⟩:∃e,l[0]?=some e:=aq (by have:=aG k;omega);obtain⟨⟨p,m,f, -⟩, -, -⟩:=h 0 e j;obtain⟨⟨a,rfl,d,c⟩,o,q⟩:=h i x k;obtain rfl:=dq m;rw[mc] at d c;obtain⟨b,g,n⟩:=a;obtain rfl:n=none:=by
  have:=ab2 f;unfold Addr.add at this;simpa using this
 rw[iJ] at d c;rw[iJ] at c;refine⟨b,g,rfl,fT d,d,c,o,by unfold maxLen;omega⟩
def ItL.below{l:List (Int×ByteArray)}(h:ItL w A l)(d:Below w.heap.size w w'):ItL w' A l:=λi x g=>by
 obtain⟨b,a,k,c,f,j,m⟩:=h i x g;have e:=d.block b c;exact⟨b,a,k,aE c d.size,(qs e).trans f,(qs e).trans j,m⟩
def alY(n m:Int)(s:ByteArray)(g:Nat)(w:World)(b:w.cell? ⟨g,0,none⟩=some (.int .i64 m)) :
  Calls (ah β) 149 #[.agg #[.int .i64 n,.string s],.pointer (some ⟨g,0,none⟩)] w λe c=>e=.returned (.bool (decide (n=m)))/\Below w.heap.size w c:=by
 have i:g≠w.heap.size:=λe=>by
  have:=fT b;simp only at this;omega
 have a:=aA w (.cells #[.int .i64 n,.string s] 49);have d:(w.alloc (.cells #[.int .i64 n,.string s] 49)).cell? ⟨g,0,none⟩=some (.int .i64 m):=(qs (a.block g (fT b))).trans b;by_cases h:n=m
 .subst h;go_enter wC,ntmps149;go_wp2;go_ret;exact⟨aC (by simp),a⟩
 .have f:(n ==m)=false:=fa.2 h;go_enter wC,ntmps149;go_wp2;go_ret;exact⟨aC (by simp[h]),a⟩
def dO(nm:Int):List (Int×ByteArray)->Int
 |[]=> -1
 |x::l=>if x.1=nm then 0 else let j:=dO nm l;if j<0 then -1 else j+1
def afb{nm:Int}:∀{l:List (Int×ByteArray)},(∀y∈l,y.1≠nm)->dO nm l=-1
 |[],_=>rfl
 |x::l,h=>by
  show(if x.1=nm then _ else _)=_;rw[be (h x (by simp)),afb λy a=>h y (by simp[a])];rfl
def agl{nm:Int}{x:Int×ByteArray}:∀{l:List (Int×ByteArray)} {k:Nat},(∀y∈l.take k,y.1≠nm)->l[k]?=some x->x.1=nm->dO nm l=k
 |[],k,_,h,_=>by simp at h
 |y::l,0,_,h,hx=>by
  simp at h;subst h;show(if y.1=nm then _ else _)=_;rw[dk hx];rfl
 |y::l,k+1,hn,h,hx=>by
  show(if y.1=nm then _ else _)=_;rw[be (hn y (by simp)),agl (l:=l) (k:=k) (λz a=>hn z (by simp[a])) (by simpa using h) hx];show(if((k:Nat):Int)<0 then _ else _)=_;rw[be (by omega)];omega
end
section
variable {β:Bool}
open Go.RowKit
def ayh:at5 (β:=β) 149:=axy wC (by kernel_rfl) rfl
def ahS(nm:Int)(l:List (Int×ByteArray))(A:Option Addr)(c g:Nat)(w:World)(D:ItL w A l)(F:l.length<=c)(I:c<=maxLen)(v:w.cell? ⟨g,0,none⟩=some (.int .i64 nm)) :
  Calls (ah β) 148 #[.slice A l.length c,.func (.func 149) #[] #[.pointer (some ⟨g,0,none⟩)]] w λe u=>e=.returned (.int .i64 (dO nm l))/\Below w.heap.size w u:=by
 unfold maxLen at I;have q:=fT v;go_enter xS,ntmps148;go_wp2;go_loopw [8] (λi wr=>∃k:Nat,k<=l.length/\i=.int .i64 k/\(∀y∈l.take k,y.1≠nm)/\Below w.heap.size w wr) (λi _=>l.length-(intOf i).toNat)
 case atStart=>exact⟨0,fb _,rfl,by simp,gc _ _⟩
 case round=>
  obtain⟨k,J,rfl,n,o⟩:=hrel;replace n:=ab n;have t:wr.cell? ⟨g,0,none⟩=some (.int .i64 nm):=(qs (o.block g q)).trans v;by_cases p:k<l.length
  .obtain⟨x,j⟩:=aq p;obtain⟨b,C,rfl,G,z,E,H,B⟩:=(D.below o) k x j;replace j:=ab j;have K:=ayh (β:=β) (#[.agg #[.int .i64 x.1,.string x.2]]++#[.pointer (some ⟨g,0,none⟩)]) wr;go_wp2;refine(alY x.1 nm x.2 g wr t).mono ?_;rintro e u ⟨rfl,d⟩;replace d:=ae o d;by_cases h:x.1=nm
   .have a:dO nm l=k:=agl n.out j.out h;have r:=ab a;clear a;have m:decide (x.1=nm)=true:=db h;rw[m];clear h m;go_wp2;go_ret;exact⟨by rw[r.out];rfl,d⟩
   .have s:∀y∈l.take (k+1),y.1≠nm:=by
     intro y f;rw[nF j.out,ge] at f;rcases f with f|f
     .exact n.out y f
     .rw[jn.1 f];exact h
    replace s:=ab s;have m:decide (x.1=nm)=false:=bv h;rw[m];clear h m;go_wp2;go_roundw
    case rel=>exact⟨k+1,by omega,by go_num,s.out,d⟩
    simp[intOf];omega
  .obtain rfl:k=l.length:=by omega
   have a:dO nm l=-1:=afb (by have:=n.out;rwa [gn] at this);have r:=ab a;clear a;go_wp2;go_ret;exact⟨by rw[r.out];rfl,o⟩
end
section
variable {β:Bool}
open Go.RowKit
noncomputable def gS(key:Int)(l:List (Int×ByteArray))(nm:Int):ByteArray×Bool:=match l[(dO nm l).toNat]? with
 |some x=>if dO nm l<0 then(⟨#[]⟩,false) else eZ key x
 |none=>(⟨#[]⟩,false)
def ab3(nm:Int):∀l:List (Int×ByteArray),dO nm l=-1\/∃(k:Nat) (x:Int×ByteArray),dO nm l=k/\l[k]?=some x
 |[]=>.inl rfl
 |y::l=>by
  show(if y.1=nm then _ else _)=(-1:Int)\/∃(k:Nat) (x:Int×ByteArray),(if y.1=nm then _ else _:Int)=k/\_;by_cases h:y.1=nm
  .rw[dk h];exact .inr ⟨0,y,rfl,rfl⟩
  .rw[be h];rcases ab3 nm l with a|⟨k,x,a,b⟩
   .rw[a];exact .inl rfl
   .rw[a];refine .inr ⟨k+1,x, ?_,by simpa using b⟩;show(if((k:Nat):Int)<0 then _ else _)=_;rw[be (by omega)];omega
def apg(key t nm:Int)(C:1<=key/\key<=99)(l:List (Int×ByteArray))(A:Option Addr)(c:Nat)(w:World)(G:ItL w A l)(q:l.length<=c)(u:c<=maxLen) :
  Calls (ah β) 118 #[.int .i64 key,.agg #[.int .i64 t,.slice A l.length c],.int .i64 nm] w λe z=>e=.returned (.tuple #[.string (gS key l nm).1,.bool (gS key l nm).2])/\Below w.heap.size w z:=by
 have HC:=ab u;unfold maxLen at u;go_enter yd,ntmps118;go_wp2;generalize d:(w.alloc (.cells #[.int .i64 t,.slice A l.length c] 32)).alloc (.cells #[.int .i64 nm] 3)=w0 at *;obtain⟨s,K,j,D,y,i,g,n⟩:=akM d;clear d;have f:=G.below s;refine(ahS nm l A c (w.heap.size+1) w0 f q HC.out (g 0)).mono ?_;rintro e v ⟨rfl,a⟩;have r:=f.below a;replace j:=av j a;replace D:=j.cell;replace y:=j.frozen;replace i:=av i a;replace g:=i.cell;replace n:=i.frozen;replace a:=ae s a;rcases ab3 nm l with h|⟨k,x,h,p⟩
 .have d:gS key l nm=(⟨#[]⟩,false):=by
   unfold gS;rw[h];split
   .rw[dk (by omega)]
   .rfl
  have HG:=ab d;clear d;rw[h];go_wp2;go_ret2;rw[HG.out];exact⟨rfl,a⟩
 .have d:gS key l nm=eZ key x:=by
   unfold gS;rw[h,show((k:Nat):Int).toNat=k from rfl,p];show(if((k:Nat):Int)<0 then _ else _)=_;rw[be (by omega)]
  have HG:=ab d;clear d;obtain⟨b,F,rfl,I,E,H,J,m⟩:=r k x p;have B:=aG p;have L:=bv (show ¬((k:Int)<0) by omega);rw[h];go_wp2;refine(ans key x C m v).mono ?_;rintro e M ⟨rfl,o⟩;replace a:=ae a o;go_wp2;go_ret2;rw[HG.out];exact⟨rfl,a⟩
end
section
variable {β:Bool}
open Go.RowKit
noncomputable def cJ(key:Int):List ij->Int->ByteArray×Bool
 |[],_=>(⟨#[]⟩,false)
 |p::l,nm=>if(gS key p.2 nm).2=true then((gS key p.2 nm).1,true) else cJ key l nm
def ahT{key nm:Int}:∀{l:List ij} {k:Nat},(∀p∈l.take k,(gS key p.2 nm).2=false)->cJ key l nm=cJ key (l.drop k) nm
 |[],k,_=>by simp
 |p::l,0,_=>rfl
 |p::l,k+1,h=>by
  show(if(gS key p.2 nm).2=true then _ else cJ key l nm)=_;rw[be (by rw[h p (by simp)];simp),List.drop_succ_cons];exact ahT λq a=>h q (by simp[a])
def PkL(w:World)(A:Option Addr)(l:List ij):Prop:=∀i x,l[i]?=some x->∃b a B c,A=some ⟨b,a,none⟩/\b<w.heap.size/\w.cell? ⟨b,a+i*2,none⟩=some (.int .i64 x.1)/\w.cell? ⟨b,a+i*2+1,none⟩=some (.slice B x.2.length c)/\x.2.length<=c/\c<=maxLen/\ItL w B x.2
def PkL.of{l:List ij}(h:RdP w A 0 l):PkL w A l:=λi x m=>by
 obtain⟨f,k⟩:∃f,l[0]?=some f:=aq (by have:=aG m;omega);obtain⟨⟨s,r,u,n,g, -⟩, -⟩:=h 0 f k;obtain⟨⟨a,B,c,rfl,e,d, -,q,t,p⟩, -⟩:=h i x m;obtain rfl:=dq n;rw[mc] at e d;obtain⟨b,j,o⟩:=a;obtain rfl:o=none:=by
  have:=ab2 g;unfold Addr.add at this;simpa using this
 rw[iJ] at e d;rw[iJ] at d;exact⟨b,j,B,c,rfl,fT e,e,d,q,by unfold maxLen;omega,ItL.of p⟩
def PkL.below{l:List ij}(h:PkL w A l)(d:Below w.heap.size w w'):PkL w' A l:=λi x j=>by
 obtain⟨b,a,B,c,n,f,g,m,p,k,o⟩:=h i x j;have e:=d.block b f;exact⟨b,a,B,c,n,aE f d.size,(qs e).trans g,(qs e).trans m,p,k,o.below d⟩
def anH(w:World)(key:Int)(A:Option Addr)(c:Nat)(l:List ij)(nm:Int)(S:1<=key)(O:key<=99)(X:l.length<=c)(hc:(c:Int)<=9223372036854775807)(V:PkL w A l)(a2:In_ nm) :
  Calls (ah β) 74 #[.int .i64 key,.slice A l.length c,.int .i64 nm] w λe P=>∃v,e=.returned v/\(v=.agg #[.string (cJ key l nm).1,.bool (cJ key l nm).2]/\Below w.heap.size w P):=by
 go_enter yG,ntmps74;go_wp2;generalize r:w.alloc (.cells #[.string ⟨#[]⟩,.bool false] 136)=w0 at *;obtain⟨L,mo,a,E,z⟩:=iN r;clear r;go_loopw [13] (λi wr=>∃k:Nat,k<=l.length/\i=.int .i64 k/\(∀p∈l.take k,(gS key p.2 nm).2=false)/\Below w0.heap.size w0 wr) (λi _=>l.length-(intOf i).toNat)
 case atStart=>exact⟨0,fb _,rfl,by simp,gc _ _⟩
 case round=>
  obtain⟨k,hk,rfl,f,u⟩:=hrel;replace f:=ab f;replace a:=av a u;replace E:=a.cell;replace z:=a.frozen;have I:=(V.below L).below u;have d:=ae L u;by_cases j:k<l.length
  .obtain⟨p,o⟩:=aq j;obtain⟨b,U,B,M,rfl,a0,T,Y,K,C,F⟩:=I k p o;replace o:=ab o;go_wp2;generalize r:wr.alloc (.cells #[.int .i64 p.1,.slice B p.2.length M] 32)=w5 at *;obtain⟨g,a1,q0,R,N⟩:=iN r;clear r;replace a:=av a g;replace E:=a.cell;replace z:=a.frozen;replace d:=ae d g;refine(apg key p.1 nm ⟨S,O⟩ p.2 B M w5 (F.below g) K C).mono ?_;rintro e Q ⟨rfl,J⟩;replace a:=av a J;replace E:=a.cell;replace z:=a.frozen;replace d:=ae d J;cases x:gS key p.2 nm with
   |mk t W=>
    cases W with
    |true=>
     have q:cJ key l nm=(t,true):=by
      rw[ahT (k:=k) f.out,tO j];have Z:l[k]=p:=by have:=o.out;rw[li j] at this;exact dq this
      rw[Z];show(if(gS key p.2 nm).2=true then _ else _)=_;rw[x];rfl
     have D:=ab q;clear q x;go_wp2;have s:=(a.bM 0 (.string t)).bM 1 (.bool true);simp only[dj,gt,gE] at s;have m:=s.cell;exact pe (v:=.agg #[.string t,.bool true]) (by simp[results,results74,go_sem,m]) rfl ⟨_,rfl,by rw[D.out],(d.setCell (by simp) _).setCell (by simp) _⟩
    |false=>
     have G:∀y∈l.take (k+1),(gS key y.2 nm).2=false:=by
      intro y n;rw[nF o.out,ge] at n;rcases n with n|n
      .exact f.out y n
      .rw[jn.1 n,x]
     replace G:=ab G;clear x;have H:Below w0.heap.size w0 Q:=ae (ae u g) J;go_wp2;go_roundw
     case rel=>exact⟨k+1,by omega,by go_num,G.out,H⟩
     simp[intOf];omega
  .obtain rfl:k=l.length:=by omega
   have q:cJ key l nm=(⟨#[]⟩,false):=by
    rw[ahT (k:=l.length) f.out,List.drop_length];rfl
   have D:=ab q;clear q;go_wp2;have s:=(a.bM 0 (.string ⟨#[]⟩)).bM 1 (.bool false);simp only[dj,gt,gE] at s;have m:=s.cell;exact pe (v:=.agg #[.string ⟨#[]⟩,.bool false]) (by simp[results,results74,go_sem,m]) rfl ⟨_,rfl,by rw[D.out],(d.setCell (by simp) _).setCell (by simp) _⟩
def wS:dX cJ:=λ_ w a A n c l nm g e j b i f d=>by
 subst j;exact anH w a A c l nm g e b i (PkL.of f) d
def wH(key nm:Int):cJ key [] nm=(⟨#[]⟩,false):=rfl
end
section
variable {β:Bool}
open Go.RowKit
def pkd(p:Pk):ij:=(p.no,p.its.map λx=>(x.n,x.b))
def jB(l:List Pk):List ij:=l.map pkd
open Classical in
noncomputable def iK(l:List ByteArray):ByteArray×Bool:=if dn (rE (gY l))=true/\gb (rE (gY l))=l then(rE (gY l),true) else(⟨#[]⟩,false)
def alZ(key:Int)(l:List ij)(ns:List Int):Prop:=∀n∈ns,(cJ key l n).2=true
noncomputable def nA(key:Int)(l:List ij)(ns:List Int):List ByteArray:=ns.map λn=>(cJ key l n).1
open Classical in
noncomputable def iL(key:Int)(l:List ij)(x:Ls):Option Nd:=if alZ key l x.ns/\(iK (nA key l x.ns)).2=true then some ⟨x.p,(iK (nA key l x.ns)).1⟩ else none
noncomputable def fc(key:Int)(l:List ij)(xs:List Ls):List Nd:=xs.filterMap (iL key l)
def aaf(g f:ByteArray):Bool:=(bs g++[47]).isPrefixOf (bs f)
def agm(t:List Nd):Prop:=t.length<=6/\∀i x,t[i]?=some x->afA x/\(∀y,0<i->t[i-1]?=some y->Op.bytesLess y.p.toList x.p.toList=true)/\∀k y,k<i->t[k]?=some y->aaf y.p x.p=false
open Classical in
noncomputable def fZ(key:Int)(l:List ij)(xs:List Ls):Option (List Nd):=if(∀x∈xs,(iL key l x).isSome=true)/\agm (fc key l xs) then some (fc key l xs) else none
noncomputable def adj(key:Int)(s:dK)(no:Int):Option (List Nd):=match s.sn.find? (λx=>x.no ==no) with
 |some x=>fZ key (jB s.pk) x.all
 |none=>none
def mz{key nm:Int}:∀{l:List ij},(cJ key l nm).2=true↔∃p∈l,(gS key p.2 nm).2=true
 |[]=>by simp[cJ]
 |p::l=>by
  show(if(gS key p.2 nm).2=true then((gS key p.2 nm).1,true) else cJ key l nm:ByteArray×Bool).2=true↔_;by_cases h:(gS key p.2 nm).2=true
  .rw[dk h];exact⟨λ_=>⟨p,by simp,h⟩,λ_=>rfl⟩
  .rw[be h,mz];constructor
   .rintro⟨q,a,b⟩;exact⟨q,by simp[a],b⟩
   .rintro⟨q,a,b⟩;rcases jp.1 a with rfl|a
    .exact absurd b h
    .exact⟨q,a,b⟩
def afc{nm:Int}:∀{l:List (Int×ByteArray)} {k:Nat} {x:Int×ByteArray},dO nm l=k->l[k]?=some x->x.1=nm
 |[],k,x,_,h=>by simp at h
 |y::l,k,x,h,hx=>by
  have h:(if y.1=nm then 0 else let j:=dO nm l;if j<0 then -1 else j+1:Int)=k:=h;by_cases a:y.1=nm
  .rw[dk a] at h;obtain rfl:k=0:=by omega
   simp at hx;subst hx;exact a
  .rw[be a] at h;by_cases b:dO nm l<0
   .have h:(if dO nm l<0 then -1 else dO nm l+1:Int)=k:=h;rw[dk b] at h;omega
   .have h:(if dO nm l<0 then -1 else dO nm l+1:Int)=k:=h;rw[be b] at h;obtain⟨m,rfl⟩:∃m,k=m+1:=⟨k-1,by omega⟩;exact afc (l:=l) (k:=m) (by omega) (by simpa using hx)
def anI{nm : Int}{l:List (Int×ByteArray)}(h:dO nm l=k)(a:l[k]?=some x):gS key l nm=eZ key x:=by
 unfold gS;rw[h,show((k:Nat):Int).toNat=k from rfl,a];show(if((k:Nat):Int)<0 then _ else _)=_;rw[be (by omega)]
def aph{nm : Int}{l:List (Int×ByteArray)}(h:dO nm l=-1):gS key l nm=(⟨#[]⟩,false):=by
 unfold gS;rw[h];split
 .rw[dk (by omega)]
 .rfl
def afd{nm : Int}{l:List (Int×ByteArray)}(h:(gS key l nm).2=true):∃(k:Nat) (x:Int×ByteArray),dO nm l=k/\l[k]?=some x/\x.1=nm/\gS key l nm=eZ key x:=by
 rcases ab3 nm l with a|⟨k,x,a,b⟩
 .rw[aph a] at h;cases h
 .exact⟨k,x,a,b,afc a b,anI a b⟩
def al0(h:(eZ key x).2=true):bg (bs (eZ key x).1)/\bG key (bs (eZ key x).1)=x.1:=by
 unfold eZ at h ⊢;split
 .rename_i a;exact⟨agf a.1,a.2⟩
 .rename_i a;rw[be a] at h;cases h
def al1{nm : Int}{l:List (Int×ByteArray)}(h:(gS key l nm).2=true):bg (bs (gS key l nm).1)/\bG key (bs (gS key l nm).1)=nm:=by
 obtain⟨k,x,d,c,b,a⟩:=afd h;rw[a] at h ⊢;have:=al0 h;exact⟨this.1,this.2.trans b⟩
def kU{key nm:Int}:∀{l:List ij},(cJ key l nm).2=true->bg (bs (cJ key l nm).1)/\bG key (bs (cJ key l nm).1)=nm
 |[],h=>by cases h
 |p::l,h=>by
  have e:cJ key (p::l) nm=if(gS key p.2 nm).2=true then((gS key p.2 nm).1,true) else cJ key l nm:=rfl
  rw[e] at h ⊢;by_cases a:(gS key p.2 nm).2=true
  .rw[dk a];exact al1 a
  .rw[be a] at h ⊢;exact kU h
def asf{x y k m r:Int}(g:r+999999999989*k=15*x+55433)(l:r+999999999989*m=15*y+55433)(j:0<=x/\x<282429536481)(i:0<=y/\y<282429536481):x=y:=by
 have b:15*(x-y)=999999999989*(k-m):=by
  rw[Int.mul_sub 999999999989];generalize 999999999989*k=A at *;generalize 999999999989*m=B at *;omega
 clear g l;generalize k-m=d at *;have f:x-y<282429536481/\ -282429536481<x-y:=by clear b;omega
 have a:x-y=0->x=y:=by clear b;omega
 clear j i;generalize x-y=z at *;have e:d<5:=by
  refine Int.lt_of_not_ge λh=> ?_;have:=uG h (show(0:Int)<=999999999989 by decide);rw[<-b] at this;clear b;omega
 have c : -5<d:=by
  refine Int.lt_of_not_ge λh=> ?_;have:=uG h (show(0:Int)<=999999999989 by decide);rw[<-b] at this;clear b;omega
 have:d=-4\/d=-3\/d=-2\/d=-1\/d=0\/d=1\/d=2\/d=3\/d=4:=by clear b f a;omega
 rcases this with rfl|rfl|rfl|rfl|rfl|rfl|rfl|rfl|rfl<;>(first|(exact a (by omega))|(exfalso;clear e c f a;omega))
def asg{x y:Int}(b:0<=x/\x<282429536481)(d:0<=y/\y<282429536481)(h:(15*x+55433) % 999999999989=(15*y+55433) % 999999999989):x=y:=by
 have a:=vM (15*x+55433) 999999999989;have c:=vM (15*y+55433) 999999999989;rw[h] at a;exact asf a c b d
def aa5{a b:List Nat}(c:bg a)(d:bg b)(h:bG 7 a=bG 7 b):a=b:=by
 have i:=aby c;have f:=aby d;have e:∀l,bG 7 l=(15*(code l:Int)+55433) % 999999999989:=λl=>by
  unfold bG;rw[show(code l:Int)*(2*7+1)+7*7919=15*(code l:Int)+55433 by clear h i f;generalize (code l:Int)=z;omega]
 rw[e,e] at h;have j:(code a:Int)<282429536481:=by clear h e;omega
 have g:(code b:Int)<282429536481:=by clear h e;omega
 have k:(code a:Int)=code b:=asg ⟨Int.natCast_nonneg _,j⟩ ⟨Int.natCast_nonneg _,g⟩ h;refine aov c.2 d.2 ?_;show code a=code b;exact Int.ofNat_inj.1 k
def api{nm:Int}{l l':List ij}(h:(cJ 7 l nm).2=true)(e:(cJ 7 l' nm).2=true):(cJ 7 l nm).1=(cJ 7 l' nm).1:=by
 obtain⟨a,b⟩:=kU h;obtain⟨c,d⟩:=kU e;exact lO (aa5 a c (b.trans d.symm))
def apj{l l':List ij}(c:∀nm,(cJ 7 l' nm).2=true->(cJ 7 l nm).2=true){b:List Int}(h:alZ 7 l' b):alZ 7 l b/\nA 7 l b=nA 7 l' b:=
 ⟨λn a=>c n (h n a),uI λn a=>api (c n (h n a)) (h n a)⟩
def al3{l l':List ij}(d:∀nm,(cJ 7 l' nm).2=true->(cJ 7 l nm).2=true){x:Ls}{y:Nd}(h:iL 7 l' x=some y):iL 7 l x=some y:=by
 unfold iL at h ⊢;split at h
 .rename_i b;obtain⟨c,a⟩:=apj d b.1;rw[dk ⟨c,by rw[a];exact b.2⟩,a];exact h
 .cases h
def adk{l l':List ij}(e:∀nm,(cJ 7 l' nm).2=true->(cJ 7 l nm).2=true):∀{xs:List Ls},(∀x∈xs,(iL 7 l' x).isSome=true)->(∀x∈xs,(iL 7 l x).isSome=true)/\fc 7 l xs=fc 7 l' xs
 |[],_=>⟨λx g=>(by cases g),rfl⟩
 |x::xs,h=>by
  obtain⟨y,d⟩:=rz.1 (h x (by simp));have b:=al3 e d;obtain⟨f,c⟩:=adk e (xs:=xs) λz a=>h z (by simp[a]);refine⟨λz a=> ?_, ?_⟩
  .rcases jp.1 a with rfl|a
   .rw[b];rfl
   .exact f z a
  .unfold fc at c ⊢;rw[uJ,uJ,d,b,c]
def al4{l l':List ij}(d:∀nm,(cJ 7 l' nm).2=true->(cJ 7 l nm).2=true){xs:List Ls}{t:List Nd}(h:fZ 7 l' xs=some t):fZ 7 l xs=some t:=by
 unfold fZ at h ⊢;split at h
 .rename_i b;obtain⟨c,a⟩:=adk d b.1;rw[dk ⟨c,by rw[a];exact b.2⟩,a];exact h
 .cases h
def afe{x:It}:ju key x↔(eZ key (x.n,x.b)).2=true:=by
 have e:∀s,(eP s).2=true↔mQ (bs s)=some (bs (eP s).1):=λs=>by
  unfold eP mQ;rw[ahG];by_cases h:bg (uX (bs s))/\fN (uX (bs s))=bs s
  .rw[dk h,dk h];simp only[tQ];rw[ahG]
  .rw[be h,be h];simp
 unfold ju eZ;constructor
 .rintro⟨p,c,f⟩;have d:(eP x.b).2=true:=by
   unfold eP;rw[ahG];unfold mQ at c;split at c
   .rename_i b;rw[dk b]
   .cases c
  have a:=(e x.b).1 d;rw[c] at a;have a:=dq a;rw[dk ⟨d,by rw[<-a];exact f⟩]
 .intro h;split at h
  .rename_i b;exact⟨_,(e x.b).1 b.1,b.2⟩
  .cases h
def ash{s:ByteArray}(h:bg (bs s)):ju key (iG key s):=⟨bs s,by show mQ (bs (rE (fN (bs s))))=_;rw[aha,aiv h],rfl⟩
def anJ(p:Pk)(i:Nat):(pkd p).2[i]?=(p.its[i]?).map λx=>(x.n,x.b):=by show(p.its.map _)[i]?=_;rw[qD]
def aff{nm : Int}{p:Pk}(c:∀x∈p.its,ju key x)(h:dO nm (pkd p).2=k):(gS key (pkd p).2 nm).2=true:=by
 rcases ab3 nm (pkd p).2 with b|⟨e,x,b,a⟩
 .omega
 .rw[anI b a];rw[anJ] at a;obtain⟨y,d,rfl⟩:=io.1 a;exact afe.1 (c y (da d))
def ajB{nm:Int}:∀{l a:List (Int×ByteArray)},l.map (·.1)=a.map (·.1)->dO nm l=dO nm a
 |[],[],_=>rfl
 |[],_::_,h=>by simp at h
 |_::_,[],h=>by simp at h
 |x::l,y::a,h=>by
  simp only[qL,qb] at h;show(if x.1=nm then 0 else let j:=dO nm l;if j<0 then -1 else j+1:Int)=(if y.1=nm then 0 else let j:=dO nm a;if j<0 then -1 else j+1:Int);rw[h.1,ajB h.2]
def apk{β : Type}(g:V->β)(f:V->V)(c:∀x,g (f x)=g x)(l:List V)(i:Nat):(tW l i f).map g=l.map g:=by
 unfold tW;split
 .rename_i x b;apply List.ext_getElem?;intro j;rw[qD,qD];by_cases a:i=j
  .subst a;rw[sj (aG b),b];simp[c]
  .rw[sM a]
 .rfl
def au2(m:∀p∈s.pk,∀x∈p.its,ju 7 x)(L:abP)(nm:Int)(h:(cJ 7 (jB (jX s L).pk) nm).2=true):(cJ 7 (jB s.pk) nm).2=true:=by
 have same:(jX s L).pk=s.pk->(cJ 7 (jB s.pk) nm).2=true:=λe=>by rw[e] at h;exact h
 by_cases l:L.k=1
 .rw[ahy l] at h;obtain⟨p,c,f⟩:=mz.1 h;refine mz.2 ⟨p, ?_,f⟩;obtain⟨q,g,rfl⟩:=mT.1 c;exact sU ((sB.1 g).1)
 by_cases d:L.k=2
 .by_cases b:0<=L.n/\L.n<=s.lg.length
  .exact same (by rw[aeS d b])
  .exact same (by rw[ahz d b])
 by_cases j:L.k=3
 .rw[alc j] at h;obtain⟨p,c,f⟩:=mz.1 h;obtain⟨q,g,rfl⟩:=mT.1 c;obtain⟨r,a,rfl⟩:=mT.1 g;obtain⟨k,x,n, -, -, -⟩:=afd f;refine mz.2 ⟨pkd r,sU a,aff (m r a) (k:=k) ?_⟩;rw[<-n];refine ajB ?_;show(r.its.map _).map _=((anm L r).its.map _).map _;rw[tz,tz];unfold anm;split
  .exact(apk (λx:It=>x.n) (λx=>(⟨x.n,L.b⟩:It)) (λ_=>rfl) r.its L.m.toNat).symm
  .rfl
 by_cases i:L.k=4
 .by_cases b:0<=L.n/\L.n<s.lg.length
  .exact same (by rw[ald i b])
  .exact same (by rw[ahA i b])
 exact same (by rw[ale l d j i])
def dH.items(h:dH s):∀p∈s.pk,∀x∈p.its,ju 7 x:=by
 induction h with
 |nil=>exact λp a=>(by cases a)
 |save _ l d k i=>
  intro p a x b;rcases ge.1 a with a|a
  .exact i p a x b
  .obtain⟨n,j,c,e,m,o,f⟩:=iZ 7 _ _ _ (am _) p a;rw[e] at b;obtain⟨q,g,rfl⟩:=acK.1 b;exact ash (kP (pQ d) q (f q g))
def dH.one(h:dH s):∀p∈s.pk,1<=p.its.length:=by
 induction h with
 |nil=>exact λp a=>(by cases a)
 |save _ m l i b=>
  intro p a;rcases ge.1 a with a|a
  .exact b p a
  .obtain⟨j,g,c,e,d,k,f⟩:=iZ 7 _ _ _ (am _) p a;rw[e,pO];exact d
def adl{e:Type}(q:e->Bool)(f:Int->Bool)(a:e->Int)(n:Int)(i:∀x,q x=f (a x)):∀{l:List e} {x:e},(l.filter q).find? (λx=>a x ==n)=some x->l.find? (λx=>a x ==n)=some x
 |[],x,h=>by simp at h
 |y::l,x,h=>by
  rw[sE];by_cases d:a y=n
  .rw[show(a y ==n)=true from mw.2 d];by_cases c:q y=true
   .rw[rP,dk c,sE,show(a y ==n)=true from mw.2 d] at h;exact h
   .exfalso;have j:=List.mem_of_find?_eq_some h;have g:=List.find?_some h;have b:=(sB.1 j).2;rw[i] at b c;rw[mw.1 g] at b;rw[d] at c;exact c b
  .rw[show(a y ==n)=false from fa.2 d];refine adl q f a n i (l:=l) ?_;by_cases c:q y=true
   .rw[rP,dk c,sE,show(a y ==n)=false from fa.2 d] at h;exact h
   .rw[rP,be c] at h;exact h
def ayk(L:abP){x:Sn}(h:(jX s L).sn.find? (λx=>x.no ==key)=some x):s.sn.find? (λx=>x.no ==key)=some x:=by
 by_cases d:L.k=1
 .rw[ahy d] at h;exact h
 by_cases b:L.k=2
 .by_cases a:0<=L.n/\L.n<=s.lg.length
  .rw[aeS b a] at h;exact adl (λx:Sn=>!((s.lg.drop L.n.toNat).any λh=>h.s ==x.no)) (λm=>!((s.lg.drop L.n.toNat).any λh=>h.s ==m)) (λx:Sn=>x.no) key (λ_=>rfl) h
  .rw[ahz b a] at h;exact h
 by_cases e:L.k=3
 .rw[alc e] at h;exact h
 by_cases c:L.k=4
 .by_cases a:0<=L.n/\L.n<s.lg.length
  .rw[ald c a] at h;exact h
  .rw[ahA c a] at h;exact h
 rw[ale d b e c] at h;exact h
def Af(h:dH s)(L:abP){t:List Nd}(a:adj 7 (jX s L) key=some t):adj 7 s key=some t:=by
 unfold adj at a ⊢;split at a
 .rename_i x b;rw[ayk L b];exact al4 (au2 h.items L) a
 .cases a
end
section
open Go.RowKit
inductive dD (s:dK):dK->Prop
 |same:dD s s
 |gone {k:Nat} (h:k<s.pk.length):dD s ⟨s.pk.take k++s.pk.drop (k+1),s.sn,s.lg⟩
 |put {k:Nat} {p q:Pk} (h:s.pk[k]?=some p) (hl:q.its.length=p.its.length) (hb:∀x∈q.its,x.b.size<=8):dD s ⟨s.pk.set k q,s.sn,s.lg⟩
def dD.lg{x : dK}(h:dD s x):x.lg=s.lg:=by cases h<;>rfl
def dD.sn{x : dK}(h:dD s x):x.sn=s.sn:=by cases h<;>rfl
def dD.all{x : dK}(h:dD s x){P:Pk->Prop}(a:∀p∈s.pk,P p)(c:∀p q:Pk,P p->q.its.length=p.its.length->(∀y∈q.its,y.b.size<=8)->P q):∀p∈x.pk,P p:=by
 cases h with
 |same=>exact a
 |gone h=>
  intro p b;rcases ge.1 b with h|h
  .exact a p (oS h)
  .exact a p (tF h)
 |put h e f=>
  intro p b;rcases sL b with d|rfl
  .exact a p d
  .exact c _ _ (a _ (da h)) e f
def dD.len{x : dK}(h:dD s x):x.pk.length<=s.pk.length:=by
 cases h with
 |same=>exact am _
 |gone h=>show(s.pk.take _++s.pk.drop _).length<=_;rw[ap,ff,pY];omega
 |put h _ _=>show(s.pk.set _ _).length<=_;rw[qM];exact am _
def dD.sm{x : dK}(h:dD s x)(a:SmS s):SmS x:=
 ⟨bd h.len a.pl,h.all (P:=λp=>p.its.length<=4/\∀y∈p.its,y.b.size<=8) a.pn λp q b c d=>⟨by rw[c];exact b.1,d⟩,by rw[h.sn];exact a.sl,by rw[h.sn];exact a.sn,by rw[h.lg];exact a.ll⟩
end
section
variable {β:Bool}
open Go.RowKit
structure PkH where
 no:Int
 a:Option Addr
 n:Nat
 c:Nat
def ahU:Flat PkH:=⟨2,λx=>[.int .i64 x.no,.slice x.a x.n x.c],λ_=>True,λ_=>rfl,λx u a=>by simp at a;rcases a with rfl|rfl<;>rfl,by decide⟩
def al5(w:World)(lo hi:Nat)(x:PkH)(p:Pk):Prop:=x.no=p.no/\x.n=p.its.length/\bF p.no/\iD w lo hi p.its [.slice x.a p.its.length x.c]
def al5.below{x:PkH}{p:Pk}(h:al5 w lo hi x p)(b:Below B w w')(a:hi<=B):al5 w' lo hi x p:=⟨h.1,h.2.1,h.2.2.1,iD.aw.below h.2.2.2 b a⟩
open Classical in
def asi{l:List Pk}(h:fP w lo hi l [v]) :
  ∃r:List PkH,r.length=l.length/\cV (bY ahU) 2 w lo hi r [v]/\∀(i:Nat) (x:PkH) (p:Pk),r[i]?=some x->l[i]?=some p->al5 w lo hi x p:=by
 obtain⟨A,c,rfl⟩:=h.form;have m:∀i:Fin l.length,∃x:PkH,al5 w lo hi x l[i]/\∃b a,A=some ⟨b,a,none⟩/\w.cell? ⟨b,a+i*2,none⟩=some (.int .i64 x.no)/\w.cell? ⟨b,a+i*2+1,none⟩=some (.slice x.a x.n x.c):=λi=>by
  obtain⟨b,a,F,H,rfl, -, -,s,D,n,G⟩:=acZ h (li i.2);exact⟨⟨l[i].no,F,l[i].its.length,H⟩,⟨rfl,rfl,s,G⟩,b,a,rfl,D,n⟩
 obtain⟨f,z⟩:=Classical.axiomOfChoice m;have q:(List.ofFn f).length=l.length:=List.length_ofFn;have y:∀i x,(List.ofFn f)[i]?=some x->∃hi:i<l.length,x=f ⟨i,hi⟩:=λi x g=>by
  rw[List.getElem?_ofFn] at g;split at g
  .rename_i hi;exact⟨hi,(dq g).symm⟩
  .cases g
 refine⟨List.ofFn f,q, ?_,λi x p g o=> ?_⟩
 .obtain⟨A',K,e,E,I,g⟩:=h.1;simp only[qb,pX,ql] at e;obtain⟨rfl, -,rfl⟩:=e;refine⟨A,c,by rw[q],by rw[q];exact E,I,λo=> ?_⟩;obtain⟨b,a,rfl,n,C, -⟩:=g (by omega);refine⟨b,a,rfl,n,C,λi x hi=> ?_⟩;obtain⟨d,rfl⟩:=y i x hi;obtain⟨-,L,t,e,B,J⟩:=z ⟨i,d⟩;simp only[mt,qv,ql] at e;obtain⟨rfl,rfl⟩:=e;refine⟨_,rfl,⟨rfl,trivial⟩,λj u k=> ?_⟩
  match j,k with
  |0,k=>cases k;exact B
  |1,k=>cases k;exact J
 .obtain⟨d,rfl⟩:=y i x g;have e:l[i]'d=p:=by rw[li d] at o;exact dq o
  have:=(z ⟨i,d⟩).1;simp only[Fin.getElem_fin,e] at this;exact this
def apl{base : Nat}{j:List PkH}{l:List Pk}(h:aF ahU 32 w base v j)(C:j.length=l.length)(H:∀(i:Nat) (x:PkH) (p:Pk),j[i]?=some x->l[i]?=some p->al5 w lo hi x p)(J:lo<=base)(hi':hi<=w.heap.size) :
  fP w lo w.heap.size l [v]:=by
 have a:=h.sl (λ_ _=>trivial) (am _);obtain⟨A,c,rfl⟩:=a.form;obtain⟨A',r,e,L,E,D⟩:=a;simp only[qb,pX,ql] at e;obtain⟨rfl, -,rfl⟩:=e;refine⟨⟨A,c,by rw[C],by omega,E,λz=> ?_⟩,λz b d n r e=> ?_⟩
 .obtain⟨b,d,rfl,K,q,m⟩:=D (by omega);refine⟨b,d,rfl,by omega,q,λi p hi=> ?_⟩;obtain⟨x,f⟩:=aq (l:=j) (k:=i) (by have:=aG hi;omega);obtain⟨M,F,⟨rfl, -⟩,G⟩:=m i x f;obtain⟨t,I,u,B⟩:=H i x p f hi;refine⟨_,F,⟨.slice x.a x.n x.c,by rw[<-t];rfl,u, ?_⟩,G⟩;rw[I];exact iD.aw.wide B (am _) hi'
 .simp only[qb,pX,ql] at e;obtain⟨rfl, -,rfl⟩:=e;rcases h.2 with⟨o, -⟩|⟨g,cap,y,o, -,s, -⟩
  .cases o
  .cases o;exact⟨_,s⟩
end
section
variable {β:Bool}
open Go.RowKit
def cV.aqU{E:fU V}{xs:List V}{n c : Nat}(h:cV E W w lo hi xs [.slice A n c])(q:k<=xs.length):cV E W w lo hi (xs.take k) [.slice A k c]:=by
 obtain⟨A',p,f,r,m,l⟩:=h;simp only[qb,pX,ql] at f;obtain⟨rfl,rfl,rfl⟩:=f;have d:(xs.take k).length=k:=by rw[ff];omega
 refine⟨_,c,by rw[d],by rw[d];omega,m,λg=> ?_⟩;rw[d] at g;obtain⟨b,a,rfl,o,j,e⟩:=l (by omega);refine⟨b,a,rfl,o,j,λi x hi=> ?_⟩;rw[qX] at hi;split at hi
 .exact e _ _ hi
 .cases hi
def fE.T{xs:List Pk}(h:fE w lo hi xs cs):eL 32 OPk 2 w lo hi xs cs:=cE.slT OPk.aw.loc (λh=>h) h
def gj.T{xs:List Sn}(h:gj w lo hi xs cs):eL 65 OSn 2 w lo hi xs cs:=cE.slT OSn.aw.loc (λh=>h) h
def fF.T{xs:List Hd}(h:fF w lo hi xs cs):eL 71 (bY FHd) 2 w lo hi xs cs:=cE.slT (bY.aw FHd).loc (λh=>h) h
abbrev tSn:dV (eL 65 OSn 2) [65,91,3]:=eL.aw OSn.aw
abbrev tHd:dV (eL 71 (bY FHd) 2) [71]:=eL.aw (bY.aw FHd)
structure ayl (w:World) (lo hi:Nat) (s:dK) (va vb vc:Value):Prop where
 pk:eL 32 OPk 2 w lo hi s.pk [va]
 sn:eL 65 OSn 2 w lo hi s.sn [vb]
 lg:eL 71 (bY FHd) 2 w lo hi s.lg [vc]
abbrev aCz:List TypeId:=[32,49,65,91,3,71]
def Typed.more{T U:List TypeId}{b:Nat}(h:Typed w T b)(d:∀t∈T,t∈U):Typed w U b:=by
 obtain⟨t,c,a⟩:=h;exact⟨t,d t c,a⟩
def fQ.t(h:fQ w lo hi s Z Y X):ayl w lo hi s Z Y X:=⟨fE.T h.pk,gj.T h.sn,fF.T h.lg⟩
end
section
variable {β:Bool}
open Go.RowKit
structure mA (w:World) (lo hi:Nat) (s:dK) (va vb vc:Value):Prop where
 pk:fP w lo hi s.pk [va]
 sn:eL 65 OSn 2 w lo hi s.sn [vb]
 lg:eL 71 (bY FHd) 2 w lo hi s.lg [vc]
def ayl.p(h:ayl w lo hi s Z Y X):mA w lo hi s Z Y X:=⟨⟨cV.axI OPk.t h.pk.1,h.pk.2⟩,h.sn,h.lg⟩
def mA.typed{oG hi' : Nat}(h:mA w lo hi s Z Y X)(g:∀b,lo<=b->b<hi->Typed w aCz b->w'.heap[b]?=w.heap[b]?)(f:oG<=lo)(e:hi<=hi'):mA w' oG hi' s Z Y X:=
 ⟨fP.aw.go (λb a c d=>g b a c (d.more (by decide))) f e h.pk,tSn.go (λb a c d=>g b a c (d.more (by decide))) f e h.sn,tHd.go (λb a c d=>g b a c (d.more (by decide))) f e h.lg⟩
def mA.below(h:mA w lo hi s Z Y X)(a:Below B w w')(d:hi<=B):mA w' lo hi s Z Y X:=h.typed (λb _ c _=>a.block b (by omega)) (am _) (am _)
def mA.wide{oG hi' : Nat}(h:mA w lo hi s Z Y X)(b:oG<=lo)(a:hi<=hi'):mA w oG hi' s Z Y X:=h.typed (λ_ _ _ _=>rfl) b a
def mA.l(h:mA w lo hi s Z Y X):aga w lo hi s Z Y X:=⟨fP.l h.pk,cV.axI OSn.l h.sn.1,h.lg.1⟩
def mA.form(h:mA w lo hi s Z Y X):∃A a B b C c,Z=.slice A s.pk.length a/\Y=.slice B s.sn.length b/\X=.slice C s.lg.length c:=by
 obtain⟨A,a,rfl⟩:=eL.form h.pk;obtain⟨B,b,rfl⟩:=eL.form h.sn;obtain⟨C,c,rfl⟩:=eL.form h.lg;exact⟨A,a,B,b,C,c,rfl,rfl,rfl⟩
def mA.box{g : Nat}{cs:Array Value}(h:mA w lo hi s Z Y X)(c:bR w g 27 cs)(j:Nat)(u:Value):mA (w.setCell ⟨g,j,none⟩ u) lo hi s Z Y X:=
 h.typed (λb _ _ a=>qp _ _ _ _ (by
  rintro rfl;obtain⟨t,d,e,hd⟩:=a;exact absurd (eA c hd▸d) (by decide))) (am _) (am _)
def apm(w:World)(lo hi g:Nat)(l:List Int)(p:Nat)(e:Ending)(w':World):Prop:=
 ∃d c a s x q,e=.returned (.agg #[d,c,a])/\mA w' w.heap.size w'.heap.size x d c a/\dH s/\dD s x/\Rd w' lo hi g l q/\q<=p+800/\bq (λb=>b=g) w w'
end
section
variable {β:Bool}
open Go.RowKit
def awC(w:World)(ys:List Int)(e:Ending)(w':World):Prop:=∃v,e=.returned v/\aF gM 3 w' w.heap.size v ys/\Below w.heap.size w w'
def gF(its:List It):List Int:=its.map λx=>x.n
def pd(a:List It):(gF a).length=a.length:=by unfold gF;rw[pu]
def ahV{a:List It}{x:It}(h:a[k]?=some x):gF (a.take (k+1))=gF (a.take k)++[x.n]:=by
 unfold gF;rw[nF h,qR];rfl
def ab4(u:Int)(a:List It)(v:Value)(w:World)(lo hi:Nat)(D:hi<=w.heap.size)(h:iD w lo hi a [v])(V:a.length<=100000000) :
  Calls (ah β) 22 #[.agg #[.int .i64 u,v]] w (awC w (gF a)):=by
 obtain⟨A,c,rfl⟩:=h.form;obtain⟨_,Q,K⟩:=h.len_;unfold maxLen at K;go_enter zl,ntmps22;go_wp2;generalize z:w.alloc (.cells #[.int .i64 u,.slice A a.length c] 32)=wa at *;obtain⟨t,G,E,m,q⟩:=iN z;clear z;go_loopw [3,9] (λx s wr=>∃k:Nat,k<=a.length/\s=.int .i64 k/\aF gM 3 wr w.heap.size x (gF (a.take k))/\Below w.heap.size w wr) (λx s _=>a.length-(intOf s).toNat)
 case atStart=>exact⟨0,fb _,rfl,aF.nil _ _ _,t⟩
 case round=>
  clear E m q t;obtain⟨k,C,rfl,e,b⟩:=hrel;obtain⟨N,I,rfl⟩:=e.form;by_cases j:k<a.length
  .obtain⟨y,g⟩:=aq j;have f:=pd (a.take k);rw[ff,qV C] at f;have d:=ahV g;have HST:=ab d;clear d;obtain⟨U,P,rfl,_,_,M,S,R⟩:=af5 (iD.aw.below h b D) g;replace g:=ab g;revert f HST e;generalize gF (a.take k)=L;intro e f HST;have H:=ab f;clear f;have p:=aA wr (.cells #[.int .i64 y.n,.string y.b] 49);replace e:=e.below p;replace b:=ae b p;have HO:=ab e;clear e;clear p;have r:Hid ((wr.alloc (.cells #[.int .i64 y.n,.string y.b] 49)).heap.size=wr.heap.size+1):=ab (by simp);go_wp2_with(at_builtin;refine bU (F:=gM) (v:=.slice N L.length I) rfl (.tmp 13) (.tmp 16) 40 rfl oI y.n rfl HO.out (fi (λn=>Value.slice (some ⟨n,0,none⟩) 1 1) r.out.symm) rfl (by have:=H.out;omega) b.size ?_;intro X W o l B;obtain⟨T,O,rfl⟩:=o.form;simp only[ap,eg,lw,mc] at o);go_roundw
   case rel=>exact⟨k+1,by omega,by go_num,by rw[HST.out];exact o,b.trans (l.below b.size λi hi J=>by have:=(HO.out.at_ J).1;omega)⟩
   simp[intOf];omega
  .obtain rfl:k=a.length:=by omega
   rw[gn] at e ⊢;go_wp2;go_ret;exact⟨_,rfl,e,b⟩
end
section
variable {β:Bool}
open Go.RowKit
section
variable {P:Program} {α:Type} {F:Flat α}
def agn  {rest:List Oper}  {Q:Exit->Act->World->Prop} (l:o.guard=none) (s x:Operand) (t:TypeId)
  (B:o.op=.call ⟨.builtin .append,#[s,x],#[t,t]⟩)
  {e:TypeId} (y:gJ P t e F.sz W) {base:Nat} {xs d:List α} (G:a.eval s=v) (g:aF F e w base v xs) {c : Nat} (H:a.eval x=.slice A d.length c) (C:cV (bY F) F.sz w lo hi d [.slice A d.length c]) (n:hi<=w.heap.size)
  (I:xs.length+d.length<=1099511627776) (f:base<=w.heap.size)
  (h:∀k i,aF F e i base k (xs++d)->bq (λb=>v.ownBlock=some b) w i->(∀b,k.ownBlock=some b->v.ownBlock=some b\/w.heap.size<=b)->wpList P R Q rest (a.put o.dst k) i) :
  wpList P R Q (o::rest) a w:=
 abz l s x t B y G g H (news:=dt F d) (eu F d) (λz=>by
  obtain⟨r,q,p⟩:=ml C n z;exact⟨r,q,λj u D=>p j u D w (gc _ _)⟩) (pH F d) I f λk i m=>h k i (by
  have E:=m.own;unfold aF;rw[mX,ap];exact E) m.dQ m.at_
end
def pkN(p:Pk):Nat:=p.its.length
def aX(l:List Pk):List Int:=l.flatMap λp=>gF p.its
def afH{l:List Pk}{x:Pk}(h:l[k]?=some x):aX (l.take (k+1))=aX (l.take k)++gF x.its:=by
 unfold aX;rw[nF h,rM];simp
def iy(l:List Pk):∀j,(aX (l.take j)).length=ma pkN l j:=λj=>by
 unfold aX ma;generalize l.take j=m
 induction m with
 |nil=>rfl
 |cons x m a=>rw[List.flatMap_cons,ap,a,pd,qL,um];rfl
def aij(l:List Pk):nS pkN l<=dG bPk l:=by
 unfold nS dG;have:(l.map pkN).sum<=(l.map bPk).sum:=by
  induction l with
  |nil=>exact am _
  |cons x l a=>
   rw[qL,qL,um,um];have:pkN x<=bPk x:=iX;omega
 omega
def abo(l:List Pk)(B C:Option Addr)(r b t m:Nat)(v:Value)(w:World)(lo hi:Nat)(h:fP w lo hi l [v])(I:hi<=w.heap.size)(V:nS pkN l<=1099511627776) :
  Calls (ah β) 6 #[.agg #[v,.slice B r b,.slice C t m]] w λe G=>e=.returned (.int .i64 (nS pkN l))/\Below w.heap.size w G:=by
 obtain⟨A,c,rfl⟩:=h.form;obtain⟨_,T,P⟩:=h.len_;unfold maxLen at P;go_enter qF6,ntmps6;go_wp2;generalize E:w.alloc (.cells #[.slice A l.length c,.slice B r b,.slice C t m] 27)=w0 at *;obtain⟨D,Q,f,x,F⟩:=iN E;clear E;go_loopw [3,4] (λJ u wr=>∃k:Nat,k<=l.length/\u=.int .i64 k/\J=.int .i64 (ma pkN l k)/\bR wr w.heap.size 27 #[.slice A l.length c,.slice B r b,.slice C t m]/\Below w.heap.size w wr) (λ_ u _=>l.length-(intOf u).toNat)
 case atStart=>exact⟨0,fb _,rfl,rfl,f,D⟩
 case round=>
  clear f x F D;obtain⟨k,S,rfl,rfl,f,d⟩:=hrel;have x:=f.cell 0;have s:=oB (n:=pkN) (l:=l) (j:=k);by_cases i:k<l.length
  .obtain⟨p,o⟩:=aq i;have a:=aaB (n:=pkN) o;have q:=oB (n:=pkN) (l:=l) (j:=k+1);obtain⟨R,M,U,W,rfl, -, -,N,L,H,O⟩:=acZ (fP.aw.below h d I) o;have g:pkN p=p.its.length:=rfl;rw[g] at a;obtain⟨z,y⟩:∃z:Nat,z=ma pkN l k:=⟨_,rfl⟩;rw[<-y] at a s ⊢;have K:z+p.its.length<=1099511627776:=by omega
   replace a:=ab a;clear o y q g;go_wp2;go_roundw
   case rel=>exact⟨k+1,by omega,by go_num,by rw[a.out];go_num,f,d⟩
   simp[intOf];omega
  .obtain rfl:k=l.length:=by omega
   rw[kg];go_wp2;go_ret;exact⟨rfl,d⟩
def jP(l:List Pk)(v:Value)(w:World)(lo hi:Nat)(W:hi<=w.heap.size)(h:fP w lo hi l [v])(hl:nS pkN l<=100000000) :
  Calls (ah β) 12 #[v] w (awC w (aX l)):=by
 obtain⟨A,c,rfl⟩:=h.form;obtain⟨_,hc,hx⟩:=h.len_;unfold maxLen at hx;go_enter zv,ntmps12;go_wp2;go_loopw [3,8] (λU Q wr=>∃k:Nat,k<=l.length/\Q=.int .i64 k/\aF gM 3 wr w.heap.size U (aX (l.take k))/\Below w.heap.size w wr) (λU Q _=>l.length-(intOf Q).toNat)
 case atStart=>exact⟨0,fb _,rfl,aF.nil _ _ _,gc _ _⟩
 case round=>
  obtain⟨k,hk,rfl,b,a⟩:=hrel;obtain⟨Ao,Z,rfl⟩:=b.form;have G:=iy l k;have O:=oB (n:=pkN) (l:=l) (j:=k);by_cases E:k<l.length
  .obtain⟨p,o⟩:=aq E;have r:=aaB (n:=pkN) o;have x:=oB (n:=pkN) (l:=l) (j:=k+1);have t:pkN p=p.its.length:=rfl;rw[t] at r;have d:=afH o;have HST:=ab d;clear d;obtain⟨b1,Y,A5,c5,rfl, -, -,a1,B,y,s⟩:=acZ (fP.aw.below h a W) o;have P:p.its.length<=100000000:=by omega
   have f:(aX (l.take k)).length+p.its.length<=100000000:=by omega
   replace o:=ab o;clear r x t G O;revert b;revert HST;revert f;generalize aX (l.take k)=L;intro f HST b;have C:=ab f;clear f;go_wp2;generalize S:wr.alloc (.cells #[.int .i64 p.no,.slice A5 p.its.length c5] 32)=wa at *;obtain⟨I,a0,m0,H,M⟩:=iN S;clear S;replace b:=b.below I;have D:=iD.aw.below s I (by have:=a.size;omega);replace a:=ae a I;refine(ab4 p.no p.its _ _ _ _ (by have:=a.size;omega) D P).mono ?_;rintro e w5 ⟨v5,rfl,R,T⟩;obtain⟨A6,c6,rfl⟩:=R.form;replace b:=b.below T;replace a:=ae a T;have m:∀z∈gF p.its,bF z:=λz X=>by
    obtain⟨it,J,rfl⟩:=mT.1 X;exact((cV.good s.1) it J).1
   have K:=ab (R.sl m (am _));clear m;have g:=pd p.its;replace g:=ab g;have q:=ab b;clear b;clear H M m0 B y;go_wp2_with(at_builtin;refine agn (F:=gM) (v:=.slice Ao L.length Z) rfl (.tmp 12) (.tmp 14) 40 rfl oI rfl q.out rfl K.out (am _) (by have:=C.out;have:=g.out;omega) a.size ?_;intro v8 w8 N u V;obtain⟨A8,c8,rfl⟩:=N.form;simp only[ap] at N);go_roundw
   case rel=>exact⟨k+1,by omega,by go_num,by rw[HST.out];exact N,a.trans (u.below a.size λi hi hs=>by have:=(q.out.at_ hs).1;omega)⟩
   simp[intOf];omega
  .obtain rfl:k=l.length:=by omega
   rw[gn] at b ⊢;go_wp2;go_ret;exact⟨_,rfl,b,a⟩
def adm(u0 u1 a:Value)(g:∃A n c,u0=.slice A n c)(i:∃A n c,u1=.slice A n c)(f:∃A n c,a=.slice A n c)(w:World) :
  Calls (ah β) 11 #[.agg #[u0,u1,a]] w λe b=>e=.returned (.agg #[u0,u1,a])/\Below w.heap.size w b:=by
 obtain⟨A,n,c,rfl⟩:=g;obtain⟨B,m,d,rfl⟩:=i;obtain⟨C,k,e,rfl⟩:=f;go_enter zy,ntmps11;go_wp2;exact pe (v:=.agg #[.slice A n c,.slice B m d,.slice C k e]) (by simp[results,results11,go_sem]) rfl ⟨rfl,by repeat(first|exact gc _ _|refine Below.setCell ?_ (by first|(simp;done)|(simp;omega)) _|refine Below.alloc ?_ (by first|(simp;done)|(simp;omega)) _)⟩
def ahW(A B C:Option Addr)(n c m d k e:Nat)(w:World):(Instr.field 43 (.agg #[.slice A n c,.slice B m d,.slice C k e]) 0).run (ah β) w=.ok (.slice A n c) w:=by
 simp[Instr.field,lm yi,asAgg,go_sem]
def abn(l:List Pk)(B C:Option Addr)(f b g d:Nat)(v:Value)(w:World)(lo hi:Nat)(h:fP w lo hi l [v])(i:hi<=w.heap.size)(p:nS pkN l<=100000000) :
  Calls (ah β) 5 #[.agg #[v,.slice B f b,.slice C g d]] w λe n=>e=.returned (.int .i64 (nS pkN l))/\Below w.heap.size w n:=by
 obtain⟨A,c,rfl⟩:=h.form;go_enter qF5,ntmps5;go_wp2;generalize j:w.alloc (.cells #[.slice A l.length c,.slice B f b,.slice C g d] 27)=w0 at *;obtain⟨a,u,y,x,t⟩:=iN j;clear j;refine(adm _ _ _ ⟨_,_,_,rfl⟩ ⟨_,_,_,rfl⟩ ⟨_,_,_,rfl⟩ w0).mono ?_;rintro e k ⟨rfl,m⟩;replace a:=ae a m;have s:=ahW (β:=β) A B C l.length c f b g d k;go_wp2;refine(jP l _ _ lo hi (bd i a.size) (fP.aw.below h a i) p).mono ?_;rintro e F ⟨D,rfl,o,q⟩;obtain⟨E,z,rfl⟩:=o.form;have r:(aX l).length=nS pkN l:=by
  have:=iy l l.length;rw[gn,kg] at this;exact this
 rw[r];go_wp2;go_ret;exact⟨rfl,ae a q⟩
end
section
variable {β:Bool}
open Go.RowKit
def aym{R:PkH->Pk->Prop}{c a:List PkH}{l l':List Pk}(h:c.length=l.length)(g:∀(i:Nat) x p,c[i]?=some x->l[i]?=some p->R x p)(f:∀(i:Nat) x p,a[i]?=some x->l'[i]?=some p->R x p):∀(i:Nat) x p,(c++a)[i]?=some x->(l++l')[i]?=some p->R x p:=λi x p d b=>by
 rcases oR i c.length with e|e
 .rw[qy e] at d;rw[qy (by omega)] at b;exact g i x p d b
 .rw[qm e] at d;rw[qm (by omega),<-h] at b;exact f _ x p d b
def au3 {base m : Nat} {c:List PkH} {l:List Pk} (f:c.length=l.length) (g:∀(i:Nat) (x:PkH) (p:Pk),c[i]?=some x->l[i]?=some p->al5 w lo hi x p) (d:Below w.heap.size w w') (e:hi<=w.heap.size)
  (o:aF ahU 32 w' base v (c.take k++c.drop m)) (j:lo<=base):fP w' lo w'.heap.size (l.take k++l.drop m) [v]:=
 apl (lo:=lo) (hi:=hi) o (by simp only[ap,ff,pY,f]) (aym (by rw[ff,ff,f]) (λi x p a b=>by
  rw[qX] at a b;split at a
  .rename_i hi;rw[dk hi] at b;exact(g i x p a b).below d e
  .cases a) λi x p a b=>by
   rw[tc] at a b;exact(g _ x p a b).below d e) j (bd e d.size)
def afI(l:List Int)(g p lo hi:Nat)(w:World)(hr:Rd w lo hi g l p)(hp:p<=9000) :
  Calls (ah β) 9 #[.pointer (some ⟨g,0,none⟩)] w (apm w lo hi g l p):=by
 have cy:=hr.lt;have cd:=hr.hi_;go_enter qF9,ntmps9;go_wp2;generalize hG:w.alloc (.cells #[.slice none 0 0,.slice none 0 0,.slice none 0 0] 27)=w0 at *;obtain⟨aO,mo,k0,eJ,iw⟩:=iN hG;clear hG;have z0:=aO.size;have cv:=k0.lt;refine(ahF l g p lo hi w0 (hr.dQ (bq.aT (S:=λ_=>False) aO) λ_ _ h=>h) (by omega)).mono ?_;rintro e K ⟨va,vb,vc,s,q,rfl,os,H,a6,hq,a9⟩;obtain⟨⟨A,a,rfl⟩,⟨B,b,rfl⟩,C,c,rfl⟩:=os.form;have o:=bH k0 a9 (by omega);have z1:=a9.size;have a4:bq (λb=>b=g) w K:=(bq.aT (S:=λb=>b=g) aO).trans a9 λi _ e=>e;replace H:=ab H;clear hr k0 eJ iw aO a9;have ax:=aA K (.cells #[.slice A s.pk.length a,.slice B s.sn.length b,.slice C s.lg.length c] 27);have km:=(bR.new K 27 #[.slice A s.pk.length a,.slice B s.sn.length b,.slice C s.lg.length c]).cell;by_cases bf:s.pk.length=0
 .have t1:((s.pk.length:Int) ==0)=true:=mw.2 (by omega);replace bf:=ab bf;have G:=bR.new K 27 #[.slice A s.pk.length a,.slice B s.sn.length b,.slice C s.lg.length c];have bw:=av o ax;have PS:=ab ((os.t.p.below ax (am _)).wide (am _) ax.size);have HC:=ab (a4.trans (bq.aT (S:=λ_=>False) ax) λ_ _ h=>h.elim);have X:=ab (a6.dQ (bq.aT (S:=λ_=>False) ax) λ_ _ h=>h);clear o;have o:=bw;clear bw os a4 a6;have eJ:=o.cell;have iw:=o.frozen;have a1:=G.cell;have n:=((o.bM 0 (.slice A s.pk.length a)).bM 1 (.slice B s.sn.length b)).bM 2 (.slice C s.lg.length c);simp only[dj,gt,gE] at n;have Z:=n.cell;have Y:=eW (K.alloc (.cells #[.slice A s.pk.length a,.slice B s.sn.length b,.slice C s.lg.length c] 27)) w.heap.size (.slice A s.pk.length a) (.slice B s.sn.length b) (.slice C s.lg.length c);have D:=ab (And.intro Z Y);clear n Z Y;go_wp2;exact pe (v:=.agg #[.slice A s.pk.length a,.slice B s.sn.length b,.slice C s.lg.length c]) (by simp[results,results9,go_sem,D.out.1]) rfl ⟨_,_,_,s,_,_,rfl,(PS.out.typed (λb h1 h2 _=>D.out.2.block b (by omega) λe=>by have V:b=w.heap.size:=e;omega) (show w.heap.size<=w0.heap.size by omega) D.out.2.size),H.out,.same,X.out.dQ D.out.2 (λb t e=>by have V:b=w.heap.size:=e;rcases t with t|t<;>omega),by omega,HC.out.trans D.out.2 λi hi e=>by have V:i=w.heap.size:=e;omega⟩
 .have t1:((s.pk.length:Int) ==0)=false:=fa.2 (by omega);go_wp2;clear ax km;generalize hG:K.alloc (.cells #[.slice A s.pk.length a,.slice B s.sn.length b,.slice C s.lg.length c] 27)=w2 at *;obtain⟨jl,cn,G,a1,bO⟩:=iN hG;clear hG;replace o:=av o jl;replace c1:=o.cell;replace bW:=o.frozen;have z2:=jl.size;have bn:=a6.dQ (bq.aT (S:=λ_=>False) jl) λ_ _ h=>h;have ba:=a4.trans (bq.aT (S:=λ_=>False) jl) λ_ _ h=>h.elim;have bo:=os.below jl (am _);clear os a4 a6 jl a1 bO c1 bW;refine(dA _ _ _ _ _ _ _ bn (by omega)).mono ?_;rintro e w3 ⟨kk,rfl,⟨_,hm⟩,b9,kK⟩;obtain⟨q1,q2⟩:=hm (by omega);clear hm;obtain⟨k,rfl⟩:=qG q1;have ad:k<s.pk.length:=by omega
  replace o:=bH o kK (by omega);replace G:=bH G kK (by omega);have z3:=kK.size;have bi:=bo.dQ kK λb h1 h2=>⟨by omega,by omega⟩;have bb:=ba.trans kK λi _ e=>e;clear bo ba bn kK q1 q2;go_wp2;refine(dA _ _ _ _ _ _ 24 b9 (by omega)).mono ?_;rintro e r ⟨j,rfl,⟨_, -⟩,b0,a0⟩;replace o:=bH o a0 (by omega);replace G:=bH G a0 (by omega);have z4:=a0.size;have m:=bi.dQ a0 λb h1 h2=>⟨by omega,by omega⟩;have HC:=ab (bb.trans a0 λi _ e=>e);have X:=ab b0;have cp:=G.lt;clear bi bb b9 a0 b0;by_cases j0:j=0
  .subst j0;obtain⟨z,ca,e,aa,an,b5,aM,ay⟩:=cE.some_ m.pk (by omega);simp only[pX] at e;obtain⟨rfl, -,rfl⟩:=e;have b3:=m.t.p;obtain⟨hs,b7,f,br⟩:=asi b3.pk;obtain⟨_,c8,c6⟩:=f.len_;unfold maxLen at c6;have af:=cV.aqU f (k:=k) (by omega);have ao:cV (bY ahU) 2 r w0.heap.size K.heap.size (hs.drop (k+1)) [.slice (if a=k+1 then some ⟨z,0,none⟩ else some ⟨z,(k+1)*2,none⟩) (hs.length-(k+1)) (a-(k+1))]:=by
    have h:=cV.aqT f (k:=k+1) (by omega);rw[show Option.map (λx:Addr=>x.add ((k+1)*2)) (some ⟨z,0,none⟩)=some ⟨z,(k+1)*2,none⟩ from by simp[Addr.add]] at h;exact h
   obtain⟨O,a5⟩:∃L,L=hs.take k:=⟨_,rfl⟩;obtain⟨L2,a7⟩:∃L,L=hs.drop (k+1):=⟨_,rfl⟩;have e1:k=O.length:=by rw[a5,ff];omega
   have e2:hs.length-(k+1)=L2.length:=by rw[a7,pY]
   rw[<-a5] at af;rw[<-a7,e2] at ao;have cr:=H.out.wf.pl;have g1:¬((k:Int)<0):=by omega
   have g2:(k:Int)<=(a:Int):=by omega
   have g3:(k:Int)+1<=(s.pk.length:Int):=by omega
   have g4:¬((k:Int)+1<0):=by omega
   have g6:((k:Int)+1).toNat=k+1:=by omega
   have g5:(s.pk.length:Int)<=(a:Int):=by omega
   have hw:IntKind.i64.wrap ((k:Int)+1)=(k:Int)+1:=by rw[tG];omega
   have bk:=G.cell 0;have b4:=ab br;have aS:=ab af;have a8:=ab ao;have c5:=ab b7;have bS:=ab a5;have c0:=ab a7;have E1:=ab e1;have E2:=ab e2;have ch:O.length<=20/\L2.length<=20:=by omega
   replace m:=ab m;clear br af ao f b7 b3 a5 a7 e1 e2;go_wp2;have aJ:∀x:aV r 11 32 (λ_=>False) [5],_:=fB bk (λh=>h);refine mZ 11 32 (λ_=>False) [5] 12 [1,2,3,4,6,7,8,9,10] [0,5,11] (by kernel_rfl) (by kernel_rfl) (by kernel_rfl) ?_;simp only[pick,List.map,pi,pm];repeat(go_big_quiet_step (fail))
   refine lE ?_;clear aJ;rw[E2.out];revert a8;generalize (if a=k+1 then some (⟨z,0,none⟩:Addr) else some ⟨z,(k+1)*2,none⟩)=AD;intro a8;have e1:=E1.out;clear E1 E2 hw g6;subst e1;apply Exists.intro;apply akP (λv x=>x.done=false->et r.heap.size 32 v x.to)
   .rfl
   .exact λv x y h hl hd=>(h (hl.till hd).1).keep (hl.till hd).2
   .intro x _ _ Qx M;replace M:=ab M;go_wp2;exact M.out _ _ (aA _ _) λ_=>et.new _ _ x.ok.size
   intro u0;apply akP (λv x=>x.done=false->aF ahU 32 x.to r.heap.size v (O))
   .rfl
   .exact λv x y h hl hd=>(h (hl.till hd).1).below (hl.till hd).2
   .intro x hF hp Qx M;replace M:=ab M;have W:=hp (by decide);have hL:=hF.1 (by kernel_rfl) W;exact abF (x.till W) rfl (.tmp 21) (.tmp 25) 23 rfl adY (am _) rfl rfl hL (ml (F:=ahU) aS.out (by omega)) (by omega) λv' x' bT ho=>wpList_nil (M.out _ _ bT λ_=>ho)
   intro u5;apply ahn (λv x=>x.done=true/\aF ahU 32 x.to r.heap.size v (O++L2))
   .rfl
   .rfl
   .intro j hj;obtain rfl:=jn.1 hj;exact mg 9 _ _ (by kernel_rfl)
   .exact λv x y ⟨hd,ho⟩ hl=>⟨(hl.from_ hd).1,ho.below (hl.from_ hd).2⟩
   .intro x hF W Qx M;replace M:=ab M;have hO:=hF.1 (by kernel_rfl) W;have b6:=x.till W;have cm:=b6.size;refine agn (F:=ahU) rfl (.tmp 26) (.tmp 31) 23 rfl adY rfl hO rfl (adV (bY.loc ahU) (a8.out) b6 ((by omega))) (by omega) ((by omega)) x.ok.size ?_;intro v8 w8 o8 bx cc;refine wpList_nil ?_;exact M.out _ _ (bx.mono λb _ t=>.inr (aqV hO t)) ⟨rfl,o8⟩
   intro cu;refine ahp λx hF=> ?_;simp only[js] at hF;obtain⟨⟨W,oz⟩, -⟩:=hF;have E:=x.all λ_ h=>h;simp only[List.drop];clear W;revert E oz;generalize x.to=w5;clear x;intro oz E;obtain⟨A5,J,rfl⟩:=oz.form;have z5:=E.size;have aZ:fP w5 w0.heap.size w5.heap.size (s.pk.take O.length++s.pk.drop (O.length+1)) [.slice A5 (O++L2).length J]:=au3 c5.out b4.out E (by omega) (by rw[<-bS.out,<-c0.out];exact oz) (by omega);have R:mA w5 w0.heap.size w5.heap.size ⟨s.pk.take O.length++s.pk.drop (O.length+1),s.sn,s.lg⟩ (.slice A5 (O++L2).length J) (.slice B s.sn.length b) (.slice C s.lg.length c):=
    ⟨aZ,tSn.wide (tSn.below m.out.t.sn E (by omega)) (am _) (by omega),tHd.wide (tHd.below m.out.t.lg E (by omega)) (am _) (by omega)⟩
   have m5:=av G E;have d:bq (λb=>b=K.heap.size) r (w5.setCell ⟨K.heap.size,0,none⟩ (.slice A5 (O++L2).length J)):=(bq.aT (S:=λb=>b=K.heap.size) E).setCell (p:=⟨K.heap.size,0,none⟩) (.inl rfl) _;have PS:=ab ((R.box m5 0 (.slice A5 (O++L2).length J)).wide (am _) (show w5.heap.size<=(w5.setCell ⟨K.heap.size,0,none⟩ (.slice A5 (O++L2).length J)).heap.size by simp));have T:=bH o d (by omega);have jW:=m5.bM 0 (.slice A5 (O++L2).length J);simp only[dj,gt,gE] at jW;have Q:=ab (HC.out.trans d λi hi e=>by have V:i=K.heap.size:=e;omega);have P:=ab (X.out.dQ d λb t e=>by have V:b=K.heap.size:=e;rcases t with t|t<;>omega);have a2:=ab (show dD s ⟨s.pk.take O.length++s.pk.drop (O.length+1),s.sn,s.lg⟩ from .gone ad);have cz:=m5.cell;have cj:=m5.frozen;have zz:(w5.setCell ⟨K.heap.size,0,none⟩ (.slice A5 (O++L2).length J)).heap.size=w5.heap.size:=by simp
   clear o G HC X R aZ d oz aS a8 b4 m bk;have o:=T;have G:=jW;have HC:=Q;have X:=P;clear T jW Q P;generalize (O++L2).length=n5 at *;have eJ:=o.cell;have iw:=o.frozen;have a1:=G.cell;have n:=((o.bM 0 (.slice A5 n5 J)).bM 1 (.slice B s.sn.length b)).bM 2 (.slice C s.lg.length c);simp only[dj,gt,gE] at n;have Z:=n.cell;have Y:=eW (w5.setCell ⟨K.heap.size,0,none⟩ (.slice A5 n5 J)) w.heap.size (.slice A5 n5 J) (.slice B s.sn.length b) (.slice C s.lg.length c);have D:=ab (And.intro Z Y);clear n Z Y;go_wp2;exact pe (v:=.agg #[.slice A5 n5 J,.slice B s.sn.length b,.slice C s.lg.length c]) (by simp[results,results9,go_sem,D.out.1]) rfl ⟨_,_,_,s,_,_,rfl,(PS.out.typed (λb h1 h2 _=>D.out.2.block b (by omega) λe=>by have V:b=w.heap.size:=e;omega) (show w.heap.size<=w0.heap.size by omega) D.out.2.size),H.out,a2.out,X.out.dQ D.out.2 (λb t e=>by have V:b=w.heap.size:=e;rcases t with t|t<;>omega),by omega,HC.out.trans D.out.2 λi hi e=>by have V:i=w.heap.size:=e;omega⟩
  .have u0:(j ==0)=false:=fa.2 j0;by_cases j1:j=1
   .subst j1;obtain⟨N,gv⟩:=aq ad;have bz:=H.out.one N (da gv);have a3:=(H.out.wf.pn N (da gv)).2.2;obtain⟨z,ca,e,aa,an,b5,aM,ay⟩:=cE.some_ m.pk (by omega);simp only[pX] at e;obtain⟨rfl, -,rfl⟩:=e;obtain⟨m1,m2,es,l1,l2,l3,c3,⟨v2,rfl,aN,f⟩,I,bt⟩:=cE.at_ OPk.aw (by decide) m.pk gv;obtain⟨A2,c2,rfl⟩:=cE.form f;obtain⟨_,lQ,mV⟩:=(adI.l f).len_;unfold maxLen at mV;have a4:r.cell? ⟨z,k*2+1,none⟩=some (.slice A2 N.its.length c2):=I 1 _ rfl;obtain⟨gi,ci,ei,bA,bZ,cl,c7,c4⟩:=cE.some_ f (by omega);simp only[pX] at ei;obtain⟨rfl, -,rfl⟩:=ei;obtain⟨y,fK⟩:=aq (l:=N.its) (k:=0) (by omega);obtain⟨n1,n2,ck, -, -, -, -,⟨rfl,ce⟩,b8, -⟩:=cE.at_ (bY.aw nX) (by decide) f fK;have c9:r.cell? ⟨gi,1,none⟩=some (.string y.b):=b8 1 _ rfl;have ct:r.frozen? ⟨gi,1,none⟩=false:=cE.frozen f 1;have U:adI (r.setCell ⟨gi,1,none⟩ (.string ⟨#[122,122]⟩)) m1 m2 (N.its.set 0 ⟨y.n,⟨#[122,122]⟩⟩) [.slice (some ⟨gi,0,none⟩) N.its.length c2]:=cE.put (j:=1) (u:=.string ⟨#[122,122]⟩) (bY.aw nX) (by decide) f fK (y:=(⟨y.n,⟨#[122,122]⟩⟩:It)) (by decide) rfl (λw' lo hi es hh=>⟨by rw[hh.1];rfl,hh.2.1,by show 2<=maxLen;unfold maxLen;omega⟩);have al:Typed r [49] gi:=⟨_,qQ,c7,c4⟩;have d:bq (λb=>m1<=b/\b<m2/\Typed r [49] b) r (r.setCell ⟨gi,1,none⟩ (.string ⟨#[122,122]⟩)):=(bq.refl _ _).setCell (p:=⟨gi,1,none⟩) (.inl ⟨bA,bZ,al⟩) _;have bp:=bt _ ⟨N.no,N.its.set 0 ⟨y.n,⟨#[122,122]⟩⟩⟩ d ⟨_,rfl,aN,U⟩;have o2:=gj.aw.go (w':=r.setCell ⟨gi,1,none⟩ (.string ⟨#[122,122]⟩)) (λb b1 b2 ht=>d.block b (by omega) λE=>pN ht (by decide) E.2.2) (am _) (am _) m.sn;have o3:=fF.aw.go (w':=r.setCell ⟨gi,1,none⟩ (.string ⟨#[122,122]⟩)) (λb b1 b2 ht=>d.block b (by omega) λE=>pN ht (by decide) E.2.2) (am _) (am _) m.lg;have R:fQ (r.setCell ⟨gi,1,none⟩ (.string ⟨#[122,122]⟩)) w0.heap.size K.heap.size ⟨s.pk.set k ⟨N.no,N.its.set 0 ⟨y.n,⟨#[122,122]⟩⟩⟩,s.sn,s.lg⟩ (.slice (some ⟨z,0,none⟩) s.pk.length a) (.slice B s.sn.length b) (.slice C s.lg.length c):=⟨bp,o2,o3⟩;have PS:=ab (R.t.p.wide (am _) (show K.heap.size<=(r.setCell ⟨gi,1,none⟩ (.string ⟨#[122,122]⟩)).heap.size by have:=d.size;omega));have bP:=G.cell 0;have T:=bH o d λE=>mv o (by decide) E.2.2;have jW:=bH G d λE=>mv G (by decide) E.2.2;have bl:dD s ⟨s.pk.set k ⟨N.no,N.its.set 0 ⟨y.n,⟨#[122,122]⟩⟩⟩,s.sn,s.lg⟩:=.put gv (qM ..) λx E=>by
     rcases sL E with h|rfl
     .exact a3 x h
     .exact Nat.le_of_ble_eq_true rfl
    have a2:=ab bl;have Q:=ab (HC.out.trans d λi hi e=>by have:=e.1;omega);have P:=ab (X.out.dQ d λb t e=>by have:=e.1;rcases t with t|t<;>omega);have bL:(k:Int)<(s.pk.length:Int):=by omega
    have cb:(0:Int)<(N.its.length:Int):=by omega
    have cs:w.heap.size<r.heap.size:=by omega
    clear o G HC X bl R bp o2 o3 U I bt f b8 d fK gv m bz a3;have o:=T;have G:=jW;have HC:=Q;have X:=P;clear T jW Q P;have eJ:=o.cell;have iw:=o.frozen;have a1:=G.cell;have n:=((o.bM 0 (.slice (some ⟨z,0,none⟩) s.pk.length a)).bM 1 (.slice B s.sn.length b)).bM 2 (.slice C s.lg.length c);simp only[dj,gt,gE] at n;have Z:=n.cell;have Y:=eW (r.setCell ⟨gi,1,none⟩ (.string ⟨#[122,122]⟩)) w.heap.size (.slice (some ⟨z,0,none⟩) s.pk.length a) (.slice B s.sn.length b) (.slice C s.lg.length c);have D:=ab (And.intro Z Y);clear n Z Y;go_wp2;exact pe (v:=.agg #[.slice (some ⟨z,0,none⟩) s.pk.length a,.slice B s.sn.length b,.slice C s.lg.length c]) (by simp[results,results9,go_sem,D.out.1]) rfl ⟨_,_,_,s,_,_,rfl,(PS.out.typed (λb h1 h2 _=>D.out.2.block b (by omega) λe=>by have V:b=w.heap.size:=e;omega) (show w.heap.size<=w0.heap.size by omega) D.out.2.size),H.out,a2.out,X.out.dQ D.out.2 (λb t e=>by have V:b=w.heap.size:=e;rcases t with t|t<;>omega),by omega,HC.out.trans D.out.2 λi hi e=>by have V:i=w.heap.size:=e;omega⟩
   .have u1:(j ==1)=false:=fa.2 j1;by_cases j2:j=2
    .subst j2;obtain⟨N,gv⟩:=aq ad;have a3:=(H.out.wf.pn N (da gv)).2.2;obtain⟨z,ca,e,aa,an,b5,aM,ay⟩:=cE.some_ m.pk (by omega);simp only[pX] at e;obtain⟨rfl, -,rfl⟩:=e;obtain⟨m1,m2,es,l1,l2,l3,c3,⟨v2,rfl,aN,f⟩,I, -⟩:=cE.at_ OPk.aw (by decide) m.pk gv;have cq:r.cell? ⟨z,k*2,none⟩=some (.int .i64 N.no):=I 0 _ rfl;have cw:r.frozen? ⟨z,k*2,none⟩=false:=cE.frozen m.pk (k*2);have U:fE (r.setCell ⟨z,k*2,none⟩ (.int .i64 0)) w0.heap.size K.heap.size (s.pk.set k ⟨0,N.its⟩) [.slice (some ⟨z,0,none⟩) s.pk.length a]:=cE.put (j:=0) (u:=.int .i64 0) OPk.aw (by decide) m.pk gv (y:=(⟨0,N.its⟩:Pk)) (by decide) rfl (λw' lo hi es hh=>by
      obtain⟨v,rfl,co,hr⟩:=hh;exact⟨v,rfl,by show bF 0;unfold bF;omega,hr⟩)
     have al:Typed r [32] z:=⟨_,qQ,aM,ay⟩;have d:bq (λb=>w0.heap.size<=b/\b<K.heap.size/\Typed r [32] b) r (r.setCell ⟨z,k*2,none⟩ (.int .i64 0)):=(bq.refl _ _).setCell (p:=⟨z,k*2,none⟩) (.inl ⟨aa,an,al⟩) _;have o2:=gj.aw.go (w':=r.setCell ⟨z,k*2,none⟩ (.int .i64 0)) (λb b1 b2 ht=>d.block b (by omega) λE=>pN ht (by decide) E.2.2) (am _) (am _) m.sn;have o3:=fF.aw.go (w':=r.setCell ⟨z,k*2,none⟩ (.int .i64 0)) (λb b1 b2 ht=>d.block b (by omega) λE=>pN ht (by decide) E.2.2) (am _) (am _) m.lg;have R:fQ (r.setCell ⟨z,k*2,none⟩ (.int .i64 0)) w0.heap.size K.heap.size ⟨s.pk.set k ⟨0,N.its⟩,s.sn,s.lg⟩ (.slice (some ⟨z,0,none⟩) s.pk.length a) (.slice B s.sn.length b) (.slice C s.lg.length c):=⟨U,o2,o3⟩;have PS:=ab (R.t.p.wide (am _) (show K.heap.size<=(r.setCell ⟨z,k*2,none⟩ (.int .i64 0)).heap.size by have:=d.size;omega));have bP:=G.cell 0;have T:=bH o d λE=>mv o (by decide) E.2.2;have jW:=bH G d λE=>mv G (by decide) E.2.2;have a2:=ab (show dD s ⟨s.pk.set k ⟨0,N.its⟩,s.sn,s.lg⟩ from .put gv rfl a3);have Q:=ab (HC.out.trans d λi hi e=>by have:=e.1;omega);have P:=ab (X.out.dQ d λb t e=>by have:=e.1;rcases t with t|t<;>omega);have bL:(k:Int)<(s.pk.length:Int):=by omega
     clear o G HC X R o2 o3 U I f d gv m a3;have o:=T;have G:=jW;have HC:=Q;have X:=P;clear T jW Q P;have eJ:=o.cell;have iw:=o.frozen;have a1:=G.cell;have n:=((o.bM 0 (.slice (some ⟨z,0,none⟩) s.pk.length a)).bM 1 (.slice B s.sn.length b)).bM 2 (.slice C s.lg.length c);simp only[dj,gt,gE] at n;have Z:=n.cell;have Y:=eW (r.setCell ⟨z,k*2,none⟩ (.int .i64 0)) w.heap.size (.slice (some ⟨z,0,none⟩) s.pk.length a) (.slice B s.sn.length b) (.slice C s.lg.length c);have D:=ab (And.intro Z Y);clear n Z Y;go_wp2;exact pe (v:=.agg #[.slice (some ⟨z,0,none⟩) s.pk.length a,.slice B s.sn.length b,.slice C s.lg.length c]) (by simp[results,results9,go_sem,D.out.1]) rfl ⟨_,_,_,s,_,_,rfl,(PS.out.typed (λb h1 h2 _=>D.out.2.block b (by omega) λe=>by have V:b=w.heap.size:=e;omega) (show w.heap.size<=w0.heap.size by omega) D.out.2.size),H.out,a2.out,X.out.dQ D.out.2 (λb t e=>by have V:b=w.heap.size:=e;rcases t with t|t<;>omega),by omega,HC.out.trans D.out.2 λi hi e=>by have V:i=w.heap.size:=e;omega⟩
    .have u2:(j ==2)=false:=fa.2 j2;have PS:=ab (m.t.p.wide (am _) (show K.heap.size<=r.heap.size by omega));clear m;have eJ:=o.cell;have iw:=o.frozen;have a1:=G.cell;have n:=((o.bM 0 (.slice A s.pk.length a)).bM 1 (.slice B s.sn.length b)).bM 2 (.slice C s.lg.length c);simp only[dj,gt,gE] at n;have Z:=n.cell;have Y:=eW r w.heap.size (.slice A s.pk.length a) (.slice B s.sn.length b) (.slice C s.lg.length c);have D:=ab (And.intro Z Y);clear n Z Y;go_wp2;exact pe (v:=.agg #[.slice A s.pk.length a,.slice B s.sn.length b,.slice C s.lg.length c]) (by simp[results,results9,go_sem,D.out.1]) rfl ⟨_,_,_,s,_,_,rfl,(PS.out.typed (λb h1 h2 _=>D.out.2.block b (by omega) λe=>by have V:b=w.heap.size:=e;omega) (show w.heap.size<=w0.heap.size by omega) D.out.2.size),H.out,.same,X.out.dQ D.out.2 (λb t e=>by have V:b=w.heap.size:=e;rcases t with t|t<;>omega),by omega,HC.out.trans D.out.2 λi hi e=>by have V:i=w.heap.size:=e;omega⟩
def au4(w:World)(e:Ending)(w':World):Prop:=
 ∃c b a s x,e=.returned (.agg #[c,b,a])/\mA w' w.heap.size w'.heap.size x c b a/\dH s/\dD s x/\Below w.heap.size w w'
def abm(A:Option Addr)(n c:Nat)(l:List Int)(w:World)(h:cV jk 1 w 0 w.heap.size l [.slice A n c]) :
  Calls (ah β) 4 #[.slice A n c] w (au4 w):=by
 go_enter qF4,ntmps4;go_wp2;generalize M:w.alloc (.cells #[.slice none 0 0,.slice none 0 0,.slice none 0 0] 27)=w0 at *;obtain⟨j,U,f,H,G⟩:=iN M;clear M;refine(aq6 l A n c w0 0 w.heap.size (adV jk.loc h j (am _)) j.size).mono ?_;rintro e N ⟨g,rfl,z,W,d⟩;have T:=z.lt;replace f:=av f d;replace H:=f.cell;replace G:=f.frozen;replace j:=ae j d;go_wp2;refine(afI _ g 0 _ _ N z (by omega)).mono ?_;rintro e S ⟨va,Z,vc,s,x,q,rfl,p,m,o,F,Y,a⟩;obtain⟨u,D,C,t,B,y,rfl,rfl,rfl⟩:=p.form;have E:=bH f a (by omega);have X:=a.size;have z1:=d.size;have P:=f.lt;have I:=ab (j.trans (a.below j.size λi R e=>by have J:i=g:=e;omega));have Q:=E.cell;have O:=E.frozen;have k:=((E.bM 0 (.slice u x.pk.length D)).bM 1 (.slice C x.sn.length t)).bM 2 (.slice B x.lg.length y);simp only[dj,gt,gE] at k;have K:=k.cell;have L:=eW S w.heap.size (.slice u x.pk.length D) (.slice C x.sn.length t) (.slice B x.lg.length y);have r:=ab (And.intro K L);have HS:=ab (And.intro m o);replace p:=ab p;clear k K L m o z F a f H G j d;go_wp2;exact pe (v:=.agg #[.slice u x.pk.length D,.slice C x.sn.length t,.slice B x.lg.length y]) (by simp[results,results4,go_sem,r.out.1]) rfl ⟨_,_,_,s,x,rfl,p.out.typed (λb h1 V _=>r.out.2.block b (by omega) λe=>by have J:b=w.heap.size:=e;omega) (by omega) r.out.2.size,HS.out.1,HS.out.2,I.out.trans (r.out.2.below I.out.size λi R e=>by have J:i=w.heap.size:=e;omega)⟩
end
section
variable {β:Bool}
open Go.RowKit
def ab5(key:Int)(B:1<=key/\key<=99)(p:Pk)(v:Value)(w:World)(lo hi:Nat)(bZ:hi<=w.heap.size)(h:iD w lo hi p.its [v])(b:Bool)(G:b=true↔aiK key p) :
  Calls (ah β) 23 #[.int .i64 key,.agg #[.int .i64 p.no,v]] w λe w'=>e=.returned (.bool b)/\Below w.heap.size w w':=by
 replace G:=ab G;obtain⟨A,c,rfl⟩:=h.form;obtain⟨_,hc,hx⟩:=h.len_;unfold maxLen at hx;go_enter zk,ntmps23;go_wp2;generalize L:w.alloc (.cells #[.int .i64 p.no,.slice A p.its.length c] 32)=w0 at *;obtain⟨I,mo,k0,eJ,iw⟩:=iN L;clear L;have h0:=iD.aw.below h I bZ;have z0:=I.size;go_loopw [12] (λi wr=>∃k:Nat,k<=p.its.length/\i=.int .i64 k/\ahv key (p.its.take k)/\Below w0.heap.size w0 wr) (λi _=>p.its.length-(intOf i).toNat)
 case atStart=>exact⟨0,fb _,rfl,aq3 key,gc _ _⟩
 case round=>
  obtain⟨k,hk,rfl,S,o⟩:=hrel;replace S:=ab S;have z:=av k0 o;clear k0 eJ iw;have zr:=o.size;by_cases X:k<p.its.length
  .obtain⟨x,C⟩:=aq X;have Z:=iD.aw.below h0 o (by omega);obtain⟨P,a1,rfl,_,_,J,cn,cb⟩:=af5 Z C;replace C:=ab C;have HS:=ab J.2;have s:=afe (key:=key) (x:=x);replace s:=ab s;go_wp2;generalize L:wr.alloc (.cells #[.int .i64 x.n,.string x.b] 49)=wa at *;obtain⟨T,a2,V,O,a0⟩:=iN L;clear L;refine(ans key (x.n,x.b) B HS.out wa).mono ?_;rintro e w1 ⟨rfl,P⟩;have H1:=iD.aw.below Z (ae T P) (by omega);have k1:=av z (ae T P);replace V:=av V P;replace O:=V.cell;replace a0:=V.frozen;have d:=ae o (ae T P);have H:=k1.cell 1;have u:=O 0;obtain⟨q,a⟩:∃q,q=(eZ key (x.n,x.b)).2:=⟨_,rfl⟩;rw[<-a] at s ⊢;generalize (eZ key (x.n,x.b)).1=pc;clear a z k1 cn cb T J Z;cases q with
   |false=>
    have n:b=false:=by
     rw[<-lc,G.out];intro U;have:=s.out.1 (U.2.2.2.1 x (da C.out));cases this
    have F:=ab n;clear n;go_wp2;have D:=aj H;have E:=aj u;refine aI (by kernel_rfl) (by kernel_rfl) ?_;repeat(go_big_quiet_step (fail))
    refine lE ?_;intro W m;have a:=aU m;clear m D E;go_wp2;go_ret;exact⟨aC F.out.symm,ae I (ae d a)⟩
   |true=>
    have f:=s.out.2 rfl;have r:=ab f;clear f;rcases pa k with N|N
    .subst N;have K:=aq2 C.out r.out;have HK:=ab K;clear K;go_wp2;have D:=aj H;have E:=aj u;refine aI (by kernel_rfl) (by kernel_rfl) ?_;repeat(go_big_quiet_step (fail))
     refine lE ?_;intro W m;have a:=aU m;clear m D E;go_wp2;go_roundw
     case rel=>first|exact⟨1,by omega,by go_num,HK.out,ae d a⟩|((repeat apply Exists.intro);refine⟨?_,rfl⟩;exact⟨1,by omega,by go_num,HK.out,ae d a⟩)
     simp[intOf];omega
    .obtain⟨j,rfl⟩:∃j,k=j+1:=⟨k-1,by omega⟩;have e1:((j+1:Nat):Int)-1=(j:Int):=by omega
     obtain⟨y,M⟩:=aq (l:=p.its) (k:=j) (by omega);obtain⟨b2,oM,Q,_,_,a4,R,a3⟩:=af5 H1 M;simp only[mt,qv,ql] at Q;obtain⟨rfl,rfl⟩:=Q;replace M:=ab M;by_cases t:y.n<x.n
     .have u1:=bv (show ¬(x.n<=y.n) by omega);have K:=at7 S.out M.out C.out r.out t;have HK:=ab K;clear K t;go_wp2;have D:=aj H;have E:=aj u;have Y:=aj R;refine aI (by kernel_rfl) (by kernel_rfl) ?_;repeat(go_big_quiet_step (fail))
      refine lE ?_;intro W m;have a:=aU m;clear m D E Y;go_wp2;go_roundw
      case rel=>first|exact⟨j+1+1,by omega,by go_num,HK.out,ae d a⟩|((repeat apply Exists.intro);refine⟨?_,rfl⟩;exact⟨j+1+1,by omega,by go_num,HK.out,ae d a⟩)
      simp[intOf];omega
     .have u1:=db (show x.n<=y.n by omega);have n:b=false:=by
       rw[<-lc,G.out];exact λU=>aua M.out C.out t ⟨U.2.2.2.1,U.2.2.2.2⟩
      have F:=ab n;clear n t;go_wp2;have D:=aj H;have E:=aj u;have Y:=aj R;refine aI (by kernel_rfl) (by kernel_rfl) ?_;repeat(go_big_quiet_step (fail))
      refine lE ?_;intro W m;have a:=aU m;clear m D E Y;go_wp2;go_ret;exact⟨aC F.out.symm,ae I (ae d a)⟩
  .obtain rfl:k=p.its.length:=by omega
   have f0:=z.cell 0;have H:=z.cell 1;have f:=S.out;rw[gn] at f;have r:=ab f;clear f S;go_wp2;refine(abT (β:=β) key wr true (by simp;omega)).mono ?_;rintro e w1 ⟨rfl,rfl⟩;have fin:∀q:Bool,(q=true↔(1<=p.no/\p.no<=99)/\1<=(p.its.length:Int)/\(p.its.length:Int)<=4)->b=q:=λq a=>by
    rw[qn,G.out,a];exact⟨λh=>⟨h.1,by have:=h.2.2.1;omega⟩,λh=>⟨h.1,B,by have:=h.2;omega,r.out.1,r.out.2⟩⟩
   replace fin:=ab fin;have g:=ae I o;by_cases t1:1<=p.no
   .by_cases t2:p.no<=99
    .by_cases t3:1<=(p.its.length:Int)
     .by_cases t4:(p.its.length:Int)<=4
      .go_wp2;go_ret;exact⟨aC (fin.out _ (by simp;omega)).symm,g⟩
      .go_wp2;go_ret;exact⟨aC (fin.out _ (by simp;omega)).symm,g⟩
     .go_wp2;go_ret;exact⟨aC (fin.out _ (by simp;omega)).symm,g⟩
    .go_wp2;go_ret;exact⟨aC (fin.out _ (by simp;omega)).symm,g⟩
   .go_wp2;go_ret;exact⟨aC (fin.out _ (by simp;omega)).symm,g⟩
end
section
variable {β:Bool}
open Go.RowKit Go.Shelf
attribute [local go_sem] Oper.semAt_some
def KpB(n₀ Bs:Nat)(A B:World):Prop:=Below n₀ A B/\B.heap[Bs]?=A.heap[Bs]?
def KpB.refl{A:World}:KpB n₀ W A A:=⟨gc _ _,rfl⟩
def KpB.t{A B C:World}(h:KpB n₀ W A B)(k:KpB n₀ W B C):KpB n₀ W A C:=⟨h.1.trans k.1,k.2.trans h.2⟩
end
section
variable {β:Bool}
open Go.RowKit
def ab6(x:Hd):Prop:=(1<=x.b/\x.b<=2)/\1<=x.s/\x.s<=20
def aii(l:List Hd):Prop:=l.length<=9/\∀x∈l,ab6 x
def au5:at5 (β:=β) 28:=axy xm (by kernel_rfl) rfl
end
section
open Go.RowKit
def WfS.okl(h:WfS s):aii s.lg:=⟨h.ll,h.lg⟩
def ahX{z:Int}(a:0<=z)(b:z<3):wrap64 z=z:=by unfold wrap64;omega
def au6{x:Hd}(h:ab6 x):(ade x).b=3-x.b/\(ade x).s=x.s:=by
 have:=h.1;exact⟨ahX (by omega) (by omega),rfl⟩
def al6(x:V)(l:List V)(f:V->V):tW (x::l) 0 f=f x::l:=rfl
def al7(x:V)(l:List V)(n:Nat)(f:V->V):tW (x::l) (n+1) f=x::tW l n f:=by
 unfold tW;simp only[List.getElem?_cons_succ];cases l[n]?<;>rfl
def afJ:Int->List Hd->Int
 |a,[]=>a
 |a,x::l=>afJ (a*64+21*x.b+x.s) l
def al8(l:List Hd):Int:=afJ 0 l
def ajC:∀{l:List Hd} {a b:Int},afJ a l=afJ b l->a=b
 |[],_,_,h=>h
 |x::l,a,b,h=>by
  have h:afJ (a*64+21*x.b+x.s) l=afJ (b*64+21*x.b+x.s) l:=h;have:=ajC h;omega
def ago:∀{l:List Hd} {n:Nat} {a:Int},(∀x∈l,ab6 x)->n<l.length->afJ a (tW l n ade)≠afJ a l
 |[],n,_,_,h=>by simp at h
 |x::l,0,a,hk,_=>λe=>by
  rw[al6] at e;have e:afJ (a*64+21*(ade x).b+(ade x).s) l=afJ (a*64+21*x.b+x.s) l:=e;have:=ajC e;obtain⟨i,g⟩:=au6 (hk x (by simp));have:=hk x (by simp);obtain⟨⟨c,d⟩,f,j⟩:=this;omega
 |x::l,n+1,a,hk,h=>λe=>by
  rw[al7] at e;exact ago (l:=l) (n:=n) (λy b=>hk y (by simp[b])) (by simpa using h) e
def au7(long sum:Int)(l:List Hd):Int×Int×Int:=if(l.length:Int)<long\/long<0 then(long,sum,1) else if al8 (l.take long.toNat)=sum then((l.length:Int),al8 l,0) else(long,sum,2)
end
section
variable {β:Bool}
open Go.RowKit
def anK:∀(l:List Hd) (a:Int),a<=l.foldl (λa h=>max a (h.s+1)) a/\∀x∈l,x.s+1<=l.foldl (λa h=>max a (h.s+1)) a
 |[],a=>⟨ui _,λx b=>(by cases b)⟩
 |y::l,a=>by
  obtain⟨d,c⟩:=anK l (max a (y.s+1));show a<=l.foldl (λa h=>max a (h.s+1)) (max a (y.s+1))/\∀x∈y::l,x.s+1<=l.foldl (λa h=>max a (h.s+1)) (max a (y.s+1));refine⟨by omega,λx b=> ?_⟩;rcases jp.1 b with rfl|b
  .omega
  .exact c x b
def au8 :∀x∈s.lg,x.s<dI s:=λx a=>by
 have b:x.s+1<=fh s.lg:=(anK s.lg 1).2 x a;unfold dI;cases s.sn.getLast? with
 |none=>show x.s<fh s.lg;omega
 |some y=>show x.s<max (fh s.lg) (y.no+1);omega
def dH.asc(h:dH s):s.lg.Pairwise λa b=>a.s<b.s:=by
 induction h with
 |nil=>exact .nil
 |save j i g f c=>
  refine rG.2 ⟨c,rK _ _,λx e y d=> ?_⟩;rw[jn.1 d];exact au8 x e
def found(h:dH s){L:abP}(k:aCi L s.lg.length) :
  (L.k=2->L.n<s.lg.length->au7 s.lg.length (al8 s.lg) (jX s L).lg=((s.lg.length:Int),al8 s.lg,1))/\
  (L.k=4->L.n<s.lg.length->au7 s.lg.length (al8 s.lg) (jX s L).lg=((s.lg.length:Int),al8 s.lg,2))/\
  (¬(L.k=2/\L.n<s.lg.length)->¬(L.k=4/\L.n<s.lg.length)->(jX s L).lg=s.lg):=by
 refine⟨λe b=> ?_,λf b=> ?_,λe f=> ?_⟩
 .by_cases g:0<=L.n
  .rw[aeS e ⟨g,by omega⟩];unfold au7;rw[dk (.inl (by rw[ff];omega))]
  .exfalso;have:=k.n.1;omega
 .have g:=k.n.1;rw[ald f ⟨g,b⟩];unfold au7;rw[be (by rw[agb];omega),be];show ¬al8 ((tW s.lg L.n.toNat ade).take (s.lg.length:Int).toNat)=_;rw[sK,qj (by rw[agb];exact am _)];exact ago h.wf.lg (by omega)
 .by_cases i:L.k=1
  .rw[ahy i]
  by_cases a:L.k=2
  .by_cases b:0<=L.n/\L.n<=s.lg.length
   .rw[aeS a b];have:L.n.toNat=s.lg.length:=by
     by_cases d:L.n<s.lg.length
     .exact absurd ⟨a,d⟩ e
     .omega
    rw[this,gn]
   .rw[ahz a b]
  by_cases j:L.k=3
  .rw[alc j]
  by_cases c:L.k=4
  .by_cases b:0<=L.n/\L.n<s.lg.length
   .exact absurd ⟨c,b.2⟩ f
   .rw[ahA c b]
  rw[ale i a j c]
def agp{c:Type}(q:c->Bool)(a:c->Int)(n:Int)(d:∀x,a x=n->q x=true):∀l:List c,(l.filter q).find? (λx=>a x ==n)=l.find? (λx=>a x ==n)
 |[]=>rfl
 |y::l=>by
  rw[sE];by_cases b:a y=n
  .rw[rP,dk (d y b),sE,show(a y ==n)=true from mw.2 b]
  .rw[show(a y ==n)=false from fa.2 b,<-agp q a n d l];by_cases e:q y=true
   .rw[rP,dk e,sE,show(a y ==n)=false from fa.2 b]
   .rw[rP,be e]
def old(h:dH s){x:Hd}(m:k<=s.lg.length)(hi:i<k)(c:s.lg[i]?=some x):adj 7 (jX s ⟨2,k,0,⟨#[]⟩⟩) x.s=adj 7 s x.s/\(jX s ⟨2,k,0,⟨#[]⟩⟩).lg=s.lg.take k:=by
 rw[aeS rfl ⟨by show(0:Int)<=k;omega,by show(k:Int)<=_;omega⟩];refine⟨?_,rfl⟩;unfold adj;show(match(s.sn.filter λy=>!((s.lg.drop k).any λh=>h.s ==y.no)).find? (λy=>y.no ==x.s) with|some y=>fZ 7 (jB s.pk) y.all|none=>none)=_
 suffices abN:∀y:Sn,y.no=x.s->(!((s.lg.drop k).any λh=>h.s ==y.no))=true by
  rw[agp _ (λy:Sn=>y.no) x.s abN s.sn];all_goals(cases s.sn.find? (λy=>y.no ==x.s)<;>rfl)
 intro y a;have a:y.no=x.s:=a;rw[a,uh,<-lc,List.any_eq_true];rintro⟨z,l,d⟩;have d:=mw.1 d;obtain⟨j,b⟩:=qZ l;rw[tc] at b;have e:=qg.1 h.asc i (k+j) (aG c) (aG b) (by omega);have f:=(mp.1 c).2;have g:=(mp.1 b).2;rw[f,g] at e;omega
end
section
variable {β:Bool}
open Go.RowKit
def lT:∀(a b:List UInt8),(Op.bytesLess a b||a ==b)=!(Op.bytesLess b a)
 |[],[]=>by simp[Op.bytesLess]
 |[],_::_=>by simp[Op.bytesLess]
 |_::_,[]=>by simp[Op.bytesLess]
 |x::a,y::b=>by
  have j:=lT a b;by_cases i:x.toNat<y.toNat
  .have c:decide (x<y)=true:=db (rv.2 i);have g:decide (y<x)=false:=bv λh=>by have:=rv.1 h;omega
   have d:(y ==x)=false:=fa.2 λh=>by rw[h] at i;omega
   simp[Op.bytesLess,c,g,d]
  .by_cases e:y.toNat<x.toNat
   .have c:decide (y<x)=true:=db (rv.2 e);have g:decide (x<y)=false:=bv λh=>by have:=rv.1 h;omega
    have d:(x ==y)=false:=fa.2 λh=>by rw[h] at e;omega
    have f:(x::a ==y::b)=false:=fa.2 λh=>by rw[qb] at h;rw[h.1] at e;omega
    rw[f];simp[Op.bytesLess,c,g,d]
   .obtain rfl:x=y:=sx.1 (by omega);have c:decide (x<x)=false:=bv λh=>by have:=rv.1 h;omega
    have f:(x::a ==x::b)=(a ==b):=by rw[List.cons_beq_cons,sb,un]
    rw[f];simp only[Op.bytesLess,c,uo,sb,un];exact j
def agq(s:ByteArray):bs s=s.toList.map UInt8.toNat:=by rw[qP];rfl
def jC{s:ByteArray}(h:k<s.size):s.toList[k]?=some (s[k]'h):=by
 rw[qP,dl];exact fm h
def kV(s:ByteArray):s.toList.length=s.size:=by rw[qP,qU];rfl
def ags{s:ByteArray}(h:fW s=true):(∃a,s.toList=[a])\/∃a c,s.toList=[a,47,c]:=by
 have e:=kV s;unfold fW at h;split at h
 .rename_i i;left;rw[i] at e;obtain⟨a,g⟩:=tl.1 e;exact⟨a,g⟩
 .split at h
  .rename_i j;right;simp only[fd,qH] at h;have d:=jC (s:=s) (k:=1) (by omega);have f:s[1]'(by omega)=47:=sx.1 (by rw[h.2.1];rfl);rw[f] at d;rw[j] at e
   match hs:s.toList,e,d with
   |[a,b,c],_,d=>
    simp at d;subst d;exact⟨a,c,rfl⟩
  .cases h
def al9{a b:UInt8}{x y:List UInt8}(j:g.toList=a::x)(e:f.toList=b::y):iU g f=(decide (x.length≠y.length)&&(a ==b)):=by
 have lg:=kV g;have i:=kV f;rw[j] at lg;rw[e] at i;simp only[eg] at lg i;have c:=jC (s:=g) (k:=0) (by omega);have d:=jC (s:=f) (k:=0) (by omega);rw[j] at c;rw[e] at d;simp only[sX,mt] at c d;unfold iU;rw[tu ⟨by omega,by omega⟩];by_cases h:g.size=f.size
 .rw[dk h,bv (by omega),ua]
 .rw[be h,db (by omega),un,<-c,<-d,qn,mw,mw,<-sx];omega
def agt(n:fW g=true)(m:fW f=true)(k:Op.bytesLess g.toList f.toList=true):aaf g f=iU g f:=by
 have e:aaf g f=(g.toList++[47]).isPrefixOf f.toList:=by
  unfold aaf;rw[agq,agq];generalize g.toList=x;generalize f.toList=y;have l:([47]:List Nat)=[(47:UInt8)].map UInt8.toNat:=rfl;rw[l,<-qR];generalize x++[47]=x
  induction x generalizing y with
  |nil=>rfl
  |cons a x o=>
   cases y with
   |nil=>rfl
   |cons b y=>
    simp only[qL,List.isPrefixOf_cons₂,o]
    congr 1
    rw[qn,mw,mw,sx]
 rw[e];rcases ags n with⟨a,i⟩|⟨a,c,i⟩<;>rcases ags m with⟨b,j⟩|⟨b,d,j⟩<;>rw[al9 i j,i,j]
 .simp[List.isPrefixOf]
 .simp[List.isPrefixOf]
 .rw[i,j] at k;have:(a ==b)=false:=by
   simp[Op.bytesLess] at k;exact fa.2 λh=>by rw[h,rv] at k;omega
  simp[List.isPrefixOf,this]
 .simp[List.isPrefixOf]
def apo{t:List Nd}:agm t↔aiL t:=by
 unfold agm aiL anf;constructor
 .rintro⟨d,h⟩;refine⟨d,λi x a=>⟨(h i x a).1,(h i x a).2.1,λk y c b=> ?_⟩⟩;rw[<-agt (h k y b).1.1 (h i x a).1.1 (adZ (λi x a=>(h i x a).2.1) (i-k-1) k (by rw[show k+(i-k-1)+1=i by omega];exact a) b)];exact(h i x a).2.2 k y c b
 .rintro⟨d,h⟩;refine⟨d,λi x a=>⟨(h i x a).1,(h i x a).2.1,λk y c b=> ?_⟩⟩;rw[agt (h k y b).1.1 (h i x a).1.1 (adZ (λi x a=>(h i x a).2.1) (i-k-1) k (by rw[show k+(i-k-1)+1=i by omega];exact a) b)];exact(h i x a).2.2 k y c b
end
section
variable {β:Bool}
open Go.RowKit
def au9{l:List Pk}(h:l.Pairwise λa b=>a.no<b.no):∀p∈l,p.no<eC l:=by
 intro p j;unfold eC;obtain⟨z,c,e⟩:=vI (l:=l) (vE j);rw[e];show p.no<z.no+1;obtain⟨i,d⟩:=qZ j;have g:=aG d;rcases oR i (l.length-1) with f|k
 .have:=qg.1 h i (l.length-1) g (by omega) f;rw[(mp.1 d).2,(mp.1 c).2] at this;omega
 .have:i=l.length-1:=by omega
  subst this;rw[c] at d;cases d;omega
def afg(key:Int):∀(n:Nat) (no:Int) (l:List ByteArray),l.length<=n->(eM key no l).Pairwise λa b=>a.no<b.no
 |0,no,l,h=>by rw[ph.1 (by omega:l.length=0),gO];exact .nil
 |n+1,no,l,h=>by
  rcases pa l.length with c|c
  .rw[ph.1 c,gO];exact .nil
  .rw[lB key no c];refine .cons (λp d=> ?_) (afg key n (no+1) (l.drop 4) (by rw[pY];omega));have:=(iZ key n (no+1) (l.drop 4) (by rw[pY];omega) p d).1;show no<p.no;omega
def dH.awE(h:dH s):s.pk.Pairwise λa b=>a.no<b.no:=by
 induction h with
 |nil=>exact .nil
 |save l k j g c=>
  refine rG.2 ⟨c,afg 7 _ _ _ (am _),λp d q e=> ?_⟩;have i:=au9 c p d;have f:=(iZ 7 _ _ _ (am _) q e).1;omega
def ava(h:s.sn.Pairwise λa b=>a.no<b.no):∀x∈s.sn,x.no<dI s:=by
 intro p k;obtain⟨z,c,e⟩:=vI (l:=s.sn) (vE k);have g:z.no<dI s:=by
  unfold dI;rw[e];show z.no<max (fh s.lg) (z.no+1);omega
 obtain⟨i,d⟩:=qZ k;have j:=aG d;rcases oR i (s.sn.length-1) with f|m
 .have:=qg.1 h i (s.sn.length-1) j (by omega) f;rw[(mp.1 d).2,(mp.1 c).2] at this;omega
 .have:i=s.sn.length-1:=by omega
  subst this;rw[c] at d;cases d;exact g
def dH.aAH(h:dH s):s.sn.Pairwise λa b=>a.no<b.no:=by
 induction h with
 |nil=>exact .nil
 |save j i g f c=>
  refine rG.2 ⟨c,rK _ _,λx e y d=> ?_⟩;rw[jn.1 d];exact ava c x e
def agu{d:Type}(c:d->Int):∀{l:List d} {x:d},l.Pairwise (λa b=>c a<c b)->x∈l->l.find? (λy=>c y ==c x)=some x
 |[],_,_,h=>by cases h
 |y::l,x,hp,h=>by
  rw[sE];rcases jp.1 h with rfl|h
  .rw[sb]
  .have e:=(rQ.1 hp).1 x h;rw[show(c y ==c x)=false from fa.2 (by omega)];exact agu c (rQ.1 hp).2 h
def eF(l:List Pk):List Int:=l.flatMap λp=>p.its.map (·.n)
def ahY(l:List Pk):eF l=(bE l).map (·.n):=by
 unfold eF bE ng;rw[vk]
 congr 1
 funext p
 rw[tz];rfl
def afh{n:Int}:∀{a:List Sp} {l:List Sp},(∀x∈a,¬x.p=0)->(∃x∈a,x.n=n)\/¬dM n l=0->¬dM n (cN a l)=0
 |[],l,_,h=>by
  rcases h with⟨x,b,_⟩|h
  .cases b
  .exact h
 |y::a,l,hz,h=>by
  show ¬dM n (cN a (dz y l))=0;refine afh (λx b=>hz x (by simp[b])) ?_;rw[acF];by_cases c:y.n=n
  .rw[dk c];exact .inr (hz y (by simp))
  .rw[be c];rcases h with⟨x,b,d⟩|h
   .rcases jp.1 b with rfl|b
    .exact absurd d c
    .exact .inl ⟨x,b,d⟩
   .exact .inr h
def afi{n:Int}:∀{a:List Sp} {l:List Sp},(∀x∈a,¬x.n=n)->dM n (cN a l)=dM n l
 |[],l,_=>rfl
 |y::a,l,h=>by
  show dM n (cN a (dz y l))=_;rw[afi λx b=>h x (by simp[b]),acF,be (h y (by simp))]
def anL{l:List Pk}(h:∀s∈bE l,spP s) :dM n (np l)=0↔n∉eF l:=by
 unfold np;rw[dk h,ahY];constructor
 .intro d a;obtain⟨x,b,rfl⟩:=mT.1 a;exact afh (l:=[]) (λy c=>by have:=(h y c).2;omega) (.inl ⟨x,b,rfl⟩) d
 .intro a;rw[afi (l:=[]) λx b e=>a (mT.2 ⟨x,b,e⟩)];rfl
def afK{ix:List Sp}{o:List ByteArray}{p:ByteArray}(h:o.Nodup):(dg key ix o p).Nodup:=by
 unfold dg;split
 .rename_i d;exact rq.2 ⟨h,by simp,λa c b f e=>by rw[jn.1 f] at e;rw[e] at c;exact d.2 c⟩
 .exact h
def afj{key:Int}{ix:List Sp}:∀{l o:List ByteArray},o.Nodup->(nj key ix o l).Nodup
 |[],_,h=>h
 |p::l,o,h=>afj (l:=l) (afK h)
def ajD{key:Int}{ix:List Sp}{x:ByteArray}:∀{l o:List ByteArray},x∈o->x∈nj key ix o l
 |[],_,h=>h
 |p::l,o,h=>ajD (l:=l) (by
  unfold dg;split
  .exact rH _ h
  .exact h)
def agv{key:Int}{ix:List Sp}{x:ByteArray}:∀{l o:List ByteArray},(x∈o->dM (bG key (bs x)) ix=0)->x∈nj key ix o l->dM (bG key (bs x)) ix=0
 |[],_,h,hx=>h hx
 |p::l,o,h,hx=>agv (l:=l) (o:=dg key ix o p) (λa=>by
  unfold dg at a;split at a
  .rename_i b;rcases ge.1 a with a|a
   .exact h a
   .rw[jn.1 a];exact b.1
  .exact h a) hx
def ajE{key:Int}{ix:List Sp}:∀{l o:List ByteArray},∀p∈l,¬dM (bG key (bs p)) ix=0\/p∈nj key ix o l
 |[],_,p,h=>by cases h
 |q::l,o,p,h=>by
  show _\/p∈nj key ix (dg key ix o q) l;rcases jp.1 h with rfl|h
  .by_cases b:dM (bG key (bs p)) ix=0
   .refine .inr (ajD ?_);unfold dg;by_cases a:p∈o
    .rw[be λc=>c.2 a];exact a
    .rw[dk ⟨b,a⟩];simp
   .exact .inl b
  .exact ajE p h
def apq(x:It):∀l:List It,(jY x l).Perm (x::l):=by
 intro l
 induction l with
 |nil=>exact .refl _
 |cons y l a=>
  unfold jY;split
  .exact .refl _
  .exact((a.cons y).trans (.swap _ _ _))
def ama(key:Int)(l:List ByteArray):(fG key l).Perm (l.map (iG key)):=by
 induction l using mP with
 |h0=>exact .refl _
 |h1 l s a=>
  rw[nk,qR];exact(apq _ _).trans ((a.cons _).trans (by simpa using(List.perm_append_singleton (iG key s) (l.map (iG key))).symm))
def ab7(key:Int):∀(n:Nat) (no:Int) (l:List ByteArray),l.length<=n->(eF (eM key no l)).Perm (l.map λp=>bG key (bs p))
 |0,no,l,h=>by rw[ph.1 (by omega:l.length=0),gO];exact .refl _
 |n+1,no,l,h=>by
  rcases pa l.length with a|a
  .rw[ph.1 a,gO];exact .refl _
  .rw[lB key no a];have c:=ab7 key n (no+1) (l.drop 4) (by rw[pY];omega);have d:((fG key (l.take 4)).map (·.n)).Perm ((l.take 4).map λp=>bG key (bs p)):=by
    have:=(ama key (l.take 4)).map (·.n);rw[tz] at this;exact this
   have b:=d.append c;rw[<-qR,tw] at b;exact b
def agw{d β:Type}{f:d->β}:∀{l:List d},l.Nodup->(∀x∈l,∀y∈l,f x=f y->x=y)->(l.map f).Nodup
 |[],_,_=>.nil
 |x::l,h,hf=>by
  obtain⟨k,j⟩:=qK.1 h;refine qK.2 ⟨λg=> ?_,agw j λa i b m=>hf a (by simp[i]) b (by simp[m])⟩;obtain⟨y,c,e⟩:=mT.1 g;exact k (hf x (by simp) y (by simp[c]) e.symm▸c)
def dH.bE(h:dH s):∀x∈bE s.pk,spP x:=λx a=>by
 obtain⟨p,b,a⟩:=qa.1 a;obtain⟨y,c,rfl⟩:=mT.1 a;have e:=(h.wf.pn p b).1;obtain⟨q,d,f⟩:=h.items p b y c;have:=jq (key:=7) (l:=q);exact⟨by show 0<=y.n/\y.n<=_;omega,by show 1<=p.no/\p.no<=99;omega⟩
structure Whole (s:dK):Prop where
 once:(eF s.pk).Nodup
 trees:∀x∈s.sn,∃t,jM t/\x=jv x.no 7 t/\∀f∈t,∀p∈gb f.b,bG 7 (bs p)∈eF s.pk
def dH.whole(h:dH s):Whole s:=by
 induction h with
 |nil=>exact⟨.nil,λx d=>(by cases d)⟩
 |@save s b t C G r H u=>
  have m:=C.bE;have k:=kP (key:=7) (ix:=np s.pk) (pQ r);have g:=ab7 7 _ (eC s.pk) (aad 7 (np s.pk) t) (am _);have i:eF (aaV 7 s b t).pk=eF s.pk++eF (acL 7 s t):=by
   show eF (s.pk++acL 7 s t)=_;unfold eF;rw[rM]
  refine⟨?_,λx d=> ?_⟩
  .rw[i];refine rq.2 ⟨u.once, ?_,λa E c F e=> ?_⟩
   .refine g.nodup_iff.2 (agw (afj .nil) λx d y A e=>lO (aa5 (k x d) (k y A) e))
   .subst e;obtain⟨p,j,rfl⟩:=mT.1 (g.mem_iff.1 F);exact(anL m).1 (agv (l:=oT t) (o:=[]) (λh=>by cases h) j) E
  .rcases ge.1 d with d|d
   .obtain⟨w,z,v,B⟩:=u.trees x d;exact⟨w,z,v,λf q p j=>by rw[i];exact rH _ (B f q p j)⟩
   .rw[jn.1 d];refine⟨t,r,rfl,λf q p j=> ?_⟩;rw[i];rcases ajE (key:=7) (ix:=np s.pk) (o:=[]) p (qa.2 ⟨f,q,j⟩:p∈oT t) with n|n
    .refine rH _ (qz λD=>n ((anL m).2 D))
    .exact ry _ (g.mem_iff.2 (mT.2 ⟨p,n,rfl⟩))
end
section
variable {β:Bool}
open Go.RowKit
def apr{b:ByteArray}(h:dn b=true):iK (gb b)=(b,true):=by
 unfold iK;rw[aoP,awf,dk ⟨h,rfl⟩]
def agx{nm:Int}:∀{l:List (Int×ByteArray)},(∃x∈l,x.1=nm)->∃k:Nat,dO nm l=k
 |[],⟨x,a,_⟩=>by cases a
 |y::l,⟨x,a,e⟩=>by
  show ∃k:Nat,(if y.1=nm then 0 else let j:=dO nm l;if j<0 then -1 else j+1:Int)=k;by_cases b:y.1=nm
  .rw[dk b];exact⟨0,rfl⟩
  .rw[be b];rcases jp.1 a with rfl|a
   .exact absurd e b
   .obtain⟨k,c⟩:=agx ⟨x,a,e⟩;refine⟨k+1, ?_⟩;show(if dO nm l<0 then -1 else dO nm l+1:Int)=_;rw[c,be (by omega)];omega
def agy{l:List Pk}(d:∀p∈l,∀x∈p.its,ju 7 x){nm:Int}:(cJ 7 (jB l) nm).2=true↔nm∈eF l:=by
 rw[mz];constructor
 .rintro⟨p,a,g⟩;obtain⟨q,n,rfl⟩:=mT.1 a;obtain⟨k,x, -,b,f, -⟩:=afd g;rw[anJ] at b;obtain⟨y,c,rfl⟩:=io.1 b;exact qa.2 ⟨q,n,mT.2 ⟨y,da c,f⟩⟩
 .intro h;obtain⟨p,a,j⟩:=qa.1 h;obtain⟨x,i,e⟩:=mT.1 j;obtain⟨k,m⟩:=agx (nm:=nm) (l:=(pkd p).2) ⟨(x.n,x.b),mT.2 ⟨x,i,rfl⟩,e⟩;exact⟨pkd p,sU a,aff (d p a) m⟩
def adn{l:List Pk}(f:∀p∈l,∀x∈p.its,ju 7 x){p:ByteArray}(d:bg (bs p))(h:bG 7 (bs p)∈eF l):cJ 7 (jB l) (bG 7 (bs p))=(p,true):=by
 have c:=(agy f).2 h;obtain⟨a,b⟩:=kU c;have e:=lO (aa5 a d b);generalize cJ 7 (jB l) (bG 7 (bs p))=r at c e;obtain⟨i,g⟩:=r;dsimp only at c e;rw[c,e]
def aps{l:List Pk}(d:∀p∈l,∀x∈p.its,ju 7 x){f:Nd}(c:afA f)(h:∀p∈gb f.b,bG 7 (bs p)∈eF l):iL 7 (jB l) (fg 7 f)=some f:=by
 have b:=kN (iW c.2).2;have g:alZ 7 (jB l) (fg 7 f).ns:=λn i=>by
  obtain⟨p,a,rfl⟩:=mT.1 i;rw[adn d (b p a) (h p a)]
 have e:nA 7 (jB l) (fg 7 f).ns=gb f.b:=by
  unfold nA fg;rw[tz]
  conv=>rhs;rw[<-List.map_id (gb f.b)]
  exact uI λp a=>by
   show(cJ 7 (jB l) (bG 7 (bs p))).1=p;rw[adn d (b p a) (h p a)]
 unfold iL;rw[e,apr c.2,dk ⟨g,rfl⟩];rfl
def apt{l:List Pk}(e:∀p∈l,∀x∈p.its,ju 7 x){t:List Nd}(b:jM t)(h:∀f∈t,∀p∈gb f.b,bG 7 (bs p)∈eF l):fZ 7 (jB l) (t.map (fg 7))=some t:=by
 have c:∀f∈t,iL 7 (jB l) (fg 7 f)=some f:=λf a=>aps e (b.1 f a) (h f a);have d:fc 7 (jB l) (t.map (fg 7))=t:=by
  clear h b;unfold fc
  induction t with
  |nil=>rfl
  |cons f t k=>
   rw[qL,uJ,c f (by simp)];show f::_=_;rw[k λg i=>c g (by simp[i])]
 unfold fZ;rw[d,dk ⟨λx j=>by
  obtain⟨f,a,rfl⟩:=mT.1 j;rw[c f a];rfl,apo.2 (aiM.2 b)⟩]
def amc{l:List Pk}(c:∀p∈l,∀x∈p.its,ju 7 x){xs:List Ls}{x:Ls}(d:x∈xs)(e:n∈x.ns)(h:n∉eF l):fZ 7 (jB l) xs=none:=by
 unfold fZ;rw[be];rintro⟨a, -⟩;have a:=a x d;unfold iL at a;split at a
 .rename_i b;exact h ((agy c).1 (b.1 n e))
 .cases a
def awF(s:dK)(no:Int):dK:=jX s ⟨1,no,0,⟨#[]⟩⟩
def ayq(x:Sn):List Int:=x.all.flatMap λy=>y.ns
def afk{l:List Pk}(v:l.Pairwise λa b=>a.no<b.no)(B:(eF l).Nodup){p:Pk}(o:p∈l) :
  n∈eF (l.filter λq=>!(q.no ==p.no))↔n∈eF l/\n∉p.its.map (·.n):=by
 constructor
 .intro h;obtain⟨q,d,k⟩:=qa.1 h;obtain⟨g,c⟩:=sB.1 d;have c:q.no≠p.no:=by simpa using c
  refine⟨qa.2 ⟨q,g,k⟩,λs=>c ?_⟩;clear v c h d
  induction l with
  |nil=>cases g
  |cons y l C=>
   obtain⟨D,A,w⟩:=rq.1 (show(y.its.map (·.n)++eF l).Nodup from B);rcases jp.1 g with rfl|d<;>rcases jp.1 o with rfl|o
   .rfl
   .exact absurd rfl (w n k n (qa.2 ⟨p,o,s⟩))
   .exact absurd rfl (w n s n (qa.2 ⟨q,d,k⟩))
   .exact C A o d
 .rintro⟨h,s⟩;obtain⟨q,d,k⟩:=qa.1 h;refine qa.2 ⟨q,sB.2 ⟨d, ?_⟩,k⟩;rw[uh,fa];intro e;have:q=p:=by
   obtain⟨i,x⟩:=qZ d;obtain⟨j,z⟩:=qZ o;have r:=aG x;have m:=aG z;have u:=(mp.1 x).2;have t:=(mp.1 z).2;rcases tn i j with f|rfl|f
   .have:=qg.1 v i j r m f;rw[u,t] at this;omega
   .rw[<-u,<-t]
   .have:=qg.1 v j i m r f;rw[u,t] at this;omega
  exact s (this▸k)
def other(h:dH s){p:Pk}(k:p∈s.pk){x:Sn}(r:x∈s.sn):(adj 7 (awF s p.no) x.no).isSome=true↔∀n∈ayq x,n∉p.its.map (·.n):=by
 have d:=h.whole;obtain⟨t,w,i,z⟩:=d.trees x r;have e:awF s p.no=⟨s.pk.filter λq=>!(q.no ==p.no),s.sn,s.lg⟩:=ahy rfl;have m:∀q∈s.pk.filter λq=>!(q.no ==p.no),∀y∈q.its,ju 7 y:=λq c=>h.items q (sB.1 c).1;have a:x.all=t.map (fg 7):=by rw[i];rfl
 rw[e];unfold adj;show(match s.sn.find? (λy=>y.no ==x.no) with|some y=>fZ 7 (jB _) y.all|none=>none:Option (List Nd)).isSome=true↔_;rw[agu (λy:Sn=>y.no) h.aAH r];show(fZ 7 (jB (s.pk.filter λq=>!(q.no ==p.no))) x.all).isSome=true↔_;constructor
 .intro o n A j;obtain⟨y,u,g⟩:=qa.1 A;rw[amc m u g λv=>((afk h.awE d.once k).1 v).2 j] at o;cases o
 .intro b;rw[a,apt m w λf l q c=>(afk h.awE d.once k).2 ⟨z f l q c,b _ (qa.2 ⟨fg 7 f,by rw[a];exact sU l,mT.2 ⟨q,c,rfl⟩⟩)⟩];rfl
end
section
variable {β:Bool}
open Go.RowKit
def mB(s:ByteArray)(f:s.size<=maxLen)(w:World) :
  Calls (ah β) 77 #[.string s] w λe d=>e=.returned (.bool (dn s))/\w=d:=by
 by_cases b:s.size<=40
 .have a:(bs s).all oH=dn s:=by unfold dn;rw[db b,un]
  replace a:=ab a;have c:=db (show(s.size:Int)<=40 by omega);go_enter xj,ntmps77;go_wp2;refine(agd s f w).mono ?_;rintro e g ⟨rfl,rfl⟩;rw[a.out];go_wp2;go_ret;exact⟨rfl,rfl⟩
 .have c:=bv (show ¬((s.size:Int)<=40) by omega);have e:dn s=false:=by unfold dn;rw[bv b,ua]
  rw[e];clear e;go_enter xj,ntmps77;go_wp2;go_ret;exact⟨rfl,rfl⟩
def amd(s:ByteArray)(p:Nat)(v:3<=p/\p<s.size)(r:s.size<=maxLen)(w:World) :
  Calls (ah β) 164 #[.string s,.int .i64 p] w λe o=>e=.returned (.bool (oL (bs s) p))/\Below w.heap.size w o:=by
 unfold maxLen at r;obtain⟨a,l⟩:∃a,a=p-1:=⟨_,rfl⟩;obtain⟨b,j⟩:∃b,b=p-2:=⟨_,rfl⟩;obtain⟨c,n⟩:∃c,c=p-3:=⟨_,rfl⟩;have m:a<s.size:=by omega
 have g:b<s.size:=by omega
 have i:c<s.size:=by omega
 have y:(p:Int)-1=((a:Nat):Int):=by omega
 have x:(p:Int)-2=((b:Nat):Int):=by omega
 have z:(p:Int)-3=((c:Nat):Int):=by omega
 have t:(p:Int)<=9223372036854775807:=by omega
 have k:oL (bs s) p=((dig (s[a]'m).toNat+2*dig (s[b]'g).toNat+3*dig (s[c]'i).toNat) % 5 ==0):=by unfold oL;rw[<-l,<-j,<-n,pG m,pG g,pG i]
 rw[k];clear l j n k;go_enter xL,ntmps164;go_wp2;refine cD 21 [0,1,2,3,4,5,6,7,8,9,10,11,12,13,14,15,16,17,18,19,20] [] (h:= ?_);simp only[pick,List.map,pi,pm];repeat(go_big_quiet_step (fail))
 refine lE ?_;apply Exists.intro;refine ep ?_;intro A u q f d;dsimp only[js] at d;try rw[f] at d
 clear f q;simp only[List.drop];clear d;go_wp2;go_ret;exact⟨aC (by rw[qn];simp only[mw];unfold dig;omega),u⟩
def avb(s:ByteArray)(p:Nat)(C:p<s.size)(E:s.size<=1000000)(w:World) :
  Calls (ah β) 154 #[.string s,.int .i64 p] w λe v=>e=.returned (.int .i64 (nY (bs s) p:Nat))/\Below w.heap.size w v:=by
 have o:s.size<=maxLen:=by unfold maxLen;omega
 go_enter xQ,ntmps154;go_wp2;go_loopw [5] (λr wr=>∃k f:Nat,k+f=8/\3<=k/\r=.int .i64 ((p+k:Nat):Int)/\nY (bs s) p=atF (bs s) p f k/\Below w.heap.size w wr) (λr _=>p+8-(intOf r).toNat)
 case atStart=>exact⟨3,5,rfl,by omega,by go_num,rfl,gc _ _⟩
 case round=>
  obtain⟨k,f,z,D,rfl,b,i⟩:=hrel;replace b:=ab b;by_cases B:k<8
  .obtain⟨j,rfl⟩:∃j,f=j+1:=⟨f-1,by omega⟩;have a:atF (bs s) p (j+1) k=if s.size<=p+k then s.size else if oL (bs s) (p+k)=true then p+k else atF (bs s) p j (k+1):=by
    show(if(bs s).length<=p+k then(bs s).length else _)=_;rw[aK]
   have HS:=ab a;clear a;obtain⟨d,g⟩:∃m,m=p+k:=⟨_,rfl⟩;rw[<-g] at HS ⊢;have q:3<=d/\d<p+8:=by omega
   have x:=db (show(d:Int)<(p:Int)+8 by omega);by_cases n:s.size<=d
   .have y:=bv (show ¬(d<s.size) by omega);rw[dk n] at HS;have c:=ab (b.out.trans HS.out);have t:=bv (show ¬((p:Int)+8<=(s.size:Int)) by omega);clear g;go_wp2;go_ret;exact⟨by rw[c.out];simp,i⟩
   .have y:=db (show d<s.size by omega);rw[be n] at HS;replace g:=ab g;go_wp2;refine(amd s d ⟨q.1,by omega⟩ o wr).mono ?_;rintro e A ⟨rfl,u⟩;cases l:oL (bs s) d with
    |true=>
     have c:=ab (b.out.trans (HS.out.trans (dk l)));clear l;go_wp2;go_ret;exact⟨by rw[c.out];rfl,ae i u⟩
    |false=>
     have c:=ab (b.out.trans (HS.out.trans (be (by rw[l];exact qk))));clear l;go_wp2;go_roundw
     case rel=>exact⟨k+1,j,by omega,by omega,by have:=g.out;go_num,c.out,ae i u⟩
     simp[intOf];omega
  .obtain rfl:k=8:=by omega
   obtain rfl:f=0:=by omega
   have a:atF (bs s) p 0 8=min (p+8) s.size:=by
    show min (p+8) (bs s).length=_;rw[aK]
   have c:=ab (b.out.trans a);clear a b;have x:=bv (show ¬(((p+8:Nat):Int)<(p:Int)+8) by omega);by_cases n:p+8<=s.size
   .have t:=db (show(p:Int)+8<=(s.size:Int) by omega);rw[qV n] at c;go_wp2;go_ret;exact⟨by rw[c.out];simp,i⟩
   .have t:=bv (show ¬((p:Int)+8<=(s.size:Int)) by omega);rw[Nat.min_eq_right (by omega)] at c;go_wp2;go_ret;exact⟨by rw[c.out];simp,i⟩
end
section
variable {β:Bool}
open Go.RowKit
def ajF(s:ByteArray)(w:World) :
  Calls (ah β) 172 #[.string s,.int .u8 47] w λe a=>e=.returned (.int .i64 (Lib.indexByte s.data.toList 47))/\w=a:=by
 go_enter xI,ntmps172;go_wp2;rw[run_callFunc_extern xH (by kernel_rfl) (by kernel_rfl) (by kernel_rfl) (e:=Extern.BytealgIndexByte.indexByte) (by kernel_rfl),Lib.run_indexByteString];simp only[Result.andThen];rw[Oper.upon_value];go_wp2;go_ret;exact⟨rfl,rfl⟩
noncomputable def ame:Code:=gP (f165.body.getD .skip)
def aCG:Code->Code
 |.seq a _=>a
 |c=>c
def asj:Code->Code
 |.cond _ _ b=>b
 |c=>c
def ayr:Code->Code
 |.block _ b=>b
 |c=>c
noncomputable def aAI:Code:=cf (cf (cf ame))
noncomputable def aAJ:Code:=asj (cf (asj (cf (ayr (aCG (cf (cf ame)))))))
noncomputable def xIx:Func:={f165 with body:=some ((Code.region 0 #[⟨some 4,Op.assign (Operand.const (Value.int IntKind.i64 0)),3,"strings.go:28",#[],none⟩] false).seq ((Code.region 1 #[⟨some 14,Op.move (Operand.tmp 1),9,"strings.go:29",#[],none⟩,⟨some 15,Op.call ⟨Callee.builtin Builtin.len,#[Operand.tmp 14],#[9]⟩,3,"strings.go:29",#[⟨0,Ground.data⟩],none⟩,⟨some 5,Op.assign (Operand.tmp 15),3,"strings.go:29",#[⟨1,Ground.data⟩,⟨0,Ground.phase⟩,⟨1,Ground.phase⟩],none⟩] false).seq ((Code.block 0 ((Code.region 2 #[⟨some 17,Op.move (Operand.tmp 5),3,"strings.go:31",#[],none⟩,⟨some 18,Op.binOp BinOp.eql 3 (Operand.tmp 17) (Operand.const (Value.int IntKind.i64 0)) 3,4,"strings.go:31",#[⟨0,Ground.data⟩],none⟩,⟨some 19,Op.move (Operand.tmp 18),4,"strings.go:31",#[⟨1,Ground.data⟩],none⟩,⟨some 20,Op.move (Operand.tmp 1),9,"strings.go:31",#[⟨2,Ground.guard⟩],some (2,false)⟩,⟨some 21,Op.move (Operand.tmp 0),9,"strings.go:31",#[⟨2,Ground.guard⟩],some (2,false)⟩,⟨some 22,Op.binOp BinOp.eql 9 (Operand.tmp 20) (Operand.tmp 21) 9,4,"strings.go:31",#[⟨3,Ground.data⟩,⟨4,Ground.data⟩,⟨2,Ground.guard⟩],some (2,false)⟩,⟨some 23,Op.pick (Operand.tmp 19) (Operand.const (Value.bool true)) (Operand.tmp 22),4,"strings.go:31",#[⟨2,Ground.data⟩,⟨5,Ground.data⟩],none⟩,⟨some 16,Op.assign (Operand.tmp 23),4,"strings.go:31",#[⟨6,Ground.data⟩,⟨2,Ground.chain⟩],none⟩] false).seq (Code.cond (Operand.tmp 16) ((Code.region 3 #[⟨some 4,Op.assign (Operand.const (Value.int IntKind.i64 0)),3,"strings.go:32",#[],none⟩] false).seq Code.ret) ((Code.region 4 #[⟨some 25,Op.move (Operand.tmp 5),3,"strings.go:33",#[],none⟩,⟨some 26,Op.binOp BinOp.eql 3 (Operand.tmp 25) (Operand.const (Value.int IntKind.i64 1)) 3,4,"strings.go:33",#[⟨0,Ground.data⟩],none⟩,⟨some 24,Op.assign (Operand.tmp 26),4,"strings.go:33",#[⟨1,Ground.data⟩],none⟩] false).seq (Code.cond (Operand.tmp 24) ((Code.region 5 #[⟨some 27,Op.move (Operand.tmp 0),9,"strings.go:34",#[],none⟩,⟨some 28,Op.move (Operand.tmp 1),9,"strings.go:34",#[],none⟩,⟨some 29,Op.index 9 (Operand.tmp 28) (Operand.const (Value.int IntKind.i64 0)),5,"strings.go:34",#[⟨1,Ground.data⟩],none⟩,⟨some 30,Op.call ⟨Callee.value (Operand.func 172),#[Operand.tmp 27,Operand.tmp 29],#[9,5]⟩,3,"strings.go:34",#[⟨0,Ground.data⟩,⟨2,Ground.data⟩],none⟩,⟨some 4,Op.assign (Operand.tmp 30),3,"strings.go:34",#[⟨3,Ground.data⟩,⟨3,Ground.chain⟩,⟨0,Ground.phase⟩,⟨1,Ground.phase⟩,⟨2,Ground.phase⟩,⟨3,Ground.phase⟩],none⟩] false).seq Code.ret) aAJ))))).seq aAI)))}
def asl:f165.body.map gP=xIx.body:=by
 unfold xIx aAJ aAI ame gP
 kernel_rfl
def amf:(ah β).funcs[165]?=some xIx:=by
 refine(akD β (by decide) (by decide)).trans ?_;have e:Option.map pf (prog.funcs[165]?)=Option.map pf (some f165):=fi _ func165;rw[e,qf];unfold pf;rw[asl];rfl
@[go_sem] theorem aAK(args:Array Value)(w:World):(callFunc 165 args).run (ah β) w=.ok (.enter 165 args) w:=by
 have a:=cF func165;exact kC amf a rfl args w
def avc(s:ByteArray)(w:World) :
  Calls (ah β) 165 #[.string s,.string ⟨#[47]⟩] w λe g=>e=.returned (.int .i64 (Lib.indexByte s.data.toList 47))/\w=g:=by
 have d:xIx.ntmps=143:=ntmps165;have c:xIx.results=#[.tmp 4]:=results165;by_cases a:s.toList=[47]
 .have f:([47] ==s.toList)=true:=by rw[a];rfl
  have b:Lib.indexByte s.data.toList 47=0:=by
   rw[show s.data.toList=s.toList by rw[qP],a];rfl
  replace b:=ab b;clear a;go_enter amf,d;go_wp2;exact pe (v:=.int .i64 0) (by simp[results,c,go_sem]) rfl ⟨by rw[b.out],rfl⟩
 .have f:([47] ==s.toList)=false:=fa.2 λe=>a e.symm;clear a;go_enter amf,d;go_wp2;refine(ajF s w).mono ?_;rintro e i ⟨rfl,rfl⟩;go_wp2;exact pe (v:=.int .i64 (Lib.indexByte s.data.toList 47)) (by simp[results,c,go_sem]) rfl ⟨rfl,rfl⟩
open Classical in
noncomputable def cY(s:ByteArray):ByteArray×ByteArray×Bool:=if Lib.indexByte s.data.toList 47<0 then(s,⟨#[]⟩,false) else(s.extract 0 (Lib.indexByte s.data.toList 47).toNat,s.extract ((Lib.indexByte s.data.toList 47).toNat+1) s.size,true)
def ajG(s:ByteArray):Lib.indexByte s.data.toList 47=-1\/∃k:Nat,Lib.indexByte s.data.toList 47=k/\k<s.size:=by
 rcases Int.lt_or_le (Lib.indexByte s.data.toList 47) 0 with h|h
 .left;have:=Lib.indexByte_ge s.data.toList 47;omega
 .right;obtain⟨k,a⟩:=qG h;refine⟨k,a, ?_⟩;have:=aG (Lib.indexByte_some a).1;rw[qU] at this;exact this
def ays(s:ByteArray)(j:s.size<=maxLen)(w:World) :
  Calls (ah β) 155 #[.string s,.string ⟨#[47]⟩] w λe g=>e=.returned (.tuple #[.string (cY s).1,.string (cY s).2.1,.bool (cY s).2.2])/\Below w.heap.size w g:=by
 unfold maxLen at j;have HC:=ab (avc (β:=β) s w);rcases ajG s with h|⟨k,h,n⟩
 .have a:cY s=(s,⟨#[]⟩,false):=by unfold cY;rw[dk (by omega)]
  have b:=ab a;clear a;rw[h] at HC;clear h;go_enter wU,ntmps155;go_wp2;refine HC.out.mono ?_;rintro e f ⟨rfl,rfl⟩;go_wp2
  go_ret3
  rw[b.out];exact⟨rfl,gc _ _⟩
 .have a:cY s=(s.extract 0 k,s.extract (k+1) s.size,true):=by unfold cY;rw[be (by omega),h];rfl
  have b:=ab a;clear a;rw[h] at HC;have m:=db (show 0<=(k:Int) by omega);clear h;go_enter wU,ntmps155;go_wp2;refine HC.out.mono ?_;rintro e f ⟨rfl,rfl⟩;go_wp2;refine cD 12 [0,1,2,3,4,5,6,7,8,9,10,11] [] (h:= ?_);simp only[pick,List.map,pi,pm];repeat(go_big_quiet_step (fail))
  refine lE ?_;apply Exists.intro;refine ep ?_;intro o l i d c;dsimp only[js] at c;try rw[d] at c
  clear d i;simp only[List.drop];clear c;go_wp2
  go_ret3
  rw[b.out];exact⟨rfl,l⟩
def aAL(s:ByteArray)(c:s.size<=maxLen)(w:World) :
  Calls (ah β) 129 #[.string s,.string ⟨#[47]⟩] w λe a=>e=.returned (.tuple #[.string (cY s).1,.string (cY s).2.1,.bool (cY s).2.2])/\Below w.heap.size w a:=by
 go_enter xY,ntmps129;go_wp2;refine(ays s c w).mono ?_;rintro e d ⟨rfl,b⟩;go_wp2
 go_ret3
 exact⟨rfl,b⟩
def ab8(s:ByteArray):Bool:=if h:s.size=1 then nm (s[0]'(by omega)).toNat else false
def pg(s:ByteArray)(m:s.size<=maxLen)(w:World) :
  Calls (ah β) 130 #[.string s] w λe l=>e=.returned (.bool (ab8 s))/\w=l:=by
 unfold maxLen at m;by_cases d:s.size=1
 .have a:0<s.size:=by omega
  have k:((s.size:Int) ==1)=true:=by rw[d];rfl
  have b:ab8 s=nm (s[0]'a).toNat:=by unfold ab8;rw[tu d]
  rw[b];clear b;by_cases g:97<=(s[0]'a).toNat
  .by_cases i:(s[0]'a).toNat<=101
   .have e:nm (s[0]'a).toNat=true:=by unfold nm;rw[db g,db i];rfl
    have c:=ab e;clear e;have j:=db (show((s[0]'a).toNat:Int)<=101 by omega);have f:=db (show 97<=((s[0]'a).toNat:Int) by omega);go_enter wm,ntmps130;go_wp2;go_ret;exact⟨by rw[c.out];rfl,rfl⟩
   .have e:nm (s[0]'a).toNat=false:=by unfold nm;rw[bv i,Bool.and_false]
    have c:=ab e;clear e;have j:=bv (show ¬(((s[0]'a).toNat:Int)<=101) by omega);have f:=db (show 97<=((s[0]'a).toNat:Int) by omega);go_enter wm,ntmps130;go_wp2;go_ret;exact⟨by rw[c.out];rfl,rfl⟩
  .have e:nm (s[0]'a).toNat=false:=by unfold nm;rw[bv g,ua]
   have c:=ab e;clear e;have f:=bv (show ¬(97<=((s[0]'a).toNat:Int)) by omega);go_enter wm,ntmps130;go_wp2;go_ret;exact⟨by rw[c.out];rfl,rfl⟩
 .have k:((s.size:Int) ==1)=false:=fa.2 (by omega);have b:ab8 s=false:=by unfold ab8;rw[dif_neg d]
  have n:=ab b;clear b;go_enter wm,ntmps130;go_wp2;go_ret;exact⟨by rw[n.out];rfl,rfl⟩
def acQ{s:ByteArray}:ab8 s=match s.toList with|[a]=>nm a.toNat|_=>false:=by
 have c:=kV s;unfold ab8;split
 .rename_i h;rw[h] at c;obtain⟨a,d⟩:=tl.1 c;have:=jC (s:=s) (k:=0) (by omega);rw[d] at this ⊢;simp only[sX,mt] at this;rw[<-this]
 .rename_i h
  match hs:s.toList,c with
  |[],_=>rfl
  |[a],c=>exact absurd c.symm h
  |a::b::l,_=>rfl
def afl{s:ByteArray}:fW s=match s.toList with|[a]=>nm a.toNat|[a,b,c]=>nm a.toNat&&(decide (b=47)&&nm c.toNat)|_=>false:=by
 have e:=kV s;unfold fW;split
 .rename_i h;rw[h] at e;obtain⟨a,m⟩:=tl.1 e;have:=jC (s:=s) (k:=0) (by omega);rw[m] at this ⊢;simp only[sX,mt] at this;rw[<-this]
 .rename_i n;split
  .rename_i j;have i:=jC (s:=s) (k:=0) (by omega);have g:=jC (s:=s) (k:=1) (by omega);have f:=jC (s:=s) (k:=2) (by omega)
   match hs:s.toList,e,i,g,f with
   |[a,b,c],_,i,g,f=>
    simp at i g f;show _=(nm a.toNat&&(decide (b=47)&&nm c.toNat));rw[i,g,f]
    congr 2
    rw[ut,<-sx];exact Iff.rfl
   |[],e,_,_,_=>simp at e;omega
   |[a],e,_,_,_=>simp at e;omega
   |[a,b],e,_,_,_=>simp at e;omega
   |a::b::c::d::l,e,_,_,_=>simp at e;omega
  .rename_i j
   match hs:s.toList,e with
   |[],_=>rfl
   |[a],e=>exact absurd e.symm n
   |[a,b],_=>rfl
   |[a,b,c],e=>exact absurd e.symm j
   |a::b::c::d::l,_=>rfl
def ajH(s:ByteArray)(a b:Nat):(s.extract a b).toList=(s.toList.take b).drop a:=by
 rw[qP,qP,vG,tH,uZ,List.take_drop];by_cases h:a<=b
 .congr 2;omega
 .have:b-a=0:=by omega
  rw[this,rj (by simp;omega),rj (by simp;omega)]
def ajI(s:ByteArray):fW s=(ab8 (cY s).1&&(!(cY s).2.2||ab8 (cY s).2.1)):=by
 have hd:s.data.toList=s.toList:=by rw[qP]
 rcases ajG s with h|⟨k,h,f⟩
 .have i:cY s=(s,⟨#[]⟩,false):=by unfold cY;rw[dk (by omega)]
  rw[i];show _=(ab8 s&&true);rw[uq,acQ,afl];have m:=Lib.indexByte_none h;rw[hd] at m
  match hs:s.toList with
  |[]=>rfl
  |[a]=>rfl
  |[a,b]=>rfl
  |[a,b,c]=>
   have:=m 1;rw[hs] at this;have j:b≠47:=by simpa using this
   show(nm a.toNat&&(decide (b=47)&&nm c.toNat))=false;rw[bv j];simp
  |a::b::c::d::l=>rfl
 .have i:cY s=(s.extract 0 k,s.extract (k+1) s.size,true):=by unfold cY;rw[be (by omega),h];rfl
  rw[i];show _=(ab8 (s.extract 0 k)&&(false||ab8 (s.extract (k+1) s.size)));rw[uo,acQ,acQ,ajH,ajH,afl,rh,<-kV,gn];obtain⟨e,g⟩:=Lib.indexByte_some h;rw[hd] at e g;rw[<-kV] at f
  match hs:s.toList,k,e,g,f with
  |[],_,_,_,f=>simp at f
  |[a],0,e,_,_=>
   simp at e;subst e;rfl
  |[a],k+1,_,_,f=>simp at f
  |[a,b],0,_,_,_=>rfl
  |[a,b],1,_,_,_=>simp
  |[a,b],k+2,_,_,f=>simp at f;omega
  |[a,b,c],0,e,_,_=>
   simp at e;subst e;rfl
  |[a,b,c],1,e,_,_=>
   simp at e;subst e;simp
  |[a,b,c],2,e,g,_=>
   have:=g 1 (by omega);have j:b≠47:=by simpa using this
   simp[j]
  |[a,b,c],k+3,_,_,f=>simp at f;omega
  |a::b::c::d::l,0,_,_,_=>rfl
  |a::b::c::d::l,1,_,_,_=>simp
  |a::b::c::d::l,k+2,_,_,_=>simp
def pj(s:ByteArray)(j:s.size<=maxLen)(w:World) :
  Calls (ah β) 80 #[.string s] w λe l=>e=.returned (.bool (fW s))/\Below w.heap.size w l:=by
 have d:(cY s).1.size<=maxLen/\(cY s).2.1.size<=maxLen:=by
  unfold cY;split
  .exact⟨j,fb _⟩
  .refine⟨?_, ?_⟩
   .show(s.extract _ _).size<=_;rw[<-aK,cL,pY,ff,aK];omega
   .show(s.extract _ _).size<=_;rw[<-aK,cL,pY,ff,aK];omega
 have c:=ab (ajI s);have HC:=ab (aAL (β:=β) s j w);clear j;generalize cY s=r at c HC d;obtain⟨a,b,q⟩:=r;dsimp only at c HC d;have n:=ab d.1;have m:=ab d.2;clear d;go_enter yD,ntmps80;go_wp2;refine HC.out.mono ?_;rintro e k ⟨rfl,g⟩;go_wp2;refine(pg a n.out k).mono ?_;rintro e o ⟨rfl,rfl⟩;cases i:ab8 a
 .rw[i] at c;clear i;go_wp2;go_ret;exact⟨by rw[c.out];simp,g⟩
 .rw[i] at c;clear i;cases q
  .go_wp2;go_ret;exact⟨by rw[c.out];simp,g⟩
  .go_wp2;refine(pg b m.out k).mono ?_;rintro e o ⟨rfl,rfl⟩;cases f:ab8 b<;>rw[f] at c<;>clear f
   .go_wp2;go_ret;exact⟨by rw[c.out];simp,g⟩
   .go_wp2;go_ret;exact⟨by rw[c.out];simp,g⟩
end
section
variable {β:Bool}
open Go.RowKit
def anM{s t:ByteArray}(h:s=t):(s.toList ==t.toList)=true:=by subst h;exact sb _
def amg(xs f:List ByteArray)(K N:Value)(w:World)(lo hi H O:Nat)(z:df w lo hi xs [K])(I:df w H O f [N])(C:hi<=w.heap.size)(D:O<=w.heap.size)(q:Bool)(j:q=true↔xs=f) :
  Calls (ah β) 78 #[K,N] w λe R=>e=.returned (.bool q)/\Below w.heap.size w R:=by
 have v:=ab j;clear j;obtain⟨A,c,rfl⟩:=z.form;obtain⟨B,d,rfl⟩:=I.form;obtain⟨_,hc,Y⟩:=z.len_;unfold maxLen at Y;go_enter yF,ntmps78;by_cases a:xs.length=f.length
 .have W:((xs.length:Int) !=f.length)=false:=by rw[bne_eq_false_iff_eq];omega
  replace a:=ab a;go_wp2;go_loopw [13] (λi wr=>∃k:Nat,k<=xs.length/\i=.int .i64 k/\xs.take k=f.take k/\Below w.heap.size w wr) (λi _=>xs.length-(intOf i).toNat)
  case atStart=>exact⟨0,fb _,rfl,rfl,gc _ _⟩
  case round=>
   obtain⟨k,hk,rfl,g,b⟩:=hrel;have P:=ab g;clear g;by_cases u:k<xs.length
   .obtain⟨x,m⟩:=aq u;obtain⟨y,r⟩:=aq (l:=f) (k:=k) (by have:=a.out;omega);obtain⟨Z,X,rfl,_,_,T,L⟩:=kL (df.aw.below z b C) m;obtain⟨b2,oM,rfl,_,_,U,M⟩:=kL (df.aw.below I b D) r;have V:(k:Int)<(f.length:Int):=by have:=a.out;omega
    replace m:=ab m;replace r:=ab r;by_cases g:x=y
    .have Q:=anM g;have E:xs.take (k+1)=f.take (k+1):=by rw[nF m.out,nF r.out,P.out,g]
     replace E:=ab E;clear g;go_wp2;have G:=aj L;have F:=aj M;refine aI (by kernel_rfl) (by kernel_rfl) ?_;repeat(go_big_quiet_step (fail))
     refine lE ?_;intro S o;have j:=aU o;clear o G F;go_wp2;go_roundw
     case rel=>exact⟨k+1,by omega,by go_num,E.out,ae b j⟩
     simp[intOf];omega
    .have Q:=ag9 (s:=y) (t:=x) g;have p:q=false:=by
      rw[<-lc,v.out];rintro rfl;exact g (dq (m.out.symm.trans r.out))
     have n:=ab p;clear p g;go_wp2;have G:=aj L;have F:=aj M;refine aI (by kernel_rfl) (by kernel_rfl) ?_;repeat(go_big_quiet_step (fail))
     refine lE ?_;intro S o;have j:=aU o;clear o G F;go_wp2;go_ret;exact⟨aC n.out.symm,ae b j⟩
   .obtain rfl:k=xs.length:=by omega
    have J:q=true:=by
     rw[v.out];have:=P.out
     rwa [gn,qj (by have:=a.out;omega)] at this
    have n:=ab J;clear J;go_wp2;go_ret;exact⟨aC n.out.symm,b⟩
 .have W:((xs.length:Int) !=f.length)=true:=by rw[bne_iff_ne];omega
  have p:q=false:=by
   rw[<-lc,v.out];rintro rfl;exact a rfl
  have n:=ab p;clear p;replace a:=ab a;go_wp2;go_ret;exact⟨aC n.out.symm,gc _ _⟩
end
section
variable {β:Bool}
open Go.RowKit
def avd(p s:ByteArray):(bs p).isPrefixOf (bs s)=true↔p.size<=s.size/\s.extract 0 p.size=p:=by
 rw[List.isPrefixOf_iff_prefix,List.prefix_iff_eq_take,aK];constructor
 .intro h;have a:=fi List.length h;rw[ff,aK,aK] at a;exact⟨by omega,lO (by rw[cL,rh];exact h.symm)⟩
 .rintro⟨-,h⟩;have:=fi bs h;rw[cL,rh] at this;exact this.symm
def ahZ(s p:ByteArray)(m:s.size<=100)(l:p.size<=100)(w:World)(q:Bool)(g:q=(bs p).isPrefixOf (bs s)) :
  Calls (ah β) 132 #[.string s,.string p] w λe k=>e=.returned (.bool q)/\w=k:=by
 have c:q=true↔p.size<=s.size/\s.extract 0 p.size=p:=by rw[g,avd]
 replace c:=ab c;clear g;by_cases f:p.size<=s.size
 .have j:decide (p.size<=s.size)=true:=db f;by_cases b:s.extract 0 p.size=p
  .have i:=anM b;have a:q=true:=c.out.2 ⟨f,b⟩;have d:=ab a;clear a b;go_enter wF,ntmps132;go_wp2;go_ret;exact⟨by rw[d.out];rfl,rfl⟩
  .have i:=ag9 (s:=p) (t:=s.extract 0 p.size) b;have a:q=false:=by
    rw[<-lc,c.out];exact λh=>b h.2
   have d:=ab a;clear a b;go_enter wF,ntmps132;go_wp2;go_ret;exact⟨by rw[d.out];rfl,rfl⟩
 .have j:decide (p.size<=s.size)=false:=bv f;have a:q=false:=by
   rw[<-lc,c.out];exact λh=>f h.1
  have d:=ab a;clear a;go_enter wF,ntmps132;go_wp2;go_ret;exact⟨by rw[d.out];rfl,rfl⟩
def ajJ(s p:ByteArray)(d:s.size<=100)(b:p.size<=100)(w:World)(q:Bool)(a:q=(bs p).isPrefixOf (bs s)) :
  Calls (ah β) 83 #[.string s,.string p] w λe c=>e=.returned (.bool q)/\w=c:=by
 replace a:=ab a;go_enter yB,ntmps83;go_wp2;refine(ahZ s p d b w q a.out).mono ?_;rintro e f ⟨rfl,rfl⟩;go_wp2;go_ret;exact⟨rfl,rfl⟩
def aAM:bs ⟨#[47]⟩=[47]:=rfl
def apu(y f:Nd)(n:y.p.size<=3)(l:f.p.size<=3)(g:Nat)(w:World)(i:w.cell? ⟨g,0,none⟩=some (.string f.p)) :
  Calls (ah β) 82 #[.agg #[.string y.p,.string y.b],.pointer (some ⟨g,0,none⟩)] w λe j=>e=.returned (.bool (aaf y.p f.p))/\Below w.heap.size w j:=by
 have d:=aA w (.cells #[.string y.p,.string y.b] 97);have k:(w.alloc (.cells #[.string y.p,.string y.b] 97)).cell? ⟨g,0,none⟩=some (.string f.p):=(qs (d.block g (fT i))).trans i;have a:(y.p++⟨#[47]⟩:ByteArray).size<=100:=by
  rw[<-aK,gW,ap,aK,aAM,nf];omega
 have c:aaf y.p f.p=(bs (y.p++⟨#[47]⟩)).isPrefixOf (bs f.p):=by rw[gW,aAM];unfold aaf;exact Eq.refl _
 replace c:=ab c;replace a:=ab a;go_enter xi,ntmps82;go_wp2;have b:f.p.size<=100:=by omega
 have HC:=ajJ (β:=β) f.p (y.p++⟨#[47]⟩) b a.out (w.alloc (.cells #[.string y.p,.string y.b] 97)) (aaf y.p f.p) c.out;refine HC.mono ?_;rintro e m ⟨rfl,rfl⟩;go_wp2;go_ret;exact⟨rfl,d⟩
def ave:at5 (β:=β) 82:=axy xi (by kernel_rfl) rfl
def ah0(f:Nd)(I:f.p.size<=3)(xs:List Nd)(n:Nat)(O:n<=xs.length)(z:∀y∈xs.take n,y.p.size<=3)(A:Option Addr)(c g:Nat)(w:World)(lo hi:Nat)(h:eY w lo hi xs [.slice A xs.length c])(H:hi<=w.heap.size)(C:w.cell? ⟨g,0,none⟩=some (.string f.p)) :
  Calls (ah β) 131 #[.slice A n c,.func (.func 82) #[] #[.pointer (some ⟨g,0,none⟩)]] w λe B=>∃j:Int,e=.returned (.int .i64 j)/\((0<=j/\∃k y,k<n/\xs[k]?=some y/\aaf y.p f.p=true)\/(j=-1/\∀k y,k<n->xs[k]?=some y->aaf y.p f.p=false))/\Below w.heap.size w B:=by
 obtain⟨_,N,K⟩:=h.1.len_;unfold maxLen at K;have s:=fT C;replace z:=ab z;go_enter xX,ntmps131;go_wp2;go_loopw [8] (λi wr=>∃k:Nat,k<=n/\i=.int .i64 k/\(∀j y,j<k->xs[j]?=some y->aaf y.p f.p=false)/\Below w.heap.size w wr) (λi _=>n-(intOf i).toNat)
 case atStart=>exact⟨0,fb _,rfl,λj y E=>absurd E (rR j),gc _ _⟩
 case round=>
  obtain⟨k,M,rfl,d,q⟩:=hrel;replace d:=ab d;have v:wr.cell? ⟨g,0,none⟩=some (.string f.p):=(qs (q.block g s)).trans C;by_cases p:k<n
  .obtain⟨x,o⟩:=aq (l:=xs) (k:=k) (by omega);obtain⟨b,J,rfl,_,_,F,G,L⟩:=kO (eY.aw.below h q H) o;have r:x.p.size<=3:=z.out x (by
    have:(xs.take n)[k]?=some x:=by rw[qX,dk p];exact o
    exact da this)
   replace o:=ab o;have P:=ave (β:=β) (#[.agg #[.string x.p,.string x.b]]++#[.pointer (some ⟨g,0,none⟩)]) wr;go_wp2;refine(apu x f r I g wr v).mono ?_;rintro e B ⟨rfl,m⟩;replace m:=ae q m;cases a:aaf x.p f.p
   .have u:∀j y,j<k+1->xs[j]?=some y->aaf y.p f.p=false:=λj y E t=>by
     rcases oR j k with D|D
     .exact d.out j y D t
     .obtain rfl:j=k:=by omega
      rw[o.out] at t;cases t;exact a
    replace u:=ab u;clear a;go_wp2;go_roundw
    case rel=>exact⟨k+1,by omega,by go_num,u.out,m⟩
    simp[intOf];omega
   .replace a:=ab a;go_wp2;go_ret;exact⟨k,rfl,.inl ⟨by omega,k,x,p,o.out,a.out⟩,m⟩
  .obtain rfl:k=n:=by omega
   go_wp2;go_ret;exact⟨-1,rfl,.inr ⟨rfl,d.out⟩,q⟩
def nP(f:Nd)(l:f.p.size<=3)(xs:List Nd)(n:Nat)(p:n<=xs.length)(b:∀y∈xs.take n,y.p.size<=3)(A:Option Addr)(c g:Nat)(w:World)(lo hi:Nat)(h:eY w lo hi xs [.slice A xs.length c])(r:hi<=w.heap.size)(o:w.cell? ⟨g,0,none⟩=some (.string f.p)) :
  Calls (ah β) 81 #[.slice A n c,.func (.func 82) #[] #[.pointer (some ⟨g,0,none⟩)]] w λe m=>∃q:Bool,e=.returned (.bool q)/\((q=true/\∃k y,k<n/\xs[k]?=some y/\aaf y.p f.p=true)\/(q=false/\∀k y,k<n->xs[k]?=some y->aaf y.p f.p=false))/\Below w.heap.size w m:=by
 replace b:=ab b;go_enter yC,ntmps81;go_wp2;refine(ah0 f l xs n p b.out A c g w lo hi h r o).mono ?_;rintro e t ⟨j,rfl,s,i⟩;rcases s with⟨d,a⟩|⟨rfl,a⟩
 .have u:decide (0<=j)=true:=db d;replace a:=ab a;clear d;go_wp2;go_ret;exact⟨true,rfl,.inl ⟨rfl,a.out⟩,i⟩
 .replace a:=ab a;go_wp2;go_ret;exact⟨false,rfl,.inr ⟨rfl,a.out⟩,i⟩
end
section
variable {β:Bool}
open Go.RowKit
def eG(l:List ByteArray):List UInt8:=l.flatMap λs=>s.data.toList
def agz(l:List ByteArray):(eG l).map UInt8.toNat=gY l:=by
 unfold eG gY;rw[vk];rfl
def afm(l:List ByteArray):∀b∈gY l,b<256:=λb a=>by
 obtain⟨s,_,a⟩:=qa.1 a;exact aqH b a
def apv(l:List ByteArray):(⟨(eG l).toArray⟩:ByteArray)=rE (gY l):=lO (by
 rw[am3 (afm l),<-agz];rfl)
def aa6{l:List ByteArray}{x:ByteArray}(h:l[k]?=some x):eG (l.take (k+1))=eG (l.take k)++x.data.toList:=by
 rw[nF h];unfold eG;rw[rM];simp
def acR:∀{l:List ByteArray},(∀s∈l,s.size<=8)->(eG l).length<=8*l.length
 |[],_=>fb _
 |x::l,h=>by
  have b:=acR (l:=l) λs a=>h s (by simp[a]);have d:=h x (by simp);show(x.data.toList++eG l).length<=_;have c:x.data.toList.length=x.size:=by rw[qU];rfl
  rw[ap,eg];omega
def fJ{s:ByteArray}(h:bg (bs s)):1<=s.size/\s.size<=8:=by have:=h.1;rw[aK] at this;exact this
def asm(x:ByteArray):x.data.toList.length=x.size:=by rw[qU];rfl
def awG(x:ByteArray)(l:List UInt8):Lib.byteCells l++Lib.strCells x=Lib.byteCells (l++x.data.toList):=by
 simp[Lib.byteCells,Lib.strCells]
def ayt(l:List ByteArray)(z:∀s∈l,bg (bs s))(hl:l.length<=2147483647)(v:Value)(w:World)(lo hi:Nat)(h:df w lo hi l [v])(V:hi<=w.heap.size) :
  Calls (ah β) 76 #[v,.string ⟨#[]⟩] w λe w'=>e=.returned (.string (rE (gY l)))/\Below w.heap.size w w':=by
 obtain⟨A,c,rfl⟩:=h.form;obtain⟨_,hc,M⟩:=h.len_;unfold maxLen at M;replace z:=ab z;rcases oR l.length 2 with I|nT
 .rcases pa l.length with O|O
  .obtain rfl:=ph.1 O;go_enter wR,ntmps76;go_wp2;exact pe (v:=.string ⟨#[]⟩) (by simp[results,results76,go_sem]) rfl ⟨rfl,gc _ _⟩
  .obtain⟨x,rfl⟩:=tl.1 (show l.length=1 by omega);obtain⟨b,p,rfl,_,_,G,H⟩:=kL h (k:=0) rfl;rw[sS] at H;have Q:rE (gY [x])=x:=by show rE (bs x++[])=x;rw[tf,awf]
   replace Q:=ab Q;go_enter wR,ntmps76;go_wp2;exact pe (v:=.string x) (by simp[results,results76,go_sem]) rfl ⟨by rw[Q.out],gc _ _⟩
 .have t0:((l.length:Int) ==0)=false:=fa.2 (by omega);have t1:((l.length:Int) ==1)=false:=fa.2 (by omega);go_enter wR,ntmps76;go_wp2
  go_loop [5,41] (λnn E=>∃k:Nat,k<=l.length/\E=.int .i64 k/\nn=.int .i64 (eG (l.take k)).length/\(eG (l.take k)).length<=8*k) (λ_ E=>l.length-(intOf E).toNat)
  case atStart=>exact⟨0,fb _,rfl,rfl,fb _⟩
  case round=>
   obtain⟨k,hk,rfl,rfl,D⟩:=hrel;by_cases I:k<l.length
   .obtain⟨x,L⟩:=aq I;obtain⟨b,p,rfl,_,_,G,H⟩:=kL h L;have R:=(fJ (z.out x (da L))).2;have d:(eG (l.take (k+1))).length=(eG (l.take k)).length+x.size:=by rw[aa6 L,ap,asm]
    have HST:=ab d;clear d L;obtain⟨n,F⟩:∃n,n=(eG (l.take k)).length:=⟨_,rfl⟩;rw[<-F] at D HST ⊢;clear F;have t3:=bv (show ¬(9223372036854775807-(n:Int)<(x.size:Int)) by omega);go_wp2
    go_round
    case rel=>exact⟨k+1,by omega,by go_num,by rw[HST.out];go_num,by rw[HST.out];omega⟩
    simp[intOf];omega
   .obtain rfl:k=l.length:=by omega
    rw[gn] at D ⊢;obtain⟨n,F⟩:∃n,n=(eG l).length:=⟨_,rfl⟩;rw[<-F] at D ⊢;have HN:=ab F;clear F;go_wp2;generalize u:w.alloc (.cells #[.pointer none,.slice none 0 0] 179)=w0;have Y:w0.heap[w.heap.size]?=some (.cells #[.pointer none,.slice none 0 0] 179 (0,0)):=by
     rw[<-u];show(w.heap.push _)[w.heap.size]?=_;rw[qO]
    have B:Below w.heap.size w w0:=by rw[<-u];exact(gc _ w).alloc (am _) _
    refine(anr w.heap.size w.heap.size n w0 (am _) Y B.size (by omega)).mono ?_;rintro e w2 ⟨rfl,f,g⟩;replace g:=B.trans g;clear B Y u;obtain⟨x,a⟩:=aq (l:=l) (k:=0) (by omega);obtain⟨b,p,rfl,_,_,G,H⟩:=kL (df.aw.below h g V) a;rw[sS] at H;have R:=(fJ (z.out x (da a))).2;have d:x.data.toList=eG (l.take 1):=by rw[aa6 (k:=0) a];simp[eG]
    have J:1<=x.size:=(fJ (z.out x (da a))).1;have T:=ab J;have t:x=l.headD ⟨#[]⟩:=by
     cases l with
     |nil=>simp at a
     |cons y m=>simp at a;rw[a];rfl
    replace t:=ab t;have HST:=ab d;clear d a J;go_wp2;refine(oV w.heap.size w.heap.size [] x w2 (.inr (.of f)) (by show 0+x.size<=_;omega) g.size).mono ?_;rintro e w3 ⟨rfl,r,q⟩;replace q:=g.trans q;have e3:([]:List Value)++Lib.strCells x=Lib.byteCells (eG (l.take 1)):=by
     have:=awG x [];rw[qW,HST.out] at this;exact this
    rw[e3] at r;clear g f e3 H HST;go_wp2;have S:l.length-1+1=l.length:=by omega
    go_loopw [65] (λE wr=>∃k:Nat,k+1<=l.length/\E=.int .i64 k/\Lib.IsBuilderF 179 5 w.heap.size w.heap.size (Lib.byteCells (eG (l.take (k+1)))) wr/\Below w.heap.size w wr) (λE _=>l.length-(intOf E).toNat)
    case atStart=>exact⟨0,by omega,rfl,.inr r,q⟩
    case round=>
     clear r q;obtain⟨k,hk,rfl,f,j⟩:=hrel;have W:(Lib.byteCells (eG (l.take (k+1)))).length<=8*l.length:=by
      rw[rI];refine bd (acR λs hs=>(fJ (z.out s (oS hs))).2) ?_;rw[ff];omega
     by_cases a3:k<l.length-1
     .obtain⟨y,N⟩:=aq (l:=l) (k:=k+1) (by omega);obtain⟨b1,a1,U,_,_,a2,d0⟩:=kL (df.aw.below h j V) N;simp only[mt,qv,ql] at U;obtain⟨rfl,rfl⟩:=U;rw[show p+(k+1)=p+1+k by omega] at d0;have a0:=(fJ (z.out y (da N))).2;have d:=aa6 N;have HST:=ab d;clear d N;go_wp2;refine(oV w.heap.size w.heap.size _ ⟨#[]⟩ wr f (by show _+0<=_;omega) j.size).mono ?_;rintro e w4 ⟨rfl,C,o⟩;replace o:=j.trans o;have X:Lib.byteCells (eG (l.take (k+1)))++Lib.strCells ⟨#[]⟩=Lib.byteCells (eG (l.take (k+1))):=tf _;rw[X] at C;clear f j X;go_wp2;refine(oV w.heap.size w.heap.size _ y w4 (.inr C) (by omega) o.size).mono ?_;rintro e w5 ⟨rfl,K,i⟩;replace i:=o.trans i;rw[awG,<-HST.out] at K;clear C o;go_wp2;go_roundw
      case rel=>exact⟨k+1,by omega,by go_num,.inr K,i⟩
      simp[intOf];omega
     .obtain rfl:k=l.length-1:=by omega
      rw[S,gn] at f;have P:eG l≠[]:=by
       intro O;have M:x.data.toList <+: eG l:=by
        obtain⟨y,m,rfl⟩:∃y m,l=y::m:=by
         cases l with
         |nil=>simp at nT
         |cons y m=>exact⟨y,m,rfl⟩
        have e:=t.out;show x.data.toList <+: _;have e:x=y:=e;rw[e];exact⟨eG m,by simp[eG]⟩
       rw[O] at M;have:=List.prefix_nil.1 M;have Z:=asm x;rw[this] at Z;have:=T.out;simp at Z;omega
      have HJ:=ab (apv l);go_wp2;refine(acM w.heap.size w.heap.size (eG l) wr f P).mono ?_;rintro e w5 ⟨rfl, -,i⟩;go_wp2;exact pe (v:=.string ⟨(eG l).toArray⟩) (by simp[results,results76,go_sem]) rfl ⟨by rw[HJ.out],j.trans i⟩
end
section
variable {β:Bool}
open Go.RowKit
def acS:Op->Bool
 |.move .. | .assign .. | .load .. | .slice .. | .buildSlice .. | .store .. =>true
 |.call c=>match c.callee with
  |.builtin .append=>true
  |_=>false
 |_=>false
def asn{P:Program}(h:acS o.op=true){ρ:Operand->Value}{i:Next}(d:(execOp ρ o).run P w=.ok i w'):(∃v,i=.value v)\/i=.skip:=by
 obtain⟨dst,op,j,k,after,g⟩:=o;cases op<;>simp only[acS,kw] at h
 case call c=>
  obtain⟨a,args,e⟩:=c;cases a with
  |value x=>cases h
  |invoke x n=>cases h
  |builtin b=>
   cases b<;>first
    |(exfalso;cases h;done)
    |(revert d
      simp only[execOp,resolve,invoke,builtin,tv,tS,ue];generalize (Sem.run P (Builtin.append_ _ _ _) w:Result _)=r;cases r with
      |ok v f=>simp only[Result.andThen];intro d;cases d;exact .inl ⟨_,rfl⟩
      |halt x f=>simp[Result.andThen])
 all_goals
  revert d;simp only[execOp,tv,tS]
 all_goals
  first
   |(intro d;cases d;exact .inl ⟨_,rfl⟩)
   |(generalize (Sem.run P _ w:Result _)=r
     cases r with
     |ok v f=>simp only[Result.andThen];intro d;cases d;first|exact .inl ⟨_,rfl⟩|exact .inr rfl
     |halt x f=>simp[Result.andThen])
section
variable {F:Fence} {m:Nat} {P:Program} {Q:Exit->Act->World->Prop} {md:Region.Mode} {ops:Array Oper}
def avf{r:Result Next}(e:∀b c,r=.ok b c->(∃v,b=.value v)\/b=.skip)(d:∀a w,U a w->S a w)(h:o.upon P a U Q r):o.uponIn F m P a S Q r:=by
 cases r with
 |ok b c=>
  rcases e b c rfl with⟨v,rfl⟩|rfl
  .exact d _ _ h
  .exact d _ _ h
 |halt x c=>cases x<;>first|exact h|exact h.elim
def avg(k:∀f,F.fn f)(p:∀o∈ops,acS o.op=true)(n:¬LetsOut Q)(j:∀a w,U a w->S a w)(h:wpOp P ops Q i U a w):wpOpIn F m P ops Q i S a w:=by
 unfold wpOp at h;unfold wpOpIn;cases e:ops[i]? with
 |none=>rw[e] at h;exact j _ _ h
 |some o=>
  rw[e] at h;have b:=p o (qw e);dsimp only at h ⊢;split
  .rename_i d;rw[dk d] at h;rcases h with h|h
   .refine⟨λf _=>k f, ?_⟩;rw[Oper.semAt_plain F _ _ (by intro c g;rw[g] at b;cases b)];exact avf (λr q l=>asn b l) j h
   .exact absurd h.2 n
  .rename_i d;rw[be d] at h;exact⟨λf _=>k f,j _ _ h⟩
def ajK(e:∀f,F.fn f)(d:∀o∈ops,acS o.op=true)(c:¬LetsOut Q):∀(k:Nat) (b:Array Bool) (a:Act) (w:World),wpAny P md ops Q k b a w->wpAnyIn F m P md ops Q k b a w
 |0,_,_,_,h=>h
 |k+1,b,a,w,h=>⟨h.1,λi g=>avg e d c (λa w h=>ajK e d c k _ a w h) (h.2 i g)⟩
end
section
variable {F:Fence} {m:Nat} {P:Program} {Q:Exit->Act->World->Prop} {X:Type} [Nonempty X] [aY X]
def ajL (A:∀f,F.fn f) {l:List Oper} (e:(l.all λo=>acS o.op)=true) (s:¬LetsOut Q)  (to:X->World) (le:X->X->Prop) (k:∀x,le x x) (n:Nat) (j c:List Nat) (v:P.follows .mixedOrders=true) (z:ahj l n j c=true) (p:adE l.toArray n a.tmps.size=true)
  (b:X) (d:∀m,m<=n->aY.live m b) (g:∀i,i<n->aY.pend i b) (t:to b=w.drew)
  (h:wpQuiet P l.toArray (λr=>∃x,r=to x) (λy=>∃u,bN P l.toArray to le (wpList P l.toArray Q (l.drop n)) (pick l c) [] u y) ((pick l j).map (·.2)) a):(Code.region W l.toArray true).wpIn F m P Q a w:=
 wpIn_region_any v (ajK A (λo q=>jt.1 e o (by simpa using q)) s _ _ _ _ (aiB to le k n j c z p b d g t h))
def afL (r:∀f,F.fn f) {l:List Oper} (c:(l.all λo=>acS o.op)=true) (i:¬LetsOut Q)  (n:Nat) (d b:List Nat) (k:P.follows .mixedOrders=true) (q:ahj l n d b=true) (e:adE l.toArray n a.tmps.size=true)
  (h:wpQuiet P l.toArray (λg=>∃x:fV w,g=x.to) (λp=>∃j:List (ig (fV w)),bN P l.toArray (fV.to (w:=w)) (fV.le (w:=w)) (wpList P l.toArray Q (l.drop n)) (pick l b) [] j p) ((pick l d).map (·.2)) a):(Code.region W l.toArray true).wpIn F m P Q a w:=
 ajL r c i (fV.to (w:=w)) (fV.le (w:=w)) fV.le_refl n d b k q e ⟨w.drew,⟨rfl,rfl,rfl,am _,λ_ _=>rfl⟩⟩ (λ_ _=>trivial) (λ_ _=>trivial) rfl h
end
end
section
variable {β:Bool}
open Go.RowKit Go.Shelf
attribute [local go_sem] Oper.semAt_some
def Prs(l:List Nat):Nat->List (Nat×Nat)->Nat->Prop
 |a,[],b=>a=b
 |a,x::xs,b=>a<l.length/\x=(a,nY l a)/\Prs l (nY l a) xs b
def Prs.snoc{l:List Nat}:∀{a:Nat} {c:List (Nat×Nat)} {b:Nat},Prs l a c b->b<l.length->Prs l a (c++[(b,nY l b)]) (nY l b)
 |a,[],b,h,h1=>by
  have h:a=b:=h;subst h;exact⟨h1,rfl,rfl⟩
 |a,x::c,b,⟨h2,h3,h4⟩,h1=>⟨h2,h3,h4.snoc h1⟩
def Prs.len{l:List Nat}:∀{a:Nat} {c:List (Nat×Nat)} {b:Nat},Prs l a c b->a+c.length<=b
 |a,[],b,h=>by
  have h:a=b:=h;simp;omega
 |a,x::c,b,⟨h1,_,h⟩=>by
  have:=h.len;have:=(dS h1).1;simp only[eg];omega
def Prs.ends{l:List Nat}:∀{a:Nat} {c:List (Nat×Nat)} {b:Nat},Prs l a c b->cZ l a (c.map λx=>(x.2:Int)) b
 |a,[],b,h=>h
 |a,x::c,b,⟨h1,e,h⟩=>⟨h1,by rw[e],h.ends⟩
def dE(s:ByteArray)(xs:List (Nat×Nat)):List ByteArray:=xs.map λx=>s.extract x.1 x.2
def Prs.pieces{s:ByteArray}{l:List Nat}:∀{a:Nat} {c:List (Nat×Nat)} {b:Nat},Prs l a c b->dE s c=bV s a (c.map λx=>(x.2:Int))
 |a,[],b,h=>rfl
 |a,x::c,b,⟨h1,e,h⟩=>by
  show s.extract x.1 x.2::dE s c=s.extract a (x.2:Int).toNat::bV s (x.2:Int).toNat _;rw[e,sK,h.pieces]
def Prs.cut{s:ByteArray}{xs:List (Nat×Nat)}(h:Prs (bs s) 0 xs s.size):dE s xs=gb s:=by
 rw[h.pieces,ane h.ends]
def wt(h:Below w.heap.size w w'):w.grownBy w' none:=⟨h.os,h.tape,h.output,h.size,λk a _=>h.block k a⟩
def apw {W : World} {t e:TypeId} {v' : Value} {m : Nat} {xs : List Value}
  (z:Boxed W B t v) (n:t≠e) (c:W.ownsRow hi e i v k xs) (x:n₀<=W.heap.size) (y:n₀<=hi) (D:n₀<=B)
  (b:w.ownsRow hi e i v' m cs) (a:W.grownBy w v.ownBlock) :
  Boxed w B t v/\Boxed (w.setCell ⟨B,0,none⟩ v') B t v'/\(w.setCell ⟨B,0,none⟩ v').ownsRow hi e i v' m cs/\KeepsOthers W (w.setCell ⟨B,0,none⟩ v')/\Below n₀ W (w.setCell ⟨B,0,none⟩ v')/\(∀k,k<hi->k<W.heap.size->k≠B->(w.setCell ⟨B,0,none⟩ v').heap[k]?=W.heap[k]?):=by
 have f:Boxed w B t v:=z.kept a (z.not_row n c);have l:∀j,v.ownBlock=some j->hi<=j:=λj d=>by
  rcases c.2 with⟨rfl,_⟩|⟨g,cap,s,rfl,C,_,_⟩
  .simp[Value.ownBlock] at d
  .obtain rfl:g=j:=by simpa[Value.ownBlock] using d
   exact C
 refine⟨f,f.set v',b.kept (grownBy_setCell' w B v') (.inr (f.not_row n b).symm), ?_, ?_, ?_⟩
 .refine(vF a λj o d A=> ?_).trans (KeepsOthers.setCell _ _ _);rcases c.2 with⟨rfl,_⟩|⟨g,cap,s,rfl,_,u,_⟩
  .simp[Value.ownBlock] at d
  .obtain rfl:g=j:=by simpa[Value.ownBlock] using d
   rw[u] at A;cases A;rfl
 .exact((gc n₀ W).grown a x λj d=>bd y (l j d)).setCell (p:=⟨B,0,none⟩) D v'
 .intro k E r q;exact(qp _ _ _ k q).trans (a.block k r λd=>by have:=l k d.symm;omega)
def apx(h:bq (λb=>v.ownBlock=some b) w w'):w.grownBy w' v.ownBlock:=⟨h.os,h.tape,h.output,h.size,λk c a=>h.block k c λe=>a e.symm⟩
structure PrC (n:Nat) where
 p:Nat×Nat
 le:p.1<=p.2/\p.2<=n
abbrev ayv{n:Nat}(x:PrC n):Array Value:=#[.int .i64 x.p.1,.int .i64 x.p.2]
abbrev lU{n:Nat}(xs:List (PrC n)):List (Nat×Nat):=xs.map PrC.p
def asp (n:Nat) (hn:2<=n) (l o n₀:Nat) (s:ByteArray) (U:s.size<=1000000) (J L:List (PrC s.size)->World->Prop) (W:World) (T:AbidesFrom W.heap.size J)
  (Q:∀b x W,J b W->b.length<s.size->YieldAt Fence.wide (n-1) (ah β) l (ayv x) W λe W'=>
   (e=.returned (.bool true)/\J (b++[x]) W'/\KpB n₀ o W W')\/(e=.returned (.bool false)/\L (b++[x]) W'))
  (t:Boxed W o 9 (.string s)) (X:n₀<=W.heap.size) (O:J [] W) :
  CallsIn Fence.wide n (ah β) 153 #[.func (.yield l) #[] #[],.pointer (some ⟨o,0,none⟩)] W λe W'=>(∃v,e=.returned v)/\
   ((∃N,Prs (bs s) 0 (lU N) s.size/\J N W')\/(∃b,(∃m,Prs (bs s) 0 (lU b) m)/\L b W')):=by
 refine callsIn_of_wp wV rfl trivial ?_ rfl;simp only[ntmps153,uf,eg,lw,Nat.reduceAdd,Nat.reduceSub,uF,uE,uW,uK,qW,qS];have Z:=t.lt;have S:Fence.wide.fn 154:=trivial;have Y:1<=n:=by omega
 gi_wp2
 gi_loopw [3] (λi wr=>∃(k:Nat) (f:List (PrC s.size)),k<=s.size/\i=.int .i64 k/\Prs (bs s) 0 (lU f) k/\J f wr/\KpB n₀ o W wr/\W.heap.size<=wr.heap.size) (λi _=>s.size-(intOf i).toNat)
 case atStart=>exact⟨0,[],fb _,rfl,rfl,O,KpB.refl,am _⟩
 case round=>
  obtain⟨k,f,hk,rfl,B,j,I,R⟩:=hrel;have q:Boxed wr o 9 (.string s):=I.2.trans t;have D:=q.cell;by_cases g:k<s.size
  .gi_wp2_with (gi_at_call 154;refine(callsIn_wide.2 (avb s k g U wr)).mono ?_;rintro e y ⟨rfl,z⟩)
   have p:J f y:=T f wr y none j (wt z) (λr e=>by cases e);have C:KpB n₀ o W y:=I.t ⟨z.mono (by omega),z.block o (by omega)⟩;have P:=z.size;have w:=B.snoc (by rw[aK];exact g);have E:=dS (l:=bs s) (a:=k) (by rw[aK];exact g);rw[aK] at E;obtain⟨fn,M,A,K,H,V⟩:=Q f ⟨(k,nY (bs s) k),by show k<=nY (bs s) k/\nY (bs s) k<=s.size;omega⟩ y p (by have:=B.len;rw[pu] at this;omega);dsimp only[ayv] at H;rw[H];have d:Prs (bs s) 0 (lU (f++[⟨(k,nY (bs s) k),by show k<=nY (bs s) k/\nY (bs s) k<=s.size;omega⟩])) (nY (bs s) k):=by
    show Prs (bs s) 0 (List.map PrC.p (f++_)) _;rw[qR];exact w
   replace d:=ab d;clear w p j B H I q D;gi_wp2;refine V.mono ?_;rintro e W3 (⟨rfl,F,u⟩|⟨rfl,G⟩)
   .gi_wp2;go_roundw
    case rel=>exact⟨nY (bs s) k,_,by omega,rfl,d.out,F,C.t u,by have:=u.1.size;omega⟩
    simp[intOf];omega
   .gi_wp2;refine pe (results_none rfl _ _ _) rfl ?_;exact⟨⟨_,rfl⟩,.inr ⟨_,⟨_,d.out⟩,G⟩⟩
  .obtain rfl:k=s.size:=by omega
   gi_wp2
   go_end0
   exact⟨⟨_,rfl⟩,.inl ⟨_,B,j⟩⟩
def amh(n:Nat)(k:2<=n)(a n₀:Nat)(s:ByteArray)(i:s.size<=1000000)(w:World)(b:a<w.heap.size)(d:n₀<=w.heap.size)(p:Boxed w a 9 (.string s)) :
  SeqStopsK Fence.wide n (ah β) 153 #[.pointer (some ⟨a,0,none⟩)] ayv (KpB n₀ a) (λo:List (PrC s.size)=>Prs (bs s) 0 (lU o) s.size) (λc=>∃m,Prs (bs s) 0 (lU c) m) s.size w:=λl J j W e f _ q g=>
 asp n k l a n₀ s i J j W f q ((e.block a b).trans p) (bd d e.size) g
def avh(n:Nat)(s:ByteArray)(w:World) :
  CallsIn Fence.wide n (ah β) 128 #[.string s] w λe a=>e=.returned (.func (.func 153) #[] #[.pointer (some ⟨w.heap.size,0,none⟩)])/\a=w.alloc (.cells #[.string s] 9):=by
 refine callsIn_of_wp xZ rfl trivial ?_ rfl;simp only[ntmps128,uf,eg,lw,Nat.reduceAdd,Nat.reduceSub,uF,uE,uW,uK,qW,qS];gi_wp2;go_ret;exact⟨rfl,rfl⟩
def apy(n:Nat)(hn:6<=n)(s:ByteArray)(C:dn s=true)(w:World) :
  CallsIn Fence.wide n (ah β) 79 #[.string s] w λe W'=>∃v,e=.returned v/\aF iF 9 W' w.heap.size v (gb s)/\Below w.heap.size w W':=by
 have h1:1<=n:=by omega
 have aa:Fence.wide.fn 77:=trivial;have aM:Fence.wide.fn 128:=trivial;have ad:s.size<=40:=by unfold dn at C;rw[fd] at C;exact sI C.1
 have G:s.size<=maxLen:=by unfold maxLen;omega
 have HS:=ab C;clear C;replace G:=ab G;refine callsIn_of_wp_marks yE rfl trivial ?_ rfl;simp only[ntmps79,uf,eg,lw,Nat.reduceAdd,Nat.reduceSub,uF,uE,uW,uK,qW,qS]
 gi_wp2_with (first|(gi_at_call 77;refine(callsIn_wide.2 (mB s G.out _)).mono ?_;rintro e w' ⟨rfl,rfl⟩;rw[HS.out])|(gi_at_call 128;refine(avh (n-1) s _).mono ?_;rintro e w' ⟨rfl,rfl⟩))
 have bS:=((Boxed.new w 9 (.string s)).alloc (.cells #[.slice none 0 0] 92)).alloc (.cells #[.string s] 9);have bO:=(Boxed.new (w.alloc (.cells #[.string s] 9)) 92 (.slice none 0 0)).alloc (.cells #[.string s] 9);have U:=Boxed.new ((w.alloc (.cells #[.string s] 9)).alloc (.cells #[.slice none 0 0] 92)) 9 (.string s);simp only[me] at bO U;have N:Below w.heap.size w (((w.alloc (.cells #[.string s] 9)).alloc (.cells #[.slice none 0 0] 92)).alloc (.cells #[.string s] 9)):=(((gc _ w).alloc (am _) _).alloc (by simp) _).alloc (by simp;omega) _;have hz:(((w.alloc (.cells #[.string s] 9)).alloc (.cells #[.slice none 0 0] 92)).alloc (.cells #[.string s] 9)).heap.size=w.heap.size+3:=by simp
 obtain⟨W0,L⟩:∃W0,((w.alloc (.cells #[.string s] 9)).alloc (.cells #[.slice none 0 0] 92)).alloc (.cells #[.string s] 9)=W0:=⟨_,rfl⟩;try simp only[me]
 rw[L] at bS bO U N hz ⊢;clear L;refine wpIn_rangeFunc_ownH rfl h1 (gf:=153) (lb:=#[.pointer (some ⟨w.heap.size+1+1,0,none⟩)]) rfl trivial (enters_of wV (by kernel_rfl) rfl)
  (amh (n-1) (by omega) (w.heap.size+1+1) w.heap.size s (by omega) W0 (by omega) (by omega) U) KpB.t
  (λW l o o' hl h hc hw=>⟨belowK_b (w:=w) (am _) W l o o' (by omega) h hc hw,World.putObj_heap_other (by omega)⟩) (gc _ _) (λ_=>rfl)
  (λb W=>(((∃v,Boxed W (w.heap.size+1) 92 v/\W.ownsRow W0.heap.size 9 1 v b.length (dt iF (dE s (lU b)))/\True)/\Boxed W w.heap.size 9 (.string s))/\Boxed W (w.heap.size+1+1) 9 (.string s))/\Below w.heap.size w W)
  (λ_ _ _=>False)
  (OwnFrom.and (OwnFrom.and (OwnFrom.and (Own.from (holdsRow_own W0.heap.size (w.heap.size+1) 92 9 1 (λb:List (PrC s.size)=>b.length) (λb=>dt iF (dE s (lU b))) (λ_ _=>True)) _) (Own.from (boxed_own _ _ _) _)) (Own.from (boxed_own _ _ _) _)) (ownFrom_below (am _) (by omega)))
  (λ_ _ _ _ _ C _ _=>C)
  ⟨⟨⟨⟨_,bO,uV _ _ _ _,trivial⟩,bS⟩,U⟩,N⟩
  (λx a' W=>a'={tmps:=#[.string s,.pointer (some ⟨w.heap.size,0,none⟩),.slice none 0 0,.pointer (some ⟨w.heap.size+1,0,none⟩),.int .i64 x.p.1,.int .i64 x.p.2,.string s,.bool true,.bool false,.string s,.func (.func 153) #[] #[.pointer (some ⟨w.heap.size+1+1,0,none⟩)],.int .i64 x.p.1,.int .i64 x.p.2,undef,undef,undef,undef,undef,undef,undef,undef],defers:=[]})
  (λx a' _ X Y af C hg hr=>C)
  ?assign ?body ?done ?stop
 case assign=>
  rintro l b x W K ⟨⟨⟨⟨v,f,d, -⟩,t⟩,u⟩,i⟩ O;gi_wp2;exact O _ _ ((KeepsOthers.refl _).from _) KpB.refl ⟨⟨⟨⟨v,f,d,trivial⟩,t⟩,u⟩,i⟩ rfl
 case body=>
  rintro l b x a' W hl ⟨r,hr⟩ ⟨⟨⟨⟨v,f,d, -⟩,t⟩,u⟩,i⟩ rfl al;obtain⟨⟨B,z⟩,m,q⟩:=x;dsimp only at m q ⊢;have a1:dE s (lU (b++[⟨(B,z),m,q⟩]))=dE s (lU b)++[s.extract B z]:=by simp[dE,lU]
  have cO:W.cell? ⟨w.heap.size+1,0,none⟩=some v:=f.cell;have cS:W.cell? ⟨w.heap.size,0,none⟩=some (.string s):=t.cell;have H:=ad0 (β:=β);have a0:=i.size;gi_wp2;have aJ:=aj cO;have aN:=aj cS;refine afL (λ_=>trivial) (by kernel_rfl) (by rintro⟨a,w,h⟩;exact h) 6 [0,1,2,3,4] [5] H (by kernel_rfl) (by kernel_rfl) ?_;simp only[pick,List.map,pi,pm];repeat(go_big_quiet_step (fail))
  refine lE ?_;clear aJ aN;apply Exists.intro;apply dm (akN W.heap.size 9 #[.string (s.extract B z)])
  .rfl
  .exact λv x y h a8=>h.keep a8
  .intro x _ Qx hQ;go_wp2;exact hQ _ _ (aA _ _) (akN.new _ _ _ x.ok.size)
  intro v5;refine ep ?_;intro w2 p xx nJ hF;dsimp only[js] at hF;try rw[nJ] at hF
  clear nJ xx;obtain⟨⟨g,rfl,hg,a2⟩, -⟩:=hF;simp only[List.drop];have ao:=p.size;have ax:l<W.heap.size:=(de.1 hr).1;have J:=aex d p;have a5:Boxed w2 (w.heap.size+1) 92 v:=(p.block _ f.lt).trans f;obtain⟨A,c,rfl⟩:=jr d;refine acB (F:=iF) (base:=W0.heap.size) (v:=.slice A b.length c) (xs:=dE s (lU b)) rfl (.tmp 13) (.tmp 18) 92 rfl abJ (s.extract B z) rfl (by unfold aF;rw[show(dE s (lU b)).length=b.length from by simp[dE,lU]];exact J) rfl a2 rfl (by rw[show(dE s (lU b)).length=b.length from by simp[dE,lU]];omega) (by omega) ?_;intro v3 w3 S kK a9;have ay:(dE s (lU b)++[s.extract B z]).length=(b++[(⟨(B,z),m,q⟩:PrC s.size)]).length:=by simp[dE,lU]
  unfold aF at S;rw[<-a1,show(dE s (lU (b++[⟨(B,z),m,q⟩]))).length=(b++[(⟨(B,z),m,q⟩:PrC s.size)]).length from by simp[dE,lU]] at S;obtain⟨R,Q,P,nG,a6,a4⟩:=apw (W:=w2) (n₀:=w.heap.size) a5 (by decide) J (by omega) (by omega) (by omega) S (apx kK);have aO:=R.cell;have an:=R.frozen;obtain⟨A3,c3,rfl⟩:=jr S;go_wp2;have a7:KeepsOthers W w2:=vF (wt p) λj o ej _=>by cases ej
  have T:∀k,k<W0.heap.size->k≠w.heap.size+1->(w3.setCell ⟨w.heap.size+1,0,none⟩ (.slice A3 (b++[(⟨(B,z),m,q⟩:PrC s.size)]).length c3)).heap[k]?=W.heap[k]?:=λk hk V=>(a4 k hk (by omega) V).trans (p.block k (by omega));have I:=(p.mono a0).trans a6;simp only[ap,eg,lw,mc] at Q P nG T I;refine⟨(a7.trans nG).from _,⟨I,T _ (by omega) (by omega)⟩,⟨⟨⟨_,Q, ?_,trivial⟩,(T _ (by omega) (by omega)).trans t⟩,(T _ (by omega) (by omega)).trans u⟩,i.trans I⟩;simp only[ap,eg,lw,mc];exact P
 case done=>
  rintro D zs W hD a3 ⟨⟨⟨⟨v,f,d, -⟩,t⟩,u⟩,i⟩ O;have cO:=f.cell;obtain⟨A,c,rfl⟩:=jr d;gi_wp2;refine⟨by simp,.inl ⟨_,_,rfl,run_takeDeferred O, ?_⟩⟩;have Z:=belowK_b (w:=w) (am _) W D _ (.deferred none) (by omega) O rfl rfl;have E:=a3.cut;have M:(gb s).length=zs.length:=by rw[<-E];simp[dE,lU]
  refine⟨_,results_tmp rfl _ _ _,_,rfl, ?_,i.trans Z⟩;have:=ownsRow_putObj d (.deferred none) O rfl;unfold aF;rw[M,<-E];exact aiD this (by omega)
 case stop=>
  rintro D c b W _ _ h _;exact h.elim
def asq(s:ByteArray)(a:dn s=true)(w:World) :
  Calls (ah β) 79 #[.string s] w λe W'=>∃v,e=.returned v/\aF iF 9 W' w.heap.size v (gb s)/\Below w.heap.size w W':=
 callsIn_wide.1 (apy 6 (am _) s a w)
end
section
variable {β:Bool}
open Go.RowKit
def apz{l:List ByteArray}(a:dn (rE (gY l))=true)(b:gb (rE (gY l))=l):iK l=(rE (gY l),true):=by unfold iK;rw[dk ⟨a,b⟩]
def asr{l:List ByteArray}(h:¬(dn (rE (gY l))=true/\gb (rE (gY l))=l)):iK l=(⟨#[]⟩,false):=by unfold iK;rw[be h]
def avi(l:List ByteArray)(b:∀s∈l,bg (bs s)):(rE (gY l)).size<=8*l.length:=by
 rw[<-aK,am3 (afm l),<-agz,pu];exact acR λs a=>(fJ (b s a)).2
def apA(l:List ByteArray)(o:∀s∈l,bg (bs s))(I:l.length<=2147483647)(v:Value)(w:World)(lo hi:Nat)(h:df w lo hi l [v])(y:hi<=w.heap.size) :
  Calls (ah β) 42 #[v] w λe C=>e=.returned (.tuple #[.string (iK l).1,.bool (iK l).2])/\Below w.heap.size w C:=by
 have n:=avi l o;have f:(rE (gY l)).size<=maxLen:=by unfold maxLen;omega
 have p:=ab (λG D=>apz (l:=l) G D);have i:=ab (asr (l:=l));have u:=ab (ayt (β:=β) l o I v w lo hi h y);clear o;generalize rE (gY l)=s at p i u n f;generalize iK l=r at p i ⊢;go_enter yW,ntmps42;go_wp2;refine u.out.mono ?_;rintro e A ⟨rfl,g⟩;go_wp2;refine(mB (β:=β) s f _).mono ?_;rintro e N ⟨rfl,rfl⟩;by_cases a:dn s=true
 .rw[a];go_wp2;refine(asq (β:=β) s a _).mono ?_;rintro e M ⟨E,rfl,H,k⟩;have m:∀x∈gb s,x.size<=maxLen:=λx j=>by have:=(fJ (kN (iW a).2 x j)).2;unfold maxLen;omega
  have B:=aiH.sl (aF.deep H m A.heap.size) (am _);have F:=k.size;have z:=g.size;have K:=df.aw.below h (g.trans (k.mono z)) y;obtain⟨q,d⟩:∃q:Bool,q=true↔gb s=l:=by
   by_cases j:gb s=l
   .exact⟨true,by simp[j]⟩
   .exact⟨false,by simp[j]⟩
  replace d:=ab d;go_wp2;refine(amg (β:=β) (gb s) l E v _ _ _ lo hi B K (am _) (by omega) q d.out).mono ?_;rintro e L ⟨rfl,J⟩;have c:=g.trans ((k.mono z).trans (J.mono (by omega)));cases q with
  |true=>
   have b:=p.out a (d.out.1 rfl);go_wp2;go_ret2;exact⟨by rw[b];rfl,c⟩
  |false=>
   have b:=i.out λt=>by have:=d.out.2 t.2;cases this
   go_wp2;go_ret2;exact⟨by rw[b];rfl,c⟩
 .have b:=i.out λt=>a t.1;rw[Bool.eq_false_iff.2 a];go_wp2;go_ret2;exact⟨by rw[b];rfl,g⟩
end
end Go.Proofs.YtmicddpknimniaaGreatDoor