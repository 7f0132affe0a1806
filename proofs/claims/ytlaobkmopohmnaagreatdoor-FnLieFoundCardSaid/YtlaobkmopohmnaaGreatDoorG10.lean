/- A part of the proof. -/
import Derived.Test.YtlaobkmopohmnaaGreatDoorG9
import Derived.DuoClaim
import Derived.Conc.LeavingOf
import Derived.SizedLaws
set_option maxRecDepth 100000
set_option maxHeartbeats 8000000
set_option linter.all false
open Go Go.Conc Go.ConcN Go.RowKit Go.Proofs.Tryz Go.Proofs.YtlaobkmopohmnaaGreatDoor
variable {aY:av} {Z b c i j n:Nat} {a:Addr} {U W w:World} {t:Trace} {v:Value} {P:Program} {l:List Int} {rest:List Nat} {g:Goroutine} {V:Array Oper} {X:Array Value} {T A:Option Addr} {Y:Int→List iP→Int→ByteArray × Bool}
namespace Go.Proofs.YtlaobkmopohmnaaGreatDoor
def vT:=@_root_.List.toArray_replicate
def wA:=@_root_.Bool.or_eq_false_iff
section
open Go.Conc Go.ConcN Go.RowKit
section
variable {P:Program} {main:Bool} {Rl:av->World->World->Prop} {St:av->Goroutine->World->Prop} {S Rr:av} {w0:World} {f:FuncId} {T:Array Value} {k:List Item} {xs base:List Frame}
def awZ (H:pd Rl Rr)   {o:Oper} {d:Tmp} {Q:Value->Obj->World->Prop} (l:d<T.size) (m:V[i]?=some o) (s:o.guard=none) (g:o.dst=some d)
  (p:∀w,∃v ob,Q v ob w/\(execOp (FQ f T (.inRegion V (i::rest)::k)).eval o).runT P w #[]=(.ok (.value v) (w.alloc ob),#[]))
  (u:∀w,Rl S w0 w->∀v ob,Q v ob w->∀T':Array Value,T'.size=T.size->T'.getD d undef=v->(∀t,t≠d->T'.getD t undef=T.getD t undef)->∀a,Rl (SN S w (w.alloc ob)) (w.alloc ob) a->bJ P main Rl (pg Rr) St (SN S w (w.alloc ob)) (Gl (FQ f T' (.inRegion V rest::k)::xs) base) a) :
  ∀w,Rl S w0 w->bJ P main Rl (pg Rr) St S (Gl (FQ f T (.inRegion V (i::rest)::k)::xs) base) w:=λw n=>by
 refine .step rfl λa j=> ?_;have x:=H.tr _ _ _ _ n j;obtain⟨v,ob,y,c⟩:=p a;refine⟨_,_,_,_,amx rfl rfl rfl rfl m s c,⟨λb r _=>rH a _ b r,by rw[mp];omega,rfl,rfl,λe z=>by cases(by simpa using tn z:False)⟩, ?_⟩;have:Frame.finish (FQ f T (.inRegion V (i::rest)::k)) v=FQ f (T.setIfInBounds d v) (.inRegion V rest::k):=by
  simp only[Frame.finish,m,qL,g]
 rw[this];exact u a x _ _ y _ (by simp) (by rw[aH l,du rfl]) (λt q=>by rw[aH l,da q]) _ (H.fR _ _)
end
section
variable {w:World} {b:Nat} {u v:Value} {t:TypeId}
def tR(h:w.heap[b]?=some (.cells #[u] t)):w.cell? ⟨b,0,none⟩=some u/\w.frozen? ⟨b,0,none⟩=false:=by
 constructor
 .simp[World.cell?,h]
 .simp[World.frozen?,h]
def wQ(h:w.heap[b]?=some (.cells #[u] t)):(w.setCell ⟨b,0,none⟩ v).heap[b]?=some (.cells #[v] t):=by
 simp[World.setCell,pi,h]
end
section
variable {Rl:av->World->World->Prop} {St:av->Goroutine->World->Prop} {S Rr:av} {w0:World} {T:Array Value} {k:List Item} {xs base:List Frame}
def ate (H:pd Rl Rr) (hZ:45<=Z) (hz:T.size=Z)  (hn:(n:Int)<=2147483647) (Y:T.getD 2 undef=.slice A n c)
  (K:∀(T':Array Value) (q:av) (m:World) (C D:Nat) (g:Array Value),T'.size=Z->(∀t,t≠15->t≠16->t≠17->t≠8->T'.getD t undef=T.getD t undef)->T'.getD 8 undef=.pointer (some ⟨D,0,none⟩)->T'.getD 17 undef=.slice (some ⟨C,0,none⟩) n n->
   Kp S Rr w0 q m->q C->q D->w0.heap.size<=C->C<D->g.size=2*n->m.heap[C]?=some (.cells g 151)->m.heap[D]?=some (.cells #[.slice (some ⟨C,0,none⟩) n n] 138)->bJ prog true Rl (pg Rr) St q (Gl (FQ cD T' k::xs) base) m) :
  bJ prog true Rl (pg Rr) St S (Gl (FQ cD T (.inRegion ac4 [0,1,2,3,4]::k)::xs) base) w0:=by
 obtain⟨p0,a0,W⟩:=aBN;obtain⟨p1,a1,e1⟩:=aBO;obtain⟨p2,a2,e2⟩:=aBP;obtain⟨p3,a3,e3⟩:=aBQ;obtain⟨p4,a4,e4⟩:=aBR;obtain⟨a6,R,G,M⟩:=faT.ake;refine bM H.cmp (d:=15) (v:=.slice A n c) (es:=#[]) (by show(15:Nat)<_;omega) W rfl rfl (λw _=>fB (x:=.tmp 2) Y) (λw _=>bm _) (λT1 z1 v1 r1=> ?_) w0 (H.fR _ _);refine bM H.cmp (d:=16) (v:=.int .i64 n) (es:=#[]) (by show(16:Nat)<_;omega) e1 rfl rfl (λw _=>ah0 faT (s:=15) v1) (λw _=>bm _) (λT2 z2 v2 r2=> ?_);refine awZ H (d:=17) (Q:=λv ob w=>v=.slice (some ⟨w.heap.size,0,none⟩) n n/\∃g:Array Value,g.size=2*n/\ob=.cells g 151) (by show(17:Nat)<_;omega) e2 rfl rfl (λw=> ?_) (λa ha vv ob hq T3 z3 v3 X=> ?_)
 .obtain⟨g,r,hr⟩:=atf faT (w:=w) (x:=.tmp 16) (e:=Frame.eval (FQ cD T2 (.inRegion ac4 [2,3,4]::k))) hn v2;exact⟨_,_,⟨rfl,g,r,rfl⟩,hr⟩
 obtain⟨rfl,g,L,rfl⟩:=hq;refine mW H (d:=8) (ob:=.cells #[.slice none 0 0] 138) (by show(8:Nat)<_;omega) e3 rfl rfl (λw=>qc R M) (λf E P z4 V U=> ?_);have p:P.getD 17 undef=.slice (some ⟨a.heap.size,0,none⟩) n n:=by rw[U 17 (by decide),v3]
 have s1:(a.alloc (.cells g 151)).heap.size=a.heap.size+1:=mp _ _;have s2:(f.alloc (.cells #[.slice none 0 0] 138)).heap.size=f.heap.size+1:=mp _ _;have O:=Kp.rl H ha;have kb:=Kp.alloc S Rr a (.cells g 151);have N:=Kp.rl H E;have z:=Kp.alloc (SN S a (a.alloc (.cells g 151))) Rr f (.cells #[.slice none 0 0] 138);have g1:=O.size;have g2:=N.size;have i:=lj (SN S a (a.alloc (.cells g 151))) f (.cells #[.slice none 0 0] 138);have J:∀{w},Rl (SN (SN S a (a.alloc (.cells g 151))) f (f.alloc (.cells #[.slice none 0 0] 138))) (f.alloc (.cells #[.slice none 0 0] 138)) w->w.heap[f.heap.size]?=some (.cells #[.slice none 0 0] 138):=λ{w} h=>by
  rw[(Kp.rl H h).keep f.heap.size (by omega) (.inl i),kU]
 refine aen H.cmp (A:=⟨f.heap.size,0,none⟩) (u:=.slice (some ⟨a.heap.size,0,none⟩) n n) e4 rfl rfl (λw h=>afM (x:=.tmp 8) (y:=.tmp 17) R G rfl rfl V p (tR (J h)).1 (tR (J h)).2) i (λw h=>abC i (by have:=(Kp.rl H h).size;show f.heap.size<_;omega)) (λB r w1 cZ=> ?_);refine ik H.cmp (λm F=> ?_) w1 cZ;have I:=Kp.rl H r;have o:=Kp.rl H F;have g3:=I.size;have a5:(B.setCell ⟨f.heap.size,0,none⟩ (.slice (some ⟨a.heap.size,0,none⟩) n n)).heap.size=B.heap.size:=be _ _ _;have j:∀b,b≠f.heap.size->(B.setCell ⟨f.heap.size,0,none⟩ (.slice (some ⟨a.heap.size,0,none⟩) n n)).heap[b]?=B.heap[b]?:=λb h=>bj _ _ _ (λe=>h e.symm);have l:=((O.trans kb).trans N).trans (z.trans I);have g4:=o.size;refine K P _ m a.heap.size f.heap.size g (by omega) (λt q1 q2 q3 q4=> ?_) V p ⟨λb E h=> ?_,by have:=l.size;omega, ?_,l.mono,λb h=>(l.new b h).imp id λh=>⟨h.1,by omega⟩⟩ (z.mono _ (lj S a _)) i g1 (by omega) L ?_ ?_
 .rw[U t q4,X t q3,r2 t q2,r1 t q1]
 .exact(o.keep b (by have:=l.size;omega) (h.imp (l.mono b) id)).trans ((j b (by omega)).trans (l.keep b E h))
 .exact o.os.trans l.os
 .exact(o.keep a.heap.size (by omega) (.inl (z.mono _ (lj S a _)))).trans ((j _ (by omega)).trans (((N.trans (z.trans I)).keep a.heap.size (by omega) (.inl (lj S a _))).trans (kU a _)))
 .exact(o.keep f.heap.size (by omega) (.inl i)).trans (wQ (J r))
end
end
section
open Go.Conc Go.ConcN Go.RowKit
open Go.ConcR (KK wgBlock WgAt stA smA rd wr mk Payload DC0)
def apS:(prog.info? eJ.tWg).map (λi=>i.zero.map (·.cells))=some (some #[.int .u64 0,.int .u32 0]):=by kernel_rfl
def atg:∃i z,prog.info? eJ.tWg=some i/\i.zero=some z/\z.cells=#[.int .u64 0,.int .u32 0]:=by
 have h:=apS;cases b:prog.info? eJ.tWg with
 |none=>rw[b] at h;cases h
 |some i=>
  rw[b] at h;cases a:i.zero with
  |none=>simp[a] at h
  |some z=>
   simp only[qr,a,me] at h;exact⟨i,z,rfl,a,h⟩
def jr{o:Obj}(h:w.heap[b]?=some o):b<w.heap.size:=(dl.1 h).1
noncomputable def gM:Code:=.seq (.seq (.region 3 afN false) (.block 0 (.loop js))) (.seq (.region 9 jH false) cR)
section
variable {Rl:av->World->World->Prop} {St:av->Goroutine->World->Prop} {S Rr:av} {w0:World} {T:Array Value} {k:List Item} {xs base:List Frame}
def akf (H:pd Rl Rr) (E:45<=Z) (O:T.size=Z) {key:Int} {A2 : Option Addr} (hn:(b:Int)<=2147483647) (h0:T.getD 0 undef=.int .i64 key) (h1:T.getD 1 undef=.slice A n c) (F:T.getD 2 undef=.slice A2 b i)
  (K:∀(T':Array Value) (x:av) (g:World) (e d C j:Nat) (o:Array Value),T'.size=Z->(∀t,(t<3\/aau t=true)->T'.getD t undef=T.getD t undef)->
   T'.getD 3 undef=.pointer (some ⟨e,0,none⟩)/\T'.getD 4 undef=.pointer (some ⟨d,0,none⟩)/\T'.getD 6 undef=.slice none 0 0/\T'.getD 7 undef=.bool false/\T'.getD 8 undef=.pointer (some ⟨j,0,none⟩)/\T'.getD 17 undef=.slice (some ⟨C,0,none⟩) b b->
   Kp S Rr w0 x g->w0.heap.size<=e/\e<d/\d<C/\C<j->g.heap[e]?=some (.cells #[.int .i64 key] 3)->g.heap[d]?=some (.cells #[.slice A n c] 23)->o.size=2*b->g.heap[C]?=some (.cells o 151)->g.heap[j]?=some (.cells #[.slice (some ⟨C,0,none⟩) b b] 138)->
   bJ prog true Rl (pg Rr) St x (Gl (FQ cD T' (.code (.region 2 ov false) :: .code gM::k)::xs) base) g) :
  bJ prog true Rl (pg Rr) St S (Gl (FQ cD T (.code abD::k)::xs) base) w0:=by
 rw[apT];refine eF H.cmp (fV H.cmp (l:=[0,1,2,3]) rfl λwa R=>ath H E O h0 h1 λT1 S1 w1 e d M B t3 G J I k1 L sp lk N ck y=> ?_) w0 (H.fR _ _);refine eF H.cmp (fV H.cmp (l:=[0,1,2,3,4]) rfl λwb w=>ate H E M hn ((B 2 (by decide) (by decide) (by decide) (by decide)).trans F) λY S2 w2 C j o z2 m t8 q P U Q lC la u W D=> ?_) w1 (H.fR _ _);refine eF H.cmp (λwc X=> ?_) w2 (H.fR _ _);have z:=Kp.rl H R;have s:=(Kp.rl H w).trans P;have f:=Kp.rl H X;have a1:=jr y;have a0:=jr D;have g1:=z.size;have g2:=(Kp.rl H w).size;have g3:=f.size;refine K Y S2 wc e d C j o z2 (λt a=> ?_) ⟨?_, ?_, ?_, ?_,t8,q⟩ (((z.trans k1).trans s).trans f) ⟨by omega,N,by omega,la⟩ ?_ ?_ u ?_ ?_
 .have p:t≠15:=by rintro rfl;exact absurd a (by decide)
  have r:t≠16:=by rintro rfl;exact absurd a (by decide)
  have v:t≠17:=by rintro rfl;exact absurd a (by decide)
  have e8:t≠8:=by rintro rfl;exact absurd a (by decide)
  have e3:t≠3:=by rintro rfl;exact absurd a (by decide)
  have V:t≠4:=by rintro rfl;exact absurd a (by decide)
  have e6:t≠6:=by rintro rfl;exact absurd a (by decide)
  have e7:t≠7:=by rintro rfl;exact absurd a (by decide)
  rw[m t p r v e8,B t e3 V e6 e7]
 .rw[m 3 (by decide) (by decide) (by decide) (by decide),t3]
 .rw[m 4 (by decide) (by decide) (by decide) (by decide),G]
 .rw[m 6 (by decide) (by decide) (by decide) (by decide),J]
 .rw[m 7 (by decide) (by decide) (by decide) (by decide),I]
 .rw[(s.trans f).keep e (by omega) (.inl L),ck]
 .rw[(s.trans f).keep d (by omega) (.inl sp),y]
 .rw[f.keep C (by omega) (.inl U),W]
 .rw[f.keep j (by omega) (.inl Q),D]
end
end
section
open Go.Conc Go.ConcN Go.RowKit
section
variable {Rl:av->World->World->Prop} {St:av->Goroutine->World->Prop} {S Rr:av} {w0:World} {T:Array Value} {k:List Item} {xs base:List Frame}
def ati (H:pd Rl Rr) (G:45<=Z) (E:T.size=Z)  (i:T.getD 2 undef=.slice A n c)
  (K:∀T':Array Value,T'.size=Z->(∀t,t≠18->t≠19->t≠20->T'.getD t undef=T.getD t undef)->T'.getD 18 undef=.slice A n c->T'.getD 19 undef=.int .i64 n->T'.getD 20 undef=.int .i64 0->
   ∀b,Rl S w0 b->bJ prog true Rl (pg Rr) St S (Gl (FQ cD T' k::xs) base) b) :
  bJ prog true Rl (pg Rr) St S (Gl (FQ cD T (.inRegion afN [0,1,2]::k)::xs) base) w0:=by
 obtain⟨L,J,g⟩:=aBS;obtain⟨F,M,u⟩:=aBT;obtain⟨z,N,q⟩:=aBU;refine bM H.cmp (d:=18) (v:=.slice A n c) (es:=#[]) (by show(18:Nat)<_;omega) g rfl rfl (λw _=>fB (x:=.tmp 2) i) (λw _=>bm _) (λB D e j=> ?_) w0 (H.fR _ _);refine bM H.cmp (d:=19) (v:=.int .i64 n) (es:=#[]) (by show(19:Nat)<_;omega) u rfl rfl (λw _=>ah0 faT (s:=18) e) (λw _=>bm _) (λO C r f=> ?_);refine bM H.cmp (d:=20) (v:=.int .i64 0) (es:=#[]) (by show(20:Nat)<_;omega) q rfl rfl (λw _=>fB rfl) (λw _=>bm _) (λm I l a=> ?_);refine ik H.cmp (K m (by omega) (λt o y p=>by rw[a t p,f t y,j t o]) (by rw[a 18 (by decide),f 18 (by decide),e]) (by rw[a 19 (by decide),r]) l)
def amy (H:pd Rl Rr) (l:45<=Z) (q:T.size=Z) (a:T.getD 20 undef=.int .i64 i) (b:T.getD 19 undef=.int .i64 n)
  (K:∀T':Array Value,T'.size=Z->(∀t,t≠21->T'.getD t undef=T.getD t undef)->T'.getD 21 undef=.bool (decide (i<n))->
   ∀c,Rl S w0 c->bJ prog true Rl (pg Rr) St S (Gl (FQ cD T' k::xs) base) c) :
  bJ prog true Rl (pg Rr) St S (Gl (FQ cD T (.inRegion apU [0]::k)::xs) base) w0:=by
 obtain⟨o,m,e⟩:=aBV;refine bM H.cmp (d:=21) (v:=.bool (decide ((i:Int)<n))) (es:=#[]) (by show(21:Nat)<_;omega) e rfl rfl (λw _=>apV (x:=.tmp 20) (y:=.tmp 19) a b) (λw _=>bm _) (λg p j f=> ?_) w0 (H.fR _ _);exact ik H.cmp (K g (by omega) f (by rw[j];congr 1;exact uE.2 (by omega)))
end
def anQ:(prog.info? 3).map (λi=>(i.size,i.zero))=some (1,some (.int .i64 0)):=by kernel_rfl
def ah1:∃i,prog.info? 3=some i/\i.size=1/\i.zero=some (.int .i64 0):=by
 have h:=anQ;cases a:prog.info? 3 with
 |none=>rw[a] at h;cases h
 |some i=>
  rw[a] at h;simp only[qr,me,vm] at h;exact⟨i,rfl,h⟩
section
variable {P:Program} {w:World} {e:Operand->Value} {x y:Operand} {dst:Option Tmp} {ty:TypeId} {pos:String} {af:Array Edge} {gd:Option (Nat×Bool)}
def akg{i:TypeInfo}(g:P.underlying 93=some (.slice 3))(hi:P.info? 3=some i)(f:i.size=1)(k:e x=.slice (some a) n c)(d:e y=.int .i64 j)(b:j<n) :
  (execOp e ⟨dst,.indexAddr 93 x y,ty,pos,af,gd⟩).runT P w #[]=(.ok (.value (.pointer (some (a.add j)))) w,#[]):=by
 simp[execOp,k,d,Instr.indexAt,asIntOf,mt g,b,sizeOf,typeInfo,hi,f]
end
section
variable {Rl:av->World->World->Prop} {St:av->Goroutine->World->Prop} {S Rr:av} {w0:World} {T:Array Value} {k:List Item} {xs base:List Frame}
def apW (H:pd Rl Rr)   {p:String} {af:Array Edge} {d s:Tmp} {u v:Int} (E:V[i]?=some ⟨none,.store 3 (.tmp d) (.tmp s),0,p,af,none⟩) (z:T.getD d undef=.pointer (some ⟨b,0,none⟩)) (G:T.getD s undef=.int .i64 v)
  (o:S b) (r:w0.heap[b]?=some (.cells #[.int .i64 u] 3))
  (K:∀c,Kp S Rr (w0.setCell ⟨b,0,none⟩ (.int .i64 v)) S c->(∀x,x≠b->S x\/Rr x->c.heap[x]?=w0.heap[x]?)->w0.heap.size<=c.heap.size->c.ou=w0.ou->c.heap[b]?=some (.cells #[.int .i64 v] 3)->bJ prog true Rl (pg Rr) St S (Gl (FQ cD T (.inRegion V rest::k)::xs) base) c) :
  bJ prog true Rl (pg Rr) St S (Gl (FQ cD T (.inRegion V (i::rest)::k)::xs) base) w0:=by
 obtain⟨N,I,D, -⟩:=ah1;have C:=jr r;have m:∀{w},Rl S w0 w->w.heap[b]?=some (.cells #[.int .i64 u] 3):=λ{w} h=>by rw[(Kp.rl H h).keep b C (.inl o),r]
 refine aen H.cmp (A:=⟨b,0,none⟩) (u:=.int .i64 v) E rfl rfl (λw h=>afM (x:=.tmp d) (y:=.tmp s) I D rfl rfl z G (tR (m h)).1 (tR (m h)).2) o (λw h=>abC o (jr (m h))) (λl g q J=> ?_) w0 (H.fR _ _);have j:=H.rl _ _ _ g;have f:=H.rl _ _ _ J;have B:(l.setCell ⟨b,0,none⟩ (.int .i64 v)).heap.size=l.heap.size:=be _ _ _;have a:∀x,x≠b->(l.setCell ⟨b,0,none⟩ (.int .i64 v)).heap[x]?=l.heap[x]?:=λx h=>bj _ _ _ (λe=>h e.symm);have t:q.heap[b]?=some (.cells #[.int .i64 v] 3):=(f.1 b (.inl o)).trans (wQ (m g));have same:∀x,x≠b->S x\/Rr x->q.heap[x]?=w0.heap[x]?:=λx h n=>(f.1 x n).trans ((a x h).trans (j.1 x n));have F:(w0.setCell ⟨b,0,none⟩ (.int .i64 v)).heap.size=w0.heap.size:=be _ _ _;have M:=j.2.1;have L:=f.2.1;refine K q ⟨λx _ n=> ?_,by omega,(f.2.2.trans j.2.2),λ_ h=>h,λ_ h=>.inl h⟩ same (by omega) (f.2.2.trans j.2.2) t;by_cases e:x=b
 .rw[e,t,wQ r]
 .rw[same x e n,bj _ _ _ (λh=>e h.symm)]
end
section
variable {P:Program} {S Rr:av}
def atj{f:FuncId}{A:Addr}{B:Nat}(d:Rr A.block)(g:A.block<B):∀e∈seen P f #[⟨.cell A,false,false⟩],mX S Rr B e:=λe c=>by
 have h:=tn c;simp only[sI,pa,rF,ue] at h;subst h;refine⟨λx a=>.inr ?_,λm b=>(by cases b),g⟩;simp[MemAct.ofEvent,MemAct.touch?] at a;rw[<-a];exact⟨d,rfl⟩
end
section
variable {Rl:av->World->World->Prop} {St:av->Goroutine->World->Prop} {S Rr:av} {w0:World} {T:Array Value} {k:List Item} {xs base:List Frame}
def atk (H:pd Rl Rr) (hZ:45<=Z) (hz:T.size=Z)  {nm:Int} (V:T.getD 18 undef=.slice A n c) (B:T.getD 20 undef=.int .i64 j) (hj:j<n) (U:ah2 w0 A j nm) (hR:∀a,A=some a->Rr a.block)
  (K:∀(T':Array Value) (F:av) (G:World) (z E:Nat),T'.size=Z->(∀t,t≠22->t≠23->t≠24->t≠10->t≠11->T'.getD t undef=T.getD t undef)->T'.getD 10 undef=.pointer (some ⟨z,0,none⟩)->T'.getD 11 undef=.pointer (some ⟨E,0,none⟩)->
   Kp S Rr w0 F G->F z->F E->w0.heap.size<=z->z<E->G.heap[z]?=some (.cells #[.int .i64 j] 3)->G.heap[E]?=some (.cells #[.int .i64 nm] 3)->bJ prog true Rl (pg Rr) St F (Gl (FQ cD T' k::xs) base) G) :
  bJ prog true Rl (pg Rr) St S (Gl (FQ cD T (.inRegion abE [0,1,2,3,4,5,6]::k)::xs) base) w0:=by
 obtain⟨p0,a0,e0⟩:=aBW;obtain⟨p1,a1,e1⟩:=aBX;obtain⟨p2,a2,e2⟩:=aBY;obtain⟨p3,a3,e3⟩:=aBZ;obtain⟨p4,a4,e4⟩:=aB0;obtain⟨p5,a5,e5⟩:=aB1;obtain⟨p6,a6,e6⟩:=aB2;obtain⟨a,rfl,g,kC⟩:=U;obtain⟨i3,o,Q,s⟩:=ah1;have C:=hR a rfl;have m:(a.add j).block=a.block:=rA a j;have a7:=eK g;have iY:∀{w},Rl S w0 w->w.cell? (a.add j)=some (.int .i64 nm):=λ{w} h=>(gu (by rw[m];exact(H.rl _ _ _ h).1 a.block (.inr C))).trans g
 refine bM H.cmp (d:=22) (v:=.int .i64 j) (es:=#[]) (by show(22:Nat)<_;omega) e0 rfl rfl (λw _=>fB (x:=.tmp 20) B) (λw _=>bm _) (λT1 z1 v1 r1=> ?_) w0 (H.fR _ _);refine bM H.cmp (d:=23) (v:=.pointer (some (a.add j))) (es:=#[]) (by show(23:Nat)<_;omega) e1 rfl rfl (λw _=>akg faT.u31 o Q (x:=.tmp 18) (y:=.tmp 20) ((r1 18 (by decide)).trans V) ((r1 20 (by decide)).trans B) hj) (λw _=>bm _) (λT2 z2 v2 r2=> ?_);refine bM H.cmp (d:=24) (v:=.int .i64 nm) (es:=#[⟨.cell (a.add j),false,false⟩]) (by show(24:Nat)<_;omega) e2 rfl rfl (λw P=>ah3 underlying3 rfl (x:=.tmp 23) v2 (iY P)) (λw P=>atj (by rw[m];exact C) (bd a7 (H.rl _ _ _ P).2.1)) (λT3 z3 v3 r3=> ?_);refine mW H (d:=10) (ob:=.cells #[.int .i64 0] 3) (by show(10:Nat)<_;omega) e3 rfl rfl (λw=>qc o s) (λe ha T4 z4 v4 r4=> ?_);refine mW H (d:=11) (ob:=.cells #[.int .i64 0] 3) (by show(11:Nat)<_;omega) e4 rfl rfl (λw=>qc o s) (λl hb J z5 v5 L w1 cZ=> ?_);have s1:(e.alloc (.cells #[.int .i64 0] 3)).heap.size=e.heap.size+1:=mp _ _;have s2:(l.alloc (.cells #[.int .i64 0] 3)).heap.size=l.heap.size+1:=mp _ _;have ka:=(Kp.rl H ha).trans (Kp.alloc S Rr e (.cells #[.int .i64 0] 3));have W:=Kp.rl H hb;have kc:=Kp.alloc (SN S e (e.alloc (.cells #[.int .i64 0] 3))) Rr l (.cells #[.int .i64 0] 3);have I:=Kp.rl H cZ;have g0:=(Kp.rl H ha).size;have g1:=W.size;have g2:=I.size;have i:=kc.mono _ (lj S e (.cells #[.int .i64 0] 3));have f:=lj (SN S e (e.alloc (.cells #[.int .i64 0] 3))) l (.cells #[.int .i64 0] 3);have ci:w1.heap[e.heap.size]?=some (.cells #[.int .i64 0] 3):=by
  rw[((W.trans kc).trans I).keep e.heap.size (by omega) (.inl (lj S e _)),kU]
 have cn:w1.heap[l.heap.size]?=some (.cells #[.int .i64 0] 3):=by
  rw[I.keep l.heap.size (by omega) (.inl f),kU]
 have D:J.getD 10 undef=.pointer (some ⟨e.heap.size,0,none⟩):=by rw[L 10 (by decide),v4]
 have M:J.getD 22 undef=.int .i64 j:=by rw[L 22 (by decide),r4 22 (by decide),r3 22 (by decide),r2 22 (by decide),v1]
 have R:J.getD 24 undef=.int .i64 nm:=by rw[L 24 (by decide),r4 24 (by decide),v3]
 refine apW H e5 D M i ci (λw2 _ u z6 o6 Y=> ?_);have a8:w2.heap[l.heap.size]?=some (.cells #[.int .i64 0] 3):=(u _ (by omega) (.inl f)).trans cn;refine apW H e6 v5 R f a8 (λw3 _ r z7 o7 X=> ?_);refine ik H.cmp (λw4 N=> ?_) w3 (H.fR _ _);have q:=Kp.rl H N;have p:=((ka.trans W).trans kc).trans I;have aa:=p.size;refine K J _ w4 e.heap.size l.heap.size (by omega) (λt q1 q2 q3 q4 q5=> ?_) D v5 ⟨λb a9 h=> ?_, ?_, ?_,p.mono,λb h=>(p.new b h).imp id λh=>⟨h.1, ?_⟩⟩ i f g0 (by omega) ?_ ?_
 .rw[L t q5,r4 t q4,r3 t q3,r2 t q2,r1 t q1]
 .have O:=h.imp (p.mono b) id;rw[q.keep b (by omega) O,r b (by omega) O,u b (by omega) O,p.keep b a9 h]
 .have:=q.size;omega
 .rw[q.os,o7,o6,p.os]
 .have:=q.size;omega
 .rw[q.keep _ (by omega) (.inl i),r _ (by omega) (.inl i),Y]
 .rw[q.keep _ (by omega) (.inl f),X]
end
end
section
open Go.Conc Go.ConcN Go.RowKit
open Go.ConcR (KK wgBlock WgAt stA smA rd wr mk Payload DC0)
structure Mx where
 wE:World
 Wg:Nat
 C:Nat
 n2:Nat
 Rg:Nat->Prop
 key:Int
 A:Option Addr
 n:Nat
 c:Nat
 l:List iP
 A2:Option Addr
 c2:Nat
 dF:List Int
 bk:Nat
 bp:Nat
 ba:Nat
 sv:Nat->Value
 Z:Nat
 V:av
structure Mx.Ok (X:Mx):Prop where
 hN:gN<=X.wE.heap.size
 gl:∀g∈gL,X.Rg g
 k1:1<=X.key
 k2:X.key<=99
 hl:X.l.length=X.n
 hc:X.n<=X.c
 hcm:(X.c:Int)<=9223372036854775807
 gr:∀g∈gL,eG X.wE g
 rd:RdP X.wE X.A 0 X.l
 rgp:RgP X.Rg X.wE X.A X.l
 al:∀a,X.A=some a->X.Rg a.block
 al2:∀a,X.A2=some a->X.Rg a.block
 nm:∀i nm,X.dF[i]?=some nm->ah2 X.wE X.A2 i nm
 nn:X.dF.length=X.n2
 n2m:(X.n2:Int)<=2147483647
 cW:X.C≠X.Wg
 vr:∀b,X.Rg b->X.V b
structure Mx.At (X:Mx) (R:av) (w:World):Prop where
 keep:∀b,X.V b->w.heap[b]?=X.wE.heap[b]?
 sz:X.wE.heap.size<=w.heap.size
 os:w.ou=X.wE.ou
 rows:∀b,X.V b->R b
 rk:R X.bk/\w.heap[X.bk]?=some (.cells #[.int .i64 X.key] 3)
 rp:R X.bp/\w.heap[X.bp]?=some (.cells #[.slice X.A X.n X.c] 23)
 ra:R X.ba/\w.heap[X.ba]?=some (.cells #[.slice (some ⟨X.C,0,none⟩) X.n2 X.n2] 138)
 rlt:∀b,R b->b<w.heap.size
 rC:¬R X.C
 rW:¬R X.Wg
 ltC:X.C<w.heap.size
 ltW:X.Wg<w.heap.size
section
variable {X:Mx} {R S S':av} {w w':World} {es:Array Event}
def Mx.At.move(h:X.At R w)(a:∀b,R b->w'.heap[b]?=w.heap[b]?)(d:w.heap.size<=w'.heap.size)(e:w'.ou=w.ou):X.At R w':=
 ⟨λb c=>(a b (h.rows b c)).trans (h.keep b c),ap h.sz d,e.trans h.os,h.rows,⟨h.rk.1,(a _ h.rk.1).trans h.rk.2⟩,⟨h.rp.1,(a _ h.rp.1).trans h.rp.2⟩,⟨h.ra.1,(a _ h.ra.1).trans h.ra.2⟩,
  λb c=>bd (h.rlt b c) d,h.rC,h.rW,bd h.ltC d,bd h.ltW d⟩
def Mx.At.grow(h:X.At R w)(c:∀b,S b->b<w.heap.size/\b≠X.C/\b≠X.Wg):X.At (λb=>S b\/R b) w:=
 ⟨h.keep,h.sz,h.os,λb a=>.inr (h.rows b a),⟨.inr h.rk.1,h.rk.2⟩,⟨.inr h.rp.1,h.rp.2⟩,⟨.inr h.ra.1,h.ra.2⟩,λb a=>a.elim (λx=>(c b x).1) (h.rlt b),
  λa=>a.elim (λx=>(c _ x).2.1 rfl) h.rC,λa=>a.elim (λx=>(c _ x).2.2 rfl) h.rW,h.ltC,h.ltW⟩
def Mx.At.rgp(a:X.Ok)(h:X.At R w):RgP X.Rg w X.A X.l:=a.rgp.move a.al λb c=>h.keep b (a.vr b c)
def Mx.At.gr(a:X.Ok)(h:X.At R w):∀g∈gL,eG w g:=λg b=>by
 obtain⟨c,t,z,e⟩:=a.gr g b;exact⟨c,t,z,(h.keep g (a.vr g (a.gl g b))).trans e⟩
def Mx.At.rd(a:X.Ok)(h:X.At R w):RdP w X.A 0 X.l:=a.rd.mask a.rgp a.al λ_ _ c b _=>(gu (h.keep _ (a.vr _ b))).trans c
def Mx.At.nm(b:X.Ok)(h:X.At R w){nm:Int}(hi:X.dF[i]?=some nm):ah2 w X.A2 i nm:=by
 obtain⟨a,e,d,c⟩:=b.nm i nm hi;exact⟨a,e,(gu (by rw[rA];exact h.keep _ (b.vr _ (b.al2 a e)))).trans d,c⟩
abbrev Mx.Rl(X:Mx)(R:av):av->World->World->Prop:=jI eJ.tWg X.Wg X.C (2*X.n2) R noC
abbrev Mx.Gr(X:Mx)(R:av):av->av->World->World->Array Event->Prop:=Gua X.Wg X.C (2*X.n2) R noC
def Mx.mY(X:Mx)(R:av):pd (X.Rl R) R:=⟨λS w=>jI.refl _ _ _ _,λ_ _ _ _=>jI.trans,λ_ _ _ h=>⟨h.keep,h.size,h.os⟩⟩
structure Mx.Inv (X:Mx) (R S:av) (w:World):Prop where
 s:∀b,S b->b<w.heap.size/\b≠X.C/\b≠X.Wg
 at_:X.At R w
 live:WgLive eJ.tWg X.Wg w
 sr:∀b,R b->¬S b
def Mx.Inv.rely(h:X.Inv R S w)(a:X.Rl R S w w'):X.Inv R S w':=
 ⟨λb c=>⟨bd (h.s b c).1 a.size,(h.s b c).2⟩,h.at_.move (λb c=>a.keep b (.inr c)) a.size a.os,a.live h.live,h.sr⟩
def Mx.step(h:X.Inv R S w)(g:pg R S S' w w' es):X.Gr R S S' w w' es/\X.Inv R S' w':=by
 obtain⟨k,l,p,rfl,z⟩:=g;have o:w'.heap[X.C]?=w.heap[X.C]?:=k _ h.at_.ltC λd=>(h.s _ d).2.1 rfl;have q:w'.heap[X.Wg]?=w.heap[X.Wg]?:=k _ h.at_.ltW λd=>(h.s _ d).2.2 rfl;refine⟨⟨λb c v _=>k b c v,l,p,λ⟨r,a,b⟩=>⟨r,o.trans a,b⟩,λi _=>uA o i,λb c=>.inl c,λb c=>c,λe C=> ?_⟩, ?_⟩
 .obtain⟨A,m,B⟩:=z e C;refine⟨λx t=>(A x t).elim .inl λy=>.inr (.inr y),λj=> ?_,λj=> ?_,λj=> ?_,B⟩
  .rcases m _ j with⟨f,e⟩|e<;>cases e
  .rcases m _ j with⟨f,e⟩|e<;>cases e
  .rcases m _ j with⟨f,e⟩|e<;>cases e
 .refine⟨λb c=> ?_,h.at_.move (λb c=>k b (h.at_.rlt b c) (h.sr b c)) l p, ?_,λb c d=> ?_⟩
  .rcases c with c|⟨c,n⟩
   .exact⟨bd (h.s b c).1 l,(h.s b c).2⟩
   .have E:=h.at_.ltC;have D:=h.at_.ltW;exact⟨n,by omega,by omega⟩
  .obtain⟨u,sm,s⟩:=h.live;exact⟨u,sm,q.trans s⟩
  .rcases d with d|⟨d,_⟩
   .exact h.sr b c d
   .have:=h.at_.rlt b c;omega
def Mx.lift{Stop:av->Goroutine->World->Prop}(h:bJ prog true (X.Rl R) (pg R) Stop S g w)(hi:X.Inv R S w):bJ prog true (X.Rl R) (X.Gr R) (λS g w=>Stop S g w/\X.Inv R S w) S g w:=
 bJ.inv (Rl:=X.Rl R) (Gr:=pg R) (Gr2:=X.Gr R) (Stop:=Stop) (Inv:=X.Inv R) (λ_ _ _ a b=>a.rely b) (λ_ _ _ _ _ a b=>Mx.step a b) (λ_ _ _ a b=>⟨a,b⟩) h hi
def akh(t:Nat):Bool:=t ==0||t ==1||t ==2||t ==6||t ==7||t ==17||aau t
structure Mx.Sl (X:Mx) (T:Array Value) (j:Nat):Prop where
 z:T.size=X.Z
 zz:45<=X.Z
 s3:T.getD 3 undef=.pointer (some ⟨X.bk,0,none⟩)
 s4:T.getD 4 undef=.pointer (some ⟨X.bp,0,none⟩)
 s8:T.getD 8 undef=.pointer (some ⟨X.ba,0,none⟩)
 s9:T.getD 9 undef=.pointer (some ⟨X.Wg,0,none⟩)
 s18:T.getD 18 undef=.slice X.A2 X.n2 X.c2
 s19:T.getD 19 undef=.int .i64 X.n2
 im:T.getD 20 undef=.int .i64 j
 sv:∀t,akh t=true->T.getD t undef=X.sv t
def wrM(t:Nat):Bool:=t ==10||t ==11||(21<=t&&t<=28)
def aw0{t:Nat}(h:akh t=true):wrM t=false:=by
 simp only[akh,aau,rc,nf,qY] at h;simp only[wrM,wA,dk,sV,tz];omega
def Mx.Sl.keep{T T':Array Value}(h:X.Sl T j)(c:T'.size=X.Z)(a:∀t,wrM t=false->T'.getD t undef=T.getD t undef):X.Sl T' j:=
 ⟨c,h.zz,(a 3 rfl).trans h.s3,(a 4 rfl).trans h.s4,(a 8 rfl).trans h.s8,(a 9 rfl).trans h.s9,(a 18 rfl).trans h.s18,(a 19 rfl).trans h.s19,(a 20 rfl).trans h.im,λt b=>(a t (aw0 b)).trans (h.sv t b)⟩
end
section
variable {P:Program} {main:Bool} {Rl:av->World->World->Prop} {Gr:av->av->World->World->Array Event->Prop} {St:av->Goroutine->World->Prop} {S Rr:av} {w0:World} {f h:FuncId} {T:Array Value} {k:List Item} {xs bs:List Frame}
def ah4 (C:Cmp Rl Gr Rr)   {o:Oper} {args:Array Value} (a:V[i]?=some o) (c:o.guard=none)
  (b:∀w,(execOp (FQ f T (.inRegion V (i::rest)::k)).eval o).runT P w #[]=(.ok (.enter h args) w,#[]))
  (d:∀w,Rl S w0 w->bJ P main Rl Gr St S (Gl (Frame.enter P h args .normal::FQ f T (.inRegion V (i::rest)::k)::xs) bs) w):∀w,Rl S w0 w->bJ P main Rl Gr St S (Gl (FQ f T (.inRegion V (i::rest)::k)::xs) bs) w:=
 bJ.still C (l2:=Frame.enter P h args .normal::FQ f T (.inRegion V (i::rest)::k)::xs) (es:=λ_=>seen P f #[]) (λw _=>ah5 rfl rfl rfl rfl a c (b w)) (λw _=>bm _) d
end
def aki{args:Array Value} :(callFunc eJ.add args).runT prog w #[]=(.ok (.enter eJ.add args) w,#[]):=by
 have h:=aav.f_add;have b:¬(Go.Conc.Lib.addFn eJ).name= "runtime.NumGoroutine" :=by decide
 have a:¬(Go.Conc.Lib.addFn eJ).body=none:=λe=>by cases e
 unfold callFunc;simp[h,b,a]
def ah6{args:Array Value} :(callFunc eJ.wait args).runT prog w #[]=(.ok (.enter eJ.wait args) w,#[]):=by
 have h:=aav.f_wait;have b:¬(Go.Conc.Lib.waitFn eJ).name= "runtime.NumGoroutine" :=by decide
 have a:¬(Go.Conc.Lib.waitFn eJ).body=none:=λe=>by cases e
 unfold callFunc;simp[h,b,a]
noncomputable abbrev kM:List Item:=[.code (.seq (.region 9 jH false) cR)]
noncomputable abbrev kB:List Item:=.inLoop js :: .inBlock 0::kM
noncomputable abbrev kA:List Item:=.code (.region 7 mj false) :: .inBlock 1 :: .code (.region 8 ah7 false)::kB
section
variable {X:Mx} {R:av} {w:World} {T:Array Value} {j:Nat} {xs bs:List Frame}
def StA(X:Mx)(j:Nat)(xs bs:List Frame)(S:av)(g:Goroutine)(w:World):Prop:=
 ∃(T':Array Value) (b a:Nat) (nm:Int),X.dF[j]?=some nm/\X.Sl T' j/\T'.getD 10 undef=.pointer (some ⟨b,0,none⟩)/\T'.getD 11 undef=.pointer (some ⟨a,0,none⟩)/\S b/\S a/\w.heap[b]?=some (.cells #[.int .i64 j] 3)/\w.heap[a]?=some (.cells #[.int .i64 nm] 3)/\
  g=Gl (Frame.enter prog eJ.add #[.pointer (some ⟨X.Wg,0,none⟩),.int .i64 1] .normal::FQ cD T' (.inRegion aaw [0]::kA)::xs) bs
def StW(X:Mx)(xs bs:List Frame)(S:av)(g:Goroutine)(_:World):Prop:=
 ∃T':Array Value,X.Sl T' X.n2/\S=(λ_=>False)/\g=Gl (Frame.enter prog eJ.wait #[.pointer (some ⟨X.Wg,0,none⟩)] .normal::FQ cD T' (.inRegion jH [0]::[.code cR])::xs) bs
def anR(n:X.Ok)(g:X.Sl T j)(v:j<X.n2)(r:X.At R w):bJ prog true (X.Rl R) (pg R) (StA X j xs bs) (λ_=>False) (Gl (FQ cD T (.code js::kB)::xs) bs) w:=by
 have H:=X.mY R;obtain⟨nm,m⟩:∃nm,X.dF[j]?=some nm:=⟨_,jn (by rw[n.nn];exact v)⟩;rw[afO];refine eF H.cmp (fV H.cmp (l:=[0]) rfl λwa x=>amy H g.zz g.z g.im g.s19 λM D K i=> ?_) w (H.fR _ _);rw[dj v] at i;refine eF H.cmp (abF H.cmp i (amz H.cmp (eF H.cmp (aeo H.cmp (eF H.cmp (fV H.cmp (l:=[0,1,2,3,4,5,6]) rfl λP q=> ?_))))));have e:X.Sl M j:=g.keep D λt d=>K t (by rintro rfl;cases d);have I:X.At R P:=(r.move (λb f=>x.keep b (.inr f)) x.size x.os).move (λb f=>q.keep b (.inr f)) q.size q.os;refine atk H g.zz D e.s18 e.im v (I.nm n m) (λa A=>I.rows _ (n.vr _ (n.al2 a A))) λo S2 Z G B N V z u kp C F lb J S Q=> ?_;have k:X.Sl o j:=e.keep N λt d=>V t (by rintro rfl;cases d) (by rintro rfl;cases d) (by rintro rfl;cases d) (by rintro rfl;cases d) (by rintro rfl;cases d);obtain⟨L,U,O⟩:=ay9;refine eF H.cmp (fV H.cmp (l:=[0]) rfl (ah4 H.cmp (h:=eJ.add) (args:=#[.pointer (some ⟨X.Wg,0,none⟩),.int .i64 1]) O rfl (λw=> ?_) λw5 y=>.stop λw6 p=> ?_)) Z (H.fR _ _)
 .have W:Array.map (Frame.eval (FQ cD o (.inRegion aaw [0]::kA))) #[.tmp 9,.const (.int .i64 1)]=#[.pointer (some ⟨X.Wg,0,none⟩),.int .i64 1]:=by
   rw[<-k.s9];simp[Frame.eval]
  have Y:execOp (Frame.eval (FQ cD o (.inRegion aaw [0]::kA))) ⟨some 25,.call ⟨.value (.func eJ.add),#[.tmp 9,.const (.int .i64 1)],#[eJ.tWg,3]⟩,0,L,U,none⟩=callFunc eJ.add #[.pointer (some ⟨X.Wg,0,none⟩),.int .i64 1]:=by
   simp only[execOp,resolve];rw[W];simp[Deferred.ofValue,invoke,Frame.eval];try rfl
  exact(jp (λs=>Sem.runT prog s w #[]) Y).trans aki
 .have E:=H.tr _ _ _ _ y p;exact⟨o,G,B,nm,m,k,z,u,C,F,(E.keep G (.inl C)).trans S,(E.keep B (.inl F)).trans Q,rfl⟩
def anT(d:X.Sl T X.n2):bJ prog true (X.Rl R) (pg R) (StW X xs bs) (λ_=>False) (Gl (FQ cD T (.code js::kB)::xs) bs) w:=by
 have H:=X.mY R;rw[afO];refine eF H.cmp (fV H.cmp (l:=[0]) rfl λv u=>amy H d.zz d.z d.im d.s19 λe p f a=> ?_) w (H.fR _ _);rw[bv (Nat.lt_irrefl _)] at a;have b:X.Sl e X.n2:=d.keep p λt j=>f t (by rintro rfl;cases j);obtain⟨n,i,k⟩:=aza;refine eF H.cmp (abF H.cmp a (amA H.cmp (k2:=kM) rfl (eF H.cmp (fV H.cmp (l:=[0]) rfl (ah4 H.cmp (h:=eJ.wait) (args:=#[.pointer (some ⟨X.Wg,0,none⟩)]) k rfl (λw=> ?_) λx q=>.stop λr g=>⟨e,b,rfl,rfl⟩)))));have m:Array.map (Frame.eval (FQ cD e (.inRegion jH [0]::[.code cR]))) #[.tmp 9]=#[.pointer (some ⟨X.Wg,0,none⟩)]:=by
  rw[<-b.s9];simp[Frame.eval]
 have o:execOp (Frame.eval (FQ cD e (.inRegion jH [0]::[.code cR]))) ⟨some 28,.call ⟨.value (.func eJ.wait),#[.tmp 9],#[eJ.tWg]⟩,0,n,i,none⟩=callFunc eJ.wait #[.pointer (some ⟨X.Wg,0,none⟩)]:=by
  simp only[execOp,resolve];rw[m];simp[Deferred.ofValue,invoke,Frame.eval];try rfl
 exact(jp (λs=>Sem.runT prog s w #[]) o).trans ah6
end
end
section
open Go.Conc Go.ConcN Go.RowKit Go.Conc.Lib Go.ConcR.Gen Go.ConcN.Gen
open Go.ConcR (KK wgBlock WgAt stA smA rd wr mk Payload DC0)
section
variable {P:Program} {R:World->World->Prop} {Q:World->Prop} {St A:Goroutine->World->Prop} {ty:TypeId} {Wg:Nat}
 (hQ:∀w w1,Q w->R w w1->Q w1) (hW:∀(w:World) (a:Addr) v,a.block=Wg->Q w->Q (w.setCell a v))
include hQ
theorem amB(a:Q w)(h:WKe P R Wg St g w):WKe P R Wg (λg w=>St g w/\Q w) g w:=abG (λ_ _ x=>jJ hQ x.2 x.1) (jJ hQ a h)
theorem atl(b:Q w)(h:WW4 P R ty Wg St g w):WW4 P R ty Wg (λg w=>St g w/\Q w) g w:=
 ⟨h.1,λa=>let⟨c,e,k⟩:=h.2 a;⟨c,e,fC (λ_ _ x=>amB hQ x.2 x.1) (eN hQ b k)⟩⟩
include hW
theorem atm(b:Q w)(h:WW3 P R ty Wg St g w):WW3 P R ty Wg (λg w=>St g w/\Q w) g w:=
 ⟨h.1,h.2.1,h.2.2.1,λa=>let⟨c,e,k⟩:=h.2.2.2 a;⟨c,e,fC (λ_ _ x=>atl hQ x.2 x.1) (eN hQ (hW _ _ _ rfl b) k)⟩⟩
theorem atn{v:Nat}(d:Q w)(h:WW2 P R ty Wg A St v g w):WW2 P R ty Wg (λg w=>A g w/\Q w) (λg w=>St g w/\Q w) v g w:=
 ⟨h.1,λf i c=>⟨λe=>let⟨b,a,k⟩:=(h.2 f i c).1 e;⟨b,a,fC (λ_ _ x=>abG (λ_ _ x=>atm hQ hW x.2 x.1) (jJ hQ x.2 x.1)) (eN hQ (hW _ _ _ rfl d) k)⟩,
  λe=>let⟨b,a,k⟩:=(h.2 f i c).2 e;⟨b,a,eN hQ d k⟩⟩⟩
theorem ato(a:Q w)(h:WW1 P R ty Wg A St g w):WW1 P R ty Wg (λg w=>A g w/\Q w) (λg w=>St g w/\Q w) g w:=
 ⟨h.1,λv d c=>let⟨i,e,f,b⟩:=h.2 v d c;⟨i,e,λe=>fC (λ_ _ x=>amB hQ x.2 x.1) (eN hQ a (f e)),λe=>fC (λ_ _ x=>atn hQ hW x.2 x.1) (eN hQ a (b e))⟩⟩
end
section
variable (X:Mx) (xs bs:List Frame)
noncomputable abbrev frW(T:Array Value):Frame:=(FQ cD #[] []).at ⟨T,[]⟩ (.inRegion jH [0]::[.code cR])
def ac5(R _S:av)(g:Goroutine)(w:World):Prop:=X.At R w/\∃T,X.Sl T X.n2/\ah8 eJ X.Wg (frW T) (xs++bs) g w
def azb(R S:av)(g:Goroutine)(w:World):Prop:=
 ∃T,X.Sl T X.n2/\Goes prog true (RM eJ.tWg X.Wg X.C X.n2 R S) DC0 (λg w=>(g=Gl (FQ cD T (.inRegion jH []::[.code cR])::xs) bs/\WgLive eJ.tWg X.Wg w)/\X.At R w) 20 g w
end
section
variable {X:Mx} {xs bs:List Frame} {R S:av} {w w1:World} {T:Array Value}
def Mx.At.rely(h:X.At R w)(a:jI eJ.tWg X.Wg X.C (2*X.n2) R noC S w w1):X.At R w1:=h.move (λb c=>a.keep b (.inr c)) a.size a.os
def Mx.At.wg(h:X.At R w)(a:Addr)(v:Value)(d:a.block=X.Wg):X.At R (w.setCell a v):=
 h.move (λb c=>bj _ _ _ (λe=>h.rW (by rw[<-d,e];exact c))) (pb (be _ _ _).symm) rfl
def atp(a:X.Sl T X.n2):∃T',X.Sl T' X.n2/\G ((FQ cD #[] []).at ((⟨T,[]⟩:Act).put ((jH[0]?).bind (·.dst)) (.tuple #[])) (.inRegion jH []::[.code cR])) (xs++bs)=Gl (FQ cD T' (.inRegion jH []::[.code cR])::xs) bs:=by
 obtain⟨d,e,c⟩:=aza;refine⟨T.setIfInBounds 28 (.tuple #[]),a.keep (by simpa using a.z) λt b=> ?_,by rw[c];rfl⟩;rw[aH (by rw[a.z];exact bd (by decide) a.zz),da (by rintro rfl;cases b)]
def atq(h:ac5 X xs bs R S g w):∃m,GP prog eJ.tWg X.Wg X.C X.n2 R S (MW1 prog eJ.tWg X.Wg X.C X.n2 R S (ac5 X xs bs) (azb X xs bs)) m g w:=by
 obtain⟨c,T,d,i⟩:=h;have j:=akj (R:=RM eJ.tWg X.Wg X.C X.n2 R S) (S:=λg w=>g=G ((FQ cD #[] []).at ((⟨T,[]⟩:Act).put ((jH[0]?).bind (·.dst)) (.tuple #[])) (.inRegion jH []::[.code cR])) (xs++bs)/\WgLive eJ.tWg X.Wg w) aav (λ_ _ h r=>r.live h) (λ_ h=>⟨rfl,h⟩) g w i;have f:=fC (λg w x=>ato (Q:=X.At R) (λ_ _ h r=>h.rely r) (λ_ a v e h=>h.wg a v e) x.2 x.1) (eN (Q:=X.At R) (λ_ _ h r=>h.rely r) c j);obtain⟨T',b,k⟩:=atp (xs:=xs) (bs:=bs) d;refine⟨30,aax (λ_ _ x=>azc (λg w y=>⟨T',b,fC (λg w z=>⟨⟨z.1.1.trans k,z.1.2⟩,z.2⟩) y⟩) (λg w y=>⟨y.2,T,d,y.1⟩) x) f⟩
def akk:Frame.enter prog eJ.wait #[.pointer (some ⟨X.Wg,0,none⟩)] .normal=(base eJ.wait).at ⟨#[.pointer (some ⟨X.Wg,0,none⟩)]++(List.replicate 83 undef).toArray,[]⟩ [.code (body_wait eJ)]:=by
 rw[vT];have h:=enter_at (c:=body_wait eJ) #[.pointer (some ⟨X.Wg,0,none⟩)] aav.f_wait rfl;have e:(Go.Conc.Lib.waitFn eJ).ntmps-(#[.pointer (some ⟨X.Wg,0,none⟩)]:Array Value).size=83:=rfl;rw[e] at h;exact h
def anU:Frame.enter prog eJ.add #[.pointer (some ⟨X.Wg,0,none⟩),.int .i64 1] .normal=(base eJ.add).at ⟨#[.pointer (some ⟨X.Wg,0,none⟩),.int .i64 1]++(List.replicate 115 undef).toArray,[]⟩ [.code (body_add eJ)]:=by
 rw[vT];have h:=enter_at (c:=body_add eJ) #[.pointer (some ⟨X.Wg,0,none⟩),.int .i64 1] aav.f_add rfl;have e:(Go.Conc.Lib.addFn eJ).ntmps-(#[.pointer (some ⟨X.Wg,0,none⟩),.int .i64 1]:Array Value).size=115:=rfl;rw[e] at h;exact h
def agH(d:X.Sl T X.n2)(hi:X.Inv R S w) :
  bJ prog true (X.Rl R) (X.Gr R) (λS g w=>MKd prog eJ.tWg X.Wg X.C X.n2 R S (ac5 X xs bs) g w) S (Gl (Frame.enter prog eJ.wait #[.pointer (some ⟨X.Wg,0,none⟩)] .normal::FQ cD T (.inRegion jH [0]::[.code cR])::xs) bs) w:=by
 rw[akk];have c:=akl (b₀:=FQ cD #[] []) (a₀:=⟨T,[]⟩) (ops₀:=jH) (i₀:=0) (rest₀:=[]) (k₀:=[.code cR]) (cs:=xs++bs) (R:=RM eJ.tWg X.Wg X.C X.n2 R S) aav (λ_ _ h r=>r.live h) w hi.live;have b:=fC (λg w x=>jJ (Q:=X.At R) (λ_ _ h r=>h.rely r) x.2 x.1) (eN (Q:=X.At R) (λ_ _ h r=>h.rely r) hi.at_ c);have a:∀g w,(ah8 eJ X.Wg (frW T) (xs++bs) g w/\X.At R w)->ac5 X xs bs R S g w:=λg w y=>⟨y.2,T,d,y.1⟩;exact bJ.abH (R:=RM eJ.tWg X.Wg X.C X.n2 R S) (λ_ _ h=>h) (λ_ _ _ h=>aw1 h) (λ_ _ h=>azd a h) b
end
end
section
open Go.Conc Go.ConcN Go.RowKit
open Go.ConcR (KK wgBlock WgAt stA smA rd wr mk Payload DC0)
section
variable {X:Mx} {R S:av} {w:World} {T:Array Value} {j:Nat} {xs bs:List Frame} {bi bn:Nat} {nm:Int}
noncomputable abbrev kG:List Item:=.inBlock 1 :: .code (.region 8 ah7 false)::kB
abbrev Mx.dL(X:Mx)(bi bn:Nat):Array Value:=#[.pointer (some ⟨X.Wg,0,none⟩),.pointer (some ⟨X.bk,0,none⟩),.pointer (some ⟨X.bp,0,none⟩),.pointer (some ⟨bn,0,none⟩),.pointer (some ⟨X.ba,0,none⟩),.pointer (some ⟨bi,0,none⟩)]
def anV(b:X.Sl T j)(k:T.getD 10 undef=.pointer (some ⟨bi,0,none⟩))(m:T.getD 11 undef=.pointer (some ⟨bn,0,none⟩))(z:S bi)(q:S bn)(s:w.heap[bi]?=some (.cells #[.int .i64 j] 3))(o:w.heap[bn]?=some (.cells #[.int .i64 nm] 3)) :
  bJ prog true (X.Rl R) (pg R) (λA g f=>A=S/\f.heap[bi]?=some (.cells #[.int .i64 j] 3)/\f.heap[bn]?=some (.cells #[.int .i64 nm] 3)/\∃T',X.Sl T' j/\T'.getD 26 undef=.func (.func nCl) #[] (X.dL bi bn)/\g=Gl (FQ cD T' (.inRegion mj [1]::kG)::xs) bs) S
   (Gl (FQ cD T (.inRegion aaw []::kA)::xs) bs) w:=by
 have H:=X.mY R;obtain⟨p,a,e⟩:=aB4;refine ik H.cmp (fV H.cmp (l:=[0,1]) rfl (bM H.cmp (d:=26) (v:=.func (.func nCl) #[] (X.dL bi bn)) (es:=#[]) (by rw[b.z];exact bd (by decide) b.zz) e rfl rfl (λw _=>ah9 ?_) (λw _=>bm _) λx B C r f y=>.stop λD i=> ?_)) w (H.fR _ _)
 .have:∀T:Array Value,Array.map (Frame.eval (FQ cD T (.inRegion mj [0,1]::kG))) #[.tmp 9,.tmp 3,.tmp 4,.tmp 11,.tmp 8,.tmp 10]=#[T.getD 9 undef,T.getD 3 undef,T.getD 4 undef,T.getD 11 undef,T.getD 8 undef,T.getD 10 undef]:=λT=>by simp[Frame.eval]
  rw[this,b.s9,b.s3,b.s4,b.s8,k,m]
 .have n:=H.tr _ _ _ _ y i;exact⟨rfl,(n.keep bi (.inl z)).trans s,(n.keep bn (.inl q)).trans o,x,b.keep (B.trans b.z) λt u=>r t (by rintro rfl;cases u),C,rfl⟩
def anW(k:X.Ok)(b:X.Sl T j)(F:j<X.n2) :
  bJ prog true (X.Rl R) (pg R) (λu g _=>u=S/\∃T',X.Sl T' (j+1)/\g=Gl (FQ cD T' (.code js::kB)::xs) bs) S
   (Gl (FQ cD T (.inRegion mj []::kG)::xs) bs) w:=by
 have H:=X.mY R;obtain⟨E,D,i⟩:=aB5;obtain⟨B,G,s⟩:=aB6;have p:=k.n2m;refine ik H.cmp (aia H.cmp (fV H.cmp (l:=[0,1]) rfl (bM H.cmp (d:=27) (v:=.int .i64 ((j:Int)+1)) (es:=#[]) (by rw[b.z];exact bd (by decide) b.zz) i rfl rfl (λw _=>atr (x:=.tmp 20) b.im rfl (by omega) (by omega)) (λw _=>bm _) λo f y m=>
  bM H.cmp (d:=20) (v:=.int .i64 ((j:Int)+1)) (es:=#[]) (by rw[f,b.z];exact bd (by decide) b.zz) s rfl rfl (λw _=>fB (x:=.tmp 27) y) (λw _=>bm _) λz r n c=>
   ik H.cmp (apX H.cmp λA C=>.stop λI q=>⟨rfl,z, ?_,rfl⟩)))) w (H.fR _ _)
 have a:=b.keep (T':=o) (f.trans b.z) λt e=>m t (by rintro rfl;cases e);refine⟨r.trans a.z,a.zz,(c 3 (by decide)).trans a.s3,(c 4 (by decide)).trans a.s4,(c 8 (by decide)).trans a.s8,(c 9 (by decide)).trans a.s9,(c 18 (by decide)).trans a.s18,(c 19 (by decide)).trans a.s19,by rw[n];rfl,λt e=>(c t (by rintro rfl;cases e)).trans (a.sv t e)⟩
def aep{val:Nat->Value}{A:av->av->Goroutine->World->Prop}{r:Nat}(h:bJ prog true (X.Rl R) (X.Gr R) (λS g w=>(S=λ_=>False)/\tV prog eJ.tWg X.Wg X.C X.n2 val A r R g w) (λ_=>False) g w):tV prog eJ.tWg X.Wg X.C X.n2 val A r R g w:=by
 cases r with
 |zero=>exact bJ.bind (X.mY _).fR (X.mY _).tr h λS g w ⟨hS,h⟩=>by subst hS;exact h
 |succ r=>exact bJ.bind (X.mY _).fR (X.mY _).tr h λS g w ⟨hS,h⟩=>by subst hS;exact h
def ac6(f:X.Ok){x:Int->List iP->Int->ByteArray×Bool}(N:eL x)(u:∀k nm,x k [] nm=(⟨#[]⟩,false)){val:Nat->Value}(i:∀B nm,X.dF[B]?=some nm->val (2*B)=.string (x X.key X.l nm).1/\val (2*B+1)=.bool (x X.key X.l nm).2) :
  ∀(r j:Nat) (R:av) (T:Array Value) (w:World),j+r=X.n2->X.At R w->WgLive eJ.tWg X.Wg w->X.Sl T j->tV prog eJ.tWg X.Wg X.C X.n2 val (ac5 X xs bs) r R (Gl (FQ cD T (.code js::kB)::xs) bs) w
 |0,j,R,T,w,hj,hat,o,hs=>by
  obtain rfl:j=X.n2:=hj;have M:X.Inv R (λ_=>False) w:=⟨λb h=>h.elim,hat,o,λb _ h=>h⟩;exact bJ.bind (X.mY R).fR (X.mY R).tr (Mx.lift (anT hs) M) λS g w ⟨⟨T',c,hS,hg⟩,d⟩=>by
   rw[hg];exact agH c d
 |r+1,j,R,T,w,hj,hat,o,hs=>by
  have l:j<X.n2:=by omega
  have M:X.Inv R (λ_=>False) w:=⟨λb h=>h.elim,hat,o,λb _ h=>h⟩;have F:X.n2-(r+1)=j:=by omega
  show bJ prog true (X.Rl R) (X.Gr R) (λS g w=>apY prog eJ.tWg X.Wg X.C X.n2 val (X.n2-(r+1)) (tV prog eJ.tWg X.Wg X.C X.n2 val (ac5 X xs bs) r) R S g w) (λ_=>False) _ w;rw[F];refine bJ.bind (X.mY R).fR (X.mY R).tr (Mx.lift (anR f hs l hat) M) λS g w ⟨⟨T',bi,bn,nm,hnm,c,d10,d11,si,sn,ci,cn,hg⟩,d⟩=> ?_;rw[hg,anU];have hI:=d.at_.nm f hnm;obtain⟨-, -, -,V⟩:=hI;refine anX (b₀:=FQ cD #[] []) (a₀:=⟨T',[]⟩) (ops₀:=aaw) (i₀:=0) (rest₀:=[]) (k₀:=kA) (cs:=xs++bs) aav (Q:=λw=>X.Inv R S w/\w.heap[bi]?=some (.cells #[.int .i64 j] 3)/\w.heap[bn]?=some (.cells #[.int .i64 nm] 3))
   (λw q h I=>⟨h.1.rely I,(I.keep bi (.inl si)).trans h.2.1,(I.keep bn (.inl sn)).trans h.2.2⟩) (λw v z h Z=> ?_) (λw o h=> ?_) w d.live ⟨d,ci,cn⟩
  .have s:∀b,S b->(w.setCell (stA X.Wg) (.int .u64 z)).heap[b]?=w.heap[b]?:=λb n=>bj _ _ _ λe=>(h.1.s b n).2.2 e.symm;refine⟨⟨λb n=>⟨by rw[be];exact(h.1.s b n).1,(h.1.s b n).2⟩,h.1.at_.wg _ _ rfl, ?_,h.1.sr⟩,(s bi si).trans h.2.1,(s bn sn).trans h.2.2⟩;exact⟨z,0,Z.setSt z⟩
  .obtain⟨p6,a6,U⟩:=ay9;have O:G ((FQ cD #[] []).at ((⟨T',[]⟩:Act).put ((aaw[0]?).bind (·.dst)) (.tuple #[])) (.inRegion aaw []::kA)) (xs++bs)=Gl (FQ cD (T'.setIfInBounds 25 (.tuple #[])) (.inRegion aaw []::kA)::xs) bs:=by rw[U];rfl
   rw[O];have m:∀t,t≠25->(T'.setIfInBounds 25 (.tuple #[])).getD t undef=T'.getD t undef:=λt A=>by rw[aH (by rw[c.z];exact bd (by decide) c.zz),da A]
   have J:X.Sl (T'.setIfInBounds 25 (.tuple #[])) j:=c.keep (by simpa using c.z) λt A=>m t (by rintro rfl;cases A);refine bJ.weak (λ_ _ _ h=>h) (λ_ _ _ _ _ h=>h) (λp g q h=> ?_) (Mx.lift (anV (nm:=nm) J ((m 10 (by decide)).trans d10) ((m 11 (by decide)).trans d11) si sn h.2.1 h.2.2) h.1);obtain⟨⟨rfl,E,K,T2,y,H,rfl⟩,D⟩:=h;have a:X.At (λb=>p b\/R b) q:=D.at_.grow D.s;refine⟨rfl,_,_,λb=>p b\/R b,att H,λ_ h=>h,λhp o=> ?_, ?_⟩
   .obtain⟨v0,W⟩:=i j nm hnm
    let Y:Wx:=⟨q,X.Wg,X.C,X.n2,j,λb=>p b\/R b,X.Rg,X.key,X.A,X.n,X.c,X.l,nm,X.bk,X.bp,bn,X.ba,bi,eJ.tWg⟩
    have C:Y.Ok:=⟨ap f.hN a.sz,f.gl,a.gr f,f.k1,f.k2,f.hl,f.hc,f.hcm,a.rd f,a.rgp f,f.al,V,l,λb n=>a.rows b (f.vr b n),⟨a.rk.1,(tR a.rk.2).1⟩,⟨a.rp.1,(tR a.rp.2).1⟩,⟨.inl sn,(tR K).1⟩,⟨a.ra.1,(tR a.ra.2).1⟩,⟨.inl si,(tR E).1⟩,a.rlt,a.rC,a.rW,f.cW⟩;have L:Y.Inv (λ_=>False) q:=⟨λ_ _=>rfl,λb h=>h.elim,a.ltC,a.ltW,am _,o,hp,rfl⟩;exact aib (X:=Y) C N u rfl v0 W L
   .-- the rounds that are left
    have P:X.Inv (λb=>p b\/R b) (λ_=>False) q:=⟨λb h=>h.elim,a,D.live,λb _ h=>h⟩;have hx:=Mx.lift (anW (S:=λ_=>False) (xs:=xs) (bs:=bs) f y l) P;have k:∀(g:Goroutine) (w:World) (S:av),((S=λ_=>False)/\∃T',X.Sl T' (j+1)/\g=Gl (FQ cD T' (.code js::kB)::xs) bs)/\X.Inv (λb=>p b\/R b) S w->S=(λ_=>False)/\tV prog eJ.tWg X.Wg X.C X.n2 val (ac5 X xs bs) r (λb=>p b\/R b) g w:=by
     rintro g w S ⟨⟨rfl,T',c,rfl⟩,d⟩;exact⟨rfl,ac6 f N u i r (j+1) _ T' w (by omega) d.at_ d.live c⟩
    exact aep (bJ.weak (λ_ _ _ h=>h) (λ_ _ _ _ _ h=>h) (λS g w h=>k g w S h) hx)
end
def akm(Rr:av):pd RlB Rr:=⟨λ_ w=>atRel_refl w,λ_ a b c h k=>atRel_trans a b c h k,λ_ w f ⟨d,e⟩=>by subst e;exact⟨λ_ _=>rfl,am _,rfl⟩⟩
def akn(aY S:av)(w:World):Prop:=(∀b,S b->¬aY b)/\∀b,aY b->b<w.heap.size
def akn.rely{S : av}(h:akn aY S w)(c:RlB S w U):akn aY S U:=⟨h.1,λb a=>bd (h.2 b a) ((akm S).rl _ _ _ c).2.1⟩
def apZ{Rr S j : av}{w' : World}{es:Array Event}(t:∀b,Rr b->¬aY b)(i:akn aY S w)(g:pg Rr S j w w' es):GrB aY S j w w' es/\akn aY j w':=by
 obtain⟨u,m,v,rfl,p⟩:=g;have n:∀b,S b\/(w.heap.size<=b/\b<w'.heap.size)->¬aY b:=λb c d=>by
  rcases c with c|c
  .exact i.1 b c d
  .have:=i.2 b d;omega
 refine⟨⟨m,λe s=> ?_⟩,n,λb c=>bd (i.2 b c) m⟩;obtain⟨q,l,r⟩:=p e s;refine⟨λx o ⟨a,hl,d⟩=> ?_,λk=> ?_,λk=> ?_,r⟩
 .rcases q x o with h|⟨h, -⟩
  .rw[hl] at h;exact n _ h d
  .rw[hl] at h;exact t _ h d
 .rcases l _ k with⟨f,e⟩|e<;>cases e
 .rcases l _ k with⟨f,e⟩|e<;>cases e
section
variable {gs:Array Goroutine} {w:World} {sl:Option (Nat×Nat)} {t:Trace} {q:Nat->Nat} {aY V:av} {T:Array Value} {xs:List Frame}
def aB7 (J:gs[0]?=some (Gl (FQ cD X [.code abD]::xs) [])) (U:45<=X.size) {key:Int} {A2 : Option Addr} (Y:(Z:Int)<=2147483647) (M:X.getD 0 undef=.int .i64 key) (s1:X.getD 1 undef=.slice A n c) (L:X.getD 2 undef=.slice A2 Z i)
  (P:Leavers prog t gs q) (hP:eO aY (gs.size-1) w.heap.size t) (x:∀b,aY b->b<w.heap.size) (I:∀b,V b->b<w.heap.size/\¬aY b) :
  ∃(N:Nat) (l:Array Goroutine) (f:World) (r:Option (Nat×Nat)) (s:Trace) (y:Nat->Nat) (T:Array Value) (m j C o:Nat) (p:Array Value),runNT prog N (crowd gs w sl) t=(.next (crowd l f r),s)/\l.size=gs.size/\
   l[0]?=some (Gl (FQ cD T [.code (.region 2 ov false),.code gM]::xs) [])/\Leavers prog s l y/\eO aY (gs.size-1) f.heap.size s/\T.size=X.size/\(∀t,(t<3\/aau t=true)->T.getD t undef=X.getD t undef)/\
   (T.getD 3 undef=.pointer (some ⟨m,0,none⟩)/\T.getD 4 undef=.pointer (some ⟨j,0,none⟩)/\T.getD 6 undef=.slice none 0 0/\T.getD 7 undef=.bool false/\T.getD 8 undef=.pointer (some ⟨o,0,none⟩)/\T.getD 17 undef=.slice (some ⟨C,0,none⟩) Z Z)/\
   ((∀b,V b->f.heap[b]?=w.heap[b]?)/\w.heap.size<=f.heap.size/\f.ou=w.ou)/\(w.heap.size<=m/\m<j/\j<C/\C<o)/\f.heap[m]?=some (.cells #[.int .i64 key] 3)/\f.heap[j]?=some (.cells #[.slice A n c] 23)/\p.size=2*Z/\f.heap[C]?=some (.cells p 151)/\f.heap[o]?=some (.cells #[.slice (some ⟨C,0,none⟩) Z Z] 138):=by
 have W:=akf (xs:=xs) (base:=[]) (k:=[]) (S:=λ_=>False) (w0:=w) (Rr:=V)
  (St:=λ_ g f=>∃(T:Array Value) (m j C o:Nat) (p:Array Value),g=Gl (FQ cD T [.code (.region 2 ov false),.code gM]::xs) []/\T.size=X.size/\(∀t,(t<3\/aau t=true)->T.getD t undef=X.getD t undef)/\
   (T.getD 3 undef=.pointer (some ⟨m,0,none⟩)/\T.getD 4 undef=.pointer (some ⟨j,0,none⟩)/\T.getD 6 undef=.slice none 0 0/\T.getD 7 undef=.bool false/\T.getD 8 undef=.pointer (some ⟨o,0,none⟩)/\T.getD 17 undef=.slice (some ⟨C,0,none⟩) Z Z)/\
   ((∀b,V b->f.heap[b]?=w.heap[b]?)/\w.heap.size<=f.heap.size/\f.ou=w.ou)/\(w.heap.size<=m/\m<j/\j<C/\C<o)/\f.heap[m]?=some (.cells #[.int .i64 key] 3)/\f.heap[j]?=some (.cells #[.slice A n c] 23)/\p.size=2*Z/\f.heap[C]?=some (.cells p 151)/\f.heap[o]?=some (.cells #[.slice (some ⟨C,0,none⟩) Z Z] 138))
  (akm V) U rfl Y M s1 L λT S' f m j C o p B K F v R Q cp E cC O=>.stop λw1 ⟨d,e⟩=>by
   subst e;exact⟨T,m,j,C,o,p,rfl,B,K,F,⟨λb u=>v.keep b (I b u).1 (.inr u),v.size,v.os⟩,R,Q,cp,E,cC,O⟩
 have H:=bJ.inv (Gr2:=GrB aY) (Inv:=akn aY) (afP:=λ_ g f=>_) (λ_ _ _ h D=>h.rely D) (λ_ _ _ _ _ h g=>apZ (λb u=>(I b u).2) h g) (λ_ _ _ h _=>h) W ⟨λ_ h=>h.elim,x⟩;obtain⟨N,l,a,f,r,s,y,S',D,B,ha,⟨T,m,j,C,o,p,rfl,F⟩,G,z⟩:=qd (sl:=sl) aaK J P hP H;exact⟨N,l,f,r,s,y,T,m,j,C,o,p,D,B,ha,G,z,F⟩
def GrE(_ _:av)(w w':World)(es:Array Event):Prop:=es=#[]/\w.heap.size<=w'.heap.size
def afn{B0:Nat}:aw2 GrE (λK B t=>eO aY K B t/\∀op∈t,op.act.low B0) where
 own:=λ{K t S l w k f} fn c ⟨b,hz⟩ ⟨hP,hl⟩=>by
  subst b;refine⟨hP.own hz λe h=>by simp at h,λop a=> ?_⟩;rcases vQ.1 a with h|h
  .exact hl op h
  .obtain⟨e,b, -⟩:=mw h;simp at b
 mute:=λ{K B t g f} fn c i j d ⟨hP,hl⟩=>by
  refine⟨hP.mute i j d,seen_app hl λop a=> ?_⟩;obtain⟨e,b,rfl⟩:=mw a;exact low_mute (d e b) B0
def aB8(C:gs[0]?=some (Gl (FQ cD T [.code (.region 2 ov false),.code gM]::xs) []))(v:45<=T.size)(F:Leavers prog t gs q)(x:eO aY (gs.size-1) w.heap.size t) :
  ∃(N:Nat) (b:Array Goroutine) (c:World) (d:Option (Nat×Nat)) (e:Trace) (s:Nat->Nat) (T':Array Value),runNT prog N (crowd gs w sl) t=(.next (crowd b c d),e)/\b.size=gs.size/\b[0]?=some (Gl (FQ cD T' [.code gM]::xs) [])/\Leavers prog e b s/\
   eO aY (gs.size-1) c.heap.size e/\(∀op∈e,op.act.low w.heap.size)/\T'.size=T.size/\T'.getD 9 undef=.pointer (some ⟨w.heap.size,0,none⟩)/\(∀t,t≠9->T'.getD t undef=T.getD t undef)/\c.heap=w.heap.push (wgBlock eJ.tWg 0 0)/\c.ou=w.ou:=by
 obtain⟨R,Q,u⟩:=aB9;obtain⟨i,z,J,l,M⟩:=atg;have o:List.range ov.size=[0]:=rfl;have K:bJ prog true RlB GrE (λ_ g c=>g=Gl (FQ cD (T.setIfInBounds 9 (.pointer (some ⟨w.heap.size,0,none⟩))) [.code gM]::xs) []/\c.heap=w.heap.push (wgBlock eJ.tWg 0 0)/\c.ou=w.ou) (λ_=>False) (Gl (FQ cD T [.code (.region 2 ov false),.code gM]::xs) []) w:=by
  refine .step rfl λy ⟨d1,e1⟩=>⟨Gl (FQ cD T [.inRegion ov [0],.code gM]::xs) [],y,#[],λ_=>False,by simp[Gl,stepG,stepG.exec,o],⟨rfl,am _⟩, ?_⟩;refine .step rfl λj ⟨d2,e2⟩=> ?_;have f:=amx (m:=true) (fr:=FQ cD T [.inRegion ov [0],.code gM]) (xs:=xs) (base:=[]) (w:=j) rfl rfl rfl rfl u rfl (qc (w:=j) J l);rw[wS,M] at f;refine⟨_,_,#[],λ_=>False,f,⟨rfl,by rw[mp];omega⟩, ?_⟩;have k:j.heap.size=w.heap.size:=by rw[e2,e1];rfl
  have H:Frame.finish (FQ cD T [.inRegion ov [0],.code gM]) (.pointer (some ⟨j.heap.size,0,none⟩))=FQ cD (T.setIfInBounds 9 (.pointer (some ⟨w.heap.size,0,none⟩))) [.inRegion ov [],.code gM]:=by
   simp only[Frame.finish,u,qL,k]
  rw[H];refine .step rfl λB ⟨d3,e3⟩=>⟨Gl (FQ cD (T.setIfInBounds 9 (.pointer (some ⟨w.heap.size,0,none⟩))) [.code gM]::xs) [],B,#[],λ_=>False,by simp[Gl,stepG,stepG.exec],⟨rfl,am _⟩,.stop λO ⟨d4,e4⟩=>⟨rfl, ?_, ?_⟩⟩
  .rw[e4,e3,e2,e1];rfl
  .rw[e4,e3,e2,e1];rfl
 obtain⟨N,b,a,c,d,e,s,P,I,G,L,⟨rfl,E,A⟩,r,n,p⟩:=qd (sl:=sl) (afn (aY:=aY) (B0:=w.heap.size)) C F ⟨x,x.seen⟩ K;exact⟨N,b,c,d,e,s,_,I,G,L,r,n,p,by simp,by rw[aH (bd (by decide) v),du rfl],λt D=>by rw[aH (bd (by decide) v),da D],E,A⟩
end
def lq{N : Nat}{m m':Machine}{a : Trace}{r:Stepped×Trace}(h:runNT P N m t=(.next m',a))(b:runNT P Z m' a=r):runNT P (N+Z) m t=r:=by
 rw[runNT_add,h];exact b
section
variable {X:Mx} {R:av} {T:Array Value} {w:World} {xs bs:List Frame}
structure Mx.Pre (X:Mx) (T:Array Value):Prop where
 z:T.size=X.Z
 zz:45<=X.Z
 s2:T.getD 2 undef=.slice X.A2 X.n2 X.c2
 s3:T.getD 3 undef=.pointer (some ⟨X.bk,0,none⟩)
 s4:T.getD 4 undef=.pointer (some ⟨X.bp,0,none⟩)
 s8:T.getD 8 undef=.pointer (some ⟨X.ba,0,none⟩)
 s9:T.getD 9 undef=.pointer (some ⟨X.Wg,0,none⟩)
 sv:∀t,akh t=true->T.getD t undef=X.sv t
def aic(a:X.Pre T):bJ prog true (X.Rl R) (pg R) (λS g _=>(S=λ_=>False)/\∃c,X.Sl c 0/\g=Gl (FQ cD c (.code js::kB)::xs) bs) (λ_=>False) (Gl (FQ cD T [.code gM]::xs) bs) w:=by
 have H:=X.mY R;unfold gM;refine eF H.cmp (eF H.cmp (fV H.cmp (l:=[0,1,2]) rfl λq o=>ati H a.zz a.z a.s2 λc k b e d f=>aeo H.cmp (amC H.cmp λm n=>.stop λp j=>⟨rfl,c, ?_,rfl⟩))) w (H.fR _ _);refine⟨k,a.zz,(b 3 (by decide) (by decide) (by decide)).trans a.s3,(b 4 (by decide) (by decide) (by decide)).trans a.s4,(b 8 (by decide) (by decide) (by decide)).trans a.s8,(b 9 (by decide) (by decide) (by decide)).trans a.s9,e,d,f,λt i=>(b t ?_ ?_ ?_).trans (a.sv t i)⟩<;>(rintro rfl;cases i)
end
def afo(h:∀op∈t,op.act.low a.block):NoRelease a t:=λi d=>by
 unfold Trace.act? at d;obtain⟨op,e,b⟩:=lc.1 d;have c:=h op (qH e);rw[b] at c;exact Nat.lt_irrefl _ c
section
variable {X:Mx} {R:av} {gs:Array Goroutine} {w:World} {sl:Option (Nat×Nat)} {t:Trace} {q:Nat->Nat} {aY:av} {T:Array Value} {xs:List Frame}
def aCa (D:X.Ok) (hF:eL Y) (L:∀a6 nm,Y a6 [] nm=(⟨#[]⟩,false)) (h0:gs[0]?=some (Gl (FQ cD T [.code gM]::xs) [])) (hs:X.Pre T)
  (hL:Leavers prog t gs q) (hP:eO aY (gs.size-1) w.heap.size t) (C:∀op∈t,op.act.low X.Wg) (fA:WgAt eJ.tWg X.Wg w 0 0) (Q:PayAt X.C (2*X.n2) w) (j:X.At R w) (u:∀b,aY b->¬R b/\b≠X.C/\b<w.heap.size) :
  ∃(N:Nat) (n:Array Goroutine) (m:World) (an:Option (Nat×Nat)) (I:Trace) (q':Nat->Nat) (T':Array Value) (R':av),runNT prog N (crowd gs w sl) t=(.next (crowd n m an),I)/\
   n[0]?=some (Gl (FQ cD T' [.code cR]::xs) [])/\Leavers prog I n q'/\eO (λb=>b=X.Wg\/aY b) (n.size-1) m.heap.size I/\X.Sl T' X.n2/\X.At R' m/\PayAt X.C (2*X.n2) m/\
   (∀f nm,X.dF[f]?=some nm->Has X.C (2*f) (.string (Y X.key X.l nm).1) m/\Has X.C (2*f+1) (.bool (Y X.key X.l nm).2) m)/\(∀b,b=X.Wg\/aY b->b<m.heap.size):=by
 have iq:0<gs.size:=(dl.1 h0).1
 let val:Nat->Value:=λi=>if i % 2=0 then .string (Y X.key X.l (X.dF.getD (i / 2) 0)).1 else .bool (Y X.key X.l (X.dF.getD (i / 2) 0)).2
 have o:∀f nm,X.dF[f]?=some nm->val (2*f)=.string (Y X.key X.l nm).1/\val (2*f+1)=.bool (Y X.key X.l nm).2:=λf nm h=>by
  have e1:2*f % 2=0:=by omega
  have M:(2*f+1) % 2≠0:=by omega
  have e3:2*f / 2=f:=by omega
  have e4:(2*f+1) / 2=f:=by omega
  have e5:X.dF.getD f 0=nm:=by rw[sY,h];rfl
  exact⟨by simp only[val,e1,e3,e5,pu],by simp only[val,da M,e4,e5]⟩
 have hi:X.Inv R (λ_=>False) w:=⟨λb h=>h.elim,j,⟨_,_,fA⟩,λb _ h=>h⟩;have W:tV prog eJ.tWg X.Wg X.C X.n2 val (ac5 X xs []) X.n2 R (Gl (FQ cD T [.code gM]::xs) []) w:=
  aep (bJ.weak (λ_ _ _ h=>h) (λ_ _ _ _ _ h=>h) (λS g w h=>by
   obtain⟨⟨rfl,s,r,rfl⟩,v⟩:=h;exact⟨rfl,ac6 D hF L o X.n2 0 R s w (by omega) v.at_ v.live r⟩) (Mx.lift (aic hs) hi))
 have F:Sets X.Wg X.C aY w R (λ_=>False) (λ_ _=>False) (λ_ _=>False):=
  ⟨j.rlt,λb h=>h.elim,λ_ b h=>h.elim,λ_ b h=>h.elim,λb _ h=>h,λ_ b h=>h.elim,λ_ b h=>h.elim,λ_ _ b h=>h.elim,j.ltW,j.ltC,D.cW,j.rW,λh=>h,λ_ h=>h,j.rC,λh=>h,λ_ h=>h,λb h=>(u b h).1,λ_ _ h=>h,λ_ _ _ h=>h,λh=>(u _ h).2.1 rfl,λb h=>(u b h).2.2⟩
 have ax:=D.n2m;obtain⟨N,m',t1,V,a1,B,ad,a,q1,y,S1,rfl,Z,ao,⟨s,r,a8⟩,a4,K,a3,P, -,O⟩:=
  aid (sl:=sl) (K0:=gs.size-1) (Fin:=azb X xs []) (by omega) (λR S g w ⟨_,T,_,T2,e,_⟩=>by rw[e];rfl) (λR S g w h=>atq h) h0 (by omega) hL hP W fA Q
   (λi x hx a Z e=>afQ (S:=λb=>b=X.Wg) C hx (λb J=>pb J.symm) (by rw[Z];exact e)) (afo C) F
 have hG:bJ prog true RlB (λS S' w m es=>m=w/\es=#[]/\S'=S) (λ_ g w=>(g=Gl (FQ cD s [.code cR]::xs) []/\X.At y w)) (λ_=>False) a B:=by
  refine bJ.bind (λ_ w=>atRel_refl w) (λ_ a b c h k=>atRel_trans a b c h k) (bJ.abH (R:=RM eJ.tWg X.Wg X.C X.n2 y S1) (Stop:=λS g w=>S=(λ_=>False)/\(g=Gl (FQ cD s (.inRegion jH []::[.code cR])::xs) []/\WgLive eJ.tWg X.Wg w)/\X.At y w) (λw B ⟨d,e⟩=>e▸jI.at _ _ _ _ _) (λw m es h=>⟨h.1,h.2,rfl⟩) (λg w h=>⟨rfl,h⟩) a8) ?_;rintro S g w ⟨rfl,⟨rfl, -⟩,j⟩;exact .step rfl λE ⟨d2,M⟩=>⟨Gl (FQ cD s [.code cR]::xs) [],E,#[],λ_=>False,by simp[Gl,stepG,stepG.exec],⟨rfl,rfl,rfl⟩,.stop λw3 ⟨d3,e3⟩=>⟨rfl,by rw[e3,M];exact j.move (λ_ _=>rfl) (am _) rfl⟩⟩
 have af:=bJ.inv (Gr2:=GrB λb=>b=X.Wg\/aY b) (Inv:=λ_ w=>w.heap=B.heap) (afP:=λS g w=>(g=Gl (FQ cD s [.code cR]::xs) []/\X.At y w)/\w.heap=B.heap) (λ_ _ _ h ⟨d,e⟩=>by rw[e];exact h) (λ_ _ _ _ _ h g=>by
  obtain⟨rfl,rfl,rfl⟩:=g;exact⟨⟨am _,λe h=>by simp at h⟩,h⟩) (λ_ _ _ h k=>⟨h,k⟩) hG rfl
 have U:a1.size-1=gs.size-1+X.n2:=by omega
 obtain⟨N2,a7,a2,E,aa,t2,q2,S2,H,a0,a9,⟨⟨rfl,G⟩,p⟩,al,a5⟩:=qd (sl:=ad) (aaK (aY:=λb=>b=X.Wg\/aY b)) Z a4 (by rw[U];exact K) af;refine⟨N+N2,a7,E,aa,t2,q2,s,y, ?_,a9,al,by rw[a0];exact a5,r,G, ?_,λf nm z=> ?_,λb J=> ?_⟩
 .exact lq V H
 .obtain⟨cs,h1,h2⟩:=a3;exact⟨cs,by rw[p];exact h1,h2⟩
 .obtain⟨v0,v1⟩:=o f nm z;have gS:f<X.n2:=by rw[<-D.nn];exact(qu.1 z).1
  obtain⟨g0,g1⟩:=P f gS;rw[v0] at g0;rw[v1] at g1;have l:∀A,E.cell? A=B.cell? A:=λA=>gu (by rw[p]);exact⟨(l _).trans g0,(l _).trans g1⟩
 .rw[p];exact(O b (J.elim .inr .inl)).2.2.2
end
def JW(t:Nat):Bool:=t ==3||t ==4||t ==5||t ==9||t ==10||t ==11||t ==13||t ==15||t ==16||(decide (18<=t)&&decide (t<=28))
def atw:kD JW cR=true:=by kernel_rfl
def azg:kD JW (f139.body.getD .skip)=false:=by kernel_rfl
def azh:kD JW (f72.body.getD .skip)=false:=by kernel_rfl
def aw3 :Frame.enter prog cD X .normal=FQ cD (T0F X) [.code abD]:=by
 have a:prog.funcs[cD]?=some f72:=func72;unfold Frame.enter;rw[a];rfl
def akp{t : Array Value}(_:X.size=t.size)(h:∀i,JW i=false->X[i]?=t[i]?):results f72 X=results f72 t:=by
 have e:∀i,JW i=false->X.getD i undef=t.getD i undef:=λi c=>by rw[iS,iS,h i c]
 have a:=e 6 rfl;have b:=e 7 rfl;simp only[iS] at a b;simp[results,results72,a,b]
section
variable {gs:Array Goroutine} {w:World} {sl:Option (Nat×Nat)} {t:Trace} {q:Nat->Nat} {aY:av}
def ap0 (hF:eL Y) (ad:∀v nm,Y v [] nm=(⟨#[]⟩,false)) {R:List Frame->World->Prop} {c:Cfg} {ρ:Ren} {a O:Array Value} {m m':List Frame}
  (bw:dw ρ a O) (W:iR (ai true) ρ m m') (hc:c.l=Frame.enter (ai true) cD a .normal::m) (hw:WR ρ c.w w) (hg:GlR ρ) (hW:jY (ai true) R c)
  (h0:gs[0]?=some (Gl (Frame.enter prog cD O .normal::m') [])) (hL:Leavers prog t gs q) (hP:eO aY (gs.size-1) w.heap.size t) (Z:∀b,aY b->b<w.heap.size) (bN:∀b f,ρ.r b f->¬aY f) :
  ∃(N:Nat) (B:Array Goroutine) (D:World) (bZ:Option (Nat×Nat)) (t':Trace) (q':Nat->Nat) (Wg:Nat) (J:Cfg) (x:Ren) (l1 lR:List Frame),runNT prog N (crowd gs w sl) t=(.next (crowd B D bZ),t')/\
   B[0]?=some (Gl lR [])/\Leavers prog t' B q'/\eO (λb=>b=Wg\/aY b) (B.size-1) D.heap.size t'/\w.heap.size<=Wg/\(∀b,b=Wg\/aY b->b<D.heap.size)/\
   iD (ai true) J c/\ρ.Le x/\iR (ai true) x J.l l1/\WR x J.w D/\jY (ai true) R J/\(∀b f,x.r b f->ρ.r b f\/(w.heap.size<=f/\f≠Wg))/\Rt prog JW l1 lR/\(∀b,b<w.heap.size->¬aY b->D.heap[b]?=w.heap[b]?)/\D.ou=w.ou/\w.heap.size<=D.heap.size/\PkG ρ c.w w J.w D:=by
 obtain⟨v,A,n,cc,l,A2,n2,c2,dF,J,e,aT,bo,a1,a7⟩:=anY hF bw W hc hw hg hW;have S:45<=(T0F O).size:=by simp only[T0F,sB,tj];omega
 rw[aw3] at h0
 let V:av:=λb=>b<w.heap.size/\¬aY b
 obtain⟨N1,c0,o,bh,t1,q1,T,bk,Q,C,P,cs,ao,b3,a8,b5,a3,U,p,⟨u3,u4,u6,u7,u8,bt⟩,⟨bH,a5,bz⟩,⟨lk,lp,lC,la⟩,ck,cp,b8,cC,ca⟩:=aB7 (sl:=sl) (V:=V) h0 S e.n2m e.s0 e.s1 e.s2 hL hP Z λb d=>d;rw[<-b3] at a3;obtain⟨N2,c1,w2,bT,t2,q2,T',a9,aG,bX,bl,a6,bf,an,u9,br,L,fj⟩:=aB8 (sl:=bh) a8 (by rw[U];exact S) b5 a3;rw[<-aG] at a6;have bS:=jr cC;have oH:=jr ca;have r:∀b,b<o.heap.size->w2.heap[b]?=o.heap[b]?:=λb d=>by rw[L,qJ,da (by omega)]
 have c3:w2.heap.size=o.heap.size+1:=by rw[L,Array.size_push]
 let X:Mx:=⟨w,o.heap.size,C,n2,λb=>∃a,ρ.r a b,v,A,n,cc,l,A2,c2,dF,bk,Q,P,λt=>T'.getD t undef,T'.size,V⟩
 have I:∀b,(∃a,ρ.r a b)->V b:=λb ⟨a,hab⟩=>⟨(hw.lt hab).2,bN a b hab⟩;have ok:X.Ok:=⟨hw.kZ.2,λg bn=>⟨g,hg g bn⟩,e.k1,e.k2,e.ln,e.nc,e.cm,e.gl,e.rd,e.rg,e.al,e.al2,e.nm,e.nn,e.n2m,(by show C≠o.heap.size;omega),I⟩
 let R0:av:=λb=>V b\/b=bk\/b=Q\/b=P
 have bL:X.At R0 w2:=by
  refine⟨λb d=>(r b (bd d.1 a5)).trans (bH b d), ?_,fj.trans bz,λb d=>.inl d,⟨.inr (.inl rfl),(r bk (by omega)).trans ck⟩,⟨.inr (.inr (.inl rfl)),(r Q (by omega)).trans cp⟩,⟨.inr (.inr (.inr rfl)),(r P oH).trans ca⟩,λb d=> ?_,λd=> ?_,λd=> ?_, ?_, ?_⟩
  .show w.heap.size<=w2.heap.size;omega
  .rcases d with d|rfl|rfl|rfl
   .have:=d.1;omega
   all_goals omega
  .rcases d with d|d|d|d
   .have:C<w.heap.size:=d.1;omega
   .have:C=bk:=d;omega
   .have:C=Q:=d;omega
   .have:C=P:=d;omega
  .rcases d with d|d|d|d
   .have:o.heap.size<w.heap.size:=d.1;omega
   .have:o.heap.size=bk:=d;omega
   .have:o.heap.size=Q:=d;omega
   .have:o.heap.size=P:=d;omega
  .show C<_;omega
  .show o.heap.size<_;omega
 have s:∀t,t≠9->T'.getD t undef=T.getD t undef:=br;have b6:X.Pre T':=⟨rfl,by show 45<=T'.size;omega,(s 2 (by decide)).trans ((p 2 (.inl (by decide))).trans e.s2),(s 3 (by decide)).trans u3,(s 4 (by decide)).trans u4,(s 8 (by decide)).trans u8,u9,λt ht=>rfl⟩;obtain⟨N3,b9,w3,aa,t3,q3,G,R3,bb,aR,al,bp,F,k,⟨M,K,bO⟩,a4,bY⟩:=aCa (X:=X) (sl:=bT) ok hF ad bX b6 bl a6 bf
  (by show w2.heap[o.heap.size]?=_;rw[L,qX]) ⟨cs,(r C bS).trans cC,b8⟩ bL λb d=>by
   have lT:=Z b d;refine⟨λh=> ?_,(by show b≠C;omega),by omega⟩;rcases h with h|h|h|h
   .exact h.2 d
   all_goals omega
 have a0:w.heap.size<=w3.heap.size:=k.sz;have bQ:∀E nm,dF[E]?=some nm->M[2*E]?=some (.string (Y v l nm).1)/\M[2*E+1]?=some (.bool (Y v l nm).2):=λE nm h=>
  ⟨aif (A:=⟨C,2*E,none⟩) (z:=(0,0)) (t:=151) K (a4 E nm h).1,aif (A:=⟨C,2*E+1,none⟩) (z:=(0,0)) (t:=151) K (a4 E nm h).2⟩
 obtain⟨b4,T2,bi,b7,b1,bB,ax,H,t6,t7,t8,b0,bx⟩:=a7 w3 C P M (λb f d=>k.keep f (I f ⟨b,d⟩)) k.os a0 (by omega) (by omega) (by omega) K bO bQ k.ra.2;obtain⟨_,_,y,ys,e1,aJ⟩:=W.ne';have b2:G.size=(T0F O).size:=F.z.trans (an.trans U);have ay:∀i,i<(T0F O).size->G.getD i undef=T2.getD i undef->G[i]?=T2[i]?:=λi hi h=>by
  rw[vL (by omega),vL (by omega),h]
 refine⟨N1+(N2+N3),b9,w3,aa,t3,q3,o.heap.size,J,b4,FQ cD T2 [.code cR]::m',FQ cD G [.code cR]::m',lq ao (lq a9 bb),aR,al,bp,a5,bY,aT,bi,b7,b1,bo,λb f d=> ?_, ?_,λb d hn=>k.keep b ⟨d,hn⟩,k.os,a0,λb f d a2=>⟨(a1 b f d a2).1,λi u hu bA=>⟨(a1 b f d a2).2 i u hu bA,jo (k.keep f (I f ⟨b,d⟩))⟩⟩⟩
 .rcases bB b f d with h|rfl|rfl
  .exact .inl h
  .exact .inr ⟨by omega,by omega⟩
  .exact .inr ⟨by omega,by omega⟩
 .refine .inr ⟨FQ cD T2 [.code cR],FQ cD G [.code cR],m',rfl,rfl,by rw[aJ];simp,⟨rfl,rfl,⟨rfl,rfl⟩,rfl,⟨rfl,rfl⟩,⟨rfl,rfl⟩,b2.trans ax.symm,λi hi=> ?_, ?_⟩,_,func72,λt t' hz h=>akp hz h⟩
  .refine(pm i (T0F O).size).elim (λaI=> ?_) λoI=> ?_
   case refine_2=> 
    show G[i]?=T2[i]?;rw[qj (by omega),qj (by omega)]
   have af:i=0\/i=1\/i=2\/i=6\/i=7\/i=8\/i=17\/aau i=true:=by
    simp only[JW,wA,dk,sV,tz] at hi;simp only[aau,rc,nf,qY];omega
   refine ay i aI ?_;have j:∀t,akh t=true->G.getD t undef=T'.getD t undef:=F.sv;rcases af with rfl|rfl|rfl|rfl|rfl|rfl|rfl|hid
   .rw[j 0 rfl,s 0 (by decide),p 0 (.inl (by decide)),H 0 (by decide)]
   .rw[j 1 rfl,s 1 (by decide),p 1 (.inl (by decide)),H 1 (by decide)]
   .rw[j 2 rfl,s 2 (by decide),p 2 (.inl (by decide)),H 2 (by decide)]
   .rw[j 6 rfl,s 6 (by decide),u6,t6]
   .rw[j 7 rfl,s 7 (by decide),u7,t7]
   .rw[F.s8,t8]
   .rw[j 17 rfl,s 17 (by decide),bt,b0]
   .have ba:akh i=true:=by simp only[akh,hid,Bool.or_true]
    rw[j i ba,s i (by rintro rfl;cases hid),p i (.inr hid),bx i hid]
  .simp only[qE,vP,uC,mn];exact atw
end
structure amD (R:List Frame->World->Prop) (W:World) (S0:av) (aY:av) (ρ:Ren) (c:Cfg) (w:World):Prop where
 lax:ρ.lax=false
 wr:WR ρ c.w w
 gl:GlR ρ
 will:jY (ai true) R c
 rng:∀b b',ρ.r b b'->S0 b'\/(W.heap.size<=b'/\¬aY b')
 sh:∀b,aY b->W.heap.size<=b/\b<w.heap.size
 s0:∀b,S0 b->b<W.heap.size
 keep:∀b,b<W.heap.size->¬S0 b->w.heap[b]?=W.heap[b]?
 os:w.ou=W.ou
 sz:W.heap.size<=w.heap.size
structure akt (W:World) (S0 aY S:av) (w:World):Prop where
 s:∀b,S b->S0 b\/(W.heap.size<=b/\¬aY b)
 sh:∀b,aY b->b<w.heap.size
 keep:∀b,b<W.heap.size->¬S0 b->w.heap[b]?=W.heap[b]?
 os:w.ou=W.ou
 sz:W.heap.size<=w.heap.size
section
variable {W:World} {S0 aY S S':av} {w w':World} {es:Array Event}
def akt.rely(h:akt W S0 aY S w)(a:RlB S w w'):akt W S0 aY S w':=by
 obtain⟨d,rfl⟩:=a;exact⟨h.s,h.sh,h.keep,h.os,h.sz⟩
def akt.step(f:∀b,S0 b->b<W.heap.size)(i:∀b,aY b->W.heap.size<=b)(h:akt W S0 aY S w)(g:pg (λ_=>False) S S' w w' es):GrB aY S S' w w' es/\akt W S0 aY S' w':=by
 have k:akn aY S w:=⟨λb a c=>(h.s b a).elim (λx=>by have:=f b x;have:=i b c;omega) λx=>x.2 c,h.sh⟩;obtain⟨m,e⟩:=apZ (λ_ h=>h.elim) k g;obtain⟨j,l,n,rfl,o⟩:=g;refine⟨m,λb a=> ?_,e.2,λb a d=> ?_,n.trans h.os,ap h.sz l⟩
 .rcases a with a|a
  .exact h.s b a
  .exact .inr ⟨ap h.sz a.1,λc=>by have:=h.sh b c;omega⟩
 .rw[j b (bd a h.sz) λc=> ?_]
  .exact h.keep b a d
  .rcases h.s b c with x|x
   .exact d x
   .omega
end
theorem ap2{fv:Int->List iP->Int->ByteArray×Bool}(hF:eL fv)(hF0:∀key nm,fv key [] nm=(⟨#[]⟩,false)){R:List Frame->World->Prop}{W:World}{S0:av}{c:Cfg}(aku:Acc (iD (ai true)) c) :
  ∀{ρ:Ren} {aY:av} {l' lR:List Frame} {w:World} {gs:Array Goroutine} {sl:Option (Nat×Nat)} {t:Trace} {q:Nat->Nat},amD R W S0 aY ρ c w->iR (ai true) ρ c.l l'->Rt prog JW l' lR->gs[0]?=some (Gl lR [])->Leavers prog t gs q->eO aY (gs.size-1) w.heap.size t->
   ∃(N:Nat) (gs':Array Goroutine) (w':World) (sl':Option (Nat×Nat)) (t':Trace) (q':Nat->Nat) (azl:av) (c1:Cfg) (ρ1:Ren) (l1:List Frame),runNT prog N (crowd gs w sl) t=(.next (crowd gs' w' sl'),t')/\
    gs'[0]?=some (Gl l1 [])/\Leavers prog t' gs' q'/\eO azl (gs'.size-1) w'.heap.size t'/\amD R W S0 azl ρ1 c1 w'/\pj c1.l/\iR (ai true) ρ1 c1.l l1/\ρ.Le ρ1/\PkG ρ c.w w c1.w w':=by
 induction aku with
 |intro c _ ih=>
  intro ρ aY l' lR w gs sl t q h hst hR h0 hL hP;have aku:Acc (iD (ai true)) c:=h.will.acc.transGen;have Hb:=akm (λ_=>False);have aw6:aii (ai true) R (λ_=>False) (λb=>S0 b\/(W.heap.size<=b/\¬aY b)) ρ c l' w:=⟨hst,h.wr,h.gl,h.will,λb b' hb=>.inl (h.rng b b' hb)⟩;have ap3:=aij (mo true) (avO true) Hb.fR Hb.tr Hb.rl Hb.cmp.gr (avP azg azh) (afR Hb.cmp) (main:=true) (base:=[]) aku aw6 hR;have hG:=bJ.inv (Gr2:=GrB aY) (Inv:=akt W S0 aY) (λ_ _ _ a b=>a.rely b) (λ_ _ _ _ _ a b=>a.step h.s0 (λb hb=>(h.sh b hb).1) b) (λ_ _ _ a b=>And.intro a b) ap3 ⟨λb hb=>hb,λb hb=>(h.sh b hb).2,h.keep,h.os,h.sz⟩;obtain⟨N,gs1,a1,w1,sl1,t1,q1,S1,hr1,hz1,ha1,⟨⟨c1,ρ1,l1,hor,hle, -,rfl,cZ,hg1,hW1,po,atx,hend⟩,ml⟩,hL1,hP1⟩:=qd (sl:=sl) aaK h0 hL hP hG;rw[<-hz1] at hP1;have agI:∀b b',ρ1.r b b'->S0 b'\/(W.heap.size<=b'/\¬aY b'):=λb b' hb=>(po b b' hb).elim (ml.s b') λx=>x.1.elim;have azm:ρ1.lax=false:=hle.lax.symm.trans h.lax;rcases hend with⟨hf,anZ⟩|⟨a,a',m,m',hva,aCj,hc1,hl1⟩
  .exact⟨N,gs1,w1,sl1,t1,q1,aY,c1,ρ1,l1,hr1,ha1,hL1,hP1,⟨azm,cZ,hg1,hW1,agI,λb hb=>⟨(h.sh b hb).1,ml.sh b hb⟩,h.s0,ml.keep,ml.os,ml.sz⟩,hf,anZ,hle,atx⟩
  .rw[hl1] at ha1;have hns:∀b b',ρ1.r b b'->¬aY b':=λb b' hb hs=>(agI b b' hb).elim (λx=>by have:=h.s0 _ x;have:=(h.sh _ hs).1;omega) λx=>x.2 hs;obtain⟨N2,gs2,w2,sl2,t2,q2,Wg,c2,ρ2,l2,lR2,hr2,ha2,hL2,hP2,hWg,aCk,avQ,aty,aik,hw2,hW2,azn,hR2,hk2,fj,hz2,ap4⟩:=ap0 (sl:=sl1) hF hF0 hva aCj hc1 cZ hg1 hW1 ha1 hL1 hP1 ml.sh hns;have ap1:iD (ai true) c2 c:=by
    rcases hor with e|e
    .rw[<-e];exact avQ
    .exact tC avQ e
   have hS2:amD R W S0 (λb=>b=Wg\/aY b) ρ2 c2 w2:=by
    refine⟨aty.lax.symm.trans azm,hw2,hg1.mono aty,hW2,λb b' hb=> ?_,λb hb=>⟨?_,aCk b hb⟩,h.s0,λb hb hn=> ?_,fj.trans ml.os,ap ml.sz hz2⟩
    .rcases azn b b' hb with hb|⟨h1,h2⟩
     .rcases agI b b' hb with x|⟨x,y⟩
      .exact .inl x
      .refine .inr ⟨x,λe=>e.elim (λe=> ?_) y⟩;have:=(cZ.lt hb).2;omega
     .exact .inr ⟨ap ml.sz h1,λe=>e.elim h2 λhs=>by have:=ml.sh _ hs;omega⟩
    .rcases hb with rfl|hb
     .exact ap ml.sz hWg
     .exact(h.sh b hb).1
    .rw[hk2 b (bd hb ml.sz) λhs=>by have:=(h.sh b hs).1;omega];exact ml.keep b hb hn
   obtain⟨N3,gs3,w3,sl3,t3,q3,aCl,c3,ρ3,l3,hr3,ha3,hL3,hP3,hS3,hf3,aks,aCm,aCn⟩:=ih c2 ap1 hS2 aik hR2 ha2 hL2 hP2;exact⟨N+(N2+N3),gs3,w3,sl3,t3,q3,aCl,c3,ρ3,l3,lq hr1 (lq hr2 hr3),ha3,hL3,hP3,hS3,hf3,aks,(hle.trans aty).trans aCm,atx.trans hle (ap4.trans aty aCn)⟩
end
section
open Go.Conc Go.ConcN Go.RowKit
open Go.ConcR (DC0)
mutual
inductive nB (V:Nat->Prop):Value->Prop
 |bool (b:Bool):nB V (.bool b)
 |int (k:IntKind) (n:Int):nB V (.int k n)
 |string (s:ByteArray):nB V (.string s)
 |nilPtr:nB V (.pointer none)
 |pointer {a:Addr} (h:V a.block):nB V (.pointer (some a))
 |pq (l c:Nat):nB V (.slice none l c)
 |slice {a:Addr} (h:V a.block) (l c:Nat):nB V (.slice (some a) l c)
 |nilFunc:nB V .nilFunc
 |iface (t:TypeId) {v:Value} (h:nB V v):nB V (.iface t v)
 |nilIface:nB V .nilIface
 |agg {c:Array Value} (h:mZ V c.toList):nB V (.agg c)
inductive mZ (V:Nat->Prop):List Value->Prop
 |nil:mZ V []
 |cons {v:Value} {l:List Value} (h:nB V v) (hl:mZ V l):mZ V (v::l)
end
mutual
def nB.mono{V U:Nat->Prop}(h:∀b,V b->U b):∀{v:Value},nB V v->nB U v
 |_,.bool b=>.bool b
 |_,.int k n=>.int k n
 |_,.string s=>.string s
 |_,.nilPtr=>.nilPtr
 |_,.pointer h'=>.pointer (h _ h')
 |_,.pq l c=>.pq l c
 |_,.slice h' l c=>.slice (h _ h') l c
 |_,.nilFunc=>.nilFunc
 |_,.iface t h'=>.iface t (nB.mono h h')
 |_,.nilIface=>.nilIface
 |_,.agg h'=>.agg (mZ.mono h h')
def mZ.mono{V U:Nat->Prop}(h:∀b,V b->U b):∀{l:List Value},mZ V l->mZ U l
 |_,.nil=>.nil
 |_,.cons h1 h2=>.cons (nB.mono h h1) (mZ.mono h h2)
end
section
variable {V:Nat->Prop} {ρ:Ren} (hV:∀b,V b->ρ.r b b)
include hV
theorem amE(h:V a.block):AR ρ a a:=by
 obtain⟨b,o,s⟩:=a;exact .mk (hV _ h) o s
theorem avR{b : Addr}(h:V a.block)(k:AR ρ a b):b=a:=by
 cases k with
 |mk c o s=>rw[ρ.fn c (hV _ h)]
mutual
theorem nB.self:∀{v:Value},nB V v->VR ρ v v
 |_,.bool b=>.bool b
 |_,.int k n=>.int k n
 |_,.string s=>.string s
 |_,.nilPtr=>.pointer .none
 |_,.pointer h=>.pointer (.some (amE hV h))
 |_,.pq l c=>.slice .none l c
 |_,.slice h l c=>.slice (.some (amE hV h)) l c
 |_,.nilFunc=>.nilFunc
 |_,.iface t h=>.iface t (nB.self h)
 |_,.nilIface=>.nilIface
 |_,.agg h=>.agg (mZ.self h)
theorem mZ.self:∀{l:List Value},mZ V l->bR ρ l l
 |_,.nil=>.nil
 |_,.cons h1 h2=>.cons (nB.self h1) (mZ.self h2)
end
mutual
def nB.fn:∀{v d:Value},nB V v->VR ρ v d->d=v
 |_,_,.bool b,k=>by cases k;rfl
 |_,_,.int _ n,k=>by cases k;rfl
 |_,_,.string s,k=>by cases k;rfl
 |_,_,.nilPtr,k=>by
  cases k with
  |pointer h=>cases h;rfl
 |_,_,.pointer h,k=>by
  cases k with
  |pointer a=>cases a with
   |some a=>rw[avR hV h a]
 |_,_,.pq l c,k=>by
  cases k with
  |slice h=>cases h;rfl
 |_,_,.slice h l c,k=>by
  cases k with
  |slice a=>cases a with
   |some a=>rw[avR hV h a]
 |_,_,.nilFunc,k=>by cases k;rfl
 |_,_,.iface t h,k=>by
  cases k with
  |iface _ a=>rw[nB.fn h a]
 |_,_,.nilIface,k=>by cases k;rfl
 |_,_,.agg (c:=c) h,k=>by
  cases k with
  |@agg _ f a=>
   have e:=mZ.fn h a;rw[uI.1 e]
def mZ.fn:∀{l a:List Value},mZ V l->bR ρ l a->a=l
 |_,_,.nil,k=>by cases k;rfl
 |_,_,.cons h1 h2,k=>by
  cases k with
  |cons b c=>rw[nB.fn h1 b,mZ.fn h2 c]
end
end
def eO.past{B : Nat}(h:eO aY Z B t):Past (ShL aY) B t:=by
 refine⟨h.clean,λi a j _=> ?_,h.over,h.hears,h.seen⟩;obtain⟨op,c,b⟩:=touch_of j;by_cases d:ShL aY a.loc
 .obtain⟨k,f⟩:=h.quiet i op a c b d;cases e:a.kind with
  |plain=>exact absurd e k
  |atomic=>exact .inr ⟨d,rfl⟩
  |said=>
   have g:=f e;have:=knows_own (t:=t) c;rw[g] at this;exact .inl this
 .exact .inl (h.known i op a c b d)
def agJ(W:World)(v:Value)(w':World):Prop:=v=.bool true/\Below W.heap.size W {w' with tape:=W.tape}
structure agK (W:World) (S0:av) (P:Nat->Nat->Prop) (WL:World):Prop where
 size:WL.heap.size=W.heap.size
 out:∀b,¬S0 b->WL.heap[b]?=W.heap[b]?
 row:∀b,S0 b->∃(c c':Array Value) (t:TypeId) (z:Nat×Nat),W.heap[b]?=some (.cells c t z)/\WL.heap[b]?=some (.cells c' t z)/\c'.size=c.size/\∀i v,P b i->c[i]?=some v->c'[i]?=some v
theorem aCo{W:World}{S0:av}{P:Nat->Nat->Prop}(hrow:∀b,S0 b->eG W b)(hP:∀b i v,S0 b->P b i->W.cell? ⟨b,i,none⟩=some v->nB S0 v)(hN:gN<=W.heap.size) :
  ∃WL,agK W S0 P WL/\WL.ou=W.ou/\WR (Ren.rows S0 false (fc W)) WL W/\∀b i u v,S0 b->WL.cell? ⟨b,i,none⟩=some u->W.cell? ⟨b,i,none⟩=some v->(u=v/\nB S0 v)\/ad1 u\/∀(σ:Ren) v',σ.al=ail (fc W)->VR σ u v'->v'=v:=by
 classical
 have hid:∀b,S0 b->(Ren.rows S0 false (fc W)).r b b:=λb hb=>⟨rfl,hb⟩;have row:∀b,S0 b->∃(c:Array Value) (t:TypeId) (z:Nat×Nat) (xs:List Value),W.heap[b]?=some (.cells c t z)/\bR (Ren.rows S0 false (fc W)) xs c.toList/\
   ∀(i:Nat) v,c.toList[i]?=some v->∃u,xs[i]?=some u/\((P b i->u=v)/\((u=v/\nB S0 v)\/ad1 u\/∀(σ:Ren) v',σ.al=ail (fc W)->VR σ u v'->v'=v)):=λb hb=>by
  obtain⟨c,t,z,hc⟩:=hrow b hb;obtain⟨xs,h1,h2⟩:=akv (ρ:=Ren.rows S0 false (fc W)) (Q:=λi u v=>(P b i->u=v)/\((u=v/\nB S0 v)\/ad1 u\/∀(σ:Ren) v',σ.al=ail (fc W)->VR σ u v'->v'=v)) c.toList 0 λi v hi=>by
   rw[lP];have hi':c[i]?=some v:=by rw[<-ef];exact hi
   by_cases hp:P b i
   .have iY:=hP b i v hb hp (by unfold World.cell?;rw[hc];exact hi');exact⟨v,nB.self hid iY,λ_=>rfl,.inl ⟨rfl,iY⟩⟩
   .obtain⟨u,h1, -,h3⟩:=aw7 (ρ:=Ren.rows S0 false (fc W)) rfl v λx hx=>aim (afS hc hi' hx);exact⟨u,h1,λh=>absurd h hp,.inr h3⟩
  exact⟨c,t,z,xs,hc,h1,λi v hi=>by
   have:=h2 i v hi;simpa only[lP] using this⟩
 let F:∀b,S0 b->Obj:=λb hb=>.cells ⟨(row b hb).choose_spec.choose_spec.choose_spec.choose⟩ (row b hb).choose_spec.choose (row b hb).choose_spec.choose_spec.choose
 have hF:∀b (hb:S0 b),∃(c:Array Value) (t:TypeId) (z:Nat×Nat) (xs:List Value),W.heap[b]?=some (.cells c t z)/\bR (Ren.rows S0 false (fc W)) xs c.toList/\(∀(i:Nat) v,c.toList[i]?=some v->∃u,xs[i]?=some u/\((P b i->u=v)/\((u=v/\nB S0 v)\/ad1 u\/∀(σ:Ren) v',σ.al=ail (fc W)->VR σ u v'->v'=v)))/\F b hb=.cells ⟨xs⟩ t z:=λb hb=>
  let h:=(row b hb).choose_spec.choose_spec.choose_spec.choose_spec
  ⟨_,_,_,_,h.1,h.2.1,h.2.2,rfl⟩
 obtain⟨heap,hs,h1,h2⟩:=avS W F;have aaM:∀b,S0 b->∃(c:Array Value) (t:TypeId) (z:Nat×Nat) (xs:List Value),W.heap[b]?=some (.cells c t z)/\heap[b]?=some (.cells ⟨xs⟩ t z)/\bR (Ren.rows S0 false (fc W)) xs c.toList/\(∀(i:Nat) v,c.toList[i]?=some v->∃u,xs[i]?=some u/\((P b i->u=v)/\((u=v/\nB S0 v)\/ad1 u\/∀(σ:Ren) v',σ.al=ail (fc W)->VR σ u v'->v'=v))):=λb hb=>by
  obtain⟨c,t,z,xs,k1,k2,k3,k4⟩:=hF b hb;exact⟨c,t,z,xs,k1,(h1 b hb (dl.1 k1).1).trans (jp some k4),k2,k3⟩
 refine⟨{W with heap},⟨hs,h2,λb hb=> ?_⟩,rfl,⟨λ{b b'} hb=> ?_,rfl,by show gN<=heap.size;omega,hN⟩,λb i u v hb hu hv=> ?_⟩
 .obtain⟨c,t,z,xs,k1,k2,k3,k4⟩:=aaM b hb;refine⟨c,⟨xs⟩,t,z,k1,k2,by have:=k3.length;simpa using this,λi v hp hv=> ?_⟩;obtain⟨u,q1,q2, -⟩:=k4 i v (by rw[ef];exact hv);have q1':(⟨xs⟩:Array Value)[i]?=some u:=by simpa using q1
  rw[q1',q2 hp]
 .obtain⟨rfl,hb⟩:=hb;obtain⟨c,t,z,xs,k1,k2,k3, -⟩:=aaM b hb;exact⟨_,_,k2,k1,.cells k3 t (.inl rfl)⟩
 .obtain⟨c,t,z,xs,k1,k2,k3,k4⟩:=aaM b hb;have hu':(⟨xs⟩:Array Value)[i]?=some u:=by
   have:({W with heap}:World).heap[b]?=some (.cells ⟨xs⟩ t z):=k2;unfold World.cell? at hu;rw[this] at hu;exact hu
  have hv':c[i]?=some v:=by
   unfold World.cell? at hv;rw[k1] at hv;exact hv
  obtain⟨u',q1, -,q2⟩:=k4 i v (by rw[ef];exact hv');have:u'=u:=by
   have q1':(⟨xs⟩:Array Value)[i]?=some u':=by simpa using q1
   rw[q1'] at hu';exact dq hu'
  subst this;exact q2
theorem ap5 {fv:Int->List iP->Int->ByteArray×Bool} (hF:eL fv) (hF0:∀key nm,fv key [] nm=(⟨#[]⟩,false)) {W:World} {S0:av} {P:Nat->Nat->Prop} {f:FuncId} {fn:Func} {k:Tmp} {args:Array Value}
  (hrow:∀b,S0 b->eG W b) (hP:∀b i v,S0 b->P b i->W.cell? ⟨b,i,none⟩=some v->nB S0 v) (hgl:∀g∈gL,S0 g) (hgN:gN<=W.heap.size) (aay:mZ S0 args.toList)
  (hf:gH f=false) (hfn:prog.funcs[f]?=some fn) (hq:(ai true).funcs[f]?=some fn) (hres:fn.results=#[.tmp k]) (hni:prog.inits.idxOf? f=none)
  (eP:∀WL:World,agK W S0 P WL->∀t:Tape,Calls (ai true) f args (WL.dR t) λe w'=>∃v,e=.returned v/\(v=.bool true/\∀b,b<W.heap.size->w'.heap[b]?=WL.heap[b]?)) :
  ∃N last o w' t',runNT prog (N+1) (solo (G (Frame.enter prog f args .normal) []) W) #[]=(.ended o w',t')/\runN prog N (solo (G (Frame.enter prog f args .normal) []) W)=.next last/\step prog last=.ended o w'/\Go.Conc.Good prog (agJ W) last o w' t':=by
 obtain⟨WL,avT,hou,hwr,aCp⟩:=aCo hrow hP hgN;have hid:∀b,S0 b->(Ren.rows S0 false (fc W)).r b b:=λb hb=>⟨rfl,hb⟩;have hs0:∀b,S0 b->b<W.heap.size:=λb hb=>let⟨_,_,_,h⟩:=hrow b hb;jr h
 have hW:jY (ai true) (λl w'=>∃fr v,l=[fr]/\fr.fn=f/\fr.leaving (ai true) w' (.returned v)/\(v=.bool true/\∀b,b<W.heap.size->w'.heap[b]?=WL.heap[b]?)) ⟨[Frame.enter (ai true) f args .normal],WL,λ_ _=>0⟩:=
  aaz (Post:=λv w'=>v=.bool true/\∀b,b<W.heap.size->w'.heap[b]?=WL.heap[b]?) λt _=>eP WL avT t
 have hst:iR (ai true) (Ren.rows S0 false (fc W)) [Frame.enter (ai true) f args .normal] [Frame.enter prog f args .normal]:=.one (agL (mo true) hf (mZ.self hid aay)) ac7;have hS:amD _ W S0 (λ_=>False) (Ren.rows S0 false (fc W)) ⟨[Frame.enter (ai true) f args .normal],WL,λ_ _=>0⟩ W:=⟨rfl,hwr,λg hg=>hid g (hgl g hg),hW,λb b' hb=>.inl (hb.1▸hb.2),λ_ h=>h.elim,hs0,λ_ _ _=>rfl,rfl,am _⟩;obtain⟨N1,gs1,w1,sl1,t1,q1,aY,c1,ρ1,l1,hr1,ha1,hL1,hP1,hS1,hf1,anZ,aer,atx⟩:=ap2 hF hF0 hW.acc.transGen (gs:=#[G (Frame.enter prog f args .normal) []]) (sl:=none) (t:=#[]) (q:=λ_=>0) hS hst (.inl rfl) rfl (leavers_one _ _) (eO.nil _);obtain⟨fr,v,hl,mE,hlv,hv,hb⟩:=hS1.will.fin hf1 acy c1.t λ_ _ _=>rfl;obtain⟨x,xs,y,ys, -,hy⟩:=anZ.ne';have e4:=anZ.lone hl hy;subst e4 hy;rw[hl] at anZ;have azo:=anZ.head;obtain⟨-, -, -,fn1,atz,hrv⟩:=hlv;rw[mE,hq] at atz;cases atz;have hv1:v=fr.tmps.getD k undef:=by
  have e:(results fn fr.tmps).run (ai true) (c1.w.dR c1.t)=.ok (fr.tmps.getD k undef) (c1.w.dR c1.t):=by simp[results,hres]
  rw[e] at hrv;cases hrv;rfl
 have hy1:y.tmps.getD k undef=.bool true:=by
  rw[hv] at hv1;have hk:fr.tmps[k]?=some (.bool true):=by
   rw[iS] at hv1;cases h:fr.tmps[k]? with
   |none=>rw[h] at hv1;cases hv1
   |some u=>rw[h] at hv1;exact jp some hv1.symm
  obtain⟨u,hu,hr⟩:=bR.get azo.tmps (i:=k) (v:=.bool true) (by rw[ef];exact hk);rw[ef] at hu;rw[amF hu];cases hr;rfl
 have azp:∀w1:World,stepG prog true (Gl [y] []) w1=.ended (.done (.bool true)) w1 (seen prog y.fn #[]):=λw1=>by
  have hr:(results fn y.tmps).runT prog w1 #[]=(.ok (.bool true) w1,#[]):=by
   have e:(results fn y.tmps).runT prog w1 #[]=(.ok (y.tmps.getD k undef) w1,#[]):=by simp[results,hres]
   rw[e,hy1]
  obtain⟨g0,hg0,gm,gd,gk⟩:=hf1;rw[hl] at hg0;cases hg0;obtain⟨f',tm',fN,d',md',kd',r'⟩:=y;obtain⟨f0,tm0,aDX,d0,md0,kd0,r0⟩:=fr;obtain⟨h1,h2,h3,h4,h5,h6,h7⟩:=azo;dsimp only at h1 h2 h3 h4 h5 h6 h7 gm gd gk mE hr;subst h1 gm gd gk mE;obtain rfl:md'=.returning:=by
   rcases h5 with h5|h5
   .cases h5.1
   .exact h5.2
  obtain⟨-,rfl⟩:=h6;obtain rfl:d'=[]:=by cases h4;rfl
  have e:doReturn prog true ⟨f0,tm',fN,[],.returning,.normal,r'⟩ [] none (.bool true) w1=.ended (.done (.bool true)) w1:=by
   unfold doReturn;dsimp only;rw[hni];rfl
  simp only[Gl,stepG,unwind,hfn,hr,qV,e];simp[GStep.after]
 have hblk:∀b,b<W.heap.size->w1.heap[b]?=W.heap[b]?:=λb hbl=>by
  by_cases h0:S0 b
  .have hr0:=hid b h0;have hr:=aer.r hr0;obtain⟨c,c',t,z,hW1,hWL,hsz, -⟩:=avT.row b h0;obtain⟨o,o',k1,k2,k3⟩:=hS1.wr.obj hr;have e:c1.w.heap[b]?=WL.heap[b]?:=hb b hbl;rw[e,hWL] at k1;cases k1;cases k3 with
   |@cells _ c'' k4 _ _ z' hz=>
    have hz':z=z':=by
     rcases hz with e|⟨e,_⟩
     .exact e
     .rw[hS1.lax] at e;cases e
    have hlen:c''.size=c'.size:=by have:=k4.length;simpa using this.symm
    have hc:c''=c:=by
     apply sQ;intro i;rcases pm i c.size with hi|hi
     .have hu:c'[i]?=some c'[i]:=ge (by omega);have hv:c[i]?=some c[i]:=ge hi;have hv2:c''[i]?=some c''[i]:=ge (by omega);have hrel:=dw.at k4 hu hv2;have cell:∀{w:World} {a:Array Value},w.heap[b]?=some (.cells a t z)->w.cell? ⟨b,i,none⟩=a[i]?:=λh=>by unfold World.cell?;rw[h];rfl
      rcases aCp b i _ _ h0 ((cell hWL).trans hu) ((cell hW1).trans hv) with⟨e1,e2⟩|h1|h1
      .rw[e1] at hrel;rw[hv2,hv,nB.fn (V:=S0) (λb hb=>aer.r (hid b hb)) e2 hrel]
      .have hp:=(atx b b hr0 ⟨c',t,z,hWL⟩).2 i _ h1 ((cell (e.trans hWL)).trans hu);have h2:=hp.2;rw[cell hW1] at h2;subst hz';rw[cell k2] at h2;exact h2
      .rw[hv2,hv,h1 ρ1 _ aer.al.symm hrel]
     .rw[qj (by omega),qj (by omega)]
    rw[k2,hW1,hc,hz']
  .exact hS1.keep b hbl h0
 have hend:∀w2,Go.Conc.AtRel w1 w2->AtEnd prog (ShL aY) w1.heap.size (agJ W) (Gl [y] []) w2:=λw2 ⟨d,e⟩=>by
  subst e;exact⟨rfl,_,_,azp _,λe he=>(abJ e he).elim,rfl,ayV hS1.os,rfl,awP hS1.os,hS1.sz,hblk⟩
 obtain⟨N2,last,o,w2,t2,hr2,hn2,hs2,hg2⟩:=beside_ends (D:=DC0) (Shun:=ShL aY) (B:=w1.heap.size) (Post:=agJ W) (sl:=sl1) (n:=0) (λw w' es h e he=>by rw[h.2] at he;simp at he) ha1 hL1 hP1.past (qG hend);refine⟨N1+N2,last,o,w2,t2, ?_, ?_,hs2,hg2⟩
 .rw[vx,runNT_add,show runNT prog N1 (solo (G (Frame.enter prog f args .normal) []) W) #[]=_ from hr1];exact hr2
 .have hn1:runN prog N1 (solo (G (Frame.enter prog f args .normal) []) W)=.next (crowd gs1 w1 sl1):=by
   rw[<-runNT_fst _ _ _ #[],show runNT prog N1 (solo (G (Frame.enter prog f args .normal) []) W) #[]=_ from hr1]
  rw[runN_add,hn1];exact hn2
end
section
open Go Go.Conc Go.RowKit Go.ChangeShapes Go.WideShapes Go.ChangeAt
def an0:decide (prog.globals.size<(begin prog (λ_ _=>0) default).world.heap.size)=true:=by kernel_rfl
def azq(h:W.ShapedOpen prog):gN<=W.heap.size:=by
 have b:=sZ an0;obtain⟨o,c,a, -⟩:=h.2 _ (am _) b;have:=(dl.1 a).1;unfold gN;omega
def avU(k:FuncId)(W:World)(args:Array Value):Prop:=
 ∃(a:av) (P:Nat->Nat->Prop),(∀b,a b->eG W b)/\(∀b i v,a b->P b i->W.cell? ⟨b,i,none⟩=some v->nB a v)/\(∀g∈gL,a g)/\mZ a args.toList/\
  ∀c:World,agK W a P c->∀t:Tape,Calls (ai true) k args (c.dR t) λe d=>∃v,e=.returned v/\(v=.bool true/\∀b,b<W.heap.size->d.heap[b]?=c.heap[b]?)
def wW (hF:eL Y) (D:∀S nm,Y S [] nm=(⟨#[]⟩,false)) {os:Os} {k:FuncId} {f:Func} {kt:Tmp} {s:ChangeSpec} {b:Bool} {Z:TypeId} {H:Type} {enc:TypeId×Value->H} {X:World->Array Value->Prop}
  (hX:∀(w w':World) (args:Array Value),w.heap=w'.heap->X w args->X w' args)
  (E:ownKnob prog.godebug=none) (c:os.Started) (K:prog.inits.idxOf? k=none) (z:prog.funcs[k]?=some f) (hq:(ai true).funcs[k]?=some f) (G:gH k=false) (O:f.results=#[.tmp kt])
  (hl:laidOutB prog=true) (hr:(f.params.toList.all λt=>prog.readableRec t&&decide (t<prog.types.size))=true) (r:f.resultTypes=#[Z]) (J:prog.underlying Z=some .bool) (Q:varsRowed prog s.vars=true)
  (I:∀l n:List (DataW H),l.length=f.params.toList.length->n.length=s.vars.length->s.fn H (l++n)={results:=[.lit (.bool true)],args:=l,vars:=n})
  (d:∃(w:World) (a:Tape) (i:Input),w.os=os/\(w.forCall a i).Shaped prog/\i.vars=[]/\Input.okWide prog (w.forCall a i) .any w.heap.size k i/\
   ((s.pre enc prog f [] b (w.forCall a i).memory i.args/\X (w.forCall a i).memory i.args)/\sizedMet enc prog f (OpenSpec.ofChange s) b (w.forCall a i).memory i.args)/\Assume.holds {} prog (lone (Frame.enter prog k i.args .normal) [] (w.forCall a i)))
  (y:∀(W:World) (base:Nat) (args:Array Value) (l:List (DataW H)) (p:List MemPlace),
   (∀(j:Nat) t v,f.params[j]?=some t->args[j]?=some v->Value.okWide prog W .any base t v)->
   DataW.TrodAll enc prog W 0 (λ_=>true) true f.params.toList args.toList l p->(∀x∈p,x.block<W.heap.size)->X W args->avU k W args) :
  ReturnsInLeavingWide {} Tryz.checked os k .any (λw args=>(s.pre enc prog f [] b w args/\X w args)/\sizedMet enc prog f (OpenSpec.ofChange s) b w args) (s.post enc prog f b true false false):=by
 refine returnsInLeavingWide_of_good E c d ?_;intro w a i _ qf _ lU R _;obtain⟨_,_,_,dy,U,_,_,_,_,u⟩:=lU;have e:dy=f:=dq (U.symm.trans z);subst e;obtain⟨⟨⟨l,n,g,hw,hc⟩,F⟩,hz⟩:=R;have m:=DataW.Whole.of_heap (w':=w.forCall a i) (by rfl) hw;have A:X (w.forCall a i) i.args:=hX _ _ _ (by rfl) F;have L:∀p∈g,p.block<(w.forCall a i).heap.size:=λp T=>by simpa using m.lt p T
 have B:∀t∈dy.params.toList,prog.readableRec t=true/\t<prog.types.size:=λt ht=>by
  have:=lw.1 hr t ht;simpa using this
 obtain⟨p,q,V,hV,M,a1,a0⟩:=id m;obtain⟨S0,P,h1,h2,h3,h4,h5⟩:=y (w.forCall a i) w.heap.size i.args l p u V (λx F=>L x (by rw[M];simp[F])) A;obtain⟨N,last,o,w',t',g1,g2,g3,g4⟩:=ap5 hF D h1 h2 h3 (azq qf) h4 G z hq O K h5;refine⟨N,last,o,w',t',g1,g2,g3,g4.mono λv hv=> ?_⟩;obtain⟨rfl,C⟩:=hv;have T:=an1 hl B r J Q (I l n (ac8 V) (abK hV)) m C;have C:=ChangeSpec.post_blind T;exact C
end
section
open Go.RowKit Go.ChangeAt
def azr:∀g∈gL,g=1\/g=2:=by
 have h:(gL.all λg=>g ==1||g ==2)=true:=by unfold gL;kernel_rfl
 intro g a;have:=lw.1 h g a;simpa using this
def ain{P:Program}{w:World}{n:String}{d:DataW Unit}:∀{l:List (String×DataW Unit)} {f:List MemPlace},DataW.LaidVars P w l f->(n,d)∈l->
  ∃g t b a p,P.globalNamed n=some g/\(P.globals[g]?).map (·.type)=some t/\w.var? P n=some b/\DataW.trod (λ_=>()) P w 0 (λ_=>true) false a t b.toList=some (d,p)
 |[],_,_,h=>by cases h
 |(m,e)::l,f,h,c=>by
  obtain⟨g,t,b,a,p,q,r,i,k,o,s, -⟩:=h;rcases pa.1 c with j|c
  .cases j;exact⟨g,t,b,a,p,r,i,k,o⟩
  .exact ain s c
def ap7{t:TypeId}{d:DataW Unit}{p:List MemPlace}(b:∃m,P.underlying t=some (.interface m)):DataW.trod (λ_=>()) P w 0 (λ_=>true) false Z t []≠some (d,p):=by
 obtain⟨m,a⟩:=b;cases Z with
 |zero=>simp[DataW.trod]
 |succ f=>simp[DataW.trod,a]
def atA{n:String}{cs:Array Value}{g:Nat}(a:P.globalNamed n=some g)(h:w.var? P n=some cs):∃t z,w.heap[g]?=some (.cells cs t z):=by
 unfold World.var? at h;rw[a] at h;simp only[qL] at h;split at h
 .rename_i c t z b;cases h;exact⟨t,z,b⟩
 .cases h
def atB:∃m,prog.underlying 181=some (.interface m):=⟨_,underlying181⟩
def atC:prog.globalNamed "loop.example/depositary/impl.errKey" =some 1:=by kernel_rfl
def an2:prog.globalNamed "loop.example/depositary/impl.errPiece" =some 2:=by kernel_rfl
def ap8:(prog.globals[1]?).map (·.type)=some 181:=by kernel_rfl
def akw:(prog.globals[2]?).map (·.type)=some 181:=by kernel_rfl
def aio:(laidL.all λx=>x.2.handleName?.isNone)=true:=by kernel_rfl
def ap9(j:laidMetH prog laidL W):(∀g∈gL,eG W g)/\Glo W:=by
 rw[vI _ _ _ aio] at j;obtain⟨A,w, -, -⟩:=j;have one:∀{n:String} {d:DataW Unit} {a:Nat},(n,d)∈laidL->prog.globalNamed n=some a->(prog.globals[a]?).map (·.type)=some 181->eG W a/\∃x,W.cell? ⟨a,0,none⟩=some x:=λ{n d a} v i y=>by
  obtain⟨g,t,b,k,p,q,e,s,o⟩:=ain w v;rw[i] at q;cases q;rw[y] at e;cases e;obtain⟨t,z,f⟩:=atA i s;refine⟨⟨b,t,z,f⟩, ?_⟩;cases r:b.toList with
  |nil=>rw[r] at o;exact absurd o (ap7 atB)
  |cons x l=>
   refine⟨x, ?_⟩;unfold World.cell?;rw[f];show b[0]?=some x;rw[<-ef,r];rfl
 have m:=one (n:= "loop.example/depositary/impl.errKey") (d:=Rows.laid_loop_example_depositary_impl_errKey) (by simp[laidL]) atC ap8;have c:=one (n:= "loop.example/depositary/impl.errPiece") (d:=Rows.laid_loop_example_depositary_impl_errPiece) (by simp[laidL]) an2 akw;refine⟨λg u=> ?_,m.2,c.2⟩;rcases azr g u with rfl|rfl
 .exact m.1
 .exact c.1
def aqa(W:World)(b i:Nat):Prop:=∀v,W.cell? ⟨b,i,none⟩=some v->nB (eG W) v
def agK.cell(h:agK W (eG W) (aqa W) U)(a:W.cell? ⟨b,i,none⟩=some v)(k:nB (eG W) v):U.cell? ⟨b,i,none⟩=some v:=by
 have j:aqa W b i:=λu e=>by rw[a] at e;cases e;exact k
 unfold World.cell? at a ⊢;dsimp only at a ⊢;cases d:W.heap[b]? with
 |none=>rw[d] at a;simp at a
 |some o=>
  cases o with
  |cells c t z=>
   obtain⟨r,m,n,q,f,g,p,l⟩:=h.row b ⟨c,t,z,d⟩;rw[d] at f a;cases f;rw[g];exact l i v j a
  |_=>rw[d] at a;simp at a
def agK.glo(h:agK W (eG W) (aqa W) U)(a:∀g∈gL,eG W g)(b:Glo W)(j:1∈gL)(e:2∈gL):Glo U:=by
 have one:∀{g:Nat},eG W g->(∃x,W.cell? ⟨g,0,none⟩=some x)->∃x,U.cell? ⟨g,0,none⟩=some x:=λ{g} a ⟨x,hx⟩=>by
  obtain⟨c,f,t,z,d,i,k, -⟩:=h.row g a;unfold World.cell? at hx ⊢;dsimp only at hx ⊢;rw[d] at hx;rw[i];have:0<c.size:=(dl.1 (show c[0]?=some x from hx)).1;exact⟨f[0]'(by omega),ge (by omega)⟩
 exact⟨one (a _ j) b.key,one (a _ e) b.piece⟩
def agK.bytes(h:agK W (eG W) (aqa W) U)(s:bC jK 1 W 0 W.heap.size l [v])(t:Tape):bC jK 1 (U.dR t) 0 (U.dR t).heap.size l [v]:=by
 obtain⟨A,c,C,o,g,y⟩:=s;refine⟨A,c,C,o,g,λr=> ?_⟩;obtain⟨b,d,q,f,B,m⟩:=y r;refine⟨b,d,q,f,by show b<U.heap.size;rw[h.size];exact B,λi x z=> ?_⟩;obtain⟨w,n,e,p⟩:=m i x z;refine⟨w,n,e,λj u a=> ?_⟩;have D:=p j u a;have k:nB (eG W) u:=by
  obtain⟨rfl, -⟩:=e;have:j=0:=by have:=aB a;simp at this;omega
  subst this;simp at a;subst a;exact .int _ _
 exact h.cell D k
def atD(b:Value.okWide prog W .any Z 22 v):nB (eG W) v:=by
 have e:=underlying22;unfold Value.okWide at b;rw[e] at b;dsimp only at b;unfold Cell.okWide at b;rw[e] at b;have b:Cell.ok prog W .any Z 22 v:=b;unfold Cell.ok at b;rw[e] at b;cases v with
 |slice A n c=>
  cases A with
  |none=>exact .pq _ _
  |some a=>
   obtain⟨-, -, -, -,f,cells,d, -⟩:=b;refine .slice ?_ _ _;unfold World.shape? at d;split at d
   .rename_i g t z i;exact⟨g,t,z,i⟩
   .cases d
 |_=>exact b.elim
def xG {k:FuncId} (n:laidMetH prog laidL W)   (q:Value.okWide prog W .any Z 22 v) (h:bC jK 1 W 0 W.heap.size l [v])
  (r:∀w:World,Glo w->bC jK 1 w 0 w.heap.size l [v]->Calls (ai true) k #[v] w λe f=>e=.returned (.bool true)/\Below w.heap.size w f):avU k W #[v]:=by
 obtain⟨g,p⟩:=ap9 n;refine⟨eG W,aqa W,λ_ h=>h,λb i v _ o c=>o v c,g,.cons (atD q) .nil,λj d t=> ?_⟩;refine(r (j.dR t) ?_ (d.bytes h t)).mono ?_
 .have:=d.glo g p (agM aqb) (agM aip);exact⟨this.key,this.piece⟩
 .rintro e f ⟨rfl,m⟩;exact⟨_,rfl,rfl,λb a=>m.block b (by show b<j.heap.size;rw[d.size];exact a)⟩
end
section
open Go.RowKit
def xE:Tryz.pinned.checked.prog.mainIs=some (true, "3d49434dbe5988dcf1f782f582580644844f3be87dffe57ce9c4feaf5463cfd1".toList):=by kernel_rfl
def yl:false=Tryz.pinned.checked.prog.looks []:=by kernel_rfl
end
end Go.Proofs.YtlaobkmopohmnaaGreatDoor