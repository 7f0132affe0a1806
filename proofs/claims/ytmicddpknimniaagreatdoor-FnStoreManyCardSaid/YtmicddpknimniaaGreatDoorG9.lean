/- A part. -/
import Derived.Test.YtmicddpknimniaaGreatDoorG8
import Derived.Conc.AppendWalk
import Derived.DuoClaim
import Derived.Conc.LeavingOf
import Derived.SizedLaws
import Derived.Shelf.Slices.CompactI
import Derived.Shelf.SortM.Plain
import Derived.Shelf.SortM.SortNone
import Derived.Sort.OwnSortedInts
import Derived.Lib.RowBridge
set_option maxRecDepth 100000
set_option maxHeartbeats 8000000
set_option linter.all false
open Go Go.Conc Go.ConcN Go.RowKit Go.Proofs.Tryz Go.Proofs.YtmicddpknimniaaGreatDoor
variable {R aS:ak} {Y b c i j n:Nat} {key:Int} {a:Addr} {o:Oper} {V W w:World} {fr:Frame} {t:Trace} {v:Value} {f:FuncId} {P:Program} {l:List Int} {rest:List Nat} {g:Goroutine} {k:List Item} {U:Array Oper} {xs:List Frame} {X:Array Value} {S A:Option Addr} {es:Array Event} {T:Goroutine→World→Prop} {Stop:ak→Goroutine→World→Prop} {Z:Int→List ij→Int→ByteArray × Bool}
namespace Go.Proofs.YtmicddpknimniaaGreatDoor
def vh:=@Go.Proofs.Tryz.zeroValue40
def vD:=@List.toArray_replicate
def vN:=@Bool.and_eq_false_iff
def vV:=@Bool.or_eq_false_iff
section
open Go.Conc Go.ConcN Go.RowKit
open Go.ConcR (KK wgBlock WgAt stA smA rd wr mk Payload DC0)
def ah2{args:Array Value} :(callFunc 74 args).runT prog w #[]=(.ok (.enter 74 args) w,#[]):=by
 have a:=cF func74;have c:¬f74.name= "runtime.NumGoroutine" :=by simpa using a
 have b:¬f74.body=none:=λe=>by have:=afo;rw[e] at this;cases this
 unfold callFunc;simp[func74,c,b]
def aj3 {m:Bool} {base : List Frame}     {w2 : World}  {args:Array Value} (j:fr.mode=.run) (l:(fr.kind ==.early)=false) (b:fr.roundOf=none) (g:fr.todo=.inRegion U (i::rest)::k) (p:U[i]?=some o) (r:o.guard=none)
  (q:(execOp fr.eval o).runT P w #[]=(.ok (.enter f args) w2,es)):stepG P m (Gl (fr::xs) base) w=.go (Gl (Frame.enter P f args .normal::fr::xs) base) w2 (seen P fr.fn es):=by
 obtain⟨fn,a,e,d,u,c,t⟩:=fr;dsimp only at j l b g;subst j b g;have n:∀y,Region.wanted o y=true:=λy=>by unfold Region.wanted;rw[r]
 have s:stepG P m (Gl (⟨fn,a,.inRegion U (i::rest)::k,d,.run,c,none⟩::xs) base) w =
   stepG.apply P true ⟨fn,a,.inRegion U (i::rest)::k,d,.run,c,none⟩ (xs++base) none (execOp (Frame.eval ⟨fn,a,.inRegion U (i::rest)::k,d,.run,c,none⟩) o) w:=by
  simp[Gl,stepG,stepG.exec,stepG.oper,Frame.oper?,p,n]
 rw[s];unfold stepG.apply;simp only[q,pb];simp[GStep.after,l,Gl]
section
variable {X:Wx} {v:ByteArray×Bool} {listed:Array Bool} {T T':Array Value} {S:ak} {w w1:World} {dd:Deferred} {k:List Item} {rest:List Nat}
def avv(a:X.Ok)(q:dX Z)(j:∀d nm,Z d [] nm=(⟨#[]⟩,false))(hi:X.Inv S w){cfr:Frame} :
  bD prog false X.Rl X.Gr (λn g w1=>g=⟨cfr.finish (.agg #[.string (Z X.key X.l X.nm).1,.bool (Z X.key X.l X.nm).2]),[eN],.running,none,none⟩/\X.Inv n w1) S
   (Gl (Frame.enter prog 74 #[.int .i64 X.key,.slice X.A X.n X.c,.int .i64 X.nm] .normal::[]) [cfr,eN]) w:=by
 by_cases k:X.n=0
 .have l:X.l=[]:=by have:=a.hl;rw[k] at this;exact ph.1 this
  rw[l,j,k];exact Wx.lift a (avs X.mD) hi
 .have m:∀(A:Addr) (u:Value),X.w0.cell? A=some u->X.Rg A.block->plV (λb=>X.Rg b/\dU X.w0 b) u->w.cell? A=some u:=λA u o p _=>(fR (hi.r _ (a.rows _ p))).trans o;exact Wx.lift a (asJ (Rg:=X.Rg) q (bd a.hN hi.sz) (λg i=>by
   obtain⟨c,t,z,e⟩:=a.gr g i;exact⟨a.gl g i,c,t,z,(hi.r g (a.rows g (a.gl g i))).trans e⟩) a.k1 a.k2 a.hl a.hc a.hcm (a.rd.mask a.rgp a.al m) (a.rgp.move a.al λb f=>hi.r b (a.rows b f)) a.al (by omega) a.nm X.mD (λb f=>a.rows b f.1)) hi
def asY (B:X.Ok) (x:dX Z) (a:∀b nm,Z b [] nm=(⟨#[]⟩,false)) (h:RI X (Z X.key X.l X.nm) listed T S w) (f:listed.getD 5 false=false) (n:listed.getD 2 false=true) (D:listed.getD 3 false=true) (q:listed.getD 4 false=true)
  (K:∀T' l d,RI X (Z X.key X.l X.nm) listed T l d->Tm [6+5] T T'->T'.getD (6+5) undef=X.val (Z X.key X.l X.nm) 5->bD prog false X.Rl X.Gr Stop l (Gl [FW dd T' (.inRegion aQ rest::k)] [eN]) d) :
  bD prog false X.Rl X.Gr Stop S (Gl [FW dd T (.inRegion aQ (5::rest)::k)] [eN]) w:=by
 obtain⟨p,j⟩:=aBg;refine .step rfl λw1 C=> ?_;have r:=h.rely C;have m:∀w,(execOp (Frame.eval (FW dd T (.inRegion aQ (5::rest)::k))) ⟨some 11,.call ⟨.value (.func 74),#[.tmp 8,.tmp 9,.tmp 10],#[3,23,3]⟩,136,p,#[⟨2,.data⟩,⟨3,.data⟩,⟨4,.data⟩],none⟩).runT prog w #[]=(.ok (.enter 74 #[.int .i64 X.key,.slice X.A X.n X.c,.int .i64 X.nm]) w,#[]):=λw=>by
  have E:Array.map (Frame.eval (FW dd T (.inRegion aQ (5::rest)::k))) #[.tmp 8,.tmp 9,.tmp 10]=#[.int .i64 X.key,.slice X.A X.n X.c,.int .i64 X.nm]:=by
   have G:T.getD 8 undef=.int .i64 X.key:=h.done 2 (by omega) n;have v:T.getD 9 undef=.slice X.A X.n X.c:=h.done 3 (by omega) D;have y:T.getD 10 undef=.int .i64 X.nm:=h.done 4 (by omega) q;rw[<-G,<-v,<-y];simp[Frame.eval]
  have F:execOp (Frame.eval (FW dd T (.inRegion aQ (5::rest)::k))) ⟨some 11,.call ⟨.value (.func 74),#[.tmp 8,.tmp 9,.tmp 10],#[3,23,3]⟩,136,p,#[⟨2,.data⟩,⟨3,.data⟩,⟨4,.data⟩],none⟩=callFunc 74 #[.int .i64 X.key,.slice X.A X.n X.c,.int .i64 X.nm]:=by
   simp only[execOp,resolve];rw[E];simp[Deferred.ofValue,invoke,Frame.eval];try rfl
  exact(fi (λs=>Sem.runT prog s w #[]) F).trans ah2
 refine⟨_,w1,_,S,aj3 (xs:=[]) (base:=[eN]) rfl rfl rfl rfl j rfl (m w1),aj1, ?_⟩;refine bD.bind X.mD.fu X.mD.tr (avv B x a r.inv (cfr:=FW dd T (.inRegion aQ (5::rest)::k))) λz g H ⟨hg,mV⟩=> ?_;subst hg;have i:11<T.size:=by rw[h.sz];omega
 have A:Frame.finish (FW dd T (.inRegion aQ (5::rest)::k)) (X.val (Z X.key X.l X.nm) 5)=FW dd (T.setIfInBounds 11 (X.val (Z X.key X.l X.nm) 5)) (.inRegion aQ rest::k):=by
  simp only[Frame.finish,j,qB]
 have u:listed.getD 7 false=false:=by
  cases e:listed.getD 7 false with
  |false=>rfl
  |true=>rw[h.ord e 5 (by omega)] at f;cases f
 have:=K (T.setIfInBounds 11 (X.val (Z X.key X.l X.nm) 5)) z H ⟨h.sz,h.cap,h.done,λe=>(by rw[u] at e;cases e),h.ord,mV⟩ (.one (by simp) λt o=>by rw[aD i,be o]) (by rw[aD i,dk rfl]);rw[<-A] at this;exact this
end
section
variable {X:Wx} {v:ByteArray×Bool} {listed:Array Bool} {T T':Array Value} {S:ak} {w w1:World} {dd:Deferred} {k:List Item} {rest:List Nat}
def apN (B:X.Ok) (h:RI X v listed T S w) (M:listed.getD 5 false=true) (R:listed.getD 6 false=true)
  (K:∀s,X.Inv S s->(Has X.C (2*X.κ) (.string v.1) s/\Has X.C (2*X.κ+1) (.bool v.2) s)->bD prog false X.Rl X.Gr Stop S (Gl [FW dd T (.inRegion aQ rest::k)] [eN]) s) :
  bD prog false X.Rl X.Gr Stop S (Gl [FW dd T (.inRegion aQ (7::rest)::k)] [eN]) w:=by
 obtain⟨p,F⟩:=aBi;refine .step rfl λw1 Q=> ?_;have E:=h.rely Q;obtain⟨t,g,H⟩:=E.inv.pay;have g:w1.heap[X.C]?=some (.cells t 136 (0,0)):=g;have L:=B.kn;obtain⟨u0,C⟩:∃u,t[2*X.κ]?=some u:=⟨_,fm (by omega)⟩;obtain⟨u1,z⟩:∃u,t[2*X.κ+1]?=some u:=⟨_,fm (by omega)⟩;have D:(⟨X.C,2*X.κ,none⟩:Addr).add 1=⟨X.C,2*X.κ+1,none⟩:=iJ _ _ _;have q:=agD faT (w:=w1) (e:=Frame.eval (FW dd T (.inRegion aQ (7::rest)::k))) (x:=.tmp 12) (y:=.tmp 11) (dst:=none) (ty:=0) (pos:=p) (af:=#[⟨6,.data⟩,⟨5,.data⟩,⟨5,.chain⟩,⟨0,.phase⟩,⟨1,.phase⟩,⟨2,.phase⟩,⟨3,.phase⟩,⟨4,.phase⟩,⟨5,.phase⟩]) (gd:=none) (A:=⟨X.C,2*X.κ,none⟩) (u0:=.string v.1) (u1:=.bool v.2) rfl rfl
  (h.done 6 (by omega) R) (h.done 5 (by omega) M) ((eH g).trans C) (gT g) (by rw[D];exact(eH g).trans z) (by rw[D];exact gT g)
 rw[D] at q;have a:((w1.setCell ⟨X.C,2*X.κ,none⟩ (.string v.1)).setCell ⟨X.C,2*X.κ+1,none⟩ (.bool v.2)).heap[X.C]?=some (.cells ((t.setIfInBounds (2*X.κ) (.string v.1)).setIfInBounds (2*X.κ+1) (.bool v.2)) 136 (0,0)):=vg (vg g);have c:((w1.setCell ⟨X.C,2*X.κ,none⟩ (.string v.1)).setCell ⟨X.C,2*X.κ+1,none⟩ (.bool v.2)).heap.size=w1.heap.size:=by rw[ef,ef]
 have d:∀b,b≠X.C->((w1.setCell ⟨X.C,2*X.κ,none⟩ (.string v.1)).setCell ⟨X.C,2*X.κ+1,none⟩ (.bool v.2)).heap[b]?=w1.heap[b]?:=λb j=>by
  rw[bc _ _ _ (λe=>j e.symm),bc _ _ _ (λe=>j e.symm)]
 have n:((w1.setCell ⟨X.C,2*X.κ,none⟩ (.string v.1)).setCell ⟨X.C,2*X.κ+1,none⟩ (.bool v.2)).ou=w1.ou:=rfl;have l:=aj0 (m:=false) (xs:=[]) (base:=[eN]) (k:=k) (fr:=FW dd T (.inRegion aQ (7::rest)::k)) rfl rfl rfl rfl F rfl q;generalize ((w1.setCell ⟨X.C,2*X.κ,none⟩ (.string v.1)).setCell ⟨X.C,2*X.κ+1,none⟩ (.bool v.2))=w2 at a c d n l;have O:Frame.finish (FW dd T (.inRegion aQ (7::rest)::k)) undef=FW dd T (.inRegion aQ rest::k):=by
  simp only[Frame.finish,F,qB]
 rw[O] at l;have f:=E.inv;have o:X.Inv S w2:=by
  refine⟨λb j=>(d b (λe=>B.rC (e▸j))).trans (f.r b j),f.s,by rw[c];exact f.c,by rw[c];exact f.wg,by rw[c];exact f.sz, ?_,⟨_,a,by simpa using H⟩,n.trans f.os⟩;obtain⟨st,sm,P⟩:=f.live;exact⟨st,sm,(d X.Wg (λe=>B.cW e.symm)).trans P⟩
 refine⟨_,w2,_,S,l,⟨λb _ _ j=>d b j,mu c.symm,n,λ_=>⟨_,a,by simpa using H⟩,λi I=> ?_,λ_ h=>h,λ_ h=>.inl h,λe U=> ?_⟩,K w2 o ⟨?_, ?_⟩⟩
 .have N:i≠2*X.κ:=λe=>I (by show i / 2=X.κ;omega);have V:i≠2*X.κ+1:=λe=>I (by show i / 2=X.κ;omega);rw[eH a,eH g,ip (λe=>V e.symm),ip (λe=>N e.symm)]
 .have G:=sR U;simp only[sd,jp,rA,tR] at G;have J:X.C<w2.heap.size:=by rw[c];exact f.c
  rcases G with rfl|rfl
  .refine⟨λx r=>.inr (.inl ⟨⟨X.C,2*X.κ,none⟩, ?_,rfl, ?_⟩),(λe=>by cases e),(λe=>by cases e),(λe=>by cases e),J⟩
   .simp[MemAct.ofEvent,MemAct.touch?] at r;rw[<-r]
   .show 2*X.κ / 2=X.κ;omega
  .refine⟨λx r=>.inr (.inl ⟨⟨X.C,2*X.κ+1,none⟩, ?_,rfl, ?_⟩),(λe=>by cases e),(λe=>by cases e),(λe=>by cases e),J⟩
   .simp[MemAct.ofEvent,MemAct.touch?] at r;rw[<-r]
   .show(2*X.κ+1) / 2=X.κ;omega
 .show w2.cell? ⟨X.C,2*X.κ,none⟩=_;rw[eH a,ip (by omega),pv (by omega)]
 .show w2.cell? ⟨X.C,2*X.κ+1,none⟩=_;rw[eH a,pv (by simp;omega)]
def awO(X:Wx)(v:ByteArray×Bool)(dd:Deferred)(k:List Item):ak->Goroutine->World->Prop:=λS g w=>∃T,g=Gl [FW dd T (.inRegion aQ []::k)] [eN]/\T.size=13/\X.Inv S w/\Has X.C (2*X.κ) (.string v.1) w/\Has X.C (2*X.κ+1) (.bool v.2) w
def agG(c:X.Ok){o:Int->List ij->Int->ByteArray×Bool}(B:dX o)(p:∀y nm,o y [] nm=(⟨#[]⟩,false)):∀(fuel t:Nat) (listed:Array Bool) (T:Array Value) (S:ak) (w:World),listed.size=8->unW listed<=fuel->RI X (o X.key X.l X.nm) listed T S w->
  bD prog false X.Rl X.Gr (awO X (o X.key X.l X.nm) dd k) S (Gl [FW dd T (.inRegion aQ (Region.linearise.go .any aQ fuel t listed [])::k)] [eN]) w
 |0,t,listed,T,S,w,d,hf,h=>by
  have l:=aBj d (.inr (by omega));exact .stop λw1 m=>⟨T,rfl,h.sz,h.inv.rely m,aca (h.st (l 7 (by omega))) m⟩
 |fuel+1,t,listed,T,S,w,d,hf,h=>by
  simp only[Region.linearise.go];change bD _ _ _ _ _ S (Gl [FW dd T (.inRegion aQ (match(Region.ready .any aQ listed)[t % (Region.ready .any aQ listed).length]? with
   |some i=>Region.linearise.go .any aQ fuel (t / (Region.ready .any aQ listed).length) (listed.setIfInBounds i true) [i]
   |none=>[].reverse)::k)] [eN]) w
  cases A:(Region.ready .any aQ listed)[t % (Region.ready .any aQ listed).length]? with
  |none=>
   have q:Region.ready .any aQ listed=[]:=by
    cases m:Region.ready .any aQ listed with
    |nil=>rfl
    |cons x D=>
     rw[m] at A;have r:t % (x::D).length<(x::D).length:=uC _ (by simp);simp at A;simp at r;omega
   have l:=aBj d (.inl q);exact .stop λw1 m=>⟨T,rfl,h.sz,h.inv.rely m,aca (h.st (l 7 (by omega))) m⟩
  |some i=>
   simp only[];rw[linearise_go_acc,List.reverse_singleton,List.singleton_append];obtain⟨z,C,hd⟩:=(afq d).1 (da A);have F:=avu d z C;have s:(listed.setIfInBounds i true).size=8:=by simpa using d
   have next:∀T' n a,RI X (o X.key X.l X.nm) (listed.setIfInBounds i true) T' n a->bD prog false X.Rl X.Gr (awO X (o X.key X.l X.nm) dd k) n (Gl [FW dd T' (.inRegion aQ (Region.linearise.go .any aQ fuel (t / (Region.ready .any aQ listed).length) (listed.setIfInBounds i true) [])::k)] [eN]) a:=
    λT' n a b=>agG c B p fuel _ _ T' n a s (by omega) b
   generalize Region.linearise.go .any aQ fuel (t / (Region.ready .any aQ listed).length) (listed.setIfInBounds i true) []=rest at next ⊢
   have:i=0\/i=1\/i=2\/i=3\/i=4\/i=5\/i=6\/i=7:=by omega
   rcases this with rfl|rfl|rfl|rfl|rfl|rfl|rfl|rfl
   .exact acb c h (by omega) aBb faT.ahL rfl (h.cap 4 (by omega) (by omega)) c.ra λT' a b f g=>next T' S a (b.put d (by omega) f g)
   .exact acb c h (by omega) aBc faT.u3 rfl (h.cap 5 (by omega) (by omega)) c.ri λT' a b f g=>next T' S a (b.put d (by omega) f g)
   .exact acb c h (by omega) aBd faT.u3 rfl (h.cap 1 (by omega) (by omega)) c.rk λT' a b f g=>next T' S a (b.put d (by omega) f g)
   .exact acb c h (by omega) aBe faT.u23 rfl (h.cap 2 (by omega) (by omega)) c.rp λT' a b f g=>next T' S a (b.put d (by omega) f g)
   .exact acb c h (by omega) aBf faT.u3 rfl (h.cap 3 (by omega) (by omega)) c.rn λT' a b f g=>next T' S a (b.put d (by omega) f g)
   .simp only[jD,fd] at hd;exact asY c B p h C hd.1.1 hd.1.2 hd.2 λT' n a b f g=>next T' n a (b.put d (by omega) f g)
   .simp only[jD,fd] at hd;exact asX c h hd.1.1.1.1.1 hd.1.1.1.1.2 λT' a b f g=>next T' S a (b.put d (by omega) f g)
   .simp only[jD,fd] at hd;refine apN c h hd.1.1.1.1.1.2 hd.1.1.1.1.1.1 λa v u=>next T S a ⟨h.sz,h.cap,λj E e=> ?_,λ_=>u,λ_ j E=> ?_,v⟩
    .rw[ie (by omega),be (by omega)] at e;exact h.done j E e
    .rw[ie (by omega),be (by omega)];have:j=0\/j=1\/j=2\/j=3\/j=4\/j=5\/j=6:=by omega
     rcases this with rfl|rfl|rfl|rfl|rfl|rfl|rfl
     .exact hd.1.1.1.1.2
     .exact hd.1.1.1.2
     .exact hd.1.1.2
     .exact hd.1.2
     .exact hd.2
     .exact hd.1.1.1.1.1.2
     .exact hd.1.1.1.1.1.1
end
end
section
open Go.Conc Go.ConcN Go.RowKit Go.Conc.Lib Go.ConcR.Gen Go.ConcN.Gen
open Go.ConcR (KK wgBlock WgAt stA smA rd wr mk Payload DC0)
section
variable {X:Wx} {v:ByteArray×Bool} {T:Array Value} {S:ak} {w w1:World} {dd:Deferred} {k:List Item} {Stop:ak->Goroutine->World->Prop}
def acd {fr2 : Frame} {es:World->Array Event} {g:World->World} (hi:X.Inv S w) (p:∀w,X.Inv S w->stepG prog false (Gl [fr] [eN]) w=.go (Gl [fr2] [eN]) (g w) (es w)) (q:∀w,(g w).heap=w.heap/\(g w).ou=w.ou) (r:∀w,X.Inv S w->∀e∈es w,False)
  (K:∀k,X.Inv S k->bD prog false X.Rl X.Gr Stop S (Gl [fr2] [eN]) k):bD prog false X.Rl X.Gr Stop S (Gl [fr] [eN]) w:=by
 refine .step rfl λw1 n=> ?_;have d:=hi.rely n;obtain⟨c,l⟩:=q w1;have f:∀a,(g w1).cell? a=w1.cell? a:=λa=>by unfold World.cell?;rw[c]
 refine⟨_,g w1,_,S,p w1 d,⟨λb _ _ _=>by rw[c],mu (by rw[c]),l,λ⟨j,a,b⟩=>⟨j,by rw[c];exact a,b⟩,λi _=>f _,λ_ h=>h,λ_ h=>.inl h,λe h=>(r w1 d e h).elim⟩,K _ ⟨λb o=>by rw[c];exact d.r b o,d.s,by rw[c];exact d.c,by rw[c];exact d.wg,by rw[c];exact d.sz, ?_, ?_,l.trans d.os⟩⟩
 .obtain⟨st,sm,m⟩:=d.live;exact⟨st,sm,by unfold WgAt;rw[c];exact m⟩
 .obtain⟨j,a,b⟩:=d.pay;exact⟨j,by rw[c];exact a,b⟩
abbrev ddW(Wg:Nat):Deferred:=⟨.fn (.func dY.done) #[],#[.pointer (some ⟨Wg,0,none⟩)]⟩
def aCX:∃p,nQ[0]?=some ⟨none,.defer ⟨.value (.func dY.done),#[.tmp 0],#[133]⟩,0,p,#[],none⟩:=⟨_,rfl⟩
def avw(T:Array Value):QuitsD prog 2 0 (G ⟨nCl,T,[],[],.returning,.deferred,none⟩ [eN]):=by
 refine QuitsD.ctl (g':=G eN []) rfl (λw=> ?_) ?_
 .have a:(results f72 T).runT prog w #[]=(.ok (.tuple #[]) w,#[]):=by
   have:f72.results=#[]:=rfl;simp[results,this]
  simp only[G,stepG,unwind,func72,a];simp[doReturn,GStep.after,seen,eN,goexitEntry]
 refine QuitsD.ctl (g':={G eN [] with status:=.finished}) rfl (λw=> ?_) ⟨rfl,rfl⟩;simp[G,stepG,unwind,eN,goexitEntry,Frame.catches];rfl
def acV {fr2 : Frame} {cs cs2:List Frame} (hi:X.Inv S w) (c:Has X.C (2*X.κ) (.string v.1) w/\Has X.C (2*X.κ+1) (.bool v.2) w) {es:World->Array Event} (f:∀w,stepG prog false (G fr cs) w=.go (G fr2 cs2) w (es w)) (d:∀w,∀e∈es w,False)
  (K:∀a,X.Inv S a->Has X.C (2*X.κ) (.string v.1) a/\Has X.C (2*X.κ+1) (.bool v.2) a->bD prog false X.Rl X.Gr Stop S (G fr2 cs2) a):bD prog false X.Rl X.Gr Stop S (G fr cs) w:=by
 refine .step rfl λw1 b=> ?_;exact⟨_,w1,_,S,f w1,⟨λ_ _ _ _=>rfl,am _,rfl,id,λ_ _=>rfl,λ_ h=>h,λ_ h=>.inl h,λe h=>(d w1 e h).elim⟩,K w1 (hi.rely b) (aca c b)⟩
def ace  :∀e∈seen P f #[],False:=λe h=>by simpa using sR h
def aj4{args:Array Value} :(callFunc dY.done args).runT prog w #[]=(.ok (.enter dY.done args) w,#[]):=by
 have h:=aav.f_done;have b:¬(doneFn dY).name= "runtime.NumGoroutine" :=by decide
 have a:¬(doneFn dY).body=none:=λe=>by cases e
 unfold callFunc;simp[h,b,a]
def ayM(r:X.Ok)(k:X.tWg=dY.tWg){val:Nat->Value}(q:val (2*X.κ)=.string v.1)(p:val (2*X.κ+1)=.bool v.2)(hi:X.Inv S w)(m:Has X.C (2*X.κ) (.string v.1) w/\Has X.C (2*X.κ+1) (.bool v.2) w) :
  bD prog false X.Rl X.Gr (agi prog X.tWg X.Wg X.C X.n2 val X.κ) S (G (FW (ddW X.Wg) T [.inRegion aQ []]) [eN]) w:=by
 refine acV (fr2:=FW (ddW X.Wg) T []) (cs2:=[eN]) hi m (es:=λ_=>#[]) (λw=>by simp[G,stepG,stepG.exec]) (λ_ e h=>by simpa using h) λt o f=> ?_;refine acV (fr2:=⟨nCl,T,[],[ddW X.Wg],.returning,.deferred,none⟩) (cs2:=[eN]) o f (es:=λ_=>#[]) (λw=>by simp[G,stepG,stepG.exec]) (λ_ e h=>by simpa using h) λs g d=> ?_;have j:Frame.enter prog dY.done #[.pointer (some ⟨X.Wg,0,none⟩)] .deferred=(baseD dY.done).at ⟨#[.pointer (some ⟨X.Wg,0,none⟩),undef,undef,undef],[]⟩ [.code (body_done dY)]:=by
  unfold Frame.enter;rw[aav.f_done];rfl
 refine acV (fr2:=(baseD dY.done).at ⟨#[.pointer (some ⟨X.Wg,0,none⟩),undef,undef,undef],[]⟩ [.code (body_done dY)]) (cs2:=[⟨nCl,T,[],[],.returning,.deferred,none⟩,eN]) g d (es:=λw=>seen prog nCl #[]) (λw=> ?_) (λ_=>ace) λl i b=> ?_
 .have a:(invoke (ddW X.Wg).target (ddW X.Wg).args).runT prog w #[]=(.ok (.enter dY.done #[.pointer (some ⟨X.Wg,0,none⟩)]) w,#[]):=aj4;simp only[G,stepG,unwind,callDeferred,a,j];simp[GStep.after]
 .have:=apM (κ:=X.κ) (n:=X.n2) (R:=X.R) (S:=S) (val:=val) (c:=⟨nCl,T,[],[],.returning,.deferred,none⟩) (cs:=[eN]) aav rfl (avw T) l (k▸i.live) (by rw[q];exact b.1) (by rw[p];exact b.2);rw[<-k] at this;exact this
end
abbrev Wx.nC(X:Wx):Array Value:=#[.pointer (some ⟨X.Wg,0,none⟩),.pointer (some ⟨X.bk,0,none⟩),.pointer (some ⟨X.bp,0,none⟩),.pointer (some ⟨X.bn,0,none⟩),.pointer (some ⟨X.ba,0,none⟩),.pointer (some ⟨X.bi,0,none⟩)]
abbrev FD(T:Array Value)(k:List Item):Frame:=⟨nCl,T,k,[],.run,.deferred,none⟩
def avx{a:Array Value}:Frame.enter prog nCl a .deferred=FD (a++Array.replicate (13-a.size) undef) [.code anT]:=by
 unfold Frame.enter;rw[func72];rfl
def ayN:prog.follows .mixedOrders=true:=by kernel_rfl
section
variable {X:Wx} {S:ak} {w:World}
def aj5(ok:X.Ok)(hF:dX Z)(u:∀C nm,Z C [] nm=(⟨#[]⟩,false))(M:X.tWg=dY.tWg){val:Nat->Value}(Y:val (2*X.κ)=.string (Z X.key X.l X.nm).1)(P:val (2*X.κ+1)=.bool (Z X.key X.l X.nm).2)(hi:X.Inv S w) :
  bD prog false X.Rl X.Gr (agi prog X.tWg X.Wg X.C X.n2 val X.κ) S (G (Frame.enter prog nCl X.nC .deferred) [eN]) w:=by
 rw[avx];obtain⟨T,J,Q,g0,F⟩:∃T:Array Value,T=X.nC++Array.replicate (13-X.nC.size) undef/\T.size=13/\T.getD 0 undef=.pointer (some ⟨X.Wg,0,none⟩)/\∀t,1<=t->t<=5->T.getD t undef=X.cap t:=by
  refine⟨_,rfl,by simp, ?_,λt K m=> ?_⟩
  .rw[ga,rO (by simp)];rfl
  .rw[ga,rO (by simp;omega)];have:t=1\/t=2\/t=3\/t=4\/t=5:=by omega
   rcases this with rfl|rfl|rfl|rfl|rfl<;>rfl
 rw[<-J];clear J;rw[asT];refine acd (fr:=FD T [.code (.seq (.region 0 nQ false) (.region 1 aQ true))]) (fr2:=FD T [.code (.region 0 nQ false),.code (.region 1 aQ true)]) (g:=id) (es:=λ_=>#[]) hi (λw _=>by simp[Gl,stepG,stepG.exec]) (λ_=>⟨rfl,rfl⟩) (λ_ _ e h=>by simpa using h) λw1 K=> ?_;have z:List.range nQ.size=[0]:=rfl;refine acd (fr2:=FD T [.inRegion nQ [0],.code (.region 1 aQ true)]) (g:=id) (es:=λ_=>#[]) K (λw _=>by simp[Gl,stepG,stepG.exec,z]) (λ_=>⟨rfl,rfl⟩) (λ_ _ e h=>by simpa using h) λw2 L=> ?_;obtain⟨p,H⟩:=aCX;refine acd (fr2:=FW (ddW X.Wg) T [.inRegion nQ [],.code (.region 1 aQ true)]) (g:=id) (es:=λ_=>seen prog nCl #[]) L (λw _=> ?_) (λ_=>⟨rfl,rfl⟩) (λ_ _=>ace) λw3 V=> ?_
 .have E:(execOp (Frame.eval (FD T [.inRegion nQ [0],.code (.region 1 aQ true)])) ⟨none,.defer ⟨.value (.func dY.done),#[.tmp 0],#[133]⟩,0,p,#[],none⟩).runT prog w #[]=(.ok (.defer (ddW X.Wg)) w,#[]):=by
   have hm:Array.map (Frame.eval (FD T [.inRegion nQ [0],.code (.region 1 aQ true)])) #[.tmp 0]=#[.pointer (some ⟨X.Wg,0,none⟩)]:=by
    rw[<-g0];simp[Frame.eval]
   simp only[execOp,resolve];rw[hm];simp[Deferred.ofValue,Frame.eval]
  have R:∀y,Region.wanted ⟨none,.defer ⟨.value (.func dY.done),#[.tmp 0],#[133]⟩,0,p,#[],none⟩ y=true:=λy=>rfl;have W:stepG prog false (Gl [FD T [.inRegion nQ [0],.code (.region 1 aQ true)]] [eN]) w =
    stepG.apply prog true (FD T [.inRegion nQ [0],.code (.region 1 aQ true)]) [eN] none (execOp (Frame.eval (FD T [.inRegion nQ [0],.code (.region 1 aQ true)])) ⟨none,.defer ⟨.value (.func dY.done),#[.tmp 0],#[133]⟩,0,p,#[],none⟩) w:=by
   simp[Gl,stepG,stepG.exec,stepG.oper,Frame.oper?,H,R]
  rw[W];unfold stepG.apply;simp only[E,pb];have fX:(CallKind.deferred ==CallKind.early)=false:=rfl;simp[GStep.after,fX,Gl,Frame.finish,H]
 refine acd (fr2:=FW (ddW X.Wg) T [.code (.region 1 aQ true)]) (g:=id) (es:=λ_=>#[]) V (λw _=>by simp[Gl,stepG,stepG.exec]) (λ_=>⟨rfl,rfl⟩) (λ_ _ e h=>by simpa using h) λw4 O=> ?_;refine .step rfl λr s=> ?_;have m:=O.rely s;have v:∃(t:Nat) (f:World),f.heap=r.heap/\f.ou=r.ou/\stepG prog false (Gl [FW (ddW X.Wg) T [.code (.region 1 aQ true)]] [eN]) r=.go (Gl [FW (ddW X.Wg) T [.inRegion aQ (Region.linearise.go .any aQ 8 t (Array.replicate 8 false) [])]] [eN]) f #[]:=by
  have B:∀t,Region.schedule (prog.follows .mixedOrders) aQ t=Region.linearise.go .any aQ 8 t (Array.replicate 8 false) []:=λt=>by
   simp only[Region.schedule,ayN,Bool.true_or,pb,Region.linearise,anU]
  simp only[Gl,stepG,stepG.exec,B,uT,kw,qA];cases d:(choose (.order nCl 1)).run prog r with
  |ok t f=>
   refine⟨t,f, ?_⟩;have:f.heap=r.heap/\f.ou=r.ou:=by
    unfold choose at d;rw[Sem.run] at d;split at d
    .cases d;exact⟨rfl,rfl⟩
    .cases d;exact⟨rfl,rfl⟩
   exact⟨this.1,this.2,rfl⟩
  |halt q f=>
   exfalso;unfold choose at d;rw[Sem.run] at d;split at d<;>cases d
 obtain⟨t,f,l,I,D⟩:=v;have o:∀a,f.cell? a=r.cell? a:=λa=>by unfold World.cell?;rw[l]
 have h6:X.Inv S f:=by
  refine⟨λb N=>by rw[l];exact m.r b N,m.s,by rw[l];exact m.c,by rw[l];exact m.wg,by rw[l];exact m.sz, ?_, ?_,I.trans m.os⟩
  .obtain⟨st,sm,U⟩:=m.live;exact⟨st,sm,by unfold WgAt;rw[l];exact U⟩
  .obtain⟨x,a,b⟩:=m.pay;exact⟨x,by rw[l];exact a,b⟩
 have n:∀j,(Array.replicate 8 false).getD j false=false:=λj=>by
  rw[ga,tU];split<;>rfl
 refine⟨_,f,_,S,D,⟨λb _ _ _=>by rw[l],mu (by rw[l]),I,λ⟨x,a,b⟩=>⟨x,by rw[l];exact a,b⟩,λi _=>o _,λ_ h=>h,λ_ h=>.inl h,λe h=>by simp at h⟩, ?_⟩;have A:=agG (dd:=ddW X.Wg) (k:=[]) ok hF u 8 t (Array.replicate 8 false) T S f (by simp) (List.countP_le_length) ⟨Q,F,λj _ e=>(by rw[n] at e;cases e),λe=>(by rw[n] at e;cases e),λe=>(by rw[n] at e;cases e),h6⟩;refine bD.bind X.mD.fu X.mD.tr A λS2 g w7 ⟨T2,hg,_,hi7,hv0,hv1⟩=> ?_;subst hg;exact ayM ok M Y P hi7 ⟨hv0,hv1⟩
def apO{args:Array Value} :(callFunc nCl args).runT prog w #[]=(.ok (.enter nCl args) w,#[]):=by
 have a:=cF func72;have c:¬f72.name= "runtime.NumGoroutine" :=by simpa using a
 have b:¬f72.body=none:=λe=>by cases e
 unfold callFunc;simp[func72,c,b]
def aj6(i:X.Ok)(n:dX Z)(g:∀d nm,Z d [] nm=(⟨#[]⟩,false))(k:X.tWg=dY.tWg){val:Nat->Value}(m:val (2*X.κ)=.string (Z X.key X.l X.nm).1)(l:val (2*X.κ+1)=.bool (Z X.key X.l X.nm).2)(hi:X.Inv S w) :
  bD prog false X.Rl X.Gr (agi prog X.tWg X.Wg X.C X.n2 val X.κ) S (born prog ⟨.fn (.func nCl) X.nC,#[]⟩) w:=by
 refine .step rfl λa j=> ?_;have b:(invoke (Target.fn (.func nCl) X.nC) #[]).runT prog a #[]=(.ok (.enter nCl X.nC) a,#[]):=apO;have f:stepG prog false (born prog ⟨.fn (.func nCl) X.nC,#[]⟩) a=.go (G (Frame.enter prog nCl X.nC .deferred) [eN]) a (seen prog prog.funcs.size #[]):=by
  simp only[born,stepG,unwind,callDeferred,b];simp[GStep.after,G,eN]
 exact⟨_,a,_,S,f,⟨λ_ _ _ _=>rfl,am _,rfl,id,λ_ _=>rfl,λ_ h=>h,λ_ h=>.inl h,λe h=>(ace e h).elim⟩,aj5 i n g k m l (hi.rely j)⟩
end
section
variable {P:Program} {R:World->World->Prop} {Q:World->Prop} {St:Goroutine->World->Prop}
def eI{main:Bool}(c:∀w d,Q w->R w d->Q d) :
  ∀{n:Nat} {g:Goroutine} {w:World},Q w->Goes P main R DC0 St n g w->Goes P main R DC0 (λg w=>St g w/\Q w) n g w
 |0,_,_,hq,h=>λa b=>⟨h a b,c _ _ hq b⟩
 |n+1,g,w,hq,h=>by
  rcases h with h|⟨f,h⟩
  .exact .inl λa b=>⟨h a b,c _ _ hq b⟩
  .refine .inr ⟨f,λa b=> ?_⟩;have:=h a b;cases e:stepG P main g a with
   |go k i j=>
    rw[e,tq] at this;rw[tq];exact⟨this.1,eI c (this.1.1▸c _ _ hq b) this.2⟩
   |_=>rw[e] at this;exact this.elim
def eT{main:Bool}(a:∀g w,St g w->T g w)(h:Goes P main R DC0 St n g w):Goes P main R DC0 T n g w:=nB (λ_ _ _ x=>x) a h
def jE(c:∀w a,Q w->R w a->Q a){e:Mark}{m:Nat}(b:Q w)(h:nV P R e m St g w):nV P R e m (λg w=>St g w/\Q w) g w:=
 ⟨h.1,let⟨f,d,k⟩:=h.2;⟨f,d,eI c b k⟩⟩
def acf(b:∀g w,St g w->T g w){e:Mark}{m:Nat}(h:nV P R e m St g w):nV P R e m T g w:=
 ⟨h.1,let⟨c,a,k⟩:=h.2;⟨c,a,eT b k⟩⟩
def apP{ty:TypeId}{Wg:Nat}(a:∀w d,Q w->R w d->Q d)(k:∀w v i,Q w->WgAt ty Wg w v 0->Q (w.setCell (stA Wg) (.int .u64 i)))(l:Q w)(h:ajY P R ty Wg St g w):ajY P R ty Wg (λg w=>St g w/\Q w) g w:=
 ⟨h.1,λv m c=>by
  obtain⟨p,e,n,f⟩:=h.2 v m c;have b:=k w _ ((v+1)*KK) l c;exact⟨p,e,λj=>eT (λg w x=>acf (λg w x=>jE a x.2 x.1) (jE a x.2 x.1)) (eI a b (n j)),λo=>eT (λg w x=>jE a x.2 x.1) (eI a b (f o))⟩⟩
end
section
variable [Payload] {P:Program} {L:WgLink} {Wg C n:Nat} {R S:ak}
 {b₀:Frame} {a₀:Act} {ops₀:Array Oper} {i₀:Nat} {rest₀:List Nat} {k₀:List Item} {cs:List Frame}
def ayQ{w' : World}(h:DC0 w w' es):Gua Wg C n R aS S S w w' es:=by
 obtain⟨rfl,rfl⟩:=h;exact⟨λ_ _ _ _=>rfl,am _,rfl,id,λ_ _=>rfl,λ_ h=>h,λ_ h=>.inl h,by simp⟩
omit [Payload] in
def apQ:(#[.pointer (some ⟨Wg,0,none⟩),.int .i64 1]:Array Value)++(List.replicate 115 undef).toArray=#[.pointer (some ⟨Wg,0,none⟩),.int .i64 1,undef,undef,undef,undef,undef,undef,undef,undef,undef,undef,undef,undef,undef,undef,undef,undef,undef,undef,undef,undef,undef,undef,undef,undef,undef,undef,undef,undef,undef,undef,undef,undef,undef,undef,undef,undef,undef,undef,undef,undef,undef,undef,undef,undef,undef,undef,undef,undef,undef,undef,undef,undef,undef,undef,undef,undef,undef,undef,undef,undef,undef,undef,undef,undef,undef,undef,undef,undef,undef,undef,undef,undef,undef,undef,undef,undef,undef,undef,undef,undef,undef,undef,undef,undef,undef,undef,undef,undef,undef,undef,undef,undef,undef,undef,undef,undef,undef,undef,undef,undef,undef,undef,undef,undef,undef,undef,undef,undef,undef,undef,undef,undef,undef,undef,undef]:=by
 simp[List.replicate]
def apR (H:WgLib P L) {val:Nat->Value} {d:ak->Goroutine->World->Prop} {Q:World->Prop} (e:∀w i,Q w->RM L.tWg Wg C n R S w i->Q i) (q:∀w v l,Q w->WgAt L.tWg Wg w v 0->Q (w.setCell (stA Wg) (.int .u64 l)))
  (s:∀w,WgLive L.tWg Wg w->Q w->bD P true (jz L.tWg Wg C (2*n) R noC) (Gua Wg C (2*n) R noC) (MGo P L.tWg Wg C n val j d R) S (G (b₀.at (a₀.put ((ops₀[i₀]?).bind (·.dst)) (.tuple #[])) (.inRegion ops₀ rest₀::k₀)) cs) w)
  (w:World) (u:WgLive L.tWg Wg w) (f:Q w) :
  bD P true (jz L.tWg Wg C (2*n) R noC) (Gua Wg C (2*n) R noC) (λS g w=>arG P L.tWg Wg C n val j d R S g w) S
   (G ((base L.add).at ⟨#[.pointer (some ⟨Wg,0,none⟩),.int .i64 1]++(List.replicate 115 undef).toArray,[]⟩ [.code (body_add L)]) (b₀.at a₀ (.inRegion ops₀ (i₀::rest₀)::k₀)::cs)) w:=by
 rw[apQ];have t:=asP (b₀:=b₀) (a₀:=a₀) (ops₀:=ops₀) (i₀:=i₀) (rest₀:=rest₀) (k₀:=k₀) (cs:=cs) (R:=RM L.tWg Wg C n R S) (S:=λg w=>g=G (b₀.at (a₀.put ((ops₀[i₀]?).bind (·.dst)) (.tuple #[])) (.inRegion ops₀ rest₀::k₀)) cs/\WgLive L.tWg Wg w) H (λ_ _ h r=>r.live h) (λ_ h=>⟨rfl,h⟩) w u;have m:=eT (λg w x=>acf (λg w x=>apP e q x.2 x.1) (jE e x.2 x.1)) (eI (Q:=Q) e f t);refine bD.abU (R:=RM L.tWg Wg C n R S) (λ_ _ h=>h) (λ_ _ _ h=>ayQ h) (λ_ _ h=>ayK (λg w p=> ?_) h) m;refine bD.bind (λS w=>jz.refl R noC S w) (λS a b c=>jz.trans) (bD.abU (S:=S) (R:=RM L.tWg Wg C n R S) (Stop:=λk g w=>k=S/\(g=G (b₀.at (a₀.put ((ops₀[i₀]?).bind (·.dst)) (.tuple #[])) (.inRegion ops₀ rest₀::k₀)) cs/\WgLive L.tWg Wg w)/\Q w) (λ_ _ h=>h) (λ_ _ _ h=>ayQ h) (λ_ _ h=>⟨rfl,h⟩) p) ?_;rintro k g w ⟨rfl,⟨rfl,o⟩,f⟩;exact s w o f
end
end
section
open Go.Conc Go.ConcN Go.RowKit
open Go.ConcR (KK wgBlock WgAt stA smA rd wr mk Payload DC0)
noncomputable def acg:Code:=f41.body.getD .skip
noncomputable def agH:Array Oper:=uk (kX acg)
noncomputable def adr:Array Oper:=uk (kX (cf acg))
noncomputable def nR:Array Oper:=uk (kX (cf (cf acg)))
noncomputable def awP:Code:=kX (cf (cf (cf acg)))
noncomputable def agI:Array Oper:=uk (kX awP)
def ayR:Code->Code
 |.block _ (.loop c)=>c
 |c=>c
def avy:Code->Code
 |.block _ c=>c
 |c=>c
noncomputable def jc:Code:=ayR (cf awP)
noncomputable def asZ:Array Oper:=uk (kX jc)
noncomputable def amw:Code:=avy (kX (cf (cf jc)))
noncomputable def ach:Array Oper:=uk (kX amw)
noncomputable def aax:Array Oper:=uk (kX (cf amw))
noncomputable def lG:Array Oper:=uk (cf (cf amw))
noncomputable def aj7:Array Oper:=uk (cf (cf (cf jc)))
noncomputable def jF:Array Oper:=uk (kX (cf (cf (cf (cf acg)))))
def as0:acg=.seq (.region 0 agH false) (.seq (.region 1 adr false) (.seq (.region 2 nR false) (.seq (.seq (.region 3 agI false) (.block 0 (.loop jc))) (.seq (.region 9 jF false) cI)))):=rfl
def agJ:jc=.seq (.region 4 asZ false) (.seq (.cond (.tmp 21) .skip (.exit 0)) (.seq (.block 1 (.seq (.region 5 ach false) (.seq (.region 6 aax false) (.region 7 lG false)))) (.region 8 aj7 false))):=rfl
def aCZ:∃p a,agH[0]?=some ⟨some 3,.box 3 (.tmp 0),0,p,a,none⟩:=⟨_,_,rfl⟩
def aC0:∃p a,agH[1]?=some ⟨some 4,.box 23 (.tmp 1),0,p,a,none⟩:=⟨_,_,rfl⟩
def aC1:∃p a,agH[2]?=some ⟨some 6,.assign (.const (.slice none 0 0)),92,p,a,none⟩:=⟨_,_,rfl⟩
def aC2:∃p a,agH[3]?=some ⟨some 7,.assign (.const (.bool false)),4,p,a,none⟩:=⟨_,_,rfl⟩
def aC3:∃p a,adr[0]?=some ⟨some 15,.move (.tmp 2),40,p,a,none⟩:=⟨_,_,rfl⟩
def aC4:∃p a,adr[1]?=some ⟨some 16,.call ⟨.builtin .len,#[.tmp 15],#[40]⟩,3,p,a,none⟩:=⟨_,_,rfl⟩
def aC5:∃p a,adr[2]?=some ⟨some 17,.makeSlice 125 (.tmp 16) (.tmp 16),125,p,a,none⟩:=⟨_,_,rfl⟩
def aC6:∃p a,adr[3]?=some ⟨some 8,.alloc 125,0,p,a,none⟩:=⟨_,_,rfl⟩
def aC7:∃p a,adr[4]?=some ⟨none,.store 125 (.tmp 8) (.tmp 17),0,p,a,none⟩:=⟨_,_,rfl⟩
def aC8:∃p a,nR[0]?=some ⟨some 9,.alloc dY.tWg,0,p,a,none⟩:=⟨_,_,rfl⟩
def aC9:∃p a,agI[0]?=some ⟨some 18,.move (.tmp 2),40,p,a,none⟩:=⟨_,_,rfl⟩
def aDa:∃p a,agI[1]?=some ⟨some 19,.call ⟨.builtin .len,#[.tmp 18],#[40]⟩,3,p,a,none⟩:=⟨_,_,rfl⟩
def aDb:∃p a,agI[2]?=some ⟨some 20,.move (.const (.int .i64 0)),3,p,a,none⟩:=⟨_,_,rfl⟩
def aDc:∃p a,asZ[0]?=some ⟨some 21,.binOp .lss 3 (.tmp 20) (.tmp 19) 3,0,p,a,none⟩:=⟨_,_,rfl⟩
def aDd:∃p a,ach[0]?=some ⟨some 22,.move (.tmp 20),3,p,a,none⟩:=⟨_,_,rfl⟩
def aDe:∃p a,ach[1]?=some ⟨some 23,.indexAddr 40 (.tmp 18) (.tmp 20),0,p,a,none⟩:=⟨_,_,rfl⟩
def aDf:∃p a,ach[2]?=some ⟨some 24,.load 3 (.tmp 23),3,p,a,none⟩:=⟨_,_,rfl⟩
def aDg:∃p a,ach[3]?=some ⟨some 10,.alloc 3,0,p,a,none⟩:=⟨_,_,rfl⟩
def aDh:∃p a,ach[4]?=some ⟨some 11,.alloc 3,0,p,a,none⟩:=⟨_,_,rfl⟩
def aDi:∃p a,ach[5]?=some ⟨none,.store 3 (.tmp 10) (.tmp 22),0,p,a,none⟩:=⟨_,_,rfl⟩
def aDj:∃p a,ach[6]?=some ⟨none,.store 3 (.tmp 11) (.tmp 24),0,p,a,none⟩:=⟨_,_,rfl⟩
def aBl:∃p a,aax[0]?=some ⟨some 25,.call ⟨.value (.func dY.add),#[.tmp 9,.const (.int .i64 1)],#[dY.tWg,3]⟩,0,p,a,none⟩:=⟨_,_,rfl⟩
def aDk:∃p a,lG[0]?=some ⟨some 26,.makeFunc (.func nCl) #[] #[.tmp 9,.tmp 3,.tmp 4,.tmp 11,.tmp 8,.tmp 10],1,p,a,none⟩:=⟨_,_,rfl⟩
def aDl:∃p a,lG[1]?=some ⟨none,.go ⟨.value (.tmp 26),#[],#[]⟩,0,p,a,none⟩:=⟨_,_,rfl⟩
def aDm:∃p a,aj7[0]?=some ⟨some 27,.binOp .add 3 (.tmp 20) (.const (.int .i64 1)) 3,3,p,a,none⟩:=⟨_,_,rfl⟩
def aDn:∃p a,aj7[1]?=some ⟨some 20,.move (.tmp 27),3,p,a,none⟩:=⟨_,_,rfl⟩
def aBm:∃p a,jF[0]?=some ⟨some 28,.call ⟨.value (.func dY.wait),#[.tmp 9],#[dY.tWg]⟩,0,p,a,none⟩:=⟨_,_,rfl⟩
def wl  :seen P f #[]=#[]:=by
 rw[Array.eq_empty_iff_size_eq_zero];rcases h:(seen P f #[]).size with _|n
 .rfl
 .exact(ace _ (Array.getElem_mem (xs:=seen P f #[]) (i:=0) (by omega))).elim
def avz{T:Array Value}{base : List Frame}(h:T.getD 26 undef=.func (.func nCl) #[] X) :
  stepG prog true (Gl (FQ cx T (.inRegion lG [1]::k)::xs) base) w=.spawn (Gl (FQ cx T (.inRegion lG []::k)::xs) base) (born prog ⟨.fn (.func nCl) X,#[]⟩) w #[]:=by
 obtain⟨p,a,d⟩:=aDl;have b:(execOp (Frame.eval (FQ cx T (.inRegion lG [1]::k))) ⟨none,.go ⟨.value (.tmp 26),#[],#[]⟩,0,p,a,none⟩).runT prog w #[]=(.ok (.spawn ⟨.fn (.func nCl) X,#[]⟩) w,#[]):=by
  have g:Frame.eval (FQ cx T (.inRegion lG [1]::k)) (.tmp 26)=.func (.func nCl) #[] X:=h;simp only[execOp,resolve,g];simp[Deferred.ofValue]
 have e:∀y,Region.wanted ⟨none,.go ⟨.value (.tmp 26),#[],#[]⟩,0,p,a,none⟩ y=true:=λy=>rfl;have f:stepG prog true (Gl (FQ cx T (.inRegion lG [1]::k)::xs) base) w =
   stepG.apply prog true (FQ cx T (.inRegion lG [1]::k)) (xs++base) none (execOp (Frame.eval (FQ cx T (.inRegion lG [1]::k))) ⟨none,.go ⟨.value (.tmp 26),#[],#[]⟩,0,p,a,none⟩) w:=by
  simp[Gl,stepG,stepG.exec,stepG.oper,Frame.oper?,d,e]
 rw[f];unfold stepG.apply;simp only[b,pb];have i:(CallKind.normal ==CallKind.early)=false:=rfl;simp[GStep.after,i,Gl,Frame.finish,d,born,wl]
section
variable {P:Program} {w:World} {e:Operand->Value} {x y:Operand} {v:Value} {dst:Option Tmp} {t ty:TypeId} {pos:String} {af:Array Edge} {gd:Option (Nat×Bool)}
def as1(h:e x=v)(a:v.cells=#[v]):(execOp e ⟨dst,.box t x,ty,pos,af,gd⟩).runT P w #[]=(.ok (.value (.pointer (some ⟨w.heap.size,0,none⟩))) (w.alloc (.cells #[v] t)),#[]):=by
 simp[execOp,Instr.box,newVar,newRow,h,a]
def agK(h:e x=v):(execOp e ⟨dst,.assign x,ty,pos,af,gd⟩).runT P w #[]=(.ok (.value v) w,#[]):=by
 simp[execOp,h]
def aaa{i:TypeInfo}(hi:P.info? t=some i)(a:i.zero=some v):(execOp e ⟨dst,.alloc t,ty,pos,af,gd⟩).runT P w #[]=(.ok (.value (.pointer (some ⟨w.heap.size,0,none⟩))) (w.alloc (.cells v.cells t)),#[]):=by
 simp[execOp,Instr.alloc,zeroValue,typeInfo,hi,a,newVar,newRow]
def agL{i:TypeInfo}{A:Addr}{u:Value}(hi:P.info? t=some i)(n:i.size=1)(k:alX v=true)(a:v.cells=#[v])(m:e x=.pointer (some A))(j:e y=v)(l:w.cell? A=some u)(d:w.frozen? A=false) :
  (execOp e ⟨dst,.store t x y,ty,pos,af,gd⟩).runT P w #[]=(.ok .skip (w.setCell A v),#[⟨.cell A,true,false⟩]):=by
 have b:(storeCells A [v] 0).runT P w #[]=(.ok () (w.setCell A v),#[⟨.cell A,true,false⟩]):=by
  show(Sem.store .plain (A.add 0) v (Sem.pure ())).runT P w #[]=_;have f:A.add 0=A:=by unfold Addr.add;simp
  rw[f,aa7 k l d];rfl
 have c:(storeCells A [v] 0).run P w=.ok () (w.setCell A v):=by
  rw[<-rc _ _ _ #[]];exact fi Prod.fst b
 have g:(storeCells A [v] 0).events P w #[]=#[⟨.cell A,true,false⟩]:=fi Prod.snd b;simp[execOp,m,j,Instr.storeAt,Instr.sureAddr,storeVar,sizeOf,typeInfo,hi,n,a,c,g]
def aj8(F:FaT P){s:Tmp}(h:e (.tmp s)=.slice A n c):(execOp e ⟨dst,.call ⟨.builtin .len,#[.tmp s],#[40]⟩,ty,pos,af,gd⟩).runT P w #[]=(.ok (.value (.int .i64 n)) w,#[]):=by
 rw[oZ (s:=λv=>Builtin.len_ #[40] ty #[v]) λ_ v=>rfl,h];change Sem.runT P (Builtin.len_ #[40] ty #[.slice A n c] >>=λu=>pure (Next.value u)) w #[]=_;simp[Builtin.len_,lm F.u31,goInt]
def aj9{fn:Fn}{a:Array Operand}(h:a.map e=X):(execOp e ⟨dst,.makeFunc fn #[] a,ty,pos,af,gd⟩).runT P w #[]=(.ok (.value (.func fn #[] X)) w,#[]):=by
 simp[execOp,Instr.makeFunc,h]
def avA(F:FaT P)(m:(n:Int)<=2147483647)(b:e x=.int .i64 n):∃c:Array Value,c.size=2*n/\(execOp e ⟨dst,.makeSlice 125 x x,ty,pos,af,gd⟩).runT P w #[]=(.ok (.value (.slice (some ⟨w.heap.size,0,none⟩) n n)) (w.alloc (.cells c 136)),#[]):=by
 obtain⟨c,k,g⟩:=anG F (w:=w) (dst:=dst) (ty:=ty) (pos:=pos) (af:=af) (gd:=gd) m b;refine⟨c,k,Prod.ext ((rc _ _ _ _).trans g) ?_⟩;obtain⟨i,l,o,a,f⟩:=F.adK;have d:=events_make w 125 136 i _ F.ahL l f .i64 .i64 n n (by omega) (ui _) (by rw[a];omega) (by omega) (by rw[a];omega) #[];show(execOp e ⟨dst,.makeSlice 125 x x,ty,pos,af,gd⟩).events P w #[]=#[];have j:execOp e ⟨dst,.makeSlice 125 x x,ty,pos,af,gd⟩=(Instr.makeSlice 125 (e x) (e x)).bind λv=>Sem.pure (.value v):=rfl;rw[j,b,Sem.events_bind',d];cases(Instr.makeSlice 125 (.int .i64 n) (.int .i64 n)).run P w<;>rfl
def avB{a:Int}{y:Operand}(d:e x=.int .i64 a)(c:e y=.int .i64 1)(g:0<=a)(f:a<2147483647):(execOp e ⟨dst,.binOp .add 3 x y 3,ty,pos,af,gd⟩).runT P w #[]=(.ok (.value (.int .i64 (a+1))) w,#[]):=by
 have:execOp e ⟨dst,.binOp .add 3 x y 3,ty,pos,af,gd⟩=(binOp .add 3 (e x) (e y)).bind λv=>Sem.pure (.value v):=rfl;rw[this,d,c];have b:IntKind.i64.wrap (a+1)=a+1:=by rw[tG];omega
 show(Result.ok (Next.value (.int .i64 (IntKind.i64.wrap (a+1)))) w,#[])=_;rw[b]
end
end
section
open Go.Conc Go.ConcN Go.RowKit
section
variable {Rl:ak->World->World->Prop} {St:ak->Goroutine->World->Prop} {S Rr:ak} {w0:World} {T:Array Value} {k:List Item} {xs base:List Frame}
structure Kp (S Rr:ak) (w0:World) (S':ak) (w':World):Prop where
 keep:∀b,b<w0.heap.size->S b\/Rr b->w'.heap[b]?=w0.heap[b]?
 size:w0.heap.size<=w'.heap.size
 os:w'.ou=w0.ou
 mono:∀b,S b->S' b
 new:∀b,S' b->S b\/(w0.heap.size<=b/\b<w'.heap.size)
def Kp.rl(H:px Rl Rr)(h:Rl S w0 V):Kp S Rr w0 S V:=let⟨a,b,c⟩:=H.rl _ _ _ h;⟨λx _ d=>a x d,b,c,λ_ h=>h,λ_ h=>.inl h⟩
def Kp.alloc(S Rr:ak)(w:World)(ob:Obj):Kp S Rr w (SN S w (w.alloc ob)) (w.alloc ob):=
 ⟨λb a _=>se w _ b a,by rw[me];omega,rfl,λ_ h=>.inl h,λ_ h=>h⟩
def Kp.trans{w2 : World}(a:Kp S Rr w0 R V)(b:Kp R Rr V aS w2):Kp S Rr w0 aS w2:=
 ⟨λx c h=>(b.keep x (aE c a.size) (h.imp (a.mono x) id)).trans (a.keep x c h),bd a.size b.size,b.os.trans a.os,λx h=>b.mono x (a.mono x h),λx h=>(b.new x h).elim (λh=>(a.new x h).imp id λh=>⟨h.1,aE h.2 b.size⟩) λh=>.inr ⟨bd a.size h.1,h.2⟩⟩
def ko(w:World)(ob:Obj):(w.alloc ob).heap[w.heap.size]?=some ob:=by
 show(w.heap.push _)[_]?=_;rw[qO]
def kY(S:ak)(w:World)(ob:Obj):SN S w (w.alloc ob) w.heap.size:=.inr ⟨am _,by rw[me];omega⟩
def avC (H:px Rl Rr) (hZ:45<=Y) (hz:T.size=Y)   (N:T.getD 0 undef=.int .i64 key) (P:T.getD 1 undef=.slice A n c)
  (K:∀(T':Array Value) (i:ak) (e:World) (f g:Nat),T'.size=Y->(∀t,t≠3->t≠4->t≠6->t≠7->T'.getD t undef=T.getD t undef)->T'.getD 3 undef=.pointer (some ⟨f,0,none⟩)->T'.getD 4 undef=.pointer (some ⟨g,0,none⟩)->
   T'.getD 6 undef=.slice none 0 0->T'.getD 7 undef=.bool false->Kp S Rr w0 i e->i f->i g->w0.heap.size<=f->f<g->e.heap[f]?=some (.cells #[.int .i64 key] 3)->e.heap[g]?=some (.cells #[.slice A n c] 23)->bD prog true Rl (pw Rr) St i (Gl (FQ cx T' k::xs) base) e) :
  bD prog true Rl (pw Rr) St S (Gl (FQ cx T (.inRegion agH [0,1,2,3]::k)::xs) base) w0:=by
 obtain⟨p0,a0,y⟩:=aCZ;obtain⟨p1,a1,G⟩:=aC0;obtain⟨X,a2,D⟩:=aC1;obtain⟨W,a3,V⟩:=aC2;refine mC H (d:=3) (ob:=.cells #[.int .i64 key] 3) (by show(3:Nat)<_;omega) y rfl rfl (λw=>as1 (x:=.tmp 0) N rfl) (λa I T1 z1 B s=> ?_) w0 (H.fu _ _);refine mC H (d:=4) (ob:=.cells #[.slice A n c] 23) (by show(4:Nat)<_;omega) G rfl rfl (λw=>as1 (x:=.tmp 1) ((s 1 (by decide)).trans P) rfl) (λb z T2 z2 F u=> ?_);refine bJ H.cmp (d:=6) (v:=.slice none 0 0) (es:=#[]) (by show(6:Nat)<_;omega) D rfl rfl (λw _=>agK rfl) (λw _=>bj _) (λT3 z3 M l=> ?_);refine bJ H.cmp (d:=7) (v:=.bool false) (es:=#[]) (by show(7:Nat)<_;omega) V rfl rfl (λw _=>agK rfl) (λw _=>bj _) (λE Z U j=> ?_);refine gQ H.cmp λe m=> ?_;have r:=Kp.rl H I;have J:=Kp.alloc S Rr a (.cells #[.int .i64 key] 3);have q:=Kp.rl H z;have p:=Kp.alloc (SN S a (a.alloc (.cells #[.int .i64 key] 3))) Rr b (.cells #[.slice A n c] 23);have o:=Kp.rl H m;have s1:(a.alloc (.cells #[.int .i64 key] 3)).heap.size=a.heap.size+1:=me _ _;have s2:(b.alloc (.cells #[.slice A n c] 23)).heap.size=b.heap.size+1:=me _ _;have Q:=r.size;have g2:=q.size;refine K E _ e a.heap.size b.heap.size (by omega) (λt O L C R=> ?_) ?_ ?_ ?_ U ((((r.trans J).trans q).trans p).trans o) (p.mono _ (kY S a _)) (kY _ b _) Q (by omega) ?_ ?_
 .rw[j t R,l t C,u t L,s t O]
 .rw[j 3 (by decide),l 3 (by decide),u 3 (by decide),B]
 .rw[j 4 (by decide),l 4 (by decide),F]
 .rw[j 6 (by decide),M]
 .rw[((q.trans p).trans o).keep a.heap.size (by omega) (.inl (kY S a _)),ko]
 .rw[o.keep b.heap.size (by omega) (.inl (kY _ b _)),ko]
end
section
variable {P:Program} {main:Bool} {Rl:ak->World->World->Prop} {St:ak->Goroutine->World->Prop} {S Rr:ak} {w0:World} {f:FuncId} {T:Array Value} {k:List Item} {xs base:List Frame}
def ayS (H:px Rl Rr)    {d:Tmp} {Q:Value->Obj->World->Prop} (l:d<T.size) (m:U[i]?=some o) (s:o.guard=none) (g:o.dst=some d)
  (p:∀w,∃v ob,Q v ob w/\(execOp (FQ f T (.inRegion U (i::rest)::k)).eval o).runT P w #[]=(.ok (.value v) (w.alloc ob),#[]))
  (u:∀w,Rl S w0 w->∀v ob,Q v ob w->∀T':Array Value,T'.size=T.size->T'.getD d undef=v->(∀t,t≠d->T'.getD t undef=T.getD t undef)->∀a,Rl (SN S w (w.alloc ob)) (w.alloc ob) a->bD P main Rl (pw Rr) St (SN S w (w.alloc ob)) (Gl (FQ f T' (.inRegion U rest::k)::xs) base) a) :
  ∀w,Rl S w0 w->bD P main Rl (pw Rr) St S (Gl (FQ f T (.inRegion U (i::rest)::k)::xs) base) w:=λw n=>by
 refine .step rfl λa j=> ?_;have z:=H.tr _ _ _ _ n j;obtain⟨v,ob,x,c⟩:=p a;refine⟨_,_,_,_,anC rfl rfl rfl rfl m s c,⟨λb r _=>se a _ b r,by rw[me];omega,rfl,rfl,λe y=>by cases(by simpa using sR y:False)⟩, ?_⟩;have:Frame.finish (FQ f T (.inRegion U (i::rest)::k)) v=FQ f (T.setIfInBounds d v) (.inRegion U rest::k):=by
  simp only[Frame.finish,m,qB,g]
 rw[this];exact u a z _ _ x _ (by simp) (by rw[aD l,dk rfl]) (λt q=>by rw[aD l,be q]) _ (H.fu _ _)
end
section
variable {w:World} {b:Nat} {u v:Value} {t:TypeId}
def tD(h:w.heap[b]?=some (.cells #[u] t)):w.cell? ⟨b,0,none⟩=some u/\w.frozen? ⟨b,0,none⟩=false:=by
 constructor
 .simp[World.cell?,h]
 .simp[World.frozen?,h]
def wj(h:w.heap[b]?=some (.cells #[u] t)):(w.setCell ⟨b,0,none⟩ v).heap[b]?=some (.cells #[v] t):=by
 simp[World.setCell,oE,h]
end
section
variable {Rl:ak->World->World->Prop} {St:ak->Goroutine->World->Prop} {S Rr:ak} {w0:World} {T:Array Value} {k:List Item} {xs base:List Frame}
def avD (H:px Rl Rr) (hZ:45<=Y) (hz:T.size=Y)  (hn:(n:Int)<=2147483647) (Z:T.getD 2 undef=.slice A n c)
  (K:∀(T':Array Value) (p:ak) (l:World) (C B:Nat) (g:Array Value),T'.size=Y->(∀t,t≠15->t≠16->t≠17->t≠8->T'.getD t undef=T.getD t undef)->T'.getD 8 undef=.pointer (some ⟨B,0,none⟩)->T'.getD 17 undef=.slice (some ⟨C,0,none⟩) n n->
   Kp S Rr w0 p l->p C->p B->w0.heap.size<=C->C<B->g.size=2*n->l.heap[C]?=some (.cells g 136)->l.heap[B]?=some (.cells #[.slice (some ⟨C,0,none⟩) n n] 125)->bD prog true Rl (pw Rr) St p (Gl (FQ cx T' k::xs) base) l) :
  bD prog true Rl (pw Rr) St S (Gl (FQ cx T (.inRegion adr [0,1,2,3,4]::k)::xs) base) w0:=by
 obtain⟨p0,a0,W⟩:=aC3;obtain⟨p1,a1,e1⟩:=aC4;obtain⟨p2,a2,e2⟩:=aC5;obtain⟨p3,a3,e3⟩:=aC6;obtain⟨p4,a4,e4⟩:=aC7;obtain⟨R,P,F,L⟩:=faT.i247;refine bJ H.cmp (d:=15) (v:=.slice A n c) (es:=#[]) (by show(15:Nat)<_;omega) W rfl rfl (λw _=>eR (x:=.tmp 2) Z) (λw _=>bj _) (λT1 z1 v1 r1=> ?_) w0 (H.fu _ _);refine bJ H.cmp (d:=16) (v:=.int .i64 n) (es:=#[]) (by show(16:Nat)<_;omega) e1 rfl rfl (λw _=>aj8 faT (s:=15) v1) (λw _=>bj _) (λT2 z2 v2 r2=> ?_);refine ayS H (d:=17) (Q:=λv ob w=>v=.slice (some ⟨w.heap.size,0,none⟩) n n/\∃g:Array Value,g.size=2*n/\ob=.cells g 136) (by show(17:Nat)<_;omega) e2 rfl rfl (λw=> ?_) (λa ha vv ob hq T3 z3 v3 X=> ?_)
 .obtain⟨g,q,hr⟩:=avA faT (w:=w) (x:=.tmp 16) (e:=Frame.eval (FQ cx T2 (.inRegion adr [2,3,4]::k))) hn v2;exact⟨_,_,⟨rfl,g,q,rfl⟩,hr⟩
 obtain⟨rfl,g,J,rfl⟩:=hq;refine mC H (d:=8) (ob:=.cells #[.slice none 0 0] 125) (by show(8:Nat)<_;omega) e3 rfl rfl (λw=>aaa P L) (λf D O z4 V U=> ?_);have o:O.getD 17 undef=.slice (some ⟨a.heap.size,0,none⟩) n n:=by rw[U 17 (by decide),v3]
 have s1:(a.alloc (.cells g 136)).heap.size=a.heap.size+1:=me _ _;have s2:(f.alloc (.cells #[.slice none 0 0] 125)).heap.size=f.heap.size+1:=me _ _;have N:=Kp.rl H ha;have kb:=Kp.alloc S Rr a (.cells g 136);have M:=Kp.rl H D;have r:=Kp.alloc (SN S a (a.alloc (.cells g 136))) Rr f (.cells #[.slice none 0 0] 125);have g1:=N.size;have g2:=M.size;have i:=kY (SN S a (a.alloc (.cells g 136))) f (.cells #[.slice none 0 0] 125);have I:∀{w},Rl (SN (SN S a (a.alloc (.cells g 136))) f (f.alloc (.cells #[.slice none 0 0] 125))) (f.alloc (.cells #[.slice none 0 0] 125)) w->w.heap[f.heap.size]?=some (.cells #[.slice none 0 0] 125):=λ{w} h=>by
  rw[(Kp.rl H h).keep f.heap.size (by omega) (.inl i),ko]
 refine ae7 H.cmp (A:=⟨f.heap.size,0,none⟩) (u:=.slice (some ⟨a.heap.size,0,none⟩) n n) e4 rfl rfl (λw h=>agL (x:=.tmp 8) (y:=.tmp 17) P F rfl rfl V o (tD (I h)).1 (tD (I h)).2) i (λw h=>abZ i (by have:=(Kp.rl H h).size;show f.heap.size<_;omega)) (λz q w1 cu=> ?_);refine gQ H.cmp (λl E=> ?_) w1 cu;have G:=Kp.rl H q;have m:=Kp.rl H E;have g3:=G.size;have a5:(z.setCell ⟨f.heap.size,0,none⟩ (.slice (some ⟨a.heap.size,0,none⟩) n n)).heap.size=z.heap.size:=ef _ _ _;have other:∀b,b≠f.heap.size->(z.setCell ⟨f.heap.size,0,none⟩ (.slice (some ⟨a.heap.size,0,none⟩) n n)).heap[b]?=z.heap[b]?:=λb h=>bc _ _ _ (λe=>h e.symm);have j:=((N.trans kb).trans M).trans (r.trans G);have g4:=m.size;refine K O _ l a.heap.size f.heap.size g (by omega) (λt q1 q2 q3 q4=> ?_) V o ⟨λb D h=> ?_,by have:=j.size;omega, ?_,j.mono,λb h=>(j.new b h).imp id λh=>⟨h.1,by omega⟩⟩ (r.mono _ (kY S a _)) i g1 (by omega) J ?_ ?_
 .rw[U t q4,X t q3,r2 t q2,r1 t q1]
 .exact(m.keep b (by have:=j.size;omega) (h.imp (j.mono b) id)).trans ((other b (by omega)).trans (j.keep b D h))
 .exact m.os.trans j.os
 .exact(m.keep a.heap.size (by omega) (.inl (r.mono _ (kY S a _)))).trans ((other _ (by omega)).trans (((M.trans (r.trans G)).keep a.heap.size (by omega) (.inl (kY S a _))).trans (ko a _)))
 .exact(m.keep f.heap.size (by omega) (.inl i)).trans (wj (I q))
end
end
section
open Go.Conc Go.ConcN Go.RowKit
open Go.ConcR (KK wgBlock WgAt stA smA rd wr mk Payload DC0)
def as2:(prog.info? dY.tWg).map (λi=>i.zero.map (·.cells))=some (some #[.int .u64 0,.int .u32 0]):=by kernel_rfl
def avE:∃i z,prog.info? dY.tWg=some i/\i.zero=some z/\z.cells=#[.int .u64 0,.int .u32 0]:=by
 have h:=as2;cases b:prog.info? dY.tWg with
 |none=>rw[b] at h;cases h
 |some i=>
  rw[b] at h;cases a:i.zero with
  |none=>simp[a] at h
  |some z=>
   simp only[qf,a,mt] at h;exact⟨i,z,rfl,a,h⟩
def jd{o:Obj}(h:w.heap[b]?=some o):b<w.heap.size:=(de.1 h).1
noncomputable def gq:Code:=.seq (.seq (.region 3 agI false) (.block 0 (.loop jc))) (.seq (.region 9 jF false) cI)
section
variable {Rl:ak->World->World->Prop} {St:ak->Goroutine->World->Prop} {S Rr:ak} {w0:World} {T:Array Value} {k:List Item} {xs base:List Frame}
def amx (H:px Rl Rr) (E:45<=Y) (O:T.size=Y) {A2 : Option Addr} (hn:(b:Int)<=2147483647) (h0:T.getD 0 undef=.int .i64 key) (h1:T.getD 1 undef=.slice A n c) (F:T.getD 2 undef=.slice A2 b i)
  (K:∀(T':Array Value) (x:ak) (g:World) (e d C j:Nat) (o:Array Value),T'.size=Y->(∀t,(t<3\/aau t=true)->T'.getD t undef=T.getD t undef)->
   T'.getD 3 undef=.pointer (some ⟨e,0,none⟩)/\T'.getD 4 undef=.pointer (some ⟨d,0,none⟩)/\T'.getD 6 undef=.slice none 0 0/\T'.getD 7 undef=.bool false/\T'.getD 8 undef=.pointer (some ⟨j,0,none⟩)/\T'.getD 17 undef=.slice (some ⟨C,0,none⟩) b b->
   Kp S Rr w0 x g->w0.heap.size<=e/\e<d/\d<C/\C<j->g.heap[e]?=some (.cells #[.int .i64 key] 3)->g.heap[d]?=some (.cells #[.slice A n c] 23)->o.size=2*b->g.heap[C]?=some (.cells o 136)->g.heap[j]?=some (.cells #[.slice (some ⟨C,0,none⟩) b b] 125)->
   bD prog true Rl (pw Rr) St x (Gl (FQ cx T' (.code (.region 2 nR false) :: .code gq::k)::xs) base) g) :
  bD prog true Rl (pw Rr) St S (Gl (FQ cx T (.code acg::k)::xs) base) w0:=by
 rw[as0];refine dT H.cmp (fI H.cmp (l:=[0,1,2,3]) rfl λwa R=>avC H E O h0 h1 λT1 S1 w1 e d M B t3 G J I k1 L sp lk N ck y=> ?_) w0 (H.fu _ _);refine dT H.cmp (fI H.cmp (l:=[0,1,2,3,4]) rfl λwb w=>avD H E M hn ((B 2 (by decide) (by decide) (by decide) (by decide)).trans F) λZ S2 w2 C j o z2 m t8 q P U Q lC la u W D=> ?_) w1 (H.fu _ _);refine dT H.cmp (λwc X=> ?_) w2 (H.fu _ _);have z:=Kp.rl H R;have s:=(Kp.rl H w).trans P;have f:=Kp.rl H X;have a1:=jd y;have a0:=jd D;have g1:=z.size;have g2:=(Kp.rl H w).size;have g3:=f.size;refine K Z S2 wc e d C j o z2 (λt a=> ?_) ⟨?_, ?_, ?_, ?_,t8,q⟩ (((z.trans k1).trans s).trans f) ⟨by omega,N,by omega,la⟩ ?_ ?_ u ?_ ?_
 .have p:t≠15:=by rintro rfl;exact absurd a (by decide)
  have r:t≠16:=by rintro rfl;exact absurd a (by decide)
  have v:t≠17:=by rintro rfl;exact absurd a (by decide)
  have e8:t≠8:=by rintro rfl;exact absurd a (by decide)
  have e3:t≠3:=by rintro rfl;exact absurd a (by decide)
  have V:t≠4:=by rintro rfl;exact absurd a (by decide)
  have e6:t≠6:=by rintro rfl;exact absurd a (by decide)
  have e7:t≠7:=by rintro rfl;exact absurd a (by decide)
  rw[m t p r v e8,B t e3 V e6 e7]
 .rw[m 3 (by decide) (by decide) (by decide) (by decide),t3]
 .rw[m 4 (by decide) (by decide) (by decide) (by decide),G]
 .rw[m 6 (by decide) (by decide) (by decide) (by decide),J]
 .rw[m 7 (by decide) (by decide) (by decide) (by decide),I]
 .rw[(s.trans f).keep e (by omega) (.inl L),ck]
 .rw[(s.trans f).keep d (by omega) (.inl sp),y]
 .rw[f.keep C (by omega) (.inl U),W]
 .rw[f.keep j (by omega) (.inl Q),D]
end
end
section
open Go.Conc Go.ConcN Go.RowKit
section
variable {Rl:ak->World->World->Prop} {St:ak->Goroutine->World->Prop} {S Rr:ak} {w0:World} {T:Array Value} {k:List Item} {xs base:List Frame}
def avF (H:px Rl Rr) (G:45<=Y) (E:T.size=Y)  (i:T.getD 2 undef=.slice A n c)
  (K:∀T':Array Value,T'.size=Y->(∀t,t≠18->t≠19->t≠20->T'.getD t undef=T.getD t undef)->T'.getD 18 undef=.slice A n c->T'.getD 19 undef=.int .i64 n->T'.getD 20 undef=.int .i64 0->
   ∀b,Rl S w0 b->bD prog true Rl (pw Rr) St S (Gl (FQ cx T' k::xs) base) b) :
  bD prog true Rl (pw Rr) St S (Gl (FQ cx T (.inRegion agI [0,1,2]::k)::xs) base) w0:=by
 obtain⟨L,J,g⟩:=aC9;obtain⟨F,M,u⟩:=aDa;obtain⟨z,N,q⟩:=aDb;refine bJ H.cmp (d:=18) (v:=.slice A n c) (es:=#[]) (by show(18:Nat)<_;omega) g rfl rfl (λw _=>eR (x:=.tmp 2) i) (λw _=>bj _) (λB D e j=> ?_) w0 (H.fu _ _);refine bJ H.cmp (d:=19) (v:=.int .i64 n) (es:=#[]) (by show(19:Nat)<_;omega) u rfl rfl (λw _=>aj8 faT (s:=18) e) (λw _=>bj _) (λO C r f=> ?_);refine bJ H.cmp (d:=20) (v:=.int .i64 0) (es:=#[]) (by show(20:Nat)<_;omega) q rfl rfl (λw _=>eR rfl) (λw _=>bj _) (λm I l a=> ?_);refine gQ H.cmp (K m (by omega) (λt o y p=>by rw[a t p,f t y,j t o]) (by rw[a 18 (by decide),f 18 (by decide),e]) (by rw[a 19 (by decide),r]) l)
def anW (H:px Rl Rr) (l:45<=Y) (q:T.size=Y) (a:T.getD 20 undef=.int .i64 i) (b:T.getD 19 undef=.int .i64 n)
  (K:∀T':Array Value,T'.size=Y->(∀t,t≠21->T'.getD t undef=T.getD t undef)->T'.getD 21 undef=.bool (decide (i<n))->
   ∀c,Rl S w0 c->bD prog true Rl (pw Rr) St S (Gl (FQ cx T' k::xs) base) c) :
  bD prog true Rl (pw Rr) St S (Gl (FQ cx T (.inRegion asZ [0]::k)::xs) base) w0:=by
 obtain⟨o,m,e⟩:=aDc;refine bJ H.cmp (d:=21) (v:=.bool (decide ((i:Int)<n))) (es:=#[]) (by show(21:Nat)<_;omega) e rfl rfl (λw _=>asM (x:=.tmp 20) (y:=.tmp 19) a b) (λw _=>bj _) (λg p j f=> ?_) w0 (H.fu _ _);exact gQ H.cmp (K g (by omega) f (by rw[j];congr 1;exact ut.2 (by omega)))
end
def apS:(prog.info? 3).map (λi=>(i.size,i.zero))=some (1,some (.int .i64 0)):=by kernel_rfl
def aka:∃i,prog.info? 3=some i/\i.size=1/\i.zero=some (.int .i64 0):=by
 have h:=apS;cases a:prog.info? 3 with
 |none=>rw[a] at h;cases h
 |some i=>
  rw[a] at h;simp only[qf,mt,uO] at h;exact⟨i,rfl,h⟩
section
variable {P:Program} {w:World} {e:Operand->Value} {x y:Operand} {dst:Option Tmp} {ty:TypeId} {pos:String} {af:Array Edge} {gd:Option (Nat×Bool)}
def amy{i:TypeInfo}(g:P.underlying 40=some (.slice 3))(hi:P.info? 3=some i)(f:i.size=1)(k:e x=.slice (some a) n c)(d:e y=.int .i64 j)(b:j<n) :
  (execOp e ⟨dst,.indexAddr 40 x y,ty,pos,af,gd⟩).runT P w #[]=(.ok (.value (.pointer (some (a.add j)))) w,#[]):=by
 simp[execOp,k,d,Instr.indexAt,asIntOf,lm g,b,sizeOf,typeInfo,hi,f]
end
section
variable {Rl:ak->World->World->Prop} {St:ak->Goroutine->World->Prop} {S Rr:ak} {w0:World} {T:Array Value} {k:List Item} {xs base:List Frame}
def as3 (H:px Rl Rr)   {p:String} {af:Array Edge} {d s:Tmp} {u v:Int} (F:U[i]?=some ⟨none,.store 3 (.tmp d) (.tmp s),0,p,af,none⟩) (t:T.getD d undef=.pointer (some ⟨b,0,none⟩)) (G:T.getD s undef=.int .i64 v)
  (n:S b) (q:w0.heap[b]?=some (.cells #[.int .i64 u] 3))
  (K:∀a,Kp S Rr (w0.setCell ⟨b,0,none⟩ (.int .i64 v)) S a->(∀x,x≠b->S x\/Rr x->a.heap[x]?=w0.heap[x]?)->w0.heap.size<=a.heap.size->a.ou=w0.ou->a.heap[b]?=some (.cells #[.int .i64 v] 3)->bD prog true Rl (pw Rr) St S (Gl (FQ cx T (.inRegion U rest::k)::xs) base) a) :
  bD prog true Rl (pw Rr) St S (Gl (FQ cx T (.inRegion U (i::rest)::k)::xs) base) w0:=by
 obtain⟨M,I,E, -⟩:=aka;have z:=jd q;have l:∀{w},Rl S w0 w->w.heap[b]?=some (.cells #[.int .i64 u] 3):=λ{w} h=>by rw[(Kp.rl H h).keep b z (.inl n),q]
 refine ae7 H.cmp (A:=⟨b,0,none⟩) (u:=.int .i64 v) F rfl rfl (λw h=>agL (x:=.tmp d) (y:=.tmp s) I E rfl rfl t G (tD (l h)).1 (tD (l h)).2) n (λw h=>abZ n (jd (l h))) (λj f o D=> ?_) w0 (H.fu _ _);have g:=H.rl _ _ _ f;have c:=H.rl _ _ _ D;have B:(j.setCell ⟨b,0,none⟩ (.int .i64 v)).heap.size=j.heap.size:=ef _ _ _;have other:∀x,x≠b->(j.setCell ⟨b,0,none⟩ (.int .i64 v)).heap[x]?=j.heap[x]?:=λx h=>bc _ _ _ (λe=>h e.symm);have r:o.heap[b]?=some (.cells #[.int .i64 v] 3):=(c.1 b (.inl n)).trans (wj (l f));have same:∀x,x≠b->S x\/Rr x->o.heap[x]?=w0.heap[x]?:=λx h m=>(c.1 x m).trans ((other x h).trans (g.1 x m));have C:(w0.setCell ⟨b,0,none⟩ (.int .i64 v)).heap.size=w0.heap.size:=ef _ _ _;have L:=g.2.1;have J:=c.2.1;refine K o ⟨λx _ m=> ?_,by omega,(c.2.2.trans g.2.2),λ_ h=>h,λ_ h=>.inl h⟩ same (by omega) (c.2.2.trans g.2.2) r;by_cases e:x=b
 .rw[e,r,wj q]
 .rw[same x e m,bc _ _ _ (λh=>e h.symm)]
end
section
variable {P:Program} {S Rr:ak}
def avG{A:Addr}{B:Nat}(d:Rr A.block)(g:A.block<B):∀e∈seen P f #[⟨.cell A,false,false⟩],my S Rr B e:=λe c=>by
 have h:=sR c;simp only[sd,jp,rA,tR] at h;subst h;refine⟨λx a=>.inr ?_,λm b=>(by cases b),g⟩;simp[MemAct.ofEvent,MemAct.touch?] at a;rw[<-a];exact⟨d,rfl⟩
end
section
variable {Rl:ak->World->World->Prop} {St:ak->Goroutine->World->Prop} {S Rr:ak} {w0:World} {T:Array Value} {k:List Item} {xs base:List Frame}
def avH (H:px Rl Rr) (hZ:45<=Y) (hz:T.size=Y)  {nm:Int} (V:T.getD 18 undef=.slice A n c) (u:T.getD 20 undef=.int .i64 j) (hj:j<n) (U:ajA w0 A j nm) (hR:∀a,A=some a->Rr a.block)
  (K:∀(T':Array Value) (F:ak) (G:World) (s E:Nat),T'.size=Y->(∀t,t≠22->t≠23->t≠24->t≠10->t≠11->T'.getD t undef=T.getD t undef)->T'.getD 10 undef=.pointer (some ⟨s,0,none⟩)->T'.getD 11 undef=.pointer (some ⟨E,0,none⟩)->
   Kp S Rr w0 F G->F s->F E->w0.heap.size<=s->s<E->G.heap[s]?=some (.cells #[.int .i64 j] 3)->G.heap[E]?=some (.cells #[.int .i64 nm] 3)->bD prog true Rl (pw Rr) St F (Gl (FQ cx T' k::xs) base) G) :
  bD prog true Rl (pw Rr) St S (Gl (FQ cx T (.inRegion ach [0,1,2,3,4,5,6]::k)::xs) base) w0:=by
 obtain⟨p0,a0,e0⟩:=aDd;obtain⟨p1,a1,e1⟩:=aDe;obtain⟨p2,a2,e2⟩:=aDf;obtain⟨p3,a3,e3⟩:=aDg;obtain⟨p4,a4,e4⟩:=aDh;obtain⟨p5,a5,e5⟩:=aDi;obtain⟨p6,a6,e6⟩:=aDj;obtain⟨a,rfl,g,ad⟩:=U;obtain⟨i3,o,Q,r⟩:=aka;have C:=hR a rfl;have m:(a.add j).block=a.block:=rm a j;have a7:=fT g;have jG:∀{w},Rl S w0 w->w.cell? (a.add j)=some (.int .i64 nm):=λ{w} h=>(fR (by rw[m];exact(H.rl _ _ _ h).1 a.block (.inr C))).trans g
 refine bJ H.cmp (d:=22) (v:=.int .i64 j) (es:=#[]) (by show(22:Nat)<_;omega) e0 rfl rfl (λw _=>eR (x:=.tmp 20) u) (λw _=>bj _) (λT1 z1 v1 r1=> ?_) w0 (H.fu _ _);refine bJ H.cmp (d:=23) (v:=.pointer (some (a.add j))) (es:=#[]) (by show(23:Nat)<_;omega) e1 rfl rfl (λw _=>amy faT.u31 o Q (x:=.tmp 18) (y:=.tmp 20) ((r1 18 (by decide)).trans V) ((r1 20 (by decide)).trans u) hj) (λw _=>bj _) (λT2 z2 v2 r2=> ?_);refine bJ H.cmp (d:=24) (v:=.int .i64 nm) (es:=#[⟨.cell (a.add j),false,false⟩]) (by show(24:Nat)<_;omega) e2 rfl rfl (λw P=>aj2 underlying3 rfl (x:=.tmp 23) v2 (jG P)) (λw P=>avG (by rw[m];exact C) (aE a7 (H.rl _ _ _ P).2.1)) (λT3 z3 v3 r3=> ?_);refine mC H (d:=10) (ob:=.cells #[.int .i64 0] 3) (by show(10:Nat)<_;omega) e3 rfl rfl (λw=>aaa o r) (λe ha T4 z4 v4 r4=> ?_);refine mC H (d:=11) (ob:=.cells #[.int .i64 0] 3) (by show(11:Nat)<_;omega) e4 rfl rfl (λw=>aaa o r) (λl hb J z5 v5 L w1 cu=> ?_);have s1:(e.alloc (.cells #[.int .i64 0] 3)).heap.size=e.heap.size+1:=me _ _;have s2:(l.alloc (.cells #[.int .i64 0] 3)).heap.size=l.heap.size+1:=me _ _;have ka:=(Kp.rl H ha).trans (Kp.alloc S Rr e (.cells #[.int .i64 0] 3));have W:=Kp.rl H hb;have kc:=Kp.alloc (SN S e (e.alloc (.cells #[.int .i64 0] 3))) Rr l (.cells #[.int .i64 0] 3);have I:=Kp.rl H cu;have g0:=(Kp.rl H ha).size;have g1:=W.size;have g2:=I.size;have i:=kc.mono _ (kY S e (.cells #[.int .i64 0] 3));have f:=kY (SN S e (e.alloc (.cells #[.int .i64 0] 3))) l (.cells #[.int .i64 0] 3);have ci:w1.heap[e.heap.size]?=some (.cells #[.int .i64 0] 3):=by
  rw[((W.trans kc).trans I).keep e.heap.size (by omega) (.inl (kY S e _)),ko]
 have cn:w1.heap[l.heap.size]?=some (.cells #[.int .i64 0] 3):=by
  rw[I.keep l.heap.size (by omega) (.inl f),ko]
 have D:J.getD 10 undef=.pointer (some ⟨e.heap.size,0,none⟩):=by rw[L 10 (by decide),v4]
 have M:J.getD 22 undef=.int .i64 j:=by rw[L 22 (by decide),r4 22 (by decide),r3 22 (by decide),r2 22 (by decide),v1]
 have R:J.getD 24 undef=.int .i64 nm:=by rw[L 24 (by decide),r4 24 (by decide),v3]
 refine as3 H e5 D M i ci (λw2 _ z z6 o6 Z=> ?_);have a8:w2.heap[l.heap.size]?=some (.cells #[.int .i64 0] 3):=(z _ (by omega) (.inl f)).trans cn;refine as3 H e6 v5 R f a8 (λw3 _ B z7 o7 X=> ?_);refine gQ H.cmp (λw4 N=> ?_) w3 (H.fu _ _);have q:=Kp.rl H N;have p:=((ka.trans W).trans kc).trans I;have aa:=p.size;refine K J _ w4 e.heap.size l.heap.size (by omega) (λt q1 q2 q3 q4 q5=> ?_) D v5 ⟨λb a9 h=> ?_, ?_, ?_,p.mono,λb h=>(p.new b h).imp id λh=>⟨h.1, ?_⟩⟩ i f g0 (by omega) ?_ ?_
 .rw[L t q5,r4 t q4,r3 t q3,r2 t q2,r1 t q1]
 .have O:=h.imp (p.mono b) id;rw[q.keep b (by omega) O,B b (by omega) O,z b (by omega) O,p.keep b a9 h]
 .have:=q.size;omega
 .rw[q.os,o7,o6,p.os]
 .have:=q.size;omega
 .rw[q.keep _ (by omega) (.inl i),B _ (by omega) (.inl i),Z]
 .rw[q.keep _ (by omega) (.inl f),X]
end
end
section
open Go.Conc Go.ConcN Go.RowKit
open Go.ConcR (KK wgBlock WgAt stA smA rd wr mk Payload DC0)
structure Mx where
 wE:World
 Wg:Nat
 C:Nat
 n2:Nat
 Rg:Nat->Prop
 key:Int
 A:Option Addr
 n:Nat
 c:Nat
 l:List ij
 A2:Option Addr
 c2:Nat
 di:List Int
 bk:Nat
 bp:Nat
 ba:Nat
 sv:Nat->Value
 Z:Nat
 V:ak
structure Mx.Ok (X:Mx):Prop where
 hN:gN<=X.wE.heap.size
 gl:∀g∈gL,X.Rg g
 k1:1<=X.key
 k2:X.key<=99
 hl:X.l.length=X.n
 hc:X.n<=X.c
 hcm:(X.c:Int)<=9223372036854775807
 gr:∀g∈gL,dU X.wE g
 rd:RdP X.wE X.A 0 X.l
 rgp:RgP X.Rg X.wE X.A X.l
 al:∀a,X.A=some a->X.Rg a.block
 al2:∀a,X.A2=some a->X.Rg a.block
 nm:∀i nm,X.di[i]?=some nm->ajA X.wE X.A2 i nm
 nn:X.di.length=X.n2
 n2m:(X.n2:Int)<=2147483647
 cW:X.C≠X.Wg
 vr:∀b,X.Rg b->X.V b
structure Mx.At (X:Mx) (R:ak) (w:World):Prop where
 keep:∀b,X.V b->w.heap[b]?=X.wE.heap[b]?
 sz:X.wE.heap.size<=w.heap.size
 os:w.ou=X.wE.ou
 rows:∀b,X.V b->R b
 rk:R X.bk/\w.heap[X.bk]?=some (.cells #[.int .i64 X.key] 3)
 rp:R X.bp/\w.heap[X.bp]?=some (.cells #[.slice X.A X.n X.c] 23)
 ra:R X.ba/\w.heap[X.ba]?=some (.cells #[.slice (some ⟨X.C,0,none⟩) X.n2 X.n2] 125)
 rlt:∀b,R b->b<w.heap.size
 rC:¬R X.C
 rW:¬R X.Wg
 ltC:X.C<w.heap.size
 ltW:X.Wg<w.heap.size
section
variable {X:Mx} {R S S':ak} {w w':World} {es:Array Event}
def Mx.At.move(h:X.At R w)(a:∀b,R b->w'.heap[b]?=w.heap[b]?)(d:w.heap.size<=w'.heap.size)(e:w'.ou=w.ou):X.At R w':=
 ⟨λb c=>(a b (h.rows b c)).trans (h.keep b c),bd h.sz d,e.trans h.os,h.rows,⟨h.rk.1,(a _ h.rk.1).trans h.rk.2⟩,⟨h.rp.1,(a _ h.rp.1).trans h.rp.2⟩,⟨h.ra.1,(a _ h.ra.1).trans h.ra.2⟩,
  λb c=>aE (h.rlt b c) d,h.rC,h.rW,aE h.ltC d,aE h.ltW d⟩
def Mx.At.grow(h:X.At R w)(c:∀b,S b->b<w.heap.size/\b≠X.C/\b≠X.Wg):X.At (λb=>S b\/R b) w:=
 ⟨h.keep,h.sz,h.os,λb a=>.inr (h.rows b a),⟨.inr h.rk.1,h.rk.2⟩,⟨.inr h.rp.1,h.rp.2⟩,⟨.inr h.ra.1,h.ra.2⟩,λb a=>a.elim (λx=>(c b x).1) (h.rlt b),
  λa=>a.elim (λx=>(c _ x).2.1 rfl) h.rC,λa=>a.elim (λx=>(c _ x).2.2 rfl) h.rW,h.ltC,h.ltW⟩
def Mx.At.rgp(a:X.Ok)(h:X.At R w):RgP X.Rg w X.A X.l:=a.rgp.move a.al λb c=>h.keep b (a.vr b c)
def Mx.At.gr(a:X.Ok)(h:X.At R w):∀g∈gL,dU w g:=λg b=>by
 obtain⟨c,t,z,e⟩:=a.gr g b;exact⟨c,t,z,(h.keep g (a.vr g (a.gl g b))).trans e⟩
def Mx.At.rd(a:X.Ok)(h:X.At R w):RdP w X.A 0 X.l:=a.rd.mask a.rgp a.al λ_ _ c b _=>(fR (h.keep _ (a.vr _ b))).trans c
def Mx.At.nm(c:X.Ok)(h:X.At R w){nm:Int}(hi:X.di[i]?=some nm):ajA w X.A2 i nm:=by
 obtain⟨a,e,d,b⟩:=c.nm i nm hi;exact⟨a,e,(fR (by rw[rm];exact h.keep _ (c.vr _ (c.al2 a e)))).trans d,b⟩
abbrev Mx.Rl(X:Mx)(R:ak):ak->World->World->Prop:=jz dY.tWg X.Wg X.C (2*X.n2) R noC
abbrev Mx.Gr(X:Mx)(R:ak):ak->ak->World->World->Array Event->Prop:=Gua X.Wg X.C (2*X.n2) R noC
def Mx.mD(X:Mx)(R:ak):px (X.Rl R) R:=⟨λS w=>jz.refl _ _ _ _,λ_ _ _ _=>jz.trans,λ_ _ _ h=>⟨h.keep,h.size,h.os⟩⟩
structure Mx.Inv (X:Mx) (R S:ak) (w:World):Prop where
 s:∀b,S b->b<w.heap.size/\b≠X.C/\b≠X.Wg
 at_:X.At R w
 live:WgLive dY.tWg X.Wg w
 sr:∀b,R b->¬S b
def Mx.Inv.rely(h:X.Inv R S w)(a:X.Rl R S w w'):X.Inv R S w':=
 ⟨λb c=>⟨aE (h.s b c).1 a.size,(h.s b c).2⟩,h.at_.move (λb c=>a.keep b (.inr c)) a.size a.os,a.live h.live,h.sr⟩
def Mx.step(h:X.Inv R S w)(g:pw R S S' w w' es):X.Gr R S S' w w' es/\X.Inv R S' w':=by
 obtain⟨k,l,p,rfl,v⟩:=g;have o:w'.heap[X.C]?=w.heap[X.C]?:=k _ h.at_.ltC λd=>(h.s _ d).2.1 rfl;have q:w'.heap[X.Wg]?=w.heap[X.Wg]?:=k _ h.at_.ltW λd=>(h.s _ d).2.2 rfl;refine⟨⟨λb c u _=>k b c u,l,p,λ⟨r,a,b⟩=>⟨r,o.trans a,b⟩,λi _=>ul o i,λb c=>.inl c,λb c=>c,λe B=> ?_⟩, ?_⟩
 .obtain⟨z,m,A⟩:=v e B;refine⟨λx t=>(z x t).elim .inl λy=>.inr (.inr y),λj=> ?_,λj=> ?_,λj=> ?_,A⟩
  .rcases m _ j with⟨f,e⟩|e<;>cases e
  .rcases m _ j with⟨f,e⟩|e<;>cases e
  .rcases m _ j with⟨f,e⟩|e<;>cases e
 .refine⟨λb c=> ?_,h.at_.move (λb c=>k b (h.at_.rlt b c) (h.sr b c)) l p, ?_,λb c d=> ?_⟩
  .rcases c with c|⟨c,n⟩
   .exact⟨aE (h.s b c).1 l,(h.s b c).2⟩
   .have D:=h.at_.ltC;have C:=h.at_.ltW;exact⟨n,by omega,by omega⟩
  .obtain⟨st,sm,s⟩:=h.live;exact⟨st,sm,q.trans s⟩
  .rcases d with d|⟨d,_⟩
   .exact h.sr b c d
   .have:=h.at_.rlt b c;omega
def Mx.lift(h:bD prog true (X.Rl R) (pw R) Stop S g w)(hi:X.Inv R S w):bD prog true (X.Rl R) (X.Gr R) (λS g w=>Stop S g w/\X.Inv R S w) S g w:=
 bD.inv (Rl:=X.Rl R) (Gr:=pw R) (Gr2:=X.Gr R) (Stop:=Stop) (Inv:=X.Inv R) (λ_ _ _ a b=>a.rely b) (λ_ _ _ _ _ a b=>Mx.step a b) (λ_ _ _ a b=>⟨a,b⟩) h hi
def amz(t:Nat):Bool:=t ==0||t ==1||t ==2||t ==6||t ==7||t ==17||aau t
structure Mx.Sl (X:Mx) (T:Array Value) (j:Nat):Prop where
 z:T.size=X.Z
 zz:45<=X.Z
 s3:T.getD 3 undef=.pointer (some ⟨X.bk,0,none⟩)
 s4:T.getD 4 undef=.pointer (some ⟨X.bp,0,none⟩)
 s8:T.getD 8 undef=.pointer (some ⟨X.ba,0,none⟩)
 s9:T.getD 9 undef=.pointer (some ⟨X.Wg,0,none⟩)
 s18:T.getD 18 undef=.slice X.A2 X.n2 X.c2
 s19:T.getD 19 undef=.int .i64 X.n2
 gR:T.getD 20 undef=.int .i64 j
 sv:∀t,amz t=true->T.getD t undef=X.sv t
def wrM(t:Nat):Bool:=t ==10||t ==11||(21<=t&&t<=28)
def ayT{t:Nat}(h:amz t=true):wrM t=false:=by
 simp only[amz,aau,qN,mw,qH] at h;simp only[wrM,vV,fa,vN,decide_eq_false_iff_not];omega
def Mx.Sl.keep{T T':Array Value}(h:X.Sl T j)(c:T'.size=X.Z)(a:∀t,wrM t=false->T'.getD t undef=T.getD t undef):X.Sl T' j:=
 ⟨c,h.zz,(a 3 rfl).trans h.s3,(a 4 rfl).trans h.s4,(a 8 rfl).trans h.s8,(a 9 rfl).trans h.s9,(a 18 rfl).trans h.s18,(a 19 rfl).trans h.s19,(a 20 rfl).trans h.gR,λt b=>(a t (ayT b)).trans (h.sv t b)⟩
end
section
variable {P:Program} {main:Bool} {Rl:ak->World->World->Prop} {Gr:ak->ak->World->World->Array Event->Prop} {St:ak->Goroutine->World->Prop} {S Rr:ak} {w0:World} {f h:FuncId} {T:Array Value} {k:List Item} {xs bs:List Frame}
def akb (C:Cmp Rl Gr Rr)    {args:Array Value} (a:U[i]?=some o) (c:o.guard=none)
  (b:∀w,(execOp (FQ f T (.inRegion U (i::rest)::k)).eval o).runT P w #[]=(.ok (.enter h args) w,#[]))
  (d:∀w,Rl S w0 w->bD P main Rl Gr St S (Gl (Frame.enter P h args .normal::FQ f T (.inRegion U (i::rest)::k)::xs) bs) w):∀w,Rl S w0 w->bD P main Rl Gr St S (Gl (FQ f T (.inRegion U (i::rest)::k)::xs) bs) w:=
 bD.still C (l2:=Frame.enter P h args .normal::FQ f T (.inRegion U (i::rest)::k)::xs) (es:=λ_=>seen P f #[]) (λw _=>aj3 rfl rfl rfl rfl a c (b w)) (λw _=>bj _) d
end
def amA{args:Array Value} :(callFunc dY.add args).runT prog w #[]=(.ok (.enter dY.add args) w,#[]):=by
 have h:=aav.f_add;have b:¬(Go.Conc.Lib.addFn dY).name= "runtime.NumGoroutine" :=by decide
 have a:¬(Go.Conc.Lib.addFn dY).body=none:=λe=>by cases e
 unfold callFunc;simp[h,b,a]
def akc{args:Array Value} :(callFunc dY.wait args).runT prog w #[]=(.ok (.enter dY.wait args) w,#[]):=by
 have h:=aav.f_wait;have b:¬(Go.Conc.Lib.waitFn dY).name= "runtime.NumGoroutine" :=by decide
 have a:¬(Go.Conc.Lib.waitFn dY).body=none:=λe=>by cases e
 unfold callFunc;simp[h,b,a]
noncomputable abbrev kM:List Item:=[.code (.seq (.region 9 jF false) cI)]
noncomputable abbrev kB:List Item:=.inLoop jc :: .inBlock 0::kM
noncomputable abbrev kA:List Item:=.code (.region 7 lG false) :: .inBlock 1 :: .code (.region 8 aj7 false)::kB
section
variable {X:Mx} {R:ak} {w:World} {T:Array Value} {j:Nat} {xs bs:List Frame}
def StA(X:Mx)(j:Nat)(xs bs:List Frame)(S:ak)(g:Goroutine)(w:World):Prop:=
 ∃(T':Array Value) (b a:Nat) (nm:Int),X.di[j]?=some nm/\X.Sl T' j/\T'.getD 10 undef=.pointer (some ⟨b,0,none⟩)/\T'.getD 11 undef=.pointer (some ⟨a,0,none⟩)/\S b/\S a/\w.heap[b]?=some (.cells #[.int .i64 j] 3)/\w.heap[a]?=some (.cells #[.int .i64 nm] 3)/\
  g=Gl (Frame.enter prog dY.add #[.pointer (some ⟨X.Wg,0,none⟩),.int .i64 1] .normal::FQ cx T' (.inRegion aax [0]::kA)::xs) bs
def StW(X:Mx)(xs bs:List Frame)(S:ak)(g:Goroutine)(_:World):Prop:=
 ∃T':Array Value,X.Sl T' X.n2/\S=(λ_=>False)/\g=Gl (Frame.enter prog dY.wait #[.pointer (some ⟨X.Wg,0,none⟩)] .normal::FQ cx T' (.inRegion jF [0]::[.code cI])::xs) bs
def apT(n:X.Ok)(g:X.Sl T j)(v:j<X.n2)(r:X.At R w):bD prog true (X.Rl R) (pw R) (StA X j xs bs) (λ_=>False) (Gl (FQ cx T (.code jc::kB)::xs) bs) w:=by
 have H:=X.mD R;obtain⟨nm,m⟩:∃nm,X.di[j]?=some nm:=⟨_,li (by rw[n.nn];exact v)⟩;rw[agJ];refine dT H.cmp (fI H.cmp (l:=[0]) rfl λwa x=>anW H g.zz g.z g.gR g.s19 λL D J i=> ?_) w (H.fu _ _);rw[db v] at i;refine dT H.cmp (abY H.cmp i (anD H.cmp (dT H.cmp (ae5 H.cmp (dT H.cmp (fI H.cmp (l:=[0,1,2,3,4,5,6]) rfl λO q=> ?_))))));have e:X.Sl L j:=g.keep D λt d=>J t (by rintro rfl;cases d);have G:X.At R O:=(r.move (λb f=>x.keep b (.inr f)) x.size x.os).move (λb f=>q.keep b (.inr f)) q.size q.os;refine avH H g.zz D e.s18 e.gR v (G.nm n m) (λa A=>G.rows _ (n.vr _ (n.al2 a A))) λo S2 Y F B M U z u Z C sn lb I Q P=> ?_;have k:X.Sl o j:=e.keep M λt d=>U t (by rintro rfl;cases d) (by rintro rfl;cases d) (by rintro rfl;cases d) (by rintro rfl;cases d) (by rintro rfl;cases d);obtain⟨K,S,N⟩:=aBl;refine dT H.cmp (fI H.cmp (l:=[0]) rfl (akb H.cmp (h:=dY.add) (args:=#[.pointer (some ⟨X.Wg,0,none⟩),.int .i64 1]) N rfl (λw=> ?_) λw5 y=>.stop λw6 p=> ?_)) Y (H.fu _ _)
 .have V:Array.map (Frame.eval (FQ cx o (.inRegion aax [0]::kA))) #[.tmp 9,.const (.int .i64 1)]=#[.pointer (some ⟨X.Wg,0,none⟩),.int .i64 1]:=by
   rw[<-k.s9];simp[Frame.eval]
  have W:execOp (Frame.eval (FQ cx o (.inRegion aax [0]::kA))) ⟨some 25,.call ⟨.value (.func dY.add),#[.tmp 9,.const (.int .i64 1)],#[dY.tWg,3]⟩,0,K,S,none⟩=callFunc dY.add #[.pointer (some ⟨X.Wg,0,none⟩),.int .i64 1]:=by
   simp only[execOp,resolve];rw[V];simp[Deferred.ofValue,invoke,Frame.eval];try rfl
  exact(fi (λs=>Sem.runT prog s w #[]) W).trans amA
 .have E:=H.tr _ _ _ _ y p;exact⟨o,F,B,nm,m,k,z,u,C,sn,(E.keep F (.inl C)).trans Q,(E.keep B (.inl sn)).trans P,rfl⟩
def apV(b:X.Sl T X.n2):bD prog true (X.Rl R) (pw R) (StW X xs bs) (λ_=>False) (Gl (FQ cx T (.code jc::kB)::xs) bs) w:=by
 have H:=X.mD R;rw[agJ];refine dT H.cmp (fI H.cmp (l:=[0]) rfl λv u=>anW H b.zz b.z b.gR b.s19 λe p f a=> ?_) w (H.fu _ _);rw[bv (sZ _)] at a;have d:X.Sl e X.n2:=b.keep p λt j=>f t (by rintro rfl;cases j);obtain⟨n,i,k⟩:=aBm;refine dT H.cmp (abY H.cmp a (anF H.cmp (k2:=kM) rfl (dT H.cmp (fI H.cmp (l:=[0]) rfl (akb H.cmp (h:=dY.wait) (args:=#[.pointer (some ⟨X.Wg,0,none⟩)]) k rfl (λw=> ?_) λx q=>.stop λr g=>⟨e,d,rfl,rfl⟩)))));have m:Array.map (Frame.eval (FQ cx e (.inRegion jF [0]::[.code cI]))) #[.tmp 9]=#[.pointer (some ⟨X.Wg,0,none⟩)]:=by
  rw[<-d.s9];simp[Frame.eval]
 have o:execOp (Frame.eval (FQ cx e (.inRegion jF [0]::[.code cI]))) ⟨some 28,.call ⟨.value (.func dY.wait),#[.tmp 9],#[dY.tWg]⟩,0,n,i,none⟩=callFunc dY.wait #[.pointer (some ⟨X.Wg,0,none⟩)]:=by
  simp only[execOp,resolve];rw[m];simp[Deferred.ofValue,invoke,Frame.eval];try rfl
 exact(fi (λs=>Sem.runT prog s w #[]) o).trans akc
end
end
section
open Go.Conc Go.ConcN Go.RowKit Go.Conc.Lib Go.ConcR.Gen Go.ConcN.Gen
open Go.ConcR (KK wgBlock WgAt stA smA rd wr mk Payload DC0)
section
variable {P:Program} {R:World->World->Prop} {Q:World->Prop} {St A:Goroutine->World->Prop} {ty:TypeId} {Wg:Nat}
 (hQ:∀w w1,Q w->R w w1->Q w1) (hW:∀(w:World) (a:Addr) v,a.block=Wg->Q w->Q (w.setCell a v))
include hQ
theorem anX(a:Q w)(h:WKe P R Wg St g w):WKe P R Wg (λg w=>St g w/\Q w) g w:=acf (λ_ _ x=>jE hQ x.2 x.1) (jE hQ a h)
theorem avI(b:Q w)(h:WW4 P R ty Wg St g w):WW4 P R ty Wg (λg w=>St g w/\Q w) g w:=
 ⟨h.1,λa=>let⟨c,e,k⟩:=h.2 a;⟨c,e,eT (λ_ _ x=>anX hQ x.2 x.1) (eI hQ b k)⟩⟩
include hW
theorem avJ(b:Q w)(h:WW3 P R ty Wg St g w):WW3 P R ty Wg (λg w=>St g w/\Q w) g w:=
 ⟨h.1,h.2.1,h.2.2.1,λa=>let⟨c,e,k⟩:=h.2.2.2 a;⟨c,e,eT (λ_ _ x=>avI hQ x.2 x.1) (eI hQ (hW _ _ _ rfl b) k)⟩⟩
theorem avK{v:Nat}(d:Q w)(h:WW2 P R ty Wg A St v g w):WW2 P R ty Wg (λg w=>A g w/\Q w) (λg w=>St g w/\Q w) v g w:=
 ⟨h.1,λf i c=>⟨λe=>let⟨b,a,k⟩:=(h.2 f i c).1 e;⟨b,a,eT (λ_ _ x=>acf (λ_ _ x=>avJ hQ hW x.2 x.1) (jE hQ x.2 x.1)) (eI hQ (hW _ _ _ rfl d) k)⟩,
  λe=>let⟨b,a,k⟩:=(h.2 f i c).2 e;⟨b,a,eI hQ d k⟩⟩⟩
theorem avL(a:Q w)(h:WW1 P R ty Wg A St g w):WW1 P R ty Wg (λg w=>A g w/\Q w) (λg w=>St g w/\Q w) g w:=
 ⟨h.1,λv d c=>let⟨i,e,f,b⟩:=h.2 v d c;⟨i,e,λe=>eT (λ_ _ x=>anX hQ x.2 x.1) (eI hQ a (f e)),λe=>eT (λ_ _ x=>avK hQ hW x.2 x.1) (eI hQ a (b e))⟩⟩
end
section
variable (X:Mx) (xs bs:List Frame)
noncomputable abbrev frW(T:Array Value):Frame:=(FQ cx #[] []).at ⟨T,[]⟩ (.inRegion jF [0]::[.code cI])
def ads(R _S:ak)(g:Goroutine)(w:World):Prop:=X.At R w/\∃T,X.Sl T X.n2/\ajZ dY X.Wg (frW T) (xs++bs) g w
def aBo(R S:ak)(g:Goroutine)(w:World):Prop:=
 ∃T,X.Sl T X.n2/\Goes prog true (RM dY.tWg X.Wg X.C X.n2 R S) DC0 (λg w=>(g=Gl (FQ cx T (.inRegion jF []::[.code cI])::xs) bs/\WgLive dY.tWg X.Wg w)/\X.At R w) 20 g w
end
section
variable {X:Mx} {xs bs:List Frame} {R S:ak} {w w1:World} {T:Array Value}
def Mx.At.rely(h:X.At R w)(a:jz dY.tWg X.Wg X.C (2*X.n2) R noC S w w1):X.At R w1:=h.move (λb c=>a.keep b (.inr c)) a.size a.os
def Mx.At.wg(h:X.At R w)(a:Addr)(v:Value)(d:a.block=X.Wg):X.At R (w.setCell a v):=
 h.move (λb c=>bc _ _ _ (λe=>h.rW (by rw[<-d,e];exact c))) (mu (ef _ _ _).symm) rfl
def avM(a:X.Sl T X.n2):∃T',X.Sl T' X.n2/\G ((FQ cx #[] []).at ((⟨T,[]⟩:Act).put ((jF[0]?).bind (·.dst)) (.tuple #[])) (.inRegion jF []::[.code cI])) (xs++bs)=Gl (FQ cx T' (.inRegion jF []::[.code cI])::xs) bs:=by
 obtain⟨d,e,c⟩:=aBm;refine⟨T.setIfInBounds 28 (.tuple #[]),a.keep (by simpa using a.z) λt b=> ?_,by rw[c];rfl⟩;rw[aD (by rw[a.z];exact aE (by decide) a.zz),be (by rintro rfl;cases b)]
def avN(h:ads X xs bs R S g w):∃m,GP prog dY.tWg X.Wg X.C X.n2 R S (MW1 prog dY.tWg X.Wg X.C X.n2 R S (ads X xs bs) (aBo X xs bs)) m g w:=by
 obtain⟨c,T,d,i⟩:=h;have j:=amt (R:=RM dY.tWg X.Wg X.C X.n2 R S) (S:=λg w=>g=G ((FQ cx #[] []).at ((⟨T,[]⟩:Act).put ((jF[0]?).bind (·.dst)) (.tuple #[])) (.inRegion jF []::[.code cI])) (xs++bs)/\WgLive dY.tWg X.Wg w) aav (λ_ _ h r=>r.live h) (λ_ h=>⟨rfl,h⟩) g w i;have f:=eT (λg w x=>avL (Q:=X.At R) (λ_ _ h r=>h.rely r) (λ_ a v e h=>h.wg a v e) x.2 x.1) (eI (Q:=X.At R) (λ_ _ h r=>h.rely r) c j);obtain⟨T',b,k⟩:=avM (xs:=xs) (bs:=bs) d;refine⟨30,aaw (λ_ _ x=>aA8 (λg w y=>⟨T',b,eT (λg w z=>⟨⟨z.1.1.trans k,z.1.2⟩,z.2⟩) y⟩) (λg w y=>⟨y.2,T,d,y.1⟩) x) f⟩
def amB:Frame.enter prog dY.wait #[.pointer (some ⟨X.Wg,0,none⟩)] .normal=(base dY.wait).at ⟨#[.pointer (some ⟨X.Wg,0,none⟩)]++(List.replicate 83 undef).toArray,[]⟩ [.code (body_wait dY)]:=by
 rw[vD];have h:=enter_at (c:=body_wait dY) #[.pointer (some ⟨X.Wg,0,none⟩)] aav.f_wait rfl;have e:(Go.Conc.Lib.waitFn dY).ntmps-(#[.pointer (some ⟨X.Wg,0,none⟩)]:Array Value).size=83:=rfl;rw[e] at h;exact h
def apW:Frame.enter prog dY.add #[.pointer (some ⟨X.Wg,0,none⟩),.int .i64 1] .normal=(base dY.add).at ⟨#[.pointer (some ⟨X.Wg,0,none⟩),.int .i64 1]++(List.replicate 115 undef).toArray,[]⟩ [.code (body_add dY)]:=by
 rw[vD];have h:=enter_at (c:=body_add dY) #[.pointer (some ⟨X.Wg,0,none⟩),.int .i64 1] aav.f_add rfl;have e:(Go.Conc.Lib.addFn dY).ntmps-(#[.pointer (some ⟨X.Wg,0,none⟩),.int .i64 1]:Array Value).size=115:=rfl;rw[e] at h;exact h
def ah3(d:X.Sl T X.n2)(hi:X.Inv R S w) :
  bD prog true (X.Rl R) (X.Gr R) (λS g w=>MKd prog dY.tWg X.Wg X.C X.n2 R S (ads X xs bs) g w) S (Gl (Frame.enter prog dY.wait #[.pointer (some ⟨X.Wg,0,none⟩)] .normal::FQ cx T (.inRegion jF [0]::[.code cI])::xs) bs) w:=by
 rw[amB];have c:=ams (b₀:=FQ cx #[] []) (a₀:=⟨T,[]⟩) (ops₀:=jF) (i₀:=0) (rest₀:=[]) (k₀:=[.code cI]) (cs:=xs++bs) (R:=RM dY.tWg X.Wg X.C X.n2 R S) aav (λ_ _ h r=>r.live h) w hi.live;have b:=eT (λg w x=>jE (Q:=X.At R) (λ_ _ h r=>h.rely r) x.2 x.1) (eI (Q:=X.At R) (λ_ _ h r=>h.rely r) hi.at_ c);have a:∀g w,(ajZ dY X.Wg (frW T) (xs++bs) g w/\X.At R w)->ads X xs bs R S g w:=λg w y=>⟨y.2,T,d,y.1⟩;exact bD.abU (R:=RM dY.tWg X.Wg X.C X.n2 R S) (λ_ _ h=>h) (λ_ _ _ h=>ayQ h) (λ_ _ h=>aA9 a h) b
end
end
section
open Go.Conc Go.ConcN Go.RowKit
open Go.ConcR (KK wgBlock WgAt stA smA rd wr mk Payload DC0)
section
variable {X:Mx} {R S:ak} {w:World} {T:Array Value} {j:Nat} {xs bs:List Frame} {bi bn:Nat} {nm:Int}
noncomputable abbrev kG:List Item:=.inBlock 1 :: .code (.region 8 aj7 false)::kB
abbrev Mx.nC(X:Mx)(bi bn:Nat):Array Value:=#[.pointer (some ⟨X.Wg,0,none⟩),.pointer (some ⟨X.bk,0,none⟩),.pointer (some ⟨X.bp,0,none⟩),.pointer (some ⟨bn,0,none⟩),.pointer (some ⟨X.ba,0,none⟩),.pointer (some ⟨bi,0,none⟩)]
def apX(b:X.Sl T j)(k:T.getD 10 undef=.pointer (some ⟨bi,0,none⟩))(m:T.getD 11 undef=.pointer (some ⟨bn,0,none⟩))(y:S bi)(q:S bn)(s:w.heap[bi]?=some (.cells #[.int .i64 j] 3))(o:w.heap[bn]?=some (.cells #[.int .i64 nm] 3)) :
  bD prog true (X.Rl R) (pw R) (λz g f=>z=S/\f.heap[bi]?=some (.cells #[.int .i64 j] 3)/\f.heap[bn]?=some (.cells #[.int .i64 nm] 3)/\∃T',X.Sl T' j/\T'.getD 26 undef=.func (.func nCl) #[] (X.nC bi bn)/\g=Gl (FQ cx T' (.inRegion lG [1]::kG)::xs) bs) S
   (Gl (FQ cx T (.inRegion aax []::kA)::xs) bs) w:=by
 have H:=X.mD R;obtain⟨p,a,e⟩:=aDk;refine gQ H.cmp (fI H.cmp (l:=[0,1]) rfl (bJ H.cmp (d:=26) (v:=.func (.func nCl) #[] (X.nC bi bn)) (es:=#[]) (by rw[b.z];exact aE (by decide) b.zz) e rfl rfl (λw _=>aj9 ?_) (λw _=>bj _) λx A B r f C=>.stop λD i=> ?_)) w (H.fu _ _)
 .have:∀T:Array Value,Array.map (Frame.eval (FQ cx T (.inRegion lG [0,1]::kG))) #[.tmp 9,.tmp 3,.tmp 4,.tmp 11,.tmp 8,.tmp 10]=#[T.getD 9 undef,T.getD 3 undef,T.getD 4 undef,T.getD 11 undef,T.getD 8 undef,T.getD 10 undef]:=λT=>by simp[Frame.eval]
  rw[this,b.s9,b.s3,b.s4,b.s8,k,m]
 .have n:=H.tr _ _ _ _ C i;exact⟨rfl,(n.keep bi (.inl y)).trans s,(n.keep bn (.inl q)).trans o,x,b.keep (A.trans b.z) λt u=>r t (by rintro rfl;cases u),B,rfl⟩
def apY(k:X.Ok)(b:X.Sl T j)(E:j<X.n2) :
  bD prog true (X.Rl R) (pw R) (λu g _=>u=S/\∃T',X.Sl T' (j+1)/\g=Gl (FQ cx T' (.code jc::kB)::xs) bs) S
   (Gl (FQ cx T (.inRegion lG []::kG)::xs) bs) w:=by
 have H:=X.mD R;obtain⟨D,C,i⟩:=aDm;obtain⟨B,F,s⟩:=aDn;have p:=k.n2m;refine gQ H.cmp (ajs H.cmp (fI H.cmp (l:=[0,1]) rfl (bJ H.cmp (d:=27) (v:=.int .i64 ((j:Int)+1)) (es:=#[]) (by rw[b.z];exact aE (by decide) b.zz) i rfl rfl (λw _=>avB (x:=.tmp 20) b.gR rfl (by omega) (by omega)) (λw _=>bj _) λo f y m=>
  bJ H.cmp (d:=20) (v:=.int .i64 ((j:Int)+1)) (es:=#[]) (by rw[f,b.z];exact aE (by decide) b.zz) s rfl rfl (λw _=>eR (x:=.tmp 27) y) (λw _=>bj _) λz r n c=>
   gQ H.cmp (arX H.cmp λA I=>.stop λG q=>⟨rfl,z, ?_,rfl⟩)))) w (H.fu _ _)
 have a:=b.keep (T':=o) (f.trans b.z) λt e=>m t (by rintro rfl;cases e);refine⟨r.trans a.z,a.zz,(c 3 (by decide)).trans a.s3,(c 4 (by decide)).trans a.s4,(c 8 (by decide)).trans a.s8,(c 9 (by decide)).trans a.s9,(c 18 (by decide)).trans a.s18,(c 19 (by decide)).trans a.s19,by rw[n];rfl,λt e=>(c t (by rintro rfl;cases e)).trans (a.sv t e)⟩
def afr{val:Nat->Value}{A:ak->ak->Goroutine->World->Prop}{r:Nat}(h:bD prog true (X.Rl R) (X.Gr R) (λS g w=>(S=λ_=>False)/\tI prog dY.tWg X.Wg X.C X.n2 val A r R g w) (λ_=>False) g w):tI prog dY.tWg X.Wg X.C X.n2 val A r R g w:=by
 cases r with
 |zero=>exact bD.bind (X.mD _).fu (X.mD _).tr h λS g w ⟨hS,h⟩=>by subst hS;exact h
 |succ r=>exact bD.bind (X.mD _).fu (X.mD _).tr h λS g w ⟨hS,h⟩=>by subst hS;exact h
def adt(f:X.Ok){x:Int->List ij->Int->ByteArray×Bool}(O:dX x)(u:∀k nm,x k [] nm=(⟨#[]⟩,false)){val:Nat->Value}(i:∀B nm,X.di[B]?=some nm->val (2*B)=.string (x X.key X.l nm).1/\val (2*B+1)=.bool (x X.key X.l nm).2) :
  ∀(r j:Nat) (R:ak) (T:Array Value) (w:World),j+r=X.n2->X.At R w->WgLive dY.tWg X.Wg w->X.Sl T j->tI prog dY.tWg X.Wg X.C X.n2 val (ads X xs bs) r R (Gl (FQ cx T (.code jc::kB)::xs) bs) w
 |0,j,R,T,w,hj,hat,o,hs=>by
  obtain rfl:j=X.n2:=hj;have N:X.Inv R (λ_=>False) w:=⟨λb h=>h.elim,hat,o,λb _ h=>h⟩;exact bD.bind (X.mD R).fu (X.mD R).tr (Mx.lift (apV hs) N) λS g w ⟨⟨T',c,hS,hg⟩,d⟩=>by
   rw[hg];exact ah3 c d
 |r+1,j,R,T,w,hj,hat,o,hs=>by
  have l:j<X.n2:=by omega
  have N:X.Inv R (λ_=>False) w:=⟨λb h=>h.elim,hat,o,λb _ h=>h⟩;have H:X.n2-(r+1)=j:=by omega
  show bD prog true (X.Rl R) (X.Gr R) (λS g w=>arG prog dY.tWg X.Wg X.C X.n2 val (X.n2-(r+1)) (tI prog dY.tWg X.Wg X.C X.n2 val (ads X xs bs) r) R S g w) (λ_=>False) _ w;rw[H];refine bD.bind (X.mD R).fu (X.mD R).tr (Mx.lift (apT f hs l hat) N) λS g w ⟨⟨T',bi,bn,nm,hnm,c,d10,d11,si,sn,ci,cn,hg⟩,d⟩=> ?_;rw[hg,apW];have hI:=d.at_.nm f hnm;obtain⟨-, -, -,F⟩:=hI;refine apR (b₀:=FQ cx #[] []) (a₀:=⟨T',[]⟩) (ops₀:=aax) (i₀:=0) (rest₀:=[]) (k₀:=kA) (cs:=xs++bs) aav (Q:=λw=>X.Inv R S w/\w.heap[bi]?=some (.cells #[.int .i64 j] 3)/\w.heap[bn]?=some (.cells #[.int .i64 nm] 3))
   (λw q h J=>⟨h.1.rely J,(J.keep bi (.inl si)).trans h.2.1,(J.keep bn (.inl sn)).trans h.2.2⟩) (λw v z h W=> ?_) (λw o h=> ?_) w d.live ⟨d,ci,cn⟩
  .have s:∀b,S b->(w.setCell (stA X.Wg) (.int .u64 z)).heap[b]?=w.heap[b]?:=λb n=>bc _ _ _ λe=>(h.1.s b n).2.2 e.symm;refine⟨⟨λb n=>⟨by rw[ef];exact(h.1.s b n).1,(h.1.s b n).2⟩,h.1.at_.wg _ _ rfl, ?_,h.1.sr⟩,(s bi si).trans h.2.1,(s bn sn).trans h.2.2⟩;exact⟨z,0,W.setSt z⟩
  .obtain⟨p6,a6,U⟩:=aBl;have P:G ((FQ cx #[] []).at ((⟨T',[]⟩:Act).put ((aax[0]?).bind (·.dst)) (.tuple #[])) (.inRegion aax []::kA)) (xs++bs)=Gl (FQ cx (T'.setIfInBounds 25 (.tuple #[])) (.inRegion aax []::kA)::xs) bs:=by rw[U];rfl
   rw[P];have m:∀t,t≠25->(T'.setIfInBounds 25 (.tuple #[])).getD t undef=T'.getD t undef:=λt A=>by rw[aD (by rw[c.z];exact aE (by decide) c.zz),be A]
   have K:X.Sl (T'.setIfInBounds 25 (.tuple #[])) j:=c.keep (by simpa using c.z) λt A=>m t (by rintro rfl;cases A);refine bD.weak (λ_ _ _ h=>h) (λ_ _ _ _ _ h=>h) (λp g q h=> ?_) (Mx.lift (apX (nm:=nm) K ((m 10 (by decide)).trans d10) ((m 11 (by decide)).trans d11) si sn h.2.1 h.2.2) h.1);obtain⟨⟨rfl,E,L,T2,y,I,rfl⟩,D⟩:=h;have a:X.At (λb=>p b\/R b) q:=D.at_.grow D.s;refine⟨rfl,_,_,λb=>p b\/R b,avz I,λ_ h=>h,λZ o=> ?_, ?_⟩
   .obtain⟨v0,V⟩:=i j nm hnm
    let Y:Wx:=⟨q,X.Wg,X.C,X.n2,j,λb=>p b\/R b,X.Rg,X.key,X.A,X.n,X.c,X.l,nm,X.bk,X.bp,bn,X.ba,bi,dY.tWg⟩
    have C:Y.Ok:=⟨bd f.hN a.sz,f.gl,a.gr f,f.k1,f.k2,f.hl,f.hc,f.hcm,a.rd f,a.rgp f,f.al,F,l,λb n=>a.rows b (f.vr b n),⟨a.rk.1,(tD a.rk.2).1⟩,⟨a.rp.1,(tD a.rp.2).1⟩,⟨.inl sn,(tD L).1⟩,⟨a.ra.1,(tD a.ra.2).1⟩,⟨.inl si,(tD E).1⟩,a.rlt,a.rC,a.rW,f.cW⟩;have M:Y.Inv (λ_=>False) q:=⟨λ_ _=>rfl,λb h=>h.elim,a.ltC,a.ltW,am _,o,Z,rfl⟩;exact aj6 (X:=Y) C O u rfl v0 V M
   .-- the rounds that are left
    have mV:X.Inv (λb=>p b\/R b) (λ_=>False) q:=⟨λb h=>h.elim,a,D.live,λb _ h=>h⟩;have hx:=Mx.lift (apY (S:=λ_=>False) (xs:=xs) (bs:=bs) f y l) mV;have k:∀(g:Goroutine) (w:World) (S:ak),((S=λ_=>False)/\∃T',X.Sl T' (j+1)/\g=Gl (FQ cx T' (.code jc::kB)::xs) bs)/\X.Inv (λb=>p b\/R b) S w->S=(λ_=>False)/\tI prog dY.tWg X.Wg X.C X.n2 val (ads X xs bs) r (λb=>p b\/R b) g w:=by
     rintro g w S ⟨⟨rfl,T',c,rfl⟩,d⟩;exact⟨rfl,adt f O u i r (j+1) _ T' w (by omega) d.at_ d.live c⟩
    exact afr (bD.weak (λ_ _ _ h=>h) (λ_ _ _ _ _ h=>h) (λS g w h=>k g w S h) hx)
end
def amC(Rr:ak):px RlB Rr:=⟨λ_ w=>atRel_refl w,λ_ a b c h k=>atRel_trans a b c h k,λ_ w f ⟨d,e⟩=>by subst e;exact⟨λ_ _=>rfl,am _,rfl⟩⟩
def amD(aS S:ak)(w:World):Prop:=(∀b,S b->¬aS b)/\∀b,aS b->b<w.heap.size
def amD.rely{S : ak}(h:amD aS S w)(c:RlB S w V):amD aS S V:=⟨h.1,λb a=>aE (h.2 b a) ((amC S).rl _ _ _ c).2.1⟩
def as4{Rr S : ak}{w' : World}(s:∀b,Rr b->¬aS b)(i:amD aS S w)(g:pw Rr S R w w' es):GrB aS S R w w' es/\amD aS R w':=by
 obtain⟨t,l,u,rfl,o⟩:=g;have m:∀b,S b\/(w.heap.size<=b/\b<w'.heap.size)->¬aS b:=λb c d=>by
  rcases c with c|c
  .exact i.1 b c d
  .have:=i.2 b d;omega
 refine⟨⟨l,λe r=> ?_⟩,m,λb c=>aE (i.2 b c) l⟩;obtain⟨p,k,q⟩:=o e r;refine⟨λx n ⟨a,hl,d⟩=> ?_,λj=> ?_,λj=> ?_,q⟩
 .rcases p x n with h|⟨h, -⟩
  .rw[hl] at h;exact m _ h d
  .rw[hl] at h;exact s _ h d
 .rcases k _ j with⟨f,e⟩|e<;>cases e
 .rcases k _ j with⟨f,e⟩|e<;>cases e
section
variable {gs:Array Goroutine} {w:World} {sl:Option (Nat×Nat)} {t:Trace} {q:Nat->Nat} {aS V:ak} {T:Array Value} {xs:List Frame}
def aDo (J:gs[0]?=some (Gl (FQ cx X [.code acg]::xs) [])) (U:45<=X.size) {A2 : Option Addr} (Z:(Y:Int)<=2147483647) (M:X.getD 0 undef=.int .i64 key) (s1:X.getD 1 undef=.slice A n c) (L:X.getD 2 undef=.slice A2 Y i)
  (P:Leavers prog t gs q) (hP:eD aS (gs.size-1) w.heap.size t) (x:∀b,aS b->b<w.heap.size) (I:∀b,V b->b<w.heap.size/\¬aS b) :
  ∃(N:Nat) (l:Array Goroutine) (f:World) (r:Option (Nat×Nat)) (s:Trace) (y:Nat->Nat) (T:Array Value) (m j C o:Nat) (p:Array Value),runNT prog N (crowd gs w sl) t=(.next (crowd l f r),s)/\l.size=gs.size/\
   l[0]?=some (Gl (FQ cx T [.code (.region 2 nR false),.code gq]::xs) [])/\Leavers prog s l y/\eD aS (gs.size-1) f.heap.size s/\T.size=X.size/\(∀t,(t<3\/aau t=true)->T.getD t undef=X.getD t undef)/\
   (T.getD 3 undef=.pointer (some ⟨m,0,none⟩)/\T.getD 4 undef=.pointer (some ⟨j,0,none⟩)/\T.getD 6 undef=.slice none 0 0/\T.getD 7 undef=.bool false/\T.getD 8 undef=.pointer (some ⟨o,0,none⟩)/\T.getD 17 undef=.slice (some ⟨C,0,none⟩) Y Y)/\
   ((∀b,V b->f.heap[b]?=w.heap[b]?)/\w.heap.size<=f.heap.size/\f.ou=w.ou)/\(w.heap.size<=m/\m<j/\j<C/\C<o)/\f.heap[m]?=some (.cells #[.int .i64 key] 3)/\f.heap[j]?=some (.cells #[.slice A n c] 23)/\p.size=2*Y/\f.heap[C]?=some (.cells p 136)/\f.heap[o]?=some (.cells #[.slice (some ⟨C,0,none⟩) Y Y] 125):=by
 have W:=amx (xs:=xs) (base:=[]) (k:=[]) (S:=λ_=>False) (w0:=w) (Rr:=V)
  (St:=λ_ g f=>∃(T:Array Value) (m j C o:Nat) (p:Array Value),g=Gl (FQ cx T [.code (.region 2 nR false),.code gq]::xs) []/\T.size=X.size/\(∀t,(t<3\/aau t=true)->T.getD t undef=X.getD t undef)/\
   (T.getD 3 undef=.pointer (some ⟨m,0,none⟩)/\T.getD 4 undef=.pointer (some ⟨j,0,none⟩)/\T.getD 6 undef=.slice none 0 0/\T.getD 7 undef=.bool false/\T.getD 8 undef=.pointer (some ⟨o,0,none⟩)/\T.getD 17 undef=.slice (some ⟨C,0,none⟩) Y Y)/\
   ((∀b,V b->f.heap[b]?=w.heap[b]?)/\w.heap.size<=f.heap.size/\f.ou=w.ou)/\(w.heap.size<=m/\m<j/\j<C/\C<o)/\f.heap[m]?=some (.cells #[.int .i64 key] 3)/\f.heap[j]?=some (.cells #[.slice A n c] 23)/\p.size=2*Y/\f.heap[C]?=some (.cells p 136)/\f.heap[o]?=some (.cells #[.slice (some ⟨C,0,none⟩) Y Y] 125))
  (amC V) U rfl Z M s1 L λT S' f m j C o p B K F v R Q cp E cC O=>.stop λw1 ⟨d,e⟩=>by
   subst e;exact⟨T,m,j,C,o,p,rfl,B,K,F,⟨λb u=>v.keep b (I b u).1 (.inr u),v.size,v.os⟩,R,Q,cp,E,cC,O⟩
 have H:=bD.inv (Gr2:=GrB aS) (Inv:=amD aS) (agC:=λ_ g f=>_) (λ_ _ _ h D=>h.rely D) (λ_ _ _ _ _ h g=>as4 (λb u=>(I b u).2) h g) (λ_ _ _ h _=>h) W ⟨λ_ h=>h.elim,x⟩;obtain⟨N,l,a,f,r,s,y,S',D,B,ha,⟨T,m,j,C,o,p,rfl,F⟩,G,z⟩:=pW (sl:=sl) aa3 J P hP H;exact⟨N,l,f,r,s,y,T,m,j,C,o,p,D,B,ha,G,z,F⟩
def GrE(_ _:ak)(w w':World)(es:Array Event):Prop:=es=#[]/\w.heap.size<=w'.heap.size
def afM{B0:Nat}:ax7 GrE (λK B t=>eD aS K B t/\∀op∈t,op.act.low B0) where
 own:=λ{K t S l w k f} fn c ⟨b,hz⟩ ⟨hP,hl⟩=>by
  subst b;refine⟨hP.own hz λe h=>by simp at h,λop a=> ?_⟩;rcases vu.1 a with h|h
  .exact hl op h
  .obtain⟨e,b, -⟩:=lP h;simp at b
 mute:=λ{K B t g f} fn c i j d ⟨hP,hl⟩=>by
  refine⟨hP.mute i j d,seen_app hl λop a=> ?_⟩;obtain⟨e,b,rfl⟩:=lP a;exact low_mute (d e b) B0
def aDp(C:gs[0]?=some (Gl (FQ cx T [.code (.region 2 nR false),.code gq]::xs) []))(v:45<=T.size)(F:Leavers prog t gs q)(x:eD aS (gs.size-1) w.heap.size t) :
  ∃(N:Nat) (b:Array Goroutine) (c:World) (d:Option (Nat×Nat)) (e:Trace) (s:Nat->Nat) (T':Array Value),runNT prog N (crowd gs w sl) t=(.next (crowd b c d),e)/\b.size=gs.size/\b[0]?=some (Gl (FQ cx T' [.code gq]::xs) [])/\Leavers prog e b s/\
   eD aS (gs.size-1) c.heap.size e/\(∀op∈e,op.act.low w.heap.size)/\T'.size=T.size/\T'.getD 9 undef=.pointer (some ⟨w.heap.size,0,none⟩)/\(∀t,t≠9->T'.getD t undef=T.getD t undef)/\c.heap=w.heap.push (wgBlock dY.tWg 0 0)/\c.ou=w.ou:=by
 obtain⟨R,Q,u⟩:=aC8;obtain⟨i,z,J,l,M⟩:=avE;have o:List.range nR.size=[0]:=rfl;have K:bD prog true RlB GrE (λ_ g c=>g=Gl (FQ cx (T.setIfInBounds 9 (.pointer (some ⟨w.heap.size,0,none⟩))) [.code gq]::xs) []/\c.heap=w.heap.push (wgBlock dY.tWg 0 0)/\c.ou=w.ou) (λ_=>False) (Gl (FQ cx T [.code (.region 2 nR false),.code gq]::xs) []) w:=by
  refine .step rfl λy ⟨d1,e1⟩=>⟨Gl (FQ cx T [.inRegion nR [0],.code gq]::xs) [],y,#[],λ_=>False,by simp[Gl,stepG,stepG.exec,o],⟨rfl,am _⟩, ?_⟩;refine .step rfl λj ⟨d2,e2⟩=> ?_;have f:=anC (m:=true) (fr:=FQ cx T [.inRegion nR [0],.code gq]) (xs:=xs) (base:=[]) (w:=j) rfl rfl rfl rfl u rfl (aaa (w:=j) J l);rw[wl,M] at f;refine⟨_,_,#[],λ_=>False,f,⟨rfl,by rw[me];omega⟩, ?_⟩;have k:j.heap.size=w.heap.size:=by rw[e2,e1];rfl
  have H:Frame.finish (FQ cx T [.inRegion nR [0],.code gq]) (.pointer (some ⟨j.heap.size,0,none⟩))=FQ cx (T.setIfInBounds 9 (.pointer (some ⟨w.heap.size,0,none⟩))) [.inRegion nR [],.code gq]:=by
   simp only[Frame.finish,u,qB,k]
  rw[H];refine .step rfl λB ⟨d3,e3⟩=>⟨Gl (FQ cx (T.setIfInBounds 9 (.pointer (some ⟨w.heap.size,0,none⟩))) [.code gq]::xs) [],B,#[],λ_=>False,by simp[Gl,stepG,stepG.exec],⟨rfl,am _⟩,.stop λO ⟨d4,e4⟩=>⟨rfl, ?_, ?_⟩⟩
  .rw[e4,e3,e2,e1];rfl
  .rw[e4,e3,e2,e1];rfl
 obtain⟨N,b,a,c,d,e,s,P,I,G,L,⟨rfl,E,A⟩,r,n,p⟩:=pW (sl:=sl) (afM (aS:=aS) (B0:=w.heap.size)) C F ⟨x,x.seen⟩ K;exact⟨N,b,c,d,e,s,_,I,G,L,r,n,p,by simp,by rw[aD (aE (by decide) v),dk rfl],λt D=>by rw[aD (aE (by decide) v),be D],E,A⟩
end
def kZ{N : Nat}{m m':Machine}{a : Trace}{r:Stepped×Trace}(h:runNT P N m t=(.next m',a))(b:runNT P Y m' a=r):runNT P (N+Y) m t=r:=by
 rw[runNT_add,h];exact b
section
variable {X:Mx} {R:ak} {T:Array Value} {w:World} {xs bs:List Frame}
structure Mx.Pre (X:Mx) (T:Array Value):Prop where
 z:T.size=X.Z
 zz:45<=X.Z
 s2:T.getD 2 undef=.slice X.A2 X.n2 X.c2
 s3:T.getD 3 undef=.pointer (some ⟨X.bk,0,none⟩)
 s4:T.getD 4 undef=.pointer (some ⟨X.bp,0,none⟩)
 s8:T.getD 8 undef=.pointer (some ⟨X.ba,0,none⟩)
 s9:T.getD 9 undef=.pointer (some ⟨X.Wg,0,none⟩)
 sv:∀t,amz t=true->T.getD t undef=X.sv t
def akd(a:X.Pre T):bD prog true (X.Rl R) (pw R) (λS g _=>(S=λ_=>False)/\∃c,X.Sl c 0/\g=Gl (FQ cx c (.code jc::kB)::xs) bs) (λ_=>False) (Gl (FQ cx T [.code gq]::xs) bs) w:=by
 have H:=X.mD R;unfold gq;refine dT H.cmp (dT H.cmp (fI H.cmp (l:=[0,1,2]) rfl λq n=>avF H a.zz a.z a.s2 λc k b e d f=>ae5 H.cmp (anE H.cmp λm p=>.stop λo j=>⟨rfl,c, ?_,rfl⟩))) w (H.fu _ _);refine⟨k,a.zz,(b 3 (by decide) (by decide) (by decide)).trans a.s3,(b 4 (by decide) (by decide) (by decide)).trans a.s4,(b 8 (by decide) (by decide) (by decide)).trans a.s8,(b 9 (by decide) (by decide) (by decide)).trans a.s9,e,d,f,λt i=>(b t ?_ ?_ ?_).trans (a.sv t i)⟩<;>(rintro rfl;cases i)
end
def afN(h:∀op∈t,op.act.low a.block):NoRelease a t:=λi d=>by
 unfold Trace.act? at d;obtain⟨op,e,b⟩:=io.1 d;have c:=h op (qw e);rw[b] at c;exact sZ _ c
section
variable {X:Mx} {R:ak} {gs:Array Goroutine} {w:World} {sl:Option (Nat×Nat)} {t:Trace} {q:Nat->Nat} {aS:ak} {T:Array Value} {xs:List Frame}
def aDq (D:X.Ok) (hF:dX Z) (M:∀a5 nm,Z a5 [] nm=(⟨#[]⟩,false)) (h0:gs[0]?=some (Gl (FQ cx T [.code gq]::xs) [])) (hs:X.Pre T)
  (hL:Leavers prog t gs q) (hP:eD aS (gs.size-1) w.heap.size t) (z:∀op∈t,op.act.low X.Wg) (eO:WgAt dY.tWg X.Wg w 0 0) (W:PayAt X.C (2*X.n2) w) (j:X.At R w) (u:∀b,aS b->¬R b/\b≠X.C/\b<w.heap.size) :
  ∃(N:Nat) (n:Array Goroutine) (m:World) (al:Option (Nat×Nat)) (H:Trace) (q':Nat->Nat) (T':Array Value) (R':ak),runNT prog N (crowd gs w sl) t=(.next (crowd n m al),H)/\
   n[0]?=some (Gl (FQ cx T' [.code cI]::xs) [])/\Leavers prog H n q'/\eD (λb=>b=X.Wg\/aS b) (n.size-1) m.heap.size H/\X.Sl T' X.n2/\X.At R' m/\PayAt X.C (2*X.n2) m/\
   (∀f nm,X.di[f]?=some nm->Has X.C (2*f) (.string (Z X.key X.l nm).1) m/\Has X.C (2*f+1) (.bool (Z X.key X.l nm).2) m)/\(∀b,b=X.Wg\/aS b->b<m.heap.size):=by
 have gK:0<gs.size:=(de.1 h0).1
 let val:Nat->Value:=λi=>if i % 2=0 then .string (Z X.key X.l (X.di.getD (i / 2) 0)).1 else .bool (Z X.key X.l (X.di.getD (i / 2) 0)).2
 have o:∀f nm,X.di[f]?=some nm->val (2*f)=.string (Z X.key X.l nm).1/\val (2*f+1)=.bool (Z X.key X.l nm).2:=λf nm h=>by
  have e1:2*f % 2=0:=by omega
  have O:(2*f+1) % 2≠0:=by omega
  have e3:2*f / 2=f:=by omega
  have e4:(2*f+1) / 2=f:=by omega
  have e5:X.di.getD f 0=nm:=by rw[sH,h];rfl
  exact⟨by simp only[val,e1,e3,e5,pb],by simp only[val,be O,e4,e5]⟩
 have hi:X.Inv R (λ_=>False) w:=⟨λb h=>h.elim,j,⟨_,_,eO⟩,λb _ h=>h⟩;have U:tI prog dY.tWg X.Wg X.C X.n2 val (ads X xs []) X.n2 R (Gl (FQ cx T [.code gq]::xs) []) w:=
  afr (bD.weak (λ_ _ _ h=>h) (λ_ _ _ _ _ h=>h) (λS g w h=>by
   obtain⟨⟨rfl,s,r,rfl⟩,v⟩:=h;exact⟨rfl,adt D hF M o X.n2 0 R s w (by omega) v.at_ v.live r⟩) (Mx.lift (akd hs) hi))
 have J:Sets X.Wg X.C aS w R (λ_=>False) (λ_ _=>False) (λ_ _=>False):=
  ⟨j.rlt,λb h=>h.elim,λ_ b h=>h.elim,λ_ b h=>h.elim,λb _ h=>h,λ_ b h=>h.elim,λ_ b h=>h.elim,λ_ _ b h=>h.elim,j.ltW,j.ltC,D.cW,j.rW,λh=>h,λ_ h=>h,j.rC,λh=>h,λ_ h=>h,λb h=>(u b h).1,λ_ _ h=>h,λ_ _ _ h=>h,λh=>(u _ h).2.1 rfl,λb h=>(u b h).2.2⟩
 have ax:=D.n2m;obtain⟨N,m',t1,Q,Y,C,aa,a,q1,y,S1,rfl,V,ao,⟨s,r,a7⟩,a3,K,G,a1, -,a0⟩:=
  ajl (sl:=sl) (K0:=gs.size-1) (Fin:=aBo X xs []) (by omega) (λR S g w ⟨_,T,_,T2,e,_⟩=>by rw[e];rfl) (λR S g w h=>avN h) h0 (by omega) hL hP U eO W
   (λi x hx a V e=>agj (S:=λb=>b=X.Wg) z hx (λb I=>mu I.symm) (by rw[V];exact e)) (afN z) J
 have hG:bD prog true RlB (λS S' w m es=>m=w/\es=#[]/\S'=S) (λ_ g w=>(g=Gl (FQ cx s [.code cI]::xs) []/\X.At y w)) (λ_=>False) a C:=by
  refine bD.bind (λ_ w=>atRel_refl w) (λ_ a b c h k=>atRel_trans a b c h k) (bD.abU (R:=RM dY.tWg X.Wg X.C X.n2 y S1) (Stop:=λS g w=>S=(λ_=>False)/\(g=Gl (FQ cx s (.inRegion jF []::[.code cI])::xs) []/\WgLive dY.tWg X.Wg w)/\X.At y w) (λw C ⟨d,e⟩=>e▸jz.at _ _ _ _ _) (λw m es h=>⟨h.1,h.2,rfl⟩) (λg w h=>⟨rfl,h⟩) a7) ?_;rintro S g w ⟨rfl,⟨rfl, -⟩,j⟩;exact .step rfl λE ⟨d2,O⟩=>⟨Gl (FQ cx s [.code cI]::xs) [],E,#[],λ_=>False,by simp[Gl,stepG,stepG.exec],⟨rfl,rfl,rfl⟩,.stop λw3 ⟨d3,e3⟩=>⟨rfl,by rw[e3,O];exact j.move (λ_ _=>rfl) (am _) rfl⟩⟩
 have ad:=bD.inv (Gr2:=GrB λb=>b=X.Wg\/aS b) (Inv:=λ_ w=>w.heap=C.heap) (agC:=λS g w=>(g=Gl (FQ cx s [.code cI]::xs) []/\X.At y w)/\w.heap=C.heap) (λ_ _ _ h ⟨d,e⟩=>by rw[e];exact h) (λ_ _ _ _ _ h g=>by
  obtain⟨rfl,rfl,rfl⟩:=g;exact⟨⟨am _,λe h=>by simp at h⟩,h⟩) (λ_ _ _ h k=>⟨h,k⟩) hG rfl
 have L:Y.size-1=gs.size-1+X.n2:=by omega
 obtain⟨N2,a6,a2,E,a9,t2,q2,S2,F,an,a8,⟨⟨rfl,P⟩,p⟩,af,a4⟩:=pW (sl:=aa) (aa3 (aS:=λb=>b=X.Wg\/aS b)) V a3 (by rw[L];exact K) ad;refine⟨N+N2,a6,E,a9,t2,q2,s,y, ?_,a8,af,by rw[an];exact a4,r,P, ?_,λf nm B=> ?_,λb I=> ?_⟩
 .exact kZ Q F
 .obtain⟨cs,h1,h2⟩:=G;exact⟨cs,by rw[p];exact h1,h2⟩
 .obtain⟨v0,v1⟩:=o f nm B;have gz:f<X.n2:=by rw[<-D.nn];exact(mp.1 B).1
  obtain⟨g0,g1⟩:=a1 f gz;rw[v0] at g0;rw[v1] at g1;have l:∀A,E.cell? A=C.cell? A:=λA=>fR (by rw[p]);exact⟨(l _).trans g0,(l _).trans g1⟩
 .rw[p];exact(a0 b (I.elim .inr .inl)).2.2.2
end
def JW(t:Nat):Bool:=t ==3||t ==4||t ==5||t ==9||t ==10||t ==11||t ==13||t ==15||t ==16||(decide (18<=t)&&decide (t<=28))
def avO:jR JW cI=true:=by kernel_rfl
def aBr:jR JW (f151.body.getD .skip)=false:=by kernel_rfl
def aBs:jR JW (f41.body.getD .skip)=false:=by kernel_rfl
def ayU :Frame.enter prog cx X .normal=FQ cx (T0F X) [.code acg]:=by
 have a:prog.funcs[cx]?=some f41:=func41;unfold Frame.enter;rw[a];rfl
def amE{t : Array Value}(_:X.size=t.size)(h:∀i,JW i=false->X[i]?=t[i]?):results f41 X=results f41 t:=by
 have e:∀i,JW i=false->X.getD i undef=t.getD i undef:=λi c=>by rw[ga,ga,h i c]
 have a:=e 6 rfl;have b:=e 7 rfl;simp only[ga] at a b;simp[results,results41,a,b]
section
variable {gs:Array Goroutine} {w:World} {sl:Option (Nat×Nat)} {t:Trace} {q:Nat->Nat} {aS:ak}
def as5 (hF:dX Z) (ad:∀v nm,Z v [] nm=(⟨#[]⟩,false)) {R:List Frame->World->Prop} {c:Cfg} {ρ:Ren} {a O:Array Value} {m m':List Frame}
  (bn:cU ρ a O) (W:ik (ah true) ρ m m') (hc:c.l=Frame.enter (ah true) cx a .normal::m) (hw:WR ρ c.w w) (hg:GlR ρ) (hW:jK (ah true) R c)
  (h0:gs[0]?=some (Gl (Frame.enter prog cx O .normal::m') [])) (hL:Leavers prog t gs q) (hP:eD aS (gs.size-1) w.heap.size t) (Y:∀b,aS b->b<w.heap.size) (bT:∀b f,ρ.r b f->¬aS f) :
  ∃(N:Nat) (B:Array Goroutine) (D:World) (c6:Option (Nat×Nat)) (t':Trace) (q':Nat->Nat) (Wg:Nat) (I:Cfg) (x:Ren) (l1 lR:List Frame),runNT prog N (crowd gs w sl) t=(.next (crowd B D c6),t')/\
   B[0]?=some (Gl lR [])/\Leavers prog t' B q'/\eD (λb=>b=Wg\/aS b) (B.size-1) D.heap.size t'/\w.heap.size<=Wg/\(∀b,b=Wg\/aS b->b<D.heap.size)/\
   gZ (ah true) I c/\ρ.Le x/\ik (ah true) x I.l l1/\WR x I.w D/\jK (ah true) R I/\(∀b f,x.r b f->ρ.r b f\/(w.heap.size<=f/\f≠Wg))/\Rt prog JW l1 lR/\(∀b,b<w.heap.size->¬aS b->D.heap[b]?=w.heap[b]?)/\D.ou=w.ou/\w.heap.size<=D.heap.size/\PkG ρ c.w w I.w D:=by
 obtain⟨v,A,n,cc,l,A2,n2,c2,di,I,e,ay,ba,a1,a7⟩:=apH hF bn W hc hw hg hW;have S:45<=(T0F O).size:=by simp only[T0F,rV,sN];omega
 rw[ayU] at h0
 let V:ak:=λb=>b<w.heap.size/\¬aS b
 obtain⟨N1,c7,o,b5,t1,q1,T,bk,Q,C,P,cs,an,bx,a8,b0,a4,U,p,⟨u3,u4,u6,u7,u8,bl⟩,⟨bL,a5,bw⟩,⟨lk,lp,lC,la⟩,ck,cp,b1,cC,ca⟩:=aDo (sl:=sl) (V:=V) h0 S e.n2m e.s0 e.s1 e.s2 hL hP Y λb d=>d;rw[<-bx] at a4;obtain⟨N2,c8,w2,c1,t2,q2,T',a9,b8,c4,b7,a6,c5,bS,u9,bi,L,kJ⟩:=aDp (sl:=b5) a8 (by rw[U];exact S) b0 a4;rw[<-b8] at a6;have c0:=jd cC;have ax:=jd ca;have r:∀b,b<o.heap.size->w2.heap[b]?=o.heap[b]?:=λb d=>by rw[L,qx,be (by omega)]
 have c9:w2.heap.size=o.heap.size+1:=by rw[L,Array.size_push]
 let X:Mx:=⟨w,o.heap.size,C,n2,λb=>∃a,ρ.r a b,v,A,n,cc,l,A2,c2,di,bk,Q,P,λt=>T'.getD t undef,T'.size,V⟩
 have H:∀b,(∃a,ρ.r a b)->V b:=λb ⟨a,hab⟩=>⟨(hw.lt hab).2,bT a b hab⟩;have ok:X.Ok:=⟨hw.kq.2,λg b9=>⟨g,hg g b9⟩,e.k1,e.k2,e.ln,e.nc,e.cm,e.gl,e.rd,e.rg,e.al,e.al2,e.nm,e.nn,e.n2m,(by show C≠o.heap.size;omega),H⟩
 let R0:ak:=λb=>V b\/b=bk\/b=Q\/b=P
 have bO:X.At R0 w2:=by
  refine⟨λb d=>(r b (aE d.1 a5)).trans (bL b d), ?_,kJ.trans bw,λb d=>.inl d,⟨.inr (.inl rfl),(r bk (by omega)).trans ck⟩,⟨.inr (.inr (.inl rfl)),(r Q (by omega)).trans cp⟩,⟨.inr (.inr (.inr rfl)),(r P ax).trans ca⟩,λb d=> ?_,λd=> ?_,λd=> ?_, ?_, ?_⟩
  .show w.heap.size<=w2.heap.size;omega
  .rcases d with d|rfl|rfl|rfl
   .have:=d.1;omega
   all_goals omega
  .rcases d with d|d|d|d
   .have:C<w.heap.size:=d.1;omega
   .have:C=bk:=d;omega
   .have:C=Q:=d;omega
   .have:C=P:=d;omega
  .rcases d with d|d|d|d
   .have:o.heap.size<w.heap.size:=d.1;omega
   .have:o.heap.size=bk:=d;omega
   .have:o.heap.size=Q:=d;omega
   .have:o.heap.size=P:=d;omega
  .show C<_;omega
  .show o.heap.size<_;omega
 have s:∀t,t≠9->T'.getD t undef=T.getD t undef:=bi;have c3:X.Pre T':=⟨rfl,by show 45<=T'.size;omega,(s 2 (by decide)).trans ((p 2 (.inl (by decide))).trans e.s2),(s 3 (by decide)).trans u3,(s 4 (by decide)).trans u4,(s 8 (by decide)).trans u8,u9,λt ht=>rfl⟩;obtain⟨N3,b2,w3,aa,t3,q3,G,R3,b4,aN,al,bf,F,k,⟨M,K,br⟩,a3,bo⟩:=aDq (X:=X) (sl:=c1) ok hF ad c4 c3 b7 a6 c5
  (by show w2.heap[o.heap.size]?=_;rw[L,qO]) ⟨cs,(r C c0).trans cC,b1⟩ bO λb d=>by
   have cb:=Y b d;refine⟨λh=> ?_,(by show b≠C;omega),by omega⟩;rcases h with h|h|h|h
   .exact h.2 d
   all_goals omega
 have a0:w.heap.size<=w3.heap.size:=k.sz;have bb:∀E nm,di[E]?=some nm->M[2*E]?=some (.string (Z v l nm).1)/\M[2*E+1]?=some (.bool (Z v l nm).2):=λE nm h=>
  ⟨ajV (A:=⟨C,2*E,none⟩) (z:=(0,0)) (t:=136) K (a3 E nm h).1,ajV (A:=⟨C,2*E+1,none⟩) (z:=(0,0)) (t:=136) K (a3 E nm h).2⟩
 obtain⟨aZ,T2,b6,bP,bZ,bt,ao,J,t6,t7,t8,aO,bp⟩:=a7 w3 C P M (λb f d=>k.keep f (H f ⟨b,d⟩)) k.os a0 (by omega) (by omega) (by omega) K br bb k.ra.2;obtain⟨_,_,y,ys,e1,aM⟩:=W.ne';have bW:G.size=(T0F O).size:=F.z.trans (bS.trans U);have bA:∀i,i<(T0F O).size->G.getD i undef=T2.getD i undef->G[i]?=T2[i]?:=λi hi h=>by
  rw[vd (by omega),vd (by omega),h]
 refine⟨N1+(N2+N3),b2,w3,aa,t3,q3,o.heap.size,I,aZ,FQ cx T2 [.code cI]::m',FQ cx G [.code cI]::m',kZ an (kZ a9 b4),aN,al,bf,a5,bo,ay,b6,bP,bZ,ba,λb f d=> ?_, ?_,λb d hn=>k.keep b ⟨d,hn⟩,k.os,a0,λb f d a2=>⟨(a1 b f d a2).1,λi u hu bz=>⟨(a1 b f d a2).2 i u hu bz,iP (k.keep f (H f ⟨b,d⟩))⟩⟩⟩
 .rcases bt b f d with h|rfl|rfl
  .exact .inl h
  .exact .inr ⟨by omega,by omega⟩
  .exact .inr ⟨by omega,by omega⟩
 .refine .inr ⟨FQ cx T2 [.code cI],FQ cx G [.code cI],m',rfl,rfl,by rw[aM];simp,⟨rfl,rfl,⟨rfl,rfl⟩,rfl,⟨rfl,rfl⟩,⟨rfl,rfl⟩,bW.trans ao.symm,λi hi=> ?_, ?_⟩,_,func41,λt t' hz h=>amE hz h⟩
  .refine(oR i (T0F O).size).elim (λaJ=> ?_) λnT=> ?_
   case refine_2=> 
    show G[i]?=T2[i]?;rw[pZ (by omega),pZ (by omega)]
   have af:i=0\/i=1\/i=2\/i=6\/i=7\/i=8\/i=17\/aau i=true:=by
    simp only[JW,vV,fa,vN,decide_eq_false_iff_not] at hi;simp only[aau,qN,mw,qH];omega
   refine bA i aJ ?_;have j:∀t,amz t=true->G.getD t undef=T'.getD t undef:=F.sv;rcases af with rfl|rfl|rfl|rfl|rfl|rfl|rfl|hid
   .rw[j 0 rfl,s 0 (by decide),p 0 (.inl (by decide)),J 0 (by decide)]
   .rw[j 1 rfl,s 1 (by decide),p 1 (.inl (by decide)),J 1 (by decide)]
   .rw[j 2 rfl,s 2 (by decide),p 2 (.inl (by decide)),J 2 (by decide)]
   .rw[j 6 rfl,s 6 (by decide),u6,t6]
   .rw[j 7 rfl,s 7 (by decide),u7,t7]
   .rw[F.s8,t8]
   .rw[j 17 rfl,s 17 (by decide),bl,aO]
   .have b3:amz i=true:=by simp only[amz,hid,Bool.or_true]
    rw[j i b3,s i (by rintro rfl;cases hid),p i (.inr hid),bp i hid]
  .simp only[qr,vm,uq,lF];exact avO
end
structure anY (R:List Frame->World->Prop) (W:World) (S0:ak) (aS:ak) (ρ:Ren) (c:Cfg) (w:World):Prop where
 lax:ρ.lax=false
 wr:WR ρ c.w w
 gl:GlR ρ
 will:jK (ah true) R c
 rng:∀b b',ρ.r b b'->S0 b'\/(W.heap.size<=b'/\¬aS b')
 sh:∀b,aS b->W.heap.size<=b/\b<w.heap.size
 s0:∀b,S0 b->b<W.heap.size
 keep:∀b,b<W.heap.size->¬S0 b->w.heap[b]?=W.heap[b]?
 os:w.ou=W.ou
 sz:W.heap.size<=w.heap.size
structure amG (W:World) (S0 aS S:ak) (w:World):Prop where
 s:∀b,S b->S0 b\/(W.heap.size<=b/\¬aS b)
 sh:∀b,aS b->b<w.heap.size
 keep:∀b,b<W.heap.size->¬S0 b->w.heap[b]?=W.heap[b]?
 os:w.ou=W.ou
 sz:W.heap.size<=w.heap.size
section
variable {W:World} {S0 aS S S':ak} {w w':World} {es:Array Event}
def amG.rely(h:amG W S0 aS S w)(a:RlB S w w'):amG W S0 aS S w':=by
 obtain⟨d,rfl⟩:=a;exact⟨h.s,h.sh,h.keep,h.os,h.sz⟩
def amG.step(f:∀b,S0 b->b<W.heap.size)(m:∀b,aS b->W.heap.size<=b)(h:amG W S0 aS S w)(g:pw (λ_=>False) S S' w w' es):GrB aS S S' w w' es/\amG W S0 aS S' w':=by
 have j:amD aS S w:=⟨λb a c=>(h.s b a).elim (λx=>by have:=f b x;have:=m b c;omega) λx=>x.2 c,h.sh⟩;obtain⟨l,e⟩:=as4 (λ_ h=>h.elim) j g;obtain⟨i,k,n,rfl,o⟩:=g;refine⟨l,λb a=> ?_,e.2,λb a d=> ?_,n.trans h.os,bd h.sz k⟩
 .rcases a with a|a
  .exact h.s b a
  .exact .inr ⟨bd h.sz a.1,λc=>by have:=h.sh b c;omega⟩
 .rw[i b (aE a h.sz) λc=> ?_]
  .exact h.keep b a d
  .rcases h.s b c with x|x
   .exact d x
   .omega
end
theorem as6{fv:Int->List ij->Int->ByteArray×Bool}(hF:dX fv)(hF0:∀key nm,fv key [] nm=(⟨#[]⟩,false)){R:List Frame->World->Prop}{W:World}{S0:ak}{c:Cfg}(alP:Acc (gZ (ah true)) c) :
  ∀{ρ:Ren} {aS:ak} {l' lR:List Frame} {w:World} {gs:Array Goroutine} {sl:Option (Nat×Nat)} {t:Trace} {q:Nat->Nat},anY R W S0 aS ρ c w->ik (ah true) ρ c.l l'->Rt prog JW l' lR->gs[0]?=some (Gl lR [])->Leavers prog t gs q->eD aS (gs.size-1) w.heap.size t->
   ∃(N:Nat) (gs':Array Goroutine) (w':World) (sl':Option (Nat×Nat)) (t':Trace) (q':Nat->Nat) (aBw:ak) (c1:Cfg) (ρ1:Ren) (l1:List Frame),runNT prog N (crowd gs w sl) t=(.next (crowd gs' w' sl'),t')/\
    gs'[0]?=some (Gl l1 [])/\Leavers prog t' gs' q'/\eD aBw (gs'.size-1) w'.heap.size t'/\anY R W S0 aBw ρ1 c1 w'/\oD c1.l/\ik (ah true) ρ1 c1.l l1/\ρ.Le ρ1/\PkG ρ c.w w c1.w w':=by
 induction alP with
 |intro c _ ih=>
  intro ρ aS l' lR w gs sl t q h hst hR h0 hL hP;have alP:Acc (gZ (ah true)) c:=h.will.acc.transGen;have Hb:=amC (λ_=>False);have ayI:ajn (ah true) R (λ_=>False) (λb=>S0 b\/(W.heap.size<=b/\¬aS b)) ρ c l' w:=⟨hst,h.wr,h.gl,h.will,λb b' hb=>.inl (h.rng b b' hb)⟩;have asK:=ajp (lu true) (awd true) Hb.fu Hb.tr Hb.rl Hb.cmp.gr (awM aBr aBs) (agk Hb.cmp) (main:=true) (base:=[]) alP ayI hR;have hG:=bD.inv (Gr2:=GrB aS) (Inv:=amG W S0 aS) (λ_ _ _ a b=>a.rely b) (λ_ _ _ _ _ a b=>a.step h.s0 (λb hb=>(h.sh b hb).1) b) (λ_ _ _ a b=>And.intro a b) asK ⟨λb hb=>hb,λb hb=>(h.sh b hb).2,h.keep,h.os,h.sz⟩;obtain⟨N,gs1,a1,w1,sl1,t1,q1,S1,hr1,hz1,ha1,⟨⟨c1,ρ1,l1,hor,hle, -,rfl,cu,hg1,hW1,oY,avP,hend⟩,lQ⟩,hL1,hP1⟩:=pW (sl:=sl) aa3 h0 hL hP hG;rw[<-hz1] at hP1;have ahk:∀b b',ρ1.r b b'->S0 b'\/(W.heap.size<=b'/\¬aS b'):=λb b' hb=>(oY b b' hb).elim (lQ.s b') λx=>x.1.elim;have aBx:ρ1.lax=false:=hle.lax.symm.trans h.lax;rcases hend with⟨hf,apZ⟩|⟨a,a',m,m',hva,aDz,hc1,hl1⟩
  .exact⟨N,gs1,w1,sl1,t1,q1,aS,c1,ρ1,l1,hr1,ha1,hL1,hP1,⟨aBx,cu,hg1,hW1,ahk,λb hb=>⟨(h.sh b hb).1,lQ.sh b hb⟩,h.s0,lQ.keep,lQ.os,lQ.sz⟩,hf,apZ,hle,avP⟩
  .rw[hl1] at ha1;have hns:∀b b',ρ1.r b b'->¬aS b':=λb b' hb hs=>(ahk b b' hb).elim (λx=>by have:=h.s0 _ x;have:=(h.sh _ hs).1;omega) λx=>x.2 hs;obtain⟨N2,gs2,w2,sl2,t2,q2,Wg,c2,ρ2,l2,lR2,hr2,ha2,hL2,hP2,hWg,aDA,awT,afw,ai3,hw2,hW2,aBy,hR2,hk2,kJ,hz2,arc⟩:=as5 (sl:=sl1) hF hF0 hva aDz hc1 cu hg1 hW1 ha1 hL1 hP1 lQ.sh hns;have ar4:gZ (ah true) c2 c:=by
    rcases hor with e|e
    .rw[<-e];exact awT
    .exact sW awT e
   have hS2:anY R W S0 (λb=>b=Wg\/aS b) ρ2 c2 w2:=by
    refine⟨afw.lax.symm.trans aBx,hw2,hg1.mono afw,hW2,λb b' hb=> ?_,λb hb=>⟨?_,aDA b hb⟩,h.s0,λb hb hn=> ?_,kJ.trans lQ.os,bd lQ.sz hz2⟩
    .rcases aBy b b' hb with hb|⟨h1,h2⟩
     .rcases ahk b b' hb with x|⟨x,y⟩
      .exact .inl x
      .refine .inr ⟨x,λe=>e.elim (λe=> ?_) y⟩;have:=(cu.lt hb).2;omega
     .exact .inr ⟨bd lQ.sz h1,λe=>e.elim h2 λhs=>by have:=lQ.sh _ hs;omega⟩
    .rcases hb with rfl|hb
     .exact bd lQ.sz hWg
     .exact(h.sh b hb).1
    .rw[hk2 b (aE hb lQ.sz) λhs=>by have:=(h.sh b hs).1;omega];exact lQ.keep b hb hn
   obtain⟨N3,gs3,w3,sl3,t3,q3,aDB,c3,ρ3,l3,hr3,ha3,hL3,hP3,hS3,hf3,alk,axa,aDC⟩:=ih c2 ar4 hS2 ai3 hR2 ha2 hL2 hP2;exact⟨N+(N2+N3),gs3,w3,sl3,t3,q3,aDB,c3,ρ3,l3,kZ hr1 (kZ hr2 hr3),ha3,hL3,hP3,hS3,hf3,alk,(hle.trans afw).trans axa,avP.trans hle (arc.trans afw aDC)⟩
end
section
open Go.Conc Go.ConcN Go.RowKit
open Go.ConcR (DC0)
mutual
inductive mK (V:Nat->Prop):Value->Prop
 |bool (b:Bool):mK V (.bool b)
 |int (k:IntKind) (n:Int):mK V (.int k n)
 |string (s:ByteArray):mK V (.string s)
 |nilPtr:mK V (.pointer none)
 |pointer {a:Addr} (h:V a.block):mK V (.pointer (some a))
 |py (l c:Nat):mK V (.slice none l c)
 |slice {a:Addr} (h:V a.block) (l c:Nat):mK V (.slice (some a) l c)
 |nilFunc:mK V .nilFunc
 |iface (t:TypeId) {v:Value} (h:mK V v):mK V (.iface t v)
 |nilIface:mK V .nilIface
 |agg {c:Array Value} (h:mE V c.toList):mK V (.agg c)
inductive mE (V:Nat->Prop):List Value->Prop
 |nil:mE V []
 |cons {v:Value} {l:List Value} (h:mK V v) (hl:mE V l):mE V (v::l)
end
mutual
def mK.mono{V U:Nat->Prop}(h:∀b,V b->U b):∀{v:Value},mK V v->mK U v
 |_,.bool b=>.bool b
 |_,.int k n=>.int k n
 |_,.string s=>.string s
 |_,.nilPtr=>.nilPtr
 |_,.pointer h'=>.pointer (h _ h')
 |_,.py l c=>.py l c
 |_,.slice h' l c=>.slice (h _ h') l c
 |_,.nilFunc=>.nilFunc
 |_,.iface t h'=>.iface t (mK.mono h h')
 |_,.nilIface=>.nilIface
 |_,.agg h'=>.agg (mE.mono h h')
def mE.mono{V U:Nat->Prop}(h:∀b,V b->U b):∀{l:List Value},mE V l->mE U l
 |_,.nil=>.nil
 |_,.cons h1 h2=>.cons (mK.mono h h1) (mE.mono h h2)
end
section
variable {V:Nat->Prop} {ρ:Ren} (hV:∀b,V b->ρ.r b b)
include hV
theorem anZ(h:V a.block):AR ρ a a:=by
 obtain⟨b,o,s⟩:=a;exact .mk (hV _ h) o s
theorem awU{b : Addr}(h:V a.block)(k:AR ρ a b):b=a:=by
 cases k with
 |mk c o s=>rw[ρ.fn c (hV _ h)]
mutual
theorem mK.self:∀{v:Value},mK V v->VR ρ v v
 |_,.bool b=>.bool b
 |_,.int k n=>.int k n
 |_,.string s=>.string s
 |_,.nilPtr=>.pointer .none
 |_,.pointer h=>.pointer (.some (anZ hV h))
 |_,.py l c=>.slice .none l c
 |_,.slice h l c=>.slice (.some (anZ hV h)) l c
 |_,.nilFunc=>.nilFunc
 |_,.iface t h=>.iface t (mK.self h)
 |_,.nilIface=>.nilIface
 |_,.agg h=>.agg (mE.self h)
theorem mE.self:∀{l:List Value},mE V l->bQ ρ l l
 |_,.nil=>.nil
 |_,.cons h1 h2=>.cons (mK.self h1) (mE.self h2)
end
mutual
def mK.fn:∀{v d:Value},mK V v->VR ρ v d->d=v
 |_,_,.bool b,k=>by cases k;rfl
 |_,_,.int _ n,k=>by cases k;rfl
 |_,_,.string s,k=>by cases k;rfl
 |_,_,.nilPtr,k=>by
  cases k with
  |pointer h=>cases h;rfl
 |_,_,.pointer h,k=>by
  cases k with
  |pointer a=>cases a with
   |some a=>rw[awU hV h a]
 |_,_,.py l c,k=>by
  cases k with
  |slice h=>cases h;rfl
 |_,_,.slice h l c,k=>by
  cases k with
  |slice a=>cases a with
   |some a=>rw[awU hV h a]
 |_,_,.nilFunc,k=>by cases k;rfl
 |_,_,.iface t h,k=>by
  cases k with
  |iface _ a=>rw[mK.fn h a]
 |_,_,.nilIface,k=>by cases k;rfl
 |_,_,.agg (c:=c) h,k=>by
  cases k with
  |@agg _ f a=>
   have e:=mE.fn h a;rw[uv.1 e]
def mE.fn:∀{l a:List Value},mE V l->bQ ρ l a->a=l
 |_,_,.nil,k=>by cases k;rfl
 |_,_,.cons h1 h2,k=>by
  cases k with
  |cons b c=>rw[mK.fn h1 b,mE.fn h2 c]
end
end
def eD.past{B : Nat}(h:eD aS Y B t):Past (ShL aS) B t:=by
 refine⟨h.clean,λi a j _=> ?_,h.over,h.hears,h.seen⟩;obtain⟨op,c,b⟩:=touch_of j;by_cases d:ShL aS a.loc
 .obtain⟨k,f⟩:=h.quiet i op a c b d;cases e:a.kind with
  |plain=>exact absurd e k
  |atomic=>exact .inr ⟨d,rfl⟩
  |said=>
   have g:=f e;have:=knows_own (t:=t) c;rw[g] at this;exact .inl this
 .exact .inl (h.known i op a c b d)
def ah4(W:World)(v:Value)(w':World):Prop:=v=.bool true/\Below W.heap.size W {w' with tape:=W.tape}
structure ah5 (W:World) (S0:ak) (P:Nat->Nat->Prop) (WL:World):Prop where
 size:WL.heap.size=W.heap.size
 out:∀b,¬S0 b->WL.heap[b]?=W.heap[b]?
 row:∀b,S0 b->∃(c c':Array Value) (t:TypeId) (z:Nat×Nat),W.heap[b]?=some (.cells c t z)/\WL.heap[b]?=some (.cells c' t z)/\c'.size=c.size/\∀i v,P b i->c[i]?=some v->c'[i]?=some v
theorem aDD{W:World}{S0:ak}{P:Nat->Nat->Prop}(hrow:∀b,S0 b->dU W b)(hP:∀b i v,S0 b->P b i->W.cell? ⟨b,i,none⟩=some v->mK S0 v)(hN:gN<=W.heap.size) :
  ∃WL,ah5 W S0 P WL/\WL.ou=W.ou/\WR (Ren.rows S0 false (eK W)) WL W/\∀b i u v,S0 b->WL.cell? ⟨b,i,none⟩=some u->W.cell? ⟨b,i,none⟩=some v->(u=v/\mK S0 v)\/ad4 u\/∀(σ:Ren) v',σ.al=ajT (eK W)->VR σ u v'->v'=v:=by
 classical
 have hid:∀b,S0 b->(Ren.rows S0 false (eK W)).r b b:=λb hb=>⟨rfl,hb⟩;have row:∀b,S0 b->∃(c:Array Value) (t:TypeId) (z:Nat×Nat) (xs:List Value),W.heap[b]?=some (.cells c t z)/\bQ (Ren.rows S0 false (eK W)) xs c.toList/\
   ∀(i:Nat) v,c.toList[i]?=some v->∃u,xs[i]?=some u/\((P b i->u=v)/\((u=v/\mK S0 v)\/ad4 u\/∀(σ:Ren) v',σ.al=ajT (eK W)->VR σ u v'->v'=v)):=λb hb=>by
  obtain⟨c,t,z,hc⟩:=hrow b hb;obtain⟨xs,h1,h2⟩:=amp (ρ:=Ren.rows S0 false (eK W)) (Q:=λi u v=>(P b i->u=v)/\((u=v/\mK S0 v)\/ad4 u\/∀(σ:Ren) v',σ.al=ajT (eK W)->VR σ u v'->v'=v)) c.toList 0 λi v hi=>by
   rw[mc];have hi':c[i]?=some v:=by rw[<-dl];exact hi
   by_cases hp:P b i
   .have jG:=hP b i v hb hp (by unfold World.cell?;rw[hc];exact hi');exact⟨v,mK.self hid jG,λ_=>rfl,.inl ⟨rfl,jG⟩⟩
   .obtain⟨u,h1, -,h3⟩:=ayG (ρ:=Ren.rows S0 false (eK W)) rfl v λx hx=>ajU (agB hc hi' hx);exact⟨u,h1,λh=>absurd h hp,.inr h3⟩
  exact⟨c,t,z,xs,hc,h1,λi v hi=>by
   have:=h2 i v hi;simpa only[mc] using this⟩
 let F:∀b,S0 b->Obj:=λb hb=>.cells ⟨(row b hb).choose_spec.choose_spec.choose_spec.choose⟩ (row b hb).choose_spec.choose (row b hb).choose_spec.choose_spec.choose
 have hF:∀b (hb:S0 b),∃(c:Array Value) (t:TypeId) (z:Nat×Nat) (xs:List Value),W.heap[b]?=some (.cells c t z)/\bQ (Ren.rows S0 false (eK W)) xs c.toList/\(∀(i:Nat) v,c.toList[i]?=some v->∃u,xs[i]?=some u/\((P b i->u=v)/\((u=v/\mK S0 v)\/ad4 u\/∀(σ:Ren) v',σ.al=ajT (eK W)->VR σ u v'->v'=v)))/\F b hb=.cells ⟨xs⟩ t z:=λb hb=>
  let h:=(row b hb).choose_spec.choose_spec.choose_spec.choose_spec
  ⟨_,_,_,_,h.1,h.2.1,h.2.2,rfl⟩
 obtain⟨heap,hs,h1,h2⟩:=awL W F;have aaP:∀b,S0 b->∃(c:Array Value) (t:TypeId) (z:Nat×Nat) (xs:List Value),W.heap[b]?=some (.cells c t z)/\heap[b]?=some (.cells ⟨xs⟩ t z)/\bQ (Ren.rows S0 false (eK W)) xs c.toList/\(∀(i:Nat) v,c.toList[i]?=some v->∃u,xs[i]?=some u/\((P b i->u=v)/\((u=v/\mK S0 v)\/ad4 u\/∀(σ:Ren) v',σ.al=ajT (eK W)->VR σ u v'->v'=v))):=λb hb=>by
  obtain⟨c,t,z,xs,k1,k2,k3,k4⟩:=hF b hb;exact⟨c,t,z,xs,k1,(h1 b hb (de.1 k1).1).trans (fi some k4),k2,k3⟩
 refine⟨{W with heap},⟨hs,h2,λb hb=> ?_⟩,rfl,⟨λ{b b'} hb=> ?_,rfl,by show gN<=heap.size;omega,hN⟩,λb i u v hb hu hv=> ?_⟩
 .obtain⟨c,t,z,xs,k1,k2,k3,k4⟩:=aaP b hb;refine⟨c,⟨xs⟩,t,z,k1,k2,by have:=k3.length;simpa using this,λi v hp hv=> ?_⟩;obtain⟨u,q1,q2, -⟩:=k4 i v (by rw[dl];exact hv);have q1':(⟨xs⟩:Array Value)[i]?=some u:=by simpa using q1
  rw[q1',q2 hp]
 .obtain⟨rfl,hb⟩:=hb;obtain⟨c,t,z,xs,k1,k2,k3, -⟩:=aaP b hb;exact⟨_,_,k2,k1,.cells k3 t (.inl rfl)⟩
 .obtain⟨c,t,z,xs,k1,k2,k3,k4⟩:=aaP b hb;have hu':(⟨xs⟩:Array Value)[i]?=some u:=by
   have:({W with heap}:World).heap[b]?=some (.cells ⟨xs⟩ t z):=k2;unfold World.cell? at hu;rw[this] at hu;exact hu
  have hv':c[i]?=some v:=by
   unfold World.cell? at hv;rw[k1] at hv;exact hv
  obtain⟨u',q1, -,q2⟩:=k4 i v (by rw[dl];exact hv');have:u'=u:=by
   have q1':(⟨xs⟩:Array Value)[i]?=some u':=by simpa using q1
   rw[q1'] at hu';exact dq hu'
  subst this;exact q2
theorem as7 {fv:Int->List ij->Int->ByteArray×Bool} (hF:dX fv) (hF0:∀key nm,fv key [] nm=(⟨#[]⟩,false)) {W:World} {S0:ak} {P:Nat->Nat->Prop} {f:FuncId} {fn:Func} {k:Tmp} {args:Array Value}
  (hrow:∀b,S0 b->dU W b) (hP:∀b i v,S0 b->P b i->W.cell? ⟨b,i,none⟩=some v->mK S0 v) (hgl:∀g∈gL,S0 g) (hgN:gN<=W.heap.size) (aal:mE S0 args.toList)
  (hf:gH f=false) (hfn:prog.funcs[f]?=some fn) (hq:(ah true).funcs[f]?=some fn) (hres:fn.results=#[.tmp k]) (hni:prog.inits.idxOf? f=none)
  (nH:∀WL:World,ah5 W S0 P WL->∀t:Tape,Calls (ah true) f args (WL.dw t) λe w'=>∃v,e=.returned v/\(v=.bool true/\∀b,b<W.heap.size->w'.heap[b]?=WL.heap[b]?)) :
  ∃N last o w' t',runNT prog (N+1) (solo (G (Frame.enter prog f args .normal) []) W) #[]=(.ended o w',t')/\runN prog N (solo (G (Frame.enter prog f args .normal) []) W)=.next last/\step prog last=.ended o w'/\Go.Conc.Good prog (ah4 W) last o w' t':=by
 obtain⟨WL,awV,hou,hwr,aDE⟩:=aDD hrow hP hgN;have hid:∀b,S0 b->(Ren.rows S0 false (eK W)).r b b:=λb hb=>⟨rfl,hb⟩;have hs0:∀b,S0 b->b<W.heap.size:=λb hb=>let⟨_,_,_,h⟩:=hrow b hb;jd h
 have hW:jK (ah true) (λl w'=>∃fr v,l=[fr]/\fr.fn=f/\fr.leaving (ah true) w' (.returned v)/\(v=.bool true/\∀b,b<W.heap.size->w'.heap[b]?=WL.heap[b]?)) ⟨[Frame.enter (ah true) f args .normal],WL,λ_ _=>0⟩:=
  aan (Post:=λv w'=>v=.bool true/\∀b,b<W.heap.size->w'.heap[b]?=WL.heap[b]?) λt _=>nH WL awV t
 have hst:ik (ah true) (Ren.rows S0 false (eK W)) [Frame.enter (ah true) f args .normal] [Frame.enter prog f args .normal]:=.one (agY (lu true) hf (mE.self hid aal)) adq;have hS:anY _ W S0 (λ_=>False) (Ren.rows S0 false (eK W)) ⟨[Frame.enter (ah true) f args .normal],WL,λ_ _=>0⟩ W:=⟨rfl,hwr,λg hg=>hid g (hgl g hg),hW,λb b' hb=>.inl (hb.1▸hb.2),λ_ h=>h.elim,hs0,λ_ _ _=>rfl,rfl,am _⟩;obtain⟨N1,gs1,w1,sl1,t1,q1,aS,c1,ρ1,l1,hr1,ha1,hL1,hP1,hS1,hf1,apZ,aeT,avP⟩:=as6 hF hF0 hW.acc.transGen (gs:=#[G (Frame.enter prog f args .normal) []]) (sl:=none) (t:=#[]) (q:=λ_=>0) hS hst (.inl rfl) rfl (leavers_one _ _) (eD.nil _);obtain⟨fr,v,hl,lL,hlv,hv,hb⟩:=hS1.will.fin hf1 acx c1.t λ_ _ _=>rfl;obtain⟨x,xs,y,ys, -,hy⟩:=apZ.ne';have e4:=apZ.lone hl hy;subst e4 hy;rw[hl] at apZ;have aBz:=apZ.head;obtain⟨-, -, -,fn1,auJ,hrv⟩:=hlv;rw[lL,hq] at auJ;cases auJ;have hv1:v=fr.tmps.getD k undef:=by
  have e:(results fn fr.tmps).run (ah true) (c1.w.dw c1.t)=.ok (fr.tmps.getD k undef) (c1.w.dw c1.t):=by simp[results,hres]
  rw[e] at hrv;cases hrv;rfl
 have hy1:y.tmps.getD k undef=.bool true:=by
  rw[hv] at hv1;have hk:fr.tmps[k]?=some (.bool true):=by
   rw[ga] at hv1;cases h:fr.tmps[k]? with
   |none=>rw[h] at hv1;cases hv1
   |some u=>rw[h] at hv1;exact fi some hv1.symm
  obtain⟨u,hu,hr⟩:=bQ.get aBz.tmps (i:=k) (v:=.bool true) (by rw[dl];exact hk);rw[dl] at hu;rw[anQ hu];cases hr;rfl
 have aBA:∀w1:World,stepG prog true (Gl [y] []) w1=.ended (.done (.bool true)) w1 (seen prog y.fn #[]):=λw1=>by
  have hr:(results fn y.tmps).runT prog w1 #[]=(.ok (.bool true) w1,#[]):=by
   have e:(results fn y.tmps).runT prog w1 #[]=(.ok (y.tmps.getD k undef) w1,#[]):=by simp[results,hres]
   rw[e,hy1]
  obtain⟨g0,hg0,gm,gd,gk⟩:=hf1;rw[hl] at hg0;cases hg0;obtain⟨f',tm',fe,d',md',kd',r'⟩:=y;obtain⟨f0,tm0,aDO,d0,md0,kd0,r0⟩:=fr;obtain⟨h1,h2,h3,h4,h5,h6,h7⟩:=aBz;dsimp only at h1 h2 h3 h4 h5 h6 h7 gm gd gk lL hr;subst h1 gm gd gk lL;obtain rfl:md'=.returning:=by
   rcases h5 with h5|h5
   .cases h5.1
   .exact h5.2
  obtain⟨-,rfl⟩:=h6;obtain rfl:d'=[]:=by cases h4;rfl
  have e:doReturn prog true ⟨f0,tm',fe,[],.returning,.normal,r'⟩ [] none (.bool true) w1=.ended (.done (.bool true)) w1:=by
   unfold doReturn;dsimp only;rw[hni];rfl
  simp only[Gl,stepG,unwind,hfn,hr,qW,e];simp[GStep.after]
 have hblk:∀b,b<W.heap.size->w1.heap[b]?=W.heap[b]?:=λb hbl=>by
  by_cases h0:S0 b
  .have hr0:=hid b h0;have hr:=aeT.r hr0;obtain⟨c,c',t,z,hW1,hWL,hsz, -⟩:=awV.row b h0;obtain⟨o,o',k1,k2,k3⟩:=hS1.wr.obj hr;have e:c1.w.heap[b]?=WL.heap[b]?:=hb b hbl;rw[e,hWL] at k1;cases k1;cases k3 with
   |@cells _ c'' k4 _ _ z' hz=>
    have hz':z=z':=by
     rcases hz with e|⟨e,_⟩
     .exact e
     .rw[hS1.lax] at e;cases e
    have hlen:c''.size=c'.size:=by have:=k4.length;simpa using this.symm
    have hc:c''=c:=by
     apply su;intro i;rcases oR i c.size with hi|hi
     .have hu:c'[i]?=some c'[i]:=fm (by omega);have hv:c[i]?=some c[i]:=fm hi;have hv2:c''[i]?=some c''[i]:=fm (by omega);have hrel:=cU.at k4 hu hv2;have cell:∀{w:World} {a:Array Value},w.heap[b]?=some (.cells a t z)->w.cell? ⟨b,i,none⟩=a[i]?:=λh=>by unfold World.cell?;rw[h];rfl
      rcases aDE b i _ _ h0 ((cell hWL).trans hu) ((cell hW1).trans hv) with⟨e1,e2⟩|h1|h1
      .rw[e1] at hrel;rw[hv2,hv,mK.fn (V:=S0) (λb hb=>aeT.r (hid b hb)) e2 hrel]
      .have hp:=(avP b b hr0 ⟨c',t,z,hWL⟩).2 i _ h1 ((cell (e.trans hWL)).trans hu);have h2:=hp.2;rw[cell hW1] at h2;subst hz';rw[cell k2] at h2;exact h2
      .rw[hv2,hv,h1 ρ1 _ aeT.al.symm hrel]
     .rw[pZ (by omega),pZ (by omega)]
    rw[k2,hW1,hc,hz']
  .exact hS1.keep b hbl h0
 have hend:∀w2,Go.Conc.AtRel w1 w2->AtEnd prog (ShL aS) w1.heap.size (ah4 W) (Gl [y] []) w2:=λw2 ⟨d,e⟩=>by
  subst e;exact⟨rfl,_,_,aBA _,λe he=>(ace e he).elim,rfl,ayZ hS1.os,rfl,aw0 hS1.os,hS1.sz,hblk⟩
 obtain⟨N2,last,o,w2,t2,hr2,hn2,hs2,hg2⟩:=beside_ends (D:=DC0) (Shun:=ShL aS) (B:=w1.heap.size) (Post:=ah4 W) (sl:=sl1) (n:=0) (λw w' es h e he=>by rw[h.2] at he;simp at he) ha1 hL1 hP1.past (qu hend);refine⟨N1+N2,last,o,w2,t2, ?_, ?_,hs2,hg2⟩
 .rw[uQ,runNT_add,show runNT prog N1 (solo (G (Frame.enter prog f args .normal) []) W) #[]=_ from hr1];exact hr2
 .have hn1:runN prog N1 (solo (G (Frame.enter prog f args .normal) []) W)=.next (crowd gs1 w1 sl1):=by
   rw[<-runNT_fst _ _ _ #[],show runNT prog N1 (solo (G (Frame.enter prog f args .normal) []) W) #[]=_ from hr1]
  rw[runN_add,hn1];exact hn2
end
section
open Go Go.Conc Go.RowKit Go.ChangeShapes Go.WideShapes Go.ChangeAt
def ap0:decide (prog.globals.size<(begin prog (λ_ _=>0) default).world.heap.size)=true:=by kernel_rfl
def aBB(h:W.ShapedOpen prog):gN<=W.heap.size:=by
 have b:=sI ap0;obtain⟨o,c,a, -⟩:=h.2 _ (am _) b;have:=(de.1 a).1;unfold gN;omega
def awW(k:FuncId)(W:World)(args:Array Value):Prop:=
 ∃(a:ak) (P:Nat->Nat->Prop),(∀b,a b->dU W b)/\(∀b i v,a b->P b i->W.cell? ⟨b,i,none⟩=some v->mK a v)/\(∀g∈gL,a g)/\mE a args.toList/\
  ∀c:World,ah5 W a P c->∀t:Tape,Calls (ah true) k args (c.dw t) λe d=>∃v,e=.returned v/\(v=.bool true/\∀b,b<W.heap.size->d.heap[b]?=c.heap[b]?)
def wu (hF:dX Z) (F:∀S nm,Z S [] nm=(⟨#[]⟩,false)) {os:Os} {k:FuncId} {f:Func} {kt:Tmp} {s:ChangeSpec} {b:Bool} {tb:TypeId} {H:Type} {enc:TypeId×Value->H} {X:World->Array Value->Prop}
  (hX:∀(w w':World) (args:Array Value),w.heap=w'.heap->X w args->X w' args)
  (G:ownKnob prog.godebug=none) (c:os.Started) (C:prog.inits.idxOf? k=none) (r:prog.funcs[k]?=some f) (hq:(ah true).funcs[k]?=some f) (J:gH k=false) (R:f.results=#[.tmp kt])
  (hl:laidOutB prog=true) (hr:(f.params.toList.all λt=>prog.readableRec t&&decide (t<prog.types.size))=true) (u:f.resultTypes=#[tb]) (M:prog.underlying tb=some .bool) (U:varsRowed prog s.vars=true)
  (L:∀l n:List (DataW H),l.length=f.params.toList.length->n.length=s.vars.length->s.fn H (l++n)={results:=[.lit (.bool true)],args:=l,vars:=n})
  (d:∃(w:World) (a:Tape) (i:Input),w.os=os/\(w.forCall a i).Shaped prog/\i.vars=[]/\Input.okWide prog (w.forCall a i) .any w.heap.size k i/\
   ((s.pre enc prog f [] b (w.forCall a i).memory i.args/\X (w.forCall a i).memory i.args)/\sizedMet enc prog f (OpenSpec.ofChange s) b (w.forCall a i).memory i.args)/\Assume.holds {} prog (lone (Frame.enter prog k i.args .normal) [] (w.forCall a i)))
  (z:∀(W:World) (base:Nat) (args:Array Value) (l:List (DataW H)) (p:List MemPlace),
   (∀(j:Nat) t v,f.params[j]?=some t->args[j]?=some v->Value.okWide prog W .any base t v)->
   DataW.TrodAll enc prog W 0 (λ_=>true) true f.params.toList args.toList l p->(∀x∈p,x.block<W.heap.size)->X W args->awW k W args) :
  ReturnsInLeavingWide {} Tryz.checked os k .any (λw args=>(s.pre enc prog f [] b w args/\X w args)/\sizedMet enc prog f (OpenSpec.ofChange s) b w args) (s.post enc prog f b true false false):=by
 refine returnsInLeavingWide_of_good G c d ?_;intro w a i _ pS _ K V _;obtain⟨_,_,_,cX,B,_,_,_,_,y⟩:=K;have e:cX=f:=dq (B.symm.trans r);subst e;obtain⟨⟨⟨l,n,g,hw,hc⟩,I⟩,hz⟩:=V;have m:=DataW.Whole.of_heap (w':=w.forCall a i) (by rfl) hw;have A:X (w.forCall a i) i.args:=hX _ _ _ (by rfl) I;have O:∀p∈g,p.block<(w.forCall a i).heap.size:=λp T=>by simpa using m.lt p T
 have D:∀t∈cX.params.toList,prog.readableRec t=true/\t<prog.types.size:=λt ht=>by
  have:=jt.1 hr t ht;simpa using this
 obtain⟨p,q,Y,hV,Q,a1,a0⟩:=id m;obtain⟨S0,P,h1,h2,h3,h4,h5⟩:=z (w.forCall a i) w.heap.size i.args l p y Y (λx I=>O x (by rw[Q];simp[I])) A;obtain⟨N,last,o,w',t',g1,g2,g3,g4⟩:=as7 hF F h1 h2 h3 (aBB pS) h4 J r hq R C h5;refine⟨N,last,o,w',t',g1,g2,g3,g4.mono λv hv=> ?_⟩;obtain⟨rfl,E⟩:=hv;have T:=apE hl D u M U (L l n (ado Y) (ab9 hV)) m E;have E:=ChangeSpec.post_blind T;exact E
end
section
open Go.RowKit Go.ChangeAt
def aBC:∀g∈gL,g=0\/g=1:=by
 have h:(gL.all λg=>g ==0||g ==1)=true:=by unfold gL;kernel_rfl
 intro g a;have:=jt.1 h g a;simpa using this
def akf{P:Program}{w:World}{n:String}{d:DataW Unit}:∀{l:List (String×DataW Unit)} {f:List MemPlace},DataW.LaidVars P w l f->(n,d)∈l->
  ∃g t b a p,P.globalNamed n=some g/\(P.globals[g]?).map (·.type)=some t/\w.var? P n=some b/\DataW.trod (λ_=>()) P w 0 (λ_=>true) false a t b.toList=some (d,p)
 |[],_,_,h=>by cases h
 |(m,e)::l,f,h,c=>by
  obtain⟨g,t,b,a,p,q,r,i,k,o,s, -⟩:=h;rcases jp.1 c with j|c
  .cases j;exact⟨g,t,b,a,p,r,i,k,o⟩
  .exact akf s c
def as8{t:TypeId}{d:DataW Unit}{p:List MemPlace}(b:∃m,P.underlying t=some (.interface m)):DataW.trod (λ_=>()) P w 0 (λ_=>true) false Y t []≠some (d,p):=by
 obtain⟨m,a⟩:=b;cases Y with
 |zero=>simp[DataW.trod]
 |succ f=>simp[DataW.trod,a]
def avQ{n:String}{cs:Array Value}{g:Nat}(a:P.globalNamed n=some g)(h:w.var? P n=some cs):∃t z,w.heap[g]?=some (.cells cs t z):=by
 unfold World.var? at h;rw[a] at h;simp only[qB] at h;split at h
 .rename_i c t z b;cases h;exact⟨t,z,b⟩
 .cases h
def avR:∃m,prog.underlying 153=some (.interface m):=⟨_,underlying153⟩
def avS:prog.globalNamed "loop.example/depositary/impl.errKey" =some 0:=by kernel_rfl
def ap1:prog.globalNamed "loop.example/depositary/impl.errPiece" =some 1:=by kernel_rfl
def as9:(prog.globals[0]?).map (·.type)=some 153:=by kernel_rfl
def amH:(prog.globals[1]?).map (·.type)=some 153:=by kernel_rfl
def akg:(laidL.all λx=>x.2.handleName?.isNone)=true:=by kernel_rfl
def atc(j:laidMetH prog laidL W):(∀g∈gL,dU W g)/\Glo W:=by
 rw[uY _ _ _ akg] at j;obtain⟨A,w, -, -⟩:=j;have one:∀{n:String} {d:DataW Unit} {a:Nat},(n,d)∈laidL->prog.globalNamed n=some a->(prog.globals[a]?).map (·.type)=some 153->dU W a/\∃x,W.cell? ⟨a,0,none⟩=some x:=λ{n d a} v i y=>by
  obtain⟨g,t,b,k,p,q,e,s,o⟩:=akf w v;rw[i] at q;cases q;rw[y] at e;cases e;obtain⟨t,z,f⟩:=avQ i s;refine⟨⟨b,t,z,f⟩, ?_⟩;cases r:b.toList with
  |nil=>rw[r] at o;exact absurd o (as8 avR)
  |cons x l=>
   refine⟨x, ?_⟩;unfold World.cell?;rw[f];show b[0]?=some x;rw[<-dl,r];rfl
 have m:=one (n:= "loop.example/depositary/impl.errKey") (d:=Rows.laid_loop_example_depositary_impl_errKey) (by simp[laidL]) avS as9;have c:=one (n:= "loop.example/depositary/impl.errPiece") (d:=Rows.laid_loop_example_depositary_impl_errPiece) (by simp[laidL]) ap1 amH;refine⟨λg u=> ?_,m.2,c.2⟩;rcases aBC g u with rfl|rfl
 .exact m.1
 .exact c.1
def atd(W:World)(b i:Nat):Prop:=∀v,W.cell? ⟨b,i,none⟩=some v->mK (dU W) v
def ah5.cell(h:ah5 W (dU W) (atd W) V)(a:W.cell? ⟨b,i,none⟩=some v)(k:mK (dU W) v):V.cell? ⟨b,i,none⟩=some v:=by
 have j:atd W b i:=λu e=>by rw[a] at e;cases e;exact k
 unfold World.cell? at a ⊢;dsimp only at a ⊢;cases d:W.heap[b]? with
 |none=>rw[d] at a;simp at a
 |some o=>
  cases o with
  |cells c t z=>
   obtain⟨r,m,n,q,f,g,p,l⟩:=h.row b ⟨c,t,z,d⟩;rw[d] at f a;cases f;rw[g];exact l i v j a
  |_=>rw[d] at a;simp at a
def ah5.glo(h:ah5 W (dU W) (atd W) V)(a:∀g∈gL,dU W g)(b:Glo W)(j:0∈gL)(e:1∈gL):Glo V:=by
 have one:∀{g:Nat},dU W g->(∃x,W.cell? ⟨g,0,none⟩=some x)->∃x,V.cell? ⟨g,0,none⟩=some x:=λ{g} a ⟨x,hx⟩=>by
  obtain⟨c,f,t,z,d,i,k, -⟩:=h.row g a;unfold World.cell? at hx ⊢;dsimp only at hx ⊢;rw[d] at hx;rw[i];have:0<c.size:=(de.1 (show c[0]?=some x from hx)).1;exact⟨f[0]'(by omega),fm (by omega)⟩
 exact⟨one (a _ j) b.key,one (a _ e) b.piece⟩
def ah5.bytes(h:ah5 W (dU W) (atd W) V)(s:cV jk 1 W 0 W.heap.size l [v])(t:Tape):cV jk 1 (V.dw t) 0 (V.dw t).heap.size l [v]:=by
 obtain⟨A,c,C,n,g,y⟩:=s;refine⟨A,c,C,n,g,λr=> ?_⟩;obtain⟨b,d,q,f,B,k⟩:=y r;refine⟨b,d,q,f,by show b<V.heap.size;rw[h.size];exact B,λi x z=> ?_⟩;obtain⟨w,m,e,p⟩:=k i x z;refine⟨w,m,e,λj u a=> ?_⟩;have D:=p j u a;have o:mK (dU W) u:=by
  obtain⟨rfl, -⟩:=e;have:j=0:=by have:=aG a;simp at this;omega
  subst this;simp at a;subst a;exact .int _ _
 exact h.cell D o
def avT(b:Value.okWide prog W .any Y 22 v):mK (dU W) v:=by
 have d:=underlying22;unfold Value.okWide at b;rw[d] at b;dsimp only at b;unfold Cell.okWide at b;rw[d] at b;have b:Cell.ok prog W .any Y 22 v:=b;unfold Cell.ok at b;rw[d] at b;cases v with
 |slice A n c=>
  cases A with
  |none=>exact .py _ _
  |some a=>
   obtain⟨-, -, -, -,f,cells,e, -⟩:=b;refine .slice ?_ _ _;unfold World.shape? at e;split at e
   .rename_i g t z i;exact⟨g,t,z,i⟩
   .cases e
 |_=>exact b.elim
def xc {k:FuncId} (n:laidMetH prog laidL W)   (q:Value.okWide prog W .any Y 22 v) (h:cV jk 1 W 0 W.heap.size l [v])
  (r:∀w:World,Glo w->cV jk 1 w 0 w.heap.size l [v]->Calls (ah true) k #[v] w λe f=>e=.returned (.bool true)/\Below w.heap.size w f):awW k W #[v]:=by
 obtain⟨g,p⟩:=atc n;refine⟨dU W,atd W,λ_ h=>h,λb i v _ o c=>o v c,g,.cons (avT q) .nil,λj d t=> ?_⟩;refine(r (j.dw t) ?_ (d.bytes h t)).mono ?_
 .have:=d.glo g p (ahR ar8) (ahR ajy);exact⟨this.key,this.piece⟩
 .rintro e f ⟨rfl,m⟩;exact⟨_,rfl,rfl,λb a=>m.block b (by show b<j.heap.size;rw[d.size];exact a)⟩
end
section
open Go.RowKit
def wY:Tryz.pinned.checked.prog.mainIs=some (true, "2f4f2545fb31d20a29604584e32919d0b0735e157c6ee9f4b8aba4c115a8dc53".toList):=by kernel_rfl
def xt:false=Tryz.pinned.checked.prog.looks []:=by kernel_rfl
end
section
open Go.Shelf Go.RowKit
variable {β:Bool}
def agM:(ah β).follows .mixedOrders=true:=by cases β<;>kernel_rfl
def aci:Go.Shelf.Ren:=⟨fun|20=>25|n=>n,fun|22=>40|3=>3|4=>4|0=>0|n=>n,fun|n=>n⟩
def aay:Go.Proofs.Lays2.n20 (ah β) aci:={
 mixed:=agM
 f20:=qF25.trans (fi some (by kernel_rfl))
 t0:=qU0
 a0:=λw=>(bX _ w).trans (Tryz.isAgg0 w)
 z0:=λw=>(bu _ w).trans (Tryz.sizeOf0 w)
 v0:=λw=>(aL _ w).trans (vx w)
 t3:=qU3
 a3:=λw=>(bX _ w).trans (vC w)
 z3:=λw=>(bu _ w).trans (vj w)
 v3:=λw=>(aL _ w).trans (uz w)
 t4:=qU4
 a4:=λw=>(bX _ w).trans (Tryz.isAgg4 w)
 z4:=λw=>(bu _ w).trans (Tryz.sizeOf4 w)
 v4:=λw=>(aL _ w).trans (vw w)
 t22:=wx
 a22:=λw=>(bX _ w).trans (Tryz.isAgg40 w)
 z22:=λw=>(bu _ w).trans (Tryz.sizeOf40 w)
 v22:=λw=>(aL _ w).trans (vh w)
 i3:=by first|kernel_rfl|(cases β<;>kernel_rfl)}
open Go.RowKit Go.Lib Go.Sort in
def nD(b a cap:Nat)(c:List Int)(w:World)(i:Holds (Value.int .i64) w b a c.toArray)(f:c.length<=9223372036854775807)(d:c.length<=cap) :
  Calls (ah β) 25 #[.slice (some ⟨b,a,none⟩) c.length cap] w λe g=>e=.returned (.slice (some ⟨b,a,none⟩) (Lib.compact c).length cap)/\∃q,g=putRow (Value.int .i64) (Sort.ahead w q) b a (Lib.compact c++List.replicate (c.length-(Lib.compact c).length) 0).toArray:=Any.slices_Compact_int aay b a cap c w i f d
open Go.RowKit Go.Lib Go.Sort in
def jQ(a:Option Addr)(cap:Nat)(w:World) :
  Calls (ah β) 25 #[.slice a 0 cap] w λe b=>e=.returned (.slice a 0 cap)/\b=w:=Any.slices_Compact_int_empty aay a cap w
def pz:Go.Shelf.Ren:=⟨fun|5=>24|8=>40|7=>39|19=>69|20=>70|10=>60|11=>61|12=>62|13=>63|14=>64|15=>65|16=>66|17=>67|18=>68|30=>99|31=>100|32=>101|33=>102|34=>103|35=>104|40=>143|n=>n,fun|23=>40|25=>3|3=>3|32=>89|22=>40|0=>0|44=>122|46=>124|4=>4|36=>114|35=>113|41=>119|5=>5|9=>9|53=>156|57=>160|63=>199|64=>101|n=>n,fun|n=>n⟩
def mF:Go.Proofs.SlLaysM.n5 (ah β) pz:={
 mixed:=agM
 f5:=⟨f24.name,by decide,qF24.trans (fi some (by kernel_rfl))⟩
 f7:=⟨f39.name,by decide,qF39.trans (fi some (by kernel_rfl))⟩
 f8:=qF40.trans (fi some (by kernel_rfl))
 f10:=⟨f60.name,by decide,qF60.trans (fi some (by kernel_rfl))⟩
 f11:=⟨f61.name,by decide,qF61.trans (fi some (by kernel_rfl))⟩
 f12:=⟨f62.name,by decide,qF62.trans (fi some (by kernel_rfl))⟩
 f13:=⟨f63.name,by decide,qF63.trans (fi some (by kernel_rfl))⟩
 f14:=⟨f64.name,by decide,qF64.trans (fi some (by kernel_rfl))⟩
 f15:=⟨f65.name,by decide,qF65.trans (fi some (by kernel_rfl))⟩
 f16:=⟨f66.name,by decide,qF66.trans (fi some (by kernel_rfl))⟩
 f17:=⟨f67.name,by decide,qF67.trans (fi some (by kernel_rfl))⟩
 f18:=⟨f68.name,by decide,qF68.trans (fi some (by kernel_rfl))⟩
 f19:=qF69.trans (fi some (by kernel_rfl))
 f20:=qF70.trans (fi some (by kernel_rfl))
 f30:=⟨f99.name,by decide,qF99.trans (fi some (by kernel_rfl))⟩
 f31:=qF100.trans (fi some (by kernel_rfl))
 f32:=qF101.trans (fi some (by kernel_rfl))
 f33:=⟨f102.name,by decide,qF102.trans (fi some (by kernel_rfl))⟩
 f34:=⟨f103.name,by decide,qF103.trans (fi some (by kernel_rfl))⟩
 f35:=⟨f104.name,by decide,qF104.trans (fi some (by kernel_rfl))⟩
 f40:=⟨f143.name,by decide,qF143.trans (fi some (by kernel_rfl))⟩
 t0:=qU0
 a0:=λw=>(bX _ w).trans (Tryz.isAgg0 w)
 z0:=λw=>(bu _ w).trans (Tryz.sizeOf0 w)
 v0:=λw=>(aL _ w).trans (vx w)
 t3:=qU3
 a3:=λw=>(bX _ w).trans (vC w)
 z3:=λw=>(bu _ w).trans (vj w)
 v3:=λw=>(aL _ w).trans (uz w)
 t4:=qU4
 a4:=λw=>(bX _ w).trans (Tryz.isAgg4 w)
 z4:=λw=>(bu _ w).trans (Tryz.sizeOf4 w)
 v4:=λw=>(aL _ w).trans (vw w)
 t5:=qU5
 a5:=λw=>(bX _ w).trans (Tryz.isAgg5 w)
 z5:=λw=>(bu _ w).trans (Tryz.sizeOf5 w)
 v5:=λw=>(aL _ w).trans (Tryz.zeroValue5 w)
 t9:=qU9
 a9:=λw=>(bX _ w).trans (Tryz.isAgg9 w)
 z9:=λw=>(bu _ w).trans (Tryz.sizeOf9 w)
 v9:=λw=>(aL _ w).trans (Tryz.zeroValue9 w)
 t22:=wx
 a22:=λw=>(bX _ w).trans (Tryz.isAgg40 w)
 z22:=λw=>(bu _ w).trans (Tryz.sizeOf40 w)
 v22:=λw=>(aL _ w).trans (vh w)
 t23:=wx
 a23:=λw=>(bX _ w).trans (Tryz.isAgg40 w)
 z23:=λw=>(bu _ w).trans (Tryz.sizeOf40 w)
 v23:=λw=>(aL _ w).trans (vh w)
 t25:=qU3
 a25:=λw=>(bX _ w).trans (vC w)
 z25:=λw=>(bu _ w).trans (vj w)
 v25:=λw=>(aL _ w).trans (uz w)
 t32:=yf
 a32:=λw=>(bX _ w).trans (Tryz.isAgg89 w)
 z32:=λw=>(bu _ w).trans (Tryz.sizeOf89 w)
 v32:=λw=>(aL _ w).trans (Tryz.zeroValue89 w)
 t35:=xF
 a35:=λw=>(bX _ w).trans (Tryz.isAgg113 w)
 z35:=λw=>(bu _ w).trans (Tryz.sizeOf113 w)
 v35:=λw=>(aL _ w).trans (Tryz.zeroValue113 w)
 t36:=xE
 a36:=λw=>(bX _ w).trans (Tryz.isAgg114 w)
 z36:=λw=>(bu _ w).trans (Tryz.sizeOf114 w)
 v36:=λw=>(aL _ w).trans (Tryz.zeroValue114 w)
 t41:=xD
 a41:=λw=>(bX _ w).trans (Tryz.isAgg119 w)
 z41:=λw=>(bu _ w).trans (Tryz.sizeOf119 w)
 v41:=λw=>(aL _ w).trans (Tryz.zeroValue119 w)
 t44:=xC
 a44:=λw=>(bX _ w).trans (Tryz.isAgg122 w)
 z44:=λw=>(bu _ w).trans (Tryz.sizeOf122 w)
 v44:=λw=>(aL _ w).trans (Tryz.zeroValue122 w)
 t46:=xB
 a46:=λw=>(bX _ w).trans (Tryz.isAgg124 w)
 z46:=λw=>(bu _ w).trans (Tryz.sizeOf124 w)
 v46:=λw=>(aL _ w).trans (Tryz.zeroValue124 w)
 t53:=xz
 a53:=λw=>(bX _ w).trans (Tryz.isAgg156 w)
 z53:=λw=>(bu _ w).trans (Tryz.sizeOf156 w)
 v53:=λw=>(aL _ w).trans (Tryz.zeroValue156 w)
 t57:=xy
 a57:=λw=>(bX _ w).trans (Tryz.isAgg160 w)
 z57:=λw=>(bu _ w).trans (Tryz.sizeOf160 w)
 v57:=λw=>(aL _ w).trans (Tryz.zeroValue160 w)
 t63:=xv
 a63:=λw=>(bX _ w).trans (Tryz.isAgg199 w)
 z63:=λw=>(bu _ w).trans (Tryz.sizeOf199 w)
 v63:=λw=>(aL _ w).trans (Tryz.zeroValue199 w)
 t64:=xG
 a64:=λw=>(bX _ w).trans (Tryz.isAgg101 w)
 z64:=λw=>(bu _ w).trans (Tryz.sizeOf101 w)
 v64:=λw=>(aL _ w).trans (Tryz.zeroValue101 w)}
open Go.Sort Go.RowKit in
def aah(a b cap:Nat)(d:List Int)(w:World)(j:Holds (Value.int .i64) w a b d.toArray)(c:a<w.heap.size)(f:d.length<4611686018427387904) :
  Calls (ah β) 24 #[.slice (some ⟨a,b,none⟩) d.length cap] w λe g=>
   e=.returned (.tuple #[])/\∃n i,g=grow (putRow (Value.int .i64) (Sort.ahead w n) a b (d.mergeSort λx y=>decide (x<=y)).toArray) i:=AnyM.slices_Sort_int mF a b cap d w j c f
open Go.RowKit Go.Sort in
def lV(p:Option Addr)(cap:Nat)(w:World) :
  Calls (ah β) 24 #[.slice p 0 cap] w λe a=>e=.returned (.tuple #[])/\a=w:=AnyM.slices_Sort_int_none mF p cap w
end
section
variable {β:Bool}
open Go.RowKit
def jS(l:List Int):List Int:=l.mergeSort λx y=>decide (x<=y)
def mG(l:List Int):(jS l).length=l.length:=List.length_mergeSort l
def ate{base:Nat}(p:aF gM 3 w base v l)(q:l.length<4611686018427387904) :
  Calls (ah β) 24 #[v] w λe c=>e=.returned (.tuple #[])/\aF gM 3 c base v (jS l)/\bq (λb=>v.ownBlock=some b) w c:=by
 obtain⟨A,⟨rfl,x⟩|⟨g,cap,d,rfl,u,j,z,r,t,m⟩⟩:=p
 .obtain rfl:=ph.1 x;refine(lV none 0 w).mono ?_;rintro e c ⟨rfl,rfl⟩;refine⟨rfl, ?_,bq.refl _ _⟩;rw[show jS []=[] from ph.1 (mG [])];exact aF.nil _ _ _
 .have o:dt gM l=l.map (Value.int .i64):=pI l;rw[o] at m;have f:d.toList.take l.length=l.map (Value.int .i64):=by rw[<-m];show _=List.take (l.length*1) _;rw[tK]
  refine(aah g 0 cap l w (holds_of_blockI j f) (de.1 j).1 q).mono ?_;rintro e c ⟨rfl,n,os,rfl⟩;have a:=grownBy_sortedI (w:=w) (g:=g) (n:=n) (os:=os) (jS l).toArray;refine⟨rfl, ?_,a.os,a.tape,a.output,a.size,λk y i=>a.block k y λe=>i (by cases e;rfl)⟩;have s:=ownsRow_sortedI (w:=w) (base:=base) (g:=g) (cap:=cap) (n:=n) (os:=os) (ss:=l) (ts:=jS l) (mG l) u j z r t;unfold aF;rw[pI,mG];exact s
def aki{base:Nat}(F:aF gM 3 w base v l)(G:l.length<=9223372036854775807) :
  Calls (ah β) 25 #[v] w λe d=>∃p,e=.returned p/\aF gM 3 d base p (Lib.compact l)/\bq (λb=>v.ownBlock=some b) w d:=by
 obtain⟨L,⟨rfl,I⟩|⟨g,cap,j,rfl,t,s,x,A,H,u⟩⟩:=F
 .obtain rfl:=ph.1 I;refine(jQ none 0 w).mono ?_;rintro e d ⟨rfl,rfl⟩;refine⟨_,rfl, ?_,bq.refl _ _⟩;rw[show Lib.compact ([]:List Int)=[] from ph.1 (Nat.le_zero.1 (Lib.compact_length_le []))];exact aF.nil _ _ _
 .have E:dt gM l=l.map (Value.int .i64):=pI l;rw[E] at u;have f:j.toList.take l.length=l.map (Value.int .i64):=by rw[<-u];show _=List.take (l.length*1) _;rw[tK]
  have D:=Lib.compact_length_le l;refine(nD g 0 cap l w (holds_of_blockI s f) G x).mono ?_;rintro e d ⟨rfl,q,rfl⟩;have z:Sort.putRow (Value.int .i64) (Sort.ahead w q) g 0 (Lib.compact l++List.replicate (l.length-(Lib.compact l).length) 0).toArray=Sort.grow (Sort.putRow (Value.int .i64) (Sort.ahead w q) g 0 (Lib.compact l++List.replicate (l.length-(Lib.compact l).length) 0).toArray) #[]:=by rw[Sort.grow_empty]
  rw[z];have a:=grownBy_sortedI (w:=w) (g:=g) (n:=q) (os:=#[]) (Lib.compact l++List.replicate (l.length-(Lib.compact l).length) 0).toArray;refine⟨_,rfl, ?_,a.os,a.tape,a.output,a.size,λk B i=>a.block k B λe=>i (by cases e;rfl)⟩;obtain⟨-,⟨m, -⟩|⟨M,r,c,m, -,o,K,J,C,y⟩⟩:=ownsRow_sortedI (w:=w) (base:=base) (g:=g) (cap:=cap) (n:=q) (os:=#[]) (ss:=l) (ts:=Lib.compact l++List.replicate (l.length-(Lib.compact l).length) 0) (by simp;omega) t s x A H
  .cases m
  .cases m;unfold aF;rw[pI];refine⟨by rw[pu];exact(tK _).symm,.inr ⟨g,cap,c,rfl,t,o,by omega,J,C, ?_⟩⟩;show List.take ((Lib.compact l).length*1) _=_;rw[tK] at y ⊢;have:=fi (List.take (Lib.compact l).length) y;rw[vJ,qV D,qR,List.take_left' (by rw[pu])] at this;exact this
end
section
variable {β:Bool}
open Go.RowKit
def ap2(l:List Int):(jS l).Pairwise λa b=>a<=b:=by
 have h:=List.pairwise_mergeSort (le:=λx y:Int=>decide (x<=y)) (λa b c e d=>by simp at *;omega) (λa b=>by simp;omega) l;exact h.imp λh=>by simpa using h
def amJ(l:List Int):(jS l).Perm l:=List.mergeSort_perm _ _
def ah6 :(Lib.compact (jS l)).length=l.length↔l.Nodup:=by
 rw[<-(amJ l).nodup_iff,<-mG l];have c:=ap2 l;generalize jS l=z at c;constructor
 .intro h;have g:∀j,j<z.length->Lib.keeps z.toArray j=true:=λj a=>by
   unfold Lib.compact Lib.compactUpTo at h;rw[pu] at h;have d:((List.range z.length).filter (Lib.keeps z.toArray)).length=(List.range z.length).length:=by rw[h,List.length_range]
   exact List.length_filter_eq_length_iff.1 d j (qh.2 a)
  refine qg.2 λi j m a n=> ?_;have f:=g j a;unfold Lib.keeps at f;have b:¬j=0:=by omega
  have k:z[j]≠z[j-1]:=by
   intro e;simp[b,getElem!_pos,a,show j-1<z.length by omega,e] at f
  have d:=qg.1 c (j-1) j (by omega) a (by omega);have o:z[i]<=z[j-1]:=by
   by_cases e:i=j-1
   .subst e;exact ui _
   .exact qg.1 c i (j-1) m (by omega) (by omega)
  omega
 .intro h;rw[Lib.compact_all z λj a=> ?_];unfold Lib.keeps;by_cases b:j=0
  .simp[b]
  .have:=qg.1 h (j-1) j (by omega) a (by omega);simp[b,getElem!_pos,a,show j-1<z.length by omega];omega
end
section
open Go.RowKit
def acj{α:Type}(P:α->Prop)(f:α->Int)(l:List α):Prop:=(∀x∈l,P x)/\l.Pairwise λa b=>f a<f b
section
variable {α:Type} {P:α->Prop} {f:α->Int} {xs:List α} {x y:α} {j k:Nat}
def ah7:acj P f []:=⟨λx h=>(by cases h),List.Pairwise.nil⟩
def afs:acj P f (xs++[x])↔acj P f xs/\P x/\∀y∈xs,f y<f x:=by
 unfold acj;rw[rG];constructor
 .intro⟨d,e,_,g⟩;exact⟨⟨λy c=>d y (by simp[c]),e⟩,d x (by simp),λy c=>g y c x (by simp)⟩
 .intro⟨⟨d,e⟩,g,j⟩;refine⟨λy c=> ?_,e,rK _ _,λa i b k=> ?_⟩
  .rcases ge.1 c with c|c
   .exact d y c
   .rw[jn.1 c];exact g
  .rw[jn.1 k];exact j a i
def akj(b:xs[0]?=some x)(h:P x):acj P f (xs.take 1):=by
 rw[nF b];exact afs.2 ⟨ah7,h,λy a=>(by cases a)⟩
def an0(c:acj P f (xs.take (j+1)))(d:xs[j]?=some y)(e:xs[j+1]?=some x)(h:P x)(b:f y<f x):acj P f (xs.take (j+1+1)):=by
 rw[nF e];refine afs.2 ⟨c,h,λz a=> ?_⟩;rw[nF d] at a c;rcases ge.1 a with a|a
 .have:=(afs.1 c).2.2 z a;omega
 .rw[jn.1 a];exact b
def an1(b:xs[j]?=some y)(c:xs[j+1]?=some x)(h:¬f y<f x):¬acj P f xs:=λd=>by
 have a:=qg.1 d.2 j (j+1) (aG b) (aG c) (by omega);rw[(mp.1 b).2,(mp.1 c).2] at a;exact h a
end
def an2(key:Int)(l:List Pk):Prop:=acj (aiK key) Pk.no l/\l.length<=20/\(aX l).Nodup
def ap3(key:Int)(pk:List Pk)(x:Sn):Prop:=(1<=x.no/\x.no<=20)/\(fZ key (jB pk) x.all).isSome=true
def atf(key:Int)(pk:List Pk)(l:List Sn):Prop:=acj (ap3 key pk) Sn.no l
def aql(key:Int)(s:dK):Prop:=an2 key s.pk/\atf key s.pk s.sn
end
section
variable {β:Bool}
open Go.RowKit
def agN(key:Int)(n:1<=key/\key<=99)(l:List Pk)(B C:Option Addr)(nb b nc c':Nat)(v:Value)(w:World)(lo hi:Nat)(h:fP w lo hi l [v])(bZ:hi<=w.heap.size)(hl:nS pkN l<=100000000)(r:Bool)(hr:r=true↔an2 key l) :
  Calls (ah β) 14 #[.agg #[v,.slice B nb b,.slice C nc c'],.int .i64 key] w λe w'=>e=.returned (.bool r)/\Below w.heap.size w w':=by
 replace hr:=ab hr;obtain⟨A,c,rfl⟩:=h.form;obtain⟨_,hc,hx⟩:=h.len_;unfold maxLen at hx;go_enter zu,ntmps14;go_wp2;generalize hG:w.alloc (.cells #[.slice A l.length c,.slice B nb b,.slice C nc c'] 43)=w0 at *;obtain⟨Z,mo,k0,eJ,iw⟩:=iN hG;clear hG;have h0:=fP.aw.below h Z bZ;have z0:=Z.size;go_loopw [11] (λi wr=>∃k:Nat,k<=l.length/\i=.int .i64 k/\acj (aiK key) Pk.no (l.take k)/\Below w0.heap.size w0 wr) (λi _=>l.length-(intOf i).toNat)
 case atStart=>exact⟨0,fb _,rfl,ah7,gc _ _⟩
 case round=>
  obtain⟨k,hk,rfl,hn,d⟩:=hrel;have HN:=ab hn;clear hn;have G:=av k0 d;clear k0 eJ iw;have zr:=d.size;by_cases aa:k<l.length
  .obtain⟨p,V⟩:=aq aa;have X:=fP.aw.below h0 d (by omega);obtain⟨b1,ao,A5,c5,rfl, -, -,aS,a8,a7,a3⟩:=acZ X V;replace V:=ab V;have HH:=ab bZ;obtain⟨q,o⟩:=pC (aiK key p);have HQ:=ab o;clear o;go_wp2;generalize hG:wr.alloc (.cells #[.int .i64 p.no,.slice A5 p.its.length c5] 32)=wa at *;obtain⟨fD,ax,m0,a5,ay⟩:=iN hG;clear hG;have ha:=fP.aw.below X fD (by omega);have HI:=ab (iD.aw.below a3 fD (by omega));have ka:=av G fD;have z:=ae d fD;have za:=fD.size;have O:Hid (hi<=wa.heap.size):=ab (by omega);have f0:=ka.cell 0;have L:=a5 0;have J:=a5 1;clear G a3 a8 a7 X fD;cases q with
   |false=>
    have P:r=false:=by
     rw[<-lc,hr.out];intro hp;have:=HQ.out.2 (hp.1.1 p (da V.out));cases this
    have H:=ab P;clear P;go_wp2;have I:=aj f0;have W:=aj L;have R:=aj J;refine aI (by kernel_rfl) (by kernel_rfl) ?_;repeat(go_big_quiet_step (first|(go_at_call 23;refine eh (ab5 (β:=β) key n p _ _ lo hi (bd O.out (fV.ok _).size) (iD.aw.below HI.out (fV.ok _) O.out) _ HQ.out))))
    refine lE ?_;intro wq m;have o:=aU m;clear m I W R;go_wp2;go_ret;exact⟨aC H.out.symm,ae Z (ae z o)⟩
   |true=>
    have u:=HQ.out.1 rfl;have g:=ab u;clear u;rcases pa k with a4|a4
    .subst a4;have eB:=akj (f:=Pk.no) V.out g.out;have HK:=ab eB;clear eB;go_wp2;have I:=aj f0;have W:=aj L;have R:=aj J;refine aI (by kernel_rfl) (by kernel_rfl) ?_;repeat(go_big_quiet_step (first|(go_at_call 23;refine eh (ab5 (β:=β) key n p _ _ lo hi (bd O.out (fV.ok _).size) (iD.aw.below HI.out (fV.ok _) O.out) true ⟨λ_=>g.out,λ_=>rfl⟩))))
     refine lE ?_;intro wq m;have o:=aU m;clear m I W R;go_wp2;go_roundw
     case rel=>first|exact⟨1,by omega,by go_num,HK.out,ae z o⟩|((repeat apply Exists.intro);refine⟨?_,rfl⟩;exact⟨1,by omega,by go_num,HK.out,ae z o⟩)
     simp[intOf];omega
    .obtain⟨j,rfl⟩:∃j,k=j+1:=⟨k-1,by omega⟩;have e1:((j+1:Nat):Int)-1=(j:Int):=by omega
     obtain⟨y,fK⟩:=aq (l:=l) (k:=j) (by omega);obtain⟨b2,oM,A7,c7,a1, -, -,aZ,a6, -, -⟩:=acZ ha fK;simp only[mt,qv,ql] at a1;obtain⟨rfl,rfl⟩:=a1;replace fK:=ab fK;by_cases K:y.no<p.no
     .have u1:=bv (show ¬(p.no<=y.no) by omega);have eB:=an0 HN.out fK.out V.out g.out K;have HK:=ab eB;clear eB K;go_wp2;have I:=aj f0;have W:=aj L;have R:=aj J;have Q:=aj a6;refine aI (by kernel_rfl) (by kernel_rfl) ?_;repeat(go_big_quiet_step (first|(go_at_call 23;refine eh (ab5 (β:=β) key n p _ _ lo hi (bd O.out (fV.ok _).size) (iD.aw.below HI.out (fV.ok _) O.out) true ⟨λ_=>g.out,λ_=>rfl⟩))))
      refine lE ?_;intro wq m;have o:=aU m;clear m I W R Q;go_wp2;go_roundw
      case rel=>first|exact⟨j+1+1,by omega,by go_num,HK.out,ae z o⟩|((repeat apply Exists.intro);refine⟨?_,rfl⟩;exact⟨j+1+1,by omega,by go_num,HK.out,ae z o⟩)
      simp[intOf];omega
     .have u1:=db (show p.no<=y.no by omega);have P:r=false:=by
       rw[<-lc,hr.out];exact λhp=>an1 fK.out V.out K hp.1
      have H:=ab P;clear P K;go_wp2;have I:=aj f0;have W:=aj L;have R:=aj J;have Q:=aj a6;refine aI (by kernel_rfl) (by kernel_rfl) ?_;repeat(go_big_quiet_step (first|(go_at_call 23;refine eh (ab5 (β:=β) key n p _ _ lo hi (bd O.out (fV.ok _).size) (iD.aw.below HI.out (fV.ok _) O.out) true ⟨λ_=>g.out,λ_=>rfl⟩))))
      refine lE ?_;intro wq m;have o:=aU m;clear m I W R Q;go_wp2;go_ret;exact⟨aC H.out.symm,ae Z (ae z o)⟩
  .obtain rfl:k=l.length:=by omega
   have u:=HN.out;rw[gn] at u;have g:=ab u;clear u HN;have f0:=G.cell 0;have X:=fP.aw.below h0 d (by omega);go_wp2;refine(jP l _ _ lo hi (by omega) X hl).mono ?_;rintro e w1 ⟨v1,rfl,o1,b1⟩;have hn:(aX l).length=nS pkN l:=by
    have:=iy l l.length;rw[gn,kg] at this;exact this
   go_wp2;refine(ate o1 (by omega)).mono ?_;rintro e w2 ⟨rfl,o2,a2⟩;have hS:∀b,v1.ownBlock=some b->wr.heap.size<=b:=λb hb=>(o1.at_ hb).1;have F:Below wr.heap.size wr w2:=b1.trans (a2.below b1.size λi hi e=>by have:=hS i e;omega);have z2:=F.size;have k2:=av G F;have h2:=fP.aw.below X F (by omega);have f2:=k2.cell 0;obtain⟨A2,c2,rfl⟩:=o2.form;have ad:=mG (aX l);have jG:=Lib.compact_length_le (jS (aX l));have a0:=ae Z (ae d F);have HC:=ab (ah6 (l:=aX l));have an:Hid ((jS (aX l)).length<=9223372036854775807):=ab (by omega);have af:=ab o2;have al:Hid ((aX l).length<=100000000):=ab (by omega);clear G f0 X o1 b1 a2 o2 hn Z d F h0 h k2;obtain⟨M,hM⟩:∃M,M=Lib.compact (jS (aX l)):=⟨_,rfl⟩;rw[<-hM] at HC jG;replace hM:=ab hM;have aJ:Hid (M.length<=100000000):=ab (by have:=al.out;omega);clear ad jG;by_cases E:(l.length:Int)<=20
   case' neg=>
    have u1:decide ((l.length:Int)<=20)=false:=bv E;have P:r=false:=by
     rw[<-lc,hr.out];exact λhp=>E (by have:=hp.2.1;omega)
    have H:=ab P;clear P E;go_wp2;have I:=aj f2;refine aI (by kernel_rfl) (by kernel_rfl) ?_;repeat(go_big_quiet_step (fail))
    refine lE ?_;intro wq m;have o:=aU m;clear m I;go_wp2;go_ret;exact⟨aC H.out.symm,ae a0 o⟩
   have u1:decide ((l.length:Int)<=20)=true:=db E;have u2:((M.length:Int) ==((aX l).length:Int))=r:=by
    have h3:r=true↔M.length=(aX l).length:=by
     rw[hr.out,HC.out];exact⟨λh=>h.2.2,λh=>⟨g.out,by omega,h⟩⟩
    rw[qn,h3,mw];omega
   clear E;have U2:=ab u2;clear u2;go_wp2;have aO:=fB (s:=6) (ty:=3) (S:=λb=>(Value.slice A2 (jS (aX l)).length c2).ownBlock=some b) (pre:=[]) f2 (λe=>by have:=hS _ e;dsimp only at this;omega);refine mZ 6 3 (λb=>(Value.slice A2 (jS (aX l)).length c2).ownBlock=some b) [] 15 [0,1,2,3,4,5,8,9] [6,7,10,11,12,13,14] (by kernel_rfl) (by kernel_rfl) (by kernel_rfl) ?_;simp only[pick,List.map,pi,pm];repeat(go_big_quiet_step (fail))
   refine lE ?_;apply Exists.intro;apply ahn (λv x=>x.done=true/\aF gM 3 x.to wr.heap.size v M)
   .rfl
   .rfl
   .exact λj hj=>(by cases hj)
   .exact λv x y ⟨hd,ho⟩ hle=>⟨(hle.from_ hd).1,ho.below (hle.from_ hd).2⟩
   .intro x _ D Y a;replace a:=ab a;have t:=x.till D;have ox:=af.out.below t;go_wp2;refine(aki ox an.out).mono ?_;rintro e wy ⟨v5,rfl,N,c5⟩;rw[<-hM.out] at N;go_wp2;exact a.out _ _ (c5.mono λb hb e=>.inl e) ⟨rfl,N⟩
   intro aN;simp only[Act.put,dj,gt,gE];apply aaQ (.int .i64 M.length)
   .intro x U _ Y a;replace a:=ab a;obtain⟨D,N⟩:=U.1 (by kernel_rfl);obtain⟨A5,c5,rfl⟩:=N.form;go_wp2;exact a.out _ (gc _ _)
   simp only[Act.put,dj,gt,gE];apply akP (λv x=>x.done=true/\aF gM 3 x.to wr.heap.size v (aX l))
   .rfl
   .exact λv x y ⟨hd,ho⟩ hle=>⟨(hle.from_ hd).1,ho.below (hle.from_ hd).2⟩
   .intro x U _ Y a;replace a:=ab a;obtain⟨D, -⟩:=U.1 (by kernel_rfl);have t:Below wr.heap.size w2 x.to:=(x.ok.mono (T:=λb=>(Value.slice A2 (jS (aX l)).length c2).ownBlock=some b) λb _ h=>h.2).below z2 λi hi e=>by have:=hS i e;omega
    have h3:=fP.aw.below h2 t (by omega);have zx:=x.ok.size;go_wp2;refine(jP l _ _ lo hi (by omega) h3 hl).mono ?_;rintro e wy ⟨v5,rfl,N,b5⟩;go_wp2;exact a.out _ _ b5 ⟨D,N.base (by omega)⟩
   intro aM;simp only[Act.put,dj,gt,gE];apply aaQ (.int .i64 (aX l).length)
   .intro x U _ Y a;replace a:=ab a;obtain⟨D,N⟩:=U.1 (by kernel_rfl);obtain⟨A5,c5,rfl⟩:=N.form;go_wp2;exact a.out _ (gc _ _)
   simp only[Act.put,dj,gt,gE];apply aaQ (.bool r)
   .intro x _ _ Y a;replace a:=ab a;have u2:=U2.out;go_wp2;exact a.out _ (gc _ _)
   simp only[Act.put,dj,gt,gE];apply aaQ (.bool r)
   .intro x _ _ Y a;replace a:=ab a;go_wp2;exact a.out _ (gc _ _)
   simp only[Act.put,dj,gt,gE];apply aaQ (.bool r)
   .intro x _ _ Y a;replace a:=ab a;go_wp2;exact a.out _ (gc _ _)
   simp only[Act.put,dj,gt,gE];refine ahp λx U=> ?_;have t:Below wr.heap.size w2 x.to:=(x.ok.mono (T:=λb=>(Value.slice A2 (jS (aX l)).length c2).ownBlock=some b) λb _ h=>h.2).below z2 λi hi e=>by have:=hS i e;omega
   have a9:=a0.trans (t.mono (by omega));clear U t;simp only[List.drop];go_wp2;go_ret;exact⟨rfl,a9⟩
end
section
open Go.RowKit
def ap4(key:Int)(s:1<=key/\key<=99)(g:List Pk)(l:List Sn)(C:Option Addr)(nc c':Nat)(v1 v2:Value)(w:World)(lo hi:Nat)(hg:Glo w)(h1:kR w lo hi g [v1])(h2:mr w lo hi l [v2])(bZ:hi<=w.heap.size)(X:∀p∈g,1<=p.its.length)(K:∀x∈l,x.all.length<=1099511627/\∀y∈x.all,y.ns.length<=2147483647)(r:Bool)(R:r=true↔atf key g l) :
  Calls (ah true) 15 #[.agg #[v1,v2,.slice C nc c'],.int .i64 key] w λe w'=>e=.returned (.bool r)/\Below w.heap.size w w':=by
 replace R:=ab R;replace s:=ab s;replace K:=ab K;obtain⟨A,a,rfl⟩:=cV.form h1;obtain⟨B,b,rfl⟩:=cV.form h2;have gK:∀p∈jB g,1<=p.2.length/\bF p.1:=λp F=>⟨by
  obtain⟨q,m,rfl⟩:=mT.1 F;have:=X q m;unfold pkd;simpa using this,h1.ais p F⟩
 obtain⟨-,ha,S⟩:=cV.len_ h1;obtain⟨-,hb,af⟩:=cV.len_ h2;replace S:=ab S;replace gK:=ab gK;clear X;unfold maxLen at af;go_enter zt,ntmps15;go_wp2;generalize Y:w.alloc (.cells #[.slice A g.length a,.slice B l.length b,.slice C nc c'] 43)=w0 at *;obtain⟨G,mo,k0,eJ,iw⟩:=iN Y;clear Y;have a8:=kR.loc.below h1 G bZ;have aa:=mr.loc.below h2 G bZ;have a4:=hg.below G;have z0:=G.size;clear h1 h2 hg;go_loopw [12] (λi wr=>∃k:Nat,k<=l.length/\i=.int .i64 k/\acj (ap3 key g) Sn.no (l.take k)/\Below w0.heap.size w0 wr) (λi _=>l.length-(intOf i).toNat)
 case atStart=>exact⟨0,fb _,rfl,ah7,gc _ _⟩
 case round=>
  obtain⟨k,hk,rfl,hn,o⟩:=hrel;replace hn:=ab hn;have a2:=av k0 o;clear k0 eJ iw;have zr:=o.size;by_cases a6:k<l.length
  .obtain⟨x,fA⟩:=aq a6;have T:=mr.loc.below aa o (by omega);obtain⟨bb,aM,D,d,rfl,_,_,aN,al,an,a5⟩:=asx T fA;have W:=ab fA;have a3:=ab (K.out x (da fA));clear fA;go_wp2;generalize Y:wr.alloc (.cells #[.int .i64 x.no,.slice D x.all.length d] 65)=wa at *;obtain⟨fD,aJ,m0,z,a9⟩:=iN Y;clear Y;have ao:=mr.loc.below T fD (by omega);have U:=av a2 fD;have H:=ae o fD;have za:=fD.size;have f0:=U.cell 0;have f1:=U.cell 1;have E:=z 0;have ay:=z 1;clear a2 al an T;by_cases g1:1<=x.no
   case' neg=>
    have u1:=db (show x.no<1 by omega);have f:r=false:=by
     rw[<-lc,R.out];exact λF=>g1 (F.1 x (da W.out)).1.1
    have c:=ab f;clear f g1;go_wp2;have L:=aj f1;have P:=aj E;refine aI (by kernel_rfl) (by kernel_rfl) ?_;repeat(go_big_quiet_step (fail))
    refine lE ?_;intro wq n;have m:=aU n;clear n L P;go_wp2;go_ret;exact⟨aC c.out.symm,ae G (ae H m)⟩
   have u1:=bv (show ¬(x.no<1) by omega);by_cases g2:x.no<=20
   case' neg=>
    have u2:=db (show 20<x.no by omega);have f:r=false:=by
     rw[<-lc,R.out];exact λF=>g2 (F.1 x (da W.out)).1.2
    have c:=ab f;clear f g1 g2;go_wp2;have L:=aj f1;have P:=aj E;refine aI (by kernel_rfl) (by kernel_rfl) ?_;repeat(go_big_quiet_step (fail))
    refine lE ?_;intro wq n;have m:=aU n;clear n L P;go_wp2;go_ret;exact⟨aC c.out.symm,ae G (ae H m)⟩
   have u2:=bv (show ¬(20<x.no) by omega);have a7:=ab (And.intro g1 g2);clear g1 g2;have ad:(∃j y,k=j+1/\l[j]?=some y/\¬y.no<x.no)\/k=0\/∃j y,k=j+1/\l[j]?=some y/\y.no<x.no:=by
    rcases pa k with h|h
    .exact .inr (.inl h)
    .obtain⟨j,rfl⟩:∃j,k=j+1:=⟨k-1,by omega⟩;obtain⟨y,hy⟩:=aq (l:=l) (k:=j) (by omega);by_cases hc:y.no<x.no
     .exact .inr (.inr ⟨j,y,rfl,hy,hc⟩)
     .exact .inl ⟨j,y,rfl,hy,hc⟩
   rcases ad with⟨j,y,rfl,V,t⟩|rfl|⟨j,y,rfl,V,t⟩
   case' inl|inr.inr=>
    have e1:((j+1:Nat):Int)-1=(j:Int):=by omega
    obtain⟨b2,oM,D2,d2,Z, -, -, -,I, -, -⟩:=asx ao V;simp only[mt,qv,ql] at Z;obtain⟨rfl,rfl⟩:=Z
   case' inl=>
    have u3:=db (show x.no<=y.no by omega);have f:r=false:=by
     rw[<-lc,R.out];exact λF=>an1 V W.out t F
    have c:=ab f;clear f t V;go_wp2;have L:=aj f1;have P:=aj E;have dN:=aj I;refine aI (by kernel_rfl) (by kernel_rfl) ?_;repeat(go_big_quiet_step (fail))
    refine lE ?_;intro wq n;have m:=aU n;clear n L P dN;go_wp2;go_ret;exact⟨aC c.out.symm,ae G (ae H m)⟩
   case' inr.inr=>
    have u3:=bv (show ¬(x.no<=y.no) by omega);have eB:ap3 key g x->acj (ap3 key g) Sn.no (l.take (j+1+1)):=λhx=>an0 hn.out V W.out hx t;clear t V
   case' inr.inl=>
    have I:=E;have eB:ap3 key g x->acj (ap3 key g) Sn.no (l.take (0+1)):=λhx=>akj W.out hx
   all_goals
    have HK:=ab eB;clear eB;go_wp2;have L:=aj f1;have P:=aj E;have dN:=aj I;refine aI (by kernel_rfl) (by kernel_rfl) ?_;repeat(go_big_quiet_step (fail))
    refine lE ?_;intro wq n;have m:=aU n;clear n L P dN;replace U:=av U m;replace a0:=U.cell;replace aZ:=U.frozen;replace m0:=av m0 m;replace z:=m0.cell;replace a9:=m0.frozen;have Q:=ae H m;have b0:=a0 0;have aS:=a0 1;have aO:=z 0;have ax:=z 1;have zq:=m.size;have gv:=(kR.loc.below a8 Q (by omega)).pkl (by omega);have J:=oU.loc.below a5 (ae fD m) (by omega);have O:(jB g).length=g.length:=pu _;have HT:=aml key s.out (jB g) A a x _ lo hi wq (a4.below Q) (by omega) gv (by rw[O];exact ha) S.out gK.out J a3.out.2 a3.out.1;rw[O] at HT;replace HT:=ab HT;clear gv J O I;go_wp2;refine HT.out.mono ?_;rintro e w5 ⟨u,rfl, -, -,b5⟩;have a1:=ae Q b5;obtain⟨q,v⟩:∃q,q=(fZ key (jB g) x.all).isSome:=⟨_,rfl⟩;rw[<-v];replace v:=ab v;clear HT;cases q
    .have f:r=false:=by
      rw[<-lc,R.out];intro F;have:=(F.1 x (da W.out)).2;rw[<-v.out] at this;cases this
     have c:=ab f;clear f;go_wp2;go_ret;exact⟨aC c.out.symm,ae G a1⟩
    .have M:=HK.out ⟨a7.out,v.out.symm⟩;replace M:=ab M;clear HK;go_wp2;go_roundw
     case rel=>exact⟨_,by omega,by go_num,M.out,a1⟩
     simp[intOf];omega
  .obtain rfl:k=l.length:=by omega
   have N:=hn.out;rw[gn] at N;have f:r=true:=R.out.2 N;have c:=ab f;clear N hn f;go_wp2;go_ret;exact⟨aC c.out.symm,ae G o⟩
end
section
open Go.RowKit
def ap5(key:Int)(s:dK)(l:nS pkN s.pk<=100000000)(t:∀x∈s.sn,x.all.length<=1099511627/\∀y∈x.all,y.ns.length<=2147483647)(M T W:Value)(lo hi:Nat)(w:World)(hg:Glo w)(z:hi<=w.heap.size)(J:fP w lo hi s.pk [M])(h:aga w lo hi s M T W)(r:Bool)(u:r=true↔(1<=key/\key<=99)/\aql key s/\aii s.lg) :
  Calls (ah true) 7 #[.int .i64 key,.agg #[M,T,W]] w λe w'=>e=.returned (.bool r)/\Below w.heap.size w w':=by
 obtain⟨U,Q,R⟩:=h;obtain⟨A,a,rfl⟩:=cV.form U;obtain⟨B,b,rfl⟩:=cV.form Q;obtain⟨C,c,rfl⟩:=cV.form R;replace u:=ab u;replace t:=ab t;replace l:=ab l;go_enter qF7,ntmps7;go_wp2;generalize E:w.alloc (.cells #[.slice A s.pk.length a,.slice B s.sn.length b,.slice C s.lg.length c] 27)=w0 at *;obtain⟨D,mo,f,F,I⟩:=iN E;clear E;refine(adm _ _ _ ⟨_,_,_,rfl⟩ ⟨_,_,_,rfl⟩ ⟨_,_,_,rfl⟩ w0).mono ?_;rintro e Z ⟨rfl,N⟩;replace f:=av f N;replace F:=f.cell;replace I:=f.frozen;replace D:=ae D N;go_wp2;by_cases d:1<=key/\key<=99
 case' neg=>
  have o:r=false:=by
   rw[<-lc,u.out];exact λh=>d h.1
  have j:=ab o;clear o;refine(abT (β:=true) key _ false (by simp only[kw,false_iff];exact d)).mono ?_;clear d;rintro e L ⟨rfl,rfl⟩;go_wp2;go_ret;exact⟨aC j.out.symm,ae D (aA _ _)⟩
 replace d:=ab d;refine(abT (β:=true) key _ true (by simp only[tQ];exact d.out)).mono ?_;rintro e L ⟨rfl,rfl⟩;go_wp2;generalize E:Z.alloc (.cells #[.slice A s.pk.length a,.slice B s.sn.length b,.slice C s.lg.length c] 43)=L at *;obtain⟨P,a2,K,m,O⟩:=iN E;clear E;replace f:=av f P;replace F:=f.cell;replace I:=f.frozen;have i:=ae D P;have z2:=i.size;clear D P N;by_cases g:an2 key s.pk
 case' neg=>
  have o:r=false:=by
   rw[<-lc,u.out];exact λh=>g h.2.1.1
  have j:=ab o;clear o;refine(agN (β:=true) key d.out s.pk B C _ b _ c _ L lo hi (fP.aw.below J i z) (by omega) l.out false (by simp[g])).mono ?_;clear g;rintro e S ⟨rfl,v⟩;go_wp2;go_ret;exact⟨aC j.out.symm,ae i v⟩
 have H:=ab g;refine(agN (β:=true) key d.out s.pk B C _ b _ c _ L lo hi (fP.aw.below J i z) (by omega) l.out true (by simp[g])).mono ?_;clear g;rintro e S ⟨rfl,v⟩;replace f:=av f v;replace F:=f.cell;replace I:=f.frozen;replace K:=av K v;replace m:=K.cell;replace O:=K.frozen;have k:=ae i v;have z3:=k.size;have a1:=m 0;have a0:=m 1;have Y:=m 2;go_wp2;obtain⟨q,G⟩:=pC (atf key s.pk s.sn);refine(ap4 key d.out s.pk s.sn C _ c _ _ S lo hi (hg.below k) (kR.loc.below U k z) (mr.loc.below Q k z) (by omega) (λp J=>(H.out.1.1 p J).2.2.1.1) t.out q G).mono ?_;rintro e X ⟨rfl,V⟩;replace f:=av f V;replace F:=f.cell;replace I:=f.frozen;have n:=ae k V;have z4:=n.size;replace G:=ab G;have f02:=F 2;cases q
 .have o:r=false:=by
   rw[<-lc,u.out];intro h;have:=G.out.2 h.2.1.2;cases this
  have j:=ab o;clear o;go_wp2;go_ret;exact⟨aC j.out.symm,n⟩
 .go_wp2;refine(ajQ s.lg _ X lo hi (aaq.loc.below R n z) (by omega) r (by
   rw[u.out];exact⟨λh=>h.2.2,λh=>⟨d.out,⟨H.out,G.out.1 (by trivial)⟩,h⟩⟩)).mono ?_
  rintro e w5 ⟨rfl,b5⟩;cases r<;>(go_wp2;go_ret;exact⟨rfl,ae n b5⟩)
def aoi(key:Int)(a:1<=key/\key<=99)(s:dK)(g:SmS s)(c:aii s.lg)(b f d:Value)(lo hi:Nat)(w:World)(m:Glo w)(o:hi<=w.heap.size)(i:fP w lo hi s.pk [b])(h:aga w lo hi s b f d)(r:Bool)(l:r=true↔aql key s) :
  Calls (ah true) 7 #[.int .i64 key,.agg #[b,f,d]] w λe j=>e=.returned (.bool r)/\Below w.heap.size w j:=
 ap5 key s (by have:=aij s.pk;have:=g.atz;unfold adB at this;omega) (λx n=>by
  have:=g.sn x n;exact⟨by omega,λy k=>by have:=(this.2 y k).2;omega⟩) b f d lo hi w m o i h r (by rw[l];exact⟨λh=>⟨a,h,c⟩,λh=>h.2.1⟩)
end
section
open Go.RowKit
def agO{s:Sp}:∀{l:List Sp},(∀x∈l,x.n≠s.n)->(dz s l).length=l.length+1
 |[],_=>rfl
 |x::l,h=>by
  have b:=h x (by simp);unfold dz;split
  .rfl
  .split
   .rw[eg,agO λy a=>h y (qE _ a),eg]
   .omega
def aft:∀{a l:List Sp},(a.map λs=>s.n).Nodup->(∀s∈a,∀x∈l,x.n≠s.n)->(cN a l).length=a.length+l.length
 |[],l,_,_=>by simp[cN]
 |s::a,l,h,hl=>by
  rw[qL,qK] at h;have e:cN (s::a) l=cN a (dz s l):=rfl;rw[e,aft h.2 λt c x b=> ?_,agO λx b=>hl s (by simp) x b,eg]
  .omega
  .rcases oN b with rfl|b
   .exact λe=>h.1 (e▸sU c)
   .exact hl t (qE _ c) x b
def oC(l:List Pk):(bE l).map (λs=>s.n)=aX l:=by
 unfold bE aX;rw[vk];refine fi (λf=>l.flatMap f) (funext λp=> ?_);unfold ng gF;rw[tz];rfl
def akk{l:List Pk}(h:∀p∈l,aiK key p):∀x∈bE l,spP x:=λx a=>by
 obtain⟨p,c,a⟩:=qa.1 a;obtain⟨y,d,rfl⟩:=mT.1 a;have b:=h p c;obtain⟨q,e,g⟩:=b.2.2.2.1 y d;have f:=b.1;have:=jq (key:=key) (l:=q);exact⟨by show 0<=y.n/\y.n<=_;omega,by show 1<=p.no/\p.no<=99;omega⟩
def akz{l:List Pk}{r:List Sp}(h:IOf l r)(a:an2 key l):r.length=nS pkN l:=by
 have b:=akk a.1.1;rcases h with⟨-,rfl⟩|⟨d, -⟩
 .rw[aft (by rw[oC];exact a.2.2) (λs _ x e=>by cases e),lw,sS];have f:(bE l).length=(aX l).length:=by rw[<-oC,pu]
  have c:=iy l l.length;rw[gn,kg] at c;omega
 .exact absurd b d
end
end Go.Proofs.YtmicddpknimniaaGreatDoor