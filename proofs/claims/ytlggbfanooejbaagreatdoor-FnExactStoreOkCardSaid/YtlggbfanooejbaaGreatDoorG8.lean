/- A part. -/
import Derived.Test.YtlggbfanooejbaaGreatDoorG7
import Derived.Orders
import Derived.Conc.AppendWalk
import Derived.DuoClaim
import Derived.Conc.LeavingOf
import Derived.Conc.Holds
import Derived.OpenVars
import Derived.LaidMore
import Derived.Lay
import Derived.SevenTiedAt
import Derived.Test.YtlggbfanooejbaaGreatDoorTie
import Derived.Test.YtlggbfanooejbaaGreatDoorCards
import Derived.SizedLaws
import Derived.Shelf.Sort.Plain
import Derived.Shelf.Slices.CompactI
import Derived.Shelf.Slices.In.SortNone
import Derived.Sort.OwnSortedInts
import Derived.Lib.RowBridge
set_option maxRecDepth 100000
set_option maxHeartbeats 8000000
set_option linter.all false
open Go Go.Conc Go.ConcN Go.RowKit Go.Proofs.Tryz Go.Proofs.YtlggbfanooejbaaGreatDoor
variable {O aT:aq} {Y Q b b0 c g0 i j n:Nat} {key:Int} {T H:Type} {S:Bool} {a:Addr} {o:Oper} {W w:World} {fr:Frame} {v:Value} {f:FuncId} {t ty:TypeId} {P:Program} {d:TypeDesc} {l:List Int} {rest:List Nat} {g:Goroutine} {k:List Item} {V:Array Oper} {af:Array Edge} {listed:Array Bool} {xs:List Frame} {X:Array Value} {R A:Option Addr} {es:Array Event} {e:Operand→Value} {p:List MemPlace} {gd:Option (Nat × Bool)} {U:Goroutine→World→Prop} {Stop:aq→Goroutine→World→Prop} {Z:Int→List fS→Int→ByteArray × Bool} {E:eX T}
namespace Go.Proofs.YtlggbfanooejbaaGreatDoor
def tU:=@Go.Lib.compact_length_le
def uv:=@Go.MakeChecks.laidMetH_plain
def uL:=@List.toArray_replicate
def uU:=@Bool.and_eq_false_iff
def uV:=@Bool.and_assoc
def vj:=@Bool.or_eq_false_iff
def vm:=@Go.Claim7.new_of_sixth
section
open Go.Conc Go.ConcN Go.RowKit
open Go.ConcR (KK wgBlock WgAt stA smA rd wr mk Payload DC0)
instance aAF:Payload:=⟨171⟩
structure Wx where
 w0:World
 Wg:Nat
 C:Nat
 n2:Nat
 κ:Nat
 R:aq
 Rg:Nat->Prop
 key:Int
 A:Option Addr
 n:Nat
 c:Nat
 l:List fS
 nm:Int
 bk:Nat
 bp:Nat
 bn:Nat
 ba:Nat
 bi:Nat
 tWg:TypeId
structure Wx.Ok (X:Wx):Prop where
 hN:gN<=X.w0.heap.size
 gl:∀g∈gL,X.Rg g
 gr:∀g∈gL,dn X.w0 g
 k1:1<=X.key
 k2:X.key<=99
 hl:X.l.length=X.n
 hc:X.n<=X.c
 hcm:(X.c:Int)<=9223372036854775807
 rd:RdP X.w0 X.A 0 X.l
 rgp:RgP X.Rg X.w0 X.A X.l
 al:∀a,X.A=some a->0<X.l.length->X.Rg a.block
 nm:In_ X.nm
 kn:X.κ<X.n2
 rows:∀b,X.Rg b->X.R b
 rk:X.R X.bk/\X.w0.cell? ⟨X.bk,0,none⟩=some (.int .i64 X.key)
 rp:X.R X.bp/\X.w0.cell? ⟨X.bp,0,none⟩=some (.slice X.A X.n X.c)
 rn:X.R X.bn/\X.w0.cell? ⟨X.bn,0,none⟩=some (.int .i64 X.nm)
 ra:X.R X.ba/\X.w0.cell? ⟨X.ba,0,none⟩=some (.slice (some ⟨X.C,0,none⟩) X.n2 X.n2)
 ri:X.R X.bi/\X.w0.cell? ⟨X.bi,0,none⟩=some (.int .i64 X.κ)
 rlt:∀b,X.R b->b<X.w0.heap.size
 rC:¬X.R X.C
 rW:¬X.R X.Wg
 cW:X.C≠X.Wg
abbrev Wx.Rl(X:Wx):aq->World->World->Prop:=iN X.tWg X.Wg X.C (2*X.n2) X.R (dw X.κ)
abbrev Wx.Gr(X:Wx):aq->aq->World->World->Array Event->Prop:=Gua X.Wg X.C (2*X.n2) X.R (dw X.κ)
def Wx.lj(X:Wx):nD X.Rl X.R:=⟨λS w=>iN.refl _ _ _ _,λ_ _ _ _=>iN.trans,λ_ _ _ h=>⟨h.keep,h.size,h.os⟩⟩
structure Wx.Inv (X:Wx) (S:aq) (w:World):Prop where
 r:∀b,X.R b->w.heap[b]?=X.w0.heap[b]?
 s:∀b,S b->¬X.R b/\b≠X.C/\b≠X.Wg
 c:X.C<w.heap.size
 wg:X.Wg<w.heap.size
 sz:X.w0.heap.size<=w.heap.size
 live:WgLive X.tWg X.Wg w
 pay:PayAt X.C (2*X.n2) w
 os:w.ou=X.w0.ou
section
variable {X:Wx} {S S':aq} {w w' w1:World} {es:Array Event}
def Wx.Inv.rely(h:X.Inv S w)(a:X.Rl S w w1):X.Inv S w1:=
 ⟨λb c=>(a.keep b (.inr c)).trans (h.r b c),h.s,aE h.c a.size,aE h.wg a.size,am h.sz a.size,a.live h.live,a.pay h.pay,a.os.trans h.os⟩
def Wx.step(t:X.Ok)(h:X.Inv S w)(g:nC X.R S S' w w' es):X.Gr S S' w w' es/\X.Inv S' w':=by
 obtain⟨l,k,q,rfl,C⟩:=g;have m:w'.heap[X.C]?=w.heap[X.C]?:=l _ h.c λd=>(h.s _ d).2.1 rfl;have s:w'.heap[X.Wg]?=w.heap[X.Wg]?:=l _ h.wg λd=>(h.s _ d).2.2 rfl;refine⟨⟨λb c B _=>l b c B,k,q,λ⟨n,a,b⟩=>⟨n,m.trans a,b⟩,λi _=>tI m i,λb c=>.inl c,λb c=>c,λe F=> ?_⟩, ?_⟩
 .obtain⟨D,o,E⟩:=C e F;refine⟨λx z=>(D x z).elim .inl λy=>.inr (.inr y),λj=> ?_,λj=> ?_,λj=> ?_,E⟩
  .rcases o _ j with⟨f,e⟩|e<;>cases e
  .rcases o _ j with⟨f,e⟩|e<;>cases e
  .rcases o _ j with⟨f,e⟩|e<;>cases e
 .have p:∀b,X.R b->b<w.heap.size:=λb c=>aE (t.rlt b c) h.sz;refine⟨λb c=>(l b (p b c) λd=>(h.s b d).1 c).trans (h.r b c),λb c=> ?_,aE h.c k,aE h.wg k,am h.sz k, ?_, ?_,q.trans h.os⟩
  .rcases c with c|⟨c,_⟩
   .exact h.s b c
   .refine⟨λv=> ?_,λe=> ?_,λe=> ?_⟩
    .have:=p b v;omega
    .have:=h.c;omega
    .have:=h.wg;omega
  .obtain⟨A,r,u⟩:=h.live;exact⟨A,r,s.trans u⟩
  .obtain⟨n,a,b⟩:=h.pay;exact⟨n,m.trans a,b⟩
def Wx.lift(c:X.Ok)(h:bB prog false X.Rl (nC X.R) Stop S g w)(d:X.Inv S w):bB prog false X.Rl X.Gr (λS g w=>Stop S g w/\X.Inv S w) S g w:=
 bB.inv (Rl:=X.Rl) (Gr:=nC X.R) (Gr2:=X.Gr) (Stop:=Stop) (Inv:=X.Inv) (λ_ _ _ a b=>a.rely b) (λ_ _ _ _ _ a b=>Wx.step c a b) (λ_ _ _ a b=>⟨a,b⟩) h d
def Wx.Inv.cell(h:X.Inv S w)(a:X.R b)(c:X.w0.cell? ⟨b,i,none⟩=some v):w.cell? ⟨b,i,none⟩=some v:=(tI (h.r b a) i).trans c
end
abbrev nCl:FuncId:=108
def jO:Code->Code
 |.seq a _=>a
 |c=>c
def tH:Code->Array Oper
 |.region _ o _=>o
 |_=>#[]
noncomputable def amz:Code:=f108.body.getD .skip
noncomputable def mn:Array Oper:=tH (jO amz)
noncomputable def aR:Array Oper:=tH (bR amz)
def aqW:amz=.seq (.region 0 mn false) (.region 1 aR true):=rfl
def amA:aR.size=8:=rfl
def axW:∃p,aR[0]?=some ⟨some 6,.load 160 (.tmp 4),160,p,#[],none⟩:=⟨_,rfl⟩
def axX:∃p,aR[1]?=some ⟨some 7,.load 3 (.tmp 5),3,p,#[],none⟩:=⟨_,rfl⟩
def axY:∃p,aR[2]?=some ⟨some 8,.load 3 (.tmp 1),3,p,#[],none⟩:=⟨_,rfl⟩
def axZ:∃p,aR[3]?=some ⟨some 9,.load 23 (.tmp 2),23,p,#[],none⟩:=⟨_,rfl⟩
def ax0:∃p,aR[4]?=some ⟨some 10,.load 3 (.tmp 3),3,p,#[],none⟩:=⟨_,rfl⟩
def ax1:∃p,aR[5]?=some ⟨some 11,.call ⟨.value (.func 110),#[.tmp 8,.tmp 9,.tmp 10],#[3,23,3]⟩,171,p,#[⟨2,.data⟩,⟨3,.data⟩,⟨4,.data⟩],none⟩:=⟨_,rfl⟩
def ax2:∃p,aR[6]?=some ⟨some 12,.indexAddr 160 (.tmp 6) (.tmp 7),0,p,#[⟨0,.data⟩,⟨1,.data⟩,⟨0,.phase⟩,⟨1,.phase⟩,⟨2,.phase⟩,⟨3,.phase⟩,⟨4,.phase⟩,⟨5,.phase⟩],none⟩:=⟨_,rfl⟩
def ax3:∃p,aR[7]?=some ⟨none,.store 171 (.tmp 12) (.tmp 11),0,p,#[⟨6,.data⟩,⟨5,.data⟩,⟨5,.chain⟩,⟨0,.phase⟩,⟨1,.phase⟩,⟨2,.phase⟩,⟨3,.phase⟩,⟨4,.phase⟩,⟨5,.phase⟩],none⟩:=⟨_,rfl⟩
def iQ(L:Nat->Bool):Nat->Bool
 |5=>L 2&&L 3&&L 4
 |6=>L 0&&L 1&&L 2&&L 3&&L 4&&L 5
 |7=>L 6&&L 5&&L 0&&L 1&&L 2&&L 3&&L 4
 |_=>true
def amB(L:Nat->Bool)(a:i<8):((aR[i]?).map (λo:Oper=>o.after.all λe=>!Region.binds .any e||L e.on)).getD false=iQ L i:=by
 have:i=0\/i=1\/i=2\/i=3\/i=4\/i=5\/i=6\/i=7:=by omega
 rcases this with rfl|rfl|rfl|rfl|rfl|rfl|rfl|rfl
 .obtain⟨p,e⟩:=axW;rw[e];simp[iQ]
 .obtain⟨p,e⟩:=axX;rw[e];simp[iQ]
 .obtain⟨p,e⟩:=axY;rw[e];simp[iQ]
 .obtain⟨p,e⟩:=axZ;rw[e];simp[iQ]
 .obtain⟨p,e⟩:=ax0;rw[e];simp[iQ]
 .obtain⟨p,e⟩:=ax1;rw[e];simp[Region.binds,iQ,uV]
 .obtain⟨p,e⟩:=ax2;rw[e];simp[Region.binds,iQ];cases L 0<;>cases L 1<;>simp[uV]
 .obtain⟨p,e⟩:=ax3;rw[e];simp[Region.binds,iQ];cases L 5<;>cases L 6<;>simp[uV]
def aeC(d:listed.size=8) :i∈Region.ready .any aR listed↔i<8/\listed.getD i false=false/\iQ (λj=>listed.getD j false) i=true:=by
 unfold Region.ready;rw[rO,ph,amA];constructor
 .rintro⟨b,a⟩;rw[amB (λj=>listed.getD j false) b] at a;simp only[eg,tF] at a;refine⟨b, ?_,a.2⟩;have:=a.1;rw[fi,ff (by omega)] at this ⊢;exact this
 .rintro⟨b,a,c⟩;refine⟨b, ?_⟩;rw[amB (λj=>listed.getD j false) b,c];rw[fi,ff (by omega)] at a ⊢;simp only[pP] at a ⊢;rw[a];rfl
def unW(listed:Array Bool):Nat:=(List.range 8).countP λi=>!listed.getD i false
def afR{p q:Nat->Bool}:∀{l:List Nat} {x:Nat},(∀y,q y=true->p y=true)->x∈l->p x=true->q x=false->l.countP q<l.countP p
 |[],x,_,b,_,_=>by cases b
 |a::l,x,h,b,hp,hq=>by
  rw[List.countP_cons,List.countP_cons];have e:l.countP q<=l.countP p:=List.countP_mono_left λy _=>h y;rcases lw.1 b with rfl|b
  .rw[hp,hq];simp;omega
  .have:=afR h b hp hq;have f:=h a;cases d:q a<;>cases c:p a<;>simp_all<;>omega
def gq(a:i<listed.size):(listed.setIfInBounds i true).getD j false=if j=i then true else listed.getD j false:=by
 rw[fi,fi,oR];by_cases e:i=j
 .subst e;simp[a]
 .rw[bd e,bd (λx=>e x.symm)]
def atd(c:listed.size=8)(b:i<8)(h:listed.getD i false=false):unW (listed.setIfInBounds i true)<unW listed:=by
 refine afR (x:=i) (λy a=> ?_) (ph.2 b) (by rw[h];rfl) (by rw[gq (by omega)];simp);rw[gq (by omega)] at a;by_cases e:y=i
 .simp[e] at a
 .simpa[e] using a
def ax4(m:listed.size=8)(h:Region.ready .any aR listed=[]\/unW listed=0):∀i,i<8->listed.getD i false=true:=by
 rcases h with h|h
 .have a:∀i,i<8->iQ (λj=>listed.getD j false) i=true->listed.getD i false=true:=λi b hd=>by
   cases e:listed.getD i false with
   |true=>rfl
   |false=>
    have:i∈Region.ready .any aR listed:=(aeC m).2 ⟨b,e,hd⟩;rw[h] at this;cases this
  have g:=a 0 (by omega) rfl;have k:=a 1 (by omega) rfl;have c:=a 2 (by omega) rfl;have d:=a 3 (by omega) rfl;have f:=a 4 (by omega) rfl;have l:=a 5 (by omega) (by simp only[iQ,c,d,f];rfl);have n:=a 6 (by omega) (by simp only[iQ,g,k,c,d,f,l];rfl);have o:=a 7 (by omega) (by simp only[iQ,g,k,c,d,f,l,n];rfl);intro i b;have:i=0\/i=1\/i=2\/i=3\/i=4\/i=5\/i=6\/i=7:=by omega
  rcases this with rfl|rfl|rfl|rfl|rfl|rfl|rfl|rfl<;>assumption
 .intro i b;have:=List.countP_eq_zero.1 h i (ph.2 b);simpa using this
def Wx.cap(X:Wx):Nat->Value
 |1=>.pointer (some ⟨X.bk,0,none⟩)
 |2=>.pointer (some ⟨X.bp,0,none⟩)
 |3=>.pointer (some ⟨X.bn,0,none⟩)
 |4=>.pointer (some ⟨X.ba,0,none⟩)
 |_=>.pointer (some ⟨X.bi,0,none⟩)
def Wx.val(X:Wx)(v:ByteArray×Bool):Nat->Value
 |0=>.slice (some ⟨X.C,0,none⟩) X.n2 X.n2
 |1=>.int .i64 X.κ
 |2=>.int .i64 X.key
 |3=>.slice X.A X.n X.c
 |4=>.int .i64 X.nm
 |5=>.agg #[.string v.1,.bool v.2]
 |_=>.pointer (some ⟨X.C,2*X.κ,none⟩)
abbrev FW(dd:Deferred)(T:Array Value)(k:List Item):Frame:=⟨nCl,T,k,[dd],.run,.deferred,none⟩
structure RI (X:Wx) (v:ByteArray×Bool) (listed:Array Bool) (T:Array Value) (S:aq) (w:World):Prop where
 sz:T.size=13
 cap:∀t,1<=t->t<=5->T.getD t undef=X.cap t
 done:∀j,j<7->listed.getD j false=true->T.getD (6+j) undef=X.val v j
 st:listed.getD 7 false=true->Has X.C (2*X.κ) (.string v.1) w/\Has X.C (2*X.κ+1) (.bool v.2) w
 ord:listed.getD 7 false=true->∀j,j<7->listed.getD j false=true
 inv:X.Inv S w
section
variable {P:Program} {m:Bool} {fr:Frame} {xs base:List Frame} {ops:Array Oper} {i:Nat} {rest:List Nat} {k:List Item} {o:Oper} {w w2:World} {es:Array Event} {v:Value}
def aqX (g:fr.mode=.run) (j:(fr.kind ==.early)=false) (b:fr.roundOf=none) (f:fr.todo=.inRegion ops (i::rest)::k) (p:ops[i]?=some o) (r:o.guard=none)
  (q:(execOp fr.eval o).runT P w #[]=(.ok (.value v) w2,es)):stepG P m (Gl (fr::xs) base) w=.go (Gl (fr.finish v::xs) base) w2 (seen P fr.fn es):=by
 obtain⟨c,a,l,e,u,d,t⟩:=fr;dsimp only at g j b f;subst g b f;have n:∀y,Region.wanted o y=true:=λy=>by unfold Region.wanted;rw[r]
 have s:stepG P m (Gl (⟨c,a,.inRegion ops (i::rest)::k,e,.run,d,none⟩::xs) base) w =
   stepG.apply P true ⟨c,a,.inRegion ops (i::rest)::k,e,.run,d,none⟩ (xs++base) none (execOp (Frame.eval ⟨c,a,.inRegion ops (i::rest)::k,e,.run,d,none⟩) o) w:=by
  simp[Gl,stepG,stepG.exec,stepG.oper,Frame.oper?,p,n]
 rw[s];unfold stepG.apply;simp only[q,mw];simp[GStep.after,j,Gl]
def aiS (g:fr.mode=.run) (j:(fr.kind ==.early)=false) (b:fr.roundOf=none) (f:fr.todo=.inRegion ops (i::rest)::k) (p:ops[i]?=some o) (r:o.guard=none)
  (q:(execOp fr.eval o).runT P w #[]=(.ok .skip w2,es)):stepG P m (Gl (fr::xs) base) w=.go (Gl (fr.finish undef::xs) base) w2 (seen P fr.fn es):=by
 obtain⟨c,a,l,e,u,d,t⟩:=fr;dsimp only at g j b f;subst g b f;have n:∀y,Region.wanted o y=true:=λy=>by unfold Region.wanted;rw[r]
 have s:stepG P m (Gl (⟨c,a,.inRegion ops (i::rest)::k,e,.run,d,none⟩::xs) base) w =
   stepG.apply P true ⟨c,a,.inRegion ops (i::rest)::k,e,.run,d,none⟩ (xs++base) none (execOp (Frame.eval ⟨c,a,.inRegion ops (i::rest)::k,e,.run,d,none⟩) o) w:=by
  simp[Gl,stepG,stepG.exec,stepG.oper,Frame.oper?,p,n]
 rw[s];unfold stepG.apply;simp only[q,mw];simp[GStep.after,j,Gl]
end
noncomputable def eu:Frame:={(default:Frame) with fn:=prog.funcs.size,defers:=[],mode:=.panicking [goexitEntry]}
section
variable {X:Wx} {v:ByteArray×Bool} {listed:Array Bool} {T T':Array Value} {S:aq} {w w1:World} {dd:Deferred} {k:List Item} {rest:List Nat}
def abh(h:Has X.C (2*X.κ) (.string v.1) w/\Has X.C (2*X.κ+1) (.bool v.2) w)(a:X.Rl S w w1):Has X.C (2*X.κ) (.string v.1) w1/\Has X.C (2*X.κ+1) (.bool v.2) w1:=
 ⟨(a.cell (2*X.κ) (by show 2*X.κ / 2=X.κ;omega)).trans h.1,(a.cell (2*X.κ+1) (by show(2*X.κ+1) / 2=X.κ;omega)).trans h.2⟩
def RI.rely(h:RI X v listed T S w)(a:X.Rl S w w1):RI X v listed T S w1:=⟨h.sz,h.cap,h.done,λe=>abh (h.st e) a,h.ord,h.inv.rely a⟩
def RI.put(h:RI X v listed T S w)(k:listed.size=8)(l:i<7)(b:Tm [6+i] T T')(d:T'.getD (6+i) undef=X.val v i):RI X v (listed.setIfInBounds i true) T' S w:=by
 refine⟨b.size.trans h.sz,λt f g=>(b.same t (by simp;omega)).trans (h.cap t f g),λj c e=> ?_,λe=> ?_,λe j c=> ?_,h.inv⟩
 .by_cases a:j=i
  .subst a;exact d
  .rw[gq (by omega),bd a] at e;exact(b.same (6+j) (by simp;omega)).trans (h.done j c e)
 .rw[gq (by omega),bd (by omega)] at e;exact h.st e
 .rw[gq (by omega),bd (by omega)] at e;rw[gq (by omega)];by_cases a:j=i
  .rw[dj a]
  .rw[bd a];exact h.ord e j c
def aqY(j:X.Inv S w)(g:X.Ok)(c:X.R b):X.Gr S S w w (seen prog f #[⟨.cell ⟨b,0,none⟩,false,false⟩]):=by
 refine⟨λ_ _ _ _=>rfl,ap _,rfl,id,λ_ _=>rfl,λ_ h=>h,λ_ h=>.inl h,λe i=> ?_⟩;have a:=sd i;simp only[rD,lw,rc,tO] at a;subst a;refine⟨λx d=>.inr (.inr ?_),(λe=>by cases e),(λe=>by cases e),(λe=>by cases e), ?_⟩
 .simp[MemAct.ofEvent,MemAct.touch?] at d;rw[<-d];exact⟨c,rfl⟩
 .exact aE (g.rlt b c) j.sz
def aiT :X.Gr S S w w (seen prog f #[]):=
 ⟨λ_ _ _ _=>rfl,ap _,rfl,id,λ_ _=>rfl,λ_ h=>h,λ_ h=>.inl h,λe a=>by cases(by simpa using sd a:False)⟩
def aiU{x:Operand}{A:Addr}{u:Value}{dst:Option Tmp}{pos:String}(b:P.underlying t=some d)(a:aid d=true)(c:e x=.pointer (some A))(f:w.cell? A=some u) :
  (execOp e ⟨dst,.load t x,ty,pos,af,gd⟩).runT P w #[]=(.ok (.value u) w,#[⟨.cell A,false,false⟩]):=by
 cases d<;>first|(cases a;done)|simp[execOp,c,Instr.loadAt,Instr.sureAddr,loadVar,isAgg,li b,f]
def abi (n:X.Ok) (h:RI X v listed T S w) {t ty : Nat}  (r:i<5) (a:∃p,aR[i]?=some ⟨some (6+i),.load ty (.tmp t),ty,p,#[],none⟩) (q:prog.underlying ty=some d) (l:aid d=true)
  (c:T.getD t undef=.pointer (some ⟨b,0,none⟩)) (e:X.R b/\X.w0.cell? ⟨b,0,none⟩=some (X.val v i))
  (K:∀T' g,RI X v listed T S g->Tm [6+i] T T'->T'.getD (6+i) undef=X.val v i->bB prog false X.Rl X.Gr Stop S (Gl [FW dd T' (.inRegion aR rest::k)] [eu]) g) :
  bB prog false X.Rl X.Gr Stop S (Gl [FW dd T (.inRegion aR (i::rest)::k)] [eu]) w:=by
 obtain⟨p,a⟩:=a;refine .step rfl λw1 o=> ?_;have f:=h.rely o;refine⟨_,w1,_,S,aqX (xs:=[]) (base:=[eu]) rfl rfl rfl rfl a rfl (aiU q l (x:=.tmp t) (A:=⟨b,0,none⟩) c (f.inv.cell e.1 e.2)),aqY f.inv n e.1, ?_⟩;have m:Frame.finish (FW dd T (.inRegion aR (i::rest)::k)) (X.val v i)=FW dd (T.setIfInBounds (6+i) (X.val v i)) (.inRegion aR rest::k):=by
  simp only[Frame.finish,a,pY]
 rw[m];have j:6+i<T.size:=by rw[h.sz];omega
 exact K _ w1 f (.one (by simp) λt c=>by rw[aD j,bd c]) (by rw[aD j,dj rfl])
def aqZ(F:FaT P){x y:Operand}{dst:Option Tmp}{pos:String}(f:e x=.slice (some a) n c)(b:e y=.int .i64 j)(g:j<n) :
  (execOp e ⟨dst,.indexAddr 160 x y,ty,pos,af,gd⟩).runT P w #[]=(.ok (.value (.pointer (some (a.add (j*2))))) w,#[]):=by
 obtain⟨i,d,k, -⟩:=F.i258;simp[execOp,f,b,Instr.indexAt,asIntOf,li F.agJ,g,sizeOf,typeInfo,d,k]
def aq0 (e:X.Ok) (h:RI X v listed T S w) (g:listed.getD 0 false=true) (l:listed.getD 1 false=true)
  (K:∀T' b,RI X v listed T S b->Tm [6+6] T T'->T'.getD (6+6) undef=X.val v 6->bB prog false X.Rl X.Gr Stop S (Gl [FW dd T' (.inRegion aR rest::k)] [eu]) b) :
  bB prog false X.Rl X.Gr Stop S (Gl [FW dd T (.inRegion aR (6::rest)::k)] [eu]) w:=by
 obtain⟨p,a⟩:=ax2;refine .step rfl λw1 f=> ?_;refine⟨_,w1,_,S,aqX (xs:=[]) (base:=[eu]) rfl rfl rfl rfl a rfl (aqZ oM (x:=.tmp 6) (y:=.tmp 7) (h.done 0 (by omega) g) (h.done 1 (by omega) l) e.kn),aiT, ?_⟩;have j:(⟨X.C,0,none⟩:Addr).add (X.κ*2)=⟨X.C,2*X.κ,none⟩:=by rw[gR,pb,uB]
 rw[j];have d:Frame.finish (FW dd T (.inRegion aR (6::rest)::k)) (X.val v 6)=FW dd (T.setIfInBounds 12 (X.val v 6)) (.inRegion aR rest::k):=by
  simp only[Frame.finish,a,pY]
 have c:12<T.size:=by rw[h.sz];omega
 have:=K (T.setIfInBounds 12 (X.val v 6)) w1 (h.rely f) (.one (by simp) λt i=>by rw[aD c,bd i]) (by rw[aD c,dj rfl]);rw[<-d] at this;exact this
end
def aha{args:Array Value} :(callFunc 110 args).runT prog w #[]=(.ok (.enter 110 args) w,#[]):=by
 have a:=cu func110;have c:¬f110.name= "runtime.NumGoroutine" :=by simpa using a
 have b:¬f110.body=none:=λe=>by have:=aeA;rw[e] at this;cases this
 unfold callFunc;simp[func110,c,b]
def aiV {m:Bool} {base : List Frame}     {w2 : World}  {args:Array Value} (l:fr.mode=.run) (n:(fr.kind ==.early)=false) (b:fr.roundOf=none) (j:fr.todo=.inRegion V (i::rest)::k) (q:V[i]?=some o) (s:o.guard=none)
  (r:(execOp fr.eval o).runT P w #[]=(.ok (.enter f args) w2,es)):stepG P m (Gl (fr::xs) base) w=.go (Gl (Frame.enter P f args .normal::fr::xs) base) w2 (seen P fr.fn es):=by
 obtain⟨c,a,g,e,v,d,u⟩:=fr;dsimp only at l n b j;subst l b j;have p:∀y,Region.wanted o y=true:=λy=>by unfold Region.wanted;rw[s]
 have t:stepG P m (Gl (⟨c,a,.inRegion V (i::rest)::k,e,.run,d,none⟩::xs) base) w =
   stepG.apply P true ⟨c,a,.inRegion V (i::rest)::k,e,.run,d,none⟩ (xs++base) none (execOp (Frame.eval ⟨c,a,.inRegion V (i::rest)::k,e,.run,d,none⟩) o) w:=by
  simp[Gl,stepG,stepG.exec,stepG.oper,Frame.oper?,q,p]
 rw[t];unfold stepG.apply;simp only[r,mw];simp[GStep.after,n,Gl]
section
variable {X:Wx} {v:ByteArray×Bool} {listed:Array Bool} {T T':Array Value} {S:aq} {w w1:World} {dd:Deferred} {k:List Item} {rest:List Nat}
def ate(a:X.Ok)(r:dN Z)(k:∀f nm,Z f [] nm=(⟨#[]⟩,false))(d:X.Inv S w){cfr:Frame} :
  bB prog false X.Rl X.Gr (λo g w1=>g=⟨cfr.finish (.agg #[.string (Z X.key X.l X.nm).1,.bool (Z X.key X.l X.nm).2]),[eu],.running,none,none⟩/\X.Inv o w1) S
   (Gl (Frame.enter prog 110 #[.int .i64 X.key,.slice X.A X.n X.c,.int .i64 X.nm] .normal::[]) [cfr,eu]) w:=by
 by_cases l:X.n=0
 .have m:X.l=[]:=by have:=a.hl;rw[l] at this;exact pG.1 this
  rw[m,k,l];exact Wx.lift a (atb X.lj) d
 .have n:∀(A:Addr) (u:Value),X.w0.cell? A=some u->X.Rg A.block->plV (λb=>X.Rg b/\dn X.w0 b) u->w.cell? A=some u:=λA u p q _=>(fq (d.r _ (a.rows _ q))).trans p;exact Wx.lift a (aqM (Rg:=X.Rg) r (am a.hN d.sz) (λg j=>by
   obtain⟨c,t,z,e⟩:=a.gr g j;exact⟨a.gl g j,c,t,z,(d.r g (a.rows g (a.gl g j))).trans e⟩) a.k1 a.k2 a.hl a.hc a.hcm (a.rd.mask a.rgp a.al n) (a.rgp.move a.al λb i=>d.r b (a.rows b i)) a.al (by omega) a.nm X.lj (λb i=>a.rows b i.1)) d
def aq1 (B:X.Ok) (x:dN Z) (a:∀b nm,Z b [] nm=(⟨#[]⟩,false)) (h:RI X (Z X.key X.l X.nm) listed T S w) (f:listed.getD 5 false=false) (n:listed.getD 2 false=true) (D:listed.getD 3 false=true) (q:listed.getD 4 false=true)
  (K:∀T' l d,RI X (Z X.key X.l X.nm) listed T l d->Tm [6+5] T T'->T'.getD (6+5) undef=X.val (Z X.key X.l X.nm) 5->bB prog false X.Rl X.Gr Stop l (Gl [FW dd T' (.inRegion aR rest::k)] [eu]) d) :
  bB prog false X.Rl X.Gr Stop S (Gl [FW dd T (.inRegion aR (5::rest)::k)] [eu]) w:=by
 obtain⟨p,j⟩:=ax1;refine .step rfl λw1 C=> ?_;have r:=h.rely C;have m:∀w,(execOp (Frame.eval (FW dd T (.inRegion aR (5::rest)::k))) ⟨some 11,.call ⟨.value (.func 110),#[.tmp 8,.tmp 9,.tmp 10],#[3,23,3]⟩,171,p,#[⟨2,.data⟩,⟨3,.data⟩,⟨4,.data⟩],none⟩).runT prog w #[]=(.ok (.enter 110 #[.int .i64 X.key,.slice X.A X.n X.c,.int .i64 X.nm]) w,#[]):=λw=>by
  have E:Array.map (Frame.eval (FW dd T (.inRegion aR (5::rest)::k))) #[.tmp 8,.tmp 9,.tmp 10]=#[.int .i64 X.key,.slice X.A X.n X.c,.int .i64 X.nm]:=by
   have G:T.getD 8 undef=.int .i64 X.key:=h.done 2 (by omega) n;have v:T.getD 9 undef=.slice X.A X.n X.c:=h.done 3 (by omega) D;have y:T.getD 10 undef=.int .i64 X.nm:=h.done 4 (by omega) q;rw[<-G,<-v,<-y];simp[Frame.eval]
  have F:execOp (Frame.eval (FW dd T (.inRegion aR (5::rest)::k))) ⟨some 11,.call ⟨.value (.func 110),#[.tmp 8,.tmp 9,.tmp 10],#[3,23,3]⟩,171,p,#[⟨2,.data⟩,⟨3,.data⟩,⟨4,.data⟩],none⟩=callFunc 110 #[.int .i64 X.key,.slice X.A X.n X.c,.int .i64 X.nm]:=by
   simp only[execOp,resolve];rw[E];simp[Deferred.ofValue,invoke,Frame.eval];try rfl
  exact(ef (λs=>Sem.runT prog s w #[]) F).trans aha
 refine⟨_,w1,_,S,aiV (xs:=[]) (base:=[eu]) rfl rfl rfl rfl j rfl (m w1),aiT, ?_⟩;refine bB.bind X.lj.eN X.lj.tr (ate B x a r.inv (cfr:=FW dd T (.inRegion aR (5::rest)::k))) λz g H ⟨hg,gM⟩=> ?_;subst hg;have i:11<T.size:=by rw[h.sz];omega
 have A:Frame.finish (FW dd T (.inRegion aR (5::rest)::k)) (X.val (Z X.key X.l X.nm) 5)=FW dd (T.setIfInBounds 11 (X.val (Z X.key X.l X.nm) 5)) (.inRegion aR rest::k):=by
  simp only[Frame.finish,j,pY]
 have u:listed.getD 7 false=false:=by
  cases e:listed.getD 7 false with
  |false=>rfl
  |true=>rw[h.ord e 5 (by omega)] at f;cases f
 have:=K (T.setIfInBounds 11 (X.val (Z X.key X.l X.nm) 5)) z H ⟨h.sz,h.cap,h.done,λe=>(by rw[u] at e;cases e),h.ord,gM⟩ (.one (by simp) λt o=>by rw[aD i,bd o]) (by rw[aD i,dj rfl]);rw[<-A] at this;exact this
end
section
variable {X:Wx} {v:ByteArray×Bool} {listed:Array Bool} {T T':Array Value} {S:aq} {w w1:World} {dd:Deferred} {k:List Item} {rest:List Nat}
def aoa (B:X.Ok) (h:RI X v listed T S w) (N:listed.getD 5 false=true) (V:listed.getD 6 false=true)
  (K:∀s,X.Inv S s->(Has X.C (2*X.κ) (.string v.1) s/\Has X.C (2*X.κ+1) (.bool v.2) s)->bB prog false X.Rl X.Gr Stop S (Gl [FW dd T (.inRegion aR rest::k)] [eu]) s) :
  bB prog false X.Rl X.Gr Stop S (Gl [FW dd T (.inRegion aR (7::rest)::k)] [eu]) w:=by
 obtain⟨p,F⟩:=ax3;refine .step rfl λw1 R=> ?_;have E:=h.rely R;obtain⟨t,g,H⟩:=E.inv.pay;have g:w1.heap[X.C]?=some (.cells t 171 (0,0)):=g;have L:=B.kn;obtain⟨u0,C⟩:∃u,t[2*X.κ]?=some u:=⟨_,ff (by omega)⟩;obtain⟨u1,z⟩:∃u,t[2*X.κ+1]?=some u:=⟨_,ff (by omega)⟩;have D:(⟨X.C,2*X.κ,none⟩:Addr).add 1=⟨X.C,2*X.κ+1,none⟩:=gR _ _ _;have q:=afP oM (w:=w1) (e:=Frame.eval (FW dd T (.inRegion aR (7::rest)::k))) (x:=.tmp 12) (y:=.tmp 11) (dst:=none) (ty:=0) (pos:=p) (af:=#[⟨6,.data⟩,⟨5,.data⟩,⟨5,.chain⟩,⟨0,.phase⟩,⟨1,.phase⟩,⟨2,.phase⟩,⟨3,.phase⟩,⟨4,.phase⟩,⟨5,.phase⟩]) (gd:=none) (A:=⟨X.C,2*X.κ,none⟩) (u0:=.string v.1) (u1:=.bool v.2) rfl rfl
  (h.done 6 (by omega) V) (h.done 5 (by omega) N) ((dZ g).trans C) (fU g) (by rw[D];exact(dZ g).trans z) (by rw[D];exact fU g)
 rw[D] at q;have a:((w1.setCell ⟨X.C,2*X.κ,none⟩ (.string v.1)).setCell ⟨X.C,2*X.κ+1,none⟩ (.bool v.2)).heap[X.C]?=some (.cells ((t.setIfInBounds (2*X.κ) (.string v.1)).setIfInBounds (2*X.κ+1) (.bool v.2)) 171 (0,0)):=uz (uz g);have c:((w1.setCell ⟨X.C,2*X.κ,none⟩ (.string v.1)).setCell ⟨X.C,2*X.κ+1,none⟩ (.bool v.2)).heap.size=w1.heap.size:=by rw[iS,iS]
 have d:∀b,b≠X.C->((w1.setCell ⟨X.C,2*X.κ,none⟩ (.string v.1)).setCell ⟨X.C,2*X.κ+1,none⟩ (.bool v.2)).heap[b]?=w1.heap[b]?:=λb j=>by
  rw[bc _ _ _ (λe=>j e.symm),bc _ _ _ (λe=>j e.symm)]
 have n:((w1.setCell ⟨X.C,2*X.κ,none⟩ (.string v.1)).setCell ⟨X.C,2*X.κ+1,none⟩ (.bool v.2)).ou=w1.ou:=rfl;have l:=aiS (m:=false) (xs:=[]) (base:=[eu]) (k:=k) (fr:=FW dd T (.inRegion aR (7::rest)::k)) rfl rfl rfl rfl F rfl q;generalize ((w1.setCell ⟨X.C,2*X.κ,none⟩ (.string v.1)).setCell ⟨X.C,2*X.κ+1,none⟩ (.bool v.2))=w2 at a c d n l;have P:Frame.finish (FW dd T (.inRegion aR (7::rest)::k)) undef=FW dd T (.inRegion aR rest::k):=by
  simp only[Frame.finish,F,pY]
 rw[P] at l;have f:=E.inv;have o:X.Inv S w2:=by
  refine⟨λb j=>(d b (λe=>B.rC (e▸j))).trans (f.r b j),f.s,by rw[c];exact f.c,by rw[c];exact f.wg,by rw[c];exact f.sz, ?_,⟨_,a,by simpa using H⟩,n.trans f.os⟩;obtain⟨U,M,Q⟩:=f.live;exact⟨U,M,(d X.Wg (λe=>B.cW e.symm)).trans Q⟩
 refine⟨_,w2,_,S,l,⟨λb _ _ j=>d b j,mc c.symm,n,λ_=>⟨_,a,by simpa using H⟩,λi I=> ?_,λ_ h=>h,λ_ h=>.inl h,λe W=> ?_⟩,K w2 o ⟨?_, ?_⟩⟩
 .have O:i≠2*X.κ:=λe=>I (by show i / 2=X.κ;omega);have Y:i≠2*X.κ+1:=λe=>I (by show i / 2=X.κ;omega);rw[dZ a,dZ g,gc (λe=>Y e.symm),gc (λe=>O e.symm)]
 .have G:=sd W;simp only[rD,lw,rc,tO] at G;have J:X.C<w2.heap.size:=by rw[c];exact f.c
  rcases G with rfl|rfl
  .refine⟨λx r=>.inr (.inl ⟨⟨X.C,2*X.κ,none⟩, ?_,rfl, ?_⟩),(λe=>by cases e),(λe=>by cases e),(λe=>by cases e),J⟩
   .simp[MemAct.ofEvent,MemAct.touch?] at r;rw[<-r]
   .show 2*X.κ / 2=X.κ;omega
  .refine⟨λx r=>.inr (.inl ⟨⟨X.C,2*X.κ+1,none⟩, ?_,rfl, ?_⟩),(λe=>by cases e),(λe=>by cases e),(λe=>by cases e),J⟩
   .simp[MemAct.ofEvent,MemAct.touch?] at r;rw[<-r]
   .show(2*X.κ+1) / 2=X.κ;omega
 .show w2.cell? ⟨X.C,2*X.κ,none⟩=_;rw[dZ a,gc (by omega),oi (by omega)]
 .show w2.cell? ⟨X.C,2*X.κ+1,none⟩=_;rw[dZ a,oi (by simp;omega)]
def auE(X:Wx)(v:ByteArray×Bool)(dd:Deferred)(k:List Item):aq->Goroutine->World->Prop:=λS g w=>∃T,g=Gl [FW dd T (.inRegion aR []::k)] [eu]/\T.size=13/\X.Inv S w/\Has X.C (2*X.κ) (.string v.1) w/\Has X.C (2*X.κ+1) (.bool v.2) w
def afS(c:X.Ok){o:Int->List fS->Int->ByteArray×Bool}(B:dN o)(p:∀v nm,o v [] nm=(⟨#[]⟩,false)):∀(fuel t:Nat) (listed:Array Bool) (T:Array Value) (S:aq) (w:World),listed.size=8->unW listed<=fuel->RI X (o X.key X.l X.nm) listed T S w->
  bB prog false X.Rl X.Gr (auE X (o X.key X.l X.nm) dd k) S (Gl [FW dd T (.inRegion aR (Region.linearise.go .any aR fuel t listed [])::k)] [eu]) w
 |0,t,listed,T,S,w,d,hf,h=>by
  have l:=ax4 d (.inr (by omega));exact .stop λw1 m=>⟨T,rfl,h.sz,h.inv.rely m,abh (h.st (l 7 (by omega))) m⟩
 |fuel+1,t,listed,T,S,w,d,hf,h=>by
  simp only[Region.linearise.go];change bB _ _ _ _ _ S (Gl [FW dd T (.inRegion aR (match(Region.ready .any aR listed)[t % (Region.ready .any aR listed).length]? with
   |some i=>Region.linearise.go .any aR fuel (t / (Region.ready .any aR listed).length) (listed.setIfInBounds i true) [i]
   |none=>[].reverse)::k)] [eu]) w
  cases z:(Region.ready .any aR listed)[t % (Region.ready .any aR listed).length]? with
  |none=>
   have q:Region.ready .any aR listed=[]:=by
    cases m:Region.ready .any aR listed with
    |nil=>rfl
    |cons x D=>
     rw[m] at z;have r:t % (x::D).length<(x::D).length:=Nat.mod_lt _ (by simp);simp at z;simp at r;omega
   have l:=ax4 d (.inl q);exact .stop λw1 m=>⟨T,rfl,h.sz,h.inv.rely m,abh (h.st (l 7 (by omega))) m⟩
  |some i=>
   simp only[];rw[linearise_go_acc,List.reverse_singleton,List.singleton_append];obtain⟨y,C,hd⟩:=(aeC d).1 (da z);have F:=atd d y C;have s:(listed.setIfInBounds i true).size=8:=by simpa using d
   have next:∀T' n a,RI X (o X.key X.l X.nm) (listed.setIfInBounds i true) T' n a->bB prog false X.Rl X.Gr (auE X (o X.key X.l X.nm) dd k) n (Gl [FW dd T' (.inRegion aR (Region.linearise.go .any aR fuel (t / (Region.ready .any aR listed).length) (listed.setIfInBounds i true) [])::k)] [eu]) a:=
    λT' n a b=>afS c B p fuel _ _ T' n a s (by omega) b
   generalize Region.linearise.go .any aR fuel (t / (Region.ready .any aR listed).length) (listed.setIfInBounds i true) []=rest at next ⊢
   have:i=0\/i=1\/i=2\/i=3\/i=4\/i=5\/i=6\/i=7:=by omega
   rcases this with rfl|rfl|rfl|rfl|rfl|rfl|rfl|rfl
   .exact abi c h (by omega) axW oM.agJ rfl (h.cap 4 (by omega) (by omega)) c.ra λT' a b f g=>next T' S a (b.put d (by omega) f g)
   .exact abi c h (by omega) axX oM.u3 rfl (h.cap 5 (by omega) (by omega)) c.ri λT' a b f g=>next T' S a (b.put d (by omega) f g)
   .exact abi c h (by omega) axY oM.u3 rfl (h.cap 1 (by omega) (by omega)) c.rk λT' a b f g=>next T' S a (b.put d (by omega) f g)
   .exact abi c h (by omega) axZ oM.u23 rfl (h.cap 2 (by omega) (by omega)) c.rp λT' a b f g=>next T' S a (b.put d (by omega) f g)
   .exact abi c h (by omega) ax0 oM.u3 rfl (h.cap 3 (by omega) (by omega)) c.rn λT' a b f g=>next T' S a (b.put d (by omega) f g)
   .simp only[iQ,eg] at hd;exact aq1 c B p h C hd.1.1 hd.1.2 hd.2 λT' n a b f g=>next T' n a (b.put d (by omega) f g)
   .simp only[iQ,eg] at hd;exact aq0 c h hd.1.1.1.1.1 hd.1.1.1.1.2 λT' a b f g=>next T' S a (b.put d (by omega) f g)
   .simp only[iQ,eg] at hd;refine aoa c h hd.1.1.1.1.1.2 hd.1.1.1.1.1.1 λa u A=>next T S a ⟨h.sz,h.cap,λj E e=> ?_,λ_=>A,λ_ j E=> ?_,u⟩
    .rw[gq (by omega),bd (by omega)] at e;exact h.done j E e
    .rw[gq (by omega),bd (by omega)];have:j=0\/j=1\/j=2\/j=3\/j=4\/j=5\/j=6:=by omega
     rcases this with rfl|rfl|rfl|rfl|rfl|rfl|rfl
     .exact hd.1.1.1.1.2
     .exact hd.1.1.1.2
     .exact hd.1.1.2
     .exact hd.1.2
     .exact hd.2
     .exact hd.1.1.1.1.1.2
     .exact hd.1.1.1.1.1.1
end
end
section
open Go.Conc Go.ConcN Go.RowKit Go.Conc.Lib Go.ConcR.Gen Go.ConcN.Gen
open Go.ConcR (KK wgBlock WgAt stA smA rd wr mk Payload DC0)
section
variable {X:Wx} {v:ByteArray×Bool} {T:Array Value} {S:aq} {w w1:World} {dd:Deferred} {k:List Item} {Stop:aq->Goroutine->World->Prop}
def abj {fr2 : Frame} {es:World->Array Event} {g:World->World} (s:X.Inv S w) (p:∀w,X.Inv S w->stepG prog false (Gl [fr] [eu]) w=.go (Gl [fr2] [eu]) (g w) (es w)) (q:∀w,(g w).heap=w.heap/\(g w).ou=w.ou) (u:∀w,X.Inv S w->∀e∈es w,False)
  (K:∀k,X.Inv S k->bB prog false X.Rl X.Gr Stop S (Gl [fr2] [eu]) k):bB prog false X.Rl X.Gr Stop S (Gl [fr] [eu]) w:=by
 refine .step rfl λw1 n=> ?_;have d:=s.rely n;obtain⟨c,l⟩:=q w1;have f:∀a,(g w1).cell? a=w1.cell? a:=λa=>by unfold World.cell?;rw[c]
 refine⟨_,g w1,_,S,p w1 d,⟨λb _ _ _=>by rw[c],mc (by rw[c]),l,λ⟨j,a,b⟩=>⟨j,by rw[c];exact a,b⟩,λi _=>f _,λ_ h=>h,λ_ h=>.inl h,λe h=>(u w1 d e h).elim⟩,K _ ⟨λb o=>by rw[c];exact d.r b o,d.s,by rw[c];exact d.c,by rw[c];exact d.wg,by rw[c];exact d.sz, ?_, ?_,l.trans d.os⟩⟩
 .obtain⟨t,r,m⟩:=d.live;exact⟨t,r,by unfold WgAt;rw[c];exact m⟩
 .obtain⟨j,a,b⟩:=d.pay;exact⟨j,by rw[c];exact a,b⟩
abbrev ddW(Wg:Nat):Deferred:=⟨.fn (.func dP.done) #[],#[.pointer (some ⟨Wg,0,none⟩)]⟩
def azt:∃p,mn[0]?=some ⟨none,.defer ⟨.value (.func dP.done),#[.tmp 0],#[168]⟩,0,p,#[],none⟩:=⟨_,rfl⟩
def atf(T:Array Value):QuitsD prog 2 0 (G ⟨nCl,T,[],[],.returning,.deferred,none⟩ [eu]):=by
 refine QuitsD.ctl (g':=G eu []) rfl (λw=> ?_) ?_
 .have a:(results f108 T).runT prog w #[]=(.ok (.tuple #[]) w,#[]):=by
   have:f108.results=#[]:=rfl;simp[results,this]
  simp only[G,stepG,unwind,func108,a];simp[doReturn,GStep.after,seen,eu,goexitEntry]
 refine QuitsD.ctl (g':={G eu [] with status:=.finished}) rfl (λw=> ?_) ⟨rfl,rfl⟩;simp[G,stepG,unwind,eu,goexitEntry,Frame.catches];rfl
def abZ {fr2 : Frame} {cs cs2:List Frame} (g:X.Inv S w) (c:Has X.C (2*X.κ) (.string v.1) w/\Has X.C (2*X.κ+1) (.bool v.2) w) {es:World->Array Event} (f:∀w,stepG prog false (G fr cs) w=.go (G fr2 cs2) w (es w)) (d:∀w,∀e∈es w,False)
  (K:∀a,X.Inv S a->Has X.C (2*X.κ) (.string v.1) a/\Has X.C (2*X.κ+1) (.bool v.2) a->bB prog false X.Rl X.Gr Stop S (G fr2 cs2) a):bB prog false X.Rl X.Gr Stop S (G fr cs) w:=by
 refine .step rfl λw1 b=> ?_;exact⟨_,w1,_,S,f w1,⟨λ_ _ _ _=>rfl,ap _,rfl,id,λ_ _=>rfl,λ_ h=>h,λ_ h=>.inl h,λe h=>(d w1 e h).elim⟩,K w1 (g.rely b) (abh c b)⟩
def abk  :∀e∈seen P f #[],False:=λe h=>by simpa using sd h
def aiW{args:Array Value} :(callFunc dP.done args).runT prog w #[]=(.ok (.enter dP.done args) w,#[]):=by
 have h:=oU.f_done;have b:¬(doneFn dP).name= "runtime.NumGoroutine" :=by decide
 have a:¬(doneFn dP).body=none:=λe=>by cases e
 unfold callFunc;simp[h,b,a]
def av7(s:X.Ok)(k:X.tWg=dP.tWg){val:Nat->Value}(q:val (2*X.κ)=.string v.1)(p:val (2*X.κ+1)=.bool v.2)(m:X.Inv S w)(o:Has X.C (2*X.κ) (.string v.1) w/\Has X.C (2*X.κ+1) (.bool v.2) w) :
  bB prog false X.Rl X.Gr (afq prog X.tWg X.Wg X.C X.n2 val X.κ) S (G (FW (ddW X.Wg) T [.inRegion aR []]) [eu]) w:=by
 refine abZ (fr2:=FW (ddW X.Wg) T []) (cs2:=[eu]) m o (es:=λ_=>#[]) (λw=>by simp[G,stepG,stepG.exec]) (λ_ e h=>by simpa using h) λu r f=> ?_;refine abZ (fr2:=⟨nCl,T,[],[ddW X.Wg],.returning,.deferred,none⟩) (cs2:=[eu]) r f (es:=λ_=>#[]) (λw=>by simp[G,stepG,stepG.exec]) (λ_ e h=>by simpa using h) λt g d=> ?_;have j:Frame.enter prog dP.done #[.pointer (some ⟨X.Wg,0,none⟩)] .deferred=(baseD dP.done).at ⟨#[.pointer (some ⟨X.Wg,0,none⟩),undef,undef,undef],[]⟩ [.code (body_done dP)]:=by
  unfold Frame.enter;rw[oU.f_done];rfl
 refine abZ (fr2:=(baseD dP.done).at ⟨#[.pointer (some ⟨X.Wg,0,none⟩),undef,undef,undef],[]⟩ [.code (body_done dP)]) (cs2:=[⟨nCl,T,[],[],.returning,.deferred,none⟩,eu]) g d (es:=λw=>seen prog nCl #[]) (λw=> ?_) (λ_=>abk) λl i b=> ?_
 .have a:(invoke (ddW X.Wg).target (ddW X.Wg).args).runT prog w #[]=(.ok (.enter dP.done #[.pointer (some ⟨X.Wg,0,none⟩)]) w,#[]):=aiW;simp only[G,stepG,unwind,callDeferred,a,j];simp[GStep.after]
 .have:=an9 (κ:=X.κ) (n:=X.n2) (R:=X.R) (S:=S) (val:=val) (c:=⟨nCl,T,[],[],.returning,.deferred,none⟩) (cs:=[eu]) oU rfl (atf T) l (k▸i.live) (by rw[q];exact b.1) (by rw[p];exact b.2);rw[<-k] at this;exact this
end
abbrev Wx.lX(X:Wx):Array Value:=#[.pointer (some ⟨X.Wg,0,none⟩),.pointer (some ⟨X.bk,0,none⟩),.pointer (some ⟨X.bp,0,none⟩),.pointer (some ⟨X.bn,0,none⟩),.pointer (some ⟨X.ba,0,none⟩),.pointer (some ⟨X.bi,0,none⟩)]
abbrev FD(T:Array Value)(k:List Item):Frame:=⟨nCl,T,k,[],.run,.deferred,none⟩
def atg{a:Array Value}:Frame.enter prog nCl a .deferred=FD (a++Array.replicate (13-a.size) undef) [.code amz]:=by
 unfold Frame.enter;rw[func108];rfl
def av8:prog.follows .mixedOrders=true:=by kernel_rfl
section
variable {X:Wx} {S:aq} {w:World}
def aiX(ok:X.Ok)(hF:dN Z)(x:∀E nm,Z E [] nm=(⟨#[]⟩,false))(N:X.tWg=dP.tWg){val:Nat->Value}(v0:val (2*X.κ)=.string (Z X.key X.l X.nm).1)(R:val (2*X.κ+1)=.bool (Z X.key X.l X.nm).2)(hi:X.Inv S w) :
  bB prog false X.Rl X.Gr (afq prog X.tWg X.Wg X.C X.n2 val X.κ) S (G (Frame.enter prog nCl X.lX .deferred) [eu]) w:=by
 rw[atg];obtain⟨T,K,U,g0,B⟩:∃T:Array Value,T=X.lX++Array.replicate (13-X.lX.size) undef/\T.size=13/\T.getD 0 undef=.pointer (some ⟨X.Wg,0,none⟩)/\∀t,1<=t->t<=5->T.getD t undef=X.cap t:=by
  refine⟨_,rfl,by simp, ?_,λt L m=> ?_⟩
  .rw[fi,rb (by simp)];rfl
  .rw[fi,rb (by simp;omega)];have:t=1\/t=2\/t=3\/t=4\/t=5:=by omega
   rcases this with rfl|rfl|rfl|rfl|rfl<;>rfl
 rw[<-K];clear K;rw[aqW];refine abj (fr:=FD T [.code (.seq (.region 0 mn false) (.region 1 aR true))]) (fr2:=FD T [.code (.region 0 mn false),.code (.region 1 aR true)]) (g:=id) (es:=λ_=>#[]) hi (λw _=>by simp[Gl,stepG,stepG.exec]) (λ_=>⟨rfl,rfl⟩) (λ_ _ e h=>by simpa using h) λw1 L=> ?_;have A:List.range mn.size=[0]:=rfl;refine abj (fr2:=FD T [.inRegion mn [0],.code (.region 1 aR true)]) (g:=id) (es:=λ_=>#[]) L (λw _=>by simp[Gl,stepG,stepG.exec,A]) (λ_=>⟨rfl,rfl⟩) (λ_ _ e h=>by simpa using h) λw2 M=> ?_;obtain⟨p,I⟩:=azt;refine abj (fr2:=FW (ddW X.Wg) T [.inRegion mn [],.code (.region 1 aR true)]) (g:=id) (es:=λ_=>seen prog nCl #[]) M (λw _=> ?_) (λ_=>⟨rfl,rfl⟩) (λ_ _=>abk) λw3 Y=> ?_
 .have H:(execOp (Frame.eval (FD T [.inRegion mn [0],.code (.region 1 aR true)])) ⟨none,.defer ⟨.value (.func dP.done),#[.tmp 0],#[168]⟩,0,p,#[],none⟩).runT prog w #[]=(.ok (.defer (ddW X.Wg)) w,#[]):=by
   have hm:Array.map (Frame.eval (FD T [.inRegion mn [0],.code (.region 1 aR true)])) #[.tmp 0]=#[.pointer (some ⟨X.Wg,0,none⟩)]:=by
    rw[<-g0];simp[Frame.eval]
   simp only[execOp,resolve];rw[hm];simp[Deferred.ofValue,Frame.eval]
  have V:∀y,Region.wanted ⟨none,.defer ⟨.value (.func dP.done),#[.tmp 0],#[168]⟩,0,p,#[],none⟩ y=true:=λy=>rfl;have e1:stepG prog false (Gl [FD T [.inRegion mn [0],.code (.region 1 aR true)]] [eu]) w =
    stepG.apply prog true (FD T [.inRegion mn [0],.code (.region 1 aR true)]) [eu] none (execOp (Frame.eval (FD T [.inRegion mn [0],.code (.region 1 aR true)])) ⟨none,.defer ⟨.value (.func dP.done),#[.tmp 0],#[168]⟩,0,p,#[],none⟩) w:=by
   simp[Gl,stepG,stepG.exec,stepG.oper,Frame.oper?,I,V]
  rw[e1];unfold stepG.apply;simp only[H,mw];have D:(CallKind.deferred ==CallKind.early)=false:=rfl;simp[GStep.after,D,Gl,Frame.finish,I]
 refine abj (fr2:=FW (ddW X.Wg) T [.code (.region 1 aR true)]) (g:=id) (es:=λ_=>#[]) Y (λw _=>by simp[Gl,stepG,stepG.exec]) (λ_=>⟨rfl,rfl⟩) (λ_ _ e h=>by simpa using h) λw4 Q=> ?_;refine .step rfl λr s=> ?_;have m:=Q.rely s;have u:∃(t:Nat) (f:World),f.heap=r.heap/\f.ou=r.ou/\stepG prog false (Gl [FW (ddW X.Wg) T [.code (.region 1 aR true)]] [eu]) r=.go (Gl [FW (ddW X.Wg) T [.inRegion aR (Region.linearise.go .any aR 8 t (Array.replicate 8 false) [])]] [eu]) f #[]:=by
  have v:∀t,Region.schedule (prog.follows .mixedOrders) aR t=Region.linearise.go .any aR 8 t (Array.replicate 8 false) []:=λt=>by
   simp only[Region.schedule,av8,Bool.true_or,mw,Region.linearise,amA]
  simp only[Gl,stepG,stepG.exec,v,un,fa,pX];cases d:(choose (.order nCl 1)).run prog r with
  |ok t f=>
   refine⟨t,f, ?_⟩;have:f.heap=r.heap/\f.ou=r.ou:=by
    unfold choose at d;rw[Sem.run] at d;split at d
    .cases d;exact⟨rfl,rfl⟩
    .cases d;exact⟨rfl,rfl⟩
   exact⟨this.1,this.2,rfl⟩
  |halt q f=>
   exfalso;unfold choose at d;rw[Sem.run] at d;split at d<;>cases d
 obtain⟨t,f,l,J,F⟩:=u;have o:∀a,f.cell? a=r.cell? a:=λa=>by unfold World.cell?;rw[l]
 have h6:X.Inv S f:=by
  refine⟨λb O=>by rw[l];exact m.r b O,m.s,by rw[l];exact m.c,by rw[l];exact m.wg,by rw[l];exact m.sz, ?_, ?_,J.trans m.os⟩
  .obtain⟨st,P,W⟩:=m.live;exact⟨st,P,by unfold WgAt;rw[l];exact W⟩
  .obtain⟨z,a,b⟩:=m.pay;exact⟨z,by rw[l];exact a,b⟩
 have n:∀j,(Array.replicate 8 false).getD j false=false:=λj=>by
  rw[fi,tj];split<;>rfl
 refine⟨_,f,_,S,F,⟨λb _ _ _=>by rw[l],mc (by rw[l]),J,λ⟨z,a,b⟩=>⟨z,by rw[l];exact a,b⟩,λi _=>o _,λ_ h=>h,λ_ h=>.inl h,λe h=>by simp at h⟩, ?_⟩;have C:=afS (dd:=ddW X.Wg) (k:=[]) ok hF x 8 t (Array.replicate 8 false) T S f (by simp) (List.countP_le_length) ⟨U,B,λj _ e=>(by rw[n] at e;cases e),λe=>(by rw[n] at e;cases e),λe=>(by rw[n] at e;cases e),h6⟩;refine bB.bind X.lj.eN X.lj.tr C λS2 g w7 ⟨T2,hg,_,hi7,hv0,hv1⟩=> ?_;subst hg;exact av7 ok N v0 R hi7 ⟨hv0,hv1⟩
def aob{args:Array Value} :(callFunc nCl args).runT prog w #[]=(.ok (.enter nCl args) w,#[]):=by
 have a:=cu func108;have c:¬f108.name= "runtime.NumGoroutine" :=by simpa using a
 have b:¬f108.body=none:=λe=>by cases e
 unfold callFunc;simp[func108,c,b]
def aiY(i:X.Ok)(o:dN Z)(g:∀d nm,Z d [] nm=(⟨#[]⟩,false))(k:X.tWg=dP.tWg){val:Nat->Value}(n:val (2*X.κ)=.string (Z X.key X.l X.nm).1)(m:val (2*X.κ+1)=.bool (Z X.key X.l X.nm).2)(l:X.Inv S w) :
  bB prog false X.Rl X.Gr (afq prog X.tWg X.Wg X.C X.n2 val X.κ) S (born prog ⟨.fn (.func nCl) X.lX,#[]⟩) w:=by
 refine .step rfl λa j=> ?_;have b:(invoke (Target.fn (.func nCl) X.lX) #[]).runT prog a #[]=(.ok (.enter nCl X.lX) a,#[]):=aob;have f:stepG prog false (born prog ⟨.fn (.func nCl) X.lX,#[]⟩) a=.go (G (Frame.enter prog nCl X.lX .deferred) [eu]) a (seen prog prog.funcs.size #[]):=by
  simp only[born,stepG,unwind,callDeferred,b];simp[GStep.after,G,eu]
 exact⟨_,a,_,S,f,⟨λ_ _ _ _=>rfl,ap _,rfl,id,λ_ _=>rfl,λ_ h=>h,λ_ h=>.inl h,λe h=>(abk e h).elim⟩,aiX i o g k n m (l.rely j)⟩
end
section
variable {P:Program} {R:World->World->Prop} {Q:World->Prop} {St:Goroutine->World->Prop}
def ed{main:Bool}(c:∀w d,Q w->R w d->Q d) :
  ∀{n:Nat} {g:Goroutine} {w:World},Q w->Goes P main R DC0 St n g w->Goes P main R DC0 (λg w=>St g w/\Q w) n g w
 |0,_,_,hq,h=>λa b=>⟨h a b,c _ _ hq b⟩
 |n+1,g,w,hq,h=>by
  rcases h with h|⟨f,h⟩
  .exact .inl λa b=>⟨h a b,c _ _ hq b⟩
  .refine .inr ⟨f,λa b=> ?_⟩;have:=h a b;cases e:stepG P main g a with
   |go k i j=>
    rw[e,sM] at this;rw[sM];exact⟨this.1,ed c (this.1.1▸c _ _ hq b) this.2⟩
   |_=>rw[e] at this;exact this.elim
def eF{main:Bool}(a:∀g w,St g w->U g w)(h:Goes P main R DC0 St n g w):Goes P main R DC0 U n g w:=lW (λ_ _ _ x=>x) a h
def iR(c:∀w a,Q w->R w a->Q a){e:Mark}{m:Nat}(b:Q w)(h:mB P R e m St g w):mB P R e m (λg w=>St g w/\Q w) g w:=
 ⟨h.1,let⟨f,d,k⟩:=h.2;⟨f,d,ed c b k⟩⟩
def abl(b:∀g w,St g w->U g w){e:Mark}{m:Nat}(h:mB P R e m St g w):mB P R e m U g w:=
 ⟨h.1,let⟨c,a,k⟩:=h.2;⟨c,a,eF b k⟩⟩
def aoc{Wg:Nat}(a:∀w d,Q w->R w d->Q d)(k:∀w v i,Q w->WgAt ty Wg w v 0->Q (w.setCell (stA Wg) (.int .u64 i)))(l:Q w)(h:aiQ P R ty Wg St g w):aiQ P R ty Wg (λg w=>St g w/\Q w) g w:=
 ⟨h.1,λv m c=>by
  obtain⟨p,e,n,f⟩:=h.2 v m c;have b:=k w _ ((v+1)*KK) l c;exact⟨p,e,λj=>eF (λg w x=>abl (λg w x=>iR a x.2 x.1) (iR a x.2 x.1)) (ed a b (n j)),λo=>eF (λg w x=>iR a x.2 x.1) (ed a b (f o))⟩⟩
end
section
variable [Payload] {P:Program} {L:WgLink} {Wg C n:Nat} {R S:aq}
 {b₀:Frame} {a₀:Act} {ops₀:Array Oper} {i₀:Nat} {rest₀:List Nat} {k₀:List Item} {cs:List Frame}
def awb{w' : World}(h:DC0 w w' es):Gua Wg C n R O S S w w' es:=by
 obtain⟨rfl,rfl⟩:=h;exact⟨λ_ _ _ _=>rfl,ap _,rfl,id,λ_ _=>rfl,λ_ h=>h,λ_ h=>.inl h,by simp⟩
omit [Payload] in
def aod:(#[.pointer (some ⟨Wg,0,none⟩),.int .i64 1]:Array Value)++(List.replicate 115 undef).toArray=#[.pointer (some ⟨Wg,0,none⟩),.int .i64 1,undef,undef,undef,undef,undef,undef,undef,undef,undef,undef,undef,undef,undef,undef,undef,undef,undef,undef,undef,undef,undef,undef,undef,undef,undef,undef,undef,undef,undef,undef,undef,undef,undef,undef,undef,undef,undef,undef,undef,undef,undef,undef,undef,undef,undef,undef,undef,undef,undef,undef,undef,undef,undef,undef,undef,undef,undef,undef,undef,undef,undef,undef,undef,undef,undef,undef,undef,undef,undef,undef,undef,undef,undef,undef,undef,undef,undef,undef,undef,undef,undef,undef,undef,undef,undef,undef,undef,undef,undef,undef,undef,undef,undef,undef,undef,undef,undef,undef,undef,undef,undef,undef,undef,undef,undef,undef,undef,undef,undef,undef,undef,undef,undef,undef,undef]:=by
 simp[List.replicate]
def aoe (H:WgLib P L) {val:Nat->Value} {d:aq->Goroutine->World->Prop} {Q:World->Prop} (e:∀w i,Q w->RM L.tWg Wg C n R S w i->Q i) (q:∀w v l,Q w->WgAt L.tWg Wg w v 0->Q (w.setCell (stA Wg) (.int .u64 l)))
  (s:∀w,WgLive L.tWg Wg w->Q w->bB P true (iN L.tWg Wg C (2*n) R noC) (Gua Wg C (2*n) R noC) (MGo P L.tWg Wg C n val j d R) S (G (b₀.at (a₀.put ((ops₀[i₀]?).bind (·.dst)) (.tuple #[])) (.inRegion ops₀ rest₀::k₀)) cs) w)
  (w:World) (u:WgLive L.tWg Wg w) (f:Q w) :
  bB P true (iN L.tWg Wg C (2*n) R noC) (Gua Wg C (2*n) R noC) (λS g w=>apA P L.tWg Wg C n val j d R S g w) S
   (G ((base L.add).at ⟨#[.pointer (some ⟨Wg,0,none⟩),.int .i64 1]++(List.replicate 115 undef).toArray,[]⟩ [.code (body_add L)]) (b₀.at a₀ (.inRegion ops₀ (i₀::rest₀)::k₀)::cs)) w:=by
 rw[aod];have t:=aqS (b₀:=b₀) (a₀:=a₀) (ops₀:=ops₀) (i₀:=i₀) (rest₀:=rest₀) (k₀:=k₀) (cs:=cs) (R:=RM L.tWg Wg C n R S) (S:=λg w=>g=G (b₀.at (a₀.put ((ops₀[i₀]?).bind (·.dst)) (.tuple #[])) (.inRegion ops₀ rest₀::k₀)) cs/\WgLive L.tWg Wg w) H (λ_ _ h r=>r.live h) (λ_ h=>⟨rfl,h⟩) w u;have m:=eF (λg w x=>abl (λg w x=>aoc e q x.2 x.1) (iR e x.2 x.1)) (ed (Q:=Q) e f t);refine bB.aaW (R:=RM L.tWg Wg C n R S) (λ_ _ h=>h) (λ_ _ _ h=>awb h) (λ_ _ h=>av5 (λg w p=> ?_) h) m;refine bB.bind (λS w=>iN.refl R noC S w) (λS a b c=>iN.trans) (bB.aaW (S:=S) (R:=RM L.tWg Wg C n R S) (Stop:=λk g w=>k=S/\(g=G (b₀.at (a₀.put ((ops₀[i₀]?).bind (·.dst)) (.tuple #[])) (.inRegion ops₀ rest₀::k₀)) cs/\WgLive L.tWg Wg w)/\Q w) (λ_ _ h=>h) (λ_ _ _ h=>awb h) (λ_ _ h=>⟨rfl,h⟩) p) ?_;rintro k g w ⟨rfl,⟨rfl,o⟩,f⟩;exact s w o f
end
end
section
open Go.Conc Go.ConcN Go.RowKit
open Go.ConcR (KK wgBlock WgAt stA smA rd wr mk Payload DC0)
noncomputable def abm:Code:=f67.body.getD .skip
noncomputable def afT:Array Oper:=tH (jO abm)
noncomputable def acD:Array Oper:=tH (jO (bR abm))
noncomputable def mo:Array Oper:=tH (jO (bR (bR abm)))
noncomputable def auF:Code:=jO (bR (bR (bR abm)))
noncomputable def afU:Array Oper:=tH (jO auF)
def awc:Code->Code
 |.block _ (.loop c)=>c
 |c=>c
def ath:Code->Code
 |.block _ c=>c
 |c=>c
noncomputable def iz:Code:=awc (bR auF)
noncomputable def aq2:Array Oper:=tH (jO iz)
noncomputable def ald:Code:=ath (jO (bR (bR iz)))
noncomputable def abn:Array Oper:=tH (jO ald)
noncomputable def oW:Array Oper:=tH (jO (bR ald))
noncomputable def kv:Array Oper:=tH (bR (bR ald))
noncomputable def aiZ:Array Oper:=tH (bR (bR (bR iz)))
noncomputable def iT:Array Oper:=tH (jO (bR (bR (bR (bR abm)))))
def aq3:abm=.seq (.region 0 afT false) (.seq (.region 1 acD false) (.seq (.region 2 mo false) (.seq (.seq (.region 3 afU false) (.block 0 (.loop iz))) (.seq (.region 9 iT false) cB)))):=rfl
def afV:iz=.seq (.region 4 aq2 false) (.seq (.cond (.tmp 21) .skip (.exit 0)) (.seq (.block 1 (.seq (.region 5 abn false) (.seq (.region 6 oW false) (.region 7 kv false)))) (.region 8 aiZ false))):=rfl
def azv:∃p a,afT[0]?=some ⟨some 3,.box 3 (.tmp 0),0,p,a,none⟩:=⟨_,_,rfl⟩
def azw:∃p a,afT[1]?=some ⟨some 4,.box 23 (.tmp 1),0,p,a,none⟩:=⟨_,_,rfl⟩
def azx:∃p a,afT[2]?=some ⟨some 6,.assign (.const (.slice none 0 0)),117,p,a,none⟩:=⟨_,_,rfl⟩
def azy:∃p a,afT[3]?=some ⟨some 7,.assign (.const (.bool false)),4,p,a,none⟩:=⟨_,_,rfl⟩
def azz:∃p a,acD[0]?=some ⟨some 15,.move (.tmp 2),31,p,a,none⟩:=⟨_,_,rfl⟩
def azA:∃p a,acD[1]?=some ⟨some 16,.call ⟨.builtin .len,#[.tmp 15],#[31]⟩,3,p,a,none⟩:=⟨_,_,rfl⟩
def azB:∃p a,acD[2]?=some ⟨some 17,.makeSlice 160 (.tmp 16) (.tmp 16),160,p,a,none⟩:=⟨_,_,rfl⟩
def azC:∃p a,acD[3]?=some ⟨some 8,.alloc 160,0,p,a,none⟩:=⟨_,_,rfl⟩
def azD:∃p a,acD[4]?=some ⟨none,.store 160 (.tmp 8) (.tmp 17),0,p,a,none⟩:=⟨_,_,rfl⟩
def azE:∃p a,mo[0]?=some ⟨some 9,.alloc dP.tWg,0,p,a,none⟩:=⟨_,_,rfl⟩
def azF:∃p a,afU[0]?=some ⟨some 18,.move (.tmp 2),31,p,a,none⟩:=⟨_,_,rfl⟩
def azG:∃p a,afU[1]?=some ⟨some 19,.call ⟨.builtin .len,#[.tmp 18],#[31]⟩,3,p,a,none⟩:=⟨_,_,rfl⟩
def azH:∃p a,afU[2]?=some ⟨some 20,.move (.const (.int .i64 0)),3,p,a,none⟩:=⟨_,_,rfl⟩
def azI:∃p a,aq2[0]?=some ⟨some 21,.binOp .lss 3 (.tmp 20) (.tmp 19) 3,0,p,a,none⟩:=⟨_,_,rfl⟩
def azJ:∃p a,abn[0]?=some ⟨some 22,.move (.tmp 20),3,p,a,none⟩:=⟨_,_,rfl⟩
def azK:∃p a,abn[1]?=some ⟨some 23,.indexAddr 31 (.tmp 18) (.tmp 20),0,p,a,none⟩:=⟨_,_,rfl⟩
def azL:∃p a,abn[2]?=some ⟨some 24,.load 3 (.tmp 23),3,p,a,none⟩:=⟨_,_,rfl⟩
def azM:∃p a,abn[3]?=some ⟨some 10,.alloc 3,0,p,a,none⟩:=⟨_,_,rfl⟩
def azN:∃p a,abn[4]?=some ⟨some 11,.alloc 3,0,p,a,none⟩:=⟨_,_,rfl⟩
def azO:∃p a,abn[5]?=some ⟨none,.store 3 (.tmp 10) (.tmp 22),0,p,a,none⟩:=⟨_,_,rfl⟩
def azP:∃p a,abn[6]?=some ⟨none,.store 3 (.tmp 11) (.tmp 24),0,p,a,none⟩:=⟨_,_,rfl⟩
def ax6:∃p a,oW[0]?=some ⟨some 25,.call ⟨.value (.func dP.add),#[.tmp 9,.const (.int .i64 1)],#[dP.tWg,3]⟩,0,p,a,none⟩:=⟨_,_,rfl⟩
def azQ:∃p a,kv[0]?=some ⟨some 26,.makeFunc (.func nCl) #[] #[.tmp 9,.tmp 3,.tmp 4,.tmp 11,.tmp 8,.tmp 10],1,p,a,none⟩:=⟨_,_,rfl⟩
def azR:∃p a,kv[1]?=some ⟨none,.go ⟨.value (.tmp 26),#[],#[]⟩,0,p,a,none⟩:=⟨_,_,rfl⟩
def azS:∃p a,aiZ[0]?=some ⟨some 27,.binOp .add 3 (.tmp 20) (.const (.int .i64 1)) 3,3,p,a,none⟩:=⟨_,_,rfl⟩
def azT:∃p a,aiZ[1]?=some ⟨some 20,.move (.tmp 27),3,p,a,none⟩:=⟨_,_,rfl⟩
def ax7:∃p a,iT[0]?=some ⟨some 28,.call ⟨.value (.func dP.wait),#[.tmp 9],#[dP.tWg]⟩,0,p,a,none⟩:=⟨_,_,rfl⟩
def vC  :seen P f #[]=#[]:=by
 rw[Array.eq_empty_iff_size_eq_zero];rcases h:(seen P f #[]).size with _|n
 .rfl
 .exact(abk _ (Array.getElem_mem (xs:=seen P f #[]) (i:=0) (by omega))).elim
def ati{T:Array Value}{base : List Frame}(h:T.getD 26 undef=.func (.func nCl) #[] X) :
  stepG prog true (Gl (FQ bX T (.inRegion kv [1]::k)::xs) base) w=.spawn (Gl (FQ bX T (.inRegion kv []::k)::xs) base) (born prog ⟨.fn (.func nCl) X,#[]⟩) w #[]:=by
 obtain⟨p,a,e⟩:=azR;have b:(execOp (Frame.eval (FQ bX T (.inRegion kv [1]::k))) ⟨none,.go ⟨.value (.tmp 26),#[],#[]⟩,0,p,a,none⟩).runT prog w #[]=(.ok (.spawn ⟨.fn (.func nCl) X,#[]⟩) w,#[]):=by
  have i:Frame.eval (FQ bX T (.inRegion kv [1]::k)) (.tmp 26)=.func (.func nCl) #[] X:=h;simp only[execOp,resolve,i];simp[Deferred.ofValue]
 have f:∀y,Region.wanted ⟨none,.go ⟨.value (.tmp 26),#[],#[]⟩,0,p,a,none⟩ y=true:=λy=>rfl;have g:stepG prog true (Gl (FQ bX T (.inRegion kv [1]::k)::xs) base) w =
   stepG.apply prog true (FQ bX T (.inRegion kv [1]::k)) (xs++base) none (execOp (Frame.eval (FQ bX T (.inRegion kv [1]::k))) ⟨none,.go ⟨.value (.tmp 26),#[],#[]⟩,0,p,a,none⟩) w:=by
  simp[Gl,stepG,stepG.exec,stepG.oper,Frame.oper?,e,f]
 rw[g];unfold stepG.apply;simp only[b,mw];have d:(CallKind.normal ==CallKind.early)=false:=rfl;simp[GStep.after,d,Gl,Frame.finish,e,born,vC]
section
variable {P:Program} {w:World} {e:Operand->Value} {x y:Operand} {v:Value} {dst:Option Tmp} {t ty:TypeId} {pos:String} {af:Array Edge} {gd:Option (Nat×Bool)}
def aq4(h:e x=v)(a:v.cells=#[v]):(execOp e ⟨dst,.box t x,ty,pos,af,gd⟩).runT P w #[]=(.ok (.value (.pointer (some ⟨w.heap.size,0,none⟩))) (w.alloc (.cells #[v] t)),#[]):=by
 simp[execOp,Instr.box,newVar,newRow,h,a]
def afW(h:e x=v):(execOp e ⟨dst,.assign x,ty,pos,af,gd⟩).runT P w #[]=(.ok (.value v) w,#[]):=by
 simp[execOp,h]
def nW{i:TypeInfo}(a:P.info? t=some i)(b:i.zero=some v):(execOp e ⟨dst,.alloc t,ty,pos,af,gd⟩).runT P w #[]=(.ok (.value (.pointer (some ⟨w.heap.size,0,none⟩))) (w.alloc (.cells v.cells t)),#[]):=by
 simp[execOp,Instr.alloc,zeroValue,typeInfo,a,b,newVar,newRow]
def afX{i:TypeInfo}{A:Addr}{u:Value}(m:P.info? t=some i)(o:i.size=1)(k:akp v=true)(a:v.cells=#[v])(n:e x=.pointer (some A))(j:e y=v)(l:w.cell? A=some u)(d:w.frozen? A=false) :
  (execOp e ⟨dst,.store t x y,ty,pos,af,gd⟩).runT P w #[]=(.ok .skip (w.setCell A v),#[⟨.cell A,true,false⟩]):=by
 have b:(storeCells A [v] 0).runT P w #[]=(.ok () (w.setCell A v),#[⟨.cell A,true,false⟩]):=by
  show(Sem.store .plain (A.add 0) v (Sem.pure ())).runT P w #[]=_;have f:A.add 0=A:=by unfold Addr.add;simp
  rw[f,aak k l d];rfl
 have c:(storeCells A [v] 0).run P w=.ok () (w.setCell A v):=by
  rw[<-qD _ _ _ #[]];exact ef Prod.fst b
 have g:(storeCells A [v] 0).events P w #[]=#[⟨.cell A,true,false⟩]:=ef Prod.snd b;simp[execOp,n,j,Instr.storeAt,Instr.sureAddr,storeVar,sizeOf,typeInfo,m,o,a,c,g]
def ai0(F:FaT P){s:Tmp}(h:e (.tmp s)=.slice A n c):(execOp e ⟨dst,.call ⟨.builtin .len,#[.tmp s],#[31]⟩,ty,pos,af,gd⟩).runT P w #[]=(.ok (.value (.int .i64 n)) w,#[]):=by
 rw[na (s:=λv=>Builtin.len_ #[31] ty #[v]) λ_ v=>rfl,h];change Sem.runT P (Builtin.len_ #[31] ty #[.slice A n c] >>=λu=>pure (Next.value u)) w #[]=_;simp[Builtin.len_,li F.u31,goInt]
def ai1{fn:Fn}{a:Array Operand}(h:a.map e=X):(execOp e ⟨dst,.makeFunc fn #[] a,ty,pos,af,gd⟩).runT P w #[]=(.ok (.value (.func fn #[] X)) w,#[]):=by
 simp[execOp,Instr.makeFunc,h]
def atj(F:FaT P)(m:(n:Int)<=2147483647)(b:e x=.int .i64 n):∃c:Array Value,c.size=2*n/\(execOp e ⟨dst,.makeSlice 160 x x,ty,pos,af,gd⟩).runT P w #[]=(.ok (.value (.slice (some ⟨w.heap.size,0,none⟩) n n)) (w.alloc (.cells c 171)),#[]):=by
 obtain⟨c,k,g⟩:=amh F (w:=w) (dst:=dst) (ty:=ty) (pos:=pos) (af:=af) (gd:=gd) m b;refine⟨c,k,Prod.ext ((qD _ _ _ _).trans g) ?_⟩;obtain⟨i,l,o,a,f⟩:=F.i258;have d:=events_make w 160 171 i _ F.agJ l f .i64 .i64 n n (by omega) (ui _) (by rw[a];omega) (by omega) (by rw[a];omega) #[];show(execOp e ⟨dst,.makeSlice 160 x x,ty,pos,af,gd⟩).events P w #[]=#[];have j:execOp e ⟨dst,.makeSlice 160 x x,ty,pos,af,gd⟩=(Instr.makeSlice 160 (e x) (e x)).bind λv=>Sem.pure (.value v):=rfl;rw[j,b,Sem.events_bind',d];cases(Instr.makeSlice 160 (.int .i64 n) (.int .i64 n)).run P w<;>rfl
def atk{a:Int}{y:Operand}(d:e x=.int .i64 a)(c:e y=.int .i64 1)(g:0<=a)(f:a<2147483647):(execOp e ⟨dst,.binOp .add 3 x y 3,ty,pos,af,gd⟩).runT P w #[]=(.ok (.value (.int .i64 (a+1))) w,#[]):=by
 have:execOp e ⟨dst,.binOp .add 3 x y 3,ty,pos,af,gd⟩=(binOp .add 3 (e x) (e y)).bind λv=>Sem.pure (.value v):=rfl;rw[this,d,c];have b:IntKind.i64.wrap (a+1)=a+1:=by rw[uE];omega
 show(Result.ok (Next.value (.int .i64 (IntKind.i64.wrap (a+1)))) w,#[])=_;rw[b]
end
end
section
open Go.Conc Go.ConcN Go.RowKit
section
variable {Rl:aq->World->World->Prop} {St:aq->Goroutine->World->Prop} {S Rr:aq} {w0:World} {T:Array Value} {k:List Item} {xs base:List Frame}
structure Kp (S Rr:aq) (w0:World) (S':aq) (w':World):Prop where
 keep:∀b,b<w0.heap.size->S b\/Rr b->w'.heap[b]?=w0.heap[b]?
 size:w0.heap.size<=w'.heap.size
 os:w'.ou=w0.ou
 mono:∀b,S b->S' b
 new:∀b,S' b->S b\/(w0.heap.size<=b/\b<w'.heap.size)
def Kp.rl(H:nD Rl Rr)(h:Rl S w0 W):Kp S Rr w0 S W:=let⟨a,b,c⟩:=H.rl _ _ _ h;⟨λx _ d=>a x d,b,c,λ_ h=>h,λ_ h=>.inl h⟩
def Kp.alloc(S Rr:aq)(w:World)(ob:Obj):Kp S Rr w (SN S w (w.alloc ob)) (w.alloc ob):=
 ⟨λb a _=>rE w _ b a,by rw[oS];omega,rfl,λ_ h=>.inl h,λ_ h=>h⟩
def Kp.trans{w2 : World}(a:Kp S Rr w0 O W)(b:Kp O Rr W aT w2):Kp S Rr w0 aT w2:=
 ⟨λx c h=>(b.keep x (aE c a.size) (h.imp (a.mono x) id)).trans (a.keep x c h),am a.size b.size,b.os.trans a.os,λx h=>b.mono x (a.mono x h),λx h=>(b.new x h).elim (λh=>(a.new x h).imp id λh=>⟨h.1,aE h.2 b.size⟩) λh=>.inr ⟨am a.size h.1,h.2⟩⟩
def ju(w:World)(ob:Obj):(w.alloc ob).heap[w.heap.size]?=some ob:=by
 show(w.heap.push _)[_]?=_;rw[qi]
def jP(S:aq)(w:World)(ob:Obj):SN S w (w.alloc ob) w.heap.size:=.inr ⟨ap _,by rw[oS];omega⟩
def atl (H:nD Rl Rr) (hZ:45<=Y) (hz:T.size=Y)   (N:T.getD 0 undef=.int .i64 key) (P:T.getD 1 undef=.slice A n c)
  (K:∀(T':Array Value) (i:aq) (e:World) (f g:Nat),T'.size=Y->(∀t,t≠3->t≠4->t≠6->t≠7->T'.getD t undef=T.getD t undef)->T'.getD 3 undef=.pointer (some ⟨f,0,none⟩)->T'.getD 4 undef=.pointer (some ⟨g,0,none⟩)->
   T'.getD 6 undef=.slice none 0 0->T'.getD 7 undef=.bool false->Kp S Rr w0 i e->i f->i g->w0.heap.size<=f->f<g->e.heap[f]?=some (.cells #[.int .i64 key] 3)->e.heap[g]?=some (.cells #[.slice A n c] 23)->bB prog true Rl (nC Rr) St i (Gl (FQ bX T' k::xs) base) e) :
  bB prog true Rl (nC Rr) St S (Gl (FQ bX T (.inRegion afT [0,1,2,3]::k)::xs) base) w0:=by
 obtain⟨p0,a0,y⟩:=azv;obtain⟨p1,a1,G⟩:=azw;obtain⟨X,a2,D⟩:=azx;obtain⟨W,a3,V⟩:=azy;refine lh H (d:=3) (ob:=.cells #[.int .i64 key] 3) (by show(3:Nat)<_;omega) y rfl rfl (λw=>aq4 (x:=.tmp 0) N rfl) (λa I T1 z1 B s=> ?_) w0 (H.eN _ _);refine lh H (d:=4) (ob:=.cells #[.slice A n c] 23) (by show(4:Nat)<_;omega) G rfl rfl (λw=>aq4 (x:=.tmp 1) ((s 1 (by decide)).trans P) rfl) (λb z T2 z2 F u=> ?_);refine bE H.cmp (d:=6) (v:=.slice none 0 0) (es:=#[]) (by show(6:Nat)<_;omega) D rfl rfl (λw _=>afW rfl) (λw _=>bj _) (λT3 z3 M l=> ?_);refine bE H.cmp (d:=7) (v:=.bool false) (es:=#[]) (by show(7:Nat)<_;omega) V rfl rfl (λw _=>afW rfl) (λw _=>bj _) (λE Z U j=> ?_);refine fQ H.cmp λe m=> ?_;have r:=Kp.rl H I;have J:=Kp.alloc S Rr a (.cells #[.int .i64 key] 3);have q:=Kp.rl H z;have p:=Kp.alloc (SN S a (a.alloc (.cells #[.int .i64 key] 3))) Rr b (.cells #[.slice A n c] 23);have o:=Kp.rl H m;have s1:(a.alloc (.cells #[.int .i64 key] 3)).heap.size=a.heap.size+1:=oS _ _;have s2:(b.alloc (.cells #[.slice A n c] 23)).heap.size=b.heap.size+1:=oS _ _;have Q:=r.size;have g2:=q.size;refine K E _ e a.heap.size b.heap.size (by omega) (λt O L C R=> ?_) ?_ ?_ ?_ U ((((r.trans J).trans q).trans p).trans o) (p.mono _ (jP S a _)) (jP _ b _) Q (by omega) ?_ ?_
 .rw[j t R,l t C,u t L,s t O]
 .rw[j 3 (by decide),l 3 (by decide),u 3 (by decide),B]
 .rw[j 4 (by decide),l 4 (by decide),F]
 .rw[j 6 (by decide),M]
 .rw[((q.trans p).trans o).keep a.heap.size (by omega) (.inl (jP S a _)),ju]
 .rw[o.keep b.heap.size (by omega) (.inl (jP _ b _)),ju]
end
section
variable {P:Program} {main:Bool} {Rl:aq->World->World->Prop} {St:aq->Goroutine->World->Prop} {S Rr:aq} {w0:World} {f:FuncId} {T:Array Value} {k:List Item} {xs base:List Frame}
def awd (H:nD Rl Rr)    {d:Tmp} {Q:Value->Obj->World->Prop} (m:d<T.size) (n:V[i]?=some o) (u:o.guard=none) (j:o.dst=some d)
  (q:∀w,∃v a,Q v a w/\(execOp (FQ f T (.inRegion V (i::rest)::k)).eval o).runT P w #[]=(.ok (.value v) (w.alloc a),#[]))
  (x:∀w,Rl S w0 w->∀v a,Q v a w->∀T':Array Value,T'.size=T.size->T'.getD d undef=v->(∀t,t≠d->T'.getD t undef=T.getD t undef)->∀c,Rl (SN S w (w.alloc a)) (w.alloc a) c->bB P main Rl (nC Rr) St (SN S w (w.alloc a)) (Gl (FQ f T' (.inRegion V rest::k)::xs) base) c) :
  ∀w,Rl S w0 w->bB P main Rl (nC Rr) St S (Gl (FQ f T (.inRegion V (i::rest)::k)::xs) base) w:=λw p=>by
 refine .step rfl λc l=> ?_;have A:=H.tr _ _ _ _ p l;obtain⟨v,a,y,g⟩:=q c;refine⟨_,_,_,_,amd rfl rfl rfl rfl n u g,⟨λb s _=>rE c _ b s,by rw[oS];omega,rfl,rfl,λe z=>by cases(by simpa using sd z:False)⟩, ?_⟩;have:Frame.finish (FQ f T (.inRegion V (i::rest)::k)) v=FQ f (T.setIfInBounds d v) (.inRegion V rest::k):=by
  simp only[Frame.finish,n,pY,j]
 rw[this];exact x c A _ _ y _ (by simp) (by rw[aD m,dj rfl]) (λt r=>by rw[aD m,bd r]) _ (H.eN _ _)
end
section
variable {w:World} {b:Nat} {u v:Value} {t:TypeId}
def sP(h:w.heap[b]?=some (.cells #[u] t)):w.cell? ⟨b,0,none⟩=some u/\w.frozen? ⟨b,0,none⟩=false:=by
 constructor
 .simp[World.cell?,h]
 .simp[World.frozen?,h]
def vA(h:w.heap[b]?=some (.cells #[u] t)):(w.setCell ⟨b,0,none⟩ v).heap[b]?=some (.cells #[v] t):=by
 simp[World.setCell,mt,h]
end
section
variable {Rl:aq->World->World->Prop} {St:aq->Goroutine->World->Prop} {S Rr:aq} {w0:World} {T:Array Value} {k:List Item} {xs base:List Frame}
def atm (H:nD Rl Rr) (hZ:45<=Y) (hz:T.size=Y)  (hn:(n:Int)<=2147483647) (Z:T.getD 2 undef=.slice A n c)
  (K:∀(T':Array Value) (p:aq) (l:World) (C B:Nat) (g:Array Value),T'.size=Y->(∀t,t≠15->t≠16->t≠17->t≠8->T'.getD t undef=T.getD t undef)->T'.getD 8 undef=.pointer (some ⟨B,0,none⟩)->T'.getD 17 undef=.slice (some ⟨C,0,none⟩) n n->
   Kp S Rr w0 p l->p C->p B->w0.heap.size<=C->C<B->g.size=2*n->l.heap[C]?=some (.cells g 171)->l.heap[B]?=some (.cells #[.slice (some ⟨C,0,none⟩) n n] 160)->bB prog true Rl (nC Rr) St p (Gl (FQ bX T' k::xs) base) l) :
  bB prog true Rl (nC Rr) St S (Gl (FQ bX T (.inRegion acD [0,1,2,3,4]::k)::xs) base) w0:=by
 obtain⟨p0,a0,W⟩:=azz;obtain⟨p1,a1,e1⟩:=azA;obtain⟨p2,a2,e2⟩:=azB;obtain⟨p3,a3,e3⟩:=azC;obtain⟨p4,a4,e4⟩:=azD;obtain⟨R,P,F,L⟩:=oM.i247;refine bE H.cmp (d:=15) (v:=.slice A n c) (es:=#[]) (by show(15:Nat)<_;omega) W rfl rfl (λw _=>eC (x:=.tmp 2) Z) (λw _=>bj _) (λT1 z1 v1 r1=> ?_) w0 (H.eN _ _);refine bE H.cmp (d:=16) (v:=.int .i64 n) (es:=#[]) (by show(16:Nat)<_;omega) e1 rfl rfl (λw _=>ai0 oM (s:=15) v1) (λw _=>bj _) (λT2 z2 v2 r2=> ?_);refine awd H (d:=17) (Q:=λv ob w=>v=.slice (some ⟨w.heap.size,0,none⟩) n n/\∃g:Array Value,g.size=2*n/\ob=.cells g 171) (by show(17:Nat)<_;omega) e2 rfl rfl (λw=> ?_) (λa ha vv ob hq T3 z3 v3 X=> ?_)
 .obtain⟨g,q,hr⟩:=atj oM (w:=w) (x:=.tmp 16) (e:=Frame.eval (FQ bX T2 (.inRegion acD [2,3,4]::k))) hn v2;exact⟨_,_,⟨rfl,g,q,rfl⟩,hr⟩
 obtain⟨rfl,g,J,rfl⟩:=hq;refine lh H (d:=8) (ob:=.cells #[.slice none 0 0] 160) (by show(8:Nat)<_;omega) e3 rfl rfl (λw=>nW P L) (λf D O z4 V U=> ?_);have o:O.getD 17 undef=.slice (some ⟨a.heap.size,0,none⟩) n n:=by rw[U 17 (by decide),v3]
 have s1:(a.alloc (.cells g 171)).heap.size=a.heap.size+1:=oS _ _;have s2:(f.alloc (.cells #[.slice none 0 0] 160)).heap.size=f.heap.size+1:=oS _ _;have N:=Kp.rl H ha;have kb:=Kp.alloc S Rr a (.cells g 171);have M:=Kp.rl H D;have r:=Kp.alloc (SN S a (a.alloc (.cells g 171))) Rr f (.cells #[.slice none 0 0] 160);have g1:=N.size;have g2:=M.size;have i:=jP (SN S a (a.alloc (.cells g 171))) f (.cells #[.slice none 0 0] 160);have I:∀{w},Rl (SN (SN S a (a.alloc (.cells g 171))) f (f.alloc (.cells #[.slice none 0 0] 160))) (f.alloc (.cells #[.slice none 0 0] 160)) w->w.heap[f.heap.size]?=some (.cells #[.slice none 0 0] 160):=λ{w} h=>by
  rw[(Kp.rl H h).keep f.heap.size (by omega) (.inl i),ju]
 refine aea H.cmp (A:=⟨f.heap.size,0,none⟩) (u:=.slice (some ⟨a.heap.size,0,none⟩) n n) e4 rfl rfl (λw h=>afX (x:=.tmp 8) (y:=.tmp 17) P F rfl rfl V o (sP (I h)).1 (sP (I h)).2) i (λw h=>aa2 i (by have:=(Kp.rl H h).size;show f.heap.size<_;omega)) (λz q w1 aW=> ?_);refine fQ H.cmp (λl E=> ?_) w1 aW;have G:=Kp.rl H q;have m:=Kp.rl H E;have g3:=G.size;have a5:(z.setCell ⟨f.heap.size,0,none⟩ (.slice (some ⟨a.heap.size,0,none⟩) n n)).heap.size=z.heap.size:=iS _ _ _;have other:∀b,b≠f.heap.size->(z.setCell ⟨f.heap.size,0,none⟩ (.slice (some ⟨a.heap.size,0,none⟩) n n)).heap[b]?=z.heap[b]?:=λb h=>bc _ _ _ (λe=>h e.symm);have j:=((N.trans kb).trans M).trans (r.trans G);have g4:=m.size;refine K O _ l a.heap.size f.heap.size g (by omega) (λt q1 q2 q3 q4=> ?_) V o ⟨λb D h=> ?_,by have:=j.size;omega, ?_,j.mono,λb h=>(j.new b h).imp id λh=>⟨h.1,by omega⟩⟩ (r.mono _ (jP S a _)) i g1 (by omega) J ?_ ?_
 .rw[U t q4,X t q3,r2 t q2,r1 t q1]
 .exact(m.keep b (by have:=j.size;omega) (h.imp (j.mono b) id)).trans ((other b (by omega)).trans (j.keep b D h))
 .exact m.os.trans j.os
 .exact(m.keep a.heap.size (by omega) (.inl (r.mono _ (jP S a _)))).trans ((other _ (by omega)).trans (((M.trans (r.trans G)).keep a.heap.size (by omega) (.inl (jP S a _))).trans (ju a _)))
 .exact(m.keep f.heap.size (by omega) (.inl i)).trans (vA (I q))
end
end
section
open Go.Conc Go.ConcN Go.RowKit
open Go.ConcR (KK wgBlock WgAt stA smA rd wr mk Payload DC0)
def aq5:(prog.info? dP.tWg).map (λi=>i.zero.map (·.cells))=some (some #[.int .u64 0,.int .u32 0]):=by kernel_rfl
def atn:∃i z,prog.info? dP.tWg=some i/\i.zero=some z/\z.cells=#[.int .u64 0,.int .u32 0]:=by
 have h:=aq5;cases b:prog.info? dP.tWg with
 |none=>rw[b] at h;cases h
 |some i=>
  rw[b] at h;cases a:i.zero with
  |none=>simp[a] at h
  |some z=>
   simp only[pU,a,lE] at h;exact⟨i,z,rfl,a,h⟩
def iA{o:Obj}(h:w.heap[b]?=some o):b<w.heap.size:=(db.1 h).1
noncomputable def fB:Code:=.seq (.seq (.region 3 afU false) (.block 0 (.loop iz))) (.seq (.region 9 iT false) cB)
section
variable {Rl:aq->World->World->Prop} {St:aq->Goroutine->World->Prop} {S Rr:aq} {w0:World} {T:Array Value} {k:List Item} {xs base:List Frame}
def ale (H:nD Rl Rr) (D:45<=Y) (N:T.size=Y)   (hn:(Q:Int)<=2147483647) (h0:T.getD 0 undef=.int .i64 key) (h1:T.getD 1 undef=.slice A n c) (E:T.getD 2 undef=.slice R Q b)
  (K:∀(T':Array Value) (w:aq) (g:World) (e d C i:Nat) (m:Array Value),T'.size=Y->(∀t,(t<3\/oT t=true)->T'.getD t undef=T.getD t undef)->
   T'.getD 3 undef=.pointer (some ⟨e,0,none⟩)/\T'.getD 4 undef=.pointer (some ⟨d,0,none⟩)/\T'.getD 6 undef=.slice none 0 0/\T'.getD 7 undef=.bool false/\T'.getD 8 undef=.pointer (some ⟨i,0,none⟩)/\T'.getD 17 undef=.slice (some ⟨C,0,none⟩) Q Q->
   Kp S Rr w0 w g->w0.heap.size<=e/\e<d/\d<C/\C<i->g.heap[e]?=some (.cells #[.int .i64 key] 3)->g.heap[d]?=some (.cells #[.slice A n c] 23)->m.size=2*Q->g.heap[C]?=some (.cells m 171)->g.heap[i]?=some (.cells #[.slice (some ⟨C,0,none⟩) Q Q] 160)->
   bB prog true Rl (nC Rr) St w (Gl (FQ bX T' (.code (.region 2 mo false) :: .code fB::k)::xs) base) g) :
  bB prog true Rl (nC Rr) St S (Gl (FQ bX T (.code abm::k)::xs) base) w0:=by
 rw[aq3];refine dJ H.cmp (eR H.cmp (l:=[0,1,2,3]) rfl λwa U=>atl H D N h0 h1 λT1 S1 w1 e d L z t3 F I G k1 J sp lk M ck x=> ?_) w0 (H.eN _ _);refine dJ H.cmp (eR H.cmp (l:=[0,1,2,3,4]) rfl λwb v=>atm H D L hn ((z 2 (by decide) (by decide) (by decide) (by decide)).trans E) λT2 S2 w2 C i m z2 j t8 p O V P lC la s X B=> ?_) w1 (H.eN _ _);refine dJ H.cmp (λwc Z=> ?_) w2 (H.eN _ _);have y:=Kp.rl H U;have r:=(Kp.rl H v).trans O;have f:=Kp.rl H Z;have a1:=iA x;have a0:=iA B;have g1:=y.size;have g2:=(Kp.rl H v).size;have g3:=f.size;refine K T2 S2 wc e d C i m z2 (λt a=> ?_) ⟨?_, ?_, ?_, ?_,t8,p⟩ (((y.trans k1).trans r).trans f) ⟨by omega,M,by omega,la⟩ ?_ ?_ s ?_ ?_
 .have o:t≠15:=by rintro rfl;exact absurd a (by decide)
  have q:t≠16:=by rintro rfl;exact absurd a (by decide)
  have u:t≠17:=by rintro rfl;exact absurd a (by decide)
  have e8:t≠8:=by rintro rfl;exact absurd a (by decide)
  have e3:t≠3:=by rintro rfl;exact absurd a (by decide)
  have W:t≠4:=by rintro rfl;exact absurd a (by decide)
  have e6:t≠6:=by rintro rfl;exact absurd a (by decide)
  have e7:t≠7:=by rintro rfl;exact absurd a (by decide)
  rw[j t o q u e8,z t e3 W e6 e7]
 .rw[j 3 (by decide) (by decide) (by decide) (by decide),t3]
 .rw[j 4 (by decide) (by decide) (by decide) (by decide),F]
 .rw[j 6 (by decide) (by decide) (by decide) (by decide),I]
 .rw[j 7 (by decide) (by decide) (by decide) (by decide),G]
 .rw[(r.trans f).keep e (by omega) (.inl J),ck]
 .rw[(r.trans f).keep d (by omega) (.inl sp),x]
 .rw[f.keep C (by omega) (.inl V),X]
 .rw[f.keep i (by omega) (.inl P),B]
end
end
section
open Go.Conc Go.ConcN Go.RowKit
section
variable {Rl:aq->World->World->Prop} {St:aq->Goroutine->World->Prop} {S Rr:aq} {w0:World} {T:Array Value} {k:List Item} {xs base:List Frame}
def ato (H:nD Rl Rr) (G:45<=Y) (E:T.size=Y)  (i:T.getD 2 undef=.slice A n c)
  (K:∀T':Array Value,T'.size=Y->(∀t,t≠18->t≠19->t≠20->T'.getD t undef=T.getD t undef)->T'.getD 18 undef=.slice A n c->T'.getD 19 undef=.int .i64 n->T'.getD 20 undef=.int .i64 0->
   ∀b,Rl S w0 b->bB prog true Rl (nC Rr) St S (Gl (FQ bX T' k::xs) base) b) :
  bB prog true Rl (nC Rr) St S (Gl (FQ bX T (.inRegion afU [0,1,2]::k)::xs) base) w0:=by
 obtain⟨L,J,g⟩:=azF;obtain⟨F,M,u⟩:=azG;obtain⟨z,N,q⟩:=azH;refine bE H.cmp (d:=18) (v:=.slice A n c) (es:=#[]) (by show(18:Nat)<_;omega) g rfl rfl (λw _=>eC (x:=.tmp 2) i) (λw _=>bj _) (λB D e j=> ?_) w0 (H.eN _ _);refine bE H.cmp (d:=19) (v:=.int .i64 n) (es:=#[]) (by show(19:Nat)<_;omega) u rfl rfl (λw _=>ai0 oM (s:=18) e) (λw _=>bj _) (λO C r f=> ?_);refine bE H.cmp (d:=20) (v:=.int .i64 0) (es:=#[]) (by show(20:Nat)<_;omega) q rfl rfl (λw _=>eC rfl) (λw _=>bj _) (λm I l a=> ?_);refine fQ H.cmp (K m (by omega) (λt o y p=>by rw[a t p,f t y,j t o]) (by rw[a 18 (by decide),f 18 (by decide),e]) (by rw[a 19 (by decide),r]) l)
def amC (H:nD Rl Rr) (l:45<=Y) (q:T.size=Y) (a:T.getD 20 undef=.int .i64 i) (b:T.getD 19 undef=.int .i64 n)
  (K:∀T':Array Value,T'.size=Y->(∀t,t≠21->T'.getD t undef=T.getD t undef)->T'.getD 21 undef=.bool (decide (i<n))->
   ∀c,Rl S w0 c->bB prog true Rl (nC Rr) St S (Gl (FQ bX T' k::xs) base) c) :
  bB prog true Rl (nC Rr) St S (Gl (FQ bX T (.inRegion aq2 [0]::k)::xs) base) w0:=by
 obtain⟨o,m,e⟩:=azI;refine bE H.cmp (d:=21) (v:=.bool (decide ((i:Int)<n))) (es:=#[]) (by show(21:Nat)<_;omega) e rfl rfl (λw _=>aqP (x:=.tmp 20) (y:=.tmp 19) a b) (λw _=>bj _) (λg p j f=> ?_) w0 (H.eN _ _);exact fQ H.cmp (K g (by omega) f (by rw[j];congr 1;exact tQ.2 (by omega)))
end
def aof:(prog.info? 3).map (λi=>(i.size,i.zero))=some (1,some (.int .i64 0)):=by kernel_rfl
def ai2:∃i,prog.info? 3=some i/\i.size=1/\i.zero=some (.int .i64 0):=by
 have h:=aof;cases a:prog.info? 3 with
 |none=>rw[a] at h;cases h
 |some i=>
  rw[a] at h;simp only[pU,lE,Prod.mk.injEq] at h;exact⟨i,rfl,h⟩
section
variable {P:Program} {w:World} {e:Operand->Value} {x y:Operand} {dst:Option Tmp} {ty:TypeId} {pos:String} {af:Array Edge} {gd:Option (Nat×Bool)}
def alf{i:TypeInfo}(g:P.underlying 31=some (.slice 3))(k:P.info? 3=some i)(f:i.size=1)(l:e x=.slice (some a) n c)(d:e y=.int .i64 j)(b:j<n) :
  (execOp e ⟨dst,.indexAddr 31 x y,ty,pos,af,gd⟩).runT P w #[]=(.ok (.value (.pointer (some (a.add j)))) w,#[]):=by
 simp[execOp,l,d,Instr.indexAt,asIntOf,li g,b,sizeOf,typeInfo,k,f]
end
section
variable {Rl:aq->World->World->Prop} {St:aq->Goroutine->World->Prop} {S Rr:aq} {w0:World} {T:Array Value} {k:List Item} {xs base:List Frame}
def aq6 (H:nD Rl Rr)   {p:String} {d s:Tmp} {u v:Int} (D:V[i]?=some ⟨none,.store 3 (.tmp d) (.tmp s),0,p,af,none⟩) (t:T.getD d undef=.pointer (some ⟨b,0,none⟩)) (E:T.getD s undef=.int .i64 v)
  (n:S b) (q:w0.heap[b]?=some (.cells #[.int .i64 u] 3))
  (K:∀a,Kp S Rr (w0.setCell ⟨b,0,none⟩ (.int .i64 v)) S a->(∀x,x≠b->S x\/Rr x->a.heap[x]?=w0.heap[x]?)->w0.heap.size<=a.heap.size->a.ou=w0.ou->a.heap[b]?=some (.cells #[.int .i64 v] 3)->bB prog true Rl (nC Rr) St S (Gl (FQ bX T (.inRegion V rest::k)::xs) base) a) :
  bB prog true Rl (nC Rr) St S (Gl (FQ bX T (.inRegion V (i::rest)::k)::xs) base) w0:=by
 obtain⟨M,F,C, -⟩:=ai2;have B:=iA q;have l:∀{w},Rl S w0 w->w.heap[b]?=some (.cells #[.int .i64 u] 3):=λ{w} h=>by rw[(Kp.rl H h).keep b B (.inl n),q]
 refine aea H.cmp (A:=⟨b,0,none⟩) (u:=.int .i64 v) D rfl rfl (λw h=>afX (x:=.tmp d) (y:=.tmp s) F C rfl rfl t E (sP (l h)).1 (sP (l h)).2) n (λw h=>aa2 n (iA (l h))) (λj f o I=> ?_) w0 (H.eN _ _);have g:=H.rl _ _ _ f;have c:=H.rl _ _ _ I;have z:(j.setCell ⟨b,0,none⟩ (.int .i64 v)).heap.size=j.heap.size:=iS _ _ _;have other:∀x,x≠b->(j.setCell ⟨b,0,none⟩ (.int .i64 v)).heap[x]?=j.heap[x]?:=λx h=>bc _ _ _ (λe=>h e.symm);have r:o.heap[b]?=some (.cells #[.int .i64 v] 3):=(c.1 b (.inl n)).trans (vA (l f));have same:∀x,x≠b->S x\/Rr x->o.heap[x]?=w0.heap[x]?:=λx h m=>(c.1 x m).trans ((other x h).trans (g.1 x m));have G:(w0.setCell ⟨b,0,none⟩ (.int .i64 v)).heap.size=w0.heap.size:=iS _ _ _;have L:=g.2.1;have J:=c.2.1;refine K o ⟨λx _ m=> ?_,by omega,(c.2.2.trans g.2.2),λ_ h=>h,λ_ h=>.inl h⟩ same (by omega) (c.2.2.trans g.2.2) r;by_cases e:x=b
 .rw[e,r,vA q]
 .rw[same x e m,bc _ _ _ (λh=>e h.symm)]
end
section
variable {P:Program} {S Rr:aq}
def atp{A:Addr}{B:Nat}(d:Rr A.block)(g:A.block<B):∀e∈seen P f #[⟨.cell A,false,false⟩],kX S Rr B e:=λe c=>by
 have h:=sd c;simp only[rD,lw,rc,tO] at h;subst h;refine⟨λx a=>.inr ?_,λm b=>(by cases b),g⟩;simp[MemAct.ofEvent,MemAct.touch?] at a;rw[<-a];exact⟨d,rfl⟩
end
section
variable {Rl:aq->World->World->Prop} {St:aq->Goroutine->World->Prop} {S Rr:aq} {w0:World} {T:Array Value} {k:List Item} {xs base:List Frame}
def atq (H:nD Rl Rr) (hZ:45<=Y) (hz:T.size=Y)  {nm:Int} (W:T.getD 18 undef=.slice A n c) (B:T.getD 20 undef=.int .i64 j) (hj:j<n) (V:aij w0 A j nm) (hR:∀a,A=some a->Rr a.block)
  (K:∀(T':Array Value) (F:aq) (G:World) (u E:Nat),T'.size=Y->(∀t,t≠22->t≠23->t≠24->t≠10->t≠11->T'.getD t undef=T.getD t undef)->T'.getD 10 undef=.pointer (some ⟨u,0,none⟩)->T'.getD 11 undef=.pointer (some ⟨E,0,none⟩)->
   Kp S Rr w0 F G->F u->F E->w0.heap.size<=u->u<E->G.heap[u]?=some (.cells #[.int .i64 j] 3)->G.heap[E]?=some (.cells #[.int .i64 nm] 3)->bB prog true Rl (nC Rr) St F (Gl (FQ bX T' k::xs) base) G) :
  bB prog true Rl (nC Rr) St S (Gl (FQ bX T (.inRegion abn [0,1,2,3,4,5,6]::k)::xs) base) w0:=by
 obtain⟨p0,a0,e0⟩:=azJ;obtain⟨p1,a1,e1⟩:=azK;obtain⟨p2,a2,e2⟩:=azL;obtain⟨p3,a3,e3⟩:=azM;obtain⟨p4,a4,e4⟩:=azN;obtain⟨p5,a5,e5⟩:=azO;obtain⟨p6,a6,e6⟩:=azP;obtain⟨a,rfl,g,ad⟩:=V;obtain⟨i3,o,R,s⟩:=ai2;have C:=hR a rfl;have m:(a.add j).block=a.block:=qw a j;have Q:=eJ g;have jR:∀{w},Rl S w0 w->w.cell? (a.add j)=some (.int .i64 nm):=λ{w} h=>(fq (by rw[m];exact(H.rl _ _ _ h).1 a.block (.inr C))).trans g
 refine bE H.cmp (d:=22) (v:=.int .i64 j) (es:=#[]) (by show(22:Nat)<_;omega) e0 rfl rfl (λw _=>eC (x:=.tmp 20) B) (λw _=>bj _) (λT1 z1 v1 r1=> ?_) w0 (H.eN _ _);refine bE H.cmp (d:=23) (v:=.pointer (some (a.add j))) (es:=#[]) (by show(23:Nat)<_;omega) e1 rfl rfl (λw _=>alf oM.u31 o R (x:=.tmp 18) (y:=.tmp 20) ((r1 18 (by decide)).trans W) ((r1 20 (by decide)).trans B) hj) (λw _=>bj _) (λT2 z2 v2 r2=> ?_);refine bE H.cmp (d:=24) (v:=.int .i64 nm) (es:=#[⟨.cell (a.add j),false,false⟩]) (by show(24:Nat)<_;omega) e2 rfl rfl (λw P=>aiU underlying3 rfl (x:=.tmp 23) v2 (jR P)) (λw P=>atp (by rw[m];exact C) (aE Q (H.rl _ _ _ P).2.1)) (λT3 z3 v3 r3=> ?_);refine lh H (d:=10) (ob:=.cells #[.int .i64 0] 3) (by show(10:Nat)<_;omega) e3 rfl rfl (λw=>nW o s) (λe ha T4 z4 v4 r4=> ?_);refine lh H (d:=11) (ob:=.cells #[.int .i64 0] 3) (by show(11:Nat)<_;omega) e4 rfl rfl (λw=>nW o s) (λl hb J z5 v5 L w1 aW=> ?_);have s1:(e.alloc (.cells #[.int .i64 0] 3)).heap.size=e.heap.size+1:=oS _ _;have s2:(l.alloc (.cells #[.int .i64 0] 3)).heap.size=l.heap.size+1:=oS _ _;have ka:=(Kp.rl H ha).trans (Kp.alloc S Rr e (.cells #[.int .i64 0] 3));have X:=Kp.rl H hb;have kc:=Kp.alloc (SN S e (e.alloc (.cells #[.int .i64 0] 3))) Rr l (.cells #[.int .i64 0] 3);have I:=Kp.rl H aW;have g0:=(Kp.rl H ha).size;have g1:=X.size;have g2:=I.size;have i:=kc.mono _ (jP S e (.cells #[.int .i64 0] 3));have f:=jP (SN S e (e.alloc (.cells #[.int .i64 0] 3))) l (.cells #[.int .i64 0] 3);have ci:w1.heap[e.heap.size]?=some (.cells #[.int .i64 0] 3):=by
  rw[((X.trans kc).trans I).keep e.heap.size (by omega) (.inl (jP S e _)),ju]
 have cn:w1.heap[l.heap.size]?=some (.cells #[.int .i64 0] 3):=by
  rw[I.keep l.heap.size (by omega) (.inl f),ju]
 have D:J.getD 10 undef=.pointer (some ⟨e.heap.size,0,none⟩):=by rw[L 10 (by decide),v4]
 have M:J.getD 22 undef=.int .i64 j:=by rw[L 22 (by decide),r4 22 (by decide),r3 22 (by decide),r2 22 (by decide),v1]
 have U:J.getD 24 undef=.int .i64 nm:=by rw[L 24 (by decide),r4 24 (by decide),v3]
 refine aq6 H e5 D M i ci (λw2 _ r z6 o6 a7=> ?_);have a8:w2.heap[l.heap.size]?=some (.cells #[.int .i64 0] 3):=(r _ (by omega) (.inl f)).trans cn;refine aq6 H e6 v5 U f a8 (λw3 _ z z7 o7 Z=> ?_);refine fQ H.cmp (λw4 N=> ?_) w3 (H.eN _ _);have q:=Kp.rl H N;have p:=((ka.trans X).trans kc).trans I;have aa:=p.size;refine K J _ w4 e.heap.size l.heap.size (by omega) (λt q1 q2 q3 q4 q5=> ?_) D v5 ⟨λb a9 h=> ?_, ?_, ?_,p.mono,λb h=>(p.new b h).imp id λh=>⟨h.1, ?_⟩⟩ i f g0 (by omega) ?_ ?_
 .rw[L t q5,r4 t q4,r3 t q3,r2 t q2,r1 t q1]
 .have O:=h.imp (p.mono b) id;rw[q.keep b (by omega) O,z b (by omega) O,r b (by omega) O,p.keep b a9 h]
 .have:=q.size;omega
 .rw[q.os,o7,o6,p.os]
 .have:=q.size;omega
 .rw[q.keep _ (by omega) (.inl i),z _ (by omega) (.inl i),a7]
 .rw[q.keep _ (by omega) (.inl f),Z]
end
end
section
open Go.Conc Go.ConcN Go.RowKit
open Go.ConcR (KK wgBlock WgAt stA smA rd wr mk Payload DC0)
structure Mx where
 wE:World
 Wg:Nat
 C:Nat
 n2:Nat
 Rg:Nat->Prop
 key:Int
 A:Option Addr
 n:Nat
 c:Nat
 l:List fS
 A2:Option Addr
 c2:Nat
 cZ:List Int
 bk:Nat
 bp:Nat
 ba:Nat
 sv:Nat->Value
 Z:Nat
 V:aq
structure Mx.Ok (X:Mx):Prop where
 hN:gN<=X.wE.heap.size
 gl:∀g∈gL,X.Rg g
 k1:1<=X.key
 k2:X.key<=99
 hl:X.l.length=X.n
 hc:X.n<=X.c
 hcm:(X.c:Int)<=9223372036854775807
 gr:∀g∈gL,dn X.wE g
 rd:RdP X.wE X.A 0 X.l
 rgp:RgP X.Rg X.wE X.A X.l
 al:∀a,X.A=some a->0<X.l.length->X.Rg a.block
 al2:∀a,X.A2=some a->0<X.n2->X.Rg a.block
 nm:∀i nm,X.cZ[i]?=some nm->aij X.wE X.A2 i nm
 nn:X.cZ.length=X.n2
 n2m:(X.n2:Int)<=2147483647
 cW:X.C≠X.Wg
 vr:∀b,X.Rg b->X.V b
structure Mx.At (X:Mx) (R:aq) (w:World):Prop where
 keep:∀b,X.V b->w.heap[b]?=X.wE.heap[b]?
 sz:X.wE.heap.size<=w.heap.size
 os:w.ou=X.wE.ou
 rows:∀b,X.V b->R b
 rk:R X.bk/\w.heap[X.bk]?=some (.cells #[.int .i64 X.key] 3)
 rp:R X.bp/\w.heap[X.bp]?=some (.cells #[.slice X.A X.n X.c] 23)
 ra:R X.ba/\w.heap[X.ba]?=some (.cells #[.slice (some ⟨X.C,0,none⟩) X.n2 X.n2] 160)
 rlt:∀b,R b->b<w.heap.size
 rC:¬R X.C
 rW:¬R X.Wg
 ltC:X.C<w.heap.size
 ltW:X.Wg<w.heap.size
section
variable {X:Mx} {R S S':aq} {w w':World} {es:Array Event}
def Mx.At.move(h:X.At R w)(a:∀b,R b->w'.heap[b]?=w.heap[b]?)(d:w.heap.size<=w'.heap.size)(e:w'.ou=w.ou):X.At R w':=
 ⟨λb c=>(a b (h.rows b c)).trans (h.keep b c),am h.sz d,e.trans h.os,h.rows,⟨h.rk.1,(a _ h.rk.1).trans h.rk.2⟩,⟨h.rp.1,(a _ h.rp.1).trans h.rp.2⟩,⟨h.ra.1,(a _ h.ra.1).trans h.ra.2⟩,
  λb c=>aE (h.rlt b c) d,h.rC,h.rW,aE h.ltC d,aE h.ltW d⟩
def Mx.At.grow(h:X.At R w)(c:∀b,S b->b<w.heap.size/\b≠X.C/\b≠X.Wg):X.At (λb=>S b\/R b) w:=
 ⟨h.keep,h.sz,h.os,λb a=>.inr (h.rows b a),⟨.inr h.rk.1,h.rk.2⟩,⟨.inr h.rp.1,h.rp.2⟩,⟨.inr h.ra.1,h.ra.2⟩,λb a=>a.elim (λx=>(c b x).1) (h.rlt b),
  λa=>a.elim (λx=>(c _ x).2.1 rfl) h.rC,λa=>a.elim (λx=>(c _ x).2.2 rfl) h.rW,h.ltC,h.ltW⟩
def Mx.At.rgp(a:X.Ok)(h:X.At R w):RgP X.Rg w X.A X.l:=a.rgp.move a.al λb c=>h.keep b (a.vr b c)
def Mx.At.gr(a:X.Ok)(h:X.At R w):∀g∈gL,dn w g:=λg b=>by
 obtain⟨c,t,z,e⟩:=a.gr g b;exact⟨c,t,z,(h.keep g (a.vr g (a.gl g b))).trans e⟩
def Mx.At.rd(a:X.Ok)(h:X.At R w):RdP w X.A 0 X.l:=a.rd.mask a.rgp a.al λ_ _ c b _=>(fq (h.keep _ (a.vr _ b))).trans c
def Mx.At.nm(b:X.Ok)(h:X.At R w){nm:Int}(d:X.cZ[i]?=some nm):aij w X.A2 i nm:=by
 obtain⟨a,e,f,c⟩:=b.nm i nm d;exact⟨a,e,(fq (by rw[qw];exact h.keep _ (b.vr _ (b.al2 a e (by have:=(jn.1 d).1;have:=b.nn;omega))))).trans f,c⟩
abbrev Mx.Rl(X:Mx)(R:aq):aq->World->World->Prop:=iN dP.tWg X.Wg X.C (2*X.n2) R noC
abbrev Mx.Gr(X:Mx)(R:aq):aq->aq->World->World->Array Event->Prop:=Gua X.Wg X.C (2*X.n2) R noC
def Mx.lj(X:Mx)(R:aq):nD (X.Rl R) R:=⟨λS w=>iN.refl _ _ _ _,λ_ _ _ _=>iN.trans,λ_ _ _ h=>⟨h.keep,h.size,h.os⟩⟩
structure Mx.Inv (X:Mx) (R S:aq) (w:World):Prop where
 s:∀b,S b->b<w.heap.size/\b≠X.C/\b≠X.Wg
 at_:X.At R w
 live:WgLive dP.tWg X.Wg w
 sr:∀b,R b->¬S b
def Mx.Inv.rely(h:X.Inv R S w)(a:X.Rl R S w w'):X.Inv R S w':=
 ⟨λb c=>⟨aE (h.s b c).1 a.size,(h.s b c).2⟩,h.at_.move (λb c=>a.keep b (.inr c)) a.size a.os,a.live h.live,h.sr⟩
def Mx.step(h:X.Inv R S w)(g:nC R S S' w w' es):X.Gr R S S' w w' es/\X.Inv R S' w':=by
 obtain⟨k,l,p,rfl,A⟩:=g;have o:w'.heap[X.C]?=w.heap[X.C]?:=k _ h.at_.ltC λd=>(h.s _ d).2.1 rfl;have r:w'.heap[X.Wg]?=w.heap[X.Wg]?:=k _ h.at_.ltW λd=>(h.s _ d).2.2 rfl;refine⟨⟨λb c z _=>k b c z,l,p,λ⟨s,a,b⟩=>⟨s,o.trans a,b⟩,λi _=>tI o i,λb c=>.inl c,λb c=>c,λe D=> ?_⟩, ?_⟩
 .obtain⟨B,m,C⟩:=A e D;refine⟨λx u=>(B x u).elim .inl λy=>.inr (.inr y),λj=> ?_,λj=> ?_,λj=> ?_,C⟩
  .rcases m _ j with⟨f,e⟩|e<;>cases e
  .rcases m _ j with⟨f,e⟩|e<;>cases e
  .rcases m _ j with⟨f,e⟩|e<;>cases e
 .refine⟨λb c=> ?_,h.at_.move (λb c=>k b (h.at_.rlt b c) (h.sr b c)) l p, ?_,λb c d=> ?_⟩
  .rcases c with c|⟨c,n⟩
   .exact⟨aE (h.s b c).1 l,(h.s b c).2⟩
   .have F:=h.at_.ltC;have E:=h.at_.ltW;exact⟨n,by omega,by omega⟩
  .obtain⟨v,q,t⟩:=h.live;exact⟨v,q,r.trans t⟩
  .rcases d with d|⟨d,_⟩
   .exact h.sr b c d
   .have:=h.at_.rlt b c;omega
def Mx.lift(h:bB prog true (X.Rl R) (nC R) Stop S g w)(c:X.Inv R S w):bB prog true (X.Rl R) (X.Gr R) (λS g w=>Stop S g w/\X.Inv R S w) S g w:=
 bB.inv (Rl:=X.Rl R) (Gr:=nC R) (Gr2:=X.Gr R) (Stop:=Stop) (Inv:=X.Inv R) (λ_ _ _ a b=>a.rely b) (λ_ _ _ _ _ a b=>Mx.step a b) (λ_ _ _ a b=>⟨a,b⟩) h c
def alg(t:Nat):Bool:=t ==0||t ==1||t ==2||t ==6||t ==7||t ==17||oT t
structure Mx.Sl (X:Mx) (T:Array Value) (j:Nat):Prop where
 z:T.size=X.Z
 zz:45<=X.Z
 s3:T.getD 3 undef=.pointer (some ⟨X.bk,0,none⟩)
 s4:T.getD 4 undef=.pointer (some ⟨X.bp,0,none⟩)
 s8:T.getD 8 undef=.pointer (some ⟨X.ba,0,none⟩)
 s9:T.getD 9 undef=.pointer (some ⟨X.Wg,0,none⟩)
 s18:T.getD 18 undef=.slice X.A2 X.n2 X.c2
 s19:T.getD 19 undef=.int .i64 X.n2
 fR:T.getD 20 undef=.int .i64 j
 sv:∀t,alg t=true->T.getD t undef=X.sv t
def wrM(t:Nat):Bool:=t ==10||t ==11||(21<=t&&t<=28)
def awe{t:Nat}(h:alg t=true):wrM t=false:=by
 simp only[alg,oT,qs,mT,ql] at h;simp only[wrM,vj,jp,uU,decide_eq_false_iff_not];omega
def Mx.Sl.keep{T T':Array Value}(h:X.Sl T j)(c:T'.size=X.Z)(a:∀t,wrM t=false->T'.getD t undef=T.getD t undef):X.Sl T' j:=
 ⟨c,h.zz,(a 3 rfl).trans h.s3,(a 4 rfl).trans h.s4,(a 8 rfl).trans h.s8,(a 9 rfl).trans h.s9,(a 18 rfl).trans h.s18,(a 19 rfl).trans h.s19,(a 20 rfl).trans h.fR,λt b=>(a t (awe b)).trans (h.sv t b)⟩
end
section
variable {P:Program} {main:Bool} {Rl:aq->World->World->Prop} {Gr:aq->aq->World->World->Array Event->Prop} {St:aq->Goroutine->World->Prop} {S Rr:aq} {w0:World} {f h:FuncId} {T:Array Value} {k:List Item} {xs bs:List Frame}
def ai3 (C:Cmp Rl Gr Rr)    {args:Array Value} (a:V[i]?=some o) (c:o.guard=none)
  (b:∀w,(execOp (FQ f T (.inRegion V (i::rest)::k)).eval o).runT P w #[]=(.ok (.enter h args) w,#[]))
  (d:∀w,Rl S w0 w->bB P main Rl Gr St S (Gl (Frame.enter P h args .normal::FQ f T (.inRegion V (i::rest)::k)::xs) bs) w):∀w,Rl S w0 w->bB P main Rl Gr St S (Gl (FQ f T (.inRegion V (i::rest)::k)::xs) bs) w:=
 bB.still C (l2:=Frame.enter P h args .normal::FQ f T (.inRegion V (i::rest)::k)::xs) (es:=λ_=>seen P f #[]) (λw _=>aiV rfl rfl rfl rfl a c (b w)) (λw _=>bj _) d
end
def alh{args:Array Value} :(callFunc dP.add args).runT prog w #[]=(.ok (.enter dP.add args) w,#[]):=by
 have h:=oU.f_add;have b:¬(Go.Conc.Lib.addFn dP).name= "runtime.NumGoroutine" :=by decide
 have a:¬(Go.Conc.Lib.addFn dP).body=none:=λe=>by cases e
 unfold callFunc;simp[h,b,a]
def ai4{args:Array Value} :(callFunc dP.wait args).runT prog w #[]=(.ok (.enter dP.wait args) w,#[]):=by
 have h:=oU.f_wait;have b:¬(Go.Conc.Lib.waitFn dP).name= "runtime.NumGoroutine" :=by decide
 have a:¬(Go.Conc.Lib.waitFn dP).body=none:=λe=>by cases e
 unfold callFunc;simp[h,b,a]
noncomputable abbrev kM:List Item:=[.code (.seq (.region 9 iT false) cB)]
noncomputable abbrev kB:List Item:=.inLoop iz :: .inBlock 0::kM
noncomputable abbrev kA:List Item:=.code (.region 7 kv false) :: .inBlock 1 :: .code (.region 8 aiZ false)::kB
section
variable {X:Mx} {R:aq} {w:World} {T:Array Value} {j:Nat} {xs bs:List Frame}
def StA(X:Mx)(j:Nat)(xs bs:List Frame)(S:aq)(g:Goroutine)(w:World):Prop:=
 ∃(T':Array Value) (b a:Nat) (nm:Int),X.cZ[j]?=some nm/\X.Sl T' j/\T'.getD 10 undef=.pointer (some ⟨b,0,none⟩)/\T'.getD 11 undef=.pointer (some ⟨a,0,none⟩)/\S b/\S a/\w.heap[b]?=some (.cells #[.int .i64 j] 3)/\w.heap[a]?=some (.cells #[.int .i64 nm] 3)/\
  g=Gl (Frame.enter prog dP.add #[.pointer (some ⟨X.Wg,0,none⟩),.int .i64 1] .normal::FQ bX T' (.inRegion oW [0]::kA)::xs) bs
def StW(X:Mx)(xs bs:List Frame)(S:aq)(g:Goroutine)(_:World):Prop:=
 ∃T':Array Value,X.Sl T' X.n2/\S=(λ_=>False)/\g=Gl (Frame.enter prog dP.wait #[.pointer (some ⟨X.Wg,0,none⟩)] .normal::FQ bX T' (.inRegion iT [0]::[.code cB])::xs) bs
def aog(n:X.Ok)(g:X.Sl T j)(v:j<X.n2)(r:X.At R w):bB prog true (X.Rl R) (nC R) (StA X j xs bs) (λ_=>False) (Gl (FQ bX T (.code iz::kB)::xs) bs) w:=by
 have H:=X.lj R;obtain⟨nm,m⟩:∃nm,X.cZ[j]?=some nm:=⟨_,io (by rw[n.nn];exact v)⟩;rw[afV];refine dJ H.cmp (eR H.cmp (l:=[0]) rfl λwa x=>amC H g.zz g.z g.fR g.s19 λM D K i=> ?_) w (H.eN _ _);rw[du v] at i;refine dJ H.cmp (aa1 H.cmp i (ame H.cmp (dJ H.cmp (ad8 H.cmp (dJ H.cmp (eR H.cmp (l:=[0,1,2,3,4,5,6]) rfl λP q=> ?_))))));have e:X.Sl M j:=g.keep D λt d=>K t (by rintro rfl;cases d);have I:X.At R P:=(r.move (λb f=>x.keep b (.inr f)) x.size x.os).move (λb f=>q.keep b (.inr f)) q.size q.os;refine atq H g.zz D e.s18 e.fR v (I.nm n m) (λa A=>I.rows _ (n.vr _ (n.al2 a A (by omega)))) λo S2 Z G B N V z u kp C F lb J S Q=> ?_;have k:X.Sl o j:=e.keep N λt d=>V t (by rintro rfl;cases d) (by rintro rfl;cases d) (by rintro rfl;cases d) (by rintro rfl;cases d) (by rintro rfl;cases d);obtain⟨L,U,O⟩:=ax6;refine dJ H.cmp (eR H.cmp (l:=[0]) rfl (ai3 H.cmp (h:=dP.add) (args:=#[.pointer (some ⟨X.Wg,0,none⟩),.int .i64 1]) O rfl (λw=> ?_) λw5 y=>.stop λw6 p=> ?_)) Z (H.eN _ _)
 .have W:Array.map (Frame.eval (FQ bX o (.inRegion oW [0]::kA))) #[.tmp 9,.const (.int .i64 1)]=#[.pointer (some ⟨X.Wg,0,none⟩),.int .i64 1]:=by
   rw[<-k.s9];simp[Frame.eval]
  have Y:execOp (Frame.eval (FQ bX o (.inRegion oW [0]::kA))) ⟨some 25,.call ⟨.value (.func dP.add),#[.tmp 9,.const (.int .i64 1)],#[dP.tWg,3]⟩,0,L,U,none⟩=callFunc dP.add #[.pointer (some ⟨X.Wg,0,none⟩),.int .i64 1]:=by
   simp only[execOp,resolve];rw[W];simp[Deferred.ofValue,invoke,Frame.eval];try rfl
  exact(ef (λs=>Sem.runT prog s w #[]) Y).trans alh
 .have E:=H.tr _ _ _ _ y p;exact⟨o,G,B,nm,m,k,z,u,C,F,(E.keep G (.inl C)).trans S,(E.keep B (.inl F)).trans Q,rfl⟩
def aoi(d:X.Sl T X.n2):bB prog true (X.Rl R) (nC R) (StW X xs bs) (λ_=>False) (Gl (FQ bX T (.code iz::kB)::xs) bs) w:=by
 have H:=X.lj R;rw[afV];refine dJ H.cmp (eR H.cmp (l:=[0]) rfl λv u=>amC H d.zz d.z d.fR d.s19 λe p f a=> ?_) w (H.eN _ _);rw[bv (tJ _)] at a;have b:X.Sl e X.n2:=d.keep p λt j=>f t (by rintro rfl;cases j);obtain⟨n,i,k⟩:=ax7;refine dJ H.cmp (aa1 H.cmp a (amg H.cmp (k2:=kM) rfl (dJ H.cmp (eR H.cmp (l:=[0]) rfl (ai3 H.cmp (h:=dP.wait) (args:=#[.pointer (some ⟨X.Wg,0,none⟩)]) k rfl (λw=> ?_) λx q=>.stop λr g=>⟨e,b,rfl,rfl⟩)))));have m:Array.map (Frame.eval (FQ bX e (.inRegion iT [0]::[.code cB]))) #[.tmp 9]=#[.pointer (some ⟨X.Wg,0,none⟩)]:=by
  rw[<-b.s9];simp[Frame.eval]
 have o:execOp (Frame.eval (FQ bX e (.inRegion iT [0]::[.code cB]))) ⟨some 28,.call ⟨.value (.func dP.wait),#[.tmp 9],#[dP.tWg]⟩,0,n,i,none⟩=callFunc dP.wait #[.pointer (some ⟨X.Wg,0,none⟩)]:=by
  simp only[execOp,resolve];rw[m];simp[Deferred.ofValue,invoke,Frame.eval];try rfl
 exact(ef (λs=>Sem.runT prog s w #[]) o).trans ai4
end
end
section
open Go.Conc Go.ConcN Go.RowKit Go.Conc.Lib Go.ConcR.Gen Go.ConcN.Gen
open Go.ConcR (KK wgBlock WgAt stA smA rd wr mk Payload DC0)
section
variable {P:Program} {R:World->World->Prop} {Q:World->Prop} {St A:Goroutine->World->Prop} {ty:TypeId} {Wg:Nat}
 (hQ:∀w w1,Q w->R w w1->Q w1) (hW:∀(w:World) (a:Addr) v,a.block=Wg->Q w->Q (w.setCell a v))
include hQ
theorem amD(a:Q w)(h:WKe P R Wg St g w):WKe P R Wg (λg w=>St g w/\Q w) g w:=abl (λ_ _ x=>iR hQ x.2 x.1) (iR hQ a h)
theorem atr(b:Q w)(h:WW4 P R ty Wg St g w):WW4 P R ty Wg (λg w=>St g w/\Q w) g w:=
 ⟨h.1,λa=>let⟨c,e,k⟩:=h.2 a;⟨c,e,eF (λ_ _ x=>amD hQ x.2 x.1) (ed hQ b k)⟩⟩
include hW
theorem att(b:Q w)(h:WW3 P R ty Wg St g w):WW3 P R ty Wg (λg w=>St g w/\Q w) g w:=
 ⟨h.1,h.2.1,h.2.2.1,λa=>let⟨c,e,k⟩:=h.2.2.2 a;⟨c,e,eF (λ_ _ x=>atr hQ x.2 x.1) (ed hQ (hW _ _ _ rfl b) k)⟩⟩
theorem atu{v:Nat}(d:Q w)(h:WW2 P R ty Wg A St v g w):WW2 P R ty Wg (λg w=>A g w/\Q w) (λg w=>St g w/\Q w) v g w:=
 ⟨h.1,λf i c=>⟨λe=>let⟨b,a,k⟩:=(h.2 f i c).1 e;⟨b,a,eF (λ_ _ x=>abl (λ_ _ x=>att hQ hW x.2 x.1) (iR hQ x.2 x.1)) (ed hQ (hW _ _ _ rfl d) k)⟩,
  λe=>let⟨b,a,k⟩:=(h.2 f i c).2 e;⟨b,a,ed hQ d k⟩⟩⟩
theorem atv(a:Q w)(h:WW1 P R ty Wg A St g w):WW1 P R ty Wg (λg w=>A g w/\Q w) (λg w=>St g w/\Q w) g w:=
 ⟨h.1,λv d c=>let⟨i,e,f,b⟩:=h.2 v d c;⟨i,e,λe=>eF (λ_ _ x=>amD hQ x.2 x.1) (ed hQ a (f e)),λe=>eF (λ_ _ x=>atu hQ hW x.2 x.1) (ed hQ a (b e))⟩⟩
end
section
variable (X:Mx) (xs bs:List Frame)
noncomputable abbrev frW(T:Array Value):Frame:=(FQ bX #[] []).at ⟨T,[]⟩ (.inRegion iT [0]::[.code cB])
def acE(R _S:aq)(g:Goroutine)(w:World):Prop:=X.At R w/\∃T,X.Sl T X.n2/\aiR dP X.Wg (frW T) (xs++bs) g w
def ax9(R S:aq)(g:Goroutine)(w:World):Prop:=
 ∃T,X.Sl T X.n2/\Goes prog true (RM dP.tWg X.Wg X.C X.n2 R S) DC0 (λg w=>(g=Gl (FQ bX T (.inRegion iT []::[.code cB])::xs) bs/\WgLive dP.tWg X.Wg w)/\X.At R w) 20 g w
end
section
variable {X:Mx} {xs bs:List Frame} {R S:aq} {w w1:World} {T:Array Value}
def Mx.At.rely(h:X.At R w)(a:iN dP.tWg X.Wg X.C (2*X.n2) R noC S w w1):X.At R w1:=h.move (λb c=>a.keep b (.inr c)) a.size a.os
def Mx.At.wg(h:X.At R w)(a:Addr)(v:Value)(d:a.block=X.Wg):X.At R (w.setCell a v):=
 h.move (λb c=>bc _ _ _ (λe=>h.rW (by rw[<-d,e];exact c))) (mc (iS _ _ _).symm) rfl
def atw(a:X.Sl T X.n2):∃T',X.Sl T' X.n2/\G ((FQ bX #[] []).at ((⟨T,[]⟩:Act).put ((iT[0]?).bind (·.dst)) (.tuple #[])) (.inRegion iT []::[.code cB])) (xs++bs)=Gl (FQ bX T' (.inRegion iT []::[.code cB])::xs) bs:=by
 obtain⟨d,e,c⟩:=ax7;refine⟨T.setIfInBounds 28 (.tuple #[]),a.keep (by simpa using a.z) λt b=> ?_,by rw[c];rfl⟩;rw[aD (by rw[a.z];exact aE (by decide) a.zz),bd (by rintro rfl;cases b)]
def atx(h:acE X xs bs R S g w):∃m,GP prog dP.tWg X.Wg X.C X.n2 R S (MW1 prog dP.tWg X.Wg X.C X.n2 R S (acE X xs bs) (ax9 X xs bs)) m g w:=by
 obtain⟨c,T,d,i⟩:=h;have j:=ala (R:=RM dP.tWg X.Wg X.C X.n2 R S) (S:=λg w=>g=G ((FQ bX #[] []).at ((⟨T,[]⟩:Act).put ((iT[0]?).bind (·.dst)) (.tuple #[])) (.inRegion iT []::[.code cB])) (xs++bs)/\WgLive dP.tWg X.Wg w) oU (λ_ _ h r=>r.live h) (λ_ h=>⟨rfl,h⟩) g w i;have f:=eF (λg w x=>atv (Q:=X.At R) (λ_ _ h r=>h.rely r) (λ_ a v e h=>h.wg a v e) x.2 x.1) (ed (Q:=X.At R) (λ_ _ h r=>h.rely r) c j);obtain⟨T',b,k⟩:=atw (xs:=xs) (bs:=bs) d;refine⟨30,oV (λ_ _ x=>axT (λg w y=>⟨T',b,eF (λg w z=>⟨⟨z.1.1.trans k,z.1.2⟩,z.2⟩) y⟩) (λg w y=>⟨y.2,T,d,y.1⟩) x) f⟩
def ali:Frame.enter prog dP.wait #[.pointer (some ⟨X.Wg,0,none⟩)] .normal=(base dP.wait).at ⟨#[.pointer (some ⟨X.Wg,0,none⟩)]++(List.replicate 83 undef).toArray,[]⟩ [.code (body_wait dP)]:=by
 rw[uL];have h:=enter_at (c:=body_wait dP) #[.pointer (some ⟨X.Wg,0,none⟩)] oU.f_wait rfl;have e:(Go.Conc.Lib.waitFn dP).ntmps-(#[.pointer (some ⟨X.Wg,0,none⟩)]:Array Value).size=83:=rfl;rw[e] at h;exact h
def aoj:Frame.enter prog dP.add #[.pointer (some ⟨X.Wg,0,none⟩),.int .i64 1] .normal=(base dP.add).at ⟨#[.pointer (some ⟨X.Wg,0,none⟩),.int .i64 1]++(List.replicate 115 undef).toArray,[]⟩ [.code (body_add dP)]:=by
 rw[uL];have h:=enter_at (c:=body_add dP) #[.pointer (some ⟨X.Wg,0,none⟩),.int .i64 1] oU.f_add rfl;have e:(Go.Conc.Lib.addFn dP).ntmps-(#[.pointer (some ⟨X.Wg,0,none⟩),.int .i64 1]:Array Value).size=115:=rfl;rw[e] at h;exact h
def ahb(e:X.Sl T X.n2)(a:X.Inv R S w) :
  bB prog true (X.Rl R) (X.Gr R) (λS g w=>MKd prog dP.tWg X.Wg X.C X.n2 R S (acE X xs bs) g w) S (Gl (Frame.enter prog dP.wait #[.pointer (some ⟨X.Wg,0,none⟩)] .normal::FQ bX T (.inRegion iT [0]::[.code cB])::xs) bs) w:=by
 rw[ali];have d:=ak9 (b₀:=FQ bX #[] []) (a₀:=⟨T,[]⟩) (ops₀:=iT) (i₀:=0) (rest₀:=[]) (k₀:=[.code cB]) (cs:=xs++bs) (R:=RM dP.tWg X.Wg X.C X.n2 R S) oU (λ_ _ h r=>r.live h) w a.live;have c:=eF (λg w x=>iR (Q:=X.At R) (λ_ _ h r=>h.rely r) x.2 x.1) (ed (Q:=X.At R) (λ_ _ h r=>h.rely r) a.at_ d);have b:∀g w,(aiR dP X.Wg (frW T) (xs++bs) g w/\X.At R w)->acE X xs bs R S g w:=λg w y=>⟨y.2,T,e,y.1⟩;exact bB.aaW (R:=RM dP.tWg X.Wg X.C X.n2 R S) (λ_ _ h=>h) (λ_ _ _ h=>awb h) (λ_ _ h=>axU b h) c
end
end
section
open Go.Conc Go.ConcN Go.RowKit
open Go.ConcR (KK wgBlock WgAt stA smA rd wr mk Payload DC0)
section
variable {X:Mx} {R S:aq} {w:World} {T:Array Value} {j:Nat} {xs bs:List Frame} {bi bn:Nat} {nm:Int}
noncomputable abbrev kG:List Item:=.inBlock 1 :: .code (.region 8 aiZ false)::kB
abbrev Mx.lX(X:Mx)(bi bn:Nat):Array Value:=#[.pointer (some ⟨X.Wg,0,none⟩),.pointer (some ⟨X.bk,0,none⟩),.pointer (some ⟨X.bp,0,none⟩),.pointer (some ⟨bn,0,none⟩),.pointer (some ⟨X.ba,0,none⟩),.pointer (some ⟨bi,0,none⟩)]
def aok(b:X.Sl T j)(k:T.getD 10 undef=.pointer (some ⟨bi,0,none⟩))(m:T.getD 11 undef=.pointer (some ⟨bn,0,none⟩))(y:S bi)(q:S bn)(s:w.heap[bi]?=some (.cells #[.int .i64 j] 3))(o:w.heap[bn]?=some (.cells #[.int .i64 nm] 3)) :
  bB prog true (X.Rl R) (nC R) (λz g f=>z=S/\f.heap[bi]?=some (.cells #[.int .i64 j] 3)/\f.heap[bn]?=some (.cells #[.int .i64 nm] 3)/\∃T',X.Sl T' j/\T'.getD 26 undef=.func (.func nCl) #[] (X.lX bi bn)/\g=Gl (FQ bX T' (.inRegion kv [1]::kG)::xs) bs) S
   (Gl (FQ bX T (.inRegion oW []::kA)::xs) bs) w:=by
 have H:=X.lj R;obtain⟨p,a,e⟩:=azQ;refine fQ H.cmp (eR H.cmp (l:=[0,1]) rfl (bE H.cmp (d:=26) (v:=.func (.func nCl) #[] (X.lX bi bn)) (es:=#[]) (by rw[b.z];exact aE (by decide) b.zz) e rfl rfl (λw _=>ai1 ?_) (λw _=>bj _) λx A C r f B=>.stop λD i=> ?_)) w (H.eN _ _)
 .have:∀T:Array Value,Array.map (Frame.eval (FQ bX T (.inRegion kv [0,1]::kG))) #[.tmp 9,.tmp 3,.tmp 4,.tmp 11,.tmp 8,.tmp 10]=#[T.getD 9 undef,T.getD 3 undef,T.getD 4 undef,T.getD 11 undef,T.getD 8 undef,T.getD 10 undef]:=λT=>by simp[Frame.eval]
  rw[this,b.s9,b.s3,b.s4,b.s8,k,m]
 .have n:=H.tr _ _ _ _ B i;exact⟨rfl,(n.keep bi (.inl y)).trans s,(n.keep bn (.inl q)).trans o,x,b.keep (A.trans b.z) λt u=>r t (by rintro rfl;cases u),C,rfl⟩
def aol(k:X.Ok)(b:X.Sl T j)(E:j<X.n2) :
  bB prog true (X.Rl R) (nC R) (λu g _=>u=S/\∃T',X.Sl T' (j+1)/\g=Gl (FQ bX T' (.code iz::kB)::xs) bs) S
   (Gl (FQ bX T (.inRegion kv []::kG)::xs) bs) w:=by
 have H:=X.lj R;obtain⟨D,C,i⟩:=azS;obtain⟨B,F,s⟩:=azT;have p:=k.n2m;refine fQ H.cmp (aib H.cmp (eR H.cmp (l:=[0,1]) rfl (bE H.cmp (d:=27) (v:=.int .i64 ((j:Int)+1)) (es:=#[]) (by rw[b.z];exact aE (by decide) b.zz) i rfl rfl (λw _=>atk (x:=.tmp 20) b.fR rfl (by omega) (by omega)) (λw _=>bj _) λo f y m=>
  bE H.cmp (d:=20) (v:=.int .i64 ((j:Int)+1)) (es:=#[]) (by rw[f,b.z];exact aE (by decide) b.zz) s rfl rfl (λw _=>eC (x:=.tmp 27) y) (λw _=>bj _) λz r n c=>
   fQ H.cmp (apR H.cmp λA G=>.stop λI q=>⟨rfl,z, ?_,rfl⟩)))) w (H.eN _ _)
 have a:=b.keep (T':=o) (f.trans b.z) λt e=>m t (by rintro rfl;cases e);refine⟨r.trans a.z,a.zz,(c 3 (by decide)).trans a.s3,(c 4 (by decide)).trans a.s4,(c 8 (by decide)).trans a.s8,(c 9 (by decide)).trans a.s9,(c 18 (by decide)).trans a.s18,(c 19 (by decide)).trans a.s19,by rw[n];rfl,λt e=>(c t (by rintro rfl;cases e)).trans (a.sv t e)⟩
def aeD{val:Nat->Value}{A:aq->aq->Goroutine->World->Prop}{r:Nat}(h:bB prog true (X.Rl R) (X.Gr R) (λS g w=>(S=λ_=>False)/\sS prog dP.tWg X.Wg X.C X.n2 val A r R g w) (λ_=>False) g w):sS prog dP.tWg X.Wg X.C X.n2 val A r R g w:=by
 cases r with
 |zero=>exact bB.bind (X.lj _).eN (X.lj _).tr h λS g w ⟨hS,h⟩=>by subst hS;exact h
 |succ r=>exact bB.bind (X.lj _).eN (X.lj _).tr h λS g w ⟨hS,h⟩=>by subst hS;exact h
def acF(f:X.Ok){x:Int->List fS->Int->ByteArray×Bool}(O:dN x)(u:∀k nm,x k [] nm=(⟨#[]⟩,false)){val:Nat->Value}(i:∀B nm,X.cZ[B]?=some nm->val (2*B)=.string (x X.key X.l nm).1/\val (2*B+1)=.bool (x X.key X.l nm).2) :
  ∀(r j:Nat) (R:aq) (T:Array Value) (w:World),j+r=X.n2->X.At R w->WgLive dP.tWg X.Wg w->X.Sl T j->sS prog dP.tWg X.Wg X.C X.n2 val (acE X xs bs) r R (Gl (FQ bX T (.code iz::kB)::xs) bs) w
 |0,j,R,T,w,hj,hat,o,hs=>by
  obtain rfl:j=X.n2:=hj;have M:X.Inv R (λ_=>False) w:=⟨λb h=>h.elim,hat,o,λb _ h=>h⟩;exact bB.bind (X.lj R).eN (X.lj R).tr (Mx.lift (aoi hs) M) λS g w ⟨⟨T',c,hS,hg⟩,d⟩=>by
   rw[hg];exact ahb c d
 |r+1,j,R,T,w,hj,hat,o,hs=>by
  have l:j<X.n2:=by omega
  have M:X.Inv R (λ_=>False) w:=⟨λb h=>h.elim,hat,o,λb _ h=>h⟩;have F:X.n2-(r+1)=j:=by omega
  show bB prog true (X.Rl R) (X.Gr R) (λS g w=>apA prog dP.tWg X.Wg X.C X.n2 val (X.n2-(r+1)) (sS prog dP.tWg X.Wg X.C X.n2 val (acE X xs bs) r) R S g w) (λ_=>False) _ w;rw[F];refine bB.bind (X.lj R).eN (X.lj R).tr (Mx.lift (aog f hs l hat) M) λS g w ⟨⟨T',bi,bn,nm,hnm,c,d10,d11,si,sn,ci,cn,hg⟩,d⟩=> ?_;rw[hg,aoj];have hI:=d.at_.nm f hnm;obtain⟨-, -, -,E⟩:=hI;refine aoe (b₀:=FQ bX #[] []) (a₀:=⟨T',[]⟩) (ops₀:=oW) (i₀:=0) (rest₀:=[]) (k₀:=kA) (cs:=xs++bs) oU (Q:=λw=>X.Inv R S w/\w.heap[bi]?=some (.cells #[.int .i64 j] 3)/\w.heap[bn]?=some (.cells #[.int .i64 nm] 3))
   (λw q h I=>⟨h.1.rely I,(I.keep bi (.inl si)).trans h.2.1,(I.keep bn (.inl sn)).trans h.2.2⟩) (λw v z h W=> ?_) (λw o h=> ?_) w d.live ⟨d,ci,cn⟩
  .have s:∀b,S b->(w.setCell (stA X.Wg) (.int .u64 z)).heap[b]?=w.heap[b]?:=λb n=>bc _ _ _ λe=>(h.1.s b n).2.2 e.symm;refine⟨⟨λb n=>⟨by rw[iS];exact(h.1.s b n).1,(h.1.s b n).2⟩,h.1.at_.wg _ _ rfl, ?_,h.1.sr⟩,(s bi si).trans h.2.1,(s bn sn).trans h.2.2⟩;exact⟨z,0,W.setSt z⟩
  .obtain⟨p6,a6,U⟩:=ax6;have P:G ((FQ bX #[] []).at ((⟨T',[]⟩:Act).put ((oW[0]?).bind (·.dst)) (.tuple #[])) (.inRegion oW []::kA)) (xs++bs)=Gl (FQ bX (T'.setIfInBounds 25 (.tuple #[])) (.inRegion oW []::kA)::xs) bs:=by rw[U];rfl
   rw[P];have m:∀t,t≠25->(T'.setIfInBounds 25 (.tuple #[])).getD t undef=T'.getD t undef:=λt A=>by rw[aD (by rw[c.z];exact aE (by decide) c.zz),bd A]
   have J:X.Sl (T'.setIfInBounds 25 (.tuple #[])) j:=c.keep (by simpa using c.z) λt A=>m t (by rintro rfl;cases A);refine bB.weak (λ_ _ _ h=>h) (λ_ _ _ _ _ h=>h) (λp g q h=> ?_) (Mx.lift (aok (nm:=nm) J ((m 10 (by decide)).trans d10) ((m 11 (by decide)).trans d11) si sn h.2.1 h.2.2) h.1);obtain⟨⟨rfl,D,K,T2,y,H,rfl⟩,N⟩:=h;have a:X.At (λb=>p b\/R b) q:=N.at_.grow N.s;refine⟨rfl,_,_,λb=>p b\/R b,ati H,λ_ h=>h,λZ o=> ?_, ?_⟩
   .obtain⟨v0,V⟩:=i j nm hnm
    let Y:Wx:=⟨q,X.Wg,X.C,X.n2,j,λb=>p b\/R b,X.Rg,X.key,X.A,X.n,X.c,X.l,nm,X.bk,X.bp,bn,X.ba,bi,dP.tWg⟩
    have C:Y.Ok:=⟨am f.hN a.sz,f.gl,a.gr f,f.k1,f.k2,f.hl,f.hc,f.hcm,a.rd f,a.rgp f,f.al,E,l,λb n=>a.rows b (f.vr b n),⟨a.rk.1,(sP a.rk.2).1⟩,⟨a.rp.1,(sP a.rp.2).1⟩,⟨.inl sn,(sP K).1⟩,⟨a.ra.1,(sP a.ra.2).1⟩,⟨.inl si,(sP D).1⟩,a.rlt,a.rC,a.rW,f.cW⟩;have L:Y.Inv (λ_=>False) q:=⟨λ_ _=>rfl,λb h=>h.elim,a.ltC,a.ltW,ap _,o,Z,rfl⟩;exact aiY (X:=Y) C O u rfl v0 V L
   .-- the rounds that are left
    have gM:X.Inv (λb=>p b\/R b) (λ_=>False) q:=⟨λb h=>h.elim,a,N.live,λb _ h=>h⟩;have hx:=Mx.lift (aol (S:=λ_=>False) (xs:=xs) (bs:=bs) f y l) gM;have k:∀(g:Goroutine) (w:World) (S:aq),((S=λ_=>False)/\∃T',X.Sl T' (j+1)/\g=Gl (FQ bX T' (.code iz::kB)::xs) bs)/\X.Inv (λb=>p b\/R b) S w->S=(λ_=>False)/\sS prog dP.tWg X.Wg X.C X.n2 val (acE X xs bs) r (λb=>p b\/R b) g w:=by
     rintro g w S ⟨⟨rfl,T',c,rfl⟩,d⟩;exact⟨rfl,acF f O u i r (j+1) _ T' w (by omega) d.at_ d.live c⟩
    exact aeD (bB.weak (λ_ _ _ h=>h) (λ_ _ _ _ _ h=>h) (λS g w h=>k g w S h) hx)
end
def alj(Rr:aq):nD RlB Rr:=⟨λ_ w=>atRel_refl w,λ_ a b c h k=>atRel_trans a b c h k,λ_ w f ⟨d,e⟩=>by subst e;exact⟨λ_ _=>rfl,ap _,rfl⟩⟩
def alk(aT S:aq)(w:World):Prop:=(∀b,S b->¬aT b)/\∀b,aT b->b<w.heap.size
def alk.rely{S : aq}(h:alk aT S w)(c:RlB S w W):alk aT S W:=⟨h.1,λb a=>aE (h.2 b a) ((alj S).rl _ _ _ c).2.1⟩
def aq7{Rr S : aq}{w' : World}(s:∀b,Rr b->¬aT b)(i:alk aT S w)(g:nC Rr S O w w' es):GrB aT S O w w' es/\alk aT O w':=by
 obtain⟨t,l,u,rfl,o⟩:=g;have m:∀b,S b\/(w.heap.size<=b/\b<w'.heap.size)->¬aT b:=λb c d=>by
  rcases c with c|c
  .exact i.1 b c d
  .have:=i.2 b d;omega
 refine⟨⟨l,λe r=> ?_⟩,m,λb c=>aE (i.2 b c) l⟩;obtain⟨p,k,q⟩:=o e r;refine⟨λx n ⟨a,hl,d⟩=> ?_,λj=> ?_,λj=> ?_,q⟩
 .rcases p x n with h|⟨h, -⟩
  .rw[hl] at h;exact m _ h d
  .rw[hl] at h;exact s _ h d
 .rcases k _ j with⟨f,e⟩|e<;>cases e
 .rcases k _ j with⟨f,e⟩|e<;>cases e
section
variable {gs:Array Goroutine} {w:World} {sl:Option (Nat×Nat)} {t:Trace} {q:Nat->Nat} {aT V:aq} {T:Array Value} {xs:List Frame}
def azV (I:gs[0]?=some (Gl (FQ bX X [.code abm]::xs) [])) (W:45<=X.size)   (hn:(Y:Int)<=2147483647) (L:X.getD 0 undef=.int .i64 key) (s1:X.getD 1 undef=.slice A n c) (K:X.getD 2 undef=.slice R Y Q)
  (O:Leavers prog t gs q) (hP:dU aT (gs.size-1) w.heap.size t) (v:∀b,aT b->b<w.heap.size) (H:∀b,V b->b<w.heap.size/\¬aT b) :
  ∃(N:Nat) (j:Array Goroutine) (f:World) (p:Option (Nat×Nat)) (r:Trace) (x:Nat->Nat) (T:Array Value) (l i C m:Nat) (o:Array Value),runNT prog N (crowd gs w sl) t=(.next (crowd j f p),r)/\j.size=gs.size/\
   j[0]?=some (Gl (FQ bX T [.code (.region 2 mo false),.code fB]::xs) [])/\Leavers prog r j x/\dU aT (gs.size-1) f.heap.size r/\T.size=X.size/\(∀t,(t<3\/oT t=true)->T.getD t undef=X.getD t undef)/\
   (T.getD 3 undef=.pointer (some ⟨l,0,none⟩)/\T.getD 4 undef=.pointer (some ⟨i,0,none⟩)/\T.getD 6 undef=.slice none 0 0/\T.getD 7 undef=.bool false/\T.getD 8 undef=.pointer (some ⟨m,0,none⟩)/\T.getD 17 undef=.slice (some ⟨C,0,none⟩) Y Y)/\
   ((∀b,V b->f.heap[b]?=w.heap[b]?)/\w.heap.size<=f.heap.size/\f.ou=w.ou)/\(w.heap.size<=l/\l<i/\i<C/\C<m)/\f.heap[l]?=some (.cells #[.int .i64 key] 3)/\f.heap[i]?=some (.cells #[.slice A n c] 23)/\o.size=2*Y/\f.heap[C]?=some (.cells o 171)/\f.heap[m]?=some (.cells #[.slice (some ⟨C,0,none⟩) Y Y] 160):=by
 have Z:=ale (xs:=xs) (base:=[]) (k:=[]) (S:=λ_=>False) (w0:=w) (Rr:=V)
  (St:=λ_ g f=>∃(T:Array Value) (l i C m:Nat) (o:Array Value),g=Gl (FQ bX T [.code (.region 2 mo false),.code fB]::xs) []/\T.size=X.size/\(∀t,(t<3\/oT t=true)->T.getD t undef=X.getD t undef)/\
   (T.getD 3 undef=.pointer (some ⟨l,0,none⟩)/\T.getD 4 undef=.pointer (some ⟨i,0,none⟩)/\T.getD 6 undef=.slice none 0 0/\T.getD 7 undef=.bool false/\T.getD 8 undef=.pointer (some ⟨m,0,none⟩)/\T.getD 17 undef=.slice (some ⟨C,0,none⟩) Y Y)/\
   ((∀b,V b->f.heap[b]?=w.heap[b]?)/\w.heap.size<=f.heap.size/\f.ou=w.ou)/\(w.heap.size<=l/\l<i/\i<C/\C<m)/\f.heap[l]?=some (.cells #[.int .i64 key] 3)/\f.heap[i]?=some (.cells #[.slice A n c] 23)/\o.size=2*Y/\f.heap[C]?=some (.cells o 171)/\f.heap[m]?=some (.cells #[.slice (some ⟨C,0,none⟩) Y Y] 160))
  (alj V) W rfl hn L s1 K λT S' f l i C m o z J E u U P cp D cC M=>.stop λw1 ⟨d,e⟩=>by
   subst e;exact⟨T,l,i,C,m,o,rfl,z,J,E,⟨λb s=>u.keep b (H b s).1 (.inr s),u.size,u.os⟩,U,P,cp,D,cC,M⟩
 have G:=bB.inv (Gr2:=GrB aT) (Inv:=alk aT) (afO:=λ_ g f=>_) (λ_ _ _ h B=>h.rely B) (λ_ _ _ _ _ h g=>aq7 (λb s=>(H b s).2) h g) (λ_ _ _ h _=>h) Z ⟨λ_ h=>h.elim,v⟩;obtain⟨N,j,a,f,p,r,x,S',B,z,ha,⟨T,l,i,C,m,o,rfl,E⟩,F,y⟩:=nU (sl:=sl) aad I O hP G;exact⟨N,j,f,p,r,x,T,l,i,C,m,o,B,z,ha,F,y,E⟩
def GrE(_ _:aq)(w w':World)(es:Array Event):Prop:=es=#[]/\w.heap.size<=w'.heap.size
def ae0{B0:Nat}:avu GrE (λK B t=>dU aT K B t/\∀op∈t,op.act.low B0) where
 own:=λ{K t S m w l i} f c ⟨b,hz⟩ ⟨hP,hl⟩=>by
  subst b;refine⟨hP.own hz λe h=>by simp at h,λop a=> ?_⟩;rcases uF.1 a with h|h
  .exact hl op h
  .obtain⟨e,b, -⟩:=lc h;simp at b
 mute:=λ{K B t g i} f c j k d ⟨hP,hl⟩=>by
  refine⟨hP.mute j k d,seen_app hl λop a=> ?_⟩;obtain⟨e,b,rfl⟩:=lc a;exact low_mute (d e b) B0
def azW(C:gs[0]?=some (Gl (FQ bX T [.code (.region 2 mo false),.code fB]::xs) []))(v:45<=T.size)(F:Leavers prog t gs q)(x:dU aT (gs.size-1) w.heap.size t) :
  ∃(N:Nat) (b:Array Goroutine) (c:World) (d:Option (Nat×Nat)) (e:Trace) (s:Nat->Nat) (T':Array Value),runNT prog N (crowd gs w sl) t=(.next (crowd b c d),e)/\b.size=gs.size/\b[0]?=some (Gl (FQ bX T' [.code fB]::xs) [])/\Leavers prog e b s/\
   dU aT (gs.size-1) c.heap.size e/\(∀op∈e,op.act.low w.heap.size)/\T'.size=T.size/\T'.getD 9 undef=.pointer (some ⟨w.heap.size,0,none⟩)/\(∀t,t≠9->T'.getD t undef=T.getD t undef)/\c.heap=w.heap.push (wgBlock dP.tWg 0 0)/\c.ou=w.ou:=by
 obtain⟨R,Q,u⟩:=azE;obtain⟨i,z,J,l,M⟩:=atn;have o:List.range mo.size=[0]:=rfl;have K:bB prog true RlB GrE (λ_ g c=>g=Gl (FQ bX (T.setIfInBounds 9 (.pointer (some ⟨w.heap.size,0,none⟩))) [.code fB]::xs) []/\c.heap=w.heap.push (wgBlock dP.tWg 0 0)/\c.ou=w.ou) (λ_=>False) (Gl (FQ bX T [.code (.region 2 mo false),.code fB]::xs) []) w:=by
  refine .step rfl λy ⟨d1,e1⟩=>⟨Gl (FQ bX T [.inRegion mo [0],.code fB]::xs) [],y,#[],λ_=>False,by simp[Gl,stepG,stepG.exec,o],⟨rfl,ap _⟩, ?_⟩;refine .step rfl λj ⟨d2,e2⟩=> ?_;have f:=amd (m:=true) (fr:=FQ bX T [.inRegion mo [0],.code fB]) (xs:=xs) (base:=[]) (w:=j) rfl rfl rfl rfl u rfl (nW (w:=j) J l);rw[vC,M] at f;refine⟨_,_,#[],λ_=>False,f,⟨rfl,by rw[oS];omega⟩, ?_⟩;have k:j.heap.size=w.heap.size:=by rw[e2,e1];rfl
  have H:Frame.finish (FQ bX T [.inRegion mo [0],.code fB]) (.pointer (some ⟨j.heap.size,0,none⟩))=FQ bX (T.setIfInBounds 9 (.pointer (some ⟨w.heap.size,0,none⟩))) [.inRegion mo [],.code fB]:=by
   simp only[Frame.finish,u,pY,k]
  rw[H];refine .step rfl λB ⟨d3,e3⟩=>⟨Gl (FQ bX (T.setIfInBounds 9 (.pointer (some ⟨w.heap.size,0,none⟩))) [.code fB]::xs) [],B,#[],λ_=>False,by simp[Gl,stepG,stepG.exec],⟨rfl,ap _⟩,.stop λO ⟨d4,e4⟩=>⟨rfl, ?_, ?_⟩⟩
  .rw[e4,e3,e2,e1];rfl
  .rw[e4,e3,e2,e1];rfl
 obtain⟨N,b,a,c,d,e,s,P,I,G,L,⟨rfl,E,A⟩,r,n,p⟩:=nU (sl:=sl) (ae0 (aT:=aT) (B0:=w.heap.size)) C F ⟨x,x.seen⟩ K;exact⟨N,b,c,d,e,s,_,I,G,L,r,n,p,by simp,by rw[aD (aE (by decide) v),dj rfl],λt D=>by rw[aD (aE (by decide) v),bd D],E,A⟩
end
def jQ{m m':Machine}{t a:Trace}{r:Stepped×Trace}(h:runNT P Y m t=(.next m',a))(b:runNT P Q m' a=r):runNT P (Y+Q) m t=r:=by
 rw[runNT_add,h];exact b
section
variable {X:Mx} {R:aq} {T:Array Value} {w:World} {xs bs:List Frame}
structure Mx.Pre (X:Mx) (T:Array Value):Prop where
 z:T.size=X.Z
 zz:45<=X.Z
 s2:T.getD 2 undef=.slice X.A2 X.n2 X.c2
 s3:T.getD 3 undef=.pointer (some ⟨X.bk,0,none⟩)
 s4:T.getD 4 undef=.pointer (some ⟨X.bp,0,none⟩)
 s8:T.getD 8 undef=.pointer (some ⟨X.ba,0,none⟩)
 s9:T.getD 9 undef=.pointer (some ⟨X.Wg,0,none⟩)
 sv:∀t,alg t=true->T.getD t undef=X.sv t
def ai5(a:X.Pre T):bB prog true (X.Rl R) (nC R) (λS g _=>(S=λ_=>False)/\∃c,X.Sl c 0/\g=Gl (FQ bX c (.code iz::kB)::xs) bs) (λ_=>False) (Gl (FQ bX T [.code fB]::xs) bs) w:=by
 have H:=X.lj R;unfold fB;refine dJ H.cmp (dJ H.cmp (eR H.cmp (l:=[0,1,2]) rfl λq n=>ato H a.zz a.z a.s2 λc k b e d f=>ad8 H.cmp (amf H.cmp λm o=>.stop λp j=>⟨rfl,c, ?_,rfl⟩))) w (H.eN _ _);refine⟨k,a.zz,(b 3 (by decide) (by decide) (by decide)).trans a.s3,(b 4 (by decide) (by decide) (by decide)).trans a.s4,(b 8 (by decide) (by decide) (by decide)).trans a.s8,(b 9 (by decide) (by decide) (by decide)).trans a.s9,e,d,f,λt i=>(b t ?_ ?_ ?_).trans (a.sv t i)⟩<;>(rintro rfl;cases i)
end
def ae1{t:Trace}(h:∀op∈t,op.act.low a.block):NoRelease a t:=λi d=>by
 unfold Trace.act? at d;obtain⟨op,e,b⟩:=ga.1 d;have c:=h op (pS e);rw[b] at c;exact tJ _ c
section
variable {X:Mx} {R:aq} {gs:Array Goroutine} {w:World} {sl:Option (Nat×Nat)} {t:Trace} {q:Nat->Nat} {aT:aq} {T:Array Value} {xs:List Frame}
def azX (C:X.Ok) (hF:dN Z) (J:∀a5 nm,Z a5 [] nm=(⟨#[]⟩,false)) (h0:gs[0]?=some (Gl (FQ bX T [.code fB]::xs) [])) (hs:X.Pre T)
  (hL:Leavers prog t gs q) (hP:dU aT (gs.size-1) w.heap.size t) (v:∀op∈t,op.act.low X.Wg) (eA:WgAt dP.tWg X.Wg w 0 0) (a3:PayAt X.C (2*X.n2) w) (j:X.At R w) (s:∀b,aT b->¬R b/\b≠X.C/\b<w.heap.size) :
  ∃(N:Nat) (n:Array Goroutine) (m:World) (an:Option (Nat×Nat)) (F:Trace) (q':Nat->Nat) (T':Array Value) (R':aq),runNT prog N (crowd gs w sl) t=(.next (crowd n m an),F)/\
   n[0]?=some (Gl (FQ bX T' [.code cB]::xs) [])/\Leavers prog F n q'/\dU (λb=>b=X.Wg\/aT b) (n.size-1) m.heap.size F/\X.Sl T' X.n2/\X.At R' m/\PayAt X.C (2*X.n2) m/\
   (∀f nm,X.cZ[f]?=some nm->Has X.C (2*f) (.string (Z X.key X.l nm).1) m/\Has X.C (2*f+1) (.bool (Z X.key X.l nm).2) m)/\(∀b,b=X.Wg\/aT b->b<m.heap.size):=by
 have kI:0<gs.size:=(db.1 h0).1
 let val:Nat->Value:=λi=>if i % 2=0 then .string (Z X.key X.l (X.cZ.getD (i / 2) 0)).1 else .bool (Z X.key X.l (X.cZ.getD (i / 2) 0)).2
 have o:∀f nm,X.cZ[f]?=some nm->val (2*f)=.string (Z X.key X.l nm).1/\val (2*f+1)=.bool (Z X.key X.l nm).2:=λf nm h=>by
  have e1:2*f % 2=0:=by omega
  have L:(2*f+1) % 2≠0:=by omega
  have e3:2*f / 2=f:=by omega
  have e4:(2*f+1) / 2=f:=by omega
  have e5:X.cZ.getD f 0=nm:=by rw[sU,h];rfl
  exact⟨by simp only[val,e1,e3,e5,mw],by simp only[val,bd L,e4,e5]⟩
 have hi:X.Inv R (λ_=>False) w:=⟨λb h=>h.elim,j,⟨_,_,eA⟩,λb _ h=>h⟩;have O:sS prog dP.tWg X.Wg X.C X.n2 val (acE X xs []) X.n2 R (Gl (FQ bX T [.code fB]::xs) []) w:=
  aeD (bB.weak (λ_ _ _ h=>h) (λ_ _ _ _ _ h=>h) (λS g w h=>by
   obtain⟨⟨rfl,r,p,rfl⟩,u⟩:=h;exact⟨rfl,acF C hF J o X.n2 0 R r w (by omega) u.at_ u.live p⟩) (Mx.lift (ai5 hs) hi))
 have a0:Sets X.Wg X.C aT w R (λ_=>False) (λ_ _=>False) (λ_ _=>False):=
  ⟨j.rlt,λb h=>h.elim,λ_ b h=>h.elim,λ_ b h=>h.elim,λb _ h=>h,λ_ b h=>h.elim,λ_ b h=>h.elim,λ_ _ b h=>h.elim,j.ltW,j.ltC,C.cW,j.rW,λh=>h,λ_ h=>h,j.rC,λh=>h,λ_ h=>h,λb h=>(s b h).1,λ_ _ h=>h,λ_ _ _ h=>h,λh=>(s _ h).2.1 rfl,λb h=>(s b h).2.2⟩
 have av:=C.n2m;obtain⟨N,m',t1,M,V,B,ad,a,q1,y,S1,rfl,P,ao,⟨r,p,a7⟩,a1,I,H,Q, -,K⟩:=
  ah4 (sl:=sl) (K0:=gs.size-1) (Fin:=ax9 X xs []) (by omega) (λR S g w ⟨_,T,_,T2,e,_⟩=>by rw[e];rfl) (λR S g w h=>atx h) h0 (by omega) hL hP O eA a3
   (λi x hx a P e=>afr (S:=λb=>b=X.Wg) v hx (λb G=>mc G.symm) (by rw[P];exact e)) (ae1 v) a0
 have hG:bB prog true RlB (λS S' w m es=>m=w/\es=#[]/\S'=S) (λ_ g w=>(g=Gl (FQ bX r [.code cB]::xs) []/\X.At y w)) (λ_=>False) a B:=by
  refine bB.bind (λ_ w=>atRel_refl w) (λ_ a b c h k=>atRel_trans a b c h k) (bB.aaW (R:=RM dP.tWg X.Wg X.C X.n2 y S1) (Stop:=λS g w=>S=(λ_=>False)/\(g=Gl (FQ bX r (.inRegion iT []::[.code cB])::xs) []/\WgLive dP.tWg X.Wg w)/\X.At y w) (λw B ⟨d,e⟩=>e▸iN.at _ _ _ _ _) (λw m es h=>⟨h.1,h.2,rfl⟩) (λg w h=>⟨rfl,h⟩) a7) ?_;rintro S g w ⟨rfl,⟨rfl, -⟩,j⟩;exact .step rfl λD ⟨d2,L⟩=>⟨Gl (FQ bX r [.code cB]::xs) [],D,#[],λ_=>False,by simp[Gl,stepG,stepG.exec],⟨rfl,rfl,rfl⟩,.stop λw3 ⟨d3,e3⟩=>⟨rfl,by rw[e3,L];exact j.move (λ_ _=>rfl) (ap _) rfl⟩⟩
 have af:=bB.inv (Gr2:=GrB λb=>b=X.Wg\/aT b) (Inv:=λ_ w=>w.heap=B.heap) (afO:=λS g w=>(g=Gl (FQ bX r [.code cB]::xs) []/\X.At y w)/\w.heap=B.heap) (λ_ _ _ h ⟨d,e⟩=>by rw[e];exact h) (λ_ _ _ _ _ h g=>by
  obtain⟨rfl,rfl,rfl⟩:=g;exact⟨⟨ap _,λe h=>by simp at h⟩,h⟩) (λ_ _ _ h k=>⟨h,k⟩) hG rfl
 have aa:V.size-1=gs.size-1+X.n2:=by omega
 obtain⟨N2,a6,a2,D,a9,t2,q2,S2,E,Y,a8,⟨⟨rfl,W⟩,U⟩,al,a4⟩:=nU (sl:=ad) (aad (aT:=λb=>b=X.Wg\/aT b)) P a1 (by rw[aa];exact I) af;refine⟨N+N2,a6,D,a9,t2,q2,r,y, ?_,a8,al,by rw[Y];exact a4,p,W, ?_,λf nm z=> ?_,λb G=> ?_⟩
 .exact jQ M E
 .obtain⟨cs,h1,h2⟩:=H;exact⟨cs,by rw[U];exact h1,h2⟩
 .obtain⟨v0,v1⟩:=o f nm z;have fF:f<X.n2:=by rw[<-C.nn];exact(jn.1 z).1
  obtain⟨g0,g1⟩:=Q f fF;rw[v0] at g0;rw[v1] at g1;have l:∀A,D.cell? A=B.cell? A:=λA=>fq (by rw[U]);exact⟨(l _).trans g0,(l _).trans g1⟩
 .rw[U];exact(K b (G.elim .inr .inl)).2.2.2
end
def JW(t:Nat):Bool:=t ==3||t ==4||t ==5||t ==9||t ==10||t ==11||t ==13||t ==15||t ==16||(decide (18<=t)&&decide (t<=28))
def aty:jd JW cB=true:=by kernel_rfl
def ayc:jd JW (f198.body.getD .skip)=false:=by kernel_rfl
def ayd:jd JW (f67.body.getD .skip)=false:=by kernel_rfl
def awg :Frame.enter prog bX X .normal=FQ bX (T0F X) [.code abm]:=by
 have a:prog.funcs[bX]?=some f67:=func67;unfold Frame.enter;rw[a];rfl
def alm{t : Array Value}(_:X.size=t.size)(h:∀i,JW i=false->X[i]?=t[i]?):results f67 X=results f67 t:=by
 have e:∀i,JW i=false->X.getD i undef=t.getD i undef:=λi c=>by rw[fi,fi,h i c]
 have a:=e 6 rfl;have b:=e 7 rfl;simp only[fi] at a b;simp[results,results67,a,b]
section
variable {gs:Array Goroutine} {w:World} {sl:Option (Nat×Nat)} {t:Trace} {q:Nat->Nat} {aT:aq}
def aq8 (hF:dN Z) (al:∀x nm,Z x [] nm=(⟨#[]⟩,false)) {R:List Frame->World->Prop} {c:Cfg} {ρ:Ren} {a O:Array Value} {m m':List Frame}
  (bt:cM ρ a O) (a0:gz (aj true) ρ m m') (hc:c.l=Frame.enter (aj true) bX a .normal::m) (hw:WR ρ c.w w) (hg:GlR ρ) (hW:iY (aj true) R c)
  (P:gs[0]?=some (Gl (Frame.enter prog bX O .normal::m') [])) (hL:Leavers prog t gs q) (hP:dU aT (gs.size-1) w.heap.size t) (a1:∀b,aT b->b<w.heap.size) (bT:∀b f,ρ.r b f->¬aT f) :
  ∃(N:Nat) (D:Array Goroutine) (F:World) (c6:Option (Nat×Nat)) (t':Trace) (q':Nat->Nat) (Wg:Nat) (J:Cfg) (B:Ren) (l1 lR:List Frame),runNT prog N (crowd gs w sl) t=(.next (crowd D F c6),t')/\
   D[0]?=some (Gl lR [])/\Leavers prog t' D q'/\dU (λb=>b=Wg\/aT b) (D.size-1) F.heap.size t'/\w.heap.size<=Wg/\(∀b,b=Wg\/aT b->b<F.heap.size)/\
   gh (aj true) J c/\ρ.Le B/\gz (aj true) B J.l l1/\WR B J.w F/\iY (aj true) R J/\(∀b f,B.r b f->ρ.r b f\/(w.heap.size<=f/\f≠Wg))/\Rt prog JW l1 lR/\(∀b,b<w.heap.size->¬aT b->F.heap[b]?=w.heap[b]?)/\F.ou=w.ou/\w.heap.size<=F.heap.size/\PkG ρ c.w w J.w F:=by
 obtain⟨x,A,n,cc,l,A2,n2,c2,cZ,J,j,af,bi,a3,aV,a8⟩:=an4 hF bt a0 hc hw hg hW;have W:45<=(T0F O).size:=by simp only[T0F,rx,rV];omega
 rw[awg] at P
 let V:aq:=λb=>b<w.heap.size/\¬aT b
 obtain⟨N1,c7,p,b7,t1,q1,T,bk,U,C,Q,cs,ax,av,a9,b1,a5,Y,s,⟨u3,u4,u6,u7,u8,bp⟩,⟨bL,a6,bw⟩,⟨lk,lp,lC,la⟩,ck,cp,b3,cC,ca⟩:=azV (sl:=sl) (V:=V) P W j.n2m j.s0 j.s1 j.s2 hL hP a1 λb d=>d;rw[<-av] at a5;obtain⟨N2,c8,w2,c4,t2,q2,T',aa,bM,c5,bb,a7,bS,br,u9,bo,om,ba⟩:=azW (sl:=b7) a9 (by rw[Y];exact W) b1 a5;rw[<-bM] at a7;have c1:=iA cC;have aF:=iA ca;have r:∀b,b<p.heap.size->w2.heap[b]?=p.heap[b]?:=λb d=>by rw[om,pT,bd (by omega)]
 have c9:w2.heap.size=p.heap.size+1:=by rw[om,Array.size_push]
 let X:Mx:=⟨w,p.heap.size,C,n2,λb=>∃a,ρ.r a b,x,A,n,cc,l,A2,c2,cZ,bk,U,Q,λt=>T'.getD t undef,T'.size,V⟩
 have E:∀b,(∃a,ρ.r a b)->V b:=λb ⟨a,hab⟩=>⟨(hw.lt hab).2,bT a b hab⟩;have ok:X.Ok:=⟨hw.iG.2,λg bf=>⟨g,hg g bf⟩,j.k1,j.k2,j.ln,j.nc,j.cm,j.gl,j.rd,j.rg,(λa e P=>j.al a e (by have h1:=j.ln;have h2:=j.nc;have h3:0<l.length:=P;omega)),(λa e P=>j.al2 a e (by have h1:=j.n2c;have h2:0<n2:=P;omega)),j.nm,j.nn,j.n2m,(by show C≠p.heap.size;omega),E⟩
 let R0:aq:=λb=>V b\/b=bk\/b=U\/b=Q
 have bO:X.At R0 w2:=by
  refine⟨λb d=>(r b (aE d.1 a6)).trans (bL b d), ?_,ba.trans bw,λb d=>.inl d,⟨.inr (.inl rfl),(r bk (by omega)).trans ck⟩,⟨.inr (.inr (.inl rfl)),(r U (by omega)).trans cp⟩,⟨.inr (.inr (.inr rfl)),(r Q aF).trans ca⟩,λb d=> ?_,λd=> ?_,λd=> ?_, ?_, ?_⟩
  .show w.heap.size<=w2.heap.size;omega
  .rcases d with d|rfl|rfl|rfl
   .have:=d.1;omega
   all_goals omega
  .rcases d with d|d|d|d
   .have:C<w.heap.size:=d.1;omega
   .have:C=bk:=d;omega
   .have:C=U:=d;omega
   .have:C=Q:=d;omega
  .rcases d with d|d|d|d
   .have:p.heap.size<w.heap.size:=d.1;omega
   .have:p.heap.size=bk:=d;omega
   .have:p.heap.size=U:=d;omega
   .have:p.heap.size=Q:=d;omega
  .show C<_;omega
  .show p.heap.size<_;omega
 have v:∀t,t≠9->T'.getD t undef=T.getD t undef:=bo;have aZ:X.Pre T':=⟨rfl,by show 45<=T'.size;omega,(v 2 (by decide)).trans ((s 2 (.inl (by decide))).trans j.s2),(v 3 (by decide)).trans u3,(v 4 (by decide)).trans u4,(v 8 (by decide)).trans u8,u9,λt ht=>rfl⟩;obtain⟨N3,b4,w3,ad,t3,q3,I,R3,b6,aU,ao,bn,H,k,⟨M,K,bx⟩,S,c0⟩:=azX (X:=X) (sl:=c4) ok hF al c5 aZ bb a7 bS
  (by show w2.heap[p.heap.size]?=_;rw[om,qi]) ⟨cs,(r C c1).trans cC,b3⟩ bO λb d=>by
   have cb:=a1 b d;refine⟨λh=> ?_,(by show b≠C;omega),by omega⟩;rcases h with h|h|h|h
   .exact h.2 d
   all_goals omega
 have a2:w.heap.size<=w3.heap.size:=k.sz;have b2:∀G nm,cZ[G]?=some nm->M[2*G]?=some (.string (Z x l nm).1)/\M[2*G+1]?=some (.bool (Z x l nm).2):=λG nm h=>
  ⟨aiN (A:=⟨C,2*G,none⟩) (z:=(0,0)) (t:=171) K (S G nm h).1,aiN (A:=⟨C,2*G+1,none⟩) (z:=(0,0)) (t:=171) K (S G nm h).2⟩
 obtain⟨b0,T2,b9,c3,bl,bW,ay,L,t6,t7,t8,aW,bu⟩:=a8 w3 C Q M (λb f d=>k.keep f (E f ⟨b,d⟩)) k.os a2 (by omega) (by omega) (by omega) K bx b2 k.ra.2;obtain⟨_,_,y,ys,e1,aP⟩:=a0.ne';have bZ:I.size=(T0F O).size:=H.z.trans (br.trans Y);have bN:∀i,i<(T0F O).size->I.getD i undef=T2.getD i undef->I[i]?=T2[i]?:=λi hi h=>by
  rw[uy (by omega),uy (by omega),h]
 refine⟨N1+(N2+N3),b4,w3,ad,t3,q3,p.heap.size,J,b0,FQ bX T2 [.code cB]::m',FQ bX I [.code cB]::m',jQ ax (jQ aa b6),aU,ao,bn,a6,c0,af,b9,c3,bl,bi,λb f d=> ?_, ?_,λb d hn=>k.keep b ⟨d,hn⟩,k.os,a2,⟨λb f d a4=>⟨(a3 b f d a4).1,λi u hu bH=>⟨(a3 b f d a4).2 i u hu bH,ib (k.keep f (E f ⟨b,d⟩))⟩⟩,λb f d bV b8=>⟨aV b f d bV b8,k.keep f (E f ⟨b,d⟩)⟩⟩⟩
 .rcases bW b f d with h|rfl|rfl
  .exact .inl h
  .exact .inr ⟨by omega,by omega⟩
  .exact .inr ⟨by omega,by omega⟩
 .refine .inr ⟨FQ bX T2 [.code cB],FQ bX I [.code cB],m',rfl,rfl,by rw[aP];simp,⟨rfl,rfl,⟨rfl,rfl⟩,rfl,⟨rfl,rfl⟩,⟨rfl,rfl⟩,bZ.trans ay.symm,λi hi=> ?_, ?_⟩,_,func67,λt t' hz h=>alm hz h⟩
  .refine(mx i (T0F O).size).elim (λaI=> ?_) λfE=> ?_
   case refine_2=> 
    show I[i]?=T2[i]?;rw[pF (by omega),pF (by omega)]
   have an:i=0\/i=1\/i=2\/i=6\/i=7\/i=8\/i=17\/oT i=true:=by
    simp only[JW,vj,jp,uU,decide_eq_false_iff_not] at hi;simp only[oT,qs,mT,ql];omega
   refine bN i aI ?_;have o:∀t,alg t=true->I.getD t undef=T'.getD t undef:=H.sv;rcases an with rfl|rfl|rfl|rfl|rfl|rfl|rfl|hid
   .rw[o 0 rfl,v 0 (by decide),s 0 (.inl (by decide)),L 0 (by decide)]
   .rw[o 1 rfl,v 1 (by decide),s 1 (.inl (by decide)),L 1 (by decide)]
   .rw[o 2 rfl,v 2 (by decide),s 2 (.inl (by decide)),L 2 (by decide)]
   .rw[o 6 rfl,v 6 (by decide),u6,t6]
   .rw[o 7 rfl,v 7 (by decide),u7,t7]
   .rw[H.s8,t8]
   .rw[o 17 rfl,v 17 (by decide),bp,aW]
   .have b5:alg i=true:=by simp only[alg,hid,Bool.or_true]
    rw[o i b5,v i (by rintro rfl;cases hid),s i (.inr hid),bu i hid]
  .simp only[pM,uD,tN,kr];exact aty
end
structure amE (R:List Frame->World->Prop) (W:World) (S0:aq) (aT:aq) (ρ:Ren) (c:Cfg) (w:World):Prop where
 wr:WR ρ c.w w
 gl:GlR ρ
 will:iY (aj true) R c
 rng:∀b b',ρ.r b b'->S0 b'\/(W.heap.size<=b'/\¬aT b')
 sh:∀b,aT b->W.heap.size<=b/\b<w.heap.size
 s0:∀b,S0 b->b<W.heap.size
 keep:∀b,b<W.heap.size->¬S0 b->w.heap[b]?=W.heap[b]?
 os:w.ou=W.ou
 sz:W.heap.size<=w.heap.size
structure aln (W:World) (S0 aT S:aq) (w:World):Prop where
 s:∀b,S b->S0 b\/(W.heap.size<=b/\¬aT b)
 sh:∀b,aT b->b<w.heap.size
 keep:∀b,b<W.heap.size->¬S0 b->w.heap[b]?=W.heap[b]?
 os:w.ou=W.ou
 sz:W.heap.size<=w.heap.size
section
variable {W:World} {S0 aT S S':aq} {w w':World} {es:Array Event}
def aln.rely(h:aln W S0 aT S w)(a:RlB S w w'):aln W S0 aT S w':=by
 obtain⟨d,rfl⟩:=a;exact⟨h.s,h.sh,h.keep,h.os,h.sz⟩
def aln.step(f:∀b,S0 b->b<W.heap.size)(j:∀b,aT b->W.heap.size<=b)(h:aln W S0 aT S w)(g:nC (λ_=>False) S S' w w' es):GrB aT S S' w w' es/\aln W S0 aT S' w':=by
 have k:alk aT S w:=⟨λb a c=>(h.s b a).elim (λx=>by have:=f b x;have:=j b c;omega) λx=>x.2 c,h.sh⟩;obtain⟨m,e⟩:=aq7 (λ_ h=>h.elim) k g;obtain⟨i,l,n,rfl,o⟩:=g;refine⟨m,λb a=> ?_,e.2,λb a d=> ?_,n.trans h.os,am h.sz l⟩
 .rcases a with a|a
  .exact h.s b a
  .exact .inr ⟨am h.sz a.1,λc=>by have:=h.sh b c;omega⟩
 .rw[i b (aE a h.sz) λc=> ?_]
  .exact h.keep b a d
  .rcases h.s b c with x|x
   .exact d x
   .omega
end
theorem aq9{fv:Int->List fS->Int->ByteArray×Bool}(hF:dN fv)(hF0:∀key nm,fv key [] nm=(⟨#[]⟩,false)){R:List Frame->World->Prop}{W:World}{S0:aq}{c:Cfg}(akh:Acc (gh (aj true)) c) :
  ∀{ρ:Ren} {aT:aq} {l' lR:List Frame} {w:World} {gs:Array Goroutine} {sl:Option (Nat×Nat)} {t:Trace} {q:Nat->Nat},amE R W S0 aT ρ c w->gz (aj true) ρ c.l l'->Rt prog JW l' lR->gs[0]?=some (Gl lR [])->Leavers prog t gs q->dU aT (gs.size-1) w.heap.size t->
   ∃(N:Nat) (gs':Array Goroutine) (w':World) (sl':Option (Nat×Nat)) (t':Trace) (q':Nat->Nat) (ayh:aq) (c1:Cfg) (ρ1:Ren) (l1:List Frame),runNT prog N (crowd gs w sl) t=(.next (crowd gs' w' sl'),t')/\
    gs'[0]?=some (Gl l1 [])/\Leavers prog t' gs' q'/\dU ayh (gs'.size-1) w'.heap.size t'/\amE R W S0 ayh ρ1 c1 w'/\mN c1.l/\gz (aj true) ρ1 c1.l l1/\ρ.Le ρ1/\PkG ρ c.w w c1.w w':=by
 induction akh with
 |intro c _ ih=>
  intro ρ aT l' lR w gs sl t q h hst hR h0 hL hP;have akh:Acc (gh (aj true)) c:=h.will.acc.transGen;have Hb:=alj (λ_=>False);have av3:ah6 (aj true) R (λ_=>False) (λb=>S0 b\/(W.heap.size<=b/\¬aT b)) ρ c l' w:=⟨hst,h.wr,h.gl,h.will,λb b' hb=>.inl (h.rng b b' hb)⟩;have aqN:=ah8 (kh true) (at0 true) Hb.eN Hb.tr Hb.rl Hb.cmp.gr (auC ayc ayd) (afs Hb.cmp) (main:=true) (base:=[]) akh av3 hR;have hG:=bB.inv (Gr2:=GrB aT) (Inv:=aln W S0 aT) (λ_ _ _ a b=>a.rely b) (λ_ _ _ _ _ a b=>a.step h.s0 (λb hb=>(h.sh b hb).1) b) (λ_ _ _ a b=>And.intro a b) aqN ⟨λb hb=>hb,λb hb=>(h.sh b hb).2,h.keep,h.os,h.sz⟩;obtain⟨N,gs1,a1,w1,sl1,t1,q1,S1,hr1,hz1,ha1,⟨⟨c1,ρ1,l1,hor,hle, -,rfl,aW,hg1,hW1,mZ,atz,hend⟩,kQ⟩,hL1,hP1⟩:=nU (sl:=sl) aad h0 hL hP hG;rw[<-hz1] at hP1;have ags:∀b b',ρ1.r b b'->S0 b'\/(W.heap.size<=b'/\¬aT b'):=λb b' hb=>(mZ b b' hb).elim (kQ.s b') λx=>x.1.elim;rcases hend with⟨hf,aom⟩|⟨a,a',m,m',hva,az6,hc1,hl1⟩
  .exact⟨N,gs1,w1,sl1,t1,q1,aT,c1,ρ1,l1,hr1,ha1,hL1,hP1,⟨aW,hg1,hW1,ags,λb hb=>⟨(h.sh b hb).1,kQ.sh b hb⟩,h.s0,kQ.keep,kQ.os,kQ.sz⟩,hf,aom,hle,atz⟩
  .rw[hl1] at ha1;have hns:∀b b',ρ1.r b b'->¬aT b':=λb b' hb hs=>(ags b b' hb).elim (λx=>by have:=h.s0 _ x;have:=(h.sh _ hs).1;omega) λx=>x.2 hs;obtain⟨N2,gs2,w2,sl2,t2,q2,Wg,c2,ρ2,l2,lR2,hr2,ha2,hL2,hP2,hWg,az7,auJ,akW,ajV,hw2,hW2,ayi,hR2,hk2,ho2,hz2,aqc⟩:=aq8 (sl:=sl1) hF hF0 hva az6 hc1 aW hg1 hW1 ha1 hL1 hP1 kQ.sh hns;have apY:gh (aj true) c2 c:=by
    rcases hor with e|e
    .rw[<-e];exact auJ
    .exact sj auJ e
   have hS2:amE R W S0 (λb=>b=Wg\/aT b) ρ2 c2 w2:=by
    refine⟨hw2,hg1.mono akW,hW2,λb b' hb=> ?_,λb hb=>⟨?_,az7 b hb⟩,h.s0,λb hb hn=> ?_,ho2.trans kQ.os,am kQ.sz hz2⟩
    .rcases ayi b b' hb with hb|⟨h1,h2⟩
     .rcases ags b b' hb with x|⟨x,y⟩
      .exact .inl x
      .refine .inr ⟨x,λe=>e.elim (λe=> ?_) y⟩;have:=(aW.lt hb).2;omega
     .exact .inr ⟨am kQ.sz h1,λe=>e.elim h2 λhs=>by have:=kQ.sh _ hs;omega⟩
    .rcases hb with rfl|hb
     .exact am kQ.sz hWg
     .exact(h.sh b hb).1
    .rw[hk2 b (aE hb kQ.sz) λhs=>by have:=(h.sh b hs).1;omega];exact kQ.keep b hb hn
   obtain⟨N3,gs3,w3,sl3,t3,q3,az8,c3,ρ3,l3,hr3,ha3,hL3,hP3,hS3,hf3,awi,az9,aAa⟩:=ih c2 apY hS2 ajV hR2 ha2 hL2 hP2;exact⟨N+(N2+N3),gs3,w3,sl3,t3,q3,az8,c3,ρ3,l3,jQ hr1 (jQ hr2 hr3),ha3,hL3,hP3,hS3,hf3,awi,(hle.trans akW).trans az9,atz.trans hle (aqc.trans akW aAa)⟩
end
section
open Go.Conc Go.ConcN Go.RowKit
open Go.ConcR (DC0)
mutual
inductive ClV (V:Nat->Prop):Value->Prop
 |bool (b:Bool):ClV V (.bool b)
 |int (k:IntKind) (n:Int):ClV V (.int k n)
 |string (s:ByteArray):ClV V (.string s)
 |nilPtr:ClV V (.pointer none)
 |pointer {a:Addr} (h:V a.block):ClV V (.pointer (some a))
 |abo (l c:Nat):ClV V (.slice none l c)
 |slice {a:Addr} (h:V a.block) (l c:Nat):ClV V (.slice (some a) l c)
 |nilFunc:ClV V .nilFunc
 |iface (t:TypeId) {v:Value} (h:ClV V v):ClV V (.iface t v)
 |nilIface:ClV V .nilIface
 |agg {c:Array Value} (h:lq V c.toList):ClV V (.agg c)
inductive lq (V:Nat->Prop):List Value->Prop
 |nil:lq V []
 |cons {v:Value} {l:List Value} (h:ClV V v) (hl:lq V l):lq V (v::l)
end
mutual
def ClV.mono{V U:Nat->Prop}(h:∀b,V b->U b):∀{v:Value},ClV V v->ClV U v
 |_,.bool b=>.bool b
 |_,.int k n=>.int k n
 |_,.string s=>.string s
 |_,.nilPtr=>.nilPtr
 |_,.pointer h'=>.pointer (h _ h')
 |_,.abo l c=>.abo l c
 |_,.slice h' l c=>.slice (h _ h') l c
 |_,.nilFunc=>.nilFunc
 |_,.iface t h'=>.iface t (ClV.mono h h')
 |_,.nilIface=>.nilIface
 |_,.agg h'=>.agg (lq.mono h h')
def lq.mono{V U:Nat->Prop}(h:∀b,V b->U b):∀{l:List Value},lq V l->lq U l
 |_,.nil=>.nil
 |_,.cons h1 h2=>.cons (ClV.mono h h1) (lq.mono h h2)
end
def lq.of{V:Nat->Prop}:∀{l:List Value},(∀v∈l,ClV V v)->lq V l
 |[],_=>.nil
 |v::l,h=>.cons (h v (qz ..)) (lq.of λx a=>h x (qq _ a))
section
variable {V:Nat->Prop} {ρ:Ren} (hV:∀b,V b->ρ.r b b)
include hV
theorem amF(h:V a.block):AR ρ a a:=by
 obtain⟨b,o,s⟩:=a;exact .mk (hV _ h) o s
mutual
theorem ClV.self:∀{v:Value},ClV V v->VR ρ v v
 |_,.bool b=>.bool b
 |_,.int k n=>.int k n
 |_,.string s=>.string s
 |_,.nilPtr=>.pointer .none
 |_,.pointer h=>.pointer (.some (amF hV h))
 |_,.abo l c=>.slice .none l c
 |_,.slice h l c=>.slice (.some (amF hV h)) l c
 |_,.nilFunc=>.nilFunc
 |_,.iface t h=>.iface t (ClV.self h)
 |_,.nilIface=>.nilIface
 |_,.agg h=>.agg (lq.self h)
theorem lq.self:∀{l:List Value},lq V l->bG ρ l l
 |_,.nil=>.nil
 |_,.cons h1 h2=>.cons (ClV.self h1) (lq.self h2)
end
end
def dU.past{B : Nat}{t:Trace}(h:dU aT Y B t):Past (ShL aT) B t:=by
 refine⟨h.clean,λi a j _=> ?_,h.over,h.hears,h.seen⟩;obtain⟨op,c,b⟩:=touch_of j;by_cases d:ShL aT a.loc
 .obtain⟨k,f⟩:=h.quiet i op a c b d;cases e:a.kind with
  |plain=>exact absurd e k
  |atomic=>exact .inr ⟨d,rfl⟩
  |said=>
   have g:=f e;have:=knows_own (t:=t) c;rw[g] at this;exact .inl this
 .exact .inl (h.known i op a c b d)
def ahc(W:World)(v:Value)(w':World):Prop:=v=.bool true/\Below W.heap.size W {w' with tape:=W.tape}
def plX(V:Nat->Prop):Value->Prop
 |.int k _=>k ≠ .u8
 |.string _=>True
 |.slice none _ _=>True
 |.slice (some a) l c=>V a.block\/(l=0/\c=0)
 |_=>False
def LX(g0:Nat)(u v:Value):Prop:=u=v\/∃a,v=.slice (some a) 0 0/\u=.slice (some ⟨g0,0,none⟩) 0 0
structure abp (W:World) (V:aq) (g0:Nat) (WL:World):Prop where
 size:WL.heap.size=W.heap.size
 row:∀b,V b->∃(c c':Array Value) (t:TypeId) (z z':Nat×Nat),W.heap[b]?=some (.cells c t z)/\WL.heap[b]?=some (.cells c' t z')/\c'.size=c.size
 cell:∀A v,W.cell? A=some v->V A.block->plX V v->∃u,WL.cell? A=some u/\LX g0 u v
def ayj{V:Nat->Prop}(hV:∀b,V b->dn w b)(W:∀g∈gL,V g)(hN:gN<=w.heap.size)(U:g0∈gL)(M:g0<gN) :
  ∃C:World,WR (Ren.rows V true (fy w)) C w/\C.ou=w.ou/\abp w V g0 C/\(∀b,V b->bm C b/\NoB C b):=by
 classical
 have m:∀b,V b->∃(c:Array Value) (t:TypeId) (z:Nat×Nat) (d:List Value),w.heap[b]?=some (.cells c t z)/\bG (Ren.rows V true (fy w)) d c.toList/\∀(i:Nat) v,c.toList[i]?=some v->∃u,d[i]?=some u/\((∀k,u ≠ .int .u8 k)/\(plX V v->LX g0 u v)):=λb f=>by
  obtain⟨c,t,z,B⟩:=hV b f;obtain⟨d,D,H⟩:=ak6 (ρ:=Ren.rows V true (fy w)) (Q:=λ_ u v=>(∀k,u ≠ .int .u8 k)/\(plX V v->LX g0 u v)) c.toList 0 λi v O=>by
   by_cases y:plX V v
   .cases v with
    |int k n=>exact⟨_,.int k n,(λk' e=>by cases e;exact y rfl),λ_=>.inl rfl⟩
    |string s=>exact⟨_,.string s,(λk e=>by cases e),λ_=>.inl rfl⟩
    |slice a l c=>cases a with
     |none=>exact⟨_,.slice .none l c,(λk e=>by cases e),λ_=>.inl rfl⟩
     |some a=>
      rcases y with y|⟨rfl,rfl⟩
      .obtain⟨b,o,s⟩:=a;have N:(Ren.rows V true (fy w)).r b b:=⟨rfl,y⟩;exact⟨_,.slice (.some (.mk N o s)) l c,(λk e=>by cases e),λ_=>.inl rfl⟩
      .have N:(Ren.rows V true (fy w)).r g0 g0:=⟨rfl,W g0 U⟩;exact⟨_,.empty (a:=⟨g0,0,none⟩) N M a,(λk e=>by cases e),λ_=>.inr ⟨a,rfl,rfl⟩⟩
    |_=>exact y.elim
   .obtain⟨u,D,H, -⟩:=av0 (ρ:=Ren.rows V true (fy w)) rfl v λx hx=>aiM (afN B (i:=i) (by rw[<-dl];exact O) hx);exact⟨u,D,H,λh=>absurd h y⟩
  exact⟨c,t,z,d,B,D,H⟩
 let F:∀b,V b->Obj:=λb f=>.cells ⟨(m b f).choose_spec.choose_spec.choose_spec.choose⟩ (m b f).choose_spec.choose (0,max ((m b f).choose.size+1) (m b f).choose_spec.choose_spec.choose.2)
 have Z:∀b (f:V b),∃(c:Array Value) (t:TypeId) (z:Nat×Nat) (d:List Value),w.heap[b]?=some (.cells c t z)/\bG (Ren.rows V true (fy w)) d c.toList/\(∀(i:Nat) v,c.toList[i]?=some v->∃u,d[i]?=some u/\((∀k,u ≠ .int .u8 k)/\(plX V v->LX g0 u v)))/\F b f=.cells ⟨d⟩ t (0,max (c.size+1) z.2):=λb f=>
  let h:=(m b f).choose_spec.choose_spec.choose_spec.choose_spec
  ⟨_,_,_,_,h.1,h.2.1,h.2.2,rfl⟩
 obtain⟨heap,hs,D,H⟩:=auB w F;have I:∀b,V b->∃(c:Array Value) (t:TypeId) (z:Nat×Nat) (d:List Value),w.heap[b]?=some (.cells c t z)/\heap[b]?=some (.cells ⟨d⟩ t (0,max (c.size+1) z.2))/\bG (Ren.rows V true (fy w)) d c.toList/\∀(i:Nat) v,c.toList[i]?=some v->∃u,d[i]?=some u/\((∀k,u ≠ .int .u8 k)/\(plX V v->LX g0 u v)):=λb f=>by
  obtain⟨c,t,z,d,q,p,r,G⟩:=Z b f;exact⟨c,t,z,d,q,(D b f (db.1 q).1).trans (ef some G),p,r⟩
 refine⟨{w with heap},⟨λ{b b'} f=> ?_,rfl,by show gN<=heap.size;omega,hN⟩,rfl,⟨hs,λb f=> ?_,λA v B Y y=> ?_⟩,λb f=> ?_⟩
 .obtain⟨rfl,f⟩:=f;obtain⟨c,t,z,d,q,p,r, -⟩:=I b f;have j:=r.length;refine⟨_,_,p,q,.cells r t (.inr ⟨rfl,rfl, ?_,.inr ?_⟩)⟩
  .show d.length<max _ _;simp at j;omega
  .show z.2<=max _ _;omega
 .obtain⟨c,t,z,d,q,p,r, -⟩:=I b f;exact⟨c,⟨d⟩,t,z,_,q,p,by have:=r.length;simpa using this⟩
 .obtain⟨c,t,z,d,q,p,r,G⟩:=I A.block Y;have J:({w with heap}:World).heap[A.block]?=some (.cells ⟨d⟩ t (0,max (c.size+1) z.2)):=p;unfold World.cell? at B ⊢;rw[J];rw[q] at B;cases E:A.spot with
  |some s=>simp[E] at B
  |none=>
   simp[E] at B ⊢;obtain⟨u,L, -,P⟩:=G A.off v (by rw[dl];exact B);exact⟨u,L,P y⟩
 .obtain⟨c,t,z,d,q,p,r,G⟩:=I b f;have j:=r.length;simp at j;refine⟨⟨_,_,_,p,rfl, ?_, ?_⟩,λS T X K i k e=> ?_⟩
  .show d.length<=max _ _;omega
  .show 0<max _ _;omega
  .have:heap[b]?=some (.cells S T X):=K;rw[p] at this;cases this;have O:i<c.toList.length:=by
    have:=(db.1 e).1;simp at this ⊢;omega
   obtain⟨u,L,P, -⟩:=G i _ (io O);have R:d[i]?=some (.int .u8 k):=by simpa using e
   rw[L] at R;exact P k (de R)
theorem aon {fv:Int->List fS->Int->ByteArray×Bool} (hF:dN fv) (hF0:∀key nm,fv key [] nm=(⟨#[]⟩,false)) {W:World} {S0:aq} {f:FuncId} {fn:Func} {k:Tmp} {args:Array Value} {g0:Nat} (h0:g0∈gL) (h0N:g0<gN)
  (hrow:∀b,S0 b->dn W b) (hgl:∀g∈gL,S0 g) (hgN:gN<=W.heap.size) (oD:lq S0 args.toList)
  (hf:gH f=false) (hfn:prog.funcs[f]?=some fn) (hq:(aj true).funcs[f]?=some fn) (hres:fn.results=#[.tmp k]) (hni:prog.inits.idxOf? f=none)
  (gZ:∀WL:World,abp W S0 g0 WL->∀t:Tape,Calls (aj true) f args (WL.tap t) λe w'=>∃v,e=.returned v/\v=.bool true) :
  ∃N last o w' t',runNT prog (N+1) (solo (G (Frame.enter prog f args .normal) []) W) #[]=(.ended o w',t')/\runN prog N (solo (G (Frame.enter prog f args .normal) []) W)=.next last/\step prog last=.ended o w'/\Go.Conc.Good prog (ahc W) last o w' t':=by
 obtain⟨WL,hwr,hou,ayk,ayl⟩:=ayj hrow hgl hgN h0 h0N;have hid:∀b,S0 b->(Ren.rows S0 true (fy W)).r b b:=λb hb=>⟨rfl,hb⟩;have hs0:∀b,S0 b->b<W.heap.size:=λb hb=>let⟨_,_,_,h⟩:=hrow b hb;iA h
 have hW:iY (aj true) (λl w'=>∃fr v,l=[fr]/\fr.fn=f/\fr.leaving (aj true) w' (.returned v)/\v=.bool true) ⟨[Frame.enter (aj true) f args .normal],WL,λ_ _=>0⟩:=
  oG (Post:=λv _=>v=.bool true) λt _=>gZ WL ayk t
 have hst:gz (aj true) (Ren.rows S0 true (fy W)) [Frame.enter (aj true) f args .normal] [Frame.enter prog f args .normal]:=.one (af9 (kh true) hf (lq.self hid oD)) acC;have hS:amE _ W S0 (λ_=>False) (Ren.rows S0 true (fy W)) ⟨[Frame.enter (aj true) f args .normal],WL,λ_ _=>0⟩ W:=⟨hwr,λg hg=>hid g (hgl g hg),hW,λb b' hb=>.inl (hb.1▸hb.2),λ_ h=>h.elim,hs0,λ_ _ _=>rfl,rfl,ap _⟩;obtain⟨N1,gs1,w1,sl1,t1,q1,aT,c1,ρ1,l1,hr1,ha1,hL1,hP1,hS1,hf1,aom,aAG,atz⟩:=aq9 hF hF0 hW.acc.transGen (gs:=#[G (Frame.enter prog f args .normal) []]) (sl:=none) (t:=#[]) (q:=λ_=>0) hS hst (.inl rfl) rfl (leavers_one _ _) (dU.nil _);obtain⟨fr,v,hl,kD,hlv,hv⟩:=hS1.will.fin hf1 abF c1.t λ_ _ _=>rfl;obtain⟨x,xs,y,ys, -,hy⟩:=aom.ne';have e4:=aom.lone hl hy;subst e4 hy;rw[hl] at aom;have aym:=aom.head;obtain⟨-, -, -,fn1,aso,hrv⟩:=hlv;rw[kD,hq] at aso;cases aso;have hv1:v=fr.tmps.getD k undef:=by
  have e:(results fn fr.tmps).run (aj true) (c1.w.tap c1.t)=.ok (fr.tmps.getD k undef) (c1.w.tap c1.t):=by simp[results,hres]
  rw[e] at hrv;cases hrv;rfl
 have hy1:y.tmps.getD k undef=.bool true:=by
  rw[hv] at hv1;have hk:fr.tmps[k]?=some (.bool true):=by
   rw[fi] at hv1;cases h:fr.tmps[k]? with
   |none=>rw[h] at hv1;cases hv1
   |some u=>rw[h] at hv1;exact ef some hv1.symm
  obtain⟨u,hu,hr⟩:=bG.get aym.tmps (i:=k) (v:=.bool true) (by rw[dl];exact hk);rw[dl] at hu;rw[amw hu];cases hr;rfl
 have ayn:∀w1:World,stepG prog true (Gl [y] []) w1=.ended (.done (.bool true)) w1 (seen prog y.fn #[]):=λw1=>by
  have hr:(results fn y.tmps).runT prog w1 #[]=(.ok (.bool true) w1,#[]):=by
   have e:(results fn y.tmps).runT prog w1 #[]=(.ok (y.tmps.getD k undef) w1,#[]):=by simp[results,hres]
   rw[e,hy1]
  obtain⟨g0,hg0,gm,gd,gk⟩:=hf1;rw[hl] at hg0;cases hg0;obtain⟨f',tm',eH,d',md',kd',r'⟩:=y;obtain⟨f0,tm0,aAo,d0,md0,kd0,r0⟩:=fr;obtain⟨h1,h2,h3,h4,h5,h6,h7⟩:=aym;dsimp only at h1 h2 h3 h4 h5 h6 h7 gm gd gk kD hr;subst h1 gm gd gk kD;obtain rfl:md'=.returning:=by
   rcases h5 with h5|h5
   .cases h5.1
   .exact h5.2
  obtain⟨-,rfl⟩:=h6;obtain rfl:d'=[]:=by cases h4;rfl
  have e:doReturn prog true ⟨f0,tm',eH,[],.returning,.normal,r'⟩ [] none (.bool true) w1=.ended (.done (.bool true)) w1:=by
   unfold doReturn;dsimp only;rw[hni];rfl
  simp only[Gl,stepG,unwind,hfn,hr,qX,e];simp[GStep.after]
 have hblk:∀b,b<W.heap.size->w1.heap[b]?=W.heap[b]?:=λb hbl=>by
  by_cases h0:S0 b
  .exact(atz.2 b b (hid b h0) (ayl b h0).1 (ayl b h0).2).2
  .exact hS1.keep b hbl h0
 have hend:∀w2,Go.Conc.AtRel w1 w2->AtEnd prog (ShL aT) w1.heap.size (ahc W) (Gl [y] []) w2:=λw2 ⟨d,e⟩=>by
  subst e;exact⟨rfl,_,_,ayn _,λe he=>(abk e he).elim,rfl,awo hS1.os,rfl,auL hS1.os,hS1.sz,hblk⟩
 obtain⟨N2,last,o,w2,t2,hr2,hn2,hs2,hg2⟩:=beside_ends (D:=DC0) (Shun:=ShL aT) (B:=w1.heap.size) (Post:=ahc W) (sl:=sl1) (n:=0) (λw w' es h e he=>by rw[h.2] at he;simp at he) ha1 hL1 hP1.past (pR hend);refine⟨N1+N2,last,o,w2,t2, ?_, ?_,hs2,hg2⟩
 .rw[tK,runNT_add,show runNT prog N1 (solo (G (Frame.enter prog f args .normal) []) W) #[]=_ from hr1];exact hr2
 .have hn1:runN prog N1 (solo (G (Frame.enter prog f args .normal) []) W)=.next (crowd gs1 w1 sl1):=by
   rw[<-runNT_fst _ _ _ #[],show runNT prog N1 (solo (G (Frame.enter prog f args .normal) []) W) #[]=_ from hr1]
  rw[runN_add,hn1];exact hn2
end
section
open Go Go.RowKit Go.ChangeShapes Go.WideShapes Go.ChangeAt Go.Deep
def LXs(g0:Nat)(es' es:List Value):Prop:=es'.length=es.length/\∀(j:Nat) u v,es'[j]?=some u->es[j]?=some v->LX g0 u v
def ac7{a:List Value}(h:LXs g0 a [v]):∃u,a=[u]/\LX g0 u v:=by
 obtain⟨b,c⟩:=h
 match a,b with
 |[u],_=>exact⟨u,rfl,c 0 u v rfl rfl⟩
def LXs.take{a b:List Value}(h:LXs g0 a b)(n:Nat):LXs g0 (a.take n) (b.take n):=by
 refine⟨by rw[lm,lm,h.1],λj u v c d=> ?_⟩;rw[qA] at c d;split at c
 .rename_i e;rw[dj e] at d;exact h.2 j u v c d
 .cases c
def LXs.drop{a b:List Value}(h:LXs g0 a b)(n:Nat):LXs g0 (a.drop n) (b.drop n):=by
 refine⟨by rw[pQ,pQ,h.1],λj u v d c=> ?_⟩;rw[uj] at d c;exact h.2 _ u v d c
def ara{g0:Nat}{WL:World}:∀{es:List Value} {a:Addr} {i:Nat},(∀(j:Nat) v,es[j]?=some v->∃u,WL.cell? (a.add (i+j))=some u/\LX g0 u v)->∃c:List Value,LXs g0 c es/\∀(j:Nat) u,c[j]?=some u->WL.cell? (a.add (i+j))=some u
 |[],_,_,_=>⟨[],⟨rfl,λj u v e=>by simp at e⟩,λj u e=>by simp at e⟩
 |v::es,a,i,h=>by
  obtain⟨u,l,f⟩:=h 0 v rfl;obtain⟨c,⟨g,k⟩,m⟩:=ara (es:=es) (a:=a) (i:=i+1) λj x b=>by
   rw[show i+1+j=i+(j+1) by omega];exact h (j+1) x (by simpa using b)
  refine⟨u::c,⟨by rw[mp,mp,g],λj x y b d=> ?_⟩,λj x b=> ?_⟩
  .cases j with
   |zero=>
    simp at b d;subst b d;exact f
   |succ j=>exact k j x y (by simpa using b) (by simpa using d)
  .cases j with
   |zero=>simp at b;subst b;exact l
   |succ j=>
    have:=m j x (by simpa using b)
    rwa [show i+1+j=i+(j+1) by omega] at this
def cI{H:Type}(enc:TypeId×Value->H)(P:Program)(w wL:World)(g0:Nat)(t:TypeId){α:Type}(E:eX α):Prop:=
 ∀(base:Nat) (d:Bool) (b:Nat) (e:List Value) (x:DataW H×List MemPlace),DataW.trod enc P w base (λ_=>true) d b t e=some x->(∀p∈x.2,p.block<w.heap.size)->
  (∀v∈e,plX (dn w) v)/\∀c,LXs g0 c e->∃a:α,E wL 0 wL.heap.size a c
section
variable {H:Type} {enc:TypeId×Value->H} {P:Program} {w wL:World} {g0:Nat}
def iB(i:P.underlying t=some (.int .i64)):cI enc P w wL g0 t gu:=by
 intro base b c l x h _;obtain⟨n,rfl,_,d⟩:=DataW.trod_int i h;refine⟨λv j=> ?_,λf k=> ?_⟩
 .rw[gE.1 j];show IntKind.i64 ≠ .u8
  decide
 .obtain⟨u,rfl,g⟩:=ac7 k;rcases g with rfl|⟨a,e,_⟩
  .exact⟨n,rfl,vy d⟩
  .cases e
def aeE(i:P.underlying t=some .string):cI enc P w wL g0 t au6:=by
 intro base b c l x h _;obtain⟨s,rfl,_,d⟩:=DataW.trod_string i h;refine⟨λv j=> ?_,λf k=> ?_⟩
 .rw[gE.1 j];trivial
 .obtain⟨u,rfl,g⟩:=ac7 k;rcases g with rfl|⟨a,e,_⟩
  .exact⟨s,rfl,d⟩
  .cases e
def cI.map{β : Type}{g:eX β}(h:cI enc P w wL g0 t E)(f:T->β)(j:∀a e,E wL 0 wL.heap.size a e->g wL 0 wL.heap.size (f a) e):cI enc P w wL g0 t g:=by
 intro base c d e x l i;obtain⟨n,k⟩:=h base c d e x l i;refine⟨n,λb o=> ?_⟩;obtain⟨a,m⟩:=k b o;exact⟨f a,j a b m⟩
def fu(hV:abp w (dn w) g0 wL){e : TypeId}(ht:P.underlying t=some (.slice e))(hc:P.cellsOf e=Y)(a7:0<Y)(hE:cI enc P w wL g0 e E):cI enc P w wL g0 t (cJ E Y):=by
 intro base o a6 cs x h hp;rcases open_slice ht h with⟨rfl,rfl⟩|⟨a,len,cap,m,n,D,Pl,rfl,hb,hl,hm,Z,rfl,hi⟩
 .refine⟨λv B=> ?_,λd f=> ?_⟩
  .rw[gE.1 B];trivial
  .obtain⟨u,rfl,g⟩:=ac7 f;rcases g with rfl|⟨a,e,_⟩
   .exact⟨[],none,0,rfl,ap _,by unfold maxLen;omega,λh=>absurd h (by simp)⟩
   .cases e
 .have aa:m=cap:=by rw[Z];rfl
  have O:∀i,i<m->∃d,d.length=Y/\DataW.trod enc P w base (λ_=>true) o n e d=some (D i,Pl i)/\∀j u,d[j]?=some u->w.cell? ((a.add (i*Y)).add j)=some u:=λi L=>by
   obtain⟨d,f,V⟩:=hi i L;rw[hc] at f;obtain⟨_,O,a0⟩:=World.cells?_some f;exact⟨d,O,V,λj u g=>by rw[a0 j (by have:=aH g;omega)];exact g⟩
  have I:0<m->dn w a.block:=λR=>by
   obtain⟨es,C,_,r⟩:=O 0 R;obtain⟨u,g⟩:=ar (l:=es) (k:=0) (by omega);have:=fV (r 0 u g)
   rwa [qw,qw] at this
  refine⟨λv B=> ?_,λd f=> ?_⟩
  .rw[gE.1 B];rcases mu cap with R|R
   .exact .inr ⟨by omega,R⟩
   .exact .inl (I (by omega))
  .obtain⟨u,rfl,g⟩:=ac7 f;rcases g with rfl|⟨a',e',rfl⟩
   .have U:∀i,i<len->∃(y:T) (es:List Value),es.length=Y/\E wL 0 wL.heap.size y es/\∀j u,es[j]?=some u->wL.cell? ((a.add (i*Y)).add j)=some u:=by
     intro i L;obtain⟨es,C,F,r⟩:=O i (by omega);obtain⟨g1,g2⟩:=hE base o n es _ F (λp a1=>hp p (by
      refine qL _ (pa.2 ⟨i,ph.2 (by omega),a1⟩)))
     obtain⟨J,k1,k2⟩:=ara (WL:=wL) (g0:=g0) (es:=es) (a:=a.add (i*Y)) (i:=0) λj v B=>by
      rw[pb];have N:=r j v B;exact hV.cell _ v N (fV N) (g1 v (da B))
     obtain⟨y,K⟩:=g2 J k1;exact⟨y,J,k1.1.trans C,K,λj u g=>by have:=k2 j u g;rwa [pb] at this⟩
    have M:∀k,k<=len->∃s:List T,s.length=k/\∀i y,s[i]?=some y->∃es:List Value,es.length=Y/\E wL 0 wL.heap.size y es/\∀j u,es[j]?=some u->wL.cell? ((a.add (i*Y)).add j)=some u:=by
     intro k
     induction k with
     |zero=>intro _;exact⟨[],rfl,λi y K=>by simp at K⟩
     |succ k ih=>
      intro hk;obtain⟨s,c,Q⟩:=ih (by omega);obtain⟨y,es,C,F,r⟩:=U k (by omega);refine⟨s++[y],by simp[c],λi z A=> ?_⟩;by_cases a9:i<k
      .rw[pV (by omega)] at A;exact Q i z A
      .have X:=aH A;simp[c] at X;obtain rfl:i=k:=by omega
       rw[pK (by omega),c] at A;simp at A;subst A;exact⟨es,C,F,r⟩
    obtain⟨s,c,Q⟩:=M len (ap _);refine⟨s,some a,cap,by rw[c],by omega,hm,λa4=> ?_⟩;rw[c] at a4;obtain⟨y0,W⟩:=ar (l:=s) (k:=0) (by omega);obtain⟨a3,a8,_,S⟩:=Q 0 y0 W;obtain⟨u0,a5⟩:=ar (l:=a3) (k:=0) (by omega);have H:=S 0 u0 a5;obtain⟨b,a2,G⟩:=a;have q:G=none:=by simpa[Addr.add] using World.cell?_spot H
    subst q;refine⟨b,a2,rfl,fb _, ?_,λi y K=> ?_⟩
    .have:=eJ H;simpa[Addr.add] using this
    .obtain⟨es,C,F,r⟩:=Q i y K;refine⟨es,C,F,λj u g=> ?_⟩;have:=r j u g;simpa[add_plain,tK] using this
   .cases e';exact⟨[],some ⟨g0,0,none⟩,0,rfl,ap _,by unfold maxLen;omega,λh=>absurd h (by simp)⟩
def eU {j k:Field} {β : Type} {A:eX T} {B:eX β} (c r:Nat) (F:P.underlying t=some (.struct #[j,k])) (D:P.cellsOf t=c+r) (N:j.offset=0) (c0:P.cellsOf j.type=c) (K:k.offset=c) (c1:P.cellsOf k.type=r)
  (G:cI enc P w wL g0 j.type A) (I:cI enc P w wL g0 k.type B):cI enc P w wL g0 t (R2 A c B):=by
 intro base d z q x h u;obtain⟨M,n,_,rfl,f,o,y⟩:=DataW.trod_struct F h
 match M,o with
 |[y0,y1],_=>
  have s:=y 0 j rfl;have m:=y 1 k rfl;rw[N,c0,qp] at s;rw[K,c1] at m;have e:(q.drop c).take r=q.drop c:=nf (by rw[pQ,f,D];omega);rw[e] at m;obtain⟨O,E⟩:=G base d n _ y0 s (λp g=>u p (by simp[g]));obtain⟨L,J⟩:=I base d n _ y1 m (λp g=>u p (by simp[g]));refine⟨λv C=> ?_,λl i=> ?_⟩
  .rw[<-pH c q] at C;exact(jt.1 C).elim (O v) (L v)
  .obtain⟨a,Q⟩:=E _ (i.take c);obtain⟨b,H⟩:=J _ (i.drop c);exact⟨(a,b),l.take c,l.drop c,(pH _ _).symm,by rw[lm,i.1,f,D];omega,Q,H⟩
theorem aeF {t:TypeId} {f0 f1 f2:Field} {α β γ:Type} {A:eX α} {B:eX β} {C:eX γ} (n0 n1 n2:Nat) (ht:P.underlying t=some (.struct #[f0,f1,f2])) (hc:P.cellsOf t=n0+n1+n2) (o0:f0.offset=0) (c0:P.cellsOf f0.type=n0) (o1:f1.offset=n0) (c1:P.cellsOf f1.type=n1) (o2:f2.offset=n0+n1) (c2:P.cellsOf f2.type=n2)
  (h0:cI enc P w wL g0 f0.type A) (h1:cI enc P w wL g0 f1.type B) (h2:cI enc P w wL g0 f2.type C):cI enc P w wL g0 t (R3 A n0 B n1 C):=by
 intro base held fuel cs x h hp
 obtain ⟨xs,n,_,rfl,hlen,hxl,hf⟩:=DataW.trod_struct ht h
 match xs,hxl with
 | [y0,y1,y2],_=>
  have k0:=hf 0 f0 rfl
  have k1:=hf 1 f1 rfl
  have k2:=hf 2 f2 rfl
  rw [o0,c0,qp] at k0
  rw [o1,c1] at k1
  rw [o2,c2] at k2
  have e:(cs.drop (n0+n1)).take n2=(cs.drop n0).drop n1:=by rw [List.drop_drop];exact nf (by rw [pQ,hlen,hc];omega)
  rw [e] at k2
  obtain ⟨p0,q0⟩:=h0 base held n _ y0 k0 (fun p hpp=>hp p (by simp [hpp]))
  obtain ⟨p1,q1⟩:=h1 base held n _ y1 k1 (fun p hpp=>hp p (by simp [hpp]))
  obtain ⟨p2,q2⟩:=h2 base held n _ y2 k2 (fun p hpp=>hp p (by simp [hpp]))
  refine ⟨fun v hv=> ?_,fun cs' hcs=> ?_⟩
  .rw [←pH n0 cs] at hv
   rcases jt.1 hv with hv | hv
   .exact p0 v hv
   .rw [←pH n1 (cs.drop n0)] at hv
    exact (jt.1 hv).elim (p1 v) (p2 v)
  .obtain ⟨a,ha⟩:=q0 _ (hcs.take n0)
   obtain ⟨b,hb⟩:=q1 _ ((hcs.drop n0).take n1)
   obtain ⟨c,hcc⟩:=q2 _ ((hcs.drop n0).drop n1)
   exact ⟨(a,b,c),cs'.take n0,(cs'.drop n0).take n1,(cs'.drop n0).drop n1,by rw [pH,pH],by rw [lm,hcs.1,hlen,hc];omega,by rw [lm,pQ,hcs.1,hlen,hc];omega,ha,hb,hcc⟩
end
end
section
open Go.RowKit Go.ChangeShapes Go.WideShapes Go.ChangeAt Go.Conc
section
variable {H:Type} {enc:TypeId×Value->H} {P:Program}
def abq{w:World}{a:Nat->Bool}:∀{b:List String} {c:List (DataW H)} {i:List MemPlace},DataW.TrodVars enc P w a b c i->c.length=b.length
 |[],[],_,_=>rfl
 |[],_::_,_,h=>h.elim
 |_::_,[],_,h=>h.elim
 |n::b,d::c,i,h=>by
  obtain⟨g,t,o,f,p,q,r,k,l,m,j,e⟩:=h;rw[mp,mp,abq j]
theorem aoo {f:Func} {s:ChangeSpec} {b:Bool} {W u:World} {args:Array Value} {i gs:List (DataW H)} {a:List MemPlace} {o:TypeId}
  (r:laidOutB P=true) (w:∀t∈f.params.toList,P.readableRec t=true/\t<P.types.size) (e:f.resultTypes=#[o]) (n:P.underlying o=some .bool) (m:varsRowed P s.vars=true)
  (c:s.fn H (i++gs)={results:=[.lit (.bool true)],args:=i,vars:=gs})
  (k:DataW.Whole enc P f.params.toList s.vars b W args.toList i gs a) (j:Below W.heap.size W u) :
  s.post enc P f b true false false W args (.bool true) u:=by
 have d:∀p∈a,p.block<W.heap.size:=λp v=>by simpa using k.lt p v
 have l:=k;obtain⟨p,q,B,z,rfl,A,y⟩:=k;refine⟨i,gs,p++q,[],p,q,l, ?_, ?_, ?_,World.keptBut_mono (λx g=>g.elim) (j.frame λ_=>False),λh=>by cases h⟩
 .rw[c,e];exact trodAll_mk1 (shut_bool n _)
 .rw[c];exact oH r w B (λx g=>j.same (d x (by simp[g]))) (λx g=>by simpa using d x (by simp[g]))
 .rw[c];exact j.trodVars r m z
end
def vZ (i:Looks) {p:Pinned} {s:OpenSpec} {c:OpenClaim} (k:List (List PathCond)) (kinds:List LaidKind) (a:Bool) (b:Bool×String) (d:Bool)
  (A:c.holds p s) (n:∀D∈k,(c.withDomain D).holds p s) (x:c.wfByText s=true) (l:∀D∈k,(c.withDomain D).wfByText s=true)
  (m:c.laidByTextAt i p kinds a)
  (e:c.start=.entering) (g:c.noBlocks=false/\c.again=false) (v:p.checked.prog.mainIs=some (b.1,b.2.toList)) (z:(!b.1&&b.2.isEmpty&&!d)=false)
  (o:∀f q,p.checked.prog.funcNamed c.func=some f->p.checked.prog.funcs[f]?=some q->d=p.checked.prog.looks []/\∀(j:Nat) t,q.params[j]?=some t->p.checked.prog.wantsStandIn t=false)
  (y:true=c.goesBy p.checked.prog) :
  Claim7.holds p (.plain s) {stood:={row:=c,standIns:=[],harness:=b,looks:=d},kinds:=[],alts:=k,goes:=true,laidByText:=true,laidKinds:=kinds,laidTests:=a,laidLooks:=i}:=by
 have w:∀r:OpenClaim,Claim7.isSixth {stood:={row:=r,standIns:=[],harness:=b,looks:=d},kinds:=[]}=false:=λr=>by simpa[Claim7.isSixth] using z
 refine⟨Claim7.tied_new_at i kinds a (vm A b d e g v (w c) o) x,λD u=> ?_,m,(λh=>by cases h),y⟩;exact Claim7.tied_new_at i kinds a (vm (n D u) b d e g v (w _) o) (l D u)
abbrev laidL:List (String×DataW Unit):=[("unicode/utf8.acceptRanges",Rows.laid_unicode_utf8_acceptRanges),("loop.example/depositary/impl.errPiece",Rows.laid_loop_example_depositary_impl_errPiece),("loop.example/depositary/impl.errKey",Rows.laid_loop_example_depositary_impl_errKey),("unicode/utf8.first",Rows.laid_unicode_utf8_first)]
def wv(os:Os)(args:Array Value):laidMetH prog laidL ((World.laidAll prog os laidL).forCall (λ_ _=>0) ⟨#[],args,[]⟩).memory:=by
 rw[uv _ _ _ (by kernel_rfl)];exact laidMet_laidAll _ (by kernel_rfl) (by kernel_rfl)
end
section
open Go Go.Conc Go.RowKit Go.ChangeShapes Go.WideShapes Go.ChangeAt
def aop:decide (prog.globals.size<(begin prog (λ_ _=>0) default).world.heap.size)=true:=by kernel_rfl
def ayo{W:World}(h:W.ShapedOpen prog):gN<=W.heap.size:=by
 have b:=tz aop;obtain⟨o,c,a, -⟩:=h.2 _ (ap _) b;have:=(db.1 a).1;unfold gN;omega
def ayp(k:FuncId)(W:World)(args:Array Value):Prop:=
 ∃a,a∈gL/\a<gN/\(∀g∈gL,dn W g)/\lq (dn W) args.toList/\
  ∀b:World,abp W (dn W) a b->∀t:Tape,Calls (aj true) k args (b.tap t) λe _=>∃v,e=.returned v/\v=.bool true
def vI (hF:dN Z) (D:∀R nm,Z R [] nm=(⟨#[]⟩,false)) {os:Os} {k:FuncId} {f:Func} {kt:Tmp} {s:ChangeSpec}   {enc:TypeId×Value->H} {X:World->Array Value->Prop}
  (hX:∀(w w':World) (args:Array Value),w.heap=w'.heap->X w args->X w' args)
  (E:ownKnob prog.godebug=none) (b:os.Started) (U:prog.inits.idxOf? k=none) (m:prog.funcs[k]?=some f) (hq:(aj true).funcs[k]?=some f) (G:gH k=false) (O:f.results=#[.tmp kt])
  (hl:laidOutB prog=true) (hr:(f.params.toList.all λt=>prog.readableRec t&&decide (t<prog.types.size))=true) (r:f.resultTypes=#[ty]) (K:prog.underlying ty=some .bool) (Q:varsRowed prog s.vars=true)
  (J:∀g n:List (DataW H),g.length=f.params.toList.length->n.length=s.vars.length->s.fn H (g++n)={results:=[.lit (.bool true)],args:=g,vars:=n})
  (c:∃(w:World) (a:Tape) (i:Input),w.os=os/\(w.forCall a i).Shaped prog/\i.vars=[]/\Input.okWide prog (w.forCall a i) .any w.heap.size k i/\
   ((s.pre enc prog f [] S (w.forCall a i).memory i.args/\X (w.forCall a i).memory i.args)/\sizedMet enc prog f (OpenSpec.ofChange s) S (w.forCall a i).memory i.args)/\Assume.holds {} prog (lone (Frame.enter prog k i.args .normal) [] (w.forCall a i)))
  (y:∀(W:World) (base:Nat) (args:Array Value) (g:List (DataW H)) (p:List MemPlace),
   (∀(j:Nat) t v,f.params[j]?=some t->args[j]?=some v->Value.okWide prog W .any base t v)->
   DataW.TrodAll enc prog W 0 (λ_=>true) true f.params.toList args.toList g p->(∀x∈p,x.block<W.heap.size)->X W args->ayp k W args) :
  ReturnsInLeavingWide {} Tryz.checked os k .any (λw args=>(s.pre enc prog f [] S w args/\X w args)/\sizedMet enc prog f (OpenSpec.ofChange s) S w args) (s.post enc prog f S true false false):=by
 refine returnsInLeavingWide_of_good E b c ?_;intro w a i _ nQ _ I P _;obtain⟨_,_,_,V,A,_,_,_,_,u⟩:=I;have e:V=f:=de (A.symm.trans m);subst e;obtain⟨⟨⟨g,n,d,hw,hc⟩,F⟩,hz⟩:=P;have l:=DataW.Whole.of_heap (w':=w.forCall a i) (by rfl) hw;have z:X (w.forCall a i) i.args:=hX _ _ _ (by rfl) F;have L:∀p∈d,p.block<(w.forCall a i).heap.size:=λp T=>by simpa using l.lt p T
 have B:∀t∈V.params.toList,prog.readableRec t=true/\t<prog.types.size:=λt ht=>by
  have:=ip.1 hr t ht;simpa using this
 obtain⟨p,q,Y,hV,M,a1,a0⟩:=id l;obtain⟨g0,k1,k2,k3,k4,k5⟩:=y (w.forCall a i) w.heap.size i.args g p u Y (λx F=>L x (by rw[M];simp[F])) z;obtain⟨N,last,o,w',t',g1,g2,g3,g4⟩:=aon hF D k1 k2 (λ_ h=>h) k3 (ayo nQ) k4 G m hq O U k5;refine⟨N,last,o,w',t',g1,g2,g3,g4.mono λv hv=> ?_⟩;obtain⟨rfl,C⟩:=hv;have T:=aoo hl B r K Q (J g n (aca Y) (abq hV)) l C;have C:=ChangeSpec.post_blind T;exact C
end
section
open Go.RowKit Go.ChangeAt
def ayq:∀g∈gL,g=0\/g=1:=by
 have h:(gL.all λg=>g ==0||g ==1)=true:=by unfold gL;kernel_rfl
 intro g a;have:=ip.1 h g a;simpa using this
def ai7{P:Program}{w:World}{n:String}{d:DataW Unit}:∀{l:List (String×DataW Unit)} {f:List MemPlace},DataW.LaidVars P w l f->(n,d)∈l->
  ∃g t b a p,P.globalNamed n=some g/\(P.globals[g]?).map (·.type)=some t/\w.var? P n=some b/\DataW.trod (λ_=>()) P w 0 (λ_=>true) false a t b.toList=some (d,p)
 |[],_,_,h=>by cases h
 |(m,e)::l,f,h,c=>by
  obtain⟨g,t,b,a,p,q,r,i,k,o,s, -⟩:=h;rcases lw.1 c with j|c
  .cases j;exact⟨g,t,b,a,p,r,i,k,o⟩
  .exact ai7 s c
def arc{d:DataW Unit}(b:∃m,P.underlying t=some (.interface m)):DataW.trod (λ_=>()) P w 0 (λ_=>true) false Y t []≠some (d,p):=by
 obtain⟨m,a⟩:=b;cases Y with
 |zero=>simp[DataW.trod]
 |succ f=>simp[DataW.trod,a]
def atA{n:String}{cs:Array Value}{g:Nat}(a:P.globalNamed n=some g)(h:w.var? P n=some cs):∃t z,w.heap[g]?=some (.cells cs t z):=by
 unfold World.var? at h;rw[a] at h;simp only[pY] at h;split at h
 .rename_i c t z b;cases h;exact⟨t,z,b⟩
 .cases h
def atB:∃m,prog.underlying 207=some (.interface m):=⟨_,underlying207⟩
def atC:prog.globalNamed "loop.example/depositary/impl.errKey" =some 0:=by kernel_rfl
def aoq:prog.globalNamed "loop.example/depositary/impl.errPiece" =some 1:=by kernel_rfl
def ard:(prog.globals[0]?).map (·.type)=some 207:=by kernel_rfl
def alo:(prog.globals[1]?).map (·.type)=some 207:=by kernel_rfl
def ai8:(laidL.all λx=>x.2.handleName?.isNone)=true:=by kernel_rfl
def wt{W:World}(j:laidMetH prog laidL W):(∀g∈gL,dn W g)/\Glo W:=by
 rw[uv _ _ _ ai8] at j;obtain⟨A,w, -, -⟩:=j;have one:∀{n:String} {d:DataW Unit} {a:Nat},(n,d)∈laidL->prog.globalNamed n=some a->(prog.globals[a]?).map (·.type)=some 207->dn W a/\∃x,W.cell? ⟨a,0,none⟩=some x:=λ{n d a} v i y=>by
  obtain⟨g,t,b,k,p,q,e,s,o⟩:=ai7 w v;rw[i] at q;cases q;rw[y] at e;cases e;obtain⟨t,z,f⟩:=atA i s;refine⟨⟨b,t,z,f⟩, ?_⟩;cases r:b.toList with
  |nil=>rw[r] at o;exact absurd o (arc atB)
  |cons x l=>
   refine⟨x, ?_⟩;unfold World.cell?;rw[f];show b[0]?=some x;rw[<-dl,r];rfl
 have m:=one (n:= "loop.example/depositary/impl.errKey") (d:=Rows.laid_loop_example_depositary_impl_errKey) (by simp[laidL]) atC ard;have c:=one (n:= "loop.example/depositary/impl.errPiece") (d:=Rows.laid_loop_example_depositary_impl_errPiece) (by simp[laidL]) aoq alo;refine⟨λg u=> ?_,m.2,c.2⟩;rcases ayq g u with rfl|rfl
 .exact m.1
 .exact c.1
def abp.glo{W WL:World}(h:abp W (dn W) g0 WL)(a:∀g∈gL,dn W g)(b:Glo W)(j:0∈gL)(e:1∈gL):Glo WL:=by
 have one:∀{g:Nat},dn W g->(∃x,W.cell? ⟨g,0,none⟩=some x)->∃x,WL.cell? ⟨g,0,none⟩=some x:=λ{g} a ⟨x,hx⟩=>by
  obtain⟨c,f,t,z,k,d,i,l⟩:=h.row g a;unfold World.cell? at hx ⊢;dsimp only at hx ⊢;rw[d] at hx;rw[i];have:0<c.size:=(db.1 (show c[0]?=some x from hx)).1;exact⟨f[0]'(by omega),ff (by omega)⟩
 exact⟨one (a _ j) b.key,one (a _ e) b.piece⟩
def arf{W:World}{e : TypeId}(f:P.underlying t=some (.slice e))(b:Cell.ok P W .any b0 t v):ClV (dn W) v:=by
 unfold Cell.ok at b;rw[f] at b;cases v with
 |slice A n c=>
  cases A with
  |none=>exact .abo _ _
  |some a=>
   obtain⟨-, -, -, -,g,cells,d, -⟩:=b;refine .slice ?_ _ _;unfold World.shape? at d;split at d
   .rename_i i t z j;exact⟨i,t,z,j⟩
   .cases d
 |_=>exact b.elim
def slB(P:Program)(t:TypeId):Bool:=
 match P.cellTypes P.depth t with
 |some a=>a.all λu=>match P.underlying u with
  |some (.slice _)=>true
  |_=>false
 |none=>false
def aor{W:World}{l:Array Field}(k:P.underlying t=some (.struct l))(b:slB P t=true)(f:Value.okWide P W .any b0 t v):ClV (dn W) v:=by
 simp only[Value.okWide,k] at f;obtain⟨q,rfl, -,p,o, -,m⟩:=f;refine .agg (lq.of λx n=> ?_);obtain⟨i,d⟩:=qk.1 n;rw[dl] at d;obtain⟨u,j,a⟩:=m i x d;unfold slB at b;rw[o] at b;have c:=ip.1 b u (da j);split at c
 .rename_i e g;refine arf (b0:=b0) g ?_;unfold Cell.okWide at a;rw[g] at a;exact a
 .cases c
def yy:0<gN:=by
 unfold gN;exact tz (by kernel_rfl)
def cI.arg{enc:TypeId×Value->H}(e:cI enc P w W g0 t E){base:Nat}{d:DataW H}(h:DataW.Trod enc P w base (λ_=>true) S t v d p)(c:∀x∈p,x.block<w.heap.size):∃a,E W 0 W.heap.size a v.cells.toList:=by
 obtain⟨b,f⟩:=h;exact(e base S b _ _ f c).2 _ ⟨rfl,λj u v g i=>.inl (de (g.symm.trans i))⟩
end
section
open Go.RowKit Go.ChangeShapes Go.WideShapes Go.ChangeAt
def ahd{enc:TypeId×Value->H}(f:abp w (dn w) g0 W):cI enc prog w W g0 42 cK:=by
 have e:cI enc prog w W g0 189 (R2 gu 1 au6):=eU 1 1 underlying189 (by kernel_rfl) rfl (by kernel_rfl) rfl (by kernel_rfl) (iB underlying3) (aeE underlying9);have g:cI enc prog w W g0 95 di:=fu f underlying95 (by kernel_rfl) (by decide) (e.map (λx=>(⟨x.1,x.2⟩:It)) λa k ⟨c0,c1,he,_,h0,h1⟩=>by
  obtain⟨rfl,b⟩:=h0;obtain⟨rfl,j⟩:=h1;exact⟨by rw[he];rfl,b,j⟩)
 have d:cI enc prog w W g0 97 (R2 gu 1 di):=eU 1 1 underlying97 (by kernel_rfl) rfl (by kernel_rfl) rfl (by kernel_rfl) (iB underlying3) g;exact fu f underlying42 (by kernel_rfl) (by decide) (d.map (λx=>(⟨x.1,x.2⟩:Pk)) λa k ⟨c0,c1,he,_,h0,h1⟩=>by
  obtain⟨rfl,b⟩:=h0;obtain⟨A,c,rfl,i⟩:=h1;exact⟨_,by rw[he];rfl,b,A,c,rfl,i⟩)
def ahe{enc:TypeId×Value->H}(d:abp w (dn w) g0 W):cI enc prog w W g0 46 (R3 cK 1 dm 1 eh):=by
 have n:cI enc prog w W g0 31 (cJ gu 1):=fu d underlying31 (by kernel_rfl) (by decide) (iB underlying3);have i:cI enc prog w W g0 191 (R2 au6 1 (cJ gu 1)):=eU 1 1 underlying191 (by kernel_rfl) rfl (by kernel_rfl) rfl (by kernel_rfl) (aeE underlying9) n;have o:cI enc prog w W g0 99 bK:=fu d underlying99 (by kernel_rfl) (by decide) (i.map (λx=>(⟨x.1,x.2⟩:Ls)) λa j ⟨c0,c1,he,_,h0,h1⟩=>by
  obtain⟨rfl,b⟩:=h0;obtain⟨A,c,rfl,e⟩:=h1;exact⟨_,by rw[he];rfl,b,A,c,rfl,e⟩)
 have g:cI enc prog w W g0 101 (R2 gu 1 bK):=eU 1 1 underlying101 (by kernel_rfl) rfl (by kernel_rfl) rfl (by kernel_rfl) (iB underlying3) o;have m:cI enc prog w W g0 43 dm:=fu d underlying43 (by kernel_rfl) (by decide) (g.map (λx=>(⟨x.1,x.2⟩:Sn)) λa j ⟨c0,c1,he,_,h0,h1⟩=>by
  obtain⟨rfl,b⟩:=h0;obtain⟨A,c,rfl,e⟩:=h1;exact⟨_,by rw[he];rfl,b,A,c,rfl,e⟩)
 have f:cI enc prog w W g0 105 (R2 gu 1 gu):=eU 1 1 underlying105 (by kernel_rfl) rfl (by kernel_rfl) rfl (by kernel_rfl) (iB underlying3) (iB underlying3);have k:cI enc prog w W g0 44 eh:=fu d underlying44 (by kernel_rfl) (by decide) (f.map (λx=>(⟨x.1,x.2⟩:Hd)) λa j ⟨c0,c1,he,_,h0,h1⟩=>by
  obtain⟨rfl,b⟩:=h0;obtain⟨rfl,l⟩:=h1;exact⟨by rw[he];rfl,b,l⟩)
 exact aeF 1 1 1 underlying46 (by kernel_rfl) rfl (by kernel_rfl) rfl (by kernel_rfl) rfl (by kernel_rfl) (ahd d) m k
def wR{W:World}(a:Value.okWide prog W .any b0 46 v):ClV (dn W) v:=aor underlying46 (by kernel_rfl) a
def vH {enc:TypeId×Value->H}  (F:abp w (dn w) g0 W) {base:Nat}  {t:Reach} {d:DataW H} 
  (z:Value.okWide prog w t b0 46 v) (h:DataW.Trod enc prog w base (λ_=>true) S 46 v d p) (f:∀x∈p,x.block<w.heap.size):∃s:gC,agD W 0 W.heap.size s v:=by
 obtain⟨m,rfl,y⟩:=okWide_struct underlying46 z;have E:=ahe (H:=H) (enc:=enc) F;obtain⟨⟨j,g,i⟩,G,r,u,k,_,_,D,q,I⟩:=E.arg h f;obtain⟨A,a,n⟩:=D;obtain⟨B,b,o⟩:=q;obtain⟨C,c,l⟩:=I;refine⟨⟨j,g,i⟩,.slice A j.length a,.slice B g.length b,.slice C i.length c, ?_,⟨A,a,rfl,n.2⟩,⟨B,b,rfl,o.2⟩,⟨C,c,rfl,l.2⟩⟩;have e:m.toList=G++(r++u):=k;rw[n.1,o.1,l.1] at e;have:m=#[.slice A j.length a,.slice B g.length b,.slice C i.length c]:=by
  apply tS.1;rw[e];rfl
 rw[this]
end
section
open Go.RowKit
def wO:Tryz.pinned.checked.prog.mainIs=some (true, "4b07ddab0e2aa06f1e07655ecf29eb2407f2fb79b122da1f2d08244689efd3a4".toList):=by kernel_rfl
def xp:false=Tryz.pinned.checked.prog.looks []:=by kernel_rfl
end
section
open Go.Shelf Go.RowKit
variable {β:Bool}
def afY:(aj β).follows .mixedOrders=true:=by cases β<;>kernel_rfl
def acV:Go.Shelf.Ren:=⟨fun|189=>29|125=>51|257=>50|128=>85|129=>86|294=>76|295=>77|296=>78|297=>79|298=>80|299=>81|216=>82|300=>83|301=>84|328=>126|329=>127|330=>128|331=>129|332=>130|215=>131|343=>180|n=>n,fun|28=>31|3=>3|46=>93|0=>0|51=>138|53=>140|4=>4|183=>130|182=>129|131=>135|5=>5|9=>9|218=>182|222=>186|228=>238|229=>148|n=>n,fun|n=>n⟩
def acG:Go.Proofs.Lays.n189 (aj β) acV:={
 mixed:=afY
 f125:=qF51.trans (ef some (by kernel_rfl))
 f128:=qF85.trans (ef some (by kernel_rfl))
 f129:=qF86.trans (ef some (by kernel_rfl))
 f189:=qF29.trans (ef some (by kernel_rfl))
 f215:=qF131.trans (ef some (by kernel_rfl))
 f216:=qF82.trans (ef some (by kernel_rfl))
 f257:=qF50.trans (ef some (by kernel_rfl))
 f294:=qF76.trans (ef some (by kernel_rfl))
 f295:=qF77.trans (ef some (by kernel_rfl))
 f296:=qF78.trans (ef some (by kernel_rfl))
 f297:=qF79.trans (ef some (by kernel_rfl))
 f298:=qF80.trans (ef some (by kernel_rfl))
 f299:=qF81.trans (ef some (by kernel_rfl))
 f300:=qF83.trans (ef some (by kernel_rfl))
 f301:=qF84.trans (ef some (by kernel_rfl))
 f328:=qF126.trans (ef some (by kernel_rfl))
 f329:=qF127.trans (ef some (by kernel_rfl))
 f330:=qF128.trans (ef some (by kernel_rfl))
 f331:=qF129.trans (ef some (by kernel_rfl))
 f332:=qF130.trans (ef some (by kernel_rfl))
 f343:=qF180.trans (ef some (by kernel_rfl))
 t0:=qU0
 a0:=λw=>(cv _ w).trans (Tryz.isAgg0 w)
 z0:=λw=>(bJ _ w).trans (Tryz.sizeOf0 w)
 v0:=λw=>(aS _ w).trans (uJ w)
 t3:=qU3
 a3:=λw=>(cv _ w).trans (Tryz.isAgg3 w)
 z3:=λw=>(bJ _ w).trans (Tryz.sizeOf3 w)
 v3:=λw=>(aS _ w).trans (uI w)
 t4:=qU4
 a4:=λw=>(cv _ w).trans (Tryz.isAgg4 w)
 z4:=λw=>(bJ _ w).trans (Tryz.sizeOf4 w)
 v4:=λw=>(aS _ w).trans (uH w)
 t5:=qU5
 a5:=λw=>(cv _ w).trans (Tryz.isAgg5 w)
 z5:=λw=>(bJ _ w).trans (Tryz.sizeOf5 w)
 v5:=λw=>(aS _ w).trans (Tryz.zeroValue5 w)
 t9:=qU9
 a9:=λw=>(cv _ w).trans (Tryz.isAgg9 w)
 z9:=λw=>(bJ _ w).trans (Tryz.sizeOf9 w)
 v9:=λw=>(aS _ w).trans (Tryz.zeroValue9 w)
 t28:=vL
 a28:=λw=>(cv _ w).trans (Tryz.isAgg31 w)
 z28:=λw=>(bJ _ w).trans (Tryz.sizeOf31 w)
 v28:=λw=>(aS _ w).trans (Tryz.zeroValue31 w)
 t46:=yz
 a46:=λw=>(cv _ w).trans (Tryz.isAgg93 w)
 z46:=λw=>(bJ _ w).trans (Tryz.sizeOf93 w)
 v46:=λw=>(aS _ w).trans (Tryz.zeroValue93 w)
 t51:=xA
 a51:=λw=>(cv _ w).trans (Tryz.isAgg138 w)
 z51:=λw=>(bJ _ w).trans (Tryz.sizeOf138 w)
 v51:=λw=>(aS _ w).trans (Tryz.zeroValue138 w)
 t53:=xz
 a53:=λw=>(cv _ w).trans (Tryz.isAgg140 w)
 z53:=λw=>(bJ _ w).trans (Tryz.sizeOf140 w)
 v53:=λw=>(aS _ w).trans (Tryz.zeroValue140 w)
 t131:=xB
 a131:=λw=>(cv _ w).trans (Tryz.isAgg135 w)
 z131:=λw=>(bJ _ w).trans (Tryz.sizeOf135 w)
 v131:=λw=>(aS _ w).trans (Tryz.zeroValue135 w)
 t182:=xD
 a182:=λw=>(cv _ w).trans (Tryz.isAgg129 w)
 z182:=λw=>(bJ _ w).trans (Tryz.sizeOf129 w)
 v182:=λw=>(aS _ w).trans (Tryz.zeroValue129 w)
 t183:=xC
 a183:=λw=>(cv _ w).trans (Tryz.isAgg130 w)
 z183:=λw=>(bJ _ w).trans (Tryz.sizeOf130 w)
 v183:=λw=>(aS _ w).trans (Tryz.zeroValue130 w)
 t218:=xv
 a218:=λw=>(cv _ w).trans (Tryz.isAgg182 w)
 z218:=λw=>(bJ _ w).trans (Tryz.sizeOf182 w)
 v218:=λw=>(aS _ w).trans (Tryz.zeroValue182 w)
 t222:=xu
 a222:=λw=>(cv _ w).trans (Tryz.isAgg186 w)
 z222:=λw=>(bJ _ w).trans (Tryz.sizeOf186 w)
 v222:=λw=>(aS _ w).trans (Tryz.zeroValue186 w)
 t228:=xr
 a228:=λw=>(cv _ w).trans (Tryz.isAgg238 w)
 z228:=λw=>(bJ _ w).trans (Tryz.sizeOf238 w)
 v228:=λw=>(aS _ w).trans (Tryz.zeroValue238 w)
 t229:=xy
 a229:=λw=>(cv _ w).trans (Tryz.isAgg148 w)
 z229:=λw=>(bJ _ w).trans (Tryz.sizeOf148 w)
 v229:=λw=>(aS _ w).trans (Tryz.zeroValue148 w)}
open Go.Sort Go.RowKit in
def oy(a b cap:Nat)(d:List Int)(w:World)(j:Holds (Value.int .i64) w a b d.toArray)(c:a<w.heap.size)(f:d.length<4611686018427387904) :
  Calls (aj β) 29 #[.slice (some ⟨a,b,none⟩) d.length cap] w λe g=>
   e=.returned (.tuple #[])/\∃n i,g=grow (putRow (Value.int .i64) (Sort.ahead w n) a b (d.mergeSort λx y=>decide (x<=y)).toArray) i:=Any.slices_Sort_int acG a b cap d w j c f
def abr:Go.Shelf.Ren:=⟨fun|20=>30|n=>n,fun|22=>31|3=>3|4=>4|0=>0|n=>n,fun|n=>n⟩
def oX:Go.Proofs.Lays2.n20 (aj β) abr:={
 mixed:=afY
 f20:=qF30.trans (ef some (by kernel_rfl))
 t0:=qU0
 a0:=λw=>(cv _ w).trans (Tryz.isAgg0 w)
 z0:=λw=>(bJ _ w).trans (Tryz.sizeOf0 w)
 v0:=λw=>(aS _ w).trans (uJ w)
 t3:=qU3
 a3:=λw=>(cv _ w).trans (Tryz.isAgg3 w)
 z3:=λw=>(bJ _ w).trans (Tryz.sizeOf3 w)
 v3:=λw=>(aS _ w).trans (uI w)
 t4:=qU4
 a4:=λw=>(cv _ w).trans (Tryz.isAgg4 w)
 z4:=λw=>(bJ _ w).trans (Tryz.sizeOf4 w)
 v4:=λw=>(aS _ w).trans (uH w)
 t22:=vL
 a22:=λw=>(cv _ w).trans (Tryz.isAgg31 w)
 z22:=λw=>(bJ _ w).trans (Tryz.sizeOf31 w)
 v22:=λw=>(aS _ w).trans (Tryz.zeroValue31 w)
 i3:=by first|kernel_rfl|(cases β<;>kernel_rfl)}
open Go.RowKit Go.Lib Go.Sort in
def lY(b a cap:Nat)(c:List Int)(w:World)(i:Holds (Value.int .i64) w b a c.toArray)(f:c.length<=9223372036854775807)(d:c.length<=cap) :
  Calls (aj β) 30 #[.slice (some ⟨b,a,none⟩) c.length cap] w λe g=>e=.returned (.slice (some ⟨b,a,none⟩) (Lib.compact c).length cap)/\∃q,g=putRow (Value.int .i64) (Sort.ahead w q) b a (Lib.compact c++List.replicate (c.length-(Lib.compact c).length) 0).toArray:=Any.slices_Compact_int oX b a cap c w i f d
open Go.RowKit Go.Lib Go.Sort in
def jc(a:Option Addr)(cap:Nat)(w:World) :
  Calls (aj β) 30 #[.slice a 0 cap] w λe b=>e=.returned (.slice a 0 cap)/\b=w:=Any.slices_Compact_int_empty oX a cap w
open Go.RowKit Go.Sort in
def kO(p:Option Addr)(cap:Nat)(w:World) :
  Calls (aj β) 29 #[.slice p 0 cap] w λe a=>e=.returned (.tuple #[])/\a=w:=Any.slices_Sort_int_none acG p cap w
end
section
variable {β:Bool}
open Go.RowKit
def je(l:List Int):List Int:=l.mergeSort λx y=>decide (x<=y)
def lr(l:List Int):(je l).length=l.length:=List.length_mergeSort l
def arh{base:Nat}(p:aQ gv 3 w base v l)(q:l.length<4611686018427387904) :
  Calls (aj β) 29 #[v] w λe c=>e=.returned (.tuple #[])/\aQ gv 3 c base v (je l)/\jm (λb=>v.ownBlock=some b) w c:=by
 obtain⟨A,⟨rfl,x⟩|⟨g,cap,d,rfl,u,j,z,r,t,m⟩⟩:=p
 .obtain rfl:=pG.1 x;refine(kO none 0 w).mono ?_;rintro e c ⟨rfl,rfl⟩;refine⟨rfl, ?_,jm.refl _ _⟩;rw[show je []=[] from pG.1 (lr [])];exact aQ.nil _ _ _
 .have o:dt gv l=l.map (Value.int .i64):=jo l;rw[o] at m;have f:d.toList.take l.length=l.map (Value.int .i64):=by rw[<-m];show _=List.take (l.length*1) _;rw[sV]
  refine(oy g 0 cap l w (holds_of_blockI j f) (db.1 j).1 q).mono ?_;rintro e c ⟨rfl,n,os,rfl⟩;have a:=grownBy_sortedI (w:=w) (g:=g) (n:=n) (os:=os) (je l).toArray;refine⟨rfl, ?_,a.os,a.tape,a.output,a.size,λk y i=>a.block k y λe=>i (by cases e;rfl)⟩;have s:=ownsRow_sortedI (w:=w) (base:=base) (g:=g) (cap:=cap) (n:=n) (os:=os) (ss:=l) (ts:=je l) (lr l) u j z r t;unfold aQ;rw[jo,lr];exact s
def ai9{base:Nat}(F:aQ gv 3 w base v l)(G:l.length<=9223372036854775807) :
  Calls (aj β) 30 #[v] w λe d=>∃p,e=.returned p/\aQ gv 3 d base p (Lib.compact l)/\jm (λb=>v.ownBlock=some b) w d:=by
 obtain⟨L,⟨rfl,I⟩|⟨g,cap,j,rfl,t,s,x,A,H,u⟩⟩:=F
 .obtain rfl:=pG.1 I;refine(jc none 0 w).mono ?_;rintro e d ⟨rfl,rfl⟩;refine⟨_,rfl, ?_,jm.refl _ _⟩;rw[show Lib.compact ([]:List Int)=[] from pG.1 (Nat.le_zero.1 (tU []))];exact aQ.nil _ _ _
 .have E:dt gv l=l.map (Value.int .i64):=jo l;rw[E] at u;have f:j.toList.take l.length=l.map (Value.int .i64):=by rw[<-u];show _=List.take (l.length*1) _;rw[sV]
  have B:=tU l;refine(lY g 0 cap l w (holds_of_blockI s f) G x).mono ?_;rintro e d ⟨rfl,q,rfl⟩;have z:Sort.putRow (Value.int .i64) (Sort.ahead w q) g 0 (Lib.compact l++List.replicate (l.length-(Lib.compact l).length) 0).toArray=Sort.grow (Sort.putRow (Value.int .i64) (Sort.ahead w q) g 0 (Lib.compact l++List.replicate (l.length-(Lib.compact l).length) 0).toArray) #[]:=by rw[Sort.grow_empty]
  rw[z];have a:=grownBy_sortedI (w:=w) (g:=g) (n:=q) (os:=#[]) (Lib.compact l++List.replicate (l.length-(Lib.compact l).length) 0).toArray;refine⟨_,rfl, ?_,a.os,a.tape,a.output,a.size,λk C i=>a.block k C λe=>i (by cases e;rfl)⟩;obtain⟨-,⟨m, -⟩|⟨M,r,c,m, -,o,K,J,D,y⟩⟩:=ownsRow_sortedI (w:=w) (base:=base) (g:=g) (cap:=cap) (n:=q) (os:=#[]) (ss:=l) (ts:=Lib.compact l++List.replicate (l.length-(Lib.compact l).length) 0) (by simp;omega) t s x A H
  .cases m
  .cases m;unfold aQ;rw[jo];refine⟨by rw[pr];exact(sV _).symm,.inr ⟨g,cap,c,rfl,t,o,by omega,J,D, ?_⟩⟩;show List.take ((Lib.compact l).length*1) _=_;rw[sV] at y ⊢;have:=ef (List.take (Lib.compact l).length) y;rw[uQ,qx B,pI,List.take_left' (by rw[pr])] at this;exact this
end
end Go.Proofs.YtlggbfanooejbaaGreatDoor