/- A part of the proof. -/
import Derived.Test.YtpbbcfocomejmaaGreatDoorG7
import Derived.HandedShaped
import Derived.Carry
import Derived.Conc.Holds
import Derived.OpenVars
import Derived.LaidMore
import Derived.Lay
import Derived.SevenTiedAt
import Derived.Test.YtpbbcfocomejmaaGreatDoorTie
import Derived.Test.YtpbbcfocomejmaaGreatDoorCards
import Derived.Conc.WgGenN3
set_option maxRecDepth 100000
set_option maxHeartbeats 8000000
set_option linter.all false
open Go Go.Conc Go.ConcN Go.RowKit Go.Proofs.Tryz Go.Proofs.YtpbbcfocomejmaaGreatDoor
variable {Rr S:aq} {x:Ls} {Z N C b c hi i k m n:Nat} {key:Int} {ρ:Ren} {main:Bool} {v:Value} {w w' w0:World} {e t:TypeId} {f:FuncId} {P:Program} {l:List iw} {xs:List Ls} {U:Nat→Bool} {Rg:Nat→Prop} {dy:List Int} {g:Goroutine} {s:ByteArray} {z:Nat × Nat} {Q:List Value} {O:Array Oper} {u:Option Nat} {X T a cs y:Array Value} {A:Option Addr} {p:List MemPlace} {V St:Goroutine→World→Prop} {R:List Frame→World→Prop} {W:List (ByteArray × Bool)} {Y:Int→List iw→Int→ByteArray × Bool}
namespace Go.Proofs.YtpbbcfocomejmaaGreatDoor
def eg:=@_root_.Go.Conc.stepG_region_end
def ip:=@_root_.Go.Conc.stepG_seq
def rE:=@_root_.Go.Conc.stepG_skip
def sg:=@_root_.Go.Conc.stepG_ret'
def tW:=@_root_.Array.getElem?_replicate
def uJ:=@_root_.Go.Conc.stepG_markAt
def uL:=@_root_.Go.Proofs.Tryz.zeroValue3
def uO:=@_root_.Array.replicate_zero
def uP:=@_root_.Array.replicate_succ
def uU:=@_root_.List.append_toArray
def uV:=@_root_.Go.Conc.stepG_mark0
def vm:=@_root_.List.push_toArray
def vu:=@_root_.Go.MakeChecks.laidMetH_plain
def vC:=@_root_.Go.Proofs.Tryz.sizeOf3
def vH:=@_root_.Go.Proofs.Tryz.zeroValue4
def vI:=@_root_.Go.Proofs.Tryz.zeroValue0
def vL:=@_root_.Go.Proofs.Tryz.isAgg3
def vP:=@_root_.Go.KeepsOthers.of_grownBy
def wi:=@_root_.List.mem_iff_getElem
def wj:=@_root_.List.getElem?_append
def wn:=@_root_.Go.Claim7.new_of_sixth
def wu:=@_root_.Array.getElem?_ofFn
section
variable {β:Bool}
open Go.RowKit Go.Shelf
attribute [local go_sem] Oper.semAt_some
def Prs(l:List Nat):Nat->List (Nat×Nat)->Nat->Prop
 |a,[],b=>a=b
 |a,x::xs,b=>a<l.length/\x=(a,oM l a)/\Prs l (oM l a) xs b
def Prs.snoc{l:List Nat}:∀{a:Nat} {c:List (Nat×Nat)} {b:Nat},Prs l a c b->b<l.length->Prs l a (c++[(b,oM l b)]) (oM l b)
 |a,[],b,h,h1=>by
  have h:a=b:=h;subst h;exact⟨h1,rfl,rfl⟩
 |a,x::c,b,⟨h2,h3,h4⟩,h1=>⟨h2,h3,h4.snoc h1⟩
def Prs.len{l:List Nat}:∀{a:Nat} {c:List (Nat×Nat)} {b:Nat},Prs l a c b->a+c.length<=b
 |a,[],b,h=>by
  have h:a=b:=h;simp;omega
 |a,x::c,b,⟨h1,_,h⟩=>by
  have:=h.len;have:=(eC h1).1;simp only[ff];omega
def Prs.ends{l:List Nat}:∀{a:Nat} {c:List (Nat×Nat)} {b:Nat},Prs l a c b->dt l a (c.map λx=>(x.2:Int)) b
 |a,[],b,h=>h
 |a,x::c,b,⟨h1,e,h⟩=>⟨h1,by rw[e],h.ends⟩
def dR(s:ByteArray)(xs:List (Nat×Nat)):List ByteArray:=xs.map λx=>s.extract x.1 x.2
def Prs.pieces{l:List Nat}:∀{a:Nat} {c:List (Nat×Nat)} {b:Nat},Prs l a c b->dR s c=bU s a (c.map λx=>(x.2:Int))
 |a,[],b,h=>rfl
 |a,x::c,b,⟨h1,e,h⟩=>by
  show s.extract x.1 x.2::dR s c=s.extract a (x.2:Int).toNat::bU s (x.2:Int).toNat _;rw[e,sN,h.pieces]
def Prs.cut{xs:List (Nat×Nat)}(h:Prs (bs s) 0 xs s.size):dR s xs=gu s:=by
 rw[h.pieces,anS h.ends]
def wI(h:Below w.heap.size w w'):w.grownBy w' none:=⟨h.os,h.tape,h.output,h.size,λk a _=>h.block k a⟩
def apS {W : World} {n₀ B : Nat}  {v' : Value} {xs : List Value}
  (y:Boxed W B t v) (l:t≠e) (c:W.ownsRow Z e N v k xs) (r:n₀<=W.heap.size) (x:n₀<=Z) (C:n₀<=B)
  (b:w.ownsRow Z e N v' m Q) (a:W.grownBy w v.ownBlock) :
  Boxed w B t v/\Boxed (w.setCell ⟨B,0,none⟩ v') B t v'/\(w.setCell ⟨B,0,none⟩ v').ownsRow Z e N v' m Q/\KeepsOthers W (w.setCell ⟨B,0,none⟩ v')/\Below n₀ W (w.setCell ⟨B,0,none⟩ v')/\(∀k,k<Z->k<W.heap.size->k≠B->(w.setCell ⟨B,0,none⟩ v').heap[k]?=W.heap[k]?):=by
 have f:Boxed w B t v:=y.kept a (y.not_row l c);have i:∀j,v.ownBlock=some j->Z<=j:=λj d=>by
  rcases c.2 with⟨rfl,_⟩|⟨g,cap,s,rfl,A,_,_⟩
  .simp[Value.ownBlock] at d
  .obtain rfl:g=j:=by simpa[Value.ownBlock] using d
   exact A
 refine⟨f,f.set v',b.kept (grownBy_setCell' w B v') (.inr (f.not_row l b).symm), ?_, ?_, ?_⟩
 .refine(vP a λj o d z=> ?_).trans (KeepsOthers.setCell _ _ _);rcases c.2 with⟨rfl,_⟩|⟨g,cap,s,rfl,_,u,_⟩
  .simp[Value.ownBlock] at d
  .obtain rfl:g=j:=by simpa[Value.ownBlock] using d
   rw[u] at z;cases z;rfl
 .exact((gn n₀ W).grown a r λj d=>bd x (i j d)).setCell (p:=⟨B,0,none⟩) C v'
 .intro k D q n;exact(qb _ _ _ k n).trans (a.block k q λd=>by have:=i k d.symm;omega)
def apT(h:bM (λb=>v.ownBlock=some b) w w'):w.grownBy w' v.ownBlock:=⟨h.os,h.tape,h.output,h.size,λk c a=>h.block k c λe=>a e.symm⟩
structure PrC (n:Nat) where
 p:Nat×Nat
 le:p.1<=p.2/\p.2<=n
abbrev ayT{n:Nat}(x:PrC n):Array Value:=#[.int .i64 x.p.1,.int .i64 x.p.2]
abbrev mz{n:Nat}(xs:List (PrC n)):List (Nat×Nat):=xs.map PrC.p
def asV (n:Nat) (hn:2<=n) (l j n₀:Nat) (s:ByteArray) (V:s.size<=1000000) (J H:List (PrC s.size)->World->Prop) (W:World) (U:AbidesFrom W.heap.size J)
  (R:∀b x W,J b W->b.length<s.size->YieldAt Fence.wide (n-1) (ah β) l (ayT x) W λe W'=>
   (e=.returned (.bool true)/\J (b++[x]) W'/\KpB n₀ j W W')\/(e=.returned (.bool false)/\H (b++[x]) W'))
  (p:Boxed W j 9 (.string s)) (O:n₀<=W.heap.size) (N:J [] W) :
  CallsIn Fence.wide n (ah β) 168 #[.func (.yield l) #[] #[],.pointer (some ⟨j,0,none⟩)] W λe W'=>(∃v,e=.returned v)/\
   ((∃M,Prs (bs s) 0 (mz M) s.size/\J M W')\/(∃b,(∃m,Prs (bs s) 0 (mz b) m)/\H b W')):=by
 refine callsIn_of_wp xk rfl trivial ?_ rfl;simp only[ntmps168,ul,ff,ls,Nat.reduceAdd,Nat.reduceSub,uP,uO,vm,uU,rr,qU];have Z:=p.lt;have T:Fence.wide.fn 169:=trivial;have Y:1<=n:=by omega
 gi_wp2
 gi_loopw [3] (λi wr=>∃(k:Nat) (f:List (PrC s.size)),k<=s.size/\i=.int .i64 k/\Prs (bs s) 0 (mz f) k/\J f wr/\KpB n₀ j W wr/\W.heap.size<=wr.heap.size) (λi _=>s.size-(intOf i).toNat)
 case atStart=>exact⟨0,[],fa _,rfl,rfl,N,KpB.refl,am _⟩
 case round=>
  obtain⟨k,f,hk,rfl,A,o,L,S⟩:=hrel;have D:Boxed wr j 9 (.string s):=L.2.trans p;have P:=D.cell;by_cases g:k<s.size
  .gi_wp2_with (gi_at_call 169;refine(callsIn_wide.2 (avA s k g V wr)).mono ?_;rintro e t ⟨rfl,u⟩)
   have y:J f t:=U f wr t none o (wI u) (λr e=>by cases e);have z:KpB n₀ j W t:=L.t ⟨u.mono (by omega),u.block j (by omega)⟩;have Q:=u.size;have E:=A.snoc (by rw[aM];exact g);have B:=eC (l:=bs s) (a:=k) (by rw[aM];exact g);rw[aM] at B;obtain⟨fn,I,w,G,K,X⟩:=R f ⟨(k,oM (bs s) k),by show k<=oM (bs s) k/\oM (bs s) k<=s.size;omega⟩ t y (by have:=A.len;rw[pe] at this;omega);dsimp only[ayT] at K;rw[K];have d:Prs (bs s) 0 (mz (f++[⟨(k,oM (bs s) k),by show k<=oM (bs s) k/\oM (bs s) k<=s.size;omega⟩])) (oM (bs s) k):=by
    show Prs (bs s) 0 (List.map PrC.p (f++_)) _;rw[qK];exact E
   replace d:=ab d;gi_wp2;refine X.mono ?_;rintro e W3 (⟨rfl,C,q⟩|⟨rfl,F⟩)
   .gi_wp2;go_roundw
    case rel=>exact⟨oM (bs s) k,_,by omega,rfl,d.out,C,z.t q,by have:=q.1.size;omega⟩
    simp[intOf];omega
   .gi_wp2;refine oR (results_none rfl _ _ _) rfl ?_;exact⟨⟨_,rfl⟩,.inr ⟨_,⟨_,d.out⟩,F⟩⟩
  .obtain rfl:k=s.size:=by omega
   gi_wp2
   go_end0
   exact⟨⟨_,rfl⟩,.inl ⟨_,A,o⟩⟩
def amx(n:Nat)(k:2<=n)(a n₀:Nat)(s:ByteArray)(i:s.size<=1000000)(w:World)(b:a<w.heap.size)(c:n₀<=w.heap.size)(p:Boxed w a 9 (.string s)) :
  SeqStopsK Fence.wide n (ah β) 168 #[.pointer (some ⟨a,0,none⟩)] ayT (KpB n₀ a) (λo:List (PrC s.size)=>Prs (bs s) 0 (mz o) s.size) (λd=>∃m,Prs (bs s) 0 (mz d) m) s.size w:=λl J j W e f _ q g=>
 asV n k l a n₀ s i J j W f q ((e.block a b).trans p) (bd c e.size) g
def avG(n:Nat)(s:ByteArray)(w:World) :
  CallsIn Fence.wide n (ah β) 147 #[.string s] w λe a=>e=.returned (.func (.func 168) #[] #[.pointer (some ⟨w.heap.size,0,none⟩)])/\a=w.alloc (.cells #[.string s] 9):=by
 refine callsIn_of_wp yf rfl trivial ?_ rfl;simp only[ntmps147,ul,ff,ls,Nat.reduceAdd,Nat.reduceSub,uP,uO,vm,uU,rr,qU];gi_wp2;go_ret;exact⟨rfl,rfl⟩
def apU(n:Nat)(hn:6<=n)(s:ByteArray)(G:dE s=true)(w:World) :
  CallsIn Fence.wide n (ah β) 106 #[.string s] w λe W'=>∃v,e=.returned v/\aH gZ 9 W' w.heap.size v (gu s)/\Below w.heap.size w W':=by
 have h1:1<=n:=by omega
 have aa:Fence.wide.fn 104:=trivial;have aK:Fence.wide.fn 147:=trivial;have ad:s.size<=40:=by unfold dE at G;rw[fd] at G;exact sL G.1
 have H:s.size<=maxLen:=by unfold maxLen;omega
 have HS:=ab G;replace H:=ab H;refine callsIn_of_wp_marks yq rfl trivial ?_ rfl;simp only[ntmps106,ul,ff,ls,Nat.reduceAdd,Nat.reduceSub,uP,uO,vm,uU,rr,qU]
 gi_wp2_with (first|(gi_at_call 104;refine(callsIn_wide.2 (mQ s H.out _)).mono ?_;rintro e w' ⟨rfl,rfl⟩;rw[HS.out])|(gi_at_call 147;refine(avG (n-1) s _).mono ?_;rintro e w' ⟨rfl,rfl⟩))
 have bS:=((Boxed.new w 9 (.string s)).alloc (.cells #[.slice none 0 0] 74)).alloc (.cells #[.string s] 9);have bO:=(Boxed.new (w.alloc (.cells #[.string s] 9)) 74 (.slice none 0 0)).alloc (.cells #[.string s] 9);have S:=Boxed.new ((w.alloc (.cells #[.string s] 9)).alloc (.cells #[.slice none 0 0] 74)) 9 (.string s);simp only[mu] at bO S;have N:Below w.heap.size w (((w.alloc (.cells #[.string s] 9)).alloc (.cells #[.slice none 0 0] 74)).alloc (.cells #[.string s] 9)):=(((gn _ w).alloc (am _) _).alloc (by simp) _).alloc (by simp;omega) _;have hz:(((w.alloc (.cells #[.string s] 9)).alloc (.cells #[.slice none 0 0] 74)).alloc (.cells #[.string s] 9)).heap.size=w.heap.size+3:=by simp
 obtain⟨W0,V⟩:∃W0,((w.alloc (.cells #[.string s] 9)).alloc (.cells #[.slice none 0 0] 74)).alloc (.cells #[.string s] 9)=W0:=⟨_,rfl⟩;try simp only[mu]
 rw[V] at bS bO S N hz ⊢;refine wpIn_rangeFunc_ownH rfl h1 (gf:=168) (lb:=#[.pointer (some ⟨w.heap.size+1+1,0,none⟩)]) rfl trivial (enters_of xk (by kernel_rfl) rfl)
  (amx (n-1) (by omega) (w.heap.size+1+1) w.heap.size s (by omega) W0 (by omega) (by omega) S) KpB.t
  (λW l o o' hl h hc hw=>⟨belowK_b (w:=w) (am _) W l o o' (by omega) h hc hw,World.putObj_heap_other (by omega)⟩) (gn _ _) (λ_=>rfl)
  (λb W=>(((∃v,Boxed W (w.heap.size+1) 74 v/\W.ownsRow W0.heap.size 9 1 v b.length (dm gZ (dR s (mz b)))/\True)/\Boxed W w.heap.size 9 (.string s))/\Boxed W (w.heap.size+1+1) 9 (.string s))/\Below w.heap.size w W)
  (λ_ _ _=>False)
  (OwnFrom.and (OwnFrom.and (OwnFrom.and (Own.from (holdsRow_own W0.heap.size (w.heap.size+1) 74 9 1 (λb:List (PrC s.size)=>b.length) (λb=>dm gZ (dR s (mz b))) (λ_ _=>True)) _) (Own.from (boxed_own _ _ _) _)) (Own.from (boxed_own _ _ _) _)) (ownFrom_below (am _) (by omega)))
  (λ_ _ _ _ _ G _ _=>G)
  ⟨⟨⟨⟨_,bO,vk _ _ _ _,trivial⟩,bS⟩,S⟩,N⟩
  (λx Z W=>Z={tmps:=#[.string s,.pointer (some ⟨w.heap.size,0,none⟩),.slice none 0 0,.pointer (some ⟨w.heap.size+1,0,none⟩),.int .i64 x.p.1,.int .i64 x.p.2,.string s,.bool true,.bool false,.string s,.func (.func 168) #[] #[.pointer (some ⟨w.heap.size+1+1,0,none⟩)],.int .i64 x.p.1,.int .i64 x.p.2,undef,undef,undef,undef,undef,undef,undef,undef],defers:=[]})
  (λx Z _ X Y af G hg hr=>G)
  ?assign ?body ?done ?stop
 case assign=>
  rintro l b x W K ⟨⟨⟨⟨v,f,d, -⟩,t⟩,u⟩,i⟩ O;gi_wp2;exact O _ _ ((KeepsOthers.refl _).from _) KpB.refl ⟨⟨⟨⟨v,f,d,trivial⟩,t⟩,u⟩,i⟩ rfl
 case body=>
  rintro l b x Z W hl ⟨r,hr⟩ ⟨⟨⟨⟨v,f,d, -⟩,t⟩,u⟩,i⟩ rfl al;obtain⟨⟨B,z⟩,m,q⟩:=x;dsimp only at m q ⊢;have a1:dR s (mz (b++[⟨(B,z),m,q⟩]))=dR s (mz b)++[s.extract B z]:=by simp[dR,mz]
  have cO:W.cell? ⟨w.heap.size+1,0,none⟩=some v:=f.cell;have cS:W.cell? ⟨w.heap.size,0,none⟩=some (.string s):=t.cell;have I:=adX (β:=β);have a0:=i.size;gi_wp2;have aJ:=aj cO;have aL:=aj cS;refine afX (λ_=>trivial) (by kernel_rfl) (by rintro⟨a,w,h⟩;exact h) 6 [0,1,2,3,4] [5] I (by kernel_rfl) (by kernel_rfl) ?_;simp only[pick,List.map,mT,nf];repeat(go_big_quiet_step (fail))
  refine gt ?_;apply Exists.intro;apply dB (ala W.heap.size 9 #[.string (s.extract B z)])
  .rfl
  .exact λv x y h a8=>h.keep a8
  .intro x _ Qx hQ;go_wp2;exact hQ _ _ (aA _ _) (ala.new _ _ _ x.ok.size)
  intro v5;refine bY ?_;intro w2 p xx gI hF;dsimp only[gU] at hF;try rw[gI] at hF
  obtain⟨⟨g,rfl,hg,a2⟩, -⟩:=hF;simp only[List.drop];have ax:=p.size;have ao:l<W.heap.size:=(dk.1 hr).1;have L:=aeE d p;have a5:Boxed w2 (w.heap.size+1) 74 v:=(p.block _ f.lt).trans f;obtain⟨A,c,rfl⟩:=iH d;refine ago (F:=gZ) (base:=W0.heap.size) (v:=.slice A b.length c) (xs:=dR s (mz b)) rfl (.tmp 13) (.tmp 18) 74 rfl ab5 (s.extract B z) rfl (by unfold aH;rw[show(dR s (mz b)).length=b.length from by simp[dR,mz]];exact L) rfl a2 rfl (by rw[show(dR s (mz b)).length=b.length from by simp[dR,mz]];omega) (by omega) ?_;intro v3 w3 R mv a9;have ay:(dR s (mz b)++[s.extract B z]).length=(b++[(⟨(B,z),m,q⟩:PrC s.size)]).length:=by simp[dR,mz]
  unfold aH at R;rw[<-a1,show(dR s (mz (b++[⟨(B,z),m,q⟩]))).length=(b++[(⟨(B,z),m,q⟩:PrC s.size)]).length from by simp[dR,mz]] at R;obtain⟨Q,P,oG,pA,a6,a4⟩:=apS (W:=w2) (n₀:=w.heap.size) a5 (by decide) L (by omega) (by omega) (by omega) R (apT mv);have aP:=Q.cell;have an:=Q.frozen;obtain⟨A3,c3,rfl⟩:=iH R;go_wp2;have a7:KeepsOthers W w2:=vP (wI p) λj o ej _=>by cases ej
  have C:∀k,k<W0.heap.size->k≠w.heap.size+1->(w3.setCell ⟨w.heap.size+1,0,none⟩ (.slice A3 (b++[(⟨(B,z),m,q⟩:PrC s.size)]).length c3)).heap[k]?=W.heap[k]?:=λk hk T=>(a4 k hk (by omega) T).trans (p.block k (by omega));have J:=(p.mono a0).trans a6;simp only[ap,ff,ls,jt] at P oG pA C J;refine⟨(a7.trans pA).from _,⟨J,C _ (by omega) (by omega)⟩,⟨⟨⟨_,P, ?_,trivial⟩,(C _ (by omega) (by omega)).trans t⟩,(C _ (by omega) (by omega)).trans u⟩,i.trans J⟩;simp only[ap,ff,ls,jt];exact oG
 case done=>
  rintro D zs W hD a3 ⟨⟨⟨⟨v,f,d, -⟩,t⟩,u⟩,i⟩ O;have cO:=f.cell;obtain⟨A,c,rfl⟩:=iH d;gi_wp2;refine⟨by simp,.inl ⟨_,_,rfl,run_takeDeferred O, ?_⟩⟩;have U:=belowK_b (w:=w) (am _) W D _ (.deferred none) (by omega) O rfl rfl;have E:=a3.cut;have M:(gu s).length=zs.length:=by rw[<-E];simp[dR,mz]
  refine⟨_,results_tmp rfl _ _ _,_,rfl, ?_,i.trans U⟩;have:=ownsRow_putObj d (.deferred none) O rfl;unfold aH;rw[M,<-E];exact aiV this (by omega)
 case stop=>
  rintro D c b W _ _ h _;exact h.elim
def asW(s:ByteArray)(a:dE s=true)(w:World) :
  Calls (ah β) 106 #[.string s] w λe W'=>∃v,e=.returned v/\aH gZ 9 W' w.heap.size v (gu s)/\Below w.heap.size w W':=
 callsIn_wide.1 (apU 6 (am _) s a w)
end
section
variable {β:Bool}
open Go.RowKit
def apV{l:List ByteArray}(a:dE (rF (ir l))=true)(b:gu (rF (ir l))=l):iP l=(rF (ir l),true):=by unfold iP;rw[dl ⟨a,b⟩]
def asX{l:List ByteArray}(h:¬(dE (rF (ir l))=true/\gu (rF (ir l))=l)):iP l=(⟨#[]⟩,false):=by unfold iP;rw[be h]
def avH(l:List ByteArray)(b:∀s∈l,aU (bs s)):(rF (ir l)).size<=8*l.length:=by
 rw[<-aM,anl (afz l),<-agU,pe];exact acW λs a=>(fS (b s a)).2
def apW(l:List ByteArray)(A:∀s∈l,aU (bs s))(J:l.length<=2147483647)(v:Value)(w:World)(t hi:Nat)(h:dr w t hi l [v])(z:hi<=w.heap.size) :
  Calls (ah β) 65 #[v] w λe D=>e=.returned (.tuple #[.string (iP l).1,.bool (iP l).2])/\Below w.heap.size w D:=by
 have n:=avH l A;have f:(rF (ir l)).size<=maxLen:=by unfold maxLen;omega
 have o:=ab (λH E=>apV (l:=l) H E);have i:=ab (asX (l:=l));have y:=ab (ayR (β:=β) l A J v w t hi h z);generalize rF (ir l)=s at o i y n f;generalize iP l=r at o i ⊢;go_enter yT,ntmps65;go_wp2;refine y.out.mono ?_;rintro e B ⟨rfl,g⟩;go_wp2;refine(mQ (β:=β) s f _).mono ?_;rintro e O ⟨rfl,rfl⟩;by_cases a:dE s=true
 .rw[a];go_wp2;refine(asW (β:=β) s a _).mono ?_;rintro e N ⟨F,rfl,I,k⟩;have m:∀x∈gu s,x.size<=maxLen:=λx j=>by have:=(fS (kU (jf a).2 x j)).2;unfold maxLen;omega
  have C:=gY.sl (aH.deep I m B.heap.size) (am _);have G:=k.size;have u:=g.size;have L:=dr.av.below h (g.trans (k.mono u)) z;obtain⟨q,d⟩:∃q:Bool,q=true↔gu s=l:=by
   by_cases j:gu s=l
   .exact⟨true,by simp[j]⟩
   .exact⟨false,by simp[j]⟩
  replace d:=ab d;go_wp2;refine(amw (β:=β) (gu s) l F v _ _ _ t hi C L (am _) (by omega) q d.out).mono ?_;rintro e M ⟨rfl,K⟩;have c:=g.trans ((k.mono u).trans (K.mono (by omega)));cases q with
  |true=>
   have b:=o.out a (d.out.1 rfl);go_wp2;go_ret2;exact⟨by rw[b];rfl,c⟩
  |false=>
   have b:=i.out λp=>by have:=d.out.2 p.2;cases this
   go_wp2;go_ret2;exact⟨by rw[b];rfl,c⟩
 .have b:=i.out λp=>a p.1;rw[Bool.eq_false_iff.2 a];go_wp2;go_ret2;exact⟨by rw[b];rfl,g⟩
end
section
variable {β:Bool}
open Go.RowKit
def asY(t:List Nd)(i:Nat)(x:Nd):Prop:=afR x/\(∀y,0<i->t[i-1]?=some y->Op.bytesLess y.p.toList x.p.toList=true)/\∀k y,k<i->t[k]?=some y->aaq y.p x.p=false
def ad1(h:gp s=true):s.size<=3:=by rcases kR h with h|h<;>omega
def asZ(xs:List Nd)(v:Value)(w:World)(lo hi:Nat)(h:fC w lo hi xs [v])(U:hi<=w.heap.size)(q:Bool)(p:q=true↔agH xs) :
  Calls (ah β) 66 #[v] w λe w'=>e=.returned (.bool q)/\Below w.heap.size w w':=by
 have K:=ab p;clear p;obtain⟨A,c,rfl⟩:=h.form;obtain⟨_,hc,hx⟩:=h.1.len_;unfold maxLen at hx;go_enter yS,ntmps66;go_wp2;go_loopw [7] (λii wr=>∃k:Nat,k<=xs.length/\ii=.int .i64 k/\(∀i x,i<k->xs[i]?=some x->asY xs i x)/\Below w.heap.size w wr) (λii _=>xs.length-(intOf ii).toNat)
 case atStart=>exact⟨0,fa _,rfl,λi x hi=>absurd hi (sE i),gn _ _⟩
 case round=>
  obtain⟨k,hk,rfl,l,hb⟩:=hrel;replace l:=ab l;by_cases D:k<xs.length
  .obtain⟨x,G⟩:=ar D;obtain⟨b0,a6,rfl,_,a5,J,c0,c1⟩:=kV (fC.av.below h hb U) G;replace G:=ab G;go_wp2;have kb:=bW.new wr 89 #[.string x.p,.string x.b];have ba:=aA wr (.cells #[.string x.p,.string x.b] 89);have a3:wr.heap.size+1=(wr.alloc (.cells #[.string x.p,.string x.b] 89)).heap.size:=by simp
   generalize wr.alloc (.cells #[.string x.p,.string x.b] 89)=wf at *;have g:wf.cell? ⟨wr.heap.size,0,none⟩=some (.string x.p):=kb.cell 0;have B:wf.cell? ⟨wr.heap.size,1,none⟩=some (.string x.b):=kb.cell 1;have r:=ae hb ba;clear kb c0 c1;cases a:gp x.p
   .replace a:=ab a;have d:q=false:=by
     rw[<-lP,K.out];rintro⟨-,h⟩;replace h:=h _ _ G.out;have h:=h.1.1;rw[a.out] at h;cases h
    have s:=ab d;clear d;have I:=aj g;have H:=aj B;refine aG (by kernel_rfl) (by kernel_rfl) ?_;repeat(go_big_quiet_step (first|(go_at_call 107;refine cY (v:=.bool false) ?_;rw[<-a.out];exact pK (β:=β) x.p J.1 _)))
    refine gt ?_;intro wq o;have p:=aN o;clear o I H;go_wp2;go_ret;exact⟨aC s.out.symm,ae r p⟩
   .replace a:=ab a;cases b:dE x.b
    .replace b:=ab b;have d:q=false:=by
      rw[<-lP,K.out];rintro⟨-,h⟩;replace h:=h _ _ G.out;have h:=h.1.2;rw[b.out] at h;cases h
     have s:=ab d;clear d;have I:=aj g;have H:=aj B;refine aG (by kernel_rfl) (by kernel_rfl) ?_;repeat(go_big_quiet_step (first|(go_at_call 107;refine cY (v:=.bool true) ?_;rw[<-a.out];exact pK (β:=β) x.p J.1 _)|(go_at_call 104;refine dv (v:=.bool false) ?_;rw[<-b.out];exact mQ (β:=β) x.b J.2 _)))
     refine gt ?_;intro wq o;have p:=aN o;clear o I H;go_wp2;go_ret;exact⟨aC s.out.symm,ae r p⟩
    .replace b:=ab b;by_cases a2:k=0
     .have t1:=bv (show ¬(0<k) by omega);have Y:afR x/\∀y,0<k->xs[k-1]?=some y->Op.bytesLess y.p.toList x.p.toList=true:=⟨⟨a.out,b.out⟩,λy h0=>by omega⟩;have Z:=ab Y;clear Y;clear a2;have I:=aj g;have H:=aj B;refine aG (by kernel_rfl) (by kernel_rfl) ?_;repeat(go_big_quiet_step (first|(go_at_call 107;refine cY (v:=.bool true) ?_;rw[<-a.out];exact pK (β:=β) x.p J.1 _)|(go_at_call 104;refine dv (v:=.bool true) ?_;rw[<-b.out];exact mQ (β:=β) x.b J.2 _)))
      refine gt ?_;intro wq o;have p:=aN o;clear o I H;have W:∀y∈xs.take k,y.p.size<=3:=λy f=>by
       obtain⟨i,hi⟩:=qW.1 f;rw[rB] at hi;split at hi
       .rename_i S;exact ad1 (l.out i y S hi).1.1
       .cases hi
      have Q:=ab W;clear W;have cz:=bQ p g;have n:=ae r p;have R:=ad1 a.out;go_wp2;refine(ov (β:=β) x R xs k hk Q.out _ c wr.heap.size _ lo hi (fC.av.below h n U) (bd U n.size) cz).mono ?_;rintro e w4 ⟨q4,rfl,P,b4⟩;have t:=ae n b4;rcases P with⟨rfl,j,y,N,f,O⟩|⟨rfl,C⟩
      .have HY:=ab f;replace O:=ab O;clear f;have d:q=false:=by
        rw[<-lP,K.out];rintro⟨-,h⟩;replace h:=h _ _ G.out;have h:=h.2.2 j y N HY.out;rw[O.out] at h;cases h
       have s:=ab d;clear d;go_wp2;go_ret;exact⟨aC s.out.symm,t⟩
      .have u:∀i z,i<k+1->xs[i]?=some z->asY xs i z:=λi z hi L=>by
        rcases pa i k with D|nu
        .exact l.out i z D L
        .obtain rfl:i=k:=by omega
         rw[G.out] at L;cases L;exact⟨Z.out.1,Z.out.2,λj y N f=>C j y N f⟩
       have M:=ab u;clear u C;go_wp2;go_roundw
       case rel=>exact⟨k+1,by omega,by go_num,M.out,t⟩
       simp[intOf];omega
     .obtain⟨k',V⟩:∃m,m=k-1:=⟨_,rfl⟩;have e1:(k:Int)-1=((k':Nat):Int):=by omega
      have a1:k'<xs.length:=by omega
      have t1:=db (show 0<k by omega);obtain⟨z,F⟩:=ar a1;obtain⟨b1,a4,e0,_,_,a7,d0,_⟩:=kV (fC.av.below h r U) F;simp only[jp,qk,qm] at e0;obtain⟨rfl,rfl⟩:=e0;replace F:=ab F;have X:=ab V;have a0:0<k:=by omega
      clear V;cases E:Op.bytesLess z.p.toList x.p.toList
      .have T:=ab E;have tr:=my x.p.toList z.p.toList;rw[E,Bool.not_false] at tr;have d:q=false:=by
        rw[<-lP,K.out];rintro⟨-,h⟩;replace h:=h _ _ G.out;have h:=h.2.1 z a0 (by rw[<-X.out];exact F.out);rw[T.out] at h;cases h
       have s:=ab d;clear d;have I:=aj g;have H:=aj B;have bm:=aj d0;refine aG (by kernel_rfl) (by kernel_rfl) ?_;repeat(go_big_quiet_step (first|(go_at_call 107;refine cY (v:=.bool true) ?_;rw[<-a.out];exact pK (β:=β) x.p J.1 _)|(go_at_call 104;refine dv (v:=.bool true) ?_;rw[<-b.out];exact mQ (β:=β) x.b J.2 _)))
       refine gt ?_;intro wq o;have p:=aN o;clear o I H bm;go_wp2;go_ret;exact⟨aC s.out.symm,ae r p⟩
      .have T:=ab E;have tr:=my x.p.toList z.p.toList;rw[E,vh] at tr;have Y:afR x/\∀y,0<k->xs[k-1]?=some y->Op.bytesLess y.p.toList x.p.toList=true:=⟨⟨a.out,b.out⟩,λy h0 f=>by
        rw[<-X.out,F.out] at f;cases f;exact T.out⟩
       have Z:=ab Y;clear Y;have I:=aj g;have H:=aj B;have bm:=aj d0;refine aG (by kernel_rfl) (by kernel_rfl) ?_;repeat(go_big_quiet_step (first|(go_at_call 107;refine cY (v:=.bool true) ?_;rw[<-a.out];exact pK (β:=β) x.p J.1 _)|(go_at_call 104;refine dv (v:=.bool true) ?_;rw[<-b.out];exact mQ (β:=β) x.b J.2 _)))
       refine gt ?_;intro wq o;have p:=aN o;clear o I H bm;clear d0 E e1 tr;have W:∀y∈xs.take k,y.p.size<=3:=λy f=>by
        obtain⟨i,hi⟩:=qW.1 f;rw[rB] at hi;split at hi
        .rename_i S;exact ad1 (l.out i y S hi).1.1
        .cases hi
       have Q:=ab W;clear W;have cz:=bQ p g;have n:=ae r p;have R:=ad1 a.out;go_wp2;refine(ov (β:=β) x R xs k hk Q.out _ c wr.heap.size _ lo hi (fC.av.below h n U) (bd U n.size) cz).mono ?_;rintro e w4 ⟨q4,rfl,P,b4⟩;have t:=ae n b4;rcases P with⟨rfl,j,y,N,f,O⟩|⟨rfl,C⟩
       .have HY:=ab f;replace O:=ab O;clear f;have d:q=false:=by
         rw[<-lP,K.out];rintro⟨-,h⟩;replace h:=h _ _ G.out;have h:=h.2.2 j y N HY.out;rw[O.out] at h;cases h
        have s:=ab d;clear d;go_wp2;go_ret;exact⟨aC s.out.symm,t⟩
       .have u:∀i z,i<k+1->xs[i]?=some z->asY xs i z:=λi z hi L=>by
         rcases pa i k with D|nu
         .exact l.out i z D L
         .obtain rfl:i=k:=by omega
          rw[G.out] at L;cases L;exact⟨Z.out.1,Z.out.2,λj y N f=>C j y N f⟩
        have M:=ab u;clear u C;go_wp2;go_roundw
        case rel=>exact⟨k+1,by omega,by go_num,M.out,t⟩
        simp[intOf];omega
  .obtain rfl:k=xs.length:=by omega
   by_cases h6:xs.length<=6
   .have t1:=db (show(xs.length:Int)<=6 by omega);have d:q=true:=K.out.2 ⟨h6,λi x hx=>l.out i x (aB hx) hx⟩;have s:=ab d;clear d;go_wp2;go_ret;exact⟨aC s.out.symm,hb⟩
   .have t1:=bv (show ¬((xs.length:Int)<=6) by omega);have d:q=false:=by
     rw[<-lP,K.out];rintro⟨h, -⟩;exact h6 h
    have s:=ab d;clear d;go_wp2;go_ret;exact⟨aC s.out.symm,hb⟩
end
section
variable {β:Bool}
open Go.RowKit
noncomputable def xFA:Func:=by
 apply(λ(x:Func) (_:{f64 with body:=some jN}=x)=>x)
 case x=>dsimp only[jN,aaR,auf,awm,awn,awo,awp,awq,awr,aws,awt,awu,awz,azE,awv,aww,awx,awy,aqZ,aq0,aq1,anb,aiB,ac4,awA,awB,aiz,aiA,ij,aaS,aug,auh,aui,aqY,auj,aoO,kOp,aaU,aaT,ml,cP,cM,bZ,f64,Option.getD,List.map]
def ayU:qFA true=xFA:=by kernel_rfl
def as0:(ah true).funcs[64]?=some xFA:=(acz true).trans (fk some ayU)
@[go_sem] theorem aA6(args:Array Value)(w:World):(callFunc 64 args).run (ah true) w=.ok (.enter 64 args) w:=by
 have a:=cH func64;exact kK as0 a rfl args w
end
section
variable {β:Bool}
open Go.RowKit
def FFe:Flat (ByteArray×Bool):=⟨2,λx=>[.string x.1,.bool x.2],λx=>x.1.size<=maxLen,λ_=>rfl,λx u a=>by
 simp only[mc,rA,tQ] at a;rcases a with rfl|rfl<;>rfl,by decide⟩
def avI:((ah true).info? 160).map (λi=>(i.zero,i.size,i.bytes))=some (some (.agg #[.string ⟨#[]⟩,.bool false]),2,24):=by kernel_rfl
@[go_sem] theorem aBV(n:Int)(B:Option Addr)(m c:Nat)(w:World):(Instr.field 36 (.agg #[.int .i64 n,.slice B m c]) 0).run (ah true) w=.ok (.int .i64 n) w:=by simp[Instr.field,lw xv,asAgg,go_sem]
@[go_sem] theorem aBW(n:Int)(B:Option Addr)(m c:Nat)(w:World):(Instr.field 36 (.agg #[.int .i64 n,.slice B m c]) 1).run (ah true) w=.ok (.slice B m c) w:=by simp[Instr.field,lw xv,asAgg,go_sem]
@[go_sem] theorem aBX(n:Int)(s:ByteArray)(w:World):(Instr.field 48 (.agg #[.int .i64 n,.string s]) 0).run (ah true) w=.ok (.int .i64 n) w:=by simp[Instr.field,lw xu,asAgg,go_sem]
@[go_sem] theorem aBY(n:Int)(s:ByteArray)(w:World):(Instr.field 48 (.agg #[.int .i64 n,.string s]) 1).run (ah true) w=.ok (.string s) w:=by simp[Instr.field,lw xu,asAgg,go_sem]
def ayV(key:Int)(l:List iw)(dy:List Int)(w:World)(e:Ending)(w':World):Prop:=
 ∃v b,e=.returned (.tuple #[v,.bool b])/\(b=true↔∀n∈dy,(cN key l n).2=true)/\(b=true->aH gZ 9 w' w.heap.size v (dy.map λn=>(cN key l n).1))/\Below w.heap.size w w'
noncomputable def amy(key:Int)(l:List iw)(ns:List Int):List ByteArray:=ns.map λn=>(cN key l n).1
noncomputable def aar(key:Int)(l:List iw)(dy:List Int)(k:Nat):List (ByteArray×Bool):=(dy.take k).map (cN key l)++List.replicate (dy.length-k) (⟨#[]⟩,false)
def avJ(h:k<dy.length):(aar key l dy k)[k]?=some (⟨#[]⟩,false):=by
 unfold aar;have a:((dy.take k).map (cN key l)).length=k:=by rw[pe,fb];omega
 rw[qo (by omega),a,tv,uh,dl (by omega)]
def as1{n:Int}(h:dy[k]?=some n):(aar key l dy k).set k (cN key l n)=aar key l dy (k+1):=by
 have b:=aB h;unfold aar;have c:((dy.take k).map (cN key l)).length=k:=by rw[pe,fb];omega
 rw[uI _ _ (by omega),c,tv,mx h,qK,tn]
 congr 1
 obtain⟨m,a⟩:∃m,dy.length-k=m+1:=⟨dy.length-k-1,by omega⟩;rw[a,List.replicate_succ,fi,show dy.length-(k+1)=m by omega];rfl
def apX:∀n:Nat,(madeCells #[.string ⟨#[]⟩,.bool false] (n*2)).toList=dm FFe (List.replicate n (⟨#[]⟩,false)):=λn=>by
 apply un;intro j;rcases pa j (n*2) with h|h
 .have d:j / 2<n:=by omega
  have b:(List.replicate n ((⟨#[]⟩,false):ByteArray×Bool))[j / 2]?=some (⟨#[]⟩,false):=by rw[uh,dl d]
  have e:j=j / 2*2+j % 2:=by omega
  rw[du];have c:(madeCells #[.string ⟨#[]⟩,.bool false] (n*2))[j]?=some (#[Value.string ⟨#[]⟩,Value.bool false][j % 2]!):=by
   unfold madeCells;simp[h]
  rw[c];rcases uZ j with a|a
  .have:=dX FFe _ (j / 2) 0 _ (.string ⟨#[]⟩) b rfl;rw[show j / 2*FFe.sz+0=j by show j / 2*2+0=j;omega] at this;rw[this,a];rfl
  .have:=dX FFe _ (j / 2) 1 _ (.bool false) b rfl;rw[show j / 2*FFe.sz+1=j by show j / 2*2+1=j;omega] at this;rw[this,a];rfl
 .rw[du,qa (by rw[size_madeCells];exact h),rx (by rw[dJ,qs];exact h)]
def as2(w:World)(n:Nat)(a:n<=maxLen)(h:dy.length=n:=by rfl) :
  aH FFe 160 (w.alloc (.cells (madeCells #[.string ⟨#[]⟩,.bool false] (n*2)) 160)) w.heap.size (.slice (some ⟨w.heap.size,0,none⟩) n n) (aar key l dy 0):=by
 have e:aar key l dy 0=List.replicate n (⟨#[]⟩,false):=by unfold aar;rw[h];rfl
 rw[e];refine⟨dJ FFe _,.inr ⟨w.heap.size,n,_,by rw[qs],am _,bW.new _ _ _,by rw[qs];exact am _,a,by rw[size_madeCells];rfl, ?_⟩⟩;rw[apX,qs];exact qe (by rw[dJ,qs];exact am _)
def an8{base g : Nat}{xs:List (ByteArray×Bool)}(h:aH FFe 160 w base (.slice (some ⟨g,0,none⟩) n n) xs){x:ByteArray×Bool}(a:xs[k]?=some x) :
  w.cell? ⟨g,k*2,none⟩=some (.string x.1)/\w.cell? ⟨g,k*2+1,none⟩=some (.bool x.2):=by
 obtain⟨A,c,e⟩:=aH.form h;simp only[pv] at e;obtain⟨-,rfl, -⟩:=e;exact⟨h.cell a (j:=0) rfl,h.cell a (j:=1) rfl⟩
def avK{base g : Nat}(h:aH FFe 160 w base (.slice (some ⟨g,0,none⟩) n n) (aar key l dy k))(m:k<dy.length) :
  w.cell? ⟨g,k*2,none⟩=some (.string ⟨#[]⟩)/\w.cell? ⟨g,k*2+1,none⟩=some (.bool false)/\(∀j,w.frozen? ⟨g,j,none⟩=false)/\(∀j (p:Addr) u,(w.setCell p u).frozen? ⟨g,j,none⟩=false)/\
  ∀y:ByteArray×Bool,aH FFe 160 ((w.setCell ⟨g,k*2,none⟩ (.string y.1)).setCell ⟨g,k*2+1,none⟩ (.bool y.2)) base (.slice (some ⟨g,0,none⟩) n n) ((aar key l dy k).set k y):=by
 obtain⟨A,c,e⟩:=aH.form h;simp only[pv] at e;obtain⟨-,rfl, -⟩:=e;have a:=avJ (key:=key) (l:=l) m;obtain⟨o,q⟩:=an8 h a;refine⟨o,q,λj=>h.frozen rfl j,λj p u=> ?_,λy=> ?_⟩
 .rw[uH];exact h.frozen rfl j
 .have d:=h.put a (j:=0) (y:=(y.1,false)) (u:=.string y.1) (by decide) rfl;have f:aH FFe 160 (w.setCell ⟨g,k*FFe.sz+0,none⟩ (.string y.1)) base (.slice (some ⟨g,0,none⟩) ((aar key l dy k).set k (y.1,false)).length (aar key l dy k).length) ((aar key l dy k).set k (y.1,false)):=by rw[qL];exact d
  have b:=f.put (i:=k) (x:=(y.1,false)) (by rw[rj (aB a)]) (j:=1) (y:=y) (u:=.bool y.2) (by decide) rfl;rw[qL,ab3] at b;exact b
def amz (key:Int) (hk:1<=key/\key<=99) (l:List iw) (A:Option Addr) (c:Nat) (dy:List Int) (v2:Value) (lo hi:Nat) (w:World) (x0 x1:Value)
  (bu:hi<=w.heap.size) (hl:PkL w A l) (a1:l.length<=c) (hc:c<=maxLen) (gS:∀p∈l,1<=p.2.length/\cA p.1) (y:cG oZ 1 w lo hi dy [v2]) (b1:dy.length<=2147483647)
  (e0:w.cell? ⟨0,0,none⟩=some x0) (e1:w.cell? ⟨1,0,none⟩=some x1) :
  Calls (ah true) 64 #[.int .i64 key,.slice A l.length c,v2] w (ayV key l dy w):=by
 obtain⟨A2,c2,rfl⟩:=y.form;obtain⟨-,ay,Z⟩:=y.len_;have HC:=ab hc;unfold maxLen at hc Z;have aJ:=ao5 (P:=ah true) 149 160 _ 2 24 xM avI dy.length (by omega) (by omega);have a4:xFA.ntmps=45:=ntmps64;have O:xFA.results=#[.tmp 6,.tmp 7]:=results64;go_enter as0,a4;go_wp2
 go_loop [20] (λi=>∃k:Nat,k<=l.length/\i=.int .i64 k) (λi=>l.length-(intOf i).toNat)
 case atStart=>exact⟨0,fa _,rfl⟩
 case round=>
  obtain⟨k,af,rfl⟩:=hrel;by_cases X:k<l.length
  .obtain⟨p,iy⟩:=ar X;obtain⟨b,ao,B,c3,rfl,ad,aL,an,aK,a3,Y⟩:=hl k p iy;have N:=gS p (da iy);obtain⟨N,a5⟩:=N;unfold cA at a5;unfold maxLen at a3;obtain⟨S,T⟩:=p;dsimp only at *;have w1:wrap64 (S*1)=S:=by unfold wrap64;omega
   have t1:(S ==S)=true:=sb _;go_wp2
   go_loop [5] (λjj=>∃j:Nat,j<=T.length/\jj=.int .i64 j) (λjj=>T.length-(intOf jj).toNat)
   case atStart=>exact⟨0,fa _,rfl⟩
   case round=>
    obtain⟨j,b6,rfl⟩:=hrel;by_cases U:j<T.length
    .obtain⟨x,a7⟩:=ar U;obtain⟨b2,mE,rfl,aX,b0,aa,a9,oI⟩:=Y j x a7;unfold cA at a9;unfold maxLen at oI;obtain⟨R,xb⟩:=x;dsimp only at *;have w2:wrap64 (R*1)=R:=by unfold wrap64;omega
     have t2:(R ==R)=true:=sb _;go_wp2
     go_round
     case rel=>exact⟨j+1,by omega,by go_num⟩
     simp[intOf];omega
    .obtain rfl:j=T.length:=by omega
     go_wp2
     go_round
     case rel=>exact⟨_,_,_,_,_,_,_,_,_,⟨k+1,by omega,rfl⟩,rfl,rfl,rfl,rfl,rfl,rfl,rfl,rfl,by go_num⟩
     show l.length-((k:Int)+1).toNat<l.length-(k:Int).toNat;omega
  .obtain rfl:k=l.length:=by omega
   go_wp2;have M:=as2 (key:=key) (l:=l) (dy:=dy) w dy.length (by unfold maxLen;omega);have a0:=aA w (.cells (madeCells #[.string ⟨#[]⟩,.bool false] (dy.length*2)) 160);generalize w.alloc (.cells (madeCells #[.string ⟨#[]⟩,.bool false] (dy.length*2)) 160)=w0 at *;go_loopw [28] (λz wr=>∃k:Nat,k<=dy.length/\z=.int .i64 k/\aH FFe 160 wr w.heap.size (.slice (some ⟨w.heap.size,0,none⟩) dy.length dy.length) (aar key l dy k)/\Below w.heap.size w wr) (λz _=>dy.length-(intOf z).toNat)
   case atStart=>exact⟨0,fa _,rfl,M,a0⟩
   case round=>
    obtain⟨k,aT,rfl,C,a⟩:=hrel;by_cases o:k<dy.length
    .obtain⟨n,f⟩:=ar o;obtain⟨b3,a8,es,rfl,b5,aP,_,⟨rfl,G⟩,a6⟩:=((cG.loc oZ.loc).below y a bu).at_ f;have d0:wr.cell? ⟨b3,a8+k,none⟩=some (.int .i64 n):=by simpa using a6 0 _ rfl
     unfold cA at G;have w3:wrap64 (n*1)=n:=by unfold wrap64;omega
     have t3:(n ==n)=true:=sb _;have u:=as1 (key:=key) (l:=l) f;replace u:=ab u;go_wp2;refine(anN wr key A c l n hk.1 hk.2 a1 (by omega) (hl.below a) G).mono ?_;rintro e w5 ⟨v,rfl,rfl,oG⟩;have V:=C.below oG;obtain⟨f0,f1,z0,z1,Q⟩:=avK V o;have pA:=ae a oG;have HP:=ab (Q (cN key l n));go_wp2;go_roundw
     case rel=>exact⟨k+1,by omega,by go_num,by rw[<-u.out];exact HP.out,(pA.setCell (by dsimp only;omega) _).setCell (by dsimp only;omega) _⟩
     simp[intOf];omega
    .obtain rfl:k=dy.length:=by omega
     replace y:=ab y;go_wp2;have I:=aA wr (.cells #[.slice (some ⟨w.heap.size,0,none⟩) dy.length dy.length] 149);have q:=C.below I;have g:=ae a I;have e1:aar key l dy dy.length=dy.map (cN key l):=by unfold aar;rw[ge,tv,List.replicate_zero,sG]
     rw[e1] at q;generalize wr.alloc (.cells #[.slice (some ⟨w.heap.size,0,none⟩) dy.length dy.length] 149)=w1 at *;go_loopw [12,31] (λoo z wr=>∃k:Nat,k<=dy.length/\z=.int .i64 k/\aH gZ 9 wr w.heap.size oo (amy key l (dy.take k))/\aH FFe 160 wr w.heap.size (.slice (some ⟨w.heap.size,0,none⟩) dy.length dy.length) (dy.map (cN key l))/\(∀n∈dy.take k,(cN key l n).2=true)/\Below w.heap.size w wr) (λ_ z _=>dy.length-(intOf z).toNat)
     case atStart=>exact⟨0,fa _,rfl,aH.nil _ _ _,q,λn y=>(by simp at y),g⟩
     case round=>
      obtain⟨k,b4,rfl,J,C,d,a⟩:=hrel;replace d:=ab d;obtain⟨So,sc,rfl⟩:=J.form;by_cases o:k<dy.length
      .obtain⟨n,f⟩:=ar o;have a2:(dy.map (cN key l))[k]?=some (cN key l n):=by rw[qE,f];rfl
       obtain⟨f0,f1⟩:=an8 C a2;have r:(amy key l (dy.take k)).length=k:=by unfold amy;rw[pe,fb];omega
       have fL:amy key l (dy.take (k+1))=amy key l (dy.take k)++[(cN key l n).1]:=by unfold amy;rw[mx f,qK];rfl
       have t:=ao4 C J (by decide);replace t:=ab t;have L:=ab f;replace r:=ab r;cases E:(cN key l n).2 with
       |false=>
        rw[E] at f1;replace E:=ab E;go_wp2;refine oR (v:=.tuple #[.slice none 0 0,.bool false]) (by simp[results,O,go_sem]) rfl ⟨_,false,rfl, ?_,λh=>(by cases h),a.alloc a.size _⟩;simp only[kw,false_iff];intro h;have:=h n (da L.out);rw[E.out] at this;cases this
       |true=>
        rw[E] at f1;have s:∀m∈dy.take (k+1),(cN key l m).2=true:=λm D=>by
         rw[mx L.out,me] at D;rcases D with D|D
         .exact d.out m D
         .rw[lc.1 D];exact E
        replace s:=ab s;replace fL:=ab fL;have ax:=aA wr (.cells #[.string (cN key l n).1,.bool true] 160);have W:=aA (wr.alloc (.cells #[.string (cN key l n).1,.bool true] 160)) (.cells #[.string (cN key l n).1] 9);have kB:=bW.new (wr.alloc (.cells #[.string (cN key l n).1,.bool true] 160)) 9 #[.string (cN key l n).1];simp only[mu] at kB;have K:=(J.below ax).below W;have q:=(C.below ax).below W;have g:=ae (ae a ax) W;go_wp2_with(at_builtin;refine ago (F:=gZ) (v:=.slice So (amy key l (dy.take k)).length sc) rfl (.tmp 38) (.tmp 41) 74 rfl ab5 (cN key l n).1 rfl K rfl kB rfl (by have:=r.out;omega) g.size ?_;intro va wa oa H al;obtain⟨Aa,ca,rfl⟩:=oa.form);go_roundw
        case rel=>exact⟨k+1,by omega,by go_num,by rw[fL.out];rw[ap] at oa;exact oa,q.fc H λb hb=>t.out b hb,s.out,g.trans (H.below g.size λi hi hx=>by have:=(K.at_ hx).1;omega)⟩
        simp[intOf];omega
      .obtain rfl:k=dy.length:=by omega
       rw[ge] at J d;go_wp2;refine oR (v:=.tuple #[_,.bool true]) (by simp[results,O,go_sem]) rfl ⟨_,true,rfl,by simp only[uB];exact d.out,λ_=>J,a⟩
end
section
open Go.RowKit
structure Glo (w:World):Prop where
 key:∃x,w.cell? ⟨0,0,none⟩=some x
 piece:∃x,w.cell? ⟨1,0,none⟩=some x
def Glo.below(h:Glo w)(b:Below w.heap.size w w'):Glo w':=by
 obtain⟨⟨x,c⟩,y,a⟩:=h;exact⟨⟨x,(qv (b.block _ (fZ c))).trans c⟩,⟨y,(qv (b.block _ (fZ a))).trans a⟩⟩
def apY(a:al9 key l x.ns)(b:(iP (nT key l x.ns)).2=true):iQ key l x=some ⟨x.p,(iP (nT key l x.ns)).1⟩:=by unfold iQ;rw[dl ⟨a,b⟩]
def aj6(h:¬(al9 key l x.ns/\(iP (nT key l x.ns)).2=true)):iQ key l x=none:=by unfold iQ;rw[be h]
def aj7(b:x∈xs)(h:iQ key l x=none):gb key l xs=none:=by
 unfold gb;rw[be];rintro⟨a, -⟩;have:=a x b;rw[h] at this;cases this
def amA{l:List ByteArray}:(iP l).1.size<=40:=by
 unfold iP;split
 .rename_i h;exact(jf h.1).1
 .exact fa _
def aj8{y:Nd}(a:xs[k]?=some x)(h:iQ key l x=some y):fD key l (xs.take (k+1))=fD key l (xs.take k)++[y]:=by
 unfold fD;rw[mx a,List.filterMap_append];simp[h]
def ae7.itl{a:List It}(h:ae7 w Z hi a [.slice A n c])(o:hi<=w.heap.size):ItL w A (a.map λx=>(x.n,x.b)):=λi x e=>by
 rw[qE] at e;obtain⟨y,g,rfl⟩:=gE.1 e;obtain⟨b,d,m,rfl,p,l, -,⟨rfl,j,k⟩,f⟩:=h.at_ g;exact⟨b,d,rfl,by omega,by simpa using f 0 _ rfl,f 1 _ rfl,j,k⟩
def kJ.pkl{l:List Pk}(h:kJ w Z hi l [.slice A n c])(k:hi<=w.heap.size):PkL w A (ju l):=λi x e=>by
 unfold ju at e;rw[qE] at e;obtain⟨y,j,rfl⟩:=gE.1 e;obtain⟨b,a,q,rfl,s,p, -,⟨v,rfl,r,f⟩,g⟩:=h.at_ j;obtain⟨B,d,rfl⟩:=f.form;obtain⟨-,o,m⟩:=f.len_;refine⟨b,a,B,d,rfl,by omega,by have:=g 0 _ rfl;rw[sU] at this;exact this, ?_, ?_,m,f.itl k⟩
 .have:=g 1 _ rfl;rw[show(pkd y).2.length=y.its.length from pe _];exact this
 .rw[show(pkd y).2.length=y.its.length from pe _];exact o
def ayW(h:oW w Z hi xs [.slice A n c])(i:xs[k]?=some x) :
  ∃b a A' d,A=some ⟨b,a,none⟩/\Z<=b/\b<hi/\x.p.size<=maxLen/\w.cell? ⟨b,a+k*2,none⟩=some (.string x.p)/\w.cell? ⟨b,a+k*2+1,none⟩=some (.slice A' x.ns.length d)/\cG oZ 1 w Z hi x.ns [.slice A' x.ns.length d]:=by
 obtain⟨b,a,m,rfl,j,g,l,⟨v,rfl,f,hi⟩,e⟩:=h.at_ i;obtain⟨A',d,rfl⟩:=hi.form;exact⟨b,a,A',d,rfl,j,g,f,by simpa using e 0 _ rfl,e 1 _ rfl,hi⟩
def acY(o:Option (List Nd))(w:World)(e:Ending)(w':World):Prop:=∃v,e=.returned (.tuple #[v,.bool o.isSome])/\aH pF 89 w' w.heap.size v (o.getD [])/\(∀y∈o.getD [],pF.good y)/\Below w.heap.size w w'
def acY.no{o:Option (List Nd)}(h:o=none)(a:Below w.heap.size w w'):acY o w (.returned (.tuple #[.slice none 0 0,.bool false])) w':=by
 subst h;exact⟨_,rfl,aH.nil _ _ _,λy b=>(by cases b),a⟩
theorem akP (l:List iw) (A:Option Addr) (c:Nat) (x:Sn) (vn:Value) (lo hi:Nat) (w:World) (hg:Glo w) (bu:hi<=w.heap.size) (hl:PkL w A l) (af:l.length<=c) (hc:c<=maxLen) (gS:∀p∈l,1<=p.2.length/\cA p.1)
  (hn:oW w lo hi x.all [vn]) (o:∀y∈x.all,y.ns.length<=2147483647) (aX:x.all.length<=1099511627) :
  Calls (ah true) 40 #[.int .i64 7,.agg #[.int .i64 x.no,vn],.slice A l.length c] w (acY (gb 7 l x.all) w):=by
 obtain⟨B,d,rfl⟩:=hn.form;obtain⟨-,hd,Z⟩:=hn.len_;have HD:=ab Z;unfold maxLen at Z;have aL:=ab gS;have aJ:=ab o;clear gS o;go_enter zl,ntmps40;go_wp2;refine(adT (β:=true) 7 _ true (by simp)).mono ?_;rintro e w1 ⟨rfl,rfl⟩;go_wp2;have aK:=aA w (.cells #[.int .i64 x.no,.slice B x.all.length d] 83);generalize w.alloc (.cells #[.int .i64 x.no,.slice B x.all.length d] 83)=w0 at *;have b2:=aK.size;go_loopw [8,20] (λoo ii wr=>∃k:Nat,k<=x.all.length/\ii=.int .i64 k/\(∀y∈x.all.take k,(iQ 7 l y).isSome=true)/\aH pF 89 wr w.heap.size oo (fD 7 l (x.all.take k))/\(∀y∈fD 7 l (x.all.take k),pF.good y)/\(fD 7 l (x.all.take k)).length=k/\Below w.heap.size w wr) (λ_ ii _=>x.all.length-(intOf ii).toNat)
 case atStart=>exact⟨0,fa _,rfl,λy hy=>(by cases hy),aH.nil _ _ _,λy hy=>(by cases hy),rfl,aK⟩
 case round=>
  obtain⟨k,hk,rfl,m,V,Q,U,hb⟩:=hrel;have E:=ab m;have u:=ab Q;have I:=ab U;clear m Q U aK;have ao:=hb.size;by_cases a8:k<x.all.length
  .obtain⟨y,dV⟩:=ar a8;have S:oW wr lo hi x.all [.slice B x.all.length d]:=oW.loc.below hn hb bu;obtain⟨b,b1,A',c',rfl,b3,H,ad,al,aT,o⟩:=ayW S dV;have HY:=ab dV;have a2:=aJ.out y (da dV);clear dV;go_wp2;have ba:=aA wr (.cells #[.string y.p,.slice A' y.ns.length c'] 101);have kb:=bW.new wr 101 #[.string y.p,.slice A' y.ns.length c'];generalize wr.alloc (.cells #[.string y.p,.slice A' y.ns.length c'] 101)=wa at *;have t:=ae hb ba;have aP:=t.size;obtain⟨⟨g0,e0⟩,g1,e1⟩:=hg.below t;have HF:=amz 7 (by omega) l A c y.ns _ lo hi wa g0 g1 (bd bu aP) (hl.below t) af hc aL.out (aes.loc.below o ba (bd bu ao)) a2 e0 e1;refine HF.mono ?_;clear HF e0 e1 S al aT o;rintro e w2 ⟨v2,q,rfl,P,X,L⟩;have a1:=ae t L;have M:=ab P;clear P;have ax:=ak kb L;cases q with
   |false=>
    have a:gb 7 l x.all=none:=aj7 (da HY.out) (aj6 λO=>by have:=M.out.2 O.1;cases this);have g:=ab a;clear a X;go_wp2;go_ret2;exact acY.no g.out a1
   |true=>
    have j:=M.out.1 rfl;have J:∀s∈nT 7 l y.ns,aU (bs s):=λs hs=>by
     obtain⟨n,hn,rfl⟩:=mw.1 hs;exact(lh (j n hn)).1
    have Y:∀s∈nT 7 l y.ns,s.size<=maxLen:=λs hs=>by have:=(fS (J s hs)).2;unfold maxLen;omega
    have o2:aH gZ 9 w2 wa.heap.size v2 (nT 7 l y.ns):=X rfl;have t2:=gY.sl (aH.deep o2 Y wa.heap.size) (am _);have W:(nT 7 l y.ns).length<=2147483647:=by unfold nT;rw[pe];exact a2
    have HC:=λN (r:Below w2.heap.size w2 N)=>apW (β:=true) (nT 7 l y.ns) J W v2 N _ _ (dr.av.below t2 r (am _)) r.size;have a4:=ab HC;have ay:=ab (show al9 7 l y.ns from j);clear HC j J Y o2 t2 W X M;go_wp2;refine(a4.out _ (gn _ _)).mono ?_;rintro e N ⟨rfl,r⟩;have C:=ae a1 r;have an:=ak ax r;have cp:=an.cell 0;cases hj:(iP (nT 7 l y.ns)).2
    .have a:gb 7 l x.all=none:=aj7 (da HY.out) (aj6 λO=>by rw[hj] at O;cases O.2);have g:=ab a;clear a hj;go_wp2;go_ret2;exact acY.no g.out C
    .have D:=apY (x:=y) ay.out hj;have a6:(iP (nT 7 l y.ns)).1.size<=maxLen:=by have:=amA (l:=nT 7 l y.ns);unfold maxLen;omega
     generalize (iP (nT 7 l y.ns)).1=tx at *;have a3:=aj8 HY.out D;have R:∀z∈x.all.take (k+1),(iQ 7 l z).isSome=true:=λz f=>by
      rw[mx HY.out] at f;rcases me.1 f with f|f
      .exact E.out z f
      .rw[lc.1 f,D];rfl
     have HN:=ab a3;have a9:=ab R;clear a3 R D hj;have K:=(V.below (ae ba (L.trans (r.mono L.size)))).below (gn _ _);obtain⟨Ao,co,rfl⟩:=K.form;have a0:=C.size;go_wp2_with(at_builtin;refine bN (F:=pF) (v:=.slice Ao (fD 7 l (x.all.take k)).length co) rfl (.tmp 41) (.tmp 46) 59 rfl nM (⟨y.p,tx⟩:Nd) rfl K rfl rfl (by rw[I.out];omega) a0 ?_;intro va w4 oa a7 b0;obtain⟨Aa,ca,rfl⟩:=oa.form);go_roundw
     case rel=>
      have a5:=C.trans (a7.below a0 λi hi hx=>by have:=(K.at_ hx).1;omega);refine⟨k+1,by omega,by go_num,a9.out,by rw[HN.out];simp only[ap,ff,ls,jt] at oa;exact oa, ?_,by rw[HN.out,ap,I.out];rfl,a5⟩;rw[HN.out];intro z f;rcases me.1 f with f|f
      .exact u.out z f
      .rw[lc.1 f];exact⟨ad,a6⟩
     case measure=>simp[intOf];omega
  .obtain rfl:k=x.all.length:=by omega
   rw[ge] at E u I V;have t3:=gY.sl (aH.deep V u.out w.heap.size) (am _);obtain⟨q,P⟩:∃q:Bool,q=true↔agH (fD 7 l x.all):=by
    by_cases hx:agH (fD 7 l x.all)
    .exact⟨true,by simp[hx]⟩
    .exact⟨false,by simp[hx]⟩
   have HT:=λN (r:Below wr.heap.size wr N)=>asZ (β:=true) (fD 7 l x.all) u8 N _ _ (fC.av.below t3 r (am _)) r.size q P;have aa:=ab HT;have M:=ab P;clear HT P t3;go_wp2;refine(aa.out _ (gn _ _)).mono ?_;rintro e w2 ⟨rfl,L⟩;have H:=ae hb L;cases q with
   |false=>
    have a:gb 7 l x.all=none:=by
     unfold gb;rw[be];rintro⟨-,O⟩;have:=M.out.2 O;cases this
    have g:=ab a;clear a;go_wp2;go_ret2;exact acY.no g.out H
   |true=>
    have T:gb 7 l x.all=some (fD 7 l x.all):=by
     unfold gb;rw[dl ⟨E.out,M.out.1 rfl⟩]
    have G:=ab T;clear T;have X:=V.below L;clear V;go_wp2;go_ret2;refine⟨u8,by rw[G.out];rfl,by rw[G.out];exact X,by rw[G.out];exact u.out,H⟩
end
section
variable {β:Bool}
open Go.RowKit
section
variable {P:Program} {α:Type} {F:Flat α}
def apZ  {rest:List Oper} {o:Oper} {a:Act} {Q:Exit->Act->World->Prop} (l:o.guard=none) (s x:Operand) (t:TypeId)
  (B:o.op=.call ⟨.builtin .append,#[s,x],#[t,t]⟩)
  (y:gD P t e F.sz Z) {base:Nat} {xs d:List α} (G:a.eval s=v) (g:aH F e w base v xs)  (H:a.eval x=.slice A d.length c) (C:cG (cx F) F.sz w N hi d [.slice A d.length c]) (n:hi<=w.heap.size)
  (I:xs.length+d.length<=1099511627776) (f:base<=w.heap.size)
  (h:∀k i,aH F e i base k (xs++d)->bM (λb=>v.ownBlock=some b) w i->(∀b,k.ownBlock=some b->v.ownBlock=some b\/w.heap.size<=b)->wpList P O Q rest (a.put o.dst k) i) :
  wpList P O Q (o::rest) a w:=
 abJ l s x t B y G g H (news:=dm F d) (dJ F d) (λz=>by
  obtain⟨r,q,p⟩:=pq C n z;exact⟨r,q,λj u D=>p j u D w (gn _ _)⟩) (pW F d) I f λk i m=>h k i (by
  have E:=m.own;unfold aH;rw[nE,ap];exact E) m.fc m.at_
end
def pkN(p:Pk):Nat:=p.its.length
def bG(l:List Pk):List Int:=l.flatMap λp=>iR p.its
def afY{l:List Pk}{x:Pk}(h:l[k]?=some x):bG (l.take (k+1))=bG (l.take k)++iR x.its:=by
 unfold bG;rw[mx h,rM];simp
def ach(l:List Pk):∀j,(bG (l.take j)).length=ab2 pkN l j:=λj=>by
 unfold bG ab2;generalize l.take j=m
 induction m with
 |nil=>rfl
 |cons x m a=>rw[List.flatMap_cons,ap,a,pI,qP,uw];rfl
def aqK(l:List Pk):afH pkN l<=dU bPk l:=by
 unfold afH dU;have:(l.map pkN).sum<=(l.map bPk).sum:=by
  induction l with
  |nil=>exact am _
  |cons x l a=>
   rw[qP,qP,uw,uw];have:pkN x<=bPk x:=fp;omega
 omega
def ow(l:List Pk)(v:Value)(w:World)(U hi:Nat)(X:hi<=w.heap.size)(h:jM w U hi l [v])(hl:afH pkN l<=100000000) :
  Calls (ah β) 37 #[v] w (an5 w (bG l)):=by
 obtain⟨A,c,rfl⟩:=h.form;obtain⟨_,hc,T⟩:=h.len_;unfold maxLen at T;go_enter zm,ntmps37;go_wp2;go_loopw [3,8] (λM H wr=>∃k:Nat,k<=l.length/\H=.int .i64 k/\aH fM 3 wr w.heap.size M (bG (l.take k))/\Below w.heap.size w wr) (λM H _=>l.length-(intOf H).toNat)
 case atStart=>exact⟨0,fa _,rfl,aH.nil _ _ _,gn _ _⟩
 case round=>
  obtain⟨k,hk,rfl,b,a⟩:=hrel;obtain⟨V,R,rfl⟩:=b.form;have W:=ach l k;have a4:=ajr (n:=pkN) (l:=l) (j:=k);by_cases x:k<l.length
  .obtain⟨p,m⟩:=ar x;have y:=alL (n:=pkN) m;have N:=ajr (n:=pkN) (l:=l) (j:=k+1);have E:pkN p=p.its.length:=rfl;rw[E] at y;have f:=afY m;have HST:=ab f;obtain⟨b1,Y,Z,c5,rfl, -, -,a3,P,a1,J⟩:=aaw (jM.av.below h a X) m;have G:p.its.length<=100000000:=by omega
   have g:(bG (l.take k)).length+p.its.length<=100000000:=by omega
   replace m:=ab m;revert b;revert HST;revert g;generalize bG (l.take k)=L;intro g HST b;have u:=ab g;go_wp2;generalize S:wr.alloc (.cells #[.int .i64 p.no,.slice Z p.its.length c5] 36)=wa at *;obtain⟨t,a2,m0,lJ,a0⟩:=gT S;replace b:=b.below t;have s:=iM.av.below J t (by have:=a.size;omega);replace a:=ae a t;refine(acf p.no p.its _ _ _ _ (by have:=a.size;omega) s G).mono ?_;rintro e w5 ⟨v5,rfl,I,K⟩;obtain⟨A6,c6,rfl⟩:=I.form;replace b:=b.below K;replace a:=ae a K;have q:∀z∈iR p.its,cA z:=λz Q=>by
    obtain⟨it,B,rfl⟩:=mw.1 Q;exact((cG.good J.1) it B).1
   have C:=ab (I.sl q (am _));have d:=pI p.its;replace d:=ab d;have o:=ab b;go_wp2_with(at_builtin;refine apZ (F:=fM) (v:=.slice V L.length R) rfl (.tmp 12) (.tmp 14) 30 rfl kO rfl o.out rfl C.out (am _) (by have:=u.out;have:=d.out;omega) a.size ?_;intro v8 w8 D r O;obtain⟨A8,c8,rfl⟩:=D.form;simp only[ap] at D);go_roundw
   case rel=>exact⟨k+1,by omega,by go_num,by rw[HST.out];exact D,a.trans (r.below a.size λi hi hs=>by have:=(o.out.at_ hs).1;omega)⟩
   simp[intOf];omega
  .obtain rfl:k=l.length:=by omega
   rw[ge] at b ⊢;go_wp2;go_ret;exact⟨_,rfl,b,a⟩
def aiv(u0 u1 a:Value)(g:∃A n c,u0=.slice A n c)(i:∃A n c,u1=.slice A n c)(f:∃A n c,a=.slice A n c)(w:World) :
  Calls (ah β) 18 #[.agg #[u0,u1,a]] w λe b=>e=.returned (.agg #[u0,u1,a])/\Below w.heap.size w b:=by
 obtain⟨A,n,c,rfl⟩:=g;obtain⟨B,m,d,rfl⟩:=i;obtain⟨C,k,e,rfl⟩:=f;go_enter zK,ntmps18;go_wp2;exact oR (v:=.agg #[.slice A n c,.slice B m d,.slice C k e]) (by simp[results,results18,go_sem]) rfl ⟨rfl,by repeat(first|exact gn _ _|refine Below.setCell ?_ (by first|(simp;done)|(simp;omega)) _|refine Below.alloc ?_ (by first|(simp;done)|(simp;omega)) _)⟩
end
section
open Go.RowKit
def aqH{xs:List Sn}(h:jW w Z hi xs [.slice A n c]){x:Sn}(i:xs[k]?=some x) :
  ∃b a A' d,A=some ⟨b,a,none⟩/\Z<=b/\b<hi/\cA x.no/\w.cell? ⟨b,a+k*2,none⟩=some (.int .i64 x.no)/\w.cell? ⟨b,a+k*2+1,none⟩=some (.slice A' x.all.length d)/\oW w Z hi x.all [.slice A' x.all.length d]:=by
 obtain⟨b,a,m,rfl,j,g,l,⟨v,rfl,f,hi⟩,e⟩:=h.at_ i;obtain⟨A',d,rfl⟩:=hi.form;exact⟨b,a,A',d,rfl,j,g,f,by simpa using e 0 _ rfl,e 1 _ rfl,hi⟩
def kJ.aoA{l:List Pk}(h:kJ w Z hi l [v]):∀p∈ju l,cA p.1:=λp a=>by
 obtain⟨A,c,rfl⟩:=cG.form h;obtain⟨q,d,rfl⟩:=mw.1 a;obtain⟨i,hi⟩:=qW.1 d;obtain⟨_,_,_,_,_,_,_,⟨_,_,b,_⟩,_⟩:=cG.at_ h hi;exact b
end
section
variable {β:Bool}
open Go.RowKit
def aqN(xs a:List Int)(d c:Value)(w:World)(i hi jR hi':Nat)(k:cG oZ 1 w i hi xs [d])(j:cG oZ 1 w jR hi' a [c])(b:Bool)(g:b=true↔xs=a) :
  Calls (ah β) 6 #[d,c] w λe f=>e=.returned (.bool b)/\Below w.heap.size w f:=by
 refine(alb xs a d c w i hi jR hi' k j).mono ?_;rintro e f ⟨rfl,n,rfl⟩;refine⟨aC ?_,wK (gn _ _) _⟩;cases b
 .rw[sW,<-g];simp
 .rw[tR,<-g]
end
section
open Go.RowKit Go.ChangeShapes Go.WideShapes Go.ChangeAt
section
variable {H:Type} {enc:TypeId×Value->H} {P:Program}
def aaG(i:laidOutB P=true){W l:World}{e:Nat->Bool}:∀{g:List TypeId} {j:List Value} {k:List (DataW H)} {f:List MemPlace},
  (∀t∈g,P.readableRec t=true/\t<P.types.size)->DataW.TrodAll enc P W 0 (λ_=>true) true g j k f->(∀p∈f,W.sameAt l p)->(∀p∈f,e p.block=true)->
  DataW.TrodAll enc P l 0 e true g j k f
 |[],_,_,_,_,h,_,_=>by
  obtain⟨rfl,rfl,rfl⟩:=trodAll_nil h;exact trodAll_mk0
 |t::g,_,_,_,hr,h,hs,hsp=>by
  obtain⟨v,q,d,m,a,b,rfl,rfl,rfl,u,n⟩:=trodAll_cons h;obtain⟨o,s⟩:=hr t (by simp);refine trodAll_cons_mk (WideElems.Trod_stays i o s u (λp c=>hs p (by simp[c])) (λp c=>hsp p (by simp[c]))) ?_;exact aaG i (λt r=>hr t (by simp[r])) n (λp c=>hs p (by simp[c])) (λp c=>hsp p (by simp[c]))
def adp{w:World}{base:Nat}{c:Nat->Bool}{e:Bool}:∀{f:List TypeId} {m:List Value} {g:List (DataW H)} {l:List MemPlace},DataW.TrodAll enc P w base c e f m g l->g.length=f.length
 |[],_,_,_,h=>by
  obtain⟨_,rfl,_⟩:=trodAll_nil h;rfl
 |t::f,_,_,_,h=>by
  obtain⟨v,k,d,i,a,b,rfl,rfl,rfl,n,j⟩:=trodAll_cons h;rw[ff,ff,adp j]
end
def own:ownKnob prog.godebug=none:=by kernel_rfl
def xq:laidOutB prog=true:=by kernel_rfl
section
variable {H:Type} {enc:TypeId×Value->H} {P:Program}
def ap1 {base:Nat}   {r:Reach} {k:IntKind} {d:DataW H} {E:fV Int} (C:P.underlying t=some (.slice e)) (S:P.underlying e=some (.int k)) (W:P.cellsOf e=1)
  (M:∀(w:World) (K l:Nat) (x:Int),(Lit.int k x).wf=true->E w K l x [.int k x])
  (T:Value.okWide P w r Z t v) (h:DataW.Trod enc P w base U main t v d p) (q:∀x∈p,x.block<w.heap.size) :
  ∃Q:List Int,cG E 1 w 0 w.heap.size Q [v]:=by
 obtain⟨Y,len,cap,rfl⟩:=okWide_slice C T;obtain⟨I,O⟩:=h;rcases open_ints C S W O with⟨c,A⟩|⟨a,F,D,m,c,_,X,R,G,A,g,y⟩
 .simp[Value.cells] at c;obtain⟨rfl,rfl,rfl⟩:=c;exact⟨[],none,0,rfl,am _,by unfold maxLen;omega,λh=>absurd h (by simp)⟩
 .simp[Value.cells] at c;obtain⟨rfl,rfl,rfl⟩:=c;have f:(m.take len).length=len:=by
   rw[fb,G];split<;>omega
  refine⟨m.take len,some a,cap,by rw[f],by omega,R,λN=> ?_⟩;rw[f] at N;have L:len<=m.length:=by rw[G];split<;>omega
  obtain⟨b,o,rfl,s⟩:=ints_at g (by omega);refine⟨b,o,rfl,fa _, ?_,λi x l=> ?_⟩
  .simp only[uY] at A;have B:MemPlace.cell b o∈p:=by
    rw[A.2];have:m.length=(m.length-1)+1:=by omega
    simp[MemPlace.row];omega
   exact q _ B
  .have n:i<len:=by have:=aB l;omega
   have J:m.getD i 0=x:=by
    rw[sV n] at l;rw[sK,l];rfl
   refine⟨[.int k x],rfl,M _ _ _ _ (y x ?_),λj u z=> ?_⟩
   .rw[sV n] at l;exact da l
   .have V:j=0:=by have:=aB z;simpa using this
    subst V;simp at z;subst z;have:=s i (by omega);rw[J] at this;simpa using this
end
def wA {H:Type} {enc:TypeId×Value->H} {base:Nat}   {r:Reach} {d:DataW H} 
  (b:Value.okWide prog w r Z 22 v) (h:DataW.Trod enc prog w base U main 22 v d p) (a:∀x∈p,x.block<w.heap.size):∃c:List Int,cG jw 1 w 0 w.heap.size c [v]:=
 ap1 underlying22 underlying5 (by kernel_rfl) (λ_ _ _ x e=>⟨rfl,by simp[Lit.wf,IntKind.min,IntKind.max,IntKind.signed,IntKind.bits] at e;exact⟨by omega,by omega⟩⟩) b h a
end
section
open Go.RowKit Go.ChangeShapes Go.WideShapes Go.ChangeAt Go.Conc
section
variable {H:Type} {enc:TypeId×Value->H} {P:Program}
def aci{w:World}{a:Nat->Bool}:∀{b:List String} {c:List (DataW H)} {i:List MemPlace},DataW.TrodVars enc P w a b c i->c.length=b.length
 |[],[],_,_=>rfl
 |[],_::_,_,h=>h.elim
 |_::_,[],_,h=>h.elim
 |n::b,d::c,i,h=>by
  obtain⟨g,t,o,f,p,q,r,k,l,m,j,e⟩:=h;rw[ff,ff,aci j]
theorem ap2 {f:Func} {s:ChangeSpec} {b:Bool} {W u:World} {args:Array Value} {i gs:List (DataW H)} {a:List MemPlace} {o:TypeId}
  (r:laidOutB P=true) (w:∀t∈f.params.toList,P.readableRec t=true/\t<P.types.size) (e:f.resultTypes=#[o]) (n:P.underlying o=some .bool) (k:varsRowed P s.vars=true)
  (c:s.fn H (i++gs)={results:=[.lit (.bool true)],args:=i,vars:=gs})
  (l:DataW.Whole enc P f.params.toList s.vars b W args.toList i gs a) (j:Below W.heap.size W u) :
  s.post enc P f b true false false W args (.bool true) u:=by
 have d:∀p∈a,p.block<W.heap.size:=λp v=>by simpa using l.lt p v
 have m:=l;obtain⟨p,q,B,z,rfl,A,y⟩:=l;refine⟨i,gs,p++q,[],p,q,m, ?_, ?_, ?_,World.keptBut_mono (λx g=>g.elim) (j.frame λ_=>False),λh=>by cases h⟩
 .rw[c,e];exact trodAll_mk1 (shut_bool n _)
 .rw[c];exact aaG r w B (λx g=>j.same (d x (by simp[g]))) (λx g=>by simpa using d x (by simp[g]))
 .rw[c];exact j.trodVars r k z
end
def wX (i:Looks) {p:Pinned} {s:OpenSpec} {c:OpenClaim} (l:List (List PathCond)) (kinds:List LaidKind) (a:Bool) (b:Bool×String) (d:Bool)
  (z:c.holds p s) (n:∀D∈l,(c.withDomain D).holds p s) (w:c.wfByText s=true) (k:∀D∈l,(c.withDomain D).wfByText s=true)
  (m:c.laidByTextAt i p kinds a)
  (e:c.start=.entering) (g:c.noBlocks=false/\c.again=false) (u:p.checked.prog.mainIs=some (b.1,b.2.toList)) (y:(!b.1&&b.2.isEmpty&&!d)=false)
  (o:∀f fn,p.checked.prog.funcNamed c.func=some f->p.checked.prog.funcs[f]?=some fn->d=p.checked.prog.looks []/\∀(j:Nat) t,fn.params[j]?=some t->p.checked.prog.wantsStandIn t=false)
  (x:true=c.goesBy p.checked.prog) :
  Claim7.holds p (.plain s) {stood:={row:=c,standIns:=[],harness:=b,looks:=d},kinds:=[],alts:=l,goes:=true,laidByText:=true,laidKinds:=kinds,laidTests:=a,laidLooks:=i}:=by
 have v:∀r:OpenClaim,Claim7.isSixth {stood:={row:=r,standIns:=[],harness:=b,looks:=d},kinds:=[]}=false:=λr=>by simpa[Claim7.isSixth] using y
 refine⟨Claim7.tied_new_at i kinds a (wn z b d e g u (v c) o) w,λD q=> ?_,m,(λh=>by cases h),x⟩;exact Claim7.tied_new_at i kinds a (wn (n D q) b d e g u (v _) o) (k D q)
abbrev laidL:List (String×DataW Unit):=[("unicode/utf8.acceptRanges",Rows.laid_unicode_utf8_acceptRanges),("loop.example/depositary/impl.errPiece",Rows.laid_loop_example_depositary_impl_errPiece),("loop.example/depositary/impl.errKey",Rows.laid_loop_example_depositary_impl_errKey),("unicode/utf8.first",Rows.laid_unicode_utf8_first)]
def xi(os:Os)(args:Array Value):laidMetH prog laidL ((World.laidAll prog os laidL).forCall (λ_ _=>0) ⟨#[],args,[]⟩).memory:=by
 rw[vu _ _ _ (by kernel_rfl)];exact laidMet_laidAll _ (by kernel_rfl) (by kernel_rfl)
end
section
open Go.Conc Go.ConcN Go.RowKit
structure pL (w0 w:World) (n:Nat) (res:List (ByteArray×Bool)):Prop where
 low:∀b,b<w0.heap.size->w.heap[b]?=w0.heap[b]?
 lt:w0.heap.size<w.heap.size
 row:∃cs,w.heap[w0.heap.size]?=some (.cells cs 160 (0,0))/\cs.size=2*n/\∀i x,res[i]?=some x->cs[2*i]?=some (.string x.1)/\cs[2*i+1]?=some (.bool x.2)
def vz(h:w.heap[C]?=some (.cells cs t z)):(w.setCell ⟨C,i,none⟩ v).heap[C]?=some (.cells (cs.setIfInBounds i v) t z):=by
 unfold World.setCell;simp[pb,h]
def eQ(h:w.heap[C]?=some (.cells cs t z)):w.cell? ⟨C,i,none⟩=cs[i]?:=by
 unfold World.cell?;simp[h]
def ie(h:w.heap[C]?=some (.cells cs t (0,0))):w.frozen? ⟨C,i,none⟩=false:=by
 unfold World.frozen?;simp[h]
def pL.below(h:pL w0 w n W)(c:Below w.heap.size w w'):pL w0 w' n W:=by
 obtain⟨e,f,d⟩:=h.row;exact⟨λb a=>(c.block b (Nat.lt_trans a h.lt)).trans (h.low b a),aE h.lt c.size,e,(c.block _ h.lt).trans f,d⟩
def pL.store(h:pL w0 w n W)(o:W.length<n)(x:ByteArray×Bool):pL w0 ((w.setCell ⟨w0.heap.size,2*W.length,none⟩ (.string x.1)).setCell ⟨w0.heap.size,2*W.length+1,none⟩ (.bool x.2)) n (W++[x]):=by
 obtain⟨p,l,g,j⟩:=h.row;refine⟨λb k=> ?_, ?_,_,vz (vz l),by simpa using g,λi y c=> ?_⟩
 .have d:w0.heap.size≠b:=by omega
  rw[aY _ _ _ d,aY _ _ _ d];exact h.low b k
 .rw[dj,dj];exact h.lt
 .rw[wj] at c;split at c
  .rename_i f;obtain⟨a,b⟩:=j i y c;constructor
   .rw[io (by omega),io (by omega)];exact a
   .rw[io (by omega),io (by omega)];exact b
  .rename_i m;have e:i=W.length:=by
    have:=(li.1 c).1;simp at this;omega
   subst e;simp at c;subst c;constructor
   .rw[io (by omega),pY (by omega)]
   .rw[pY (by simp;omega)]
abbrev inH(k:List Item):List Item:=.inLoop ml :: .inBlock 53::k
def afA:f101.body.isSome=true:=by kernel_rfl
def as4(β:Bool):∃fn,(ah β).funcs[101]?=some fn/\fn.body.isSome=true/\(fn.name == "runtime.NumGoroutine")=false:=by
 refine⟨pf f101, ?_, ?_,by have:=cH func101;exact this⟩
 .rw[akT β (by decide) (by decide),func101];rfl
 .show(f101.body.map gP).isSome=true;rw[Option.isSome_map];exact afA
def aj9{β:Bool}{args:Array Value} :(callFunc 101 args).runT (ah β) w #[]=(.ok (.enter 101 args) w,#[]):=by
 obtain⟨fn,c,b,d⟩:=as4 β;unfold callFunc;have f:¬fn.name= "runtime.NumGoroutine" :=by simpa using d
 have a:¬fn.body=none:=λe=>by rw[e] at b;cases b
 simp[c,f,a]
section
variable {X:Cx} {T:Array Value} {k:List Item} {w:World}
def At.aBd (hF:eF Y)  {W : Option Addr} {j : Nat}  (h:At X T (.code ml::inH k) w)
  (k1:1<=key) (k2:key<=99) (hl:l.length=n) (hc:n<=c) (ao:(c:Int)<=9223372036854775807) (hp:RdP w0 A 0 l) (a7:∀a,W=some a->a.block<w0.heap.size) (b0:(Z:Int)<=2147483647)
  (E:T.getD 0 undef=.int .i64 key) (s1:T.getD 1 undef=.slice A n c) (s2:T.getD 2 undef=.slice W Z N) (r:T.getD 16 undef=.int .i64 Z) (i:T.getD 27 undef=.slice (some ⟨w0.heap.size,0,none⟩) Z Z) (g:T.getD 28 undef=.int .i64 j)
  (hj:j<=Z) (al:dy.length=j) (p:pL w0 w Z (dy.map (Y key l))) :
  (j=Z/\∃T',Tm cP T T'/\T'.getD 27 undef=.slice (some ⟨w0.heap.size,0,none⟩) Z Z/\At X T' k w)\/
  (j<Z/\∃nm T' w',ajk w0 W j nm/\Tm cP T T'/\T'.getD 16 undef=.int .i64 Z/\T'.getD 27 undef=.slice (some ⟨w0.heap.size,0,none⟩) Z Z/\T'.getD 28 undef=.int .i64 (j+1:Nat)/\pL w0 w' Z ((dy++[nm]).map (Y key l))/\At X T' (.code ml::inH k) w'):=by
 have q:=Tm.refl cP T;unfold Go.Proofs.YtpbbcfocomejmaaGreatDoor.ml at h;have h:=h.seq;replace h:=h.region (l:=[0]) rfl;obtain⟨v,G,b1,⟨C,B⟩,m,U,b⟩:=h.jb (d:=26) (Φ:=λv o=>v=.bool (decide ((j:Int)<Z))/\o=w) rfl rfl rfl (by decide) λK o D=>fY (by exact g) (by exact r) D;rw[C] at U;rw[B] at b;replace E:=(m.same 0 rfl).trans E;replace s1:=(m.same 1 rfl).trans s1;replace s2:=(m.same 2 rfl).trans s2;replace r:=(m.same 16 rfl).trans r;replace i:=(m.same 27 rfl).trans i;replace g:=(m.same 28 rfl).trans g;replace q:=q.trans (m.sw rfl);replace h:=b;replace h:=h.iV.seq.cond U;by_cases Q:(j:Int)<Z
 .right;rw[db Q] at h;simp only[ph] at h;replace h:=h.skip.seq.seq;replace h:=h.region (l:=[0,1,2,3]) rfl;obtain⟨ii,hi,hz⟩:=(faQ true).i3;obtain⟨v,G,ay,⟨a,hB,C,B⟩,m,M,b⟩:=h.jb (d:=25) (Φ:=λv o=>∃a,W=some a/\v=.pointer (some (a.add (j*ii.size)))/\o=w) rfl rfl rfl (by decide) λK o D=>abU (faQ true).u31 hi (by exact s2) (by exact g) (by omega) D;rw[C,hz,tI] at M;rw[B] at b;replace E:=(m.same 0 rfl).trans E;replace s1:=(m.same 1 rfl).trans s1;replace r:=(m.same 16 rfl).trans r;replace i:=(m.same 27 rfl).trans i;replace g:=(m.same 28 rfl).trans g;replace q:=q.trans (m.sw rfl);replace h:=b;have hv:=h.noV (t:=25) rfl rfl rfl M (λe w he=>aeZ he);obtain⟨vv,G,aX,⟨L,B⟩,m,J,b⟩:=h.jb (d:=20) (Φ:=λv o=>w.cell? (a.add j)=some v/\o=w) rfl rfl rfl (by decide) λK o D=>ahM (faQ true).u3 rfl (by exact M) hv.1 D;rw[B] at b;replace E:=(m.same 0 rfl).trans E;replace s1:=(m.same 1 rfl).trans s1;replace r:=(m.same 16 rfl).trans r;replace i:=(m.same 27 rfl).trans i;replace g:=(m.same 28 rfl).trans g;replace q:=q.trans (m.sw rfl);replace h:=b;obtain⟨v,G,aT,⟨z,aa,C,B⟩,m,F,b⟩:=h.jb (d:=22) (Φ:=λv o=>∃z,vv=.int .i64 z/\v=.int .i64 (IntKind.i64.wrap (z*1))/\o=w) rfl rfl rfl (by decide) λK o D=>let⟨v,a1,z,a2,a3,a4⟩:=alx D rfl;⟨v,a1,z,J.symm.trans a2,a3,a4⟩
  rw[C] at F;rw[B] at b;replace E:=(m.same 0 rfl).trans E;replace s1:=(m.same 1 rfl).trans s1;replace r:=(m.same 16 rfl).trans r;replace J:=(m.same 20 rfl).trans J;replace i:=(m.same 27 rfl).trans i;replace g:=(m.same 28 rfl).trans g;replace q:=q.trans (m.sw rfl);replace h:=b;subst aa;obtain⟨v,G,O,⟨C,B⟩,m,V,b⟩:=h.jb (d:=21) (Φ:=λv o=>v=.bool (IntKind.i64.wrap (z*1) ==z)/\o=w) rfl rfl rfl (by decide) λK o D=>alz (by exact F) (by exact J) D;rw[C] at V;rw[B] at b;replace E:=(m.same 0 rfl).trans E;replace s1:=(m.same 1 rfl).trans s1;replace r:=(m.same 16 rfl).trans r;replace J:=(m.same 20 rfl).trans J;replace F:=(m.same 22 rfl).trans F;replace i:=(m.same 27 rfl).trans i;replace g:=(m.same 28 rfl).trans g;replace q:=q.trans (m.sw rfl);replace h:=b;obtain⟨hq,b⟩:=h.iV.ayk V;replace h:=b.seq;replace h:=h.region (l:=[0,1,2]) rfl;have jX:=aa8 hq;have a8:ajk w0 W j z:=⟨a,hB,by rw[<-fX (p.low (a.add j).block (by rw[rq];exact a7 a hB))];exact L,jX⟩;obtain⟨v,G,aJ,⟨C,a5⟩,m,H,b⟩:=h.call (d:=24) (f:=101) (args:=#[.int .i64 key,.slice A n c,.int .i64 z]) rfl rfl rfl (by decide) (λw=>by
    have hm:Array.map (Frame.eval (FQ cB O (.inRegion aiz [0,1,2] :: .code (.region 83 aiA false)::inH k))) #[.tmp 0,.tmp 1,.tmp 20]=#[.int .i64 key,.slice A n c,.int .i64 z]:=by
     rw[<-E,<-s1,<-J];simp[Frame.eval]
    have e0:execOp (Frame.eval (FQ cB O (.inRegion aiz [0,1,2] :: .code (.region 83 aiA false)::inH k))) (ij (some 24) (.call ⟨.value (.func 101),#[.tmp 0,.tmp 1,.tmp 20],#[3,23,3]⟩) 160)=callFunc 101 #[.int .i64 key,.slice A n c,.int .i64 z]:=by
     simp only[execOp,ij,resolve];rw[hm];simp[Deferred.ofValue,invoke,Frame.eval];try rfl
    exact(fk (λs=>Sem.runT (ah true) s w #[]) e0).trans aj9) (hF true w key A n c l z k1 k2 hl hc ao (hp.below p.low) jX)
  rw[C] at H;replace p:=p.below a5;replace r:=(m.same 16 rfl).trans r;replace F:=(m.same 22 rfl).trans F;replace i:=(m.same 27 rfl).trans i;replace g:=(m.same 28 rfl).trans g;replace q:=q.trans (m.sw rfl);replace h:=b;obtain⟨i2,nD,a6, -⟩:=(faQ true).adF;obtain⟨v,w2,ad,⟨a2,an,C,B⟩,m,a0,b⟩:=h.jb (d:=23) (Φ:=λv o=>∃a,some (⟨w0.heap.size,0,none⟩:Addr)=some a/\v=.pointer (some (a.add (j*i2.size)))/\o=G) rfl rfl rfl (by decide) λK o D=>abU (faQ true).ahJ nD (by exact i) (by exact g) (by omega) D;cases an;rw[C,a6,iK,jt,tw] at a0;rw[B] at b;replace r:=(m.same 16 rfl).trans r;replace F:=(m.same 22 rfl).trans F;replace H:=(m.same 24 rfl).trans H;replace i:=(m.same 27 rfl).trans i;replace g:=(m.same 28 rfl).trans g;replace q:=q.trans (m.sw rfl);replace h:=b;have R:=p.store (by simp;omega) (Y key l z);rw[pe,al] at R;obtain⟨cs,I,aK, -⟩:=p.row;obtain⟨u0,ax⟩:∃u,cs[2*j]?=some u:=⟨_,fm (by omega)⟩;obtain⟨u1,a9⟩:∃u,cs[2*j+1]?=some u:=⟨_,fm (by omega)⟩;have ha:(⟨w0.heap.size,2*j,none⟩:Addr).add 1=⟨w0.heap.size,2*j+1,none⟩:=iK _ _ _;have S:=apb (faQ true) (dst:=none) (ty:=0) (pos:= "") (af:=#[]) (gd:=none) (w:=G) (A:=⟨w0.heap.size,2*j,none⟩) (u0:=.string (Y key l z).1) (u1:=.bool (Y key l z).2) (e:=(FQ cB ad (.inRegion aiz (2::[]) :: .code (.region 83 aiA false)::inH k)).eval) (x:=.tmp 23) (y:=.tmp 24) rfl rfl (by exact a0) (by exact H) ((eQ I).trans ax) (ie I) (by rw[ha];exact(eQ I).trans a9) (by rw[ha];exact ie I);rw[ha] at S;replace h:=h.opk rfl rfl rfl S;replace h:=h.iV.region (l:=[0,1]) rfl;generalize (G.setCell ⟨w0.heap.size,2*j,none⟩ (.string (Y key l z).1)).setCell ⟨w0.heap.size,2*j+1,none⟩ (.bool (Y key l z).2)=o at *;obtain⟨v,G,aL,⟨C,B⟩,m,F,b⟩:=h.jb (d:=22) (Φ:=λv P=>v=.int .i64 (IntKind.i64.wrap ((j:Int)+1))/\P=o) rfl rfl rfl (by decide) λK P D=>aly (by exact g) rfl D;rw[C] at F;rw[B] at b;replace r:=(m.same 16 rfl).trans r;replace i:=(m.same 27 rfl).trans i;replace g:=(m.same 28 rfl).trans g;replace q:=q.trans (m.sw rfl);replace h:=b;obtain⟨v,G,aP,⟨C,B⟩,m,g,b⟩:=h.jb (d:=28) (Φ:=λv P=>v=.int .i64 (IntKind.i64.wrap ((j:Int)+1))/\P=o) rfl rfl rfl (by decide) λK P D=>let⟨v,a1,a2,a3⟩:=ahK D;⟨v,a1,a2.trans F,a3⟩
  rw[C] at g;rw[B] at b;replace r:=(m.same 16 rfl).trans r;replace i:=(m.same 27 rfl).trans i;replace q:=q.trans (m.sw rfl);replace h:=b;rw[ae0 (by omega)] at g;exact⟨by omega,z,_,o,a8,q,r,i,g,by rw[qK];exact R,h.iV.again⟩
 .left;rw[bv Q] at h;simp only[kw,qB] at h;exact⟨by omega,_,q,i,h.exit rfl⟩
def At.axb {G:Int->List iw->Int->ByteArray×Bool} (C:eF G) {w0:World} {key:Int} {A v:Option Addr} {n c d N:Nat} {l:List iw}
  (x:1<=key) (k2:key<=99) (F:l.length=n) (H:n<=c) (q:(c:Int)<=9223372036854775807) (D:RdP w0 A 0 l) (p:∀a,v=some a->a.block<w0.heap.size) (r:(d:Int)<=2147483647):∀(m j:Nat) {T:Array Value} {w:World} {t:List Int},d=j+m->At X T (.code ml::inH k) w->
  T.getD 0 undef=.int .i64 key->T.getD 1 undef=.slice A n c->T.getD 2 undef=.slice v d N->T.getD 16 undef=.int .i64 d->T.getD 27 undef=.slice (some ⟨w0.heap.size,0,none⟩) d d->T.getD 28 undef=.int .i64 j->t.length=j->(∀i nm,t[i]?=some nm->ajk w0 v i nm)->pL w0 w d (t.map (G key l))->
  ∃(b:List Int) (T':Array Value) (u:World),b.length=d/\(∀i nm,b[i]?=some nm->ajk w0 v i nm)/\pL w0 u d (b.map (G key l))/\Tm cP T T'/\T'.getD 27 undef=.slice (some ⟨w0.heap.size,0,none⟩) d d/\At X T' k u
 |0,j,T,w,t,e,h,s0,s1,s2,dn,iJ,iT,hnl,hnm,hrow=>by
  rcases h.aBd C x k2 F H q D p r s0 s1 s2 dn iJ iT (by omega) hnl hrow with⟨_,T',J,g,I⟩|⟨y,_⟩
  .exact⟨t,T',w,by omega,hnm,hrow,J,g,I⟩
  .omega
 |m+1,j,T,w,t,e,h,s0,s1,s2,dn,iJ,iT,hnl,hnm,hrow=>by
  rcases h.aBd C x k2 F H q D p r s0 s1 s2 dn iJ iT (by omega) hnl hrow with⟨W,_⟩|⟨y,nm,V,U,P,f,B,g,E,o,K⟩
  .omega
  .obtain⟨b,T',u,R,S,L,O,M,Q⟩:=At.axb C x k2 F H q D p r m (j+1) (by omega) K ((f.same 0 rfl).trans s0) ((f.same 1 rfl).trans s1) ((f.same 2 rfl).trans s2) B g E (by simp[hnl]) (λi z s=>by
    rw[wj] at s;split at s
    .exact hnm i z s
    .have:i=j:=by
      have:=(li.1 s).1;simp at this;omega
     subst this;simp[hnl] at s;subst s;exact P) o
   exact⟨b,T',u,R,S,L,f.trans O,M,Q⟩
end
end
section
open Go.Conc Go.ConcN
def mxA:Option Addr->Nat
 |none=>0
 |some a=>a.block+1
def mxN:Option Nat->Nat
 |none=>0
 |some a=>a+1
def avL:Fn->Nat
 |.yield l=>l+1
 |_=>0
mutual
def mxV:Value->Nat
 |.pointer a=>mxA a
 |.slice a _ _=>mxA a
 |.map a=>mxN a
 |.chan a=>mxN a
 |.func f ⟨a⟩ ⟨c⟩=>max (avL f) (max (mxL a) (mxL c))
 |.iface _ v=>mxV v
 |.agg ⟨l⟩=>mxL l
 |.tuple ⟨l⟩=>mxL l
 |_=>0
def mxL:List Value->Nat
 |[]=>0
 |v::l=>max (mxV v) (mxL l)
end
def mxE:List MapEntry->Nat
 |[]=>0
 |e::l=>max (max (mxV e.key) (mxV e.val)) (mxE l)
def mxO:Obj->Nat
 |.cells c _ _=>mxL c.toList
 |.map e _=>mxE e.toList
 |.loop l=>mxL l.tmps.toList
 |_=>0
def mxH:List Obj->Nat
 |[]=>0
 |o::l=>max (mxO o) (mxH l)
def an9:∀{l:List Obj} {i:Nat} {o:Obj},l[i]?=some o->mxO o<=mxH l
 |[],i,o,h=>by simp at h
 |x::l,0,o,h=>by simp at h;subst h;simp only[mxH];omega
 |x::l,i+1,o,h=>by
  have:=an9 (l:=l) (i:=i) (o:=o) (by simpa using h);simp only[mxH];omega
def amB:List Frame->Nat
 |[]=>0
 |f::l=>max (mxL f.tmps.toList) (amB l)
def as6(f:Fn)(a c:Array Value):mxV (.func f a c)=max (avL f) (max (mxL a.toList) (mxL c.toList)):=by
 obtain⟨a⟩:=a;obtain⟨c⟩:=c;simp only[mxV]
def avM(a:Array Value):mxV (.agg a)=mxL a.toList:=by
 obtain⟨a⟩:=a;simp only[mxV]
def ap3(a:Array Value):mxV (.tuple a)=mxL a.toList:=by
 obtain⟨a⟩:=a;simp only[mxV]
section
variable {ρ σ:Ren} {D:Nat} (hd:σ.dim=ρ.dim/\σ.al=ρ.al) (H:∀{a b:Nat},σ.r a b->b<D->ρ.r a b)
include H
theorem OAR.down{u v:Option Addr}(k:OAR σ u v)(a:mxA v<=D):OAR ρ u v:=by
 cases k with
 |none=>exact .none
 |some k=>cases k with
  |mk h o s=>exact .some (.mk (H h (by simp only[mxA] at a;omega)) o s)
theorem NR.down{v : Option Nat}(k:NR σ u v)(a:mxN v<=D):NR ρ u v:=by
 cases k with
 |none=>exact .none
 |some h=>exact .some (H h (by simp only[mxN] at a;omega))
theorem FR.down{u v:Fn}(k:FR σ u v)(a:avL v<=D):FR ρ u v:=by
 cases k with
 |same f b=>exact .same _ b
 |yield h=>exact .yield (H h (by simp only[avL] at a;omega))
include hd
mutual
theorem VR.down:∀{u v:Value},VR σ u v->mxV v<=D->VR ρ u v
 |_,_,.fH hl k,_=>.fH (hd.1▸hl) k
 |_,_,.abk k hl,_=>.abk k (hd.2▸hl)
 |_,_,.bool b,_=>.bool b
 |_,_,.int k n,_=>.int k n
 |_,_,.string s,_=>.string s
 |_,_,.pointer k,hb=>.pointer (OAR.down H k (by simpa only[mxV] using hb))
 |_,_,.slice k l c,hb=>.slice (OAR.down H k (by simpa only[mxV] using hb)) l c
 |_,_,.map k,hb=>.map (NR.down H k (by simpa only[mxV] using hb))
 |_,_,.chan k,hb=>.chan (NR.down H k (by simpa only[mxV] using hb))
 |_,_,.func f x y,hb=>by
  rw[as6] at hb;exact .func (FR.down H f (by omega)) (bP.down x (by omega)) (bP.down y (by omega))
 |_,_,.nilFunc,_=>.nilFunc
 |_,_,.iface t k,hb=>.iface t (VR.down k (by simpa only[mxV] using hb))
 |_,_,.nilIface,_=>.nilIface
 |_,_,.agg k,hb=>.agg (bP.down k (by rwa [avM] at hb))
 |_,_,.tuple k,hb=>.tuple (bP.down k (by rwa [ap3] at hb))
theorem bP.down:∀{u v:List Value},bP σ u v->mxL v<=D->bP ρ u v
 |_,_,.nil,_=>.nil
 |_,_,.cons k kl,hb=>.cons (VR.down k (by simp only[mxL] at hb;omega)) (bP.down kl (by simp only[mxL] at hb;omega))
end
def mB.down:∀{u v:List MapEntry},mB σ u v->mxE v<=D->mB ρ u v
 |_,_,.nil,_=>.nil
 |_,_,.cons (.mk k1 k2 b) kl,hb=>.cons (.mk (VR.down hd H k1 (by simp only[mxE] at hb;omega)) (VR.down hd H k2 (by simp only[mxE] at hb;omega)) b) (mB.down kl (by simp only[mxE] at hb;omega))
variable (hx:σ.lax=ρ.lax) (hle:ρ.Le σ)
include hx hle
theorem OR.down{u v v':Obj}(h:OR ρ u v')(k:OR σ v v')(b:mxO v'<=D):OR ρ v v':=by
 cases h with
 |cells h t C=>cases k with
  |cells k _ g=>
   refine .cells (bP.down hd H k b) t ?_;unfold ZR at g ⊢;rw[<-hx];exact g
 |map h c=>cases k with
  |map k _=>exact .map (mB.down hd H k b) c
 |stringIter s p=>cases k;exact .stringIter s p
 |number h l=>cases k with
  |number k _=>
   obtain⟨d,o,s⟩:=h;cases k with
   |mk f _ _=>
    have:=σ.inj (hle.r d) f;subst this;exact .number (.mk d o s) l
 |mapIter h s a n=>cases k with
  |mapIter k _ _ _=>
   cases h with
   |none=>cases k;exact .mapIter .none s a n
   |some h=>cases k with
    |some k=>
     have:=σ.inj (hle.r h) k;subst this;exact .mapIter (.some h) s a n
 |loop d f E z B F A e=>cases k with
  |loop i x q y r w m j=>
   have:=σ.inj (hle.r e) j;rw[this] at e;exact .loop i x q (bP.down hd H y b) r w m e
 |bC=>cases k;exact .bC
 |deferred=>cases k;exact .deferred
omit hd hx in
omit H in
theorem Ren.down{a : Nat}(h:ρ.r a Z)(k:σ.r b Z):ρ.r b Z:=by
 have:=σ.inj (hle.r h) k;subst this;exact h
omit hd hx in
omit H in
theorem jy.down{P:Program}:∀{u v a:List Item},jy P ρ u a->jy P σ v a->jy P ρ v a
 |_,_,_,.nil,.nil=>.nil
 |_,_,_,.cons h hl,.cons k kl=>.cons (by
   cases h with
   |code c=>cases k;exact .code c
   |inBlock id=>cases k;exact .inBlock id
   |inLoop c=>cases k;exact .inLoop c
   |inScope c=>cases k;exact .inScope c
   |inRegion h l=>cases k with
    |inRegion k _=>exact .inRegion k l
   |inRangeFunc h=>cases k with
    |inRangeFunc k=>exact .inRangeFunc (Ren.down hle h k)
   |endRangeFunc h=>cases k with
    |endRangeFunc k=>exact .endRangeFunc (Ren.down hle h k)
   |beginRound=>cases k;exact .beginRound) (jy.down hl kl)
omit hd hx in
omit H in
theorem CDs.down:∀{u v a:List Deferred},CDs ρ u a->CDs σ v a->CDs ρ v a
 |_,_,_,.nil,.nil=>.nil
 |_,_,_,.cons h hl,.cons k kl=>.cons (Ren.down hle h k) (CDs.down hl kl)
omit hd hx in
omit H in
theorem NR.aBe{v v' : Option Nat}(h:NR ρ u v')(k:NR σ v v'):NR ρ v v':=by
 cases h with
 |none=>cases k;exact .none
 |some h=>cases k with
  |some k=>exact .some (Ren.down hle h k)
omit hx in
theorem FrR.down{u v v':Frame}(h:FrR P ρ u v')(k:FrR P σ v v')(a:mxL v'.tmps.toList<=D):FrR P ρ v v':=
 ⟨k.fn,bP.down hd H k.tmps a,jy.down hle h.todo k.todo,CDs.down hle h.defers k.defers,k.mode,k.kind,NR.aBe hle h.round k.round⟩
omit hx in
theorem iz.down{P:Program}:∀{u v a:List Frame},iz P ρ u a->iz P σ v a->amB a<=D->iz P ρ v a
 |_,_,_,.one h h0,.one k k0,hb=>.one (FrR.down hd H hle h k (by simp only[amB] at hb;omega)) k0
 |_,_,_,.cons h b,.cons k kl,hb=>.cons (FrR.down hd H hle h k (by simp only[amB] at hb;omega)) (iz.down b kl (by simp only[amB] at hb;omega))
 |_,_,_,.one h h0,.cons k kl,_=>by cases kl
 |_,_,_,.cons h b,.one k k0,_=>by cases b
end
end
section
open Go Go.Conc Go.ConcN Go.RowKit
def aBf:∀i,i<20->cP.getD i 0<45/\ac4[i]?=some (aoO (cP.getD i 0) 0)/\cP.contains (cP.getD i 0)=true:=by
 intro i a;have:i=0\/i=1\/i=2\/i=3\/i=4\/i=5\/i=6\/i=7\/i=8\/i=9\/i=10\/i=11\/i=12\/i=13\/i=14\/i=15\/i=16\/i=17\/i=18\/i=19:=by omega
 rcases this with rfl|rfl|rfl|rfl|rfl|rfl|rfl|rfl|rfl|rfl|rfl|rfl|rfl|rfl|rfl|rfl|rfl|rfl|rfl|rfl<;>exact⟨by decide,rfl,rfl⟩
def aBg{t:Nat}(h:cP.contains t=true):∃i,i<20/\cP.getD i 0=t:=by
 have b:t∈cP:=by simpa using h
 obtain⟨i,a,c⟩:=wi.1 b;exact⟨i,a,by rw[sK,iS a];exact c⟩
def ayZ:∀i,i<20->∀j,j<20->cP.getD i 0=cP.getD j 0->i=j:=by decide
section
variable {X:Cx} {T:Array Value} {k:List Item} {w:World}
def At.axc:∀(m i:Nat) {T:Array Value},i+m=20->At X T (.inRegion ac4 (List.range' i m)::k) w->(∀j,j<i->T.getD (cP.getD j 0) undef=.int .i64 0)->
  ∃T',At X T' (.inRegion ac4 []::k) w/\(∀j,j<20->T'.getD (cP.getD j 0) undef=.int .i64 0)/\Tm cP T T'
 |0,i,T,e,h,hd=>⟨T,h,λj u=>hd j (by omega),.refl _ _⟩
 |m+1,i,T,e,h,hd=>by
  have l:i<20:=by omega
  obtain⟨x,o,q⟩:=aBf i l;rw[List.range'_succ] at h;obtain⟨v,z,A,⟨t,y⟩,n,s,h⟩:=h.jb (d:=cP.getD i 0) (Φ:=λv g=>v=.int .i64 0/\g=w) o rfl rfl x λB g p=>ja p;rw[t] at s;rw[y] at h;obtain⟨T',r,f,c⟩:=At.axc m (i+1) (by omega) h λj u=>by
   by_cases a:j=i
   .subst a;exact s
   .have b:cP.getD j 0≠cP.getD i 0:=λe=>a (ayZ j (by omega) i l e);rw[n.same _ (by simpa using b)];exact hd j (by omega)
  exact⟨T',r,f,(n.sw q).trans c⟩
def At.last{C:Addr}(h:At X T (.code ajj::k) w)(r:T.getD 27 undef=.slice (some C) n n):∃T' m,AtL X T' (.code cM::k) m/\(∀b,b<w.heap.size->m.heap[b]?=w.heap[b]?)/\w.heap.size<m.heap.size/\
  m.heap[w.heap.size]?=some (.cells #[.slice (some C) n n] 149 (0,0))/\T'.getD 17 undef=.slice (some C) n n/\T'.getD 8 undef=.pointer (some ⟨w.heap.size,0,none⟩)/\(∀t,cP.contains t=true->T'.getD t undef=.int .i64 0)/\Tm (8::17::cP) T T':=by
 unfold ajj at h;have h:=h.seq;replace h:=h.region (l:=[0,1,2]) rfl;obtain⟨v,G,H,⟨B,s⟩,L,a,F⟩:=h.jb (d:=17) (Φ:=λv g=>v=.slice (some C) n n/\g=w) rfl rfl rfl (by decide) λR g z=>let⟨v,P,Q,K⟩:=ja z;⟨v,P,Q.trans r,K⟩
 rw[B] at a;rw[s] at F;obtain⟨v,G,S,⟨B,s⟩,E,o,f⟩:=F.jb (d:=8) (Φ:=λv g=>v=.pointer (some ⟨w.heap.size,0,none⟩)/\g=w.alloc (.cells #[.slice none 0 0] 149)) rfl rfl rfl (by decide) λR g z=>by
  have:=(arY (faQ true) (w:=w) (e:=(FQ cB H (.inRegion aiB (1::[2]) :: .code (.seq (.region 59 ac4 false) cM)::k)).eval) (dst:=some 8) (ty:=0) (pos:= "") (af:=#[]) (gd:=none)).symm.trans z;cases this;exact⟨_,rfl,rfl,rfl⟩
 rw[B] at o;rw[s] at f;replace a:=(E.same 17 rfl).trans a;have q:(w.alloc (.cells #[.slice none 0 0] 149)).heap[w.heap.size]?=some (.cells #[.slice none 0 0] 149 (0,0)):=by
  show(w.heap.push _)[w.heap.size]?=_;rw[qM]
 have I:=apc (faQ true) (dst:=none) (ty:=0) (pos:= "") (af:=#[]) (gd:=none) (w:=w.alloc (.cells #[.slice none 0 0] 149)) (A:=⟨w.heap.size,0,none⟩) (u:=.slice (some C) n n) (c0:=.slice none 0 0)
  (e:=(FQ cB S (.inRegion aiB (2::[]) :: .code (.seq (.region 59 ac4 false) cM)::k)).eval) (x:=.tmp 8) (y:=.tmp 17) ⟨_,_,_,rfl⟩ (by exact o) (by exact a) (eQ q) (ie q)
 replace f:=(f.opk rfl rfl rfl I).iV.seq;replace f:=f.region (l:=List.range' 0 20) rfl;obtain⟨J,M,N,p⟩:=f.axc 20 0 (by rfl) (λj U=>by omega);refine⟨J,_,M.aAh,λb D=> ?_, ?_, ?_,(p.same 17 rfl).trans a,(p.same 8 rfl).trans o,λt c=> ?_, ?_⟩
 .rw[aY _ _ _ (by show w.heap.size≠b;omega)];exact se w _ b D
 .rw[dj,mu];omega
 .exact vz q
 .obtain⟨i,O,rfl⟩:=aBg c;exact N i O
 .exact((L.mono λt c=>by simp at c;subst c;rfl).trans (E.mono λt c=>by simp at c;subst c;rfl)).trans (p.mono λt c=>by
   simp only[te,qT];exact .inr (.inr c))
end
end
section
open Go Go.Conc Go.ConcN Go.RowKit
def as7{ρ:Ren}:∀(x y:List Value),x.length=y.length->(∀(i:Nat) u v,x[i]?=some u->y[i]?=some v->VR ρ u v)->bP ρ x y
 |[],[],_,_=>.nil
 |[],_::_,h,_=>by cases h
 |_::_,[],h,_=>by cases h
 |a::x,b::y,hs,h=>.cons (h 0 a b rfl rfl) (as7 x y (by simpa using hs) λi u v c d=>h (i+1) u v (by simpa using c) (by simpa using d))
def amC{x : Array Value}(b:x.size=y.size)(h:∀(i:Nat) u v,x[i]?=some u->y[i]?=some v->VR ρ u v):cZ ρ x y:=
 as7 _ _ (by simpa using b) λi u v a c=>h i u v (by rw[<-du];exact a) (by rw[<-du];exact c)
def cZ.at{x : Array Value}(h:cZ ρ x y){u : Value}(d:x[i]?=some u)(b:y[i]?=some v):VR ρ u v:=by
 obtain⟨e,a,c⟩:=bP.get h (i:=i) (v:=u) (by rw[du];exact d);rw[du,b] at a;cases a;exact c
abbrev T0F(a:Array Value):Array Value:=a++Array.replicate (45-a.size) undef
def avN :Frame.enter (ah true) cB X .normal=FQ cB (T0F X) [.code jN]:=by
 have a:(ah true).funcs[cB]?=some (qFA true):=acz true;unfold Frame.enter;rw[a];rfl
def aoa(h:T[i]?=some v):T.getD i undef=v:=by
 rw[gc,h];rfl
def eD(w:World)(b:Nat):Prop:=∃c t z,w.heap[b]?=some (.cells c t z)
def lq{A:Addr}(a:w.cell? A=some v):eD w A.block:=by
 unfold World.cell? at a;cases b:w.heap[A.block]? with
 |none=>rw[b] at a;simp at a
 |some o=>
  rw[b] at a;cases o with
  |cells c t z=>exact⟨c,t,z,b⟩
  |_=>simp at a
def ay0:(gL.all λg=>g ==0||g ==1)=true:=by unfold gL;kernel_rfl
structure aBh (ρ:Ren) (a':Array Value) (w:World) (key:Int) (A:Option Addr) (n c:Nat) (l:List iw) (A2:Option Addr) (n2 c2:Nat) (dy:List Int):Prop where
 s0:(T0F a').getD 0 undef=.int .i64 key
 k1:1<=key
 k2:key<=99
 s1:(T0F a').getD 1 undef=.slice A n c
 nc:n<=c
 cm:(c:Int)<=9223372036854775807
 ln:l.length=n
 rd:RdP w A 0 l
 rg:∀i x,l[i]?=some x->∀a b m e,A=some a->w.cell? ((a.add (i*2)).add 1)=some (.slice (some b) m e)->∃y,ρ.r y b.block
 s2:(T0F a').getD 2 undef=.slice A2 n2 c2
 n2m:(n2:Int)<=2147483647
 n2c:n2<=c2
 c2m:(c2:Int)<=9223372036854775807
 nn:dy.length=n2
 nm:∀i nm,dy[i]?=some nm->ajk w A2 i nm
 gl:∀g∈gL,eD w g
 al:∀a,A=some a->∃b,ρ.r b a.block
 al2:∀a,A2=some a->∃b,ρ.r b a.block
def aaH(t:Nat):Bool:=t ==12||t ==14||decide (29<=t)
def amD{l:List Nat}{t:Nat}(h:(l.all λx=>decide (x<29))=true)(c:29<=t):l.contains t=false:=by
 cases b:l.contains t with
 |false=>rfl
 |true=>
  have a:t∈l:=by simpa using b
  have:=jn.1 h t a;simp only[qH] at this;omega
def as8{t:Nat}(h:aaH t=true):mH.contains t=false/\cP.contains t=false/\(8::17::cP).contains t=false/\t≠8/\t≠17:=by
 simp only[aaH,qT,mp,qH] at h;rcases h with(rfl|rfl)|h
 .exact⟨rfl,rfl,rfl,by decide,by decide⟩
 .exact⟨rfl,rfl,rfl,by decide,by decide⟩
 .exact⟨amD rfl h,amD rfl h,amD rfl h,by omega,by omega⟩
def vx(h:i<T.size):T[i]?=some (T.getD i undef):=by
 rw[gc,fm h];rfl
def aob:∀{l:List Value} {i:Nat} {v:Value},l[i]?=some v->mxV v<=mxL l
 |[],i,v,h=>by simp at h
 |x::l,0,v,h=>by simp at h;subst h;simp only[mxL];omega
 |x::l,i+1,v,h=>by
  have:=aob (l:=l) (i:=i) (v:=v) (by simpa using h);simp only[mxL];omega
def aoc(h:(T0F X)[i]?=some v):mxV v<=mxL X.toList:=by
 unfold T0F at h;rw[sI] at h;split at h
 .exact aob (i:=i) (by rw[du];exact h)
 .rw[tW] at h;split at h
  .cases h;have:mxV undef=0:=by
    show mxV (.tuple ⟨[]⟩)=0;simp only[mxV,mxL]
   omega
  .cases h
def ahN.cells{B:Option Addr}{x:Int×ByteArray}(h:ahN w B i x)(k:∀A,w.cell? A=w'.cell? A):ahN w' B i x:=by
 obtain⟨⟨a,d,b,f⟩,c,e⟩:=h;exact⟨⟨a,d,(k _).symm.trans b,(k _).symm.trans f⟩,c,e⟩
def RdP.cells{j:Nat}(h:RdP w A j l)(k:∀A,w.cell? A=w'.cell? A):RdP w' A j l:=λi x g=>by
 obtain⟨⟨a,B,c,o,d,f,n,q,m,p⟩,b⟩:=h i x g;exact⟨⟨a,B,c,o,(k _).symm.trans d,(k _).symm.trans f,n,q,m,λi y e=>(p i y e).cells k⟩,b⟩
def as9(w:World)(n:Nat):World:={w with heap:=w.heap++Array.replicate n (.deferred none)}
def aka(w:World)(n:Nat)(h:b<w.heap.size):(as9 w n).heap[b]?=w.heap[b]?:=by
 show(w.heap++_)[b]?=_;rw[rN h]
def ap4(w:World)(n:Nat)(A:Addr):(as9 w n).cell? A=w.cell? A:=by
 by_cases h:A.block<w.heap.size
 .exact fX (aka w n h)
 .unfold World.cell?;rw[qa (by omega:w.heap.size<=A.block)];have:(as9 w n).heap[A.block]?=none\/(as9 w n).heap[A.block]?=some (.deferred none):=by
   show(w.heap++_)[A.block]?=none\/(w.heap++_)[A.block]?=_;rw[sI,be (by omega),tW];split
   .exact .inr rfl
   .exact .inl rfl
  rcases this with e|e<;>rw[e]
def ap5 (hF:eF Y) {c:Cfg}  {m m':List Frame} (c7:cZ ρ a X) (a8:iz (ah true) ρ m m') (hc:c.l=Frame.enter (ah true) cB a .normal::m)
  (F:WR ρ c.w w') (hg:GlR ρ) (hW:jQ (ah true) R c) :
  ∃M A n cc l A2 E c2 dy c1,aBh ρ X w' M A n cc l A2 E c2 dy/\im (ah true) c1 c/\jQ (ah true) R c1/\(∀b K,ρ.r b K->Rw c.w b->Rw c1.w b/\∀i u,ad3 u->c1.w.cell? ⟨b,i,none⟩=some u->c.w.cell? ⟨b,i,none⟩=some u)/\
   ∀(wr:World) (Q V:Nat) (cs:Array Value),(∀b K,ρ.r b K->wr.heap[K]?=w'.heap[K]?)->wr.ou=w'.ou->w'.heap.size<=wr.heap.size->w'.heap.size<=Q->w'.heap.size<=V->Q≠V->wr.heap[Q]?=some (.cells cs 160 (0,0))->cs.size=2*E->
    (∀i nm,dy[i]?=some nm->cs[2*i]?=some (.string (Y M l nm).1)/\cs[2*i+1]?=some (.bool (Y M l nm).2))->wr.heap[V]?=some (.cells #[.slice (some ⟨Q,0,none⟩) E E] 149 (0,0))->
    ∃p T2,ρ.Le p/\iz (ah true) p c1.l (FQ cB T2 [.code cM]::m')/\WR p c1.w wr/\(∀b K,p.r b K->ρ.r b K\/K=Q\/K=V)/\T2.size=(T0F X).size/\(∀i,i<3->T2.getD i undef=(T0F X).getD i undef)/\
     T2.getD 6 undef=.slice none 0 0/\T2.getD 7 undef=.bool false/\T2.getD 8 undef=.pointer (some ⟨V,0,none⟩)/\T2.getD 17 undef=.slice (some ⟨Q,0,none⟩) E E/\(∀i,aaH i=true->T2.getD i undef=(T0F X).getD i undef):=by
 obtain⟨_,_,y,ys,e1,rfl⟩:=a8.ne';have bp:45<=(T0F X).size:=by simp only[T0F,rX,sQ];omega
 obtain⟨D,c6,b9,cm,bI⟩:∃D,w'.heap.size<=D/\mxH w'.heap.toList<=D/\mxL X.toList<=D/\amB (y::ys)<=D:=⟨w'.heap.size+(mxH w'.heap.toList+(mxL X.toList+amB (y::ys))),by omega,by omega,by omega,by omega⟩;obtain⟨w,a0⟩:∃w,w=as9 w' (D-w'.heap.size):=⟨_,rfl⟩;have b8:w.heap.size=D:=by
  rw[a0];show(w'.heap++_).size=D;rw[rX,sQ];omega
 have b6:∀{b},b<w'.heap.size->w.heap[b]?=w'.heap[b]?:=λ{b} h=>by rw[a0];exact aka _ _ h
 have T:∀A,w.cell? A=w'.cell? A:=λA=>by rw[a0];exact ap4 _ _ _
 have bi:w.ou=w'.ou:=by rw[a0];rfl
 have cd:WR ρ c.w w:=⟨λ{b K} f=>by
  obtain⟨o,o',S,O,Z⟩:=F.obj f;exact⟨o,o',S,(b6 (F.lt f).2).trans O,Z⟩,F.os.trans bi.symm,F.kE.1,by rw[b8];exact bd F.kE.2 c6⟩
 have c4:FrR (ah true) ρ (Frame.enter (ah true) cB a .normal) (FQ cB (T0F X) [.code jN]):=by rw[<-avN];exact aeS true c7
 have h0:At ⟨R,c,ρ,w,y,ys⟩ (T0F X) [.code jN] w:=⟨bp,c,ρ,.inl rfl,.refl _,by rw[hc];exact .cons c4 a8,cd,hg,hW,Kept.refl _ _ _⟩;obtain⟨M,A,n,cc,l,T1,s0,k1,k2,⟨cC,bw⟩,⟨cy,ci⟩,s1,b3,aX,hl,hp,hR,bR,m1,s6,s7,S⟩:=h0.head;obtain⟨A2,E,c2,ax,T2,s2,ba,bS,b5,bo,bt,bl,m2,dn,br,c5,O⟩:=S.names;replace s2:=(m1.same 2 rfl).symm.trans s2;have bL:pL w (w.alloc (.cells ax 160)) E (([]:List Int).map (Y M l)):=by
  refine⟨λb f=>se w _ b f,by rw[mu];omega,ax, ?_,bl,λi x I=>by simp at I⟩;show(w.heap.push _)[w.heap.size]?=_;rw[qM]
 have g0:=λt (h:mH.contains t=false) (h':cP.contains t=false)=>(m2.same t h').trans (m1.same t h);obtain⟨dy,T3,w3,cn,bk,J,m3,bb,Z⟩:=At.axb hF k1 k2 hl b3 aX hp ba b5 E 0 (by omega) O.block.loop ((g0 0 rfl rfl).trans s0) ((g0 1 rfl rfl).trans s1) ((g0 2 rfl rfl).trans s2) dn br c5 rfl (λi nm I=>by simp at I) bL;obtain⟨T4,w4,h4,aJ,cv,ce,bC,s8,c9,m4⟩:=Z.last bb;obtain⟨b7,bf,cp,bO⟩:=J.row;have a6:w4.heap[w.heap.size]?=some (.cells b7 160 (0,0)):=(aJ _ J.lt).trans bf;have ca:∀b,b<w'.heap.size->w4.heap[b]?=w'.heap[b]?:=λb f=>((aJ b (Nat.lt_trans (by omega) J.lt)).trans (J.low b (by omega))).trans (b6 f);have g1:=λt (h:mH.contains t=false) (h':cP.contains t=false) (bu:(8::17::cP).contains t=false)=>(m4.same t bu).trans ((m3.same t h').trans (g0 t h h'));have t6:T4.getD 6 undef=.slice none 0 0:=(m4.same 6 rfl).trans ((m3.same 6 rfl).trans ((m2.same 6 rfl).trans s6));have t7:T4.getD 7 undef=.bool false:=(m4.same 7 rfl).trans ((m3.same 7 rfl).trans ((m2.same 7 rfl).trans s7));have ao:T4.size=(T0F X).size:=m4.size.trans (m3.size.trans (m2.size.trans m1.size));obtain⟨cz,c1,C,q,co⟩:=h4;obtain⟨x,xs,_,_,ay,e2⟩:=q.st.ne';cases e2;have hq:=q.st;rw[ay] at hq;have U:=hq.head;have cg:iz (ah true) C xs (y::ys):=by cases hq with|cons _ h=>exact h
 have H:∀{a b:Nat},C.r a b->b<D->ρ.r a b:=λ{a b} h f=>(q.kept.new h).elim id λh=>by
  have:w.heap.size<=b:=h.2;omega
 have hd:C.dim=ρ.dim/\C.al=ρ.al:=⟨q.le.dim.symm,q.le.al.symm⟩;have aK:C.lax=ρ.lax:=q.le.lax.symm;have aP:∀{i:Nat} {P:Addr} {n m:Nat},i<(T0F X).size->(T0F X).getD i undef=.slice (some P) n m->Rgd ⟨R,c,ρ,w,y,ys⟩ P.block->∃b,ρ.r b P.block:=λ{i P n m} I e h=>h.elim id λh=>by
  have f:=aoc (vx I);rw[e] at f;simp only[mxV,mxA] at f;have h':w.heap.size<=P.block:=h;omega
 refine⟨M,A,n,cc,l,A2,E,c2,dy,c1,⟨s0,k1,k2,s1,b3,aX,hl,hp.cells T,λi x hx P b0 m0 e0 hA jm=> ?_,s2,b5,bo,bt,cn,λi nm I=> ?_,λg c0=> ?_,λP ad=> ?_,λP ad=> ?_⟩,co,q.will,λb K f b4=>⟨(q.kept.poi f b4).1,λi u hu cb=>((q.kept.poi f b4).2 i u hu cb).1⟩,λwr Q V cs bV bT bn cu cw af lF ct aT bx=> ?_⟩
 .-- an item's row
  subst hA;obtain⟨⟨a1,B,c3,f1,f2,f3,f4,f5,f6,f7⟩, -⟩:=hp i x hx;cases f1;rw[jt] at f3;rw[<-T,f3] at jm;cases jm;obtain⟨z,hz⟩:∃z,x.2[0]?=some z:=⟨_,iS (by omega)⟩;obtain⟨⟨a2,ch,bz, -⟩, -⟩:=f7 0 z hz;cases ch;have a5:=fZ bz;rw[rq] at a5;have I:i<n:=by rw[<-hl];exact(li.1 hx).1
  rcases hR i I P b0 _ _ rfl f3 with h|h
  .exact h
  .have h':w.heap.size<=b0.block:=h;omega
 .obtain⟨P,f1,f2,f3⟩:=bk i nm I;exact⟨P,f1,(T _).symm.trans f2,f3⟩
 .have:=jn.1 ay0 g c0;simp only[qT,mp] at this;rcases this with rfl|rfl
  .exact lq ((T _).symm.trans bw)
  .exact lq ((T _).symm.trans ci)
 .subst ad;exact aP (by omega) s1 (bR P rfl)
 .subst ad;exact aP (by omega) s2 (bS P rfl)
 have cq:w'.heap.size<=w.heap.size:=by omega
 have cr:w.heap.size<w3.heap.size:=J.lt
 let p:Ren:={
  r:=λa b=>ρ.r a b\/(b=Q/\C.r a w.heap.size)\/(b=V/\C.r a w3.heap.size)
  lax:=ρ.lax
  dim:=ρ.dim
  al:=ρ.al
  fn:=λ{a b d} h k=>by
   rcases h with h|⟨rfl,h⟩|⟨rfl,h⟩<;>rcases k with k|⟨rfl,k⟩|⟨rfl,k⟩
   .exact ρ.fn h k
   .have:=C.fn (q.le.r h) k;have:=(F.lt h).2;omega
   .have:=C.fn (q.le.r h) k;have:=(F.lt h).2;omega
   .have:=C.fn (q.le.r k) h;have:=(F.lt k).2;omega
   .rfl
   .have:=C.fn h k;omega
   .have:=C.fn (q.le.r k) h;have:=(F.lt k).2;omega
   .have:=C.fn h k;omega
   .rfl
  inj:=λ{a b d} h k=>by
   rcases h with h|⟨rfl,h⟩|⟨rfl,h⟩<;>rcases k with k|⟨e,k⟩|⟨e,k⟩
   .exact ρ.inj h k
   .have:=(F.lt h).2;omega
   .have:=(F.lt h).2;omega
   .have:=(F.lt k).2;omega
   .exact C.inj h k
   .exact absurd e af
   .have:=(F.lt k).2;omega
   .exact absurd e.symm af
   .exact C.inj h k
  kE:=λ{a b} h=>by
   have:=F.kE.2;rcases h with h|⟨rfl,h⟩|⟨rfl,h⟩
   .exact ρ.kE h
   .have:=C.kE h;omega
   .have:=C.kE h;omega}
 have a4:ρ.Le p:=⟨.inl,rfl,rfl,rfl⟩;have down:∀{u v:Value},VR C u v->mxV v<=D->VR p u v:=λh f=>(VR.down hd H h f).mono a4;have aL:∀{u:Value},VR C u (.slice (some ⟨w.heap.size,0,none⟩) E E)->VR p u (.slice (some ⟨Q,0,none⟩) E E):=λ{u} h=>by
  cases h with
  |slice hA=>cases hA with
   |some hA=>cases hA with
    |mk h o s=>exact .slice (.some (.mk (Or.inr (Or.inl ⟨rfl,h⟩)) 0 none)) _ _
  |fH hl _=>exact .fH (hd.1▸hl) rfl
 have c8:∀{u:Value},VR C u (.pointer (some ⟨w3.heap.size,0,none⟩))->VR p u (.pointer (some ⟨V,0,none⟩)):=λ{u} h=>by
  cases h with
  |pointer hA=>cases hA with
   |some hA=>cases hA with
    |mk h o s=>exact .pointer (.some (.mk (Or.inr (Or.inr ⟨rfl,h⟩)) 0 none))
  |fH hl _=>exact .fH (hd.1▸hl) rfl
 have zr:∀{n:Nat} {z z':Nat×Nat},ZR C n z z'->ZR p n z z':=λh=>by
  unfold ZR at h ⊢;rw[aK] at h;exact h
 have bm:b7=cs:=by
  apply sx;intro i;rcases pa i (2*E) with I|I
  .obtain⟨j,hj⟩:∃j,i=2*j\/i=2*j+1:=⟨i / 2,by omega⟩;obtain⟨nm,a3⟩:∃nm,dy[j]?=some nm:=⟨_,iS (by omega)⟩;have b1:=bO j (Y M l nm) (by rw[qE,a3];rfl);have b2:=aT j nm a3;rcases hj with rfl|rfl
   .rw[b1.1,b2.1]
   .rw[b1.2,b2.2]
  .rw[qa (by omega),qa (by omega)]
 refine⟨p,(T4.setIfInBounds 17 (.slice (some ⟨Q,0,none⟩) E E)).setIfInBounds 8 (.pointer (some ⟨V,0,none⟩)),a4, ?_,⟨λ{b K} f=> ?_, ?_, ?_, ?_⟩, ?_,by simpa using ao,λi I=> ?_, ?_, ?_, ?_, ?_,λi I=> ?_⟩
 .-- frames
  rw[ay];refine .cons ⟨U.fn, ?_, ?_, ?_,U.mode,U.kind, ?_⟩ ((iz.down hd H q.le (e1▸a8) cg bI).mono a4)
  .refine amC (by simp only[Array.size_setIfInBounds];exact bP.size U.tmps) λi u v hu G=> ?_;by_cases i8:i=8
   .subst i8;rw[pY (by simp;omega)] at G;cases G;exact c8 (cZ.at U.tmps hu (by rw[<-s8];exact vx (by show 8<T4.size;omega)))
   rw[io (λe=>i8 e.symm)] at G;by_cases a7:i=17
   .subst a7;rw[pY (by omega)] at G;cases G;exact aL (cZ.at U.tmps hu (by rw[<-bC];exact vx (by show 17<T4.size;omega)))
   rw[io (λe=>a7 e.symm)] at G;have N:VR C u v:=cZ.at U.tmps hu G;have L:=aoa G;cases W:cP.contains i with
   |true=>
    rw[c9 i W] at L;subst L;exact down N (by simp only[mxV];omega)
   |false=>
    by_cases i6:i=6
    .subst i6;rw[t6] at L;subst L;exact down N (by simp only[mxV,mxA];omega)
    by_cases i7:i=7
    .subst i7;rw[t7] at L;subst L;exact down N (by simp only[mxV];omega)
    have ck:(T0F X).getD i undef=v:=by
     rw[<-L];exact(g1 i (by simp only[mH,te,W];simp[i6,i7]) W (by simp only[te,W];simp[i8,a7])).symm
    have aa:(T0F X)[i]?=some v:=by
     have a5:i<(T0F X).size:=by rw[<-ao];exact(dk.1 G).1
     rw[<-ck];exact vx a5
    exact down N (bd (aoc aa) cm)
  .have ht:=U.todo;generalize x.todo=td at ht ⊢;cases ht with
   |cons S O=>cases S;cases O;exact .cons (.code _) .nil
  .have ht:=U.defers;generalize x.defers=td at ht ⊢;cases ht;exact .nil
  .have ht:=U.round;generalize x.roundOf=td at ht ⊢;cases ht;exact .none
 .-- objects
  rcases f with f|⟨rfl,f⟩|⟨rfl,f⟩
  .obtain⟨o,o',S,O,Z⟩:=q.wr.obj (q.le.r f);obtain⟨u,u',k1,k2,k3⟩:=F.obj f;have e:=ca K (F.lt f).2;rw[O,k2] at e;cases e;exact⟨o,o',S,(bV _ _ f).trans k2,(OR.down hd H aK q.le k3 Z (bd (an9 (i:=K) (by rw[du];exact k2)) b9)).mono a4⟩
  .obtain⟨o,o',S,O,Z⟩:=q.wr.obj f;rw[a6] at O;cases O;cases Z with
   |@cells cl _ jm _ z _ a9=>
    refine⟨_,_,S,lF, ?_⟩;subst bm;refine .cells (amC (by simpa using jm.length) λi u v hu G=> ?_) _ (zr a9);have N:=cZ.at jm hu G;obtain⟨j,hj⟩:∃j,i=2*j\/i=2*j+1:=⟨i / 2,by omega⟩;have I:=(dk.1 G).1;obtain⟨nm,a3⟩:∃nm,dy[j]?=some nm:=⟨_,iS (by omega)⟩;have b2:=aT j nm a3;rcases hj with rfl|rfl
    .rw[b2.1] at G;cases G;exact down N (by simp only[mxV];omega)
    .rw[b2.2] at G;cases G;exact down N (by simp only[mxV];omega)
  .obtain⟨o,o',S,O,Z⟩:=q.wr.obj f;rw[ce] at O;cases O;cases Z with
   |@cells cl _ jm _ z _ a9=>
    refine⟨_,_,S,bx,.cells (amC (by simpa using jm.length) λi u v hu G=> ?_) _ (zr a9)⟩;have I:=(dk.1 G).1;have aa:i=0:=by simpa using I
    subst aa;cases G;exact aL (cZ.at jm hu rfl)
 .exact q.kept.os.1.trans (F.os.trans bT.symm)
 .exact bd F.kE.1 q.kept.size
 .exact bd F.kE.2 bn
 .rintro b K (h|⟨rfl,_⟩|⟨rfl,_⟩)
  .exact .inl h
  .exact .inr (.inl rfl)
  .exact .inr (.inr rfl)
 .rw[aF (by simp;omega),be (by omega),aF (by omega),be (by omega)];have:i=0\/i=1\/i=2:=by omega
  rcases this with rfl|rfl|rfl
  .exact g1 0 rfl rfl rfl
  .exact g1 1 rfl rfl rfl
  .exact g1 2 rfl rfl rfl
 .rw[aF (by simp;omega),be (by decide),aF (by omega),be (by decide)];exact t6
 .rw[aF (by simp;omega),be (by decide),aF (by omega),be (by decide)];exact t7
 .rw[aF (by simp;omega),dl rfl]
 .rw[aF (by simp;omega),be (by decide),aF (by omega),dl rfl]
 .obtain⟨i1,i2,i3,i4,i5⟩:=as8 I;have e:((T4.setIfInBounds 17 (.slice (some ⟨Q,0,none⟩) E E)).setIfInBounds 8 (.pointer (some ⟨V,0,none⟩))).getD i undef=T4.getD i undef:=by
   rw[aF (by simp;omega),be i4,aF (by omega),be i5]
  exact e.trans (g1 i i1 i2 i3)
end
section
open Go Go.Conc Go.ConcN Go.RowKit
def plV(V:Nat->Prop):Value->Prop
 |.int k _=>k ≠ .u8
 |.string _=>True
 |.slice (some a) _ _=>V a.block
 |_=>False
def atd:Value->Bool
 |.func (.method _) _ _=>true
 |_=>false
mutual
def afB:Value->List Value
 |.agg ⟨l⟩=>pM l
 |.tuple ⟨l⟩=>pM l
 |v=>if atd v then[v] else[]
def pM:List Value->List Value
 |[]=>[]
 |v::l=>afB v++pM l
end
def agV:∀{l:List Value} {i:Nat} {v x:Value},l[i]?=some v->x∈afB v->x∈pM l
 |[],i,v,x,h,_=>by simp at h
 |y::l,0,v,x,h,hx=>by simp at h;subst h;simp only[pM];exact rS _ hx
 |y::l,i+1,v,x,h,hx=>by simp only[pM];exact rP _ (agV (i:=i) (by simpa using h) hx)
def aBj:Obj->List Value
 |.cells c _ _=>pM c.toList
 |_=>[]
def eU(w:World):List Value:=w.heap.toList.flatMap aBj
def agW{c:Array Value}{x : Value}(a:w.heap[b]?=some (.cells c t z))(hi:c[i]?=some v)(d:x∈afB v):x∈eU w:=
 qg.2 ⟨.cells c t z,da (i:=b) (by rw[du];exact a),by
  show x∈pM c.toList;exact agV (i:=i) (by rw[du];exact hi) d⟩
section
variable {ρ:Ren} (hl:ρ.dim=true)
include hl
mutual
theorem ay3:∀(v:Value),(∀x∈afB v,∃k,ρ.al k=some x)->∃u,VR ρ u v/\(∀k,u ≠ .int .u8 k)/\(ad3 u\/∀(g:Ren) d,g.al=ρ.al->VR g u d->d=v)
 |.bool b,_=>⟨_,.bool b,(λk e=>by cases e),.inr λg d _ h=>by cases h;rfl⟩
 |.int k n,_=>⟨_,.fH hl rfl,(λk e=>by cases e),.inl (.inl ⟨_,rfl⟩)⟩
 |.float k n,_=>⟨_,.fH hl rfl,(λk e=>by cases e),.inl (.inl ⟨_,rfl⟩)⟩
 |.complex k n m,_=>⟨_,.fH hl rfl,(λk e=>by cases e),.inl (.inl ⟨_,rfl⟩)⟩
 |.string s,_=>⟨_,.string s,(λk e=>by cases e),.inr λg d _ h=>by cases h;rfl⟩
 |.pointer none,_=>⟨_,.pointer .none,(λk e=>by cases e),.inr λg d _ h=>by cases h with|pointer h=>cases h;rfl⟩
 |.pointer (some a),_=>⟨_,.fH hl rfl,(λk e=>by cases e),.inl (.inl ⟨_,rfl⟩)⟩
 |.slice a l c,_=>⟨_,.fH hl rfl,(λk e=>by cases e),.inl (.inl ⟨_,rfl⟩)⟩
 |.map a,_=>⟨_,.fH hl rfl,(λk e=>by cases e),.inl (.inl ⟨_,rfl⟩)⟩
 |.chan a,_=>⟨_,.fH hl rfl,(λk e=>by cases e),.inl (.inl ⟨_,rfl⟩)⟩
 |.func (.func f) a c,_=>⟨_,.fH hl rfl,(λk e=>by cases e),.inl (.inl ⟨_,rfl⟩)⟩
 |.func (.methodOf t f) a c,_=>⟨_,.fH hl rfl,(λk e=>by cases e),.inl (.inl ⟨_,rfl⟩)⟩
 |.func (.via t p f q) a c,_=>⟨_,.fH hl rfl,(λk e=>by cases e),.inl (.inl ⟨_,rfl⟩)⟩
 |.func (.yield f) a c,_=>⟨_,.fH hl rfl,(λk e=>by cases e),.inl (.inl ⟨_,rfl⟩)⟩
 |.func (.method n) a c,hm=>by
  obtain⟨k,z⟩:=hm (.func (.method n) a c) (by simp[afB,atd]);refine⟨_,.abk k z,(λk e=>by cases e),.inr λg d B h=> ?_⟩;generalize i:aok k=u at h;cases h with
  |abk D j=>
   have e:k=D:=by
    unfold aok at i;injection i with _ _ A
    have:=fk Array.size A;simpa using this
   subst e;rw[B,z] at j;exact(ef j).symm
  |func r _ _=>
   unfold aok at i;injection i with C _ _
   subst C;cases r with
   |same f r=>cases r
  |_=>unfold aok at i;cases i
 |.nilFunc,_=>⟨_,.nilFunc,(λk e=>by cases e),.inr λg d _ h=>by cases h;rfl⟩
 |.iface t v,_=>⟨_,.fH hl rfl,(λk e=>by cases e),.inl (.inl ⟨_,rfl⟩)⟩
 |.nilIface,_=>⟨_,.nilIface,(λk e=>by cases e),.inr λg d _ h=>by cases h;rfl⟩
 |.agg ⟨l⟩,hm=>by
  obtain⟨w,o⟩:=ay4 l λx y=>hm x (by simpa only[afB] using y);exact⟨.agg ⟨w⟩,.agg o,(λk e=>by cases e),.inl (.inr ⟨_,rfl⟩)⟩
 |.tuple ⟨l⟩,hm=>by
  obtain⟨w,o⟩:=ay4 l λx y=>hm x (by simpa only[afB] using y);exact⟨.tuple ⟨w⟩,.tuple o,(λk e=>by cases e),.inl (.inl ⟨_,rfl⟩)⟩
theorem ay4:∀(l:List Value),(∀x∈pM l,∃k,ρ.al k=some x)->∃a,bP ρ a l
 |[],_=>⟨[],.nil⟩
 |v::l,hm=>by
  obtain⟨x,c,_⟩:=ay3 v λx b=>hm x (by simp only[pM];exact rS _ b);obtain⟨a,d⟩:=ay4 l λx b=>hm x (by simp only[pM];exact rP _ b);exact⟨x::a,.cons c d⟩
end
end
def akb(L:List Value)(k:Nat):Option Value:=L[k]?
def akc{x:Value}(h:x∈Q):∃k,akb Q k=some x:=by
 obtain⟨k,a,e⟩:=wi.1 h;exact⟨k,by unfold akb;rw[iS a,e]⟩
def amE{ρ:Ren}{Q:Nat->Value->Value->Prop}:∀(l:List Value) (j:Nat),(∀i v,l[i]?=some v->∃u,VR ρ u v/\Q (j+i) u v)->∃d,bP ρ d l/\∀i v,l[i]?=some v->∃u,d[i]?=some u/\Q (j+i) u v
 |[],_,_=>⟨[],.nil,λi v h=>by simp at h⟩
 |v::l,j,h=>by
  obtain⟨u,m,e⟩:=h 0 v rfl;obtain⟨d,f,k⟩:=amE l (j+1) λi x c=>by
   obtain⟨u,a,b⟩:=h (i+1) x (by simpa using c);exact⟨u,a,by rwa [show j+1+i=j+(i+1) by omega]⟩
  refine⟨u::d,.cons m f,λi x c=> ?_⟩;cases i with
  |zero=>simp at c;subst c;exact⟨u,rfl,e⟩
  |succ i=>
   obtain⟨g,a,b⟩:=k i x (by simpa using c);exact⟨g,by simpa using a,by rwa [show j+1+i=j+(i+1) by omega] at b⟩
def Ren.rows(V:Nat->Prop)(lax:Bool)(L:List Value):Ren where
 r a b:=a=b/\V a
 lax:=lax
 dim:=true
 al:=akb L
 fn:=λh k=>h.1.symm.trans k.1
 inj:=λh k=>h.1.trans k.1.symm
 kE:=λh=>by rw[h.1]
def axe{V:Nat->Prop}(w:World)(F:∀b,V b->Obj):∃a:Array Obj,a.size=w.heap.size/\(∀b (h:V b),b<w.heap.size->a[b]?=some (F b h))/\∀b,¬V b->a[b]?=w.heap[b]?:=by
 classical
 refine⟨Array.ofFn λi:Fin w.heap.size=>if h:V i.1 then F i.1 h else w.heap[i],by simp,λb h c=> ?_,λb h=> ?_⟩
 .rw[wu,tq c];simp only[tq h]
 .rw[wu];by_cases c:b<w.heap.size
  .rw[tq c,fm c];simp only[dif_neg h];rfl
  .rw[dif_neg c,qa (by omega)]
theorem mask{w:World}{V:Nat->Prop}(hV:∀b,V b->eD w b)(hg:∀g∈gL,V g)(hN:gN<=w.heap.size) :
  ∃wL:World,WR (Ren.rows V true (eU w)) wL w/\GlR (Ren.rows V true (eU w))/\wL.heap.size=w.heap.size/\(∀b,V b->bD wL b/\NoB wL b)/\∀A v,w.cell? A=some v->V A.block->plV V v->wL.cell? A=some v:=by
 classical
 have row:∀b,V b->∃(c:Array Value) (t:TypeId) (z:Nat×Nat) (xs:List Value),w.heap[b]?=some (.cells c t z)/\bP (Ren.rows V true (eU w)) xs c.toList/\∀(i:Nat) v,c.toList[i]?=some v->∃u,xs[i]?=some u/\((∀k,u ≠ .int .u8 k)/\(plV V v->u=v)):=λb hb=>by
  obtain⟨c,t,z,hc⟩:=hV b hb;obtain⟨xs,h1,h2⟩:=amE (ρ:=Ren.rows V true (eU w)) (Q:=λ_ u v=>(∀k,u ≠ .int .u8 k)/\(plV V v->u=v)) c.toList 0 λi v hi=>by
   by_cases hp:plV V v
   .cases v with
    |int k n=>exact⟨_,.int k n,(λk' e=>by cases e;exact hp rfl),λ_=>rfl⟩
    |string s=>exact⟨_,.string s,(λk e=>by cases e),λ_=>rfl⟩
    |slice a l c=>cases a with
     |none=>exact hp.elim
     |some a=>
      obtain⟨b,o,s⟩:=a;have hr:(Ren.rows V true (eU w)).r b b:=⟨rfl,hp⟩;exact⟨_,.slice (.some (.mk hr o s)) l c,(λk e=>by cases e),λ_=>rfl⟩
    |_=>exact hp.elim
   .obtain⟨u,h1,h2, -⟩:=ay3 (ρ:=Ren.rows V true (eU w)) rfl v λx hx=>akc (agW hc (i:=i) (by rw[<-du];exact hi) hx);exact⟨u,h1,h2,λh=>absurd h hp⟩
  exact⟨c,t,z,xs,hc,h1,h2⟩
 let F:∀b,V b->Obj:=λb hb=>.cells ⟨(row b hb).choose_spec.choose_spec.choose_spec.choose⟩ (row b hb).choose_spec.choose (0,max ((row b hb).choose.size+1) (row b hb).choose_spec.choose_spec.choose.2)
 have hF:∀b (hb:V b),∃(c:Array Value) (t:TypeId) (z:Nat×Nat) (xs:List Value),w.heap[b]?=some (.cells c t z)/\bP (Ren.rows V true (eU w)) xs c.toList/\(∀(i:Nat) v,c.toList[i]?=some v->∃u,xs[i]?=some u/\((∀k,u ≠ .int .u8 k)/\(plV V v->u=v)))/\F b hb=.cells ⟨xs⟩ t (0,max (c.size+1) z.2):=λb hb=>
  let h:=(row b hb).choose_spec.choose_spec.choose_spec.choose_spec
  ⟨_,_,_,_,h.1,h.2.1,h.2.2,rfl⟩
 obtain⟨heap,hs,h1,h2⟩:=axe w F;have aaZ:∀b,V b->∃(c:Array Value) (t:TypeId) (z:Nat×Nat) (xs:List Value),w.heap[b]?=some (.cells c t z)/\heap[b]?=some (.cells ⟨xs⟩ t (0,max (c.size+1) z.2))/\bP (Ren.rows V true (eU w)) xs c.toList/\∀(i:Nat) v,c.toList[i]?=some v->∃u,xs[i]?=some u/\((∀k,u ≠ .int .u8 k)/\(plV V v->u=v)):=λb hb=>by
  obtain⟨c,t,z,xs,k1,k2,k3,k4⟩:=hF b hb;exact⟨c,t,z,xs,k1,(h1 b hb (dk.1 k1).1).trans (fk some k4),k2,k3⟩
 refine⟨{w with heap},⟨λ{b b'} hb=> ?_,rfl,by show gN<=heap.size;omega,hN⟩,λg lU=>⟨rfl,hg g lU⟩,hs,λb hb=> ?_,λA v hc hA hp=> ?_⟩
 .obtain⟨rfl,hb⟩:=hb;obtain⟨c,t,z,xs,k1,k2,k3, -⟩:=aaZ b hb;have hlen:=k3.length;refine⟨_,_,k2,k1,.cells k3 t (.inr ⟨rfl,rfl, ?_,.inr ?_⟩)⟩
  .show xs.length<max _ _;simp at hlen;omega
  .show z.2<=max _ _;omega
 .obtain⟨c,t,z,xs,k1,k2,k3,k4⟩:=aaZ b hb;have hlen:=k3.length;simp at hlen;refine⟨⟨_,_,_,k2,rfl, ?_, ?_⟩,λc' t' z' hc' i k e=> ?_⟩
  .show xs.length<=max _ _;omega
  .show 0<max _ _;omega
  .have:heap[b]?=some (.cells c' t' z'):=hc';rw[k2] at this;cases this;have hi:i<c.toList.length:=by
    have:=(dk.1 e).1;simp at this ⊢;omega
   obtain⟨u,q1,q2, -⟩:=k4 i _ (iS hi);have e':xs[i]?=some (.int .u8 k):=by simpa using e
   rw[q1] at e';exact q2 k (ef e')
 .obtain⟨c,t,z,xs,k1,k2,k3,k4⟩:=aaZ A.block hA;have k2':({w with heap}:World).heap[A.block]?=some (.cells ⟨xs⟩ t (0,max (c.size+1) z.2)):=k2;unfold World.cell? at hc ⊢;rw[k2'];rw[k1] at hc;cases hsp:A.spot with
  |some s=>simp[hsp] at hc
  |none=>
   simp[hsp] at hc ⊢;obtain⟨u,q1, -,q2⟩:=k4 A.off v (by rw[du];exact hc);rw[q1,q2 hp]
end
section
open Go Go.Conc Go.ConcN Go.RowKit
def pN(Rr:aq)(S S':aq)(w w':World)(es:Array Event):Prop:=
 (∀b,b<w.heap.size->¬S b->w'.heap[b]?=w.heap[b]?)/\w.heap.size<=w'.heap.size/\w'.ou=w.ou/\S'=(λb=>S b\/(w.heap.size<=b/\b<w'.heap.size))/\∀e∈es,mK S' Rr w'.heap.size e
structure pO (Rl:aq->World->World->Prop) (Rr:aq):Prop where
 fN:∀S w,Rl S w w
 tr:∀S a b c,Rl S a b->Rl S b c->Rl S a c
 rl:∀S w w1,Rl S w w1->(∀b,S b\/Rr b->w1.heap[b]?=w.heap[b]?)/\w.heap.size<=w1.heap.size/\w1.ou=w.ou
def pO.cmp{Rl:aq->World->World->Prop}(h:pO Rl Rr):Cmp Rl (pN Rr) Rr:=⟨h.fN,h.tr,h.rl,λ_ _ _ _ a b c d=>⟨a,b,c,rfl,d⟩⟩
section
variable {P:Program} {main:Bool} {Rl:aq->World->World->Prop} {Gr Gr2:aq->aq->World->World->Array Event->Prop} {Stop agX:aq->Goroutine->World->Prop} {Inv:aq->World->Prop}
def GoT.inv(i:∀S w a,Inv S w->Rl S w a->Inv S a)(k:∀S d w c e,Inv S w->Gr S d w c e->Gr2 S d w c e/\Inv d c)(j:∀S g w,Stop S g w->Inv S w->agX S g w):∀{T:jo} {S:aq} {g:Goroutine} {w:World},GoT P main Rl Gr Stop T S g w->Inv S w->GoT P main Rl Gr2 agX T S g w
 |.leaf,_,_,_,h,hi=>λa b=>j _ _ _ (h a b) (i _ _ _ hi b)
 |.node f,_,_,_,h,hi=>Or.imp (λh a b=>j _ _ _ (h a b) (i _ _ _ hi b)) (λx=>⟨x.1,λa b=>
   let⟨q,c,e,d,o,l,m⟩:=x.2 a b
   let⟨n,p⟩:=k _ _ _ _ _ (i _ _ _ hi b) l
   ⟨q,c,e,d,o,n,GoT.inv i k j m p⟩⟩) h
def bE.inv(f:∀S w c,Inv S w->Rl S w c->Inv S c)(i:∀S a w b d,Inv S w->Gr S a w b d->Gr2 S a w b d/\Inv a b)(e:∀S g w,Stop S g w->Inv S w->agX S g w)(h:bE P main Rl Gr Stop S g w)(hi:Inv S w):bE P main Rl Gr2 agX S g w:=
 let⟨T,h⟩:=h;⟨T,GoT.inv f i e h hi⟩
end
def amF   :(Frame.enter P f a .normal).mode=.run:=by
 unfold Frame.enter;cases P.funcs[f]?<;>rfl
def ap6{c:Cfg}{m:List Frame}(q:jQ (ah false) R c)(i:c.l=Frame.enter (ah false) cB a .normal::m):False:=by
 obtain⟨n,t,s,d,f, -⟩:=q c.t λ_ _ _=>rfl;have b:c.l≠[]:=by rw[i];simp
 cases n with
 |zero=>
  simp only[runN,qG] at d;obtain⟨e, -⟩:=gM d;obtain rfl:=np b f.ne e;obtain⟨u,l,p, -⟩:=f;rw[i] at l;cases l;rw[amF] at p;cases p
 |succ n=>
  unfold runN at d;have r:Frame.enter (ah false) cB a .normal=⟨cB,T0F a,[.code (.refuse "")],[],.run,.normal,none⟩:=by
   have f:(ah false).funcs[cB]?=some (qFA false):=acz false;unfold Frame.enter;rw[f];rfl
  have g:∃o j k,stepG (ah false) true (Gl c.l [jP (ah false)]) (c.w.dK c.t)=.ended o j k:=by
   rw[i,r];simp only[Gl,stepG,stepG.exec];exact⟨_,_,_,rfl⟩
  obtain⟨o,j,k,g⟩:=g;rw[cD (iY b _) g] at d;cases d
def aBk:jY (λ_=>false) (f158.body.getD .skip)=false:=by kernel_rfl
def aBl:jY (λ_=>false) (f64.body.getD .skip)=false:=by kernel_rfl
def adq{fn:Func}(h:prog.funcs[f]?=some fn)(b:fn.body.isSome=true)(a:Array Value):(Frame.enter prog f a .normal).todo=[.code (fn.body.getD .skip)]:=by
 unfold Frame.enter;rw[h];obtain⟨c,d⟩:=ry.1 b;simp[d]
def axf(d:jY U (f158.body.getD .skip)=false)(c:jY U (f64.body.getD .skip)=false):∀f,gH f=true->∀a,(Frame.enter prog f a .normal).todo.all (lV U)=false:=λf b a=>by
 rcases xo b with rfl|rfl
 .rw[adq func64 anf];simp only[qu,vF,uA,lV];exact c
 .rw[adq func158 ane];simp only[qu,vF,uA,lV];exact d
def aie:gH 101=false:=by unfold gH;kernel_rfl
def akd{A:Addr}{c:Array Value}(h:w.heap[A.block]?=some (.cells c t z))(a:w.cell? A=some v):c[A.off]?=some v:=by
 unfold World.cell? at a;rw[h] at a;cases b:A.spot with
 |some s=>simp[b] at a
 |none=>simpa[b] using a
def RgP(Rg:Nat->Prop)(w:World)(A:Option Addr)(l:List iw):Prop:=∀i x,l[i]?=some x->∀a b m e,A=some a->w.cell? ((a.add (i*2)).add 1)=some (.slice (some b) m e)->Rg b.block
def RgP.move(h:RgP Rg w A l)(j:∀a,A=some a->Rg a.block)(d:∀b,Rg b->w'.heap[b]?=w.heap[b]?):RgP Rg w' A l:=λi x f a b m e c g=>
 h i x f a b m e c ((fX (by rw[rq,rq];exact d _ (j a c))).symm.trans g)
def RdP.mask    (h:RdP w A 0 l) (C:RgP Rg w A l) (q:∀a,A=some a->Rg a.block)
  (f:∀A v,w.cell? A=some v->Rg A.block->plV (λb=>Rg b/\eD w b) v->w'.cell? A=some v):RdP w' A 0 l:=λi x r=>by
 obtain⟨⟨a,B,c,g,u,n,D,E,H,p⟩,F⟩:=h i x r;have o:∀b,B=some b->Rg b.block:=λb z=>by
  subst z;rw[jt] at n;exact C i x r a b _ _ g n
 have k:∀j y,x.2[j]?=some y->ahN w' B (0+j) y:=λj y I=>by
  obtain⟨⟨b,e,m,s⟩,J,t⟩:=p j y I;exact⟨⟨b,e,f _ _ m (by rw[rq];exact o b e) (by show IntKind.i64 ≠ .u8;decide),f _ _ s (by rw[rq,rq];exact o b e) trivial⟩,J,t⟩
 refine⟨⟨a,B,c,g,f _ _ u (by rw[rq];exact q a g) (by show IntKind.i64 ≠ .u8;decide),f _ _ n (by rw[rq,rq];exact q a g) ?_,D,E,H,k⟩,F⟩;obtain⟨y,G⟩:∃y,x.2[0]?=some y:=⟨_,iS (by omega)⟩;obtain⟨⟨b,e,m,s⟩, -⟩:=p 0 y G;subst e;have d:=lq m;rw[rq] at d;exact⟨o b rfl,d⟩
end
section
open Go Go.Conc Go.ConcN Go.RowKit
def adr   :(Frame.enter P f a .normal).roundOf=none:=by
 unfold Frame.enter;cases P.funcs[f]?<;>rfl
def ap7{b:Bool}{v':Value}(h:VR ρ (.agg #[.string s,.bool b]) v'):v'=.agg #[.string s,.bool b]:=by
 cases h with
 |@agg c e h=>
  obtain⟨l⟩:=e;change bP ρ [.string s,.bool b] l at h;cases h with
  |cons f a=>
   cases f;cases a with
   |cons g d=>cases g;cases d;rfl
def ate (hF:eF Y)  (hN:gN<=w.heap.size) (H:∀g∈gL,Rg g/\eD w g)    {nm:Int}
  (k1:1<=key) (k2:key<=99) (hl:l.length=n) (x:n<=c) (C:(c:Int)<=9223372036854775807) (p:RdP w A 0 l) (N:RgP Rg w A l) (hA:∀a,A=some a->Rg a.block) (hn:0<n) (G:In_ nm)
  {Rl:aq->World->World->Prop} (d:pO Rl Rr) (hR:∀b,(Rg b/\eD w b)->Rr b) {cfr:Frame} {cs:List Frame} :
  bE prog main Rl (pN Rr) (λ_ g _=>g=⟨cfr.finish (.agg #[.string (Y key l nm).1,.bool (Y key l nm).2]),cs,.running,none,none⟩) S
   (Gl (Frame.enter prog 101 #[.int .i64 key,.slice A n c,.int .i64 nm] .normal::[]) (cfr::cs)) w:=by
 obtain⟨j,h1,W,h3,h4,h5⟩:=mask (V:=λb=>Rg b/\eD w b) (λb h=>h.2) H hN;have L:=p.mask N hA λA v x P hp=>h5 A v x ⟨P,lq x⟩ hp;obtain⟨y,hy⟩:∃y,l[0]?=some y:=⟨_,iS (by omega)⟩;obtain⟨⟨a,_,_,e1,e2,_⟩,_⟩:=p 0 y hy;subst e1;have i:=lq e2;rw[rq] at i;have m:(Ren.rows (λb=>Rg b/\eD w b) true (eU w)).r a.block a.block:=⟨rfl,hA a rfl,i⟩;generalize Q:(Ren.rows (λb=>Rg b/\eD w b) true (eU w))=ρ at h1 W m;have F:∀b q,ρ.r b q->Rr q/\bD j b/\NoB j b:=λb q u=>by
  subst Q;obtain⟨rfl,Z⟩:=u;exact⟨hR _ Z,h4 _ Z⟩
 have r:cZ ρ #[.int .i64 key,.slice (some a) n c,.int .i64 nm] #[.int .i64 key,.slice (some a) n c,.int .i64 nm]:=by
  obtain⟨b,o,s⟩:=a;exact .cons (.int _ _) (.cons (.slice (.some (.mk m o s)) _ _) (.cons (.int _ _) .nil))
 have X:∀t:Tape,Calls (ah false) 101 #[.int .i64 key,.slice (some a) n c,.int .i64 nm] (j.dK t) λe K=>∃v,e=.returned v/\v=.agg #[.string (Y key l nm).1,.bool (Y key l nm).2]:=λt=>by
  refine(hF false (j.dK t) key (some a) n c l nm k1 k2 hl x C (L.below λb u=>rfl) G).mono ?_;rintro e K ⟨v,rfl,hv, -⟩;exact⟨v,rfl,hv⟩
 generalize (#[.int .i64 key,.slice (some a) n c,.int .i64 nm]:Array Value)=args at r X
 let R:List Frame->World->Prop:=λfs K=>∃B v,fs=[B]/\B.fn=101/\B.leaving (ah false) K (.returned v)/\v=.agg #[.string (Y key l nm).1,.bool (Y key l nm).2]
 have hW:jQ (ah false) R ⟨[Frame.enter (ah false) 101 args .normal],j,λ_ _=>0⟩:=aaz (Post:=λv _=>v=.agg #[.string (Y key l nm).1,.bool (Y key l nm).2]) λt _=>X t;have M:Acc (im (ah false)) ⟨[Frame.enter (ah false) 101 args .normal],j,λ_ _=>0⟩:=hW.acc.transGen;have J:ai7 (ah false) R Rr S ρ ⟨[Frame.enter (ah false) 101 args .normal],j,λ_ _=>0⟩ [Frame.enter prog 101 args .normal] w:=
  ⟨.one (ahj (lQ false) aie r) adr,h1,W,hW,λb q u=>.inr (F b q u)⟩
 have I:=ai9 (lQ false) (awC false) d.fN d.tr d.rl d.cmp.gr (axf aBk aBl) (agu d.cmp) (main:=main) (base:=cfr::cs) M J (.inl rfl);refine bE.bind d.fN d.tr I λS1 g w1 ⟨c1,ρ1,l',hor,hle,hS1,nu,aDe,aEU,hW1,py,_,hend⟩=> ?_;subst nu;rcases hend with⟨hf,f⟩|⟨_,_,_,_,_,_,T,_⟩
 .obtain⟨_,_,y1,a0,_,e3⟩:=f.ne';obtain⟨B,k, -⟩:=id hf;have e4:=f.lone k e3;subst e4 e3;rw[k] at f;refine .step rfl λw2 P=> ?_;obtain⟨r1,r2,r3⟩:=d.rl _ _ _ P;have E:=aDe.rely py r1 r2 r3;obtain⟨σ,v,v',w3,D,es,O,t,q1,q2,q3,q4,q5,q6,z,q8,q9⟩:=auL (lQ false) (t0:=c1.t) (Post:=λv _=>v=.agg #[.string (Y key l nm).1,.bool (Y key l nm).2]) f E λt ht=>by
   obtain⟨cE,v,U,_,e6,e7⟩:=hW1.fin hf acD t ht;rw[k] at U;cases U;exact⟨v,e6,e7⟩
  refine⟨_,D,O,_,q9 main cfr cs,⟨ai8 py z,z.size',z.os.2,rfl,arC py q6 z q8⟩,.stop λ_ _=> ?_⟩;subst q2;rw[ap7 q5]
 .exact(ap6 hW1 T).elim
end
section
open Go Go.Conc Go.ConcN Go.RowKit
abbrev SN(S:aq)(w w':World):aq:=λb=>S b\/(w.heap.size<=b/\b<w'.heap.size)
section
variable {P:Program} {main:Bool} {Rl:aq->World->World->Prop} {St:aq->Goroutine->World->Prop} {S Rr:aq} {w0:World} {f:FuncId} {T:Array Value} {k:List Item} {xs base:List Frame}
def mR (H:pO Rl Rr)  {rest:List Nat} {o:Oper} {d:Tmp} {ob:Obj} (j:d<T.size) (l:O[i]?=some o) (s:o.guard=none) (c:o.dst=some d)
  (p:∀w,(execOp (FQ f T (.inRegion O (i::rest)::k)).eval o).runT P w #[]=(.ok (.value (.pointer (some ⟨w.heap.size,0,none⟩))) (w.alloc ob),#[]))
  (u:∀w,Rl S w0 w->∀T':Array Value,T'.size=T.size->T'.getD d undef=.pointer (some ⟨w.heap.size,0,none⟩)->(∀t,t≠d->T'.getD t undef=T.getD t undef)->∀a,Rl (SN S w (w.alloc ob)) (w.alloc ob) a->bE P main Rl (pN Rr) St (SN S w (w.alloc ob)) (Gl (FQ f T' (.inRegion O rest::k)::xs) base) a) :
  ∀w,Rl S w0 w->bE P main Rl (pN Rr) St S (Gl (FQ f T (.inRegion O (i::rest)::k)::xs) base) w:=λw m=>by
 refine .step rfl λa g=> ?_;have n:=H.tr _ _ _ _ m g;refine⟨_,_,_,_,anI rfl rfl rfl rfl l s (p a),⟨λb r _=>se a _ b r,by rw[mu];omega,rfl,rfl,λe v=>by cases(by simpa using sT v:False)⟩, ?_⟩;have:Frame.finish (FQ f T (.inRegion O (i::rest)::k)) (.pointer (some ⟨a.heap.size,0,none⟩))=FQ f (T.setIfInBounds d (.pointer (some ⟨a.heap.size,0,none⟩))) (.inRegion O rest::k):=by
  simp only[Frame.finish,l,qC,c]
 rw[this];exact u a n _ (by simp) (by rw[aF j,dl rfl]) (λt q=>by rw[aF j,be q]) _ (H.fN _ _)
end
section
variable {P:Program} (F:FaT P) {w:World} {e:Operand->Value} {x:Operand} {dst:Option Tmp} {ty:TypeId} {pos:String} {af:Array Edge} {gd:Option (Nat×Bool)}
include F
theorem ake:(execOp e ⟨dst,.alloc 160,ty,pos,af,gd⟩).runT P w #[]=(.ok (.value (.pointer (some ⟨w.heap.size,0,none⟩))) (w.alloc (.cells #[.string ⟨#[]⟩,.bool false] 160)),#[]):=by
 obtain⟨i,b,d,c,a⟩:=F.adF;simp[execOp,Instr.alloc,zeroValue,typeInfo,b,a,newVar,newRow,Value.cells]
theorem atg{t:Tmp}(h:e (.tmp t)=.slice A n c):(execOp e ⟨dst,.call ⟨.builtin .len,#[.tmp t],#[23]⟩,ty,pos,af,gd⟩).runT P w #[]=(.ok (.value (.int .i64 n)) w,#[]):=by
 rw[pz (s:=λv=>Builtin.len_ #[23] ty #[v]) λ_ v=>rfl,h];change Sem.runT P (Builtin.len_ #[23] ty #[.slice A n c] >>=λu=>pure (Next.value u)) w #[]=_;simp[Builtin.len_,lw F.u23,goInt]
omit F in
theorem ath{y:Operand}{a b:Int}(d:e x=.int .i64 a)(c:e y=.int .i64 b):(execOp e ⟨dst,.binOp .lss 3 x y 3,ty,pos,af,gd⟩).runT P w #[]=(.ok (.value (.bool (decide (a<b)))) w,#[]):=by
 have:execOp e ⟨dst,.binOp .lss 3 x y 3,ty,pos,af,gd⟩=(binOp .lss 3 (e x) (e y)).bind λv=>Sem.pure (.value v):=rfl;rw[this,d,c];rfl
omit F in
theorem ati:(prog.info? 9).map (·.size ==1)=some true/\(prog.info? 4).map (·.size ==1)=some true:=by
 constructor<;>kernel_rfl
omit F in
theorem akf:(execOp e ⟨dst,.build 160 #[],ty,pos,af,gd⟩).runT prog w #[]=(.ok (.value (.agg #[.string ⟨#[]⟩,.bool false])) w,#[]):=by
 obtain⟨i,d,m,l,b⟩:=faT.adF;obtain⟨f,a,j⟩:=gE.1 ati.1;obtain⟨k,c,g⟩:=gE.1 ati.2;simp[execOp,Instr.build,zeroValue,typeInfo,d,b,lw underlying160,sizeOf,a,c,Instr.fill,Value.cells]
end
end
section
open Go Go.Conc Go.ConcN Go.RowKit
def avQ(h:w'.heap.size=w.heap.size):SN S w w'=S:=by
 funext b
 show(S b\/(w.heap.size<=b/\b<w'.heap.size))=S b;rw[h];exact propext ⟨λx=>x.elim id λy=>absurd y.1 (by omega),.inl⟩
def abj{A:Addr}{u c:Value}(b:alB u=true)(g:w.cell? A=some c)(d:w.frozen? A=false){f:Type}(k:Sem f)(es:Array Event):(Sem.store .plain A u k).runT P w es=k.runT P (w.setCell A u) (es.push ⟨.cell A,true,false⟩):=by
 have a:(∀x,u ≠ .agg x)/\∀x,u ≠ .tuple x:=⟨λx e=>(by subst e;cases b),λx e=>(by subst e;cases b)⟩;rw[rY _ _ _ _ _ _ _ a.1 a.2];simp only[g,d,kw,qB];rfl
section
variable {P:Program} (F:FaT P) {w:World} {e:Operand->Value} {x y:Operand} {dst:Option Tmp} {ty:TypeId} {pos:String} {af:Array Edge} {gd:Option (Nat×Bool)}
include F
theorem agY{A:Addr}{u0 u1 c0 c1:Value}(m:alB u0=true)(q:alB u1=true)(o:e x=.pointer (some A))(l:e y=.agg #[u0,u1])(a:w.cell? A=some c0)(d:w.frozen? A=false)(f:w.cell? (A.add 1)=some c1)(b:w.frozen? (A.add 1)=false) :
  (execOp e ⟨dst,.store 160 x y,ty,pos,af,gd⟩).runT P w #[]=(.ok .skip ((w.setCell A u0).setCell (A.add 1) u1),#[⟨.cell A,true,false⟩,⟨.cell (A.add 1),true,false⟩]):=by
 obtain⟨i,n,r, -⟩:=F.adF;have g:(storeCells A [u0,u1] 0).runT P w #[]=(.ok () ((w.setCell A u0).setCell (A.add 1) u1),#[⟨.cell A,true,false⟩,⟨.cell (A.add 1),true,false⟩]):=by
  show(Sem.store .plain (A.add 0) u0 (Sem.store .plain (A.add 1) u1 (Sem.pure ()))).runT P w #[]=_;have j:A.add 0=A:=by unfold Addr.add;simp
  rw[j,abj m a d,abj q (c:=c1) (by rw[tM _ _ _ _ (λe=>arX e.symm)];exact f) (by rw[uH];exact b)];rfl
 have p:(storeCells A [u0,u1] 0).run P w=.ok () ((w.setCell A u0).setCell (A.add 1) u1):=by
  rw[<-rh _ _ _ #[]];exact fk Prod.fst g
 have k:(storeCells A [u0,u1] 0).events P w #[]=#[⟨.cell A,true,false⟩,⟨.cell (A.add 1),true,false⟩]:=fk Prod.snd g;simp[execOp,o,l,Instr.storeAt,Instr.sureAddr,storeVar,sizeOf,typeInfo,n,r,Value.cells,p,k]
theorem atj{A:Addr}{u0 u1:Value}{fn:Func}(c:fn.results=#[.cell 6 160])(m:T.getD 6 undef=.pointer (some A))(b:w.cell? A=some u0)(d:w.cell? (A.add 1)=some u1) :
  (results fn T).runT P w #[]=(.ok (.agg #[u0,u1]) w,#[⟨.cell A,false,false⟩,⟨.cell (A.add 1),false,false⟩]):=by
 obtain⟨i,k,p, -⟩:=F.adF;obtain⟨q,j⟩:=F.auW;have e:(loadCells A 2).runT P w #[]=(.ok #[u0,u1] w,#[⟨.cell A,false,false⟩,⟨.cell (A.add 1),false,false⟩]):=by
  show(Sem.load .plain (A.add 0) λo=>Sem.load .plain (A.add 1) λn=>Sem.pure #[o,n]).runT P w #[]=_;have f:A.add 0=A:=by unfold Addr.add;simp
  rw[f,Sem.runT];simp only[b];rw[Sem.runT];simp only[d];rfl
 have l:(loadCells A 2).run P w=.ok #[u0,u1] w:=by
  rw[<-rh _ _ _ #[]];exact fk Prod.fst e
 have g:(loadCells A 2).events P w #[]=#[⟨.cell A,false,false⟩,⟨.cell (A.add 1),false,false⟩]:=fk Prod.snd e;have a:T[6]?.getD undef=.pointer (some A):=by rw[<-gc];exact m
 simp[results,c,a,asAddr,loadVar,isAgg,lw j,sizeOf,typeInfo,k,p,l,g]
end
def avR{Rl:aq->World->World->Prop}(H:pO Rl Rr){nm : Int}{cfr:Frame}{cs:List Frame} :
  bE prog main Rl (pN Rr) (λ_ g _=>g=⟨cfr.finish (.agg #[.string ⟨#[]⟩,.bool false]),cs,.running,none,none⟩) S
   (Gl (Frame.enter prog 101 #[.int .i64 key,.slice A 0 c,.int .i64 nm] .normal::[]) (cfr::cs)) w:=by
 have C:=H.cmp;have K:Frame.enter prog 101 #[.int .i64 key,.slice A 0 c,.int .i64 nm] .normal=FQ 101 (#[.int .i64 key,.slice A 0 c,.int .i64 nm]++Array.replicate 26 undef) [.code (f101.body.getD .skip)]:=by
  unfold Frame.enter;rw[func101];rfl
 rw[K];obtain⟨T,hT,j,R⟩:∃T:Array Value,T=#[.int .i64 key,.slice A 0 c,.int .i64 nm]++Array.replicate 26 undef/\29<=T.size/\T.getD 1 undef=.slice A 0 c:=⟨_,rfl,by simp,by rw[gc,rN (by simp)];rfl⟩;rw[<-hT];simp only[f101,qn];have key:∀y,Rl S w y->bE prog main Rl (pN Rr) (λ_ g _=>g=⟨cfr.finish (.agg #[.string ⟨#[]⟩,.bool false]),cs,.running,none,none⟩) S (Gl (FQ 101 T [.code (f101.body.getD .skip)]::[]) (cfr::cs)) y:=by
  simp only[f101,qn];refine eB C (fQ C (l:=[0]) rfl (mR H (d:=6) (aE (by decide) j) rfl rfl rfl (λw=>ake faT) λn bI T1 a k o=> ?_));replace R:=(o 1 (by decide)).trans R;replace j:=bd j (mt a.symm);have hB:(n.alloc (.cells #[.string ⟨#[]⟩,.bool false] 160)).heap[n.heap.size]?=some (.cells #[.string ⟨#[]⟩,.bool false] 160 (0,0)):=by
   show(n.heap.push _)[n.heap.size]?=_;rw[qM]
  have s:SN S n (n.alloc (.cells #[.string ⟨#[]⟩,.bool false] 160)) n.heap.size:=.inr ⟨am _,by rw[mu];omega⟩;have G:n.heap.size<(n.alloc (.cells #[.string ⟨#[]⟩,.bool false] 160)).heap.size:=by rw[mu];omega
  generalize SN S n (n.alloc (.cells #[.string ⟨#[]⟩,.bool false] 160))=S1 at s ⊢;generalize n.alloc (.cells #[.string ⟨#[]⟩,.bool false] 160)=w2 at hB G ⊢;generalize n.heap.size=B at hB s k G;refine gV C (eB C (eB C (fQ C (l:=[0,1,2]) rfl ?_)));refine bJ C (d:=11) (v:=.slice A 0 c) (es:=#[]) (aE (by decide) j) rfl rfl rfl (λw r=>fg R) (λw r=>bg _) λT2 a U o=> ?_;replace k:=(o 6 (by decide)).trans k;replace j:=bd j (mt a.symm);refine bJ C (d:=12) (v:=.int .i64 (0:Nat)) (es:=#[]) (aE (by decide) j) rfl rfl rfl (λw r=>atg faT U) (λw r=>bg _) λT3 a E o=> ?_;replace k:=(o 6 (by decide)).trans k;replace j:=bd j (mt a.symm);refine bJ C (d:=13) (v:=.int .i64 0) (es:=#[]) (aE (by decide) j) rfl rfl rfl (λw r=>fg rfl) (λw r=>bg _) λT4 a a0 o=> ?_;replace k:=(o 6 (by decide)).trans k;replace E:=(o 12 (by decide)).trans E;replace j:=bd j (mt a.symm);refine gV C (aeV C (anK C (eB C (fQ C (l:=[0]) rfl ?_))));refine bJ C (d:=14) (v:=.bool (decide ((0:Int)<((0:Nat):Int)))) (es:=#[]) (aE (by decide) j) rfl rfl rfl (λw r=>ath a0 E) (λw r=>bg _) λT5 a z o=> ?_;replace k:=(o 6 (by decide)).trans k;replace j:=bd j (mt a.symm);replace z:T5.getD 14 undef=.bool false:=z.trans rfl;refine gV C (eB C (abR C (q:=false) z ?_));simp only[kw,qB];refine anL C rfl (eB C (fQ C (l:=[0,1]) rfl ?_));refine bJ C (d:=28) (v:=.agg #[.string ⟨#[]⟩,.bool false]) (es:=#[]) (aE (by decide) j) rfl rfl rfl (λw r=>akf) (λw r=>bg _) λV a iT o=> ?_;replace k:=(o 6 (by decide)).trans k;replace j:=bd j (mt a.symm);have u:(⟨B,0,none⟩:Addr).add 1=⟨B,1,none⟩:=iK _ _ _;have keep:∀y,Rl S1 w2 y->y.heap[B]?=some (.cells #[.string ⟨#[]⟩,.bool false] 160 (0,0))/\B<y.heap.size:=λy hr=>by
   obtain⟨Y,r2, -⟩:=H.rl _ _ _ hr;exact⟨(Y B (.inl s)).trans hB,by omega⟩
  intro w3 Q;refine .step rfl λt X=> ?_;obtain⟨L,b2⟩:=keep t (H.tr _ _ _ _ Q X);have c0:=eQ (i:=0) L;have c1:=eQ (i:=1) L;refine⟨_,_,_,_,aeU rfl rfl rfl rfl rfl rfl (agY faT (A:=⟨B,0,none⟩) (u0:=.string ⟨#[]⟩) (u1:=.bool false) (c0:=.string ⟨#[]⟩) (c1:=.bool false) rfl rfl k iT c0 (ie L) (by rw[u];exact c1) (by rw[u];exact ie L)),⟨λb hb hn=> ?_, ?_,rfl,rfl,λev K=> ?_⟩, ?_⟩
  .have F:B≠b:=λe=>hn (e▸s);rw[u,aY _ _ _ F,aY _ _ _ F]
  .rw[dj,dj];exact am _
  .have N:=sT K;simp only[sd,mc,rA,tQ] at N;have M:B<((t.setCell ⟨B,0,none⟩ (.string ⟨#[]⟩)).setCell ((⟨B,0,none⟩:Addr).add 1) (.bool false)).heap.size:=by rw[dj,dj];exact b2
   rcases N with rfl|rfl
   .exact⟨λx p=>.inl (by simp[MemAct.ofEvent,MemAct.touch?] at p;rw[<-p];exact .inl s),λm D=>(by cases D),M⟩
   .refine⟨λx p=>.inl ?_,λm D=>(by cases D), ?_⟩
    .simp[MemAct.ofEvent,MemAct.touch?] at p;rw[<-p,u];exact .inl s
    .show((⟨B,0,none⟩:Addr).add 1).block<_;rw[rq];exact M
  have P:(λb=>S1 b\/(t.heap.size<=b/\b<((t.setCell ⟨B,0,none⟩ (.string ⟨#[]⟩)).setCell ((⟨B,0,none⟩:Addr).add 1) (.bool false)).heap.size))=S1:=avQ (by rw[dj,dj]);rw[P];have I:((t.setCell ⟨B,0,none⟩ (.string ⟨#[]⟩)).setCell ((⟨B,0,none⟩:Addr).add 1) (.bool false)).heap[B]?=some (.cells #[.string ⟨#[]⟩,.bool false] 160 (0,0)):=by
   rw[u];exact vz (vz L)
  have Z:B<((t.setCell ⟨B,0,none⟩ (.string ⟨#[]⟩)).setCell ((⟨B,0,none⟩:Addr).add 1) (.bool false)).heap.size:=by rw[dj,dj];exact b2
  generalize (t.setCell ⟨B,0,none⟩ (.string ⟨#[]⟩)).setCell ((⟨B,0,none⟩:Addr).add 1) (.bool false)=w5 at I Z ⊢;refine gV (f:=101) (T:=V) C (w0:=w5) ?_ w5 (H.fN _ _);refine bE.still C (l2:=⟨101,V,[.code .ret],[],.returning,.normal,none⟩::[]) (es:=λ_=>#[]) (λw _=>by simp[Gl,stepG,stepG.exec]) (λ_ _ e h=>by cases(by simpa using h:False)) ?_;intro w6 O;refine .step rfl λw7 W=> ?_;obtain⟨Y,r2, -⟩:=H.rl _ _ _ (H.tr _ _ _ _ O W);have b7:=(Y B (.inl s)).trans I;have J:=atj faT (T:=V) (A:=⟨B,0,none⟩) (fn:=f101) rfl k (eQ (i:=0) b7) (by rw[u];exact eQ (i:=1) b7);refine⟨⟨cfr.finish (.agg #[.string ⟨#[]⟩,.bool false]),cs,.running,none,none⟩,w7,seen prog 101 #[⟨.cell ⟨B,0,none⟩,false,false⟩,⟨.cell ((⟨B,0,none⟩:Addr).add 1),false,false⟩],_, ?_,⟨λ_ _ _=>rfl,am _,rfl,rfl,λev K=> ?_⟩,.stop λ_ _=>rfl⟩
  .simp only[Gl,stepG,unwind,func101,J,rr];simp[doReturn,GStep.after]
  .have N:=sT K;simp only[sd,mc,rA,tQ] at N;rcases N with rfl|rfl
   .exact⟨λx p=>.inl (by simp[MemAct.ofEvent,MemAct.touch?] at p;rw[<-p];exact .inl s),λm D=>(by cases D),by show B<_;omega⟩
   .refine⟨λx p=>.inl ?_,λm D=>(by cases D), ?_⟩
    .simp[MemAct.ofEvent,MemAct.touch?] at p;rw[<-p,u];exact .inl s
    .show((⟨B,0,none⟩:Addr).add 1).block<_;rw[rq];show B<_;omega
 exact key w (H.fN _ _)
end
section
open Go Go.Conc Go.ConcR Go.RowKit Go.Conc.Lib Go.ConcR.Gen
abbrev eG:WgLink:={add:=98,done:=100,wait:=102,relMerge:=128,disable:=129,enable:=130,inBubble:=131,associate:=132,fatal:=133,uOr:=134,uAdd:=135,raceRead:=136,uLoad:=137,uStore:=138,disassociate:=139,semrelease:=140,acquire:=142,isAssociated:=143,uCas:=144,raceWrite:=145,semacquire:=146,orU64:=161,addU64:=162,loadU64:=163,storeU64:=164,casU64:=167,tWgP:=185,tUP:=187,tAssoc:=189,tWg:=157,tAU:=155,tU64:=148,tUint:=113,tU32:=146,tPU32:=193,tPAU:=216,tPU64:=218,tNoCopy:=151,tANoCopy:=152,tAlign64:=153}
def aaI:WgLib prog eG:=
 ⟨func98,func100,func102,func128,func129,func130,func131,func132,func133,func134,func135,func136,func137,func138,func139,func140,func142,func143,func144,func145,func146,func161,func162,func163,func164,func167,underlying185,Tryz.runUnderlying185,Tryz.sizeOf185,Tryz.isAgg185,Tryz.zeroValue185,underlying187,Tryz.runUnderlying187,Tryz.sizeOf187,Tryz.isAgg187,Tryz.zeroValue187,underlying189,Tryz.runUnderlying189,Tryz.sizeOf189,Tryz.isAgg189,Tryz.zeroValue189,underlying157,Tryz.runUnderlying157,Tryz.sizeOf157,Tryz.isAgg157,Tryz.zeroValue157,underlying155,Tryz.runUnderlying155,Tryz.sizeOf155,Tryz.isAgg155,Tryz.zeroValue155,underlying148,Tryz.runUnderlying148,Tryz.sizeOf148,Tryz.isAgg148,Tryz.zeroValue148,underlying113,Tryz.runUnderlying113,Tryz.sizeOf113,Tryz.isAgg113,Tryz.zeroValue113,underlying146,Tryz.runUnderlying146,Tryz.sizeOf146,Tryz.isAgg146,Tryz.zeroValue146,underlying193,Tryz.runUnderlying193,Tryz.sizeOf193,Tryz.isAgg193,Tryz.zeroValue193,underlying216,Tryz.runUnderlying216,Tryz.sizeOf216,Tryz.isAgg216,Tryz.zeroValue216,underlying218,Tryz.runUnderlying218,Tryz.sizeOf218,Tryz.isAgg218,Tryz.zeroValue218,underlying0,Tryz.runUnderlying0,Tryz.sizeOf0,Tryz.isAgg0,vI,underlying3,Tryz.runUnderlying3,vC,vL,uL,underlying4,Tryz.runUnderlying4,Tryz.sizeOf4,Tryz.isAgg4,vH,underlying9,Tryz.runUnderlying9,Tryz.sizeOf9,Tryz.isAgg9,Tryz.zeroValue9,underlying20,Tryz.runUnderlying20,Tryz.sizeOf20,Tryz.isAgg20,Tryz.zeroValue20,underlying21,Tryz.runUnderlying21,Tryz.sizeOf21,Tryz.isAgg21,Tryz.zeroValue21,(by kernel_rfl),(by kernel_rfl)⟩
end
section
open Go Go.Conc Go.ConcN Go.RowKit Go.Conc.Lib Go.ConcR.Gen Go.ConcN.Gen
open Go.ConcR (KK wgBlock WgAt stA smA rd wr mk Payload Aside2 DC0)
section
variable (P:Program) (R:World->World->Prop) (ty:TypeId) (Wg:Nat)
def oF(e:Mark)(m:Nat)(S:Goroutine->World->Prop)(g:Goroutine)(w:World):Prop:=
 g.status=.running/\∃a,stepG P true g w=.go a w #[mk e]/\Goes P true R DC0 S m a w
def akg(S:Goroutine->World->Prop)(g:Goroutine)(w:World):Prop:=
 g.status=.running/\∀v:Nat,v<2147483647->WgAt ty Wg w (v*KK) 0->
  ∃a,stepG P true g w=.go a (w.setCell (stA Wg) (.int .u64 ((v+1)*KK))) #[rd (stA Wg),wr (stA Wg)]/\
   (v=0->Goes P true R DC0 (oF P R (.read ⟨Wg,1,none⟩) 120 (oF P R .enable 3 S)) 120 a (w.setCell (stA Wg) (.int .u64 ((v+1)*KK))))/\
   (v≠0->Goes P true R DC0 (oF P R .enable 3 S) 120 a (w.setCell (stA Wg) (.int .u64 ((v+1)*KK))))
end
section
variable {P:Program} {L:WgLink} {R:World->World->Prop} {Wg:Nat} {S:Goroutine->World->Prop}
 {b₀:Frame} {a₀:Act} {ops₀:Array Oper} {i₀:Nat} {rest₀:List Nat} {k₀:List Item} {cs:List Frame}
def atk (H:WgLib P L) (b:∀w d,WgLive L.tWg Wg w->R w d->WgLive L.tWg Wg d)
  (l:∀w,WgLive L.tWg Wg w->S (G (b₀.at (a₀.put ((ops₀[i₀]?).bind (·.dst)) (.tuple #[])) (.inRegion ops₀ rest₀::k₀)) cs) w)
  (w:World) (a:WgLive L.tWg Wg w) :
  Goes P true R DC0 (oF P R .disable 60 (akg P R L.tWg Wg S)) 30
   (G ((base L.add).at ⟨#[.pointer (some ⟨Wg,0,none⟩),.int .i64 1,undef,undef,undef,undef,undef,undef,undef,undef,undef,undef,undef,undef,undef,undef,undef,undef,undef,undef,undef,undef,undef,undef,undef,undef,undef,undef,undef,undef,undef,undef,undef,undef,undef,undef,undef,undef,undef,undef,undef,undef,undef,undef,undef,undef,undef,undef,undef,undef,undef,undef,undef,undef,undef,undef,undef,undef,undef,undef,undef,undef,undef,undef,undef,undef,undef,undef,undef,undef,undef,undef,undef,undef,undef,undef,undef,undef,undef,undef,undef,undef,undef,undef,undef,undef,undef,undef,undef,undef,undef,undef,undef,undef,undef,undef,undef,undef,undef,undef,undef,undef,undef,undef,undef,undef,undef,undef,undef,undef,undef,undef,undef,undef,undef,undef,undef],[]⟩ [.code (body_add L)]) (b₀.at a₀ (.inRegion ops₀ (i₀::rest₀)::k₀)::cs)) w:=by
 lib_facts
 simp only[body_add,addFn,qn]
 u_c ip (b _ _) a
 u_cond true (b _ _) a
 u_c ip (b _ _) a
 u_c ip (b _ _) a
 u_reg (b _ _) a
 u_op (b _ _) a
 u_op (b _ _) a
 u_c eg (b _ _) a
 u_cond false (b _ _) a
 u_c rE (b _ _) a
 u_c ip (b _ _) a
 u_reg (b _ _) a
 refine qw (λd c=> ?_);replace a:=b _ _ a c;clear c;refine⟨rfl,_,uV .disable (by simp) rfl rfl (by k_ne) rfl H.f_disable (x_disable_n L) (x_disable_b L) (x_disable_x L) (x_disable_f L), ?_⟩
 walk_nrm
 u_c eg (b _ _) a
 u_reg (b _ _) a
 u_defer (b _ _) a
 u_c eg (b _ _) a
 u_c ip (b _ _) a
 u_reg (b _ _) a
 u_op (b _ _) a
 u_c eg (b _ _) a
 u_c ip (b _ _) a
 u_c ip (b _ _) a
 u_reg (b _ _) a
 u_bub (b _ _) a
 u_c eg (b _ _) a
 u_cond false (b _ _) a
 u_c rE (b _ _) a
 u_c ip (b _ _) a
 u_reg (b _ _) a
 u_op (b _ _) a
 u_op (b _ _) a
 u_op (b _ _) a
 u_op (b _ _) a
 u_op (b _ _) a
 u_op (b _ _) a
 u_call H.f_uAdd (nm_uAdd L) uAddFn (b _ _) a
 u_c ip (b _ _) a
 u_reg (b _ _) a
 u_op (b _ _) a
 u_c eg (b _ _) a
 u_c ip (b _ _) a
 u_reg (b _ _) a
 u_op (b _ _) a
 u_op (b _ _) a
 u_op (b _ _) a
 u_op (b _ _) a
 refine qw (λd c=> ?_);replace a:=b _ _ a c;clear c;refine⟨rfl,λv B g=> ?_⟩;rcases oS v with rfl|o
 .replace g:WgAt L.tWg Wg d 0 0:=by simpa using g
  have z:(((0:Nat):Int)+1)*KK=KK:=by simp
  rw[z];have m:IntKind.u64.wrap (0+4294967296)=KK:=by decide
  refine⟨_,(stepG_add_atomic rfl rfl (by k_ne) rfl H.f_addU64 (x_addU64_n L) (x_addU64_b L) (x_addU64_x L) .u64 (x_addU64_f L) rfl rfl g.cellSt (g.thaw 0)).trans (by rw[m];rfl),λ_=> ?_,λh=>absurd rfl h⟩;replace a:WgLive L.tWg Wg (d.setCell (stA Wg) (.int .u64 KK)):=⟨_,_,g.setSt _⟩;clear g;simp only[KK] at a ⊢
  walk_nrm
  u_op (b _ _) a
  u_c eg (b _ _) a
  u_c sg (b _ _) a
  u_leave1 H.f_uAdd (b _ _) a
  u_op (b _ _) a
  u_c eg (b _ _) a
  u_c ip (b _ _) a
  u_c ip (b _ _) a
  u_reg (b _ _) a
  u_op (b _ _) a
  u_op (b _ _) a
  u_op (b _ _) a
  u_op (b _ _) a
  u_skip (b _ _) a
  u_skip (b _ _) a
  u_op (b _ _) a
  u_c eg (b _ _) a
  u_cond false (b _ _) a
  u_c rE (b _ _) a
  u_c ip (b _ _) a
  u_reg (b _ _) a
  u_op (b _ _) a
  u_op (b _ _) a
  u_op (b _ _) a
  u_op (b _ _) a
  u_c eg (b _ _) a
  u_c ip (b _ _) a
  u_reg (b _ _) a
  u_op (b _ _) a
  u_op (b _ _) a
  u_op (b _ _) a
  u_op (b _ _) a
  u_c eg (b _ _) a
  u_c ip (b _ _) a
  u_c ip (b _ _) a
  u_reg (b _ _) a
  u_op (b _ _) a
  u_op (b _ _) a
  u_op (b _ _) a
  u_op (b _ _) a
  u_op (b _ _) a
  u_op (b _ _) a
  u_op (b _ _) a
  u_op (b _ _) a
  u_op (b _ _) a
  u_op (b _ _) a
  u_c eg (b _ _) a
  u_cond true (b _ _) a
  u_reg (b _ _) a
  u_op (b _ _) a
  u_op (b _ _) a
  u_op (b _ _) a
  u_conv H.underlying_tPU32 H.room_tU32 (WgLive.cell1 a).choose_spec (b _ _) a
  refine qw (λd c=> ?_);replace a:=b _ _ a c;clear c;refine⟨rfl,_,uJ .read (by simp) rfl rfl (by k_ne) rfl H.f_raceRead (x_raceRead_n L) (x_raceRead_b L) (x_raceRead_x L) (x_raceRead_f L) (ad:=⟨Wg,1,none⟩) (by simp[Act.eval]), ?_⟩
  walk_nrm
  u_c eg (b _ _) a
  u_c ip (b _ _) a
  u_c ip (b _ _) a
  u_reg (b _ _) a
  u_op (b _ _) a
  u_op (b _ _) a
  u_c eg (b _ _) a
  u_cond false (b _ _) a
  u_c rE (b _ _) a
  u_c ip (b _ _) a
  u_c ip (b _ _) a
  u_reg (b _ _) a
  u_op (b _ _) a
  u_op (b _ _) a
  u_op (b _ _) a
  u_skip (b _ _) a
  u_skip (b _ _) a
  u_op (b _ _) a
  u_op (b _ _) a
  u_skip (b _ _) a
  u_skip (b _ _) a
  u_skip (b _ _) a
  u_skip (b _ _) a
  u_op (b _ _) a
  u_c eg (b _ _) a
  u_cond false (b _ _) a
  u_c rE (b _ _) a
  u_c ip (b _ _) a
  u_c ip (b _ _) a
  u_reg (b _ _) a
  u_op (b _ _) a
  u_op (b _ _) a
  u_op (b _ _) a
  u_skip (b _ _) a
  u_skip (b _ _) a
  u_op (b _ _) a
  u_c eg (b _ _) a
  u_cond true (b _ _) a
  u_c sg (b _ _) a
  refine qw (λd c=> ?_);replace a:=b _ _ a c;clear c;refine⟨rfl,_,stepG_unwind_entry (v:=.tuple #[]) (evs:=#[mk .enable]) rfl H.f_enable (x_enable_n L) (x_enable_b L) (x_enable_x L) (x_enable_f L) (by simp[Extern.Race.none_]) (by simp[mk]) (by simp[mk]), ?_⟩
  u_leave0 H.f_add (b _ _) a
  exact qw λi f=>l _ (b _ _ a f)
 .obtain⟨V,j⟩:∃V:Int,V=(v:Int)+1:=⟨_,rfl⟩;obtain⟨St,e⟩:∃St:Int,St=V*KK:=⟨_,rfl⟩;have k:IntKind.u64.wrap ((v:Int)*KK+4294967296)=St:=by rw[IntKind.wrap_u64,e,j];simp only[KK];omega
  rw[<-j,<-e];have C:St / 4294967296=V:=by rw[e];simp only[KK];omega
  have q:bits .and .u64 St 2147483648=0:=by rw[e,j];have:=st_flag (v+1) 0 (by omega) (by omega);simpa[KK] using this
  have A:bits .and .u64 St 2147483647=0:=by rw[e,j];have:=st_waiters (v+1) 0 (by omega) (by omega);simpa[KK] using this
  have u:IntKind.i32.wrap V=V:=by rw[IntKind.wrap_i32];omega
  have n:1<V:=by omega
  have p:V<2147483648:=by omega
  have s:(V ==1)=false:=by simp;omega
  have D:=bv (show ¬(V=1) by omega);have t:=bv (show ¬(V<0) by omega);have y:=db (show 0<V by omega);have x:(V ==0)=false:=by simp;omega
  have r:=bv (show ¬(V=0) by omega);refine⟨_,(stepG_add_atomic rfl rfl (by k_ne) rfl H.f_addU64 (x_addU64_n L) (x_addU64_b L) (x_addU64_x L) .u64 (x_addU64_f L) rfl rfl g.cellSt (g.thaw 0)).trans (by rw[k];rfl),λh=>absurd h (by omega),λ_=> ?_⟩;replace a:WgLive L.tWg Wg (d.setCell (stA Wg) (.int .u64 St)):=⟨_,_,g.setSt _⟩;clear g e j k
  walk_nrm
  u_op (b _ _) a
  u_c eg (b _ _) a
  u_c sg (b _ _) a
  u_leave1 H.f_uAdd (b _ _) a
  u_op (b _ _) a
  u_c eg (b _ _) a
  u_c ip (b _ _) a
  u_c ip (b _ _) a
  u_reg (b _ _) a
  u_op (b _ _) a
  u_op (b _ _) a
  u_op (b _ _) a
  u_op (b _ _) a
  u_skip (b _ _) a
  u_skip (b _ _) a
  u_op (b _ _) a
  u_c eg (b _ _) a
  u_cnd false (b _ _) a
  u_c rE (b _ _) a
  u_c ip (b _ _) a
  u_reg (b _ _) a
  u_op (b _ _) a
  u_op (b _ _) a
  u_op (b _ _) a
  u_op (b _ _) a
  u_c eg (b _ _) a
  u_c ip (b _ _) a
  u_reg (b _ _) a
  u_op (b _ _) a
  u_op (b _ _) a
  u_op (b _ _) a
  u_op (b _ _) a
  u_c eg (b _ _) a
  u_c ip (b _ _) a
  u_c ip (b _ _) a
  u_reg (b _ _) a
  u_op (b _ _) a
  u_op (b _ _) a
  u_op (b _ _) a
  u_op (b _ _) a
  u_op (b _ _) a
  u_op (b _ _) a
  u_op (b _ _) a
  u_op (b _ _) a
  u_op (b _ _) a
  u_op (b _ _) a
  u_c eg (b _ _) a
  u_cnd false (b _ _) a
  u_c rE (b _ _) a
  u_c ip (b _ _) a
  u_c ip (b _ _) a
  u_reg (b _ _) a
  u_op (b _ _) a
  u_op (b _ _) a
  u_c eg (b _ _) a
  u_cnd false (b _ _) a
  u_c rE (b _ _) a
  u_c ip (b _ _) a
  u_c ip (b _ _) a
  u_reg (b _ _) a
  u_op (b _ _) a
  u_op (b _ _) a
  u_op (b _ _) a
  u_skip (b _ _) a
  u_skip (b _ _) a
  u_op (b _ _) a
  u_op (b _ _) a
  u_skip (b _ _) a
  u_skip (b _ _) a
  u_skip (b _ _) a
  u_skip (b _ _) a
  u_op (b _ _) a
  u_c eg (b _ _) a
  u_cnd false (b _ _) a
  u_c rE (b _ _) a
  u_c ip (b _ _) a
  u_c ip (b _ _) a
  u_reg (b _ _) a
  u_op (b _ _) a
  u_op (b _ _) a
  u_op (b _ _) a
  u_skip (b _ _) a
  u_skip (b _ _) a
  u_op (b _ _) a
  u_c eg (b _ _) a
  u_cnd true (b _ _) a
  u_c sg (b _ _) a
  refine qw (λd c=> ?_);replace a:=b _ _ a c;clear c;refine⟨rfl,_,stepG_unwind_entry (v:=.tuple #[]) (evs:=#[mk .enable]) rfl H.f_enable (x_enable_n L) (x_enable_b L) (x_enable_x L) (x_enable_f L) (by simp[Extern.Race.none_]) (by simp[mk]) (by simp[mk]), ?_⟩
  u_leave0 H.f_add (b _ _) a
  exact qw λi f=>l _ (b _ _ a f)
end
end
section
open Go Go.Conc Go.ConcN Go.RowKit Go.Conc.Lib Go.ConcR.Gen Go.ConcN.Gen
open Go.ConcR (KK wgBlock WgAt stA smA rd wr mk Aside2 DC0)
section
variable (P:Program) (R:World->World->Prop) (ty:TypeId) (Wg:Nat) (amG S:Goroutine->World->Prop)
abbrev WKe:Goroutine->World->Prop:=oF P R .enable 12 (oF P R (.acquire (stA Wg)) 20 S)
def WW4(g:Goroutine)(w:World):Prop:=g.status=.running/\(WgAt ty Wg w 0 0->∃a,stepG P true g w=.go a w #[rd (stA Wg)]/\Goes P true R DC0 (WKe P R Wg S) 40 a w)
def WW3(g:Goroutine)(w:World):Prop:=g.status=.running/\g.offers=none/\
  ((∃b,WgAt ty Wg w b 0)->stepG P true g w=.go {g with status:=.blocked} w #[])/\
  (WgAt ty Wg w 0 1->∃a,stepG P true g w=.go a (w.setCell (smA Wg) (.int .u32 0)) (semEvents (smA Wg))/\Goes P true R DC0 (WW4 P R ty Wg S) 40 a (w.setCell (smA Wg) (.int .u32 0)))
def WW2(vs:Nat)(g:Goroutine)(w:World):Prop:=g.status=.running/\∀v:Nat,v<2147483648->WgAt ty Wg w (v*KK) 0->
  (v=vs->∃a,stepG P true g w=.go a (w.setCell (stA Wg) (.int .u64 (v*KK+1))) #[rd (stA Wg),wr (stA Wg)]/\Goes P true R DC0 (oF P R (.write ⟨Wg,1,none⟩) 60 (WW3 P R ty Wg S)) 120 a (w.setCell (stA Wg) (.int .u64 (v*KK+1))))/\
  (v≠vs->∃a,stepG P true g w=.go a w #[rd (stA Wg)]/\Goes P true R DC0 amG 60 a w)
def WW1(g:Goroutine)(w:World):Prop:=g.status=.running/\∀v:Nat,v<2147483648->WgAt ty Wg w (v*KK) 0->∃a,stepG P true g w=.go a w #[rd (stA Wg)]/\
  (v=0->Goes P true R DC0 (WKe P R Wg S) 60 a w)/\(v≠0->Goes P true R DC0 (WW2 P R ty Wg amG S v) 120 a w)
end
def akh(L:WgLink)(Wg:Nat)(c:Frame)(cs:List Frame)(g:Goroutine)(w:World):Prop:=
 ∃T:Array Value,g=G ((base L.wait).at ⟨T,[]⟩ [.code (L7 L),.inLoop (L7 L),.inBlock 0]) (c::cs)/\T.size=84/\T[0]?=some (.pointer (some ⟨Wg,0,none⟩))/\WgLive L.tWg Wg w
section
variable {P:Program} {L:WgLink} {R:World->World->Prop} {Wg:Nat} {S:Goroutine->World->Prop}
 {b₀:Frame} {a₀:Act} {ops₀:Array Oper} {i₀:Nat} {rest₀:List Nat} {k₀:List Item} {cs:List Frame}
def amH(H:WgLib P L)(c:∀w a,WgLive L.tWg Wg w->R w a->WgLive L.tWg Wg a)(w:World)(b:WgLive L.tWg Wg w) :
  Goes P true R DC0 (oF P R .disable 3 (akh L Wg (b₀.at a₀ (.inRegion ops₀ (i₀::rest₀)::k₀)) cs)) 3
   (G ((base L.wait).at ⟨#[.pointer (some ⟨Wg,0,none⟩)]++(List.replicate 83 undef).toArray,[]⟩ [.code (body_wait L)]) (b₀.at a₀ (.inRegion ops₀ (i₀::rest₀)::k₀)::cs)) w:=by
 lib_facts
 simp only[body_wait,waitFn,qn]
 u_c ip (c _ _) b
 u_cond true (c _ _) b
 u_reg (c _ _) b
 refine qw (λa d=> ?_);replace b:=c _ _ b d;refine⟨rfl,_,uV .disable (by simp) rfl rfl (by k_ne) rfl H.f_disable (x_disable_n L) (x_disable_b L) (x_disable_x L) (x_disable_f L), ?_⟩
 walk_nrm
 u_c eg (c _ _) b
 u_c stepG_block (c _ _) b
 u_c stepG_loop (c _ _) b
 exact qw (λf e=>⟨_,rfl,by simp,by simp,c _ _ b e⟩)
def amI (H:WgLib P L) (b:∀w c,WgLive L.tWg Wg w->R w c->WgLive L.tWg Wg c)
  (x:∀w,WgLive L.tWg Wg w->S (G (b₀.at (a₀.put ((ops₀[i₀]?).bind (·.dst)) (.tuple #[])) (.inRegion ops₀ rest₀::k₀)) cs) w)
  (g:Goroutine) (w:World) (h:akh L Wg (b₀.at a₀ (.inRegion ops₀ (i₀::rest₀)::k₀)) cs g w) :
  Goes P true R DC0 (WW1 P R L.tWg Wg (akh L Wg (b₀.at a₀ (.inRegion ops₀ (i₀::rest₀)::k₀)) cs) S) 30 g w:=by
 lib_facts
 obtain⟨T,rfl,p,t,a⟩:=h;obtain⟨v0,v1,v2,v3,v4,v5,v6,v7,v8,v9,aP,O,bn,z,ba,C,K,ao,bR,a8,a2,A,bI,c0,J,bw,bk,a4,bz,aa,Y,b0,y,bO,a0,N,bT,bL,bi,X,U,W,br,a7,aT,Q,D,bp,b9,bf,aL,bm,aK,af,E,b6,bl,b5,a5,bC,a3,bS,ay,b4,b7,B,I,M,bb,b8,bx,aX,bt,bV,a6,aJ,c2,a9,F,b3,bo,an,al,Z,rfl⟩:=array84 T p;simp only[List.getElem?_toArray,sY,jp] at t;subst t;simp only[L7,body_wait,waitFn,qn]
 u_c stepG_block (b _ _) a
 u_c ip (b _ _) a
 u_reg (b _ _) a
 u_op (b _ _) a
 u_op (b _ _) a
 u_op (b _ _) a
 u_call H.f_uLoad (nm_uLoad L) uLoadFn (b _ _) a
 u_c ip (b _ _) a
 u_reg (b _ _) a
 u_op (b _ _) a
 u_c eg (b _ _) a
 u_c ip (b _ _) a
 u_reg (b _ _) a
 u_op (b _ _) a
 u_op (b _ _) a
 u_op (b _ _) a
 refine qw (λc d=> ?_);replace a:=b _ _ a d;refine⟨rfl,λv hv j=> ?_⟩;rcases oS v with rfl|ax
 .replace j:WgAt L.tWg Wg c 0 0:=by simpa using j
  refine⟨_,stepG_load_atomic (v:=0) rfl rfl (by k_ne) rfl H.f_loadU64 (x_loadU64_n L) (x_loadU64_b L) (x_loadU64_x L) .u64 (x_loadU64_f L) rfl j.cellSt,λ_=> ?_,λh=>absurd rfl h⟩
  walk_nrm
  u_op (b _ _) a
  u_c eg (b _ _) a
  u_c sg (b _ _) a
  u_leave1 H.f_uLoad (b _ _) a
  u_op (b _ _) a
  u_c eg (b _ _) a
  u_c ip (b _ _) a
  u_reg (b _ _) a
  u_op (b _ _) a
  u_op (b _ _) a
  u_op (b _ _) a
  u_op (b _ _) a
  u_c eg (b _ _) a
  u_c ip (b _ _) a
  u_reg (b _ _) a
  u_op (b _ _) a
  u_op (b _ _) a
  u_op (b _ _) a
  u_op (b _ _) a
  u_c eg (b _ _) a
  u_c ip (b _ _) a
  u_c ip (b _ _) a
  u_reg (b _ _) a
  u_op (b _ _) a
  u_op (b _ _) a
  u_c eg (b _ _) a
  u_cond true (b _ _) a
  u_c ip (b _ _) a
  u_cond true (b _ _) a
  u_c ip (b _ _) a
  u_reg (b _ _) a
  refine qw (λc d=> ?_);replace a:=b _ _ a d;refine⟨rfl,_,uV .enable (by simp) rfl rfl (by k_ne) rfl H.f_enable (x_enable_n L) (x_enable_b L) (x_enable_x L) (x_enable_f L), ?_⟩
  walk_nrm
  u_c eg (b _ _) a
  u_reg (b _ _) a
  u_op (b _ _) a
  u_conv H.underlying_tWgP H.room_tWg (WgLive.cell0 a).choose_spec (b _ _) a
  refine qw (λc d=> ?_);replace a:=b _ _ a d;refine⟨rfl,_,uJ .acquire (by simp) rfl rfl (by k_ne) rfl H.f_acquire (x_acquire_n L) (x_acquire_b L) (x_acquire_x L) (x_acquire_f L) (by simp[Act.eval,stA]), ?_⟩
  walk_nrm
  u_c eg (b _ _) a
  u_c ip (b _ _) a
  u_c ip (b _ _) a
  u_reg (b _ _) a
  u_op (b _ _) a
  u_op (b _ _) a
  u_op (b _ _) a
  u_op (b _ _) a
  u_op (b _ _) a
  u_op (b _ _) a
  u_op (b _ _) a
  u_op (b _ _) a
  u_skip (b _ _) a
  u_skip (b _ _) a
  u_op (b _ _) a
  u_c eg (b _ _) a
  u_cond false (b _ _) a
  u_c rE (b _ _) a
  u_c sg (b _ _) a
  u_leave0 H.f_wait (b _ _) a
  exact qw λk f=>x _ (b _ _ a f)
 .obtain⟨V,o⟩:∃V:Int,(v:Int)*KK=V:=⟨_,rfl⟩;have a1:V / 4294967296=(v:Int):=by rw[<-o];simp only[KK];omega
  have b1:bits .and .u64 V 2147483648=0:=by rw[<-o];have:=st_flag v 0 (by omega) (by omega);simpa[KK] using this
  have b2:bits .and .u64 V 2147483647=0:=by rw[<-o];have:=st_waiters v 0 (by omega) (by omega);simpa[KK] using this
  have c1:IntKind.i32.wrap (v:Int)=(v:Int):=by rw[IntKind.wrap_i32];omega
  have w1:IntKind.u64.wrap (V+1)=V+1:=by rw[IntKind.wrap_u64,<-o];simp only[KK];omega
  have q3:=bv (show ¬((v:Int)<0) by omega);have q4:=db (show 0<(v:Int) by omega);have q5:((v:Int) ==0)=false:=by simp;omega
  have q6:=bv (show ¬((v:Int)=0) by omega);rw[o] at j;refine⟨_,stepG_load_atomic (v:=V) rfl rfl (by k_ne) rfl H.f_loadU64 (x_loadU64_n L) (x_loadU64_b L) (x_loadU64_x L) .u64 (x_loadU64_f L) rfl j.cellSt,λh0=>absurd h0 (by omega),λ_=> ?_⟩
  walk_nrm
  u_op (b _ _) a
  u_c eg (b _ _) a
  u_c sg (b _ _) a
  u_leave1 H.f_uLoad (b _ _) a
  u_op (b _ _) a
  u_c eg (b _ _) a
  u_c ip (b _ _) a
  u_reg (b _ _) a
  u_op (b _ _) a
  u_op (b _ _) a
  u_op (b _ _) a
  u_op (b _ _) a
  u_c eg (b _ _) a
  u_c ip (b _ _) a
  u_reg (b _ _) a
  u_op (b _ _) a
  u_op (b _ _) a
  u_op (b _ _) a
  u_op (b _ _) a
  u_c eg (b _ _) a
  u_c ip (b _ _) a
  u_c ip (b _ _) a
  u_reg (b _ _) a
  u_op (b _ _) a
  u_op (b _ _) a
  u_c eg (b _ _) a
  u_cnd false (b _ _) a
  u_c rE (b _ _) a
  u_c ip (b _ _) a
  u_reg (b _ _) a
  u_op (b _ _) a
  u_op (b _ _) a
  u_op (b _ _) a
  u_op (b _ _) a
  u_op (b _ _) a
  u_op (b _ _) a
  u_call H.f_uCas (nm_uCas L) uCasFn (b _ _) a
  u_c ip (b _ _) a
  u_reg (b _ _) a
  u_op (b _ _) a
  u_c eg (b _ _) a
  u_c ip (b _ _) a
  u_reg (b _ _) a
  u_op (b _ _) a
  u_op (b _ _) a
  u_op (b _ _) a
  u_op (b _ _) a
  u_op (b _ _) a
  refine qw (λk f=> ?_);replace a:=b _ _ a f;refine⟨rfl,λv' bu j=>⟨λe=> ?_,λe=> ?_⟩⟩
  .subst e;rw[o] at j ⊢;refine⟨_,stepG_cas_hit (v:=V) (n:=V+1) rfl rfl (by k_ne) rfl H.f_casU64 (x_casU64_n L) (x_casU64_b L) (x_casU64_x L) .u64 (x_casU64_f L) rfl rfl rfl j.cellSt (j.thaw 0), ?_⟩;replace a:WgLive L.tWg Wg (k.setCell (stA Wg) (.int .u64 (V+1))):=⟨_,_,j.setSt _⟩
   walk_nrm
   u_op (b _ _) a
   u_c eg (b _ _) a
   u_c sg (b _ _) a
   u_leave1 H.f_uCas (b _ _) a
   u_c eg (b _ _) a
   u_cond true (b _ _) a
   u_c ip (b _ _) a
   u_c ip (b _ _) a
   u_reg (b _ _) a
   u_op (b _ _) a
   u_op (b _ _) a
   u_op (b _ _) a
   u_op (b _ _) a
   u_c eg (b _ _) a
   u_cond true (b _ _) a
   u_reg (b _ _) a
   u_op (b _ _) a
   u_op (b _ _) a
   u_op (b _ _) a
   u_conv H.underlying_tPU32 H.room_tU32 (WgLive.cell1 a).choose_spec (b _ _) a
   refine qw (λm i=> ?_);replace a:=b _ _ a i;refine⟨rfl,_,uJ .write (by simp) rfl rfl (by k_ne) rfl H.f_raceWrite (x_raceWrite_n L) (x_raceWrite_b L) (x_raceWrite_x L) (x_raceWrite_f L) (ad:=⟨Wg,1,none⟩) (by simp[Act.eval]), ?_⟩
   walk_nrm
   u_c eg (b _ _) a
   u_c ip (b _ _) a
   u_reg (b _ _) a
   u_op (b _ _) a
   u_c eg (b _ _) a
   u_c ip (b _ _) a
   u_c ip (b _ _) a
   u_reg (b _ _) a
   u_op (b _ _) a
   u_op (b _ _) a
   u_op (b _ _) a
   u_op (b _ _) a
   u_skip (b _ _) a
   u_op (b _ _) a
   u_c eg (b _ _) a
   u_cond false (b _ _) a
   u_c rE (b _ _) a
   u_c ip (b _ _) a
   u_reg (b _ _) a
   u_op (b _ _) a
   u_op (b _ _) a
   u_op (b _ _) a
   u_op (b _ _) a
   refine qw (λm i=> ?_);replace a:=b _ _ a i;refine⟨rfl,rfl,λ⟨st,j⟩=>stepG_semacquire_wait rfl rfl rfl H.f_semacquire (x_semacquire_n L) (x_semacquire_b L) (x_semacquire_x L) (x_semacquire_f L) (by simp[Act.eval,smA]) j.cellSm,λs=> ?_⟩;refine⟨_,(stepG_semacquire (n:=1) rfl rfl (by k_ne) rfl H.f_semacquire (x_semacquire_n L) (x_semacquire_b L) (x_semacquire_x L) (x_semacquire_f L) (by simp[Act.eval,smA]) s.cellSm (by decide) (s.thaw 1)).trans rfl, ?_⟩;replace a:WgLive L.tWg Wg (m.setCell (smA Wg) (.int .u32 0)):=⟨_,_,s.setSm 0⟩
   walk_nrm
   u_c eg (b _ _) a
   u_c ip (b _ _) a
   u_reg (b _ _) a
   u_op (b _ _) a
   u_op (b _ _) a
   u_op (b _ _) a
   u_call H.f_uLoad (nm_uLoad L) uLoadFn (b _ _) a
   u_c ip (b _ _) a
   u_reg (b _ _) a
   u_op (b _ _) a
   u_c eg (b _ _) a
   u_c ip (b _ _) a
   u_reg (b _ _) a
   u_op (b _ _) a
   u_op (b _ _) a
   u_op (b _ _) a
   refine qw (λu r=> ?_);replace a:=b _ _ a r;refine⟨rfl,λj=>⟨_,stepG_load_atomic (v:=0) rfl rfl (by k_ne) rfl H.f_loadU64 (x_loadU64_n L) (x_loadU64_b L) (x_loadU64_x L) .u64 (x_loadU64_f L) rfl j.cellSt, ?_⟩⟩
   walk_nrm
   u_op (b _ _) a
   u_c eg (b _ _) a
   u_c sg (b _ _) a
   u_leave1 H.f_uLoad (b _ _) a
   u_op (b _ _) a
   u_op (b _ _) a
   u_c eg (b _ _) a
   u_c ip (b _ _) a
   u_cond true (b _ _) a
   u_c ip (b _ _) a
   u_reg (b _ _) a
   refine qw (λq l=> ?_);replace a:=b _ _ a l;refine⟨rfl,_,uV .enable (by simp) rfl rfl (by k_ne) rfl H.f_enable (x_enable_n L) (x_enable_b L) (x_enable_x L) (x_enable_f L), ?_⟩
   walk_nrm
   u_c eg (b _ _) a
   u_reg (b _ _) a
   u_op (b _ _) a
   u_conv H.underlying_tWgP H.room_tWg (WgLive.cell0 a).choose_spec (b _ _) a
   refine qw (λq l=> ?_);replace a:=b _ _ a l;refine⟨rfl,_,uJ .acquire (by simp) rfl rfl (by k_ne) rfl H.f_acquire (x_acquire_n L) (x_acquire_b L) (x_acquire_x L) (x_acquire_f L) (by simp[Act.eval,stA]), ?_⟩
   walk_nrm
   u_c eg (b _ _) a
   u_c ip (b _ _) a
   u_c ip (b _ _) a
   u_reg (b _ _) a
   u_op (b _ _) a
   u_c eg (b _ _) a
   u_cond false (b _ _) a
   u_c rE (b _ _) a
   u_c sg (b _ _) a
   u_leave0 H.f_wait (b _ _) a
   exact qw λk f=>x _ (b _ _ a f)
  .refine⟨_,stepG_cas_miss (v:=(v':Int)*KK) (old:=V) (n:=V+1) rfl rfl (by k_ne) rfl H.f_casU64 (x_casU64_n L) (x_casU64_b L) (x_casU64_x L) .u64 (x_casU64_f L) rfl rfl rfl j.cellSt (j.thaw 0) (by rw[<-o];simp only[KK];omega), ?_⟩
   walk_nrm
   u_op (b _ _) a
   u_c eg (b _ _) a
   u_c sg (b _ _) a
   u_leave1 H.f_uCas (b _ _) a
   u_c eg (b _ _) a
   u_cond false (b _ _) a
   u_c rE (b _ _) a
   u_c stepG_inBlock (b _ _) a
   u_c stepG_inLoop (b _ _) a
   exact qw λm i=>⟨_,rfl,by simp,by simp,b _ _ a i⟩
end
end
section
open Go Go.Conc Go.ConcN Go.RowKit Go.Conc.Lib Go.ConcR.Gen Go.ConcN.Gen
open Go.ConcR (KK wgBlock WgAt stA smA rd wr mk Payload DC0)
section
variable {P:Program} {R:World->World->Prop} {Wg:Nat}
def ap8:aa3 Wg (mk (.read ⟨Wg,1,none⟩)):=⟨_,rfl,.inl rfl⟩
def amJ:aa3 Wg (mk (.write ⟨Wg,1,none⟩)):=⟨_,rfl,.inr rfl⟩
def nU{D i:World->World->Array Event->Prop}{St c:Goroutine->World->Prop}{main:Bool}(k:∀w d e,D w d e->i w d e)(f:∀g w,St g w->c g w) :
  ∀{n:Nat} {g:Goroutine} {w:World},Goes P main R D St n g w->Goes P main R i c n g w
 |0,_,_,h=>λa b=>f _ _ (h a b)
 |n+1,g,w,h=>by
  rcases h with h|⟨l,h⟩
  .exact .inl λa b=>f _ _ (h a b)
  .refine .inr ⟨l,λa b=> ?_⟩;have:=h a b;cases j:stepG P main g a with
   |go m d e=>
    rw[j,tp] at this;rw[tp];exact⟨k _ _ _ this.1,nU k f this.2⟩
   |_=>rw[j] at this;exact this.elim
def avS{D:World->World->Array Event->Prop}(b:n<=Z)(h:Goes P main R D St n g w):Goes P main R D St Z g w:=by
 induction b with
 |refl=>exact h
 |step _ a=>exact a.more
def dsd{es:Array Event}(h:DC0 w w' es):DSd Wg w w' es:=⟨h.1,by rw[h.2];simp⟩
def agZ{e:Mark}(q:aa3 Wg (mk e))(s:∀g w,St g w->V g w)(k:∀w,R w w)(l:∀a b c,R a b->R b c->R a c) :
  ∀{n:Nat} {g:Goroutine} {w:World},Goes P true R DC0 (oF P R e m St) n g w->Goes P true R (DSd Wg) V (n+(m+1)) g w:=by
 have stop:∀{g:Goroutine} {w:World},(∀d,R w d->oF P R e m St g d)->Goes P true R (DSd Wg) V (m+1) g w:=λ{g w} h=>by
  refine .inr ⟨(h w (k w)).1,λd i=> ?_⟩;obtain⟨-,p,f,j⟩:=h d i;rw[f,tp];exact⟨⟨rfl,by simp;exact q⟩,nU (λ_ _ _ x=>dsd x) s j⟩
 intro n
 induction n with
 |zero=>intro g w h;rw[jt];exact stop h
 |succ n r=>
  intro g w h;rcases h with h|⟨o,h⟩
  .exact avS (by omega) (stop h)
  .rw[Nat.succ_add];refine .inr ⟨o,λd i=> ?_⟩;have:=h d i;cases f:stepG P true g d with
   |go p t u=>
    rw[f,tp] at this;rw[tp];exact⟨dsd this.1,r this.2⟩
   |_=>rw[f] at this;exact this.elim
end
section
variable [Payload] {P:Program} {ty:TypeId} {Wg C n:Nat} {R S:aq}
def aaJ(a:∀g w,St g w->V g w)(h:Goes P true (RM ty Wg C n R S) DC0 St m g w):GP P ty Wg C n R S V m g w:=nU (λ_ _ _ x=>dsd x) a h
def ay6{F:aq->aq->Goroutine->World->Prop}(a:∀g w,Goes P true (RM ty Wg C n R S) DC0 St m g w->F R S g w)(h:oF P (RM ty Wg C n R S) (.acquire (stA Wg)) m St g w):ax4 P Wg R S F g w:=
 ⟨h.1,let⟨b,e,k⟩:=h.2;⟨b,e,a _ _ k⟩⟩
section
variable {St:Goroutine->World->Prop} {F A:aq->aq->Goroutine->World->Prop} {amG:Goroutine->World->Prop} (hF:∀g w,Goes P true (RM ty Wg C n R S) DC0 St 20 g w->F R S g w) (hA:∀g w,amG g w->A R S g w)
include hF in
theorem axg(h:WKe P (RM ty Wg C n R S) Wg St g w):MKe P ty Wg C n R S F g w:=
 ⟨h.1,let⟨a,e,k⟩:=h.2;⟨a,e,_,aaJ (λ_ _ x=>ay6 hF x) k⟩⟩
include hF in
theorem aBn(h:WW4 P (RM ty Wg C n R S) ty Wg St g w):MW4 P ty Wg C n R S F g w:=
 ⟨h.1,λa=>let⟨b,e,k⟩:=h.2 a;⟨b,e,_,aaJ (λ_ _ x=>axg hF x) k⟩⟩
include hF in
theorem aBo(h:WW3 P (RM ty Wg C n R S) ty Wg St g w):MW3 P ty Wg C n R S F g w:=
 ⟨h.1,h.2.1,h.2.2.1,λa=>let⟨b,e,k⟩:=h.2.2.2 a;⟨b,e,_,aaJ (λ_ _ x=>aBn hF x) k⟩⟩
include hF hA in
theorem aBp{v:Nat}(h:WW2 P (RM ty Wg C n R S) ty Wg amG St v g w):MW2 P ty Wg C n R S A F v g w:=
 ⟨h.1,λd f c=>⟨λe=>let⟨b,a,k⟩:=(h.2 d f c).1 e;⟨b,a,_,agZ amJ (λ_ _ x=>aBo hF x) (jC.refl _ _ _) (λ_ _ _=>jC.trans) k⟩,
  λe=>let⟨b,a,k⟩:=(h.2 d f c).2 e;⟨b,a,_,aaJ hA k⟩⟩⟩
include hF hA in
theorem aBq(h:WW1 P (RM ty Wg C n R S) ty Wg amG St g w):MW1 P ty Wg C n R S A F g w:=
 ⟨h.1,λv c b=>let⟨f,e,d,a⟩:=h.2 v c b;⟨f,e,λe=>⟨_,aaJ (λ_ _ x=>axg hF x) (d e)⟩,λe=>⟨_,aaJ (λ_ _ x=>aBp hF hA x) (a e)⟩⟩⟩
include hA in
theorem aBr(h:oF P (RM ty Wg C n R S) .disable m amG g w):MKd P ty Wg C n R S A g w:=
 ⟨h.1,let⟨a,e,k⟩:=h.2;⟨a,e,_,aaJ hA k⟩⟩
end
section
variable {val:Nat->Value} {j:Nat} {Next:aq->Goroutine->World->Prop} {St:Goroutine->World->Prop}
def atl(a:∀g w,Goes P true (RM ty Wg C n R S) DC0 St m g w->∃T,GM P ty Wg C n R (MGo P ty Wg C n val j Next R) T S g w)(h:oF P (RM ty Wg C n R S) .enable m St g w):ax5 P ty Wg C n val j Next R S g w:=
 ⟨h.1,let⟨b,e,k⟩:=h.2;⟨b,e,a _ _ k⟩⟩
def aBs(b:∀g w,Goes P true (RM ty Wg C n R S) DC0 St 3 g w->∃T,GM P ty Wg C n R (MGo P ty Wg C n val j Next R) T S g w)(h:akg P (RM ty Wg C n R S) ty Wg St g w):MA1 P ty Wg C n val j Next R S g w:=
 ⟨h.1,λv f d=>by
  obtain⟨k,e,i,c⟩:=h.2 v f d;refine⟨k,e, ?_⟩;by_cases a:v=0
  .exact⟨_,agZ ap8 (λ_ _ x=>atl b x) (jC.refl _ _ _) (λ_ _ _=>jC.trans) (i a)⟩
  .exact⟨_,aaJ (λ_ _ x=>atl b x) (c a)⟩⟩
def ay7(a:∀g w,Goes P true (RM ty Wg C n R S) DC0 St 3 g w->∃T,GM P ty Wg C n R (MGo P ty Wg C n val j Next R) T S g w)(h:oF P (RM ty Wg C n R S) .disable m (akg P (RM ty Wg C n R S) ty Wg St) g w):arx P ty Wg C n val j Next R S g w:=
 ⟨h.1,let⟨b,e,k⟩:=h.2;⟨b,e,_,aaJ (λ_ _ x=>aBs a x) k⟩⟩
end
end
end
section
open Go Go.Conc Go.ConcN Go.RowKit Go.Conc.Lib Go.ConcR.Gen Go.ConcN.Gen
open Go.ConcR (KK wgBlock WgAt stA smA rd wr mk Payload Aside2 DC0)
section
variable (P:Program) (R:World->World->Prop) (Wg:Nat)
def atm(g:Goroutine)(w:World):Prop:=∃a,stepG P false g w=.go a w #[mk .disable]
def ay8(m:Nat)(g:Goroutine)(w:World):Prop:=∃a,stepG P false g w=.go a w #[mk (.releaseMerge (stA Wg))]/\Goes P false R DC0 (atm P) m a w
end
section
variable {P:Program} {L:WgLink} {R:World->World->Prop} {Wg:Nat} {c:Frame} {cs:List Frame}
def ap9(H:WgLib P L)(b:∀w d,WgLive L.tWg Wg w->R w d->WgLive L.tWg Wg d)(w:World)(a:WgLive L.tWg Wg w) :
  Goes P false R DC0 (ay8 P R Wg 10) 23 (G ((baseD L.done).at ⟨#[.pointer (some ⟨Wg,0,none⟩),undef,undef,undef],[]⟩ [.code (body_done L)]) (c::cs)) w:=by
 lib_facts
 simp only[body_done,body_add,doneFn,addFn,qn]
 u_reg (b _ _) a
 u_op (b _ _) a
 u_in (b _ _) a
 refine goes_call rfl rfl (by k_ne) rfl H.f_add (nm_add L) rfl ⟨by u_nil, ?_⟩
 walk_nrmf addFn
 u_c ip (b _ _) a
 u_cond true (b _ _) a
 u_c ip (b _ _) a
 u_c ip (b _ _) a
 u_reg (b _ _) a
 u_op (b _ _) a
 u_op (b _ _) a
 u_c eg (b _ _) a
 u_cond true (b _ _) a
 u_reg (b _ _) a
 u_op (b _ _) a
 u_conv H.underlying_tWgP H.room_tWg (WgLive.cell0 a).choose_spec (b _ _) a
 refine qw (λd e=> ?_);replace a:=b _ _ a e;refine⟨_,uJ .releaseMerge (by simp) rfl rfl (by k_ne) rfl H.f_relMerge (x_relMerge_n L) (x_relMerge_b L) (x_relMerge_x L) (x_relMerge_f L) (by simp[Act.eval,stA]), ?_⟩
 walk_nrm
 u_c eg (b _ _) a
 u_c ip (b _ _) a
 u_reg (b _ _) a
 refine qw (λd e=> ?_);replace a:=b _ _ a e;exact⟨_,uV .disable (by simp) rfl rfl (by k_ne) rfl H.f_disable (x_disable_n L) (x_disable_b L) (x_disable_x L) (x_disable_f L)⟩
end
section
variable [Payload] {P:Program} {ty:TypeId} {Wg C n k:Nat} {R:World->World->Prop} {v:Value}
def atn(c:∀w,R w w)(q:∀g w,St g w->∃p,stepG P false g w=.go p w #[mk (.releaseMerge (stA Wg))]) :
  ∀{m f:Nat} {g:Goroutine} {w:World},Goes P false R DC0 (atm P) m g w->¬Goes P false R (DWs Wg FF FF C n k) St f g w:=by
 have i:∀{f:Nat} {g:Goroutine} {w:World},(∀a,R w a->atm P g a)->¬Goes P false R (DWs Wg FF FF C n k) St f g w:=λ{f g w} d b=>by
  obtain⟨p,e⟩:=d w (c w);have l:¬ ∀a,R w a->St g a:=λh=>by
   obtain⟨s,o⟩:=q _ _ (h w (c w));rw[e] at o;cases o
  cases f with
  |zero=>exact l b
  |succ f=>
   rcases b with b|⟨-,b⟩
   .exact l b
   .have:=b w (c w);rw[e,tp] at this;exact(this.1.2 (mk .disable) (by simp)).2.1 rfl
 intro m
 induction m with
 |zero=>intro f g w d b;exact i d b
 |succ m t=>
  intro f g w d b;rcases d with d|⟨-,d⟩
  .exact i d b
  .have d:=d w (c w);obtain⟨p,j,u,e,⟨rfl,rfl⟩,r⟩:=goes_elim d;have l:¬ ∀a,R j a->St g a:=λh=>by
    obtain⟨s,o⟩:=q _ _ (h j (c j));rw[e] at o;cases o
   cases f with
   |zero=>exact l b
   |succ f=>
    rcases b with b|⟨-,b⟩
    .exact l b
    .have:=b j (c j);rw[e,tp] at this;exact t r this.2
def amK(j:∀w,R w w)(r:∀a b c,R a b->R b c->R a c)(y:∀g w,St g w->∃t,stepG P false g w=.go t w #[mk (.releaseMerge (stA Wg))]) :
  ∀{m o i:Nat} {g:Goroutine} {w:World},Goes P false R DC0 (ay8 P R Wg o) m g w->Goes P false R (DWs Wg FF FF C n k) St i g w->Goes P false R DC0 St m g w:=by
 have p:∀{m o i:Nat} {g:Goroutine} {w:World},(∀d,R w d->ay8 P R Wg o g d)->Goes P false R (DWs Wg FF FF C n k) St i g w->Goes P false R DC0 St m g w:=λ{m o i g w} l f=>by
  refine qw λd q=> ?_;have f:=th r f q;cases i with
  |zero=>exact f d (j _)
  |succ i=>
   rcases f with f|⟨-,f⟩
   .exact f d (j _)
   .obtain⟨t,e,s⟩:=l d q;have:=f d (j _);rw[e,tp] at this;exact absurd this.2 (atn j y s)
 intro m
 induction m with
 |zero=>intro o i g w l f;exact p l f
 |succ m x=>
  intro o i g w l f;rcases l with l|⟨u,l⟩
  .exact p l f
  .cases i with
   |zero=>exact .inl f
   |succ i=>
    rcases f with f|⟨-,f⟩
    .exact .inl f
    .refine .inr ⟨u,λd q=> ?_⟩;obtain⟨t,z,A,e,hd,v⟩:=goes_elim (l d q);have:=f d q;rw[e,tp] at this ⊢;exact⟨hd,x v this.2⟩
end
section
variable [Payload] {P:Program} {L:WgLink} {Wg C n κ:Nat} {val:Nat->Value} {R S:aq} {c:Frame} {cs:List Frame} {qt:Nat}
def aqa(H:WgLib P L)(q:c.mode=.returning)(D:QuitsD P qt 0 (G c cs))(w:World)(v:WgLive L.tWg Wg w)(B:Has C (2*κ) (val (2*κ)) w)(o:Has C (2*κ+1) (val (2*κ+1)) w) :
  bE P false (jC L.tWg Wg C (2*n) R (dN κ)) (Gua Wg C (2*n) R (dN κ)) (ags P L.tWg Wg C n val κ) S (G ((baseD L.done).at ⟨#[.pointer (some ⟨Wg,0,none⟩),undef,undef,undef],[]⟩ [.code (body_done L)]) (c::cs)) w:=by
 have J:=doneN H (Own:=FF) (Rd:=FF) (Wg:=Wg) (C:=C) (n:=2*n) (Low:=0) (k:=2*κ+1) (val:=val (2*κ)) q D w ⟨v,B⟩;have K:=ap9 (Wg:=Wg) (R:=RW L.tWg Wg C (2*n) 0 (2*κ+1-1)) (c:=c) (cs:=cs) H (λ_ _ h r=>r.live h) w v;have E:=amK (St:=AtR0 P L.tWg Wg C (2*n) 0 (2*κ+1) (val (2*κ))) (λw=>⟨λ_ _ _ _=>rfl,id,id,rfl⟩) (λa b c x y=>⟨λb o u z=>(y.low b o u z).trans (x.low b o u z),y.live∘x.live,y.pay∘x.pay,y.cell.trans x.cell⟩)
  (λg w h=>let⟨_,_,s,e,_⟩:=h;⟨s,e⟩) K J
 have t:∀{m:Nat} {g:Goroutine} {w:World},Has C (2*κ+1) (val (2*κ+1)) w->Goes P false (RW L.tWg Wg C (2*n) 0 (2*κ+1-1)) DC0 (AtR0 P L.tWg Wg C (2*n) 0 (2*κ+1) (val (2*κ))) m g w->
   bE P false (jC L.tWg Wg C (2*n) R (dN κ)) (Gua Wg C (2*n) R (dN κ)) (ags P L.tWg Wg C n val κ) S g w:=by
  have j:∀{w d:World},jC L.tWg Wg C (2*n) R (dN κ) S w d->RW L.tWg Wg C (2*n) 0 (2*κ+1-1) w d:=λf=>jC.rw (i:=2*κ) f (by show 2*κ / 2=κ;omega);have l:∀{w d:World},Has C (2*κ+1) (val (2*κ+1)) w->jC L.tWg Wg C (2*n) R (dN κ) S w d->Has C (2*κ+1) (val (2*κ+1)) d:=λh f=>(f.cell (2*κ+1) (by show(2*κ+1) / 2=κ;omega)).trans h;intro m
  induction m with
  |zero=>intro g w p h;exact .stop λd f=>⟨h d (j f),l p f⟩
  |succ m M=>
   intro g w p h;rcases h with h|⟨F,h⟩
   .exact .stop λd f=>⟨h d (j f),l p f⟩
   .refine .step F λd f=> ?_;obtain⟨s,A,N,e,⟨rfl,rfl⟩,I⟩:=goes_elim (h d (j f));exact⟨s,A,#[],S,e,⟨λ_ _ _ _=>rfl,am _,rfl,id,λ_ _=>rfl,λ_ h=>h,λ_ h=>.inl h,by simp⟩,M (l p f) I⟩
 exact t o E
end
end
section
open Go Go.Conc Go.ConcN Go.RowKit
open Go.ConcR (KK wgBlock WgAt stA smA rd wr mk Payload DC0)
instance aEV:Payload:=⟨160⟩
structure Wx where
 w0:World
 Wg:Nat
 C:Nat
 n2:Nat
 κ:Nat
 R:aq
 Rg:Nat->Prop
 key:Int
 A:Option Addr
 n:Nat
 c:Nat
 l:List iw
 nm:Int
 bk:Nat
 bp:Nat
 bn:Nat
 ba:Nat
 bi:Nat
 tWg:TypeId
structure Wx.Ok (X:Wx):Prop where
 hN:gN<=X.w0.heap.size
 gl:∀g∈gL,X.Rg g
 gr:∀g∈gL,eD X.w0 g
 k1:1<=X.key
 k2:X.key<=99
 hl:X.l.length=X.n
 hc:X.n<=X.c
 hcm:(X.c:Int)<=9223372036854775807
 rd:RdP X.w0 X.A 0 X.l
 rgp:RgP X.Rg X.w0 X.A X.l
 al:∀a,X.A=some a->X.Rg a.block
 nm:In_ X.nm
 kn:X.κ<X.n2
 rows:∀b,X.Rg b->X.R b
 rk:X.R X.bk/\X.w0.cell? ⟨X.bk,0,none⟩=some (.int .i64 X.key)
 rp:X.R X.bp/\X.w0.cell? ⟨X.bp,0,none⟩=some (.slice X.A X.n X.c)
 rn:X.R X.bn/\X.w0.cell? ⟨X.bn,0,none⟩=some (.int .i64 X.nm)
 ra:X.R X.ba/\X.w0.cell? ⟨X.ba,0,none⟩=some (.slice (some ⟨X.C,0,none⟩) X.n2 X.n2)
 ri:X.R X.bi/\X.w0.cell? ⟨X.bi,0,none⟩=some (.int .i64 X.κ)
 rlt:∀b,X.R b->b<X.w0.heap.size
 rC:¬X.R X.C
 rW:¬X.R X.Wg
 cW:X.C≠X.Wg
abbrev Wx.Rl(X:Wx):aq->World->World->Prop:=jC X.tWg X.Wg X.C (2*X.n2) X.R (dN X.κ)
abbrev Wx.Gr(X:Wx):aq->aq->World->World->Array Event->Prop:=Gua X.Wg X.C (2*X.n2) X.R (dN X.κ)
def Wx.mS(X:Wx):pO X.Rl X.R:=⟨λS w=>jC.refl _ _ _ _,λ_ _ _ _=>jC.trans,λ_ _ _ h=>⟨h.keep,h.size,h.os⟩⟩
structure Wx.Inv (X:Wx) (S:aq) (w:World):Prop where
 r:∀b,X.R b->w.heap[b]?=X.w0.heap[b]?
 s:∀b,S b->¬X.R b/\b≠X.C/\b≠X.Wg
 c:X.C<w.heap.size
 wg:X.Wg<w.heap.size
 sz:X.w0.heap.size<=w.heap.size
 live:WgLive X.tWg X.Wg w
 pay:PayAt X.C (2*X.n2) w
 os:w.ou=X.w0.ou
section
variable {X:Wx} {S S':aq} {w w' w1:World} {es:Array Event}
def Wx.Inv.rely(h:X.Inv S w)(a:X.Rl S w w1):X.Inv S w1:=
 ⟨λb c=>(a.keep b (.inr c)).trans (h.r b c),h.s,aE h.c a.size,aE h.wg a.size,bd h.sz a.size,a.live h.live,a.pay h.pay,a.os.trans h.os⟩
def Wx.step(s:X.Ok)(h:X.Inv S w)(g:pN X.R S S' w w' es):X.Gr S S' w w' es/\X.Inv S' w':=by
 obtain⟨l,k,q,rfl,B⟩:=g;have m:w'.heap[X.C]?=w.heap[X.C]?:=l _ h.c λd=>(h.s _ d).2.1 rfl;have r:w'.heap[X.Wg]?=w.heap[X.Wg]?:=l _ h.wg λd=>(h.s _ d).2.2 rfl;refine⟨⟨λb c A _=>l b c A,k,q,λ⟨n,a,b⟩=>⟨n,m.trans a,b⟩,λi _=>uv m i,λb c=>.inl c,λb c=>c,λe E=> ?_⟩, ?_⟩
 .obtain⟨C,o,D⟩:=B e E;refine⟨λx v=>(C x v).elim .inl λy=>.inr (.inr y),λj=> ?_,λj=> ?_,λj=> ?_,D⟩
  .rcases o _ j with⟨f,e⟩|e<;>cases e
  .rcases o _ j with⟨f,e⟩|e<;>cases e
  .rcases o _ j with⟨f,e⟩|e<;>cases e
 .have p:∀b,X.R b->b<w.heap.size:=λb c=>aE (s.rlt b c) h.sz;refine⟨λb c=>(l b (p b c) λd=>(h.s b d).1 c).trans (h.r b c),λb c=> ?_,aE h.c k,aE h.wg k,bd h.sz k, ?_, ?_,q.trans h.os⟩
  .rcases c with c|⟨c,_⟩
   .exact h.s b c
   .refine⟨λu=> ?_,λe=> ?_,λe=> ?_⟩
    .have:=p b u;omega
    .have:=h.c;omega
    .have:=h.wg;omega
  .obtain⟨z,sm,t⟩:=h.live;exact⟨z,sm,r.trans t⟩
  .obtain⟨n,a,b⟩:=h.pay;exact⟨n,m.trans a,b⟩
def Wx.lift(c:X.Ok){Stop:aq->Goroutine->World->Prop}(h:bE prog false X.Rl (pN X.R) Stop S g w)(hi:X.Inv S w):bE prog false X.Rl X.Gr (λS g w=>Stop S g w/\X.Inv S w) S g w:=
 bE.inv (Rl:=X.Rl) (Gr:=pN X.R) (Gr2:=X.Gr) (Stop:=Stop) (Inv:=X.Inv) (λ_ _ _ a b=>a.rely b) (λ_ _ _ _ _ a b=>Wx.step c a b) (λ_ _ _ a b=>⟨a,b⟩) h hi
def Wx.Inv.cell(h:X.Inv S w)(a:X.R b)(c:X.w0.cell? ⟨b,i,none⟩=some v):w.cell? ⟨b,i,none⟩=some v:=(uv (h.r b a) i).trans c
end
end
end Go.Proofs.YtpbbcfocomejmaaGreatDoor