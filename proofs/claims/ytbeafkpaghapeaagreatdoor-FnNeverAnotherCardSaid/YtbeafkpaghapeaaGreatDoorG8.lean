/- A part of the proof. -/
import Derived.Test.YtbeafkpaghapeaaGreatDoorG7
import Derived.HandedShaped
import Derived.Carry
import Derived.Conc.Holds
import Derived.OpenVars
import Derived.LaidMore
import Derived.Lay
import Derived.SevenTiedAt
import Derived.Test.YtbeafkpaghapeaaGreatDoorTie
import Derived.Test.YtbeafkpaghapeaaGreatDoorCards
set_option maxRecDepth 100000
set_option maxHeartbeats 8000000
set_option linter.all false
open Go Go.Conc Go.ConcN Go.RowKit Go.Proofs.Tryz Go.Proofs.YtbeafkpaghapeaaGreatDoor
variable {s:dK} {Z C b fE hi hi' i k n:Nat} {ρ:Ren} {U:Type} {Y X W v:Value} {w w' w0:World} {Q:Nat→Bool} {z:Nat × Nat} {u:Option Nat} {S cs x y:Array Value} {A:Option Addr} {p:List MemPlace} {o:Option (List Nd)} {R:List (ByteArray × Bool)} {V:Int→List iD→Int→ByteArray × Bool}
namespace Go.Proofs.YtbeafkpaghapeaaGreatDoor
def sI:=@_root_.Bool.and_eq_false_iff
def tT:=@_root_.Array.getElem?_replicate
def uk:=@_root_.Go.RowKit.Below.alloc
def vu:=@_root_.Go.MakeChecks.laidMetH_plain
def vQ:=@_root_.Go.IntWalk.i64_in
def wd:=@_root_.List.mem_iff_getElem
def we:=@_root_.List.getElem?_append
def wn:=@_root_.Go.Claim7.new_of_sixth
section
variable {β:Bool}
open Go.RowKit
def af7:List ByteArray:=[⟨#[122,122]⟩,⟨#[98,46]⟩,⟨#[97,98,99,46]⟩,⟨#[104,101,108,108,111,46,46,46]⟩,⟨#[]⟩]
structure aoM (L:iX) (nc:Nat):Prop where
 k:0<=L.k/\L.k<=5
 n:0<=L.n/\L.n<=20
 nl:L.k=2\/L.k=4->L.n<=nc
 m:0<=L.m/\L.m<=3
 b:L.b∈af7
def auA(w:World)(lo hi g:Nat)(l:List Int)(p nc:Nat)(e:Ending)(w':World):Prop:=
 ∃L q,e=.returned (.agg (mR L))/\aoM L nc/\Rd w' lo hi g l q/\q<=p+10/\bq (λb=>b=g) w w'
def pE(w:World)(g:Nat)(a b c d:Value):bq (λx=>x=g) w ((((w.setCell ⟨g,0,none⟩ a).setCell ⟨g,1,none⟩ b).setCell ⟨g,2,none⟩ c).setCell ⟨g,3,none⟩ d):=(kK w g a b c).setCell (S:=λx=>x=g) (p:=⟨g,3,none⟩) (.inl rfl) d
def aoN(w:World)(g k:Nat)(a b c d e f h:Value):bq (λx=>x=g\/x=k) w (((((((w.setCell ⟨g,0,none⟩ a).setCell ⟨g,1,none⟩ b).setCell ⟨g,2,none⟩ c).setCell ⟨k,0,none⟩ d).setCell ⟨k,1,none⟩ e).setCell ⟨k,2,none⟩ f).setCell ⟨k,3,none⟩ h):=((kK w g a b c).mono λ_ _ h=>.inl h).trans (pE _ k d e f h) λi _ e=>.inr e
def alF(l:List Int)(g p lo hi:Nat)(w:World)(hr:Rd w lo hi g l p)(hp:p<=100000)(A B C:Option Addr)(na a nb b nc c:Nat)(b4:nc<=9) :
  Calls (ah β) 12 #[.pointer (some ⟨g,0,none⟩),.agg #[.slice A na a,.slice B nb b,.slice C nc c]] w (auA w lo hi g l p nc):=by
 have b7:=hr.lt;have b1:=hr.hi_;go_enter zN,ntmps12;go_wp2;generalize hG:(w.alloc (.cells #[.slice A na a,.slice B nb b,.slice C nc c] 27)).alloc (.cells #[.int .i64 0,.int .i64 0,.int .i64 0,.string ⟨#[]⟩] 29)=w0 at *;obtain⟨aL,iP,L,cZ,eK,E,dx,ed⟩:=oV hG;clear hG;have af:bq (λb=>b=g) w w0:=bq.aN aL;have a3:=hr.fc (bq.aN (S:=λ_=>False) aL) λ_ _ h=>h;clear cZ dx eK ed aL hr;refine(cV _ _ _ _ _ _ 5 a3 (by omega)).mono ?_;rintro e w1 ⟨m,rfl,⟨_,I⟩,ao,U⟩;have ba:=I (by omega);have al:=af.trans U λi _ e=>e;replace L:=aP L U (by omega);replace E:=aP E U (by omega);clear I U af a3;go_wp2;refine(cV _ _ _ _ _ _ 5 ao (by omega)).mono ?_;rintro e w2 ⟨K,rfl,⟨_,I⟩,a7,Q⟩;have b6:=I (by omega);have a9:=al.trans Q λi _ e=>e;replace L:=aP L Q (by omega);replace E:=aP E Q (by omega);clear I Q al ao;go_wp2;refine(cV _ _ _ _ _ _ 4 a7 (by omega)).mono ?_;rintro e W ⟨r,rfl,⟨_,I⟩,ad,T⟩;have b5:=I (by omega);have mn:=a9.trans T λi _ e=>e;replace L:=aP L T (by omega);replace E:=aP E T (by omega);clear I T a9 a7;go_wp2;have rl:dt (W.alloc (.cells #[.string ⟨#[122,122]⟩,.string ⟨#[98,46]⟩,.string ⟨#[97,98,99,46]⟩,.string ⟨#[104,101,108,108,111,46,46,46]⟩,.string ⟨#[]⟩] 9)) W.heap.size (W.alloc (.cells #[.string ⟨#[122,122]⟩,.string ⟨#[98,46]⟩,.string ⟨#[97,98,99,46]⟩,.string ⟨#[104,101,108,108,111,46,46,46]⟩,.string ⟨#[]⟩] 9)).heap.size [⟨#[122,122]⟩,⟨#[98,46]⟩,⟨#[97,98,99,46]⟩,⟨#[104,101,108,108,111,46,46,46]⟩,⟨#[]⟩] [.slice (some ⟨W.heap.size,0,none⟩) 5 5]:=
  (aK.deep (F:=ie) (abM (F:=ie) (bg.new W 9 #[.string ⟨#[122,122]⟩,.string ⟨#[98,46]⟩,.string ⟨#[97,98,99,46]⟩,.string ⟨#[104,101,108,108,111,46,46,46]⟩,.string ⟨#[]⟩]) rfl (am _) rfl (by simp[maxLen])) (nz (by decide)) W.heap.size).sl (am _)
 have a4:=(ad).alloc (.cells #[.string ⟨#[122,122]⟩,.string ⟨#[98,46]⟩,.string ⟨#[97,98,99,46]⟩,.string ⟨#[104,101,108,108,111,46,46,46]⟩,.string ⟨#[]⟩] 9);have D:=(mn).alloc (.cells #[.string ⟨#[122,122]⟩,.string ⟨#[98,46]⟩,.string ⟨#[97,98,99,46]⟩,.string ⟨#[104,101,108,108,111,46,46,46]⟩,.string ⟨#[]⟩] 9);have Z:=av (W) (.cells #[.string ⟨#[122,122]⟩,.string ⟨#[98,46]⟩,.string ⟨#[97,98,99,46]⟩,.string ⟨#[104,101,108,108,111,46,46,46]⟩,.string ⟨#[]⟩] 9);generalize (W).alloc (.cells #[.string ⟨#[122,122]⟩,.string ⟨#[98,46]⟩,.string ⟨#[97,98,99,46]⟩,.string ⟨#[104,101,108,108,111,46,46,46]⟩,.string ⟨#[]⟩] 9)=w5 at *;refine(agY _ (by simp) _ _ _ _ _ _ _ _ w5 a4 (by omega) rl).mono ?_;rintro e v5 ⟨y,a8,rfl,an,N⟩;replace D:=(D).trans N λi _ e=>e;clear rl;replace L:=aP (ak L Z) N (by omega);replace E:=aP (ak E Z) N (by omega);have z5:=D.size;clear Z N a4 ad mn;obtain⟨o,k⟩:∃o,o=v5.heap.size:=⟨_,rfl⟩;have ax:=av v5 (.cells #[.int .i64 m,.int .i64 (1+K),.int .i64 r,.string y] 29);have n:=bg.new v5 29 #[.int .i64 m,.int .i64 (1+K),.int .i64 r,.string y];have f:=D.alloc (.cells #[.int .i64 m,.int .i64 (1+K),.int .i64 r,.string y] 29);have j:=an.alloc (.cells #[.int .i64 m,.int .i64 (1+K),.int .i64 r,.string y] 29);have s:=ak L ax;have d:=ak E ax;have aa:=s.cell;have aG:w.heap.size+1<o:=by rw[k];exact E.lt
 have H:=ab (And.intro n (And.intro f (And.intro j (And.intro s d))));clear n f j s d ax L E an D;have b8:=Nat.le_of_lt_succ (Nat.lt_succ_of_lt aG);replace k:=ab k;by_cases V:m=2\/m=4
 case' pos=>
  rcases V with V|V
  all_goals
   first
    |have t1:(m ==2)=true:=nF.2 V
    |(have t1:(m ==2)=false:=de.2 (by omega);have t2:(m ==4)=true:=nF.2 V)
   clear V;go_wp2;rw[<-k.out];obtain⟨n,f,j,s,d⟩:=H.out;rw[<-k.out] at n;clear H aa k;revert d;revert n;revert j;revert f;clear s;generalize v5.alloc (.cells #[.int .i64 m,.int .i64 (1+K),.int .i64 r,.string y] 29)=w7;intro f j n d;refine(cV _ _ _ _ _ _ _ j (by omega)).mono ?_;rintro e w8 ⟨t,rfl,⟨_,I⟩,a5,R⟩;have b2:=I (by omega);have Y:=f.trans R λi _ e=>e;replace n:=aP n R (by omega);replace d:=aP d R (by omega);clear I R f j;have cl:=n.cell;have fl:=n.frozen;have z:=n.bF 1 (.int .i64 t);simp only[ef,ip,jt] at z;have z8:=Y.size;have q:=bV d (p:=⟨o,1,none⟩) (.int .i64 t) (by dsimp only;omega);have cg:=(bq.refl (λx=>x=o) w8).setCell (S:=λx=>x=o) (p:=⟨o,1,none⟩) (.inl rfl) (.int .i64 t);have a2:=Y.trans cg λi hi e=>by have e':i=o:=e;omega
   have a6:=a5.fc cg λb hb e=>by omega
   have H9:=ab (And.intro a2 (And.intro a6 (And.intro z q)));clear cg a2 a6 z q Y a5 d;go_wp2;obtain⟨f,j,z,d⟩:=H9.out;clear H9 cl fl n;revert d;revert z;revert j;revert f;generalize w8.setCell ⟨o,1,none⟩ (.int .i64 t)=w8';intro f j n d;have a1:((m:Int)=2\/(m:Int)=4)->t<=(nc:Int):=λ_=>by omega
   have X:0<=t/\t<=20:=by omega
 case' neg=>
  have t1:(m ==2)=false:=de.2 (by omega);have t2:(m ==4)=false:=de.2 (by omega);have aI:=ab V;clear V;go_wp2;rw[<-k.out];obtain⟨n,f,j,s,d⟩:=H.out;rw[<-k.out] at n;clear H aa t1 t2 k;revert d;revert n;revert j;revert f;clear s;generalize v5.alloc (.cells #[.int .i64 m,.int .i64 (1+K),.int .i64 r,.string y] 29)=w8';intro f j n d;have a1:(m=2\/m=4)->1+K<=(nc:Int):=λh=>absurd h aI.out;have X:0<=1+K/\1+K<=20:=by omega
  generalize 1+K=t at *
 all_goals
  have aY:=ab a1;clear a1;refine(cV _ _ _ _ _ _ 24 j (by omega)).mono ?_;rintro e w9 ⟨m9,rfl,⟨_,aX⟩,ay,O⟩;have fW:=(f).trans O λi _ e=>e;have J:=aP n O (by omega);have q:=aP d O (by omega);have z9:=fW.size;clear aX O;by_cases m0:m9=0
  .have t9:(m9 ==0)=true:=nF.2 m0;clear m0;have G:=J.bF 0 (.int .i64 5);simp only[ef,ip,jt] at G;have u:=bV q (p:=⟨o,0,none⟩) (.int .i64 5) (by dsimp only;omega);have M:=fW.trans (((bq.refl (λx=>x=o) w9).setCell (S:=λx=>x=o) (p:=⟨o,0,none⟩) (.inl rfl) (.int .i64 5))) λi hi e=>by have e':i=o:=e;omega
   have P:=ay.fc (((bq.refl (λx=>x=o) w9).setCell (S:=λx=>x=o) (p:=⟨o,0,none⟩) (.inl rfl) (.int .i64 5))) λb hb e=>by omega
   have aT:=J.cell;have bf:=J.frozen;have b0:=G.cell;have aZ:=u.frozen;have bb:=u.cell;have H:=ab (And.intro G (And.intro u (And.intro M P)));clear G u M P J q;go_wp2;obtain⟨G,u,M,P⟩:=H.out;have k4:=(((u.bF 0 (.int .i64 5)).bF 1 (.int .i64 (t))).bF 2 (.int .i64 r)).bF 3 (.string y);simp only[ef,ip,jt] at k4;have a0:=k4.cell;refine pa (v:=.agg #[.int .i64 5,.int .i64 (t),.int .i64 r,.string y]) (by simp[results,results12,go_sem,a0]) rfl ⟨⟨5,t,r,y⟩,_,rfl,⟨⟨show(0:Int)<=5 by omega,show(5:Int)<=5 by omega⟩,X,(λh=>by have h:(5:Int)=2\/(5:Int)=4:=h;omega),by show 0<=r/\r<=3;omega,a8⟩,P.fc (pE _ _ _ _ _ _) λb hb e=>by omega,by omega,M.trans (pE _ _ _ _ _ _) λi hi e=>by omega⟩
  .have t9:(m9 ==0)=false:=de.2 m0;clear m0;have aT:=J.cell;have b9:=q.frozen;have b3:=q.cell;go_wp2;have k4:=(((q.bF 0 (.int .i64 (m))).bF 1 (.int .i64 (t))).bF 2 (.int .i64 r)).bF 3 (.string y);simp only[ef,ip,jt] at k4;have a0:=k4.cell;refine pa (v:=.agg #[.int .i64 (m),.int .i64 (t),.int .i64 r,.string y]) (by simp[results,results12,go_sem,a0]) rfl ⟨⟨m,t,r,y⟩,_,rfl,⟨by show 0<=(m:Int)/\(m:Int)<=5;omega,X,(λh=>aY.out (by first|exact h|simp)),by show 0<=r/\r<=3;omega,a8⟩,ay.fc (pE _ _ _ _ _ _) λb hb e=>by omega,by omega,fW.trans (pE _ _ _ _ _ _) λi hi e=>by omega⟩
def auC(w:World)(e:Ending)(w':World):Prop:=
 ∃c b a s L,e=.returned (.tuple #[.agg #[c,b,a],.agg (mR L)])/\eM w' w.heap.size w'.heap.size s c b a/\iB s/\aoM L s.lg.length/\Below w.heap.size w w'
def adB(A:Option Addr)(n c:Nat)(l:List Int)(w:World)(h:bE jC 1 w 0 w.heap.size l [.slice A n c]) :
  Calls (ah β) 4 #[.slice A n c] w (auC w):=by
 go_enter qF4,ntmps4;go_wp2;generalize hG:(w.alloc (.cells #[.slice none 0 0,.slice none 0 0,.slice none 0 0] 27)).alloc (.cells #[.int .i64 0,.int .i64 0,.int .i64 0,.string ⟨#[]⟩] 29)=w0 at *;obtain⟨I,iP,P,V,W,O,X,U⟩:=oV hG;refine(aqa l A n c w0 0 w.heap.size (amB jC.loc h I (am _)) I.size).mono ?_;rintro e w1 ⟨g,rfl,hr,hg,t⟩;have af:=hr.lt;replace P:=ak P t;replace V:=P.cell;replace W:=P.frozen;replace O:=ak O t;replace X:=O.cell;replace U:=O.frozen;replace I:=ag I t;go_wp2;refine(ahs _ g 0 _ _ w1 hr (by omega)).mono ?_;rintro e T ⟨va,vb,vc,s,q,rfl,os,J,a1,hq,o⟩;obtain⟨⟨u,E,rfl⟩,⟨z,B,rfl⟩,D,C,rfl⟩:=os.form;have m:=aP P o (by omega);have f:=aP O o (by omega);have z2:=o.size;have z0:=t.size;have a6:Below w.heap.size w T:=I.trans (o.below I.size λi hi e=>by have e':i=g:=e;omega);have Z:=ab J;have a2:=J.wf.ll;have ax:=av T (.cells #[.slice u s.pk.length E,.slice z s.sn.length B,.slice D s.lg.length C] 27);have km:=(bg.new T 27 #[.slice u s.pk.length E,.slice z s.sn.length B,.slice D s.lg.length C]).cell;go_wp2;generalize hG:T.alloc (.cells #[.slice u s.pk.length E,.slice z s.sn.length B,.slice D s.lg.length C] 27)=w3 at *;obtain⟨Q,a9,m0,mC,ay⟩:=mL hG;replace m:=ak m Q;replace aI:=m.cell;replace an:=m.frozen;replace f:=ak f Q;replace ao:=f.cell;replace aG:=f.frozen;have a0:=os.below Q (am _);have a5:=a1.fc (bq.aN (S:=λ_=>False) Q) λ_ _ h=>h;have R:=ag a6 Q;have al:=aaQ (s:=3) (ty:=69) (S:=λb=>b=g) (pre:=[]) (mC 0) (by dsimp only;omega);have ad:=aaQ (s:=3) (ty:=69) (S:=λb=>b=g) (pre:=[]) (mC 1) (by dsimp only;omega);have aa:=aaQ (s:=3) (ty:=69) (S:=λb=>b=g) (pre:=[]) (mC 2) (by dsimp only;omega);refine akl 3 69 (λb=>b=g) [] 4 [0,1,2] [3] (by kernel_rfl) (by kernel_rfl) (by kernel_rfl) ?_;simp only[pick,List.map,ge,gn];repeat(go_big_quiet_step (fail))
 refine gt ?_;apply Exists.intro;apply awN (λv x=>x.done=true/\∃L,v=.agg (mR L)/\aoM L s.lg.length)
 .rfl
 .rfl
 .exact λj hj=>(by cases hj)
 .exact λv x y h a8=>⟨(a8.from_ h.1).1,h.2⟩
 .intro x _ N Qx G;replace G:=ab G;have a3:=x.till N;go_wp2;refine(alF _ g q _ _ x.to (a5.fc (bq.aN (S:=λ_=>False) a3) λ_ _ h=>h) (by omega) u z D _ E _ B _ C a2).mono ?_;rintro e wy ⟨L,q2,rfl,K,_,_,a4⟩;go_wp2;exact G.out _ _ (a4.mono λb hb e=>.inl e) ⟨rfl,L,rfl,K⟩
 intro aL;refine awO λx hF=> ?_;simp only[dP] at hF;obtain⟨⟨N,L,rfl,K⟩, -⟩:=hF;have d:bq (λb=>b=g) w3 x.to:=x.ok.mono λb _ h=>h.2;have F:=a0.fc d λb h1 h2=>⟨by omega,by omega⟩;have k:=aP m d (by omega);have a:=aP f d (by omega);have r:Below w.heap.size w x.to:=R.trans (d.below R.size λi hi e=>by have e':i=g:=e;omega);have W:=k.frozen;have U:=a.frozen;have V:=k.cell;have X:=a.cell;have zx:=d.size;simp only[List.drop];have H:=ab (And.intro F (And.intro k (And.intro a (And.intro r K))));revert H V X W U zx;generalize x.to=w4;intro W U V X zx H;go_wp2;obtain⟨F,k,a,r,K⟩:=H.out;have zk:=a.lt;have Y:=bV (bV (bV a (p:=⟨w.heap.size,0,none⟩) (.slice u s.pk.length E) (by dsimp only;omega)) (p:=⟨w.heap.size,1,none⟩) (.slice z s.sn.length B) (by dsimp only;omega)) (p:=⟨w.heap.size,2,none⟩) (.slice D s.lg.length C) (by dsimp only;omega);have k4:=(((Y.bF 0 (.int .i64 L.k)).bF 1 (.int .i64 L.n)).bF 2 (.int .i64 L.m)).bF 3 (.string L.b);simp only[ef,ip,jt] at k4;have a7:=((k.bF 0 (.slice u s.pk.length E)).bF 1 (.slice z s.sn.length B)).bF 2 (.slice D s.lg.length C);have M:=bV (bV (bV (bV a7 (p:=⟨w.heap.size+1,0,none⟩) (.int .i64 L.k) (by dsimp only;omega)) (p:=⟨w.heap.size+1,1,none⟩) (.int .i64 L.n) (by dsimp only;omega)) (p:=⟨w.heap.size+1,2,none⟩) (.int .i64 L.m) (by dsimp only;omega)) (p:=⟨w.heap.size+1,3,none⟩) (.string L.b) (by dsimp only;omega);simp only[ef,ip,jt] at M;have c4:=k4.cell;have c5:=M.cell;have h7:=aoN w4 w.heap.size (w.heap.size+1) (.slice u s.pk.length E) (.slice z s.sn.length B) (.slice D s.lg.length C) (.int .i64 L.k) (.int .i64 L.n) (.int .i64 L.m) (.string L.b);have z7:=ap (show T.heap.size<=w4.heap.size by omega) h7.size;refine pa (v:=.tuple #[.agg #[.slice u s.pk.length E,.slice z s.sn.length B,.slice D s.lg.length C],.agg (mR L)]) (by simp[results,results4,go_sem,c4,c5,mR]) rfl ⟨_,_,_,s,L,rfl,(F.fc h7 λb h1 h2=>⟨by omega,by omega⟩).wide (by omega) z7,Z.out,K,r.trans (h7.below r.size λi hi e=>by have e':i=w.heap.size\/i=w.heap.size+1:=e;omega)⟩
end
section
variable {β:Bool}
open Go.RowKit
structure SmS (s:dK):Prop where
 pl:s.pk.length<=20
 pn:∀p∈s.pk,p.its.length<=4/\∀x∈p.its,x.b.size<=8
 sl:s.sn.length<=9
 sn:∀x∈s.sn,x.all.length<=6/\∀y∈x.all,y.p.size<=3/\y.ns.length<=40
 ll:s.lg.length<=9
def WfS.sm(h:WfS s):SmS s:=⟨h.pl,λp a=>(h.pn p a).2,by have:=h.sl;have:=h.ll;omega,λx b=>(h.sn x b).2,h.ll⟩
def SmS.aul(h:SmS s):jV s<=10000:=by
 have e:dX bPk s.pk<=s.pk.length*(36+1):=iY λp b=>by
  have c:dX bIt p.its<=p.its.length*(8+1):=iY λx a=>(h.pn p b).2 x a;have:=(h.pn p b).1;show dX bIt p.its<=36;omega
 have f:dX bSn s.sn<=s.sn.length*(264+1):=iY λx a=>by
  have c:dX bLs x.all<=x.all.length*(43+1):=iY λy d=>by
   have:=(h.sn x a).2 y d;show y.p.size+y.ns.length<=43;omega
  have:=(h.sn x a).1;show dX bLs x.all<=264;omega
 have:=h.pl;have:=h.sl;have:=h.ll;unfold jV;omega
def aoP{l:List U}{f:U->U}{y:U}(h:y∈se l i f):y∈l\/∃x,l[i]?=some x/\y=f x:=by
 unfold se at h;split at h
 .rename_i x a;rcases sP h with h|h
  .exact .inl h
  .exact .inr ⟨x,a,h⟩
 .exact .inl h
def SmS.lie(h:SmS s){l:iX}(j:l.b.size<=8):SmS (dF s l):=by
 by_cases g:l.k=1
 .rw[aa3 g];exact⟨ap (rQ _ _) h.pl,λp b=>h.pn p ((sG.1 b).1),h.sl,h.sn,h.ll⟩
 by_cases f:l.k=2
 .by_cases c:0<=l.n/\l.n<=s.lg.length
  .rw[nK f c];exact⟨h.pl,h.pn,ap (rQ _ _) h.sl,λx a=>h.sn x ((sG.1 a).1),ap (by rw[fa];omega) h.ll⟩
  .rw[lU f c];exact h
 by_cases i:l.k=3
 .rw[aa4 i];refine⟨by rw[qc];exact h.pl,λp b=> ?_,h.sl,h.sn,h.ll⟩;obtain⟨q,k,rfl⟩:=ql.1 b;have e:=h.pn q k;unfold fA;split
  .refine⟨by show(se q.its _ _).length<=4;rw[mQ];exact e.1,λx a=> ?_⟩;rcases aoP a with a|⟨y,m,rfl⟩
   .exact e.2 x a
   .exact j
  .exact e
 by_cases d:l.k=4
 .by_cases c:0<=l.n/\l.n<s.lg.length
  .rw[aa5 d c];exact⟨h.pl,h.pn,h.sl,h.sn,by show(se s.lg _ _).length<=9;rw[mQ];exact h.ll⟩
  .rw[lV d c];exact h
 rw[aa6 g f i d];exact h
def aoM.bs{L:iX}(h:aoM L Z):L.b.size<=8:=by
 have:=h.b;unfold af7 at this;simp only[oE,rz,tQ] at this;rcases this with e|e|e|e|e<;>rw[e]<;>decide
end
section
open Go.RowKit
def aht(x:Sn)(b:Value)(a:Int)(g:Nat)(w:World)(c:w.cell? ⟨g,0,none⟩=some (.int .i64 a)) :
  Calls (ah true) 22 #[.agg #[.int .i64 x.no,b],.pointer (some ⟨g,0,none⟩)] w λe j=>e=.returned (.bool (x.no ==a))/\Below w.heap.size w j:=by
 have d:=av w (.cells #[.int .i64 x.no,b] 39);have k:(w.alloc (.cells #[.int .i64 x.no,b] 39)).cell? ⟨g,0,none⟩=some (.int .i64 a):=(qp (d.block g (eG c))).trans c;have f:=eG c;have i:(x.no ==a)=decide (x.no=a):=rfl;rw[i];go_enter xP,ntmps22;go_wp2;go_ret;exact⟨by rfl,d⟩
def auD:abQ (β:=true) 22:=aez xP (by kernel_rfl) rfl
def alG{xs:List Sn}{c : Nat}(h:gQ w Z hi xs [.slice A n c]){x:Sn}(i:xs[k]?=some x) :
  ∃b a A' d,A=some ⟨b,a,none⟩/\Z<=b/\b<hi/\bZ x.no/\w.cell? ⟨b,a+k*2,none⟩=some (.int .i64 x.no)/\w.cell? ⟨b,a+k*2+1,none⟩=some (.slice A' x.all.length d)/\fP w Z hi x.all [.slice A' x.all.length d]:=by
 obtain⟨b,a,m,rfl,j,g,l,⟨v,rfl,f,hi⟩,e⟩:=h.at_ i;obtain⟨A',d,rfl⟩:=hi.form;exact⟨b,a,A',d,rfl,j,g,f,by simpa using e 0 _ rfl,e 1 _ rfl,hi⟩
def arJ(xs:List Sn)(f:Int)(A:Option Addr)(c g:Nat)(w:World)(J hi:Nat)(h:gQ w J hi xs [.slice A xs.length c])(I:hi<=w.heap.size)(z:w.cell? ⟨g,0,none⟩=some (.int .i64 f)) :
  Calls (ah true) 21 #[.slice A xs.length c,.func (.func 22) #[] #[.pointer (some ⟨g,0,none⟩)]] w λe v=>∃j:Int,e=.returned (.int .i64 j)/\((∃(k:Nat) (y:Sn),j=k/\k<xs.length/\xs[k]?=some y/\xs.find? (λx=>x.no ==f)=some y)\/(j=-1/\xs.find? (λx=>x.no ==f)=none))/\Below w.heap.size w v:=by
 obtain⟨_,N,G⟩:=h.len_;unfold maxLen at G;have u:=eG z;go_enter xQ,ntmps21;go_wp2;go_loopw [8] (λi wr=>∃k:Nat,k<=xs.length/\i=.int .i64 k/\xs.find? (λx=>x.no ==f)=(xs.drop k).find? (λx=>x.no ==f)/\Below w.heap.size w wr) (λi _=>xs.length-(intOf i).toNat)
 case atStart=>exact⟨0,fb _,rfl,rfl,fd _ _⟩
 case round=>
  obtain⟨k,L,rfl,a,q⟩:=hrel;replace a:=ab a;have s:wr.cell? ⟨g,0,none⟩=some (.int .i64 f):=(qp (q.block g u)).trans z;by_cases n:k<xs.length
  .obtain⟨x,o⟩:=aq n;obtain⟨b,F,B,d,rfl,_,_,H,C,K,O⟩:=alG (gQ.loc.below h q I) o;have l:xs.drop k=x::xs.drop (k+1):=by
    obtain⟨E,D⟩:=qm.1 o;rw[rR E,D]
   replace o:=ab o;replace l:=ab l;have M:=auD (#[.agg #[.int .i64 x.no,.slice B x.all.length d]]++#[.pointer (some ⟨g,0,none⟩)]) wr;go_wp2;refine(aht x _ f g wr s).mono ?_;rintro e v ⟨rfl,m⟩;replace m:=ag q m;cases p:(x.no ==f)
   .have t:xs.find? (λx=>x.no ==f)=(xs.drop (k+1)).find? (λx=>x.no ==f):=by rw[a.out,l.out,rT,p]
    have r:=ab t;go_wp2;go_roundw
    case rel=>exact⟨k+1,by omega,by go_num,r.out,m⟩
    simp[intOf];omega
   .have t:xs.find? (λx=>x.no ==f)=some x:=by rw[a.out,l.out,rT,p]
    have r:=ab t;go_wp2;go_ret;exact⟨k,rfl,.inl ⟨k,x,rfl,n,o.out,r.out⟩,m⟩
  .obtain rfl:k=xs.length:=by omega
   go_wp2;go_ret;exact⟨-1,rfl,.inr ⟨rfl,by rw[a.out,uv];rfl⟩,q⟩
def iV.akd{l:List Pk}(h:iV w Z hi l [v]):∀p∈acN l,bZ p.1:=λp a=>by
 obtain⟨A,c,rfl⟩:=bE.form h;obtain⟨q,d,rfl⟩:=ql.1 a;obtain⟨i,hi⟩:=rx.1 d;obtain⟨_,_,_,_,_,_,_,⟨_,_,b,_⟩,_⟩:=bE.at_ h hi;exact b
def adi(s:dK)(hs:SmS s)(J:∀p∈s.pk,1<=p.its.length)(f:Int)(va vb vc:Value)(Z hi:Nat)(w:World)(hg:Glo w)(Q:hi<=w.heap.size)(h:iW w Z hi s va vb vc) :
  Calls (ah true) 8 #[.int .i64 7,.agg #[va,vb,vc],.int .i64 f] w (pD (eu 7 s f) w):=by
 obtain⟨G,H,h3⟩:=h;obtain⟨A,a,rfl⟩:=bE.form G;obtain⟨B,b,rfl⟩:=bE.form H;have gZ:∀p∈acN s.pk,1<=p.2.length/\bZ p.1:=λp hp=>⟨by
  obtain⟨q,hq,rfl⟩:=ql.1 hp;have:=J q hq;unfold pkd;simpa using this,G.akd p hp⟩
 obtain⟨-,ha,O⟩:=bE.len_ G;obtain⟨-,hb,a2⟩:=bE.len_ H;have HM:=ab O;have X:=ab gZ;have HS:=ab hs;have g:eu 7 s f=match s.sn.find? (λx=>x.no ==f) with
  |some x=>ku 7 (acN s.pk) x.all
  |none=>none:=rfl
 replace g:=ab g;clear gZ hs J O;unfold maxLen at a2;go_enter qF8,ntmps8;go_wp2;generalize hG:(w.alloc (.cells #[.slice A s.pk.length a,.slice B s.sn.length b,vc] 27)).alloc (.cells #[.int .i64 f] 3)=w0 at *;obtain⟨P,iP,S,Y,eK,k1,dx,ed⟩:=oV hG;clear hG;have F:w0.cell? ⟨w.heap.size+1,0,none⟩=some (.int .i64 f):=dx 0;have N:=iV.loc.below G P Q;have E:=gQ.loc.below H P Q;have a6:=P.size;refine(arJ s.sn f B b _ w0 Z hi E (by omega) F).mono ?_;rintro e w1 ⟨j,rfl,hj,b1⟩;have i:=ag P b1;rcases hj with⟨k,y,rfl,a5,cG,m⟩|⟨rfl,m⟩
 .obtain⟨bb,a8,C,d,rfl,_,_,a9,U,a3,T⟩:=alG (gQ.loc.below H i Q) cG;have K:=HS.out.sn y (db cG);have l:eu 7 s f=ku 7 (acN s.pk) y.all:=by rw[g.out,m]
  have t:=ab l;have a1:=ab K;have H1:=ab (iV.loc.below G i Q);replace T:=ab T;clear l m cG K N E G H F g;replace S:=ak S b1;replace Y:=S.cell;replace eK:=S.frozen;have f0:=Y 0;have f1:=Y 1;have a7:=i.size;have V:=hg.below i;go_wp2;have aG:=ae f0;have aI:=ae f1;have aZ:=ae U;have cY:=ae a3;refine aF 11 [0,1,2,3,4,5,6,7] [8,9,10] (h:= ?_);simp only[pick,List.map,ge,gn];repeat(go_big_quiet_step (fail))
  refine gt ?_;clear aG aI aZ cY;apply Exists.intro;apply aU (λv w'=>∃u,v=.tuple #[u,.bool (eu 7 s f).isSome]/\aK mv 67 w' w.heap.size u ((eu 7 s f).getD [])/\∀y∈(eu 7 s f).getD [],mv.good y)
  .rfl
  .exact λv x y ⟨u,e,ho,hgd⟩ hle=>⟨u,e,ho.below hle,hgd⟩
  .intro z o Qx c;replace c:=ab c;clear o;have M:=V.below z.ok;have a4:=z.ok.size;have mB:=(iV.loc.below H1.out z.ok (by omega)).pkl (by omega);have r:=fP.loc.below T.out z.ok (by omega);have L:=a1.out;have D:(acN s.pk).length=s.pk.length:=qc _;have R:=alC (acN s.pk) A a y _ Z hi z.to M (by omega) mB (by rw[D];exact ha) HM.out X.out r (λq hq=>by have:=(L.2 q hq).2;omega) (by omega);rw[D] at R;replace R:=ab R;clear mB r L M D;go_wp2;refine R.out.mono ?_;rintro e w5 ⟨u,rfl,I,n,b5⟩;go_wp2;rw[<-t.out] at I n ⊢;exact c.out _ _ b5 ⟨_,rfl,I.base (by omega),n⟩
  intro v8;apply aU (λv w'=>aK mv 67 w' w.heap.size v ((eu 7 s f).getD [])/\∀y∈(eu 7 s f).getD [],mv.good y)
  .rfl
  .exact λv x y ⟨ho,hgd⟩ hle=>⟨ho.below hle,hgd⟩
  .intro z o Qx c;replace c:=ab c;obtain⟨u,rfl,I,n⟩:=o.1 (by kernel_rfl);go_wp2;exact c.out _ _ (fd _ _) ⟨I,n⟩
  intro v9;apply dQ (.bool (eu 7 s f).isSome)
  .intro z o Qx c;replace c:=ab c;obtain⟨u,rfl,I,n⟩:=o.2.1 (by kernel_rfl);go_wp2;exact c.out _ (fd _ _)
  refine aS ?_;intro w6 gW xx cT o;dsimp only[dP] at o;try rw[cT] at o
  clear cT xx;obtain⟨⟨o9,a0⟩, -⟩:=o;simp only[List.drop];have W:=ag i gW;go_wp2;go_ret2;exact⟨_,rfl,o9,a0,W⟩
 .have l:eu 7 s f=none:=by rw[g.out,m]
  have t:=ab l;clear l m N E G H F g;go_wp2;go_ret2;exact pD.no t.out i
def aji{a b:ByteArray}(h:(a.toList ==b.toList)=true):a=b:=by
 have h:=eq_of_beq h;rw[qK,qK] at h;obtain⟨⟨x⟩⟩:=a;obtain⟨⟨y⟩⟩:=b;have h:x=y:=h;rw[h]
def aAr{x y:Nd}(f:(x.p.toList ==y.p.toList)=true)(e:(x.b.toList ==y.b.toList)=true):x=y:=by
 have a:=aji f;have d:=aji e;obtain⟨p,b⟩:=x;obtain⟨q,c⟩:=y;dsimp only at a d;rw[a,d]
def av2{x y:Nd}(h:(x.p.toList ==y.p.toList)=false\/(x.b.toList ==y.b.toList)=false):x≠y:=by
 rintro rfl;rcases h with h|h<;>simp at h
def arK(xs s:List Nd)(Q S:Value)(w:World)(V hi L M:Nat)(E:eD w V hi xs [Q])(N:eD w L M s [S])(G:hi<=w.heap.size)(H:M<=w.heap.size)(q:Bool)(f:q=true↔xs=s) :
  Calls (ah true) 9 #[Q,S] w λe U=>e=.returned (.bool q)/\Below w.heap.size w U:=by
 have C:=ab f;clear f;obtain⟨A,c,rfl⟩:=E.form;obtain⟨B,d,rfl⟩:=N.form;obtain⟨_,hc,X⟩:=E.len_;unfold maxLen at X;go_enter qF9,ntmps9;by_cases g:xs.length=s.length
 .go_wp2;go_loopw [5] (λi wr=>∃k:Nat,k<=xs.length/\i=.int .i64 k/\xs.take k=s.take k/\Below w.heap.size w wr) (λi _=>xs.length-(intOf i).toNat)
  case atStart=>exact⟨0,fb _,rfl,rfl,fd _ _⟩
  case round=>
   obtain⟨k,Z,rfl,b,p⟩:=hrel;replace b:=ab b;by_cases D:k<xs.length
   .obtain⟨x,o⟩:=aq D;obtain⟨y,r⟩:=aq (l:=s) (k:=k) (by omega);obtain⟨Y,W,rfl,_,_,_,I,J⟩:=jJ (eD.ar.below E p G) o;obtain⟨b2,iE,rfl,_,_,_,K,F⟩:=jJ (eD.ar.below N p H) r;replace o:=ab o;replace r:=ab r;go_wp2;cases T:(x.p.toList ==y.p.toList)
    .have a:q=false:=by
      rw[<-lP,C.out];intro e;have:some x=some y:=by rw[<-o.out,<-r.out,e]
      exact av2 (.inl T) (dk this)
     have m:=ab a;clear a;have v:=ae I;have u:=ae J;have z:=ae K;have t:=ae F;refine aM (by kernel_rfl) (by kernel_rfl) ?_;repeat(go_big_quiet_step (fail))
     refine gt ?_;intro O j;have f:=bm j;clear j v u z t;go_wp2;go_ret;exact⟨aB m.out.symm,ag p f⟩
    .cases R:(x.b.toList ==y.b.toList)
     .have a:q=false:=by
       rw[<-lP,C.out];intro e;have:some x=some y:=by rw[<-o.out,<-r.out,e]
       exact av2 (.inr R) (dk this)
      have m:=ab a;clear a;have v:=ae I;have u:=ae J;have z:=ae K;have t:=ae F;refine aM (by kernel_rfl) (by kernel_rfl) ?_;repeat(go_big_quiet_step (fail))
      refine gt ?_;intro O j;have f:=bm j;clear j v u z t;go_wp2;go_ret;exact⟨aB m.out.symm,ag p f⟩
     .have P:=aAr T R;have n:xs.take (k+1)=s.take (k+1):=by rw[li o.out,li r.out,b.out,P]
      replace n:=ab n;clear P;have v:=ae I;have u:=ae J;have z:=ae K;have t:=ae F;refine aM (by kernel_rfl) (by kernel_rfl) ?_;repeat(go_big_quiet_step (fail))
      refine gt ?_;intro O j;have f:=bm j;clear j v u z t;go_wp2;go_roundw
      case rel=>exact⟨k+1,by omega,by go_num,n.out,ag p f⟩
      simp[intOf];omega
   .obtain rfl:k=xs.length:=by omega
    have a:q=true:=C.out.2 (by
     have:=b.out;rw[gc,g,gc] at this;exact this)
    have m:=ab a;clear a;go_wp2;go_ret;exact⟨aB m.out.symm,p⟩
 .have a:q=false:=by
   rw[<-lP,C.out];rintro rfl;exact g rfl
  have m:=ab a;clear a;go_wp2;go_ret;exact⟨aB m.out.symm,fd _ _⟩
def alH(o:Option (List Nd))(base:Nat)(v:Value)(w:World):Prop:=∃u,v=.tuple #[u,.bool o.isSome]/\aK mv 67 w base u (o.getD [])/\∀y∈o.getD [],mv.good y
def ahu(o:Option (List Nd))(base:Nat)(v:Value)(w:World):Prop:=aK mv 67 w base v (o.getD [])/\∀y∈o.getD [],mv.good y
def alH.below{base:Nat}{x y:World}(h:alH o base v x)(c:Below x.heap.size x y):alH o base v y:=by
 obtain⟨u,e,b,a⟩:=h;exact⟨u,e,b.below c,a⟩
def ahu.below{base:Nat}{x y:World}(h:ahu o base v x)(a:Below x.heap.size x y):ahu o base v y:=⟨h.1.below a,h.2⟩
def ahu.nds{base:Nat}(h:ahu o base v w):eD w base w.heap.size (o.getD []) [v]:=gM.sl (aK.deep h.1 h.2 base) (am _)
def auE(h:∀p∈s.pk,1<=p.its.length)(L:iX):∀p∈(dF s L).pk,1<=p.its.length:=by
 have same:(dF s L).pk=s.pk->∀p∈(dF s L).pk,1<=p.its.length:=λe=>by rw[e];exact h
 by_cases f:L.k=1
 .rw[aa3 f];exact λp b=>h p (sG.1 b).1
 by_cases c:L.k=2
 .by_cases a:0<=L.n/\L.n<=s.lg.length
  .exact same (by rw[nK c a])
  .exact same (by rw[lU c a])
 by_cases g:L.k=3
 .rw[aa4 g];intro p b;obtain⟨q,i,rfl⟩:=ql.1 b;have:=h q i;unfold fA;split
  .show 1<=(se q.its L.m.toNat _).length;rw[mQ];exact this
  .exact this
 by_cases d:L.k=4
 .by_cases a:0<=L.n/\L.n<s.lg.length
  .exact same (by rw[aa5 d a])
  .exact same (by rw[lV d a])
 exact same (by rw[aa6 f c g d])
end
section
variable {β:Bool}
open Go.RowKit
def aAs(x:Hd):Prop:=(1<=x.b/\x.b<=2)/\1<=x.s/\x.s<=20
end
section
open Go.RowKit
def ahv{z:Int}(a:0<=z)(b:z<3):wrap64 z=z:=by unfold wrap64;omega
def auF{x:Hd}(h:aAs x):(ko x).b=3-x.b/\(ko x).s=x.s:=by
 have:=h.1;exact⟨ahv (by omega) (by omega),rfl⟩
def alI(x:U)(l:List U)(f:U->U):se (x::l) 0 f=f x::l:=rfl
def alJ(x:U)(l:List U)(n:Nat)(f:U->U):se (x::l) (n+1) f=x::se l n f:=by
 unfold se;simp only[List.getElem?_cons_succ];cases l[n]?<;>rfl
end
section
variable {β:Bool}
open Go.RowKit
def af8(xs o:List Hd)(K M:Value)(w:World)(lo hi fE hi':Nat)(D:fG w lo hi xs [K])(I:fG w fE hi' o [M])(E:hi<=w.heap.size)(F:hi'<=w.heap.size)(b:Bool)(s:b=true↔xs=o) :
  Calls (ah β) 15 #[K,M] w λe Q=>e=.returned (.bool b)/\Below w.heap.size w Q:=by
 replace s:=ab s;obtain⟨A,c,rfl⟩:=D.form;obtain⟨B,d,rfl⟩:=I.form;obtain⟨_,hc,Y⟩:=D.len_;unfold maxLen at Y;go_enter zK,ntmps15;by_cases a:xs.length=o.length
 .have W:((xs.length:Int) !=o.length)=false:=by rw[qD];omega
  replace a:=ab a;go_wp2;go_loopw [5] (λi wr=>∃k:Nat,k<=xs.length/\i=.int .i64 k/\xs.take k=o.take k/\Below w.heap.size w wr) (λi _=>xs.length-(intOf i).toNat)
  case atStart=>exact⟨0,fb _,rfl,rfl,fd _ _⟩
  case round=>
   obtain⟨k,hk,rfl,u,j⟩:=hrel;replace u:=ab u;by_cases C:k<xs.length
   .obtain⟨x,p⟩:=aq C;obtain⟨y,r⟩:=aq (l:=o) (k:=k) (by have:=a.out;omega);obtain⟨H,t,X,rfl,_,G,_,⟨rfl,S⟩,f⟩:=(fG.loc.below D j E).at_ p;have R:wr.cell? ⟨H,t+k*2,none⟩=some (.int .i64 x.b):=by simpa using f 0 _ rfl
    have a0:wr.cell? ⟨H,t+k*2+1,none⟩=some (.int .i64 x.s):=by simpa using f 1 _ rfl
    clear f;obtain⟨N,L,X,rfl,_,G,_,⟨rfl,T⟩,f⟩:=(fG.loc.below I j F).at_ r;have Z:wr.cell? ⟨N,L+k*2,none⟩=some (.int .i64 y.b):=by simpa using f 0 _ rfl
    have U:wr.cell? ⟨N,L+k*2+1,none⟩=some (.int .i64 y.s):=by simpa using f 1 _ rfl
    clear f;have V:(k:Int)<(o.length:Int):=by have:=a.out;omega
    replace p:=ab p;replace r:=ab r;by_cases g:x.b=y.b
    .have O:(x.b ==y.b)=true:=nF.2 g;by_cases m:x.s=y.s
     .have P:(x.s ==y.s)=true:=nF.2 m;have z:x=y:=by cases x;cases y;simp only[Hd.mk.injEq];exact⟨g,m⟩
      replace z:=ab z;clear g m;go_wp2
      go_quiet (fail)
      have v:=tq j nq;go_wp2;go_roundw
      case rel=>first|exact⟨k+1,by omega,by go_num,by rw[li p.out,li r.out,u.out,z.out],v⟩|((repeat apply Exists.intro);refine⟨?_,rfl⟩;exact⟨k+1,by omega,by go_num,by rw[li p.out,li r.out,u.out,z.out],v⟩)
      simp[intOf];omega
     .have P:(x.s ==y.s)=false:=de.2 m;have n:b=false:=by
       rw[<-lP,s.out];rintro rfl;exact m (jn Hd.s (dk (p.out.symm.trans r.out)))
      have q:=ab n;clear n;clear g m;go_wp2
      go_quiet (fail)
      go_wp2;go_ret;exact⟨aB q.out.symm,tq j _⟩
    .have O:(x.b ==y.b)=false:=de.2 g;have n:b=false:=by
      rw[<-lP,s.out];rintro rfl;exact g (jn Hd.b (dk (p.out.symm.trans r.out)))
     have q:=ab n;clear n;clear g;go_wp2
     go_quiet (fail)
     go_wp2;go_ret;exact⟨aB q.out.symm,tq j _⟩
   .obtain rfl:k=xs.length:=by omega
    have J:b=true:=by
     rw[s.out];have:=u.out
     rwa [gc,pm (by have:=a.out;omega)] at this
    have q:=ab J;clear J;go_wp2;go_ret;exact⟨aB q.out.symm,j⟩
 .have W:((xs.length:Int) !=o.length)=true:=by rw[rF];omega
  have n:b=false:=by
   rw[<-lP,s.out];rintro rfl;exact a rfl
  have q:=ab n;clear n;replace a:=ab a;go_wp2;go_ret;exact⟨aB q.out.symm,fd _ _⟩
def ae2(x y:Pk)(L M:Value)(w:World)(lo hi G O:Nat)(I:iU w lo hi x.its [L])(J:iU w G O y.its [M])(aX:hi<=w.heap.size)(U:O<=w.heap.size)(b:Bool)(r:b=true↔x=y) :
  Calls (ah β) 16 #[.agg #[.int .i64 x.no,L],.agg #[.int .i64 y.no,M]] w λe w'=>e=.returned (.bool b)/\Below w.heap.size w w':=by
 replace r:=ab r;obtain⟨A,c,rfl⟩:=bE.form I;obtain⟨A2,W,rfl⟩:=bE.form J;obtain⟨_,hc,hx⟩:=bE.len_ I;unfold maxLen at hx;go_enter zJ,ntmps16;by_cases o:x.no=y.no
 .have V:(x.no !=y.no)=false:=by rw[qD];exact o
  replace o:=ab o;by_cases a:x.its.length=y.its.length
  .have Z:((x.its.length:Int) !=y.its.length)=false:=by rw[qD];omega
   replace a:=ab a;go_wp2;generalize N:(w.alloc (.cells #[.int .i64 x.no,.slice A x.its.length c] 54)).alloc (.cells #[.int .i64 y.no,.slice A2 y.its.length W] 54)=w0 at *;obtain⟨T,iP,E,cZ,eK,D,dx,ed⟩:=oV N;clear N;go_loopw [5] (λi wr=>∃k:Nat,k<=x.its.length/\i=.int .i64 k/\x.its.take k=y.its.take k/\Below w0.heap.size w0 wr) (λi _=>x.its.length-(intOf i).toNat)
   case atStart=>exact⟨0,fb _,rfl,rfl,fd _ _⟩
   case round=>
    obtain⟨k,hk,rfl,v,n⟩:=hrel;replace v:=ab v;replace E:=ak E n;replace cZ:=E.cell;replace eK:=E.frozen;replace D:=ak D n;replace dx:=D.cell;replace ed:=D.frozen;have u:=ag T n;by_cases H:k<x.its.length
    .obtain⟨p,s⟩:=aq H;obtain⟨q,t⟩:=aq (l:=y.its) (k:=k) (by have:=a.out;omega);obtain⟨P,z,es,rfl,_,F,_,⟨rfl,a1⟩,f⟩:=(iU.loc.below I u aX).at_ s;have S:wr.cell? ⟨P,z+k*2,none⟩=some (.int .i64 p.n):=by simpa using f 0 _ rfl
     have a3:wr.cell? ⟨P,z+k*2+1,none⟩=some (.string p.b):=by simpa using f 1 _ rfl
     clear f;obtain⟨R,Q,es,rfl,_,F,_,⟨rfl,a2⟩,f⟩:=(iU.loc.below J u U).at_ t;have a0:wr.cell? ⟨R,Q+k*2,none⟩=some (.int .i64 q.n):=by simpa using f 0 _ rfl
     have X:wr.cell? ⟨R,Q+k*2+1,none⟩=some (.string q.b):=by simpa using f 1 _ rfl
     clear f;have Y:(k:Int)<(y.its.length:Int):=by have:=a.out;omega
     replace s:=ab s;replace t:=ab t;by_cases d:p.n=q.n
     .have t2:(p.n ==q.n)=true:=nF.2 d;by_cases g:p.b=q.b
      .have t3:(p.b.toList ==q.b.toList)=true:=by rw[g,nF]
       have C:p=q:=by cases p;cases q;simp only[It.mk.injEq];exact⟨d,g⟩
       replace C:=ab C;clear d g;go_wp2
       go_quiet (fail)
       have B:=tq n nq;go_wp2;go_roundw
       case rel=>first|exact⟨k+1,by omega,by go_num,by rw[li s.out,li t.out,v.out,C.out],B⟩|((repeat apply Exists.intro);refine⟨?_,rfl⟩;exact⟨k+1,by omega,by go_num,by rw[li s.out,li t.out,v.out,C.out],B⟩)
       simp[intOf];omega
      .have t3:(p.b.toList ==q.b.toList)=false:=aaL g;have j:b=false:=by
        rw[<-lP,r.out];rintro rfl;exact g (jn It.b (dk (s.out.symm.trans t.out)))
       have m:=ab j;clear j;clear d g;go_wp2
       go_quiet (fail)
       go_wp2;go_ret;exact⟨aB m.out.symm,tq u _⟩
     .have t2:(p.n ==q.n)=false:=de.2 d;have j:b=false:=by
       rw[<-lP,r.out];rintro rfl;exact d (jn It.n (dk (s.out.symm.trans t.out)))
      have m:=ab j;clear j;clear d;go_wp2
      go_quiet (fail)
      go_wp2;go_ret;exact⟨aB m.out.symm,tq u _⟩
    .obtain rfl:k=x.its.length:=by omega
     have K:b=true:=by
      rw[r.out];have:=v.out;rw[gc,pm (by have:=a.out;omega)] at this;have:=o.out;cases x;cases y;simp only[Pk.mk.injEq];exact⟨by assumption,by assumption⟩
     have m:=ab K;clear K;go_wp2;go_ret;exact⟨aB m.out.symm,u⟩
  .have Z:((x.its.length:Int) !=y.its.length)=true:=by rw[rF];omega
   have j:b=false:=by
    rw[<-lP,r.out];rintro rfl;exact a rfl
   have m:=ab j;clear j;replace a:=ab a;go_wp2;go_ret;exact⟨aB m.out.symm,by repeat(first|exact fd _ _|refine uk ?_ (by simp) _)⟩
 .have V:(x.no !=y.no)=true:=by rw[rF];exact o
  have j:b=false:=by
   rw[<-lP,r.out];rintro rfl;exact o rfl
  have m:=ab j;clear j;clear o;go_wp2;go_ret;exact⟨aB m.out.symm,by repeat(first|exact fd _ _|refine uk ?_ (by simp) _)⟩
def ajj(xs a:List Int)(d c:Value)(w:World)(i hi fE hi':Nat)(k:bE aab 1 w i hi xs [d])(j:bE aab 1 w fE hi' a [c])(b:Bool)(g:b=true↔xs=a) :
  Calls (ah β) 46 #[d,c] w λe f=>e=.returned (.bool b)/\Below w.heap.size w f:=by
 refine(akn xs a d c w i hi fE hi' k j).mono ?_;rintro e f ⟨rfl,n,rfl⟩;refine⟨aB ?_,tq (fd _ _) _⟩;cases b
 .rw[sY,<-g];simp
 .rw[decide_eq_true_iff,<-g]
def ae3(x y:Sn)(v1 Q:Value)(w:World)(lo hi Y ji:Nat)(h1:fP w lo hi x.all [v1])(h2:fP w Y ji y.all [Q])(X:hi<=w.heap.size)(V:ji<=w.heap.size)(b:Bool)(B:b=true↔x=y) :
  Calls (ah β) 17 #[.agg #[.int .i64 x.no,v1],.agg #[.int .i64 y.no,Q]] w λe w'=>e=.returned (.bool b)/\Below w.heap.size w w':=by
 replace B:=ab B;obtain⟨A,c,rfl⟩:=bE.form h1;obtain⟨A2,c2,rfl⟩:=bE.form h2;obtain⟨_,hc,hx⟩:=bE.len_ h1;unfold maxLen at hx;go_enter zI,ntmps17;by_cases v:x.no=y.no
 .have t0:(x.no !=y.no)=false:=by rw[qD];exact v
  replace v:=ab v;by_cases a:x.all.length=y.all.length
  .have t1:((x.all.length:Int) !=y.all.length)=false:=by rw[qD];omega
   replace a:=ab a;go_wp2;generalize hG:(w.alloc (.cells #[.int .i64 x.no,.slice A x.all.length c] 39)).alloc (.cells #[.int .i64 y.no,.slice A2 y.all.length c2] 39)=w0 at *;obtain⟨aL,iP,S,cZ,eK,R,dx,ed⟩:=oV hG;clear hG;go_loopw [5] (λi wr=>∃k:Nat,k<=x.all.length/\i=.int .i64 k/\x.all.take k=y.all.take k/\Below w0.heap.size w0 wr) (λi _=>x.all.length-(intOf i).toNat)
   case atStart=>exact⟨0,fb _,rfl,rfl,fd _ _⟩
   case round=>
    obtain⟨k,hk,rfl,J,j⟩:=hrel;replace J:=ab J;replace S:=ak S j;replace cZ:=S.cell;replace eK:=S.frozen;replace R:=ak R j;replace dx:=R.cell;replace ed:=R.frozen;have t:=ag aL j;by_cases Z:k<x.all.length
    .obtain⟨p,cL⟩:=aq Z;obtain⟨q,cG⟩:=aq (l:=y.all) (k:=k) (by have:=a.out;omega);obtain⟨b1,L,es,rfl,_,W,_,⟨Q,rfl,a1,n⟩,g⟩:=(fP.loc.below h1 t X).at_ cL;obtain⟨A3,c3,rfl⟩:=bE.form n;have z:wr.cell? ⟨b1,L+k*2,none⟩=some (.string p.p):=by simpa using g 0 _ rfl
     have E:wr.cell? ⟨b1,L+k*2+1,none⟩=some (.slice A3 p.ns.length c3):=by simpa using g 1 _ rfl
     clear g;obtain⟨b2,iE,es,rfl,_,W,_,⟨Q,rfl,a2,m⟩,g⟩:=(fP.loc.below h2 t V).at_ cG;obtain⟨A4,c4,rfl⟩:=bE.form m;have D:wr.cell? ⟨b2,iE+k*2,none⟩=some (.string q.p):=by simpa using g 0 _ rfl
     have C:wr.cell? ⟨b2,iE+k*2+1,none⟩=some (.slice A4 q.ns.length c4):=by simpa using g 1 _ rfl
     clear g;have a0:(k:Int)<(y.all.length:Int):=by have:=a.out;omega
     have T:=ab cL;have P:=ab cG;replace n:=ab n;replace m:=ab m;have r:=ab t.size;clear cL cG;have f0:=cZ 1;have g0:=dx 1;by_cases d:p.p=q.p
     .have t2:(p.p.toList ==q.p.toList)=true:=by rw[d,nF]
      have U:(p.p.toList !=q.p.toList)=false:=by rw[d,qD]
      by_cases f:p.ns=q.ns
      .have O:p=q:=by cases p;cases q;simp only[Ls.mk.injEq];exact⟨d,f⟩
       replace O:=ab O;replace f:=ab f;clear d;go_wp2;have I:=ae z;have H:=ae E;have M:=ae D;have K:=ae C;have G:=ae f0;have N:=ae g0;refine aM (by kernel_rfl) (by kernel_rfl) ?_;repeat(go_big_quiet_step (first|(go_at_call 46;refine dI (ajj p.ns q.ns _ _ _ _ _ _ _ (nG.loc.below n.out (eR.ok _) (ap X r.out)) (nG.loc.below m.out (eR.ok _) (ap V r.out)) true ?_);(simp only[tp];exact f.out))))
       refine gt ?_;intro wq u;have F:=bm u;clear u I H M K G N;go_wp2;go_roundw
       case rel=>first|exact⟨k+1,by omega,by go_num,by rw[li T.out,li P.out,J.out,O.out],j.trans (F.mono j.size)⟩|((repeat apply Exists.intro);refine⟨?_,rfl⟩;exact⟨k+1,by omega,by go_num,by rw[li T.out,li P.out,J.out,O.out],j.trans (F.mono j.size)⟩)
       simp[intOf];omega
      .have o:b=false:=by
        rw[<-lP,B.out];rintro rfl;exact f (jn Ls.ns (dk (T.out.symm.trans P.out)))
       have s:=ab o;clear o;replace f:=ab f;clear d;go_wp2;have I:=ae z;have H:=ae E;have M:=ae D;have K:=ae C;have G:=ae f0;have N:=ae g0;refine aM (by kernel_rfl) (by kernel_rfl) ?_;repeat(go_big_quiet_step (first|(go_at_call 46;refine dI (ajj p.ns q.ns _ _ _ _ _ _ _ (nG.loc.below n.out (eR.ok _) (ap X r.out)) (nG.loc.below m.out (eR.ok _) (ap V r.out)) false ?_);(simp only[kw,uz];exact f.out))))
       refine gt ?_;intro wq u;have F:=bm u;clear u I H M K G N;go_wp2;go_ret;exact⟨aB s.out.symm,t.trans (F.mono t.size)⟩
     .have t2:(p.p.toList ==q.p.toList)=false:=aaL d;have U:(p.p.toList !=q.p.toList)=true:=by rw[bne,aaL d];rfl
      have o:b=false:=by
       rw[<-lP,B.out];rintro rfl;exact d (jn Ls.p (dk (T.out.symm.trans P.out)))
      have s:=ab o;clear o;clear d;go_wp2;have I:=ae z;have H:=ae E;have M:=ae D;have K:=ae C;have G:=ae f0;have N:=ae g0;refine aM (by kernel_rfl) (by kernel_rfl) ?_;repeat(go_big_quiet_step (fail))
      refine gt ?_;intro wq u;have F:=bm u;clear u I H M K G N;go_wp2;go_ret;exact⟨aB s.out.symm,t.trans (F.mono t.size)⟩
    .obtain rfl:k=x.all.length:=by omega
     have ht:b=true:=by
      rw[B.out];have:=J.out;rw[gc,pm (by have:=a.out;omega)] at this;have:=v.out;cases x;cases y;simp only[Sn.mk.injEq];exact⟨by assumption,by assumption⟩
     have s:=ab ht;clear ht;go_wp2;go_ret;exact⟨aB s.out.symm,t⟩
  .have t1:((x.all.length:Int) !=y.all.length)=true:=by rw[rF];omega
   have o:b=false:=by
    rw[<-lP,B.out];rintro rfl;exact a rfl
   have s:=ab o;clear o;replace a:=ab a;go_wp2;go_ret;exact⟨aB s.out.symm,by repeat(first|exact fd _ _|refine uk ?_ (by simp) _)⟩
 .have t0:(x.no !=y.no)=true:=by rw[rF];exact v
  have o:b=false:=by
   rw[<-lP,B.out];rintro rfl;exact v rfl
  have s:=ab o;clear o;clear v;go_wp2;go_ret;exact⟨aB s.out.symm,by repeat(first|exact fd _ _|refine uk ?_ (by simp) _)⟩
def ajk(s t:dK)(va vb vc vd ve vf:Value)(w:World)(lo hi X ji:Nat)(hs:iW w lo hi s va vb vc)(ht:iW w X ji t vd ve vf)(y:hi<=w.heap.size)(x:ji<=w.heap.size)(b:Bool)(Q:b=true↔s=t) :
  Calls (ah β) 6 #[.agg #[va,vb,vc],.agg #[vd,ve,vf]] w λe w'=>e=.returned (.bool b)/\Below w.heap.size w w':=by
 replace Q:=ab Q;obtain⟨h1,h2,h3⟩:=hs;obtain⟨A,a,rfl⟩:=bE.form h1;obtain⟨B,bb,rfl⟩:=bE.form h2;obtain⟨C,c,rfl⟩:=bE.form h3;obtain⟨g1,g2,g3⟩:=ht;obtain⟨A2,a2,rfl⟩:=bE.form g1;obtain⟨B2,b2,rfl⟩:=bE.form g2;obtain⟨C2,c2,rfl⟩:=bE.form g3;obtain⟨_,hc,hx⟩:=bE.len_ h1;obtain⟨_,a6,a1⟩:=bE.len_ h2;unfold maxLen at hx a1;go_enter qF6,ntmps6;by_cases v:s.pk.length=t.pk.length
 .have t1:((s.pk.length:Int) !=t.pk.length)=false:=by rw[qD];omega
  replace v:=ab v;by_cases r:s.sn.length=t.sn.length
  .have t2:((s.sn.length:Int) !=t.sn.length)=false:=by rw[qD];omega
   replace r:=ab r;go_wp2;generalize hG:(w.alloc (.cells #[.slice A s.pk.length a,.slice B s.sn.length bb,.slice C s.lg.length c] 27)).alloc (.cells #[.slice A2 t.pk.length a2,.slice B2 t.sn.length b2,.slice C2 t.lg.length c2] 27)=w0 at *;obtain⟨o,iP,G,cZ,eK,E,dx,ed⟩:=oV hG;clear hG;by_cases R:s.lg=t.lg
   .replace R:=ab R;refine(af8 s.lg t.lg _ _ _ lo hi X ji (fG.loc.below h3 o y) (fG.loc.below g3 o x) (ap y o.size) (ap x o.size) true (by simp only[tp];exact R.out)).mono ?_;rintro e w1 ⟨rfl,F⟩;replace G:=ak G F;replace cZ:=G.cell;replace eK:=G.frozen;replace E:=ak E F;replace dx:=E.cell;replace ed:=E.frozen;replace o:=ag o F;clear F;go_wp2;go_loopw [5] (λi wr=>∃k:Nat,k<=s.pk.length/\i=.int .i64 k/\s.pk.take k=t.pk.take k/\Below w1.heap.size w1 wr) (λi _=>s.pk.length-(intOf i).toNat)
    case atStart=>exact⟨0,fb _,rfl,rfl,fd _ _⟩
    case round=>
     obtain⟨k,hk,rfl,D,f⟩:=hrel;replace D:=ab D;replace G:=ak G f;replace cZ:=G.cell;replace eK:=G.frozen;replace E:=ak E f;replace dx:=E.cell;replace ed:=E.frozen;have u:=ag o f;by_cases K:k<s.pk.length
     .obtain⟨p,Z⟩:=aq K;obtain⟨q,cG⟩:=aq (l:=t.pk) (k:=k) (by have:=v.out;omega);obtain⟨F,N,es,rfl,_,U,_,⟨v2,rfl,a4,m⟩,g⟩:=(iV.loc.below h1 u y).at_ Z;obtain⟨A3,c3,rfl⟩:=bE.form m;have H:wr.cell? ⟨F,N+k*2,none⟩=some (.int .i64 p.no):=by simpa using g 0 _ rfl
      have O:wr.cell? ⟨F,N+k*2+1,none⟩=some (.slice A3 p.its.length c3):=by simpa using g 1 _ rfl
      clear g;obtain⟨b2,iE,es,rfl,_,U,_,⟨v2,rfl,a5,j⟩,g⟩:=(iV.loc.below g1 u x).at_ cG;obtain⟨A4,c4,rfl⟩:=bE.form j;have J:wr.cell? ⟨b2,iE+k*2,none⟩=some (.int .i64 q.no):=by simpa using g 0 _ rfl
      have I:wr.cell? ⟨b2,iE+k*2+1,none⟩=some (.slice A4 q.its.length c4):=by simpa using g 1 _ rfl
      clear g;have a3:(k:Int)<(t.pk.length:Int):=by have:=v.out;omega
      have HX:=ab Z;have W:=ab cG;replace m:=ab m;replace j:=ab j;have d:=ab u.size;clear Z cG;have f0:=cZ 0;have g0:=dx 0;by_cases n:p=q
      .replace n:=ab n;go_wp2;have V:=ae H;have T:=ae O;have aZ:=ae J;have cY:=ae I;have S:=ae f0;have ly:=ae g0;refine aM (by kernel_rfl) (by kernel_rfl) ?_;repeat(go_big_quiet_step (first|(go_at_call 16;refine dI (ae2 p q _ _ _ _ _ _ _ (iU.loc.below m.out (eR.ok _) (ap y d.out)) (iU.loc.below j.out (eR.ok _) (ap x d.out)) (ap y (ap d.out (eR.ok _).size)) (ap x (ap d.out (eR.ok _).size)) true ?_);(simp only[tp];exact n.out))))
       refine gt ?_;intro wq M;have P:=bm M;clear M V T aZ cY S ly;go_wp2;go_roundw
       case rel=>first|exact⟨k+1,by omega,by go_num,by rw[li HX.out,li W.out,D.out,n.out],f.trans (P.mono f.size)⟩|((repeat apply Exists.intro);refine⟨?_,rfl⟩;exact⟨k+1,by omega,by go_num,by rw[li HX.out,li W.out,D.out,n.out],f.trans (P.mono f.size)⟩)
       simp[intOf];omega
      .have z:b=false:=by
        rw[<-lP,Q.out];rintro rfl;exact n (dk (HX.out.symm.trans W.out))
       have L:=ab z;clear z;replace n:=ab n;go_wp2;have V:=ae H;have T:=ae O;have aZ:=ae J;have cY:=ae I;have S:=ae f0;have ly:=ae g0;refine aM (by kernel_rfl) (by kernel_rfl) ?_;repeat(go_big_quiet_step (first|(go_at_call 16;refine dI (ae2 p q _ _ _ _ _ _ _ (iU.loc.below m.out (eR.ok _) (ap y d.out)) (iU.loc.below j.out (eR.ok _) (ap x d.out)) (ap y (ap d.out (eR.ok _).size)) (ap x (ap d.out (eR.ok _).size)) false ?_);(simp only[kw,uz];exact n.out))))
       refine gt ?_;intro wq M;have P:=bm M;clear M V T aZ cY S ly;go_wp2;go_ret;exact⟨aB L.out.symm,u.trans (P.mono u.size)⟩
     .obtain rfl:k=s.pk.length:=by omega
      have a0:s.pk=t.pk:=by
       have:=D.out
       rwa [gc,pm (by have:=v.out;omega)] at this
      replace a0:=ab a0;clear D K hk;replace o:=u;clear u f;go_wp2;go_loopw [6] (λi wy=>∃k:Nat,k<=s.sn.length/\i=.int .i64 k/\s.sn.take k=t.sn.take k/\Below wr.heap.size wr wy) (λi _=>s.sn.length-(intOf i).toNat)
      case atStart=>exact⟨0,fb _,rfl,rfl,fd _ _⟩
      case round=>
       obtain⟨k,hk,rfl,D,f⟩:=hrel;replace D:=ab D;replace G:=ak G f;replace cZ:=G.cell;replace eK:=G.frozen;replace E:=ak E f;replace dx:=E.cell;replace ed:=E.frozen;have u:=ag o f;by_cases K:k<s.sn.length
       .obtain⟨p,Z⟩:=aq K;obtain⟨q,cG⟩:=aq (l:=t.sn) (k:=k) (by have:=r.out;omega);obtain⟨F,N,es,rfl,_,U,_,⟨v2,rfl,a4,m⟩,g⟩:=(gQ.loc.below h2 u y).at_ Z;obtain⟨A3,c3,rfl⟩:=bE.form m;have H:wr.cell? ⟨F,N+k*2,none⟩=some (.int .i64 p.no):=by simpa using g 0 _ rfl
        have O:wr.cell? ⟨F,N+k*2+1,none⟩=some (.slice A3 p.all.length c3):=by simpa using g 1 _ rfl
        clear g;obtain⟨b2,iE,es,rfl,_,U,_,⟨v2,rfl,a5,j⟩,g⟩:=(gQ.loc.below g2 u x).at_ cG;obtain⟨A4,c4,rfl⟩:=bE.form j;have J:wr.cell? ⟨b2,iE+k*2,none⟩=some (.int .i64 q.no):=by simpa using g 0 _ rfl
        have I:wr.cell? ⟨b2,iE+k*2+1,none⟩=some (.slice A4 q.all.length c4):=by simpa using g 1 _ rfl
        clear g;have a3:(k:Int)<(t.sn.length:Int):=by have:=r.out;omega
        have HX:=ab Z;have W:=ab cG;replace m:=ab m;replace j:=ab j;have d:=ab u.size;clear Z cG;have f0:=cZ 1;have g0:=dx 1;by_cases n:p=q
        .replace n:=ab n;go_wp2;have V:=ae H;have T:=ae O;have aZ:=ae J;have cY:=ae I;have S:=ae f0;have ly:=ae g0;refine aM (by kernel_rfl) (by kernel_rfl) ?_;repeat(go_big_quiet_step (first|(go_at_call 17;refine dI (ae3 p q _ _ _ _ _ _ _ (fP.loc.below m.out (eR.ok _) (ap y d.out)) (fP.loc.below j.out (eR.ok _) (ap x d.out)) (ap y (ap d.out (eR.ok _).size)) (ap x (ap d.out (eR.ok _).size)) true ?_);(simp only[tp];exact n.out))))
         refine gt ?_;intro wq M;have P:=bm M;clear M V T aZ cY S ly;go_wp2;go_roundw
         case rel=>first|exact⟨k+1,by omega,by go_num,by rw[li HX.out,li W.out,D.out,n.out],f.trans (P.mono f.size)⟩|((repeat apply Exists.intro);refine⟨?_,rfl⟩;exact⟨k+1,by omega,by go_num,by rw[li HX.out,li W.out,D.out,n.out],f.trans (P.mono f.size)⟩)
         simp[intOf];omega
        .have z:b=false:=by
          rw[<-lP,Q.out];rintro rfl;exact n (dk (HX.out.symm.trans W.out))
         have L:=ab z;clear z;replace n:=ab n;go_wp2;have V:=ae H;have T:=ae O;have aZ:=ae J;have cY:=ae I;have S:=ae f0;have ly:=ae g0;refine aM (by kernel_rfl) (by kernel_rfl) ?_;repeat(go_big_quiet_step (first|(go_at_call 17;refine dI (ae3 p q _ _ _ _ _ _ _ (fP.loc.below m.out (eR.ok _) (ap y d.out)) (fP.loc.below j.out (eR.ok _) (ap x d.out)) (ap y (ap d.out (eR.ok _).size)) (ap x (ap d.out (eR.ok _).size)) false ?_);(simp only[kw,uz];exact n.out))))
         refine gt ?_;intro wq M;have P:=bm M;clear M V T aZ cY S ly;go_wp2;go_ret;exact⟨aB L.out.symm,u.trans (P.mono u.size)⟩
       .obtain rfl:k=s.sn.length:=by omega
        have Y:s.sn=t.sn:=by
         have:=D.out
         rwa [gc,pm (by have:=r.out;omega)] at this
        replace Y:=ab Y;clear D K hk;replace o:=u;clear u f;have ht:b=true:=by
         rw[Q.out];have h1:=a0.out;have h2:=Y.out;have h3:=R.out;cases s;cases t;simp only[dK.mk.injEq];exact⟨h1,h2,h3⟩
        have L:=ab ht;clear ht;go_wp2;go_ret;exact⟨aB L.out.symm,o⟩
   .replace R:=ab R;refine(af8 s.lg t.lg _ _ _ lo hi X ji (fG.loc.below h3 o y) (fG.loc.below g3 o x) (ap y o.size) (ap x o.size) false (by simp only[kw,uz];exact R.out)).mono ?_;rintro e w1 ⟨rfl,F⟩;have z:b=false:=by
     rw[<-lP,Q.out];rintro rfl;exact R.out rfl
    have L:=ab z;clear z;go_wp2;go_ret;exact⟨aB L.out.symm,ag o F⟩
  .have t2:((s.sn.length:Int) !=t.sn.length)=true:=by rw[rF];omega
   have z:b=false:=by
    rw[<-lP,Q.out];rintro rfl;exact r rfl
   have L:=ab z;clear z;clear r;go_wp2;go_ret;exact⟨aB L.out.symm,by repeat(first|exact fd _ _|refine uk ?_ (by simp) _)⟩
 .have t1:((s.pk.length:Int) !=t.pk.length)=true:=by rw[rF];omega
  have z:b=false:=by
   rw[<-lP,Q.out];rintro rfl;exact v rfl
  have L:=ab z;clear z;clear v;go_wp2;go_ret;exact⟨aB L.out.symm,by repeat(first|exact fd _ _|refine uk ?_ (by simp) _)⟩
end
section
variable {β:Bool}
open Go.RowKit
def bD.T{xs:List Pk}{cs:List Value}(h:bD w Z hi xs cs):eB 54 ki 2 w Z hi xs cs:=aQ.slT ki.ar.loc (λh=>h) h
def bQ.T{xs:List Sn}{cs:List Value}(h:bQ w Z hi xs cs):eB 39 lI 2 w Z hi xs cs:=aQ.slT lI.ar.loc (λh=>h) h
def dy.T{xs:List Hd}{cs:List Value}(h:dy w Z hi xs cs):eB 62 (bP og) 2 w Z hi xs cs:=aQ.slT (bP.ar og).loc (λh=>h) h
def jW.T{xs:List Hd}{cs:List Value}(h:jW w Z hi xs cs):eB 62 (bP og) 2 w Z hi xs cs:=by
 refine⟨jW.l h,λj b k n c e=> ?_⟩;obtain⟨A,o,rfl,a,p,r,d,f⟩:=h;obtain⟨g,i,rfl,m,q,l,s⟩:=f j;simp only[qf,nf,mt,qz,qu] at e;obtain⟨⟨rfl, -⟩, -, -⟩:=e;exact⟨i,l⟩
abbrev tPk:dC (eB 54 ki 2) [54,60]:=eB.ar ki.ar
abbrev tSn:dC (eB 39 lI 2) [39,89,3]:=eB.ar lI.ar
abbrev tHd:dC (eB 62 (bP og) 2) [62]:=eB.ar (bP.ar og)
structure kH (w:World) (lo hi:Nat) (s:dK) (va vb vc:Value):Prop where
 pk:eB 54 ki 2 w lo hi s.pk [va]
 sn:eB 39 lI 2 w lo hi s.sn [vb]
 lg:eB 62 (bP og) 2 w lo hi s.lg [vc]
abbrev aCB:List TypeId:=[54,60,39,89,3,62]
def Typed.more{T U:List TypeId}(h:Typed w T b)(d:∀t∈T,t∈U):Typed w U b:=by
 obtain⟨t,c,a⟩:=h;exact⟨t,d t c,a⟩
def kH.typed(h:kH w Z hi s Y X W)(g:∀b,Z<=b->b<hi->Typed w aCB b->w'.heap[b]?=w.heap[b]?)(f:fE<=Z)(e:hi<=hi'):kH w' fE hi' s Y X W:=
 ⟨tPk.go (λb a c d=>g b a c (d.more (by decide))) f e h.pk,tSn.go (λb a c d=>g b a c (d.more (by decide))) f e h.sn,tHd.go (λb a c d=>g b a c (d.more (by decide))) f e h.lg⟩
def kH.go(h:kH w Z hi s Y X W)(f:∀b,Z<=b->b<hi->w'.heap[b]?=w.heap[b]?)(d:fE<=Z)(c:hi<=hi'):kH w' fE hi' s Y X W:=h.typed (λb a e _=>f b a e) d c
def kH.below{B : Nat}(h:kH w Z hi s Y X W)(a:Below B w w')(d:hi<=B):kH w' Z hi s Y X W:=h.go (λb _ c=>a.block b (by omega)) (am _) (am _)
def kH.wide(h:kH w Z hi s Y X W)(b:fE<=Z)(a:hi<=hi'):kH w fE hi' s Y X W:=h.go (λ_ _ _=>rfl) b a
def kH.l(h:kH w Z hi s Y X W):iW w Z hi s Y X W:=⟨bE.azA ki.l h.pk.1,bE.azA lI.l h.sn.1,h.lg.1⟩
def kH.form(h:kH w Z hi s Y X W):∃A a B b C c,Y=.slice A s.pk.length a/\X=.slice B s.sn.length b/\W=.slice C s.lg.length c:=by
 obtain⟨A,a,rfl⟩:=eB.form h.pk;obtain⟨B,b,rfl⟩:=eB.form h.sn;obtain⟨C,c,rfl⟩:=eB.form h.lg;exact⟨A,a,B,b,C,c,rfl,rfl,rfl⟩
def eM.t(h:eM w Z hi s Y X W):kH w Z hi s Y X W:=⟨bD.T h.pk,bQ.T h.sn,dy.T h.lg⟩
def abc(w:World)(lo:Nat)(s:dK)(e:Ending)(w':World):Prop:=∃c a b,e=.returned (.agg #[c,a,b])/\kH w' lo w'.heap.size s c a b/\Below w.heap.size w w'
def arL{l:List U}{p:U->Bool}{x:U}(h:l[k]?=some x):(l.take (k+1)).any p=((l.take k).any p||p x):=by
 rw[li h,List.any_append];simp
def ajl(s:dK)(l:iX)(hk:l.k=2)(va vb vc:Value)(w:World)(F hi:Nat)(h:eM w F hi s va vb vc)(aX:hi<=w.heap.size)(hl:jV s<=1099511627) :
  Calls (ah β) 19 #[.agg #[va,vb,vc],.int .i64 l.n] w (abc w F (dF s l)):=by
 obtain⟨h1,h2,h3⟩:=h;obtain⟨A,a,rfl⟩:=aQ.form h1;obtain⟨B,b,rfl⟩:=aQ.form h2;obtain⟨C,c,rfl⟩:=aQ.form h3;obtain⟨_,c1,D⟩:=(bQ.l h2).len_;obtain⟨_,c4,bh⟩:=(dy.l h3).len_;unfold maxLen at D bh;unfold jV at hl;have bT:=dL (f:=bSn) (l:=s.sn);have bz:F<=hi:=by
  obtain⟨_,_,_,_,_,bi⟩:=h1;exact bi.le
 by_cases jZ:0<=l.n/\l.n<=(s.lg.length:Int)
 .rw[nK hk jZ];have jM:(decide (0<=l.n)&&decide (l.n<=(s.lg.length:Int)))=true:=by rw[ff];exact⟨dj jZ.1,dj jZ.2⟩
  have P:=ab jM;obtain⟨d,a7⟩:=qe jZ.1;have ax:l.n.toNat=d:=by omega
  rw[ax];have b1:d<=s.lg.length:=by omega
  rw[a7] at P ⊢;have b4:l.n=((d:Nat):Int):=a7;clear jM jZ ax a7;have g1:¬(((d:Nat):Int)<0):=by omega
  have g2:((d:Nat):Int)<=(s.lg.length:Int):=by omega
  have g3:((d:Nat):Int)<=(c:Int):=by omega
  have K:fG w F hi (s.lg.drop d) [.slice (if c=d then C else Option.map (λx=>x.add (d*2)) C) (s.lg.length-d) (c-d)]:=bE.amC (dy.l h3) b1;have bn:eB 62 (bP og) 2 w F hi (s.lg.take d) [.slice C d c]:=eB.afP (dy.T h3) b1;obtain⟨AD,a9⟩:∃AD,(if c=d then C else Option.map (λx=>x.add (d*2)) C)=AD:=⟨_,rfl⟩;rw[a9] at K;clear b4;go_enter xS,ntmps19;go_wp2;generalize hG:(w.alloc (.cells #[.slice A s.pk.length a,.slice B s.sn.length b,.slice C s.lg.length c] 27)).alloc (.cells #[.slice none 0 0,.slice none 0 0,.slice none 0 0] 27)=w0 at *;obtain⟨aL,iP,k0,cZ,eK,k1,dx,ed⟩:=oV hG;clear hG;refine(kT ((d:Nat):Int) 0 s.lg.length w0).mono ?_;rintro e w1 ⟨rfl,rfl⟩;rw[P.out];go_wp2;have a8:=k0.bF 2 (.slice C d c);simp only[ef,ip,jt] at a8;have ba:=av (w0.setCell ⟨w.heap.size,2,none⟩ (.slice C d c)) (.cells #[] 39);have X:=ak a8 ba;have q1:=ak (bV k1 (p:=⟨w.heap.size,2,none⟩) (.slice C d c) (by dsimp only;omega)) ba;have aT:=ag (aL.setCell (p:=⟨w.heap.size,2,none⟩) (by dsimp only;omega) (.slice C d c)) ba;have ao:=eb.new (w0.setCell ⟨w.heap.size,2,none⟩ (.slice C d c)) 39 (am _);have bU:((w0.setCell ⟨w.heap.size,2,none⟩ (.slice C d c)).alloc (.cells #[] 39)).heap.size=w0.heap.size+1:=by simp
  have V:gM lI 2 39 ((w0.setCell ⟨w.heap.size,2,none⟩ (.slice C d c)).alloc (.cells #[] 39)) F w.heap.size (.slice (some ⟨w0.heap.size,0,none⟩) 0 0) []:=gM.aif (by
   have:=ao;simp only[be] at this;obtain⟨g,e,_,hk⟩:=this;cases e;exact⟨_,rfl,by omega,hk⟩)
  clear k0 k1 cZ dx eK ed a8 ba ao;generalize (w0.setCell ⟨w.heap.size,2,none⟩ (.slice C d c)).alloc (.cells #[] 39)=w2 at *;have S:(s.lg.drop d).length=s.lg.length-d:=qj;have bO:=ab S;rw[<-S];rw[<-S] at K;clear S a9;obtain⟨o,W⟩:∃o,o=s.lg.drop d:=⟨_,rfl⟩;rw[<-W] at K ⊢;obtain⟨_,bL,bl⟩:=K.len_;unfold maxLen at bl;have HI:=ab (And.intro X (And.intro q1 aT));replace V:=ab V;replace W:=ab W;clear X q1 aT;go_loopw [6,7] (λoo ii wr=>∃k:Nat,k<=s.sn.length/\ii=.int .i64 k/\gM lI 2 39 wr F w.heap.size oo ((s.sn.take k).filter λx=>!(o.any λh=>h.s ==x.no))/\bg wr w.heap.size 27 #[.slice A s.pk.length a,.slice B s.sn.length b,.slice C d c]/\bg wr (w.heap.size+1) 27 #[.slice none 0 0,.slice none 0 0,.slice none 0 0]/\Below w.heap.size w wr) (λ_ ii _=>s.sn.length-(intOf ii).toNat)
  case atStart=>exact⟨0,fb _,rfl,V.out,HI.out⟩
  case round=>
   clear V HI;obtain⟨k,bw,rfl,L,X,q1,Q⟩:=hrel;obtain⟨Ao,co,rfl⟩:=L.form;have cq:wr.cell? ⟨w.heap.size,1,none⟩=some (.slice B s.sn.length b):=X.cell 1;by_cases bb:k<s.sn.length
   .obtain⟨y,cG⟩:=aq bb;obtain⟨b',a4,R,e0,_,bx,_,⟨v2,rfl,br,hr⟩,J⟩:=(gQ.loc.below (bQ.l h2) Q aX).at_ cG;subst e0;obtain⟨A2,c2,rfl⟩:=bE.form hr;replace cG:=ab cG;replace L:=ab L;clear J hr;go_wp2;obtain⟨wo,bk⟩:∃wo,wo=wr:=⟨_,rfl⟩;subst bk;go_loopw [8,9] (λgg jj wr=>∃(j:Nat) (q:Bool),j<=o.length/\jj=.int .i64 j/\gg=.bool q/\q=((o.take j).any λh=>h.s ==y.no)/\Below wo.heap.size wo wr) (λ_ jj _=>o.length-(intOf jj).toNat)
    case atStart=>exact⟨0,false,fb _,rfl,rfl,rfl,fd _ _⟩
    case round=>
     obtain⟨j,q,hj,rfl,rfl,hq,t⟩:=hrel;replace hq:=ab hq;have D:=ag Q t;have ad:=aR t cq;obtain⟨b2,iE,R,e0,_,_,_,⟨v2,rfl,bY,hr⟩,J⟩:=(gQ.loc.below (bQ.l h2) D aX).at_ cG.out;simp only[mt,qz,qu] at e0;obtain⟨rfl,rfl⟩:=e0;obtain⟨A3,c3,rfl⟩:=bE.form hr;have an:wr.cell? ⟨b',a4+k*2,none⟩=some (.int .i64 y.no):=by simpa using J 0 _ rfl
     have pq:wr.cell? ⟨b',a4+k*2+1,none⟩=some (.slice A3 y.all.length c3):=by simpa using J 1 _ rfl
     clear J hr;by_cases b5:j<o.length
     .obtain⟨z,a1⟩:=aq b5;obtain⟨b3,bo,R,e0,_,_,_,⟨rfl,c0⟩,G⟩:=(fG.loc.below K D aX).at_ a1;subst e0;have b0:wr.cell? ⟨b3,bo+j*2+1,none⟩=some (.int .i64 z.s):=by simpa using G 1 _ rfl
      have r:=arL (p:=λh:Hd=>h.s ==y.no) a1;replace r:=ab r;clear G a1 pq;cases q
      .go_wp2;have aG:=ae ad;have aI:=ae an;have aZ:=ae b0;refine aF 15 [0,1,2,3,4,5,6,7,8,9,10,11,12,13,14] [] (h:= ?_);simp only[pick,List.map,ge,gn];repeat(go_big_quiet_step (fail))
       refine gt ?_;clear aG aI aZ;apply Exists.intro;refine aS ?_;intro Z hz xx cT hF;dsimp only[dP] at hF;try rw[cT] at hF
       clear cT xx;simp only[List.drop];clear hF;go_wp2;go_roundw
       case rel=>exact⟨j+1,_,by omega,by go_num,rfl,by rw[r.out,<-hq.out];rfl,ag t hz⟩
       simp[intOf];omega
      .go_wp2;have aG:=ae ad;have aI:=ae an;have aZ:=ae b0;refine aF 15 [0,1,2,3,4,5,6,7,8,9,10,11,12,13,14] [] (h:= ?_);simp only[pick,List.map,ge,gn];repeat(go_big_quiet_step (fail))
       refine gt ?_;clear aG aI aZ;apply Exists.intro;refine aS ?_;intro Z hz xx cT hF;dsimp only[dP] at hF;try rw[cT] at hF
       clear cT xx;simp only[List.drop];clear hF;go_wp2;go_roundw
       case rel=>exact⟨j+1,_,by omega,by go_num,rfl,by rw[r.out,<-hq.out];rfl,ag t hz⟩
       simp[intOf];omega
     .obtain rfl:j=o.length:=by omega
      have a2:=hq.out;rw[gc] at a2;have al:=ab a2;have zo:=t.size;have eU:=L.out.below lI.ar t;have T:=ak X t;have O:=ak q1 t;clear a2;cases q
      .have hp:(o.any λh=>h.s ==y.no)=false:=al.out.symm;have H:=jK (p:=λx:Sn=>o.any λh=>h.s ==x.no) cG.out hp;have HF:=ab H;obtain⟨m,m',R,l1,l2,l3,ay,⟨v5,rfl,b6,I⟩,n, -⟩:∃m m' R,F<=m/\m<=m'/\m'<=hi/\R.length=2/\lI wr m m' y R/\(∀j u,R[j]?=some u->wr.cell? ⟨b',a4+k*2+j,none⟩=some u)/\True:=by
        have aa:=bQ.ar.below h2 D aX;obtain⟨g,c9,e9,g1,g2,g3,ds,bR⟩:=aQ.some_ aa (by omega);simp only[nf,mt,qz,qu] at e9;obtain⟨⟨rfl,rfl⟩, -,rfl⟩:=e9;obtain⟨m,m',R,l1,l2,l3,ay,hE,n, -⟩:=aQ.at_ lI.ar (by decide) aa cG.out;exact⟨m,m',R,l1,l2,l3,ay,hE,λj u hu=>by rw[mc];exact n j u hu,trivial⟩
       obtain⟨A6,c6,rfl⟩:=aQ.form I;have a5:=n 1 _ rfl;rw[pq] at a5;simp only[mt,nf,true_and] at a5;obtain⟨rfl,rfl⟩:=a5;have b8:((s.sn.take k).filter λx=>!(o.any λh=>h.s ==x.no)).length<=s.sn.length:=ap (rQ _ _) (by rw[fa];omega);have aY:lI wr F wr.heap.size y [.int .i64 y.no,.slice A3 y.all.length c3]:=
        lI.ar.wide (⟨_,rfl,b6,I⟩:lI wr m m' y [.int .i64 y.no,.slice A3 y.all.length c3]) l1 (by have:=D.size;omega)
       have Y:=ab eU;have bf:=ab aY;have a6:=ab D;have U:=ab (And.intro T O);clear eU aY n I T O H L;obtain⟨M,hM⟩:∃M,M=((s.sn.take k).filter λx=>!(o.any λh=>h.s ==x.no)):=⟨_,rfl⟩;rw[<-hM] at Y HF b8 ⊢;clear hM;go_wp2_with(at_builtin;refine gu ?_);refine⟨?_,trivial⟩;refine aij lI.ar (by decide) rfl (.tmp 57) (.tmp 63) 24 rfl adN y rfl Y.out rfl rfl (by simp[Value.oneCell']) bf.out (by omega) (by have:=a6.out.size;omega) ?_;intro v8 w8 o8 a0 bt;obtain⟨A8,c8,rfl⟩:=o8.form;simp only[aE,ga,mw,mc] at o8;go_wp2;go_roundw
       case rel=>
        have iQ:∀b,(Value.slice Ao M.length co).ownBlock=some b->w.heap.size<=b/\∃ds,bg wr b 39 ds:=λb hb=>⟨(Y.out.at_ hb).1,Y.out.blk hb⟩;refine⟨k+1,by omega,by go_num,by rw[HF.out];exact o8,aP U.out.1 a0 λE=> ?_,aP U.out.2 a0 λE=> ?_,a6.out.trans (a0.below a6.out.size λi hi E=>by have:=(iQ i E).1;omega)⟩
        .obtain⟨_,ds,hd⟩:=iQ _ E;exact absurd (cD U.out.1 hd) (by decide)
        .obtain⟨_,ds,hd⟩:=iQ _ E;exact absurd (cD U.out.2 hd) (by decide)
       case measure=>simp[intOf];omega
      .have hp:(o.any λh=>h.s ==y.no)=true:=al.out.symm;have H:=iA (p:=λx:Sn=>o.any λh=>h.s ==x.no) cG.out hp;have HF:=ab H;have a3:=ab (And.intro eU (And.intro T O));clear H hp eU T O;go_wp2;go_roundw
       case rel=>exact⟨k+1,by omega,by go_num,by rw[HF.out];exact a3.out.1,a3.out.2.1,a3.out.2.2,D⟩
       simp[intOf];omega
   .obtain rfl:k=s.sn.length:=by omega
    rw[gc] at L;have bG:=X.cell;have bp:=X.frozen;have b7:=q1.cell;have bS:=q1.frozen;replace L:=ab L;go_wp2;obtain⟨Z,af⟩:∃Z,Z=((((wr.setCell ⟨w.heap.size,1,none⟩ (.slice Ao (s.sn.filter λx=>!(o.any λh=>h.s ==x.no)).length co)).setCell ⟨w.heap.size+1,0,none⟩ (.slice A s.pk.length a)).setCell ⟨w.heap.size+1,1,none⟩ (.slice Ao (s.sn.filter λx=>!(o.any λh=>h.s ==x.no)).length co)).setCell ⟨w.heap.size+1,2,none⟩ (.slice C d c)):=⟨_,rfl⟩;have G:bq (λb=>b=w.heap.size\/b=w.heap.size+1) wr Z:=by
     rw[af];exact((((bq.refl _ wr).setCell (.inl (.inl rfl)) _).setCell (.inl (.inr rfl)) _).setCell (.inl (.inr rfl)) _).setCell (.inl (.inr rfl)) _
    have N:Below w.heap.size w Z:=Q.trans (G.below Q.size λi hi E=>by rcases E with E|E<;>omega);have b9:gM lI 2 39 Z F w.heap.size (.slice Ao (s.sn.filter λx=>!(o.any λh=>h.s ==x.no)).length co) (s.sn.filter λx=>!(o.any λh=>h.s ==x.no)):=by
     refine L.out.fc lI.ar G (λb hb E=> ?_) (λb _ ht E=> ?_)
     .obtain⟨ds,hd⟩:=L.out.blk hb;rcases E with rfl|rfl
      .exact absurd (cD X hd) (by decide)
      .exact absurd (cD q1 hd) (by decide)
     .rcases E with rfl|rfl
      .exact dw X (by decide) ht
      .exact dw q1 (by decide) ht
    refine pa (v:=.agg #[.slice A s.pk.length a,.slice Ao (s.sn.filter λx=>!(o.any λh=>h.s ==x.no)).length co,.slice C d c]) (by simp[results,results19,go_sem,b7]) rfl ?_;rw[<-af,<-W.out];have zb:=N.size;exact⟨_,_,_,rfl,⟨tPk.wide (tPk.below (bD.T h1) N aX) (am _) (by omega),gM.sl b9 (by omega),by
     have:=tHd.wide (fE:=F) (hi':=Z.heap.size) (tHd.below bn N aX) (am _) (by omega);have e:(s.lg.take d).length=d:=by rw[fa];omega
     exact this⟩,N⟩
 .rw[lU hk jZ];have jM:(decide (0<=l.n)&&decide (l.n<=(s.lg.length:Int)))=false:=by
   rw[sI];by_cases h0:0<=l.n
   .exact .inr (da λh=>jZ ⟨h0,h⟩)
   .exact .inl (da h0)
  have P:=ab jM;clear jM jZ;go_enter xS,ntmps19;go_wp2;generalize hG:(w.alloc (.cells #[.slice A s.pk.length a,.slice B s.sn.length b,.slice C s.lg.length c] 27)).alloc (.cells #[.slice none 0 0,.slice none 0 0,.slice none 0 0] 27)=w0 at *;obtain⟨aL,iP,k0,cZ,eK,k1,dx,ed⟩:=oV hG;clear hG;refine(kT l.n 0 s.lg.length w0).mono ?_;rintro e w1 ⟨rfl,rfl⟩;rw[P.out];go_wp2;refine pa (v:=.agg #[.slice A s.pk.length a,.slice B s.sn.length b,.slice C s.lg.length c]) (by simp[results,results19,go_sem,dx]) rfl ⟨_,_,_,rfl, ?_,((aL.setCell (by first|omega|(dsimp only;omega)) _).setCell (by first|omega|(dsimp only;omega)) _).setCell (by first|omega|(dsimp only;omega)) _⟩;have hr:kH w F hi s (.slice A s.pk.length a) (.slice B s.sn.length b) (.slice C s.lg.length c):=⟨bD.T h1,bQ.T h2,dy.T h3⟩;refine(hr.below (B:=w.heap.size) ?_ aX).wide (am _) ?_
  .exact((aL.setCell (by first|omega|(dsimp only;omega)) _).setCell (by first|omega|(dsimp only;omega)) _).setCell (by first|omega|(dsimp only;omega)) _
  .simp only[be];omega
end
section
variable {β:Bool}
open Go.RowKit
def mS(w:World)(g:Nat)(u1 c d:Value)(b:Nat)(a:b≠g):(((w.setCell ⟨g,0,none⟩ u1).setCell ⟨g,1,none⟩ c).setCell ⟨g,2,none⟩ d).heap[b]?=w.heap[b]?:=by
 rw[io _ _ _ _ a,io _ _ _ _ a,io _ _ _ _ a]
def alK{B:Nat}{g:Nat}{t:TypeId}(h:bg w g t cs)(a:Below B w w')(b:g<B):bg w' g t cs:=(a.block g b).trans h
def arM(s:dK)(d D G:Int)(lb:ByteArray)(V:¬d=1)(X:¬d=2)(K:¬d=3)(Q:¬d=4)(z H I:Value)(w:World)(F hi:Nat)(h:iW w F hi s z H I)(E:hi<=w.heap.size)(M:jV s<=1099511627) :
  Calls (ah β) 7 #[.agg #[z,H,I],.agg (mR ⟨d,D,G,lb⟩)] w (abc w w.heap.size s):=by
 have t1:(d ==1)=false:=de.2 V;have t2:(d ==2)=false:=de.2 X;have t3:(d ==3)=false:=de.2 K;have Y:(d ==4)=false:=de.2 Q;obtain⟨C,c,rfl⟩:=bE.form h.lg;obtain⟨A,a,rfl⟩:=bE.form h.pk;obtain⟨B,b,rfl⟩:=bE.form h.sn;go_enter qF7,ntmps7;go_wp2;generalize N:((w.alloc (.cells #[.slice A s.pk.length a,.slice B s.sn.length b,.slice C s.lg.length c] 27)).alloc (.cells #[.int .i64 d,.int .i64 D,.int .i64 G,.string lb] 29)).alloc (.cells #[.slice none 0 0,.slice none 0 0,.slice none 0 0] 27)=w0 at *;obtain⟨g,iP,k0,cZ,eK,k,W,O,j,R,T⟩:=aes N;refine(eT s _ _ _ w0 F hi (h.below g E) (ap E g.size) M).mono ?_;rintro e r ⟨v1,v2,v3,rfl,m,l⟩;obtain⟨o,x,rfl⟩:=aQ.form m.pk;obtain⟨q,p,rfl⟩:=aQ.form m.sn;obtain⟨u,t,rfl⟩:=aQ.form m.lg;replace k:=ak k l;replace W:=k.cell;replace O:=k.frozen;replace j:=ak j l;replace R:=j.cell;replace T:=j.frozen;replace g:=ag g l;have z1:=l.size;have f:=av r (.cells #[.slice o s.pk.length x,.slice q s.sn.length p,.slice u s.lg.length t] 27);have S:=(ak k f).cell;have i:=ak j f;have n:=i.cell;have J:=i.frozen;have y:=ab (ag g f);have L:kH (r.alloc (.cells #[.slice o s.pk.length x,.slice q s.sn.length p,.slice u s.lg.length t] 27)) w0.heap.size r.heap.size s _ _ _:=m.t.below f (am _);have P:=ab L;have U:=ab f.size;go_wp2;refine pa (v:=.agg #[.slice o s.pk.length x,.slice q s.sn.length p,.slice u s.lg.length t]) (by simp[results,results7,go_sem,n]) rfl ⟨_,_,_,rfl, ?_, ?_⟩
 .refine P.out.go (λb Z _=>mS _ _ _ _ _ b (by omega)) (by omega) ?_;simp only[be];exact U.out
 .exact((y.out.setCell (by dsimp only;omega) _).setCell (by dsimp only;omega) _).setCell (by dsimp only;omega) _
def arN(s:dK)(g i:Int)(lb:ByteArray)(E K O:Value)(w:World)(I hi:Nat)(h:iW w I hi s E K O)(H:hi<=w.heap.size)(D:jV s<=1099511627) :
  Calls (ah β) 7 #[.agg #[E,K,O],.agg (mR ⟨2,g,i,lb⟩)] w (abc w w.heap.size (dF s ⟨2,g,i,lb⟩)):=by
 obtain⟨C,c,rfl⟩:=bE.form h.lg;obtain⟨A,a,rfl⟩:=bE.form h.pk;obtain⟨B,b,rfl⟩:=bE.form h.sn;go_enter qF7,ntmps7;go_wp2;generalize t:((w.alloc (.cells #[.slice A s.pk.length a,.slice B s.sn.length b,.slice C s.lg.length c] 27)).alloc (.cells #[.int .i64 2,.int .i64 g,.int .i64 i,.string lb] 29)).alloc (.cells #[.slice none 0 0,.slice none 0 0,.slice none 0 0] 27)=w0 at *;obtain⟨n,iP,k0,cZ,eK,f,Q,G,d,J,L⟩:=aes t;refine(eT s _ _ _ w0 I hi (h.below n H) (ap H n.size) D).mono ?_;rintro e o ⟨v1,v2,v3,rfl,l,p⟩;obtain⟨y,P,rfl⟩:=aQ.form l.pk;obtain⟨F,z,rfl⟩:=aQ.form l.sn;obtain⟨N,M,rfl⟩:=aQ.form l.lg;replace f:=ak f p;replace Q:=f.cell;replace G:=f.frozen;replace d:=ak d p;replace J:=d.cell;replace L:=d.frozen;replace n:=ag n p;have z1:=p.size;have R:=av o (.cells #[.slice y s.pk.length P,.slice F s.sn.length z,.slice N s.lg.length M] 27);have Z:=(ak f R).cell;go_wp2;generalize t:o.alloc (.cells #[.slice y s.pk.length P,.slice F s.sn.length z,.slice N s.lg.length M] 27)=w3 at *;obtain⟨j,S,m0,mC,a0⟩:=mL t;replace f:=ak f j;replace Q:=f.cell;replace G:=f.frozen;replace d:=ak d j;replace J:=d.cell;replace L:=d.frozen;have x:=ag n j;have W:eM w3 w0.heap.size o.heap.size s _ _ _:=⟨bD.ar.below l.pk j (am _),bQ.ar.below l.sn j (am _),dy.ar.below l.lg j (am _)⟩;have z3:=j.size;refine(ajl s ⟨2,g,i,lb⟩ rfl _ _ _ w3 w0.heap.size o.heap.size W (by omega) D).mono ?_;rintro e w5 ⟨ua,ub,uc,rfl,q,k⟩;have U:=ak m0 k;have m:=ak d k;have u:=ag x k;have z5:=k.size;have a1:=U.cell;have r:=m.cell;have T:=m.frozen;obtain⟨A5,V,B5,k,X,Y,rfl,rfl,rfl⟩:=q.form;replace q:=ab q;replace u:=ab u;go_wp2;refine pa (v:=.agg #[.slice A5 (dF s ⟨2,g,i,lb⟩).pk.length V,.slice B5 (dF s ⟨2,g,i,lb⟩).sn.length k,.slice X (dF s ⟨2,g,i,lb⟩).lg.length Y]) (by simp[results,results7,go_sem,r]) rfl ⟨_,_,_,rfl, ?_, ?_⟩
 .refine q.out.go (λb hb _=>mS _ _ _ _ _ b (by omega)) (by omega) ?_;simp only[be];omega
 .exact((u.out.setCell (by dsimp only;omega) _).setCell (by dsimp only;omega) _).setCell (by dsimp only;omega) _
def arO(s:dK)(r M:Int)(lb:ByteArray)(va vb vc:Value)(w:World)(lo hi:Nat)(h:iW w lo hi s va vb vc)(aX:hi<=w.heap.size)(hl:jV s<=1099511627) :
  Calls (ah β) 7 #[.agg #[va,vb,vc],.agg (mR ⟨4,r,M,lb⟩)] w (abc w w.heap.size (dF s ⟨4,r,M,lb⟩)):=by
 obtain⟨C,c,rfl⟩:=bE.form h.lg;obtain⟨_,b2,aa⟩:=h.lg.len_;unfold maxLen at aa;have b1:IntKind.i64.wrap ((s.lg.length:Int)-1)=(s.lg.length:Int)-1:=vQ _ (by omega);by_cases W:0<=r/\r<(s.lg.length:Int)
 .rw[aa5 (l:=⟨4,r,M,lb⟩) rfl W];have jM:(decide (0<=r)&&decide (r<=(s.lg.length:Int)-1))=true:=by rw[ff];exact⟨dj W.1,dj (by omega)⟩
  have I:=ab jM;obtain⟨i,rfl⟩:=qe W.1;obtain⟨y,Z⟩:=aq (l:=s.lg) (k:=i) (by omega);have a6:se s.lg ((i:Nat):Int).toNat ko=s.lg.set i (ko y):=by
   have:((i:Nat):Int).toNat=i:=by omega
   rw[this,nJ Z]
  dsimp only;rw[a6];have b0:i<s.lg.length:=by omega
  replace Z:=ab Z;obtain⟨A,a,rfl⟩:=bE.form h.pk;obtain⟨B,b,rfl⟩:=bE.form h.sn;go_enter qF7,ntmps7;go_wp2;generalize H:((w.alloc (.cells #[.slice A s.pk.length a,.slice B s.sn.length b,.slice C s.lg.length c] 27)).alloc (.cells #[.int .i64 4,.int .i64 ((i:Nat):Int),.int .i64 M,.string lb] 29)).alloc (.cells #[.slice none 0 0,.slice none 0 0,.slice none 0 0] 27)=w0 at *;obtain⟨u,iP,k0,cZ,eK,f,O,S,d,V,Y⟩:=aes H;refine(eT s _ _ _ w0 lo hi (h.below u aX) (ap aX u.size) hl).mono ?_;rintro e t ⟨v1,v2,v3,rfl,o,x⟩;obtain⟨D,G,rfl⟩:=aQ.form o.pk;obtain⟨F,E,rfl⟩:=aQ.form o.sn;obtain⟨N,z,rfl⟩:=aQ.form o.lg;replace f:=ak f x;replace O:=f.cell;replace S:=f.frozen;replace d:=ak d x;replace V:=d.cell;replace Y:=d.frozen;replace u:=ag u x;have z1:=x.size;have nY:=av t (.cells #[.slice D s.pk.length G,.slice F s.sn.length E,.slice N s.lg.length z] 27);have a7:=(ak f nY).cell;go_wp2;generalize H:t.alloc (.cells #[.slice D s.pk.length G,.slice F s.sn.length E,.slice N s.lg.length z] 27)=w3 at *;obtain⟨m,a1,m0,mC,a8⟩:=mL H;replace f:=ak f m;replace O:=f.cell;replace S:=f.frozen;replace d:=ak d m;replace V:=d.cell;replace Y:=d.frozen;have L:=ag u m;have o3:eM w3 w0.heap.size t.heap.size s _ _ _:=⟨bD.ar.below o.pk m (am _),bQ.ar.below o.sn m (am _),dy.ar.below o.lg m (am _)⟩;have z3:=m.size;refine(kT _ _ _ w3).mono ?_;rintro e w4 ⟨rfl,rfl⟩;rw[I.out];obtain⟨op,os,ol⟩:=o3;have hw:=dy.w ol;obtain⟨g,c',e,aT,aY,b3,ad⟩:=jW.some_ hw (by omega);simp only[nf] at e;obtain⟨rfl, -,rfl⟩:=e;obtain⟨a5,U,al⟩:=jW.at_ hw Z.out;have iN:og.good (ko y):=by
   refine⟨?_,a5.2⟩;show bZ (wrap64 (3-y.b));unfold bZ wrap64;omega
  have a2:w3.cell? ⟨t.heap.size,2,none⟩=some (.slice (some ⟨g,0,none⟩) s.lg.length z):=mC 2;have a9:w3.cell? ⟨w.heap.size+1,1,none⟩=some (.int .i64 ((i:Nat):Int)):=O 1;go_wp2;have aG:=ae a2;have aI:=ae a9;have aZ:=ae U;refine aF 12 [0,1,2,3,4,5,6,7,8,9,10,11] [] (h:= ?_);simp only[pick,List.map,ge,gn];repeat(go_big_quiet_step (fail))
  refine gt ?_;apply Exists.intro;refine aS ?_;intro X q xx cT hF;dsimp only[dP] at hF;try rw[cT] at hF
  simp only[List.drop];have zz:=q.size;have a0:=ak ad q;have an:=a0.frozen (i*2);have ax:=aR q U;have nS:=(ag L q).setCell (p:=⟨g,i*2,none⟩) (by dsimp only;omega) (.int .i64 (wrap64 (3-y.b)));have k5:=bV (ak m0 q) (p:=⟨g,i*2,none⟩) (.int .i64 (wrap64 (3-y.b))) (by dsimp only;omega);have n:=bV (ak d q) (p:=⟨g,i*2,none⟩) (.int .i64 (wrap64 (3-y.b))) (by dsimp only;omega);have P:∀{T:List TypeId} (b:Nat),62∉T->Typed X T b->(X.setCell ⟨g,i*2,none⟩ (.int .i64 (wrap64 (3-y.b)))).heap[b]?=X.heap[b]?:=λb hT Q=>io _ _ _ _ (by rintro rfl;exact dw a0 hT Q);have r5:kH (X.setCell ⟨g,i*2,none⟩ (.int .i64 (wrap64 (3-y.b)))) w0.heap.size t.heap.size ⟨s.pk,s.sn,s.lg.set i (ko y)⟩ (.slice D s.pk.length G) (.slice F s.sn.length E) (.slice (some ⟨g,0,none⟩) s.lg.length z):=
   ⟨bD.T (bD.ar.go (fE:=w0.heap.size) (hi':=t.heap.size) (λb _ _ Q=>P b (by decide) Q) (am _) (am _) (bD.ar.below op q (by omega))),
    bQ.T (bQ.ar.go (fE:=w0.heap.size) (hi':=t.heap.size) (λb _ _ Q=>P b (by decide) Q) (am _) (am _) (bQ.ar.below os q (by omega))),
    jW.T (jW.put (j:=0) (jW.ar.below hw q (by omega)) Z.out (by decide) iN rfl)⟩
  have af:=k5.cell;have R:=n.cell;have a3:=n.frozen;have z5:t.heap.size<=(X.setCell ⟨g,i*2,none⟩ (.int .i64 (wrap64 (3-y.b)))).heap.size:=by simp only[be];omega
  have aL:=(ak m0 q).cell;have ay:=(ak d q).cell;have ao:=(ak d q).frozen;have a4:=ab n;have K:=ab r5;have J:=ab nS;go_wp2;refine pa (v:=.agg #[.slice D s.pk.length G,.slice F s.sn.length E,.slice (some ⟨g,0,none⟩) s.lg.length z]) (by simp[results,results7,go_sem,a4.out.cell]) rfl ⟨_,_,_,rfl, ?_, ?_⟩
  .refine K.out.go (λb hb _=>mS _ _ _ _ _ b (by omega)) (by omega) ?_;simp only[be];omega
  .exact((J.out.setCell (by dsimp only;omega) _).setCell (by dsimp only;omega) _).setCell (by dsimp only;omega) _
 .rw[lV (l:=⟨4,r,M,lb⟩) rfl W];have jM:(decide (0<=r)&&decide (r<=(s.lg.length:Int)-1))=false:=by
   rw[sI];by_cases h0:0<=r
   .exact .inr (da λh=>W ⟨h0,by omega⟩)
   .exact .inl (da h0)
  have I:=ab jM;obtain⟨A,a,rfl⟩:=bE.form h.pk;obtain⟨B,b,rfl⟩:=bE.form h.sn;go_enter qF7,ntmps7;go_wp2;generalize H:((w.alloc (.cells #[.slice A s.pk.length a,.slice B s.sn.length b,.slice C s.lg.length c] 27)).alloc (.cells #[.int .i64 4,.int .i64 r,.int .i64 M,.string lb] 29)).alloc (.cells #[.slice none 0 0,.slice none 0 0,.slice none 0 0] 27)=w0 at *;obtain⟨u,iP,k0,cZ,eK,f,O,S,d,V,Y⟩:=aes H;refine(eT s _ _ _ w0 lo hi (h.below u aX) (ap aX u.size) hl).mono ?_;rintro e t ⟨v1,v2,v3,rfl,o,x⟩;obtain⟨D,G,rfl⟩:=aQ.form o.pk;obtain⟨F,E,rfl⟩:=aQ.form o.sn;obtain⟨N,z,rfl⟩:=aQ.form o.lg;replace f:=ak f x;replace O:=f.cell;replace S:=f.frozen;replace d:=ak d x;replace V:=d.cell;replace Y:=d.frozen;replace u:=ag u x;have z1:=x.size;have nY:=av t (.cells #[.slice D s.pk.length G,.slice F s.sn.length E,.slice N s.lg.length z] 27);have a7:=(ak f nY).cell;go_wp2;generalize H:t.alloc (.cells #[.slice D s.pk.length G,.slice F s.sn.length E,.slice N s.lg.length z] 27)=w3 at *;obtain⟨m,a1,m0,mC,a8⟩:=mL H;replace f:=ak f m;replace O:=f.cell;replace S:=f.frozen;replace d:=ak d m;replace V:=d.cell;replace Y:=d.frozen;have L:=ag u m;have o3:eM w3 w0.heap.size t.heap.size s _ _ _:=⟨bD.ar.below o.pk m (am _),bQ.ar.below o.sn m (am _),dy.ar.below o.lg m (am _)⟩;have z3:=m.size;refine(kT _ _ _ w3).mono ?_;rintro e w5 ⟨rfl,rfl⟩;rw[I.out];have k5:=m0;have n:=d;have nS:=L;have r5:=o3.t;have z5:=z3;have af:=k5.cell;have R:=n.cell;have a3:=n.frozen;have K:=ab r5;have J:=ab nS;go_wp2;refine pa (v:=.agg #[.slice D s.pk.length G,.slice F s.sn.length E,.slice N s.lg.length z]) (by simp[results,results7,go_sem,R]) rfl ⟨_,_,_,rfl, ?_, ?_⟩
  .refine K.out.go (λb hb _=>mS _ _ _ _ _ b (by omega)) (by omega) ?_;simp only[be];omega
  .exact((J.out.setCell (by dsimp only;omega) _).setCell (by dsimp only;omega) _).setCell (by dsimp only;omega) _
end
section
variable {β:Bool}
open Go.RowKit
def arP(s:dK)(d lm:Int)(lb:ByteArray)(va vb vc:Value)(w:World)(lo hi:Nat)(h:iW w lo hi s va vb vc)(aX:hi<=w.heap.size)(hl:jV s<=1099511627) :
  Calls (ah β) 7 #[.agg #[va,vb,vc],.agg (mR ⟨1,d,lm,lb⟩)] w (abc w w.heap.size (dF s ⟨1,d,lm,lb⟩)):=by
 rw[aa3 (l:=⟨1,d,lm,lb⟩) rfl];dsimp only;have a8:=dL (f:=bPk) (l:=s.pk);have b9:s.pk.length<=1099511627:=by unfold jV at hl;omega
 clear a8;obtain⟨C,c,rfl⟩:=bE.form h.lg;obtain⟨A,a,rfl⟩:=bE.form h.pk;obtain⟨B,b,rfl⟩:=bE.form h.sn;go_enter qF7,ntmps7;go_wp2;generalize U:((w.alloc (.cells #[.slice A s.pk.length a,.slice B s.sn.length b,.slice C s.lg.length c] 27)).alloc (.cells #[.int .i64 1,.int .i64 d,.int .i64 lm,.string lb] 29)).alloc (.cells #[.slice none 0 0,.slice none 0 0,.slice none 0 0] 27)=w0 at *;obtain⟨Q,iP,k0,cZ,eK,u,dx,ed,x,gp,jw⟩:=aes U;clear U;refine(eT s _ _ _ w0 lo hi (h.below Q aX) (ap aX Q.size) hl).mono ?_;rintro e n ⟨v1,v2,v3,rfl,J,W⟩;obtain⟨A1,a1,rfl⟩:=aQ.form J.pk;obtain⟨B1,oh,rfl⟩:=aQ.form J.sn;obtain⟨C1,c1,rfl⟩:=aQ.form J.lg;replace u:=ak u W;replace dx:=u.cell;replace ed:=u.frozen;replace x:=ak x W;replace gp:=x.cell;replace jw:=x.frozen;replace Q:=ag Q W;have z1:=W.size;clear k0 cZ eK;have nY:=av n (.cells #[.slice A1 s.pk.length a1,.slice B1 s.sn.length oh,.slice C1 s.lg.length c1] 27);have ay:=(ak u nY).cell;go_wp2;clear nY ay;generalize U:(n.alloc (.cells #[.slice A1 s.pk.length a1,.slice B1 s.sn.length oh,.slice C1 s.lg.length c1] 27)).alloc (.cells #[] 54)=w3 at *;obtain⟨G,aY,m0,mC,aa,m1,an,a7⟩:=oV U;clear U;replace u:=ak u G;replace dx:=u.cell;replace ed:=u.frozen;replace x:=ak x G;replace gp:=x.cell;replace jw:=x.frozen;have af:=ag Q G;have o3:eM w3 w0.heap.size n.heap.size s _ _ _:=⟨bD.ar.below J.pk G (am _),bQ.ar.below J.sn G (am _),dy.ar.below J.lg G (am _)⟩;have z3:=G.size;clear J Q G W;have HO:=ab (show gM ki 2 54 w3 w0.heap.size (n.heap.size+1) (.slice (some ⟨n.heap.size+1,0,none⟩) 0 0) [] from gM.aif ⟨_,rfl,am _,m1⟩);have b0:w.heap.size+1+1<n.heap.size:=by omega
 clear m1 an a7 dx ed gp jw mC aa;go_loopw [6,7] (λoo ii wr=>∃k:Nat,k<=s.pk.length/\ii=.int .i64 k/\gM ki 2 54 wr w0.heap.size (n.heap.size+1) oo ((s.pk.take k).filter λp=>!(p.no ==d))/\Below (n.heap.size+1) w3 wr) (λ_ ii _=>s.pk.length-(intOf ii).toNat)
 case atStart=>exact⟨0,fb _,rfl,HO.out,fd _ _⟩
 case round=>
  clear HO;obtain⟨k,b2,rfl,I,j⟩:=hrel;obtain⟨D,E,rfl⟩:=I.form;have F:=alK m0 j (by omega);have q1:=alK u j (by omega);have Z:=alK x j (by omega);have zr:=j.size;have cm:wr.cell? ⟨n.heap.size,0,none⟩=some (.slice A1 s.pk.length a1):=F.cell 0;have P:wr.cell? ⟨w.heap.size+1,1,none⟩=some (.int .i64 d):=q1.cell 1;by_cases a9:k<s.pk.length
  .obtain⟨y,cG⟩:=aq a9;have N:=bD.ar.below o3.pk j (by omega);obtain⟨g,c',e,b7,bf,b5,a5,aL⟩:=aQ.some_ N (by omega);simp only[nf] at e;obtain⟨rfl, -,rfl⟩:=e;obtain⟨m,m',es,l1,l2,l3,ba,⟨v2,rfl,a3,t⟩,o, -⟩:=aQ.at_ ki.ar (by decide) N cG;obtain⟨A2,c2,rfl⟩:=aQ.form t;have z:wr.cell? ⟨g,k*2,none⟩=some (.int .i64 y.no):=o 0 _ rfl;have a2:wr.cell? ⟨g,k*2+1,none⟩=some (.slice A2 y.its.length c2):=o 1 _ rfl;have HY:=ab cG;have HR:=ab t;have HO:=ab I;have a6:((s.pk.take k).filter λp=>!(p.no ==d)).length<=s.pk.length:=ap (rQ _ _) (by rw[fa];omega);clear o cG t I N a5 aL;by_cases hp:y.no=d
   .have t1:(y.no ==d)=true:=nF.2 hp;have r:=iA (p:=λp:Pk=>p.no ==d) HY.out t1;have HF:=ab r;clear r hp;go_wp2;have aG:=ae cm;have aI:=ae z;have aZ:=ae P;refine aF 9 [0,1,2,3,4,5,6,7,8] [] (h:= ?_);simp only[pick,List.map,ge,gn];repeat(go_big_quiet_step (fail))
    refine gt ?_;clear aG aI aZ;apply Exists.intro;refine aS ?_;intro wz q xx cT K;dsimp only[dP] at K;try rw[cT] at K
    clear cT xx;simp only[List.drop];clear K;have zz:=q.size;go_wp2;go_roundw
    case rel=>exact⟨k+1,by omega,by go_num,by rw[HF.out];exact HO.out.below ki.ar q,j.trans (q.mono (by omega))⟩
    simp[intOf];omega
   .have t1:(y.no ==d)=false:=de.2 hp;have r:=jK (p:=λp:Pk=>p.no ==d) HY.out t1;have HF:=ab r;clear r hp;go_wp2;have aG:=ae cm;have aI:=ae z;have aZ:=ae P;refine aF 9 [0,1,2,3,4,5,6,7,8] [] (h:= ?_);simp only[pick,List.map,ge,gn];repeat(go_big_quiet_step (fail))
    refine gt ?_;clear aG aI aZ;apply Exists.intro;refine aS ?_;intro wz q xx cT K;dsimp only[dP] at K;try rw[cT] at K
    clear cT xx;simp only[List.drop];clear K;have zz:=q.size;have b8:=aR q cm;have b4:=aR q z;have bh:=aR q a2;have O:=ab (HO.out.below ki.ar q);have ad:=ab (show ki wz w0.heap.size wz.heap.size y [.int .i64 y.no,.slice A2 y.its.length c2] from ki.ar.wide (ki.ar.below (⟨_,rfl,a3,HR.out⟩:ki wr m m' y [.int .i64 y.no,.slice A2 y.its.length c2]) q (by omega)) l1 (by omega));have a0:=ab (j.trans (q.mono (by omega)):Below (n.heap.size+1) w3 wz);clear HO HR cm z a2 P F q1 Z;obtain⟨M,hM⟩:∃M,M=((s.pk.take k).filter λp=>!(p.no ==d)):=⟨_,rfl⟩;rw[<-hM] at O HF a6 ⊢;clear hM;go_wp2_with(at_builtin;refine gu ?_);refine⟨?_,trivial⟩;refine aij ki.ar (by decide) rfl (.tmp 32) (.tmp 38) 23 rfl adK y rfl O.out rfl rfl (by simp[Value.oneCell']) ad.out (by omega) (by have:=a0.out.size;omega) ?_;intro v8 w8 o8 a4 b1;obtain⟨A8,c8,rfl⟩:=o8.form;simp only[aE,ga,mw,mc] at o8;go_wp2;go_roundw
    case rel=>
     refine⟨k+1,by omega,by go_num,by rw[HF.out];exact o8,a0.out.trans (a4.below (by omega) λi hi hs=> ?_)⟩;have:=(O.out.at_ hs).1;omega
    case measure=>simp[intOf];omega
  .obtain rfl:k=s.pk.length:=by omega
   rw[gc] at I;have Y:Below w.heap.size w wr:=af.trans (j.mono (by omega));have V:bq (λb=>b=n.heap.size) wr (wr.setCell ⟨n.heap.size,0,none⟩ (.slice D (s.pk.filter λp=>!(p.no ==d)).length E)):=(bq.refl (λb=>b=n.heap.size) wr).setCell (p:=⟨n.heap.size,0,none⟩) (.inl rfl) _;have S:=I.fc ki.ar V (λb hb hs=>by have:=(I.at_ hb).1;omega) (λb _ H hs=>by have al:b=n.heap.size:=hs;subst al;exact dw F (by decide) H);have nS:=Y.setCell (p:=⟨n.heap.size,0,none⟩) (by dsimp only;omega) (.slice D (s.pk.filter λp=>!(p.no ==d)).length E);have X:=F.bF 0 (.slice D (s.pk.filter λp=>!(p.no ==d)).length E);simp only[ef,ip,jt] at X;have R:=bV Z (p:=⟨n.heap.size,0,none⟩) (.slice D (s.pk.filter λp=>!(p.no ==d)).length E) (by dsimp only;omega);have L:∀{T:List TypeId} (b:Nat),27∉T->Typed wr T b->(wr.setCell ⟨n.heap.size,0,none⟩ (.slice D (s.pk.filter λp=>!(p.no ==d)).length E)).heap[b]?=wr.heap[b]?:=λb hT H=>io _ _ _ _ (by rintro rfl;exact dw F hT H);have r5:kH (wr.setCell ⟨n.heap.size,0,none⟩ (.slice D (s.pk.filter λp=>!(p.no ==d)).length E)) w0.heap.size wr.heap.size ⟨s.pk.filter λp=>!(p.no ==d),s.sn,s.lg⟩ (.slice D (s.pk.filter λp=>!(p.no ==d)).length E) (.slice B1 s.sn.length oh) (.slice C1 s.lg.length c1):=by
    refine⟨?_, ?_, ?_⟩
    .have:=gM.sl S (by omega);simpa using this
    .exact tSn.wide (bQ.T (bQ.ar.go (fE:=w0.heap.size) (hi':=n.heap.size) (λb _ _ H=>L b (by decide) H) (am _) (am _) (bQ.ar.below o3.sn j (by omega)))) (am _) (by omega)
    .exact tHd.wide (dy.T (dy.ar.go (fE:=w0.heap.size) (hi':=n.heap.size) (λb _ _ H=>L b (by decide) H) (am _) (am _) (dy.ar.below o3.lg j (by omega)))) (am _) (by omega)
   have K5:=ab R;have ax:=ab r5;have ao:=ab nS;have b6:=F.cell;have aT:=F.frozen;have bb:=Z.cell;have b3:=Z.frozen;clear I S R r5 nS X L V F q1 Z Y;go_wp2;refine pa (v:=.agg #[.slice D (s.pk.filter λp=>!(p.no ==d)).length E,.slice B1 s.sn.length oh,.slice C1 s.lg.length c1]) (by simp[results,results7,go_sem,K5.out.cell]) rfl ⟨_,_,_,rfl, ?_, ?_⟩
   .refine ax.out.go (λb hb _=>mS _ _ _ _ _ b (by omega)) (by omega) ?_;simp only[be];omega
   .exact((ao.out.setCell (by dsimp only;omega) _).setCell (by dsimp only;omega) _).setCell (by dsimp only;omega) _
end
section
variable {β:Bool}
open Go.RowKit
def arQ(s:dK)(q k:Int)(lb:ByteArray)(b7:lb.size<=maxLen)(va vb vc:Value)(w:World)(lo hi:Nat)(h:iW w lo hi s va vb vc)(aX:hi<=w.heap.size)(hl:jV s<=1099511627) :
  Calls (ah β) 7 #[.agg #[va,vb,vc],.agg (mR ⟨3,q,k,lb⟩)] w (abc w w.heap.size (dF s ⟨3,q,k,lb⟩)):=by
 rw[aa4 (l:=⟨3,q,k,lb⟩) rfl];have bh:=dL (f:=bPk) (l:=s.pk);have bt:s.pk.length<=1099511627:=by unfold jV at hl;omega
 obtain⟨C,c,rfl⟩:=bE.form h.lg;obtain⟨A,a,rfl⟩:=bE.form h.pk;obtain⟨B,b,rfl⟩:=bE.form h.sn;go_enter qF7,ntmps7;go_wp2;generalize hG:((w.alloc (.cells #[.slice A s.pk.length a,.slice B s.sn.length b,.slice C s.lg.length c] 27)).alloc (.cells #[.int .i64 3,.int .i64 q,.int .i64 k,.string lb] 29)).alloc (.cells #[.slice none 0 0,.slice none 0 0,.slice none 0 0] 27)=w0 at *;obtain⟨aL,iP,k0,cZ,eK,I,dx,ed,K,gp,jw⟩:=aes hG;refine(eT s _ _ _ w0 lo hi (h.below aL aX) (ap aX aL.size) hl).mono ?_;rintro e G ⟨v1,v2,v3,rfl,o1,L⟩;obtain⟨A1,a1,rfl⟩:=aQ.form o1.pk;obtain⟨B1,oh,rfl⟩:=aQ.form o1.sn;obtain⟨C1,c1,rfl⟩:=aQ.form o1.lg;replace I:=ak I L;replace dx:=I.cell;replace ed:=I.frozen;replace K:=ak K L;replace gp:=K.cell;replace jw:=K.frozen;replace aL:=ag aL L;have z1:=L.size;have nY:=av G (.cells #[.slice A1 s.pk.length a1,.slice B1 s.sn.length oh,.slice C1 s.lg.length c1] 27);have bG:=(ak I nY).cell;go_wp2;generalize hG:G.alloc (.cells #[.slice A1 s.pk.length a1,.slice B1 s.sn.length oh,.slice C1 s.lg.length c1] 27)=w3 at *;obtain⟨cX,b8,m0,mC,bl⟩:=mL hG;replace I:=ak I cX;replace dx:=I.cell;replace ed:=I.frozen;replace K:=ak K cX;replace gp:=K.cell;replace jw:=K.frozen;have ay:=ag aL cX;have o3:eM w3 w0.heap.size G.heap.size s _ _ _:=⟨bD.ar.below o1.pk cX (am _),bQ.ar.below o1.sn cX (am _),dy.ar.below o1.lg cX (am _)⟩;have z3:=cX.size;obtain⟨op,os,ol⟩:=o3;have HO:=ab op;have b9:w.heap.size+1+1<w0.heap.size:=by omega
 go_loopw [8] (λii wr=>∃j:Nat,j<=s.pk.length/\ii=.int .i64 j/\bD wr w0.heap.size G.heap.size (lW (fA ⟨3,q,k,lb⟩) s.pk j) [.slice A1 s.pk.length a1]/\bq (λb=>w0.heap.size<=b/\b<G.heap.size/\Typed w3 [60] b) w3 wr) (λii _=>s.pk.length-(intOf ii).toNat)
 case atStart=>exact⟨0,fb _,rfl,by rw[aeW];exact HO.out,bq.refl _ _⟩
 case round=>
  obtain⟨j,hj,rfl,ho,F⟩:=hrel;have zr:=F.size;have q0:=aP m0 F λJ=>by omega
  have q1:=aP I F λJ=>by omega
  have q2:=aP K F λJ=>by omega
  have cm:wr.cell? ⟨G.heap.size,0,none⟩=some (.slice A1 s.pk.length a1):=q0.cell 0;have a2:wr.cell? ⟨w.heap.size+1,1,none⟩=some (.int .i64 q):=q1.cell 1;have M:wr.cell? ⟨w.heap.size+1,2,none⟩=some (.int .i64 k):=q1.cell 2;have ax:wr.cell? ⟨w.heap.size+1,3,none⟩=some (.string lb):=q1.cell 3;by_cases a8:j<s.pk.length
  .obtain⟨x,cL⟩:=aq a8;have an:=acK (fA ⟨3,q,k,lb⟩) cL;have af:=af5 (fA ⟨3,q,k,lb⟩) s.pk j;obtain⟨g,c',e,bn,bL,bk,bb,bO⟩:=aQ.some_ ho (by rw[af];omega);simp only[nf] at e;obtain⟨rfl, -,rfl⟩:=e;have HX:=ab cL;have b4:=ab an;have z:=aa7 (fA ⟨3,q,k,lb⟩) cL;replace z:=ab z;obtain⟨m,m',es,l1,l2,l3,bx,⟨v2,rfl,a6,n⟩,E,a0⟩:=aQ.at_ ki.ar (by decide) ho b4.out;obtain⟨A2,c2,rfl⟩:=aQ.form n;obtain⟨_,lO,ji⟩:=(aaZ.l n).len_;unfold maxLen at ji;have N:wr.cell? ⟨g,j*2,none⟩=some (.int .i64 x.no):=E 0 _ rfl;have O:wr.cell? ⟨g,j*2+1,none⟩=some (.slice A2 x.its.length c2):=E 1 _ rfl;replace n:=ab n;replace a0:=ab a0;by_cases P:x.no=q
   .have t1:(x.no ==q)=true:=nF.2 P;replace P:=ab P;by_cases H:0<=k/\k<(x.its.length:Int)
    .have jM:(decide (0<=k)&&decide (k<=(x.its.length:Int)-1))=true:=by rw[ff];exact⟨dj H.1,dj (by omega)⟩
     have U:=ab jM;replace H:=ab H;have aT:IntKind.i64.wrap ((x.its.length:Int)-1)=(x.its.length:Int)-1:=vQ _ (by omega);go_wp2;have aG:=ae cm;have aI:=ae N;have aZ:=ae O;have cY:=ae a2;have fU:=ae M;refine aF 22 [0,1,2,3,4,5,6,7,8,9,10,11,12,13,14,15,16,17,18,19] [20,21] (h:= ?_);simp only[pick,List.map,ge,gn];repeat(go_big_quiet_step (fail))
     refine gt ?_;apply Exists.intro;apply dQ (.bool true)
     .intro y o Qx d;replace d:=ab d;go_wp2;refine(kT _ _ _ y.to).mono ?_;rintro e wy ⟨rfl,rfl⟩;rw[U.out];go_wp2;exact d.out _ (fd _ _)
     apply dQ (.bool true)
     .intro y o Qx d;replace d:=ab d;go_wp2;exact d.out _ (fd _ _)
     simp only[Act.put,ef,ip,jt];refine aS ?_;intro wz r xx cT o;dsimp only[dP] at o;try rw[cT] at o
     simp only[List.drop];have zz:=r.size;obtain⟨Q,Z⟩:=qe H.out.1;have aY:Q<x.its.length:=by have:=H.out.2;omega
     obtain⟨y,cG⟩:=aq aY;obtain⟨gi,ci,ei,b6,b0,br,b5,al⟩:=aQ.some_ n.out (by omega);simp only[nf] at ei;obtain⟨rfl, -,rfl⟩:=ei;have ad:=aR r cm;have bf:=aR r N;have ao:=aR r O;have a3:=aR r M;have a9:=aR r ax;have b3:k=((Q:Nat):Int):=Z;have R:fA ⟨3,q,k,lb⟩ x=⟨x.no,x.its.set Q ⟨y.n,lb⟩⟩:=by
      unfold fA;rw[dq ⟨P.out,H.out.1,H.out.2⟩,nJ (x:=y) (by dsimp only;rw[Z];exact cG)];dsimp only;rw[Z];rfl
     replace R:=ab R;rw[b3] at a3;go_wp2;have aG:=ae ad;have aI:=ae ao;have aZ:=ae a3;have cY:=ae a9;refine aF 10 [0,1,2,3,4,5,6,7,8,9] [] (h:= ?_);simp only[pick,List.map,ge,gn];repeat(go_big_quiet_step (fail))
     refine gt ?_;apply Exists.intro;refine aS ?_;intro wy hy xx cT o;dsimp only[dP] at o;try rw[cT] at o
     simp only[List.drop];have zy:=hy.size;have L:=ag r hy;have D:=aaZ.ar.below n.out L (by omega);obtain⟨n1,n2,bi, -, -, -, -,⟨rfl,ba⟩,aa, -⟩:=aQ.at_ (bP.ar mo) (by decide) D cG;have bo:wy.cell? ⟨gi,Q*2+1,none⟩=some (.string y.b):=aa 1 _ rfl;have bz:=aQ.frozen D (Q*2+1);have a5:=aQ.put (j:=1) (u:=.string lb) (bP.ar mo) (by decide) D cG (y:=(⟨y.n,lb⟩:It)) (by decide) rfl (λw' lo hi es hh=>⟨by rw[hh.1];rfl,hh.2.1,b7⟩);have b1:Typed wr [60] gi:=⟨_,qv,b5,al⟩;have a4:bq (λb=>m<=b/\b<m'/\Typed wr [60] b) wr (wy.setCell ⟨gi,Q*2+1,none⟩ (.string lb)):=
      (bq.aN (S:=λb=>m<=b/\b<m'/\Typed wr [60] b) L).setCell (p:=⟨gi,Q*2+1,none⟩) (.inl ⟨b6,b0,b1⟩) (.string lb)
     have nU:=a0.out _ ⟨x.no,x.its.set Q ⟨y.n,lb⟩⟩ a4 ⟨.slice (some ⟨gi,0,none⟩) x.its.length c2,rfl,a6,a5⟩;rw[<-R.out,z.out] at nU;have Y:=F.trans a4 λb hb J=>⟨by omega,by omega,lf F (T:=[60]) (λt ht=>ht) (show b<G.heap.size by omega) (by omega) (λhs=>hs.2.2) J.2.2⟩;replace nU:=ab nU;replace Y:=ab Y;go_wp2;go_roundw
     case rel=>exact⟨j+1,by omega,by go_num,nU.out,Y.out⟩
     simp[intOf];omega
    .have jM:(decide (0<=k)&&decide (k<=(x.its.length:Int)-1))=false:=by
      rw[sI];by_cases h0:0<=k
      .exact .inr (da λh=>H ⟨h0,by omega⟩)
      .exact .inl (da h0)
     have U:=ab jM;replace H:=ab H;have aT:IntKind.i64.wrap ((x.its.length:Int)-1)=(x.its.length:Int)-1:=vQ _ (by omega);go_wp2;have aG:=ae cm;have aI:=ae N;have aZ:=ae O;have cY:=ae a2;have fU:=ae M;refine aF 22 [0,1,2,3,4,5,6,7,8,9,10,11,12,13,14,15,16,17,18,19] [20,21] (h:= ?_);simp only[pick,List.map,ge,gn];repeat(go_big_quiet_step (fail))
     refine gt ?_;apply Exists.intro;apply dQ (.bool false)
     .intro y o Qx d;replace d:=ab d;go_wp2;refine(kT _ _ _ y.to).mono ?_;rintro e wy ⟨rfl,rfl⟩;rw[U.out];go_wp2;exact d.out _ (fd _ _)
     apply dQ (.bool false)
     .intro y o Qx d;replace d:=ab d;go_wp2;exact d.out _ (fd _ _)
     simp only[Act.put,ef,ip,jt];refine aS ?_;intro wz r xx cT o;dsimp only[dP] at o;try rw[cT] at o
     simp only[List.drop];have zz:=r.size;have kg:=lr (fA ⟨3,q,k,lb⟩) HX.out (px (λh=>H.out h.2));have HS:=ab kg;have eU:=bD.ar.below ho r (by omega);have W:=F.trans (bq.aN (S:=λ_=>False) r) λ_ _ h=>h.elim;have V:=ab eU;have X:=ab W;go_wp2;go_roundw
     case rel=>exact⟨j+1,by omega,by go_num,by rw[HS.out];exact V.out,X.out⟩
     simp[intOf];omega
   .have t1:(x.no ==q)=false:=de.2 P;replace P:=ab P;go_wp2;have aG:=ae cm;have aI:=ae N;have aZ:=ae O;have cY:=ae a2;have fU:=ae M;refine aF 22 [0,1,2,3,4,5,6,7,8,9,10,11,12,13,14,15,16,17,18,19] [20,21] (h:= ?_);simp only[pick,List.map,ge,gn];repeat(go_big_quiet_step (fail))
    refine gt ?_;apply Exists.intro;apply dQ (undef)
    .intro y o Qx d;replace d:=ab d;go_wp2;exact d.out _ (fd _ _)
    apply dQ (.bool false)
    .intro y o Qx d;replace d:=ab d;go_wp2;exact d.out _ (fd _ _)
    refine aS ?_;intro wz r xx cT o;dsimp only[dP] at o;try rw[cT] at o
    simp only[List.drop];have zz:=r.size;have kg:=lr (fA ⟨3,q,k,lb⟩) HX.out (px (λh=>P.out h.1));have HS:=ab kg;have eU:=bD.ar.below ho r (by omega);have W:=F.trans (bq.aN (S:=λ_=>False) r) λ_ _ h=>h.elim;have V:=ab eU;have X:=ab W;go_wp2;go_roundw
    case rel=>exact⟨j+1,by omega,by go_num,by rw[HS.out];exact V.out,X.out⟩
    simp[intOf];omega
  .obtain rfl:j=s.pk.length:=by omega
   rw[af4] at ho;have o2:=bQ.ar.go (w':=wr) (fE:=w0.heap.size) (hi':=G.heap.size) (λb L b2 ht=>F.block b (by omega) λJ=>gz ht (by decide) J.2.2) (am _) (am _) os;have o3:=dy.ar.go (w':=wr) (fE:=w0.heap.size) (hi':=G.heap.size) (λb L b2 ht=>F.block b (by omega) λJ=>gz ht (by decide) J.2.2) (am _) (am _) ol;have nS:Below w.heap.size w wr:=ay.trans (F.below (by omega) λi hi J=>by omega);have r5:kH wr w0.heap.size G.heap.size ⟨s.pk.map (fA ⟨3,q,k,lb⟩),s.sn,s.lg⟩ (.slice A1 s.pk.length a1) (.slice B1 s.sn.length oh) (.slice C1 s.lg.length c1):=⟨bD.T ho,bQ.T o2,dy.T o3⟩;have bp:=q0.cell;have a7:=q2.cell;have bw:=q2.frozen;have z5:G.heap.size<=wr.heap.size:=by omega
   replace r5:=ab r5;replace nS:=ab nS;go_wp2;refine pa (v:=.agg #[.slice A1 s.pk.length a1,.slice B1 s.sn.length oh,.slice C1 s.lg.length c1]) (by simp[results,results7,go_sem,a7]) rfl ⟨_,_,_,rfl, ?_, ?_⟩
   .refine r5.out.go (λb hb _=>mS _ _ _ _ _ b (by omega)) (by omega) ?_;simp only[be];omega
   .exact((nS.out.setCell (by dsimp only;omega) _).setCell (by dsimp only;omega) _).setCell (by dsimp only;omega) _
def adC(s:dK)(l:iX)(a d c:Value)(w:World)(e hi:Nat)(h:iW w e hi s a d c)(g:hi<=w.heap.size)(f:jV s<=1099511627)(q:l.b.size<=maxLen) :
  Calls (ah β) 7 #[.agg #[a,d,c],.agg (mR l)] w (abc w w.heap.size (dF s l)):=by
 obtain⟨k,n,m,b⟩:=l;by_cases j:k=1
 .subst j;exact arP s n m b a d c w e hi h g f
 by_cases i:k=2
 .subst i;exact arN s n m b a d c w e hi h g f
 by_cases o:k=3
 .subst o;exact arQ s n m b q a d c w e hi h g f
 by_cases p:k=4
 .subst p;exact arO s n m b a d c w e hi h g f
 rw[aa6 (l:=⟨k,n,m,b⟩) j i o p];exact arM s k n m b j i o p a d c w e hi h g f
end
section
open Go.RowKit
def aft:Int->List Hd->Int
 |a,[]=>a
 |a,x::l=>aft (a*64+21*x.b+x.s) l
def alM(l:List Hd):Int:=aft 0 l
def ajm:∀{l:List Hd} {a b:Int},aft a l=aft b l->a=b
 |[],_,_,h=>h
 |x::l,a,b,h=>by
  have h:aft (a*64+21*x.b+x.s) l=aft (b*64+21*x.b+x.s) l:=h;have:=ajm h;omega
def af9:∀{l:List Hd} {n:Nat} {a:Int},(∀x∈l,aAs x)->n<l.length->aft a (se l n ko)≠aft a l
 |[],n,_,_,h=>by simp at h
 |x::l,0,a,hk,_=>λe=>by
  rw[alI] at e;have e:aft (a*64+21*(ko x).b+(ko x).s) l=aft (a*64+21*x.b+x.s) l:=e;have:=ajm e;obtain⟨i,g⟩:=auF (hk x (by simp));have:=hk x (by simp);obtain⟨⟨c,d⟩,f,j⟩:=this;omega
 |x::l,n+1,a,hk,h=>λe=>by
  rw[alJ] at e;exact af9 (l:=l) (n:=n) (λy b=>hk y (by simp[b])) (by simpa using h) e
def auH(long sum:Int)(l:List Hd):Int×Int×Int:=if(l.length:Int)<long\/long<0 then(long,sum,1) else if alM (l.take long.toNat)=sum then((l.length:Int),alM l,0) else(long,sum,2)
end
section
variable {β:Bool}
open Go.RowKit
def am4:∀(l:List Hd) (a:Int),a<=l.foldl (λa h=>max a (h.s+1)) a/\∀x∈l,x.s+1<=l.foldl (λa h=>max a (h.s+1)) a
 |[],a=>⟨uP _,λx b=>(by cases b)⟩
 |y::l,a=>by
  obtain⟨d,c⟩:=am4 l (max a (y.s+1));show a<=l.foldl (λa h=>max a (h.s+1)) (max a (y.s+1))/\∀x∈y::l,x.s+1<=l.foldl (λa h=>max a (h.s+1)) (max a (y.s+1));refine⟨by omega,λx b=> ?_⟩;rcases oE.1 b with rfl|b
  .omega
  .exact c x b
def auI :∀x∈s.lg,x.s<eX s:=λx a=>by
 have b:x.s+1<=fR s.lg:=(am4 s.lg 1).2 x a;unfold eX;cases s.sn.getLast? with
 |none=>show x.s<fR s.lg;omega
 |some y=>show x.s<max (fR s.lg) (y.no+1);omega
def iB.asc(h:iB s):s.lg.Pairwise λa b=>a.s<b.s:=by
 induction h with
 |nil=>exact .nil
 |save j i g f c=>
  refine vY.2 ⟨c,tY _ _,λx e y d=> ?_⟩;rw[pe.1 d];exact auI x e
def found(h:iB s){L:iX}(k:aoM L s.lg.length) :
  (L.k=2->L.n<s.lg.length->auH s.lg.length (alM s.lg) (dF s L).lg=((s.lg.length:Int),alM s.lg,1))/\
  (L.k=4->L.n<s.lg.length->auH s.lg.length (alM s.lg) (dF s L).lg=((s.lg.length:Int),alM s.lg,2))/\
  (¬(L.k=2/\L.n<s.lg.length)->¬(L.k=4/\L.n<s.lg.length)->(dF s L).lg=s.lg):=by
 refine⟨λe b=> ?_,λf b=> ?_,λe f=> ?_⟩
 .by_cases g:0<=L.n
  .rw[nK e ⟨g,by omega⟩];unfold auH;rw[dq (.inl (by rw[fa];omega))]
  .exfalso;have:=k.n.1;omega
 .have g:=k.n.1;rw[aa5 f ⟨g,b⟩];unfold auH;rw[bv (by rw[mQ];omega),bv];show ¬alM ((se s.lg L.n.toNat ko).take (s.lg.length:Int).toNat)=_;rw[tw,pm (by rw[mQ];exact am _)];exact af9 h.wf.lg (by omega)
 .by_cases i:L.k=1
  .rw[aa3 i]
  by_cases a:L.k=2
  .by_cases b:0<=L.n/\L.n<=s.lg.length
   .rw[nK a b];have:L.n.toNat=s.lg.length:=by
     by_cases d:L.n<s.lg.length
     .exact absurd ⟨a,d⟩ e
     .omega
    rw[this,gc]
   .rw[lU a b]
  by_cases j:L.k=3
  .rw[aa4 j]
  by_cases c:L.k=4
  .by_cases b:0<=L.n/\L.n<s.lg.length
   .exact absurd ⟨c,b.2⟩ f
   .rw[lV c b]
  rw[aa6 i a j c]
def aga{c:Type}(q:c->Bool)(a:c->Int)(n:Int)(d:∀x,a x=n->q x=true):∀l:List c,(l.filter q).find? (λx=>a x ==n)=l.find? (λx=>a x ==n)
 |[]=>rfl
 |y::l=>by
  rw[rT];by_cases b:a y=n
  .rw[rO,dq (d y b),rT,show(a y ==n)=true from nF.2 b]
  .rw[show(a y ==n)=false from de.2 b,<-aga q a n d l];by_cases e:q y=true
   .rw[rO,dq e,rT,show(a y ==n)=false from de.2 b]
   .rw[rO,bv e]
def old(h:iB s){x:Hd}(m:k<=s.lg.length)(hi:i<k)(c:s.lg[i]?=some x):eu 7 (dF s ⟨2,k,0,⟨#[]⟩⟩) x.s=eu 7 s x.s/\(dF s ⟨2,k,0,⟨#[]⟩⟩).lg=s.lg.take k:=by
 rw[nK rfl ⟨by show(0:Int)<=k;omega,by show(k:Int)<=_;omega⟩];refine⟨?_,rfl⟩;unfold eu;show(match(s.sn.filter λy=>!((s.lg.drop k).any λh=>h.s ==y.no)).find? (λy=>y.no ==x.s) with|some y=>ku 7 (acN s.pk) y.all|none=>none)=_
 suffices kh:∀y:Sn,y.no=x.s->(!((s.lg.drop k).any λh=>h.s ==y.no))=true by
  rw[aga _ (λy:Sn=>y.no) x.s kh s.sn];cases s.sn.find? (λy=>y.no ==x.s)<;>rfl
 intro y a;have a:y.no=x.s:=a;rw[a,vk,<-lP,List.any_eq_true];rintro⟨z,l,d⟩;have d:=nF.1 d;obtain⟨j,b⟩:=rS l;rw[th] at b;have e:=vx.1 h.asc i (k+j) (aC c) (aC b) (by omega);have f:=(qm.1 c).2;have g:=(qm.1 b).2;rw[f,g] at e;omega
end
end Go.Proofs.YtbeafkpaghapeaaGreatDoor
namespace Go.Proofs.YtbeafkpaghapeaaGreatDoor.lawna
open Go.RowKit
def walk(hg:Glo w)(l:List Int)(h:bE jC 1 w 0 w.heap.size l [v])(w':World)(hw:w'=w:=by rfl) :
  Calls (ah true) 3 #[v] w' λe w'=>e=.returned (.bool true)/\Below w.heap.size w w':=by
 subst hw;obtain⟨A,c,rfl⟩:=h.form;have H:l.length<=maxLen:=by obtain⟨_,h1,h2⟩:=h.len_;omega
 unfold maxLen at H;by_cases b7:1048576<l.length
 .go_enter qF3,ntmps3;go_wp2;go_ret;exact⟨rfl,fd _ _⟩
 go_enter qF3,ntmps3;go_wp2;refine(adB A _ c l _ h).mono ?_;rintro e w1 ⟨va,vb,vc,s,L,rfl,os,q,hL,bb⟩;replace q:=ab q;obtain⟨⟨A1,a1,rfl⟩,⟨B1,b1,rfl⟩,C1,c1,rfl⟩:=os.form;replace hL:=ab hL;clear H b7;have s1:=bb.size;have ay:L.b.size<=maxLen:=by have:=hL.out.bs;unfold maxLen;omega
 have N:=ab q.out.wf.sm;have an:=ab (N.out.lie hL.out.bs);have a9:Hid (jV s<=1099511627):=ab (by have:=N.out.aul;omega);have bw:Hid (jV (dF s L)<=1099511627):=ab (by have:=an.out.aul;omega);go_wp2;generalize hG:(w1.alloc (.cells #[.slice A1 s.pk.length a1,.slice B1 s.sn.length b1,.slice C1 s.lg.length c1] 27)).alloc (.cells #[.int .i64 L.k,.int .i64 L.n,.int .i64 L.m,.string L.b] 29)=w2 at *;obtain⟨B,bo,m,r,eK,o,S,ed⟩:=oV hG;clear hG;have V:=os.below B (am _);replace B:=ag bb B;clear os bb;refine(adA s L _ _ _ w2 _ _ V.l (by omega) a9.out ay).mono ?_;rintro e w3 ⟨u1,u2,u3,rfl,Y,X⟩;replace m:=ak m X;replace r:=m.cell;replace eK:=m.frozen;replace o:=ak o X;replace S:=o.cell;replace ed:=o.frozen;have al:=V.below X (by omega);have ad:=ag B X;have z3:=X.size;clear V B X;obtain⟨A3,a3,rfl⟩:=aQ.form Y.pk;obtain⟨B3,aT,rfl⟩:=aQ.form Y.sn;obtain⟨C3,c3,rfl⟩:=jW.form Y.lg;obtain⟨x,I⟩:∃x,x=dF s L:=⟨_,rfl⟩;rw[<-I] at Y ⊢;have G:=ab I;clear I;go_wp2;generalize hG:w3.alloc (.cells #[.slice A3 x.pk.length a3,.slice B3 x.sn.length aT,.slice C3 x.lg.length c3] 27)=w4 at *;obtain⟨j,bx,m0,K,b2⟩:=mL hG;clear hG;replace m:=ak m j;replace r:=m.cell;replace eK:=m.frozen;replace o:=ak o j;replace S:=o.cell;replace ed:=o.frozen;have T:=al.below j (by omega);have o4:=Y.below j (am _);have ax:=ag ad j;have z4:=j.size;clear al Y ad j;have f0:=r 0;have F:=r 1;have f2:=r 2;have g0:=S 0;have g1:=S 1;have g2:=S 2;have g3:=S 3;have ao:=K 0;have a6:=K 1;have a2:=K 2;have aG:=ae f0;have aI:=ae F;have aZ:=ae f2;have cY:=ae g0;have fU:=ae g1;have ly:=ae g2;have aX:=ae g3;have b3:=ae ao;have b6:=ae a6;have bf:=ae a2;refine aF 6 [0,1,2] [3,4,5] (h:= ?_);simp only[pick,List.map,ge,gn];repeat(go_big_quiet_step (fail))
 refine gt ?_;clear aG aI aZ cY fU ly aX b3 b6 bf;apply Exists.intro;apply aU (λv w'=>∃va vb vc,v=.agg #[va,vb,vc]/\kH w' w4.heap.size w'.heap.size (dF s L) va vb vc)
 .rfl
 .exact λv x y ⟨va,vb,vc,e,h⟩ f=>⟨va,vb,vc,e,(h.below f (am _)).wide (am _) f.size⟩
 .intro y b n a;replace a:=ab a;clear b;have hd:=T.below y.ok (by omega);have af:=y.ok.size;go_wp2;refine(adC s L _ _ _ y.to _ _ hd.l (by omega) a9.out ay).mono ?_;rintro e wy ⟨u5,u6,u7,rfl,r5,R⟩;go_wp2;exact a.out _ _ R ⟨u5,u6,u7,rfl,r5.wide af (am _)⟩
 intro vw;apply dQ (.bool true)
 .intro y b n a;replace a:=ab a;obtain⟨v5,v6,v7,rfl,O⟩:=b.1 (by kernel_rfl);clear b;have af:=y.ok.size;go_wp2;refine(ajk x (dF s L) _ _ _ _ _ _ y.to _ _ _ _ (o4.below y.ok (by omega)).l O.l (by omega) (am _) true (by simp only[tp];exact G.out)).mono ?_;rintro e wy ⟨rfl,R⟩;go_wp2;exact a.out _ R
 apply dQ (.bool false)
 .intro y b n a;replace a:=ab a;clear b;go_wp2;exact a.out _ (fd _ _)
 refine aS ?_;intro w5 J xx M b;dsimp only[dP] at b;try rw[M] at b
 clear M xx;simp only[List.drop];clear f0 F f2 g0 g1 g2 g3 ao a6 a2 b;replace m:=ak m J;replace r:=m.cell;replace eK:=m.frozen;replace o:=ak o J;replace S:=o.cell;replace ed:=o.frozen;replace m0:=ak m0 J;replace K:=m0.cell;replace b2:=m0.frozen;have P:=T.below J (by omega);have O:=o4.below J (by omega);have gW:=ag ax J;have z5:=J.size;clear T o4 ax J;have U:=q.out.one;have HO:=ab U;have b4:Hid (∀p∈x.pk,1<=p.its.length):=ab (by rw[G.out];exact auE U L);have bk:Hid (SmS x):=ab (by rw[G.out];exact an.out);have bl:=hg.below gW;clear U;have bp:s.sn.length<=9223372036854775807:=by obtain⟨_,h1,h2⟩:=bE.len_ P.l.sn;unfold maxLen at h2;omega
 go_wp2;go_loopw [6] (λii wr=>∃k:Nat,k<=s.sn.length/\ii=.int .i64 k/\Below w5.heap.size w5 wr) (λii _=>s.sn.length-(intOf ii).toNat)
 case atStart=>exact⟨0,fb _,rfl,fd _ _⟩
 case round=>
  obtain⟨k,hk,rfl,g⟩:=hrel;have bh:=ak m g;have b9:=ak m0 g;have r:=bh.cell;by_cases b0:k<s.sn.length
  .obtain⟨y,cG⟩:=aq b0;obtain⟨bb,br,C,d,aL,_,_,bt,D,bn, -⟩:=alG (gQ.loc.below P.l.sn g (by omega)) cG;subst aL;have a0:=P.below g (by omega);have a8:=O.below g (by omega);have W:=bl.below g;have zr:=g.size;have f0:=r 0;have F:=r 1;have f2:=r 2;clear bn;go_wp2;have aG:=ae f0;have aI:=ae F;have aZ:=ae f2;have cY:=ae D;refine aF 12 [0,1,2,3,4,5,6] [7,8,9,10,11] (h:= ?_);simp only[pick,List.map,ge,gn];repeat(go_big_quiet_step (fail))
   refine gt ?_;clear aG aI aZ cY;apply Exists.intro;apply aU (alH (eu 7 s y.no) wr.heap.size)
   .rfl
   .exact λv x y h f=>h.below f
   .intro z b n a;replace a:=ab a;clear b;have hz:=z.ok.size;go_wp2;refine((adi s N.out HO.out y.no _ _ _ _ _ z.to (W.below z.ok) (by have:=z.ok.size;omega) (a0.below z.ok (by omega)).l)).mono ?_;rintro e wy ⟨u,rfl,O,Q,b5⟩;go_wp2;exact a.out _ _ b5 ⟨_,rfl,O.base (by omega),Q⟩
   intro v7;apply aU (alH (eu 7 s y.no) wr.heap.size)
   .rfl
   .exact λv x y h f=>h.below f
   .intro z b n a;replace a:=ab a;have h7:=b.1 (by kernel_rfl);go_wp2;exact a.out _ _ (fd _ _) h7
   intro v8;apply aU (ahu (eu 7 s y.no) wr.heap.size)
   .rfl
   .exact λv x y h f=>h.below f
   .intro z b n a;replace a:=ab a;obtain⟨u,rfl,h8⟩:=b.1 (by kernel_rfl);go_wp2;exact a.out _ _ (fd _ _) h8
   intro v9;apply dQ (.bool ((eu 7 s y.no)).isSome)
   .intro z b n a;replace a:=ab a;obtain⟨u,rfl,h8⟩:=b.2.1 (by kernel_rfl);go_wp2;exact a.out _ (fd _ _)
   apply aU (ahu (eu 7 s y.no) wr.heap.size)
   .rfl
   .exact λv x y h f=>h.below f
   .intro z b n a;replace a:=ab a;have h9:=b.1 (by kernel_rfl);go_wp2;exact a.out _ _ (fd _ _) h9
   intro aY;refine aS ?_;intro w6 i xx M b;dsimp only[dP] at b;try rw[M] at b
   clear M xx;have a5:=b.1;clear b;simp only[List.drop];have bi:=ag g i;replace D:=aR i D;replace F:=aR i F;have ba:=ak b9 i;have K:=ba.cell;have g0:=K 0;have g1:=K 1;have g2:=K 2;have a7:=a8.below i (by omega);have aa:=W.below i;have z6:=i.size;clear f0 f2 a0 a8 W;go_wp2;have aG:=ae F;have aI:=ae g0;have aZ:=ae g1;have cY:=ae g2;have fU:=ae D;refine aF 12 [0,1,2,3,4,5,6] [7,8,9,10,11] (h:= ?_);simp only[pick,List.map,ge,gn];repeat(go_big_quiet_step (fail))
   refine gt ?_;clear aG aI aZ cY fU;apply Exists.intro;apply aU (alH (eu 7 x y.no) w6.heap.size)
   .rfl
   .exact λv x y h f=>h.below f
   .intro z b n a;replace a:=ab a;clear b;have hz:=z.ok.size;go_wp2;refine((adi x bk.out b4.out y.no _ _ _ _ _ z.to (aa.below z.ok) (by have:=z.ok.size;omega) (a7.below z.ok (by omega)).l)).mono ?_;rintro e wy ⟨u,rfl,O,Q,b5⟩;go_wp2;exact a.out _ _ b5 ⟨_,rfl,O.base (by omega),Q⟩
   intro v7;apply aU (alH (eu 7 x y.no) w6.heap.size)
   .rfl
   .exact λv x y h f=>h.below f
   .intro z b n a;replace a:=ab a;have h7:=b.1 (by kernel_rfl);go_wp2;exact a.out _ _ (fd _ _) h7
   intro v8;apply aU (ahu (eu 7 x y.no) w6.heap.size)
   .rfl
   .exact λv x y h f=>h.below f
   .intro z b n a;replace a:=ab a;obtain⟨u,rfl,h8⟩:=b.1 (by kernel_rfl);go_wp2;exact a.out _ _ (fd _ _) h8
   intro v9;apply dQ (.bool ((eu 7 x y.no)).isSome)
   .intro z b n a;replace a:=ab a;obtain⟨u,rfl,h8⟩:=b.2.1 (by kernel_rfl);go_wp2;exact a.out _ (fd _ _)
   apply aU (ahu (eu 7 x y.no) w6.heap.size)
   .rfl
   .exact λv x y h f=>h.below f
   .intro z b n a;replace a:=ab a;have h9:=b.1 (by kernel_rfl);go_wp2;exact a.out _ _ (fd _ _) h9
   intro aY;refine aS ?_;intro w7 Z xx M b;dsimp only[dP] at b;try rw[M] at b
   clear M xx;have E:=b.1;clear b;simp only[List.drop];have a4:=ag bi Z;have T6:=ab (a5.below Z);replace E:=ab E;clear F g0 g1 g2 D a5 a7 aa;cases I:eu 7 x y.no with
   |none=>
    clear I;rw[show(none:Option (List Nd)).isSome=false from rfl];go_wp2;go_roundw
    case rel=>exact⟨k+1,by omega,by go_num,a4⟩
    simp[intOf];omega
   |some t=>
    have hs:=yD q.out L (G.out▸I);have e1:(eu 7 s y.no).isSome=true:=by rw[hs];rfl
    have H6:=ab T6.out.nds;have H7:=ab E.out.nds;rw[hs] at H6;rw[I] at H7;rw[e1,show(some t).isSome=true from rfl];clear I hs e1 T6 E;go_wp2;refine(arK t t _ _ _ _ _ _ _ H6.out H7.out (am _) (am _) true (by simp)).mono ?_;rintro e w8 ⟨rfl,b8⟩;go_wp2;go_roundw
    case rel=>exact⟨k+1,by omega,by go_num,ag a4 b8⟩
    simp[intOf];omega
  .obtain rfl:k=s.sn.length:=by omega
   have F:=r 1;go_wp2;go_ret;exact⟨rfl,ag gW g⟩
end Go.Proofs.YtbeafkpaghapeaaGreatDoor.lawna
namespace Go.Proofs.YtbeafkpaghapeaaGreatDoor
section
open Go.RowKit Go.ChangeShapes Go.WideShapes Go.ChangeAt
section
variable {H:Type} {enc:TypeId×Value->H} {P:Program}
def aas(i:laidOutB P=true){W l:World}{e:Nat->Bool}:∀{g:List TypeId} {j:List Value} {k:List (DataW H)} {f:List MemPlace},
  (∀t∈g,P.readableRec t=true/\t<P.types.size)->DataW.TrodAll enc P W 0 (λ_=>true) true g j k f->(∀p∈f,W.sameAt l p)->(∀p∈f,e p.block=true)->
  DataW.TrodAll enc P l 0 e true g j k f
 |[],_,_,_,_,h,_,_=>by
  obtain⟨rfl,rfl,rfl⟩:=trodAll_nil h;exact trodAll_mk0
 |t::g,_,_,_,hr,h,hs,hsp=>by
  obtain⟨v,q,d,m,a,b,rfl,rfl,rfl,u,n⟩:=trodAll_cons h;obtain⟨o,s⟩:=hr t (by simp);refine trodAll_cons_mk (WideElems.Trod_stays i o s u (λp c=>hs p (by simp[c])) (λp c=>hsp p (by simp[c]))) ?_;exact aas i (λt r=>hr t (by simp[r])) n (λp c=>hs p (by simp[c])) (λp c=>hsp p (by simp[c]))
def ac0{w:World}{base:Nat}{c:Nat->Bool}{e:Bool}:∀{f:List TypeId} {m:List Value} {g:List (DataW H)} {l:List MemPlace},DataW.TrodAll enc P w base c e f m g l->g.length=f.length
 |[],_,_,_,h=>by
  obtain⟨_,rfl,_⟩:=trodAll_nil h;rfl
 |t::f,_,_,_,h=>by
  obtain⟨v,k,d,i,a,b,rfl,rfl,rfl,n,j⟩:=trodAll_cons h;rw[ga,ga,ac0 j]
end
def own:ownKnob prog.godebug=none:=by kernel_rfl
def xr:laidOutB prog=true:=by kernel_rfl
section
variable {H:Type} {enc:TypeId×Value->H} {P:Program}
def aoQ {base:Nat} {n:Bool} {r:Reach} {t e:TypeId} {k:IntKind} {d:DataW H} {E:fV Int} (D:P.underlying t=some (.slice e)) (U:P.underlying e=some (.int k)) (X:P.cellsOf e=1)
  (N:∀(w:World) (L l:Nat) (x:Int),(Lit.int k x).wf=true->E w L l x [.int k x])
  (V:Value.okWide P w r Z t v) (h:DataW.Trod enc P w base Q n t v d p) (s:∀x∈p,x.block<w.heap.size) :
  ∃S:List Int,bE E 1 w 0 w.heap.size S [v]:=by
 obtain⟨a0,len,cap,rfl⟩:=okWide_slice D V;obtain⟨J,R⟩:=h;rcases open_ints D U X R with⟨c,B⟩|⟨a,G,F,m,c,_,Y,T,I,B,g,z⟩
 .simp[Value.cells] at c;obtain⟨rfl,rfl,rfl⟩:=c;exact⟨[],none,0,rfl,am _,by unfold maxLen;omega,λh=>absurd h (by simp)⟩
 .simp[Value.cells] at c;obtain⟨rfl,rfl,rfl⟩:=c;have f:(m.take len).length=len:=by
   rw[fa,I];split<;>omega
  refine⟨m.take len,some a,cap,by rw[f],by omega,T,λO=> ?_⟩;rw[f] at O;have M:len<=m.length:=by rw[I];split<;>omega
  obtain⟨b,q,rfl,y⟩:=ints_at g (by omega);refine⟨b,q,rfl,fb _, ?_,λi x l=> ?_⟩
  .simp only[uT] at B;have C:MemPlace.cell b q∈p:=by
    rw[B.2];have:m.length=(m.length-1)+1:=by omega
    simp[MemPlace.row];omega
   exact s _ C
  .have o:i<len:=by have:=aC l;omega
   have K:m.getD i 0=x:=by
    rw[sW o] at l;rw[sL,l];rfl
   refine⟨[.int k x],rfl,N _ _ _ _ (z x ?_),λj u A=> ?_⟩
   .rw[sW o] at l;exact db l
   .have W:j=0:=by have:=aC A;simpa using this
    subst W;simp at A;subst A;have:=y i (by omega);rw[K] at this;simpa using this
end
def wA {enc:TypeId×Value->U} {base:Nat} {a:Bool} {r:Reach} {d:DataW U} 
  (c:Value.okWide prog w r Z 22 v) (h:DataW.Trod enc prog w base Q a 22 v d p) (b:∀x∈p,x.block<w.heap.size):∃e:List Int,bE jC 1 w 0 w.heap.size e [v]:=
 aoQ underlying22 underlying5 (by kernel_rfl) (λ_ _ _ x f=>⟨rfl,by simp[Lit.wf,IntKind.min,IntKind.max,IntKind.signed,IntKind.bits] at f;exact⟨by omega,by omega⟩⟩) c h b
end
section
open Go.RowKit Go.ChangeShapes Go.WideShapes Go.ChangeAt Go.Conc
section
variable {H:Type} {enc:TypeId×Value->H} {P:Program}
def abx{w:World}{a:Nat->Bool}:∀{b:List String} {c:List (DataW H)} {i:List MemPlace},DataW.TrodVars enc P w a b c i->c.length=b.length
 |[],[],_,_=>rfl
 |[],_::_,_,h=>h.elim
 |_::_,[],_,h=>h.elim
 |n::b,d::c,i,h=>by
  obtain⟨g,t,o,f,p,q,r,k,l,m,j,e⟩:=h;rw[ga,ga,abx j]
theorem anv {f:Func} {s:ChangeSpec} {b:Bool} {W u:World} {args:Array Value} {i gs:List (DataW H)} {a:List MemPlace} {o:TypeId}
  (r:laidOutB P=true) (w:∀t∈f.params.toList,P.readableRec t=true/\t<P.types.size) (e:f.resultTypes=#[o]) (n:P.underlying o=some .bool) (k:varsRowed P s.vars=true)
  (c:s.fn H (i++gs)={results:=[.lit (.bool true)],args:=i,vars:=gs})
  (l:DataW.Whole enc P f.params.toList s.vars b W args.toList i gs a) (j:Below W.heap.size W u) :
  s.post enc P f b true false false W args (.bool true) u:=by
 have d:∀p∈a,p.block<W.heap.size:=λp v=>by simpa using l.lt p v
 have m:=l;obtain⟨p,q,B,z,rfl,A,y⟩:=l;refine⟨i,gs,p++q,[],p,q,m, ?_, ?_, ?_,World.keptBut_mono (λx g=>g.elim) (j.frame λ_=>False),λh=>by cases h⟩
 .rw[c,e];exact trodAll_mk1 (shut_bool n _)
 .rw[c];exact aas r w B (λx g=>j.same (d x (by simp[g]))) (λx g=>by simpa using d x (by simp[g]))
 .rw[c];exact j.trodVars r k z
end
def wY (i:Looks) {p:Pinned} {s:OpenSpec} {c:OpenClaim} (k:List (List PathCond)) (kinds:List LaidKind) (a:Bool) (b:Bool×String) (d:Bool)
  (z:c.holds p s) (v:∀D∈k,(c.withDomain D).holds p s) (w:c.wfByText s=true) (m:∀D∈k,(c.withDomain D).wfByText s=true)
  (l:c.laidByTextAt i p kinds a)
  (e:c.start=.entering) (g:c.noBlocks=false/\c.again=false) (q:p.checked.prog.mainIs=some (b.1,b.2.toList)) (y:(!b.1&&b.2.isEmpty&&!d)=false)
  (n:∀f fn,p.checked.prog.funcNamed c.func=some f->p.checked.prog.funcs[f]?=some fn->d=p.checked.prog.looks []/\∀(j:Nat) t,fn.params[j]?=some t->p.checked.prog.wantsStandIn t=false)
  (x:true=c.goesBy p.checked.prog) :
  Claim7.holds p (.plain s) {stood:={row:=c,standIns:=[],harness:=b,looks:=d},kinds:=[],alts:=k,goes:=true,laidByText:=true,laidKinds:=kinds,laidTests:=a,laidLooks:=i}:=by
 have u:∀r:OpenClaim,Claim7.isSixth {stood:={row:=r,standIns:=[],harness:=b,looks:=d},kinds:=[]}=false:=λr=>by simpa[Claim7.isSixth] using y
 refine⟨Claim7.tied_new_at i kinds a (wn z b d e g q (u c) n) w,λD o=> ?_,l,(λh=>by cases h),x⟩;exact Claim7.tied_new_at i kinds a (wn (v D o) b d e g q (u _) n) (m D o)
abbrev laidL:List (String×DataW Unit):=[("unicode/utf8.acceptRanges",Rows.laid_unicode_utf8_acceptRanges),("loop.example/depositary/impl.errPiece",Rows.laid_loop_example_depositary_impl_errPiece),("loop.example/depositary/impl.errKey",Rows.laid_loop_example_depositary_impl_errKey),("unicode/utf8.first",Rows.laid_unicode_utf8_first)]
def xk(os:Os)(args:Array Value):laidMetH prog laidL ((World.laidAll prog os laidL).forCall (λ_ _=>0) ⟨#[],args,[]⟩).memory:=by
 rw[vu _ _ _ (by kernel_rfl)];exact laidMet_laidAll _ (by kernel_rfl) (by kernel_rfl)
end
section
open Go Go.Conc Go.ConcN Go.RowKit
structure pF (w0 w:World) (n:Nat) (res:List (ByteArray×Bool)):Prop where
 low:∀b,b<w0.heap.size->w.heap[b]?=w0.heap[b]?
 lt:w0.heap.size<w.heap.size
 row:∃cs,w.heap[w0.heap.size]?=some (.cells cs 124 (0,0))/\cs.size=2*n/\∀i x,res[i]?=some x->cs[2*i]?=some (.string x.1)/\cs[2*i+1]?=some (.bool x.2)
def setRow{t:TypeId}(h:w.heap[C]?=some (.cells cs t z)):(w.setCell ⟨C,i,none⟩ v).heap[C]?=some (.cells (cs.setIfInBounds i v) t z):=by
 unfold World.setCell;simp[ph,h]
def eO{t:TypeId}(h:w.heap[C]?=some (.cells cs t z)):w.cell? ⟨C,i,none⟩=cs[i]?:=by
 unfold World.cell?;simp[h]
def im{t:TypeId}(h:w.heap[C]?=some (.cells cs t (0,0))):w.frozen? ⟨C,i,none⟩=false:=by
 unfold World.frozen?;simp[h]
def pF.below(h:pF w0 w n R)(c:Below w.heap.size w w'):pF w0 w' n R:=by
 obtain⟨e,f,d⟩:=h.row;exact⟨λb a=>(c.block b (Nat.lt_trans a h.lt)).trans (h.low b a),bd h.lt c.size,e,(c.block _ h.lt).trans f,d⟩
def pF.store(h:pF w0 w n R)(m:R.length<n)(x:ByteArray×Bool):pF w0 ((w.setCell ⟨w0.heap.size,2*R.length,none⟩ (.string x.1)).setCell ⟨w0.heap.size,2*R.length+1,none⟩ (.bool x.2)) n (R++[x]):=by
 obtain⟨o,l,g,j⟩:=h.row;refine⟨λb k=> ?_, ?_,_,setRow (setRow l),by simpa using g,λi y c=> ?_⟩
 .have d:w0.heap.size≠b:=by omega
  rw[bj _ _ _ d,bj _ _ _ d];exact h.low b k
 .rw[be,be];exact h.lt
 .rw[we] at c;split at c
  .rename_i f;obtain⟨a,b⟩:=j i y c;constructor
   .rw[jp (by omega),jp (by omega)];exact a
   .rw[jp (by omega),jp (by omega)];exact b
  .rename_i p;have e:i=R.length:=by
    have:=(qm.1 c).1;simp at this;omega
   subst e;simp at c;subst c;constructor
   .rw[jp (by omega),qb (by omega)]
   .rw[qb (by simp;omega)]
abbrev inH(k:List Item):List Item:=.inLoop mg :: .inBlock 53::k
def ae4:f69.body.isSome=true:=by kernel_rfl
def arR(β:Bool):∃fn,(ah β).funcs[69]?=some fn/\fn.body.isSome=true/\(fn.name == "runtime.NumGoroutine")=false:=by
 refine⟨pf f69, ?_, ?_,by have:=cB func69;exact this⟩
 .rw[aj9 β (by decide) (by decide),func69];rfl
 .show(f69.body.map gP).isSome=true;rw[Option.isSome_map];exact ae4
def ajn{β:Bool}{args:Array Value} :(callFunc 69 args).runT (ah β) w #[]=(.ok (.enter 69 args) w,#[]):=by
 obtain⟨fn,c,b,d⟩:=arR β;unfold callFunc;have f:¬fn.name= "runtime.NumGoroutine" :=by simpa using d
 have a:¬fn.body=none:=λe=>by rw[e] at b;cases b
 simp[c,f,a]
section
variable {X:Cx} {T:Array Value} {k:List Item} {w:World}
def At.aAD (hF:eF V) {key:Int} {Y : Option Addr} {c j : Nat} {l:List iD} {dA:List Int} (h:At X T (.code mg::inH k) w)
  (k1:1<=key) (k2:key<=99) (hl:l.length=n) (hc:n<=c) (ao:(c:Int)<=9223372036854775807) (hp:RdP w0 A 0 l) (a7:∀a,Y=some a->a.block<w0.heap.size) (aZ:(Z:Int)<=2147483647)
  (G:T.getD 0 undef=.int .i64 key) (s1:T.getD 1 undef=.slice A n c) (s2:T.getD 2 undef=.slice Y Z C) (p:T.getD 16 undef=.int .i64 Z) (o:T.getD 27 undef=.slice (some ⟨w0.heap.size,0,none⟩) Z Z) (g:T.getD 28 undef=.int .i64 j)
  (hj:j<=Z) (al:dA.length=j) (q:pF w0 w Z (dA.map (V key l))) :
  (j=Z/\∃T',Tm cK T T'/\T'.getD 27 undef=.slice (some ⟨w0.heap.size,0,none⟩) Z Z/\At X T' k w)\/
  (j<Z/\∃nm T' w',aiK w0 Y j nm/\Tm cK T T'/\T'.getD 16 undef=.int .i64 Z/\T'.getD 27 undef=.slice (some ⟨w0.heap.size,0,none⟩) Z Z/\T'.getD 28 undef=.int .i64 (j+1:Nat)/\pF w0 w' Z ((dA++[nm]).map (V key l))/\At X T' (.code mg::inH k) w'):=by
 have r:=Tm.refl cK T;unfold Go.Proofs.YtbeafkpaghapeaaGreatDoor.mg at h;have h:=h.seq;replace h:=h.region (l:=[0]) rfl;obtain⟨v,H,b0,⟨D,B⟩,m,U,b⟩:=h.jo (d:=26) (Φ:=λv i=>v=.bool (decide ((j:Int)<Z))/\i=w) rfl rfl rfl (by decide) λK i E=>gj (by exact g) (by exact p) E;rw[D] at U;rw[B] at b;replace G:=(m.same 0 rfl).trans G;replace s1:=(m.same 1 rfl).trans s1;replace s2:=(m.same 2 rfl).trans s2;replace p:=(m.same 16 rfl).trans p;replace o:=(m.same 27 rfl).trans o;replace g:=(m.same 28 rfl).trans g;replace r:=r.trans (m.sw rfl);replace h:=b;replace h:=h.jb.seq.cond U;by_cases Q:(j:Int)<Z
 .right;rw[dj Q] at h;simp only[pr] at h;replace h:=h.skip.seq.seq;replace h:=h.region (l:=[0,1,2,3]) rfl;obtain⟨ii,hi,hz⟩:=(faQ true).i3;obtain⟨v,H,ay,⟨a,hB,D,B⟩,m,N,b⟩:=h.jo (d:=25) (Φ:=λv i=>∃a,Y=some a/\v=.pointer (some (a.add (j*ii.size)))/\i=w) rfl rfl rfl (by decide) λK i E=>abZ (faQ true).u31 hi (by exact s2) (by exact g) (by omega) E;rw[D,hz,Nat.mul_one] at N;rw[B] at b;replace G:=(m.same 0 rfl).trans G;replace s1:=(m.same 1 rfl).trans s1;replace p:=(m.same 16 rfl).trans p;replace o:=(m.same 27 rfl).trans o;replace g:=(m.same 28 rfl).trans g;replace r:=r.trans (m.sw rfl);replace h:=b;have hv:=h.noV (t:=25) rfl rfl rfl N (λe w he=>aeL he);obtain⟨vv,H,aY,⟨M,B⟩,m,L,b⟩:=h.jo (d:=20) (Φ:=λv i=>w.cell? (a.add j)=some v/\i=w) rfl rfl rfl (by decide) λK i E=>ag8 (faQ true).u3 rfl (by exact N) hv.1 E;rw[B] at b;replace G:=(m.same 0 rfl).trans G;replace s1:=(m.same 1 rfl).trans s1;replace p:=(m.same 16 rfl).trans p;replace o:=(m.same 27 rfl).trans o;replace g:=(m.same 28 rfl).trans g;replace r:=r.trans (m.sw rfl);replace h:=b;obtain⟨v,H,aX,⟨z,a9,D,B⟩,m,F,b⟩:=h.jo (d:=22) (Φ:=λv i=>∃z,vv=.int .i64 z/\v=.int .i64 (IntKind.i64.wrap (z*1))/\i=w) rfl rfl rfl (by decide) λK i E=>let⟨v,a1,z,a2,a3,a4⟩:=akX E rfl;⟨v,a1,z,L.symm.trans a2,a3,a4⟩
  rw[D] at F;rw[B] at b;replace G:=(m.same 0 rfl).trans G;replace s1:=(m.same 1 rfl).trans s1;replace p:=(m.same 16 rfl).trans p;replace L:=(m.same 20 rfl).trans L;replace o:=(m.same 27 rfl).trans o;replace g:=(m.same 28 rfl).trans g;replace r:=r.trans (m.sw rfl);replace h:=b;subst a9;obtain⟨v,H,O,⟨D,B⟩,m,W,b⟩:=h.jo (d:=21) (Φ:=λv i=>v=.bool (IntKind.i64.wrap (z*1) ==z)/\i=w) rfl rfl rfl (by decide) λK i E=>akZ (by exact F) (by exact L) E;rw[D] at W;rw[B] at b;replace G:=(m.same 0 rfl).trans G;replace s1:=(m.same 1 rfl).trans s1;replace p:=(m.same 16 rfl).trans p;replace L:=(m.same 20 rfl).trans L;replace F:=(m.same 22 rfl).trans F;replace o:=(m.same 27 rfl).trans o;replace g:=(m.same 28 rfl).trans g;replace r:=r.trans (m.sw rfl);replace h:=b;obtain⟨hq,b⟩:=h.jb.axf W;replace h:=b.seq;replace h:=h.region (l:=[0,1,2]) rfl;have jZ:=aaY hq;have a8:aiK w0 Y j z:=⟨a,hB,by rw[<-fY (q.low (a.add j).block (by rw[rr];exact a7 a hB))];exact M,jZ⟩;obtain⟨v,H,aG,⟨D,a5⟩,m,I,b⟩:=h.call (d:=24) (f:=69) (args:=#[.int .i64 key,.slice A n c,.int .i64 z]) rfl rfl rfl (by decide) (λw=>by
    have hm:Array.map (Frame.eval (FQ cf O (.inRegion ahX [0,1,2] :: .code (.region 83 ahY false)::inH k))) #[.tmp 0,.tmp 1,.tmp 20]=#[.int .i64 key,.slice A n c,.int .i64 z]:=by
     rw[<-G,<-s1,<-L];simp[Frame.eval]
    have e0:execOp (Frame.eval (FQ cf O (.inRegion ahX [0,1,2] :: .code (.region 83 ahY false)::inH k))) (iu (some 24) (.call ⟨.value (.func 69),#[.tmp 0,.tmp 1,.tmp 20],#[3,23,3]⟩) 124)=callFunc 69 #[.int .i64 key,.slice A n c,.int .i64 z]:=by
     simp only[execOp,iu,resolve];rw[hm];simp[Deferred.ofValue,invoke,Frame.eval];try rfl
    exact(jn (λs=>Sem.runT (ah true) s w #[]) e0).trans ajn) (hF true w key A n c l z k1 k2 hl hc ao (hp.below q.low) jZ)
  rw[D] at I;replace q:=q.below a5;replace p:=(m.same 16 rfl).trans p;replace F:=(m.same 22 rfl).trans F;replace o:=(m.same 27 rfl).trans o;replace g:=(m.same 28 rfl).trans g;replace r:=r.trans (m.sw rfl);replace h:=b;obtain⟨i2,ji,a6, -⟩:=(faQ true).adw;obtain⟨v,w2,aa,⟨a2,an,D,B⟩,m,a0,b⟩:=h.jo (d:=23) (Φ:=λv i=>∃a,some (⟨w0.heap.size,0,none⟩:Addr)=some a/\v=.pointer (some (a.add (j*i2.size)))/\i=H) rfl rfl rfl (by decide) λK i E=>abZ (faQ true).ag5 ji (by exact o) (by exact g) (by omega) E;cases an;rw[D,a6,iT,mc,tC] at a0;rw[B] at b;replace p:=(m.same 16 rfl).trans p;replace F:=(m.same 22 rfl).trans F;replace I:=(m.same 24 rfl).trans I;replace o:=(m.same 27 rfl).trans o;replace g:=(m.same 28 rfl).trans g;replace r:=r.trans (m.sw rfl);replace h:=b;have R:=q.store (by simp;omega) (V key l z);rw[qc,al] at R;obtain⟨cs,J,aL, -⟩:=q.row;obtain⟨u0,ax⟩:∃u,cs[2*j]?=some u:=⟨_,fi (by omega)⟩;obtain⟨u1,ad⟩:∃u,cs[2*j+1]?=some u:=⟨_,fi (by omega)⟩;have ha:(⟨w0.heap.size,2*j,none⟩:Addr).add 1=⟨w0.heap.size,2*j+1,none⟩:=iT _ _ _;have S:=aoc (faQ true) (dst:=none) (ty:=0) (pos:= "") (af:=#[]) (gd:=none) (w:=H) (A:=⟨w0.heap.size,2*j,none⟩) (u0:=.string (V key l z).1) (u1:=.bool (V key l z).2) (e:=(FQ cf aa (.inRegion ahX (2::[]) :: .code (.region 83 ahY false)::inH k)).eval) (x:=.tmp 23) (y:=.tmp 24) rfl rfl (by exact a0) (by exact I) ((eO J).trans ax) (im J) (by rw[ha];exact(eO J).trans ad) (by rw[ha];exact im J);rw[ha] at S;replace h:=h.opk rfl rfl rfl S;replace h:=h.jb.region (l:=[0,1]) rfl;generalize (H.setCell ⟨w0.heap.size,2*j,none⟩ (.string (V key l z).1)).setCell ⟨w0.heap.size,2*j+1,none⟩ (.bool (V key l z).2)=i at *;obtain⟨v,H,aI,⟨D,B⟩,m,F,b⟩:=h.jo (d:=22) (Φ:=λv P=>v=.int .i64 (IntKind.i64.wrap ((j:Int)+1))/\P=i) rfl rfl rfl (by decide) λK P E=>akY (by exact g) rfl E;rw[D] at F;rw[B] at b;replace p:=(m.same 16 rfl).trans p;replace o:=(m.same 27 rfl).trans o;replace g:=(m.same 28 rfl).trans g;replace r:=r.trans (m.sw rfl);replace h:=b;obtain⟨v,H,aT,⟨D,B⟩,m,g,b⟩:=h.jo (d:=28) (Φ:=λv P=>v=.int .i64 (IntKind.i64.wrap ((j:Int)+1))/\P=i) rfl rfl rfl (by decide) λK P E=>let⟨v,a1,a2,a3⟩:=ag6 E;⟨v,a1,a2.trans F,a3⟩
  rw[D] at g;rw[B] at b;replace p:=(m.same 16 rfl).trans p;replace o:=(m.same 27 rfl).trans o;replace r:=r.trans (m.sw rfl);replace h:=b;rw[aeM (by omega)] at g;exact⟨by omega,z,_,i,a8,r,p,o,g,by rw[tf];exact R,h.jb.again⟩
 .left;rw[da Q] at h;simp only[kw,qF] at h;exact⟨by omega,_,r,o,h.exit rfl⟩
def At.av6 {G:Int->List iD->Int->ByteArray×Bool} (C:eF G) {w0:World} {key:Int} {A v:Option Addr} {n c d N:Nat} {l:List iD}
  (x:1<=key) (k2:key<=99) (E:l.length=n) (H:n<=c) (p:(c:Int)<=9223372036854775807) (D:RdP w0 A 0 l) (o:∀a,v=some a->a.block<w0.heap.size) (q:(d:Int)<=2147483647):∀(m j:Nat) {T:Array Value} {w:World} {s:List Int},d=j+m->At X T (.code mg::inH k) w->
  T.getD 0 undef=.int .i64 key->T.getD 1 undef=.slice A n c->T.getD 2 undef=.slice v d N->T.getD 16 undef=.int .i64 d->T.getD 27 undef=.slice (some ⟨w0.heap.size,0,none⟩) d d->T.getD 28 undef=.int .i64 j->s.length=j->(∀i nm,s[i]?=some nm->aiK w0 v i nm)->pF w0 w d (s.map (G key l))->
  ∃(b:List Int) (T':Array Value) (u:World),b.length=d/\(∀i nm,b[i]?=some nm->aiK w0 v i nm)/\pF w0 u d (b.map (G key l))/\Tm cK T T'/\T'.getD 27 undef=.slice (some ⟨w0.heap.size,0,none⟩) d d/\At X T' k u
 |0,j,T,w,s,e,h,s0,s1,s2,dv,iR,ja,hnl,hnm,hrow=>by
  rcases h.aAD C x k2 E H p D o q s0 s1 s2 dv iR ja (by omega) hnl hrow with⟨_,T',J,r,I⟩|⟨y,_⟩
  .exact⟨s,T',w,by omega,hnm,hrow,J,r,I⟩
  .omega
 |m+1,j,T,w,s,e,h,s0,s1,s2,dv,iR,ja,hnl,hnm,hrow=>by
  rcases h.aAD C x k2 E H p D o q s0 s1 s2 dv iR ja (by omega) hnl hrow with⟨W,_⟩|⟨y,nm,V,U,P,f,F,r,z,g,K⟩
  .omega
  .obtain⟨b,T',u,R,S,L,O,M,Q⟩:=At.av6 C x k2 E H p D o q m (j+1) (by omega) K ((f.same 0 rfl).trans s0) ((f.same 1 rfl).trans s1) ((f.same 2 rfl).trans s2) F r z (by simp[hnl]) (λi B t=>by
    rw[we] at t;split at t
    .exact hnm i B t
    .have:i=j:=by
      have:=(qm.1 t).1;simp at this;omega
     subst this;simp[hnl] at t;subst t;exact P) g
   exact⟨b,T',u,R,S,L,f.trans O,M,Q⟩
end
end
section
open Go Go.Conc Go.ConcN
def mxA:Option Addr->Nat
 |none=>0
 |some a=>a.block+1
def mxN:Option Nat->Nat
 |none=>0
 |some a=>a+1
def auJ:Fn->Nat
 |.yield l=>l+1
 |_=>0
mutual
def mxV:Value->Nat
 |.pointer a=>mxA a
 |.slice a _ _=>mxA a
 |.map a=>mxN a
 |.chan a=>mxN a
 |.func f ⟨a⟩ ⟨c⟩=>max (auJ f) (max (mxL a) (mxL c))
 |.iface _ v=>mxV v
 |.agg ⟨l⟩=>mxL l
 |.tuple ⟨l⟩=>mxL l
 |_=>0
def mxL:List Value->Nat
 |[]=>0
 |v::l=>max (mxV v) (mxL l)
end
def mxE:List MapEntry->Nat
 |[]=>0
 |e::l=>max (max (mxV e.key) (mxV e.val)) (mxE l)
def mxO:Obj->Nat
 |.cells c _ _=>mxL c.toList
 |.map e _=>mxE e.toList
 |.loop l=>mxL l.tmps.toList
 |_=>0
def mxH:List Obj->Nat
 |[]=>0
 |o::l=>max (mxO o) (mxH l)
def am5:∀{l:List Obj} {i:Nat} {o:Obj},l[i]?=some o->mxO o<=mxH l
 |[],i,o,h=>by simp at h
 |x::l,0,o,h=>by simp at h;subst h;simp only[mxH];omega
 |x::l,i+1,o,h=>by
  have:=am5 (l:=l) (i:=i) (o:=o) (by simpa using h);simp only[mxH];omega
def alP:List Frame->Nat
 |[]=>0
 |f::l=>max (mxL f.tmps.toList) (alP l)
def arT(f:Fn)(a c:Array Value):mxV (.func f a c)=max (auJ f) (max (mxL a.toList) (mxL c.toList)):=by
 obtain⟨a⟩:=a;obtain⟨c⟩:=c;simp only[mxV]
def auK(a:Array Value):mxV (.agg a)=mxL a.toList:=by
 obtain⟨a⟩:=a;simp only[mxV]
def aoR(a:Array Value):mxV (.tuple a)=mxL a.toList:=by
 obtain⟨a⟩:=a;simp only[mxV]
section
variable {ρ σ:Ren} {D:Nat} (hd:σ.dim=ρ.dim/\σ.al=ρ.al) (H:∀{a b:Nat},σ.r a b->b<D->ρ.r a b)
include H
theorem OAR.down{u v:Option Addr}(k:OAR σ u v)(a:mxA v<=D):OAR ρ u v:=by
 cases k with
 |none=>exact .none
 |some k=>cases k with
  |mk h o s=>exact .some (.mk (H h (by simp only[mxA] at a;omega)) o s)
theorem NR.down{v : Option Nat}(k:NR σ u v)(a:mxN v<=D):NR ρ u v:=by
 cases k with
 |none=>exact .none
 |some h=>exact .some (H h (by simp only[mxN] at a;omega))
theorem FR.down{u v:Fn}(k:FR σ u v)(a:auJ v<=D):FR ρ u v:=by
 cases k with
 |same f b=>exact .same _ b
 |yield h=>exact .yield (H h (by simp only[auJ] at a;omega))
include hd
mutual
theorem VR.down:∀{u v:Value},VR σ u v->mxV v<=D->VR ρ u v
 |_,_,.fH hl k,_=>.fH (hd.1▸hl) k
 |_,_,.abe k hl,_=>.abe k (hd.2▸hl)
 |_,_,.bool b,_=>.bool b
 |_,_,.int k n,_=>.int k n
 |_,_,.string s,_=>.string s
 |_,_,.pointer k,hb=>.pointer (OAR.down H k (by simpa only[mxV] using hb))
 |_,_,.slice k l c,hb=>.slice (OAR.down H k (by simpa only[mxV] using hb)) l c
 |_,_,.map k,hb=>.map (NR.down H k (by simpa only[mxV] using hb))
 |_,_,.chan k,hb=>.chan (NR.down H k (by simpa only[mxV] using hb))
 |_,_,.func f x y,hb=>by
  rw[arT] at hb;exact .func (FR.down H f (by omega)) (bN.down x (by omega)) (bN.down y (by omega))
 |_,_,.nilFunc,_=>.nilFunc
 |_,_,.iface t k,hb=>.iface t (VR.down k (by simpa only[mxV] using hb))
 |_,_,.nilIface,_=>.nilIface
 |_,_,.agg k,hb=>.agg (bN.down k (by rwa [auK] at hb))
 |_,_,.tuple k,hb=>.tuple (bN.down k (by rwa [aoR] at hb))
theorem bN.down:∀{u v:List Value},bN σ u v->mxL v<=D->bN ρ u v
 |_,_,.nil,_=>.nil
 |_,_,.cons k kl,hb=>.cons (VR.down k (by simp only[mxL] at hb;omega)) (bN.down kl (by simp only[mxL] at hb;omega))
end
def mA.down:∀{u v:List MapEntry},mA σ u v->mxE v<=D->mA ρ u v
 |_,_,.nil,_=>.nil
 |_,_,.cons (.mk k1 k2 b) kl,hb=>.cons (.mk (VR.down hd H k1 (by simp only[mxE] at hb;omega)) (VR.down hd H k2 (by simp only[mxE] at hb;omega)) b) (mA.down kl (by simp only[mxE] at hb;omega))
variable (hx:σ.lax=ρ.lax) (hle:ρ.Le σ)
include hx hle
theorem OR.down{u v v':Obj}(h:OR ρ u v')(k:OR σ v v')(b:mxO v'<=D):OR ρ v v':=by
 cases h with
 |cells h t C=>cases k with
  |cells k _ g=>
   refine .cells (bN.down hd H k b) t ?_;unfold ZR at g ⊢;rw[<-hx];exact g
 |map h c=>cases k with
  |map k _=>exact .map (mA.down hd H k b) c
 |stringIter s p=>cases k;exact .stringIter s p
 |number h l=>cases k with
  |number k _=>
   obtain⟨d,o,s⟩:=h;cases k with
   |mk f _ _=>
    have:=σ.inj (hle.r d) f;subst this;exact .number (.mk d o s) l
 |mapIter h s a n=>cases k with
  |mapIter k _ _ _=>
   cases h with
   |none=>cases k;exact .mapIter .none s a n
   |some h=>cases k with
    |some k=>
     have:=σ.inj (hle.r h) k;subst this;exact .mapIter (.some h) s a n
 |loop d f E z B F A e=>cases k with
  |loop i x q y r w m j=>
   have:=σ.inj (hle.r e) j;rw[this] at e;exact .loop i x q (bN.down hd H y b) r w m e
 |bG=>cases k;exact .bG
 |deferred=>cases k;exact .deferred
omit hd hx in
omit H in
theorem Ren.down{a : Nat}(h:ρ.r a Z)(k:σ.r b Z):ρ.r b Z:=by
 have:=σ.inj (hle.r h) k;subst this;exact h
omit hd hx in
omit H in
theorem jD.down{P:Program}:∀{u v a:List Item},jD P ρ u a->jD P σ v a->jD P ρ v a
 |_,_,_,.nil,.nil=>.nil
 |_,_,_,.cons h hl,.cons k kl=>.cons (by
   cases h with
   |code c=>cases k;exact .code c
   |inBlock id=>cases k;exact .inBlock id
   |inLoop c=>cases k;exact .inLoop c
   |inScope c=>cases k;exact .inScope c
   |inRegion h l=>cases k with
    |inRegion k _=>exact .inRegion k l
   |inRangeFunc h=>cases k with
    |inRangeFunc k=>exact .inRangeFunc (Ren.down hle h k)
   |endRangeFunc h=>cases k with
    |endRangeFunc k=>exact .endRangeFunc (Ren.down hle h k)
   |beginRound=>cases k;exact .beginRound) (jD.down hl kl)
omit hd hx in
omit H in
theorem CDs.down:∀{u v a:List Deferred},CDs ρ u a->CDs σ v a->CDs ρ v a
 |_,_,_,.nil,.nil=>.nil
 |_,_,_,.cons h hl,.cons k kl=>.cons (Ren.down hle h k) (CDs.down hl kl)
omit hd hx in
omit H in
theorem NR.aAE{v v' : Option Nat}(h:NR ρ u v')(k:NR σ v v'):NR ρ v v':=by
 cases h with
 |none=>cases k;exact .none
 |some h=>cases k with
  |some k=>exact .some (Ren.down hle h k)
omit hx in
theorem FrR.down{P:Program}{u v v':Frame}(h:FrR P ρ u v')(k:FrR P σ v v')(a:mxL v'.tmps.toList<=D):FrR P ρ v v':=
 ⟨k.fn,bN.down hd H k.tmps a,jD.down hle h.todo k.todo,CDs.down hle h.defers k.defers,k.mode,k.kind,NR.aAE hle h.round k.round⟩
omit hx in
theorem iF.down{P:Program}:∀{u v a:List Frame},iF P ρ u a->iF P σ v a->alP a<=D->iF P ρ v a
 |_,_,_,.one h h0,.one k k0,hb=>.one (FrR.down hd H hle h k (by simp only[alP] at hb;omega)) k0
 |_,_,_,.cons h b,.cons k kl,hb=>.cons (FrR.down hd H hle h k (by simp only[alP] at hb;omega)) (iF.down b kl (by simp only[alP] at hb;omega))
 |_,_,_,.one h h0,.cons k kl,_=>by cases kl
 |_,_,_,.cons h b,.one k k0,_=>by cases b
end
end
section
open Go Go.Conc Go.ConcN Go.RowKit
def aAF:∀i,i<20->cK.getD i 0<45/\ac1[i]?=some (anF (cK.getD i 0) 0)/\cK.contains (cK.getD i 0)=true:=by
 intro i a;have:i=0\/i=1\/i=2\/i=3\/i=4\/i=5\/i=6\/i=7\/i=8\/i=9\/i=10\/i=11\/i=12\/i=13\/i=14\/i=15\/i=16\/i=17\/i=18\/i=19:=by omega
 rcases this with rfl|rfl|rfl|rfl|rfl|rfl|rfl|rfl|rfl|rfl|rfl|rfl|rfl|rfl|rfl|rfl|rfl|rfl|rfl|rfl<;>exact⟨by decide,rfl,rfl⟩
def aAG{t:Nat}(h:cK.contains t=true):∃i,i<20/\cK.getD i 0=t:=by
 have b:t∈cK:=by simpa using h
 obtain⟨i,a,c⟩:=wd.1 b;exact⟨i,a,by rw[sL,iS a];exact c⟩
def axZ:∀i,i<20->∀j,j<20->cK.getD i 0=cK.getD j 0->i=j:=by decide
section
variable {X:Cx} {T:Array Value} {k:List Item} {w:World}
def At.av7:∀(m i:Nat) {T:Array Value},i+m=20->At X T (.inRegion ac1 (List.range' i m)::k) w->(∀j,j<i->T.getD (cK.getD j 0) undef=.int .i64 0)->
  ∃T',At X T' (.inRegion ac1 []::k) w/\(∀j,j<20->T'.getD (cK.getD j 0) undef=.int .i64 0)/\Tm cK T T'
 |0,i,T,e,h,hd=>⟨T,h,λj u=>hd j (by omega),.refl _ _⟩
 |m+1,i,T,e,h,hd=>by
  have l:i<20:=by omega
  obtain⟨x,o,q⟩:=aAF i l;rw[List.range'_succ] at h;obtain⟨v,z,A,⟨t,y⟩,n,s,h⟩:=h.jo (d:=cK.getD i 0) (Φ:=λv g=>v=.int .i64 0/\g=w) o rfl rfl x λB g p=>jm p;rw[t] at s;rw[y] at h;obtain⟨T',r,f,c⟩:=At.av7 m (i+1) (by omega) h λj u=>by
   by_cases a:j=i
   .subst a;exact s
   .have b:cK.getD j 0≠cK.getD i 0:=λe=>a (axZ j (by omega) i l e);rw[n.same _ (by simpa using b)];exact hd j (by omega)
  exact⟨T',r,f,(n.sw q).trans c⟩
def At.last{C:Addr}(h:At X T (.code aiJ::k) w)(r:T.getD 27 undef=.slice (some C) n n):∃T' m,AtL X T' (.code cJ::k) m/\(∀b,b<w.heap.size->m.heap[b]?=w.heap[b]?)/\w.heap.size<m.heap.size/\
  m.heap[w.heap.size]?=some (.cells #[.slice (some C) n n] 111 (0,0))/\T'.getD 17 undef=.slice (some C) n n/\T'.getD 8 undef=.pointer (some ⟨w.heap.size,0,none⟩)/\(∀t,cK.contains t=true->T'.getD t undef=.int .i64 0)/\Tm (8::17::cK) T T':=by
 unfold aiJ at h;have h:=h.seq;replace h:=h.region (l:=[0,1,2]) rfl;obtain⟨v,G,H,⟨B,s⟩,L,a,F⟩:=h.jo (d:=17) (Φ:=λv g=>v=.slice (some C) n n/\g=w) rfl rfl rfl (by decide) λR g z=>let⟨v,P,Q,K⟩:=jm z;⟨v,P,Q.trans r,K⟩
 rw[B] at a;rw[s] at F;obtain⟨v,G,S,⟨B,s⟩,E,o,f⟩:=F.jo (d:=8) (Φ:=λv g=>v=.pointer (some ⟨w.heap.size,0,none⟩)/\g=w.alloc (.cells #[.slice none 0 0] 111)) rfl rfl rfl (by decide) λR g z=>by
  have:=(aqO (faQ true) (w:=w) (e:=(FQ cf H (.inRegion ahZ (1::[2]) :: .code (.seq (.region 59 ac1 false) cJ)::k)).eval) (dst:=some 8) (ty:=0) (pos:= "") (af:=#[]) (gd:=none)).symm.trans z;cases this;exact⟨_,rfl,rfl,rfl⟩
 rw[B] at o;rw[s] at f;replace a:=(E.same 17 rfl).trans a;have q:(w.alloc (.cells #[.slice none 0 0] 111)).heap[w.heap.size]?=some (.cells #[.slice none 0 0] 111 (0,0)):=by
  show(w.heap.push _)[w.heap.size]?=_;rw[qR]
 have I:=aod (faQ true) (dst:=none) (ty:=0) (pos:= "") (af:=#[]) (gd:=none) (w:=w.alloc (.cells #[.slice none 0 0] 111)) (A:=⟨w.heap.size,0,none⟩) (u:=.slice (some C) n n) (c0:=.slice none 0 0)
  (e:=(FQ cf S (.inRegion ahZ (2::[]) :: .code (.seq (.region 59 ac1 false) cJ)::k)).eval) (x:=.tmp 8) (y:=.tmp 17) ⟨_,_,_,rfl⟩ (by exact o) (by exact a) (eO q) (im q)
 replace f:=(f.opk rfl rfl rfl I).jb.seq;replace f:=f.region (l:=List.range' 0 20) rfl;obtain⟨J,M,N,p⟩:=f.av7 20 0 (by rfl) (λj U=>by omega);refine⟨J,_,M.azs,λb D=> ?_, ?_, ?_,(p.same 17 rfl).trans a,(p.same 8 rfl).trans o,λt c=> ?_, ?_⟩
 .rw[bj _ _ _ (by show w.heap.size≠b;omega)];exact su w _ b D
 .rw[be,oR];omega
 .exact setRow q
 .obtain⟨i,O,rfl⟩:=aAG c;exact N i O
 .exact((L.mono λt c=>by simp at c;subst c;rfl).trans (E.mono λt c=>by simp at c;subst c;rfl)).trans (p.mono λt c=>by
   simp only[tj,qV];exact .inr (.inr c))
end
end
section
open Go Go.Conc Go.ConcN Go.RowKit
def arU{ρ:Ren}:∀(x y:List Value),x.length=y.length->(∀(i:Nat) u v,x[i]?=some u->y[i]?=some v->VR ρ u v)->bN ρ x y
 |[],[],_,_=>.nil
 |[],_::_,h,_=>by cases h
 |_::_,[],h,_=>by cases h
 |a::x,b::y,hs,h=>.cons (h 0 a b rfl rfl) (arU x y (by simpa using hs) λi u v c d=>h (i+1) u v (by simpa using c) (by simpa using d))
def alQ(b:x.size=y.size)(h:∀(i:Nat) u v,x[i]?=some u->y[i]?=some v->VR ρ u v):dh ρ x y:=
 arU _ _ (by simpa using b) λi u v a c=>h i u v (by rw[<-du];exact a) (by rw[<-du];exact c)
def dh.at(h:dh ρ x y){u : Value}(d:x[i]?=some u)(b:y[i]?=some v):VR ρ u v:=by
 obtain⟨e,a,c⟩:=bN.get h (i:=i) (v:=u) (by rw[du];exact d);rw[du,b] at a;cases a;exact c
abbrev T0F(a:Array Value):Array Value:=a++Array.replicate (45-a.size) undef
def auL :Frame.enter (ah true) cf S .normal=FQ cf (T0F S) [.code jQ]:=by
 have a:(ah true).funcs[cf]?=some (qFA true):=acu true;unfold Frame.enter;rw[a];rfl
def amf{T:Array Value}(h:T[i]?=some v):T.getD i undef=v:=by
 rw[gE,h];rfl
def et(w:World)(b:Nat):Prop:=∃c t z,w.heap[b]?=some (.cells c t z)
def lz{A:Addr}(a:w.cell? A=some v):et w A.block:=by
 unfold World.cell? at a;cases b:w.heap[A.block]? with
 |none=>rw[b] at a;simp at a
 |some o=>
  rw[b] at a;cases o with
  |cells c t z=>exact⟨c,t,z,b⟩
  |_=>simp at a
def ax0:(gL.all λg=>g ==1||g ==2)=true:=by unfold gL;kernel_rfl
structure aAH (ρ:Ren) (a':Array Value) (w:World) (key:Int) (A:Option Addr) (n c:Nat) (l:List iD) (A2:Option Addr) (n2 c2:Nat) (dA:List Int):Prop where
 s0:(T0F a').getD 0 undef=.int .i64 key
 k1:1<=key
 k2:key<=99
 s1:(T0F a').getD 1 undef=.slice A n c
 nc:n<=c
 cm:(c:Int)<=9223372036854775807
 ln:l.length=n
 rd:RdP w A 0 l
 rg:∀i x,l[i]?=some x->∀a b m e,A=some a->w.cell? ((a.add (i*2)).add 1)=some (.slice (some b) m e)->∃y,ρ.r y b.block
 s2:(T0F a').getD 2 undef=.slice A2 n2 c2
 n2m:(n2:Int)<=2147483647
 n2c:n2<=c2
 c2m:(c2:Int)<=9223372036854775807
 nn:dA.length=n2
 nm:∀i nm,dA[i]?=some nm->aiK w A2 i nm
 gl:∀g∈gL,et w g
 al:∀a,A=some a->∃b,ρ.r b a.block
 al2:∀a,A2=some a->∃b,ρ.r b a.block
def aaj(t:Nat):Bool:=t ==12||t ==14||decide (29<=t)
def alR{l:List Nat}{t:Nat}(h:(l.all λx=>decide (x<29))=true)(c:29<=t):l.contains t=false:=by
 cases b:l.contains t with
 |false=>rfl
 |true=>
  have a:t∈l:=by simpa using b
  have:=lE.1 h t a;simp only[qS] at this;omega
def arV{t:Nat}(h:aaj t=true):mH.contains t=false/\cK.contains t=false/\(8::17::cK).contains t=false/\t≠8/\t≠17:=by
 simp only[aaj,qV,nF,qS] at h;rcases h with(rfl|rfl)|h
 .exact⟨rfl,rfl,rfl,by decide,by decide⟩
 .exact⟨rfl,rfl,rfl,by decide,by decide⟩
 .exact⟨alR rfl h,alR rfl h,alR rfl h,by omega,by omega⟩
def vA{T:Array Value}(h:i<T.size):T[i]?=some (T.getD i undef):=by
 rw[gE,fi h];rfl
def am6:∀{l:List Value} {i:Nat} {v:Value},l[i]?=some v->mxV v<=mxL l
 |[],i,v,h=>by simp at h
 |x::l,0,v,h=>by simp at h;subst h;simp only[mxL];omega
 |x::l,i+1,v,h=>by
  have:=am6 (l:=l) (i:=i) (v:=v) (by simpa using h);simp only[mxL];omega
def am7(h:(T0F S)[i]?=some v):mxV v<=mxL S.toList:=by
 unfold T0F at h;rw[sJ] at h;split at h
 .exact am6 (i:=i) (by rw[du];exact h)
 .rw[tT] at h;split at h
  .cases h;have:mxV undef=0:=by
    show mxV (.tuple ⟨[]⟩)=0;simp only[mxV,mxL]
   omega
  .cases h
def ag9.cells{B:Option Addr}{x:Int×ByteArray}(h:ag9 w B i x)(k:∀A,w.cell? A=w'.cell? A):ag9 w' B i x:=by
 obtain⟨⟨a,d,b,f⟩,c,e⟩:=h;exact⟨⟨a,d,(k _).symm.trans b,(k _).symm.trans f⟩,c,e⟩
def RdP.cells{j:Nat}{l:List iD}(h:RdP w A j l)(k:∀A,w.cell? A=w'.cell? A):RdP w' A j l:=λi x g=>by
 obtain⟨⟨a,B,c,o,d,f,n,q,m,p⟩,b⟩:=h i x g;exact⟨⟨a,B,c,o,(k _).symm.trans d,(k _).symm.trans f,n,q,m,λi y e=>(p i y e).cells k⟩,b⟩
def arW(w:World)(n:Nat):World:={w with heap:=w.heap++Array.replicate n (.deferred none)}
def ajo(w:World)(n:Nat)(h:b<w.heap.size):(arW w n).heap[b]?=w.heap[b]?:=by
 show(w.heap++_)[b]?=_;rw[rN h]
def aoS(w:World)(n:Nat)(A:Addr):(arW w n).cell? A=w.cell? A:=by
 by_cases h:A.block<w.heap.size
 .exact fY (ajo w n h)
 .unfold World.cell?;rw[qd (by omega:w.heap.size<=A.block)];have:(arW w n).heap[A.block]?=none\/(arW w n).heap[A.block]?=some (.deferred none):=by
   show(w.heap++_)[A.block]?=none\/(w.heap++_)[A.block]?=_;rw[sJ,bv (by omega),tT];split
   .exact .inr rfl
   .exact .inl rfl
  rcases this with e|e<;>rw[e]
def ans (hF:eF V) {R:List Frame->World->Prop} {c:Cfg} {a : Array Value} {m m':List Frame} (c6:dh ρ a S) (a8:iF (ah true) ρ m m') (hc:c.l=Frame.enter (ah true) cf a .normal::m)
  (F:WR ρ c.w w') (hg:GlR ρ) (hW:jP (ah true) R c) :
  ∃M A n cc l A2 E c2 dA c1,aAH ρ S w' M A n cc l A2 E c2 dA/\ir (ah true) c1 c/\jP (ah true) R c1/\(∀b K,ρ.r b K->Rw c.w b->Rw c1.w b/\∀i u,adQ u->c1.w.cell? ⟨b,i,none⟩=some u->c.w.cell? ⟨b,i,none⟩=some u)/\
   ∀(wr:World) (Q X:Nat) (cs:Array Value),(∀b K,ρ.r b K->wr.heap[K]?=w'.heap[K]?)->wr.ou=w'.ou->w'.heap.size<=wr.heap.size->w'.heap.size<=Q->w'.heap.size<=X->Q≠X->wr.heap[Q]?=some (.cells cs 124 (0,0))->cs.size=2*E->
    (∀i nm,dA[i]?=some nm->cs[2*i]?=some (.string (V M l nm).1)/\cs[2*i+1]?=some (.bool (V M l nm).2))->wr.heap[X]?=some (.cells #[.slice (some ⟨Q,0,none⟩) E E] 111 (0,0))->
    ∃p T2,ρ.Le p/\iF (ah true) p c1.l (FQ cf T2 [.code cJ]::m')/\WR p c1.w wr/\(∀b K,p.r b K->ρ.r b K\/K=Q\/K=X)/\T2.size=(T0F S).size/\(∀i,i<3->T2.getD i undef=(T0F S).getD i undef)/\
     T2.getD 6 undef=.slice none 0 0/\T2.getD 7 undef=.bool false/\T2.getD 8 undef=.pointer (some ⟨X,0,none⟩)/\T2.getD 17 undef=.slice (some ⟨Q,0,none⟩) E E/\(∀i,aaj i=true->T2.getD i undef=(T0F S).getD i undef):=by
 obtain⟨_,_,y,ys,e1,rfl⟩:=a8.ne';have bl:45<=(T0F S).size:=by simp only[T0F,rZ,sQ];omega
 obtain⟨D,c5,b9,cn,bz⟩:∃D,w'.heap.size<=D/\mxH w'.heap.toList<=D/\mxL S.toList<=D/\alP (y::ys)<=D:=⟨w'.heap.size+(mxH w'.heap.toList+(mxL S.toList+alP (y::ys))),by omega,by omega,by omega,by omega⟩;obtain⟨w,Z⟩:∃w,w=arW w' (D-w'.heap.size):=⟨_,rfl⟩;have b7:w.heap.size=D:=by
  rw[Z];show(w'.heap++_).size=D;rw[rZ,sQ];omega
 have b5:∀{b},b<w'.heap.size->w.heap[b]?=w'.heap[b]?:=λ{b} h=>by rw[Z];exact ajo _ _ h
 have U:∀A,w.cell? A=w'.cell? A:=λA=>by rw[Z];exact aoS _ _ _
 have bf:w.ou=w'.ou:=by rw[Z];rfl
 have cb:WR ρ c.w w:=⟨λ{b K} f=>by
  obtain⟨o,o',T,O,Y⟩:=F.obj f;exact⟨o,o',T,(b5 (F.lt f).2).trans O,Y⟩,F.os.trans bf.symm,F.kN.1,by rw[b7];exact ap F.kN.2 c5⟩
 have c4:FrR (ah true) ρ (Frame.enter (ah true) cf a .normal) (FQ cf (T0F S) [.code jQ]):=by rw[<-auL];exact aeF true c6
 have h0:At ⟨R,c,ρ,w,y,ys⟩ (T0F S) [.code jQ] w:=⟨bl,c,ρ,.inl rfl,.refl _,by rw[hc];exact .cons c4 a8,cb,hg,hW,Kept.refl _ _ _⟩;obtain⟨M,A,n,cc,l,T1,s0,k1,k2,⟨cC,bp⟩,⟨cz,ck⟩,s1,aZ,aY,hl,hp,hR,bL,m1,s6,s7,T⟩:=h0.head;obtain⟨A2,E,c2,ay,T2,s2,ba,c8,b4,bS,bO,b8,m2,dv,bn,c0,O⟩:=T.names;replace s2:=(m1.same 2 rfl).symm.trans s2;have cd:pF w (w.alloc (.cells ay 124)) E (([]:List Int).map (V M l)):=by
  refine⟨λb f=>su w _ b f,by rw[oR];omega,ay, ?_,b8,λi x I=>by simp at I⟩;show(w.heap.push _)[w.heap.size]?=_;rw[qR]
 have g0:=λt (h:mH.contains t=false) (h':cK.contains t=false)=>(m2.same t h').trans (m1.same t h);obtain⟨dA,T3,w3,co,bh,J,m3,bi,Y⟩:=At.av6 hF k1 k2 hl aZ aY hp ba b4 E 0 (by omega) O.block.loop ((g0 0 rfl rfl).trans s0) ((g0 1 rfl rfl).trans s1) ((g0 2 rfl rfl).trans s2) dv bn c0 rfl (λi nm I=>by simp at I) cd;obtain⟨T4,w4,h4,ao,cw,ci,bw,s8,c9,m4⟩:=Y.last bi;obtain⟨b6,bb,cp,bG⟩:=J.row;have a6:w4.heap[w.heap.size]?=some (.cells b6 124 (0,0)):=(ao _ J.lt).trans bb;have bk:∀b,b<w'.heap.size->w4.heap[b]?=w'.heap[b]?:=λb f=>((ao b (Nat.lt_trans (by omega) J.lt)).trans (J.low b (by omega))).trans (b5 f);have g1:=λt (h:mH.contains t=false) (h':cK.contains t=false) (bo:(8::17::cK).contains t=false)=>(m4.same t bo).trans ((m3.same t h').trans (g0 t h h'));have t6:T4.getD 6 undef=.slice none 0 0:=(m4.same 6 rfl).trans ((m3.same 6 rfl).trans ((m2.same 6 rfl).trans s6));have t7:T4.getD 7 undef=.bool false:=(m4.same 7 rfl).trans ((m3.same 7 rfl).trans ((m2.same 7 rfl).trans s7));have ax:T4.size=(T0F S).size:=m4.size.trans (m3.size.trans (m2.size.trans m1.size));obtain⟨cA,c1,C,q,ce⟩:=h4;obtain⟨x,xs,_,_,aG,e2⟩:=q.st.ne';cases e2;have hq:=q.st;rw[aG] at hq;have W:=hq.head;have cg:iF (ah true) C xs (y::ys):=by cases hq with|cons _ h=>exact h
 have H:∀{a b:Nat},C.r a b->b<D->ρ.r a b:=λ{a b} h f=>(q.kept.new h).elim id λh=>by
  have:w.heap.size<=b:=h.2;omega
 have hd:C.dim=ρ.dim/\C.al=ρ.al:=⟨q.le.dim.symm,q.le.al.symm⟩;have aI:C.lax=ρ.lax:=q.le.lax.symm;have aT:∀{i:Nat} {P:Addr} {n m:Nat},i<(T0F S).size->(T0F S).getD i undef=.slice (some P) n m->Rgd ⟨R,c,ρ,w,y,ys⟩ P.block->∃b,ρ.r b P.block:=λ{i P n m} I e h=>h.elim id λh=>by
  have f:=am7 (vA I);rw[e] at f;simp only[mxV,mxA] at f;have h':w.heap.size<=P.block:=h;omega
 refine⟨M,A,n,cc,l,A2,E,c2,dA,c1,⟨s0,k1,k2,s1,aZ,aY,hl,hp.cells U,λi x hx P b0 m0 e0 hA iZ=> ?_,s2,b4,bS,bO,co,λi nm I=> ?_,λg bU=> ?_,λP ad=> ?_,λP ad=> ?_⟩,ce,q.will,λb K f b3=>⟨(q.kept.poi f b3).1,λi u hu ca=>((q.kept.poi f b3).2 i u hu ca).1⟩,λwr Q X cs bT bR bx cv cy af fL ct aX br=> ?_⟩
 .-- an item's row
  subst hA;obtain⟨⟨a1,B,c3,f1,f2,f3,f4,f5,f6,f7⟩, -⟩:=hp i x hx;cases f1;rw[mc] at f3;rw[<-U,f3] at iZ;cases iZ;obtain⟨z,hz⟩:∃z,x.2[0]?=some z:=⟨_,iS (by omega)⟩;obtain⟨⟨a2,ch,bt, -⟩, -⟩:=f7 0 z hz;cases ch;have a5:=eG bt;rw[rr] at a5;have I:i<n:=by rw[<-hl];exact(qm.1 hx).1
  rcases hR i I P b0 _ _ rfl f3 with h|h
  .exact h
  .have h':w.heap.size<=b0.block:=h;omega
 .obtain⟨P,f1,f2,f3⟩:=bh i nm I;exact⟨P,f1,(U _).symm.trans f2,f3⟩
 .have:=lE.1 ax0 g bU;simp only[qV,nF] at this;rcases this with rfl|rfl
  .exact lz ((U _).symm.trans bp)
  .exact lz ((U _).symm.trans ck)
 .subst ad;exact aT (by omega) s1 (bL P rfl)
 .subst ad;exact aT (by omega) s2 (c8 P rfl)
 have cq:w'.heap.size<=w.heap.size:=by omega
 have cr:w.heap.size<w3.heap.size:=J.lt
 let p:Ren:={
  r:=λa b=>ρ.r a b\/(b=Q/\C.r a w.heap.size)\/(b=X/\C.r a w3.heap.size)
  lax:=ρ.lax
  dim:=ρ.dim
  al:=ρ.al
  fn:=λ{a b d} h k=>by
   rcases h with h|⟨rfl,h⟩|⟨rfl,h⟩<;>rcases k with k|⟨rfl,k⟩|⟨rfl,k⟩
   .exact ρ.fn h k
   .have:=C.fn (q.le.r h) k;have:=(F.lt h).2;omega
   .have:=C.fn (q.le.r h) k;have:=(F.lt h).2;omega
   .have:=C.fn (q.le.r k) h;have:=(F.lt k).2;omega
   .rfl
   .have:=C.fn h k;omega
   .have:=C.fn (q.le.r k) h;have:=(F.lt k).2;omega
   .have:=C.fn h k;omega
   .rfl
  inj:=λ{a b d} h k=>by
   rcases h with h|⟨rfl,h⟩|⟨rfl,h⟩<;>rcases k with k|⟨e,k⟩|⟨e,k⟩
   .exact ρ.inj h k
   .have:=(F.lt h).2;omega
   .have:=(F.lt h).2;omega
   .have:=(F.lt k).2;omega
   .exact C.inj h k
   .exact absurd e af
   .have:=(F.lt k).2;omega
   .exact absurd e.symm af
   .exact C.inj h k
  kN:=λ{a b} h=>by
   have:=F.kN.2;rcases h with h|⟨rfl,h⟩|⟨rfl,h⟩
   .exact ρ.kN h
   .have:=C.kN h;omega
   .have:=C.kN h;omega}
 have a4:ρ.Le p:=⟨.inl,rfl,rfl,rfl⟩;have down:∀{u v:Value},VR C u v->mxV v<=D->VR p u v:=λh f=>(VR.down hd H h f).mono a4;have aL:∀{u:Value},VR C u (.slice (some ⟨w.heap.size,0,none⟩) E E)->VR p u (.slice (some ⟨Q,0,none⟩) E E):=λ{u} h=>by
  cases h with
  |slice hA=>cases hA with
   |some hA=>cases hA with
    |mk h o s=>exact .slice (.some (.mk (Or.inr (Or.inl ⟨rfl,h⟩)) 0 none)) _ _
  |fH hl _=>exact .fH (hd.1▸hl) rfl
 have c7:∀{u:Value},VR C u (.pointer (some ⟨w3.heap.size,0,none⟩))->VR p u (.pointer (some ⟨X,0,none⟩)):=λ{u} h=>by
  cases h with
  |pointer hA=>cases hA with
   |some hA=>cases hA with
    |mk h o s=>exact .pointer (.some (.mk (Or.inr (Or.inr ⟨rfl,h⟩)) 0 none))
  |fH hl _=>exact .fH (hd.1▸hl) rfl
 have zr:∀{n:Nat} {z z':Nat×Nat},ZR C n z z'->ZR p n z z':=λh=>by
  unfold ZR at h ⊢;rw[aI] at h;exact h
 have bY:b6=cs:=by
  apply sD;intro i;rcases pi i (2*E) with I|I
  .obtain⟨j,hj⟩:∃j,i=2*j\/i=2*j+1:=⟨i / 2,by omega⟩;obtain⟨nm,a3⟩:∃nm,dA[j]?=some nm:=⟨_,iS (by omega)⟩;have b1:=bG j (V M l nm) (by rw[qH,a3];rfl);have b2:=aX j nm a3;rcases hj with rfl|rfl
   .rw[b1.1,b2.1]
   .rw[b1.2,b2.2]
  .rw[qd (by omega),qd (by omega)]
 refine⟨p,(T4.setIfInBounds 17 (.slice (some ⟨Q,0,none⟩) E E)).setIfInBounds 8 (.pointer (some ⟨X,0,none⟩)),a4, ?_,⟨λ{b K} f=> ?_, ?_, ?_, ?_⟩, ?_,by simpa using ax,λi I=> ?_, ?_, ?_, ?_, ?_,λi I=> ?_⟩
 .-- frames
  rw[aG];refine .cons ⟨W.fn, ?_, ?_, ?_,W.mode,W.kind, ?_⟩ ((iF.down hd H q.le (e1▸a8) cg bz).mono a4)
  .refine alQ (by simp only[Array.size_setIfInBounds];exact bN.size W.tmps) λi u v hu G=> ?_;by_cases i8:i=8
   .subst i8;rw[qb (by simp;omega)] at G;cases G;exact c7 (dh.at W.tmps hu (by rw[<-s8];exact vA (by show 8<T4.size;omega)))
   rw[jp (λe=>i8 e.symm)] at G;by_cases a7:i=17
   .subst a7;rw[qb (by omega)] at G;cases G;exact aL (dh.at W.tmps hu (by rw[<-bw];exact vA (by show 17<T4.size;omega)))
   rw[jp (λe=>a7 e.symm)] at G;have N:VR C u v:=dh.at W.tmps hu G;have L:=amf G;cases a0:cK.contains i with
   |true=>
    rw[c9 i a0] at L;subst L;exact down N (by simp only[mxV];omega)
   |false=>
    by_cases i6:i=6
    .subst i6;rw[t6] at L;subst L;exact down N (by simp only[mxV,mxA];omega)
    by_cases i7:i=7
    .subst i7;rw[t7] at L;subst L;exact down N (by simp only[mxV];omega)
    have cm:(T0F S).getD i undef=v:=by
     rw[<-L];exact(g1 i (by simp only[mH,tj,a0];simp[i6,i7]) a0 (by simp only[tj,a0];simp[i8,a7])).symm
    have aa:(T0F S)[i]?=some v:=by
     have a5:i<(T0F S).size:=by rw[<-ax];exact(dl.1 G).1
     rw[<-cm];exact vA a5
    exact down N (ap (am7 aa) cn)
  .have ht:=W.todo;generalize x.todo=td at ht ⊢;cases ht with
   |cons T O=>cases T;cases O;exact .cons (.code _) .nil
  .have ht:=W.defers;generalize x.defers=td at ht ⊢;cases ht;exact .nil
  .have ht:=W.round;generalize x.roundOf=td at ht ⊢;cases ht;exact .none
 .-- objects
  rcases f with f|⟨rfl,f⟩|⟨rfl,f⟩
  .obtain⟨o,o',T,O,Y⟩:=q.wr.obj (q.le.r f);obtain⟨u,u',k1,k2,k3⟩:=F.obj f;have e:=bk K (F.lt f).2;rw[O,k2] at e;cases e;exact⟨o,o',T,(bT _ _ f).trans k2,(OR.down hd H aI q.le k3 Y (ap (am5 (i:=K) (by rw[du];exact k2)) b9)).mono a4⟩
  .obtain⟨o,o',T,O,Y⟩:=q.wr.obj f;rw[a6] at O;cases O;cases Y with
   |@cells cl _ iZ _ z _ a9=>
    refine⟨_,_,T,fL, ?_⟩;subst bY;refine .cells (alQ (by simpa using iZ.length) λi u v hu G=> ?_) _ (zr a9);have N:=dh.at iZ hu G;obtain⟨j,hj⟩:∃j,i=2*j\/i=2*j+1:=⟨i / 2,by omega⟩;have I:=(dl.1 G).1;obtain⟨nm,a3⟩:∃nm,dA[j]?=some nm:=⟨_,iS (by omega)⟩;have b2:=aX j nm a3;rcases hj with rfl|rfl
    .rw[b2.1] at G;cases G;exact down N (by simp only[mxV];omega)
    .rw[b2.2] at G;cases G;exact down N (by simp only[mxV];omega)
  .obtain⟨o,o',T,O,Y⟩:=q.wr.obj f;rw[ci] at O;cases O;cases Y with
   |@cells cl _ iZ _ z _ a9=>
    refine⟨_,_,T,br,.cells (alQ (by simpa using iZ.length) λi u v hu G=> ?_) _ (zr a9)⟩;have I:=(dl.1 G).1;have aa:i=0:=by simpa using I
    subst aa;cases G;exact aL (dh.at iZ hu rfl)
 .exact q.kept.os.1.trans (F.os.trans bR.symm)
 .exact ap F.kN.1 q.kept.size
 .exact ap F.kN.2 bx
 .rintro b K (h|⟨rfl,_⟩|⟨rfl,_⟩)
  .exact .inl h
  .exact .inr (.inl rfl)
  .exact .inr (.inr rfl)
 .rw[aH (by simp;omega),bv (by omega),aH (by omega),bv (by omega)];have:i=0\/i=1\/i=2:=by omega
  rcases this with rfl|rfl|rfl
  .exact g1 0 rfl rfl rfl
  .exact g1 1 rfl rfl rfl
  .exact g1 2 rfl rfl rfl
 .rw[aH (by simp;omega),bv (by decide),aH (by omega),bv (by decide)];exact t6
 .rw[aH (by simp;omega),bv (by decide),aH (by omega),bv (by decide)];exact t7
 .rw[aH (by simp;omega),dq rfl]
 .rw[aH (by simp;omega),bv (by decide),aH (by omega),dq rfl]
 .obtain⟨i1,i2,i3,i4,i5⟩:=arV I;have e:((T4.setIfInBounds 17 (.slice (some ⟨Q,0,none⟩) E E)).setIfInBounds 8 (.pointer (some ⟨X,0,none⟩))).getD i undef=T4.getD i undef:=by
   rw[aH (by simp;omega),bv i4,aH (by omega),bv i5]
  exact e.trans (g1 i i1 i2 i3)
end
end Go.Proofs.YtbeafkpaghapeaaGreatDoor