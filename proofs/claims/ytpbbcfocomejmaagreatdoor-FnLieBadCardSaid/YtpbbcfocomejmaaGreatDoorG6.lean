/- A part of the proof. -/
import Derived.Test.YtpbbcfocomejmaaGreatDoorG5
import Derived.WalkSpells
import Derived.Laws.CopyRow
import Derived.RangeFuncNested
import Derived.RangeFuncBound
import Derived.RangeFuncCalls
import Derived.RangeFuncLeaves
import Derived.Shelf.Abstract
import Derived.Shelf.RegionOpen
import Derived.OwnWalkIn
import Derived.TacticsInMore
import Derived.LoopNIn
import Derived.LoopIn
import Derived.Laws.BytesString
set_option maxRecDepth 100000
set_option maxHeartbeats 8000000
set_option linter.all false
open Go Go.RowKit Go.Proofs.Tryz Go.Proofs.YtpbbcfocomejmaaGreatDoor
variable {s:dS} {x z:It} {Z X Q b c g hi i j k n:Nat} {key:Int} {Y β:Type} {W V U v:Value} {w':World} {e:TypeId} {S:List Pk} {R:List Sn} {a o:List It} {l':List iw} {xs:List Hd} {p:ByteArray} {cs:List Value} {A:Option Addr} {T:List TypeId} {E:fV Y}
namespace Go.Proofs.YtpbbcfocomejmaaGreatDoor
def pi:=@_root_.List.length_eq_zero_iff
def sF:=@_root_.List.find?_cons
def tL:=@_root_.List.mem_map_of_mem
def tV:=@_root_.List.filter_append
def uQ:=@_root_.Int.mul_le_mul_of_nonneg_left
def uT:=@_root_.List.filterMap_cons
def vW:=@_root_.Int.emod_add_mul_ediv
def wh:=@_root_.List.mem_of_getLast?
section
variable {β:Bool}
open Go.RowKit
def kv(x:It):List It->List It
 |[]=>[x]
 |y::l=>if x.n<y.n then x::y::l else y::kv x l
def agD{x:It}:∀{a:List It},(∀y∈a,¬x.n<y.n)->kv x a=a++[x]
 |[],_=>rfl
 |y::a,h=>by
  show(if x.n<y.n then _ else _)=_;rw[be (h y (by simp)),agD λz b=>h z (by simp[b])];rfl
def ajz{x z:It}:∀{a:List It},(∀y∈a,¬x.n<y.n)->x.n<z.n->kv x (a++[z])=a++[x]++[z]
 |[],_,b=>by show(if x.n<z.n then _ else _)=_;rw[dl b];rfl
 |y::a,h,b=>by
  show(if x.n<y.n then _ else _)=_;rw[be (h y (by simp))];show y::kv x (a++[z])=_;rw[ajz (λz b=>h z (by simp[b])) b];rfl
def ajA{x z:It}:∀{a:List It},(∃y∈a,x.n<y.n)->kv x (a++[z])=kv x a++[z]
 |[],h=>by obtain⟨y,b,_⟩:=h;cases b
 |y::a,h=>by
  show(if x.n<y.n then _ else _)=(if x.n<y.n then _ else _)++_;by_cases b:x.n<y.n
  .rw[dl b,dl b];rfl
  .rw[be b,be b];show y::kv x (a++[z])=y::(kv x a++[z]);rw[ajA];obtain⟨u,d,c⟩:=h;rcases mc.1 d with rfl|d
   .exact absurd c b
   .exact⟨u,d,c⟩
def afe(x:It):∀l:List It,(kv x l).length=l.length+1
 |[]=>rfl
 |y::l=>by
  show(if x.n<y.n then _ else _:List It).length=_;split
  .rfl
  .show(kv x l).length+1=_;rw[afe x l];rfl
def ajB{x z:It}:∀{l:List It},z∈kv x l↔z=x\/z∈l
 |[]=>by show z∈[x]↔_;simp
 |y::l=>by
  show z∈(if x.n<y.n then _ else _)↔_;split
  .simp
  .rw[mc,ajB,mc];constructor
   .rintro(h|h|h)<;>simp[h]
   .rintro(h|h|h)<;>simp[h]
def ab8(x:It)(a:List It)(b:Bool)(o:List It):Prop:=(b=false/\o=a/\∀y∈a,¬x.n<y.n)\/(b=true/\o=kv x a/\∃y∈a,x.n<y.n)
def aps{b:Bool}(h:ab8 x a b o):o.length<=a.length+1:=by
 rcases h with⟨_,rfl,_⟩|⟨_,rfl,_⟩
 .omega
 .rw[afe];exact am _
def apt(h:ab8 x a false o)(b:x.n<z.n):ab8 x (a++[z]) true (o++[x]++[z]):=by
 rcases h with⟨_,rfl,h⟩|⟨h,_⟩
 .exact .inr ⟨rfl,(ajz h b).symm,z,by simp,b⟩
 .cases h
def aso(h:ab8 x a false o)(c:¬x.n<z.n):ab8 x (a++[z]) false (o++[z]):=by
 rcases h with⟨_,rfl,h⟩|⟨h,_⟩
 .exact .inl ⟨rfl,rfl,λy b=>by
   rcases me.1 b with b|b
   .exact h y b
   .rw[lc.1 b];exact c⟩
 .cases h
def alS(h:ab8 x a true o):ab8 x (a++[z]) true (o++[z]):=by
 rcases h with⟨h,_⟩|⟨_,rfl,y,c,b⟩
 .cases h
 .exact .inr ⟨rfl,(ajA ⟨y,c,b⟩).symm,y,by simp[c],b⟩
def apu{b:Bool}(h:ab8 x a b o):(b=false/\kv x a=o++[x])\/(b=true/\kv x a=o):=by
 rcases h with⟨c,rfl,h⟩|⟨c,rfl,_⟩
 .exact .inl ⟨c,agD h⟩
 .exact .inr ⟨c,rfl⟩
def aAp(w:World)(ys:List It)(e:Ending)(w':World):Prop:=∃v,e=.returned v/\aH oL 48 w' w.heap.size v ys/\Below w.heap.size w w'
def apv(x:It)(a3:oL.good x)(xs:List It)(v:Value)(w:World)(U hi:Nat)(bu:hi<=w.heap.size)(h:iM w U hi xs [v])(hl:xs.length<=1000000) :
  Calls (ah β) 74 #[v,.agg #[.int .i64 x.n,.string x.b]] w (aAp w (kv x xs)):=by
 obtain⟨A,c,rfl⟩:=h.form;obtain⟨_,hc,hx⟩:=h.len_;unfold maxLen at hx;go_enter yL,ntmps74;go_wp2;generalize hG:(w.alloc (.cells #[.int .i64 x.n,.string x.b] 48)).alloc (.cells #[] 48)=w0 at *;obtain⟨D,iv,k0,dP,fu,J,V,jT⟩:=aeK hG;have E:w.heap.size+1<=w0.heap.size:=by omega
 have g0:=iM.av.below h D bu;have o0:aH oL 48 w0 (w.heap.size+1) (.slice (some ⟨w.heap.size+1,0,none⟩) 0 0) []:=aH.ahE ⟨_,rfl,am _,J⟩;go_loopw [5,6,7] (λoo pp T wr=>∃(k:Nat) (b:Bool) (o:List It),k<=xs.length/\pp=.bool b/\T=.int .i64 k/\aH oL 48 wr (w.heap.size+1) oo o/\ab8 x (xs.take k) b o/\bM (λb=>w.heap.size+1<=b) w0 wr) (λ_ _ T _=>xs.length-(intOf T).toNat)
 case atStart=>exact⟨0,false,[],fa _,rfl,rfl,o0,.inl ⟨rfl,rfl,λy hy=>(by cases hy)⟩,bM.refl _ _⟩
 case round=>
  obtain⟨k,b,o,hk,rfl,rfl,s,f,g⟩:=hrel;replace f:=ab f;obtain⟨r,t,rfl⟩:=s.form;have Q:=aps f.out;rw[fb] at Q;have g1:iM wr U hi xs [.slice A xs.length c]:=iM.av.fc g0 g λb _ h2 _ h3=>by omega
  have J:=bq k0 g (by omega);have V:=J.cell;have jT:=J.frozen;by_cases O:k<xs.length
  .obtain⟨z,n⟩:=ar O;obtain⟨b1,a1,rfl,a5,a2,Y,cn,cb⟩:=ae6 g1 n;replace n:=ab n;have N:=ab (mx n.out);cases b with
   |true=>
    have B:=ab (alS (z:=z) f.out);go_wp2
    go_quiet (fail)
    have j:aH oL 48 (wr.drewN nq) (w.heap.size+1) (.slice r o.length t) o:=s;go_wp2_with(at_builtin;refine bN (F:=oL) (v:=.slice r o.length t) rfl (.tmp 31) (.tmp 36) 34 rfl aae z rfl j rfl rfl (by first|omega|(simp only[ap,ff,ls];omega)) (bd E (g.drewN nq).size) ?_;intro P u d l q;obtain⟨C,G,rfl⟩:=d.form;simp only[ap,ff,ls,jt] at d;skip);have a:bM (λb=>w.heap.size+1<=b) w0 u:=(g.drewN nq).trans l λb I e=>(j.at_ e).1;go_roundw
    case rel=>exact⟨k+1,true,o++[z],by omega,rfl,by go_num,d,by rw[N.out];exact B.out,a⟩
    simp[intOf];omega
   |false=>
    by_cases m:x.n<z.n
    .have t1:decide (x.n<z.n)=true:=db m;have B:=ab (apt f.out m);go_wp2
     go_quiet (fail)
     have j:aH oL 48 (wr.drewN nq) (w.heap.size+1) (.slice r o.length t) o:=s;have mY:∀i,(wr.drewN nq).cell? ⟨w.heap.size,i,none⟩=_:=V;go_wp2_with(first|(at_builtin;refine bN (F:=oL) (v:=.slice r o.length t) rfl (.tmp 27) (.tmp 29) 34 rfl aae x rfl j rfl rfl (by first|omega|(simp only[ap,ff,ls];omega)) (bd E (g.drewN nq).size) ?_;intro P u d l q;obtain⟨C,G,rfl⟩:=d.form;simp only[ap,ff,ls,jt] at d;have a:bM (λb=>w.heap.size+1<=b) w0 u:=(g.drewN nq).trans l λb I e=>(j.at_ e).1;have a0:=iL (w:=wr.drewN nq) cn l (λH=>by have:=(j.at_ H).1;dsimp only at this;omega);have a4:=iL (w:=wr.drewN nq) cb l (λH=>by have:=(j.at_ H).1;dsimp only at this;omega))|(at_builtin;refine bN (F:=oL) (v:=.slice C (o.length+1) G) rfl (.tmp 31) (.tmp 36) 34 rfl aae z rfl d rfl rfl (by first|omega|(simp only[ap,ff,ls];omega)) (bd E a.size) ?_;intro v4 X S K Z;obtain⟨A4,c4,rfl⟩:=S.form;simp only[ap,ff,ls,jt] at S;have R:bM (λb=>w.heap.size+1<=b) w0 X:=a.trans K λb I e=>(d.at_ e).1));go_roundw
     case rel=>exact⟨k+1,true,o++[x]++[z],by omega,rfl,by go_num,S,by rw[N.out];exact B.out,R⟩
     simp[intOf];omega
    .have t1:decide (x.n<z.n)=false:=bv m;have B:=ab (aso f.out m);go_wp2
     go_quiet (fail)
     have j:aH oL 48 (wr.drewN nq) (w.heap.size+1) (.slice r o.length t) o:=s;go_wp2_with(at_builtin;refine bN (F:=oL) (v:=.slice r o.length t) rfl (.tmp 31) (.tmp 36) 34 rfl aae z rfl j rfl rfl (by first|omega|(simp only[ap,ff,ls];omega)) (bd E (g.drewN nq).size) ?_;intro P u d l q;obtain⟨C,G,rfl⟩:=d.form;simp only[ap,ff,ls,jt] at d;skip);have a:bM (λb=>w.heap.size+1<=b) w0 u:=(g.drewN nq).trans l λb I e=>(j.at_ e).1;go_roundw
     case rel=>exact⟨k+1,false,o++[z],by omega,rfl,by go_num,d,by rw[N.out];exact B.out,a⟩
     simp[intOf];omega
  .obtain rfl:k=xs.length:=by omega
   have p:=apu f.out;rw[ge] at p;have W:=ab p;have L:Below w.heap.size w wr:=D.trans (g.below D.size λi hi H=>by omega);cases b with
   |true=>
    have M:kv x xs=o:=by
     rcases W.out with⟨h,_⟩|⟨_,h⟩
     .cases h
     .exact h
    rw[M];go_wp2;go_ret;exact⟨_,rfl,s.base (by omega),L⟩
   |false=>
    have M:kv x xs=o++[x]:=by
     rcases W.out with⟨_,h⟩|⟨h,_⟩
     .exact h
     .cases h
    rw[M];go_wp2_with(at_builtin;refine bN (F:=oL) (v:=.slice r o.length t) rfl (.tmp 40) (.tmp 42) 34 rfl aae x rfl s rfl rfl (by first|omega|(simp only[ap,ff,ls];omega)) (bd E g.size) ?_;intro P u d l q;obtain⟨C,G,rfl⟩:=d.form;simp only[ap,ff,ls,jt] at d;skip);have a:bM (λb=>w.heap.size+1<=b) w0 u:=g.trans l λb I e=>(s.at_ e).1;go_ret;exact⟨.slice C (o.length+1) G,rfl,by have:=d.base (base':=w.heap.size) (by omega);simpa using this,D.trans (a.below D.size λi hi H=>by omega)⟩
def iN(key:Int)(s:ByteArray):It:=⟨bA key (bs s),rF (fw (bs s))⟩
def fR(key:Int)(l:List ByteArray):List It:=l.foldl (λa s=>kv (iN key s) a) []
def nN(key:Int)(l:List ByteArray)(s:ByteArray):fR key (l++[s])=kv (iN key s) (fR key l):=by
 unfold fR;rw[sM];rfl
def acR(key:Int)(l:List ByteArray):(fR key l).length=l.length:=by
 induction l using nt with
 |h0=>rfl
 |h1 l s a=>rw[nN,afe,a,ap];rfl
def acS{l:List ByteArray}:x∈fR key l↔∃s∈l,x=iN key s:=by
 induction l using nt with
 |h0=>simp[fR]
 |h1 l s b=>
  rw[nN,ajB,b];constructor
  .rintro(h|⟨t,a,h⟩)
   .exact⟨s,by simp,h⟩
   .exact⟨t,by simp[a],h⟩
  .rintro⟨t,a,h⟩;rcases me.1 a with a|a
   .exact .inr ⟨t,a,h⟩
   .rw[lc.1 a] at h;exact .inl h
def adf(key:Int){s:ByteArray}(a:aU (bs s)):oL.good (iN key s):=by
 have b:=lS (key:=key) (l:=bs s);show cA (bA key (bs s))/\(rF (fw (bs s))).size<=maxLen;refine⟨by unfold cA;omega, ?_⟩;rw[<-aM,ahu,aeA a];have:=(mJ (n:=(bs s).length)).1;unfold maxLen;omega
def aff{l:List ByteArray}(h:∀s∈l,aU (bs s)):∀x∈fR key l,oL.good x:=λx b=>by
 obtain⟨s,a,rfl⟩:=acS.1 b;exact adf key (h s a)
def aAq(no:Int)(w:World)(ys:List It)(e:Ending)(w':World):Prop:=∃v,e=.returned (.agg #[.int .i64 no,v])/\aH oL 48 w' w.heap.size v ys/\Below w.heap.size w w'
def alT(u key:Int)(hk:1<=key/\key<=99)(xs:List ByteArray)(G:∀s∈xs,aU (bs s))(hl:xs.length<=100)(v:Value)(w:World)(lo hi:Nat)(bu:hi<=w.heap.size)(h:dr w lo hi xs [v]) :
  Calls (ah β) 49 #[.int .i64 u,.int .i64 key,v] w (aAq u w (fR key xs)):=by
 replace G:=ab G;obtain⟨A,c,rfl⟩:=h.form;go_enter ze,ntmps49;go_wp2;generalize hG:((w.alloc (.cells #[.int .i64 0,.slice none 0 0] 36)).alloc (.cells #[] 48)).alloc (.cells #[.int .i64 u,.slice (some ⟨w.heap.size+1,0,none⟩) 0 0] 36)=w0 at *;obtain⟨aK,iv,f,dP,fu,k1,iA,jT,b,m,z⟩:=aiU hG;have o0:aH oL 48 w0 (w.heap.size+1) (.slice (some ⟨w.heap.size+1,0,none⟩) 0 0) []:=aH.ahE ⟨_,rfl,am _,k1⟩;go_loopw [8] (λZ wr=>∃(k:Nat) (R:Value),k<=xs.length/\Z=.int .i64 k/\aH oL 48 wr (w.heap.size+1) R (fR key (xs.take k))/\bW wr w.heap.size 36 #[.int .i64 0,.slice none 0 0]/\bW wr (w.heap.size+1+1) 36 #[.int .i64 u,R]/\Below w.heap.size w wr) (λZ _=>xs.length-(intOf Z).toNat)
 case atStart=>exact⟨0,_,fa _,rfl,o0,f,b,aK⟩
 case round=>
  obtain⟨k,R,a1,rfl,i,f,b,d⟩:=hrel;obtain⟨M,S,rfl⟩:=i.form;have h1:=dr.av.below h d bu;have dP:=f.cell;have fu:=f.frozen;have m:=b.cell;have z:=b.frozen;have q:Hid (∀x∈fR key (xs.take k),oL.good x):=ab (aff λs hs=>G.out s (pu hs));have D:(fR key (xs.take k)).length<=100:=by rw[acR,fb];omega
  by_cases T:k<xs.length
  .obtain⟨s,l⟩:=ar T;obtain⟨b1,a3,rfl,_,_,N,n⟩:=kT h1 l;have E:=G.out s (da l);have o:fR key (xs.take (k+1))=kv (iN key s) (fR key (xs.take k)):=by rw[mx l,nN]
   have HST:=ab o;have O:=ab (adf key E);have U:=ab (λw=>nz (β:=β) key s hk E w);have X:=ab (λw=>agj (β:=β) s N w);have V:iN key s=⟨bA key (bs s),rF (fw (bs s))⟩:=rfl;have a2:=ab V;have P:=ab (ahu s);have J:=i.deep q.out (w.heap.size+1) |>.sl (am _)
   have H:wr.cell? ⟨w.heap.size+1+1,1,none⟩=some (.slice M (fR key (xs.take k)).length S):=m 1;have B:=ab (λg hg=>i.at_ (g:=g) hg);have a0:w.heap.size+1+1<wr.heap.size:=b.lt;revert HST;revert D;revert H;revert J;revert q;revert B;revert i;revert m;revert b;generalize fR key (xs.take k)=L;intro b m i B q J H D HST;go_wp2;have aJ:=aj H;have aL:=aj n;refine aQ 15 [0,1,2,3,4,5,6,8,9,10,11] [7,12,13,14] (h:= ?_);simp only[pick,List.map,mT,nf];repeat(go_big_quiet_step (fail))
   refine gt ?_;apply Exists.intro;apply gF (.int .i64 (bA key (bs s)))
   .intro y j I a;replace a:=ab a;go_wp2;refine(U.out y.to).mono ?_;rintro e wy ⟨rfl,rfl⟩;go_wp2;exact a.out _ (gn _ _)
   apply gF (.string (rF (fw (bs s))))
   .intro y j I a;replace a:=ab a;go_wp2;refine(X.out y.to).mono ?_;rintro e wy ⟨⟨t,rfl,ht⟩,rfl⟩;have Q:t=rF (fw (bs s)):=kL (ht.trans P.out.symm);subst Q;go_wp2;exact a.out _ (gn _ _)
   apply gF (.agg #[.int .i64 (bA key (bs s)),.string (rF (fw (bs s)))])
   .intro y j I a;replace a:=ab a;go_wp2;exact a.out _ (gn _ _)
   apply dB (λv w'=>aH oL 48 w' wr.heap.size v (kv (iN key s) L))
   .rfl
   .exact λv x y h Y=>h.below Y
   .intro y j I a;replace a:=ab a;have r1:=iM.av.below J y.ok (am _);go_wp2;refine(apv (iN key s) O.out L _ y.to _ _ y.ok.size r1 (by omega)).mono ?_;rintro e wy ⟨vy,rfl,oy,K⟩;go_wp2;exact a.out _ _ K (oy.base y.ok.size)
   intro a4;refine bY ?_;intro w2 r xx gI j;dsimp only[gU] at j;try rw[gI] at j
   obtain⟨A5,c5,rfl⟩:=j.1.form;have o5:=j.1;simp only[List.drop];replace f:=ak f r;replace dP:=f.cell;replace fu:=f.frozen;replace b:=ak b r;replace m:=b.cell;replace z:=b.frozen;replace d:=ae d r;go_wp2;have C:=b.cf 1 (.slice A5 (kv (iN key s) L).length c5);simp only[de,fi,ga] at C;go_roundw
   case rel=>exact⟨k+1,_,by omega,by go_num,by rw[HST.out];exact(o5.cf _ (by dsimp only;omega)).base (by omega),eI f _ (by dsimp only;omega),C,d.setCell (by dsimp only;omega) _⟩
   simp[intOf];omega
  .obtain rfl:k=xs.length:=by omega
   rw[ge] at i m b;obtain⟨L,F⟩:∃L,L=fR key xs:=⟨_,rfl⟩;rw[<-F] at i m b ⊢;replace F:=ab F;go_wp2;have k4:=(f.cf 0 (.int .i64 u)).cf 1 (.slice M L.length S);simp only[de,fi,ga] at k4;have W:=k4.cell;exact oR (v:=.agg #[.int .i64 u,.slice M L.length S]) (by simp[results,results49,go_sem,W]) rfl ⟨_,rfl,by rw[<-F.out];exact aH.base (base:=w.heap.size+1) ((i.cf (p:=⟨w.heap.size,0,none⟩) _ (by dsimp only;omega)).cf (p:=⟨w.heap.size,1,none⟩) _ (by dsimp only;omega)) (by omega),(d.setCell (by simp) _).setCell (by simp) _⟩
end
section
variable {β:Bool}
open Go.RowKit
def anU(p:List Nd->Prop)(w:World)(e:Ending)(w':World):Prop:=∃v a,e=.returned v/\aH pF 89 w' w.heap.size v a/\p a/\Below w.heap.size w w'
def ajC(xs:List Nd)(s:ByteArray)(v:Value)(w:World)(E hi:Nat)(h:fC w E hi xs [v])(r:hi<=w.heap.size)(O:xs.length<=1000) :
  Calls (ah β) 28 #[v,.string s] w (anU (λys=>ys.Sublist xs) w):=by
 obtain⟨A,c,rfl⟩:=h.form;go_enter zB,ntmps28;go_wp2;have l:=aA w (.cells #[] 89);have j:aH pF 89 (w.alloc (.cells #[] 89)) w.heap.size (.slice (some ⟨w.heap.size,0,none⟩) 0 0) []:=(eJ.new w 89 (am _)).own 2;generalize w.alloc (.cells #[] 89)=w0 at *;go_loopw [5,6] (λz p wr=>∃(k:Nat) (ys:List Nd),k<=xs.length/\p=.int .i64 k/\aH pF 89 wr w.heap.size z ys/\ys.Sublist (xs.take k)/\Below w.heap.size w wr) (λ_ p _=>xs.length-(intOf p).toNat)
 case atStart=>exact⟨0,[],fa _,rfl,j,List.Sublist.refl _,l⟩
 case round=>
  obtain⟨k,ys,J,rfl,e,f,d⟩:=hrel;obtain⟨D,y,rfl⟩:=e.form;have t:ys.length<=k:=by have:=f.length_le;rw[fb] at this;omega
  by_cases g:k<xs.length
  .obtain⟨x,o⟩:=ar g;obtain⟨H,u,rfl,_,C,I,Q,N⟩:=kV (fC.av.below h d r) o;have a:(ys++[x]).Sublist (xs.take (k+1)):=by rw[mx o];exact f.append (List.Sublist.refl _)
   have b:ys.Sublist (xs.take (k+1)):=by rw[mx o];exact f.trans (List.sublist_append_left _ _)
   replace a:=ab a;replace b:=ab b;cases K:(x.p.toList ==s.toList)
   .go_wp2_with(at_builtin;refine bN (F:=pF) (v:=.slice D ys.length y) rfl (.tmp 21) (.tmp 26) 59 rfl nM x rfl e rfl rfl (by omega) d.size ?_;intro P L m n q;obtain⟨G,M,rfl⟩:=m.form;simp only[ap,ff,ls,jt] at m);go_roundw
    case rel=>
     exact⟨k+1,ys++[x],by omega,by go_num,by simpa using m,a.out,d.trans (n.below d.size λi hi B=>by have:=(e.at_ B).1;omega)⟩
    case measure=>simp[intOf];omega
   .go_wp2;go_roundw
    case rel=>exact⟨k+1,ys,by omega,by go_num,e,b.out,d⟩
    simp[intOf];omega
  .obtain rfl:k=xs.length:=by omega
   go_wp2;go_ret;exact⟨_,ys,rfl,e,by rwa [ge] at f,d⟩
def alU(xs:List Nd)(f:Nd)(hf:pF.good f)(v:Value)(w:World)(lo hi:Nat)(h:fC w lo hi xs [v])(bu:hi<=w.heap.size)(hl:xs.length<=1000) :
  Calls (ah β) 53 #[v,.agg #[.string f.p,.string f.b]] w (anU (λa=>(∀y∈a,y∈xs\/y=f)/\a.length<=xs.length+1) w):=by
 obtain⟨A,c,rfl⟩:=h.form;go_enter zc,ntmps53;go_wp2;generalize hG:(w.alloc (.cells #[.string f.p,.string f.b] 89)).alloc (.cells #[] 89)=w0 at *;obtain⟨aK,iv,k0,dP,fu,k1,iA,jT⟩:=aeK hG;clear hG;have P:aH pF 89 w0 (w.heap.size+1) (.slice (some ⟨w.heap.size+1,0,none⟩) 0 0) []:=eJ.own ⟨_,rfl,am _,k1⟩ 2;clear k1 iA jT dP fu;go_loopw [5,6,7] (λoo dd ii wr=>∃(k:Nat) (d:Bool) (a:List Nd),k<=xs.length/\ii=.int .i64 k/\dd=.bool d/\aH pF 89 wr (w.heap.size+1) oo a/\(∀y∈a,y∈xs\/y=f)/\a.length<=k+(if d then 1 else 0)/\Below (w.heap.size+1) w0 wr) (λ_ _ ii _=>xs.length-(intOf ii).toNat)
 case atStart=>exact⟨0,false,[],fa _,rfl,rfl,P,λy b=>(by cases b),am _,gn _ _⟩
 case round=>
  clear P;obtain⟨k,d,a,hk,rfl,rfl,q,b,g,n⟩:=hrel;obtain⟨Y,X,rfl⟩:=q.form;have T:bW wr w.heap.size 89 #[.string f.p,.string f.b]:=(n.block _ (by omega)).trans k0;have l:wr.cell? ⟨w.heap.size,0,none⟩=some (.string f.p):=T.cell 0;have z:wr.cell? ⟨w.heap.size,1,none⟩=some (.string f.b):=T.cell 1;have e:Below w.heap.size w wr:=aK.trans (n.mono (by omega));have G:=ab b;clear b;by_cases a1:k<xs.length
  .obtain⟨x,O⟩:=ar a1;obtain⟨b1,a9,rfl,_,af,hg,L,c1⟩:=kV (fC.av.below h e bu) O;have HX:=ab (da O);replace O:=ab O;clear L c1;cases d
   case' true=>
    go_wp2;have u:=aj l;refine aG (by kernel_rfl) (by kernel_rfl) ?_;repeat(go_big_quiet_step (fail))
    refine gt ?_;intro V m;have j:=aN m;clear m u;have D:=n.trans (j.mono (by have:=n.size;omega));have oz:=q.below j;clear q l z n e T;go_wp2;have r:=G;have p:=g;clear G g;generalize Y=A2 at *;generalize X=W at *;generalize a=ys2 at *
   case' false=>
    cases U:Op.bytesLess x.p.toList f.p.toList
    case' false=>
     obtain⟨b2,mE,C,_,_,_,L,_⟩:=kV (fC.av.below h e bu) O.out;simp only[jp,qk,qm] at C;obtain⟨rfl,rfl⟩:=C;go_wp2;have u:=aj L;have I:=aj l;refine aG (by kernel_rfl) (by kernel_rfl) ?_;repeat(go_big_quiet_step (fail))
     refine gt ?_;intro V m;have j:=aN m;clear m u I;have B:=n.trans (j.mono (by have:=n.size;omega));have J:=q.below j;have a3:=bQ j l;have a4:=bQ j z;have a7:a.length<=k:=by simpa using g
     clear q L l z U;go_wp2_with(at_builtin;refine bN (F:=pF) (v:=.slice Y a.length X) rfl (.tmp 27) (.tmp 29) 59 rfl nM f rfl J rfl rfl (by omega) (by have:=B.size;omega) ?_;intro va Z H K a2;obtain⟨A2,W,rfl⟩:=H.form;simp only[ap,ff,ls,jt] at H);have oz:aH pF 89 Z (w.heap.size+1) (.slice A2 (a++[f]).length W) (a++[f]):=by simpa using H
     have D:Below (w.heap.size+1) w0 Z:=B.trans (K.below (by have:=B.size;omega) λi hi S=>by have:=(J.at_ S).1;omega);have r:Hid (∀y∈a++[f],y∈xs\/y=f):=ab λy b=>by
      rcases me.1 b with b|b
      .exact G.out y b
      .exact .inr (lc.1 b)
     have p:(a++[f]).length<=k+(if true then 1 else 0):=by simp;omega
     have E:(a++[f]).length=a.length+1:=by simp
     rw[<-E];clear E H J B n e T g a3 a4;clear G;generalize a++[f]=ys2 at *
    case' true=>
     obtain⟨b2,mE,C,_,_,_,L,_⟩:=kV (fC.av.below h e bu) O.out;simp only[jp,qk,qm] at C;obtain⟨rfl,rfl⟩:=C;go_wp2;have u:=aj L;have I:=aj l;refine aG (by kernel_rfl) (by kernel_rfl) ?_;repeat(go_big_quiet_step (fail))
     refine gt ?_;intro V m;have j:=aN m;clear m u I;have D:=n.trans (j.mono (by have:=n.size;omega));have oz:=q.below j;clear q L l z U n e T;go_wp2;have r:=G;have p:=g;clear G g;generalize Y=A2 at *;generalize X=W at *;generalize a=ys2 at *
   all_goals
    rename World=>wz
    have M:bW wz w.heap.size 89 #[.string f.p,.string f.b]:=((D).block _ (by omega)).trans k0;have s:(wz).cell? ⟨w.heap.size,0,none⟩=some (.string f.p):=M.cell 0;have N:Below w.heap.size w wz:=aK.trans ((D).mono (by omega));obtain⟨b3,ad,C,_,_,_,R,d1⟩:=kV (fC.av.below h N bu) O.out;simp only[jp,qk,qm] at C;obtain⟨rfl,rfl⟩:=C;cases Q:(x.p.toList ==f.p.toList)
    .have u:=aj R;have I:=aj s;refine aG (by kernel_rfl) (by kernel_rfl) ?_;repeat(go_big_quiet_step (fail))
     refine gt ?_;intro V m;have j:=aN m;clear m u I;have o:=(D).trans (j.mono (by have:=(D).size;omega));have t:=(oz).below j;have a5:=bQ j R;have a8:=bQ j d1;have a6:(ys2).length<=k+1:=bd p (by simp);have HL:=ab p;clear R d1 s Q N M;go_wp2_with(at_builtin;refine bN (F:=pF) (v:=.slice A2 (ys2).length W) rfl (.tmp 39) (.tmp 44) 59 rfl nM x rfl t rfl rfl (by omega) (by have:=o.size;omega) ?_;intro vb wb ob a0 aa;obtain⟨Ab,cb,rfl⟩:=ob.form);go_roundw
     case rel=>
      refine⟨k+1,_,ys2++[x],by omega,by go_num,rfl,by simpa using ob,λy b=> ?_,by have:=HL.out;rw[ap];simp at this ⊢;omega,o.trans (a0.below (by have:=o.size;omega) λi hi S=>by have:=(t.at_ S).1;omega)⟩;rcases me.1 b with b|b
      .exact(r).out y b
      .rw[lc.1 b];exact .inl HX.out
     case measure=>simp[intOf];omega
    .have u:=aj R;have I:=aj s;refine aG (by kernel_rfl) (by kernel_rfl) ?_;repeat(go_big_quiet_step (fail))
     refine gt ?_;intro V m;have j:=aN m;clear m u I;have o:=(D).trans (j.mono (by have:=(D).size;omega));have t:=(oz).below j;have HL:=ab p;clear R d1 s Q N M;go_wp2;go_roundw
     case rel=>exact⟨k+1,_,ys2,by omega,by go_num,rfl,t,(r).out,by have:=HL.out;simp at this ⊢;omega,o⟩
     simp[intOf];omega
  .obtain rfl:k=xs.length:=by omega
   cases d
   .go_wp2_with(at_builtin;refine bN (F:=pF) (v:=.slice Y a.length X) rfl (.tmp 48) (.tmp 50) 59 rfl nM f rfl q rfl rfl (by simp at g;omega) (by have:=n.size;omega) ?_;intro va Z H K a2;obtain⟨Aa,ca,rfl⟩:=H.form;simp only[ap,ff,ls,jt] at H);go_ret;refine⟨_,a++[f],rfl,(by simpa using H:aH pF 89 Z (w.heap.size+1) (.slice Aa (a.length+1) ca) (a++[f])).base (by omega),⟨λy b=> ?_,by simp at g ⊢;omega⟩,e.trans (K.below e.size λi hi S=>by have:=(q.at_ S).1;omega)⟩;rcases me.1 b with b|b
    .exact G.out y b
    .exact .inr (lc.1 b)
   .go_wp2;go_ret;exact⟨_,a,rfl,q.base (by omega),⟨G.out,by simpa using g⟩,e⟩
def asp(w:World)(e:Ending)(w':World):Prop:=∃v a q,e=.returned (.tuple #[v,.bool q])/\aH pF 89 w' w.heap.size v a/\jU a/\Below w.heap.size w w'
def aah{b:List Nd}(h:jU b):∀y∈b,pF.good y:=λy c=>by
 have d:=kR (h.1 y c).1;have a:=(h.1 y c).2;unfold dE at a;rw[fd] at a;have e:=sL a.1;exact⟨by unfold maxLen;omega,by unfold maxLen;omega⟩
def adg(xs:List Nd)(p b:ByteArray)(s:p.size<=maxLen)(m:b.size<=maxLen)(v:Value)(w:World)(E hi:Nat)(h:fC w E hi xs [v])(j:hi<=w.heap.size)(O:xs.length<=1000) :
  Calls (ah β) 25 #[v,.string p,.string b] w (asp w):=by
 obtain⟨A,c,rfl⟩:=h.form;go_enter zE,ntmps25;go_wp2;refine(aba xs _ w E hi h j).mono ?_;rintro e f ⟨⟨rfl,g⟩|rfl,a⟩
 .replace g:=ab g;go_wp2;refine(jd p s f).mono ?_;rintro e l ⟨rfl,rfl⟩;cases S:gp p
  .go_wp2;exact oR (v:=.tuple #[.slice (some ⟨(f).heap.size,0,none⟩) 0 0,.bool false]) (by simp[results,results25,go_sem]) rfl ⟨_,[],false,rfl,(eJ.new f 89 (a).size).own 2,.nil,(a).alloc (a).size _⟩
  .go_wp2;refine(kS b m f).mono ?_;rintro e l ⟨rfl,rfl⟩;cases J:dE b
   .go_wp2;exact oR (v:=.tuple #[.slice (some ⟨(f).heap.size,0,none⟩) 0 0,.bool false]) (by simp[results,results25,go_sem]) rfl ⟨_,[],false,rfl,(eJ.new f 89 (a).size).own 2,.nil,(a).alloc (a).size _⟩
   .go_wp2;refine(alU xs ⟨p,b⟩ ⟨s,m⟩ _ f E hi (fC.av.below h a j) (bd j a.size) O).mono ?_;rintro e l ⟨W,k,rfl,o,⟨D,K⟩,z⟩;obtain⟨R,M,rfl⟩:=o.form;have q:∀y∈k,pF.good y:=λy P=>by
     rcases D y P with L|rfl
     .exact aah g.out y L
     .exact⟨s,m⟩
    have V:=z.size;have Q:=(o.deep q f.heap.size).sl (am _);go_wp2;refine(aba k _ l f.heap.size l.heap.size Q (am _)).mono ?_;rintro e G ⟨⟨rfl,x⟩|rfl,n⟩
    .have r:=ab x;have d:=ae (ae a z) n;have N:=(o.below n).base a.size;go_wp2;exact oR (v:=.tuple #[.slice R k.length M,.bool true]) (by simp[results,results25,go_sem]) rfl ⟨_,k,true,rfl,N,r.out,d⟩
    .have d:=ae (ae a z) n;have B:=pq (F:=pF) (fC.av.below h d j).1 (bd j d.size);have u:=ab B;have i:=aA G (.cells #[] 89);have t:=ab (eJ.new G 89 (am _));go_wp2_with(at_builtin;refine aeN (F:=pF) (xs:=xs) i rfl (.tmp 31) (.tmp 32) 59 rfl nM (am _) rfl rfl t.out u.out (by omega) ?_;intro U T C H;obtain⟨A',I,rfl⟩:=H.form);exact oR (v:=.tuple #[.slice A' xs.length I,.bool false]) (by simp[results,results25,go_sem]) rfl ⟨_,xs,false,rfl,H.base d.size,g.out,ae d (ae i C)⟩
 .go_wp2;exact oR (v:=.tuple #[.slice (some ⟨(f).heap.size,0,none⟩) 0 0,.bool false]) (by simp[results,results25,go_sem]) rfl ⟨_,[],false,rfl,(eJ.new f 89 (a).size).own 2,.nil,(a).alloc (a).size _⟩
end
section
variable {β:Bool}
open Go.RowKit
def avg(p:Prop):∃q:Bool,q=true↔p:=by
 by_cases h:p
 .exact⟨true,by simp[h]⟩
 .exact⟨false,by simp[h]⟩
def avh{l:List Sp}(h:ixP l):∀x∈l,FSp.good x:=λx a=>by
 have:=h.1 x a;unfold spP at this;refine⟨?_, ?_⟩<;>unfold cA<;>omega
end
section
variable {β:Bool}
open Go.RowKit
def agE:∀{a l:List Sp} {x:Sp},x∈eh a l->x∈a\/x∈l
 |[],_,_,h=>.inr h
 |s::a,l,x,h=>by
  have b:x∈eh a (fB s l):=h;rcases agE b with h|h
  .exact .inl (by simp[h])
  .rcases abY h with rfl|h
   .exact .inl (by simp)
   .exact .inr h
instance aD6:Inhabited Tr:=⟨.nil⟩
end
section
variable {β:Bool}
open Go.RowKit
def adK(l:List Pk)(v:Value)(w:World)(lo hi:Nat)(bu:hi<=w.heap.size)(h:jM w lo hi l [v])(hn:(dc l).length<=4000000)(r:List Sp)(hr:IOf l r) :
  Calls (ah β) 48 #[v] w (awY w r):=by
 obtain⟨A,c,rfl⟩:=h.form;obtain⟨_,hc,hx⟩:=h.len_;unfold maxLen at hx;have HR:=ab hr;clear hr;go_enter zf,ntmps48;go_wp2;have ba:=aA w (.cells #[] 123);have l0:aH FSp 123 (w.alloc (.cells #[] 123)) w.heap.size (.slice (some ⟨w.heap.size,0,none⟩) 0 0) []:=aH.ahE (eJ.new _ _ (am _));generalize w.alloc (.cells #[] 123)=w0 at *;go_loopw [3,4] (λoo ii wr=>∃k:Nat,k<=l.length/\ii=.int .i64 k/\aH FSp 123 wr w.heap.size oo (eh (dc (l.take k)) [])/\(∀s∈dc (l.take k),spP s)/\Below w.heap.size w wr) (λoo ii _=>l.length-(intOf ii).toNat)
 case atStart=>exact⟨0,fa _,rfl,l0,λs t=>(by cases t),ba⟩
 case round=>
  clear l0 ba;obtain⟨k,hk,rfl,i,t,B⟩:=hrel;have HS:=ab t;clear t;have g2:=jM.av.below h B bu;by_cases a3:k<l.length
  .obtain⟨p,K⟩:=ar a3;replace K:=ab K;have R:Hid (∀s∈cK l k 0,spP s):=ab (by rw[ab1];exact HS.out);rw[<-ab1] at i;obtain⟨Ao,co,rfl⟩:=i.form;have N:=i;clear i HS;go_wp2;go_loopw [3,5] (λoo jj wy=>∃j:Nat,j<=p.its.length/\jj=.int .i64 j/\aH FSp 123 wy w.heap.size oo (eh (cK l k j) [])/\(∀s∈cK l k j,spP s)/\Below w.heap.size w wy) (λoo jj _=>p.its.length-(intOf jj).toNat)
   case atStart=>exact⟨0,fa _,rfl,N,R.out,B⟩
   case round=>
    clear N R g2 B;obtain⟨j,hj,rfl,i,t,f⟩:=hrel;have HS:=ab t;clear t;obtain⟨b1,ad,A1,c1,rfl,af,J,a9,S,U,Y⟩:=aaw h K.out;have a1:=bQ f S;have a8:=bQ f U;have oC:=iM.av.below Y f bu;obtain⟨_,al,a7⟩:=oC.len_;unfold maxLen at a7;clear S U Y;have Q:=ajq (j:=j) K.out;have O:=agy (a:=cK l k j) (l:=[]);have a4:(eh (cK l k j) []).length<=4000000:=by simp only[ls,sU] at O;omega
    clear O Q;by_cases a0:j<p.its.length
    .obtain⟨y,u⟩:=ar a0;obtain⟨b2,mE,rfl,_,_,aa,cn,cb⟩:=ae6 oC u;have d:=ahV K.out u;replace u:=ab u;replace d:=ab d;obtain⟨Ao,co,rfl⟩:=i.form;have V:=ab (λb P=>(i.at_ (g:=b) P).2);go_wp2;have aJ:=aj a1;have aL:=aj a8;have bm:=aj cn;refine aQ 16 [0,1,2,3,4,5,6,7,8,9,10,11,12,13,14] [15] (h:= ?_);simp only[pick,List.map,mT,nf];repeat(go_big_quiet_step (fail))
     refine gt ?_;clear aJ aL bm;apply Exists.intro;apply dB (λv w'=>∃g,v=.pointer (some ⟨g,0,none⟩)/\wr.heap.size<=g/\bW w' g 123 #[.int .i64 0,.int .i64 0])
     .rfl
     .exact λv x y ⟨g,e,hg,hk⟩ hle=>⟨g,e,hg,ak hk hle⟩
     .intro x X Qx D;replace D:=ab D;clear X;go_wp2;exact D.out _ _ (aA _ _) ⟨_,rfl,x.ok.size,bW.new _ _ _⟩
     intro u6;refine bY ?_;intro w2 J xx gI X;dsimp only[gU] at X;try rw[gI] at X
     clear gI xx;obtain⟨⟨g,rfl,hg,kb⟩, -⟩:=X;simp only[List.drop];have gw:=f.size;replace i:=i.below J;replace f:=ae f J;have I:=kb.cell;have a5:=kb.frozen;go_wp2;have n:=(kb.cf 0 (.int .i64 y.n)).cf 1 (.int .i64 p.no);simp only[de,fi,ga] at n;have m:Below w.heap.size w ((w2.setCell ⟨g,0,none⟩ (.int .i64 y.n)).setCell ⟨g,1,none⟩ (.int .i64 p.no)):=(f.setCell (by dsimp only;omega) _).setCell (by dsimp only;omega) _;have o:aH FSp 123 ((w2.setCell ⟨g,0,none⟩ (.int .i64 y.n)).setCell ⟨g,1,none⟩ (.int .i64 p.no)) w.heap.size (.slice Ao (eh (cK l k j) []).length co) (eh (cK l k j) []):=
      (i.art _ (λb P=>by have:=V.out b P;dsimp only;omega)).art _ (λb P=>by have:=V.out b P;dsimp only;omega)
     clear I a5;generalize (w2.setCell ⟨g,0,none⟩ (.int .i64 y.n)).setCell ⟨g,1,none⟩ (.int .i64 p.no)=w3 at *;have I:=n.cell;obtain⟨q,W⟩:=avg (spP ⟨y.n,p.no⟩);refine(alF ⟨y.n,p.no⟩ w3 q W).mono ?_;rintro e w4 ⟨rfl,b4⟩;replace n:=ak n b4;have I:=n.cell;replace o:=o.below b4;replace m:=ae m b4;cases q with
     |false=>
      have T:¬spP ⟨y.n,p.no⟩:=λh=>by have:=W.2 h;cases this
      have a2:r=[]:=by
       rcases HR.out with⟨h,_⟩|⟨_,h⟩
       .exact absurd (h _ (ajp (k:=k) (j:=j+1) _ (by rw[d.out];simp))) T
       .exact h
      subst a2;clear W T;have ba:=aA w4 (.cells #[] 123);go_wp2;go_ret;exact⟨_,rfl,aH.ahE (eJ.new _ _ (m.size)),ae m ba⟩
     |true=>
      have po:=W.1 rfl;replace po:=ab po;clear W;have C:=ab a4;have M:=agx (a:=cK l k j) (l:=[]) List.Pairwise.nil;have E:=ab M;clear M;have Z:∀z∈eh (cK l k j) [],FSp.good z:=λz hz=>by
       rcases agE hz with h|h
       .have:=HS.out z h;unfold spP at this;show cA z.n/\cA z.p;unfold cA;omega
       .cases h
      have F:=ab Z;clear Z;have fL:eh (cK l k (j+1)) []=fB ⟨y.n,p.no⟩ (eh (cK l k j) []):=by
       rw[d.out,ab0];rfl
      have lB:=ab fL;clear fL;have G:∀s∈cK l k (j+1),spP s:=λs t=>by
       rw[d.out] at t;rcases me.1 t with h|h
       .exact HS.out s h
       .rw[lc.1 h];exact po.out
      replace G:=ab G;revert o C E F lB;generalize eh (cK l k j) []=L;intro o C E F lB;go_wp2;refine(api ⟨y.n,p.no⟩ (by have:=po.out;unfold spP at this;unfold cA;omega) L _ w4 _ _ (am _) (o.sl F.out (am _)) E.out (by have:=C.out;omega)).mono ?_;rintro e w5 ⟨v5,rfl,o5,b5⟩;obtain⟨A5,c5,rfl⟩:=o5.form;go_wp2;go_roundw
      case rel=>exact⟨j+1,by omega,by go_num,by rw[lB.out];exact o5.base m.size,G.out,ae m b5⟩
      simp[intOf];omega
    .obtain rfl:j=p.its.length:=by omega
     have he:=ajo K.out;replace he:=ab he;have a6:Hid (∀s∈dc (l.take (k+1)),spP s):=ab (by rw[<-he.out];exact HS.out);obtain⟨Ao,co,rfl⟩:=i.form;go_wp2;go_roundw
     case rel=>exact⟨k+1,by omega,by go_num,by rw[<-he.out];exact i,a6.out,f⟩
     simp[intOf];omega
  .obtain rfl:k=l.length:=by omega
   have H:r=eh (dc l) []:=by
    have h1:=HS.out;rw[ge] at h1;rcases HR.out with⟨_,h⟩|⟨h,_⟩
    .exact h
    .exact absurd h1 h
   replace H:=ab H;clear HS;rw[ge,<-H.out] at i;obtain⟨Ao,co,rfl⟩:=i.form;go_wp2;go_ret;exact⟨_,rfl,i,B⟩
end
section
variable {β:Bool}
open Go.RowKit
def wW{l:List Y}{x:Y}(h:l[k]?=some x):l.drop k=x::l.drop (k+1):=by
 have a:=aB h;rw[sP a]
 congr 1
 rw[iS a] at h;exact ef h
def alV(xs:List Sp)(n:Int)(v:Value)(w:World)(t hi:Nat)(h:cG RSp 2 w t hi xs [v]) :
  Calls (ah β) 70 #[v,.int .i64 n] w λe p=>e=.returned (.int .i64 (ep n xs))/\w=p:=by
 obtain⟨A,c,rfl⟩:=h.form;obtain⟨_,z,r⟩:=h.len_;unfold maxLen at r;go_enter yP,ntmps70;go_wp2
 go_loop [5] (λi=>∃k:Nat,k<=xs.length/\i=.int .i64 k/\ep n xs=ep n (xs.drop k)) (λi=>xs.length-(intOf i).toNat)
 case atStart=>exact⟨0,fa _,rfl,by rw[qX]⟩
 case round=>
  obtain⟨k,y,rfl,a⟩:=hrel;replace a:=ab a;by_cases d:k<xs.length
  .obtain⟨x,l⟩:=ar d;obtain⟨u,o,rfl,_,_,s,f,q⟩:=awX h l;have hd:ep n (xs.drop k)=if x.n=n then x.p else ep n (xs.drop (k+1)):=by rw[wW l];rfl
   replace hd:=ab hd;by_cases b:x.n=n
   .have m:(x.n ==n)=true:=mp.2 b;have g:=ab (a.out.trans (hd.out.trans (dl b)));go_wp2;go_ret;exact⟨by rw[g.out];rfl,rfl⟩
   .have m:(x.n ==n)=false:=dq.2 b;have g:=ab (a.out.trans (hd.out.trans (be b)));go_wp2
    go_round
    case rel=>exact⟨k+1,by omega,by go_num,g.out⟩
    simp[intOf];omega
  .obtain rfl:k=xs.length:=by omega
   have j:ep n xs=0:=by rw[a.out,vE];rfl
   replace j:=ab j;go_wp2;go_ret;exact⟨by rw[j.out];rfl,rfl⟩
open Classical in
noncomputable def dw(key:Int)(ix:List Sp)(o:List ByteArray)(p:ByteArray):List ByteArray:=if ep (bA key (bs p)) ix=0/\p∉o then o++[p] else o
noncomputable def nO(key:Int)(ix:List Sp)(o l:List ByteArray):List ByteArray:=l.foldl (dw key ix) o
def pG(t:List Nd):List ByteArray:=t.flatMap λf=>gu f.b
noncomputable def aap(key:Int)(ix:List Sp)(t:List Nd):List ByteArray:=nO key ix [] (pG t)
def ajE{ix:List Sp}{o:List ByteArray}(h:ep (bA key (bs p)) ix=0)(a:p∉o):dw key ix o p=o++[p]:=dl ⟨h,a⟩
def afh{ix:List Sp}{o:List ByteArray}(h:¬(ep (bA key (bs p)) ix=0/\p∉o)):dw key ix o p=o:=be h
def apw{ix:List Sp}{o l:List ByteArray}(h:l[k]?=some p):nO key ix o (l.take (k+1))=dw key ix (nO key ix o (l.take k)) p:=by
 unfold nO;rw[mx h,sM];rfl
def apx{ix:List Sp}{t:List Nd}{f:Nd}(h:t[k]?=some f):aap key ix (t.take (k+1))=nO key ix (aap key ix (t.take k)) (gu f.b):=by
 unfold aap nO pG;rw[mx h,rM,sM];simp
def ab9{key:Int}{ix:List Sp}:∀(l o:List ByteArray),(nO key ix o l).length<=o.length+l.length
 |[],o=>am _
 |p::l,o=>by
  have a:=ab9 (key:=key) (ix:=ix) l (dw key ix o p);have b:(dw key ix o p).length<=o.length+1:=by
   unfold dw;split
   .rw[ap];exact am _
   .exact Nat.le_succ _
  show(nO key ix (dw key ix o p) l).length<=_;rw[ff];omega
def afi{key:Int}{ix:List Sp}{x:ByteArray}:∀{l o:List ByteArray},x∈nO key ix o l->x∈o\/x∈l
 |[],o,h=>.inl h
 |p::l,o,h=>by
  rcases afi (l:=l) (o:=dw key ix o p) h with h|h
  .unfold dw at h;split at h
   .rcases me.1 h with h|h
    .exact .inl h
    .rw[lc.1 h];exact .inr (by simp)
   .exact .inl h
  .exact .inr (qS _ h)
def acT:∀{t:List Nd},(∀x∈t,dE x.b=true)->(pG t).length<=40*t.length
 |[],_=>fa _
 |f::t,h=>by
  have c:=acT (t:=t) λx b=>h x (qS _ b);have d:=ab6 f.b;have a:=h f (by simp);unfold dE at a;simp only[fd,qH] at a;show(gu f.b++pG t).length<=_;rw[ap,ff];omega
def jf{s:ByteArray}(h:dE s=true):s.size<=40/\(bs s).all oJ=true:=by
 unfold dE at h;simpa using h
def ajF{t:List Nd}(h:∀x∈t,dE x.b=true):∀x∈pG t,aU (bs x):=λx a=>by
 obtain⟨f,b,a⟩:=qg.1 a;exact kU (jf (h f b)).2 x a
def kW{ix:List Sp}{t:List Nd}(h:∀x∈t,dE x.b=true):∀x∈aap key ix t,aU (bs x):=λx b=>by
 rcases afi b with a|a
 .cases a
 .exact ajF h x a
def kX{x:ByteArray}(h:aU (bs x)):gZ.good x:=by
 have:=h.1.2;rw[aM] at this;show x.size<=maxLen;unfold maxLen;omega
def avi(w:World)(xs:List ByteArray)(e:Ending)(w':World):Prop:=∃v,e=.returned v/\aH gZ 9 w' w.heap.size v xs/\Below w.heap.size w w'
def alW(key:Int)(hk:1<=key/\key<=99)(t:List Nd)(S:∀x∈t,dE x.b=true)(hl:t.length<=1000)(ix:List Sp)(vt vi:Value)(w:World)(lo hi:Nat)(bu:hi<=w.heap.size)(h1:fC w lo hi t [vt])(h2:cG RSp 2 w lo hi ix [vi]) :
  Calls (ah β) 47 #[.int .i64 key,vt,vi] w (avi w (aap key ix t)):=by
 replace S:=ab S;obtain⟨A,c,rfl⟩:=h1.form;obtain⟨A2,c2,rfl⟩:=h2.form;obtain⟨_,hc,n⟩:=h1.len_;unfold maxLen at n;go_enter zg,ntmps47;go_wp2;have W:=aA w (.cells #[] 9);have R:aH gZ 9 (w.alloc (.cells #[] 9)) w.heap.size (.slice (some ⟨w.heap.size,0,none⟩) 0 0) []:=(eJ.new w 9 (am _)).own 1;generalize w.alloc (.cells #[] 9)=w0 at *;go_loopw [7,8] (λoo ii wr=>∃k:Nat,k<=t.length/\ii=.int .i64 k/\aH gZ 9 wr w.heap.size oo (aap key ix (t.take k))/\Below w.heap.size w wr) (λ_ ii _=>t.length-(intOf ii).toNat)
 case atStart=>exact⟨0,fa _,rfl,R,W⟩
 case round=>
  clear R W;obtain⟨k,aX,rfl,a,l⟩:=hrel;obtain⟨K,af⟩:∃K,K=wr:=⟨_,rfl⟩;subst af;by_cases a7:k<t.length
  .obtain⟨f,B⟩:=ar a7;have G:=jf (S.out f (da B));obtain⟨b1,aL,rfl,_,_,aJ,lW,al⟩:=kV (fC.av.below h1 l bu) B;have s:=apx (key:=key) (ix:=ix) B;have aa:(aap key ix (t.take k)).length<=40000:=by
    have a1:=ab9 (key:=key) (ix:=ix) (pG (t.take k)) [];have a2:=acT (t:=t.take k) λx n=>S.out x (pu n);rw[fb] at a2;show(nO key ix [] (pG (t.take k))).length<=_;simp only[ls,jt] at a1;omega
   have a4:=kW (key:=key) (ix:=ix) (t:=t.take k) λx n=>S.out x (pu n);have E:=kU G.2;have jm:=ab6 f.b;have b0:=G.1;have HS:=ab s;have HP:=ab a4;have T:=ab E;have HC:=ab (agC (β:=β) f.b (by omega));clear B s a4 E G;revert HS;revert HP;generalize aap key ix (t.take k)=base at a aa;intro HP HS;obtain⟨A0,c0,rfl⟩:=a.form;go_wp2;refine(HC.out K).mono ?_;rintro e w1 ⟨v1,rfl,op,y⟩;clear HC;obtain⟨Ap,cp,rfl⟩:=op.form;have a3:=a.below y;have D:=ae l y;have Z:∀g,(Value.slice A0 base.length c0).ownBlock=some g->g<K.heap.size\/w1.heap.size<=g:=λg hg=>.inl (a.at_ hg).2;have C:=(op.deep (λx n=>kX (T.out x n)) K.heap.size).sl (am _);have zo:=l.size;have z1:=y.size;revert HS;revert T;revert jm;revert C;generalize gu f.b=ps;intro C jm T HS;have HO:=ab a3;replace D:=ab D;have N:=ab C;have d:=ab Z;clear a l a3 C op Z y al lW;go_wp2;go_loopw [7,10] (λoo jj wr=>∃j:Nat,j<=ps.length/\jj=.int .i64 j/\aH gZ 9 wr w.heap.size oo (nO key ix base (ps.take j))/\Below w.heap.size w wr/\dr wr K.heap.size w1.heap.size ps [.slice Ap ps.length cp]/\(∀g,oo.ownBlock=some g->g<K.heap.size\/w1.heap.size<=g)/\w1.heap.size<=wr.heap.size) (λ_ jj _=>ps.length-(intOf jj).toNat)
   case atStart=>exact⟨0,fa _,rfl,HO.out,D.out,N.out,d.out,am _⟩
   case round=>
    clear HO D N d;obtain⟨j,ay,rfl,a,l,hr,a0,hz⟩:=hrel;by_cases a6:j<ps.length
    .obtain⟨p,z⟩:=ar a6;have an:=T.out p (da z);obtain⟨b2,mE,rfl,aT,ax,aP,a9⟩:=kT hr z;have fL:=apw (key:=key) (ix:=ix) (o:=base) z;have M:=ab9 (key:=key) (ix:=ix) (ps.take j) base;rw[fb] at M;have P:∀x∈nO key ix base (ps.take j),gZ.good x:=λx n=>by
      rcases afi n with h|h
      .exact kX (HP.out x h)
      .exact kX (T.out x (pu h))
     have ao:=RSp.loc;have O:cG RSp 2 wr lo hi ix [.slice A2 ix.length c2]:=(cG.loc RSp.loc).below h2 l bu;have Y:=ab fL;have I:=ab P;have ad:=ab O;have d:=ab a0;have N:=ab hr;have U:=ab (nz (β:=β) key p hk an wr);clear ao fL P O a0 hr z;revert Y;revert I;generalize nO key ix base (ps.take j)=o at a M;intro I Y;obtain⟨Ao,co,rfl⟩:=a.form;have L:=(a.deep I.out w.heap.size).sl (am _);replace L:=ab L;have aK:o.length<=50000:=by omega
     clear M;go_wp2;refine U.out.mono ?_;rintro e w2 ⟨rfl,rfl⟩;clear U;have J:=ab (alV (β:=β) ix (bA key (bs p)) _ wr lo hi ad.out);obtain⟨r,u⟩:∃r,r=ep (bA key (bs p)) ix:=⟨_,rfl⟩;rw[<-u] at J;replace u:=ab u;go_wp2;refine J.out.mono ?_;rintro e w2 ⟨rfl,rfl⟩;clear J;by_cases m:r=0
     .have t1:(r ==0)=true:=mp.2 m;have a5:=ab (u.out.symm.trans m);clear m;obtain⟨q,hq⟩:=lM (p∈o);have V:=ab (apo (β:=β) o p _ wr _ _ L.out q hq);cases q with
      |true=>
       have X:Hid (dw key ix o p=o):=ab (afh λh=>h.2 (hq.1 rfl));clear hq;go_wp2;refine V.out.mono ?_;rintro e w2 ⟨rfl,rfl⟩;go_wp2;go_roundw
       case rel=>exact⟨j+1,by omega,by go_num,by rw[Y.out,X.out];exact a,l,N.out,d.out,hz⟩
       simp[intOf];omega
      |false=>
       have X:Hid (dw key ix o p=o++[p]):=ab (ajE a5.out λh=>by have:=hq.2 h;cases this);clear hq;go_wp2;refine V.out.mono ?_;rintro e w2 ⟨rfl,rfl⟩;have Q:∀hs:(Value.slice Ao o.length co).ownBlock=some b2,False:=λhs=>by
        have:=d.out _ hs;omega
       replace Q:=ab Q;go_wp2_with(at_builtin;refine bN (F:=gZ) (v:=.slice Ao o.length co) rfl (.tmp 48) (.tmp 53) 74 rfl ab5 p rfl a rfl rfl (by omega) l.size ?_;intro va wa oa H a8;obtain⟨Aa,ca,rfl⟩:=oa.form;simp only[ap,ff,ls,jt] at oa);go_roundw
       case rel=>
        refine⟨j+1,by omega,by go_num,by rw[Y.out,X.out];simpa using oa,l.trans (H.below l.size λi hi n=>by have:=(a.at_ n).1;omega),dr.av.fc N.out H λb b1 b2 _ hs=>by have:=d.out _ hs;omega,λg hg=> ?_,bd hz H.size⟩;rcases a8 g (by simpa using hg) with h|h
        .exact d.out g h
        .exact .inr (by omega)
       case measure=>simp[intOf];omega
     .have t1:(r ==0)=false:=dq.2 m;have X:Hid (dw key ix o p=o):=ab (afh λh=>m (u.out.trans h.1));clear m;go_wp2;go_roundw
      case rel=>exact⟨j+1,by omega,by go_num,by rw[Y.out,X.out];exact a,l,N.out,d.out,hz⟩
      simp[intOf];omega
    .obtain rfl:j=ps.length:=by omega
     rw[ge] at a;rw[<-HS.out] at a;have HO:=ab a;clear a;go_wp2;go_roundw
     case rel=>exact⟨k+1,by omega,by go_num,HO.out,l⟩
     simp[intOf];omega
  .obtain rfl:k=t.length:=by omega
   rw[ge] at a;obtain⟨A0,c0,rfl⟩:=a.form;go_wp2;go_ret;exact⟨_,rfl,a,l⟩
end
section
variable {β:Bool}
open Go.RowKit
def marks(k:Int):Nat->List Int
 |0=>[]
 |n+1=>marks k n++[k+n]
end
section
variable {β:Bool}
open Go.RowKit
structure lL (w:World) (lo hi:Nat) (s:dS) (va vb vc:Value):Prop where
 pk:kJ w lo hi s.pk [va]
 sn:jW w lo hi s.sn [vb]
 lg:lN w lo hi s.lg [vc]
def lL.below{w : World}{B : Nat}(h:lL w Z hi s W V U)(b:Below B w w')(a:hi<=B):lL w' Z hi s W V U:=⟨kJ.loc.below h.pk b a,jW.loc.below h.sn b a,lN.loc.below h.lg b a⟩
structure fh (w:World) (lo hi:Nat) (s:dS) (va vb vc:Value):Prop where
 pk:dG w lo hi s.pk [va]
 sn:dH w lo hi s.sn [vb]
 lg:dD w lo hi s.lg [vc]
def fh.go{w : World}{jR hi' : Nat}(h:fh w Z hi s W V U)(d:∀b,Z<=b->b<hi->w'.heap[b]?=w.heap[b]?)(c:jR<=Z)(a:hi<=hi'):fh w' jR hi' s W V U:=
 ⟨dG.av.loc.go d c a h.pk,dH.av.loc.go d c a h.sn,dD.av.loc.go d c a h.lg⟩
def fh.below{w : World}{B : Nat}(h:fh w Z hi s W V U)(a:Below B w w')(d:hi<=B):fh w' Z hi s W V U:=h.go (λb _ c=>a.block b (by omega)) (am _) (am _)
def fh.l{w:World}(h:fh w Z hi s W V U):lL w Z hi s W V U:=⟨dG.l h.pk,dH.l h.sn,dD.l h.lg⟩
def lz(s:dS):Nat:=dU bPk s.pk+dU bSn s.sn+s.lg.length
def ayw(w:World)(s:dS)(e:Ending)(w':World):Prop:=∃c a b,e=.returned (.agg #[c,a,b])/\fh w' w.heap.size w'.heap.size s c a b/\Below w.heap.size w w'
end
section
variable {β:Bool}
open Go.RowKit
section
variable {P:Program} {α:Type} {E:fV α} {T:List TypeId} {sz:Nat} {e:TypeId}
def kY (H:dO E T) (G:e∉T) {w:World} {q:Array Oper} {rest:List Oper} {o:Oper} {a:Act} {Q:Exit->Act->World->Prop} (r:o.guard=none) (s x:Operand) (t:TypeId)
  (U:o.op=.call ⟨.builtin .append,#[s,x],#[t,t]⟩)
  (B:gD P t e sz Z)  {xs:List α} (y:α) (Y:a.eval s=v) (n:aZ e E sz w X c xs [v]) {es:Array Value} {M:TypeId} (hx:a.eval x=.slice (some ⟨g,0,none⟩) 1 1) (N:bW w g M es) (p:es.toList.length=sz) (J:∀u∈es.toList,u.oneCell'=true) (a0:c<=hi) (V:E w c hi y es.toList) (bu:hi<=w.heap.size)
  (hn:xs.length<=1099511627775) (i:X<=w.heap.size)
  (h:∀k d,aZ e E sz d X d.heap.size (xs++[y]) [k]->bM (λb=>v.ownBlock=some b) w d->(∀b,k.ownBlock=some b->v.ownBlock=some b\/w.heap.size<=b)->wpList P q Q rest (a.put o.dst k) d) :
  wpList P q Q (o::rest) a w:=by
 obtain⟨v0,cells,e1,f,hg,A⟩:=n;cases e1;refine abJ r s x t U B Y f hx (news:=es.toList) (by rw[p,Nat.one_mul]) (λ_=>⟨_,rfl,λj u W=>by
  have F:(⟨g,0,none⟩:Addr).add j=⟨g,j,none⟩:=by unfold Addr.add;split<;>simp_all
  rw[F,N.cell,<-du];exact W⟩) J (by omega) i λk d l=>h k d ?_ l.fc l.at_
 have D:∀b,v.ownBlock=some b->∃K,bW w b e K:=λb m=>by
  rcases f.2 with⟨rfl,_⟩|⟨g',cap,S,rfl,_,C,_⟩
  .cases m
  .cases m;exact⟨_,C⟩
 have L:∀b,Typed w T b->d.heap[b]?=w.heap[b]?:=λb ⟨t',ht',K,hd⟩=>l.fc.block b hd.lt λm=>by
  obtain⟨O,I⟩:=D b m;exact G (dC I hd▸ht')
 have R:=l.fc.size;refine⟨k,cells++es.toList,rfl,by rw[ap];exact l.own,λb m=>(l.own.lt b m).2, ?_⟩;have hS:=Els.snoc (E:=E) (A.go (jR:=X) (hi':=c) H (λb _ _ z=>L b z) (am _) (am _)) (y:=y) (es:=es.toList) p J (hi:=d.heap.size) (by omega) (H.go (λb _ _ z=>L b z) (am _) (by omega) V);exact hS H.loc
end
def anV:gD (ah β) 25 72 2 16:=gD.mk' yB (z:=.agg #[.int .i64 0,.int .i64 0]) (by kernel_rfl) rfl (by decide) (by decide)
def anW:gD (ah β) 81 101 2 40:=gD.mk' yx (z:=.agg #[.string ⟨#[]⟩,.slice none 0 0]) (by kernel_rfl) rfl (by decide) (by decide)
def ah2:gD (ah β) 24 83 2 32:=gD.mk' yC (z:=.agg #[.int .i64 0,.slice none 0 0]) (by kernel_rfl) rfl (by decide) (by decide)
end
section
variable {β:Bool}
open Go.RowKit
def jq{p:Prop}(h:p/\True):p:=h.1
def aZ.ob{w:World}{xs:List Y}(h:aZ e E Z w X hi xs [v])(a:v.ownBlock=some b):X<=b/\b<hi/\b<w.heap.size:=by
 obtain⟨f,cells,c,h,d,_⟩:=h;cases c;exact⟨(h.lt b a).1,d b a,(h.lt b a).2⟩
end
section
variable {β:Bool}
open Go.RowKit
section
variable {α:Type} {E:fV α} {T:List TypeId} {e:TypeId}
def adh{xs:List α}{p:α->Bool}{x:α}(b:xs[j]?=some x)(a:p x=false):(xs.take (j+1)).filter (λx=>!p x)=(xs.take j).filter (λx=>!p x)++[x]:=by
 rw[mx b,tV]
 congr 1
 simp[a]
def adi{xs:List α}{p:α->Bool}{x:α}(b:xs[j]?=some x)(a:p x=true):(xs.take (j+1)).filter (λx=>!p x)=(xs.take j).filter (λx=>!p x):=by
 rw[mx b,tV];have:[x].filter (λx=>!p x)=[]:=by simp[a]
 rw[this,sG]
end
end
section
variable {β:Bool}
open Go.RowKit
structure lG where
 k:Int
 n:Int
 m:Int
 b:ByteArray
def sj{α:Type}(l:List α)(i:Nat)(f:α->α):List α:=match l[i]? with|some x=>l.set i (f x)|none=>l
def afj{l:List Y}{x:Y}(h:l[i]?=some x)(f:Y->Y):sj l i f=l.set i (f x):=by unfold sj;rw[h]
def mL(l:List Y)(i:Nat)(f:Y->Y):(sj l i f).length=l.length:=by
 unfold sj;split
 .rw[qL]
 .rfl
def jE(l:lG)(p:Pk):Pk:=if p.no=l.n/\0<=l.m/\l.m<p.its.length then⟨p.no,sj p.its l.m.toNat λx=>⟨x.n,l.b⟩⟩ else p
def mM(x:Hd):Hd:=⟨wrap64 (3-x.b),x.s⟩
def dA(s:dS)(l:lG):dS:=
 if l.k=1 then⟨s.pk.filter λp=>!(p.no ==l.n),s.sn,s.lg⟩
 else if l.k=2 then(if 0<=l.n/\l.n<=s.lg.length then⟨s.pk,s.sn.filter λx=>!((s.lg.drop l.n.toNat).any λh=>h.s ==x.no),s.lg.take l.n.toNat⟩ else s)
 else if l.k=3 then⟨s.pk.map (jE l),s.sn,s.lg⟩
 else if l.k=4 then(if 0<=l.n/\l.n<s.lg.length then⟨s.pk,s.sn,sj s.lg l.n.toNat mM⟩ else s)
 else s
def pH{l:lG}(h:l.k=1):dA s l=⟨s.pk.filter λp=>!(p.no ==l.n),s.sn,s.lg⟩:=by unfold dA;rw[dl h]
def nP{l:lG}(h:l.k=2)(a:0<=l.n/\l.n<=s.lg.length):dA s l=⟨s.pk,s.sn.filter λx=>!((s.lg.drop l.n.toNat).any λh=>h.s ==x.no),s.lg.take l.n.toNat⟩:=by unfold dA;rw[be (by omega),dl h,dl a]
def nQ{l:lG}(h:l.k=2)(a:¬(0<=l.n/\l.n<=s.lg.length)):dA s l=s:=by unfold dA;rw[be (by omega),dl h,be a]
def abb{l:lG}(h:l.k=3):dA s l=⟨s.pk.map (jE l),s.sn,s.lg⟩:=by unfold dA;rw[be (by omega),be (by omega),dl h]
def abc{l:lG}(h:l.k=4)(a:0<=l.n/\l.n<s.lg.length):dA s l=⟨s.pk,s.sn,sj s.lg l.n.toNat mM⟩:=by unfold dA;rw[be (by omega),be (by omega),be (by omega),dl h,dl a]
def nR{l:lG}(h:l.k=4)(a:¬(0<=l.n/\l.n<s.lg.length)):dA s l=s:=by unfold dA;rw[be (by omega),be (by omega),be (by omega),dl h,be a]
def abd{l:lG}(a:¬l.k=1)(d:¬l.k=2)(b:¬l.k=3)(c:¬l.k=4):dA s l=s:=by unfold dA;rw[be a,be d,be b,be c]
def OHw:fV (List Hd):=λw e d b f=>∃(A:Option Addr) (c:Nat),f=[.slice A b.length c]/\b.length<=c/\c<=maxLen/\e<=d/\(∀x∈b,FHd.good x)/\
 (0<b.length->∃(g:Nat) (a:Array Value),A=some ⟨g,0,none⟩/\e<=g/\g<d/\bW w g 72 a/\∀(k:Nat) (u:Value),(dm FHd b)[k]?=some u->a[k]?=some u)
def OHw.av:dO OHw [72]:=by
 refine⟨?_⟩;intro w p y t r n s v l x q h;obtain⟨A,c,rfl,a,b,u,d,e⟩:=h;refine⟨A,c,rfl,a,b,by omega,d,λj=> ?_⟩;obtain⟨g,f,rfl,k,m,i,o⟩:=e j;exact⟨g,f,rfl,by omega,by omega,(l g k m ⟨_,qR,f,i⟩).trans i,o⟩
def dD.w{w:World}(h:dD w Z hi xs cs):OHw w Z hi xs cs:=by
 obtain⟨v,rfl⟩:∃v,cs=[v]:=by
  obtain⟨v,_,rfl,_⟩:=h;exact⟨v,rfl⟩
 obtain⟨i,f,a,n⟩:=aZ.flat (F:=FHd) h;rcases i.2 with⟨rfl,j⟩|⟨g,cap,c,rfl,l,o,e,d,m,p⟩
 .exact⟨none,0,by rw[j],by omega,by unfold maxLen;omega,a,f,λq=>by omega⟩
 .refine⟨_,cap,rfl,e,d,a,f,λ_=>⟨g,c,rfl,l,n g rfl,o,λk u b=> ?_⟩⟩;rw[<-p,rB] at b;split at b
  .simpa using b
  .cases b
def OHw.l{w:World}(h:OHw w Z hi xs cs):lN w Z hi xs cs:=by
 obtain⟨A,c,rfl,a,b,q,d,e⟩:=h;refine⟨A,c,rfl,a,b,λk=> ?_⟩;obtain⟨g,f,rfl,l,n,o,p⟩:=e k;refine⟨g,0,rfl,l,n,λi x hi=>⟨FHd.cells x,rfl,⟨rfl,d x (da hi)⟩,λj u m=> ?_⟩⟩;rw[o.cell,jt];exact p _ _ (dX FHd xs i j x u hi m)
def OHw.some_{w:World}(h:OHw w Z hi xs [v])(j:0<xs.length):∃g c,v=.slice (some ⟨g,0,none⟩) xs.length c/\Z<=g/\g<hi/\∃n,bW w g 72 n:=by
 obtain⟨A,c,e,a,b,o,d,f⟩:=h;cases e;obtain⟨g,i,rfl,k,l,m,_⟩:=f j;exact⟨g,c,rfl,k,l,i,m⟩
def OHw.at_{w:World}(h:OHw w Z hi xs [.slice (some ⟨g,0,none⟩) n c]){x:Hd}(j:xs[i]?=some x) :
  FHd.good x/\w.cell? ⟨g,i*2,none⟩=some (.int .i64 x.b)/\w.cell? ⟨g,i*2+1,none⟩=some (.int .i64 x.s):=by
 obtain⟨A,q,e,a,b,t,d,f⟩:=h;simp only[qi,pv,qm] at e;obtain⟨rfl,rfl,rfl⟩:=e;obtain⟨r,o,m,p,s,k,l⟩:=f (by have:=aB j;omega);simp only[jp,qk,qm] at m;subst m;refine⟨d x (da j), ?_, ?_⟩
 .rw[k.cell];exact l _ _ (dX FHd xs i 0 x _ j rfl)
 .rw[k.cell];exact l _ _ (dX FHd xs i 1 x _ j rfl)
def OHw.put{w:World}(h:OHw w Z hi xs [.slice (some ⟨g,0,none⟩) n c]){x y:Hd}{u:Value}(s:xs[i]?=some x)(K:j<2)(C:FHd.good y)(I:FHd.cells y=(FHd.cells x).set j u) :
  OHw (w.setCell ⟨g,i*2+j,none⟩ u) Z hi (xs.set i y) [.slice (some ⟨g,0,none⟩) n c]:=by
 obtain⟨A,M,e,a,b,L,d,f⟩:=h;simp only[qi,pv,qm] at e;obtain⟨rfl,rfl,rfl⟩:=e;have t:=aB s;obtain⟨N,m,r,H,D,E,q⟩:=f (by omega);simp only[jp,qk,qm] at r;subst r;refine⟨_,c,by rw[qL],by rw[qL];exact a,b,L,λz G=> ?_,λ_=>⟨g,m.setIfInBounds (i*2+j) u,rfl,H,D,E.cf _ _,λk v o=> ?_⟩⟩
 .rcases sO G with F|rfl
  .exact d z F
  .exact C
 .rw[acJ xs i j x y u s K I] at o;by_cases l:i*2+j=k
  .subst l;have p:i*2+j<(dm FHd xs).length:=by rw[dJ];show _<xs.length*2;omega
   rw[show FHd.sz=2 from rfl,rj p] at o;have B:=q _ _ (iS p);have J:i*2+j<m.size:=(dk.1 B).1;rw[pm,dl rfl,dl J];exact o
  .rw[show FHd.sz=2 from rfl,rG l] at o;rw[pm,be l];exact q k v o
end
section
variable {β:Bool}
open Go.RowKit
abbrev ajG(l:lG):Array Value:=#[.int .i64 l.k,.int .i64 l.n,.int .i64 l.m,.string l.b]
def kZ{w:World}{t:TypeId}{cs:Array Value}(a:bW w g t cs)(c:t∉T):¬Typed w T g:=λ⟨d,b,e,hd⟩=>c (dC a hd▸b)
def agF{w:World}{U : List TypeId}(h:Typed w U b)(d:∀t∈T,t∉U):¬Typed w T b:=λ⟨e,f,i,hd⟩=>by
 obtain⟨t,c,g,a⟩:=h;exact d e f (dC a hd▸c)
end
section
variable {β:Bool}
open Go.RowKit
def mN{α:Type}(f:α->α)(l:List α)(j:Nat):List α:=(l.take j).map f++l.drop j
def alX(f:Y->Y)(l:List Y):mN f l 0=l:=rfl
def apy(f:Y->Y)(l:List Y):mN f l l.length=l.map f:=by
 unfold mN;rw[ge,vE,sG]
def apz(f:Y->Y)(l:List Y)(j:Nat):(mN f l j).length=l.length:=by
 unfold mN;rw[ap,pe,fb,qc];omega
def agG(f:Y->Y){l:List Y}{x:Y}(h:l[j]?=some x):(mN f l j)[j]?=some x:=by
 unfold mN;have b:=aB h;have a:((l.take j).map f).length=j:=by rw[pe,fb];omega
 rw[qo (by omega),a,tv,tc,sU];exact h
def afk(f:Y->Y){l:List Y}{x:Y}(h:l[j]?=some x):(mN f l j).set j (f x)=mN f l (j+1):=by
 have a:=aB h;have b:((l.take j).map f).length=j:=by rw[pe,fb];omega
 unfold mN;rw[uI _ _ (by omega),b,tv,sP a,fi,mx h,qK,tn];rfl
def afl(f:Y->Y){l:List Y}{x:Y}(h:l[j]?=some x)(c:f x=x):mN f l (j+1)=mN f l j:=by
 rw[<-afk f h,c];have b:=agG f h;apply un;intro k;by_cases a:j=k
 .subst a;rw[rj (aB b),b]
 .rw[rG a]
def ajH{l:lG}{p:Pk}(h:¬(p.no=l.n/\0<=l.m/\l.m<p.its.length)):jE l p=p:=be h
end
section
variable {β:Bool}
open Go.RowKit
def cG.ar4{w:World}{xs:List Y}(h:cG E Z w X hi xs [.slice A n c])(z:k<=xs.length):cG E Z w X hi (xs.drop k) [.slice (if c=k then A else A.map λx=>x.add (k*Z)) (xs.length-k) (c-k)]:=by
 obtain⟨A',y,g,B,C,t⟩:=h;simp only[qi,pv,qm] at g;obtain⟨rfl,rfl,rfl⟩:=g;refine⟨_,c-k,by rw[qc],by rw[qc];omega,by omega,λq=> ?_⟩;rw[qc] at q;have a:¬c=k:=by omega
 have f:0<xs.length:=by omega
 obtain⟨b,e,rfl,o,l,d⟩:=t f;refine⟨b,e+k*Z,by rw[be a];simp only[qh,ae2],o,l,λi x hi=> ?_⟩;rw[tc] at hi;obtain⟨r,s,m,p⟩:=d _ _ hi;refine⟨r,s,m,λj u v=> ?_⟩;have:=p j u v;rw[<-this,Nat.add_mul]
 congr 2
 omega
end
section
variable {β:Bool}
open Go.RowKit
def aZ.obT{w:World}{xs:List Y}(h:aZ e E Z w X hi xs [v])(a:v.ownBlock=some b):∃g,bW w b e g:=by
 obtain⟨i,cells,f,h,_⟩:=h;cases f;rcases h.2 with⟨rfl,_⟩|⟨j,cap,c,rfl,_,d,_⟩
 .cases a
 .cases a;exact⟨_,d⟩
def eJ.acP{w:World}(h:eJ X e v w)(f:w.heap.size<=hi):aZ e E Z w X hi [] [v]:=by
 obtain⟨g,rfl,d,c⟩:=h;have:=c.lt;exact⟨_,[],rfl,eJ.own ⟨g,rfl,d,c⟩ Z,λb a=>by cases a;dsimp only;omega,Els.nil (by omega)⟩
def dx{w : World}{xs:List Y}(h:aZ e E Z w X hi xs [v])(f:bM (λb=>v.ownBlock=some b) w w'){t:TypeId}{cs:Array Value}(a:bW w g t cs)(c:t≠e):bW w' g t cs:=
 bq a f λd=>by
  obtain⟨i,hd⟩:=h.obT d;exact c (dC a hd)
def jg{β : Type}{D:fV β}{w : World}{xs:List Y}{y:β}(h:aZ e E Z w X hi xs [v])(m:bM (λb=>v.ownBlock=some b) w w')(k:dO D T)(d:D w Q c y cs)(f:e∉T):D w' Q c y cs:=
 k.fc d m λb _ _ g i=>by
  obtain⟨n,hd⟩:=h.obT i;obtain⟨t,l,j,a⟩:=g;exact f (dC a hd▸l)
def cL{β:Type}{D:fV β}{w:World}{t:TypeId}{a:Array Value}{y:β}(f:dO D T)(c:D w Z hi y cs)(j:bW w g t a)(d:t∉T)(i:Nat)(u:Value):D (w.setCell ⟨g,i,none⟩ u) Z hi y cs:=
 f.go (λb _ _ e=>qb _ _ _ _ (by rintro rfl;exact kZ j d e)) (am _) (am _) c
def ah3{β:Type}{D:fV β}{w:World}{u:Value}{y:β}(c:dO D T)(a:D w Z hi y cs)(e:hi<=g):D (w.setCell ⟨g,i,none⟩ u) Z hi y cs:=
 c.go (λb _ d _=>qb _ _ _ _ (by dsimp only;omega)) (am _) (am _) a
structure afS (w wr:World) (L:Nat) (A B C:Option Addr) (a b c:Nat) (s:dS) (gm:Nat) (vp vs vl:Value) (pk:List Pk) (sn:List Sn) (H:Nat):Prop where
 k0:bW wr w.heap.size 27 #[.slice A s.pk.length a,.slice B s.sn.length b,.slice C s.lg.length c]
 k1:bW wr (w.heap.size+1) 27 #[.slice none 0 0,.slice none 0 0,.slice none 0 0]
 m:bW wr gm 27 #[vp,vs,vl]
 op:dG wr L H pk [vp]
 os:dH wr L H sn [vs]
 ol:dD wr L H s.lg [vl]
 bl:Below w.heap.size w wr
 gm1:w.heap.size+1<gm
 gm2:gm<wr.heap.size
 hL:w.heap.size<=L
 hH:H<=wr.heap.size
 gmr:gm<H
def afS.below{w wr : World}{B C : Option Addr}{a : Nat}(h:afS w wr Z A B C a b c s X W V U S R Q)(d:Below wr.heap.size wr w'):afS w w' Z A B C a b c s X W V U S R Q:=
 ⟨ak h.k0 d,ak h.k1 d,ak h.m d,dG.av.below h.op d h.hH,dH.av.below h.os d h.hH,dD.av.below h.ol d h.hH,ae h.bl d,h.gm1,aE h.gm2 d.size,h.hL,bd h.hH d.size,h.gmr⟩
def eT(s:dS)(va vb vc:Value)(w:World)(lo hi:Nat)(h:lL w lo hi s va vb vc)(bu:hi<=w.heap.size)(hl:lz s<=1099511627) :
  Calls (ah β) 29 #[.agg #[va,vb,vc]] w (ayw w s):=by
 obtain⟨h1,h2,h3⟩:=h;obtain⟨A,a,rfl⟩:=cG.form h1;obtain⟨B,b,rfl⟩:=cG.form h2;obtain⟨C,c,rfl⟩:=cG.form h3;obtain⟨_,d5,d3⟩:=h1.len_;obtain⟨_,e8,ce⟩:=h2.len_;obtain⟨_,b8,cC⟩:=h3.len_;unfold maxLen at d3 ce cC;unfold lz at hl;have d8:=fp (f:=bPk) (l:=s.pk);have e4:=fp (f:=bSn) (l:=s.sn);have ca:=cG.good (F:=FHd) h3;go_enter zA,ntmps29;go_wp2_with(at_builtin;refine jq ?_);refine⟨?_,trivial⟩;have aK:Below w.heap.size w (((((w.alloc (.cells #[.slice A s.pk.length a,.slice B s.sn.length b,.slice C s.lg.length c] 27)).alloc (.cells #[.slice none 0 0,.slice none 0 0,.slice none 0 0] 27)).alloc (.cells #[] 36)).alloc (.cells #[] 83)).alloc (.cells #[] 72)):=cQ (cQ (cQ (cQ (aA _ _) _) _) _) _;have k0:bW (((((w.alloc (.cells #[.slice A s.pk.length a,.slice B s.sn.length b,.slice C s.lg.length c] 27)).alloc (.cells #[.slice none 0 0,.slice none 0 0,.slice none 0 0] 27)).alloc (.cells #[] 36)).alloc (.cells #[] 83)).alloc (.cells #[] 72)) (w.heap.size) 27 #[.slice A s.pk.length a,.slice B s.sn.length b,.slice C s.lg.length c]:=by
  have J:=bc (bc (bc (bc (bW.new w 27 #[.slice A s.pk.length a,.slice B s.sn.length b,.slice C s.lg.length c]) (.cells #[.slice none 0 0,.slice none 0 0,.slice none 0 0] 27)) (.cells #[] 36)) (.cells #[] 83)) (.cells #[] 72);exact J
 have k1:bW (((((w.alloc (.cells #[.slice A s.pk.length a,.slice B s.sn.length b,.slice C s.lg.length c] 27)).alloc (.cells #[.slice none 0 0,.slice none 0 0,.slice none 0 0] 27)).alloc (.cells #[] 36)).alloc (.cells #[] 83)).alloc (.cells #[] 72)) (w.heap.size+1) 27 #[.slice none 0 0,.slice none 0 0,.slice none 0 0]:=by
  have J:=bc (bc (bc (bW.new (w.alloc (.cells #[.slice A s.pk.length a,.slice B s.sn.length b,.slice C s.lg.length c] 27)) 27 #[.slice none 0 0,.slice none 0 0,.slice none 0 0]) (.cells #[] 36)) (.cells #[] 83)) (.cells #[] 72);simp only[mu] at J;exact J
 have k2:bW (((((w.alloc (.cells #[.slice A s.pk.length a,.slice B s.sn.length b,.slice C s.lg.length c] 27)).alloc (.cells #[.slice none 0 0,.slice none 0 0,.slice none 0 0] 27)).alloc (.cells #[] 36)).alloc (.cells #[] 83)).alloc (.cells #[] 72)) (w.heap.size+1+1) 36 #[]:=by
  have J:=bc (bc (bW.new ((w.alloc (.cells #[.slice A s.pk.length a,.slice B s.sn.length b,.slice C s.lg.length c] 27)).alloc (.cells #[.slice none 0 0,.slice none 0 0,.slice none 0 0] 27)) 36 #[]) (.cells #[] 83)) (.cells #[] 72);simp only[mu] at J;exact J
 have k3:bW (((((w.alloc (.cells #[.slice A s.pk.length a,.slice B s.sn.length b,.slice C s.lg.length c] 27)).alloc (.cells #[.slice none 0 0,.slice none 0 0,.slice none 0 0] 27)).alloc (.cells #[] 36)).alloc (.cells #[] 83)).alloc (.cells #[] 72)) (w.heap.size+1+1+1) 83 #[]:=by
  have J:=bc (bW.new (((w.alloc (.cells #[.slice A s.pk.length a,.slice B s.sn.length b,.slice C s.lg.length c] 27)).alloc (.cells #[.slice none 0 0,.slice none 0 0,.slice none 0 0] 27)).alloc (.cells #[] 36)) 83 #[]) (.cells #[] 72);simp only[mu] at J;exact J
 have k4:bW (((((w.alloc (.cells #[.slice A s.pk.length a,.slice B s.sn.length b,.slice C s.lg.length c] 27)).alloc (.cells #[.slice none 0 0,.slice none 0 0,.slice none 0 0] 27)).alloc (.cells #[] 36)).alloc (.cells #[] 83)).alloc (.cells #[] 72)) (w.heap.size+1+1+1+1) 72 #[]:=by
  have J:=bW.new ((((w.alloc (.cells #[.slice A s.pk.length a,.slice B s.sn.length b,.slice C s.lg.length c] 27)).alloc (.cells #[.slice none 0 0,.slice none 0 0,.slice none 0 0] 27)).alloc (.cells #[] 36)).alloc (.cells #[] 83)) 72 #[];simp only[mu] at J;exact J
 have iv:w.heap.size+5<=(((((w.alloc (.cells #[.slice A s.pk.length a,.slice B s.sn.length b,.slice C s.lg.length c] 27)).alloc (.cells #[.slice none 0 0,.slice none 0 0,.slice none 0 0] 27)).alloc (.cells #[] 36)).alloc (.cells #[] 83)).alloc (.cells #[] 72)).heap.size:=by simp only[mu];omega
 generalize (((((w.alloc (.cells #[.slice A s.pk.length a,.slice B s.sn.length b,.slice C s.lg.length c] 27)).alloc (.cells #[.slice none 0 0,.slice none 0 0,.slice none 0 0] 27)).alloc (.cells #[] 36)).alloc (.cells #[] 83)).alloc (.cells #[] 72))=w0 at *;have dP:=k0.cell;have fu:=k0.frozen;have iA:=k1.cell;have jT:=k1.frozen;have mY:=k2.cell;have b5:=k2.frozen;have ao:=k3.cell;have b0:=k3.frozen;have cd:=k4.cell;have d4:=k4.frozen;have N:=pq (F:=FHd) h3 bu;have bL:eJ w.heap.size 72 (.slice (some ⟨w.heap.size+1+1+1+1,0,none⟩) 0 0) w0:=⟨_,rfl,by omega,k4⟩;refine aeN (F:=FHd) (xs:=s.lg) aK rfl (.tmp 11) (.tmp 13) 25 rfl anV (am _) rfl rfl bL N (by omega) ?_;intro vl x1 Q t;replace k0:=ak k0 Q;replace dP:=k0.cell;replace fu:=k0.frozen;replace k1:=ak k1 Q;replace iA:=k1.cell;replace jT:=k1.frozen;replace k2:=ak k2 Q;replace mY:=k2.cell;replace b5:=k2.frozen;replace k3:=ak k3 Q;replace ao:=k3.cell;replace b0:=k3.frozen;replace aK:=ae aK Q;obtain⟨Cl,cl,rfl⟩:=t.form;have z1:=Q.size;clear k4 cd d4 bL N;go_wp2;generalize hG:x1.alloc (.cells #[.slice (some ⟨w.heap.size+1+1,0,none⟩) 0 0,.slice (some ⟨w.heap.size+1+1+1,0,none⟩) 0 0,.slice Cl s.lg.length cl] 27)=w1 at *;obtain⟨U,ds,m0,lJ,cb⟩:=gT hG;clear hG;replace k0:=ak k0 U;replace dP:=k0.cell;replace fu:=k0.frozen;replace k1:=ak k1 U;replace iA:=k1.cell;replace jT:=k1.frozen;replace k2:=ak k2 U;replace mY:=k2.cell;replace b5:=k2.frozen;replace k3:=ak k3 U;replace ao:=k3.cell;replace b0:=k3.frozen;have b7:=t.below U;have o:afS w w1 w.heap.size A B C a b c s x1.heap.size (.slice (some ⟨w.heap.size+1+1,0,none⟩) 0 0) (.slice (some ⟨w.heap.size+1+1+1,0,none⟩) 0 0) (.slice Cl s.lg.length cl) [] [] w1.heap.size:=
  ⟨k0,k1,m0,eJ.acP ⟨_,rfl,by omega,k2⟩ (am _),eJ.acP ⟨_,rfl,by omega,k3⟩ (am _),b7.acP ca (by omega) (λg hg=>(b7.at_ hg).2),ae aK U,by omega,by omega,am _,am _,by omega⟩
 have n:=ab o;obtain⟨K,bn⟩:∃K,K=x1.heap.size:=⟨_,rfl⟩;rw[<-bn] at n ⊢;obtain⟨vs,bz⟩:∃vs,vs=Value.slice (some ⟨w.heap.size+1+1+1,0,none⟩) 0 0:=⟨_,rfl⟩;rw[<-bz] at n;clear bn bz o k0 k1 k2 k3 m0 dP iA mY ao lJ fu jT b5 b0 cb t b7 aK U Q;go_loopw [4] (λii wr=>∃(k:Nat) (vo:Value),k<=s.pk.length/\ii=.int .i64 k/\afS w wr w.heap.size A B C a b c s K vo vs (.slice Cl s.lg.length cl) (s.pk.take k) [] wr.heap.size) (λii _=>s.pk.length-(intOf ii).toNat)
 case atStart=>exact⟨0,_,fa _,rfl,n.out⟩
 case round=>
  clear n;obtain⟨k,vo,J,rfl,o⟩:=hrel;obtain⟨Ao,co,rfl⟩:=o.op.form;have H:(s.pk.take k).length=k:=by rw[fb,qY J]
  rw[H] at o;have dP:wr.cell? ⟨w.heap.size,0,none⟩=some (.slice A s.pk.length a):=o.k0.cell 0;by_cases aP:k<s.pk.length
  .obtain⟨y,dV⟩:=ar aP;have iZ:=aaf (f:=bPk) (da dV);have oC:y.its.length<=bPk y:=fp;obtain⟨b',O,es,e0,_,ly,_,⟨v2,rfl,an,Y⟩,E⟩:=(kJ.loc.below h1 o.bl bu).at_ dV;subst e0;obtain⟨A2,c2,rfl⟩:=cG.form Y;have aa:wr.cell? ⟨b',O+k*2,none⟩=some (.int .i64 y.no):=by simpa using E 0 _ rfl
   have ad:wr.cell? ⟨b',O+k*2+1,none⟩=some (.slice A2 y.its.length c2):=by simpa using E 1 _ rfl
   have cm:wr.cell? ⟨K,0,none⟩=some (.slice Ao k co):=o.m.cell 0;have dz:=mx dV;have HN:=ab dz;have W:=ab H;have N:=ab (pq (F:=oL) Y (by have:=o.bl.size;omega));have po:=ab (cG.good (F:=oL) Y);have n:=ab o;have zr:=o.bl.size;clear E dV dz H Y o;go_wp2;have aJ:=aj dP;have aL:=aj aa;have bm:=aj ad;have gK:=aj cm;refine aQ 18 [0,1,2,3,4,5,6,7,9,10,11,12,13,14] [8,15,16,17] (h:= ?_);simp only[pick,List.map,mT,nf];repeat(go_big_quiet_step (fail))
   refine gt ?_;clear aJ aL bm gK;apply Exists.intro;apply dB (eJ wr.heap.size 48)
   .rfl
   .exact λv x y h m=>h.keep m
   .intro x _ Qx r;have R:=ab r;clear r;go_wp2;exact R.out _ _ (aA _ _) (eJ.new _ _ x.ok.size)
   intro u8;apply dB (λv w'=>aH oL 48 w' wr.heap.size v y.its)
   .rfl
   .exact λv x y h m=>h.below m
   .intro x L Qx R;have hL:=L.1 (by kernel_rfl);exact aiX rfl (.tmp 31) (.tmp 37) 34 rfl aae (am _) rfl rfl hL N.out (by omega) λv' x' m ho=>R v' x'.to m ho
   intro df;apply dB (λv w'=>∃A c,v=.agg #[.int .i64 y.no,.slice A y.its.length c]/\aH oL 48 w' wr.heap.size (.slice A y.its.length c) y.its)
   .rfl
   .exact λv x y ⟨A,c,e,h⟩ m=>⟨A,c,e,h.below m⟩
   .intro x L Qx r;have R:=ab r;clear r;have ho:=L.1 (by kernel_rfl);obtain⟨A5,c5,rfl⟩:=ho.form;go_wp2;exact R.out _ _ (gn _ _) ⟨_,_,rfl,ho⟩
   intro d6;apply dB (λv w'=>∃g A c,v=.slice (some ⟨g,0,none⟩) 1 1/\bW w' g 36 #[.int .i64 y.no,.slice A y.its.length c]/\aH oL 48 w' wr.heap.size (.slice A y.its.length c) y.its)
   .rfl
   .exact λv x y ⟨g,A,c,e,J,h⟩ m=>⟨g,A,c,e,ak J m,h.below m⟩
   .intro x L Qx r;have R:=ab r;clear r;obtain⟨A5,c5,rfl,ho⟩:=L.1 (by kernel_rfl);go_wp2;have ba:=aA x.to (.cells #[.int .i64 y.no,.slice A5 y.its.length c5] 36);exact R.out _ _ ba ⟨_,_,_,rfl,bW.new _ _ _,ho.below ba⟩
   intro dg;refine bY ?_;intro w6 pA xx gI L;dsimp only[gU] at L;try rw[gI] at L
   clear gI xx;obtain⟨⟨g8,A8,c8,rfl,V,o8⟩, -⟩:=L;simp only[List.drop];have a3:=n.out.below pA;have z6:=pA.size;have ay:Hid (OPk w6 wr.heap.size w6.heap.size y [.int .i64 y.no,.slice A8 y.its.length c8]):=ab ⟨_,rfl,an,o8.acP po.out (by omega) λg hg=>(o8.at_ hg).2⟩;replace V:=ab V;have q:=ab a3;clear n pA o8 a3 aa ad cm dP N;go_wp2_with(at_builtin;refine jq ?_);refine⟨?_,trivial⟩;refine kY OPk.av (by decide) (v:=.slice Ao k co) rfl (.tmp 24) (.tmp 40) 23 rfl ahU y rfl q.out.op rfl V.out rfl (by simp[Value.oneCell']) z6 ay.out (am _) (by have:=W.out;omega) (by omega) ?_;intro v9 X o9 G bl;obtain⟨S,P,rfl⟩:=o9.form;rw[ap,oE,W.out] at o9;rw[ap,oE,W.out];have d:=q.out.op;have u:=dx d G q.out.m (by decide);have a2:=dx d G q.out.k0 (by decide);have a7:=dx d G q.out.k1 (by decide);have bp:=jg d G dH.av q.out.os (by decide);have a6:=jg d G dD.av q.out.ol (by decide);have aX:Below w.heap.size w X:=q.out.bl.trans (G.below q.out.bl.size λi hi hs=>by have:=d.ob hs;omega);have ct:X.cell? ⟨K,0,none⟩=some (.slice Ao k co):=u.cell 0;have cq:=u.frozen 0;have z9:=G.size;have a0:=q.out.gm1;have d1:=q.out.gm2;have lD:=u.cf 0 (.slice S (k+1) P);simp only[de,fi,ga] at lD;have M:afS w (X.setCell ⟨K,0,none⟩ (.slice S (k+1) P)) w.heap.size _ B C a b c s K (.slice S (k+1) P) vs (.slice Cl s.lg.length cl) (s.pk.take (k+1)) [] (X.setCell ⟨K,0,none⟩ (.slice S (k+1) P)).heap.size:=
    ⟨eI a2 (p:=⟨K,0,none⟩) _ (by dsimp only;omega),eI a7 (p:=⟨K,0,none⟩) _ (by dsimp only;omega),lD,
     by rw[HN.out];simp only[dj];exact cL dG.av o9 u (by decide) 0 _,
     by simp only[dj];exact dH.av.wide (cL dH.av bp u (by decide) 0 _) (am _) (bd z6 z9),
     by simp only[dj];exact dD.av.wide (cL dD.av a6 u (by decide) 0 _) (am _) (bd z6 z9),
     aX.setCell (by dsimp only;omega) _,a0,by simp only[dj];omega,am _,am _,by simp only[dj];omega⟩
   have bb:=ab M;clear M lD bp a6 d a2 a7 u;go_wp2;go_roundw
   case rel=>exact⟨k+1,_,by omega,by go_num,bb.out⟩
   simp[intOf];omega
  .obtain rfl:k=s.pk.length:=by omega
   rw[ge] at o;obtain⟨Ap,cw⟩:∃A,A=Ao:=⟨_,rfl⟩;obtain⟨cp,c9⟩:∃c,c=co:=⟨_,rfl⟩;subst cw c9;have n:=ab o;clear o;go_wp2;clear dP;go_loopw [5] (λii wr=>∃(k:Nat) (vo:Value),k<=s.sn.length/\ii=.int .i64 k/\afS w wr w.heap.size A B C a b c s K (.slice Ap s.pk.length cp) vo (.slice Cl s.lg.length cl) s.pk (s.sn.take k) wr.heap.size) (λii _=>s.sn.length-(intOf ii).toNat)
   case atStart=>exact⟨0,_,fa _,rfl,n.out⟩
   case round=>
    clear n;obtain⟨k,vo,J,rfl,o⟩:=hrel;obtain⟨Ao,co,rfl⟩:=o.os.form;have H:(s.sn.take k).length=k:=by rw[fb,qY J]
    rw[H] at o;have dP:wr.cell? ⟨w.heap.size,1,none⟩=some (.slice B s.sn.length b):=o.k0.cell 1;by_cases aP:k<s.sn.length
    .obtain⟨y,dV⟩:=ar aP;have iZ:=aaf (f:=bSn) (da dV);have d9:dU bLs y.all=bSn y:=rfl;have di:y.all.length<=dU bLs y.all:=fp;obtain⟨b',O,es,e0,dT,ly,_,⟨v2,rfl,an,Y⟩,E⟩:=(jW.loc.below h2 o.bl bu).at_ dV;subst e0;obtain⟨A2,c2,rfl⟩:=cG.form Y;obtain⟨_,d7,cr⟩:=Y.len_;unfold maxLen at cr;have aa:wr.cell? ⟨b',O+k*2,none⟩=some (.int .i64 y.no):=by simpa using E 0 _ rfl
     have ad:wr.cell? ⟨b',O+k*2+1,none⟩=some (.slice A2 y.all.length c2):=by simpa using E 1 _ rfl
     have dz:=mx dV;have HN:=ab dz;have W:=ab H;have HY:=ab dV;have n:=ab o;have zr:=o.bl.size;clear E dV dz H Y o;go_wp2;obtain⟨I,cS⟩:∃I,I=wr:=⟨_,rfl⟩;subst cS;generalize hG:(I.alloc (.cells #[] 101)).alloc (.cells #[.int .i64 y.no,.slice (some ⟨I.heap.size,0,none⟩) 0 0] 83)=w2 at *;obtain⟨nh,dp,n0,ck,cR,n1,al,ci⟩:=aeK hG;clear hG;have c1:=n.out.below nh;have bt:=ab c1;have Z:gq w2 I.heap.size w2.heap.size [] [.slice (some ⟨I.heap.size,0,none⟩) 0 0]:=eJ.acP ⟨_,rfl,am _,n0⟩ (am _);have HST:=ab (And.intro Z n1);clear n c1 aa ad dP n0 n1 ck al cR ci Z;go_loopw [7] (λii wr=>∃(j:Nat) (va:Value),j<=y.all.length/\ii=.int .i64 j/\gq wr I.heap.size wr.heap.size (y.all.take j) [va]/\bW wr (I.heap.size+1) 83 #[.int .i64 y.no,va]/\afS w wr w.heap.size A (some ⟨b',O,none⟩) C a b c s K (.slice Ap s.pk.length cp) (.slice Ao k co) (.slice Cl s.lg.length cl) s.pk (s.sn.take k) I.heap.size) (λii _=>y.all.length-(intOf ii).toNat)
     case atStart=>exact⟨0,_,fa _,rfl,HST.out.1,HST.out.2,bt.out⟩
     case round=>
      clear HST bt;obtain⟨j,va,hj,rfl,t,a1,o⟩:=hrel;obtain⟨Av,cv,rfl⟩:=t.form;have H:(y.all.take j).length=j:=by rw[fb,qY hj]
      rw[H] at t a1;have dP:wr.cell? ⟨w.heap.size,1,none⟩=some (.slice (some ⟨b',O,none⟩) s.sn.length b):=o.k0.cell 1;have zx:=o.hH;have zw:=o.bl.size;obtain⟨b2,mE,es,e0,_,_,_,⟨v2,rfl,e2,Y⟩,E⟩:=(jW.loc.below h2 o.bl bu).at_ HY.out;simp only[jp,qk,qm] at e0;obtain⟨rfl,rfl⟩:=e0;obtain⟨A3,c3,rfl⟩:=cG.form Y;obtain⟨_,dd,cn⟩:=Y.len_;unfold maxLen at cn;have b8:wr.cell? ⟨b',O+k*2+1,none⟩=some (.slice A3 y.all.length c3):=by simpa using E 1 _ rfl
      clear E;by_cases c7:j<y.all.length
      .obtain⟨z,af⟩:=ar c7;have dy:=aaf (f:=bLs) (da af);have e1:z.ns.length<=bLs z:=Nat.le_add_left _ _;obtain⟨b3,bT,es,e0,_,_,_,⟨v4,rfl,d2,a5⟩,E⟩:=Y.at_ af;subst e0;obtain⟨A4,c4,rfl⟩:=cG.form a5;have cy:wr.cell? ⟨b3,bT+j*2,none⟩=some (.string z.p):=by simpa using E 0 _ rfl
       have d0:wr.cell? ⟨b3,bT+j*2+1,none⟩=some (.slice A4 z.ns.length c4):=by simpa using E 1 _ rfl
       have dz:=mx af;have cE:=ab dz;have bf:=ab H;have a4:=ab o;replace t:=ab t;replace a5:=ab a5;clear E af dz H Y o;go_wp2;generalize hG:wr.alloc (.cells #[.string z.p,.slice A4 z.ns.length c4] 101)=wa at *;obtain⟨fK,e7,q0,aT,c6⟩:=gT hG;clear hG;have bw:=a4.out.below fK;have bO:=gq.av.below t.out fK (am _);have b4:=ak a1 fK;have b6:=aes.loc.below a5.out fK (by omega);have N:=ab (pq (F:=fM) b6 (by have:=fK.size;omega));have jX:=ab b6.aoA;have bI:=ab bw;have c0:=ab bO;have al:wa.cell? ⟨I.heap.size+1,1,none⟩=some (.slice Av j cv):=b4.cell 1;have bi:=aT 0;have bk:=aT 1;have bR:=fK.size;clear a4 t a5 bw bO b6 cy d0 b8 dP a1 fK;have aJ:=aj al;have aL:=aj bi;have bm:=aj bk;refine aQ 10 [0,1,2,3,5,6] [4,7,8,9] (h:= ?_);simp only[pick,List.map,mT,nf];repeat(go_big_quiet_step (fail))
       refine gt ?_;clear aJ aL bm;apply Exists.intro;apply dB (eJ wa.heap.size 3)
       .rfl
       .exact λv x y h m=>h.keep m
       .intro x _ Qx r;have R:=ab r;clear r;go_wp2;exact R.out _ _ (aA _ _) (eJ.new _ _ x.ok.size)
       intro u4;apply dB (λv w'=>aH fM 3 w' wa.heap.size v z.ns)
       .rfl
       .exact λv x y h m=>h.below m
       .intro x L Qx R;have hL:=L.1 (by kernel_rfl);exact aiX rfl (.tmp 82) (.tmp 84) 30 rfl kO (am _) rfl rfl hL N.out (by omega) λv' x' m ho=>R v' x'.to m ho
       intro u7;apply dB (λv w'=>∃A c,v=.agg #[.string z.p,.slice A z.ns.length c]/\aH fM 3 w' wa.heap.size (.slice A z.ns.length c) z.ns)
       .rfl
       .exact λv x y ⟨A,c,e,h⟩ m=>⟨A,c,e,h.below m⟩
       .intro x L Qx r;have R:=ab r;clear r;have ho:=L.1 (by kernel_rfl);obtain⟨A5,c5,rfl⟩:=ho.form;go_wp2;exact R.out _ _ (gn _ _) ⟨_,_,rfl,ho⟩
       intro u8;apply dB (λv w'=>∃g A c,v=.slice (some ⟨g,0,none⟩) 1 1/\bW w' g 101 #[.string z.p,.slice A z.ns.length c]/\aH fM 3 w' wa.heap.size (.slice A z.ns.length c) z.ns)
       .rfl
       .exact λv x y ⟨g,A,c,e,J,h⟩ m=>⟨g,A,c,e,ak J m,h.below m⟩
       .intro x L Qx r;have R:=ab r;clear r;obtain⟨A5,c5,rfl,ho⟩:=L.1 (by kernel_rfl);go_wp2;have ba:=aA x.to (.cells #[.string z.p,.slice A5 z.ns.length c5] 101);exact R.out _ _ ba ⟨_,_,_,rfl,bW.new _ _ _,ho.below ba⟩
       intro u9;refine bY ?_;intro w6 pA xx gI L;dsimp only[gU] at L;try rw[gI] at L
       clear gI xx;obtain⟨⟨g8,A8,c8,rfl,V,o8⟩, -⟩:=L;simp only[List.drop];have a3:=bI.out.below pA;have a9:=gq.av.below c0.out pA bR;have bo:=ak b4 pA;have z6:=pA.size;have ay:Hid (OLs w6 wa.heap.size w6.heap.size z [.string z.p,.slice A8 z.ns.length c8]):=ab ⟨_,rfl,d2,o8.acP (λx hx=>jX.out x hx) (by omega) λg hg=>(o8.at_ hg).2⟩;replace V:=ab V;have q:=ab a3;replace a9:=ab a9;clear bI c0 pA o8 a3 N b4 al bi bk q0 aT c6;go_wp2_with(at_builtin;refine jq ?_);refine⟨?_,trivial⟩;refine kY OLs.av (by decide) (v:=.slice Av j cv) rfl (.tmp 79) (.tmp 87) 81 rfl anW z rfl a9.out rfl V.out rfl (by simp[Value.oneCell']) (show wr.heap.size<=w6.heap.size by omega) (OLs.av.wide ay.out bR (am _)) (am _) (by have:=bf.out;omega) (by omega) ?_;intro v9 X o9 G bl;obtain⟨S,P,rfl⟩:=o9.form;rw[ap,oE,bf.out] at o9;rw[ap,oE,bf.out];have d:=a9.out;have z9:=G.size;have a8:=dx d G bo (by decide);have e3:X.cell? ⟨I.heap.size+1,1,none⟩=some (.slice Av j cv):=a8.cell 1;have e6:=a8.frozen 1;have lD:=a8.cf 1 (.slice S (j+1) P);simp only[de,fi,ga] at lD;have a0:=q.out.gm1;have bV:=q.out.gmr;have M:afS w (X.setCell ⟨I.heap.size+1,1,none⟩ (.slice S (j+1) P)) w.heap.size _ _ C a b c s K (.slice Ap s.pk.length cp) (.slice Ao k co) (.slice Cl s.lg.length cl) s.pk (s.sn.take k) I.heap.size:=
        ⟨eI (dx d G q.out.k0 (by decide)) (p:=⟨I.heap.size+1,1,none⟩) _ (by dsimp only;omega),eI (dx d G q.out.k1 (by decide)) (p:=⟨I.heap.size+1,1,none⟩) _ (by dsimp only;omega),eI (dx d G q.out.m (by decide)) (p:=⟨I.heap.size+1,1,none⟩) _ (by dsimp only;omega),
         ah3 dG.av (jg d G dG.av q.out.op (by decide)) (by omega),ah3 dH.av (dH.av.fc q.out.os G λb _ hb _ hs=>by have:=d.ob hs;omega) (by omega),ah3 dD.av (jg d G dD.av q.out.ol (by decide)) (by omega),
         (q.out.bl.trans (G.below q.out.bl.size λi hi hs=>by have:=d.ob hs;omega)).setCell (by dsimp only;omega) _,a0,by simp only[dj];have:=q.out.gm2;omega,am _,by simp only[dj];have:=q.out.hH;omega,bV⟩
       have b9:gq (X.setCell ⟨I.heap.size+1,1,none⟩ (.slice S (j+1) P)) I.heap.size (X.setCell ⟨I.heap.size+1,1,none⟩ (.slice S (j+1) P)).heap.size (y.all.take (j+1)) [.slice S (j+1) P]:=by
        rw[cE.out];simp only[dj];exact cL gq.av o9 a8 (by decide) 1 _
       have cO:=ab M;replace b9:=ab b9;have cW:=ab lD;clear M lD d a8 bo;go_wp2;go_roundw
       case rel=>exact⟨j+1,_,by omega,by go_num,b9.out,cW.out,cO.out⟩
       simp[intOf];omega
      .obtain rfl:j=y.all.length:=by omega
       rw[ge] at t;have ch:wr.cell? ⟨I.heap.size+1,0,none⟩=some (.int .i64 y.no):=a1.cell 0;have cg:wr.cell? ⟨I.heap.size+1,1,none⟩=some (.slice Av y.all.length cv):=a1.cell 1;have cc:wr.cell? ⟨K,1,none⟩=some (.slice Ao k co):=o.m.cell 1;have a4:=ab o;replace t:=ab t;clear o;go_wp2_with(at_builtin;refine jq ?_);refine⟨?_,trivial⟩;have bx:=aA wr (.cells #[.int .i64 y.no,.slice Av y.all.length cv] 83);have bC:=a4.out.below bx;have cu:=bW.new wr 83 #[.int .i64 y.no,.slice Av y.all.length cv];have bS:=gq.av.below t.out bx (am _);generalize wr.alloc (.cells #[.int .i64 y.no,.slice Av y.all.length cv] 83)=w6 at *;have z6:=bx.size;have q:=ab bC;have cz:Hid (OSn w6 I.heap.size w6.heap.size y [.int .i64 y.no,.slice Av y.all.length cv]):=ab ⟨_,rfl,an,gq.av.wide bS (am _) z6⟩;clear bC bS a4 t ch cg cc a1 b8 Y;refine kY OSn.av (by decide) (v:=.slice Ao k co) rfl (.tmp 91) (.tmp 93) 24 rfl ah2 y rfl q.out.os rfl cu rfl (by simp[Value.oneCell']) (show I.heap.size<=w6.heap.size by omega) cz.out (am _) (by have:=W.out;omega) (by omega) ?_;intro v9 X o9 G bl;obtain⟨S,P,rfl⟩:=o9.form;rw[ap,oE,W.out] at o9;rw[ap,oE,W.out];have d:=q.out.os;have u:=dx d G q.out.m (by decide);have a2:=dx d G q.out.k0 (by decide);have a7:=dx d G q.out.k1 (by decide);have br:=jg d G dG.av q.out.op (by decide);have a6:=jg d G dD.av q.out.ol (by decide);have aX:Below w.heap.size w X:=q.out.bl.trans (G.below q.out.bl.size λi hi hs=>by have:=d.ob hs;omega);have ct:X.cell? ⟨K,1,none⟩=some (.slice Ao k co):=u.cell 1;have cq:=u.frozen 1;have z9:=G.size;have a0:=q.out.gm1;have d1:=q.out.gm2;have dn:=q.out.hH;have bV:=q.out.gmr;have lD:=u.cf 1 (.slice S (k+1) P);simp only[de,fi,ga] at lD;have M:afS w (X.setCell ⟨K,1,none⟩ (.slice S (k+1) P)) w.heap.size _ _ C a b c s K (.slice Ap s.pk.length cp) (.slice S (k+1) P) (.slice Cl s.lg.length cl) s.pk (s.sn.take (k+1)) (X.setCell ⟨K,1,none⟩ (.slice S (k+1) P)).heap.size:=
        ⟨eI a2 (p:=⟨K,1,none⟩) _ (by dsimp only;omega),eI a7 (p:=⟨K,1,none⟩) _ (by dsimp only;omega),lD,
         by simp only[dj];exact dG.av.wide (cL dG.av br u (by decide) 1 _) (am _) (by omega),
         by rw[HN.out];simp only[dj];exact cL dH.av o9 u (by decide) 1 _,
         by simp only[dj];exact dD.av.wide (cL dD.av a6 u (by decide) 1 _) (am _) (by omega),
         aX.setCell (by dsimp only;omega) _,a0,by simp only[dj];omega,am _,am _,by simp only[dj];omega⟩
       have bb:=ab M;clear M lD br a6 d a2 a7 u;go_wp2;go_roundw
       case rel=>exact⟨k+1,_,by omega,by go_num,bb.out⟩
       simp[intOf];omega
    .obtain rfl:k=s.sn.length:=by omega
     rw[ge] at o;have iA:=o.k1.cell;have jT:=o.k1.frozen;have e5:=o.m.cell;have n:=ab o;have zr:=o.bl.size;clear o;go_wp2;have a0:=n.out.gm1;have b1:∀(u1 u2 u3:Value) {β:Type} {D:fV β} {T:List TypeId} {y:β} {cs:List Value},dO D T->27∉T->D wr w.heap.size wr.heap.size y cs->D (((wr.setCell ⟨w.heap.size+1,0,none⟩ u1).setCell ⟨w.heap.size+1,1,none⟩ u2).setCell ⟨w.heap.size+1,2,none⟩ u3) w.heap.size (((wr.setCell ⟨w.heap.size+1,0,none⟩ u1).setCell ⟨w.heap.size+1,1,none⟩ u2).setCell ⟨w.heap.size+1,2,none⟩ u3).heap.size y cs:=λu1 u2 u3 {_ _ _ _ _} hD hT hy=>by
      simp only[dj];exact hD.go (λb _ _ hb=>by
       have ax:b≠w.heap.size+1:=by rintro rfl;exact kZ n.out.k1 hT hb
       rw[qb _ _ _ _ ax,qb _ _ _ _ ax,qb _ _ _ _ ax]) (am _) (am _) hy
     refine oR (v:=.agg #[.slice Ap s.pk.length cp,.slice Ao s.sn.length co,.slice Cl s.lg.length cl]) (by simp[results,results29,go_sem,iA]) rfl ⟨_,_,_,rfl,⟨b1 _ _ _ dG.av (by decide) n.out.op,b1 _ _ _ dH.av (by decide) n.out.os,b1 _ _ _ dD.av (by decide) n.out.ol⟩, ?_⟩;exact((n.out.bl.setCell (by dsimp only;omega) _).setCell (by dsimp only;omega) _).setCell (by dsimp only;omega) _
end
section
variable {β:Bool}
open Go.RowKit
def fF(key:Int)(f:Nd):Ls:=⟨f.p,(gu f.b).map λp=>bA key (bs p)⟩
def jF(no key:Int)(t:List Nd):Sn:=⟨no,t.map (fF key)⟩
def aAy(w:World)(s:Sn)(e:Ending)(w':World):Prop:=∃v,e=.returned (.agg #[.int .i64 s.no,v])/\gq w' w.heap.size w'.heap.size s.all [v]/\Below w.heap.size w w'
def apA(D key:Int)(hk:1<=key/\key<=99)(bS:cA D)(t:List Nd)(ht:∀x∈t,dE x.b=true)(hl:t.length<=1000)(vt:Value)(w:World)(lo hi:Nat)(bu:hi<=w.heap.size)(h1:fC w lo hi t [vt]) :
  Calls (ah β) 50 #[.int .i64 D,.int .i64 key,vt] w (aAy w (jF D key t)):=by
 replace ht:=ab ht;have HK:=ab hk;obtain⟨A,c,rfl⟩:=h1.form;obtain⟨_,hc,C⟩:=h1.len_;unfold maxLen at C;go_enter zd,ntmps50;go_wp2;generalize hG:((w.alloc (.cells #[.int .i64 0,.slice none 0 0] 83)).alloc (.cells #[] 101)).alloc (.cells #[.int .i64 D,.slice (some ⟨w.heap.size+1,0,none⟩) 0 0] 83)=w0 at *;obtain⟨aK,iv,E,dP,fu,k1,iA,jT,V,mY,c0⟩:=aiU hG;obtain⟨all,m⟩:∃all,all=(jF D key t).all:=⟨_,rfl⟩;have an:all.length=t.length:=by rw[m];exact pe _
 replace m:=ab m;have a7:gq w0 w.heap.size w0.heap.size [] [.slice (some ⟨w.heap.size+1,0,none⟩) 0 0]:=eJ.acP ⟨_,rfl,by omega,k1⟩ (am _);have H0:=ab (And.intro a7 (And.intro E (And.intro V aK)));go_loopw [8] (λii wr=>∃(k:Nat) (va:Value),k<=t.length/\ii=.int .i64 k/\gq wr w.heap.size wr.heap.size (all.take k) [va]/\bW wr w.heap.size 83 #[.int .i64 0,.slice none 0 0]/\bW wr (w.heap.size+1+1) 83 #[.int .i64 D,va]/\Below w.heap.size w wr) (λii _=>t.length-(intOf ii).toNat)
 case atStart=>exact⟨0,_,fa _,rfl,H0.out.1,H0.out.2.1,H0.out.2.2.1,H0.out.2.2.2⟩
 case round=>
  obtain⟨k,va,c3,rfl,a,E,V,Q⟩:=hrel;obtain⟨u,bl⟩:∃u,u=wr:=⟨_,rfl⟩;subst bl;obtain⟨Y,cv,rfl⟩:=a.form;have a3:(all.take k).length=k:=by rw[fb,qY (by omega)]
  rw[a3] at a V;by_cases ao:k<t.length
  .obtain⟨f,o⟩:=ar ao;have U:=jf (ht.out f (da o));have L:=fC.av.below h1 Q bu;obtain⟨b1,bO,rfl,_,bV,af,lW,c2⟩:=kV L o;have bn:all[k]?=some (fF key f):=by rw[m.out];show(t.map (fF key))[k]?=_;rw[qE,o];rfl
   have fL:=mx bn;have lB:=ab fL;have M:=ab a3;have b4:=kU U.2;have jm:=ab6 f.b;have c4:=U.1;have HA:=ab b4;have HC:=ab (agC (β:=β) f.b (by omega));replace a:=ab a;have bt:=ab af;replace o:=ab o;go_wp2;refine(HC.out u).mono ?_;rintro e s ⟨v1,rfl,op,a0⟩;obtain⟨Ap,cp,rfl⟩:=op.form;have P:=(op.deep (λx C=>kX (HA.out x C)) u.heap.size).sl (am _);have zo:=Q.size;have z1:=a0.size;obtain⟨q,z⟩:∃q,q=(gu f.b).map λp=>bA key (bs p):=⟨_,rfl⟩;have ba:fF key f=⟨f.p,q⟩:=by rw[z];rfl
   rw[ba] at lB;revert z;revert HA;revert jm;revert P;generalize gu f.b=ps;intro P jm HA z;have N:=ab z;go_wp2;have b2:=aA s (.cells #[] 3);have a6:aH fM 3 (s.alloc (.cells #[] 3)) s.heap.size (.slice (some ⟨s.heap.size,0,none⟩) 0 0) []:=(eJ.new s 3 (am _)).own 1;have b8:=dr.av.below P b2 (am _);have b3:=ae a0 b2;have bf:=b2.size;have HO:=ab a6;have HR:=ab b8;have HB:=ab b3;generalize s.alloc (.cells #[] 3)=w2 at *;go_loopw [10,11] (λnn jj wr=>∃j:Nat,j<=ps.length/\jj=.int .i64 j/\aH fM 3 wr s.heap.size nn (q.take j)/\Below u.heap.size u wr/\dr wr u.heap.size s.heap.size ps [.slice Ap ps.length cp]/\s.heap.size<=wr.heap.size) (λ_ jj _=>ps.length-(intOf jj).toNat)
   case atStart=>exact⟨0,fa _,rfl,HO.out,HB.out,HR.out,bf⟩
   case round=>
    obtain⟨j,bC,rfl,H,d,hr,hz⟩:=hrel;have bw:q.length=ps.length:=by rw[N.out,pe]
    have a2:(q.take j).length=j:=by rw[fb,qY (by omega)]
    obtain⟨Ao,co,rfl⟩:=H.form;rw[a2] at H ⊢;by_cases ad:j<ps.length
    .obtain⟨p,K⟩:=ar ad;have bp:=HA.out p (da K);obtain⟨b2,mE,rfl,c1,bz,bR,aP⟩:=kT hr K;have bx:q[j]?=some (bA key (bs p)):=by rw[N.out,qE,K];rfl
     have fL:=mx bx;have G:=ab fL;have a4:=ab a2;have J:=ab (nz (β:=β) key p HK.out bp wr);have HR:=ab hr;have r:=lS (key:=key) (l:=bs p);revert J G r;generalize bA key (bs p)=nv;intro G J r;go_wp2;refine J.out.mono ?_;rintro e w3 ⟨rfl,rfl⟩;go_wp2_with(at_builtin;refine bN (F:=fM) (v:=.slice Ao j co) rfl (.tmp 34) (.tmp 41) 30 rfl kO nv rfl H rfl rfl (by have:=a4.out;omega) hz ?_;intro va wa oa I bI;obtain⟨Aa,ca,rfl⟩:=oa.form;simp only[ap,ff,ls,jt,a4.out] at oa);go_roundw
     case rel=>
      refine⟨j+1,by omega,by go_num,by rw[G.out];simpa using oa,d.trans (I.below d.size λi hi C=>by have:=(H.at_ C).1;omega),dr.av.fc HR.out I λb _ Q _ hs=>by have:=(H.at_ hs).1;omega,bd hz I.size⟩
     case measure=>simp[intOf];omega
    .obtain rfl:j=ps.length:=by omega
     have b9:q.take ps.length=q:=by rw[<-bw,ge]
     rw[b9] at H;have L:=fC.av.below h1 (ae Q d) bu;have r:∀x∈q,fM.good x:=λx C=>by
      rw[N.out] at C;obtain⟨p,_,rfl⟩:=mw.1 C;have:=lS (key:=key) (l:=bs p);show cA _;unfold cA;omega
     have ax:=ak E d;have X:=ak V d;have a:=gq.av.below a.out d (am _);obtain⟨b3,c5,e0,_,_,_,br,_⟩:=kV L o.out;simp only[jp,qk,qm] at e0;obtain⟨rfl,rfl⟩:=e0;have b0:wr.cell? ⟨w.heap.size+1+1,1,none⟩=some (.slice Y k cv):=X.cell 1;have zr:=d.size;have al:=ab a;have HO:=ab H;have aX:=ab r;have bi:=ab ax;have bb:=ab X;have HB:=ab (ae Q d);go_wp2;have aJ:=aj b0;have aL:=aj br;refine aQ 10 [0,1,2,3,4,5,6,7] [8,9] (h:= ?_);simp only[pick,List.map,mT,nf];repeat(go_big_quiet_step (fail))
     refine gt ?_;apply Exists.intro;apply gF (.agg #[.string f.p,.slice Ao ps.length co])
     .intro y Z Qx n;replace n:=ab n;go_wp2;exact n.out _ (gn _ _)
     apply dB (λv w'=>∃g,v=.slice (some ⟨g,0,none⟩) 1 1/\bW w' g 101 #[.string f.p,.slice Ao ps.length co])
     .rfl
     .exact λv x y ⟨g,e,hk⟩ hle=>⟨g,e,ak hk hle⟩
     .intro x Z Qx n;replace n:=ab n;go_wp2;exact n.out _ _ (aA _ _) ⟨_,rfl,bW.new _ _ _⟩
     intro u9;refine bY ?_;intro w6 T xx gI Z;dsimp only[gU] at Z;try rw[gI] at Z
     obtain⟨⟨g8,rfl,bk⟩, -⟩:=Z;simp only[List.drop];have z6:=T.size;have a5:=gq.av.below al.out T zr;have o8:=(HO.out.below T).base z1;have a9:Hid (OLs w6 u.heap.size w6.heap.size ⟨f.p,q⟩ [.string f.p,.slice Ao ps.length co]):=ab ⟨_,rfl,bt.out.1,o8.acP aX.out (by omega) λg hg=>(o8.at_ hg).2⟩;have b7:=ab bk;have a1:=ab a5;have b5:=ab (ak bi.out T);have aa:=ab (ak bb.out T);have W:=ab (ae HB.out T);go_wp2_with(at_builtin;refine jq ?_);refine⟨?_,trivial⟩;refine kY OLs.av (by decide) (v:=.slice Y k cv) rfl (.tmp 44) (.tmp 52) 81 rfl anW ⟨f.p,q⟩ rfl a1.out rfl b7.out rfl (by simp[Value.oneCell']) (show u.heap.size<=w6.heap.size by omega) a9.out (am _) (by have:=M.out;omega) (by omega) ?_;intro v9 w9 o9 jL bL;obtain⟨S,R,rfl⟩:=o9.form;rw[ap,oE,M.out] at o9;rw[ap,oE,M.out];have O:=a1.out;have z9:=jL.size;have B:=dx O jL aa.out (by decide);have b6:=dx O jL b5.out (by decide);have bT:w9.cell? ⟨w.heap.size+1+1,1,none⟩=some (.slice Y k cv):=B.cell 1;have c6:=B.frozen 1;have lD:=B.cf 1 (.slice S (k+1) R);simp only[de,fi,ga] at lD;have a8:gq (w9.setCell ⟨w.heap.size+1+1,1,none⟩ (.slice S (k+1) R)) w.heap.size (w9.setCell ⟨w.heap.size+1+1,1,none⟩ (.slice S (k+1) R)).heap.size (all.take (k+1)) [.slice S (k+1) R]:=by
      rw[lB.out];simp only[dj];exact cL gq.av o9 B (by decide) 1 _
     have ay:Below w.heap.size w (w9.setCell ⟨w.heap.size+1+1,1,none⟩ (.slice S (k+1) R)):=(W.out.trans (jL.below W.out.size λi hi hs=>by have:=O.ob hs;omega)).setCell (by dsimp only;omega) _;have bm:=eI b6 (p:=⟨w.heap.size+1+1,1,none⟩) (.slice S (k+1) R) (by dsimp only;omega);have HF:=ab (And.intro a8 (And.intro bm (And.intro lD ay)));go_wp2;go_roundw
     case rel=>exact⟨k+1,_,by omega,by go_num,HF.out.1,HF.out.2.1,HF.out.2.2.1,HF.out.2.2.2⟩
     simp[intOf];omega
  .obtain rfl:k=t.length:=by omega
   have bo:all.take t.length=all:=by rw[<-an,ge]
   rw[bo] at a;have mY:=V.cell;have fu:=E.frozen;have dP:=E.cell;replace a:=ab a;go_wp2;have k4:=(E.cf 0 (.int .i64 D)).cf 1 (.slice Y t.length cv);simp only[de,fi,ga] at k4;have aT:=k4.cell;refine oR (v:=.agg #[.int .i64 D,.slice Y t.length cv]) (by simp[results,results50,go_sem,aT]) rfl ⟨_,rfl, ?_,(Q.setCell (by simp) _).setCell (by simp) _⟩;rw[<-m.out];simp only[dj];exact cL gq.av (cL gq.av a.out E (by decide) 0 _) (E.cf 0 _) (by decide) 1 _
end
section
variable {β:Bool}
open Go.RowKit
def eM(l:List Pk):Int:=((l.getLast?).map (·.no)).getD 0+1
def fG(l:List Hd):Int:=l.foldl (λa h=>max a (h.s+1)) 1
def dW(s:dS):Int:=match s.sn.getLast? with|some x=>max (fG s.lg) (x.no+1)|none=>fG s.lg
def al0{l:List Hd}{h:Hd}(a:l[k]?=some h):fG (l.take (k+1))=max (fG (l.take k)) (h.s+1):=by
 unfold fG;rw[mx a,sM];rfl
def ajK{l:List Hd}{b:Int}(d:1<=b)(h:∀x∈l,x.s+1<=b):1<=fG l/\fG l<=b:=by
 induction l using nt with
 |h0=>exact⟨ur _,d⟩
 |h1 l x a=>
  have e:fG (l++[x])=max (fG l) (x.s+1):=by unfold fG;rw[sM];rfl
  have:=a λy c=>h y (by simp[c]);have:=h x (by simp);rw[e];omega
def ayA(m x:Int):(if m<x then x else m)=max m x:=by rw[Int.max_def];split<;>split<;>omega
def vS{l:List Y}(h:0<l.length):∃x,l[l.length-1]?=some x/\l.getLast?=some x:=by
 obtain⟨x,a⟩:=ar (show l.length-1<l.length by omega);exact⟨x,a,by rw[List.getLast?_eq_getElem?,a]⟩
def al1(b:Int)(s:dS):Prop:=(∀p∈s.pk,p.no<=b)/\(∀x∈s.sn,x.no<=b)/\∀h∈s.lg,h.s<=b
def ajL(s:dS)(u:al1 1000000 s)(va vb vc:Value)(w:World)(lo hi:Nat)(h:lL w lo hi s va vb vc)(bu:hi<=w.heap.size) :
  Calls (ah β) 46 #[.agg #[va,vb,vc]] w λe w'=>e=.returned (.tuple #[.int .i64 (eM s.pk),.int .i64 (dW s)])/\Below w.heap.size w w':=by
 obtain⟨N,K,W⟩:=h;obtain⟨A,a,rfl⟩:=cG.form N;obtain⟨B,b,rfl⟩:=cG.form K;obtain⟨C,c,rfl⟩:=cG.form W;obtain⟨_,a6,a4⟩:=N.len_;obtain⟨_,al,a5⟩:=K.len_;obtain⟨_,ad,a3⟩:=W.len_;unfold maxLen at a4 a5 a3;have r:∀p∈s.pk,cA p.no:=λp i=>by
  obtain⟨O,v,_,hg,_⟩:=N.aq7 p i;exact hg
 have q:∀p∈s.sn,cA p.no:=λp i=>by
  obtain⟨O,v,_,hg,_⟩:=K.aq7 p i;exact hg
 replace u:=ab u;replace r:=ab r;replace q:=ab q;go_enter zh,ntmps46;rcases oS s.pk.length with t|t
 case' inl=>
  have t1:=bv (show ¬(0<s.pk.length) by omega);have i:eM s.pk=1:=by rw[pi.1 t];rfl
  have HP:=ab i;have HZ:=ab t;clear t i;go_wp2
 case' inr=>
  have t1:=db (show 0<s.pk.length by omega);obtain⟨z,f,E⟩:=vS t;have a8:=u.out.1 z (da f);have Z:=r.out z (da f);unfold cA at Z;have i:eM s.pk=z.no+1:=by unfold eM;rw[E];rfl
  have HP:=ab i;replace f:=ab f;clear i E;obtain⟨b4,T,O,D,_,_,_,⟨v4,rfl,Q⟩,n⟩:=(kJ.loc.below N (aA w (.cells #[.slice A s.pk.length a,.slice B s.sn.length b,.slice C s.lg.length c] 27)) bu).at_ f.out;subst D;obtain⟨m4,F⟩:∃m,m=s.pk.length-1:=⟨_,rfl⟩;rw[<-F] at n;have e4:(s.pk.length:Int)-1=((m4:Nat):Int):=by omega
  have aa:m4<s.pk.length:=by omega
  have I:=n 0 _ rfl;rw[sU] at I;clear n Q F t f;go_wp2;clear e4 I;generalize some (⟨b4,T,none⟩:Addr)=A at *
 all_goals
  generalize hG:w.alloc (.cells #[.slice A s.pk.length a,.slice B s.sn.length b,.slice C s.lg.length c] 27)=w0 at *;obtain⟨M,iv,k0,dP,fu⟩:=gT hG;clear hG;have a2:=lN.loc.below W M bu
  go_loop [5,6] (λss ii=>∃k:Nat,k<=s.lg.length/\ii=.int .i64 k/\ss=.int .i64 (fG (s.lg.take k))) (λ_ ii=>s.lg.length-(intOf ii).toNat)
  case atStart=>exact⟨0,fa _,rfl,rfl⟩
  case round=>
   obtain⟨k,a9,rfl,rfl⟩:=hrel;by_cases X:k<s.lg.length
   .obtain⟨x,P⟩:=ar X;have oI:=u.out.2.2 x (da P);obtain⟨Y,o,O,D,_,_,_,⟨rfl,g⟩,d⟩:=a2.at_ P;subst D;have a0:cA x.s:=g.2;unfold cA at a0;have R:w0.cell? ⟨Y,o+k*2+1,none⟩=some (.int .i64 x.s):=by simpa using d 1 _ rfl
    have J:=ajK (l:=s.lg.take k) (b:=1000001) (by omega) λy j=>by have:=u.out.2.2 y (pu j);omega
    have fL:=al0 P;have V:=ab fL;clear fL P d g;revert V J;generalize fG (s.lg.take k)=m;intro J V;go_wp2
    go_round
    case rel=>exact⟨k+1,by omega,by go_num,by rw[V.out,ayA]⟩
    simp[intOf];omega
   .obtain rfl:k=s.lg.length:=by omega
    rw[ge];have U:=jW.loc.below K M bu;rcases oS s.sn.length with j|j
    .have t2:=bv (show ¬(0<s.sn.length) by omega);have H:dW s=fG s.lg:=by unfold dW;rw[pi.1 j];rfl
     have S:=ab H;have HY:=ab j;clear H j;go_wp2;go_ret2;exact⟨by rw[HP.out,S.out];rfl,M⟩
    .have t2:=db (show 0<s.sn.length by omega);obtain⟨y,L,G⟩:=vS j;have a7:=u.out.2.1 y (da L);have a1:=q.out y (da L);unfold cA at a1;have H:dW s=max (fG s.lg) (y.no+1):=by unfold dW;rw[G]
     obtain⟨Y,o,O,D,_,_,_,⟨v5,rfl,g⟩,d⟩:=U.at_ L;subst D;obtain⟨m,J⟩:∃m,m=s.sn.length-1:=⟨_,rfl⟩;rw[<-J] at d;have e1:(s.sn.length:Int)-1=((m:Nat):Int):=by omega
     have af:m<s.sn.length:=by omega
     have R:w0.cell? ⟨Y,o+m*2,none⟩=some (.int .i64 y.no):=by simpa using d 0 _ rfl
     have S:=ab H;clear H G L d g J j;go_wp2;all_goals
      go_ret2;exact⟨by rw[HP.out,S.out];first|(rw[Int.max_eq_right (by omega)];rfl)|(rw[Int.max_eq_left (by omega)];rfl),M⟩
end
section
variable {β:Bool}
open Go.RowKit
def eW(key:Int)(no:Int)(l:List ByteArray):List Pk:=
 if h:l=[] then[] else⟨no,fR key (l.take 4)⟩::eW key (no+1) (l.drop 4)
termination_by l.length
decreasing_by
 have:0<l.length:=List.length_pos_iff.2 h;rw[qc];omega
def ib(key a:Int):eW key a []=[]:=by rw[eW];rfl
def lX(key a:Int){l:List ByteArray}(h:0<l.length):eW key a l=⟨a,fR key (l.take 4)⟩::eW key (a+1) (l.drop 4):=by
 rw[eW,dif_neg (by rintro rfl;simp at h)]
open Classical in
noncomputable def nS(l:List Pk):List Sp:=if ∀s∈dc l,spP s then eh (dc l) [] else[]
def anX(l:List Pk):IOf l (nS l):=by
 unfold nS;by_cases h:∀s∈dc l,spP s
 .rw[dl h];exact .inl ⟨h,rfl⟩
 .rw[be h];exact .inr ⟨h,rfl⟩
noncomputable def acU(key:Int)(s:dS)(t:List Nd):List Pk:=eW key (eM s.pk) (aap key (nS s.pk) t)
def afn(key:Int)(s:dS)(t:List Nd):Prop:=(s.pk++acU key s t).length<=20/\eM s.pk+(acU key s t).length-1<=99/\dW s<=20/\s.lg.length<9
noncomputable def abe(key:Int)(s:dS)(by_:Int)(t:List Nd):dS:=⟨s.pk++acU key s t,s.sn++[jF (dW s) key t],s.lg++[⟨by_,dW s⟩]⟩
structure afT (w wr:World) (va vb vc:Value) (gm:Nat) (vp vs vl:Value) (pk:List Pk) (sn:List Sn) (lg:List Hd) (H:Nat):Prop where
 k0:bW wr w.heap.size 27 #[va,vb,vc]
 k1:bW wr (w.heap.size+1) 27 #[.slice none 0 0,.slice none 0 0,.slice none 0 0]
 m:bW wr gm 27 #[vp,vs,vl]
 op:dG wr w.heap.size H pk [vp]
 os:dH wr w.heap.size H sn [vs]
 ol:dD wr w.heap.size H lg [vl]
 bl:Below w.heap.size w wr
 gm1:w.heap.size+1<gm
 gm2:gm<wr.heap.size
 hH:H<=wr.heap.size
def afT.below{w wr : World}{c b : Value}(h:afT w wr W V U Z v c b S R xs X)(a:Below wr.heap.size wr w'):afT w w' W V U Z v c b S R xs X:=
 ⟨ak h.k0 a,ak h.k1 a,ak h.m a,dG.av.below h.op a h.hH,dH.av.below h.os a h.hH,dD.av.below h.ol a h.hH,ae h.bl a,h.gm1,aE h.gm2 a.size,bd h.hH a.size⟩
def afT.up{w wr:World}{c b : Value}{H' : Nat}(h:afT w wr W V U Z v c b S R xs X)(a:X<=H')(d:H'<=wr.heap.size):afT w wr W V U Z v c b S R xs H':=
 ⟨h.k0,h.k1,h.m,dG.av.wide h.op (am _) a,dH.av.wide h.os (am _) a,dD.av.wide h.ol (am _) a,h.bl,h.gm1,h.gm2,d⟩
def aAE:Value->Nat
 |.slice _ n _=>n
 |_=>0
def asv(key:Int)(s:dS)(by_:Int)(t:List Nd)(w:World)(e:Ending)(w':World):Prop:=
 ∃c b a q r,e=.returned (.tuple #[.agg #[c,b,a],.bool q])/\fh w' w.heap.size w'.heap.size r c b a/\((q=true/\afn key s t/\r=abe key s by_ t)\/(q=false/\¬afn key s t/\r=s))/\Below w.heap.size w w'
def ajM (key:Int) (hk:1<=key/\key<=99) (s:dS) (u:Int) (bo:cA u) (t:List Nd) (ht:∀x∈t,dE x.b=true) (hl:t.length<=10) (hs:al1 1000000 s) (e9:(dc s.pk).length<=10000) (bC:lz s<=1000000)
  (va vb vc vt:Value) (w:World) (lo hi bi nD:Nat) (h:fh w lo hi s va vb vc) (bu:hi<=w.heap.size) (h1:fC w bi nD t [vt]) (c9:nD<=w.heap.size) :
  Calls (ah β) 24 #[.int .i64 key,.agg #[va,vb,vc],.int .i64 u,vt] w (asv key s u t w):=by
 replace ht:=ab ht;have HS:=ab hs;have HK:=ab hk;replace bo:=ab bo;clear hs;obtain⟨A,a,rfl⟩:=h.pk.form;obtain⟨B,b,rfl⟩:=h.sn.form;obtain⟨C,c,rfl⟩:=h.lg.form;obtain⟨D,d,rfl⟩:=h1.form;have e8:s.pk.length<=1000000:=by
  have h1:=fp (f:=bPk) (l:=s.pk);unfold lz at bC;omega
 have en:s.sn.length<=1000000:=by
  have h1:=fp (f:=bSn) (l:=s.sn);unfold lz at bC;omega
 have ea:s.lg.length<=1000000:=by unfold lz at bC;omega
 go_enter zF,ntmps24;go_wp2;generalize hG:(w.alloc (.cells #[.slice A s.pk.length a,.slice B s.sn.length b,.slice C s.lg.length c] 27)).alloc (.cells #[.slice none 0 0,.slice none 0 0,.slice none 0 0] 27)=w0 at *;obtain⟨aK,iv,k0,dP,fu,k1,iA,jT⟩:=aeK hG;clear hG;have cE:=h.below aK bu;refine(eT s _ _ _ w0 lo hi cE.l (by omega) (by omega)).mono ?_;rintro e w1 ⟨vp,vs,vl,rfl,oc,b1⟩;obtain⟨Ap,cp,rfl⟩:=oc.pk.form;obtain⟨As,cs,rfl⟩:=oc.sn.form;obtain⟨Al,cl,rfl⟩:=oc.lg.form;replace k0:=ak k0 b1;replace dP:=k0.cell;replace fu:=k0.frozen;replace k1:=ak k1 b1;replace iA:=k1.cell;replace jT:=k1.frozen;replace aK:=ae aK b1;have c1:=ab oc;have z1:=b1.size;clear oc cE;have ax:=aA w1 (.cells #[.slice Ap s.pk.length cp,.slice As s.sn.length cs,.slice Al s.lg.length cl] 27);have d9:=(ak k0 ax).cell;go_wp2;clear ax d9;generalize hG:w1.alloc (.cells #[.slice Ap s.pk.length cp,.slice As s.sn.length cs,.slice Al s.lg.length cl] 27)=w2 at *;obtain⟨nh,ej,m0,lJ,d8⟩:=gT hG;clear hG;replace k0:=ak k0 nh;replace dP:=k0.cell;replace fu:=k0.frozen;replace k1:=ak k1 nh;replace iA:=k1.cell;replace jT:=k1.frozen;have aL:=c1.out.below nh (am _);have N:afT w w2 (.slice A s.pk.length a) (.slice B s.sn.length b) (.slice C s.lg.length c) w1.heap.size (.slice Ap s.pk.length cp) (.slice As s.sn.length cs) (.slice Al s.lg.length cl) s.pk s.sn s.lg w1.heap.size:=
  ⟨k0,k1,m0,dG.av.wide aL.pk (by omega) (am _),dH.av.wide aL.sn (by omega) (am _),dD.av.wide aL.lg (by omega) (am _),ae aK nh,by omega,by omega,nh.size⟩
 obtain⟨E,ch⟩:∃E,E=w1.heap.size:=⟨_,rfl⟩;rw[<-ch] at N ⊢;have n:=ab N;have bb:=h.below (ae aK nh) bu;have HST:=ab bb;clear ch N aL c1 k0 k1 m0 dP iA lJ fu jT d8 aK nh b1;refine(ajL s HS.out _ _ _ w2 lo hi bb.l (by have:=n.out.bl.size;omega)).mono ?_;rintro e w3 ⟨rfl,b3⟩;have ay:=n.out.below b3;have d1:=ab ay;have bO:=HST.out.below b3 (by have:=n.out.bl.size;omega);have cu:=ab bO;have dP:=ay.k0.cell;have z3:=ay.bl.size;clear ay n HST bb b3;go_wp2;refine(adK s.pk _ w3 lo hi (by omega) (dG.t bO.pk) (by omega) (nS s.pk) (anX _)).mono ?_;rintro e w4 ⟨vi,rfl,oi,b4⟩;clear bO;have bV:=(anX s.pk).ix;have cb:=((oi.deep (avh bV) 0).sl (fa _)).1;have aX:=d1.out.below b4;have c6:=ab aX;have cw:=fC.av.wide (fC.av.below h1 aX.bl c9) (fa bi) (show nD<=w4.heap.size by have:=aX.bl.size;omega);obtain⟨Ai,ci,rfl⟩:=oi.form;clear aX d1 dP oi bV b4;have aP:Hid (afn key s t↔((s.pk++eW key (eM s.pk) (aap key (nS s.pk) t)).length<=20/\eM s.pk+(eW key (eM s.pk) (aap key (nS s.pk) t)).length-1<=99/\dW s<=20/\s.lg.length<9)):=ab Iff.rfl;have b0:Hid (abe key s u t=⟨s.pk++eW key (eM s.pk) (aap key (nS s.pk) t),s.sn++[jF (dW s) key t],s.lg++[⟨u,dW s⟩]⟩):=ab rfl;have cW : -9223372036854775807<=eM s.pk/\eM s.pk<=1000001:=by
  rcases oS s.pk.length with hz|hz
  .rw[pi.1 hz];show _<=(1:Int)/\(1:Int)<=_;omega
  .obtain⟨z,cc,di⟩:=vS hz;have e4:=HS.out.1 z (da cc);obtain⟨es,v,_,hg,_⟩:=(cu.out.l).pk.aq7 z (da cc);unfold cA at hg;unfold eM;rw[di];show _<=z.no+1/\z.no+1<=_;omega
 have cS : -9223372036854775807<=dW s/\dW s<=1000001:=by
  have hm:=ajK (l:=s.lg) (b:=1000001) (by omega) λx hx=>by have:=HS.out.2.2 x hx;omega
  unfold dW;cases d6:s.sn.getLast? with
  |none=>show _<=fG s.lg/\fG s.lg<=_;omega
  |some x=>
   have:=HS.out.2.1 x (wh d6);show _<=max (fG s.lg) (x.no+1)/\max (fG s.lg) (x.no+1)<=_;omega
 clear cu;have cz:(aap key (nS s.pk) t).length<=400:=by
  have a1:=ab9 (key:=key) (ix:=nS s.pk) (pG t) [];have a2:=acT (t:=t) ht.out;show(nO key (nS s.pk) [] (pG t)).length<=_;simp only[ls,jt] at a1;omega
 have a6:=kW (key:=key) (ix:=nS s.pk) ht.out;have af:=ab (alW (β:=β) key HK.out t ht.out (by omega) (nS s.pk) _ _ w4 0 w4.heap.size (am _) cw cb);clear cw cb;revert a6 cz b0 aP af;generalize aap key (nS s.pk) t=pieces;revert cW;generalize eM s.pk=n0;revert cS;generalize dW s=s0;intro cS cW aP b0 cz a6 af;go_wp2;refine af.out.mono ?_;rintro e w5 ⟨vq,rfl,oq,b5⟩;clear af;have cO:=(oq.deep (λx hx=>kX (a6 x hx)) 0).sl (fa _);have bT:=c6.out.below b5;have c4:=bT.up (H':=w5.heap.size) bT.hH (am _);obtain⟨Aq,cq,rfl⟩:=oq.form;have b2:=ab (And.intro cO (And.intro a6 c4));clear c6 cO a6 bT c4 oq b5;go_wp2;go_loopw [11,13] (λnn pp wr=>∃(no:Int) (j:List ByteArray) (o:List Pk) (vp:Value),nn=.int .i64 no/\s.pk++eW key n0 pieces=o++eW key no j/\no=n0+((o.length:Int)-s.pk.length)/\o.length+j.length<=s.pk.length+pieces.length/\s.pk.length<=o.length/\w5.heap.size<=wr.heap.size/\dr wr 0 w5.heap.size j [pp]/\(∀x∈j,aU (bs x))/\afT w wr (.slice A s.pk.length a) (.slice B s.sn.length b) (.slice C s.lg.length c) E vp (.slice As s.sn.length cs) (.slice Al s.lg.length cl) o s.sn s.lg wr.heap.size) (λ_ pp _=>aAE pp)
 case atStart=>exact⟨n0,pieces,s.pk,_,rfl,rfl,by omega,am _,am _,am _,b2.out.1,b2.out.2.1,b2.out.2.2⟩
 case round=>
  clear b2;obtain⟨no,j,o,eb,rfl,ck,c2,d5,et,ds,hr,hp,N⟩:=hrel;obtain⟨Ar,cr,rfl⟩:=hr.form;obtain⟨P,M,rfl⟩:=N.op.form;have bk:=ab ck;have bI:=ab c2;have em : -9223372036854775807<=no/\no<=9000000:=by omega
  have HR:=ab hr;have HP:=ab hp;have n:=ab N;have er:=hr.len_.2.1;have dp:=hr.len_.2.2;unfold maxLen at dp;clear ck c2 hr hp N;by_cases gS:0<j.length
  .have t1:decide (0<j.length)=true:=db gS;have lJ:=n.out.m.cell 0;by_cases h4:j.length<=4
   case' pos=>
    have t2:=db (show(j.length:Int)<=4 by omega);have g2:((j.length:Nat):Int)<=(cr:Int):=by omega
    have q1:=am j.length;have q2:j.take j.length=j.take 4:=by rw[qe (am _),qe h4]
    have q3:j.drop j.length=j.drop 4:=by rw[rm (am _),rm h4]
   case' neg=>
    have t2:=bv (show ¬((j.length:Int)<=4) by omega);have g2:((4:Nat):Int)<=(cr:Int):=by omega
    have q1:4<=j.length:=by omega
    have q2:=@rfl _ (j.take 4);have q3:=@rfl _ (j.drop 4)
   all_goals
    have br:∀x∈j.take 4,aU (bs x):=λx hx=>HP.out x (pu hx);have ce:∀x∈j.drop 4,aU (bs x):=λx hx=>HP.out x (uM hx);have bw:=HR.out.awU q1;rw[q2] at bw;have bx:=HR.out.ar4 q1;rw[q3] at bx;have X:=lX key no gS;have cg:(j.take 4).length<=4:=by rw[fb];omega
    have c3:=aff (key:=key) br;have d3:(fR key (j.take 4)).length<=4:=by rw[acR];exact cg
    have bt:w5.heap.size<=wr.heap.size:=ds;have bL:cA no:=by unfold cA;omega
    have cd:=λ(y:World) (hy:Below wr.heap.size wr y)=>alT (β:=β) no key HK.out (j.take 4) br (by omega) _ y 0 w5.heap.size (bd bt hy.size) (dr.av.below bw hy bt)
    have ao:=ab cd;have ct:=ab bx;have HST:=ab X;have bR:=ab c3;have dT:=ab ce;have dg:Hid ((j.drop 4).length+1<=j.length):=ab (by rw[qc];omega);clear cd bx X c3 bw q2 q3 cg br ce;revert d3;revert bR;revert HST;revert ao;generalize fR key (j.take 4)=L;intro ao HST bR d3;go_wp2;have aJ:=aj lJ;refine aQ 9 [0,1,2,3,4,5,6] [7,8] (h:= ?_);simp only[pick,List.map,mT,nf];repeat(go_big_quiet_step (fail))
    refine gt ?_;clear aJ;apply Exists.intro;apply dB (λv Z=>∃A c,v=.agg #[.int .i64 no,.slice A L.length c]/\aH oL 48 Z wr.heap.size (.slice A L.length c) L)
    .rfl
    .exact λv x y ⟨A,c,e,h⟩ hle=>⟨A,c,e,h.below hle⟩
    .intro x Q Qx r;replace r:=ab r;clear Q;go_wp2;refine(ao.out x.to x.ok).mono ?_;rintro e wy ⟨vy,rfl,oy,bp⟩;obtain⟨Ay,cy,rfl⟩:=oy.form;go_wp2;exact r.out _ _ bp ⟨_,_,rfl,oy.base x.ok.size⟩
    intro u7;apply dB (λv Z=>∃g A c,v=.slice (some ⟨g,0,none⟩) 1 1/\bW Z g 36 #[.int .i64 no,.slice A L.length c]/\aH oL 48 Z wr.heap.size (.slice A L.length c) L)
    .rfl
    .exact λv x y ⟨g,A,c,e,hk,h⟩ hle=>⟨g,A,c,e,ak hk hle,h.below hle⟩
    .intro x Q Qx r;replace r:=ab r;obtain⟨A5,c5,rfl,ho⟩:=Q.1 (by kernel_rfl);go_wp2;have ba:=aA x.to (.cells #[.int .i64 no,.slice A5 L.length c5] 36);exact r.out _ _ ba ⟨_,_,_,rfl,bW.new _ _ _,ho.below ba⟩
    intro u8;refine bY ?_;intro w6 pA xx gI Q;dsimp only[gU] at Q;try rw[gI] at Q
    clear gI xx;obtain⟨⟨g8,A8,c8,rfl,a7,o8⟩, -⟩:=Q;simp only[List.drop];have z6:=pA.size;have O:=n.out.below pA;have c0:=dr.av.below ct.out pA bt;have ad:Hid (OPk w6 wr.heap.size w6.heap.size ⟨no,L⟩ [.int .i64 no,.slice A8 L.length c8]):=ab ⟨_,rfl,bL,o8.acP bR.out (by omega) λg hg=>(o8.at_ hg).2⟩;have b8:=ab a7;have k:=ab O;have dn:=ab c0;have zb:=O.bl.size;clear n pA o8 a7 O c0 ct ao lJ HR;go_wp2_with(at_builtin;refine jq ?_);refine⟨?_,trivial⟩;refine kY OPk.av (by decide) (v:=.slice P o.length M) rfl (.tmp 35) (.tmp 42) 23 rfl ahU ⟨no,L⟩ rfl k.out.op rfl b8.out rfl (by simp[Value.oneCell']) (show wr.heap.size<=w6.heap.size by omega) ad.out (am _) (by omega) (by omega) ?_;intro v9 Y o9 G c7;obtain⟨K,J,rfl⟩:=o9.form;rw[ap,oE] at o9;rw[ap,oE];have m:=k.out.op;have z9:=G.size;have bl:=k.out.gm1;have e0:=k.out.gm2;have q:=dx m G k.out.m (by decide);have dy:Y.cell? ⟨E,0,none⟩=some (.slice P o.length M):=q.cell 0;have e1:=q.frozen 0;have lD:=q.cf 0 (.slice K (o.length+1) J);simp only[de,fi,ga] at lD;have a0:afT w (Y.setCell ⟨E,0,none⟩ (.slice K (o.length+1) J)) _ _ _ E (.slice K (o.length+1) J) (.slice As s.sn.length cs) (.slice Al s.lg.length cl) (o++[⟨no,L⟩]) s.sn s.lg (Y.setCell ⟨E,0,none⟩ (.slice K (o.length+1) J)).heap.size:=
     ⟨eI (dx m G k.out.k0 (by decide)) (p:=⟨E,0,none⟩) _ (by dsimp only;omega),eI (dx m G k.out.k1 (by decide)) (p:=⟨E,0,none⟩) _ (by dsimp only;omega),lD,
      by simp only[dj];exact cL dG.av o9 q (by decide) 0 _,
      by simp only[dj];exact dH.av.wide (cL dH.av (jg m G dH.av k.out.os (by decide)) q (by decide) 0 _) (am _) (by omega),
      by simp only[dj];exact dD.av.wide (cL dD.av (jg m G dD.av k.out.ol (by decide)) q (by decide) 0 _) (am _) (by omega),
      (k.out.bl.trans (G.below k.out.bl.size λi hi hs=>by have:=m.ob hs;omega)).setCell (by dsimp only;omega) _,bl,by simp only[dj];omega,am _⟩
    have d2:dr (Y.setCell ⟨E,0,none⟩ (.slice K (o.length+1) J)) 0 w5.heap.size (j.drop 4) _:=cL dr.av (jg m G dr.av dn.out (by decide)) q (by decide) 0 _;have a8:=ab a0;have df:=ab d2;have dd:Hid (w5.heap.size<=(Y.setCell ⟨E,0,none⟩ (.slice K (o.length+1) J)).heap.size):=ab (by simp only[dj];omega);clear a0 d2 lD m q;go_wp2;go_roundw
    case rel=>exact⟨no+1,j.drop 4,o++[⟨no,L⟩],_,rfl,by rw[bk.out,HST.out,tn];rfl,by have:=bI.out;rw[ap,oE];omega,by have:=dg.out;rw[ap,oE];omega,by rw[ap,oE];omega,dd.out,by have:=df.out;first|(simpa only[tI,tv] using this)|(simp only[be (show ¬cr=4 by omega),Addr.add] at this;simpa using this),dT.out,a8.out⟩
    simp[aAE];omega
  .have hz:j=[]:=pi.1 (by omega);subst hz;have iy:s.pk++eW key n0 pieces=o:=by rw[bk.out,ib,sG]
   have a5:afn key s t↔(o.length<=20/\no-1<=99/\s0<=20/\s.lg.length<9):=by
    refine aP.out.trans ?_;rw[iy];have e:(o.length:Int)=s.pk.length+(eW key n0 pieces).length:=by rw[<-iy,ap];omega
    have:=bI.out;constructor
    .rintro⟨a1,a2,a3,a4⟩;exact⟨a1,by omega,a3,a4⟩
    .rintro⟨a1,a2,a3,a4⟩;exact⟨a1,by omega,a3,a4⟩
   have co:abe key s u t=⟨o,s.sn++[jF s0 key t],s.lg++[⟨u,s0⟩]⟩:=by rw[b0.out,iy]
   have b6:=ab a5;have dV:=ab co;have ew:o.length<=2000000:=by omega
   clear iy a5 co aP b0 bk bI HR HP d5;have cm:=n.out.m.cell;have dP:=n.out.k0.cell;have bL:cA (no-1):=by unfold cA;omega
   unfold cA at bL;rcases(by omega:(o.length<=20/\no-1<=99/\s0<=20/\s.lg.length<9)\/¬o.length<=20\/(o.length<=20/\¬no-1<=99)\/(o.length<=20/\no-1<=99/\¬s0<=20)\/(o.length<=20/\no-1<=99/\s0<=20/\¬s.lg.length<9)) with hc|hc|hc|hc|hc
   .have t3:=bv (show ¬((20:Int)<(o.length:Int)) by omega);have t4:=bv (show ¬(99<no-1) by omega);have t5:=bv (show ¬(20<s0) by omega);have t6:=bv (show ¬((9:Int)<=(s.lg.length:Int)) by omega);have HY:=ab (b6.out.2 hc);clear hc;clear b6;go_wp2;have cn:=cm 1;have HC:=ab (λ(y:World) (hy:Below wr.heap.size wr y)=>apA (β:=β) s0 key HK.out (by unfold cA;omega) t ht.out (by omega) _ y bi nD (by have:=hy.size;have:=n.out.bl.size;omega) (fC.av.below h1 (ae n.out.bl hy) c9));have aJ:=aj cn;refine aQ 7 [0,1,2,3,4] [5,6] (h:= ?_);simp only[pick,List.map,mT,nf];repeat(go_big_quiet_step (fail))
    refine gt ?_;clear aJ;apply Exists.intro;apply dB (λv Z=>∃A c,v=.agg #[.int .i64 s0,.slice A (jF s0 key t).all.length c]/\gq Z wr.heap.size Z.heap.size (jF s0 key t).all [.slice A (jF s0 key t).all.length c])
    .rfl
    .exact λv x y ⟨A,c,e,h⟩ hle=>⟨A,c,e,gq.av.wide (gq.av.below h hle (am _)) (am _) hle.size⟩
    .intro x Q Qx r;replace r:=ab r;clear Q;go_wp2;refine(HC.out x.to x.ok).mono ?_;rintro e wy ⟨vy,rfl,oy,bp⟩;obtain⟨Ay,cy,rfl⟩:=oy.form;go_wp2;exact r.out _ _ bp ⟨_,_,rfl,gq.av.wide oy x.ok.size (am _)⟩
    intro u5;apply dB (λv Z=>∃g A c,v=.slice (some ⟨g,0,none⟩) 1 1/\bW Z g 83 #[.int .i64 s0,.slice A (jF s0 key t).all.length c]/\gq Z wr.heap.size Z.heap.size (jF s0 key t).all [.slice A (jF s0 key t).all.length c])
    .rfl
    .exact λv x y ⟨g,A,c,e,hk,h⟩ hle=>⟨g,A,c,e,ak hk hle,gq.av.wide (gq.av.below h hle (am _)) (am _) hle.size⟩
    .intro x Q Qx r;replace r:=ab r;obtain⟨A5,c5,rfl,ho⟩:=Q.1 (by kernel_rfl);go_wp2;have ba:=aA x.to (.cells #[.int .i64 s0,.slice A5 (jF s0 key t).all.length c5] 83);exact r.out _ _ ba ⟨_,_,_,rfl,bW.new _ _ _,gq.av.wide (gq.av.below ho ba (am _)) (am _) ba.size⟩
    intro u6;refine bY ?_;intro w6 pA xx gI Q;dsimp only[gU] at Q;try rw[gI] at Q
    clear gI xx;obtain⟨⟨g8,A8,c8,rfl,a7,o8⟩, -⟩:=Q;simp only[List.drop];have z6:=pA.size;have O:=n.out.below pA;have ad:Hid (OSn w6 wr.heap.size w6.heap.size (jF s0 key t) [.int .i64 s0,.slice A8 (jF s0 key t).all.length c8]):=ab ⟨_,rfl,by show cA s0;unfold cA;omega,o8⟩;have b8:=ab a7;have k:=ab O;have zb:=O.bl.size;clear n pA o8 a7 O cm cn dP HC;go_wp2_with(at_builtin;refine jq ?_);refine⟨?_,trivial⟩;refine kY OSn.av (by decide) (v:=.slice As s.sn.length cs) rfl (.tmp 72) (.tmp 77) 24 rfl ah2 (jF s0 key t) rfl k.out.os rfl b8.out rfl (by simp[Value.oneCell']) (show wr.heap.size<=w6.heap.size by omega) ad.out (am _) (by omega) (by omega) ?_;intro v9 Y o9 G c7;obtain⟨K,J,rfl⟩:=o9.form;rw[ap,oE] at o9;rw[ap,oE];have m:=k.out.os;have z9:=G.size;have bl:=k.out.gm1;have e0:=k.out.gm2;have q:=dx m G k.out.m (by decide);have dy:Y.cell? ⟨E,1,none⟩=some (.slice As s.sn.length cs):=q.cell 1;have e1:=q.frozen 1;have lD:=q.cf 1 (.slice K (s.sn.length+1) J);simp only[de,fi,ga] at lD;have a0:afT w (Y.setCell ⟨E,1,none⟩ (.slice K (s.sn.length+1) J)) (.slice A s.pk.length a) (.slice B s.sn.length b) (.slice C s.lg.length c) E (.slice P o.length M) (.slice K (s.sn.length+1) J) (.slice Al s.lg.length cl) o (s.sn++[jF s0 key t]) s.lg (Y.setCell ⟨E,1,none⟩ (.slice K (s.sn.length+1) J)).heap.size:=
     ⟨eI (dx m G k.out.k0 (by decide)) (p:=⟨E,1,none⟩) _ (by dsimp only;omega),eI (dx m G k.out.k1 (by decide)) (p:=⟨E,1,none⟩) _ (by dsimp only;omega),lD,
      by simp only[dj];exact dG.av.wide (cL dG.av (jg m G dG.av k.out.op (by decide)) q (by decide) 1 _) (am _) (by omega),
      by simp only[dj];exact cL dH.av o9 q (by decide) 1 _,
      by simp only[dj];exact dD.av.wide (cL dD.av (jg m G dD.av k.out.ol (by decide)) q (by decide) 1 _) (am _) (by omega),
      (k.out.bl.trans (G.below k.out.bl.size λi hi hs=>by have:=m.ob hs;omega)).setCell (by dsimp only;omega) _,bl,by simp only[dj];omega,am _⟩
    have a8:=ab a0;clear a0 m q;have cR:=lD.cell;clear lD o9 G c7 k ad b8;go_wp2_with(at_builtin;refine jq ?_);refine⟨?_,trivial⟩;obtain⟨U,bS⟩:∃U,U=Y.setCell ⟨E,1,none⟩ (.slice K (s.sn.length+1) J):=⟨_,rfl⟩;have bz:U.heap.size=Y.heap.size:=by rw[bS];simp only[dj]
    have e3:w6.heap.size<=U.heap.size:=by rw[bz];exact z9
    rw[<-bS] at a8 cR ⊢;clear bS;generalize hG:U.alloc (.cells #[.int .i64 u,.int .i64 s0] 72)=w11 at *;obtain⟨b9,ei,q0,d7,d4⟩:=gT hG;clear hG;rw[bz] at q0;clear bz;have I:=a8.out.below b9;have m:=I.ol;refine kY (cx.av FHd) (by decide) (v:=.slice Al s.lg.length cl) rfl (.tmp 81) (.tmp 85) 25 rfl anV (⟨u,s0⟩:Hd) rfl m rfl q0 rfl (by simp[Value.oneCell']) (show U.heap.size<=w11.heap.size from b9.size) ⟨rfl,bo.out,by show cA s0;unfold cA;omega⟩ (am _) (by omega) (by omega) ?_;intro ev a9 V R dz;obtain⟨H,F,rfl⟩:=V.form;rw[ap,oE] at V;rw[ap,oE];have S:=dx m R I.m (by decide);have W:=dx m R I.k1 (by decide);have eu:=S.cell;have el:=S.frozen;have ex:=W.cell;have eo:=W.frozen;have al:=jg m R dG.av I.op (by decide);have aa:=jg m R dH.av I.os (by decide);have an:Below w.heap.size w a9:=I.bl.trans (R.below I.bl.size λi hi hs=>by have:=m.ob hs;omega);have ec:=R.size;have ey:=b9.size;have HF:=ab (And.intro al (And.intro aa (And.intro V (And.intro an (And.intro S W)))));clear al aa V an S W m I a8 cR b9 q0 d7 d4 R dz;go_wp2;obtain⟨al,aa,V,an,S,W⟩:=HF.out;have ek:=S.cf 2 (.slice H (s.lg.length+1) F);have aT:=eI W (p:=⟨E,2,none⟩) (.slice H (s.lg.length+1) F) (by dsimp only;omega);have k4:=((aT.cf 0 (.slice P o.length M)).cf 1 (.slice K (s.sn.length+1) J)).cf 2 (.slice H (s.lg.length+1) F);simp only[de,fi,ga] at k4;have bn:=k4.cell;have bm:∀{β:Type} {D:fV β} {T:List TypeId} {y:β} {cs:List Value},dO D T->27∉T->D a9 w.heap.size a9.heap.size y cs->D ((((a9.setCell ⟨E,2,none⟩ (.slice H (s.lg.length+1) F)).setCell ⟨w.heap.size+1,0,none⟩ (.slice P o.length M)).setCell ⟨w.heap.size+1,1,none⟩ (.slice K (s.sn.length+1) J)).setCell ⟨w.heap.size+1,2,none⟩ (.slice H (s.lg.length+1) F)) w.heap.size ((((a9.setCell ⟨E,2,none⟩ (.slice H (s.lg.length+1) F)).setCell ⟨w.heap.size+1,0,none⟩ (.slice P o.length M)).setCell ⟨w.heap.size+1,1,none⟩ (.slice K (s.sn.length+1) J)).setCell ⟨w.heap.size+1,2,none⟩ (.slice H (s.lg.length+1) F)).heap.size y cs:=λ{_ _ _ _ _} hD hT hy=>by
     simp only[dj];exact cL hD (cL hD (cL hD (cL hD hy S hT 2 _) aT hT 0 _) (aT.cf 0 _) hT 1 _) ((aT.cf 0 _).cf 1 _) hT 2 _
    refine oR (v:=.tuple #[.agg #[.slice P o.length M,.slice K (s.sn.length+1) J,.slice H (s.lg.length+1) F],.bool true]) (by simp[results,results24,go_sem,bn]) rfl ⟨_,_,_,true,abe key s u t,rfl, ?_,.inl ⟨rfl,HY.out,rfl⟩,(((an.setCell (by dsimp only;omega) _).setCell (by simp) _).setCell (by simp) _).setCell (by simp) _⟩;rw[dV.out];exact⟨bm dG.av (by decide) (dG.av.wide al (am _) (by omega)),bm dH.av (by decide) (dH.av.wide aa (am _) (by omega)),bm dD.av (by decide) V⟩
   all_goals
    have HN:Hid (¬afn key s t):=ab λh=>by have:=b6.out.1 h;omega
    first|have t3:=db (show(20:Int)<(o.length:Int) by omega)|have t3:=bv (show ¬((20:Int)<(o.length:Int)) by omega)
    first|have t4:=db (show 99<no-1 by omega)|(try have t4:=bv (show ¬(99<no-1) by omega))
    first|have t5:=db (show 20<s0 by omega)|(try have t5:=bv (show ¬(20<s0) by omega))
    try have t6:=db (show(9:Int)<=(s.lg.length:Int) by omega)
    clear hc;clear b6;go_wp2;have d0:=h.below n.out.bl bu;refine(eT s _ _ _ wr lo hi d0.l (by have:=n.out.bl.size;omega) (by omega)).mono ?_;rintro e w7 ⟨v1,v2,v3,rfl,oc,b7⟩;obtain⟨A1,cv,rfl⟩:=oc.pk.form;obtain⟨A2,ca,rfl⟩:=oc.sn.form;obtain⟨A3,cC,rfl⟩:=oc.lg.form;have kr:=ak n.out.k1 b7;have ee:=kr.cell;have e7:=kr.frozen;have z7:=n.out.bl.size;have e2:=ae n.out.bl b7;clear cm dP d0;go_wp2;have k4:=((kr.cf 0 (.slice A1 s.pk.length cv)).cf 1 (.slice A2 s.sn.length ca)).cf 2 (.slice A3 s.lg.length cC);simp only[de,fi,ga] at k4;have bn:=k4.cell;refine oR (v:=.tuple #[.agg #[.slice A1 s.pk.length cv,.slice A2 s.sn.length ca,.slice A3 s.lg.length cC],.bool false]) (by simp[results,results24,go_sem,bn]) rfl ⟨_,_,_,false,s,rfl, ?_,.inr ⟨rfl,HN.out,rfl⟩,((e2.setCell (by simp) _).setCell (by simp) _).setCell (by simp) _⟩;simp only[dj];have e5:=n.out.k1.lt;exact oc.go (λb ez e6=>by
     have bf:b≠w.heap.size+1:=by omega
     rw[qb _ _ _ _ bf,qb _ _ _ _ bf,qb _ _ _ _ bf]) (by omega) (am _)
end
section
variable {β:Bool}
open Go.RowKit
inductive eN:dS->Prop
 |nil:eN ⟨[],[],[]⟩
 |save {s:dS} {b:Int} {t:List Nd}:eN s->b=1\/b=2->jU t->afn 7 s t->eN (abe 7 s b t)
structure WfS (s:dS):Prop where
 pl:s.pk.length<=20
 pn:∀p∈s.pk,(1<=p.no/\p.no<=99)/\p.its.length<=4/\∀x∈p.its,x.b.size<=8
 sl:s.sn.length=s.lg.length
 sn:∀x∈s.sn,(1<=x.no/\x.no<=20)/\x.all.length<=6/\∀y∈x.all,y.p.size<=3/\y.ns.length<=40
 ll:s.lg.length<=9
 lg:∀h∈s.lg,(1<=h.b/\h.b<=2)/\1<=h.s/\h.s<=20
def ld(key:Int):∀(n:Nat) (no:Int) (l:List ByteArray),l.length<=n->∀p∈eW key no l,no<=p.no/\p.no<no+(eW key no l).length/\∃c:List ByteArray,p.its=fR key c/\1<=c.length/\c.length<=4/\∀x∈c,x∈l
 |0,no,l,h,p,a=>by rw[pi.1 (by omega:l.length=0),ib] at a;cases a
 |n+1,no,l,h,p,a=>by
  rcases oS l.length with d|d
  .rw[pi.1 d,ib] at a;cases a
  .rw[lX key no d] at a ⊢;rw[ff];rcases mc.1 a with rfl|a
   .exact⟨ur _,by show no<_;omega,l.take 4,rfl,by rw[fb];omega,by rw[fb];omega,λx b=>pu b⟩
   .obtain⟨k,j,c,e,g,i,f⟩:=ld key n (no+1) (l.drop 4) (by rw[qc];omega) p a;exact⟨by omega,by omega,c,e,g,i,λx b=>uM (f x b)⟩
def al7{l:List Pk}(h:∀p∈l,1<=p.no):1<=eM l:=by
 unfold eM;cases a:l.getLast? with
 |none=>show(1:Int)<=0+1;omega
 |some p=>have:=h p (wh a);show(1:Int)<=p.no+1;omega
def adj:∀(l:List Hd) (a:Int),1<=a->1<=l.foldl (λa h=>max a (h.s+1)) a
 |[],a,ha=>ha
 |x::l,a,ha=>adj l (max a (x.s+1)) (by omega)
def al8(s:dS):1<=dW s:=by
 have a:1<=fG s.lg:=adj s.lg 1 (by omega);unfold dW;cases s.sn.getLast? with
 |none=>exact a
 |some x=>show 1<=max (fG s.lg) (x.no+1);omega
def ajO{s:ByteArray}(h:aU (bs s)):(iN key s).b.size<=8:=by
 show(rF (fw (bs s))).size<=8;rw[<-aM,ahu,aeA h];exact mJ.1
def aai{t:List Nd}(h:jU t):∀x∈t,dE x.b=true:=λx a=>(h.1 x a).2
def WfS.saved{b:Int}{t:List Nd}(h:WfS s)(D:b=1\/b=2)(j:jU t)(A:afn 7 s t):WfS (abe 7 s b t):=by
 obtain⟨r,F,n,E⟩:=A;have i:=al8 s;refine⟨r,λp d=> ?_, ?_,λx a=> ?_, ?_,λy g=> ?_⟩
 .rcases me.1 d with d|d
  .exact h.pn p d
  .obtain⟨k,o,c,m,v,w,B⟩:=ld 7 _ _ _ (am _) p d;have C:=al7 (l:=s.pk) λp d=>(h.pn p d).1.1;refine⟨⟨by omega, ?_⟩,by rw[m,acR];exact w,λx a=> ?_⟩
   .have e:(acU 7 s t).length=(eW 7 (eM s.pk) (aap 7 (nS s.pk) t)).length:=rfl;omega
   .rw[m] at a;obtain⟨q,u,rfl⟩:=acS.1 a;exact ajO (kW (aai j) q (B q u))
 .show(s.sn++[_]).length=(s.lg++[_]).length;rw[ap,ap,h.sl];rfl
 .rcases me.1 a with a|a
  .exact h.sn x a
  .rw[lc.1 a];refine⟨⟨i,n⟩,by show(t.map (fF 7)).length<=6;rw[pe];exact j.2.1,λy g=> ?_⟩;obtain⟨f,z,rfl⟩:=mw.1 g;have k:=j.1 f z;have o:=kR k.1;have m:=ab6 f.b;have v:=(jf k.2).1;exact⟨by show f.p.size<=3;omega,by show((gu f.b).map _).length<=40;rw[pe];omega⟩
 .show(s.lg++[_]).length<=9;rw[ap,oE];omega
 .rcases me.1 g with g|g
  .exact h.lg y g
  .rw[lc.1 g];exact⟨by show 1<=b/\b<=2;omega,i,n⟩
def eN.wf(h:eN s):WfS s:=by
 induction h with
 |nil=>exact⟨fa _,λp a=>(by cases a),rfl,λp a=>(by cases a),fa _,λp a=>(by cases a)⟩
 |save _ e d c b=>exact b.saved e d c
def iO{a:Type}{f:a->Nat}{b:Nat}:∀{l:List a},(∀x∈l,f x<=b)->dU f l<=l.length*(b+1)
 |[],_=>mt (tT _).symm
 |x::l,h=>by
  have g:=h x (by simp);have d:=iO (f:=f) (b:=b) (l:=l) λy c=>h y (by simp[c]);have e:dU f (x::l)=dU f l+1+f x:=by unfold dU;simp only[ff,qP,uw];omega
  rw[e,ff,rz];omega
def WfS.small(h:WfS s):al1 1000000 s:=⟨λp a=>by have:=(h.pn p a).1;omega,λx c=>by have:=(h.sn x c).1;omega,λy b=>by have:=(h.lg y b).2;omega⟩
def ajP:∀l:List Pk,(∀p∈l,p.its.length<=4)->(dc l).length<=l.length*4
 |[],_=>fa _
 |p::l,hl=>by
  have b:=ajP l λq a=>hl q (by simp[a]);have d:=hl p (by simp);show(pB p++dc l).length<=_;have c:(pB p).length=p.its.length:=pe _;rw[ap,ff,rz];omega
def WfS.dc(h:WfS s):(dc s.pk).length<=10000:=by
 have b:=ajP s.pk λp a=>(h.pn p a).2.1;have:=h.pl;omega
def WfS.at6(h:WfS s):lz s<=10000:=by
 have e:dU bPk s.pk<=s.pk.length*(36+1):=iO λp b=>by
  have c:dU bIt p.its<=p.its.length*(8+1):=iO λx a=>(h.pn p b).2.2 x a;have:=(h.pn p b).2.1;show dU bIt p.its<=36;omega
 have f:dU bSn s.sn<=s.sn.length*(264+1):=iO λx a=>by
  have c:dU bLs x.all<=x.all.length*(43+1):=iO λy d=>by
   have:=(h.sn x a).2.2 y d;show y.p.size+y.ns.length<=43;omega
  have:=(h.sn x a).2.1;show dU bLs x.all<=264;omega
 have:=h.pl;have:=h.sl;have:=h.ll;unfold lz;omega
end
section
variable {β:Bool}
open Go.RowKit
def pkd(p:Pk):iw:=(p.no,p.its.map λx=>(x.n,x.b))
def ju(l:List Pk):List iw:=l.map pkd
open Classical in
noncomputable def iP(l:List ByteArray):ByteArray×Bool:=if dE (rF (ir l))=true/\gu (rF (ir l))=l then(rF (ir l),true) else(⟨#[]⟩,false)
def al9(key:Int)(l:List iw)(ns:List Int):Prop:=∀n∈ns,(cN key l n).2=true
noncomputable def nT(key:Int)(l:List iw)(ns:List Int):List ByteArray:=ns.map λn=>(cN key l n).1
open Classical in
noncomputable def iQ(key:Int)(l:List iw)(x:Ls):Option Nd:=if al9 key l x.ns/\(iP (nT key l x.ns)).2=true then some ⟨x.p,(iP (nT key l x.ns)).1⟩ else none
noncomputable def fD(key:Int)(l:List iw)(xs:List Ls):List Nd:=xs.filterMap (iQ key l)
def aaq(g f:ByteArray):Bool:=(bs g++[47]).isPrefixOf (bs f)
def agH(t:List Nd):Prop:=t.length<=6/\∀i x,t[i]?=some x->afR x/\(∀y,0<i->t[i-1]?=some y->Op.bytesLess y.p.toList x.p.toList=true)/\∀k y,k<i->t[k]?=some y->aaq y.p x.p=false
open Classical in
noncomputable def gb(key:Int)(l:List iw)(xs:List Ls):Option (List Nd):=if(∀x∈xs,(iQ key l x).isSome=true)/\agH (fD key l xs) then some (fD key l xs) else none
noncomputable def adk(key:Int)(s:dS)(no:Int):Option (List Nd):=match s.sn.find? (λx=>x.no ==no) with
 |some x=>gb key (ju s.pk) x.all
 |none=>none
def mO{key nm:Int}:∀{l:List iw},(cN key l nm).2=true↔∃p∈l,(gX key p.2 nm).2=true
 |[]=>by simp[cN]
 |p::l=>by
  show(if(gX key p.2 nm).2=true then((gX key p.2 nm).1,true) else cN key l nm:ByteArray×Bool).2=true↔_;by_cases h:(gX key p.2 nm).2=true
  .rw[dl h];exact⟨λ_=>⟨p,by simp,h⟩,λ_=>rfl⟩
  .rw[be h,mO];constructor
   .rintro⟨q,a,b⟩;exact⟨q,by simp[a],b⟩
   .rintro⟨q,a,b⟩;rcases mc.1 a with rfl|a
    .exact absurd b h
    .exact⟨q,a,b⟩
def afo{nm:Int}:∀{l:List (Int×ByteArray)} {k:Nat} {x:Int×ByteArray},ed nm l=k->l[k]?=some x->x.1=nm
 |[],k,x,_,h=>by simp at h
 |y::l,k,x,h,hx=>by
  have h:(if y.1=nm then 0 else let j:=ed nm l;if j<0 then -1 else j+1:Int)=k:=h;by_cases a:y.1=nm
  .rw[dl a] at h;obtain rfl:k=0:=by omega
   simp at hx;subst hx;exact a
  .rw[be a] at h;by_cases b:ed nm l<0
   .have h:(if ed nm l<0 then -1 else ed nm l+1:Int)=k:=h;rw[dl b] at h;omega
   .have h:(if ed nm l<0 then -1 else ed nm l+1:Int)=k:=h;rw[be b] at h;obtain⟨m,rfl⟩:∃m,k=m+1:=⟨k-1,by omega⟩;exact afo (l:=l) (k:=m) (by omega) (by simpa using hx)
def an0{nm : Int}{l:List (Int×ByteArray)}{x:Int×ByteArray}(h:ed nm l=k)(a:l[k]?=some x):gX key l nm=fA key x:=by
 unfold gX;rw[h,show((k:Nat):Int).toNat=k from rfl,a];show(if((k:Nat):Int)<0 then _ else _)=_;rw[be (by omega)]
def apC{nm : Int}{l:List (Int×ByteArray)}(h:ed nm l=-1):gX key l nm=(⟨#[]⟩,false):=by
 unfold gX;rw[h];split
 .rw[dl (by omega)]
 .rfl
def afp{nm : Int}{l:List (Int×ByteArray)}(h:(gX key l nm).2=true):∃(k:Nat) (x:Int×ByteArray),ed nm l=k/\l[k]?=some x/\x.1=nm/\gX key l nm=fA key x:=by
 rcases abW nm l with a|⟨k,x,a,b⟩
 .rw[apC a] at h;cases h
 .exact⟨k,x,a,b,afo a b,an0 a b⟩
def ama{x:Int×ByteArray}(h:(fA key x).2=true):aU (bs (fA key x).1)/\bA key (bs (fA key x).1)=x.1:=by
 unfold fA at h ⊢;split
 .rename_i a;exact⟨agp a.1,a.2⟩
 .rename_i a;rw[be a] at h;cases h
def amb{nm : Int}{l:List (Int×ByteArray)}(h:(gX key l nm).2=true):aU (bs (gX key l nm).1)/\bA key (bs (gX key l nm).1)=nm:=by
 obtain⟨k,x,d,c,b,a⟩:=afp h;rw[a] at h ⊢;have:=ama h;exact⟨this.1,this.2.trans b⟩
def lh{key nm:Int}:∀{l:List iw},(cN key l nm).2=true->aU (bs (cN key l nm).1)/\bA key (bs (cN key l nm).1)=nm
 |[],h=>by cases h
 |p::l,h=>by
  have e:cN key (p::l) nm=if(gX key p.2 nm).2=true then((gX key p.2 nm).1,true) else cN key l nm:=rfl
  rw[e] at h ⊢;by_cases a:(gX key p.2 nm).2=true
  .rw[dl a];exact amb a
  .rw[be a] at h ⊢;exact lh h
def asz{x y k m r:Int}(g:r+999999999989*k=15*x+55433)(l:r+999999999989*m=15*y+55433)(j:0<=x/\x<282429536481)(i:0<=y/\y<282429536481):x=y:=by
 have b:15*(x-y)=999999999989*(k-m):=by
  rw[Int.mul_sub 999999999989];generalize 999999999989*k=A at *;generalize 999999999989*m=B at *;omega
 clear g l;generalize k-m=d at *;have f:x-y<282429536481/\ -282429536481<x-y:=by clear b;omega
 have a:x-y=0->x=y:=by clear b;omega
 clear j i;generalize x-y=z at *;have e:d<5:=by
  refine Int.lt_of_not_ge λh=> ?_;have:=uQ h (show(0:Int)<=999999999989 by decide);rw[<-b] at this;clear b;omega
 have c : -5<d:=by
  refine Int.lt_of_not_ge λh=> ?_;have:=uQ h (show(0:Int)<=999999999989 by decide);rw[<-b] at this;clear b;omega
 have:d=-4\/d=-3\/d=-2\/d=-1\/d=0\/d=1\/d=2\/d=3\/d=4:=by clear b f a;omega
 rcases this with rfl|rfl|rfl|rfl|rfl|rfl|rfl|rfl|rfl<;>(first|(exact a (by omega))|(exfalso;clear e c f a;omega))
def asA{x y:Int}(b:0<=x/\x<282429536481)(d:0<=y/\y<282429536481)(h:(15*x+55433) % 999999999989=(15*y+55433) % 999999999989):x=y:=by
 have a:=vW (15*x+55433) 999999999989;have c:=vW (15*y+55433) 999999999989;rw[h] at a;exact asz a c b d
def abf{a b:List Nat}(c:aU a)(d:aU b)(h:bA 7 a=bA 7 b):a=b:=by
 have i:=abI c;have f:=abI d;have e:∀l,bA 7 l=(15*(code l:Int)+55433) % 999999999989:=λl=>by
  unfold bA;rw[show(code l:Int)*(2*7+1)+7*7919=15*(code l:Int)+55433 by clear h i f;generalize (code l:Int)=z;omega]
 rw[e,e] at h;have j:(code a:Int)<282429536481:=by clear h e;omega
 have g:(code b:Int)<282429536481:=by clear h e;omega
 have k:(code a:Int)=code b:=asA ⟨Int.natCast_nonneg _,j⟩ ⟨Int.natCast_nonneg _,g⟩ h;refine aoS c.2 d.2 ?_;show code a=code b;exact Int.ofNat_inj.1 k
def apD{nm:Int}{l : List iw}(h:(cN 7 l nm).2=true)(e:(cN 7 l' nm).2=true):(cN 7 l nm).1=(cN 7 l' nm).1:=by
 obtain⟨a,b⟩:=lh h;obtain⟨c,d⟩:=lh e;exact kL (abf a c (b.trans d.symm))
def apE{l : List iw}(c:∀nm,(cN 7 l' nm).2=true->(cN 7 l nm).2=true){b:List Int}(h:al9 7 l' b):al9 7 l b/\nT 7 l b=nT 7 l' b:=
 ⟨λn a=>c n (h n a),uS λn a=>apD (c n (h n a)) (h n a)⟩
def amc{l : List iw}(d:∀nm,(cN 7 l' nm).2=true->(cN 7 l nm).2=true){x:Ls}{y:Nd}(h:iQ 7 l' x=some y):iQ 7 l x=some y:=by
 unfold iQ at h ⊢;split at h
 .rename_i b;obtain⟨c,a⟩:=apE d b.1;rw[dl ⟨c,by rw[a];exact b.2⟩,a];exact h
 .cases h
def adl{l l':List iw}(e:∀nm,(cN 7 l' nm).2=true->(cN 7 l nm).2=true):∀{xs:List Ls},(∀x∈xs,(iQ 7 l' x).isSome=true)->(∀x∈xs,(iQ 7 l x).isSome=true)/\fD 7 l xs=fD 7 l' xs
 |[],_=>⟨λx g=>(by cases g),rfl⟩
 |x::xs,h=>by
  obtain⟨y,d⟩:=ry.1 (h x (by simp));have b:=amc e d;obtain⟨f,c⟩:=adl e (xs:=xs) λz a=>h z (by simp[a]);refine⟨λz a=> ?_, ?_⟩
  .rcases mc.1 a with rfl|a
   .rw[b];rfl
   .exact f z a
  .unfold fD at c ⊢;rw[uT,uT,d,b,c]
def amd{l : List iw}(d:∀nm,(cN 7 l' nm).2=true->(cN 7 l nm).2=true){xs:List Ls}{t:List Nd}(h:gb 7 l' xs=some t):gb 7 l xs=some t:=by
 unfold gb at h ⊢;split at h
 .rename_i b;obtain⟨c,a⟩:=adl d b.1;rw[dl ⟨c,by rw[a];exact b.2⟩,a];exact h
 .cases h
def afq  :gJ key x↔(fA key (x.n,x.b)).2=true:=by
 have e:∀s,(eZ s).2=true↔dF (bs s)=some (bs (eZ s).1):=λs=>by
  unfold eZ dF;rw[ahw];by_cases h:aU (tD (bs s))/\fw (tD (bs s))=bs s
  .rw[dl h,dl h];simp only[uB];rw[ahw]
  .rw[be h,be h];simp
 unfold gJ fA;constructor
 .rintro⟨p,c,f⟩;have d:(eZ x.b).2=true:=by
   unfold eZ;rw[ahw];unfold dF at c;split at c
   .rename_i b;rw[dl b]
   .cases c
  have a:=(e x.b).1 d;rw[c] at a;have a:=ef a;rw[dl ⟨d,by rw[<-a];exact f⟩]
 .intro h;split at h
  .rename_i b;exact⟨_,(e x.b).1 b.1,b.2⟩
  .cases h
def asB{s:ByteArray}(h:aU (bs s)):gJ key (iN key s):=⟨bs s,by show dF (bs (rF (fw (bs s))))=_;rw[ahu,aiG h],rfl⟩
def an1(p:Pk)(i:Nat):(pkd p).2[i]?=(p.its[i]?).map λx=>(x.n,x.b):=by show(p.its.map _)[i]?=_;rw[qE]
def afr{nm : Int}{p:Pk}(c:∀x∈p.its,gJ key x)(h:ed nm (pkd p).2=k):(gX key (pkd p).2 nm).2=true:=by
 rcases abW nm (pkd p).2 with b|⟨e,x,b,a⟩
 .omega
 .rw[an0 b a];rw[an1] at a;obtain⟨y,d,rfl⟩:=gE.1 a;exact afq.1 (c y (da d))
def ajQ{nm:Int}:∀{l a:List (Int×ByteArray)},l.map (·.1)=a.map (·.1)->ed nm l=ed nm a
 |[],[],_=>rfl
 |[],_::_,h=>by simp at h
 |_::_,[],h=>by simp at h
 |x::l,y::a,h=>by
  simp only[qP,qi] at h;show(if x.1=nm then 0 else let j:=ed nm l;if j<0 then -1 else j+1:Int)=(if y.1=nm then 0 else let j:=ed nm a;if j<0 then -1 else j+1:Int);rw[h.1,ajQ h.2]
def apF{β : Type}(g:Y->β)(f:Y->Y)(c:∀x,g (f x)=g x)(l:List Y)(i:Nat):(sj l i f).map g=l.map g:=by
 unfold sj;split
 .rename_i x b;apply un;intro j;rw[qE,qE];by_cases a:i=j
  .subst a;rw[rj (aB b),b];simp[c]
  .rw[rG a]
 .rfl
def avp(m:∀p∈s.pk,∀x∈p.its,gJ 7 x)(L:lG)(nm:Int)(h:(cN 7 (ju (dA s L).pk) nm).2=true):(cN 7 (ju s.pk) nm).2=true:=by
 have same:(dA s L).pk=s.pk->(cN 7 (ju s.pk) nm).2=true:=λe=>by rw[e] at h;exact h
 by_cases l:L.k=1
 .rw[pH l] at h;obtain⟨p,c,f⟩:=mO.1 h;refine mO.2 ⟨p, ?_,f⟩;obtain⟨q,g,rfl⟩:=mw.1 c;exact tL ((qQ.1 g).1)
 by_cases d:L.k=2
 .by_cases b:0<=L.n/\L.n<=s.lg.length
  .exact same (by rw[nP d b])
  .exact same (by rw[nQ d b])
 by_cases j:L.k=3
 .rw[abb j] at h;obtain⟨p,c,f⟩:=mO.1 h;obtain⟨q,g,rfl⟩:=mw.1 c;obtain⟨r,a,rfl⟩:=mw.1 g;obtain⟨k,x,n, -, -, -⟩:=afp f;refine mO.2 ⟨pkd r,tL a,afr (m r a) (k:=k) ?_⟩;rw[<-n];refine ajQ ?_;show(r.its.map _).map _=((jE L r).its.map _).map _;rw[tU,tU];unfold jE;split
  .exact(apF (λx:It=>x.n) (λx=>(⟨x.n,L.b⟩:It)) (λ_=>rfl) r.its L.m.toNat).symm
  .rfl
 by_cases i:L.k=4
 .by_cases b:0<=L.n/\L.n<s.lg.length
  .exact same (by rw[abc i b])
  .exact same (by rw[nR i b])
 exact same (by rw[abd l d j i])
def eN.items(h:eN s):∀p∈s.pk,∀x∈p.its,gJ 7 x:=by
 induction h with
 |nil=>exact λp a=>(by cases a)
 |save _ l d k i=>
  intro p a x b;rcases me.1 a with a|a
  .exact i p a x b
  .obtain⟨n,j,c,e,m,o,f⟩:=ld 7 _ _ _ (am _) p a;rw[e] at b;obtain⟨q,g,rfl⟩:=acS.1 b;exact asB (kW (aai d) q (f q g))
def adm{e:Type}(q:e->Bool)(f:Int->Bool)(a:e->Int)(n:Int)(i:∀x,q x=f (a x)):∀{l:List e} {x:e},(l.filter q).find? (λx=>a x ==n)=some x->l.find? (λx=>a x ==n)=some x
 |[],x,h=>by simp at h
 |y::l,x,h=>by
  rw[sF];by_cases d:a y=n
  .rw[show(a y ==n)=true from mp.2 d];by_cases c:q y=true
   .rw[rO,dl c,sF,show(a y ==n)=true from mp.2 d] at h;exact h
   .exfalso;have j:=List.mem_of_find?_eq_some h;have g:=List.find?_some h;have b:=(qQ.1 j).2;rw[i] at b c;rw[mp.1 g] at b;rw[d] at c;exact c b
  .rw[show(a y ==n)=false from dq.2 d];refine adm q f a n i (l:=l) ?_;by_cases c:q y=true
   .rw[rO,dl c,sF,show(a y ==n)=false from dq.2 d] at h;exact h
   .rw[rO,be c] at h;exact h
def ayH(L:lG){x:Sn}(h:(dA s L).sn.find? (λx=>x.no ==key)=some x):s.sn.find? (λx=>x.no ==key)=some x:=by
 by_cases d:L.k=1
 .rw[pH d] at h;exact h
 by_cases b:L.k=2
 .by_cases a:0<=L.n/\L.n<=s.lg.length
  .rw[nP b a] at h;exact adm (λx:Sn=>!((s.lg.drop L.n.toNat).any λh=>h.s ==x.no)) (λm=>!((s.lg.drop L.n.toNat).any λh=>h.s ==m)) (λx:Sn=>x.no) key (λ_=>rfl) h
  .rw[nQ b a] at h;exact h
 by_cases e:L.k=3
 .rw[abb e] at h;exact h
 by_cases c:L.k=4
 .by_cases a:0<=L.n/\L.n<s.lg.length
  .rw[abc c a] at h;exact h
  .rw[nR c a] at h;exact h
 rw[abd d b e c] at h;exact h
def AK(h:eN s)(L:lG){t:List Nd}(a:adk 7 (dA s L) key=some t):adk 7 s key=some t:=by
 unfold adk at a ⊢;split at a
 .rename_i x b;rw[ayH L b];exact amd (avp h.items L) a
 .cases a
end
section
variable {β:Bool}
open Go.RowKit
def mF(key:Int)(u:1<=key/\key<=99)(p:Pk)(v:Value)(w:World)(lo hi:Nat)(bu:hi<=w.heap.size)(h:iM w lo hi p.its [v])(b:Bool)(C:b=true↔lK key p) :
  Calls (ah β) 8 #[.int .i64 key,.agg #[.int .i64 p.no,v]] w λe w'=>e=.returned (.bool b)/\Below w.heap.size w w':=by
 replace C:=ab C;obtain⟨A,c,rfl⟩:=h.form;obtain⟨_,hc,hx⟩:=h.len_;unfold maxLen at hx;go_enter qF8,ntmps8;go_wp2;generalize F:w.alloc (.cells #[.int .i64 p.no,.slice A p.its.length c] 36)=w0 at *;obtain⟨H,iv,k0,dP,fu⟩:=gT F;clear F;have h0:=iM.av.below h H bu;have z0:=H.size;go_loopw [12] (λi wr=>∃k:Nat,k<=p.its.length/\i=.int .i64 k/\adI key (p.its.take k)/\Below w0.heap.size w0 wr) (λi _=>p.its.length-(intOf i).toNat)
 case atStart=>exact⟨0,fa _,rfl,ajv key,gn _ _⟩
 case round=>
  obtain⟨k,hk,rfl,T,m⟩:=hrel;replace T:=ab T;have s:=ak k0 m;clear k0 dP fu;have zr:=m.size;by_cases W:k<p.its.length
  .obtain⟨x,B⟩:=ar W;have X:=iM.av.below h0 m (by omega);obtain⟨J,a1,rfl,_,_,M,cn,cb⟩:=ae6 X B;replace B:=ab B;have HS:=ab M.2;have o:=afq (key:=key) (x:=x);replace o:=ab o;go_wp2;generalize F:wr.alloc (.cells #[.int .i64 x.n,.string x.b] 48)=wa at *;obtain⟨O,a3,S,Z,Y⟩:=gT F;clear F;refine(anz key (x.n,x.b) u HS.out wa).mono ?_;rintro e w1 ⟨rfl,J⟩;have H1:=iM.av.below X (ae O J) (by omega);have k1:=ak s (ae O J);replace S:=ak S J;replace Z:=S.cell;replace Y:=S.frozen;have d:=ae m (ae O J);have D:=k1.cell 1;have r:=Z 0;obtain⟨q,a⟩:∃q,q=(fA key (x.n,x.b)).2:=⟨_,rfl⟩;rw[<-a] at o ⊢;generalize (fA key (x.n,x.b)).1=pc;clear a s k1 cn cb O M X;cases q with
   |false=>
    have U:b=false:=by
     rw[<-lP,C.out];intro R;have:=o.out.1 (R.2.2.2.1 x (da B.out));cases this
    have z:=ab U;clear U;go_wp2;have P:=aj D;have N:=aj r;refine aG (by kernel_rfl) (by kernel_rfl) ?_;repeat(go_big_quiet_step (fail))
    refine gt ?_;intro V t;have a:=aN t;clear t P N;go_wp2;go_ret;exact⟨aC z.out.symm,ae H (ae d a)⟩
   |true=>
    have g:=o.out.2 rfl;have n:=ab g;clear g;rcases oS k with I|I
    .subst I;have Q:=aju B.out n.out;have HK:=ab Q;clear Q;go_wp2;have P:=aj D;have N:=aj r;refine aG (by kernel_rfl) (by kernel_rfl) ?_;repeat(go_big_quiet_step (fail))
     refine gt ?_;intro V t;have a:=aN t;go_wp2;go_roundw
     case rel=>first|exact⟨1,by omega,by go_num,HK.out,ae d a⟩|((repeat apply Exists.intro);refine⟨?_,rfl⟩;exact⟨1,by omega,by go_num,HK.out,ae d a⟩)
     simp[intOf];omega
    .obtain⟨j,rfl⟩:∃j,k=j+1:=⟨k-1,by omega⟩;have e1:((j+1:Nat):Int)-1=(j:Int):=by omega
     obtain⟨y,G⟩:=ar (l:=p.its) (k:=j) (by omega);obtain⟨b2,mE,K,_,_,a2,L,a0⟩:=ae6 H1 G;simp only[jp,qk,qm] at K;obtain⟨rfl,rfl⟩:=K;replace G:=ab G;by_cases E:y.n<x.n
     .have u1:=bv (show ¬(x.n<=y.n) by omega);have Q:=anP T.out G.out B.out n.out E;have HK:=ab Q;go_wp2;have P:=aj D;have N:=aj r;have bm:=aj L;refine aG (by kernel_rfl) (by kernel_rfl) ?_;repeat(go_big_quiet_step (fail))
      refine gt ?_;intro V t;have a:=aN t;go_wp2;go_roundw
      case rel=>first|exact⟨j+1+1,by omega,by go_num,HK.out,ae d a⟩|((repeat apply Exists.intro);refine⟨?_,rfl⟩;exact⟨j+1+1,by omega,by go_num,HK.out,ae d a⟩)
      simp[intOf];omega
     .have u1:=db (show x.n<=y.n by omega);have U:b=false:=by
       rw[<-lP,C.out];exact λR=>anQ G.out B.out E ⟨R.2.2.2.1,R.2.2.2.2⟩
      have z:=ab U;go_wp2;have P:=aj D;have N:=aj r;have bm:=aj L;refine aG (by kernel_rfl) (by kernel_rfl) ?_;repeat(go_big_quiet_step (fail))
      refine gt ?_;intro V t;have a:=aN t;go_wp2;go_ret;exact⟨aC z.out.symm,ae H (ae d a)⟩
  .obtain rfl:k=p.its.length:=by omega
   have f0:=s.cell 0;have D:=s.cell 1;have g:=T.out;rw[ge] at g;have n:=ab g;go_wp2;refine(adT (β:=β) key wr true (by simp;omega)).mono ?_;rintro e w1 ⟨rfl,rfl⟩;have fin:∀q:Bool,(q=true↔(1<=p.no/\p.no<=99)/\1<=(p.its.length:Int)/\(p.its.length:Int)<=4)->b=q:=λq a=>by
    rw[qj,C.out,a];exact⟨λh=>⟨h.1,by have:=h.2.2.1;omega⟩,λh=>⟨h.1,u,by have:=h.2;omega,n.out.1,n.out.2⟩⟩
   replace fin:=ab fin;have f:=ae H m;by_cases t1:1<=p.no
   .by_cases t2:p.no<=99
    .by_cases t3:1<=(p.its.length:Int)
     .by_cases t4:(p.its.length:Int)<=4
      .go_wp2;go_ret;exact⟨aC (fin.out _ (by simp;omega)).symm,f⟩
      .go_wp2;go_ret;exact⟨aC (fin.out _ (by simp;omega)).symm,f⟩
     .go_wp2;go_ret;exact⟨aC (fin.out _ (by simp;omega)).symm,f⟩
    .go_wp2;go_ret;exact⟨aC (fin.out _ (by simp;omega)).symm,f⟩
   .go_wp2;go_ret;exact⟨aC (fin.out _ (by simp;omega)).symm,f⟩
end
section
variable {β:Bool}
open Go.RowKit Go.Shelf
attribute [local go_sem] Oper.semAt_some
def KpB(n₀ Bs:Nat)(A B:World):Prop:=Below n₀ A B/\B.heap[Bs]?=A.heap[Bs]?
def KpB.refl{n₀ : Nat}{A:World}:KpB n₀ Z A A:=⟨gn _ _,rfl⟩
def KpB.t{n₀ : Nat}{A B C:World}(h:KpB n₀ Z A B)(k:KpB n₀ Z B C):KpB n₀ Z A C:=⟨h.1.trans k.1,k.2.trans h.2⟩
end
section
variable {β:Bool}
open Go.RowKit
def ajR(x:Hd):Prop:=(1<=x.b/\x.b<=2)/\1<=x.s/\x.s<=20
def nY(l:List Hd):Prop:=l.length<=9/\∀x∈l,ajR x
def ame(x:Hd)(f:ajR x)(w:World):Calls (ah β) 43 #[.agg #[.int .i64 x.b,.int .i64 x.s]] w λe b=>e=.returned (.bool true)/\Below w.heap.size w b:=by
 obtain⟨⟨k,j⟩,d,c⟩:=f;have i:decide (1<=x.s)=true:=db d;have l:decide (x.s<=20)=true:=db c;by_cases e:x.b=1
 .have a:(x.b ==1)=true:=mp.2 e;go_enter xA,ntmps43;go_wp2;go_ret;exact⟨rfl,by repeat(first|exact gn _ _|refine Below.alloc ?_ (by simp) _)⟩
 .have a:(x.b ==1)=false:=dq.2 e;have g:(x.b ==2)=true:=mp.2 (by omega);go_enter xA,ntmps43;go_wp2;go_ret;exact⟨rfl,by repeat(first|exact gn _ _|refine Below.alloc ?_ (by simp) _)⟩
def apH(x:Hd)(d:ajR x)(w:World):Calls (ah β) 42 #[.agg #[.int .i64 x.b,.int .i64 x.s]] w λe b=>e=.returned (.bool false)/\Below w.heap.size w b:=by
 go_enter xB,ntmps42;go_wp2;refine(ame x d _).mono ?_;rintro e f ⟨rfl,a⟩;have c:=(aA w (.cells #[.int .i64 x.b,.int .i64 x.s] 72));go_wp2;go_ret;exact⟨rfl,ae c a⟩
def avq:auF (β:=β) 42:=ax1 xB (by kernel_rfl) rfl
def ah5(xs:List Hd)(d:∀x∈xs,ajR x)(v:Value)(w:World)(t hi:Nat)(h:lN w t hi xs [v])(r:hi<=w.heap.size) :
  Calls (ah β) 67 #[v,.func (.func 42) #[] #[]] w λe l=>e=.returned (.int .i64 (-1))/\Below w.heap.size w l:=by
 obtain⟨A,c,rfl⟩:=cG.form h;obtain⟨_,D,s⟩:=h.len_;unfold maxLen at s;replace d:=ab d;go_enter yR,ntmps67;go_wp2;go_loopw [8] (λj wr=>∃k:Nat,k<=xs.length/\j=.int .i64 k/\Below w.heap.size w wr) (λj _=>xs.length-(intOf j).toNat)
 case atStart=>exact⟨0,fa _,rfl,gn _ _⟩
 case round=>
  obtain⟨k,C,rfl,a⟩:=hrel;by_cases i:k<xs.length
  .obtain⟨x,m⟩:=ar i;obtain⟨b,g,E,o,_,z,_,⟨rfl,n⟩,f⟩:=(lN.loc.below h a r).at_ m;subst o;have q:wr.cell? ⟨b,g+k*2,none⟩=some (.int .i64 x.b):=by simpa using f 0 _ rfl
   have u:wr.cell? ⟨b,g+k*2+1,none⟩=some (.int .i64 x.s):=by simpa using f 1 _ rfl
   have y:=ab (d.out x (da m));have B:=avq (β:=β) (#[.agg #[.int .i64 x.b,.int .i64 x.s]]++#[]) wr;go_wp2;refine(apH x y.out wr).mono ?_;rintro e l ⟨rfl,p⟩;go_wp2;go_roundw
   case rel=>exact⟨k+1,by omega,by go_num,ae a p⟩
   simp[intOf];omega
  .obtain rfl:k=xs.length:=by omega
   go_wp2;go_ret;exact⟨rfl,a⟩
def adL(xs:List Hd)(a:∀x∈xs,ajR x)(v:Value)(w:World)(b hi:Nat)(h:lN w b hi xs [v])(g:hi<=w.heap.size) :
  Calls (ah β) 41 #[v,.func (.func 42) #[] #[]] w λe f=>e=.returned (.bool false)/\Below w.heap.size w f:=by
 obtain⟨A,c,rfl⟩:=cG.form h;replace a:=ab a;go_enter zk,ntmps41;go_wp2;refine(ah5 xs a.out _ w b hi h g).mono ?_;rintro e i ⟨rfl,d⟩;go_wp2;go_ret;exact⟨rfl,d⟩
def afI(xs:List Hd)(b:nY xs)(v:Value)(w:World)(d hi:Nat)(h:lN w d hi xs [v])(i:hi<=w.heap.size) :
  Calls (ah β) 21 #[v] w λe g=>e=.returned (.bool true)/\Below w.heap.size w g:=by
 obtain⟨A,c,rfl⟩:=cG.form h;obtain⟨k,a⟩:=b;have l:=db (show(xs.length:Int)<=9 by omega);replace a:=ab a;go_enter zH,ntmps21;go_wp2;refine(adL xs a.out _ w d hi h i).mono ?_;rintro e j ⟨rfl,f⟩;go_wp2;go_ret;exact⟨rfl,f⟩
end
section
variable {β:Bool}
open Go.RowKit
def lY(l:List Int)(g p s hi:Nat)(w:World)(v:Rd w s hi g l p)(x:p<=100000) :
  Calls (ah β) 26 #[.pointer (some ⟨g,0,none⟩)] w (apn w s hi g l p):=by
 go_enter zD,ntmps26;go_wp2;refine(cT _ _ _ _ _ _ 40 v (by omega)).mono ?_;rintro e a ⟨m,rfl,⟨_,y⟩,q,o⟩;by_cases r:m=0
 .have t:(m ==0)=true:=mp.2 r;go_wp2;have rl:dr (a.alloc (.cells #[.string ⟨#[]⟩,.string ⟨#[102]⟩,.string ⟨#[97,47]⟩,.string ⟨#[97,98]⟩,.string ⟨#[97,47,98,47,99]⟩,.string ⟨#[47,97]⟩] 9)) a.heap.size (a.alloc (.cells #[.string ⟨#[]⟩,.string ⟨#[102]⟩,.string ⟨#[97,47]⟩,.string ⟨#[97,98]⟩,.string ⟨#[97,47,98,47,99]⟩,.string ⟨#[47,97]⟩] 9)).heap.size [⟨#[]⟩,⟨#[102]⟩,⟨#[97,47]⟩,⟨#[97,98]⟩,⟨#[97,47,98,47,99]⟩,⟨#[47,97]⟩] [.slice (some ⟨a.heap.size,0,none⟩) 6 6]:=
   (aH.deep (F:=gZ) (abX (F:=gZ) (bW.new a 9 #[.string ⟨#[]⟩,.string ⟨#[102]⟩,.string ⟨#[97,47]⟩,.string ⟨#[97,98]⟩,.string ⟨#[97,47,98,47,99]⟩,.string ⟨#[47,97]⟩]) rfl (am _) rfl (by simp[maxLen])) (nK (by decide)) a.heap.size).sl (am _)
  have n:=(q).alloc (.cells #[.string ⟨#[]⟩,.string ⟨#[102]⟩,.string ⟨#[97,47]⟩,.string ⟨#[97,98]⟩,.string ⟨#[97,47,98,47,99]⟩,.string ⟨#[47,97]⟩] 9);have j:=(o).alloc (.cells #[.string ⟨#[]⟩,.string ⟨#[102]⟩,.string ⟨#[97,47]⟩,.string ⟨#[97,98]⟩,.string ⟨#[97,47,98,47,99]⟩,.string ⟨#[47,97]⟩] 9);generalize (a).alloc (.cells #[.string ⟨#[]⟩,.string ⟨#[102]⟩,.string ⟨#[97,47]⟩,.string ⟨#[97,98]⟩,.string ⟨#[97,47,98,47,99]⟩,.string ⟨#[47,97]⟩] 9)=w3 at *;refine(ah0 _ (by simp) _ _ _ _ _ _ _ _ w3 n (by omega) rl).mono ?_;rintro e u ⟨k,d,rfl,c,b⟩;have f:(k).size<=9:=ahZ (by decide) k d;replace j:=(j).trans b λi _ e=>e;go_wp2;go_ret;exact⟨k,_,rfl,f,c,by omega,j⟩
 .have t:(m ==0)=false:=dq.2 r;go_wp2;have rl:dr (a.alloc (.cells #[.string ⟨#[97]⟩,.string ⟨#[98]⟩,.string ⟨#[99,47,97]⟩,.string ⟨#[99,47,98]⟩,.string ⟨#[100,47,97]⟩,.string ⟨#[101]⟩,.string ⟨#[97,47,98]⟩,.string ⟨#[100]⟩] 9)) a.heap.size (a.alloc (.cells #[.string ⟨#[97]⟩,.string ⟨#[98]⟩,.string ⟨#[99,47,97]⟩,.string ⟨#[99,47,98]⟩,.string ⟨#[100,47,97]⟩,.string ⟨#[101]⟩,.string ⟨#[97,47,98]⟩,.string ⟨#[100]⟩] 9)).heap.size [⟨#[97]⟩,⟨#[98]⟩,⟨#[99,47,97]⟩,⟨#[99,47,98]⟩,⟨#[100,47,97]⟩,⟨#[101]⟩,⟨#[97,47,98]⟩,⟨#[100]⟩] [.slice (some ⟨a.heap.size,0,none⟩) 8 8]:=
   (aH.deep (F:=gZ) (abX (F:=gZ) (bW.new a 9 #[.string ⟨#[97]⟩,.string ⟨#[98]⟩,.string ⟨#[99,47,97]⟩,.string ⟨#[99,47,98]⟩,.string ⟨#[100,47,97]⟩,.string ⟨#[101]⟩,.string ⟨#[97,47,98]⟩,.string ⟨#[100]⟩]) rfl (am _) rfl (by simp[maxLen])) (nK (by decide)) a.heap.size).sl (am _)
  have n:=(q).alloc (.cells #[.string ⟨#[97]⟩,.string ⟨#[98]⟩,.string ⟨#[99,47,97]⟩,.string ⟨#[99,47,98]⟩,.string ⟨#[100,47,97]⟩,.string ⟨#[101]⟩,.string ⟨#[97,47,98]⟩,.string ⟨#[100]⟩] 9);have j:=(o).alloc (.cells #[.string ⟨#[97]⟩,.string ⟨#[98]⟩,.string ⟨#[99,47,97]⟩,.string ⟨#[99,47,98]⟩,.string ⟨#[100,47,97]⟩,.string ⟨#[101]⟩,.string ⟨#[97,47,98]⟩,.string ⟨#[100]⟩] 9);generalize (a).alloc (.cells #[.string ⟨#[97]⟩,.string ⟨#[98]⟩,.string ⟨#[99,47,97]⟩,.string ⟨#[99,47,98]⟩,.string ⟨#[100,47,97]⟩,.string ⟨#[101]⟩,.string ⟨#[97,47,98]⟩,.string ⟨#[100]⟩] 9)=w3 at *;refine(ah0 _ (by simp) _ _ _ _ _ _ _ _ w3 n (by omega) rl).mono ?_;rintro e u ⟨k,d,rfl,c,b⟩;have f:(k).size<=9:=ahZ (by decide) k d;replace j:=(j).trans b λi _ e=>e;go_wp2;go_ret;exact⟨k,_,rfl,f,c,by omega,j⟩
def asC(w:World)(lo hi g:Nat)(l:List Int)(p:Nat)(e:Ending)(w':World):Prop:=∃s q,e=.returned (.string s)/\s.size<=1000/\Rd w' lo hi g l q/\q<=p+30/\bM (λb=>b=g) w w'
def aca(a b:ByteArray):(a++b).size=a.size+b.size:=by rw[<-aM,ik,ap,aM,aM]
def asD(w:World)(n:Int):∃t:ByteArray,t.size=1/\Sem.run (ah β) (convert 22 9 (.slice (some ⟨w.heap.size,0,none⟩) 1 1)) (w.alloc (.cells #[.int .u8 n] 5))=.ok (.string t) (w.alloc (.cells #[.int .u8 n] 5)):=by
 refine⟨([n].foldl (λr n=>r.push (UInt8.ofNat n.toNat)) ByteArray.empty),rfl, ?_⟩;rw[run_convert_bytes_string _ _ _ 5 _ _ _ wO qU5 qU9];refine run_bytesToString _ _ 1 1 [n] ?_;have c:=(bW.new w 5 #[.int .u8 n]).cell 0;refine run_loadCells_list (a:=⟨w.heap.size,0,none⟩) (cs:=[.int .u8 n]) (w:=w.alloc (.cells #[.int .u8 n] 5)) (P:=(ah β)) (λj v b=> ?_)
 match j,b with
 |0,b=>
  cases b;exact c
def adn(l:List Int)(g p V hi:Nat)(w:World)(hr:Rd w V hi g l p)(hp:p<=100000) :
  Calls (ah β) 27 #[.pointer (some ⟨g,0,none⟩)] w (asC w V hi g l p):=by
 go_enter zC,ntmps27;go_wp2;refine(cT _ _ _ _ _ _ 5 hr (by omega)).mono ?_;rintro e w2 ⟨m,rfl,⟨_,hm⟩,Q,T⟩;have al:=hm (by omega);obtain⟨mm,rfl⟩:=qr (show 0<=m by omega);clear hm;go_wp2;go_loopw [3,4] (λtt H wr=>∃(j q:Nat) (x:ByteArray),j<=4/\H=.int .i64 j/\tt=.string x/\x.size+9*j<=36/\Rd wr V hi g l q/\q+j<=p+5/\bM (λb=>b=g) w wr) (λ_ H _=>(intOf H).toNat)
 case atStart=>exact⟨mm,_,⟨#[]⟩,by omega,rfl,rfl,by show 0+_<=_;omega,Q,by omega,T⟩
 case round=>
  clear Q T;obtain⟨j,q,x,hj,rfl,rfl,hx,rd,U⟩:=hrel;obtain⟨ao,U⟩:=U;by_cases h0:j=0
  .subst h0;go_wp2;refine(cT _ _ _ _ _ _ 4 rd (by omega)).mono ?_;rintro e w3 ⟨m2,rfl,⟨_,a5⟩,r,A⟩;clear a5;have E:=U.trans A λi _ e=>e;have a4:x.size<=60:=by omega
   have aa:x.size<=36:=by omega
   clear rd A hx;by_cases X:m2=0
   .have t1:(m2 ==0)=true:=mp.2 X;clear X;go_wp2;refine(cT _ _ _ _ _ _ 12 r (by omega)).mono ?_;rintro e w5 ⟨m5,rfl,⟨_,N⟩,K,R⟩;have a9:=N (by omega);obtain⟨n5,rfl⟩:=qr (show 0<=m5 by omega);have S:=E.trans R λi _ e=>e;clear N R E r;go_wp2;go_loopw [3,5] (λtt H wr=>∃(j W:Nat) (y:ByteArray),j<=11/\H=.int .i64 j/\tt=.string y/\y.size+j<=47/\Rd wr V hi g l W/\W+j<=p+18/\bM (λb=>b=g) w wr) (λ_ H _=>(intOf H).toNat)
    case atStart=>exact⟨n5,_,x,by omega,rfl,rfl,by omega,K,by omega,S⟩
    case round=>
     clear K S;obtain⟨j,W,y,f,rfl,rfl,hy,G,ay,C⟩:=hrel;by_cases O:j=0
     .subst O;have a2:y.size<=60:=by omega
      clear hy;have a8:W<=p+20:=by omega
      by_cases a6:40<(y).size
      case' pos=>
       have t4:=db (show(40:Int)<((y).size:Int) by omega);have g2:(40:Int)<=((y).size:Int):=by omega
       obtain⟨z,n,o⟩:∃z,z=(y).extract 0 40/\z.size=40:=⟨_,rfl,by rw[afc _ (by omega)]⟩;have P:=ab n;go_wp2;rw[<-P.out];clear n P
      case' neg=>
       have t4:=bv (show ¬((40:Int)<((y).size:Int)) by omega);go_wp2;have o:=a2;obtain⟨z,n⟩:∃z,z=y:=⟨_,rfl⟩;rw[<-n] at o ⊢;clear n
      all_goals
       refine(cT _ _ _ _ _ _ 60 G (by omega)).mono ?_;rintro e Y ⟨d,rfl,⟨_,D⟩,a,s⟩;have c:=(C).trans s λi _ e=>e;clear D s;by_cases k:d=0
       .have t5:(d ==0)=true:=mp.2 k;clear k;go_wp2;go_ret;exact⟨_,_,rfl,by rw[aca];have:(⟨#[65]⟩:ByteArray).size=1:=rfl;omega,a,by omega,c⟩
       .have t5:(d ==0)=false:=dq.2 k;by_cases u:d=1
        .have t6:(d ==1)=true:=mp.2 u;clear k u;go_wp2;refine(ae9 ⟨#[97,98,99,100,101]⟩ 9 (by decide) (by decide) (by decide) Y).mono ?_;rintro e w5 ⟨⟨t,rfl,ht⟩,rfl⟩;go_wp2;go_ret;exact⟨t,_,rfl,by omega,a,by omega,c⟩
        .have t6:(d ==1)=false:=dq.2 u;clear k u;go_wp2;go_ret;exact⟨_,_,rfl,by omega,a,by omega,c⟩
     .have t7:=db (show(0:Int)<(j:Int) by omega);obtain⟨B,I⟩:∃y,y=j-1:=⟨_,rfl⟩;have e7:(j:Int)-1=((B:Nat):Int):=by omega
      have gS:0<(j:Int):=by omega
      have f:j=B+1:=by omega
      clear I O;have v:=ab f;clear f;go_wp2;refine(cT _ _ _ _ _ _ 26 G (by omega)).mono ?_;rintro e w7 ⟨m7,rfl,⟨_,L⟩,Z,M⟩;have ax:=L (by omega);have a7:=C.trans M λi _ e=>e;clear L M C G;have a3:=Z.alloc (.cells #[.int .u8 (97+m7)] 5);have a1:=a7.alloc (.cells #[.int .u8 (97+m7)] 5);obtain⟨t,ht,af⟩:=asD (β:=β) w7 (97+m7);go_wp2;go_roundw
      case rel=>exact⟨B,_,y++t,by have:=v.out;omega,rfl,rfl,by rw[aca,ht];have:=v.out;omega,a3,by have:=v.out;omega,a1⟩
      simp[intOf];have:=v.out;omega
   .have t1:(m2 ==0)=false:=dq.2 X;clear X;have a8:q+1<=p+20:=by omega
    by_cases a6:40<(x).size
    case' pos=>
     have t4:=db (show(40:Int)<((x).size:Int) by omega);have g2:(40:Int)<=((x).size:Int):=by omega
     obtain⟨z,n,o⟩:∃z,z=(x).extract 0 40/\z.size=40:=⟨_,rfl,by rw[afc _ (by omega)]⟩;have P:=ab n;go_wp2;rw[<-P.out];clear n P
    case' neg=>
     have t4:=bv (show ¬((40:Int)<((x).size:Int)) by omega);go_wp2;have o:=a4;obtain⟨z,n⟩:∃z,z=x:=⟨_,rfl⟩;rw[<-n] at o ⊢;clear n
    all_goals
     refine(cT _ _ _ _ _ _ 60 r (by omega)).mono ?_;rintro e Y ⟨d,rfl,⟨_,D⟩,a,s⟩;have c:=(E).trans s λi _ e=>e;clear D s;by_cases k:d=0
     .have t5:(d ==0)=true:=mp.2 k;clear k;go_wp2;go_ret;exact⟨_,_,rfl,by rw[aca];have:(⟨#[65]⟩:ByteArray).size=1:=rfl;omega,a,by omega,c⟩
     .have t5:(d ==0)=false:=dq.2 k;by_cases u:d=1
      .have t6:(d ==1)=true:=mp.2 u;clear k u;go_wp2;refine(ae9 ⟨#[97,98,99,100,101]⟩ 9 (by decide) (by decide) (by decide) Y).mono ?_;rintro e w5 ⟨⟨t,rfl,ht⟩,rfl⟩;go_wp2;go_ret;exact⟨t,_,rfl,by omega,a,by omega,c⟩
      .have t6:(d ==1)=false:=dq.2 u;clear k u;go_wp2;go_ret;exact⟨_,_,rfl,by omega,a,by omega,c⟩
  .have t1:=db (show(0:Int)<(j:Int) by omega);have an:x.size<=36:=by omega
   obtain⟨B,I⟩:∃y,y=j-1:=⟨_,rfl⟩;have u:(j:Int)-1=((B:Nat):Int):=by omega
   have gS:0<(j:Int):=by omega
   have f:j=B+1:=by omega
   clear I h0;have v:=ab f;clear f;go_wp2;have rl:dr (wr.alloc (.cells #[.string ⟨#[97,98,99]⟩,.string ⟨#[104,101,108,108,111]⟩,.string ⟨#[119,111,114,108,100]⟩,.string ⟨#[97,97,97,97]⟩,.string ⟨#[107,101,101,112]⟩,.string ⟨#[122,122]⟩,.string ⟨#[98,97,99,107,117,112]⟩,.string ⟨#[113]⟩] 9)) wr.heap.size (wr.alloc (.cells #[.string ⟨#[97,98,99]⟩,.string ⟨#[104,101,108,108,111]⟩,.string ⟨#[119,111,114,108,100]⟩,.string ⟨#[97,97,97,97]⟩,.string ⟨#[107,101,101,112]⟩,.string ⟨#[122,122]⟩,.string ⟨#[98,97,99,107,117,112]⟩,.string ⟨#[113]⟩] 9)).heap.size [⟨#[97,98,99]⟩,⟨#[104,101,108,108,111]⟩,⟨#[119,111,114,108,100]⟩,⟨#[97,97,97,97]⟩,⟨#[107,101,101,112]⟩,⟨#[122,122]⟩,⟨#[98,97,99,107,117,112]⟩,⟨#[113]⟩] [.slice (some ⟨wr.heap.size,0,none⟩) 8 8]:=
    (aH.deep (F:=gZ) (abX (F:=gZ) (bW.new wr 9 #[.string ⟨#[97,98,99]⟩,.string ⟨#[104,101,108,108,111]⟩,.string ⟨#[119,111,114,108,100]⟩,.string ⟨#[97,97,97,97]⟩,.string ⟨#[107,101,101,112]⟩,.string ⟨#[122,122]⟩,.string ⟨#[98,97,99,107,117,112]⟩,.string ⟨#[113]⟩]) rfl (am _) rfl (by simp[maxLen])) (nK (by decide)) wr.heap.size).sl (am _)
   have r:=(rd).alloc (.cells #[.string ⟨#[97,98,99]⟩,.string ⟨#[104,101,108,108,111]⟩,.string ⟨#[119,111,114,108,100]⟩,.string ⟨#[97,97,97,97]⟩,.string ⟨#[107,101,101,112]⟩,.string ⟨#[122,122]⟩,.string ⟨#[98,97,99,107,117,112]⟩,.string ⟨#[113]⟩] 9);have mv:=(U).alloc (.cells #[.string ⟨#[97,98,99]⟩,.string ⟨#[104,101,108,108,111]⟩,.string ⟨#[119,111,114,108,100]⟩,.string ⟨#[97,97,97,97]⟩,.string ⟨#[107,101,101,112]⟩,.string ⟨#[122,122]⟩,.string ⟨#[98,97,99,107,117,112]⟩,.string ⟨#[113]⟩] 9);generalize (wr).alloc (.cells #[.string ⟨#[97,98,99]⟩,.string ⟨#[104,101,108,108,111]⟩,.string ⟨#[119,111,114,108,100]⟩,.string ⟨#[97,97,97,97]⟩,.string ⟨#[107,101,101,112]⟩,.string ⟨#[122,122]⟩,.string ⟨#[98,97,99,107,117,112]⟩,.string ⟨#[113]⟩] 9)=w3 at *;refine(ah0 _ (by simp) _ _ _ _ _ _ _ _ w3 r (by omega) rl).mono ?_;rintro e v3 ⟨s3,J,rfl,a0,A⟩;have ad:(s3).size<=9:=ahZ (by decide) s3 J;replace mv:=(mv).trans A λi _ e=>e;clear J rl;go_wp2;go_roundw
   case rel=>exact⟨B,_,x++s3,by have:=v.out;omega,rfl,rfl,by rw[aca];have:=v.out;omega,a0,by have:=v.out;omega,mv⟩
   simp[intOf];have:=v.out;omega
end
end Go.Proofs.YtpbbcfocomejmaaGreatDoor