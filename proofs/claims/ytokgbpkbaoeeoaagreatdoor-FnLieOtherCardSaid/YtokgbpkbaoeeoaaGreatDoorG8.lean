/- A part. -/
import Derived.Test.YtokgbpkbaoeeoaaGreatDoorG7
import Derived.Lib.IndexLaws
import Derived.Lib.Bytealg
import Derived.OrdersIn
import Derived.HandedShaped
import Derived.Carry
import Derived.Conc.Holds
import Derived.OpenVars
import Derived.LaidMore
import Derived.Lay
import Derived.SevenTiedAt
import Derived.Test.YtokgbpkbaoeeoaaGreatDoorTie
import Derived.Test.YtokgbpkbaoeeoaaGreatDoorCards
set_option maxRecDepth 100000
set_option maxHeartbeats 8000000
set_option linter.all false
open Go Go.Conc Go.ConcN Go.RowKit Go.Proofs.Tryz Go.Proofs.YtokgbpkbaoeeoaaGreatDoor
variable {x:Ls} {Z V C c g hi i k n:Nat} {a:Act} {key:Int} {v:Value} {w w' w0:World} {e t:TypeId} {l:List iY} {xs:List Ls} {U:Nat→Bool} {dK:List Int} {s:ByteArray} {z:Nat × Nat} {u:Option Nat} {A:Option Addr} {cs:Array Value} {p:List MemPlace} {X W:Act→World→Prop} {o:Option (List Nd)} {Y:List (ByteArray × Bool)}
namespace Go.Proofs.YtokgbpkbaoeeoaaGreatDoor
def uY:=@_root_.List.mem_iff_getElem
def vh:=@_root_.Array.replicate_zero
def vj:=@_root_.Array.replicate_succ
def vz:=@_root_.List.append_toArray
def vO:=@_root_.List.push_toArray
def vQ:=@_root_.Go.MakeChecks.laidMetH_plain
def wu:=@_root_.Go.KeepsOthers.of_grownBy
def wF:=@_root_.Go.IntWalk.i64_in
def wQ:=@_root_.List.getElem?_append
def wT:=@_root_.Go.Claim7.new_of_sixth
section
variable {β:Bool}
open Go.RowKit
def gb.form{s:dy}{e d : Value}(h:gb w Z hi s v e d):∃A a B b C c,v=.slice A s.pk.length a/\e=.slice B s.sn.length b/\d=.slice C s.lg.length c:=by
 obtain⟨A,a,rfl⟩:=bD.form h.pk;obtain⟨B,b,rfl⟩:=bD.form h.sn;obtain⟨C,c,rfl⟩:=bD.form h.lg;exact⟨A,a,B,b,C,c,rfl,rfl,rfl⟩
def lN(w:World)(g:Nat)(u1 c d:Value)(b:Nat)(a:b≠g):(((w.setCell ⟨g,0,none⟩ u1).setCell ⟨g,1,none⟩ c).setCell ⟨g,2,none⟩ d).heap[b]?=w.heap[b]?:=by
 rw[jn _ _ _ _ a,jn _ _ _ _ a,jn _ _ _ _ a]
def ahx{B:Nat}(h:bg w g t cs)(a:Below B w w')(b:g<B):bg w' g t cs:=(a.block g b).trans h
def as3(s:dy)(d E G:Int)(lb:ByteArray)(V:¬d=1)(X:¬d=2)(K:¬d=3)(R:¬d=4)(D H I:Value)(w:World)(F hi:Nat)(h:gb w F hi s D H I)(z:hi<=w.heap.size)(N:kQ s<=1099511627) :
  Calls (ah β) 7 #[.agg #[D,H,I],.agg (nR ⟨d,E,G,lb⟩)] w (abK w w.heap.size s):=by
 have t1:(d ==1)=false:=de.2 V;have t2:(d ==2)=false:=de.2 X;have t3:(d ==3)=false:=de.2 K;have Y:(d ==4)=false:=de.2 R;obtain⟨C,c,rfl⟩:=bD.form h.lg;obtain⟨A,a,rfl⟩:=bD.form h.pk;obtain⟨B,b,rfl⟩:=bD.form h.sn;go_enter qF7,ntmps7;go_wp2;generalize P:((w.alloc (.cells #[.slice A s.pk.length a,.slice B s.sn.length b,.slice C s.lg.length c] 27)).alloc (.cells #[.int .i64 d,.int .i64 E,.int .i64 G,.string lb] 29)).alloc (.cells #[.slice none 0 0,.slice none 0 0,.slice none 0 0] 27)=w0 at *;obtain⟨f,jo,k0,dn,eQ,k,L,S,i,J,O⟩:=aeZ P;refine(fC s _ _ _ w0 F hi (h.below f z) (ap z f.size) N).mono ?_;rintro e p ⟨v1,v2,v3,rfl,m,l⟩;obtain⟨n,x,rfl⟩:=aO.form m.pk;obtain⟨o,q,rfl⟩:=aO.form m.sn;obtain⟨t,r,rfl⟩:=aO.form m.lg;replace k:=ak k l;replace L:=k.cell;replace S:=k.frozen;replace i:=ak i l;replace J:=i.cell;replace O:=i.frozen;replace f:=ag f l;have z1:=l.size;have j:=av p (.cells #[.slice n s.pk.length x,.slice o s.sn.length q,.slice t s.lg.length r] 27);have W:=(ak k j).cell;have g:=ak i j;have u:=g.cell;have T:=g.frozen;have y:=ab (ag f j);have M:jh (p.alloc (.cells #[.slice n s.pk.length x,.slice o s.sn.length q,.slice t s.lg.length r] 27)) w0.heap.size p.heap.size s _ _ _:=m.t.below j (am _);have Q:=ab M;have U:=ab j.size;go_wp2;refine pb (v:=.agg #[.slice n s.pk.length x,.slice o s.sn.length q,.slice t s.lg.length r]) (by simp[results,results7,go_sem,u]) rfl ⟨_,_,_,rfl, ?_, ?_⟩
 .refine Q.out.go (λb Z _=>lN _ _ _ _ _ b (by omega)) (by omega) ?_;simp only[bv];exact U.out
 .exact((y.out.setCell (by dsimp only;omega) _).setCell (by dsimp only;omega) _).setCell (by dsimp only;omega) _
def as4(s:dy)(g j:Int)(lb:ByteArray)(H L P:Value)(w:World)(J hi:Nat)(h:gb w J hi s H L P)(D:hi<=w.heap.size)(F:kQ s<=1099511627) :
  Calls (ah β) 7 #[.agg #[H,L,P],.agg (nR ⟨2,g,j,lb⟩)] w (abK w w.heap.size (dM s ⟨2,g,j,lb⟩)):=by
 obtain⟨C,c,rfl⟩:=bD.form h.lg;obtain⟨A,a,rfl⟩:=bD.form h.pk;obtain⟨B,b,rfl⟩:=bD.form h.sn;go_enter qF7,ntmps7;go_wp2;generalize t:((w.alloc (.cells #[.slice A s.pk.length a,.slice B s.sn.length b,.slice C s.lg.length c] 27)).alloc (.cells #[.int .i64 2,.int .i64 g,.int .i64 j,.string lb] 29)).alloc (.cells #[.slice none 0 0,.slice none 0 0,.slice none 0 0] 27)=w0 at *;obtain⟨n,jo,k0,dn,eQ,f,E,K,d,y,G⟩:=aeZ t;refine(fC s _ _ _ w0 J hi (h.below n D) (ap D n.size) F).mono ?_;rintro e o ⟨v1,v2,v3,rfl,l,p⟩;obtain⟨z,Q,rfl⟩:=aO.form l.pk;obtain⟨I,M,rfl⟩:=aO.form l.sn;obtain⟨O,N,rfl⟩:=aO.form l.lg;replace f:=ak f p;replace E:=f.cell;replace K:=f.frozen;replace d:=ak d p;replace y:=d.cell;replace G:=d.frozen;replace n:=ag n p;have z1:=p.size;have X:=av o (.cells #[.slice z s.pk.length Q,.slice I s.sn.length M,.slice O s.lg.length N] 27);have a1:=(ak f X).cell;go_wp2;generalize t:o.alloc (.cells #[.slice z s.pk.length Q,.slice I s.sn.length M,.slice O s.lg.length N] 27)=w3 at *;obtain⟨i,R,m0,od,a0⟩:=mB t;replace f:=ak f i;replace E:=f.cell;replace K:=f.frozen;replace d:=ak d i;replace y:=d.cell;replace G:=d.frozen;have x:=ag n i;have U:fg w3 w0.heap.size o.heap.size s _ _ _:=⟨bF.ar.below l.pk i (am _),bR.ar.below l.sn i (am _),dH.ar.below l.lg i (am _)⟩;have z3:=i.size;refine(ako s ⟨2,g,j,lb⟩ rfl _ _ _ w3 w0.heap.size o.heap.size U (by omega) F).mono ?_;rintro e w5 ⟨ua,ub,uc,rfl,q,k⟩;have S:=ak m0 k;have m:=ak d k;have r:=ag x k;have z5:=k.size;have a2:=S.cell;have u:=m.cell;have Y:=m.frozen;obtain⟨Z,T,B5,k,V,W,rfl,rfl,rfl⟩:=q.form;replace q:=ab q;replace r:=ab r;go_wp2;refine pb (v:=.agg #[.slice Z (dM s ⟨2,g,j,lb⟩).pk.length T,.slice B5 (dM s ⟨2,g,j,lb⟩).sn.length k,.slice V (dM s ⟨2,g,j,lb⟩).lg.length W]) (by simp[results,results7,go_sem,u]) rfl ⟨_,_,_,rfl, ?_, ?_⟩
 .refine q.out.go (λb hb _=>lN _ _ _ _ _ b (by omega)) (by omega) ?_;simp only[bv];omega
 .exact((r.out.setCell (by dsimp only;omega) _).setCell (by dsimp only;omega) _).setCell (by dsimp only;omega) _
def as5(s:dy)(r N:Int)(lb:ByteArray)(va vb vc:Value)(w:World)(lo hi:Nat)(h:gb w lo hi s va vb vc)(aV:hi<=w.heap.size)(hl:kQ s<=1099511627) :
  Calls (ah β) 7 #[.agg #[va,vb,vc],.agg (nR ⟨4,r,N,lb⟩)] w (abK w w.heap.size (dM s ⟨4,r,N,lb⟩)):=by
 obtain⟨C,c,rfl⟩:=bD.form h.lg;obtain⟨_,b2,a9⟩:=h.lg.len_;unfold maxLen at a9;have b1:IntKind.i64.wrap ((s.lg.length:Int)-1)=(s.lg.length:Int)-1:=wF _ (by omega);by_cases Q:0<=r/\r<(s.lg.length:Int)
 .rw[abE (l:=⟨4,r,N,lb⟩) rfl Q];have kJ:(decide (0<=r)&&decide (r<=(s.lg.length:Int)-1))=true:=by rw[ff];exact⟨dk Q.1,dk (by omega)⟩
  have I:=ab kJ;obtain⟨i,rfl⟩:=qn Q.1;obtain⟨y,U⟩:=aq (l:=s.lg) (k:=i) (by omega);have a6:sG s.lg ((i:Nat):Int).toNat lj=s.lg.set i (lj y):=by
   have:((i:Nat):Int).toNat=i:=by omega
   rw[this,oO U]
  dsimp only;rw[a6];have b0:i<s.lg.length:=by omega
  replace U:=ab U;obtain⟨A,a,rfl⟩:=bD.form h.pk;obtain⟨B,b,rfl⟩:=bD.form h.sn;go_enter qF7,ntmps7;go_wp2;generalize H:((w.alloc (.cells #[.slice A s.pk.length a,.slice B s.sn.length b,.slice C s.lg.length c] 27)).alloc (.cells #[.int .i64 4,.int .i64 ((i:Nat):Int),.int .i64 N,.string lb] 29)).alloc (.cells #[.slice none 0 0,.slice none 0 0,.slice none 0 0] 27)=w0 at *;obtain⟨u,jo,k0,dn,eQ,f,M,Y,d,P,V⟩:=aeZ H;refine(fC s _ _ _ w0 lo hi (h.below u aV) (ap aV u.size) hl).mono ?_;rintro e t ⟨v1,v2,v3,rfl,o,x⟩;obtain⟨D,G,rfl⟩:=aO.form o.pk;obtain⟨E,F,rfl⟩:=aO.form o.sn;obtain⟨O,z,rfl⟩:=aO.form o.lg;replace f:=ak f x;replace M:=f.cell;replace Y:=f.frozen;replace d:=ak d x;replace P:=d.cell;replace V:=d.frozen;replace u:=ag u x;have z1:=x.size;have py:=av t (.cells #[.slice D s.pk.length G,.slice E s.sn.length F,.slice O s.lg.length z] 27);have ad:=(ak f py).cell;go_wp2;generalize H:t.alloc (.cells #[.slice D s.pk.length G,.slice E s.sn.length F,.slice O s.lg.length z] 27)=w3 at *;obtain⟨m,a1,m0,od,a7⟩:=mB H;replace f:=ak f m;replace M:=f.cell;replace Y:=f.frozen;replace d:=ak d m;replace P:=d.cell;replace V:=d.frozen;have L:=ag u m;have o3:fg w3 w0.heap.size t.heap.size s _ _ _:=⟨bF.ar.below o.pk m (am _),bR.ar.below o.sn m (am _),dH.ar.below o.lg m (am _)⟩;have z3:=m.size;refine(lS _ _ _ w3).mono ?_;rintro e w4 ⟨rfl,rfl⟩;rw[I.out];obtain⟨op,os,ol⟩:=o3;have hw:=dH.w ol;obtain⟨g,c',e,aT,aZ,b3,aa⟩:=jT.some_ hw (by omega);simp only[oE] at e;obtain⟨rfl, -,rfl⟩:=e;obtain⟨a4,X,an⟩:=jT.at_ hw U.out;have jm:pB.good (lj y):=by
   refine⟨?_,a4.2⟩;show cf (wrap64 (3-y.b));unfold cf wrap64;omega
  have a2:w3.cell? ⟨t.heap.size,2,none⟩=some (.slice (some ⟨g,0,none⟩) s.lg.length z):=od 2;have a8:w3.cell? ⟨w.heap.size+1,1,none⟩=some (.int .i64 ((i:Nat):Int)):=M 1;go_wp2;have aH:=ae a2;have aI:=ae a8;have bc:=ae X;refine aC 12 [0,1,2,3,4,5,6,7,8,9,10,11] [] (h:= ?_);simp only[pick,List.map,gt,gE];repeat(go_big_quiet_step (fail))
  refine ip ?_;apply Exists.intro;refine aQ ?_;intro Z q xx cU hF;dsimp only[dQ] at hF;try rw[cU] at hF
  simp only[List.drop];have zz:=q.size;have a0:=ak aa q;have ao:=a0.frozen (i*2);have aL:=aU q X;have pz:=(ag L q).setCell (p:=⟨g,i*2,none⟩) (by dsimp only;omega) (.int .i64 (wrap64 (3-y.b)));have k5:=cj (ak m0 q) (p:=⟨g,i*2,none⟩) (.int .i64 (wrap64 (3-y.b))) (by dsimp only;omega);have n:=cj (ak d q) (p:=⟨g,i*2,none⟩) (.int .i64 (wrap64 (3-y.b))) (by dsimp only;omega);have R:∀{T:List TypeId} (b:Nat),65∉T->Typed Z T b->(Z.setCell ⟨g,i*2,none⟩ (.int .i64 (wrap64 (3-y.b)))).heap[b]?=Z.heap[b]?:=λb hT S=>jn _ _ _ _ (by rintro rfl;exact df a0 hT S);have r5:jh (Z.setCell ⟨g,i*2,none⟩ (.int .i64 (wrap64 (3-y.b)))) w0.heap.size t.heap.size ⟨s.pk,s.sn,s.lg.set i (lj y)⟩ (.slice D s.pk.length G) (.slice E s.sn.length F) (.slice (some ⟨g,0,none⟩) s.lg.length z):=
   ⟨bF.T (bF.ar.go (fI:=w0.heap.size) (hi':=t.heap.size) (λb _ _ S=>R b (by decide) S) (am _) (am _) (bF.ar.below op q (by omega))),
    bR.T (bR.ar.go (fI:=w0.heap.size) (hi':=t.heap.size) (λb _ _ S=>R b (by decide) S) (am _) (am _) (bR.ar.below os q (by omega))),
    jT.T (jT.put (j:=0) (jT.ar.below hw q (by omega)) U.out (by decide) jm rfl)⟩
  have af:=k5.cell;have W:=n.cell;have a5:=n.frozen;have z5:t.heap.size<=(Z.setCell ⟨g,i*2,none⟩ (.int .i64 (wrap64 (3-y.b)))).heap.size:=by simp only[bv];omega
  have ax:=(ak m0 q).cell;have al:=(ak d q).cell;have ay:=(ak d q).frozen;have a3:=ab n;have K:=ab r5;have J:=ab pz;go_wp2;refine pb (v:=.agg #[.slice D s.pk.length G,.slice E s.sn.length F,.slice (some ⟨g,0,none⟩) s.lg.length z]) (by simp[results,results7,go_sem,a3.out.cell]) rfl ⟨_,_,_,rfl, ?_, ?_⟩
  .refine K.out.go (λb hb _=>lN _ _ _ _ _ b (by omega)) (by omega) ?_;simp only[bv];omega
  .exact((J.out.setCell (by dsimp only;omega) _).setCell (by dsimp only;omega) _).setCell (by dsimp only;omega) _
 .rw[mU (l:=⟨4,r,N,lb⟩) rfl Q];have kJ:(decide (0<=r)&&decide (r<=(s.lg.length:Int)-1))=false:=by
   rw[sV];by_cases h0:0<=r
   .exact .inr (da λh=>Q ⟨h0,by omega⟩)
   .exact .inl (da h0)
  have I:=ab kJ;obtain⟨A,a,rfl⟩:=bD.form h.pk;obtain⟨B,b,rfl⟩:=bD.form h.sn;go_enter qF7,ntmps7;go_wp2;generalize H:((w.alloc (.cells #[.slice A s.pk.length a,.slice B s.sn.length b,.slice C s.lg.length c] 27)).alloc (.cells #[.int .i64 4,.int .i64 r,.int .i64 N,.string lb] 29)).alloc (.cells #[.slice none 0 0,.slice none 0 0,.slice none 0 0] 27)=w0 at *;obtain⟨u,jo,k0,dn,eQ,f,M,Y,d,P,V⟩:=aeZ H;refine(fC s _ _ _ w0 lo hi (h.below u aV) (ap aV u.size) hl).mono ?_;rintro e t ⟨v1,v2,v3,rfl,o,x⟩;obtain⟨D,G,rfl⟩:=aO.form o.pk;obtain⟨E,F,rfl⟩:=aO.form o.sn;obtain⟨O,z,rfl⟩:=aO.form o.lg;replace f:=ak f x;replace M:=f.cell;replace Y:=f.frozen;replace d:=ak d x;replace P:=d.cell;replace V:=d.frozen;replace u:=ag u x;have z1:=x.size;have py:=av t (.cells #[.slice D s.pk.length G,.slice E s.sn.length F,.slice O s.lg.length z] 27);have ad:=(ak f py).cell;go_wp2;generalize H:t.alloc (.cells #[.slice D s.pk.length G,.slice E s.sn.length F,.slice O s.lg.length z] 27)=w3 at *;obtain⟨m,a1,m0,od,a7⟩:=mB H;replace f:=ak f m;replace M:=f.cell;replace Y:=f.frozen;replace d:=ak d m;replace P:=d.cell;replace V:=d.frozen;have L:=ag u m;have o3:fg w3 w0.heap.size t.heap.size s _ _ _:=⟨bF.ar.below o.pk m (am _),bR.ar.below o.sn m (am _),dH.ar.below o.lg m (am _)⟩;have z3:=m.size;refine(lS _ _ _ w3).mono ?_;rintro e w5 ⟨rfl,rfl⟩;rw[I.out];have k5:=m0;have n:=d;have pz:=L;have r5:=o3.t;have z5:=z3;have af:=k5.cell;have W:=n.cell;have a5:=n.frozen;have K:=ab r5;have J:=ab pz;go_wp2;refine pb (v:=.agg #[.slice D s.pk.length G,.slice E s.sn.length F,.slice O s.lg.length z]) (by simp[results,results7,go_sem,W]) rfl ⟨_,_,_,rfl, ?_, ?_⟩
  .refine K.out.go (λb hb _=>lN _ _ _ _ _ b (by omega)) (by omega) ?_;simp only[bv];omega
  .exact((J.out.setCell (by dsimp only;omega) _).setCell (by dsimp only;omega) _).setCell (by dsimp only;omega) _
end
section
variable {β:Bool}
open Go.RowKit
def as6(s:dy)(d lm:Int)(lb:ByteArray)(va vb vc:Value)(w:World)(lo hi:Nat)(h:gb w lo hi s va vb vc)(aV:hi<=w.heap.size)(hl:kQ s<=1099511627) :
  Calls (ah β) 7 #[.agg #[va,vb,vc],.agg (nR ⟨1,d,lm,lb⟩)] w (abK w w.heap.size (dM s ⟨1,d,lm,lb⟩)):=by
 rw[aag (l:=⟨1,d,lm,lb⟩) rfl];dsimp only;have a8:=dV (f:=bPk) (l:=s.pk);have b8:s.pk.length<=1099511627:=by unfold kQ at hl;omega
 clear a8;obtain⟨C,c,rfl⟩:=bD.form h.lg;obtain⟨A,a,rfl⟩:=bD.form h.pk;obtain⟨B,b,rfl⟩:=bD.form h.sn;go_enter qF7,ntmps7;go_wp2;generalize U:((w.alloc (.cells #[.slice A s.pk.length a,.slice B s.sn.length b,.slice C s.lg.length c] 27)).alloc (.cells #[.int .i64 1,.int .i64 d,.int .i64 lm,.string lb] 29)).alloc (.cells #[.slice none 0 0,.slice none 0 0,.slice none 0 0] 27)=w0 at *;obtain⟨Q,jo,k0,dn,eQ,u,dG,eD,x,gW,jV⟩:=aeZ U;clear U;refine(fC s _ _ _ w0 lo hi (h.below Q aV) (ap aV Q.size) hl).mono ?_;rintro e n ⟨v1,v2,v3,rfl,K,W⟩;obtain⟨A1,a1,rfl⟩:=aO.form K.pk;obtain⟨B1,pC,rfl⟩:=aO.form K.sn;obtain⟨C1,c1,rfl⟩:=aO.form K.lg;replace u:=ak u W;replace dG:=u.cell;replace eD:=u.frozen;replace x:=ak x W;replace gW:=x.cell;replace jV:=x.frozen;replace Q:=ag Q W;have z1:=W.size;clear k0 dn eQ;have py:=av n (.cells #[.slice A1 s.pk.length a1,.slice B1 s.sn.length pC,.slice C1 s.lg.length c1] 27);have aL:=(ak u py).cell;go_wp2;clear py aL;generalize U:(n.alloc (.cells #[.slice A1 s.pk.length a1,.slice B1 s.sn.length pC,.slice C1 s.lg.length c1] 27)).alloc (.cells #[] 36)=w3 at *;obtain⟨E,aZ,m0,od,aa,m1,an,a7⟩:=pW U;clear U;replace u:=ak u E;replace dG:=u.cell;replace eD:=u.frozen;replace x:=ak x E;replace gW:=x.cell;replace jV:=x.frozen;have af:=ag Q E;have o3:fg w3 w0.heap.size n.heap.size s _ _ _:=⟨bF.ar.below K.pk E (am _),bR.ar.below K.sn E (am _),dH.ar.below K.lg E (am _)⟩;have z3:=E.size;clear K Q E W;have HO:=ab (show iI lh 2 36 w3 w0.heap.size (n.heap.size+1) (.slice (some ⟨n.heap.size+1,0,none⟩) 0 0) [] from iI.ajv ⟨_,rfl,am _,m1⟩);have b0:w.heap.size+1+1<n.heap.size:=by omega
 clear m1 an a7 dG eD gW jV od aa;go_loopw [6,7] (λoo ii wr=>∃k:Nat,k<=s.pk.length/\ii=.int .i64 k/\iI lh 2 36 wr w0.heap.size (n.heap.size+1) oo ((s.pk.take k).filter λp=>!(p.no ==d))/\Below (n.heap.size+1) w3 wr) (λ_ ii _=>s.pk.length-(intOf ii).toNat)
 case atStart=>exact⟨0,eg _,rfl,HO.out,fd _ _⟩
 case round=>
  clear HO;obtain⟨k,b2,rfl,I,j⟩:=hrel;obtain⟨D,F,rfl⟩:=I.form;have G:=ahx m0 j (by omega);have q1:=ahx u j (by omega);have q2:=ahx x j (by omega);have zr:=j.size;have cm:wr.cell? ⟨n.heap.size,0,none⟩=some (.slice A1 s.pk.length a1):=G.cell 0;have P:wr.cell? ⟨w.heap.size+1,1,none⟩=some (.int .i64 d):=q1.cell 1;by_cases a9:k<s.pk.length
  .obtain⟨y,cN⟩:=aq a9;have N:=bF.ar.below o3.pk j (by omega);obtain⟨g,c',e,b6,bf,b4,a5,ay⟩:=aO.some_ N (by omega);simp only[oE] at e;obtain⟨rfl, -,rfl⟩:=e;obtain⟨m,m',es,l1,l2,l3,b9,⟨v2,rfl,a3,t⟩,o, -⟩:=aO.at_ lh.ar (by decide) N cN;obtain⟨A2,c2,rfl⟩:=aO.form t;have z:wr.cell? ⟨g,k*2,none⟩=some (.int .i64 y.no):=o 0 _ rfl;have a2:wr.cell? ⟨g,k*2+1,none⟩=some (.slice A2 y.its.length c2):=o 1 _ rfl;have HY:=ab cN;have HR:=ab t;have HO:=ab I;have a6:((s.pk.take k).filter λp=>!(p.no ==d)).length<=s.pk.length:=ap (sj _ _) (by rw[ef];omega);clear o cN t I N a5 ay;by_cases hp:y.no=d
   .have t1:(y.no ==d)=true:=nF.2 hp;have r:=iW (p:=λp:Pk=>p.no ==d) HY.out t1;have HF:=ab r;clear r hp;go_wp2;have aH:=ae cm;have aI:=ae z;have bc:=ae P;refine aC 9 [0,1,2,3,4,5,6,7,8] [] (h:= ?_);simp only[pick,List.map,gt,gE];repeat(go_big_quiet_step (fail))
    refine ip ?_;clear aH aI bc;apply Exists.intro;refine aQ ?_;intro wz q xx Y J;dsimp only[dQ] at J;try rw[Y] at J
    clear Y xx;simp only[List.drop];clear J;have zz:=q.size;go_wp2;go_roundw
    case rel=>exact⟨k+1,by omega,by go_num,by rw[HF.out];exact HO.out.below lh.ar q,j.trans (q.mono (by omega))⟩
    simp[intOf];omega
   .have t1:(y.no ==d)=false:=de.2 hp;have r:=kE (p:=λp:Pk=>p.no ==d) HY.out t1;have HF:=ab r;clear r hp;go_wp2;have aH:=ae cm;have aI:=ae z;have bc:=ae P;refine aC 9 [0,1,2,3,4,5,6,7,8] [] (h:= ?_);simp only[pick,List.map,gt,gE];repeat(go_big_quiet_step (fail))
    refine ip ?_;clear aH aI bc;apply Exists.intro;refine aQ ?_;intro wz q xx Y J;dsimp only[dQ] at J;try rw[Y] at J
    clear Y xx;simp only[List.drop];clear J;have zz:=q.size;have b7:=aU q cm;have bi:=aU q z;have bb:=aU q a2;have O:=ab (HO.out.below lh.ar q);have ad:=ab (show lh wz w0.heap.size wz.heap.size y [.int .i64 y.no,.slice A2 y.its.length c2] from lh.ar.wide (lh.ar.below (⟨_,rfl,a3,HR.out⟩:lh wr m m' y [.int .i64 y.no,.slice A2 y.its.length c2]) q (by omega)) l1 (by omega));have a0:=ab (j.trans (q.mono (by omega)):Below (n.heap.size+1) w3 wz);clear HO HR cm z a2 P G q1 q2;obtain⟨M,hM⟩:∃M,M=((s.pk.take k).filter λp=>!(p.no ==d)):=⟨_,rfl⟩;rw[<-hM] at O HF a6 ⊢;clear hM;go_wp2_with(at_builtin;refine gX ?_);refine⟨?_,trivial⟩;refine ajP lh.ar (by decide) rfl (.tmp 32) (.tmp 38) 23 rfl aei y rfl O.out rfl rfl (by simp[Value.oneCell']) ad.out (by omega) (by have:=a0.out.size;omega) ?_;intro v8 w8 o8 a4 b1;obtain⟨A8,c8,rfl⟩:=o8.form;simp only[aE,fi,mT,mc] at o8;go_wp2;go_roundw
    case rel=>
     refine⟨k+1,by omega,by go_num,by rw[HF.out];exact o8,a0.out.trans (a4.below (by omega) λi hi hs=> ?_)⟩;have:=(O.out.at_ hs).1;omega
    case measure=>simp[intOf];omega
  .obtain rfl:k=s.pk.length:=by omega
   rw[gc] at I;have X:Below w.heap.size w wr:=af.trans (j.mono (by omega));have V:bj (λb=>b=n.heap.size) wr (wr.setCell ⟨n.heap.size,0,none⟩ (.slice D (s.pk.filter λp=>!(p.no ==d)).length F)):=(bj.refl (λb=>b=n.heap.size) wr).setCell (p:=⟨n.heap.size,0,none⟩) (.inl rfl) _;have S:=I.fE lh.ar V (λb hb hs=>by have:=(I.at_ hb).1;omega) (λb _ H hs=>by have al:b=n.heap.size:=hs;subst al;exact df G (by decide) H);have pz:=X.setCell (p:=⟨n.heap.size,0,none⟩) (by dsimp only;omega) (.slice D (s.pk.filter λp=>!(p.no ==d)).length F);have Z:=G.bG 0 (.slice D (s.pk.filter λp=>!(p.no ==d)).length F);simp only[dj,ge,io] at Z;have R:=cj q2 (p:=⟨n.heap.size,0,none⟩) (.slice D (s.pk.filter λp=>!(p.no ==d)).length F) (by dsimp only;omega);have L:∀{T:List TypeId} (b:Nat),27∉T->Typed wr T b->(wr.setCell ⟨n.heap.size,0,none⟩ (.slice D (s.pk.filter λp=>!(p.no ==d)).length F)).heap[b]?=wr.heap[b]?:=λb hT H=>jn _ _ _ _ (by rintro rfl;exact df G hT H);have r5:jh (wr.setCell ⟨n.heap.size,0,none⟩ (.slice D (s.pk.filter λp=>!(p.no ==d)).length F)) w0.heap.size wr.heap.size ⟨s.pk.filter λp=>!(p.no ==d),s.sn,s.lg⟩ (.slice D (s.pk.filter λp=>!(p.no ==d)).length F) (.slice B1 s.sn.length pC) (.slice C1 s.lg.length c1):=by
    refine⟨?_, ?_, ?_⟩
    .have:=iI.sl S (by omega);simpa using this
    .exact tSn.wide (bR.T (bR.ar.go (fI:=w0.heap.size) (hi':=n.heap.size) (λb _ _ H=>L b (by decide) H) (am _) (am _) (bR.ar.below o3.sn j (by omega)))) (am _) (by omega)
    .exact tHd.wide (dH.T (dH.ar.go (fI:=w0.heap.size) (hi':=n.heap.size) (λb _ _ H=>L b (by decide) H) (am _) (am _) (dH.ar.below o3.lg j (by omega)))) (am _) (by omega)
   have K5:=ab R;have ax:=ab r5;have ao:=ab pz;have b5:=G.cell;have aT:=G.frozen;have ba:=q2.cell;have b3:=q2.frozen;clear I S R r5 pz Z L V G q1 q2 X;go_wp2;refine pb (v:=.agg #[.slice D (s.pk.filter λp=>!(p.no ==d)).length F,.slice B1 s.sn.length pC,.slice C1 s.lg.length c1]) (by simp[results,results7,go_sem,K5.out.cell]) rfl ⟨_,_,_,rfl, ?_, ?_⟩
   .refine ax.out.go (λb hb _=>lN _ _ _ _ _ b (by omega)) (by omega) ?_;simp only[bv];omega
   .exact((ao.out.setCell (by dsimp only;omega) _).setCell (by dsimp only;omega) _).setCell (by dsimp only;omega) _
end
section
variable {β:Bool}
open Go.RowKit
def as7(s:dy)(q k:Int)(lb:ByteArray)(b9:lb.size<=maxLen)(va vb vc:Value)(w:World)(lo hi:Nat)(h:gb w lo hi s va vb vc)(aV:hi<=w.heap.size)(hl:kQ s<=1099511627) :
  Calls (ah β) 7 #[.agg #[va,vb,vc],.agg (nR ⟨3,q,k,lb⟩)] w (abK w w.heap.size (dM s ⟨3,q,k,lb⟩)):=by
 rw[abD (l:=⟨3,q,k,lb⟩) rfl];have bk:=dV (f:=bPk) (l:=s.pk);have bt:s.pk.length<=1099511627:=by unfold kQ at hl;omega
 obtain⟨C,c,rfl⟩:=bD.form h.lg;obtain⟨A,a,rfl⟩:=bD.form h.pk;obtain⟨B,b,rfl⟩:=bD.form h.sn;go_enter qF7,ntmps7;go_wp2;generalize hG:((w.alloc (.cells #[.slice A s.pk.length a,.slice B s.sn.length b,.slice C s.lg.length c] 27)).alloc (.cells #[.int .i64 3,.int .i64 q,.int .i64 k,.string lb] 29)).alloc (.cells #[.slice none 0 0,.slice none 0 0,.slice none 0 0] 27)=w0 at *;obtain⟨aL,jo,k0,dn,eQ,I,dG,eD,K,gW,jV⟩:=aeZ hG;refine(fC s _ _ _ w0 lo hi (h.below aL aV) (ap aV aL.size) hl).mono ?_;rintro e G ⟨v1,v2,v3,rfl,o1,L⟩;obtain⟨A1,a1,rfl⟩:=aO.form o1.pk;obtain⟨B1,pC,rfl⟩:=aO.form o1.sn;obtain⟨C1,c1,rfl⟩:=aO.form o1.lg;replace I:=ak I L;replace dG:=I.cell;replace eD:=I.frozen;replace K:=ak K L;replace gW:=K.cell;replace jV:=K.frozen;replace aL:=ag aL L;have z1:=L.size;have py:=av G (.cells #[.slice A1 s.pk.length a1,.slice B1 s.sn.length pC,.slice C1 s.lg.length c1] 27);have bS:=(ak I py).cell;go_wp2;generalize hG:G.alloc (.cells #[.slice A1 s.pk.length a1,.slice B1 s.sn.length pC,.slice C1 s.lg.length c1] 27)=w3 at *;obtain⟨R,ba,m0,od,bp⟩:=mB hG;replace I:=ak I R;replace dG:=I.cell;replace eD:=I.frozen;replace K:=ak K R;replace gW:=K.cell;replace jV:=K.frozen;have aT:=ag aL R;have o3:fg w3 w0.heap.size G.heap.size s _ _ _:=⟨bF.ar.below o1.pk R (am _),bR.ar.below o1.sn R (am _),dH.ar.below o1.lg R (am _)⟩;have z3:=R.size;obtain⟨op,os,ol⟩:=o3;have HO:=ab op;have bb:w.heap.size+1+1<w0.heap.size:=by omega
 go_loopw [8] (λii wr=>∃j:Nat,j<=s.pk.length/\ii=.int .i64 j/\bF wr w0.heap.size G.heap.size (mV (fS ⟨3,q,k,lb⟩) s.pk j) [.slice A1 s.pk.length a1]/\bj (λb=>w0.heap.size<=b/\b<G.heap.size/\Typed w3 [63] b) w3 wr) (λii _=>s.pk.length-(intOf ii).toNat)
 case atStart=>exact⟨0,eg _,rfl,by rw[afu];exact HO.out,bj.refl _ _⟩
 case round=>
  obtain⟨j,hj,rfl,ho,H⟩:=hrel;have zr:=H.size;have q0:=aP m0 H λJ=>by omega
  have q1:=aP I H λJ=>by omega
  have q2:=aP K H λJ=>by omega
  have cm:wr.cell? ⟨G.heap.size,0,none⟩=some (.slice A1 s.pk.length a1):=q0.cell 0;have a4:wr.cell? ⟨w.heap.size+1,1,none⟩=some (.int .i64 q):=q1.cell 1;have M:wr.cell? ⟨w.heap.size+1,2,none⟩=some (.int .i64 k):=q1.cell 2;have ax:wr.cell? ⟨w.heap.size+1,3,none⟩=some (.string lb):=q1.cell 3;by_cases aa:j<s.pk.length
  .obtain⟨x,cR⟩:=aq aa;have an:=adk (fS ⟨3,q,k,lb⟩) cR;have al:=agS (fS ⟨3,q,k,lb⟩) s.pk j;obtain⟨g,c',e,bq,bL,bo,bi,bO⟩:=aO.some_ ho (by rw[al];omega);simp only[oE] at e;obtain⟨rfl, -,rfl⟩:=e;have HX:=ab cR;have b7:=ab an;have z:=abG (fS ⟨3,q,k,lb⟩) cR;replace z:=ab z;obtain⟨m,m',es,l1,l2,l3,bw,⟨v2,rfl,a8,n⟩,F,a3⟩:=aO.at_ lh.ar (by decide) ho b7.out;obtain⟨A2,c2,rfl⟩:=aO.form n;obtain⟨_,mK,kL⟩:=(abA.l n).len_;unfold maxLen at kL;have N:wr.cell? ⟨g,j*2,none⟩=some (.int .i64 x.no):=F 0 _ rfl;have O:wr.cell? ⟨g,j*2+1,none⟩=some (.slice A2 x.its.length c2):=F 1 _ rfl;replace n:=ab n;replace a3:=ab a3;by_cases P:x.no=q
   .have t1:(x.no ==q)=true:=nF.2 P;replace P:=ab P;by_cases E:0<=k/\k<(x.its.length:Int)
    .have kJ:(decide (0<=k)&&decide (k<=(x.its.length:Int)-1))=true:=by rw[ff];exact⟨dk E.1,dk (by omega)⟩
     have U:=ab kJ;replace E:=ab E;have ay:IntKind.i64.wrap ((x.its.length:Int)-1)=(x.its.length:Int)-1:=wF _ (by omega);go_wp2;have aH:=ae cm;have aI:=ae N;have bc:=ae O;have dB:=ae a4;have gF:=ae M;refine aC 22 [0,1,2,3,4,5,6,7,8,9,10,11,12,13,14,15,16,17,18,19] [20,21] (h:= ?_);simp only[pick,List.map,gt,gE];repeat(go_big_quiet_step (fail))
     refine ip ?_;apply Exists.intro;apply cT (.bool true)
     .intro y o Qx d;replace d:=ab d;go_wp2;refine(lS _ _ _ y.to).mono ?_;rintro e wy ⟨rfl,rfl⟩;rw[U.out];go_wp2;exact d.out _ (fd _ _)
     apply cT (.bool true)
     .intro y o Qx d;replace d:=ab d;go_wp2;exact d.out _ (fd _ _)
     simp only[Act.put,dj,ge,io];refine aQ ?_;intro wz r xx Z o;dsimp only[dQ] at o;try rw[Z] at o
     simp only[List.drop];have zz:=r.size;obtain⟨Q,a2⟩:=qn E.out.1;have aZ:Q<x.its.length:=by have:=E.out.2;omega
     obtain⟨y,cN⟩:=aq aZ;obtain⟨gi,ci,ei,b0,ao,bz,b8,a9⟩:=aO.some_ n.out (by omega);simp only[oE] at ei;obtain⟨rfl, -,rfl⟩:=ei;have af:=aU r cm;have bT:=aU r N;have b3:=aU r O;have a6:=aU r M;have b4:=aU r ax;have b6:k=((Q:Nat):Int):=a2;have W:fS ⟨3,q,k,lb⟩ x=⟨x.no,x.its.set Q ⟨y.n,lb⟩⟩:=by
      unfold fS;rw[du ⟨P.out,E.out.1,E.out.2⟩,oO (x:=y) (by dsimp only;rw[a2];exact cN)];dsimp only;rw[a2];rfl
     replace W:=ab W;rw[b6] at a6;go_wp2;have aH:=ae af;have aI:=ae b3;have bc:=ae a6;have dB:=ae b4;refine aC 10 [0,1,2,3,4,5,6,7,8,9] [] (h:= ?_);simp only[pick,List.map,gt,gE];repeat(go_big_quiet_step (fail))
     refine ip ?_;apply Exists.intro;refine aQ ?_;intro wy hy xx Z o;dsimp only[dQ] at o;try rw[Z] at o
     simp only[List.drop];have zy:=hy.size;have L:=ag r hy;have D:=abA.ar.below n.out L (by omega);obtain⟨n1,n2,bl, -, -, -, -,⟨rfl,bf⟩,ad, -⟩:=aO.at_ (bV.ar nA) (by decide) D cN;have bJ:wy.cell? ⟨gi,Q*2+1,none⟩=some (.string y.b):=ad 1 _ rfl;have bx:=aO.frozen D (Q*2+1);have a7:=aO.put (j:=1) (u:=.string lb) (bV.ar nA) (by decide) D cN (y:=(⟨y.n,lb⟩:It)) (by decide) rfl (λw' lo hi es hh=>⟨by rw[hh.1];rfl,hh.2.1,b9⟩);have b5:Typed wr [63] gi:=⟨_,qC,b8,a9⟩;have a5:bj (λb=>m<=b/\b<m'/\Typed wr [63] b) wr (wy.setCell ⟨gi,Q*2+1,none⟩ (.string lb)):=
      (bj.aN (S:=λb=>m<=b/\b<m'/\Typed wr [63] b) L).setCell (p:=⟨gi,Q*2+1,none⟩) (.inl ⟨b0,ao,b5⟩) (.string lb)
     have po:=a3.out _ ⟨x.no,x.its.set Q ⟨y.n,lb⟩⟩ a5 ⟨.slice (some ⟨gi,0,none⟩) x.its.length c2,rfl,a8,a7⟩;rw[<-W.out,z.out] at po;have a0:=H.trans a5 λb hb J=>⟨by omega,by omega,lW H (T:=[63]) (λt ht=>ht) (show b<G.heap.size by omega) (by omega) (λhs=>hs.2.2) J.2.2⟩;replace po:=ab po;replace a0:=ab a0;go_wp2;go_roundw
     case rel=>exact⟨j+1,by omega,by go_num,po.out,a0.out⟩
     simp[intOf];omega
    .have kJ:(decide (0<=k)&&decide (k<=(x.its.length:Int)-1))=false:=by
      rw[sV];by_cases h0:0<=k
      .exact .inr (da λh=>E ⟨h0,by omega⟩)
      .exact .inl (da h0)
     have U:=ab kJ;replace E:=ab E;have ay:IntKind.i64.wrap ((x.its.length:Int)-1)=(x.its.length:Int)-1:=wF _ (by omega);go_wp2;have aH:=ae cm;have aI:=ae N;have bc:=ae O;have dB:=ae a4;have gF:=ae M;refine aC 22 [0,1,2,3,4,5,6,7,8,9,10,11,12,13,14,15,16,17,18,19] [20,21] (h:= ?_);simp only[pick,List.map,gt,gE];repeat(go_big_quiet_step (fail))
     refine ip ?_;apply Exists.intro;apply cT (.bool false)
     .intro y o Qx d;replace d:=ab d;go_wp2;refine(lS _ _ _ y.to).mono ?_;rintro e wy ⟨rfl,rfl⟩;rw[U.out];go_wp2;exact d.out _ (fd _ _)
     apply cT (.bool false)
     .intro y o Qx d;replace d:=ab d;go_wp2;exact d.out _ (fd _ _)
     simp only[Act.put,dj,ge,io];refine aQ ?_;intro wz r xx Z o;dsimp only[dQ] at o;try rw[Z] at o
     simp only[List.drop];have zz:=r.size;have ld:=mj (fS ⟨3,q,k,lb⟩) HX.out (aai (λh=>E.out h.2));have HS:=ab ld;have fD:=bF.ar.below ho r (by omega);have X:=H.trans (bj.aN (S:=λ_=>False) r) λ_ _ h=>h.elim;have V:=ab fD;have Y:=ab X;go_wp2;go_roundw
     case rel=>exact⟨j+1,by omega,by go_num,by rw[HS.out];exact V.out,Y.out⟩
     simp[intOf];omega
   .have t1:(x.no ==q)=false:=de.2 P;replace P:=ab P;go_wp2;have aH:=ae cm;have aI:=ae N;have bc:=ae O;have dB:=ae a4;have gF:=ae M;refine aC 22 [0,1,2,3,4,5,6,7,8,9,10,11,12,13,14,15,16,17,18,19] [20,21] (h:= ?_);simp only[pick,List.map,gt,gE];repeat(go_big_quiet_step (fail))
    refine ip ?_;apply Exists.intro;apply cT (undef)
    .intro y o Qx d;replace d:=ab d;go_wp2;exact d.out _ (fd _ _)
    apply cT (.bool false)
    .intro y o Qx d;replace d:=ab d;go_wp2;exact d.out _ (fd _ _)
    refine aQ ?_;intro wz r xx Z o;dsimp only[dQ] at o;try rw[Z] at o
    simp only[List.drop];have zz:=r.size;have ld:=mj (fS ⟨3,q,k,lb⟩) HX.out (aai (λh=>P.out h.1));have HS:=ab ld;have fD:=bF.ar.below ho r (by omega);have X:=H.trans (bj.aN (S:=λ_=>False) r) λ_ _ h=>h.elim;have V:=ab fD;have Y:=ab X;go_wp2;go_roundw
    case rel=>exact⟨j+1,by omega,by go_num,by rw[HS.out];exact V.out,Y.out⟩
    simp[intOf];omega
  .obtain rfl:j=s.pk.length:=by omega
   rw[agR] at ho;have o2:=bR.ar.go (w':=wr) (fI:=w0.heap.size) (hi':=G.heap.size) (λb L b2 ht=>H.block b (by omega) λJ=>gY ht (by decide) J.2.2) (am _) (am _) os;have o3:=dH.ar.go (w':=wr) (fI:=w0.heap.size) (hi':=G.heap.size) (λb L b2 ht=>H.block b (by omega) λJ=>gY ht (by decide) J.2.2) (am _) (am _) ol;have pz:Below w.heap.size w wr:=aT.trans (H.below (by omega) λi hi J=>by omega);have r5:jh wr w0.heap.size G.heap.size ⟨s.pk.map (fS ⟨3,q,k,lb⟩),s.sn,s.lg⟩ (.slice A1 s.pk.length a1) (.slice B1 s.sn.length pC) (.slice C1 s.lg.length c1):=⟨bF.T ho,bR.T o2,dH.T o3⟩;have br:=q0.cell;have b1:=q2.cell;have bn:=q2.frozen;have z5:G.heap.size<=wr.heap.size:=by omega
   replace r5:=ab r5;replace pz:=ab pz;go_wp2;refine pb (v:=.agg #[.slice A1 s.pk.length a1,.slice B1 s.sn.length pC,.slice C1 s.lg.length c1]) (by simp[results,results7,go_sem,b1]) rfl ⟨_,_,_,rfl, ?_, ?_⟩
   .refine r5.out.go (λb hb _=>lN _ _ _ _ _ b (by omega)) (by omega) ?_;simp only[bv];omega
   .exact((pz.out.setCell (by dsimp only;omega) _).setCell (by dsimp only;omega) _).setCell (by dsimp only;omega) _
def ad1(s:dy)(l:jw)(a d c:Value)(w:World)(e hi:Nat)(h:gb w e hi s a d c)(g:hi<=w.heap.size)(f:kQ s<=1099511627)(q:l.b.size<=maxLen) :
  Calls (ah β) 7 #[.agg #[a,d,c],.agg (nR l)] w (abK w w.heap.size (dM s l)):=by
 obtain⟨k,n,m,b⟩:=l;by_cases j:k=1
 .subst j;exact as6 s n m b a d c w e hi h g f
 by_cases i:k=2
 .subst i;exact as4 s n m b a d c w e hi h g f
 by_cases o:k=3
 .subst o;exact as7 s n m b q a d c w e hi h g f
 by_cases p:k=4
 .subst p;exact as5 s n m b a d c w e hi h g f
 rw[abF (l:=⟨k,n,m,b⟩) j i o p];exact as3 s k n m b j i o p a d c w e hi h g f
end
section
variable {β:Bool}
open Go.RowKit
def nT(s:ByteArray)(f:s.size<=maxLen)(w:World) :
  Calls (ah β) 89 #[.string s] w λe d=>e=.returned (.bool (dN s))/\w=d:=by
 by_cases b:s.size<=40
 .have a:(bs s).all pY=dN s:=by unfold dN;rw[dk b,uI]
  replace a:=ab a;have c:=dk (show(s.size:Int)<=40 by omega);go_enter xV,ntmps89;go_wp2;refine(agA s f w).mono ?_;rintro e g ⟨rfl,rfl⟩;rw[a.out];go_wp2;go_ret;exact⟨rfl,rfl⟩
 .have c:=da (show ¬((s.size:Int)<=40) by omega);have e:dN s=false:=by unfold dN;rw[da b,ur]
  rw[e];go_enter xV,ntmps89;go_wp2;go_ret;exact⟨rfl,rfl⟩
def amY(s:ByteArray)(p:Nat)(v:3<=p/\p<s.size)(r:s.size<=maxLen)(w:World) :
  Calls (ah β) 163 #[.string s,.int .i64 p] w λe o=>e=.returned (.bool (aac (bs s) p))/\Below w.heap.size w o:=by
 unfold maxLen at r;obtain⟨a,l⟩:∃a,a=p-1:=⟨_,rfl⟩;obtain⟨b,i⟩:∃b,b=p-2:=⟨_,rfl⟩;obtain⟨c,n⟩:∃c,c=p-3:=⟨_,rfl⟩;have m:a<s.size:=by omega
 have f:b<s.size:=by omega
 have g:c<s.size:=by omega
 have y:(p:Int)-1=((a:Nat):Int):=by omega
 have x:(p:Int)-2=((b:Nat):Int):=by omega
 have z:(p:Int)-3=((c:Nat):Int):=by omega
 have t:(p:Int)<=9223372036854775807:=by omega
 have k:aac (bs s) p=((dig (s[a]'m).toNat+2*dig (s[b]'f).toNat+3*dig (s[c]'g).toNat) % 5 ==0):=by unfold aac;rw[<-l,<-i,<-n,aaB m,aaB f,aaB g]
 rw[k];clear l i n k;go_enter yN,ntmps163;go_wp2;refine aC 21 [0,1,2,3,4,5,6,7,8,9,10,11,12,13,14,15,16,17,18,19,20] [] (h:= ?_);simp only[pick,List.map,gt,gE];repeat(go_big_quiet_step (fail))
 refine ip ?_;apply Exists.intro;refine aQ ?_;intro A u q j d;dsimp only[dQ] at d;try rw[j] at d
 clear j q;simp only[List.drop];clear d;go_wp2;go_ret;exact⟨aD (by rw[rc];simp only[nF];unfold dig;omega),u⟩
def av5(s:ByteArray)(p:Nat)(C:p<s.size)(E:s.size<=1000000)(w:World) :
  Calls (ah β) 156 #[.string s,.int .i64 p] w λe v=>e=.returned (.int .i64 (pH (bs s) p:Nat))/\Below w.heap.size w v:=by
 have o:s.size<=maxLen:=by unfold maxLen;omega
 go_enter yS,ntmps156;go_wp2;go_loopw [5] (λq wr=>∃k f:Nat,k+f=8/\3<=k/\q=.int .i64 ((p+k:Nat):Int)/\pH (bs s) p=atF (bs s) p f k/\Below w.heap.size w wr) (λq _=>p+8-(intOf q).toNat)
 case atStart=>exact⟨3,5,rfl,by omega,by go_num,rfl,fd _ _⟩
 case round=>
  obtain⟨k,f,z,D,rfl,b,g⟩:=hrel;replace b:=ab b;by_cases B:k<8
  .obtain⟨i,rfl⟩:∃i,f=i+1:=⟨f-1,by omega⟩;have a:atF (bs s) p (i+1) k=if s.size<=p+k then s.size else if aac (bs s) (p+k)=true then p+k else atF (bs s) p i (k+1):=by
    show(if(bs s).length<=p+k then(bs s).length else _)=_;rw[aM]
   have HS:=ab a;obtain⟨d,l⟩:∃m,m=p+k:=⟨_,rfl⟩;rw[<-l] at HS ⊢;have n:3<=d/\d<p+8:=by omega
   have x:=dk (show(d:Int)<(p:Int)+8 by omega);by_cases j:s.size<=d
   .have y:=da (show ¬(d<s.size) by omega);rw[du j] at HS;have c:=ab (b.out.trans HS.out);have r:=da (show ¬((p:Int)+8<=(s.size:Int)) by omega);go_wp2;go_ret;exact⟨by rw[c.out];simp,g⟩
   .have y:=dk (show d<s.size by omega);rw[be j] at HS;replace l:=ab l;go_wp2;refine(amY s d ⟨n.1,by omega⟩ o wr).mono ?_;rintro e A ⟨rfl,t⟩;cases u:aac (bs s) d with
    |true=>
     have c:=ab (b.out.trans (HS.out.trans (du u)));go_wp2;go_ret;exact⟨by rw[c.out];rfl,ag g t⟩
    |false=>
     have c:=ab (b.out.trans (HS.out.trans (be (by rw[u];exact qA))));go_wp2;go_roundw
     case rel=>exact⟨k+1,i,by omega,by omega,by have:=l.out;go_num,c.out,ag g t⟩
     simp[intOf];omega
  .obtain rfl:k=8:=by omega
   obtain rfl:f=0:=by omega
   have a:atF (bs s) p 0 8=min (p+8) s.size:=by
    show min (p+8) (bs s).length=_;rw[aM]
   have c:=ab (b.out.trans a);have x:=da (show ¬(((p+8:Nat):Int)<(p:Int)+8) by omega);by_cases j:p+8<=s.size
   .have r:=dk (show(p:Int)+8<=(s.size:Int) by omega);rw[qR j] at c;go_wp2;go_ret;exact⟨by rw[c.out];simp,g⟩
   .have r:=da (show ¬((p:Int)+8<=(s.size:Int)) by omega);rw[Nat.min_eq_right (by omega)] at c;go_wp2;go_ret;exact⟨by rw[c.out];simp,g⟩
end
section
variable {β:Bool}
open Go.RowKit
def akp(s:ByteArray)(w:World) :
  Calls (ah β) 170 #[.string s,.int .u8 47] w λe a=>e=.returned (.int .i64 (Lib.indexByte s.data.toList 47))/\w=a:=by
 go_enter yJ,ntmps170;go_wp2;rw[run_callFunc_extern yG (by kernel_rfl) (by kernel_rfl) (by kernel_rfl) (e:=Extern.BytealgIndexByte.indexByte) (by kernel_rfl),Lib.run_indexByteString];simp only[Result.andThen];rw[Oper.upon_value];go_wp2;go_ret;exact⟨rfl,rfl⟩
noncomputable def amZ:Code:=gP (f164.body.getD .skip)
def aD8:Code->Code
 |.seq a _=>a
 |c=>c
def as8:Code->Code
 |.cond _ _ b=>b
 |c=>c
def azm:Code->Code
 |.block _ b=>b
 |c=>c
noncomputable def aBX:Code:=cA (cA (cA amZ))
noncomputable def aBY:Code:=as8 (cA (as8 (cA (azm (aD8 (cA (cA amZ)))))))
noncomputable def xIx:Func:={f164 with body:=some ((Code.region 0 #[⟨some 4,Op.assign (Operand.const (Value.int IntKind.i64 0)),3,"strings.go:28",#[],none⟩] false).seq ((Code.region 1 #[⟨some 14,Op.move (Operand.tmp 1),9,"strings.go:29",#[],none⟩,⟨some 15,Op.call ⟨Callee.builtin Builtin.len,#[Operand.tmp 14],#[9]⟩,3,"strings.go:29",#[⟨0,Ground.data⟩],none⟩,⟨some 5,Op.assign (Operand.tmp 15),3,"strings.go:29",#[⟨1,Ground.data⟩,⟨0,Ground.phase⟩,⟨1,Ground.phase⟩],none⟩] false).seq ((Code.block 0 ((Code.region 2 #[⟨some 17,Op.move (Operand.tmp 5),3,"strings.go:31",#[],none⟩,⟨some 18,Op.binOp BinOp.eql 3 (Operand.tmp 17) (Operand.const (Value.int IntKind.i64 0)) 3,4,"strings.go:31",#[⟨0,Ground.data⟩],none⟩,⟨some 19,Op.move (Operand.tmp 18),4,"strings.go:31",#[⟨1,Ground.data⟩],none⟩,⟨some 20,Op.move (Operand.tmp 1),9,"strings.go:31",#[⟨2,Ground.guard⟩],some (2,false)⟩,⟨some 21,Op.move (Operand.tmp 0),9,"strings.go:31",#[⟨2,Ground.guard⟩],some (2,false)⟩,⟨some 22,Op.binOp BinOp.eql 9 (Operand.tmp 20) (Operand.tmp 21) 9,4,"strings.go:31",#[⟨3,Ground.data⟩,⟨4,Ground.data⟩,⟨2,Ground.guard⟩],some (2,false)⟩,⟨some 23,Op.pick (Operand.tmp 19) (Operand.const (Value.bool true)) (Operand.tmp 22),4,"strings.go:31",#[⟨2,Ground.data⟩,⟨5,Ground.data⟩],none⟩,⟨some 16,Op.assign (Operand.tmp 23),4,"strings.go:31",#[⟨6,Ground.data⟩,⟨2,Ground.chain⟩],none⟩] false).seq (Code.cond (Operand.tmp 16) ((Code.region 3 #[⟨some 4,Op.assign (Operand.const (Value.int IntKind.i64 0)),3,"strings.go:32",#[],none⟩] false).seq Code.ret) ((Code.region 4 #[⟨some 25,Op.move (Operand.tmp 5),3,"strings.go:33",#[],none⟩,⟨some 26,Op.binOp BinOp.eql 3 (Operand.tmp 25) (Operand.const (Value.int IntKind.i64 1)) 3,4,"strings.go:33",#[⟨0,Ground.data⟩],none⟩,⟨some 24,Op.assign (Operand.tmp 26),4,"strings.go:33",#[⟨1,Ground.data⟩],none⟩] false).seq (Code.cond (Operand.tmp 24) ((Code.region 5 #[⟨some 27,Op.move (Operand.tmp 0),9,"strings.go:34",#[],none⟩,⟨some 28,Op.move (Operand.tmp 1),9,"strings.go:34",#[],none⟩,⟨some 29,Op.index 9 (Operand.tmp 28) (Operand.const (Value.int IntKind.i64 0)),5,"strings.go:34",#[⟨1,Ground.data⟩],none⟩,⟨some 30,Op.call ⟨Callee.value (Operand.func 170),#[Operand.tmp 27,Operand.tmp 29],#[9,5]⟩,3,"strings.go:34",#[⟨0,Ground.data⟩,⟨2,Ground.data⟩],none⟩,⟨some 4,Op.assign (Operand.tmp 30),3,"strings.go:34",#[⟨3,Ground.data⟩,⟨3,Ground.chain⟩,⟨0,Ground.phase⟩,⟨1,Ground.phase⟩,⟨2,Ground.phase⟩,⟨3,Ground.phase⟩],none⟩] false).seq Code.ret) aBY))))).seq aBX)))}
def as9:f164.body.map gP=xIx.body:=by
 unfold xIx aBY aBX amZ gP
 kernel_rfl
def am0:(ah β).funcs[164]?=some xIx:=by
 refine(alu β (by decide) (by decide)).trans ?_;have e:Option.map pf (prog.funcs[164]?)=Option.map pf (some f164):=ga _ func164;rw[e,qu];unfold pf;rw[as9];rfl
@[go_sem] theorem aBZ(args:Array Value)(w:World):(callFunc 164 args).run (ah β) w=.ok (.enter 164 args) w:=by
 have a:=cH func164;exact lQ am0 a rfl args w
def av6(s:ByteArray)(w:World) :
  Calls (ah β) 164 #[.string s,.string ⟨#[47]⟩] w λe g=>e=.returned (.int .i64 (Lib.indexByte s.data.toList 47))/\w=g:=by
 have d:xIx.ntmps=143:=ntmps164;have c:xIx.results=#[.tmp 4]:=results164;by_cases a:s.toList=[47]
 .have f:([47] ==s.toList)=true:=by rw[a];rfl
  have b:Lib.indexByte s.data.toList 47=0:=by
   rw[show s.data.toList=s.toList by rw[rj],a];rfl
  replace b:=ab b;go_enter am0,d;go_wp2;exact pb (v:=.int .i64 0) (by simp[results,c,go_sem]) rfl ⟨by rw[b.out],rfl⟩
 .have f:([47] ==s.toList)=false:=de.2 λe=>a e.symm;go_enter am0,d;go_wp2;refine(akp s w).mono ?_;rintro e i ⟨rfl,rfl⟩;go_wp2;exact pb (v:=.int .i64 (Lib.indexByte s.data.toList 47)) (by simp[results,c,go_sem]) rfl ⟨rfl,rfl⟩
open Classical in
noncomputable def dz(s:ByteArray):ByteArray×ByteArray×Bool:=if Lib.indexByte s.data.toList 47<0 then(s,⟨#[]⟩,false) else(s.extract 0 (Lib.indexByte s.data.toList 47).toNat,s.extract ((Lib.indexByte s.data.toList 47).toNat+1) s.size,true)
def akq(s:ByteArray):Lib.indexByte s.data.toList 47=-1\/∃k:Nat,Lib.indexByte s.data.toList 47=k/\k<s.size:=by
 rcases Int.lt_or_le (Lib.indexByte s.data.toList 47) 0 with h|h
 .left;have:=Lib.indexByte_ge s.data.toList 47;omega
 .right;obtain⟨k,a⟩:=qn h;refine⟨k,a, ?_⟩;have:=aB (Lib.indexByte_some a).1;rw[qS] at this;exact this
def azn(s:ByteArray)(g:s.size<=maxLen)(w:World) :
  Calls (ah β) 157 #[.string s,.string ⟨#[47]⟩] w λe f=>e=.returned (.tuple #[.string (dz s).1,.string (dz s).2.1,.bool (dz s).2.2])/\Below w.heap.size w f:=by
 unfold maxLen at g;have HC:=ab (av6 (β:=β) s w);rcases akq s with h|⟨k,h,n⟩
 .have b:dz s=(s,⟨#[]⟩,false):=by unfold dz;rw[du (by omega)]
  have a:=ab b;rw[h] at HC;go_enter xI,ntmps157;go_wp2;refine HC.out.mono ?_;rintro e d ⟨rfl,rfl⟩;go_wp2
  go_ret3
  rw[a.out];exact⟨rfl,fd _ _⟩
 .have b:dz s=(s.extract 0 k,s.extract (k+1) s.size,true):=by unfold dz;rw[be (by omega),h];rfl
  have a:=ab b;rw[h] at HC;have l:=dk (show 0<=(k:Int) by omega);go_enter xI,ntmps157;go_wp2;refine HC.out.mono ?_;rintro e d ⟨rfl,rfl⟩;go_wp2;refine aC 12 [0,1,2,3,4,5,6,7,8,9,10,11] [] (h:= ?_);simp only[pick,List.map,gt,gE];repeat(go_big_quiet_step (fail))
  refine ip ?_;apply Exists.intro;refine aQ ?_;intro o j m i c;dsimp only[dQ] at c;try rw[i] at c
  simp only[List.drop];go_wp2
  go_ret3
  rw[a.out];exact⟨rfl,j⟩
def aB0(s:ByteArray)(c:s.size<=maxLen)(w:World) :
  Calls (ah β) 137 #[.string s,.string ⟨#[47]⟩] w λe a=>e=.returned (.tuple #[.string (dz s).1,.string (dz s).2.1,.bool (dz s).2.2])/\Below w.heap.size w a:=by
 go_enter yZ,ntmps137;go_wp2;refine(azn s c w).mono ?_;rintro e d ⟨rfl,b⟩;go_wp2
 go_ret3
 exact⟨rfl,b⟩
def acR(s:ByteArray):Bool:=if h:s.size=1 then nm (s[0]'(by omega)).toNat else false
def aak(s:ByteArray)(m:s.size<=maxLen)(w:World) :
  Calls (ah β) 138 #[.string s] w λe l=>e=.returned (.bool (acR s))/\w=l:=by
 unfold maxLen at m;by_cases d:s.size=1
 .have a:0<s.size:=by omega
  have k:((s.size:Int) ==1)=true:=by rw[d];rfl
  have b:acR s=nm (s[0]'a).toNat:=by unfold acR;rw[tP d]
  rw[b];clear b;by_cases g:97<=(s[0]'a).toNat
  .by_cases i:(s[0]'a).toNat<=101
   .have e:nm (s[0]'a).toNat=true:=by unfold nm;rw[dk g,dk i];rfl
    have c:=ab e;clear e;have j:=dk (show((s[0]'a).toNat:Int)<=101 by omega);have f:=dk (show 97<=((s[0]'a).toNat:Int) by omega);go_enter xe,ntmps138;go_wp2;go_ret;exact⟨by rw[c.out];rfl,rfl⟩
   .have e:nm (s[0]'a).toNat=false:=by unfold nm;rw[da i,Bool.and_false]
    have c:=ab e;clear e;have j:=da (show ¬(((s[0]'a).toNat:Int)<=101) by omega);have f:=dk (show 97<=((s[0]'a).toNat:Int) by omega);go_enter xe,ntmps138;go_wp2;go_ret;exact⟨by rw[c.out];rfl,rfl⟩
  .have e:nm (s[0]'a).toNat=false:=by unfold nm;rw[da g,ur]
   have c:=ab e;clear e;have f:=da (show ¬(97<=((s[0]'a).toNat:Int)) by omega);go_enter xe,ntmps138;go_wp2;go_ret;exact⟨by rw[c.out];rfl,rfl⟩
 .have k:((s.size:Int) ==1)=false:=de.2 (by omega);have b:acR s=false:=by unfold acR;rw[dif_neg d]
  have n:=ab b;clear b;go_enter xe,ntmps138;go_wp2;go_ret;exact⟨by rw[n.out];rfl,rfl⟩
def adm :acR s=match s.toList with|[a]=>nm a.toNat|_=>false:=by
 have c:=mo s;unfold acR;split
 .rename_i h;rw[h] at c;obtain⟨a,d⟩:=tL.1 c;have:=kI (s:=s) (k:=0) (by omega);rw[d] at this ⊢;simp only[tz,lP] at this;rw[<-this]
 .rename_i h
  match hs:s.toList,c with
  |[],_=>rfl
  |[a],c=>exact absurd c.symm h
  |a::b::l,_=>rfl
def afH :ie s=match s.toList with|[a]=>nm a.toNat|[a,b,c]=>nm a.toNat&&(decide (b=47)&&nm c.toNat)|_=>false:=by
 have e:=mo s;unfold ie;split
 .rename_i h;rw[h] at e;obtain⟨a,m⟩:=tL.1 e;have:=kI (s:=s) (k:=0) (by omega);rw[m] at this ⊢;simp only[tz,lP] at this;rw[<-this]
 .rename_i n;split
  .rename_i j;have i:=kI (s:=s) (k:=0) (by omega);have g:=kI (s:=s) (k:=1) (by omega);have f:=kI (s:=s) (k:=2) (by omega)
   match hs:s.toList,e,i,g,f with
   |[a,b,c],_,i,g,f=>
    simp at i g f;show _=(nm a.toNat&&(decide (b=47)&&nm c.toNat));rw[i,g,f]
    congr 2
    rw[uM,<-sR];exact Iff.rfl
   |[],e,_,_,_=>simp at e;omega
   |[a],e,_,_,_=>simp at e;omega
   |[a,b],e,_,_,_=>simp at e;omega
   |a::b::c::d::l,e,_,_,_=>simp at e;omega
  .rename_i j
   match hs:s.toList,e with
   |[],_=>rfl
   |[a],e=>exact absurd e.symm n
   |[a,b],_=>rfl
   |[a,b,c],e=>exact absurd e.symm j
   |a::b::c::d::l,_=>rfl
def akr(s:ByteArray)(a b:Nat):(s.extract a b).toList=(s.toList.take b).drop a:=by
 rw[rj,rj,wv,tX,vR,List.take_drop];by_cases h:a<=b
 .congr 2;omega
 .have:b-a=0:=by omega
  rw[this,rE (by simp;omega),rE (by simp;omega)]
def aks(s:ByteArray):ie s=(acR (dz s).1&&(!(dz s).2.2||acR (dz s).2.1)):=by
 have hd:s.data.toList=s.toList:=by rw[rj]
 rcases akq s with h|⟨k,h,f⟩
 .have i:dz s=(s,⟨#[]⟩,false):=by unfold dz;rw[du (by omega)]
  rw[i];show _=(acR s&&true);rw[uK,adm,afH];have m:=Lib.indexByte_none h;rw[hd] at m
  match hs:s.toList with
  |[]=>rfl
  |[a]=>rfl
  |[a,b]=>rfl
  |[a,b,c]=>
   have:=m 1;rw[hs] at this;have j:b≠47:=by simpa using this
   show(nm a.toNat&&(decide (b=47)&&nm c.toNat))=false;rw[da j];simp
  |a::b::c::d::l=>rfl
 .have i:dz s=(s.extract 0 k,s.extract (k+1) s.size,true):=by unfold dz;rw[be (by omega),h];rfl
  rw[i];show _=(acR (s.extract 0 k)&&(false||acR (s.extract (k+1) s.size)));rw[uJ,adm,adm,akr,akr,afH,rD,<-mo,gc];obtain⟨e,g⟩:=Lib.indexByte_some h;rw[hd] at e g;rw[<-mo] at f
  match hs:s.toList,k,e,g,f with
  |[],_,_,_,f=>simp at f
  |[a],0,e,_,_=>
   simp at e;subst e;rfl
  |[a],k+1,_,_,f=>simp at f
  |[a,b],0,_,_,_=>rfl
  |[a,b],1,_,_,_=>simp
  |[a,b],k+2,_,_,f=>simp at f;omega
  |[a,b,c],0,e,_,_=>
   simp at e;subst e;rfl
  |[a,b,c],1,e,_,_=>
   simp at e;subst e;simp
  |[a,b,c],2,e,g,_=>
   have:=g 1 (by omega);have j:b≠47:=by simpa using this
   simp[j]
  |[a,b,c],k+3,_,_,f=>simp at f;omega
  |a::b::c::d::l,0,_,_,_=>rfl
  |a::b::c::d::l,1,_,_,_=>simp
  |a::b::c::d::l,k+2,_,_,_=>simp
def aal(s:ByteArray)(j:s.size<=maxLen)(w:World) :
  Calls (ah β) 92 #[.string s] w λe l=>e=.returned (.bool (ie s))/\Below w.heap.size w l:=by
 have d:(dz s).1.size<=maxLen/\(dz s).2.1.size<=maxLen:=by
  unfold dz;split
  .exact⟨j,eg _⟩
  .refine⟨?_, ?_⟩
   .show(s.extract _ _).size<=_;rw[<-aM,cV,qj,ef,aM];omega
   .show(s.extract _ _).size<=_;rw[<-aM,cV,qj,ef,aM];omega
 have c:=ab (aks s);have HC:=ab (aB0 (β:=β) s j w);generalize dz s=r at c HC d;obtain⟨a,b,q⟩:=r;dsimp only at c HC d;have n:=ab d.1;have m:=ab d.2;go_enter zF,ntmps92;go_wp2;refine HC.out.mono ?_;rintro e i ⟨rfl,g⟩;go_wp2;refine(aak a n.out i).mono ?_;rintro e o ⟨rfl,rfl⟩;cases k:acR a
 .rw[k] at c;go_wp2;go_ret;exact⟨by rw[c.out];simp,g⟩
 .rw[k] at c;cases q
  .go_wp2;go_ret;exact⟨by rw[c.out];simp,g⟩
  .go_wp2;refine(aak b m.out i).mono ?_;rintro e o ⟨rfl,rfl⟩;cases f:acR b<;>rw[f] at c<;>clear f
   .go_wp2;go_ret;exact⟨by rw[c.out];simp,g⟩
   .go_wp2;go_ret;exact⟨by rw[c.out];simp,g⟩
end
section
variable {β:Bool}
open Go.RowKit
def aok{t : ByteArray}(h:s=t):(s.toList ==t.toList)=true:=by subst h;exact sI _
def am1(xs f:List ByteArray)(K O:Value)(w:World)(T hi H M:Nat)(C:dE w T hi xs [K])(I:dE w H M f [O])(D:hi<=w.heap.size)(E:M<=w.heap.size)(q:Bool)(j:q=true↔xs=f) :
  Calls (ah β) 90 #[K,O] w λe R=>e=.returned (.bool q)/\Below w.heap.size w R:=by
 have z:=ab j;clear j;obtain⟨A,c,rfl⟩:=C.form;obtain⟨B,d,rfl⟩:=I.form;obtain⟨_,hc,Z⟩:=C.len_;unfold maxLen at Z;go_enter zH,ntmps90;by_cases a:xs.length=f.length
 .have X:((xs.length:Int) !=f.length)=false:=by rw[qJ];omega
  replace a:=ab a;go_wp2;go_loopw [13] (λi wr=>∃k:Nat,k<=xs.length/\i=.int .i64 k/\xs.take k=f.take k/\Below w.heap.size w wr) (λi _=>xs.length-(intOf i).toNat)
  case atStart=>exact⟨0,eg _,rfl,rfl,fd _ _⟩
  case round=>
   obtain⟨k,hk,rfl,g,b⟩:=hrel;have P:=ab g;clear g;by_cases u:k<xs.length
   .obtain⟨x,p⟩:=aq u;obtain⟨y,m⟩:=aq (l:=f) (k:=k) (by have:=a.out;omega);obtain⟨b1,Y,rfl,_,_,U,L⟩:=lZ (dE.ar.below C b D) p;obtain⟨b2,iZ,rfl,_,_,V,N⟩:=lZ (dE.ar.below I b E) m;have W:(k:Int)<(f.length:Int):=by have:=a.out;omega
    replace p:=ab p;replace m:=ab m;by_cases g:x=y
    .have Q:=aok g;have v:xs.take (k+1)=f.take (k+1):=by rw[kw p.out,kw m.out,P.out,g]
     replace v:=ab v;clear g;go_wp2;have G:=ae L;have F:=ae N;refine aR (by kernel_rfl) (by kernel_rfl) ?_;repeat(go_big_quiet_step (fail))
     refine ip ?_;intro S r;have j:=bH r;clear r G F;go_wp2;go_roundw
     case rel=>exact⟨k+1,by omega,by go_num,v.out,ag b j⟩
     simp[intOf];omega
    .have Q:=abn (s:=y) (t:=x) g;have o:q=false:=by
      rw[<-nf,z.out];rintro rfl;exact g (dq (p.out.symm.trans m.out))
     have n:=ab o;clear o g;go_wp2;have G:=ae L;have F:=ae N;refine aR (by kernel_rfl) (by kernel_rfl) ?_;repeat(go_big_quiet_step (fail))
     refine ip ?_;intro S r;have j:=bH r;clear r G F;go_wp2;go_ret;exact⟨aD n.out.symm,ag b j⟩
   .obtain rfl:k=xs.length:=by omega
    have J:q=true:=by
     rw[z.out];have:=P.out
     rwa [gc,pu (by have:=a.out;omega)] at this
    have n:=ab J;clear J;go_wp2;go_ret;exact⟨aD n.out.symm,b⟩
 .have X:((xs.length:Int) !=f.length)=true:=by rw[rS];omega
  have o:q=false:=by
   rw[<-nf,z.out];rintro rfl;exact a rfl
  have n:=ab o;clear o;replace a:=ab a;go_wp2;go_ret;exact⟨aD n.out.symm,fd _ _⟩
end
section
variable {β:Bool}
open Go.RowKit
def av7(p s:ByteArray):(bs p).isPrefixOf (bs s)=true↔p.size<=s.size/\s.extract 0 p.size=p:=by
 rw[List.isPrefixOf_iff_prefix,List.prefix_iff_eq_take,aM];constructor
 .intro h;have a:=ga List.length h;rw[ef,aM,aM] at a;exact⟨by omega,nt (by rw[cV,rD];exact h.symm)⟩
 .rintro⟨-,h⟩;have:=ga bs h;rw[cV,rD] at this;exact this.symm
def air(s p:ByteArray)(m:s.size<=100)(l:p.size<=100)(w:World)(q:Bool)(k:q=(bs p).isPrefixOf (bs s)) :
  Calls (ah β) 140 #[.string s,.string p] w λe j=>e=.returned (.bool q)/\w=j:=by
 have b:q=true↔p.size<=s.size/\s.extract 0 p.size=p:=by rw[k,av7]
 replace b:=ab b;by_cases f:p.size<=s.size
 .have i:decide (p.size<=s.size)=true:=dk f;by_cases d:s.extract 0 p.size=p
  .have g:=aok d;have a:q=true:=b.out.2 ⟨f,d⟩;have c:=ab a;go_enter xr,ntmps140;go_wp2;go_ret;exact⟨by rw[c.out];rfl,rfl⟩
  .have g:=abn (s:=p) (t:=s.extract 0 p.size) d;have a:q=false:=by
    rw[<-nf,b.out];exact λh=>d h.2
   have c:=ab a;go_enter xr,ntmps140;go_wp2;go_ret;exact⟨by rw[c.out];rfl,rfl⟩
 .have i:decide (p.size<=s.size)=false:=da f;have a:q=false:=by
   rw[<-nf,b.out];exact λh=>f h.1
  have c:=ab a;go_enter xr,ntmps140;go_wp2;go_ret;exact⟨by rw[c.out];rfl,rfl⟩
def akt(s p:ByteArray)(d:s.size<=100)(b:p.size<=100)(w:World)(q:Bool)(a:q=(bs p).isPrefixOf (bs s)) :
  Calls (ah β) 95 #[.string s,.string p] w λe c=>e=.returned (.bool q)/\w=c:=by
 replace a:=ab a;go_enter zD,ntmps95;go_wp2;refine(air s p d b w q a.out).mono ?_;rintro e f ⟨rfl,rfl⟩;go_wp2;go_ret;exact⟨rfl,rfl⟩
def aB1:bs ⟨#[47]⟩=[47]:=rfl
def aqb(y f:Nd)(n:y.p.size<=3)(l:f.p.size<=3)(g:Nat)(w:World)(i:w.cell? ⟨g,0,none⟩=some (.string f.p)) :
  Calls (ah β) 94 #[.agg #[.string y.p,.string y.b],.pointer (some ⟨g,0,none⟩)] w λe j=>e=.returned (.bool (aaN y.p f.p))/\Below w.heap.size w j:=by
 have d:=av w (.cells #[.string y.p,.string y.b] 102);have k:(w.alloc (.cells #[.string y.p,.string y.b] 102)).cell? ⟨g,0,none⟩=some (.string f.p):=(qy (d.block g (eW i))).trans i;have a:(y.p++⟨#[47]⟩:ByteArray).size<=100:=by
  rw[<-aM,iQ,aE,aM,aB1,mp];omega
 have c:aaN y.p f.p=(bs (y.p++⟨#[47]⟩)).isPrefixOf (bs f.p):=by rw[iQ,aB1];unfold aaN;exact Eq.refl _
 replace c:=ab c;replace a:=ab a;go_enter xU,ntmps94;go_wp2;have b:f.p.size<=100:=by omega
 have HC:=akt (β:=β) f.p (y.p++⟨#[47]⟩) b a.out (w.alloc (.cells #[.string y.p,.string y.b] 102)) (aaN y.p f.p) c.out;refine HC.mono ?_;rintro e m ⟨rfl,rfl⟩;go_wp2;go_ret;exact⟨rfl,d⟩
def av8:acr (β:=β) 94:=ae2 xU (by kernel_rfl) rfl
def ais(f:Nd)(I:f.p.size<=3)(xs:List Nd)(n:Nat)(Q:n<=xs.length)(o:∀y∈xs.take n,y.p.size<=3)(A:Option Addr)(c g:Nat)(w:World)(L hi:Nat)(h:fX w L hi xs [.slice A xs.length c])(H:hi<=w.heap.size)(C:w.cell? ⟨g,0,none⟩=some (.string f.p)) :
  Calls (ah β) 139 #[.slice A n c,.func (.func 94) #[] #[.pointer (some ⟨g,0,none⟩)]] w λe B=>∃j:Int,e=.returned (.int .i64 j)/\((0<=j/\∃k y,k<n/\xs[k]?=some y/\aaN y.p f.p=true)\/(j=-1/\∀k y,k<n->xs[k]?=some y->aaN y.p f.p=false))/\Below w.heap.size w B:=by
 obtain⟨_,O,K⟩:=h.1.len_;unfold maxLen at K;have u:=eW C;replace o:=ab o;go_enter yY,ntmps139;go_wp2;go_loopw [8] (λi wr=>∃k:Nat,k<=n/\i=.int .i64 k/\(∀j y,j<k->xs[j]?=some y->aaN y.p f.p=false)/\Below w.heap.size w wr) (λi _=>n-(intOf i).toNat)
 case atStart=>exact⟨0,eg _,rfl,λj y E=>absurd E (sT j),fd _ _⟩
 case round=>
  obtain⟨k,N,rfl,a,r⟩:=hrel;replace a:=ab a;have z:wr.cell? ⟨g,0,none⟩=some (.string f.p):=(qy (r.block g u)).trans C;by_cases q:k<n
  .obtain⟨x,p⟩:=aq (l:=xs) (k:=k) (by omega);obtain⟨b,J,rfl,_,_,F,G,M⟩:=mb (fX.ar.below h r H) p;have s:x.p.size<=3:=o.out x (by
    have:(xs.take n)[k]?=some x:=by rw[qE,du q];exact p
    exact db this)
   replace p:=ab p;have P:=av8 (β:=β) (#[.agg #[.string x.p,.string x.b]]++#[.pointer (some ⟨g,0,none⟩)]) wr;go_wp2;refine(aqb x f s I g wr z).mono ?_;rintro e B ⟨rfl,m⟩;replace m:=ag r m;cases d:aaN x.p f.p
   .have t:∀j y,j<k+1->xs[j]?=some y->aaN y.p f.p=false:=λj y E v=>by
     rcases pm j k with D|D
     .exact a.out j y D v
     .obtain rfl:j=k:=by omega
      rw[p.out] at v;cases v;exact d
    replace t:=ab t;go_wp2;go_roundw
    case rel=>exact⟨k+1,by omega,by go_num,t.out,m⟩
    simp[intOf];omega
   .replace d:=ab d;go_wp2;go_ret;exact⟨k,rfl,.inl ⟨by omega,k,x,q,p.out,d.out⟩,m⟩
  .obtain rfl:k=n:=by omega
   go_wp2;go_ret;exact⟨-1,rfl,.inr ⟨rfl,a.out⟩,r⟩
def pw(f:Nd)(l:f.p.size<=3)(xs:List Nd)(n:Nat)(r:n<=xs.length)(b:∀y∈xs.take n,y.p.size<=3)(A:Option Addr)(c g:Nat)(w:World)(i hi:Nat)(h:fX w i hi xs [.slice A xs.length c])(t:hi<=w.heap.size)(p:w.cell? ⟨g,0,none⟩=some (.string f.p)) :
  Calls (ah β) 93 #[.slice A n c,.func (.func 94) #[] #[.pointer (some ⟨g,0,none⟩)]] w λe m=>∃q:Bool,e=.returned (.bool q)/\((q=true/\∃k y,k<n/\xs[k]?=some y/\aaN y.p f.p=true)\/(q=false/\∀k y,k<n->xs[k]?=some y->aaN y.p f.p=false))/\Below w.heap.size w m:=by
 replace b:=ab b;go_enter zE,ntmps93;go_wp2;refine(ais f l xs n r b.out A c g w i hi h t p).mono ?_;rintro e u ⟨j,rfl,s,d⟩;rcases s with⟨o,a⟩|⟨rfl,a⟩
 .have v:decide (0<=j)=true:=dk o;replace a:=ab a;go_wp2;go_ret;exact⟨true,rfl,.inl ⟨rfl,a.out⟩,d⟩
 .replace a:=ab a;go_wp2;go_ret;exact⟨false,rfl,.inr ⟨rfl,a.out⟩,d⟩
end
section
variable {β:Bool}
open Go.RowKit
def fp(l:List ByteArray):List UInt8:=l.flatMap λs=>s.data.toList
def ag6(l:List ByteArray):(fp l).map UInt8.toNat=iV l:=by
 unfold fp iV;rw[List.map_flatMap];rfl
def afI(l:List ByteArray):∀b∈iV l,b<256:=λb a=>by
 obtain⟨s,_,a⟩:=qo.1 a;exact ary b a
def aqc(l:List ByteArray):(⟨(fp l).toArray⟩:ByteArray)=rR (iV l):=nt (by
 rw[anJ (afI l),<-ag6];rfl)
def abL{l:List ByteArray}{x:ByteArray}(h:l[k]?=some x):fp (l.take (k+1))=fp (l.take k)++x.data.toList:=by
 rw[kw h];unfold fp;rw[sb];simp
def adn:∀{l:List ByteArray},(∀s∈l,s.size<=8)->(fp l).length<=8*l.length
 |[],_=>eg _
 |x::l,h=>by
  have b:=adn (l:=l) λs a=>h s (by simp[a]);have d:=h x (by simp);show(x.data.toList++fp l).length<=_;have c:x.data.toList.length=x.size:=by rw[qS];rfl
  rw[aE,fi];omega
def gK(h:bA (bs s)):1<=s.size/\s.size<=8:=by have:=h.1;rw[aM] at this;exact this
def atc(x:ByteArray):x.data.toList.length=x.size:=by rw[qS];rfl
def axx(x:ByteArray)(l:List UInt8):Lib.byteCells l++Lib.strCells x=Lib.byteCells (l++x.data.toList):=by
 simp[Lib.byteCells,Lib.strCells]
def azo(l:List ByteArray)(t:∀s∈l,bA (bs s))(hl:l.length<=2147483647)(v:Value)(w:World)(lo hi:Nat)(h:dE w lo hi l [v])(V:hi<=w.heap.size) :
  Calls (ah β) 88 #[v,.string ⟨#[]⟩] w λe w'=>e=.returned (.string (rR (iV l)))/\Below w.heap.size w w':=by
 obtain⟨A,c,rfl⟩:=h.form;obtain⟨_,hc,N⟩:=h.len_;unfold maxLen at N;replace t:=ab t;rcases pm l.length 2 with I|nY
 .rcases pv l.length with O|O
  .obtain rfl:=qh.1 O;go_enter xE,ntmps88;go_wp2;exact pb (v:=.string ⟨#[]⟩) (by simp[results,results88,go_sem]) rfl ⟨rfl,fd _ _⟩
  .obtain⟨x,rfl⟩:=tL.1 (show l.length=1 by omega);obtain⟨b,o,rfl,_,_,F,H⟩:=lZ h (k:=0) rfl;rw[sM] at H;have Q:rR (iV [x])=x:=by show rR (bs x++[])=x;rw[su,aw3]
   replace Q:=ab Q;go_enter xE,ntmps88;go_wp2;exact pb (v:=.string x) (by simp[results,results88,go_sem]) rfl ⟨by rw[Q.out],fd _ _⟩
 .have t0:((l.length:Int) ==0)=false:=de.2 (by omega);have t1:((l.length:Int) ==1)=false:=de.2 (by omega);go_enter xE,ntmps88;go_wp2
  go_loop [5,41] (λnn D=>∃k:Nat,k<=l.length/\D=.int .i64 k/\nn=.int .i64 (fp (l.take k)).length/\(fp (l.take k)).length<=8*k) (λ_ D=>l.length-(intOf D).toNat)
  case atStart=>exact⟨0,eg _,rfl,rfl,eg _⟩
  case round=>
   obtain⟨k,hk,rfl,rfl,B⟩:=hrel;by_cases I:k<l.length
   .obtain⟨x,M⟩:=aq I;obtain⟨b,o,rfl,_,_,F,H⟩:=lZ h M;have S:=(gK (t.out x (db M))).2;have d:(fp (l.take (k+1))).length=(fp (l.take k)).length+x.size:=by rw[abL M,aE,atc]
    have HST:=ab d;clear d M;obtain⟨n,E⟩:∃n,n=(fp (l.take k)).length:=⟨_,rfl⟩;rw[<-E] at B HST ⊢;clear E;have t3:=da (show ¬(9223372036854775807-(n:Int)<(x.size:Int)) by omega);go_wp2
    go_round
    case rel=>exact⟨k+1,by omega,by go_num,by rw[HST.out];go_num,by rw[HST.out];omega⟩
    simp[intOf];omega
   .obtain rfl:k=l.length:=by omega
    rw[gc] at B ⊢;obtain⟨n,E⟩:∃n,n=(fp l).length:=⟨_,rfl⟩;rw[<-E] at B ⊢;have HN:=ab E;clear E;go_wp2;generalize r:w.alloc (.cells #[.pointer none,.slice none 0 0] 183)=w0;have jk:w0.heap[w.heap.size]?=some (.cells #[.pointer none,.slice none 0 0] 183 (0,0)):=by
     rw[<-r];show(w.heap.push _)[w.heap.size]?=_;rw[rh]
    have u:Below w.heap.size w w0:=by rw[<-r];exact(fd _ w).alloc (am _) _
    refine(anM w.heap.size w.heap.size n w0 (am _) jk u.size (by omega)).mono ?_;rintro e w2 ⟨rfl,f,g⟩;replace g:=u.trans g;clear u jk r;obtain⟨x,a⟩:=aq (l:=l) (k:=0) (by omega);obtain⟨b,o,rfl,_,_,F,H⟩:=lZ (dE.ar.below h g V) a;rw[sM] at H;have S:=(gK (t.out x (db a))).2;have d:x.data.toList=fp (l.take 1):=by rw[abL (k:=0) a];simp[fp]
    have J:1<=x.size:=(gK (t.out x (db a))).1;have T:=ab J;have q:x=l.headD ⟨#[]⟩:=by
     cases l with
     |nil=>simp at a
     |cons y m=>simp at a;rw[a];rfl
    replace q:=ab q;have HST:=ab d;clear d a J;go_wp2;refine(pZ w.heap.size w.heap.size [] x w2 (.inr (.of f)) (by show 0+x.size<=_;omega) g.size).mono ?_;rintro e w3 ⟨rfl,C,p⟩;replace p:=g.trans p;have Z:([]:List Value)++Lib.strCells x=Lib.byteCells (fp (l.take 1)):=by
     have:=axx x [];rw[rH,HST.out] at this;exact this
    rw[Z] at C;clear g f Z H HST;go_wp2;have R:l.length-1+1=l.length:=by omega
    go_loopw [65] (λD wr=>∃k:Nat,k+1<=l.length/\D=.int .i64 k/\Lib.IsBuilderF 183 5 w.heap.size w.heap.size (Lib.byteCells (fp (l.take (k+1)))) wr/\Below w.heap.size w wr) (λD _=>l.length-(intOf D).toNat)
    case atStart=>exact⟨0,by omega,rfl,.inr C,p⟩
    case round=>
     clear C p;obtain⟨k,hk,rfl,f,i⟩:=hrel;have W:(Lib.byteCells (fp (l.take (k+1)))).length<=8*l.length:=by
      rw[rU];refine ap (adn λs hs=>(gK (t.out s (qf hs))).2) ?_;rw[ef];omega
     by_cases a1:k<l.length-1
     .obtain⟨y,L⟩:=aq (l:=l) (k:=k+1) (by omega);obtain⟨b1,a3,U,_,_,a0,d0⟩:=lZ (dE.ar.below h i V) L;simp only[lP,qB,qx] at U;obtain⟨rfl,rfl⟩:=U;rw[show o+(k+1)=o+1+k by omega] at d0;have a2:=(gK (t.out y (db L))).2;have d:=abL L;have HST:=ab d;clear d L;go_wp2;refine(pZ w.heap.size w.heap.size _ ⟨#[]⟩ wr f (by show _+0<=_;omega) i.size).mono ?_;rintro e w4 ⟨rfl,z,j⟩;replace j:=i.trans j;have X:Lib.byteCells (fp (l.take (k+1)))++Lib.strCells ⟨#[]⟩=Lib.byteCells (fp (l.take (k+1))):=su _;rw[X] at z;clear f i X;go_wp2;refine(pZ w.heap.size w.heap.size _ y w4 (.inr z) (by omega) j.size).mono ?_;rintro e w5 ⟨rfl,K,G⟩;replace G:=j.trans G;rw[axx,<-HST.out] at K;clear z j;go_wp2;go_roundw
      case rel=>exact⟨k+1,by omega,by go_num,.inr K,G⟩
      simp[intOf];omega
     .obtain rfl:k=l.length-1:=by omega
      rw[R,gc] at f;have P:fp l≠[]:=by
       intro O;have N:x.data.toList <+: fp l:=by
        obtain⟨y,m,rfl⟩:∃y m,l=y::m:=by
         cases l with
         |nil=>simp at nY
         |cons y m=>exact⟨y,m,rfl⟩
        have e:=q.out;show x.data.toList <+: _;have e:x=y:=e;rw[e];exact⟨fp m,by simp[fp]⟩
       rw[O] at N;have:=List.prefix_nil.1 N;have Y:=atc x;rw[this] at Y;have:=T.out;simp at Y;omega
      have HJ:=ab (aqc l);go_wp2;refine(ac8 w.heap.size w.heap.size (fp l) wr f P).mono ?_;rintro e w5 ⟨rfl, -,G⟩;go_wp2;exact pb (v:=.string ⟨(fp l).toArray⟩) (by simp[results,results88,go_sem]) rfl ⟨by rw[HJ.out],i.trans G⟩
end
section
variable {β:Bool}
open Go.RowKit
def ado:Op->Bool
 |.move .. | .assign .. | .load .. | .slice .. | .buildSlice .. | .store .. =>true
 |.call c=>match c.callee with
  |.builtin .append=>true
  |_=>false
 |_=>false
def atd{P:Program}{o:Oper}(h:ado o.op=true){ρ:Operand->Value}{i:Next}(d:(execOp ρ o).run P w=.ok i w'):(∃v,i=.value v)\/i=.skip:=by
 obtain⟨dst,op,j,k,after,g⟩:=o;cases op<;>simp only[ado,li] at h
 case call c=>
  obtain⟨a,args,e⟩:=c;cases a with
  |value x=>cases h
  |invoke x n=>cases h
  |builtin b=>
   cases b<;>first
    |(exfalso;cases h;done)
    |(revert d
      simp only[execOp,resolve,invoke,builtin,tQ,uk,uz];generalize (Sem.run P (Builtin.append_ _ _ _) w:Result _)=r;cases r with
      |ok v f=>simp only[Result.andThen];intro d;cases d;exact .inl ⟨_,rfl⟩
      |halt x f=>simp[Result.andThen])
 all_goals
  revert d;simp only[execOp,tQ,uk]
 all_goals
  first
   |(intro d;cases d;exact .inl ⟨_,rfl⟩)
   |(generalize (Sem.run P _ w:Result _)=r
     cases r with
     |ok v f=>simp only[Result.andThen];intro d;cases d;first|exact .inl ⟨_,rfl⟩|exact .inr rfl
     |halt x f=>simp[Result.andThen])
section
variable {F:Fence} {m:Nat} {P:Program} {Q:Exit->Act->World->Prop} {md:Region.Mode} {ops:Array Oper}
def av9{o:Oper}{r:Result Next}(e:∀b c,r=.ok b c->(∃v,b=.value v)\/b=.skip)(d:∀a w,X a w->W a w)(h:o.upon P a X Q r):o.uponIn F m P a W Q r:=by
 cases r with
 |ok b c=>
  rcases e b c rfl with⟨v,rfl⟩|rfl
  .exact d _ _ h
  .exact d _ _ h
 |halt x c=>cases x<;>first|exact h|exact h.elim
def awa(k:∀f,F.fn f)(p:∀o∈ops,ado o.op=true)(n:¬LetsOut Q)(j:∀a w,X a w->W a w)(h:wpOp P ops Q i X a w):wpOpIn F m P ops Q i W a w:=by
 unfold wpOp at h;unfold wpOpIn;cases e:ops[i]? with
 |none=>rw[e] at h;exact j _ _ h
 |some o=>
  rw[e] at h;have b:=p o (qI e);dsimp only at h ⊢;split
  .rename_i d;rw[du d] at h;rcases h with h|h
   .refine⟨λf _=>k f, ?_⟩;rw[Oper.semAt_plain F _ _ (by intro c g;rw[g] at b;cases b)];exact av9 (λr q l=>atd b l) j h
   .exact absurd h.2 n
  .rename_i d;rw[be d] at h;exact⟨λf _=>k f,j _ _ h⟩
def aku(e:∀f,F.fn f)(d:∀o∈ops,ado o.op=true)(c:¬LetsOut Q):∀(k:Nat) (b:Array Bool) (a:Act) (w:World),wpAny P md ops Q k b a w->wpAnyIn F m P md ops Q k b a w
 |0,_,_,_,h=>h
 |k+1,b,a,w,h=>⟨h.1,λi g=>awa e d c (λa w h=>aku e d c k _ a w h) (h.2 i g)⟩
end
section
variable {F:Fence} {m:Nat} {P:Program} {Q:Exit->Act->World->Prop} {X:Type} [Nonempty X] [bm X]
def akv (A:∀f,F.fn f) {l:List Oper} (c:(l.all λo=>ado o.op)=true) (s:¬LetsOut Q)  (to:X->World) (le:X->X->Prop) (k:∀x,le x x) (n:Nat) (g j:List Nat) (v:P.follows .mixedOrders=true) (z:ajs l n g j=true) (p:aeV l.toArray n a.tmps.size=true)
  (b:X) (d:∀m,m<=n->bm.live m b) (e:∀i,i<n->bm.pend i b) (t:to b=w.drew)
  (h:wpQuiet P l.toArray (λr=>∃x,r=to x) (λy=>∃u,dg P l.toArray to le (wpList P l.toArray Q (l.drop n)) (pick l j) [] u y) ((pick l g).map (·.2)) a):(Code.region Z l.toArray true).wpIn F m P Q a w:=
 wpIn_region_any v (aku A (λo q=>lE.1 c o (by simpa using q)) s _ _ _ _ (ajt to le k n g j z p b d e t h))
def agc (r:∀f,F.fn f) {l:List Oper} (b:(l.all λo=>ado o.op)=true) (i:¬LetsOut Q)  (n:Nat) (c d:List Nat) (k:P.follows .mixedOrders=true) (q:ajs l n c d=true) (e:aeV l.toArray n a.tmps.size=true)
  (h:wpQuiet P l.toArray (λg=>∃x:fB w,g=x.to) (λp=>∃j:List (jl (fB w)),dg P l.toArray (fB.to (w:=w)) (fB.le (w:=w)) (wpList P l.toArray Q (l.drop n)) (pick l d) [] j p) ((pick l c).map (·.2)) a):(Code.region Z l.toArray true).wpIn F m P Q a w:=
 akv r b i (fB.to (w:=w)) (fB.le (w:=w)) fB.le_refl n c d k q e ⟨w.drew,⟨rfl,rfl,rfl,am _,λ_ _=>rfl⟩⟩ (λ_ _=>trivial) (λ_ _=>trivial) rfl h
end
end
section
variable {β:Bool}
open Go.RowKit Go.Shelf
attribute [local go_sem] Oper.semAt_some
def Prs(l:List Nat):Nat->List (Nat×Nat)->Nat->Prop
 |a,[],b=>a=b
 |a,x::xs,b=>a<l.length/\x=(a,pH l a)/\Prs l (pH l a) xs b
def Prs.snoc{l:List Nat}:∀{a:Nat} {c:List (Nat×Nat)} {b:Nat},Prs l a c b->b<l.length->Prs l a (c++[(b,pH l b)]) (pH l b)
 |a,[],b,h,h1=>by
  have h:a=b:=h;subst h;exact⟨h1,rfl,rfl⟩
 |a,x::c,b,⟨h2,h3,h4⟩,h1=>⟨h2,h3,h4.snoc h1⟩
def Prs.len{l:List Nat}:∀{a:Nat} {c:List (Nat×Nat)} {b:Nat},Prs l a c b->a+c.length<=b
 |a,[],b,h=>by
  have h:a=b:=h;simp;omega
 |a,x::c,b,⟨h1,_,h⟩=>by
  have:=h.len;have:=(eO h1).1;simp only[fi];omega
def Prs.ends{l:List Nat}:∀{a:Nat} {c:List (Nat×Nat)} {b:Nat},Prs l a c b->dF l a (c.map λx=>(x.2:Int)) b
 |a,[],b,h=>h
 |a,x::c,b,⟨h1,e,h⟩=>⟨h1,by rw[e],h.ends⟩
def eh(s:ByteArray)(xs:List (Nat×Nat)):List ByteArray:=xs.map λx=>s.extract x.1 x.2
def Prs.pieces{l:List Nat}:∀{a:Nat} {c:List (Nat×Nat)} {b:Nat},Prs l a c b->eh s c=bY s a (c.map λx=>(x.2:Int))
 |a,[],b,h=>rfl
 |a,x::c,b,⟨h1,e,h⟩=>by
  show s.extract x.1 x.2::eh s c=s.extract a (x.2:Int).toNat::bY s (x.2:Int).toNat _;rw[e,tf,h.pieces]
def Prs.cut{xs:List (Nat×Nat)}(h:Prs (bs s) 0 xs s.size):eh s xs=im s:=by
 rw[h.pieces,aob h.ends]
def xg(h:Below w.heap.size w w'):w.grownBy w' none:=⟨h.os,h.tape,h.output,h.size,λk a _=>h.block k a⟩
def aqd {W : World} {n₀ B : Nat}  {v' : Value} {m : Nat} {xs y:List Value}
  (z:Boxed W B t v) (l:t≠e) (c:W.ownsRow Z e V v k xs) (r:n₀<=W.heap.size) (x:n₀<=Z) (D:n₀<=B)
  (b:w.ownsRow Z e V v' m y) (a:W.grownBy w v.ownBlock) :
  Boxed w B t v/\Boxed (w.setCell ⟨B,0,none⟩ v') B t v'/\(w.setCell ⟨B,0,none⟩ v').ownsRow Z e V v' m y/\KeepsOthers W (w.setCell ⟨B,0,none⟩ v')/\Below n₀ W (w.setCell ⟨B,0,none⟩ v')/\(∀k,k<Z->k<W.heap.size->k≠B->(w.setCell ⟨B,0,none⟩ v').heap[k]?=W.heap[k]?):=by
 have f:Boxed w B t v:=z.kept a (z.not_row l c);have i:∀j,v.ownBlock=some j->Z<=j:=λj d=>by
  rcases c.2 with⟨rfl,_⟩|⟨g,cap,s,rfl,C,_,_⟩
  .simp[Value.ownBlock] at d
  .obtain rfl:g=j:=by simpa[Value.ownBlock] using d
   exact C
 refine⟨f,f.set v',b.kept (grownBy_setCell' w B v') (.inr (f.not_row l b).symm), ?_, ?_, ?_⟩
 .refine(wu a λj o d A=> ?_).trans (KeepsOthers.setCell _ _ _);rcases c.2 with⟨rfl,_⟩|⟨g,cap,s,rfl,_,u,_⟩
  .simp[Value.ownBlock] at d
  .obtain rfl:g=j:=by simpa[Value.ownBlock] using d
   rw[u] at A;cases A;rfl
 .exact((fd n₀ W).grown a r λj d=>ap x (i j d)).setCell (p:=⟨B,0,none⟩) D v'
 .intro k E q n;exact(jn _ _ _ k n).trans (a.block k q λd=>by have:=i k d.symm;omega)
def aqe(h:bj (λb=>v.ownBlock=some b) w w'):w.grownBy w' v.ownBlock:=⟨h.os,h.tape,h.output,h.size,λk c a=>h.block k c λe=>a e.symm⟩
structure PrC (n:Nat) where
 p:Nat×Nat
 le:p.1<=p.2/\p.2<=n
abbrev azq{n:Nat}(x:PrC n):Array Value:=#[.int .i64 x.p.1,.int .i64 x.p.2]
abbrev nD{n:Nat}(xs:List (PrC n)):List (Nat×Nat):=xs.map PrC.p
def atf (n:Nat) (hn:2<=n) (l j n₀:Nat) (s:ByteArray) (V:s.size<=1000000) (J H:List (PrC s.size)->World->Prop) (W:World) (U:AbidesFrom W.heap.size J)
  (R:∀b x W,J b W->b.length<s.size->YieldAt Fence.wide (n-1) (ah β) l (azq x) W λe W'=>
   (e=.returned (.bool true)/\J (b++[x]) W'/\KpB n₀ j W W')\/(e=.returned (.bool false)/\H (b++[x]) W'))
  (p:Boxed W j 9 (.string s)) (Q:n₀<=W.heap.size) (N:J [] W) :
  CallsIn Fence.wide n (ah β) 155 #[.func (.yield l) #[] #[],.pointer (some ⟨j,0,none⟩)] W λe W'=>(∃v,e=.returned v)/\
   ((∃M,Prs (bs s) 0 (nD M) s.size/\J M W')\/(∃b,(∃m,Prs (bs s) 0 (nD b) m)/\H b W')):=by
 refine callsIn_of_wp xJ rfl trivial ?_ rfl;simp only[ntmps155,tM,fi,mT,Nat.reduceAdd,Nat.reduceSub,vj,vh,vO,vz,rH,rq];have Z:=p.lt;have T:Fence.wide.fn 156:=trivial;have Y:1<=n:=by omega
 gi_wp2
 gi_loopw [3] (λi wr=>∃(k:Nat) (f:List (PrC s.size)),k<=s.size/\i=.int .i64 k/\Prs (bs s) 0 (nD f) k/\J f wr/\KpB n₀ j W wr/\W.heap.size<=wr.heap.size) (λi _=>s.size-(intOf i).toNat)
 case atStart=>exact⟨0,[],eg _,rfl,rfl,N,KpB.refl,am _⟩
 case round=>
  obtain⟨k,f,hk,rfl,A,o,I,S⟩:=hrel;have D:Boxed wr j 9 (.string s):=I.2.trans p;have O:=D.cell;by_cases g:k<s.size
  .gi_wp2_with (gi_at_call 156;refine(callsIn_wide.2 (av5 s k g V wr)).mono ?_;rintro e t ⟨rfl,u⟩)
   have y:J f t:=U f wr t none o (xg u) (λr e=>by cases e);have z:KpB n₀ j W t:=I.t ⟨u.mono (by omega),u.block j (by omega)⟩;have P:=u.size;have E:=A.snoc (by rw[aM];exact g);have B:=eO (l:=bs s) (a:=k) (by rw[aM];exact g);rw[aM] at B;obtain⟨fn,K,w,G,L,X⟩:=R f ⟨(k,pH (bs s) k),by show k<=pH (bs s) k/\pH (bs s) k<=s.size;omega⟩ t y (by have:=A.len;rw[qg] at this;omega);dsimp only[azq] at L;rw[L];have d:Prs (bs s) 0 (nD (f++[⟨(k,pH (bs s) k),by show k<=pH (bs s) k/\pH (bs s) k<=s.size;omega⟩])) (pH (bs s) k):=by
    show Prs (bs s) 0 (List.map PrC.p (f++_)) _;rw[qZ];exact E
   replace d:=ab d;gi_wp2;refine X.mono ?_;rintro e W3 (⟨rfl,C,q⟩|⟨rfl,F⟩)
   .gi_wp2;go_roundw
    case rel=>exact⟨pH (bs s) k,_,by omega,rfl,d.out,C,z.t q,by have:=q.1.size;omega⟩
    simp[intOf];omega
   .gi_wp2;refine pb (results_none rfl _ _ _) rfl ?_;exact⟨⟨_,rfl⟩,.inr ⟨_,⟨_,d.out⟩,F⟩⟩
  .obtain rfl:k=s.size:=by omega
   gi_wp2
   go_end0
   exact⟨⟨_,rfl⟩,.inl ⟨_,A,o⟩⟩
def am2(n:Nat)(k:2<=n)(a n₀:Nat)(s:ByteArray)(i:s.size<=1000000)(w:World)(b:a<w.heap.size)(d:n₀<=w.heap.size)(p:Boxed w a 9 (.string s)) :
  SeqStopsK Fence.wide n (ah β) 155 #[.pointer (some ⟨a,0,none⟩)] azq (KpB n₀ a) (λo:List (PrC s.size)=>Prs (bs s) 0 (nD o) s.size) (λc=>∃m,Prs (bs s) 0 (nD c) m) s.size w:=λl J j W e f _ q g=>
 atf n k l a n₀ s i J j W f q ((e.block a b).trans p) (ap d e.size) g
def awb(n:Nat)(s:ByteArray)(w:World) :
  CallsIn Fence.wide n (ah β) 136 #[.string s] w λe a=>e=.returned (.func (.func 155) #[] #[.pointer (some ⟨w.heap.size,0,none⟩)])/\a=w.alloc (.cells #[.string s] 9):=by
 refine callsIn_of_wp zc rfl trivial ?_ rfl;simp only[ntmps136,tM,fi,mT,Nat.reduceAdd,Nat.reduceSub,vj,vh,vO,vz,rH,rq];gi_wp2;go_ret;exact⟨rfl,rfl⟩
def aqf(n:Nat)(hn:6<=n)(s:ByteArray)(G:dN s=true)(w:World) :
  CallsIn Fence.wide n (ah β) 91 #[.string s] w λe W'=>∃v,e=.returned v/\aJ iJ 9 W' w.heap.size v (im s)/\Below w.heap.size w W':=by
 have h1:1<=n:=by omega
 have aa:Fence.wide.fn 89:=trivial;have aL:Fence.wide.fn 136:=trivial;have ad:s.size<=40:=by unfold dN at G;rw[ff] at G;exact sZ G.1
 have H:s.size<=maxLen:=by unfold maxLen;omega
 have HS:=ab G;replace H:=ab H;refine callsIn_of_wp_marks zG rfl trivial ?_ rfl;simp only[ntmps91,tM,fi,mT,Nat.reduceAdd,Nat.reduceSub,vj,vh,vO,vz,rH,rq]
 gi_wp2_with (first|(gi_at_call 89;refine(callsIn_wide.2 (nT s H.out _)).mono ?_;rintro e w' ⟨rfl,rfl⟩;rw[HS.out])|(gi_at_call 136;refine(awb (n-1) s _).mono ?_;rintro e w' ⟨rfl,rfl⟩))
 have bS:=((Boxed.new w 9 (.string s)).alloc (.cells #[.slice none 0 0] 83)).alloc (.cells #[.string s] 9);have bO:=(Boxed.new (w.alloc (.cells #[.string s] 9)) 83 (.slice none 0 0)).alloc (.cells #[.string s] 9);have S:=Boxed.new ((w.alloc (.cells #[.string s] 9)).alloc (.cells #[.slice none 0 0] 83)) 9 (.string s);simp only[oS] at bO S;have N:Below w.heap.size w (((w.alloc (.cells #[.string s] 9)).alloc (.cells #[.slice none 0 0] 83)).alloc (.cells #[.string s] 9)):=(((fd _ w).alloc (am _) _).alloc (by simp) _).alloc (by simp;omega) _;have hz:(((w.alloc (.cells #[.string s] 9)).alloc (.cells #[.slice none 0 0] 83)).alloc (.cells #[.string s] 9)).heap.size=w.heap.size+3:=by simp
 obtain⟨W0,V⟩:∃W0,((w.alloc (.cells #[.string s] 9)).alloc (.cells #[.slice none 0 0] 83)).alloc (.cells #[.string s] 9)=W0:=⟨_,rfl⟩;try simp only[oS]
 rw[V] at bS bO S N hz ⊢;refine wpIn_rangeFunc_ownH rfl h1 (gf:=155) (lb:=#[.pointer (some ⟨w.heap.size+1+1,0,none⟩)]) rfl trivial (enters_of xJ (by kernel_rfl) rfl)
  (am2 (n-1) (by omega) (w.heap.size+1+1) w.heap.size s (by omega) W0 (by omega) (by omega) S) KpB.t
  (λW l o o' hl h hc hw=>⟨belowK_b (w:=w) (am _) W l o o' (by omega) h hc hw,World.putObj_heap_other (by omega)⟩) (fd _ _) (λ_=>rfl)
  (λb W=>(((∃v,Boxed W (w.heap.size+1) 83 v/\W.ownsRow W0.heap.size 9 1 v b.length (dA iJ (eh s (nD b)))/\True)/\Boxed W w.heap.size 9 (.string s))/\Boxed W (w.heap.size+1+1) 9 (.string s))/\Below w.heap.size w W)
  (λ_ _ _=>False)
  (OwnFrom.and (OwnFrom.and (OwnFrom.and (Own.from (holdsRow_own W0.heap.size (w.heap.size+1) 83 9 1 (λb:List (PrC s.size)=>b.length) (λb=>dA iJ (eh s (nD b))) (λ_ _=>True)) _) (Own.from (boxed_own _ _ _) _)) (Own.from (boxed_own _ _ _) _)) (ownFrom_below (am _) (by omega)))
  (λ_ _ _ _ _ G _ _=>G)
  ⟨⟨⟨⟨_,bO,uy _ _ _ _,trivial⟩,bS⟩,S⟩,N⟩
  (λx Z W=>Z={tmps:=#[.string s,.pointer (some ⟨w.heap.size,0,none⟩),.slice none 0 0,.pointer (some ⟨w.heap.size+1,0,none⟩),.int .i64 x.p.1,.int .i64 x.p.2,.string s,.bool true,.bool false,.string s,.func (.func 155) #[] #[.pointer (some ⟨w.heap.size+1+1,0,none⟩)],.int .i64 x.p.1,.int .i64 x.p.2,undef,undef,undef,undef,undef,undef,undef,undef],defers:=[]})
  (λx Z _ X Y af G hg hr=>G)
  ?assign ?body ?done ?stop
 case assign=>
  rintro l b x W K ⟨⟨⟨⟨v,f,d, -⟩,t⟩,u⟩,i⟩ O;gi_wp2;exact O _ _ ((KeepsOthers.refl _).from _) KpB.refl ⟨⟨⟨⟨v,f,d,trivial⟩,t⟩,u⟩,i⟩ rfl
 case body=>
  rintro l b x Z W hl ⟨r,hr⟩ ⟨⟨⟨⟨v,f,d, -⟩,t⟩,u⟩,i⟩ rfl al;obtain⟨⟨B,z⟩,m,q⟩:=x;dsimp only at m q ⊢;have a1:eh s (nD (b++[⟨(B,z),m,q⟩]))=eh s (nD b)++[s.extract B z]:=by simp[eh,nD]
  have cO:W.cell? ⟨w.heap.size+1,0,none⟩=some v:=f.cell;have cS:W.cell? ⟨w.heap.size,0,none⟩=some (.string s):=t.cell;have I:=aef (β:=β);have a0:=i.size;gi_wp2;have aH:=ae cO;have aI:=ae cS;refine agc (λ_=>trivial) (by kernel_rfl) (by rintro⟨a,w,h⟩;exact h) 6 [0,1,2,3,4] [5] I (by kernel_rfl) (by kernel_rfl) ?_;simp only[pick,List.map,gt,gE];repeat(go_big_quiet_step (fail))
  refine ip ?_;apply Exists.intro;apply aY (alN W.heap.size 9 #[.string (s.extract B z)])
  .rfl
  .exact λv x y h a8=>h.keep a8
  .intro x _ Qx hQ;go_wp2;exact hQ _ _ (av _ _) (alN.new _ _ _ x.ok.size)
  intro v5;refine aQ ?_;intro w2 p xx cU hF;dsimp only[dQ] at hF;try rw[cU] at hF
  obtain⟨⟨g,rfl,hg,a2⟩, -⟩:=hF;simp only[List.drop];have ax:=p.size;have ao:l<W.heap.size:=(dl.1 hr).1;have L:=aeU d p;have a5:Boxed w2 (w.heap.size+1) 83 v:=(p.block _ f.lt).trans f;obtain⟨A,c,rfl⟩:=iv d;refine agD (F:=iJ) (base:=W0.heap.size) (v:=.slice A b.length c) (xs:=eh s (nD b)) rfl (.tmp 13) (.tmp 18) 83 rfl acH (s.extract B z) rfl (by unfold aJ;rw[show(eh s (nD b)).length=b.length from by simp[eh,nD]];exact L) rfl a2 rfl (by rw[show(eh s (nD b)).length=b.length from by simp[eh,nD]];omega) (by omega) ?_;intro v3 w3 R nz a9;have ay:(eh s (nD b)++[s.extract B z]).length=(b++[(⟨(B,z),m,q⟩:PrC s.size)]).length:=by simp[eh,nD]
  unfold aJ at R;rw[<-a1,show(eh s (nD (b++[⟨(B,z),m,q⟩]))).length=(b++[(⟨(B,z),m,q⟩:PrC s.size)]).length from by simp[eh,nD]] at R;obtain⟨Q,P,pz,gZ,a6,a4⟩:=aqd (W:=w2) (n₀:=w.heap.size) a5 (by decide) L (by omega) (by omega) (by omega) R (aqe nz);have aT:=Q.cell;have an:=Q.frozen;obtain⟨A3,c3,rfl⟩:=iv R;go_wp2;have a7:KeepsOthers W w2:=wu (xg p) λj o ej _=>by cases ej
  have C:∀k,k<W0.heap.size->k≠w.heap.size+1->(w3.setCell ⟨w.heap.size+1,0,none⟩ (.slice A3 (b++[(⟨(B,z),m,q⟩:PrC s.size)]).length c3)).heap[k]?=W.heap[k]?:=λk hk T=>(a4 k hk (by omega) T).trans (p.block k (by omega));have J:=(p.mono a0).trans a6;simp only[aE,fi,mT,mc] at P pz gZ C J;refine⟨(a7.trans gZ).from _,⟨J,C _ (by omega) (by omega)⟩,⟨⟨⟨_,P, ?_,trivial⟩,(C _ (by omega) (by omega)).trans t⟩,(C _ (by omega) (by omega)).trans u⟩,i.trans J⟩;simp only[aE,fi,mT,mc];exact pz
 case done=>
  rintro D zs W hD a3 ⟨⟨⟨⟨v,f,d, -⟩,t⟩,u⟩,i⟩ O;have cO:=f.cell;obtain⟨A,c,rfl⟩:=iv d;gi_wp2;refine⟨by simp,.inl ⟨_,_,rfl,run_takeDeferred O, ?_⟩⟩;have U:=belowK_b (w:=w) (am _) W D _ (.deferred none) (by omega) O rfl rfl;have E:=a3.cut;have M:(im s).length=zs.length:=by rw[<-E];simp[eh,nD]
  refine⟨_,results_tmp rfl _ _ _,_,rfl, ?_,i.trans U⟩;have:=ownsRow_putObj d (.deferred none) O rfl;unfold aJ;rw[M,<-E];exact aju this (by omega)
 case stop=>
  rintro D c b W _ _ h _;exact h.elim
def atg(s:ByteArray)(a:dN s=true)(w:World) :
  Calls (ah β) 91 #[.string s] w λe W'=>∃v,e=.returned v/\aJ iJ 9 W' w.heap.size v (im s)/\Below w.heap.size w W':=
 callsIn_wide.1 (aqf 6 (am _) s a w)
end
section
variable {β:Bool}
open Go.RowKit
def aqg{l:List ByteArray}(a:dN (rR (iV l))=true)(b:im (rR (iV l))=l):jz l=(rR (iV l),true):=by unfold jz;rw[du ⟨a,b⟩]
def ath{l:List ByteArray}(h:¬(dN (rR (iV l))=true/\im (rR (iV l))=l)):jz l=(⟨#[]⟩,false):=by unfold jz;rw[be h]
def awc(l:List ByteArray)(b:∀s∈l,bA (bs s)):(rR (iV l)).size<=8*l.length:=by
 rw[<-aM,anJ (afI l),<-ag6,qg];exact adn λs a=>(gK (b s a)).2
def aqh(l:List ByteArray)(y:∀s∈l,bA (bs s))(J:l.length<=2147483647)(v:Value)(w:World)(p hi:Nat)(h:dE w p hi l [v])(u:hi<=w.heap.size) :
  Calls (ah β) 55 #[v] w λe D=>e=.returned (.tuple #[.string (jz l).1,.bool (jz l).2])/\Below w.heap.size w D:=by
 have m:=awc l y;have d:(rR (iV l)).size<=maxLen:=by unfold maxLen;omega
 have n:=ab (λH E=>aqg (l:=l) H E);have g:=ab (ath (l:=l));have t:=ab (azo (β:=β) l y J v w p hi h u);generalize rR (iV l)=s at n g t m d;generalize jz l=r at n g ⊢;go_enter zV,ntmps55;go_wp2;refine t.out.mono ?_;rintro e B ⟨rfl,f⟩;go_wp2;refine(nT (β:=β) s d _).mono ?_;rintro e O ⟨rfl,rfl⟩;by_cases a:dN s=true
 .rw[a];go_wp2;refine(atg (β:=β) s a _).mono ?_;rintro e N ⟨F,rfl,I,j⟩;have k:∀x∈im s,x.size<=maxLen:=λx i=>by have:=(gK (ma (jO a).2 x i)).2;unfold maxLen;omega
  have C:=iI.sl (aJ.deep I k B.heap.size) (am _);have G:=j.size;have A:=f.size;have L:=dE.ar.below h (f.trans (j.mono A)) u;obtain⟨q,c⟩:∃q:Bool,q=true↔im s=l:=by
   by_cases i:im s=l
   .exact⟨true,by simp[i]⟩
   .exact⟨false,by simp[i]⟩
  replace c:=ab c;go_wp2;refine(am1 (β:=β) (im s) l F v _ _ _ p hi C L (am _) (by omega) q c.out).mono ?_;rintro e M ⟨rfl,K⟩;have z:=f.trans ((j.mono A).trans (K.mono (by omega)));cases q with
  |true=>
   have b:=n.out a (c.out.1 rfl);go_wp2;go_ret2;exact⟨by rw[b];rfl,z⟩
  |false=>
   have b:=g.out λo=>by have:=c.out.2 o.2;cases this
   go_wp2;go_ret2;exact⟨by rw[b];rfl,z⟩
 .have b:=g.out λo=>a o.1;rw[Bool.eq_false_iff.2 a];go_wp2;go_ret2;exact⟨by rw[b];rfl,f⟩
end
section
variable {β:Bool}
open Go.RowKit
def ati(t:List Nd)(i:Nat)(x:Nd):Prop:=af1 x/\(∀y,0<i->t[i-1]?=some y->Op.bytesLess y.p.toList x.p.toList=true)/\∀k y,k<i->t[k]?=some y->aaN y.p x.p=false
def ael(h:ie s=true):s.size<=3:=by rcases lX h with h|h<;>omega
def atj(xs:List Nd)(v:Value)(w:World)(lo hi:Nat)(h:fX w lo hi xs [v])(V:hi<=w.heap.size)(q:Bool)(p:q=true↔agT xs) :
  Calls (ah β) 56 #[v] w λe w'=>e=.returned (.bool q)/\Below w.heap.size w w':=by
 have L:=ab p;clear p;obtain⟨A,c,rfl⟩:=h.form;obtain⟨_,hc,hx⟩:=h.1.len_;unfold maxLen at hx;go_enter zU,ntmps56;go_wp2;go_loopw [7] (λii wr=>∃k:Nat,k<=xs.length/\ii=.int .i64 k/\(∀i x,i<k->xs[i]?=some x->ati xs i x)/\Below w.heap.size w wr) (λii _=>xs.length-(intOf ii).toNat)
 case atStart=>exact⟨0,eg _,rfl,λi x hi=>absurd hi (sT i),fd _ _⟩
 case round=>
  obtain⟨k,hk,rfl,l,Z⟩:=hrel;replace l:=ab l;by_cases D:k<xs.length
  .obtain⟨x,H⟩:=aq D;obtain⟨b0,a5,rfl,_,a4,K,c0,c1⟩:=mb (fX.ar.below h Z V) H;replace H:=ab H;go_wp2;have kb:=bg.new wr 102 #[.string x.p,.string x.b];have ba:=av wr (.cells #[.string x.p,.string x.b] 102);have a3:wr.heap.size+1=(wr.alloc (.cells #[.string x.p,.string x.b] 102)).heap.size:=by simp
   generalize wr.alloc (.cells #[.string x.p,.string x.b] 102)=wf at *;have g:wf.cell? ⟨wr.heap.size,0,none⟩=some (.string x.p):=kb.cell 0;have B:wf.cell? ⟨wr.heap.size,1,none⟩=some (.string x.b):=kb.cell 1;have r:=ag Z ba;clear kb c0 c1;cases a:ie x.p
   .replace a:=ab a;have d:q=false:=by
     rw[<-nf,L.out];rintro⟨-,h⟩;replace h:=h _ _ H.out;have h:=h.1.1;rw[a.out] at h;cases h
    have s:=ab d;clear d;have J:=ae g;have I:=ae B;refine aR (by kernel_rfl) (by kernel_rfl) ?_;repeat(go_big_quiet_step (first|(go_at_call 92;refine dS (v:=.bool false) ?_;rw[<-a.out];exact aal (β:=β) x.p K.1 _)))
    refine ip ?_;intro wq o;have p:=bH o;clear o J I;go_wp2;go_ret;exact⟨aD s.out.symm,ag r p⟩
   .replace a:=ab a;cases b:dN x.b
    .replace b:=ab b;have d:q=false:=by
      rw[<-nf,L.out];rintro⟨-,h⟩;replace h:=h _ _ H.out;have h:=h.1.2;rw[b.out] at h;cases h
     have s:=ab d;clear d;have J:=ae g;have I:=ae B;refine aR (by kernel_rfl) (by kernel_rfl) ?_;repeat(go_big_quiet_step (first|(go_at_call 92;refine dS (v:=.bool true) ?_;rw[<-a.out];exact aal (β:=β) x.p K.1 _)|(go_at_call 89;refine dT (v:=.bool false) ?_;rw[<-b.out];exact nT (β:=β) x.b K.2 _)))
     refine ip ?_;intro wq o;have p:=bH o;clear o J I;go_wp2;go_ret;exact⟨aD s.out.symm,ag r p⟩
    .replace b:=ab b;by_cases a2:k=0
     .have t1:=da (show ¬(0<k) by omega);have W:af1 x/\∀y,0<k->xs[k-1]?=some y->Op.bytesLess y.p.toList x.p.toList=true:=⟨⟨a.out,b.out⟩,λy h0=>by omega⟩;have Y:=ab W;clear W;clear a2;have J:=ae g;have I:=ae B;refine aR (by kernel_rfl) (by kernel_rfl) ?_;repeat(go_big_quiet_step (first|(go_at_call 92;refine dS (v:=.bool true) ?_;rw[<-a.out];exact aal (β:=β) x.p K.1 _)|(go_at_call 89;refine dT (v:=.bool true) ?_;rw[<-b.out];exact nT (β:=β) x.b K.2 _)))
      refine ip ?_;intro wq o;have p:=bH o;clear o J I;have E:∀y∈xs.take k,y.p.size<=3:=λy f=>by
       obtain⟨i,hi⟩:=rL.1 f;rw[qE] at hi;split at hi
       .rename_i S;exact ael (l.out i y S hi).1.1
       .cases hi
      have Q:=ab E;clear E;have cz:=aU p g;have n:=ag r p;have R:=ael a.out;go_wp2;refine(pw (β:=β) x R xs k hk Q.out _ c wr.heap.size _ lo hi (fX.ar.below h n V) (ap V n.size) cz).mono ?_;rintro e w4 ⟨q4,rfl,P,b4⟩;have t:=ag n b4;rcases P with⟨rfl,j,y,O,f,U⟩|⟨rfl,C⟩
      .have HY:=ab f;replace U:=ab U;clear f;have d:q=false:=by
        rw[<-nf,L.out];rintro⟨-,h⟩;replace h:=h _ _ H.out;have h:=h.2.2 j y O HY.out;rw[U.out] at h;cases h
       have s:=ab d;clear d;go_wp2;go_ret;exact⟨aD s.out.symm,t⟩
      .have u:∀i z,i<k+1->xs[i]?=some z->ati xs i z:=λi z hi M=>by
        rcases pm i k with D|nY
        .exact l.out i z D M
        .obtain rfl:i=k:=by omega
         rw[H.out] at M;cases M;exact⟨Y.out.1,Y.out.2,λj y O f=>C j y O f⟩
       have N:=ab u;clear u C;go_wp2;go_roundw
       case rel=>exact⟨k+1,by omega,by go_num,N.out,t⟩
       simp[intOf];omega
     .obtain⟨k',pF⟩:∃m,m=k-1:=⟨_,rfl⟩;have e1:(k:Int)-1=((k':Nat):Int):=by omega
      have a1:k'<xs.length:=by omega
      have t1:=dk (show 0<k by omega);obtain⟨z,F⟩:=aq a1;obtain⟨b1,a7,e0,_,_,a6,d0,_⟩:=mb (fX.ar.below h r V) F;simp only[lP,qB,qx] at e0;obtain⟨rfl,rfl⟩:=e0;replace F:=ab F;have X:=ab pF;have a0:0<k:=by omega
      clear pF;cases G:Op.bytesLess z.p.toList x.p.toList
      .have T:=ab G;have tr:=nC x.p.toList z.p.toList;rw[G,Bool.not_false] at tr;have d:q=false:=by
        rw[<-nf,L.out];rintro⟨-,h⟩;replace h:=h _ _ H.out;have h:=h.2.1 z a0 (by rw[<-X.out];exact F.out);rw[T.out] at h;cases h
       have s:=ab d;clear d;have J:=ae g;have I:=ae B;have bc:=ae d0;refine aR (by kernel_rfl) (by kernel_rfl) ?_;repeat(go_big_quiet_step (first|(go_at_call 92;refine dS (v:=.bool true) ?_;rw[<-a.out];exact aal (β:=β) x.p K.1 _)|(go_at_call 89;refine dT (v:=.bool true) ?_;rw[<-b.out];exact nT (β:=β) x.b K.2 _)))
       refine ip ?_;intro wq o;have p:=bH o;clear o J I bc;go_wp2;go_ret;exact⟨aD s.out.symm,ag r p⟩
      .have T:=ab G;have tr:=nC x.p.toList z.p.toList;rw[G,vM] at tr;have W:af1 x/\∀y,0<k->xs[k-1]?=some y->Op.bytesLess y.p.toList x.p.toList=true:=⟨⟨a.out,b.out⟩,λy h0 f=>by
        rw[<-X.out,F.out] at f;cases f;exact T.out⟩
       have Y:=ab W;clear W;have J:=ae g;have I:=ae B;have bc:=ae d0;refine aR (by kernel_rfl) (by kernel_rfl) ?_;repeat(go_big_quiet_step (first|(go_at_call 92;refine dS (v:=.bool true) ?_;rw[<-a.out];exact aal (β:=β) x.p K.1 _)|(go_at_call 89;refine dT (v:=.bool true) ?_;rw[<-b.out];exact nT (β:=β) x.b K.2 _)))
       refine ip ?_;intro wq o;have p:=bH o;clear o J I bc;clear d0 G e1 tr;have E:∀y∈xs.take k,y.p.size<=3:=λy f=>by
        obtain⟨i,hi⟩:=rL.1 f;rw[qE] at hi;split at hi
        .rename_i S;exact ael (l.out i y S hi).1.1
        .cases hi
       have Q:=ab E;clear E;have cz:=aU p g;have n:=ag r p;have R:=ael a.out;go_wp2;refine(pw (β:=β) x R xs k hk Q.out _ c wr.heap.size _ lo hi (fX.ar.below h n V) (ap V n.size) cz).mono ?_;rintro e w4 ⟨q4,rfl,P,b4⟩;have t:=ag n b4;rcases P with⟨rfl,j,y,O,f,U⟩|⟨rfl,C⟩
       .have HY:=ab f;replace U:=ab U;clear f;have d:q=false:=by
         rw[<-nf,L.out];rintro⟨-,h⟩;replace h:=h _ _ H.out;have h:=h.2.2 j y O HY.out;rw[U.out] at h;cases h
        have s:=ab d;clear d;go_wp2;go_ret;exact⟨aD s.out.symm,t⟩
       .have u:∀i z,i<k+1->xs[i]?=some z->ati xs i z:=λi z hi M=>by
         rcases pm i k with D|nY
         .exact l.out i z D M
         .obtain rfl:i=k:=by omega
          rw[H.out] at M;cases M;exact⟨Y.out.1,Y.out.2,λj y O f=>C j y O f⟩
        have N:=ab u;clear u C;go_wp2;go_roundw
        case rel=>exact⟨k+1,by omega,by go_num,N.out,t⟩
        simp[intOf];omega
  .obtain rfl:k=xs.length:=by omega
   by_cases h6:xs.length<=6
   .have t1:=dk (show(xs.length:Int)<=6 by omega);have d:q=true:=L.out.2 ⟨h6,λi x hx=>l.out i x (aB hx) hx⟩;have s:=ab d;clear d;go_wp2;go_ret;exact⟨aD s.out.symm,Z⟩
   .have t1:=da (show ¬((xs.length:Int)<=6) by omega);have d:q=false:=by
     rw[<-nf,L.out];rintro⟨h, -⟩;exact h6 h
    have s:=ab d;clear d;go_wp2;go_ret;exact⟨aD s.out.symm,Z⟩
end
section
variable {β:Bool}
open Go.RowKit
noncomputable def xFA:Func:=by
 apply(λ(x:Func) (_:{f54 with body:=some kR}=x)=>x)
 case x=>dsimp only[kR,abg,auH,awM,awN,awO,awP,awQ,awR,awS,awT,awU,awZ,aAs,awV,awW,awX,awY,arl,arn,aro,anA,ajb,ady,aw0,aw1,ai9,aja,iP,abh,auI,auJ,auK,ark,auL,ao6,kOp,abj,abi,nk,cQ,cM,cA,f54,Option.getD,List.map]
def azr:qFA true=xFA:=by kernel_rfl
def atk:(ah true).funcs[54]?=some xFA:=(ac3 true).trans (ga some azr)
@[go_sem] theorem aB3(args:Array Value)(w:World):(callFunc 54 args).run (ah true) w=.ok (.enter 54 args) w:=by
 have a:=cH func54;exact lQ atk a rfl args w
end
section
variable {β:Bool}
open Go.RowKit
def FFe:Flat (ByteArray×Bool):=⟨2,λx=>[.string x.1,.bool x.2],λx=>x.1.size<=maxLen,λ_=>rfl,λx u a=>by
 simp only[mu,rN,uj] at a;rcases a with rfl|rfl<;>rfl,by decide⟩
def awd:((ah true).info? 141).map (λi=>(i.zero,i.size,i.bytes))=some (some (.agg #[.string ⟨#[]⟩,.bool false]),2,24):=by kernel_rfl
@[go_sem] theorem aCz(n:Int)(B:Option Addr)(m c:Nat)(w:World):(Instr.field 36 (.agg #[.int .i64 n,.slice B m c]) 0).run (ah true) w=.ok (.int .i64 n) w:=by simp[Instr.field,me xQ,asAgg,go_sem]
@[go_sem] theorem aCA(n:Int)(B:Option Addr)(m c:Nat)(w:World):(Instr.field 36 (.agg #[.int .i64 n,.slice B m c]) 1).run (ah true) w=.ok (.slice B m c) w:=by simp[Instr.field,me xQ,asAgg,go_sem]
@[go_sem] theorem aCB(n:Int)(s:ByteArray)(w:World):(Instr.field 63 (.agg #[.int .i64 n,.string s]) 0).run (ah true) w=.ok (.int .i64 n) w:=by simp[Instr.field,me xP,asAgg,go_sem]
@[go_sem] theorem aCC(n:Int)(s:ByteArray)(w:World):(Instr.field 63 (.agg #[.int .i64 n,.string s]) 1).run (ah true) w=.ok (.string s) w:=by simp[Instr.field,me xP,asAgg,go_sem]
def azs(key:Int)(l:List iY)(dK:List Int)(w:World)(e:Ending)(w':World):Prop:=
 ∃v b,e=.returned (.tuple #[v,.bool b])/\(b=true↔∀n∈dK,(cP key l n).2=true)/\(b=true->aJ iJ 9 w' w.heap.size v (dK.map λn=>(cP key l n).1))/\Below w.heap.size w w'
noncomputable def am3(key:Int)(l:List iY)(ns:List Int):List ByteArray:=ns.map λn=>(cP key l n).1
noncomputable def aaO(key:Int)(l:List iY)(dK:List Int)(k:Nat):List (ByteArray×Bool):=(dK.take k).map (cP key l)++List.replicate (dK.length-k) (⟨#[]⟩,false)
def awe(h:k<dK.length):(aaO key l dK k)[k]?=some (⟨#[]⟩,false):=by
 unfold aaO;have a:((dK.take k).map (cP key l)).length=k:=by rw[qg,ef];omega
 rw[qp (by omega),a,tp,uu,du (by omega)]
def atl{n:Int}(h:dK[k]?=some n):(aaO key l dK k).set k (cP key l n)=aaO key l dK (k+1):=by
 have b:=aB h;unfold aaO;have c:((dK.take k).map (cP key l)).length=k:=by rw[qg,ef];omega
 rw[uT _ _ (by omega),c,tp,kw h,qZ,tc]
 congr 1
 obtain⟨m,a⟩:∃m,dK.length-k=m+1:=⟨dK.length-k-1,by omega⟩;rw[a,List.replicate_succ,ge,show dK.length-(k+1)=m by omega];rfl
def aqi:∀n:Nat,(madeCells #[.string ⟨#[]⟩,.bool false] (n*2)).toList=dA FFe (List.replicate n (⟨#[]⟩,false)):=λn=>by
 apply tN;intro j;rcases pm j (n*2) with h|h
 .have d:j / 2<n:=by omega
  have b:(List.replicate n ((⟨#[]⟩,false):ByteArray×Bool))[j / 2]?=some (⟨#[]⟩,false):=by rw[uu,du d]
  have e:j=j / 2*2+j % 2:=by omega
  rw[fa];have c:(madeCells #[.string ⟨#[]⟩,.bool false] (n*2))[j]?=some (#[Value.string ⟨#[]⟩,Value.bool false][j % 2]!):=by
   unfold madeCells;simp[h]
  rw[c];rcases vH j with a|a
  .have:=eE FFe _ (j / 2) 0 _ (.string ⟨#[]⟩) b rfl;rw[show j / 2*FFe.sz+0=j by show j / 2*2+0=j;omega] at this;rw[this,a];rfl
  .have:=eE FFe _ (j / 2) 1 _ (.bool false) b rfl;rw[show j / 2*FFe.sz+1=j by show j / 2*2+1=j;omega] at this;rw[this,a];rfl
 .rw[fa,qm (by rw[size_madeCells];exact h),rx (by rw[dU,qD];exact h)]
def atm(w:World)(n:Nat)(a:n<=maxLen)(h:dK.length=n:=by rfl) :
  aJ FFe 141 (w.alloc (.cells (madeCells #[.string ⟨#[]⟩,.bool false] (n*2)) 141)) w.heap.size (.slice (some ⟨w.heap.size,0,none⟩) n n) (aaO key l dK 0):=by
 have e:aaO key l dK 0=List.replicate n (⟨#[]⟩,false):=by unfold aaO;rw[h];rfl
 rw[e];refine⟨dU FFe _,.inr ⟨w.heap.size,n,_,by rw[qD],am _,bg.new _ _ _,by rw[qD];exact am _,a,by rw[size_madeCells];rfl, ?_⟩⟩;rw[aqi,qD];exact pu (by rw[dU,qD];exact am _)
def aom{base : Nat}{xs:List (ByteArray×Bool)}(h:aJ FFe 141 w base (.slice (some ⟨g,0,none⟩) n n) xs){x:ByteArray×Bool}(a:xs[k]?=some x) :
  w.cell? ⟨g,k*2,none⟩=some (.string x.1)/\w.cell? ⟨g,k*2+1,none⟩=some (.bool x.2):=by
 obtain⟨A,c,e⟩:=aJ.form h;simp only[oE] at e;obtain⟨-,rfl, -⟩:=e;exact⟨h.cell a (j:=0) rfl,h.cell a (j:=1) rfl⟩
def awf{base : Nat}(h:aJ FFe 141 w base (.slice (some ⟨g,0,none⟩) n n) (aaO key l dK k))(m:k<dK.length) :
  w.cell? ⟨g,k*2,none⟩=some (.string ⟨#[]⟩)/\w.cell? ⟨g,k*2+1,none⟩=some (.bool false)/\(∀j,w.frozen? ⟨g,j,none⟩=false)/\(∀j (p:Addr) u,(w.setCell p u).frozen? ⟨g,j,none⟩=false)/\
  ∀y:ByteArray×Bool,aJ FFe 141 ((w.setCell ⟨g,k*2,none⟩ (.string y.1)).setCell ⟨g,k*2+1,none⟩ (.bool y.2)) base (.slice (some ⟨g,0,none⟩) n n) ((aaO key l dK k).set k y):=by
 obtain⟨A,c,e⟩:=aJ.form h;simp only[oE] at e;obtain⟨-,rfl, -⟩:=e;have a:=awe (key:=key) (l:=l) m;obtain⟨o,q⟩:=aom h a;refine⟨o,q,λj=>h.frozen rfl j,λj p u=> ?_,λy=> ?_⟩
 .rw[uS];exact h.frozen rfl j
 .have d:=h.put a (j:=0) (y:=(y.1,false)) (u:=.string y.1) (by decide) rfl;have f:aJ FFe 141 (w.setCell ⟨g,k*FFe.sz+0,none⟩ (.string y.1)) base (.slice (some ⟨g,0,none⟩) ((aaO key l dK k).set k (y.1,false)).length (aaO key l dK k).length) ((aaO key l dK k).set k (y.1,false)):=by rw[rb];exact d
  have b:=f.put (i:=k) (x:=(y.1,false)) (by rw[rB (aB a)]) (j:=1) (y:=y) (u:=.bool y.2) (by decide) rfl;rw[rb,acG] at b;exact b
def am4 (key:Int) (hk:1<=key/\key<=99) (l:List iY) (A:Option Addr) (c:Nat) (dK:List Int) (v2:Value) (lo hi:Nat) (w:World) (x0 x1:Value)
  (aV:hi<=w.heap.size) (hl:PkL w A l) (a3:l.length<=c) (hc:c<=maxLen) (iG:∀p∈l,1<=p.2.length/\cf p.1) (u:bD nj 1 w lo hi dK [v2]) (b5:dK.length<=2147483647)
  (e0:w.cell? ⟨1,0,none⟩=some x0) (e1:w.cell? ⟨2,0,none⟩=some x1) :
  Calls (ah true) 54 #[.int .i64 key,.slice A l.length c,v2] w (azs key l dK w):=by
 obtain⟨A2,c2,rfl⟩:=u.form;obtain⟨-,aI,a0⟩:=u.len_;have HC:=ab hc;unfold maxLen at hc a0;have aL:=apo (P:=ah true) 130 141 _ 2 24 yv awd dK.length (by omega) (by omega);have a6:xFA.ntmps=45:=ntmps54;have O:xFA.results=#[.tmp 6,.tmp 7]:=results54;go_enter atk,a6;go_wp2
 go_loop [20] (λi=>∃k:Nat,k<=l.length/\i=.int .i64 k) (λi=>l.length-(intOf i).toNat)
 case atStart=>exact⟨0,eg _,rfl⟩
 case round=>
  obtain⟨k,an,rfl⟩:=hrel;by_cases X:k<l.length
  .obtain⟨p,kh⟩:=aq X;obtain⟨b,aH,B,c3,rfl,af,aZ,ay,aT,a5,Z⟩:=hl k p kh;have N:=iG p (db kh);obtain⟨N,a7⟩:=N;unfold cf at a7;unfold maxLen at a5;obtain⟨S,T⟩:=p;dsimp only at *;have w1:wrap64 (S*1)=S:=by unfold wrap64;omega
   have t1:(S ==S)=true:=sI _;go_wp2
   go_loop [5] (λjj=>∃j:Nat,j<=T.length/\jj=.int .i64 j) (λjj=>T.length-(intOf jj).toNat)
   case atStart=>exact⟨0,eg _,rfl⟩
   case round=>
    obtain⟨j,b8,rfl⟩:=hrel;by_cases U:j<T.length
    .obtain⟨x,aa⟩:=aq U;obtain⟨b2,iZ,rfl,al,b4,ad,a4,a8⟩:=Z j x aa;unfold cf at a4;unfold maxLen at a8;obtain⟨R,xb⟩:=x;dsimp only at *;have w2:wrap64 (R*1)=R:=by unfold wrap64;omega
     have t2:(R ==R)=true:=sI _;go_wp2
     go_round
     case rel=>exact⟨j+1,by omega,by go_num⟩
     simp[intOf];omega
    .obtain rfl:j=T.length:=by omega
     go_wp2
     go_round
     case rel=>exact⟨_,_,_,_,_,_,_,_,_,⟨k+1,by omega,rfl⟩,rfl,rfl,rfl,rfl,rfl,rfl,rfl,rfl,by go_num⟩
     show l.length-((k:Int)+1).toNat<l.length-(k:Int).toNat;omega
  .obtain rfl:k=l.length:=by omega
   go_wp2;have M:=atm (key:=key) (l:=l) (dK:=dK) w dK.length (by unfold maxLen;omega);have a1:=av w (.cells (madeCells #[.string ⟨#[]⟩,.bool false] (dK.length*2)) 141);generalize w.alloc (.cells (madeCells #[.string ⟨#[]⟩,.bool false] (dK.length*2)) 141)=w0 at *;go_loopw [28] (λz wr=>∃k:Nat,k<=dK.length/\z=.int .i64 k/\aJ FFe 141 wr w.heap.size (.slice (some ⟨w.heap.size,0,none⟩) dK.length dK.length) (aaO key l dK k)/\Below w.heap.size w wr) (λz _=>dK.length-(intOf z).toNat)
   case atStart=>exact⟨0,eg _,rfl,M,a1⟩
   case round=>
    obtain⟨k,b1,rfl,C,a⟩:=hrel;by_cases o:k<dK.length
    .obtain⟨n,f⟩:=aq o;obtain⟨b3,Y,es,rfl,b7,b0,_,⟨rfl,J⟩,a9⟩:=((bD.loc nj.loc).below u a aV).at_ f;have d0:wr.cell? ⟨b3,Y+k,none⟩=some (.int .i64 n):=by simpa using a9 0 _ rfl
     unfold cf at J;have w3:wrap64 (n*1)=n:=by unfold wrap64;omega
     have t3:(n ==n)=true:=sI _;have s:=atl (key:=key) (l:=l) f;replace s:=ab s;go_wp2;refine(an7 wr key A c l n hk.1 hk.2 a3 (by omega) (hl.below a) J).mono ?_;rintro e w5 ⟨v,rfl,rfl,pz⟩;have V:=C.below pz;obtain⟨f0,f1,z0,z1,Q⟩:=awf V o;have gZ:=ag a pz;have HP:=ab (Q (cP key l n));go_wp2;go_roundw
     case rel=>exact⟨k+1,by omega,by go_num,by rw[<-s.out];exact HP.out,(gZ.setCell (by dsimp only;omega) _).setCell (by dsimp only;omega) _⟩
     simp[intOf];omega
    .obtain rfl:k=dK.length:=by omega
     replace u:=ab u;go_wp2;have H:=av wr (.cells #[.slice (some ⟨w.heap.size,0,none⟩) dK.length dK.length] 130);have q:=C.below H;have g:=ag a H;have e1:aaO key l dK dK.length=dK.map (cP key l):=by unfold aaO;rw[gc,tp,List.replicate_zero,su]
     rw[e1] at q;generalize wr.alloc (.cells #[.slice (some ⟨w.heap.size,0,none⟩) dK.length dK.length] 130)=w1 at *;go_loopw [12,31] (λoo z wr=>∃k:Nat,k<=dK.length/\z=.int .i64 k/\aJ iJ 9 wr w.heap.size oo (am3 key l (dK.take k))/\aJ FFe 141 wr w.heap.size (.slice (some ⟨w.heap.size,0,none⟩) dK.length dK.length) (dK.map (cP key l))/\(∀n∈dK.take k,(cP key l n).2=true)/\Below w.heap.size w wr) (λ_ z _=>dK.length-(intOf z).toNat)
     case atStart=>exact⟨0,eg _,rfl,aJ.nil _ _ _,q,λn u=>(by simp at u),g⟩
     case round=>
      obtain⟨k,b6,rfl,I,C,d,a⟩:=hrel;replace d:=ab d;obtain⟨So,sc,rfl⟩:=I.form;by_cases o:k<dK.length
      .obtain⟨n,f⟩:=aq o;have a2:(dK.map (cP key l))[k]?=some (cP key l n):=by rw[qO,f];rfl
       obtain⟨f0,f1⟩:=aom C a2;have r:(am3 key l (dK.take k)).length=k:=by unfold am3;rw[qg,ef];omega
       have fU:am3 key l (dK.take (k+1))=am3 key l (dK.take k)++[(cP key l n).1]:=by unfold am3;rw[kw f,qZ];rfl
       have t:=apn C I (by decide);replace t:=ab t;have L:=ab f;replace r:=ab r;cases E:(cP key l n).2 with
       |false=>
        rw[E] at f1;replace E:=ab E;go_wp2;refine pb (v:=.tuple #[.slice none 0 0,.bool false]) (by simp[results,O,go_sem]) rfl ⟨_,false,rfl, ?_,λh=>(by cases h),a.alloc a.size _⟩;simp only[li,uR];intro h;have:=h n (db L.out);rw[E.out] at this;cases this
       |true=>
        rw[E] at f1;have y:∀m∈dK.take (k+1),(cP key l m).2=true:=λm D=>by
         rw[kw L.out,mx] at D;rcases D with D|D
         .exact d.out m D
         .rw[mw.1 D];exact E
        replace y:=ab y;replace fU:=ab fU;have ax:=av wr (.cells #[.string (cP key l n).1,.bool true] 141);have W:=av (wr.alloc (.cells #[.string (cP key l n).1,.bool true] 141)) (.cells #[.string (cP key l n).1] 9);have kB:=bg.new (wr.alloc (.cells #[.string (cP key l n).1,.bool true] 141)) 9 #[.string (cP key l n).1];simp only[oS] at kB;have K:=(I.below ax).below W;have q:=(C.below ax).below W;have g:=ag (ag a ax) W;go_wp2_with(at_builtin;refine agD (F:=iJ) (v:=.slice So (am3 key l (dK.take k)).length sc) rfl (.tmp 38) (.tmp 41) 83 rfl acH (cP key l n).1 rfl K rfl kB rfl (by have:=r.out;omega) g.size ?_;intro va wa oa G ao;obtain⟨Aa,ca,rfl⟩:=oa.form);go_roundw
        case rel=>exact⟨k+1,by omega,by go_num,by rw[fU.out];rw[aE] at oa;exact oa,q.fE G λb hb=>t.out b hb,y.out,g.trans (G.below g.size λi hi hx=>by have:=(K.at_ hx).1;omega)⟩
        simp[intOf];omega
      .obtain rfl:k=dK.length:=by omega
       rw[gc] at I d;go_wp2;refine pb (v:=.tuple #[_,.bool true]) (by simp[results,O,go_sem]) rfl ⟨_,true,rfl,by simp only[tJ];exact d.out,λ_=>I,a⟩
end
section
open Go.RowKit
structure Glo (w:World):Prop where
 key:∃x,w.cell? ⟨1,0,none⟩=some x
 piece:∃x,w.cell? ⟨2,0,none⟩=some x
def Glo.below(h:Glo w)(b:Below w.heap.size w w'):Glo w':=by
 obtain⟨⟨x,c⟩,y,a⟩:=h;exact⟨⟨x,(qy (b.block _ (eW c))).trans c⟩,⟨y,(qy (b.block _ (eW a))).trans a⟩⟩
def aqj(a:amH key l x.ns)(b:(jz (oT key l x.ns)).2=true):jA key l x=some ⟨x.p,(jz (oT key l x.ns)).1⟩:=by unfold jA;rw[du ⟨a,b⟩]
def akw(h:¬(amH key l x.ns/\(jz (oT key l x.ns)).2=true)):jA key l x=none:=by unfold jA;rw[be h]
def akx(b:x∈xs)(h:jA key l x=none):ig key l xs=none:=by
 unfold ig;rw[be];rintro⟨a, -⟩;have:=a x b;rw[h] at this;cases this
def am5{l:List ByteArray}:(jz l).1.size<=40:=by
 unfold jz;split
 .rename_i h;exact(jO h.1).1
 .exact eg _
def aky{y:Nd}(a:xs[k]?=some x)(h:jA key l x=some y):fY key l (xs.take (k+1))=fY key l (xs.take k)++[y]:=by
 unfold fY;rw[kw a,List.filterMap_append];simp[h]
def ju.itl{a:List It}(h:ju w Z hi a [.slice A n c])(o:hi<=w.heap.size):ItL w A (a.map λx=>(x.n,x.b)):=λi x e=>by
 rw[qO] at e;obtain⟨y,g,rfl⟩:=jt.1 e;obtain⟨b,d,m,rfl,p,l, -,⟨rfl,j,k⟩,f⟩:=h.at_ g;exact⟨b,d,rfl,by omega,by simpa using f 0 _ rfl,f 1 _ rfl,j,k⟩
def iw.pkl{l:List Pk}(h:iw w Z hi l [.slice A n c])(m:hi<=w.heap.size):PkL w A (kH l):=λi x e=>by
 unfold kH at e;rw[qO] at e;obtain⟨y,j,rfl⟩:=jt.1 e;obtain⟨b,a,q,rfl,s,p, -,⟨v,rfl,r,f⟩,g⟩:=h.at_ j;obtain⟨B,d,rfl⟩:=f.form;obtain⟨-,o,k⟩:=f.len_;refine⟨b,a,B,d,rfl,by omega,by have:=g 0 _ rfl;rw[sM] at this;exact this, ?_, ?_,k,f.itl m⟩
 .have:=g 1 _ rfl;rw[show(pkd y).2.length=y.its.length from qg _];exact this
 .rw[show(pkd y).2.length=y.its.length from qg _];exact o
def aq5(h:fw w Z hi xs [.slice A n c])(i:xs[k]?=some x) :
  ∃b a A' d,A=some ⟨b,a,none⟩/\Z<=b/\b<hi/\x.p.size<=maxLen/\w.cell? ⟨b,a+k*2,none⟩=some (.string x.p)/\w.cell? ⟨b,a+k*2+1,none⟩=some (.slice A' x.ns.length d)/\bD nj 1 w Z hi x.ns [.slice A' x.ns.length d]:=by
 obtain⟨b,a,m,rfl,j,g,l,⟨v,rfl,f,hi⟩,e⟩:=h.at_ i;obtain⟨A',d,rfl⟩:=hi.form;exact⟨b,a,A',d,rfl,j,g,f,by simpa using e 0 _ rfl,e 1 _ rfl,hi⟩
def aam(o:Option (List Nd))(w:World)(e:Ending)(w':World):Prop:=∃v,e=.returned (.tuple #[v,.bool o.isSome])/\aJ nB 102 w' w.heap.size v (o.getD [])/\(∀y∈o.getD [],nB.good y)/\Below w.heap.size w w'
def aam.no(h:o=none)(a:Below w.heap.size w w'):aam o w (.returned (.tuple #[.slice none 0 0,.bool false])) w':=by
 subst h;exact⟨_,rfl,aJ.nil _ _ _,λy b=>(by cases b),a⟩
theorem am6 (l:List iY) (A:Option Addr) (c:Nat) (x:Sn) (vn:Value) (lo hi:Nat) (w:World) (hg:Glo w) (aV:hi<=w.heap.size) (hl:PkL w A l) (ad:l.length<=c) (hc:c<=maxLen) (iG:∀p∈l,1<=p.2.length/\cf p.1)
  (hn:fw w lo hi x.all [vn]) (o:∀y∈x.all,y.ns.length<=2147483647) (py:x.all.length<=1099511627) :
  Calls (ah true) 27 #[.int .i64 7,.agg #[.int .i64 x.no,vn],.slice A l.length c] w (aam (ig 7 l x.all) w):=by
 obtain⟨B,d,rfl⟩:=hn.form;obtain⟨-,hd,Y⟩:=hn.len_;have HD:=ab Y;unfold maxLen at Y;have a5:=ab iG;have ay:=ab o;clear iG o;go_enter Au,ntmps27;go_wp2;refine(anK (β:=true) 7 _ true (by simp)).mono ?_;rintro e w1 ⟨rfl,rfl⟩;go_wp2;have aL:=av w (.cells #[.int .i64 x.no,.slice B x.all.length d] 41);generalize w.alloc (.cells #[.int .i64 x.no,.slice B x.all.length d] 41)=w0 at *;have b0:=aL.size;go_loopw [8,20] (λoo ii wr=>∃k:Nat,k<=x.all.length/\ii=.int .i64 k/\(∀y∈x.all.take k,(jA 7 l y).isSome=true)/\aJ nB 102 wr w.heap.size oo (fY 7 l (x.all.take k))/\(∀y∈fY 7 l (x.all.take k),nB.good y)/\(fY 7 l (x.all.take k)).length=k/\Below w.heap.size w wr) (λ_ ii _=>x.all.length-(intOf ii).toNat)
 case atStart=>exact⟨0,eg _,rfl,λy hy=>(by cases hy),aJ.nil _ _ _,λy hy=>(by cases hy),rfl,aL⟩
 case round=>
  obtain⟨k,hk,rfl,m,S,P,R,hb⟩:=hrel;have D:=ab m;have u:=ab P;have I:=ab R;clear m P R aL;have an:=hb.size;by_cases a7:k<x.all.length
  .obtain⟨y,cN⟩:=aq a7;have Q:fw wr lo hi x.all [.slice B x.all.length d]:=fw.loc.below hn hb aV;obtain⟨b,aZ,A',c',rfl,b1,H,aa,af,aI,o⟩:=aq5 Q cN;have HY:=ab cN;have a0:=ay.out y (db cN);clear cN;go_wp2;have ba:=av wr (.cells #[.string y.p,.slice A' y.ns.length c'] 67);have kb:=bg.new wr 67 #[.string y.p,.slice A' y.ns.length c'];generalize wr.alloc (.cells #[.string y.p,.slice A' y.ns.length c'] 67)=wa at *;have t:=ag hb ba;have aH:=t.size;obtain⟨⟨g0,e0⟩,g1,e1⟩:=hg.below t;have HF:=am4 7 (by omega) l A c y.ns _ lo hi wa g0 g1 (ap aV aH) (hl.below t) ad hc a5.out (lM.loc.below o ba (ap aV an)) a0 e0 e1;refine HF.mono ?_;clear HF e0 e1 Q af aI o;rintro e w2 ⟨v2,q,rfl,O,fD,K⟩;have T:=ag t K;have L:=ab O;clear O;have ao:=ak kb K;cases q with
   |false=>
    have a:ig 7 l x.all=none:=akx (db HY.out) (akw λN=>by have:=L.out.2 N.1;cases this);have g:=ab a;clear a fD;go_wp2;go_ret2;exact aam.no g.out T
   |true=>
    have j:=L.out.1 rfl;have J:∀s∈oT 7 l y.ns,bA (bs s):=λs hs=>by
     obtain⟨n,hn,rfl⟩:=pe.1 hs;exact(mn (j n hn)).1
    have V:∀s∈oT 7 l y.ns,s.size<=maxLen:=λs hs=>by have:=(gK (J s hs)).2;unfold maxLen;omega
    have o2:aJ iJ 9 w2 wa.heap.size v2 (oT 7 l y.ns):=fD rfl;have t2:=iI.sl (aJ.deep o2 V wa.heap.size) (am _);have U:(oT 7 l y.ns).length<=2147483647:=by unfold oT;rw[qg];exact a0
    have HC:=λM (r:Below w2.heap.size w2 M)=>aqh (β:=true) (oT 7 l y.ns) J U v2 M _ _ (dE.ar.below t2 r (am _)) r.size;have a2:=ab HC;have ax:=ab (show amH 7 l y.ns from j);clear HC j J V o2 t2 U fD L;go_wp2;refine(a2.out _ (fd _ _)).mono ?_;rintro e M ⟨rfl,r⟩;have E:=ag T r;have al:=ak ao r;have cp:=al.cell 0;cases hj:(jz (oT 7 l y.ns)).2
    .have a:ig 7 l x.all=none:=akx (db HY.out) (akw λN=>by rw[hj] at N;cases N.2);have g:=ab a;clear a hj;go_wp2;go_ret2;exact aam.no g.out E
    .have C:=aqj (x:=y) ax.out hj;have a4:(jz (oT 7 l y.ns)).1.size<=maxLen:=by have:=am5 (l:=oT 7 l y.ns);unfold maxLen;omega
     generalize (jz (oT 7 l y.ns)).1=tx at *;have a1:=aky HY.out C;have W:∀z∈x.all.take (k+1),(jA 7 l z).isSome=true:=λz f=>by
      rw[kw HY.out] at f;rcases mx.1 f with f|f
      .exact D.out z f
      .rw[mw.1 f,C];rfl
     have HN:=ab a1;have a8:=ab W;clear a1 W C hj;have po:=(S.below (ag ba (K.trans (r.mono K.size)))).below (fd _ _);obtain⟨Ao,co,rfl⟩:=po.form;have Z:=E.size;go_wp2_with(at_builtin;refine cx (F:=nB) (v:=.slice Ao (fY 7 l (x.all.take k)).length co) rfl (.tmp 41) (.tmp 46) 44 rfl oL (⟨y.p,tx⟩:Nd) rfl po rfl rfl (by rw[I.out];omega) Z ?_;intro va w4 oa a6 aT;obtain⟨Aa,ca,rfl⟩:=oa.form);go_roundw
     case rel=>
      have a3:=E.trans (a6.below Z λi hi hx=>by have:=(po.at_ hx).1;omega);refine⟨k+1,by omega,by go_num,a8.out,by rw[HN.out];simp only[aE,fi,mT,mc] at oa;exact oa, ?_,by rw[HN.out,aE,I.out];rfl,a3⟩;rw[HN.out];intro z f;rcases mx.1 f with f|f
      .exact u.out z f
      .rw[mw.1 f];exact⟨aa,a4⟩
     case measure=>simp[intOf];omega
  .obtain rfl:k=x.all.length:=by omega
   rw[gc] at D u I S;have t3:=iI.sl (aJ.deep S u.out w.heap.size) (am _);obtain⟨q,O⟩:∃q:Bool,q=true↔agT (fY 7 l x.all):=by
    by_cases hx:agT (fY 7 l x.all)
    .exact⟨true,by simp[hx]⟩
    .exact⟨false,by simp[hx]⟩
   have HT:=λM (r:Below wr.heap.size wr M)=>atj (β:=true) (fY 7 l x.all) u8 M _ _ (fX.ar.below t3 r (am _)) r.size q O;have a9:=ab HT;have L:=ab O;clear HT O t3;go_wp2;refine(a9.out _ (fd _ _)).mono ?_;rintro e w2 ⟨rfl,K⟩;have H:=ag hb K;cases q with
   |false=>
    have a:ig 7 l x.all=none:=by
     unfold ig;rw[be];rintro⟨-,N⟩;have:=L.out.2 N;cases this
    have g:=ab a;clear a;go_wp2;go_ret2;exact aam.no g.out H
   |true=>
    have X:ig 7 l x.all=some (fY 7 l x.all):=by
     unfold ig;rw[du ⟨D.out,L.out.1 rfl⟩]
    have G:=ab X;clear X;have fD:=S.below K;clear S;go_wp2;go_ret2;refine⟨u8,by rw[G.out];rfl,by rw[G.out];exact fD,by rw[G.out];exact u.out,H⟩
def ait(x:Sn)(b:Value)(a:Int)(g:Nat)(w:World)(c:w.cell? ⟨g,0,none⟩=some (.int .i64 a)) :
  Calls (ah true) 26 #[.agg #[.int .i64 x.no,b],.pointer (some ⟨g,0,none⟩)] w λe j=>e=.returned (.bool (x.no ==a))/\Below w.heap.size w j:=by
 have d:=av w (.cells #[.int .i64 x.no,b] 41);have k:(w.alloc (.cells #[.int .i64 x.no,b] 41)).cell? ⟨g,0,none⟩=some (.int .i64 a):=(qy (d.block g (eW c))).trans c;have f:=eW c;have i:(x.no ==a)=decide (x.no=a):=rfl;rw[i];go_enter yi,ntmps26;go_wp2;go_ret;exact⟨by rfl,d⟩
def awg:acr (β:=true) 26:=ae2 yi (by kernel_rfl) rfl
def atn{xs:List Sn}(h:iy w Z hi xs [.slice A n c]){x:Sn}(i:xs[k]?=some x) :
  ∃b a A' d,A=some ⟨b,a,none⟩/\Z<=b/\b<hi/\cf x.no/\w.cell? ⟨b,a+k*2,none⟩=some (.int .i64 x.no)/\w.cell? ⟨b,a+k*2+1,none⟩=some (.slice A' x.all.length d)/\fw w Z hi x.all [.slice A' x.all.length d]:=by
 obtain⟨b,a,m,rfl,j,g,l,⟨v,rfl,f,hi⟩,e⟩:=h.at_ i;obtain⟨A',d,rfl⟩:=hi.form;exact⟨b,a,A',d,rfl,j,g,f,by simpa using e 0 _ rfl,e 1 _ rfl,hi⟩
def ato(xs:List Sn)(f:Int)(A:Option Addr)(c g:Nat)(w:World)(J hi:Nat)(h:iy w J hi xs [.slice A xs.length c])(E:hi<=w.heap.size)(z:w.cell? ⟨g,0,none⟩=some (.int .i64 f)) :
  Calls (ah true) 25 #[.slice A xs.length c,.func (.func 26) #[] #[.pointer (some ⟨g,0,none⟩)]] w λe v=>∃j:Int,e=.returned (.int .i64 j)/\((∃(k:Nat) (y:Sn),j=k/\k<xs.length/\xs[k]?=some y/\xs.find? (λx=>x.no ==f)=some y)\/(j=-1/\xs.find? (λx=>x.no ==f)=none))/\Below w.heap.size w v:=by
 obtain⟨_,M,H⟩:=h.len_;unfold maxLen at H;have t:=eW z;go_enter yj,ntmps25;go_wp2;go_loopw [8] (λi wr=>∃k:Nat,k<=xs.length/\i=.int .i64 k/\xs.find? (λx=>x.no ==f)=(xs.drop k).find? (λx=>x.no ==f)/\Below w.heap.size w wr) (λi _=>xs.length-(intOf i).toNat)
 case atStart=>exact⟨0,eg _,rfl,rfl,fd _ _⟩
 case round=>
  obtain⟨k,L,rfl,a,q⟩:=hrel;replace a:=ab a;have u:wr.cell? ⟨g,0,none⟩=some (.int .i64 f):=(qy (q.block g t)).trans z;by_cases n:k<xs.length
  .obtain⟨x,p⟩:=aq n;obtain⟨b,G,B,d,rfl,_,_,I,C,K,N⟩:=atn (iy.loc.below h q E) p;have l:xs.drop k=x::xs.drop (k+1):=by
    obtain⟨F,D⟩:=pi.1 p;rw[so F,D]
   replace p:=ab p;replace l:=ab l;have O:=awg (#[.agg #[.int .i64 x.no,.slice B x.all.length d]]++#[.pointer (some ⟨g,0,none⟩)]) wr;go_wp2;refine(ait x _ f g wr u).mono ?_;rintro e v ⟨rfl,m⟩;replace m:=ag q m;cases o:(x.no ==f)
   .have r:xs.find? (λx=>x.no ==f)=(xs.drop (k+1)).find? (λx=>x.no ==f):=by rw[a.out,l.out,rZ,o]
    have s:=ab r;go_wp2;go_roundw
    case rel=>exact⟨k+1,by omega,by go_num,s.out,m⟩
    simp[intOf];omega
   .have r:xs.find? (λx=>x.no ==f)=some x:=by rw[a.out,l.out,rZ,o]
    have s:=ab r;go_wp2;go_ret;exact⟨k,rfl,.inl ⟨k,x,rfl,n,p.out,s.out⟩,m⟩
  .obtain rfl:k=xs.length:=by omega
   go_wp2;go_ret;exact⟨-1,rfl,.inr ⟨rfl,by rw[a.out,uO];rfl⟩,q⟩
def iw.alz{l:List Pk}(h:iw w Z hi l [v]):∀p∈kH l,cf p.1:=λp a=>by
 obtain⟨A,c,rfl⟩:=bD.form h;obtain⟨q,d,rfl⟩:=pe.1 a;obtain⟨i,hi⟩:=rL.1 d;obtain⟨_,_,_,_,_,_,_,⟨_,_,b,_⟩,_⟩:=bD.at_ h hi;exact b
def ai6(s:dy)(hs:SmS s)(J:∀p∈s.pk,1<=p.its.length)(f:Int)(va vb vc:Value)(Y hi:Nat)(w:World)(hg:Glo w)(Q:hi<=w.heap.size)(h:gb w Y hi s va vb vc) :
  Calls (ah true) 11 #[.int .i64 7,.agg #[va,vb,vc],.int .i64 f] w (aam (fA 7 s f) w):=by
 obtain⟨G,H,h3⟩:=h;obtain⟨A,a,rfl⟩:=bD.form G;obtain⟨B,b,rfl⟩:=bD.form H;have iG:∀p∈kH s.pk,1<=p.2.length/\cf p.1:=λp hp=>⟨by
  obtain⟨q,hq,rfl⟩:=pe.1 hp;have:=J q hq;unfold pkd;simpa using this,G.alz p hp⟩
 obtain⟨-,ha,O⟩:=bD.len_ G;obtain⟨-,hb,a2⟩:=bD.len_ H;have HM:=ab O;have X:=ab iG;have HS:=ab hs;have g:fA 7 s f=match s.sn.find? (λx=>x.no ==f) with
  |some x=>ig 7 (kH s.pk) x.all
  |none=>none:=rfl
 replace g:=ab g;clear iG hs J O;unfold maxLen at a2;go_enter AG,ntmps11;go_wp2;generalize hG:(w.alloc (.cells #[.slice A s.pk.length a,.slice B s.sn.length b,vc] 27)).alloc (.cells #[.int .i64 f] 3)=w0 at *;obtain⟨P,jo,S,dn,eQ,k1,dG,eD⟩:=pW hG;clear hG;have F:w0.cell? ⟨w.heap.size+1,0,none⟩=some (.int .i64 f):=dG 0;have N:=iw.loc.below G P Q;have E:=iy.loc.below H P Q;have a6:=P.size;refine(ato s.sn f B b _ w0 Y hi E (by omega) F).mono ?_;rintro e w1 ⟨j,rfl,hj,b1⟩;have i:=ag P b1;rcases hj with⟨k,y,rfl,a5,U,m⟩|⟨rfl,m⟩
 .obtain⟨bb,a8,C,d,rfl,_,_,a9,T,a3,Z⟩:=atn (iy.loc.below H i Q) U;have K:=HS.out.sn y (db U);have l:fA 7 s f=ig 7 (kH s.pk) y.all:=by rw[g.out,m]
  have t:=ab l;have a1:=ab K;have H1:=ab (iw.loc.below G i Q);replace Z:=ab Z;clear l m U K N E G H F g;replace S:=ak S b1;replace dn:=S.cell;replace eQ:=S.frozen;have f0:=dn 0;have f1:=dn 1;have a7:=i.size;have V:=hg.below i;go_wp2;have aH:=ae f0;have aI:=ae f1;have bc:=ae T;have dB:=ae a3;refine aC 11 [0,1,2,3,4,5,6,7] [8,9,10] (h:= ?_);simp only[pick,List.map,gt,gE];repeat(go_big_quiet_step (fail))
  refine ip ?_;clear aH aI bc dB;apply Exists.intro;apply aY (λv w'=>∃u,v=.tuple #[u,.bool (fA 7 s f).isSome]/\aJ nB 102 w' w.heap.size u ((fA 7 s f).getD [])/\∀y∈(fA 7 s f).getD [],nB.good y)
  .rfl
  .exact λv x y ⟨u,e,ho,hgd⟩ hle=>⟨u,e,ho.below hle,hgd⟩
  .intro z o Qx c;replace c:=ab c;clear o;have M:=V.below z.ok;have a4:=z.ok.size;have kh:=(iw.loc.below H1.out z.ok (by omega)).pkl (by omega);have r:=fw.loc.below Z.out z.ok (by omega);have L:=a1.out;have D:(kH s.pk).length=s.pk.length:=qg _;have R:=am6 (kH s.pk) A a y _ Y hi z.to M (by omega) kh (by rw[D];exact ha) HM.out X.out r (λq hq=>by have:=(L.2 q hq).2;omega) (by omega);rw[D] at R;replace R:=ab R;clear kh r L M D;go_wp2;refine R.out.mono ?_;rintro e w5 ⟨u,rfl,I,n,b5⟩;go_wp2;rw[<-t.out] at I n ⊢;exact c.out _ _ b5 ⟨_,rfl,I.base (by omega),n⟩
  intro v8;apply aY (λv w'=>aJ nB 102 w' w.heap.size v ((fA 7 s f).getD [])/\∀y∈(fA 7 s f).getD [],nB.good y)
  .rfl
  .exact λv x y ⟨ho,hgd⟩ hle=>⟨ho.below hle,hgd⟩
  .intro z o Qx c;replace c:=ab c;obtain⟨u,rfl,I,n⟩:=o.1 (by kernel_rfl);go_wp2;exact c.out _ _ (fd _ _) ⟨I,n⟩
  intro v9;apply cT (.bool (fA 7 s f).isSome)
  .intro z o Qx c;replace c:=ab c;obtain⟨u,rfl,I,n⟩:=o.2.1 (by kernel_rfl);go_wp2;exact c.out _ (fd _ _)
  refine aQ ?_;intro w6 gZ xx cU o;dsimp only[dQ] at o;try rw[cU] at o
  clear cU xx;obtain⟨⟨o9,a0⟩, -⟩:=o;simp only[List.drop];have W:=ag i gZ;go_wp2;go_ret2;exact⟨_,rfl,o9,a0,W⟩
 .have l:fA 7 s f=none:=by rw[g.out,m]
  have t:=ab l;clear l m N E G H F g;go_wp2;go_ret2;exact aam.no t.out i
def aq9(o:Option (List Nd))(base:Nat)(v:Value)(w:World):Prop:=∃u,v=.tuple #[u,.bool o.isSome]/\aJ nB 102 w base u (o.getD [])/\∀y∈o.getD [],nB.good y
def ara(o:Option (List Nd))(base:Nat)(v:Value)(w:World):Prop:=aJ nB 102 w base v (o.getD [])/\∀y∈o.getD [],nB.good y
def aq9.below{base:Nat}{x y:World}(h:aq9 o base v x)(c:Below x.heap.size x y):aq9 o base v y:=by
 obtain⟨u,e,b,a⟩:=h;exact⟨u,e,b.below c,a⟩
def ara.below{base:Nat}{x y:World}(h:ara o base v x)(a:Below x.heap.size x y):ara o base v y:=⟨h.1.below a,h.2⟩
def auB{s:dy}(h:∀p∈s.pk,1<=p.its.length)(L:jw):∀p∈(dM s L).pk,1<=p.its.length:=by
 have same:(dM s L).pk=s.pk->∀p∈(dM s L).pk,1<=p.its.length:=λe=>by rw[e];exact h
 by_cases f:L.k=1
 .rw[aag f];exact λp b=>h p (rI.1 b).1
 by_cases c:L.k=2
 .by_cases a:0<=L.n/\L.n<=s.lg.length
  .exact same (by rw[oP c a])
  .exact same (by rw[mS c a])
 by_cases g:L.k=3
 .rw[abD g];intro p b;obtain⟨q,i,rfl⟩:=pe.1 b;have:=h q i;unfold fS;split
  .show 1<=(sG q.its L.m.toNat _).length;rw[nQ];exact this
  .exact this
 by_cases d:L.k=4
 .by_cases a:0<=L.n/\L.n<s.lg.length
  .exact same (by rw[abE d a])
  .exact same (by rw[mU d a])
 exact same (by rw[abF f c g d])
end
section
variable {β:Bool}
open Go.RowKit
def awK(w:World)(ys:List Int)(e:Ending)(w':World):Prop:=∃v,e=.returned v/\aJ gR 3 w' w.heap.size v ys/\Below w.heap.size w w'
def eU(its:List It):List Int:=its.map λx=>x.n
def akz(a:List It):(eU a).length=a.length:=by unfold eU;rw[qg]
def aiu{a:List It}{x:It}(h:a[k]?=some x):eU (a.take (k+1))=eU (a.take k)++[x.n]:=by
 unfold eU;rw[kw h,qZ];rfl
def ab9(u:Int)(a:List It)(v:Value)(w:World)(O hi:Nat)(E:hi<=w.heap.size)(h:aaI w O hi a [v])(W:a.length<=100000000) :
  Calls (ah β) 10 #[.agg #[.int .i64 u,v]] w (awK w (eU a)):=by
 obtain⟨A,c,rfl⟩:=h.form;obtain⟨_,R,K⟩:=h.len_;unfold maxLen at K;go_enter AH,ntmps10;go_wp2;generalize z:w.alloc (.cells #[.int .i64 u,.slice A a.length c] 36)=wa at *;obtain⟨t,N,D,m,q⟩:=mB z;clear z;go_loopw [3,9] (λx s wr=>∃k:Nat,k<=a.length/\s=.int .i64 k/\aJ gR 3 wr w.heap.size x (eU (a.take k))/\Below w.heap.size w wr) (λx s _=>a.length-(intOf s).toNat)
 case atStart=>exact⟨0,eg _,rfl,aJ.nil _ _ _,t⟩
 case round=>
  clear D m q t;obtain⟨k,C,rfl,e,b⟩:=hrel;obtain⟨M,I,rfl⟩:=e.form;by_cases j:k<a.length
  .obtain⟨y,g⟩:=aq j;have f:=akz (a.take k);rw[ef,qR C] at f;have d:=aiu g;have HST:=ab d;clear d;obtain⟨V,Q,rfl,_,_,G,T,S⟩:=aso (aaI.ar.below h b E) g;replace g:=ab g;revert f HST e;generalize eU (a.take k)=L;intro e f HST;have H:=ab f;clear f;have p:=av wr (.cells #[.int .i64 y.n,.string y.b] 63);replace e:=e.below p;replace b:=ag b p;have HO:=ab e;clear e;clear p;have r:Hid ((wr.alloc (.cells #[.int .i64 y.n,.string y.b] 63)).heap.size=wr.heap.size+1):=ab (by simp);go_wp2_with(at_builtin;refine cx (F:=gR) (v:=.slice M L.length I) rfl (.tmp 13) (.tmp 16) 37 rfl nM y.n rfl HO.out (ga (λn=>Value.slice (some ⟨n,0,none⟩) 1 1) r.out.symm) rfl (by have:=H.out;omega) b.size ?_;intro Y X o l B;obtain⟨U,P,rfl⟩:=o.form;simp only[aE,fi,mT,mc] at o);go_roundw
   case rel=>exact⟨k+1,by omega,by go_num,by rw[HST.out];exact o,b.trans (l.below b.size λi hi J=>by have:=(HO.out.at_ J).1;omega)⟩
   simp[intOf];omega
  .obtain rfl:k=a.length:=by omega
   rw[gc] at e ⊢;go_wp2;go_ret;exact⟨_,rfl,e,b⟩
end
section
variable {β:Bool}
open Go.RowKit
section
variable {P:Program} {α:Type} {F:Flat α}
def aoV {l:Array Oper} {rest:List Oper} {o:Oper} {Q:Exit->Act->World->Prop} (m:o.guard=none) (s x:Operand) (t:TypeId)
  (C:o.op=.call ⟨.builtin .append,#[s,x],#[t,t]⟩)
  (z:iu P t e F.sz Z) {base:Nat} {xs d:List α} (H:a.eval s=v) (g:aJ F e w base v xs)  (I:a.eval x=.slice A d.length c) (D:bD (bV F) F.sz w V hi d [.slice A d.length c]) (p:hi<=w.heap.size)
  (J:xs.length+d.length<=1099511627776) (f:base<=w.heap.size)
  (h:∀k i,aJ F e i base k (xs++d)->bj (λb=>v.ownBlock=some b) w i->(∀b,k.ownBlock=some b->v.ownBlock=some b\/w.heap.size<=b)->wpList P l Q rest (a.put o.dst k) i) :
  wpList P l Q (o::rest) a w:=
 ack m s x t C z H g I (news:=dA F d) (dU F d) (λB=>by
  obtain⟨y,r,q⟩:=kq D p B;exact⟨y,r,λj u E=>q j u E w (fd _ _)⟩) (aax F d) J f λk i n=>h k i (by
  have G:=n.own;unfold aJ;rw[lz,aE];exact G) n.fE n.at_
end
end
section
open Go.RowKit Go.ChangeShapes Go.WideShapes Go.ChangeAt
section
variable {H:Type} {enc:TypeId×Value->H} {P:Program}
def aa6(i:laidOutB P=true){W l:World}{e:Nat->Bool}:∀{g:List TypeId} {j:List Value} {k:List (DataW H)} {f:List MemPlace},
  (∀t∈g,P.readableRec t=true/\t<P.types.size)->DataW.TrodAll enc P W 0 (λ_=>true) true g j k f->(∀p∈f,W.sameAt l p)->(∀p∈f,e p.block=true)->
  DataW.TrodAll enc P l 0 e true g j k f
 |[],_,_,_,_,h,_,_=>by
  obtain⟨rfl,rfl,rfl⟩:=trodAll_nil h;exact trodAll_mk0
 |t::g,_,_,_,hr,h,hs,hsp=>by
  obtain⟨v,q,d,m,a,b,rfl,rfl,rfl,u,n⟩:=trodAll_cons h;obtain⟨o,s⟩:=hr t (by simp);refine trodAll_cons_mk (WideElems.Trod_stays i o s u (λp c=>hs p (by simp[c])) (λp c=>hsp p (by simp[c]))) ?_;exact aa6 i (λt r=>hr t (by simp[r])) n (λp c=>hs p (by simp[c])) (λp c=>hsp p (by simp[c]))
def adx{w:World}{base:Nat}{c:Nat->Bool}{e:Bool}:∀{f:List TypeId} {m:List Value} {g:List (DataW H)} {l:List MemPlace},DataW.TrodAll enc P w base c e f m g l->g.length=f.length
 |[],_,_,_,h=>by
  obtain⟨_,rfl,_⟩:=trodAll_nil h;rfl
 |t::f,_,_,_,h=>by
  obtain⟨v,k,d,i,a,b,rfl,rfl,rfl,n,j⟩:=trodAll_cons h;rw[fi,fi,adx j]
end
def own:ownKnob prog.godebug=none:=by kernel_rfl
def xM:laidOutB prog=true:=by kernel_rfl
section
variable {H:Type} {enc:TypeId×Value->H} {P:Program}
def aqk {base:Nat} {n:Bool} {r:Reach} {k:IntKind} {d:DataW H} {E:gG Int} (D:P.underlying t=some (.slice e)) (T:P.underlying e=some (.int k)) (X:P.cellsOf e=1)
  (N:∀(w:World) (L l:Nat) (x:Int),(Lit.int k x).wf=true->E w L l x [.int k x])
  (V:Value.okWide P w r Z t v) (h:DataW.Trod enc P w base U n t v d p) (s:∀x∈p,x.block<w.heap.size) :
  ∃R:List Int,bD E 1 w 0 w.heap.size R [v]:=by
 obtain⟨a0,len,cap,rfl⟩:=okWide_slice D V;obtain⟨J,Q⟩:=h;rcases open_ints D T X Q with⟨c,C⟩|⟨a,G,F,m,c,_,Y,S,I,C,g,A⟩
 .simp[Value.cells] at c;obtain⟨rfl,rfl,rfl⟩:=c;exact⟨[],none,0,rfl,am _,by unfold maxLen;omega,λh=>absurd h (by simp)⟩
 .simp[Value.cells] at c;obtain⟨rfl,rfl,rfl⟩:=c;have f:(m.take len).length=len:=by
   rw[ef,I];split<;>omega
  refine⟨m.take len,some a,cap,by rw[f],by omega,S,λO=> ?_⟩;rw[f] at O;have M:len<=m.length:=by rw[I];split<;>omega
  obtain⟨b,q,rfl,z⟩:=ints_at g (by omega);refine⟨b,q,rfl,eg _, ?_,λi x l=> ?_⟩
  .simp only[vG] at C;have y:MemPlace.cell b q∈p:=by
    rw[C.2];have:m.length=(m.length-1)+1:=by omega
    simp[MemPlace.row];omega
   exact s _ y
  .have o:i<len:=by have:=aB l;omega
   have K:m.getD i 0=x:=by
    rw[tq o] at l;rw[sY,l];rfl
   refine⟨[.int k x],rfl,N _ _ _ _ (A x ?_),λj u B=> ?_⟩
   .rw[tq o] at l;exact db l
   .have W:j=0:=by have:=aB B;simpa using this
    subst W;simp at B;subst B;have:=z i (by omega);rw[K] at this;simpa using this
end
def we {H:Type} {enc:TypeId×Value->H} {base:Nat} {a:Bool} {r:Reach} {d:DataW H} 
  (c:Value.okWide prog w r Z 22 v) (h:DataW.Trod enc prog w base U a 22 v d p) (b:∀x∈p,x.block<w.heap.size):∃e:List Int,bD iO 1 w 0 w.heap.size e [v]:=
 aqk underlying22 underlying5 (by kernel_rfl) (λ_ _ _ x f=>⟨rfl,by simp[Lit.wf,IntKind.min,IntKind.max,IntKind.signed,IntKind.bits] at f;exact⟨by omega,by omega⟩⟩) c h b
end
section
open Go.RowKit Go.ChangeShapes Go.WideShapes Go.ChangeAt Go.Conc
section
variable {H:Type} {enc:TypeId×Value->H} {P:Program}
def ab6{w:World}{a:Nat->Bool}:∀{b:List String} {c:List (DataW H)} {i:List MemPlace},DataW.TrodVars enc P w a b c i->c.length=b.length
 |[],[],_,_=>rfl
 |[],_::_,_,h=>h.elim
 |_::_,[],_,h=>h.elim
 |n::b,d::c,i,h=>by
  obtain⟨g,t,o,f,p,q,r,k,l,m,j,e⟩:=h;rw[fi,fi,ab6 j]
theorem aoS {f:Func} {s:ChangeSpec} {b:Bool} {W u:World} {args:Array Value} {i gs:List (DataW H)} {a:List MemPlace} {o:TypeId}
  (r:laidOutB P=true) (w:∀t∈f.params.toList,P.readableRec t=true/\t<P.types.size) (e:f.resultTypes=#[o]) (n:P.underlying o=some .bool) (m:varsRowed P s.vars=true)
  (c:s.fn H (i++gs)={results:=[.lit (.bool true)],args:=i,vars:=gs})
  (k:DataW.Whole enc P f.params.toList s.vars b W args.toList i gs a) (j:Below W.heap.size W u) :
  s.post enc P f b true false false W args (.bool true) u:=by
 have d:∀p∈a,p.block<W.heap.size:=λp v=>by simpa using k.lt p v
 have l:=k;obtain⟨p,q,B,z,rfl,A,y⟩:=k;refine⟨i,gs,p++q,[],p,q,l, ?_, ?_, ?_,World.keptBut_mono (λx g=>g.elim) (j.frame λ_=>False),λh=>by cases h⟩
 .rw[c,e];exact trodAll_mk1 (shut_bool n _)
 .rw[c];exact aa6 r w B (λx g=>j.same (d x (by simp[g]))) (λx g=>by simpa using d x (by simp[g]))
 .rw[c];exact j.trodVars r m z
end
def xy (i:Looks) {p:Pinned} {s:OpenSpec} {c:OpenClaim} (m:List (List PathCond)) (kinds:List LaidKind) (a:Bool) (b:Bool×String) (d:Bool)
  (z:c.holds p s) (y:∀D∈m,(c.withDomain D).holds p s) (v:c.wfByText s=true) (k:∀D∈m,(c.withDomain D).wfByText s=true)
  (l:c.laidByTextAt i p kinds a)
  (e:c.start=.entering) (g:c.noBlocks=false/\c.again=false) (q:p.checked.prog.mainIs=some (b.1,b.2.toList)) (x:(!b.1&&b.2.isEmpty&&!d)=false)
  (n:∀f fn,p.checked.prog.funcNamed c.func=some f->p.checked.prog.funcs[f]?=some fn->d=p.checked.prog.looks []/\∀(j:Nat) t,fn.params[j]?=some t->p.checked.prog.wantsStandIn t=false)
  (w:true=c.goesBy p.checked.prog) :
  Claim7.holds p (.plain s) {stood:={row:=c,standIns:=[],harness:=b,looks:=d},kinds:=[],alts:=m,goes:=true,laidByText:=true,laidKinds:=kinds,laidTests:=a,laidLooks:=i}:=by
 have u:∀r:OpenClaim,Claim7.isSixth {stood:={row:=r,standIns:=[],harness:=b,looks:=d},kinds:=[]}=false:=λr=>by simpa[Claim7.isSixth] using x
 refine⟨Claim7.tied_new_at i kinds a (wT z b d e g q (u c) n) v,λD o=> ?_,l,(λh=>by cases h),w⟩;exact Claim7.tied_new_at i kinds a (wT (y D o) b d e g q (u _) n) (k D o)
abbrev laidL:List (String×DataW Unit):=[("unicode/utf8.acceptRanges",Rows.laid_unicode_utf8_acceptRanges),("loop.example/depositary/impl.errPiece",Rows.laid_loop_example_depositary_impl_errPiece),("loop.example/depositary/impl.errKey",Rows.laid_loop_example_depositary_impl_errKey),("unicode/utf8.first",Rows.laid_unicode_utf8_first)]
def xG(os:Os)(args:Array Value):laidMetH prog laidL ((World.laidAll prog os laidL).forCall (λ_ _=>0) ⟨#[],args,[]⟩).memory:=by
 rw[vQ _ _ _ (by kernel_rfl)];exact laidMet_laidAll _ (by kernel_rfl) (by kernel_rfl)
end
section
open Go.Conc Go.ConcN Go.RowKit
structure aan (w0 w:World) (n:Nat) (res:List (ByteArray×Bool)):Prop where
 low:∀b,b<w0.heap.size->w.heap[b]?=w0.heap[b]?
 lt:w0.heap.size<w.heap.size
 row:∃cs,w.heap[w0.heap.size]?=some (.cells cs 141 (0,0))/\cs.size=2*n/\∀i x,res[i]?=some x->cs[2*i]?=some (.string x.1)/\cs[2*i+1]?=some (.bool x.2)
def setRow(h:w.heap[C]?=some (.cells cs t z)):(w.setCell ⟨C,i,none⟩ v).heap[C]?=some (.cells (cs.setIfInBounds i v) t z):=by
 unfold World.setCell;simp[pr,h]
def fq(h:w.heap[C]?=some (.cells cs t z)):w.cell? ⟨C,i,none⟩=cs[i]?:=by
 unfold World.cell?;simp[h]
def iL(h:w.heap[C]?=some (.cells cs t (0,0))):w.frozen? ⟨C,i,none⟩=false:=by
 unfold World.frozen?;simp[h]
def aan.below(h:aan w0 w n Y)(c:Below w.heap.size w w'):aan w0 w' n Y:=by
 obtain⟨e,f,d⟩:=h.row;exact⟨λb a=>(c.block b (Nat.lt_trans a h.lt)).trans (h.low b a),bd h.lt c.size,e,(c.block _ h.lt).trans f,d⟩
def aan.store(h:aan w0 w n Y)(o:Y.length<n)(x:ByteArray×Bool):aan w0 ((w.setCell ⟨w0.heap.size,2*Y.length,none⟩ (.string x.1)).setCell ⟨w0.heap.size,2*Y.length+1,none⟩ (.bool x.2)) n (Y++[x]):=by
 obtain⟨p,l,g,j⟩:=h.row;refine⟨λb k=> ?_, ?_,_,setRow (setRow l),by simpa using g,λi y c=> ?_⟩
 .have d:w0.heap.size≠b:=by omega
  rw[bu _ _ _ d,bu _ _ _ d];exact h.low b k
 .rw[bv,bv];exact h.lt
 .rw[wQ] at c;split at c
  .rename_i f;obtain⟨a,b⟩:=j i y c;constructor
   .rw[lc (by omega),lc (by omega)];exact a
   .rw[lc (by omega),lc (by omega)];exact b
  .rename_i m;have e:i=Y.length:=by
    have:=(pi.1 c).1;simp at this;omega
   subst e;simp at c;subst c;constructor
   .rw[lc (by omega),qk (by omega)]
   .rw[qk (by simp;omega)]
abbrev inH(k:List Item):List Item:=.inLoop nk :: .inBlock 53::k
def afJ:f86.body.isSome=true:=by kernel_rfl
def atp(β:Bool):∃fn,(ah β).funcs[86]?=some fn/\fn.body.isSome=true/\(fn.name == "runtime.NumGoroutine")=false:=by
 refine⟨pf f86, ?_, ?_,by have:=cH func86;exact this⟩
 .rw[alu β (by decide) (by decide),func86];rfl
 .show(f86.body.map gP).isSome=true;rw[Option.isSome_map];exact afJ
def akA{β:Bool}{args:Array Value} :(callFunc 86 args).runT (ah β) w #[]=(.ok (.enter 86 args) w,#[]):=by
 obtain⟨fn,c,b,d⟩:=atp β;unfold callFunc;have f:¬fn.name= "runtime.NumGoroutine" :=by simpa using d
 have a:¬fn.body=none:=λe=>by rw[e] at b;cases b
 simp[c,f,a]
section
variable {X:Cx} {T:Array Value} {k:List Item} {w:World}
def At.aCa {J:Int->List iY->Int->ByteArray×Bool} (hF:eT J)  {Y : Option Addr} {j : Nat}  (h:At X T (.code nk::inH k) w)
  (k1:1<=key) (k2:key<=99) (hl:l.length=n) (hc:n<=c) (ao:(c:Int)<=9223372036854775807) (hp:RdP w0 A 0 l) (a7:∀a,Y=some a->a.block<w0.heap.size) (b0:(Z:Int)<=2147483647)
  (F:T.getD 0 undef=.int .i64 key) (s1:T.getD 1 undef=.slice A n c) (s2:T.getD 2 undef=.slice Y Z V) (p:T.getD 16 undef=.int .i64 Z) (o:T.getD 27 undef=.slice (some ⟨w0.heap.size,0,none⟩) Z Z) (g:T.getD 28 undef=.int .i64 j)
  (hj:j<=Z) (al:dK.length=j) (q:aan w0 w Z (dK.map (J key l))) :
  (j=Z/\∃T',Tm cQ T T'/\T'.getD 27 undef=.slice (some ⟨w0.heap.size,0,none⟩) Z Z/\At X T' k w)\/
  (j<Z/\∃nm T' w',ajO w0 Y j nm/\Tm cQ T T'/\T'.getD 16 undef=.int .i64 Z/\T'.getD 27 undef=.slice (some ⟨w0.heap.size,0,none⟩) Z Z/\T'.getD 28 undef=.int .i64 (j+1:Nat)/\aan w0 w' Z ((dK++[nm]).map (J key l))/\At X T' (.code nk::inH k) w'):=by
 have r:=Tm.refl cQ T;unfold Go.Proofs.YtokgbpkbaoeeoaaGreatDoor.nk at h;have h:=h.seq;replace h:=h.region (l:=[0]) rfl;obtain⟨v,G,b1,⟨C,B⟩,m,U,b⟩:=h.jJ (d:=26) (Φ:=λv i=>v=.bool (decide ((j:Int)<Z))/\i=w) rfl rfl rfl (by decide) λL i D=>gV (by exact g) (by exact p) D;rw[C] at U;rw[B] at b;replace F:=(m.same 0 rfl).trans F;replace s1:=(m.same 1 rfl).trans s1;replace s2:=(m.same 2 rfl).trans s2;replace p:=(m.same 16 rfl).trans p;replace o:=(m.same 27 rfl).trans o;replace g:=(m.same 28 rfl).trans g;replace r:=r.trans (m.sw rfl);replace h:=b;replace h:=h.jC.seq.cond U;by_cases Q:(j:Int)<Z
 .right;rw[dk Q] at h;simp only[qe] at h;replace h:=h.skip.seq.seq;replace h:=h.region (l:=[0,1,2,3]) rfl;obtain⟨ii,hi,hz⟩:=(faQ true).i3;obtain⟨v,G,ay,⟨a,hB,C,B⟩,m,N,b⟩:=h.jJ (d:=25) (Φ:=λv i=>∃a,Y=some a/\v=.pointer (some (a.add (j*ii.size)))/\i=w) rfl rfl rfl (by decide) λL i D=>acy (faQ true).u31 hi (by exact s2) (by exact g) (by omega) D;rw[C,hz,tZ] at N;rw[B] at b;replace F:=(m.same 0 rfl).trans F;replace s1:=(m.same 1 rfl).trans s1;replace p:=(m.same 16 rfl).trans p;replace o:=(m.same 27 rfl).trans o;replace g:=(m.same 28 rfl).trans g;replace r:=r.trans (m.sw rfl);replace h:=b;have hv:=h.noV (t:=25) rfl rfl rfl N (λe w he=>afc he);obtain⟨vv,G,aZ,⟨M,B⟩,m,K,b⟩:=h.jJ (d:=20) (Φ:=λv i=>w.cell? (a.add j)=some v/\i=w) rfl rfl rfl (by decide) λL i D=>ahZ (faQ true).u3 rfl (by exact N) hv.1 D;rw[B] at b;replace F:=(m.same 0 rfl).trans F;replace s1:=(m.same 1 rfl).trans s1;replace p:=(m.same 16 rfl).trans p;replace o:=(m.same 27 rfl).trans o;replace g:=(m.same 28 rfl).trans g;replace r:=r.trans (m.sw rfl);replace h:=b;obtain⟨v,G,aV,⟨z,aa,C,B⟩,m,E,b⟩:=h.jJ (d:=22) (Φ:=λv i=>∃z,vv=.int .i64 z/\v=.int .i64 (IntKind.i64.wrap (z*1))/\i=w) rfl rfl rfl (by decide) λL i D=>let⟨v,a1,z,a2,a3,a4⟩:=al5 D rfl;⟨v,a1,z,K.symm.trans a2,a3,a4⟩
  rw[C] at E;rw[B] at b;replace F:=(m.same 0 rfl).trans F;replace s1:=(m.same 1 rfl).trans s1;replace p:=(m.same 16 rfl).trans p;replace K:=(m.same 20 rfl).trans K;replace o:=(m.same 27 rfl).trans o;replace g:=(m.same 28 rfl).trans g;replace r:=r.trans (m.sw rfl);replace h:=b;subst aa;obtain⟨v,G,O,⟨C,B⟩,m,W,b⟩:=h.jJ (d:=21) (Φ:=λv i=>v=.bool (IntKind.i64.wrap (z*1) ==z)/\i=w) rfl rfl rfl (by decide) λL i D=>al7 (by exact E) (by exact K) D;rw[C] at W;rw[B] at b;replace F:=(m.same 0 rfl).trans F;replace s1:=(m.same 1 rfl).trans s1;replace p:=(m.same 16 rfl).trans p;replace K:=(m.same 20 rfl).trans K;replace E:=(m.same 22 rfl).trans E;replace o:=(m.same 27 rfl).trans o;replace g:=(m.same 28 rfl).trans g;replace r:=r.trans (m.sw rfl);replace h:=b;obtain⟨hq,b⟩:=h.jC.ayH W;replace h:=b.seq;replace h:=h.region (l:=[0,1,2]) rfl;have kW:=aby hq;have a8:ajO w0 Y j z:=⟨a,hB,by rw[<-gQ (q.low (a.add j).block (by rw[rF];exact a7 a hB))];exact M,kW⟩;obtain⟨v,G,aH,⟨C,a5⟩,m,H,b⟩:=h.call (d:=24) (f:=86) (args:=#[.int .i64 key,.slice A n c,.int .i64 z]) rfl rfl rfl (by decide) (λw=>by
    have hm:Array.map (Frame.eval (FQ cE O (.inRegion ai9 [0,1,2] :: .code (.region 83 aja false)::inH k))) #[.tmp 0,.tmp 1,.tmp 20]=#[.int .i64 key,.slice A n c,.int .i64 z]:=by
     rw[<-F,<-s1,<-K];simp[Frame.eval]
    have e0:execOp (Frame.eval (FQ cE O (.inRegion ai9 [0,1,2] :: .code (.region 83 aja false)::inH k))) (iP (some 24) (.call ⟨.value (.func 86),#[.tmp 0,.tmp 1,.tmp 20],#[3,23,3]⟩) 141)=callFunc 86 #[.int .i64 key,.slice A n c,.int .i64 z]:=by
     simp only[execOp,iP,resolve];rw[hm];simp[Deferred.ofValue,invoke,Frame.eval];try rfl
    exact(ga (λs=>Sem.runT (ah true) s w #[]) e0).trans akA) (hF true w key A n c l z k1 k2 hl hc ao (hp.below q.low) kW)
  rw[C] at H;replace q:=q.below a5;replace p:=(m.same 16 rfl).trans p;replace E:=(m.same 22 rfl).trans E;replace o:=(m.same 27 rfl).trans o;replace g:=(m.same 28 rfl).trans g;replace r:=r.trans (m.sw rfl);replace h:=b;obtain⟨i2,kL,a6, -⟩:=(faQ true).ad4;obtain⟨v,w2,ad,⟨a2,an,C,B⟩,m,a0,b⟩:=h.jJ (d:=23) (Φ:=λv i=>∃a,some (⟨w0.heap.size,0,none⟩:Addr)=some a/\v=.pointer (some (a.add (j*i2.size)))/\i=G) rfl rfl rfl (by decide) λL i D=>acy (faQ true).ahW kL (by exact o) (by exact g) (by omega) D;cases an;rw[C,a6,jr,mc,tR] at a0;rw[B] at b;replace p:=(m.same 16 rfl).trans p;replace E:=(m.same 22 rfl).trans E;replace H:=(m.same 24 rfl).trans H;replace o:=(m.same 27 rfl).trans o;replace g:=(m.same 28 rfl).trans g;replace r:=r.trans (m.sw rfl);replace h:=b;have R:=q.store (by simp;omega) (J key l z);rw[qg,al] at R;obtain⟨cs,I,aI, -⟩:=q.row;obtain⟨u0,ax⟩:∃u,cs[2*j]?=some u:=⟨_,gn (by omega)⟩;obtain⟨u1,a9⟩:∃u,cs[2*j+1]?=some u:=⟨_,gn (by omega)⟩;have ha:(⟨w0.heap.size,2*j,none⟩:Addr).add 1=⟨w0.heap.size,2*j+1,none⟩:=jr _ _ _;have S:=apv (faQ true) (dst:=none) (ty:=0) (pos:= "") (af:=#[]) (gd:=none) (w:=G) (A:=⟨w0.heap.size,2*j,none⟩) (u0:=.string (J key l z).1) (u1:=.bool (J key l z).2) (e:=(FQ cE ad (.inRegion ai9 (2::[]) :: .code (.region 83 aja false)::inH k)).eval) (x:=.tmp 23) (y:=.tmp 24) rfl rfl (by exact a0) (by exact H) ((fq I).trans ax) (iL I) (by rw[ha];exact(fq I).trans a9) (by rw[ha];exact iL I);rw[ha] at S;replace h:=h.opk rfl rfl rfl S;replace h:=h.jC.region (l:=[0,1]) rfl;generalize (G.setCell ⟨w0.heap.size,2*j,none⟩ (.string (J key l z).1)).setCell ⟨w0.heap.size,2*j+1,none⟩ (.bool (J key l z).2)=i at *;obtain⟨v,G,aL,⟨C,B⟩,m,E,b⟩:=h.jJ (d:=22) (Φ:=λv P=>v=.int .i64 (IntKind.i64.wrap ((j:Int)+1))/\P=i) rfl rfl rfl (by decide) λL P D=>al6 (by exact g) rfl D;rw[C] at E;rw[B] at b;replace p:=(m.same 16 rfl).trans p;replace o:=(m.same 27 rfl).trans o;replace g:=(m.same 28 rfl).trans g;replace r:=r.trans (m.sw rfl);replace h:=b;obtain⟨v,G,aT,⟨C,B⟩,m,g,b⟩:=h.jJ (d:=28) (Φ:=λv P=>v=.int .i64 (IntKind.i64.wrap ((j:Int)+1))/\P=i) rfl rfl rfl (by decide) λL P D=>let⟨v,a1,a2,a3⟩:=ahX D;⟨v,a1,a2.trans E,a3⟩
  rw[C] at g;rw[B] at b;replace p:=(m.same 16 rfl).trans p;replace o:=(m.same 27 rfl).trans o;replace r:=r.trans (m.sw rfl);replace h:=b;rw[afd (by omega)] at g;exact⟨by omega,z,_,i,a8,r,p,o,g,by rw[qZ];exact R,h.jC.again⟩
 .left;rw[da Q] at h;simp only[li,qM] at h;exact⟨by omega,_,r,o,h.exit rfl⟩
def At.axz {G:Int->List iY->Int->ByteArray×Bool} (B:eT G) {w0:World} {key:Int} {A v:Option Addr} {n c d N:Nat} {l:List iY}
  (x:1<=key) (k2:key<=99) (D:l.length=n) (H:n<=c) (q:(c:Int)<=9223372036854775807) (C:RdP w0 A 0 l) (p:∀a,v=some a->a.block<w0.heap.size) (r:(d:Int)<=2147483647):∀(m j:Nat) {T:Array Value} {w:World} {s:List Int},d=j+m->At X T (.code nk::inH k) w->
  T.getD 0 undef=.int .i64 key->T.getD 1 undef=.slice A n c->T.getD 2 undef=.slice v d N->T.getD 16 undef=.int .i64 d->T.getD 27 undef=.slice (some ⟨w0.heap.size,0,none⟩) d d->T.getD 28 undef=.int .i64 j->s.length=j->(∀i nm,s[i]?=some nm->ajO w0 v i nm)->aan w0 w d (s.map (G key l))->
  ∃(b:List Int) (T':Array Value) (u:World),b.length=d/\(∀i nm,b[i]?=some nm->ajO w0 v i nm)/\aan w0 u d (b.map (G key l))/\Tm cQ T T'/\T'.getD 27 undef=.slice (some ⟨w0.heap.size,0,none⟩) d d/\At X T' k u
 |0,j,T,w,s,e,h,s0,s1,s2,dD,jq,jB,hnl,hnm,hrow=>by
  rcases h.aCa B x k2 D H q C p r s0 s1 s2 dD jq jB (by omega) hnl hrow with⟨_,T',J,g,I⟩|⟨y,_⟩
  .exact⟨s,T',w,by omega,hnm,hrow,J,g,I⟩
  .omega
 |m+1,j,T,w,s,e,h,s0,s1,s2,dD,jq,jB,hnl,hnm,hrow=>by
  rcases h.aCa B x k2 D H q C p r s0 s1 s2 dD jq jB (by omega) hnl hrow with⟨W,_⟩|⟨y,nm,V,U,P,f,F,g,E,o,K⟩
  .omega
  .obtain⟨b,T',u,R,S,L,O,M,Q⟩:=At.axz B x k2 D H q C p r m (j+1) (by omega) K ((f.same 0 rfl).trans s0) ((f.same 1 rfl).trans s1) ((f.same 2 rfl).trans s2) F g E (by simp[hnl]) (λi z t=>by
    rw[wQ] at t;split at t
    .exact hnm i z t
    .have:i=j:=by
      have:=(pi.1 t).1;simp at this;omega
     subst this;simp[hnl] at t;subst t;exact P) o
   exact⟨b,T',u,R,S,L,f.trans O,M,Q⟩
end
end
section
open Go.Conc Go.ConcN
def mxA:Option Addr->Nat
 |none=>0
 |some a=>a.block+1
def mxN:Option Nat->Nat
 |none=>0
 |some a=>a+1
def awh:Fn->Nat
 |.yield l=>l+1
 |_=>0
mutual
def mxV:Value->Nat
 |.pointer a=>mxA a
 |.slice a _ _=>mxA a
 |.map a=>mxN a
 |.chan a=>mxN a
 |.func f ⟨a⟩ ⟨c⟩=>max (awh f) (max (mxL a) (mxL c))
 |.iface _ v=>mxV v
 |.agg ⟨l⟩=>mxL l
 |.tuple ⟨l⟩=>mxL l
 |_=>0
def mxL:List Value->Nat
 |[]=>0
 |v::l=>max (mxV v) (mxL l)
end
def mxE:List MapEntry->Nat
 |[]=>0
 |e::l=>max (max (mxV e.key) (mxV e.val)) (mxE l)
def mxO:Obj->Nat
 |.cells c _ _=>mxL c.toList
 |.map e _=>mxE e.toList
 |.loop l=>mxL l.tmps.toList
 |_=>0
def mxH:List Obj->Nat
 |[]=>0
 |o::l=>max (mxO o) (mxH l)
def aon:∀{l:List Obj} {i:Nat} {o:Obj},l[i]?=some o->mxO o<=mxH l
 |[],i,o,h=>by simp at h
 |x::l,0,o,h=>by simp at h;subst h;simp only[mxH];omega
 |x::l,i+1,o,h=>by
  have:=aon (l:=l) (i:=i) (o:=o) (by simpa using h);simp only[mxH];omega
def am7:List Frame->Nat
 |[]=>0
 |f::l=>max (mxL f.tmps.toList) (am7 l)
def atr(f:Fn)(a c:Array Value):mxV (.func f a c)=max (awh f) (max (mxL a.toList) (mxL c.toList)):=by
 obtain⟨a⟩:=a;obtain⟨c⟩:=c;simp only[mxV]
def awi(a:Array Value):mxV (.agg a)=mxL a.toList:=by
 obtain⟨a⟩:=a;simp only[mxV]
def aql(a:Array Value):mxV (.tuple a)=mxL a.toList:=by
 obtain⟨a⟩:=a;simp only[mxV]
section
variable {ρ σ:Ren} {D:Nat} (hd:σ.dim=ρ.dim/\σ.al=ρ.al) (H:∀{a b:Nat},σ.r a b->b<D->ρ.r a b)
include H
theorem OAR.down{u v:Option Addr}(k:OAR σ u v)(a:mxA v<=D):OAR ρ u v:=by
 cases k with
 |none=>exact .none
 |some k=>cases k with
  |mk h o s=>exact .some (.mk (H h (by simp only[mxA] at a;omega)) o s)
theorem NR.down{v : Option Nat}(k:NR σ u v)(a:mxN v<=D):NR ρ u v:=by
 cases k with
 |none=>exact .none
 |some h=>exact .some (H h (by simp only[mxN] at a;omega))
theorem FR.down{u v:Fn}(k:FR σ u v)(a:awh v<=D):FR ρ u v:=by
 cases k with
 |same f b=>exact .same _ b
 |yield h=>exact .yield (H h (by simp only[awh] at a;omega))
include hd
mutual
theorem VR.down:∀{u v:Value},VR σ u v->mxV v<=D->VR ρ u v
 |_,_,.gp hl k,_=>.gp (hd.1▸hl) k
 |_,_,.abN k hl,_=>.abN k (hd.2▸hl)
 |_,_,.bool b,_=>.bool b
 |_,_,.int k n,_=>.int k n
 |_,_,.string s,_=>.string s
 |_,_,.pointer k,hb=>.pointer (OAR.down H k (by simpa only[mxV] using hb))
 |_,_,.slice k l c,hb=>.slice (OAR.down H k (by simpa only[mxV] using hb)) l c
 |_,_,.map k,hb=>.map (NR.down H k (by simpa only[mxV] using hb))
 |_,_,.chan k,hb=>.chan (NR.down H k (by simpa only[mxV] using hb))
 |_,_,.func f x y,hb=>by
  rw[atr] at hb;exact .func (FR.down H f (by omega)) (bW.down x (by omega)) (bW.down y (by omega))
 |_,_,.nilFunc,_=>.nilFunc
 |_,_,.iface t k,hb=>.iface t (VR.down k (by simpa only[mxV] using hb))
 |_,_,.nilIface,_=>.nilIface
 |_,_,.agg k,hb=>.agg (bW.down k (by rwa [awi] at hb))
 |_,_,.tuple k,hb=>.tuple (bW.down k (by rwa [aql] at hb))
theorem bW.down:∀{u v:List Value},bW σ u v->mxL v<=D->bW ρ u v
 |_,_,.nil,_=>.nil
 |_,_,.cons k kl,hb=>.cons (VR.down k (by simp only[mxL] at hb;omega)) (bW.down kl (by simp only[mxL] at hb;omega))
end
def nE.down:∀{u v:List MapEntry},nE σ u v->mxE v<=D->nE ρ u v
 |_,_,.nil,_=>.nil
 |_,_,.cons (.mk k1 k2 b) kl,hb=>.cons (.mk (VR.down hd H k1 (by simp only[mxE] at hb;omega)) (VR.down hd H k2 (by simp only[mxE] at hb;omega)) b) (nE.down kl (by simp only[mxE] at hb;omega))
variable (hx:σ.lax=ρ.lax) (hle:ρ.Le σ)
include hx hle
theorem OR.down{u v v':Obj}(h:OR ρ u v')(k:OR σ v v')(b:mxO v'<=D):OR ρ v v':=by
 cases h with
 |cells h t C=>cases k with
  |cells k _ g=>
   refine .cells (bW.down hd H k b) t ?_;unfold ZR at g ⊢;rw[<-hx];exact g
 |map h c=>cases k with
  |map k _=>exact .map (nE.down hd H k b) c
 |stringIter s p=>cases k;exact .stringIter s p
 |number h l=>cases k with
  |number k _=>
   obtain⟨d,o,s⟩:=h;cases k with
   |mk f _ _=>
    have:=σ.inj (hle.r d) f;subst this;exact .number (.mk d o s) l
 |mapIter h s a n=>cases k with
  |mapIter k _ _ _=>
   cases h with
   |none=>cases k;exact .mapIter .none s a n
   |some h=>cases k with
    |some k=>
     have:=σ.inj (hle.r h) k;subst this;exact .mapIter (.some h) s a n
 |loop d f E z B F A e=>cases k with
  |loop i x q y r w m j=>
   have:=σ.inj (hle.r e) j;rw[this] at e;exact .loop i x q (bW.down hd H y b) r w m e
 |bJ=>cases k;exact .bJ
 |deferred=>cases k;exact .deferred
omit hd hx in
omit H in
theorem Ren.down{a b : Nat}(h:ρ.r a Z)(k:σ.r b Z):ρ.r b Z:=by
 have:=σ.inj (hle.r h) k;subst this;exact h
omit hd hx in
omit H in
theorem ki.down{P:Program}:∀{u v a:List Item},ki P ρ u a->ki P σ v a->ki P ρ v a
 |_,_,_,.nil,.nil=>.nil
 |_,_,_,.cons h hl,.cons k kl=>.cons (by
   cases h with
   |code c=>cases k;exact .code c
   |inBlock id=>cases k;exact .inBlock id
   |inLoop c=>cases k;exact .inLoop c
   |inScope c=>cases k;exact .inScope c
   |inRegion h l=>cases k with
    |inRegion k _=>exact .inRegion k l
   |inRangeFunc h=>cases k with
    |inRangeFunc k=>exact .inRangeFunc (Ren.down hle h k)
   |endRangeFunc h=>cases k with
    |endRangeFunc k=>exact .endRangeFunc (Ren.down hle h k)
   |beginRound=>cases k;exact .beginRound) (ki.down hl kl)
omit hd hx in
omit H in
theorem CDs.down:∀{u v a:List Deferred},CDs ρ u a->CDs σ v a->CDs ρ v a
 |_,_,_,.nil,.nil=>.nil
 |_,_,_,.cons h hl,.cons k kl=>.cons (Ren.down hle h k) (CDs.down hl kl)
omit hd hx in
omit H in
theorem NR.aCb{v v' : Option Nat}(h:NR ρ u v')(k:NR σ v v'):NR ρ v v':=by
 cases h with
 |none=>cases k;exact .none
 |some h=>cases k with
  |some k=>exact .some (Ren.down hle h k)
omit hx in
theorem FrR.down{P:Program}{u v v':Frame}(h:FrR P ρ u v')(k:FrR P σ v v')(a:mxL v'.tmps.toList<=D):FrR P ρ v v':=
 ⟨k.fn,bW.down hd H k.tmps a,ki.down hle h.todo k.todo,CDs.down hle h.defers k.defers,k.mode,k.kind,NR.aCb hle h.round k.round⟩
omit hx in
theorem ja.down{P:Program}:∀{u v a:List Frame},ja P ρ u a->ja P σ v a->am7 a<=D->ja P ρ v a
 |_,_,_,.one h h0,.one k k0,hb=>.one (FrR.down hd H hle h k (by simp only[am7] at hb;omega)) k0
 |_,_,_,.cons h b,.cons k kl,hb=>.cons (FrR.down hd H hle h k (by simp only[am7] at hb;omega)) (ja.down b kl (by simp only[am7] at hb;omega))
 |_,_,_,.one h h0,.cons k kl,_=>by cases kl
 |_,_,_,.cons h b,.one k k0,_=>by cases b
end
end
section
open Go Go.Conc Go.ConcN Go.RowKit
def aCc:∀i,i<20->cQ.getD i 0<45/\ady[i]?=some (ao6 (cQ.getD i 0) 0)/\cQ.contains (cQ.getD i 0)=true:=by
 intro i a;have:i=0\/i=1\/i=2\/i=3\/i=4\/i=5\/i=6\/i=7\/i=8\/i=9\/i=10\/i=11\/i=12\/i=13\/i=14\/i=15\/i=16\/i=17\/i=18\/i=19:=by omega
 rcases this with rfl|rfl|rfl|rfl|rfl|rfl|rfl|rfl|rfl|rfl|rfl|rfl|rfl|rfl|rfl|rfl|rfl|rfl|rfl|rfl<;>exact⟨by decide,rfl,rfl⟩
def aCd{t:Nat}(h:cQ.contains t=true):∃i,i<20/\cQ.getD i 0=t:=by
 have b:t∈cQ:=by simpa using h
 obtain⟨i,a,c⟩:=uY.1 b;exact⟨i,a,by rw[sY,jp a];exact c⟩
def azw:∀i,i<20->∀j,j<20->cQ.getD i 0=cQ.getD j 0->i=j:=by decide
section
variable {X:Cx} {T:Array Value} {k:List Item} {w:World}
def At.axA:∀(m i:Nat) {T:Array Value},i+m=20->At X T (.inRegion ady (List.range' i m)::k) w->(∀j,j<i->T.getD (cQ.getD j 0) undef=.int .i64 0)->
  ∃T',At X T' (.inRegion ady []::k) w/\(∀j,j<20->T'.getD (cQ.getD j 0) undef=.int .i64 0)/\Tm cQ T T'
 |0,i,T,e,h,hd=>⟨T,h,λj u=>hd j (by omega),.refl _ _⟩
 |m+1,i,T,e,h,hd=>by
  have l:i<20:=by omega
  obtain⟨x,o,q⟩:=aCc i l;rw[List.range'_succ] at h;obtain⟨v,z,A,⟨t,y⟩,n,s,h⟩:=h.jJ (d:=cQ.getD i 0) (Φ:=λv g=>v=.int .i64 0/\g=w) o rfl rfl x λB g p=>jI p;rw[t] at s;rw[y] at h;obtain⟨T',r,f,c⟩:=At.axA m (i+1) (by omega) h λj u=>by
   by_cases a:j=i
   .subst a;exact s
   .have b:cQ.getD j 0≠cQ.getD i 0:=λe=>a (azw j (by omega) i l e);rw[n.same _ (by simpa using b)];exact hd j (by omega)
  exact⟨T',r,f,(n.sw q).trans c⟩
def At.last{C:Addr}(h:At X T (.code ajN::k) w)(r:T.getD 27 undef=.slice (some C) n n):∃T' m,AtL X T' (.code cM::k) m/\(∀b,b<w.heap.size->m.heap[b]?=w.heap[b]?)/\w.heap.size<m.heap.size/\
  m.heap[w.heap.size]?=some (.cells #[.slice (some C) n n] 130 (0,0))/\T'.getD 17 undef=.slice (some C) n n/\T'.getD 8 undef=.pointer (some ⟨w.heap.size,0,none⟩)/\(∀t,cQ.contains t=true->T'.getD t undef=.int .i64 0)/\Tm (8::17::cQ) T T':=by
 unfold ajN at h;have h:=h.seq;replace h:=h.region (l:=[0,1,2]) rfl;obtain⟨v,G,H,⟨B,s⟩,L,a,F⟩:=h.jJ (d:=17) (Φ:=λv g=>v=.slice (some C) n n/\g=w) rfl rfl rfl (by decide) λR g z=>let⟨v,P,Q,K⟩:=jI z;⟨v,P,Q.trans r,K⟩
 rw[B] at a;rw[s] at F;obtain⟨v,G,S,⟨B,s⟩,E,o,f⟩:=F.jJ (d:=8) (Φ:=λv g=>v=.pointer (some ⟨w.heap.size,0,none⟩)/\g=w.alloc (.cells #[.slice none 0 0] 130)) rfl rfl rfl (by decide) λR g z=>by
  have:=(asf (faQ true) (w:=w) (e:=(FQ cE H (.inRegion ajb (1::[2]) :: .code (.seq (.region 59 ady false) cM)::k)).eval) (dst:=some 8) (ty:=0) (pos:= "") (af:=#[]) (gd:=none)).symm.trans z;cases this;exact⟨_,rfl,rfl,rfl⟩
 rw[B] at o;rw[s] at f;replace a:=(E.same 17 rfl).trans a;have q:(w.alloc (.cells #[.slice none 0 0] 130)).heap[w.heap.size]?=some (.cells #[.slice none 0 0] 130 (0,0)):=by
  show(w.heap.push _)[w.heap.size]?=_;rw[rh]
 have I:=apw (faQ true) (dst:=none) (ty:=0) (pos:= "") (af:=#[]) (gd:=none) (w:=w.alloc (.cells #[.slice none 0 0] 130)) (A:=⟨w.heap.size,0,none⟩) (u:=.slice (some C) n n) (c0:=.slice none 0 0)
  (e:=(FQ cE S (.inRegion ajb (2::[]) :: .code (.seq (.region 59 ady false) cM)::k)).eval) (x:=.tmp 8) (y:=.tmp 17) ⟨_,_,_,rfl⟩ (by exact o) (by exact a) (fq q) (iL q)
 replace f:=(f.opk rfl rfl rfl I).jC.seq;replace f:=f.region (l:=List.range' 0 20) rfl;obtain⟨J,M,N,p⟩:=f.axA 20 0 (by rfl) (λj U=>by omega);refine⟨J,_,M.aA6,λb D=> ?_, ?_, ?_,(p.same 17 rfl).trans a,(p.same 8 rfl).trans o,λt c=> ?_, ?_⟩
 .rw[bu _ _ _ (by show w.heap.size≠b;omega)];exact sK w _ b D
 .rw[bv,oS];omega
 .exact setRow q
 .obtain⟨i,O,rfl⟩:=aCd c;exact N i O
 .exact((L.mono λt c=>by simp at c;subst c;rfl).trans (E.mono λt c=>by simp at c;subst c;rfl)).trans (p.mono λt c=>by
   simp only[tF,rm];exact .inr (.inr c))
end
end
end Go.Proofs.YtokgbpkbaoeeoaaGreatDoor