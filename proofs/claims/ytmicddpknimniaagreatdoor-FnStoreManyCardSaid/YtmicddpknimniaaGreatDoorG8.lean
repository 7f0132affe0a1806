/- A part. -/
import Derived.Test.YtmicddpknimniaaGreatDoorG7
import Derived.HandedShaped
import Derived.Carry
import Derived.Conc.Holds
import Derived.OpenVars
import Derived.LaidMore
import Derived.Lay
import Derived.SevenTiedAt
import Derived.Test.YtmicddpknimniaaGreatDoorTie
import Derived.Test.YtmicddpknimniaaGreatDoorCards
import Derived.Conc.WgGenN3
import Derived.Orders
set_option maxRecDepth 100000
set_option maxHeartbeats 8000000
set_option linter.all false
open Go Go.Conc Go.ConcN Go.RowKit Go.Proofs.Tryz Go.Proofs.YtmicddpknimniaaGreatDoor
variable {Rr S:ak} {x:Ls} {X C b c hi i j k lo m n:Nat} {key:Int} {ρ:Ren} {main:Bool} {u v:Value} {w w' w0:World} {f:FuncId} {t:TypeId} {P:Program} {l:List ij} {xs:List Ls} {U:Nat→Bool} {Rg:Nat→Prop} {d:TypeDesc} {di:List Int} {g:Goroutine} {s:ByteArray} {z:Nat × Nat} {af:Array Edge} {listed:Array Bool} {Y T a cs y:Array Value} {A:Option Addr} {e:Operand→Value} {p:List MemPlace} {gd:Option (Nat × Bool)} {V St:Goroutine→World→Prop} {R:List Frame→World→Prop} {W:List (ByteArray × Bool)} {Stop:ak→Goroutine→World→Prop} {Z:Int→List ij→Int→ByteArray × Bool}
namespace Go.Proofs.YtmicddpknimniaaGreatDoor
def du:=@Go.Conc.stepG_region_end
def iS:=@Go.Conc.stepG_seq
def rD:=@Go.Conc.stepG_skip
def sg:=@Go.Conc.stepG_ret'
def tU:=@Array.getElem?_replicate
def uy:=@Go.Conc.stepG_markAt
def uz:=@Go.Proofs.Tryz.zeroValue3
def uL:=@Go.Conc.stepG_mark0
def uY:=@Go.MakeChecks.laidMetH_plain
def vj:=@Go.Proofs.Tryz.sizeOf3
def vw:=@Go.Proofs.Tryz.zeroValue4
def vx:=@Go.Proofs.Tryz.zeroValue0
def vC:=@Go.Proofs.Tryz.isAgg3
def vO:=@Bool.and_assoc
def vT:=@List.mem_iff_getElem
def vU:=@List.getElem?_append
def vX:=@Go.Claim7.new_of_sixth
def vZ:=@Array.getElem?_ofFn
section
variable {β:Bool}
open Go.RowKit
def ass(t:List Nd)(i:Nat)(x:Nd):Prop:=afA x/\(∀y,0<i->t[i-1]?=some y->Op.bytesLess y.p.toList x.p.toList=true)/\∀k y,k<i->t[k]?=some y->aaf y.p x.p=false
def ad2(h:fW s=true):s.size<=3:=by rcases kF h with h|h<;>omega
def ast(xs:List Nd)(v:Value)(w:World)(lo hi:Nat)(h:eY w lo hi xs [v])(U:hi<=w.heap.size)(q:Bool)(p:q=true↔agm xs) :
  Calls (ah β) 43 #[v] w λe w'=>e=.returned (.bool q)/\Below w.heap.size w w':=by
 have K:=ab p;clear p;obtain⟨A,c,rfl⟩:=h.form;obtain⟨_,hc,hx⟩:=h.1.len_;unfold maxLen at hx;go_enter yV,ntmps43;go_wp2;go_loopw [7] (λii wr=>∃k:Nat,k<=xs.length/\ii=.int .i64 k/\(∀i x,i<k->xs[i]?=some x->ass xs i x)/\Below w.heap.size w wr) (λii _=>xs.length-(intOf ii).toNat)
 case atStart=>exact⟨0,fb _,rfl,λi x hi=>absurd hi (rR i),gc _ _⟩
 case round=>
  obtain⟨k,hk,rfl,l,hb⟩:=hrel;replace l:=ab l;by_cases D:k<xs.length
  .obtain⟨x,G⟩:=aq D;obtain⟨b0,a5,rfl,_,a4,J,c0,c1⟩:=kO (eY.aw.below h hb U) G;replace G:=ab G;go_wp2;have kb:=bR.new wr 97 #[.string x.p,.string x.b];have ba:=aA wr (.cells #[.string x.p,.string x.b] 97);have a2:wr.heap.size+1=(wr.alloc (.cells #[.string x.p,.string x.b] 97)).heap.size:=by simp
   generalize wr.alloc (.cells #[.string x.p,.string x.b] 97)=wf at *;have g:wf.cell? ⟨wr.heap.size,0,none⟩=some (.string x.p):=kb.cell 0;have B:wf.cell? ⟨wr.heap.size,1,none⟩=some (.string x.b):=kb.cell 1;have r:=ae hb ba;clear kb c0 c1;cases a:fW x.p
   .replace a:=ab a;have d:q=false:=by
     rw[<-lc,K.out];rintro⟨-,h⟩;replace h:=h _ _ G.out;have h:=h.1.1;rw[a.out] at h;cases h
    have s:=ab d;clear d;have H:=aj g;have I:=aj B;refine aI (by kernel_rfl) (by kernel_rfl) ?_;repeat(go_big_quiet_step (first|(go_at_call 80;refine eh (v:=.bool false) ?_;rw[<-a.out];exact pj (β:=β) x.p J.1 _)))
    refine lE ?_;intro wq o;have p:=aU o;clear o H I;go_wp2;go_ret;exact⟨aC s.out.symm,ae r p⟩
   .replace a:=ab a;cases b:dn x.b
    .replace b:=ab b;have d:q=false:=by
      rw[<-lc,K.out];rintro⟨-,h⟩;replace h:=h _ _ G.out;have h:=h.1.2;rw[b.out] at h;cases h
     have s:=ab d;clear d;have H:=aj g;have I:=aj B;refine aI (by kernel_rfl) (by kernel_rfl) ?_;repeat(go_big_quiet_step (first|(go_at_call 80;refine eh (v:=.bool true) ?_;rw[<-a.out];exact pj (β:=β) x.p J.1 _)|(go_at_call 77;refine dv (v:=.bool false) ?_;rw[<-b.out];exact mB (β:=β) x.b J.2 _)))
     refine lE ?_;intro wq o;have p:=aU o;clear o H I;go_wp2;go_ret;exact⟨aC s.out.symm,ae r p⟩
    .replace b:=ab b;by_cases fX:k=0
     .have t1:=bv (show ¬(0<k) by omega);have Y:afA x/\∀y,0<k->xs[k-1]?=some y->Op.bytesLess y.p.toList x.p.toList=true:=⟨⟨a.out,b.out⟩,λy h0=>by omega⟩;have V:=ab Y;clear Y;clear fX;have H:=aj g;have I:=aj B;refine aI (by kernel_rfl) (by kernel_rfl) ?_;repeat(go_big_quiet_step (first|(go_at_call 80;refine eh (v:=.bool true) ?_;rw[<-a.out];exact pj (β:=β) x.p J.1 _)|(go_at_call 77;refine dv (v:=.bool true) ?_;rw[<-b.out];exact mB (β:=β) x.b J.2 _)))
      refine lE ?_;intro wq o;have p:=aU o;clear o H I;have Z:∀y∈xs.take k,y.p.size<=3:=λy f=>by
       obtain⟨i,hi⟩:=rx.1 f;rw[qX] at hi;split at hi
       .rename_i S;exact ad2 (l.out i y S hi).1.1
       .cases hi
      have O:=ab Z;clear Z;have cz:=dJ p g;have n:=ae r p;have P:=ad2 a.out;go_wp2;refine(nP (β:=β) x P xs k hk O.out _ c wr.heap.size _ lo hi (eY.aw.below h n U) (bd U n.size) cz).mono ?_;rintro e w4 ⟨q4,rfl,N,b4⟩;have t:=ae n b4;rcases N with⟨rfl,j,y,M,f,R⟩|⟨rfl,C⟩
      .have HY:=ab f;replace R:=ab R;clear f;have d:q=false:=by
        rw[<-lc,K.out];rintro⟨-,h⟩;replace h:=h _ _ G.out;have h:=h.2.2 j y M HY.out;rw[R.out] at h;cases h
       have s:=ab d;clear d;go_wp2;go_ret;exact⟨aC s.out.symm,t⟩
      .have E:∀i z,i<k+1->xs[i]?=some z->ass xs i z:=λi z hi L=>by
        rcases oR i k with D|nT
        .exact l.out i z D L
        .obtain rfl:i=k:=by omega
         rw[G.out] at L;cases L;exact⟨V.out.1,V.out.2,λj y M f=>C j y M f⟩
       have Q:=ab E;clear E C;go_wp2;go_roundw
       case rel=>exact⟨k+1,by omega,by go_num,Q.out,t⟩
       simp[intOf];omega
     .obtain⟨k',W⟩:∃m,m=k-1:=⟨_,rfl⟩;have e1:(k:Int)-1=((k':Nat):Int):=by omega
      have a1:k'<xs.length:=by omega
      have t1:=db (show 0<k by omega);obtain⟨z,F⟩:=aq a1;obtain⟨b1,a3,e0,_,_,a6,d0,_⟩:=kO (eY.aw.below h r U) F;simp only[mt,qv,ql] at e0;obtain⟨rfl,rfl⟩:=e0;replace F:=ab F;have X:=ab W;have a0:0<k:=by omega
      clear W;cases u:Op.bytesLess z.p.toList x.p.toList
      .have T:=ab u;have tr:=lT x.p.toList z.p.toList;rw[u,Bool.not_false] at tr;have d:q=false:=by
        rw[<-lc,K.out];rintro⟨-,h⟩;replace h:=h _ _ G.out;have h:=h.2.1 z a0 (by rw[<-X.out];exact F.out);rw[T.out] at h;cases h
       have s:=ab d;clear d;have H:=aj g;have I:=aj B;have dN:=aj d0;refine aI (by kernel_rfl) (by kernel_rfl) ?_;repeat(go_big_quiet_step (first|(go_at_call 80;refine eh (v:=.bool true) ?_;rw[<-a.out];exact pj (β:=β) x.p J.1 _)|(go_at_call 77;refine dv (v:=.bool true) ?_;rw[<-b.out];exact mB (β:=β) x.b J.2 _)))
       refine lE ?_;intro wq o;have p:=aU o;clear o H I dN;go_wp2;go_ret;exact⟨aC s.out.symm,ae r p⟩
      .have T:=ab u;have tr:=lT x.p.toList z.p.toList;rw[u,uT] at tr;have Y:afA x/\∀y,0<k->xs[k-1]?=some y->Op.bytesLess y.p.toList x.p.toList=true:=⟨⟨a.out,b.out⟩,λy h0 f=>by
        rw[<-X.out,F.out] at f;cases f;exact T.out⟩
       have V:=ab Y;clear Y;have H:=aj g;have I:=aj B;have dN:=aj d0;refine aI (by kernel_rfl) (by kernel_rfl) ?_;repeat(go_big_quiet_step (first|(go_at_call 80;refine eh (v:=.bool true) ?_;rw[<-a.out];exact pj (β:=β) x.p J.1 _)|(go_at_call 77;refine dv (v:=.bool true) ?_;rw[<-b.out];exact mB (β:=β) x.b J.2 _)))
       refine lE ?_;intro wq o;have p:=aU o;clear o H I dN;clear d0 u e1 tr;have Z:∀y∈xs.take k,y.p.size<=3:=λy f=>by
        obtain⟨i,hi⟩:=rx.1 f;rw[qX] at hi;split at hi
        .rename_i S;exact ad2 (l.out i y S hi).1.1
        .cases hi
       have O:=ab Z;clear Z;have cz:=dJ p g;have n:=ae r p;have P:=ad2 a.out;go_wp2;refine(nP (β:=β) x P xs k hk O.out _ c wr.heap.size _ lo hi (eY.aw.below h n U) (bd U n.size) cz).mono ?_;rintro e w4 ⟨q4,rfl,N,b4⟩;have t:=ae n b4;rcases N with⟨rfl,j,y,M,f,R⟩|⟨rfl,C⟩
       .have HY:=ab f;replace R:=ab R;clear f;have d:q=false:=by
         rw[<-lc,K.out];rintro⟨-,h⟩;replace h:=h _ _ G.out;have h:=h.2.2 j y M HY.out;rw[R.out] at h;cases h
        have s:=ab d;clear d;go_wp2;go_ret;exact⟨aC s.out.symm,t⟩
       .have E:∀i z,i<k+1->xs[i]?=some z->ass xs i z:=λi z hi L=>by
         rcases oR i k with D|nT
         .exact l.out i z D L
         .obtain rfl:i=k:=by omega
          rw[G.out] at L;cases L;exact⟨V.out.1,V.out.2,λj y M f=>C j y M f⟩
        have Q:=ab E;clear E C;go_wp2;go_roundw
        case rel=>exact⟨k+1,by omega,by go_num,Q.out,t⟩
        simp[intOf];omega
  .obtain rfl:k=xs.length:=by omega
   by_cases h6:xs.length<=6
   .have t1:=db (show(xs.length:Int)<=6 by omega);have d:q=true:=K.out.2 ⟨h6,λi x hx=>l.out i x (aG hx) hx⟩;have s:=ab d;clear d;go_wp2;go_ret;exact⟨aC s.out.symm,hb⟩
   .have t1:=bv (show ¬((xs.length:Int)<=6) by omega);have d:q=false:=by
     rw[<-lc,K.out];rintro⟨h, -⟩;exact h6 h
    have s:=ab d;clear d;go_wp2;go_ret;exact⟨aC s.out.symm,hb⟩
end
section
variable {β:Bool}
open Go.RowKit
noncomputable def xFA:Func:=by
 apply(λ(x:Func) (_:{f41 with body:=some jH}=x)=>x)
 case x=>dsimp only[jH,aaF,atH,avX,avY,avZ,av0,av1,av2,av3,av4,av5,awa,azh,av6,av7,av8,av9,aqu,aqv,aqw,amU,aio,ac0,awb,awc,aim,ain,gV,aaG,atI,atJ,atK,aqt,atM,aor,kOp,aaI,aaH,lM,cK,cI,cf,f41,Option.getD,List.map]
def ayw:qFA true=xFA:=by kernel_rfl
def asu:(ah true).funcs[41]?=some xFA:=(acs true).trans (fi some ayw)
@[go_sem] theorem aAO(args:Array Value)(w:World):(callFunc 41 args).run (ah true) w=.ok (.enter 41 args) w:=by
 have a:=cF func41;exact kC asu a rfl args w
end
section
variable {β:Bool}
open Go.RowKit
def FFe:Flat (ByteArray×Bool):=⟨2,λx=>[.string x.1,.bool x.2],λx=>x.1.size<=maxLen,λ_=>rfl,λx u a=>by
 simp only[jp,rA,tR] at a;rcases a with rfl|rfl<;>rfl,by decide⟩
def avj:((ah true).info? 136).map (λi=>(i.zero,i.size,i.bytes))=some (some (.agg #[.string ⟨#[]⟩,.bool false]),2,24):=by kernel_rfl
@[go_sem] theorem aBD(n:Int)(B:Option Addr)(m c:Nat)(w:World):(Instr.field 32 (.agg #[.int .i64 n,.slice B m c]) 0).run (ah true) w=.ok (.int .i64 n) w:=by simp[Instr.field,lm xf,asAgg,go_sem]
@[go_sem] theorem aBE(n:Int)(B:Option Addr)(m c:Nat)(w:World):(Instr.field 32 (.agg #[.int .i64 n,.slice B m c]) 1).run (ah true) w=.ok (.slice B m c) w:=by simp[Instr.field,lm xf,asAgg,go_sem]
@[go_sem] theorem aBF(n:Int)(s:ByteArray)(w:World):(Instr.field 49 (.agg #[.int .i64 n,.string s]) 0).run (ah true) w=.ok (.int .i64 n) w:=by simp[Instr.field,lm xe,asAgg,go_sem]
@[go_sem] theorem aBG(n:Int)(s:ByteArray)(w:World):(Instr.field 49 (.agg #[.int .i64 n,.string s]) 1).run (ah true) w=.ok (.string s) w:=by simp[Instr.field,lm xe,asAgg,go_sem]
def ayx(key:Int)(l:List ij)(di:List Int)(w:World)(e:Ending)(w':World):Prop:=
 ∃v b,e=.returned (.tuple #[v,.bool b])/\(b=true↔∀n∈di,(cJ key l n).2=true)/\(b=true->aF iF 9 w' w.heap.size v (di.map λn=>(cJ key l n).1))/\Below w.heap.size w w'
noncomputable def ami(key:Int)(l:List ij)(ns:List Int):List ByteArray:=ns.map λn=>(cJ key l n).1
noncomputable def aag(key:Int)(l:List ij)(di:List Int)(k:Nat):List (ByteArray×Bool):=(di.take k).map (cJ key l)++List.replicate (di.length-k) (⟨#[]⟩,false)
def avk(h:k<di.length):(aag key l di k)[k]?=some (⟨#[]⟩,false):=by
 unfold aag;have a:((di.take k).map (cJ key l)).length=k:=by rw[pu,ff];omega
 rw[qm (by omega),a,uB,ub,dk (by omega)]
def asv{n:Int}(h:di[k]?=some n):(aag key l di k).set k (cJ key l n)=aag key l di (k+1):=by
 have b:=aG h;unfold aag;have c:((di.take k).map (cJ key l)).length=k:=by rw[pu,ff];omega
 rw[vK _ _ (by omega),c,uB,nF h,qR,tp]
 congr 1
 obtain⟨m,a⟩:∃m,di.length-k=m+1:=⟨di.length-k-1,by omega⟩;rw[a,List.replicate_succ,gt,show di.length-(k+1)=m by omega];rfl
def apB:∀n:Nat,(madeCells #[.string ⟨#[]⟩,.bool false] (n*2)).toList=dt FFe (List.replicate n (⟨#[]⟩,false)):=λn=>by
 apply List.ext_getElem?;intro j;rcases oR j (n*2) with h|h
 .have d:j / 2<n:=by omega
  have b:(List.replicate n ((⟨#[]⟩,false):ByteArray×Bool))[j / 2]?=some (⟨#[]⟩,false):=by rw[ub,dk d]
  have e:j=j / 2*2+j % 2:=by omega
  rw[dl];have c:(madeCells #[.string ⟨#[]⟩,.bool false] (n*2))[j]?=some (#[Value.string ⟨#[]⟩,Value.bool false][j % 2]!):=by
   unfold madeCells;simp[h]
  rw[c];rcases uP j with a|a
  .have:=gX FFe _ (j / 2) 0 _ (.string ⟨#[]⟩) b rfl;rw[show j / 2*FFe.sz+0=j by show j / 2*2+0=j;omega] at this;rw[this,a];rfl
  .have:=gX FFe _ (j / 2) 1 _ (.bool false) b rfl;rw[show j / 2*FFe.sz+1=j by show j / 2*2+1=j;omega] at this;rw[this,a];rfl
 .rw[dl,pZ (by rw[size_madeCells];exact h),sD (by rw[eu,qo];exact h)]
def asw(w:World)(n:Nat)(a:n<=maxLen)(h:di.length=n:=by rfl) :
  aF FFe 136 (w.alloc (.cells (madeCells #[.string ⟨#[]⟩,.bool false] (n*2)) 136)) w.heap.size (.slice (some ⟨w.heap.size,0,none⟩) n n) (aag key l di 0):=by
 have e:aag key l di 0=List.replicate n (⟨#[]⟩,false):=by unfold aag;rw[h];rfl
 rw[e];refine⟨eu FFe _,.inr ⟨w.heap.size,n,_,by rw[qo],am _,bR.new _ _ _,by rw[qo];exact am _,a,by rw[size_madeCells];rfl, ?_⟩⟩;rw[apB,qo];exact qj (by rw[eu,qo];exact am _)
def anO{base g : Nat}{xs:List (ByteArray×Bool)}(h:aF FFe 136 w base (.slice (some ⟨g,0,none⟩) n n) xs){x:ByteArray×Bool}(a:xs[k]?=some x) :
  w.cell? ⟨g,k*2,none⟩=some (.string x.1)/\w.cell? ⟨g,k*2+1,none⟩=some (.bool x.2):=by
 obtain⟨A,c,e⟩:=aF.form h;simp only[pX] at e;obtain⟨-,rfl, -⟩:=e;exact⟨h.cell a (j:=0) rfl,h.cell a (j:=1) rfl⟩
def avl{base g : Nat}(h:aF FFe 136 w base (.slice (some ⟨g,0,none⟩) n n) (aag key l di k))(m:k<di.length) :
  w.cell? ⟨g,k*2,none⟩=some (.string ⟨#[]⟩)/\w.cell? ⟨g,k*2+1,none⟩=some (.bool false)/\(∀j,w.frozen? ⟨g,j,none⟩=false)/\(∀j (p:Addr) u,(w.setCell p u).frozen? ⟨g,j,none⟩=false)/\
  ∀y:ByteArray×Bool,aF FFe 136 ((w.setCell ⟨g,k*2,none⟩ (.string y.1)).setCell ⟨g,k*2+1,none⟩ (.bool y.2)) base (.slice (some ⟨g,0,none⟩) n n) ((aag key l di k).set k y):=by
 obtain⟨A,c,e⟩:=aF.form h;simp only[pX] at e;obtain⟨-,rfl, -⟩:=e;have a:=avk (key:=key) (l:=l) m;obtain⟨o,q⟩:=anO h a;refine⟨o,q,λj=>h.frozen rfl j,λj p u=> ?_,λy=> ?_⟩
 .rw[uw];exact h.frozen rfl j
 .have d:=h.put a (j:=0) (y:=(y.1,false)) (u:=.string y.1) (by decide) rfl;have f:aF FFe 136 (w.setCell ⟨g,k*FFe.sz+0,none⟩ (.string y.1)) base (.slice (some ⟨g,0,none⟩) ((aag key l di k).set k (y.1,false)).length (aag key l di k).length) ((aag key l di k).set k (y.1,false)):=by rw[qM];exact d
  have b:=f.put (i:=k) (x:=(y.1,false)) (by rw[sj (aG a)]) (j:=1) (y:=y) (u:=.bool y.2) (by decide) rfl;rw[qM,abO] at b;exact b
def amj (key:Int) (hk:1<=key/\key<=99) (l:List ij) (A:Option Addr) (c:Nat) (di:List Int) (v2:Value) (lo hi:Nat) (w:World) (x0 x1:Value)
  (bZ:hi<=w.heap.size) (hl:PkL w A l) (a4:l.length<=c) (hc:c<=maxLen) (gK:∀p∈l,1<=p.2.length/\bF p.1) (H:cV aeu 1 w lo hi di [v2]) (b4:di.length<=2147483647)
  (e0:w.cell? ⟨0,0,none⟩=some x0) (e1:w.cell? ⟨1,0,none⟩=some x1) :
  Calls (ah true) 41 #[.int .i64 key,.slice A l.length c,v2] w (ayx key l di w):=by
 obtain⟨A2,c2,rfl⟩:=H.form;obtain⟨-,ao,a3⟩:=H.len_;have HC:=ab hc;unfold maxLen at hc a3;have aJ:=aoV (P:=ah true) 125 136 _ 2 24 xA avj di.length (by omega) (by omega);have a6:xFA.ntmps=45:=ntmps41;have W:xFA.results=#[.tmp 6,.tmp 7]:=results41;go_enter asu,a6;go_wp2
 go_loop [20] (λi=>∃k:Nat,k<=l.length/\i=.int .i64 k) (λi=>l.length-(intOf i).toNat)
 case atStart=>exact⟨0,fb _,rfl⟩
 case round=>
  obtain⟨k,ad,rfl⟩:=hrel;by_cases a1:k<l.length
  .obtain⟨p,gv⟩:=aq a1;obtain⟨b,an,B,c3,rfl,aM,aO,al,aN,a5,a2⟩:=hl k p gv;have T:=gK p (da gv);obtain⟨T,a7⟩:=T;unfold bF at a7;unfold maxLen at a5;obtain⟨Y,Z⟩:=p;dsimp only at *;have w1:wrap64 (Y*1)=Y:=by unfold wrap64;omega
   have t1:(Y ==Y)=true:=sb _;clear gv;go_wp2
   go_loop [5] (λjj=>∃j:Nat,j<=Z.length/\jj=.int .i64 j) (λjj=>Z.length-(intOf jj).toNat)
   case atStart=>exact⟨0,fb _,rfl⟩
   case round=>
    obtain⟨j,b7,rfl⟩:=hrel;by_cases a0:j<Z.length
    .obtain⟨x,V⟩:=aq a0;obtain⟨b2,oM,rfl,b0,b1,aa,a8,pD⟩:=a2 j x V;unfold bF at a8;unfold maxLen at pD;obtain⟨X,xb⟩:=x;dsimp only at *;have w2:wrap64 (X*1)=X:=by unfold wrap64;omega
     have t2:(X ==X)=true:=sb _;clear V;go_wp2
     go_round
     case rel=>exact⟨j+1,by omega,by go_num⟩
     simp[intOf];omega
    .obtain rfl:j=Z.length:=by omega
     go_wp2
     go_round
     case rel=>exact⟨_,_,_,_,_,_,_,_,_,⟨k+1,by omega,rfl⟩,rfl,rfl,rfl,rfl,rfl,rfl,rfl,rfl,by go_num⟩
     show l.length-((k:Int)+1).toNat<l.length-(k:Int).toNat;omega
  .obtain rfl:k=l.length:=by omega
   clear gK;go_wp2;have s:=asw (key:=key) (l:=l) (di:=di) w di.length (by unfold maxLen;omega);have Q:=aA w (.cells (madeCells #[.string ⟨#[]⟩,.bool false] (di.length*2)) 136);generalize w.alloc (.cells (madeCells #[.string ⟨#[]⟩,.bool false] (di.length*2)) 136)=w0 at *;go_loopw [28] (λI wr=>∃k:Nat,k<=di.length/\I=.int .i64 k/\aF FFe 136 wr w.heap.size (.slice (some ⟨w.heap.size,0,none⟩) di.length di.length) (aag key l di k)/\Below w.heap.size w wr) (λI _=>di.length-(intOf I).toNat)
   case atStart=>exact⟨0,fb _,rfl,s,Q⟩
   case round=>
    clear s Q;obtain⟨k,aZ,rfl,r,a⟩:=hrel;by_cases q:k<di.length
    .obtain⟨n,f⟩:=aq q;obtain⟨b3,a9,es,rfl,b6,aS,_,⟨rfl,N⟩,U⟩:=((cV.loc aeu.loc).below H a bZ).at_ f;have d0:wr.cell? ⟨b3,a9+k,none⟩=some (.int .i64 n):=by simpa using U 0 _ rfl
     unfold bF at N;have w3:wrap64 (n*1)=n:=by unfold wrap64;omega
     have t3:(n ==n)=true:=sb _;have z:=asv (key:=key) (l:=l) f;replace z:=ab z;clear U f;go_wp2;refine(anH wr key A c l n hk.1 hk.2 a4 (by omega) (hl.below a) N).mono ?_;rintro e w5 ⟨v,rfl,rfl,G⟩;have M:=r.below G;obtain⟨f0,f1,z0,z1,t⟩:=avl M q;have nG:=ae a G;have HP:=ab (t (cJ key l n));clear r a G M t d0;go_wp2;go_roundw
     case rel=>exact⟨k+1,by omega,by go_num,by rw[<-z.out];exact HP.out,(nG.setCell (by dsimp only;omega) _).setCell (by dsimp only;omega) _⟩
     simp[intOf];omega
    .obtain rfl:k=di.length:=by omega
     replace H:=ab H;clear hl;go_wp2;have C:=aA wr (.cells #[.slice (some ⟨w.heap.size,0,none⟩) di.length di.length] 125);have o:=r.below C;have g:=ae a C;have e1:aag key l di di.length=di.map (cJ key l):=by unfold aag;rw[gn,uB,List.replicate_zero,tf]
     rw[e1] at o;clear r a C e1;generalize wr.alloc (.cells #[.slice (some ⟨w.heap.size,0,none⟩) di.length di.length] 125)=w1 at *;go_loopw [12,31] (λoo I wr=>∃k:Nat,k<=di.length/\I=.int .i64 k/\aF iF 9 wr w.heap.size oo (ami key l (di.take k))/\aF FFe 136 wr w.heap.size (.slice (some ⟨w.heap.size,0,none⟩) di.length di.length) (di.map (cJ key l))/\(∀n∈di.take k,(cJ key l n).2=true)/\Below w.heap.size w wr) (λ_ I _=>di.length-(intOf I).toNat)
     case atStart=>exact⟨0,fb _,rfl,aF.nil _ _ _,o,λn H=>(by simp at H),g⟩
     case round=>
      clear o g;obtain⟨k,b5,rfl,J,r,d,a⟩:=hrel;replace d:=ab d;obtain⟨So,sc,rfl⟩:=J.form;by_cases q:k<di.length
      .obtain⟨n,f⟩:=aq q;have L:(di.map (cJ key l))[k]?=some (cJ key l n):=by rw[qD,f];rfl
       obtain⟨f0,f1⟩:=anO r L;have y:(ami key l (di.take k)).length=k:=by unfold ami;rw[pu,ff];omega
       have eU:ami key l (di.take (k+1))=ami key l (di.take k)++[(cJ key l n).1]:=by unfold ami;rw[nF f,qR];rfl
       have D:=aoH r J (by decide);replace D:=ab D;have S:=ab f;replace y:=ab y;clear L f;cases E:(cJ key l n).2 with
       |false=>
        rw[E] at f1;replace E:=ab E;go_wp2;refine pe (v:=.tuple #[.slice none 0 0,.bool false]) (by simp[results,W,go_sem]) rfl ⟨_,false,rfl, ?_,λh=>(by cases h),a.alloc a.size _⟩;simp only[kw,false_iff];intro h;have:=h n (da S.out);rw[E.out] at this;cases this
       |true=>
        rw[E] at f1;have u:∀m∈di.take (k+1),(cJ key l m).2=true:=λm K=>by
         rw[nF S.out,ge] at K;rcases K with K|K
         .exact d.out m K
         .rw[jn.1 K];exact E
        replace u:=ab u;clear E;replace eU:=ab eU;have ax:=aA wr (.cells #[.string (cJ key l n).1,.bool true] 136);have ay:=aA (wr.alloc (.cells #[.string (cJ key l n).1,.bool true] 136)) (.cells #[.string (cJ key l n).1] 9);have kB:=bR.new (wr.alloc (.cells #[.string (cJ key l n).1,.bool true] 136)) 9 #[.string (cJ key l n).1];simp only[me] at kB;have R:=(J.below ax).below ay;have o:=(r.below ax).below ay;have g:=ae (ae a ax) ay;clear J r a ax ay;go_wp2_with(at_builtin;refine acB (F:=iF) (v:=.slice So (ami key l (di.take k)).length sc) rfl (.tmp 38) (.tmp 41) 92 rfl abJ (cJ key l n).1 rfl R rfl kB rfl (by have:=y.out;omega) g.size ?_;intro va wa oa O af;obtain⟨Aa,ca,rfl⟩:=oa.form);go_roundw
        case rel=>exact⟨k+1,by omega,by go_num,by rw[eU.out];rw[ap] at oa;exact oa,o.dQ O λb hb=>D.out b hb,u.out,g.trans (O.below g.size λi hi hx=>by have:=(R.at_ hx).1;omega)⟩
        simp[intOf];omega
      .obtain rfl:k=di.length:=by omega
       rw[gn] at J d;go_wp2;refine pe (v:=.tuple #[_,.bool true]) (by simp[results,W,go_sem]) rfl ⟨_,true,rfl,by simp only[tQ];exact d.out,λ_=>J,a⟩
end
section
open Go.RowKit
structure Glo (w:World):Prop where
 key:∃x,w.cell? ⟨0,0,none⟩=some x
 piece:∃x,w.cell? ⟨1,0,none⟩=some x
def Glo.below(h:Glo w)(b:Below w.heap.size w w'):Glo w':=by
 obtain⟨⟨x,c⟩,y,a⟩:=h;exact⟨⟨x,(qs (b.block _ (fT c))).trans c⟩,⟨y,(qs (b.block _ (fT a))).trans a⟩⟩
def apC(a:alZ key l x.ns)(b:(iK (nA key l x.ns)).2=true):iL key l x=some ⟨x.p,(iK (nA key l x.ns)).1⟩:=by unfold iL;rw[dk ⟨a,b⟩]
def ajM(h:¬(alZ key l x.ns/\(iK (nA key l x.ns)).2=true)):iL key l x=none:=by unfold iL;rw[be h]
def ajN(b:x∈xs)(h:iL key l x=none):fZ key l xs=none:=by
 unfold fZ;rw[be];rintro⟨a, -⟩;have:=a x b;rw[h] at this;cases this
def amk{l:List ByteArray}:(iK l).1.size<=40:=by
 unfold iK;split
 .rename_i h;exact(iW h.1).1
 .exact fb _
def ajO{y:Nd}(a:xs[k]?=some x)(h:iL key l x=some y):fc key l (xs.take (k+1))=fc key l (xs.take k)++[y]:=by
 unfold fc;rw[nF a,List.filterMap_append];simp[h]
def aeQ.itl{a:List It}(h:aeQ w lo hi a [.slice A n c])(o:hi<=w.heap.size):ItL w A (a.map λx=>(x.n,x.b)):=λi x e=>by
 rw[qD] at e;obtain⟨y,g,rfl⟩:=io.1 e;obtain⟨b,d,m,rfl,p,l, -,⟨rfl,j,k⟩,f⟩:=h.at_ g;exact⟨b,d,rfl,by omega,by simpa using f 0 _ rfl,f 1 _ rfl,j,k⟩
def kR.pkl{l:List Pk}(h:kR w lo hi l [.slice A n c])(k:hi<=w.heap.size):PkL w A (jB l):=λi x e=>by
 unfold jB at e;rw[qD] at e;obtain⟨y,j,rfl⟩:=io.1 e;obtain⟨b,a,q,rfl,s,p, -,⟨v,rfl,r,f⟩,g⟩:=h.at_ j;obtain⟨B,d,rfl⟩:=f.form;obtain⟨-,o,m⟩:=f.len_;refine⟨b,a,B,d,rfl,by omega,by have:=g 0 _ rfl;rw[sS] at this;exact this, ?_, ?_,m,f.itl k⟩
 .have:=g 1 _ rfl;rw[show(pkd y).2.length=y.its.length from pu _];exact this
 .rw[show(pkd y).2.length=y.its.length from pu _];exact o
def ayy(h:oU w lo hi xs [.slice A n c])(i:xs[k]?=some x) :
  ∃b a A' d,A=some ⟨b,a,none⟩/\lo<=b/\b<hi/\x.p.size<=maxLen/\w.cell? ⟨b,a+k*2,none⟩=some (.string x.p)/\w.cell? ⟨b,a+k*2+1,none⟩=some (.slice A' x.ns.length d)/\cV aeu 1 w lo hi x.ns [.slice A' x.ns.length d]:=by
 obtain⟨b,a,m,rfl,j,g,l,⟨v,rfl,f,hi⟩,e⟩:=h.at_ i;obtain⟨A',d,rfl⟩:=hi.form;exact⟨b,a,A',d,rfl,j,g,f,by simpa using e 0 _ rfl,e 1 _ rfl,hi⟩
def acT(o:Option (List Nd))(w:World)(e:Ending)(w':World):Prop:=∃v,e=.returned (.tuple #[v,.bool o.isSome])/\aF oQ 97 w' w.heap.size v (o.getD [])/\(∀y∈o.getD [],oQ.good y)/\Below w.heap.size w w'
def acT.no{o:Option (List Nd)}(h:o=none)(a:Below w.heap.size w w'):acT o w (.returned (.tuple #[.slice none 0 0,.bool false])) w':=by
 subst h;exact⟨_,rfl,aF.nil _ _ _,λy b=>(by cases b),a⟩
theorem aml (key:Int) (C:1<=key/\key<=99) (l:List ij) (A:Option Addr) (c:Nat) (x:Sn) (vn:Value) (lo hi:Nat) (w:World) (hg:Glo w) (bZ:hi<=w.heap.size) (hl:PkL w A l) (af:l.length<=c) (hc:c<=maxLen) (gK:∀p∈l,1<=p.2.length/\bF p.1)
  (hn:oU w lo hi x.all [vn]) (o:∀y∈x.all,y.ns.length<=2147483647) (aZ:x.all.length<=1099511627) :
  Calls (ah true) 26 #[.int .i64 key,.agg #[.int .i64 x.no,vn],.slice A l.length c] w (acT (fZ key l x.all) w):=by
 have HK:=ab C;clear C;obtain⟨B,d,rfl⟩:=hn.form;obtain⟨-,hd,Y⟩:=hn.len_;have HD:=ab Y;unfold maxLen at Y;have aN:=ab gK;have aJ:=ab o;clear gK o;go_enter zj,ntmps26;go_wp2;refine(abT (β:=true) key _ true (by simp only[tQ];exact HK.out)).mono ?_;rintro e w1 ⟨rfl,rfl⟩;go_wp2;have aO:=aA w (.cells #[.int .i64 x.no,.slice B x.all.length d] 65);generalize w.alloc (.cells #[.int .i64 x.no,.slice B x.all.length d] 65)=w0 at *;have b2:=aO.size;go_loopw [8,20] (λoo ii wr=>∃k:Nat,k<=x.all.length/\ii=.int .i64 k/\(∀y∈x.all.take k,(iL key l y).isSome=true)/\aF oQ 97 wr w.heap.size oo (fc key l (x.all.take k))/\(∀y∈fc key l (x.all.take k),oQ.good y)/\(fc key l (x.all.take k)).length=k/\Below w.heap.size w wr) (λ_ ii _=>x.all.length-(intOf ii).toNat)
 case atStart=>exact⟨0,fb _,rfl,λy hy=>(by cases hy),aF.nil _ _ _,λy hy=>(by cases hy),rfl,aO⟩
 case round=>
  obtain⟨k,hk,rfl,m,V,R,T,hb⟩:=hrel;have E:=ab m;have u:=ab R;have I:=ab T;clear m R T aO;have ao:=hb.size;by_cases a8:k<x.all.length
  .obtain⟨y,fK⟩:=aq a8;have S:oU wr lo hi x.all [.slice B x.all.length d]:=oU.loc.below hn hb bZ;obtain⟨b,b1,A',c',rfl,b3,H,ad,al,aS,o⟩:=ayy S fK;have HY:=ab fK;have a1:=aJ.out y (da fK);clear fK;go_wp2;have ba:=aA wr (.cells #[.string y.p,.slice A' y.ns.length c'] 91);have kb:=bR.new wr 91 #[.string y.p,.slice A' y.ns.length c'];generalize wr.alloc (.cells #[.string y.p,.slice A' y.ns.length c'] 91)=wa at *;have t:=ae hb ba;have aM:=t.size;obtain⟨⟨g0,e0⟩,g1,e1⟩:=hg.below t;have HF:=amj key HK.out l A c y.ns _ lo hi wa g0 g1 (bd bZ aM) (hl.below t) af hc aN.out (alb.loc.below o ba (bd bZ ao)) a1 e0 e1;refine HF.mono ?_;clear HF e0 e1 S al aS o;rintro e w2 ⟨v2,q,rfl,Q,kJ,M⟩;have a2:=ae t M;have N:=ab Q;clear Q;have ax:=av kb M;cases q with
   |false=>
    have a:fZ key l x.all=none:=ajN (da HY.out) (ajM λP=>by have:=N.out.2 P.1;cases this);have g:=ab a;clear a kJ;go_wp2;go_ret2;exact acT.no g.out a2
   |true=>
    have j:=N.out.1 rfl;have J:∀s∈nA key l y.ns,bg (bs s):=λs hs=>by
     obtain⟨n,hn,rfl⟩:=mT.1 hs;exact(kU (j n hn)).1
    have X:∀s∈nA key l y.ns,s.size<=maxLen:=λs hs=>by have:=(fJ (J s hs)).2;unfold maxLen;omega
    have o2:aF iF 9 w2 wa.heap.size v2 (nA key l y.ns):=kJ rfl;have t2:=aiH.sl (aF.deep o2 X wa.heap.size) (am _);have W:(nA key l y.ns).length<=2147483647:=by unfold nA;rw[pu];exact a1
    have HC:=λO (r:Below w2.heap.size w2 O)=>apA (β:=true) (nA key l y.ns) J W v2 O _ _ (df.aw.below t2 r (am _)) r.size;have a4:=ab HC;have ay:=ab (show alZ key l y.ns from j);clear HC j J X o2 t2 W kJ N;go_wp2;refine(a4.out _ (gc _ _)).mono ?_;rintro e O ⟨rfl,r⟩;have L:=ae a2 r;have an:=av ax r;have cp:=an.cell 0;cases hj:(iK (nA key l y.ns)).2
    .have a:fZ key l x.all=none:=ajN (da HY.out) (ajM λP=>by rw[hj] at P;cases P.2);have g:=ab a;clear a hj;go_wp2;go_ret2;exact acT.no g.out L
    .have D:=apC (x:=y) ay.out hj;have a6:(iK (nA key l y.ns)).1.size<=maxLen:=by have:=amk (l:=nA key l y.ns);unfold maxLen;omega
     generalize (iK (nA key l y.ns)).1=tx at *;have a3:=ajO HY.out D;have U:∀z∈x.all.take (k+1),(iL key l z).isSome=true:=λz f=>by
      rw[nF HY.out] at f;rcases ge.1 f with f|f
      .exact E.out z f
      .rw[jn.1 f,D];rfl
     have HN:=ab a3;have a9:=ab U;clear a3 U D hj;have K:=(V.below (ae ba (M.trans (r.mono M.size)))).below (gc _ _);obtain⟨Ao,co,rfl⟩:=K.form;have Z:=L.size;go_wp2_with(at_builtin;refine bU (F:=oQ) (v:=.slice Ao (fc key l (x.all.take k)).length co) rfl (.tmp 41) (.tmp 46) 66 rfl ni (⟨y.p,tx⟩:Nd) rfl K rfl rfl (by rw[I.out];omega) Z ?_;intro va w4 oa a7 b0;obtain⟨Aa,ca,rfl⟩:=oa.form);go_roundw
     case rel=>
      have a5:=L.trans (a7.below Z λi hi hx=>by have:=(K.at_ hx).1;omega);refine⟨k+1,by omega,by go_num,a9.out,by rw[HN.out];simp only[ap,eg,lw,mc] at oa;exact oa, ?_,by rw[HN.out,ap,I.out];rfl,a5⟩;rw[HN.out];intro z f;rcases ge.1 f with f|f
      .exact u.out z f
      .rw[jn.1 f];exact⟨ad,a6⟩
     case measure=>simp[intOf];omega
  .obtain rfl:k=x.all.length:=by omega
   rw[gn] at E u I V;have t3:=aiH.sl (aF.deep V u.out w.heap.size) (am _);obtain⟨q,Q⟩:∃q:Bool,q=true↔agm (fc key l x.all):=by
    by_cases hx:agm (fc key l x.all)
    .exact⟨true,by simp[hx]⟩
    .exact⟨false,by simp[hx]⟩
   have HT:=λO (r:Below wr.heap.size wr O)=>ast (β:=true) (fc key l x.all) u8 O _ _ (eY.aw.below t3 r (am _)) r.size q Q;have aa:=ab HT;have N:=ab Q;clear HT Q t3;go_wp2;refine(aa.out _ (gc _ _)).mono ?_;rintro e w2 ⟨rfl,M⟩;have H:=ae hb M;cases q with
   |false=>
    have a:fZ key l x.all=none:=by
     unfold fZ;rw[be];rintro⟨-,P⟩;have:=N.out.2 P;cases this
    have g:=ab a;clear a;go_wp2;go_ret2;exact acT.no g.out H
   |true=>
    have a0:fZ key l x.all=some (fc key l x.all):=by
     unfold fZ;rw[dk ⟨E.out,N.out.1 rfl⟩]
    have G:=ab a0;clear a0;have kJ:=V.below M;clear V;go_wp2;go_ret2;refine⟨u8,by rw[G.out];rfl,by rw[G.out];exact kJ,by rw[G.out];exact u.out,H⟩
def asx{xs:List Sn}(h:mr w lo hi xs [.slice A n c]){x:Sn}(i:xs[k]?=some x) :
  ∃b a A' d,A=some ⟨b,a,none⟩/\lo<=b/\b<hi/\bF x.no/\w.cell? ⟨b,a+k*2,none⟩=some (.int .i64 x.no)/\w.cell? ⟨b,a+k*2+1,none⟩=some (.slice A' x.all.length d)/\oU w lo hi x.all [.slice A' x.all.length d]:=by
 obtain⟨b,a,m,rfl,j,g,l,⟨v,rfl,f,hi⟩,e⟩:=h.at_ i;obtain⟨A',d,rfl⟩:=hi.form;exact⟨b,a,A',d,rfl,j,g,f,by simpa using e 0 _ rfl,e 1 _ rfl,hi⟩
def kR.ais{l:List Pk}(h:kR w lo hi l [v]):∀p∈jB l,bF p.1:=λp a=>by
 obtain⟨A,c,rfl⟩:=cV.form h;obtain⟨q,d,rfl⟩:=mT.1 a;obtain⟨i,hi⟩:=rx.1 d;obtain⟨_,_,_,_,_,_,_,⟨_,_,b,_⟩,_⟩:=cV.at_ h hi;exact b
end
section
variable {β:Bool}
open Go.RowKit
def asy(x:Hd)(w:World)(b:Bool)(f:b=true↔ab6 x):Calls (ah β) 29 #[.agg #[.int .i64 x.b,.int .i64 x.s]] w λe l=>e=.returned (.bool b)/\Below w.heap.size w l:=by
 have fin:∀q:Bool,(q=true↔(x.b=1\/x.b=2)/\1<=x.s/\x.s<=20)->q=b:=λq o=>by
  rw[qn,f,o];unfold ab6;constructor
  .rintro⟨p,d,a⟩;exact⟨by omega,d,a⟩
  .rintro⟨p,d,a⟩;exact⟨by omega,d,a⟩
 replace fin:=ab fin;clear f;rcases(by omega:x.b=1\/x.b=2\/(x.b≠1/\x.b≠2)) with e|e|⟨e,g⟩<;>rcases(by omega:1<=x.s/\x.s<=20\/1<=x.s/\20<x.s\/x.s<1) with a|a|a
 all_goals
  first
   |have k:(x.b ==1)=true:=mw.2 e
   |have k:(x.b ==1)=false:=fa.2 (by omega)
  first
   |have i:(x.b ==2)=true:=mw.2 e
   |have i:(x.b ==2)=false:=fa.2 (by omega)
  first
   |have j:=db (show 1<=x.s by omega)
   |have j:=bv (show ¬(1<=x.s) by omega)
  first
   |have m:=db (show x.s<=20 by omega)
   |have m:=bv (show ¬(x.s<=20) by omega)
  have r:=ab e;have n:=ab a;clear e a;try(have c:=ab g;clear g)
  go_enter zh,ntmps29;go_wp2;go_ret;refine⟨aC (fin.out _ ?_),by repeat(first|exact gc _ _|refine Below.alloc ?_ (by simp) _)⟩;have:=r.out;have:=n.out;try(have:=c.out)
  simp;try omega
def asz(x:Hd)(w:World)(b:Bool)(a:b=true↔ab6 x):Calls (ah β) 28 #[.agg #[.int .i64 x.b,.int .i64 x.s]] w λe d=>e=.returned (.bool (!b))/\Below w.heap.size w d:=by
 go_enter xm,ntmps28;go_wp2;refine(asy x _ b a).mono ?_;rintro e f ⟨rfl,c⟩;have a:=(aA w (.cells #[.int .i64 x.b,.int .i64 x.s] 71));go_wp2;go_ret;exact⟨rfl,ae a c⟩
def ajP(xs:List Hd)(v:Value)(w:World)(lo hi:Nat)(h:aaq w lo hi xs [v])(G:hi<=w.heap.size) :
  Calls (ah β) 44 #[v,.func (.func 28) #[] #[]] w λe B=>∃j:Int,e=.returned (.int .i64 j)/\(j=-1/\(∀x∈xs,ab6 x)\/0<=j/\¬ ∀x∈xs,ab6 x)/\Below w.heap.size w B:=by
 obtain⟨A,c,rfl⟩:=cV.form h;obtain⟨_,K,t⟩:=h.len_;unfold maxLen at t;go_enter yU,ntmps44;go_wp2;go_loopw [8] (λz wr=>∃k:Nat,k<=xs.length/\z=.int .i64 k/\(∀x∈xs.take k,ab6 x)/\Below w.heap.size w wr) (λz _=>xs.length-(intOf z).toNat)
 case atStart=>exact⟨0,fb _,rfl,λx t=>(by cases t),gc _ _⟩
 case round=>
  obtain⟨k,J,rfl,n,g⟩:=hrel;replace n:=ab n;by_cases p:k<xs.length
  .obtain⟨x,i⟩:=aq p;obtain⟨b,m,L,E,_,H,_,⟨rfl,D⟩,f⟩:=(aaq.loc.below h g G).at_ i;subst E;have r:wr.cell? ⟨b,m+k*2,none⟩=some (.int .i64 x.b):=by simpa using f 0 _ rfl
   have u:wr.cell? ⟨b,m+k*2+1,none⟩=some (.int .i64 x.s):=by simpa using f 1 _ rfl
   replace i:=ab i;clear f;have I:=au5 (β:=β) (#[.agg #[.int .i64 x.b,.int .i64 x.s]]++#[]) wr;go_wp2;obtain⟨q,l⟩:=pC (ab6 x);refine(asz x wr q l).mono ?_;rintro e B ⟨rfl,F⟩;have o:=ae g F;clear I r u;cases q
   .have d:¬ ∀x∈xs,ab6 x:=λh=>by have:=l.2 (h x (da i.out));cases this
    replace d:=ab d;clear l;go_wp2;go_ret;exact⟨k,rfl,.inr ⟨by omega,d.out⟩,o⟩
   .have s:∀y∈xs.take (k+1),ab6 y:=λy C=>by
     rw[nF i.out] at C;rcases ge.1 C with h|h
     .exact n.out y h
     .rw[jn.1 h];exact l.1 rfl
    replace s:=ab s;clear l;go_wp2;go_roundw
    case rel=>exact⟨k+1,by omega,by go_num,s.out,o⟩
    simp[intOf];omega
  .obtain rfl:k=xs.length:=by omega
   have a:=n.out;rw[gn] at a;replace a:=ab a;clear n;go_wp2;go_ret;exact⟨-1,rfl,.inl ⟨rfl,a.out⟩,g⟩
def afn(xs:List Hd)(v:Value)(w:World)(lo hi:Nat)(h:aaq w lo hi xs [v])(m:hi<=w.heap.size)(b:Bool)(f:b=true↔∀x∈xs,ab6 x) :
  Calls (ah β) 27 #[v,.func (.func 28) #[] #[]] w λe l=>e=.returned (.bool (!b))/\Below w.heap.size w l:=by
 obtain⟨A,c,rfl⟩:=cV.form h;replace f:=ab f;go_enter zi,ntmps27;go_wp2;refine(ajP xs _ w lo hi h m).mono ?_;rintro e n ⟨j,rfl,i,k⟩;rcases i with⟨rfl,a⟩|⟨i,g⟩
 .have d:b=true:=f.out.2 a;subst d;clear a f;go_wp2;go_ret;exact⟨rfl,k⟩
 .have d:b=false:=by rw[<-lc,f.out];exact g
  subst d;have o:decide (0<=j)=true:=db i;clear g f;go_wp2;go_ret;exact⟨rfl,k⟩
def ajQ(xs:List Hd)(v:Value)(w:World)(lo hi:Nat)(h:aaq w lo hi xs [v])(m:hi<=w.heap.size)(b:Bool)(a:b=true↔aii xs) :
  Calls (ah β) 16 #[v] w λe k=>e=.returned (.bool b)/\Below w.heap.size w k:=by
 obtain⟨A,c,rfl⟩:=cV.form h;obtain⟨_,p,l⟩:=h.len_;unfold maxLen at l;replace a:=ab a;by_cases i:(xs.length:Int)<=9
 .have n:decide ((xs.length:Int)<=9)=true:=db i;obtain⟨q,d⟩:=pC (∀x∈xs,ab6 x);have g:q=b:=by
   rw[qn,d,a.out];exact⟨λh=>⟨by omega,h⟩,λh=>h.2⟩
  subst g;replace d:=ab d;go_enter xp,ntmps16;go_wp2;refine(afn xs _ w lo hi h m q d.out).mono ?_;rintro e o ⟨rfl,j⟩;cases q<;>(go_wp2;go_ret;exact⟨rfl,j⟩)
 .have n:decide ((xs.length:Int)<=9)=false:=bv i;have f:b=false:=by rw[<-lc,a.out];exact λh=>i (by have:=h.1;omega)
  subst f;go_enter xp,ntmps16;go_wp2;go_ret;exact⟨rfl,gc _ _⟩
end
section
open Go.RowKit Go.ChangeShapes Go.WideShapes Go.ChangeAt
section
variable {H:Type} {enc:TypeId×Value->H} {P:Program}
def aat(i:laidOutB P=true){W l:World}{e:Nat->Bool}:∀{g:List TypeId} {j:List Value} {k:List (DataW H)} {f:List MemPlace},
  (∀t∈g,P.readableRec t=true/\t<P.types.size)->DataW.TrodAll enc P W 0 (λ_=>true) true g j k f->(∀p∈f,W.sameAt l p)->(∀p∈f,e p.block=true)->
  DataW.TrodAll enc P l 0 e true g j k f
 |[],_,_,_,_,h,_,_=>by
  obtain⟨rfl,rfl,rfl⟩:=trodAll_nil h;exact trodAll_mk0
 |t::g,_,_,_,hr,h,hs,hsp=>by
  obtain⟨v,q,d,m,a,b,rfl,rfl,rfl,u,n⟩:=trodAll_cons h;obtain⟨o,s⟩:=hr t (by simp);refine trodAll_cons_mk (WideElems.Trod_stays i o s u (λp c=>hs p (by simp[c])) (λp c=>hsp p (by simp[c]))) ?_;exact aat i (λt r=>hr t (by simp[r])) n (λp c=>hs p (by simp[c])) (λp c=>hsp p (by simp[c]))
def ado{w:World}{base:Nat}{c:Nat->Bool}{e:Bool}:∀{f:List TypeId} {m:List Value} {g:List (DataW H)} {l:List MemPlace},DataW.TrodAll enc P w base c e f m g l->g.length=f.length
 |[],_,_,_,h=>by
  obtain⟨_,rfl,_⟩:=trodAll_nil h;rfl
 |t::f,_,_,_,h=>by
  obtain⟨v,k,d,i,a,b,rfl,rfl,rfl,n,j⟩:=trodAll_cons h;rw[eg,eg,ado j]
end
def own:ownKnob prog.godebug=none:=by kernel_rfl
def wZ:laidOutB prog=true:=by kernel_rfl
section
variable {H:Type} {enc:TypeId×Value->H} {P:Program}
def apD {base:Nat}   {r:Reach} {e : TypeId} {k:IntKind} {d:DataW H} {E:fU Int} (C:P.underlying t=some (.slice e)) (S:P.underlying e=some (.int k)) (W:P.cellsOf e=1)
  (M:∀(w:World) (K l:Nat) (x:Int),(Lit.int k x).wf=true->E w K l x [.int k x])
  (T:Value.okWide P w r X t v) (h:DataW.Trod enc P w base U main t v d p) (q:∀x∈p,x.block<w.heap.size) :
  ∃Q:List Int,cV E 1 w 0 w.heap.size Q [v]:=by
 obtain⟨Z,len,cap,rfl⟩:=okWide_slice C T;obtain⟨I,O⟩:=h;rcases open_ints C S W O with⟨c,B⟩|⟨a,F,D,m,c,_,Y,R,G,B,g,z⟩
 .simp[Value.cells] at c;obtain⟨rfl,rfl,rfl⟩:=c;exact⟨[],none,0,rfl,am _,by unfold maxLen;omega,λh=>absurd h (by simp)⟩
 .simp[Value.cells] at c;obtain⟨rfl,rfl,rfl⟩:=c;have f:(m.take len).length=len:=by
   rw[ff,G];split<;>omega
  refine⟨m.take len,some a,cap,by rw[f],by omega,R,λN=> ?_⟩;rw[f] at N;have L:len<=m.length:=by rw[G];split<;>omega
  obtain⟨b,o,rfl,s⟩:=ints_at g (by omega);refine⟨b,o,rfl,fb _, ?_,λi x l=> ?_⟩
  .simp only[uO] at B;have y:MemPlace.cell b o∈p:=by
    rw[B.2];have:m.length=(m.length-1)+1:=by omega
    simp[MemPlace.row];omega
   exact q _ y
  .have n:i<len:=by have:=aG l;omega
   have J:m.getD i 0=x:=by
    rw[sT n] at l;rw[sH,l];rfl
   refine⟨[.int k x],rfl,M _ _ _ _ (z x ?_),λj u A=> ?_⟩
   .rw[sT n] at l;exact da l
   .have V:j=0:=by have:=aG A;simpa using this
    subst V;simp at A;subst A;have:=s i (by omega);rw[J] at this;simpa using this
end
def wh {H:Type} {enc:TypeId×Value->H} {base:Nat}   {r:Reach} {d:DataW H} 
  (b:Value.okWide prog w r X 22 v) (h:DataW.Trod enc prog w base U main 22 v d p) (a:∀x∈p,x.block<w.heap.size):∃c:List Int,cV jk 1 w 0 w.heap.size c [v]:=
 apD underlying22 underlying5 (by kernel_rfl) (λ_ _ _ x e=>⟨rfl,by simp[Lit.wf,IntKind.min,IntKind.max,IntKind.signed,IntKind.bits] at e;exact⟨by omega,by omega⟩⟩) b h a
end
section
open Go.RowKit Go.ChangeShapes Go.WideShapes Go.ChangeAt Go.Conc
section
variable {H:Type} {enc:TypeId×Value->H} {P:Program}
def ab9{w:World}{a:Nat->Bool}:∀{b:List String} {c:List (DataW H)} {i:List MemPlace},DataW.TrodVars enc P w a b c i->c.length=b.length
 |[],[],_,_=>rfl
 |[],_::_,_,h=>h.elim
 |_::_,[],_,h=>h.elim
 |n::b,d::c,i,h=>by
  obtain⟨g,t,o,f,p,q,r,k,l,m,j,e⟩:=h;rw[eg,eg,ab9 j]
theorem apE {f:Func} {s:ChangeSpec} {b:Bool} {W u:World} {args:Array Value} {i gs:List (DataW H)} {a:List MemPlace} {o:TypeId}
  (r:laidOutB P=true) (w:∀t∈f.params.toList,P.readableRec t=true/\t<P.types.size) (e:f.resultTypes=#[o]) (n:P.underlying o=some .bool) (k:varsRowed P s.vars=true)
  (c:s.fn H (i++gs)={results:=[.lit (.bool true)],args:=i,vars:=gs})
  (l:DataW.Whole enc P f.params.toList s.vars b W args.toList i gs a) (j:Below W.heap.size W u) :
  s.post enc P f b true false false W args (.bool true) u:=by
 have d:∀p∈a,p.block<W.heap.size:=λp v=>by simpa using l.lt p v
 have m:=l;obtain⟨p,q,B,z,rfl,A,y⟩:=l;refine⟨i,gs,p++q,[],p,q,m, ?_, ?_, ?_,World.keptBut_mono (λx g=>g.elim) (j.frame λ_=>False),λh=>by cases h⟩
 .rw[c,e];exact trodAll_mk1 (shut_bool n _)
 .rw[c];exact aat r w B (λx g=>j.same (d x (by simp[g]))) (λx g=>by simpa using d x (by simp[g]))
 .rw[c];exact j.trodVars r k z
end
def wJ (i:Looks) {p:Pinned} {s:OpenSpec} {c:OpenClaim} (l:List (List PathCond)) (kinds:List LaidKind) (a:Bool) (b:Bool×String) (d:Bool)
  (z:c.holds p s) (n:∀D∈l,(c.withDomain D).holds p s) (w:c.wfByText s=true) (m:∀D∈l,(c.withDomain D).wfByText s=true)
  (k:c.laidByTextAt i p kinds a)
  (e:c.start=.entering) (g:c.noBlocks=false/\c.again=false) (u:p.checked.prog.mainIs=some (b.1,b.2.toList)) (y:(!b.1&&b.2.isEmpty&&!d)=false)
  (o:∀f fn,p.checked.prog.funcNamed c.func=some f->p.checked.prog.funcs[f]?=some fn->d=p.checked.prog.looks []/\∀(j:Nat) t,fn.params[j]?=some t->p.checked.prog.wantsStandIn t=false)
  (x:true=c.goesBy p.checked.prog) :
  Claim7.holds p (.plain s) {stood:={row:=c,standIns:=[],harness:=b,looks:=d},kinds:=[],alts:=l,goes:=true,laidByText:=true,laidKinds:=kinds,laidTests:=a,laidLooks:=i}:=by
 have v:∀r:OpenClaim,Claim7.isSixth {stood:={row:=r,standIns:=[],harness:=b,looks:=d},kinds:=[]}=false:=λr=>by simpa[Claim7.isSixth] using y
 refine⟨Claim7.tied_new_at i kinds a (vX z b d e g u (v c) o) w,λD q=> ?_,k,(λh=>by cases h),x⟩;exact Claim7.tied_new_at i kinds a (vX (n D q) b d e g u (v _) o) (m D q)
abbrev laidL:List (String×DataW Unit):=[("unicode/utf8.acceptRanges",Rows.laid_unicode_utf8_acceptRanges),("loop.example/depositary/impl.errPiece",Rows.laid_loop_example_depositary_impl_errPiece),("loop.example/depositary/impl.errKey",Rows.laid_loop_example_depositary_impl_errKey),("unicode/utf8.first",Rows.laid_unicode_utf8_first)]
def wT(os:Os)(args:Array Value):laidMetH prog laidL ((World.laidAll prog os laidL).forCall (λ_ _=>0) ⟨#[],args,[]⟩).memory:=by
 rw[uY _ _ _ (by kernel_rfl)];exact laidMet_laidAll _ (by kernel_rfl) (by kernel_rfl)
end
section
open Go.Conc Go.ConcN Go.RowKit
structure po (w0 w:World) (n:Nat) (res:List (ByteArray×Bool)):Prop where
 low:∀b,b<w0.heap.size->w.heap[b]?=w0.heap[b]?
 lt:w0.heap.size<w.heap.size
 row:∃cs,w.heap[w0.heap.size]?=some (.cells cs 136 (0,0))/\cs.size=2*n/\∀i x,res[i]?=some x->cs[2*i]?=some (.string x.1)/\cs[2*i+1]?=some (.bool x.2)
def vg(h:w.heap[C]?=some (.cells cs t z)):(w.setCell ⟨C,i,none⟩ v).heap[C]?=some (.cells (cs.setIfInBounds i v) t z):=by
 unfold World.setCell;simp[oE,h]
def eH(h:w.heap[C]?=some (.cells cs t z)):w.cell? ⟨C,i,none⟩=cs[i]?:=by
 unfold World.cell?;simp[h]
def gT(h:w.heap[C]?=some (.cells cs t (0,0))):w.frozen? ⟨C,i,none⟩=false:=by
 unfold World.frozen?;simp[h]
def po.below(h:po w0 w n W)(c:Below w.heap.size w w'):po w0 w' n W:=by
 obtain⟨e,f,d⟩:=h.row;exact⟨λb a=>(c.block b (Nat.lt_trans a h.lt)).trans (h.low b a),aE h.lt c.size,e,(c.block _ h.lt).trans f,d⟩
def po.store(h:po w0 w n W)(m:W.length<n)(x:ByteArray×Bool):po w0 ((w.setCell ⟨w0.heap.size,2*W.length,none⟩ (.string x.1)).setCell ⟨w0.heap.size,2*W.length+1,none⟩ (.bool x.2)) n (W++[x]):=by
 obtain⟨p,l,g,j⟩:=h.row;refine⟨λb k=> ?_, ?_,_,vg (vg l),by simpa using g,λi y c=> ?_⟩
 .have d:w0.heap.size≠b:=by omega
  rw[bc _ _ _ d,bc _ _ _ d];exact h.low b k
 .rw[ef,ef];exact h.lt
 .rw[vU] at c;split at c
  .rename_i f;obtain⟨a,b⟩:=j i y c;constructor
   .rw[ip (by omega),ip (by omega)];exact a
   .rw[ip (by omega),ip (by omega)];exact b
  .rename_i o;have e:i=W.length:=by
    have:=(mp.1 c).1;simp at this;omega
   subst e;simp at c;subst c;constructor
   .rw[ip (by omega),pv (by omega)]
   .rw[pv (by simp;omega)]
abbrev inH(k:List Item):List Item:=.inLoop lM :: .inBlock 53::k
def afo:f74.body.isSome=true:=by kernel_rfl
def asB(β:Bool):∃fn,(ah β).funcs[74]?=some fn/\fn.body.isSome=true/\(fn.name == "runtime.NumGoroutine")=false:=by
 refine⟨pf f74, ?_, ?_,by have:=cF func74;exact this⟩
 .rw[akD β (by decide) (by decide),func74];rfl
 .show(f74.body.map gP).isSome=true;rw[Option.isSome_map];exact afo
def ajR{β:Bool}{args:Array Value} :(callFunc 74 args).runT (ah β) w #[]=(.ok (.enter 74 args) w,#[]):=by
 obtain⟨fn,c,b,d⟩:=asB β;unfold callFunc;have f:¬fn.name= "runtime.NumGoroutine" :=by simpa using d
 have a:¬fn.body=none:=λe=>by rw[e] at b;cases b
 simp[c,f,a]
section
variable {X:Cx} {T:Array Value} {k:List Item} {w:World}
def At.aAV (hF:dX Z)  {A2 : Option Addr}   (h:At X T (.code lM::inH k) w)
  (k1:1<=key) (k2:key<=99) (hl:l.length=n) (hc:n<=c) (ao:(c:Int)<=9223372036854775807) (hp:RdP w0 A 0 l) (a7:∀a,A2=some a->a.block<w0.heap.size) (b0:(C:Int)<=2147483647)
  (H:T.getD 0 undef=.int .i64 key) (s1:T.getD 1 undef=.slice A n c) (s2:T.getD 2 undef=.slice A2 C b) (B:T.getD 16 undef=.int .i64 C) (r:T.getD 27 undef=.slice (some ⟨w0.heap.size,0,none⟩) C C) (i:T.getD 28 undef=.int .i64 j)
  (hj:j<=C) (al:di.length=j) (D:po w0 w C (di.map (Z key l))) :
  (j=C/\∃T',Tm cK T T'/\T'.getD 27 undef=.slice (some ⟨w0.heap.size,0,none⟩) C C/\At X T' k w)\/
  (j<C/\∃nm T' w',ajA w0 A2 j nm/\Tm cK T T'/\T'.getD 16 undef=.int .i64 C/\T'.getD 27 undef=.slice (some ⟨w0.heap.size,0,none⟩) C C/\T'.getD 28 undef=.int .i64 (j+1:Nat)/\po w0 w' C ((di++[nm]).map (Z key l))/\At X T' (.code lM::inH k) w'):=by
 have E:=Tm.refl cK T;unfold Go.Proofs.YtmicddpknimniaaGreatDoor.lM at h;have h:=h.seq;replace h:=h.region (l:=[0]) rfl;obtain⟨v,J,b1,⟨p,o⟩,m,W,g⟩:=h.jb (d:=26) (Φ:=λv q=>v=.bool (decide ((j:Int)<C))/\q=w) rfl rfl rfl (by decide) λN q F=>fS (by exact i) (by exact B) F;rw[p] at W;rw[o] at g;clear p o;replace H:=(m.same 0 rfl).trans H;replace s1:=(m.same 1 rfl).trans s1;replace s2:=(m.same 2 rfl).trans s2;replace B:=(m.same 16 rfl).trans B;replace r:=(m.same 27 rfl).trans r;replace i:=(m.same 28 rfl).trans i;replace E:=E.trans (m.sw rfl);clear m;replace h:=g;clear g;replace h:=h.iO.seq.cond W;by_cases S:(j:Int)<C
 .right;rw[db S] at h;simp only[pb] at h;replace h:=h.skip.seq.seq;replace h:=h.region (l:=[0,1,2,3]) rfl;obtain⟨ii,hi,hz⟩:=(faQ true).i3;obtain⟨v,J,ay,⟨a,hB,p,o⟩,m,O,g⟩:=h.jb (d:=25) (Φ:=λv q=>∃a,A2=some a/\v=.pointer (some (a.add (j*ii.size)))/\q=w) rfl rfl rfl (by decide) λN q F=>ab1 (faQ true).u31 hi (by exact s2) (by exact i) (by omega) F;rw[p,hz,tK] at O;rw[o] at g;clear p o;replace H:=(m.same 0 rfl).trans H;replace s1:=(m.same 1 rfl).trans s1;replace B:=(m.same 16 rfl).trans B;replace r:=(m.same 27 rfl).trans r;replace i:=(m.same 28 rfl).trans i;replace E:=E.trans (m.sw rfl);clear m;replace h:=g;clear g;have hv:=h.noV (t:=25) rfl rfl rfl O (λe w he=>ae9 he);obtain⟨vv,J,aZ,⟨I,o⟩,m,M,g⟩:=h.jb (d:=20) (Φ:=λv q=>w.cell? (a.add j)=some v/\q=w) rfl rfl rfl (by decide) λN q F=>ahO (faQ true).u3 rfl (by exact O) hv.1 F;rw[o] at g;clear o;replace H:=(m.same 0 rfl).trans H;replace s1:=(m.same 1 rfl).trans s1;replace B:=(m.same 16 rfl).trans B;replace r:=(m.same 27 rfl).trans r;replace i:=(m.same 28 rfl).trans i;replace E:=E.trans (m.sw rfl);clear m;replace h:=g;clear g;obtain⟨v,J,aS,⟨z,aa,p,o⟩,m,G,g⟩:=h.jb (d:=22) (Φ:=λv q=>∃z,vv=.int .i64 z/\v=.int .i64 (IntKind.i64.wrap (z*1))/\q=w) rfl rfl rfl (by decide) λN q F=>let⟨v,a1,z,a2,a3,a4⟩:=alT F rfl;⟨v,a1,z,M.symm.trans a2,a3,a4⟩
  rw[p] at G;rw[o] at g;clear p o;replace H:=(m.same 0 rfl).trans H;replace s1:=(m.same 1 rfl).trans s1;replace B:=(m.same 16 rfl).trans B;replace M:=(m.same 20 rfl).trans M;replace r:=(m.same 27 rfl).trans r;replace i:=(m.same 28 rfl).trans i;replace E:=E.trans (m.sw rfl);clear m;replace h:=g;clear g;subst aa;obtain⟨v,J,P,⟨p,o⟩,m,a0,g⟩:=h.jb (d:=21) (Φ:=λv q=>v=.bool (IntKind.i64.wrap (z*1) ==z)/\q=w) rfl rfl rfl (by decide) λN q F=>alV (by exact G) (by exact M) F;rw[p] at a0;rw[o] at g;clear p o;replace H:=(m.same 0 rfl).trans H;replace s1:=(m.same 1 rfl).trans s1;replace B:=(m.same 16 rfl).trans B;replace M:=(m.same 20 rfl).trans M;replace G:=(m.same 22 rfl).trans G;replace r:=(m.same 27 rfl).trans r;replace i:=(m.same 28 rfl).trans i;replace E:=E.trans (m.sw rfl);clear m;replace h:=g;clear g;obtain⟨hq,g⟩:=h.iO.ayf a0;replace h:=g.seq;clear g;replace h:=h.region (l:=[0,1,2]) rfl;have Y:=aa4 hq;have a8:ajA w0 A2 j z:=⟨a,hB,by rw[<-fR (D.low (a.add j).block (by rw[rm];exact a7 a hB))];exact I,Y⟩;obtain⟨v,J,aJ,⟨p,R⟩,m,K,g⟩:=h.call (d:=24) (f:=74) (args:=#[.int .i64 key,.slice A n c,.int .i64 z]) rfl rfl rfl (by decide) (λw=>by
    have hm:Array.map (Frame.eval (FQ cx P (.inRegion aim [0,1,2] :: .code (.region 83 ain false)::inH k))) #[.tmp 0,.tmp 1,.tmp 20]=#[.int .i64 key,.slice A n c,.int .i64 z]:=by
     rw[<-H,<-s1,<-M];simp[Frame.eval]
    have e0:execOp (Frame.eval (FQ cx P (.inRegion aim [0,1,2] :: .code (.region 83 ain false)::inH k))) (gV (some 24) (.call ⟨.value (.func 74),#[.tmp 0,.tmp 1,.tmp 20],#[3,23,3]⟩) 136)=callFunc 74 #[.int .i64 key,.slice A n c,.int .i64 z]:=by
     simp only[execOp,gV,resolve];rw[hm];simp[Deferred.ofValue,invoke,Frame.eval];try rfl
    exact(fi (λs=>Sem.runT (ah true) s w #[]) e0).trans ajR) (hF true w key A n c l z k1 k2 hl hc ao (hp.below D.low) Y)
  rw[p] at K;replace D:=D.below R;clear p R;replace B:=(m.same 16 rfl).trans B;replace G:=(m.same 22 rfl).trans G;replace r:=(m.same 27 rfl).trans r;replace i:=(m.same 28 rfl).trans i;replace E:=E.trans (m.sw rfl);clear m;replace h:=g;clear g;clear I hv;obtain⟨i2,mV,a6, -⟩:=(faQ true).adK;obtain⟨v,w2,ad,⟨a2,an,p,o⟩,m,a5,g⟩:=h.jb (d:=23) (Φ:=λv q=>∃a,some (⟨w0.heap.size,0,none⟩:Addr)=some a/\v=.pointer (some (a.add (j*i2.size)))/\q=J) rfl rfl rfl (by decide) λN q F=>ab1 (faQ true).ahL mV (by exact r) (by exact i) (by omega) F;cases an;rw[p,a6,iJ,mc,tT] at a5;rw[o] at g;clear p o;replace B:=(m.same 16 rfl).trans B;replace G:=(m.same 22 rfl).trans G;replace K:=(m.same 24 rfl).trans K;replace r:=(m.same 27 rfl).trans r;replace i:=(m.same 28 rfl).trans i;replace E:=E.trans (m.sw rfl);clear m;replace h:=g;clear g;have U:=D.store (by simp;omega) (Z key l z);rw[pu,al] at U;obtain⟨cs,L,aN, -⟩:=D.row;obtain⟨u0,ax⟩:∃u,cs[2*j]?=some u:=⟨_,fm (by omega)⟩;obtain⟨u1,a9⟩:∃u,cs[2*j+1]?=some u:=⟨_,fm (by omega)⟩;have ha:(⟨w0.heap.size,2*j,none⟩:Addr).add 1=⟨w0.heap.size,2*j+1,none⟩:=iJ _ _ _;have V:=ape (faQ true) (dst:=none) (ty:=0) (pos:= "") (af:=#[]) (gd:=none) (w:=J) (A:=⟨w0.heap.size,2*j,none⟩) (u0:=.string (Z key l z).1) (u1:=.bool (Z key l z).2) (e:=(FQ cx ad (.inRegion aim (2::[]) :: .code (.region 83 ain false)::inH k)).eval) (x:=.tmp 23) (y:=.tmp 24) rfl rfl (by exact a5) (by exact K) ((eH L).trans ax) (gT L) (by rw[ha];exact(eH L).trans a9) (by rw[ha];exact gT L);rw[ha] at V;replace h:=h.opk rfl rfl rfl V;replace h:=h.iO.region (l:=[0,1]) rfl;generalize (J.setCell ⟨w0.heap.size,2*j,none⟩ (.string (Z key l z).1)).setCell ⟨w0.heap.size,2*j+1,none⟩ (.bool (Z key l z).2)=q at *;clear G;obtain⟨v,J,aM,⟨p,o⟩,m,G,g⟩:=h.jb (d:=22) (Φ:=λv Q=>v=.int .i64 (IntKind.i64.wrap ((j:Int)+1))/\Q=q) rfl rfl rfl (by decide) λN Q F=>alU (by exact i) rfl F;rw[p] at G;rw[o] at g;clear p o;replace B:=(m.same 16 rfl).trans B;replace r:=(m.same 27 rfl).trans r;replace i:=(m.same 28 rfl).trans i;replace E:=E.trans (m.sw rfl);clear m;replace h:=g;clear g;clear i;obtain⟨v,J,aO,⟨p,o⟩,m,i,g⟩:=h.jb (d:=28) (Φ:=λv Q=>v=.int .i64 (IntKind.i64.wrap ((j:Int)+1))/\Q=q) rfl rfl rfl (by decide) λN Q F=>let⟨v,a1,a2,a3⟩:=ahM F;⟨v,a1,a2.trans G,a3⟩
  rw[p] at i;rw[o] at g;clear p o;replace B:=(m.same 16 rfl).trans B;replace r:=(m.same 27 rfl).trans r;replace E:=E.trans (m.sw rfl);clear m;replace h:=g;clear g;rw[afa (by omega)] at i;exact⟨by omega,z,_,q,a8,E,B,r,i,by rw[qR];exact U,h.iO.again⟩
 .left;rw[bv S] at h;simp only[kw,qA] at h;exact⟨by omega,_,E,r,h.exit rfl⟩
def At.awI {F:Int->List ij->Int->ByteArray×Bool} (B:dX F) {w0:World} {key:Int} {A v:Option Addr} {n c d N:Nat} {l:List ij}
  (x:1<=key) (k2:key<=99) (E:l.length=n) (G:n<=c) (q:(c:Int)<=9223372036854775807) (C:RdP w0 A 0 l) (p:∀a,v=some a->a.block<w0.heap.size) (r:(d:Int)<=2147483647):∀(m j:Nat) {T:Array Value} {w:World} {s:List Int},d=j+m->At X T (.code lM::inH k) w->
  T.getD 0 undef=.int .i64 key->T.getD 1 undef=.slice A n c->T.getD 2 undef=.slice v d N->T.getD 16 undef=.int .i64 d->T.getD 27 undef=.slice (some ⟨w0.heap.size,0,none⟩) d d->T.getD 28 undef=.int .i64 j->s.length=j->(∀i nm,s[i]?=some nm->ajA w0 v i nm)->po w0 w d (s.map (F key l))->
  ∃(b:List Int) (T':Array Value) (u:World),b.length=d/\(∀i nm,b[i]?=some nm->ajA w0 v i nm)/\po w0 u d (b.map (F key l))/\Tm cK T T'/\T'.getD 27 undef=.slice (some ⟨w0.heap.size,0,none⟩) d d/\At X T' k u
 |0,j,T,w,s,e,h,s0,s1,s2,dc,iI,iM,hnl,hnm,hrow=>by
  rcases h.aAV B x k2 E G q C p r s0 s1 s2 dc iI iM (by omega) hnl hrow with⟨_,T',J,g,I⟩|⟨y,_⟩
  .exact⟨s,T',w,by omega,hnm,hrow,J,g,I⟩
  .omega
 |m+1,j,T,w,s,e,h,s0,s1,s2,dc,iI,iM,hnl,hnm,hrow=>by
  rcases h.aAV B x k2 E G q C p r s0 s1 s2 dc iI iM (by omega) hnl hrow with⟨W,_⟩|⟨y,nm,V,U,P,f,D,g,H,o,K⟩
  .omega
  .obtain⟨b,T',u,R,S,L,O,M,Q⟩:=At.awI B x k2 E G q C p r m (j+1) (by omega) K ((f.same 0 rfl).trans s0) ((f.same 1 rfl).trans s1) ((f.same 2 rfl).trans s2) D g H (by simp[hnl]) (λi z t=>by
    rw[vU] at t;split at t
    .exact hnm i z t
    .have:i=j:=by
      have:=(mp.1 t).1;simp at this;omega
     subst this;simp[hnl] at t;subst t;exact P) o
   exact⟨b,T',u,R,S,L,f.trans O,M,Q⟩
end
end
section
open Go.Conc Go.ConcN
def mxA:Option Addr->Nat
 |none=>0
 |some a=>a.block+1
def mxN:Option Nat->Nat
 |none=>0
 |some a=>a+1
def avm:Fn->Nat
 |.yield l=>l+1
 |_=>0
mutual
def mxV:Value->Nat
 |.pointer a=>mxA a
 |.slice a _ _=>mxA a
 |.map a=>mxN a
 |.chan a=>mxN a
 |.func f ⟨a⟩ ⟨c⟩=>max (avm f) (max (mxL a) (mxL c))
 |.iface _ v=>mxV v
 |.agg ⟨l⟩=>mxL l
 |.tuple ⟨l⟩=>mxL l
 |_=>0
def mxL:List Value->Nat
 |[]=>0
 |v::l=>max (mxV v) (mxL l)
end
def mxE:List MapEntry->Nat
 |[]=>0
 |e::l=>max (max (mxV e.key) (mxV e.val)) (mxE l)
def mxO:Obj->Nat
 |.cells c _ _=>mxL c.toList
 |.map e _=>mxE e.toList
 |.loop l=>mxL l.tmps.toList
 |_=>0
def mxH:List Obj->Nat
 |[]=>0
 |o::l=>max (mxO o) (mxH l)
def anP:∀{l:List Obj} {i:Nat} {o:Obj},l[i]?=some o->mxO o<=mxH l
 |[],i,o,h=>by simp at h
 |x::l,0,o,h=>by simp at h;subst h;simp only[mxH];omega
 |x::l,i+1,o,h=>by
  have:=anP (l:=l) (i:=i) (o:=o) (by simpa using h);simp only[mxH];omega
def amm:List Frame->Nat
 |[]=>0
 |f::l=>max (mxL f.tmps.toList) (amm l)
def asD(f:Fn)(a c:Array Value):mxV (.func f a c)=max (avm f) (max (mxL a.toList) (mxL c.toList)):=by
 obtain⟨a⟩:=a;obtain⟨c⟩:=c;simp only[mxV]
def avn(a:Array Value):mxV (.agg a)=mxL a.toList:=by
 obtain⟨a⟩:=a;simp only[mxV]
def apF(a:Array Value):mxV (.tuple a)=mxL a.toList:=by
 obtain⟨a⟩:=a;simp only[mxV]
section
variable {ρ σ:Ren} {D:Nat} (hd:σ.dim=ρ.dim/\σ.al=ρ.al) (H:∀{a b:Nat},σ.r a b->b<D->ρ.r a b)
include H
theorem OAR.down{u v:Option Addr}(k:OAR σ u v)(a:mxA v<=D):OAR ρ u v:=by
 cases k with
 |none=>exact .none
 |some k=>cases k with
  |mk h o s=>exact .some (.mk (H h (by simp only[mxA] at a;omega)) o s)
theorem NR.down{u v:Option Nat}(k:NR σ u v)(a:mxN v<=D):NR ρ u v:=by
 cases k with
 |none=>exact .none
 |some h=>exact .some (H h (by simp only[mxN] at a;omega))
theorem FR.down{u v:Fn}(k:FR σ u v)(a:avm v<=D):FR ρ u v:=by
 cases k with
 |same f b=>exact .same _ b
 |yield h=>exact .yield (H h (by simp only[avm] at a;omega))
include hd
mutual
theorem VR.down:∀{u v:Value},VR σ u v->mxV v<=D->VR ρ u v
 |_,_,.fj hl k,_=>.fj (hd.1▸hl) k
 |_,_,.aa8 k hl,_=>.aa8 k (hd.2▸hl)
 |_,_,.bool b,_=>.bool b
 |_,_,.int k n,_=>.int k n
 |_,_,.string s,_=>.string s
 |_,_,.pointer k,hb=>.pointer (OAR.down H k (by simpa only[mxV] using hb))
 |_,_,.slice k l c,hb=>.slice (OAR.down H k (by simpa only[mxV] using hb)) l c
 |_,_,.map k,hb=>.map (NR.down H k (by simpa only[mxV] using hb))
 |_,_,.chan k,hb=>.chan (NR.down H k (by simpa only[mxV] using hb))
 |_,_,.func f x y,hb=>by
  rw[asD] at hb;exact .func (FR.down H f (by omega)) (bQ.down x (by omega)) (bQ.down y (by omega))
 |_,_,.nilFunc,_=>.nilFunc
 |_,_,.iface t k,hb=>.iface t (VR.down k (by simpa only[mxV] using hb))
 |_,_,.nilIface,_=>.nilIface
 |_,_,.agg k,hb=>.agg (bQ.down k (by rwa [avn] at hb))
 |_,_,.tuple k,hb=>.tuple (bQ.down k (by rwa [apF] at hb))
theorem bQ.down:∀{u v:List Value},bQ σ u v->mxL v<=D->bQ ρ u v
 |_,_,.nil,_=>.nil
 |_,_,.cons k kl,hb=>.cons (VR.down k (by simp only[mxL] at hb;omega)) (bQ.down kl (by simp only[mxL] at hb;omega))
end
def lW.down:∀{u v:List MapEntry},lW σ u v->mxE v<=D->lW ρ u v
 |_,_,.nil,_=>.nil
 |_,_,.cons (.mk k1 k2 b) kl,hb=>.cons (.mk (VR.down hd H k1 (by simp only[mxE] at hb;omega)) (VR.down hd H k2 (by simp only[mxE] at hb;omega)) b) (lW.down kl (by simp only[mxE] at hb;omega))
variable (hx:σ.lax=ρ.lax) (hle:ρ.Le σ)
include hx hle
theorem OR.down{u v v':Obj}(h:OR ρ u v')(k:OR σ v v')(b:mxO v'<=D):OR ρ v v':=by
 cases h with
 |cells h t C=>cases k with
  |cells k _ g=>
   refine .cells (bQ.down hd H k b) t ?_;unfold ZR at g ⊢;rw[<-hx];exact g
 |map h c=>cases k with
  |map k _=>exact .map (lW.down hd H k b) c
 |stringIter s p=>cases k;exact .stringIter s p
 |number h l=>cases k with
  |number k _=>
   obtain⟨d,o,s⟩:=h;cases k with
   |mk f _ _=>
    have:=σ.inj (hle.r d) f;subst this;exact .number (.mk d o s) l
 |mapIter h s a n=>cases k with
  |mapIter k _ _ _=>
   cases h with
   |none=>cases k;exact .mapIter .none s a n
   |some h=>cases k with
    |some k=>
     have:=σ.inj (hle.r h) k;subst this;exact .mapIter (.some h) s a n
 |loop d f E z B F A e=>cases k with
  |loop i x q y r w m j=>
   have:=σ.inj (hle.r e) j;rw[this] at e;exact .loop i x q (bQ.down hd H y b) r w m e
 |bA=>cases k;exact .bA
 |deferred=>cases k;exact .deferred
omit hd hx in
omit H in
theorem Ren.down{a : Nat}(h:ρ.r a X)(k:σ.r b X):ρ.r b X:=by
 have:=σ.inj (hle.r h) k;subst this;exact h
omit hd hx in
omit H in
theorem jm.down{P:Program}:∀{u v a:List Item},jm P ρ u a->jm P σ v a->jm P ρ v a
 |_,_,_,.nil,.nil=>.nil
 |_,_,_,.cons h hl,.cons k kl=>.cons (by
   cases h with
   |code c=>cases k;exact .code c
   |inBlock id=>cases k;exact .inBlock id
   |inLoop c=>cases k;exact .inLoop c
   |inScope c=>cases k;exact .inScope c
   |inRegion h l=>cases k with
    |inRegion k _=>exact .inRegion k l
   |inRangeFunc h=>cases k with
    |inRangeFunc k=>exact .inRangeFunc (Ren.down hle h k)
   |endRangeFunc h=>cases k with
    |endRangeFunc k=>exact .endRangeFunc (Ren.down hle h k)
   |beginRound=>cases k;exact .beginRound) (jm.down hl kl)
omit hd hx in
omit H in
theorem CDs.down:∀{u v a:List Deferred},CDs ρ u a->CDs σ v a->CDs ρ v a
 |_,_,_,.nil,.nil=>.nil
 |_,_,_,.cons h hl,.cons k kl=>.cons (Ren.down hle h k) (CDs.down hl kl)
omit hd hx in
omit H in
theorem NR.aAW{u v v':Option Nat}(h:NR ρ u v')(k:NR σ v v'):NR ρ v v':=by
 cases h with
 |none=>cases k;exact .none
 |some h=>cases k with
  |some k=>exact .some (Ren.down hle h k)
omit hx in
theorem FrR.down{u v v':Frame}(h:FrR P ρ u v')(k:FrR P σ v v')(a:mxL v'.tmps.toList<=D):FrR P ρ v v':=
 ⟨k.fn,bQ.down hd H k.tmps a,jm.down hle h.todo k.todo,CDs.down hle h.defers k.defers,k.mode,k.kind,NR.aAW hle h.round k.round⟩
omit hx in
theorem ik.down{P:Program}:∀{u v a:List Frame},ik P ρ u a->ik P σ v a->amm a<=D->ik P ρ v a
 |_,_,_,.one h h0,.one k k0,hb=>.one (FrR.down hd H hle h k (by simp only[amm] at hb;omega)) k0
 |_,_,_,.cons h b,.cons k kl,hb=>.cons (FrR.down hd H hle h k (by simp only[amm] at hb;omega)) (ik.down b kl (by simp only[amm] at hb;omega))
 |_,_,_,.one h h0,.cons k kl,_=>by cases kl
 |_,_,_,.cons h b,.one k k0,_=>by cases b
end
end
section
open Go Go.Conc Go.ConcN Go.RowKit
def aAX:∀i,i<20->cK.getD i 0<45/\ac0[i]?=some (aor (cK.getD i 0) 0)/\cK.contains (cK.getD i 0)=true:=by
 intro i a;have:i=0\/i=1\/i=2\/i=3\/i=4\/i=5\/i=6\/i=7\/i=8\/i=9\/i=10\/i=11\/i=12\/i=13\/i=14\/i=15\/i=16\/i=17\/i=18\/i=19:=by omega
 rcases this with rfl|rfl|rfl|rfl|rfl|rfl|rfl|rfl|rfl|rfl|rfl|rfl|rfl|rfl|rfl|rfl|rfl|rfl|rfl|rfl<;>exact⟨by decide,rfl,rfl⟩
def aAY{t:Nat}(h:cK.contains t=true):∃i,i<20/\cK.getD i 0=t:=by
 have b:t∈cK:=by simpa using h
 obtain⟨i,a,c⟩:=vT.1 b;exact⟨i,a,by rw[sH,li a];exact c⟩
def ayC:∀i,i<20->∀j,j<20->cK.getD i 0=cK.getD j 0->i=j:=by decide
section
variable {X:Cx} {T:Array Value} {k:List Item} {w:World}
def At.awJ:∀(m i:Nat) {T:Array Value},i+m=20->At X T (.inRegion ac0 (List.range' i m)::k) w->(∀j,j<i->T.getD (cK.getD j 0) undef=.int .i64 0)->
  ∃T',At X T' (.inRegion ac0 []::k) w/\(∀j,j<20->T'.getD (cK.getD j 0) undef=.int .i64 0)/\Tm cK T T'
 |0,i,T,e,h,hd=>⟨T,h,λj u=>hd j (by omega),.refl _ _⟩
 |m+1,i,T,e,h,hd=>by
  have l:i<20:=by omega
  obtain⟨x,o,q⟩:=aAX i l;rw[List.range'_succ] at h;obtain⟨v,z,A,⟨t,y⟩,n,s,h⟩:=h.jb (d:=cK.getD i 0) (Φ:=λv g=>v=.int .i64 0/\g=w) o rfl rfl x λB g p=>ja p;rw[t] at s;rw[y] at h;obtain⟨T',r,f,c⟩:=At.awJ m (i+1) (by omega) h λj u=>by
   by_cases a:j=i
   .subst a;exact s
   .have b:cK.getD j 0≠cK.getD i 0:=λe=>a (ayC j (by omega) i l e);rw[n.same _ (by simpa using b)];exact hd j (by omega)
  exact⟨T',r,f,(n.sw q).trans c⟩
def At.last{C:Addr}(h:At X T (.code ajz::k) w)(r:T.getD 27 undef=.slice (some C) n n):∃T' m,AtL X T' (.code cI::k) m/\(∀b,b<w.heap.size->m.heap[b]?=w.heap[b]?)/\w.heap.size<m.heap.size/\
  m.heap[w.heap.size]?=some (.cells #[.slice (some C) n n] 125 (0,0))/\T'.getD 17 undef=.slice (some C) n n/\T'.getD 8 undef=.pointer (some ⟨w.heap.size,0,none⟩)/\(∀t,cK.contains t=true->T'.getD t undef=.int .i64 0)/\Tm (8::17::cK) T T':=by
 unfold ajz at h;have h:=h.seq;replace h:=h.region (l:=[0,1,2]) rfl;obtain⟨v,G,H,⟨B,s⟩,L,a,F⟩:=h.jb (d:=17) (Φ:=λv g=>v=.slice (some C) n n/\g=w) rfl rfl rfl (by decide) λR g z=>let⟨v,P,Q,K⟩:=ja z;⟨v,P,Q.trans r,K⟩
 rw[B] at a;rw[s] at F;obtain⟨v,G,S,⟨B,s⟩,E,o,f⟩:=F.jb (d:=8) (Φ:=λv g=>v=.pointer (some ⟨w.heap.size,0,none⟩)/\g=w.alloc (.cells #[.slice none 0 0] 125)) rfl rfl rfl (by decide) λR g z=>by
  have:=(ar7 (faQ true) (w:=w) (e:=(FQ cx H (.inRegion aio (1::[2]) :: .code (.seq (.region 59 ac0 false) cI)::k)).eval) (dst:=some 8) (ty:=0) (pos:= "") (af:=#[]) (gd:=none)).symm.trans z;cases this;exact⟨_,rfl,rfl,rfl⟩
 rw[B] at o;rw[s] at f;replace a:=(E.same 17 rfl).trans a;have q:(w.alloc (.cells #[.slice none 0 0] 125)).heap[w.heap.size]?=some (.cells #[.slice none 0 0] 125 (0,0)):=by
  show(w.heap.push _)[w.heap.size]?=_;rw[qO]
 have I:=apf (faQ true) (dst:=none) (ty:=0) (pos:= "") (af:=#[]) (gd:=none) (w:=w.alloc (.cells #[.slice none 0 0] 125)) (A:=⟨w.heap.size,0,none⟩) (u:=.slice (some C) n n) (c0:=.slice none 0 0)
  (e:=(FQ cx S (.inRegion aio (2::[]) :: .code (.seq (.region 59 ac0 false) cI)::k)).eval) (x:=.tmp 8) (y:=.tmp 17) ⟨_,_,_,rfl⟩ (by exact o) (by exact a) (eH q) (gT q)
 replace f:=(f.opk rfl rfl rfl I).iO.seq;replace f:=f.region (l:=List.range' 0 20) rfl;obtain⟨J,M,N,p⟩:=f.awJ 20 0 (by rfl) (λj U=>by omega);refine⟨J,_,M.aAw,λb D=> ?_, ?_, ?_,(p.same 17 rfl).trans a,(p.same 8 rfl).trans o,λt c=> ?_, ?_⟩
 .rw[bc _ _ _ (by show w.heap.size≠b;omega)];exact se w _ b D
 .rw[ef,me];omega
 .exact vg q
 .obtain⟨i,O,rfl⟩:=aAY c;exact N i O
 .exact((L.mono λt c=>by simp at c;subst c;rfl).trans (E.mono λt c=>by simp at c;subst c;rfl)).trans (p.mono λt c=>by
   simp only[te,qN];exact .inr (.inr c))
end
end
section
open Go Go.Conc Go.ConcN Go.RowKit
def asE{ρ:Ren}:∀(x y:List Value),x.length=y.length->(∀(i:Nat) u v,x[i]?=some u->y[i]?=some v->VR ρ u v)->bQ ρ x y
 |[],[],_,_=>.nil
 |[],_::_,h,_=>by cases h
 |_::_,[],h,_=>by cases h
 |a::x,b::y,hs,h=>.cons (h 0 a b rfl rfl) (asE x y (by simpa using hs) λi u v c d=>h (i+1) u v (by simpa using c) (by simpa using d))
def amn{x : Array Value}(b:x.size=y.size)(h:∀(i:Nat) u v,x[i]?=some u->y[i]?=some v->VR ρ u v):cU ρ x y:=
 asE _ _ (by simpa using b) λi u v a c=>h i u v (by rw[<-dl];exact a) (by rw[<-dl];exact c)
def cU.at{x : Array Value}(h:cU ρ x y)(d:x[i]?=some u)(b:y[i]?=some v):VR ρ u v:=by
 obtain⟨e,a,c⟩:=bQ.get h (i:=i) (v:=u) (by rw[dl];exact d);rw[dl,b] at a;cases a;exact c
abbrev T0F(a:Array Value):Array Value:=a++Array.replicate (45-a.size) undef
def avo :Frame.enter (ah true) cx Y .normal=FQ cx (T0F Y) [.code jH]:=by
 have a:(ah true).funcs[cx]?=some (qFA true):=acs true;unfold Frame.enter;rw[a];rfl
def anQ(h:T[i]?=some v):T.getD i undef=v:=by
 rw[ga,h];rfl
def dU(w:World)(b:Nat):Prop:=∃c t z,w.heap[b]?=some (.cells c t z)
def kW{A:Addr}(a:w.cell? A=some v):dU w A.block:=by
 unfold World.cell? at a;cases b:w.heap[A.block]? with
 |none=>rw[b] at a;simp at a
 |some o=>
  rw[b] at a;cases o with
  |cells c t z=>exact⟨c,t,z,b⟩
  |_=>simp at a
def ayD:(gL.all λg=>g ==0||g ==1)=true:=by unfold gL;kernel_rfl
structure aAZ (ρ:Ren) (a':Array Value) (w:World) (key:Int) (A:Option Addr) (n c:Nat) (l:List ij) (A2:Option Addr) (n2 c2:Nat) (di:List Int):Prop where
 s0:(T0F a').getD 0 undef=.int .i64 key
 k1:1<=key
 k2:key<=99
 s1:(T0F a').getD 1 undef=.slice A n c
 nc:n<=c
 cm:(c:Int)<=9223372036854775807
 ln:l.length=n
 rd:RdP w A 0 l
 rg:∀i x,l[i]?=some x->∀a b m e,A=some a->w.cell? ((a.add (i*2)).add 1)=some (.slice (some b) m e)->∃y,ρ.r y b.block
 s2:(T0F a').getD 2 undef=.slice A2 n2 c2
 n2m:(n2:Int)<=2147483647
 n2c:n2<=c2
 c2m:(c2:Int)<=9223372036854775807
 nn:di.length=n2
 nm:∀i nm,di[i]?=some nm->ajA w A2 i nm
 gl:∀g∈gL,dU w g
 al:∀a,A=some a->∃b,ρ.r b a.block
 al2:∀a,A2=some a->∃b,ρ.r b a.block
def aau(t:Nat):Bool:=t ==12||t ==14||decide (29<=t)
def amo{l:List Nat}{t:Nat}(h:(l.all λx=>decide (x<29))=true)(c:29<=t):l.contains t=false:=by
 cases b:l.contains t with
 |false=>rfl
 |true=>
  have a:t∈l:=by simpa using b
  have:=jt.1 h t a;simp only[qH] at this;omega
def asF{t:Nat}(h:aau t=true):mH.contains t=false/\cK.contains t=false/\(8::17::cK).contains t=false/\t≠8/\t≠17:=by
 simp only[aau,qN,mw,qH] at h;rcases h with(rfl|rfl)|h
 .exact⟨rfl,rfl,rfl,by decide,by decide⟩
 .exact⟨rfl,rfl,rfl,by decide,by decide⟩
 .exact⟨amo rfl h,amo rfl h,amo rfl h,by omega,by omega⟩
def vd(h:i<T.size):T[i]?=some (T.getD i undef):=by
 rw[ga,fm h];rfl
def anR:∀{l:List Value} {i:Nat} {v:Value},l[i]?=some v->mxV v<=mxL l
 |[],i,v,h=>by simp at h
 |x::l,0,v,h=>by simp at h;subst h;simp only[mxL];omega
 |x::l,i+1,v,h=>by
  have:=anR (l:=l) (i:=i) (v:=v) (by simpa using h);simp only[mxL];omega
def anS(h:(T0F Y)[i]?=some v):mxV v<=mxL Y.toList:=by
 unfold T0F at h;rw[sF] at h;split at h
 .exact anR (i:=i) (by rw[dl];exact h)
 .rw[tU] at h;split at h
  .cases h;have:mxV undef=0:=by
    show mxV (.tuple ⟨[]⟩)=0;simp only[mxV,mxL]
   omega
  .cases h
def ahP.cells{B:Option Addr}{x:Int×ByteArray}(h:ahP w B i x)(k:∀A,w.cell? A=w'.cell? A):ahP w' B i x:=by
 obtain⟨⟨a,d,b,f⟩,c,e⟩:=h;exact⟨⟨a,d,(k _).symm.trans b,(k _).symm.trans f⟩,c,e⟩
def RdP.cells(h:RdP w A j l)(k:∀A,w.cell? A=w'.cell? A):RdP w' A j l:=λi x g=>by
 obtain⟨⟨a,B,c,o,d,f,n,q,m,p⟩,b⟩:=h i x g;exact⟨⟨a,B,c,o,(k _).symm.trans d,(k _).symm.trans f,n,q,m,λi y e=>(p i y e).cells k⟩,b⟩
def asG(w:World)(n:Nat):World:={w with heap:=w.heap++Array.replicate n (.deferred none)}
def ajS(w:World)(n:Nat)(h:b<w.heap.size):(asG w n).heap[b]?=w.heap[b]?:=by
 show(w.heap++_)[b]?=_;rw[rO h]
def apG(w:World)(n:Nat)(A:Addr):(asG w n).cell? A=w.cell? A:=by
 by_cases h:A.block<w.heap.size
 .exact fR (ajS w n h)
 .unfold World.cell?;rw[pZ (by omega:w.heap.size<=A.block)];have:(asG w n).heap[A.block]?=none\/(asG w n).heap[A.block]?=some (.deferred none):=by
   show(w.heap++_)[A.block]?=none\/(w.heap++_)[A.block]?=_;rw[sF,be (by omega),tU];split
   .exact .inr rfl
   .exact .inl rfl
  rcases this with e|e<;>rw[e]
def apH (hF:dX Z) {c:Cfg}  {m m':List Frame} (c5:cU ρ a Y) (a8:ik (ah true) ρ m m') (hc:c.l=Frame.enter (ah true) cx a .normal::m)
  (F:WR ρ c.w w') (hg:GlR ρ) (hW:jK (ah true) R c) :
  ∃M A n cc l A2 E c2 di c1,aAZ ρ Y w' M A n cc l A2 E c2 di/\gZ (ah true) c1 c/\jK (ah true) R c1/\(∀b K,ρ.r b K->Rw c.w b->Rw c1.w b/\∀i u,ad4 u->c1.w.cell? ⟨b,i,none⟩=some u->c.w.cell? ⟨b,i,none⟩=some u)/\
   ∀(wr:World) (S W:Nat) (cs:Array Value),(∀b K,ρ.r b K->wr.heap[K]?=w'.heap[K]?)->wr.ou=w'.ou->w'.heap.size<=wr.heap.size->w'.heap.size<=S->w'.heap.size<=W->S≠W->wr.heap[S]?=some (.cells cs 136 (0,0))->cs.size=2*E->
    (∀i nm,di[i]?=some nm->cs[2*i]?=some (.string (Z M l nm).1)/\cs[2*i+1]?=some (.bool (Z M l nm).2))->wr.heap[W]?=some (.cells #[.slice (some ⟨S,0,none⟩) E E] 125 (0,0))->
    ∃p T2,ρ.Le p/\ik (ah true) p c1.l (FQ cx T2 [.code cI]::m')/\WR p c1.w wr/\(∀b K,p.r b K->ρ.r b K\/K=S\/K=W)/\T2.size=(T0F Y).size/\(∀i,i<3->T2.getD i undef=(T0F Y).getD i undef)/\
     T2.getD 6 undef=.slice none 0 0/\T2.getD 7 undef=.bool false/\T2.getD 8 undef=.pointer (some ⟨W,0,none⟩)/\T2.getD 17 undef=.slice (some ⟨S,0,none⟩) E E/\(∀i,aau i=true->T2.getD i undef=(T0F Y).getD i undef):=by
 obtain⟨_,_,y,ys,e1,rfl⟩:=a8.ne';have bn:45<=(T0F Y).size:=by simp only[T0F,rV,sN];omega
 obtain⟨D,c4,ba,cp,bL⟩:∃D,w'.heap.size<=D/\mxH w'.heap.toList<=D/\mxL Y.toList<=D/\amm (y::ys)<=D:=⟨w'.heap.size+(mxH w'.heap.toList+(mxL Y.toList+amm (y::ys))),by omega,by omega,by omega,by omega⟩;obtain⟨w,Q⟩:∃w,w=asG w' (D-w'.heap.size):=⟨_,rfl⟩;have b8:w.heap.size=D:=by
  rw[Q];show(w'.heap++_).size=D;rw[rV,sN];omega
 have b6:∀{b},b<w'.heap.size->w.heap[b]?=w'.heap[b]?:=λ{b} h=>by rw[Q];exact ajS _ _ h
 have U:∀A,w.cell? A=w'.cell? A:=λA=>by rw[Q];exact apG _ _ _
 have bi:w.ou=w'.ou:=by rw[Q];rfl
 have cd:WR ρ c.w w:=⟨λ{b K} f=>by
  obtain⟨o,o',T,O,X⟩:=F.obj f;exact⟨o,o',T,(b6 (F.lt f).2).trans O,X⟩,F.os.trans bi.symm,F.kq.1,by rw[b8];exact bd F.kq.2 c4⟩
 clear Q;have br:FrR (ah true) ρ (Frame.enter (ah true) cx a .normal) (FQ cx (T0F Y) [.code jH]):=by rw[<-avo];exact ae2 true c5
 have h0:At ⟨R,c,ρ,w,y,ys⟩ (T0F Y) [.code jH] w:=⟨bn,c,ρ,.inl rfl,.refl _,by rw[hc];exact .cons br a8,cd,hg,hW,Kept.refl _ _ _⟩;obtain⟨M,A,n,cc,l,T1,s0,k1,k2,⟨cP,bt⟩,⟨cC,ck⟩,s1,aZ,aS,hl,hp,hR,bP,m1,s6,s7,T⟩:=h0.head;obtain⟨A2,E,c2,ax,T2,s2,bb,cj,b5,bZ,bw,c8,m2,dc,bo,c0,O⟩:=T.names;replace s2:=(m1.same 2 rfl).symm.trans s2;have ce:po w (w.alloc (.cells ax 136)) E (([]:List Int).map (Z M l)):=by
  refine⟨λb f=>se w _ b f,by rw[me];omega,ax, ?_,c8,λi x I=>by simp at I⟩;show(w.heap.push _)[w.heap.size]?=_;rw[qO]
 have g0:=λt (h:mH.contains t=false) (h':cK.contains t=false)=>(m2.same t h').trans (m1.same t h);obtain⟨di,T3,w3,cr,bk,J,m3,b9,X⟩:=At.awI hF k1 k2 hl aZ aS hp bb b5 E 0 (by omega) O.block.loop ((g0 0 rfl rfl).trans s0) ((g0 1 rfl rfl).trans s1) ((g0 2 rfl rfl).trans s2) dc bo c0 rfl (λi nm I=>by simp at I) ce;obtain⟨T4,w4,h4,b4,cw,cm,bA,s8,c9,m4⟩:=X.last b9;obtain⟨b7,bf,ct,bO⟩:=J.row;have a6:w4.heap[w.heap.size]?=some (.cells b7 136 (0,0)):=(b4 _ J.lt).trans bf;have cb:∀b,b<w'.heap.size->w4.heap[b]?=w'.heap[b]?:=λb f=>((b4 b (Nat.lt_trans (by omega) J.lt)).trans (J.low b (by omega))).trans (b6 f);have g1:=λt (h:mH.contains t=false) (h':cK.contains t=false) (bp:(8::17::cK).contains t=false)=>(m4.same t bp).trans ((m3.same t h').trans (g0 t h h'));have t6:T4.getD 6 undef=.slice none 0 0:=(m4.same 6 rfl).trans ((m3.same 6 rfl).trans ((m2.same 6 rfl).trans s6));have t7:T4.getD 7 undef=.bool false:=(m4.same 7 rfl).trans ((m3.same 7 rfl).trans ((m2.same 7 rfl).trans s7));have ao:T4.size=(T0F Y).size:=m4.size.trans (m3.size.trans (m2.size.trans m1.size));obtain⟨cO,c1,C,q,cn⟩:=h4;obtain⟨x,xs,_,_,ay,e2⟩:=q.st.ne';cases e2;have hq:=q.st;rw[ay] at hq;have V:=hq.head;have ch:ik (ah true) C xs (y::ys):=by cases hq with|cons _ h=>exact h
 have H:∀{a b:Nat},C.r a b->b<D->ρ.r a b:=λ{a b} h f=>(q.kept.new h).elim id λh=>by
  have:w.heap.size<=b:=h.2;omega
 have hd:C.dim=ρ.dim/\C.al=ρ.al:=⟨q.le.dim.symm,q.le.al.symm⟩;have aJ:C.lax=ρ.lax:=q.le.lax.symm;have aN:∀{i:Nat} {P:Addr} {n m:Nat},i<(T0F Y).size->(T0F Y).getD i undef=.slice (some P) n m->Rgd ⟨R,c,ρ,w,y,ys⟩ P.block->∃b,ρ.r b P.block:=λ{i P n m} I e h=>h.elim id λh=>by
  have f:=anS (vd I);rw[e] at f;simp only[mxV,mxA] at f;have h':w.heap.size<=P.block:=h;omega
 refine⟨M,A,n,cc,l,A2,E,c2,di,c1,⟨s0,k1,k2,s1,aZ,aS,hl,hp.cells U,λi x hx P b0 m0 e0 hA jG=> ?_,s2,b5,bZ,bw,cr,λi nm I=> ?_,λg bW=> ?_,λP ad=> ?_,λP ad=> ?_⟩,cn,q.will,λb K f b3=>⟨(q.kept.poi f b3).1,λi u hu ca=>((q.kept.poi f b3).2 i u hu ca).1⟩,λwr S W cs bT bS c7 cz cB af cq cy aO bx=> ?_⟩
 .-- an item's row
  subst hA;obtain⟨⟨a1,B,c3,f1,f2,f3,f4,f5,f6,f7⟩, -⟩:=hp i x hx;cases f1;rw[mc] at f3;rw[<-U,f3] at jG;cases jG;obtain⟨z,hz⟩:∃z,x.2[0]?=some z:=⟨_,li (by omega)⟩;obtain⟨⟨a2,ci,bz, -⟩, -⟩:=f7 0 z hz;cases ci;have a5:=fT bz;rw[rm] at a5;have I:i<n:=by rw[<-hl];exact(mp.1 hx).1
  rcases hR i I P b0 _ _ rfl f3 with h|h
  .exact h
  .have h':w.heap.size<=b0.block:=h;omega
 .obtain⟨P,f1,f2,f3⟩:=bk i nm I;exact⟨P,f1,(U _).symm.trans f2,f3⟩
 .have:=jt.1 ayD g bW;simp only[qN,mw] at this;rcases this with rfl|rfl
  .exact kW ((U _).symm.trans bt)
  .exact kW ((U _).symm.trans ck)
 .subst ad;exact aN (by omega) s1 (bP P rfl)
 .subst ad;exact aN (by omega) s2 (cj P rfl)
 have cu:w'.heap.size<=w.heap.size:=by omega
 have cv:w.heap.size<w3.heap.size:=J.lt
 let p:Ren:={
  r:=λa b=>ρ.r a b\/(b=S/\C.r a w.heap.size)\/(b=W/\C.r a w3.heap.size)
  lax:=ρ.lax
  dim:=ρ.dim
  al:=ρ.al
  fn:=λ{a b d} h k=>by
   rcases h with h|⟨rfl,h⟩|⟨rfl,h⟩<;>rcases k with k|⟨rfl,k⟩|⟨rfl,k⟩
   .exact ρ.fn h k
   .have:=C.fn (q.le.r h) k;have:=(F.lt h).2;omega
   .have:=C.fn (q.le.r h) k;have:=(F.lt h).2;omega
   .have:=C.fn (q.le.r k) h;have:=(F.lt k).2;omega
   .rfl
   .have:=C.fn h k;omega
   .have:=C.fn (q.le.r k) h;have:=(F.lt k).2;omega
   .have:=C.fn h k;omega
   .rfl
  inj:=λ{a b d} h k=>by
   rcases h with h|⟨rfl,h⟩|⟨rfl,h⟩<;>rcases k with k|⟨e,k⟩|⟨e,k⟩
   .exact ρ.inj h k
   .have:=(F.lt h).2;omega
   .have:=(F.lt h).2;omega
   .have:=(F.lt k).2;omega
   .exact C.inj h k
   .exact absurd e af
   .have:=(F.lt k).2;omega
   .exact absurd e.symm af
   .exact C.inj h k
  kq:=λ{a b} h=>by
   have:=F.kq.2;rcases h with h|⟨rfl,h⟩|⟨rfl,h⟩
   .exact ρ.kq h
   .have:=C.kq h;omega
   .have:=C.kq h;omega}
 have a4:ρ.Le p:=⟨.inl,rfl,rfl,rfl⟩;have down:∀{u v:Value},VR C u v->mxV v<=D->VR p u v:=λh f=>(VR.down hd H h f).mono a4;have aM:∀{u:Value},VR C u (.slice (some ⟨w.heap.size,0,none⟩) E E)->VR p u (.slice (some ⟨S,0,none⟩) E E):=λ{u} h=>by
  cases h with
  |slice hA=>cases hA with
   |some hA=>cases hA with
    |mk h o s=>exact .slice (.some (.mk (Or.inr (Or.inl ⟨rfl,h⟩)) 0 none)) _ _
  |fj hl _=>exact .fj (hd.1▸hl) rfl
 have c6:∀{u:Value},VR C u (.pointer (some ⟨w3.heap.size,0,none⟩))->VR p u (.pointer (some ⟨W,0,none⟩)):=λ{u} h=>by
  cases h with
  |pointer hA=>cases hA with
   |some hA=>cases hA with
    |mk h o s=>exact .pointer (.some (.mk (Or.inr (Or.inr ⟨rfl,h⟩)) 0 none))
  |fj hl _=>exact .fj (hd.1▸hl) rfl
 have zr:∀{n:Nat} {z z':Nat×Nat},ZR C n z z'->ZR p n z z':=λh=>by
  unfold ZR at h ⊢;rw[aJ] at h;exact h
 have bl:b7=cs:=by
  apply su;intro i;rcases oR i (2*E) with I|I
  .obtain⟨j,hj⟩:∃j,i=2*j\/i=2*j+1:=⟨i / 2,by omega⟩;obtain⟨nm,a0⟩:∃nm,di[j]?=some nm:=⟨_,li (by omega)⟩;have b1:=bO j (Z M l nm) (by rw[qD,a0];rfl);have b2:=aO j nm a0;rcases hj with rfl|rfl
   .rw[b1.1,b2.1]
   .rw[b1.2,b2.2]
  .rw[pZ (by omega),pZ (by omega)]
 refine⟨p,(T4.setIfInBounds 17 (.slice (some ⟨S,0,none⟩) E E)).setIfInBounds 8 (.pointer (some ⟨W,0,none⟩)),a4, ?_,⟨λ{b K} f=> ?_, ?_, ?_, ?_⟩, ?_,by simpa using ao,λi I=> ?_, ?_, ?_, ?_, ?_,λi I=> ?_⟩
 .-- frames
  rw[ay];refine .cons ⟨V.fn, ?_, ?_, ?_,V.mode,V.kind, ?_⟩ ((ik.down hd H q.le (e1▸a8) ch bL).mono a4)
  .refine amn (by simp only[Array.size_setIfInBounds];exact bQ.size V.tmps) λi u v hu G=> ?_;by_cases i8:i=8
   .subst i8;rw[pv (by simp;omega)] at G;cases G;exact c6 (cU.at V.tmps hu (by rw[<-s8];exact vd (by show 8<T4.size;omega)))
   rw[ip (λe=>i8 e.symm)] at G;by_cases a7:i=17
   .subst a7;rw[pv (by omega)] at G;cases G;exact aM (cU.at V.tmps hu (by rw[<-bA];exact vd (by show 17<T4.size;omega)))
   rw[ip (λe=>a7 e.symm)] at G;have N:VR C u v:=cU.at V.tmps hu G;have L:=anQ G;cases a3:cK.contains i with
   |true=>
    rw[c9 i a3] at L;subst L;exact down N (by simp only[mxV];omega)
   |false=>
    by_cases i6:i=6
    .subst i6;rw[t6] at L;subst L;exact down N (by simp only[mxV,mxA];omega)
    by_cases i7:i=7
    .subst i7;rw[t7] at L;subst L;exact down N (by simp only[mxV];omega)
    have co:(T0F Y).getD i undef=v:=by
     rw[<-L];exact(g1 i (by simp only[mH,te,a3];simp[i6,i7]) a3 (by simp only[te,a3];simp[i8,a7])).symm
    have aa:(T0F Y)[i]?=some v:=by
     have a5:i<(T0F Y).size:=by rw[<-ao];exact(de.1 G).1
     rw[<-co];exact vd a5
    exact down N (bd (anS aa) cp)
  .have ht:=V.todo;generalize x.todo=td at ht ⊢;cases ht with
   |cons T O=>cases T;cases O;exact .cons (.code _) .nil
  .have ht:=V.defers;generalize x.defers=td at ht ⊢;cases ht;exact .nil
  .have ht:=V.round;generalize x.roundOf=td at ht ⊢;cases ht;exact .none
 .-- objects
  rcases f with f|⟨rfl,f⟩|⟨rfl,f⟩
  .obtain⟨o,o',T,O,X⟩:=q.wr.obj (q.le.r f);obtain⟨u,u',k1,k2,k3⟩:=F.obj f;have e:=cb K (F.lt f).2;rw[O,k2] at e;cases e;exact⟨o,o',T,(bT _ _ f).trans k2,(OR.down hd H aJ q.le k3 X (bd (anP (i:=K) (by rw[dl];exact k2)) ba)).mono a4⟩
  .obtain⟨o,o',T,O,X⟩:=q.wr.obj f;rw[a6] at O;cases O;cases X with
   |@cells cl _ jG _ z _ a9=>
    refine⟨_,_,T,cq, ?_⟩;subst bl;refine .cells (amn (by simpa using jG.length) λi u v hu G=> ?_) _ (zr a9);have N:=cU.at jG hu G;obtain⟨j,hj⟩:∃j,i=2*j\/i=2*j+1:=⟨i / 2,by omega⟩;have I:=(de.1 G).1;obtain⟨nm,a0⟩:∃nm,di[j]?=some nm:=⟨_,li (by omega)⟩;have b2:=aO j nm a0;rcases hj with rfl|rfl
    .rw[b2.1] at G;cases G;exact down N (by simp only[mxV];omega)
    .rw[b2.2] at G;cases G;exact down N (by simp only[mxV];omega)
  .obtain⟨o,o',T,O,X⟩:=q.wr.obj f;rw[cm] at O;cases O;cases X with
   |@cells cl _ jG _ z _ a9=>
    refine⟨_,_,T,bx,.cells (amn (by simpa using jG.length) λi u v hu G=> ?_) _ (zr a9)⟩;have I:=(de.1 G).1;have aa:i=0:=by simpa using I
    subst aa;cases G;exact aM (cU.at jG hu rfl)
 .exact q.kept.os.1.trans (F.os.trans bS.symm)
 .exact bd F.kq.1 q.kept.size
 .exact bd F.kq.2 c7
 .rintro b K (h|⟨rfl,_⟩|⟨rfl,_⟩)
  .exact .inl h
  .exact .inr (.inl rfl)
  .exact .inr (.inr rfl)
 .rw[aD (by simp;omega),be (by omega),aD (by omega),be (by omega)];have:i=0\/i=1\/i=2:=by omega
  rcases this with rfl|rfl|rfl
  .exact g1 0 rfl rfl rfl
  .exact g1 1 rfl rfl rfl
  .exact g1 2 rfl rfl rfl
 .rw[aD (by simp;omega),be (by decide),aD (by omega),be (by decide)];exact t6
 .rw[aD (by simp;omega),be (by decide),aD (by omega),be (by decide)];exact t7
 .rw[aD (by simp;omega),dk rfl]
 .rw[aD (by simp;omega),be (by decide),aD (by omega),dk rfl]
 .obtain⟨i1,i2,i3,i4,i5⟩:=asF I;have e:((T4.setIfInBounds 17 (.slice (some ⟨S,0,none⟩) E E)).setIfInBounds 8 (.pointer (some ⟨W,0,none⟩))).getD i undef=T4.getD i undef:=by
   rw[aD (by simp;omega),be i4,aD (by omega),be i5]
  exact e.trans (g1 i i1 i2 i3)
end
section
open Go Go.Conc Go.ConcN Go.RowKit
def plV(V:Nat->Prop):Value->Prop
 |.int k _=>k ≠ .u8
 |.string _=>True
 |.slice (some a) _ _=>V a.block
 |_=>False
def asI:Value->Bool
 |.func (.method _) _ _=>true
 |_=>false
mutual
def afp:Value->List Value
 |.agg ⟨l⟩=>pq l
 |.tuple ⟨l⟩=>pq l
 |v=>if asI v then[v] else[]
def pq:List Value->List Value
 |[]=>[]
 |v::l=>afp v++pq l
end
def agA:∀{l:List Value} {i:Nat} {v x:Value},l[i]?=some v->x∈afp v->x∈pq l
 |[],i,v,x,h,_=>by simp at h
 |y::l,0,v,x,h,hx=>by simp at h;subst h;simp only[pq];exact rH _ hx
 |y::l,i+1,v,x,h,hx=>by simp only[pq];exact ry _ (agA (i:=i) (by simpa using h) hx)
def aA1:Obj->List Value
 |.cells c _ _=>pq c.toList
 |_=>[]
def eK(w:World):List Value:=w.heap.toList.flatMap aA1
def agB{c:Array Value}{x : Value}(a:w.heap[b]?=some (.cells c t z))(hi:c[i]?=some v)(d:x∈afp v):x∈eK w:=
 qa.2 ⟨.cells c t z,da (i:=b) (by rw[dl];exact a),by
  show x∈pq c.toList;exact agA (i:=i) (by rw[dl];exact hi) d⟩
section
variable {ρ:Ren} (hl:ρ.dim=true)
include hl
mutual
theorem ayG:∀(v:Value),(∀x∈afp v,∃k,ρ.al k=some x)->∃u,VR ρ u v/\(∀k,u ≠ .int .u8 k)/\(ad4 u\/∀(g:Ren) d,g.al=ρ.al->VR g u d->d=v)
 |.bool b,_=>⟨_,.bool b,(λk e=>by cases e),.inr λg d _ h=>by cases h;rfl⟩
 |.int k n,_=>⟨_,.fj hl rfl,(λk e=>by cases e),.inl (.inl ⟨_,rfl⟩)⟩
 |.float k n,_=>⟨_,.fj hl rfl,(λk e=>by cases e),.inl (.inl ⟨_,rfl⟩)⟩
 |.complex k n m,_=>⟨_,.fj hl rfl,(λk e=>by cases e),.inl (.inl ⟨_,rfl⟩)⟩
 |.string s,_=>⟨_,.string s,(λk e=>by cases e),.inr λg d _ h=>by cases h;rfl⟩
 |.pointer none,_=>⟨_,.pointer .none,(λk e=>by cases e),.inr λg d _ h=>by cases h with|pointer h=>cases h;rfl⟩
 |.pointer (some a),_=>⟨_,.fj hl rfl,(λk e=>by cases e),.inl (.inl ⟨_,rfl⟩)⟩
 |.slice a l c,_=>⟨_,.fj hl rfl,(λk e=>by cases e),.inl (.inl ⟨_,rfl⟩)⟩
 |.map a,_=>⟨_,.fj hl rfl,(λk e=>by cases e),.inl (.inl ⟨_,rfl⟩)⟩
 |.chan a,_=>⟨_,.fj hl rfl,(λk e=>by cases e),.inl (.inl ⟨_,rfl⟩)⟩
 |.func (.func f) a c,_=>⟨_,.fj hl rfl,(λk e=>by cases e),.inl (.inl ⟨_,rfl⟩)⟩
 |.func (.methodOf t f) a c,_=>⟨_,.fj hl rfl,(λk e=>by cases e),.inl (.inl ⟨_,rfl⟩)⟩
 |.func (.via t p f q) a c,_=>⟨_,.fj hl rfl,(λk e=>by cases e),.inl (.inl ⟨_,rfl⟩)⟩
 |.func (.yield f) a c,_=>⟨_,.fj hl rfl,(λk e=>by cases e),.inl (.inl ⟨_,rfl⟩)⟩
 |.func (.method n) a c,hm=>by
  obtain⟨k,z⟩:=hm (.func (.method n) a c) (by simp[afp,asI]);refine⟨_,.aa8 k z,(λk e=>by cases e),.inr λg d B h=> ?_⟩;generalize i:an3 k=u at h;cases h with
  |aa8 D j=>
   have e:k=D:=by
    unfold an3 at i;injection i with _ _ A
    have:=fi Array.size A;simpa using this
   subst e;rw[B,z] at j;exact(dq j).symm
  |func o _ _=>
   unfold an3 at i;injection i with C _ _
   subst C;cases o with
   |same f o=>cases o
  |_=>unfold an3 at i;cases i
 |.nilFunc,_=>⟨_,.nilFunc,(λk e=>by cases e),.inr λg d _ h=>by cases h;rfl⟩
 |.iface t v,_=>⟨_,.fj hl rfl,(λk e=>by cases e),.inl (.inl ⟨_,rfl⟩)⟩
 |.nilIface,_=>⟨_,.nilIface,(λk e=>by cases e),.inr λg d _ h=>by cases h;rfl⟩
 |.agg ⟨l⟩,hm=>by
  obtain⟨r,y⟩:=ayH l λx w=>hm x (by simpa only[afp] using w);exact⟨.agg ⟨r⟩,.agg y,(λk e=>by cases e),.inl (.inr ⟨_,rfl⟩)⟩
 |.tuple ⟨l⟩,hm=>by
  obtain⟨r,y⟩:=ayH l λx w=>hm x (by simpa only[afp] using w);exact⟨.tuple ⟨r⟩,.tuple y,(λk e=>by cases e),.inl (.inl ⟨_,rfl⟩)⟩
theorem ayH:∀(l:List Value),(∀x∈pq l,∃k,ρ.al k=some x)->∃a,bQ ρ a l
 |[],_=>⟨[],.nil⟩
 |v::l,hm=>by
  obtain⟨x,c,_⟩:=ayG v λx b=>hm x (by simp only[pq];exact rH _ b);obtain⟨a,d⟩:=ayH l λx b=>hm x (by simp only[pq];exact ry _ b);exact⟨x::a,.cons c d⟩
end
end
def ajT(L:List Value)(k:Nat):Option Value:=L[k]?
def ajU{L:List Value}{x:Value}(h:x∈L):∃k,ajT L k=some x:=by
 obtain⟨k,a,e⟩:=vT.1 h;exact⟨k,by unfold ajT;rw[li a,e]⟩
def amp{ρ:Ren}{Q:Nat->Value->Value->Prop}:∀(l:List Value) (j:Nat),(∀i v,l[i]?=some v->∃u,VR ρ u v/\Q (j+i) u v)->∃d,bQ ρ d l/\∀i v,l[i]?=some v->∃u,d[i]?=some u/\Q (j+i) u v
 |[],_,_=>⟨[],.nil,λi v h=>by simp at h⟩
 |v::l,j,h=>by
  obtain⟨u,m,e⟩:=h 0 v rfl;obtain⟨d,f,k⟩:=amp l (j+1) λi x c=>by
   obtain⟨u,a,b⟩:=h (i+1) x (by simpa using c);exact⟨u,a,by rwa [show j+1+i=j+(i+1) by omega]⟩
  refine⟨u::d,.cons m f,λi x c=> ?_⟩;cases i with
  |zero=>simp at c;subst c;exact⟨u,rfl,e⟩
  |succ i=>
   obtain⟨g,a,b⟩:=k i x (by simpa using c);exact⟨g,by simpa using a,by rwa [show j+1+i=j+(i+1) by omega] at b⟩
def Ren.rows(V:Nat->Prop)(lax:Bool)(L:List Value):Ren where
 r a b:=a=b/\V a
 lax:=lax
 dim:=true
 al:=ajT L
 fn:=λh k=>h.1.symm.trans k.1
 inj:=λh k=>h.1.trans k.1.symm
 kq:=λh=>by rw[h.1]
def awL{V:Nat->Prop}(w:World)(F:∀b,V b->Obj):∃a:Array Obj,a.size=w.heap.size/\(∀b (h:V b),b<w.heap.size->a[b]?=some (F b h))/\∀b,¬V b->a[b]?=w.heap[b]?:=by
 classical
 refine⟨Array.ofFn λi:Fin w.heap.size=>if h:V i.1 then F i.1 h else w.heap[i],by simp,λb h c=> ?_,λb h=> ?_⟩
 .rw[vZ,tu c];simp only[tu h]
 .rw[vZ];by_cases c:b<w.heap.size
  .rw[tu c,fm c];simp only[dif_neg h];rfl
  .rw[dif_neg c,pZ (by omega)]
theorem mask{w:World}{V:Nat->Prop}(hV:∀b,V b->dU w b)(hg:∀g∈gL,V g)(hN:gN<=w.heap.size) :
  ∃wL:World,WR (Ren.rows V true (eK w)) wL w/\GlR (Ren.rows V true (eK w))/\wL.heap.size=w.heap.size/\(∀b,V b->bB wL b/\NoB wL b)/\∀A v,w.cell? A=some v->V A.block->plV V v->wL.cell? A=some v:=by
 classical
 have row:∀b,V b->∃(c:Array Value) (t:TypeId) (z:Nat×Nat) (xs:List Value),w.heap[b]?=some (.cells c t z)/\bQ (Ren.rows V true (eK w)) xs c.toList/\∀(i:Nat) v,c.toList[i]?=some v->∃u,xs[i]?=some u/\((∀k,u ≠ .int .u8 k)/\(plV V v->u=v)):=λb hb=>by
  obtain⟨c,t,z,hc⟩:=hV b hb;obtain⟨xs,h1,h2⟩:=amp (ρ:=Ren.rows V true (eK w)) (Q:=λ_ u v=>(∀k,u ≠ .int .u8 k)/\(plV V v->u=v)) c.toList 0 λi v hi=>by
   by_cases hp:plV V v
   .cases v with
    |int k n=>exact⟨_,.int k n,(λk' e=>by cases e;exact hp rfl),λ_=>rfl⟩
    |string s=>exact⟨_,.string s,(λk e=>by cases e),λ_=>rfl⟩
    |slice a l c=>cases a with
     |none=>exact hp.elim
     |some a=>
      obtain⟨b,o,s⟩:=a;have hr:(Ren.rows V true (eK w)).r b b:=⟨rfl,hp⟩;exact⟨_,.slice (.some (.mk hr o s)) l c,(λk e=>by cases e),λ_=>rfl⟩
    |_=>exact hp.elim
   .obtain⟨u,h1,h2, -⟩:=ayG (ρ:=Ren.rows V true (eK w)) rfl v λx hx=>ajU (agB hc (i:=i) (by rw[<-dl];exact hi) hx);exact⟨u,h1,h2,λh=>absurd h hp⟩
  exact⟨c,t,z,xs,hc,h1,h2⟩
 let F:∀b,V b->Obj:=λb hb=>.cells ⟨(row b hb).choose_spec.choose_spec.choose_spec.choose⟩ (row b hb).choose_spec.choose (0,max ((row b hb).choose.size+1) (row b hb).choose_spec.choose_spec.choose.2)
 have hF:∀b (hb:V b),∃(c:Array Value) (t:TypeId) (z:Nat×Nat) (xs:List Value),w.heap[b]?=some (.cells c t z)/\bQ (Ren.rows V true (eK w)) xs c.toList/\(∀(i:Nat) v,c.toList[i]?=some v->∃u,xs[i]?=some u/\((∀k,u ≠ .int .u8 k)/\(plV V v->u=v)))/\F b hb=.cells ⟨xs⟩ t (0,max (c.size+1) z.2):=λb hb=>
  let h:=(row b hb).choose_spec.choose_spec.choose_spec.choose_spec
  ⟨_,_,_,_,h.1,h.2.1,h.2.2,rfl⟩
 obtain⟨heap,hs,h1,h2⟩:=awL w F;have aaP:∀b,V b->∃(c:Array Value) (t:TypeId) (z:Nat×Nat) (xs:List Value),w.heap[b]?=some (.cells c t z)/\heap[b]?=some (.cells ⟨xs⟩ t (0,max (c.size+1) z.2))/\bQ (Ren.rows V true (eK w)) xs c.toList/\∀(i:Nat) v,c.toList[i]?=some v->∃u,xs[i]?=some u/\((∀k,u ≠ .int .u8 k)/\(plV V v->u=v)):=λb hb=>by
  obtain⟨c,t,z,xs,k1,k2,k3,k4⟩:=hF b hb;exact⟨c,t,z,xs,k1,(h1 b hb (de.1 k1).1).trans (fi some k4),k2,k3⟩
 refine⟨{w with heap},⟨λ{b b'} hb=> ?_,rfl,by show gN<=heap.size;omega,hN⟩,λg lv=>⟨rfl,hg g lv⟩,hs,λb hb=> ?_,λA v hc hA hp=> ?_⟩
 .obtain⟨rfl,hb⟩:=hb;obtain⟨c,t,z,xs,k1,k2,k3, -⟩:=aaP b hb;have hlen:=k3.length;refine⟨_,_,k2,k1,.cells k3 t (.inr ⟨rfl,rfl, ?_,.inr ?_⟩)⟩
  .show xs.length<max _ _;simp at hlen;omega
  .show z.2<=max _ _;omega
 .obtain⟨c,t,z,xs,k1,k2,k3,k4⟩:=aaP b hb;have hlen:=k3.length;simp at hlen;refine⟨⟨_,_,_,k2,rfl, ?_, ?_⟩,λc' t' z' hc' i k e=> ?_⟩
  .show xs.length<=max _ _;omega
  .show 0<max _ _;omega
  .have:heap[b]?=some (.cells c' t' z'):=hc';rw[k2] at this;cases this;have hi:i<c.toList.length:=by
    have:=(de.1 e).1;simp at this ⊢;omega
   obtain⟨u,q1,q2, -⟩:=k4 i _ (li hi);have e':xs[i]?=some (.int .u8 k):=by simpa using e
   rw[q1] at e';exact q2 k (dq e')
 .obtain⟨c,t,z,xs,k1,k2,k3,k4⟩:=aaP A.block hA;have k2':({w with heap}:World).heap[A.block]?=some (.cells ⟨xs⟩ t (0,max (c.size+1) z.2)):=k2;unfold World.cell? at hc ⊢;rw[k2'];rw[k1] at hc;cases hsp:A.spot with
  |some s=>simp[hsp] at hc
  |none=>
   simp[hsp] at hc ⊢;obtain⟨u,q1, -,q2⟩:=k4 A.off v (by rw[dl];exact hc);rw[q1,q2 hp]
end
section
open Go Go.Conc Go.ConcN Go.RowKit
def pw(Rr:ak)(S S':ak)(w w':World)(es:Array Event):Prop:=
 (∀b,b<w.heap.size->¬S b->w'.heap[b]?=w.heap[b]?)/\w.heap.size<=w'.heap.size/\w'.ou=w.ou/\S'=(λb=>S b\/(w.heap.size<=b/\b<w'.heap.size))/\∀e∈es,my S' Rr w'.heap.size e
structure px (Rl:ak->World->World->Prop) (Rr:ak):Prop where
 fu:∀S w,Rl S w w
 tr:∀S a b c,Rl S a b->Rl S b c->Rl S a c
 rl:∀S w w1,Rl S w w1->(∀b,S b\/Rr b->w1.heap[b]?=w.heap[b]?)/\w.heap.size<=w1.heap.size/\w1.ou=w.ou
def px.cmp{Rl:ak->World->World->Prop}(h:px Rl Rr):Cmp Rl (pw Rr) Rr:=⟨h.fu,h.tr,h.rl,λ_ _ _ _ a b c d=>⟨a,b,c,rfl,d⟩⟩
section
variable {P:Program} {main:Bool} {Rl:ak->World->World->Prop} {Gr Gr2:ak->ak->World->World->Array Event->Prop} {Stop agC:ak->Goroutine->World->Prop} {Inv:ak->World->Prop}
def pT.inv(i:∀S w a,Inv S w->Rl S w a->Inv S a)(k:∀S d w c e,Inv S w->Gr S d w c e->Gr2 S d w c e/\Inv d c)(j:∀S g w,Stop S g w->Inv S w->agC S g w):∀{T:jg} {S:ak} {g:Goroutine} {w:World},pT P main Rl Gr Stop T S g w->Inv S w->pT P main Rl Gr2 agC T S g w
 |.leaf,_,_,_,h,hi=>λa b=>j _ _ _ (h a b) (i _ _ _ hi b)
 |.node f,_,_,_,h,hi=>Or.imp (λh a b=>j _ _ _ (h a b) (i _ _ _ hi b)) (λx=>⟨x.1,λa b=>
   let⟨q,c,e,d,o,l,m⟩:=x.2 a b
   let⟨n,p⟩:=k _ _ _ _ _ (i _ _ _ hi b) l
   ⟨q,c,e,d,o,n,pT.inv i k j m p⟩⟩) h
def bD.inv(f:∀S w c,Inv S w->Rl S w c->Inv S c)(i:∀S a w b d,Inv S w->Gr S a w b d->Gr2 S a w b d/\Inv a b)(e:∀S g w,Stop S g w->Inv S w->agC S g w)(h:bD P main Rl Gr Stop S g w)(hi:Inv S w):bD P main Rl Gr2 agC S g w:=
 let⟨T,h⟩:=h;⟨T,pT.inv f i e h hi⟩
end
def amq   :(Frame.enter P f a .normal).mode=.run:=by
 unfold Frame.enter;cases P.funcs[f]?<;>rfl
def apI{c:Cfg}{m:List Frame}(q:jK (ah false) R c)(i:c.l=Frame.enter (ah false) cx a .normal::m):False:=by
 obtain⟨n,t,s,d,f, -⟩:=q c.t λ_ _ _=>rfl;have b:c.l≠[]:=by rw[i];simp
 cases n with
 |zero=>
  simp only[runN,qF] at d;obtain⟨e, -⟩:=gC d;obtain rfl:=mO b f.ne e;obtain⟨u,l,p, -⟩:=f;rw[i] at l;cases l;rw[amq] at p;cases p
 |succ n=>
  unfold runN at d;have r:Frame.enter (ah false) cx a .normal=⟨cx,T0F a,[.code (.refuse "")],[],.run,.normal,none⟩:=by
   have f:(ah false).funcs[cx]?=some (qFA false):=acs false;unfold Frame.enter;rw[f];rfl
  have g:∃o j k,stepG (ah false) true (Gl c.l [jJ (ah false)]) (c.w.dw c.t)=.ended o j k:=by
   rw[i,r];simp only[Gl,stepG,stepG.exec];exact⟨_,_,_,rfl⟩
  obtain⟨o,j,k,g⟩:=g;rw[cA (iR b _) g] at d;cases d
def aA2:jR (λ_=>false) (f151.body.getD .skip)=false:=by kernel_rfl
def aA3:jR (λ_=>false) (f41.body.getD .skip)=false:=by kernel_rfl
def adp{fn:Func}(h:prog.funcs[f]?=some fn)(b:fn.body.isSome=true)(a:Array Value):(Frame.enter prog f a .normal).todo=[.code (fn.body.getD .skip)]:=by
 unfold Frame.enter;rw[h];obtain⟨c,d⟩:=rz.1 b;simp[d]
def awM(d:jR U (f151.body.getD .skip)=false)(c:jR U (f41.body.getD .skip)=false):∀f,gH f=true->∀a,(Frame.enter prog f a .normal).todo.all (lF U)=false:=λf b a=>by
 rcases wX b with rfl|rfl
 .rw[adp func41 amX];simp only[qr,vm,uq,lF];exact c
 .rw[adp func151 amW];simp only[qr,vm,uq,lF];exact d
def ah1:gH 74=false:=by unfold gH;kernel_rfl
def ajV{A:Addr}{c:Array Value}(h:w.heap[A.block]?=some (.cells c t z))(a:w.cell? A=some v):c[A.off]?=some v:=by
 unfold World.cell? at a;rw[h] at a;cases b:A.spot with
 |some s=>simp[b] at a
 |none=>simpa[b] using a
def RgP(Rg:Nat->Prop)(w:World)(A:Option Addr)(l:List ij):Prop:=∀i x,l[i]?=some x->∀a b m e,A=some a->w.cell? ((a.add (i*2)).add 1)=some (.slice (some b) m e)->Rg b.block
def RgP.move(h:RgP Rg w A l)(j:∀a,A=some a->Rg a.block)(d:∀b,Rg b->w'.heap[b]?=w.heap[b]?):RgP Rg w' A l:=λi x f a b m e c g=>
 h i x f a b m e c ((fR (by rw[rm,rm];exact d _ (j a c))).symm.trans g)
def RdP.mask    (h:RdP w A 0 l) (C:RgP Rg w A l) (q:∀a,A=some a->Rg a.block)
  (f:∀A v,w.cell? A=some v->Rg A.block->plV (λb=>Rg b/\dU w b) v->w'.cell? A=some v):RdP w' A 0 l:=λi x r=>by
 obtain⟨⟨a,B,c,g,u,n,D,E,H,p⟩,F⟩:=h i x r;have o:∀b,B=some b->Rg b.block:=λb z=>by
  subst z;rw[mc] at n;exact C i x r a b _ _ g n
 have k:∀j y,x.2[j]?=some y->ahP w' B (0+j) y:=λj y I=>by
  obtain⟨⟨b,e,m,s⟩,J,t⟩:=p j y I;exact⟨⟨b,e,f _ _ m (by rw[rm];exact o b e) (by show IntKind.i64 ≠ .u8;decide),f _ _ s (by rw[rm,rm];exact o b e) trivial⟩,J,t⟩
 refine⟨⟨a,B,c,g,f _ _ u (by rw[rm];exact q a g) (by show IntKind.i64 ≠ .u8;decide),f _ _ n (by rw[rm,rm];exact q a g) ?_,D,E,H,k⟩,F⟩;obtain⟨y,G⟩:∃y,x.2[0]?=some y:=⟨_,li (by omega)⟩;obtain⟨⟨b,e,m,s⟩, -⟩:=p 0 y G;subst e;have d:=kW m;rw[rm] at d;exact⟨o b rfl,d⟩
end
section
open Go Go.Conc Go.ConcN Go.RowKit
def adq   :(Frame.enter P f a .normal).roundOf=none:=by
 unfold Frame.enter;cases P.funcs[f]?<;>rfl
def apJ{b:Bool}{v':Value}(h:VR ρ (.agg #[.string s,.bool b]) v'):v'=.agg #[.string s,.bool b]:=by
 cases h with
 |@agg c e h=>
  obtain⟨l⟩:=e;change bQ ρ [.string s,.bool b] l at h;cases h with
  |cons f a=>
   cases f;cases a with
   |cons g d=>cases g;cases d;rfl
def asJ (hF:dX Z)  (hN:gN<=w.heap.size) (I:∀g∈gL,Rg g/\dU w g)    {nm:Int}
  (k1:1<=key) (k2:key<=99) (hl:l.length=n) (x:n<=c) (C:(c:Int)<=9223372036854775807) (q:RdP w A 0 l) (M:RgP Rg w A l) (hA:∀a,A=some a->Rg a.block) (hn:0<n) (G:In_ nm)
  {Rl:ak->World->World->Prop} (d:px Rl Rr) (hR:∀b,(Rg b/\dU w b)->Rr b) {cfr:Frame} {cs:List Frame} :
  bD prog main Rl (pw Rr) (λ_ g _=>g=⟨cfr.finish (.agg #[.string (Z key l nm).1,.bool (Z key l nm).2]),cs,.running,none,none⟩) S
   (Gl (Frame.enter prog 74 #[.int .i64 key,.slice A n c,.int .i64 nm] .normal::[]) (cfr::cs)) w:=by
 obtain⟨j,Y,W,h3,h4,h5⟩:=mask (V:=λb=>Rg b/\dU w b) (λb h=>h.2) I hN;have L:=q.mask M hA λA v x P hp=>h5 A v x ⟨P,kW x⟩ hp;obtain⟨y,hy⟩:∃y,l[0]?=some y:=⟨_,li (by omega)⟩;obtain⟨⟨a,_,_,e1,e2,_⟩,_⟩:=q 0 y hy;subst e1;have i:=kW e2;rw[rm] at i;have m:(Ren.rows (λb=>Rg b/\dU w b) true (eK w)).r a.block a.block:=⟨rfl,hA a rfl,i⟩;generalize Q:(Ren.rows (λb=>Rg b/\dU w b) true (eK w))=ρ at Y W m;have N:∀b r,ρ.r b r->Rr r/\bB j b/\NoB j b:=λb r u=>by
  subst Q;obtain⟨rfl,hV⟩:=u;exact⟨hR _ hV,h4 _ hV⟩
 have p:cU ρ #[.int .i64 key,.slice (some a) n c,.int .i64 nm] #[.int .i64 key,.slice (some a) n c,.int .i64 nm]:=by
  obtain⟨b,o,s⟩:=a;exact .cons (.int _ _) (.cons (.slice (.some (.mk m o s)) _ _) (.cons (.int _ _) .nil))
 have nH:∀t:Tape,Calls (ah false) 74 #[.int .i64 key,.slice (some a) n c,.int .i64 nm] (j.dw t) λe K=>∃v,e=.returned v/\v=.agg #[.string (Z key l nm).1,.bool (Z key l nm).2]:=λt=>by
  refine(hF false (j.dw t) key (some a) n c l nm k1 k2 hl x C (L.below λb u=>rfl) G).mono ?_;rintro e K ⟨v,rfl,hv, -⟩;exact⟨v,rfl,hv⟩
 generalize (#[.int .i64 key,.slice (some a) n c,.int .i64 nm]:Array Value)=args at p nH
 let R:List Frame->World->Prop:=λfs K=>∃B v,fs=[B]/\B.fn=74/\B.leaving (ah false) K (.returned v)/\v=.agg #[.string (Z key l nm).1,.bool (Z key l nm).2]
 have X:jK (ah false) R ⟨[Frame.enter (ah false) 74 args .normal],j,λ_ _=>0⟩:=aan (Post:=λv _=>v=.agg #[.string (Z key l nm).1,.bool (Z key l nm).2]) λt _=>nH t;have J:Acc (gZ (ah false)) ⟨[Frame.enter (ah false) 74 args .normal],j,λ_ _=>0⟩:=X.acc.transGen;have H:ajn (ah false) R Rr S ρ ⟨[Frame.enter (ah false) 74 args .normal],j,λ_ _=>0⟩ [Frame.enter prog 74 args .normal] w:=
  ⟨.one (agY (lu false) ah1 p) adq,Y,W,X,λb r u=>.inr (N b r u)⟩
 have E:=ajp (lu false) (awd false) d.fu d.tr d.rl d.cmp.gr (awM aA2 aA3) (agk d.cmp) (main:=main) (base:=cfr::cs) J H (.inl rfl);refine bD.bind d.fu d.tr E λS1 g w1 ⟨c1,ρ1,l',hor,hle,hS1,nT,aCV,aEs,hW1,oY,_,hend⟩=> ?_;subst nT;rcases hend with⟨hf,f⟩|⟨_,_,_,_,_,_,T,_⟩
 .obtain⟨_,_,y1,a0,_,e3⟩:=f.ne';obtain⟨B,k, -⟩:=id hf;have e4:=f.lone k e3;subst e4 e3;rw[k] at f;refine .step rfl λw2 P=> ?_;obtain⟨r1,r2,r3⟩:=d.rl _ _ _ P;have F:=aCV.rely oY r1 r2 r3;obtain⟨σ,v,v',w3,D,es,O,t,q1,q2,q3,q4,q5,q6,z,q8,q9⟩:=auK (lu false) (t0:=c1.t) (Post:=λv _=>v=.agg #[.string (Z key l nm).1,.bool (Z key l nm).2]) f F λt ht=>by
   obtain⟨cB,v,U,_,e6,e7⟩:=hW1.fin hf acx t ht;rw[k] at U;cases U;exact⟨v,e6,e7⟩
  refine⟨_,D,O,_,q9 main cfr cs,⟨ajo oY z,z.size',z.os.2,rfl,arL oY q6 z q8⟩,.stop λ_ _=> ?_⟩;subst q2;rw[apJ q5]
 .exact(apI hW1 T).elim
end
section
open Go Go.Conc Go.ConcN Go.RowKit
abbrev SN(S:ak)(w w':World):ak:=λb=>S b\/(w.heap.size<=b/\b<w'.heap.size)
section
variable {P:Program} {main:Bool} {Rl:ak->World->World->Prop} {St:ak->Goroutine->World->Prop} {S Rr:ak} {w0:World} {f:FuncId} {T:Array Value} {k:List Item} {xs base:List Frame}
def mC (H:px Rl Rr) {a:Array Oper} {rest:List Nat} {o:Oper} {d:Tmp} {ob:Obj} (l:d<T.size) (m:a[i]?=some o) (s:o.guard=none) (g:o.dst=some d)
  (p:∀w,(execOp (FQ f T (.inRegion a (i::rest)::k)).eval o).runT P w #[]=(.ok (.value (.pointer (some ⟨w.heap.size,0,none⟩))) (w.alloc ob),#[]))
  (u:∀w,Rl S w0 w->∀T':Array Value,T'.size=T.size->T'.getD d undef=.pointer (some ⟨w.heap.size,0,none⟩)->(∀t,t≠d->T'.getD t undef=T.getD t undef)->∀c,Rl (SN S w (w.alloc ob)) (w.alloc ob) c->bD P main Rl (pw Rr) St (SN S w (w.alloc ob)) (Gl (FQ f T' (.inRegion a rest::k)::xs) base) c) :
  ∀w,Rl S w0 w->bD P main Rl (pw Rr) St S (Gl (FQ f T (.inRegion a (i::rest)::k)::xs) base) w:=λw n=>by
 refine .step rfl λc j=> ?_;have x:=H.tr _ _ _ _ n j;refine⟨_,_,_,_,anC rfl rfl rfl rfl m s (p c),⟨λb r _=>se c _ b r,by rw[me];omega,rfl,rfl,λe v=>by cases(by simpa using sR v:False)⟩, ?_⟩;have:Frame.finish (FQ f T (.inRegion a (i::rest)::k)) (.pointer (some ⟨c.heap.size,0,none⟩))=FQ f (T.setIfInBounds d (.pointer (some ⟨c.heap.size,0,none⟩))) (.inRegion a rest::k):=by
  simp only[Frame.finish,m,qB,g]
 rw[this];exact u c x _ (by simp) (by rw[aD l,dk rfl]) (λt q=>by rw[aD l,be q]) _ (H.fu _ _)
end
section
variable {P:Program} (F:FaT P) {w:World} {e:Operand->Value} {x:Operand} {dst:Option Tmp} {ty:TypeId} {pos:String} {af:Array Edge} {gd:Option (Nat×Bool)}
include F
theorem ajW:(execOp e ⟨dst,.alloc 136,ty,pos,af,gd⟩).runT P w #[]=(.ok (.value (.pointer (some ⟨w.heap.size,0,none⟩))) (w.alloc (.cells #[.string ⟨#[]⟩,.bool false] 136)),#[]):=by
 obtain⟨i,b,d,c,a⟩:=F.adK;simp[execOp,Instr.alloc,zeroValue,typeInfo,b,a,newVar,newRow,Value.cells]
theorem asL{t:Tmp}(h:e (.tmp t)=.slice A n c):(execOp e ⟨dst,.call ⟨.builtin .len,#[.tmp t],#[23]⟩,ty,pos,af,gd⟩).runT P w #[]=(.ok (.value (.int .i64 n)) w,#[]):=by
 rw[oZ (s:=λv=>Builtin.len_ #[23] ty #[v]) λ_ v=>rfl,h];change Sem.runT P (Builtin.len_ #[23] ty #[.slice A n c] >>=λu=>pure (Next.value u)) w #[]=_;simp[Builtin.len_,lm F.u23,goInt]
omit F in
theorem asM{y:Operand}{a b:Int}(d:e x=.int .i64 a)(c:e y=.int .i64 b):(execOp e ⟨dst,.binOp .lss 3 x y 3,ty,pos,af,gd⟩).runT P w #[]=(.ok (.value (.bool (decide (a<b)))) w,#[]):=by
 have:execOp e ⟨dst,.binOp .lss 3 x y 3,ty,pos,af,gd⟩=(binOp .lss 3 (e x) (e y)).bind λv=>Sem.pure (.value v):=rfl;rw[this,d,c];rfl
omit F in
theorem asN:(prog.info? 9).map (·.size ==1)=some true/\(prog.info? 4).map (·.size ==1)=some true:=by
 constructor<;>kernel_rfl
omit F in
theorem ajX:(execOp e ⟨dst,.build 136 #[],ty,pos,af,gd⟩).runT prog w #[]=(.ok (.value (.agg #[.string ⟨#[]⟩,.bool false])) w,#[]):=by
 obtain⟨i,d,m,l,b⟩:=faT.adK;obtain⟨f,a,j⟩:=io.1 asN.1;obtain⟨k,c,g⟩:=io.1 asN.2;simp[execOp,Instr.build,zeroValue,typeInfo,d,b,lm underlying136,sizeOf,a,c,Instr.fill,Value.cells]
end
end
section
open Go Go.Conc Go.ConcN Go.RowKit
def avr(h:w'.heap.size=w.heap.size):SN S w w'=S:=by
 funext b
 show(S b\/(w.heap.size<=b/\b<w'.heap.size))=S b;rw[h];exact propext ⟨λx=>x.elim id λy=>absurd y.1 (by omega),.inl⟩
def aa7{A:Addr}{c : Value}(b:alX u=true)(g:w.cell? A=some c)(d:w.frozen? A=false){f:Type}(k:Sem f)(es:Array Event):(Sem.store .plain A u k).runT P w es=k.runT P (w.setCell A u) (es.push ⟨.cell A,true,false⟩):=by
 have a:(∀x,u ≠ .agg x)/\∀x,u ≠ .tuple x:=⟨λx e=>(by subst e;cases b),λx e=>(by subst e;cases b)⟩;rw[rX _ _ _ _ _ _ _ a.1 a.2];simp only[g,d,kw,qA];rfl
section
variable {P:Program} (F:FaT P) {w:World} {e:Operand->Value} {x y:Operand} {dst:Option Tmp} {ty:TypeId} {pos:String} {af:Array Edge} {gd:Option (Nat×Bool)}
include F
theorem agD{A:Addr}{u0 u1 c0 c1:Value}(m:alX u0=true)(q:alX u1=true)(o:e x=.pointer (some A))(l:e y=.agg #[u0,u1])(a:w.cell? A=some c0)(d:w.frozen? A=false)(f:w.cell? (A.add 1)=some c1)(b:w.frozen? (A.add 1)=false) :
  (execOp e ⟨dst,.store 136 x y,ty,pos,af,gd⟩).runT P w #[]=(.ok .skip ((w.setCell A u0).setCell (A.add 1) u1),#[⟨.cell A,true,false⟩,⟨.cell (A.add 1),true,false⟩]):=by
 obtain⟨i,n,r, -⟩:=F.adK;have g:(storeCells A [u0,u1] 0).runT P w #[]=(.ok () ((w.setCell A u0).setCell (A.add 1) u1),#[⟨.cell A,true,false⟩,⟨.cell (A.add 1),true,false⟩]):=by
  show(Sem.store .plain (A.add 0) u0 (Sem.store .plain (A.add 1) u1 (Sem.pure ()))).runT P w #[]=_;have j:A.add 0=A:=by unfold Addr.add;simp
  rw[j,aa7 m a d,aa7 q (c:=c1) (by rw[tM _ _ _ _ (λe=>ar6 e.symm)];exact f) (by rw[uw];exact b)];rfl
 have p:(storeCells A [u0,u1] 0).run P w=.ok () ((w.setCell A u0).setCell (A.add 1) u1):=by
  rw[<-rc _ _ _ #[]];exact fi Prod.fst g
 have k:(storeCells A [u0,u1] 0).events P w #[]=#[⟨.cell A,true,false⟩,⟨.cell (A.add 1),true,false⟩]:=fi Prod.snd g;simp[execOp,o,l,Instr.storeAt,Instr.sureAddr,storeVar,sizeOf,typeInfo,n,r,Value.cells,p,k]
theorem asO{A:Addr}{u0 u1:Value}{fn:Func}(c:fn.results=#[.cell 6 136])(m:T.getD 6 undef=.pointer (some A))(b:w.cell? A=some u0)(d:w.cell? (A.add 1)=some u1) :
  (results fn T).runT P w #[]=(.ok (.agg #[u0,u1]) w,#[⟨.cell A,false,false⟩,⟨.cell (A.add 1),false,false⟩]):=by
 obtain⟨i,k,p, -⟩:=F.adK;obtain⟨q,j⟩:=F.auV;have e:(loadCells A 2).runT P w #[]=(.ok #[u0,u1] w,#[⟨.cell A,false,false⟩,⟨.cell (A.add 1),false,false⟩]):=by
  show(Sem.load .plain (A.add 0) λo=>Sem.load .plain (A.add 1) λn=>Sem.pure #[o,n]).runT P w #[]=_;have f:A.add 0=A:=by unfold Addr.add;simp
  rw[f,Sem.runT];simp only[b];rw[Sem.runT];simp only[d];rfl
 have l:(loadCells A 2).run P w=.ok #[u0,u1] w:=by
  rw[<-rc _ _ _ #[]];exact fi Prod.fst e
 have g:(loadCells A 2).events P w #[]=#[⟨.cell A,false,false⟩,⟨.cell (A.add 1),false,false⟩]:=fi Prod.snd e;have a:T[6]?.getD undef=.pointer (some A):=by rw[<-ga];exact m
 simp[results,c,a,asAddr,loadVar,isAgg,lm j,sizeOf,typeInfo,k,p,l,g]
end
def avs{Rl:ak->World->World->Prop}(H:px Rl Rr){nm : Int}{cfr:Frame}{cs:List Frame} :
  bD prog main Rl (pw Rr) (λ_ g _=>g=⟨cfr.finish (.agg #[.string ⟨#[]⟩,.bool false]),cs,.running,none,none⟩) S
   (Gl (Frame.enter prog 74 #[.int .i64 key,.slice A 0 c,.int .i64 nm] .normal::[]) (cfr::cs)) w:=by
 have C:=H.cmp;have F:Frame.enter prog 74 #[.int .i64 key,.slice A 0 c,.int .i64 nm] .normal=FQ 74 (#[.int .i64 key,.slice A 0 c,.int .i64 nm]++Array.replicate 26 undef) [.code (f74.body.getD .skip)]:=by
  unfold Frame.enter;rw[func74];rfl
 rw[F];obtain⟨T,hT,j,U⟩:∃T:Array Value,T=#[.int .i64 key,.slice A 0 c,.int .i64 nm]++Array.replicate 26 undef/\29<=T.size/\T.getD 1 undef=.slice A 0 c:=⟨_,rfl,by simp,by rw[ga,rO (by simp)];rfl⟩;rw[<-hT];clear hT F;simp only[f74,qi];have key:∀y,Rl S w y->bD prog main Rl (pw Rr) (λ_ g _=>g=⟨cfr.finish (.agg #[.string ⟨#[]⟩,.bool false]),cs,.running,none,none⟩) S (Gl (FQ 74 T [.code (f74.body.getD .skip)]::[]) (cfr::cs)) y:=by
  simp only[f74,qi];refine dT C (fI C (l:=[0]) rfl (mC H (d:=6) (aE (by decide) j) rfl rfl rfl (λw=>ajW faT) λn cu T1 a k o=> ?_));replace U:=(o 1 (by decide)).trans U;replace j:=bd j (mu a.symm);clear o a;have hB:(n.alloc (.cells #[.string ⟨#[]⟩,.bool false] 136)).heap[n.heap.size]?=some (.cells #[.string ⟨#[]⟩,.bool false] 136 (0,0)):=by
   show(n.heap.push _)[n.heap.size]?=_;rw[qO]
  have s:SN S n (n.alloc (.cells #[.string ⟨#[]⟩,.bool false] 136)) n.heap.size:=.inr ⟨am _,by rw[me];omega⟩;have I:n.heap.size<(n.alloc (.cells #[.string ⟨#[]⟩,.bool false] 136)).heap.size:=by rw[me];omega
  generalize SN S n (n.alloc (.cells #[.string ⟨#[]⟩,.bool false] 136))=S1 at s ⊢;generalize n.alloc (.cells #[.string ⟨#[]⟩,.bool false] 136)=w2 at hB I ⊢;generalize n.heap.size=B at hB s k I;refine gQ C (dT C (dT C (fI C (l:=[0,1,2]) rfl ?_)));refine bJ C (d:=11) (v:=.slice A 0 c) (es:=#[]) (aE (by decide) j) rfl rfl rfl (λw r=>eR U) (λw r=>bj _) λT2 a V o=> ?_;replace k:=(o 6 (by decide)).trans k;replace j:=bd j (mu a.symm);clear o a;refine bJ C (d:=12) (v:=.int .i64 (0:Nat)) (es:=#[]) (aE (by decide) j) rfl rfl rfl (λw r=>asL faT V) (λw r=>bj _) λT3 a E o=> ?_;replace k:=(o 6 (by decide)).trans k;replace j:=bd j (mu a.symm);clear o a;refine bJ C (d:=13) (v:=.int .i64 0) (es:=#[]) (aE (by decide) j) rfl rfl rfl (λw r=>eR rfl) (λw r=>bj _) λT4 a a0 o=> ?_;replace k:=(o 6 (by decide)).trans k;replace E:=(o 12 (by decide)).trans E;replace j:=bd j (mu a.symm);clear o a;refine gQ C (ae5 C (anE C (dT C (fI C (l:=[0]) rfl ?_))));refine bJ C (d:=14) (v:=.bool (decide ((0:Int)<((0:Nat):Int)))) (es:=#[]) (aE (by decide) j) rfl rfl rfl (λw r=>asM a0 E) (λw r=>bj _) λT5 a z o=> ?_;replace k:=(o 6 (by decide)).trans k;replace j:=bd j (mu a.symm);clear o a;replace z:T5.getD 14 undef=.bool false:=z.trans rfl;refine gQ C (dT C (abY C (q:=false) z ?_));simp only[kw,qA];refine anF C rfl (dT C (fI C (l:=[0,1]) rfl ?_));refine bJ C (d:=28) (v:=.agg #[.string ⟨#[]⟩,.bool false]) (es:=#[]) (aE (by decide) j) rfl rfl rfl (λw r=>ajX) (λw r=>bj _) λW a iM o=> ?_;replace k:=(o 6 (by decide)).trans k;replace j:=bd j (mu a.symm);clear o a;have u:(⟨B,0,none⟩:Addr).add 1=⟨B,1,none⟩:=iJ _ _ _;have keep:∀y,Rl S1 w2 y->y.heap[B]?=some (.cells #[.string ⟨#[]⟩,.bool false] 136 (0,0))/\B<y.heap.size:=λy hr=>by
   obtain⟨Z,r2, -⟩:=H.rl _ _ _ hr;exact⟨(Z B (.inl s)).trans hB,by omega⟩
  intro w3 Q;refine .step rfl λt Y=> ?_;obtain⟨L,b2⟩:=keep t (H.tr _ _ _ _ Q Y);have c0:=eH (i:=0) L;have c1:=eH (i:=1) L;refine⟨_,_,_,_,ae4 rfl rfl rfl rfl rfl rfl (agD faT (A:=⟨B,0,none⟩) (u0:=.string ⟨#[]⟩) (u1:=.bool false) (c0:=.string ⟨#[]⟩) (c1:=.bool false) rfl rfl k iM c0 (gT L) (by rw[u];exact c1) (by rw[u];exact gT L)),⟨λb hb hn=> ?_, ?_,rfl,rfl,λev F=> ?_⟩, ?_⟩
  .have G:B≠b:=λe=>hn (e▸s);rw[u,bc _ _ _ G,bc _ _ _ G]
  .rw[ef,ef];exact am _
  .have N:=sR F;simp only[sd,jp,rA,tR] at N;have M:B<((t.setCell ⟨B,0,none⟩ (.string ⟨#[]⟩)).setCell ((⟨B,0,none⟩:Addr).add 1) (.bool false)).heap.size:=by rw[ef,ef];exact b2
   rcases N with rfl|rfl
   .exact⟨λx p=>.inl (by simp[MemAct.ofEvent,MemAct.touch?] at p;rw[<-p];exact .inl s),λm D=>(by cases D),M⟩
   .refine⟨λx p=>.inl ?_,λm D=>(by cases D), ?_⟩
    .simp[MemAct.ofEvent,MemAct.touch?] at p;rw[<-p,u];exact .inl s
    .show((⟨B,0,none⟩:Addr).add 1).block<_;rw[rm];exact M
  have P:(λb=>S1 b\/(t.heap.size<=b/\b<((t.setCell ⟨B,0,none⟩ (.string ⟨#[]⟩)).setCell ((⟨B,0,none⟩:Addr).add 1) (.bool false)).heap.size))=S1:=avr (by rw[ef,ef]);rw[P];have J:((t.setCell ⟨B,0,none⟩ (.string ⟨#[]⟩)).setCell ((⟨B,0,none⟩:Addr).add 1) (.bool false)).heap[B]?=some (.cells #[.string ⟨#[]⟩,.bool false] 136 (0,0)):=by
   rw[u];exact vg (vg L)
  have R:B<((t.setCell ⟨B,0,none⟩ (.string ⟨#[]⟩)).setCell ((⟨B,0,none⟩:Addr).add 1) (.bool false)).heap.size:=by rw[ef,ef];exact b2
  generalize (t.setCell ⟨B,0,none⟩ (.string ⟨#[]⟩)).setCell ((⟨B,0,none⟩:Addr).add 1) (.bool false)=w5 at J R ⊢;refine gQ (f:=74) (T:=W) C (w0:=w5) ?_ w5 (H.fu _ _);refine bD.still C (l2:=⟨74,W,[.code .ret],[],.returning,.normal,none⟩::[]) (es:=λ_=>#[]) (λw _=>by simp[Gl,stepG,stepG.exec]) (λ_ _ e h=>by cases(by simpa using h:False)) ?_;intro w6 O;refine .step rfl λw7 X=> ?_;obtain⟨Z,r2, -⟩:=H.rl _ _ _ (H.tr _ _ _ _ O X);have b7:=(Z B (.inl s)).trans J;have K:=asO faT (T:=W) (A:=⟨B,0,none⟩) (fn:=f74) rfl k (eH (i:=0) b7) (by rw[u];exact eH (i:=1) b7);refine⟨⟨cfr.finish (.agg #[.string ⟨#[]⟩,.bool false]),cs,.running,none,none⟩,w7,seen prog 74 #[⟨.cell ⟨B,0,none⟩,false,false⟩,⟨.cell ((⟨B,0,none⟩:Addr).add 1),false,false⟩],_, ?_,⟨λ_ _ _=>rfl,am _,rfl,rfl,λev F=> ?_⟩,.stop λ_ _=>rfl⟩
  .simp only[Gl,stepG,unwind,func74,K,qW];simp[doReturn,GStep.after]
  .have N:=sR F;simp only[sd,jp,rA,tR] at N;rcases N with rfl|rfl
   .exact⟨λx p=>.inl (by simp[MemAct.ofEvent,MemAct.touch?] at p;rw[<-p];exact .inl s),λm D=>(by cases D),by show B<_;omega⟩
   .refine⟨λx p=>.inl ?_,λm D=>(by cases D), ?_⟩
    .simp[MemAct.ofEvent,MemAct.touch?] at p;rw[<-p,u];exact .inl s
    .show((⟨B,0,none⟩:Addr).add 1).block<_;rw[rm];show B<_;omega
 exact key w (H.fu _ _)
end
section
open Go Go.Conc Go.ConcR Go.RowKit Go.Conc.Lib Go.ConcR.Gen
abbrev dY:WgLink:={add:=71,done:=73,wait:=75,relMerge:=105,disable:=106,enable:=107,inBubble:=108,associate:=109,fatal:=110,uOr:=111,uAdd:=112,raceRead:=113,uLoad:=114,uStore:=115,disassociate:=116,semrelease:=117,acquire:=119,isAssociated:=120,uCas:=121,raceWrite:=122,semacquire:=123,orU64:=144,addU64:=145,loadU64:=146,storeU64:=147,casU64:=150,tWgP:=162,tUP:=164,tAssoc:=165,tWg:=133,tAU:=131,tU64:=124,tUint:=89,tU32:=122,tPU32:=169,tPAU:=201,tPU64:=203,tNoCopy:=127,tANoCopy:=128,tAlign64:=129}
def aav:WgLib prog dY:=
 ⟨func71,func73,func75,func105,func106,func107,func108,func109,func110,func111,func112,func113,func114,func115,func116,func117,func119,func120,func121,func122,func123,func144,func145,func146,func147,func150,underlying162,Tryz.runUnderlying162,Tryz.sizeOf162,Tryz.isAgg162,Tryz.zeroValue162,underlying164,Tryz.runUnderlying164,Tryz.sizeOf164,Tryz.isAgg164,Tryz.zeroValue164,underlying165,Tryz.runUnderlying165,Tryz.sizeOf165,Tryz.isAgg165,Tryz.zeroValue165,underlying133,Tryz.runUnderlying133,Tryz.sizeOf133,Tryz.isAgg133,Tryz.zeroValue133,underlying131,Tryz.runUnderlying131,Tryz.sizeOf131,Tryz.isAgg131,Tryz.zeroValue131,underlying124,Tryz.runUnderlying124,Tryz.sizeOf124,Tryz.isAgg124,Tryz.zeroValue124,underlying89,Tryz.runUnderlying89,Tryz.sizeOf89,Tryz.isAgg89,Tryz.zeroValue89,underlying122,Tryz.runUnderlying122,Tryz.sizeOf122,Tryz.isAgg122,Tryz.zeroValue122,underlying169,Tryz.runUnderlying169,Tryz.sizeOf169,Tryz.isAgg169,Tryz.zeroValue169,underlying201,Tryz.runUnderlying201,Tryz.sizeOf201,Tryz.isAgg201,Tryz.zeroValue201,underlying203,Tryz.runUnderlying203,Tryz.sizeOf203,Tryz.isAgg203,Tryz.zeroValue203,underlying0,Tryz.runUnderlying0,Tryz.sizeOf0,Tryz.isAgg0,vx,underlying3,Tryz.runUnderlying3,vj,vC,uz,underlying4,Tryz.runUnderlying4,Tryz.sizeOf4,Tryz.isAgg4,vw,underlying9,Tryz.runUnderlying9,Tryz.sizeOf9,Tryz.isAgg9,Tryz.zeroValue9,underlying20,Tryz.runUnderlying20,Tryz.sizeOf20,Tryz.isAgg20,Tryz.zeroValue20,underlying21,Tryz.runUnderlying21,Tryz.sizeOf21,Tryz.isAgg21,Tryz.zeroValue21,(by kernel_rfl),(by kernel_rfl)⟩
end
section
open Go Go.Conc Go.ConcN Go.RowKit Go.Conc.Lib Go.ConcR.Gen Go.ConcN.Gen
open Go.ConcR (KK wgBlock WgAt stA smA rd wr mk Payload Aside2 DC0)
section
variable (P:Program) (R:World->World->Prop) (ty:TypeId) (Wg:Nat)
def nV(e:Mark)(m:Nat)(S:Goroutine->World->Prop)(g:Goroutine)(w:World):Prop:=
 g.status=.running/\∃a,stepG P true g w=.go a w #[mk e]/\Goes P true R DC0 S m a w
def ajY(S:Goroutine->World->Prop)(g:Goroutine)(w:World):Prop:=
 g.status=.running/\∀v:Nat,v<2147483647->WgAt ty Wg w (v*KK) 0->
  ∃a,stepG P true g w=.go a (w.setCell (stA Wg) (.int .u64 ((v+1)*KK))) #[rd (stA Wg),wr (stA Wg)]/\
   (v=0->Goes P true R DC0 (nV P R (.read ⟨Wg,1,none⟩) 120 (nV P R .enable 3 S)) 120 a (w.setCell (stA Wg) (.int .u64 ((v+1)*KK))))/\
   (v≠0->Goes P true R DC0 (nV P R .enable 3 S) 120 a (w.setCell (stA Wg) (.int .u64 ((v+1)*KK))))
end
section
variable {P:Program} {L:WgLink} {R:World->World->Prop} {Wg:Nat} {S:Goroutine->World->Prop}
 {b₀:Frame} {a₀:Act} {ops₀:Array Oper} {i₀:Nat} {rest₀:List Nat} {k₀:List Item} {cs:List Frame}
def asP (H:WgLib P L) (b:∀w d,WgLive L.tWg Wg w->R w d->WgLive L.tWg Wg d)
  (l:∀w,WgLive L.tWg Wg w->S (G (b₀.at (a₀.put ((ops₀[i₀]?).bind (·.dst)) (.tuple #[])) (.inRegion ops₀ rest₀::k₀)) cs) w)
  (w:World) (a:WgLive L.tWg Wg w) :
  Goes P true R DC0 (nV P R .disable 60 (ajY P R L.tWg Wg S)) 30
   (G ((base L.add).at ⟨#[.pointer (some ⟨Wg,0,none⟩),.int .i64 1,undef,undef,undef,undef,undef,undef,undef,undef,undef,undef,undef,undef,undef,undef,undef,undef,undef,undef,undef,undef,undef,undef,undef,undef,undef,undef,undef,undef,undef,undef,undef,undef,undef,undef,undef,undef,undef,undef,undef,undef,undef,undef,undef,undef,undef,undef,undef,undef,undef,undef,undef,undef,undef,undef,undef,undef,undef,undef,undef,undef,undef,undef,undef,undef,undef,undef,undef,undef,undef,undef,undef,undef,undef,undef,undef,undef,undef,undef,undef,undef,undef,undef,undef,undef,undef,undef,undef,undef,undef,undef,undef,undef,undef,undef,undef,undef,undef,undef,undef,undef,undef,undef,undef,undef,undef,undef,undef,undef,undef,undef,undef,undef,undef,undef,undef],[]⟩ [.code (body_add L)]) (b₀.at a₀ (.inRegion ops₀ (i₀::rest₀)::k₀)::cs)) w:=by
 lib_facts
 simp only[body_add,addFn,qi]
 u_c iS (b _ _) a
 u_cond true (b _ _) a
 u_c iS (b _ _) a
 u_c iS (b _ _) a
 u_reg (b _ _) a
 u_op (b _ _) a
 u_op (b _ _) a
 u_c du (b _ _) a
 u_cond false (b _ _) a
 u_c rD (b _ _) a
 u_c iS (b _ _) a
 u_reg (b _ _) a
 refine qu (λd c=> ?_);replace a:=b _ _ a c;clear c;refine⟨rfl,_,uL .disable (by simp) rfl rfl (by k_ne) rfl H.f_disable (x_disable_n L) (x_disable_b L) (x_disable_x L) (x_disable_f L), ?_⟩
 walk_nrm
 u_c du (b _ _) a
 u_reg (b _ _) a
 u_defer (b _ _) a
 u_c du (b _ _) a
 u_c iS (b _ _) a
 u_reg (b _ _) a
 u_op (b _ _) a
 u_c du (b _ _) a
 u_c iS (b _ _) a
 u_c iS (b _ _) a
 u_reg (b _ _) a
 u_bub (b _ _) a
 u_c du (b _ _) a
 u_cond false (b _ _) a
 u_c rD (b _ _) a
 u_c iS (b _ _) a
 u_reg (b _ _) a
 u_op (b _ _) a
 u_op (b _ _) a
 u_op (b _ _) a
 u_op (b _ _) a
 u_op (b _ _) a
 u_op (b _ _) a
 u_call H.f_uAdd (nm_uAdd L) uAddFn (b _ _) a
 u_c iS (b _ _) a
 u_reg (b _ _) a
 u_op (b _ _) a
 u_c du (b _ _) a
 u_c iS (b _ _) a
 u_reg (b _ _) a
 u_op (b _ _) a
 u_op (b _ _) a
 u_op (b _ _) a
 u_op (b _ _) a
 refine qu (λd c=> ?_);replace a:=b _ _ a c;clear c;refine⟨rfl,λv B g=> ?_⟩;rcases pa v with rfl|o
 .replace g:WgAt L.tWg Wg d 0 0:=by simpa using g
  have z:(((0:Nat):Int)+1)*KK=KK:=by simp
  rw[z];have m:IntKind.u64.wrap (0+4294967296)=KK:=by decide
  refine⟨_,(stepG_add_atomic rfl rfl (by k_ne) rfl H.f_addU64 (x_addU64_n L) (x_addU64_b L) (x_addU64_x L) .u64 (x_addU64_f L) rfl rfl g.cellSt (g.thaw 0)).trans (by rw[m];rfl),λ_=> ?_,λh=>absurd rfl h⟩;replace a:WgLive L.tWg Wg (d.setCell (stA Wg) (.int .u64 KK)):=⟨_,_,g.setSt _⟩;clear g;simp only[KK] at a ⊢
  walk_nrm
  u_op (b _ _) a
  u_c du (b _ _) a
  u_c sg (b _ _) a
  u_leave1 H.f_uAdd (b _ _) a
  u_op (b _ _) a
  u_c du (b _ _) a
  u_c iS (b _ _) a
  u_c iS (b _ _) a
  u_reg (b _ _) a
  u_op (b _ _) a
  u_op (b _ _) a
  u_op (b _ _) a
  u_op (b _ _) a
  u_skip (b _ _) a
  u_skip (b _ _) a
  u_op (b _ _) a
  u_c du (b _ _) a
  u_cond false (b _ _) a
  u_c rD (b _ _) a
  u_c iS (b _ _) a
  u_reg (b _ _) a
  u_op (b _ _) a
  u_op (b _ _) a
  u_op (b _ _) a
  u_op (b _ _) a
  u_c du (b _ _) a
  u_c iS (b _ _) a
  u_reg (b _ _) a
  u_op (b _ _) a
  u_op (b _ _) a
  u_op (b _ _) a
  u_op (b _ _) a
  u_c du (b _ _) a
  u_c iS (b _ _) a
  u_c iS (b _ _) a
  u_reg (b _ _) a
  u_op (b _ _) a
  u_op (b _ _) a
  u_op (b _ _) a
  u_op (b _ _) a
  u_op (b _ _) a
  u_op (b _ _) a
  u_op (b _ _) a
  u_op (b _ _) a
  u_op (b _ _) a
  u_op (b _ _) a
  u_c du (b _ _) a
  u_cond true (b _ _) a
  u_reg (b _ _) a
  u_op (b _ _) a
  u_op (b _ _) a
  u_op (b _ _) a
  u_conv H.underlying_tPU32 H.room_tU32 (WgLive.cell1 a).choose_spec (b _ _) a
  refine qu (λd c=> ?_);replace a:=b _ _ a c;clear c;refine⟨rfl,_,uy .read (by simp) rfl rfl (by k_ne) rfl H.f_raceRead (x_raceRead_n L) (x_raceRead_b L) (x_raceRead_x L) (x_raceRead_f L) (ad:=⟨Wg,1,none⟩) (by simp[Act.eval]), ?_⟩
  walk_nrm
  u_c du (b _ _) a
  u_c iS (b _ _) a
  u_c iS (b _ _) a
  u_reg (b _ _) a
  u_op (b _ _) a
  u_op (b _ _) a
  u_c du (b _ _) a
  u_cond false (b _ _) a
  u_c rD (b _ _) a
  u_c iS (b _ _) a
  u_c iS (b _ _) a
  u_reg (b _ _) a
  u_op (b _ _) a
  u_op (b _ _) a
  u_op (b _ _) a
  u_skip (b _ _) a
  u_skip (b _ _) a
  u_op (b _ _) a
  u_op (b _ _) a
  u_skip (b _ _) a
  u_skip (b _ _) a
  u_skip (b _ _) a
  u_skip (b _ _) a
  u_op (b _ _) a
  u_c du (b _ _) a
  u_cond false (b _ _) a
  u_c rD (b _ _) a
  u_c iS (b _ _) a
  u_c iS (b _ _) a
  u_reg (b _ _) a
  u_op (b _ _) a
  u_op (b _ _) a
  u_op (b _ _) a
  u_skip (b _ _) a
  u_skip (b _ _) a
  u_op (b _ _) a
  u_c du (b _ _) a
  u_cond true (b _ _) a
  u_c sg (b _ _) a
  refine qu (λd c=> ?_);replace a:=b _ _ a c;clear c;refine⟨rfl,_,stepG_unwind_entry (v:=.tuple #[]) (evs:=#[mk .enable]) rfl H.f_enable (x_enable_n L) (x_enable_b L) (x_enable_x L) (x_enable_f L) (by simp[Extern.Race.none_]) (by simp[mk]) (by simp[mk]), ?_⟩
  u_leave0 H.f_add (b _ _) a
  exact qu λi f=>l _ (b _ _ a f)
 .obtain⟨V,j⟩:∃V:Int,V=(v:Int)+1:=⟨_,rfl⟩;obtain⟨St,e⟩:∃St:Int,St=V*KK:=⟨_,rfl⟩;have k:IntKind.u64.wrap ((v:Int)*KK+4294967296)=St:=by rw[IntKind.wrap_u64,e,j];simp only[KK];omega
  rw[<-j,<-e];have C:St / 4294967296=V:=by rw[e];simp only[KK];omega
  have q:bits .and .u64 St 2147483648=0:=by rw[e,j];have:=st_flag (v+1) 0 (by omega) (by omega);simpa[KK] using this
  have A:bits .and .u64 St 2147483647=0:=by rw[e,j];have:=st_waiters (v+1) 0 (by omega) (by omega);simpa[KK] using this
  have u:IntKind.i32.wrap V=V:=by rw[IntKind.wrap_i32];omega
  have n:1<V:=by omega
  have p:V<2147483648:=by omega
  have s:(V ==1)=false:=by simp;omega
  have D:=bv (show ¬(V=1) by omega);have t:=bv (show ¬(V<0) by omega);have y:=db (show 0<V by omega);have x:(V ==0)=false:=by simp;omega
  have r:=bv (show ¬(V=0) by omega);refine⟨_,(stepG_add_atomic rfl rfl (by k_ne) rfl H.f_addU64 (x_addU64_n L) (x_addU64_b L) (x_addU64_x L) .u64 (x_addU64_f L) rfl rfl g.cellSt (g.thaw 0)).trans (by rw[k];rfl),λh=>absurd h (by omega),λ_=> ?_⟩;replace a:WgLive L.tWg Wg (d.setCell (stA Wg) (.int .u64 St)):=⟨_,_,g.setSt _⟩;clear g e j k
  walk_nrm
  u_op (b _ _) a
  u_c du (b _ _) a
  u_c sg (b _ _) a
  u_leave1 H.f_uAdd (b _ _) a
  u_op (b _ _) a
  u_c du (b _ _) a
  u_c iS (b _ _) a
  u_c iS (b _ _) a
  u_reg (b _ _) a
  u_op (b _ _) a
  u_op (b _ _) a
  u_op (b _ _) a
  u_op (b _ _) a
  u_skip (b _ _) a
  u_skip (b _ _) a
  u_op (b _ _) a
  u_c du (b _ _) a
  u_cnd false (b _ _) a
  u_c rD (b _ _) a
  u_c iS (b _ _) a
  u_reg (b _ _) a
  u_op (b _ _) a
  u_op (b _ _) a
  u_op (b _ _) a
  u_op (b _ _) a
  u_c du (b _ _) a
  u_c iS (b _ _) a
  u_reg (b _ _) a
  u_op (b _ _) a
  u_op (b _ _) a
  u_op (b _ _) a
  u_op (b _ _) a
  u_c du (b _ _) a
  u_c iS (b _ _) a
  u_c iS (b _ _) a
  u_reg (b _ _) a
  u_op (b _ _) a
  u_op (b _ _) a
  u_op (b _ _) a
  u_op (b _ _) a
  u_op (b _ _) a
  u_op (b _ _) a
  u_op (b _ _) a
  u_op (b _ _) a
  u_op (b _ _) a
  u_op (b _ _) a
  u_c du (b _ _) a
  u_cnd false (b _ _) a
  u_c rD (b _ _) a
  u_c iS (b _ _) a
  u_c iS (b _ _) a
  u_reg (b _ _) a
  u_op (b _ _) a
  u_op (b _ _) a
  u_c du (b _ _) a
  u_cnd false (b _ _) a
  u_c rD (b _ _) a
  u_c iS (b _ _) a
  u_c iS (b _ _) a
  u_reg (b _ _) a
  u_op (b _ _) a
  u_op (b _ _) a
  u_op (b _ _) a
  u_skip (b _ _) a
  u_skip (b _ _) a
  u_op (b _ _) a
  u_op (b _ _) a
  u_skip (b _ _) a
  u_skip (b _ _) a
  u_skip (b _ _) a
  u_skip (b _ _) a
  u_op (b _ _) a
  u_c du (b _ _) a
  u_cnd false (b _ _) a
  u_c rD (b _ _) a
  u_c iS (b _ _) a
  u_c iS (b _ _) a
  u_reg (b _ _) a
  u_op (b _ _) a
  u_op (b _ _) a
  u_op (b _ _) a
  u_skip (b _ _) a
  u_skip (b _ _) a
  u_op (b _ _) a
  u_c du (b _ _) a
  u_cnd true (b _ _) a
  u_c sg (b _ _) a
  refine qu (λd c=> ?_);replace a:=b _ _ a c;clear c;refine⟨rfl,_,stepG_unwind_entry (v:=.tuple #[]) (evs:=#[mk .enable]) rfl H.f_enable (x_enable_n L) (x_enable_b L) (x_enable_x L) (x_enable_f L) (by simp[Extern.Race.none_]) (by simp[mk]) (by simp[mk]), ?_⟩
  u_leave0 H.f_add (b _ _) a
  exact qu λi f=>l _ (b _ _ a f)
end
end
section
open Go Go.Conc Go.ConcN Go.RowKit Go.Conc.Lib Go.ConcR.Gen Go.ConcN.Gen
open Go.ConcR (KK wgBlock WgAt stA smA rd wr mk Aside2 DC0)
section
variable (P:Program) (R:World->World->Prop) (ty:TypeId) (Wg:Nat) (amr S:Goroutine->World->Prop)
abbrev WKe:Goroutine->World->Prop:=nV P R .enable 12 (nV P R (.acquire (stA Wg)) 20 S)
def WW4(g:Goroutine)(w:World):Prop:=g.status=.running/\(WgAt ty Wg w 0 0->∃a,stepG P true g w=.go a w #[rd (stA Wg)]/\Goes P true R DC0 (WKe P R Wg S) 40 a w)
def WW3(g:Goroutine)(w:World):Prop:=g.status=.running/\g.offers=none/\
  ((∃st,WgAt ty Wg w st 0)->stepG P true g w=.go {g with status:=.blocked} w #[])/\
  (WgAt ty Wg w 0 1->∃a,stepG P true g w=.go a (w.setCell (smA Wg) (.int .u32 0)) (semEvents (smA Wg))/\Goes P true R DC0 (WW4 P R ty Wg S) 40 a (w.setCell (smA Wg) (.int .u32 0)))
def WW2(vs:Nat)(g:Goroutine)(w:World):Prop:=g.status=.running/\∀v:Nat,v<2147483648->WgAt ty Wg w (v*KK) 0->
  (v=vs->∃a,stepG P true g w=.go a (w.setCell (stA Wg) (.int .u64 (v*KK+1))) #[rd (stA Wg),wr (stA Wg)]/\Goes P true R DC0 (nV P R (.write ⟨Wg,1,none⟩) 60 (WW3 P R ty Wg S)) 120 a (w.setCell (stA Wg) (.int .u64 (v*KK+1))))/\
  (v≠vs->∃a,stepG P true g w=.go a w #[rd (stA Wg)]/\Goes P true R DC0 amr 60 a w)
def WW1(g:Goroutine)(w:World):Prop:=g.status=.running/\∀v:Nat,v<2147483648->WgAt ty Wg w (v*KK) 0->∃a,stepG P true g w=.go a w #[rd (stA Wg)]/\
  (v=0->Goes P true R DC0 (WKe P R Wg S) 60 a w)/\(v≠0->Goes P true R DC0 (WW2 P R ty Wg amr S v) 120 a w)
end
def ajZ(L:WgLink)(Wg:Nat)(c:Frame)(cs:List Frame)(g:Goroutine)(w:World):Prop:=
 ∃T:Array Value,g=G ((base L.wait).at ⟨T,[]⟩ [.code (L7 L),.inLoop (L7 L),.inBlock 0]) (c::cs)/\T.size=84/\T[0]?=some (.pointer (some ⟨Wg,0,none⟩))/\WgLive L.tWg Wg w
section
variable {P:Program} {L:WgLink} {R:World->World->Prop} {Wg:Nat} {S:Goroutine->World->Prop}
 {b₀:Frame} {a₀:Act} {ops₀:Array Oper} {i₀:Nat} {rest₀:List Nat} {k₀:List Item} {cs:List Frame}
def ams(H:WgLib P L)(d:∀w a,WgLive L.tWg Wg w->R w a->WgLive L.tWg Wg a)(w:World)(b:WgLive L.tWg Wg w) :
  Goes P true R DC0 (nV P R .disable 3 (ajZ L Wg (b₀.at a₀ (.inRegion ops₀ (i₀::rest₀)::k₀)) cs)) 3
   (G ((base L.wait).at ⟨#[.pointer (some ⟨Wg,0,none⟩)]++(List.replicate 83 undef).toArray,[]⟩ [.code (body_wait L)]) (b₀.at a₀ (.inRegion ops₀ (i₀::rest₀)::k₀)::cs)) w:=by
 lib_facts
 simp only[body_wait,waitFn,qi]
 u_c iS (d _ _) b
 u_cond true (d _ _) b
 u_reg (d _ _) b
 refine qu (λa c=> ?_);replace b:=d _ _ b c;clear c;refine⟨rfl,_,uL .disable (by simp) rfl rfl (by k_ne) rfl H.f_disable (x_disable_n L) (x_disable_b L) (x_disable_x L) (x_disable_f L), ?_⟩
 walk_nrm
 u_c du (d _ _) b
 u_c stepG_block (d _ _) b
 u_c stepG_loop (d _ _) b
 exact qu (λf e=>⟨_,rfl,by simp,by simp,d _ _ b e⟩)
def amt (H:WgLib P L) (b:∀w i,WgLive L.tWg Wg w->R w i->WgLive L.tWg Wg i)
  (x:∀w,WgLive L.tWg Wg w->S (G (b₀.at (a₀.put ((ops₀[i₀]?).bind (·.dst)) (.tuple #[])) (.inRegion ops₀ rest₀::k₀)) cs) w)
  (g:Goroutine) (w:World) (h:ajZ L Wg (b₀.at a₀ (.inRegion ops₀ (i₀::rest₀)::k₀)) cs g w) :
  Goes P true R DC0 (WW1 P R L.tWg Wg (ajZ L Wg (b₀.at a₀ (.inRegion ops₀ (i₀::rest₀)::k₀)) cs) S) 30 g w:=by
 lib_facts
 obtain⟨T,rfl,q,t,a⟩:=h;obtain⟨v0,v1,v2,v3,v4,v5,v6,v7,v8,v9,aO,O,bo,z,ba,C,K,ao,bW,a8,a2,A,bP,c3,J,bz,bk,a4,bL,aa,Y,b0,y,bT,a0,N,c0,bS,bi,X,U,W,bt,a7,aS,Q,D,br,b9,bf,aN,bn,aM,af,E,b6,bl,b5,a5,bO,a3,bZ,ay,b4,b7,B,I,M,bb,b8,bA,aZ,bw,c2,a6,aJ,c4,a9,F,b3,bp,an,al,Z,rfl⟩:=array84 T q;simp only[List.getElem?_toArray,sX,mt] at t;subst t;simp only[L7,body_wait,waitFn,qi]
 u_c stepG_block (b _ _) a
 u_c iS (b _ _) a
 u_reg (b _ _) a
 u_op (b _ _) a
 u_op (b _ _) a
 u_op (b _ _) a
 u_call H.f_uLoad (nm_uLoad L) uLoadFn (b _ _) a
 u_c iS (b _ _) a
 u_reg (b _ _) a
 u_op (b _ _) a
 u_c du (b _ _) a
 u_c iS (b _ _) a
 u_reg (b _ _) a
 u_op (b _ _) a
 u_op (b _ _) a
 u_op (b _ _) a
 refine qu (λi c=> ?_);replace a:=b _ _ a c;clear c;refine⟨rfl,λv hv f=> ?_⟩;rcases pa v with rfl|ax
 .replace f:WgAt L.tWg Wg i 0 0:=by simpa using f
  refine⟨_,stepG_load_atomic (v:=0) rfl rfl (by k_ne) rfl H.f_loadU64 (x_loadU64_n L) (x_loadU64_b L) (x_loadU64_x L) .u64 (x_loadU64_f L) rfl f.cellSt,λ_=> ?_,λh=>absurd rfl h⟩;clear f
  walk_nrm
  u_op (b _ _) a
  u_c du (b _ _) a
  u_c sg (b _ _) a
  u_leave1 H.f_uLoad (b _ _) a
  u_op (b _ _) a
  u_c du (b _ _) a
  u_c iS (b _ _) a
  u_reg (b _ _) a
  u_op (b _ _) a
  u_op (b _ _) a
  u_op (b _ _) a
  u_op (b _ _) a
  u_c du (b _ _) a
  u_c iS (b _ _) a
  u_reg (b _ _) a
  u_op (b _ _) a
  u_op (b _ _) a
  u_op (b _ _) a
  u_op (b _ _) a
  u_c du (b _ _) a
  u_c iS (b _ _) a
  u_c iS (b _ _) a
  u_reg (b _ _) a
  u_op (b _ _) a
  u_op (b _ _) a
  u_c du (b _ _) a
  u_cond true (b _ _) a
  u_c iS (b _ _) a
  u_cond true (b _ _) a
  u_c iS (b _ _) a
  u_reg (b _ _) a
  refine qu (λi c=> ?_);replace a:=b _ _ a c;clear c;refine⟨rfl,_,uL .enable (by simp) rfl rfl (by k_ne) rfl H.f_enable (x_enable_n L) (x_enable_b L) (x_enable_x L) (x_enable_f L), ?_⟩
  walk_nrm
  u_c du (b _ _) a
  u_reg (b _ _) a
  u_op (b _ _) a
  u_conv H.underlying_tWgP H.room_tWg (WgLive.cell0 a).choose_spec (b _ _) a
  refine qu (λi c=> ?_);replace a:=b _ _ a c;clear c;refine⟨rfl,_,uy .acquire (by simp) rfl rfl (by k_ne) rfl H.f_acquire (x_acquire_n L) (x_acquire_b L) (x_acquire_x L) (x_acquire_f L) (by simp[Act.eval,stA]), ?_⟩
  walk_nrm
  u_c du (b _ _) a
  u_c iS (b _ _) a
  u_c iS (b _ _) a
  u_reg (b _ _) a
  u_op (b _ _) a
  u_op (b _ _) a
  u_op (b _ _) a
  u_op (b _ _) a
  u_op (b _ _) a
  u_op (b _ _) a
  u_op (b _ _) a
  u_op (b _ _) a
  u_skip (b _ _) a
  u_skip (b _ _) a
  u_op (b _ _) a
  u_c du (b _ _) a
  u_cond false (b _ _) a
  u_c rD (b _ _) a
  u_c sg (b _ _) a
  u_leave0 H.f_wait (b _ _) a
  exact qu λl j=>x _ (b _ _ a j)
 .obtain⟨V,p⟩:∃V:Int,(v:Int)*KK=V:=⟨_,rfl⟩;have a1:V / 4294967296=(v:Int):=by rw[<-p];simp only[KK];omega
  have b1:bits .and .u64 V 2147483648=0:=by rw[<-p];have:=st_flag v 0 (by omega) (by omega);simpa[KK] using this
  have b2:bits .and .u64 V 2147483647=0:=by rw[<-p];have:=st_waiters v 0 (by omega) (by omega);simpa[KK] using this
  have c1:IntKind.i32.wrap (v:Int)=(v:Int):=by rw[IntKind.wrap_i32];omega
  have w1:IntKind.u64.wrap (V+1)=V+1:=by rw[IntKind.wrap_u64,<-p];simp only[KK];omega
  have q3:=bv (show ¬((v:Int)<0) by omega);have q4:=db (show 0<(v:Int) by omega);have q5:((v:Int) ==0)=false:=by simp;omega
  have q6:=bv (show ¬((v:Int)=0) by omega);rw[p] at f;refine⟨_,stepG_load_atomic (v:=V) rfl rfl (by k_ne) rfl H.f_loadU64 (x_loadU64_n L) (x_loadU64_b L) (x_loadU64_x L) .u64 (x_loadU64_f L) rfl f.cellSt,λh0=>absurd h0 (by omega),λ_=> ?_⟩;clear f
  walk_nrm
  u_op (b _ _) a
  u_c du (b _ _) a
  u_c sg (b _ _) a
  u_leave1 H.f_uLoad (b _ _) a
  u_op (b _ _) a
  u_c du (b _ _) a
  u_c iS (b _ _) a
  u_reg (b _ _) a
  u_op (b _ _) a
  u_op (b _ _) a
  u_op (b _ _) a
  u_op (b _ _) a
  u_c du (b _ _) a
  u_c iS (b _ _) a
  u_reg (b _ _) a
  u_op (b _ _) a
  u_op (b _ _) a
  u_op (b _ _) a
  u_op (b _ _) a
  u_c du (b _ _) a
  u_c iS (b _ _) a
  u_c iS (b _ _) a
  u_reg (b _ _) a
  u_op (b _ _) a
  u_op (b _ _) a
  u_c du (b _ _) a
  u_cnd false (b _ _) a
  u_c rD (b _ _) a
  u_c iS (b _ _) a
  u_reg (b _ _) a
  u_op (b _ _) a
  u_op (b _ _) a
  u_op (b _ _) a
  u_op (b _ _) a
  u_op (b _ _) a
  u_op (b _ _) a
  u_call H.f_uCas (nm_uCas L) uCasFn (b _ _) a
  u_c iS (b _ _) a
  u_reg (b _ _) a
  u_op (b _ _) a
  u_c du (b _ _) a
  u_c iS (b _ _) a
  u_reg (b _ _) a
  u_op (b _ _) a
  u_op (b _ _) a
  u_op (b _ _) a
  u_op (b _ _) a
  u_op (b _ _) a
  refine qu (λl j=> ?_);replace a:=b _ _ a j;clear j;refine⟨rfl,λv' bx f=>⟨λe=> ?_,λe=> ?_⟩⟩
  .subst e;rw[p] at f ⊢;refine⟨_,stepG_cas_hit (v:=V) (n:=V+1) rfl rfl (by k_ne) rfl H.f_casU64 (x_casU64_n L) (x_casU64_b L) (x_casU64_x L) .u64 (x_casU64_f L) rfl rfl rfl f.cellSt (f.thaw 0), ?_⟩;replace a:WgLive L.tWg Wg (l.setCell (stA Wg) (.int .u64 (V+1))):=⟨_,_,f.setSt _⟩;clear f
   walk_nrm
   u_op (b _ _) a
   u_c du (b _ _) a
   u_c sg (b _ _) a
   u_leave1 H.f_uCas (b _ _) a
   u_c du (b _ _) a
   u_cond true (b _ _) a
   u_c iS (b _ _) a
   u_c iS (b _ _) a
   u_reg (b _ _) a
   u_op (b _ _) a
   u_op (b _ _) a
   u_op (b _ _) a
   u_op (b _ _) a
   u_c du (b _ _) a
   u_cond true (b _ _) a
   u_reg (b _ _) a
   u_op (b _ _) a
   u_op (b _ _) a
   u_op (b _ _) a
   u_conv H.underlying_tPU32 H.room_tU32 (WgLive.cell1 a).choose_spec (b _ _) a
   refine qu (λm d=> ?_);replace a:=b _ _ a d;clear d;refine⟨rfl,_,uy .write (by simp) rfl rfl (by k_ne) rfl H.f_raceWrite (x_raceWrite_n L) (x_raceWrite_b L) (x_raceWrite_x L) (x_raceWrite_f L) (ad:=⟨Wg,1,none⟩) (by simp[Act.eval]), ?_⟩
   walk_nrm
   u_c du (b _ _) a
   u_c iS (b _ _) a
   u_reg (b _ _) a
   u_op (b _ _) a
   u_c du (b _ _) a
   u_c iS (b _ _) a
   u_c iS (b _ _) a
   u_reg (b _ _) a
   u_op (b _ _) a
   u_op (b _ _) a
   u_op (b _ _) a
   u_op (b _ _) a
   u_skip (b _ _) a
   u_op (b _ _) a
   u_c du (b _ _) a
   u_cond false (b _ _) a
   u_c rD (b _ _) a
   u_c iS (b _ _) a
   u_reg (b _ _) a
   u_op (b _ _) a
   u_op (b _ _) a
   u_op (b _ _) a
   u_op (b _ _) a
   refine qu (λm d=> ?_);replace a:=b _ _ a d;clear d;refine⟨rfl,rfl,λ⟨st,f⟩=>stepG_semacquire_wait rfl rfl rfl H.f_semacquire (x_semacquire_n L) (x_semacquire_b L) (x_semacquire_x L) (x_semacquire_f L) (by simp[Act.eval,smA]) f.cellSm,λs=> ?_⟩;refine⟨_,(stepG_semacquire (n:=1) rfl rfl (by k_ne) rfl H.f_semacquire (x_semacquire_n L) (x_semacquire_b L) (x_semacquire_x L) (x_semacquire_f L) (by simp[Act.eval,smA]) s.cellSm (by decide) (s.thaw 1)).trans rfl, ?_⟩;replace a:WgLive L.tWg Wg (m.setCell (smA Wg) (.int .u32 0)):=⟨_,_,s.setSm 0⟩;clear s
   walk_nrm
   u_c du (b _ _) a
   u_c iS (b _ _) a
   u_reg (b _ _) a
   u_op (b _ _) a
   u_op (b _ _) a
   u_op (b _ _) a
   u_call H.f_uLoad (nm_uLoad L) uLoadFn (b _ _) a
   u_c iS (b _ _) a
   u_reg (b _ _) a
   u_op (b _ _) a
   u_c du (b _ _) a
   u_c iS (b _ _) a
   u_reg (b _ _) a
   u_op (b _ _) a
   u_op (b _ _) a
   u_op (b _ _) a
   refine qu (λu o=> ?_);replace a:=b _ _ a o;clear o;refine⟨rfl,λf=>⟨_,stepG_load_atomic (v:=0) rfl rfl (by k_ne) rfl H.f_loadU64 (x_loadU64_n L) (x_loadU64_b L) (x_loadU64_x L) .u64 (x_loadU64_f L) rfl f.cellSt, ?_⟩⟩;clear f
   walk_nrm
   u_op (b _ _) a
   u_c du (b _ _) a
   u_c sg (b _ _) a
   u_leave1 H.f_uLoad (b _ _) a
   u_op (b _ _) a
   u_op (b _ _) a
   u_c du (b _ _) a
   u_c iS (b _ _) a
   u_cond true (b _ _) a
   u_c iS (b _ _) a
   u_reg (b _ _) a
   refine qu (λr k=> ?_);replace a:=b _ _ a k;clear k;refine⟨rfl,_,uL .enable (by simp) rfl rfl (by k_ne) rfl H.f_enable (x_enable_n L) (x_enable_b L) (x_enable_x L) (x_enable_f L), ?_⟩
   walk_nrm
   u_c du (b _ _) a
   u_reg (b _ _) a
   u_op (b _ _) a
   u_conv H.underlying_tWgP H.room_tWg (WgLive.cell0 a).choose_spec (b _ _) a
   refine qu (λr k=> ?_);replace a:=b _ _ a k;clear k;refine⟨rfl,_,uy .acquire (by simp) rfl rfl (by k_ne) rfl H.f_acquire (x_acquire_n L) (x_acquire_b L) (x_acquire_x L) (x_acquire_f L) (by simp[Act.eval,stA]), ?_⟩
   walk_nrm
   u_c du (b _ _) a
   u_c iS (b _ _) a
   u_c iS (b _ _) a
   u_reg (b _ _) a
   u_op (b _ _) a
   u_c du (b _ _) a
   u_cond false (b _ _) a
   u_c rD (b _ _) a
   u_c sg (b _ _) a
   u_leave0 H.f_wait (b _ _) a
   exact qu λl j=>x _ (b _ _ a j)
  .refine⟨_,stepG_cas_miss (v:=(v':Int)*KK) (old:=V) (n:=V+1) rfl rfl (by k_ne) rfl H.f_casU64 (x_casU64_n L) (x_casU64_b L) (x_casU64_x L) .u64 (x_casU64_f L) rfl rfl rfl f.cellSt (f.thaw 0) (by rw[<-p];simp only[KK];omega), ?_⟩;clear f
   walk_nrm
   u_op (b _ _) a
   u_c du (b _ _) a
   u_c sg (b _ _) a
   u_leave1 H.f_uCas (b _ _) a
   u_c du (b _ _) a
   u_cond false (b _ _) a
   u_c rD (b _ _) a
   u_c stepG_inBlock (b _ _) a
   u_c stepG_inLoop (b _ _) a
   exact qu λm d=>⟨_,rfl,by simp,by simp,b _ _ a d⟩
end
end
section
open Go Go.Conc Go.ConcN Go.RowKit Go.Conc.Lib Go.ConcR.Gen Go.ConcN.Gen
open Go.ConcR (KK wgBlock WgAt stA smA rd wr mk Payload DC0)
section
variable {P:Program} {R:World->World->Prop} {Wg:Nat}
def apK:aaZ Wg (mk (.read ⟨Wg,1,none⟩)):=⟨_,rfl,.inl rfl⟩
def amu:aaZ Wg (mk (.write ⟨Wg,1,none⟩)):=⟨_,rfl,.inr rfl⟩
def nB{D i:World->World->Array Event->Prop}{St c:Goroutine->World->Prop}{main:Bool}(k:∀w d e,D w d e->i w d e)(f:∀g w,St g w->c g w) :
  ∀{n:Nat} {g:Goroutine} {w:World},Goes P main R D St n g w->Goes P main R i c n g w
 |0,_,_,h=>λa b=>f _ _ (h a b)
 |n+1,g,w,h=>by
  rcases h with h|⟨l,h⟩
  .exact .inl λa b=>f _ _ (h a b)
  .refine .inr ⟨l,λa b=> ?_⟩;have:=h a b;cases j:stepG P main g a with
   |go m d e=>
    rw[j,tq] at this;rw[tq];exact⟨k _ _ _ this.1,nB k f this.2⟩
   |_=>rw[j] at this;exact this.elim
def avt{D:World->World->Array Event->Prop}(b:n<=X)(h:Goes P main R D St n g w):Goes P main R D St X g w:=by
 induction b with
 |refl=>exact h
 |step _ a=>exact a.more
def dsd{es:Array Event}(h:DC0 w w' es):DSd Wg w w' es:=⟨h.1,by rw[h.2];simp⟩
def agE{e:Mark}(q:aaZ Wg (mk e))(s:∀g w,St g w->V g w)(i:∀w,R w w)(l:∀a b c,R a b->R b c->R a c) :
  ∀{n:Nat} {g:Goroutine} {w:World},Goes P true R DC0 (nV P R e m St) n g w->Goes P true R (DSd Wg) V (n+(m+1)) g w:=by
 have stop:∀{g:Goroutine} {w:World},(∀d,R w d->nV P R e m St g d)->Goes P true R (DSd Wg) V (m+1) g w:=λ{g w} h=>by
  refine .inr ⟨(h w (i w)).1,λd j=> ?_⟩;obtain⟨-,p,f,k⟩:=h d j;rw[f,tq];exact⟨⟨rfl,by simp;exact q⟩,nB (λ_ _ _ x=>dsd x) s k⟩
 intro n
 induction n with
 |zero=>intro g w h;rw[mc];exact stop h
 |succ n r=>
  intro g w h;rcases h with h|⟨o,h⟩
  .exact avt (by omega) (stop h)
  .rw[Nat.succ_add];refine .inr ⟨o,λd j=> ?_⟩;have:=h d j;cases f:stepG P true g d with
   |go p t u=>
    rw[f,tq] at this;rw[tq];exact⟨dsd this.1,r this.2⟩
   |_=>rw[f] at this;exact this.elim
end
section
variable [Payload] {P:Program} {ty:TypeId} {Wg C n:Nat} {R S:ak}
def aaw(a:∀g w,St g w->V g w)(h:Goes P true (RM ty Wg C n R S) DC0 St m g w):GP P ty Wg C n R S V m g w:=nB (λ_ _ _ x=>dsd x) a h
def ayJ{F:ak->ak->Goroutine->World->Prop}(a:∀g w,Goes P true (RM ty Wg C n R S) DC0 St m g w->F R S g w)(h:nV P (RM ty Wg C n R S) (.acquire (stA Wg)) m St g w):ax0 P Wg R S F g w:=
 ⟨h.1,let⟨b,e,k⟩:=h.2;⟨b,e,a _ _ k⟩⟩
section
variable {St:Goroutine->World->Prop} {F A:ak->ak->Goroutine->World->Prop} {amr:Goroutine->World->Prop} (hF:∀g w,Goes P true (RM ty Wg C n R S) DC0 St 20 g w->F R S g w) (hA:∀g w,amr g w->A R S g w)
include hF in
theorem awN(h:WKe P (RM ty Wg C n R S) Wg St g w):MKe P ty Wg C n R S F g w:=
 ⟨h.1,let⟨a,e,k⟩:=h.2;⟨a,e,_,aaw (λ_ _ x=>ayJ hF x) k⟩⟩
include hF in
theorem aA5(h:WW4 P (RM ty Wg C n R S) ty Wg St g w):MW4 P ty Wg C n R S F g w:=
 ⟨h.1,λa=>let⟨b,e,k⟩:=h.2 a;⟨b,e,_,aaw (λ_ _ x=>awN hF x) k⟩⟩
include hF in
theorem aA6(h:WW3 P (RM ty Wg C n R S) ty Wg St g w):MW3 P ty Wg C n R S F g w:=
 ⟨h.1,h.2.1,h.2.2.1,λa=>let⟨b,e,k⟩:=h.2.2.2 a;⟨b,e,_,aaw (λ_ _ x=>aA5 hF x) k⟩⟩
include hF hA in
theorem aA7{v:Nat}(h:WW2 P (RM ty Wg C n R S) ty Wg amr St v g w):MW2 P ty Wg C n R S A F v g w:=
 ⟨h.1,λd f c=>⟨λe=>let⟨b,a,k⟩:=(h.2 d f c).1 e;⟨b,a,_,agE amu (λ_ _ x=>aA6 hF x) (jz.refl _ _ _) (λ_ _ _=>jz.trans) k⟩,
  λe=>let⟨b,a,k⟩:=(h.2 d f c).2 e;⟨b,a,_,aaw hA k⟩⟩⟩
include hF hA in
theorem aA8(h:WW1 P (RM ty Wg C n R S) ty Wg amr St g w):MW1 P ty Wg C n R S A F g w:=
 ⟨h.1,λv c b=>let⟨f,e,d,a⟩:=h.2 v c b;⟨f,e,λe=>⟨_,aaw (λ_ _ x=>awN hF x) (d e)⟩,λe=>⟨_,aaw (λ_ _ x=>aA7 hF hA x) (a e)⟩⟩⟩
include hA in
theorem aA9(h:nV P (RM ty Wg C n R S) .disable m amr g w):MKd P ty Wg C n R S A g w:=
 ⟨h.1,let⟨a,e,k⟩:=h.2;⟨a,e,_,aaw hA k⟩⟩
end
section
variable {val:Nat->Value} {j:Nat} {Next:ak->Goroutine->World->Prop} {St:Goroutine->World->Prop}
def asQ(a:∀g w,Goes P true (RM ty Wg C n R S) DC0 St m g w->∃T,GM P ty Wg C n R (MGo P ty Wg C n val j Next R) T S g w)(h:nV P (RM ty Wg C n R S) .enable m St g w):ax1 P ty Wg C n val j Next R S g w:=
 ⟨h.1,let⟨b,e,k⟩:=h.2;⟨b,e,a _ _ k⟩⟩
def aBa(b:∀g w,Goes P true (RM ty Wg C n R S) DC0 St 3 g w->∃T,GM P ty Wg C n R (MGo P ty Wg C n val j Next R) T S g w)(h:ajY P (RM ty Wg C n R S) ty Wg St g w):MA1 P ty Wg C n val j Next R S g w:=
 ⟨h.1,λv f d=>by
  obtain⟨k,e,i,c⟩:=h.2 v f d;refine⟨k,e, ?_⟩;by_cases a:v=0
  .exact⟨_,agE apK (λ_ _ x=>asQ b x) (jz.refl _ _ _) (λ_ _ _=>jz.trans) (i a)⟩
  .exact⟨_,aaw (λ_ _ x=>asQ b x) (c a)⟩⟩
def ayK(a:∀g w,Goes P true (RM ty Wg C n R S) DC0 St 3 g w->∃T,GM P ty Wg C n R (MGo P ty Wg C n val j Next R) T S g w)(h:nV P (RM ty Wg C n R S) .disable m (ajY P (RM ty Wg C n R S) ty Wg St) g w):arG P ty Wg C n val j Next R S g w:=
 ⟨h.1,let⟨b,e,k⟩:=h.2;⟨b,e,_,aaw (λ_ _ x=>aBa a x) k⟩⟩
end
end
end
section
open Go Go.Conc Go.ConcN Go.RowKit Go.Conc.Lib Go.ConcR.Gen Go.ConcN.Gen
open Go.ConcR (KK wgBlock WgAt stA smA rd wr mk Payload Aside2 DC0)
section
variable (P:Program) (R:World->World->Prop) (Wg:Nat)
def asR(g:Goroutine)(w:World):Prop:=∃a,stepG P false g w=.go a w #[mk .disable]
def ayL(m:Nat)(g:Goroutine)(w:World):Prop:=∃a,stepG P false g w=.go a w #[mk (.releaseMerge (stA Wg))]/\Goes P false R DC0 (asR P) m a w
end
section
variable {P:Program} {L:WgLink} {R:World->World->Prop} {Wg:Nat} {c:Frame} {cs:List Frame}
def apL(H:WgLib P L)(b:∀w e,WgLive L.tWg Wg w->R w e->WgLive L.tWg Wg e)(w:World)(a:WgLive L.tWg Wg w) :
  Goes P false R DC0 (ayL P R Wg 10) 23 (G ((baseD L.done).at ⟨#[.pointer (some ⟨Wg,0,none⟩),undef,undef,undef],[]⟩ [.code (body_done L)]) (c::cs)) w:=by
 lib_facts
 simp only[body_done,body_add,doneFn,addFn,qi]
 u_reg (b _ _) a
 u_op (b _ _) a
 u_in (b _ _) a
 refine goes_call rfl rfl (by k_ne) rfl H.f_add (nm_add L) rfl ⟨by u_nil, ?_⟩
 walk_nrmf addFn
 u_c iS (b _ _) a
 u_cond true (b _ _) a
 u_c iS (b _ _) a
 u_c iS (b _ _) a
 u_reg (b _ _) a
 u_op (b _ _) a
 u_op (b _ _) a
 u_c du (b _ _) a
 u_cond true (b _ _) a
 u_reg (b _ _) a
 u_op (b _ _) a
 u_conv H.underlying_tWgP H.room_tWg (WgLive.cell0 a).choose_spec (b _ _) a
 refine qu (λe d=> ?_);replace a:=b _ _ a d;clear d;refine⟨_,uy .releaseMerge (by simp) rfl rfl (by k_ne) rfl H.f_relMerge (x_relMerge_n L) (x_relMerge_b L) (x_relMerge_x L) (x_relMerge_f L) (by simp[Act.eval,stA]), ?_⟩
 walk_nrm
 u_c du (b _ _) a
 u_c iS (b _ _) a
 u_reg (b _ _) a
 refine qu (λe d=> ?_);replace a:=b _ _ a d;clear d;exact⟨_,uL .disable (by simp) rfl rfl (by k_ne) rfl H.f_disable (x_disable_n L) (x_disable_b L) (x_disable_x L) (x_disable_f L)⟩
end
section
variable [Payload] {P:Program} {ty:TypeId} {Wg C n k:Nat} {R:World->World->Prop} {v:Value}
def asS(c:∀w,R w w)(q:∀g w,St g w->∃p,stepG P false g w=.go p w #[mk (.releaseMerge (stA Wg))]) :
  ∀{m f:Nat} {g:Goroutine} {w:World},Goes P false R DC0 (asR P) m g w->¬Goes P false R (DWs Wg FF FF C n k) St f g w:=by
 have i:∀{f:Nat} {g:Goroutine} {w:World},(∀a,R w a->asR P g a)->¬Goes P false R (DWs Wg FF FF C n k) St f g w:=λ{f g w} d b=>by
  obtain⟨p,e⟩:=d w (c w);have l:¬ ∀a,R w a->St g a:=λh=>by
   obtain⟨s,o⟩:=q _ _ (h w (c w));rw[e] at o;cases o
  cases f with
  |zero=>exact l b
  |succ f=>
   rcases b with b|⟨-,b⟩
   .exact l b
   .have:=b w (c w);rw[e,tq] at this;exact(this.1.2 (mk .disable) (by simp)).2.1 rfl
 intro m
 induction m with
 |zero=>intro f g w d b;exact i d b
 |succ m t=>
  intro f g w d b;rcases d with d|⟨-,d⟩
  .exact i d b
  .have d:=d w (c w);obtain⟨p,j,u,e,⟨rfl,rfl⟩,r⟩:=goes_elim d;have l:¬ ∀a,R j a->St g a:=λh=>by
    obtain⟨s,o⟩:=q _ _ (h j (c j));rw[e] at o;cases o
   cases f with
   |zero=>exact l b
   |succ f=>
    rcases b with b|⟨-,b⟩
    .exact l b
    .have:=b j (c j);rw[e,tq] at this;exact t r this.2
def amv(j:∀w,R w w)(r:∀a b c,R a b->R b c->R a c)(y:∀g w,St g w->∃t,stepG P false g w=.go t w #[mk (.releaseMerge (stA Wg))]) :
  ∀{m o i:Nat} {g:Goroutine} {w:World},Goes P false R DC0 (ayL P R Wg o) m g w->Goes P false R (DWs Wg FF FF C n k) St i g w->Goes P false R DC0 St m g w:=by
 have p:∀{m o i:Nat} {g:Goroutine} {w:World},(∀d,R w d->ayL P R Wg o g d)->Goes P false R (DWs Wg FF FF C n k) St i g w->Goes P false R DC0 St m g w:=λ{m o i g w} l f=>by
  refine qu λd q=> ?_;have f:=tj r f q;cases i with
  |zero=>exact f d (j _)
  |succ i=>
   rcases f with f|⟨-,f⟩
   .exact f d (j _)
   .obtain⟨t,e,s⟩:=l d q;have:=f d (j _);rw[e,tq] at this;exact absurd this.2 (asS j y s)
 intro m
 induction m with
 |zero=>intro o i g w l f;exact p l f
 |succ m x=>
  intro o i g w l f;rcases l with l|⟨u,l⟩
  .exact p l f
  .cases i with
   |zero=>exact .inl f
   |succ i=>
    rcases f with f|⟨-,f⟩
    .exact .inl f
    .refine .inr ⟨u,λd q=> ?_⟩;obtain⟨t,z,A,e,hd,v⟩:=goes_elim (l d q);have:=f d q;rw[e,tq] at this ⊢;exact⟨hd,x v this.2⟩
end
section
variable [Payload] {P:Program} {L:WgLink} {Wg C n κ:Nat} {val:Nat->Value} {R S:ak} {c:Frame} {cs:List Frame} {qt:Nat}
def apM(H:WgLib P L)(q:c.mode=.returning)(D:QuitsD P qt 0 (G c cs))(w:World)(v:WgLive L.tWg Wg w)(B:Has C (2*κ) (val (2*κ)) w)(o:Has C (2*κ+1) (val (2*κ+1)) w) :
  bD P false (jz L.tWg Wg C (2*n) R (dB κ)) (Gua Wg C (2*n) R (dB κ)) (agi P L.tWg Wg C n val κ) S (G ((baseD L.done).at ⟨#[.pointer (some ⟨Wg,0,none⟩),undef,undef,undef],[]⟩ [.code (body_done L)]) (c::cs)) w:=by
 have J:=doneN H (Own:=FF) (Rd:=FF) (Wg:=Wg) (C:=C) (n:=2*n) (Low:=0) (k:=2*κ+1) (val:=val (2*κ)) q D w ⟨v,B⟩;have K:=apL (Wg:=Wg) (R:=RW L.tWg Wg C (2*n) 0 (2*κ+1-1)) (c:=c) (cs:=cs) H (λ_ _ h r=>r.live h) w v;have E:=amv (St:=AtR0 P L.tWg Wg C (2*n) 0 (2*κ+1) (val (2*κ))) (λw=>⟨λ_ _ _ _=>rfl,id,id,rfl⟩) (λa b c x y=>⟨λb o u z=>(y.low b o u z).trans (x.low b o u z),y.live∘x.live,y.pay∘x.pay,y.cell.trans x.cell⟩)
  (λg w h=>let⟨_,_,s,e,_⟩:=h;⟨s,e⟩) K J
 have t:∀{m:Nat} {g:Goroutine} {w:World},Has C (2*κ+1) (val (2*κ+1)) w->Goes P false (RW L.tWg Wg C (2*n) 0 (2*κ+1-1)) DC0 (AtR0 P L.tWg Wg C (2*n) 0 (2*κ+1) (val (2*κ))) m g w->
   bD P false (jz L.tWg Wg C (2*n) R (dB κ)) (Gua Wg C (2*n) R (dB κ)) (agi P L.tWg Wg C n val κ) S g w:=by
  have j:∀{w d:World},jz L.tWg Wg C (2*n) R (dB κ) S w d->RW L.tWg Wg C (2*n) 0 (2*κ+1-1) w d:=λf=>jz.rw (i:=2*κ) f (by show 2*κ / 2=κ;omega);have l:∀{w d:World},Has C (2*κ+1) (val (2*κ+1)) w->jz L.tWg Wg C (2*n) R (dB κ) S w d->Has C (2*κ+1) (val (2*κ+1)) d:=λh f=>(f.cell (2*κ+1) (by show(2*κ+1) / 2=κ;omega)).trans h;intro m
  induction m with
  |zero=>intro g w p h;exact .stop λd f=>⟨h d (j f),l p f⟩
  |succ m M=>
   intro g w p h;rcases h with h|⟨F,h⟩
   .exact .stop λd f=>⟨h d (j f),l p f⟩
   .refine .step F λd f=> ?_;obtain⟨s,A,N,e,⟨rfl,rfl⟩,I⟩:=goes_elim (h d (j f));exact⟨s,A,#[],S,e,⟨λ_ _ _ _=>rfl,am _,rfl,id,λ_ _=>rfl,λ_ h=>h,λ_ h=>.inl h,by simp⟩,M (l p f) I⟩
 exact t o E
end
end
section
open Go Go.Conc Go.ConcN Go.RowKit
open Go.ConcR (KK wgBlock WgAt stA smA rd wr mk Payload DC0)
instance aEt:Payload:=⟨136⟩
structure Wx where
 w0:World
 Wg:Nat
 C:Nat
 n2:Nat
 κ:Nat
 R:ak
 Rg:Nat->Prop
 key:Int
 A:Option Addr
 n:Nat
 c:Nat
 l:List ij
 nm:Int
 bk:Nat
 bp:Nat
 bn:Nat
 ba:Nat
 bi:Nat
 tWg:TypeId
structure Wx.Ok (X:Wx):Prop where
 hN:gN<=X.w0.heap.size
 gl:∀g∈gL,X.Rg g
 gr:∀g∈gL,dU X.w0 g
 k1:1<=X.key
 k2:X.key<=99
 hl:X.l.length=X.n
 hc:X.n<=X.c
 hcm:(X.c:Int)<=9223372036854775807
 rd:RdP X.w0 X.A 0 X.l
 rgp:RgP X.Rg X.w0 X.A X.l
 al:∀a,X.A=some a->X.Rg a.block
 nm:In_ X.nm
 kn:X.κ<X.n2
 rows:∀b,X.Rg b->X.R b
 rk:X.R X.bk/\X.w0.cell? ⟨X.bk,0,none⟩=some (.int .i64 X.key)
 rp:X.R X.bp/\X.w0.cell? ⟨X.bp,0,none⟩=some (.slice X.A X.n X.c)
 rn:X.R X.bn/\X.w0.cell? ⟨X.bn,0,none⟩=some (.int .i64 X.nm)
 ra:X.R X.ba/\X.w0.cell? ⟨X.ba,0,none⟩=some (.slice (some ⟨X.C,0,none⟩) X.n2 X.n2)
 ri:X.R X.bi/\X.w0.cell? ⟨X.bi,0,none⟩=some (.int .i64 X.κ)
 rlt:∀b,X.R b->b<X.w0.heap.size
 rC:¬X.R X.C
 rW:¬X.R X.Wg
 cW:X.C≠X.Wg
abbrev Wx.Rl(X:Wx):ak->World->World->Prop:=jz X.tWg X.Wg X.C (2*X.n2) X.R (dB X.κ)
abbrev Wx.Gr(X:Wx):ak->ak->World->World->Array Event->Prop:=Gua X.Wg X.C (2*X.n2) X.R (dB X.κ)
def Wx.mD(X:Wx):px X.Rl X.R:=⟨λS w=>jz.refl _ _ _ _,λ_ _ _ _=>jz.trans,λ_ _ _ h=>⟨h.keep,h.size,h.os⟩⟩
structure Wx.Inv (X:Wx) (S:ak) (w:World):Prop where
 r:∀b,X.R b->w.heap[b]?=X.w0.heap[b]?
 s:∀b,S b->¬X.R b/\b≠X.C/\b≠X.Wg
 c:X.C<w.heap.size
 wg:X.Wg<w.heap.size
 sz:X.w0.heap.size<=w.heap.size
 live:WgLive X.tWg X.Wg w
 pay:PayAt X.C (2*X.n2) w
 os:w.ou=X.w0.ou
section
variable {X:Wx} {S S':ak} {w w' w1:World} {es:Array Event}
def Wx.Inv.rely(h:X.Inv S w)(a:X.Rl S w w1):X.Inv S w1:=
 ⟨λb c=>(a.keep b (.inr c)).trans (h.r b c),h.s,aE h.c a.size,aE h.wg a.size,bd h.sz a.size,a.live h.live,a.pay h.pay,a.os.trans h.os⟩
def Wx.step(s:X.Ok)(h:X.Inv S w)(g:pw X.R S S' w w' es):X.Gr S S' w w' es/\X.Inv S' w':=by
 obtain⟨l,k,q,rfl,A⟩:=g;have m:w'.heap[X.C]?=w.heap[X.C]?:=l _ h.c λd=>(h.s _ d).2.1 rfl;have r:w'.heap[X.Wg]?=w.heap[X.Wg]?:=l _ h.wg λd=>(h.s _ d).2.2 rfl;refine⟨⟨λb c z _=>l b c z,k,q,λ⟨n,a,b⟩=>⟨n,m.trans a,b⟩,λi _=>ul m i,λb c=>.inl c,λb c=>c,λe D=> ?_⟩, ?_⟩
 .obtain⟨B,o,C⟩:=A e D;refine⟨λx v=>(B x v).elim .inl λy=>.inr (.inr y),λj=> ?_,λj=> ?_,λj=> ?_,C⟩
  .rcases o _ j with⟨f,e⟩|e<;>cases e
  .rcases o _ j with⟨f,e⟩|e<;>cases e
  .rcases o _ j with⟨f,e⟩|e<;>cases e
 .have p:∀b,X.R b->b<w.heap.size:=λb c=>aE (s.rlt b c) h.sz;refine⟨λb c=>(l b (p b c) λd=>(h.s b d).1 c).trans (h.r b c),λb c=> ?_,aE h.c k,aE h.wg k,bd h.sz k, ?_, ?_,q.trans h.os⟩
  .rcases c with c|⟨c,_⟩
   .exact h.s b c
   .refine⟨λu=> ?_,λe=> ?_,λe=> ?_⟩
    .have:=p b u;omega
    .have:=h.c;omega
    .have:=h.wg;omega
  .obtain⟨st,sm,t⟩:=h.live;exact⟨st,sm,r.trans t⟩
  .obtain⟨n,a,b⟩:=h.pay;exact⟨n,m.trans a,b⟩
def Wx.lift(c:X.Ok)(h:bD prog false X.Rl (pw X.R) Stop S g w)(hi:X.Inv S w):bD prog false X.Rl X.Gr (λS g w=>Stop S g w/\X.Inv S w) S g w:=
 bD.inv (Rl:=X.Rl) (Gr:=pw X.R) (Gr2:=X.Gr) (Stop:=Stop) (Inv:=X.Inv) (λ_ _ _ a b=>a.rely b) (λ_ _ _ _ _ a b=>Wx.step c a b) (λ_ _ _ a b=>⟨a,b⟩) h hi
def Wx.Inv.cell(h:X.Inv S w)(a:X.R b)(c:X.w0.cell? ⟨b,i,none⟩=some v):w.cell? ⟨b,i,none⟩=some v:=(ul (h.r b a) i).trans c
end
end
section
open Go Go.Conc Go.ConcN Go.RowKit
open Go.ConcR (KK wgBlock WgAt stA smA rd wr mk Payload DC0)
abbrev nCl:FuncId:=72
def kX:Code->Code
 |.seq a _=>a
 |c=>c
def uk:Code->Array Oper
 |.region _ o _=>o
 |_=>#[]
noncomputable def anT:Code:=f72.body.getD .skip
noncomputable def nQ:Array Oper:=uk (kX anT)
noncomputable def aQ:Array Oper:=uk (cf anT)
def asT:anT=.seq (.region 0 nQ false) (.region 1 aQ true):=rfl
def anU:aQ.size=8:=rfl
def aBb:∃p,aQ[0]?=some ⟨some 6,.load 125 (.tmp 4),125,p,#[],none⟩:=⟨_,rfl⟩
def aBc:∃p,aQ[1]?=some ⟨some 7,.load 3 (.tmp 5),3,p,#[],none⟩:=⟨_,rfl⟩
def aBd:∃p,aQ[2]?=some ⟨some 8,.load 3 (.tmp 1),3,p,#[],none⟩:=⟨_,rfl⟩
def aBe:∃p,aQ[3]?=some ⟨some 9,.load 23 (.tmp 2),23,p,#[],none⟩:=⟨_,rfl⟩
def aBf:∃p,aQ[4]?=some ⟨some 10,.load 3 (.tmp 3),3,p,#[],none⟩:=⟨_,rfl⟩
def aBg:∃p,aQ[5]?=some ⟨some 11,.call ⟨.value (.func 74),#[.tmp 8,.tmp 9,.tmp 10],#[3,23,3]⟩,136,p,#[⟨2,.data⟩,⟨3,.data⟩,⟨4,.data⟩],none⟩:=⟨_,rfl⟩
def aBh:∃p,aQ[6]?=some ⟨some 12,.indexAddr 125 (.tmp 6) (.tmp 7),0,p,#[⟨0,.data⟩,⟨1,.data⟩,⟨0,.phase⟩,⟨1,.phase⟩,⟨2,.phase⟩,⟨3,.phase⟩,⟨4,.phase⟩,⟨5,.phase⟩],none⟩:=⟨_,rfl⟩
def aBi:∃p,aQ[7]?=some ⟨none,.store 136 (.tmp 12) (.tmp 11),0,p,#[⟨6,.data⟩,⟨5,.data⟩,⟨5,.chain⟩,⟨0,.phase⟩,⟨1,.phase⟩,⟨2,.phase⟩,⟨3,.phase⟩,⟨4,.phase⟩,⟨5,.phase⟩],none⟩:=⟨_,rfl⟩
def jD(L:Nat->Bool):Nat->Bool
 |5=>L 2&&L 3&&L 4
 |6=>L 0&&L 1&&L 2&&L 3&&L 4&&L 5
 |7=>L 6&&L 5&&L 0&&L 1&&L 2&&L 3&&L 4
 |_=>true
def anV(L:Nat->Bool)(hi:i<8):((aQ[i]?).map (λo:Oper=>o.after.all λe=>!Region.binds .any e||L e.on)).getD false=jD L i:=by
 have:i=0\/i=1\/i=2\/i=3\/i=4\/i=5\/i=6\/i=7:=by omega
 rcases this with rfl|rfl|rfl|rfl|rfl|rfl|rfl|rfl
 .obtain⟨p,e⟩:=aBb;rw[e];simp[jD]
 .obtain⟨p,e⟩:=aBc;rw[e];simp[jD]
 .obtain⟨p,e⟩:=aBd;rw[e];simp[jD]
 .obtain⟨p,e⟩:=aBe;rw[e];simp[jD]
 .obtain⟨p,e⟩:=aBf;rw[e];simp[jD]
 .obtain⟨p,e⟩:=aBg;rw[e];simp[Region.binds,jD,vO]
 .obtain⟨p,e⟩:=aBh;rw[e];simp[Region.binds,jD];cases L 0<;>cases L 1<;>simp[vO]
 .obtain⟨p,e⟩:=aBi;rw[e];simp[Region.binds,jD];cases L 5<;>cases L 6<;>simp[vO]
def afq(d:listed.size=8) :i∈Region.ready .any aQ listed↔i<8/\listed.getD i false=false/\jD (λj=>listed.getD j false) i=true:=by
 unfold Region.ready;rw[sB,qh,anU];constructor
 .rintro⟨b,a⟩;rw[anV (λj=>listed.getD j false) b] at a;simp only[fd,uh] at a;refine⟨b, ?_,a.2⟩;have:=a.1;rw[ga,fm (by omega)] at this ⊢;exact this
 .rintro⟨b,a,c⟩;refine⟨b, ?_⟩;rw[anV (λj=>listed.getD j false) b,c];rw[ga,fm (by omega)] at a ⊢;simp only[qi] at a ⊢;rw[a];rfl
def unW(listed:Array Bool):Nat:=(List.range 8).countP λi=>!listed.getD i false
def agF{p q:Nat->Bool}:∀{l:List Nat} {x:Nat},(∀y,q y=true->p y=true)->x∈l->p x=true->q x=false->l.countP q<l.countP p
 |[],x,_,b,_,_=>by cases b
 |a::l,x,h,b,hp,hq=>by
  rw[List.countP_cons,List.countP_cons];have e:l.countP q<=l.countP p:=List.countP_mono_left λy _=>h y;rcases jp.1 b with rfl|b
  .rw[hp,hq];simp;omega
  .have:=agF h b hp hq;have f:=h a;cases d:q a<;>cases c:p a<;>simp_all<;>omega
def ie(hi:i<listed.size):(listed.setIfInBounds i true).getD j false=if j=i then true else listed.getD j false:=by
 rw[ga,ga,qd];by_cases e:i=j
 .subst e;simp[hi]
 .rw[be e,be (λx=>e x.symm)]
def avu(b:listed.size=8)(hi:i<8)(h:listed.getD i false=false):unW (listed.setIfInBounds i true)<unW listed:=by
 refine agF (x:=i) (λy a=> ?_) (qh.2 hi) (by rw[h];rfl) (by rw[ie (by omega)];simp);rw[ie (by omega)] at a;by_cases e:y=i
 .simp[e] at a
 .simpa[e] using a
def aBj(m:listed.size=8)(h:Region.ready .any aQ listed=[]\/unW listed=0):∀i,i<8->listed.getD i false=true:=by
 rcases h with h|h
 .have a:∀i,i<8->jD (λj=>listed.getD j false) i=true->listed.getD i false=true:=λi b hd=>by
   cases e:listed.getD i false with
   |true=>rfl
   |false=>
    have:i∈Region.ready .any aQ listed:=(afq m).2 ⟨b,e,hd⟩;rw[h] at this;cases this
  have g:=a 0 (by omega) rfl;have k:=a 1 (by omega) rfl;have c:=a 2 (by omega) rfl;have d:=a 3 (by omega) rfl;have f:=a 4 (by omega) rfl;have l:=a 5 (by omega) (by simp only[jD,c,d,f];rfl);have n:=a 6 (by omega) (by simp only[jD,g,k,c,d,f,l];rfl);have o:=a 7 (by omega) (by simp only[jD,g,k,c,d,f,l,n];rfl);intro i b;have:i=0\/i=1\/i=2\/i=3\/i=4\/i=5\/i=6\/i=7:=by omega
  rcases this with rfl|rfl|rfl|rfl|rfl|rfl|rfl|rfl<;>assumption
 .intro i b;have:=List.countP_eq_zero.1 h i (qh.2 b);simpa using this
end
section
open Go Go.Conc Go.ConcN Go.RowKit
open Go.ConcR (KK wgBlock WgAt stA smA rd wr mk Payload DC0)
def Wx.cap(X:Wx):Nat->Value
 |1=>.pointer (some ⟨X.bk,0,none⟩)
 |2=>.pointer (some ⟨X.bp,0,none⟩)
 |3=>.pointer (some ⟨X.bn,0,none⟩)
 |4=>.pointer (some ⟨X.ba,0,none⟩)
 |_=>.pointer (some ⟨X.bi,0,none⟩)
def Wx.val(X:Wx)(v:ByteArray×Bool):Nat->Value
 |0=>.slice (some ⟨X.C,0,none⟩) X.n2 X.n2
 |1=>.int .i64 X.κ
 |2=>.int .i64 X.key
 |3=>.slice X.A X.n X.c
 |4=>.int .i64 X.nm
 |5=>.agg #[.string v.1,.bool v.2]
 |_=>.pointer (some ⟨X.C,2*X.κ,none⟩)
abbrev FW(dd:Deferred)(T:Array Value)(k:List Item):Frame:=⟨nCl,T,k,[dd],.run,.deferred,none⟩
structure RI (X:Wx) (v:ByteArray×Bool) (listed:Array Bool) (T:Array Value) (S:ak) (w:World):Prop where
 sz:T.size=13
 cap:∀t,1<=t->t<=5->T.getD t undef=X.cap t
 done:∀j,j<7->listed.getD j false=true->T.getD (6+j) undef=X.val v j
 st:listed.getD 7 false=true->Has X.C (2*X.κ) (.string v.1) w/\Has X.C (2*X.κ+1) (.bool v.2) w
 ord:listed.getD 7 false=true->∀j,j<7->listed.getD j false=true
 inv:X.Inv S w
section
variable {P:Program} {m:Bool} {fr:Frame} {xs base:List Frame} {ops:Array Oper} {i:Nat} {rest:List Nat} {k:List Item} {o:Oper} {w w2:World} {es:Array Event} {v:Value}
def asU (f:fr.mode=.run) (g:(fr.kind ==.early)=false) (b:fr.roundOf=none) (e:fr.todo=.inRegion ops (i::rest)::k) (n:ops[i]?=some o) (q:o.guard=none)
  (p:(execOp fr.eval o).runT P w #[]=(.ok (.value v) w2,es)):stepG P m (Gl (fr::xs) base) w=.go (Gl (fr.finish v::xs) base) w2 (seen P fr.fn es):=by
 obtain⟨fn,a,j,d,t,c,s⟩:=fr;dsimp only at f g b e;subst f b e;have l:∀y,Region.wanted o y=true:=λy=>by unfold Region.wanted;rw[q]
 have r:stepG P m (Gl (⟨fn,a,.inRegion ops (i::rest)::k,d,.run,c,none⟩::xs) base) w =
   stepG.apply P true ⟨fn,a,.inRegion ops (i::rest)::k,d,.run,c,none⟩ (xs++base) none (execOp (Frame.eval ⟨fn,a,.inRegion ops (i::rest)::k,d,.run,c,none⟩) o) w:=by
  simp[Gl,stepG,stepG.exec,stepG.oper,Frame.oper?,n,l]
 rw[r];unfold stepG.apply;simp only[p,pb];simp[GStep.after,g,Gl]
def aj0 (f:fr.mode=.run) (g:(fr.kind ==.early)=false) (b:fr.roundOf=none) (e:fr.todo=.inRegion ops (i::rest)::k) (n:ops[i]?=some o) (q:o.guard=none)
  (p:(execOp fr.eval o).runT P w #[]=(.ok .skip w2,es)):stepG P m (Gl (fr::xs) base) w=.go (Gl (fr.finish undef::xs) base) w2 (seen P fr.fn es):=by
 obtain⟨fn,a,j,d,t,c,s⟩:=fr;dsimp only at f g b e;subst f b e;have l:∀y,Region.wanted o y=true:=λy=>by unfold Region.wanted;rw[q]
 have r:stepG P m (Gl (⟨fn,a,.inRegion ops (i::rest)::k,d,.run,c,none⟩::xs) base) w =
   stepG.apply P true ⟨fn,a,.inRegion ops (i::rest)::k,d,.run,c,none⟩ (xs++base) none (execOp (Frame.eval ⟨fn,a,.inRegion ops (i::rest)::k,d,.run,c,none⟩) o) w:=by
  simp[Gl,stepG,stepG.exec,stepG.oper,Frame.oper?,n,l]
 rw[r];unfold stepG.apply;simp only[p,pb];simp[GStep.after,g,Gl]
end
noncomputable def eN:Frame:={(default:Frame) with fn:=prog.funcs.size,defers:=[],mode:=.panicking [goexitEntry]}
section
variable {X:Wx} {v:ByteArray×Bool} {listed:Array Bool} {T T':Array Value} {S:ak} {w w1:World} {dd:Deferred} {k:List Item} {rest:List Nat}
def aca(h:Has X.C (2*X.κ) (.string v.1) w/\Has X.C (2*X.κ+1) (.bool v.2) w)(a:X.Rl S w w1):Has X.C (2*X.κ) (.string v.1) w1/\Has X.C (2*X.κ+1) (.bool v.2) w1:=
 ⟨(a.cell (2*X.κ) (by show 2*X.κ / 2=X.κ;omega)).trans h.1,(a.cell (2*X.κ+1) (by show(2*X.κ+1) / 2=X.κ;omega)).trans h.2⟩
def RI.rely(h:RI X v listed T S w)(a:X.Rl S w w1):RI X v listed T S w1:=⟨h.sz,h.cap,h.done,λe=>aca (h.st e) a,h.ord,h.inv.rely a⟩
def RI.put(h:RI X v listed T S w)(k:listed.size=8)(hi:i<7)(b:Tm [6+i] T T')(d:T'.getD (6+i) undef=X.val v i):RI X v (listed.setIfInBounds i true) T' S w:=by
 refine⟨b.size.trans h.sz,λt f g=>(b.same t (by simp;omega)).trans (h.cap t f g),λj c e=> ?_,λe=> ?_,λe j c=> ?_,h.inv⟩
 .by_cases a:j=i
  .subst a;exact d
  .rw[ie (by omega),be a] at e;exact(b.same (6+j) (by simp;omega)).trans (h.done j c e)
 .rw[ie (by omega),be (by omega)] at e;exact h.st e
 .rw[ie (by omega),be (by omega)] at e;rw[ie (by omega)];by_cases a:j=i
  .rw[dk a]
  .rw[be a];exact h.ord e j c
def asV(hi:X.Inv S w)(g:X.Ok)(c:X.R b):X.Gr S S w w (seen prog f #[⟨.cell ⟨b,0,none⟩,false,false⟩]):=by
 refine⟨λ_ _ _ _=>rfl,am _,rfl,id,λ_ _=>rfl,λ_ h=>h,λ_ h=>.inl h,λe i=> ?_⟩;have a:=sR i;simp only[sd,jp,rA,tR] at a;subst a;refine⟨λx d=>.inr (.inr ?_),(λe=>by cases e),(λe=>by cases e),(λe=>by cases e), ?_⟩
 .simp[MemAct.ofEvent,MemAct.touch?] at d;rw[<-d];exact⟨c,rfl⟩
 .exact aE (g.rlt b c) hi.sz
def aj1 :X.Gr S S w w (seen prog f #[]):=
 ⟨λ_ _ _ _=>rfl,am _,rfl,id,λ_ _=>rfl,λ_ h=>h,λ_ h=>.inl h,λe a=>by cases(by simpa using sR a:False)⟩
def aj2{x:Operand}{A:Addr}{dst:Option Tmp}{ty:TypeId}{pos:String}(b:P.underlying t=some d)(a:aju d=true)(c:e x=.pointer (some A))(f:w.cell? A=some u) :
  (execOp e ⟨dst,.load t x,ty,pos,af,gd⟩).runT P w #[]=(.ok (.value u) w,#[⟨.cell A,false,false⟩]):=by
 cases d<;>first|(cases a;done)|simp[execOp,c,Instr.loadAt,Instr.sureAddr,loadVar,isAgg,lm b,f]
def acb (n:X.Ok) (h:RI X v listed T S w) {t ty : Nat}  (hi:i<5) (a:∃p,aQ[i]?=some ⟨some (6+i),.load ty (.tmp t),ty,p,#[],none⟩) (q:prog.underlying ty=some d) (l:aju d=true)
  (c:T.getD t undef=.pointer (some ⟨b,0,none⟩)) (e:X.R b/\X.w0.cell? ⟨b,0,none⟩=some (X.val v i))
  (K:∀T' g,RI X v listed T S g->Tm [6+i] T T'->T'.getD (6+i) undef=X.val v i->bD prog false X.Rl X.Gr Stop S (Gl [FW dd T' (.inRegion aQ rest::k)] [eN]) g) :
  bD prog false X.Rl X.Gr Stop S (Gl [FW dd T (.inRegion aQ (i::rest)::k)] [eN]) w:=by
 obtain⟨p,a⟩:=a;refine .step rfl λw1 o=> ?_;have f:=h.rely o;refine⟨_,w1,_,S,asU (xs:=[]) (base:=[eN]) rfl rfl rfl rfl a rfl (aj2 q l (x:=.tmp t) (A:=⟨b,0,none⟩) c (f.inv.cell e.1 e.2)),asV f.inv n e.1, ?_⟩;have m:Frame.finish (FW dd T (.inRegion aQ (i::rest)::k)) (X.val v i)=FW dd (T.setIfInBounds (6+i) (X.val v i)) (.inRegion aQ rest::k):=by
  simp only[Frame.finish,a,qB]
 rw[m];have j:6+i<T.size:=by rw[h.sz];omega
 exact K _ w1 f (.one (by simp) λt c=>by rw[aD j,be c]) (by rw[aD j,dk rfl])
def asW(F:FaT P){x y:Operand}{a:Addr}{dst:Option Tmp}{ty:TypeId}{pos:String}(f:e x=.slice (some a) n c)(b:e y=.int .i64 j)(g:j<n) :
  (execOp e ⟨dst,.indexAddr 125 x y,ty,pos,af,gd⟩).runT P w #[]=(.ok (.value (.pointer (some (a.add (j*2))))) w,#[]):=by
 obtain⟨i,d,k, -⟩:=F.adK;simp[execOp,f,b,Instr.indexAt,asIntOf,lm F.ahL,g,sizeOf,typeInfo,d,k]
def asX (e:X.Ok) (h:RI X v listed T S w) (g:listed.getD 0 false=true) (l:listed.getD 1 false=true)
  (K:∀T' b,RI X v listed T S b->Tm [6+6] T T'->T'.getD (6+6) undef=X.val v 6->bD prog false X.Rl X.Gr Stop S (Gl [FW dd T' (.inRegion aQ rest::k)] [eN]) b) :
  bD prog false X.Rl X.Gr Stop S (Gl [FW dd T (.inRegion aQ (6::rest)::k)] [eN]) w:=by
 obtain⟨p,a⟩:=aBh;refine .step rfl λw1 f=> ?_;refine⟨_,w1,_,S,asU (xs:=[]) (base:=[eN]) rfl rfl rfl rfl a rfl (asW faT (x:=.tmp 6) (y:=.tmp 7) (h.done 0 (by omega) g) (h.done 1 (by omega) l) e.kn),aj1, ?_⟩;have j:(⟨X.C,0,none⟩:Addr).add (X.κ*2)=⟨X.C,2*X.κ,none⟩:=by rw[iJ,mc,tT]
 rw[j];have d:Frame.finish (FW dd T (.inRegion aQ (6::rest)::k)) (X.val v 6)=FW dd (T.setIfInBounds 12 (X.val v 6)) (.inRegion aQ rest::k):=by
  simp only[Frame.finish,a,qB]
 have c:12<T.size:=by rw[h.sz];omega
 have:=K (T.setIfInBounds 12 (X.val v 6)) w1 (h.rely f) (.one (by simp) λt i=>by rw[aD c,be i]) (by rw[aD c,dk rfl]);rw[<-d] at this;exact this
end
end
end Go.Proofs.YtmicddpknimniaaGreatDoor