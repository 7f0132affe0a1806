/- A part. -/
import Derived.Test.YtlggbfanooejbaaGreatDoorG6
import Derived.Conc.WgGenN3
set_option maxRecDepth 100000
set_option maxHeartbeats 8000000
set_option linter.all false
open Go Go.Conc Go.ConcN Go.RowKit Go.Proofs.Tryz Go.Proofs.YtlggbfanooejbaaGreatDoor
variable {Rr S:aq} {x:Ls} {Y X C b c i j k m n:Nat} {key:Int} {ρ:Ren} {main:Bool} {v:Value} {w w' w0:World} {f:FuncId} {t:TypeId} {P:Program} {l:List fS} {xs:List Ls} {Rg:Nat→Prop} {cZ:List Int} {g:Goroutine} {s:ByteArray} {z:Nat × Nat} {Q:Array Oper} {u:Option Nat} {W T a cs y:Array Value} {A:Option Addr} {o:Option (List Nd)} {U St:Goroutine→World→Prop} {R:List Frame→World→Prop} {V:List (ByteArray × Bool)} {Z:Int→List fS→Int→ByteArray × Bool}
namespace Go.Proofs.YtlggbfanooejbaaGreatDoor
def dq:=@Go.Conc.stepG_region_end
def gt:=@Go.Conc.stepG_seq
def qR:=@Go.Conc.stepG_skip
def rF:=@Go.Conc.stepG_ret'
def tj:=@Array.getElem?_replicate
def tV:=@Go.Conc.stepG_markAt
def uh:=@Go.Conc.stepG_mark0
def uH:=@Go.Proofs.Tryz.zeroValue4
def uI:=@Go.Proofs.Tryz.zeroValue3
def uJ:=@Go.Proofs.Tryz.zeroValue0
def vh:=@List.mem_iff_getElem
def vi:=@List.getElem?_append
def vp:=@Array.getElem?_ofFn
section
variable {β:Bool}
open Go.RowKit
def FFe:Flat (ByteArray×Bool):=⟨2,λx=>[.string x.1,.bool x.2],λx=>x.1.size<=maxLen,λ_=>rfl,λx u a=>by
 simp only[lw,rc,tO] at a;rcases a with rfl|rfl<;>rfl,by decide⟩
def asW:((aj true).info? 171).map (λi=>(i.zero,i.size,i.bytes))=some (some (.agg #[.string ⟨#[]⟩,.bool false]),2,24):=by kernel_rfl
@[go_sem] theorem ayv(n:Int)(B:Option Addr)(m c:Nat)(w:World):(Instr.field 40 (.agg #[.int .i64 n,.slice B m c]) 0).run (aj true) w=.ok (.int .i64 n) w:=by simp[Instr.field,li wU,asAgg,go_sem]
@[go_sem] theorem ayw(n:Int)(B:Option Addr)(m c:Nat)(w:World):(Instr.field 40 (.agg #[.int .i64 n,.slice B m c]) 1).run (aj true) w=.ok (.slice B m c) w:=by simp[Instr.field,li wU,asAgg,go_sem]
@[go_sem] theorem ayx(n:Int)(s:ByteArray)(w:World):(Instr.field 64 (.agg #[.int .i64 n,.string s]) 0).run (aj true) w=.ok (.int .i64 n) w:=by simp[Instr.field,li wT,asAgg,go_sem]
@[go_sem] theorem ayy(n:Int)(s:ByteArray)(w:World):(Instr.field 64 (.agg #[.int .i64 n,.string s]) 1).run (aj true) w=.ok (.string s) w:=by simp[Instr.field,li wT,asAgg,go_sem]
def avR(key:Int)(l:List fS)(cZ:List Int)(w:World)(e:Ending)(w':World):Prop:=
 ∃v b,e=.returned (.tuple #[v,.bool b])/\(b=true↔∀n∈cZ,(bI key l n).2=true)/\(b=true->aQ mv 9 w' w.heap.size v (cZ.map λn=>(bI key l n).1))/\Below w.heap.size w w'
noncomputable def akT(key:Int)(l:List fS)(ns:List Int):List ByteArray:=ns.map λn=>(bI key l n).1
noncomputable def ov(key:Int)(l:List fS)(cZ:List Int)(k:Nat):List (ByteArray×Bool):=(cZ.take k).map (bI key l)++List.replicate (cZ.length-k) (⟨#[]⟩,false)
def asX(h:k<cZ.length):(ov key l cZ k)[k]?=some (⟨#[]⟩,false):=by
 unfold ov;have a:((cZ.take k).map (bI key l)).length=k:=by rw[pr,lm];omega
 rw[pK (by omega),a,uA,tu,dj (by omega)]
def aqt{n:Int}(h:cZ[k]?=some n):(ov key l cZ k).set k (bI key l n)=ov key l cZ (k+1):=by
 have b:=aH h;unfold ov;have c:((cZ.take k).map (bI key l)).length=k:=by rw[pr,lm];omega
 rw[uR _ _ (by omega),c,uA,kw h,pI,sL]
 congr 1
 obtain⟨m,a⟩:∃m,cZ.length-k=m+1:=⟨cZ.length-k-1,by omega⟩;rw[a,List.replicate_succ,qd,show cZ.length-(k+1)=m by omega];rfl
def anW:∀n:Nat,(madeCells #[.string ⟨#[]⟩,.bool false] (n*2)).toList=dt FFe (List.replicate n (⟨#[]⟩,false)):=λn=>by
 apply tD;intro j;rcases mx j (n*2) with h|h
 .have d:j / 2<n:=by omega
  have b:(List.replicate n ((⟨#[]⟩,false):ByteArray×Bool))[j / 2]?=some (⟨#[]⟩,false):=by rw[tu,dj d]
  have e:j=j / 2*2+j % 2:=by omega
  rw[dl];have c:(madeCells #[.string ⟨#[]⟩,.bool false] (n*2))[j]?=some (#[Value.string ⟨#[]⟩,Value.bool false][j % 2]!):=by
   unfold madeCells;simp[h]
  rw[c];rcases Nat.mod_two_eq_zero_or_one j with a|a
  .have:=fZ FFe _ (j / 2) 0 _ (.string ⟨#[]⟩) b rfl;rw[show j / 2*FFe.sz+0=j by show j / 2*2+0=j;omega] at this;rw[this,a];rfl
  .have:=fZ FFe _ (j / 2) 1 _ (.bool false) b rfl;rw[show j / 2*FFe.sz+1=j by show j / 2*2+1=j;omega] at this;rw[this,a];rfl
 .rw[dl,pF (by rw[rA];exact h),qM (by rw[eG,pL];exact h)]
def aqu(w:World)(n:Nat)(a:n<=maxLen)(h:cZ.length=n:=by rfl) :
  aQ FFe 171 (w.alloc (.cells (madeCells #[.string ⟨#[]⟩,.bool false] (n*2)) 171)) w.heap.size (.slice (some ⟨w.heap.size,0,none⟩) n n) (ov key l cZ 0):=by
 have e:ov key l cZ 0=List.replicate n (⟨#[]⟩,false):=by unfold ov;rw[h];rfl
 rw[e];refine⟨eG FFe _,.inr ⟨w.heap.size,n,_,by rw[pL],ap _,gK.new _ _ _,by rw[pL];exact ap _,a,by rw[rA];rfl, ?_⟩⟩;rw[anW,pL];exact nf (by rw[eG,pL];exact ap _)
def amu{base g : Nat}{xs:List (ByteArray×Bool)}(h:aQ FFe 171 w base (.slice (some ⟨g,0,none⟩) n n) xs){x:ByteArray×Bool}(a:xs[k]?=some x) :
  w.cell? ⟨g,k*2,none⟩=some (.string x.1)/\w.cell? ⟨g,k*2+1,none⟩=some (.bool x.2):=by
 obtain⟨A,c,e⟩:=aQ.form h;simp only[sK] at e;obtain⟨-,rfl, -⟩:=e;exact⟨h.cell a (j:=0) rfl,h.cell a (j:=1) rfl⟩
def asY{base g : Nat}(h:aQ FFe 171 w base (.slice (some ⟨g,0,none⟩) n n) (ov key l cZ k))(m:k<cZ.length) :
  w.cell? ⟨g,k*2,none⟩=some (.string ⟨#[]⟩)/\w.cell? ⟨g,k*2+1,none⟩=some (.bool false)/\(∀j,w.frozen? ⟨g,j,none⟩=false)/\(∀j (p:Addr) u,(w.setCell p u).frozen? ⟨g,j,none⟩=false)/\
  ∀y:ByteArray×Bool,aQ FFe 171 ((w.setCell ⟨g,k*2,none⟩ (.string y.1)).setCell ⟨g,k*2+1,none⟩ (.bool y.2)) base (.slice (some ⟨g,0,none⟩) n n) ((ov key l cZ k).set k y):=by
 obtain⟨A,c,e⟩:=aQ.form h;simp only[sK] at e;obtain⟨-,rfl, -⟩:=e;have a:=asX (key:=key) (l:=l) m;obtain⟨o,q⟩:=amu h a;refine⟨o,q,λj=>h.frozen rfl j,λj p u=> ?_,λy=> ?_⟩
 .rw[tT];exact h.frozen rfl j
 .have d:=h.put a (j:=0) (y:=(y.1,false)) (u:=.string y.1) (by decide) rfl;have f:aQ FFe 171 (w.setCell ⟨g,k*FFe.sz+0,none⟩ (.string y.1)) base (.slice (some ⟨g,0,none⟩) ((ov key l cZ k).set k (y.1,false)).length (ov key l cZ k).length) ((ov key l cZ k).set k (y.1,false)):=by rw[qY];exact d
  have b:=f.put (i:=k) (x:=(y.1,false)) (by rw[rG (aH a)]) (j:=1) (y:=y) (u:=.bool y.2) (by decide) rfl;rw[qY,aaS] at b;exact b
def akU (key:Int) (hk:1<=key/\key<=99) (l:List fS) (A:Option Addr) (c:Nat) (cZ:List Int) (v2:Value) (lo hi:Nat) (w:World) (x0 x1:Value)
  (aU:hi<=w.heap.size) (hl:PkL w A l) (a4:l.length<=c) (hc:c<=maxLen) (kI:∀p∈l,1<=p.2.length/\fg p.1) (G:cJ gu 1 w lo hi cZ [v2]) (b0:cZ.length<=2147483647)
  (e0:w.cell? ⟨0,0,none⟩=some x0) (e1:w.cell? ⟨1,0,none⟩=some x1) :
  Calls (aj true) 67 #[.int .i64 key,.slice A l.length c,v2] w (avR key l cZ w):=by
 obtain⟨A2,c2,rfl⟩:=G.form;obtain⟨-,ay,a3⟩:=G.len_;have HC:=ab hc;unfold maxLen at hc a3;have aF:=jq (P:=aj true) 160 171 _ 2 24 xw asW cZ.length (by omega) (by omega);have a6:xFA.ntmps=45:=ntmps67;have U:xFA.results=#[.tmp 6,.tmp 7]:=results67;go_enter aqs,a6;go_wp2
 go_loop [20] (λi=>∃k:Nat,k<=l.length/\i=.int .i64 k) (λi=>l.length-(intOf i).toNat)
 case atStart=>exact⟨0,fb _,rfl⟩
 case round=>
  obtain⟨k,al,rfl⟩:=hrel;by_cases a1:k<l.length
  .obtain⟨p,jV⟩:=ar a1;obtain⟨b,ax,B,c3,rfl,ao,aP,av,aI,a5,a2⟩:=hl k p jV;have jU:=kI p (da jV);obtain⟨jU,a8⟩:=jU;unfold fg at a8;unfold maxLen at a5;obtain⟨W,X⟩:=p;dsimp only at *;have w1:wrap64 (W*1)=W:=by unfold wrap64;omega
   have t1:(W ==W)=true:=rB _;clear jV;go_wp2
   go_loop [5] (λjj=>∃j:Nat,j<=X.length/\jj=.int .i64 j) (λjj=>X.length-(intOf jj).toNat)
   case atStart=>exact⟨0,fb _,rfl⟩
   case round=>
    obtain⟨j,b5,rfl⟩:=hrel;by_cases a0:j<X.length
    .obtain⟨x,T⟩:=ar a0;obtain⟨b2,gW,rfl,aT,aZ,af,aa,ad⟩:=a2 j x T;unfold fg at aa;unfold maxLen at ad;obtain⟨V,xb⟩:=x;dsimp only at *;have w2:wrap64 (V*1)=V:=by unfold wrap64;omega
     have t2:(V ==V)=true:=rB _;clear T;go_wp2
     go_round
     case rel=>exact⟨j+1,by omega,by go_num⟩
     simp[intOf];omega
    .obtain rfl:j=X.length:=by omega
     go_wp2
     go_round
     case rel=>exact⟨_,_,_,_,_,_,_,_,_,⟨k+1,by omega,rfl⟩,rfl,rfl,rfl,rfl,rfl,rfl,rfl,rfl,by go_num⟩
     show l.length-((k:Int)+1).toNat<l.length-(k:Int).toNat;omega
  .obtain rfl:k=l.length:=by omega
   clear kI;go_wp2;have s:=aqu (key:=key) (l:=l) (cZ:=cZ) w cZ.length (by unfold maxLen;omega);have O:=aJ w (.cells (madeCells #[.string ⟨#[]⟩,.bool false] (cZ.length*2)) 171);generalize w.alloc (.cells (madeCells #[.string ⟨#[]⟩,.bool false] (cZ.length*2)) 171)=w0 at *;go_loopw [28] (λH wr=>∃k:Nat,k<=cZ.length/\H=.int .i64 k/\aQ FFe 171 wr w.heap.size (.slice (some ⟨w.heap.size,0,none⟩) cZ.length cZ.length) (ov key l cZ k)/\Below w.heap.size w wr) (λH _=>cZ.length-(intOf H).toNat)
   case atStart=>exact⟨0,fb _,rfl,s,O⟩
   case round=>
    clear s O;obtain⟨k,aW,rfl,r,a⟩:=hrel;by_cases q:k<cZ.length
    .obtain⟨n,f⟩:=ar q;obtain⟨b3,a9,es,rfl,b4,aV,_,⟨rfl,K⟩,S⟩:=((cJ.loc gu.loc).below G a aU).at_ f;have d0:wr.cell? ⟨b3,a9+k,none⟩=some (.int .i64 n):=by simpa using S 0 _ rfl
     unfold fg at K;have w3:wrap64 (n*1)=n:=by unfold wrap64;omega
     have t3:(n ==n)=true:=rB _;have u:=aqt (key:=key) (l:=l) f;replace u:=ab u;clear S f;go_wp2;refine(ami wr key A c l n hk.1 hk.2 a4 (by omega) (hl.below a) K).mono ?_;rintro e w5 ⟨v,rfl,rfl,E⟩;have L:=r.below E;obtain⟨f0,f1,z0,z1,t⟩:=asY L q;have a7:=ae a E;have HP:=ab (t (bI key l n));clear r a E L t d0;go_wp2;go_roundw
     case rel=>exact⟨k+1,by omega,by go_num,by rw[<-u.out];exact HP.out,(a7.setCell (by dsimp only;omega) _).setCell (by dsimp only;omega) _⟩
     simp[intOf];omega
    .obtain rfl:k=cZ.length:=by omega
     replace G:=ab G;clear hl;go_wp2;have mA:=aJ wr (.cells #[.slice (some ⟨w.heap.size,0,none⟩) cZ.length cZ.length] 160);have o:=r.below mA;have g:=ae a mA;have e1:ov key l cZ cZ.length=cZ.map (bI key l):=by unfold ov;rw[fd,uA,List.replicate_zero,ta]
     rw[e1] at o;clear r a mA e1;generalize wr.alloc (.cells #[.slice (some ⟨w.heap.size,0,none⟩) cZ.length cZ.length] 160)=w1 at *;go_loopw [12,31] (λoo H wr=>∃k:Nat,k<=cZ.length/\H=.int .i64 k/\aQ mv 9 wr w.heap.size oo (akT key l (cZ.take k))/\aQ FFe 171 wr w.heap.size (.slice (some ⟨w.heap.size,0,none⟩) cZ.length cZ.length) (cZ.map (bI key l))/\(∀n∈cZ.take k,(bI key l n).2=true)/\Below w.heap.size w wr) (λ_ H _=>cZ.length-(intOf H).toNat)
     case atStart=>exact⟨0,fb _,rfl,aQ.nil _ _ _,o,λn G=>(by simp at G),g⟩
     case round=>
      clear o g;obtain⟨k,b1,rfl,I,r,d,a⟩:=hrel;replace d:=ab d;obtain⟨So,sc,rfl⟩:=I.form;by_cases q:k<cZ.length
      .obtain⟨n,f⟩:=ar q;have N:(cZ.map (bI key l))[k]?=some (bI key l n):=by rw[qm,f];rfl
       obtain⟨f0,f1⟩:=amu r N;have y:(akT key l (cZ.take k)).length=k:=by unfold akT;rw[pr,lm];omega
       have fL:akT key l (cZ.take (k+1))=akT key l (cZ.take k)++[(bI key l n).1]:=by unfold akT;rw[kw f,pI];rfl
       have C:=ani r I (by decide);replace C:=ab C;have R:=ab f;replace y:=ab y;clear N f;cases D:(bI key l n).2 with
       |false=>
        rw[D] at f1;replace D:=ab D;go_wp2;refine pN (v:=.tuple #[.slice none 0 0,.bool false]) (by simp[results,U,go_sem]) rfl ⟨_,false,rfl, ?_,λh=>(by cases h),a.alloc a.size _⟩;simp only[fa,qN];intro h;have:=h n (da R.out);rw[D.out] at this;cases this
       |true=>
        rw[D] at f1;have z:∀m∈cZ.take (k+1),(bI key l m).2=true:=λm J=>by
         rw[kw R.out,jt] at J;rcases J with J|J
         .exact d.out m J
         .rw[gE.1 J];exact D
        replace z:=ab z;clear D;replace fL:=ab fL;have Z:=aJ wr (.cells #[.string (bI key l n).1,.bool true] 171);have Y:=aJ (wr.alloc (.cells #[.string (bI key l n).1,.bool true] 171)) (.cells #[.string (bI key l n).1] 9);have kB:=gK.new (wr.alloc (.cells #[.string (bI key l n).1,.bool true] 171)) 9 #[.string (bI key l n).1];simp only[oS] at kB;have Q:=(I.below Z).below Y;have o:=(r.below Z).below Y;have g:=ae (ae a Z) Y;clear I r a Z Y;go_wp2_with(at_builtin;refine afh (F:=mv) (v:=.slice So (akT key l (cZ.take k)).length sc) rfl (.tmp 38) (.tmp 41) 117 rfl aa8 (bI key l n).1 rfl Q rfl kB rfl (by have:=y.out;omega) g.size ?_;intro va wa oa M an;obtain⟨Aa,ca,rfl⟩:=oa.form);go_roundw
        case rel=>exact⟨k+1,by omega,by go_num,by rw[fL.out];rw[gn] at oa;exact oa,o.chg M λb hb=>C.out b hb,z.out,g.trans (M.below g.size λi hi hx=>by have:=(Q.at_ hx).1;omega)⟩
        simp[intOf];omega
      .obtain rfl:k=cZ.length:=by omega
       rw[fd] at I d;go_wp2;refine pN (v:=.tuple #[_,.bool true]) (by simp[results,U,go_sem]) rfl ⟨_,true,rfl,by simp only[qe];exact d.out,λ_=>I,a⟩
end
section
open Go.RowKit
structure Glo (w:World):Prop where
 key:∃x,w.cell? ⟨0,0,none⟩=some x
 piece:∃x,w.cell? ⟨1,0,none⟩=some x
def Glo.below(h:Glo w)(b:Below w.heap.size w w'):Glo w':=by
 obtain⟨⟨x,c⟩,y,a⟩:=h;exact⟨⟨x,(pO (b.block _ (eJ c))).trans c⟩,⟨y,(pO (b.block _ (eJ a))).trans a⟩⟩
def afL(a:aiu key l x.ns)(b:(eE (eT key l x.ns)).2=true):fJ key l x=some ⟨x.p,(eE (eT key l x.ns)).1⟩:=by unfold fJ;rw[dj ⟨a,b⟩]
def abe(h:¬(aiu key l x.ns/\(eE (eT key l x.ns)).2=true)):fJ key l x=none:=by unfold fJ;rw[bd h]
def abf(b:x∈xs)(h:fJ key l x=none):dx key l xs=none:=by
 unfold dx;rw[bd];rintro⟨a, -⟩;have:=a x b;rw[h] at this;cases this
def aev{l:List ByteArray}:(eE l).1.size<=40:=by
 unfold eE;split
 .rename_i h;exact(gj h.1).1
 .exact fb _
def acA{y:Nd}(a:xs[k]?=some x)(h:fJ key l x=some y):cY key l (xs.take (k+1))=cY key l (xs.take k)++[y]:=by
 unfold cY;rw[kw a,List.filterMap_append];simp[h]
def di.itl{a:List It}(h:di w Y X a [.slice A n c])(o:X<=w.heap.size):ItL w A (a.map λx=>(x.n,x.b)):=λi x e=>by
 rw[qm] at e;obtain⟨y,g,rfl⟩:=ga.1 e;obtain⟨b,d,m,rfl,p,l, -,⟨rfl,j,k⟩,f⟩:=h.at_ g;exact⟨b,d,rfl,by omega,by simpa using f 0 _ rfl,f 1 _ rfl,j,k⟩
def cK.pkl{l:List Pk}(h:cK w Y X l [.slice A n c])(k:X<=w.heap.size):PkL w A (bQ l):=λi x e=>by
 unfold bQ at e;rw[qm] at e;obtain⟨y,j,rfl⟩:=ga.1 e;obtain⟨b,a,q,rfl,s,p, -,⟨v,rfl,r,f⟩,g⟩:=h.at_ j;obtain⟨B,d,rfl⟩:=f.form;obtain⟨-,o,m⟩:=f.len_;refine⟨b,a,B,d,rfl,by omega,by have:=g 0 _ rfl;rw[rI] at this;exact this, ?_, ?_,m,f.itl k⟩
 .have:=g 1 _ rfl;rw[show(pkd y).2.length=y.its.length from pr _];exact this
 .rw[show(pkd y).2.length=y.its.length from pr _];exact o
def ag5(h:bK w Y X xs [.slice A n c])(i:xs[k]?=some x) :
  ∃b a A' d,A=some ⟨b,a,none⟩/\Y<=b/\b<X/\x.p.size<=maxLen/\w.cell? ⟨b,a+k*2,none⟩=some (.string x.p)/\w.cell? ⟨b,a+k*2+1,none⟩=some (.slice A' x.ns.length d)/\cJ gu 1 w Y X x.ns [.slice A' x.ns.length d]:=by
 obtain⟨b,a,m,rfl,j,g,l,⟨v,rfl,f,X⟩,e⟩:=h.at_ i;obtain⟨A',d,rfl⟩:=X.form;exact⟨b,a,A',d,rfl,j,g,f,by simpa using e 0 _ rfl,e 1 _ rfl,X⟩
def iy(o:Option (List Nd))(w:World)(e:Ending)(w':World):Prop:=∃v,e=.returned (.tuple #[v,.bool o.isSome])/\aQ FNd 122 w' w.heap.size v (o.getD [])/\(∀y∈o.getD [],FNd.good y)/\Below w.heap.size w w'
def iy.no(h:o=none)(a:Below w.heap.size w w'):iy o w (.returned (.tuple #[.slice none 0 0,.bool false])) w':=by
 subst h;exact⟨_,rfl,aQ.nil _ _ _,λy b=>(by cases b),a⟩
theorem akV (key:Int) (D:1<=key/\key<=99) (l:List fS) (A:Option Addr) (c:Nat) (x:Sn) (vn:Value) (lo hi:Nat) (w:World) (hg:Glo w) (aU:hi<=w.heap.size) (hl:PkL w A l) (al:l.length<=c) (hc:c<=maxLen) (kI:∀p∈l,1<=p.2.length/\fg p.1)
  (hn:bK w lo hi x.all [vn]) (r:∀y∈x.all,y.ns.length<=2147483647) (aW:x.all.length<=1099511627) :
  Calls (aj true) 43 #[.int .i64 key,.agg #[.int .i64 x.no,vn],.slice A l.length c] w (iy (dx key l x.all) w):=by
 have HK:=ab D;clear D;obtain⟨B,d,rfl⟩:=hn.form;obtain⟨-,hd,a0⟩:=hn.len_;have HD:=ab a0;unfold maxLen at a0;have an:=ab kI;have aP:=ab r;clear kI r;go_enter yY,ntmps43;go_wp2;refine(aaU (β:=true) key _ true (by simp only[qe];exact HK.out)).mono ?_;rintro e w1 ⟨rfl,rfl⟩;go_wp2;have av:=aJ w (.cells #[.int .i64 x.no,.slice B x.all.length d] 35);generalize w.alloc (.cells #[.int .i64 x.no,.slice B x.all.length d] 35)=w0 at *;have b1:=av.size;go_loopw [8,20] (λoo ii wr=>∃k:Nat,k<=x.all.length/\ii=.int .i64 k/\(∀y∈x.all.take k,(fJ key l y).isSome=true)/\aQ FNd 122 wr w.heap.size oo (cY key l (x.all.take k))/\(∀y∈cY key l (x.all.take k),FNd.good y)/\(cY key l (x.all.take k)).length=k/\Below w.heap.size w wr) (λ_ ii _=>x.all.length-(intOf ii).toNat)
 case atStart=>exact⟨0,fb _,rfl,λy hy=>(by cases hy),aQ.nil _ _ _,λy hy=>(by cases hy),rfl,av⟩
 case round=>
  obtain⟨k,hk,rfl,o,V,S,U,hb⟩:=hrel;have G:=ab o;have C:=ab S;have J:=ab U;clear o S U av;have ay:=hb.size;by_cases a9:k<x.all.length
  .obtain⟨y,dr⟩:=ar a9;have T:bK wr lo hi x.all [.slice B x.all.length d]:=bK.loc.below hn hb aU;obtain⟨b,b0,A',c',rfl,b2,I,af,ao,aV,r⟩:=ag5 T dr;have HY:=ab dr;have a3:=aP.out y (da dr);clear dr;go_wp2;have ba:=aJ wr (.cells #[.string y.p,.slice A' y.ns.length c'] 68);have kb:=gK.new wr 68 #[.string y.p,.slice A' y.ns.length c'];generalize wr.alloc (.cells #[.string y.p,.slice A' y.ns.length c'] 68)=wa at *;have u:=ae hb ba;have aT:=u.size;obtain⟨⟨g0,e0⟩,g1,e1⟩:=hg.below u;have HF:=akU key HK.out l A c y.ns _ lo hi wa g0 g1 (am aU aT) (hl.below u) al hc an.out (jE.loc.below r ba (am aU ay)) a3 e0 e1;refine HF.mono ?_;clear HF e0 e1 T ao aV r;rintro e w2 ⟨v2,q,rfl,R,m,N⟩;have a2:=ae u N;have O:=ab R;clear R;have aF:=aB kb N;cases q with
   |false=>
    have a:dx key l x.all=none:=abf (da HY.out) (abe λQ=>by have:=O.out.2 Q.1;cases this);have g:=ab a;clear a m;go_wp2;go_ret2;exact iy.no g.out a2
   |true=>
    have j:=O.out.1 rfl;have K:∀s∈eT key l y.ns,aX (bs s):=λs hs=>by
     obtain⟨n,hn,rfl⟩:=lP.1 hs;exact(iv (j n hn)).1
    have Y:∀s∈eT key l y.ns,s.size<=maxLen:=λs hs=>by have:=(dy (K s hs)).2;unfold maxLen;omega
    have o2:aQ mv 9 w2 wa.heap.size v2 (eT key l y.ns):=m rfl;have t2:=adM.sl (aQ.deep o2 Y wa.heap.size) (ap _);have W:(eT key l y.ns).length<=2147483647:=by unfold eT;rw[pr];exact a3
    have HC:=λP (t:Below w2.heap.size w2 P)=>anV (β:=true) (eT key l y.ns) K W v2 P _ _ (fH.aK.below t2 t (ap _)) t.size;have a5:=ab HC;have aI:=ab (show aiu key l y.ns from j);clear HC j K Y o2 t2 W m O;go_wp2;refine(a5.out _ (dk _ _)).mono ?_;rintro e P ⟨rfl,t⟩;have M:=ae a2 t;have ax:=aB aF t;have cp:=ax.cell 0;cases hj:(eE (eT key l y.ns)).2
    .have a:dx key l x.all=none:=abf (da HY.out) (abe λQ=>by rw[hj] at Q;cases Q.2);have g:=ab a;clear a hj;go_wp2;go_ret2;exact iy.no g.out M
    .have E:=afL (x:=y) aI.out hj;have a7:(eE (eT key l y.ns)).1.size<=maxLen:=by have:=aev (l:=eT key l y.ns);unfold maxLen;omega
     generalize (eE (eT key l y.ns)).1=tx at *;have a4:=acA HY.out E;have X:∀z∈x.all.take (k+1),(fJ key l z).isSome=true:=λz f=>by
      rw[kw HY.out] at f;rcases jt.1 f with f|f
      .exact G.out z f
      .rw[gE.1 f,E];rfl
     have HN:=ab a4;have aa:=ab X;clear a4 X E hj;have L:=(V.below (ae ba (N.trans (t.mono N.size)))).below (dk _ _);obtain⟨Ao,co,rfl⟩:=L.form;have a1:=M.size;go_wp2_with(at_builtin;refine jD (F:=FNd) (v:=.slice Ao (cY key l (x.all.take k)).length co) rfl (.tmp 41) (.tmp 46) 83 rfl amm (⟨y.p,tx⟩:Nd) rfl L rfl rfl (by rw[J.out];omega) a1 ?_;intro va w4 oa a8 aZ;obtain⟨Aa,ca,rfl⟩:=oa.form);go_roundw
     case rel=>
      have a6:=M.trans (a8.below a1 λi hi hx=>by have:=(L.at_ hx).1;omega);refine⟨k+1,by omega,by go_num,aa.out,by rw[HN.out];simp only[gn,mp,qr,pb] at oa;exact oa, ?_,by rw[HN.out,gn,J.out];rfl,a6⟩;rw[HN.out];intro z f;rcases jt.1 f with f|f
      .exact C.out z f
      .rw[gE.1 f];exact⟨af,a7⟩
     case measure=>simp[intOf];omega
  .obtain rfl:k=x.all.length:=by omega
   rw[fd] at G C J V;have t3:=adM.sl (aQ.deep V C.out w.heap.size) (ap _);obtain⟨q,R⟩:∃q:Bool,q=true↔afx (cY key l x.all):=by
    by_cases hx:afx (cY key l x.all)
    .exact⟨true,by simp[hx]⟩
    .exact⟨false,by simp[hx]⟩
   have HT:=λP (t:Below wr.heap.size wr P)=>aqr (β:=true) (cY key l x.all) u8 P _ _ (my.aK.below t3 t (ap _)) t.size q R;have ad:=ab HT;have O:=ab R;clear HT R t3;go_wp2;refine(ad.out _ (dk _ _)).mono ?_;rintro e w2 ⟨rfl,N⟩;have I:=ae hb N;cases q with
   |false=>
    have a:dx key l x.all=none:=by
     unfold dx;rw[bd];rintro⟨-,Q⟩;have:=O.out.2 Q;cases this
    have g:=ab a;clear a;go_wp2;go_ret2;exact iy.no g.out I
   |true=>
    have Z:dx key l x.all=some (cY key l x.all):=by
     unfold dx;rw[dj ⟨G.out,O.out.1 rfl⟩]
    have H:=ab Z;clear Z;have m:=V.below N;clear V;go_wp2;go_ret2;refine⟨u8,by rw[H.out];rfl,by rw[H.out];exact m,by rw[H.out];exact C.out,I⟩
noncomputable def aew(key:Int)(l:List fS)(xs:List Ls):Option (List Nd):=if 1<=key/\key<=99 then dx key l xs else none
end
section
variable {β:Bool}
open Go.RowKit
def auv(w:World)(ys:List Int)(e:Ending)(w':World):Prop:=∃v,e=.returned v/\aQ gv 3 w' w.heap.size v ys/\Below w.heap.size w w'
def bC(its:List It):List Int:=its.map λx=>x.n
def ku(a:List It):(bC a).length=a.length:=by unfold bC;rw[pr]
def ag6{a:List It}{x:It}(h:a[k]?=some x):bC (a.take (k+1))=bC (a.take k)++[x.n]:=by
 unfold bC;rw[kw h,pI];rfl
def abg(x:Int)(a:List It)(v:Value)(w:World)(P s:Nat)(I:s<=w.heap.size)(h:gX w P s a [v])(X:a.length<=100000000) :
  Calls (aj β) 10 #[.agg #[.int .i64 x,v]] w (auv w (bC a)):=by
 obtain⟨A,c,rfl⟩:=h.form;obtain⟨_,S,M⟩:=h.len_;unfold maxLen at M;go_enter zp,ntmps10;go_wp2;generalize B:w.alloc (.cells #[.int .i64 x,.slice A a.length c] 40)=wa at *;obtain⟨u,G,E,m,q⟩:=iK B;clear B;go_loopw [3,9] (λz t wr=>∃k:Nat,k<=a.length/\t=.int .i64 k/\aQ gv 3 wr w.heap.size z (bC (a.take k))/\Below w.heap.size w wr) (λz t _=>a.length-(intOf t).toNat)
 case atStart=>exact⟨0,fb _,rfl,aQ.nil _ _ _,u⟩
 case round=>
  clear E m q u;obtain⟨k,D,rfl,e,b⟩:=hrel;obtain⟨O,J,rfl⟩:=e.form;by_cases j:k<a.length
  .obtain⟨y,g⟩:=ar j;have f:=ku (a.take k);rw[lm,qx D] at f;have d:=ag6 g;have HST:=ab d;clear d;obtain⟨W,Q,rfl,_,_,N,U,T⟩:=ace (gX.aK.below h b I) g;replace g:=ab g;revert f HST e;generalize bC (a.take k)=L;intro e f HST;have H:=ab f;clear f;have p:=aJ wr (.cells #[.int .i64 y.n,.string y.b] 64);replace e:=e.below p;replace b:=ae b p;have HO:=ab e;clear e;clear p;have r:Hid ((wr.alloc (.cells #[.int .i64 y.n,.string y.b] 64)).heap.size=wr.heap.size+1):=ab (by simp);go_wp2_with(at_builtin;refine jD (F:=gv) (v:=.slice O L.length J) rfl (.tmp 13) (.tmp 16) 31 rfl aaH y.n rfl HO.out (ef (λn=>Value.slice (some ⟨n,0,none⟩) 1 1) r.out.symm) rfl (by have:=H.out;omega) b.size ?_;intro Z Y o l C;obtain⟨V,R,rfl⟩:=o.form;simp only[gn,mp,qr,pb] at o);go_roundw
   case rel=>exact⟨k+1,by omega,by go_num,by rw[HST.out];exact o,b.trans (l.below b.size λi s K=>by have:=(HO.out.at_ K).1;omega)⟩
   simp[intOf];omega
  .obtain rfl:k=a.length:=by omega
   rw[fd] at e ⊢;go_wp2;go_ret;exact⟨_,rfl,e,b⟩
end
section
variable {β:Bool}
open Go.RowKit
section
variable {P:Program} {α:Type} {F:Flat α}
def anX {l:Array Oper} {rest:List Oper} {o:Oper} {a:Act} {Q:Exit->Act->World->Prop} (m:o.guard=none) (s x:Operand) (t:TypeId)
  (B:o.op=.call ⟨.builtin .append,#[s,x],#[t,t]⟩)
  {e:TypeId} (y:py P t e F.sz Y) {base:Nat} {xs d:List α} (H:a.eval s=v) (g:aQ F e w base v xs)  (J:a.eval x=.slice A d.length c) (D:cJ (cy F) F.sz w X C d [.slice A d.length c]) (I:C<=w.heap.size)
  (K:xs.length+d.length<=1099511627776) (f:base<=w.heap.size)
  (h:∀k i,aQ F e i base k (xs++d)->jm (λb=>v.ownBlock=some b) w i->(∀b,k.ownBlock=some b->v.ownBlock=some b\/w.heap.size<=b)->wpList P l Q rest (a.put o.dst k) i) :
  wpList P l Q (o::rest) a w:=
 adF m s x t B y H g J (news:=dt F d) (eG F d) (λz=>by
  obtain⟨r,q,p⟩:=apc D I z;exact⟨r,q,λj u E=>p j u E w (dk _ _)⟩) (abJ F d) K f λk i n=>h k i (by
  have G:=n.own;unfold aQ;rw[lH,gn];exact G) n.chg n.at_
end
def pkN(p:Pk):Nat:=p.its.length
def aM(l:List Pk):List Int:=l.flatMap λp=>bC p.its
def kN{l:List Pk}{x:Pk}(h:l[k]?=some x):aM (l.take (k+1))=aM (l.take k)++bC x.its:=by
 unfold aM;rw[kw h,qZ];simp
def lV(l:List Pk):∀j,(aM (l.take j)).length=aaR pkN l j:=λj=>by
 unfold aM aaR;generalize l.take j=m
 induction m with
 |nil=>rfl
 |cons x m a=>rw[List.flatMap_cons,gn,a,ku,qo,sT];rfl
def aqx(l:List Pk):acQ pkN l<=bh bPk l:=by
 unfold acQ bh;have:(l.map pkN).sum<=(l.map bPk).sum:=by
  induction l with
  |nil=>exact ap _
  |cons x l a=>
   rw[qo,qo,sT,sT];have:pkN x<=bPk x:=fp;omega
 omega
def mm(l:List Pk)(v:Value)(w:World)(lo B:Nat)(aU:B<=w.heap.size)(h:gO w lo B l [v])(hl:acQ pkN l<=100000000) :
  Calls (aj β) 42 #[v] w (auv w (aM l)):=by
 obtain⟨A,c,rfl⟩:=h.form;obtain⟨_,hc,hx⟩:=h.len_;unfold maxLen at hx;go_enter yZ,ntmps42;go_wp2;go_loopw [3,8] (λV Q wr=>∃k:Nat,k<=l.length/\Q=.int .i64 k/\aQ gv 3 wr w.heap.size V (aM (l.take k))/\Below w.heap.size w wr) (λV Q _=>l.length-(intOf Q).toNat)
 case atStart=>exact⟨0,fb _,rfl,aQ.nil _ _ _,dk _ _⟩
 case round=>
  obtain⟨k,hk,rfl,b,a⟩:=hrel;obtain⟨Ao,Z,rfl⟩:=b.form;have G:=lV l k;have O:=adT (n:=pkN) (l:=l) (j:=k);by_cases D:k<l.length
  .obtain⟨p,o⟩:=ar D;have r:=adS (n:=pkN) o;have y:=adT (n:=pkN) (l:=l) (j:=k+1);have s:pkN p=p.its.length:=rfl;rw[s] at r;have d:=kN o;have HST:=ab d;clear d;obtain⟨b1,a0,A5,c5,rfl, -, -,a1,x,E,U⟩:=acd (gO.aK.below h a aU) o;have P:p.its.length<=100000000:=by omega
   have f:(aM (l.take k)).length+p.its.length<=100000000:=by omega
   replace o:=ab o;clear r y s G O;revert b;revert HST;revert f;generalize aM (l.take k)=L;intro f HST b;have C:=ab f;clear f;go_wp2;generalize S:wr.alloc (.cells #[.int .i64 p.no,.slice A5 p.its.length c5] 40)=wa at *;obtain⟨t,Y,m0,H,K⟩:=iK S;clear S;replace b:=b.below t;have N:=gX.aK.below U t (by have:=a.size;omega);replace a:=ae a t;refine(abg p.no p.its _ _ _ _ (by have:=a.size;omega) N P).mono ?_;rintro e w5 ⟨v5,rfl,R,T⟩;obtain⟨A6,c6,rfl⟩:=R.form;replace b:=b.below T;replace a:=ae a T;have m:∀z∈bC p.its,fg z:=λz X=>by
    obtain⟨it,I,rfl⟩:=lP.1 X;exact((cJ.good U.1) it I).1
   have J:=ab (R.sl m (ap _));clear m;have g:=ku p.its;replace g:=ab g;have q:=ab b;clear b;clear H K m0 x E;go_wp2_with(at_builtin;refine anX (F:=gv) (v:=.slice Ao L.length Z) rfl (.tmp 12) (.tmp 14) 31 rfl aaH rfl q.out rfl J.out (ap _) (by have:=C.out;have:=g.out;omega) a.size ?_;intro v8 w8 M u W;obtain⟨A8,c8,rfl⟩:=M.form;simp only[gn] at M);go_roundw
   case rel=>exact⟨k+1,by omega,by go_num,by rw[HST.out];exact M,a.trans (u.below a.size λi B hs=>by have:=(q.out.at_ hs).1;omega)⟩
   simp[intOf];omega
  .obtain rfl:k=l.length:=by omega
   rw[fd] at b ⊢;go_wp2;go_ret;exact⟨_,rfl,b,a⟩
def aiG(u0 u1 a:Value)(g:∃A n c,u0=.slice A n c)(i:∃A n c,u1=.slice A n c)(f:∃A n c,a=.slice A n c)(w:World) :
  Calls (aj β) 18 #[.agg #[u0,u1,a]] w λe b=>e=.returned (.agg #[u0,u1,a])/\Below w.heap.size w b:=by
 obtain⟨A,n,c,rfl⟩:=g;obtain⟨B,m,d,rfl⟩:=i;obtain⟨C,k,e,rfl⟩:=f;go_enter zn,ntmps18;go_wp2;exact pN (v:=.agg #[.slice A n c,.slice B m d,.slice C k e]) (by simp[results,results18,go_sem]) rfl ⟨rfl,by repeat(first|exact dk _ _|refine Below.setCell ?_ (by first|(simp;done)|(simp;omega)) _|refine qQ ?_ (by first|(simp;done)|(simp;omega)) _)⟩
end
section
open Go.RowKit
def ag7{xs:List Sn}(h:dm w Y X xs [.slice A n c]){x:Sn}(i:xs[k]?=some x) :
  ∃b a A' d,A=some ⟨b,a,none⟩/\Y<=b/\b<X/\fg x.no/\w.cell? ⟨b,a+k*2,none⟩=some (.int .i64 x.no)/\w.cell? ⟨b,a+k*2+1,none⟩=some (.slice A' x.all.length d)/\bK w Y X x.all [.slice A' x.all.length d]:=by
 obtain⟨b,a,m,rfl,j,g,l,⟨v,rfl,f,X⟩,e⟩:=h.at_ i;obtain⟨A',d,rfl⟩:=X.form;exact⟨b,a,A',d,rfl,j,g,f,by simpa using e 0 _ rfl,e 1 _ rfl,X⟩
def cK.am8{l:List Pk}(h:cK w Y X l [v]):∀p∈bQ l,fg p.1:=λp a=>by
 obtain⟨A,c,rfl⟩:=cJ.form h;obtain⟨q,d,rfl⟩:=lP.1 a;obtain⟨i,X⟩:=qk.1 d;obtain⟨_,_,_,_,_,_,_,⟨_,_,b,_⟩,_⟩:=cJ.at_ h X;exact b
end
section
variable {β:Bool}
open Go.RowKit
def aqz(x:Hd)(w:World)(b:Bool)(f:b=true↔mz x):Calls (aj β) 46 #[.agg #[.int .i64 x.b,.int .i64 x.s]] w λe l=>e=.returned (.bool b)/\Below w.heap.size w l:=by
 have fin:∀q:Bool,(q=true↔(x.b=1\/x.b=2)/\1<=x.s/\x.s<=20)->q=b:=λq o=>by
  rw[oE,f,o];unfold mz;constructor
  .rintro⟨p,d,a⟩;exact⟨by omega,d,a⟩
  .rintro⟨p,d,a⟩;exact⟨by omega,d,a⟩
 replace fin:=ab fin;clear f;rcases(by omega:x.b=1\/x.b=2\/(x.b≠1/\x.b≠2)) with e|e|⟨e,g⟩<;>rcases(by omega:1<=x.s/\x.s<=20\/1<=x.s/\20<x.s\/x.s<1) with a|a|a
 all_goals
  first
   |have k:(x.b ==1)=true:=mT.2 e
   |have k:(x.b ==1)=false:=jp.2 (by omega)
  first
   |have i:(x.b ==2)=true:=mT.2 e
   |have i:(x.b ==2)=false:=jp.2 (by omega)
  first
   |have j:=du (show 1<=x.s by omega)
   |have j:=bv (show ¬(1<=x.s) by omega)
  first
   |have m:=du (show x.s<=20 by omega)
   |have m:=bv (show ¬(x.s<=20) by omega)
  have r:=ab e;have n:=ab a;clear e a;try(have c:=ab g;clear g)
  go_enter yW,ntmps46;go_wp2;go_ret;refine⟨ak (fin.out _ ?_),by repeat(first|exact dk _ _|refine qQ ?_ (by simp) _)⟩;have:=r.out;have:=n.out;try(have:=c.out)
  simp;try omega
def aqA(x:Hd)(w:World)(b:Bool)(a:b=true↔mz x):Calls (aj β) 45 #[.agg #[.int .i64 x.b,.int .i64 x.s]] w λe d=>e=.returned (.bool (!b))/\Below w.heap.size w d:=by
 go_enter xe,ntmps45;go_wp2;refine(aqz x _ b a).mono ?_;rintro e f ⟨rfl,c⟩;have a:=(aJ w (.cells #[.int .i64 x.b,.int .i64 x.s] 88));go_wp2;go_ret;exact⟨rfl,ae a c⟩
def aiH(xs:List Hd)(v:Value)(w:World)(J D:Nat)(h:eh w J D xs [v])(H:D<=w.heap.size) :
  Calls (aj β) 70 #[v,.func (.func 45) #[] #[]] w λe B=>∃j:Int,e=.returned (.int .i64 j)/\(j=-1/\(∀x∈xs,mz x)\/0<=j/\¬ ∀x∈xs,mz x)/\Below w.heap.size w B:=by
 obtain⟨A,c,rfl⟩:=cJ.form h;obtain⟨_,L,t⟩:=h.len_;unfold maxLen at t;go_enter yN,ntmps70;go_wp2;go_loopw [8] (λz wr=>∃k:Nat,k<=xs.length/\z=.int .i64 k/\(∀x∈xs.take k,mz x)/\Below w.heap.size w wr) (λz _=>xs.length-(intOf z).toNat)
 case atStart=>exact⟨0,fb _,rfl,λx t=>(by cases t),dk _ _⟩
 case round=>
  obtain⟨k,K,rfl,n,g⟩:=hrel;replace n:=ab n;by_cases p:k<xs.length
  .obtain⟨x,i⟩:=ar p;obtain⟨b,m,N,F,_,M,_,⟨rfl,E⟩,f⟩:=(eh.loc.below h g H).at_ i;subst F;have r:wr.cell? ⟨b,m+k*2,none⟩=some (.int .i64 x.b):=by simpa using f 0 _ rfl
   have u:wr.cell? ⟨b,m+k*2+1,none⟩=some (.int .i64 x.s):=by simpa using f 1 _ rfl
   replace i:=ab i;clear f;have I:=asJ (β:=β) (#[.agg #[.int .i64 x.b,.int .i64 x.s]]++#[]) wr;go_wp2;obtain⟨q,l⟩:=dO (mz x);refine(aqA x wr q l).mono ?_;rintro e B ⟨rfl,G⟩;have o:=ae g G;clear I r u;cases q
   .have d:¬ ∀x∈xs,mz x:=λh=>by have:=l.2 (h x (da i.out));cases this
    replace d:=ab d;clear l;go_wp2;go_ret;exact⟨k,rfl,.inr ⟨by omega,d.out⟩,o⟩
   .have s:∀y∈xs.take (k+1),mz y:=λy C=>by
     rw[kw i.out] at C;rcases jt.1 C with h|h
     .exact n.out y h
     .rw[gE.1 h];exact l.1 rfl
    replace s:=ab s;clear l;go_wp2;go_roundw
    case rel=>exact⟨k+1,by omega,by go_num,s.out,o⟩
    simp[intOf];omega
  .obtain rfl:k=xs.length:=by omega
   have a:=n.out;rw[fd] at a;replace a:=ab a;clear n;go_wp2;go_ret;exact⟨-1,rfl,.inl ⟨rfl,a.out⟩,g⟩
def aex(xs:List Hd)(v:Value)(w:World)(m g:Nat)(h:eh w m g xs [v])(o:g<=w.heap.size)(b:Bool)(d:b=true↔∀x∈xs,mz x) :
  Calls (aj β) 44 #[v,.func (.func 45) #[] #[]] w λe n=>e=.returned (.bool (!b))/\Below w.heap.size w n:=by
 obtain⟨A,c,rfl⟩:=cJ.form h;replace d:=ab d;go_enter yX,ntmps44;go_wp2;refine(aiH xs _ w m g h o).mono ?_;rintro e p ⟨j,rfl,i,l⟩;rcases i with⟨rfl,a⟩|⟨i,f⟩
 .have k:b=true:=d.out.2 a;subst k;clear a d;go_wp2;go_ret;exact⟨rfl,l⟩
 .have k:b=false:=by rw[<-be,d.out];exact f
  subst k;have q:decide (0<=j)=true:=du i;clear f d;go_wp2;go_ret;exact⟨rfl,l⟩
def aiI(xs:List Hd)(v:Value)(w:World)(j f:Nat)(h:eh w j f xs [v])(m:f<=w.heap.size)(b:Bool)(a:b=true↔acy xs) :
  Calls (aj β) 22 #[v] w λe l=>e=.returned (.bool b)/\Below w.heap.size w l:=by
 obtain⟨A,c,rfl⟩:=cJ.form h;obtain⟨_,s,n⟩:=h.len_;unfold maxLen at n;replace a:=ab a;by_cases i:(xs.length:Int)<=9
 .have o:decide ((xs.length:Int)<=9)=true:=du i;obtain⟨q,d⟩:=dO (∀x∈xs,mz x);have g:q=b:=by
   rw[oE,d,a.out];exact⟨λh=>⟨by omega,h⟩,λh=>h.2⟩
  subst g;replace d:=ab d;go_enter xm,ntmps22;go_wp2;refine(aex xs _ w j f h m q d.out).mono ?_;rintro e r ⟨rfl,k⟩;cases q<;>(go_wp2;go_ret;exact⟨rfl,k⟩)
 .have o:decide ((xs.length:Int)<=9)=false:=bv i;have p:b=false:=by rw[<-be,a.out];exact λh=>i (by have:=h.1;omega)
  subst p;go_enter xm,ntmps22;go_wp2;go_ret;exact⟨rfl,dk _ _⟩
end
section
variable {β:Bool}
open Go.RowKit
def aiJ(x:Hd)(w:World)(b:Bool)(d:b=true↔mz x):Calls (aj β) 49 #[.agg #[.int .i64 x.b,.int .i64 x.s]] w λe j=>e=.returned (.bool b)/\Below w.heap.size w j:=by
 obtain⟨p,a⟩:=dO (1<=x.b/\x.b<=2);obtain⟨q,c⟩:=dO (1<=x.s/\x.s<=20);have k:b=(p&&q):=by
  rw[oE,d,eg,a,c];rfl
 subst k;replace a:=ab a;replace c:=ab c;clear d;go_enter yU,ntmps49;go_wp2;generalize f:w.alloc (.cells #[.int .i64 x.b,.int .i64 x.s] 88)=w0 at *;obtain⟨g,n,m,o,l⟩:=iK f;clear f;refine(agx x.b 1 2 _ p a.out).mono ?_;rintro e i ⟨rfl,rfl⟩;cases p
 .go_wp2;go_ret;exact⟨rfl,g⟩
 .go_wp2;refine(agx x.s 1 20 _ q c.out).mono ?_;rintro e i ⟨rfl,rfl⟩;cases q<;>(go_wp2;go_ret;exact⟨rfl,g⟩)
def aeZ(xs:List Hd)(v:Value)(w:World)(K F:Nat)(h:eh w K F xs [v])(J:F<=w.heap.size)(r:Bool)(o:r=true↔acy xs) :
  Calls (aj β) 28 #[v] w λe D=>e=.returned (.bool r)/\Below w.heap.size w D:=by
 obtain⟨A,c,rfl⟩:=cJ.form h;obtain⟨_,M,z⟩:=h.len_;unfold maxLen at z;replace o:=ab o;go_enter zf,ntmps28;go_wp2;go_loopw [3] (λC wr=>∃k:Nat,k<=xs.length/\C=.int .i64 k/\(∀x∈xs.take k,mz x)/\Below w.heap.size w wr) (λC _=>xs.length-(intOf C).toNat)
 case atStart=>exact⟨0,fb _,rfl,λx z=>(by cases z),dk _ _⟩
 case round=>
  obtain⟨k,L,rfl,m,g⟩:=hrel;replace m:=ab m;by_cases p:k<xs.length
  .obtain⟨x,i⟩:=ar p;obtain⟨b,l,O,H,_,N,_,⟨rfl,G⟩,f⟩:=(eh.loc.below h g J).at_ i;subst H;have s:wr.cell? ⟨b,l+k*2,none⟩=some (.int .i64 x.b):=by simpa using f 0 _ rfl
   have B:wr.cell? ⟨b,l+k*2+1,none⟩=some (.int .i64 x.s):=by simpa using f 1 _ rfl
   replace i:=ab i;clear f;go_wp2;obtain⟨q,j⟩:=dO (mz x);refine(aiJ x wr q j).mono ?_;rintro e D ⟨rfl,I⟩;have n:=ae g I;clear s B;cases q
   .have d:r=false:=by
     rw[<-be,o.out];exact λh=>by have:=j.2 (h.2 x (da i.out));cases this
    replace d:=ab d;clear j;go_wp2;go_ret;exact⟨ak d.out.symm,n⟩
   .have u:∀y∈xs.take (k+1),mz y:=λy E=>by
     rw[kw i.out] at E;rcases jt.1 E with h|h
     .exact m.out y h
     .rw[gE.1 h];exact j.1 rfl
    replace u:=ab u;clear j;go_wp2;go_roundw
    case rel=>exact⟨k+1,by omega,by go_num,u.out,n⟩
    simp[intOf];omega
  .obtain rfl:k=xs.length:=by omega
   have a:=m.out;rw[fd] at a;have t:r=decide ((xs.length:Int)<=9):=by
    rw[oE,o.out,decide_eq_true_iff];exact⟨λh=>by have:=h.1;omega,λh=>⟨by omega,a⟩⟩
   replace t:=ab t;clear a m;go_wp2;go_ret;exact⟨ak t.out.symm,g⟩
end
section
variable {β:Bool}
open Go.RowKit
def anY :(dF s).2=true↔cF (bs s)=some (bs (dF s).1):=by
 unfold dF cF;rw[aaV];by_cases h:aX (sx (bs s))/\fA (sx (bs s))=bs s
 .rw[dj h,dj h];simp only[qe];rw[aaV]
 .rw[bd h,bd h];simp
def akX{x:It}{t:ByteArray}(h:eK key x)(d:cF (bs x.b)=some (bs t)):dv key (x.n,x.b)=(t,true):=by
 have a:=lU.1 h;unfold dv at a ⊢;split at a
 .rename_i b;have c:=anY.1 b.1;rw[dj b];have e:(dF (x.n,x.b).2).1=t:=iZ (de (c.symm.trans d));rw[e]
 .cases a
def anZ{x:It}(h:¬eK key x):dv key (x.n,x.b)=(⟨#[]⟩,false):=by
 rw[lU] at h;unfold dv at h ⊢;split at h
 .exact absurd rfl h
 .rename_i a;rw[bd a]
def akY{nm : Int}{p:Pk}{x:It}(d:p.its[k]?=some x)(f:x.n=nm)(c:∀y∈p.its.take k,y.n≠nm):eD key (pkd p).2 nm=dv key (x.n,x.b):=by
 have b:(pkd p).2[k]?=some (x.n,x.b):=by rw[agZ,d];rfl
 refine agY (k:=k) (abQ (x:=(x.n,x.b)) (λy a=> ?_) b f) b;have e:(pkd p).2.take k=(p.its.take k).map λx=>(x.n,x.b):=by show(p.its.map _).take k=_;rw[List.map_take]
 rw[e] at a;obtain⟨z,g,rfl⟩:=lP.1 a;exact c z g
def an0{nm : Int}{p:Pk}(b:∀y∈p.its,y.n≠nm):eD key (pkd p).2 nm=(⟨#[]⟩,false):=afy (aaf λy a=>by
 obtain⟨z,c,rfl⟩:=lP.1 a;exact b z c)
def as1{nm:Int}{l:List It}{x:It}(d:l[k]?=some x)(b:∀y∈l.take k,y.n≠nm)(c:x.n≠nm):∀y∈l.take (k+1),y.n≠nm:=λy a=>by
 rw[kw d] at a;rcases jt.1 a with a|a
 .exact b y a
 .rw[gE.1 a];exact c
def acU(key:Int)(a:1<=key/\key<=99)(p:Pk)(nm:Int)(v:Value)(w:World)(R I:Nat)(K:I<=w.heap.size)(h:gX w R I p.its [v]) :
  Calls (aj β) 122 #[.int .i64 key,.agg #[.int .i64 p.no,v],.int .i64 nm] w λe S=>e=.returned (.tuple #[.string (eD key (pkd p).2 nm).1,.bool (eD key (pkd p).2 nm).2])/\Below w.heap.size w S:=by
 obtain⟨A,c,rfl⟩:=h.form;obtain⟨_,z,P⟩:=h.len_;unfold maxLen at P;replace a:=ab a;go_enter yl,ntmps122;go_wp2;generalize m:w.alloc (.cells #[.int .i64 p.no,.slice A p.its.length c] 40)=w0 at *;obtain⟨u,eP,U,M,W⟩:=iK m;clear m;have T:=gX.aK.below h u K;refine(js (β:=β) key w0 true (by simp only[qe];exact a.out)).mono ?_;rintro e w1 ⟨rfl,rfl⟩;go_wp2;go_loopw [8] (λi wr=>∃k:Nat,k<=p.its.length/\i=.int .i64 k/\(∀y∈p.its.take k,y.n≠nm)/\Below w0.heap.size w0 wr) (λi _=>p.its.length-(intOf i).toNat)
 case atStart=>exact⟨0,fb _,rfl,λy hy=>(by cases hy),dk _ _⟩
 case round=>
  obtain⟨k,hk,rfl,s,d⟩:=hrel;replace s:=ab s;have J:=gX.aK.below T d (am K u.size);have B:=aB U d;have jS:=B.cell;have lK:=B.frozen;clear M W;by_cases C:k<p.its.length
  .obtain⟨x,l⟩:=ar C;obtain⟨b1,Y,rfl,_,_,n,cn,cb⟩:=ace J l;replace l:=ab l;by_cases j:x.n=nm
   .have N:(x.n ==nm)=true:=mT.2 j;have HG:=ab (akY (key:=key) l.out j s.out);obtain⟨q,o⟩:=dO (eK key x);replace o:=ab o;clear j;go_wp2;refine(aco (β:=β) key a.out x n.2 wr q o.out).mono ?_;rintro e w2 ⟨rfl,E⟩;have r:=ae u (ae d E);cases q
    .have z:=HG.out.trans (anZ λh=>by have:=o.out.2 h;cases this);have HC:=ab z;clear z;go_wp2;go_ret2;rw[HC.out];exact⟨rfl,r⟩
    .have L:=gX.aK.below J E (by have:=d.size;have:=u.size;omega);obtain⟨a0,F,H,_,_, -,Z,V⟩:=ace L l.out;simp only[lE,qa,qn] at H;obtain⟨rfl,rfl⟩:=H;have Q:=aB B E;have O:=Q.cell;have g:=o.out.1 rfl;replace g:=ab g;go_wp2;refine(acn (β:=β) x.b n.2 w2).mono ?_;rintro e w3 ⟨⟨t,b,rfl,G⟩,rfl⟩;have f:b=true/\cF (bs x.b)=some (bs t):=by
      rcases G with h|⟨-,h, -⟩
      .exact h
      .obtain⟨p,X, -⟩:=g.out;rw[X] at h;cases h
     obtain⟨rfl,f⟩:=f;have HC:=ab (HG.out.trans (akX g.out f));clear G f;go_wp2;go_ret2;rw[HC.out];exact⟨rfl,r⟩
   .have N:(x.n ==nm)=false:=jp.2 j;have D:=ab (as1 l.out s.out j);clear j;go_wp2;go_roundw
    case rel=>exact⟨k+1,by omega,by go_num,D.out,d⟩
    simp[intOf];omega
  .obtain rfl:k=p.its.length:=by omega
   have m:=an0 (key:=key) (p:=p) (nm:=nm) (by have:=s.out;rwa [fd] at this);have HG:=ab m;clear m;go_wp2;go_ret2;rw[HG.out];exact⟨rfl,ae u d⟩
end
section
variable {β:Bool}
open Go.RowKit
def akZ{l:List ByteArray}{x:ByteArray}(h:l[k]?=some x):cH (l.take (k+1))=cH (l.take k)++bs x:=by
 rw[kw h];unfold cH;rw[qZ];simp
def as2{l:List ByteArray}{x:ByteArray}(h:l[k]?=some x):qE (cH (l.take k))++x=qE (cH (l.take (k+1))):=iZ (by rw[jr,adR (jN _),adR (jN _),akZ h])
def aqB(l:List ByteArray):(qE (cH l)).size=(cH l).length:=by rw[<-aL,adR (jN l)]
def aqC(l:List ByteArray)(k:Nat):(cH (l.take k)).length<=(cH l).length:=by
 have e:cH l=cH (l.take k)++cH (l.drop k):=by
  unfold cH;rw[<-qZ,pH]
 rw[e,gn];omega
def ak0{l:List ByteArray}(h:40<(qE (cH (l.take k))).size):eE l=(⟨#[]⟩,false):=aeu λb=>by
 have a:=(gj b.1).1;have c:=aqC l k;rw[aqB] at h a;omega
def ak1(xs f:List ByteArray)(J M:Value)(w:World)(T N G P:Nat)(z:fH w T N xs [J])(H:fH w G P f [M])(C:N<=w.heap.size)(om:P<=w.heap.size)(q:Bool)(j:q=true↔xs=f) :
  Calls (aj β) 123 #[J,M] w λe R=>e=.returned (.bool q)/\Below w.heap.size w R:=by
 have v:=ab j;clear j;obtain⟨A,c,rfl⟩:=z.form;obtain⟨B,d,rfl⟩:=H.form;obtain⟨_,hc,Z⟩:=z.len_;unfold maxLen at Z;go_enter yk,ntmps123;by_cases a:xs.length=f.length
 .have X:((xs.length:Int) !=f.length)=false:=by rw[pJ];omega
  replace a:=ab a;go_wp2;go_loopw [5] (λi wr=>∃k:Nat,k<=xs.length/\i=.int .i64 k/\xs.take k=f.take k/\Below w.heap.size w wr) (λi _=>xs.length-(intOf i).toNat)
  case atStart=>exact⟨0,fb _,rfl,rfl,dk _ _⟩
  case round=>
   obtain⟨k,hk,rfl,g,b⟩:=hrel;have O:=ab g;clear g;by_cases u:k<xs.length
   .obtain⟨x,m⟩:=ar u;obtain⟨y,p⟩:=ar (l:=f) (k:=k) (by have:=a.out;omega);obtain⟨b1,Y,rfl,_,_,U,K⟩:=lQ (fH.aK.below z b C) m;obtain⟨b2,gW,rfl,_,_,V,L⟩:=lQ (fH.aK.below H b om) p;have W:(k:Int)<(f.length:Int):=by have:=a.out;omega
    replace m:=ab m;replace p:=ab p;by_cases g:x=y
    .have Q:=ag2 g;have F:xs.take (k+1)=f.take (k+1):=by rw[kw m.out,kw p.out,O.out,g]
     replace F:=ab F;clear g;go_wp2;have E:=ah K;have D:=ah L;refine aA (by kernel_rfl) (by kernel_rfl) ?_;repeat(go_big_quiet_step (fail))
     refine ge ?_;intro S r;have j:=aG r;clear r E D;go_wp2;go_roundw
     case rel=>exact⟨k+1,by omega,by go_num,F.out,ae b j⟩
     simp[intOf];omega
    .have Q:=mR (s:=y) (t:=x) g;have o:q=false:=by
      rw[<-be,v.out];rintro rfl;exact g (de (m.out.symm.trans p.out))
     have n:=ab o;clear o g;go_wp2;have E:=ah K;have D:=ah L;refine aA (by kernel_rfl) (by kernel_rfl) ?_;repeat(go_big_quiet_step (fail))
     refine ge ?_;intro S r;have j:=aG r;clear r E D;go_wp2;go_ret;exact⟨ak n.out.symm,ae b j⟩
   .obtain rfl:k=xs.length:=by omega
    have I:q=true:=by
     rw[v.out];have:=O.out
     rwa [fd,nf (by have:=a.out;omega)] at this
    have n:=ab I;clear I;go_wp2;go_ret;exact⟨ak n.out.symm,b⟩
 .have X:((xs.length:Int) !=f.length)=true:=by rw[qI];omega
  have o:q=false:=by
   rw[<-be,v.out];rintro rfl;exact a rfl
  have n:=ab o;clear o;replace a:=ab a;go_wp2;go_ret;exact⟨ak n.out.symm,dk _ _⟩
def ak2(l:List ByteArray)(u:∀s∈l,aX (bs s))(hl:l.length<=2147483647)(v:Value)(w:World)(H E:Nat)(h:fH w H E l [v])(G:E<=w.heap.size) :
  Calls (aj β) 74 #[v] w λe J=>e=.returned (.tuple #[.string (eE l).1,.bool (eE l).2])/\Below w.heap.size w J:=by
 obtain⟨A,c,rfl⟩:=h.form;obtain⟨_,hc,F⟩:=h.len_;unfold maxLen at F;replace u:=ab u;go_enter yJ,ntmps74;go_wp2;go_loopw [4,5] (λV i wr=>∃k:Nat,k<=l.length/\i=.int .i64 k/\V=.string (qE (cH (l.take k)))/\Below w.heap.size w wr) (λ_ i _=>l.length-(intOf i).toNat)
 case atStart=>exact⟨0,fb _,rfl,rfl,dk _ _⟩
 case round=>
  obtain⟨k,hk,rfl,rfl,a⟩:=hrel;by_cases z:k<l.length
  .obtain⟨x,t⟩:=ar z;obtain⟨Y,S,rfl,_,_,Q,c0⟩:=lQ (fH.aK.below h a G) t;have O:=(dy (u.out x (da t))).2;have j:=as2 t;have HST:=ab j;have r:=λp=>ak0 (l:=l) (k:=k) p;have b:=ab r;clear j r t;revert HST b;generalize qE (cH (l.take k))=s;intro HST b;by_cases hs:s.size<=40
   .go_wp2;go_roundw
    case rel=>exact⟨k+1,by omega,by go_num,by rw[HST.out],a⟩
    simp[intOf];omega
   .have K:=ab (b.out (by omega));go_wp2;go_ret2;rw[K.out];exact⟨rfl,a⟩
  .obtain rfl:k=l.length:=by omega
   rw[fd];have o:=amt l u.out;have d:(qE (cH l)).size<=maxLen:=by unfold maxLen;omega
   have D:=ab (λP L=>afK (l:=l) P L);have y:=ab (aeu (l:=l));revert D y d o;generalize qE (cH l)=s;intro o d D y;go_wp2;refine(jJ (β:=β) s d _).mono ?_;rintro e w2 ⟨rfl,rfl⟩;by_cases f:dW s=true
   .rw[f];go_wp2;refine(anD (β:=β) s (by have:=(gj f).1;omega) _).mono ?_;rintro e Z ⟨M,rfl,R,B⟩;have C:∀x∈fT s,x.size<=maxLen:=λx F=>by have:=(dy (lT (gj f).2 x F)).2;unfold maxLen;omega
    have I:=adM.sl (aQ.deep R C wr.heap.size) (ap _);have N:=B.size;have W:=a.size;have U:=fH.aK.below h (ae a B) G;obtain⟨q,n⟩:=dO (fT s=l);replace n:=ab n;go_wp2;refine(ak1 (β:=β) (fT s) l M _ _ _ _ H E I U (ap _) (by omega) q n.out).mono ?_;rintro e X ⟨rfl,T⟩;have m:=ae a (ae B T);cases q with
    |true=>
     have g:=D.out f (n.out.1 rfl);go_wp2;go_ret2;exact⟨by rw[g];rfl,m⟩
    |false=>
     have g:=y.out λp=>by have:=n.out.2 p.2;cases this
     go_wp2;go_ret2;exact⟨by rw[g];rfl,m⟩
   .have g:=y.out λp=>f p.1;rw[uu.2 f];go_wp2;go_ret2;exact⟨by rw[g];rfl,a⟩
end
section
open Go.RowKit
def ag8(key:Int)(d:1<=key/\key<=99)(l:List Pk)(nm:Int)(v:Value)(w:World)(x t:Nat)(E:t<=w.heap.size)(h:gO w x t l [v]) :
  Calls (aj true) 73 #[.int .i64 key,v,.int .i64 nm] w λe n=>e=.returned (.tuple #[.string (bI key (bQ l) nm).1,.bool (bI key (bQ l) nm).2])/\Below w.heap.size w n:=by
 obtain⟨A,c,rfl⟩:=h.form;obtain⟨_,M,G⟩:=h.len_;unfold maxLen at G;go_enter yK,ntmps73;go_wp2;go_loopw [8] (λi wr=>∃k:Nat,k<=l.length/\i=.int .i64 k/\bI key (bQ l) nm=bI key (bQ (l.drop k)) nm/\Below w.heap.size w wr) (λi _=>l.length-(intOf i).toNat)
 case atStart=>exact⟨0,fb _,rfl,rfl,dk _ _⟩
 case round=>
  obtain⟨k,L,rfl,f,a⟩:=hrel;replace f:=ab f;have O:=a.size;by_cases q:k<l.length
  .obtain⟨p,s⟩:=ar q;have z:=gO.aK.below h a E;obtain⟨K,I,N,P,rfl, -, -,J,B,y,F⟩:=acd z s;have m:bI key (bQ (l.drop k)) nm=if(eD key (pkd p).2 nm).2=true then((eD key (pkd p).2 nm).1,true) else bI key (bQ (l.drop (k+1))) nm:=by
    obtain⟨C,H⟩:=jn.1 s;rw[ux C,H];rfl
   have HD:=ab (f.out.trans m);clear m s f;have HG:=λn (u:Below wr.heap.size wr n)=>acU (β:=true) key d p nm _ n x t (by have:=u.size;omega) (gX.aK.below F u (by omega));replace HG:=ab HG;have r:=ab (HG.out wr (dk _ _));clear HG;go_wp2;refine r.out.mono ?_;rintro e Q ⟨rfl,D⟩;have j:=ae a D;cases o:(eD key (pkd p).2 nm).2
   .have b:=HD.out.trans (bd (by rw[o];exact pu));have g:=ab b;clear b o;go_wp2;go_roundw
    case rel=>exact⟨k+1,by omega,by go_num,g.out,j⟩
    simp[intOf];omega
   .have b:=HD.out.trans (dj o);have g:=ab b;clear b o;go_wp2;go_ret2;rw[g.out];exact⟨rfl,j⟩
  .obtain rfl:k=l.length:=by omega
   have b:bI key (bQ l) nm=(⟨#[]⟩,false):=by rw[f.out,List.drop_length];rfl
   have g:=ab b;clear b;go_wp2;go_ret2;rw[g.out];exact⟨rfl,a⟩
def iy.agu(h:o=none)(a:Below w.heap.size w w'):iy o w (.returned (.tuple #[.slice (some ⟨w'.heap.size,0,none⟩) 0 0,.bool false])) (w'.alloc (.cells #[] 122)):=by
 subst h;exact⟨_,rfl,aQ.agu (ahF.new w' _ a.size),λy b=>(by cases b),a.alloc a.size _⟩
def an1{n:Int}(h:cZ[j]?=some n):eT key l (cZ.take (j+1))=eT key l (cZ.take j)++[(bI key l n).1]:=by
 unfold eT;rw[kw h,pI];rfl
theorem aey (key:Int) (O:1<=key/\key<=99) (l:List Pk) (x:Sn) (vl vn:Value) (lo I:Nat) (w:World) (aU:I<=w.heap.size) (hl:gO w lo I l [vl])
  (K:bK w lo I x.all [vn]) (a2:∀y∈x.all,y.ns.length<=2147483647) (br:x.all.length<=1099511627) :
  Calls (aj true) 48 #[.int .i64 key,.agg #[.int .i64 x.no,vn],vl] w (iy (dx key (bQ l) x.all) w):=by
 have HK:=ab O;clear O;obtain⟨B,d,rfl⟩:=K.form;obtain⟨-,hd,b6⟩:=K.len_;obtain⟨A,c,rfl⟩:=hl.form;unfold maxLen at b6;have bi:=ab a2;clear a2;go_enter xd,ntmps48;go_wp2;generalize hG:(w.alloc (.cells #[.int .i64 x.no,.slice B x.all.length d] 35)).alloc (.cells #[] 122)=w0 at *;obtain⟨av,eP,k0,dg,et,k1,jS,lK⟩:=pB hG;clear hG;have o0:aQ FNd 122 w0 w.heap.size (.slice (some ⟨w.heap.size+1,0,none⟩) 0 0) []:=aQ.agu ⟨_,rfl,by omega,k1⟩;refine(js (β:=true) key w0 true (by simp only[qe];exact HK.out)).mono ?_;rintro e w1 ⟨rfl,rfl⟩;go_wp2;go_loopw [8,9] (λoo ii wr=>∃k:Nat,k<=x.all.length/\ii=.int .i64 k/\(∀y∈x.all.take k,(fJ key (bQ l) y).isSome=true)/\aQ FNd 122 wr w.heap.size oo (cY key (bQ l) (x.all.take k))/\(∀y∈cY key (bQ l) (x.all.take k),FNd.good y)/\(cY key (bQ l) (x.all.take k)).length=k/\gK wr w.heap.size 35 #[.int .i64 x.no,.slice B x.all.length d]/\(∀b,oo.ownBlock=some b->w.heap.size<b)/\Below w.heap.size w wr) (λ_ ii _=>x.all.length-(intOf ii).toNat)
 case atStart=>exact⟨0,fb _,rfl,λy hy=>(by cases hy),o0,λy hy=>(by cases hy),rfl,k0,(by intro b e;cases e;exact uC _),av⟩
 case round=>
  clear k0 dg et av o0 k1 jS lK eP;obtain⟨k,hk,rfl,D,ho,a6,a8,k0,ad,R⟩:=hrel;have Q:=ab D;have L:=ab a6;have X:=ab a8;clear D a6 a8;have bu:=R.size;have dg:=k0.cell;by_cases aW:k<x.all.length
  .obtain⟨y,dr⟩:=ar aW;have aI:bK wr lo I x.all [.slice B x.all.length d]:=bK.loc.below K R aU;obtain⟨b,af,A',c',rfl,bL,V,b4,W,a5,a2⟩:=ag5 aI dr;have HY:=ab dr;have bk:=bi.out y (da dr);clear dr;obtain⟨J,bb⟩:∃J,J=wr:=⟨_,rfl⟩;subst bb;go_wp2;generalize hG:J.alloc (.cells #[] 9)=wa at *;obtain⟨iw,b9,m0,bf,b1⟩:=iK hG;clear hG;have p0:aQ mv 9 wa J.heap.size (.slice (some ⟨J.heap.size,0,none⟩) 0 0) []:=aQ.agu ⟨_,rfl,ap _,m0⟩;go_loopw [10,11] (λpp kk wi=>∃j:Nat,j<=y.ns.length/\kk=.int .i64 j/\(∀n∈y.ns.take j,(bI key (bQ l) n).2=true)/\aQ mv 9 wi J.heap.size pp (eT key (bQ l) (y.ns.take j))/\Below J.heap.size J wi) (λ_ kk _=>y.ns.length-(intOf kk).toNat)
   case atStart=>exact⟨0,fb _,rfl,λn K=>(by cases K),p0,iw⟩
   case round=>
    clear m0 bf b1 iw b9 p0;obtain⟨j,hj,rfl,N,o2,p⟩:=hrel;have jF:=ab N;clear N;have H:=ae R p;have zr:=H.size;have zi:=p.size;have a3:=aB k0 p;have bH:=a3.cell;clear W a5 dg;have bl:bK wr lo I x.all [.slice (some ⟨b,af,none⟩) x.all.length d]:=bK.loc.below K H aU;obtain⟨b',a7,A2,c2,e2, -, -, -,W,a5,aZ⟩:=ag5 bl HY.out;simp only[lE,qa,qn] at e2;obtain⟨rfl,rfl⟩:=e2;have bp:(k:Int)<(x.all.length:Int):=by omega
    by_cases aF:j<y.ns.length
    .obtain⟨n,a0⟩:=ar aF;obtain⟨m,bw,rfl, -, -,bn,bo⟩:=aZ.ints_at a0;have a1:=ab a0;clear a0;have b7:=ab (λ(w':World) (hy:Below wr.heap.size wr w')=>ag8 key HK.out l n _ w' lo I (by have:=hy.size;omega) (gO.aK.below (gO.aK.below hl H aU) hy (by omega)));go_wp2;refine(b7.out _ (dk _ _)).mono ?_;rintro e M ⟨rfl,m⟩;have a4:=ae p m;have o:=ae R a4;have C:=aB a3 m;have ax:=C.cell;cases hf:(bI key (bQ l) n).2
     .have g:dx key (bQ l) x.all=none:=abf (da HY.out) (abe λhh=>by
       have:=hh.1 n (da a1.out);rw[hf] at this;cases this)
      have t:=ab g;clear g hf;go_wp2;go_ret2;exact iy.agu t.out o
     .have an:∀z∈y.ns.take (j+1),(bI key (bQ l) z).2=true:=λz a=>by
       rw[kw a1.out] at a;rcases jt.1 a with a|a
       .exact jF.out z a
       .rw[gE.1 a];exact hf
      have aV:=ab an;have Y:=ab (an1 (key:=key) (l:=bQ l) a1.out);have r:(eT key (bQ l) (y.ns.take j)).length=j:=by unfold eT;rw[pr,lm];omega
      have S:=ab r;have f:=o2.below m;clear an hf r;revert f Y S;generalize eT key (bQ l) (y.ns.take j)=G;intro Y S f;obtain⟨Ao,co,rfl⟩:=f.form;have u:=a4.size;go_wp2_with(at_builtin;refine jD (F:=mv) (v:=.slice Ao G.length co) rfl (.tmp 58) (.tmp 60) 117 rfl aa8 (bI key (bQ l) n).1 rfl f rfl rfl (by rw[S.out];omega) u ?_;intro va w4 oa E T;obtain⟨Aa,ca,rfl⟩:=oa.form);go_roundw
      case rel=>exact⟨j+1,by omega,by go_num,aV.out,by rw[Y.out];simp only[gn,mp,qr,pb] at oa;exact oa,a4.trans (E.below u λi I hx=>by have:=(f.at_ hx).1;omega)⟩
      case measure=>simp[intOf];omega
    .obtain rfl:j=y.ns.length:=by omega
     rw[fd] at jF o2;have Z:∀s∈eT key (bQ l) y.ns,aX (bs s):=λs hs=>by
      obtain⟨n,K,rfl⟩:=lP.1 hs;exact(iv (jF.out n K)).1
     have aa:∀s∈eT key (bQ l) y.ns,s.size<=maxLen:=λs hs=>by have:=(dy (Z s hs)).2;unfold maxLen;omega
     have t2:=adM.sl (aQ.deep o2 aa J.heap.size) (ap _);have r:(eT key (bQ l) y.ns).length<=2147483647:=by unfold eT;rw[pr];exact bk
     have ay:=ab (λ(M:World) (m:Below wr.heap.size wr M)=>ak2 (β:=true) (eT key (bQ l) y.ns) Z r _ M _ _ (fH.aK.below t2 m (ap _)) m.size);have ba:=ab (show aiu key (bQ l) y.ns from jF.out);obtain⟨A4,c4,rfl⟩:=o2.form;clear Z aa t2 r o2 jF;go_wp2;refine(ay.out _ (dk _ _)).mono ?_;rintro e M ⟨rfl,m⟩;have o:=ae H m;have C:=aB a3 m;cases hj:(eE (eT key (bQ l) y.ns)).2
     .have g:dx key (bQ l) x.all=none:=abf (da HY.out) (abe λhh=>by rw[hj] at hh;cases hh.2);have t:=ab g;clear g hj;go_wp2;go_ret2;exact iy.agu t.out o
     .have P:=afL (x:=y) ba.out hj;have aT:(eE (eT key (bQ l) y.ns)).1.size<=maxLen:=by have:=aev (l:=eT key (bQ l) y.ns);unfold maxLen;omega
      generalize (eE (eT key (bQ l) y.ns)).1=tx at *;have ao:=acA HY.out P;have a9:∀z∈x.all.take (k+1),(fJ key (bQ l) z).isSome=true:=λz a=>by
       rw[kw HY.out] at a;rcases jt.1 a with a|a
       .exact Q.out z a
       .rw[gE.1 a,P];rfl
      have HN:=ab ao;have b0:=ab a9;clear ao a9 P hj;have f:=ho.below (ae p m);obtain⟨Ao,co,rfl⟩:=f.form;have u:=o.size;have ax:=C.cell;have b8:bK M lo I x.all [.slice (some ⟨b,af,none⟩) x.all.length d]:=bK.loc.below K o aU;obtain⟨b',a7,A5,c5,e2, -, -, -,bx,bt, -⟩:=ag5 b8 HY.out;simp only[lE,qa,qn] at e2;obtain⟨rfl,rfl⟩:=e2;clear W a5;go_wp2_with(at_builtin;refine jD (F:=FNd) (v:=.slice Ao (cY key (bQ l) (x.all.take k)).length co) rfl (.tmp 70) (.tmp 79) 83 rfl amm (⟨y.p,tx⟩:Nd) rfl f rfl rfl (by rw[X.out];omega) u ?_;intro va w4 oa E T;obtain⟨Aa,ca,rfl⟩:=oa.form;simp only[gn,mp,qr,pb] at oa T);go_roundw
      case rel=>
       have aP:=o.trans (E.below u λi I hx=>by have:=(f.at_ hx).1;omega);refine⟨k+1,by omega,by go_num,b0.out,by rw[HN.out];exact oa, ?_,by rw[HN.out,gn,X.out];rfl,alX C E (λe=>by have:=ad _ e;omega),(λb R=>(T b R).elim (ad b) λh=>by have:=C.lt;omega),aP⟩;rw[HN.out];intro z a;rcases jt.1 a with a|a
       .exact L.out z a
       .rw[gE.1 a];exact⟨b4,aT⟩
      case measure=>simp[intOf];omega
  .obtain rfl:k=x.all.length:=by omega
   rw[fd] at Q L X ho;have t3:=adM.sl (aQ.deep ho L.out w.heap.size) (ap _);obtain⟨q,hq⟩:∃q:Bool,q=true↔afu (cY key (bQ l) x.all):=dO _;have HT:=λM (m:Below wr.heap.size wr M)=>anE (β:=true) (cY key (bQ l) x.all) u8 M _ _ (my.aK.below t3 m (ap _)) m.size q hq;have b3:=ab HT;have HQ:=ab hq;clear HT hq t3;go_wp2;refine(b3.out _ (dk _ _)).mono ?_;rintro e w2 ⟨rfl,b2⟩;have V:=ae R b2;cases q with
   |false=>
    have g:dx key (bQ l) x.all=none:=by
     unfold dx;rw[bd];rintro⟨-,hh⟩;have:=HQ.out.2 (abU.1 hh);cases this
    have t:=ab g;clear g;go_wp2;go_ret2;exact iy.agu t.out V
   |true=>
    have al:dx key (bQ l) x.all=some (cY key (bQ l) x.all):=by
     unfold dx;rw[dj ⟨Q.out,abU.2 (HQ.out.1 rfl)⟩]
    have U:=ab al;clear al;have b5:=ho.below b2;clear ho;go_wp2;go_ret2;refine⟨u8,by rw[U.out];rfl,by rw[U.out];exact b5,by rw[U.out];exact L.out,V⟩
def aez (key:Int) (l:List Pk) (x:Sn) (g i:Value) (k b:Nat) (w:World) (r:b<=w.heap.size) (m:gO w k b l [g])
  (o:bK w k b x.all [i]) (f:∀y∈x.all,y.ns.length<=2147483647) (j:x.all.length<=1099511627) :
  Calls (aj true) 48 #[.int .i64 key,.agg #[.int .i64 x.no,i],g] w (iy (aew key (bQ l) x.all) w):=by
 by_cases a:1<=key/\key<=99
 .rw[show aew key (bQ l) x.all=dx key (bQ l) x.all from dj a];exact aey key a l x g i k b w r m o f j
 .rw[show aew key (bQ l) x.all=none from bd a];obtain⟨B,d,rfl⟩:=o.form;obtain⟨A,c,rfl⟩:=m.form;replace a:=ab a;go_enter xd,ntmps48;go_wp2;generalize n:(w.alloc (.cells #[.int .i64 x.no,.slice B x.all.length d] 35)).alloc (.cells #[] 122)=w0 at *;obtain⟨s,z,v,D,C,p,E,F⟩:=pB n;clear n;refine(js (β:=true) key w0 false (by simp only[fa,qN];exact a.out)).mono ?_;rintro e u ⟨rfl,rfl⟩;have t:aQ FNd 122 w0 w.heap.size (.slice (some ⟨w.heap.size+1,0,none⟩) 0 0) []:=aQ.agu ⟨_,rfl,by omega,p⟩;go_wp2;go_ret2;exact⟨_,rfl,t,λy q=>(by cases q),s⟩
end
section
open Go.Conc Go.ConcN Go.RowKit
structure nA (w0 w:World) (n:Nat) (res:List (ByteArray×Bool)):Prop where
 low:∀b,b<w0.heap.size->w.heap[b]?=w0.heap[b]?
 lt:w0.heap.size<w.heap.size
 row:∃cs,w.heap[w0.heap.size]?=some (.cells cs 171 (0,0))/\cs.size=2*n/\∀i x,res[i]?=some x->cs[2*i]?=some (.string x.1)/\cs[2*i+1]?=some (.bool x.2)
def uz(h:w.heap[C]?=some (.cells cs t z)):(w.setCell ⟨C,i,none⟩ v).heap[C]?=some (.cells (cs.setIfInBounds i v) t z):=by
 unfold World.setCell;simp[mt,h]
def dZ(h:w.heap[C]?=some (.cells cs t z)):w.cell? ⟨C,i,none⟩=cs[i]?:=by
 unfold World.cell?;simp[h]
def fU(h:w.heap[C]?=some (.cells cs t (0,0))):w.frozen? ⟨C,i,none⟩=false:=by
 unfold World.frozen?;simp[h]
def nA.below(h:nA w0 w n V)(c:Below w.heap.size w w'):nA w0 w' n V:=by
 obtain⟨e,f,d⟩:=h.row;exact⟨λb a=>(c.block b (Nat.lt_trans a h.lt)).trans (h.low b a),aE h.lt c.size,e,(c.block _ h.lt).trans f,d⟩
def nA.store(h:nA w0 w n V)(o:V.length<n)(x:ByteArray×Bool):nA w0 ((w.setCell ⟨w0.heap.size,2*V.length,none⟩ (.string x.1)).setCell ⟨w0.heap.size,2*V.length+1,none⟩ (.bool x.2)) n (V++[x]):=by
 obtain⟨p,l,g,j⟩:=h.row;refine⟨λb k=> ?_, ?_,_,uz (uz l),by simpa using g,λi y c=> ?_⟩
 .have d:w0.heap.size≠b:=by omega
  rw[bc _ _ _ d,bc _ _ _ d];exact h.low b k
 .rw[iS,iS];exact h.lt
 .rw[vi] at c;split at c
  .rename_i f;obtain⟨a,b⟩:=j i y c;constructor
   .rw[gc (by omega),gc (by omega)];exact a
   .rw[gc (by omega),gc (by omega)];exact b
  .rename_i m;have e:i=V.length:=by
    have:=(jn.1 c).1;simp at this;omega
   subst e;simp at c;subst c;constructor
   .rw[gc (by omega),oi (by omega)]
   .rw[oi (by simp;omega)]
abbrev inH(k:List Item):List Item:=.inLoop kE :: .inBlock 53::k
def aeA:f110.body.isSome=true:=by kernel_rfl
def aqE(β:Bool):∃a,(aj β).funcs[110]?=some a/\a.body.isSome=true/\(a.name == "runtime.NumGoroutine")=false:=by
 refine⟨pf f110, ?_, ?_,by have:=cu func110;exact this⟩
 .rw[ajt β (by decide) (by decide),func110];rfl
 .show(f110.body.map gP).isSome=true;rw[Option.isSome_map];exact aeA
def aiK{β:Bool}{args:Array Value} :(callFunc 110 args).runT (aj β) w #[]=(.ok (.enter 110 args) w,#[]):=by
 obtain⟨c,d,b,f⟩:=aqE β;unfold callFunc;have g:¬c.name= "runtime.NumGoroutine" :=by simpa using f
 have a:¬c.body=none:=λe=>by rw[e] at b;cases b
 simp[d,g,a]
section
variable {X:Cx} {T:Array Value} {k:List Item} {w:World}
def At.axG (hF:dN Z)  {A2 : Option Addr}   (h:At X T (.code kE::inH k) w)
  (k1:1<=key) (k2:key<=99) (hl:l.length=n) (hc:n<=c) (ao:(c:Int)<=9223372036854775807) (hp:RdP w0 A 0 l) (a7:∀a,A2=some a->0<Y->a.block<w0.heap.size) (aV:(Y:Int)<=2147483647)
  (G:T.getD 0 undef=.int .i64 key) (s1:T.getD 1 undef=.slice A n c) (s2:T.getD 2 undef=.slice A2 Y C) (D:T.getD 16 undef=.int .i64 Y) (p:T.getD 27 undef=.slice (some ⟨w0.heap.size,0,none⟩) Y Y) (g:T.getD 28 undef=.int .i64 j)
  (hj:j<=Y) (al:cZ.length=j) (r:nA w0 w Y (cZ.map (Z key l))) :
  (j=Y/\∃T',Tm cD T T'/\T'.getD 27 undef=.slice (some ⟨w0.heap.size,0,none⟩) Y Y/\At X T' k w)\/
  (j<Y/\∃nm T' w',aij w0 A2 j nm/\Tm cD T T'/\T'.getD 16 undef=.int .i64 Y/\T'.getD 27 undef=.slice (some ⟨w0.heap.size,0,none⟩) Y Y/\T'.getD 28 undef=.int .i64 (j+1:Nat)/\nA w0 w' Y ((cZ++[nm]).map (Z key l))/\At X T' (.code kE::inH k) w'):=by
 have B:=Tm.refl cD T;unfold Go.Proofs.YtlggbfanooejbaaGreatDoor.kE at h;have h:=h.seq;replace h:=h.region (l:=[0]) rfl;obtain⟨v,I,aW,⟨o,i⟩,m,W,b⟩:=h.iq (d:=26) (Φ:=λv q=>v=.bool (decide ((j:Int)<Y))/\q=w) rfl rfl rfl (by decide) λL q E=>ft (by exact g) (by exact D) E;rw[o] at W;rw[i] at b;clear o i;replace G:=(m.same 0 rfl).trans G;replace s1:=(m.same 1 rfl).trans s1;replace s2:=(m.same 2 rfl).trans s2;replace D:=(m.same 16 rfl).trans D;replace p:=(m.same 27 rfl).trans p;replace g:=(m.same 28 rfl).trans g;replace B:=B.trans (m.sw rfl);clear m;replace h:=b;clear b;replace h:=h.gY.seq.cond W;by_cases R:(j:Int)<Y
 .right;rw[du R] at h;simp only[mw] at h;replace h:=h.skip.seq.seq;replace h:=h.region (l:=[0,1,2,3]) rfl;obtain⟨ii,hi,hz⟩:=(faQ true).i3;obtain⟨v,I,ax,⟨a,hB,o,i⟩,m,N,b⟩:=h.iq (d:=25) (Φ:=λv q=>∃a,A2=some a/\v=.pointer (some (a.add (j*ii.size)))/\q=w) rfl rfl rfl (by decide) λL q E=>aa4 (faQ true).u31 hi (by exact s2) (by exact g) (by omega) E;rw[o,hz,sV] at N;rw[i] at b;clear o i;replace G:=(m.same 0 rfl).trans G;replace s1:=(m.same 1 rfl).trans s1;replace D:=(m.same 16 rfl).trans D;replace p:=(m.same 27 rfl).trans p;replace g:=(m.same 28 rfl).trans g;replace B:=B.trans (m.sw rfl);clear m;replace h:=b;clear b;have hv:=h.noV (t:=25) rfl rfl rfl N (λe w he=>aec he);obtain⟨vv,I,aU,⟨H,i⟩,m,M,b⟩:=h.iq (d:=20) (Φ:=λv q=>w.cell? (a.add j)=some v/\q=w) rfl rfl rfl (by decide) λL q E=>agM (faQ true).u3 rfl (by exact N) hv.1 E;rw[i] at b;clear i;replace G:=(m.same 0 rfl).trans G;replace s1:=(m.same 1 rfl).trans s1;replace D:=(m.same 16 rfl).trans D;replace p:=(m.same 27 rfl).trans p;replace g:=(m.same 28 rfl).trans g;replace B:=B.trans (m.sw rfl);clear m;replace h:=b;clear b;obtain⟨v,I,aT,⟨z,a9,o,i⟩,m,F,b⟩:=h.iq (d:=22) (Φ:=λv q=>∃z,vv=.int .i64 z/\v=.int .i64 (IntKind.i64.wrap (z*1))/\q=w) rfl rfl rfl (by decide) λL q E=>let⟨v,a1,z,a2,a3,a4⟩:=akl E rfl;⟨v,a1,z,M.symm.trans a2,a3,a4⟩
  rw[o] at F;rw[i] at b;clear o i;replace G:=(m.same 0 rfl).trans G;replace s1:=(m.same 1 rfl).trans s1;replace D:=(m.same 16 rfl).trans D;replace M:=(m.same 20 rfl).trans M;replace p:=(m.same 27 rfl).trans p;replace g:=(m.same 28 rfl).trans g;replace B:=B.trans (m.sw rfl);clear m;replace h:=b;clear b;subst a9;obtain⟨v,I,O,⟨o,i⟩,m,a5,b⟩:=h.iq (d:=21) (Φ:=λv q=>v=.bool (IntKind.i64.wrap (z*1) ==z)/\q=w) rfl rfl rfl (by decide) λL q E=>akn (by exact F) (by exact M) E;rw[o] at a5;rw[i] at b;clear o i;replace G:=(m.same 0 rfl).trans G;replace s1:=(m.same 1 rfl).trans s1;replace D:=(m.same 16 rfl).trans D;replace M:=(m.same 20 rfl).trans M;replace F:=(m.same 22 rfl).trans F;replace p:=(m.same 27 rfl).trans p;replace g:=(m.same 28 rfl).trans g;replace B:=B.trans (m.sw rfl);clear m;replace h:=b;clear b;obtain⟨hq,b⟩:=h.gY.avC a5;replace h:=b.seq;clear b;replace h:=h.region (l:=[0,1,2]) rfl;have a0:=aae hq;have a8:aij w0 A2 j z:=⟨a,hB,by rw[<-fq (r.low (a.add j).block (by rw[qw];exact a7 a hB (by omega)))];exact H,a0⟩;obtain⟨v,I,ay,⟨o,Q⟩,m,J,b⟩:=h.call (d:=24) (f:=110) (args:=#[.int .i64 key,.slice A n c,.int .i64 z]) rfl rfl rfl (by decide) (λw=>by
    have hm:Array.map (Frame.eval (FQ bX O (.inRegion ahr [0,1,2] :: .code (.region 83 ahs false)::inH k))) #[.tmp 0,.tmp 1,.tmp 20]=#[.int .i64 key,.slice A n c,.int .i64 z]:=by
     rw[<-G,<-s1,<-M];simp[Frame.eval]
    have e0:execOp (Frame.eval (FQ bX O (.inRegion ahr [0,1,2] :: .code (.region 83 ahs false)::inH k))) (fY (some 24) (.call ⟨.value (.func 110),#[.tmp 0,.tmp 1,.tmp 20],#[3,23,3]⟩) 171)=callFunc 110 #[.int .i64 key,.slice A n c,.int .i64 z]:=by
     simp only[execOp,fY,resolve];rw[hm];simp[Deferred.ofValue,invoke,Frame.eval];try rfl
    exact(ef (λs=>Sem.runT (aj true) s w #[]) e0).trans aiK) (hF true w key A n c l z k1 k2 hl hc ao (hp.below r.low) a0)
  rw[o] at J;replace r:=r.below Q;clear o Q;replace D:=(m.same 16 rfl).trans D;replace F:=(m.same 22 rfl).trans F;replace p:=(m.same 27 rfl).trans p;replace g:=(m.same 28 rfl).trans g;replace B:=B.trans (m.sw rfl);clear m;replace h:=b;clear b;clear H hv;obtain⟨i2,gM,a6, -⟩:=(faQ true).i258;obtain⟨v,w2,aa,⟨a2,an,o,i⟩,m,S,b⟩:=h.iq (d:=23) (Φ:=λv q=>∃a,some (⟨w0.heap.size,0,none⟩:Addr)=some a/\v=.pointer (some (a.add (j*i2.size)))/\q=I) rfl rfl rfl (by decide) λL q E=>aa4 (faQ true).agJ gM (by exact p) (by exact g) (by omega) E;cases an;rw[o,a6,gR,pb,uB] at S;rw[i] at b;clear o i;replace D:=(m.same 16 rfl).trans D;replace F:=(m.same 22 rfl).trans F;replace J:=(m.same 24 rfl).trans J;replace p:=(m.same 27 rfl).trans p;replace g:=(m.same 28 rfl).trans g;replace B:=B.trans (m.sw rfl);clear m;replace h:=b;clear b;have U:=r.store (by simp;omega) (Z key l z);rw[pr,al] at U;obtain⟨cs,K,aI, -⟩:=r.row;obtain⟨u0,av⟩:∃u,cs[2*j]?=some u:=⟨_,ff (by omega)⟩;obtain⟨u1,ad⟩:∃u,cs[2*j+1]?=some u:=⟨_,ff (by omega)⟩;have ha:(⟨w0.heap.size,2*j,none⟩:Addr).add 1=⟨w0.heap.size,2*j+1,none⟩:=gR _ _ _;have V:=anz (faQ true) (dst:=none) (ty:=0) (pos:= "") (af:=#[]) (gd:=none) (w:=I) (A:=⟨w0.heap.size,2*j,none⟩) (u0:=.string (Z key l z).1) (u1:=.bool (Z key l z).2) (e:=(FQ bX aa (.inRegion ahr (2::[]) :: .code (.region 83 ahs false)::inH k)).eval) (x:=.tmp 23) (y:=.tmp 24) rfl rfl (by exact S) (by exact J) ((dZ K).trans av) (fU K) (by rw[ha];exact(dZ K).trans ad) (by rw[ha];exact fU K);rw[ha] at V;replace h:=h.opk rfl rfl rfl V;replace h:=h.gY.region (l:=[0,1]) rfl;generalize (I.setCell ⟨w0.heap.size,2*j,none⟩ (.string (Z key l z).1)).setCell ⟨w0.heap.size,2*j+1,none⟩ (.bool (Z key l z).2)=q at *;clear F;obtain⟨v,I,aF,⟨o,i⟩,m,F,b⟩:=h.iq (d:=22) (Φ:=λv P=>v=.int .i64 (IntKind.i64.wrap ((j:Int)+1))/\P=q) rfl rfl rfl (by decide) λL P E=>akm (by exact g) rfl E;rw[o] at F;rw[i] at b;clear o i;replace D:=(m.same 16 rfl).trans D;replace p:=(m.same 27 rfl).trans p;replace g:=(m.same 28 rfl).trans g;replace B:=B.trans (m.sw rfl);clear m;replace h:=b;clear b;clear g;obtain⟨v,I,aP,⟨o,i⟩,m,g,b⟩:=h.iq (d:=28) (Φ:=λv P=>v=.int .i64 (IntKind.i64.wrap ((j:Int)+1))/\P=q) rfl rfl rfl (by decide) λL P E=>let⟨v,a1,a2,a3⟩:=agK E;⟨v,a1,a2.trans F,a3⟩
  rw[o] at g;rw[i] at b;clear o i;replace D:=(m.same 16 rfl).trans D;replace p:=(m.same 27 rfl).trans p;replace B:=B.trans (m.sw rfl);clear m;replace h:=b;clear b;rw[aed (by omega)] at g;exact⟨by omega,z,_,q,a8,B,D,p,g,by rw[pI];exact U,h.gY.again⟩
 .left;rw[bv R] at h;simp only[fa,pX] at h;exact⟨by omega,_,B,p,h.exit rfl⟩
def At.auy {G:Int->List fS->Int->ByteArray×Bool} (B:dN G) {w0:World} {key:Int} {A v:Option Addr} {n c b N:Nat} {l:List fS}
  (x:1<=key) (k2:key<=99) (D:l.length=n) (H:n<=c) (q:(c:Int)<=9223372036854775807) (C:RdP w0 A 0 l) (p:∀a,v=some a->0<b->a.block<w0.heap.size) (r:(b:Int)<=2147483647):∀(m j:Nat) {T:Array Value} {w:World} {t:List Int},b=j+m->At X T (.code kE::inH k) w->
  T.getD 0 undef=.int .i64 key->T.getD 1 undef=.slice A n c->T.getD 2 undef=.slice v b N->T.getD 16 undef=.int .i64 b->T.getD 27 undef=.slice (some ⟨w0.heap.size,0,none⟩) b b->T.getD 28 undef=.int .i64 j->t.length=j->(∀i nm,t[i]?=some nm->aij w0 v i nm)->nA w0 w b (t.map (G key l))->
  ∃(d:List Int) (T':Array Value) (u:World),d.length=b/\(∀i nm,d[i]?=some nm->aij w0 v i nm)/\nA w0 u b (d.map (G key l))/\Tm cD T T'/\T'.getD 27 undef=.slice (some ⟨w0.heap.size,0,none⟩) b b/\At X T' k u
 |0,j,T,w,t,e,h,s0,s1,s2,cU,gQ,gU,hnl,hnm,hrow=>by
  rcases h.axG B x k2 D H q C p r s0 s1 s2 cU gQ gU (by omega) hnl hrow with⟨_,T',J,g,I⟩|⟨y,_⟩
  .exact⟨t,T',w,by omega,hnm,hrow,J,g,I⟩
  .omega
 |m+1,j,T,w,t,e,h,s0,s1,s2,cU,gQ,gU,hnl,hnm,hrow=>by
  rcases h.axG B x k2 D H q C p r s0 s1 s2 cU gQ gU (by omega) hnl hrow with⟨W,_⟩|⟨y,nm,V,U,P,f,E,g,F,o,K⟩
  .omega
  .obtain⟨d,T',u,R,S,L,O,M,Q⟩:=At.auy B x k2 D H q C p r m (j+1) (by omega) K ((f.same 0 rfl).trans s0) ((f.same 1 rfl).trans s1) ((f.same 2 rfl).trans s2) E g F (by simp[hnl]) (λi z s=>by
    rw[vi] at s;split at s
    .exact hnm i z s
    .have:i=j:=by
      have:=(jn.1 s).1;simp at this;omega
     subst this;simp[hnl] at s;subst s;exact P) o
   exact⟨d,T',u,R,S,L,f.trans O,M,Q⟩
end
end
section
open Go.Conc Go.ConcN
def mxA:Option Addr->Nat
 |none=>0
 |some a=>a.block+1
def mxN:Option Nat->Nat
 |none=>0
 |some a=>a+1
def as3:Fn->Nat
 |.yield l=>l+1
 |_=>0
mutual
noncomputable def mxV:Value->Nat
 |.pointer a=>mxA a
 |.slice a _ _=>max (mxA a) gN
 |.map a=>mxN a
 |.chan a=>mxN a
 |.func f ⟨a⟩ ⟨c⟩=>max (as3 f) (max (mxL a) (mxL c))
 |.iface _ v=>mxV v
 |.agg ⟨l⟩=>mxL l
 |.tuple ⟨l⟩=>mxL l
 |_=>0
noncomputable def mxL:List Value->Nat
 |[]=>0
 |v::l=>max (mxV v) (mxL l)
end
noncomputable def mxE:List MapEntry->Nat
 |[]=>0
 |e::l=>max (max (mxV e.key) (mxV e.val)) (mxE l)
noncomputable def mxO:Obj->Nat
 |.cells c _ _=>mxL c.toList
 |.map e _=>mxE e.toList
 |.loop l=>mxL l.tmps.toList
 |_=>0
noncomputable def mxH:List Obj->Nat
 |[]=>0
 |o::l=>max (mxO o) (mxH l)
def amv:∀{l:List Obj} {i:Nat} {o:Obj},l[i]?=some o->mxO o<=mxH l
 |[],i,o,h=>by simp at h
 |x::l,0,o,h=>by simp at h;subst h;simp only[mxH];omega
 |x::l,i+1,o,h=>by
  have:=amv (l:=l) (i:=i) (o:=o) (by simpa using h);simp only[mxH];omega
noncomputable def ak3:List Frame->Nat
 |[]=>0
 |f::l=>max (mxL f.tmps.toList) (ak3 l)
def aqG(f:Fn)(a c:Array Value):mxV (.func f a c)=max (as3 f) (max (mxL a.toList) (mxL c.toList)):=by
 obtain⟨a⟩:=a;obtain⟨c⟩:=c;simp only[mxV]
def as4(a:Array Value):mxV (.agg a)=mxL a.toList:=by
 obtain⟨a⟩:=a;simp only[mxV]
def an2(a:Array Value):mxV (.tuple a)=mxL a.toList:=by
 obtain⟨a⟩:=a;simp only[mxV]
section
variable {ρ σ:Ren} {D:Nat} (hd:σ.dim=ρ.dim/\σ.al=ρ.al) (H:∀{a b:Nat},σ.r a b->b<D->ρ.r a b)
include H
theorem OAR.down{u v:Option Addr}(k:OAR σ u v)(a:mxA v<=D):OAR ρ u v:=by
 cases k with
 |none=>exact .none
 |some k=>cases k with
  |mk h o s=>exact .some (.mk (H h (by simp only[mxA] at a;omega)) o s)
theorem NR.down{v : Option Nat}(k:NR σ u v)(a:mxN v<=D):NR ρ u v:=by
 cases k with
 |none=>exact .none
 |some h=>exact .some (H h (by simp only[mxN] at a;omega))
theorem FR.down{u v:Fn}(k:FR σ u v)(a:as3 v<=D):FR ρ u v:=by
 cases k with
 |same f b=>exact .same _ b
 |yield h=>exact .yield (H h (by simp only[as3] at a;omega))
include hd
mutual
theorem VR.down:∀{u v:Value},VR σ u v->mxV v<=D->VR ρ u v
 |_,_,.eL hl k,_=>.eL (hd.1▸hl) k
 |_,_,.aal k hl,_=>.aal k (hd.2▸hl)
 |_,_,.bool b,_=>.bool b
 |_,_,.int k n,_=>.int k n
 |_,_,.string s,_=>.string s
 |_,_,.pointer k,hb=>.pointer (OAR.down H k (by simpa only[mxV] using hb))
 |_,_,.slice k l c,hb=>.slice (OAR.down H k (by simp only[mxV] at hb;omega)) l c
 |_,_,.empty k hg a',hb=>.empty (H k (by simp only[mxV] at hb;omega)) hg a'
 |_,_,.map k,hb=>.map (NR.down H k (by simpa only[mxV] using hb))
 |_,_,.chan k,hb=>.chan (NR.down H k (by simpa only[mxV] using hb))
 |_,_,.func f x y,hb=>by
  rw[aqG] at hb;exact .func (FR.down H f (by omega)) (bG.down x (by omega)) (bG.down y (by omega))
 |_,_,.nilFunc,_=>.nilFunc
 |_,_,.iface t k,hb=>.iface t (VR.down k (by simpa only[mxV] using hb))
 |_,_,.nilIface,_=>.nilIface
 |_,_,.agg k,hb=>.agg (bG.down k (by rwa [as4] at hb))
 |_,_,.tuple k,hb=>.tuple (bG.down k (by rwa [an2] at hb))
theorem bG.down:∀{u v:List Value},bG σ u v->mxL v<=D->bG ρ u v
 |_,_,.nil,_=>.nil
 |_,_,.cons k kl,hb=>.cons (VR.down k (by simp only[mxL] at hb;omega)) (bG.down kl (by simp only[mxL] at hb;omega))
end
def kP.down:∀{u v:List MapEntry},kP σ u v->mxE v<=D->kP ρ u v
 |_,_,.nil,_=>.nil
 |_,_,.cons (.mk k1 k2 b) kl,hb=>.cons (.mk (VR.down hd H k1 (by simp only[mxE] at hb;omega)) (VR.down hd H k2 (by simp only[mxE] at hb;omega)) b) (kP.down kl (by simp only[mxE] at hb;omega))
variable (hx:σ.lax=ρ.lax) (hle:ρ.Le σ)
include hx hle
theorem OR.down{u v v':Obj}(h:OR ρ u v')(k:OR σ v v')(b:mxO v'<=D):OR ρ v v':=by
 cases h with
 |cells h t C=>cases k with
  |cells k _ g=>
   refine .cells (bG.down hd H k b) t ?_;unfold ZR at g ⊢;rw[<-hx];exact g
 |map h c=>cases k with
  |map k _=>exact .map (kP.down hd H k b) c
 |stringIter s p=>cases k;exact .stringIter s p
 |number h l=>cases k with
  |number k _=>
   obtain⟨d,o,s⟩:=h;cases k with
   |mk f _ _=>
    have:=σ.inj (hle.r d) f;subst this;exact .number (.mk d o s) l
 |mapIter h s a n=>cases k with
  |mapIter k _ _ _=>
   cases h with
   |none=>cases k;exact .mapIter .none s a n
   |some h=>cases k with
    |some k=>
     have:=σ.inj (hle.r h) k;subst this;exact .mapIter (.some h) s a n
 |loop d f E z B F A e=>cases k with
  |loop i x q y r w m j=>
   have:=σ.inj (hle.r e) j;rw[this] at e;exact .loop i x q (bG.down hd H y b) r w m e
 |bu=>cases k;exact .bu
 |deferred=>cases k;exact .deferred
omit hd hx in
omit H in
theorem Ren.down{a b' : Nat}(h:ρ.r a b')(k:σ.r b b'):ρ.r b b':=by
 have:=σ.inj (hle.r h) k;subst this;exact h
omit hd hx in
omit H in
theorem iI.down{P:Program}:∀{u v a:List Item},iI P ρ u a->iI P σ v a->iI P ρ v a
 |_,_,_,.nil,.nil=>.nil
 |_,_,_,.cons h hl,.cons k kl=>.cons (by
   cases h with
   |code c=>cases k;exact .code c
   |inBlock id=>cases k;exact .inBlock id
   |inLoop c=>cases k;exact .inLoop c
   |inScope c=>cases k;exact .inScope c
   |inRegion h l=>cases k with
    |inRegion k _=>exact .inRegion k l
   |inRangeFunc h=>cases k with
    |inRangeFunc k=>exact .inRangeFunc (Ren.down hle h k)
   |endRangeFunc h=>cases k with
    |endRangeFunc k=>exact .endRangeFunc (Ren.down hle h k)
   |beginRound=>cases k;exact .beginRound) (iI.down hl kl)
omit hd hx in
omit H in
theorem CDs.down:∀{u v a:List Deferred},CDs ρ u a->CDs σ v a->CDs ρ v a
 |_,_,_,.nil,.nil=>.nil
 |_,_,_,.cons h hl,.cons k kl=>.cons (Ren.down hle h k) (CDs.down hl kl)
omit hd hx in
omit H in
theorem NR.axH{v v' : Option Nat}(h:NR ρ u v')(k:NR σ v v'):NR ρ v v':=by
 cases h with
 |none=>cases k;exact .none
 |some h=>cases k with
  |some k=>exact .some (Ren.down hle h k)
omit hx in
theorem FrR.down{u v v':Frame}(h:FrR P ρ u v')(k:FrR P σ v v')(a:mxL v'.tmps.toList<=D):FrR P ρ v v':=
 ⟨k.fn,bG.down hd H k.tmps a,iI.down hle h.todo k.todo,CDs.down hle h.defers k.defers,k.mode,k.kind,NR.axH hle h.round k.round⟩
omit hx in
theorem gz.down{P:Program}:∀{u v a:List Frame},gz P ρ u a->gz P σ v a->ak3 a<=D->gz P ρ v a
 |_,_,_,.one h h0,.one k k0,hb=>.one (FrR.down hd H hle h k (by simp only[ak3] at hb;omega)) k0
 |_,_,_,.cons h b,.cons k kl,hb=>.cons (FrR.down hd H hle h k (by simp only[ak3] at hb;omega)) (gz.down b kl (by simp only[ak3] at hb;omega))
 |_,_,_,.one h h0,.cons k kl,_=>by cases kl
 |_,_,_,.cons h b,.one k k0,_=>by cases b
end
end
section
open Go Go.Conc Go.ConcN Go.RowKit
def axI:∀i,i<20->cD.getD i 0<45/\ab4[i]?=some (am4 (cD.getD i 0) 0)/\cD.contains (cD.getD i 0)=true:=by
 intro i a;have:i=0\/i=1\/i=2\/i=3\/i=4\/i=5\/i=6\/i=7\/i=8\/i=9\/i=10\/i=11\/i=12\/i=13\/i=14\/i=15\/i=16\/i=17\/i=18\/i=19:=by omega
 rcases this with rfl|rfl|rfl|rfl|rfl|rfl|rfl|rfl|rfl|rfl|rfl|rfl|rfl|rfl|rfl|rfl|rfl|rfl|rfl|rfl<;>exact⟨by decide,rfl,rfl⟩
def axJ{t:Nat}(h:cD.contains t=true):∃i,i<20/\cD.getD i 0=t:=by
 have b:t∈cD:=by simpa using h
 obtain⟨i,a,c⟩:=vh.1 b;exact⟨i,a,by rw[sU,io a];exact c⟩
def avW:∀i,i<20->∀j,j<20->cD.getD i 0=cD.getD j 0->i=j:=by decide
section
variable {X:Cx} {T:Array Value} {k:List Item} {w:World}
def At.auz:∀(m i:Nat) {T:Array Value},i+m=20->At X T (.inRegion ab4 (List.range' i m)::k) w->(∀j,j<i->T.getD (cD.getD j 0) undef=.int .i64 0)->
  ∃T',At X T' (.inRegion ab4 []::k) w/\(∀j,j<20->T'.getD (cD.getD j 0) undef=.int .i64 0)/\Tm cD T T'
 |0,i,T,e,h,hd=>⟨T,h,λj u=>hd j (by omega),.refl _ _⟩
 |m+1,i,T,e,h,hd=>by
  have l:i<20:=by omega
  obtain⟨x,o,q⟩:=axI i l;rw[List.range'_succ] at h;obtain⟨v,z,A,⟨t,y⟩,n,s,h⟩:=h.iq (d:=cD.getD i 0) (Φ:=λv g=>v=.int .i64 0/\g=w) o rfl rfl x λB g p=>im p;rw[t] at s;rw[y] at h;obtain⟨T',r,f,c⟩:=At.auz m (i+1) (by omega) h λj u=>by
   by_cases a:j=i
   .subst a;exact s
   .have b:cD.getD j 0≠cD.getD i 0:=λe=>a (avW j (by omega) i l e);rw[n.same _ (by simpa using b)];exact hd j (by omega)
  exact⟨T',r,f,(n.sw q).trans c⟩
def At.last{C:Addr}(h:At X T (.code aii::k) w)(r:T.getD 27 undef=.slice (some C) n n):∃T' m,AtL X T' (.code cB::k) m/\(∀b,b<w.heap.size->m.heap[b]?=w.heap[b]?)/\w.heap.size<m.heap.size/\
  m.heap[w.heap.size]?=some (.cells #[.slice (some C) n n] 160 (0,0))/\T'.getD 17 undef=.slice (some C) n n/\T'.getD 8 undef=.pointer (some ⟨w.heap.size,0,none⟩)/\(∀t,cD.contains t=true->T'.getD t undef=.int .i64 0)/\Tm (8::17::cD) T T':=by
 unfold aii at h;have h:=h.seq;replace h:=h.region (l:=[0,1,2]) rfl;obtain⟨v,G,H,⟨B,s⟩,L,a,F⟩:=h.iq (d:=17) (Φ:=λv g=>v=.slice (some C) n n/\g=w) rfl rfl rfl (by decide) λR g z=>let⟨v,P,Q,K⟩:=im z;⟨v,P,Q.trans r,K⟩
 rw[B] at a;rw[s] at F;obtain⟨v,G,S,⟨B,s⟩,E,o,f⟩:=F.iq (d:=8) (Φ:=λv g=>v=.pointer (some ⟨w.heap.size,0,none⟩)/\g=w.alloc (.cells #[.slice none 0 0] 160)) rfl rfl rfl (by decide) λR g z=>by
  have:=(ap1 (faQ true) (w:=w) (e:=(FQ bX H (.inRegion aht (1::[2]) :: .code (.seq (.region 59 ab4 false) cB)::k)).eval) (dst:=some 8) (ty:=0) (pos:= "") (af:=#[]) (gd:=none)).symm.trans z;cases this;exact⟨_,rfl,rfl,rfl⟩
 rw[B] at o;rw[s] at f;replace a:=(E.same 17 rfl).trans a;have q:(w.alloc (.cells #[.slice none 0 0] 160)).heap[w.heap.size]?=some (.cells #[.slice none 0 0] 160 (0,0)):=by
  show(w.heap.push _)[w.heap.size]?=_;rw[qi]
 have I:=anA (faQ true) (dst:=none) (ty:=0) (pos:= "") (af:=#[]) (gd:=none) (w:=w.alloc (.cells #[.slice none 0 0] 160)) (A:=⟨w.heap.size,0,none⟩) (u:=.slice (some C) n n) (c0:=.slice none 0 0)
  (e:=(FQ bX S (.inRegion aht (2::[]) :: .code (.seq (.region 59 ab4 false) cB)::k)).eval) (x:=.tmp 8) (y:=.tmp 17) ⟨_,_,_,rfl⟩ (by exact o) (by exact a) (dZ q) (fU q)
 replace f:=(f.opk rfl rfl rfl I).gY.seq;replace f:=f.region (l:=List.range' 0 20) rfl;obtain⟨J,M,N,p⟩:=f.auz 20 0 (by rfl) (λj U=>by omega);refine⟨J,_,M.axm,λb D=> ?_, ?_, ?_,(p.same 17 rfl).trans a,(p.same 8 rfl).trans o,λt c=> ?_, ?_⟩
 .rw[bc _ _ _ (by show w.heap.size≠b;omega)];exact rE w _ b D
 .rw[iS,oS];omega
 .exact uz q
 .obtain⟨i,O,rfl⟩:=axJ c;exact N i O
 .exact((L.mono λt c=>by simp at c;subst c;rfl).trans (E.mono λt c=>by simp at c;subst c;rfl)).trans (p.mono λt c=>by
   simp only[sD,qs];exact .inr (.inr c))
end
end
section
open Go Go.Conc Go.ConcN Go.RowKit
def aqH{ρ:Ren}:∀(x y:List Value),x.length=y.length->(∀(i:Nat) u v,x[i]?=some u->y[i]?=some v->VR ρ u v)->bG ρ x y
 |[],[],_,_=>.nil
 |[],_::_,h,_=>by cases h
 |_::_,[],h,_=>by cases h
 |a::x,b::y,hs,h=>.cons (h 0 a b rfl rfl) (aqH x y (by simpa using hs) λi u v c d=>h (i+1) u v (by simpa using c) (by simpa using d))
def ak4{x : Array Value}(b:x.size=y.size)(h:∀(i:Nat) u v,x[i]?=some u->y[i]?=some v->VR ρ u v):cM ρ x y:=
 aqH _ _ (by simpa using b) λi u v a c=>h i u v (by rw[<-dl];exact a) (by rw[<-dl];exact c)
def cM.at{x : Array Value}(h:cM ρ x y){u : Value}(d:x[i]?=some u)(b:y[i]?=some v):VR ρ u v:=by
 obtain⟨e,a,c⟩:=bG.get h (i:=i) (v:=u) (by rw[dl];exact d);rw[dl,b] at a;cases a;exact c
abbrev T0F(a:Array Value):Array Value:=a++Array.replicate (45-a.size) undef
def as5 :Frame.enter (aj true) bX W .normal=FQ bX (T0F W) [.code iV]:=by
 have a:(aj true).funcs[bX]?=some (qFA true):=abB true;unfold Frame.enter;rw[a];rfl
def amw(h:T[i]?=some v):T.getD i undef=v:=by
 rw[fi,h];rfl
def dn(w:World)(b:Nat):Prop:=∃c t z,w.heap[b]?=some (.cells c t z)
def fV{A:Addr}(a:w.cell? A=some v):dn w A.block:=by
 unfold World.cell? at a;cases b:w.heap[A.block]? with
 |none=>rw[b] at a;simp at a
 |some o=>
  rw[b] at a;cases o with
  |cells c t z=>exact⟨c,t,z,b⟩
  |_=>simp at a
def avX:(gL.all λg=>g ==0||g ==1)=true:=by unfold gL;kernel_rfl
structure axK (ρ:Ren) (a':Array Value) (w:World) (key:Int) (A:Option Addr) (n c:Nat) (l:List fS) (A2:Option Addr) (n2 c2:Nat) (cZ:List Int):Prop where
 s0:(T0F a').getD 0 undef=.int .i64 key
 k1:1<=key
 k2:key<=99
 s1:(T0F a').getD 1 undef=.slice A n c
 nc:n<=c
 cm:(c:Int)<=9223372036854775807
 ln:l.length=n
 rd:RdP w A 0 l
 rg:∀i x,l[i]?=some x->∀a b m e,A=some a->w.cell? ((a.add (i*2)).add 1)=some (.slice (some b) m e)->0<e->∃y,ρ.r y b.block
 s2:(T0F a').getD 2 undef=.slice A2 n2 c2
 n2m:(n2:Int)<=2147483647
 n2c:n2<=c2
 c2m:(c2:Int)<=9223372036854775807
 nn:cZ.length=n2
 nm:∀i nm,cZ[i]?=some nm->aij w A2 i nm
 gl:∀g∈gL,dn w g
 al:∀a,A=some a->0<c->∃b,ρ.r b a.block
 al2:∀a,A2=some a->0<c2->∃b,ρ.r b a.block
def oT(t:Nat):Bool:=t ==12||t ==14||decide (29<=t)
def ak5{l:List Nat}{t:Nat}(h:(l.all λx=>decide (x<29))=true)(c:29<=t):l.contains t=false:=by
 cases b:l.contains t with
 |false=>rfl
 |true=>
  have a:t∈l:=by simpa using b
  have:=ip.1 h t a;simp only[ql] at this;omega
def aqI{t:Nat}(h:oT t=true):mH.contains t=false/\cD.contains t=false/\(8::17::cD).contains t=false/\t≠8/\t≠17:=by
 simp only[oT,qs,mT,ql] at h;rcases h with(rfl|rfl)|h
 .exact⟨rfl,rfl,rfl,by decide,by decide⟩
 .exact⟨rfl,rfl,rfl,by decide,by decide⟩
 .exact⟨ak5 rfl h,ak5 rfl h,ak5 rfl h,by omega,by omega⟩
def uy(h:i<T.size):T[i]?=some (T.getD i undef):=by
 rw[fi,ff h];rfl
def amx:∀{l:List Value} {i:Nat} {v:Value},l[i]?=some v->mxV v<=mxL l
 |[],i,v,h=>by simp at h
 |x::l,0,v,h=>by simp at h;subst h;simp only[mxL];omega
 |x::l,i+1,v,h=>by
  have:=amx (l:=l) (i:=i) (v:=v) (by simpa using h);simp only[mxL];omega
def amy(h:(T0F W)[i]?=some v):mxV v<=mxL W.toList:=by
 unfold T0F at h;rw[rQ] at h;split at h
 .exact amx (i:=i) (by rw[dl];exact h)
 .rw[tj] at h;split at h
  .cases h;have:mxV undef=0:=by
    show mxV (.tuple ⟨[]⟩)=0;simp only[mxV,mxL]
   omega
  .cases h
def agN.cells{B:Option Addr}{x:Int×ByteArray}(h:agN w B i x)(k:∀A,w.cell? A=w'.cell? A):agN w' B i x:=by
 obtain⟨⟨a,d,b,f⟩,c,e⟩:=h;exact⟨⟨a,d,(k _).symm.trans b,(k _).symm.trans f⟩,c,e⟩
def RdP.cells(h:RdP w A j l)(k:∀A,w.cell? A=w'.cell? A):RdP w' A j l:=λi x g=>by
 obtain⟨⟨a,B,c,o,d,f,n,q,m,p⟩,b⟩:=h i x g;exact⟨⟨a,B,c,o,(k _).symm.trans d,(k _).symm.trans f,n,q,m,λi y e=>(p i y e).cells k⟩,b⟩
def aqJ(w:World)(n:Nat):World:={w with heap:=w.heap++Array.replicate n (.deferred none)}
def aiL(w:World)(n:Nat)(h:b<w.heap.size):(aqJ w n).heap[b]?=w.heap[b]?:=by
 show(w.heap++_)[b]?=_;rw[rb h]
def an3(w:World)(n:Nat)(A:Addr):(aqJ w n).cell? A=w.cell? A:=by
 by_cases h:A.block<w.heap.size
 .exact fq (aiL w n h)
 .unfold World.cell?;rw[pF (by omega:w.heap.size<=A.block)];have:(aqJ w n).heap[A.block]?=none\/(aqJ w n).heap[A.block]?=some (.deferred none):=by
   show(w.heap++_)[A.block]?=none\/(w.heap++_)[A.block]?=_;rw[rQ,bd (by omega),tj];split
   .exact .inr rfl
   .exact .inl rfl
  rcases this with e|e<;>rw[e]
def an4 (hF:dN Z) {c:Cfg}  {m m':List Frame} (bZ:cM ρ a W) (a8:gz (aj true) ρ m m') (hc:c.l=Frame.enter (aj true) bX a .normal::m)
  (E:WR ρ c.w w') (hg:GlR ρ) (hW:iY (aj true) R c) :
  ∃M A n cc l A2 G c2 cZ c1,axK ρ W w' M A n cc l A2 G c2 cZ/\gh (aj true) c1 c/\iY (aj true) R c1/\(∀b F,ρ.r b F->Rw c.w b->Rw c1.w b/\∀i u,amJ u->c1.w.cell? ⟨b,i,none⟩=some u->c.w.cell? ⟨b,i,none⟩=some u)/\(∀b F,ρ.r b F->bm c.w b->NoB c.w b->c1.w.heap[b]?=c.w.heap[b]?)/\
   ∀(wr:World) (T Y:Nat) (cs:Array Value),(∀b F,ρ.r b F->wr.heap[F]?=w'.heap[F]?)->wr.ou=w'.ou->w'.heap.size<=wr.heap.size->w'.heap.size<=T->w'.heap.size<=Y->T≠Y->wr.heap[T]?=some (.cells cs 171 (0,0))->cs.size=2*G->
    (∀i nm,cZ[i]?=some nm->cs[2*i]?=some (.string (Z M l nm).1)/\cs[2*i+1]?=some (.bool (Z M l nm).2))->wr.heap[Y]?=some (.cells #[.slice (some ⟨T,0,none⟩) G G] 160 (0,0))->
    ∃p T2,ρ.Le p/\gz (aj true) p c1.l (FQ bX T2 [.code cB]::m')/\WR p c1.w wr/\(∀b F,p.r b F->ρ.r b F\/F=T\/F=Y)/\T2.size=(T0F W).size/\(∀i,i<3->T2.getD i undef=(T0F W).getD i undef)/\
     T2.getD 6 undef=.slice none 0 0/\T2.getD 7 undef=.bool false/\T2.getD 8 undef=.pointer (some ⟨Y,0,none⟩)/\T2.getD 17 undef=.slice (some ⟨T,0,none⟩) G G/\(∀i,oT i=true->T2.getD i undef=(T0F W).getD i undef):=by
 obtain⟨_,_,y,ys,e1,rfl⟩:=a8.ne';have bk:45<=(T0F W).size:=by simp only[T0F,rx,rV];omega
 obtain⟨D,aV,b9,ck,bu⟩:∃D,w'.heap.size<=D/\mxH w'.heap.toList<=D/\mxL W.toList<=D/\ak3 (y::ys)<=D:=⟨w'.heap.size+(mxH w'.heap.toList+(mxL W.toList+ak3 (y::ys))),by omega,by omega,by omega,by omega⟩;obtain⟨w,S⟩:∃w,w=aqJ w' (D-w'.heap.size):=⟨_,rfl⟩;have b6:w.heap.size=D:=by
  rw[S];show(w'.heap++_).size=D;rw[rx,rV];omega
 have b4:∀{b},b<w'.heap.size->w.heap[b]?=w'.heap[b]?:=λ{b} h=>by rw[S];exact aiL _ _ h
 have V:∀A,w.cell? A=w'.cell? A:=λA=>by rw[S];exact an3 _ _ _
 have bf:w.ou=w'.ou:=by rw[S];rfl
 have c9:WR ρ c.w w:=⟨λ{b F} f=>by
  obtain⟨o,o',U,O,h3⟩:=E.obj f;exact⟨o,o',U,(b4 (E.lt f).2).trans O,h3⟩,E.os.trans bf.symm,E.iG.1,by rw[b6];exact am E.iG.2 aV⟩
 clear S;have bW:FrR (aj true) ρ (Frame.enter (aj true) bX a .normal) (FQ bX (T0F W) [.code iV]):=by rw[<-as5];exact ad5 true bZ
 have h0:At ⟨R,c,ρ,w,y,ys⟩ (T0F W) [.code iV] w:=⟨bk,c,ρ,.inl rfl,.refl _,by rw[hc];exact .cons bW a8,c9,hg,hW,Kept.refl _ _ _⟩;obtain⟨M,A,n,cc,l,T1,s0,k1,k2,⟨cS,bo⟩,⟨cG,ch⟩,s1,aW,aT,hl,hp,hR,bH,m1,s6,s7,U⟩:=h0.head;obtain⟨A2,G,c2,av,T2,s2,ba,bL,b3,bw,c7,ca,m2,cU,bl,bV,O⟩:=U.names;replace s2:=(m1.same 2 rfl).symm.trans s2;have cd:nA w (w.alloc (.cells av 171)) G (([]:List Int).map (Z M l)):=by
  refine⟨λb f=>rE w _ b f,by rw[oS];omega,av, ?_,ca,λi x J=>by simp at J⟩;show(w.heap.push _)[w.heap.size]?=_;rw[qi]
 have g0:=λt (h:mH.contains t=false) (h':cD.contains t=false)=>(m2.same t h').trans (m1.same t h);obtain⟨cZ,T3,w3,co,bi,K,m3,c4,h3⟩:=At.auy hF k1 k2 hl aW aT hp (λa e h0=>ba a e (by omega)) b3 G 0 (by omega) O.block.loop ((g0 0 rfl rfl).trans s0) ((g0 1 rfl rfl).trans s1) ((g0 2 rfl rfl).trans s2) cU bl bV rfl (λi nm J=>by simp at J) cd;obtain⟨T4,w4,h4,aU,cO,ci,bt,s8,c5,m4⟩:=h3.last c4;obtain⟨b5,bb,cp,bx⟩:=K.row;have a6:w4.heap[w.heap.size]?=some (.cells b5 171 (0,0)):=(aU _ K.lt).trans bb;have b7:∀b,b<w'.heap.size->w4.heap[b]?=w'.heap[b]?:=λb f=>((aU b (Nat.lt_trans (by omega) K.lt)).trans (K.low b (by omega))).trans (b4 f);have g1:=λt (h:mH.contains t=false) (h':cD.contains t=false) (bn:(8::17::cD).contains t=false)=>(m4.same t bn).trans ((m3.same t h').trans (g0 t h h'));have t6:T4.getD 6 undef=.slice none 0 0:=(m4.same 6 rfl).trans ((m3.same 6 rfl).trans ((m2.same 6 rfl).trans s6));have t7:T4.getD 7 undef=.bool false:=(m4.same 7 rfl).trans ((m3.same 7 rfl).trans ((m2.same 7 rfl).trans s7));have ao:T4.size=(T0F W).size:=m4.size.trans (m3.size.trans (m2.size.trans m1.size));obtain⟨cR,c1,C,q,bO⟩:=h4;obtain⟨x,xs,_,_,ax,e2⟩:=q.st.ne';cases e2;have hq:=q.st;rw[ax] at hq;have X:=hq.head;have cb:gz (aj true) C xs (y::ys):=by cases hq with|cons _ h=>exact h
 have H:∀{a b:Nat},C.r a b->b<D->ρ.r a b:=λ{a b} h f=>(q.kept.new h).elim id λh=>by
  have:w.heap.size<=b:=h.2;omega
 have hd:C.dim=ρ.dim/\C.al=ρ.al:=⟨q.le.dim.symm,q.le.al.symm⟩;have cz:gN<=D:=am E.iG.2 aV;have ay:C.lax=ρ.lax:=q.le.lax.symm;have aI:∀{i:Nat} {P:Addr} {n m:Nat},i<(T0F W).size->(T0F W).getD i undef=.slice (some P) n m->Rgd ⟨R,c,ρ,w,y,ys⟩ P.block->∃b,ρ.r b P.block:=λ{i P n m} J e h=>h.elim id λh=>by
  have f:=amy (uy J);rw[e] at f;simp only[mxV,mxA] at f;have h':w.heap.size<=P.block:=h;omega
 refine⟨M,A,n,cc,l,A2,G,c2,cZ,c1,⟨s0,k1,k2,s1,aW,aT,hl,hp.cells V,λi x hx P b0 m0 e0 hA jR Q=> ?_,s2,b3,bw,c7,co,λi nm J=> ?_,λg bT=> ?_,λP ad Q=> ?_,λP ad Q=> ?_⟩,bO,q.will,λb F f aZ=>⟨(q.kept.poi f aZ).1,λi u hu c6=>((q.kept.poi f aZ).2 i u hu c6).1⟩,λb F f cf bN=>(q.kept.still f cf bN).1,λwr T Y cs bS bM b8 cx cC af cn cw aP bp=> ?_⟩
 .-- an item's row
  subst hA;obtain⟨⟨a1,B,c3,f1,f2,f3,f4,f5,f6,f7⟩, -⟩:=hp i x hx;cases f1;rw[pb] at f3;rw[<-V,f3] at jR;cases jR;obtain⟨z,hz⟩:∃z,x.2[0]?=some z:=⟨_,io (by omega)⟩;obtain⟨⟨a2,ce,br, -⟩, -⟩:=f7 0 z hz;cases ce;have a5:=eJ br;rw[qw] at a5;have J:i<n:=by rw[<-hl];exact(jn.1 hx).1
  rcases hR i J P b0 _ _ rfl f3 Q with h|h
  .exact h
  .have h':w.heap.size<=b0.block:=h;omega
 .obtain⟨P,f1,f2,f3⟩:=bi i nm J;exact⟨P,f1,(V _).symm.trans f2,f3⟩
 .have:=ip.1 avX g bT;simp only[qs,mT] at this;rcases this with rfl|rfl
  .exact fV ((V _).symm.trans bo)
  .exact fV ((V _).symm.trans ch)
 .subst ad;exact aI (by omega) s1 (bH P rfl Q)
 .subst ad;exact aI (by omega) s2 (bL P rfl Q)
 have cr:w'.heap.size<=w.heap.size:=by omega
 have ct:w.heap.size<w3.heap.size:=K.lt
 let p:Ren:={
  r:=λa b=>ρ.r a b\/(b=T/\C.r a w.heap.size)\/(b=Y/\C.r a w3.heap.size)
  lax:=ρ.lax
  dim:=ρ.dim
  al:=ρ.al
  fn:=λ{a b d} h k=>by
   rcases h with h|⟨rfl,h⟩|⟨rfl,h⟩<;>rcases k with k|⟨rfl,k⟩|⟨rfl,k⟩
   .exact ρ.fn h k
   .have:=C.fn (q.le.r h) k;have:=(E.lt h).2;omega
   .have:=C.fn (q.le.r h) k;have:=(E.lt h).2;omega
   .have:=C.fn (q.le.r k) h;have:=(E.lt k).2;omega
   .rfl
   .have:=C.fn h k;omega
   .have:=C.fn (q.le.r k) h;have:=(E.lt k).2;omega
   .have:=C.fn h k;omega
   .rfl
  inj:=λ{a b d} h k=>by
   rcases h with h|⟨rfl,h⟩|⟨rfl,h⟩<;>rcases k with k|⟨e,k⟩|⟨e,k⟩
   .exact ρ.inj h k
   .have:=(E.lt h).2;omega
   .have:=(E.lt h).2;omega
   .have:=(E.lt k).2;omega
   .exact C.inj h k
   .exact absurd e af
   .have:=(E.lt k).2;omega
   .exact absurd e.symm af
   .exact C.inj h k
  iG:=λ{a b} h=>by
   have:=E.iG.2;rcases h with h|⟨rfl,h⟩|⟨rfl,h⟩
   .exact ρ.iG h
   .have:=C.iG h;omega
   .have:=C.iG h;omega}
 have a4:ρ.Le p:=⟨.inl,rfl,rfl,rfl⟩;have down:∀{u v:Value},VR C u v->mxV v<=D->VR p u v:=λh f=>(VR.down hd H h f).mono a4;have aF:∀{u:Value},VR C u (.slice (some ⟨w.heap.size,0,none⟩) G G)->VR p u (.slice (some ⟨T,0,none⟩) G G):=λ{u} h=>by
  cases h with
  |slice hA=>cases hA with
   |some hA=>cases hA with
    |mk h o s=>exact .slice (.some (.mk (Or.inr (Or.inl ⟨rfl,h⟩)) 0 none)) _ _
  |empty hr cm _=>exact .empty (Or.inl (H hr (by have:=E.iG.2;omega))) cm _
  |eL hl _=>exact .eL (hd.1▸hl) rfl
 have c0:∀{u:Value},VR C u (.pointer (some ⟨w3.heap.size,0,none⟩))->VR p u (.pointer (some ⟨Y,0,none⟩)):=λ{u} h=>by
  cases h with
  |pointer hA=>cases hA with
   |some hA=>cases hA with
    |mk h o s=>exact .pointer (.some (.mk (Or.inr (Or.inr ⟨rfl,h⟩)) 0 none))
  |eL hl _=>exact .eL (hd.1▸hl) rfl
 have zr:∀{n:Nat} {z z':Nat×Nat},ZR C n z z'->ZR p n z z':=λh=>by
  unfold ZR at h ⊢;rw[ay] at h;exact h
 have c8:b5=cs:=by
  apply sH;intro i;rcases mx i (2*G) with J|J
  .obtain⟨j,hj⟩:∃j,i=2*j\/i=2*j+1:=⟨i / 2,by omega⟩;obtain⟨nm,a3⟩:∃nm,cZ[j]?=some nm:=⟨_,io (by omega)⟩;have b1:=bx j (Z M l nm) (by rw[qm,a3];rfl);have b2:=aP j nm a3;rcases hj with rfl|rfl
   .rw[b1.1,b2.1]
   .rw[b1.2,b2.2]
  .rw[pF (by omega),pF (by omega)]
 refine⟨p,(T4.setIfInBounds 17 (.slice (some ⟨T,0,none⟩) G G)).setIfInBounds 8 (.pointer (some ⟨Y,0,none⟩)),a4, ?_,⟨λ{b F} f=> ?_, ?_, ?_, ?_⟩, ?_,by simpa using ao,λi J=> ?_, ?_, ?_, ?_, ?_,λi J=> ?_⟩
 .-- frames
  rw[ax];refine .cons ⟨X.fn, ?_, ?_, ?_,X.mode,X.kind, ?_⟩ ((gz.down hd H q.le (e1▸a8) cb bu).mono a4)
  .refine ak4 (by simp only[Array.size_setIfInBounds];exact bG.size X.tmps) λi u v hu I=> ?_;by_cases i8:i=8
   .subst i8;rw[oi (by simp;omega)] at I;cases I;exact c0 (cM.at X.tmps hu (by rw[<-s8];exact uy (by show 8<T4.size;omega)))
   rw[gc (λe=>i8 e.symm)] at I;by_cases a7:i=17
   .subst a7;rw[oi (by omega)] at I;cases I;exact aF (cM.at X.tmps hu (by rw[<-bt];exact uy (by show 17<T4.size;omega)))
   rw[gc (λe=>a7 e.symm)] at I;have N:VR C u v:=cM.at X.tmps hu I;have L:=amw I;cases a0:cD.contains i with
   |true=>
    rw[c5 i a0] at L;subst L;exact down N (by simp only[mxV];omega)
   |false=>
    by_cases i6:i=6
    .subst i6;rw[t6] at L;subst L;exact down N (by simp only[mxV,mxA];omega)
    by_cases i7:i=7
    .subst i7;rw[t7] at L;subst L;exact down N (by simp only[mxV];omega)
    have cj:(T0F W).getD i undef=v:=by
     rw[<-L];exact(g1 i (by simp only[mH,sD,a0];simp[i6,i7]) a0 (by simp only[sD,a0];simp[i8,a7])).symm
    have aa:(T0F W)[i]?=some v:=by
     have a5:i<(T0F W).size:=by rw[<-ao];exact(db.1 I).1
     rw[<-cj];exact uy a5
    exact down N (am (amy aa) ck)
  .have ht:=X.todo;generalize x.todo=td at ht ⊢;cases ht with
   |cons U O=>cases U;cases O;exact .cons (.code _) .nil
  .have ht:=X.defers;generalize x.defers=td at ht ⊢;cases ht;exact .nil
  .have ht:=X.round;generalize x.roundOf=td at ht ⊢;cases ht;exact .none
 .-- objects
  rcases f with f|⟨rfl,f⟩|⟨rfl,f⟩
  .obtain⟨o,o',U,O,h3⟩:=q.wr.obj (q.le.r f);obtain⟨u,u',k1,k2,k3⟩:=E.obj f;have e:=b7 F (E.lt f).2;rw[O,k2] at e;cases e;exact⟨o,o',U,(bS _ _ f).trans k2,(OR.down hd H ay q.le k3 h3 (am (amv (i:=F) (by rw[dl];exact k2)) b9)).mono a4⟩
  .obtain⟨o,o',U,O,h3⟩:=q.wr.obj f;rw[a6] at O;cases O;cases h3 with
   |@cells cl _ jR _ z _ a9=>
    refine⟨_,_,U,cn, ?_⟩;subst c8;refine .cells (ak4 (by simpa using jR.length) λi u v hu I=> ?_) _ (zr a9);have N:=cM.at jR hu I;obtain⟨j,hj⟩:∃j,i=2*j\/i=2*j+1:=⟨i / 2,by omega⟩;have J:=(db.1 I).1;obtain⟨nm,a3⟩:∃nm,cZ[j]?=some nm:=⟨_,io (by omega)⟩;have b2:=aP j nm a3;rcases hj with rfl|rfl
    .rw[b2.1] at I;cases I;exact down N (by simp only[mxV];omega)
    .rw[b2.2] at I;cases I;exact down N (by simp only[mxV];omega)
  .obtain⟨o,o',U,O,h3⟩:=q.wr.obj f;rw[ci] at O;cases O;cases h3 with
   |@cells cl _ jR _ z _ a9=>
    refine⟨_,_,U,bp,.cells (ak4 (by simpa using jR.length) λi u v hu I=> ?_) _ (zr a9)⟩;have J:=(db.1 I).1;have aa:i=0:=by simpa using J
    subst aa;cases I;exact aF (cM.at jR hu rfl)
 .exact q.kept.os.1.trans (E.os.trans bM.symm)
 .exact am E.iG.1 q.kept.size
 .exact am E.iG.2 b8
 .rintro b F (h|⟨rfl,_⟩|⟨rfl,_⟩)
  .exact .inl h
  .exact .inr (.inl rfl)
  .exact .inr (.inr rfl)
 .rw[aD (by simp;omega),bd (by omega),aD (by omega),bd (by omega)];have:i=0\/i=1\/i=2:=by omega
  rcases this with rfl|rfl|rfl
  .exact g1 0 rfl rfl rfl
  .exact g1 1 rfl rfl rfl
  .exact g1 2 rfl rfl rfl
 .rw[aD (by simp;omega),bd (by decide),aD (by omega),bd (by decide)];exact t6
 .rw[aD (by simp;omega),bd (by decide),aD (by omega),bd (by decide)];exact t7
 .rw[aD (by simp;omega),dj rfl]
 .rw[aD (by simp;omega),bd (by decide),aD (by omega),dj rfl]
 .obtain⟨i1,i2,i3,i4,i5⟩:=aqI J;have e:((T4.setIfInBounds 17 (.slice (some ⟨T,0,none⟩) G G)).setIfInBounds 8 (.pointer (some ⟨Y,0,none⟩))).getD i undef=T4.getD i undef:=by
   rw[aD (by simp;omega),bd i4,aD (by omega),bd i5]
  exact e.trans (g1 i i1 i2 i3)
end
section
open Go Go.Conc Go.ConcN Go.RowKit
def plV(V:Nat->Prop):Value->Prop
 |.int k _=>k ≠ .u8
 |.string _=>True
 |.slice (some a) _ _=>V a.block
 |_=>False
def aqL:Value->Bool
 |.func (.method _) _ _=>true
 |_=>false
mutual
def aeB:Value->List Value
 |.agg ⟨l⟩=>nB l
 |.tuple ⟨l⟩=>nB l
 |v=>if aqL v then[v] else[]
def nB:List Value->List Value
 |[]=>[]
 |v::l=>aeB v++nB l
end
def afM:∀{l:List Value} {i:Nat} {v x:Value},l[i]?=some v->x∈aeB v->x∈nB l
 |[],i,v,x,h,_=>by simp at h
 |y::l,0,v,x,h,hx=>by simp at h;subst h;simp only[nB];exact rq _ hx
 |y::l,i+1,v,x,h,hx=>by simp only[nB];exact qL _ (afM (i:=i) (by simpa using h) hx)
def axM:Obj->List Value
 |.cells c _ _=>nB c.toList
 |_=>[]
def fy(w:World):List Value:=w.heap.toList.flatMap axM
def afN{c:Array Value}{x : Value}(d:w.heap[b]?=some (.cells c t z))(a:c[i]?=some v)(e:x∈aeB v):x∈fy w:=
 pa.2 ⟨.cells c t z,da (i:=b) (by rw[dl];exact d),by
  show x∈nB c.toList;exact afM (i:=i) (by rw[dl];exact a) e⟩
section
variable {ρ:Ren} (hl:ρ.dim=true)
include hl
mutual
theorem av0:∀(v:Value),(∀x∈aeB v,∃k,ρ.al k=some x)->∃u,VR ρ u v/\(∀k,u ≠ .int .u8 k)/\(amJ u\/∀(g:Ren) d,g.al=ρ.al->VR g u d->d=v)
 |.bool b,_=>⟨_,.bool b,(λk e=>by cases e),.inr λg d _ h=>by cases h;rfl⟩
 |.int k n,_=>⟨_,.eL hl rfl,(λk e=>by cases e),.inl (.inl ⟨_,rfl⟩)⟩
 |.float k n,_=>⟨_,.eL hl rfl,(λk e=>by cases e),.inl (.inl ⟨_,rfl⟩)⟩
 |.complex k n m,_=>⟨_,.eL hl rfl,(λk e=>by cases e),.inl (.inl ⟨_,rfl⟩)⟩
 |.string s,_=>⟨_,.string s,(λk e=>by cases e),.inr λg d _ h=>by cases h;rfl⟩
 |.pointer none,_=>⟨_,.pointer .none,(λk e=>by cases e),.inr λg d _ h=>by cases h with|pointer h=>cases h;rfl⟩
 |.pointer (some a),_=>⟨_,.eL hl rfl,(λk e=>by cases e),.inl (.inl ⟨_,rfl⟩)⟩
 |.slice a l c,_=>⟨_,.eL hl rfl,(λk e=>by cases e),.inl (.inl ⟨_,rfl⟩)⟩
 |.map a,_=>⟨_,.eL hl rfl,(λk e=>by cases e),.inl (.inl ⟨_,rfl⟩)⟩
 |.chan a,_=>⟨_,.eL hl rfl,(λk e=>by cases e),.inl (.inl ⟨_,rfl⟩)⟩
 |.func (.func f) a c,_=>⟨_,.eL hl rfl,(λk e=>by cases e),.inl (.inl ⟨_,rfl⟩)⟩
 |.func (.methodOf t f) a c,_=>⟨_,.eL hl rfl,(λk e=>by cases e),.inl (.inl ⟨_,rfl⟩)⟩
 |.func (.via t p f q) a c,_=>⟨_,.eL hl rfl,(λk e=>by cases e),.inl (.inl ⟨_,rfl⟩)⟩
 |.func (.yield f) a c,_=>⟨_,.eL hl rfl,(λk e=>by cases e),.inl (.inl ⟨_,rfl⟩)⟩
 |.func (.method n) a c,hm=>by
  obtain⟨k,z⟩:=hm (.func (.method n) a c) (by simp[aeB,aqL]);refine⟨_,.aal k z,(λk e=>by cases e),.inr λg d B h=> ?_⟩;generalize j:amI k=u at h;cases h with
  |aal D y=>
   have e:k=D:=by
    unfold amI at j;injection j with _ _ A
    have:=ef Array.size A;simpa using this
   subst e;rw[B,z] at y;exact(de y).symm
  |func o _ _=>
   unfold amI at j;injection j with C _ _
   subst C;cases o with
   |same f o=>cases o
  |_=>unfold amI at j;cases j
 |.nilFunc,_=>⟨_,.nilFunc,(λk e=>by cases e),.inr λg d _ h=>by cases h;rfl⟩
 |.iface t v,_=>⟨_,.eL hl rfl,(λk e=>by cases e),.inl (.inl ⟨_,rfl⟩)⟩
 |.nilIface,_=>⟨_,.nilIface,(λk e=>by cases e),.inr λg d _ h=>by cases h;rfl⟩
 |.agg ⟨l⟩,hm=>by
  obtain⟨r,i⟩:=av1 l λx w=>hm x (by simpa only[aeB] using w);exact⟨.agg ⟨r⟩,.agg i,(λk e=>by cases e),.inl (.inr ⟨_,rfl⟩)⟩
 |.tuple ⟨l⟩,hm=>by
  obtain⟨r,i⟩:=av1 l λx w=>hm x (by simpa only[aeB] using w);exact⟨.tuple ⟨r⟩,.tuple i,(λk e=>by cases e),.inl (.inl ⟨_,rfl⟩)⟩
theorem av1:∀(l:List Value),(∀x∈nB l,∃k,ρ.al k=some x)->∃a,bG ρ a l
 |[],_=>⟨[],.nil⟩
 |v::l,hm=>by
  obtain⟨x,c,_⟩:=av0 v λx b=>hm x (by simp only[nB];exact rq _ b);obtain⟨a,d⟩:=av1 l λx b=>hm x (by simp only[nB];exact qL _ b);exact⟨x::a,.cons c d⟩
end
end
def av2(L:List Value)(k:Nat):Option Value:=L[k]?
def aiM{L:List Value}{x:Value}(h:x∈L):∃k,av2 L k=some x:=by
 obtain⟨k,a,e⟩:=vh.1 h;exact⟨k,by unfold av2;rw[io a,e]⟩
def ak6{ρ:Ren}{Q:Nat->Value->Value->Prop}:∀(l:List Value) (j:Nat),(∀i v,l[i]?=some v->∃u,VR ρ u v/\Q (j+i) u v)->∃d,bG ρ d l/\∀i v,l[i]?=some v->∃u,d[i]?=some u/\Q (j+i) u v
 |[],_,_=>⟨[],.nil,λi v h=>by simp at h⟩
 |v::l,j,h=>by
  obtain⟨u,m,e⟩:=h 0 v rfl;obtain⟨d,f,k⟩:=ak6 l (j+1) λi x c=>by
   obtain⟨u,a,b⟩:=h (i+1) x (by simpa using c);exact⟨u,a,by rwa [show j+1+i=j+(i+1) by omega]⟩
  refine⟨u::d,.cons m f,λi x c=> ?_⟩;cases i with
  |zero=>simp at c;subst c;exact⟨u,rfl,e⟩
  |succ i=>
   obtain⟨g,a,b⟩:=k i x (by simpa using c);exact⟨g,by simpa using a,by rwa [show j+1+i=j+(i+1) by omega] at b⟩
def Ren.rows(V:Nat->Prop)(lax:Bool)(L:List Value):Ren where
 r a b:=a=b/\V a
 lax:=lax
 dim:=true
 al:=av2 L
 fn:=λh k=>h.1.symm.trans k.1
 inj:=λh k=>h.1.trans k.1.symm
 iG:=λh=>by rw[h.1]
def auB{V:Nat->Prop}(w:World)(F:∀b,V b->Obj):∃a:Array Obj,a.size=w.heap.size/\(∀b (h:V b),b<w.heap.size->a[b]?=some (F b h))/\∀b,¬V b->a[b]?=w.heap[b]?:=by
 classical
 refine⟨Array.ofFn λi:Fin w.heap.size=>if h:V i.1 then F i.1 h else w.heap[i],by simp,λb h c=> ?_,λb h=> ?_⟩
 .rw[vp,sN c];simp only[sN h]
 .rw[vp];by_cases c:b<w.heap.size
  .rw[sN c,ff c];simp only[dif_neg h];rfl
  .rw[dif_neg c,pF (by omega)]
theorem mask{w:World}{V:Nat->Prop}(hV:∀b,V b->dn w b)(hg:∀g∈gL,V g)(hN:gN<=w.heap.size) :
  ∃wL:World,WR (Ren.rows V true (fy w)) wL w/\GlR (Ren.rows V true (fy w))/\wL.heap.size=w.heap.size/\(∀b,V b->bm wL b/\NoB wL b)/\∀A v,w.cell? A=some v->V A.block->plV V v->wL.cell? A=some v:=by
 classical
 have row:∀b,V b->∃(c:Array Value) (t:TypeId) (z:Nat×Nat) (xs:List Value),w.heap[b]?=some (.cells c t z)/\bG (Ren.rows V true (fy w)) xs c.toList/\∀(i:Nat) v,c.toList[i]?=some v->∃u,xs[i]?=some u/\((∀k,u ≠ .int .u8 k)/\(plV V v->u=v)):=λb hb=>by
  obtain⟨c,t,z,hc⟩:=hV b hb;obtain⟨xs,h1,h2⟩:=ak6 (ρ:=Ren.rows V true (fy w)) (Q:=λ_ u v=>(∀k,u ≠ .int .u8 k)/\(plV V v->u=v)) c.toList 0 λi v hi=>by
   by_cases hp:plV V v
   .cases v with
    |int k n=>exact⟨_,.int k n,(λk' e=>by cases e;exact hp rfl),λ_=>rfl⟩
    |string s=>exact⟨_,.string s,(λk e=>by cases e),λ_=>rfl⟩
    |slice a l c=>cases a with
     |none=>exact hp.elim
     |some a=>
      obtain⟨b,o,s⟩:=a;have hr:(Ren.rows V true (fy w)).r b b:=⟨rfl,hp⟩;exact⟨_,.slice (.some (.mk hr o s)) l c,(λk e=>by cases e),λ_=>rfl⟩
    |_=>exact hp.elim
   .obtain⟨u,h1,h2, -⟩:=av0 (ρ:=Ren.rows V true (fy w)) rfl v λx hx=>aiM (afN hc (i:=i) (by rw[<-dl];exact hi) hx);exact⟨u,h1,h2,λh=>absurd h hp⟩
  exact⟨c,t,z,xs,hc,h1,h2⟩
 let F:∀b,V b->Obj:=λb hb=>.cells ⟨(row b hb).choose_spec.choose_spec.choose_spec.choose⟩ (row b hb).choose_spec.choose (0,max ((row b hb).choose.size+1) (row b hb).choose_spec.choose_spec.choose.2)
 have hF:∀b (hb:V b),∃(c:Array Value) (t:TypeId) (z:Nat×Nat) (xs:List Value),w.heap[b]?=some (.cells c t z)/\bG (Ren.rows V true (fy w)) xs c.toList/\(∀(i:Nat) v,c.toList[i]?=some v->∃u,xs[i]?=some u/\((∀k,u ≠ .int .u8 k)/\(plV V v->u=v)))/\F b hb=.cells ⟨xs⟩ t (0,max (c.size+1) z.2):=λb hb=>
  let h:=(row b hb).choose_spec.choose_spec.choose_spec.choose_spec
  ⟨_,_,_,_,h.1,h.2.1,h.2.2,rfl⟩
 obtain⟨heap,hs,h1,h2⟩:=auB w F;have od:∀b,V b->∃(c:Array Value) (t:TypeId) (z:Nat×Nat) (xs:List Value),w.heap[b]?=some (.cells c t z)/\heap[b]?=some (.cells ⟨xs⟩ t (0,max (c.size+1) z.2))/\bG (Ren.rows V true (fy w)) xs c.toList/\∀(i:Nat) v,c.toList[i]?=some v->∃u,xs[i]?=some u/\((∀k,u ≠ .int .u8 k)/\(plV V v->u=v)):=λb hb=>by
  obtain⟨c,t,z,xs,k1,k2,k3,k4⟩:=hF b hb;exact⟨c,t,z,xs,k1,(h1 b hb (db.1 k1).1).trans (ef some k4),k2,k3⟩
 refine⟨{w with heap},⟨λ{b b'} hb=> ?_,rfl,by show gN<=heap.size;omega,hN⟩,λg ki=>⟨rfl,hg g ki⟩,hs,λb hb=> ?_,λA v hc hA hp=> ?_⟩
 .obtain⟨rfl,hb⟩:=hb;obtain⟨c,t,z,xs,k1,k2,k3, -⟩:=od b hb;have hlen:=k3.length;refine⟨_,_,k2,k1,.cells k3 t (.inr ⟨rfl,rfl, ?_,.inr ?_⟩)⟩
  .show xs.length<max _ _;simp at hlen;omega
  .show z.2<=max _ _;omega
 .obtain⟨c,t,z,xs,k1,k2,k3,k4⟩:=od b hb;have hlen:=k3.length;simp at hlen;refine⟨⟨_,_,_,k2,rfl, ?_, ?_⟩,λc' t' z' hc' i k e=> ?_⟩
  .show xs.length<=max _ _;omega
  .show 0<max _ _;omega
  .have:heap[b]?=some (.cells c' t' z'):=hc';rw[k2] at this;cases this;have hi:i<c.toList.length:=by
    have:=(db.1 e).1;simp at this ⊢;omega
   obtain⟨u,q1,q2, -⟩:=k4 i _ (io hi);have e':xs[i]?=some (.int .u8 k):=by simpa using e
   rw[q1] at e';exact q2 k (de e')
 .obtain⟨c,t,z,xs,k1,k2,k3,k4⟩:=od A.block hA;have k2':({w with heap}:World).heap[A.block]?=some (.cells ⟨xs⟩ t (0,max (c.size+1) z.2)):=k2;unfold World.cell? at hc ⊢;rw[k2'];rw[k1] at hc;cases hsp:A.spot with
  |some s=>simp[hsp] at hc
  |none=>
   simp[hsp] at hc ⊢;obtain⟨u,q1, -,q2⟩:=k4 A.off v (by rw[dl];exact hc);rw[q1,q2 hp]
end
section
open Go Go.Conc Go.ConcN Go.RowKit
def nC(Rr:aq)(S S':aq)(w w':World)(es:Array Event):Prop:=
 (∀b,b<w.heap.size->¬S b->w'.heap[b]?=w.heap[b]?)/\w.heap.size<=w'.heap.size/\w'.ou=w.ou/\S'=(λb=>S b\/(w.heap.size<=b/\b<w'.heap.size))/\∀e∈es,kX S' Rr w'.heap.size e
structure nD (Rl:aq->World->World->Prop) (Rr:aq):Prop where
 eN:∀S w,Rl S w w
 tr:∀S a b c,Rl S a b->Rl S b c->Rl S a c
 rl:∀S w w1,Rl S w w1->(∀b,S b\/Rr b->w1.heap[b]?=w.heap[b]?)/\w.heap.size<=w1.heap.size/\w1.ou=w.ou
def nD.cmp{Rl:aq->World->World->Prop}(h:nD Rl Rr):Cmp Rl (nC Rr) Rr:=⟨h.eN,h.tr,h.rl,λ_ _ _ _ a b c d=>⟨a,b,c,rfl,d⟩⟩
section
variable {P:Program} {main:Bool} {Rl:aq->World->World->Prop} {Gr Gr2:aq->aq->World->World->Array Event->Prop} {Stop afO:aq->Goroutine->World->Prop} {Inv:aq->World->Prop}
def nR.inv(i:∀S w a,Inv S w->Rl S w a->Inv S a)(k:∀S d w c e,Inv S w->Gr S d w c e->Gr2 S d w c e/\Inv d c)(j:∀S g w,Stop S g w->Inv S w->afO S g w):∀{T:iE} {S:aq} {g:Goroutine} {w:World},nR P main Rl Gr Stop T S g w->Inv S w->nR P main Rl Gr2 afO T S g w
 |.leaf,_,_,_,h,hi=>λa b=>j _ _ _ (h a b) (i _ _ _ hi b)
 |.node f,_,_,_,h,hi=>Or.imp (λh a b=>j _ _ _ (h a b) (i _ _ _ hi b)) (λx=>⟨x.1,λa b=>
   let⟨q,c,e,d,o,l,m⟩:=x.2 a b
   let⟨n,p⟩:=k _ _ _ _ _ (i _ _ _ hi b) l
   ⟨q,c,e,d,o,n,nR.inv i k j m p⟩⟩) h
def bB.inv(f:∀S w c,Inv S w->Rl S w c->Inv S c)(j:∀S a w b d,Inv S w->Gr S a w b d->Gr2 S a w b d/\Inv a b)(e:∀S g w,Stop S g w->Inv S w->afO S g w)(h:bB P main Rl Gr Stop S g w)(i:Inv S w):bB P main Rl Gr2 afO S g w:=
 let⟨T,h⟩:=h;⟨T,nR.inv f j e h i⟩
end
def ak7   :(Frame.enter P f a .normal).mode=.run:=by
 unfold Frame.enter;cases P.funcs[f]?<;>rfl
def an5{c:Cfg}{m:List Frame}(q:iY (aj false) R c)(i:c.l=Frame.enter (aj false) bX a .normal::m):False:=by
 obtain⟨n,t,s,d,f, -⟩:=q c.t λ_ _ _=>rfl;have b:c.l≠[]:=by rw[i];simp
 cases n with
 |zero=>
  simp only[runN,qc] at d;obtain⟨e, -⟩:=fK d;obtain rfl:=lA b f.ne e;obtain⟨u,l,p, -⟩:=f;rw[i] at l;cases l;rw[ak7] at p;cases p
 |succ n=>
  unfold runN at d;have r:Frame.enter (aj false) bX a .normal=⟨bX,T0F a,[.code (.refuse "")],[],.run,.normal,none⟩:=by
   have f:(aj false).funcs[bX]?=some (qFA false):=abB false;unfold Frame.enter;rw[f];rfl
  have g:∃o j k,stepG (aj false) true (Gl c.l [iX (aj false)]) (c.w.tap c.t)=.ended o j k:=by
   rw[i,r];simp only[Gl,stepG,stepG.exec];exact⟨_,_,_,rfl⟩
  obtain⟨o,j,k,g⟩:=g;rw[bY (ij b _) g] at d;cases d
def axN:jd (λ_=>false) (f198.body.getD .skip)=false:=by kernel_rfl
def axO:jd (λ_=>false) (f67.body.getD .skip)=false:=by kernel_rfl
def acB{fn:Func}(h:prog.funcs[f]?=some fn)(b:fn.body.isSome=true)(a:Array Value):(Frame.enter prog f a .normal).todo=[.code (fn.body.getD .skip)]:=by
 unfold Frame.enter;rw[h];obtain⟨c,d⟩:=qO.1 b;simp[d]
def auC{J:Nat->Bool}(d:jd J (f198.body.getD .skip)=false)(c:jd J (f67.body.getD .skip)=false):∀f,gH f=true->∀a,(Frame.enter prog f a .normal).todo.all (kr J)=false:=λf b a=>by
 rcases wM b with rfl|rfl
 .rw[acB func67 alH];simp only[pM,uD,tN,kr];exact c
 .rw[acB func198 alG];simp only[pM,uD,tN,kr];exact d
def ag9:gH 110=false:=by unfold gH;kernel_rfl
def aiN{A:Addr}{c:Array Value}(h:w.heap[A.block]?=some (.cells c t z))(a:w.cell? A=some v):c[A.off]?=some v:=by
 unfold World.cell? at a;rw[h] at a;cases b:A.spot with
 |some s=>simp[b] at a
 |none=>simpa[b] using a
def RgP(Rg:Nat->Prop)(w:World)(A:Option Addr)(l:List fS):Prop:=∀i x,l[i]?=some x->∀a b m e,A=some a->w.cell? ((a.add (i*2)).add 1)=some (.slice (some b) m e)->0<e->Rg b.block
def RgP.move(h:RgP Rg w A l)(k:∀a,A=some a->0<l.length->Rg a.block)(f:∀b,Rg b->w'.heap[b]?=w.heap[b]?):RgP Rg w' A l:=λi x d a b m e c j g=>
 h i x d a b m e c ((fq (by rw[qw,qw];exact f _ (k a c (Nat.lt_of_le_of_lt (fb _) (jn.1 d).1)))).symm.trans j) g
def RdP.mask    (h:RdP w A 0 l) (D:RgP Rg w A l) (m:∀a,A=some a->0<l.length->Rg a.block)
  (g:∀A v,w.cell? A=some v->Rg A.block->plV (λb=>Rg b/\dn w b) v->w'.cell? A=some v):RdP w' A 0 l:=λi x q=>by
 obtain⟨⟨a,B,c,k,z,p,E,F,I,s⟩,G⟩:=h i x q;replace m:=λa e=>m a e (Nat.lt_of_le_of_lt (fb _) (jn.1 q).1);have r:∀b,B=some b->Rg b.block:=λb C=>by
  subst C;rw[pb] at p;exact D i x q a b _ _ k p (by omega)
 have n:∀j y,x.2[j]?=some y->agN w' B (0+j) y:=λj y J=>by
  obtain⟨⟨b,f,o,t⟩,K,u⟩:=s j y J;exact⟨⟨b,f,g _ _ o (by rw[qw];exact r b f) (by show IntKind.i64 ≠ .u8;decide),g _ _ t (by rw[qw,qw];exact r b f) trivial⟩,K,u⟩
 refine⟨⟨a,B,c,k,g _ _ z (by rw[qw];exact m a k) (by show IntKind.i64 ≠ .u8;decide),g _ _ p (by rw[qw,qw];exact m a k) ?_,E,F,I,n⟩,G⟩;obtain⟨y,H⟩:∃y,x.2[0]?=some y:=⟨_,io (by omega)⟩;obtain⟨⟨b,f,o,t⟩, -⟩:=s 0 y H;subst f;have d:=fV o;rw[qw] at d;exact⟨r b rfl,d⟩
end
section
open Go Go.Conc Go.ConcN Go.RowKit
def acC   :(Frame.enter P f a .normal).roundOf=none:=by
 unfold Frame.enter;cases P.funcs[f]?<;>rfl
def an6{b:Bool}{v':Value}(h:VR ρ (.agg #[.string s,.bool b]) v'):v'=.agg #[.string s,.bool b]:=by
 cases h with
 |@agg c e h=>
  obtain⟨l⟩:=e;change bG ρ [.string s,.bool b] l at h;cases h with
  |cons f a=>
   cases f;cases a with
   |cons g d=>cases g;cases d;rfl
def aqM (hF:dN Z)  (hN:gN<=w.heap.size) (G:∀g∈gL,Rg g/\dn w g)    {nm:Int}
  (k1:1<=key) (k2:key<=99) (hl:l.length=n) (u:n<=c) (B:(c:Int)<=9223372036854775807) (p:RdP w A 0 l) (K:RgP Rg w A l) (hA:∀a,A=some a->0<l.length->Rg a.block) (hn:0<n) (F:In_ nm)
  {Rl:aq->World->World->Prop} (d:nD Rl Rr) (hR:∀b,(Rg b/\dn w b)->Rr b) {cfr:Frame} {cs:List Frame} :
  bB prog main Rl (nC Rr) (λ_ g _=>g=⟨cfr.finish (.agg #[.string (Z key l nm).1,.bool (Z key l nm).2]),cs,.running,none,none⟩) S
   (Gl (Frame.enter prog 110 #[.int .i64 key,.slice A n c,.int .i64 nm] .normal::[]) (cfr::cs)) w:=by
 obtain⟨j,h1,U,h3,h4,h5⟩:=mask (V:=λb=>Rg b/\dn w b) (λb h=>h.2) G hN;have M:=p.mask K hA λA v u N hp=>h5 A v u ⟨N,fV u⟩ hp;obtain⟨y,hy⟩:∃y,l[0]?=some y:=⟨_,io (by omega)⟩;obtain⟨⟨a,_,_,e1,e2,_⟩,_⟩:=p 0 y hy;subst e1;have i:=fV e2;rw[qw] at i;have m:(Ren.rows (λb=>Rg b/\dn w b) true (fy w)).r a.block a.block:=⟨rfl,hA a rfl (by omega),i⟩;generalize P:(Ren.rows (λb=>Rg b/\dn w b) true (fy w))=ρ at h1 U m;have E:∀b q,ρ.r b q->Rr q/\bm j b/\NoB j b:=λb q r=>by
  subst P;obtain⟨rfl,X⟩:=r;exact⟨hR _ X,h4 _ X⟩
 have W:cM ρ #[.int .i64 key,.slice (some a) n c,.int .i64 nm] #[.int .i64 key,.slice (some a) n c,.int .i64 nm]:=by
  obtain⟨b,o,s⟩:=a;exact .cons (.int _ _) (.cons (.slice (.some (.mk m o s)) _ _) (.cons (.int _ _) .nil))
 have gZ:∀t:Tape,Calls (aj false) 110 #[.int .i64 key,.slice (some a) n c,.int .i64 nm] (j.tap t) λe H=>∃v,e=.returned v/\v=.agg #[.string (Z key l nm).1,.bool (Z key l nm).2]:=λt=>by
  refine(hF false (j.tap t) key (some a) n c l nm k1 k2 hl u B (M.below λb r=>rfl) F).mono ?_;rintro e H ⟨v,rfl,hv, -⟩;exact⟨v,rfl,hv⟩
 generalize (#[.int .i64 key,.slice (some a) n c,.int .i64 nm]:Array Value)=args at W gZ
 let R:List Frame->World->Prop:=λfs H=>∃z v,fs=[z]/\z.fn=110/\z.leaving (aj false) H (.returned v)/\v=.agg #[.string (Z key l nm).1,.bool (Z key l nm).2]
 have Y:iY (aj false) R ⟨[Frame.enter (aj false) 110 args .normal],j,λ_ _=>0⟩:=oG (Post:=λv _=>v=.agg #[.string (Z key l nm).1,.bool (Z key l nm).2]) λt _=>gZ t;have O:Acc (gh (aj false)) ⟨[Frame.enter (aj false) 110 args .normal],j,λ_ _=>0⟩:=Y.acc.transGen;have J:ah6 (aj false) R Rr S ρ ⟨[Frame.enter (aj false) 110 args .normal],j,λ_ _=>0⟩ [Frame.enter prog 110 args .normal] w:=
  ⟨.one (af9 (kh false) ag9 W) acC,h1,U,Y,λb q r=>.inr (E b q r)⟩
 have D:=ah8 (kh false) (at0 false) d.eN d.tr d.rl d.cmp.gr (auC axN axO) (afs d.cmp) (main:=main) (base:=cfr::cs) O J (.inl rfl);refine bB.bind d.eN d.tr D λS1 g w1 ⟨c1,ρ1,l',hor,hle,hS1,fE,azq,aAE,hW1,mZ,_,hend⟩=> ?_;subst fE;rcases hend with⟨hf,f⟩|⟨_,_,_,_,_,_,Q,_⟩
 .obtain⟨_,_,y1,a0,_,e3⟩:=f.ne';obtain⟨z,k, -⟩:=id hf;have e4:=f.lone k e3;subst e4 e3;rw[k] at f;refine .step rfl λw2 N=> ?_;obtain⟨r1,r2,r3⟩:=d.rl _ _ _ N;have I:=azq.rely mZ r1 r2 r3;obtain⟨σ,v,v',w3,C,es,L,t,q1,q2,q3,q4,q5,q6,x,q8,q9⟩:=asp (kh false) (t0:=c1.t) (Post:=λv _=>v=.agg #[.string (Z key l nm).1,.bool (Z key l nm).2]) f I λt ht=>by
   obtain⟨cf,v,T,_,e6,e7⟩:=hW1.fin hf abF t ht;rw[k] at T;cases T;exact⟨v,e6,e7⟩
  refine⟨_,C,L,_,q9 main cfr cs,⟨ah7 mZ x,x.size',x.os.2,rfl,apF mZ q6 x q8⟩,.stop λ_ _=> ?_⟩;subst q2;rw[an6 q5]
 .exact(an5 hW1 Q).elim
end
section
open Go Go.Conc Go.ConcN Go.RowKit
abbrev SN(S:aq)(w w':World):aq:=λb=>S b\/(w.heap.size<=b/\b<w'.heap.size)
section
variable {P:Program} {main:Bool} {Rl:aq->World->World->Prop} {St:aq->Goroutine->World->Prop} {S Rr:aq} {w0:World} {f:FuncId} {T:Array Value} {k:List Item} {xs base:List Frame}
def lh (H:nD Rl Rr)  {rest:List Nat} {o:Oper} {d:Tmp} {ob:Obj} (j:d<T.size) (l:Q[i]?=some o) (r:o.guard=none) (c:o.dst=some d)
  (n:∀w,(execOp (FQ f T (.inRegion Q (i::rest)::k)).eval o).runT P w #[]=(.ok (.value (.pointer (some ⟨w.heap.size,0,none⟩))) (w.alloc ob),#[]))
  (s:∀w,Rl S w0 w->∀T':Array Value,T'.size=T.size->T'.getD d undef=.pointer (some ⟨w.heap.size,0,none⟩)->(∀t,t≠d->T'.getD t undef=T.getD t undef)->∀a,Rl (SN S w (w.alloc ob)) (w.alloc ob) a->bB P main Rl (nC Rr) St (SN S w (w.alloc ob)) (Gl (FQ f T' (.inRegion Q rest::k)::xs) base) a) :
  ∀w,Rl S w0 w->bB P main Rl (nC Rr) St S (Gl (FQ f T (.inRegion Q (i::rest)::k)::xs) base) w:=λw m=>by
 refine .step rfl λa g=> ?_;have v:=H.tr _ _ _ _ m g;refine⟨_,_,_,_,amd rfl rfl rfl rfl l r (n a),⟨λb q _=>rE a _ b q,by rw[oS];omega,rfl,rfl,λe u=>by cases(by simpa using sd u:False)⟩, ?_⟩;have:Frame.finish (FQ f T (.inRegion Q (i::rest)::k)) (.pointer (some ⟨a.heap.size,0,none⟩))=FQ f (T.setIfInBounds d (.pointer (some ⟨a.heap.size,0,none⟩))) (.inRegion Q rest::k):=by
  simp only[Frame.finish,l,pY,c]
 rw[this];exact s a v _ (by simp) (by rw[aD j,dj rfl]) (λt p=>by rw[aD j,bd p]) _ (H.eN _ _)
end
section
variable {P:Program} (F:FaT P) {w:World} {e:Operand->Value} {x:Operand} {dst:Option Tmp} {ty:TypeId} {pos:String} {af:Array Edge} {gd:Option (Nat×Bool)}
include F
theorem aiO:(execOp e ⟨dst,.alloc 171,ty,pos,af,gd⟩).runT P w #[]=(.ok (.value (.pointer (some ⟨w.heap.size,0,none⟩))) (w.alloc (.cells #[.string ⟨#[]⟩,.bool false] 171)),#[]):=by
 obtain⟨i,b,d,c,a⟩:=F.i258;simp[execOp,Instr.alloc,zeroValue,typeInfo,b,a,newVar,newRow,Value.cells]
theorem aqO{t:Tmp}(h:e (.tmp t)=.slice A n c):(execOp e ⟨dst,.call ⟨.builtin .len,#[.tmp t],#[23]⟩,ty,pos,af,gd⟩).runT P w #[]=(.ok (.value (.int .i64 n)) w,#[]):=by
 rw[na (s:=λv=>Builtin.len_ #[23] ty #[v]) λ_ v=>rfl,h];change Sem.runT P (Builtin.len_ #[23] ty #[.slice A n c] >>=λu=>pure (Next.value u)) w #[]=_;simp[Builtin.len_,li F.u23,goInt]
omit F in
theorem aqP{y:Operand}{a b:Int}(d:e x=.int .i64 a)(c:e y=.int .i64 b):(execOp e ⟨dst,.binOp .lss 3 x y 3,ty,pos,af,gd⟩).runT P w #[]=(.ok (.value (.bool (decide (a<b)))) w,#[]):=by
 have:execOp e ⟨dst,.binOp .lss 3 x y 3,ty,pos,af,gd⟩=(binOp .lss 3 (e x) (e y)).bind λv=>Sem.pure (.value v):=rfl;rw[this,d,c];rfl
omit F in
theorem aqQ:(prog.info? 9).map (·.size ==1)=some true/\(prog.info? 4).map (·.size ==1)=some true:=by
 constructor<;>kernel_rfl
omit F in
theorem aiP:(execOp e ⟨dst,.build 171 #[],ty,pos,af,gd⟩).runT prog w #[]=(.ok (.value (.agg #[.string ⟨#[]⟩,.bool false])) w,#[]):=by
 obtain⟨i,d,m,l,b⟩:=oM.i258;obtain⟨f,a,j⟩:=ga.1 aqQ.1;obtain⟨k,c,g⟩:=ga.1 aqQ.2;simp[execOp,Instr.build,zeroValue,typeInfo,d,b,li underlying171,sizeOf,a,c,Instr.fill,Value.cells]
end
end
section
open Go Go.Conc Go.ConcN Go.RowKit
def as9(h:w'.heap.size=w.heap.size):SN S w w'=S:=by
 funext b
 show(S b\/(w.heap.size<=b/\b<w'.heap.size))=S b;rw[h];exact propext ⟨λx=>x.elim id λy=>absurd y.1 (by omega),.inl⟩
def aak{A:Addr}{u c:Value}(b:akp u=true)(g:w.cell? A=some c)(d:w.frozen? A=false){f:Type}(k:Sem f)(es:Array Event):(Sem.store .plain A u k).runT P w es=k.runT P (w.setCell A u) (es.push ⟨.cell A,true,false⟩):=by
 have a:(∀x,u ≠ .agg x)/\∀x,u ≠ .tuple x:=⟨λx e=>(by subst e;cases b),λx e=>(by subst e;cases b)⟩;rw[ry _ _ _ _ _ _ _ a.1 a.2];simp only[g,d,fa,pX];rfl
section
variable {P:Program} (F:FaT P) {w:World} {e:Operand->Value} {x y:Operand} {dst:Option Tmp} {ty:TypeId} {pos:String} {af:Array Edge} {gd:Option (Nat×Bool)}
include F
theorem afP{A:Addr}{u0 u1 c0 c1:Value}(m:akp u0=true)(q:akp u1=true)(o:e x=.pointer (some A))(l:e y=.agg #[u0,u1])(a:w.cell? A=some c0)(d:w.frozen? A=false)(f:w.cell? (A.add 1)=some c1)(b:w.frozen? (A.add 1)=false) :
  (execOp e ⟨dst,.store 171 x y,ty,pos,af,gd⟩).runT P w #[]=(.ok .skip ((w.setCell A u0).setCell (A.add 1) u1),#[⟨.cell A,true,false⟩,⟨.cell (A.add 1),true,false⟩]):=by
 obtain⟨i,n,r, -⟩:=F.i258;have g:(storeCells A [u0,u1] 0).runT P w #[]=(.ok () ((w.setCell A u0).setCell (A.add 1) u1),#[⟨.cell A,true,false⟩,⟨.cell (A.add 1),true,false⟩]):=by
  show(Sem.store .plain (A.add 0) u0 (Sem.store .plain (A.add 1) u1 (Sem.pure ()))).runT P w #[]=_;have j:A.add 0=A:=by unfold Addr.add;simp
  rw[j,aak m a d,aak q (c:=c1) (by rw[sY _ _ _ _ (λe=>ap0 e.symm)];exact f) (by rw[tT];exact b)];rfl
 have p:(storeCells A [u0,u1] 0).run P w=.ok () ((w.setCell A u0).setCell (A.add 1) u1):=by
  rw[<-qD _ _ _ #[]];exact ef Prod.fst g
 have k:(storeCells A [u0,u1] 0).events P w #[]=#[⟨.cell A,true,false⟩,⟨.cell (A.add 1),true,false⟩]:=ef Prod.snd g;simp[execOp,o,l,Instr.storeAt,Instr.sureAddr,storeVar,sizeOf,typeInfo,n,r,Value.cells,p,k]
theorem aqR{A:Addr}{u0 u1:Value}{fn:Func}(c:fn.results=#[.cell 6 171])(m:T.getD 6 undef=.pointer (some A))(b:w.cell? A=some u0)(d:w.cell? (A.add 1)=some u1) :
  (results fn T).runT P w #[]=(.ok (.agg #[u0,u1]) w,#[⟨.cell A,false,false⟩,⟨.cell (A.add 1),false,false⟩]):=by
 obtain⟨i,k,p, -⟩:=F.i258;obtain⟨q,j⟩:=F.asA;have e:(loadCells A 2).runT P w #[]=(.ok #[u0,u1] w,#[⟨.cell A,false,false⟩,⟨.cell (A.add 1),false,false⟩]):=by
  show(Sem.load .plain (A.add 0) λo=>Sem.load .plain (A.add 1) λn=>Sem.pure #[o,n]).runT P w #[]=_;have f:A.add 0=A:=by unfold Addr.add;simp
  rw[f,Sem.runT];simp only[b];rw[Sem.runT];simp only[d];rfl
 have l:(loadCells A 2).run P w=.ok #[u0,u1] w:=by
  rw[<-qD _ _ _ #[]];exact ef Prod.fst e
 have g:(loadCells A 2).events P w #[]=#[⟨.cell A,false,false⟩,⟨.cell (A.add 1),false,false⟩]:=ef Prod.snd e;have a:T[6]?.getD undef=.pointer (some A):=by rw[<-fi];exact m
 simp[results,c,a,asAddr,loadVar,isAgg,li j,sizeOf,typeInfo,k,p,l,g]
end
def atb{Rl:aq->World->World->Prop}(H:nD Rl Rr){nm : Int}{cfr:Frame}{cs:List Frame} :
  bB prog main Rl (nC Rr) (λ_ g _=>g=⟨cfr.finish (.agg #[.string ⟨#[]⟩,.bool false]),cs,.running,none,none⟩) S
   (Gl (Frame.enter prog 110 #[.int .i64 key,.slice A 0 c,.int .i64 nm] .normal::[]) (cfr::cs)) w:=by
 have C:=H.cmp;have F:Frame.enter prog 110 #[.int .i64 key,.slice A 0 c,.int .i64 nm] .normal=FQ 110 (#[.int .i64 key,.slice A 0 c,.int .i64 nm]++Array.replicate 26 undef) [.code (f110.body.getD .skip)]:=by
  unfold Frame.enter;rw[func110];rfl
 rw[F];obtain⟨T,hT,j,R⟩:∃T:Array Value,T=#[.int .i64 key,.slice A 0 c,.int .i64 nm]++Array.replicate 26 undef/\29<=T.size/\T.getD 1 undef=.slice A 0 c:=⟨_,rfl,by simp,by rw[fi,rb (by simp)];rfl⟩;rw[<-hT];clear hT F;simp only[f110,pP];have key:∀y,Rl S w y->bB prog main Rl (nC Rr) (λ_ g _=>g=⟨cfr.finish (.agg #[.string ⟨#[]⟩,.bool false]),cs,.running,none,none⟩) S (Gl (FQ 110 T [.code (f110.body.getD .skip)]::[]) (cfr::cs)) y:=by
  simp only[f110,pP];refine dJ C (eR C (l:=[0]) rfl (lh H (d:=6) (aE (by decide) j) rfl rfl rfl (λw=>aiO oM) λn aW T1 a k o=> ?_));replace R:=(o 1 (by decide)).trans R;replace j:=am j (mc a.symm);clear o a;have hB:(n.alloc (.cells #[.string ⟨#[]⟩,.bool false] 171)).heap[n.heap.size]?=some (.cells #[.string ⟨#[]⟩,.bool false] 171 (0,0)):=by
   show(n.heap.push _)[n.heap.size]?=_;rw[qi]
  have s:SN S n (n.alloc (.cells #[.string ⟨#[]⟩,.bool false] 171)) n.heap.size:=.inr ⟨ap _,by rw[oS];omega⟩;have I:n.heap.size<(n.alloc (.cells #[.string ⟨#[]⟩,.bool false] 171)).heap.size:=by rw[oS];omega
  generalize SN S n (n.alloc (.cells #[.string ⟨#[]⟩,.bool false] 171))=S1 at s ⊢;generalize n.alloc (.cells #[.string ⟨#[]⟩,.bool false] 171)=w2 at hB I ⊢;generalize n.heap.size=B at hB s k I;refine fQ C (dJ C (dJ C (eR C (l:=[0,1,2]) rfl ?_)));refine bE C (d:=11) (v:=.slice A 0 c) (es:=#[]) (aE (by decide) j) rfl rfl rfl (λw r=>eC R) (λw r=>bj _) λT2 a U o=> ?_;replace k:=(o 6 (by decide)).trans k;replace j:=am j (mc a.symm);clear o a;refine bE C (d:=12) (v:=.int .i64 (0:Nat)) (es:=#[]) (aE (by decide) j) rfl rfl rfl (λw r=>aqO oM U) (λw r=>bj _) λT3 a E o=> ?_;replace k:=(o 6 (by decide)).trans k;replace j:=am j (mc a.symm);clear o a;refine bE C (d:=13) (v:=.int .i64 0) (es:=#[]) (aE (by decide) j) rfl rfl rfl (λw r=>eC rfl) (λw r=>bj _) λT4 a a0 o=> ?_;replace k:=(o 6 (by decide)).trans k;replace E:=(o 12 (by decide)).trans E;replace j:=am j (mc a.symm);clear o a;refine fQ C (ad8 C (amf C (dJ C (eR C (l:=[0]) rfl ?_))));refine bE C (d:=14) (v:=.bool (decide ((0:Int)<((0:Nat):Int)))) (es:=#[]) (aE (by decide) j) rfl rfl rfl (λw r=>aqP a0 E) (λw r=>bj _) λT5 a z o=> ?_;replace k:=(o 6 (by decide)).trans k;replace j:=am j (mc a.symm);clear o a;replace z:T5.getD 14 undef=.bool false:=z.trans rfl;refine fQ C (dJ C (aa1 C (q:=false) z ?_));simp only[fa,pX];refine amg C rfl (dJ C (eR C (l:=[0,1]) rfl ?_));refine bE C (d:=28) (v:=.agg #[.string ⟨#[]⟩,.bool false]) (es:=#[]) (aE (by decide) j) rfl rfl rfl (λw r=>aiP) (λw r=>bj _) λV a gU o=> ?_;replace k:=(o 6 (by decide)).trans k;replace j:=am j (mc a.symm);clear o a;have u:(⟨B,0,none⟩:Addr).add 1=⟨B,1,none⟩:=gR _ _ _;have keep:∀y,Rl S1 w2 y->y.heap[B]?=some (.cells #[.string ⟨#[]⟩,.bool false] 171 (0,0))/\B<y.heap.size:=λy hr=>by
   obtain⟨Y,r2, -⟩:=H.rl _ _ _ hr;exact⟨(Y B (.inl s)).trans hB,by omega⟩
  intro w3 Q;refine .step rfl λt X=> ?_;obtain⟨L,b2⟩:=keep t (H.tr _ _ _ _ Q X);have c0:=dZ (i:=0) L;have c1:=dZ (i:=1) L;refine⟨_,_,_,_,ad7 rfl rfl rfl rfl rfl rfl (afP oM (A:=⟨B,0,none⟩) (u0:=.string ⟨#[]⟩) (u1:=.bool false) (c0:=.string ⟨#[]⟩) (c1:=.bool false) rfl rfl k gU c0 (fU L) (by rw[u];exact c1) (by rw[u];exact fU L)),⟨λb hb hn=> ?_, ?_,rfl,rfl,λev F=> ?_⟩, ?_⟩
  .have G:B≠b:=λe=>hn (e▸s);rw[u,bc _ _ _ G,bc _ _ _ G]
  .rw[iS,iS];exact ap _
  .have N:=sd F;simp only[rD,lw,rc,tO] at N;have M:B<((t.setCell ⟨B,0,none⟩ (.string ⟨#[]⟩)).setCell ((⟨B,0,none⟩:Addr).add 1) (.bool false)).heap.size:=by rw[iS,iS];exact b2
   rcases N with rfl|rfl
   .exact⟨λx p=>.inl (by simp[MemAct.ofEvent,MemAct.touch?] at p;rw[<-p];exact .inl s),λm D=>(by cases D),M⟩
   .refine⟨λx p=>.inl ?_,λm D=>(by cases D), ?_⟩
    .simp[MemAct.ofEvent,MemAct.touch?] at p;rw[<-p,u];exact .inl s
    .show((⟨B,0,none⟩:Addr).add 1).block<_;rw[qw];exact M
  have P:(λb=>S1 b\/(t.heap.size<=b/\b<((t.setCell ⟨B,0,none⟩ (.string ⟨#[]⟩)).setCell ((⟨B,0,none⟩:Addr).add 1) (.bool false)).heap.size))=S1:=as9 (by rw[iS,iS]);rw[P];have J:((t.setCell ⟨B,0,none⟩ (.string ⟨#[]⟩)).setCell ((⟨B,0,none⟩:Addr).add 1) (.bool false)).heap[B]?=some (.cells #[.string ⟨#[]⟩,.bool false] 171 (0,0)):=by
   rw[u];exact uz (uz L)
  have Z:B<((t.setCell ⟨B,0,none⟩ (.string ⟨#[]⟩)).setCell ((⟨B,0,none⟩:Addr).add 1) (.bool false)).heap.size:=by rw[iS,iS];exact b2
  generalize (t.setCell ⟨B,0,none⟩ (.string ⟨#[]⟩)).setCell ((⟨B,0,none⟩:Addr).add 1) (.bool false)=w5 at J Z ⊢;refine fQ (f:=110) (T:=V) C (w0:=w5) ?_ w5 (H.eN _ _);refine bB.still C (l2:=⟨110,V,[.code .ret],[],.returning,.normal,none⟩::[]) (es:=λ_=>#[]) (λw _=>by simp[Gl,stepG,stepG.exec]) (λ_ _ e h=>by cases(by simpa using h:False)) ?_;intro w6 O;refine .step rfl λw7 W=> ?_;obtain⟨Y,r2, -⟩:=H.rl _ _ _ (H.tr _ _ _ _ O W);have b7:=(Y B (.inl s)).trans J;have K:=aqR oM (T:=V) (A:=⟨B,0,none⟩) (fn:=f110) rfl k (dZ (i:=0) b7) (by rw[u];exact dZ (i:=1) b7);refine⟨⟨cfr.finish (.agg #[.string ⟨#[]⟩,.bool false]),cs,.running,none,none⟩,w7,seen prog 110 #[⟨.cell ⟨B,0,none⟩,false,false⟩,⟨.cell ((⟨B,0,none⟩:Addr).add 1),false,false⟩],_, ?_,⟨λ_ _ _=>rfl,ap _,rfl,rfl,λev F=> ?_⟩,.stop λ_ _=>rfl⟩
  .simp only[Gl,stepG,unwind,func110,K,qX];simp[doReturn,GStep.after]
  .have N:=sd F;simp only[rD,lw,rc,tO] at N;rcases N with rfl|rfl
   .exact⟨λx p=>.inl (by simp[MemAct.ofEvent,MemAct.touch?] at p;rw[<-p];exact .inl s),λm D=>(by cases D),by show B<_;omega⟩
   .refine⟨λx p=>.inl ?_,λm D=>(by cases D), ?_⟩
    .simp[MemAct.ofEvent,MemAct.touch?] at p;rw[<-p,u];exact .inl s
    .show((⟨B,0,none⟩:Addr).add 1).block<_;rw[qw];show B<_;omega
 exact key w (H.eN _ _)
end
section
open Go Go.Conc Go.ConcR Go.RowKit Go.Conc.Lib Go.ConcR.Gen
abbrev dP:WgLink:={add:=107,done:=109,wait:=111,relMerge:=150,disable:=151,enable:=152,inBubble:=153,associate:=154,fatal:=155,uOr:=156,uAdd:=157,raceRead:=158,uLoad:=159,uStore:=160,disassociate:=161,semrelease:=162,acquire:=164,isAssociated:=165,uCas:=166,raceWrite:=167,semacquire:=168,orU64:=191,addU64:=192,loadU64:=193,storeU64:=194,casU64:=197,tWgP:=210,tUP:=212,tAssoc:=214,tWg:=168,tAU:=166,tU64:=140,tUint:=93,tU32:=138,tPU32:=218,tPAU:=249,tPU64:=251,tNoCopy:=162,tANoCopy:=163,tAlign64:=164}
def oU:WgLib prog dP:=
 ⟨func107,func109,func111,func150,func151,func152,func153,func154,func155,func156,func157,func158,func159,func160,func161,func162,func164,func165,func166,func167,func168,func191,func192,func193,func194,func197,underlying210,Tryz.runUnderlying210,Tryz.sizeOf210,Tryz.isAgg210,Tryz.zeroValue210,underlying212,Tryz.runUnderlying212,Tryz.sizeOf212,Tryz.isAgg212,Tryz.zeroValue212,underlying214,Tryz.runUnderlying214,Tryz.sizeOf214,Tryz.isAgg214,Tryz.zeroValue214,underlying168,Tryz.runUnderlying168,Tryz.sizeOf168,Tryz.isAgg168,Tryz.zeroValue168,underlying166,Tryz.runUnderlying166,Tryz.sizeOf166,Tryz.isAgg166,Tryz.zeroValue166,underlying140,Tryz.runUnderlying140,Tryz.sizeOf140,Tryz.isAgg140,Tryz.zeroValue140,underlying93,Tryz.runUnderlying93,Tryz.sizeOf93,Tryz.isAgg93,Tryz.zeroValue93,underlying138,Tryz.runUnderlying138,Tryz.sizeOf138,Tryz.isAgg138,Tryz.zeroValue138,underlying218,Tryz.runUnderlying218,Tryz.sizeOf218,Tryz.isAgg218,Tryz.zeroValue218,underlying249,Tryz.runUnderlying249,Tryz.sizeOf249,Tryz.isAgg249,Tryz.zeroValue249,underlying251,Tryz.runUnderlying251,Tryz.sizeOf251,Tryz.isAgg251,Tryz.zeroValue251,underlying0,Tryz.runUnderlying0,Tryz.sizeOf0,Tryz.isAgg0,uJ,underlying3,Tryz.runUnderlying3,Tryz.sizeOf3,Tryz.isAgg3,uI,underlying4,Tryz.runUnderlying4,Tryz.sizeOf4,Tryz.isAgg4,uH,underlying9,Tryz.runUnderlying9,Tryz.sizeOf9,Tryz.isAgg9,Tryz.zeroValue9,underlying20,Tryz.runUnderlying20,Tryz.sizeOf20,Tryz.isAgg20,Tryz.zeroValue20,underlying21,Tryz.runUnderlying21,Tryz.sizeOf21,Tryz.isAgg21,Tryz.zeroValue21,(by kernel_rfl),(by kernel_rfl)⟩
end
section
open Go Go.Conc Go.ConcN Go.RowKit Go.Conc.Lib Go.ConcR.Gen Go.ConcN.Gen
open Go.ConcR (KK wgBlock WgAt stA smA rd wr mk Payload Aside2 DC0)
section
variable (P:Program) (R:World->World->Prop) (ty:TypeId) (Wg:Nat)
def mB(e:Mark)(m:Nat)(S:Goroutine->World->Prop)(g:Goroutine)(w:World):Prop:=
 g.status=.running/\∃a,stepG P true g w=.go a w #[mk e]/\Goes P true R DC0 S m a w
def aiQ(S:Goroutine->World->Prop)(g:Goroutine)(w:World):Prop:=
 g.status=.running/\∀v:Nat,v<2147483647->WgAt ty Wg w (v*KK) 0->
  ∃a,stepG P true g w=.go a (w.setCell (stA Wg) (.int .u64 ((v+1)*KK))) #[rd (stA Wg),wr (stA Wg)]/\
   (v=0->Goes P true R DC0 (mB P R (.read ⟨Wg,1,none⟩) 120 (mB P R .enable 3 S)) 120 a (w.setCell (stA Wg) (.int .u64 ((v+1)*KK))))/\
   (v≠0->Goes P true R DC0 (mB P R .enable 3 S) 120 a (w.setCell (stA Wg) (.int .u64 ((v+1)*KK))))
end
section
variable {P:Program} {L:WgLink} {R:World->World->Prop} {Wg:Nat} {S:Goroutine->World->Prop}
 {b₀:Frame} {a₀:Act} {ops₀:Array Oper} {i₀:Nat} {rest₀:List Nat} {k₀:List Item} {cs:List Frame}
def aqS (H:WgLib P L) (b:∀w d,WgLive L.tWg Wg w->R w d->WgLive L.tWg Wg d)
  (l:∀w,WgLive L.tWg Wg w->S (G (b₀.at (a₀.put ((ops₀[i₀]?).bind (·.dst)) (.tuple #[])) (.inRegion ops₀ rest₀::k₀)) cs) w)
  (w:World) (a:WgLive L.tWg Wg w) :
  Goes P true R DC0 (mB P R .disable 60 (aiQ P R L.tWg Wg S)) 30
   (G ((base L.add).at ⟨#[.pointer (some ⟨Wg,0,none⟩),.int .i64 1,undef,undef,undef,undef,undef,undef,undef,undef,undef,undef,undef,undef,undef,undef,undef,undef,undef,undef,undef,undef,undef,undef,undef,undef,undef,undef,undef,undef,undef,undef,undef,undef,undef,undef,undef,undef,undef,undef,undef,undef,undef,undef,undef,undef,undef,undef,undef,undef,undef,undef,undef,undef,undef,undef,undef,undef,undef,undef,undef,undef,undef,undef,undef,undef,undef,undef,undef,undef,undef,undef,undef,undef,undef,undef,undef,undef,undef,undef,undef,undef,undef,undef,undef,undef,undef,undef,undef,undef,undef,undef,undef,undef,undef,undef,undef,undef,undef,undef,undef,undef,undef,undef,undef,undef,undef,undef,undef,undef,undef,undef,undef,undef,undef,undef,undef],[]⟩ [.code (body_add L)]) (b₀.at a₀ (.inRegion ops₀ (i₀::rest₀)::k₀)::cs)) w:=by
 lib_facts
 simp only[body_add,addFn,pP]
 u_c gt (b _ _) a
 u_cond true (b _ _) a
 u_c gt (b _ _) a
 u_c gt (b _ _) a
 u_reg (b _ _) a
 u_op (b _ _) a
 u_op (b _ _) a
 u_c dq (b _ _) a
 u_cond false (b _ _) a
 u_c qR (b _ _) a
 u_c gt (b _ _) a
 u_reg (b _ _) a
 refine pR (λd c=> ?_);replace a:=b _ _ a c;clear c;refine⟨rfl,_,uh .disable (by simp) rfl rfl (by k_ne) rfl H.f_disable (x_disable_n L) (x_disable_b L) (x_disable_x L) (x_disable_f L), ?_⟩
 walk_nrm
 u_c dq (b _ _) a
 u_reg (b _ _) a
 u_defer (b _ _) a
 u_c dq (b _ _) a
 u_c gt (b _ _) a
 u_reg (b _ _) a
 u_op (b _ _) a
 u_c dq (b _ _) a
 u_c gt (b _ _) a
 u_c gt (b _ _) a
 u_reg (b _ _) a
 u_bub (b _ _) a
 u_c dq (b _ _) a
 u_cond false (b _ _) a
 u_c qR (b _ _) a
 u_c gt (b _ _) a
 u_reg (b _ _) a
 u_op (b _ _) a
 u_op (b _ _) a
 u_op (b _ _) a
 u_op (b _ _) a
 u_op (b _ _) a
 u_op (b _ _) a
 u_call H.f_uAdd (nm_uAdd L) uAddFn (b _ _) a
 u_c gt (b _ _) a
 u_reg (b _ _) a
 u_op (b _ _) a
 u_c dq (b _ _) a
 u_c gt (b _ _) a
 u_reg (b _ _) a
 u_op (b _ _) a
 u_op (b _ _) a
 u_op (b _ _) a
 u_op (b _ _) a
 refine pR (λd c=> ?_);replace a:=b _ _ a c;clear c;refine⟨rfl,λv B g=> ?_⟩;rcases mu v with rfl|o
 .replace g:WgAt L.tWg Wg d 0 0:=by simpa using g
  have z:(((0:Nat):Int)+1)*KK=KK:=by simp
  rw[z];have m:IntKind.u64.wrap (0+4294967296)=KK:=by decide
  refine⟨_,(stepG_add_atomic rfl rfl (by k_ne) rfl H.f_addU64 (x_addU64_n L) (x_addU64_b L) (x_addU64_x L) .u64 (x_addU64_f L) rfl rfl g.cellSt (g.thaw 0)).trans (by rw[m];rfl),λ_=> ?_,λh=>absurd rfl h⟩;replace a:WgLive L.tWg Wg (d.setCell (stA Wg) (.int .u64 KK)):=⟨_,_,g.setSt _⟩;clear g;simp only[KK] at a ⊢
  walk_nrm
  u_op (b _ _) a
  u_c dq (b _ _) a
  u_c rF (b _ _) a
  u_leave1 H.f_uAdd (b _ _) a
  u_op (b _ _) a
  u_c dq (b _ _) a
  u_c gt (b _ _) a
  u_c gt (b _ _) a
  u_reg (b _ _) a
  u_op (b _ _) a
  u_op (b _ _) a
  u_op (b _ _) a
  u_op (b _ _) a
  u_skip (b _ _) a
  u_skip (b _ _) a
  u_op (b _ _) a
  u_c dq (b _ _) a
  u_cond false (b _ _) a
  u_c qR (b _ _) a
  u_c gt (b _ _) a
  u_reg (b _ _) a
  u_op (b _ _) a
  u_op (b _ _) a
  u_op (b _ _) a
  u_op (b _ _) a
  u_c dq (b _ _) a
  u_c gt (b _ _) a
  u_reg (b _ _) a
  u_op (b _ _) a
  u_op (b _ _) a
  u_op (b _ _) a
  u_op (b _ _) a
  u_c dq (b _ _) a
  u_c gt (b _ _) a
  u_c gt (b _ _) a
  u_reg (b _ _) a
  u_op (b _ _) a
  u_op (b _ _) a
  u_op (b _ _) a
  u_op (b _ _) a
  u_op (b _ _) a
  u_op (b _ _) a
  u_op (b _ _) a
  u_op (b _ _) a
  u_op (b _ _) a
  u_op (b _ _) a
  u_c dq (b _ _) a
  u_cond true (b _ _) a
  u_reg (b _ _) a
  u_op (b _ _) a
  u_op (b _ _) a
  u_op (b _ _) a
  u_conv H.underlying_tPU32 H.room_tU32 (WgLive.cell1 a).choose_spec (b _ _) a
  refine pR (λd c=> ?_);replace a:=b _ _ a c;clear c;refine⟨rfl,_,tV .read (by simp) rfl rfl (by k_ne) rfl H.f_raceRead (x_raceRead_n L) (x_raceRead_b L) (x_raceRead_x L) (x_raceRead_f L) (ad:=⟨Wg,1,none⟩) (by simp[Act.eval]), ?_⟩
  walk_nrm
  u_c dq (b _ _) a
  u_c gt (b _ _) a
  u_c gt (b _ _) a
  u_reg (b _ _) a
  u_op (b _ _) a
  u_op (b _ _) a
  u_c dq (b _ _) a
  u_cond false (b _ _) a
  u_c qR (b _ _) a
  u_c gt (b _ _) a
  u_c gt (b _ _) a
  u_reg (b _ _) a
  u_op (b _ _) a
  u_op (b _ _) a
  u_op (b _ _) a
  u_skip (b _ _) a
  u_skip (b _ _) a
  u_op (b _ _) a
  u_op (b _ _) a
  u_skip (b _ _) a
  u_skip (b _ _) a
  u_skip (b _ _) a
  u_skip (b _ _) a
  u_op (b _ _) a
  u_c dq (b _ _) a
  u_cond false (b _ _) a
  u_c qR (b _ _) a
  u_c gt (b _ _) a
  u_c gt (b _ _) a
  u_reg (b _ _) a
  u_op (b _ _) a
  u_op (b _ _) a
  u_op (b _ _) a
  u_skip (b _ _) a
  u_skip (b _ _) a
  u_op (b _ _) a
  u_c dq (b _ _) a
  u_cond true (b _ _) a
  u_c rF (b _ _) a
  refine pR (λd c=> ?_);replace a:=b _ _ a c;clear c;refine⟨rfl,_,stepG_unwind_entry (v:=.tuple #[]) (evs:=#[mk .enable]) rfl H.f_enable (x_enable_n L) (x_enable_b L) (x_enable_x L) (x_enable_f L) (by simp[Extern.Race.none_]) (by simp[mk]) (by simp[mk]), ?_⟩
  u_leave0 H.f_add (b _ _) a
  exact pR λi f=>l _ (b _ _ a f)
 .obtain⟨V,j⟩:∃V:Int,V=(v:Int)+1:=⟨_,rfl⟩;obtain⟨St,e⟩:∃St:Int,St=V*KK:=⟨_,rfl⟩;have k:IntKind.u64.wrap ((v:Int)*KK+4294967296)=St:=by rw[IntKind.wrap_u64,e,j];simp only[KK];omega
  rw[<-j,<-e];have C:St / 4294967296=V:=by rw[e];simp only[KK];omega
  have q:bits .and .u64 St 2147483648=0:=by rw[e,j];have:=st_flag (v+1) 0 (by omega) (by omega);simpa[KK] using this
  have A:bits .and .u64 St 2147483647=0:=by rw[e,j];have:=st_waiters (v+1) 0 (by omega) (by omega);simpa[KK] using this
  have u:IntKind.i32.wrap V=V:=by rw[IntKind.wrap_i32];omega
  have n:1<V:=by omega
  have p:V<2147483648:=by omega
  have s:(V ==1)=false:=by simp;omega
  have D:=bv (show ¬(V=1) by omega);have t:=bv (show ¬(V<0) by omega);have y:=du (show 0<V by omega);have x:(V ==0)=false:=by simp;omega
  have r:=bv (show ¬(V=0) by omega);refine⟨_,(stepG_add_atomic rfl rfl (by k_ne) rfl H.f_addU64 (x_addU64_n L) (x_addU64_b L) (x_addU64_x L) .u64 (x_addU64_f L) rfl rfl g.cellSt (g.thaw 0)).trans (by rw[k];rfl),λh=>absurd h (by omega),λ_=> ?_⟩;replace a:WgLive L.tWg Wg (d.setCell (stA Wg) (.int .u64 St)):=⟨_,_,g.setSt _⟩;clear g e j k
  walk_nrm
  u_op (b _ _) a
  u_c dq (b _ _) a
  u_c rF (b _ _) a
  u_leave1 H.f_uAdd (b _ _) a
  u_op (b _ _) a
  u_c dq (b _ _) a
  u_c gt (b _ _) a
  u_c gt (b _ _) a
  u_reg (b _ _) a
  u_op (b _ _) a
  u_op (b _ _) a
  u_op (b _ _) a
  u_op (b _ _) a
  u_skip (b _ _) a
  u_skip (b _ _) a
  u_op (b _ _) a
  u_c dq (b _ _) a
  u_cnd false (b _ _) a
  u_c qR (b _ _) a
  u_c gt (b _ _) a
  u_reg (b _ _) a
  u_op (b _ _) a
  u_op (b _ _) a
  u_op (b _ _) a
  u_op (b _ _) a
  u_c dq (b _ _) a
  u_c gt (b _ _) a
  u_reg (b _ _) a
  u_op (b _ _) a
  u_op (b _ _) a
  u_op (b _ _) a
  u_op (b _ _) a
  u_c dq (b _ _) a
  u_c gt (b _ _) a
  u_c gt (b _ _) a
  u_reg (b _ _) a
  u_op (b _ _) a
  u_op (b _ _) a
  u_op (b _ _) a
  u_op (b _ _) a
  u_op (b _ _) a
  u_op (b _ _) a
  u_op (b _ _) a
  u_op (b _ _) a
  u_op (b _ _) a
  u_op (b _ _) a
  u_c dq (b _ _) a
  u_cnd false (b _ _) a
  u_c qR (b _ _) a
  u_c gt (b _ _) a
  u_c gt (b _ _) a
  u_reg (b _ _) a
  u_op (b _ _) a
  u_op (b _ _) a
  u_c dq (b _ _) a
  u_cnd false (b _ _) a
  u_c qR (b _ _) a
  u_c gt (b _ _) a
  u_c gt (b _ _) a
  u_reg (b _ _) a
  u_op (b _ _) a
  u_op (b _ _) a
  u_op (b _ _) a
  u_skip (b _ _) a
  u_skip (b _ _) a
  u_op (b _ _) a
  u_op (b _ _) a
  u_skip (b _ _) a
  u_skip (b _ _) a
  u_skip (b _ _) a
  u_skip (b _ _) a
  u_op (b _ _) a
  u_c dq (b _ _) a
  u_cnd false (b _ _) a
  u_c qR (b _ _) a
  u_c gt (b _ _) a
  u_c gt (b _ _) a
  u_reg (b _ _) a
  u_op (b _ _) a
  u_op (b _ _) a
  u_op (b _ _) a
  u_skip (b _ _) a
  u_skip (b _ _) a
  u_op (b _ _) a
  u_c dq (b _ _) a
  u_cnd true (b _ _) a
  u_c rF (b _ _) a
  refine pR (λd c=> ?_);replace a:=b _ _ a c;clear c;refine⟨rfl,_,stepG_unwind_entry (v:=.tuple #[]) (evs:=#[mk .enable]) rfl H.f_enable (x_enable_n L) (x_enable_b L) (x_enable_x L) (x_enable_f L) (by simp[Extern.Race.none_]) (by simp[mk]) (by simp[mk]), ?_⟩
  u_leave0 H.f_add (b _ _) a
  exact pR λi f=>l _ (b _ _ a f)
end
end
section
open Go Go.Conc Go.ConcN Go.RowKit Go.Conc.Lib Go.ConcR.Gen Go.ConcN.Gen
open Go.ConcR (KK wgBlock WgAt stA smA rd wr mk Aside2 DC0)
section
variable (P:Program) (R:World->World->Prop) (ty:TypeId) (Wg:Nat) (ak8 S:Goroutine->World->Prop)
abbrev WKe:Goroutine->World->Prop:=mB P R .enable 12 (mB P R (.acquire (stA Wg)) 20 S)
def WW4(g:Goroutine)(w:World):Prop:=g.status=.running/\(WgAt ty Wg w 0 0->∃a,stepG P true g w=.go a w #[rd (stA Wg)]/\Goes P true R DC0 (WKe P R Wg S) 40 a w)
def WW3(g:Goroutine)(w:World):Prop:=g.status=.running/\g.offers=none/\
  ((∃b,WgAt ty Wg w b 0)->stepG P true g w=.go {g with status:=.blocked} w #[])/\
  (WgAt ty Wg w 0 1->∃a,stepG P true g w=.go a (w.setCell (smA Wg) (.int .u32 0)) (semEvents (smA Wg))/\Goes P true R DC0 (WW4 P R ty Wg S) 40 a (w.setCell (smA Wg) (.int .u32 0)))
def WW2(vs:Nat)(g:Goroutine)(w:World):Prop:=g.status=.running/\∀v:Nat,v<2147483648->WgAt ty Wg w (v*KK) 0->
  (v=vs->∃a,stepG P true g w=.go a (w.setCell (stA Wg) (.int .u64 (v*KK+1))) #[rd (stA Wg),wr (stA Wg)]/\Goes P true R DC0 (mB P R (.write ⟨Wg,1,none⟩) 60 (WW3 P R ty Wg S)) 120 a (w.setCell (stA Wg) (.int .u64 (v*KK+1))))/\
  (v≠vs->∃a,stepG P true g w=.go a w #[rd (stA Wg)]/\Goes P true R DC0 ak8 60 a w)
def WW1(g:Goroutine)(w:World):Prop:=g.status=.running/\∀v:Nat,v<2147483648->WgAt ty Wg w (v*KK) 0->∃a,stepG P true g w=.go a w #[rd (stA Wg)]/\
  (v=0->Goes P true R DC0 (WKe P R Wg S) 60 a w)/\(v≠0->Goes P true R DC0 (WW2 P R ty Wg ak8 S v) 120 a w)
end
def aiR(L:WgLink)(Wg:Nat)(c:Frame)(cs:List Frame)(g:Goroutine)(w:World):Prop:=
 ∃T:Array Value,g=G ((base L.wait).at ⟨T,[]⟩ [.code (L7 L),.inLoop (L7 L),.inBlock 0]) (c::cs)/\T.size=84/\T[0]?=some (.pointer (some ⟨Wg,0,none⟩))/\WgLive L.tWg Wg w
section
variable {P:Program} {L:WgLink} {R:World->World->Prop} {Wg:Nat} {S:Goroutine->World->Prop}
 {b₀:Frame} {a₀:Act} {ops₀:Array Oper} {i₀:Nat} {rest₀:List Nat} {k₀:List Item} {cs:List Frame}
def ak9(H:WgLib P L)(d:∀w a,WgLive L.tWg Wg w->R w a->WgLive L.tWg Wg a)(w:World)(b:WgLive L.tWg Wg w) :
  Goes P true R DC0 (mB P R .disable 3 (aiR L Wg (b₀.at a₀ (.inRegion ops₀ (i₀::rest₀)::k₀)) cs)) 3
   (G ((base L.wait).at ⟨#[.pointer (some ⟨Wg,0,none⟩)]++(List.replicate 83 undef).toArray,[]⟩ [.code (body_wait L)]) (b₀.at a₀ (.inRegion ops₀ (i₀::rest₀)::k₀)::cs)) w:=by
 lib_facts
 simp only[body_wait,waitFn,pP]
 u_c gt (d _ _) b
 u_cond true (d _ _) b
 u_reg (d _ _) b
 refine pR (λa c=> ?_);replace b:=d _ _ b c;clear c;refine⟨rfl,_,uh .disable (by simp) rfl rfl (by k_ne) rfl H.f_disable (x_disable_n L) (x_disable_b L) (x_disable_x L) (x_disable_f L), ?_⟩
 walk_nrm
 u_c dq (d _ _) b
 u_c stepG_block (d _ _) b
 u_c stepG_loop (d _ _) b
 exact pR (λf e=>⟨_,rfl,by simp,by simp,d _ _ b e⟩)
def ala (H:WgLib P L) (b:∀w i,WgLive L.tWg Wg w->R w i->WgLive L.tWg Wg i)
  (x:∀w,WgLive L.tWg Wg w->S (G (b₀.at (a₀.put ((ops₀[i₀]?).bind (·.dst)) (.tuple #[])) (.inRegion ops₀ rest₀::k₀)) cs) w)
  (g:Goroutine) (w:World) (h:aiR L Wg (b₀.at a₀ (.inRegion ops₀ (i₀::rest₀)::k₀)) cs g w) :
  Goes P true R DC0 (WW1 P R L.tWg Wg (aiR L Wg (b₀.at a₀ (.inRegion ops₀ (i₀::rest₀)::k₀)) cs) S) 30 g w:=by
 lib_facts
 obtain⟨T,rfl,q,t,a⟩:=h;obtain⟨v0,v1,v2,v3,v4,v5,v6,v7,v8,v9,aP,O,bk,z,b7,C,K,ao,bN,a8,a2,A,bH,bV,J,bt,bb,a4,bw,aa,Y,aV,y,bM,a0,N,bS,bL,ba,X,U,W,bo,a7,aT,Q,D,bn,b6,b9,aI,bi,aF,af,E,b3,bf,b0,a5,bx,a3,bO,ax,aZ,b4,B,I,M,b8,b5,bu,aU,bp,bT,a6,ay,bW,a9,F,aW,bl,an,al,Z,rfl⟩:=array84 T q;simp only[List.getElem?_toArray,sq,lE] at t;subst t;simp only[L7,body_wait,waitFn,pP]
 u_c stepG_block (b _ _) a
 u_c gt (b _ _) a
 u_reg (b _ _) a
 u_op (b _ _) a
 u_op (b _ _) a
 u_op (b _ _) a
 u_call H.f_uLoad (nm_uLoad L) uLoadFn (b _ _) a
 u_c gt (b _ _) a
 u_reg (b _ _) a
 u_op (b _ _) a
 u_c dq (b _ _) a
 u_c gt (b _ _) a
 u_reg (b _ _) a
 u_op (b _ _) a
 u_op (b _ _) a
 u_op (b _ _) a
 refine pR (λi c=> ?_);replace a:=b _ _ a c;clear c;refine⟨rfl,λv hv f=> ?_⟩;rcases mu v with rfl|av
 .replace f:WgAt L.tWg Wg i 0 0:=by simpa using f
  refine⟨_,stepG_load_atomic (v:=0) rfl rfl (by k_ne) rfl H.f_loadU64 (x_loadU64_n L) (x_loadU64_b L) (x_loadU64_x L) .u64 (x_loadU64_f L) rfl f.cellSt,λ_=> ?_,λh=>absurd rfl h⟩;clear f
  walk_nrm
  u_op (b _ _) a
  u_c dq (b _ _) a
  u_c rF (b _ _) a
  u_leave1 H.f_uLoad (b _ _) a
  u_op (b _ _) a
  u_c dq (b _ _) a
  u_c gt (b _ _) a
  u_reg (b _ _) a
  u_op (b _ _) a
  u_op (b _ _) a
  u_op (b _ _) a
  u_op (b _ _) a
  u_c dq (b _ _) a
  u_c gt (b _ _) a
  u_reg (b _ _) a
  u_op (b _ _) a
  u_op (b _ _) a
  u_op (b _ _) a
  u_op (b _ _) a
  u_c dq (b _ _) a
  u_c gt (b _ _) a
  u_c gt (b _ _) a
  u_reg (b _ _) a
  u_op (b _ _) a
  u_op (b _ _) a
  u_c dq (b _ _) a
  u_cond true (b _ _) a
  u_c gt (b _ _) a
  u_cond true (b _ _) a
  u_c gt (b _ _) a
  u_reg (b _ _) a
  refine pR (λi c=> ?_);replace a:=b _ _ a c;clear c;refine⟨rfl,_,uh .enable (by simp) rfl rfl (by k_ne) rfl H.f_enable (x_enable_n L) (x_enable_b L) (x_enable_x L) (x_enable_f L), ?_⟩
  walk_nrm
  u_c dq (b _ _) a
  u_reg (b _ _) a
  u_op (b _ _) a
  u_conv H.underlying_tWgP H.room_tWg (WgLive.cell0 a).choose_spec (b _ _) a
  refine pR (λi c=> ?_);replace a:=b _ _ a c;clear c;refine⟨rfl,_,tV .acquire (by simp) rfl rfl (by k_ne) rfl H.f_acquire (x_acquire_n L) (x_acquire_b L) (x_acquire_x L) (x_acquire_f L) (by simp[Act.eval,stA]), ?_⟩
  walk_nrm
  u_c dq (b _ _) a
  u_c gt (b _ _) a
  u_c gt (b _ _) a
  u_reg (b _ _) a
  u_op (b _ _) a
  u_op (b _ _) a
  u_op (b _ _) a
  u_op (b _ _) a
  u_op (b _ _) a
  u_op (b _ _) a
  u_op (b _ _) a
  u_op (b _ _) a
  u_skip (b _ _) a
  u_skip (b _ _) a
  u_op (b _ _) a
  u_c dq (b _ _) a
  u_cond false (b _ _) a
  u_c qR (b _ _) a
  u_c rF (b _ _) a
  u_leave0 H.f_wait (b _ _) a
  exact pR λl j=>x _ (b _ _ a j)
 .obtain⟨V,p⟩:∃V:Int,(v:Int)*KK=V:=⟨_,rfl⟩;have a1:V / 4294967296=(v:Int):=by rw[<-p];simp only[KK];omega
  have b1:bits .and .u64 V 2147483648=0:=by rw[<-p];have:=st_flag v 0 (by omega) (by omega);simpa[KK] using this
  have b2:bits .and .u64 V 2147483647=0:=by rw[<-p];have:=st_waiters v 0 (by omega) (by omega);simpa[KK] using this
  have c1:IntKind.i32.wrap (v:Int)=(v:Int):=by rw[IntKind.wrap_i32];omega
  have w1:IntKind.u64.wrap (V+1)=V+1:=by rw[IntKind.wrap_u64,<-p];simp only[KK];omega
  have q3:=bv (show ¬((v:Int)<0) by omega);have q4:=du (show 0<(v:Int) by omega);have q5:((v:Int) ==0)=false:=by simp;omega
  have q6:=bv (show ¬((v:Int)=0) by omega);rw[p] at f;refine⟨_,stepG_load_atomic (v:=V) rfl rfl (by k_ne) rfl H.f_loadU64 (x_loadU64_n L) (x_loadU64_b L) (x_loadU64_x L) .u64 (x_loadU64_f L) rfl f.cellSt,λh0=>absurd h0 (by omega),λ_=> ?_⟩;clear f
  walk_nrm
  u_op (b _ _) a
  u_c dq (b _ _) a
  u_c rF (b _ _) a
  u_leave1 H.f_uLoad (b _ _) a
  u_op (b _ _) a
  u_c dq (b _ _) a
  u_c gt (b _ _) a
  u_reg (b _ _) a
  u_op (b _ _) a
  u_op (b _ _) a
  u_op (b _ _) a
  u_op (b _ _) a
  u_c dq (b _ _) a
  u_c gt (b _ _) a
  u_reg (b _ _) a
  u_op (b _ _) a
  u_op (b _ _) a
  u_op (b _ _) a
  u_op (b _ _) a
  u_c dq (b _ _) a
  u_c gt (b _ _) a
  u_c gt (b _ _) a
  u_reg (b _ _) a
  u_op (b _ _) a
  u_op (b _ _) a
  u_c dq (b _ _) a
  u_cnd false (b _ _) a
  u_c qR (b _ _) a
  u_c gt (b _ _) a
  u_reg (b _ _) a
  u_op (b _ _) a
  u_op (b _ _) a
  u_op (b _ _) a
  u_op (b _ _) a
  u_op (b _ _) a
  u_op (b _ _) a
  u_call H.f_uCas (nm_uCas L) uCasFn (b _ _) a
  u_c gt (b _ _) a
  u_reg (b _ _) a
  u_op (b _ _) a
  u_c dq (b _ _) a
  u_c gt (b _ _) a
  u_reg (b _ _) a
  u_op (b _ _) a
  u_op (b _ _) a
  u_op (b _ _) a
  u_op (b _ _) a
  u_op (b _ _) a
  refine pR (λl j=> ?_);replace a:=b _ _ a j;clear j;refine⟨rfl,λv' br f=>⟨λe=> ?_,λe=> ?_⟩⟩
  .subst e;rw[p] at f ⊢;refine⟨_,stepG_cas_hit (v:=V) (n:=V+1) rfl rfl (by k_ne) rfl H.f_casU64 (x_casU64_n L) (x_casU64_b L) (x_casU64_x L) .u64 (x_casU64_f L) rfl rfl rfl f.cellSt (f.thaw 0), ?_⟩;replace a:WgLive L.tWg Wg (l.setCell (stA Wg) (.int .u64 (V+1))):=⟨_,_,f.setSt _⟩;clear f
   walk_nrm
   u_op (b _ _) a
   u_c dq (b _ _) a
   u_c rF (b _ _) a
   u_leave1 H.f_uCas (b _ _) a
   u_c dq (b _ _) a
   u_cond true (b _ _) a
   u_c gt (b _ _) a
   u_c gt (b _ _) a
   u_reg (b _ _) a
   u_op (b _ _) a
   u_op (b _ _) a
   u_op (b _ _) a
   u_op (b _ _) a
   u_c dq (b _ _) a
   u_cond true (b _ _) a
   u_reg (b _ _) a
   u_op (b _ _) a
   u_op (b _ _) a
   u_op (b _ _) a
   u_conv H.underlying_tPU32 H.room_tU32 (WgLive.cell1 a).choose_spec (b _ _) a
   refine pR (λm d=> ?_);replace a:=b _ _ a d;clear d;refine⟨rfl,_,tV .write (by simp) rfl rfl (by k_ne) rfl H.f_raceWrite (x_raceWrite_n L) (x_raceWrite_b L) (x_raceWrite_x L) (x_raceWrite_f L) (ad:=⟨Wg,1,none⟩) (by simp[Act.eval]), ?_⟩
   walk_nrm
   u_c dq (b _ _) a
   u_c gt (b _ _) a
   u_reg (b _ _) a
   u_op (b _ _) a
   u_c dq (b _ _) a
   u_c gt (b _ _) a
   u_c gt (b _ _) a
   u_reg (b _ _) a
   u_op (b _ _) a
   u_op (b _ _) a
   u_op (b _ _) a
   u_op (b _ _) a
   u_skip (b _ _) a
   u_op (b _ _) a
   u_c dq (b _ _) a
   u_cond false (b _ _) a
   u_c qR (b _ _) a
   u_c gt (b _ _) a
   u_reg (b _ _) a
   u_op (b _ _) a
   u_op (b _ _) a
   u_op (b _ _) a
   u_op (b _ _) a
   refine pR (λm d=> ?_);replace a:=b _ _ a d;clear d;refine⟨rfl,rfl,λ⟨st,f⟩=>stepG_semacquire_wait rfl rfl rfl H.f_semacquire (x_semacquire_n L) (x_semacquire_b L) (x_semacquire_x L) (x_semacquire_f L) (by simp[Act.eval,smA]) f.cellSm,λs=> ?_⟩;refine⟨_,(stepG_semacquire (n:=1) rfl rfl (by k_ne) rfl H.f_semacquire (x_semacquire_n L) (x_semacquire_b L) (x_semacquire_x L) (x_semacquire_f L) (by simp[Act.eval,smA]) s.cellSm (by decide) (s.thaw 1)).trans rfl, ?_⟩;replace a:WgLive L.tWg Wg (m.setCell (smA Wg) (.int .u32 0)):=⟨_,_,s.setSm 0⟩;clear s
   walk_nrm
   u_c dq (b _ _) a
   u_c gt (b _ _) a
   u_reg (b _ _) a
   u_op (b _ _) a
   u_op (b _ _) a
   u_op (b _ _) a
   u_call H.f_uLoad (nm_uLoad L) uLoadFn (b _ _) a
   u_c gt (b _ _) a
   u_reg (b _ _) a
   u_op (b _ _) a
   u_c dq (b _ _) a
   u_c gt (b _ _) a
   u_reg (b _ _) a
   u_op (b _ _) a
   u_op (b _ _) a
   u_op (b _ _) a
   refine pR (λu o=> ?_);replace a:=b _ _ a o;clear o;refine⟨rfl,λf=>⟨_,stepG_load_atomic (v:=0) rfl rfl (by k_ne) rfl H.f_loadU64 (x_loadU64_n L) (x_loadU64_b L) (x_loadU64_x L) .u64 (x_loadU64_f L) rfl f.cellSt, ?_⟩⟩;clear f
   walk_nrm
   u_op (b _ _) a
   u_c dq (b _ _) a
   u_c rF (b _ _) a
   u_leave1 H.f_uLoad (b _ _) a
   u_op (b _ _) a
   u_op (b _ _) a
   u_c dq (b _ _) a
   u_c gt (b _ _) a
   u_cond true (b _ _) a
   u_c gt (b _ _) a
   u_reg (b _ _) a
   refine pR (λr k=> ?_);replace a:=b _ _ a k;clear k;refine⟨rfl,_,uh .enable (by simp) rfl rfl (by k_ne) rfl H.f_enable (x_enable_n L) (x_enable_b L) (x_enable_x L) (x_enable_f L), ?_⟩
   walk_nrm
   u_c dq (b _ _) a
   u_reg (b _ _) a
   u_op (b _ _) a
   u_conv H.underlying_tWgP H.room_tWg (WgLive.cell0 a).choose_spec (b _ _) a
   refine pR (λr k=> ?_);replace a:=b _ _ a k;clear k;refine⟨rfl,_,tV .acquire (by simp) rfl rfl (by k_ne) rfl H.f_acquire (x_acquire_n L) (x_acquire_b L) (x_acquire_x L) (x_acquire_f L) (by simp[Act.eval,stA]), ?_⟩
   walk_nrm
   u_c dq (b _ _) a
   u_c gt (b _ _) a
   u_c gt (b _ _) a
   u_reg (b _ _) a
   u_op (b _ _) a
   u_c dq (b _ _) a
   u_cond false (b _ _) a
   u_c qR (b _ _) a
   u_c rF (b _ _) a
   u_leave0 H.f_wait (b _ _) a
   exact pR λl j=>x _ (b _ _ a j)
  .refine⟨_,stepG_cas_miss (v:=(v':Int)*KK) (old:=V) (n:=V+1) rfl rfl (by k_ne) rfl H.f_casU64 (x_casU64_n L) (x_casU64_b L) (x_casU64_x L) .u64 (x_casU64_f L) rfl rfl rfl f.cellSt (f.thaw 0) (by rw[<-p];simp only[KK];omega), ?_⟩;clear f
   walk_nrm
   u_op (b _ _) a
   u_c dq (b _ _) a
   u_c rF (b _ _) a
   u_leave1 H.f_uCas (b _ _) a
   u_c dq (b _ _) a
   u_cond false (b _ _) a
   u_c qR (b _ _) a
   u_c stepG_inBlock (b _ _) a
   u_c stepG_inLoop (b _ _) a
   exact pR λm d=>⟨_,rfl,by simp,by simp,b _ _ a d⟩
end
end
section
open Go Go.Conc Go.ConcN Go.RowKit Go.Conc.Lib Go.ConcR.Gen Go.ConcN.Gen
open Go.ConcR (KK wgBlock WgAt stA smA rd wr mk Payload DC0)
section
variable {P:Program} {R:World->World->Prop} {Wg:Nat}
def an7:pE Wg (mk (.read ⟨Wg,1,none⟩)):=⟨_,rfl,.inl rfl⟩
def alb:pE Wg (mk (.write ⟨Wg,1,none⟩)):=⟨_,rfl,.inr rfl⟩
def lW{D i:World->World->Array Event->Prop}{St c:Goroutine->World->Prop}{main:Bool}(k:∀w d e,D w d e->i w d e)(f:∀g w,St g w->c g w) :
  ∀{n:Nat} {g:Goroutine} {w:World},Goes P main R D St n g w->Goes P main R i c n g w
 |0,_,_,h=>λa b=>f _ _ (h a b)
 |n+1,g,w,h=>by
  rcases h with h|⟨l,h⟩
  .exact .inl λa b=>f _ _ (h a b)
  .refine .inr ⟨l,λa b=> ?_⟩;have:=h a b;cases j:stepG P main g a with
   |go m d e=>
    rw[j,sM] at this;rw[sM];exact⟨k _ _ _ this.1,lW k f this.2⟩
   |_=>rw[j] at this;exact this.elim
def atc{D:World->World->Array Event->Prop}(b:n<=Y)(h:Goes P main R D St n g w):Goes P main R D St Y g w:=by
 induction b with
 |refl=>exact h
 |step _ a=>exact a.more
def dsd{es:Array Event}(h:DC0 w w' es):DSd Wg w w' es:=⟨h.1,by rw[h.2];simp⟩
def afQ{e:Mark}(q:pE Wg (mk e))(s:∀g w,St g w->U g w)(k:∀w,R w w)(l:∀a b c,R a b->R b c->R a c) :
  ∀{n:Nat} {g:Goroutine} {w:World},Goes P true R DC0 (mB P R e m St) n g w->Goes P true R (DSd Wg) U (n+(m+1)) g w:=by
 have stop:∀{g:Goroutine} {w:World},(∀d,R w d->mB P R e m St g d)->Goes P true R (DSd Wg) U (m+1) g w:=λ{g w} h=>by
  refine .inr ⟨(h w (k w)).1,λd i=> ?_⟩;obtain⟨-,p,f,j⟩:=h d i;rw[f,sM];exact⟨⟨rfl,by simp;exact q⟩,lW (λ_ _ _ x=>dsd x) s j⟩
 intro n
 induction n with
 |zero=>intro g w h;rw[pb];exact stop h
 |succ n r=>
  intro g w h;rcases h with h|⟨o,h⟩
  .exact atc (by omega) (stop h)
  .rw[Nat.succ_add];refine .inr ⟨o,λd i=> ?_⟩;have:=h d i;cases f:stepG P true g d with
   |go p t u=>
    rw[f,sM] at this;rw[sM];exact⟨dsd this.1,r this.2⟩
   |_=>rw[f] at this;exact this.elim
end
section
variable [Payload] {P:Program} {ty:TypeId} {Wg C n:Nat} {R S:aq}
def oV(a:∀g w,St g w->U g w)(h:Goes P true (RM ty Wg C n R S) DC0 St m g w):GP P ty Wg C n R S U m g w:=lW (λ_ _ _ x=>dsd x) a h
def av4{F:aq->aq->Goroutine->World->Prop}(a:∀g w,Goes P true (RM ty Wg C n R S) DC0 St m g w->F R S g w)(h:mB P (RM ty Wg C n R S) (.acquire (stA Wg)) m St g w):avn P Wg R S F g w:=
 ⟨h.1,let⟨b,e,k⟩:=h.2;⟨b,e,a _ _ k⟩⟩
section
variable {St:Goroutine->World->Prop} {F A:aq->aq->Goroutine->World->Prop} {ak8:Goroutine->World->Prop} (hF:∀g w,Goes P true (RM ty Wg C n R S) DC0 St 20 g w->F R S g w) (hA:∀g w,ak8 g w->A R S g w)
include hF in
theorem auD(h:WKe P (RM ty Wg C n R S) Wg St g w):MKe P ty Wg C n R S F g w:=
 ⟨h.1,let⟨a,e,k⟩:=h.2;⟨a,e,_,oV (λ_ _ x=>av4 hF x) k⟩⟩
include hF in
theorem axQ(h:WW4 P (RM ty Wg C n R S) ty Wg St g w):MW4 P ty Wg C n R S F g w:=
 ⟨h.1,λa=>let⟨b,e,k⟩:=h.2 a;⟨b,e,_,oV (λ_ _ x=>auD hF x) k⟩⟩
include hF in
theorem axR(h:WW3 P (RM ty Wg C n R S) ty Wg St g w):MW3 P ty Wg C n R S F g w:=
 ⟨h.1,h.2.1,h.2.2.1,λa=>let⟨b,e,k⟩:=h.2.2.2 a;⟨b,e,_,oV (λ_ _ x=>axQ hF x) k⟩⟩
include hF hA in
theorem axS{v:Nat}(h:WW2 P (RM ty Wg C n R S) ty Wg ak8 St v g w):MW2 P ty Wg C n R S A F v g w:=
 ⟨h.1,λd f c=>⟨λe=>let⟨b,a,k⟩:=(h.2 d f c).1 e;⟨b,a,_,afQ alb (λ_ _ x=>axR hF x) (iN.refl _ _ _) (λ_ _ _=>iN.trans) k⟩,
  λe=>let⟨b,a,k⟩:=(h.2 d f c).2 e;⟨b,a,_,oV hA k⟩⟩⟩
include hF hA in
theorem axT(h:WW1 P (RM ty Wg C n R S) ty Wg ak8 St g w):MW1 P ty Wg C n R S A F g w:=
 ⟨h.1,λv c b=>let⟨f,e,d,a⟩:=h.2 v c b;⟨f,e,λe=>⟨_,oV (λ_ _ x=>auD hF x) (d e)⟩,λe=>⟨_,oV (λ_ _ x=>axS hF hA x) (a e)⟩⟩⟩
include hA in
theorem axU(h:mB P (RM ty Wg C n R S) .disable m ak8 g w):MKd P ty Wg C n R S A g w:=
 ⟨h.1,let⟨a,e,k⟩:=h.2;⟨a,e,_,oV hA k⟩⟩
end
section
variable {val:Nat->Value} {j:Nat} {Next:aq->Goroutine->World->Prop} {St:Goroutine->World->Prop}
def aqT(a:∀g w,Goes P true (RM ty Wg C n R S) DC0 St m g w->∃T,GM P ty Wg C n R (MGo P ty Wg C n val j Next R) T S g w)(h:mB P (RM ty Wg C n R S) .enable m St g w):avo P ty Wg C n val j Next R S g w:=
 ⟨h.1,let⟨b,e,k⟩:=h.2;⟨b,e,a _ _ k⟩⟩
def axV(b:∀g w,Goes P true (RM ty Wg C n R S) DC0 St 3 g w->∃T,GM P ty Wg C n R (MGo P ty Wg C n val j Next R) T S g w)(h:aiQ P (RM ty Wg C n R S) ty Wg St g w):MA1 P ty Wg C n val j Next R S g w:=
 ⟨h.1,λv f d=>by
  obtain⟨k,e,i,c⟩:=h.2 v f d;refine⟨k,e, ?_⟩;by_cases a:v=0
  .exact⟨_,afQ an7 (λ_ _ x=>aqT b x) (iN.refl _ _ _) (λ_ _ _=>iN.trans) (i a)⟩
  .exact⟨_,oV (λ_ _ x=>aqT b x) (c a)⟩⟩
def av5(a:∀g w,Goes P true (RM ty Wg C n R S) DC0 St 3 g w->∃T,GM P ty Wg C n R (MGo P ty Wg C n val j Next R) T S g w)(h:mB P (RM ty Wg C n R S) .disable m (aiQ P (RM ty Wg C n R S) ty Wg St) g w):apA P ty Wg C n val j Next R S g w:=
 ⟨h.1,let⟨b,e,k⟩:=h.2;⟨b,e,_,oV (λ_ _ x=>axV a x) k⟩⟩
end
end
end
section
open Go Go.Conc Go.ConcN Go.RowKit Go.Conc.Lib Go.ConcR.Gen Go.ConcN.Gen
open Go.ConcR (KK wgBlock WgAt stA smA rd wr mk Payload Aside2 DC0)
section
variable (P:Program) (R:World->World->Prop) (Wg:Nat)
def aqU(g:Goroutine)(w:World):Prop:=∃a,stepG P false g w=.go a w #[mk .disable]
def av6(m:Nat)(g:Goroutine)(w:World):Prop:=∃a,stepG P false g w=.go a w #[mk (.releaseMerge (stA Wg))]/\Goes P false R DC0 (aqU P) m a w
end
section
variable {P:Program} {L:WgLink} {R:World->World->Prop} {Wg:Nat} {c:Frame} {cs:List Frame}
def an8(H:WgLib P L)(b:∀w e,WgLive L.tWg Wg w->R w e->WgLive L.tWg Wg e)(w:World)(a:WgLive L.tWg Wg w) :
  Goes P false R DC0 (av6 P R Wg 10) 23 (G ((baseD L.done).at ⟨#[.pointer (some ⟨Wg,0,none⟩),undef,undef,undef],[]⟩ [.code (body_done L)]) (c::cs)) w:=by
 lib_facts
 simp only[body_done,body_add,doneFn,addFn,pP]
 u_reg (b _ _) a
 u_op (b _ _) a
 u_in (b _ _) a
 refine goes_call rfl rfl (by k_ne) rfl H.f_add (nm_add L) rfl ⟨by u_nil, ?_⟩
 walk_nrmf addFn
 u_c gt (b _ _) a
 u_cond true (b _ _) a
 u_c gt (b _ _) a
 u_c gt (b _ _) a
 u_reg (b _ _) a
 u_op (b _ _) a
 u_op (b _ _) a
 u_c dq (b _ _) a
 u_cond true (b _ _) a
 u_reg (b _ _) a
 u_op (b _ _) a
 u_conv H.underlying_tWgP H.room_tWg (WgLive.cell0 a).choose_spec (b _ _) a
 refine pR (λe d=> ?_);replace a:=b _ _ a d;clear d;refine⟨_,tV .releaseMerge (by simp) rfl rfl (by k_ne) rfl H.f_relMerge (x_relMerge_n L) (x_relMerge_b L) (x_relMerge_x L) (x_relMerge_f L) (by simp[Act.eval,stA]), ?_⟩
 walk_nrm
 u_c dq (b _ _) a
 u_c gt (b _ _) a
 u_reg (b _ _) a
 refine pR (λe d=> ?_);replace a:=b _ _ a d;clear d;exact⟨_,uh .disable (by simp) rfl rfl (by k_ne) rfl H.f_disable (x_disable_n L) (x_disable_b L) (x_disable_x L) (x_disable_f L)⟩
end
section
variable [Payload] {P:Program} {ty:TypeId} {Wg C n k:Nat} {R:World->World->Prop} {v:Value}
def aqV(c:∀w,R w w)(q:∀g w,St g w->∃p,stepG P false g w=.go p w #[mk (.releaseMerge (stA Wg))]) :
  ∀{m f:Nat} {g:Goroutine} {w:World},Goes P false R DC0 (aqU P) m g w->¬Goes P false R (DWs Wg FF FF C n k) St f g w:=by
 have i:∀{f:Nat} {g:Goroutine} {w:World},(∀a,R w a->aqU P g a)->¬Goes P false R (DWs Wg FF FF C n k) St f g w:=λ{f g w} d b=>by
  obtain⟨p,e⟩:=d w (c w);have l:¬ ∀a,R w a->St g a:=λh=>by
   obtain⟨s,o⟩:=q _ _ (h w (c w));rw[e] at o;cases o
  cases f with
  |zero=>exact l b
  |succ f=>
   rcases b with b|⟨-,b⟩
   .exact l b
   .have:=b w (c w);rw[e,sM] at this;exact(this.1.2 (mk .disable) (by simp)).2.1 rfl
 intro m
 induction m with
 |zero=>intro f g w d b;exact i d b
 |succ m t=>
  intro f g w d b;rcases d with d|⟨-,d⟩
  .exact i d b
  .have d:=d w (c w);obtain⟨p,j,u,e,⟨rfl,rfl⟩,r⟩:=goes_elim d;have l:¬ ∀a,R j a->St g a:=λh=>by
    obtain⟨s,o⟩:=q _ _ (h j (c j));rw[e] at o;cases o
   cases f with
   |zero=>exact l b
   |succ f=>
    rcases b with b|⟨-,b⟩
    .exact l b
    .have:=b j (c j);rw[e,sM] at this;exact t r this.2
def alc(l:∀w,R w w)(r:∀a b c,R a b->R b c->R a c)(y:∀g w,St g w->∃t,stepG P false g w=.go t w #[mk (.releaseMerge (stA Wg))]) :
  ∀{m o i:Nat} {g:Goroutine} {w:World},Goes P false R DC0 (av6 P R Wg o) m g w->Goes P false R (DWs Wg FF FF C n k) St i g w->Goes P false R DC0 St m g w:=by
 have p:∀{m o i:Nat} {g:Goroutine} {w:World},(∀d,R w d->av6 P R Wg o g d)->Goes P false R (DWs Wg FF FF C n k) St i g w->Goes P false R DC0 St m g w:=λ{m o i g w} j f=>by
  refine pR λd q=> ?_;have f:=sF r f q;cases i with
  |zero=>exact f d (l _)
  |succ i=>
   rcases f with f|⟨-,f⟩
   .exact f d (l _)
   .obtain⟨t,e,s⟩:=j d q;have:=f d (l _);rw[e,sM] at this;exact absurd this.2 (aqV l y s)
 intro m
 induction m with
 |zero=>intro o i g w j f;exact p j f
 |succ m x=>
  intro o i g w j f;rcases j with j|⟨u,j⟩
  .exact p j f
  .cases i with
   |zero=>exact .inl f
   |succ i=>
    rcases f with f|⟨-,f⟩
    .exact .inl f
    .refine .inr ⟨u,λd q=> ?_⟩;obtain⟨t,z,A,e,hd,v⟩:=goes_elim (j d q);have:=f d q;rw[e,sM] at this ⊢;exact⟨hd,x v this.2⟩
end
section
variable [Payload] {P:Program} {L:WgLink} {Wg C n κ:Nat} {val:Nat->Value} {R S:aq} {c:Frame} {cs:List Frame} {qt:Nat}
def an9(H:WgLib P L)(q:c.mode=.returning)(D:QuitsD P qt 0 (G c cs))(w:World)(v:WgLive L.tWg Wg w)(B:Has C (2*κ) (val (2*κ)) w)(o:Has C (2*κ+1) (val (2*κ+1)) w) :
  bB P false (iN L.tWg Wg C (2*n) R (dw κ)) (Gua Wg C (2*n) R (dw κ)) (afq P L.tWg Wg C n val κ) S (G ((baseD L.done).at ⟨#[.pointer (some ⟨Wg,0,none⟩),undef,undef,undef],[]⟩ [.code (body_done L)]) (c::cs)) w:=by
 have J:=doneN H (Own:=FF) (Rd:=FF) (Wg:=Wg) (C:=C) (n:=2*n) (Low:=0) (k:=2*κ+1) (val:=val (2*κ)) q D w ⟨v,B⟩;have K:=an8 (Wg:=Wg) (R:=RW L.tWg Wg C (2*n) 0 (2*κ+1-1)) (c:=c) (cs:=cs) H (λ_ _ h r=>r.live h) w v;have E:=alc (St:=AtR0 P L.tWg Wg C (2*n) 0 (2*κ+1) (val (2*κ))) (λw=>⟨λ_ _ _ _=>rfl,id,id,rfl⟩) (λa b c x y=>⟨λb o u z=>(y.low b o u z).trans (x.low b o u z),y.live∘x.live,y.pay∘x.pay,y.cell.trans x.cell⟩)
  (λg w h=>let⟨_,_,s,e,_⟩:=h;⟨s,e⟩) K J
 have t:∀{m:Nat} {g:Goroutine} {w:World},Has C (2*κ+1) (val (2*κ+1)) w->Goes P false (RW L.tWg Wg C (2*n) 0 (2*κ+1-1)) DC0 (AtR0 P L.tWg Wg C (2*n) 0 (2*κ+1) (val (2*κ))) m g w->
   bB P false (iN L.tWg Wg C (2*n) R (dw κ)) (Gua Wg C (2*n) R (dw κ)) (afq P L.tWg Wg C n val κ) S g w:=by
  have j:∀{w d:World},iN L.tWg Wg C (2*n) R (dw κ) S w d->RW L.tWg Wg C (2*n) 0 (2*κ+1-1) w d:=λf=>iN.rw (i:=2*κ) f (by show 2*κ / 2=κ;omega);have l:∀{w d:World},Has C (2*κ+1) (val (2*κ+1)) w->iN L.tWg Wg C (2*n) R (dw κ) S w d->Has C (2*κ+1) (val (2*κ+1)) d:=λh f=>(f.cell (2*κ+1) (by show(2*κ+1) / 2=κ;omega)).trans h;intro m
  induction m with
  |zero=>intro g w p h;exact .stop λd f=>⟨h d (j f),l p f⟩
  |succ m M=>
   intro g w p h;rcases h with h|⟨F,h⟩
   .exact .stop λd f=>⟨h d (j f),l p f⟩
   .refine .step F λd f=> ?_;obtain⟨s,A,N,e,⟨rfl,rfl⟩,I⟩:=goes_elim (h d (j f));exact⟨s,A,#[],S,e,⟨λ_ _ _ _=>rfl,ap _,rfl,id,λ_ _=>rfl,λ_ h=>h,λ_ h=>.inl h,by simp⟩,M (l p f) I⟩
 exact t o E
end
end
end Go.Proofs.YtlggbfanooejbaaGreatDoor