/- A part. -/
import Derived.Test.YtgjaikdifcbnkaaGreatDoorG9
import Derived.Conc.AppendWalk
import Derived.DuoClaim
import Derived.Conc.LeavingOf
import Derived.SizedLaws
set_option maxRecDepth 100000
set_option maxHeartbeats 8000000
set_option linter.all false
open Go Go.Conc Go.ConcN Go.RowKit Go.Proofs.Tryz Go.Proofs.YtgjaikdifcbnkaaGreatDoor
variable {T aZ:au} {Y b c i j n:Nat} {key:Int} {a:Addr} {V W w:World} {t:Trace} {v:Value} {f:FuncId} {P:Program} {l:List Int} {rest:List Nat} {g:Goroutine} {U:Array Oper} {X:Array Value} {R A:Option Addr} {es:Array Event} {S:Goroutine→World→Prop} {Z:Int→List iR→Int→ByteArray × Bool}
namespace Go.Proofs.YtgjaikdifcbnkaaGreatDoor
def vV:=@List.toArray_replicate
def wC:=@Bool.or_eq_false_iff
section
open Go.Conc Go.ConcN Go.RowKit Go.Conc.Lib Go.ConcR.Gen Go.ConcN.Gen
open Go.ConcR (KK wgBlock WgAt stA smA rd wr mk Payload DC0)
section
variable {P:Program} {R:World->World->Prop} {Q:World->Prop} {St:Goroutine->World->Prop}
def eR{main:Bool}(c:∀w d,Q w->R w d->Q d) :
  ∀{n:Nat} {g:Goroutine} {w:World},Q w->Goes P main R DC0 St n g w->Goes P main R DC0 (λg w=>St g w/\Q w) n g w
 |0,_,_,hq,h=>λa b=>⟨h a b,c _ _ hq b⟩
 |n+1,g,w,hq,h=>by
  rcases h with h|⟨f,h⟩
  .exact .inl λa b=>⟨h a b,c _ _ hq b⟩
  .refine .inr ⟨f,λa b=> ?_⟩;have:=h a b;cases e:stepG P main g a with
   |go k i j=>
    rw[e,tO] at this;rw[tO];exact⟨this.1,eR c (this.1.1▸c _ _ hq b) this.2⟩
   |_=>rw[e] at this;exact this.elim
def fE{main:Bool}(a:∀g w,St g w->S g w)(h:Goes P main R DC0 St n g w):Goes P main R DC0 S n g w:=nG (λ_ _ _ x=>x) a h
def jM(c:∀w a,Q w->R w a->Q a){e:Mark}{m:Nat}(b:Q w)(h:oK P R e m St g w):oK P R e m (λg w=>St g w/\Q w) g w:=
 ⟨h.1,let⟨f,d,k⟩:=h.2;⟨f,d,eR c b k⟩⟩
def abE(b:∀g w,St g w->S g w){e:Mark}{m:Nat}(h:oK P R e m St g w):oK P R e m S g w:=
 ⟨h.1,let⟨c,a,k⟩:=h.2;⟨c,a,fE b k⟩⟩
def anW{ty:TypeId}{Wg:Nat}(a:∀w d,Q w->R w d->Q d)(k:∀w v i,Q w->WgAt ty Wg w v 0->Q (w.setCell (stA Wg) (.int .u64 i)))(l:Q w)(h:ah8 P R ty Wg St g w):ah8 P R ty Wg (λg w=>St g w/\Q w) g w:=
 ⟨h.1,λv m c=>by
  obtain⟨p,e,n,f⟩:=h.2 v m c;have b:=k w _ ((v+1)*KK) l c;exact⟨p,e,λj=>fE (λg w x=>abE (λg w x=>jM a x.2 x.1) (jM a x.2 x.1)) (eR a b (n j)),λo=>fE (λg w x=>jM a x.2 x.1) (eR a b (f o))⟩⟩
end
section
variable [Payload] {P:Program} {L:WgLink} {Wg C n:Nat} {R S:au}
 {b₀:Frame} {a₀:Act} {ops₀:Array Oper} {i₀:Nat} {rest₀:List Nat} {k₀:List Item} {cs:List Frame}
def aw7{w' : World}(h:DC0 w w' es):Gua Wg C n R T S S w w' es:=by
 obtain⟨rfl,rfl⟩:=h;exact⟨λ_ _ _ _=>rfl,am _,rfl,id,λ_ _=>rfl,λ_ h=>h,λ_ h=>.inl h,by simp⟩
omit [Payload] in
def anX:(#[.pointer (some ⟨Wg,0,none⟩),.int .i64 1]:Array Value)++(List.replicate 115 undef).toArray=#[.pointer (some ⟨Wg,0,none⟩),.int .i64 1,undef,undef,undef,undef,undef,undef,undef,undef,undef,undef,undef,undef,undef,undef,undef,undef,undef,undef,undef,undef,undef,undef,undef,undef,undef,undef,undef,undef,undef,undef,undef,undef,undef,undef,undef,undef,undef,undef,undef,undef,undef,undef,undef,undef,undef,undef,undef,undef,undef,undef,undef,undef,undef,undef,undef,undef,undef,undef,undef,undef,undef,undef,undef,undef,undef,undef,undef,undef,undef,undef,undef,undef,undef,undef,undef,undef,undef,undef,undef,undef,undef,undef,undef,undef,undef,undef,undef,undef,undef,undef,undef,undef,undef,undef,undef,undef,undef,undef,undef,undef,undef,undef,undef,undef,undef,undef,undef,undef,undef,undef,undef,undef,undef,undef,undef]:=by
 simp[List.replicate]
def anY (H:WgLib P L) {val:Nat->Value} {d:au->Goroutine->World->Prop} {Q:World->Prop} (e:∀w i,Q w->RM L.tWg Wg C n R S w i->Q i) (q:∀w v l,Q w->WgAt L.tWg Wg w v 0->Q (w.setCell (stA Wg) (.int .u64 l)))
  (s:∀w,WgLive L.tWg Wg w->Q w->bK P true (jN L.tWg Wg C (2*n) R noC) (Gua Wg C (2*n) R noC) (MGo P L.tWg Wg C n val j d R) S (G (b₀.at (a₀.put ((ops₀[i₀]?).bind (·.dst)) (.tuple #[])) (.inRegion ops₀ rest₀::k₀)) cs) w)
  (w:World) (u:WgLive L.tWg Wg w) (f:Q w) :
  bK P true (jN L.tWg Wg C (2*n) R noC) (Gua Wg C (2*n) R noC) (λS g w=>apX P L.tWg Wg C n val j d R S g w) S
   (G ((base L.add).at ⟨#[.pointer (some ⟨Wg,0,none⟩),.int .i64 1]++(List.replicate 115 undef).toArray,[]⟩ [.code (body_add L)]) (b₀.at a₀ (.inRegion ops₀ (i₀::rest₀)::k₀)::cs)) w:=by
 rw[anX];have t:=apY (b₀:=b₀) (a₀:=a₀) (ops₀:=ops₀) (i₀:=i₀) (rest₀:=rest₀) (k₀:=k₀) (cs:=cs) (R:=RM L.tWg Wg C n R S) (S:=λg w=>g=G (b₀.at (a₀.put ((ops₀[i₀]?).bind (·.dst)) (.tuple #[])) (.inRegion ops₀ rest₀::k₀)) cs/\WgLive L.tWg Wg w) H (λ_ _ h r=>r.live h) (λ_ h=>⟨rfl,h⟩) w u;have m:=fE (λg w x=>abE (λg w x=>anW e q x.2 x.1) (jM e x.2 x.1)) (eR (Q:=Q) e f t);refine bK.abF (R:=RM L.tWg Wg C n R S) (λ_ _ h=>h) (λ_ _ _ h=>aw7 h) (λ_ _ h=>aw8 (λg w p=> ?_) h) m;refine bK.bind (λS w=>jN.refl R noC S w) (λS a b c=>jN.trans) (bK.abF (S:=S) (R:=RM L.tWg Wg C n R S) (Stop:=λk g w=>k=S/\(g=G (b₀.at (a₀.put ((ops₀[i₀]?).bind (·.dst)) (.tuple #[])) (.inRegion ops₀ rest₀::k₀)) cs/\WgLive L.tWg Wg w)/\Q w) (λ_ _ h=>h) (λ_ _ _ h=>aw7 h) (λ_ _ h=>⟨rfl,h⟩) p) ?_;rintro k g w ⟨rfl,⟨rfl,o⟩,f⟩;exact s w o f
end
end
section
open Go.Conc Go.ConcN Go.RowKit
open Go.ConcR (KK wgBlock WgAt stA smA rd wr mk Payload DC0)
noncomputable def abG:Code:=f57.body.getD .skip
noncomputable def afT:Array Oper:=uA (lr abG)
noncomputable def ac6:Array Oper:=uA (lr (cu abG))
noncomputable def oA:Array Oper:=uA (lr (cu (cu abG)))
noncomputable def avR:Code:=lr (cu (cu (cu abG)))
noncomputable def afU:Array Oper:=uA (lr avR)
def aw9:Code->Code
 |.block _ (.loop c)=>c
 |c=>c
def atn:Code->Code
 |.block _ c=>c
 |c=>c
noncomputable def jv:Code:=aw9 (cu avR)
noncomputable def apZ:Array Oper:=uA (lr jv)
noncomputable def akm:Code:=atn (lr (cu (cu jv)))
noncomputable def abH:Array Oper:=uA (lr akm)
noncomputable def aaz:Array Oper:=uA (lr (cu akm))
noncomputable def ml:Array Oper:=uA (cu (cu akm))
noncomputable def ah9:Array Oper:=uA (cu (cu (cu jv)))
noncomputable def jO:Array Oper:=uA (lr (cu (cu (cu (cu abG)))))
def ap0:abG=.seq (.region 0 afT false) (.seq (.region 1 ac6 false) (.seq (.region 2 oA false) (.seq (.seq (.region 3 afU false) (.block 0 (.loop jv))) (.seq (.region 9 jO false) cU)))):=rfl
def afV:jv=.seq (.region 4 apZ false) (.seq (.cond (.tmp 21) .skip (.exit 0)) (.seq (.block 1 (.seq (.region 5 abH false) (.seq (.region 6 aaz false) (.region 7 ml false)))) (.region 8 ah9 false))):=rfl
def aBZ:∃p a,afT[0]?=some ⟨some 3,.box 3 (.tmp 0),0,p,a,none⟩:=⟨_,_,rfl⟩
def aB0:∃p a,afT[1]?=some ⟨some 4,.box 23 (.tmp 1),0,p,a,none⟩:=⟨_,_,rfl⟩
def aB1:∃p a,afT[2]?=some ⟨some 6,.assign (.const (.slice none 0 0)),89,p,a,none⟩:=⟨_,_,rfl⟩
def aB2:∃p a,afT[3]?=some ⟨some 7,.assign (.const (.bool false)),4,p,a,none⟩:=⟨_,_,rfl⟩
def aB3:∃p a,ac6[0]?=some ⟨some 15,.move (.tmp 2),98,p,a,none⟩:=⟨_,_,rfl⟩
def aB4:∃p a,ac6[1]?=some ⟨some 16,.call ⟨.builtin .len,#[.tmp 15],#[98]⟩,3,p,a,none⟩:=⟨_,_,rfl⟩
def aB5:∃p a,ac6[2]?=some ⟨some 17,.makeSlice 127 (.tmp 16) (.tmp 16),127,p,a,none⟩:=⟨_,_,rfl⟩
def aB6:∃p a,ac6[3]?=some ⟨some 8,.alloc 127,0,p,a,none⟩:=⟨_,_,rfl⟩
def aB7:∃p a,ac6[4]?=some ⟨none,.store 127 (.tmp 8) (.tmp 17),0,p,a,none⟩:=⟨_,_,rfl⟩
def aB8:∃p a,oA[0]?=some ⟨some 9,.alloc eN.tWg,0,p,a,none⟩:=⟨_,_,rfl⟩
def aB9:∃p a,afU[0]?=some ⟨some 18,.move (.tmp 2),98,p,a,none⟩:=⟨_,_,rfl⟩
def aCa:∃p a,afU[1]?=some ⟨some 19,.call ⟨.builtin .len,#[.tmp 18],#[98]⟩,3,p,a,none⟩:=⟨_,_,rfl⟩
def aCb:∃p a,afU[2]?=some ⟨some 20,.move (.const (.int .i64 0)),3,p,a,none⟩:=⟨_,_,rfl⟩
def aCc:∃p a,apZ[0]?=some ⟨some 21,.binOp .lss 3 (.tmp 20) (.tmp 19) 3,0,p,a,none⟩:=⟨_,_,rfl⟩
def aCd:∃p a,abH[0]?=some ⟨some 22,.move (.tmp 20),3,p,a,none⟩:=⟨_,_,rfl⟩
def aCe:∃p a,abH[1]?=some ⟨some 23,.indexAddr 98 (.tmp 18) (.tmp 20),0,p,a,none⟩:=⟨_,_,rfl⟩
def aCf:∃p a,abH[2]?=some ⟨some 24,.load 3 (.tmp 23),3,p,a,none⟩:=⟨_,_,rfl⟩
def aCg:∃p a,abH[3]?=some ⟨some 10,.alloc 3,0,p,a,none⟩:=⟨_,_,rfl⟩
def aCh:∃p a,abH[4]?=some ⟨some 11,.alloc 3,0,p,a,none⟩:=⟨_,_,rfl⟩
def aCi:∃p a,abH[5]?=some ⟨none,.store 3 (.tmp 10) (.tmp 22),0,p,a,none⟩:=⟨_,_,rfl⟩
def aCj:∃p a,abH[6]?=some ⟨none,.store 3 (.tmp 11) (.tmp 24),0,p,a,none⟩:=⟨_,_,rfl⟩
def azh:∃p a,aaz[0]?=some ⟨some 25,.call ⟨.value (.func eN.add),#[.tmp 9,.const (.int .i64 1)],#[eN.tWg,3]⟩,0,p,a,none⟩:=⟨_,_,rfl⟩
def aCk:∃p a,ml[0]?=some ⟨some 26,.makeFunc (.func nCl) #[] #[.tmp 9,.tmp 3,.tmp 4,.tmp 11,.tmp 8,.tmp 10],1,p,a,none⟩:=⟨_,_,rfl⟩
def aCl:∃p a,ml[1]?=some ⟨none,.go ⟨.value (.tmp 26),#[],#[]⟩,0,p,a,none⟩:=⟨_,_,rfl⟩
def aCm:∃p a,ah9[0]?=some ⟨some 27,.binOp .add 3 (.tmp 20) (.const (.int .i64 1)) 3,3,p,a,none⟩:=⟨_,_,rfl⟩
def aCn:∃p a,ah9[1]?=some ⟨some 20,.move (.tmp 27),3,p,a,none⟩:=⟨_,_,rfl⟩
def azi:∃p a,jO[0]?=some ⟨some 28,.call ⟨.value (.func eN.wait),#[.tmp 9],#[eN.tWg]⟩,0,p,a,none⟩:=⟨_,_,rfl⟩
def wT  :seen P f #[]=#[]:=by
 rw[Array.eq_empty_iff_size_eq_zero];rcases h:(seen P f #[]).size with _|n
 .rfl
 .exact(abI _ (Array.getElem_mem (xs:=seen P f #[]) (i:=0) (by omega))).elim
def ato{T:Array Value}{k:List Item}{xs base:List Frame}(h:T.getD 26 undef=.func (.func nCl) #[] X) :
  stepG prog true (Gl (FQ cF T (.inRegion ml [1]::k)::xs) base) w=.spawn (Gl (FQ cF T (.inRegion ml []::k)::xs) base) (born prog ⟨.fn (.func nCl) X,#[]⟩) w #[]:=by
 obtain⟨p,a,e⟩:=aCl;have b:(execOp (Frame.eval (FQ cF T (.inRegion ml [1]::k))) ⟨none,.go ⟨.value (.tmp 26),#[],#[]⟩,0,p,a,none⟩).runT prog w #[]=(.ok (.spawn ⟨.fn (.func nCl) X,#[]⟩) w,#[]):=by
  have i:Frame.eval (FQ cF T (.inRegion ml [1]::k)) (.tmp 26)=.func (.func nCl) #[] X:=h;simp only[execOp,resolve,i];simp[Deferred.ofValue]
 have f:∀y,Region.wanted ⟨none,.go ⟨.value (.tmp 26),#[],#[]⟩,0,p,a,none⟩ y=true:=λy=>rfl;have g:stepG prog true (Gl (FQ cF T (.inRegion ml [1]::k)::xs) base) w =
   stepG.apply prog true (FQ cF T (.inRegion ml [1]::k)) (xs++base) none (execOp (Frame.eval (FQ cF T (.inRegion ml [1]::k))) ⟨none,.go ⟨.value (.tmp 26),#[],#[]⟩,0,p,a,none⟩) w:=by
  simp[Gl,stepG,stepG.exec,stepG.oper,Frame.oper?,e,f]
 rw[g];unfold stepG.apply;simp only[b,pv];have d:(CallKind.normal ==CallKind.early)=false:=rfl;simp[GStep.after,d,Gl,Frame.finish,e,born,wT]
section
variable {P:Program} {w:World} {e:Operand->Value} {x y:Operand} {v:Value} {dst:Option Tmp} {t ty:TypeId} {pos:String} {af:Array Edge} {gd:Option (Nat×Bool)}
def ap1(h:e x=v)(a:v.cells=#[v]):(execOp e ⟨dst,.box t x,ty,pos,af,gd⟩).runT P w #[]=(.ok (.value (.pointer (some ⟨w.heap.size,0,none⟩))) (w.alloc (.cells #[v] t)),#[]):=by
 simp[execOp,Instr.box,newVar,newRow,h,a]
def afW(h:e x=v):(execOp e ⟨dst,.assign x,ty,pos,af,gd⟩).runT P w #[]=(.ok (.value v) w,#[]):=by
 simp[execOp,h]
def aac{i:TypeInfo}(hi:P.info? t=some i)(a:i.zero=some v):(execOp e ⟨dst,.alloc t,ty,pos,af,gd⟩).runT P w #[]=(.ok (.value (.pointer (some ⟨w.heap.size,0,none⟩))) (w.alloc (.cells v.cells t)),#[]):=by
 simp[execOp,Instr.alloc,zeroValue,typeInfo,hi,a,newVar,newRow]
def afX{i:TypeInfo}{A:Addr}{u:Value}(hi:P.info? t=some i)(n:i.size=1)(k:akn v=true)(a:v.cells=#[v])(m:e x=.pointer (some A))(j:e y=v)(l:w.cell? A=some u)(d:w.frozen? A=false) :
  (execOp e ⟨dst,.store t x y,ty,pos,af,gd⟩).runT P w #[]=(.ok .skip (w.setCell A v),#[⟨.cell A,true,false⟩]):=by
 have b:(storeCells A [v] 0).runT P w #[]=(.ok () (w.setCell A v),#[⟨.cell A,true,false⟩]):=by
  show(Sem.store .plain (A.add 0) v (Sem.pure ())).runT P w #[]=_;have f:A.add 0=A:=by unfold Addr.add;simp
  rw[f,aaP k l d];rfl
 have c:(storeCells A [v] 0).run P w=.ok () (w.setCell A v):=by
  rw[<-ry _ _ _ #[]];exact jt Prod.fst b
 have g:(storeCells A [v] 0).events P w #[]=#[⟨.cell A,true,false⟩]:=jt Prod.snd b;simp[execOp,m,j,Instr.storeAt,Instr.sureAddr,storeVar,sizeOf,typeInfo,hi,n,a,c,g]
def aia(F:FaT P){s:Tmp}(h:e (.tmp s)=.slice A n c):(execOp e ⟨dst,.call ⟨.builtin .len,#[.tmp s],#[98]⟩,ty,pos,af,gd⟩).runT P w #[]=(.ok (.value (.int .i64 n)) w,#[]):=by
 rw[pq (s:=λv=>Builtin.len_ #[98] ty #[v]) λ_ v=>rfl,h];change Sem.runT P (Builtin.len_ #[98] ty #[.slice A n c] >>=λu=>pure (Next.value u)) w #[]=_;simp[Builtin.len_,mu F.u31,goInt]
def aib{fn:Fn}{a:Array Operand}(h:a.map e=X):(execOp e ⟨dst,.makeFunc fn #[] a,ty,pos,af,gd⟩).runT P w #[]=(.ok (.value (.func fn #[] X)) w,#[]):=by
 simp[execOp,Instr.makeFunc,h]
def atp(F:FaT P)(m:(n:Int)<=2147483647)(b:e x=.int .i64 n):∃c:Array Value,c.size=2*n/\(execOp e ⟨dst,.makeSlice 127 x x,ty,pos,af,gd⟩).runT P w #[]=(.ok (.value (.slice (some ⟨w.heap.size,0,none⟩) n n)) (w.alloc (.cells c 140)),#[]):=by
 obtain⟨c,k,g⟩:=amC F (w:=w) (dst:=dst) (ty:=ty) (pos:=pos) (af:=af) (gd:=gd) m b;refine⟨c,k,Prod.ext ((ry _ _ _ _).trans g) ?_⟩;obtain⟨i,l,o,a,f⟩:=F.adD;have d:=events_make w 127 140 i _ F.agN l f .i64 .i64 n n (by omega) (vg _) (by rw[a];omega) (by omega) (by rw[a];omega) #[];show(execOp e ⟨dst,.makeSlice 127 x x,ty,pos,af,gd⟩).events P w #[]=#[];have j:execOp e ⟨dst,.makeSlice 127 x x,ty,pos,af,gd⟩=(Instr.makeSlice 127 (e x) (e x)).bind λv=>Sem.pure (.value v):=rfl;rw[j,b,Sem.events_bind',d];cases(Instr.makeSlice 127 (.int .i64 n) (.int .i64 n)).run P w<;>rfl
def atq{a:Int}{y:Operand}(d:e x=.int .i64 a)(c:e y=.int .i64 1)(g:0<=a)(f:a<2147483647):(execOp e ⟨dst,.binOp .add 3 x y 3,ty,pos,af,gd⟩).runT P w #[]=(.ok (.value (.int .i64 (a+1))) w,#[]):=by
 have:execOp e ⟨dst,.binOp .add 3 x y 3,ty,pos,af,gd⟩=(binOp .add 3 (e x) (e y)).bind λv=>Sem.pure (.value v):=rfl;rw[this,d,c];have b:IntKind.i64.wrap (a+1)=a+1:=by rw[uI];omega
 show(Result.ok (Next.value (.int .i64 (IntKind.i64.wrap (a+1)))) w,#[])=_;rw[b]
end
end
section
open Go.Conc Go.ConcN Go.RowKit
section
variable {Rl:au->World->World->Prop} {St:au->Goroutine->World->Prop} {S Rr:au} {w0:World} {T:Array Value} {k:List Item} {xs base:List Frame}
structure Kp (S Rr:au) (w0:World) (S':au) (w':World):Prop where
 keep:∀b,b<w0.heap.size->S b\/Rr b->w'.heap[b]?=w0.heap[b]?
 size:w0.heap.size<=w'.heap.size
 os:w'.ou=w0.ou
 mono:∀b,S b->S' b
 new:∀b,S' b->S b\/(w0.heap.size<=b/\b<w'.heap.size)
def Kp.rl(H:pw Rl Rr)(h:Rl S w0 V):Kp S Rr w0 S V:=let⟨a,b,c⟩:=H.rl _ _ _ h;⟨λx _ d=>a x d,b,c,λ_ h=>h,λ_ h=>.inl h⟩
def Kp.alloc(S Rr:au)(w:World)(ob:Obj):Kp S Rr w (SN S w (w.alloc ob)) (w.alloc ob):=
 ⟨λb a _=>rI w _ b a,by rw[mx];omega,rfl,λ_ h=>.inl h,λ_ h=>h⟩
def Kp.trans{c : au}{w2 : World}(a:Kp S Rr w0 aZ V)(b:Kp aZ Rr V c w2):Kp S Rr w0 c w2:=
 ⟨λx d h=>(b.keep x (bd d a.size) (h.imp (a.mono x) id)).trans (a.keep x d h),ap a.size b.size,b.os.trans a.os,λx h=>b.mono x (a.mono x h),λx h=>(b.new x h).elim (λh=>(a.new x h).imp id λh=>⟨h.1,bd h.2 b.size⟩) λh=>.inr ⟨ap a.size h.1,h.2⟩⟩
def kW(w:World)(ob:Obj):(w.alloc ob).heap[w.heap.size]?=some ob:=by
 show(w.heap.push _)[_]?=_;rw[qZ]
def lu(S:au)(w:World)(ob:Obj):SN S w (w.alloc ob) w.heap.size:=.inr ⟨am _,by rw[mx];omega⟩
def atr (H:pw Rl Rr) (hZ:45<=Y) (hz:T.size=Y)   (N:T.getD 0 undef=.int .i64 key) (P:T.getD 1 undef=.slice A n c)
  (K:∀(T':Array Value) (i:au) (e:World) (f g:Nat),T'.size=Y->(∀t,t≠3->t≠4->t≠6->t≠7->T'.getD t undef=T.getD t undef)->T'.getD 3 undef=.pointer (some ⟨f,0,none⟩)->T'.getD 4 undef=.pointer (some ⟨g,0,none⟩)->
   T'.getD 6 undef=.slice none 0 0->T'.getD 7 undef=.bool false->Kp S Rr w0 i e->i f->i g->w0.heap.size<=f->f<g->e.heap[f]?=some (.cells #[.int .i64 key] 3)->e.heap[g]?=some (.cells #[.slice A n c] 23)->bK prog true Rl (px Rr) St i (Gl (FQ cF T' k::xs) base) e) :
  bK prog true Rl (px Rr) St S (Gl (FQ cF T (.inRegion afT [0,1,2,3]::k)::xs) base) w0:=by
 obtain⟨p0,a0,y⟩:=aBZ;obtain⟨p1,a1,G⟩:=aB0;obtain⟨X,a2,D⟩:=aB1;obtain⟨W,a3,V⟩:=aB2;refine mZ H (d:=3) (ob:=.cells #[.int .i64 key] 3) (by show(3:Nat)<_;omega) y rfl rfl (λw=>ap1 (x:=.tmp 0) N rfl) (λa I T1 z1 B s=> ?_) w0 (H.fU _ _);refine mZ H (d:=4) (ob:=.cells #[.slice A n c] 23) (by show(4:Nat)<_;omega) G rfl rfl (λw=>ap1 (x:=.tmp 1) ((s 1 (by decide)).trans P) rfl) (λb z T2 z2 F u=> ?_);refine bP H.cmp (d:=6) (v:=.slice none 0 0) (es:=#[]) (by show(6:Nat)<_;omega) D rfl rfl (λw _=>afW rfl) (λw _=>bD _) (λT3 z3 M l=> ?_);refine bP H.cmp (d:=7) (v:=.bool false) (es:=#[]) (by show(7:Nat)<_;omega) V rfl rfl (λw _=>afW rfl) (λw _=>bD _) (λE Z U j=> ?_);refine iu H.cmp λe m=> ?_;have r:=Kp.rl H I;have J:=Kp.alloc S Rr a (.cells #[.int .i64 key] 3);have q:=Kp.rl H z;have p:=Kp.alloc (SN S a (a.alloc (.cells #[.int .i64 key] 3))) Rr b (.cells #[.slice A n c] 23);have o:=Kp.rl H m;have s1:(a.alloc (.cells #[.int .i64 key] 3)).heap.size=a.heap.size+1:=mx _ _;have s2:(b.alloc (.cells #[.slice A n c] 23)).heap.size=b.heap.size+1:=mx _ _;have Q:=r.size;have g2:=q.size;refine K E _ e a.heap.size b.heap.size (by omega) (λt O L C R=> ?_) ?_ ?_ ?_ U ((((r.trans J).trans q).trans p).trans o) (p.mono _ (lu S a _)) (lu _ b _) Q (by omega) ?_ ?_
 .rw[j t R,l t C,u t L,s t O]
 .rw[j 3 (by decide),l 3 (by decide),u 3 (by decide),B]
 .rw[j 4 (by decide),l 4 (by decide),F]
 .rw[j 6 (by decide),M]
 .rw[((q.trans p).trans o).keep a.heap.size (by omega) (.inl (lu S a _)),kW]
 .rw[o.keep b.heap.size (by omega) (.inl (lu _ b _)),kW]
end
section
variable {P:Program} {main:Bool} {Rl:au->World->World->Prop} {St:au->Goroutine->World->Prop} {S Rr:au} {w0:World} {f:FuncId} {T:Array Value} {k:List Item} {xs base:List Frame}
def axa (H:pw Rl Rr)   {o:Oper} {d:Tmp} {Q:Value->Obj->World->Prop} (l:d<T.size) (m:U[i]?=some o) (s:o.guard=none) (g:o.dst=some d)
  (p:∀w,∃v ob,Q v ob w/\(execOp (FQ f T (.inRegion U (i::rest)::k)).eval o).runT P w #[]=(.ok (.value v) (w.alloc ob),#[]))
  (x:∀w,Rl S w0 w->∀v ob,Q v ob w->∀T':Array Value,T'.size=T.size->T'.getD d undef=v->(∀t,t≠d->T'.getD t undef=T.getD t undef)->∀a,Rl (SN S w (w.alloc ob)) (w.alloc ob) a->bK P main Rl (px Rr) St (SN S w (w.alloc ob)) (Gl (FQ f T' (.inRegion U rest::k)::xs) base) a) :
  ∀w,Rl S w0 w->bK P main Rl (px Rr) St S (Gl (FQ f T (.inRegion U (i::rest)::k)::xs) base) w:=λw n=>by
 refine .step rfl λa j=> ?_;have u:=H.tr _ _ _ _ n j;obtain⟨v,ob,y,c⟩:=p a;refine⟨_,_,_,_,amD rfl rfl rfl rfl m s c,⟨λb r _=>rI a _ b r,by rw[mx];omega,rfl,rfl,λe z=>by cases(by simpa using tp z:False)⟩, ?_⟩;have:Frame.finish (FQ f T (.inRegion U (i::rest)::k)) v=FQ f (T.setIfInBounds d v) (.inRegion U rest::k):=by
  simp only[Frame.finish,m,qM,g]
 rw[this];exact x a u _ _ y _ (by simp) (by rw[aI l,eg rfl]) (λt q=>by rw[aI l,da q]) _ (H.fU _ _)
end
section
variable {w:World} {b:Nat} {u v:Value} {t:TypeId}
def tT(h:w.heap[b]?=some (.cells #[u] t)):w.cell? ⟨b,0,none⟩=some u/\w.frozen? ⟨b,0,none⟩=false:=by
 constructor
 .simp[World.cell?,h]
 .simp[World.frozen?,h]
def wR(h:w.heap[b]?=some (.cells #[u] t)):(w.setCell ⟨b,0,none⟩ v).heap[b]?=some (.cells #[v] t):=by
 simp[World.setCell,pm,h]
end
section
variable {Rl:au->World->World->Prop} {St:au->Goroutine->World->Prop} {S Rr:au} {w0:World} {T:Array Value} {k:List Item} {xs base:List Frame}
def att (H:pw Rl Rr) (hZ:45<=Y) (hz:T.size=Y)  (hn:(n:Int)<=2147483647) (h2:T.getD 2 undef=.slice A n c)
  (K:∀(T':Array Value) (q:au) (m:World) (C D:Nat) (g:Array Value),T'.size=Y->(∀t,t≠15->t≠16->t≠17->t≠8->T'.getD t undef=T.getD t undef)->T'.getD 8 undef=.pointer (some ⟨D,0,none⟩)->T'.getD 17 undef=.slice (some ⟨C,0,none⟩) n n->
   Kp S Rr w0 q m->q C->q D->w0.heap.size<=C->C<D->g.size=2*n->m.heap[C]?=some (.cells g 140)->m.heap[D]?=some (.cells #[.slice (some ⟨C,0,none⟩) n n] 127)->bK prog true Rl (px Rr) St q (Gl (FQ cF T' k::xs) base) m) :
  bK prog true Rl (px Rr) St S (Gl (FQ cF T (.inRegion ac6 [0,1,2,3,4]::k)::xs) base) w0:=by
 obtain⟨p0,a0,X⟩:=aB3;obtain⟨p1,a1,e1⟩:=aB4;obtain⟨p2,a2,e2⟩:=aB5;obtain⟨p3,a3,e3⟩:=aB6;obtain⟨p4,a4,e4⟩:=aB7;obtain⟨U,R,G,M⟩:=faT.i247;refine bP H.cmp (d:=15) (v:=.slice A n c) (es:=#[]) (by show(15:Nat)<_;omega) X rfl rfl (λw _=>fF (x:=.tmp 2) h2) (λw _=>bD _) (λT1 z1 v1 r1=> ?_) w0 (H.fU _ _);refine bP H.cmp (d:=16) (v:=.int .i64 n) (es:=#[]) (by show(16:Nat)<_;omega) e1 rfl rfl (λw _=>aia faT (s:=15) v1) (λw _=>bD _) (λT2 z2 v2 r2=> ?_);refine axa H (d:=17) (Q:=λv ob w=>v=.slice (some ⟨w.heap.size,0,none⟩) n n/\∃g:Array Value,g.size=2*n/\ob=.cells g 140) (by show(17:Nat)<_;omega) e2 rfl rfl (λw=> ?_) (λa ha vv ob hq T3 z3 v3 Z=> ?_)
 .obtain⟨g,r,hr⟩:=atp faT (w:=w) (x:=.tmp 16) (e:=Frame.eval (FQ cF T2 (.inRegion ac6 [2,3,4]::k))) hn v2;exact⟨_,_,⟨rfl,g,r,rfl⟩,hr⟩
 obtain⟨rfl,g,L,rfl⟩:=hq;refine mZ H (d:=8) (ob:=.cells #[.slice none 0 0] 127) (by show(8:Nat)<_;omega) e3 rfl rfl (λw=>aac R M) (λf E P z4 W V=> ?_);have p:P.getD 17 undef=.slice (some ⟨a.heap.size,0,none⟩) n n:=by rw[V 17 (by decide),v3]
 have s1:(a.alloc (.cells g 140)).heap.size=a.heap.size+1:=mx _ _;have s2:(f.alloc (.cells #[.slice none 0 0] 127)).heap.size=f.heap.size+1:=mx _ _;have O:=Kp.rl H ha;have kb:=Kp.alloc S Rr a (.cells g 140);have N:=Kp.rl H E;have z:=Kp.alloc (SN S a (a.alloc (.cells g 140))) Rr f (.cells #[.slice none 0 0] 127);have g1:=O.size;have g2:=N.size;have i:=lu (SN S a (a.alloc (.cells g 140))) f (.cells #[.slice none 0 0] 127);have J:∀{w},Rl (SN (SN S a (a.alloc (.cells g 140))) f (f.alloc (.cells #[.slice none 0 0] 127))) (f.alloc (.cells #[.slice none 0 0] 127)) w->w.heap[f.heap.size]?=some (.cells #[.slice none 0 0] 127):=λ{w} h=>by
  rw[(Kp.rl H h).keep f.heap.size (by omega) (.inl i),kW]
 refine aer H.cmp (A:=⟨f.heap.size,0,none⟩) (u:=.slice (some ⟨a.heap.size,0,none⟩) n n) e4 rfl rfl (λw h=>afX (x:=.tmp 8) (y:=.tmp 17) R G rfl rfl W p (tT (J h)).1 (tT (J h)).2) i (λw h=>abJ i (by have:=(Kp.rl H h).size;show f.heap.size<_;omega)) (λB r w1 cN=> ?_);refine iu H.cmp (λm F=> ?_) w1 cN;have I:=Kp.rl H r;have o:=Kp.rl H F;have g3:=I.size;have a5:(B.setCell ⟨f.heap.size,0,none⟩ (.slice (some ⟨a.heap.size,0,none⟩) n n)).heap.size=B.heap.size:=be _ _ _;have j:∀b,b≠f.heap.size->(B.setCell ⟨f.heap.size,0,none⟩ (.slice (some ⟨a.heap.size,0,none⟩) n n)).heap[b]?=B.heap[b]?:=λb h=>bu _ _ _ (λe=>h e.symm);have l:=((O.trans kb).trans N).trans (z.trans I);have g4:=o.size;refine K P _ m a.heap.size f.heap.size g (by omega) (λt q1 q2 q3 q4=> ?_) W p ⟨λb E h=> ?_,by have:=l.size;omega, ?_,l.mono,λb h=>(l.new b h).imp id λh=>⟨h.1,by omega⟩⟩ (z.mono _ (lu S a _)) i g1 (by omega) L ?_ ?_
 .rw[V t q4,Z t q3,r2 t q2,r1 t q1]
 .exact(o.keep b (by have:=l.size;omega) (h.imp (l.mono b) id)).trans ((j b (by omega)).trans (l.keep b E h))
 .exact o.os.trans l.os
 .exact(o.keep a.heap.size (by omega) (.inl (z.mono _ (lu S a _)))).trans ((j _ (by omega)).trans (((N.trans (z.trans I)).keep a.heap.size (by omega) (.inl (lu S a _))).trans (kW a _)))
 .exact(o.keep f.heap.size (by omega) (.inl i)).trans (wR (J r))
end
end
section
open Go.Conc Go.ConcN Go.RowKit
open Go.ConcR (KK wgBlock WgAt stA smA rd wr mk Payload DC0)
def ap2:(prog.info? eN.tWg).map (λi=>i.zero.map (·.cells))=some (some #[.int .u64 0,.int .u32 0]):=by kernel_rfl
def atu:∃i z,prog.info? eN.tWg=some i/\i.zero=some z/\z.cells=#[.int .u64 0,.int .u32 0]:=by
 have h:=ap2;cases b:prog.info? eN.tWg with
 |none=>rw[b] at h;cases h
 |some i=>
  rw[b] at h;cases a:i.zero with
  |none=>simp[a] at h
  |some z=>
   simp only[qs,a,mt] at h;exact⟨i,z,rfl,a,h⟩
def jw{o:Obj}(h:w.heap[b]?=some o):b<w.heap.size:=(dl.1 h).1
noncomputable def gQ:Code:=.seq (.seq (.region 3 afU false) (.block 0 (.loop jv))) (.seq (.region 9 jO false) cU)
section
variable {Rl:au->World->World->Prop} {St:au->Goroutine->World->Prop} {S Rr:au} {w0:World} {T:Array Value} {k:List Item} {xs base:List Frame}
def ako (H:pw Rl Rr) (E:45<=Y) (O:T.size=Y)   (hn:(b:Int)<=2147483647) (h0:T.getD 0 undef=.int .i64 key) (h1:T.getD 1 undef=.slice A n c) (F:T.getD 2 undef=.slice R b i)
  (K:∀(T':Array Value) (x:au) (g:World) (e d C j:Nat) (o:Array Value),T'.size=Y->(∀t,(t<3\/aaA t=true)->T'.getD t undef=T.getD t undef)->
   T'.getD 3 undef=.pointer (some ⟨e,0,none⟩)/\T'.getD 4 undef=.pointer (some ⟨d,0,none⟩)/\T'.getD 6 undef=.slice none 0 0/\T'.getD 7 undef=.bool false/\T'.getD 8 undef=.pointer (some ⟨j,0,none⟩)/\T'.getD 17 undef=.slice (some ⟨C,0,none⟩) b b->
   Kp S Rr w0 x g->w0.heap.size<=e/\e<d/\d<C/\C<j->g.heap[e]?=some (.cells #[.int .i64 key] 3)->g.heap[d]?=some (.cells #[.slice A n c] 23)->o.size=2*b->g.heap[C]?=some (.cells o 140)->g.heap[j]?=some (.cells #[.slice (some ⟨C,0,none⟩) b b] 127)->
   bK prog true Rl (px Rr) St x (Gl (FQ cF T' (.code (.region 2 oA false) :: .code gQ::k)::xs) base) g) :
  bK prog true Rl (px Rr) St S (Gl (FQ cF T (.code abG::k)::xs) base) w0:=by
 rw[ap0];refine eG H.cmp (fY H.cmp (l:=[0,1,2,3]) rfl λwa U=>atr H E O h0 h1 λT1 S1 w1 e d M B t3 G J I k1 L sp lk N ck y=> ?_) w0 (H.fU _ _);refine eG H.cmp (fY H.cmp (l:=[0,1,2,3,4]) rfl λwb w=>att H E M hn ((B 2 (by decide) (by decide) (by decide) (by decide)).trans F) λT2 S2 w2 C j o z2 m t8 q P V Q lC la u X D=> ?_) w1 (H.fU _ _);refine eG H.cmp (λwc Z=> ?_) w2 (H.fU _ _);have z:=Kp.rl H U;have s:=(Kp.rl H w).trans P;have f:=Kp.rl H Z;have a1:=jw y;have a0:=jw D;have g1:=z.size;have g2:=(Kp.rl H w).size;have g3:=f.size;refine K T2 S2 wc e d C j o z2 (λt a=> ?_) ⟨?_, ?_, ?_, ?_,t8,q⟩ (((z.trans k1).trans s).trans f) ⟨by omega,N,by omega,la⟩ ?_ ?_ u ?_ ?_
 .have p:t≠15:=by rintro rfl;exact absurd a (by decide)
  have r:t≠16:=by rintro rfl;exact absurd a (by decide)
  have v:t≠17:=by rintro rfl;exact absurd a (by decide)
  have e8:t≠8:=by rintro rfl;exact absurd a (by decide)
  have e3:t≠3:=by rintro rfl;exact absurd a (by decide)
  have W:t≠4:=by rintro rfl;exact absurd a (by decide)
  have e6:t≠6:=by rintro rfl;exact absurd a (by decide)
  have e7:t≠7:=by rintro rfl;exact absurd a (by decide)
  rw[m t p r v e8,B t e3 W e6 e7]
 .rw[m 3 (by decide) (by decide) (by decide) (by decide),t3]
 .rw[m 4 (by decide) (by decide) (by decide) (by decide),G]
 .rw[m 6 (by decide) (by decide) (by decide) (by decide),J]
 .rw[m 7 (by decide) (by decide) (by decide) (by decide),I]
 .rw[(s.trans f).keep e (by omega) (.inl L),ck]
 .rw[(s.trans f).keep d (by omega) (.inl sp),y]
 .rw[f.keep C (by omega) (.inl V),X]
 .rw[f.keep j (by omega) (.inl Q),D]
end
end
section
open Go.Conc Go.ConcN Go.RowKit
section
variable {Rl:au->World->World->Prop} {St:au->Goroutine->World->Prop} {S Rr:au} {w0:World} {T:Array Value} {k:List Item} {xs base:List Frame}
def atv (H:pw Rl Rr) (G:45<=Y) (E:T.size=Y)  (i:T.getD 2 undef=.slice A n c)
  (K:∀T':Array Value,T'.size=Y->(∀t,t≠18->t≠19->t≠20->T'.getD t undef=T.getD t undef)->T'.getD 18 undef=.slice A n c->T'.getD 19 undef=.int .i64 n->T'.getD 20 undef=.int .i64 0->
   ∀b,Rl S w0 b->bK prog true Rl (px Rr) St S (Gl (FQ cF T' k::xs) base) b) :
  bK prog true Rl (px Rr) St S (Gl (FQ cF T (.inRegion afU [0,1,2]::k)::xs) base) w0:=by
 obtain⟨L,J,g⟩:=aB9;obtain⟨F,M,u⟩:=aCa;obtain⟨z,N,q⟩:=aCb;refine bP H.cmp (d:=18) (v:=.slice A n c) (es:=#[]) (by show(18:Nat)<_;omega) g rfl rfl (λw _=>fF (x:=.tmp 2) i) (λw _=>bD _) (λB D e j=> ?_) w0 (H.fU _ _);refine bP H.cmp (d:=19) (v:=.int .i64 n) (es:=#[]) (by show(19:Nat)<_;omega) u rfl rfl (λw _=>aia faT (s:=18) e) (λw _=>bD _) (λO C r f=> ?_);refine bP H.cmp (d:=20) (v:=.int .i64 0) (es:=#[]) (by show(20:Nat)<_;omega) q rfl rfl (λw _=>fF rfl) (λw _=>bD _) (λm I l a=> ?_);refine iu H.cmp (K m (by omega) (λt o y p=>by rw[a t p,f t y,j t o]) (by rw[a 18 (by decide),f 18 (by decide),e]) (by rw[a 19 (by decide),r]) l)
def amE (H:pw Rl Rr) (l:45<=Y) (q:T.size=Y) (a:T.getD 20 undef=.int .i64 i) (b:T.getD 19 undef=.int .i64 n)
  (K:∀T':Array Value,T'.size=Y->(∀t,t≠21->T'.getD t undef=T.getD t undef)->T'.getD 21 undef=.bool (decide (i<n))->
   ∀c,Rl S w0 c->bK prog true Rl (px Rr) St S (Gl (FQ cF T' k::xs) base) c) :
  bK prog true Rl (px Rr) St S (Gl (FQ cF T (.inRegion apZ [0]::k)::xs) base) w0:=by
 obtain⟨o,m,e⟩:=aCc;refine bP H.cmp (d:=21) (v:=.bool (decide ((i:Int)<n))) (es:=#[]) (by show(21:Nat)<_;omega) e rfl rfl (λw _=>ap3 (x:=.tmp 20) (y:=.tmp 19) a b) (λw _=>bD _) (λg p j f=> ?_) w0 (H.fU _ _);exact iu H.cmp (K g (by omega) f (by rw[j];congr 1;exact uF.2 (by omega)))
end
def anZ:(prog.info? 3).map (λi=>(i.size,i.zero))=some (1,some (.int .i64 0)):=by kernel_rfl
def aic:∃i,prog.info? 3=some i/\i.size=1/\i.zero=some (.int .i64 0):=by
 have h:=anZ;cases a:prog.info? 3 with
 |none=>rw[a] at h;cases h
 |some i=>
  rw[a] at h;simp only[qs,mt,vu] at h;exact⟨i,rfl,h⟩
section
variable {P:Program} {w:World} {e:Operand->Value} {x y:Operand} {dst:Option Tmp} {ty:TypeId} {pos:String} {af:Array Edge} {gd:Option (Nat×Bool)}
def akp{i:TypeInfo}(g:P.underlying 98=some (.slice 3))(hi:P.info? 3=some i)(f:i.size=1)(k:e x=.slice (some a) n c)(d:e y=.int .i64 j)(b:j<n) :
  (execOp e ⟨dst,.indexAddr 98 x y,ty,pos,af,gd⟩).runT P w #[]=(.ok (.value (.pointer (some (a.add j)))) w,#[]):=by
 simp[execOp,k,d,Instr.indexAt,asIntOf,mu g,b,sizeOf,typeInfo,hi,f]
end
section
variable {Rl:au->World->World->Prop} {St:au->Goroutine->World->Prop} {S Rr:au} {w0:World} {T:Array Value} {k:List Item} {xs base:List Frame}
def ap4 (H:pw Rl Rr)   {p:String} {af:Array Edge} {d s:Tmp} {u v:Int} (G:U[i]?=some ⟨none,.store 3 (.tmp d) (.tmp s),0,p,af,none⟩) (z:T.getD d undef=.pointer (some ⟨b,0,none⟩)) (I:T.getD s undef=.int .i64 v)
  (o:S b) (r:w0.heap[b]?=some (.cells #[.int .i64 u] 3))
  (K:∀c,Kp S Rr (w0.setCell ⟨b,0,none⟩ (.int .i64 v)) S c->(∀x,x≠b->S x\/Rr x->c.heap[x]?=w0.heap[x]?)->w0.heap.size<=c.heap.size->c.ou=w0.ou->c.heap[b]?=some (.cells #[.int .i64 v] 3)->bK prog true Rl (px Rr) St S (Gl (FQ cF T (.inRegion U rest::k)::xs) base) c) :
  bK prog true Rl (px Rr) St S (Gl (FQ cF T (.inRegion U (i::rest)::k)::xs) base) w0:=by
 obtain⟨N,J,F, -⟩:=aic;have B:=jw r;have m:∀{w},Rl S w0 w->w.heap[b]?=some (.cells #[.int .i64 u] 3):=λ{w} h=>by rw[(Kp.rl H h).keep b B (.inl o),r]
 refine aer H.cmp (A:=⟨b,0,none⟩) (u:=.int .i64 v) G rfl rfl (λw h=>afX (x:=.tmp d) (y:=.tmp s) J F rfl rfl z I (tT (m h)).1 (tT (m h)).2) o (λw h=>abJ o (jw (m h))) (λl g q D=> ?_) w0 (H.fU _ _);have j:=H.rl _ _ _ g;have f:=H.rl _ _ _ D;have C:(l.setCell ⟨b,0,none⟩ (.int .i64 v)).heap.size=l.heap.size:=be _ _ _;have a:∀x,x≠b->(l.setCell ⟨b,0,none⟩ (.int .i64 v)).heap[x]?=l.heap[x]?:=λx h=>bu _ _ _ (λe=>h e.symm);have t:q.heap[b]?=some (.cells #[.int .i64 v] 3):=(f.1 b (.inl o)).trans (wR (m g));have same:∀x,x≠b->S x\/Rr x->q.heap[x]?=w0.heap[x]?:=λx h n=>(f.1 x n).trans ((a x h).trans (j.1 x n));have E:(w0.setCell ⟨b,0,none⟩ (.int .i64 v)).heap.size=w0.heap.size:=be _ _ _;have M:=j.2.1;have L:=f.2.1;refine K q ⟨λx _ n=> ?_,by omega,(f.2.2.trans j.2.2),λ_ h=>h,λ_ h=>.inl h⟩ same (by omega) (f.2.2.trans j.2.2) t;by_cases e:x=b
 .rw[e,t,wR r]
 .rw[same x e n,bu _ _ _ (λh=>e h.symm)]
end
section
variable {P:Program} {S Rr:au}
def atw{A:Addr}{B:Nat}(d:Rr A.block)(g:A.block<B):∀e∈seen P f #[⟨.cell A,false,false⟩],ng S Rr B e:=λe c=>by
 have h:=tp c;simp only[sJ,pb,rG,uf] at h;subst h;refine⟨λx a=>.inr ?_,λm b=>(by cases b),g⟩;simp[MemAct.ofEvent,MemAct.touch?] at a;rw[<-a];exact⟨d,rfl⟩
end
section
variable {Rl:au->World->World->Prop} {St:au->Goroutine->World->Prop} {S Rr:au} {w0:World} {T:Array Value} {k:List Item} {xs base:List Frame}
def atx (H:pw Rl Rr) (hZ:45<=Y) (hz:T.size=Y)  {nm:Int} (W:T.getD 18 undef=.slice A n c) (z:T.getD 20 undef=.int .i64 j) (hj:j<n) (V:aid w0 A j nm) (hR:∀a,A=some a->Rr a.block)
  (K:∀(T':Array Value) (F:au) (G:World) (u E:Nat),T'.size=Y->(∀t,t≠22->t≠23->t≠24->t≠10->t≠11->T'.getD t undef=T.getD t undef)->T'.getD 10 undef=.pointer (some ⟨u,0,none⟩)->T'.getD 11 undef=.pointer (some ⟨E,0,none⟩)->
   Kp S Rr w0 F G->F u->F E->w0.heap.size<=u->u<E->G.heap[u]?=some (.cells #[.int .i64 j] 3)->G.heap[E]?=some (.cells #[.int .i64 nm] 3)->bK prog true Rl (px Rr) St F (Gl (FQ cF T' k::xs) base) G) :
  bK prog true Rl (px Rr) St S (Gl (FQ cF T (.inRegion abH [0,1,2,3,4,5,6]::k)::xs) base) w0:=by
 obtain⟨p0,a0,e0⟩:=aCd;obtain⟨p1,a1,e1⟩:=aCe;obtain⟨p2,a2,e2⟩:=aCf;obtain⟨p3,a3,e3⟩:=aCg;obtain⟨p4,a4,e4⟩:=aCh;obtain⟨p5,a5,e5⟩:=aCi;obtain⟨p6,a6,e6⟩:=aCj;obtain⟨a,rfl,g,kF⟩:=V;obtain⟨i3,o,R,s⟩:=aic;have B:=hR a rfl;have m:(a.add j).block=a.block:=rB a j;have Q:=eO g;have jb:∀{w},Rl S w0 w->w.cell? (a.add j)=some (.int .i64 nm):=λ{w} h=>(gC (by rw[m];exact(H.rl _ _ _ h).1 a.block (.inr B))).trans g
 refine bP H.cmp (d:=22) (v:=.int .i64 j) (es:=#[]) (by show(22:Nat)<_;omega) e0 rfl rfl (λw _=>fF (x:=.tmp 20) z) (λw _=>bD _) (λT1 z1 v1 r1=> ?_) w0 (H.fU _ _);refine bP H.cmp (d:=23) (v:=.pointer (some (a.add j))) (es:=#[]) (by show(23:Nat)<_;omega) e1 rfl rfl (λw _=>akp faT.u31 o R (x:=.tmp 18) (y:=.tmp 20) ((r1 18 (by decide)).trans W) ((r1 20 (by decide)).trans z) hj) (λw _=>bD _) (λT2 z2 v2 r2=> ?_);refine bP H.cmp (d:=24) (v:=.int .i64 nm) (es:=#[⟨.cell (a.add j),false,false⟩]) (by show(24:Nat)<_;omega) e2 rfl rfl (λw P=>aie underlying3 rfl (x:=.tmp 23) v2 (jb P)) (λw P=>atw (by rw[m];exact B) (bd Q (H.rl _ _ _ P).2.1)) (λT3 z3 v3 r3=> ?_);refine mZ H (d:=10) (ob:=.cells #[.int .i64 0] 3) (by show(10:Nat)<_;omega) e3 rfl rfl (λw=>aac o s) (λe ha T4 z4 v4 r4=> ?_);refine mZ H (d:=11) (ob:=.cells #[.int .i64 0] 3) (by show(11:Nat)<_;omega) e4 rfl rfl (λw=>aac o s) (λl hb J z5 v5 L w1 cN=> ?_);have s1:(e.alloc (.cells #[.int .i64 0] 3)).heap.size=e.heap.size+1:=mx _ _;have s2:(l.alloc (.cells #[.int .i64 0] 3)).heap.size=l.heap.size+1:=mx _ _;have ka:=(Kp.rl H ha).trans (Kp.alloc S Rr e (.cells #[.int .i64 0] 3));have X:=Kp.rl H hb;have kc:=Kp.alloc (SN S e (e.alloc (.cells #[.int .i64 0] 3))) Rr l (.cells #[.int .i64 0] 3);have I:=Kp.rl H cN;have g0:=(Kp.rl H ha).size;have g1:=X.size;have g2:=I.size;have i:=kc.mono _ (lu S e (.cells #[.int .i64 0] 3));have f:=lu (SN S e (e.alloc (.cells #[.int .i64 0] 3))) l (.cells #[.int .i64 0] 3);have ci:w1.heap[e.heap.size]?=some (.cells #[.int .i64 0] 3):=by
  rw[((X.trans kc).trans I).keep e.heap.size (by omega) (.inl (lu S e _)),kW]
 have cn:w1.heap[l.heap.size]?=some (.cells #[.int .i64 0] 3):=by
  rw[I.keep l.heap.size (by omega) (.inl f),kW]
 have C:J.getD 10 undef=.pointer (some ⟨e.heap.size,0,none⟩):=by rw[L 10 (by decide),v4]
 have M:J.getD 22 undef=.int .i64 j:=by rw[L 22 (by decide),r4 22 (by decide),r3 22 (by decide),r2 22 (by decide),v1]
 have U:J.getD 24 undef=.int .i64 nm:=by rw[L 24 (by decide),r4 24 (by decide),v3]
 refine ap4 H e5 C M i ci (λw2 _ r z6 o6 a7=> ?_);have a8:w2.heap[l.heap.size]?=some (.cells #[.int .i64 0] 3):=(r _ (by omega) (.inl f)).trans cn;refine ap4 H e6 v5 U f a8 (λw3 _ D z7 o7 Z=> ?_);refine iu H.cmp (λw4 N=> ?_) w3 (H.fU _ _);have q:=Kp.rl H N;have p:=((ka.trans X).trans kc).trans I;have aa:=p.size;refine K J _ w4 e.heap.size l.heap.size (by omega) (λt q1 q2 q3 q4 q5=> ?_) C v5 ⟨λb a9 h=> ?_, ?_, ?_,p.mono,λb h=>(p.new b h).imp id λh=>⟨h.1, ?_⟩⟩ i f g0 (by omega) ?_ ?_
 .rw[L t q5,r4 t q4,r3 t q3,r2 t q2,r1 t q1]
 .have O:=h.imp (p.mono b) id;rw[q.keep b (by omega) O,D b (by omega) O,r b (by omega) O,p.keep b a9 h]
 .have:=q.size;omega
 .rw[q.os,o7,o6,p.os]
 .have:=q.size;omega
 .rw[q.keep _ (by omega) (.inl i),D _ (by omega) (.inl i),a7]
 .rw[q.keep _ (by omega) (.inl f),Z]
end
end
section
open Go.Conc Go.ConcN Go.RowKit
open Go.ConcR (KK wgBlock WgAt stA smA rd wr mk Payload DC0)
structure Mx where
 wE:World
 Wg:Nat
 C:Nat
 n2:Nat
 Rg:Nat->Prop
 key:Int
 A:Option Addr
 n:Nat
 c:Nat
 l:List iR
 A2:Option Addr
 c2:Nat
 dH:List Int
 bk:Nat
 bp:Nat
 ba:Nat
 sv:Nat->Value
 Z:Nat
 V:au
structure Mx.Ok (X:Mx):Prop where
 hN:gN<=X.wE.heap.size
 gl:∀g∈gL,X.Rg g
 k1:1<=X.key
 k2:X.key<=99
 hl:X.l.length=X.n
 hc:X.n<=X.c
 hcm:(X.c:Int)<=9223372036854775807
 gr:∀g∈gL,eI X.wE g
 rd:RdP X.wE X.A 0 X.l
 rgp:RgP X.Rg X.wE X.A X.l
 al:∀a,X.A=some a->X.Rg a.block
 al2:∀a,X.A2=some a->X.Rg a.block
 nm:∀i nm,X.dH[i]?=some nm->aid X.wE X.A2 i nm
 nn:X.dH.length=X.n2
 n2m:(X.n2:Int)<=2147483647
 cW:X.C≠X.Wg
 vr:∀b,X.Rg b->X.V b
structure Mx.At (X:Mx) (R:au) (w:World):Prop where
 keep:∀b,X.V b->w.heap[b]?=X.wE.heap[b]?
 sz:X.wE.heap.size<=w.heap.size
 os:w.ou=X.wE.ou
 rows:∀b,X.V b->R b
 rk:R X.bk/\w.heap[X.bk]?=some (.cells #[.int .i64 X.key] 3)
 rp:R X.bp/\w.heap[X.bp]?=some (.cells #[.slice X.A X.n X.c] 23)
 ra:R X.ba/\w.heap[X.ba]?=some (.cells #[.slice (some ⟨X.C,0,none⟩) X.n2 X.n2] 127)
 rlt:∀b,R b->b<w.heap.size
 rC:¬R X.C
 rW:¬R X.Wg
 ltC:X.C<w.heap.size
 ltW:X.Wg<w.heap.size
section
variable {X:Mx} {R S S':au} {w w':World} {es:Array Event}
def Mx.At.move(h:X.At R w)(a:∀b,R b->w'.heap[b]?=w.heap[b]?)(d:w.heap.size<=w'.heap.size)(e:w'.ou=w.ou):X.At R w':=
 ⟨λb c=>(a b (h.rows b c)).trans (h.keep b c),ap h.sz d,e.trans h.os,h.rows,⟨h.rk.1,(a _ h.rk.1).trans h.rk.2⟩,⟨h.rp.1,(a _ h.rp.1).trans h.rp.2⟩,⟨h.ra.1,(a _ h.ra.1).trans h.ra.2⟩,
  λb c=>bd (h.rlt b c) d,h.rC,h.rW,bd h.ltC d,bd h.ltW d⟩
def Mx.At.grow(h:X.At R w)(c:∀b,S b->b<w.heap.size/\b≠X.C/\b≠X.Wg):X.At (λb=>S b\/R b) w:=
 ⟨h.keep,h.sz,h.os,λb a=>.inr (h.rows b a),⟨.inr h.rk.1,h.rk.2⟩,⟨.inr h.rp.1,h.rp.2⟩,⟨.inr h.ra.1,h.ra.2⟩,λb a=>a.elim (λx=>(c b x).1) (h.rlt b),
  λa=>a.elim (λx=>(c _ x).2.1 rfl) h.rC,λa=>a.elim (λx=>(c _ x).2.2 rfl) h.rW,h.ltC,h.ltW⟩
def Mx.At.rgp(a:X.Ok)(h:X.At R w):RgP X.Rg w X.A X.l:=a.rgp.move a.al λb c=>h.keep b (a.vr b c)
def Mx.At.gr(a:X.Ok)(h:X.At R w):∀g∈gL,eI w g:=λg b=>by
 obtain⟨c,t,z,e⟩:=a.gr g b;exact⟨c,t,z,(h.keep g (a.vr g (a.gl g b))).trans e⟩
def Mx.At.rd(a:X.Ok)(h:X.At R w):RdP w X.A 0 X.l:=a.rd.mask a.rgp a.al λ_ _ c b _=>(gC (h.keep _ (a.vr _ b))).trans c
def Mx.At.nm(b:X.Ok)(h:X.At R w){nm:Int}(hi:X.dH[i]?=some nm):aid w X.A2 i nm:=by
 obtain⟨a,e,d,c⟩:=b.nm i nm hi;exact⟨a,e,(gC (by rw[rB];exact h.keep _ (b.vr _ (b.al2 a e)))).trans d,c⟩
abbrev Mx.Rl(X:Mx)(R:au):au->World->World->Prop:=jN eN.tWg X.Wg X.C (2*X.n2) R noC
abbrev Mx.Gr(X:Mx)(R:au):au->au->World->World->Array Event->Prop:=Gua X.Wg X.C (2*X.n2) R noC
def Mx.nh(X:Mx)(R:au):pw (X.Rl R) R:=⟨λS w=>jN.refl _ _ _ _,λ_ _ _ _=>jN.trans,λ_ _ _ h=>⟨h.keep,h.size,h.os⟩⟩
structure Mx.Inv (X:Mx) (R S:au) (w:World):Prop where
 s:∀b,S b->b<w.heap.size/\b≠X.C/\b≠X.Wg
 at_:X.At R w
 live:WgLive eN.tWg X.Wg w
 sr:∀b,R b->¬S b
def Mx.Inv.rely(h:X.Inv R S w)(a:X.Rl R S w w'):X.Inv R S w':=
 ⟨λb c=>⟨bd (h.s b c).1 a.size,(h.s b c).2⟩,h.at_.move (λb c=>a.keep b (.inr c)) a.size a.os,a.live h.live,h.sr⟩
def Mx.step(h:X.Inv R S w)(g:px R S S' w w' es):X.Gr R S S' w w' es/\X.Inv R S' w':=by
 obtain⟨k,l,p,rfl,z⟩:=g;have o:w'.heap[X.C]?=w.heap[X.C]?:=k _ h.at_.ltC λd=>(h.s _ d).2.1 rfl;have q:w'.heap[X.Wg]?=w.heap[X.Wg]?:=k _ h.at_.ltW λd=>(h.s _ d).2.2 rfl;refine⟨⟨λb c v _=>k b c v,l,p,λ⟨r,a,b⟩=>⟨r,o.trans a,b⟩,λi _=>uB o i,λb c=>.inl c,λb c=>c,λe C=> ?_⟩, ?_⟩
 .obtain⟨A,m,B⟩:=z e C;refine⟨λx t=>(A x t).elim .inl λy=>.inr (.inr y),λj=> ?_,λj=> ?_,λj=> ?_,B⟩
  .rcases m _ j with⟨f,e⟩|e<;>cases e
  .rcases m _ j with⟨f,e⟩|e<;>cases e
  .rcases m _ j with⟨f,e⟩|e<;>cases e
 .refine⟨λb c=> ?_,h.at_.move (λb c=>k b (h.at_.rlt b c) (h.sr b c)) l p, ?_,λb c d=> ?_⟩
  .rcases c with c|⟨c,n⟩
   .exact⟨bd (h.s b c).1 l,(h.s b c).2⟩
   .have E:=h.at_.ltC;have D:=h.at_.ltW;exact⟨n,by omega,by omega⟩
  .obtain⟨u,sm,s⟩:=h.live;exact⟨u,sm,q.trans s⟩
  .rcases d with d|⟨d,_⟩
   .exact h.sr b c d
   .have:=h.at_.rlt b c;omega
def Mx.lift{Stop:au->Goroutine->World->Prop}(h:bK prog true (X.Rl R) (px R) Stop S g w)(hi:X.Inv R S w):bK prog true (X.Rl R) (X.Gr R) (λS g w=>Stop S g w/\X.Inv R S w) S g w:=
 bK.inv (Rl:=X.Rl R) (Gr:=px R) (Gr2:=X.Gr R) (Stop:=Stop) (Inv:=X.Inv R) (λ_ _ _ a b=>a.rely b) (λ_ _ _ _ _ a b=>Mx.step a b) (λ_ _ _ a b=>⟨a,b⟩) h hi
def akq(t:Nat):Bool:=t ==0||t ==1||t ==2||t ==6||t ==7||t ==17||aaA t
structure Mx.Sl (X:Mx) (T:Array Value) (j:Nat):Prop where
 z:T.size=X.Z
 zz:45<=X.Z
 s3:T.getD 3 undef=.pointer (some ⟨X.bk,0,none⟩)
 s4:T.getD 4 undef=.pointer (some ⟨X.bp,0,none⟩)
 s8:T.getD 8 undef=.pointer (some ⟨X.ba,0,none⟩)
 s9:T.getD 9 undef=.pointer (some ⟨X.Wg,0,none⟩)
 s18:T.getD 18 undef=.slice X.A2 X.n2 X.c2
 s19:T.getD 19 undef=.int .i64 X.n2
 iv:T.getD 20 undef=.int .i64 j
 sv:∀t,akq t=true->T.getD t undef=X.sv t
def wrM(t:Nat):Bool:=t ==10||t ==11||(21<=t&&t<=28)
def axb{t:Nat}(h:akq t=true):wrM t=false:=by
 simp only[akq,aaA,rj,oE,rb] at h;simp only[wrM,wC,dk,sW,tA];omega
def Mx.Sl.keep{T T':Array Value}(h:X.Sl T j)(c:T'.size=X.Z)(a:∀t,wrM t=false->T'.getD t undef=T.getD t undef):X.Sl T' j:=
 ⟨c,h.zz,(a 3 rfl).trans h.s3,(a 4 rfl).trans h.s4,(a 8 rfl).trans h.s8,(a 9 rfl).trans h.s9,(a 18 rfl).trans h.s18,(a 19 rfl).trans h.s19,(a 20 rfl).trans h.iv,λt b=>(a t (axb b)).trans (h.sv t b)⟩
end
section
variable {P:Program} {main:Bool} {Rl:au->World->World->Prop} {Gr:au->au->World->World->Array Event->Prop} {St:au->Goroutine->World->Prop} {S Rr:au} {w0:World} {f h:FuncId} {T:Array Value} {k:List Item} {xs bs:List Frame}
def aif (C:Cmp Rl Gr Rr)   {o:Oper} {args:Array Value} (a:U[i]?=some o) (c:o.guard=none)
  (b:∀w,(execOp (FQ f T (.inRegion U (i::rest)::k)).eval o).runT P w #[]=(.ok (.enter h args) w,#[]))
  (d:∀w,Rl S w0 w->bK P main Rl Gr St S (Gl (Frame.enter P h args .normal::FQ f T (.inRegion U (i::rest)::k)::xs) bs) w):∀w,Rl S w0 w->bK P main Rl Gr St S (Gl (FQ f T (.inRegion U (i::rest)::k)::xs) bs) w:=
 bK.still C (l2:=Frame.enter P h args .normal::FQ f T (.inRegion U (i::rest)::k)::xs) (es:=λ_=>seen P f #[]) (λw _=>aih rfl rfl rfl rfl a c (b w)) (λw _=>bD _) d
end
def akr{args:Array Value} :(callFunc eN.add args).runT prog w #[]=(.ok (.enter eN.add args) w,#[]):=by
 have h:=aaB.f_add;have b:¬(Go.Conc.Lib.addFn eN).name= "runtime.NumGoroutine" :=by decide
 have a:¬(Go.Conc.Lib.addFn eN).body=none:=λe=>by cases e
 unfold callFunc;simp[h,b,a]
def aii{args:Array Value} :(callFunc eN.wait args).runT prog w #[]=(.ok (.enter eN.wait args) w,#[]):=by
 have h:=aaB.f_wait;have b:¬(Go.Conc.Lib.waitFn eN).name= "runtime.NumGoroutine" :=by decide
 have a:¬(Go.Conc.Lib.waitFn eN).body=none:=λe=>by cases e
 unfold callFunc;simp[h,b,a]
noncomputable abbrev kM:List Item:=[.code (.seq (.region 9 jO false) cU)]
noncomputable abbrev kB:List Item:=.inLoop jv :: .inBlock 0::kM
noncomputable abbrev kA:List Item:=.code (.region 7 ml false) :: .inBlock 1 :: .code (.region 8 ah9 false)::kB
section
variable {X:Mx} {R:au} {w:World} {T:Array Value} {j:Nat} {xs bs:List Frame}
def StA(X:Mx)(j:Nat)(xs bs:List Frame)(S:au)(g:Goroutine)(w:World):Prop:=
 ∃(T':Array Value) (b a:Nat) (nm:Int),X.dH[j]?=some nm/\X.Sl T' j/\T'.getD 10 undef=.pointer (some ⟨b,0,none⟩)/\T'.getD 11 undef=.pointer (some ⟨a,0,none⟩)/\S b/\S a/\w.heap[b]?=some (.cells #[.int .i64 j] 3)/\w.heap[a]?=some (.cells #[.int .i64 nm] 3)/\
  g=Gl (Frame.enter prog eN.add #[.pointer (some ⟨X.Wg,0,none⟩),.int .i64 1] .normal::FQ cF T' (.inRegion aaz [0]::kA)::xs) bs
def StW(X:Mx)(xs bs:List Frame)(S:au)(g:Goroutine)(_:World):Prop:=
 ∃T':Array Value,X.Sl T' X.n2/\S=(λ_=>False)/\g=Gl (Frame.enter prog eN.wait #[.pointer (some ⟨X.Wg,0,none⟩)] .normal::FQ cF T' (.inRegion jO [0]::[.code cU])::xs) bs
def an0(n:X.Ok)(g:X.Sl T j)(v:j<X.n2)(r:X.At R w):bK prog true (X.Rl R) (px R) (StA X j xs bs) (λ_=>False) (Gl (FQ cF T (.code jv::kB)::xs) bs) w:=by
 have H:=X.nh R;obtain⟨nm,m⟩:∃nm,X.dH[j]?=some nm:=⟨_,jp (by rw[n.nn];exact v)⟩;rw[afV];refine eG H.cmp (fY H.cmp (l:=[0]) rfl λwa x=>amE H g.zz g.z g.iv g.s19 λM D K i=> ?_) w (H.fU _ _);rw[dj v] at i;refine eG H.cmp (abK H.cmp i (amF H.cmp (eG H.cmp (aes H.cmp (eG H.cmp (fY H.cmp (l:=[0,1,2,3,4,5,6]) rfl λP q=> ?_))))));have e:X.Sl M j:=g.keep D λt d=>K t (by rintro rfl;cases d);have I:X.At R P:=(r.move (λb f=>x.keep b (.inr f)) x.size x.os).move (λb f=>q.keep b (.inr f)) q.size q.os;refine atx H g.zz D e.s18 e.iv v (I.nm n m) (λa A=>I.rows _ (n.vr _ (n.al2 a A))) λo S2 Z G B N V z u kp C F lb J S Q=> ?_;have k:X.Sl o j:=e.keep N λt d=>V t (by rintro rfl;cases d) (by rintro rfl;cases d) (by rintro rfl;cases d) (by rintro rfl;cases d) (by rintro rfl;cases d);obtain⟨L,U,O⟩:=azh;refine eG H.cmp (fY H.cmp (l:=[0]) rfl (aif H.cmp (h:=eN.add) (args:=#[.pointer (some ⟨X.Wg,0,none⟩),.int .i64 1]) O rfl (λw=> ?_) λw5 y=>.stop λw6 p=> ?_)) Z (H.fU _ _)
 .have W:Array.map (Frame.eval (FQ cF o (.inRegion aaz [0]::kA))) #[.tmp 9,.const (.int .i64 1)]=#[.pointer (some ⟨X.Wg,0,none⟩),.int .i64 1]:=by
   rw[<-k.s9];simp[Frame.eval]
  have Y:execOp (Frame.eval (FQ cF o (.inRegion aaz [0]::kA))) ⟨some 25,.call ⟨.value (.func eN.add),#[.tmp 9,.const (.int .i64 1)],#[eN.tWg,3]⟩,0,L,U,none⟩=callFunc eN.add #[.pointer (some ⟨X.Wg,0,none⟩),.int .i64 1]:=by
   simp only[execOp,resolve];rw[W];simp[Deferred.ofValue,invoke,Frame.eval];try rfl
  exact(jt (λs=>Sem.runT prog s w #[]) Y).trans akr
 .have E:=H.tr _ _ _ _ y p;exact⟨o,G,B,nm,m,k,z,u,C,F,(E.keep G (.inl C)).trans S,(E.keep B (.inl F)).trans Q,rfl⟩
def an2(b:X.Sl T X.n2):bK prog true (X.Rl R) (px R) (StW X xs bs) (λ_=>False) (Gl (FQ cF T (.code jv::kB)::xs) bs) w:=by
 have H:=X.nh R;rw[afV];refine eG H.cmp (fY H.cmp (l:=[0]) rfl λx u=>amE H b.zz b.z b.iv b.s19 λe p f a=> ?_) w (H.fU _ _);rw[db (Nat.lt_irrefl _)] at a;have d:X.Sl e X.n2:=b.keep p λt j=>f t (by rintro rfl;cases j);obtain⟨n,i,k⟩:=azi;refine eG H.cmp (abK H.cmp a (amG H.cmp (k2:=kM) rfl (eG H.cmp (fY H.cmp (l:=[0]) rfl (aif H.cmp (h:=eN.wait) (args:=#[.pointer (some ⟨X.Wg,0,none⟩)]) k rfl (λw=> ?_) λv q=>.stop λr g=>⟨e,d,rfl,rfl⟩)))));have m:Array.map (Frame.eval (FQ cF e (.inRegion jO [0]::[.code cU]))) #[.tmp 9]=#[.pointer (some ⟨X.Wg,0,none⟩)]:=by
  rw[<-d.s9];simp[Frame.eval]
 have o:execOp (Frame.eval (FQ cF e (.inRegion jO [0]::[.code cU]))) ⟨some 28,.call ⟨.value (.func eN.wait),#[.tmp 9],#[eN.tWg]⟩,0,n,i,none⟩=callFunc eN.wait #[.pointer (some ⟨X.Wg,0,none⟩)]:=by
  simp only[execOp,resolve];rw[m];simp[Deferred.ofValue,invoke,Frame.eval];try rfl
 exact(jt (λs=>Sem.runT prog s w #[]) o).trans aii
end
end
section
open Go.Conc Go.ConcN Go.RowKit Go.Conc.Lib Go.ConcR.Gen Go.ConcN.Gen
open Go.ConcR (KK wgBlock WgAt stA smA rd wr mk Payload DC0)
section
variable {P:Program} {R:World->World->Prop} {Q:World->Prop} {St A:Goroutine->World->Prop} {ty:TypeId} {Wg:Nat}
 (hQ:∀w w1,Q w->R w w1->Q w1) (hW:∀(w:World) (a:Addr) v,a.block=Wg->Q w->Q (w.setCell a v))
include hQ
theorem amH(a:Q w)(h:WKe P R Wg St g w):WKe P R Wg (λg w=>St g w/\Q w) g w:=abE (λ_ _ x=>jM hQ x.2 x.1) (jM hQ a h)
theorem aty(b:Q w)(h:WW4 P R ty Wg St g w):WW4 P R ty Wg (λg w=>St g w/\Q w) g w:=
 ⟨h.1,λa=>let⟨c,e,k⟩:=h.2 a;⟨c,e,fE (λ_ _ x=>amH hQ x.2 x.1) (eR hQ b k)⟩⟩
include hW
theorem atz(b:Q w)(h:WW3 P R ty Wg St g w):WW3 P R ty Wg (λg w=>St g w/\Q w) g w:=
 ⟨h.1,h.2.1,h.2.2.1,λa=>let⟨c,e,k⟩:=h.2.2.2 a;⟨c,e,fE (λ_ _ x=>aty hQ x.2 x.1) (eR hQ (hW _ _ _ rfl b) k)⟩⟩
theorem atA{v:Nat}(d:Q w)(h:WW2 P R ty Wg A St v g w):WW2 P R ty Wg (λg w=>A g w/\Q w) (λg w=>St g w/\Q w) v g w:=
 ⟨h.1,λf i c=>⟨λe=>let⟨b,a,k⟩:=(h.2 f i c).1 e;⟨b,a,fE (λ_ _ x=>abE (λ_ _ x=>atz hQ hW x.2 x.1) (jM hQ x.2 x.1)) (eR hQ (hW _ _ _ rfl d) k)⟩,
  λe=>let⟨b,a,k⟩:=(h.2 f i c).2 e;⟨b,a,eR hQ d k⟩⟩⟩
theorem atB(a:Q w)(h:WW1 P R ty Wg A St g w):WW1 P R ty Wg (λg w=>A g w/\Q w) (λg w=>St g w/\Q w) g w:=
 ⟨h.1,λv d c=>let⟨i,e,f,b⟩:=h.2 v d c;⟨i,e,λe=>fE (λ_ _ x=>amH hQ x.2 x.1) (eR hQ a (f e)),λe=>fE (λ_ _ x=>atA hQ hW x.2 x.1) (eR hQ a (b e))⟩⟩
end
section
variable (X:Mx) (xs bs:List Frame)
noncomputable abbrev frW(T:Array Value):Frame:=(FQ cF #[] []).at ⟨T,[]⟩ (.inRegion jO [0]::[.code cU])
def ac7(R _S:au)(g:Goroutine)(w:World):Prop:=X.At R w/\∃T,X.Sl T X.n2/\aij eN X.Wg (frW T) (xs++bs) g w
def azk(R S:au)(g:Goroutine)(w:World):Prop:=
 ∃T,X.Sl T X.n2/\Goes prog true (RM eN.tWg X.Wg X.C X.n2 R S) DC0 (λg w=>(g=Gl (FQ cF T (.inRegion jO []::[.code cU])::xs) bs/\WgLive eN.tWg X.Wg w)/\X.At R w) 20 g w
end
section
variable {X:Mx} {xs bs:List Frame} {R S:au} {w w1:World} {T:Array Value}
def Mx.At.rely(h:X.At R w)(a:jN eN.tWg X.Wg X.C (2*X.n2) R noC S w w1):X.At R w1:=h.move (λb c=>a.keep b (.inr c)) a.size a.os
def Mx.At.wg(h:X.At R w)(a:Addr)(v:Value)(d:a.block=X.Wg):X.At R (w.setCell a v):=
 h.move (λb c=>bu _ _ _ (λe=>h.rW (by rw[<-d,e];exact c))) (pe (be _ _ _).symm) rfl
def atC(a:X.Sl T X.n2):∃T',X.Sl T' X.n2/\G ((FQ cF #[] []).at ((⟨T,[]⟩:Act).put ((jO[0]?).bind (·.dst)) (.tuple #[])) (.inRegion jO []::[.code cU])) (xs++bs)=Gl (FQ cF T' (.inRegion jO []::[.code cU])::xs) bs:=by
 obtain⟨d,e,c⟩:=azi;refine⟨T.setIfInBounds 28 (.tuple #[]),a.keep (by simpa using a.z) λt b=> ?_,by rw[c];rfl⟩;rw[aI (by rw[a.z];exact bd (by decide) a.zz),da (by rintro rfl;cases b)]
def atD(h:ac7 X xs bs R S g w):∃m,GP prog eN.tWg X.Wg X.C X.n2 R S (MW1 prog eN.tWg X.Wg X.C X.n2 R S (ac7 X xs bs) (azk X xs bs)) m g w:=by
 obtain⟨c,T,d,i⟩:=h;have j:=aks (R:=RM eN.tWg X.Wg X.C X.n2 R S) (S:=λg w=>g=G ((FQ cF #[] []).at ((⟨T,[]⟩:Act).put ((jO[0]?).bind (·.dst)) (.tuple #[])) (.inRegion jO []::[.code cU])) (xs++bs)/\WgLive eN.tWg X.Wg w) aaB (λ_ _ h r=>r.live h) (λ_ h=>⟨rfl,h⟩) g w i;have f:=fE (λg w x=>atB (Q:=X.At R) (λ_ _ h r=>h.rely r) (λ_ a v e h=>h.wg a v e) x.2 x.1) (eR (Q:=X.At R) (λ_ _ h r=>h.rely r) c j);obtain⟨T',b,k⟩:=atC (xs:=xs) (bs:=bs) d;refine⟨30,aaC (λ_ _ x=>azl (λg w y=>⟨T',b,fE (λg w z=>⟨⟨z.1.1.trans k,z.1.2⟩,z.2⟩) y⟩) (λg w y=>⟨y.2,T,d,y.1⟩) x) f⟩
def akt:Frame.enter prog eN.wait #[.pointer (some ⟨X.Wg,0,none⟩)] .normal=(base eN.wait).at ⟨#[.pointer (some ⟨X.Wg,0,none⟩)]++(List.replicate 83 undef).toArray,[]⟩ [.code (body_wait eN)]:=by
 rw[vV];have h:=enter_at (c:=body_wait eN) #[.pointer (some ⟨X.Wg,0,none⟩)] aaB.f_wait rfl;have e:(Go.Conc.Lib.waitFn eN).ntmps-(#[.pointer (some ⟨X.Wg,0,none⟩)]:Array Value).size=83:=rfl;rw[e] at h;exact h
def an3:Frame.enter prog eN.add #[.pointer (some ⟨X.Wg,0,none⟩),.int .i64 1] .normal=(base eN.add).at ⟨#[.pointer (some ⟨X.Wg,0,none⟩),.int .i64 1]++(List.replicate 115 undef).toArray,[]⟩ [.code (body_add eN)]:=by
 rw[vV];have h:=enter_at (c:=body_add eN) #[.pointer (some ⟨X.Wg,0,none⟩),.int .i64 1] aaB.f_add rfl;have e:(Go.Conc.Lib.addFn eN).ntmps-(#[.pointer (some ⟨X.Wg,0,none⟩),.int .i64 1]:Array Value).size=115:=rfl;rw[e] at h;exact h
def agO(d:X.Sl T X.n2)(hi:X.Inv R S w) :
  bK prog true (X.Rl R) (X.Gr R) (λS g w=>MKd prog eN.tWg X.Wg X.C X.n2 R S (ac7 X xs bs) g w) S (Gl (Frame.enter prog eN.wait #[.pointer (some ⟨X.Wg,0,none⟩)] .normal::FQ cF T (.inRegion jO [0]::[.code cU])::xs) bs) w:=by
 rw[akt];have c:=aku (b₀:=FQ cF #[] []) (a₀:=⟨T,[]⟩) (ops₀:=jO) (i₀:=0) (rest₀:=[]) (k₀:=[.code cU]) (cs:=xs++bs) (R:=RM eN.tWg X.Wg X.C X.n2 R S) aaB (λ_ _ h r=>r.live h) w hi.live;have b:=fE (λg w x=>jM (Q:=X.At R) (λ_ _ h r=>h.rely r) x.2 x.1) (eR (Q:=X.At R) (λ_ _ h r=>h.rely r) hi.at_ c);have a:∀g w,(aij eN X.Wg (frW T) (xs++bs) g w/\X.At R w)->ac7 X xs bs R S g w:=λg w y=>⟨y.2,T,d,y.1⟩;exact bK.abF (R:=RM eN.tWg X.Wg X.C X.n2 R S) (λ_ _ h=>h) (λ_ _ _ h=>aw7 h) (λ_ _ h=>azm a h) b
end
end
section
open Go.Conc Go.ConcN Go.RowKit
open Go.ConcR (KK wgBlock WgAt stA smA rd wr mk Payload DC0)
section
variable {X:Mx} {R S:au} {w:World} {T:Array Value} {j:Nat} {xs bs:List Frame} {bi bn:Nat} {nm:Int}
noncomputable abbrev kG:List Item:=.inBlock 1 :: .code (.region 8 ah9 false)::kB
abbrev Mx.dO(X:Mx)(bi bn:Nat):Array Value:=#[.pointer (some ⟨X.Wg,0,none⟩),.pointer (some ⟨X.bk,0,none⟩),.pointer (some ⟨X.bp,0,none⟩),.pointer (some ⟨bn,0,none⟩),.pointer (some ⟨X.ba,0,none⟩),.pointer (some ⟨bi,0,none⟩)]
def an4(b:X.Sl T j)(k:T.getD 10 undef=.pointer (some ⟨bi,0,none⟩))(m:T.getD 11 undef=.pointer (some ⟨bn,0,none⟩))(z:S bi)(q:S bn)(s:w.heap[bi]?=some (.cells #[.int .i64 j] 3))(o:w.heap[bn]?=some (.cells #[.int .i64 nm] 3)) :
  bK prog true (X.Rl R) (px R) (λA g f=>A=S/\f.heap[bi]?=some (.cells #[.int .i64 j] 3)/\f.heap[bn]?=some (.cells #[.int .i64 nm] 3)/\∃T',X.Sl T' j/\T'.getD 26 undef=.func (.func nCl) #[] (X.dO bi bn)/\g=Gl (FQ cF T' (.inRegion ml [1]::kG)::xs) bs) S
   (Gl (FQ cF T (.inRegion aaz []::kA)::xs) bs) w:=by
 have H:=X.nh R;obtain⟨p,a,e⟩:=aCk;refine iu H.cmp (fY H.cmp (l:=[0,1]) rfl (bP H.cmp (d:=26) (v:=.func (.func nCl) #[] (X.dO bi bn)) (es:=#[]) (by rw[b.z];exact bd (by decide) b.zz) e rfl rfl (λw _=>aib ?_) (λw _=>bD _) λx B C r f y=>.stop λD i=> ?_)) w (H.fU _ _)
 .have:∀T:Array Value,Array.map (Frame.eval (FQ cF T (.inRegion ml [0,1]::kG))) #[.tmp 9,.tmp 3,.tmp 4,.tmp 11,.tmp 8,.tmp 10]=#[T.getD 9 undef,T.getD 3 undef,T.getD 4 undef,T.getD 11 undef,T.getD 8 undef,T.getD 10 undef]:=λT=>by simp[Frame.eval]
  rw[this,b.s9,b.s3,b.s4,b.s8,k,m]
 .have n:=H.tr _ _ _ _ y i;exact⟨rfl,(n.keep bi (.inl z)).trans s,(n.keep bn (.inl q)).trans o,x,b.keep (B.trans b.z) λt u=>r t (by rintro rfl;cases u),C,rfl⟩
def an5(k:X.Ok)(b:X.Sl T j)(F:j<X.n2) :
  bK prog true (X.Rl R) (px R) (λu g _=>u=S/\∃T',X.Sl T' (j+1)/\g=Gl (FQ cF T' (.code jv::kB)::xs) bs) S
   (Gl (FQ cF T (.inRegion ml []::kG)::xs) bs) w:=by
 have H:=X.nh R;obtain⟨E,D,i⟩:=aCm;obtain⟨B,G,s⟩:=aCn;have p:=k.n2m;refine iu H.cmp (aik H.cmp (fY H.cmp (l:=[0,1]) rfl (bP H.cmp (d:=27) (v:=.int .i64 ((j:Int)+1)) (es:=#[]) (by rw[b.z];exact bd (by decide) b.zz) i rfl rfl (λw _=>atq (x:=.tmp 20) b.iv rfl (by omega) (by omega)) (λw _=>bD _) λo f y m=>
  bP H.cmp (d:=20) (v:=.int .i64 ((j:Int)+1)) (es:=#[]) (by rw[f,b.z];exact bd (by decide) b.zz) s rfl rfl (λw _=>fF (x:=.tmp 27) y) (λw _=>bD _) λz r n c=>
   iu H.cmp (ap5 H.cmp λA C=>.stop λI q=>⟨rfl,z, ?_,rfl⟩)))) w (H.fU _ _)
 have a:=b.keep (T':=o) (f.trans b.z) λt e=>m t (by rintro rfl;cases e);refine⟨r.trans a.z,a.zz,(c 3 (by decide)).trans a.s3,(c 4 (by decide)).trans a.s4,(c 8 (by decide)).trans a.s8,(c 9 (by decide)).trans a.s9,(c 18 (by decide)).trans a.s18,(c 19 (by decide)).trans a.s19,by rw[n];rfl,λt e=>(c t (by rintro rfl;cases e)).trans (a.sv t e)⟩
def aet{val:Nat->Value}{A:au->au->Goroutine->World->Prop}{r:Nat}(h:bK prog true (X.Rl R) (X.Gr R) (λS g w=>(S=λ_=>False)/\tW prog eN.tWg X.Wg X.C X.n2 val A r R g w) (λ_=>False) g w):tW prog eN.tWg X.Wg X.C X.n2 val A r R g w:=by
 cases r with
 |zero=>exact bK.bind (X.nh _).fU (X.nh _).tr h λS g w ⟨hS,h⟩=>by subst hS;exact h
 |succ r=>exact bK.bind (X.nh _).fU (X.nh _).tr h λS g w ⟨hS,h⟩=>by subst hS;exact h
def ac8(f:X.Ok){x:Int->List iR->Int->ByteArray×Bool}(N:eP x)(u:∀k nm,x k [] nm=(⟨#[]⟩,false)){val:Nat->Value}(i:∀B nm,X.dH[B]?=some nm->val (2*B)=.string (x X.key X.l nm).1/\val (2*B+1)=.bool (x X.key X.l nm).2) :
  ∀(r j:Nat) (R:au) (T:Array Value) (w:World),j+r=X.n2->X.At R w->WgLive eN.tWg X.Wg w->X.Sl T j->tW prog eN.tWg X.Wg X.C X.n2 val (ac7 X xs bs) r R (Gl (FQ cF T (.code jv::kB)::xs) bs) w
 |0,j,R,T,w,hj,hat,o,hs=>by
  obtain rfl:j=X.n2:=hj;have L:X.Inv R (λ_=>False) w:=⟨λb h=>h.elim,hat,o,λb _ h=>h⟩;exact bK.bind (X.nh R).fU (X.nh R).tr (Mx.lift (an2 hs) L) λS g w ⟨⟨T',c,hS,hg⟩,d⟩=>by
   rw[hg];exact agO c d
 |r+1,j,R,T,w,hj,hat,o,hs=>by
  have l:j<X.n2:=by omega
  have L:X.Inv R (λ_=>False) w:=⟨λb h=>h.elim,hat,o,λb _ h=>h⟩;have E:X.n2-(r+1)=j:=by omega
  show bK prog true (X.Rl R) (X.Gr R) (λS g w=>apX prog eN.tWg X.Wg X.C X.n2 val (X.n2-(r+1)) (tW prog eN.tWg X.Wg X.C X.n2 val (ac7 X xs bs) r) R S g w) (λ_=>False) _ w;rw[E];refine bK.bind (X.nh R).fU (X.nh R).tr (Mx.lift (an0 f hs l hat) L) λS g w ⟨⟨T',bi,bn,nm,hnm,c,d10,d11,si,sn,ci,cn,hg⟩,d⟩=> ?_;rw[hg,an3];have hI:=d.at_.nm f hnm;obtain⟨-, -, -,V⟩:=hI;refine anY (b₀:=FQ cF #[] []) (a₀:=⟨T',[]⟩) (ops₀:=aaz) (i₀:=0) (rest₀:=[]) (k₀:=kA) (cs:=xs++bs) aaB (Q:=λw=>X.Inv R S w/\w.heap[bi]?=some (.cells #[.int .i64 j] 3)/\w.heap[bn]?=some (.cells #[.int .i64 nm] 3))
   (λw q h H=>⟨h.1.rely H,(H.keep bi (.inl si)).trans h.2.1,(H.keep bn (.inl sn)).trans h.2.2⟩) (λw v z h W=> ?_) (λw o h=> ?_) w d.live ⟨d,ci,cn⟩
  .have s:∀b,S b->(w.setCell (stA X.Wg) (.int .u64 z)).heap[b]?=w.heap[b]?:=λb n=>bu _ _ _ λe=>(h.1.s b n).2.2 e.symm;refine⟨⟨λb n=>⟨by rw[be];exact(h.1.s b n).1,(h.1.s b n).2⟩,h.1.at_.wg _ _ rfl, ?_,h.1.sr⟩,(s bi si).trans h.2.1,(s bn sn).trans h.2.2⟩;exact⟨z,0,W.setSt z⟩
  .obtain⟨p6,a6,P⟩:=azh;have O:G ((FQ cF #[] []).at ((⟨T',[]⟩:Act).put ((aaz[0]?).bind (·.dst)) (.tuple #[])) (.inRegion aaz []::kA)) (xs++bs)=Gl (FQ cF (T'.setIfInBounds 25 (.tuple #[])) (.inRegion aaz []::kA)::xs) bs:=by rw[P];rfl
   rw[O];have m:∀t,t≠25->(T'.setIfInBounds 25 (.tuple #[])).getD t undef=T'.getD t undef:=λt A=>by rw[aI (by rw[c.z];exact bd (by decide) c.zz),da A]
   have I:X.Sl (T'.setIfInBounds 25 (.tuple #[])) j:=c.keep (by simpa using c.z) λt A=>m t (by rintro rfl;cases A);refine bK.weak (λ_ _ _ h=>h) (λ_ _ _ _ _ h=>h) (λp g q h=> ?_) (Mx.lift (an4 (nm:=nm) I ((m 10 (by decide)).trans d10) ((m 11 (by decide)).trans d11) si sn h.2.1 h.2.2) h.1);obtain⟨⟨rfl,D,J,T2,y,F,rfl⟩,M⟩:=h;have a:X.At (λb=>p b\/R b) q:=M.at_.grow M.s;refine⟨rfl,_,_,λb=>p b\/R b,ato F,λ_ h=>h,λZ o=> ?_, ?_⟩
   .obtain⟨v0,U⟩:=i j nm hnm
    let Y:Wx:=⟨q,X.Wg,X.C,X.n2,j,λb=>p b\/R b,X.Rg,X.key,X.A,X.n,X.c,X.l,nm,X.bk,X.bp,bn,X.ba,bi,eN.tWg⟩
    have C:Y.Ok:=⟨ap f.hN a.sz,f.gl,a.gr f,f.k1,f.k2,f.hl,f.hc,f.hcm,a.rd f,a.rgp f,f.al,V,l,λb n=>a.rows b (f.vr b n),⟨a.rk.1,(tT a.rk.2).1⟩,⟨a.rp.1,(tT a.rp.2).1⟩,⟨.inl sn,(tT J).1⟩,⟨a.ra.1,(tT a.ra.2).1⟩,⟨.inl si,(tT D).1⟩,a.rlt,a.rC,a.rW,f.cW⟩;have K:Y.Inv (λ_=>False) q:=⟨λ_ _=>rfl,λb h=>h.elim,a.ltC,a.ltW,am _,o,Z,rfl⟩;exact ail (X:=Y) C N u rfl v0 U K
   .-- the rounds that are left
    have jy:X.Inv (λb=>p b\/R b) (λ_=>False) q:=⟨λb h=>h.elim,a,M.live,λb _ h=>h⟩;have hx:=Mx.lift (an5 (S:=λ_=>False) (xs:=xs) (bs:=bs) f y l) jy;have k:∀(g:Goroutine) (w:World) (S:au),((S=λ_=>False)/\∃T',X.Sl T' (j+1)/\g=Gl (FQ cF T' (.code jv::kB)::xs) bs)/\X.Inv (λb=>p b\/R b) S w->S=(λ_=>False)/\tW prog eN.tWg X.Wg X.C X.n2 val (ac7 X xs bs) r (λb=>p b\/R b) g w:=by
     rintro g w S ⟨⟨rfl,T',c,rfl⟩,d⟩;exact⟨rfl,ac8 f N u i r (j+1) _ T' w (by omega) d.at_ d.live c⟩
    exact aet (bK.weak (λ_ _ _ h=>h) (λ_ _ _ _ _ h=>h) (λS g w h=>k g w S h) hx)
end
def akv(Rr:au):pw RlB Rr:=⟨λ_ w=>atRel_refl w,λ_ a b c h k=>atRel_trans a b c h k,λ_ w f ⟨d,e⟩=>by subst e;exact⟨λ_ _=>rfl,am _,rfl⟩⟩
def akw(aZ S:au)(w:World):Prop:=(∀b,S b->¬aZ b)/\∀b,aZ b->b<w.heap.size
def akw.rely{S : au}(h:akw aZ S w)(c:RlB S w V):akw aZ S V:=⟨h.1,λb a=>bd (h.2 b a) ((akv S).rl _ _ _ c).2.1⟩
def ap6{Rr S : au}{w' : World}(r:∀b,Rr b->¬aZ b)(i:akw aZ S w)(g:px Rr S T w w' es):GrB aZ S T w w' es/\akw aZ T w':=by
 obtain⟨t,l,u,rfl,o⟩:=g;have m:∀b,S b\/(w.heap.size<=b/\b<w'.heap.size)->¬aZ b:=λb c d=>by
  rcases c with c|c
  .exact i.1 b c d
  .have:=i.2 b d;omega
 refine⟨⟨l,λe s=> ?_⟩,m,λb c=>bd (i.2 b c) l⟩;obtain⟨p,k,q⟩:=o e s;refine⟨λx n ⟨a,hl,d⟩=> ?_,λj=> ?_,λj=> ?_,q⟩
 .rcases p x n with h|⟨h, -⟩
  .rw[hl] at h;exact m _ h d
  .rw[hl] at h;exact r _ h d
 .rcases k _ j with⟨f,e⟩|e<;>cases e
 .rcases k _ j with⟨f,e⟩|e<;>cases e
section
variable {gs:Array Goroutine} {w:World} {sl:Option (Nat×Nat)} {t:Trace} {q:Nat->Nat} {aZ V:au} {T:Array Value} {xs:List Frame}
def aCp (J:gs[0]?=some (Gl (FQ cF X [.code abG]::xs) [])) (W:45<=X.size)   (hn:(Y:Int)<=2147483647) (M:X.getD 0 undef=.int .i64 key) (s1:X.getD 1 undef=.slice A n c) (L:X.getD 2 undef=.slice R Y i)
  (P:Leavers prog t gs q) (hP:eT aZ (gs.size-1) w.heap.size t) (x:∀b,aZ b->b<w.heap.size) (I:∀b,V b->b<w.heap.size/\¬aZ b) :
  ∃(N:Nat) (l:Array Goroutine) (f:World) (r:Option (Nat×Nat)) (s:Trace) (y:Nat->Nat) (T:Array Value) (m j C o:Nat) (p:Array Value),runNT prog N (crowd gs w sl) t=(.next (crowd l f r),s)/\l.size=gs.size/\
   l[0]?=some (Gl (FQ cF T [.code (.region 2 oA false),.code gQ]::xs) [])/\Leavers prog s l y/\eT aZ (gs.size-1) f.heap.size s/\T.size=X.size/\(∀t,(t<3\/aaA t=true)->T.getD t undef=X.getD t undef)/\
   (T.getD 3 undef=.pointer (some ⟨m,0,none⟩)/\T.getD 4 undef=.pointer (some ⟨j,0,none⟩)/\T.getD 6 undef=.slice none 0 0/\T.getD 7 undef=.bool false/\T.getD 8 undef=.pointer (some ⟨o,0,none⟩)/\T.getD 17 undef=.slice (some ⟨C,0,none⟩) Y Y)/\
   ((∀b,V b->f.heap[b]?=w.heap[b]?)/\w.heap.size<=f.heap.size/\f.ou=w.ou)/\(w.heap.size<=m/\m<j/\j<C/\C<o)/\f.heap[m]?=some (.cells #[.int .i64 key] 3)/\f.heap[j]?=some (.cells #[.slice A n c] 23)/\p.size=2*Y/\f.heap[C]?=some (.cells p 140)/\f.heap[o]?=some (.cells #[.slice (some ⟨C,0,none⟩) Y Y] 127):=by
 have Z:=ako (xs:=xs) (base:=[]) (k:=[]) (S:=λ_=>False) (w0:=w) (Rr:=V)
  (St:=λ_ g f=>∃(T:Array Value) (m j C o:Nat) (p:Array Value),g=Gl (FQ cF T [.code (.region 2 oA false),.code gQ]::xs) []/\T.size=X.size/\(∀t,(t<3\/aaA t=true)->T.getD t undef=X.getD t undef)/\
   (T.getD 3 undef=.pointer (some ⟨m,0,none⟩)/\T.getD 4 undef=.pointer (some ⟨j,0,none⟩)/\T.getD 6 undef=.slice none 0 0/\T.getD 7 undef=.bool false/\T.getD 8 undef=.pointer (some ⟨o,0,none⟩)/\T.getD 17 undef=.slice (some ⟨C,0,none⟩) Y Y)/\
   ((∀b,V b->f.heap[b]?=w.heap[b]?)/\w.heap.size<=f.heap.size/\f.ou=w.ou)/\(w.heap.size<=m/\m<j/\j<C/\C<o)/\f.heap[m]?=some (.cells #[.int .i64 key] 3)/\f.heap[j]?=some (.cells #[.slice A n c] 23)/\p.size=2*Y/\f.heap[C]?=some (.cells p 140)/\f.heap[o]?=some (.cells #[.slice (some ⟨C,0,none⟩) Y Y] 127))
  (akv V) W rfl hn M s1 L λT S' f m j C o p B K F v U Q cp E cC O=>.stop λw1 ⟨d,e⟩=>by
   subst e;exact⟨T,m,j,C,o,p,rfl,B,K,F,⟨λb u=>v.keep b (I b u).1 (.inr u),v.size,v.os⟩,U,Q,cp,E,cC,O⟩
 have H:=bK.inv (Gr2:=GrB aZ) (Inv:=akw aZ) (afY:=λ_ g f=>_) (λ_ _ _ h D=>h.rely D) (λ_ _ _ _ _ h g=>ap6 (λb u=>(I b u).2) h g) (λ_ _ _ h _=>h) Z ⟨λ_ h=>h.elim,x⟩;obtain⟨N,l,a,f,r,s,y,S',D,B,ha,⟨T,m,j,C,o,p,rfl,F⟩,G,z⟩:=aad (sl:=sl) aaQ J P hP H;exact⟨N,l,f,r,s,y,T,m,j,C,o,p,D,B,ha,G,z,F⟩
def GrE(_ _:au)(w w':World)(es:Array Event):Prop:=es=#[]/\w.heap.size<=w'.heap.size
def afu{B0:Nat}:axc GrE (λK B t=>eT aZ K B t/\∀op∈t,op.act.low B0) where
 own:=λ{K t S l w k f} fn c ⟨b,hz⟩ ⟨hP,hl⟩=>by
  subst b;refine⟨hP.own hz λe h=>by simp at h,λop a=> ?_⟩;rcases vR.1 a with h|h
  .exact hl op h
  .obtain⟨e,b, -⟩:=mT h;simp at b
 mute:=λ{K B t g f} fn c i j d ⟨hP,hl⟩=>by
  refine⟨hP.mute i j d,seen_app hl λop a=> ?_⟩;obtain⟨e,b,rfl⟩:=mT a;exact low_mute (d e b) B0
def aCq(C:gs[0]?=some (Gl (FQ cF T [.code (.region 2 oA false),.code gQ]::xs) []))(v:45<=T.size)(F:Leavers prog t gs q)(x:eT aZ (gs.size-1) w.heap.size t) :
  ∃(N:Nat) (b:Array Goroutine) (c:World) (d:Option (Nat×Nat)) (e:Trace) (s:Nat->Nat) (T':Array Value),runNT prog N (crowd gs w sl) t=(.next (crowd b c d),e)/\b.size=gs.size/\b[0]?=some (Gl (FQ cF T' [.code gQ]::xs) [])/\Leavers prog e b s/\
   eT aZ (gs.size-1) c.heap.size e/\(∀op∈e,op.act.low w.heap.size)/\T'.size=T.size/\T'.getD 9 undef=.pointer (some ⟨w.heap.size,0,none⟩)/\(∀t,t≠9->T'.getD t undef=T.getD t undef)/\c.heap=w.heap.push (wgBlock eN.tWg 0 0)/\c.ou=w.ou:=by
 obtain⟨R,Q,u⟩:=aB8;obtain⟨i,z,J,l,M⟩:=atu;have o:List.range oA.size=[0]:=rfl;have K:bK prog true RlB GrE (λ_ g c=>g=Gl (FQ cF (T.setIfInBounds 9 (.pointer (some ⟨w.heap.size,0,none⟩))) [.code gQ]::xs) []/\c.heap=w.heap.push (wgBlock eN.tWg 0 0)/\c.ou=w.ou) (λ_=>False) (Gl (FQ cF T [.code (.region 2 oA false),.code gQ]::xs) []) w:=by
  refine .step rfl λy ⟨d1,e1⟩=>⟨Gl (FQ cF T [.inRegion oA [0],.code gQ]::xs) [],y,#[],λ_=>False,by simp[Gl,stepG,stepG.exec,o],⟨rfl,am _⟩, ?_⟩;refine .step rfl λj ⟨d2,e2⟩=> ?_;have f:=amD (m:=true) (fr:=FQ cF T [.inRegion oA [0],.code gQ]) (xs:=xs) (base:=[]) (w:=j) rfl rfl rfl rfl u rfl (aac (w:=j) J l);rw[wT,M] at f;refine⟨_,_,#[],λ_=>False,f,⟨rfl,by rw[mx];omega⟩, ?_⟩;have k:j.heap.size=w.heap.size:=by rw[e2,e1];rfl
  have H:Frame.finish (FQ cF T [.inRegion oA [0],.code gQ]) (.pointer (some ⟨j.heap.size,0,none⟩))=FQ cF (T.setIfInBounds 9 (.pointer (some ⟨w.heap.size,0,none⟩))) [.inRegion oA [],.code gQ]:=by
   simp only[Frame.finish,u,qM,k]
  rw[H];refine .step rfl λB ⟨d3,e3⟩=>⟨Gl (FQ cF (T.setIfInBounds 9 (.pointer (some ⟨w.heap.size,0,none⟩))) [.code gQ]::xs) [],B,#[],λ_=>False,by simp[Gl,stepG,stepG.exec],⟨rfl,am _⟩,.stop λO ⟨d4,e4⟩=>⟨rfl, ?_, ?_⟩⟩
  .rw[e4,e3,e2,e1];rfl
  .rw[e4,e3,e2,e1];rfl
 obtain⟨N,b,a,c,d,e,s,P,I,G,L,⟨rfl,E,A⟩,r,n,p⟩:=aad (sl:=sl) (afu (aZ:=aZ) (B0:=w.heap.size)) C F ⟨x,x.seen⟩ K;exact⟨N,b,c,d,e,s,_,I,G,L,r,n,p,by simp,by rw[aI (bd (by decide) v),eg rfl],λt D=>by rw[aI (bd (by decide) v),da D],E,A⟩
end
def lv{N : Nat}{m m':Machine}{a : Trace}{r:Stepped×Trace}(h:runNT P N m t=(.next m',a))(b:runNT P Y m' a=r):runNT P (N+Y) m t=r:=by
 rw[runNT_add,h];exact b
section
variable {X:Mx} {R:au} {T:Array Value} {w:World} {xs bs:List Frame}
structure Mx.Pre (X:Mx) (T:Array Value):Prop where
 z:T.size=X.Z
 zz:45<=X.Z
 s2:T.getD 2 undef=.slice X.A2 X.n2 X.c2
 s3:T.getD 3 undef=.pointer (some ⟨X.bk,0,none⟩)
 s4:T.getD 4 undef=.pointer (some ⟨X.bp,0,none⟩)
 s8:T.getD 8 undef=.pointer (some ⟨X.ba,0,none⟩)
 s9:T.getD 9 undef=.pointer (some ⟨X.Wg,0,none⟩)
 sv:∀t,akq t=true->T.getD t undef=X.sv t
def aim(a:X.Pre T):bK prog true (X.Rl R) (px R) (λS g _=>(S=λ_=>False)/\∃c,X.Sl c 0/\g=Gl (FQ cF c (.code jv::kB)::xs) bs) (λ_=>False) (Gl (FQ cF T [.code gQ]::xs) bs) w:=by
 have H:=X.nh R;unfold gQ;refine eG H.cmp (eG H.cmp (fY H.cmp (l:=[0,1,2]) rfl λq o=>atv H a.zz a.z a.s2 λc k b e d f=>aes H.cmp (amI H.cmp λm n=>.stop λp j=>⟨rfl,c, ?_,rfl⟩))) w (H.fU _ _);refine⟨k,a.zz,(b 3 (by decide) (by decide) (by decide)).trans a.s3,(b 4 (by decide) (by decide) (by decide)).trans a.s4,(b 8 (by decide) (by decide) (by decide)).trans a.s8,(b 9 (by decide) (by decide) (by decide)).trans a.s9,e,d,f,λt i=>(b t ?_ ?_ ?_).trans (a.sv t i)⟩<;>(rintro rfl;cases i)
end
def afv(h:∀op∈t,op.act.low a.block):NoRelease a t:=λi d=>by
 unfold Trace.act? at d;obtain⟨op,e,b⟩:=lw.1 d;have c:=h op (qI e);rw[b] at c;exact Nat.lt_irrefl _ c
section
variable {X:Mx} {R:au} {gs:Array Goroutine} {w:World} {sl:Option (Nat×Nat)} {t:Trace} {q:Nat->Nat} {aZ:au} {T:Array Value} {xs:List Frame}
def aCr (D:X.Ok) (hF:eP Z) (L:∀a4 nm,Z a4 [] nm=(⟨#[]⟩,false)) (h0:gs[0]?=some (Gl (FQ cF T [.code gQ]::xs) [])) (hs:X.Pre T)
  (hL:Leavers prog t gs q) (hP:eT aZ (gs.size-1) w.heap.size t) (v:∀op∈t,op.act.low X.Wg) (fD:WgAt eN.tWg X.Wg w 0 0) (a5:PayAt X.C (2*X.n2) w) (j:X.At R w) (u:∀b,aZ b->¬R b/\b≠X.C/\b<w.heap.size) :
  ∃(N:Nat) (n:Array Goroutine) (m:World) (an:Option (Nat×Nat)) (G:Trace) (q':Nat->Nat) (T':Array Value) (R':au),runNT prog N (crowd gs w sl) t=(.next (crowd n m an),G)/\
   n[0]?=some (Gl (FQ cF T' [.code cU]::xs) [])/\Leavers prog G n q'/\eT (λb=>b=X.Wg\/aZ b) (n.size-1) m.heap.size G/\X.Sl T' X.n2/\X.At R' m/\PayAt X.C (2*X.n2) m/\
   (∀f nm,X.dH[f]?=some nm->Has X.C (2*f) (.string (Z X.key X.l nm).1) m/\Has X.C (2*f+1) (.bool (Z X.key X.l nm).2) m)/\(∀b,b=X.Wg\/aZ b->b<m.heap.size):=by
 have iw:0<gs.size:=(dl.1 h0).1
 let val:Nat->Value:=λi=>if i % 2=0 then .string (Z X.key X.l (X.dH.getD (i / 2) 0)).1 else .bool (Z X.key X.l (X.dH.getD (i / 2) 0)).2
 have o:∀f nm,X.dH[f]?=some nm->val (2*f)=.string (Z X.key X.l nm).1/\val (2*f+1)=.bool (Z X.key X.l nm).2:=λf nm h=>by
  have e1:2*f % 2=0:=by omega
  have M:(2*f+1) % 2≠0:=by omega
  have e3:2*f / 2=f:=by omega
  have e4:(2*f+1) / 2=f:=by omega
  have e5:X.dH.getD f 0=nm:=by rw[sZ,h];rfl
  exact⟨by simp only[val,e1,e3,e5,pv],by simp only[val,da M,e4,e5]⟩
 have hi:X.Inv R (λ_=>False) w:=⟨λb h=>h.elim,j,⟨_,_,fD⟩,λb _ h=>h⟩;have P:tW prog eN.tWg X.Wg X.C X.n2 val (ac7 X xs []) X.n2 R (Gl (FQ cF T [.code gQ]::xs) []) w:=
  aet (bK.weak (λ_ _ _ h=>h) (λ_ _ _ _ _ h=>h) (λS g w h=>by
   obtain⟨⟨rfl,s,r,rfl⟩,y⟩:=h;exact⟨rfl,ac8 D hF L o X.n2 0 R s w (by omega) y.at_ y.live r⟩) (Mx.lift (aim hs) hi))
 have a7:Sets X.Wg X.C aZ w R (λ_=>False) (λ_ _=>False) (λ_ _=>False):=
  ⟨j.rlt,λb h=>h.elim,λ_ b h=>h.elim,λ_ b h=>h.elim,λb _ h=>h,λ_ b h=>h.elim,λ_ b h=>h.elim,λ_ _ b h=>h.elim,j.ltW,j.ltC,D.cW,j.rW,λh=>h,λ_ h=>h,j.rC,λh=>h,λ_ h=>h,λb h=>(u b h).1,λ_ _ h=>h,λ_ _ _ h=>h,λh=>(u _ h).2.1 rfl,λb h=>(u b h).2.2⟩
 have ax:=D.n2m;obtain⟨N,m',t1,O,V,C,ad,a,q1,z,S1,rfl,Q,ao,⟨s,r,a8⟩,a0,J,a1,I, -,K⟩:=
  ain (sl:=sl) (K0:=gs.size-1) (Fin:=azk X xs []) (by omega) (λR S g w ⟨_,T,_,T2,e,_⟩=>by rw[e];rfl) (λR S g w h=>atD h) h0 (by omega) hL hP P fD a5
   (λi x hx a Q e=>afZ (S:=λb=>b=X.Wg) v hx (λb H=>pe H.symm) (by rw[Q];exact e)) (afv v) a7
 have hG:bK prog true RlB (λS S' w m es=>m=w/\es=#[]/\S'=S) (λ_ g w=>(g=Gl (FQ cF s [.code cU]::xs) []/\X.At z w)) (λ_=>False) a C:=by
  refine bK.bind (λ_ w=>atRel_refl w) (λ_ a b c h k=>atRel_trans a b c h k) (bK.abF (R:=RM eN.tWg X.Wg X.C X.n2 z S1) (Stop:=λS g w=>S=(λ_=>False)/\(g=Gl (FQ cF s (.inRegion jO []::[.code cU])::xs) []/\WgLive eN.tWg X.Wg w)/\X.At z w) (λw C ⟨d,e⟩=>e▸jN.at _ _ _ _ _) (λw m es h=>⟨h.1,h.2,rfl⟩) (λg w h=>⟨rfl,h⟩) a8) ?_;rintro S g w ⟨rfl,⟨rfl, -⟩,j⟩;exact .step rfl λE ⟨d2,M⟩=>⟨Gl (FQ cF s [.code cU]::xs) [],E,#[],λ_=>False,by simp[Gl,stepG,stepG.exec],⟨rfl,rfl,rfl⟩,.stop λw3 ⟨d3,e3⟩=>⟨rfl,by rw[e3,M];exact j.move (λ_ _=>rfl) (am _) rfl⟩⟩
 have af:=bK.inv (Gr2:=GrB λb=>b=X.Wg\/aZ b) (Inv:=λ_ w=>w.heap=C.heap) (afY:=λS g w=>(g=Gl (FQ cF s [.code cU]::xs) []/\X.At z w)/\w.heap=C.heap) (λ_ _ _ h ⟨d,e⟩=>by rw[e];exact h) (λ_ _ _ _ _ h g=>by
  obtain⟨rfl,rfl,rfl⟩:=g;exact⟨⟨am _,λe h=>by simp at h⟩,h⟩) (λ_ _ _ h k=>⟨h,k⟩) hG rfl
 have U:V.size-1=gs.size-1+X.n2:=by omega
 obtain⟨N2,a6,a2,E,aa,t2,q2,S2,F,W,a9,⟨⟨rfl,Y⟩,p⟩,al,a3⟩:=aad (sl:=ad) (aaQ (aZ:=λb=>b=X.Wg\/aZ b)) Q a0 (by rw[U];exact J) af;refine⟨N+N2,a6,E,aa,t2,q2,s,z, ?_,a9,al,by rw[W];exact a3,r,Y, ?_,λf nm B=> ?_,λb H=> ?_⟩
 .exact lv O F
 .obtain⟨cs,h1,h2⟩:=a1;exact⟨cs,by rw[p];exact h1,h2⟩
 .obtain⟨v0,v1⟩:=o f nm B;have gU:f<X.n2:=by rw[<-D.nn];exact(qv.1 B).1
  obtain⟨g0,g1⟩:=I f gU;rw[v0] at g0;rw[v1] at g1;have l:∀A,E.cell? A=C.cell? A:=λA=>gC (by rw[p]);exact⟨(l _).trans g0,(l _).trans g1⟩
 .rw[p];exact(K b (H.elim .inr .inl)).2.2.2
end
def JW(t:Nat):Bool:=t ==3||t ==4||t ==5||t ==9||t ==10||t ==11||t ==13||t ==15||t ==16||(decide (18<=t)&&decide (t<=28))
def atH:kH JW cU=true:=by kernel_rfl
def azp:kH JW (f139.body.getD .skip)=false:=by kernel_rfl
def azq:kH JW (f57.body.getD .skip)=false:=by kernel_rfl
def axd :Frame.enter prog cF X .normal=FQ cF (T0F X) [.code abG]:=by
 have a:prog.funcs[cF]?=some f57:=func57;unfold Frame.enter;rw[a];rfl
def aky{t : Array Value}(_:X.size=t.size)(h:∀i,JW i=false->X[i]?=t[i]?):results f57 X=results f57 t:=by
 have e:∀i,JW i=false->X.getD i undef=t.getD i undef:=λi c=>by rw[jn,jn,h i c]
 have a:=e 6 rfl;have b:=e 7 rfl;simp only[jn] at a b;simp[results,results57,a,b]
section
variable {gs:Array Goroutine} {w:World} {sl:Option (Nat×Nat)} {t:Trace} {q:Nat->Nat} {aZ:au}
def ap7 (hF:eP Z) (af:∀v nm,Z v [] nm=(⟨#[]⟩,false)) {R:List Frame->World->Prop} {c:Cfg} {ρ:Ren} {a O:Array Value} {m m':List Frame}
  (bw:dw ρ a O) (W:iV (ai true) ρ m m') (hc:c.l=Frame.enter (ai true) cF a .normal::m) (hw:WR ρ c.w w) (hg:GlR ρ) (hW:kh (ai true) R c)
  (h0:gs[0]?=some (Gl (Frame.enter prog cF O .normal::m') [])) (hL:Leavers prog t gs q) (hP:eT aZ (gs.size-1) w.heap.size t) (Y:∀b,aZ b->b<w.heap.size) (bS:∀b f,ρ.r b f->¬aZ f) :
  ∃(N:Nat) (B:Array Goroutine) (D:World) (c1:Option (Nat×Nat)) (t':Trace) (q':Nat->Nat) (Wg:Nat) (J:Cfg) (x:Ren) (l1 lR:List Frame),runNT prog N (crowd gs w sl) t=(.next (crowd B D c1),t')/\
   B[0]?=some (Gl lR [])/\Leavers prog t' B q'/\eT (λb=>b=Wg\/aZ b) (B.size-1) D.heap.size t'/\w.heap.size<=Wg/\(∀b,b=Wg\/aZ b->b<D.heap.size)/\
   iF (ai true) J c/\ρ.Le x/\iV (ai true) x J.l l1/\WR x J.w D/\kh (ai true) R J/\(∀b f,x.r b f->ρ.r b f\/(w.heap.size<=f/\f≠Wg))/\Rt prog JW l1 lR/\(∀b,b<w.heap.size->¬aZ b->D.heap[b]?=w.heap[b]?)/\D.ou=w.ou/\w.heap.size<=D.heap.size/\PkG ρ c.w w J.w D:=by
 obtain⟨v,A,n,cc,l,A2,n2,c2,dH,J,e,bf,bn,a0,a5⟩:=an6 hF bw W hc hw hg hW;have S:45<=(T0F O).size:=by simp only[T0F,sD,tk];omega
 rw[axd] at h0
 let V:au:=λb=>b<w.heap.size/\¬aZ b
 obtain⟨N1,c3,o,bb,t1,q1,T,bk,Q,C,P,cs,aF,aJ,a8,b6,a2,U,p,⟨u3,u4,u6,u7,u8,br⟩,⟨bN,a3,bz⟩,⟨lk,lp,lC,la⟩,ck,cp,b7,cC,ca⟩:=aCp (sl:=sl) (V:=V) h0 S e.n2m e.s0 e.s1 e.s2 hL hP Y λb d=>d;rw[<-aJ] at a2;obtain⟨N2,c4,w2,bX,t2,q2,T',aa,b1,c0,bi,a4,bO,b4,u9,bq,L,fu⟩:=aCq (sl:=bb) a8 (by rw[U];exact S) b6 a2;rw[<-b1] at a4;have bT:=jw cC;have oL:=jw ca;have s:∀b,b<o.heap.size->w2.heap[b]?=o.heap[b]?:=λb d=>by rw[L,qK,da (by omega)]
 have c5:w2.heap.size=o.heap.size+1:=by rw[L,Array.size_push]
 let X:Mx:=⟨w,o.heap.size,C,n2,λb=>∃a,ρ.r a b,v,A,n,cc,l,A2,c2,dH,bk,Q,P,λt=>T'.getD t undef,T'.size,V⟩
 have I:∀b,(∃a,ρ.r a b)->V b:=λb ⟨a,hab⟩=>⟨(hw.lt hab).2,bS a b hab⟩;have ok:X.Ok:=⟨hw.lf.2,λg bl=>⟨g,hg g bl⟩,e.k1,e.k2,e.ln,e.nc,e.cm,e.gl,e.rd,e.rg,e.al,e.al2,e.nm,e.nn,e.n2m,(by show C≠o.heap.size;omega),I⟩
 let R0:au:=λb=>V b\/b=bk\/b=Q\/b=P
 have bR:X.At R0 w2:=by
  refine⟨λb d=>(s b (bd d.1 a3)).trans (bN b d), ?_,fu.trans bz,λb d=>.inl d,⟨.inr (.inl rfl),(s bk (by omega)).trans ck⟩,⟨.inr (.inr (.inl rfl)),(s Q (by omega)).trans cp⟩,⟨.inr (.inr (.inr rfl)),(s P oL).trans ca⟩,λb d=> ?_,λd=> ?_,λd=> ?_, ?_, ?_⟩
  .show w.heap.size<=w2.heap.size;omega
  .rcases d with d|rfl|rfl|rfl
   .have:=d.1;omega
   all_goals omega
  .rcases d with d|d|d|d
   .have:C<w.heap.size:=d.1;omega
   .have:C=bk:=d;omega
   .have:C=Q:=d;omega
   .have:C=P:=d;omega
  .rcases d with d|d|d|d
   .have:o.heap.size<w.heap.size:=d.1;omega
   .have:o.heap.size=bk:=d;omega
   .have:o.heap.size=Q:=d;omega
   .have:o.heap.size=P:=d;omega
  .show C<_;omega
  .show o.heap.size<_;omega
 have r:∀t,t≠9->T'.getD t undef=T.getD t undef:=bq;have bL:X.Pre T':=⟨rfl,by show 45<=T'.size;omega,(r 2 (by decide)).trans ((p 2 (.inl (by decide))).trans e.s2),(r 3 (by decide)).trans u3,(r 4 (by decide)).trans u4,(r 8 (by decide)).trans u8,u9,λt ht=>rfl⟩;obtain⟨N3,b8,w3,ad,t3,q3,G,R3,ba,b0,ao,bp,F,k,⟨M,K,bA⟩,a6,a9⟩:=aCr (X:=X) (sl:=bX) ok hF af c0 bL bi a4 bO
  (by show w2.heap[o.heap.size]?=_;rw[L,qZ]) ⟨cs,(s C bT).trans cC,b7⟩ bR λb d=>by
   have lU:=Y b d;refine⟨λh=> ?_,(by show b≠C;omega),by omega⟩;rcases h with h|h|h|h
   .exact h.2 d
   all_goals omega
 have a7:w.heap.size<=w3.heap.size:=k.sz;have an:∀E nm,dH[E]?=some nm->M[2*E]?=some (.string (Z v l nm).1)/\M[2*E+1]?=some (.bool (Z v l nm).2):=λE nm h=>
  ⟨aip (A:=⟨C,2*E,none⟩) (z:=(0,0)) (t:=140) K (a6 E nm h).1,aip (A:=⟨C,2*E+1,none⟩) (z:=(0,0)) (t:=140) K (a6 E nm h).2⟩
 obtain⟨b5,T2,bg,bo,ay,ax,aH,H,t6,t7,t8,b3,bx⟩:=a5 w3 C P M (λb f d=>k.keep f (I f ⟨b,d⟩)) k.os a7 (by omega) (by omega) (by omega) K bA an k.ra.2;obtain⟨_,_,y,ys,e1,aU⟩:=W.ne';have b2:G.size=(T0F O).size:=F.z.trans (b4.trans U);have bt:∀i,i<(T0F O).size->G.getD i undef=T2.getD i undef->G[i]?=T2[i]?:=λi hi h=>by
  rw[vM (by omega),vM (by omega),h]
 refine⟨N1+(N2+N3),b8,w3,ad,t3,q3,o.heap.size,J,b5,FQ cF T2 [.code cU]::m',FQ cF G [.code cU]::m',lv aF (lv aa ba),b0,ao,bp,a3,a9,bf,bg,bo,ay,bn,λb f d=> ?_, ?_,λb d hn=>k.keep b ⟨d,hn⟩,k.os,a7,λb f d a1=>⟨(a0 b f d a1).1,λi u hu bI=>⟨(a0 b f d a1).2 i u hu bI,js (k.keep f (I f ⟨b,d⟩))⟩⟩⟩
 .rcases ax b f d with h|rfl|rfl
  .exact .inl h
  .exact .inr ⟨by omega,by omega⟩
  .exact .inr ⟨by omega,by omega⟩
 .refine .inr ⟨FQ cF T2 [.code cU],FQ cF G [.code cU],m',rfl,rfl,by rw[aU];simp,⟨rfl,rfl,⟨rfl,rfl⟩,rfl,⟨rfl,rfl⟩,⟨rfl,rfl⟩,b2.trans aH.symm,λi hi=> ?_, ?_⟩,_,func57,λt t' hz h=>aky hz h⟩
  .refine(pr i (T0F O).size).elim (λaR=> ?_) λoM=> ?_
   case refine_2=> 
    show G[i]?=T2[i]?;rw[qk (by omega),qk (by omega)]
   have al:i=0\/i=1\/i=2\/i=6\/i=7\/i=8\/i=17\/aaA i=true:=by
    simp only[JW,wC,dk,sW,tA] at hi;simp only[aaA,rj,oE,rb];omega
   refine bt i aR ?_;have j:∀t,akq t=true->G.getD t undef=T'.getD t undef:=F.sv;rcases al with rfl|rfl|rfl|rfl|rfl|rfl|rfl|hid
   .rw[j 0 rfl,r 0 (by decide),p 0 (.inl (by decide)),H 0 (by decide)]
   .rw[j 1 rfl,r 1 (by decide),p 1 (.inl (by decide)),H 1 (by decide)]
   .rw[j 2 rfl,r 2 (by decide),p 2 (.inl (by decide)),H 2 (by decide)]
   .rw[j 6 rfl,r 6 (by decide),u6,t6]
   .rw[j 7 rfl,r 7 (by decide),u7,t7]
   .rw[F.s8,t8]
   .rw[j 17 rfl,r 17 (by decide),br,b3]
   .have b9:akq i=true:=by simp only[akq,hid,Bool.or_true]
    rw[j i b9,r i (by rintro rfl;cases hid),p i (.inr hid),bx i hid]
  .simp only[qF,vQ,uD,mo];exact atH
end
structure amJ (R:List Frame->World->Prop) (W:World) (S0:au) (aZ:au) (ρ:Ren) (c:Cfg) (w:World):Prop where
 lax:ρ.lax=false
 wr:WR ρ c.w w
 gl:GlR ρ
 will:kh (ai true) R c
 rng:∀b b',ρ.r b b'->S0 b'\/(W.heap.size<=b'/\¬aZ b')
 sh:∀b,aZ b->W.heap.size<=b/\b<w.heap.size
 s0:∀b,S0 b->b<W.heap.size
 keep:∀b,b<W.heap.size->¬S0 b->w.heap[b]?=W.heap[b]?
 os:w.ou=W.ou
 sz:W.heap.size<=w.heap.size
structure akB (W:World) (S0 aZ S:au) (w:World):Prop where
 s:∀b,S b->S0 b\/(W.heap.size<=b/\¬aZ b)
 sh:∀b,aZ b->b<w.heap.size
 keep:∀b,b<W.heap.size->¬S0 b->w.heap[b]?=W.heap[b]?
 os:w.ou=W.ou
 sz:W.heap.size<=w.heap.size
section
variable {W:World} {S0 aZ S S':au} {w w':World} {es:Array Event}
def akB.rely(h:akB W S0 aZ S w)(a:RlB S w w'):akB W S0 aZ S w':=by
 obtain⟨d,rfl⟩:=a;exact⟨h.s,h.sh,h.keep,h.os,h.sz⟩
def akB.step(f:∀b,S0 b->b<W.heap.size)(i:∀b,aZ b->W.heap.size<=b)(h:akB W S0 aZ S w)(g:px (λ_=>False) S S' w w' es):GrB aZ S S' w w' es/\akB W S0 aZ S' w':=by
 have k:akw aZ S w:=⟨λb a c=>(h.s b a).elim (λx=>by have:=f b x;have:=i b c;omega) λx=>x.2 c,h.sh⟩;obtain⟨m,e⟩:=ap6 (λ_ h=>h.elim) k g;obtain⟨j,l,n,rfl,o⟩:=g;refine⟨m,λb a=> ?_,e.2,λb a d=> ?_,n.trans h.os,ap h.sz l⟩
 .rcases a with a|a
  .exact h.s b a
  .exact .inr ⟨ap h.sz a.1,λc=>by have:=h.sh b c;omega⟩
 .rw[j b (bd a h.sz) λc=> ?_]
  .exact h.keep b a d
  .rcases h.s b c with x|x
   .exact d x
   .omega
end
theorem ap9{fv:Int->List iR->Int->ByteArray×Bool}(hF:eP fv)(hF0:∀key nm,fv key [] nm=(⟨#[]⟩,false)){R:List Frame->World->Prop}{W:World}{S0:au}{c:Cfg}(akC:Acc (iF (ai true)) c) :
  ∀{ρ:Ren} {aZ:au} {l' lR:List Frame} {w:World} {gs:Array Goroutine} {sl:Option (Nat×Nat)} {t:Trace} {q:Nat->Nat},amJ R W S0 aZ ρ c w->iV (ai true) ρ c.l l'->Rt prog JW l' lR->gs[0]?=some (Gl lR [])->Leavers prog t gs q->eT aZ (gs.size-1) w.heap.size t->
   ∃(N:Nat) (gs':Array Goroutine) (w':World) (sl':Option (Nat×Nat)) (t':Trace) (q':Nat->Nat) (azu:au) (c1:Cfg) (ρ1:Ren) (l1:List Frame),runNT prog N (crowd gs w sl) t=(.next (crowd gs' w' sl'),t')/\
    gs'[0]?=some (Gl l1 [])/\Leavers prog t' gs' q'/\eT azu (gs'.size-1) w'.heap.size t'/\amJ R W S0 azu ρ1 c1 w'/\py c1.l/\iV (ai true) ρ1 c1.l l1/\ρ.Le ρ1/\PkG ρ c.w w c1.w w':=by
 induction akC with
 |intro c _ ih=>
  intro ρ aZ l' lR w gs sl t q h hst hR h0 hL hP;have akC:Acc (iF (ai true)) c:=h.will.acc.transGen;have Hb:=akv (λ_=>False);have axg:air (ai true) R (λ_=>False) (λb=>S0 b\/(W.heap.size<=b/\¬aZ b)) ρ c l' w:=⟨hst,h.wr,h.gl,h.will,λb b' hb=>.inl (h.rng b b' hb)⟩;have aqa:=ais (mr true) (avV true) Hb.fU Hb.tr Hb.rl Hb.cmp.gr (avW azp azq) (af0 Hb.cmp) (main:=true) (base:=[]) akC axg hR;have hG:=bK.inv (Gr2:=GrB aZ) (Inv:=akB W S0 aZ) (λ_ _ _ a b=>a.rely b) (λ_ _ _ _ _ a b=>a.step h.s0 (λb hb=>(h.sh b hb).1) b) (λ_ _ _ a b=>And.intro a b) aqa ⟨λb hb=>hb,λb hb=>(h.sh b hb).2,h.keep,h.os,h.sz⟩;obtain⟨N,gs1,a1,w1,sl1,t1,q1,S1,hr1,hz1,ha1,⟨⟨c1,ρ1,l1,hor,hle, -,rfl,cN,hg1,hW1,pz,atI,hend⟩,mn⟩,hL1,hP1⟩:=aad (sl:=sl) aaQ h0 hL hP hG;rw[<-hz1] at hP1;have agP:∀b b',ρ1.r b b'->S0 b'\/(W.heap.size<=b'/\¬aZ b'):=λb b' hb=>(pz b b' hb).elim (mn.s b') λx=>x.1.elim;have azv:ρ1.lax=false:=hle.lax.symm.trans h.lax;rcases hend with⟨hf,an7⟩|⟨a,a',m,m',hva,aCA,hc1,hl1⟩
  .exact⟨N,gs1,w1,sl1,t1,q1,aZ,c1,ρ1,l1,hr1,ha1,hL1,hP1,⟨azv,cN,hg1,hW1,agP,λb hb=>⟨(h.sh b hb).1,mn.sh b hb⟩,h.s0,mn.keep,mn.os,mn.sz⟩,hf,an7,hle,atI⟩
  .rw[hl1] at ha1;have hns:∀b b',ρ1.r b b'->¬aZ b':=λb b' hb hs=>(agP b b' hb).elim (λx=>by have:=h.s0 _ x;have:=(h.sh _ hs).1;omega) λx=>x.2 hs;obtain⟨N2,gs2,w2,sl2,t2,q2,Wg,c2,ρ2,l2,lR2,hr2,ha2,hL2,hP2,hWg,aCB,avX,atJ,ait,hw2,hW2,azw,hR2,hk2,fu,hz2,aqb⟩:=ap7 (sl:=sl1) hF hF0 hva aCA hc1 cN hg1 hW1 ha1 hL1 hP1 mn.sh hns;have ap8:iF (ai true) c2 c:=by
    rcases hor with e|e
    .rw[<-e];exact avX
    .exact tD avX e
   have hS2:amJ R W S0 (λb=>b=Wg\/aZ b) ρ2 c2 w2:=by
    refine⟨atJ.lax.symm.trans azv,hw2,hg1.mono atJ,hW2,λb b' hb=> ?_,λb hb=>⟨?_,aCB b hb⟩,h.s0,λb hb hn=> ?_,fu.trans mn.os,ap mn.sz hz2⟩
    .rcases azw b b' hb with hb|⟨h1,h2⟩
     .rcases agP b b' hb with x|⟨x,y⟩
      .exact .inl x
      .refine .inr ⟨x,λe=>e.elim (λe=> ?_) y⟩;have:=(cN.lt hb).2;omega
     .exact .inr ⟨ap mn.sz h1,λe=>e.elim h2 λhs=>by have:=mn.sh _ hs;omega⟩
    .rcases hb with rfl|hb
     .exact ap mn.sz hWg
     .exact(h.sh b hb).1
    .rw[hk2 b (bd hb mn.sz) λhs=>by have:=(h.sh b hs).1;omega];exact mn.keep b hb hn
   obtain⟨N3,gs3,w3,sl3,t3,q3,aCC,c3,ρ3,l3,hr3,ha3,hL3,hP3,hS3,hf3,akA,aCD,aCE⟩:=ih c2 ap8 hS2 ait hR2 ha2 hL2 hP2;exact⟨N+(N2+N3),gs3,w3,sl3,t3,q3,aCC,c3,ρ3,l3,lv hr1 (lv hr2 hr3),ha3,hL3,hP3,hS3,hf3,akA,(hle.trans atJ).trans aCD,atI.trans hle (aqb.trans atJ aCE)⟩
end
section
open Go.Conc Go.ConcN Go.RowKit
open Go.ConcR (DC0)
mutual
inductive nD (V:Nat->Prop):Value->Prop
 |bool (b:Bool):nD V (.bool b)
 |int (k:IntKind) (n:Int):nD V (.int k n)
 |string (s:ByteArray):nD V (.string s)
 |nilPtr:nD V (.pointer none)
 |pointer {a:Addr} (h:V a.block):nD V (.pointer (some a))
 |pA (l c:Nat):nD V (.slice none l c)
 |slice {a:Addr} (h:V a.block) (l c:Nat):nD V (.slice (some a) l c)
 |nilFunc:nD V .nilFunc
 |iface (t:TypeId) {v:Value} (h:nD V v):nD V (.iface t v)
 |nilIface:nD V .nilIface
 |agg {c:Array Value} (h:ni V c.toList):nD V (.agg c)
inductive ni (V:Nat->Prop):List Value->Prop
 |nil:ni V []
 |cons {v:Value} {l:List Value} (h:nD V v) (hl:ni V l):ni V (v::l)
end
mutual
def nD.mono{V U:Nat->Prop}(h:∀b,V b->U b):∀{v:Value},nD V v->nD U v
 |_,.bool b=>.bool b
 |_,.int k n=>.int k n
 |_,.string s=>.string s
 |_,.nilPtr=>.nilPtr
 |_,.pointer h'=>.pointer (h _ h')
 |_,.pA l c=>.pA l c
 |_,.slice h' l c=>.slice (h _ h') l c
 |_,.nilFunc=>.nilFunc
 |_,.iface t h'=>.iface t (nD.mono h h')
 |_,.nilIface=>.nilIface
 |_,.agg h'=>.agg (ni.mono h h')
def ni.mono{V U:Nat->Prop}(h:∀b,V b->U b):∀{l:List Value},ni V l->ni U l
 |_,.nil=>.nil
 |_,.cons h1 h2=>.cons (nD.mono h h1) (ni.mono h h2)
end
section
variable {V:Nat->Prop} {ρ:Ren} (hV:∀b,V b->ρ.r b b)
include hV
theorem amK(h:V a.block):AR ρ a a:=by
 obtain⟨b,o,s⟩:=a;exact .mk (hV _ h) o s
theorem avY{b : Addr}(h:V a.block)(k:AR ρ a b):b=a:=by
 cases k with
 |mk c o s=>rw[ρ.fn c (hV _ h)]
mutual
theorem nD.self:∀{v:Value},nD V v->VR ρ v v
 |_,.bool b=>.bool b
 |_,.int k n=>.int k n
 |_,.string s=>.string s
 |_,.nilPtr=>.pointer .none
 |_,.pointer h=>.pointer (.some (amK hV h))
 |_,.pA l c=>.slice .none l c
 |_,.slice h l c=>.slice (.some (amK hV h)) l c
 |_,.nilFunc=>.nilFunc
 |_,.iface t h=>.iface t (nD.self h)
 |_,.nilIface=>.nilIface
 |_,.agg h=>.agg (ni.self h)
theorem ni.self:∀{l:List Value},ni V l->bU ρ l l
 |_,.nil=>.nil
 |_,.cons h1 h2=>.cons (nD.self h1) (ni.self h2)
end
mutual
def nD.fn:∀{v d:Value},nD V v->VR ρ v d->d=v
 |_,_,.bool b,k=>by cases k;rfl
 |_,_,.int _ n,k=>by cases k;rfl
 |_,_,.string s,k=>by cases k;rfl
 |_,_,.nilPtr,k=>by
  cases k with
  |pointer h=>cases h;rfl
 |_,_,.pointer h,k=>by
  cases k with
  |pointer a=>cases a with
   |some a=>rw[avY hV h a]
 |_,_,.pA l c,k=>by
  cases k with
  |slice h=>cases h;rfl
 |_,_,.slice h l c,k=>by
  cases k with
  |slice a=>cases a with
   |some a=>rw[avY hV h a]
 |_,_,.nilFunc,k=>by cases k;rfl
 |_,_,.iface t h,k=>by
  cases k with
  |iface _ a=>rw[nD.fn h a]
 |_,_,.nilIface,k=>by cases k;rfl
 |_,_,.agg (c:=c) h,k=>by
  cases k with
  |@agg _ f a=>
   have e:=ni.fn h a;rw[uJ.1 e]
def ni.fn:∀{l a:List Value},ni V l->bU ρ l a->a=l
 |_,_,.nil,k=>by cases k;rfl
 |_,_,.cons h1 h2,k=>by
  cases k with
  |cons b c=>rw[nD.fn h1 b,ni.fn h2 c]
end
end
def eT.past{B : Nat}(h:eT aZ Y B t):Past (ShL aZ) B t:=by
 refine⟨h.clean,λi a j _=> ?_,h.over,h.hears,h.seen⟩;obtain⟨op,c,b⟩:=touch_of j;by_cases d:ShL aZ a.loc
 .obtain⟨k,f⟩:=h.quiet i op a c b d;cases e:a.kind with
  |plain=>exact absurd e k
  |atomic=>exact .inr ⟨d,rfl⟩
  |said=>
   have g:=f e;have:=knows_own (t:=t) c;rw[g] at this;exact .inl this
 .exact .inl (h.known i op a c b d)
def agQ(W:World)(v:Value)(w':World):Prop:=v=.bool true/\Below W.heap.size W {w' with tape:=W.tape}
structure agR (W:World) (S0:au) (P:Nat->Nat->Prop) (WL:World):Prop where
 size:WL.heap.size=W.heap.size
 out:∀b,¬S0 b->WL.heap[b]?=W.heap[b]?
 row:∀b,S0 b->∃(c c':Array Value) (t:TypeId) (z:Nat×Nat),W.heap[b]?=some (.cells c t z)/\WL.heap[b]?=some (.cells c' t z)/\c'.size=c.size/\∀i v,P b i->c[i]?=some v->c'[i]?=some v
def aCF{P:Nat->Nat->Prop}(s:∀b,T b->eI W b)(R:∀b i v,T b->P b i->W.cell? ⟨b,i,none⟩=some v->nD T v)(S:gN<=W.heap.size) :
  ∃y,agR W T P y/\y.ou=W.ou/\WR (Ren.rows T false (fh W)) y W/\∀b i u v,T b->y.cell? ⟨b,i,none⟩=some u->W.cell? ⟨b,i,none⟩=some v->(u=v/\nD T v)\/ad5 u\/∀(f:Ren) e,f.al=aiu (fh W)->VR f u e->e=v:=by
 classical
 have hid:∀b,T b->(Ren.rows T false (fh W)).r b b:=λb a=>⟨rfl,a⟩;have g:∀b,T b->∃(c:Array Value) (t:TypeId) (z:Nat×Nat) (d:List Value),W.heap[b]?=some (.cells c t z)/\bU (Ren.rows T false (fh W)) d c.toList/\
   ∀(i:Nat) v,c.toList[i]?=some v->∃u,d[i]?=some u/\((P b i->u=v)/\((u=v/\nD T v)\/ad5 u\/∀(f:Ren) e,f.al=aiu (fh W)->VR f u e->e=v)):=λb a=>by
  obtain⟨c,t,z,H⟩:=s b a;obtain⟨d,p,B⟩:=akD (ρ:=Ren.rows T false (fh W)) (Q:=λi u v=>(P b i->u=v)/\((u=v/\nD T v)\/ad5 u\/∀(f:Ren) e,f.al=aiu (fh W)->VR f u e->e=v)) c.toList 0 λi v G=>by
   rw[me];have o:c[i]?=some v:=by rw[<-fi];exact G
   by_cases A:P b i
   .have K:=R b i v a A (by unfold World.cell?;rw[H];exact o);exact⟨v,nD.self hid K,λ_=>rfl,.inl ⟨rfl,K⟩⟩
   .obtain⟨u,p, -,M⟩:=axh (ρ:=Ren.rows T false (fh W)) rfl v λx O=>aiv (af1 H o O);exact⟨u,p,λh=>absurd h A,.inr M⟩
  exact⟨c,t,z,d,H,p,λi v G=>by
   have:=B i v G;simpa only[me] using this⟩
 let F:∀b,T b->Obj:=λb a=>.cells ⟨(g b a).choose_spec.choose_spec.choose_spec.choose⟩ (g b a).choose_spec.choose (g b a).choose_spec.choose_spec.choose
 have L:∀b (a:T b),∃(c:Array Value) (t:TypeId) (z:Nat×Nat) (d:List Value),W.heap[b]?=some (.cells c t z)/\bU (Ren.rows T false (fh W)) d c.toList/\(∀(i:Nat) v,c.toList[i]?=some v->∃u,d[i]?=some u/\((P b i->u=v)/\((u=v/\nD T v)\/ad5 u\/∀(f:Ren) e,f.al=aiu (fh W)->VR f u e->e=v)))/\F b a=.cells ⟨d⟩ t z:=λb a=>
  let h:=(g b a).choose_spec.choose_spec.choose_spec.choose_spec
  ⟨_,_,_,_,h.1,h.2.1,h.2.2,rfl⟩
 obtain⟨heap,N,p,B⟩:=avZ W F;have l:∀b,T b->∃(c:Array Value) (t:TypeId) (z:Nat×Nat) (d:List Value),W.heap[b]?=some (.cells c t z)/\heap[b]?=some (.cells ⟨d⟩ t z)/\bU (Ren.rows T false (fh W)) d c.toList/\(∀(i:Nat) v,c.toList[i]?=some v->∃u,d[i]?=some u/\((P b i->u=v)/\((u=v/\nD T v)\/ad5 u\/∀(f:Ren) e,f.al=aiu (fh W)->VR f u e->e=v))):=λb a=>by
  obtain⟨c,t,z,d,j,m,n,w⟩:=L b a;exact⟨c,t,z,d,j,(p b a (dl.1 j).1).trans (jt some w),m,n⟩
 refine⟨{W with heap},⟨N,B,λb a=> ?_⟩,rfl,⟨λ{b U} a=> ?_,rfl,by show gN<=heap.size;omega,S⟩,λb i u v a E r=> ?_⟩
 .obtain⟨c,t,z,d,j,m,n,w⟩:=l b a;refine⟨c,⟨d⟩,t,z,j,m,by have:=n.length;simpa using this,λi v A r=> ?_⟩;obtain⟨u,D,I, -⟩:=w i v (by rw[fi];exact r);have k:(⟨d⟩:Array Value)[i]?=some u:=by simpa using D
  rw[k,I A]
 .obtain⟨rfl,a⟩:=a;obtain⟨c,t,z,d,j,m,n, -⟩:=l b a;exact⟨_,_,m,j,.cells n t (.inl rfl)⟩
 .obtain⟨c,t,z,d,j,m,n,w⟩:=l b a;have q:(⟨d⟩:Array Value)[i]?=some u:=by
   have:({W with heap}:World).heap[b]?=some (.cells ⟨d⟩ t z):=m;unfold World.cell? at E;rw[this] at E;exact E
  have C:c[i]?=some v:=by
   unfold World.cell? at r;rw[j] at r;exact r
  obtain⟨J,D, -,I⟩:=w i v (by rw[fi];exact C);have:J=u:=by
   have k:(⟨d⟩:Array Value)[i]?=some J:=by simpa using D
   rw[k] at q;exact dq q
  subst this;exact I
def aqc (hF:eP Z) (ax:∀bf nm,Z bf [] nm=(⟨#[]⟩,false))  {P:Nat->Nat->Prop} {fn:Func} {k:Tmp} {args:Array Value}
  (J:∀b,T b->eI W b) (hP:∀b i v,T b->P b i->W.cell? ⟨b,i,none⟩=some v->nD T v) (aU:∀g∈gL,T g) (aH:gN<=W.heap.size) (aJ:ni T args.toList)
  (hf:gH f=false) (b8:prog.funcs[f]?=some fn) (hq:(ai true).funcs[f]?=some fn) (I:fn.results=#[.tmp k]) (b7:prog.inits.idxOf? f=none)
  (eU:∀A:World,agR W T P A->∀t:Tape,Calls (ai true) f args (A.dV t) λe r=>∃v,e=.returned v/\(v=.bool true/\∀b,b<W.heap.size->r.heap[b]?=A.heap[b]?)) :
  ∃N last o r t',runNT prog (N+1) (solo (G (Frame.enter prog f args .normal) []) W) #[]=(.ended o r,t')/\runN prog N (solo (G (Frame.enter prog f args .normal) []) W)=.next last/\step prog last=.ended o r/\Go.Conc.Good prog (agQ W) last o r t':=by
 obtain⟨A,a9,bq,b4,b5⟩:=aCF J hP aH;have hid:∀b,T b->(Ren.rows T false (fh W)).r b b:=λb s=>⟨rfl,s⟩;have b2:∀b,T b->b<W.heap.size:=λb s=>let⟨_,_,_,h⟩:=J b s;jw h
 have hW:kh (ai true) (λl r=>∃C v,l=[C]/\C.fn=f/\C.leaving (ai true) r (.returned v)/\(v=.bool true/\∀b,b<W.heap.size->r.heap[b]?=A.heap[b]?)) ⟨[Frame.enter (ai true) f args .normal],A,λ_ _=>0⟩:=
  aaE (Post:=λv r=>v=.bool true/\∀b,b<W.heap.size->r.heap[b]?=A.heap[b]?) λt _=>eU A a9 t
 have b1:iV (ai true) (Ren.rows T false (fh W)) [Frame.enter (ai true) f args .normal] [Frame.enter prog f args .normal]:=.one (agS (mr true) hf (ni.self hid aJ)) ac9;have hS:amJ _ W T (λ_=>False) (Ren.rows T false (fh W)) ⟨[Frame.enter (ai true) f args .normal],A,λ_ _=>0⟩ W:=⟨rfl,b4,λg hg=>hid g (aU g hg),hW,λb b' s=>.inl (s.1▸s.2),λ_ h=>h.elim,b2,λ_ _ _=>rfl,rfl,am _⟩;obtain⟨N1,b0,j,a2,t1,q1,aZ,Q,ay,l1,a0,ad,b3,b6,m,aa,F,M,af⟩:=ap9 hF ax hW.acc.transGen (gs:=#[G (Frame.enter prog f args .normal) []]) (sl:=none) (t:=#[]) (q:=λ_=>0) hS b1 (.inl rfl) rfl (leavers_one _ _) (eT.nil _);obtain⟨C,v,hl,mF,bi,hv,s⟩:=m.will.fin aa acA Q.t λ_ _ _=>rfl;obtain⟨x,xs,y,ys, -,hy⟩:=F.ne';have e4:=F.lone hl hy;subst e4 hy;rw[hl] at F;have a8:=F.head;obtain⟨-, -, -,br,Y,X⟩:=bi;rw[mF,hq] at Y;cases Y;have p:v=C.tmps.getD k undef:=by
  have e:(results fn C.tmps).run (ai true) (Q.w.dV Q.t)=.ok (C.tmps.getD k undef) (Q.w.dV Q.t):=by simp[results,I]
  rw[e] at X;cases X;rfl
 have an:y.tmps.getD k undef=.bool true:=by
  rw[hv] at p;have hk:C.tmps[k]?=some (.bool true):=by
   rw[jn] at p;cases h:C.tmps[k]? with
   |none=>rw[h] at p;cases p
   |some u=>rw[h] at p;exact jt some p.symm
  obtain⟨u,R,U⟩:=bU.get a8.tmps (i:=k) (v:=.bool true) (by rw[fi];exact hk);rw[fi] at R;rw[amL R];cases U;rfl
 have b9:∀j:World,stepG prog true (Gl [y] []) j=.ended (.done (.bool true)) j (seen prog y.fn #[]):=λj=>by
  have U:(results fn y.tmps).runT prog j #[]=(.ok (.bool true) j,#[]):=by
   have e:(results fn y.tmps).runT prog j #[]=(.ok (y.tmps.getD k undef) j,#[]):=by simp[results,I]
   rw[e,an]
  obtain⟨g0,a1,gm,gd,gk⟩:=aa;rw[hl] at a1;cases a1;obtain⟨f',ba,fP,d',aF,bw,r'⟩:=y;obtain⟨f0,bo,bp,d0,bn,bt,r0⟩:=C;obtain⟨S,h2,h3,h4,O,h6,h7⟩:=a8;dsimp only at S h2 h3 h4 O h6 h7 gm gd gk mF U;subst S gm gd gk mF;obtain rfl:aF=.returning:=by
   rcases O with O|O
   .cases O.1
   .exact O.2
  obtain⟨-,rfl⟩:=h6;obtain rfl:d'=[]:=by cases h4;rfl
  have e:doReturn prog true ⟨f0,ba,fP,[],.returning,.normal,r'⟩ [] none (.bool true) j=.ended (.done (.bool true)) j:=by
   unfold doReturn;dsimp only;rw[b7];rfl
  simp only[Gl,stepG,unwind,b8,U,qX,e];simp[GStep.after]
 have a3:∀b,b<W.heap.size->j.heap[b]?=W.heap[b]?:=λb a5=>by
  by_cases h0:T b
  .have a7:=hid b h0;have U:=M.r a7;obtain⟨c,c',t,z,K,H,bl, -⟩:=a9.row b h0;obtain⟨o,o',k1,k2,k3⟩:=m.wr.obj U;have e:Q.w.heap[b]?=A.heap[b]?:=s b a5;rw[e,H] at k1;cases k1;cases k3 with
   |@cells _ E k4 _ _ z' hz=>
    have a4:z=z':=by
     rcases hz with e|⟨e,_⟩
     .exact e
     .rw[m.lax] at e;cases e
    have bk:E.size=c'.size:=by have:=k4.length;simpa using this.symm
    have hc:E=c:=by
     apply sR;intro i;rcases pr i c.size with hi|hi
     .have R:c'[i]?=some c'[i]:=gn (by omega);have hv:c[i]?=some c[i]:=gn hi;have L:E[i]?=some E[i]:=gn (by omega);have hrel:=dw.at k4 R L;have cell:∀{w:World} {a:Array Value},w.heap[b]?=some (.cells a t z)->w.cell? ⟨b,i,none⟩=a[i]?:=λh=>by unfold World.cell?;rw[h];rfl
      rcases b5 b i _ _ h0 ((cell H).trans R) ((cell K).trans hv) with⟨e1,e2⟩|S|S
      .rw[e1] at hrel;rw[L,hv,nD.fn (V:=T) (λb s=>M.r (hid b s)) e2 hrel]
      .have hp:=(af b b a7 ⟨c',t,z,H⟩).2 i _ S ((cell (e.trans H)).trans R);have h2:=hp.2;rw[cell K] at h2;subst a4;rw[cell k2] at h2;exact h2
      .rw[L,hv,S ay _ M.al.symm hrel]
     .rw[qk (by omega),qk (by omega)]
    rw[k2,K,hc,a4]
  .exact m.keep b a5 h0
 have a6:∀w2,Go.Conc.AtRel j w2->AtEnd prog (ShL aZ) j.heap.size (agQ W) (Gl [y] []) w2:=λw2 ⟨d,e⟩=>by
  subst e;exact⟨rfl,_,_,b9 _,λe he=>(abI e he).elim,rfl,ay4 m.os,rfl,awX m.os,m.sz,a3⟩
 obtain⟨N2,last,o,w2,t2,al,bg,aR,bb⟩:=beside_ends (D:=DC0) (Shun:=ShL aZ) (B:=j.heap.size) (Post:=agQ W) (sl:=a2) (n:=0) (λw r es h e he=>by rw[h.2] at he;simp at he) ad b3 b6.past (qH a6);refine⟨N1+N2,last,o,w2,t2, ?_, ?_,aR,bb⟩
 .rw[vz,runNT_add,show runNT prog N1 (solo (G (Frame.enter prog f args .normal) []) W) #[]=_ from a0];exact al
 .have ao:runN prog N1 (solo (G (Frame.enter prog f args .normal) []) W)=.next (crowd b0 j a2):=by
   rw[<-runNT_fst _ _ _ #[],show runNT prog N1 (solo (G (Frame.enter prog f args .normal) []) W) #[]=_ from a0]
  rw[runN_add,ao];exact bg
end
section
open Go Go.Conc Go.RowKit Go.ChangeShapes Go.WideShapes Go.ChangeAt
def an8:decide (prog.globals.size<(begin prog (λ_ _=>0) default).world.heap.size)=true:=by kernel_rfl
def azz(h:W.ShapedOpen prog):gN<=W.heap.size:=by
 have b:=ta an8;obtain⟨o,c,a, -⟩:=h.2 _ (am _) b;have:=(dl.1 a).1;unfold gN;omega
def av1(k:FuncId)(W:World)(args:Array Value):Prop:=
 ∃(a:au) (P:Nat->Nat->Prop),(∀b,a b->eI W b)/\(∀b i v,a b->P b i->W.cell? ⟨b,i,none⟩=some v->nD a v)/\(∀g∈gL,a g)/\ni a args.toList/\
  ∀c:World,agR W a P c->∀t:Tape,Calls (ai true) k args (c.dV t) λe d=>∃v,e=.returned v/\(v=.bool true/\∀b,b<W.heap.size->d.heap[b]?=c.heap[b]?)
def wX (hF:eP Z) (D:∀S nm,Z S [] nm=(⟨#[]⟩,false)) {os:Os} {k:FuncId} {f:Func} {kt:Tmp} {s:ChangeSpec} {b:Bool} {tb:TypeId} {H:Type} {enc:TypeId×Value->H} {X:World->Array Value->Prop}
  (hX:∀(w w':World) (args:Array Value),w.heap=w'.heap->X w args->X w' args)
  (E:ownKnob prog.godebug=none) (c:os.Started) (R:prog.inits.idxOf? k=none) (n:prog.funcs[k]?=some f) (hq:(ai true).funcs[k]?=some f) (G:gH k=false) (Q:f.results=#[.tmp kt])
  (hl:laidOutB prog=true) (hr:(f.params.toList.all λt=>prog.readableRec t&&decide (t<prog.types.size))=true) (u:f.resultTypes=#[tb]) (K:prog.underlying tb=some .bool) (V:varsRowed prog s.vars=true)
  (J:∀l r:List (DataW H),l.length=f.params.toList.length->r.length=s.vars.length->s.fn H (l++r)={results:=[.lit (.bool true)],args:=l,vars:=r})
  (d:∃(w:World) (a:Tape) (i:Input),w.os=os/\(w.forCall a i).Shaped prog/\i.vars=[]/\Input.okWide prog (w.forCall a i) .any w.heap.size k i/\
   ((s.pre enc prog f [] b (w.forCall a i).memory i.args/\X (w.forCall a i).memory i.args)/\sizedMet enc prog f (OpenSpec.ofChange s) b (w.forCall a i).memory i.args)/\Assume.holds {} prog (lone (Frame.enter prog k i.args .normal) [] (w.forCall a i)))
  (z:∀(W:World) (base:Nat) (args:Array Value) (l:List (DataW H)) (p:List MemPlace),
   (∀(j:Nat) t v,f.params[j]?=some t->args[j]?=some v->Value.okWide prog W .any base t v)->
   DataW.TrodAll enc prog W 0 (λ_=>true) true f.params.toList args.toList l p->(∀x∈p,x.block<W.heap.size)->X W args->av1 k W args) :
  ReturnsInLeavingWide {} Tryz.checked os k .any (λw args=>(s.pre enc prog f [] b w args/\X w args)/\sizedMet enc prog f (OpenSpec.ofChange s) b w args) (s.post enc prog f b true false false):=by
 refine returnsInLeavingWide_of_good E c d ?_;intro w a i _ U _ lV I _;obtain⟨_,_,_,dx,M,_,_,_,_,y⟩:=lV;have e:dx=f:=dq (M.symm.trans n);subst e;obtain⟨⟨⟨l,r,g,hw,hc⟩,F⟩,hz⟩:=I;have m:=DataW.Whole.of_heap (w':=w.forCall a i) (by rfl) hw;have A:X (w.forCall a i) i.args:=hX _ _ _ (by rfl) F;have L:∀p∈g,p.block<(w.forCall a i).heap.size:=λp T=>by simpa using m.lt p T
 have B:∀t∈dx.params.toList,prog.readableRec t=true/\t<prog.types.size:=λt ht=>by
  have:=lP.1 hr t ht;simpa using this
 obtain⟨p,q,Y,hV,O,a1,a0⟩:=id m;obtain⟨S0,P,h1,h2,h3,h4,h5⟩:=z (w.forCall a i) w.heap.size i.args l p y Y (λx F=>L x (by rw[O];simp[F])) A;obtain⟨N,last,o,w',t',g1,g2,g3,g4⟩:=aqc hF D h1 h2 h3 (azz U) h4 G n hq Q R h5;refine⟨N,last,o,w',t',g1,g2,g3,g4.mono λv hv=> ?_⟩;obtain⟨rfl,C⟩:=hv;have T:=an9 hl B u K V (J l r (ada Y) (abM hV)) m C;have C:=ChangeSpec.post_blind T;exact C
end
section
open Go.RowKit Go.ChangeAt
def azA:∀g∈gL,g=1\/g=2:=by
 have h:(gL.all λg=>g ==1||g ==2)=true:=by unfold gL;kernel_rfl
 intro g a;have:=lP.1 h g a;simpa using this
def aiw{P:Program}{w:World}{n:String}{d:DataW Unit}:∀{l:List (String×DataW Unit)} {f:List MemPlace},DataW.LaidVars P w l f->(n,d)∈l->
  ∃g t b a p,P.globalNamed n=some g/\(P.globals[g]?).map (·.type)=some t/\w.var? P n=some b/\DataW.trod (λ_=>()) P w 0 (λ_=>true) false a t b.toList=some (d,p)
 |[],_,_,h=>by cases h
 |(m,e)::l,f,h,c=>by
  obtain⟨g,t,b,a,p,q,r,i,k,o,s, -⟩:=h;rcases pb.1 c with j|c
  .cases j;exact⟨g,t,b,a,p,r,i,k,o⟩
  .exact aiw s c
def aqe{t:TypeId}{d:DataW Unit}{p:List MemPlace}(b:∃m,P.underlying t=some (.interface m)):DataW.trod (λ_=>()) P w 0 (λ_=>true) false Y t []≠some (d,p):=by
 obtain⟨m,a⟩:=b;cases Y with
 |zero=>simp[DataW.trod]
 |succ f=>simp[DataW.trod,a]
def atM{n:String}{cs:Array Value}{g:Nat}(a:P.globalNamed n=some g)(h:w.var? P n=some cs):∃t z,w.heap[g]?=some (.cells cs t z):=by
 unfold World.var? at h;rw[a] at h;simp only[qM] at h;split at h
 .rename_i c t z b;cases h;exact⟨t,z,b⟩
 .cases h
def atN:∃m,prog.underlying 180=some (.interface m):=⟨_,underlying180⟩
def atO:prog.globalNamed "loop.example/depositary/impl.errKey" =some 1:=by kernel_rfl
def aoa:prog.globalNamed "loop.example/depositary/impl.errPiece" =some 2:=by kernel_rfl
def aqf:(prog.globals[1]?).map (·.type)=some 180:=by kernel_rfl
def akE:(prog.globals[2]?).map (·.type)=some 180:=by kernel_rfl
def aix:(laidL.all λx=>x.2.handleName?.isNone)=true:=by kernel_rfl
def aqg(j:laidMetH prog laidL W):(∀g∈gL,eI W g)/\Glo W:=by
 rw[vJ _ _ _ aix] at j;obtain⟨A,w, -, -⟩:=j;have one:∀{n:String} {d:DataW Unit} {a:Nat},(n,d)∈laidL->prog.globalNamed n=some a->(prog.globals[a]?).map (·.type)=some 180->eI W a/\∃x,W.cell? ⟨a,0,none⟩=some x:=λ{n d a} v i y=>by
  obtain⟨g,t,b,k,p,q,e,s,o⟩:=aiw w v;rw[i] at q;cases q;rw[y] at e;cases e;obtain⟨t,z,f⟩:=atM i s;refine⟨⟨b,t,z,f⟩, ?_⟩;cases r:b.toList with
  |nil=>rw[r] at o;exact absurd o (aqe atN)
  |cons x l=>
   refine⟨x, ?_⟩;unfold World.cell?;rw[f];show b[0]?=some x;rw[<-fi,r];rfl
 have m:=one (n:= "loop.example/depositary/impl.errKey") (d:=Rows.laid_loop_example_depositary_impl_errKey) (by simp[laidL]) atO aqf;have c:=one (n:= "loop.example/depositary/impl.errPiece") (d:=Rows.laid_loop_example_depositary_impl_errPiece) (by simp[laidL]) aoa akE;refine⟨λg u=> ?_,m.2,c.2⟩;rcases azA g u with rfl|rfl
 .exact m.1
 .exact c.1
def aqh(W:World)(b i:Nat):Prop:=∀v,W.cell? ⟨b,i,none⟩=some v->nD (eI W) v
def agR.cell(h:agR W (eI W) (aqh W) V)(a:W.cell? ⟨b,i,none⟩=some v)(k:nD (eI W) v):V.cell? ⟨b,i,none⟩=some v:=by
 have j:aqh W b i:=λu e=>by rw[a] at e;cases e;exact k
 unfold World.cell? at a ⊢;dsimp only at a ⊢;cases d:W.heap[b]? with
 |none=>rw[d] at a;simp at a
 |some o=>
  cases o with
  |cells c t z=>
   obtain⟨r,m,n,q,f,g,p,l⟩:=h.row b ⟨c,t,z,d⟩;rw[d] at f a;cases f;rw[g];exact l i v j a
  |_=>rw[d] at a;simp at a
def agR.glo(h:agR W (eI W) (aqh W) V)(a:∀g∈gL,eI W g)(b:Glo W)(j:1∈gL)(e:2∈gL):Glo V:=by
 have one:∀{g:Nat},eI W g->(∃x,W.cell? ⟨g,0,none⟩=some x)->∃x,V.cell? ⟨g,0,none⟩=some x:=λ{g} a ⟨x,hx⟩=>by
  obtain⟨c,f,t,z,d,i,k, -⟩:=h.row g a;unfold World.cell? at hx ⊢;dsimp only at hx ⊢;rw[d] at hx;rw[i];have:0<c.size:=(dl.1 (show c[0]?=some x from hx)).1;exact⟨f[0]'(by omega),gn (by omega)⟩
 exact⟨one (a _ j) b.key,one (a _ e) b.piece⟩
def agR.bytes(h:agR W (eI W) (aqh W) V)(r:bB iG 1 W 0 W.heap.size l [v])(t:Tape):bB iG 1 (V.dV t) 0 (V.dV t).heap.size l [v]:=by
 obtain⟨A,c,B,n,g,w⟩:=r;refine⟨A,c,B,n,g,λq=> ?_⟩;obtain⟨b,d,p,f,z,k⟩:=w q;refine⟨b,d,p,f,by show b<V.heap.size;rw[h.size];exact z,λi x y=> ?_⟩;obtain⟨s,m,e,o⟩:=k i x y;refine⟨s,m,e,λj u a=> ?_⟩;have D:=o j u a;have C:nD (eI W) u:=by
  obtain⟨rfl, -⟩:=e;have:j=0:=by have:=aD a;simp at this;omega
  subst this;simp at a;subst a;exact .int _ _
 exact h.cell D C
def amM(b:Value.okWide prog W .any Y 22 v):nD (eI W) v:=by
 have e:=underlying22;unfold Value.okWide at b;rw[e] at b;dsimp only at b;unfold Cell.okWide at b;rw[e] at b;have b:Cell.ok prog W .any Y 22 v:=b;unfold Cell.ok at b;rw[e] at b;cases v with
 |slice A n c=>
  cases A with
  |none=>exact .pA _ _
  |some a=>
   obtain⟨-, -, -, -,f,cells,d, -⟩:=b;refine .slice ?_ _ _;unfold World.shape? at d;split at d
   .rename_i g t z i;exact⟨g,t,z,i⟩
   .cases d
 |_=>exact b.elim
def xH {k:FuncId} (q:laidMetH prog laidL W) {l2 : List Int} {a : Value} (u:Value.okWide prog W .any Y 22 v) (f:Value.okWide prog W .any Y 22 a) (h:bB iG 1 W 0 W.heap.size l [v]) (o:bB iG 1 W 0 W.heap.size l2 [a])
  (x:∀w:World,Glo w->bB iG 1 w 0 w.heap.size l [v]->bB iG 1 w 0 w.heap.size l2 [a]->Calls (ai true) k #[v,a] w λe j=>e=.returned (.bool true)/\Below w.heap.size w j):av1 k W #[v,a]:=by
 obtain⟨m,s⟩:=aqg q;refine⟨eI W,aqh W,λ_ h=>h,λb i v _ r g=>r v g,m,.cons (amM u) (.cons (amM f) .nil),λn c t=> ?_⟩;refine(x (n.dV t) ?_ (c.bytes h t) (c.bytes o t)).mono ?_
 .have:=c.glo m s (agT aqi) (agT aiy);exact⟨this.key,this.piece⟩
 .rintro e j ⟨rfl,p⟩;exact⟨_,rfl,rfl,λb d=>p.block b (by show b<n.heap.size;rw[c.size];exact d)⟩
end
section
open Go.RowKit
def xF:Tryz.pinned.checked.prog.mainIs=some (true, "018d95dc14c83536c9197d5c61edfbb9e22256eae11c6c5dc05e41fa2968ac1d".toList):=by kernel_rfl
def ym:false=Tryz.pinned.checked.prog.looks []:=by kernel_rfl
end
end Go.Proofs.YtgjaikdifcbnkaaGreatDoor