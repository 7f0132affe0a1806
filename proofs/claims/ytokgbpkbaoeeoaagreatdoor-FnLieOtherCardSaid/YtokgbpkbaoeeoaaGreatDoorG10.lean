/- A part. -/
import Derived.Test.YtokgbpkbaoeeoaaGreatDoorG9
import Derived.DuoClaim
import Derived.Conc.LeavingOf
import Derived.SizedLaws
import Derived.Shelf.Slices.Cells
import Derived.Shelf.SortM.Plain
import Derived.Shelf.SortM.SortNone
import Derived.Sort.OwnSortedInts
set_option maxRecDepth 100000
set_option maxHeartbeats 8000000
set_option linter.all false
open Go Go.Conc Go.ConcN Go.RowKit Go.Proofs.Tryz Go.Proofs.YtokgbpkbaoeeoaaGreatDoor
variable {aZ:au} {Z:Nat} {n:Int} {a:Addr} {V W w:World} {U v:Value} {t:Trace} {P:Program} {l m:List Int} {g:Goroutine} {X cs:Array Value} {Y:Int→List iY→Int→ByteArray × Bool}
namespace Go.Proofs.YtokgbpkbaoeeoaaGreatDoor
def vS:=@_root_.Decidable.byContradiction
def vV:=@_root_.Go.Proofs.Tryz.zeroValue37
def wn:=@_root_.List.toArray_replicate
section
open Go.Conc Go.ConcN Go.RowKit Go.Conc.Lib Go.ConcR.Gen Go.ConcN.Gen
open Go.ConcR (KK wgBlock WgAt stA smA rd wr mk Payload DC0)
section
variable {P:Program} {R:World->World->Prop} {Q:World->Prop} {St A:Goroutine->World->Prop} {ty:TypeId} {Wg:Nat}
 (hQ:∀w w1,Q w->R w w1->Q w1) (hW:∀(w:World) (a:Addr) v,a.block=Wg->Q w->Q (w.setCell a v))
include hQ
theorem anq(a:Q w)(h:WKe P R Wg St g w):WKe P R Wg (λg w=>St g w/\Q w) g w:=ab1 (λ_ _ x=>jY hQ x.2 x.1) (jY hQ a h)
theorem auh(b:Q w)(h:WW4 P R ty Wg St g w):WW4 P R ty Wg (λg w=>St g w/\Q w) g w:=
 ⟨h.1,λa=>let⟨c,e,k⟩:=h.2 a;⟨c,e,fJ (λ_ _ x=>anq hQ x.2 x.1) (eY hQ b k)⟩⟩
include hW
theorem aui(b:Q w)(h:WW3 P R ty Wg St g w):WW3 P R ty Wg (λg w=>St g w/\Q w) g w:=
 ⟨h.1,h.2.1,h.2.2.1,λa=>let⟨c,e,k⟩:=h.2.2.2 a;⟨c,e,fJ (λ_ _ x=>auh hQ x.2 x.1) (eY hQ (hW _ _ _ rfl b) k)⟩⟩
theorem auj{v:Nat}(d:Q w)(h:WW2 P R ty Wg A St v g w):WW2 P R ty Wg (λg w=>A g w/\Q w) (λg w=>St g w/\Q w) v g w:=
 ⟨h.1,λf i c=>⟨λe=>let⟨b,a,k⟩:=(h.2 f i c).1 e;⟨b,a,fJ (λ_ _ x=>ab1 (λ_ _ x=>aui hQ hW x.2 x.1) (jY hQ x.2 x.1)) (eY hQ (hW _ _ _ rfl d) k)⟩,
  λe=>let⟨b,a,k⟩:=(h.2 f i c).2 e;⟨b,a,eY hQ d k⟩⟩⟩
theorem auk(a:Q w)(h:WW1 P R ty Wg A St g w):WW1 P R ty Wg (λg w=>A g w/\Q w) (λg w=>St g w/\Q w) g w:=
 ⟨h.1,λv d c=>let⟨i,e,f,b⟩:=h.2 v d c;⟨i,e,λe=>fJ (λ_ _ x=>anq hQ x.2 x.1) (eY hQ a (f e)),λe=>fJ (λ_ _ x=>auj hQ hW x.2 x.1) (eY hQ a (b e))⟩⟩
end
section
variable (X:Mx) (xs bs:List Frame)
noncomputable abbrev frW(T:Array Value):Frame:=(FQ cE #[] []).at ⟨T,[]⟩ (.inRegion jZ [0]::[.code cM])
def adu(R _S:au)(g:Goroutine)(w:World):Prop:=X.At R w/\∃T,X.Sl T X.n2/\aiG eR X.Wg (frW T) (xs++bs) g w
def azZ(R S:au)(g:Goroutine)(w:World):Prop:=
 ∃T,X.Sl T X.n2/\Goes prog true (RM eR.tWg X.Wg X.C X.n2 R S) DC0 (λg w=>(g=Gl (FQ cE T (.inRegion jZ []::[.code cM])::xs) bs/\WgLive eR.tWg X.Wg w)/\X.At R w) 20 g w
end
section
variable {X:Mx} {xs bs:List Frame} {R S:au} {w w1:World} {T:Array Value}
def Mx.At.rely(h:X.At R w)(a:kg eR.tWg X.Wg X.C (2*X.n2) R noC S w w1):X.At R w1:=h.move (λb c=>a.keep b (.inr c)) a.size a.os
def Mx.At.wg(h:X.At R w)(a:Addr)(v:Value)(d:a.block=X.Wg):X.At R (w.setCell a v):=
 h.move (λb c=>bu _ _ _ (λe=>h.rW (by rw[<-d,e];exact c))) (pa (bv _ _ _).symm) rfl
def aul(a:X.Sl T X.n2):∃T',X.Sl T' X.n2/\G ((FQ cE #[] []).at ((⟨T,[]⟩:Act).put ((jZ[0]?).bind (·.dst)) (.tuple #[])) (.inRegion jZ []::[.code cM])) (xs++bs)=Gl (FQ cE T' (.inRegion jZ []::[.code cM])::xs) bs:=by
 obtain⟨d,e,c⟩:=az0;refine⟨T.setIfInBounds 28 (.tuple #[]),a.keep (by simpa using a.z) λt b=> ?_,by rw[c];rfl⟩;rw[aG (by rw[a.z];exact bd (by decide) a.zz),be (by rintro rfl;cases b)]
def aum(h:adu X xs bs R S g w):∃m,GP prog eR.tWg X.Wg X.C X.n2 R S (MW1 prog eR.tWg X.Wg X.C X.n2 R S (adu X xs bs) (azZ X xs bs)) m g w:=by
 obtain⟨c,T,d,i⟩:=h;have j:=ak3 (R:=RM eR.tWg X.Wg X.C X.n2 R S) (S:=λg w=>g=G ((FQ cE #[] []).at ((⟨T,[]⟩:Act).put ((jZ[0]?).bind (·.dst)) (.tuple #[])) (.inRegion jZ []::[.code cM])) (xs++bs)/\WgLive eR.tWg X.Wg w) aaS (λ_ _ h r=>r.live h) (λ_ h=>⟨rfl,h⟩) g w i;have f:=fJ (λg w x=>auk (Q:=X.At R) (λ_ _ h r=>h.rely r) (λ_ a v e h=>h.wg a v e) x.2 x.1) (eY (Q:=X.At R) (λ_ _ h r=>h.rely r) c j);obtain⟨T',b,k⟩:=aul (xs:=xs) (bs:=bs) d;refine⟨30,aaT (λ_ _ x=>az1 (λg w y=>⟨T',b,fJ (λg w z=>⟨⟨z.1.1.trans k,z.1.2⟩,z.2⟩) y⟩) (λg w y=>⟨y.2,T,d,y.1⟩) x) f⟩
def ak4:Frame.enter prog eR.wait #[.pointer (some ⟨X.Wg,0,none⟩)] .normal=(base eR.wait).at ⟨#[.pointer (some ⟨X.Wg,0,none⟩)]++(List.replicate 83 undef).toArray,[]⟩ [.code (body_wait eR)]:=by
 rw[wn];have h:=enter_at (c:=body_wait eR) #[.pointer (some ⟨X.Wg,0,none⟩)] aaS.f_wait rfl;have e:(Go.Conc.Lib.waitFn eR).ntmps-(#[.pointer (some ⟨X.Wg,0,none⟩)]:Array Value).size=83:=rfl;rw[e] at h;exact h
def aoI:Frame.enter prog eR.add #[.pointer (some ⟨X.Wg,0,none⟩),.int .i64 1] .normal=(base eR.add).at ⟨#[.pointer (some ⟨X.Wg,0,none⟩),.int .i64 1]++(List.replicate 115 undef).toArray,[]⟩ [.code (body_add eR)]:=by
 rw[wn];have h:=enter_at (c:=body_add eR) #[.pointer (some ⟨X.Wg,0,none⟩),.int .i64 1] aaS.f_add rfl;have e:(Go.Conc.Lib.addFn eR).ntmps-(#[.pointer (some ⟨X.Wg,0,none⟩),.int .i64 1]:Array Value).size=115:=rfl;rw[e] at h;exact h
def aho(d:X.Sl T X.n2)(hi:X.Inv R S w) :
  bM prog true (X.Rl R) (X.Gr R) (λS g w=>MKd prog eR.tWg X.Wg X.C X.n2 R S (adu X xs bs) g w) S (Gl (Frame.enter prog eR.wait #[.pointer (some ⟨X.Wg,0,none⟩)] .normal::FQ cE T (.inRegion jZ [0]::[.code cM])::xs) bs) w:=by
 rw[ak4];have c:=ak5 (b₀:=FQ cE #[] []) (a₀:=⟨T,[]⟩) (ops₀:=jZ) (i₀:=0) (rest₀:=[]) (k₀:=[.code cM]) (cs:=xs++bs) (R:=RM eR.tWg X.Wg X.C X.n2 R S) aaS (λ_ _ h r=>r.live h) w hi.live;have b:=fJ (λg w x=>jY (Q:=X.At R) (λ_ _ h r=>h.rely r) x.2 x.1) (eY (Q:=X.At R) (λ_ _ h r=>h.rely r) hi.at_ c);have a:∀g w,(aiG eR X.Wg (frW T) (xs++bs) g w/\X.At R w)->adu X xs bs R S g w:=λg w y=>⟨y.2,T,d,y.1⟩;exact bM.ab2 (R:=RM eR.tWg X.Wg X.C X.n2 R S) (λ_ _ h=>h) (λ_ _ _ h=>axR h) (λ_ _ h=>az2 a h) b
end
end
section
open Go.Conc Go.ConcN Go.RowKit
open Go.ConcR (KK wgBlock WgAt stA smA rd wr mk Payload DC0)
section
variable {X:Mx} {R S:au} {w:World} {T:Array Value} {j:Nat} {xs bs:List Frame} {bi bn:Nat} {nm:Int}
noncomputable abbrev kG:List Item:=.inBlock 1 :: .code (.region 8 aiH false)::kB
abbrev Mx.dP(X:Mx)(bi bn:Nat):Array Value:=#[.pointer (some ⟨X.Wg,0,none⟩),.pointer (some ⟨X.bk,0,none⟩),.pointer (some ⟨X.bp,0,none⟩),.pointer (some ⟨bn,0,none⟩),.pointer (some ⟨X.ba,0,none⟩),.pointer (some ⟨bi,0,none⟩)]
def aoJ(b:X.Sl T j)(k:T.getD 10 undef=.pointer (some ⟨bi,0,none⟩))(m:T.getD 11 undef=.pointer (some ⟨bn,0,none⟩))(z:S bi)(q:S bn)(s:w.heap[bi]?=some (.cells #[.int .i64 j] 3))(o:w.heap[bn]?=some (.cells #[.int .i64 nm] 3)) :
  bM prog true (X.Rl R) (pP R) (λA g f=>A=S/\f.heap[bi]?=some (.cells #[.int .i64 j] 3)/\f.heap[bn]?=some (.cells #[.int .i64 nm] 3)/\∃T',X.Sl T' j/\T'.getD 26 undef=.func (.func nCl) #[] (X.dP bi bn)/\g=Gl (FQ cE T' (.inRegion mJ [1]::kG)::xs) bs) S
   (Gl (FQ cE T (.inRegion aaU []::kA)::xs) bs) w:=by
 have H:=X.nI R;obtain⟨p,a,e⟩:=aCF;refine iE H.cmp (gD H.cmp (l:=[0,1]) rfl (bQ H.cmp (d:=26) (v:=.func (.func nCl) #[] (X.dP bi bn)) (es:=#[]) (by rw[b.z];exact bd (by decide) b.zz) e rfl rfl (λw _=>aiI ?_) (λw _=>bB _) λx B C r f y=>.stop λD i=> ?_)) w (H.gz _ _)
 .have:∀T:Array Value,Array.map (Frame.eval (FQ cE T (.inRegion mJ [0,1]::kG))) #[.tmp 9,.tmp 3,.tmp 4,.tmp 11,.tmp 8,.tmp 10]=#[T.getD 9 undef,T.getD 3 undef,T.getD 4 undef,T.getD 11 undef,T.getD 8 undef,T.getD 10 undef]:=λT=>by simp[Frame.eval]
  rw[this,b.s9,b.s3,b.s4,b.s8,k,m]
 .have n:=H.tr _ _ _ _ y i;exact⟨rfl,(n.keep bi (.inl z)).trans s,(n.keep bn (.inl q)).trans o,x,b.keep (B.trans b.z) λt u=>r t (by rintro rfl;cases u),C,rfl⟩
def aoK(k:X.Ok)(b:X.Sl T j)(F:j<X.n2) :
  bM prog true (X.Rl R) (pP R) (λu g _=>u=S/\∃T',X.Sl T' (j+1)/\g=Gl (FQ cE T' (.code jF::kB)::xs) bs) S
   (Gl (FQ cE T (.inRegion mJ []::kG)::xs) bs) w:=by
 have H:=X.nI R;obtain⟨E,D,i⟩:=aCG;obtain⟨B,G,s⟩:=aCH;have p:=k.n2m;refine iE H.cmp (aiJ H.cmp (gD H.cmp (l:=[0,1]) rfl (bQ H.cmp (d:=27) (v:=.int .i64 ((j:Int)+1)) (es:=#[]) (by rw[b.z];exact bd (by decide) b.zz) i rfl rfl (λw _=>aun (x:=.tmp 20) b.iF rfl (by omega) (by omega)) (λw _=>bB _) λo f y m=>
  bQ H.cmp (d:=20) (v:=.int .i64 ((j:Int)+1)) (es:=#[]) (by rw[f,b.z];exact bd (by decide) b.zz) s rfl rfl (λw _=>fK (x:=.tmp 27) y) (λw _=>bB _) λz r n c=>
   iE H.cmp (aqN H.cmp λA C=>.stop λI q=>⟨rfl,z, ?_,rfl⟩)))) w (H.gz _ _)
 have a:=b.keep (T':=o) (f.trans b.z) λt e=>m t (by rintro rfl;cases e);refine⟨r.trans a.z,a.zz,(c 3 (by decide)).trans a.s3,(c 4 (by decide)).trans a.s4,(c 8 (by decide)).trans a.s8,(c 9 (by decide)).trans a.s9,(c 18 (by decide)).trans a.s18,(c 19 (by decide)).trans a.s19,by rw[n];rfl,λt e=>(c t (by rintro rfl;cases e)).trans (a.sv t e)⟩
def aeJ{val:Nat->Value}{A:au->au->Goroutine->World->Prop}{r:Nat}(h:bM prog true (X.Rl R) (X.Gr R) (λS g w=>(S=λ_=>False)/\tY prog eR.tWg X.Wg X.C X.n2 val A r R g w) (λ_=>False) g w):tY prog eR.tWg X.Wg X.C X.n2 val A r R g w:=by
 cases r with
 |zero=>exact bM.bind (X.nI _).gz (X.nI _).tr h λS g w ⟨hS,h⟩=>by subst hS;exact h
 |succ r=>exact bM.bind (X.nI _).gz (X.nI _).tr h λS g w ⟨hS,h⟩=>by subst hS;exact h
def adv(f:X.Ok){x:Int->List iY->Int->ByteArray×Bool}(N:eT x)(u:∀k nm,x k [] nm=(⟨#[]⟩,false)){val:Nat->Value}(i:∀B nm,X.dK[B]?=some nm->val (2*B)=.string (x X.key X.l nm).1/\val (2*B+1)=.bool (x X.key X.l nm).2) :
  ∀(r j:Nat) (R:au) (T:Array Value) (w:World),j+r=X.n2->X.At R w->WgLive eR.tWg X.Wg w->X.Sl T j->tY prog eR.tWg X.Wg X.C X.n2 val (adu X xs bs) r R (Gl (FQ cE T (.code jF::kB)::xs) bs) w
 |0,j,R,T,w,hj,hat,o,hs=>by
  obtain rfl:j=X.n2:=hj;have M:X.Inv R (λ_=>False) w:=⟨λb h=>h.elim,hat,o,λb _ h=>h⟩;exact bM.bind (X.nI R).gz (X.nI R).tr (Mx.lift (aoL hs) M) λS g w ⟨⟨T',c,hS,hg⟩,d⟩=>by
   rw[hg];exact aho c d
 |r+1,j,R,T,w,hj,hat,o,hs=>by
  have l:j<X.n2:=by omega
  have M:X.Inv R (λ_=>False) w:=⟨λb h=>h.elim,hat,o,λb _ h=>h⟩;have E:X.n2-(r+1)=j:=by omega
  show bM prog true (X.Rl R) (X.Gr R) (λS g w=>aqO prog eR.tWg X.Wg X.C X.n2 val (X.n2-(r+1)) (tY prog eR.tWg X.Wg X.C X.n2 val (adu X xs bs) r) R S g w) (λ_=>False) _ w;rw[E];refine bM.bind (X.nI R).gz (X.nI R).tr (Mx.lift (aoM f hs l hat) M) λS g w ⟨⟨T',bi,bn,nm,hnm,c,d10,d11,si,sn,ci,cn,hg⟩,d⟩=> ?_;rw[hg,aoI];have hI:=d.at_.nm f hnm;obtain⟨-, -, -,O⟩:=hI;refine aoN (b₀:=FQ cE #[] []) (a₀:=⟨T',[]⟩) (ops₀:=aaU) (i₀:=0) (rest₀:=[]) (k₀:=kA) (cs:=xs++bs) aaS (Q:=λw=>X.Inv R S w/\w.heap[bi]?=some (.cells #[.int .i64 j] 3)/\w.heap[bn]?=some (.cells #[.int .i64 nm] 3))
   (λw q h I=>⟨h.1.rely I,(I.keep bi (.inl si)).trans h.2.1,(I.keep bn (.inl sn)).trans h.2.2⟩) (λw v z h Z=> ?_) (λw o h=> ?_) w d.live ⟨d,ci,cn⟩
  .have s:∀b,S b->(w.setCell (stA X.Wg) (.int .u64 z)).heap[b]?=w.heap[b]?:=λb n=>bu _ _ _ λe=>(h.1.s b n).2.2 e.symm;refine⟨⟨λb n=>⟨by rw[bv];exact(h.1.s b n).1,(h.1.s b n).2⟩,h.1.at_.wg _ _ rfl, ?_,h.1.sr⟩,(s bi si).trans h.2.1,(s bn sn).trans h.2.2⟩;exact⟨z,0,Z.setSt z⟩
  .obtain⟨p6,a6,U⟩:=az3;have P:G ((FQ cE #[] []).at ((⟨T',[]⟩:Act).put ((aaU[0]?).bind (·.dst)) (.tuple #[])) (.inRegion aaU []::kA)) (xs++bs)=Gl (FQ cE (T'.setIfInBounds 25 (.tuple #[])) (.inRegion aaU []::kA)::xs) bs:=by rw[U];rfl
   rw[P];have m:∀t,t≠25->(T'.setIfInBounds 25 (.tuple #[])).getD t undef=T'.getD t undef:=λt A=>by rw[aG (by rw[c.z];exact bd (by decide) c.zz),be A]
   have J:X.Sl (T'.setIfInBounds 25 (.tuple #[])) j:=c.keep (by simpa using c.z) λt A=>m t (by rintro rfl;cases A);refine bM.weak (λ_ _ _ h=>h) (λ_ _ _ _ _ h=>h) (λp g q h=> ?_) (Mx.lift (aoJ (nm:=nm) J ((m 10 (by decide)).trans d10) ((m 11 (by decide)).trans d11) si sn h.2.1 h.2.2) h.1);obtain⟨⟨rfl,D,K,T2,y,F,rfl⟩,H⟩:=h;have a:X.At (λb=>p b\/R b) q:=H.at_.grow H.s;refine⟨rfl,_,_,λb=>p b\/R b,auo F,λ_ h=>h,λhp o=> ?_, ?_⟩
   .obtain⟨v0,V⟩:=i j nm hnm
    let Y:Wx:=⟨q,X.Wg,X.C,X.n2,j,λb=>p b\/R b,X.Rg,X.key,X.A,X.n,X.c,X.l,nm,X.bk,X.bp,bn,X.ba,bi,eR.tWg⟩
    have C:Y.Ok:=⟨ap f.hN a.sz,f.gl,a.gr f,f.k1,f.k2,f.hl,f.hc,f.hcm,a.rd f,a.rgp f,f.al,O,l,λb n=>a.rows b (f.vr b n),⟨a.rk.1,(tU a.rk.2).1⟩,⟨a.rp.1,(tU a.rp.2).1⟩,⟨.inl sn,(tU K).1⟩,⟨a.ra.1,(tU a.ra.2).1⟩,⟨.inl si,(tU D).1⟩,a.rlt,a.rC,a.rW,f.cW⟩;have L:Y.Inv (λ_=>False) q:=⟨λ_ _=>rfl,λb h=>h.elim,a.ltC,a.ltW,am _,o,hp,rfl⟩;exact aiK (X:=Y) C N u rfl v0 V L
   .-- the rounds that are left
    have W:X.Inv (λb=>p b\/R b) (λ_=>False) q:=⟨λb h=>h.elim,a,H.live,λb _ h=>h⟩;have hx:=Mx.lift (aoK (S:=λ_=>False) (xs:=xs) (bs:=bs) f y l) W;have k:∀(g:Goroutine) (w:World) (S:au),((S=λ_=>False)/\∃T',X.Sl T' (j+1)/\g=Gl (FQ cE T' (.code jF::kB)::xs) bs)/\X.Inv (λb=>p b\/R b) S w->S=(λ_=>False)/\tY prog eR.tWg X.Wg X.C X.n2 val (adu X xs bs) r (λb=>p b\/R b) g w:=by
     rintro g w S ⟨⟨rfl,T',c,rfl⟩,d⟩;exact⟨rfl,adv f N u i r (j+1) _ T' w (by omega) d.at_ d.live c⟩
    exact aeJ (bM.weak (λ_ _ _ h=>h) (λ_ _ _ _ _ h=>h) (λS g w h=>k g w S h) hx)
end
def ak6(Rr:au):pQ RlB Rr:=⟨λ_ w=>atRel_refl w,λ_ a b c h k=>atRel_trans a b c h k,λ_ w f ⟨d,e⟩=>by subst e;exact⟨λ_ _=>rfl,am _,rfl⟩⟩
def ak7(aZ S:au)(w:World):Prop:=(∀b,S b->¬aZ b)/\∀b,aZ b->b<w.heap.size
def ak7.rely{S : au}(h:ak7 aZ S w)(c:RlB S w V):ak7 aZ S V:=⟨h.1,λb a=>bd (h.2 b a) ((ak6 S).rl _ _ _ c).2.1⟩
def aqP{Rr S j : au}{w' : World}{es:Array Event}(s:∀b,Rr b->¬aZ b)(i:ak7 aZ S w)(g:pP Rr S j w w' es):GrB aZ S j w w' es/\ak7 aZ j w':=by
 obtain⟨u,m,v,rfl,p⟩:=g;have n:∀b,S b\/(w.heap.size<=b/\b<w'.heap.size)->¬aZ b:=λb c d=>by
  rcases c with c|c
  .exact i.1 b c d
  .have:=i.2 b d;omega
 refine⟨⟨m,λe t=> ?_⟩,n,λb c=>bd (i.2 b c) m⟩;obtain⟨q,l,r⟩:=p e t;refine⟨λx o ⟨a,hl,d⟩=> ?_,λk=> ?_,λk=> ?_,r⟩
 .rcases q x o with h|⟨h, -⟩
  .rw[hl] at h;exact n _ h d
  .rw[hl] at h;exact s _ h d
 .rcases l _ k with⟨f,e⟩|e<;>cases e
 .rcases l _ k with⟨f,e⟩|e<;>cases e
section
variable {gs:Array Goroutine} {w:World} {sl:Option (Nat×Nat)} {t:Trace} {q:Nat->Nat} {aZ V:au} {T:Array Value} {xs:List Frame}
def aCI (I:gs[0]?=some (Gl (FQ cE X [.code ab3]::xs) [])) (U:45<=X.size) {key:Int} {A A2:Option Addr} {n c Q : Nat} (Y:(Z:Int)<=2147483647) (L:X.getD 0 undef=.int .i64 key) (s1:X.getD 1 undef=.slice A n c) (K:X.getD 2 undef=.slice A2 Z Q)
  (O:Leavers prog t gs q) (hP:eZ aZ (gs.size-1) w.heap.size t) (v:∀b,aZ b->b<w.heap.size) (H:∀b,V b->b<w.heap.size/\¬aZ b) :
  ∃(N:Nat) (j:Array Goroutine) (f:World) (p:Option (Nat×Nat)) (r:Trace) (x:Nat->Nat) (T:Array Value) (l i C m:Nat) (o:Array Value),runNT prog N (crowd gs w sl) t=(.next (crowd j f p),r)/\j.size=gs.size/\
   j[0]?=some (Gl (FQ cE T [.code (.region 2 oX false),.code ij]::xs) [])/\Leavers prog r j x/\eZ aZ (gs.size-1) f.heap.size r/\T.size=X.size/\(∀t,(t<3\/aaV t=true)->T.getD t undef=X.getD t undef)/\
   (T.getD 3 undef=.pointer (some ⟨l,0,none⟩)/\T.getD 4 undef=.pointer (some ⟨i,0,none⟩)/\T.getD 6 undef=.slice none 0 0/\T.getD 7 undef=.bool false/\T.getD 8 undef=.pointer (some ⟨m,0,none⟩)/\T.getD 17 undef=.slice (some ⟨C,0,none⟩) Z Z)/\
   ((∀b,V b->f.heap[b]?=w.heap[b]?)/\w.heap.size<=f.heap.size/\f.ou=w.ou)/\(w.heap.size<=l/\l<i/\i<C/\C<m)/\f.heap[l]?=some (.cells #[.int .i64 key] 3)/\f.heap[i]?=some (.cells #[.slice A n c] 23)/\o.size=2*Z/\f.heap[C]?=some (.cells o 141)/\f.heap[m]?=some (.cells #[.slice (some ⟨C,0,none⟩) Z Z] 130):=by
 have W:=ak8 (xs:=xs) (base:=[]) (k:=[]) (S:=λ_=>False) (w0:=w) (Rr:=V)
  (St:=λ_ g f=>∃(T:Array Value) (l i C m:Nat) (o:Array Value),g=Gl (FQ cE T [.code (.region 2 oX false),.code ij]::xs) []/\T.size=X.size/\(∀t,(t<3\/aaV t=true)->T.getD t undef=X.getD t undef)/\
   (T.getD 3 undef=.pointer (some ⟨l,0,none⟩)/\T.getD 4 undef=.pointer (some ⟨i,0,none⟩)/\T.getD 6 undef=.slice none 0 0/\T.getD 7 undef=.bool false/\T.getD 8 undef=.pointer (some ⟨m,0,none⟩)/\T.getD 17 undef=.slice (some ⟨C,0,none⟩) Z Z)/\
   ((∀b,V b->f.heap[b]?=w.heap[b]?)/\w.heap.size<=f.heap.size/\f.ou=w.ou)/\(w.heap.size<=l/\l<i/\i<C/\C<m)/\f.heap[l]?=some (.cells #[.int .i64 key] 3)/\f.heap[i]?=some (.cells #[.slice A n c] 23)/\o.size=2*Z/\f.heap[C]?=some (.cells o 141)/\f.heap[m]?=some (.cells #[.slice (some ⟨C,0,none⟩) Z Z] 130))
  (ak6 V) U rfl Y L s1 K λT S' f l i C m o z J E u R P cp D cC M=>.stop λw1 ⟨d,e⟩=>by
   subst e;exact⟨T,l,i,C,m,o,rfl,z,J,E,⟨λb s=>u.keep b (H b s).1 (.inr s),u.size,u.os⟩,R,P,cp,D,cC,M⟩
 have G:=bM.inv (Gr2:=GrB aZ) (Inv:=ak7 aZ) (agl:=λ_ g f=>_) (λ_ _ _ h B=>h.rely B) (λ_ _ _ _ _ h g=>aqP (λb s=>(H b s).2) h g) (λ_ _ _ h _=>h) W ⟨λ_ h=>h.elim,v⟩;obtain⟨N,j,a,f,p,r,x,S',B,z,ha,⟨T,l,i,C,m,o,rfl,E⟩,F,y⟩:=aar (sl:=sl) aa9 I O hP G;exact⟨N,j,f,p,r,x,T,l,i,C,m,o,B,z,ha,F,y,E⟩
def GrE(_ _:au)(w w':World)(es:Array Event):Prop:=es=#[]/\w.heap.size<=w'.heap.size
def afO{B0:Nat}:axS GrE (λK B t=>eZ aZ K B t/\∀op∈t,op.act.low B0) where
 own:=λ{K t S l w k f} fn c ⟨b,hz⟩ ⟨hP,hl⟩=>by
  subst b;refine⟨hP.own hz λe h=>by simp at h,λop a=> ?_⟩;rcases wd.1 a with h|h
  .exact hl op h
  .obtain⟨e,b, -⟩:=mt h;simp at b
 mute:=λ{K B t g f} fn c i j d ⟨hP,hl⟩=>by
  refine⟨hP.mute i j d,seen_app hl λop a=> ?_⟩;obtain⟨e,b,rfl⟩:=mt a;exact low_mute (d e b) B0
def aCJ(C:gs[0]?=some (Gl (FQ cE T [.code (.region 2 oX false),.code ij]::xs) []))(v:45<=T.size)(F:Leavers prog t gs q)(x:eZ aZ (gs.size-1) w.heap.size t) :
  ∃(N:Nat) (b:Array Goroutine) (c:World) (d:Option (Nat×Nat)) (e:Trace) (s:Nat->Nat) (T':Array Value),runNT prog N (crowd gs w sl) t=(.next (crowd b c d),e)/\b.size=gs.size/\b[0]?=some (Gl (FQ cE T' [.code ij]::xs) [])/\Leavers prog e b s/\
   eZ aZ (gs.size-1) c.heap.size e/\(∀op∈e,op.act.low w.heap.size)/\T'.size=T.size/\T'.getD 9 undef=.pointer (some ⟨w.heap.size,0,none⟩)/\(∀t,t≠9->T'.getD t undef=T.getD t undef)/\c.heap=w.heap.push (wgBlock eR.tWg 0 0)/\c.ou=w.ou:=by
 obtain⟨R,Q,u⟩:=aCK;obtain⟨i,z,J,l,M⟩:=aup;have o:List.range oX.size=[0]:=rfl;have K:bM prog true RlB GrE (λ_ g c=>g=Gl (FQ cE (T.setIfInBounds 9 (.pointer (some ⟨w.heap.size,0,none⟩))) [.code ij]::xs) []/\c.heap=w.heap.push (wgBlock eR.tWg 0 0)/\c.ou=w.ou) (λ_=>False) (Gl (FQ cE T [.code (.region 2 oX false),.code ij]::xs) []) w:=by
  refine .step rfl λy ⟨d1,e1⟩=>⟨Gl (FQ cE T [.inRegion oX [0],.code ij]::xs) [],y,#[],λ_=>False,by simp[Gl,stepG,stepG.exec,o],⟨rfl,am _⟩, ?_⟩;refine .step rfl λj ⟨d2,e2⟩=> ?_;have f:=anr (m:=true) (fr:=FQ cE T [.inRegion oX [0],.code ij]) (xs:=xs) (base:=[]) (w:=j) rfl rfl rfl rfl u rfl (aas (w:=j) J l);rw[xd,M] at f;refine⟨_,_,#[],λ_=>False,f,⟨rfl,by rw[oS];omega⟩, ?_⟩;have k:j.heap.size=w.heap.size:=by rw[e2,e1];rfl
  have H:Frame.finish (FQ cE T [.inRegion oX [0],.code ij]) (.pointer (some ⟨j.heap.size,0,none⟩))=FQ cE (T.setIfInBounds 9 (.pointer (some ⟨w.heap.size,0,none⟩))) [.inRegion oX [],.code ij]:=by
   simp only[Frame.finish,u,qN,k]
  rw[H];refine .step rfl λB ⟨d3,e3⟩=>⟨Gl (FQ cE (T.setIfInBounds 9 (.pointer (some ⟨w.heap.size,0,none⟩))) [.code ij]::xs) [],B,#[],λ_=>False,by simp[Gl,stepG,stepG.exec],⟨rfl,am _⟩,.stop λO ⟨d4,e4⟩=>⟨rfl, ?_, ?_⟩⟩
  .rw[e4,e3,e2,e1];rfl
  .rw[e4,e3,e2,e1];rfl
 obtain⟨N,b,a,c,d,e,s,P,I,G,L,⟨rfl,E,A⟩,r,n,p⟩:=aar (sl:=sl) (afO (aZ:=aZ) (B0:=w.heap.size)) C F ⟨x,x.seen⟩ K;exact⟨N,b,c,d,e,s,_,I,G,L,r,n,p,by simp,by rw[aG (bd (by decide) v),du rfl],λt D=>by rw[aG (bd (by decide) v),be D],E,A⟩
end
def lL{N : Nat}{m m':Machine}{a : Trace}{r:Stepped×Trace}(h:runNT P N m t=(.next m',a))(b:runNT P Z m' a=r):runNT P (N+Z) m t=r:=by
 rw[runNT_add,h];exact b
section
variable {X:Mx} {R:au} {T:Array Value} {w:World} {xs bs:List Frame}
structure Mx.Pre (X:Mx) (T:Array Value):Prop where
 z:T.size=X.Z
 zz:45<=X.Z
 s2:T.getD 2 undef=.slice X.A2 X.n2 X.c2
 s3:T.getD 3 undef=.pointer (some ⟨X.bk,0,none⟩)
 s4:T.getD 4 undef=.pointer (some ⟨X.bp,0,none⟩)
 s8:T.getD 8 undef=.pointer (some ⟨X.ba,0,none⟩)
 s9:T.getD 9 undef=.pointer (some ⟨X.Wg,0,none⟩)
 sv:∀t,ak9 t=true->T.getD t undef=X.sv t
def aiL(a:X.Pre T):bM prog true (X.Rl R) (pP R) (λS g _=>(S=λ_=>False)/\∃c,X.Sl c 0/\g=Gl (FQ cE c (.code jF::kB)::xs) bs) (λ_=>False) (Gl (FQ cE T [.code ij]::xs) bs) w:=by
 have H:=X.nI R;unfold ij;refine eN H.cmp (eN H.cmp (gD H.cmp (l:=[0,1,2]) rfl λq o=>auq H a.zz a.z a.s2 λc k b e d f=>aeK H.cmp (ans H.cmp λm n=>.stop λp j=>⟨rfl,c, ?_,rfl⟩))) w (H.gz _ _);refine⟨k,a.zz,(b 3 (by decide) (by decide) (by decide)).trans a.s3,(b 4 (by decide) (by decide) (by decide)).trans a.s4,(b 8 (by decide) (by decide) (by decide)).trans a.s8,(b 9 (by decide) (by decide) (by decide)).trans a.s9,e,d,f,λt i=>(b t ?_ ?_ ?_).trans (a.sv t i)⟩<;>(rintro rfl;cases i)
end
def afP(h:∀op∈t,op.act.low a.block):NoRelease a t:=λi d=>by
 unfold Trace.act? at d;obtain⟨op,e,b⟩:=jt.1 d;have c:=h op (qI e);rw[b] at c;exact Nat.lt_irrefl _ c
section
variable {X:Mx} {R:au} {gs:Array Goroutine} {w:World} {sl:Option (Nat×Nat)} {t:Trace} {q:Nat->Nat} {aZ:au} {T:Array Value} {xs:List Frame}
def aCL (D:X.Ok) (hF:eT Y) (J:∀a4 nm,Y a4 [] nm=(⟨#[]⟩,false)) (h0:gs[0]?=some (Gl (FQ cE T [.code ij]::xs) [])) (hs:X.Pre T)
  (hL:Leavers prog t gs q) (hP:eZ aZ (gs.size-1) w.heap.size t) (C:∀op∈t,op.act.low X.Wg) (fH:WgAt eR.tWg X.Wg w 0 0) (W:PayAt X.C (2*X.n2) w) (j:X.At R w) (u:∀b,aZ b->¬R b/\b≠X.C/\b<w.heap.size) :
  ∃(N:Nat) (n:Array Goroutine) (m:World) (al:Option (Nat×Nat)) (G:Trace) (q':Nat->Nat) (T':Array Value) (R':au),runNT prog N (crowd gs w sl) t=(.next (crowd n m al),G)/\
   n[0]?=some (Gl (FQ cE T' [.code cM]::xs) [])/\Leavers prog G n q'/\eZ (λb=>b=X.Wg\/aZ b) (n.size-1) m.heap.size G/\X.Sl T' X.n2/\X.At R' m/\PayAt X.C (2*X.n2) m/\
   (∀f nm,X.dK[f]?=some nm->Has X.C (2*f) (.string (Y X.key X.l nm).1) m/\Has X.C (2*f+1) (.bool (Y X.key X.l nm).2) m)/\(∀b,b=X.Wg\/aZ b->b<m.heap.size):=by
 have iG:0<gs.size:=(dl.1 h0).1
 let val:Nat->Value:=λi=>if i % 2=0 then .string (Y X.key X.l (X.dK.getD (i / 2) 0)).1 else .bool (Y X.key X.l (X.dK.getD (i / 2) 0)).2
 have o:∀f nm,X.dK[f]?=some nm->val (2*f)=.string (Y X.key X.l nm).1/\val (2*f+1)=.bool (Y X.key X.l nm).2:=λf nm h=>by
  have e1:2*f % 2=0:=by omega
  have M:(2*f+1) % 2≠0:=by omega
  have e3:2*f / 2=f:=by omega
  have e4:(2*f+1) / 2=f:=by omega
  have e5:X.dK.getD f 0=nm:=by rw[sY,h];rfl
  exact⟨by simp only[val,e1,e3,e5,qe],by simp only[val,be M,e4,e5]⟩
 have hi:X.Inv R (λ_=>False) w:=⟨λb h=>h.elim,j,⟨_,_,fH⟩,λb _ h=>h⟩;have P:tY prog eR.tWg X.Wg X.C X.n2 val (adu X xs []) X.n2 R (Gl (FQ cE T [.code ij]::xs) []) w:=
  aeJ (bM.weak (λ_ _ _ h=>h) (λ_ _ _ _ _ h=>h) (λS g w h=>by
   obtain⟨⟨rfl,s,r,rfl⟩,v⟩:=h;exact⟨rfl,adv D hF J o X.n2 0 R s w (by omega) v.at_ v.live r⟩) (Mx.lift (aiL hs) hi))
 have an:Sets X.Wg X.C aZ w R (λ_=>False) (λ_ _=>False) (λ_ _=>False):=
  ⟨j.rlt,λb h=>h.elim,λ_ b h=>h.elim,λ_ b h=>h.elim,λb _ h=>h,λ_ b h=>h.elim,λ_ b h=>h.elim,λ_ _ b h=>h.elim,j.ltW,j.ltC,D.cW,j.rW,λh=>h,λ_ h=>h,j.rC,λh=>h,λ_ h=>h,λb h=>(u b h).1,λ_ _ h=>h,λ_ _ _ h=>h,λh=>(u _ h).2.1 rfl,λb h=>(u b h).2.2⟩
 have ax:=D.n2m;obtain⟨N,m',t1,O,V,B,aa,a,q1,y,S1,rfl,Q,ao,⟨s,r,a7⟩,a1,I,a5,K, -,U⟩:=
  aiM (sl:=sl) (K0:=gs.size-1) (Fin:=azZ X xs []) (by omega) (λR S g w ⟨_,T,_,T2,e,_⟩=>by rw[e];rfl) (λR S g w h=>aum h) h0 (by omega) hL hP P fH W
   (λi x hx a Q e=>agm (S:=λb=>b=X.Wg) C hx (λb H=>pa H.symm) (by rw[Q];exact e)) (afP C) an
 have hG:bM prog true RlB (λS S' w m es=>m=w/\es=#[]/\S'=S) (λ_ g w=>(g=Gl (FQ cE s [.code cM]::xs) []/\X.At y w)) (λ_=>False) a B:=by
  refine bM.bind (λ_ w=>atRel_refl w) (λ_ a b c h k=>atRel_trans a b c h k) (bM.ab2 (R:=RM eR.tWg X.Wg X.C X.n2 y S1) (Stop:=λS g w=>S=(λ_=>False)/\(g=Gl (FQ cE s (.inRegion jZ []::[.code cM])::xs) []/\WgLive eR.tWg X.Wg w)/\X.At y w) (λw B ⟨d,e⟩=>e▸kg.at _ _ _ _ _) (λw m es h=>⟨h.1,h.2,rfl⟩) (λg w h=>⟨rfl,h⟩) a7) ?_;rintro S g w ⟨rfl,⟨rfl, -⟩,j⟩;exact .step rfl λE ⟨d2,M⟩=>⟨Gl (FQ cE s [.code cM]::xs) [],E,#[],λ_=>False,by simp[Gl,stepG,stepG.exec],⟨rfl,rfl,rfl⟩,.stop λw3 ⟨d3,e3⟩=>⟨rfl,by rw[e3,M];exact j.move (λ_ _=>rfl) (am _) rfl⟩⟩
 have ad:=bM.inv (Gr2:=GrB λb=>b=X.Wg\/aZ b) (Inv:=λ_ w=>w.heap=B.heap) (agl:=λS g w=>(g=Gl (FQ cE s [.code cM]::xs) []/\X.At y w)/\w.heap=B.heap) (λ_ _ _ h ⟨d,e⟩=>by rw[e];exact h) (λ_ _ _ _ _ h g=>by
  obtain⟨rfl,rfl,rfl⟩:=g;exact⟨⟨am _,λe h=>by simp at h⟩,h⟩) (λ_ _ _ h k=>⟨h,k⟩) hG rfl
 have Z:V.size-1=gs.size-1+X.n2:=by omega
 obtain⟨N2,a6,a2,E,a9,t2,q2,S2,F,L,a8,⟨⟨rfl,a0⟩,p⟩,af,a3⟩:=aar (sl:=aa) (aa9 (aZ:=λb=>b=X.Wg\/aZ b)) Q a1 (by rw[Z];exact I) ad;refine⟨N+N2,a6,E,a9,t2,q2,s,y, ?_,a8,af,by rw[L];exact a3,r,a0, ?_,λf nm z=> ?_,λb H=> ?_⟩
 .exact lL O F
 .obtain⟨cs,h1,h2⟩:=a5;exact⟨cs,by rw[p];exact h1,h2⟩
 .obtain⟨v0,v1⟩:=o f nm z;have ir:f<X.n2:=by rw[<-D.nn];exact(pi.1 z).1
  obtain⟨g0,g1⟩:=K f ir;rw[v0] at g0;rw[v1] at g1;have l:∀A,E.cell? A=B.cell? A:=λA=>gQ (by rw[p]);exact⟨(l _).trans g0,(l _).trans g1⟩
 .rw[p];exact(U b (H.elim .inr .inl)).2.2.2
end
def JW(t:Nat):Bool:=t ==3||t ==4||t ==5||t ==9||t ==10||t ==11||t ==13||t ==15||t ==16||(decide (18<=t)&&decide (t<=28))
def aut:kX JW cM=true:=by kernel_rfl
def az6:kX JW (f153.body.getD .skip)=false:=by kernel_rfl
def az7:kX JW (f54.body.getD .skip)=false:=by kernel_rfl
def axT :Frame.enter prog cE X .normal=FQ cE (T0F X) [.code ab3]:=by
 have a:prog.funcs[cE]?=some f54:=func54;unfold Frame.enter;rw[a];rfl
def alb{t : Array Value}(_:X.size=t.size)(h:∀i,JW i=false->X[i]?=t[i]?):results f54 X=results f54 t:=by
 have e:∀i,JW i=false->X.getD i undef=t.getD i undef:=λi c=>by rw[iS,iS,h i c]
 have a:=e 6 rfl;have b:=e 7 rfl;simp only[iS] at a b;simp[results,results54,a,b]
section
variable {gs:Array Goroutine} {w:World} {sl:Option (Nat×Nat)} {t:Trace} {q:Nat->Nat} {aZ:au}
theorem aqQ {fv:Int->List iY->Int->ByteArray×Bool} (hF:eT fv) (hF0:∀key nm,fv key [] nm=(⟨#[]⟩,false)) {R:List Frame->World->Prop} {c:Cfg} {ρ:Ren} {a a':Array Value} {m m':List Frame}
  (hva:dv ρ a a') (hst:ja (ah true) ρ m m') (hc:c.l=Frame.enter (ah true) cE a .normal::m) (hw:WR ρ c.w w) (hg:GlR ρ) (hW:kN (ah true) R c)
  (h0:gs[0]?=some (Gl (Frame.enter prog cE a' .normal::m') [])) (hL:Leavers prog t gs q) (hP:eZ aZ (gs.size-1) w.heap.size t) (hSh:∀b,aZ b->b<w.heap.size) (hrs:∀b b',ρ.r b b'->¬aZ b') :
  ∃(N:Nat) (gs':Array Goroutine) (w':World) (sl':Option (Nat×Nat)) (t':Trace) (q':Nat->Nat) (Wg:Nat) (c1:Cfg) (ρ1:Ren) (l1 lR:List Frame),runNT prog N (crowd gs w sl) t=(.next (crowd gs' w' sl'),t')/\
   gs'[0]?=some (Gl lR [])/\Leavers prog t' gs' q'/\eZ (λb=>b=Wg\/aZ b) (gs'.size-1) w'.heap.size t'/\w.heap.size<=Wg/\(∀b,b=Wg\/aZ b->b<w'.heap.size)/\
   iN (ah true) c1 c/\ρ.Le ρ1/\ja (ah true) ρ1 c1.l l1/\WR ρ1 c1.w w'/\kN (ah true) R c1/\(∀b b',ρ1.r b b'->ρ.r b b'\/(w.heap.size<=b'/\b'≠Wg))/\Rt prog JW l1 lR/\(∀b,b<w.heap.size->¬aZ b->w'.heap[b]?=w.heap[b]?)/\w'.ou=w.ou/\w.heap.size<=w'.heap.size/\PkG ρ c.w w c1.w w':=by
 obtain⟨key,A,n,cc,l,A2,n2,c2,dK,c1,hA,aqR,hW1,hpo,cont⟩:=aoO hF hva hst hc hw hg hW;have hz0:45<=(T0F a').size:=by simp only[T0F,sE,tj];omega
 rw[axT] at h0
 let V:au:=λb=>b<w.heap.size/\¬aZ b
 obtain⟨N1,gs1,w1,sl1,t1,q1,T,bk,bp,C,ba,cs,hr1,aur,ha1,hL1,hP1,hzT,hT3,⟨u3,u4,u6,u7,u8,u17⟩,⟨hk1,hz1,ho1⟩,⟨lk,lp,lC,la⟩,ck,cp,hcs,cC,ca⟩:=aCI (sl:=sl) (V:=V) h0 hz0 hA.n2m hA.s0 hA.s1 hA.s2 hL hP hSh λb hb=>hb;rw[<-aur] at hP1;obtain⟨N2,gs2,w2,sl2,t2,q2,T',hr2,aus,ha2,hL2,hP2,az8,aCO,u9,hT9,hh2,fD⟩:=aCJ (sl:=sl1) ha1 (by rw[hzT];exact hz0) hL1 hP1;rw[<-aus] at hP2;have hCl:=jG cC;have py:=jG ca;have aiN:∀b,b<w1.heap.size->w2.heap[b]?=w1.heap[b]?:=λb hb=>by rw[hh2,qK,be (by omega)]
 have hws:w2.heap.size=w1.heap.size+1:=by rw[hh2,Array.size_push]
 let X:Mx:=⟨w,w1.heap.size,C,n2,λb=>∃a,ρ.r a b,key,A,n,cc,l,A2,c2,dK,bk,bp,ba,λt=>T'.getD t undef,T'.size,V⟩
 have hvr:∀b,(∃a,ρ.r a b)->V b:=λb ⟨a,hab⟩=>⟨(hw.lt hab).2,hrs a b hab⟩;have ok:X.Ok:=⟨hw.lH.2,λg hgm=>⟨g,hg g hgm⟩,hA.k1,hA.k2,hA.ln,hA.nc,hA.cm,hA.gl,hA.rd,hA.rg,hA.al,hA.al2,hA.nm,hA.nn,hA.n2m,(by show C≠w1.heap.size;omega),hvr⟩
 let R0:au:=λb=>V b\/b=bk\/b=bp\/b=ba
 have hat:X.At R0 w2:=by
  refine⟨λb hb=>(aiN b (bd hb.1 hz1)).trans (hk1 b hb), ?_,fD.trans ho1,λb hb=>.inl hb,⟨.inr (.inl rfl),(aiN bk (by omega)).trans ck⟩,⟨.inr (.inr (.inl rfl)),(aiN bp (by omega)).trans cp⟩,⟨.inr (.inr (.inr rfl)),(aiN ba py).trans ca⟩,λb hb=> ?_,λhb=> ?_,λhb=> ?_, ?_, ?_⟩
  .show w.heap.size<=w2.heap.size;omega
  .rcases hb with hb|rfl|rfl|rfl
   .have:=hb.1;omega
   all_goals omega
  .rcases hb with hb|hb|hb|hb
   .have:C<w.heap.size:=hb.1;omega
   .have:C=bk:=hb;omega
   .have:C=bp:=hb;omega
   .have:C=ba:=hb;omega
  .rcases hb with hb|hb|hb|hb
   .have:w1.heap.size<w.heap.size:=hb.1;omega
   .have:w1.heap.size=bk:=hb;omega
   .have:w1.heap.size=bp:=hb;omega
   .have:w1.heap.size=ba:=hb;omega
  .show C<_;omega
  .show w1.heap.size<_;omega
 have g9:∀t,t≠9->T'.getD t undef=T.getD t undef:=hT9;have alc:X.Pre T':=⟨rfl,by show 45<=T'.size;omega,(g9 2 (by decide)).trans ((hT3 2 (.inl (by decide))).trans hA.s2),(g9 3 (by decide)).trans u3,(g9 4 (by decide)).trans u4,(g9 8 (by decide)).trans u8,u9,λt ht=>rfl⟩;obtain⟨N3,gs3,w3,sl3,t3,q3,T3,R3,hr3,ha3,hL3,hP3,hs3,ald,⟨cs3,hc3,aCP⟩,awB,aCQ⟩:=aCL (X:=X) (sl:=sl2) ok hF hF0 ha2 alc hL2 hP2 az8
  (by show w2.heap[w1.heap.size]?=_;rw[hh2,rh]) ⟨cs,(aiN C hCl).trans cC,hcs⟩ hat λb hb=>by
   have mz:=hSh b hb;refine⟨λh=> ?_,(by show b≠C;omega),by omega⟩;rcases h with h|h|h|h
   .exact h.2 hb
   all_goals omega
 have az9:w.heap.size<=w3.heap.size:=ald.sz;have axU:∀κ nm,dK[κ]?=some nm->cs3[2*κ]?=some (.string (fv key l nm).1)/\cs3[2*κ+1]?=some (.bool (fv key l nm).2):=λκ nm h=>
  ⟨aiO (A:=⟨C,2*κ,none⟩) (z:=(0,0)) (t:=141) hc3 (awB κ nm h).1,aiO (A:=⟨C,2*κ+1,none⟩) (z:=(0,0)) (t:=141) hc3 (awB κ nm h).2⟩
 obtain⟨ρ3,T2,hle,ale,aCR,aAa,hz3,axV,t6,t7,t8,t17,tid⟩:=cont w3 C ba cs3 (λb b' hb=>ald.keep b' (hvr b' ⟨b,hb⟩)) ald.os az9 (by omega) (by omega) (by omega) hc3 aCP axU ald.ra.2;obtain⟨_,_,y,ys,e1,hm'⟩:=hst.ne';have aCS:T3.size=(T0F a').size:=hs3.z.trans (aCO.trans hzT);have aCT:∀i,i<(T0F a').size->T3.getD i undef=T2.getD i undef->T3[i]?=T2[i]?:=λi hi h=>by
  rw[vT (by omega),vT (by omega),h]
 refine⟨N1+(N2+N3),gs3,w3,sl3,t3,q3,w1.heap.size,c1,ρ3,FQ cE T2 [.code cM]::m',FQ cE T3 [.code cM]::m',lL hr1 (lL hr2 hr3),ha3,hL3,hP3,hz1,aCQ,aqR,hle,ale,aCR,hW1,λb b' hb=> ?_, ?_,λb hb hn=>ald.keep b ⟨hb,hn⟩,ald.os,az9,λb b' hb hrw=>⟨(hpo b b' hb hrw).1,λi u hu hcu=>⟨(hpo b b' hb hrw).2 i u hu hcu,jD (ald.keep b' (hvr b' ⟨b,hb⟩))⟩⟩⟩
 .rcases aAa b b' hb with h|rfl|rfl
  .exact .inl h
  .exact .inr ⟨by omega,by omega⟩
  .exact .inr ⟨by omega,by omega⟩
 .refine .inr ⟨FQ cE T2 [.code cM],FQ cE T3 [.code cM],m',rfl,rfl,by rw[hm'];simp,⟨rfl,rfl,⟨rfl,rfl⟩,rfl,⟨rfl,rfl⟩,⟨rfl,rfl⟩,aCS.trans hz3.symm,λi hi=> ?_, ?_⟩,_,func54,λt t' hz h=>alb hz h⟩
  .refine(pm i (T0F a').size).elim (λhlt=> ?_) λnY=> ?_
   case refine_2=> 
    show T3[i]?=T2[i]?;rw[qm (by omega),qm (by omega)]
   have hi':i=0\/i=1\/i=2\/i=6\/i=7\/i=8\/i=17\/aaV i=true:=by
    simp only[JW,wR,de,sV,tu] at hi;simp only[aaV,rm,nF,qT];omega
   refine aCT i hlt ?_;have hsv:∀t,ak9 t=true->T3.getD t undef=T'.getD t undef:=hs3.sv;rcases hi' with rfl|rfl|rfl|rfl|rfl|rfl|rfl|hid
   .rw[hsv 0 rfl,g9 0 (by decide),hT3 0 (.inl (by decide)),axV 0 (by decide)]
   .rw[hsv 1 rfl,g9 1 (by decide),hT3 1 (.inl (by decide)),axV 1 (by decide)]
   .rw[hsv 2 rfl,g9 2 (by decide),hT3 2 (.inl (by decide)),axV 2 (by decide)]
   .rw[hsv 6 rfl,g9 6 (by decide),u6,t6]
   .rw[hsv 7 rfl,g9 7 (by decide),u7,t7]
   .rw[hs3.s8,t8]
   .rw[hsv 17 rfl,g9 17 (by decide),u17,t17]
   .have hfx:ak9 i=true:=by simp only[ak9,hid,Bool.or_true]
    rw[hsv i hfx,g9 i (by rintro rfl;cases hid),hT3 i (.inr hid),tid i hid]
  .simp only[qF,vZ,uK,mL];exact aut
end
structure ant (R:List Frame->World->Prop) (W:World) (S0:au) (aZ:au) (ρ:Ren) (c:Cfg) (w:World):Prop where
 lax:ρ.lax=false
 wr:WR ρ c.w w
 gl:GlR ρ
 will:kN (ah true) R c
 rng:∀b b',ρ.r b b'->S0 b'\/(W.heap.size<=b'/\¬aZ b')
 sh:∀b,aZ b->W.heap.size<=b/\b<w.heap.size
 s0:∀b,S0 b->b<W.heap.size
 keep:∀b,b<W.heap.size->¬S0 b->w.heap[b]?=W.heap[b]?
 os:w.ou=W.ou
 sz:W.heap.size<=w.heap.size
structure alf (W:World) (S0 aZ S:au) (w:World):Prop where
 s:∀b,S b->S0 b\/(W.heap.size<=b/\¬aZ b)
 sh:∀b,aZ b->b<w.heap.size
 keep:∀b,b<W.heap.size->¬S0 b->w.heap[b]?=W.heap[b]?
 os:w.ou=W.ou
 sz:W.heap.size<=w.heap.size
section
variable {W:World} {S0 aZ S S':au} {w w':World} {es:Array Event}
def alf.rely(h:alf W S0 aZ S w)(a:RlB S w w'):alf W S0 aZ S w':=by
 obtain⟨d,rfl⟩:=a;exact⟨h.s,h.sh,h.keep,h.os,h.sz⟩
def alf.step(f:∀b,S0 b->b<W.heap.size)(i:∀b,aZ b->W.heap.size<=b)(h:alf W S0 aZ S w)(g:pP (λ_=>False) S S' w w' es):GrB aZ S S' w w' es/\alf W S0 aZ S' w':=by
 have k:ak7 aZ S w:=⟨λb a c=>(h.s b a).elim (λx=>by have:=f b x;have:=i b c;omega) λx=>x.2 c,h.sh⟩;obtain⟨m,e⟩:=aqP (λ_ h=>h.elim) k g;obtain⟨j,l,n,rfl,o⟩:=g;refine⟨m,λb a=> ?_,e.2,λb a d=> ?_,n.trans h.os,ap h.sz l⟩
 .rcases a with a|a
  .exact h.s b a
  .exact .inr ⟨ap h.sz a.1,λc=>by have:=h.sh b c;omega⟩
 .rw[j b (bd a h.sz) λc=> ?_]
  .exact h.keep b a d
  .rcases h.s b c with x|x
   .exact d x
   .omega
end
theorem aqS{fv:Int->List iY->Int->ByteArray×Bool}(hF:eT fv)(hF0:∀key nm,fv key [] nm=(⟨#[]⟩,false)){R:List Frame->World->Prop}{W:World}{S0:au}{c:Cfg}(alg:Acc (iN (ah true)) c) :
  ∀{ρ:Ren} {aZ:au} {l' lR:List Frame} {w:World} {gs:Array Goroutine} {sl:Option (Nat×Nat)} {t:Trace} {q:Nat->Nat},ant R W S0 aZ ρ c w->ja (ah true) ρ c.l l'->Rt prog JW l' lR->gs[0]?=some (Gl lR [])->Leavers prog t gs q->eZ aZ (gs.size-1) w.heap.size t->
   ∃(N:Nat) (gs':Array Goroutine) (w':World) (sl':Option (Nat×Nat)) (t':Trace) (q':Nat->Nat) (aAb:au) (c1:Cfg) (ρ1:Ren) (l1:List Frame),runNT prog N (crowd gs w sl) t=(.next (crowd gs' w' sl'),t')/\
    gs'[0]?=some (Gl l1 [])/\Leavers prog t' gs' q'/\eZ aAb (gs'.size-1) w'.heap.size t'/\ant R W S0 aAb ρ1 c1 w'/\pR c1.l/\ja (ah true) ρ1 c1.l l1/\ρ.Le ρ1/\PkG ρ c.w w c1.w w':=by
 induction alg with
 |intro c _ ih=>
  intro ρ aZ l' lR w gs sl t q h hst hR h0 hL hP;have alg:Acc (iN (ah true)) c:=h.will.acc.transGen;have Hb:=ak6 (λ_=>False);have axW:aiQ (ah true) R (λ_=>False) (λb=>S0 b\/(W.heap.size<=b/\¬aZ b)) ρ c l' w:=⟨hst,h.wr,h.gl,h.will,λb b' hb=>.inl (h.rng b b' hb)⟩;have aqT:=aiR (mM true) (awC true) Hb.gz Hb.tr Hb.rl Hb.cmp.gr (awD az6 az7) (agn Hb.cmp) (main:=true) (base:=[]) alg axW hR;have hG:=bM.inv (Gr2:=GrB aZ) (Inv:=alf W S0 aZ) (λ_ _ _ a b=>a.rely b) (λ_ _ _ _ _ a b=>a.step h.s0 (λb hb=>(h.sh b hb).1) b) (λ_ _ _ a b=>And.intro a b) aqT ⟨λb hb=>hb,λb hb=>(h.sh b hb).2,h.keep,h.os,h.sz⟩;obtain⟨N,gs1,a1,w1,sl1,t1,q1,S1,hr1,hz1,ha1,⟨⟨c1,ρ1,l1,hor,hle, -,rfl,cZ,hg1,hW1,pS,auu,hend⟩,mK⟩,hL1,hP1⟩:=aar (sl:=sl) aa9 h0 hL hP hG;rw[<-hz1] at hP1;have ahp:∀b b',ρ1.r b b'->S0 b'\/(W.heap.size<=b'/\¬aZ b'):=λb b' hb=>(pS b b' hb).elim (mK.s b') λx=>x.1.elim;have aAc:ρ1.lax=false:=hle.lax.symm.trans h.lax;rcases hend with⟨hf,aoP⟩|⟨a,a',m,m',hva,aCU,hc1,hl1⟩
  .exact⟨N,gs1,w1,sl1,t1,q1,aZ,c1,ρ1,l1,hr1,ha1,hL1,hP1,⟨aAc,cZ,hg1,hW1,ahp,λb hb=>⟨(h.sh b hb).1,mK.sh b hb⟩,h.s0,mK.keep,mK.os,mK.sz⟩,hf,aoP,hle,auu⟩
  .rw[hl1] at ha1;have hns:∀b b',ρ1.r b b'->¬aZ b':=λb b' hb hs=>(ahp b b' hb).elim (λx=>by have:=h.s0 _ x;have:=(h.sh _ hs).1;omega) λx=>x.2 hs;obtain⟨N2,gs2,w2,sl2,t2,q2,Wg,c2,ρ2,l2,lR2,hr2,ha2,hL2,hP2,hWg,aCV,awE,aoQ,aiS,hw2,hW2,aAd,hR2,hk2,fD,hz2,aqU⟩:=aqQ (sl:=sl1) hF hF0 hva aCU hc1 cZ hg1 hW1 ha1 hL1 hP1 mK.sh hns;have aqR:iN (ah true) c2 c:=by
    rcases hor with e|e
    .rw[<-e];exact awE
    .exact tv awE e
   have hS2:ant R W S0 (λb=>b=Wg\/aZ b) ρ2 c2 w2:=by
    refine⟨aoQ.lax.symm.trans aAc,hw2,hg1.mono aoQ,hW2,λb b' hb=> ?_,λb hb=>⟨?_,aCV b hb⟩,h.s0,λb hb hn=> ?_,fD.trans mK.os,ap mK.sz hz2⟩
    .rcases aAd b b' hb with hb|⟨h1,h2⟩
     .rcases ahp b b' hb with x|⟨x,y⟩
      .exact .inl x
      .refine .inr ⟨x,λe=>e.elim (λe=> ?_) y⟩;have:=(cZ.lt hb).2;omega
     .exact .inr ⟨ap mK.sz h1,λe=>e.elim h2 λhs=>by have:=mK.sh _ hs;omega⟩
    .rcases hb with rfl|hb
     .exact ap mK.sz hWg
     .exact(h.sh b hb).1
    .rw[hk2 b (bd hb mK.sz) λhs=>by have:=(h.sh b hs).1;omega];exact mK.keep b hb hn
   obtain⟨N3,gs3,w3,sl3,t3,q3,aCW,c3,ρ3,l3,hr3,ha3,hL3,hP3,hS3,hf3,ale,aCX,aCY⟩:=ih c2 aqR hS2 aiS hR2 ha2 hL2 hP2;exact⟨N+(N2+N3),gs3,w3,sl3,t3,q3,aCW,c3,ρ3,l3,lL hr1 (lL hr2 hr3),ha3,hL3,hP3,hS3,hf3,ale,(hle.trans aoQ).trans aCX,auu.trans hle (aqU.trans aoQ aCY)⟩
end
section
open Go.Conc Go.ConcN Go.RowKit
open Go.ConcR (DC0)
mutual
inductive nW (V:Nat->Prop):Value->Prop
 |bool (b:Bool):nW V (.bool b)
 |int (k:IntKind) (n:Int):nW V (.int k n)
 |string (s:ByteArray):nW V (.string s)
 |nilPtr:nW V (.pointer none)
 |pointer {a:Addr} (h:V a.block):nW V (.pointer (some a))
 |pT (l c:Nat):nW V (.slice none l c)
 |slice {a:Addr} (h:V a.block) (l c:Nat):nW V (.slice (some a) l c)
 |nilFunc:nW V .nilFunc
 |iface (t:TypeId) {v:Value} (h:nW V v):nW V (.iface t v)
 |nilIface:nW V .nilIface
 |agg {c:Array Value} (h:nJ V c.toList):nW V (.agg c)
inductive nJ (V:Nat->Prop):List Value->Prop
 |nil:nJ V []
 |cons {v:Value} {l:List Value} (h:nW V v) (hl:nJ V l):nJ V (v::l)
end
mutual
def nW.mono{V U:Nat->Prop}(h:∀b,V b->U b):∀{v:Value},nW V v->nW U v
 |_,.bool b=>.bool b
 |_,.int k n=>.int k n
 |_,.string s=>.string s
 |_,.nilPtr=>.nilPtr
 |_,.pointer h'=>.pointer (h _ h')
 |_,.pT l c=>.pT l c
 |_,.slice h' l c=>.slice (h _ h') l c
 |_,.nilFunc=>.nilFunc
 |_,.iface t h'=>.iface t (nW.mono h h')
 |_,.nilIface=>.nilIface
 |_,.agg h'=>.agg (nJ.mono h h')
def nJ.mono{V U:Nat->Prop}(h:∀b,V b->U b):∀{l:List Value},nJ V l->nJ U l
 |_,.nil=>.nil
 |_,.cons h1 h2=>.cons (nW.mono h h1) (nJ.mono h h2)
end
section
variable {V:Nat->Prop} {ρ:Ren} (hV:∀b,V b->ρ.r b b)
include hV
theorem anu(h:V a.block):AR ρ a a:=by
 obtain⟨b,o,s⟩:=a;exact .mk (hV _ h) o s
theorem awF{b : Addr}(h:V a.block)(k:AR ρ a b):b=a:=by
 cases k with
 |mk c o s=>rw[ρ.fn c (hV _ h)]
mutual
theorem nW.self:∀{v:Value},nW V v->VR ρ v v
 |_,.bool b=>.bool b
 |_,.int k n=>.int k n
 |_,.string s=>.string s
 |_,.nilPtr=>.pointer .none
 |_,.pointer h=>.pointer (.some (anu hV h))
 |_,.pT l c=>.slice .none l c
 |_,.slice h l c=>.slice (.some (anu hV h)) l c
 |_,.nilFunc=>.nilFunc
 |_,.iface t h=>.iface t (nW.self h)
 |_,.nilIface=>.nilIface
 |_,.agg h=>.agg (nJ.self h)
theorem nJ.self:∀{l:List Value},nJ V l->bW ρ l l
 |_,.nil=>.nil
 |_,.cons h1 h2=>.cons (nW.self h1) (nJ.self h2)
end
mutual
def nW.fn:∀{v d:Value},nW V v->VR ρ v d->d=v
 |_,_,.bool b,k=>by cases k;rfl
 |_,_,.int _ n,k=>by cases k;rfl
 |_,_,.string s,k=>by cases k;rfl
 |_,_,.nilPtr,k=>by
  cases k with
  |pointer h=>cases h;rfl
 |_,_,.pointer h,k=>by
  cases k with
  |pointer a=>cases a with
   |some a=>rw[awF hV h a]
 |_,_,.pT l c,k=>by
  cases k with
  |slice h=>cases h;rfl
 |_,_,.slice h l c,k=>by
  cases k with
  |slice a=>cases a with
   |some a=>rw[awF hV h a]
 |_,_,.nilFunc,k=>by cases k;rfl
 |_,_,.iface t h,k=>by
  cases k with
  |iface _ a=>rw[nW.fn h a]
 |_,_,.nilIface,k=>by cases k;rfl
 |_,_,.agg (c:=c) h,k=>by
  cases k with
  |@agg _ f a=>
   have e:=nJ.fn h a;rw[uQ.1 e]
def nJ.fn:∀{l a:List Value},nJ V l->bW ρ l a->a=l
 |_,_,.nil,k=>by cases k;rfl
 |_,_,.cons h1 h2,k=>by
  cases k with
  |cons b c=>rw[nW.fn h1 b,nJ.fn h2 c]
end
end
def eZ.past{B : Nat}(h:eZ aZ Z B t):Past (ShL aZ) B t:=by
 refine⟨h.clean,λi a j _=> ?_,h.over,h.hears,h.seen⟩;obtain⟨op,c,b⟩:=touch_of j;by_cases d:ShL aZ a.loc
 .obtain⟨k,f⟩:=h.quiet i op a c b d;cases e:a.kind with
  |plain=>exact absurd e k
  |atomic=>exact .inr ⟨d,rfl⟩
  |said=>
   have g:=f e;have:=knows_own (t:=t) c;rw[g] at this;exact .inl this
 .exact .inl (h.known i op a c b d)
def ahq(W:World)(v:Value)(w':World):Prop:=v=.bool true/\Below W.heap.size W {w' with tape:=W.tape}
structure ahr (W:World) (S0:au) (P:Nat->Nat->Prop) (WL:World):Prop where
 size:WL.heap.size=W.heap.size
 out:∀b,¬S0 b->WL.heap[b]?=W.heap[b]?
 row:∀b,S0 b->∃(c c':Array Value) (t:TypeId) (z:Nat×Nat),W.heap[b]?=some (.cells c t z)/\WL.heap[b]?=some (.cells c' t z)/\c'.size=c.size/\∀i v,P b i->c[i]?=some v->c'[i]?=some v
theorem aCZ{W:World}{S0:au}{P:Nat->Nat->Prop}(hrow:∀b,S0 b->eP W b)(hP:∀b i v,S0 b->P b i->W.cell? ⟨b,i,none⟩=some v->nW S0 v)(hN:gN<=W.heap.size) :
  ∃WL,ahr W S0 P WL/\WL.ou=W.ou/\WR (Ren.rows S0 false (fu W)) WL W/\∀b i u v,S0 b->WL.cell? ⟨b,i,none⟩=some u->W.cell? ⟨b,i,none⟩=some v->(u=v/\nW S0 v)\/aen u\/∀(σ:Ren) v',σ.al=aiT (fu W)->VR σ u v'->v'=v:=by
 classical
 have hid:∀b,S0 b->(Ren.rows S0 false (fu W)).r b b:=λb hb=>⟨rfl,hb⟩;have row:∀b,S0 b->∃(c:Array Value) (t:TypeId) (z:Nat×Nat) (xs:List Value),W.heap[b]?=some (.cells c t z)/\bW (Ren.rows S0 false (fu W)) xs c.toList/\
   ∀(i:Nat) v,c.toList[i]?=some v->∃u,xs[i]?=some u/\((P b i->u=v)/\((u=v/\nW S0 v)\/aen u\/∀(σ:Ren) v',σ.al=aiT (fu W)->VR σ u v'->v'=v)):=λb hb=>by
  obtain⟨c,t,z,hc⟩:=hrow b hb;obtain⟨xs,h1,h2⟩:=alh (ρ:=Ren.rows S0 false (fu W)) (Q:=λi u v=>(P b i->u=v)/\((u=v/\nW S0 v)\/aen u\/∀(σ:Ren) v',σ.al=aiT (fu W)->VR σ u v'->v'=v)) c.toList 0 λi v hi=>by
   rw[mc];have hi':c[i]?=some v:=by rw[<-fa];exact hi
   by_cases hp:P b i
   .have jb:=hP b i v hb hp (by unfold World.cell?;rw[hc];exact hi');exact⟨v,nW.self hid jb,λ_=>rfl,.inl ⟨rfl,jb⟩⟩
   .obtain⟨u,h1, -,h3⟩:=axX (ρ:=Ren.rows S0 false (fu W)) rfl v λx hx=>aiU (ago hc hi' hx);exact⟨u,h1,λh=>absurd h hp,.inr h3⟩
  exact⟨c,t,z,xs,hc,h1,λi v hi=>by
   have:=h2 i v hi;simpa only[mc] using this⟩
 let F:∀b,S0 b->Obj:=λb hb=>.cells ⟨(row b hb).choose_spec.choose_spec.choose_spec.choose⟩ (row b hb).choose_spec.choose (row b hb).choose_spec.choose_spec.choose
 have hF:∀b (hb:S0 b),∃(c:Array Value) (t:TypeId) (z:Nat×Nat) (xs:List Value),W.heap[b]?=some (.cells c t z)/\bW (Ren.rows S0 false (fu W)) xs c.toList/\(∀(i:Nat) v,c.toList[i]?=some v->∃u,xs[i]?=some u/\((P b i->u=v)/\((u=v/\nW S0 v)\/aen u\/∀(σ:Ren) v',σ.al=aiT (fu W)->VR σ u v'->v'=v)))/\F b hb=.cells ⟨xs⟩ t z:=λb hb=>
  let h:=(row b hb).choose_spec.choose_spec.choose_spec.choose_spec
  ⟨_,_,_,_,h.1,h.2.1,h.2.2,rfl⟩
 obtain⟨heap,hs,h1,h2⟩:=awG W F;have abb:∀b,S0 b->∃(c:Array Value) (t:TypeId) (z:Nat×Nat) (xs:List Value),W.heap[b]?=some (.cells c t z)/\heap[b]?=some (.cells ⟨xs⟩ t z)/\bW (Ren.rows S0 false (fu W)) xs c.toList/\(∀(i:Nat) v,c.toList[i]?=some v->∃u,xs[i]?=some u/\((P b i->u=v)/\((u=v/\nW S0 v)\/aen u\/∀(σ:Ren) v',σ.al=aiT (fu W)->VR σ u v'->v'=v))):=λb hb=>by
  obtain⟨c,t,z,xs,k1,k2,k3,k4⟩:=hF b hb;exact⟨c,t,z,xs,k1,(h1 b hb (dl.1 k1).1).trans (ga some k4),k2,k3⟩
 refine⟨{W with heap},⟨hs,h2,λb hb=> ?_⟩,rfl,⟨λ{b b'} hb=> ?_,rfl,by show gN<=heap.size;omega,hN⟩,λb i u v hb hu hv=> ?_⟩
 .obtain⟨c,t,z,xs,k1,k2,k3,k4⟩:=abb b hb;refine⟨c,⟨xs⟩,t,z,k1,k2,by have:=k3.length;simpa using this,λi v hp hv=> ?_⟩;obtain⟨u,q1,q2, -⟩:=k4 i v (by rw[fa];exact hv);have q1':(⟨xs⟩:Array Value)[i]?=some u:=by simpa using q1
  rw[q1',q2 hp]
 .obtain⟨rfl,hb⟩:=hb;obtain⟨c,t,z,xs,k1,k2,k3, -⟩:=abb b hb;exact⟨_,_,k2,k1,.cells k3 t (.inl rfl)⟩
 .obtain⟨c,t,z,xs,k1,k2,k3,k4⟩:=abb b hb;have hu':(⟨xs⟩:Array Value)[i]?=some u:=by
   have:({W with heap}:World).heap[b]?=some (.cells ⟨xs⟩ t z):=k2;unfold World.cell? at hu;rw[this] at hu;exact hu
  have hv':c[i]?=some v:=by
   unfold World.cell? at hv;rw[k1] at hv;exact hv
  obtain⟨u',q1, -,q2⟩:=k4 i v (by rw[fa];exact hv');have:u'=u:=by
   have q1':(⟨xs⟩:Array Value)[i]?=some u':=by simpa using q1
   rw[q1'] at hu';exact dq hu'
  subst this;exact q2
theorem aqV {fv:Int->List iY->Int->ByteArray×Bool} (hF:eT fv) (hF0:∀key nm,fv key [] nm=(⟨#[]⟩,false)) {W:World} {S0:au} {P:Nat->Nat->Prop} {f:FuncId} {fn:Func} {k:Tmp} {args:Array Value}
  (hrow:∀b,S0 b->eP W b) (hP:∀b i v,S0 b->P b i->W.cell? ⟨b,i,none⟩=some v->nW S0 v) (hgl:∀g∈gL,S0 g) (hgN:gN<=W.heap.size) (aaW:nJ S0 args.toList)
  (hf:gH f=false) (hfn:prog.funcs[f]?=some fn) (hq:(ah true).funcs[f]?=some fn) (hres:fn.results=#[.tmp k]) (hni:prog.inits.idxOf? f=none)
  (fL:∀WL:World,ahr W S0 P WL->∀t:Tape,Calls (ah true) f args (WL.dW t) λe w'=>∃v,e=.returned v/\(v=.bool true/\∀b,b<W.heap.size->w'.heap[b]?=WL.heap[b]?)) :
  ∃N last o w' t',runNT prog (N+1) (solo (G (Frame.enter prog f args .normal) []) W) #[]=(.ended o w',t')/\runN prog N (solo (G (Frame.enter prog f args .normal) []) W)=.next last/\step prog last=.ended o w'/\Go.Conc.Good prog (ahq W) last o w' t':=by
 obtain⟨WL,awH,hou,hwr,aC0⟩:=aCZ hrow hP hgN;have hid:∀b,S0 b->(Ren.rows S0 false (fu W)).r b b:=λb hb=>⟨rfl,hb⟩;have hs0:∀b,S0 b->b<W.heap.size:=λb hb=>let⟨_,_,_,h⟩:=hrow b hb;jG h
 have hW:kN (ah true) (λl w'=>∃fr v,l=[fr]/\fr.fn=f/\fr.leaving (ah true) w' (.returned v)/\(v=.bool true/\∀b,b<W.heap.size->w'.heap[b]?=WL.heap[b]?)) ⟨[Frame.enter (ah true) f args .normal],WL,λ_ _=>0⟩:=
  aaX (Post:=λv w'=>v=.bool true/\∀b,b<W.heap.size->w'.heap[b]?=WL.heap[b]?) λt _=>fL WL awH t
 have hst:ja (ah true) (Ren.rows S0 false (fu W)) [Frame.enter (ah true) f args .normal] [Frame.enter prog f args .normal]:=.one (ahs (mM true) hf (nJ.self hid aaW)) adw;have hS:ant _ W S0 (λ_=>False) (Ren.rows S0 false (fu W)) ⟨[Frame.enter (ah true) f args .normal],WL,λ_ _=>0⟩ W:=⟨rfl,hwr,λg hg=>hid g (hgl g hg),hW,λb b' hb=>.inl (hb.1▸hb.2),λ_ h=>h.elim,hs0,λ_ _ _=>rfl,rfl,am _⟩;obtain⟨N1,gs1,w1,sl1,t1,q1,aZ,c1,ρ1,l1,hr1,ha1,hL1,hP1,hS1,hf1,aoP,aeM,auu⟩:=aqS hF hF0 hW.acc.transGen (gs:=#[G (Frame.enter prog f args .normal) []]) (sl:=none) (t:=#[]) (q:=λ_=>0) hS hst (.inl rfl) rfl (leavers_one _ _) (eZ.nil _);obtain⟨fr,v,hl,nh,hlv,hv,hb⟩:=hS1.will.fin hf1 acZ c1.t λ_ _ _=>rfl;obtain⟨x,xs,y,ys, -,hy⟩:=aoP.ne';have e4:=aoP.lone hl hy;subst e4 hy;rw[hl] at aoP;have aAe:=aoP.head;obtain⟨-, -, -,fn1,auv,hrv⟩:=hlv;rw[nh,hq] at auv;cases auv;have hv1:v=fr.tmps.getD k undef:=by
  have e:(results fn fr.tmps).run (ah true) (c1.w.dW c1.t)=.ok (fr.tmps.getD k undef) (c1.w.dW c1.t):=by simp[results,hres]
  rw[e] at hrv;cases hrv;rfl
 have hy1:y.tmps.getD k undef=.bool true:=by
  rw[hv] at hv1;have hk:fr.tmps[k]?=some (.bool true):=by
   rw[iS] at hv1;cases h:fr.tmps[k]? with
   |none=>rw[h] at hv1;cases hv1
   |some u=>rw[h] at hv1;exact ga some hv1.symm
  obtain⟨u,hu,hr⟩:=bW.get aAe.tmps (i:=k) (v:=.bool true) (by rw[fa];exact hk);rw[fa] at hu;rw[anv hu];cases hr;rfl
 have aAf:∀w1:World,stepG prog true (Gl [y] []) w1=.ended (.done (.bool true)) w1 (seen prog y.fn #[]):=λw1=>by
  have hr:(results fn y.tmps).runT prog w1 #[]=(.ok (.bool true) w1,#[]):=by
   have e:(results fn y.tmps).runT prog w1 #[]=(.ok (y.tmps.getD k undef) w1,#[]):=by simp[results,hres]
   rw[e,hy1]
  obtain⟨g0,hg0,gm,gd,gk⟩:=hf1;rw[hl] at hg0;cases hg0;obtain⟨f',tm',fZ,d',md',kd',r'⟩:=y;obtain⟨f0,tm0,aEO,d0,md0,kd0,r0⟩:=fr;obtain⟨h1,h2,h3,h4,h5,h6,h7⟩:=aAe;dsimp only at h1 h2 h3 h4 h5 h6 h7 gm gd gk nh hr;subst h1 gm gd gk nh;obtain rfl:md'=.returning:=by
   rcases h5 with h5|h5
   .cases h5.1
   .exact h5.2
  obtain⟨-,rfl⟩:=h6;obtain rfl:d'=[]:=by cases h4;rfl
  have e:doReturn prog true ⟨f0,tm',fZ,[],.returning,.normal,r'⟩ [] none (.bool true) w1=.ended (.done (.bool true)) w1:=by
   unfold doReturn;dsimp only;rw[hni];rfl
  simp only[Gl,stepG,unwind,hfn,hr,rH,e];simp[GStep.after]
 have hblk:∀b,b<W.heap.size->w1.heap[b]?=W.heap[b]?:=λb hbl=>by
  by_cases h0:S0 b
  .have hr0:=hid b h0;have hr:=aeM.r hr0;obtain⟨c,c',t,z,hW1,hWL,hsz, -⟩:=awH.row b h0;obtain⟨o,o',k1,k2,k3⟩:=hS1.wr.obj hr;have e:c1.w.heap[b]?=WL.heap[b]?:=hb b hbl;rw[e,hWL] at k1;cases k1;cases k3 with
   |@cells _ c'' k4 _ _ z' hz=>
    have hz':z=z':=by
     rcases hz with e|⟨e,_⟩
     .exact e
     .rw[hS1.lax] at e;cases e
    have hlen:c''.size=c'.size:=by have:=k4.length;simpa using this.symm
    have hc:c''=c:=by
     apply sQ;intro i;rcases pm i c.size with hi|hi
     .have hu:c'[i]?=some c'[i]:=gn (by omega);have hv:c[i]?=some c[i]:=gn hi;have hv2:c''[i]?=some c''[i]:=gn (by omega);have hrel:=dv.at k4 hu hv2;have cell:∀{w:World} {a:Array Value},w.heap[b]?=some (.cells a t z)->w.cell? ⟨b,i,none⟩=a[i]?:=λh=>by unfold World.cell?;rw[h];rfl
      rcases aC0 b i _ _ h0 ((cell hWL).trans hu) ((cell hW1).trans hv) with⟨e1,e2⟩|h1|h1
      .rw[e1] at hrel;rw[hv2,hv,nW.fn (V:=S0) (λb hb=>aeM.r (hid b hb)) e2 hrel]
      .have hp:=(auu b b hr0 ⟨c',t,z,hWL⟩).2 i _ h1 ((cell (e.trans hWL)).trans hu);have h2:=hp.2;rw[cell hW1] at h2;subst hz';rw[cell k2] at h2;exact h2
      .rw[hv2,hv,h1 ρ1 _ aeM.al.symm hrel]
     .rw[qm (by omega),qm (by omega)]
    rw[k2,hW1,hc,hz']
  .exact hS1.keep b hbl h0
 have hend:∀w2,Go.Conc.AtRel w1 w2->AtEnd prog (ShL aZ) w1.heap.size (ahq W) (Gl [y] []) w2:=λw2 ⟨d,e⟩=>by
  subst e;exact⟨rfl,_,_,aAf _,λe he=>(ab5 e he).elim,rfl,azM hS1.os,rfl,axH hS1.os,hS1.sz,hblk⟩
 obtain⟨N2,last,o,w2,t2,hr2,hn2,hs2,hg2⟩:=beside_ends (D:=DC0) (Shun:=ShL aZ) (B:=w1.heap.size) (Post:=ahq W) (sl:=sl1) (n:=0) (λw w' es h e he=>by rw[h.2] at he;simp at he) ha1 hL1 hP1.past (qH hend);refine⟨N1+N2,last,o,w2,t2, ?_, ?_,hs2,hg2⟩
 .rw[vI,runNT_add,show runNT prog N1 (solo (G (Frame.enter prog f args .normal) []) W) #[]=_ from hr1];exact hr2
 .have hn1:runN prog N1 (solo (G (Frame.enter prog f args .normal) []) W)=.next (crowd gs1 w1 sl1):=by
   rw[<-runNT_fst _ _ _ #[],show runNT prog N1 (solo (G (Frame.enter prog f args .normal) []) W) #[]=_ from hr1]
  rw[runN_add,hn1];exact hn2
end
section
open Go Go.Conc Go.RowKit Go.ChangeShapes Go.WideShapes Go.ChangeAt
def aoR:decide (prog.globals.size<(begin prog (λ_ _=>0) default).world.heap.size)=true:=by kernel_rfl
def aAg(h:W.ShapedOpen prog):gN<=W.heap.size:=by
 have b:=sZ aoR;obtain⟨o,c,a, -⟩:=h.2 _ (am _) b;have:=(dl.1 a).1;unfold gN;omega
def awI(k:FuncId)(W:World)(args:Array Value):Prop:=
 ∃(a:au) (P:Nat->Nat->Prop),(∀b,a b->eP W b)/\(∀b i v,a b->P b i->W.cell? ⟨b,i,none⟩=some v->nW a v)/\(∀g∈gL,a g)/\nJ a args.toList/\
  ∀c:World,ahr W a P c->∀t:Tape,Calls (ah true) k args (c.dW t) λe d=>∃v,e=.returned v/\(v=.bool true/\∀b,b<W.heap.size->d.heap[b]?=c.heap[b]?)
def xh (hF:eT Y) (D:∀T nm,Y T [] nm=(⟨#[]⟩,false)) {os:Os} {k:FuncId} {f:Func} {kt:Tmp} {s:ChangeSpec} {b:Bool} {tb:TypeId} {H:Type} {enc:TypeId×Value->H} {X:World->Array Value->Prop}
  (hX:∀(w w':World) (args:Array Value),w.heap=w'.heap->X w args->X w' args)
  (E:ownKnob prog.godebug=none) (c:os.Started) (V:prog.inits.idxOf? k=none) (n:prog.funcs[k]?=some f) (hq:(ah true).funcs[k]?=some f) (G:gH k=false) (S:f.results=#[.tmp kt])
  (hl:laidOutB prog=true) (hr:(f.params.toList.all λt=>prog.readableRec t&&decide (t<prog.types.size))=true) (u:f.resultTypes=#[tb]) (O:prog.underlying tb=some .bool) (M:varsRowed prog s.vars=true)
  (L:∀l r:List (DataW H),l.length=f.params.toList.length->r.length=s.vars.length->s.fn H (l++r)={results:=[.lit (.bool true)],args:=l,vars:=r})
  (d:∃(w:World) (a:Tape) (i:Input),w.os=os/\(w.forCall a i).Shaped prog/\i.vars=[]/\Input.okWide prog (w.forCall a i) .any w.heap.size k i/\
   ((s.pre enc prog f [] b (w.forCall a i).memory i.args/\X (w.forCall a i).memory i.args)/\sizedMet enc prog f (OpenSpec.ofChange s) b (w.forCall a i).memory i.args)/\Assume.holds {} prog (lone (Frame.enter prog k i.args .normal) [] (w.forCall a i)))
  (z:∀(W:World) (base:Nat) (args:Array Value) (l:List (DataW H)) (p:List MemPlace),
   (∀(j:Nat) t v,f.params[j]?=some t->args[j]?=some v->Value.okWide prog W .any base t v)->
   DataW.TrodAll enc prog W 0 (λ_=>true) true f.params.toList args.toList l p->(∀x∈p,x.block<W.heap.size)->X W args->awI k W args) :
  ReturnsInLeavingWide {} Tryz.checked os k .any (λw args=>(s.pre enc prog f [] b w args/\X w args)/\sizedMet enc prog f (OpenSpec.ofChange s) b w args) (s.post enc prog f b true false false):=by
 refine returnsInLeavingWide_of_good E c d ?_;intro w a i _ Z _ I K _;obtain⟨_,_,_,dx,J,_,_,_,_,y⟩:=I;have e:dx=f:=dq (J.symm.trans n);subst e;obtain⟨⟨⟨l,r,g,hw,hc⟩,F⟩,hz⟩:=K;have m:=DataW.Whole.of_heap (w':=w.forCall a i) (by rfl) hw;have A:X (w.forCall a i) i.args:=hX _ _ _ (by rfl) F;have Q:∀p∈g,p.block<(w.forCall a i).heap.size:=λp U=>by simpa using m.lt p U
 have B:∀t∈dx.params.toList,prog.readableRec t=true/\t<prog.types.size:=λt ht=>by
  have:=lE.1 hr t ht;simpa using this
 obtain⟨p,q,hA,hV,R,a1,a0⟩:=id m;obtain⟨S0,P,h1,h2,h3,h4,h5⟩:=z (w.forCall a i) w.heap.size i.args l p y hA (λx F=>Q x (by rw[R];simp[F])) A;obtain⟨N,last,o,w',t',g1,g2,g3,g4⟩:=aqV hF D h1 h2 h3 (aAg Z) h4 G n hq S V h5;refine⟨N,last,o,w',t',g1,g2,g3,g4.mono λv hv=> ?_⟩;obtain⟨rfl,C⟩:=hv;have U:=aoS hl B u O M (L l r (adx hA) (ab6 hV)) m C;have C:=ChangeSpec.post_blind U;exact C
end
section
open Go.RowKit Go.ChangeAt
def aAh:∀g∈gL,g=1\/g=2:=by
 have h:(gL.all λg=>g ==1||g ==2)=true:=by unfold gL;kernel_rfl
 intro g a;have:=lE.1 h g a;simpa using this
def aiV{P:Program}{w:World}{n:String}{d:DataW Unit}:∀{l:List (String×DataW Unit)} {f:List MemPlace},DataW.LaidVars P w l f->(n,d)∈l->
  ∃g t b a p,P.globalNamed n=some g/\(P.globals[g]?).map (·.type)=some t/\w.var? P n=some b/\DataW.trod (λ_=>()) P w 0 (λ_=>true) false a t b.toList=some (d,p)
 |[],_,_,h=>by cases h
 |(m,e)::l,f,h,c=>by
  obtain⟨g,t,b,a,p,q,r,i,k,o,s, -⟩:=h;rcases mu.1 c with j|c
  .cases j;exact⟨g,t,b,a,p,r,i,k,o⟩
  .exact aiV s c
def aqX{t:TypeId}{d:DataW Unit}{p:List MemPlace}(b:∃m,P.underlying t=some (.interface m)):DataW.trod (λ_=>()) P w 0 (λ_=>true) false Z t []≠some (d,p):=by
 obtain⟨m,a⟩:=b;cases Z with
 |zero=>simp[DataW.trod]
 |succ f=>simp[DataW.trod,a]
def auw{n:String}{g:Nat}(a:P.globalNamed n=some g)(h:w.var? P n=some cs):∃t z,w.heap[g]?=some (.cells cs t z):=by
 unfold World.var? at h;rw[a] at h;simp only[qN] at h;split at h
 .rename_i c t z b;cases h;exact⟨t,z,b⟩
 .cases h
def auy:∃m,prog.underlying 185=some (.interface m):=⟨_,underlying185⟩
def auz:prog.globalNamed "loop.example/depositary/impl.errKey" =some 1:=by kernel_rfl
def aoT:prog.globalNamed "loop.example/depositary/impl.errPiece" =some 2:=by kernel_rfl
def aqY:(prog.globals[1]?).map (·.type)=some 185:=by kernel_rfl
def ali:(prog.globals[2]?).map (·.type)=some 185:=by kernel_rfl
def aiW:(laidL.all λx=>x.2.handleName?.isNone)=true:=by kernel_rfl
def aqZ(j:laidMetH prog laidL W):(∀g∈gL,eP W g)/\Glo W:=by
 rw[vQ _ _ _ aiW] at j;obtain⟨A,w, -, -⟩:=j;have one:∀{n:String} {d:DataW Unit} {a:Nat},(n,d)∈laidL->prog.globalNamed n=some a->(prog.globals[a]?).map (·.type)=some 185->eP W a/\∃x,W.cell? ⟨a,0,none⟩=some x:=λ{n d a} v i y=>by
  obtain⟨g,t,b,k,p,q,e,s,o⟩:=aiV w v;rw[i] at q;cases q;rw[y] at e;cases e;obtain⟨t,z,f⟩:=auw i s;refine⟨⟨b,t,z,f⟩, ?_⟩;cases r:b.toList with
  |nil=>rw[r] at o;exact absurd o (aqX auy)
  |cons x l=>
   refine⟨x, ?_⟩;unfold World.cell?;rw[f];show b[0]?=some x;rw[<-fa,r];rfl
 have m:=one (n:= "loop.example/depositary/impl.errKey") (d:=Rows.laid_loop_example_depositary_impl_errKey) (by simp[laidL]) auz aqY;have c:=one (n:= "loop.example/depositary/impl.errPiece") (d:=Rows.laid_loop_example_depositary_impl_errPiece) (by simp[laidL]) aoT ali;refine⟨λg u=> ?_,m.2,c.2⟩;rcases aAh g u with rfl|rfl
 .exact m.1
 .exact c.1
def aq0(W:World)(b i:Nat):Prop:=∀v,W.cell? ⟨b,i,none⟩=some v->nW (eP W) v
def ahr.cell(h:ahr W (eP W) (aq0 W) V){b i:Nat}(a:W.cell? ⟨b,i,none⟩=some v)(k:nW (eP W) v):V.cell? ⟨b,i,none⟩=some v:=by
 have j:aq0 W b i:=λu e=>by rw[a] at e;cases e;exact k
 unfold World.cell? at a ⊢;dsimp only at a ⊢;cases d:W.heap[b]? with
 |none=>rw[d] at a;simp at a
 |some o=>
  cases o with
  |cells c t z=>
   obtain⟨r,m,n,q,f,g,p,l⟩:=h.row b ⟨c,t,z,d⟩;rw[d] at f a;cases f;rw[g];exact l i v j a
  |_=>rw[d] at a;simp at a
def ahr.glo(h:ahr W (eP W) (aq0 W) V)(a:∀g∈gL,eP W g)(b:Glo W)(j:1∈gL)(e:2∈gL):Glo V:=by
 have one:∀{g:Nat},eP W g->(∃x,W.cell? ⟨g,0,none⟩=some x)->∃x,V.cell? ⟨g,0,none⟩=some x:=λ{g} a ⟨x,hx⟩=>by
  obtain⟨c,f,t,z,d,i,k, -⟩:=h.row g a;unfold World.cell? at hx ⊢;dsimp only at hx ⊢;rw[d] at hx;rw[i];have:0<c.size:=(dl.1 (show c[0]?=some x from hx)).1;exact⟨f[0]'(by omega),gn (by omega)⟩
 exact⟨one (a _ j) b.key,one (a _ e) b.piece⟩
def ahr.bytes(h:ahr W (eP W) (aq0 W) V)(r:bD iO 1 W 0 W.heap.size l [v])(t:Tape):bD iO 1 (V.dW t) 0 (V.dW t).heap.size l [v]:=by
 obtain⟨A,c,B,n,g,w⟩:=r;refine⟨A,c,B,n,g,λq=> ?_⟩;obtain⟨b,d,p,f,z,k⟩:=w q;refine⟨b,d,p,f,by show b<V.heap.size;rw[h.size];exact z,λi x y=> ?_⟩;obtain⟨s,m,e,o⟩:=k i x y;refine⟨s,m,e,λj u a=> ?_⟩;have D:=o j u a;have C:nW (eP W) u:=by
  obtain⟨rfl, -⟩:=e;have:j=0:=by have:=aB a;simp at this;omega
  subst this;simp at a;subst a;exact .int _ _
 exact h.cell D C
def anw(b:Value.okWide prog W .any Z 22 v):nW (eP W) v:=by
 have e:=underlying22;unfold Value.okWide at b;rw[e] at b;dsimp only at b;unfold Cell.okWide at b;rw[e] at b;have b:Cell.ok prog W .any Z 22 v:=b;unfold Cell.ok at b;rw[e] at b;cases v with
 |slice A n c=>
  cases A with
  |none=>exact .pT _ _
  |some a=>
   obtain⟨-, -, -, -,f,cells,d, -⟩:=b;refine .slice ?_ _ _;unfold World.shape? at d;split at d
   .rename_i g t z i;exact⟨g,t,z,i⟩
   .cases d
 |_=>exact b.elim
def xN {k:FuncId} (p:laidMetH prog laidL W) {l2 : List Int} (s:Value.okWide prog W .any Z 22 v) (d:Value.okWide prog W .any Z 22 U) (h:bD iO 1 W 0 W.heap.size l [v]) (n:bD iO 1 W 0 W.heap.size l2 [U])
  (u:∀w:World,Glo w->bD iO 1 w 0 w.heap.size l [v]->bD iO 1 w 0 w.heap.size l2 [U]->Calls (ah true) k #[v,U] w λe g=>e=.returned (.bool true)/\Below w.heap.size w g):awI k W #[v,U]:=by
 obtain⟨j,r⟩:=aqZ p;refine⟨eP W,aq0 W,λ_ h=>h,λb i v _ q f=>q v f,j,.cons (anw s) (.cons (anw d) .nil),λm a t=> ?_⟩;refine(u (m.dW t) ?_ (a.bytes h t) (a.bytes n t)).mono ?_
 .have:=a.glo j r (aht aq1) (aht aiX);exact⟨this.key,this.piece⟩
 .rintro e g ⟨rfl,o⟩;exact⟨_,rfl,rfl,λb c=>o.block b (by show b<m.heap.size;rw[a.size];exact c)⟩
end
section
open Go.RowKit
def xL:Tryz.pinned.checked.prog.mainIs=some (true, "6fd9bce905e188d4ecec166b82026233179ea897e70883651107d0e060ad50b0".toList):=by kernel_rfl
def yn:false=Tryz.pinned.checked.prog.looks []:=by kernel_rfl
end
section
open Go.Shelf Go.RowKit
variable {β:Bool}
def agp:(ah β).follows .mixedOrders=true:=by cases β<;>kernel_rfl
def ab7:Go.Shelf.Ren:=⟨fun|20=>24|n=>n,fun|22=>37|3=>3|4=>4|0=>0|n=>n,fun|n=>n⟩
def aaY:Go.Proofs.Lays2.n20 (ah β) ab7:={
 mixed:=agp
 f20:=qF24.trans (ga some (by kernel_rfl))
 t0:=qU0
 a0:=λw=>(cu _ w).trans (Tryz.isAgg0 w)
 z0:=λw=>(bI _ w).trans (Tryz.sizeOf0 w)
 v0:=λw=>(aS _ w).trans (wi w)
 t3:=qU3
 a3:=λw=>(cu _ w).trans (wm w)
 z3:=λw=>(bI _ w).trans (vW w)
 v3:=λw=>(aS _ w).trans (uV w)
 t4:=qU4
 a4:=λw=>(cu _ w).trans (Tryz.isAgg4 w)
 z4:=λw=>(bI _ w).trans (Tryz.sizeOf4 w)
 v4:=λw=>(aS _ w).trans (wh w)
 t22:=wZ
 a22:=λw=>(cu _ w).trans (Tryz.isAgg37 w)
 z22:=λw=>(bI _ w).trans (Tryz.sizeOf37 w)
 v22:=λw=>(aS _ w).trans (vV w)
 i3:=by first|kernel_rfl|(cases β<;>kernel_rfl)}
open Go.RowKit Go.Lib Go.Sort in
def nZ(b a cap:Nat)(c:List Int)(w:World)(i:Holds (Value.int .i64) w b a c.toArray)(f:c.length<=9223372036854775807)(d:c.length<=cap) :
  Calls (ah β) 24 #[.slice (some ⟨b,a,none⟩) c.length cap] w λe g=>e=.returned (.slice (some ⟨b,a,none⟩) (Lib.compact c).length cap)/\∃q,g=putRow (Value.int .i64) (Sort.ahead w q) b a (Lib.compact c++List.replicate (c.length-(Lib.compact c).length) 0).toArray:=Any.slices_Compact_int aaY b a cap c w i f d
open Go.RowKit Go.Lib Go.Sort in
def kO(a:Option Addr)(cap:Nat)(w:World) :
  Calls (ah β) 24 #[.slice a 0 cap] w λe b=>e=.returned (.slice a 0 cap)/\b=w:=Any.slices_Compact_int_empty aaY a cap w
def pU:Go.Shelf.Ren:=⟨fun|5=>23|8=>52|7=>51|19=>81|20=>82|10=>72|11=>73|12=>74|13=>75|14=>76|15=>77|16=>78|17=>79|18=>80|30=>107|31=>108|32=>109|33=>110|34=>111|35=>112|40=>144|n=>n,fun|23=>37|25=>3|3=>3|32=>95|22=>37|0=>0|44=>127|46=>129|4=>4|36=>119|35=>118|41=>124|5=>5|9=>9|53=>159|57=>163|63=>197|64=>104|n=>n,fun|n=>n⟩
def nK:Go.Proofs.SlLaysM.n5 (ah β) pU:={
 mixed:=agp
 f5:=⟨f23.name,by decide,qF23.trans (ga some (by kernel_rfl))⟩
 f7:=⟨f51.name,by decide,qF51.trans (ga some (by kernel_rfl))⟩
 f8:=qF52.trans (ga some (by kernel_rfl))
 f10:=⟨f72.name,by decide,qF72.trans (ga some (by kernel_rfl))⟩
 f11:=⟨f73.name,by decide,qF73.trans (ga some (by kernel_rfl))⟩
 f12:=⟨f74.name,by decide,qF74.trans (ga some (by kernel_rfl))⟩
 f13:=⟨f75.name,by decide,qF75.trans (ga some (by kernel_rfl))⟩
 f14:=⟨f76.name,by decide,qF76.trans (ga some (by kernel_rfl))⟩
 f15:=⟨f77.name,by decide,qF77.trans (ga some (by kernel_rfl))⟩
 f16:=⟨f78.name,by decide,qF78.trans (ga some (by kernel_rfl))⟩
 f17:=⟨f79.name,by decide,qF79.trans (ga some (by kernel_rfl))⟩
 f18:=⟨f80.name,by decide,qF80.trans (ga some (by kernel_rfl))⟩
 f19:=qF81.trans (ga some (by kernel_rfl))
 f20:=qF82.trans (ga some (by kernel_rfl))
 f30:=⟨f107.name,by decide,qF107.trans (ga some (by kernel_rfl))⟩
 f31:=qF108.trans (ga some (by kernel_rfl))
 f32:=qF109.trans (ga some (by kernel_rfl))
 f33:=⟨f110.name,by decide,qF110.trans (ga some (by kernel_rfl))⟩
 f34:=⟨f111.name,by decide,qF111.trans (ga some (by kernel_rfl))⟩
 f35:=⟨f112.name,by decide,qF112.trans (ga some (by kernel_rfl))⟩
 f40:=⟨f144.name,by decide,qF144.trans (ga some (by kernel_rfl))⟩
 t0:=qU0
 a0:=λw=>(cu _ w).trans (Tryz.isAgg0 w)
 z0:=λw=>(bI _ w).trans (Tryz.sizeOf0 w)
 v0:=λw=>(aS _ w).trans (wi w)
 t3:=qU3
 a3:=λw=>(cu _ w).trans (wm w)
 z3:=λw=>(bI _ w).trans (vW w)
 v3:=λw=>(aS _ w).trans (uV w)
 t4:=qU4
 a4:=λw=>(cu _ w).trans (Tryz.isAgg4 w)
 z4:=λw=>(bI _ w).trans (Tryz.sizeOf4 w)
 v4:=λw=>(aS _ w).trans (wh w)
 t5:=qU5
 a5:=λw=>(cu _ w).trans (Tryz.isAgg5 w)
 z5:=λw=>(bI _ w).trans (Tryz.sizeOf5 w)
 v5:=λw=>(aS _ w).trans (Tryz.zeroValue5 w)
 t9:=qU9
 a9:=λw=>(cu _ w).trans (Tryz.isAgg9 w)
 z9:=λw=>(bI _ w).trans (Tryz.sizeOf9 w)
 v9:=λw=>(aS _ w).trans (Tryz.zeroValue9 w)
 t22:=wZ
 a22:=λw=>(cu _ w).trans (Tryz.isAgg37 w)
 z22:=λw=>(bI _ w).trans (Tryz.sizeOf37 w)
 v22:=λw=>(aS _ w).trans (vV w)
 t23:=wZ
 a23:=λw=>(cu _ w).trans (Tryz.isAgg37 w)
 z23:=λw=>(bI _ w).trans (Tryz.sizeOf37 w)
 v23:=λw=>(aS _ w).trans (vV w)
 t25:=qU3
 a25:=λw=>(cu _ w).trans (wm w)
 z25:=λw=>(bI _ w).trans (vW w)
 v25:=λw=>(aS _ w).trans (uV w)
 t32:=zp
 a32:=λw=>(cu _ w).trans (Tryz.isAgg95 w)
 z32:=λw=>(bI _ w).trans (Tryz.sizeOf95 w)
 v32:=λw=>(aS _ w).trans (Tryz.zeroValue95 w)
 t35:=yA
 a35:=λw=>(cu _ w).trans (Tryz.isAgg118 w)
 z35:=λw=>(bI _ w).trans (Tryz.sizeOf118 w)
 v35:=λw=>(aS _ w).trans (Tryz.zeroValue118 w)
 t36:=yz
 a36:=λw=>(cu _ w).trans (Tryz.isAgg119 w)
 z36:=λw=>(bI _ w).trans (Tryz.sizeOf119 w)
 v36:=λw=>(aS _ w).trans (Tryz.zeroValue119 w)
 t41:=yy
 a41:=λw=>(cu _ w).trans (Tryz.isAgg124 w)
 z41:=λw=>(bI _ w).trans (Tryz.sizeOf124 w)
 v41:=λw=>(aS _ w).trans (Tryz.zeroValue124 w)
 t44:=yx
 a44:=λw=>(cu _ w).trans (Tryz.isAgg127 w)
 z44:=λw=>(bI _ w).trans (Tryz.sizeOf127 w)
 v44:=λw=>(aS _ w).trans (Tryz.zeroValue127 w)
 t46:=yw
 a46:=λw=>(cu _ w).trans (Tryz.isAgg129 w)
 z46:=λw=>(bI _ w).trans (Tryz.sizeOf129 w)
 v46:=λw=>(aS _ w).trans (Tryz.zeroValue129 w)
 t53:=yu
 a53:=λw=>(cu _ w).trans (Tryz.isAgg159 w)
 z53:=λw=>(bI _ w).trans (Tryz.sizeOf159 w)
 v53:=λw=>(aS _ w).trans (Tryz.zeroValue159 w)
 t57:=yr
 a57:=λw=>(cu _ w).trans (Tryz.isAgg163 w)
 z57:=λw=>(bI _ w).trans (Tryz.sizeOf163 w)
 v57:=λw=>(aS _ w).trans (Tryz.zeroValue163 w)
 t63:=yp
 a63:=λw=>(cu _ w).trans (Tryz.isAgg197 w)
 z63:=λw=>(bI _ w).trans (Tryz.sizeOf197 w)
 v63:=λw=>(aS _ w).trans (Tryz.zeroValue197 w)
 t64:=yC
 a64:=λw=>(cu _ w).trans (Tryz.isAgg104 w)
 z64:=λw=>(bI _ w).trans (Tryz.sizeOf104 w)
 v64:=λw=>(aS _ w).trans (Tryz.zeroValue104 w)}
open Go.Sort Go.RowKit in
def aaH(a b cap:Nat)(d:List Int)(w:World)(j:Holds (Value.int .i64) w a b d.toArray)(c:a<w.heap.size)(f:d.length<4611686018427387904) :
  Calls (ah β) 23 #[.slice (some ⟨a,b,none⟩) d.length cap] w λe g=>
   e=.returned (.tuple #[])/\∃n i,g=grow (putRow (Value.int .i64) (Sort.ahead w n) a b (d.mergeSort λx y=>decide (x<=y)).toArray) i:=AnyM.slices_Sort_int nK a b cap d w j c f
open Go.RowKit Go.Sort in
def ni(p:Option Addr)(cap:Nat)(w:World) :
  Calls (ah β) 23 #[.slice p 0 cap] w λe a=>e=.returned (.tuple #[])/\a=w:=AnyM.slices_Sort_int_none nK p cap w
end
section
variable {β:Bool}
open Go.RowKit
def nL(l:List Int):List Int:=l.mergeSort λx y=>decide (x<=y)
def lB(l:List Int):(nL l).length=l.length:=List.length_mergeSort l
def ac0{x:Int}:x∈nL l↔x∈l:=List.mem_mergeSort
def aq2{base:Nat}(p:aJ gR 3 w base v l)(q:l.length<4611686018427387904) :
  Calls (ah β) 23 #[v] w λe c=>e=.returned (.tuple #[])/\aJ gR 3 c base v (nL l)/\bj (λb=>v.ownBlock=some b) w c:=by
 obtain⟨A,⟨rfl,x⟩|⟨g,cap,d,rfl,u,j,z,r,t,m⟩⟩:=p
 .obtain rfl:=qh.1 x;refine(ni none 0 w).mono ?_;rintro e c ⟨rfl,rfl⟩;refine⟨rfl, ?_,bj.refl _ _⟩;rw[show nL []=[] from qh.1 (lB [])];exact aJ.nil _ _ _
 .have o:dA gR l=l.map (Value.int .i64):=aat l;rw[o] at m;have f:d.toList.take l.length=l.map (Value.int .i64):=by rw[<-m];show _=List.take (l.length*1) _;rw[tZ]
  refine(aaH g 0 cap l w (holds_of_blockI j f) (dl.1 j).1 q).mono ?_;rintro e c ⟨rfl,n,os,rfl⟩;have a:=grownBy_sortedI (w:=w) (g:=g) (n:=n) (os:=os) (nL l).toArray;refine⟨rfl, ?_,a.os,a.tape,a.output,a.size,λk y i=>a.block k y λe=>i (by cases e;rfl)⟩;have s:=ownsRow_sortedI (w:=w) (base:=base) (g:=g) (cap:=cap) (n:=n) (os:=os) (ss:=l) (ts:=nL l) (lB l) u j z r t;unfold aJ;rw[aat,lB];exact s
def aiZ{base:Nat}(E:aJ gR 3 w base v l)(F:l.length<=9223372036854775807) :
  Calls (ah β) 24 #[v] w λe d=>∃p,e=.returned p/\aJ gR 3 d base p (Lib.compact l)/\bj (λb=>v.ownBlock=some b) w d:=by
 obtain⟨L,⟨rfl,H⟩|⟨g,cap,j,rfl,t,s,x,A,G,u⟩⟩:=E
 .obtain rfl:=qh.1 H;refine(kO none 0 w).mono ?_;rintro e d ⟨rfl,rfl⟩;refine⟨_,rfl, ?_,bj.refl _ _⟩;rw[show Lib.compact ([]:List Int)=[] from qh.1 (Nat.le_zero.1 (Lib.compact_length_le []))];exact aJ.nil _ _ _
 .have D:dA gR l=l.map (Value.int .i64):=aat l;rw[D] at u;have f:j.toList.take l.length=l.map (Value.int .i64):=by rw[<-u];show _=List.take (l.length*1) _;rw[tZ]
  have J:=Lib.compact_length_le l;refine(nZ g 0 cap l w (holds_of_blockI s f) F x).mono ?_;rintro e d ⟨rfl,q,rfl⟩;have z:Sort.putRow (Value.int .i64) (Sort.ahead w q) g 0 (Lib.compact l++List.replicate (l.length-(Lib.compact l).length) 0).toArray=Sort.grow (Sort.putRow (Value.int .i64) (Sort.ahead w q) g 0 (Lib.compact l++List.replicate (l.length-(Lib.compact l).length) 0).toArray) #[]:=by rw[Sort.grow_empty]
  rw[z];have a:=grownBy_sortedI (w:=w) (g:=g) (n:=q) (os:=#[]) (Lib.compact l++List.replicate (l.length-(Lib.compact l).length) 0).toArray;refine⟨_,rfl, ?_,a.os,a.tape,a.output,a.size,λk B i=>a.block k B λe=>i (by cases e;rfl)⟩;obtain⟨-,⟨m, -⟩|⟨M,r,c,m, -,o,K,I,C,y⟩⟩:=ownsRow_sortedI (w:=w) (base:=base) (g:=g) (cap:=cap) (n:=q) (os:=#[]) (ss:=l) (ts:=Lib.compact l++List.replicate (l.length-(Lib.compact l).length) 0) (by simp;omega) t s x A G
  .cases m
  .cases m;unfold aJ;rw[aat];refine⟨by rw[qg];exact(tZ _).symm,.inr ⟨g,cap,c,rfl,t,o,by omega,I,C, ?_⟩⟩;show List.take ((Lib.compact l).length*1) _=_;rw[tZ] at y ⊢;have:=ga (List.take (Lib.compact l).length) y;rw[wB,qR J,qZ,List.take_left' (by rw[qg])] at this;exact this
end
section
variable {β:Bool}
open Go.RowKit
def ahu(d:Array Int):∀m,n∈Lib.compactUpTo d m↔∃j,j<m/\(d[j]!)=n:=by
 intro m
 induction m with
 |zero=>simp[Lib.compactUpTo]
 |succ m g=>
  rw[Lib.compactUpTo_succ,mx,g];constructor
  .rintro(⟨j,f,e⟩|h)
   .exact⟨j,by omega,e⟩
   .split at h
    .exact⟨m,by omega,(mw.1 h).symm⟩
    .cases h
  .rintro⟨j,f,e⟩;by_cases c:j<m
   .exact .inl ⟨j,c,e⟩
   .obtain rfl:j=m:=by omega
    by_cases a:Lib.keeps d j=true
    .exact .inr (by rw[du a,e];exact mw.2 rfl)
    .have b:¬j=0:=λb=>a (by subst b;simp[Lib.keeps]);have i:(d[j]!)=(d[j-1]!):=vS λh=>a (Lib.keeps_pos h);exact .inl ⟨j-1,by omega,by rw[<-i,e]⟩
def pV  :n∈Lib.compact l↔n∈l:=by
 unfold Lib.compact;rw[ahu,uY];constructor
 .rintro⟨j,a,e⟩;exact⟨j,a,by simpa[getElem!_pos,a] using e⟩
 .rintro⟨j,a,e⟩;exact⟨j,a,by simpa[getElem!_pos,a] using e⟩
def adZ(y:Ls):Nat:=y.ns.length
def lv(l:List Ls):List Int:=l.flatMap λy=>y.ns
def ahv{l:List Ls}{k:Nat}{x:Ls}(h:l[k]?=some x):lv (l.take (k+1))=lv (l.take k)++x.ns:=by
 unfold lv;rw[kw h,sb];simp
def ai1(l:List Ls):∀j,(lv (l.take j)).length=ab8 adZ l j:=λj=>by
 unfold lv ab8;generalize l.take j=m
 induction m with
 |nil=>rfl
 |cons x m a=>rw[List.flatMap_cons,aE,a,ru,vJ];rfl
def ai2(x:Sn)(v:Value)(w:World)(W hi:Nat)(R:hi<=w.heap.size)(h:fw w W hi x.all [v])(hl:aeN adZ x.all<=100000000) :
  Calls (ah β) 8 #[.agg #[.int .i64 x.no,v]] w (awK w (Lib.compact (nL (kP x)))):=by
 obtain⟨A,c,rfl⟩:=h.form;obtain⟨_,hc,V⟩:=h.len_;unfold maxLen at V;go_enter qF8,ntmps8;go_wp2;generalize U:w.alloc (.cells #[.int .i64 x.no,.slice A x.all.length c] 41)=wa at *;obtain⟨Y,a3,b0,Z,a0⟩:=mB U;go_loopw [3,9] (λO I wr=>∃k:Nat,k<=x.all.length/\I=.int .i64 k/\aJ gR 3 wr w.heap.size O (lv (x.all.take k))/\Below w.heap.size w wr) (λO I _=>x.all.length-(intOf I).toNat)
 case atStart=>exact⟨0,eg _,rfl,aJ.nil _ _ _,Y⟩
 case round=>
  obtain⟨k,hk,rfl,d,a⟩:=hrel;obtain⟨X,T,rfl⟩:=d.form;have b:=ai1 x.all k;have a2:=ai3 (n:=adZ) (l:=x.all) (j:=k);by_cases B:k<x.all.length
  .obtain⟨p,o⟩:=aq B;have C:=alk (n:=adZ) o;have P:=ai3 (n:=adZ) (l:=x.all) (j:=k+1);have H:adZ p=p.ns.length:=rfl;rw[H] at C;have f:=ahv o;have HST:=ab f;obtain⟨b1,a1,M,N,rfl, -, -, -,S,a4,y⟩:=aq5 (fw.loc.below h a R) o;have g:(lv (x.all.take k)).length+p.ns.length<=100000000:=by omega
   replace o:=ab o;revert d;revert HST;revert g;generalize lv (x.all.take k)=L;intro g HST d;have z:=ab g;have G:=av wr (.cells #[.string p.p,.slice M p.ns.length N] 67);replace d:=d.below G;have D:=ab (lM.loc.below y G (by have:=a.size;omega));replace a:=ag a G;have m:=ab d;go_wp2_with(at_builtin;refine aoV (F:=gR) (v:=.slice X L.length T) rfl (.tmp 13) (.tmp 15) 37 rfl nM rfl m.out rfl D.out (by have:=a.size;omega) (by have:=z.out;omega) a.size ?_;intro v8 w8 E s Q;obtain⟨A8,c8,rfl⟩:=E.form;simp only[aE] at E);go_roundw
   case rel=>exact⟨k+1,by omega,by go_num,by rw[HST.out];exact E,a.trans (s.below a.size λi hi q=>by have:=(m.out.at_ q).1;omega)⟩
   simp[intOf];omega
  .obtain rfl:k=x.all.length:=by omega
   have e:lv (x.all.take x.all.length)=kP x:=by rw[gc];rfl
   rw[aoW] at b;rw[e] at d b ⊢;replace b:=ab b;go_wp2;refine(aq2 d (by have:=b.out;omega)).mono ?_;rintro e w5 ⟨rfl,t,u⟩;obtain⟨M,N,J⟩:=t.form;replace a:=a.trans (u.below a.size λi hi q=>by have:=(d.at_ q).1;omega);rw[lB] at J;cases J;go_wp2;refine(aiZ t (by rw[lB];have:=b.out;omega)).mono ?_;rintro e w6 ⟨v6,rfl,K,r⟩;obtain⟨A6,c6,rfl⟩:=K.form;replace a:=a.trans (r.below a.size λi hi q=>by have:=(t.at_ q).1;omega);go_wp2;go_ret;exact⟨_,rfl,K,a⟩
end
end Go.Proofs.YtokgbpkbaoeeoaaGreatDoor
namespace Go.Proofs.YtokgbpkbaoeeoaaGreatDoor.lawot
open Go.RowKit
def aC2{g:Nat}{t:TypeId}{c0 c1 : Value}(k:bg w g t #[c0,c1,U])(u0 u1 a:Value):bg (((w.setCell ⟨g,0,none⟩ u0).setCell ⟨g,1,none⟩ u1).setCell ⟨g,2,none⟩ a) g t #[u0,u1,a]:=by
 have:=((k.bG 0 u0).bG 1 u1).bG 2 a;simpa using this
def ax0{hi g : Nat}{s:dy}{a : Value}(h:jh w Z hi s U v a)(k:bg w g 27 cs)(u0 u1 c:Value):jh (((w.setCell ⟨g,0,none⟩ u0).setCell ⟨g,1,none⟩ u1).setCell ⟨g,2,none⟩ c) Z hi s U v a:=
 h.typed (λb _ _ d=>lN w g u0 u1 c b (by rintro rfl;exact df k (by decide) d)) (am _) (am _)
def ax1{B:Nat}(w:World){g:Nat}(a:B<=g)(u0 u1 b:Value):Below B w (((w.setCell ⟨g,0,none⟩ u0).setCell ⟨g,1,none⟩ u1).setCell ⟨g,2,none⟩ b):=(((fd B w).setCell a _).setCell a _).setCell a _
def aAi(w:World)(g:Nat)(u0 u1 a:Value):(((w.setCell ⟨g,0,none⟩ u0).setCell ⟨g,1,none⟩ u1).setCell ⟨g,2,none⟩ a).heap.size=w.heap.size:=by simp only[bv]
def agq{m:Nat}:∀{l:List Ls},(∀y∈l,y.ns.length<=m)->aeN adZ l<=l.length*m
 |[],_=>by simp[aeN]
 |x::l,h=>by
  have c:=agq (l:=l) λy b=>h y (qV _ b);have d:adZ x<=m:=h x (by simp);have a:aeN adZ (x::l)=adZ x+aeN adZ l:=by unfold aeN;rw[ru,vJ]
  rw[a,fi,rv];omega
def aln{hi : Nat}{x:Sn}{cs:List Value}(h:fw w Z hi x.all cs):∀n∈kP x,cf n:=λn d=>by
 obtain⟨y,b,a⟩:=qo.1 d;obtain⟨g,v, -, -,c⟩:=h.alo y b;obtain⟨f, -,e⟩:=c.alo n a;exact e
def aaZ(l m:List Int):Bool:=l.any λn=>decide (n∈m)
def aoX{j:Nat}(h:l[j]?=some n):aaZ (l.take (j+1)) m=(aaZ (l.take j) m||decide (n∈m)):=by
 unfold aaZ;rw[kw h,List.any_append];simp
def afR(x:Sn):(Lib.compact (nL (kP x))).length<=(kP x).length:=by
 have:=Lib.compact_length_le (nL (kP x))
 rwa [lB] at this
def aq6{x:Sn}{o:Bool}(h:o=true↔∀n∈kP x,n∉m):aaZ (Lib.compact (nL (kP x))) m=!o:=by
 cases o
 .refine vS λc=>Bool.noConfusion (h.2 λn a b=>c ?_);show aaZ _ _=true;unfold aaZ;rw[vY];exact⟨n,pV.2 (ac0.2 a),by simpa using b⟩
 .have h:=h.1 rfl;show _=false;unfold aaZ;rw[List.any_eq_false];intro n a;simpa using h n (ac0.1 (pV.1 a))
def walk(hg:Glo w)(l l2:List Int)(h:bD iO 1 w 0 w.heap.size l [v])(h2:bD iO 1 w 0 w.heap.size l2 [U])(w':World)(hw:w'=w:=by rfl) :
  Calls (ah true) 3 #[v,U] w' λe w'=>e=.returned (.bool true)/\Below w.heap.size w w':=by
 subst hw;obtain⟨A,c,rfl⟩:=h.form;obtain⟨A2,c2,rfl⟩:=h2.form;have a7:l.length<=maxLen:=by obtain⟨_,h1,h2⟩:=h.len_;omega
 have c0:l2.length<=maxLen:=by obtain⟨_,h1,h2⟩:=h2.len_;omega
 unfold maxLen at a7 c0;by_cases cO:1048576<l.length
 .go_enter qF3,ntmps3;go_wp2;go_ret;exact⟨rfl,fd _ _⟩
 by_cases cG:1048576<l2.length
 .go_enter qF3,ntmps3;go_wp2;go_ret;exact⟨rfl,fd _ _⟩
 go_enter qF3,ntmps3;go_wp2;refine(ad0 A _ c l _ h).mono ?_;rintro e w1 ⟨T,V,W,s,L,rfl,os,G,hL,bb⟩;replace G:=ab G;obtain⟨⟨A1,a1,rfl⟩,⟨B1,b1,rfl⟩,C1,c1,rfl⟩:=os.form;replace hL:=ab hL;clear a7 cO;have s1:=bb.size;have bx:L.b.size<=maxLen:=by have:=hL.out.bs;unfold maxLen;omega
 have H:=ab G.out.wf.sm;have cS:=ab (H.out.lie hL.out.bs);have af:Hid (kQ s<=1099511627):=ab (by have:=H.out.auA;omega);have ds:Hid (kQ (dM s L)<=1099511627):=ab (by have:=cS.out.auA;omega);go_wp2;generalize hG:(w1.alloc (.cells #[.slice A1 s.pk.length a1,.slice B1 s.sn.length b1,.slice C1 s.lg.length c1] 27)).alloc (.cells #[.int .i64 L.k,.int .i64 L.n,.int .i64 L.m,.string L.b] 29)=w2 at *;obtain⟨R,dd,f,P,eQ,K,dG,eD⟩:=pW hG;clear hG;have an:=os.below R (am _);replace R:=ag bb R;clear os bb;refine(oY s L _ _ _ w2 _ _ an.l (by omega) af.out bx).mono ?_;rintro e w3 ⟨u1,u2,u3,rfl,o3,b3⟩;replace f:=ak f b3;replace P:=f.cell;replace eQ:=f.frozen;replace K:=ak K b3;replace dG:=K.cell;replace eD:=K.frozen;have bX:=an.below b3 (by omega);have bk:=ag R b3;have z3:=b3.size;clear an R b3;obtain⟨A3,a3,rfl⟩:=aO.form o3.pk;obtain⟨B3,c6,rfl⟩:=aO.form o3.sn;obtain⟨C3,c3,rfl⟩:=jT.form o3.lg;obtain⟨x,hx⟩:∃x,x=dM s L:=⟨_,rfl⟩;rw[<-hx] at o3 ⊢;replace hx:=ab hx;go_wp2;generalize hG:w3.alloc (.cells #[.slice A3 x.pk.length a3,.slice B3 x.sn.length c6,.slice C3 x.lg.length c3] 27)=w4 at *;obtain⟨t,d7,m0,od,bf⟩:=mB hG;clear hG;replace f:=ak f t;replace P:=f.cell;replace eQ:=f.frozen;replace K:=ak K t;replace dG:=K.cell;replace eD:=K.frozen;have aT:=bX.below t (by omega);have o4:=o3.below t (am _);have bq:=ag bk t;have z4:=t.size;clear bX o3 bk t;clear c0 cG;have f0:=P 0;have f1:=P 1;have f2:=P 2;have g0:=dG 0;have g1:=dG 1;have g2:=dG 2;have g3:=dG 3;have bZ:=od 0;have bS:=od 1;have b4:=od 2;have aH:=ae f0;have aI:=ae f1;have bc:=ae f2;have dB:=ae g0;have gF:=ae g1;have lO:=ae g2;have ct:=ae g3;have cC:=ae bZ;have cb:=ae bS;have ck:=ae b4;refine aC 6 [0,1,2] [3,4,5] (h:= ?_);simp only[pick,List.map,gt,gE];repeat(go_big_quiet_step (fail))
 refine ip ?_;clear aH aI bc dB gF lO ct cC cb ck;apply Exists.intro;apply aY (λv w'=>∃T V W,v=.agg #[T,V,W]/\jh w' w4.heap.size w'.heap.size (dM s L) T V W)
 .rfl
 .exact λv x y ⟨T,V,W,e,h⟩ d=>⟨T,V,W,e,(h.below d (am _)).wide (am _) d.size⟩
 .intro y b C a;replace a:=ab a;clear b;have hd:=aT.below y.ok (by omega);have Z:=y.ok.size;go_wp2;refine(ad1 s L _ _ _ y.to _ _ hd.l (by omega) af.out bx).mono ?_;rintro e wy ⟨u5,u6,u7,rfl,r5,Q⟩;go_wp2;exact a.out _ _ Q ⟨u5,u6,u7,rfl,r5.wide Z (am _)⟩
 intro vw;apply cT (.bool true)
 .intro y b C a;replace a:=ab a;obtain⟨v5,v6,v7,rfl,o5⟩:=b.1 (by kernel_rfl);clear b;have Z:=y.ok.size;go_wp2;refine(ai4 x (dM s L) _ _ _ _ _ _ y.to _ _ _ _ (o4.below y.ok (by omega)).l o5.l (by omega) (am _) true (by simp only[tJ];exact hx.out)).mono ?_;rintro e wy ⟨rfl,Q⟩;go_wp2;exact a.out _ Q
 apply cT (.bool false)
 .intro y b C a;replace a:=ab a;clear b;go_wp2;exact a.out _ (fd _ _)
 refine aQ ?_;intro w5 pz Y D b;dsimp only[dQ] at b;try rw[D] at b
 clear D Y;simp only[List.drop];clear f0 f1 f2 g0 g1 g2 g3 bZ bS b4 b;replace f:=ak f pz;replace P:=f.cell;replace eQ:=f.frozen;replace K:=ak K pz;replace dG:=K.cell;replace eD:=K.frozen;replace m0:=ak m0 pz;replace od:=m0.cell;replace bf:=m0.frozen;have M:=aT.below pz (by omega);have aL:=ag bq pz;have z5:=pz.size;clear aT o4 bq pz K dG eD m0 od bf hx;by_cases h0:s.pk.length=0
 .go_wp2;go_ret;exact⟨rfl,aL⟩
 have d8:=G.out.wf.pl;have bt:¬((s.pk.length:Int)=0):=by omega
 obtain⟨k,bL,cs⟩:∃k:Nat,(l2.length:Int) % (s.pk.length:Int)=k/\k<s.pk.length:=⟨l2.length % s.pk.length,by rw[Int.natCast_emod],tD _ (by omega)⟩;obtain⟨p,kh⟩:=aq cs;have gk:(s.pk.length:Int)<=(a1:Int):=by obtain⟨_,h1,_⟩:=bD.len_ M.l.pk;omega
 obtain⟨bp,d6,A5,c5,ep, -,cU,b9,O,a5, -⟩:=aq7 (bF.t M.pk) kh;subst ep;have c4:=hg.below aL;go_wp2;have hd:((s.pk.length:Int) ==0)=false:=by rw[de];exact bt
 rw[bL,hd];clear bt gk bL hd h0;have f0:=P 0;have f1:=P 1;have f2:=P 2;have aH:=ae f0;have aI:=ae f1;have bc:=ae f2;have dB:=ae O;refine aC 10 [0,1,2,3,4,5,6,7] [8,9] (h:= ?_);simp only[pick,List.map,gt,gE];repeat(go_big_quiet_step (fail))
 refine ip ?_;clear aH aI bc dB;apply Exists.intro;apply aY (λv w'=>∃T V W,v=.agg #[T,V,W]/\jh w' w5.heap.size w'.heap.size (ai5 s p.no) T V W)
 .rfl
 .exact λv x y ⟨T,V,W,e,h⟩ d=>⟨T,V,W,e,(h.below d (am _)).wide (am _) d.size⟩
 .intro y b C a;replace a:=ab a;clear b;have Z:=y.ok.size;go_wp2;refine(oY s ⟨1,p.no,0,⟨#[]⟩⟩ _ _ _ y.to _ _ (M.below y.ok (by omega)).l (by omega) af.out (eg _)).mono ?_;rintro e wy ⟨u5,u6,u7,rfl,r5,Q⟩;go_wp2;exact a.out _ _ Q ⟨u5,u6,u7,rfl,(jh.wide ⟨bF.T r5.pk,bR.T r5.sn,jT.T r5.lg⟩ Z (am _):jh _ _ _ (ai5 s p.no) _ _ _)⟩
 intro vw;simp only[Act.put,dj,ge,io];apply aY (λv w'=>∃g,v=.pointer (some ⟨g,0,none⟩)/\w5.heap.size<=g/\bg w' g 27 #[.slice none 0 0,.slice none 0 0,.slice none 0 0])
 .rfl
 .exact λv x y ⟨g,e,hg,hb⟩ d=>⟨g,e,hg,ak hb d⟩
 .intro y b C a;replace a:=ab a;clear b;go_wp2;exact a.out _ _ (av _ _) ⟨_,rfl,y.ok.size,bg.new _ _ _⟩
 intro vg;simp only[Act.put,dj,ge,io];refine aQ ?_;intro w6 gZ Y D b;dsimp only[dQ] at b;try rw[D] at b
 clear D Y;obtain⟨⟨gy,rfl,cv,ky⟩,⟨u1,u2,u3,rfl,oy⟩, -⟩:=b;simp only[List.drop];have cy:=ky.cell;have fy:=ky.frozen;obtain⟨U1,d1,U2,d2,U3,d3,rfl,rfl,rfl⟩:=oy.form;obtain⟨y,hy⟩:∃y,y=ai5 s p.no:=⟨_,rfl⟩;rw[<-hy] at oy ⊢;have ao:=ab hy;clear hy;replace f:=ak f gZ;replace P:=f.cell;replace eQ:=f.frozen;have b6:=M.below gZ (by omega);have cr:=c4.below gZ;have z6:=gZ.size;have aa:=ag aL gZ;clear M c4 f0 f1 f2 O a5 b9;have kz:=aC2 ky (.slice U1 y.pk.length d1) (.slice U2 y.sn.length d2) (.slice U3 y.lg.length d3);have oz:=ax0 oy ky (.slice U1 y.pk.length d1) (.slice U2 y.sn.length d2) (.slice U3 y.lg.length d3);have bz:=ax1 (B:=w5.heap.size) w6 cv (.slice U1 y.pk.length d1) (.slice U2 y.sn.length d2) (.slice U3 y.lg.length d3);replace kz:=ab kz;replace oz:=ab oz;replace bz:=ab bz;clear oy;go_wp2;have b7:=bz.out;have k7:=kz.out;have o7:=oz.out;have bl:=aAi w6 gy (.slice U1 y.pk.length d1) (.slice U2 y.sn.length d2) (.slice U3 y.lg.length d3);clear bz kz oz;revert b7 k7 o7 bl;generalize (((w6.setCell ⟨gy,0,none⟩ (.slice U1 y.pk.length d1)).setCell ⟨gy,1,none⟩ (.slice U2 y.sn.length d2)).setCell ⟨gy,2,none⟩ (.slice U3 y.lg.length d3))=w7;intro b7 k7 o7 bl;have aV:=ahx f b7 (by omega);have b0:=b6.below b7 (by omega);replace aa:=ag aL (gZ.trans b7);have cR:=hg.below aa;clear f P eQ;have cp:Hid (SmS y):=ab (by rw[ao.out];exact H.out.lie (eg _));have cq:Hid (∀p∈y.pk,1<=p.its.length):=ab (by rw[ao.out];exact auB G.out.one _);clear b6 cr ky cy fy;go_loopw [10] (λii wr=>∃i:Nat,i<=s.sn.length/\ii=.int .i64 i/\Below w7.heap.size w7 wr) (λii _=>s.sn.length-(intOf ii).toNat)
 case atStart=>exact⟨0,eg _,rfl,fd _ _⟩
 case round=>
  obtain⟨i,hi,rfl,S⟩:=hrel;have bo:=ak aV S;have cc:=bo.cell;by_cases ce:i<s.sn.length
  .obtain⟨x,ax⟩:=aq ce;have ca:=b0.below S (by omega);have zr:=S.size;obtain⟨bn,dx,es,e0,_,dc,_,⟨vn,rfl,b9,J⟩,F⟩:=(bR.l ca.sn).at_ ax;subst e0;obtain⟨An,cn,rfl⟩:=J.form;have E:=F 0 _ rfl;have cw:=F 1 _ rfl;rw[sM] at E;have bT:=db ax;have b2:=H.out.sn x bT;have a4:aeN adZ x.all<=100000000:=by have:=agq λy hy=>(b2.2 y hy).2;have:=b2.1;omega
   replace a4:=ab a4;replace J:=ab J;clear F b2;go_wp2;refine(ai2 x _ wr _ _ (by omega) J.out a4.out).mono ?_;rintro e w8 ⟨v8,rfl,o8,b8⟩;obtain⟨A8,c8,rfl⟩:=o8.form;have HN:=ab (afR x);have bO:=aq6 (other G.out (db kh) bT);have bJ:∀n∈Lib.compact (nL (kP x)),cf n:=λn hn=>aln J.out n (ac0.1 (pV.1 hn));have HR:=ab (o8.sl bJ (am _):bD nj 1 _ _ _ _ _);have X:Hid (aaZ (Lib.compact (nL (kP x))) (eU p.its)=!(fA 7 y x.no).isSome):=ab (by rw[ao.out];exact bO);clear bO bJ o8 J a4;revert HR X;generalize Lib.compact (nL (kP x))=N;intro HR X;obtain⟨-,d9,cl⟩:=HR.out.len_;unfold maxLen at cl;have aZ:=ag S b8;have z8:=b8.size;clear bo cc E cw;go_wp2;go_loopw [12,13] (λnn jj wq=>∃j:Nat,j<=N.length/\jj=.int .i64 j/\nn=.bool (aaZ (N.take j) (eU p.its))/\Below w8.heap.size w8 wq) (λnn jj _=>N.length-(intOf jj).toNat)
   case atStart=>exact⟨0,eg _,rfl,rfl,fd _ _⟩
   case round=>
    obtain⟨j,hj,rfl,rfl,r⟩:=hrel;by_cases cm:j<N.length
    .obtain⟨n,bw⟩:=aq cm;have ba:=aoX (m:=eU p.its) bw;have a6:=ak aV (ag aZ r);have bi:=a6.cell 0;have ay:=b0.below (ag aZ r) (by omega);obtain⟨dD,cY,d5,dp,ep, -,_,co,O,a5,a0⟩:=aq7 (bF.t ay.pk) kh;cases ep;obtain⟨br,cW,rfl, -,_,_,fT⟩:=(lM.loc.below HR.out r (am _)).ints_at bw;have HST:=ab ba;clear ba;have zq:=r.size;go_wp2;have a8:∀z∈eU p.its,cf z:=λz hz=>by
      obtain⟨it,ch,rfl⟩:=pe.1 hz;exact((bD.good a0.1) it ch).1
     have a9:p.its.length<=100000000:=by have:=(H.out.pn p (db kh)).1;omega
     replace a0:=ab a0;replace a8:=ab a8;replace a9:=ab a9;revert HST;generalize aaZ (N.take j) (eU p.its)=q;intro HST;cases q
     .have aH:=ae bi;have aI:=ae O;have bc:=ae a5;have dB:=ae fT;refine aC 14 [0,1,2,3,4,5,6,8,9,10,11] [7,12,13] (h:= ?_);simp only[pick,List.map,gt,gE];repeat(go_big_quiet_step (fail))
      refine ip ?_;clear aH aI bc dB;apply Exists.intro;apply aY (λv z=>aJ gR 3 z wr.heap.size v (eU p.its))
      .rfl
      .exact λv x y h d=>h.below d
      .intro z b C a;replace a:=ab a;clear b;have hz:=z.ok.size;go_wp2;refine(ab9 p.no p.its _ z.to _ _ (by omega) (aaI.ar.below a0.out z.ok (by omega)) a9.out).mono ?_;rintro e wy ⟨v5,rfl,o5,b5⟩;go_wp2;exact a.out _ _ b5 (o5.base hz)
      intro vp;simp only[Act.put,dj,ge,io];apply cT (.bool (decide (n∈eU p.its)))
      .intro z b C a;replace a:=ab a;have h7:=b.1 (by kernel_rfl);obtain⟨A7,c7,rfl⟩:=h7.form;have cd:bD nj 1 _ _ _ _ _:=h7.sl a8.out (am _);clear b;go_wp2;refine(aq8 _ n _ _ _ z.to _ _ cd).mono ?_;rintro e wy ⟨rfl,rfl⟩;go_wp2;exact a.out _ (fd _ _)
      simp only[Act.put,dj,ge,io];apply cT (.bool (decide (n∈eU p.its)))
      .intro z b C a;replace a:=ab a;clear b;go_wp2;exact a.out _ (fd _ _)
      simp only[Act.put,dj,ge,io];refine aQ ?_;intro w9 ad Y D b;dsimp only[dQ] at b;try rw[D] at b
      clear D Y;simp only[List.drop];clear b;go_wp2;go_roundw
      case rel=>exact⟨j+1,by omega,by go_num,by rw[HST.out];rfl,ag r ad⟩
      simp[intOf];omega
     .have aH:=ae bi;have aI:=ae O;have bc:=ae a5;have dB:=ae fT;refine aC 14 [0,1,2,3,4,5,6,8,9,10,11] [7,12,13] (h:= ?_);simp only[pick,List.map,gt,gE];repeat(go_big_quiet_step (fail))
      refine ip ?_;clear aH aI bc dB;apply Exists.intro;apply cT undef
      .intro z b C a;replace a:=ab a;clear b;go_wp2;exact a.out _ (fd _ _)
      simp only[Act.put,dj,ge,io];apply cT undef
      .intro z b C a;replace a:=ab a;clear b;go_wp2;exact a.out _ (fd _ _)
      simp only[Act.put,dj,ge,io];apply cT (.bool true)
      .intro z b C a;replace a:=ab a;clear b;go_wp2;exact a.out _ (fd _ _)
      simp only[Act.put,dj,ge,io];refine aQ ?_;intro w9 ad Y D b;dsimp only[dQ] at b;try rw[D] at b
      clear D Y;simp only[List.drop];clear b;go_wp2;go_roundw
      case rel=>exact⟨j+1,by omega,by go_num,by rw[HST.out];rfl,ag r ad⟩
      simp[intOf];omega
    .obtain rfl:j=N.length:=by omega
     obtain⟨q,hq⟩:∃q,q=!(fA 7 y x.no).isSome:=⟨_,rfl⟩;rw[gc,X.out,<-hq];have al:=ab hq;clear hq X;have I:=ag aZ r;have a6:=(ak aV I).cell 1;have a2:=(ak k7 I).cell;have f0:=a2 0;have f1:=a2 1;have f2:=a2 2;have ay:=b0.below I (by omega);have cN:=o7.below I (by omega);have cz:=cR.below I;have zq:=r.size;obtain⟨cZ,dC,es,e0,_,dn,_,⟨vn,rfl,co, -⟩,F⟩:=(bR.l ay.sn).at_ ax;cases e0;have E:=F 0 _ rfl;rw[sM] at E;clear F;go_wp2;have aH:=ae f0;have aI:=ae f1;have bc:=ae f2;have dB:=ae a6;have gF:=ae E;refine aC 12 [0,1,2,3,4,5,6] [7,8,9,10,11] (h:= ?_);simp only[pick,List.map,gt,gE];repeat(go_big_quiet_step (fail))
     refine ip ?_;clear aH aI bc dB gF;apply Exists.intro;apply aY (aq9 (fA 7 y x.no) wr.heap.size)
     .rfl
     .exact λv x y h d=>h.below d
     .intro z b C a;replace a:=ab a;clear b;have hz:=z.ok.size;go_wp2;refine((ai6 y cp.out cq.out x.no _ _ _ _ _ z.to (cz.below z.ok) (by have:=z.ok.size;omega) (cN.below z.ok (by omega)).l)).mono ?_;rintro e wy ⟨u,rfl,o5,cg,b5⟩;go_wp2;exact a.out _ _ b5 ⟨_,rfl,o5.base (by omega),cg⟩
     intro v7;apply aY (aq9 (fA 7 y x.no) wr.heap.size)
     .rfl
     .exact λv x y h d=>h.below d
     .intro z b C a;replace a:=ab a;have h7:=b.1 (by kernel_rfl);go_wp2;exact a.out _ _ (fd _ _) h7
     intro v8;apply aY (ara (fA 7 y x.no) wr.heap.size)
     .rfl
     .exact λv x y h d=>h.below d
     .intro z b C a;replace a:=ab a;obtain⟨u,rfl,h8⟩:=b.1 (by kernel_rfl);go_wp2;exact a.out _ _ (fd _ _) h8
     intro v9;apply cT (.bool ((fA 7 y x.no)).isSome)
     .intro z b C a;replace a:=ab a;obtain⟨u,rfl,h8⟩:=b.2.1 (by kernel_rfl);go_wp2;exact a.out _ (fd _ _)
     apply aY (ara (fA 7 y x.no) wr.heap.size)
     .rfl
     .exact λv x y h d=>h.below d
     .intro z b C a;replace a:=ab a;have h9:=b.1 (by kernel_rfl);go_wp2;exact a.out _ _ (fd _ _) h9
     intro dm;refine aQ ?_;intro d4 c9 Y D b;dsimp only[dQ] at b;try rw[D] at b
     clear D Y;have ci:=b.1;clear b;simp only[List.drop];have cD:=ag I c9;have d0:=H.out.sl;clear ci f0 f1 f2 a6 E a2;revert al;generalize (fA 7 y x.no).isSome=o;intro al;obtain rfl:=al.out;cases o;all_goals
      go_wp2;go_roundw
      case rel=>exact⟨i+1,by omega,by go_num,cD⟩
      simp[intOf];omega
  .obtain rfl:i=s.sn.length:=by omega
   go_wp2;go_ret;exact⟨rfl,ag aa S⟩
end Go.Proofs.YtokgbpkbaoeeoaaGreatDoor.lawot