/- A part. -/
import Derived.Test.YtgjaikdifcbnkaaGreatDoorG8
import Derived.HandedShaped
import Derived.Carry
import Derived.Conc.Holds
import Derived.OpenVars
import Derived.LaidMore
import Derived.Lay
import Derived.SevenTiedAt
import Derived.Test.YtgjaikdifcbnkaaGreatDoorTie
import Derived.Test.YtgjaikdifcbnkaaGreatDoorCards
import Derived.Conc.WgGenN3
import Derived.Orders
set_option maxRecDepth 100000
set_option maxHeartbeats 8000000
set_option linter.all false
open Go Go.Conc Go.ConcN Go.RowKit Go.Proofs.Tryz Go.Proofs.YtgjaikdifcbnkaaGreatDoor
variable {Rr S:au} {X C b c i j m n:Nat} {key:Int} {ρ:Ren} {Q main:Bool} {cfr fr:Frame} {u v:Value} {w w' w0:World} {f:FuncId} {t:TypeId} {P:Program} {l:List iR} {U:Nat→Bool} {Rg:Nat→Prop} {d:TypeDesc} {rest:List Nat} {g:Goroutine} {z:Nat × Nat} {O:Array Oper} {af:Array Edge} {listed:Array Bool} {Y T a cs x y:Array Value} {A:Option Addr} {e:Operand→Value} {p:List MemPlace} {es:World→Array Event} {gd:Option (Nat × Bool)} {V St:Goroutine→World→Prop} {R:List Frame→World→Prop} {W:List (ByteArray × Bool)} {Stop:au→Goroutine→World→Prop} {Z:Int→List iR→Int→ByteArray × Bool}
namespace Go.Proofs.YtgjaikdifcbnkaaGreatDoor
def ga:=@Go.Conc.stepG_region_end
def lE:=@Go.Conc.stepG_seq
def rK:=@Go.Conc.stepG_skip
def sL:=@Go.Conc.stepG_ret'
def ui:=@Array.getElem?_replicate
def uN:=@Go.Conc.stepG_markAt
def uY:=@Go.Conc.stepG_mark0
def vJ:=@Go.MakeChecks.laidMetH_plain
def wl:=@Bool.and_assoc
def wx:=@List.mem_iff_getElem
def wA:=@List.getElem?_append
def wJ:=@Go.Claim7.new_of_sixth
def wM:=@Array.getElem?_ofFn
end Go.Proofs.YtgjaikdifcbnkaaGreatDoor
namespace Go.Proofs.YtgjaikdifcbnkaaGreatDoor.lawod
open Go.RowKit
section
variable {w:World} {s:Nat} {S:Nat->Prop} {pre:List Nat}
def ahW(f:∀b,¬S b){o:Option (List Nd)}{x y:aV w s 35 S pre}(h:aav o w.heap.size v x.to)(d:aV.le x y):aav o w.heap.size v y.to:=by
 rcases d with⟨-,a⟩|⟨-, -,g⟩
 .exact h.below a
 .refine⟨h.1.fe g λb a e=> ?_,h.2⟩;rcases e with e|⟨-,j,i⟩
  .exact f b e
  .obtain⟨-,k,c⟩:=axC h.1 a;exact absurd (cI c i) (by decide)
variable {P:Program} {ops:Array Oper} {Qt:Act->World->Prop} {i:Nat} {o:Oper} {L:List (Nat×Oper)} {F:List (Nat×(aV w s 35 S pre->Prop))} {Rs:List (gW (aV w s 35 S pre))} {a:Act}
def asH (n:o.dst=none) (hi':i=s) (f:∀j∈pre,Behind ops i j)
  (y:∀x:aV w s 35 S pre,oO F o x->x.done=false->∀d:Exit->Act->World->Prop,(∀k,bh (λb=>S b\/(w.heap.size<=b/\∃u:Array Value,aX x.to b 35 u)) x.to k->d .normal a k)->wpList P ops d [o] a x.to)
  (p:bY P ops (aV.to (w:=w)) (aV.le (w:=w)) Qt L ((i,λ_=>True)::F) Rs a):bY P ops (aV.to (w:=w)) (aV.le (w:=w)) Qt ((i,o)::L) F (.any (λ_ _=>True)::Rs) a:=by
 have l:∀v,a.put o.dst v=a:=λv=>by rw[n];rfl
 refine je (to:=aV.to (w:=w)) (le:=aV.le (w:=w)) (λ_ _=>True) (.inr λ_ _ _ h=>h) (λ_ _ _ h _=>h) (λx r _ _ c d q=>y x r (c (.inl hi')) d λk m=> ?_) λv=>by rw[l];exact p
 have:=q undef (x.did m) (.inr ⟨c (.inl hi'),rfl,m⟩) trivial (λj t g _ e=>e.elim (λe=>absurd (e.trans hi'.symm) t) λe=>absurd (f j e) g) trivial;rw[l] at this;exact this
end
def walk(hg:Glo w)(l l2:List Int)(h:bB iG 1 w 0 w.heap.size l [v])(h2:bB iG 1 w 0 w.heap.size l2 [u])(w':World)(hw:w'=w:=by rfl) :
  Calls (ai true) 3 #[v,u] w' λe w'=>e=.returned (.bool true)/\Below w.heap.size w w':=by
 subst hw;obtain⟨A,c,rfl⟩:=h.form;obtain⟨A2,c2,rfl⟩:=h2.form;have Q:l.length<=maxLen:=by obtain⟨_,h1,h2⟩:=h.len_;omega
 have an:l2.length<=maxLen:=by obtain⟨_,h1,h2⟩:=h2.len_;omega
 unfold maxLen at Q an;by_cases bk:1048576<l.length
 .go_enter qF3,ntmps3;go_wp2;go_ret;exact⟨rfl,du _ _⟩
 by_cases bl:1048576<l2.length
 .go_enter qF3,ntmps3;go_wp2;go_ret;exact⟨rfl,du _ _⟩
 go_enter qF3,ntmps3;go_wp2;refine(adO A _ c l _ h).mono ?_;rintro e w1 ⟨va,vb,vc,s,L,rfl,os,m,hL,bb⟩;replace m:=ab m;obtain⟨⟨A1,a1,rfl⟩,⟨B1,b1,rfl⟩,C1,c1,rfl⟩:=os.form;replace hL:=ab hL;clear Q bk;have s1:=bb.size;have aR:L.b.size<=maxLen:=by have:=hL.out.bs;unfold maxLen;omega
 have J:=ab m.out.wf.sm;have ce:=ab (J.out.lie hL.out.bs);have U:Hid (kD s<=1099511627):=ab (by have:=J.out.ave;omega);have cW:Hid (kD (dK s L)<=1099511627):=ab (by have:=ce.out.ave;omega);go_wp2;generalize R:(w1.alloc (.cells #[.slice A1 s.pk.length a1,.slice B1 s.sn.length b1,.slice C1 s.lg.length c1] 27)).alloc (.cells #[.int .i64 L.k,.int .i64 L.n,.int .i64 L.m,.string L.b] 29)=w2 at *;obtain⟨kE,cN,f,H,V,C,O,dz⟩:=oP R;clear R;have W:=os.below kE (am _);replace kE:=ag bb kE;clear os bb;refine(oG s L _ _ _ w2 _ _ W.l (by omega) U.out aR).mono ?_;rintro e w3 ⟨u1,u2,u3,rfl,o3,b3⟩;replace f:=ah f b3;replace H:=f.cell;replace V:=f.frozen;replace C:=ah C b3;replace O:=C.cell;replace dz:=C.frozen;have b4:=W.below b3 (by omega);have aa:=ag kE b3;have z3:=b3.size;clear W kE b3;obtain⟨A3,a3,rfl⟩:=aP.form o3.pk;obtain⟨B3,bn,rfl⟩:=aP.form o3.sn;obtain⟨C3,c3,rfl⟩:=jJ.form o3.lg;obtain⟨x,hx⟩:∃x,x=dK s L:=⟨_,rfl⟩;rw[<-hx] at o3 ⊢;replace hx:=ab hx;go_wp2;generalize R:w3.alloc (.cells #[.slice A3 x.pk.length a3,.slice B3 x.sn.length bn,.slice C3 x.lg.length c3] 27)=w4 at *;obtain⟨t,cz,m0,mz,a7⟩:=mK R;clear R;replace f:=ah f t;replace H:=f.cell;replace V:=f.frozen;replace C:=ah C t;replace O:=C.cell;replace dz:=C.frozen;have a0:=b4.below t (by omega);have o4:=o3.below t (am _);have ay:=ag aa t;have z4:=t.size;clear b4 o3 aa t;clear an bl;have f0:=H 0;have f1:=H 1;have f2:=H 2;have g0:=O 0;have g1:=O 1;have g2:=O 2;have g3:=O 3;have ba:=mz 0;have b0:=mz 1;have a5:=mz 2;have aF:=ae f0;have aJ:=ae f1;have bg:=ae f2;have dD:=ae g0;have ij:=ae g1;have lS:=ae g2;have c0:=ae g3;have ch:=ae ba;have cc:=ae b0;have bT:=ae a5;refine aC 6 [0,1,2] [3,4,5] (h:= ?_);simp only[pick,List.map,gt,gE];repeat(go_big_quiet_step (fail))
 refine io ?_;clear aF aJ bg dD ij lS c0 ch cc bT;apply Exists.intro;apply bc (λv w'=>∃va vb vc,v=.agg #[va,vb,vc]/\kV w' w4.heap.size w'.heap.size (dK s L) va vb vc)
 .rfl
 .exact λv x y ⟨va,vb,vc,e,h⟩ b=>⟨va,vb,vc,e,(h.below b (am _)).wide (am _) b.size⟩
 .intro y d o a;replace a:=ab a;clear d;have hd:=a0.below y.ok (by omega);have ad:=y.ok.size;go_wp2;refine(adQ s L _ _ _ y.to _ _ hd.l (by omega) U.out aR).mono ?_;rintro e wy ⟨u5,u6,u7,rfl,r5,E⟩;go_wp2;exact a.out _ _ E ⟨u5,u6,u7,rfl,r5.wide ad (am _)⟩
 intro vw;apply dL (.bool true)
 .intro y d o a;replace a:=ab a;obtain⟨v5,v6,v7,rfl,o5⟩:=d.1 (by kernel_rfl);clear d;have ad:=y.ok.size;go_wp2;refine(ajY x (dK s L) _ _ _ _ _ _ y.to _ _ _ _ (o4.below y.ok (by omega)).l o5.l (by omega) (am _) true (by simp only[tM];exact hx.out)).mono ?_;rintro e wy ⟨rfl,E⟩;go_wp2;exact a.out _ E
 apply dL (.bool false)
 .intro y d o a;replace a:=ab a;clear d;go_wp2;exact a.out _ (du _ _)
 refine aS ?_;intro w5 Z xx df d;dsimp only[dP] at d;try rw[df] at d
 clear df xx;simp only[List.drop];clear f0 f1 f2 g0 g1 g2 g3 ba b0 a5 d;replace f:=ah f Z;replace H:=f.cell;replace V:=f.frozen;replace C:=ah C Z;replace O:=C.cell;replace dz:=C.frozen;replace m0:=ah m0 Z;replace mz:=m0.cell;replace a7:=m0.frozen;have I:=a0.below Z (by omega);have F:=ag ay Z;have z5:=Z.size;clear a0 o4 ay Z C O dz m0 mz a7 hx;have cD:=m.out.wf.ll;have bS:¬((s.lg.length:Int)+1=0):=by omega
 obtain⟨k,K,X⟩:∃k:Nat,(l2.length:Int) % ((s.lg.length:Int)+1)=k/\k<=s.lg.length:=⟨l2.length % (s.lg.length+1),by rw[Int.natCast_emod];simp,by have:=tG l2.length (show 0<s.lg.length+1 by omega);omega⟩;have aU:=ab K;clear K;have gk:(k:Int)<=(c1:Int):=by obtain⟨_,h1,_⟩:=bB.len_ I.l.lg;omega
 have a4:Hid (wrap64 ((s.lg.length:Int)+1)=(s.lg.length:Int)+1):=ab (by unfold wrap64;omega);have D:(s.lg.take k).length=k:=by rw[fa];omega
 have HM:=adu (s.lg.take k) (m.out.wf.okl.take k) 0 0 (by omega) _ w5 _ _ (bB.adk I.l.lg X) (by omega);rw[apw,D] at HM;have a9:=ab HM;have HL:=ab D;have bR:=ab (avC m.out.wf.okl X);clear HM D;have ci:=hg.below F;have K:=aU.out;have bA:=a4.out;clear aU a4;go_wp2;clear bA bS K;refine a9.out.mono ?_;rintro e M ⟨rfl,b6⟩;replace f:=ah f b6;replace H:=f.cell;replace V:=f.frozen;replace F:=ag F b6;have z6:=b6.size;have a6:=I.below b6 (by omega);clear I a9;have ax:=av M (.cells #[.int .i64 (k:Int),.int .i64 (eM (s.lg.take k))] 35);have bx:=(ah f ax).cell;go_wp2;clear ax bx;have Y:Below M.heap.size M (M.alloc (.cells #[.int .i64 (k:Int),.int .i64 (eM (s.lg.take k))] 35)):=av _ _;have G:aX (M.alloc (.cells #[.int .i64 (k:Int),.int .i64 (eM (s.lg.take k))] 35)) (M.heap.size) 35 #[.int .i64 (k:Int),.int .i64 (eM (s.lg.take k))]:=aX.new _ _ _;have cw:M.heap.size+1<=(M.alloc (.cells #[.int .i64 (k:Int),.int .i64 (eM (s.lg.take k))] 35)).heap.size:=by simp only[mx];omega
 generalize (M.alloc (.cells #[.int .i64 (k:Int),.int .i64 (eM (s.lg.take k))] 35))=w7 at *;have aZ:=G.cell;have bi:=G.frozen;replace f:=ah f Y;replace H:=f.cell;replace V:=f.frozen;replace F:=ag F Y;have a2:=a6.below Y (by omega);clear a6;refine(oG s ⟨2,(k:Int),0,⟨#[]⟩⟩ _ _ _ w7 _ _ a2.l (by omega) U.out (ff _)).mono ?_;rintro e w8 ⟨u1,u2,u3,rfl,o8,b8⟩;replace f:=ah f b8;replace H:=f.cell;replace V:=f.frozen;replace G:=ah G b8;replace aZ:=G.cell;replace bi:=G.frozen;have al:=a2.below b8 (by omega);replace F:=ag F b8;have z8:=b8.size;clear a2;obtain⟨A8,a8,rfl⟩:=aP.form o8.pk;obtain⟨B8,bw,rfl⟩:=aP.form o8.sn;obtain⟨C8,c8,rfl⟩:=jJ.form o8.lg;obtain⟨y,N⟩:∃y,y=dK s ⟨2,(k:Int),0,⟨#[]⟩⟩:=⟨_,rfl⟩;rw[<-N] at o8 ⊢;replace N:=ab N;go_wp2;generalize R:w8.alloc (.cells #[.slice A8 y.pk.length a8,.slice B8 y.sn.length bw,.slice C8 y.lg.length c8] 27)=w9 at *;obtain⟨B,cZ,n0,cy,cX⟩:=mK R;clear R;replace f:=ah f B;replace H:=f.cell;replace V:=f.frozen;replace G:=ah G B;replace aZ:=G.cell;replace bi:=G.frozen;have af:=al.below B (by omega);have o9:=o8.below B (am _);replace F:=ag F B;have z9:=B.size;have cf:=hg.below F;have bI:Hid (SmS y):=ab (by rw[N.out];exact J.out.lie (ff _));have bL:Hid (∀p∈y.pk,1<=p.its.length):=ab (by rw[N.out];exact avx m.out.one _);have cd:Hid (jr y.lg):=ab (by rw[N.out];exact m.out.wf.okl.lie _);have HO:=ab m.out.one;have cq:(k:Int)<=9:=by omega
 clear al o8 ci B b8 b6;go_loopw [12] (λii wr=>∃i:Nat,i<=k/\ii=.int .i64 i/\Below w9.heap.size w9 wr) (λii _=>k-(intOf ii).toNat)
 case atStart=>exact⟨0,ff _,rfl,du _ _⟩
 case round=>
  obtain⟨i,hi,rfl,n⟩:=hrel;have ao:=ah f n;have bN:=ah G n;have bt:=ah n0 n;by_cases D:i<k
  .obtain⟨x,b2⟩:=aq (l:=s.lg) (k:=i) (by omega);have P:=old m.out X D b2;have bp:=af.below n (by omega);have c4:=o9.below n (by omega);have bf:=cf.below n;have zr:=n.size;obtain⟨og,c6,es,e0,_,cO,_,⟨rfl,cr⟩,bO⟩:=(cj.loc.below af.l.lg n (by omega)).at_ b2;subst e0;have aH:wr.cell? ⟨og,c6+i*2+1,none⟩=some (.int .i64 x.s):=by simpa using bO 1 _ rfl
   have er:mf k (eM (s.lg.take k)) y.lg=((k:Int),eM (s.lg.take k),0):=by rw[N.out,P.2];exact bR.out
   have ho:dE 7 y x.s=dE 7 s x.s:=by rw[N.out];exact P.1
   have b9:=ab λ(z:World) (r:Below wr.heap.size wr z)=>apy y bI.out bL.out cd.out (k:Int) (eM (s.lg.take k)) x.s (by omega) _ _ _ _ _ z (bf.below r) (by have:=r.size;omega) (c4.below r (by omega)).l
   rw[er,ho] at b9;have ck:=ao.cell;have cp:=bN.cell;have cn:=bt.cell;have d0:=eH (s:=17) (ty:=35) (S:=λ_=>False) (pre:=[]) (cp 0) id;have cS:=eH (s:=17) (ty:=35) (S:=λ_=>False) (pre:=[]) (cp 1) id;have cC:=eH (s:=17) (ty:=35) (S:=λ_=>False) (pre:=[]) (cn 0) id;have co:=eH (s:=17) (ty:=35) (S:=λ_=>False) (pre:=[]) (cn 1) id;have cJ:=eH (s:=17) (ty:=35) (S:=λ_=>False) (pre:=[]) (cn 2) id;have cL:=eH (s:=17) (ty:=35) (S:=λ_=>False) (pre:=[]) (ck 2) id;have cA:=eH (s:=17) (ty:=35) (S:=λ_=>False) (pre:=[]) aH id;go_wp2;refine aeO 17 35 (λ_=>False) [] 18 [0,1,2,3,4,5,6,7] [8,9,10,11,12,13,14,15,16,17] (by kernel_rfl) (by kernel_rfl) (by kernel_rfl) ?_;simp only[pick,List.map,gt,gE];repeat(go_big_quiet_step (fail))
   refine io ?_;apply Exists.intro;apply aeP (λv z=>∃u,v=.tuple #[u,.int .i64 0,.agg #[.int .i64 (k:Int),.int .i64 (eM (s.lg.take k))],.bool (dE 7 s x.s).isSome]/\aav (dE 7 s x.s) wr.heap.size u z.to)
   .rfl
   .exact λv z z' ⟨u,e,h⟩ b=>⟨u,e,ahW (λ_ h=>h) h b⟩
   .intro z d _ o a;replace a:=ab a;have r:=z.all λ_ h=>h;have zz:=r.size;go_wp2;refine(b9.out z.to r).mono ?_;rintro e wy bz;obtain⟨u,rfl,ht,E⟩:=bz.yes;go_wp2;exact a.out _ _ E ⟨u,rfl,ht.1.base zz,ht.2⟩
   intro v8;simp only[Act.put,bv,ef,fd];apply aeP (λv z=>∃u,v=.tuple #[u,.int .i64 0,.agg #[.int .i64 (k:Int),.int .i64 (eM (s.lg.take k))],.bool (dE 7 s x.s).isSome]/\aav (dE 7 s x.s) wr.heap.size u z.to)
   .rfl
   .exact λv z z' ⟨u,e,h⟩ b=>⟨u,e,ahW (λ_ h=>h) h b⟩
   .intro z d _ o a;replace a:=ab a;have h7:=d.1 (by kernel_rfl);go_wp2;exact a.out _ _ (du _ _) h7
   intro v9;simp only[Act.put,bv,ef,fd];apply aeP (λv z=>aav (dE 7 s x.s) wr.heap.size v z.to)
   .rfl
   .exact λv z z' h b=>ahW (λ_ h=>h) h b
   .intro z d _ o a;replace a:=ab a;obtain⟨u,rfl,h8⟩:=d.1 (by kernel_rfl);go_wp2;exact a.out _ _ (du _ _) h8
   intro ct;simp only[Act.put,bv,ef,fd];apply ahg (.int .i64 0)
   .intro z d _ o a;replace a:=ab a;obtain⟨u,rfl,h8⟩:=d.2.1 (by kernel_rfl);go_wp2;exact a.out _ (du _ _)
   simp only[Act.put,bv,ef,fd];apply ahg (.agg #[.int .i64 (k:Int),.int .i64 (eM (s.lg.take k))])
   .intro z d _ o a;replace a:=ab a;obtain⟨u,rfl,h8⟩:=d.2.1 (by kernel_rfl);go_wp2;exact a.out _ (du _ _)
   simp only[Act.put,bv,ef,fd];apply ahg (.bool (dE 7 s x.s).isSome)
   .intro z d _ o a;replace a:=ab a;obtain⟨u,rfl,h8⟩:=d.2.1 (by kernel_rfl);go_wp2;exact a.out _ (du _ _)
   simp only[Act.put,bv,ef,fd];apply aeP (λv z=>∃g,v=.pointer (some ⟨g,0,none⟩)/\wr.heap.size<=g/\(z.done=false->aX z.to g 35 #[.int .i64 0,.int .i64 0]))
   .rfl
   .exact λv z z' ⟨g,e,hg,hb⟩ b=>⟨g,e,hg,λhd=>ah (hb (b.till hd).1) (b.till hd).2⟩
   .intro z _ _ o a;replace a:=ab a;go_wp2;exact a.out _ _ (av _ _) ⟨_,rfl,(z.all λ_ h=>h).size,λ_=>aX.new _ _ _⟩
   intro cB;simp only[Act.put,bv,ef,fd];apply aeP (λv z=>aav (dE 7 s x.s) wr.heap.size v z.to)
   .rfl
   .exact λv z z' h b=>ahW (λ_ h=>h) h b
   .intro z d _ o a;replace a:=ab a;have h9:=d.2.1 (by kernel_rfl);go_wp2;exact a.out _ _ (du _ _) h9
   intro cm;simp only[Act.put,bv,ef,fd];apply ahg (.int .i64 0)
   .intro z d _ o a;replace a:=ab a;go_wp2;exact a.out _ (du _ _)
   simp only[Act.put,bv,ef,fd];apply asH
   .rfl
   .rfl
   .exact λj hj=>(by cases hj)
   .intro z d bo o a;replace a:=ab a;obtain⟨g,rfl,lW,hb⟩:=d.2.1 (by kernel_rfl);have kb:=hb bo;have cb:=kb.cell;have fb:=kb.frozen;go_wp2;refine a.out _ (bh.setCell (bh.setCell (bh.refl _ _) (.inl ?_) _) (.inl ?_) _);all_goals exact .inr ⟨lW,_,kb⟩
   refine aqN λz d=> ?_;simp only[dP] at d;have T:=d.2.1;have r:=z.all λ_ h=>h;simp only[List.drop];revert T r;generalize z.to=w10;intro T r;have bX:=ah ao r;have cs:=bX.cell;have f0:=cs 0;have f1:=cs 1;have f2:=cs 2;have ca:=bp.below r (by omega);have c9:=bf.below r;have c7:=aT r aH;have cl:=r.size;go_wp2;have aF:=ae f0;have aJ:=ae f1;have bg:=ae f2;have dD:=ae c7;refine aC 12 [0,1,2,3,4,5,6] [7,8,9,10,11] (h:= ?_);simp only[pick,List.map,gt,gE];repeat(go_big_quiet_step (fail))
   refine io ?_;apply Exists.intro;apply bc (asx (dE 7 s x.s) w10.heap.size)
   .rfl
   .exact λv x y h b=>h.below b
   .intro z d o a;replace a:=ab a;have r:=z.ok.size;go_wp2;refine((adt s J.out HO.out x.s _ _ _ _ _ z.to (c9.below z.ok) (by have:=z.ok.size;omega) (ca.below z.ok (by omega)).l)).mono ?_;rintro e wy ⟨u,rfl,o5,bq,b5⟩;go_wp2;exact a.out _ _ b5 ⟨_,rfl,o5.base (by omega),bq⟩
   intro v7;apply bc (asx (dE 7 s x.s) w10.heap.size)
   .rfl
   .exact λv x y h b=>h.below b
   .intro z d o a;replace a:=ab a;have h7:=d.1 (by kernel_rfl);go_wp2;exact a.out _ _ (du _ _) h7
   intro v8;apply bc (aav (dE 7 s x.s) w10.heap.size)
   .rfl
   .exact λv x y h b=>h.below b
   .intro z d o a;replace a:=ab a;obtain⟨u,rfl,h8⟩:=d.1 (by kernel_rfl);go_wp2;exact a.out _ _ (du _ _) h8
   intro v9;apply dL (.bool ((dE 7 s x.s)).isSome)
   .intro z d o a;replace a:=ab a;obtain⟨u,rfl,h8⟩:=d.2.1 (by kernel_rfl);go_wp2;exact a.out _ (du _ _)
   apply bc (aav (dE 7 s x.s) w10.heap.size)
   .rfl
   .exact λv x y h b=>h.below b
   .intro z d o a;replace a:=ab a;have h9:=d.1 (by kernel_rfl);go_wp2;exact a.out _ _ (du _ _) h9
   intro cQ;refine aS ?_;intro cv b7 xx df d;dsimp only[dP] at d;try rw[df] at d
   have c5:=d.1;simp only[List.drop];have br:=ag (ag n r) b7;have H6:=ab (T.below b7).nds;have H7:=ab c5.nds;generalize (dE 7 s x.s).isSome=q;cases q;all_goals
    go_wp2;refine(asw _ _ _ _ _ _ _ _ _ H6.out H7.out (am _) (am _) true (by simp)).mono ?_;rintro e d1 ⟨rfl,cg⟩;go_wp2;go_roundw
    case rel=>exact⟨i+1,by omega,by go_num,ag br cg⟩
    simp[intOf];omega
  .obtain rfl:i=k:=by omega
   go_wp2;go_ret;exact⟨rfl,ag F n⟩
end Go.Proofs.YtgjaikdifcbnkaaGreatDoor.lawod
namespace Go.Proofs.YtgjaikdifcbnkaaGreatDoor
section
open Go.RowKit Go.ChangeShapes Go.WideShapes Go.ChangeAt
section
variable {H:Type} {enc:TypeId×Value->H} {P:Program}
def aaM(i:laidOutB P=true){W l:World}{e:Nat->Bool}:∀{g:List TypeId} {j:List Value} {k:List (DataW H)} {f:List MemPlace},
  (∀t∈g,P.readableRec t=true/\t<P.types.size)->DataW.TrodAll enc P W 0 (λ_=>true) true g j k f->(∀p∈f,W.sameAt l p)->(∀p∈f,e p.block=true)->
  DataW.TrodAll enc P l 0 e true g j k f
 |[],_,_,_,_,h,_,_=>by
  obtain⟨rfl,rfl,rfl⟩:=trodAll_nil h;exact trodAll_mk0
 |t::g,_,_,_,hr,h,hs,hsp=>by
  obtain⟨v,q,d,m,a,b,rfl,rfl,rfl,u,n⟩:=trodAll_cons h;obtain⟨o,s⟩:=hr t (by simp);refine trodAll_cons_mk (WideElems.Trod_stays i o s u (λp c=>hs p (by simp[c])) (λp c=>hsp p (by simp[c]))) ?_;exact aaM i (λt r=>hr t (by simp[r])) n (λp c=>hs p (by simp[c])) (λp c=>hsp p (by simp[c]))
def ada{w:World}{base:Nat}{c:Nat->Bool}{e:Bool}:∀{f:List TypeId} {m:List Value} {g:List (DataW H)} {l:List MemPlace},DataW.TrodAll enc P w base c e f m g l->g.length=f.length
 |[],_,_,_,h=>by
  obtain⟨_,rfl,_⟩:=trodAll_nil h;rfl
 |t::f,_,_,_,h=>by
  obtain⟨v,k,d,i,a,b,rfl,rfl,rfl,n,j⟩:=trodAll_cons h;rw[gc,gc,ada j]
end
def own:ownKnob prog.godebug=none:=by kernel_rfl
def xG:laidOutB prog=true:=by kernel_rfl
section
variable {H:Type} {enc:TypeId×Value->H} {P:Program}
def apz {base:Nat}   {r:Reach} {e : TypeId} {k:IntKind} {d:DataW H} {E:fW Int} (C:P.underlying t=some (.slice e)) (T:P.underlying e=some (.int k)) (Y:P.cellsOf e=1)
  (M:∀(w:World) (K l:Nat) (x:Int),(Lit.int k x).wf=true->E w K l x [.int k x])
  (V:Value.okWide P w r X t v) (h:DataW.Trod enc P w base U Q t v d p) (q:∀x∈p,x.block<w.heap.size) :
  ∃R:List Int,bB E 1 w 0 w.heap.size R [v]:=by
 obtain⟨a0,len,cap,rfl⟩:=okWide_slice C V;obtain⟨I,O⟩:=h;rcases open_ints C T Y O with⟨c,B⟩|⟨a,F,D,m,c,_,Z,S,G,B,g,y⟩
 .simp[Value.cells] at c;obtain⟨rfl,rfl,rfl⟩:=c;exact⟨[],none,0,rfl,am _,by unfold maxLen;omega,λh=>absurd h (by simp)⟩
 .simp[Value.cells] at c;obtain⟨rfl,rfl,rfl⟩:=c;have f:(m.take len).length=len:=by
   rw[fa,G];split<;>omega
  refine⟨m.take len,some a,cap,by rw[f],by omega,S,λN=> ?_⟩;rw[f] at N;have L:len<=m.length:=by rw[G];split<;>omega
  obtain⟨b,o,rfl,s⟩:=ints_at g (by omega);refine⟨b,o,rfl,ff _, ?_,λi x l=> ?_⟩
  .simp only[vu] at B;have z:MemPlace.cell b o∈p:=by
    rw[B.2];have:m.length=(m.length-1)+1:=by omega
    simp[MemPlace.row];omega
   exact q _ z
  .have n:i<len:=by have:=aD l;omega
   have J:m.getD i 0=x:=by
    rw[tw n] at l;rw[sZ,l];rfl
   refine⟨[.int k x],rfl,M _ _ _ _ (y x ?_),λj u A=> ?_⟩
   .rw[tw n] at l;exact de l
   .have W:j=0:=by have:=aD A;simpa using this
    subst W;simp at A;subst A;have:=s i (by omega);rw[J] at this;simpa using this
end
def vS {H:Type} {enc:TypeId×Value->H} {base:Nat}   {r:Reach} {d:DataW H} 
  (b:Value.okWide prog w r X 22 v) (h:DataW.Trod enc prog w base U Q 22 v d p) (a:∀x∈p,x.block<w.heap.size):∃c:List Int,bB iG 1 w 0 w.heap.size c [v]:=
 apz underlying22 underlying5 (by kernel_rfl) (λ_ _ _ x e=>⟨rfl,by simp[Lit.wf,IntKind.min,IntKind.max,IntKind.signed,IntKind.bits] at e;exact⟨by omega,by omega⟩⟩) b h a
end
section
open Go.RowKit Go.ChangeShapes Go.WideShapes Go.ChangeAt Go.Conc
section
variable {H:Type} {enc:TypeId×Value->H} {P:Program}
def abM{w:World}{a:Nat->Bool}:∀{b:List String} {c:List (DataW H)} {i:List MemPlace},DataW.TrodVars enc P w a b c i->c.length=b.length
 |[],[],_,_=>rfl
 |[],_::_,_,h=>h.elim
 |_::_,[],_,h=>h.elim
 |n::b,d::c,i,h=>by
  obtain⟨g,t,o,f,p,q,r,k,l,m,j,e⟩:=h;rw[gc,gc,abM j]
def an9 {f:Func} {s:ChangeSpec} {W : World} {args:Array Value} {g gs:List (DataW H)} {a:List MemPlace} {n:TypeId}
  (o:laidOutB P=true) (u:∀t∈f.params.toList,P.readableRec t=true/\t<P.types.size) (d:f.resultTypes=#[n]) (m:P.underlying n=some .bool) (l:varsRowed P s.vars=true)
  (b:s.fn H (g++gs)={results:=[.lit (.bool true)],args:=g,vars:=gs})
  (j:DataW.Whole enc P f.params.toList s.vars Q W args.toList g gs a) (i:Below W.heap.size W w) :
  s.post enc P f Q true false false W args (.bool true) w:=by
 have c:∀p∈a,p.block<W.heap.size:=λp r=>by simpa using j.lt p r
 have k:=j;obtain⟨p,q,A,y,rfl,z,v⟩:=j;refine⟨g,gs,p++q,[],p,q,k, ?_, ?_, ?_,World.keptBut_mono (λx e=>e.elim) (i.frame λ_=>False),λh=>by cases h⟩
 .rw[b,d];exact trodAll_mk1 (shut_bool m _)
 .rw[b];exact aaM o u A (λx e=>i.same (c x (by simp[e]))) (λx e=>by simpa using c x (by simp[e]))
 .rw[b];exact i.trodVars o l y
end
def xm (i:Looks) {p:Pinned} {s:OpenSpec} {c:OpenClaim} (l:List (List PathCond)) (kinds:List LaidKind) (a:Bool) (b:Bool×String) (d:Bool)
  (z:c.holds p s) (w:∀D∈l,(c.withDomain D).holds p s) (v:c.wfByText s=true) (k:∀D∈l,(c.withDomain D).wfByText s=true)
  (m:c.laidByTextAt i p kinds a)
  (e:c.start=.entering) (g:c.noBlocks=false/\c.again=false) (q:p.checked.prog.mainIs=some (b.1,b.2.toList)) (y:(!b.1&&b.2.isEmpty&&!d)=false)
  (n:∀f fn,p.checked.prog.funcNamed c.func=some f->p.checked.prog.funcs[f]?=some fn->d=p.checked.prog.looks []/\∀(j:Nat) t,fn.params[j]?=some t->p.checked.prog.wantsStandIn t=false)
  (x:true=c.goesBy p.checked.prog) :
  Claim7.holds p (.plain s) {stood:={row:=c,standIns:=[],harness:=b,looks:=d},kinds:=[],alts:=l,goes:=true,laidByText:=true,laidKinds:=kinds,laidTests:=a,laidLooks:=i}:=by
 have u:∀r:OpenClaim,Claim7.isSixth {stood:={row:=r,standIns:=[],harness:=b,looks:=d},kinds:=[]}=false:=λr=>by simpa[Claim7.isSixth] using y
 refine⟨Claim7.tied_new_at i kinds a (wJ z b d e g q (u c) n) v,λD o=> ?_,m,(λh=>by cases h),x⟩;exact Claim7.tied_new_at i kinds a (wJ (w D o) b d e g q (u _) n) (k D o)
abbrev laidL:List (String×DataW Unit):=[("unicode/utf8.acceptRanges",Rows.laid_unicode_utf8_acceptRanges),("loop.example/depositary/impl.errPiece",Rows.laid_loop_example_depositary_impl_errPiece),("loop.example/depositary/impl.errKey",Rows.laid_loop_example_depositary_impl_errKey),("unicode/utf8.first",Rows.laid_unicode_utf8_first)]
def xA(os:Os)(args:Array Value):laidMetH prog laidL ((World.laidAll prog os laidL).forCall (λ_ _=>0) ⟨#[],args,[]⟩).memory:=by
 rw[vJ _ _ _ (by kernel_rfl)];exact laidMet_laidAll _ (by kernel_rfl) (by kernel_rfl)
end
section
open Go Go.Conc Go.ConcN Go.RowKit
structure qd (w0 w:World) (n:Nat) (res:List (ByteArray×Bool)):Prop where
 low:∀b,b<w0.heap.size->w.heap[b]?=w0.heap[b]?
 lt:w0.heap.size<w.heap.size
 row:∃cs,w.heap[w0.heap.size]?=some (.cells cs 140 (0,0))/\cs.size=2*n/\∀i x,res[i]?=some x->cs[2*i]?=some (.string x.1)/\cs[2*i+1]?=some (.bool x.2)
def setRow(h:w.heap[C]?=some (.cells cs t z)):(w.setCell ⟨C,i,none⟩ v).heap[C]?=some (.cells (cs.setIfInBounds i v) t z):=by
 unfold World.setCell;simp[pm,h]
def fc(h:w.heap[C]?=some (.cells cs t z)):w.cell? ⟨C,i,none⟩=cs[i]?:=by
 unfold World.cell?;simp[h]
def iD(h:w.heap[C]?=some (.cells cs t (0,0))):w.frozen? ⟨C,i,none⟩=false:=by
 unfold World.frozen?;simp[h]
def qd.below(h:qd w0 w n W)(c:Below w.heap.size w w'):qd w0 w' n W:=by
 obtain⟨e,f,d⟩:=h.row;exact⟨λb a=>(c.block b (Nat.lt_trans a h.lt)).trans (h.low b a),bd h.lt c.size,e,(c.block _ h.lt).trans f,d⟩
def qd.store(h:qd w0 w n W)(m:W.length<n)(x:ByteArray×Bool):qd w0 ((w.setCell ⟨w0.heap.size,2*W.length,none⟩ (.string x.1)).setCell ⟨w0.heap.size,2*W.length+1,none⟩ (.bool x.2)) n (W++[x]):=by
 obtain⟨p,l,g,j⟩:=h.row;refine⟨λb k=> ?_, ?_,_,setRow (setRow l),by simpa using g,λi y c=> ?_⟩
 .have d:w0.heap.size≠b:=by omega
  rw[bu _ _ _ d,bu _ _ _ d];exact h.low b k
 .rw[be,be];exact h.lt
 .rw[wA] at c;split at c
  .rename_i f;obtain⟨a,b⟩:=j i y c;constructor
   .rw[kw (by omega),kw (by omega)];exact a
   .rw[kw (by omega),kw (by omega)];exact b
  .rename_i o;have e:i=W.length:=by
    have:=(qv.1 c).1;simp at this;omega
   subst e;simp at c;subst c;constructor
   .rw[kw (by omega),qh (by omega)]
   .rw[qh (by simp;omega)]
abbrev inH(k:List Item):List Item:=.inLoop mG :: .inBlock 53::k
def afo:f79.body.isSome=true:=by kernel_rfl
def asI(β:Bool):∃fn,(ai β).funcs[79]?=some fn/\fn.body.isSome=true/\(fn.name == "runtime.NumGoroutine")=false:=by
 refine⟨pf f79, ?_, ?_,by have:=cM func79;exact this⟩
 .rw[akI β (by decide) (by decide),func79];rfl
 .show(f79.body.map gP).isSome=true;rw[Option.isSome_map];exact afo
def aj0{β:Bool}{args:Array Value} :(callFunc 79 args).runT (ai β) w #[]=(.ok (.enter 79 args) w,#[]):=by
 obtain⟨fn,c,b,d⟩:=asI β;unfold callFunc;have f:¬fn.name= "runtime.NumGoroutine" :=by simpa using d
 have a:¬fn.body=none:=λe=>by rw[e] at b;cases b
 simp[c,f,a]
section
variable {X:Cx} {T:Array Value} {k:List Item} {w:World}
def At.aBv (hF:eP Z)  {Y : Option Addr}  {dH:List Int} (h:At X T (.code mG::inH k) w)
  (k1:1<=key) (k2:key<=99) (hl:l.length=n) (hc:n<=c) (ao:(c:Int)<=9223372036854775807) (hp:RdP w0 A 0 l) (a7:∀a,Y=some a->a.block<w0.heap.size) (b0:(C:Int)<=2147483647)
  (H:T.getD 0 undef=.int .i64 key) (s1:T.getD 1 undef=.slice A n c) (s2:T.getD 2 undef=.slice Y C b) (B:T.getD 16 undef=.int .i64 C) (p:T.getD 27 undef=.slice (some ⟨w0.heap.size,0,none⟩) C C) (i:T.getD 28 undef=.int .i64 j)
  (hj:j<=C) (al:dH.length=j) (q:qd w0 w C (dH.map (Z key l))) :
  (j=C/\∃T',Tm cV T T'/\T'.getD 27 undef=.slice (some ⟨w0.heap.size,0,none⟩) C C/\At X T' k w)\/
  (j<C/\∃nm T' w',aid w0 Y j nm/\Tm cV T T'/\T'.getD 16 undef=.int .i64 C/\T'.getD 27 undef=.slice (some ⟨w0.heap.size,0,none⟩) C C/\T'.getD 28 undef=.int .i64 (j+1:Nat)/\qd w0 w' C ((dH++[nm]).map (Z key l))/\At X T' (.code mG::inH k) w'):=by
 have r:=Tm.refl cV T;unfold Go.Proofs.YtgjaikdifcbnkaaGreatDoor.mG at h;have h:=h.seq;replace h:=h.region (l:=[0]) rfl;obtain⟨v,I,b1,⟨E,D⟩,m,V,g⟩:=h.jD (d:=26) (Φ:=λv o=>v=.bool (decide ((j:Int)<C))/\o=w) rfl rfl rfl (by decide) λM o F=>gI (by exact i) (by exact B) F;rw[E] at V;rw[D] at g;replace H:=(m.same 0 rfl).trans H;replace s1:=(m.same 1 rfl).trans s1;replace s2:=(m.same 2 rfl).trans s2;replace B:=(m.same 16 rfl).trans B;replace p:=(m.same 27 rfl).trans p;replace i:=(m.same 28 rfl).trans i;replace r:=r.trans (m.sw rfl);replace h:=g;replace h:=h.jo.seq.cond V;by_cases R:(j:Int)<C
 .right;rw[dj R] at h;simp only[pv] at h;replace h:=h.skip.seq.seq;replace h:=h.region (l:=[0,1,2,3]) rfl;obtain⟨ii,hi,hz⟩:=(faQ true).i3;obtain⟨v,I,ay,⟨a,hB,E,D⟩,m,O,g⟩:=h.jD (d:=25) (Φ:=λv o=>∃a,Y=some a/\v=.pointer (some (a.add (j*ii.size)))/\o=w) rfl rfl rfl (by decide) λM o F=>aca (faQ true).u31 hi (by exact s2) (by exact i) (by omega) F;rw[E,hz,Nat.mul_one] at O;rw[D] at g;replace H:=(m.same 0 rfl).trans H;replace s1:=(m.same 1 rfl).trans s1;replace B:=(m.same 16 rfl).trans B;replace p:=(m.same 27 rfl).trans p;replace i:=(m.same 28 rfl).trans i;replace r:=r.trans (m.sw rfl);replace h:=g;have hv:=h.noV (t:=25) rfl rfl rfl O (λe w he=>ae1 he);obtain⟨vv,I,aZ,⟨N,D⟩,m,L,g⟩:=h.jD (d:=20) (Φ:=λv o=>w.cell? (a.add j)=some v/\o=w) rfl rfl rfl (by decide) λM o F=>ahv (faQ true).u3 rfl (by exact O) hv.1 F;rw[D] at g;replace H:=(m.same 0 rfl).trans H;replace s1:=(m.same 1 rfl).trans s1;replace B:=(m.same 16 rfl).trans B;replace p:=(m.same 27 rfl).trans p;replace i:=(m.same 28 rfl).trans i;replace r:=r.trans (m.sw rfl);replace h:=g;obtain⟨v,I,aU,⟨z,a9,E,D⟩,m,G,g⟩:=h.jD (d:=22) (Φ:=λv o=>∃z,vv=.int .i64 z/\v=.int .i64 (IntKind.i64.wrap (z*1))/\o=w) rfl rfl rfl (by decide) λM o F=>let⟨v,a1,z,a2,a3,a4⟩:=alv F rfl;⟨v,a1,z,L.symm.trans a2,a3,a4⟩
  rw[E] at G;rw[D] at g;replace H:=(m.same 0 rfl).trans H;replace s1:=(m.same 1 rfl).trans s1;replace B:=(m.same 16 rfl).trans B;replace L:=(m.same 20 rfl).trans L;replace p:=(m.same 27 rfl).trans p;replace i:=(m.same 28 rfl).trans i;replace r:=r.trans (m.sw rfl);replace h:=g;subst a9;obtain⟨v,I,P,⟨E,D⟩,m,W,g⟩:=h.jD (d:=21) (Φ:=λv o=>v=.bool (IntKind.i64.wrap (z*1) ==z)/\o=w) rfl rfl rfl (by decide) λM o F=>aly (by exact G) (by exact L) F;rw[E] at W;rw[D] at g;replace H:=(m.same 0 rfl).trans H;replace s1:=(m.same 1 rfl).trans s1;replace B:=(m.same 16 rfl).trans B;replace L:=(m.same 20 rfl).trans L;replace G:=(m.same 22 rfl).trans G;replace p:=(m.same 27 rfl).trans p;replace i:=(m.same 28 rfl).trans i;replace r:=r.trans (m.sw rfl);replace h:=g;obtain⟨hq,g⟩:=h.jo.ax3 W;replace h:=g.seq;replace h:=h.region (l:=[0,1,2]) rfl;have kF:=abf hq;have a8:aid w0 Y j z:=⟨a,hB,by rw[<-gC (q.low (a.add j).block (by rw[rB];exact a7 a hB))];exact N,kF⟩;obtain⟨v,I,aF,⟨E,a5⟩,m,J,g⟩:=h.call (d:=24) (f:=79) (args:=#[.int .i64 key,.slice A n c,.int .i64 z]) rfl rfl rfl (by decide) (λw=>by
    have hm:Array.map (Frame.eval (FQ cF P (.inRegion aiB [0,1,2] :: .code (.region 83 aiC false)::inH k))) #[.tmp 0,.tmp 1,.tmp 20]=#[.int .i64 key,.slice A n c,.int .i64 z]:=by
     rw[<-H,<-s1,<-L];simp[Frame.eval]
    have e0:execOp (Frame.eval (FQ cF P (.inRegion aiB [0,1,2] :: .code (.region 83 aiC false)::inH k))) (iH (some 24) (.call ⟨.value (.func 79),#[.tmp 0,.tmp 1,.tmp 20],#[3,23,3]⟩) 140)=callFunc 79 #[.int .i64 key,.slice A n c,.int .i64 z]:=by
     simp only[execOp,iH,resolve];rw[hm];simp[Deferred.ofValue,invoke,Frame.eval];try rfl
    exact(jt (λs=>Sem.runT (ai true) s w #[]) e0).trans aj0) (hF true w key A n c l z k1 k2 hl hc ao (hp.below q.low) kF)
  rw[E] at J;replace q:=q.below a5;replace B:=(m.same 16 rfl).trans B;replace G:=(m.same 22 rfl).trans G;replace p:=(m.same 27 rfl).trans p;replace i:=(m.same 28 rfl).trans i;replace r:=r.trans (m.sw rfl);replace h:=g;obtain⟨i2,jy,a6, -⟩:=(faQ true).adD;obtain⟨v,w2,aa,⟨a2,an,E,D⟩,m,a0,g⟩:=h.jD (d:=23) (Φ:=λv o=>∃a,some (⟨w0.heap.size,0,none⟩:Addr)=some a/\v=.pointer (some (a.add (j*i2.size)))/\o=I) rfl rfl rfl (by decide) λM o F=>aca (faQ true).agN jy (by exact p) (by exact i) (by omega) F;cases an;rw[E,a6,ji,me,tQ] at a0;rw[D] at g;replace B:=(m.same 16 rfl).trans B;replace G:=(m.same 22 rfl).trans G;replace J:=(m.same 24 rfl).trans J;replace p:=(m.same 27 rfl).trans p;replace i:=(m.same 28 rfl).trans i;replace r:=r.trans (m.sw rfl);replace h:=g;have S:=q.store (by simp;omega) (Z key l z);rw[qi,al] at S;obtain⟨cs,K,aJ, -⟩:=q.row;obtain⟨u0,ax⟩:∃u,cs[2*j]?=some u:=⟨_,gn (by omega)⟩;obtain⟨u1,ad⟩:∃u,cs[2*j+1]?=some u:=⟨_,gn (by omega)⟩;have ha:(⟨w0.heap.size,2*j,none⟩:Addr).add 1=⟨w0.heap.size,2*j+1,none⟩:=ji _ _ _;have U:=aoP (faQ true) (dst:=none) (ty:=0) (pos:= "") (af:=#[]) (gd:=none) (w:=I) (A:=⟨w0.heap.size,2*j,none⟩) (u0:=.string (Z key l z).1) (u1:=.bool (Z key l z).2) (e:=(FQ cF aa (.inRegion aiB (2::[]) :: .code (.region 83 aiC false)::inH k)).eval) (x:=.tmp 23) (y:=.tmp 24) rfl rfl (by exact a0) (by exact J) ((fc K).trans ax) (iD K) (by rw[ha];exact(fc K).trans ad) (by rw[ha];exact iD K);rw[ha] at U;replace h:=h.opk rfl rfl rfl U;replace h:=h.jo.region (l:=[0,1]) rfl;generalize (I.setCell ⟨w0.heap.size,2*j,none⟩ (.string (Z key l z).1)).setCell ⟨w0.heap.size,2*j+1,none⟩ (.bool (Z key l z).2)=o at *;obtain⟨v,I,aH,⟨E,D⟩,m,G,g⟩:=h.jD (d:=22) (Φ:=λv Q=>v=.int .i64 (IntKind.i64.wrap ((j:Int)+1))/\Q=o) rfl rfl rfl (by decide) λM Q F=>alx (by exact i) rfl F;rw[E] at G;rw[D] at g;replace B:=(m.same 16 rfl).trans B;replace p:=(m.same 27 rfl).trans p;replace i:=(m.same 28 rfl).trans i;replace r:=r.trans (m.sw rfl);replace h:=g;obtain⟨v,I,aR,⟨E,D⟩,m,i,g⟩:=h.jD (d:=28) (Φ:=λv Q=>v=.int .i64 (IntKind.i64.wrap ((j:Int)+1))/\Q=o) rfl rfl rfl (by decide) λM Q F=>let⟨v,a1,a2,a3⟩:=aht F;⟨v,a1,a2.trans G,a3⟩
  rw[E] at i;rw[D] at g;replace B:=(m.same 16 rfl).trans B;replace p:=(m.same 27 rfl).trans p;replace r:=r.trans (m.sw rfl);replace h:=g;rw[ae2 (by omega)] at i;exact⟨by omega,z,_,o,a8,r,B,p,i,by rw[tH];exact S,h.jo.again⟩
 .left;rw[db R] at h;simp only[lc,qL] at h;exact⟨by omega,_,r,p,h.exit rfl⟩
def At.awS {G:Int->List iR->Int->ByteArray×Bool} (C:eP G) {w0:World} {key:Int} {A v:Option Addr} {n c d N:Nat} {l:List iR}
  (x:1<=key) (k2:key<=99) (E:l.length=n) (H:n<=c) (q:(c:Int)<=9223372036854775807) (D:RdP w0 A 0 l) (p:∀a,v=some a->a.block<w0.heap.size) (r:(d:Int)<=2147483647):∀(m j:Nat) {T:Array Value} {w:World} {s:List Int},d=j+m->At X T (.code mG::inH k) w->
  T.getD 0 undef=.int .i64 key->T.getD 1 undef=.slice A n c->T.getD 2 undef=.slice v d N->T.getD 16 undef=.int .i64 d->T.getD 27 undef=.slice (some ⟨w0.heap.size,0,none⟩) d d->T.getD 28 undef=.int .i64 j->s.length=j->(∀i nm,s[i]?=some nm->aid w0 v i nm)->qd w0 w d (s.map (G key l))->
  ∃(b:List Int) (T':Array Value) (u:World),b.length=d/\(∀i nm,b[i]?=some nm->aid w0 v i nm)/\qd w0 u d (b.map (G key l))/\Tm cV T T'/\T'.getD 27 undef=.slice (some ⟨w0.heap.size,0,none⟩) d d/\At X T' k u
 |0,j,T,w,s,e,h,s0,s1,s2,dB,jh,jm,hnl,hnm,hrow=>by
  rcases h.aBv C x k2 E H q D p r s0 s1 s2 dB jh jm (by omega) hnl hrow with⟨_,T',J,o,I⟩|⟨y,_⟩
  .exact⟨s,T',w,by omega,hnm,hrow,J,o,I⟩
  .omega
 |m+1,j,T,w,s,e,h,s0,s1,s2,dB,jh,jm,hnl,hnm,hrow=>by
  rcases h.aBv C x k2 E H q D p r s0 s1 s2 dB jh jm (by omega) hnl hrow with⟨W,_⟩|⟨y,nm,V,U,P,f,F,o,B,g,K⟩
  .omega
  .obtain⟨b,T',u,R,S,L,O,M,Q⟩:=At.awS C x k2 E H q D p r m (j+1) (by omega) K ((f.same 0 rfl).trans s0) ((f.same 1 rfl).trans s1) ((f.same 2 rfl).trans s2) F o B (by simp[hnl]) (λi z t=>by
    rw[wA] at t;split at t
    .exact hnm i z t
    .have:i=j:=by
      have:=(qv.1 t).1;simp at this;omega
     subst this;simp[hnl] at t;subst t;exact P) g
   exact⟨b,T',u,R,S,L,f.trans O,M,Q⟩
end
end
section
open Go Go.Conc Go.ConcN
def mxA:Option Addr->Nat
 |none=>0
 |some a=>a.block+1
def mxN:Option Nat->Nat
 |none=>0
 |some a=>a+1
def avD:Fn->Nat
 |.yield l=>l+1
 |_=>0
mutual
def mxV:Value->Nat
 |.pointer a=>mxA a
 |.slice a _ _=>mxA a
 |.map a=>mxN a
 |.chan a=>mxN a
 |.func f ⟨a⟩ ⟨c⟩=>max (avD f) (max (mxL a) (mxL c))
 |.iface _ v=>mxV v
 |.agg ⟨l⟩=>mxL l
 |.tuple ⟨l⟩=>mxL l
 |_=>0
def mxL:List Value->Nat
 |[]=>0
 |v::l=>max (mxV v) (mxL l)
end
def mxE:List MapEntry->Nat
 |[]=>0
 |e::l=>max (max (mxV e.key) (mxV e.val)) (mxE l)
def mxO:Obj->Nat
 |.cells c _ _=>mxL c.toList
 |.map e _=>mxE e.toList
 |.loop l=>mxL l.tmps.toList
 |_=>0
def mxH:List Obj->Nat
 |[]=>0
 |o::l=>max (mxO o) (mxH l)
def anC:∀{l:List Obj} {i:Nat} {o:Obj},l[i]?=some o->mxO o<=mxH l
 |[],i,o,h=>by simp at h
 |x::l,0,o,h=>by simp at h;subst h;simp only[mxH];omega
 |x::l,i+1,o,h=>by
  have:=anC (l:=l) (i:=i) (o:=o) (by simpa using h);simp only[mxH];omega
def amn:List Frame->Nat
 |[]=>0
 |f::l=>max (mxL f.tmps.toList) (amn l)
def asK(f:Fn)(a c:Array Value):mxV (.func f a c)=max (avD f) (max (mxL a.toList) (mxL c.toList)):=by
 obtain⟨a⟩:=a;obtain⟨c⟩:=c;simp only[mxV]
def avE(a:Array Value):mxV (.agg a)=mxL a.toList:=by
 obtain⟨a⟩:=a;simp only[mxV]
def apA(a:Array Value):mxV (.tuple a)=mxL a.toList:=by
 obtain⟨a⟩:=a;simp only[mxV]
section
variable {ρ σ:Ren} {D:Nat} (hd:σ.dim=ρ.dim/\σ.al=ρ.al) (H:∀{a b:Nat},σ.r a b->b<D->ρ.r a b)
include H
theorem OAR.down{u v:Option Addr}(k:OAR σ u v)(a:mxA v<=D):OAR ρ u v:=by
 cases k with
 |none=>exact .none
 |some k=>cases k with
  |mk h o s=>exact .some (.mk (H h (by simp only[mxA] at a;omega)) o s)
theorem NR.down{u v:Option Nat}(k:NR σ u v)(a:mxN v<=D):NR ρ u v:=by
 cases k with
 |none=>exact .none
 |some h=>exact .some (H h (by simp only[mxN] at a;omega))
theorem FR.down{u v:Fn}(k:FR σ u v)(a:avD v<=D):FR ρ u v:=by
 cases k with
 |same f b=>exact .same _ b
 |yield h=>exact .yield (H h (by simp only[avD] at a;omega))
include hd
mutual
theorem VR.down:∀{u v:Value},VR σ u v->mxV v<=D->VR ρ u v
 |_,_,.fQ hl k,_=>.fQ (hd.1▸hl) k
 |_,_,.abp k hl,_=>.abp k (hd.2▸hl)
 |_,_,.bool b,_=>.bool b
 |_,_,.int k n,_=>.int k n
 |_,_,.string s,_=>.string s
 |_,_,.pointer k,hb=>.pointer (OAR.down H k (by simpa only[mxV] using hb))
 |_,_,.slice k l c,hb=>.slice (OAR.down H k (by simpa only[mxV] using hb)) l c
 |_,_,.map k,hb=>.map (NR.down H k (by simpa only[mxV] using hb))
 |_,_,.chan k,hb=>.chan (NR.down H k (by simpa only[mxV] using hb))
 |_,_,.func f x y,hb=>by
  rw[asK] at hb;exact .func (FR.down H f (by omega)) (bU.down x (by omega)) (bU.down y (by omega))
 |_,_,.nilFunc,_=>.nilFunc
 |_,_,.iface t k,hb=>.iface t (VR.down k (by simpa only[mxV] using hb))
 |_,_,.nilIface,_=>.nilIface
 |_,_,.agg k,hb=>.agg (bU.down k (by rwa [avE] at hb))
 |_,_,.tuple k,hb=>.tuple (bU.down k (by rwa [apA] at hb))
theorem bU.down:∀{u v:List Value},bU σ u v->mxL v<=D->bU ρ u v
 |_,_,.nil,_=>.nil
 |_,_,.cons k kl,hb=>.cons (VR.down k (by simp only[mxL] at hb;omega)) (bU.down kl (by simp only[mxL] at hb;omega))
end
def mU.down:∀{u v:List MapEntry},mU σ u v->mxE v<=D->mU ρ u v
 |_,_,.nil,_=>.nil
 |_,_,.cons (.mk k1 k2 b) kl,hb=>.cons (.mk (VR.down hd H k1 (by simp only[mxE] at hb;omega)) (VR.down hd H k2 (by simp only[mxE] at hb;omega)) b) (mU.down kl (by simp only[mxE] at hb;omega))
variable (hx:σ.lax=ρ.lax) (hle:ρ.Le σ)
include hx hle
theorem OR.down{u v v':Obj}(h:OR ρ u v')(k:OR σ v v')(b:mxO v'<=D):OR ρ v v':=by
 cases h with
 |cells h t C=>cases k with
  |cells k _ g=>
   refine .cells (bU.down hd H k b) t ?_;unfold ZR at g ⊢;rw[<-hx];exact g
 |map h c=>cases k with
  |map k _=>exact .map (mU.down hd H k b) c
 |stringIter s p=>cases k;exact .stringIter s p
 |number h l=>cases k with
  |number k _=>
   obtain⟨d,o,s⟩:=h;cases k with
   |mk f _ _=>
    have:=σ.inj (hle.r d) f;subst this;exact .number (.mk d o s) l
 |mapIter h s a n=>cases k with
  |mapIter k _ _ _=>
   cases h with
   |none=>cases k;exact .mapIter .none s a n
   |some h=>cases k with
    |some k=>
     have:=σ.inj (hle.r h) k;subst this;exact .mapIter (.some h) s a n
 |loop d f E z B F A e=>cases k with
  |loop i x q y r w m j=>
   have:=σ.inj (hle.r e) j;rw[this] at e;exact .loop i x q (bU.down hd H y b) r w m e
 |bI=>cases k;exact .bI
 |deferred=>cases k;exact .deferred
omit hd hx in
omit H in
theorem Ren.down{a : Nat}(h:ρ.r a X)(k:σ.r b X):ρ.r b X:=by
 have:=σ.inj (hle.r h) k;subst this;exact h
omit hd hx in
omit H in
theorem jP.down{P:Program}:∀{u v a:List Item},jP P ρ u a->jP P σ v a->jP P ρ v a
 |_,_,_,.nil,.nil=>.nil
 |_,_,_,.cons h hl,.cons k kl=>.cons (by
   cases h with
   |code c=>cases k;exact .code c
   |inBlock id=>cases k;exact .inBlock id
   |inLoop c=>cases k;exact .inLoop c
   |inScope c=>cases k;exact .inScope c
   |inRegion h l=>cases k with
    |inRegion k _=>exact .inRegion k l
   |inRangeFunc h=>cases k with
    |inRangeFunc k=>exact .inRangeFunc (Ren.down hle h k)
   |endRangeFunc h=>cases k with
    |endRangeFunc k=>exact .endRangeFunc (Ren.down hle h k)
   |beginRound=>cases k;exact .beginRound) (jP.down hl kl)
omit hd hx in
omit H in
theorem CDs.down:∀{u v a:List Deferred},CDs ρ u a->CDs σ v a->CDs ρ v a
 |_,_,_,.nil,.nil=>.nil
 |_,_,_,.cons h hl,.cons k kl=>.cons (Ren.down hle h k) (CDs.down hl kl)
omit hd hx in
omit H in
theorem NR.aBw{u v v':Option Nat}(h:NR ρ u v')(k:NR σ v v'):NR ρ v v':=by
 cases h with
 |none=>cases k;exact .none
 |some h=>cases k with
  |some k=>exact .some (Ren.down hle h k)
omit hx in
theorem FrR.down{u v v':Frame}(h:FrR P ρ u v')(k:FrR P σ v v')(a:mxL v'.tmps.toList<=D):FrR P ρ v v':=
 ⟨k.fn,bU.down hd H k.tmps a,jP.down hle h.todo k.todo,CDs.down hle h.defers k.defers,k.mode,k.kind,NR.aBw hle h.round k.round⟩
omit hx in
theorem iV.down{P:Program}:∀{u v a:List Frame},iV P ρ u a->iV P σ v a->amn a<=D->iV P ρ v a
 |_,_,_,.one h h0,.one k k0,hb=>.one (FrR.down hd H hle h k (by simp only[amn] at hb;omega)) k0
 |_,_,_,.cons h b,.cons k kl,hb=>.cons (FrR.down hd H hle h k (by simp only[amn] at hb;omega)) (iV.down b kl (by simp only[amn] at hb;omega))
 |_,_,_,.one h h0,.cons k kl,_=>by cases kl
 |_,_,_,.cons h b,.one k k0,_=>by cases b
end
end
section
open Go Go.Conc Go.ConcN Go.RowKit
def aBx:∀i,i<20->cV.getD i 0<45/\adb[i]?=some (aoi (cV.getD i 0) 0)/\cV.contains (cV.getD i 0)=true:=by
 intro i a;have:i=0\/i=1\/i=2\/i=3\/i=4\/i=5\/i=6\/i=7\/i=8\/i=9\/i=10\/i=11\/i=12\/i=13\/i=14\/i=15\/i=16\/i=17\/i=18\/i=19:=by omega
 rcases this with rfl|rfl|rfl|rfl|rfl|rfl|rfl|rfl|rfl|rfl|rfl|rfl|rfl|rfl|rfl|rfl|rfl|rfl|rfl|rfl<;>exact⟨by decide,rfl,rfl⟩
def aBy{t:Nat}(h:cV.contains t=true):∃i,i<20/\cV.getD i 0=t:=by
 have b:t∈cV:=by simpa using h
 obtain⟨i,a,c⟩:=wx.1 b;exact⟨i,a,by rw[sZ,jp a];exact c⟩
def ayS:∀i,i<20->∀j,j<20->cV.getD i 0=cV.getD j 0->i=j:=by decide
section
variable {X:Cx} {T:Array Value} {k:List Item} {w:World}
def At.awT:∀(m i:Nat) {T:Array Value},i+m=20->At X T (.inRegion adb (List.range' i m)::k) w->(∀j,j<i->T.getD (cV.getD j 0) undef=.int .i64 0)->
  ∃T',At X T' (.inRegion adb []::k) w/\(∀j,j<20->T'.getD (cV.getD j 0) undef=.int .i64 0)/\Tm cV T T'
 |0,i,T,e,h,hd=>⟨T,h,λj u=>hd j (by omega),.refl _ _⟩
 |m+1,i,T,e,h,hd=>by
  have l:i<20:=by omega
  obtain⟨x,o,q⟩:=aBx i l;rw[List.range'_succ] at h;obtain⟨v,z,A,⟨t,y⟩,n,s,h⟩:=h.jD (d:=cV.getD i 0) (Φ:=λv g=>v=.int .i64 0/\g=w) o rfl rfl x λB g p=>jC p;rw[t] at s;rw[y] at h;obtain⟨T',r,f,c⟩:=At.awT m (i+1) (by omega) h λj u=>by
   by_cases a:j=i
   .subst a;exact s
   .have b:cV.getD j 0≠cV.getD i 0:=λe=>a (ayS j (by omega) i l e);rw[n.same _ (by simpa using b)];exact hd j (by omega)
  exact⟨T',r,f,(n.sw q).trans c⟩
def At.last{C:Addr}(h:At X T (.code ajk::k) w)(r:T.getD 27 undef=.slice (some C) n n):∃T' m,AtL X T' (.code cU::k) m/\(∀b,b<w.heap.size->m.heap[b]?=w.heap[b]?)/\w.heap.size<m.heap.size/\
  m.heap[w.heap.size]?=some (.cells #[.slice (some C) n n] 127 (0,0))/\T'.getD 17 undef=.slice (some C) n n/\T'.getD 8 undef=.pointer (some ⟨w.heap.size,0,none⟩)/\(∀t,cV.contains t=true->T'.getD t undef=.int .i64 0)/\Tm (8::17::cV) T T':=by
 unfold ajk at h;have h:=h.seq;replace h:=h.region (l:=[0,1,2]) rfl;obtain⟨v,G,H,⟨B,s⟩,L,a,F⟩:=h.jD (d:=17) (Φ:=λv g=>v=.slice (some C) n n/\g=w) rfl rfl rfl (by decide) λR g z=>let⟨v,P,Q,K⟩:=jC z;⟨v,P,Q.trans r,K⟩
 rw[B] at a;rw[s] at F;obtain⟨v,G,S,⟨B,s⟩,E,o,f⟩:=F.jD (d:=8) (Φ:=λv g=>v=.pointer (some ⟨w.heap.size,0,none⟩)/\g=w.alloc (.cells #[.slice none 0 0] 127)) rfl rfl rfl (by decide) λR g z=>by
  have:=(ary (faQ true) (w:=w) (e:=(FQ cF H (.inRegion aiD (1::[2]) :: .code (.seq (.region 59 adb false) cU)::k)).eval) (dst:=some 8) (ty:=0) (pos:= "") (af:=#[]) (gd:=none)).symm.trans z;cases this;exact⟨_,rfl,rfl,rfl⟩
 rw[B] at o;rw[s] at f;replace a:=(E.same 17 rfl).trans a;have q:(w.alloc (.cells #[.slice none 0 0] 127)).heap[w.heap.size]?=some (.cells #[.slice none 0 0] 127 (0,0)):=by
  show(w.heap.push _)[w.heap.size]?=_;rw[qZ]
 have I:=aoQ (faQ true) (dst:=none) (ty:=0) (pos:= "") (af:=#[]) (gd:=none) (w:=w.alloc (.cells #[.slice none 0 0] 127)) (A:=⟨w.heap.size,0,none⟩) (u:=.slice (some C) n n) (c0:=.slice none 0 0)
  (e:=(FQ cF S (.inRegion aiD (2::[]) :: .code (.seq (.region 59 adb false) cU)::k)).eval) (x:=.tmp 8) (y:=.tmp 17) ⟨_,_,_,rfl⟩ (by exact o) (by exact a) (fc q) (iD q)
 replace f:=(f.opk rfl rfl rfl I).jo.seq;replace f:=f.region (l:=List.range' 0 20) rfl;obtain⟨J,M,N,p⟩:=f.awT 20 0 (by rfl) (λj U=>by omega);refine⟨J,_,M.aAl,λb D=> ?_, ?_, ?_,(p.same 17 rfl).trans a,(p.same 8 rfl).trans o,λt c=> ?_, ?_⟩
 .rw[bu _ _ _ (by show w.heap.size≠b;omega)];exact rI w _ b D
 .rw[be,mx];omega
 .exact setRow q
 .obtain⟨i,O,rfl⟩:=aBy c;exact N i O
 .exact((L.mono λt c=>by simp at c;subst c;rfl).trans (E.mono λt c=>by simp at c;subst c;rfl)).trans (p.mono λt c=>by
   simp only[tI,rj];exact .inr (.inr c))
end
end
section
open Go Go.Conc Go.ConcN Go.RowKit
def asL{ρ:Ren}:∀(x y:List Value),x.length=y.length->(∀(i:Nat) u v,x[i]?=some u->y[i]?=some v->VR ρ u v)->bU ρ x y
 |[],[],_,_=>.nil
 |[],_::_,h,_=>by cases h
 |_::_,[],h,_=>by cases h
 |a::x,b::y,hs,h=>.cons (h 0 a b rfl rfl) (asL x y (by simpa using hs) λi u v c d=>h (i+1) u v (by simpa using c) (by simpa using d))
def amo(b:x.size=y.size)(h:∀(i:Nat) u v,x[i]?=some u->y[i]?=some v->VR ρ u v):dw ρ x y:=
 asL _ _ (by simpa using b) λi u v a c=>h i u v (by rw[<-fi];exact a) (by rw[<-fi];exact c)
def dw.at(h:dw ρ x y)(d:x[i]?=some u)(b:y[i]?=some v):VR ρ u v:=by
 obtain⟨e,a,c⟩:=bU.get h (i:=i) (v:=u) (by rw[fi];exact d);rw[fi,b] at a;cases a;exact c
abbrev T0F(a:Array Value):Array Value:=a++Array.replicate (45-a.size) undef
def avF :Frame.enter (ai true) cF Y .normal=FQ cF (T0F Y) [.code ki]:=by
 have a:(ai true).funcs[cF]?=some (qFA true):=acD true;unfold Frame.enter;rw[a];rfl
def amL(h:T[i]?=some v):T.getD i undef=v:=by
 rw[jn,h];rfl
def eI(w:World)(b:Nat):Prop:=∃c t z,w.heap[b]?=some (.cells c t z)
def lT{A:Addr}(a:w.cell? A=some v):eI w A.block:=by
 unfold World.cell? at a;cases b:w.heap[A.block]? with
 |none=>rw[b] at a;simp at a
 |some o=>
  rw[b] at a;cases o with
  |cells c t z=>exact⟨c,t,z,b⟩
  |_=>simp at a
def ayT:(gL.all λg=>g ==1||g ==2)=true:=by unfold gL;kernel_rfl
structure aBz (ρ:Ren) (a':Array Value) (w:World) (key:Int) (A:Option Addr) (n c:Nat) (l:List iR) (A2:Option Addr) (n2 c2:Nat) (dH:List Int):Prop where
 s0:(T0F a').getD 0 undef=.int .i64 key
 k1:1<=key
 k2:key<=99
 s1:(T0F a').getD 1 undef=.slice A n c
 nc:n<=c
 cm:(c:Int)<=9223372036854775807
 ln:l.length=n
 rd:RdP w A 0 l
 rg:∀i x,l[i]?=some x->∀a b m e,A=some a->w.cell? ((a.add (i*2)).add 1)=some (.slice (some b) m e)->∃y,ρ.r y b.block
 s2:(T0F a').getD 2 undef=.slice A2 n2 c2
 n2m:(n2:Int)<=2147483647
 n2c:n2<=c2
 c2m:(c2:Int)<=9223372036854775807
 nn:dH.length=n2
 nm:∀i nm,dH[i]?=some nm->aid w A2 i nm
 gl:∀g∈gL,eI w g
 al:∀a,A=some a->∃b,ρ.r b a.block
 al2:∀a,A2=some a->∃b,ρ.r b a.block
def aaA(t:Nat):Bool:=t ==12||t ==14||decide (29<=t)
def amp{l:List Nat}{t:Nat}(h:(l.all λx=>decide (x<29))=true)(c:29<=t):l.contains t=false:=by
 cases b:l.contains t with
 |false=>rfl
 |true=>
  have a:t∈l:=by simpa using b
  have:=lP.1 h t a;simp only[rb] at this;omega
def asM{t:Nat}(h:aaA t=true):mH.contains t=false/\cV.contains t=false/\(8::17::cV).contains t=false/\t≠8/\t≠17:=by
 simp only[aaA,rj,oE,rb] at h;rcases h with(rfl|rfl)|h
 .exact⟨rfl,rfl,rfl,by decide,by decide⟩
 .exact⟨rfl,rfl,rfl,by decide,by decide⟩
 .exact⟨amp rfl h,amp rfl h,amp rfl h,by omega,by omega⟩
def vM(h:i<T.size):T[i]?=some (T.getD i undef):=by
 rw[jn,gn h];rfl
def anD:∀{l:List Value} {i:Nat} {v:Value},l[i]?=some v->mxV v<=mxL l
 |[],i,v,h=>by simp at h
 |x::l,0,v,h=>by simp at h;subst h;simp only[mxL];omega
 |x::l,i+1,v,h=>by
  have:=anD (l:=l) (i:=i) (v:=v) (by simpa using h);simp only[mxL];omega
def anE(h:(T0F Y)[i]?=some v):mxV v<=mxL Y.toList:=by
 unfold T0F at h;rw[sX] at h;split at h
 .exact anD (i:=i) (by rw[fi];exact h)
 .rw[ui] at h;split at h
  .cases h;have:mxV undef=0:=by
    show mxV (.tuple ⟨[]⟩)=0;simp only[mxV,mxL]
   omega
  .cases h
def ahw.cells{B:Option Addr}{x:Int×ByteArray}(h:ahw w B i x)(k:∀A,w.cell? A=w'.cell? A):ahw w' B i x:=by
 obtain⟨⟨a,d,b,f⟩,c,e⟩:=h;exact⟨⟨a,d,(k _).symm.trans b,(k _).symm.trans f⟩,c,e⟩
def RdP.cells(h:RdP w A j l)(k:∀A,w.cell? A=w'.cell? A):RdP w' A j l:=λi x g=>by
 obtain⟨⟨a,B,c,o,d,f,n,q,m,p⟩,b⟩:=h i x g;exact⟨⟨a,B,c,o,(k _).symm.trans d,(k _).symm.trans f,n,q,m,λi y e=>(p i y e).cells k⟩,b⟩
def asN(w:World)(n:Nat):World:={w with heap:=w.heap++Array.replicate n (.deferred none)}
def aj1(w:World)(n:Nat)(h:b<w.heap.size):(asN w n).heap[b]?=w.heap[b]?:=by
 show(w.heap++_)[b]?=_;rw[rV h]
def apB(w:World)(n:Nat)(A:Addr):(asN w n).cell? A=w.cell? A:=by
 by_cases h:A.block<w.heap.size
 .exact gC (aj1 w n h)
 .unfold World.cell?;rw[qk (by omega:w.heap.size<=A.block)];have:(asN w n).heap[A.block]?=none\/(asN w n).heap[A.block]?=some (.deferred none):=by
   show(w.heap++_)[A.block]?=none\/(w.heap++_)[A.block]?=_;rw[sX,da (by omega),ui];split
   .exact .inr rfl
   .exact .inl rfl
  rcases this with e|e<;>rw[e]
def an6 (hF:eP Z) {c:Cfg}  {m m':List Frame} (c9:dw ρ a Y) (a8:iV (ai true) ρ m m') (hc:c.l=Frame.enter (ai true) cF a .normal::m)
  (F:WR ρ c.w w') (hg:GlR ρ) (hW:kh (ai true) R c) :
  ∃M A n cc l A2 E c2 dH c1,aBz ρ Y w' M A n cc l A2 E c2 dH/\iF (ai true) c1 c/\kh (ai true) R c1/\(∀b K,ρ.r b K->Rw c.w b->Rw c1.w b/\∀i u,ad5 u->c1.w.cell? ⟨b,i,none⟩=some u->c.w.cell? ⟨b,i,none⟩=some u)/\
   ∀(wr:World) (Q V:Nat) (cs:Array Value),(∀b K,ρ.r b K->wr.heap[K]?=w'.heap[K]?)->wr.ou=w'.ou->w'.heap.size<=wr.heap.size->w'.heap.size<=Q->w'.heap.size<=V->Q≠V->wr.heap[Q]?=some (.cells cs 140 (0,0))->cs.size=2*E->
    (∀i nm,dH[i]?=some nm->cs[2*i]?=some (.string (Z M l nm).1)/\cs[2*i+1]?=some (.bool (Z M l nm).2))->wr.heap[V]?=some (.cells #[.slice (some ⟨Q,0,none⟩) E E] 127 (0,0))->
    ∃p T2,ρ.Le p/\iV (ai true) p c1.l (FQ cF T2 [.code cU]::m')/\WR p c1.w wr/\(∀b K,p.r b K->ρ.r b K\/K=Q\/K=V)/\T2.size=(T0F Y).size/\(∀i,i<3->T2.getD i undef=(T0F Y).getD i undef)/\
     T2.getD 6 undef=.slice none 0 0/\T2.getD 7 undef=.bool false/\T2.getD 8 undef=.pointer (some ⟨V,0,none⟩)/\T2.getD 17 undef=.slice (some ⟨Q,0,none⟩) E E/\(∀i,aaA i=true->T2.getD i undef=(T0F Y).getD i undef):=by
 obtain⟨_,_,y,ys,e1,rfl⟩:=a8.ne';have br:45<=(T0F Y).size:=by simp only[T0F,sD,tk];omega
 obtain⟨D,c8,bb,ck,bR⟩:∃D,w'.heap.size<=D/\mxH w'.heap.toList<=D/\mxL Y.toList<=D/\amn (y::ys)<=D:=⟨w'.heap.size+(mxH w'.heap.toList+(mxL Y.toList+amn (y::ys))),by omega,by omega,by omega,by omega⟩;obtain⟨w,a3⟩:∃w,w=asN w' (D-w'.heap.size):=⟨_,rfl⟩;have b8:w.heap.size=D:=by
  rw[a3];show(w'.heap++_).size=D;rw[sD,tk];omega
 have b6:∀{b},b<w'.heap.size->w.heap[b]?=w'.heap[b]?:=λ{b} h=>by rw[a3];exact aj1 _ _ h
 have T:∀A,w.cell? A=w'.cell? A:=λA=>by rw[a3];exact apB _ _ _
 have bk:w.ou=w'.ou:=by rw[a3];rfl
 have ce:WR ρ c.w w:=⟨λ{b K} f=>by
  obtain⟨o,o',S,O,X⟩:=F.obj f;exact⟨o,o',S,(b6 (F.lt f).2).trans O,X⟩,F.os.trans bk.symm,F.lf.1,by rw[b8];exact ap F.lf.2 c8⟩
 have bq:FrR (ai true) ρ (Frame.enter (ai true) cF a .normal) (FQ cF (T0F Y) [.code ki]):=by rw[<-avF];exact aeW true c9
 have h0:At ⟨R,c,ρ,w,y,ys⟩ (T0F Y) [.code ki] w:=⟨br,c,ρ,.inl rfl,.refl _,by rw[hc];exact .cons bq a8,ce,hg,hW,Kept.refl _ _ _⟩;obtain⟨M,A,n,cc,l,T1,s0,k1,k2,⟨cz,bA⟩,⟨cw,ch⟩,s1,b3,aZ,hl,hp,hR,bT,m1,s6,s7,S⟩:=h0.head;obtain⟨A2,E,c2,ax,T2,s2,bf,bO,b5,b9,bt,ba,m2,dB,bw,c5,O⟩:=S.names;replace s2:=(m1.same 2 rfl).symm.trans s2;have bx:qd w (w.alloc (.cells ax 140)) E (([]:List Int).map (Z M l)):=by
  refine⟨λb f=>rI w _ b f,by rw[mx];omega,ax, ?_,ba,λi x I=>by simp at I⟩;show(w.heap.push _)[w.heap.size]?=_;rw[qZ]
 have g0:=λt (h:mH.contains t=false) (h':cV.contains t=false)=>(m2.same t h').trans (m1.same t h);obtain⟨dH,T3,w3,cm,bo,J,m3,bl,X⟩:=At.awS hF k1 k2 hl b3 aZ hp bf b5 E 0 (by omega) O.block.loop ((g0 0 rfl rfl).trans s0) ((g0 1 rfl rfl).trans s1) ((g0 2 rfl rfl).trans s2) dB bw c5 rfl (λi nm I=>by simp at I) bx;obtain⟨T4,w4,h4,aH,cq,bn,bN,s8,cb,m4⟩:=X.last bl;obtain⟨b7,bi,cn,bS⟩:=J.row;have a6:w4.heap[w.heap.size]?=some (.cells b7 140 (0,0)):=(aH _ J.lt).trans bi;have c7:∀b,b<w'.heap.size->w4.heap[b]?=w'.heap[b]?:=λb f=>((aH b (Nat.lt_trans (by omega) J.lt)).trans (J.low b (by omega))).trans (b6 f);have g1:=λt (h:mH.contains t=false) (h':cV.contains t=false) (bz:(8::17::cV).contains t=false)=>(m4.same t bz).trans ((m3.same t h').trans (g0 t h h'));have t6:T4.getD 6 undef=.slice none 0 0:=(m4.same 6 rfl).trans ((m3.same 6 rfl).trans ((m2.same 6 rfl).trans s6));have t7:T4.getD 7 undef=.bool false:=(m4.same 7 rfl).trans ((m3.same 7 rfl).trans ((m2.same 7 rfl).trans s7));have ao:T4.size=(T0F Y).size:=m4.size.trans (m3.size.trans (m2.size.trans m1.size));obtain⟨cy,c1,C,q,c6⟩:=h4;obtain⟨x,xs,_,_,ay,e2⟩:=q.st.ne';cases e2;have hq:=q.st;rw[ay] at hq;have U:=hq.head;have cf:iV (ai true) C xs (y::ys):=by cases hq with|cons _ h=>exact h
 have H:∀{a b:Nat},C.r a b->b<D->ρ.r a b:=λ{a b} h f=>(q.kept.new h).elim id λh=>by
  have:w.heap.size<=b:=h.2;omega
 have hd:C.dim=ρ.dim/\C.al=ρ.al:=⟨q.le.dim.symm,q.le.al.symm⟩;have aF:C.lax=ρ.lax:=q.le.lax.symm;have aR:∀{i:Nat} {P:Addr} {n m:Nat},i<(T0F Y).size->(T0F Y).getD i undef=.slice (some P) n m->Rgd ⟨R,c,ρ,w,y,ys⟩ P.block->∃b,ρ.r b P.block:=λ{i P n m} I e h=>h.elim id λh=>by
  have f:=anE (vM I);rw[e] at f;simp only[mxV,mxA] at f;have h':w.heap.size<=P.block:=h;omega
 refine⟨M,A,n,cc,l,A2,E,c2,dH,c1,⟨s0,k1,k2,s1,b3,aZ,hl,hp.cells T,λi x hx P b0 m0 e0 hA jb=> ?_,s2,b5,b9,bt,cm,λi nm I=> ?_,λg c4=> ?_,λP ad=> ?_,λP ad=> ?_⟩,c6,q.will,λb K f b4=>⟨(q.kept.poi f b4).1,λi u hu cd=>((q.kept.poi f b4).2 i u hu cd).1⟩,λwr Q V cs c0 bX bp ct cv af fV cr aU bI=> ?_⟩
 .-- an item's row
  subst hA;obtain⟨⟨a1,B,c3,f1,f2,f3,f4,f5,f6,f7⟩, -⟩:=hp i x hx;cases f1;rw[me] at f3;rw[<-T,f3] at jb;cases jb;obtain⟨z,hz⟩:∃z,x.2[0]?=some z:=⟨_,jp (by omega)⟩;obtain⟨⟨a2,cg,bL, -⟩, -⟩:=f7 0 z hz;cases cg;have a5:=eO bL;rw[rB] at a5;have I:i<n:=by rw[<-hl];exact(qv.1 hx).1
  rcases hR i I P b0 _ _ rfl f3 with h|h
  .exact h
  .have h':w.heap.size<=b0.block:=h;omega
 .obtain⟨P,f1,f2,f3⟩:=bo i nm I;exact⟨P,f1,(T _).symm.trans f2,f3⟩
 .have:=lP.1 ayT g c4;simp only[rj,oE] at this;rcases this with rfl|rfl
  .exact lT ((T _).symm.trans bA)
  .exact lT ((T _).symm.trans ch)
 .subst ad;exact aR (by omega) s1 (bT P rfl)
 .subst ad;exact aR (by omega) s2 (bO P rfl)
 have co:w'.heap.size<=w.heap.size:=by omega
 have cp:w.heap.size<w3.heap.size:=J.lt
 let p:Ren:={
  r:=λa b=>ρ.r a b\/(b=Q/\C.r a w.heap.size)\/(b=V/\C.r a w3.heap.size)
  lax:=ρ.lax
  dim:=ρ.dim
  al:=ρ.al
  fn:=λ{a b d} h k=>by
   rcases h with h|⟨rfl,h⟩|⟨rfl,h⟩<;>rcases k with k|⟨rfl,k⟩|⟨rfl,k⟩
   .exact ρ.fn h k
   .have:=C.fn (q.le.r h) k;have:=(F.lt h).2;omega
   .have:=C.fn (q.le.r h) k;have:=(F.lt h).2;omega
   .have:=C.fn (q.le.r k) h;have:=(F.lt k).2;omega
   .rfl
   .have:=C.fn h k;omega
   .have:=C.fn (q.le.r k) h;have:=(F.lt k).2;omega
   .have:=C.fn h k;omega
   .rfl
  inj:=λ{a b d} h k=>by
   rcases h with h|⟨rfl,h⟩|⟨rfl,h⟩<;>rcases k with k|⟨e,k⟩|⟨e,k⟩
   .exact ρ.inj h k
   .have:=(F.lt h).2;omega
   .have:=(F.lt h).2;omega
   .have:=(F.lt k).2;omega
   .exact C.inj h k
   .exact absurd e af
   .have:=(F.lt k).2;omega
   .exact absurd e.symm af
   .exact C.inj h k
  lf:=λ{a b} h=>by
   have:=F.lf.2;rcases h with h|⟨rfl,h⟩|⟨rfl,h⟩
   .exact ρ.lf h
   .have:=C.lf h;omega
   .have:=C.lf h;omega}
 have a4:ρ.Le p:=⟨.inl,rfl,rfl,rfl⟩;have down:∀{u v:Value},VR C u v->mxV v<=D->VR p u v:=λh f=>(VR.down hd H h f).mono a4;have aJ:∀{u:Value},VR C u (.slice (some ⟨w.heap.size,0,none⟩) E E)->VR p u (.slice (some ⟨Q,0,none⟩) E E):=λ{u} h=>by
  cases h with
  |slice hA=>cases hA with
   |some hA=>cases hA with
    |mk h o s=>exact .slice (.some (.mk (Or.inr (Or.inl ⟨rfl,h⟩)) 0 none)) _ _
  |fQ hl _=>exact .fQ (hd.1▸hl) rfl
 have ca:∀{u:Value},VR C u (.pointer (some ⟨w3.heap.size,0,none⟩))->VR p u (.pointer (some ⟨V,0,none⟩)):=λ{u} h=>by
  cases h with
  |pointer hA=>cases hA with
   |some hA=>cases hA with
    |mk h o s=>exact .pointer (.some (.mk (Or.inr (Or.inr ⟨rfl,h⟩)) 0 none))
  |fQ hl _=>exact .fQ (hd.1▸hl) rfl
 have zr:∀{n:Nat} {z z':Nat×Nat},ZR C n z z'->ZR p n z z':=λh=>by
  unfold ZR at h ⊢;rw[aF] at h;exact h
 have bg:b7=cs:=by
  apply sR;intro i;rcases pr i (2*E) with I|I
  .obtain⟨j,hj⟩:∃j,i=2*j\/i=2*j+1:=⟨i / 2,by omega⟩;obtain⟨nm,a0⟩:∃nm,dH[j]?=some nm:=⟨_,jp (by omega)⟩;have b1:=bS j (Z M l nm) (by rw[qO,a0];rfl);have b2:=aU j nm a0;rcases hj with rfl|rfl
   .rw[b1.1,b2.1]
   .rw[b1.2,b2.2]
  .rw[qk (by omega),qk (by omega)]
 refine⟨p,(T4.setIfInBounds 17 (.slice (some ⟨Q,0,none⟩) E E)).setIfInBounds 8 (.pointer (some ⟨V,0,none⟩)),a4, ?_,⟨λ{b K} f=> ?_, ?_, ?_, ?_⟩, ?_,by simpa using ao,λi I=> ?_, ?_, ?_, ?_, ?_,λi I=> ?_⟩
 .-- frames
  rw[ay];refine .cons ⟨U.fn, ?_, ?_, ?_,U.mode,U.kind, ?_⟩ ((iV.down hd H q.le (e1▸a8) cf bR).mono a4)
  .refine amo (by simp only[Array.size_setIfInBounds];exact bU.size U.tmps) λi u v hu G=> ?_;by_cases i8:i=8
   .subst i8;rw[qh (by simp;omega)] at G;cases G;exact ca (dw.at U.tmps hu (by rw[<-s8];exact vM (by show 8<T4.size;omega)))
   rw[kw (λe=>i8 e.symm)] at G;by_cases a7:i=17
   .subst a7;rw[qh (by omega)] at G;cases G;exact aJ (dw.at U.tmps hu (by rw[<-bN];exact vM (by show 17<T4.size;omega)))
   rw[kw (λe=>a7 e.symm)] at G;have N:VR C u v:=dw.at U.tmps hu G;have L:=amL G;cases W:cV.contains i with
   |true=>
    rw[cb i W] at L;subst L;exact down N (by simp only[mxV];omega)
   |false=>
    by_cases i6:i=6
    .subst i6;rw[t6] at L;subst L;exact down N (by simp only[mxV,mxA];omega)
    by_cases i7:i=7
    .subst i7;rw[t7] at L;subst L;exact down N (by simp only[mxV];omega)
    have ci:(T0F Y).getD i undef=v:=by
     rw[<-L];exact(g1 i (by simp only[mH,tI,W];simp[i6,i7]) W (by simp only[tI,W];simp[i8,a7])).symm
    have aa:(T0F Y)[i]?=some v:=by
     have a5:i<(T0F Y).size:=by rw[<-ao];exact(dl.1 G).1
     rw[<-ci];exact vM a5
    exact down N (ap (anE aa) ck)
  .have ht:=U.todo;generalize x.todo=td at ht ⊢;cases ht with
   |cons S O=>cases S;cases O;exact .cons (.code _) .nil
  .have ht:=U.defers;generalize x.defers=td at ht ⊢;cases ht;exact .nil
  .have ht:=U.round;generalize x.roundOf=td at ht ⊢;cases ht;exact .none
 .-- objects
  rcases f with f|⟨rfl,f⟩|⟨rfl,f⟩
  .obtain⟨o,o',S,O,X⟩:=q.wr.obj (q.le.r f);obtain⟨u,u',k1,k2,k3⟩:=F.obj f;have e:=c7 K (F.lt f).2;rw[O,k2] at e;cases e;exact⟨o,o',S,(c0 _ _ f).trans k2,(OR.down hd H aF q.le k3 X (ap (anC (i:=K) (by rw[fi];exact k2)) bb)).mono a4⟩
  .obtain⟨o,o',S,O,X⟩:=q.wr.obj f;rw[a6] at O;cases O;cases X with
   |@cells cl _ jb _ z _ a9=>
    refine⟨_,_,S,fV, ?_⟩;subst bg;refine .cells (amo (by simpa using jb.length) λi u v hu G=> ?_) _ (zr a9);have N:=dw.at jb hu G;obtain⟨j,hj⟩:∃j,i=2*j\/i=2*j+1:=⟨i / 2,by omega⟩;have I:=(dl.1 G).1;obtain⟨nm,a0⟩:∃nm,dH[j]?=some nm:=⟨_,jp (by omega)⟩;have b2:=aU j nm a0;rcases hj with rfl|rfl
    .rw[b2.1] at G;cases G;exact down N (by simp only[mxV];omega)
    .rw[b2.2] at G;cases G;exact down N (by simp only[mxV];omega)
  .obtain⟨o,o',S,O,X⟩:=q.wr.obj f;rw[bn] at O;cases O;cases X with
   |@cells cl _ jb _ z _ a9=>
    refine⟨_,_,S,bI,.cells (amo (by simpa using jb.length) λi u v hu G=> ?_) _ (zr a9)⟩;have I:=(dl.1 G).1;have aa:i=0:=by simpa using I
    subst aa;cases G;exact aJ (dw.at jb hu rfl)
 .exact q.kept.os.1.trans (F.os.trans bX.symm)
 .exact ap F.lf.1 q.kept.size
 .exact ap F.lf.2 bp
 .rintro b K (h|⟨rfl,_⟩|⟨rfl,_⟩)
  .exact .inl h
  .exact .inr (.inl rfl)
  .exact .inr (.inr rfl)
 .rw[aI (by simp;omega),da (by omega),aI (by omega),da (by omega)];have:i=0\/i=1\/i=2:=by omega
  rcases this with rfl|rfl|rfl
  .exact g1 0 rfl rfl rfl
  .exact g1 1 rfl rfl rfl
  .exact g1 2 rfl rfl rfl
 .rw[aI (by simp;omega),da (by decide),aI (by omega),da (by decide)];exact t6
 .rw[aI (by simp;omega),da (by decide),aI (by omega),da (by decide)];exact t7
 .rw[aI (by simp;omega),eg rfl]
 .rw[aI (by simp;omega),da (by decide),aI (by omega),eg rfl]
 .obtain⟨i1,i2,i3,i4,i5⟩:=asM I;have e:((T4.setIfInBounds 17 (.slice (some ⟨Q,0,none⟩) E E)).setIfInBounds 8 (.pointer (some ⟨V,0,none⟩))).getD i undef=T4.getD i undef:=by
   rw[aI (by simp;omega),da i4,aI (by omega),da i5]
  exact e.trans (g1 i i1 i2 i3)
end
section
open Go Go.Conc Go.ConcN Go.RowKit
def plV(V:Nat->Prop):Value->Prop
 |.int k _=>k ≠ .u8
 |.string _=>True
 |.slice (some a) _ _=>V a.block
 |_=>False
def asP:Value->Bool
 |.func (.method _) _ _=>true
 |_=>false
mutual
def afp:Value->List Value
 |.agg ⟨l⟩=>qf l
 |.tuple ⟨l⟩=>qf l
 |v=>if asP v then[v] else[]
def qf:List Value->List Value
 |[]=>[]
 |v::l=>afp v++qf l
end
def agB:∀{l:List Value} {i:Nat} {v x:Value},l[i]?=some v->x∈afp v->x∈qf l
 |[],i,v,x,h,_=>by simp at h
 |y::l,0,v,x,h,hx=>by simp at h;subst h;simp only[qf];exact uT _ hx
 |y::l,i+1,v,x,h,hx=>by simp only[qf];exact sV _ (agB (i:=i) (by simpa using h) hx)
def aBB:Obj->List Value
 |.cells c _ _=>qf c.toList
 |_=>[]
def fh(w:World):List Value:=w.heap.toList.flatMap aBB
def af1{c:Array Value}{x : Value}(a:w.heap[b]?=some (.cells c t z))(hi:c[i]?=some v)(d:x∈afp v):x∈fh w:=
 sK.2 ⟨.cells c t z,de (i:=b) (by rw[fi];exact a),by
  show x∈qf c.toList;exact agB (i:=i) (by rw[fi];exact hi) d⟩
section
variable {ρ:Ren} (hl:ρ.dim=true)
include hl
mutual
theorem axh:∀(v:Value),(∀x∈afp v,∃k,ρ.al k=some x)->∃u,VR ρ u v/\(∀k,u ≠ .int .u8 k)/\(ad5 u\/∀(g:Ren) d,g.al=ρ.al->VR g u d->d=v)
 |.bool b,_=>⟨_,.bool b,(λk e=>by cases e),.inr λg d _ h=>by cases h;rfl⟩
 |.int k n,_=>⟨_,.fQ hl rfl,(λk e=>by cases e),.inl (.inl ⟨_,rfl⟩)⟩
 |.float k n,_=>⟨_,.fQ hl rfl,(λk e=>by cases e),.inl (.inl ⟨_,rfl⟩)⟩
 |.complex k n m,_=>⟨_,.fQ hl rfl,(λk e=>by cases e),.inl (.inl ⟨_,rfl⟩)⟩
 |.string s,_=>⟨_,.string s,(λk e=>by cases e),.inr λg d _ h=>by cases h;rfl⟩
 |.pointer none,_=>⟨_,.pointer .none,(λk e=>by cases e),.inr λg d _ h=>by cases h with|pointer h=>cases h;rfl⟩
 |.pointer (some a),_=>⟨_,.fQ hl rfl,(λk e=>by cases e),.inl (.inl ⟨_,rfl⟩)⟩
 |.slice a l c,_=>⟨_,.fQ hl rfl,(λk e=>by cases e),.inl (.inl ⟨_,rfl⟩)⟩
 |.map a,_=>⟨_,.fQ hl rfl,(λk e=>by cases e),.inl (.inl ⟨_,rfl⟩)⟩
 |.chan a,_=>⟨_,.fQ hl rfl,(λk e=>by cases e),.inl (.inl ⟨_,rfl⟩)⟩
 |.func (.func f) a c,_=>⟨_,.fQ hl rfl,(λk e=>by cases e),.inl (.inl ⟨_,rfl⟩)⟩
 |.func (.methodOf t f) a c,_=>⟨_,.fQ hl rfl,(λk e=>by cases e),.inl (.inl ⟨_,rfl⟩)⟩
 |.func (.via t p f q) a c,_=>⟨_,.fQ hl rfl,(λk e=>by cases e),.inl (.inl ⟨_,rfl⟩)⟩
 |.func (.yield f) a c,_=>⟨_,.fQ hl rfl,(λk e=>by cases e),.inl (.inl ⟨_,rfl⟩)⟩
 |.func (.method n) a c,hm=>by
  obtain⟨k,z⟩:=hm (.func (.method n) a c) (by simp[afp,asP]);refine⟨_,.abp k z,(λk e=>by cases e),.inr λg d B h=> ?_⟩;generalize j:anI k=u at h;cases h with
  |abp D y=>
   have e:k=D:=by
    unfold anI at j;injection j with _ _ A
    have:=jt Array.size A;simpa using this
   subst e;rw[B,z] at y;exact(dq y).symm
  |func o _ _=>
   unfold anI at j;injection j with C _ _
   subst C;cases o with
   |same f o=>cases o
  |_=>unfold anI at j;cases j
 |.nilFunc,_=>⟨_,.nilFunc,(λk e=>by cases e),.inr λg d _ h=>by cases h;rfl⟩
 |.iface t v,_=>⟨_,.fQ hl rfl,(λk e=>by cases e),.inl (.inl ⟨_,rfl⟩)⟩
 |.nilIface,_=>⟨_,.nilIface,(λk e=>by cases e),.inr λg d _ h=>by cases h;rfl⟩
 |.agg ⟨l⟩,hm=>by
  obtain⟨r,i⟩:=ayW l λx w=>hm x (by simpa only[afp] using w);exact⟨.agg ⟨r⟩,.agg i,(λk e=>by cases e),.inl (.inr ⟨_,rfl⟩)⟩
 |.tuple ⟨l⟩,hm=>by
  obtain⟨r,i⟩:=ayW l λx w=>hm x (by simpa only[afp] using w);exact⟨.tuple ⟨r⟩,.tuple i,(λk e=>by cases e),.inl (.inl ⟨_,rfl⟩)⟩
theorem ayW:∀(l:List Value),(∀x∈qf l,∃k,ρ.al k=some x)->∃a,bU ρ a l
 |[],_=>⟨[],.nil⟩
 |v::l,hm=>by
  obtain⟨x,c,_⟩:=axh v λx b=>hm x (by simp only[qf];exact uT _ b);obtain⟨a,d⟩:=ayW l λx b=>hm x (by simp only[qf];exact sV _ b);exact⟨x::a,.cons c d⟩
end
end
def aiu(L:List Value)(k:Nat):Option Value:=L[k]?
def aiv{L:List Value}{x:Value}(h:x∈L):∃k,aiu L k=some x:=by
 obtain⟨k,a,e⟩:=wx.1 h;exact⟨k,by unfold aiu;rw[jp a,e]⟩
def akD{ρ:Ren}{Q:Nat->Value->Value->Prop}:∀(l:List Value) (j:Nat),(∀i v,l[i]?=some v->∃u,VR ρ u v/\Q (j+i) u v)->∃d,bU ρ d l/\∀i v,l[i]?=some v->∃u,d[i]?=some u/\Q (j+i) u v
 |[],_,_=>⟨[],.nil,λi v h=>by simp at h⟩
 |v::l,j,h=>by
  obtain⟨u,m,e⟩:=h 0 v rfl;obtain⟨d,f,k⟩:=akD l (j+1) λi x c=>by
   obtain⟨u,a,b⟩:=h (i+1) x (by simpa using c);exact⟨u,a,by rwa [show j+1+i=j+(i+1) by omega]⟩
  refine⟨u::d,.cons m f,λi x c=> ?_⟩;cases i with
  |zero=>simp at c;subst c;exact⟨u,rfl,e⟩
  |succ i=>
   obtain⟨g,a,b⟩:=k i x (by simpa using c);exact⟨g,by simpa using a,by rwa [show j+1+i=j+(i+1) by omega] at b⟩
def Ren.rows(V:Nat->Prop)(lax:Bool)(L:List Value):Ren where
 r a b:=a=b/\V a
 lax:=lax
 dim:=true
 al:=aiu L
 fn:=λh k=>h.1.symm.trans k.1
 inj:=λh k=>h.1.trans k.1.symm
 lf:=λh=>by rw[h.1]
def avZ{V:Nat->Prop}(w:World)(F:∀b,V b->Obj):∃a:Array Obj,a.size=w.heap.size/\(∀b (h:V b),b<w.heap.size->a[b]?=some (F b h))/\∀b,¬V b->a[b]?=w.heap[b]?:=by
 classical
 refine⟨Array.ofFn λi:Fin w.heap.size=>if h:V i.1 then F i.1 h else w.heap[i],by simp,λb h c=> ?_,λb h=> ?_⟩
 .rw[wM,tX c];simp only[tX h]
 .rw[wM];by_cases c:b<w.heap.size
  .rw[tX c,gn c];simp only[dif_neg h];rfl
  .rw[dif_neg c,qk (by omega)]
def mask{V:Nat->Prop}(hV:∀b,V b->eI w b)(T:∀g∈gL,V g)(hN:gN<=w.heap.size) :
  ∃D:World,WR (Ren.rows V true (fh w)) D w/\GlR (Ren.rows V true (fh w))/\D.heap.size=w.heap.size/\(∀b,V b->bJ D b/\NoB D b)/\∀A v,w.cell? A=some v->V A.block->plV V v->D.cell? A=some v:=by
 classical
 have m:∀b,V b->∃(c:Array Value) (t:TypeId) (z:Nat×Nat) (d:List Value),w.heap[b]?=some (.cells c t z)/\bU (Ren.rows V true (fh w)) d c.toList/\∀(i:Nat) v,c.toList[i]?=some v->∃u,d[i]?=some u/\((∀k,u ≠ .int .u8 k)/\(plV V v->u=v)):=λb f=>by
  obtain⟨c,t,z,q⟩:=hV b f;obtain⟨d,E,I⟩:=akD (ρ:=Ren.rows V true (fh w)) (Q:=λ_ u v=>(∀k,u ≠ .int .u8 k)/\(plV V v->u=v)) c.toList 0 λi v M=>by
   by_cases C:plV V v
   .cases v with
    |int k n=>exact⟨_,.int k n,(λk' e=>by cases e;exact C rfl),λ_=>rfl⟩
    |string s=>exact⟨_,.string s,(λk e=>by cases e),λ_=>rfl⟩
    |slice a l c=>cases a with
     |none=>exact C.elim
     |some a=>
      obtain⟨b,o,s⟩:=a;have Y:(Ren.rows V true (fh w)).r b b:=⟨rfl,C⟩;exact⟨_,.slice (.some (.mk Y o s)) l c,(λk e=>by cases e),λ_=>rfl⟩
    |_=>exact C.elim
   .obtain⟨u,E,I, -⟩:=axh (ρ:=Ren.rows V true (fh w)) rfl v λx hx=>aiv (af1 q (i:=i) (by rw[<-fi];exact M) hx);exact⟨u,E,I,λh=>absurd h C⟩
  exact⟨c,t,z,d,q,E,I⟩
 let F:∀b,V b->Obj:=λb f=>.cells ⟨(m b f).choose_spec.choose_spec.choose_spec.choose⟩ (m b f).choose_spec.choose (0,max ((m b f).choose.size+1) (m b f).choose_spec.choose_spec.choose.2)
 have X:∀b (f:V b),∃(c:Array Value) (t:TypeId) (z:Nat×Nat) (d:List Value),w.heap[b]?=some (.cells c t z)/\bU (Ren.rows V true (fh w)) d c.toList/\(∀(i:Nat) v,c.toList[i]?=some v->∃u,d[i]?=some u/\((∀k,u ≠ .int .u8 k)/\(plV V v->u=v)))/\F b f=.cells ⟨d⟩ t (0,max (c.size+1) z.2):=λb f=>
  let h:=(m b f).choose_spec.choose_spec.choose_spec.choose_spec
  ⟨_,_,_,_,h.1,h.2.1,h.2.2,rfl⟩
 obtain⟨heap,Z,E,I⟩:=avZ w F;have B:∀b,V b->∃(c:Array Value) (t:TypeId) (z:Nat×Nat) (d:List Value),w.heap[b]?=some (.cells c t z)/\heap[b]?=some (.cells ⟨d⟩ t (0,max (c.size+1) z.2))/\bU (Ren.rows V true (fh w)) d c.toList/\∀(i:Nat) v,c.toList[i]?=some v->∃u,d[i]?=some u/\((∀k,u ≠ .int .u8 k)/\(plV V v->u=v)):=λb f=>by
  obtain⟨c,t,z,d,r,p,y,H⟩:=X b f;exact⟨c,t,z,d,r,(E b f (dl.1 r).1).trans (jt some H),p,y⟩
 refine⟨{w with heap},⟨λ{b b'} f=> ?_,rfl,by show gN<=heap.size;omega,hN⟩,λg U=>⟨rfl,T g U⟩,Z,λb f=> ?_,λA v q W C=> ?_⟩
 .obtain⟨rfl,f⟩:=f;obtain⟨c,t,z,d,r,p,y, -⟩:=B b f;have j:=y.length;refine⟨_,_,p,r,.cells y t (.inr ⟨rfl,rfl, ?_,.inr ?_⟩)⟩
  .show d.length<max _ _;simp at j;omega
  .show z.2<=max _ _;omega
 .obtain⟨c,t,z,d,r,p,y,H⟩:=B b f;have j:=y.length;simp at j;refine⟨⟨_,_,_,p,rfl, ?_, ?_⟩,λP R S K i k e=> ?_⟩
  .show d.length<=max _ _;omega
  .show 0<max _ _;omega
  .have:heap[b]?=some (.cells P R S):=K;rw[p] at this;cases this;have M:i<c.toList.length:=by
    have:=(dl.1 e).1;simp at this ⊢;omega
   obtain⟨u,L,N, -⟩:=H i _ (jp M);have O:d[i]?=some (.int .u8 k):=by simpa using e
   rw[L] at O;exact N k (dq O)
 .obtain⟨c,t,z,d,r,p,y,H⟩:=B A.block W;have J:({w with heap}:World).heap[A.block]?=some (.cells ⟨d⟩ t (0,max (c.size+1) z.2)):=p;unfold World.cell? at q ⊢;rw[J];rw[r] at q;cases G:A.spot with
  |some s=>simp[G] at q
  |none=>
   simp[G] at q ⊢;obtain⟨u,L, -,N⟩:=H A.off v (by rw[fi];exact q);rw[L,N C]
end
section
open Go Go.Conc Go.ConcN Go.RowKit
def px(Rr:au)(S S':au)(w w':World)(es:Array Event):Prop:=
 (∀b,b<w.heap.size->¬S b->w'.heap[b]?=w.heap[b]?)/\w.heap.size<=w'.heap.size/\w'.ou=w.ou/\S'=(λb=>S b\/(w.heap.size<=b/\b<w'.heap.size))/\∀e∈es,ng S' Rr w'.heap.size e
structure pw (Rl:au->World->World->Prop) (Rr:au):Prop where
 fU:∀S w,Rl S w w
 tr:∀S a b c,Rl S a b->Rl S b c->Rl S a c
 rl:∀S w w1,Rl S w w1->(∀b,S b\/Rr b->w1.heap[b]?=w.heap[b]?)/\w.heap.size<=w1.heap.size/\w1.ou=w.ou
def pw.cmp{Rl:au->World->World->Prop}(h:pw Rl Rr):Cmp Rl (px Rr) Rr:=⟨h.fU,h.tr,h.rl,λ_ _ _ _ a b c d=>⟨a,b,c,rfl,d⟩⟩
section
variable {P:Program} {main:Bool} {Rl:au->World->World->Prop} {Gr Gr2:au->au->World->World->Array Event->Prop} {Stop afY:au->Goroutine->World->Prop} {Inv:au->World->Prop}
def GoT.inv(i:∀S w a,Inv S w->Rl S w a->Inv S a)(k:∀S d w c e,Inv S w->Gr S d w c e->Gr2 S d w c e/\Inv d c)(j:∀S g w,Stop S g w->Inv S w->afY S g w):∀{T:jI} {S:au} {g:Goroutine} {w:World},GoT P main Rl Gr Stop T S g w->Inv S w->GoT P main Rl Gr2 afY T S g w
 |.leaf,_,_,_,h,hi=>λa b=>j _ _ _ (h a b) (i _ _ _ hi b)
 |.node f,_,_,_,h,hi=>Or.imp (λh a b=>j _ _ _ (h a b) (i _ _ _ hi b)) (λx=>⟨x.1,λa b=>
   let⟨q,c,e,d,o,l,m⟩:=x.2 a b
   let⟨n,p⟩:=k _ _ _ _ _ (i _ _ _ hi b) l
   ⟨q,c,e,d,o,n,GoT.inv i k j m p⟩⟩) h
def bK.inv(f:∀S w c,Inv S w->Rl S w c->Inv S c)(i:∀S a w b d,Inv S w->Gr S a w b d->Gr2 S a w b d/\Inv a b)(e:∀S g w,Stop S g w->Inv S w->afY S g w)(h:bK P main Rl Gr Stop S g w)(hi:Inv S w):bK P main Rl Gr2 afY S g w:=
 let⟨T,h⟩:=h;⟨T,GoT.inv f i e h hi⟩
end
def amq   :(Frame.enter P f a .normal).mode=.run:=by
 unfold Frame.enter;cases P.funcs[f]?<;>rfl
def apC{c:Cfg}{m:List Frame}(q:kh (ai false) R c)(i:c.l=Frame.enter (ai false) cF a .normal::m):False:=by
 obtain⟨n,t,s,d,f, -⟩:=q c.t λ_ _ _=>rfl;have b:c.l≠[]:=by rw[i];simp
 cases n with
 |zero=>
  simp only[runN,qQ] at d;obtain⟨e, -⟩:=ik d;obtain rfl:=nK b f.ne e;obtain⟨u,l,p, -⟩:=f;rw[i] at l;cases l;rw[amq] at p;cases p
 |succ n=>
  unfold runN at d;have r:Frame.enter (ai false) cF a .normal=⟨cF,T0F a,[.code (.refuse "")],[],.run,.normal,none⟩:=by
   have f:(ai false).funcs[cF]?=some (qFA false):=acD false;unfold Frame.enter;rw[f];rfl
  have g:∃o j k,stepG (ai false) true (Gl c.l [kq (ai false)]) (c.w.dV c.t)=.ended o j k:=by
   rw[i,r];simp only[Gl,stepG,stepG.exec];exact⟨_,_,_,rfl⟩
  obtain⟨o,j,k,g⟩:=g;rw[cG (jz b _) g] at d;cases d
def aBC:kH (λ_=>false) (f139.body.getD .skip)=false:=by kernel_rfl
def aBD:kH (λ_=>false) (f57.body.getD .skip)=false:=by kernel_rfl
def adv{fn:Func}(h:prog.funcs[f]?=some fn)(b:fn.body.isSome=true)(a:Array Value):(Frame.enter prog f a .normal).todo=[.code (fn.body.getD .skip)]:=by
 unfold Frame.enter;rw[h];obtain⟨c,d⟩:=rF.1 b;simp[d]
def avW(d:kH U (f139.body.getD .skip)=false)(c:kH U (f57.body.getD .skip)=false):∀f,gH f=true->∀a,(Frame.enter prog f a .normal).todo.all (mo U)=false:=λf b a=>by
 rcases xE b with rfl|rfl
 .rw[adv func57 amS];simp only[qF,vQ,uD,mo];exact c
 .rw[adv func139 amR];simp only[qF,vQ,uD,mo];exact d
def ahX:gH 79=false:=by unfold gH;kernel_rfl
def aip{A:Addr}{c:Array Value}(h:w.heap[A.block]?=some (.cells c t z))(a:w.cell? A=some v):c[A.off]?=some v:=by
 unfold World.cell? at a;rw[h] at a;cases b:A.spot with
 |some s=>simp[b] at a
 |none=>simpa[b] using a
def RgP(Rg:Nat->Prop)(w:World)(A:Option Addr)(l:List iR):Prop:=∀i x,l[i]?=some x->∀a b m e,A=some a->w.cell? ((a.add (i*2)).add 1)=some (.slice (some b) m e)->Rg b.block
def RgP.move(h:RgP Rg w A l)(j:∀a,A=some a->Rg a.block)(d:∀b,Rg b->w'.heap[b]?=w.heap[b]?):RgP Rg w' A l:=λi x f a b m e c g=>
 h i x f a b m e c ((gC (by rw[rB,rB];exact d _ (j a c))).symm.trans g)
def RdP.mask    (h:RdP w A 0 l) (C:RgP Rg w A l) (q:∀a,A=some a->Rg a.block)
  (f:∀A v,w.cell? A=some v->Rg A.block->plV (λb=>Rg b/\eI w b) v->w'.cell? A=some v):RdP w' A 0 l:=λi x r=>by
 obtain⟨⟨a,B,c,g,u,n,D,E,H,p⟩,F⟩:=h i x r;have o:∀b,B=some b->Rg b.block:=λb z=>by
  subst z;rw[me] at n;exact C i x r a b _ _ g n
 have k:∀j y,x.2[j]?=some y->ahw w' B (0+j) y:=λj y I=>by
  obtain⟨⟨b,e,m,s⟩,J,t⟩:=p j y I;exact⟨⟨b,e,f _ _ m (by rw[rB];exact o b e) (by show IntKind.i64 ≠ .u8;decide),f _ _ s (by rw[rB,rB];exact o b e) trivial⟩,J,t⟩
 refine⟨⟨a,B,c,g,f _ _ u (by rw[rB];exact q a g) (by show IntKind.i64 ≠ .u8;decide),f _ _ n (by rw[rB,rB];exact q a g) ?_,D,E,H,k⟩,F⟩;obtain⟨y,G⟩:∃y,x.2[0]?=some y:=⟨_,jp (by omega)⟩;obtain⟨⟨b,e,m,s⟩, -⟩:=p 0 y G;subst e;have d:=lT m;rw[rB] at d;exact⟨o b rfl,d⟩
end
section
open Go Go.Conc Go.ConcN Go.RowKit
def ac9   :(Frame.enter P f a .normal).roundOf=none:=by
 unfold Frame.enter;cases P.funcs[f]?<;>rfl
def apD{s:ByteArray}{b:Bool}{v':Value}(h:VR ρ (.agg #[.string s,.bool b]) v'):v'=.agg #[.string s,.bool b]:=by
 cases h with
 |@agg c e h=>
  obtain⟨l⟩:=e;change bU ρ [.string s,.bool b] l at h;cases h with
  |cons f a=>
   cases f;cases a with
   |cons g d=>cases g;cases d;rfl
def asQ (hF:eP Z)  (hN:gN<=w.heap.size) (H:∀g∈gL,Rg g/\eI w g)    {nm:Int}
  (k1:1<=key) (k2:key<=99) (hl:l.length=n) (x:n<=c) (C:(c:Int)<=9223372036854775807) (q:RdP w A 0 l) (K:RgP Rg w A l) (hA:∀a,A=some a->Rg a.block) (hn:0<n) (G:In_ nm)
  {Rl:au->World->World->Prop} (d:pw Rl Rr) (hR:∀b,(Rg b/\eI w b)->Rr b)  {cs:List Frame} :
  bK prog main Rl (px Rr) (λ_ g _=>g=⟨cfr.finish (.agg #[.string (Z key l nm).1,.bool (Z key l nm).2]),cs,.running,none,none⟩) S
   (Gl (Frame.enter prog 79 #[.int .i64 key,.slice A n c,.int .i64 nm] .normal::[]) (cfr::cs)) w:=by
 obtain⟨j,h1,W,h3,h4,h5⟩:=mask (V:=λb=>Rg b/\eI w b) (λb h=>h.2) H hN;have F:=q.mask K hA λA v x O hp=>h5 A v x ⟨O,lT x⟩ hp;obtain⟨y,hy⟩:∃y,l[0]?=some y:=⟨_,jp (by omega)⟩;obtain⟨⟨a,_,_,e1,e2,_⟩,_⟩:=q 0 y hy;subst e1;have i:=lT e2;rw[rB] at i;have m:(Ren.rows (λb=>Rg b/\eI w b) true (fh w)).r a.block a.block:=⟨rfl,hA a rfl,i⟩;generalize Q:(Ren.rows (λb=>Rg b/\eI w b) true (fh w))=ρ at h1 W m;have N:∀b r,ρ.r b r->Rr r/\bJ j b/\NoB j b:=λb r u=>by
  subst Q;obtain⟨rfl,Y⟩:=u;exact⟨hR _ Y,h4 _ Y⟩
 have p:dw ρ #[.int .i64 key,.slice (some a) n c,.int .i64 nm] #[.int .i64 key,.slice (some a) n c,.int .i64 nm]:=by
  obtain⟨b,o,s⟩:=a;exact .cons (.int _ _) (.cons (.slice (.some (.mk m o s)) _ _) (.cons (.int _ _) .nil))
 have X:∀t:Tape,Calls (ai false) 79 #[.int .i64 key,.slice (some a) n c,.int .i64 nm] (j.dV t) λe J=>∃v,e=.returned v/\v=.agg #[.string (Z key l nm).1,.bool (Z key l nm).2]:=λt=>by
  refine(hF false (j.dV t) key (some a) n c l nm k1 k2 hl x C (F.below λb u=>rfl) G).mono ?_;rintro e J ⟨v,rfl,hv, -⟩;exact⟨v,rfl,hv⟩
 generalize (#[.int .i64 key,.slice (some a) n c,.int .i64 nm]:Array Value)=args at p X
 let R:List Frame->World->Prop:=λfs J=>∃B v,fs=[B]/\B.fn=79/\B.leaving (ai false) J (.returned v)/\v=.agg #[.string (Z key l nm).1,.bool (Z key l nm).2]
 have hW:kh (ai false) R ⟨[Frame.enter (ai false) 79 args .normal],j,λ_ _=>0⟩:=aaE (Post:=λv _=>v=.agg #[.string (Z key l nm).1,.bool (Z key l nm).2]) λt _=>X t;have I:Acc (iF (ai false)) ⟨[Frame.enter (ai false) 79 args .normal],j,λ_ _=>0⟩:=hW.acc.transGen;have P:air (ai false) R Rr S ρ ⟨[Frame.enter (ai false) 79 args .normal],j,λ_ _=>0⟩ [Frame.enter prog 79 args .normal] w:=
  ⟨.one (agS (mr false) ahX p) ac9,h1,W,hW,λb r u=>.inr (N b r u)⟩
 have L:=ais (mr false) (avV false) d.fU d.tr d.rl d.cmp.gr (avW aBC aBD) (af0 d.cmp) (main:=main) (base:=cfr::cs) I P (.inl rfl);refine bK.bind d.fU d.tr L λS1 g w1 ⟨c1,ρ1,l',hor,hle,hS1,oM,aD4,aE7,hW1,pz,_,hend⟩=> ?_;subst oM;rcases hend with⟨hf,f⟩|⟨_,_,_,_,_,_,T,_⟩
 .obtain⟨_,_,y1,a0,_,e3⟩:=f.ne';obtain⟨B,k, -⟩:=id hf;have e4:=f.lone k e3;subst e4 e3;rw[k] at f;refine .step rfl λw2 O=> ?_;obtain⟨r1,r2,r3⟩:=d.rl _ _ _ O;have E:=aD4.rely pz r1 r2 r3;obtain⟨σ,v,v',w3,D,es,M,t,q1,q2,q3,q4,q5,q6,z,q8,q9⟩:=auI (mr false) (t0:=c1.t) (Post:=λv _=>v=.agg #[.string (Z key l nm).1,.bool (Z key l nm).2]) f E λt ht=>by
   obtain⟨cL,v,U,_,e6,e7⟩:=hW1.fin hf acA t ht;rw[k] at U;cases U;exact⟨v,e6,e7⟩
  refine⟨_,D,M,_,q9 main cfr cs,⟨ajd pz z,z.size',z.os.2,rfl,ara pz q6 z q8⟩,.stop λ_ _=> ?_⟩;subst q2;rw[apD q5]
 .exact(apC hW1 T).elim
end
section
open Go Go.Conc Go.ConcN Go.RowKit
abbrev SN(S:au)(w w':World):au:=λb=>S b\/(w.heap.size<=b/\b<w'.heap.size)
section
variable {P:Program} {main:Bool} {Rl:au->World->World->Prop} {St:au->Goroutine->World->Prop} {S Rr:au} {w0:World} {f:FuncId} {T:Array Value} {k:List Item} {xs base:List Frame}
def mZ (H:pw Rl Rr)   {o:Oper} {d:Tmp} {ob:Obj} (j:d<T.size) (l:O[i]?=some o) (r:o.guard=none) (c:o.dst=some d)
  (n:∀w,(execOp (FQ f T (.inRegion O (i::rest)::k)).eval o).runT P w #[]=(.ok (.value (.pointer (some ⟨w.heap.size,0,none⟩))) (w.alloc ob),#[]))
  (u:∀w,Rl S w0 w->∀T':Array Value,T'.size=T.size->T'.getD d undef=.pointer (some ⟨w.heap.size,0,none⟩)->(∀t,t≠d->T'.getD t undef=T.getD t undef)->∀a,Rl (SN S w (w.alloc ob)) (w.alloc ob) a->bK P main Rl (px Rr) St (SN S w (w.alloc ob)) (Gl (FQ f T' (.inRegion O rest::k)::xs) base) a) :
  ∀w,Rl S w0 w->bK P main Rl (px Rr) St S (Gl (FQ f T (.inRegion O (i::rest)::k)::xs) base) w:=λw m=>by
 refine .step rfl λa g=> ?_;have s:=H.tr _ _ _ _ m g;refine⟨_,_,_,_,amD rfl rfl rfl rfl l r (n a),⟨λb q _=>rI a _ b q,by rw[mx];omega,rfl,rfl,λe v=>by cases(by simpa using tp v:False)⟩, ?_⟩;have:Frame.finish (FQ f T (.inRegion O (i::rest)::k)) (.pointer (some ⟨a.heap.size,0,none⟩))=FQ f (T.setIfInBounds d (.pointer (some ⟨a.heap.size,0,none⟩))) (.inRegion O rest::k):=by
  simp only[Frame.finish,l,qM,c]
 rw[this];exact u a s _ (by simp) (by rw[aI j,eg rfl]) (λt p=>by rw[aI j,da p]) _ (H.fU _ _)
end
section
variable {P:Program} (F:FaT P) {w:World} {e:Operand->Value} {x:Operand} {dst:Option Tmp} {ty:TypeId} {pos:String} {af:Array Edge} {gd:Option (Nat×Bool)}
include F
theorem aj2:(execOp e ⟨dst,.alloc 140,ty,pos,af,gd⟩).runT P w #[]=(.ok (.value (.pointer (some ⟨w.heap.size,0,none⟩))) (w.alloc (.cells #[.string ⟨#[]⟩,.bool false] 140)),#[]):=by
 obtain⟨i,b,d,c,a⟩:=F.adD;simp[execOp,Instr.alloc,zeroValue,typeInfo,b,a,newVar,newRow,Value.cells]
theorem asR{t:Tmp}(h:e (.tmp t)=.slice A n c):(execOp e ⟨dst,.call ⟨.builtin .len,#[.tmp t],#[23]⟩,ty,pos,af,gd⟩).runT P w #[]=(.ok (.value (.int .i64 n)) w,#[]):=by
 rw[pq (s:=λv=>Builtin.len_ #[23] ty #[v]) λ_ v=>rfl,h];change Sem.runT P (Builtin.len_ #[23] ty #[.slice A n c] >>=λu=>pure (Next.value u)) w #[]=_;simp[Builtin.len_,mu F.u23,goInt]
omit F in
theorem ap3{y:Operand}{a b:Int}(d:e x=.int .i64 a)(c:e y=.int .i64 b):(execOp e ⟨dst,.binOp .lss 3 x y 3,ty,pos,af,gd⟩).runT P w #[]=(.ok (.value (.bool (decide (a<b)))) w,#[]):=by
 have:execOp e ⟨dst,.binOp .lss 3 x y 3,ty,pos,af,gd⟩=(binOp .lss 3 (e x) (e y)).bind λv=>Sem.pure (.value v):=rfl;rw[this,d,c];rfl
omit F in
theorem asS:(prog.info? 9).map (·.size ==1)=some true/\(prog.info? 4).map (·.size ==1)=some true:=by
 constructor<;>kernel_rfl
omit F in
theorem aj3:(execOp e ⟨dst,.build 140 #[],ty,pos,af,gd⟩).runT prog w #[]=(.ok (.value (.agg #[.string ⟨#[]⟩,.bool false])) w,#[]):=by
 obtain⟨i,d,m,l,b⟩:=faT.adD;obtain⟨f,a,j⟩:=lw.1 asS.1;obtain⟨k,c,g⟩:=lw.1 asS.2;simp[execOp,Instr.build,zeroValue,typeInfo,d,b,mu underlying140,sizeOf,a,c,Instr.fill,Value.cells]
end
end
section
open Go Go.Conc Go.ConcN Go.RowKit
def avH(h:w'.heap.size=w.heap.size):SN S w w'=S:=by
 funext b
 show(S b\/(w.heap.size<=b/\b<w'.heap.size))=S b;rw[h];exact propext ⟨λx=>x.elim id λy=>absurd y.1 (by omega),.inl⟩
def aaP{A:Addr}{c : Value}(b:akn u=true)(g:w.cell? A=some c)(d:w.frozen? A=false){f:Type}(k:Sem f)(es:Array Event):(Sem.store .plain A u k).runT P w es=k.runT P (w.setCell A u) (es.push ⟨.cell A,true,false⟩):=by
 have a:(∀x,u ≠ .agg x)/\∀x,u ≠ .tuple x:=⟨λx e=>(by subst e;cases b),λx e=>(by subst e;cases b)⟩;rw[sE _ _ _ _ _ _ _ a.1 a.2];simp only[g,d,lc,qL];rfl
section
variable {P:Program} (F:FaT P) {w:World} {e:Operand->Value} {x y:Operand} {dst:Option Tmp} {ty:TypeId} {pos:String} {af:Array Edge} {gd:Option (Nat×Bool)}
include F
theorem agC{A:Addr}{u0 u1 c0 c1:Value}(m:akn u0=true)(q:akn u1=true)(o:e x=.pointer (some A))(l:e y=.agg #[u0,u1])(a:w.cell? A=some c0)(d:w.frozen? A=false)(f:w.cell? (A.add 1)=some c1)(b:w.frozen? (A.add 1)=false) :
  (execOp e ⟨dst,.store 140 x y,ty,pos,af,gd⟩).runT P w #[]=(.ok .skip ((w.setCell A u0).setCell (A.add 1) u1),#[⟨.cell A,true,false⟩,⟨.cell (A.add 1),true,false⟩]):=by
 obtain⟨i,n,r, -⟩:=F.adD;have g:(storeCells A [u0,u1] 0).runT P w #[]=(.ok () ((w.setCell A u0).setCell (A.add 1) u1),#[⟨.cell A,true,false⟩,⟨.cell (A.add 1),true,false⟩]):=by
  show(Sem.store .plain (A.add 0) u0 (Sem.store .plain (A.add 1) u1 (Sem.pure ()))).runT P w #[]=_;have j:A.add 0=A:=by unfold Addr.add;simp
  rw[j,aaP m a d,aaP q (c:=c1) (by rw[tZ _ _ _ _ (λe=>arx e.symm)];exact f) (by rw[uL];exact b)];rfl
 have p:(storeCells A [u0,u1] 0).run P w=.ok () ((w.setCell A u0).setCell (A.add 1) u1):=by
  rw[<-ry _ _ _ #[]];exact jt Prod.fst g
 have k:(storeCells A [u0,u1] 0).events P w #[]=#[⟨.cell A,true,false⟩,⟨.cell (A.add 1),true,false⟩]:=jt Prod.snd g;simp[execOp,o,l,Instr.storeAt,Instr.sureAddr,storeVar,sizeOf,typeInfo,n,r,Value.cells,p,k]
theorem asT{A:Addr}{u0 u1:Value}{fn:Func}(c:fn.results=#[.cell 6 140])(m:T.getD 6 undef=.pointer (some A))(b:w.cell? A=some u0)(d:w.cell? (A.add 1)=some u1) :
  (results fn T).runT P w #[]=(.ok (.agg #[u0,u1]) w,#[⟨.cell A,false,false⟩,⟨.cell (A.add 1),false,false⟩]):=by
 obtain⟨i,k,p, -⟩:=F.adD;obtain⟨q,j⟩:=F.auT;have e:(loadCells A 2).runT P w #[]=(.ok #[u0,u1] w,#[⟨.cell A,false,false⟩,⟨.cell (A.add 1),false,false⟩]):=by
  show(Sem.load .plain (A.add 0) λo=>Sem.load .plain (A.add 1) λn=>Sem.pure #[o,n]).runT P w #[]=_;have f:A.add 0=A:=by unfold Addr.add;simp
  rw[f,Sem.runT];simp only[b];rw[Sem.runT];simp only[d];rfl
 have l:(loadCells A 2).run P w=.ok #[u0,u1] w:=by
  rw[<-ry _ _ _ #[]];exact jt Prod.fst e
 have g:(loadCells A 2).events P w #[]=#[⟨.cell A,false,false⟩,⟨.cell (A.add 1),false,false⟩]:=jt Prod.snd e;have a:T[6]?.getD undef=.pointer (some A):=by rw[<-jn];exact m
 simp[results,c,a,asAddr,loadVar,isAgg,mu j,sizeOf,typeInfo,k,p,l,g]
end
def avI{Rl:au->World->World->Prop}(H:pw Rl Rr){nm : Int}{cs:List Frame} :
  bK prog main Rl (px Rr) (λ_ g _=>g=⟨cfr.finish (.agg #[.string ⟨#[]⟩,.bool false]),cs,.running,none,none⟩) S
   (Gl (Frame.enter prog 79 #[.int .i64 key,.slice A 0 c,.int .i64 nm] .normal::[]) (cfr::cs)) w:=by
 have C:=H.cmp;have K:Frame.enter prog 79 #[.int .i64 key,.slice A 0 c,.int .i64 nm] .normal=FQ 79 (#[.int .i64 key,.slice A 0 c,.int .i64 nm]++Array.replicate 26 undef) [.code (f79.body.getD .skip)]:=by
  unfold Frame.enter;rw[func79];rfl
 rw[K];obtain⟨T,hT,j,R⟩:∃T:Array Value,T=#[.int .i64 key,.slice A 0 c,.int .i64 nm]++Array.replicate 26 undef/\29<=T.size/\T.getD 1 undef=.slice A 0 c:=⟨_,rfl,by simp,by rw[jn,rV (by simp)];rfl⟩;rw[<-hT];simp only[f79,qp];have key:∀y,Rl S w y->bK prog main Rl (px Rr) (λ_ g _=>g=⟨cfr.finish (.agg #[.string ⟨#[]⟩,.bool false]),cs,.running,none,none⟩) S (Gl (FQ 79 T [.code (f79.body.getD .skip)]::[]) (cfr::cs)) y:=by
  simp only[f79,qp];refine eG C (fY C (l:=[0]) rfl (mZ H (d:=6) (bd (by decide) j) rfl rfl rfl (λw=>aj2 faT) λn cN T1 a k o=> ?_));replace R:=(o 1 (by decide)).trans R;replace j:=ap j (pe a.symm);have hB:(n.alloc (.cells #[.string ⟨#[]⟩,.bool false] 140)).heap[n.heap.size]?=some (.cells #[.string ⟨#[]⟩,.bool false] 140 (0,0)):=by
   show(n.heap.push _)[n.heap.size]?=_;rw[qZ]
  have s:SN S n (n.alloc (.cells #[.string ⟨#[]⟩,.bool false] 140)) n.heap.size:=.inr ⟨am _,by rw[mx];omega⟩;have G:n.heap.size<(n.alloc (.cells #[.string ⟨#[]⟩,.bool false] 140)).heap.size:=by rw[mx];omega
  generalize SN S n (n.alloc (.cells #[.string ⟨#[]⟩,.bool false] 140))=S1 at s ⊢;generalize n.alloc (.cells #[.string ⟨#[]⟩,.bool false] 140)=w2 at hB G ⊢;generalize n.heap.size=B at hB s k G;refine iu C (eG C (eG C (fY C (l:=[0,1,2]) rfl ?_)));refine bP C (d:=11) (v:=.slice A 0 c) (es:=#[]) (bd (by decide) j) rfl rfl rfl (λw r=>fF R) (λw r=>bD _) λT2 a U o=> ?_;replace k:=(o 6 (by decide)).trans k;replace j:=ap j (pe a.symm);refine bP C (d:=12) (v:=.int .i64 (0:Nat)) (es:=#[]) (bd (by decide) j) rfl rfl rfl (λw r=>asR faT U) (λw r=>bD _) λT3 a E o=> ?_;replace k:=(o 6 (by decide)).trans k;replace j:=ap j (pe a.symm);refine bP C (d:=13) (v:=.int .i64 0) (es:=#[]) (bd (by decide) j) rfl rfl rfl (λw r=>fF rfl) (λw r=>bD _) λT4 a Z o=> ?_;replace k:=(o 6 (by decide)).trans k;replace E:=(o 12 (by decide)).trans E;replace j:=ap j (pe a.symm);refine iu C (aes C (amI C (eG C (fY C (l:=[0]) rfl ?_))));refine bP C (d:=14) (v:=.bool (decide ((0:Int)<((0:Nat):Int)))) (es:=#[]) (bd (by decide) j) rfl rfl rfl (λw r=>ap3 Z E) (λw r=>bD _) λT5 a z o=> ?_;replace k:=(o 6 (by decide)).trans k;replace j:=ap j (pe a.symm);replace z:T5.getD 14 undef=.bool false:=z.trans rfl;refine iu C (eG C (abK C (q:=false) z ?_));simp only[lc,qL];refine amG C rfl (eG C (fY C (l:=[0,1]) rfl ?_));refine bP C (d:=28) (v:=.agg #[.string ⟨#[]⟩,.bool false]) (es:=#[]) (bd (by decide) j) rfl rfl rfl (λw r=>aj3) (λw r=>bD _) λV a jm o=> ?_;replace k:=(o 6 (by decide)).trans k;replace j:=ap j (pe a.symm);have u:(⟨B,0,none⟩:Addr).add 1=⟨B,1,none⟩:=ji _ _ _;have keep:∀y,Rl S1 w2 y->y.heap[B]?=some (.cells #[.string ⟨#[]⟩,.bool false] 140 (0,0))/\B<y.heap.size:=λy hr=>by
   obtain⟨Y,r2, -⟩:=H.rl _ _ _ hr;exact⟨(Y B (.inl s)).trans hB,by omega⟩
  intro w3 Q;refine .step rfl λt X=> ?_;obtain⟨L,b2⟩:=keep t (H.tr _ _ _ _ Q X);have c0:=fc (i:=0) L;have c1:=fc (i:=1) L;refine⟨_,_,_,_,aeY rfl rfl rfl rfl rfl rfl (agC faT (A:=⟨B,0,none⟩) (u0:=.string ⟨#[]⟩) (u1:=.bool false) (c0:=.string ⟨#[]⟩) (c1:=.bool false) rfl rfl k jm c0 (iD L) (by rw[u];exact c1) (by rw[u];exact iD L)),⟨λb hb hn=> ?_, ?_,rfl,rfl,λev K=> ?_⟩, ?_⟩
  .have F:B≠b:=λe=>hn (e▸s);rw[u,bu _ _ _ F,bu _ _ _ F]
  .rw[be,be];exact am _
  .have N:=tp K;simp only[sJ,pb,rG,uf] at N;have M:B<((t.setCell ⟨B,0,none⟩ (.string ⟨#[]⟩)).setCell ((⟨B,0,none⟩:Addr).add 1) (.bool false)).heap.size:=by rw[be,be];exact b2
   rcases N with rfl|rfl
   .exact⟨λx p=>.inl (by simp[MemAct.ofEvent,MemAct.touch?] at p;rw[<-p];exact .inl s),λm D=>(by cases D),M⟩
   .refine⟨λx p=>.inl ?_,λm D=>(by cases D), ?_⟩
    .simp[MemAct.ofEvent,MemAct.touch?] at p;rw[<-p,u];exact .inl s
    .show((⟨B,0,none⟩:Addr).add 1).block<_;rw[rB];exact M
  have P:(λb=>S1 b\/(t.heap.size<=b/\b<((t.setCell ⟨B,0,none⟩ (.string ⟨#[]⟩)).setCell ((⟨B,0,none⟩:Addr).add 1) (.bool false)).heap.size))=S1:=avH (by rw[be,be]);rw[P];have I:((t.setCell ⟨B,0,none⟩ (.string ⟨#[]⟩)).setCell ((⟨B,0,none⟩:Addr).add 1) (.bool false)).heap[B]?=some (.cells #[.string ⟨#[]⟩,.bool false] 140 (0,0)):=by
   rw[u];exact setRow (setRow L)
  have a0:B<((t.setCell ⟨B,0,none⟩ (.string ⟨#[]⟩)).setCell ((⟨B,0,none⟩:Addr).add 1) (.bool false)).heap.size:=by rw[be,be];exact b2
  generalize (t.setCell ⟨B,0,none⟩ (.string ⟨#[]⟩)).setCell ((⟨B,0,none⟩:Addr).add 1) (.bool false)=w5 at I a0 ⊢;refine iu (f:=79) (T:=V) C (w0:=w5) ?_ w5 (H.fU _ _);refine bK.still C (l2:=⟨79,V,[.code .ret],[],.returning,.normal,none⟩::[]) (es:=λ_=>#[]) (λw _=>by simp[Gl,stepG,stepG.exec]) (λ_ _ e h=>by cases(by simpa using h:False)) ?_;intro w6 O;refine .step rfl λw7 W=> ?_;obtain⟨Y,r2, -⟩:=H.rl _ _ _ (H.tr _ _ _ _ O W);have b7:=(Y B (.inl s)).trans I;have J:=asT faT (T:=V) (A:=⟨B,0,none⟩) (fn:=f79) rfl k (fc (i:=0) b7) (by rw[u];exact fc (i:=1) b7);refine⟨⟨cfr.finish (.agg #[.string ⟨#[]⟩,.bool false]),cs,.running,none,none⟩,w7,seen prog 79 #[⟨.cell ⟨B,0,none⟩,false,false⟩,⟨.cell ((⟨B,0,none⟩:Addr).add 1),false,false⟩],_, ?_,⟨λ_ _ _=>rfl,am _,rfl,rfl,λev K=> ?_⟩,.stop λ_ _=>rfl⟩
  .simp only[Gl,stepG,unwind,func79,J,qX];simp[doReturn,GStep.after]
  .have N:=tp K;simp only[sJ,pb,rG,uf] at N;rcases N with rfl|rfl
   .exact⟨λx p=>.inl (by simp[MemAct.ofEvent,MemAct.touch?] at p;rw[<-p];exact .inl s),λm D=>(by cases D),by show B<_;omega⟩
   .refine⟨λx p=>.inl ?_,λm D=>(by cases D), ?_⟩
    .simp[MemAct.ofEvent,MemAct.touch?] at p;rw[<-p,u];exact .inl s
    .show((⟨B,0,none⟩:Addr).add 1).block<_;rw[rB];show B<_;omega
 exact key w (H.fU _ _)
end
section
open Go Go.Conc Go.ConcR Go.RowKit Go.Conc.Lib Go.ConcR.Gen
abbrev eN:WgLink:={add:=76,done:=78,wait:=80,relMerge:=100,disable:=101,enable:=102,inBubble:=103,associate:=104,fatal:=105,uOr:=106,uAdd:=107,raceRead:=108,uLoad:=109,uStore:=110,disassociate:=111,semrelease:=112,acquire:=114,isAssociated:=115,uCas:=116,raceWrite:=117,semacquire:=118,orU64:=131,addU64:=132,loadU64:=133,storeU64:=134,casU64:=138,tWgP:=158,tUP:=160,tAssoc:=162,tWg:=137,tAU:=134,tU64:=132,tUint:=166,tU32:=135,tPU32:=167,tPAU:=192,tPU64:=194,tNoCopy:=129,tANoCopy:=130,tAlign64:=131}
def aaB:WgLib prog eN:=
 ⟨func76,func78,func80,func100,func101,func102,func103,func104,func105,func106,func107,func108,func109,func110,func111,func112,func114,func115,func116,func117,func118,func131,func132,func133,func134,func138,underlying158,Tryz.runUnderlying158,Tryz.sizeOf158,Tryz.isAgg158,Tryz.zeroValue158,underlying160,Tryz.runUnderlying160,Tryz.sizeOf160,Tryz.isAgg160,Tryz.zeroValue160,underlying162,Tryz.runUnderlying162,Tryz.sizeOf162,Tryz.isAgg162,Tryz.zeroValue162,underlying137,Tryz.runUnderlying137,Tryz.sizeOf137,Tryz.isAgg137,Tryz.zeroValue137,underlying134,Tryz.runUnderlying134,Tryz.sizeOf134,Tryz.isAgg134,Tryz.zeroValue134,underlying132,Tryz.runUnderlying132,Tryz.sizeOf132,Tryz.isAgg132,Tryz.zeroValue132,underlying166,Tryz.runUnderlying166,Tryz.sizeOf166,Tryz.isAgg166,Tryz.zeroValue166,underlying135,Tryz.runUnderlying135,Tryz.sizeOf135,Tryz.isAgg135,Tryz.zeroValue135,underlying167,Tryz.runUnderlying167,Tryz.sizeOf167,Tryz.isAgg167,Tryz.zeroValue167,underlying192,Tryz.runUnderlying192,Tryz.sizeOf192,Tryz.isAgg192,Tryz.zeroValue192,underlying194,Tryz.runUnderlying194,Tryz.sizeOf194,Tryz.isAgg194,Tryz.zeroValue194,underlying0,Tryz.runUnderlying0,Tryz.sizeOf0,Tryz.isAgg0,Tryz.zeroValue0,underlying3,Tryz.runUnderlying3,Tryz.sizeOf3,Tryz.isAgg3,Tryz.zeroValue3,underlying4,Tryz.runUnderlying4,Tryz.sizeOf4,Tryz.isAgg4,Tryz.zeroValue4,underlying9,Tryz.runUnderlying9,Tryz.sizeOf9,Tryz.isAgg9,Tryz.zeroValue9,underlying20,Tryz.runUnderlying20,Tryz.sizeOf20,Tryz.isAgg20,Tryz.zeroValue20,underlying21,Tryz.runUnderlying21,Tryz.sizeOf21,Tryz.isAgg21,Tryz.zeroValue21,(by kernel_rfl),(by kernel_rfl)⟩
end
section
open Go Go.Conc Go.ConcN Go.RowKit Go.Conc.Lib Go.ConcR.Gen Go.ConcN.Gen
open Go.ConcR (KK wgBlock WgAt stA smA rd wr mk Payload Aside2 DC0)
section
variable (P:Program) (R:World->World->Prop) (ty:TypeId) (Wg:Nat)
def oK(e:Mark)(m:Nat)(S:Goroutine->World->Prop)(g:Goroutine)(w:World):Prop:=
 g.status=.running/\∃a,stepG P true g w=.go a w #[mk e]/\Goes P true R DC0 S m a w
def ah8(S:Goroutine->World->Prop)(g:Goroutine)(w:World):Prop:=
 g.status=.running/\∀v:Nat,v<2147483647->WgAt ty Wg w (v*KK) 0->
  ∃a,stepG P true g w=.go a (w.setCell (stA Wg) (.int .u64 ((v+1)*KK))) #[rd (stA Wg),wr (stA Wg)]/\
   (v=0->Goes P true R DC0 (oK P R (.read ⟨Wg,1,none⟩) 120 (oK P R .enable 3 S)) 120 a (w.setCell (stA Wg) (.int .u64 ((v+1)*KK))))/\
   (v≠0->Goes P true R DC0 (oK P R .enable 3 S) 120 a (w.setCell (stA Wg) (.int .u64 ((v+1)*KK))))
end
section
variable {P:Program} {L:WgLink} {R:World->World->Prop} {Wg:Nat} {S:Goroutine->World->Prop}
 {b₀:Frame} {a₀:Act} {ops₀:Array Oper} {i₀:Nat} {rest₀:List Nat} {k₀:List Item} {cs:List Frame}
def apY (H:WgLib P L) (b:∀w d,WgLive L.tWg Wg w->R w d->WgLive L.tWg Wg d)
  (l:∀w,WgLive L.tWg Wg w->S (G (b₀.at (a₀.put ((ops₀[i₀]?).bind (·.dst)) (.tuple #[])) (.inRegion ops₀ rest₀::k₀)) cs) w)
  (w:World) (a:WgLive L.tWg Wg w) :
  Goes P true R DC0 (oK P R .disable 60 (ah8 P R L.tWg Wg S)) 30
   (G ((base L.add).at ⟨#[.pointer (some ⟨Wg,0,none⟩),.int .i64 1,undef,undef,undef,undef,undef,undef,undef,undef,undef,undef,undef,undef,undef,undef,undef,undef,undef,undef,undef,undef,undef,undef,undef,undef,undef,undef,undef,undef,undef,undef,undef,undef,undef,undef,undef,undef,undef,undef,undef,undef,undef,undef,undef,undef,undef,undef,undef,undef,undef,undef,undef,undef,undef,undef,undef,undef,undef,undef,undef,undef,undef,undef,undef,undef,undef,undef,undef,undef,undef,undef,undef,undef,undef,undef,undef,undef,undef,undef,undef,undef,undef,undef,undef,undef,undef,undef,undef,undef,undef,undef,undef,undef,undef,undef,undef,undef,undef,undef,undef,undef,undef,undef,undef,undef,undef,undef,undef,undef,undef,undef,undef,undef,undef,undef,undef],[]⟩ [.code (body_add L)]) (b₀.at a₀ (.inRegion ops₀ (i₀::rest₀)::k₀)::cs)) w:=by
 lib_facts
 simp only[body_add,addFn,qp]
 u_c lE (b _ _) a
 u_cond true (b _ _) a
 u_c lE (b _ _) a
 u_c lE (b _ _) a
 u_reg (b _ _) a
 u_op (b _ _) a
 u_op (b _ _) a
 u_c ga (b _ _) a
 u_cond false (b _ _) a
 u_c rK (b _ _) a
 u_c lE (b _ _) a
 u_reg (b _ _) a
 refine qH (λd c=> ?_);replace a:=b _ _ a c;clear c;refine⟨rfl,_,uY .disable (by simp) rfl rfl (by k_ne) rfl H.f_disable (x_disable_n L) (x_disable_b L) (x_disable_x L) (x_disable_f L), ?_⟩
 walk_nrm
 u_c ga (b _ _) a
 u_reg (b _ _) a
 u_defer (b _ _) a
 u_c ga (b _ _) a
 u_c lE (b _ _) a
 u_reg (b _ _) a
 u_op (b _ _) a
 u_c ga (b _ _) a
 u_c lE (b _ _) a
 u_c lE (b _ _) a
 u_reg (b _ _) a
 u_bub (b _ _) a
 u_c ga (b _ _) a
 u_cond false (b _ _) a
 u_c rK (b _ _) a
 u_c lE (b _ _) a
 u_reg (b _ _) a
 u_op (b _ _) a
 u_op (b _ _) a
 u_op (b _ _) a
 u_op (b _ _) a
 u_op (b _ _) a
 u_op (b _ _) a
 u_call H.f_uAdd (nm_uAdd L) uAddFn (b _ _) a
 u_c lE (b _ _) a
 u_reg (b _ _) a
 u_op (b _ _) a
 u_c ga (b _ _) a
 u_c lE (b _ _) a
 u_reg (b _ _) a
 u_op (b _ _) a
 u_op (b _ _) a
 u_op (b _ _) a
 u_op (b _ _) a
 refine qH (λd c=> ?_);replace a:=b _ _ a c;clear c;refine⟨rfl,λv B g=> ?_⟩;rcases qg v with rfl|o
 .replace g:WgAt L.tWg Wg d 0 0:=by simpa using g
  have z:(((0:Nat):Int)+1)*KK=KK:=by simp
  rw[z];have m:IntKind.u64.wrap (0+4294967296)=KK:=by decide
  refine⟨_,(stepG_add_atomic rfl rfl (by k_ne) rfl H.f_addU64 (x_addU64_n L) (x_addU64_b L) (x_addU64_x L) .u64 (x_addU64_f L) rfl rfl g.cellSt (g.thaw 0)).trans (by rw[m];rfl),λ_=> ?_,λh=>absurd rfl h⟩;replace a:WgLive L.tWg Wg (d.setCell (stA Wg) (.int .u64 KK)):=⟨_,_,g.setSt _⟩;clear g;simp only[KK] at a ⊢
  walk_nrm
  u_op (b _ _) a
  u_c ga (b _ _) a
  u_c sL (b _ _) a
  u_leave1 H.f_uAdd (b _ _) a
  u_op (b _ _) a
  u_c ga (b _ _) a
  u_c lE (b _ _) a
  u_c lE (b _ _) a
  u_reg (b _ _) a
  u_op (b _ _) a
  u_op (b _ _) a
  u_op (b _ _) a
  u_op (b _ _) a
  u_skip (b _ _) a
  u_skip (b _ _) a
  u_op (b _ _) a
  u_c ga (b _ _) a
  u_cond false (b _ _) a
  u_c rK (b _ _) a
  u_c lE (b _ _) a
  u_reg (b _ _) a
  u_op (b _ _) a
  u_op (b _ _) a
  u_op (b _ _) a
  u_op (b _ _) a
  u_c ga (b _ _) a
  u_c lE (b _ _) a
  u_reg (b _ _) a
  u_op (b _ _) a
  u_op (b _ _) a
  u_op (b _ _) a
  u_op (b _ _) a
  u_c ga (b _ _) a
  u_c lE (b _ _) a
  u_c lE (b _ _) a
  u_reg (b _ _) a
  u_op (b _ _) a
  u_op (b _ _) a
  u_op (b _ _) a
  u_op (b _ _) a
  u_op (b _ _) a
  u_op (b _ _) a
  u_op (b _ _) a
  u_op (b _ _) a
  u_op (b _ _) a
  u_op (b _ _) a
  u_c ga (b _ _) a
  u_cond true (b _ _) a
  u_reg (b _ _) a
  u_op (b _ _) a
  u_op (b _ _) a
  u_op (b _ _) a
  u_conv H.underlying_tPU32 H.room_tU32 (WgLive.cell1 a).choose_spec (b _ _) a
  refine qH (λd c=> ?_);replace a:=b _ _ a c;clear c;refine⟨rfl,_,uN .read (by simp) rfl rfl (by k_ne) rfl H.f_raceRead (x_raceRead_n L) (x_raceRead_b L) (x_raceRead_x L) (x_raceRead_f L) (ad:=⟨Wg,1,none⟩) (by simp[Act.eval]), ?_⟩
  walk_nrm
  u_c ga (b _ _) a
  u_c lE (b _ _) a
  u_c lE (b _ _) a
  u_reg (b _ _) a
  u_op (b _ _) a
  u_op (b _ _) a
  u_c ga (b _ _) a
  u_cond false (b _ _) a
  u_c rK (b _ _) a
  u_c lE (b _ _) a
  u_c lE (b _ _) a
  u_reg (b _ _) a
  u_op (b _ _) a
  u_op (b _ _) a
  u_op (b _ _) a
  u_skip (b _ _) a
  u_skip (b _ _) a
  u_op (b _ _) a
  u_op (b _ _) a
  u_skip (b _ _) a
  u_skip (b _ _) a
  u_skip (b _ _) a
  u_skip (b _ _) a
  u_op (b _ _) a
  u_c ga (b _ _) a
  u_cond false (b _ _) a
  u_c rK (b _ _) a
  u_c lE (b _ _) a
  u_c lE (b _ _) a
  u_reg (b _ _) a
  u_op (b _ _) a
  u_op (b _ _) a
  u_op (b _ _) a
  u_skip (b _ _) a
  u_skip (b _ _) a
  u_op (b _ _) a
  u_c ga (b _ _) a
  u_cond true (b _ _) a
  u_c sL (b _ _) a
  refine qH (λd c=> ?_);replace a:=b _ _ a c;clear c;refine⟨rfl,_,stepG_unwind_entry (v:=.tuple #[]) (evs:=#[mk .enable]) rfl H.f_enable (x_enable_n L) (x_enable_b L) (x_enable_x L) (x_enable_f L) (by simp[Extern.Race.none_]) (by simp[mk]) (by simp[mk]), ?_⟩
  u_leave0 H.f_add (b _ _) a
  exact qH λi f=>l _ (b _ _ a f)
 .obtain⟨V,j⟩:∃V:Int,V=(v:Int)+1:=⟨_,rfl⟩;obtain⟨St,e⟩:∃St:Int,St=V*KK:=⟨_,rfl⟩;have k:IntKind.u64.wrap ((v:Int)*KK+4294967296)=St:=by rw[IntKind.wrap_u64,e,j];simp only[KK];omega
  rw[<-j,<-e];have C:St / 4294967296=V:=by rw[e];simp only[KK];omega
  have q:bits .and .u64 St 2147483648=0:=by rw[e,j];have:=st_flag (v+1) 0 (by omega) (by omega);simpa[KK] using this
  have A:bits .and .u64 St 2147483647=0:=by rw[e,j];have:=st_waiters (v+1) 0 (by omega) (by omega);simpa[KK] using this
  have u:IntKind.i32.wrap V=V:=by rw[IntKind.wrap_i32];omega
  have n:1<V:=by omega
  have p:V<2147483648:=by omega
  have s:(V ==1)=false:=by simp;omega
  have D:=db (show ¬(V=1) by omega);have t:=db (show ¬(V<0) by omega);have y:=dj (show 0<V by omega);have x:(V ==0)=false:=by simp;omega
  have r:=db (show ¬(V=0) by omega);refine⟨_,(stepG_add_atomic rfl rfl (by k_ne) rfl H.f_addU64 (x_addU64_n L) (x_addU64_b L) (x_addU64_x L) .u64 (x_addU64_f L) rfl rfl g.cellSt (g.thaw 0)).trans (by rw[k];rfl),λh=>absurd h (by omega),λ_=> ?_⟩;replace a:WgLive L.tWg Wg (d.setCell (stA Wg) (.int .u64 St)):=⟨_,_,g.setSt _⟩;clear g e j k
  walk_nrm
  u_op (b _ _) a
  u_c ga (b _ _) a
  u_c sL (b _ _) a
  u_leave1 H.f_uAdd (b _ _) a
  u_op (b _ _) a
  u_c ga (b _ _) a
  u_c lE (b _ _) a
  u_c lE (b _ _) a
  u_reg (b _ _) a
  u_op (b _ _) a
  u_op (b _ _) a
  u_op (b _ _) a
  u_op (b _ _) a
  u_skip (b _ _) a
  u_skip (b _ _) a
  u_op (b _ _) a
  u_c ga (b _ _) a
  u_cnd false (b _ _) a
  u_c rK (b _ _) a
  u_c lE (b _ _) a
  u_reg (b _ _) a
  u_op (b _ _) a
  u_op (b _ _) a
  u_op (b _ _) a
  u_op (b _ _) a
  u_c ga (b _ _) a
  u_c lE (b _ _) a
  u_reg (b _ _) a
  u_op (b _ _) a
  u_op (b _ _) a
  u_op (b _ _) a
  u_op (b _ _) a
  u_c ga (b _ _) a
  u_c lE (b _ _) a
  u_c lE (b _ _) a
  u_reg (b _ _) a
  u_op (b _ _) a
  u_op (b _ _) a
  u_op (b _ _) a
  u_op (b _ _) a
  u_op (b _ _) a
  u_op (b _ _) a
  u_op (b _ _) a
  u_op (b _ _) a
  u_op (b _ _) a
  u_op (b _ _) a
  u_c ga (b _ _) a
  u_cnd false (b _ _) a
  u_c rK (b _ _) a
  u_c lE (b _ _) a
  u_c lE (b _ _) a
  u_reg (b _ _) a
  u_op (b _ _) a
  u_op (b _ _) a
  u_c ga (b _ _) a
  u_cnd false (b _ _) a
  u_c rK (b _ _) a
  u_c lE (b _ _) a
  u_c lE (b _ _) a
  u_reg (b _ _) a
  u_op (b _ _) a
  u_op (b _ _) a
  u_op (b _ _) a
  u_skip (b _ _) a
  u_skip (b _ _) a
  u_op (b _ _) a
  u_op (b _ _) a
  u_skip (b _ _) a
  u_skip (b _ _) a
  u_skip (b _ _) a
  u_skip (b _ _) a
  u_op (b _ _) a
  u_c ga (b _ _) a
  u_cnd false (b _ _) a
  u_c rK (b _ _) a
  u_c lE (b _ _) a
  u_c lE (b _ _) a
  u_reg (b _ _) a
  u_op (b _ _) a
  u_op (b _ _) a
  u_op (b _ _) a
  u_skip (b _ _) a
  u_skip (b _ _) a
  u_op (b _ _) a
  u_c ga (b _ _) a
  u_cnd true (b _ _) a
  u_c sL (b _ _) a
  refine qH (λd c=> ?_);replace a:=b _ _ a c;clear c;refine⟨rfl,_,stepG_unwind_entry (v:=.tuple #[]) (evs:=#[mk .enable]) rfl H.f_enable (x_enable_n L) (x_enable_b L) (x_enable_x L) (x_enable_f L) (by simp[Extern.Race.none_]) (by simp[mk]) (by simp[mk]), ?_⟩
  u_leave0 H.f_add (b _ _) a
  exact qH λi f=>l _ (b _ _ a f)
end
end
section
open Go Go.Conc Go.ConcN Go.RowKit Go.Conc.Lib Go.ConcR.Gen Go.ConcN.Gen
open Go.ConcR (KK wgBlock WgAt stA smA rd wr mk Aside2 DC0)
section
variable (P:Program) (R:World->World->Prop) (ty:TypeId) (Wg:Nat) (amr S:Goroutine->World->Prop)
abbrev WKe:Goroutine->World->Prop:=oK P R .enable 12 (oK P R (.acquire (stA Wg)) 20 S)
def WW4(g:Goroutine)(w:World):Prop:=g.status=.running/\(WgAt ty Wg w 0 0->∃a,stepG P true g w=.go a w #[rd (stA Wg)]/\Goes P true R DC0 (WKe P R Wg S) 40 a w)
def WW3(g:Goroutine)(w:World):Prop:=g.status=.running/\g.offers=none/\
  ((∃b,WgAt ty Wg w b 0)->stepG P true g w=.go {g with status:=.blocked} w #[])/\
  (WgAt ty Wg w 0 1->∃a,stepG P true g w=.go a (w.setCell (smA Wg) (.int .u32 0)) (semEvents (smA Wg))/\Goes P true R DC0 (WW4 P R ty Wg S) 40 a (w.setCell (smA Wg) (.int .u32 0)))
def WW2(vs:Nat)(g:Goroutine)(w:World):Prop:=g.status=.running/\∀v:Nat,v<2147483648->WgAt ty Wg w (v*KK) 0->
  (v=vs->∃a,stepG P true g w=.go a (w.setCell (stA Wg) (.int .u64 (v*KK+1))) #[rd (stA Wg),wr (stA Wg)]/\Goes P true R DC0 (oK P R (.write ⟨Wg,1,none⟩) 60 (WW3 P R ty Wg S)) 120 a (w.setCell (stA Wg) (.int .u64 (v*KK+1))))/\
  (v≠vs->∃a,stepG P true g w=.go a w #[rd (stA Wg)]/\Goes P true R DC0 amr 60 a w)
def WW1(g:Goroutine)(w:World):Prop:=g.status=.running/\∀v:Nat,v<2147483648->WgAt ty Wg w (v*KK) 0->∃a,stepG P true g w=.go a w #[rd (stA Wg)]/\
  (v=0->Goes P true R DC0 (WKe P R Wg S) 60 a w)/\(v≠0->Goes P true R DC0 (WW2 P R ty Wg amr S v) 120 a w)
end
def aij(L:WgLink)(Wg:Nat)(c:Frame)(cs:List Frame)(g:Goroutine)(w:World):Prop:=
 ∃T:Array Value,g=G ((base L.wait).at ⟨T,[]⟩ [.code (L7 L),.inLoop (L7 L),.inBlock 0]) (c::cs)/\T.size=84/\T[0]?=some (.pointer (some ⟨Wg,0,none⟩))/\WgLive L.tWg Wg w
section
variable {P:Program} {L:WgLink} {R:World->World->Prop} {Wg:Nat} {S:Goroutine->World->Prop}
 {b₀:Frame} {a₀:Act} {ops₀:Array Oper} {i₀:Nat} {rest₀:List Nat} {k₀:List Item} {cs:List Frame}
def aku(H:WgLib P L)(c:∀w a,WgLive L.tWg Wg w->R w a->WgLive L.tWg Wg a)(w:World)(b:WgLive L.tWg Wg w) :
  Goes P true R DC0 (oK P R .disable 3 (aij L Wg (b₀.at a₀ (.inRegion ops₀ (i₀::rest₀)::k₀)) cs)) 3
   (G ((base L.wait).at ⟨#[.pointer (some ⟨Wg,0,none⟩)]++(List.replicate 83 undef).toArray,[]⟩ [.code (body_wait L)]) (b₀.at a₀ (.inRegion ops₀ (i₀::rest₀)::k₀)::cs)) w:=by
 lib_facts
 simp only[body_wait,waitFn,qp]
 u_c lE (c _ _) b
 u_cond true (c _ _) b
 u_reg (c _ _) b
 refine qH (λa d=> ?_);replace b:=c _ _ b d;refine⟨rfl,_,uY .disable (by simp) rfl rfl (by k_ne) rfl H.f_disable (x_disable_n L) (x_disable_b L) (x_disable_x L) (x_disable_f L), ?_⟩
 walk_nrm
 u_c ga (c _ _) b
 u_c stepG_block (c _ _) b
 u_c stepG_loop (c _ _) b
 exact qH (λf e=>⟨_,rfl,by simp,by simp,c _ _ b e⟩)
def aks (H:WgLib P L) (b:∀w c,WgLive L.tWg Wg w->R w c->WgLive L.tWg Wg c)
  (x:∀w,WgLive L.tWg Wg w->S (G (b₀.at (a₀.put ((ops₀[i₀]?).bind (·.dst)) (.tuple #[])) (.inRegion ops₀ rest₀::k₀)) cs) w)
  (g:Goroutine) (w:World) (h:aij L Wg (b₀.at a₀ (.inRegion ops₀ (i₀::rest₀)::k₀)) cs g w) :
  Goes P true R DC0 (WW1 P R L.tWg Wg (aij L Wg (b₀.at a₀ (.inRegion ops₀ (i₀::rest₀)::k₀)) cs) S) 30 g w:=by
 lib_facts
 obtain⟨T,rfl,p,t,a⟩:=h;obtain⟨v0,v1,v2,v3,v4,v5,v6,v7,v8,v9,aR,O,bn,z,ba,C,K,ao,bO,a8,a2,A,bI,bX,J,bw,bi,a4,bz,aa,Y,b0,y,bN,a0,N,bS,bL,bg,X,U,W,bq,a7,aU,Q,D,bp,b9,bf,aJ,bl,aH,af,E,b6,bk,b5,a5,bA,a3,bR,ay,b4,b7,B,I,M,bb,b8,bx,aZ,br,bT,a6,aF,c0,a9,F,b3,bo,an,al,Z,rfl⟩:=array84 T p;simp only[we,uq,mt] at t;subst t;simp only[L7,body_wait,waitFn,qp]
 u_c stepG_block (b _ _) a
 u_c lE (b _ _) a
 u_reg (b _ _) a
 u_op (b _ _) a
 u_op (b _ _) a
 u_op (b _ _) a
 u_call H.f_uLoad (nm_uLoad L) uLoadFn (b _ _) a
 u_c lE (b _ _) a
 u_reg (b _ _) a
 u_op (b _ _) a
 u_c ga (b _ _) a
 u_c lE (b _ _) a
 u_reg (b _ _) a
 u_op (b _ _) a
 u_op (b _ _) a
 u_op (b _ _) a
 refine qH (λc d=> ?_);replace a:=b _ _ a d;refine⟨rfl,λv hv j=> ?_⟩;rcases qg v with rfl|ax
 .replace j:WgAt L.tWg Wg c 0 0:=by simpa using j
  refine⟨_,stepG_load_atomic (v:=0) rfl rfl (by k_ne) rfl H.f_loadU64 (x_loadU64_n L) (x_loadU64_b L) (x_loadU64_x L) .u64 (x_loadU64_f L) rfl j.cellSt,λ_=> ?_,λh=>absurd rfl h⟩
  walk_nrm
  u_op (b _ _) a
  u_c ga (b _ _) a
  u_c sL (b _ _) a
  u_leave1 H.f_uLoad (b _ _) a
  u_op (b _ _) a
  u_c ga (b _ _) a
  u_c lE (b _ _) a
  u_reg (b _ _) a
  u_op (b _ _) a
  u_op (b _ _) a
  u_op (b _ _) a
  u_op (b _ _) a
  u_c ga (b _ _) a
  u_c lE (b _ _) a
  u_reg (b _ _) a
  u_op (b _ _) a
  u_op (b _ _) a
  u_op (b _ _) a
  u_op (b _ _) a
  u_c ga (b _ _) a
  u_c lE (b _ _) a
  u_c lE (b _ _) a
  u_reg (b _ _) a
  u_op (b _ _) a
  u_op (b _ _) a
  u_c ga (b _ _) a
  u_cond true (b _ _) a
  u_c lE (b _ _) a
  u_cond true (b _ _) a
  u_c lE (b _ _) a
  u_reg (b _ _) a
  refine qH (λc d=> ?_);replace a:=b _ _ a d;refine⟨rfl,_,uY .enable (by simp) rfl rfl (by k_ne) rfl H.f_enable (x_enable_n L) (x_enable_b L) (x_enable_x L) (x_enable_f L), ?_⟩
  walk_nrm
  u_c ga (b _ _) a
  u_reg (b _ _) a
  u_op (b _ _) a
  u_conv H.underlying_tWgP H.room_tWg (WgLive.cell0 a).choose_spec (b _ _) a
  refine qH (λc d=> ?_);replace a:=b _ _ a d;refine⟨rfl,_,uN .acquire (by simp) rfl rfl (by k_ne) rfl H.f_acquire (x_acquire_n L) (x_acquire_b L) (x_acquire_x L) (x_acquire_f L) (by simp[Act.eval,stA]), ?_⟩
  walk_nrm
  u_c ga (b _ _) a
  u_c lE (b _ _) a
  u_c lE (b _ _) a
  u_reg (b _ _) a
  u_op (b _ _) a
  u_op (b _ _) a
  u_op (b _ _) a
  u_op (b _ _) a
  u_op (b _ _) a
  u_op (b _ _) a
  u_op (b _ _) a
  u_op (b _ _) a
  u_skip (b _ _) a
  u_skip (b _ _) a
  u_op (b _ _) a
  u_c ga (b _ _) a
  u_cond false (b _ _) a
  u_c rK (b _ _) a
  u_c sL (b _ _) a
  u_leave0 H.f_wait (b _ _) a
  exact qH λk f=>x _ (b _ _ a f)
 .obtain⟨V,o⟩:∃V:Int,(v:Int)*KK=V:=⟨_,rfl⟩;have a1:V / 4294967296=(v:Int):=by rw[<-o];simp only[KK];omega
  have b1:bits .and .u64 V 2147483648=0:=by rw[<-o];have:=st_flag v 0 (by omega) (by omega);simpa[KK] using this
  have b2:bits .and .u64 V 2147483647=0:=by rw[<-o];have:=st_waiters v 0 (by omega) (by omega);simpa[KK] using this
  have c1:IntKind.i32.wrap (v:Int)=(v:Int):=by rw[IntKind.wrap_i32];omega
  have w1:IntKind.u64.wrap (V+1)=V+1:=by rw[IntKind.wrap_u64,<-o];simp only[KK];omega
  have q3:=db (show ¬((v:Int)<0) by omega);have q4:=dj (show 0<(v:Int) by omega);have q5:((v:Int) ==0)=false:=by simp;omega
  have q6:=db (show ¬((v:Int)=0) by omega);rw[o] at j;refine⟨_,stepG_load_atomic (v:=V) rfl rfl (by k_ne) rfl H.f_loadU64 (x_loadU64_n L) (x_loadU64_b L) (x_loadU64_x L) .u64 (x_loadU64_f L) rfl j.cellSt,λh0=>absurd h0 (by omega),λ_=> ?_⟩
  walk_nrm
  u_op (b _ _) a
  u_c ga (b _ _) a
  u_c sL (b _ _) a
  u_leave1 H.f_uLoad (b _ _) a
  u_op (b _ _) a
  u_c ga (b _ _) a
  u_c lE (b _ _) a
  u_reg (b _ _) a
  u_op (b _ _) a
  u_op (b _ _) a
  u_op (b _ _) a
  u_op (b _ _) a
  u_c ga (b _ _) a
  u_c lE (b _ _) a
  u_reg (b _ _) a
  u_op (b _ _) a
  u_op (b _ _) a
  u_op (b _ _) a
  u_op (b _ _) a
  u_c ga (b _ _) a
  u_c lE (b _ _) a
  u_c lE (b _ _) a
  u_reg (b _ _) a
  u_op (b _ _) a
  u_op (b _ _) a
  u_c ga (b _ _) a
  u_cnd false (b _ _) a
  u_c rK (b _ _) a
  u_c lE (b _ _) a
  u_reg (b _ _) a
  u_op (b _ _) a
  u_op (b _ _) a
  u_op (b _ _) a
  u_op (b _ _) a
  u_op (b _ _) a
  u_op (b _ _) a
  u_call H.f_uCas (nm_uCas L) uCasFn (b _ _) a
  u_c lE (b _ _) a
  u_reg (b _ _) a
  u_op (b _ _) a
  u_c ga (b _ _) a
  u_c lE (b _ _) a
  u_reg (b _ _) a
  u_op (b _ _) a
  u_op (b _ _) a
  u_op (b _ _) a
  u_op (b _ _) a
  u_op (b _ _) a
  refine qH (λk f=> ?_);replace a:=b _ _ a f;refine⟨rfl,λv' bt j=>⟨λe=> ?_,λe=> ?_⟩⟩
  .subst e;rw[o] at j ⊢;refine⟨_,stepG_cas_hit (v:=V) (n:=V+1) rfl rfl (by k_ne) rfl H.f_casU64 (x_casU64_n L) (x_casU64_b L) (x_casU64_x L) .u64 (x_casU64_f L) rfl rfl rfl j.cellSt (j.thaw 0), ?_⟩;replace a:WgLive L.tWg Wg (k.setCell (stA Wg) (.int .u64 (V+1))):=⟨_,_,j.setSt _⟩
   walk_nrm
   u_op (b _ _) a
   u_c ga (b _ _) a
   u_c sL (b _ _) a
   u_leave1 H.f_uCas (b _ _) a
   u_c ga (b _ _) a
   u_cond true (b _ _) a
   u_c lE (b _ _) a
   u_c lE (b _ _) a
   u_reg (b _ _) a
   u_op (b _ _) a
   u_op (b _ _) a
   u_op (b _ _) a
   u_op (b _ _) a
   u_c ga (b _ _) a
   u_cond true (b _ _) a
   u_reg (b _ _) a
   u_op (b _ _) a
   u_op (b _ _) a
   u_op (b _ _) a
   u_conv H.underlying_tPU32 H.room_tU32 (WgLive.cell1 a).choose_spec (b _ _) a
   refine qH (λm i=> ?_);replace a:=b _ _ a i;refine⟨rfl,_,uN .write (by simp) rfl rfl (by k_ne) rfl H.f_raceWrite (x_raceWrite_n L) (x_raceWrite_b L) (x_raceWrite_x L) (x_raceWrite_f L) (ad:=⟨Wg,1,none⟩) (by simp[Act.eval]), ?_⟩
   walk_nrm
   u_c ga (b _ _) a
   u_c lE (b _ _) a
   u_reg (b _ _) a
   u_op (b _ _) a
   u_c ga (b _ _) a
   u_c lE (b _ _) a
   u_c lE (b _ _) a
   u_reg (b _ _) a
   u_op (b _ _) a
   u_op (b _ _) a
   u_op (b _ _) a
   u_op (b _ _) a
   u_skip (b _ _) a
   u_op (b _ _) a
   u_c ga (b _ _) a
   u_cond false (b _ _) a
   u_c rK (b _ _) a
   u_c lE (b _ _) a
   u_reg (b _ _) a
   u_op (b _ _) a
   u_op (b _ _) a
   u_op (b _ _) a
   u_op (b _ _) a
   refine qH (λm i=> ?_);replace a:=b _ _ a i;refine⟨rfl,rfl,λ⟨st,j⟩=>stepG_semacquire_wait rfl rfl rfl H.f_semacquire (x_semacquire_n L) (x_semacquire_b L) (x_semacquire_x L) (x_semacquire_f L) (by simp[Act.eval,smA]) j.cellSm,λs=> ?_⟩;refine⟨_,(stepG_semacquire (n:=1) rfl rfl (by k_ne) rfl H.f_semacquire (x_semacquire_n L) (x_semacquire_b L) (x_semacquire_x L) (x_semacquire_f L) (by simp[Act.eval,smA]) s.cellSm (by decide) (s.thaw 1)).trans rfl, ?_⟩;replace a:WgLive L.tWg Wg (m.setCell (smA Wg) (.int .u32 0)):=⟨_,_,s.setSm 0⟩
   walk_nrm
   u_c ga (b _ _) a
   u_c lE (b _ _) a
   u_reg (b _ _) a
   u_op (b _ _) a
   u_op (b _ _) a
   u_op (b _ _) a
   u_call H.f_uLoad (nm_uLoad L) uLoadFn (b _ _) a
   u_c lE (b _ _) a
   u_reg (b _ _) a
   u_op (b _ _) a
   u_c ga (b _ _) a
   u_c lE (b _ _) a
   u_reg (b _ _) a
   u_op (b _ _) a
   u_op (b _ _) a
   u_op (b _ _) a
   refine qH (λu r=> ?_);replace a:=b _ _ a r;refine⟨rfl,λj=>⟨_,stepG_load_atomic (v:=0) rfl rfl (by k_ne) rfl H.f_loadU64 (x_loadU64_n L) (x_loadU64_b L) (x_loadU64_x L) .u64 (x_loadU64_f L) rfl j.cellSt, ?_⟩⟩
   walk_nrm
   u_op (b _ _) a
   u_c ga (b _ _) a
   u_c sL (b _ _) a
   u_leave1 H.f_uLoad (b _ _) a
   u_op (b _ _) a
   u_op (b _ _) a
   u_c ga (b _ _) a
   u_c lE (b _ _) a
   u_cond true (b _ _) a
   u_c lE (b _ _) a
   u_reg (b _ _) a
   refine qH (λq l=> ?_);replace a:=b _ _ a l;refine⟨rfl,_,uY .enable (by simp) rfl rfl (by k_ne) rfl H.f_enable (x_enable_n L) (x_enable_b L) (x_enable_x L) (x_enable_f L), ?_⟩
   walk_nrm
   u_c ga (b _ _) a
   u_reg (b _ _) a
   u_op (b _ _) a
   u_conv H.underlying_tWgP H.room_tWg (WgLive.cell0 a).choose_spec (b _ _) a
   refine qH (λq l=> ?_);replace a:=b _ _ a l;refine⟨rfl,_,uN .acquire (by simp) rfl rfl (by k_ne) rfl H.f_acquire (x_acquire_n L) (x_acquire_b L) (x_acquire_x L) (x_acquire_f L) (by simp[Act.eval,stA]), ?_⟩
   walk_nrm
   u_c ga (b _ _) a
   u_c lE (b _ _) a
   u_c lE (b _ _) a
   u_reg (b _ _) a
   u_op (b _ _) a
   u_c ga (b _ _) a
   u_cond false (b _ _) a
   u_c rK (b _ _) a
   u_c sL (b _ _) a
   u_leave0 H.f_wait (b _ _) a
   exact qH λk f=>x _ (b _ _ a f)
  .refine⟨_,stepG_cas_miss (v:=(v':Int)*KK) (old:=V) (n:=V+1) rfl rfl (by k_ne) rfl H.f_casU64 (x_casU64_n L) (x_casU64_b L) (x_casU64_x L) .u64 (x_casU64_f L) rfl rfl rfl j.cellSt (j.thaw 0) (by rw[<-o];simp only[KK];omega), ?_⟩
   walk_nrm
   u_op (b _ _) a
   u_c ga (b _ _) a
   u_c sL (b _ _) a
   u_leave1 H.f_uCas (b _ _) a
   u_c ga (b _ _) a
   u_cond false (b _ _) a
   u_c rK (b _ _) a
   u_c stepG_inBlock (b _ _) a
   u_c stepG_inLoop (b _ _) a
   exact qH λm i=>⟨_,rfl,by simp,by simp,b _ _ a i⟩
end
end
section
open Go Go.Conc Go.ConcN Go.RowKit Go.Conc.Lib Go.ConcR.Gen Go.ConcN.Gen
open Go.ConcR (KK wgBlock WgAt stA smA rd wr mk Payload DC0)
section
variable {P:Program} {R:World->World->Prop} {Wg:Nat}
def apE:abc Wg (mk (.read ⟨Wg,1,none⟩)):=⟨_,rfl,.inl rfl⟩
def ams:abc Wg (mk (.write ⟨Wg,1,none⟩)):=⟨_,rfl,.inr rfl⟩
def nG{D i:World->World->Array Event->Prop}{St c:Goroutine->World->Prop}{main:Bool}(k:∀w d e,D w d e->i w d e)(f:∀g w,St g w->c g w) :
  ∀{n:Nat} {g:Goroutine} {w:World},Goes P main R D St n g w->Goes P main R i c n g w
 |0,_,_,h=>λa b=>f _ _ (h a b)
 |n+1,g,w,h=>by
  rcases h with h|⟨l,h⟩
  .exact .inl λa b=>f _ _ (h a b)
  .refine .inr ⟨l,λa b=> ?_⟩;have:=h a b;cases j:stepG P main g a with
   |go m d e=>
    rw[j,tO] at this;rw[tO];exact⟨k _ _ _ this.1,nG k f this.2⟩
   |_=>rw[j] at this;exact this.elim
def avJ{D:World->World->Array Event->Prop}(b:n<=X)(h:Goes P main R D St n g w):Goes P main R D St X g w:=by
 induction b with
 |refl=>exact h
 |step _ a=>exact a.more
def dsd{es:Array Event}(h:DC0 w w' es):DSd Wg w w' es:=⟨h.1,by rw[h.2];simp⟩
def agD{e:Mark}(q:abc Wg (mk e))(s:∀g w,St g w->V g w)(i:∀w,R w w)(l:∀a b c,R a b->R b c->R a c) :
  ∀{n:Nat} {g:Goroutine} {w:World},Goes P true R DC0 (oK P R e m St) n g w->Goes P true R (DSd Wg) V (n+(m+1)) g w:=by
 have stop:∀{g:Goroutine} {w:World},(∀d,R w d->oK P R e m St g d)->Goes P true R (DSd Wg) V (m+1) g w:=λ{g w} h=>by
  refine .inr ⟨(h w (i w)).1,λd j=> ?_⟩;obtain⟨-,p,f,k⟩:=h d j;rw[f,tO];exact⟨⟨rfl,by simp;exact q⟩,nG (λ_ _ _ x=>dsd x) s k⟩
 intro n
 induction n with
 |zero=>intro g w h;rw[me];exact stop h
 |succ n r=>
  intro g w h;rcases h with h|⟨o,h⟩
  .exact avJ (by omega) (stop h)
  .rw[Nat.succ_add];refine .inr ⟨o,λd j=> ?_⟩;have:=h d j;cases f:stepG P true g d with
   |go p t u=>
    rw[f,tO] at this;rw[tO];exact⟨dsd this.1,r this.2⟩
   |_=>rw[f] at this;exact this.elim
end
section
variable [Payload] {P:Program} {ty:TypeId} {Wg C n:Nat} {R S:au}
def aaC(a:∀g w,St g w->V g w)(h:Goes P true (RM ty Wg C n R S) DC0 St m g w):GP P ty Wg C n R S V m g w:=nG (λ_ _ _ x=>dsd x) a h
def ayX{F:au->au->Goroutine->World->Prop}(a:∀g w,Goes P true (RM ty Wg C n R S) DC0 St m g w->F R S g w)(h:oK P (RM ty Wg C n R S) (.acquire (stA Wg)) m St g w):axO P Wg R S F g w:=
 ⟨h.1,let⟨b,e,k⟩:=h.2;⟨b,e,a _ _ k⟩⟩
section
variable {St:Goroutine->World->Prop} {F A:au->au->Goroutine->World->Prop} {amr:Goroutine->World->Prop} (hF:∀g w,Goes P true (RM ty Wg C n R S) DC0 St 20 g w->F R S g w) (hA:∀g w,amr g w->A R S g w)
include hF in
theorem awV(h:WKe P (RM ty Wg C n R S) Wg St g w):MKe P ty Wg C n R S F g w:=
 ⟨h.1,let⟨a,e,k⟩:=h.2;⟨a,e,_,aaC (λ_ _ x=>ayX hF x) k⟩⟩
include hF in
theorem aBF(h:WW4 P (RM ty Wg C n R S) ty Wg St g w):MW4 P ty Wg C n R S F g w:=
 ⟨h.1,λa=>let⟨b,e,k⟩:=h.2 a;⟨b,e,_,aaC (λ_ _ x=>awV hF x) k⟩⟩
include hF in
theorem aBG(h:WW3 P (RM ty Wg C n R S) ty Wg St g w):MW3 P ty Wg C n R S F g w:=
 ⟨h.1,h.2.1,h.2.2.1,λa=>let⟨b,e,k⟩:=h.2.2.2 a;⟨b,e,_,aaC (λ_ _ x=>aBF hF x) k⟩⟩
include hF hA in
theorem aBH{v:Nat}(h:WW2 P (RM ty Wg C n R S) ty Wg amr St v g w):MW2 P ty Wg C n R S A F v g w:=
 ⟨h.1,λd f c=>⟨λe=>let⟨b,a,k⟩:=(h.2 d f c).1 e;⟨b,a,_,agD ams (λ_ _ x=>aBG hF x) (jN.refl _ _ _) (λ_ _ _=>jN.trans) k⟩,
  λe=>let⟨b,a,k⟩:=(h.2 d f c).2 e;⟨b,a,_,aaC hA k⟩⟩⟩
include hF hA in
theorem azl(h:WW1 P (RM ty Wg C n R S) ty Wg amr St g w):MW1 P ty Wg C n R S A F g w:=
 ⟨h.1,λv c b=>let⟨f,e,d,a⟩:=h.2 v c b;⟨f,e,λe=>⟨_,aaC (λ_ _ x=>awV hF x) (d e)⟩,λe=>⟨_,aaC (λ_ _ x=>aBH hF hA x) (a e)⟩⟩⟩
include hA in
theorem azm(h:oK P (RM ty Wg C n R S) .disable m amr g w):MKd P ty Wg C n R S A g w:=
 ⟨h.1,let⟨a,e,k⟩:=h.2;⟨a,e,_,aaC hA k⟩⟩
end
section
variable {val:Nat->Value} {j:Nat} {Next:au->Goroutine->World->Prop} {St:Goroutine->World->Prop}
def asU(a:∀g w,Goes P true (RM ty Wg C n R S) DC0 St m g w->∃T,GM P ty Wg C n R (MGo P ty Wg C n val j Next R) T S g w)(h:oK P (RM ty Wg C n R S) .enable m St g w):axP P ty Wg C n val j Next R S g w:=
 ⟨h.1,let⟨b,e,k⟩:=h.2;⟨b,e,a _ _ k⟩⟩
def aBI(b:∀g w,Goes P true (RM ty Wg C n R S) DC0 St 3 g w->∃T,GM P ty Wg C n R (MGo P ty Wg C n val j Next R) T S g w)(h:ah8 P (RM ty Wg C n R S) ty Wg St g w):MA1 P ty Wg C n val j Next R S g w:=
 ⟨h.1,λv f d=>by
  obtain⟨k,e,i,c⟩:=h.2 v f d;refine⟨k,e, ?_⟩;by_cases a:v=0
  .exact⟨_,agD apE (λ_ _ x=>asU b x) (jN.refl _ _ _) (λ_ _ _=>jN.trans) (i a)⟩
  .exact⟨_,aaC (λ_ _ x=>asU b x) (c a)⟩⟩
def aw8(a:∀g w,Goes P true (RM ty Wg C n R S) DC0 St 3 g w->∃T,GM P ty Wg C n R (MGo P ty Wg C n val j Next R) T S g w)(h:oK P (RM ty Wg C n R S) .disable m (ah8 P (RM ty Wg C n R S) ty Wg St) g w):apX P ty Wg C n val j Next R S g w:=
 ⟨h.1,let⟨b,e,k⟩:=h.2;⟨b,e,_,aaC (λ_ _ x=>aBI a x) k⟩⟩
end
end
end
section
open Go Go.Conc Go.ConcN Go.RowKit Go.Conc.Lib Go.ConcR.Gen Go.ConcN.Gen
open Go.ConcR (KK wgBlock WgAt stA smA rd wr mk Payload Aside2 DC0)
section
variable (P:Program) (R:World->World->Prop) (Wg:Nat)
def asV(g:Goroutine)(w:World):Prop:=∃a,stepG P false g w=.go a w #[mk .disable]
def ayY(m:Nat)(g:Goroutine)(w:World):Prop:=∃a,stepG P false g w=.go a w #[mk (.releaseMerge (stA Wg))]/\Goes P false R DC0 (asV P) m a w
end
section
variable {P:Program} {L:WgLink} {R:World->World->Prop} {Wg:Nat} {c:Frame} {cs:List Frame}
def apF(H:WgLib P L)(b:∀w d,WgLive L.tWg Wg w->R w d->WgLive L.tWg Wg d)(w:World)(a:WgLive L.tWg Wg w) :
  Goes P false R DC0 (ayY P R Wg 10) 23 (G ((baseD L.done).at ⟨#[.pointer (some ⟨Wg,0,none⟩),undef,undef,undef],[]⟩ [.code (body_done L)]) (c::cs)) w:=by
 lib_facts
 simp only[body_done,body_add,doneFn,addFn,qp]
 u_reg (b _ _) a
 u_op (b _ _) a
 u_in (b _ _) a
 refine goes_call rfl rfl (by k_ne) rfl H.f_add (nm_add L) rfl ⟨by u_nil, ?_⟩
 walk_nrmf addFn
 u_c lE (b _ _) a
 u_cond true (b _ _) a
 u_c lE (b _ _) a
 u_c lE (b _ _) a
 u_reg (b _ _) a
 u_op (b _ _) a
 u_op (b _ _) a
 u_c ga (b _ _) a
 u_cond true (b _ _) a
 u_reg (b _ _) a
 u_op (b _ _) a
 u_conv H.underlying_tWgP H.room_tWg (WgLive.cell0 a).choose_spec (b _ _) a
 refine qH (λd e=> ?_);replace a:=b _ _ a e;refine⟨_,uN .releaseMerge (by simp) rfl rfl (by k_ne) rfl H.f_relMerge (x_relMerge_n L) (x_relMerge_b L) (x_relMerge_x L) (x_relMerge_f L) (by simp[Act.eval,stA]), ?_⟩
 walk_nrm
 u_c ga (b _ _) a
 u_c lE (b _ _) a
 u_reg (b _ _) a
 refine qH (λd e=> ?_);replace a:=b _ _ a e;exact⟨_,uY .disable (by simp) rfl rfl (by k_ne) rfl H.f_disable (x_disable_n L) (x_disable_b L) (x_disable_x L) (x_disable_f L)⟩
end
section
variable [Payload] {P:Program} {ty:TypeId} {Wg C n k:Nat} {R:World->World->Prop} {v:Value}
def asW(c:∀w,R w w)(q:∀g w,St g w->∃p,stepG P false g w=.go p w #[mk (.releaseMerge (stA Wg))]) :
  ∀{m f:Nat} {g:Goroutine} {w:World},Goes P false R DC0 (asV P) m g w->¬Goes P false R (DWs Wg FF FF C n k) St f g w:=by
 have i:∀{f:Nat} {g:Goroutine} {w:World},(∀a,R w a->asV P g a)->¬Goes P false R (DWs Wg FF FF C n k) St f g w:=λ{f g w} d b=>by
  obtain⟨p,e⟩:=d w (c w);have l:¬ ∀a,R w a->St g a:=λh=>by
   obtain⟨s,o⟩:=q _ _ (h w (c w));rw[e] at o;cases o
  cases f with
  |zero=>exact l b
  |succ f=>
   rcases b with b|⟨-,b⟩
   .exact l b
   .have:=b w (c w);rw[e,tO] at this;exact(this.1.2 (mk .disable) (by simp)).2.1 rfl
 intro m
 induction m with
 |zero=>intro f g w d b;exact i d b
 |succ m t=>
  intro f g w d b;rcases d with d|⟨-,d⟩
  .exact i d b
  .have d:=d w (c w);obtain⟨p,j,u,e,⟨rfl,rfl⟩,r⟩:=goes_elim d;have l:¬ ∀a,R j a->St g a:=λh=>by
    obtain⟨s,o⟩:=q _ _ (h j (c j));rw[e] at o;cases o
   cases f with
   |zero=>exact l b
   |succ f=>
    rcases b with b|⟨-,b⟩
    .exact l b
    .have:=b j (c j);rw[e,tO] at this;exact t r this.2
def amt(j:∀w,R w w)(r:∀a b c,R a b->R b c->R a c)(y:∀g w,St g w->∃t,stepG P false g w=.go t w #[mk (.releaseMerge (stA Wg))]) :
  ∀{m o i:Nat} {g:Goroutine} {w:World},Goes P false R DC0 (ayY P R Wg o) m g w->Goes P false R (DWs Wg FF FF C n k) St i g w->Goes P false R DC0 St m g w:=by
 have p:∀{m o i:Nat} {g:Goroutine} {w:World},(∀d,R w d->ayY P R Wg o g d)->Goes P false R (DWs Wg FF FF C n k) St i g w->Goes P false R DC0 St m g w:=λ{m o i g w} l f=>by
  refine qH λd q=> ?_;have f:=tK r f q;cases i with
  |zero=>exact f d (j _)
  |succ i=>
   rcases f with f|⟨-,f⟩
   .exact f d (j _)
   .obtain⟨t,e,s⟩:=l d q;have:=f d (j _);rw[e,tO] at this;exact absurd this.2 (asW j y s)
 intro m
 induction m with
 |zero=>intro o i g w l f;exact p l f
 |succ m x=>
  intro o i g w l f;rcases l with l|⟨u,l⟩
  .exact p l f
  .cases i with
   |zero=>exact .inl f
   |succ i=>
    rcases f with f|⟨-,f⟩
    .exact .inl f
    .refine .inr ⟨u,λd q=> ?_⟩;obtain⟨t,z,A,e,hd,v⟩:=goes_elim (l d q);have:=f d q;rw[e,tO] at this ⊢;exact⟨hd,x v this.2⟩
end
section
variable [Payload] {P:Program} {L:WgLink} {Wg C n κ:Nat} {val:Nat->Value} {R S:au} {c:Frame} {cs:List Frame} {qt:Nat}
def apG(H:WgLib P L)(q:c.mode=.returning)(D:QuitsD P qt 0 (G c cs))(w:World)(v:WgLive L.tWg Wg w)(B:Has C (2*κ) (val (2*κ)) w)(o:Has C (2*κ+1) (val (2*κ+1)) w) :
  bK P false (jN L.tWg Wg C (2*n) R (dZ κ)) (Gua Wg C (2*n) R (dZ κ)) (agn P L.tWg Wg C n val κ) S (G ((baseD L.done).at ⟨#[.pointer (some ⟨Wg,0,none⟩),undef,undef,undef],[]⟩ [.code (body_done L)]) (c::cs)) w:=by
 have J:=doneN H (Own:=FF) (Rd:=FF) (Wg:=Wg) (C:=C) (n:=2*n) (Low:=0) (k:=2*κ+1) (val:=val (2*κ)) q D w ⟨v,B⟩;have K:=apF (Wg:=Wg) (R:=RW L.tWg Wg C (2*n) 0 (2*κ+1-1)) (c:=c) (cs:=cs) H (λ_ _ h r=>r.live h) w v;have E:=amt (St:=AtR0 P L.tWg Wg C (2*n) 0 (2*κ+1) (val (2*κ))) (λw=>⟨λ_ _ _ _=>rfl,id,id,rfl⟩) (λa b c x y=>⟨λb o u z=>(y.low b o u z).trans (x.low b o u z),y.live∘x.live,y.pay∘x.pay,y.cell.trans x.cell⟩)
  (λg w h=>let⟨_,_,s,e,_⟩:=h;⟨s,e⟩) K J
 have t:∀{m:Nat} {g:Goroutine} {w:World},Has C (2*κ+1) (val (2*κ+1)) w->Goes P false (RW L.tWg Wg C (2*n) 0 (2*κ+1-1)) DC0 (AtR0 P L.tWg Wg C (2*n) 0 (2*κ+1) (val (2*κ))) m g w->
   bK P false (jN L.tWg Wg C (2*n) R (dZ κ)) (Gua Wg C (2*n) R (dZ κ)) (agn P L.tWg Wg C n val κ) S g w:=by
  have j:∀{w d:World},jN L.tWg Wg C (2*n) R (dZ κ) S w d->RW L.tWg Wg C (2*n) 0 (2*κ+1-1) w d:=λf=>jN.rw (i:=2*κ) f (by show 2*κ / 2=κ;omega);have l:∀{w d:World},Has C (2*κ+1) (val (2*κ+1)) w->jN L.tWg Wg C (2*n) R (dZ κ) S w d->Has C (2*κ+1) (val (2*κ+1)) d:=λh f=>(f.cell (2*κ+1) (by show(2*κ+1) / 2=κ;omega)).trans h;intro m
  induction m with
  |zero=>intro g w p h;exact .stop λd f=>⟨h d (j f),l p f⟩
  |succ m M=>
   intro g w p h;rcases h with h|⟨F,h⟩
   .exact .stop λd f=>⟨h d (j f),l p f⟩
   .refine .step F λd f=> ?_;obtain⟨s,A,N,e,⟨rfl,rfl⟩,I⟩:=goes_elim (h d (j f));exact⟨s,A,#[],S,e,⟨λ_ _ _ _=>rfl,am _,rfl,id,λ_ _=>rfl,λ_ h=>h,λ_ h=>.inl h,by simp⟩,M (l p f) I⟩
 exact t o E
end
end
section
open Go Go.Conc Go.ConcN Go.RowKit
open Go.ConcR (KK wgBlock WgAt stA smA rd wr mk Payload DC0)
instance aE8:Payload:=⟨140⟩
structure Wx where
 w0:World
 Wg:Nat
 C:Nat
 n2:Nat
 κ:Nat
 R:au
 Rg:Nat->Prop
 key:Int
 A:Option Addr
 n:Nat
 c:Nat
 l:List iR
 nm:Int
 bk:Nat
 bp:Nat
 bn:Nat
 ba:Nat
 bi:Nat
 tWg:TypeId
structure Wx.Ok (X:Wx):Prop where
 hN:gN<=X.w0.heap.size
 gl:∀g∈gL,X.Rg g
 gr:∀g∈gL,eI X.w0 g
 k1:1<=X.key
 k2:X.key<=99
 hl:X.l.length=X.n
 hc:X.n<=X.c
 hcm:(X.c:Int)<=9223372036854775807
 rd:RdP X.w0 X.A 0 X.l
 rgp:RgP X.Rg X.w0 X.A X.l
 al:∀a,X.A=some a->X.Rg a.block
 nm:In_ X.nm
 kn:X.κ<X.n2
 rows:∀b,X.Rg b->X.R b
 rk:X.R X.bk/\X.w0.cell? ⟨X.bk,0,none⟩=some (.int .i64 X.key)
 rp:X.R X.bp/\X.w0.cell? ⟨X.bp,0,none⟩=some (.slice X.A X.n X.c)
 rn:X.R X.bn/\X.w0.cell? ⟨X.bn,0,none⟩=some (.int .i64 X.nm)
 ra:X.R X.ba/\X.w0.cell? ⟨X.ba,0,none⟩=some (.slice (some ⟨X.C,0,none⟩) X.n2 X.n2)
 ri:X.R X.bi/\X.w0.cell? ⟨X.bi,0,none⟩=some (.int .i64 X.κ)
 rlt:∀b,X.R b->b<X.w0.heap.size
 rC:¬X.R X.C
 rW:¬X.R X.Wg
 cW:X.C≠X.Wg
abbrev Wx.Rl(X:Wx):au->World->World->Prop:=jN X.tWg X.Wg X.C (2*X.n2) X.R (dZ X.κ)
abbrev Wx.Gr(X:Wx):au->au->World->World->Array Event->Prop:=Gua X.Wg X.C (2*X.n2) X.R (dZ X.κ)
def Wx.nh(X:Wx):pw X.Rl X.R:=⟨λS w=>jN.refl _ _ _ _,λ_ _ _ _=>jN.trans,λ_ _ _ h=>⟨h.keep,h.size,h.os⟩⟩
structure Wx.Inv (X:Wx) (S:au) (w:World):Prop where
 r:∀b,X.R b->w.heap[b]?=X.w0.heap[b]?
 s:∀b,S b->¬X.R b/\b≠X.C/\b≠X.Wg
 c:X.C<w.heap.size
 wg:X.Wg<w.heap.size
 sz:X.w0.heap.size<=w.heap.size
 live:WgLive X.tWg X.Wg w
 pay:PayAt X.C (2*X.n2) w
 os:w.ou=X.w0.ou
section
variable {X:Wx} {S S':au} {w w' w1:World} {es:Array Event}
def Wx.Inv.rely(h:X.Inv S w)(a:X.Rl S w w1):X.Inv S w1:=
 ⟨λb c=>(a.keep b (.inr c)).trans (h.r b c),h.s,bd h.c a.size,bd h.wg a.size,ap h.sz a.size,a.live h.live,a.pay h.pay,a.os.trans h.os⟩
def Wx.step(s:X.Ok)(h:X.Inv S w)(g:px X.R S S' w w' es):X.Gr S S' w w' es/\X.Inv S' w':=by
 obtain⟨l,k,q,rfl,B⟩:=g;have m:w'.heap[X.C]?=w.heap[X.C]?:=l _ h.c λd=>(h.s _ d).2.1 rfl;have r:w'.heap[X.Wg]?=w.heap[X.Wg]?:=l _ h.wg λd=>(h.s _ d).2.2 rfl;refine⟨⟨λb c A _=>l b c A,k,q,λ⟨n,a,b⟩=>⟨n,m.trans a,b⟩,λi _=>uB m i,λb c=>.inl c,λb c=>c,λe E=> ?_⟩, ?_⟩
 .obtain⟨C,o,D⟩:=B e E;refine⟨λx v=>(C x v).elim .inl λy=>.inr (.inr y),λj=> ?_,λj=> ?_,λj=> ?_,D⟩
  .rcases o _ j with⟨f,e⟩|e<;>cases e
  .rcases o _ j with⟨f,e⟩|e<;>cases e
  .rcases o _ j with⟨f,e⟩|e<;>cases e
 .have p:∀b,X.R b->b<w.heap.size:=λb c=>bd (s.rlt b c) h.sz;refine⟨λb c=>(l b (p b c) λd=>(h.s b d).1 c).trans (h.r b c),λb c=> ?_,bd h.c k,bd h.wg k,ap h.sz k, ?_, ?_,q.trans h.os⟩
  .rcases c with c|⟨c,_⟩
   .exact h.s b c
   .refine⟨λu=> ?_,λe=> ?_,λe=> ?_⟩
    .have:=p b u;omega
    .have:=h.c;omega
    .have:=h.wg;omega
  .obtain⟨z,sm,t⟩:=h.live;exact⟨z,sm,r.trans t⟩
  .obtain⟨n,a,b⟩:=h.pay;exact⟨n,m.trans a,b⟩
def Wx.lift(c:X.Ok)(h:bK prog false X.Rl (px X.R) Stop S g w)(hi:X.Inv S w):bK prog false X.Rl X.Gr (λS g w=>Stop S g w/\X.Inv S w) S g w:=
 bK.inv (Rl:=X.Rl) (Gr:=px X.R) (Gr2:=X.Gr) (Stop:=Stop) (Inv:=X.Inv) (λ_ _ _ a b=>a.rely b) (λ_ _ _ _ _ a b=>Wx.step c a b) (λ_ _ _ a b=>⟨a,b⟩) h hi
def Wx.Inv.cell(h:X.Inv S w)(a:X.R b)(c:X.w0.cell? ⟨b,i,none⟩=some v):w.cell? ⟨b,i,none⟩=some v:=(uB (h.r b a) i).trans c
end
end
section
open Go Go.Conc Go.ConcN Go.RowKit
open Go.ConcR (KK wgBlock WgAt stA smA rd wr mk Payload DC0)
abbrev nCl:FuncId:=77
def lr:Code->Code
 |.seq a _=>a
 |c=>c
def uA:Code->Array Oper
 |.region _ o _=>o
 |_=>#[]
noncomputable def anF:Code:=f77.body.getD .skip
noncomputable def oJ:Array Oper:=uA (lr anF)
noncomputable def aY:Array Oper:=uA (cu anF)
def asX:anF=.seq (.region 0 oJ false) (.region 1 aY true):=rfl
def anG:aY.size=8:=rfl
def aBJ:∃p,aY[0]?=some ⟨some 6,.load 127 (.tmp 4),127,p,#[],none⟩:=⟨_,rfl⟩
def aBK:∃p,aY[1]?=some ⟨some 7,.load 3 (.tmp 5),3,p,#[],none⟩:=⟨_,rfl⟩
def aBL:∃p,aY[2]?=some ⟨some 8,.load 3 (.tmp 1),3,p,#[],none⟩:=⟨_,rfl⟩
def aBM:∃p,aY[3]?=some ⟨some 9,.load 23 (.tmp 2),23,p,#[],none⟩:=⟨_,rfl⟩
def aBN:∃p,aY[4]?=some ⟨some 10,.load 3 (.tmp 3),3,p,#[],none⟩:=⟨_,rfl⟩
def aBO:∃p,aY[5]?=some ⟨some 11,.call ⟨.value (.func 79),#[.tmp 8,.tmp 9,.tmp 10],#[3,23,3]⟩,140,p,#[⟨2,.data⟩,⟨3,.data⟩,⟨4,.data⟩],none⟩:=⟨_,rfl⟩
def aBP:∃p,aY[6]?=some ⟨some 12,.indexAddr 127 (.tmp 6) (.tmp 7),0,p,#[⟨0,.data⟩,⟨1,.data⟩,⟨0,.phase⟩,⟨1,.phase⟩,⟨2,.phase⟩,⟨3,.phase⟩,⟨4,.phase⟩,⟨5,.phase⟩],none⟩:=⟨_,rfl⟩
def aBQ:∃p,aY[7]?=some ⟨none,.store 140 (.tmp 12) (.tmp 11),0,p,#[⟨6,.data⟩,⟨5,.data⟩,⟨5,.chain⟩,⟨0,.phase⟩,⟨1,.phase⟩,⟨2,.phase⟩,⟨3,.phase⟩,⟨4,.phase⟩,⟨5,.phase⟩],none⟩:=⟨_,rfl⟩
def kg(L:Nat->Bool):Nat->Bool
 |5=>L 2&&L 3&&L 4
 |6=>L 0&&L 1&&L 2&&L 3&&L 4&&L 5
 |7=>L 6&&L 5&&L 0&&L 1&&L 2&&L 3&&L 4
 |_=>true
def anH(L:Nat->Bool)(hi:i<8):((aY[i]?).map (λo:Oper=>o.after.all λe=>!Region.binds .any e||L e.on)).getD false=kg L i:=by
 have:i=0\/i=1\/i=2\/i=3\/i=4\/i=5\/i=6\/i=7:=by omega
 rcases this with rfl|rfl|rfl|rfl|rfl|rfl|rfl|rfl
 .obtain⟨p,e⟩:=aBJ;rw[e];simp[kg]
 .obtain⟨p,e⟩:=aBK;rw[e];simp[kg]
 .obtain⟨p,e⟩:=aBL;rw[e];simp[kg]
 .obtain⟨p,e⟩:=aBM;rw[e];simp[kg]
 .obtain⟨p,e⟩:=aBN;rw[e];simp[kg]
 .obtain⟨p,e⟩:=aBO;rw[e];simp[Region.binds,kg,wl]
 .obtain⟨p,e⟩:=aBP;rw[e];simp[Region.binds,kg];cases L 0<;>cases L 1<;>simp[wl]
 .obtain⟨p,e⟩:=aBQ;rw[e];simp[Region.binds,kg];cases L 5<;>cases L 6<;>simp[wl]
def afq(d:listed.size=8) :i∈Region.ready .any aY listed↔i<8/\listed.getD i false=false/\kg (λj=>listed.getD j false) i=true:=by
 unfold Region.ready;rw[sU,qz,anG];constructor
 .rintro⟨b,a⟩;rw[anH (λj=>listed.getD j false) b] at a;simp only[ge,vH] at a;refine⟨b, ?_,a.2⟩;have:=a.1;rw[jn,gn (by omega)] at this ⊢;exact this
 .rintro⟨b,a,c⟩;refine⟨b, ?_⟩;rw[anH (λj=>listed.getD j false) b,c];rw[jn,gn (by omega)] at a ⊢;simp only[qp] at a ⊢;rw[a];rfl
def unW(listed:Array Bool):Nat:=(List.range 8).countP λi=>!listed.getD i false
def agE{p q:Nat->Bool}:∀{l:List Nat} {x:Nat},(∀y,q y=true->p y=true)->x∈l->p x=true->q x=false->l.countP q<l.countP p
 |[],x,_,b,_,_=>by cases b
 |a::l,x,h,b,hp,hq=>by
  rw[List.countP_cons,List.countP_cons];have e:l.countP q<=l.countP p:=List.countP_mono_left λy _=>h y;rcases pb.1 b with rfl|b
  .rw[hp,hq];simp;omega
  .have:=agE h b hp hq;have f:=h a;cases d:q a<;>cases c:p a<;>simp_all<;>omega
def iQ(hi:i<listed.size):(listed.setIfInBounds i true).getD j false=if j=i then true else listed.getD j false:=by
 rw[jn,jn,oS];by_cases e:i=j
 .subst e;simp[hi]
 .rw[da e,da (λx=>e x.symm)]
def avK(b:listed.size=8)(hi:i<8)(h:listed.getD i false=false):unW (listed.setIfInBounds i true)<unW listed:=by
 refine agE (x:=i) (λy a=> ?_) (qz.2 hi) (by rw[h];rfl) (by rw[iQ (by omega)];simp);rw[iQ (by omega)] at a;by_cases e:y=i
 .simp[e] at a
 .simpa[e] using a
def aBR(m:listed.size=8)(h:Region.ready .any aY listed=[]\/unW listed=0):∀i,i<8->listed.getD i false=true:=by
 rcases h with h|h
 .have a:∀i,i<8->kg (λj=>listed.getD j false) i=true->listed.getD i false=true:=λi b hd=>by
   cases e:listed.getD i false with
   |true=>rfl
   |false=>
    have:i∈Region.ready .any aY listed:=(afq m).2 ⟨b,e,hd⟩;rw[h] at this;cases this
  have g:=a 0 (by omega) rfl;have k:=a 1 (by omega) rfl;have c:=a 2 (by omega) rfl;have d:=a 3 (by omega) rfl;have f:=a 4 (by omega) rfl;have l:=a 5 (by omega) (by simp only[kg,c,d,f];rfl);have n:=a 6 (by omega) (by simp only[kg,g,k,c,d,f,l];rfl);have o:=a 7 (by omega) (by simp only[kg,g,k,c,d,f,l,n];rfl);intro i b;have:i=0\/i=1\/i=2\/i=3\/i=4\/i=5\/i=6\/i=7:=by omega
  rcases this with rfl|rfl|rfl|rfl|rfl|rfl|rfl|rfl<;>assumption
 .intro i b;have:=List.countP_eq_zero.1 h i (qz.2 b);simpa using this
end
section
open Go Go.Conc Go.ConcN Go.RowKit
open Go.ConcR (KK wgBlock WgAt stA smA rd wr mk Payload DC0)
def Wx.cap(X:Wx):Nat->Value
 |1=>.pointer (some ⟨X.bk,0,none⟩)
 |2=>.pointer (some ⟨X.bp,0,none⟩)
 |3=>.pointer (some ⟨X.bn,0,none⟩)
 |4=>.pointer (some ⟨X.ba,0,none⟩)
 |_=>.pointer (some ⟨X.bi,0,none⟩)
def Wx.val(X:Wx)(v:ByteArray×Bool):Nat->Value
 |0=>.slice (some ⟨X.C,0,none⟩) X.n2 X.n2
 |1=>.int .i64 X.κ
 |2=>.int .i64 X.key
 |3=>.slice X.A X.n X.c
 |4=>.int .i64 X.nm
 |5=>.agg #[.string v.1,.bool v.2]
 |_=>.pointer (some ⟨X.C,2*X.κ,none⟩)
abbrev FW(dd:Deferred)(T:Array Value)(k:List Item):Frame:=⟨nCl,T,k,[dd],.run,.deferred,none⟩
structure RI (X:Wx) (v:ByteArray×Bool) (listed:Array Bool) (T:Array Value) (S:au) (w:World):Prop where
 sz:T.size=13
 cap:∀t,1<=t->t<=5->T.getD t undef=X.cap t
 done:∀j,j<7->listed.getD j false=true->T.getD (6+j) undef=X.val v j
 st:listed.getD 7 false=true->Has X.C (2*X.κ) (.string v.1) w/\Has X.C (2*X.κ+1) (.bool v.2) w
 ord:listed.getD 7 false=true->∀j,j<7->listed.getD j false=true
 inv:X.Inv S w
section
variable {P:Program} {m:Bool} {fr:Frame} {xs base:List Frame} {ops:Array Oper} {i:Nat} {rest:List Nat} {k:List Item} {o:Oper} {w w2:World} {es:Array Event} {v:Value}
def asY (f:fr.mode=.run) (g:(fr.kind ==.early)=false) (b:fr.roundOf=none) (e:fr.todo=.inRegion ops (i::rest)::k) (n:ops[i]?=some o) (q:o.guard=none)
  (p:(execOp fr.eval o).runT P w #[]=(.ok (.value v) w2,es)):stepG P m (Gl (fr::xs) base) w=.go (Gl (fr.finish v::xs) base) w2 (seen P fr.fn es):=by
 obtain⟨fn,a,j,d,t,c,s⟩:=fr;dsimp only at f g b e;subst f b e;have l:∀y,Region.wanted o y=true:=λy=>by unfold Region.wanted;rw[q]
 have r:stepG P m (Gl (⟨fn,a,.inRegion ops (i::rest)::k,d,.run,c,none⟩::xs) base) w =
   stepG.apply P true ⟨fn,a,.inRegion ops (i::rest)::k,d,.run,c,none⟩ (xs++base) none (execOp (Frame.eval ⟨fn,a,.inRegion ops (i::rest)::k,d,.run,c,none⟩) o) w:=by
  simp[Gl,stepG,stepG.exec,stepG.oper,Frame.oper?,n,l]
 rw[r];unfold stepG.apply;simp only[p,pv];simp[GStep.after,g,Gl]
def aj4 (f:fr.mode=.run) (g:(fr.kind ==.early)=false) (b:fr.roundOf=none) (e:fr.todo=.inRegion ops (i::rest)::k) (n:ops[i]?=some o) (q:o.guard=none)
  (p:(execOp fr.eval o).runT P w #[]=(.ok .skip w2,es)):stepG P m (Gl (fr::xs) base) w=.go (Gl (fr.finish undef::xs) base) w2 (seen P fr.fn es):=by
 obtain⟨fn,a,j,d,t,c,s⟩:=fr;dsimp only at f g b e;subst f b e;have l:∀y,Region.wanted o y=true:=λy=>by unfold Region.wanted;rw[q]
 have r:stepG P m (Gl (⟨fn,a,.inRegion ops (i::rest)::k,d,.run,c,none⟩::xs) base) w =
   stepG.apply P true ⟨fn,a,.inRegion ops (i::rest)::k,d,.run,c,none⟩ (xs++base) none (execOp (Frame.eval ⟨fn,a,.inRegion ops (i::rest)::k,d,.run,c,none⟩) o) w:=by
  simp[Gl,stepG,stepG.exec,stepG.oper,Frame.oper?,n,l]
 rw[r];unfold stepG.apply;simp only[p,pv];simp[GStep.after,g,Gl]
end
noncomputable def fC:Frame:={(default:Frame) with fn:=prog.funcs.size,defers:=[],mode:=.panicking [goexitEntry]}
section
variable {X:Wx} {v:ByteArray×Bool} {listed:Array Bool} {T T':Array Value} {S:au} {w w1:World} {dd:Deferred} {k:List Item} {rest:List Nat}
def acu(h:Has X.C (2*X.κ) (.string v.1) w/\Has X.C (2*X.κ+1) (.bool v.2) w)(a:X.Rl S w w1):Has X.C (2*X.κ) (.string v.1) w1/\Has X.C (2*X.κ+1) (.bool v.2) w1:=
 ⟨(a.cell (2*X.κ) (by show 2*X.κ / 2=X.κ;omega)).trans h.1,(a.cell (2*X.κ+1) (by show(2*X.κ+1) / 2=X.κ;omega)).trans h.2⟩
def RI.rely(h:RI X v listed T S w)(a:X.Rl S w w1):RI X v listed T S w1:=⟨h.sz,h.cap,h.done,λe=>acu (h.st e) a,h.ord,h.inv.rely a⟩
def RI.put(h:RI X v listed T S w)(k:listed.size=8)(hi:i<7)(b:Tm [6+i] T T')(d:T'.getD (6+i) undef=X.val v i):RI X v (listed.setIfInBounds i true) T' S w:=by
 refine⟨b.size.trans h.sz,λt f g=>(b.same t (by simp;omega)).trans (h.cap t f g),λj c e=> ?_,λe=> ?_,λe j c=> ?_,h.inv⟩
 .by_cases a:j=i
  .subst a;exact d
  .rw[iQ (by omega),da a] at e;exact(b.same (6+j) (by simp;omega)).trans (h.done j c e)
 .rw[iQ (by omega),da (by omega)] at e;exact h.st e
 .rw[iQ (by omega),da (by omega)] at e;rw[iQ (by omega)];by_cases a:j=i
  .rw[eg a]
  .rw[da a];exact h.ord e j c
def asZ(hi:X.Inv S w)(g:X.Ok)(c:X.R b):X.Gr S S w w (seen prog f #[⟨.cell ⟨b,0,none⟩,false,false⟩]):=by
 refine⟨λ_ _ _ _=>rfl,am _,rfl,id,λ_ _=>rfl,λ_ h=>h,λ_ h=>.inl h,λe i=> ?_⟩;have a:=tp i;simp only[sJ,pb,rG,uf] at a;subst a;refine⟨λx d=>.inr (.inr ?_),(λe=>by cases e),(λe=>by cases e),(λe=>by cases e), ?_⟩
 .simp[MemAct.ofEvent,MemAct.touch?] at d;rw[<-d];exact⟨c,rfl⟩
 .exact bd (g.rlt b c) hi.sz
def aj5 :X.Gr S S w w (seen prog f #[]):=
 ⟨λ_ _ _ _=>rfl,am _,rfl,id,λ_ _=>rfl,λ_ h=>h,λ_ h=>.inl h,λe a=>by cases(by simpa using tp a:False)⟩
def aie{x:Operand}{A:Addr}{dst:Option Tmp}{ty:TypeId}{pos:String}(b:P.underlying t=some d)(a:ajg d=true)(c:e x=.pointer (some A))(f:w.cell? A=some u) :
  (execOp e ⟨dst,.load t x,ty,pos,af,gd⟩).runT P w #[]=(.ok (.value u) w,#[⟨.cell A,false,false⟩]):=by
 cases d<;>first|(cases a;done)|simp[execOp,c,Instr.loadAt,Instr.sureAddr,loadVar,isAgg,mu b,f]
def acv (n:X.Ok) (h:RI X v listed T S w) {t ty : Nat}  (hi:i<5) (a:∃p,aY[i]?=some ⟨some (6+i),.load ty (.tmp t),ty,p,#[],none⟩) (q:prog.underlying ty=some d) (l:ajg d=true)
  (c:T.getD t undef=.pointer (some ⟨b,0,none⟩)) (e:X.R b/\X.w0.cell? ⟨b,0,none⟩=some (X.val v i))
  (K:∀T' g,RI X v listed T S g->Tm [6+i] T T'->T'.getD (6+i) undef=X.val v i->bK prog false X.Rl X.Gr Stop S (Gl [FW dd T' (.inRegion aY rest::k)] [fC]) g) :
  bK prog false X.Rl X.Gr Stop S (Gl [FW dd T (.inRegion aY (i::rest)::k)] [fC]) w:=by
 obtain⟨p,a⟩:=a;refine .step rfl λw1 o=> ?_;have f:=h.rely o;refine⟨_,w1,_,S,asY (xs:=[]) (base:=[fC]) rfl rfl rfl rfl a rfl (aie q l (x:=.tmp t) (A:=⟨b,0,none⟩) c (f.inv.cell e.1 e.2)),asZ f.inv n e.1, ?_⟩;have m:Frame.finish (FW dd T (.inRegion aY (i::rest)::k)) (X.val v i)=FW dd (T.setIfInBounds (6+i) (X.val v i)) (.inRegion aY rest::k):=by
  simp only[Frame.finish,a,qM]
 rw[m];have j:6+i<T.size:=by rw[h.sz];omega
 exact K _ w1 f (.one (by simp) λt c=>by rw[aI j,da c]) (by rw[aI j,eg rfl])
def as0(F:FaT P){x y:Operand}{a:Addr}{dst:Option Tmp}{ty:TypeId}{pos:String}(f:e x=.slice (some a) n c)(b:e y=.int .i64 j)(g:j<n) :
  (execOp e ⟨dst,.indexAddr 127 x y,ty,pos,af,gd⟩).runT P w #[]=(.ok (.value (.pointer (some (a.add (j*2))))) w,#[]):=by
 obtain⟨i,d,k, -⟩:=F.adD;simp[execOp,f,b,Instr.indexAt,asIntOf,mu F.agN,g,sizeOf,typeInfo,d,k]
def as1 (e:X.Ok) (h:RI X v listed T S w) (g:listed.getD 0 false=true) (l:listed.getD 1 false=true)
  (K:∀T' b,RI X v listed T S b->Tm [6+6] T T'->T'.getD (6+6) undef=X.val v 6->bK prog false X.Rl X.Gr Stop S (Gl [FW dd T' (.inRegion aY rest::k)] [fC]) b) :
  bK prog false X.Rl X.Gr Stop S (Gl [FW dd T (.inRegion aY (6::rest)::k)] [fC]) w:=by
 obtain⟨p,a⟩:=aBP;refine .step rfl λw1 f=> ?_;refine⟨_,w1,_,S,asY (xs:=[]) (base:=[fC]) rfl rfl rfl rfl a rfl (as0 faT (x:=.tmp 6) (y:=.tmp 7) (h.done 0 (by omega) g) (h.done 1 (by omega) l) e.kn),aj5, ?_⟩;have j:(⟨X.C,0,none⟩:Addr).add (X.κ*2)=⟨X.C,2*X.κ,none⟩:=by rw[ji,me,tQ]
 rw[j];have d:Frame.finish (FW dd T (.inRegion aY (6::rest)::k)) (X.val v 6)=FW dd (T.setIfInBounds 12 (X.val v 6)) (.inRegion aY rest::k):=by
  simp only[Frame.finish,a,qM]
 have c:12<T.size:=by rw[h.sz];omega
 have:=K (T.setIfInBounds 12 (X.val v 6)) w1 (h.rely f) (.one (by simp) λt i=>by rw[aI c,da i]) (by rw[aI c,eg rfl]);rw[<-d] at this;exact this
end
end
section
open Go Go.Conc Go.ConcN Go.RowKit
open Go.ConcR (KK wgBlock WgAt stA smA rd wr mk Payload DC0)
def ahY{args:Array Value} :(callFunc 79 args).runT prog w #[]=(.ok (.enter 79 args) w,#[]):=by
 have a:=cM func79;have c:¬f79.name= "runtime.NumGoroutine" :=by simpa using a
 have b:¬f79.body=none:=λe=>by have:=afo;rw[e] at this;cases this
 unfold callFunc;simp[func79,c,b]
def aih {m:Bool} {xs base:List Frame}   {k:List Item} {o:Oper} {w2 : World} {es:Array Event} {args:Array Value} (j:fr.mode=.run) (l:(fr.kind ==.early)=false) (b:fr.roundOf=none) (g:fr.todo=.inRegion O (i::rest)::k) (p:O[i]?=some o) (r:o.guard=none)
  (q:(execOp fr.eval o).runT P w #[]=(.ok (.enter f args) w2,es)):stepG P m (Gl (fr::xs) base) w=.go (Gl (Frame.enter P f args .normal::fr::xs) base) w2 (seen P fr.fn es):=by
 obtain⟨fn,a,e,d,u,c,t⟩:=fr;dsimp only at j l b g;subst j b g;have n:∀y,Region.wanted o y=true:=λy=>by unfold Region.wanted;rw[r]
 have s:stepG P m (Gl (⟨fn,a,.inRegion O (i::rest)::k,d,.run,c,none⟩::xs) base) w =
   stepG.apply P true ⟨fn,a,.inRegion O (i::rest)::k,d,.run,c,none⟩ (xs++base) none (execOp (Frame.eval ⟨fn,a,.inRegion O (i::rest)::k,d,.run,c,none⟩) o) w:=by
  simp[Gl,stepG,stepG.exec,stepG.oper,Frame.oper?,p,n]
 rw[s];unfold stepG.apply;simp only[q,pv];simp[GStep.after,l,Gl]
section
variable {X:Wx} {v:ByteArray×Bool} {listed:Array Bool} {T T':Array Value} {S:au} {w w1:World} {dd:Deferred} {k:List Item} {rest:List Nat}
def avL(a:X.Ok)(q:eP Z)(j:∀d nm,Z d [] nm=(⟨#[]⟩,false))(hi:X.Inv S w) :
  bK prog false X.Rl X.Gr (λn g w1=>g=⟨cfr.finish (.agg #[.string (Z X.key X.l X.nm).1,.bool (Z X.key X.l X.nm).2]),[fC],.running,none,none⟩/\X.Inv n w1) S
   (Gl (Frame.enter prog 79 #[.int .i64 X.key,.slice X.A X.n X.c,.int .i64 X.nm] .normal::[]) [cfr,fC]) w:=by
 by_cases k:X.n=0
 .have l:X.l=[]:=by have:=a.hl;rw[k] at this;exact rc.1 this
  rw[l,j,k];exact Wx.lift a (avI X.nh) hi
 .have m:∀(A:Addr) (u:Value),X.w0.cell? A=some u->X.Rg A.block->plV (λb=>X.Rg b/\eI X.w0 b) u->w.cell? A=some u:=λA u o p _=>(gC (hi.r _ (a.rows _ p))).trans o;exact Wx.lift a (asQ (Rg:=X.Rg) q (ap a.hN hi.sz) (λg i=>by
   obtain⟨c,t,z,e⟩:=a.gr g i;exact⟨a.gl g i,c,t,z,(hi.r g (a.rows g (a.gl g i))).trans e⟩) a.k1 a.k2 a.hl a.hc a.hcm (a.rd.mask a.rgp a.al m) (a.rgp.move a.al λb f=>hi.r b (a.rows b f)) a.al (by omega) a.nm X.nh (λb f=>a.rows b f.1)) hi
def as2 (B:X.Ok) (x:eP Z) (a:∀b nm,Z b [] nm=(⟨#[]⟩,false)) (h:RI X (Z X.key X.l X.nm) listed T S w) (f:listed.getD 5 false=false) (n:listed.getD 2 false=true) (D:listed.getD 3 false=true) (q:listed.getD 4 false=true)
  (K:∀T' l d,RI X (Z X.key X.l X.nm) listed T l d->Tm [6+5] T T'->T'.getD (6+5) undef=X.val (Z X.key X.l X.nm) 5->bK prog false X.Rl X.Gr Stop l (Gl [FW dd T' (.inRegion aY rest::k)] [fC]) d) :
  bK prog false X.Rl X.Gr Stop S (Gl [FW dd T (.inRegion aY (5::rest)::k)] [fC]) w:=by
 obtain⟨p,j⟩:=aBO;refine .step rfl λw1 C=> ?_;have r:=h.rely C;have m:∀w,(execOp (Frame.eval (FW dd T (.inRegion aY (5::rest)::k))) ⟨some 11,.call ⟨.value (.func 79),#[.tmp 8,.tmp 9,.tmp 10],#[3,23,3]⟩,140,p,#[⟨2,.data⟩,⟨3,.data⟩,⟨4,.data⟩],none⟩).runT prog w #[]=(.ok (.enter 79 #[.int .i64 X.key,.slice X.A X.n X.c,.int .i64 X.nm]) w,#[]):=λw=>by
  have E:Array.map (Frame.eval (FW dd T (.inRegion aY (5::rest)::k))) #[.tmp 8,.tmp 9,.tmp 10]=#[.int .i64 X.key,.slice X.A X.n X.c,.int .i64 X.nm]:=by
   have G:T.getD 8 undef=.int .i64 X.key:=h.done 2 (by omega) n;have v:T.getD 9 undef=.slice X.A X.n X.c:=h.done 3 (by omega) D;have y:T.getD 10 undef=.int .i64 X.nm:=h.done 4 (by omega) q;rw[<-G,<-v,<-y];simp[Frame.eval]
  have F:execOp (Frame.eval (FW dd T (.inRegion aY (5::rest)::k))) ⟨some 11,.call ⟨.value (.func 79),#[.tmp 8,.tmp 9,.tmp 10],#[3,23,3]⟩,140,p,#[⟨2,.data⟩,⟨3,.data⟩,⟨4,.data⟩],none⟩=callFunc 79 #[.int .i64 X.key,.slice X.A X.n X.c,.int .i64 X.nm]:=by
   simp only[execOp,resolve];rw[E];simp[Deferred.ofValue,invoke,Frame.eval];try rfl
  exact(jt (λs=>Sem.runT prog s w #[]) F).trans ahY
 refine⟨_,w1,_,S,aih (xs:=[]) (base:=[fC]) rfl rfl rfl rfl j rfl (m w1),aj5, ?_⟩;refine bK.bind X.nh.fU X.nh.tr (avL B x a r.inv (cfr:=FW dd T (.inRegion aY (5::rest)::k))) λz g H ⟨hg,jy⟩=> ?_;subst hg;have i:11<T.size:=by rw[h.sz];omega
 have A:Frame.finish (FW dd T (.inRegion aY (5::rest)::k)) (X.val (Z X.key X.l X.nm) 5)=FW dd (T.setIfInBounds 11 (X.val (Z X.key X.l X.nm) 5)) (.inRegion aY rest::k):=by
  simp only[Frame.finish,j,qM]
 have u:listed.getD 7 false=false:=by
  cases e:listed.getD 7 false with
  |false=>rfl
  |true=>rw[h.ord e 5 (by omega)] at f;cases f
 have:=K (T.setIfInBounds 11 (X.val (Z X.key X.l X.nm) 5)) z H ⟨h.sz,h.cap,h.done,λe=>(by rw[u] at e;cases e),h.ord,jy⟩ (.one (by simp) λt o=>by rw[aI i,da o]) (by rw[aI i,eg rfl]);rw[<-A] at this;exact this
end
end
section
open Go Go.Conc Go.ConcN Go.RowKit
open Go.ConcR (KK wgBlock WgAt stA smA rd wr mk Payload DC0)
section
variable {X:Wx} {v:ByteArray×Bool} {listed:Array Bool} {T T':Array Value} {S:au} {w w1:World} {dd:Deferred} {k:List Item} {rest:List Nat}
def apH (B:X.Ok) (h:RI X v listed T S w) (M:listed.getD 5 false=true) (U:listed.getD 6 false=true)
  (K:∀s,X.Inv S s->(Has X.C (2*X.κ) (.string v.1) s/\Has X.C (2*X.κ+1) (.bool v.2) s)->bK prog false X.Rl X.Gr Stop S (Gl [FW dd T (.inRegion aY rest::k)] [fC]) s) :
  bK prog false X.Rl X.Gr Stop S (Gl [FW dd T (.inRegion aY (7::rest)::k)] [fC]) w:=by
 obtain⟨p,F⟩:=aBQ;refine .step rfl λw1 Q=> ?_;have E:=h.rely Q;obtain⟨t,g,H⟩:=E.inv.pay;have g:w1.heap[X.C]?=some (.cells t 140 (0,0)):=g;have L:=B.kn;obtain⟨u0,C⟩:∃u,t[2*X.κ]?=some u:=⟨_,gn (by omega)⟩;obtain⟨u1,z⟩:∃u,t[2*X.κ+1]?=some u:=⟨_,gn (by omega)⟩;have D:(⟨X.C,2*X.κ,none⟩:Addr).add 1=⟨X.C,2*X.κ+1,none⟩:=ji _ _ _;have q:=agC faT (w:=w1) (e:=Frame.eval (FW dd T (.inRegion aY (7::rest)::k))) (x:=.tmp 12) (y:=.tmp 11) (dst:=none) (ty:=0) (pos:=p) (af:=#[⟨6,.data⟩,⟨5,.data⟩,⟨5,.chain⟩,⟨0,.phase⟩,⟨1,.phase⟩,⟨2,.phase⟩,⟨3,.phase⟩,⟨4,.phase⟩,⟨5,.phase⟩]) (gd:=none) (A:=⟨X.C,2*X.κ,none⟩) (u0:=.string v.1) (u1:=.bool v.2) rfl rfl
  (h.done 6 (by omega) U) (h.done 5 (by omega) M) ((fc g).trans C) (iD g) (by rw[D];exact(fc g).trans z) (by rw[D];exact iD g)
 rw[D] at q;have a:((w1.setCell ⟨X.C,2*X.κ,none⟩ (.string v.1)).setCell ⟨X.C,2*X.κ+1,none⟩ (.bool v.2)).heap[X.C]?=some (.cells ((t.setIfInBounds (2*X.κ) (.string v.1)).setIfInBounds (2*X.κ+1) (.bool v.2)) 140 (0,0)):=setRow (setRow g);have c:((w1.setCell ⟨X.C,2*X.κ,none⟩ (.string v.1)).setCell ⟨X.C,2*X.κ+1,none⟩ (.bool v.2)).heap.size=w1.heap.size:=by rw[be,be]
 have d:∀b,b≠X.C->((w1.setCell ⟨X.C,2*X.κ,none⟩ (.string v.1)).setCell ⟨X.C,2*X.κ+1,none⟩ (.bool v.2)).heap[b]?=w1.heap[b]?:=λb j=>by
  rw[bu _ _ _ (λe=>j e.symm),bu _ _ _ (λe=>j e.symm)]
 have n:((w1.setCell ⟨X.C,2*X.κ,none⟩ (.string v.1)).setCell ⟨X.C,2*X.κ+1,none⟩ (.bool v.2)).ou=w1.ou:=rfl;have l:=aj4 (m:=false) (xs:=[]) (base:=[fC]) (k:=k) (fr:=FW dd T (.inRegion aY (7::rest)::k)) rfl rfl rfl rfl F rfl q;generalize ((w1.setCell ⟨X.C,2*X.κ,none⟩ (.string v.1)).setCell ⟨X.C,2*X.κ+1,none⟩ (.bool v.2))=w2 at a c d n l;have O:Frame.finish (FW dd T (.inRegion aY (7::rest)::k)) undef=FW dd T (.inRegion aY rest::k):=by
  simp only[Frame.finish,F,qM]
 rw[O] at l;have f:=E.inv;have o:X.Inv S w2:=by
  refine⟨λb j=>(d b (λe=>B.rC (e▸j))).trans (f.r b j),f.s,by rw[c];exact f.c,by rw[c];exact f.wg,by rw[c];exact f.sz, ?_,⟨_,a,by simpa using H⟩,n.trans f.os⟩;obtain⟨R,sm,P⟩:=f.live;exact⟨R,sm,(d X.Wg (λe=>B.cW e.symm)).trans P⟩
 refine⟨_,w2,_,S,l,⟨λb _ _ j=>d b j,pe c.symm,n,λ_=>⟨_,a,by simpa using H⟩,λi I=> ?_,λ_ h=>h,λ_ h=>.inl h,λe V=> ?_⟩,K w2 o ⟨?_, ?_⟩⟩
 .have N:i≠2*X.κ:=λe=>I (by show i / 2=X.κ;omega);have W:i≠2*X.κ+1:=λe=>I (by show i / 2=X.κ;omega);rw[fc a,fc g,kw (λe=>W e.symm),kw (λe=>N e.symm)]
 .have G:=tp V;simp only[sJ,pb,rG,uf] at G;have J:X.C<w2.heap.size:=by rw[c];exact f.c
  rcases G with rfl|rfl
  .refine⟨λx r=>.inr (.inl ⟨⟨X.C,2*X.κ,none⟩, ?_,rfl, ?_⟩),(λe=>by cases e),(λe=>by cases e),(λe=>by cases e),J⟩
   .simp[MemAct.ofEvent,MemAct.touch?] at r;rw[<-r]
   .show 2*X.κ / 2=X.κ;omega
  .refine⟨λx r=>.inr (.inl ⟨⟨X.C,2*X.κ+1,none⟩, ?_,rfl, ?_⟩),(λe=>by cases e),(λe=>by cases e),(λe=>by cases e),J⟩
   .simp[MemAct.ofEvent,MemAct.touch?] at r;rw[<-r]
   .show(2*X.κ+1) / 2=X.κ;omega
 .show w2.cell? ⟨X.C,2*X.κ,none⟩=_;rw[fc a,kw (by omega),qh (by omega)]
 .show w2.cell? ⟨X.C,2*X.κ+1,none⟩=_;rw[fc a,qh (by simp;omega)]
def awW(X:Wx)(v:ByteArray×Bool)(dd:Deferred)(k:List Item):au->Goroutine->World->Prop:=λS g w=>∃T,g=Gl [FW dd T (.inRegion aY []::k)] [fC]/\T.size=13/\X.Inv S w/\Has X.C (2*X.κ) (.string v.1) w/\Has X.C (2*X.κ+1) (.bool v.2) w
def agF(c:X.Ok){o:Int->List iR->Int->ByteArray×Bool}(B:eP o)(p:∀y nm,o y [] nm=(⟨#[]⟩,false)):∀(fuel t:Nat) (listed:Array Bool) (T:Array Value) (S:au) (w:World),listed.size=8->unW listed<=fuel->RI X (o X.key X.l X.nm) listed T S w->
  bK prog false X.Rl X.Gr (awW X (o X.key X.l X.nm) dd k) S (Gl [FW dd T (.inRegion aY (Region.linearise.go .any aY fuel t listed [])::k)] [fC]) w
 |0,t,listed,T,S,w,d,hf,h=>by
  have l:=aBR d (.inr (by omega));exact .stop λw1 m=>⟨T,rfl,h.sz,h.inv.rely m,acu (h.st (l 7 (by omega))) m⟩
 |fuel+1,t,listed,T,S,w,d,hf,h=>by
  simp only[Region.linearise.go];change bK _ _ _ _ _ S (Gl [FW dd T (.inRegion aY (match(Region.ready .any aY listed)[t % (Region.ready .any aY listed).length]? with
   |some i=>Region.linearise.go .any aY fuel (t / (Region.ready .any aY listed).length) (listed.setIfInBounds i true) [i]
   |none=>[].reverse)::k)] [fC]) w
  cases A:(Region.ready .any aY listed)[t % (Region.ready .any aY listed).length]? with
  |none=>
   have q:Region.ready .any aY listed=[]:=by
    cases m:Region.ready .any aY listed with
    |nil=>rfl
    |cons x D=>
     rw[m] at A;have r:t % (x::D).length<(x::D).length:=tG _ (by simp);simp at A;simp at r;omega
   have l:=aBR d (.inl q);exact .stop λw1 m=>⟨T,rfl,h.sz,h.inv.rely m,acu (h.st (l 7 (by omega))) m⟩
  |some i=>
   simp only[];rw[linearise_go_acc,List.reverse_singleton,List.singleton_append];obtain⟨z,C,hd⟩:=(afq d).1 (de A);have F:=avK d z C;have s:(listed.setIfInBounds i true).size=8:=by simpa using d
   have next:∀T' n a,RI X (o X.key X.l X.nm) (listed.setIfInBounds i true) T' n a->bK prog false X.Rl X.Gr (awW X (o X.key X.l X.nm) dd k) n (Gl [FW dd T' (.inRegion aY (Region.linearise.go .any aY fuel (t / (Region.ready .any aY listed).length) (listed.setIfInBounds i true) [])::k)] [fC]) a:=
    λT' n a b=>agF c B p fuel _ _ T' n a s (by omega) b
   generalize Region.linearise.go .any aY fuel (t / (Region.ready .any aY listed).length) (listed.setIfInBounds i true) []=rest at next ⊢
   have:i=0\/i=1\/i=2\/i=3\/i=4\/i=5\/i=6\/i=7:=by omega
   rcases this with rfl|rfl|rfl|rfl|rfl|rfl|rfl|rfl
   .exact acv c h (by omega) aBJ faT.agN rfl (h.cap 4 (by omega) (by omega)) c.ra λT' a b f g=>next T' S a (b.put d (by omega) f g)
   .exact acv c h (by omega) aBK faT.u3 rfl (h.cap 5 (by omega) (by omega)) c.ri λT' a b f g=>next T' S a (b.put d (by omega) f g)
   .exact acv c h (by omega) aBL faT.u3 rfl (h.cap 1 (by omega) (by omega)) c.rk λT' a b f g=>next T' S a (b.put d (by omega) f g)
   .exact acv c h (by omega) aBM faT.u23 rfl (h.cap 2 (by omega) (by omega)) c.rp λT' a b f g=>next T' S a (b.put d (by omega) f g)
   .exact acv c h (by omega) aBN faT.u3 rfl (h.cap 3 (by omega) (by omega)) c.rn λT' a b f g=>next T' S a (b.put d (by omega) f g)
   .simp only[kg,ge] at hd;exact as2 c B p h C hd.1.1 hd.1.2 hd.2 λT' n a b f g=>next T' n a (b.put d (by omega) f g)
   .simp only[kg,ge] at hd;exact as1 c h hd.1.1.1.1.1 hd.1.1.1.1.2 λT' a b f g=>next T' S a (b.put d (by omega) f g)
   .simp only[kg,ge] at hd;refine apH c h hd.1.1.1.1.1.2 hd.1.1.1.1.1.1 λa v u=>next T S a ⟨h.sz,h.cap,λj E e=> ?_,λ_=>u,λ_ j E=> ?_,v⟩
    .rw[iQ (by omega),da (by omega)] at e;exact h.done j E e
    .rw[iQ (by omega),da (by omega)];have:j=0\/j=1\/j=2\/j=3\/j=4\/j=5\/j=6:=by omega
     rcases this with rfl|rfl|rfl|rfl|rfl|rfl|rfl
     .exact hd.1.1.1.1.2
     .exact hd.1.1.1.2
     .exact hd.1.1.2
     .exact hd.1.2
     .exact hd.2
     .exact hd.1.1.1.1.1.2
     .exact hd.1.1.1.1.1.1
end
end
section
open Go Go.Conc Go.ConcN Go.RowKit Go.Conc.Lib Go.ConcR.Gen Go.ConcN.Gen
open Go.ConcR (KK wgBlock WgAt stA smA rd wr mk Payload DC0)
section
variable {X:Wx} {v:ByteArray×Bool} {T:Array Value} {S:au} {w w1:World} {dd:Deferred} {k:List Item} {Stop:au->Goroutine->World->Prop}
def acw {fr2 : Frame} {g:World->World} (hi:X.Inv S w) (p:∀w,X.Inv S w->stepG prog false (Gl [fr] [fC]) w=.go (Gl [fr2] [fC]) (g w) (es w)) (q:∀w,(g w).heap=w.heap/\(g w).ou=w.ou) (s:∀w,X.Inv S w->∀e∈es w,False)
  (K:∀k,X.Inv S k->bK prog false X.Rl X.Gr Stop S (Gl [fr2] [fC]) k):bK prog false X.Rl X.Gr Stop S (Gl [fr] [fC]) w:=by
 refine .step rfl λw1 n=> ?_;have d:=hi.rely n;obtain⟨c,l⟩:=q w1;have f:∀a,(g w1).cell? a=w1.cell? a:=λa=>by unfold World.cell?;rw[c]
 refine⟨_,g w1,_,S,p w1 d,⟨λb _ _ _=>by rw[c],pe (by rw[c]),l,λ⟨j,a,b⟩=>⟨j,by rw[c];exact a,b⟩,λi _=>f _,λ_ h=>h,λ_ h=>.inl h,λe h=>(s w1 d e h).elim⟩,K _ ⟨λb o=>by rw[c];exact d.r b o,d.s,by rw[c];exact d.c,by rw[c];exact d.wg,by rw[c];exact d.sz, ?_, ?_,l.trans d.os⟩⟩
 .obtain⟨r,sm,m⟩:=d.live;exact⟨r,sm,by unfold WgAt;rw[c];exact m⟩
 .obtain⟨j,a,b⟩:=d.pay;exact⟨j,by rw[c];exact a,b⟩
abbrev ddW(Wg:Nat):Deferred:=⟨.fn (.func eN.done) #[],#[.pointer (some ⟨Wg,0,none⟩)]⟩
def aD6:∃p,oJ[0]?=some ⟨none,.defer ⟨.value (.func eN.done),#[.tmp 0],#[137]⟩,0,p,#[],none⟩:=⟨_,rfl⟩
def avM(T:Array Value):QuitsD prog 2 0 (G ⟨nCl,T,[],[],.returning,.deferred,none⟩ [fC]):=by
 refine QuitsD.ctl (g':=G fC []) rfl (λw=> ?_) ?_
 .have a:(results f77 T).runT prog w #[]=(.ok (.tuple #[]) w,#[]):=by
   have:f77.results=#[]:=rfl;simp[results,this]
  simp only[G,stepG,unwind,func77,a];simp[doReturn,GStep.after,seen,fC,goexitEntry]
 refine QuitsD.ctl (g':={G fC [] with status:=.finished}) rfl (λw=> ?_) ⟨rfl,rfl⟩;simp[G,stepG,unwind,fC,goexitEntry,Frame.catches];rfl
def ac2 {fr2 : Frame} {cs cs2:List Frame} (hi:X.Inv S w) (c:Has X.C (2*X.κ) (.string v.1) w/\Has X.C (2*X.κ+1) (.bool v.2) w) (f:∀w,stepG prog false (G fr cs) w=.go (G fr2 cs2) w (es w)) (d:∀w,∀e∈es w,False)
  (K:∀a,X.Inv S a->Has X.C (2*X.κ) (.string v.1) a/\Has X.C (2*X.κ+1) (.bool v.2) a->bK prog false X.Rl X.Gr Stop S (G fr2 cs2) a):bK prog false X.Rl X.Gr Stop S (G fr cs) w:=by
 refine .step rfl λw1 b=> ?_;exact⟨_,w1,_,S,f w1,⟨λ_ _ _ _=>rfl,am _,rfl,id,λ_ _=>rfl,λ_ h=>h,λ_ h=>.inl h,λe h=>(d w1 e h).elim⟩,K w1 (hi.rely b) (acu c b)⟩
def abI  :∀e∈seen P f #[],False:=λe h=>by simpa using tp h
def aj6{args:Array Value} :(callFunc eN.done args).runT prog w #[]=(.ok (.enter eN.done args) w,#[]):=by
 have h:=aaB.f_done;have b:¬(doneFn eN).name= "runtime.NumGoroutine" :=by decide
 have a:¬(doneFn eN).body=none:=λe=>by cases e
 unfold callFunc;simp[h,b,a]
def ayZ(r:X.Ok)(k:X.tWg=eN.tWg){val:Nat->Value}(q:val (2*X.κ)=.string v.1)(p:val (2*X.κ+1)=.bool v.2)(hi:X.Inv S w)(o:Has X.C (2*X.κ) (.string v.1) w/\Has X.C (2*X.κ+1) (.bool v.2) w) :
  bK prog false X.Rl X.Gr (agn prog X.tWg X.Wg X.C X.n2 val X.κ) S (G (FW (ddW X.Wg) T [.inRegion aY []]) [fC]) w:=by
 refine ac2 (fr2:=FW (ddW X.Wg) T []) (cs2:=[fC]) hi o (es:=λ_=>#[]) (λw=>by simp[G,stepG,stepG.exec]) (λ_ e h=>by simpa using h) λt m f=> ?_;refine ac2 (fr2:=⟨nCl,T,[],[ddW X.Wg],.returning,.deferred,none⟩) (cs2:=[fC]) m f (es:=λ_=>#[]) (λw=>by simp[G,stepG,stepG.exec]) (λ_ e h=>by simpa using h) λs g d=> ?_;have j:Frame.enter prog eN.done #[.pointer (some ⟨X.Wg,0,none⟩)] .deferred=(baseD eN.done).at ⟨#[.pointer (some ⟨X.Wg,0,none⟩),undef,undef,undef],[]⟩ [.code (body_done eN)]:=by
  unfold Frame.enter;rw[aaB.f_done];rfl
 refine ac2 (fr2:=(baseD eN.done).at ⟨#[.pointer (some ⟨X.Wg,0,none⟩),undef,undef,undef],[]⟩ [.code (body_done eN)]) (cs2:=[⟨nCl,T,[],[],.returning,.deferred,none⟩,fC]) g d (es:=λw=>seen prog nCl #[]) (λw=> ?_) (λ_=>abI) λl i b=> ?_
 .have a:(invoke (ddW X.Wg).target (ddW X.Wg).args).runT prog w #[]=(.ok (.enter eN.done #[.pointer (some ⟨X.Wg,0,none⟩)]) w,#[]):=aj6;simp only[G,stepG,unwind,callDeferred,a,j];simp[GStep.after]
 .have:=apG (κ:=X.κ) (n:=X.n2) (R:=X.R) (S:=S) (val:=val) (c:=⟨nCl,T,[],[],.returning,.deferred,none⟩) (cs:=[fC]) aaB rfl (avM T) l (k▸i.live) (by rw[q];exact b.1) (by rw[p];exact b.2);rw[<-k] at this;exact this
end
end
section
open Go Go.Conc Go.ConcN Go.RowKit Go.Conc.Lib Go.ConcR.Gen Go.ConcN.Gen
open Go.ConcR (KK wgBlock WgAt stA smA rd wr mk Payload DC0)
abbrev Wx.dO(X:Wx):Array Value:=#[.pointer (some ⟨X.Wg,0,none⟩),.pointer (some ⟨X.bk,0,none⟩),.pointer (some ⟨X.bp,0,none⟩),.pointer (some ⟨X.bn,0,none⟩),.pointer (some ⟨X.ba,0,none⟩),.pointer (some ⟨X.bi,0,none⟩)]
abbrev FD(T:Array Value)(k:List Item):Frame:=⟨nCl,T,k,[],.run,.deferred,none⟩
def avN :Frame.enter prog nCl a .deferred=FD (a++Array.replicate (13-a.size) undef) [.code anF]:=by
 unfold Frame.enter;rw[func77];rfl
def ay0:prog.follows .mixedOrders=true:=by kernel_rfl
section
variable {X:Wx} {S:au} {w:World}
def aj7(ok:X.Ok)(hF:eP Z)(u:∀D nm,Z D [] nm=(⟨#[]⟩,false))(M:X.tWg=eN.tWg){val:Nat->Value}(v0:val (2*X.κ)=.string (Z X.key X.l X.nm).1)(P:val (2*X.κ+1)=.bool (Z X.key X.l X.nm).2)(hi:X.Inv S w) :
  bK prog false X.Rl X.Gr (agn prog X.tWg X.Wg X.C X.n2 val X.κ) S (G (Frame.enter prog nCl X.dO .deferred) [fC]) w:=by
 rw[avN];obtain⟨T,hT,Q,g0,H⟩:∃T:Array Value,T=X.dO++Array.replicate (13-X.dO.size) undef/\T.size=13/\T.getD 0 undef=.pointer (some ⟨X.Wg,0,none⟩)/\∀t,1<=t->t<=5->T.getD t undef=X.cap t:=by
  refine⟨_,rfl,by simp, ?_,λt K m=> ?_⟩
  .rw[jn,rV (by simp)];rfl
  .rw[jn,rV (by simp;omega)];have:t=1\/t=2\/t=3\/t=4\/t=5:=by omega
   rcases this with rfl|rfl|rfl|rfl|rfl<;>rfl
 rw[<-hT];rw[asX];refine acw (fr:=FD T [.code (.seq (.region 0 oJ false) (.region 1 aY true))]) (fr2:=FD T [.code (.region 0 oJ false),.code (.region 1 aY true)]) (g:=id) (es:=λ_=>#[]) hi (λw _=>by simp[Gl,stepG,stepG.exec]) (λ_=>⟨rfl,rfl⟩) (λ_ _ e h=>by simpa using h) λw1 K=> ?_;have x:List.range oJ.size=[0]:=rfl;refine acw (fr2:=FD T [.inRegion oJ [0],.code (.region 1 aY true)]) (g:=id) (es:=λ_=>#[]) K (λw _=>by simp[Gl,stepG,stepG.exec,x]) (λ_=>⟨rfl,rfl⟩) (λ_ _ e h=>by simpa using h) λw2 L=> ?_;obtain⟨p,I⟩:=aD6;refine acw (fr2:=FW (ddW X.Wg) T [.inRegion oJ [],.code (.region 1 aY true)]) (g:=id) (es:=λ_=>seen prog nCl #[]) L (λw _=> ?_) (λ_=>⟨rfl,rfl⟩) (λ_ _=>abI) λw3 V=> ?_
 .have F:(execOp (Frame.eval (FD T [.inRegion oJ [0],.code (.region 1 aY true)])) ⟨none,.defer ⟨.value (.func eN.done),#[.tmp 0],#[137]⟩,0,p,#[],none⟩).runT prog w #[]=(.ok (.defer (ddW X.Wg)) w,#[]):=by
   have hm:Array.map (Frame.eval (FD T [.inRegion oJ [0],.code (.region 1 aY true)])) #[.tmp 0]=#[.pointer (some ⟨X.Wg,0,none⟩)]:=by
    rw[<-g0];simp[Frame.eval]
   simp only[execOp,resolve];rw[hm];simp[Deferred.ofValue,Frame.eval]
  have R:∀y,Region.wanted ⟨none,.defer ⟨.value (.func eN.done),#[.tmp 0],#[137]⟩,0,p,#[],none⟩ y=true:=λy=>rfl;have Y:stepG prog false (Gl [FD T [.inRegion oJ [0],.code (.region 1 aY true)]] [fC]) w =
    stepG.apply prog true (FD T [.inRegion oJ [0],.code (.region 1 aY true)]) [fC] none (execOp (Frame.eval (FD T [.inRegion oJ [0],.code (.region 1 aY true)])) ⟨none,.defer ⟨.value (.func eN.done),#[.tmp 0],#[137]⟩,0,p,#[],none⟩) w:=by
   simp[Gl,stepG,stepG.exec,stepG.oper,Frame.oper?,I,R]
  rw[Y];unfold stepG.apply;simp only[F,pv];have C:(CallKind.deferred ==CallKind.early)=false:=rfl;simp[GStep.after,C,Gl,Frame.finish,I]
 refine acw (fr2:=FW (ddW X.Wg) T [.code (.region 1 aY true)]) (g:=id) (es:=λ_=>#[]) V (λw _=>by simp[Gl,stepG,stepG.exec]) (λ_=>⟨rfl,rfl⟩) (λ_ _ e h=>by simpa using h) λw4 O=> ?_;refine .step rfl λr s=> ?_;have m:=O.rely s;have z:∃(t:Nat) (f:World),f.heap=r.heap/\f.ou=r.ou/\stepG prog false (Gl [FW (ddW X.Wg) T [.code (.region 1 aY true)]] [fC]) r=.go (Gl [FW (ddW X.Wg) T [.inRegion aY (Region.linearise.go .any aY 8 t (Array.replicate 8 false) [])]] [fC]) f #[]:=by
  have A:∀t,Region.schedule (prog.follows .mixedOrders) aY t=Region.linearise.go .any aY 8 t (Array.replicate 8 false) []:=λt=>by
   simp only[Region.schedule,ay0,Bool.true_or,pv,Region.linearise,anG]
  simp only[Gl,stepG,stepG.exec,A,vE,lc,qL];cases d:(choose (.order nCl 1)).run prog r with
  |ok t f=>
   refine⟨t,f, ?_⟩;have:f.heap=r.heap/\f.ou=r.ou:=by
    unfold choose at d;rw[Sem.run] at d;split at d
    .cases d;exact⟨rfl,rfl⟩
    .cases d;exact⟨rfl,rfl⟩
   exact⟨this.1,this.2,rfl⟩
  |halt q f=>
   exfalso;unfold choose at d;rw[Sem.run] at d;split at d<;>cases d
 obtain⟨t,f,l,J,E⟩:=z;have o:∀a,f.cell? a=r.cell? a:=λa=>by unfold World.cell?;rw[l]
 have h6:X.Inv S f:=by
  refine⟨λb N=>by rw[l];exact m.r b N,m.s,by rw[l];exact m.c,by rw[l];exact m.wg,by rw[l];exact m.sz, ?_, ?_,J.trans m.os⟩
  .obtain⟨W,sm,U⟩:=m.live;exact⟨W,sm,by unfold WgAt;rw[l];exact U⟩
  .obtain⟨v,a,b⟩:=m.pay;exact⟨v,by rw[l];exact a,b⟩
 have n:∀j,(Array.replicate 8 false).getD j false=false:=λj=>by
  rw[jn,ui];split<;>rfl
 refine⟨_,f,_,S,E,⟨λb _ _ _=>by rw[l],pe (by rw[l]),J,λ⟨v,a,b⟩=>⟨v,by rw[l];exact a,b⟩,λi _=>o _,λ_ h=>h,λ_ h=>.inl h,λe h=>by simp at h⟩, ?_⟩;have B:=agF (dd:=ddW X.Wg) (k:=[]) ok hF u 8 t (Array.replicate 8 false) T S f (by simp) (List.countP_le_length) ⟨Q,H,λj _ e=>(by rw[n] at e;cases e),λe=>(by rw[n] at e;cases e),λe=>(by rw[n] at e;cases e),h6⟩;refine bK.bind X.nh.fU X.nh.tr B λS2 g w7 ⟨T2,hg,_,hi7,hv0,hv1⟩=> ?_;subst hg;exact ayZ ok M v0 P hi7 ⟨hv0,hv1⟩
def apI{args:Array Value} :(callFunc nCl args).runT prog w #[]=(.ok (.enter nCl args) w,#[]):=by
 have a:=cM func77;have c:¬f77.name= "runtime.NumGoroutine" :=by simpa using a
 have b:¬f77.body=none:=λe=>by cases e
 unfold callFunc;simp[func77,c,b]
def ail(i:X.Ok)(n:eP Z)(g:∀d nm,Z d [] nm=(⟨#[]⟩,false))(k:X.tWg=eN.tWg){val:Nat->Value}(m:val (2*X.κ)=.string (Z X.key X.l X.nm).1)(l:val (2*X.κ+1)=.bool (Z X.key X.l X.nm).2)(hi:X.Inv S w) :
  bK prog false X.Rl X.Gr (agn prog X.tWg X.Wg X.C X.n2 val X.κ) S (born prog ⟨.fn (.func nCl) X.dO,#[]⟩) w:=by
 refine .step rfl λa j=> ?_;have b:(invoke (Target.fn (.func nCl) X.dO) #[]).runT prog a #[]=(.ok (.enter nCl X.dO) a,#[]):=apI;have f:stepG prog false (born prog ⟨.fn (.func nCl) X.dO,#[]⟩) a=.go (G (Frame.enter prog nCl X.dO .deferred) [fC]) a (seen prog prog.funcs.size #[]):=by
  simp only[born,stepG,unwind,callDeferred,b];simp[GStep.after,G,fC]
 exact⟨_,a,_,S,f,⟨λ_ _ _ _=>rfl,am _,rfl,id,λ_ _=>rfl,λ_ h=>h,λ_ h=>.inl h,λe h=>(abI e h).elim⟩,aj7 i n g k m l (hi.rely j)⟩
end
end
end Go.Proofs.YtgjaikdifcbnkaaGreatDoor