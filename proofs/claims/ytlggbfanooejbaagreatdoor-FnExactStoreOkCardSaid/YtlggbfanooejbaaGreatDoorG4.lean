/- A part. -/
import Derived.Test.YtlggbfanooejbaaGreatDoorG3
import Derived.Lib.Builder
import Derived.Lib.Strings
import Derived.Lib.Slices
import Derived.Lib.AppendStr
import Derived.Lib.FrozenHead
import Derived.Lib.UnsafeStr
import Derived.Lib.MakeNoZero
import Derived.Shelf.RegionOpenPlain
import Derived.Laws.Externs
import Derived.Laws.IdiomCopy
import Derived.Laws.BitsLemmas
import Derived.Conc.CrowdRun
import Derived.Conc.Beside
set_option maxRecDepth 100000
set_option maxHeartbeats 8000000
set_option linter.all false
open Go Go.Conc Go.ConcN Go.RowKit Go.Proofs.Tryz Go.Proofs.YtlggbfanooejbaaGreatDoor
variable {Z U B Wg b i k m' κ:Nat} {T:Next} {Y X W:Value} {V w w':World} {e:Event} {x:Touch} {fn:FuncId} {pos:String} {S g:Goroutine} {s:ByteArray} {cs:List Frame} {es:Array Event} {Own:Nat→Loc→Prop}
namespace Go.Proofs.YtlggbfanooejbaaGreatDoor
def lc:=@Go.Conc.mem_ofEvents
def pi:=@Go.ConcN.upd_same
def pv:=@List.setIfInBounds_toArray
def pR:=@Go.Conc.Goes.stop
def pY:=@Option.bind_some
def qd:=@List.set_cons_zero
def qf:=@Go.ConcN.upd_ne
def qg:=@List.set_cons_succ
def qi:=@Array.getElem?_push_size
def qp:=@List.drop_zero
def qv:=@Go.Lib.cell_of_heap
def qC:=@Go.Conc.Deaf_other
def qD:=@Go.Sem.runT_fst
def qJ:=@Go.Conc.getElem?_append_cases
def qT:=@Go.Lib.byteCells_length
def qU:=@Go.Conc.Goes.cases
def rJ:=@Go.Conc.Goes.running
def rM:=@Go.Result.ok.injEq
def rN:=@Nat.not_lt_zero
def rR:=@Go.Conc.aside_setCell
def rX:=@Go.ConcN.get_map_set
def sb:=@Go.Conc.woken_quitsD
def su:=@Go.Conc.runT_crowd_go
def sF:=@Go.Conc.Goes.rely
def sL:=@List.append_assoc
def sM:=@Go.Conc.goes_go
def sO:=@Go.ConcN.deafBehind_idle
def tn:=@Go.ConcN.RW.refl
def tC:=@List.size_toArray
def tE:=@List.all_eq_false
def tF:=@Bool.not_eq_true'
def tG:=@Array.getElem?_push_lt
def tI:=@Go.ConcN.cell_of_block
def tP:=@Go.ConcN.get_map_set_same
def uk:=@Go.Lib.frozen_of_heap
def ul:=@Int.tmod_eq_emod_of_nonneg
def uu:=@Bool.eq_false_iff
def uE:=@Go.IntKind.wrap_i64
def uP:=@Array.mem_iff_getElem?
def uQ:=@List.take_take
def uZ:=@List.replicate_succ'
def vk:=@Array.map_congr_left
section
variable {β:Bool}
open Go.RowKit
structure mg (w:World) (lo hi:Nat) (s:gC) (va vb vc:Value):Prop where
 pk:cK w lo hi s.pk [va]
 sn:dm w lo hi s.sn [vb]
 lg:eh w lo hi s.lg [vc]
def mg.below{s:gC}(h:mg w Z U s Y X W)(b:Below B w w')(a:U<=B):mg w' Z U s Y X W:=⟨cK.loc.below h.pk b a,dm.loc.below h.sn b a,eh.loc.below h.lg b a⟩
structure aeP (w:World) (lo hi:Nat) (s:gC) (va vb vc:Value):Prop where
 pk:lI w lo hi s.pk [va]
 sn:acP w lo hi s.sn [vb]
 lg:agz w lo hi s.lg [vc]
def aeP.go{lo' hi' : Nat}{s:gC}(h:aeP w Z U s Y X W)(d:∀b,Z<=b->b<U->w'.heap[b]?=w.heap[b]?)(c:lo'<=Z)(a:U<=hi'):aeP w' lo' hi' s Y X W:=
 ⟨lI.aK.loc.go d c a h.pk,acP.aK.loc.go d c a h.sn,agz.aK.loc.go d c a h.lg⟩
def aeP.below{s:gC}(h:aeP w Z U s Y X W)(a:Below B w w')(d:U<=B):aeP w' Z U s Y X W:=h.go (λb _ c=>a.block b (by omega)) (ap _) (ap _)
def aeP.l{s:gC}(h:aeP w Z U s Y X W):mg w Z U s Y X W:=⟨lI.l h.pk,acP.l h.sn,agz.l h.lg⟩
def ad0(s:gC):Nat:=bh bPk s.pk+bh bSn s.sn+s.lg.length
def ahP(s:gC)(Y X vc:Value)(k:Int)(w:World)(D t:Nat)(h:mg w D t s Y X vc)(g:t<=w.heap.size)(P:0<=k)(S:k<=1048576) :
  Calls (aj β) 11 #[.agg #[Y,X,vc],.int .i64 k] w λe w'=>e=.returned (.int .i64 (jh k (ad0 s)))/\Below w.heap.size w w':=by
 obtain⟨L,O,Z⟩:=h;obtain⟨A,a,rfl⟩:=cJ.form L;obtain⟨B,b,rfl⟩:=cJ.form O;obtain⟨C,c,rfl⟩:=cJ.form Z;obtain⟨_,hc,hx⟩:=Z.len_;unfold maxLen at hx;generalize p:jh k (ad0 s)=q;unfold ad0 at p;by_cases M:k-((bh bPk s.pk:Nat):Int)<0
 .have l:=bA M;have j:(-1:Int)=q:=by rw[<-p,bA (by omega)]
  have F:=ab j;have HS:=ab l;clear p j l M;go_enter vW,ntmps11;go_wp2;generalize n:w.alloc (.cells #[.slice A s.pk.length a,.slice B s.sn.length b,.slice C s.lg.length c] 46)=w0 at *;obtain⟨d,U,f,v,u⟩:=iK n;clear n;refine(ko s.pk _ k _ D t (cK.loc.below L d g) (am g d.size) P S).mono ?_;rintro e T ⟨rfl,o⟩;rw[HS.out];go_wp2;go_ret;exact⟨fe F.out,ae d o⟩
 .obtain⟨z,R⟩:∃z:Int,z=k-((bh bPk s.pk:Nat):Int):=⟨_,rfl⟩;have l:jh k (bh bPk s.pk)=z:=by rw[R];exact cL (by omega)
  have HS:=ab l;clear l;have E:0<=z:=by omega
  have G:z<=1048576:=by omega
  by_cases Q:z-((bh bSn s.sn:Nat):Int)<0
  .have m:=bA Q;have j:(-1:Int)=q:=by rw[<-p,bA (by omega)]
   have F:=ab j;have r:=ab m;clear p j m M Q R;go_enter vW,ntmps11;go_wp2;generalize n:w.alloc (.cells #[.slice A s.pk.length a,.slice B s.sn.length b,.slice C s.lg.length c] 46)=w0 at *;obtain⟨d,U,f,v,u⟩:=iK n;clear n;refine(ko s.pk _ k _ D t (cK.loc.below L d g) (am g d.size) P S).mono ?_;rintro e T ⟨rfl,o⟩;rw[HS.out];replace f:=aB f o;replace v:=f.cell;replace u:=f.frozen;replace d:=ae d o;go_wp2;refine(mS s.sn _ z _ D t (dm.loc.below O d g) (am g d.size) E G).mono ?_;rintro e w2 ⟨rfl,I⟩;rw[r.out];go_wp2;go_ret;exact⟨fe F.out,ae d I⟩
  .obtain⟨y,V⟩:∃y:Int,y=z-((bh bSn s.sn:Nat):Int):=⟨_,rfl⟩;have m:jh z (bh bSn s.sn)=y:=by rw[V];exact cL (by omega)
   have r:=ab m;clear m;have N:0<=y:=by omega
   have K:y<=1048576:=by omega
   by_cases W:y-(s.lg.length:Int)<0
   .have i:=bA W;have j:(-1:Int)=q:=by rw[<-p,bA (by omega)]
    have F:=ab j;have H:=ab i;clear p j i M Q R V W;go_enter vW,ntmps11;go_wp2;generalize n:w.alloc (.cells #[.slice A s.pk.length a,.slice B s.sn.length b,.slice C s.lg.length c] 46)=w0 at *;obtain⟨d,U,f,v,u⟩:=iK n;clear n;refine(ko s.pk _ k _ D t (cK.loc.below L d g) (am g d.size) P S).mono ?_;rintro e T ⟨rfl,o⟩;rw[HS.out];replace f:=aB f o;replace v:=f.cell;replace u:=f.frozen;replace d:=ae d o;go_wp2;refine(mS s.sn _ z _ D t (dm.loc.below O d g) (am g d.size) E G).mono ?_;rintro e w2 ⟨rfl,I⟩;rw[r.out];replace f:=aB f I;replace v:=f.cell;replace u:=f.frozen;replace d:=ae d I;go_wp2;refine(acj s.lg.length c C y _ (by omega) N K).mono ?_;rintro e w3 ⟨rfl,rfl⟩;rw[H.out];go_wp2;go_ret;exact⟨fe F.out,d⟩
   .obtain⟨x,J⟩:∃x:Int,x=y-(s.lg.length:Int):=⟨_,rfl⟩;have i:jh y s.lg.length=x:=by rw[J];exact cL (by omega)
    have j:x=q:=by rw[<-p,cL (by omega)];omega
    have a0:0<=x:=by omega
    have F:=ab j;have H:=ab i;clear p j i M Q R V W J;go_enter vW,ntmps11;go_wp2;generalize n:w.alloc (.cells #[.slice A s.pk.length a,.slice B s.sn.length b,.slice C s.lg.length c] 46)=w0 at *;obtain⟨d,U,f,v,u⟩:=iK n;clear n;refine(ko s.pk _ k _ D t (cK.loc.below L d g) (am g d.size) P S).mono ?_;rintro e T ⟨rfl,o⟩;rw[HS.out];replace f:=aB f o;replace v:=f.cell;replace u:=f.frozen;replace d:=ae d o;go_wp2;refine(mS s.sn _ z _ D t (dm.loc.below O d g) (am g d.size) E G).mono ?_;rintro e w2 ⟨rfl,I⟩;rw[r.out];replace f:=aB f I;replace v:=f.cell;replace u:=f.frozen;replace d:=ae d I;go_wp2;refine(acj s.lg.length c C y _ (by omega) N K).mono ?_;rintro e w3 ⟨rfl,rfl⟩;rw[H.out];go_wp2;go_ret;exact⟨fe F.out,d⟩
def avh(w:World)(s:gC)(e:Ending)(w':World):Prop:=∃c a b,e=.returned (.agg #[c,a,b])/\aeP w' w.heap.size w'.heap.size s c a b/\Below w.heap.size w w'
def mV(s:gC)(X vb vc:Value)(w:World)(R I:Nat)(h:mg w R I s X vb vc)(F:I<=w.heap.size)(hl:ad0 s<=1048576) :
  Calls (aj β) 12 #[.agg #[X,vb,vc]] w (avh w s):=by
 obtain⟨h1,U,Y⟩:=h;obtain⟨A,a,rfl⟩:=cJ.form h1;obtain⟨B,b,rfl⟩:=cJ.form U;obtain⟨C,c,rfl⟩:=cJ.form Y;unfold ad0 at hl;go_enter zo,ntmps12;go_wp2;generalize Z:((w.alloc (.cells #[.slice A s.pk.length a,.slice B s.sn.length b,.slice C s.lg.length c] 46)).alloc (.cells #[.slice none 0 0,.slice none 0 0,.slice none 0 0] 27)).alloc (.cells #[.slice none 0 0,.slice none 0 0,.slice none 0 0] 27)=w0 at *;obtain⟨m,eP,g,G,N,f,D,P,d,k,j⟩:=ar0 Z;clear Z;refine(ahM s.pk _ _ R I (cK.loc.below h1 m F) (am F m.size) (by omega)).mono ?_;rintro e E ⟨v1,rfl,O,K⟩;replace g:=aB g K;replace G:=g.cell;replace N:=g.frozen;replace f:=aB f K;replace D:=f.cell;replace P:=f.frozen;replace d:=aB d K;replace k:=d.cell;replace j:=d.frozen;obtain⟨n,q,rfl⟩:=O.form;have z1:=K.size;replace O:=ab O;go_wp2;replace m:=(ae m K).setCell (p:=⟨w.heap.size+1+1,0,none⟩) (by dsimp only;omega) (.slice n s.pk.length q);have J:=ab (λb (i:w0.heap.size<=b)=>nF E ⟨w.heap.size+1+1,0,none⟩ (.slice n s.pk.length q) b (by dsimp only;omega));replace d:=d.ajx 0 (.slice n s.pk.length q);simp only[pv,qd,qg] at d;replace g:=agt g (p:=⟨w.heap.size+1+1,0,none⟩) (.slice n s.pk.length q) (by first|(dsimp only;omega)|(simp;done)|(simp;omega));replace f:=agt f (p:=⟨w.heap.size+1+1,0,none⟩) (.slice n s.pk.length q) (by first|(dsimp only;omega)|(simp;done)|(simp;omega));have T:E.heap.size<=(E.setCell ⟨w.heap.size+1+1,0,none⟩ (.slice n s.pk.length q)).heap.size:=by simp only[iS];exact ap _
 generalize E.setCell ⟨w.heap.size+1+1,0,none⟩ (.slice n s.pk.length q)=w2 at *;replace k:=d.cell;replace j:=d.frozen;replace G:=g.cell;replace N:=g.frozen;replace D:=f.cell;replace P:=f.frozen;have l:Hid (lI w2 w0.heap.size E.heap.size s.pk [.slice n s.pk.length q]):=ab (lI.aK.loc.go (λb i _=>J.out b i) (ap _) (ap _) O.out);clear O J;refine(ahN s.sn _ _ R I (dm.loc.below U m F) (am F m.size) (by omega)).mono ?_;rintro e L ⟨v3,rfl,H,z⟩;replace g:=aB g z;replace G:=g.cell;replace N:=g.frozen;replace f:=aB f z;replace D:=f.cell;replace P:=f.frozen;replace d:=aB d z;replace k:=d.cell;replace j:=d.frozen;obtain⟨r,t,rfl⟩:=H.form;have z3:=z.size;replace H:=ab H;have o:=ab (lI.aK.below l.out z T);clear l;go_wp2;replace m:=(ae m z).setCell (p:=⟨w.heap.size+1+1,1,none⟩) (by dsimp only;omega) (.slice r s.sn.length t);have u:=ab (λb (i:w0.heap.size<=b)=>nF L ⟨w.heap.size+1+1,1,none⟩ (.slice r s.sn.length t) b (by dsimp only;omega));replace d:=d.ajx 1 (.slice r s.sn.length t);simp only[pv,qd,qg] at d;replace g:=agt g (p:=⟨w.heap.size+1+1,1,none⟩) (.slice r s.sn.length t) (by first|(dsimp only;omega)|(simp;done)|(simp;omega));replace f:=agt f (p:=⟨w.heap.size+1+1,1,none⟩) (.slice r s.sn.length t) (by first|(dsimp only;omega)|(simp;done)|(simp;omega));have a0:L.heap.size<=(L.setCell ⟨w.heap.size+1+1,1,none⟩ (.slice r s.sn.length t)).heap.size:=by simp only[iS];exact ap _
 generalize L.setCell ⟨w.heap.size+1+1,1,none⟩ (.slice r s.sn.length t)=w4 at *;replace k:=d.cell;replace j:=d.frozen;replace G:=g.cell;replace N:=g.frozen;replace D:=f.cell;replace P:=f.frozen;have l:Hid (lI w4 w0.heap.size E.heap.size s.pk [.slice n s.pk.length q]):=ab (lI.aK.loc.go (λb i _=>u.out b i) (ap _) (ap _) o.out);have M:Hid (acP w4 w2.heap.size L.heap.size s.sn [.slice r s.sn.length t]):=ab (acP.aK.loc.go (λb i _=>u.out b (by omega)) (ap _) (ap _) H.out);clear H u o;refine(ahO s.lg _ _ R I (eh.loc.below Y m F) (am F m.size) (by omega)).mono ?_;rintro e w5 ⟨v5,rfl,Q,x⟩;replace g:=aB g x;replace G:=g.cell;replace N:=g.frozen;replace f:=aB f x;replace D:=f.cell;replace P:=f.frozen;replace d:=aB d x;replace k:=d.cell;replace j:=d.frozen;obtain⟨A5,a5,rfl⟩:=Q.form;have z5:=x.size;replace Q:=ab Q;have o:=ab (lI.aK.below l.out x (by omega));have S:=ab (acP.aK.below M.out x (by omega));clear l M;go_wp2;have y:∀(u0 W u2 V:Value) (b:Nat),w0.heap.size<=b->((((w5.setCell ⟨w.heap.size+1+1,2,none⟩ u0).setCell ⟨w.heap.size+1,0,none⟩ W).setCell ⟨w.heap.size+1,1,none⟩ u2).setCell ⟨w.heap.size+1,2,none⟩ V).heap[b]?=w5.heap[b]?:=λu0 W u2 V b i=>by
  rw[nF _ _ _ _ (by dsimp only;omega),nF _ _ _ _ (by dsimp only;omega),nF _ _ _ _ (by dsimp only;omega),nF _ _ _ _ (by dsimp only;omega)]
 exact pN (v:=.agg #[_,_,_]) (by simp[results,results12,go_sem,D]) rfl ⟨_,_,_,rfl,
  ⟨lI.aK.loc.go (λb i _=>y _ _ _ _ b i) (by omega) (by simp only[iS];omega) o.out,acP.aK.loc.go (λb i _=>y _ _ _ _ b (by omega)) (by omega) (by simp only[iS];omega) S.out,agz.aK.loc.go (λb i _=>y _ _ _ _ b (by omega)) (by omega) (by simp only[iS];exact ap _) Q.out⟩,
  ((((ae m x).setCell (by dsimp only;omega) _).setCell (by dsimp only;omega) _).setCell (by dsimp only;omega) _).setCell (by dsimp only;omega) _⟩
def ahQ(s t:gC)(Z Y vc vd ve X:Value)(w:World)(z n i p:Nat)(hs:mg w z n s Z Y vc)(ht:mg w i p t vd ve X)(j:n<=w.heap.size)(k:p<=w.heap.size)(q:Bool)(H:q=true↔s=t) :
  Calls (aj β) 13 #[.agg #[Z,Y,vc],.agg #[vd,ve,X]] w λe w'=>e=.returned (.bool q)/\Below w.heap.size w w':=by
 replace H:=ab H;obtain⟨I,L,W⟩:=hs;obtain⟨A,a,rfl⟩:=cJ.form I;obtain⟨B,b,rfl⟩:=cJ.form L;obtain⟨C,c,rfl⟩:=cJ.form W;obtain⟨K,N,T⟩:=ht;obtain⟨P,Q,rfl⟩:=cJ.form K;obtain⟨R,l,rfl⟩:=cJ.form N;obtain⟨M,O,rfl⟩:=cJ.form T;by_cases x:s.pk=t.pk
 .replace x:=ab x;by_cases D:s.sn=t.sn
  .replace D:=ab D;by_cases F:s.lg=t.lg
   .have J:q=true:=H.out.2 (by cases s;cases t;simp only[gC.mk.injEq];exact⟨x.out,D.out,F⟩);have G:=ab J;clear J;replace F:=ab F;go_enter vU,ntmps13;go_wp2;generalize o:(w.alloc (.cells #[.slice A s.pk.length a,.slice B s.sn.length b,.slice C s.lg.length c] 27)).alloc (.cells #[.slice P t.pk.length Q,.slice R t.sn.length l,.slice M t.lg.length O] 27)=w0 at *;obtain⟨d,V,g,u,r,f,v,y⟩:=pB o;clear o;refine(kq s.pk t.pk _ _ _ z n i p (cK.loc.below I d j) (cK.loc.below K d k) (am j d.size) (am k d.size) true (by simp only[qe];exact x.out)).mono ?_;rintro e S ⟨rfl,m⟩;replace g:=aB g m;replace u:=g.cell;replace r:=g.frozen;replace f:=aB f m;replace v:=f.cell;replace y:=f.frozen;replace d:=ae d m;go_wp2;refine(mU s.sn t.sn _ _ _ z n i p (dm.loc.below L d j) (dm.loc.below N d k) (am j d.size) (am k d.size) true (by simp only[qe];exact D.out)).mono ?_;rintro e w2 ⟨rfl,l⟩;replace g:=aB g l;replace u:=g.cell;replace r:=g.frozen;replace f:=aB f l;replace v:=f.cell;replace y:=f.frozen;replace d:=ae d l;go_wp2;refine(ack s.lg t.lg _ _ _ z n i p (eh.loc.below W d j) (eh.loc.below T d k) (am j d.size) (am k d.size) true (by simp only[qe];exact F.out)).mono ?_;rintro e w3 ⟨rfl,U⟩;replace d:=ae d U;go_wp2;go_ret;exact⟨ak G.out.symm,d⟩
   .have E:q=false:=by rw[<-be,H.out];rintro rfl;exact F rfl
    have G:=ab E;clear E;replace F:=ab F;go_enter vU,ntmps13;go_wp2;generalize o:(w.alloc (.cells #[.slice A s.pk.length a,.slice B s.sn.length b,.slice C s.lg.length c] 27)).alloc (.cells #[.slice P t.pk.length Q,.slice R t.sn.length l,.slice M t.lg.length O] 27)=w0 at *;obtain⟨d,V,g,u,r,f,v,y⟩:=pB o;clear o;refine(kq s.pk t.pk _ _ _ z n i p (cK.loc.below I d j) (cK.loc.below K d k) (am j d.size) (am k d.size) true (by simp only[qe];exact x.out)).mono ?_;rintro e S ⟨rfl,m⟩;replace g:=aB g m;replace u:=g.cell;replace r:=g.frozen;replace f:=aB f m;replace v:=f.cell;replace y:=f.frozen;replace d:=ae d m;go_wp2;refine(mU s.sn t.sn _ _ _ z n i p (dm.loc.below L d j) (dm.loc.below N d k) (am j d.size) (am k d.size) true (by simp only[qe];exact D.out)).mono ?_;rintro e w2 ⟨rfl,l⟩;replace g:=aB g l;replace u:=g.cell;replace r:=g.frozen;replace f:=aB f l;replace v:=f.cell;replace y:=f.frozen;replace d:=ae d l;go_wp2;refine(ack s.lg t.lg _ _ _ z n i p (eh.loc.below W d j) (eh.loc.below T d k) (am j d.size) (am k d.size) false (by simp only[fa,qN];exact F.out)).mono ?_;rintro e w3 ⟨rfl,U⟩;replace d:=ae d U;go_wp2;go_ret;exact⟨ak G.out.symm,d⟩
  .have E:q=false:=by rw[<-be,H.out];rintro rfl;exact D rfl
   have G:=ab E;clear E;replace D:=ab D;go_enter vU,ntmps13;go_wp2;generalize o:(w.alloc (.cells #[.slice A s.pk.length a,.slice B s.sn.length b,.slice C s.lg.length c] 27)).alloc (.cells #[.slice P t.pk.length Q,.slice R t.sn.length l,.slice M t.lg.length O] 27)=w0 at *;obtain⟨d,V,g,u,r,f,v,y⟩:=pB o;clear o;refine(kq s.pk t.pk _ _ _ z n i p (cK.loc.below I d j) (cK.loc.below K d k) (am j d.size) (am k d.size) true (by simp only[qe];exact x.out)).mono ?_;rintro e S ⟨rfl,m⟩;replace g:=aB g m;replace u:=g.cell;replace r:=g.frozen;replace f:=aB f m;replace v:=f.cell;replace y:=f.frozen;replace d:=ae d m;go_wp2;refine(mU s.sn t.sn _ _ _ z n i p (dm.loc.below L d j) (dm.loc.below N d k) (am j d.size) (am k d.size) false (by simp only[fa,qN];exact D.out)).mono ?_;rintro e w2 ⟨rfl,l⟩;replace g:=aB g l;replace u:=g.cell;replace r:=g.frozen;replace f:=aB f l;replace v:=f.cell;replace y:=f.frozen;replace d:=ae d l;go_wp2;go_ret;exact⟨ak G.out.symm,d⟩
 .have E:q=false:=by rw[<-be,H.out];rintro rfl;exact x rfl
  have G:=ab E;clear E;replace x:=ab x;go_enter vU,ntmps13;go_wp2;generalize o:(w.alloc (.cells #[.slice A s.pk.length a,.slice B s.sn.length b,.slice C s.lg.length c] 27)).alloc (.cells #[.slice P t.pk.length Q,.slice R t.sn.length l,.slice M t.lg.length O] 27)=w0 at *;obtain⟨d,V,g,u,r,f,v,y⟩:=pB o;clear o;refine(kq s.pk t.pk _ _ _ z n i p (cK.loc.below I d j) (cK.loc.below K d k) (am j d.size) (am k d.size) false (by simp only[fa,qN];exact x.out)).mono ?_;rintro e S ⟨rfl,m⟩;replace g:=aB g m;replace u:=g.cell;replace r:=g.frozen;replace f:=aB f m;replace v:=f.cell;replace y:=f.frozen;replace d:=ae d m;go_wp2;go_ret;exact⟨ak G.out.symm,d⟩
end
section
open Go.RowKit Go.ChangeShapes Go.WideShapes Go.ChangeAt
def agD(w:World)(lo hi:Nat)(s:gC)(v:Value):Prop:=∃c a b,v=.agg #[c,a,b]/\mg w lo hi s c a b
end
section
variable {β:Bool}
open Go.RowKit
def oK(s:ByteArray)(n:s.size<=maxLen)(w:World) :
  Calls (aj β) 145 #[.string s] w λe m=>e=.returned (.bool ((bs s).all mC))/\w=m:=by
 unfold maxLen at n;go_enter yf,ntmps145;go_wp2
 go_loop [3] (λi=>∃k:Nat,k<=s.size/\i=.int .i64 k/\((bs s).take k).all mC=true) (λi=>s.size-(intOf i).toNat)
 case atStart=>exact⟨0,fb _,rfl,rfl⟩
 case round=>
  obtain⟨k,p,rfl,f⟩:=hrel;replace f:=ab f;by_cases b:k<s.size
  .have d:=mQ b;replace d:=ab d;by_cases q:(s[k]'b).toNat<97
   .have l:=du (show((s[k]'b).toNat:Int)<97 by omega);have a:(bs s).all mC=false:=by
     rw[tE];exact⟨_,da d.out,by unfold mC;simp;omega⟩
    have c:=ab a;clear a;go_wp2;go_ret;exact⟨ak c.out.symm,rfl⟩
   .have l:=bv (show ¬(((s[k]'b).toNat:Int)<97) by omega);by_cases o:122<(s[k]'b).toNat
    .have j:=du (show 122<((s[k]'b).toNat:Int) by omega);have a:(bs s).all mC=false:=by
      rw[tE];exact⟨_,da d.out,by unfold mC;simp;omega⟩
     have c:=ab a;clear a;go_wp2;go_ret;exact⟨ak c.out.symm,rfl⟩
    .have j:=bv (show ¬(122<((s[k]'b).toNat:Int)) by omega);have g:((bs s).take (k+1)).all mC=true:=by
      rw[kw d.out,sE,f.out];simp[mC];omega
     replace g:=ab g;go_wp2
     go_round
     case rel=>exact⟨k+1,by omega,by go_num,g.out⟩
     simp[intOf];omega
  .obtain rfl:k=s.size:=by omega
   have a:(bs s).all mC=true:=by
    have:=f.out
    rwa [nf (by rw[aL];exact ap _)] at this
   have c:=ab a;clear a;go_wp2;go_ret;exact⟨ak c.out.symm,rfl⟩
def acm(s:ByteArray)(i:s.size<=maxLen)(w:World)(b:Bool)(c:b=true↔aX (bs s)) :
  Calls (aj β) 178 #[.string s] w λe j=>e=.returned (.bool b)/\w=j:=by
 replace c:=ab c;have HS:=i;unfold maxLen at i;go_enter xV,ntmps178;go_wp2;by_cases g:1<=s.size/\s.size<=8
 .refine(adO s.size 1 8 (by omega) (by omega) w).mono ?_;rintro e f ⟨rfl,rfl⟩;go_wp2;refine(oK s HS w).mono ?_;rintro e f ⟨rfl,rfl⟩;have a:b=(bs s).all mC:=by
   rw[oE,c.out];unfold aX;rw[aL];exact⟨λh=>h.2,λh=>⟨g,h⟩⟩
  have d:=ab a;clear a;go_wp2;go_ret;exact⟨ak d.out.symm,rfl⟩
 .refine(agw s.size 1 8 (by omega) w).mono ?_;rintro e f ⟨rfl,rfl⟩;have a:b=false:=by
   rw[<-be,c.out];unfold aX;rw[aL];exact λh=>g h.1
  have d:=ab a;clear a;go_wp2;go_ret;exact⟨ak d.out.symm,rfl⟩
def ajT(s:ByteArray)(f:aX (bs s))(w:World) :
  Calls (aj β) 121 #[.string s] w λe p=>e=.returned (.int .i64 (code (bs s)))/\w=p:=by
 have o:=ab f;have u:s.size<=8:=by have:=f.1.2;rwa [aL] at this
 clear f;go_enter ym,ntmps121;go_wp2
 go_loop [3,4] (λn i=>∃k:Nat,k<=s.size/\i=.int .i64 k/\n=.int .i64 (code ((bs s).take k))) (λ_ i=>s.size-(intOf i).toNat)
 case atStart=>exact⟨0,fb _,rfl,rfl⟩
 case round=>
  obtain⟨k,v,rfl,rfl⟩:=hrel;by_cases a:k<s.size
  .have l:=mQ a;have g:=ip.1 o.out.2 _ (da l);have q:97<=(s[k]'a).toNat/\(s[k]'a).toNat<=122:=by unfold mC at g;simpa using g
   have d:=afk l;have j:code ((bs s).take (k+1))<282429536481:=by
    have y:=adQ ((bs s).take (k+1)) 0 (ip.2 λx r=>ip.1 o.out.2 x (qb r));have t:27 ^ ((bs s).take (k+1)).length<=27 ^ 8:=uY (by omega) (by rw[lm,aL];omega);have e:(27:Nat) ^ 8=282429536481:=by decide
    unfold code;omega
   have b:=ab d;clear l g;rw[d] at j;clear d;revert b j;generalize code ((bs s).take k)=c;intro j b;go_wp2
   go_round
   case rel=>exact⟨k+1,by omega,by go_num,by rw[b.out];congr 1;omega⟩
   simp[intOf];omega
  .obtain rfl:k=s.size:=by omega
   have m:(bs s).take s.size=bs s:=nf (by rw[aL];exact ap _);rw[m];clear m;go_wp2;go_ret;exact⟨rfl,rfl⟩
def ajU(key:Int)(s:ByteArray)(n:1<=key/\key<=99)(d:aX (bs s))(w:World) :
  Calls (aj β) 72 #[.int .i64 key,.string s] w λe j=>e=.returned (.int .i64 (cg key (bs s)))/\w=j:=by
 have i:=aaP d;have f:cg key (bs s)=((code (bs s):Int)*(2*key+1)+key*7919) % 999999999989:=rfl;have a:=ab f;clear f;have g:=ajT (β:=β) s d w;have b:=ab g;clear g;revert b;revert a;revert i;generalize code (bs s)=c;intro i a b;have q:0<=(c:Int)*(2*key+1)/\(c:Int)*(2*key+1)<=282429536481*199:=by
  constructor
  .exact Int.mul_nonneg (by omega) (by omega)
  .exact Int.mul_le_mul (by omega) (by omega) (by omega) (by omega)
 go_enter yL,ntmps72;go_wp2;refine b.out.mono ?_;rintro e k ⟨rfl,rfl⟩;have t:wrap64 (2*key)=2*key:=by unfold wrap64;omega
 have p:wrap64 (2*key+1)=2*key+1:=by unfold wrap64;omega
 have o:wrap64 ((c:Int)*(2*key+1))=(c:Int)*(2*key+1):=by unfold wrap64;omega
 have l:wrap64 (key*7919)=key*7919:=by unfold wrap64;omega
 have r:wrap64 ((c:Int)*(2*key+1)+key*7919)=(c:Int)*(2*key+1)+key*7919:=by unfold wrap64;omega
 have m:((c:Int)*(2*key+1)+key*7919).tmod 999999999989=((c:Int)*(2*key+1)+key*7919) % 999999999989:=ul (by omega);go_wp2;go_ret;exact⟨fe a.out.symm,rfl⟩
def ahR(n:Nat)(w:World) :
  Calls (aj β) 184 #[.int .i64 n] w λe d=>e=.returned (.int .i64 (bU n))/\w=d:=by
 have g:(n=0/\bU n=0)\/(8<n/\bU n=0)\/((1<=n/\n<=2)/\bU n=2)\/((3<=n/\n<=4)/\bU n=4)\/((5<=n/\n<=8)/\bU n=8):=by
  unfold bU;split<;>(try split)<;>(try split)<;>omega
 rcases g with⟨h,e⟩|⟨h,e⟩|⟨h,e⟩|⟨h,e⟩|⟨h,e⟩
 .rw[e];subst h;go_enter vw,ntmps184;go_wp2;go_ret;exact⟨rfl,rfl⟩
 .rw[e];have c:=bv (show ¬((n:Int)<1) by omega);have b:=du (show 8<(n:Int) by omega);clear e;go_enter vw,ntmps184;go_wp2;go_ret;exact⟨rfl,rfl⟩
 all_goals
  rw[e];have c:=bv (show ¬((n:Int)<1) by omega);have b:=bv (show ¬(8<(n:Int)) by omega);clear e
 .have a:=du (show(n:Int)<=2 by omega);go_enter vw,ntmps184;go_wp2;go_ret;exact⟨rfl,rfl⟩
 .have a:=bv (show ¬((n:Int)<=2) by omega);have f:=du (show(n:Int)<=4 by omega);go_enter vw,ntmps184;go_wp2;go_ret;exact⟨rfl,rfl⟩
 .have a:=bv (show ¬((n:Int)<=2) by omega);have f:=bv (show ¬((n:Int)<=4) by omega);go_enter vw,ntmps184;go_wp2;go_ret;exact⟨rfl,rfl⟩
def aud(l:List Nat)(e:Ending):Prop:=∃t:ByteArray,e=.returned (.string t)/\bs t=l
def anq(s:ByteArray)(j:s.size<=maxLen)(w:World) :
  Calls (aj β) 143 #[.string s] w λe i=>aud (fA (bs s)) e/\w=i:=by
 unfold maxLen at j;have a:fA (bs s)=bs s++List.replicate (bU s.size-s.size) 46:=by unfold fA;rw[aL]
 replace a:=ab a;have o:=(nM (n:=s.size)).1;go_enter yg,ntmps143;go_wp2;refine(ahR s.size w).mono ?_;rintro e m ⟨rfl,rfl⟩;go_wp2
 go_loop [0] (λv=>∃(t:ByteArray) (k:Nat),v=.string t/\bs t=bs s++List.replicate k 46/\k<=bU s.size-s.size) (λv=>bU s.size-(match v with|.string t=>t.size|_=>0))
 case atStart=>exact⟨s,0,rfl,by simp,fb _⟩
 case round=>
  obtain⟨t,k,rfl,c,p⟩:=hrel;have l:t.size=s.size+k:=by rw[<-aL,c,gn,pL,aL]
  replace c:=ab c;by_cases f:t.size<bU s.size
  .have g:=du (show(t.size:Int)<(bU s.size:Int) by omega);have d:bs (t++⟨#[46]⟩)=bs s++List.replicate (k+1) 46:=by
    rw[jr,c.out,sL,uZ];rfl
   replace d:=ab d;go_wp2
   go_round
   case rel=>exact⟨_,k+1,rfl,d.out,by omega⟩
   case measure=> 
    have:(t++(⟨#[46]⟩:ByteArray)).size=t.size+1:=by rw[<-aL,jr,gn,aL];rfl
    simp only[this];omega
  .have g:=bv (show ¬((t.size:Int)<(bU s.size:Int)) by omega);have b:k=bU s.size-s.size:=by omega
   replace b:=ab b;go_wp2;go_ret;exact⟨⟨t,rfl,by rw[c.out,a.out,b.out]⟩,rfl⟩
open Classical in
noncomputable def ad1(l:List Nat):List Nat:=if aX l then fA l else[]
def afl(s:ByteArray)(f:s.size<=maxLen)(w:World) :
  Calls (aj β) 120 #[.string s] w λe i=>aud (ad1 (bs s)) e/\w=i:=by
 go_enter yn,ntmps120;by_cases b:aX (bs s)
 .have a:ad1 (bs s)=fA (bs s):=by unfold ad1;rw[dj b]
  have c:=ab a;clear a;replace b:=ab b;go_wp2;refine(acm s f w true (by simp only[qe];exact b.out)).mono ?_;rintro e g ⟨rfl,rfl⟩;go_wp2;refine(anq s f w).mono ?_;rintro e g ⟨⟨t,rfl,d⟩,rfl⟩;replace d:=ab d;go_wp2;go_ret;exact⟨⟨t,rfl,by rw[d.out,c.out]⟩,rfl⟩
 .have a:ad1 (bs s)=[]:=by unfold ad1;rw[bd b]
  have c:=ab a;clear a;replace b:=ab b;go_wp2;refine(acm s f w false (by simp only[fa,qN];exact b.out)).mono ?_;rintro e g ⟨rfl,rfl⟩;go_wp2;go_ret;exact⟨⟨_,rfl,by rw[c.out];rfl⟩,rfl⟩
def ayO(l:List Nat)(e:Ending):Prop:=∃(t:ByteArray) (b:Bool),e=.returned (.tuple #[.string t,.bool b])/\((b=true/\cF l=some (bs t))\/(b=false/\cF l=none/\bs t=[]))
def tW(a:k<=s.size):(s.extract 0 k).size=k:=by
 rw[<-aL,cq,qp,lm,aL];omega
def acn(s:ByteArray)(E:s.size<=maxLen)(w:World) :
  Calls (aj β) 71 #[.string s] w λe G=>ayO (bs s) e/\w=G:=by
 have HS:=E;unfold maxLen at E;go_enter yM,ntmps71;go_wp2
 go_loop [4] (λn=>∃k:Nat,k<=s.size/\n=.int .i64 k/\cQ (bs s) s.size=cQ (bs s) k) (λn=>(intOf n).toNat)
 case atStart=>exact⟨s.size,ap _,rfl,rfl⟩
 case round=>
  obtain⟨k,D,rfl,f⟩:=hrel;replace f:=ab f;rcases mu k with C|C
  .subst C;have g:sx (bs s)=[]:=by unfold sx;rw[aL,f.out];rfl
   have a:cF (bs s)=none:=by
    unfold cF;rw[g,bd];intro h;have:=h.1.1.1;simp at this
   have l:=ab a;clear a g;by_cases H:8<s.size
   .have z:=du (show 8<(s.size:Int) by omega);go_wp2;go_ret2;exact⟨⟨_,_,rfl,.inr ⟨rfl,l.out,rfl⟩⟩,rfl⟩
   .have z:=bv (show ¬(8<(s.size:Int)) by omega);go_wp2;have x:(ByteArray.empty).size<=maxLen:=by unfold maxLen;show 0<=_;omega
    refine(afl ByteArray.empty x w).mono ?_;rintro e F ⟨⟨t,rfl,o⟩,rfl⟩;clear o;by_cases c:t=s
    .subst c;go_wp2;go_ret2;exact⟨⟨_,_,rfl,.inr ⟨rfl,l.out,rfl⟩⟩,rfl⟩
    .have B:=mR c;go_wp2;go_ret2;exact⟨⟨_,_,rfl,.inr ⟨rfl,l.out,rfl⟩⟩,rfl⟩
  .obtain⟨j,rfl⟩:∃j,k=j+1:=⟨k-1,by omega⟩;have K:((j+1:Nat):Int)-1=(j:Int):=by omega
   have r:j<s.size:=by omega
   have q:=mQ r;by_cases i:(s[j]'r).toNat=46
   .have z:(((s[j]'r).toNat:Int) ==46)=true:=mT.2 (by omega);have A:cQ (bs s) s.size=cQ (bs s) j:=by
     rw[f.out];show(if(bs s)[j]?=some 46 then cQ (bs s) j else j+1)=_;rw[dj (by rw[q,i])]
    replace A:=ab A;clear q i;go_wp2
    go_round
    case rel=>exact⟨j,by omega,rfl,A.out⟩
    simp[intOf]
   .have z:(((s[j]'r).toNat:Int) ==46)=false:=jp.2 (by omega);have m:cQ (bs s) (j+1)=j+1:=by
     show(if(bs s)[j]?=some 46 then cQ (bs s) j else j+1)=_;rw[bd (by rw[q];intro h;exact i (de h))]
    have g:bs (s.extract 0 (j+1))=sx (bs s):=by
     rw[cq,qp];unfold sx;rw[aL,f.out,m]
    have p:=ab g;clear g m q i;have v:=tW D;by_cases H:8<s.size
    .have B:=du (show 8<(s.size:Int) by omega);have a:cF (bs s)=none:=by
      unfold cF;rw[bd];intro h;have d:=ahJ h.1;rw[h.2,aL] at d;have:=(nM (n:=(sx (bs s)).length)).1;omega
     have l:=ab a;clear a;go_wp2;go_ret2;exact⟨⟨_,_,rfl,.inr ⟨rfl,l.out,rfl⟩⟩,rfl⟩
    .have B:=bv (show ¬(8<(s.size:Int)) by omega);go_wp2;refine(afl (s.extract 0 (j+1)) (am (mc v) (am D HS)) w).mono ?_;rintro e F ⟨⟨t,rfl,o⟩,rfl⟩;rw[p.out] at o;have u:=ab o;clear o;by_cases c:t=s
     .have b:cF (bs s)=some (bs (s.extract 0 (j+1))):=by
       have d:=u.out;rw[c] at d;unfold ad1 at d;by_cases y:aX (sx (bs s))
       .rw[dj y] at d;unfold cF;rw[dj ⟨y,d.symm⟩,p.out]
       .rw[bd y] at d;have J:s.size=0:=by rw[<-aL,d];rfl
        omega
      replace b:=ab b;clear u;subst c;go_wp2;go_ret2;exact⟨⟨_,_,rfl,.inl ⟨rfl,b.out⟩⟩,rfl⟩
     .have a:cF (bs s)=none:=by
       unfold cF;rw[bd];intro h;have d:=u.out;unfold ad1 at d;rw[dj h.1,h.2] at d;exact c (iZ d)
      have l:=ab a;clear a u;have I:=mR c;go_wp2;go_ret2;exact⟨⟨_,_,rfl,.inr ⟨rfl,l.out,rfl⟩⟩,rfl⟩
end
section
variable {β:Bool}
open Go.RowKit
def aaU(x:Int)(w:World)(b:Bool)(a:b=true↔1<=x/\x<=99):Calls (aj β) 19 #[.int .i64 x] w λe c=>e=.returned (.bool b)/\w=c:=by
 replace a:=ab a;by_cases h:1<=x
 .go_enter xo,ntmps19;go_wp2;go_ret;exact⟨ak (by rw[oE,a.out];simp[h]),rfl⟩
 .go_enter xo,ntmps19;go_wp2;go_ret;exact⟨ak (by rw[oE,a.out];simp[h];omega),rfl⟩
def afm(s:ByteArray)(n:s.size<=maxLen)(w:World) :
  Calls (aj β) 172 #[.string s] w λe m=>e=.returned (.bool ((bs s).all mC))/\w=m:=by
 unfold maxLen at n;go_enter xZ,ntmps172;go_wp2
 go_loop [6] (λi=>∃k:Nat,k<=s.size/\i=.int .i64 k/\((bs s).take k).all mC=true) (λi=>s.size-(intOf i).toNat)
 case atStart=>exact⟨0,fb _,rfl,rfl⟩
 case round=>
  obtain⟨k,p,rfl,f⟩:=hrel;replace f:=ab f;by_cases b:k<s.size
  .have d:=mQ b;replace d:=ab d;by_cases q:(s[k]'b).toNat<97
   .have l:=du (show((s[k]'b).toNat:Int)<97 by omega);have a:(bs s).all mC=false:=by
     rw[tE];exact⟨_,da d.out,by unfold mC;simp;omega⟩
    have c:=ab a;clear a;go_wp2;go_ret;exact⟨ak c.out.symm,rfl⟩
   .have l:=bv (show ¬(((s[k]'b).toNat:Int)<97) by omega);by_cases o:122<(s[k]'b).toNat
    .have j:=du (show 122<((s[k]'b).toNat:Int) by omega);have a:(bs s).all mC=false:=by
      rw[tE];exact⟨_,da d.out,by unfold mC;simp;omega⟩
     have c:=ab a;clear a;go_wp2;go_ret;exact⟨ak c.out.symm,rfl⟩
    .have j:=bv (show ¬(122<((s[k]'b).toNat:Int)) by omega);have g:((bs s).take (k+1)).all mC=true:=by
      rw[kw d.out,sE,f.out];simp[mC];omega
     replace g:=ab g;go_wp2
     go_round
     case rel=>exact⟨k+1,by omega,by go_num,g.out⟩
     simp[intOf];omega
  .obtain rfl:k=s.size:=by omega
   have a:(bs s).all mC=true:=by
    have:=f.out
    rwa [nf (by rw[aL];exact ap _)] at this
   have c:=ab a;clear a;go_wp2;go_ret;exact⟨ak c.out.symm,rfl⟩
def nP(s:ByteArray)(j:s.size<=maxLen)(w:World)(b:Bool)(g:b=true↔aX (bs s)) :
  Calls (aj β) 147 #[.string s] w λe l=>e=.returned (.bool b)/\w=l:=by
 replace g:=ab g;have HS:=j;unfold maxLen at j;have a:b=(decide (1<=(s.size:Int))&&decide ((s.size:Int)<=8)&&(bs s).all mC):=by
  rw[oE,g.out];unfold aX;rw[aL];simp only[eg,ql];exact⟨λ⟨⟨k,i⟩,f⟩=>⟨⟨by omega,by omega⟩,f⟩,λ⟨⟨k,i⟩,f⟩=>⟨⟨by omega,by omega⟩,f⟩⟩
 replace a:=ab a;by_cases k:1<=s.size
 .have c:=du (show 1<=(s.size:Int) by omega);by_cases i:s.size<=8
  .have d:=du (show(s.size:Int)<=8 by omega);go_enter vP,ntmps147;go_wp2;refine(afm s HS w).mono ?_;rintro e m ⟨rfl,rfl⟩;go_wp2;go_ret;exact⟨ak (by rw[a.out,c,d];simp),rfl⟩
  .have d:=bv (show ¬((s.size:Int)<=8) by omega);go_enter vP,ntmps147;go_wp2;go_ret;exact⟨ak (by rw[a.out,c,d];simp),rfl⟩
 .have c:=bv (show ¬(1<=(s.size:Int)) by omega);go_enter vP,ntmps147;go_wp2;go_ret;exact⟨ak (by rw[a.out,c];simp),rfl⟩
end
section
variable {β:Bool}
open Go.RowKit
def ajW(h:k<s.size):code ((bs s).take (k+1))=27*code ((bs s).take k)+((s[k]'h).toNat-97)+1:=afk (mQ h)
def ahT{l:List Nat}(h:aX l)(k:Nat):code (l.take k)<282429536481:=by
 rcases mu k with a|a
 .subst a;simp[code,dE]
 .refine aaP ⟨⟨?_, ?_⟩, ?_⟩
  .rw[lm];have:=h.1.1;omega
  .rw[lm];have:=h.1.2;omega
  .rw[ip];exact λx b=>ip.1 h.2 x (qb b)
def ar8(key:Int)(s:ByteArray)(r:1<=key/\key<=99)(b:aX (bs s))(w:World) :
  Calls (aj β) 149 #[.int .i64 key,.string s] w λe q=>e=.returned (.tuple #[.int .i64 (cg key (bs s)),.nilIface])/\w=q:=by
 have u:1<=s.size/\s.size<=8:=by have:=b.1;rw[aL] at this;exact this
 have j:s.size<=maxLen:=by unfold maxLen;omega
 have n:=aaP b;replace b:=ab b;replace j:=ab j;have l:cg key (bs s)=((code (bs s):Int)*(2*key+1)+7919*key) % 999999999989:=by unfold cg;rw[Int.mul_comm key 7919]
 have g:=ab l;clear l;go_enter yd,ntmps149;go_wp2;refine(aaU key w true (by simp;exact r)).mono ?_;rintro e o ⟨rfl,rfl⟩;go_wp2;refine(nP s j.out w true (by simp only[qe];exact b.out)).mono ?_;rintro e o ⟨rfl,rfl⟩;go_wp2
 go_loop [6,20] (λc i=>∃k:Nat,k<=s.size/\i=.int .i64 k/\c=.int .i64 (code ((bs s).take k))) (λ_ i=>s.size-(intOf i).toNat)
 case atStart=>exact⟨0,fb _,rfl,rfl⟩
 case round=>
  obtain⟨k,p,rfl,rfl⟩:=hrel;by_cases a:k<s.size
  .have d:=ajW a;have v:=ahT b.out k;have t:=ahT b.out (k+1);have A:97<=(s[k]'a).toNat/\(s[k]'a).toNat<=122:=by
    have:=ip.1 b.out.2 _ (da (mQ a));unfold mC at this;simpa using this
   replace d:=ab d;generalize f:code ((bs s).take k)=cd at *;replace f:=ab f;go_wp2
   go_round
   case rel=>exact⟨k+1,by omega,by go_num,by rw[d.out];congr 1;omega⟩
   simp[intOf];omega
  .obtain rfl:k=s.size:=by omega
   have m:(bs s).take s.size=bs s:=nf (by rw[aL];exact ap _);rw[m];clear m;revert g;revert n;generalize code (bs s)=c;intro n g;have y:0<=(c:Int)*(2*key+1)/\(c:Int)*(2*key+1)<=282429536481*199:=by
    constructor
    .exact Int.mul_nonneg (by omega) (by omega)
    .exact Int.mul_le_mul (by omega) (by omega) (by omega) (by omega)
   have C:wrap64 (2*key)=2*key:=by unfold wrap64;omega
   have x:wrap64 (2*key+1)=2*key+1:=by unfold wrap64;omega
   have D:wrap64 ((c:Int)*(2*key+1))=(c:Int)*(2*key+1):=by unfold wrap64;omega
   have z:wrap64 (7919*key)=7919*key:=by unfold wrap64;omega
   have B:wrap64 ((c:Int)*(2*key+1)+7919*key)=(c:Int)*(2*key+1)+7919*key:=by unfold wrap64;omega
   have E:((c:Int)*(2*key+1)+7919*key).tmod 999999999989=((c:Int)*(2*key+1)+7919*key) % 999999999989:=ul (by omega);go_wp2;go_ret2;exact⟨by rw[g.out];rfl,rfl⟩
def apt(key:Int)(s:ByteArray)(nm:Int)(c:1<=key/\key<=99)(b:aX (bs s))(w:World) :
  Calls (aj β) 106 #[.int .i64 key,.string s,.int .i64 nm] w λe d=>e=.returned (.bool (decide (cg key (bs s)=nm)))/\w=d:=by
 replace b:=ab b;go_enter yw,ntmps106;go_wp2;refine(ar8 key s c b.out w).mono ?_;rintro e f ⟨rfl,rfl⟩;obtain⟨y,a⟩:∃y,y=cg key (bs s):=⟨_,rfl⟩;rw[<-a];replace a:=ab a;by_cases h:y=nm
 .subst h;go_wp2;go_ret;exact⟨ak (by rw[<-a.out];simp),rfl⟩
 .have g:(y ==nm)=false:=jp.2 h;go_wp2;go_ret;exact⟨ak (by rw[<-a.out];simp[h]),rfl⟩
end
section
variable {β:Bool}
open Go.RowKit
def anr(n:Nat)(m:1<=n/\n<=8)(w:World) :
  Calls (aj β) 190 #[.int .i64 n] w λe f=>e=.returned (.int .i64 (bU n))/\w=f:=by
 have i:((1<=n/\n<=2)/\bU n=2)\/((3<=n/\n<=4)/\bU n=4)\/((5<=n/\n<=8)/\bU n=8):=by
  unfold bU;split<;>(try split)<;>(try split)<;>omega
 obtain⟨a,b⟩:∃a,a=bU n:=⟨_,rfl⟩;rw[<-b] at i ⊢;replace b:=ab b;have l:=bv (show ¬((n:Int)<1) by omega);have j:=bv (show ¬(8<(n:Int)) by omega);go_enter xR,ntmps190;go_wp2
 go_loop [3] (λv=>∃k:Nat,v=.int .i64 k/\(k=2\/k=4\/k=8)/\k<=a) (λv=>8-(intOf v).toNat)
 case atStart=>exact⟨2,rfl,.inl rfl,by omega⟩
 case round=>
  obtain⟨k,rfl,o,g⟩:=hrel;by_cases d:k<n
  .have c:=du (show(k:Int)<(n:Int) by omega);go_wp2
   go_round
   case rel=>exact⟨k*2,by go_num,by omega,by omega⟩
   simp[intOf];omega
  .have c:=bv (show ¬((k:Int)<(n:Int)) by omega);obtain rfl:k=a:=by omega
   go_wp2;go_ret;exact⟨rfl,rfl⟩
def ajX(s:ByteArray)(r:s.size<=maxLen)(w:World) :
  Calls (aj β) 185 #[.string s,.int .u8 46] w λe q=>e=.returned (.string (s.extract 0 (cQ (bs s) s.size)))/\w=q:=by
 unfold maxLen at r;go_enter xS,ntmps185;go_wp2
 go_loop [0] (λv=>∃(t:ByteArray) (k:Nat),v=.string t/\k<=s.size/\t=s.extract 0 k/\cQ (bs s) s.size=cQ (bs s) k) (λv=>match v with|.string t=>t.size|_=>0)
 case atStart=>exact⟨s,s.size,rfl,ap _,by rw[ByteArray.extract_zero_size],rfl⟩
 case round=>
  obtain⟨t,k,rfl,y,d,a⟩:=hrel;have x:t.size=k:=by rw[d,tW y]
  replace d:=ab d;replace a:=ab a;rcases mu k with n|n
  .have p:=bv (show ¬(0<(t.size:Int)) by omega);go_wp2;go_ret;exact⟨by rw[a.out,d.out,n];rfl,rfl⟩
  .obtain⟨j,rfl⟩:∃j,k=j+1:=⟨k-1,by omega⟩;have p:=du (show 0<(t.size:Int) by omega);have z:((j+1:Nat):Int)-1=(j:Int):=by omega
   have f:j<t.size:=by omega
   have g:(bs s)[j]?=some (t[j]'f).toNat:=by
    rw[<-mQ f,d.out,cq,qp,List.getElem?_take_of_lt (by omega)]
   replace g:=ab g;by_cases b:(t[j]'f).toNat=46
   .have o:(((t[j]'f).toNat:Int) ==46)=true:=mT.2 (by omega);have i:cQ (bs s) s.size=cQ (bs s) j:=by
     rw[a.out];show(if(bs s)[j]?=some 46 then cQ (bs s) j else j+1)=_;rw[dj (by rw[g.out,b])]
    replace i:=ab i;clear b;have l:t.extract 0 j=s.extract 0 j:=by
     apply iZ;rw[cq,cq,d.out,cq,qp,qp,qp,uQ]
     congr 1;omega
    have u:(t.extract 0 j).size=j:=tW (by omega);replace l:=ab l;go_wp2
    go_round
    case rel=>exact⟨_,j,rfl,by omega,l.out,i.out⟩
    case measure=>
     show(t.extract 0 j).size<t.size;omega
   .have o:(((t[j]'f).toNat:Int) ==46)=false:=jp.2 (by omega);have c:cQ (bs s) (j+1)=j+1:=by
     show(if(bs s)[j]?=some 46 then cQ (bs s) j else j+1)=_;rw[bd (by rw[g.out];intro h;exact b (de h))]
    replace c:=ab c;clear b;go_wp2;go_ret;have m:t=s.extract 0 (cQ (bs s) s.size):=by rw[a.out,c.out];exact d.out
    exact⟨by rw[<-m];rfl,rfl⟩
def ahU(s:ByteArray)(b:s.size<=maxLen)(w:World) :
  Calls (aj β) 146 #[.string s,.string ⟨#[46]⟩] w λe c=>e=.returned (.string (s.extract 0 (cQ (bs s) s.size)))/\w=c:=by
 by_cases d:s.size=0
 .have a:s=ByteArray.empty:=iZ (by
   have:(bs s).length=0:=by rw[aL];exact d
   rw[sJ this];rfl)
  subst a;go_enter wF,ntmps146;go_wp2;go_ret;exact⟨rfl,rfl⟩
 .have g:s.toList.isEmpty=false:=by
   rw[uu];intro h;rw[List.isEmpty_iff,qj] at h;apply d;have:s.data=#[]:=tS.1 h;show s.data.size=0;rw[this];rfl
  have f:¬(128:Int)<=(((⟨#[46]⟩:ByteArray)[0]'Nat.zero_lt_one).toNat:Int):=by decide
  replace b:=ab b;go_enter wF,ntmps146;go_wp2_with(go_at_call 185;refine(ajX s b.out w).mono ?_;rintro e c ⟨rfl,rfl⟩);go_ret;exact⟨rfl,rfl⟩
end
section
variable {β:Bool}
open Go.RowKit
def ajY {P:Program} {a ty c t e:TypeId} {j:TypeInfo}  (m:P.underlying a=some (.pointer t)) (l:P.info? t=some j) (n:j.bytes<18446744073709551616)
  (d:w.shape? b=some (e,Z)) (g:liesAt P P.depth e (Z / P.cellsOf e) 0 t 1=true) :
  (Builtin.unsafeSlice_ #[a,c] ty #[.pointer (some ⟨b,0,none⟩),.int .i64 1]).run P w=.ok (.slice (some ⟨b,0,none⟩) 1 1) w:=by
 have i:¬(18446744073709551616:Nat)<=j.bytes:=by omega
 unfold Builtin.unsafeSlice_;refine(qh P (asInt (.int .i64 1)) _ w).trans ?_;have f:(asInt (.int .i64 1)).run P w=.ok 1 w:=by simp[asInt,asIntOf]
 rw[f];refine(qh P (elemOf a) _ w).trans ?_;have k:(elemOf a).run P w=.ok t w:=by simp[elemOf,li m]
 rw[k];simp only[Result.andThen];simp[variablesAt,d,g,typeInfo,l,sizeOf,IntKind.max,IntKind.signed,IntKind.bits,i]
noncomputable def xCC:Func:=by
 apply(λ(x:Func) (_:{f198 with body:=some lv}=x)=>x)
 case x=>dsimp only[lv,mO,age,ajs,fY,f198]
def al1:xCC.results=#[]:=results198
def ajZ:(aj β).funcs[198]?=some xCC:=abA β
@[go_sem] theorem awY(args:Array Value)(w:World):(callFunc 198 args).run (aj β) w=.ok (.enter 198 args) w:=by
 have a:=cu func198;exact jA ajZ a rfl args w
def ar9:((aj β).info? 227).map (λi=>(i.bytes,i.size))=some (32,2):=by kernel_rfl
def asa:liesAt (aj β) (aj β).depth 227 (2 / (aj β).cellsOf 227) 0 227 1=true:=by kernel_rfl
def ahV(c:w.shape? b=some (227,2)):(Builtin.unsafeSlice_ #[225,3] 0 #[.pointer (some ⟨b,0,none⟩),.int .i64 1]).run (aj β) w=.ok (.slice (some ⟨b,0,none⟩) 1 1) w:=by
 obtain⟨j,d,a⟩:=ga.1 (ar9 (β:=β));simp only[Prod.mk.injEq] at a;exact ajY xt d (by omega) c asa
def ahW(b:Nat)(w:World)(g:w.cell? ⟨b,0,none⟩=some (.pointer none))(d:w.shape? b=some (227,2))(c:w.frozen? ⟨b,0,none⟩=false) :
  Calls (aj β) 198 #[.pointer (some ⟨b,0,none⟩)] w λe a=>e=.returned (.tuple #[])/\a=w.setCell ⟨b,0,none⟩ (.pointer (some ⟨b,0,none⟩)):=by
 have i:=ahV (β:=β) d;have f:xCC.ntmps=20:=ntmps198;go_enter ajZ,f;go_wp2;refine pN (results_none al1 _ _ _) rfl ?_;exact⟨rfl,rfl⟩
def avi(B b:Nat)(bs:List Value)(w:World)(h:Lib.IsBuilderF 227 5 B b bs w) :
  Calls (aj β) 198 #[.pointer (some ⟨b,0,none⟩)] w λe a=>e=.returned (.tuple #[])/\(Lib.BuilderAtF 227 5 B b (.pointer (some ⟨b,0,none⟩)) bs a/\Below B w a):=by
 rcases h with h|h
 .refine(ahW b w h.cell0 h.shape h.frozen0).mono ?_;rintro e a ⟨rfl,rfl⟩;exact⟨rfl,h.used _,(dk B w).setCell (p:=⟨b,0,none⟩) h.1 _⟩
 .have j:=ahV (β:=β) h.shape;have g:xCC.ntmps=20:=ntmps198;have i:=h.cell0;have k:=h.frozen0;have c:=h.used (.pointer none);have f:=c.cell0;have d:=c.frozen0;go_enter ajZ,g;go_wp2;refine pN (results_none al1 _ _ _) rfl ?_;refine⟨rfl,c.used _,((dk B w).setCell (p:=⟨b,0,none⟩) h.1 _).setCell (p:=⟨b,0,none⟩) h.1 _⟩
def aj0(B b:Nat)(bs:List Value)(w:World)(h:Lib.IsBuilderF 227 5 B b bs w) :
  Calls (aj β) 208 #[.pointer (some ⟨b,0,none⟩)] w λe j=>e=.returned (.int .i64 bs.length)/\j=w:=by
 obtain⟨p,n,v,l,a,i⟩:∃p,Lib.BuilderAtF 227 5 B b p bs w:=by
  rcases h with h|h
  .exact⟨_,h⟩
  .exact⟨_,h⟩
 obtain⟨c,cap,rfl⟩:∃c cap,v=.slice c bs.length cap:=by
  rcases a.2 with⟨d,k⟩|⟨g,cap,f,m,d,_⟩
  .exact⟨none,0,by rw[d,k]⟩
  .exact⟨_,_,d⟩
 have o:w.cell? ⟨b,1,none⟩=some (.slice c bs.length cap):=by rw[qv l];rfl
 go_enter xL,ntmps208;go_wp2;go_ret;exact⟨rfl,rfl⟩
def asb:((aj β).info? 5).map (λi=>(i.zero,i.size,i.bytes))=some (some (.int .u8 0),1,1):=by kernel_rfl
def mW(B b:Nat)(bs:List Value)(s:ByteArray)(w:World)(h:Lib.IsBuilderF 227 5 B b bs w)(C:bs.length+s.size<=140737488355328)(J:B<=w.heap.size) :
  Calls (aj β) 170 #[.pointer (some ⟨b,0,none⟩),.string s] w λe z=>e=.returned (.tuple #[.int .i64 s.size,.nilIface])/\(Lib.BuilderAtF 227 5 B b (.pointer (some ⟨b,0,none⟩)) (bs++Lib.strCells s) z/\Below B w z):=by
 obtain⟨I,K,q,t,u⟩:=info_parts (asb (β:=β));go_enter ya,ntmps170;go_wp2_with(go_at_call 198;refine(avi B b bs _ h).mono ?_);rintro e j ⟨rfl,G,i⟩;obtain⟨D,v,l,f,o⟩:=G;have Q:j.cell? ⟨b,0,none⟩=some (.pointer (some ⟨b,0,none⟩)):=by rw[qv l];rfl
 have O:j.cell? ⟨b,1,none⟩=some v:=by rw[qv l];rfl
 go_wp2_with(at_builtin;refine Lib.wpList_append_own_stringF _ rfl _ _ 22 9 rfl B 5 I wj qU9 K q t u _ _ _ rfl f s rfl ?c3 ?c4 ?c5 ?_)
 case c3=>unfold maxLen;omega
 case c4=>omega
 case c5=>have:=i.size;omega
 intro E m a c _;have n:b<j.heap.size:=by
  rcases mx b j.heap.size with r|r
  .exact r
  .simp[pF r] at l
 have d:m.heap[b]?=some (.cells #[.pointer (some ⟨b,0,none⟩),v] 227 (0,0)):=by
  rw[c.block b n (λe=>o e.symm)];exact l
 have P:m.cell? ⟨b,0,none⟩=some (.pointer (some ⟨b,0,none⟩)):=by rw[qv d];rfl
 have N:m.cell? ⟨b,1,none⟩=some v:=by rw[qv d];rfl
 have M:m.frozen? ⟨b,1,none⟩=false:=uk d 1;obtain⟨A,y,cap,rfl⟩:∃A y cap,E=.slice A y cap:=by
  rcases a.2 with⟨x,_⟩|⟨g,cap,H,L,x,_⟩
  .exact⟨_,_,_,x⟩
  .exact⟨_,_,_,x⟩
 go_wp2;go_ret2;refine⟨rfl, ?_, ?_⟩
 .exact Lib.BuilderAtF.put (T:=227) (e:=5) D d (bs':=bs++Lib.strCells s) (by simpa[Lib.strCells_length] using a) (by decide)
 .exact(i.grown c (by have:=i.size;omega) (λk F=>(f.lt k F).1)).setCell (p:=⟨b,1,none⟩) D _
end
section
variable {β:Bool}
open Go.RowKit
def ac3:((aj β)).follows .mixedOrders=true:=by kernel_rfl
def ase(B b n:Nat)(w:World)(r:B<=b)(d:w.heap[b]?=some (.cells #[.pointer (some ⟨b,0,none⟩),.slice none 0 0] 227 (0,0)))(g:B<=w.heap.size)(o:n<=281474976710656) :
  Calls (aj β) 199 #[.pointer (some ⟨b,0,none⟩),.int .i64 n] w λe m=>e=.returned (.tuple #[])/\(Lib.BuilderAt 227 5 B b (.pointer (some ⟨b,0,none⟩)) [] m/\Below B w m):=by
 obtain⟨cs,f,q,i⟩:=Lib.run_makeNoZero (P:=(aj β)) w.drew #[3] 22 5 wj n o;have l:IntKind.i64.wrap (IntKind.i64.wrap 0+(n:Int))=n:=by
  rw[uE,uE];omega
 have u:(callFunc 210 #[.int .i64 (IntKind.i64.wrap (IntKind.i64.wrap 0+(n:Int)))]).run (aj β) w.drew=.ok (.value (.slice (some ⟨w.drew.heap.size,0,none⟩) n cs.size)) (w.drew.drew.drew.alloc (.cells cs 5)):=by
  rw[l,run_callFunc_extern xK (by kernel_rfl) (by kernel_rfl) (by kernel_rfl) (e:=Extern.BytealgMakeNoZero.makeNoZero #[3] #[22]) (by kernel_rfl),f];rfl
 have v:w.drew.cell? ⟨b,1,none⟩=some (.slice none 0 0):=by
  have:w.drew.heap[b]?=_:=d;rw[qv this];rfl
 have s:(w.alloc (.cells cs 5)).cell? ⟨b,1,none⟩=some (.slice none 0 0):=by
  have a:b<w.heap.size:=by
   rcases mx b w.heap.size with c|c
   .exact c
   .simp[pF c] at d
  have:(w.alloc (.cells cs 5)).heap[b]?=_:=(Lib.alloc_old w _ b a).trans d;rw[qv this];rfl
 have t:(w.alloc (.cells cs 5)).frozen? ⟨b,1,none⟩=false:=by
  have a:b<w.heap.size:=by
   rcases mx b w.heap.size with c|c
   .exact c
   .simp[pF c] at d
  exact uk ((Lib.alloc_old w _ b a).trans d) 1
 have p:∀W:World,(Builtin.copy_ #[22,22] 3 #[.slice (some ⟨w.heap.size,0,none⟩) 0 cs.size,.slice none 0 0]).run (aj β) W=.ok (goInt 0) W:=
  λW=>run_copy_none W 22 22 3 5 _ _ 0 cs.size 0 0 wj (by kernel_rfl) rfl
 clear l;have j:=ac3 (β:=β);go_enter xP,ntmps199;go_wp2;have k:=Lib.grown_fresh (T:=227) (e:=5) (cs:=cs) r d g (i (by unfold maxLen;omega)) (by decide)
 go_region_o
 all_goals(go_wp2;go_end0;exact⟨rfl,k⟩)
def al3(B b n:Nat)(w:World)(j:B<=b)(f:w.heap[b]?=some (.cells #[.pointer none,.slice none 0 0] 227 (0,0)))(g:B<=w.heap.size)(m:n<=281474976710656) :
  Calls (aj β) 169 #[.pointer (some ⟨b,0,none⟩),.int .i64 n] w λe d=>e=.returned (.tuple #[])/\(Lib.BuilderAt 227 5 B b (.pointer (some ⟨b,0,none⟩)) [] d/\Below B w d):=by
 have a:(w.setCell ⟨b,0,none⟩ (.pointer (some ⟨b,0,none⟩))).heap[b]?=some (.cells #[.pointer (some ⟨b,0,none⟩),.slice none 0 0] 227 (0,0)):=by
  simp[World.setCell,mt,f]
 have r:(w.setCell ⟨b,0,none⟩ (.pointer (some ⟨b,0,none⟩))).cell? ⟨b,1,none⟩=some (.slice none 0 0):=by rw[qv a];rfl
 have c:Below B w (w.setCell ⟨b,0,none⟩ (.pointer (some ⟨b,0,none⟩))):=(dk B w).setCell (p:=⟨b,0,none⟩) j _;have i:=ac3 (β:=β);go_enter yb,ntmps169;have q:Lib.BuilderAt 227 5 B b (.pointer (some ⟨b,0,none⟩)) [] (w.setCell ⟨b,0,none⟩ (.pointer (some ⟨b,0,none⟩))):=⟨j,.slice none 0 0,a,uq _ _ _ _,by simp[Value.ownBlock]⟩;have l:(w.setCell ⟨b,0,none⟩ (.pointer (some ⟨b,0,none⟩))).drew.cell? ⟨b,1,none⟩=some (.slice none 0 0):=r;go_wp2_with(go_at_call 198;refine(ahW b w (by rw[qv f];rfl) (by simp[World.shape?,f]) (uk f 0)).mono ?_;rintro e d ⟨rfl,rfl⟩)
 go_region_o
 all_goals go_wp2_with(go_at_call 199;refine(ase B b n (w.setCell ⟨b,0,none⟩ (.pointer (some ⟨b,0,none⟩))).drew j a (by simpa[World.setCell,World.drew, -World.drew_eq] using g) m).mono ?_;rintro e d ⟨rfl,o,k⟩)
 all_goals first
  |(go_end0;exact⟨rfl,o,c.drew.trans k⟩)
  |(go_end0;exact⟨rfl,q.drew,c.drew⟩)
end
section
variable {β:Bool}
open Go.RowKit
def asf:Code->Code
 |.seq a b=>.seq (asf a) (asf b)
 |.region i ⟨ops⟩ d=>.region i (ops.map λo=>{o with type:=match o.op with|.call ⟨.builtin .unsafeSliceData,_,_⟩=>3|_=>o.type}).toArray d
 |.ret=>.ret
 |_=>.skip
noncomputable def xSt:Func:=by
 apply(λ(x:Func) (_:{f171 with body:=f171.body.map asf}=x)=>x)
 case x=>dsimp only[asf,f171,Option.map,List.map]
def apu:f171.body.map gP=xSt.body:=by unfold gP;kernel_rfl
def apv:(aj β).funcs[171]?=some xSt:=by
 refine(ajt β (by decide) (by decide)).trans ?_;have e:Option.map pf (prog.funcs[171]?)=Option.map pf (some f171):=ef _ func171;rw[e,pU];unfold pf;rw[apu];rfl
@[go_sem] theorem awZ(args:Array Value)(w:World):(callFunc 171 args).run (aj β) w=.ok (.enter 171 args) w:=by
 have a:=cu func171;exact jA apv a rfl args w
def abM(B b:Nat)(l:List UInt8)(w:World)(h:Lib.IsBuilderF 227 5 B b (Lib.byteCells l) w)(u:l≠[]) :
  Calls (aj β) 171 #[.pointer (some ⟨b,0,none⟩)] w λe t=>e=.returned (.string ⟨l.toArray⟩)/\(Lib.IsBuilderF 227 5 B b (Lib.byteCells l) t/\Below B w t):=by
 obtain⟨p,G,s⟩:∃p,(p=.pointer none\/p=.pointer (some ⟨b,0,none⟩))/\Lib.BuilderAtF 227 5 B b p (Lib.byteCells l) w:=by
  rcases h with h|h
  .exact⟨_,.inl rfl,h⟩
  .exact⟨_,.inr rfl,h⟩
 obtain⟨O,v,y,c,f⟩:=s;have i:l.length≠0:=by simpa using u
 rw[qT] at c;obtain⟨g,cap,a,d,rfl,o,A,P,I,k,K,Q⟩:∃g cap a d,v=.slice (some ⟨g,0,none⟩) l.length cap/\B<=g/\w.heap[g]?=some (.cells a 5 d)/\d.2<=l.length*1/\l.length<=cap/\cap<=maxLen/\a.size=cap*1/\a.toList.take (l.length*1)=Lib.byteCells l:=by
  rcases c.2 with⟨_,H⟩|⟨g,cap,a,d,N,r⟩
  .exact absurd H i
  .exact⟨g,cap,a,d,N,r⟩
 have E:w.drew.cell? ⟨b,1,none⟩=some (.slice (some ⟨g,0,none⟩) l.length cap):=by
  have:w.drew.heap[b]?=some (.cells #[p,.slice (some ⟨g,0,none⟩) l.length cap] 227 (0,0)):=y;rw[qv this];rfl
 have F:(Builtin.unsafeSliceData_ #[22] 3 #[.slice (some ⟨g,0,none⟩) l.length cap]).run (aj β) w.drew=.ok (.pointer (some ⟨g,0,none⟩)) w.drew:=
  Lib.run_unsafeSliceData_row _ _ _ _ _ _ (by omega)
 have z:(Builtin.unsafeString_ #[257,3] 9 #[.pointer (some ⟨g,0,none⟩),.int .i64 l.length]).run (aj β) w.drew=.ok (.string ⟨l.toArray⟩) (w.drew.freeze ⟨g,0,none⟩ l.length):=by
  refine Lib.run_unsafeString_row w.drew 257 3 9 5 xq (by kernel_rfl) g a.size (by have C:w.drew.heap[g]?=some (.cells a 5 d):=A;simp[World.shape?,C]) l u (by omega) (by unfold maxLen at k;omega) ?_;intro j x L;have:=c.cells (g:=g) rfl j (.int .u8 x.toNat) (by simp[Lib.byteCells,L]);exact this
 have q:Lib.IsBuilderF 227 5 B b (Lib.byteCells l) (w.drew.freeze ⟨g,0,none⟩ l.length):=by
  have D:Lib.BuilderAtF 227 5 B b p (Lib.byteCells l) w.drew:=⟨O,_,y,by rw[qT];exact c,f⟩;have n:=D.froze (g:=g) (cap:=cap) (by rw[qT];exact E);rw[qT] at n;rcases G with rfl|rfl
  .exact .inl n
  .exact .inr n
 have m:=ac3 (β:=β);have M:xSt.ntmps=14:=ntmps171;have J:xSt.results=#[.tmp 2]:=results171;go_enter apv,M;go_wp2
 go_region_o
 all_goals(go_wp2;refine pN (results_tmp J _ _ _) rfl ?_;exact⟨rfl,q,Lib.below_freeze (Below.drew (dk B w)) (p:=⟨g,0,none⟩) o _⟩)
end
section
variable {β:Bool}
open Go.RowKit
def asg(n:Nat)(c:n<=8)(w:World):Calls (aj β) 218 #[.int .u64 1,.int .u64 n] w λe a=>e=.returned (.tuple #[.int .u64 0,.int .u64 n])/\w=a:=by
 have b:n=0\/n=1\/n=2\/n=3\/n=4\/n=5\/n=6\/n=7\/n=8:=by omega
 clear c;rcases b with rfl|rfl|rfl|rfl|rfl|rfl|rfl|rfl|rfl
 all_goals
  go_enter xH,ntmps218;go_wp2;go_ret2;exact⟨rfl,rfl⟩
def aw0(n:Nat)(b:n<=8)(w:World):Calls (aj β) 207 #[.int .u64 1,.int .u64 n] w λe a=>e=.returned (.tuple #[.int .u64 0,.int .u64 n])/\w=a:=by
 go_enter xM,ntmps207;go_wp2;refine(asg n b w).mono ?_;rintro e c ⟨rfl,rfl⟩;go_wp2;go_ret2;exact⟨rfl,rfl⟩
def aj1(b:Nat)(w:World):Nat:=match w.cell? ⟨b,1,none⟩ with|some (.slice _ l _)=>l|_=>0
def afn{T e:TypeId}{l:List UInt8}(h:Lib.IsBuilderF T e B b (Lib.byteCells l) w):aj1 b w=l.length:=by
 replace h:∃p,Lib.BuilderAtF T e B b p (Lib.byteCells l) w:=by
  rcases h with h|h
  .exact⟨_,h⟩
  .exact⟨_,h⟩
 obtain⟨p,h⟩:=h;obtain⟨n,v,j,a,f⟩:=h;have k:w.cell? ⟨b,1,none⟩=some v:=by rw[qv j];rfl
 unfold aj1;rw[k];rw[qT] at a;rcases a.2 with⟨c,i⟩|⟨g,cap,d,m,c,_⟩
 .rw[c,i]
 .rw[c]
def ji(q:Nat):List UInt8:=List.replicate q 46
def apw(n:Nat)(R:n=2\/n=3)(w:World):Calls (aj β) 189 #[.string ⟨#[46]⟩,.int .i64 n] w λe F=>e=.returned (.string ⟨(ji n).toArray⟩)/\Below w.heap.size w F:=by
 have A:((n:Int) ==0)=false:=jp.2 (by omega);have z:((n:Int) ==1)=false:=jp.2 (by omega);go_enter vN,ntmps189;go_wp2;refine(aw0 n (by omega) w).mono ?_;rintro e O ⟨rfl,rfl⟩;go_wp2;generalize r:w.alloc (.cells #[.pointer none,.slice none 0 0] 227)=w0;have C:w0.heap[w.heap.size]?=some (.cells #[.pointer none,.slice none 0 0] 227 (0,0)):=by
  rw[<-r];show(w.heap.push _)[w.heap.size]?=_;rw[qi]
 have m:Below w.heap.size w w0:=by rw[<-r];exact(dk _ w).alloc (ap _) _
 refine(al3 w.heap.size w.heap.size n w0 (ap _) C m.size (by omega)).mono ?_;rintro e M ⟨rfl,a,d⟩;replace d:=m.trans d;clear m C r;go_wp2;refine(mW w.heap.size w.heap.size [] ⟨#[46]⟩ M (.inr (.of a)) (by decide) d.size).mono ?_;rintro e P ⟨rfl,o,k⟩;replace k:=d.trans k;clear d a;have B:([]:List Value)++Lib.strCells ⟨#[46]⟩=Lib.byteCells (ji 1):=rfl;rw[B] at o;clear B;go_wp2;go_loopw [10] (λ_ wr=>∃q:Nat,1<=q/\q<=n/\Lib.IsBuilderF 227 5 w.heap.size w.heap.size (Lib.byteCells (ji q)) wr/\Below w.heap.size w wr) (λ_ wr=>n-aj1 w.heap.size wr)
 case atStart=>exact⟨1,ap _,by omega,.inr o,k⟩
 case round=>
  clear o k;obtain⟨q,Q,L,a,i⟩:=hrel;have s:=afn a;have b:(Lib.byteCells (ji q)).length=q:=by rw[qT];exact pL ..
  have f:(ji q).length=q:=pL ..;have g:ji q≠[]:=by intro h;rw[h] at f;simp at f;omega
  go_wp2;refine(aj0 w.heap.size w.heap.size (Lib.byteCells (ji q)) wr a).mono ?_;rintro e y ⟨rfl,rfl⟩;rw[b];by_cases E:q<n
  .have t:=du (show(q:Int)<(n:Int) by omega);go_wp2;refine(aj0 w.heap.size w.heap.size (Lib.byteCells (ji q)) y a).mono ?_;rintro e D ⟨rfl,rfl⟩;rw[b];go_wp2;refine(aj0 w.heap.size w.heap.size (Lib.byteCells (ji q)) D a).mono ?_;rintro e G ⟨rfl,rfl⟩;rw[b];have c:(n=2/\q=1)\/(n=3/\q=1)\/(n=3/\q=2):=by omega
   have u:∀W:World,(Builtin.min_ #[3,3,3] 3 #[.int .i64 ((n:Int)-(q:Int)),.int .i64 q,.int .i64 n]).run (aj β) W=.ok (.int .i64 1) W:=λW=>by
    clear a i b f g s t A z;rcases c with⟨rfl,rfl⟩|⟨rfl,rfl⟩|⟨rfl,rfl⟩<;>simp[Builtin.min_,Builtin.min2]
   have S:(⟨(ji q).toArray⟩:ByteArray).extract 0 1=⟨#[46]⟩:=by
    clear u a i b f g s t A z;rcases c with⟨rfl,rfl⟩|⟨rfl,rfl⟩|⟨rfl,rfl⟩<;>rfl
   have J:(⟨(ji q).toArray⟩:ByteArray).size=q:=by show(ji q).toArray.size=q;rw[tC];exact f
   replace c:=ab c;go_wp2;refine(abM w.heap.size w.heap.size (ji q) G a g).mono ?_;rintro e H ⟨rfl,v,j⟩;replace j:=i.trans j;go_wp2;refine(mW w.heap.size w.heap.size (Lib.byteCells (ji q)) ⟨#[46]⟩ H v (by rw[b];have:=c.out;show q+1<=_;omega) j.size).mono ?_;rintro e T ⟨rfl,l,p⟩;replace p:=j.trans p;have K:Lib.byteCells (ji q)++Lib.strCells ⟨#[46]⟩=Lib.byteCells (ji (q+1)):=by
    have:ji (q+1)=ji q++[46]:=uZ;rw[this];simp[Lib.byteCells,Lib.strCells]
   rw[K] at l;have I:=afn (.inr l);have N:(ji (q+1)).length=q+1:=pL ..;go_wp2;go_roundw
   case rel=>exact⟨q+1,by omega,by omega,.inr l,p⟩
   omega
  .obtain rfl:q=n:=by omega
   have t:=bv (show ¬((q:Int)<(q:Int)) by omega);go_wp2;refine(abM w.heap.size w.heap.size (ji q) y a g).mono ?_;rintro e D ⟨rfl, -,x⟩;go_wp2;go_ret;exact⟨rfl,i.trans x⟩
end
section
variable {β:Bool}
open Go.RowKit
def aj3(n:Nat)(d:n<=3)(w:World):Calls (aj β) 189 #[.string ⟨#[46]⟩,.int .i64 n] w λe c=>e=.returned (.string ⟨(ji n).toArray⟩)/\Below w.heap.size w c:=by
 by_cases b:n=0
 .subst b;go_enter vN,ntmps189;go_wp2;go_ret;exact⟨rfl,dk _ _⟩
 .by_cases a:n=1
  .subst a;go_enter vN,ntmps189;go_wp2;go_ret;exact⟨rfl,dk _ _⟩
  .exact apw n (by omega) w
def ash(n:Nat):bs ⟨(ji n).toArray⟩=List.replicate n 46:=by
 unfold bs ji;simp[List.map_replicate]
def asi(s:ByteArray)(a:aX (bs s))(w:World) :
  Calls (aj β) 148 #[.string s] w λe g=>∃t:ByteArray,e=.returned (.string t)/\bs t=fA (bs s)/\Below w.heap.size w g:=by
 have c:1<=s.size/\s.size<=8:=by have:=a.1;rw[aL] at this;exact this
 have b:s.size<=maxLen:=by unfold maxLen;omega
 have i:s.size<=bU s.size/\bU s.size-s.size<=3:=by
  unfold bU;split<;>(try split)<;>(try split)<;>omega
 replace a:=ab a;replace b:=ab b;go_enter ye,ntmps148;go_wp2;refine(nP s b.out w true (by simp only[qe];exact a.out)).mono ?_;rintro e d ⟨rfl,rfl⟩;go_wp2;refine(anr s.size c w).mono ?_;rintro e d ⟨rfl,rfl⟩;have f:((bU s.size:Nat):Int)-(s.size:Int)=((bU s.size-s.size:Nat):Int):=by omega
 go_wp2;try rw[f]
 refine(aj3 (bU s.size-s.size) i.2 w).mono ?_;rintro e d ⟨rfl,j⟩;have hd:(ji (bU s.size-s.size)).length=bU s.size-s.size:=pL ..;go_wp2;go_ret;refine⟨_,rfl, ?_,j⟩;rw[jr,ash];unfold fA;rw[aL]
def aeQ(s:ByteArray):ByteArray:=s.extract 0 (cQ (bs s) s.size)
def aaV(s:ByteArray):bs (aeQ s)=sx (bs s):=by
 unfold aeQ sx;rw[cq,qp,aL]
open Classical in
noncomputable def dF(s:ByteArray):ByteArray×Bool:=if aX (bs (aeQ s))/\fA (bs (aeQ s))=bs s then(aeQ s,true) else(⟨#[]⟩,false)
def ans(s:ByteArray)(k:s.size<=maxLen)(w:World) :
  Calls (aj β) 105 #[.string s] w λe o=>e=.returned (.tuple #[.string (dF s).1,.bool (dF s).2])/\Below w.heap.size w o:=by
 have a:(aeQ s).size<=maxLen:=by
  unfold aeQ;rw[tW (abL _ _)];exact am (abL _ _) k
 replace k:=ab k;replace a:=ab a;have g:s.extract 0 (cQ (bs s) s.size)=aeQ s:=rfl;replace g:=ab g;go_enter yx,ntmps105;go_wp2;refine(ahU s k.out w).mono ?_;rintro e l ⟨rfl,rfl⟩;rw[g.out];obtain⟨p,d⟩:∃p,p=aeQ s:=⟨_,rfl⟩;have b:dF s=dF s:=rfl;by_cases c:aX (bs (aeQ s))
 .replace c:=ab c;rw[<-d] at a c ⊢;replace d:=ab d;clear b;go_wp2;refine(nP p a.out w true (by simp only[qe];exact c.out)).mono ?_;rintro e l ⟨rfl,rfl⟩;go_wp2;refine(asi p c.out w).mono ?_;rintro e l ⟨t,rfl,j,n⟩;by_cases f:t=s
  .subst f;replace j:=ab j;go_wp2;go_ret2;have i:dF t=(p,true):=by
    unfold dF;rw[<-d.out,dj ⟨c.out,j.out.symm⟩]
   rw[i];exact⟨rfl,n⟩
  .have q:=mR f;have i:dF s=(⟨#[]⟩,false):=by
    unfold dF;rw[<-d.out,bd λh=>f (iZ (j.trans h.2))]
   have m:=ab i;clear i j;go_wp2;go_ret2;rw[m.out];exact⟨rfl,n⟩
 .have i:dF s=(⟨#[]⟩,false):=by
   unfold dF;rw[bd λh=>c h.1]
  have m:=ab i;clear i;replace c:=ab c;rw[<-d] at a c ⊢;clear d b;go_wp2;refine(nP p a.out w false (by simp only[fa,qN];exact c.out)).mono ?_;rintro e l ⟨rfl,rfl⟩;go_wp2;go_ret2;rw[m.out];exact⟨rfl,dk _ _⟩
end
section
variable {β:Bool}
open Go.RowKit
open Classical in
noncomputable def dv(key:Int)(x:Int×ByteArray):ByteArray×Bool:=if(dF x.2).2=true/\cg key (bs (dF x.2).1)=x.1 then((dF x.2).1,true) else(⟨#[]⟩,false)
def afo(h:(dF s).2=true):aX (bs (dF s).1):=by
 unfold dF at h ⊢;split
 .rename_i a;exact a.1
 .rename_i a;rw[bd a] at h;cases h
def al4(key:Int)(x:Int×ByteArray)(v:1<=key/\key<=99)(i:x.2.size<=maxLen)(w:World) :
  Calls (aj β) 66 #[.agg #[.int .i64 x.1,.string x.2],.int .i64 key] w λe r=>e=.returned (.tuple #[.string (dv key x).1,.bool (dv key x).2])/\Below w.heap.size w r:=by
 obtain⟨n,s⟩:=x;dsimp only at i ⊢;replace i:=ab i;go_enter yQ,ntmps66;go_wp2;generalize l:w.alloc (.cells #[.int .i64 n,.string s] 64)=w0 at *;obtain⟨u,z,j,m,y⟩:=iK l;clear l;refine(ans s i.out w0).mono ?_;rintro e o ⟨rfl,d⟩;replace j:=aB j d;replace m:=j.cell;replace y:=j.frozen;replace d:=ae u d;cases b:dF s with
 |mk p q=>
  cases q with
  |false=>
   have f:dv key (n,s)=(⟨#[]⟩,false):=by
    unfold dv;rw[bd];intro h;have:=h.1;rw[show(dF (n,s).2).2=false by rw[show dF (n,s).2=_ from b]] at this;cases this
   have HC:=ab f;clear f;replace b:=ab b;go_wp2;go_ret2;rw[HC.out];exact⟨rfl,d⟩
  |true=>
   have k:aX (bs p):=by
    have:=afo (s:=s) (by rw[b]);rw[b] at this;exact this
   have f:dv key (n,s)=if cg key (bs p)=n then(p,true) else(⟨#[]⟩,false):=by
    unfold dv;rw[show dF (n,s).2=(p,true) from b];by_cases h:cg key (bs p)=n
    .rw[dj ⟨rfl,h⟩,dj h]
    .rw[bd λt=>h t.2,bd h]
   have HC:=ab f;clear f;replace b:=ab b;replace k:=ab k;go_wp2;refine(apt key p n v k.out o).mono ?_;rintro e A ⟨rfl,rfl⟩;by_cases h:cg key (bs p)=n
   .have a:=HC.out;rw[dj h] at a;have c:=ab a;clear a HC;have g:decide (cg key (bs p)=n)=true:=du h;rw[g];clear h g;go_wp2;go_ret2;rw[c.out];exact⟨rfl,d⟩
   .have a:=HC.out;rw[bd h] at a;have c:=ab a;clear a HC;have g:decide (cg key (bs p)=n)=false:=bv h;rw[g];clear h g;go_wp2;go_ret2;rw[c.out];exact⟨rfl,d⟩
end
section
def opJ(J:Nat->Bool):Operand->Bool
 |.tmp t=>!J t
 |_=>true
def iL:Op->Bool
 |.move _|.assign _|.load .. | .binOp .. | .unOp .. | .alloc _|.store .. | .fieldAddr .. | .indexAddr .. | .buildSlice .. =>true
 |.call c=>match c.callee with
  |.builtin .len|.builtin .append=>true
  |_=>false
 |_=>false
def al5(J:Nat->Bool)(o:Oper):Bool:=o.guard.isNone&&(iL o.op&&o.op.operands.toList.all (opJ J))
def jd(J:Nat->Bool):Code->Bool
 |.skip|.ret|.exit _=>true
 |.region _ d draw=>!draw&&d.toList.all (al5 J)
 |.seq a b=>jd J a&&jd J b
 |.cond c a b=>opJ J c&&(jd J a&&jd J b)
 |.block _ a|.loop a=>jd J a
 |_=>false
def kr(J:Nat->Bool):Item->Bool
 |.code c|.inLoop c=>jd J c
 |.inBlock _=>true
 |.inRegion a _=>a.toList.all (al5 J)
 |_=>false
structure JR (J:Nat->Bool) (fr cf:Frame):Prop where
 fn:cf.fn=fr.fn
 todo:cf.todo=fr.todo
 defers:fr.defers=[]/\cf.defers=[]
 mode:cf.mode=fr.mode
 kind:fr.kind=.normal/\cf.kind=.normal
 round:fr.roundOf=none/\cf.roundOf=none
 size:cf.tmps.size=fr.tmps.size
 agree:∀i,J i=false->cf.tmps[i]?=fr.tmps[i]?
 items:fr.todo.all (kr J)=true
section
variable {P:Program} {J:Nat->Bool} {fr cf:Frame}
def JR.eval(h:JR J fr cf){x:Operand}(a:opJ J x=true):cf.eval x=fr.eval x:=by
 cases x with
 |tmp t=>
  have:=h.agree t (by simpa[opJ] using a);show cf.tmps.getD t undef=fr.tmps.getD t undef;rw[fi,fi,this]
 |_=>rfl
def aj4{e e':Operand->Value}{o:Oper}(j:iL o.op=true)(h:∀x∈o.op.operands.toList,e x=e' x):execOp e o=execOp e' o:=by
 obtain⟨dst,op,m,q,after,l⟩:=o;dsimp only at j h;have parts:∀(g:Array (Nat×Operand)),(∀x∈(g.toList.map (·.2)),e x=e' x)->(g.map λ(i,x)=>(i,e x))=g.map λ(i,x)=>(i,e' x):=λg p=>by
  apply vk;rintro⟨i,x⟩ k;have:=p x (lP.2 ⟨(i,x),by simpa using k,rfl⟩);simp only[this]
 cases op with
 |move x=>simp only[execOp];rw[h x (by simp[Op.operands])]
 |assign x=>simp only[execOp];rw[h x (by simp[Op.operands])]
 |load t a=>simp only[execOp];rw[h a (by simp[Op.operands])]
 |unOp op t x=>simp only[execOp];rw[h x (by simp[Op.operands])]
 |alloc t=>rfl
 |fieldAddr t x f=>simp only[execOp];rw[h x (by simp[Op.operands])]
 |store t a x=>simp only[execOp];rw[h a (by simp[Op.operands]),h x (by simp[Op.operands])]
 |binOp op t x y u=>simp only[execOp];rw[h x (by simp[Op.operands]),h y (by simp[Op.operands])]
 |indexAddr t x i=>simp only[execOp];rw[h x (by simp[Op.operands]),h i (by simp[Op.operands])]
 |buildSlice t n g=>simp only[execOp];rw[parts g (by simpa[Op.operands] using h)]
 |call c=>
  obtain⟨d,args,s⟩:=c;cases d with
  |builtin b=>
   have r:args.map e=args.map e':=vk λx k=>h x (by simp[Op.operands,Call.operands];exact k);simp only[execOp,resolve,r]
  |_=>simp[iL] at j
 |_=>simp[iL] at j
def eQ{s:Sem Value}(h:(s.bind λa=>Sem.pure (Next.value a)).run P w=.ok T V):∃v,T=.value v:=by
 have e:=qh P s (λa=>Sem.pure (Next.value a)) w;rw[e] at h;cases b:s.run P w with
 |ok a c=>rw[b] at h;simp only[Result.andThen,Sem.run,rM] at h;exact⟨a,h.1.symm⟩
 |halt q c=>rw[b] at h;simp only[Result.andThen] at h;cases h
def ant{s:Sem Unit}(h:(s.bind λ_=>Sem.pure Next.skip).run P w=.ok T V):T=.skip:=by
 have e:=qh P s (λ_=>Sem.pure Next.skip) w;rw[e] at h;cases b:s.run P w with
 |ok a c=>rw[b] at h;simp only[Result.andThen,Sem.run,rM] at h;exact h.1.symm
 |halt q c=>rw[b] at h;simp only[Result.andThen] at h;cases h
def ahX{e:Operand->Value}{o:Oper}(g:iL o.op=true)(h:(execOp e o).run P w=.ok T V):(∃v,T=.value v)\/T=.skip:=by
 obtain⟨dst,op,k,l,after,j⟩:=o;dsimp only at g;cases op with
 |move x=>simp only[execOp] at h;cases h;exact .inl ⟨_,rfl⟩
 |assign x=>simp only[execOp] at h;cases h;exact .inl ⟨_,rfl⟩
 |load t a=>exact .inl (eQ h)
 |unOp op t x=>exact .inl (eQ h)
 |alloc t=>exact .inl (eQ h)
 |fieldAddr t x f=>exact .inl (eQ h)
 |store t a x=>exact .inr (ant h)
 |binOp op t x y q=>exact .inl (eQ h)
 |indexAddr t x i=>exact .inl (eQ h)
 |buildSlice t n m=>exact .inl (eQ h)
 |call c=>
  obtain⟨d,args,p⟩:=c;cases d with
  |builtin b=>cases b<;>first|exact .inl (eQ h)|simp[iL] at g
  |_=>simp[iL] at g
 |_=>simp[iL] at g
def JR.set(h:JR J fr cf)(d:Nat)(v:Value):(cf.tmps.setIfInBounds d v).size=(fr.tmps.setIfInBounds d v).size/\∀i,J i=false->(cf.tmps.setIfInBounds d v)[i]?=(fr.tmps.setIfInBounds d v)[i]?:=by
 refine⟨by simpa using h.size,λi a=> ?_⟩;rw[oR,oR,h.size];split
 .rfl
 .exact h.agree i a
def pC:∀{k l:List Item} {id:Nat},exitTo id k=some l->k.all (kr J)=true->l.all (kr J)=true
 |[],_,_,h,_=>by cases h
 |x::k,l,id,h,hk=>by
  simp only[pM,eg] at hk;unfold exitTo at h;split at h
  .rename_i a b e;cases e;split at h
   .cases h;exact hk.2
   .exact pC h hk.2
  .rename_i e;cases e;exact pC h hk.2
  .rename_i e;cases e
def aj5{fr:Frame}{g:Nat}(h:early P fr cs none g w=.go S V es) :
  S.frame.kind=.early\/(S=⟨fr,cs,.running,none,none⟩/\∀(cf:Frame) (a:List Frame),cf.kind=fr.kind->early P cf a none g w=.go ⟨cf,a,.running,none,none⟩ V es):=by
 have d:∀{w V:World} {S:Goroutine} {es:Array Event},(match w.heap[g]? with
   |some (.pending c b)=>GStep.go ⟨fr,cs,.running,none,none⟩ {w with heap:=w.heap.setIfInBounds g (.cells c b)}
   |_=>.ended (.stuck "early: the variable does not wait" (fr.pos P)) w)=.go S V es->S=⟨fr,cs,.running,none,none⟩/\∀(cf:Frame) (a:List Frame),(match w.heap[g]? with
   |some (.pending c b)=>GStep.go ⟨cf,a,.running,none,none⟩ {w with heap:=w.heap.setIfInBounds g (.cells c b)}
   |_=>.ended (.stuck "early: the variable does not wait" (cf.pos P)) w)=.go ⟨cf,a,.running,none,none⟩ V es:=λ{w V S es} h=>by
  split at h
  .rename_i c b e;injection h with k j o
   subst k j o;exact⟨rfl,λcf a=>rfl⟩
  .cases h
 unfold early at h ⊢;dsimp only at h ⊢;by_cases k:(!P.follows .staticDataAhead)=true
 .simp only[k,mw] at h ⊢;exact .inr ⟨(d h).1,λcf a _=>(d h).2 cf a⟩
 .simp only[k,pX,fa] at h ⊢;cases j:P.stepOf g with
  |none=>simp only[j] at h;cases h
  |some f=>
   simp only[j] at h ⊢;by_cases o:((P.code? f).any P.atRunTime)=true
   .simp only[o,mw] at h ⊢;exact .inr ⟨(d h).1,λcf a _=>(d h).2 cf a⟩
   .simp only[o,pX,fa] at h ⊢;by_cases s:(((P.code? f).bind λc=>(readies c).getLast?).bind w.shape?).isSome=true
    .simp only[s,mw] at h ⊢;exact .inr ⟨(d h).1,λcf a _=>(d h).2 cf a⟩
    .simp only[s,pX,fa] at h ⊢;have r:∀cf:Frame,cf.kind=fr.kind->(cf.kind ==CallKind.early)=(fr.kind ==CallKind.early):=λcf e=>by rw[e]
     cases u:P.found w P.funcs.size f<;>cases p:(fr.kind ==CallKind.early)<;>simp only[u,p] at h
     .cases h
     .cases h
     .exact .inr ⟨(d h).1,λcf a e=>by rw[r cf e,p];exact(d h).2 cf a⟩
     .cases h
     .by_cases l:((P.code? f).any P.plainData)=true
      .simp only[l,mw] at h;injection h with i;subst i;exact .inl rfl
      .simp only[l,pX,fa] at h;by_cases m:(!(P.code? f).any P.bareCopy)=true
       .simp only[m,mw] at h;exact .inr ⟨(d h).1,λcf a e=>by rw[r cf e,p];simp only[l,m,pX,mw,fa];exact(d h).2 cf a⟩
       .simp only[m,pX,fa] at h;cases t:(choose (.early g)).run P w with
        |ok n v=>
         rw[t] at h;cases n with
         |zero=>exact .inr ⟨(d h).1,λcf a e=>by rw[r cf e,p];simp only[l,m,pX,fa];exact(d h).2 cf a⟩
         |succ n=>injection h with i;subst i;exact .inl rfl
        |halt q v=>rw[t] at h;cases h
     .injection h with i;subst i;exact .inl rfl
theorem apx (h:JR J fr cf) (hm:fr.mode=.run) {cs Y:List Frame} {main:Bool} {w w1:World} {es:Array Event} {B:Frame}
  (D:stepG P main ⟨fr,cs,.running,none,none⟩ w=.go ⟨B,Y,.running,none,none⟩ w1 es) (K:B.mode=.run\/B.mode=.returning) (af:B.kind=.normal) :
  Y=cs/\B.fn=fr.fn/\∃I,JR J B I/\∀C,stepG P main ⟨cf,C,.running,none,none⟩ w=.go ⟨I,C,.running,none,none⟩ w1 es:=by
 have h0:=h;obtain⟨fn,n,ao,ds,md,kd,ro⟩:=fr;obtain⟨p,F,eH,ax,av,aF,ay⟩:=cf;obtain⟨E,e2,⟨e3,e4⟩,e5,⟨e6,e7⟩,⟨e8,e9⟩,hz,ha,hi⟩:=h;dsimp only at E e2 e3 e4 e5 e6 e7 e8 e9 hz ha hi hm;subst E e2 e3 e4 e5 e6 e7 e8 e9 hm;have G:∀{k:List Item},k.all (kr J)=true->JR J ⟨p,n,k,[],.run,.normal,none⟩ ⟨p,F,k,[],.run,.normal,none⟩:=λ{k} hk=>⟨rfl,rfl,⟨rfl,rfl⟩,rfl,⟨rfl,rfl⟩,⟨rfl,rfl⟩,hz,ha,hk⟩
 have ret:JR J ⟨p,n,eH,[],.returning,.normal,none⟩ ⟨p,F,eH,[],.returning,.normal,none⟩:=⟨rfl,rfl,⟨rfl,rfl⟩,rfl,⟨rfl,rfl⟩,⟨rfl,rfl⟩,hz,ha,hi⟩;have fin:∀{t:Array Value} {t':Array Value} {k:List Item},t'.size=t.size->(∀i,J i=false->t'[i]?=t[i]?)->k.all (kr J)=true->JR J ⟨p,t,k,[],.run,.normal,none⟩ ⟨p,t',k,[],.run,.normal,none⟩:=λa b hk=>⟨rfl,rfl,⟨rfl,rfl⟩,rfl,⟨rfl,rfl⟩,⟨rfl,rfl⟩,a,b,hk⟩;have still:∀{x x':Frame},stepG P main ⟨⟨p,n,eH,[],.run,.normal,none⟩,cs,.running,none,none⟩ w=.go ⟨x,cs,.running,none,none⟩ w->
   (∀C,stepG P main ⟨⟨p,F,eH,[],.run,.normal,none⟩,C,.running,none,none⟩ w=.go ⟨x',C,.running,none,none⟩ w)->JR J x x'->(T:x.fn=p:=by rfl)->
   Y=cs/\B.fn=p/\∃I,JR J B I/\∀C,stepG P main ⟨⟨p,F,eH,[],.run,.normal,none⟩,C,.running,none,none⟩ w=.go ⟨I,C,.running,none,none⟩ w1 es:=λ{x x'} a b c T=>by
  rw[a] at D;injection D with X U g3
  injection X with R Z
  subst U g3 R Z;exact⟨rfl,T,x',c,b⟩
 cases eH with
 |nil=>exact still rfl (λ_=>rfl) ret
 |cons it k=>
  simp only[pM,eg] at hi;obtain⟨A,H⟩:=hi;cases it with
  |inBlock id=>exact still rfl (λ_=>rfl) (G H)
  |inLoop c=>exact still rfl (λ_=>rfl) (G (by simp only[pM,eg];exact⟨A,A,H⟩))
  |code c=>
   cases c with
   |skip=>exact still rfl (λ_=>rfl) (G H)
   |ret=>exact still rfl (λ_=>rfl) ret
   |seq a b=>
    simp only[kr,jd,eg] at A;exact still rfl (λ_=>rfl) (G (by simp only[pM,eg];exact⟨A.1,A.2,H⟩))
   |block id a=>exact still rfl (λ_=>rfl) (G (by simp only[pM,eg];exact⟨A,rfl,H⟩))
   |loop a=>exact still rfl (λ_=>rfl) (G (by simp only[pM,eg];exact⟨A,A,H⟩))
   |region id j draw=>
    simp only[kr,jd,eg,tF] at A;obtain⟨rfl,V⟩:=A;exact still rfl (λ_=>rfl) (G (by simp only[pM,eg];exact⟨V,H⟩))
   |exit id=>
    cases s:exitTo id k with
    |none=>exact absurd D (by
      have:stepG P main ⟨⟨p,n,.code (.exit id)::k,[],.run,.normal,none⟩,cs,.running,none,none⟩ w=.ended (.stuck "exit, goto: no such block or label" (Frame.pos P ⟨p,n,.code (.exit id)::k,[],.run,.normal,none⟩)) w:=by
       simp[stepG,stepG.exec,s]
      rw[this];intro e;cases e)
    |some l=>
     have E:∀(t:Array Value) (c:List Frame),stepG P main ⟨⟨p,t,.code (.exit id)::k,[],.run,.normal,none⟩,c,.running,none,none⟩ w=.go ⟨⟨p,t,l,[],.run,.normal,none⟩,c,.running,none,none⟩ w:=λt c=>by
      simp[stepG,stepG.exec,s]
     exact still (E _ _) (λ_=>E _ _) (G (pC s H))
   |cond c a b=>
    simp only[kr,jd,eg] at A;have T:=h0.eval A.1;cases hv:Frame.eval ⟨p,n,.code (.cond c a b)::k,[],.run,.normal,none⟩ c with
    |bool q=>
     rw[hv] at T;have E:∀(t:Array Value) (cc:List Frame),Frame.eval ⟨p,t,.code (.cond c a b)::k,[],.run,.normal,none⟩ c=.bool q->stepG P main ⟨⟨p,t,.code (.cond c a b)::k,[],.run,.normal,none⟩,cc,.running,none,none⟩ w=.go ⟨⟨p,t,.code (if q then a else b)::k,[],.run,.normal,none⟩,cc,.running,none,none⟩ w:=λt cc ht=>by
      simp[stepG,stepG.exec,ht]
     exact still (E _ _ hv) (λ_=>E _ _ T) (G (by simp only[pM,eg];cases q<;>first|exact⟨A.2.1,H⟩|exact⟨A.2.2,H⟩))
    |_=>
     exfalso;have:∃o,stepG P main ⟨⟨p,n,.code (.cond c a b)::k,[],.run,.normal,none⟩,cs,.running,none,none⟩ w=.ended o w:=by
      simp[stepG,stepG.exec,hv]
     obtain⟨o,e⟩:=this;rw[e] at D;cases D
   |_=>cases A
  |inRegion j il=>
   cases il with
   |nil=>exact still rfl (λ_=>rfl) (G H)
   |cons i f=>
    have Q:∀l,(Item.inRegion j l::k).all (kr J)=true:=λl=>by simp only[pM,eg];exact⟨A,H⟩
    cases ho:j[i]? with
    |none=>
     have E:∀(t:Array Value) (c:List Frame),stepG P main ⟨⟨p,t,.inRegion j (i::f)::k,[],.run,.normal,none⟩,c,.running,none,none⟩ w=.go ⟨⟨p,t,.inRegion j f::k,[],.run,.normal,none⟩,c,.running,none,none⟩ w:=λt c=>by
      simp[stepG,stepG.exec,ho,Frame.finish]
     exact still (E _ _) (λ_=>E _ _) (G (Q _))
    |some o=>
     have a0:al5 J o=true:=ip.1 A o (ru.2 (pS ho));simp only[al5,eg] at a0;obtain⟨hg,a4,V⟩:=a0;have ki:o.guard=none:=by simpa using hg
     have hw:∀y,Region.wanted o y=true:=λy=>by unfold Region.wanted;rw[ki]
     have al:execOp (Frame.eval ⟨p,F,.inRegion j (i::f)::k,[],.run,.normal,none⟩) o=execOp (Frame.eval ⟨p,n,.inRegion j (i::f)::k,[],.run,.normal,none⟩) o:=
      aj4 a4 λx s=>h0.eval (ip.1 V x s)
     have E:∀(t:Array Value) (c:List Frame),stepG P main ⟨⟨p,t,.inRegion j (i::f)::k,[],.run,.normal,none⟩,c,.running,none,none⟩ w =
       stepG.apply P true ⟨p,t,.inRegion j (i::f)::k,[],.run,.normal,none⟩ c none (execOp (Frame.eval ⟨p,t,.inRegion j (i::f)::k,[],.run,.normal,none⟩) o) w:=λt c=>by
      simp[stepG,stepG.exec,stepG.oper,Frame.oper?,ho,hw]
     rw[E] at D;cases hr:(execOp (Frame.eval ⟨p,n,.inRegion j (i::f)::k,[],.run,.normal,none⟩) o).runT P w #[] with
     |mk r a2=>
      have a3:(execOp (Frame.eval ⟨p,n,.inRegion j (i::f)::k,[],.run,.normal,none⟩) o).run P w=r:=by rw[<-qD _ _ _ #[],hr]
      have a5:∀(v:Value),(Frame.finish ⟨p,n,.inRegion j (i::f)::k,[],.run,.normal,none⟩ v).fn=p:=λv=>by
       simp only[Frame.finish,ho,pY]
      have a6:∀(v:Value),JR J (Frame.finish ⟨p,n,.inRegion j (i::f)::k,[],.run,.normal,none⟩ v) (Frame.finish ⟨p,F,.inRegion j (i::f)::k,[],.run,.normal,none⟩ v):=λv=>by
       simp only[Frame.finish,ho,pY];cases o.dst with
       |none=>exact G (Q _)
       |some d=>exact fin (h0.set d v).1 (h0.set d v).2 (Q _)
      have e2:∀c,stepG.apply P true ⟨p,F,.inRegion j (i::f)::k,[],.run,.normal,none⟩ c none (execOp (Frame.eval ⟨p,F,.inRegion j (i::f)::k,[],.run,.normal,none⟩) o) w =
        stepG.apply P true ⟨p,F,.inRegion j (i::f)::k,[],.run,.normal,none⟩ c none (execOp (Frame.eval ⟨p,n,.inRegion j (i::f)::k,[],.run,.normal,none⟩) o) w:=λc=>by rw[al]
      cases r with
      |ok nx w2=>
       have a7:(CallKind.normal ==CallKind.early)=false:=rfl;rcases ahX a4 a3 with⟨v,rfl⟩|rfl
       .have a1:∀(t:Array Value) (c:List Frame),stepG.apply P true ⟨p,t,.inRegion j (i::f)::k,[],.run,.normal,none⟩ c none (execOp (Frame.eval ⟨p,n,.inRegion j (i::f)::k,[],.run,.normal,none⟩) o) w=.go ⟨Frame.finish ⟨p,t,.inRegion j (i::f)::k,[],.run,.normal,none⟩ v,c,.running,none,none⟩ w2 (seen P p a2):=λt c=>by
         unfold stepG.apply;simp only[hr,mw];simp[GStep.after,a7]
        rw[a1] at D;injection D with X U g3
        injection X with R Z
        subst U g3 R Z;exact⟨rfl,a5 v,_,a6 v,λc=>by rw[E,e2,a1]⟩
       .have a1:∀(t:Array Value) (c:List Frame),stepG.apply P true ⟨p,t,.inRegion j (i::f)::k,[],.run,.normal,none⟩ c none (execOp (Frame.eval ⟨p,n,.inRegion j (i::f)::k,[],.run,.normal,none⟩) o) w=.go ⟨Frame.finish ⟨p,t,.inRegion j (i::f)::k,[],.run,.normal,none⟩ undef,c,.running,none,none⟩ w2 (seen P p a2):=λt c=>by
         unfold stepG.apply;simp only[hr,mw];simp[GStep.after,a7]
        rw[a1] at D;injection D with X U g3
        injection X with R Z
        subst U g3 R Z;exact⟨rfl,a5 undef,_,a6 undef,λc=>by rw[E,e2,a1]⟩
      |halt q w2=>
       have hq:∀(t:Array Value) (c:List Frame),∃u,(q=.unsupported (.initOrder u)/\stepG.apply P true ⟨p,t,.inRegion j (i::f)::k,[],.run,.normal,none⟩ c none (execOp (Frame.eval ⟨p,n,.inRegion j (i::f)::k,[],.run,.normal,none⟩) o) w=GStep.after (seen P p #[]) (early P ⟨p,t,.inRegion j (i::f)::k,[],.run,.normal,none⟩ c none u w2))\/
         (∀(S:Goroutine) ww ee,stepG.apply P true ⟨p,t,.inRegion j (i::f)::k,[],.run,.normal,none⟩ c none (execOp (Frame.eval ⟨p,n,.inRegion j (i::f)::k,[],.run,.normal,none⟩) o) w=.go S ww ee->S.status=.running->S.dying=none->S.frame.mode ≠ .run/\S.frame.mode ≠ .returning):=λt c=>by
        have M:(CallKind.normal ==CallKind.early)=false:=rfl;by_cases a8:∃u,q=.unsupported (.initOrder u)
        .obtain⟨u,rfl⟩:=a8;refine⟨u,.inl ⟨rfl, ?_⟩⟩;unfold stepG.apply;simp only[hr,mw];simp[M]
        .refine⟨0,.inr λS ww ee s h1 h2=> ?_⟩;unfold stepG.apply at s;simp only[hr,mw] at s;cases q with
         |unsupported u=>
          cases u with
          |initOrder g=>exact absurd ⟨g,rfl⟩ a8
          |_=>simp[GStep.after] at s
         |panic v=>simp[GStep.after] at s;obtain⟨rfl, -⟩:=s;exact⟨by simp[Frame.raise],by simp[Frame.raise]⟩
         |goexit=>simp[GStep.after] at s;obtain⟨rfl, -⟩:=s;exact⟨by simp[Frame.raise],by simp[Frame.raise]⟩
         |blocked=>simp[GStep.after] at s;obtain⟨rfl, -⟩:=s;cases h1
         |waiting=>simp[GStep.after] at s;obtain⟨rfl, -⟩:=s;cases h1
         |exit c=>simp[GStep.after] at s
         |stuck c=>simp[GStep.after] at s
         |throw m=>simp[GStep.after,endThrow,dieOf] at s;obtain⟨rfl, -⟩:=s;cases h2
         |fatal m=>
          exfalso;dsimp only at s;unfold endFatal at s;dsimp only at s;generalize Sem.run P _ w2=z at s;cases z with
          |ok z1 z2=>simp[GStep.after,dieOf] at s;obtain⟨rfl, -⟩:=s;cases h2
          |halt z1 z2=>cases z1<;>simp[GStep.after] at s
       obtain⟨u,N⟩:=hq n cs;rcases N with⟨rfl,T⟩|ad
       .rw[T] at D;cases O:early P ⟨p,n,.inRegion j (i::f)::k,[],.run,.normal,none⟩ cs none u w2 with
        |go S ww ee=>
         rw[O] at D;simp only[GStep.after] at D;injection D with X U g3
         subst X U g3;rcases aj5 O with W|⟨aa,L⟩
         .dsimp only at W;rw[af] at W;cases W
         .injection aa with R Z
          subst R Z;refine⟨rfl,rfl,_,h0,λc=> ?_⟩;rw[E,e2];obtain⟨u',N⟩:=hq F c;rcases N with⟨hu,a9⟩|an
          .cases hu;rw[a9,L ⟨p,F,.inRegion j (i::f)::k,[],.run,.normal,none⟩ c rfl];rfl
          .exfalso;have:=hq F c;obtain⟨u2,h2⟩:=this;have M:(CallKind.normal ==CallKind.early)=false:=rfl;have s:stepG.apply P true ⟨p,F,.inRegion j (i::f)::k,[],.run,.normal,none⟩ c none (execOp (Frame.eval ⟨p,n,.inRegion j (i::f)::k,[],.run,.normal,none⟩) o) w=GStep.after (seen P p #[]) (early P ⟨p,F,.inRegion j (i::f)::k,[],.run,.normal,none⟩ c none u w2):=by
            unfold stepG.apply;simp only[hr,mw];simp[M]
           rw[L ⟨p,F,.inRegion j (i::f)::k,[],.run,.normal,none⟩ c rfl] at s;exact(an _ _ _ s rfl rfl).1 rfl
        |_=>rw[O] at D;cases D
       .exfalso;have:=ad _ _ _ D rfl rfl;rcases K with K|K
        .exact this.1 K
        .exact this.2 K
  |_=>cases A
def apy(h:JR J fr cf)(n:fr.mode=.returning)(d:∃b,P.funcs[fr.fn]?=some b/\results b cf.tmps=results b fr.tmps){c:Frame}{main:Bool} :
  stepG P main ⟨cf,c::cs,.running,none,none⟩ w=stepG P main ⟨fr,c::cs,.running,none,none⟩ w:=by
 obtain⟨b,a,t,L,K,I,H⟩:=fr;obtain⟨l,x,g,A,y,F,D⟩:=cf;obtain⟨o,k,⟨p,s⟩,e,⟨j,f⟩,⟨m,i⟩,B,G,E⟩:=h;dsimp only at o k p s e j f m i B G E n d;subst o k p s e j f m i n;show unwind P main ⟨l,x,g,[],.returning,.normal,none⟩ (c::cs) none w=unwind P main ⟨l,a,g,[],.returning,.normal,none⟩ (c::cs) none w;unfold unwind;dsimp only;obtain⟨b,C,d⟩:=d;rw[C];dsimp only;rw[d];generalize (results b a).runT P w #[]=z;obtain⟨r,M⟩:=z;cases r with
 |ok v u=>rfl
 |halt q u=>cases q<;>rfl
end
end
section
open Go.Conc Go.ConcN
open Go.ConcR (KK wgBlock WgAt stA smA rd wr mk Payload DC0 Bk g_of_ofEvents ofEvent_mk)
abbrev aq:=Nat->Prop
def In(S:aq):Loc->Prop
 |.cell a=>S a.block
 |.obj r=>S r
 |_=>False
inductive iE where
 |leaf
 |node (f:World->iE)
def iE.Lt(a b:iE):Prop:=∃f w,b=.node f/\a=f w
def iE.wf:WellFounded iE.Lt:=⟨λt=>by
 induction t with
 |leaf=>exact⟨_,by rintro _ ⟨g,w,e,rfl⟩;cases e⟩
 |node f a=>exact⟨_,by rintro _ ⟨g,w,e,rfl⟩;cases e;exact a w⟩⟩
def VLt(N:Nat)(f g:Nat->iE):Prop:=∃i,i<N/\iE.Lt (f i) (g i)/\∀k,k≠i->f k=g k
def al6:∀(N:Nat) (g:Nat->iE),Acc (VLt N) g
 |0,g=>⟨_,λf ⟨i,hi,_⟩=>absurd hi (rN i)⟩
 |N+1,g=>by
  have a:∀t:iE,∀g:Nat->iE,g N=t->Acc (VLt (N+1)) g:=by
   intro t
   induction t using iE.wf.induction with
   |_ t d=>
    intro g
    induction al6 N g with
    |intro g _ b=>
     intro c;refine⟨_,λf ⟨i,hi,hlt,hk⟩=> ?_⟩;by_cases e:i=N
     .subst e;exact d (f i) (c▸hlt) f rfl
     .exact b f ⟨i,by omega,hlt,hk⟩ ((hk N (rY e)).trans c)
  exact a _ g rfl
abbrev Mu:=Nat×((Nat->iE)×Nat)
def pD(N:Nat):Mu->Mu->Prop:=Prod.Lex (· < ·) (Prod.Lex (VLt N) (· < ·))
def asj(N:Nat):WellFounded (pD N):=(Prod.lex Nat.lt_wfRel ⟨_,(Prod.lex ⟨_,⟨al6 N⟩⟩ Nat.lt_wfRel).wf⟩).wf
section
variable (P:Program) (main:Bool) (Rl:aq->World->World->Prop) (Gr:aq->aq->World->World->Array Event->Prop) (Stop:aq->Goroutine->World->Prop)
def nR:iE->aq->Goroutine->World->Prop
 |.leaf,S,g,w=>∀a,Rl S w a->Stop S g a
 |.node f,S,g,w=>(∀a,Rl S w a->Stop S g a)\/(g.status=.running/\∀a,Rl S w a->∃e b d c,stepG P main g a=.go e b d/\Gr S c a b d/\nR (f a) c e b)
def bB(S:aq)(g:Goroutine)(w:World):Prop:=∃T,nR P main Rl Gr Stop T S g w
end
section
variable {P:Program} {main:Bool} {Rl:aq->World->World->Prop} {Gr:aq->aq->World->World->Array Event->Prop} {Stop ad2:aq->Goroutine->World->Prop} {S:aq} {g:Goroutine} {w w₁:World}
def nR.cases{T:iE}(h:nR P main Rl Gr Stop T S g w):(∀w₁,Rl S w w₁->Stop S g w₁)\/∃f,T=.node f/\g.status=.running/\∀w₁,Rl S w w₁->∃d a c b,stepG P main g w₁=.go d a c/\Gr S b w₁ a c/\nR P main Rl Gr Stop (f w₁) b d a:=by
 cases T with
 |leaf=>exact .inl h
 |node f=>exact Or.imp id (λx=>⟨f,rfl,x⟩) h
def bB.stop(h:∀w₁,Rl S w w₁->Stop S g w₁):bB P main Rl Gr Stop S g w:=⟨.leaf,h⟩
def bB.step(l:g.status=.running)(h:∀w₁,Rl S w w₁->∃d a c b,stepG P main g w₁=.go d a c/\Gr S b w₁ a c/\bB P main Rl Gr Stop b d a):bB P main Rl Gr Stop S g w:=by
 classical
 have f:∀w₁,∃T,Rl S w w₁->∃d a c b,stepG P main g w₁=.go d a c/\Gr S b w₁ a c/\nR P main Rl Gr Stop T b d a:=λw₁=>by
  by_cases e:Rl S w w₁
  .obtain⟨d,a,c,b,j,i,T,k⟩:=h w₁ e;exact⟨T,λ_=>⟨d,a,c,b,j,i,k⟩⟩
  .exact⟨.leaf,λx=>absurd x e⟩
 exact⟨.node λw₁=>(f w₁).choose,.inr ⟨l,λw₁ e=>(f w₁).choose_spec e⟩⟩
def nR.rely(i:∀S a b c,Rl S a b->Rl S b c->Rl S a c){T:iE}(h:nR P main Rl Gr Stop T S g w)(j:Rl S w w₁):nR P main Rl Gr Stop T S g w₁:=by
 cases T with
 |leaf=>exact λe d=>h e (i _ _ _ _ j d)
 |node f=>exact Or.imp (λh e d=>h e (i _ _ _ _ j d)) (λx=>⟨x.1,λe d=>x.2 e (i _ _ _ _ j d)⟩) h
def bB.bind(d:∀S w,Rl S w w)(e:∀S a b c,Rl S a b->Rl S b c->Rl S a c)(h:bB P main Rl Gr Stop S g w)(i:∀S g w,Stop S g w->bB P main Rl Gr ad2 S g w):bB P main Rl Gr ad2 S g w:=by
 obtain⟨T,h⟩:=h
 induction T generalizing S g w with
 |leaf=>exact i _ _ _ (h w (d _ _))
 |node f q=>
  rcases h with h|⟨o,h⟩
  .exact i _ _ _ (h w (d _ _))
  .exact bB.step o λw₁ l=>let⟨s,j,m,p,r,k,n⟩:=h w₁ l;⟨s,j,m,p,r,k,q w₁ n⟩
def bB.aaW{R:World->World->Prop}{D:World->World->Array Event->Prop}{St:Goroutine->World->Prop}(d:∀w w₁,Rl S w w₁->R w w₁)(i:∀w b c,D w b c->Gr S S w b c)(e:∀g w,St g w->Stop S g w) :
  ∀{n:Nat} {g:Goroutine} {w:World},Goes P main R D St n g w->bB P main Rl Gr Stop S g w
 |0,_,_,h=>.stop λw₁ a=>e _ _ (h w₁ (d _ _ a))
 |n+1,g,w,h=>by
  rcases h with h|⟨j,h⟩
  .exact .stop λw₁ a=>e _ _ (h w₁ (d _ _ a))
  .refine .step j λw₁ a=> ?_;have:=h w₁ (d _ _ a);cases f:stepG P main g w₁ with
   |go k b c=>
    rw[f,sM] at this;exact⟨k,b,c,S,rfl,i _ _ _ this.1,bB.aaW d i e this.2⟩
   |_=>rw[f] at this;exact this.elim
def nR.running(b:∀S g w,Stop S g w->g.status=.running)(a:∀S w,Rl S w w){T:iE}(h:nR P main Rl Gr Stop T S g w):g.status=.running:=by
 rcases h.cases with h|⟨_,_,h,_⟩
 .exact b _ _ _ (h w (a _ _))
 .exact h
end
section
variable [Payload] (ty:TypeId) (Wg C N:Nat)
structure iN (R cl S:aq) (w w₁:World):Prop where
 keep:∀b,S b\/R b->w₁.heap[b]?=w.heap[b]?
 size:w.heap.size<=w₁.heap.size
 os:w₁.ou=w.ou
 live:WgLive ty Wg w->WgLive ty Wg w₁
 pay:PayAt C N w->PayAt C N w₁
 cell:∀i,cl i->w₁.cell? ⟨C,i,none⟩=w.cell? ⟨C,i,none⟩
structure EvP (R cl S:aq) (B:Nat) (e:Event):Prop where
 touch:∀x,(MemAct.ofEvent e).touch?=some x->In S x.loc\/(∃a,x.loc=.cell a/\a.block=C/\cl a.off)\/(In R x.loc/\x.write=false)
 dis:e.loc ≠ .mark .disable
 en:e.loc ≠ .mark .enable
 rel:e.loc ≠ .mark (.release (stA Wg))
 low:(MemAct.ofEvent e).low B
structure Gua (R cl S S':aq) (w w':World) (es:Array Event):Prop where
 keep:∀b,b<w.heap.size->¬S b->b≠C->w'.heap[b]?=w.heap[b]?
 size:w.heap.size<=w'.heap.size
 os:w'.ou=w.ou
 pay:PayAt C N w->PayAt C N w'
 cell:∀i,¬cl i->w'.cell? ⟨C,i,none⟩=w.cell? ⟨C,i,none⟩
 mono:∀b,S b->S' b
 new:∀b,S' b->S b\/(w.heap.size<=b/\b<w'.heap.size)
 ev:∀e∈es,EvP Wg C R cl S' w'.heap.size e
end
section
variable [Payload] {ty:TypeId} {Wg C N:Nat} {R cl S S' asl apz asm:aq} {w w₁ w₂ w':World} {es:Array Event}
def iN.refl(R cl S:aq)(w:World):iN ty Wg C N R cl S w w:=⟨λ_ _=>rfl,ap _,rfl,id,id,λ_ _=>rfl⟩
def iN.trans(h:iN ty Wg C N R cl S w w₁)(k:iN ty Wg C N R cl S w₁ w₂):iN ty Wg C N R cl S w w₂:=
 ⟨λb a=>(k.keep b a).trans (h.keep b a),am h.size k.size,k.os.trans h.os,k.live∘h.live,k.pay∘h.pay,λi c=>(k.cell i c).trans (h.cell i c)⟩
def iN.at(R cl S:aq)(w:World)(d:Nat):iN ty Wg C N R cl S w (w.at d):=⟨λ_ _=>rfl,ap _,rfl,id,id,λ_ _=>rfl⟩
def iN.aj7(h:Gua Wg C N R cl S S' w w' es)(a:∀b,asm b\/asl b->b<w.heap.size/\¬S b/\b≠C)(g:∀i,apz i->¬cl i)(c:Wg<w.heap.size/\¬S Wg/\Wg≠C):iN ty Wg C N asl apz asm w w':=
 ⟨λb d=>h.keep b (a b d).1 (a b d).2.1 (a b d).2.2,h.size,h.os,λ⟨k,j,e⟩=>⟨k,j,e.of_block (h.keep Wg c.1 c.2.1 c.2.2)⟩,h.pay,λi f=>h.cell i (g i f)⟩
def iN.of_wg(h:Aside Wg w w')(d:WgLive ty Wg w')(c:∀b,asm b\/asl b->b≠Wg)(a:C≠Wg):iN ty Wg C N asl apz asm w w':=
 ⟨λb g=>h.block b (c b g),mc h.size.symm,awp h.os h.output,λ_=>d,λ⟨e,j,f⟩=>⟨e,(h.block C a).trans j,f⟩,λi _=>tI (h.block C a) i⟩
def iN.rw(h:iN ty Wg C N R cl S w w')(c:cl i):RW ty Wg C N 0 i w w':=⟨λb a=>absurd a (rN b),h.live,h.pay,h.cell i c⟩
end
section
variable {Sh:Loc->Prop} {Own Rd avm Rd':Nat->Loc->Prop} {t:Trace} {j:Nat}
def afp(h:CT Sh Own Rd t j)(n:∀k,1<=k->k<=j->∀l,avm k l->Own k l\/∀i a,touchAt t i=some a->a.loc≠l)(m:∀k,1<=k->k<=j->∀l,Own k l->avm k l)(g:∀k,1<=k->k<=j->∀l,Rd' k l↔Rd k l):CT Sh avm Rd' t j:=
 ⟨h.quiet,λk b c l d=>(n k b c l d).elim (h.own k b c l) λo i a p e=>absurd e (o i a p),λk b c l d=>h.rd k b c l ((g k b c l).1 d),
  λl f d=>h.free l f λk b c=>⟨λx=>(d k b c).1 (m k b c l x),λx=>(d k b c).2 ((g k b c l).2 x)⟩,λl f d=>h.mine l f λk b c x=>d k b c (m k b c l x),h.nr,h.gs⟩
end
variable [Payload]
def dw(κ:Nat):aq:=λi=>i / 2=κ
def noC:aq:=λ_=>False
abbrev FF:Nat->Loc->Prop:=λ_ _=>False
section
variable (P:Program) (ty:TypeId) (Wg C n K0:Nat) (val:Nat->Value) (aT:aq)
def afq(κ:Nat):aq->Goroutine->World->Prop:=λ_ g w=>AtR0 P ty Wg C (2*n) 0 (2*κ+1) (val (2*κ)) g w/\Has C (2*κ+1) (val (2*κ+1)) w
abbrev GW(κ:Nat)(R:aq):iE->aq->Goroutine->World->Prop:=nR P false (iN ty Wg C (2*n) R (dw κ)) (Gua Wg C (2*n) R (dw κ)) (afq P ty Wg C n val κ)
inductive WK (κ:Nat) (R:aq):Nat->Nat->Nat->iE->aq->Goroutine->World->Prop
 |work {T:iE} {S:aq} {g:Goroutine} {w:World}:GW P ty Wg C n val κ R T S g w->WK κ R 7 0 0 T S g w
 |rest {s m d:Nat} {T:iE} {S:aq} {g:Goroutine} {w:World}:s<=6->WSit P ty Wg C (2*n) FF FF 0 (2*κ+1) (val (2*κ)) s m d g w->WK κ R s m d T S g w
abbrev RM(R S:aq):World->World->Prop:=iN ty Wg C (2*n) R noC S
def pE(e:Event):Prop:=∃a:Addr,a.block=Wg/\(e=mk (.read a)\/e=mk (.write a))
def DSd(w w':World)(es:Array Event):Prop:=w'=w/\∀e∈es,pE Wg e
section
variable (R S:aq) (aP Fin:aq->aq->Goroutine->World->Prop)
abbrev GP(St:Goroutine->World->Prop)(m:Nat)(g:Goroutine)(w:World):Prop:=Goes P true (RM ty Wg C n R S) (DSd Wg) St m g w
def avn(g:Goroutine)(w:World):Prop:=g.status=.running/\∃a,stepG P true g w=.go a w #[mk (.acquire (stA Wg))]/\Fin R S a w
def MKe(g:Goroutine)(w:World):Prop:=g.status=.running/\∃a,stepG P true g w=.go a w #[mk .enable]/\∃m,GP P ty Wg C n R S (avn P Wg R S Fin) m a w
def MW4(g:Goroutine)(w:World):Prop:=g.status=.running/\(WgAt ty Wg w 0 0->∃a,stepG P true g w=.go a w #[rd (stA Wg)]/\∃m,GP P ty Wg C n R S (MKe P ty Wg C n R S Fin) m a w)
def MW3(g:Goroutine)(w:World):Prop:=g.status=.running/\g.offers=none/\
  ((∃b,WgAt ty Wg w b 0)->stepG P true g w=.go {g with status:=.blocked} w #[])/\
  (WgAt ty Wg w 0 1->∃a,stepG P true g w=.go a (w.setCell (smA Wg) (.int .u32 0)) (semEvents (smA Wg))/\∃m,GP P ty Wg C n R S (MW4 P ty Wg C n R S Fin) m a (w.setCell (smA Wg) (.int .u32 0)))
def MW2(vs:Nat)(g:Goroutine)(w:World):Prop:=g.status=.running/\∀v:Nat,v<2147483648->WgAt ty Wg w (v*KK) 0->
  (v=vs->∃a,stepG P true g w=.go a (w.setCell (stA Wg) (.int .u64 (v*KK+1))) #[rd (stA Wg),wr (stA Wg)]/\∃m,GP P ty Wg C n R S (MW3 P ty Wg C n R S Fin) m a (w.setCell (stA Wg) (.int .u64 (v*KK+1))))/\
  (v≠vs->∃a,stepG P true g w=.go a w #[rd (stA Wg)]/\∃m,GP P ty Wg C n R S (aP R S) m a w)
def MW1(g:Goroutine)(w:World):Prop:=g.status=.running/\∀v:Nat,v<2147483648->WgAt ty Wg w (v*KK) 0->∃a,stepG P true g w=.go a w #[rd (stA Wg)]/\
  (v=0->∃m,GP P ty Wg C n R S (MKe P ty Wg C n R S Fin) m a w)/\(v≠0->∃m,GP P ty Wg C n R S (MW2 P ty Wg C n R S aP Fin v) m a w)
def MKd(g:Goroutine)(w:World):Prop:=g.status=.running/\∃a,stepG P true g w=.go a w #[mk .disable]/\∃m,GP P ty Wg C n R S (aP R S) m a w
end
abbrev GM(R:aq)(St:aq->Goroutine->World->Prop):iE->aq->Goroutine->World->Prop:=nR P true (iN ty Wg C (2*n) R noC) (Gua Wg C (2*n) R noC) St
section
variable (j:Nat) (Next:aq->Goroutine->World->Prop) (R S:aq)
def MGo(S:aq)(g:Goroutine)(w:World):Prop:=g.status=.running/\∃d a c,stepG P true g w=.spawn d a w #[]/\(∀b,c b->S b\/R b)/\
  (PayAt C (2*n) w->WgLive ty Wg w->∃T,GW P ty Wg C n val j c T (λ_=>False) a w)/\Next (λb=>S b\/R b) d w
def avo(g:Goroutine)(w:World):Prop:=g.status=.running/\∃a,stepG P true g w=.go a w #[mk .enable]/\∃T,GM P ty Wg C n R (MGo P ty Wg C n val j Next R) T S a w
def MA1(g:Goroutine)(w:World):Prop:=g.status=.running/\∀v:Nat,v<2147483647->WgAt ty Wg w (v*KK) 0->
  ∃a,stepG P true g w=.go a (w.setCell (stA Wg) (.int .u64 ((v+1)*KK))) #[rd (stA Wg),wr (stA Wg)]/\∃m,GP P ty Wg C n R S (avo P ty Wg C n val j Next R S) m a (w.setCell (stA Wg) (.int .u64 ((v+1)*KK)))
def apA(g:Goroutine)(w:World):Prop:=g.status=.running/\∃a,stepG P true g w=.go a w #[mk .disable]/\∃m,GP P ty Wg C n R S (MA1 P ty Wg C n val j Next R S) m a w
end
variable (aP Fin:aq->aq->Goroutine->World->Prop)
def sS:Nat->aq->Goroutine->World->Prop
 |0,R,g,w=>∃T,GM P ty Wg C n R (λS g w=>MKd P ty Wg C n R S aP g w) T (λ_=>False) g w
 |r+1,R,g,w=>∃T,GM P ty Wg C n R (λS g w=>apA P ty Wg C n val (n-(r+1)) (sS r) R S g w) T (λ_=>False) g w
inductive eB:CTag->Nat->aq->aq->iE->Nat->Nat->Goroutine->World->Prop
 |skd {r:Nat} {R S:aq} {T:iE} {g:Goroutine} {w:World}:r<n->GM P ty Wg C n R (λS g w=>apA P ty Wg C n val (n-(r+1)) (sS P ty Wg C n val aP r) R S g w) T S g w->eB (.sp r 5) (n-(r+1)) R S T 0 0 g w
 |sa1 {r m:Nat} {R S:aq} {T:iE} {g:Goroutine} {w:World}:r<n->GP P ty Wg C n R S (MA1 P ty Wg C n val (n-(r+1)) (sS P ty Wg C n val aP r) R S) m g w->eB (.sp r 4) (n-(r+1)) R S T m 1 g w
 |ske {r m:Nat} {R S:aq} {T:iE} {g:Goroutine} {w:World}:r<n->GP P ty Wg C n R S (avo P ty Wg C n val (n-(r+1)) (sS P ty Wg C n val aP r) R S) m g w->eB (.sp r 3) (n-(r+1)) R S T m 1 g w
 |sgo {r:Nat} {R S:aq} {T:iE} {g:Goroutine} {w:World}:r<n->GM P ty Wg C n R (MGo P ty Wg C n val (n-(r+1)) (sS P ty Wg C n val aP r) R) T S g w->eB (.sp r 2) (n-(r+1)) R S T 0 0 g w
 |kd {R S:aq} {T:iE} {g:Goroutine} {w:World}:GM P ty Wg C n R (λS g w=>MKd P ty Wg C n R S aP g w) T S g w->eB .kd n R S T 0 0 g w
 |anch {m:Nat} {R S:aq} {T:iE} {g:Goroutine} {w:World}:GP P ty Wg C n R S (aP R S) m g w->eB .anch n R S T m 1 g w
 |w1 {m:Nat} {R S:aq} {T:iE} {g:Goroutine} {w:World}:GP P ty Wg C n R S (MW1 P ty Wg C n R S aP Fin) m g w->eB .w1 n R S T m 1 g w
 |w2 {vs m:Nat} {R S:aq} {T:iE} {g:Goroutine} {w:World}:GP P ty Wg C n R S (MW2 P ty Wg C n R S aP Fin vs) m g w->eB (.w2 vs) n R S T m 1 g w
 |w3 {m:Nat} {R S:aq} {T:iE} {g:Goroutine} {w:World}:GP P ty Wg C n R S (MW3 P ty Wg C n R S Fin) m g w->eB .w3 n R S T (m+1) 1 g w
 |blk {R S:aq} {T:iE} {g:Goroutine} {w:World}:(∀w₁,RM ty Wg C n R S w w₁->MW3 P ty Wg C n R S Fin g w₁)->eB .blk n R S T 0 1 {g with status:=.blocked} w
 |w4 {m:Nat} {R S:aq} {T:iE} {g:Goroutine} {w:World}:GP P ty Wg C n R S (MW4 P ty Wg C n R S Fin) m g w->eB .w4 n R S T m 1 g w
 |ke {m:Nat} {R S:aq} {T:iE} {g:Goroutine} {w:World}:GP P ty Wg C n R S (MKe P ty Wg C n R S Fin) m g w->eB .ke n R S T m 1 g w
 |acq {m:Nat} {R S:aq} {T:iE} {g:Goroutine} {w:World}:GP P ty Wg C n R S (avn P Wg R S Fin) m g w->eB .acq n R S T m 0 g w
def Shr(Wg:Nat)(aT:aq)(l:Loc):Prop:=∃a,l=.cell a/\(a.block=Wg\/aT a.block)
def aaa(C K0:Nat)(O:Nat->aq)(k:Nat)(l:Loc):Prop:=∃b,k=K0+1+b/\(In (O b) l\/∃a,l=.cell a/\a.block=C/\a.off / 2=b)
def RdL(K0:Nat)(Rk:Nat->aq)(k:Nat)(l:Loc):Prop:=∃a,k=K0+1+a/\In (Rk a) l
structure Sets (w:World) (R S:aq) (O Rk:Nat->aq):Prop where
 rlt:∀b,R b->b<w.heap.size
 slt:∀b,S b->b<w.heap.size
 olt:∀κ b,O κ b->b<w.heap.size
 rk:∀κ b,Rk κ b->R b
 rs:∀b,R b->¬S b
 orr:∀κ b,O κ b->¬R b
 os:∀κ b,O κ b->¬S b
 oo:∀κ fw b,O κ b->O fw b->κ=fw
 wlt:Wg<w.heap.size
 clt:C<w.heap.size
 cw:C≠Wg
 wr:¬R Wg
 ws:¬S Wg
 wo:∀κ,¬O κ Wg
 cr:¬R C
 cs:¬S C
 co:∀κ,¬O κ C
 shr:∀b,aT b->¬R b
 shs:∀b,aT b->¬S b
 sho:∀κ b,aT b->¬O κ b
 shc:¬aT C
 ahY:∀b,aT b->b<w.heap.size
end
section
variable {Wg C K0:Nat} {aT R S:aq} {w w':World} {O Rk:Nat->aq}
omit [Payload] in
def In.mono{S a:aq}(h:∀b,S b->a b){l:Loc}(x:In S l):In a l:=by
 cases l<;>first|exact h _ x|exact x.elim
omit [Payload] in
def In.no{S a:aq}(h:∀b,S b->¬a b){l:Loc}(x:In S l):¬In a l:=by
 cases l<;>first|exact h _ x|exact x.elim
omit [Payload] in
def In.block{S:aq}{l:Loc}(x:In S l){a:Addr}(e:l=.cell a):S a.block:=by subst e;exact x
omit [Payload] in
def Sets.apart(h:Sets Wg C aT w R S O Rk):Apart (Shr Wg aT) (aaa C K0 O) (RdL K0 Rk) where
 own:=by
  rintro k m l ⟨f,rfl,d⟩ ⟨i,rfl,c⟩;have:f=i:=by
   rcases d with d|⟨a,rfl,g,o⟩<;>rcases c with c|⟨b,e,j,n⟩
   .cases l<;>first|exact h.oo _ _ _ d c|exact d.elim
   .subst e;exact absurd (j▸d) (h.co f)
   .exact absurd (g▸c) (h.co i)
   .cases e;omega
  rw[this]
 ownRd:=by
  rintro k m l ⟨f,rfl,d⟩ ⟨i,rfl,c⟩;rcases d with d|⟨a,rfl,g, -⟩
  .cases l<;>first|exact h.orr _ _ d (h.rk _ _ c)|exact d.elim
  .exact h.cr (g▸h.rk _ _ c)
 ownSh:=by
  rintro k l ⟨f,rfl,d⟩ ⟨a,rfl,c⟩;rcases d with d|⟨b,e,g, -⟩
  .rcases c with c|c
   .exact h.wo f (c▸d)
   .exact h.sho f _ c d
  .cases e;rcases c with c|c
   .exact h.cw (g.symm.trans c)
   .exact h.shc (g▸c)
 rdSh:=by
  rintro k l ⟨f,rfl,d⟩ ⟨a,rfl,c⟩;rcases c with c|c
  .exact h.wr (c▸h.rk _ _ d)
  .exact h.shr _ c (h.rk _ _ d)
omit [Payload] in
def Sets.at(h:Sets Wg C aT w R S O Rk)(d:Nat):Sets Wg C aT (w.at d) R S O Rk:=⟨h.rlt,h.slt,h.olt,h.rk,h.rs,h.orr,h.os,h.oo,h.wlt,h.clt,h.cw,h.wr,h.ws,h.wo,h.cr,h.cs,h.co,h.shr,h.shs,h.sho,h.shc,h.ahY⟩
omit [Payload] in
def Sets.size(h:Sets Wg C aT w R S O Rk)(a:w.heap.size<=w'.heap.size):Sets Wg C aT w' R S O Rk:=
 ⟨λb x=>aE (h.rlt b x) a,λb x=>aE (h.slt b x) a,λc b x=>aE (h.olt c b x) a,h.rk,h.rs,h.orr,h.os,h.oo,aE h.wlt a,aE h.clt a,h.cw,h.wr,h.ws,h.wo,h.cr,h.cs,h.co,h.shr,h.shs,h.sho,h.shc,λb x=>aE (h.ahY b x) a⟩
omit [Payload] in
def Sets.aw4(h:Sets Wg C aT w R S O Rk)(o:w.heap.size<=w'.heap.size){g:aq}(l:∀b,g b->O κ b\/(w.heap.size<=b/\b<w'.heap.size)):Sets Wg C aT w' R S (upd O κ g) Rk:=by
 have a:∀{c:Nat} {b:Nat},upd O κ g c b->O c b\/(c=κ/\w.heap.size<=b/\b<w'.heap.size):=λ{c b} x=>by
  by_cases e:c=κ
  .subst e;rw[pi] at x;exact(l b x).imp id λy=>⟨rfl,y⟩
  .rw[qf O _ e] at x;exact .inl x
 have d:=h.size o;refine⟨d.rlt,d.slt,λc b x=> ?_,h.rk,h.rs,λc b x=> ?_,λc b x=> ?_,λk j b x y=> ?_,d.wlt,d.clt,h.cw,h.wr,h.ws,λc x=> ?_,h.cr,h.cs,λc x=> ?_,h.shr,h.shs,λc b i x=> ?_,h.shc,d.ahY⟩
 .rcases a x with x|⟨-, -,x⟩
  .exact d.olt _ _ x
  .exact x
 .rcases a x with x|⟨-,x, -⟩
  .exact h.orr _ _ x
  .intro f;have:=h.rlt b f;omega
 .rcases a x with x|⟨-,x, -⟩
  .exact h.os _ _ x
  .intro f;have:=h.slt b f;omega
 .rcases a x with x|⟨m,x, -⟩<;>rcases a y with y|⟨n,y, -⟩
  .exact h.oo _ _ _ x y
  .have:=h.olt _ _ x;omega
  .have:=h.olt _ _ y;omega
  .rw[m,n]
 .rcases a x with x|⟨-,x, -⟩
  .exact h.wo _ x
  .have:=h.wlt;omega
 .rcases a x with x|⟨-,x, -⟩
  .exact h.co _ x
  .have:=h.clt;omega
 .rcases a x with x|⟨-,x, -⟩
  .exact h.sho _ _ i x
  .have:=h.ahY b i;omega
omit [Payload] in
def Sets.aue(h:Sets Wg C aT w R S O Rk)(j:w.heap.size<=w'.heap.size){d:aq}(c:∀b,d b->S b\/(w.heap.size<=b/\b<w'.heap.size)):Sets Wg C aT w' R d O Rk:=by
 have a:=h.size j;refine⟨a.rlt,λb x=> ?_,a.olt,h.rk,λb f x=> ?_,h.orr,λi b e x=> ?_,h.oo,a.wlt,a.clt,h.cw,h.wr,λx=> ?_,h.wo,h.cr,λx=> ?_,h.co,h.shr,λb g x=> ?_,h.sho,h.shc,a.ahY⟩
 .rcases c b x with x|x
  .exact a.slt b x
  .exact x.2
 .rcases c b x with x|x
  .exact h.rs b f x
  .have:=h.rlt b f;omega
 .rcases c b x with x|x
  .exact h.os i b e x
  .have:=h.olt i b e;omega
 .rcases c _ x with x|x
  .exact h.ws x
  .have:=h.wlt;omega
 .rcases c _ x with x|x
  .exact h.cs x
  .have:=h.clt;omega
 .rcases c _ x with x|x
  .exact h.shs b g x
  .have:=h.ahY b g;omega
omit [Payload] in
def Sets.hand(h:Sets Wg C aT w R S O Rk)(κ:Nat){X:aq}(d:∀b,X b->S b\/R b):Sets Wg C aT w (λb=>S b\/R b) (λ_=>False) O (upd Rk κ X):=by
 refine⟨λb x=>x.elim (h.slt b) (h.rlt b),λb x=>x.elim,h.olt,λa b x=> ?_,λb _ x=>x,λa b x y=>y.elim (h.os a b x) (h.orr a b x),λa b _ x=>x,h.oo,h.wlt,h.clt,h.cw,λx=>x.elim h.ws h.wr,id,h.wo,λx=>x.elim h.cs h.cr,id,h.co,λb c x=>x.elim (h.shs b c) (h.shr b c),λb _ x=>x,h.sho,h.shc,h.ahY⟩;by_cases e:a=κ
 .subst e;rw[pi] at x;exact d b x
 .rw[qf Rk _ e] at x;exact .inr (h.rk a b x)
end
end
section
open Go.Conc Go.ConcN
open Go.ConcR (KK wgBlock WgAt stA smA rd wr mk Payload DC0 Bk g_of_ofEvents ofEvent_mk ofEvent_loc_mark loc_of_ofEvent)
def ShL(aT:aq)(l:Loc):Prop:=∃a,l=.cell a/\aT a.block
structure dU (aT:aq) (K B:Nat) (t:Trace):Prop where
 clean:∀said,¬Race said t
 known:∀(i:Nat) (op:MemOp) (x:Touch),t[i]?=some op->op.act.touch?=some x->¬ShL aT x.loc->Knows t 0 i
 quiet:Quiet (ShL aT) t
 over:t.HandedOver
 hears:Deaf t 0=0
 seen:∀op∈t,op.act.low B
 gs:∀op∈t,op.g<=K
def lL(Wg:Nat)(aT:aq)(t:Trace)(k r:Nat):Prop:=∀(i:Nat) (op:MemOp) (x:Touch),r<i->t[i]?=some op->op.g=k->op.act.touch?=some x->Shr Wg aT x.loc
def lL.app{aT:aq}{t u:Trace}{r : Nat}(h:lL Wg aT t k r)(e:∀op∈u,op.g=k->∀x,op.act.touch?=some x->Shr Wg aT x.loc):lL Wg aT (t++u) k r:=λi op x g d b c=>by
 rcases qJ d with⟨_,f⟩|⟨_,a⟩
 .exact h i op x g f b c
 .exact e op a b x c
structure TI (Wg C K0:Nat) (aT:aq) (j:Nat) (t:Trace) (D:Nat->WD) (O Rk:Nat->aq) (d0 B:Nat):Prop where
 ct:CT (Shr Wg aT) (aaa C K0 O) (RdL K0 Rk) t (K0+j)
 norel:NoRelease (stA Wg) t
 deaf0:Deaf t 0=d0
 deafW:∀κ,κ<j->Deaf t (K0+1+κ)=(D κ).deaf
 rel:∀κ,κ<j->(D κ).stage<=6->∃r,RelBy (stA Wg) t (K0+1+κ) r/\lL Wg aT t (K0+1+κ) r
 seen:∀op∈t,op.act.low B
 over:∀(i g:Nat),t.g? i=some g->g≠0->g<=K0->t.counts i->∃p,t.g? p=some 0/\HappensBefore t i p
 known:∀(i:Nat) (op:MemOp) (x:Touch),t[i]?=some op->op.g<=K0->op.act.touch?=some x->¬Shr Wg aT x.loc->Knows t 0 i
section
variable {Wg C K0:Nat} {aT:aq} {j:Nat} {t u:Trace} {D:Nat->WD} {O Rk:Nat->aq} {d0 B B':Nat}
def aaX(h:∀(i g:Nat),t.g? i=some g->g≠0->g<=K0->t.counts i->∃p,t.g? p=some 0/\HappensBefore t i p)(o:∀op∈u,op.g=0\/K0<op.g\/op.act.touch?=none) :
  ∀(i g:Nat),(t++u).g? i=some g->g≠0->g<=K0->(t++u).counts i->∃p,(t++u).g? p=some 0/\HappensBefore (t++u) i p:=by
 intro i g l d k n;obtain⟨x,r,y,A⟩:=id n;obtain⟨op,a,b⟩:=touch_of r;have v:op.g=g:=by simpa[Trace.g?,a] using l
 rcases qJ a with⟨m,s⟩|⟨_,j⟩
 .obtain⟨p,c,q⟩:=h i g (by rw[<-g?_old (u:=u) m];exact l) d k ((counts_old m).1 n);have e:p<t.size:=by
   unfold Trace.g? at c;obtain⟨z,w,_⟩:=ga.1 c;exact lt_size_of_getElem? w
  exact⟨p,by rw[g?_old e];exact c,hb_app u q⟩
 .rcases o op j with f|f|f
  .omega
  .omega
  .rw[f] at b;cases b
def nS(h:∀(i:Nat) (op:MemOp) (x:Touch),t[i]?=some op->op.g<=K0->op.act.touch?=some x->¬Shr Wg aT x.loc->Knows t 0 i)(e:∀op∈u,op.g=0\/K0<op.g\/op.act.touch?=none) :
  ∀(i:Nat) (op:MemOp) (x:Touch),(t++u)[i]?=some op->op.g<=K0->op.act.touch?=some x->¬Shr Wg aT x.loc->Knows (t++u) 0 i:=by
 intro i op x d g c j;rcases qJ d with⟨_,f⟩|⟨_,b⟩
 .exact(h i op x f g c j).app u
 .rcases e op b with a|a|a
  .have:=knows_own d;rwa [a] at this
  .omega
  .rw[a] at c;cases c
def abN(h:∀op∈t,op.act.low B)(b:B<=B'):∀op∈t,op.act.low B':=λop a=>MemAct.low_mono b (h op a)
def afr(h:∀op∈t,op.act.low B)(n:touchAt t i=some x){S:aq}(k:∀b,S b->B<=b)(d:In S x.loc):False:=by
 obtain⟨op,l,a⟩:=touch_of n;have c:=h op (pS l);obtain⟨g,p,o,f⟩:=op;cases f with
 |access e=>
  simp only[MemAct.touch?,lE] at a;subst a;obtain⟨loc,wr,q⟩:=e;cases loc<;>first|exact d.elim|(have j:=k _ d;exact absurd c (Nat.not_lt.2 j))
 |mark m=>
  cases m<;>simp only[MemAct.touch?,lE,reduceCtorEq] at a<;>(subst a;have j:=k _ d;exact absurd c (Nat.not_lt.2 j))
 |_=>simp[MemAct.touch?] at a
def TI.appW (h:TI Wg C K0 aT j t D O Rk d0 B) (H:B<=B') (I:κ<j) {o:aq} {s' : Nat}   
  (A:Apart (Shr Wg aT) (aaa C K0 (upd O κ o)) (RdL K0 Rk))
  (E:∀b,O κ b->o b) (w:∀b,o b->O κ b\/B<=b)
  (y:∀op∈MemOp.ofEvents (K0+1+κ) fn pos es,OkW (Shr Wg aT) (aaa C K0 (upd O κ o)) (RdL K0 Rk) (K0+1+κ) op) (q:∀e∈es,e.loc ≠ .mark (.release (stA Wg)))
  (s:deafBehind (D κ).deaf es=Z) (v:∀op∈MemOp.ofEvents (K0+1+κ) fn pos es,op.act.low B')
  (hrel:s'<=6->∃r,RelBy (stA Wg) (t++MemOp.ofEvents (K0+1+κ) fn pos es) (K0+1+κ) r/\lL Wg aT (t++MemOp.ofEvents (K0+1+κ) fn pos es) (K0+1+κ) r) :
  TI Wg C K0 aT j (t++MemOp.ofEvents (K0+1+κ) fn pos es) (upd D κ ⟨s',m',Z⟩) (upd O κ o) Rk d0 B':=by
 have n:∀op∈MemOp.ofEvents (K0+1+κ) fn pos es,op.g=K0+1+κ:=g_of_ofEvents;have u:CT (Shr Wg aT) (aaa C K0 (upd O κ o)) (RdL K0 Rk) t (K0+j):=afp h.ct (λk _ _ l c=>by
   obtain⟨d,rfl,c⟩:=c;by_cases e:d=κ
   .subst e;rw[pi] at c;rcases c with c|c
    .have:In (O d) l\/In (λb=>B<=b) l:=by
      cases l<;>first|exact w _ c|exact c.elim
     rcases this with x|x
     .exact .inl ⟨d,rfl,.inl x⟩
     .exact .inr λi a G e=>afr h.seen G (λb p=>p) (e▸x)
    .exact .inl ⟨d,rfl,.inr c⟩
   .rw[qf O _ e] at c;exact .inl ⟨d,rfl,c⟩) (λk _ _ l c=>by
   obtain⟨d,rfl,c⟩:=c;refine⟨d,rfl, ?_⟩;by_cases e:d=κ
   .subst e;rw[pi];exact c.imp (In.mono E) id
   .rw[qf O _ e];exact c) (λ_ _ _ _=>Iff.rfl)
 refine⟨u.appW A (by omega) (by omega) y,h.norel.app (norel_of q),by rw[qC t (by omega) _ n,h.deaf0],λd m=> ?_,λd m g=> ?_,seen_app (abN h.seen H) v,
  aaX h.over λop f=>.inr (.inl (by rw[n op f];omega)),nS h.known λop f=>.inr (.inl (by rw[n op f];omega))⟩
 .by_cases e:d=κ
  .subst e;rw[Deaf_own,h.deafW d m,pi];exact s
  .rw[qC t (by omega) _ n,h.deafW d m,qf D _ e]
 .by_cases e:d=κ
  .subst e;rw[pi] at g;exact hrel g
  .rw[qf D _ e] at g;obtain⟨r,F,p⟩:=h.rel d m g;exact⟨r,F.appOther n (by omega),p.app λop f z=>by rw[n op f] at z;omega⟩
def TI.app0 (h:TI Wg C K0 aT j t D O Rk d0 B) (n:B<=B') (A:Apart (Shr Wg aT) (aaa C K0 O) (RdL K0 Rk))   
  (g:∀op∈MemOp.ofEvents 0 fn pos es,Ok0 (Shr Wg aT) (aaa C K0 O) (RdL K0 Rk) (K0+j) op) (i:∀e∈es,e.loc ≠ .mark (.release (stA Wg))) (k:∀op∈MemOp.ofEvents 0 fn pos es,op.act.low B') :
  TI Wg C K0 aT j (t++MemOp.ofEvents 0 fn pos es) D O Rk (deafBehind d0 es) B':=by
 have b:∀op∈MemOp.ofEvents 0 fn pos es,op.g=0:=g_of_ofEvents;refine⟨h.ct.app0 A g,h.norel.app (norel_of i),by rw[Deaf_own,h.deaf0],λd c=>by rw[qC t (by omega) _ b,h.deafW d c],λd c f=> ?_,seen_app (abN h.seen n) k,
  aaX h.over λop a=>.inl (b op a),nS h.known λop a=>.inl (b op a)⟩
 obtain⟨r,l,m⟩:=h.rel d c f;exact⟨r,l.appOther b (by omega),m.app λop a o=>by rw[b op a] at o;omega⟩
def TI.avp(h:TI Wg C K0 aT j t D O Rk d0 B)(R:i≠0)(T:i<=K0)(I:∀e∈es,e.mute=true) :
  TI Wg C K0 aT j (t++MemOp.ofEvents i fn pos es) D O Rk d0 B:=by
 have n:∀op∈MemOp.ofEvents i fn pos es,op.g=i:=g_of_ofEvents;have u:∀op∈MemOp.ofEvents i fn pos es,op.act.touch?=none:=λop c=>by obtain⟨e,p,rfl⟩:=lc c;exact touch_mute (I e p)
 have g:∀op∈MemOp.ofEvents i fn pos es,op.act.low B:=λop c=>by obtain⟨e,p,rfl⟩:=lc c;exact low_mute (I e p) B
 have old:∀{q:Nat} {a:Touch},touchAt (t++MemOp.ofEvents i fn pos es) q=some a->touchAt t q=some a:=λ{q a} Q=>by
  obtain⟨z,L,m⟩:=touch_of Q;rcases qJ L with⟨_,J⟩|⟨_,G⟩
  .rw[touchAt_of J];exact m
  .rw[u z G] at m;cases m
 have f:∀op∈MemOp.ofEvents i fn pos es,∀b,op.act.touch?=some b->False:=λop c b d=>by rw[u op c] at d;cases d
 refine⟨⟨h.ct.quiet.app λop c x P _=>(f op c x P).elim,λk v F l g=>(h.ct.own k v F l g).app λop c b d _=>(f op c b d).elim,λk v F l g=>(h.ct.rd k v F l g).app λop c b d _ _=>(f op c b d).elim,
   λl H g=>(h.ct.free l H g).app λop c b d _=>(f op c b d).elim,λl H g=>(h.ct.mine l H g).app λop c b d _ _=>(f op c b d).elim,λo=>noRace_append (h.ct.nr o) n λ_ _ _ op c b d _=>(f op c b d).elim,λq op M=> ?_⟩,
  h.norel.app λop c e=> ?_,by rw[qC t (by omega) _ n,h.deaf0],λA y=>by rw[qC t (by omega) _ n,h.deafW A y],λA y E=> ?_,seen_app h.seen g,aaX h.over λop c=>.inr (.inr (u op c)),nS h.known λop c=>.inr (.inr (u op c))⟩
 .rcases qJ M with⟨_,K⟩|⟨_,w⟩
  .exact h.ct.gs q op K
  .rw[n op w];omega
 .obtain⟨s,p,rfl⟩:=lc c;have g:=loc_of_ofEvent e;have:=I s p;obtain⟨loc,wr,S⟩:=s;dsimp only at g;subst g;simp[Event.mute] at this
 .obtain⟨r,N,d⟩:=h.rel A y E;exact⟨r,N.appOther n (by omega),d.app λop c s=>by rw[n op c] at s;omega⟩
def TI.fork(h:TI Wg C K0 aT j t D O Rk 0 B){X:aq}(A:Apart (Shr Wg aT) (aaa C K0 O) (RdL K0 (upd Rk j X))){x y:MemOp}(i:x.g=0/\x.act=.go (K0+j+1))(g:y.g=K0+j+1/\y.act=.start) :
  TI Wg C K0 aT (j+1) (t++#[x,y]) (upd D j ⟨7,m',0⟩) O (upd Rk j X) 0 B:=by
 have n:∀op∈#[x,y],op=x\/op=y:=by intro op b;simpa using b
 have m:∀op∈#[x,y],op.act ≠ .mark .disable/\op.act ≠ .mark .enable:=by
  intro op b;rcases n op b with rfl|rfl
  .rw[i.2];exact⟨by simp,by simp⟩
  .rw[g.2];exact⟨by simp,by simp⟩
 have q:∀op∈#[x,y],op.act.touch?=none:=by
  intro op b;rcases n op b with rfl|rfl
  .rw[i.2];rfl
  .rw[g.2];rfl
 have p:CT (Shr Wg aT) (aaa C K0 O) (RdL K0 (upd Rk j X)) t (K0+j):=afp h.ct (λ_ _ _ _ d=>.inl d) (λ_ _ _ _ d=>d) (λk _ G l=>by
  constructor
  .rintro⟨c,rfl,d⟩;rw[qf Rk _ (by omega)] at d;exact⟨c,rfl,d⟩
  .rintro⟨c,rfl,d⟩;exact⟨c,rfl,by rw[qf Rk _ (by omega)];exact d⟩)
 refine⟨?_,h.norel.app λop b=> ?_,by rw[Deaf_still t 0 _ m,h.deaf0],λc v=> ?_,λc v o=> ?_,seen_app h.seen λop b=> ?_,aaX h.over λop b=>.inr (.inr (q op b)),nS h.known λop b=>.inr (.inr (q op b))⟩
 .have:=p.fork A i g h.deaf0
  rwa [tK] at this
 .rcases n op b with rfl|rfl
  .rw[i.2];simp
  .rw[g.2];simp
 .rw[Deaf_still t _ _ m];rcases mx c j with f|u
  .rw[h.deafW c f,qf D _ (by omega)]
  .obtain rfl:c=j:=by omega
   rw[pi];exact Deaf_absent λa op F e=>by have:=h.ct.gs a op F;omega
 .rcases mx c j with f|u
  .rw[qf D _ (by omega)] at o;obtain⟨r,E,w⟩:=h.rel c f o;refine⟨r,E.appNot λop b=> ?_,w.app λop b H z s=>by rw[q op b] at s;cases s⟩;rcases n op b with rfl|rfl
   .rw[i.1];omega
   .rw[g.1];omega
  .obtain rfl:c=j:=by omega
   rw[pi] at o;simp at o
 .rcases n op b with rfl|rfl
  .rw[i.2];trivial
  .rw[g.2];trivial
def TI.join(h:TI Wg C K0 aT j t D O Rk 0 B)(P:∀d,d<j->(D d).stage<=6)(A:Apart (Shr Wg aT) (aaa C K0 O) (RdL K0 Rk))(fn:FuncId)(pos:String)(N:Wg<B) :
  dU (λb=>b=Wg\/aT b) (K0+j) B (t++MemOp.ofEvents 0 fn pos #[Go.ConcR.mk (.acquire (stA Wg))]):=by
 have I:MemOp.ofEvents 0 fn pos #[Go.ConcR.mk (.acquire (stA Wg))]=#[{g:=0,fn,pos,act:=.mark (.acquire (stA Wg))}]:=by rw[ofEvents_eq];simp[ofEvent_mk]
 have E:(t++#[({g:=0,fn,pos,act:=.mark (.acquire (stA Wg))}:MemOp)])[t.size]?=some {g:=0,fn,pos,act:=.mark (.acquire (stA Wg))}:=by simp
 have f:=h.app0 (ap B) A (fn:=fn) (pos:=pos) (es:=#[Go.ConcR.mk (.acquire (stA Wg))]) (λop a=>by
   rw[I] at a;simp at a;subst a;exact⟨rfl,λx v=>by simp[MemAct.touch?] at v⟩) (by intro e l;simp at l;subst l;simp[Go.ConcR.mk]) (λop a=>by
   rw[I] at a;simp at a;subst a;exact N)
 rw[I] at f ⊢;have F:(t++#[({g:=0,fn,pos,act:=.mark (.acquire (stA Wg))}:MemOp)]).act? t.size=some (.mark (.acquire (stA Wg))):=by rw[act?_of E]
 have n:(t++#[({g:=0,fn,pos,act:=.mark (.acquire (stA Wg))}:MemOp)]).g? t.size=some 0:=by simp[Trace.g?]
 have H:(t++#[({g:=0,fn,pos,act:=.mark (.acquire (stA Wg))}:MemOp)]).heard t.size:=⟨0,n,by rw[deaf_old (ap _)];exact h.deaf0⟩;have q:∀d,d<j->∃r,RelBy (stA Wg) (t++#[({g:=0,fn,pos,act:=.mark (.acquire (stA Wg))}:MemOp)]) (K0+1+d) r/\lL Wg aT (t++#[({g:=0,fn,pos,act:=.mark (.acquire (stA Wg))}:MemOp)]) (K0+1+d) r/\
   HappensBefore (t++#[({g:=0,fn,pos,act:=.mark (.acquire (stA Wg))}:MemOp)]) r t.size:=λd J=>by
  obtain⟨r,o,s⟩:=h.rel d J (P d J);have G:=lt_of_act? o.act;have m:RelBy (stA Wg) (t++#[({g:=0,fn,pos,act:=.mark (.acquire (stA Wg))}:MemOp)]) (K0+1+d) r:=o.appNot λop a=>by simp at a;subst a;show 0≠_;omega
  exact⟨r,m,s.app λop a e=>by simp at a;subst a;have:(0:Nat)=K0+1+d:=e;omega,.single (.inr ⟨.marked G (.inr m.act) F (λk _ _=>f.norel k),m.heard,H⟩)⟩
 refine⟨f.ct.nr,λi op x p v L=> ?_,f.ct.quiet,λi g u z M=> ?_,by rw[f.deaf0];rfl,f.seen,λop a=> ?_⟩
 .rcases mx K0 op.g with y|w
  .obtain⟨d,K⟩:∃d,op.g=K0+1+d:=⟨op.g-(K0+1),by omega⟩;have:=f.ct.gs i op p;obtain⟨r,o,s,l⟩:=q d (by omega);rcases tA r i with c|c|c
   .exact absurd (s i op x c p K v) L
   .subst c;exact⟨t.size,_,E,rfl,.inr l⟩
   .exact⟨t.size,_,E,rfl,.inr (.trans (.single (.inl ⟨c,_,by simp only[Trace.g?,p,pU];rw[K],o.g⟩)) l)⟩
  .exact f.known i op x p w v L
 .rcases mx K0 g with y|w
  .obtain⟨d,rfl⟩:∃d,g=K0+1+d:=⟨g-(K0+1),by omega⟩;obtain⟨op,p,R⟩:=ga.1 u;have:=f.ct.gs i op p;obtain⟨r,o,s,l⟩:=q d (by omega);rcases tA r i with c|c|c
   .exact absurd M (o.after i c u)
   .subst c;exact⟨t.size,n,l⟩
   .exact⟨t.size,n,.trans (.single (.inl ⟨c,_,u,o.g⟩)) l⟩
  .exact f.over i g u z w M
 .obtain⟨i,Q⟩:=uP.1 a;exact f.ct.gs i op Q
def TI.begin(h:dU aT K0 B t)(E:∀(i:Nat) (x:Touch),touchAt t i=some x->∀a,x.loc=.cell a->a.block≠Wg)(A:NoRelease (stA Wg) t):TI Wg C K0 aT 0 t D O Rk 0 B:=by
 have j:∀k,k<=K0->∀l,¬aaa C K0 O k l:=λk H l ⟨q,e,_⟩=>by omega
 have y:∀(i:Nat) (x:Touch),touchAt t i=some x->Shr Wg aT x.loc->ShL aT x.loc:=λi x f ⟨a,e,h⟩=>⟨a,e,h.resolve_left (E i x f a e)⟩;have s:∀l,¬Shr Wg aT l->Perm t 0 l:=λl n i a F e=>by
  obtain⟨op,d,r⟩:=touch_of F;exact h.known i op a d r λ⟨b,p,c⟩=>n (e▸⟨b,p,.inr c⟩)
 refine⟨⟨λi op x d f c=>h.quiet i op x d f (y i x (by rw[touchAt_of d];exact f) c),λk v u l n=>absurd n (j k u l),λk v u l ⟨q,e,_⟩=>by omega,λl c _=>s l c,λl c _=>.of (s l c),h.clean,λi op d=>h.gs op (pS d)⟩,
  A,h.hears,λq w=>by omega,λq w=>by omega,h.seen,λi g z m _ G=>h.over i g z m G,λi op x d _ f c=>h.known i op x d f λ⟨b,p,o⟩=>c ⟨b,p,.inr o⟩⟩
end
end
section
open Go.Conc Go.ConcN
open Go.ConcR (KK wgBlock WgAt stA smA rd wr mk Payload DC0 Bk g_of_ofEvents ofEvent_mk ofEvent_loc_mark loc_of_ofEvent bk_of_mute again_blocked)
variable [Payload]
section
variable {P:Program} {ty:TypeId} {Wg C n:Nat} {val:Nat->Value} {κ s m d:Nat} {R S:aq} {T:iE} {g:Goroutine} {w w':World}
def WK.rely(h:WK P ty Wg C n val κ R s m d T S g w)(b:iN ty Wg C (2*n) R (dw κ) S w w'):WK P ty Wg C n val κ R s m d T S g w':=by
 cases h with
 |work h=>
  have a:∀S x y z,iN ty Wg C (2*n) R (dw κ) S x y->iN ty Wg C (2*n) R (dw κ) S y z->iN ty Wg C (2*n) R (dw κ) S x z:=λ_ _ _ _ e c=>e.trans c;exact .work (nR.rely a h b)
 |rest f h=>exact .rest f (h.rely (by rw[Nat.add_sub_cancel];exact b.rw (i:=2*κ) (by unfold dw;omega)))
def WK.status(h:WK P ty Wg C n val κ R s m d T S g w):g.status=.running\/g.status=.finished:=by
 cases h with
 |work h=>exact .inl (nR.running (λ_ _ _ x=>x.1.1) (λ_ _=>iN.refl _ _ _ _) h)
 |rest a h=>exact h.status
def WK.woken(h:WK P ty Wg C n val κ R s m d T S g w)(a b:Goroutine)(w':World):woken P a b w' g=g:=by
 unfold Go.Conc.woken;split
 .exact again_running _ h.status
 .rfl
def WK.running_of(h:WK P ty Wg C n val κ R s m d T S g w)(a:s≠1):g.status=.running:=by
 cases h with
 |work h=>exact nR.running (λ_ _ _ x=>x.1.1) (λ_ _=>iN.refl _ _ _ _) h
 |rest _ h=>exact h.running_of a
end
section
variable {P:Program} {ty:TypeId} {Wg C n:Nat} {val:Nat->Value} {aP Fin:aq->aq->Goroutine->World->Prop} {tag:CTag} {j f d:Nat} {R S:aq} {T:iE} {a:Goroutine} {w w':World}
def eB.rely(h:eB P ty Wg C n val aP Fin tag j R S T f d a w)(b:RM ty Wg C n R S w w'):eB P ty Wg C n val aP Fin tag j R S T f d a w':=by
 have c:∀x y z,RM ty Wg C n R S x y->RM ty Wg C n R S y z->RM ty Wg C n R S x z:=λ_ _ _ m l=>m.trans l;have e:∀S x y z,iN ty Wg C (2*n) R noC S x y->iN ty Wg C (2*n) R noC S y z->iN ty Wg C (2*n) R noC S x z:=λ_ _ _ _ m l=>m.trans l;cases h with
 |skd g h=>exact .skd g (nR.rely e h b)
 |sa1 g h=>exact .sa1 g (sF c h b)
 |ske g h=>exact .ske g (sF c h b)
 |sgo g h=>exact .sgo g (nR.rely e h b)
 |kd h=>exact .kd (nR.rely e h b)
 |anch h=>exact .anch (sF c h b)
 |w1 h=>exact .w1 (sF c h b)
 |w2 h=>exact .w2 (sF c h b)
 |w3 h=>exact .w3 (sF c h b)
 |blk h=>exact .blk (λk i=>h k (b.trans i))
 |w4 h=>exact .w4 (sF c h b)
 |ke h=>exact .ke (sF c h b)
 |acq h=>exact .acq (sF c h b)
def eB.status(c:∀R S g w,aP R S g w->g.status=.running)(h:eB P ty Wg C n val aP Fin tag j R S T f d a w):(a.status=.running/\tag ≠ .blk)\/(a.status=.blocked/\tag=.blk):=by
 have b:RM ty Wg C n R S w w:=.refl _ _ _ _;cases h with
 |skd _ h=>exact .inl ⟨nR.running (λ_ _ _ x=>x.1) (λ_ _=>iN.refl _ _ _ _) h,by simp⟩
 |sa1 _ h=>exact .inl ⟨rJ (λ_ _ x=>x.1) w b h,by simp⟩
 |ske _ h=>exact .inl ⟨rJ (λ_ _ x=>x.1) w b h,by simp⟩
 |sgo _ h=>exact .inl ⟨nR.running (λ_ _ _ x=>x.1) (λ_ _=>iN.refl _ _ _ _) h,by simp⟩
 |kd h=>exact .inl ⟨nR.running (λ_ _ _ x=>x.1) (λ_ _=>iN.refl _ _ _ _) h,by simp⟩
 |anch h=>exact .inl ⟨rJ (c _ _) w b h,by simp⟩
 |w1 h=>exact .inl ⟨rJ (λ_ _ x=>x.1) w b h,by simp⟩
 |w2 h=>exact .inl ⟨rJ (λ_ _ x=>x.1) w b h,by simp⟩
 |w3 h=>exact .inl ⟨rJ (λ_ _ x=>x.1) w b h,by simp⟩
 |blk h=>exact .inr ⟨rfl,rfl⟩
 |w4 h=>exact .inl ⟨rJ (λ_ _ x=>x.1) w b h,by simp⟩
 |ke h=>exact .inl ⟨rJ (λ_ _ x=>x.1) w b h,by simp⟩
 |acq h=>exact .inl ⟨rJ (λ_ _ x=>x.1) w b h,by simp⟩
def eB.wokenBy(i:∀R S g w,aP R S g w->g.status=.running)(h:eB P ty Wg C n val aP Fin tag j R S T f d a w)(p:RM ty Wg C n R S w w')(g g':Goroutine) :
  ∃c k,eB P ty Wg C n val aP Fin c j R S T k d (woken P g g' w' a) w'/\k<=f+1/\(c=tag\/(tag=.blk/\c=.w3))/\(mayWake P g=true->g'.status=.running->c ≠ .blk):=by
 have b:=h.rely p;unfold Go.Conc.woken;split
 .rcases b.status i with⟨q,e⟩|⟨_,rfl⟩
  .exact⟨tag,f,by rw[again_running _ (.inl q)];exact b,by omega,.inl rfl,λ_ _=>e⟩
  .cases b with
   |blk m=>
    rename_i t;have l:=m w' (.refl _ _ _ _);exact⟨.w3,0+1,by rw[again_blocked l.1 l.2.1];exact .w3 (pR m),by omega,.inr ⟨rfl,rfl⟩,λ_ _=>by simp⟩
 .rename_i s;exact⟨tag,f,b,by omega,.inl rfl,λr o=>absurd (by simp[r,o]) s⟩
def eB.bound(h:eB P ty Wg C n val aP Fin tag j R S T f d a w):j+pend tag<=n:=by
 cases h<;>simp only[pend]<;>(try simp)<;>omega
end
section
variable (P:Program) (ty:TypeId) (Wg C n K0:Nat) (val:Nat->Value) (aT:aq) (aP Fin:aq->aq->Goroutine->World->Prop)
structure MI (j:Nat) (gs:Array Goroutine) (w:World) (t:Trace) (D:Nat->WD) (TV:Nat->iE) (R S:aq) (O Rk:Nat->aq) (q:Nat->Nat) (d0:Nat):Prop where
 size:gs.size=K0+1+j
 old:∀i g,0<i->i<=K0->gs[i]?=some g->QuitsD P (q i) (Deaf t i) g
 wk:∀κ,κ<j->∃g,gs[K0+1+κ]?=some g/\WK P ty Wg C n val κ (Rk κ) (D κ).stage (D κ).fuel (D κ).deaf (TV (κ+1)) (O κ) g w
 ti:TI Wg C K0 aT j t D O Rk d0 w.heap.size
 bV:Sets Wg C aT w R S O Rk
 has:∀κ,κ<j->(D κ).stage<=6->Has C (2*κ) (val (2*κ)) w/\Has C (2*κ+1) (val (2*κ+1)) w
 pay:PayAt C (2*n) w
 unO:∀κ,j<=κ->O κ=λ_=>False
def oq(μ:Mu)(m:Machine)(t:Trace):Prop:=
 ∃(d:Array Goroutine) (w:World) (sl:Option (Nat×Nat)) (j:Nat) (D:Nat->WD) (c:Nat->iE) (R S:aq) (O k:Nat->aq) (q:Nat->Nat) (b:CTag) (i e:Nat) (a:Goroutine) (g f:Int),
  m=crowd d w sl/\d[0]?=some a/\eB P ty Wg C n val aP Fin b j R S (c 0) i e a w/\MI P ty Wg C n K0 val aT j d w t D c R S O k q e/\WgAt ty Wg w g f/\ConcN.Mode j D b g f/\
  μ=(phi n (Vc j D) b+Ssum j D,(c,i+2*Fsum j D+2*sumTo (K0+1) q))
def al7(m:Machine)(t:Trace):Prop:=
 ∃(d:Array Goroutine) (w:World) (sl:Option (Nat×Nat)) (a:Goroutine) (q:Nat->Nat) (R S:aq),
  m=crowd d w sl/\d[0]?=some a/\d.size=K0+1+n/\Fin R S a w/\Leavers P t d q/\dU (λb=>b=Wg\/aT b) (K0+n) w.heap.size t/\PayAt C (2*n) w/\(∀c,c<n->Has C (2*c) (val (2*c)) w/\Has C (2*c+1) (val (2*c+1)) w)/\WgLive ty Wg w/\
  (∀b,aT b\/b=Wg->¬R b/\¬S b/\b≠C/\b<w.heap.size)
end
section
variable {P:Program} {ty:TypeId} {Wg C n K0:Nat} {val:Nat->Value} {aT:aq} {aP Fin:aq->aq->Goroutine->World->Prop}
 {gs:Array Goroutine} {w w':World} {sl:Option (Nat×Nat)} {j:Nat} {D:Nat->WD} {TV:Nat->iE} {R S:aq} {O Rk:Nat->aq} {q:Nat->Nat} {tag:CTag} {f0 d0:Nat} {a:Goroutine} {t:Trace} {st sm:Int}
omit [Payload] in
def ahZ{a:Type}(f:Nat->a)(i:Nat):upd f i (f i)=f:=by
 funext x
 by_cases e:x=i
 .subst e;rw[pi]
 .rw[qf f _ e]
def MI.at(h:MI P ty Wg C n K0 val aT j gs w t D TV R S O Rk q d0)(d:Nat):MI P ty Wg C n K0 val aT j gs (w.at d) t D TV R S O Rk q d0:=
 ⟨h.size,h.old,λc a=>let⟨g,b,e⟩:=h.wk c a;⟨g,b,e.rely (.at _ _ _ w d)⟩,h.ti,h.bV.at d,h.has,h.pay,h.unO⟩
def mX (a3:∀R S g w,aP R S g w->g.status=.running) (ha:gs[0]?=some a) (F:eB P ty Wg C n val aP Fin tag j R S (TV 0) f0 d0 a w) (m:MI P ty Wg C n K0 val aT j gs w t D TV R S O Rk q d0)
  (N:κ<j) {g' : Goroutine} {s' : Nat} {T':iE} {E:aq} {A u:Int} (hg:gs[K0+1+κ]?=some g) (a6:stepG P false g w=.go g' w' es)
  (p:RM ty Wg C n R S w w') (I:∀c,c<j->c≠κ->iN ty Wg C (2*n) (Rk c) (dw c) (O c) w w')
  (U:WK P ty Wg C n val κ (Rk κ) s' m' Z T' E g' w') (hO:∀b,O κ b->E b) (K:∀b,E b->O κ b\/(w.heap.size<=b/\b<w'.heap.size))
  (a0:∀op∈MemOp.ofEvents (K0+1+κ) g.frame.fn g.frame.place es,OkW (Shr Wg aT) (aaa C K0 (upd O κ E)) (RdL K0 Rk) (K0+1+κ) op) (W:∀e∈es,e.loc ≠ .mark (.release (stA Wg)))
  (a4:deafBehind (D κ).deaf es=Z) (X:∀op∈MemOp.ofEvents (K0+1+κ) g.frame.fn g.frame.place es,op.act.low w'.heap.size)
  (hrel:s'<=6->∃r,RelBy (stA Wg) (t++MemOp.ofEvents (K0+1+κ) g.frame.fn g.frame.place es) (K0+1+κ) r/\lL Wg aT (t++MemOp.ofEvents (K0+1+κ) g.frame.fn g.frame.place es) (K0+1+κ) r)
  (a1:s'<=6->Has C (2*κ) (val (2*κ)) w'/\Has C (2*κ+1) (val (2*κ+1)) w') (a5:PayAt C (2*n) w') (eA:WgAt ty Wg w' A u)
  (aZ:∀o,(o=tag\/(tag=.blk/\o=.w3))->(mayWake P g=true->g'.status=.running->o ≠ .blk)->ConcN.Mode j (upd D κ ⟨s',m',Z⟩) o A u)
  (a2:(s'<(D κ).stage/\cnt ⟨s',m',Z⟩<=cnt (D κ))\/(s'=(D κ).stage/\iE.Lt T' (TV (κ+1)))\/(s'=(D κ).stage/\T'=TV (κ+1)/\m'+1=(D κ).fuel)) :
  ∃l J kH,runT P (crowd gs w sl) (K0+1+κ)=(.next l,J)/\pD (n+1) kH (phi n (Vc j D) tag+Ssum j D,(TV,f0+2*Fsum j D+2*sumTo (K0+1) q))/\oq P ty Wg C n K0 val aT aP Fin kH l (t++J):=by
 obtain⟨o,f',mY,a7,G,Y⟩:=F.wokenBy a3 p g g';have s:(K0+1+κ ==0)=false:=by simp
 have B:=su (P:=P) (sl:=sl) (i:=K0+1+κ) hg (by rw[s];exact a6);have e1:=sumTo_upd D (⟨s',m',Z⟩:WD) cnt N;have e2:=sumTo_upd D (⟨s',m',Z⟩:WD) WD.stage N;have e3:=sumTo_upd D (⟨s',m',Z⟩:WD) WD.fuel N;have hb:=F.bound;have H:=m.bV.aw4 (w':=w') p.size K;refine⟨_,_,(phi n (Vc j (upd D κ ⟨s',m',Z⟩)) o+Ssum j (upd D κ ⟨s',m',Z⟩),(upd TV (κ+1) T',f'+2*Fsum j (upd D κ ⟨s',m',Z⟩)+2*sumTo (K0+1) q)),B, ?_,
  _,w',sl,j,upd D κ ⟨s',m',Z⟩,upd TV (κ+1) T',R,S,upd O κ E,Rk,q,o,f',d0,woken P g g' w' a,A,u,rfl,by rw[rX _ _ _ _ (by omega),ha];rfl,by rw[qf TV _ (by omega)];exact mY, ?_,eA,aZ o G Y,rfl⟩
 .rw[phi_retag n _ G];simp only[Vc,Ssum,Fsum] at *;rcases a2 with⟨T,M⟩|⟨T,M⟩|⟨T,M,h3⟩
  .refine Prod.Lex.left _ _ ?_;have:=phi_mono n (v':=sumTo j λa=>cnt (upd D κ ⟨s',m',Z⟩ a)) (v:=sumTo j λa=>cnt (D a)) (by omega) tag;omega
  .have ec:cnt (⟨s',m',Z⟩:WD)=cnt (D κ):=by simp only[cnt,T]
   have V:(sumTo j λa=>cnt (upd D κ ⟨s',m',Z⟩ a))=sumTo j λa=>cnt (D a):=by omega
   have z:(sumTo j λa=>(upd D κ ⟨s',m',Z⟩ a).stage)=sumTo j λa=>(D a).stage:=by omega
   rw[V,z];refine Prod.Lex.right _ (Prod.Lex.left _ _ ⟨κ+1,by omega,by rw[pi];exact M,λk hk=>qf TV _ hk⟩)
  .have ec:cnt (⟨s',m',Z⟩:WD)=cnt (D κ):=by simp only[cnt,T]
   have V:(sumTo j λa=>cnt (upd D κ ⟨s',m',Z⟩ a))=sumTo j λa=>cnt (D a):=by omega
   have z:(sumTo j λa=>(upd D κ ⟨s',m',Z⟩ a).stage)=sumTo j λa=>(D a).stage:=by omega
   rw[V,z,M,ahZ];refine Prod.Lex.right _ (Prod.Lex.right _ ?_);omega
 .refine⟨by simp[m.size],λi x s hi Q=> ?_,λc d=> ?_,m.ti.appW p.size N H.apart hO (λb x=>(K b x).imp id (·.1)) a0 W a4 X hrel,H,λc d f=> ?_,a5,λc d=>by rw[qf O _ (by omega)];exact m.unO c d⟩
  .rw[rX _ _ _ _ (by omega)] at Q;obtain⟨y,hy,rfl⟩:=ga.1 Q;have hq:=m.old i y s hi hy;rw[sb hq,qC t (by omega) _ g_of_ofEvents];exact hq
  .by_cases e:c=κ
   .subst e;exact⟨g',tP _ _ _ (by rw[m.size];omega),by rw[pi,pi,pi];exact U⟩
   .obtain⟨x,Q,L⟩:=m.wk c d;refine⟨x,by rw[rX _ _ _ _ (by omega),Q,pU,L.woken], ?_⟩;rw[qf D _ e,qf TV _ (by omega),qf O _ e];exact L.rely (I c d e)
  .by_cases e:c=κ
   .subst e;rw[pi] at f;exact a1 f
   .rw[qf D _ e] at f;have hh:=m.has c d f;have hr:=I c d e;exact⟨(hr.cell (2*c) (by unfold dw;omega)).trans hh.1,(hr.cell (2*c+1) (by unfold dw;omega)).trans hh.2⟩
def iO (ha:gs[0]?=some a) (d:MI P ty Wg C n K0 val aT j gs w t D TV R S O Rk q d0)
  {dB:CTag} {f':Nat} {T':iE} {J:aq} {m l:Int} (I:stepG P true a w=.go g w' es)
  (T:w.heap.size<=w'.heap.size) (p:∀c,c<j->iN ty Wg C (2*n) (Rk c) (dw c) (O c) w w') (H:∀b,J b->S b\/(w.heap.size<=b/\b<w'.heap.size))
  (K:∀op∈MemOp.ofEvents 0 a.frame.fn a.frame.place es,Ok0 (Shr Wg aT) (aaa C K0 O) (RdL K0 Rk) (K0+j) op) (B:∀e∈es,e.loc ≠ .mark (.release (stA Wg))) (G:∀op∈MemOp.ofEvents 0 a.frame.fn a.frame.place es,op.act.low w'.heap.size)
  (F:PayAt C (2*n) w') (X:eB P ty Wg C n val aP Fin dB j R J T' f' (deafBehind d0 es) g w') (Y:WgAt ty Wg w' m l) (aZ:ConcN.Mode j D dB m l)
  (z:phi n (Vc j D) dB<phi n (Vc j D) tag\/(phi n (Vc j D) dB=phi n (Vc j D) tag/\(iE.Lt T' (TV 0)\/(T'=TV 0/\f'<f0)))) :
  ∃f r Q,runT P (crowd gs w sl) 0=(.next f,r)/\pD (n+1) Q (phi n (Vc j D) tag+Ssum j D,(TV,f0+2*Fsum j D+2*sumTo (K0+1) q))/\oq P ty Wg C n K0 val aT aP Fin Q f (t++r):=by
 have s:=su (P:=P) (sl:=sl) (i:=0) ha (by simpa using I);have E:=d.bV.aue (w':=w') T H;refine⟨_,_,(phi n (Vc j D) dB+Ssum j D,(upd TV 0 T',f'+2*Fsum j D+2*sumTo (K0+1) q)),s, ?_,
  _,w',sl,j,D,upd TV 0 T',R,J,O,Rk,q,dB,f',deafBehind d0 es,g,m,l,rfl,tP _ _ _ (by rw[d.size];omega),by rw[pi];exact X, ?_,Y,aZ,rfl⟩
 .rcases z with h|⟨N,h|⟨W,h3⟩⟩
  .exact Prod.Lex.left _ _ (by omega)
  .rw[N];exact Prod.Lex.right _ (Prod.Lex.left _ _ ⟨0,by omega,by rw[pi];exact h,λk Z=>qf TV _ Z⟩)
  .rw[N,W,ahZ];exact Prod.Lex.right _ (Prod.Lex.right _ (by omega))
 .refine⟨by simp[d.size],λi x L hi v=> ?_,λc o=> ?_,d.ti.app0 T d.bV.apart K B G,E,λc o A=> ?_,F,d.unO⟩
  .rw[rX _ _ _ _ (by omega)] at v;obtain⟨y,hy,rfl⟩:=ga.1 v;have M:=d.old i y L hi hy;rw[sb M,qC t (by omega) _ g_of_ofEvents];exact M
  .obtain⟨x,v,u⟩:=d.wk c o;refine⟨x,by rw[rX _ _ _ _ (by omega),v,pU,u.woken], ?_⟩;rw[qf TV _ (by omega)];exact u.rely (p c o)
  .have U:=d.has c o A;have V:=p c o;exact⟨(V.cell (2*c) (by unfold dw;omega)).trans U.1,(V.cell (2*c+1) (by unfold dw;omega)).trans U.2⟩
def apC (E:∀R S g w,aP R S g w->g.status=.running) (ha:gs[0]?=some a) (z:eB P ty Wg C n val aP Fin tag j R S (TV 0) f0 d0 a w) (c:MI P ty Wg C n K0 val aT j gs w t D TV R S O Rk q d0) (V:WgAt ty Wg w st sm) (aZ:ConcN.Mode j D tag st sm)
  (l:0<i) (L:i<=K0) (H:gs[i]?=some g) (b:g.status=.running) :
  ∃d p I,runT P (crowd gs w sl) i=(.next d,p)/\pD (n+1) I (phi n (Vc j D) tag+Ssum j D,(TV,f0+2*Fsum j D+2*sumTo (K0+1) q))/\oq P ty Wg C n K0 val aT aP Fin I d (t++p):=by
 have u:=c.old i g l L H;cases f:q i with
 |zero=>rw[f] at u;rw[u.1] at b;cases b
 |succ k=>
  rw[f] at u;rcases u with⟨Y,_⟩|⟨_,J,es,hm,v,G⟩
  .rw[Y] at b;cases b
  have A:(i ==0)=false:=by simp;omega
  have B:=su (P:=P) (sl:=sl) (i:=i) H (by rw[A];exact v w);obtain⟨M,K,T,X,o,Z⟩:=z.wokenBy E (.refl _ _ _ w) g J;have Q:sumTo (K0+1) (upd q i k)+(k+1)=sumTo (K0+1) q+k:=by
   have:=sumTo_upd q k id (show i<K0+1 by omega);simpa[f] using this
  refine⟨_,_,(phi n (Vc j D) M+Ssum j D,(TV,K+2*Fsum j D+2*sumTo (K0+1) (upd q i k))),B, ?_,
   _,w,sl,j,D,TV,R,S,O,Rk,upd q i k,M,K,d0,woken P g J w a,st,sm,rfl,by rw[rX _ _ _ _ (by omega),ha];rfl,T, ?_,V,aZ.retag o,rfl⟩
  .rw[phi_retag n _ o];exact Prod.Lex.right _ (Prod.Lex.right _ (by omega))
  .refine⟨by simp[c.size],λN x l F m=> ?_,λW U=> ?_,c.ti.avp (by omega) L hm,c.bV,c.has,c.pay,c.unO⟩
   .by_cases e:i=N
    .subst e;rw[tP _ _ _ (by rw[c.size];omega)] at m;obtain rfl:=de m;rw[pi,Deaf_own];exact G
    .rw[rX _ _ _ _ e] at m;obtain⟨y,hy,rfl⟩:=ga.1 m;have r:=c.old N y l F hy;rw[sb r,qf q k (rY e),qC t e _ g_of_ofEvents];exact r
   .obtain⟨x,m,s⟩:=c.wk W U;exact⟨x,by rw[rX _ _ _ _ (by omega),m,pU,s.woken],s⟩
end
end
section
open Go.Conc Go.ConcN
open Go.ConcR (KK wgBlock WgAt stA smA rd wr mk Payload DC0 Bk g_of_ofEvents ofEvent_mk ofEvent_loc_mark loc_of_ofEvent bk_of_mute again_blocked)
section
variable {Wg C K0:Nat} {aT:aq}
def aka{l:Loc}(h:ShN Wg l):Shr Wg aT l:=let⟨a,e,h⟩:=h;⟨a,e,.inl h⟩
def ah0(h:Bk Wg e)(b:(MemAct.ofEvent e).touch?=some x):Shr Wg aT x.loc:=by
 rcases h with h|h|⟨a,wr,rfl,c⟩
 .rw[ofEvent_loc_mark h] at b;cases b
 .rw[ofEvent_loc_mark h] at b;cases b
 .simp[MemAct.ofEvent,MemAct.touch?] at b;subst b;exact⟨a,rfl,.inl c⟩
def avr(h:Bk Wg e)(b:Wg<B):(MemAct.ofEvent e).low B:=by
 rcases h with h|h|⟨a,wr,rfl,c⟩
 .rw[ofEvent_loc_mark h];trivial
 .rw[ofEvent_loc_mark h];trivial
 .show a.block<B;omega
def avs{Rd : Nat->Loc->Prop}(h:∀e∈es,Bk Wg e):∀op∈MemOp.ofEvents k fn pos es,OkW (Shr Wg aT) Own Rd k op:=λop c=>
 let⟨g,d⟩:=okW_of_Bk (Own:=Own) (Rd:=Rd) h op c;⟨g,λx f=>(d x f).imp (λ⟨a,b⟩=>⟨aka a,b⟩) id⟩
def apD{Rd : Nat->Loc->Prop}{j:Nat}(h:∀e∈es,Bk Wg e):∀op∈MemOp.ofEvents 0 fn pos es,Ok0 (Shr Wg aT) Own Rd j op:=λop c=>by
 obtain⟨e,d,rfl⟩:=lc c;exact⟨rfl,λx b=>.inl ⟨ah0 (h e d) b,by
  rcases h e d with h|h|⟨a,wr,rfl,f⟩
  .simp only[ofEvent_loc_mark h] at b;cases b
  .simp only[ofEvent_loc_mark h] at b;cases b
  .simp[MemAct.ofEvent,MemAct.touch?] at b;subst b;simp⟩⟩
def asn{R d:aq}{O c:Nat->aq}(k:O κ=d)(j:c κ=R)(h:∀e∈es,EvP Wg C R (dw κ) d B e) :
  ∀op∈MemOp.ofEvents (K0+1+κ) fn pos es,OkW (Shr Wg aT) (aaa C K0 O) (RdL K0 c) (K0+1+κ) op:=λop b=>by
 obtain⟨e,i,rfl⟩:=lc b;refine⟨rfl,λx g=> ?_⟩;rcases(h e i).touch x g with a|a|⟨a,f⟩
 .exact .inr (.inl ⟨κ,rfl,.inl (k▸a)⟩)
 .exact .inr (.inl ⟨κ,rfl,.inr a⟩)
 .exact .inr (.inr ⟨⟨κ,rfl,j▸a⟩,f⟩)
def al8{R c b:aq}{g:Nat}(h:∀e∈es,EvP Wg C R c b B e):∀op∈MemOp.ofEvents g fn pos es,op.act.low B:=λop a=>by
 obtain⟨e,d,rfl⟩:=lc a;exact(h e d).low
def agE(b:Wg<B){g:Nat}(h:∀e∈es,Bk Wg e):∀op∈MemOp.ofEvents g fn pos es,op.act.low B:=λop a=>by
 obtain⟨e,c,rfl⟩:=lc a;exact avr (h e c) b
end
section
variable [Payload] {P:Program} {ty:TypeId} {Wg C n K0:Nat} {val:Nat->Value} {aT:aq} {aP Fin:aq->aq->Goroutine->World->Prop}
 {gs:Array Goroutine} {w w':World} {sl:Option (Nat×Nat)} {j:Nat} {D:Nat->WD} {TV:Nat->iE} {R S:aq} {O Rk:Nat->aq} {q:Nat->Nat} {tag:CTag} {f0 d0:Nat} {a:Goroutine} {t:Trace} {st sm:Int}
def MI.wgO(h:MI P ty Wg C n K0 val aT j gs w t D TV R S O Rk q d0)(d:Aside Wg w w')(a:WgLive ty Wg w')(κ:Nat):iN ty Wg C (2*n) (Rk κ) (dw κ) (O κ) w w':=
 .of_wg d a (λb c e=>by subst e;exact c.elim (h.bV.wo κ) λx=>h.bV.wr (h.bV.rk κ _ x)) h.bV.cw
def MI.wgM(h:MI P ty Wg C n K0 val aT j gs w t D TV R S O Rk q d0)(c:Aside Wg w w')(d:WgLive ty Wg w'):RM ty Wg C n R S w w':=
 .of_wg c d (λb a e=>by subst e;exact a.elim h.bV.ws h.bV.wr) h.bV.cw
def ah1 (hn:n<2147483648) (ao:∀R S g w,aP R S g w->g.status=.running) (N:gs[0]?=some a) (a5:eB P ty Wg C n val aP Fin tag j R S (TV 0) f0 d0 a w) (p:MI P ty Wg C n K0 val aT j gs w t D TV R S O Rk q d0) (H:WgAt ty Wg w st sm) (aZ:ConcN.Mode j D tag st sm)
  (F:κ<j) (hg:gs[K0+1+κ]?=some g) (U:g.status=.running) :
  ∃l E kH,runT P (crowd gs w sl) (K0+1+κ)=(.next l,E)/\pD (n+1) kH (phi n (Vc j D) tag+Ssum j D,(TV,f0+2*Fsum j D+2*sumTo (K0+1) q))/\oq P ty Wg C n K0 val aT aP Fin kH l (t++E):=by
 obtain⟨aV,ay,hs⟩:=p.wk κ F;obtain rfl:g=aV:=by rw[hg] at ay;exact de ay
 have hb:=a5.bound;have bk:=Vc_le j D;have a9:=p.ti.deafW κ F;have hW:=p.bV.wlt;generalize A:(D κ).stage=s at hs;generalize b6:(D κ).fuel=m at hs;generalize a4:(D κ).deaf=dd at hs;rw[a4] at a9;cases hs with
 |work h=>
  rcases h.cases with bN|⟨f,hT,_,d⟩
  .obtain⟨⟨_,a0,u,c,B,hk⟩,b3⟩:=bN w (.refl _ _ _ w);rw[Nat.add_sub_cancel] at a0;have e1:MemOp.ofEvents (K0+1+κ) g.frame.fn g.frame.place #[mk (.releaseMerge (stA Wg))]=#[{g:=K0+1+κ,fn:=g.frame.fn,pos:=g.frame.place,act:=.mark (.releaseMerge (stA Wg))}]:=by rw[ofEvents_eq];simp[ofEvent_mk]
   refine mX (T':=TV (κ+1)) ao N a5 p F hg c (.refl _ _ _ w) (λ_ _ _=>.refl _ _ _ w) (.rest (by omega) (.k1 hk)) (λ_ x=>x) (λ_ x=>.inl x) (λop J=> ?_) (by intro e k;simp at k;subst k;simp[mk]) (by rw[a4];rfl) (λop J=> ?_)
    (λ_=>⟨t.size,RelBy.new a9 _ _,λi op x hi ho _ _=> ?_⟩) (λ_=>⟨a0,b3⟩) p.pay H (λ_ ht _=>(aZ.counted F (by omega) (.inl rfl) _ _).retag ht) (.inl ⟨by omega,by simp[cnt,A]⟩)
   .rw[e1] at J;simp at J;subst J;exact⟨rfl,λx hx=>by simp[MemAct.touch?] at hx⟩
   .rw[e1] at J;simp at J;subst J;exact hW
   .have:=lt_size_of_getElem? ho;rw[e1] at this;simp at this;omega
  .obtain⟨u,w',es,S',c,hG,b8⟩:=d w (.refl _ _ _ w);have Z:Wg<w.heap.size/\¬O κ Wg/\Wg≠C:=⟨hW,p.bV.wo κ,λe=>p.bV.cw e.symm⟩;have b0:WgAt ty Wg w' st sm:=H.of_block (hG.keep Wg Z.1 Z.2.1 Z.2.2);refine mX ao N a5 p F hg c
    (.aj7 hG (λb hb=>hb.elim (λx=>⟨p.bV.slt b x,λy=>p.bV.os κ b y x,λe=>p.bV.cs (e▸x)⟩) λx=>⟨p.bV.rlt b x,λy=>p.bV.orr κ b y x,λe=>p.bV.cr (e▸x)⟩) (λi x=>x.elim) Z)
    (λfw _ ax=>.aj7 hG (λb hb=>hb.elim (λx=>⟨p.bV.olt fw b x,λy=>ax (p.bV.oo fw κ b x y),λe=>p.bV.co fw (e▸x)⟩) λx=>⟨p.bV.rlt b (p.bV.rk fw b x),λy=>p.bV.orr κ b y (p.bV.rk fw b x),λe=>p.bV.cr (e▸p.bV.rk fw b x)⟩) (λi x y=>ax (x.symm.trans y)) Z)
    (.work b8) hG.mono hG.new (asn (by rw[pi]) rfl hG.ev) (λe k=>(hG.ev e k).rel) (by rw[a4];exact sO (λe k=>⟨(hG.ev e k).dis,(hG.ev e k).en⟩) 0) (al8 hG.ev)
    (λh=>by omega) (λh=>by omega) (hG.pay p.pay) b0 (λ_ ht _=>ConcN.Mode.retag (by have:=aZ.same (i:=κ) 0 0;rwa [A] at this) ht) (.inr (.inl ⟨A.symm,by rw[hT];exact⟨f,w,rfl,rfl⟩⟩))
 |rest h6 h=>
  have aI:∀{u:Goroutine} {w':World} {es:Array Event} {V I G:Nat} {W Y:Int},stepG P false g w=.go u w' es->Aside Wg w w'->WgAt ty Wg w' W Y->(∀e∈es,Bk Wg e)->
    (∀jx e,es[jx]?=some e->(MemAct.ofEvent e).touch?=none\/0<deafBehind dd (es.extract 0 jx))->WSit P ty Wg C (2*n) FF FF 0 (2*κ+1) (val (2*κ)) V I G u w'->deafBehind dd es=G->V<=6->
    (∀dB,(dB=tag\/(tag=.blk/\dB=.w3))->(mayWake P g=true->u.status=.running->dB ≠ .blk)->ConcN.Mode j (upd D κ ⟨V,I,G⟩) dB W Y)->((V<s/\cnt ⟨V,I,G⟩<=cnt (D κ))\/(V=s/\I+1=m))->
    ∃l E kH,runT P (crowd gs w sl) (K0+1+κ)=(.next l,E)/\pD (n+1) kH (phi n (Vc j D) tag+Ssum j D,(TV,f0+2*Fsum j D+2*sumTo (K0+1) q))/\oq P ty Wg C n K0 val aT aP Fin kH l (t++E):=by
   intro u w' es V I G W Y c T a3 jH hd a1 al ba aa ad;obtain⟨cs,b7,b4⟩:=p.pay;have hl:WgLive ty Wg w':=⟨_,_,a3⟩;have a0:=p.has κ F (by omega);have ec:∀o,w'.cell? ⟨C,o,none⟩=w.cell? ⟨C,o,none⟩:=tI (T.block C p.bV.cw);exact mX ao N a5 p F hg c (p.wgM T hl) (λfw _ _=>p.wgO T hl fw) (.rest ba a1) (λ_ x=>x) (λ_ x=>.inl x) (avs jH) (norel_of_Bk jH) (by rw[a4];exact al) (agE (by rw[T.size];exact hW) jH)
    (λ_=>let⟨r,hr,b9⟩:=p.ti.rel κ F (by omega);⟨r,hr.book a9 _ _ jH hd,b9.app λop J _ x hx=>by obtain⟨e,k,rfl⟩:=lc J;exact ah0 (jH e k) hx⟩)
    (λ_=>⟨(ec _).trans a0.1,(ec _).trans a0.2⟩) ⟨cs,(T.block C p.bV.cw).trans b7,b4⟩ a3 aa
    (by rw[A,b6];exact ad.imp id λx=>.inr ⟨x.1,rfl,x.2⟩)
  have z:∀{u:Goroutine} {w':World} {es:Array Event} {V I G:Nat} {W Y:Int},stepG P false g w=.go u w' es->Aside Wg w w'->WgAt ty Wg w' W Y->(∀e∈es,Bk Wg e)->
    (∀jx e,es[jx]?=some e->(MemAct.ofEvent e).touch?=none\/0<deafBehind dd (es.extract 0 jx))->WSit P ty Wg C (2*n) FF FF 0 (2*κ+1) (val (2*κ)) V I G u w'->deafBehind dd es=G->V<=6->
    ConcN.Mode j (upd D κ ⟨V,I,G⟩) tag W Y->((V<s/\cnt ⟨V,I,G⟩<=cnt (D κ))\/(V=s/\I+1=m))->
    ∃l E kH,runT P (crowd gs w sl) (K0+1+κ)=(.next l,E)/\pD (n+1) kH (phi n (Vc j D) tag+Ssum j D,(TV,f0+2*Fsum j D+2*sumTo (K0+1) q))/\oq P ty Wg C n K0 val aT aP Fin kH l (t++E):=
   λc T a3 jH hd a1 al h6 aa ad=>aI c T a3 jH hd a1 al h6 (λ_ ht _=>aa.retag ht) ad
  have K:∀{u:Goroutine} {I:Nat},stepG P false g w=.go u w #[]->WSit P ty Wg C (2*n) FF FF 0 (2*κ+1) (val (2*κ)) s I dd u w->I+1=m->
    ∃l E kH,runT P (crowd gs w sl) (K0+1+κ)=(.next l,E)/\pD (n+1) kH (phi n (Vc j D) tag+Ssum j D,(TV,f0+2*Fsum j D+2*sumTo (K0+1) q))/\oq P ty Wg C n K0 val aT aP Fin kH l (t++E):=by
   intro u I c a1 hm;exact z c (.refl Wg w) H (by simp) (by simp) a1 rfl h6 (by have:=aZ.same (i:=κ) I dd;rwa [A] at this) (.inr ⟨rfl,hm⟩)
  cases h with
  |r0 h=>omega
  |k1 h=>
   rcases qU h with bN|⟨I,rfl,d⟩
   .obtain⟨_,u,c,B,hk⟩:=bN w (tn w);exact z c (.refl Wg w) H (by intro e k;simp at k;subst k;exact .inl rfl) (by intro jx e k;exact .inl (by have:=pS k;simp at this;subst this;rfl)) (.d1 hk) rfl (by omega)
     (aZ.counted F (by omega) (.inr rfl) _ _) (.inl ⟨by omega,by simp[cnt,A]⟩)
   .obtain⟨u,w',es,c,⟨rfl,rfl⟩,ki⟩:=d w (tn w);exact K c (.k1 ki) rfl
  |d1 h=>
   rcases qU h with bN|⟨I,rfl,d⟩
   .obtain⟨_,a6⟩:=bN w (tn w);have bf:cnt (D κ)=1:=by simp[cnt,A]
    have bi:1<=Vc j D:=by have:=le_sumTo (f:=λx=>cnt (D x)) F;simp only[Vc];omega
    have a7:∀e∈#[rd (stA Wg),wr (stA Wg)],Bk Wg e:=by intro e k;simp at k;rcases k with rfl|rfl<;>exact ConcN.bk_cell _ _ rfl
    have af:∀jx e,(#[rd (stA Wg),wr (stA Wg)]:Array Event)[jx]?=some e->(MemAct.ofEvent e).touch?=none\/0<deafBehind 1 ((#[rd (stA Wg),wr (stA Wg)]:Array Event).extract 0 jx):=by
     intro jx e k
     match jx,k with
     |0,_=>exact .inr (by simp[deafBehind])
     |1,_=>exact .inr (by simp[deafBehind,rd])
     |jx+2,k=>simp at k
    have aF:∀q,cnt (⟨1,q,1⟩:WD)=0:=λ_=>rfl;have aU:∀q,OpenSt j D->OpenSt j (upd D κ ⟨1,q,1⟩):=λq h a N=>by
     by_cases e:a=κ
     .subst e;rw[pi];simp
     .rw[qf D _ e];exact h a N
    cases aZ with
    |opn h1 h2 h3=>
     obtain⟨v,hv⟩:∃v,Vc j D+pend tag=v+1:=⟨Vc j D+pend tag-1,by omega⟩;rw[hv] at H;have aW:WgAt ty Wg w (((v:Nat)+1)*KK+((0:Nat):Int)) 0:=by simpa using H
     obtain⟨u,c,_,X⟩:=a6 v 0 (by omega) (by omega) aW;obtain⟨M,X⟩:=X (by omega);have an:Vc j (upd D κ ⟨1,M,1⟩)+pend tag=v:=by have:=Vc_upd D (⟨1,M,1⟩:WD) F;have:=aF M;omega
     refine z c (rR w (stA Wg) _) (H.setSt _) a7 af (.quit X) rfl (by omega) ?_ (.inl ⟨by omega,by simp[cnt]⟩);have e:((v:Nat):Int)*KK+((0:Nat):Int)=((Vc j (upd D κ ⟨1,M,1⟩)+pend tag:Nat):Int)*KK:=by rw[an];simp
     rw[e];exact .opn h1 (aU M h2) (λvs ev=>by have:=h3 vs ev;omega)
    |reg h1 h2 h3=>
     obtain⟨v,hv⟩:∃v,Vc j D=v+1:=⟨Vc j D-1,by omega⟩;rw[hv] at H;have hp:pend tag=0:=by cases tag<;>first|rfl|exact h1.elim
     have aW:WgAt ty Wg w (((v:Nat)+1)*KK+((1:Nat):Int)) 0:=by simpa using H
     obtain⟨u,c,hl,X⟩:=a6 v 1 (by omega) (by omega) aW;by_cases bb:v=0
     .subst bb;obtain⟨B,hk⟩:=hl ⟨rfl,rfl⟩;refine z c (rR w (stA Wg) _) (H.setSt _) a7 af (.d2 hk) rfl (by omega) ?_ (.inl ⟨by omega,by simp[cnt]⟩);have Q:∀a,a<j->a≠κ->(D a).stage=1:=λa N e=>by
       have c0:=others_uncounted F hv bf a N e;have:=h2 a N;simp only[cnt] at c0;split at c0<;>omega
      have:=ConcN.Mode.last (j:=j) (D:=upd D κ ⟨4,B,1⟩) (tag:=tag) κ h1 F (by rw[pi];simp) (λa N e=>by rw[qf D _ e];exact Q a N e);rw[pi] at this;simpa using this
     .obtain⟨M,X⟩:=X (by omega);have an:Vc j (upd D κ ⟨1,M,1⟩)=v:=by have:=Vc_upd D (⟨1,M,1⟩:WD) F;have:=aF M;omega
      refine z c (rR w (stA Wg) _) (H.setSt _) a7 af (.quit X) rfl (by omega) ?_ (.inl ⟨by omega,by simp[cnt]⟩);have e:((v:Nat):Int)*KK+((1:Nat):Int)=((Vc j (upd D κ ⟨1,M,1⟩):Nat):Int)*KK+1:=by rw[an];simp
      rw[e];exact .reg h1 (aU M h2) (by omega)
    |last L _ h2 h3 h4=>
     by_cases e:κ=L
     .subst e;omega
     .have:=h4 κ F e;omega
    |sema h2=>have:=h2 κ F;omega
    |fin _ h2=>have:=h2 κ F;omega
   .obtain⟨u,w',es,c,⟨rfl,rfl⟩,ki⟩:=d w (tn w);exact K c (.d1 ki) rfl
  |d2 h=>
   rcases qU h with bN|⟨I,rfl,d⟩
   .obtain⟨_,hx⟩:=bN w (tn w);obtain⟨a2,Q,rfl,rfl⟩:=aZ.isLast F (by omega);simp only[A] at H;obtain⟨u,c,B,hk⟩:=hx (by simpa using H);refine z c (.refl Wg w) H (by intro e k;simp at k;subst k;exact ConcN.bk_cell _ _ rfl) (by intro jx e k;match jx,k with|0,_=>exact .inr (by simp[deafBehind])|jx+1,k=>simp at k) (.d3 hk) rfl (by omega) ?_ (.inl ⟨by omega,by simp[cnt]⟩);have:=ConcN.Mode.last (j:=j) (D:=upd D κ ⟨3,B,1⟩) (tag:=tag) κ a2 F (by rw[pi];simp) (λa N e=>by rw[qf D _ e];exact Q a N e);rw[pi] at this;simpa using this
   .obtain⟨u,w',es,c,⟨rfl,rfl⟩,ki⟩:=d w (tn w);exact K c (.d2 ki) rfl
  |d3 h=>
   rcases qU h with bN|⟨I,rfl,d⟩
   .obtain⟨_,hx⟩:=bN w (tn w);obtain⟨a2,Q,rfl,rfl⟩:=aZ.isLast F (by omega);simp only[A] at H;obtain⟨u,c,B,hk⟩:=hx (by simpa using H);refine z c (rR w (stA Wg) _) (H.setSt 0) (by intro e k;simp at k;subst k;exact ConcN.bk_cell _ _ rfl) (by intro jx e k;match jx,k with|0,_=>exact .inr (by simp[deafBehind])|jx+1,k=>simp at k) (.d4 hk) rfl (by omega) ?_ (.inl ⟨by omega,by simp[cnt]⟩);have:=ConcN.Mode.last (j:=j) (D:=upd D κ ⟨2,B,1⟩) (tag:=tag) κ a2 F (by rw[pi];simp) (λa N e=>by rw[qf D _ e];exact Q a N e);rw[pi] at this;simpa using this
   .obtain⟨u,w',es,c,⟨rfl,rfl⟩,ki⟩:=d w (tn w);exact K c (.d3 ki) rfl
  |d4 h=>
   rcases qU h with bN|⟨I,rfl,d⟩
   .obtain⟨_,b1,hx⟩:=bN w (tn w);obtain⟨a2,Q,rfl,rfl⟩:=aZ.isLast F (by omega);simp only[A] at H;obtain⟨u,c,M,X⟩:=hx (by simpa using H);have a8:u.status=.running:=by
     cases M with
     |zero=>exact absurd X.2 (by decide)
     |succ M=>exact X.elim (λx=>absurd x.2 (by decide)) (λx=>x.1)
    refine aI c (rR w (smA Wg) _) (H.setSm 1) (es:=semEvents (smA Wg)) ?_ ?_ (.quit X) (by simp[deafBehind,semEvents]) (by omega) ?_ (.inl ⟨by omega,by simp[cnt]⟩)
    .exact bk_sem
    .intro jx e k
     match jx,k with
     |0,k=>simp[semEvents] at k;subst k;exact .inl rfl
     |1,_=>exact .inr (by simp[deafBehind,semEvents])
     |2,_=>exact .inr (by simp[deafBehind,semEvents])
     |3,k=>simp[semEvents] at k;subst k;exact .inl rfl
     |jx+4,k=>simp[semEvents] at k
    .intro dB ht hw;have b5:=hw b1 a8;have e3:dB=.w3:=by
      rcases ht with rfl|⟨_,rfl⟩
      .cases dB<;>first|rfl|exact a2.elim|exact absurd rfl b5
      .rfl
     subst e3;simp only[mw];exact .sema λa N=>by
      by_cases e:a=κ
      .subst e;rw[pi]
      .rw[qf D _ e];exact Q a N e
   .obtain⟨u,w',es,c,⟨rfl,rfl⟩,ki⟩:=d w (tn w);exact K c (.d4 ki) rfl
  |quit h=>
   cases m with
   |zero=>rw[h.1] at U;cases U
   |succ M=>
    rcases h with⟨hf,_⟩|⟨_,u,es,av,d,X⟩
    .rw[hf] at U;cases U
    .have jH:∀e∈es,Bk Wg e:=λe k=>bk_of_mute (av e k);have b2:∀jx e,es[jx]?=some e->(MemAct.ofEvent e).touch?=none\/0<deafBehind dd (es.extract 0 jx):=λjx e k=>.inl (touch_mute (av e (pS k)));exact z (d w) (.refl Wg w) H jH b2 (.quit X) rfl (by omega) (by have:=aZ.same (i:=κ) M (deafBehind dd es);rwa [A] at this) (.inr ⟨rfl,rfl⟩)
end
variable [Payload]
omit [Payload] in
def nT(h:pE Wg e):e.loc ≠ .mark .disable/\e.loc ≠ .mark .enable/\e.loc ≠ .mark (.release (stA Wg)):=by
 obtain⟨a,_,rfl|rfl⟩:=h<;>simp[mk]
omit [Payload] in
def lM(h:pE Wg e)(b:(MemAct.ofEvent e).touch?=some x):ShN Wg x.loc/\x.kind ≠ .plain:=by
 obtain⟨a,c,rfl|rfl⟩:=h<;>(simp[mk,MemAct.ofEvent,MemAct.touch?] at b;subst b;exact⟨⟨a,rfl,c⟩,by simp⟩)
omit [Payload] in
def ah2(h:pE Wg e)(b:Wg<B):(MemAct.ofEvent e).low B:=by
 obtain⟨a,c,rfl|rfl⟩:=h<;>(show a.block<B;omega)
section
variable {P:Program} {ty:TypeId} {Wg C n K0:Nat} {val:Nat->Value} {aT:aq} {aP Fin:aq->aq->Goroutine->World->Prop}
 {gs:Array Goroutine} {w w':World} {sl:Option (Nat×Nat)} {j:Nat} {D:Nat->WD} {TV:Nat->iE} {R S S':aq} {O Rk:Nat->aq} {q:Nat->Nat} {tag dB:CTag} {f0 f' d0:Nat} {a a':Goroutine} {t:Trace} {st sm st' sm':Int} {es:Array Event} {T':iE}
def ja (y:gs[0]?=some a) (f:MI P ty Wg C n K0 val aT j gs w t D TV R S O Rk q d0) (m:stepG P true a w=.go a' w' es) (c:Aside Wg w w') (i:WgAt ty Wg w' st' sm') (o:∀e∈es,Bk Wg e)
  (u:eB P ty Wg C n val aP Fin dB j R S (TV 0) f' (deafBehind d0 es) a' w') (p:ConcN.Mode j D dB st' sm')
  (k:phi n (Vc j D) dB<phi n (Vc j D) tag\/(phi n (Vc j D) dB=phi n (Vc j D) tag/\f'<f0)) :
  ∃d g s,runT P (crowd gs w sl) 0=(.next d,g)/\pD (n+1) s (phi n (Vc j D) tag+Ssum j D,(TV,f0+2*Fsum j D+2*sumTo (K0+1) q))/\oq P ty Wg C n K0 val aT aP Fin s d (t++g):=by
 obtain⟨z,r,l⟩:=f.pay;exact iO y f m (mc c.size.symm) (λv _=>f.wgO c ⟨_,_,i⟩ v) (λb x=>.inl x) (apD o) (norel_of_Bk o) (agE (by rw[c.size];exact f.bV.wlt) o) ⟨z,(c.block C f.bV.cw).trans r,l⟩ u i p
  (k.imp id λx=>⟨x.1,.inr ⟨rfl,x.2⟩⟩)
def avt (y:gs[0]?=some a) (f:MI P ty Wg C n K0 val aT j gs w t D TV R S O Rk q d0) (m:stepG P true a w=.go a' w' es) (c:Aside Wg w w') (i:WgAt ty Wg w' st' sm') (o:∀e∈es,Bk Wg e)
  (u:eB P ty Wg C n val aP Fin dB j R S T' f' (deafBehind d0 es) a' w') (p:ConcN.Mode j D dB st' sm') (k:phi n (Vc j D) dB<phi n (Vc j D) tag) :
  ∃d g s,runT P (crowd gs w sl) 0=(.next d,g)/\pD (n+1) s (phi n (Vc j D) tag+Ssum j D,(TV,f0+2*Fsum j D+2*sumTo (K0+1) q))/\oq P ty Wg C n K0 val aT aP Fin s d (t++g):=by
 obtain⟨z,r,l⟩:=f.pay;exact iO y f m (mc c.size.symm) (λv _=>f.wgO c ⟨_,_,i⟩ v) (λb x=>.inl x) (apD o) (norel_of_Bk o) (agE (by rw[c.size];exact f.bV.wlt) o) ⟨z,(c.block C f.bV.cw).trans r,l⟩ u i p (.inl k)
def lN (z:gs[0]?=some a) (k:MI P ty Wg C n K0 val aT j gs w t D TV R S O Rk q d0) (u:WgAt ty Wg w st sm) (y:ConcN.Mode j D tag st sm) (l:stepG P true a w=.go a' w' es) (v:DSd Wg w w' es)
  (s:eB P ty Wg C n val aP Fin tag j R S (TV 0) f' d0 a' w') (r:f'<f0) :
  ∃f i p,runT P (crowd gs w sl) 0=(.next f,i)/\pD (n+1) p (phi n (Vc j D) tag+Ssum j D,(TV,f0+2*Fsum j D+2*sumTo (K0+1) q))/\oq P ty Wg C n K0 val aT aP Fin p f (t++i):=by
 obtain⟨rfl,c⟩:=v;have m:deafBehind d0 es=d0:=sO (λe d=>⟨(nT (c e d)).1,(nT (c e d)).2.1⟩) d0;refine iO z k l (ap _) (λ_ _=>.refl _ _ _ _) (λb x=>.inl x) (λop g=> ?_) (λe d=>(nT (c e d)).2.2) (λop g=> ?_) k.pay (by rw[m];exact s) u y (.inr ⟨rfl,.inr ⟨rfl,r⟩⟩)
 .obtain⟨e,d,rfl⟩:=lc g;exact⟨rfl,λx o=>.inl ⟨aka (lM (c e d) o).1,(lM (c e d) o).2⟩⟩
 .obtain⟨e,d,rfl⟩:=lc g;exact ah2 (c e d) k.bV.wlt
def akc (U:gs[0]?=some a) (c:MI P ty Wg C n K0 val aT j gs w t D TV R S O Rk q d0) (L:WgAt ty Wg w st sm) (T:ConcN.Mode j D tag st sm) (G:stepG P true a w=.go a' w' es) (f:Gua Wg C (2*n) R noC S S' w w' es)
  (K:eB P ty Wg C n val aP Fin tag j R S' T' f' d0 a' w') (M:iE.Lt T' (TV 0)) :
  ∃o s H,runT P (crowd gs w sl) 0=(.next o,s)/\pD (n+1) H (phi n (Vc j D) tag+Ssum j D,(TV,f0+2*Fsum j D+2*sumTo (K0+1) q))/\oq P ty Wg C n K0 val aT aP Fin H o (t++s):=by
 have B:deafBehind d0 es=d0:=sO (λe p=>⟨(f.ev e p).dis,(f.ev e p).en⟩) d0;have l:Wg<w.heap.size/\¬S Wg/\Wg≠C:=⟨c.bV.wlt,c.bV.ws,λe=>c.bV.cw e.symm⟩;have g:=c.bV.aue f.size f.new;refine iO U c G f.size (λd _=>.aj7 f (λb z=>z.elim (λx=>⟨c.bV.olt d b x,λy=>c.bV.os d b x y,λe=>c.bV.co d (e▸x)⟩) λx=>⟨c.bV.rlt b (c.bV.rk d b x),λy=>c.bV.rs b (c.bV.rk d b x) y,λe=>c.bV.cr (e▸c.bV.rk d b x)⟩) (λi _ y=>y.elim) l)
  f.new (λop A=> ?_) (λe p=>(f.ev e p).rel) (al8 f.ev) (f.pay c.pay) (by rw[B];exact K) (L.of_block (f.keep Wg l.1 l.2.1 l.2.2)) T (.inr ⟨rfl,.inl M⟩)
 obtain⟨e,p,rfl⟩:=lc A;refine⟨rfl,λx Q=>.inr ?_⟩;have r:∀{Z:aq},(¬Z Wg)->(∀b,aT b->¬Z b)->In Z x.loc->¬Shr Wg aT x.loc:=λF E v ⟨N,e,h⟩=>by
  have:=In.block v e;rcases h with h|h
  .rw[h] at this;exact F this
  .exact E _ h this
 have u:∀{Z:aq},(∀d b,O d b->¬Z b)->(¬Z C)->In Z x.loc->∀k,¬aaa C K0 O k x.loc:=λF E v k ⟨d,_,h⟩=>by
  rcases h with h|⟨N,e,h,_⟩
  .exact In.no (F d) h v
  .have:=In.block v e;rw[h] at this;exact E this
 rcases(f.ev e p).touch x Q with m|⟨_,_,_,m⟩|⟨m,J⟩
 .refine⟨r g.ws g.shs m,λk _ _=>u g.os g.cs m k,λ_ k _ _ ⟨d,_,hr⟩=> ?_⟩;exact In.no (λb z=>g.rs b (c.bV.rk d b z)) hr m
 .exact m.elim
 .refine⟨r c.bV.wr c.bV.shr m,λk _ _=>u c.bV.orr c.bV.cr m k,λI=> ?_⟩;rw[J] at I;cases I
def anu (hn:n<2147483648) (b5:∀R S g w,aP R S g w->∃m,GP P ty Wg C n R S (MW1 P ty Wg C n R S aP Fin) m g w)
  (v:gs[0]?=some a) (aW:eB P ty Wg C n val aP Fin tag j R S (TV 0) f0 d0 a w) (k:MI P ty Wg C n K0 val aT j gs w t D TV R S O Rk q d0) (o:WgAt ty Wg w st sm) (z:ConcN.Mode j D tag st sm) (ad:a.status=.running) :
  (∃B M,runT P (crowd gs w sl) 0=(.next B,M)/\al7 P ty Wg C n K0 val aT Fin B (t++M))\/
  (∃B M kH,runT P (crowd gs w sl) 0=(.next B,M)/\pD (n+1) kH (phi n (Vc j D) tag+Ssum j D,(TV,f0+2*Fsum j D+2*sumTo (K0+1) q))/\oq P ty Wg C n K0 val aT aP Fin kH B (t++M)):=by
 have b2:=Vc_le j D;have F:RM ty Wg C n R S w w:=.refl _ _ _ _;have an:∀{m':Nat} {tag:CTag},j=n->d0=1->isOpen tag->pend tag=0->phi n (Vc n D) .w1<=phi n (Vc n D) tag->f0=f0->(tag=.w1->m'<=f0)->ConcN.Mode j D tag st sm->GP P ty Wg C n R S (MW1 P ty Wg C n R S aP Fin) m' a w->
   (∃B M kH,runT P (crowd gs w sl) 0=(.next B,M)/\pD (n+1) kH (phi n (Vc j D) tag+Ssum j D,(TV,f0+2*Fsum j D+2*sumTo (K0+1) q))/\oq P ty Wg C n K0 val aT aP Fin kH B (t++M)):=by
  intro m' tag hj hd J hp T _ hm z h;subst hj hd;have a5:ConcN.Mode j D .w1 st sm:=z.reopen J trivial (by rw[hp];rfl) (by simp);rcases qU h with E|⟨m',rfl,c⟩
  .obtain⟨_,N⟩:=E w F;obtain⟨W,rfl,rfl,_⟩:=a5.open_inv trivial;obtain⟨a',d,h0,ax⟩:=N (Vc j D) (by omega) (by simpa[pend] using o);by_cases hv:Vc j D=0
   .obtain⟨s,A⟩:=h0 hv;refine ja v k d (.refl Wg w) o bk_rd (dB:=.ke) (.ke A) ?_ (.inl (by simp only[phi] at T ⊢;omega));have e:((Vc j D+pend .w1:Nat):Int)*KK=0:=by rw[hv];simp[pend]
    rw[e];exact .fin trivial (allQuit_of W hv)
   .obtain⟨s,A⟩:=ax hv;exact ja v k d (.refl Wg w) o bk_rd (dB:=.w2 (Vc j D)) (.w2 A) (a5.reopen trivial trivial rfl (λvs e=>by cases e;omega)) (.inl (by simp only[phi] at T ⊢;omega))
  .obtain⟨a',w',es,d,K,I⟩:=c w F;rcases Nat.lt_or_eq_of_le T with T|T
   .obtain⟨rfl,U⟩:=K;have b0:deafBehind 1 es=1:=sO (λe he=>⟨(nT (U e he)).1,(nT (U e he)).2.1⟩) 1;refine iO v k d (ap _) (λ_ _=>.refl _ _ _ _) (λb x=>.inl x) (λop J=> ?_) (λe he=>(nT (U e he)).2.2) (λop J=> ?_) k.pay (T':=TV 0) (dB:=.w1) (by rw[b0];exact .w1 I) o a5 (.inl T)
    .obtain⟨e,he,rfl⟩:=lc J;exact⟨rfl,λx Y=>.inl ⟨aka (lM (U e he) Y).1,(lM (U e he) Y).2⟩⟩
    .obtain⟨e,he,rfl⟩:=lc J;exact ah2 (U e he) k.bV.wlt
   .have aZ:tag=.w1:=by
     cases tag<;>first|rfl|exact J.elim|(simp only[phi] at T;omega)
    subst aZ;exact lN v k o z d K (.w1 I) (by have:=hm rfl;omega)
 cases aW with
 |skd Z h=>
  rcases h.cases with E|⟨f,hT,_,c⟩
  .obtain⟨_,a',d,s,A⟩:=E w F;exact .inr (ja v k d (.refl Wg w) o bk_dis (.sa1 Z A) (z.reopen trivial trivial rfl (by simp)) (.inl (by simp only[phi];omega)))
  .obtain⟨a',w',es,S',d,hG,V⟩:=c w F;exact .inr (akc v k o z d hG (.skd Z V) (by rw[hT];exact⟨f,w,rfl,rfl⟩))
 |sa1 Z h=>
  rename_i r;rcases qU h with E|⟨m',rfl,c⟩
  .obtain⟨_,N⟩:=E w F;obtain⟨W,rfl,rfl,_⟩:=z.open_inv trivial;obtain⟨a',d,s,A⟩:=N (Vc (n-(r+1)) D) (by omega) (by simpa[pend] using o);refine .inr (ja v k d (rR w (stA Wg) _) (o.setSt _) bk_rw (.ske Z A) ?_ (.inl (by simp only[phi];omega)));have e:(((Vc (n-(r+1)) D:Nat):Int)+1)*KK=((Vc (n-(r+1)) D+pend (.sp r 3):Nat):Int)*KK:=by simp[pend]
   rw[e];exact .opn trivial W (by simp)
  .obtain⟨a',w',es,d,K,I⟩:=c w F;exact .inr (lN v k o z d K (.sa1 Z I) (by omega))
 |ske Z h=>
  rcases qU h with E|⟨m',rfl,c⟩
  .obtain⟨_,a',d,b7,A⟩:=E w F;exact .inr (avt v k d (.refl Wg w) o bk_en (.sgo Z A) (z.reopen trivial trivial rfl (by simp)) (by simp only[phi];omega))
  .obtain⟨a',w',es,d,K,I⟩:=c w F;exact .inr (lN v k o z d K (.ske Z I) (by omega))
 |sgo Z h=>
  rename_i r;rcases h.cases with E|⟨f,hT,_,c⟩
  .obtain⟨_,a',H,X,aU,hX,ay,bM⟩:=E w F;obtain⟨W,rfl,rfl,_⟩:=z.open_inv trivial;obtain⟨Tc,aa⟩:=ay k.pay ⟨_,_,o⟩;obtain⟨l,b1⟩:∃l,n-(r+1)=l:=⟨_,rfl⟩;rw[b1] at k o z W aa b2 ⊢;have G:=runT_crowd_spawn (P:=P) (sl:=sl) (i:=0) v (by simpa using aU);rw[k.size] at G;have al:=k.bV.hand l hX;have b4:=k.ti.fork (X:=X) (m':=0) al.apart (x:={g:=0,fn:=a.frame.fn,pos:=a.frame.place,act:=.go (K0+1+l)}) (y:={g:=K0+1+l,fn:=H.frame.fn,pos:=a.frame.place,act:=.start})
    ⟨rfl,by rw[show K0+1+l=K0+l+1 by omega]⟩ ⟨by show K0+1+l=_;omega,rfl⟩
   have eV:Vc (l+1) (upd D l ⟨7,0,0⟩)=Vc l D+1:=by
    simp only[Vc,sumTo,pi];rw[sumTo_upd_out D _ cnt (ap _)];rfl
   have eS:Ssum (l+1) (upd D l ⟨7,0,0⟩)=Ssum l D+7:=by
    simp only[Ssum,sumTo,pi];rw[sumTo_upd_out D _ WD.stage (ap _)]
   have oc:OpenSt (l+1) (upd D l ⟨7,0,0⟩):=λi hi=>by
    by_cases e:i=l
    .subst e;rw[pi];simp
    .rw[qf D _ e];exact W i (by omega)
   have av:((gs.setIfInBounds 0 a').push H)[0]?=some a':=by
    have af:0<gs.size:=by rw[k.size];omega
    rw[tG (by simpa using af),<-ff];simp[af]
   have ej:l+1=n-r:=by omega
   have a7:∀dB,pend dB=0->((Vc l D+pend (.sp r 2):Nat):Int)*KK=((Vc (l+1) (upd D l ⟨7,0,0⟩)+pend dB:Nat):Int)*KK:=λdB hp=>by rw[eV,hp];simp[pend]
   have mi:∀T0,MI P ty Wg C n K0 val aT (l+1) ((gs.setIfInBounds 0 a').push H) w (t++#[{g:=0,fn:=a.frame.fn,pos:=a.frame.place,act:=.go (K0+1+l)},{g:=K0+1+l,fn:=H.frame.fn,pos:=a.frame.place,act:=.start}]) (upd D l ⟨7,0,0⟩) (upd (upd TV (l+1) Tc) 0 T0) (λb=>S b\/R b) (λ_=>False) O (upd Rk l X) q 0:=λT0=>by
    refine⟨by simp[k.size];omega,λi x a4 hi Y=> ?_,λu fF=> ?_,b4,al,λu fF hs=> ?_,k.pay,λu fF=>k.unO u (by omega)⟩
    .rw[tG (by simp[k.size];omega),<-ff,gc (by omega)] at Y;rw[Deaf_still t i _ (λop J=>by simp at J;rcases J with rfl|rfl<;>simp)];exact k.old i x a4 hi Y
    .rw[qf _ _ (show u+1≠0 by omega)];rcases mx u l with a0|fE
     .obtain⟨g,hg,b3⟩:=k.wk u a0;refine⟨g, ?_,by rw[qf D _ (by omega),qf Rk _ (by omega),qf TV _ (by omega)];exact b3⟩;rw[tG (by simp[k.size];omega),<-ff,gc (by omega)];exact hg
     .obtain rfl:u=l:=by omega
      refine⟨H, ?_,by rw[pi,pi,pi,k.unO u (ap _)];exact .work aa⟩;rw[show K0+1+u=(gs.setIfInBounds 0 a').size by simp[k.size],qi]
    .rcases mx u l with a0|fE
     .rw[qf D _ (by omega)] at hs;exact k.has u a0 hs
     .obtain rfl:u=l:=by omega
      rw[pi] at hs;simp at hs
   cases r with
   |zero=>
    obtain⟨Q,A⟩:=bM;have a2:l+1=n:=by omega
    have a3:eB P ty Wg C n val aP Fin .kd (l+1) (λb=>S b\/R b) (λ_=>False) (upd (upd TV (l+1) Tc) 0 Q 0) 0 0 a' w:=by
     rw[pi,a2];exact .kd A
    refine .inr ⟨_,_,(phi n (Vc (l+1) (upd D l ⟨7,0,0⟩)) .kd+Ssum (l+1) (upd D l ⟨7,0,0⟩),(upd (upd TV (l+1) Tc) 0 Q,0+2*Fsum (l+1) (upd D l ⟨7,0,0⟩)+2*sumTo (K0+1) q)),G,Prod.Lex.left _ _ (by simp only[phi];omega),
     _,w,sl,l+1,_,_,_,_,O,_,q,.kd,0,0,a',_,_,rfl,av,a3,mi Q,o, ?_,rfl⟩
    rw[a7 .kd rfl];exact .opn trivial oc (by simp)
   |succ r'=>
    obtain⟨Q,A⟩:=bM;have a2:l+1=n-(r'+1):=by omega
    have a3:eB P ty Wg C n val aP Fin (.sp r' 5) (l+1) (λb=>S b\/R b) (λ_=>False) (upd (upd TV (l+1) Tc) 0 Q 0) 0 0 a' w:=by
     rw[pi,a2];exact .skd (by omega) A
    refine .inr ⟨_,_,(phi n (Vc (l+1) (upd D l ⟨7,0,0⟩)) (.sp r' 5)+Ssum (l+1) (upd D l ⟨7,0,0⟩),(upd (upd TV (l+1) Tc) 0 Q,0+2*Fsum (l+1) (upd D l ⟨7,0,0⟩)+2*sumTo (K0+1) q)),G,Prod.Lex.left _ _ (by simp only[phi];omega),
     _,w,sl,l+1,_,_,_,_,O,_,q,.sp r' 5,0,0,a',_,_,rfl,av,a3,mi Q,o, ?_,rfl⟩
    rw[a7 (.sp r' 5) rfl];exact .opn trivial oc (by simp)
  .obtain⟨a',w',es,S',d,hG,V⟩:=c w F;exact .inr (akc v k o z d hG (.sgo Z V) (by rw[hT];exact⟨f,w,rfl,rfl⟩))
 |kd h=>
  rcases h.cases with E|⟨f,hT,_,c⟩
  .obtain⟨_,a',d,s,A⟩:=E w F;exact .inr (ja v k d (.refl Wg w) o bk_dis (.anch A) (z.reopen trivial trivial rfl (by simp)) (.inl (by simp only[phi];omega)))
  .obtain⟨a',w',es,S',d,hG,V⟩:=c w F;exact .inr (akc v k o z d hG (.kd V) (by rw[hT];exact⟨f,w,rfl,rfl⟩))
 |anch h=>
  rcases qU h with E|⟨m',rfl,c⟩
  .obtain⟨s,A⟩:=b5 R S a w (E w F);exact .inr (an rfl rfl trivial rfl (by simp only[phi];omega) rfl (by simp) z A)
  .obtain⟨a',w',es,d,K,I⟩:=c w F;exact .inr (lN v k o z d K (.anch I) (by omega))
 |w1 h=>exact .inr (an rfl rfl trivial rfl (ap _) rfl (λ_=>ap _) z h)
 |w2 h=>
  rename_i vs;rcases qU h with E|⟨m',rfl,c⟩
  .obtain⟨_,N⟩:=E w F;obtain⟨W,rfl,rfl,aF⟩:=z.open_inv trivial;obtain⟨b8,h1⟩:=aF vs rfl;obtain⟨aI,aV⟩:=N (Vc n D) (by omega) (by simpa[pend] using o);by_cases e:Vc n D=vs
   .obtain⟨a',d,s,A⟩:=aI e;exact .inr (ja v k d (rR w (stA Wg) _) (o.setSt _) bk_rw (.w3 A) (.reg trivial W (by omega)) (.inl (by simp only[phi];omega)))
   .obtain⟨a',d,s,A⟩:=aV e;exact .inr (ja v k d (.refl Wg w) o bk_rd (.anch A) (z.reopen trivial trivial rfl (by simp)) (.inl (by simp only[phi];omega)))
  .obtain⟨a',w',es,d,K,I⟩:=c w F;exact .inr (lN v k o z d K (.w2 I) (by omega))
 |w3 h=>
  rcases qU h with E|⟨m',rfl,c⟩
  .obtain⟨_,b9,a1,mb⟩:=E w F;cases z with
   |opn h1 _ _=>exact h1.elim
   |reg h1 h2 h3=>exact .inr (ja v k (a1 ⟨_,o⟩) (.refl Wg w) o (by simp) (.blk E) (.reg trivial h2 h3) (.inr ⟨rfl,by omega⟩))
   |last L h1 h2 h3 h4=>exact .inr (ja v k (a1 ⟨_,o⟩) (.refl Wg w) o (by simp) (.blk E) (.last L trivial h2 h3 h4) (.inr ⟨rfl,by omega⟩))
   |sema h2=>
    obtain⟨a',d,s,A⟩:=mb o;exact .inr (ja v k d (rR w (smA Wg) _) (o.setSm 0) bk_sem (.w4 A) (.fin trivial h2) (.inl (by simp only[phi];omega)))
   |fin h1 _=>exact h1.elim
  .obtain⟨a',w',es,d,K,I⟩:=c w F;exact .inr (lN v k o z d K (.w3 I) (by omega))
 |blk h=>simp at ad
 |w4 h=>
  rcases qU h with E|⟨m',rfl,c⟩
  .obtain⟨_,Y⟩:=E w F;obtain⟨hq,rfl,rfl⟩:=z.fin_inv trivial;obtain⟨a',d,s,A⟩:=Y o;exact .inr (ja v k d (.refl Wg w) o bk_rd (.ke A) (.fin trivial hq) (.inl (by simp only[phi];omega)))
  .obtain⟨a',w',es,d,K,I⟩:=c w F;exact .inr (lN v k o z d K (.w4 I) (by omega))
 |ke h=>
  rcases qU h with E|⟨m',rfl,c⟩
  .obtain⟨_,a',d,s,A⟩:=E w F;obtain⟨hq,rfl,rfl⟩:=z.fin_inv trivial;exact .inr (ja v k d (.refl Wg w) o bk_en (.acq A) (.fin trivial hq) (.inl (by simp only[phi];omega)))
  .obtain⟨a',w',es,d,K,I⟩:=c w F;exact .inr (lN v k o z d K (.ke I) (by omega))
 |acq h=>
  rcases qU h with E|⟨m',rfl,c⟩
  .obtain⟨_,a',d,b6⟩:=E w F;obtain⟨hq,rfl,rfl⟩:=z.fin_inv trivial;have G:=su (P:=P) (sl:=sl) (i:=0) v (by simpa using d);have h6:∀u,u<n->(D u).stage<=6:=λu fF=>by rw[hq u fF];omega
   have ao:=k.ti.join h6 k.bV.apart a.frame.fn a.frame.place k.bV.wlt;refine .inl ⟨_,_,G,_,w,sl,a',λi=>if i<=K0 then q i else(D (i-(K0+1))).fuel,R,S,rfl,tP _ _ _ (by rw[k.size];omega),by simp[k.size],b6,⟨λi x a4 Y=> ?_,λi hi=> ?_⟩,ao,k.pay,λu fF=>k.has u fF (h6 u fF),⟨_,_,o⟩,λb hb=> ?_⟩
   .rw[rX _ _ _ _ (by omega)] at Y;obtain⟨y,hy,rfl⟩:=ga.1 Y;rw[qC t (g':=0) (by omega) _ g_of_ofEvents];by_cases hi:i<=K0
    .have a9:=k.old i y a4 hi hy;rw[sb a9];simp only[dj hi];exact a9
    .have a0:i<K0+1+n:=by have:=(db.1 hy).1;rw[k.size] at this;omega
     obtain⟨u,rfl⟩:∃u,i=K0+1+u:=⟨i-(K0+1),by omega⟩;obtain⟨g',I,a8⟩:=k.wk u (by omega);rw[hy] at I;cases I;have hd:=k.ti.deafW u (by omega);have h1:=hq u (by omega);rw[h1] at a8;have a6:QuitsD P (D u).fuel (D u).deaf y:=by
      cases a8 with
      |rest _ h=>exact h.quits rfl
     rw[sb a6,hd];simp only[bd hi];rw[show K0+1+u-(K0+1)=u by omega];exact a6
   .refine Deaf_absent λp op W e=> ?_;have h1:=ao.gs op (pS W);simp[k.size] at hi;omega
   .rcases hb with hb|rfl
    .exact⟨k.bV.shr b hb,k.bV.shs b hb,λe=>k.bV.shc (e▸hb),k.bV.ahY b hb⟩
    .exact⟨k.bV.wr,k.bV.ws,λe=>k.bV.cw e.symm,k.bV.wlt⟩
  .obtain⟨a',w',es,d,K,I⟩:=c w F;exact .inr (lN v k o z d K (.acq I) (by omega))
end
end
end Go.Proofs.YtlggbfanooejbaaGreatDoor