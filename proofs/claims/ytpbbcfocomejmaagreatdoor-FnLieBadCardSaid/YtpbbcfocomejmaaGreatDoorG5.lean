/- A part of the proof. -/
import Derived.Test.YtpbbcfocomejmaaGreatDoorG4
import Derived.Laws.Cover1
set_option maxRecDepth 100000
set_option maxHeartbeats 8000000
set_option linter.all false
open Go Go.Conc Go.ConcN Go.RowKit Go.Proofs.Tryz Go.Proofs.YtpbbcfocomejmaaGreatDoor
variable {Z X b c g hi hi' i j jR k m n p:Nat} {key:Int} {Y:Type} {o:Oper} {v:Value} {w w' w2:World} {U e:TypeId} {P:Program} {S:Nat→Prop} {rest:List Nat} {T:List Oper} {s:ByteArray} {W:Array Oper} {V cs:List Value} {A:Option Addr} {xs:List ByteArray} {Post:Value→World→Prop} {Q:Exit→Act→World→Prop} {E:fV Y} {F:Flat Y}
namespace Go.Proofs.YtpbbcfocomejmaaGreatDoor
def de:=@_root_.List.setIfInBounds_toArray
def fi:=@_root_.List.set_cons_zero
def ga:=@_root_.List.set_cons_succ
def gt:=@_root_.Go.wpQuiet_nil
def li:=@_root_.List.getElem?_eq_some_iff
def ls:=@_root_.List.length_nil
def mT:=@_root_.List.getD_cons_zero
def nf:=@_root_.List.getD_cons_succ
def oE:=@_root_.List.length_singleton
def pZ:=@_root_.List.pairwise_iff_getElem
def qc:=@_root_.List.length_drop
def qr:=@_root_.Int.eq_ofNat_of_zero_le
def qF:=@_root_.List.getElem?_of_mem
def qY:=@_root_.Nat.min_eq_left
def rj:=@_root_.List.getElem?_set_self
def rv:=@_root_.UInt8.lt_iff_toNat_lt
def rG:=@_root_.List.getElem?_set_ne
def rK:=@_root_.List.pairwise_singleton
def rR:=@_root_.List.pairwise_append
def rV:=@_root_.Nat.le_of_succ_le
def so:=@_root_.List.pairwise_cons
def sG:=@_root_.List.append_nil
def sK:=@_root_.List.getD_eq_getElem?_getD
def sL:=@_root_.of_decide_eq_true
def sO:=@_root_.List.mem_or_eq_of_mem_set
def sP:=@_root_.List.drop_eq_getElem_cons
def te:=@_root_.List.contains_cons
def tz:=@_root_.List.take_append_drop
def tI:=@_root_.Nat.mul_one
def uf:=@_root_.Bool.false_and
def ug:=@_root_.Go.World.block_lt_of_cell?
def un:=@_root_.List.ext_getElem?
def uw:=@_root_.List.sum_cons
def uy:=@_root_.Bool.true_and
def uM:=@_root_.List.mem_of_mem_drop
def uX:=@_root_.Int.emod_lt_of_pos
def uZ:=@_root_.Nat.mod_two_eq_zero_or_one
def vE:=@_root_.List.drop_length
def vK:=@_root_.Int.emod_nonneg
section
open Go.Conc Go.ConcN
structure aAk (w:World) (A:Option Addr) (i:Nat) (x:Int×List (Int×ByteArray)):Prop where
 c:∃a B c,A=some a/\w.cell? (a.add (i*2))=some (.int .i64 x.1)/\w.cell? ((a.add (i*2)).add 1)=some (.slice B x.2.length c)/\1<=x.2.length/\x.2.length<=c/\(c:Int)<=9223372036854775807/\RdI w B 0 x.2
 i:In_ x.1
def RdP(w:World)(A:Option Addr)(j:Nat)(l:List (Int×List (Int×ByteArray))):Prop:=∀i x,l[i]?=some x->aAk w A (j+i) x
def Rgd(X:Cx)(b:Nat):Prop:=(∃a,X.iq.r a b)\/X.w0.heap.size<=b
def PkR(X:Cx)(w:World)(A:Option Addr)(i:Nat):Prop:=∀a b n c,A=some a->w.cell? ((a.add (i*2)).add 1)=some (.slice (some b) n c)->Rgd X b.block
abbrev inB(k:List Item):List Item:=.inLoop aaU :: .inBlock 51::k
def aAl(t:Nat)(h:mI.contains t=true):cP.contains t=true:=by
 simp only[mI,te,List.contains_nil,vg,qT,mp] at h;rcases h with rfl|rfl|rfl|rfl|rfl|rfl|rfl|rfl|rfl|rfl<;>rfl
section
variable {X:Cx} {T:Array Value} {k:List Item} {w:World}
def adZ{e:Operand->Value}{n:Tmp}{t0 ty : TypeId}{dst:Option Tmp}{pos:String}{af:Array Edge}{gd:Option (Nat×Bool)}(g:P.underlying t0=some (.slice U))(i:e (.tmp n)=.tuple #[]):∀d a,(execOp e ⟨dst,.call ⟨.builtin .len,#[.tmp n],#[t0]⟩,ty,pos,af,gd⟩).run P w ≠ .ok d a:=λd a f=>by
 obtain⟨v,_,A,m,c,b,_⟩:=ahL g f;rw[i] at b;cases b
def At.au1    {t:Tmp} (h:At X T (.inRegion W (i::rest)::k) w) (j:W[i]?=some o) (q:o.guard=none) (b:aak gA gL o.op=false)
  (d:∀(e:Operand->Value) (w:World),e (.tmp t)=.tuple #[]->∀s l,(execOp e o).run (ah true) w ≠ .ok s l):∀a n c,T.getD t undef=.slice (some a) n c->a.block<w.heap.size:=λa n c e=>by
 obtain⟨p,c,u,h⟩:=h;obtain⟨x,g,r⟩:=h.ao9 j q b t d;rw[e] at g;cases g with
 |slice f=>cases f with
  |some f=>obtain⟨m,_,_⟩:=f;exact(h.wr.lt m).2
 |fH=>exact absurd rfl r
def At.ahO    {t:Tmp} (h:At X T (.inRegion W (i::rest)::k) w) (j:W[i]?=some o) (q:o.guard=none) (b:aak gA gL o.op=false)
  (d:∀(e:Operand->Value) (w:World),e (.tmp t)=.tuple #[]->∀s l,(execOp e o).run (ah true) w ≠ .ok s l):∀a n c,T.getD t undef=.slice (some a) n c->Rgd X a.block:=λa n c e=>by
 obtain⟨p,c,u,h⟩:=h;obtain⟨x,g,r⟩:=h.ao9 j q b t d;rw[e] at g;cases g with
 |slice f=>cases f with
  |some f=>
   obtain⟨m,_,_⟩:=f;exact(h.kept.new m).imp (λh=>⟨_,h⟩) (·.2)
 |fH=>exact absurd rfl r
def At.aAm{c0 : Nat}(h:At X T (.code aaU::inB k) w)(s1:T.getD 1 undef=.slice A n c0)(D:T.getD 16 undef=.int .i64 n)(y:T.getD 20 undef=.int .i64 j)(hj:j<=n)(hm:(n:Int)<=9223372036854775807) :
  (j=n/\∃T',Tm cP T T'/\At X T' k w)\/(j<n/\∃x T',aAk w A j x/\PkR X w A j/\Tm cP T T'/\T'.getD 16 undef=.int .i64 n/\T'.getD 20 undef=.int .i64 (j+1:Nat)/\At X T' (.code aaU::inB k) w):=by
 have C:=Tm.refl cP T;unfold Go.Proofs.YtpbbcfocomejmaaGreatDoor.aaU at h;have h:=h.seq;replace h:=h.region (l:=[0]) rfl;obtain⟨v,K,af,⟨r,q⟩,m,g,f⟩:=h.jb (d:=21) (Φ:=λv s=>v=.bool (decide ((j:Int)<n))/\s=w) rfl rfl rfl (by decide) λJ s E=>fY (by exact y) (by exact D) E;rw[r] at g;rw[q] at f;clear r q;replace s1:=(m.same 1 rfl).trans s1;replace D:=(m.same 16 rfl).trans D;replace y:=(m.same 20 rfl).trans y;replace C:=C.trans (m.sw rfl);clear m;replace h:=f;clear f;replace h:=h.iV.seq.cond g;by_cases V:(j:Int)<n
 .right;rw[db V] at h;simp only[ph] at h;replace h:=h.skip.seq.seq;replace h:=h.region (l:=[0,1,2,3,4]) rfl;obtain⟨ii,hi,hz⟩:=(faQ true).i40;obtain⟨fs,g0,g1,hu,a8,aa,ad,a9,a6,a3⟩:=(faQ true).u40;obtain⟨v,K,aK,⟨a,hB,r,q⟩,m,i,f⟩:=h.jb (d:=23) (Φ:=λv s=>∃a,A=some a/\v=.pointer (some (a.add (j*ii.size)))/\s=w) rfl rfl rfl (by decide) λJ s E=>abU (faQ true).u23 hi (by exact s1) (by exact y) (by omega) E;rw[r,hz] at i;rw[q] at f;clear r q;replace s1:=(m.same 1 rfl).trans s1;replace D:=(m.same 16 rfl).trans D;replace y:=(m.same 20 rfl).trans y;replace g:=(m.same 21 rfl).trans g;replace C:=C.trans (m.sw rfl);clear m;replace h:=f;clear f;have hv:=h.noV (t:=23) rfl rfl rfl i (λe w he=>aeZ he);obtain⟨v,K,al,⟨S,P,r,a2,a0,q⟩,m,o,f⟩:=h.jb (d:=24) (Φ:=λv s=>∃S P,v=.agg #[S,P]/\w.cell? (a.add (j*2))=some S/\w.cell? ((a.add (j*2)).add 1)=some P/\s=w) rfl rfl rfl (by decide) λJ s E=>ajh hu hi hz (by exact i) hv.1 hv.2 E;rw[r] at o;rw[q] at f;clear r q;replace s1:=(m.same 1 rfl).trans s1;replace D:=(m.same 16 rfl).trans D;replace y:=(m.same 20 rfl).trans y;replace g:=(m.same 21 rfl).trans g;replace i:=(m.same 23 rfl).trans i;replace C:=C.trans (m.sw rfl);clear m;replace h:=f;clear f;obtain⟨v,K,ao,⟨r,q⟩,m,p,f⟩:=h.jb (d:=25) (Φ:=λv s=>v=S/\s=w) rfl rfl rfl (by decide) λJ s E=>abT hu a8 (by rw[a9];exact(faQ true).u3) rfl (by exact o) (by rw[ad];rfl) E;rw[r] at p;rw[q] at f;clear r q;replace s1:=(m.same 1 rfl).trans s1;replace D:=(m.same 16 rfl).trans D;replace y:=(m.same 20 rfl).trans y;replace g:=(m.same 21 rfl).trans g;replace i:=(m.same 23 rfl).trans i;replace o:=(m.same 24 rfl).trans o;replace C:=C.trans (m.sw rfl);clear m;replace h:=f;clear f;obtain⟨v,K,ax,⟨z,a5,r,q⟩,m,u,f⟩:=h.jb (d:=26) (Φ:=λv s=>∃z,S=.int .i64 z/\v=.int .i64 (IntKind.i64.wrap (z*1))/\s=w) rfl rfl rfl (by decide) λJ s E=>let⟨v,a1,z,O,Y,a4⟩:=alx E rfl;⟨v,a1,z,p.symm.trans O,Y,a4⟩
  rw[r] at u;rw[q] at f;clear r q;replace s1:=(m.same 1 rfl).trans s1;replace D:=(m.same 16 rfl).trans D;replace y:=(m.same 20 rfl).trans y;replace g:=(m.same 21 rfl).trans g;replace i:=(m.same 23 rfl).trans i;replace o:=(m.same 24 rfl).trans o;replace p:=(m.same 25 rfl).trans p;replace C:=C.trans (m.sw rfl);clear m;replace h:=f;clear f;subst a5;obtain⟨v,K,aL,⟨r,q⟩,m,G,f⟩:=h.jb (d:=22) (Φ:=λv s=>v=.bool (IntKind.i64.wrap (z*1) ==z)/\s=w) rfl rfl rfl (by decide) λJ s E=>alz (by exact u) (by exact p) E;rw[r] at G;rw[q] at f;clear r q;replace s1:=(m.same 1 rfl).trans s1;replace D:=(m.same 16 rfl).trans D;replace y:=(m.same 20 rfl).trans y;replace g:=(m.same 21 rfl).trans g;replace i:=(m.same 23 rfl).trans i;replace o:=(m.same 24 rfl).trans o;replace p:=(m.same 25 rfl).trans p;replace u:=(m.same 26 rfl).trans u;replace C:=C.trans (m.sw rfl);clear m;replace h:=f;clear f;obtain⟨hq,f⟩:=h.iV.ayk G;replace h:=f.seq.seq;clear f;replace h:=h.region (l:=[0,1,2,3]) rfl;obtain⟨v,K,an,⟨r,q⟩,m,H,f⟩:=h.jb (d:=27) (Φ:=λv s=>v=P/\s=w) rfl rfl rfl (by decide) λJ s E=>abT hu aa (by rw[a3];exact(faQ true).u38) rfl (by exact o) (by rw[a6];rfl) E;rw[r] at H;rw[q] at f;clear r q;replace s1:=(m.same 1 rfl).trans s1;replace D:=(m.same 16 rfl).trans D;replace y:=(m.same 20 rfl).trans y;replace g:=(m.same 21 rfl).trans g;replace G:=(m.same 22 rfl).trans G;replace i:=(m.same 23 rfl).trans i;replace o:=(m.same 24 rfl).trans o;replace p:=(m.same 25 rfl).trans p;replace u:=(m.same 26 rfl).trans u;replace C:=C.trans (m.sw rfl);clear m;replace h:=f;clear f;have W:=h.ahO (t:=27) rfl rfl rfl λe w he=>adZ (faQ true).u38 he;rw[H] at W;obtain⟨v,K,aT,⟨B,m,c,a7,r,q⟩,m,I,f⟩:=h.jb (d:=28) (Φ:=λv s=>∃B m c,P=.slice B m c/\v=.int .i64 m/\s=w) rfl rfl rfl (by decide) λJ s E=>let⟨v,a1,B,m,c,O,Y,a4⟩:=ahL (faQ true).u38 E;⟨v,a1,B,m,c,H.symm.trans O,Y,a4⟩
  rw[r] at I;rw[q] at f;clear r q;replace s1:=(m.same 1 rfl).trans s1;replace D:=(m.same 16 rfl).trans D;replace y:=(m.same 20 rfl).trans y;replace g:=(m.same 21 rfl).trans g;replace G:=(m.same 22 rfl).trans G;replace i:=(m.same 23 rfl).trans i;replace o:=(m.same 24 rfl).trans o;replace p:=(m.same 25 rfl).trans p;replace u:=(m.same 26 rfl).trans u;replace H:=(m.same 27 rfl).trans H;replace C:=C.trans (m.sw rfl);clear m;replace h:=f;clear f;subst a7;obtain⟨v,K,aX,⟨r,q⟩,m,M,f⟩:=h.jb (d:=3) (Φ:=λv s=>v=.int .i64 c/\s=w) rfl rfl rfl (by decide) λJ s E=>alA (faQ true).u38 (by exact H) E;rw[r] at M;rw[q] at f;clear r q;replace s1:=(m.same 1 rfl).trans s1;replace D:=(m.same 16 rfl).trans D;replace y:=(m.same 20 rfl).trans y;replace g:=(m.same 21 rfl).trans g;replace G:=(m.same 22 rfl).trans G;replace i:=(m.same 23 rfl).trans i;replace o:=(m.same 24 rfl).trans o;replace p:=(m.same 25 rfl).trans p;replace u:=(m.same 26 rfl).trans u;replace H:=(m.same 27 rfl).trans H;replace I:=(m.same 28 rfl).trans I;replace C:=C.trans (m.sw rfl);clear m;replace h:=f;clear f;obtain⟨v,K,aJ,⟨r,q⟩,m,L,f⟩:=h.jb (d:=4) (Φ:=λv s=>v=.bool (decide ((m:Int)<1))/\s=w) rfl rfl rfl (by decide) λJ s E=>fY (by exact I) rfl E;rw[r] at L;rw[q] at f;clear r q;replace s1:=(m.same 1 rfl).trans s1;replace M:=(m.same 3 rfl).trans M;replace D:=(m.same 16 rfl).trans D;replace y:=(m.same 20 rfl).trans y;replace g:=(m.same 21 rfl).trans g;replace G:=(m.same 22 rfl).trans G;replace i:=(m.same 23 rfl).trans i;replace o:=(m.same 24 rfl).trans o;replace p:=(m.same 25 rfl).trans p;replace u:=(m.same 26 rfl).trans u;replace H:=(m.same 27 rfl).trans H;replace I:=(m.same 28 rfl).trans I;replace C:=C.trans (m.sw rfl);clear m;replace h:=f;clear f;obtain⟨U,f⟩:=h.iV.chk L;replace h:=f.seq.seq;clear f;replace h:=h.region (l:=[0]) rfl;clear L;obtain⟨v,K,b2,⟨r,q⟩,m,L,f⟩:=h.jb (d:=4) (Φ:=λv s=>v=.bool (decide ((9223372036854775807:Int)<c))/\s=w) rfl rfl rfl (by decide) λJ s E=>fY rfl (by exact M) E;rw[r] at L;rw[q] at f;clear r q;replace s1:=(m.same 1 rfl).trans s1;replace M:=(m.same 3 rfl).trans M;replace D:=(m.same 16 rfl).trans D;replace y:=(m.same 20 rfl).trans y;replace g:=(m.same 21 rfl).trans g;replace G:=(m.same 22 rfl).trans G;replace i:=(m.same 23 rfl).trans i;replace o:=(m.same 24 rfl).trans o;replace p:=(m.same 25 rfl).trans p;replace u:=(m.same 26 rfl).trans u;replace H:=(m.same 27 rfl).trans H;replace I:=(m.same 28 rfl).trans I;replace C:=C.trans (m.sw rfl);clear m;replace h:=f;clear f;obtain⟨N,f⟩:=h.iV.chk L;replace h:=f.seq.seq;clear f;replace h:=h.region (l:=[0]) rfl;clear L;obtain⟨v,K,b0,⟨r,q⟩,m,L,f⟩:=h.jb (d:=4) (Φ:=λv s=>v=.bool (decide ((c:Int)<m))/\s=w) rfl rfl rfl (by decide) λJ s E=>fY (by exact M) (by exact I) E;rw[r] at L;rw[q] at f;clear r q;replace s1:=(m.same 1 rfl).trans s1;replace M:=(m.same 3 rfl).trans M;replace D:=(m.same 16 rfl).trans D;replace y:=(m.same 20 rfl).trans y;replace g:=(m.same 21 rfl).trans g;replace G:=(m.same 22 rfl).trans G;replace i:=(m.same 23 rfl).trans i;replace o:=(m.same 24 rfl).trans o;replace p:=(m.same 25 rfl).trans p;replace u:=(m.same 26 rfl).trans u;replace H:=(m.same 27 rfl).trans H;replace I:=(m.same 28 rfl).trans I;replace C:=C.trans (m.sw rfl);clear m;replace h:=f;clear f;obtain⟨R,f⟩:=h.iV.chk L;replace h:=f.seq;clear f;replace h:=h.region (l:=[0]) rfl;obtain⟨v,K,b1,⟨r,q⟩,m,s5,f⟩:=h.jb (d:=5) (Φ:=λv s=>v=.int .i64 (0:Nat)/\s=w) rfl rfl rfl (by decide) λJ s E=>ja E;rw[r] at s5;rw[q] at f;clear r q;replace s1:=(m.same 1 rfl).trans s1;replace M:=(m.same 3 rfl).trans M;replace L:=(m.same 4 rfl).trans L;replace D:=(m.same 16 rfl).trans D;replace y:=(m.same 20 rfl).trans y;replace g:=(m.same 21 rfl).trans g;replace G:=(m.same 22 rfl).trans G;replace i:=(m.same 23 rfl).trans i;replace o:=(m.same 24 rfl).trans o;replace p:=(m.same 25 rfl).trans p;replace u:=(m.same 26 rfl).trans u;replace H:=(m.same 27 rfl).trans H;replace I:=(m.same 28 rfl).trans I;replace C:=C.trans (m.sw rfl);clear m;replace h:=f;clear f;replace U:=eL U;replace N:=eL N;replace R:=eL R;replace h:=h.iV.seq.block.loop;obtain⟨l,T2,hl,E,F,f⟩:=At.awS (by omega) m 0 (by omega) h H I s5;replace h:=f.region (l:=[0,1]) rfl;clear f;replace s1:=(F.same 1 rfl).trans s1;replace M:=(F.same 3 rfl).trans M;clear L;clear s5;replace D:=(F.same 16 rfl).trans D;replace y:=(F.same 20 rfl).trans y;replace g:=(F.same 21 rfl).trans g;clear G;replace i:=(F.same 23 rfl).trans i;replace o:=(F.same 24 rfl).trans o;clear p;clear u;replace H:=(F.same 27 rfl).trans H;replace I:=(F.same 28 rfl).trans I;replace C:=C.trans (F.mono aAl);clear F;obtain⟨v,K,ay,⟨r,q⟩,m,G,f⟩:=h.jb (d:=22) (Φ:=λv s=>v=.int .i64 (IntKind.i64.wrap ((j:Int)+1))/\s=w) rfl rfl rfl (by decide) λJ s E=>aly (by exact y) rfl E;rw[r] at G;rw[q] at f;clear r q;replace D:=(m.same 16 rfl).trans D;replace y:=(m.same 20 rfl).trans y;replace C:=C.trans (m.sw rfl);clear m;replace h:=f;clear f;clear y;obtain⟨v,K,aP,⟨r,q⟩,m,y,f⟩:=h.jb (d:=20) (Φ:=λv s=>v=.int .i64 (IntKind.i64.wrap ((j:Int)+1))/\s=w) rfl rfl rfl (by decide) λJ s E=>let⟨v,a1,O,Y⟩:=ahK E;⟨v,a1,O.trans G,Y⟩
  rw[r] at y;rw[q] at f;clear r q;replace D:=(m.same 16 rfl).trans D;replace C:=C.trans (m.sw rfl);clear m;replace h:=f;clear f;rw[ae0 (by omega)] at y;subst hl;exact⟨by omega,(z,l),_,⟨⟨a,B,c,hB,a2,a0,(by show 1<=l.length;omega),(by show l.length<=c;omega),N,E⟩,aa8 hq⟩,λO b n2 c2 Q Z=>(by rw[hB] at Q;cases Q;rw[a0] at Z;exact W b n2 c2 (ef Z)),C,D,y,h.iV.again⟩
 .left;rw[bv V] at h;simp only[kw,qB] at h;exact⟨by omega,_,C,h.exit rfl⟩
def At.awT{A:Option Addr}{m c:Nat}(o:(m:Int)<=9223372036854775807):∀(n j:Nat) {T:Array Value},m=j+n->At X T (.code aaU::inB k) w->T.getD 1 undef=.slice A m c->T.getD 16 undef=.int .i64 m->T.getD 20 undef=.int .i64 j->
  ∃l T',l.length=n/\RdP w A j l/\(∀i,i<n->PkR X w A (j+i))/\Tm cP T T'/\At X T' k w
 |0,j,T,e,h,s1,dn,gW=>by
  rcases h.aAm s1 dn gW (by omega) o with⟨_,T',B,v⟩|⟨d,_⟩
  .exact⟨[],T',rfl,λi x a=>by simp at a,λi a=>absurd a (sE i),B,v⟩
  .omega
 |n+1,j,T,e,h,s1,dn,gW=>by
  rcases h.aAm s1 dn gW (by omega) o with⟨E,_⟩|⟨d,x,D,u,q,b,g,p,C⟩
  .omega
  .obtain⟨l,T',r,t,z,f,s⟩:=At.awT o n (j+1) (by omega) C ((b.same 1 rfl).trans s1) g p;refine⟨x::l,T',by simp[r],λi y a=> ?_,λi a=> ?_,b.trans f,s⟩
   case refine_2=>
    cases i with
    |zero=>exact q
    |succ i=>
     have:=z i (by omega);have e:j+1+i=j+(i+1):=by omega
     rwa [e] at this
   cases i with
   |zero=>simp at a;subst a;exact u
   |succ i=>
    have:=t i y (by simpa using a);have e:j+1+i=j+(i+1):=by omega
    rwa [e] at this
end
def arZ:gL.contains 0=true:=by unfold gL;kernel_rfl
def aji:gL.contains 1=true:=by unfold gL;kernel_rfl
def ahP(h:gL.contains g=true):g∈gL:=by simpa using h
abbrev mH:List Nat:=6::7::cP
def Tm.mh{T T':Array Value}{d:Nat}(h:Tm [d] T T')(b:mH.contains d=true):Tm mH T T':=h.mono λt a=>by
 simp at a;subst a;exact b
def aAn(t:Nat)(h:cP.contains t=true):mH.contains t=true:=by
 simp only[mH,te,qT];exact .inr (.inr h)
noncomputable def ajj:Code:=.seq (.region 58 aiB false) (.seq (.region 59 ac4 false) cM)
noncomputable def ar0:Code:=.seq (aaR 54 aqZ 19) (.seq (aaR 55 aq0 19) (.seq (aaR 56 aq1 19) (.seq (.region 57 anb false) (.seq (.block 53 (.loop ml)) ajj))))
section
variable {X:Cx} {T:Array Value} {k:List Item} {w:World}
def At.head(h:At X T (.code jN::k) w):∃s A n c l T',T.getD 0 undef=.int .i64 s/\1<=s/\s<=99/\(∃v,w.cell? ⟨0,0,none⟩=some v)/\(∃v,w.cell? ⟨1,0,none⟩=some v)/\
  T.getD 1 undef=.slice A n c/\n<=c/\(c:Int)<=9223372036854775807/\l.length=n/\RdP w A 0 l/\(∀i,i<n->PkR X w A i)/\(∀a,A=some a->Rgd X a.block)/\Tm mH T T'/\T'.getD 6 undef=.slice none 0 0/\T'.getD 7 undef=.bool false/\At X T' (.code ar0::k) w:=by
 have j:=Tm.refl mH T;unfold jN at h;have h:=h.seq.seq;replace h:=h.region (l:=[0,1,2]) rfl;obtain⟨v,E,Z,⟨x,q⟩,m,p,f⟩:=h.jb (d:=6) (Φ:=λv g=>v=.slice none 0 0/\g=w) rfl rfl rfl (by decide) λD g o=>ja o;rw[x] at p;rw[q] at f;replace j:=j.trans (m.mh rfl);replace h:=f;obtain⟨v,E,a1,⟨x,q⟩,m,r,f⟩:=h.jb (d:=7) (Φ:=λv g=>v=.bool false/\g=w) rfl rfl rfl (by decide) λD g o=>ja o;rw[x] at r;rw[q] at f;replace p:=(m.same 6 rfl).trans p;replace j:=j.trans (m.mh rfl);replace h:=f;obtain⟨v,E,a2,⟨s,V,x,q⟩,m,u,f⟩:=h.jb (d:=16) (Φ:=λv g=>∃s,T.getD 0 undef=.int .i64 s/\v=.bool (decide (s<1))/\g=w) rfl rfl rfl (by decide) λD g o=>let⟨v,U,z,P,Q,O⟩:=arW (b:=1) rfl o;⟨v,U,z,(j.same 0 rfl).symm.trans P,Q,O⟩
 rw[x] at u;rw[q] at f;replace p:=(m.same 6 rfl).trans p;replace r:=(m.same 7 rfl).trans r;replace j:=j.trans (m.mh rfl);replace h:=f;obtain⟨I,f⟩:=h.iV.chk u;replace h:=f.seq.seq;replace h:=h.region (l:=[0]) rfl;obtain⟨v,E,a6,⟨x,q⟩,m,u,f⟩:=h.jb (d:=16) (Φ:=λv g=>v=.bool (decide ((99:Int)<s))/\g=w) rfl rfl rfl (by decide) λD g o=>fY rfl (by exact(j.same 0 rfl).trans V) o;rw[x] at u;rw[q] at f;replace p:=(m.same 6 rfl).trans p;replace r:=(m.same 7 rfl).trans r;replace j:=j.trans (m.mh rfl);replace h:=f;obtain⟨J,f⟩:=h.iV.chk u;replace h:=f.seq.seq;replace h:=h.region (l:=[0,1,2,3,4,5]) rfl;obtain⟨ms,W⟩:=(faQ true).auU;have hv:=h.aAi (ahP arZ);obtain⟨v,E,a5,⟨R,q⟩,m,u,f⟩:=h.jb (d:=16) (Φ:=λv g=>w.cell? ⟨0,0,none⟩=some v/\g=w) rfl rfl rfl (by decide) λD g o=>ahM W rfl rfl hv o;rw[q] at f;replace p:=(m.same 6 rfl).trans p;replace r:=(m.same 7 rfl).trans r;replace j:=j.trans (m.mh rfl);replace h:=f;have N:=h.aAi (ahP aji);obtain⟨v,E,a0,⟨S,q⟩,m,u,f⟩:=h.jb (d:=16) (Φ:=λv g=>w.cell? ⟨1,0,none⟩=some v/\g=w) rfl rfl rfl (by decide) λD g o=>ahM W rfl rfl N o;rw[q] at f;replace p:=(m.same 6 rfl).trans p;replace r:=(m.same 7 rfl).trans r;replace j:=j.trans (m.mh rfl);replace h:=f;have M:=h.ahO (t:=1) rfl rfl rfl λe w he=>adZ (faQ true).u23 he;rw[j.same 1 rfl] at M;obtain⟨v,E,a4,⟨A,n,c,F,x,q⟩,m,u,f⟩:=h.jb (d:=16) (Φ:=λv g=>∃A n c,T.getD 1 undef=.slice A n c/\v=.int .i64 n/\g=w) rfl rfl rfl (by decide) λD g o=>let⟨v,U,B,m,c,P,Q,O⟩:=ahL (faQ true).u23 o;⟨v,U,B,m,c,(j.same 1 rfl).symm.trans P,Q,O⟩
 rw[x] at u;rw[q] at f;replace p:=(m.same 6 rfl).trans p;replace r:=(m.same 7 rfl).trans r;replace j:=j.trans (m.mh rfl);replace h:=f;obtain⟨v,E,a3,⟨x,q⟩,m,y,f⟩:=h.jb (d:=18) (Φ:=λv g=>v=.int .i64 c/\g=w) rfl rfl rfl (by decide) λD g o=>alA (faQ true).u23 (by exact(j.same 1 rfl).trans F) o;rw[x] at y;rw[q] at f;replace p:=(m.same 6 rfl).trans p;replace r:=(m.same 7 rfl).trans r;replace u:=(m.same 16 rfl).trans u;replace j:=j.trans (m.mh rfl);replace h:=f;obtain⟨v,E,a7,⟨x,q⟩,m,K,f⟩:=h.jb (d:=20) (Φ:=λv g=>v=.int .i64 (0:Nat)/\g=w) rfl rfl rfl (by decide) λD g o=>ja o;rw[x] at K;rw[q] at f;replace p:=(m.same 6 rfl).trans p;replace r:=(m.same 7 rfl).trans r;replace u:=(m.same 16 rfl).trans u;replace y:=(m.same 18 rfl).trans y;replace j:=j.trans (m.mh rfl);replace h:=f;obtain⟨v,E,a8,⟨x,q⟩,m,C,f⟩:=h.jb (d:=19) (Φ:=λv g=>v=.bool (decide ((9223372036854775807:Int)<c))/\g=w) rfl rfl rfl (by decide) λD g o=>fY rfl (by exact y) o;rw[x] at C;rw[q] at f;replace p:=(m.same 6 rfl).trans p;replace r:=(m.same 7 rfl).trans r;replace u:=(m.same 16 rfl).trans u;replace y:=(m.same 18 rfl).trans y;replace K:=(m.same 20 rfl).trans K;replace j:=j.trans (m.mh rfl);replace h:=f;obtain⟨H,f⟩:=h.iV.chk C;replace h:=f.seq.seq;replace h:=h.region (l:=[0]) rfl;obtain⟨v,E,Y,⟨x,q⟩,m,C,f⟩:=h.jb (d:=19) (Φ:=λv g=>v=.bool (decide ((c:Int)<n))/\g=w) rfl rfl rfl (by decide) λD g o=>fY (by exact y) (by exact u) o;rw[x] at C;rw[q] at f;replace p:=(m.same 6 rfl).trans p;replace r:=(m.same 7 rfl).trans r;replace u:=(m.same 16 rfl).trans u;replace K:=(m.same 20 rfl).trans K;replace j:=j.trans (m.mh rfl);replace h:=f;obtain⟨L,f⟩:=h.iV.chk C;replace h:=f.seq.block.loop;replace I:=eL I;replace J:=eL J;replace H:=eL H;replace L:=eL L;obtain⟨l,T2,hl,o,hR,G,f⟩:=At.awT (by omega) n 0 (by omega) h ((j.same 1 rfl).trans F) u K;exact⟨s,A,n,c,l,T2,V,I,J,⟨_,R⟩,⟨_,S⟩,F,by omega,H,hl,o,λi hi=>(by have:=hR i hi;rwa [jt] at this),λa e=>M a n c (by rw[F,e]),j.trans (G.mono aAn),(G.same 6 rfl).trans p,(G.same 7 rfl).trans r,f⟩
def At.names(h:At X T (.code ar0::k) w):∃A n c C T',T.getD 2 undef=.slice A n c/\(∀a,A=some a->a.block<w.heap.size)/\(∀a,A=some a->Rgd X a.block)/\(n:Int)<=2147483647/\n<=c/\(c:Int)<=9223372036854775807/\C.size=2*n/\Tm cP T T'/\
  T'.getD 16 undef=.int .i64 n/\T'.getD 27 undef=.slice (some ⟨w.heap.size,0,none⟩) n n/\T'.getD 28 undef=.int .i64 (0:Nat)/\At X T' (.code (.block 53 (.loop ml)) :: .code ajj::k) (w.alloc (.cells C 160)):=by
 have j:=Tm.refl cP T;unfold ar0 at h;have h:=h.seq.seq;replace h:=h.region (l:=[0,1,2]) rfl;have G:=h.au1 (t:=2) rfl rfl rfl λe w M=>adZ (faQ true).u31 M;have J:=h.ahO (t:=2) rfl rfl rfl λe w M=>adZ (faQ true).u31 M;obtain⟨v,z,Q,⟨A,n,c,u,r,p⟩,m,i,b⟩:=h.jb (d:=16) (Φ:=λv f=>∃A n c,T.getD 2 undef=.slice A n c/\v=.int .i64 n/\f=w) rfl rfl rfl (by decide) λD f q=>let⟨v,Y,B,m,c,Z,R,S⟩:=ahL (faQ true).u31 q;⟨v,Y,B,m,c,Z,R,S⟩
 rw[r] at i;rw[p] at b;replace j:=j.trans (m.sw rfl);replace h:=b;obtain⟨v,z,O,⟨r,p⟩,m,o,b⟩:=h.jb (d:=18) (Φ:=λv f=>v=.int .i64 c/\f=w) rfl rfl rfl (by decide) λD f q=>alA (faQ true).u31 (by exact(j.same 2 rfl).trans u) q;rw[r] at o;rw[p] at b;replace i:=(m.same 16 rfl).trans i;replace j:=j.trans (m.sw rfl);replace h:=b;obtain⟨v,z,U,⟨r,p⟩,m,g,b⟩:=h.jb (d:=19) (Φ:=λv f=>v=.bool (decide ((2147483647:Int)<n))/\f=w) rfl rfl rfl (by decide) λD f q=>fY rfl (by exact i) q;rw[r] at g;rw[p] at b;replace i:=(m.same 16 rfl).trans i;replace o:=(m.same 18 rfl).trans o;replace j:=j.trans (m.sw rfl);replace h:=b;obtain⟨s,b⟩:=h.iV.chk g;replace h:=b.seq.seq;replace h:=h.region (l:=[0]) rfl;obtain⟨v,z,W,⟨r,p⟩,m,g,b⟩:=h.jb (d:=19) (Φ:=λv f=>v=.bool (decide ((9223372036854775807:Int)<c))/\f=w) rfl rfl rfl (by decide) λD f q=>fY rfl (by exact o) q;rw[r] at g;rw[p] at b;replace i:=(m.same 16 rfl).trans i;replace o:=(m.same 18 rfl).trans o;replace j:=j.trans (m.sw rfl);replace h:=b;obtain⟨y,b⟩:=h.iV.chk g;replace h:=b.seq.seq;replace h:=h.region (l:=[0]) rfl;obtain⟨v,z,H,⟨r,p⟩,m,g,b⟩:=h.jb (d:=19) (Φ:=λv f=>v=.bool (decide ((c:Int)<n))/\f=w) rfl rfl rfl (by decide) λD f q=>fY (by exact o) (by exact i) q;rw[r] at g;rw[p] at b;replace i:=(m.same 16 rfl).trans i;replace j:=j.trans (m.sw rfl);replace h:=b;obtain⟨E,b⟩:=h.iV.chk g;replace h:=b.seq;replace h:=h.region (l:=[0,1]) rfl;replace s:=eL s;replace y:=eL y;replace E:=eL E;obtain⟨C,L,K⟩:=anM (faQ true) (w:=w) (e:=(FQ cB H (.inRegion anb (0::[1]) :: .code (.seq (.block 53 (.loop ml)) ajj)::k)).eval) (x:=.tmp 16) (dst:=some 40) (ty:=149) (pos:= "") (af:=#[]) (gd:=none) s (by exact i);obtain⟨v,z,V,⟨r,p⟩,m,F,b⟩:=h.jb (d:=27) (Φ:=λv f=>v=.slice (some ⟨w.heap.size,0,none⟩) n n/\f=w.alloc (.cells C 160)) rfl rfl rfl (by decide) λD f q=>by have I:=K.symm.trans q;cases I;exact⟨_,rfl,rfl,rfl⟩
 rw[r] at F;rw[p] at b;replace i:=(m.same 16 rfl).trans i;replace j:=j.trans (m.sw rfl);replace h:=b;obtain⟨v,z,P,⟨r,p⟩,m,N,b⟩:=h.jb (d:=28) (Φ:=λv f=>v=.int .i64 (0:Nat)/\f=w.alloc (.cells C 160)) rfl rfl rfl (by decide) λD f q=>ja q;rw[r] at N;rw[p] at b;replace i:=(m.same 16 rfl).trans i;replace F:=(m.same 27 rfl).trans F;replace j:=j.trans (m.sw rfl);replace h:=b;exact⟨A,n,c,C,_,u,λa e=>G a n c (by rw[u,e]),λa e=>J a n c (by rw[u,e]),s,by omega,y,L,j,i,F,N,h.iV.seq⟩
end
section
variable {β:Bool} {R:List Frame->World->Prop} {c0 c:Cfg} {iq ρ:Ren} {w0 w w2:World} {l l2:List Frame}
def ar1   :∃o a,step P (nj ⟨(jP P).finish v,[],.running,none,none⟩ w)=.ended o a:=by
 have h:∃o a b,stepG P true ⟨(jP P).finish v,[],.running,none,none⟩ w=.ended o a b:=by
  simp only[jP,Frame.finish,stepG,stepG.exec,acD];exact⟨_,_,_,rfl⟩
 obtain⟨o,a,b,h⟩:=h;exact⟨o,a,cD rfl h⟩
def ar2(g:iz (ah β) ρ c.l l)(E:oX c.l):(∃o a,step (ah β) (nj (Gl l [jP (ah β)]) w)=.ended o a)\/∃v a,step (ah β) (nj (Gl l [jP (ah β)]) w)=.next (nj ⟨(jP (ah β)).finish v,[],.running,none,none⟩ a):=by
 obtain⟨L,m,G,hd,K⟩:=E;obtain⟨x,M,y,O,N,k⟩:=g.ne';have H:=g.lone m k;subst H k;rw[m] at g;have z:=g.head;obtain⟨fn,s,e,D,B,u,t⟩:=y;obtain⟨C,F,J,j,b,p,A⟩:=z;dsimp only at C F J j b p A;obtain rfl:B=.returning:=by
  rcases b with b|b
  .rw[G] at b;cases b.1
  .exact b.2
 obtain rfl:D=[]:=by rw[hd] at j;cases j;rfl
 obtain rfl:u=.normal:=p.2;have i:∀{r:GStep},stepG (ah β) true (Gl [⟨fn,s,e,[],.returning,.normal,t⟩] [jP (ah β)]) w=r->(∃o a d,r=.ended o a d)\/(∃v a d,r=.go ⟨(jP (ah β)).finish v,[],.running,none,none⟩ a d):=by
  intro r n;subst n;simp only[Gl,stepG,unwind,rr];cases I:(ah β).funcs[fn]? with
  |none=>exact .inr ⟨_,_,_,rfl⟩
  |some f=>
   dsimp only;cases n:(results f s).runT (ah β) w #[] with
   |mk q d=>
    cases q with
    |ok v a=>exact .inr ⟨v,a,_,rfl⟩
    |halt q a=>cases q<;>exact .inl ⟨_,_,_,rfl⟩
 rcases i rfl with⟨o,a,d,h⟩|⟨v,a,d,h⟩
 .exact .inl ⟨o,a,cD rfl h⟩
 .exact .inr ⟨v,a,dI rfl h⟩
def gO.runs:∀(n:Nat) {c:Cfg} {ρ:Ren} {l:List Frame} {w:World},gO β R c0 iq w0 c ρ l w->runN (ah β) n (nj (Gl l [jP (ah β)]) w)=.next (nj (Gl l2 [jP (ah β)]) w2)->l2≠[]->∃i g,gO β R c0 iq w0 i g l2 w2
 |0,c,ρ,l,w,h,hr,hne=>by
  simp only[runN,qG] at hr;obtain⟨b,rfl⟩:=gM hr;obtain⟨_,_,y,m,_,a⟩:=h.st.ne';obtain rfl:=np (by rw[a];simp) hne b;exact⟨c,ρ,h⟩
 |n+1,c,ρ,l,w,h,hr,hne=>by
  obtain⟨_,_,y,m,_,a⟩:=h.st.ne';have j:l≠[]:=by rw[a];simp
  unfold runN at hr;by_cases d:oX c.l
  .exfalso;rcases ar2 (w:=w) h.st d with⟨o,f,e⟩|⟨v,f,e⟩
   .rw[e] at hr;cases hr
   .rw[e] at hr;cases n with
    |zero=>
     simp only[runN,qG] at hr;obtain⟨b, -⟩:=gM hr;cases l2 with
     |nil=>exact hne rfl
     |cons x t=>
      have:=fk Goroutine.callers b;simp[Gl] at this
    |succ n=>
     unfold runN at hr;obtain⟨o,s,p⟩:=ar1 (P:=ah β) (v:=v) (w:=f);simp only[p] at hr;cases hr
  .obtain⟨i,g,z,r,u,q, -, -,k, -⟩:=h.ac9 true d;rw[dI (iY j _) (k _)] at hr;exact gO.runs n q hr hne
def gO.calls{f:FuncId}{args:Array Value}{y:Frame}{i:List Frame}(h:gO β R c0 iq w0 c ρ (Frame.enter (ah β) f args .normal::y::i) w)(u:Calls (ah β) f args w λe a=>∃v,e=.returned v/\Post v a) :
  ∃l p v j,gO β R c0 iq w0 l p (y.finish v::i) j/\Post v j:=by
 obtain⟨e,a,g,⟨v,rfl,B⟩,⟨n,F⟩,G,D⟩:=u (y::i++[jP (ah β)]);obtain⟨l,p,A⟩:=h.runs (l2:=g::y::i) (w2:=a) n F (by simp);have d:∀base,stepG (ah β) true (Gl (g::y::i) base) a=.go (Gl (y.finish v::i) base) a (seen (ah β) g.fn ((results ((ah β).funcs[g.fn]?.getD default) g.tmps).runT (ah β) a #[]).2):=λbase=>by
  obtain⟨r,hd,k,fn,m,o⟩:=D;obtain⟨J,s,t,L,K,I,H⟩:=g;dsimp only at r hd k m o;subst r hd k;have b:((results fn s).runT (ah β) a #[]).1=.ok v a:=by rw[rh];exact o
  simp only[Gl,stepG,unwind,m,qn,qU];cases z:(results fn s).runT (ah β) a #[] with
  |mk q M=>
   rw[z] at b;dsimp only at b;subst b;simp[doReturn,GStep.after]
 obtain⟨C,E,x, -, -⟩:=A.go rfl true d;exact⟨C,E,v,a,x,B⟩
end
end
section
open Go.Conc Go.ConcN Go.RowKit
abbrev iw:=Int×List (Int×ByteArray)
def eF(fv:Int->List iw->Int->ByteArray×Bool):Prop:=∀(b:Bool) (w:World) (a:Int) (A:Option Addr) (n c:Nat) (l:List iw) (nm:Int),1<=a->a<=99->l.length=n->n<=c->(c:Int)<=9223372036854775807->RdP w A 0 l->In_ nm->
 Calls (ah b) 101 #[.int .i64 a,.slice A n c,.int .i64 nm] w λe d=>∃v,e=.returned v/\(v=.agg #[.string (fv a l nm).1,.bool (fv a l nm).2]/\Below w.heap.size w d)
def ajk(w:World)(A:Option Addr)(i:Nat)(nm:Int):Prop:=∃a,A=some a/\w.cell? (a.add i)=some (.int .i64 nm)/\In_ nm
def ahN.below{B:Option Addr}{x:Int×ByteArray}(h:ahN w B i x)(f:∀b,b<w.heap.size->w'.heap[b]?=w.heap[b]?):ahN w' B i x:=by
 obtain⟨⟨a,j,d,e⟩,g,l⟩:=h;have k:∀{A:Addr} {v:Value},w.cell? A=some v->w'.cell? A=some v:=λ{A v} c=>by
  rw[fX (f A.block (fZ c))];exact c
 exact⟨⟨a,j,k d,k e⟩,g,l⟩
def RdP.below{l:List iw}(h:RdP w A j l)(d:∀b,b<w.heap.size->w'.heap[b]?=w.heap[b]?):RdP w' A j l:=λi x o=>by
 obtain⟨⟨a,B,c,r,g,n,q,t,p,s⟩,f⟩:=h i x o;have k:∀{A:Addr} {v:Value},w.cell? A=some v->w'.cell? A=some v:=λ{A v} e=>by
  rw[fX (d A.block (fZ e))];exact e
 exact⟨⟨a,B,c,r,k g,k n,q,t,p,λi y m=>(s i y m).below d⟩,f⟩
def rq(a:Addr)(n:Nat):(a.add n).block=a.block:=by unfold Addr.add;split<;>rfl
def iK(b o n:Nat):(⟨b,o,none⟩:Addr).add n=⟨b,o+n,none⟩:=by
 unfold Addr.add;by_cases h:n=0
 .subst h;simp
 .simp[h]
section
variable {X:Cx} {T:Array Value} {k:List Item} {w:World}
def At.call    {d:Tmp} {f:FuncId} {args:Array Value} (h:At X T (.inRegion W (i::rest)::k) w) (n:W[i]?=some o) (u:o.guard=none) (p:o.dst=some d) (j:d<45)
  (D:∀w,(execOp (FQ cB T (.inRegion W (i::rest)::k)).eval o).runT (ah true) w #[]=(.ok (.enter f args) w,#[])) (q:Calls (ah true) f args w λe r=>∃v,e=.returned v/\Post v r) :
  ∃v g l,Post v g/\Tm [d] T l/\l.getD d undef=v/\At X l (.inRegion W rest::k) g:=by
 obtain⟨b,c,H,h⟩:=h;have a:∀base,stepG (ah true) true (Gl (FQ cB T (.inRegion W (i::rest)::k)::X.y::X.ys) base) w=.go (Gl (Frame.enter (ah true) f args .normal::FQ cB T (.inRegion W (i::rest)::k)::X.y::X.ys) base) w (seen (ah true) cB #[]):=λbase=>by
  have z:∀y,Region.wanted o y=true:=λy=>by unfold Region.wanted;rw[u]
  have F:stepG (ah true) true (Gl (FQ cB T (.inRegion W (i::rest)::k)::X.y::X.ys) base) w =
    stepG.apply (ah true) true (FQ cB T (.inRegion W (i::rest)::k)) (X.y::X.ys++base) none (execOp (FQ cB T (.inRegion W (i::rest)::k)).eval o) w:=by
   simp[Gl,stepG,stepG.exec,stepG.oper,Frame.oper?,n,z]
  rw[F];unfold stepG.apply;simp only[D,ph];simp[GStep.after,Gl]
 obtain⟨G,I,x, -, -⟩:=h.go rfl true a;obtain⟨A,E,v,g,m,C⟩:=x.calls q;have B:Frame.finish (FQ cB T (.inRegion W (i::rest)::k)) v=FQ cB (T.setIfInBounds d v) (.inRegion W rest::k):=by
  simp only[Frame.finish,n,qC,p]
 rw[B] at m;replace j:d<T.size:=aE j b;exact⟨v,g,_,C,.one (by simp) (λt s=>by rw[aF j,be s]),by rw[aF j,dl rfl],by simpa using b,A,E,m⟩
end
end
section
variable {β:Bool}
open Go.RowKit
def abV{a:Addr}(h:w.cell? a=some v):a.spot=none:=by
 unfold World.cell? at h;split at h
 .split at h
  .cases h
  .rename_i b;cases c:a.spot with
   |none=>rfl
   |some x=>rw[c] at b;exact absurd rfl b
 .cases h
def ItL(w:World)(A:Option Addr)(l:List (Int×ByteArray)):Prop:=∀i x,l[i]?=some x->∃b a,A=some ⟨b,a,none⟩/\b<w.heap.size/\w.cell? ⟨b,a+i*2,none⟩=some (.int .i64 x.1)/\w.cell? ⟨b,a+i*2+1,none⟩=some (.string x.2)/\cA x.1/\x.2.size<=maxLen
def ItL.of{l:List (Int×ByteArray)}(h:RdI w A 0 l):ItL w A l:=λi x k=>by
 obtain⟨e,j⟩:∃e,l[0]?=some e:=ar (by have:=aB k;omega);obtain⟨⟨p,m,f, -⟩, -, -⟩:=h 0 e j;obtain⟨⟨a,rfl,d,c⟩,o,q⟩:=h i x k;obtain rfl:=ef m;rw[jt] at d c;obtain⟨b,g,n⟩:=a;obtain rfl:n=none:=by
  have:=abV f;unfold Addr.add at this;simpa using this
 rw[iK] at d c;rw[iK] at c;refine⟨b,g,rfl,fZ d,d,c,o,by unfold maxLen;omega⟩
def ItL.below{l:List (Int×ByteArray)}(h:ItL w A l)(d:Below w.heap.size w w'):ItL w' A l:=λi x g=>by
 obtain⟨b,a,k,c,f,j,m⟩:=h i x g;have e:=d.block b c;exact⟨b,a,k,aE c d.size,(qv e).trans f,(qv e).trans j,m⟩
def alC(n m:Int)(s:ByteArray)(g:Nat)(w:World)(b:w.cell? ⟨g,0,none⟩=some (.int .i64 m)) :
  Calls (ah β) 166 #[.agg #[.int .i64 n,.string s],.pointer (some ⟨g,0,none⟩)] w λe c=>e=.returned (.bool (decide (n=m)))/\Below w.heap.size w c:=by
 have i:g≠w.heap.size:=λe=>by
  have:=fZ b;simp only at this;omega
 have a:=aA w (.cells #[.int .i64 n,.string s] 48);have d:(w.alloc (.cells #[.int .i64 n,.string s] 48)).cell? ⟨g,0,none⟩=some (.int .i64 m):=(qv (a.block g (fZ b))).trans b;by_cases h:n=m
 .subst h;go_enter wR,ntmps166;go_wp2;go_ret;exact⟨aC (by simp),a⟩
 .have f:(n ==m)=false:=dq.2 h;go_enter wR,ntmps166;go_wp2;go_ret;exact⟨aC (by simp[h]),a⟩
def ed(nm:Int):List (Int×ByteArray)->Int
 |[]=> -1
 |x::l=>if x.1=nm then 0 else let j:=ed nm l;if j<0 then -1 else j+1
def ae1{nm:Int}:∀{l:List (Int×ByteArray)},(∀y∈l,y.1≠nm)->ed nm l=-1
 |[],_=>rfl
 |x::l,h=>by
  show(if x.1=nm then _ else _)=_;rw[be (h x (by simp)),ae1 λy a=>h y (by simp[a])];rfl
def agv{nm:Int}{x:Int×ByteArray}:∀{l:List (Int×ByteArray)} {k:Nat},(∀y∈l.take k,y.1≠nm)->l[k]?=some x->x.1=nm->ed nm l=k
 |[],k,_,h,_=>by simp at h
 |y::l,0,_,h,hx=>by
  simp at h;subst h;show(if y.1=nm then _ else _)=_;rw[dl hx];rfl
 |y::l,k+1,hn,h,hx=>by
  show(if y.1=nm then _ else _)=_;rw[be (hn y (by simp)),agv (l:=l) (k:=k) (λz a=>hn z (by simp[a])) (by simpa using h) hx];show(if((k:Nat):Int)<0 then _ else _)=_;rw[be (by omega)];omega
end
section
variable {β:Bool}
open Go.RowKit
def aym:auF (β:=β) 166:=ax1 wR (by kernel_rfl) rfl
def ahQ(nm:Int)(l:List (Int×ByteArray))(A:Option Addr)(c g:Nat)(w:World)(D:ItL w A l)(F:l.length<=c)(I:c<=maxLen)(v:w.cell? ⟨g,0,none⟩=some (.int .i64 nm)) :
  Calls (ah β) 165 #[.slice A l.length c,.func (.func 166) #[] #[.pointer (some ⟨g,0,none⟩)]] w λe u=>e=.returned (.int .i64 (ed nm l))/\Below w.heap.size w u:=by
 unfold maxLen at I;have q:=fZ v;go_enter xZ,ntmps165;go_wp2;go_loopw [8] (λi wr=>∃k:Nat,k<=l.length/\i=.int .i64 k/\(∀y∈l.take k,y.1≠nm)/\Below w.heap.size w wr) (λi _=>l.length-(intOf i).toNat)
 case atStart=>exact⟨0,fa _,rfl,by simp,gn _ _⟩
 case round=>
  obtain⟨k,K,rfl,j,n⟩:=hrel;replace j:=ab j;have s:wr.cell? ⟨g,0,none⟩=some (.int .i64 nm):=(qv (n.block g q)).trans v;by_cases o:k<l.length
  .obtain⟨x,m⟩:=ar o;obtain⟨b,C,rfl,G,z,E,H,B⟩:=(D.below n) k x m;replace m:=ab m;have J:=aym (β:=β) (#[.agg #[.int .i64 x.1,.string x.2]]++#[.pointer (some ⟨g,0,none⟩)]) wr;go_wp2;refine(alC x.1 nm x.2 g wr s).mono ?_;rintro e u ⟨rfl,a⟩;replace a:=ae n a;by_cases h:x.1=nm
   .have d:ed nm l=k:=agv j.out m.out h;have p:=ab d;have r:decide (x.1=nm)=true:=db h;rw[r];go_wp2;go_ret;exact⟨by rw[p.out];rfl,a⟩
   .have t:∀y∈l.take (k+1),y.1≠nm:=by
     intro y f;rw[mx m.out,me] at f;rcases f with f|f
     .exact j.out y f
     .rw[lc.1 f];exact h
    replace t:=ab t;have r:decide (x.1=nm)=false:=bv h;rw[r];go_wp2;go_roundw
    case rel=>exact⟨k+1,by omega,by go_num,t.out,a⟩
    simp[intOf];omega
  .obtain rfl:k=l.length:=by omega
   have d:ed nm l=-1:=ae1 (by have:=j.out;rwa [ge] at this);have p:=ab d;go_wp2;go_ret;exact⟨by rw[p.out];rfl,n⟩
end
section
variable {β:Bool}
open Go.RowKit
noncomputable def gX(key:Int)(l:List (Int×ByteArray))(nm:Int):ByteArray×Bool:=match l[(ed nm l).toNat]? with
 |some x=>if ed nm l<0 then(⟨#[]⟩,false) else fA key x
 |none=>(⟨#[]⟩,false)
def abW(nm:Int):∀l:List (Int×ByteArray),ed nm l=-1\/∃(k:Nat) (x:Int×ByteArray),ed nm l=k/\l[k]?=some x
 |[]=>.inl rfl
 |y::l=>by
  show(if y.1=nm then _ else _)=(-1:Int)\/∃(k:Nat) (x:Int×ByteArray),(if y.1=nm then _ else _:Int)=k/\_;by_cases h:y.1=nm
  .rw[dl h];exact .inr ⟨0,y,rfl,rfl⟩
  .rw[be h];rcases abW nm l with a|⟨k,x,a,b⟩
   .rw[a];exact .inl rfl
   .rw[a];refine .inr ⟨k+1,x, ?_,by simpa using b⟩;show(if((k:Nat):Int)<0 then _ else _)=_;rw[be (by omega)];omega
def apd(key q nm:Int)(B:1<=key/\key<=99)(l:List (Int×ByteArray))(A:Option Addr)(c:Nat)(w:World)(G:ItL w A l)(o:l.length<=c)(t:c<=maxLen) :
  Calls (ah β) 141 #[.int .i64 key,.agg #[.int .i64 q,.slice A l.length c],.int .i64 nm] w λe v=>e=.returned (.tuple #[.string (gX key l nm).1,.bool (gX key l nm).2])/\Below w.heap.size w v:=by
 have HC:=ab t;unfold maxLen at t;go_enter yg,ntmps141;go_wp2;generalize f:(w.alloc (.cells #[.int .i64 q,.slice A l.length c] 36)).alloc (.cells #[.int .i64 nm] 3)=w0 at *;obtain⟨s,L,i,z,C,g,r,E⟩:=aeK f;have d:=G.below s;refine(ahQ nm l A c (w.heap.size+1) w0 d o HC.out (r 0)).mono ?_;rintro e u ⟨rfl,a⟩;have p:=d.below a;replace i:=ak i a;replace z:=i.cell;replace C:=i.frozen;replace g:=ak g a;replace r:=g.cell;replace E:=g.frozen;replace a:=ae s a;rcases abW nm l with h|⟨k,x,h,n⟩
 .have f:gX key l nm=(⟨#[]⟩,false):=by
   unfold gX;rw[h];split
   .rw[dl (by omega)]
   .rfl
  have HG:=ab f;rw[h];go_wp2;go_ret2;rw[HG.out];exact⟨rfl,a⟩
 .have f:gX key l nm=fA key x:=by
   unfold gX;rw[h,show((k:Nat):Int).toNat=k from rfl,n];show(if((k:Nat):Int)<0 then _ else _)=_;rw[be (by omega)]
  have HG:=ab f;obtain⟨b,F,rfl,I,D,H,J,j⟩:=p k x n;have y:=aB n;have K:=bv (show ¬((k:Int)<0) by omega);rw[h];go_wp2;refine(anz key x B j u).mono ?_;rintro e M ⟨rfl,m⟩;replace a:=ae a m;go_wp2;go_ret2;rw[HG.out];exact⟨rfl,a⟩
end
section
variable {β:Bool}
open Go.RowKit
noncomputable def cN(key:Int):List iw->Int->ByteArray×Bool
 |[],_=>(⟨#[]⟩,false)
 |p::l,nm=>if(gX key p.2 nm).2=true then((gX key p.2 nm).1,true) else cN key l nm
def ahR{key nm:Int}:∀{l:List iw} {k:Nat},(∀p∈l.take k,(gX key p.2 nm).2=false)->cN key l nm=cN key (l.drop k) nm
 |[],k,_=>by simp
 |p::l,0,_=>rfl
 |p::l,k+1,h=>by
  show(if(gX key p.2 nm).2=true then _ else cN key l nm)=_;rw[be (by rw[h p (by simp)];simp),List.drop_succ_cons];exact ahR λq a=>h q (by simp[a])
def PkL(w:World)(A:Option Addr)(l:List iw):Prop:=∀i x,l[i]?=some x->∃b a B c,A=some ⟨b,a,none⟩/\b<w.heap.size/\w.cell? ⟨b,a+i*2,none⟩=some (.int .i64 x.1)/\w.cell? ⟨b,a+i*2+1,none⟩=some (.slice B x.2.length c)/\x.2.length<=c/\c<=maxLen/\ItL w B x.2
def PkL.of{l:List iw}(h:RdP w A 0 l):PkL w A l:=λi x m=>by
 obtain⟨f,k⟩:∃f,l[0]?=some f:=ar (by have:=aB m;omega);obtain⟨⟨s,r,u,n,g, -⟩, -⟩:=h 0 f k;obtain⟨⟨a,B,c,rfl,e,d, -,q,t,p⟩, -⟩:=h i x m;obtain rfl:=ef n;rw[jt] at e d;obtain⟨b,j,o⟩:=a;obtain rfl:o=none:=by
  have:=abV g;unfold Addr.add at this;simpa using this
 rw[iK] at e d;rw[iK] at d;exact⟨b,j,B,c,rfl,fZ e,e,d,q,by unfold maxLen;omega,ItL.of p⟩
def PkL.below{l:List iw}(h:PkL w A l)(d:Below w.heap.size w w'):PkL w' A l:=λi x j=>by
 obtain⟨b,a,B,c,n,f,g,m,p,k,o⟩:=h i x j;have e:=d.block b f;exact⟨b,a,B,c,n,aE f d.size,(qv e).trans g,(qv e).trans m,p,k,o.below d⟩
def anN(w:World)(key:Int)(A:Option Addr)(c:Nat)(l:List iw)(nm:Int)(S:1<=key)(P:key<=99)(Y:l.length<=c)(hc:(c:Int)<=9223372036854775807)(W:PkL w A l)(a1:In_ nm) :
  Calls (ah β) 101 #[.int .i64 key,.slice A l.length c,.int .i64 nm] w λe O=>∃v,e=.returned v/\(v=.agg #[.string (cN key l nm).1,.bool (cN key l nm).2]/\Below w.heap.size w O):=by
 go_enter yu,ntmps101;go_wp2;generalize G:w.alloc (.cells #[.string ⟨#[]⟩,.bool false] 160)=w0 at *;obtain⟨M,iv,a,z,D⟩:=gT G;go_loopw [13] (λi wr=>∃k:Nat,k<=l.length/\i=.int .i64 k/\(∀p∈l.take k,(gX key p.2 nm).2=false)/\Below w0.heap.size w0 wr) (λi _=>l.length-(intOf i).toNat)
 case atStart=>exact⟨0,fa _,rfl,by simp,gn _ _⟩
 case round=>
  obtain⟨k,hk,rfl,f,r⟩:=hrel;replace f:=ab f;replace a:=ak a r;replace z:=a.cell;replace D:=a.frozen;have I:=(W.below M).below r;have d:=ae M r;by_cases j:k<l.length
  .obtain⟨p,q⟩:=ar j;obtain⟨b,V,B,L,rfl,a0,U,Z,J,s,C⟩:=I k p q;replace q:=ab q;go_wp2;generalize G:wr.alloc (.cells #[.int .i64 p.1,.slice B p.2.length L] 36)=w5 at *;obtain⟨g,T,q0,R,N⟩:=gT G;replace a:=ak a g;replace z:=a.cell;replace D:=a.frozen;replace d:=ae d g;refine(apd key p.1 nm ⟨S,P⟩ p.2 B L w5 (C.below g) J s).mono ?_;rintro e Q ⟨rfl,u⟩;replace a:=ak a u;replace z:=a.cell;replace D:=a.frozen;replace d:=ae d u;cases K:gX key p.2 nm with
   |mk t X=>
    cases X with
    |true=>
     have E:cN key l nm=(t,true):=by
      rw[ahR (k:=k) f.out,sP j];have e1:l[k]=p:=by have:=q.out;rw[iS j] at this;exact ef this
      rw[e1];show(if(gX key p.2 nm).2=true then _ else _)=_;rw[K];rfl
     have x:=ab E;go_wp2;have o:=(a.cf 0 (.string t)).cf 1 (.bool true);simp only[de,fi,ga] at o;have m:=o.cell;exact oR (v:=.agg #[.string t,.bool true]) (by simp[results,results101,go_sem,m]) rfl ⟨_,rfl,by rw[x.out],(d.setCell (by simp) _).setCell (by simp) _⟩
    |false=>
     have F:∀y∈l.take (k+1),(gX key y.2 nm).2=false:=by
      intro y n;rw[mx q.out,me] at n;rcases n with n|n
      .exact f.out y n
      .rw[lc.1 n,K]
     replace F:=ab F;have H:Below w0.heap.size w0 Q:=ae (ae r g) u;go_wp2;go_roundw
     case rel=>exact⟨k+1,by omega,by go_num,F.out,H⟩
     simp[intOf];omega
  .obtain rfl:k=l.length:=by omega
   have E:cN key l nm=(⟨#[]⟩,false):=by
    rw[ahR (k:=l.length) f.out,vE];rfl
   have x:=ab E;go_wp2;have o:=(a.cf 0 (.string ⟨#[]⟩)).cf 1 (.bool false);simp only[de,fi,ga] at o;have m:=o.cell;exact oR (v:=.agg #[.string ⟨#[]⟩,.bool false]) (by simp[results,results101,go_sem,m]) rfl ⟨_,rfl,by rw[x.out],(d.setCell (by simp) _).setCell (by simp) _⟩
def xh:eF cN:=λ_ w a A n c l nm g e j b i f d=>by
 subst j;exact anN w a A c l nm g e b i (PkL.of f) d
def wV(key nm:Int):cN key [] nm=(⟨#[]⟩,false):=rfl
end
section
variable {β:Bool}
open Go.RowKit
def Typed(w:World)(T:List TypeId)(b:Nat):Prop:=∃t∈T,∃a,bW w b t a
structure dO {α:Type} (E:fV α) (T:List TypeId):Prop where
 go:∀{w w':World} {lo hi jR hi':Nat} {x:α} {cs:List Value},
  (∀b,lo<=b->b<hi->Typed w T b->w'.heap[b]?=w.heap[b]?)->jR<=lo->hi<=hi'->E w lo hi x cs->E w' jR hi' x cs
section
variable {α:Type} {E:fV α} {T:List TypeId}
def dO.loc(d:dO E T):Lcy E:=⟨λh a c e=>d.go (λb a c _=>h b a c) a c e⟩
def dO.more(d:dO E T){U:List TypeId}(f:∀t∈T,t∈U):dO E U:=⟨λh c a e=>d.go (λb c a ⟨t,ht,hd⟩=>h b c a ⟨t,f t ht,hd⟩) c a e⟩
def dO.below(a:dO E T){B : Nat}{x:α}(h:E w Z hi x cs)(c:Below B w w')(b:hi<=B):E w' Z hi x cs:=a.loc.below h c b
def dO.wide(a:dO E T){x:α}(h:E w Z hi x cs)(c:jR<=Z)(b:hi<=hi'):E w jR hi' x cs:=a.loc.wide h c b
def dC{t : TypeId}{cs c:Array Value}(h:bW w b t cs)(a:bW w b U c):t=U:=by
 unfold bW at h a;rw[h] at a;simp at a;exact a.2
def dO.fc(c:dO E T){x:α}(h:E w Z hi x cs)(i:bM S w w')(f:∀b,Z<=b->b<hi->Typed w T b->¬S b):E w' Z hi x cs:=
 c.go (λb g e a=>i.block b (by obtain⟨_,_,_,d⟩:=a;exact d.lt) (f b g e a)) (am _) (am _) h
def cx.av{α:Type}(F:Flat α):dO (cx F) []:=⟨λ_ _ _ h=>h⟩
def eE(e:TypeId)(E:fV α)(sz:Nat):fV (List α):=λw i j f d=>
 cG E sz w i j f d/\(0<f.length->∀b a n c,d=[.slice (some ⟨b,a,none⟩) n c]->∃g,bW w b e g)
def eE.av(F:dO E T)  :dO (eE e E Z) (e::T):=by
 refine⟨?_⟩;intro w M S R N l Q P s o v ⟨⟨A,c,a,D,K,h⟩,p⟩;refine⟨⟨A,c,a,D,K,λm=> ?_⟩,λm b f n O r=> ?_⟩
 .obtain⟨b,f,rfl,k,g,J⟩:=h m;have q:=p m b f _ _ a;refine⟨b,f,rfl,bd o k,aE g v,λi x l=> ?_⟩;obtain⟨H,G,L,d⟩:=J i x l;exact⟨H,G,F.go (λb k g ⟨t,p,hd⟩=>s b k g ⟨t,qS _ p,hd⟩) o v L,λj u I=>(qv (s b k g ⟨e,qR,q⟩)).trans (d j u I)⟩
 .obtain⟨B,C,z,k,g,_⟩:=h m;rw[a,z] at r;simp only[qi,pv,jp,qk,qm] at r;obtain⟨⟨rfl,rfl⟩,_,_⟩:=r;have q:=p m B C _ _ (a.trans (by rw[z]));obtain⟨y,hd⟩:=q;exact⟨y,(s B k g ⟨e,qR,y,hd⟩).trans hd⟩
def eE.form{xs:List α}(h:eE e E Z w X hi xs [v]):∃A c,v=.slice A xs.length c:=h.1.form
def gY(E:fV α)(sz:Nat)(e:TypeId)(w:World)(lo base:Nat)(v:Value)(xs:List α):Prop:=
 ∃cells:List Value,w.ownsRow base e sz v xs.length cells/\(∀u∈cells,u.oneCell'=true)/\
  ∀i x,xs[i]?=some x->∃a:List Value,a.length=sz/\E w lo w.heap.size x a/\∀j u,a[j]?=some u->cells[i*sz+j]?=some u
variable {sz:Nat} {e:TypeId}
def gY.form{base : Nat}{xs:List α}(h:gY E sz e w Z base v xs):∃A c,v=.slice A xs.length c:=by
 obtain⟨cells,h,_⟩:=h;exact iH h
def gY.at_{base : Nat}{xs:List α}(h:gY E sz e w Z base v xs)(a:v.ownBlock=some g):base<=g/\g<w.heap.size:=by
 obtain⟨cells,h,_⟩:=h;exact h.lt g a
def gY.blk{base : Nat}{xs:List α}(h:gY E sz e w Z base v xs)(a:v.ownBlock=some g):∃d,bW w g e d:=by
 obtain⟨cells,h,_⟩:=h;rcases h.2 with⟨rfl,_⟩|⟨f,cap,b,rfl,_,c,_⟩
 .cases a
 .cases a;exact⟨_,c⟩
def gY.ahE{base : Nat}(h:eJ base e v w):gY E sz e w Z base v []:=⟨[],h.own sz,λ_ h=>(by cases h),λi x h=>(by simp at h)⟩
def gY.sl{base : Nat}{xs:List α}(h:gY E sz e w Z base v xs)(m:Z<=base):eE e E sz w Z w.heap.size xs [v]:=by
 have K:=λg t=>h.blk (g:=g) t;obtain⟨cells,p,_,s⟩:=h;refine⟨?_,λB b C n c q=> ?_⟩
 .obtain⟨L,G⟩:=p;rcases G with⟨rfl,a⟩|⟨g,cap,d,rfl,l,r,o,k,H,z⟩
  .exact⟨none,0,by rw[a],by omega,by unfold maxLen;omega,λB=>by omega⟩
  .refine⟨_,cap,rfl,o,k,λ_=>⟨g,0,rfl,bd m l,(dk.1 r).1,λi x I=> ?_⟩⟩;obtain⟨D,m,J,A⟩:=s i x I;refine⟨D,m,J,λj u F=> ?_⟩;have f:=A j u F;rw[<-z,rB] at f;split at f
   .rw[cell_of_row w g (0+i*sz+j) d _ (0,0) r,jt];simpa using f
   .cases f
 .simp only[qi,qm] at q;subst q;rcases p.2 with⟨a,_⟩|⟨g,cap,d,a,_,y,_⟩
  .cases a
  .cases a;exact⟨_,y⟩
def gY.fc(f:dO E T){base : Nat}{xs:List α}(h:gY E sz e w Z base v xs)(d:bM S w w')(o:∀b,v.ownBlock=some b->¬S b)(p:∀b,Z<=b->Typed w T b->¬S b):gY E sz e w' Z base v xs:=by
 obtain⟨cells,q,k,g⟩:=h;refine⟨cells,adY q d o,k,λi x n=> ?_⟩;obtain⟨j,a,b,c⟩:=g i x n;exact⟨j,a,f.wide (f.fc b d λb l _ m=>p b l m) (am _) d.size,c⟩
def gY.below(a:dO E T){base : Nat}{xs:List α}(h:gY E sz e w Z base v xs)(b:Below w.heap.size w w'):gY E sz e w' Z base v xs:=
 h.fc a (bM.bF (S:=λ_=>False) b) (λ_ _ h=>h) λ_ _ _ h=>h
def aH.deep{α:Type}{F:Flat α}{base:Nat}{xs:List α}(h:aH F e w base v xs)(b:∀x∈xs,F.good x)(d:Nat):gY (cx F) F.sz e w d base v xs:=
 ⟨_,h,pW F xs,λi x a=>⟨F.cells x,F.len x,⟨rfl,b x (da a)⟩,λ_ _ c=>dX F xs i _ x _ a c⟩⟩
end
section
variable {P:Program} {α:Type} {E:fV α} {T:List TypeId} {sz:Nat} {e:TypeId}
def ajl (M:dO E T) (F:e∉T)  {rest:List Oper} {a:Act} (B:o.guard=none) (s x:Operand) (t:TypeId)
  (Y:o.op=.call ⟨.builtin .append,#[s,x],#[t,t]⟩)
  (C:gD P t e sz Z) {base : Nat} {xs:List α} (y:α) (hs:a.eval s=v) (c:gY E sz e w X base v xs) {es:Array Value} (hx:a.eval x=.slice (some ⟨w.heap.size,0,none⟩) 1 1) (p:es.toList.length=sz) (K:∀u∈es.toList,u.oneCell'=true) (hy:E w X w.heap.size y es.toList)
  (hn:xs.length<=1099511627775) (k:base<=w.heap.size)
  (h:∀n f,gY E sz e f X base n (xs++[y])->bM (λb=>v.ownBlock=some b) w f->(∀b,n.ownBlock=some b->v.ownBlock=some b\/w.heap.size<=b)->wpList P W Q rest (a.put o.dst n) f) :
  wpList P W Q (o::rest) a (w.alloc (.cells es U)):=by
 have D:=λg S=>c.blk (g:=g) S;obtain⟨cells,c,O,N⟩:=c;have jm:cells.length=xs.length*sz:=c.1;refine anq B s x t Y C hs c hx (by rw[<-qO,p]) K hn k λn f q=>h n f ⟨cells++es.toList, ?_, ?_, ?_⟩ q.fc q.at_
 .have:=q.own;rw[ap];exact this
 .intro u d;rcases me.1 d with d|d
  .exact O u d
  .exact K u d
 .have L:∀{z:α} {r:List Value},E w X w.heap.size z r->E f X f.heap.size z r:=λH=>
   M.wide (M.fc H q.fc λb _ _ ⟨t',ht',ds,hd⟩ he=>by
    obtain⟨V,J⟩:=D b he;exact F (dC J hd▸ht')) (am _) q.fc.size
  intro i z l;rcases pa i xs.length with m|nu
  .rw[qz m] at l;obtain⟨r,G,H,I⟩:=N i z l;refine⟨r,G,L H,λj u d=> ?_⟩;have hj:=aB d;have R:(i+1)*sz<=xs.length*sz:=rb _ m;rw[rz] at R;rw[qz (by omega)];exact I j u d
  .rw[qo nu] at l;have:i-xs.length=0:=by have:=aB l;simp at this;omega
   rw[this] at l;simp at l;subst l;have A:i=xs.length:=by omega
   refine⟨es.toList,p,L hy,λj u d=> ?_⟩;rw[A,qo (by omega),jm,rJ];exact d
end
section
variable {α:Type} {E:fV α}
def ae2(b o i:Nat):(⟨b,o,none⟩:Addr).add i=⟨b,o+i,none⟩:=by unfold Addr.add;split<;>simp_all
def eE.ar4{xs:List α}(h:eE e E Z w X hi xs [.slice A n c])(H:k<=xs.length):eE e E Z w X hi (xs.drop k) [.slice (if c=k then A else A.map λx=>x.add (k*Z)) (xs.length-k) (c-k)]:=by
 obtain⟨⟨A',s,o,I,J,r⟩,t⟩:=h;simp only[qi,pv,qm] at o;obtain⟨rfl,rfl,rfl⟩:=o;refine⟨⟨_,c-k,by rw[qc],by rw[qc];omega,by omega,λm=> ?_⟩,λm b g G s l=> ?_⟩
 .rw[qc] at m;have d:¬c=k:=by omega
  have a:0<xs.length:=by omega
  obtain⟨b,g,rfl,q,p,f⟩:=r a;refine⟨b,g+k*Z,by rw[be d];simp[Addr.add],q,p,λi x hi=> ?_⟩;rw[tc] at hi;obtain⟨B,D,y,z⟩:=f _ _ hi;refine⟨B,D,y,λj u F=> ?_⟩;have:=z j u F;rw[<-this,Nat.add_mul]
  congr 2
  omega
 .rw[qc] at m;have d:¬c=k:=by omega
  have a:0<xs.length:=by omega
  obtain⟨C,v,rfl,q,p,f⟩:=r a;rw[be d] at l;simp only[qh,ae2,qi,pv,jp,qk,qm] at l;obtain⟨⟨rfl,_⟩,_⟩:=l;exact t a C v _ _ rfl
def eE.awU{xs:List α}(h:eE e E Z w X hi xs [.slice A n c])(u:k<=xs.length):eE e E Z w X hi (xs.take k) [.slice A k c]:=by
 obtain⟨⟨A',o,j,v,s,r⟩,p⟩:=h;simp only[qi,pv,qm] at j;obtain⟨rfl,rfl,rfl⟩:=j;have d:(xs.take k).length=k:=by rw[fb];omega
 refine⟨⟨_,c,by rw[d],by rw[d];omega,s,λg=> ?_⟩,λg b a t o l=> ?_⟩
 .rw[d] at g;obtain⟨b,a,rfl,q,m,f⟩:=r (by omega);refine⟨b,a,rfl,q,m,λi x hi=> ?_⟩;rw[rB] at hi;split at hi
  .exact f _ _ hi
  .cases hi
 .rw[d] at g;simp only[qi,pv,qm] at l;obtain⟨rfl,rfl,rfl⟩:=l;exact p (by omega) b a _ _ rfl
end
def abX{base : Nat}{xs:List Y}{cs:Array Value}(c:bW w g e cs)(a:cs.toList=dm F xs)(f:base<=g)(i:n=xs.length)(b:n<=maxLen):aH F e w base (.slice (some ⟨g,0,none⟩) n n) xs:=by
 subst i;have d:cs.toList.length=xs.length*F.sz:=by rw[a,dJ]
 exact⟨dJ F xs,.inr ⟨g,xs.length,cs,rfl,f,c,am _,b,by rw[<-qO];exact d,by rw[a,qe (by rw[dJ];exact am _)]⟩⟩
end
section
variable {β:Bool}
structure Sp where
 n:Int
 p:Int
def adG(l:List Sp):Prop:=l.Pairwise λa b=>a.n<b.n
def spP(s:Sp):Prop:=(0<=s.n/\s.n<=999999999988)/\(1<=s.p/\s.p<=99)
def ixP(l:List Sp):Prop:=(∀s∈l,spP s)/\adG l
def fB(s:Sp):List Sp->List Sp
 |[]=>[s]
 |x::xs=>if s.n<x.n then s::x::xs else if x.n<s.n then x::fB s xs else s::xs
def abY{s x:Sp}:∀{l:List Sp},x∈fB s l->x=s\/x∈l
 |[],h=>by have:x∈[s]:=h;simp at this;exact .inl this
 |y::l,h=>by
  have a:x∈(if s.n<y.n then s::y::l else if y.n<s.n then y::fB s l else s::l):=h;split at a
  .rcases mc.1 a with e|e
   .exact .inl e
   .exact .inr e
  .split at a
   .rcases mc.1 a with e|e
    .exact .inr (by rw[e];simp)
    .rcases abY e with e|e
     .exact .inl e
     .exact .inr (by simp[e])
   .rcases mc.1 a with e|e
    .exact .inl e
    .exact .inr (by simp[e])
def au2{s:Sp}:∀{l:List Sp},s∈fB s l
 |[]=>by show s∈[s];simp
 |y::l=>by
  show s∈(if s.n<y.n then s::y::l else if y.n<s.n then y::fB s l else s::l);split
  .simp
  .split
   .exact qS _ au2
   .simp
def ae3{s:Sp}:∀{l:List Sp},adG l->adG (fB s l)
 |[],_=>rK _ _
 |y::l,h=>by
  have c:=so.1 h;show adG (if s.n<y.n then s::y::l else if y.n<s.n then y::fB s l else s::l);split
  .rename_i b;refine so.2 ⟨λz a=> ?_,h⟩;rcases mc.1 a with rfl|a
   .exact b
   .have:=c.1 z a;omega
  .split
   .rename_i b;refine so.2 ⟨λz a=> ?_,ae3 c.2⟩;rcases abY a with rfl|a
    .exact b
    .exact c.1 z a
   .refine so.2 ⟨λz a=> ?_,c.2⟩;have:=c.1 z a;omega
def au3{s:Sp}{l:List Sp}(h:ixP l)(b:spP s):ixP (fB s l):=⟨λx a=>by
 rcases abY a with rfl|a
 .exact b
 .exact h.1 x a,ae3 h.2⟩
def ae4{s:Sp}:∀{l:List Sp},(fB s l).length<=l.length+1
 |[]=>by show[s].length<=_;simp
 |y::l=>by
  show(if s.n<y.n then s::y::l else if y.n<s.n then y::fB s l else s::l).length<=_;split
  .simp
  .split
   .have:=ae4 (s:=s) (l:=l);simp;omega
   .simp
def abZ{s:Sp}:∀{a b:List Sp},(∀x∈a,x.n<s.n)->fB s (a++b)=a++fB s b
 |[],_,_=>rfl
 |x::a,b,h=>by
  have d:=h x (by simp);show(if s.n<x.n then s::x::(a++b) else if x.n<s.n then x::fB s (a++b) else s::(a++b))=x::(a++fB s b);rw[be (by omega),dl d,abZ λy c=>h y (by simp[c])]
def agw{s x:Sp}(c:s.n<x.n):∀{a b:List Sp},fB s (a++x::b)=fB s a++x::b
 |[],b=>by
  show(if s.n<x.n then s::x::b else _)=[s]++x::b;rw[dl c];rfl
 |y::a,b=>by
  show(if s.n<y.n then s::y::(a++x::b) else if y.n<s.n then y::fB s (a++x::b) else s::(a++x::b))=(if s.n<y.n then s::y::a else if y.n<s.n then y::fB s a else s::a)++x::b;split
  .rfl
  .split
   .rw[agw c];rfl
   .rfl
inductive Tr where
 |nil
 |node (b:Nat) (s:Sp) (l r:Tr)
namespace Tr
end Tr
def eh:List Sp->List Sp->List Sp
 |[],l=>l
 |s::ss,l=>eh ss (fB s l)
def ab0:∀(a b l:List Sp),eh (a++b) l=eh b (eh a l)
 |[],_,_=>rfl
 |s::a,b,l=>ab0 a b (fB s l)
def agx:∀{a l:List Sp},adG l->adG (eh a l)
 |[],_,h=>h
 |s::a,l,h=>by show adG (eh a (fB s l));exact agx (ae3 h)
def ajm:∀{a l:List Sp},ixP l->(∀s∈a,spP s)->ixP (eh a l)
 |[],_,h,_=>h
 |s::a,l,h,hs=>by show ixP (eh a (fB s l));exact ajm (au3 h (hs s (by simp))) λx b=>hs x (by simp[b])
def agy:∀{a l:List Sp},(eh a l).length<=a.length+l.length
 |[],_=>by show _<=_;simp[eh]
 |s::a,l=>by
  have b:=agy (a:=a) (l:=fB s l);have c:=ae4 (s:=s) (l:=l);show(eh a (fB s l)).length<=_;simp only[ff];omega
def ape{s:Sp}{l:List Sp}(h:∀x∈l,x.n<s.n):fB s l=l++[s]:=by
 have:=abZ (s:=s) (a:=l) (b:=[]) h;rw[sG] at this;rw[this];rfl
def ep(n:Int):List Sp->Int
 |[]=>0
 |x::xs=>if x.n=n then x.p else ep n xs
def acN{s:Sp}{n:Int}:∀{l:List Sp},ep n (fB s l)=if s.n=n then s.p else ep n l
 |[]=>by show(if s.n=n then s.p else 0)=_;rfl
 |x::l=>by
  show ep n (if s.n<x.n then s::x::l else if x.n<s.n then x::fB s l else s::l)=_;split
  .rfl
  .split
   .show(if x.n=n then x.p else ep n (fB s l))=(if s.n=n then s.p else(if x.n=n then x.p else ep n l));rw[acN];split
    .rw[be (by omega)]
    .rfl
   .show(if s.n=n then s.p else ep n l)=(if s.n=n then s.p else(if x.n=n then x.p else ep n l));split
    .rfl
    .rw[be (by omega)]
end
section
variable {β:Bool}
open Go.RowKit
structure bh (w:World) (s:Nat) (ty:TypeId) (S:Nat->Prop) (pre:List Nat) where
 to:World
 done:Bool
 ok:bM (λb=>done=true/\S b) w to
section
variable {w:World} {s:Nat} {ty:TypeId} {S:Nat->Prop} {pre:List Nat}
instance atM:Nonempty (bh w s ty S pre):=⟨⟨w,false,bM.refl _ _⟩⟩
instance awV:aW (bh w s ty S pre):=⟨λ_ _=>True,λ_ _ _=>trivial,λi x=>i=s\/i∈pre->x.done=false⟩
def bh.le(x y:bh w s ty S pre):Prop:=
 (y.done=x.done/\Below x.to.heap.size x.to y.to)\/(x.done=false/\y.done=true/\bM (λb=>S b\/(w.heap.size<=b/\∃a:Array Value,bW x.to b ty a)) x.to y.to)
def bh.le_refl(x:bh w s ty S pre):bh.le x x:=.inl ⟨rfl,gn _ _⟩
def bh.le.from_{x y:bh w s ty S pre}(h:bh.le x y)(b:x.done=true):y.done=true/\Below x.to.heap.size x.to y.to:=by
 rcases h with⟨a,c⟩|⟨a,_⟩
 .exact⟨a.trans b,c⟩
 .rw[b] at a;cases a
def nJ{p:Addr}(h:w.cell? p=some v)(b:¬S p.block):∀x:bh w s ty S pre,x.to.cell? p=some v:=λx=>by
 have a:=ug w p h;unfold World.cell? at h ⊢;rw[x.ok.block p.block a λh=>b h.2];exact h
def bh.till(x:bh w s ty S pre)(a:x.done=false):Below w.heap.size w x.to:=⟨x.ok.os,x.ok.tape,x.ok.output,x.ok.size,λb c=>x.ok.block b c λh=>by rw[a] at h;cases h.1⟩
def bh.on(x:bh w s ty S pre){w2:World}(hb:Below x.to.heap.size x.to w2):bh w s ty S pre:=⟨w2,x.done,x.ok.trans (bM.bF (S:=λb=>x.done=true/\S b) hb) λ_ _ e=>e⟩
def bh.did(x:bh w s ty S pre){w2:World}(hc:bM (λb=>S b\/(w.heap.size<=b/\∃a:Array Value,bW x.to b ty a)) x.to w2):bh w s ty S pre:=
 ⟨w2,true,(x.ok.mono (T:=λb=>true=true/\S b) λ_ _ h=>⟨rfl,h.2⟩).trans hc λb c h=>by
  rcases h with h|h
  .exact⟨rfl,h⟩
  .omega⟩
def ae5    {c:Act} (s:Nat) (ty:TypeId) (S:Nat->Prop) (pre:List Nat) (n:Nat) (b a:List Nat) (g:P.follows .mixedOrders=true) (j:aiS T n b a=true) (d:aeF T.toArray n c.tmps.size=true)
  (h:wpQuiet P T.toArray (λe=>∃x:bh w s ty S pre,e=x.to) (λi=>∃f:List (iI (bh w s ty S pre)),cI P T.toArray (bh.to (w:=w)) (bh.le (w:=w)) (wpList P T.toArray Q (T.drop n)) (pick T a) [] f i) ((pick T b).map (·.2)) c):(Code.region Z T.toArray true).wp P Q c w:=
 aa0 (bh.to (w:=w)) (bh.le (w:=w)) bh.le_refl n b a g j d ⟨w.drew,false,(bM.refl _ _).drew⟩ (λ_ _=>trivial) (λ_ _ _=>rfl) rfl h
variable {P:Program} {ops:Array Oper} {Qt:Act->World->Prop} {i:Nat} {o:Oper} {L:List (Nat×Oper)} {F:List (Nat×(bh w s ty S pre->Prop))} {Rs:List (iI (bh w s ty S pre))} {a:Act}
def ar5 (R:Value->bh w s ty S pre->Prop) (e:o.dst.isSome=true) (j:∀v x y,R v x->bh.le x y->R v y)
  (p:∀x:bh w s ty S pre,aam F o x->(i∈pre->x.done=false)->∀c:Exit->Act->World->Prop,(∀v d (b:Below x.to.heap.size x.to d),R v (x.on b)->c .normal (a.put o.dst v) d)->wpList P ops c [o] a x.to)
  (g:∀v,cI P ops (bh.to (w:=w)) (bh.le (w:=w)) Qt L ((i,λx=>R v x)::F) Rs (a.put o.dst v)):cI P ops (bh.to (w:=w)) (bh.le (w:=w)) Qt ((i,o)::L) F (.any R::Rs) a:=
 ku (to:=bh.to (w:=w)) (le:=bh.le (w:=w)) R (.inl e) j (λx m _ _ f c k=>p x m (λl=>f (.inr l)) c λv d b n=>
  k v (x.on b) (.inl ⟨rfl,b⟩) trivial (λ_ _ _ h=>h) n) g
def acO (c:Value)
  (j:∀x:bh w s ty S pre,aam F o x->(i∈pre->x.done=false)->∀b:Exit->Act->World->Prop,(∀d,Below x.to.heap.size x.to d->b .normal (a.put o.dst c) d)->wpList P ops b [o] a x.to)
  (g:cI P ops (bh.to (w:=w)) (bh.le (w:=w)) Qt L F Rs (a.put o.dst c)):cI P ops (bh.to (w:=w)) (bh.le (w:=w)) Qt ((i,o)::L) F (.fix c::Rs) a:=
 anv (to:=bh.to (w:=w)) (le:=bh.le (w:=w)) c (λx m _ _ f b k=>j x m (λl=>f (.inr l)) b λd e=>k (x.on e) (.inl ⟨rfl,e⟩) trivial λ_ _ _ h=>h) g
def ar6 (R:Value->bh w s ty S pre->Prop) (m:o.dst.isSome=true) (hi':i=s) (f:∀j∈pre,Behind ops i j) (q:∀v x y,R v x->bh.le x y->R v y)
  (A:∀x:bh w s ty S pre,aam F o x->x.done=false->∀c:Exit->Act->World->Prop,(∀v k (d:bM (λb=>S b\/(w.heap.size<=b/\∃z:Array Value,bW x.to b ty z)) x.to k),R v (x.did d)->c .normal (a.put o.dst v) k)->wpList P ops c [o] a x.to)
  (n:∀v,cI P ops (bh.to (w:=w)) (bh.le (w:=w)) Qt L ((i,λx=>R v x)::F) Rs (a.put o.dst v)):cI P ops (bh.to (w:=w)) (bh.le (w:=w)) Qt ((i,o)::L) F (.any R::Rs) a:=
 ku (to:=bh.to (w:=w)) (le:=bh.le (w:=w)) R (.inl m) q (λx t _ _ l c r=>A x t (l (.inl hi')) c λv k d p=>
  r v (x.did d) (.inr ⟨l (.inl hi'),rfl,d⟩) trivial (λj u g _ e=>e.elim (λe=>absurd (e.trans hi'.symm) u) λe=>absurd (f j e) g) p) n
def ar7(h:∀x:bh w s ty S pre,gU F x->Qt a x.to):cI P ops (bh.to (w:=w)) (bh.le (w:=w)) Qt [] F [] a:=ahB h
end
end
section
variable {β:Bool}
open Go.RowKit
structure anO (w:World) (alE:List Nat) (fl:Nat->Bool) (ty:TypeId) (S:Nat->Prop) where
 to:World
 st:Nat
 ok:bM (λb=>0<st/\S b) w to
 lim:st<=alE.length
section
variable {w:World} {alE:List Nat} {fl:Nat->Bool} {ty:TypeId} {S:Nat->Prop}
instance atN:Nonempty (anO w alE fl ty S):=⟨⟨w,0,bM.refl _ _,fa _⟩⟩
instance awW:aW (anO w alE fl ty S):=⟨λ_ _=>True,λ_ _ _=>trivial,λi x=>∀k,alE[k]?=some i->x.st<=k⟩
variable {P:Program} {ops:Array Oper} {Qt:Act->World->Prop} {i:Nat} {o:Oper} {L:List (Nat×Oper)} {F:List (Nat×(anO w alE fl ty S->Prop))} {Rs:List (iI (anO w alE fl ty S))} {a:Act}
end
end
section
variable {β:Bool}
open Go.RowKit
def FSp:Flat Sp:=⟨2,λs=>[.int .i64 s.n,.int .i64 s.p],λx=>cA x.n/\cA x.p,λ_=>rfl,λx u a=>by simp at a;rcases a with rfl|rfl<;>rfl,by decide⟩
def aad:gD (ah β) 93 123 2 16:=gD.mk' yv (z:=.agg #[.int .i64 0,.int .i64 0]) (by kernel_rfl) rfl (by decide) (by decide)
end
section
variable {β:Bool}
open Go.RowKit
abbrev RSp:fV Sp:=cx FSp
def RSp.loc:Lcy RSp:=cx.loc FSp
def awX{xs:List Sp}(h:cG RSp 2 w Z hi xs [.slice A n c]){x:Sp}(g:xs[k]?=some x) :
  ∃b a,A=some ⟨b,a,none⟩/\Z<=b/\b<hi/\(cA x.n/\cA x.p)/\w.cell? ⟨b,a+k*2,none⟩=some (.int .i64 x.n)/\w.cell? ⟨b,a+k*2+1,none⟩=some (.int .i64 x.p):=by
 obtain⟨b,a,l,rfl,i,f,j,⟨rfl,d⟩,e⟩:=h.at_ g;exact⟨b,a,rfl,i,f,d,by simpa using e 0 _ rfl,e 1 _ rfl⟩
def ar8:ixP []:=⟨λx h=>(by cases h),List.Pairwise.nil⟩
def ahS(n a hi:Int)(w:World)(b:Bool)(d:b=true↔a<=n/\n<=hi) :
  Calls (ah β) 31 #[.int .i64 n,.int .i64 a,.int .i64 hi] w λe c=>e=.returned (.bool b)/\w=c:=
 (gC n a hi w).mono λe c ⟨h,hw⟩=>⟨by
  rw[h];have:(decide (a<=n)&&decide (n<=hi))=b:=by rw[qj,d];simp
  rw[this],hw⟩
def alF(s:Sp)(w:World)(b:Bool)(c:b=true↔spP s) :
  Calls (ah β) 72 #[.agg #[.int .i64 s.n,.int .i64 s.p]] w λe g=>e=.returned (.bool b)/\Below w.heap.size w g:=by
 replace c:=ab c;have f:=aA w (.cells #[.int .i64 s.n,.int .i64 s.p] 123);go_enter yN,ntmps72;by_cases a:0<=s.n/\s.n<=999999999988
 .go_wp2;refine(ahS s.n _ _ _ true (by simp only[uB];exact a)).mono ?_;rintro e d ⟨rfl,rfl⟩;replace a:=ab a;go_wp2;refine(ahS s.p _ _ _ b (by rw[c.out];exact⟨λh=>h.2,λh=>⟨a.out,h⟩⟩)).mono ?_;rintro e d ⟨rfl,rfl⟩;go_wp2;go_ret;exact⟨rfl,f⟩
 .go_wp2;refine(ahS s.n _ _ _ false (by simp only[kw,false_iff];exact a)).mono ?_;rintro e d ⟨rfl,rfl⟩;replace a:=ab a;go_wp2;go_ret;exact⟨aC (by rw[eq_comm,<-lP,c.out];exact λh=>a.out h.1),f⟩
end
section
variable {β:Bool}
open Go.RowKit
def od(s:Sp)(xs:List Sp)(put:Bool)(o:List Sp):Prop:=
 (put=false/\(∀x∈xs,x.n<s.n)/\o=xs)\/(put=true/\(∃x∈xs,s.n<=x.n)/\o=fB s xs)
def apf(s:Sp):od s [] false []:=.inl ⟨rfl,λx a=>(by cases a),rfl⟩
def apg{s x:Sp}{xs o:List Sp}(h:od s xs false o)(a:s.n<x.n):od s (xs++[x]) true (o++[s]++[x]):=by
 rcases h with⟨_,h,rfl⟩|⟨h,_⟩
 .refine .inr ⟨rfl,⟨x,by simp,by omega⟩, ?_⟩;rw[abZ h];show _=o++(if s.n<x.n then s::x::[] else _);rw[dl a];simp
 .cases h
def alG{s x:Sp}{xs o:List Sp}(h:od s xs false o)(a:x.n=s.n):od s (xs++[x]) true (o++[s]):=by
 rcases h with⟨_,h,rfl⟩|⟨h,_⟩
 .refine .inr ⟨rfl,⟨x,by simp,by omega⟩, ?_⟩;rw[abZ h];show _=o++(if s.n<x.n then s::x::[] else if x.n<s.n then x::fB s [] else s::[]);rw[be (by omega),be (by omega)]
 .cases h
def alH{s x:Sp}{xs o:List Sp}(h:od s xs false o)(b:x.n<s.n):od s (xs++[x]) false (o++[x]):=by
 rcases h with⟨_,h,rfl⟩|⟨h,_⟩
 .refine .inl ⟨rfl,λy a=> ?_,rfl⟩;rcases me.1 a with a|a
  .exact h y a
  .rw[lc.1 a];exact b
 .cases h
def alI{s x:Sp}{xs o:List Sp}(h:od s xs true o)(b:adG (xs++[x])):s.n<x.n/\od s (xs++[x]) true (o++[x]):=by
 rcases h with⟨h,_⟩|⟨_,⟨y,a,c⟩,rfl⟩
 .cases h
 .have:=(rR.1 b).2.2 y a x (by simp);refine⟨by omega,.inr ⟨rfl,⟨y,by simp[a],c⟩, ?_⟩⟩;rw[show xs++[x]=xs++x::[] from rfl,agw (by omega)]
def aph{s:Sp}{xs o:List Sp}{a:Bool}(h:od s xs a o):(a=false/\fB s xs=o++[s])\/(a=true/\fB s xs=o):=by
 rcases h with⟨h,b,rfl⟩|⟨h,_,rfl⟩
 .exact .inl ⟨h,ape b⟩
 .exact .inr ⟨h,rfl⟩
def jc{s:Sp}{xs o:List Sp}{a:Bool}(h:od s xs a o):o.length<=xs.length+1:=by
 rcases h with⟨_,_,rfl⟩|⟨_,_,rfl⟩
 .omega
 .exact ae4
def ar9{xs:List Sp}(h:adG xs)(k:Nat):adG (xs.take k):=List.Pairwise.sublist (List.take_sublist k xs) h
def awY(w:World)(ys:List Sp)(e:Ending)(w':World):Prop:=∃v,e=.returned v/\aH FSp 123 w' w.heap.size v ys/\Below w.heap.size w w'
def iL{p:Addr}(h:w.cell? p=some v)(c:bM S w w')(b:¬S p.block):w'.cell? p=some v:=by
 have a:=ug w p h;unfold World.cell? at h ⊢;rw[c.block p.block a b];exact h
def api(s:Sp)(aa:cA s.n/\cA s.p)(xs:List Sp)(v:Value)(w:World)(lo hi:Nat)(bu:hi<=w.heap.size)(h:cG RSp 2 w lo hi xs [v])(O:adG xs)(hl:xs.length<=1000000000) :
  Calls (ah β) 73 #[v,.agg #[.int .i64 s.n,.int .i64 s.p]] w (awY w (fB s xs)):=by
 obtain⟨A,c,rfl⟩:=h.form;obtain⟨_,hc,S⟩:=h.len_;unfold maxLen at S;go_enter yM,ntmps73;go_wp2;generalize hG:(w.alloc (.cells #[.int .i64 s.n,.int .i64 s.p] 123)).alloc (.cells #[] 123)=w0 at *;obtain⟨V,iv,N,dP,fu,k1,iA,jT⟩:=aeK hG;have H:w.heap.size+1<=w0.heap.size:=by omega
 have g0:=anx RSp.loc h V bu;have o0:aH FSp 123 w0 (w.heap.size+1) (.slice (some ⟨w.heap.size+1,0,none⟩) 0 0) []:=aH.ahE ⟨_,rfl,am _,k1⟩;have a4:∀k,k<xs.length->∃x,xs[k]?=some x/\(k=0\/True):=λk hk=>by
  obtain⟨x,S⟩:=ar hk;exact⟨x,S,.inr trivial⟩
 go_loopw [5,6,7] (λoo pp ii wr=>∃(k:Nat) (b:Bool) (o:List Sp),k<=xs.length/\pp=.bool b/\ii=.int .i64 k/\aH FSp 123 wr (w.heap.size+1) oo o/\od s (xs.take k) b o/\bM (λb=>w.heap.size+1<=b) w0 wr) (λoo pp ii _=>xs.length-(intOf ii).toNat)
 case atStart=>exact⟨0,false,[],fa _,rfl,rfl,o0,apf s,bM.refl _ _⟩
 case round=>
  obtain⟨k,b,o,hk,rfl,rfl,t,e,g⟩:=hrel;replace e:=ab e;obtain⟨n,q,rfl⟩:=t.form;have Y:=jc e.out;rw[fb] at Y;by_cases X:k<xs.length
  .obtain⟨x,u⟩:=ar X;obtain⟨b1,a5,rfl,a9,a7,a8,E,D⟩:=awX g0 u;have B:adG (xs.take k++[x]):=by rw[<-mx u];exact ar9 O _
   replace u:=ab u;replace B:=ab B;have dP:=(bq N g (by omega)).cell;have Z:=iL E g (by dsimp only;omega);have a6:=iL D g (by dsimp only;omega);cases b with
   |false=>
    rcases Int.lt_trichotomy x.n s.n with y|y|y
    .have z:=ab (alH e.out y);have t1:=bv (show ¬(s.n<=x.n) by omega);have W:(x.n !=s.n)=true:=by rw[tY];omega
     go_wp2
     go_quiet (fail)
     revert nq;intro d;go_wp2
     go_quiet (fail)
     have l:aH FSp 123 (wr.drewN (d+nq)) (w.heap.size+1) (.slice n o.length q) o:=t;go_wp2_with(at_builtin;refine bN (F:=FSp) (v:=.slice n o.length q) rfl (.tmp 39) (.tmp 44) 93 rfl aad x rfl l rfl rfl (by have:=jc e.out;rw[fb] at this;first|omega|(simp;omega)) (bd H ((g.drewN (d+nq))).size) ?_;intro M K f p m;obtain⟨G,I,rfl⟩:=f.form;simp only[ap,ff,ls,jt] at f;have a:=((g.drewN (d+nq))).trans (p.mono (T:=λb=>w.heap.size+1<=b) λb _ j=>((l).at_ j).1) λ_ _ h=>h;skip);go_roundw
     case rel=>exact⟨k+1,false,o++[x],by omega,rfl,by go_num,f,by rw[mx u.out];exact z.out,a⟩
     simp[intOf];omega
    .have z:=ab (alG e.out y);have t1:=db (show s.n<=x.n by omega);have W:(x.n !=s.n)=false:=by rw[tJ];exact y
     go_wp2
     go_quiet (fail)
     revert nq;intro d;have l:aH FSp 123 (wr.drewN d) (w.heap.size+1) (.slice n o.length q) o:=t;go_wp2_with(at_builtin;refine bN (F:=FSp) (v:=.slice n o.length q) rfl (.tmp 27) (.tmp 29) 93 rfl aad s rfl l rfl rfl (by have:=jc e.out;rw[fb] at this;first|omega|(simp;omega)) (bd H ((g.drewN d)).size) ?_;intro M K f p m;obtain⟨G,I,rfl⟩:=f.form;simp only[ap,ff,ls,jt] at f;have a:=((g.drewN d)).trans (p.mono (T:=λb=>w.heap.size+1<=b) λb _ j=>((l).at_ j).1) λ_ _ h=>h;have P:=(bq N a (by omega)).cell;have R:=iL E a (by dsimp only;omega);have a0:=iL D a (by dsimp only;omega))
     go_quiet (fail)
     go_wp2;go_roundw
     case rel=>exact⟨k+1,true,o++[s],by omega,rfl,by go_num,f,by rw[mx u.out];exact z.out,a.drewN nq⟩
     simp[intOf];omega
    .have z:=ab (apg e.out y);have t1:=db (show s.n<=x.n by omega);have W:(x.n !=s.n)=true:=by rw[tY];omega
     go_wp2
     go_quiet (fail)
     revert nq;intro d;have l:aH FSp 123 (wr.drewN d) (w.heap.size+1) (.slice n o.length q) o:=t;go_wp2_with(at_builtin;refine bN (F:=FSp) (v:=.slice n o.length q) rfl (.tmp 27) (.tmp 29) 93 rfl aad s rfl l rfl rfl (by have:=jc e.out;rw[fb] at this;first|omega|(simp;omega)) (bd H ((g.drewN d)).size) ?_;intro M K f p m;obtain⟨G,I,rfl⟩:=f.form;simp only[ap,ff,ls,jt] at f;have a:=((g.drewN d)).trans (p.mono (T:=λb=>w.heap.size+1<=b) λb _ j=>((l).at_ j).1) λ_ _ h=>h;have P:=(bq N a (by omega)).cell;have R:=iL E a (by dsimp only;omega);have a0:=iL D a (by dsimp only;omega))
     go_quiet (fail)
     have L:aH FSp 123 (K.drewN nq) (w.heap.size+1) (.slice G (o.length+1) I) (o++[s]):=f;go_wp2_with(at_builtin;refine bN (F:=FSp) (v:=.slice G (o.length+1) I) rfl (.tmp 39) (.tmp 44) 93 rfl aad x rfl L rfl rfl (by have:=jc e.out;rw[fb] at this;first|omega|(simp;omega)) (bd H ((a.drewN nq)).size) ?_;intro v4 w4 o4 Q a3;obtain⟨A4,c4,rfl⟩:=o4.form;simp only[ap,ff,ls,jt] at o4;have a1:=((a.drewN nq)).trans (Q.mono (T:=λb=>w.heap.size+1<=b) λb _ j=>((L).at_ j).1) λ_ _ h=>h;skip);go_roundw
     case rel=>exact⟨k+1,true,o++[s]++[x],by omega,rfl,by go_num,o4,by rw[mx u.out];exact z.out,a1⟩
     simp[intOf];omega
   |true=>
    obtain⟨y,U⟩:=alI e.out B.out;have z:=ab U;have W:(x.n !=s.n)=true:=by rw[tY];omega
    go_wp2
    go_quiet (fail)
    revert nq;intro d;go_wp2
    go_quiet (fail)
    have l:aH FSp 123 (wr.drewN (d+nq)) (w.heap.size+1) (.slice n o.length q) o:=t;go_wp2_with(at_builtin;refine bN (F:=FSp) (v:=.slice n o.length q) rfl (.tmp 39) (.tmp 44) 93 rfl aad x rfl l rfl rfl (by have:=jc e.out;rw[fb] at this;first|omega|(simp;omega)) (bd H ((g.drewN (d+nq))).size) ?_;intro M K f p m;obtain⟨G,I,rfl⟩:=f.form;simp only[ap,ff,ls,jt] at f;have a:=((g.drewN (d+nq))).trans (p.mono (T:=λb=>w.heap.size+1<=b) λb _ j=>((l).at_ j).1) λ_ _ h=>h;skip);go_roundw
    case rel=>exact⟨k+1,true,o++[x],by omega,rfl,by go_num,f,by rw[mx u.out];exact z.out,a⟩
    simp[intOf];omega
  .obtain rfl:k=xs.length:=by omega
   have r:=aph e.out;rw[ge] at r;have dP:=(bq N g (by omega)).cell;have J:∀{w9:World},bM (λb=>w.heap.size+1<=b) w0 w9->Below w.heap.size w w9:=λa2=>V.trans (a2.below V.size λi hi h=>by omega);rcases r with⟨rfl,C⟩|⟨rfl,C⟩
   .replace C:=ab C;go_wp2_with(at_builtin;refine bN (F:=FSp) (v:=.slice n o.length q) rfl (.tmp 48) (.tmp 50) 93 rfl aad s rfl t rfl rfl (by have:=jc e.out;rw[fb] at this;first|omega|(simp;omega)) (bd H (g).size) ?_;intro M K f p m;obtain⟨G,I,rfl⟩:=f.form;simp only[ap,ff,ls,jt] at f;have a:=(g).trans (p.mono (T:=λb=>w.heap.size+1<=b) λb _ j=>((t).at_ j).1) λ_ _ h=>h;skip);go_ret;exact⟨_,rfl,by rw[C.out];exact f.base (by omega),J a⟩
   .replace C:=ab C;go_wp2;go_ret;exact⟨_,rfl,by rw[C.out];exact t.base (by omega),J g⟩
end
section
variable {β:Bool}
open Go.RowKit
structure It where
 n:Int
 b:ByteArray
structure Pk where
 no:Int
 its:List It
def oL:Flat It:=⟨2,λx=>[.int .i64 x.n,.string x.b],λx=>cA x.n/\x.b.size<=maxLen,λ_=>rfl,λx u a=>by simp at a;rcases a with rfl|rfl<;>rfl,by decide⟩
abbrev iM:fV (List It):=eE 48 (cx oL) 2
def RPk:fV Pk:=λw a b x c=>∃v,c=[.int .i64 x.no,v]/\cA x.no/\iM w a b x.its [v]
abbrev jM:fV (List Pk):=eE 36 RPk 2
def iM.av:dO iM [48]:=eE.av (cx.av oL)
def RPk.av:dO RPk [48]:=⟨λh a b ⟨v,e,i,hr⟩=>⟨v,e,i,iM.av.go h a b hr⟩⟩
def jM.av:dO jM [36,48]:=eE.av RPk.av
def aae:gD (ah β) 34 48 2 24:=gD.mk' yA (z:=.agg #[.int .i64 0,.string ⟨#[]⟩]) (by kernel_rfl) rfl (by decide) (by decide)
def ahU:gD (ah β) 23 36 2 32:=gD.mk' yD (z:=.agg #[.int .i64 0,.slice none 0 0]) (by kernel_rfl) rfl (by decide) (by decide)
def aaw{xs:List Pk}(h:jM w Z hi xs [.slice A n c]){x:Pk}(i:xs[k]?=some x) :
  ∃b a A' d,A=some ⟨b,a,none⟩/\Z<=b/\b<hi/\cA x.no/\w.cell? ⟨b,a+k*2,none⟩=some (.int .i64 x.no)/\w.cell? ⟨b,a+k*2+1,none⟩=some (.slice A' x.its.length d)/\iM w Z hi x.its [.slice A' x.its.length d]:=by
 obtain⟨b,a,m,rfl,j,g,l,⟨v,rfl,e,hi⟩,f⟩:=h.1.at_ i;obtain⟨A',d,rfl⟩:=hi.form;exact⟨b,a,A',d,rfl,j,g,e,by simpa using f 0 _ rfl,f 1 _ rfl,hi⟩
def ae6{xs:List It}(h:iM w Z hi xs [.slice A n c]){x:It}(g:xs[k]?=some x) :
  ∃b a,A=some ⟨b,a,none⟩/\Z<=b/\b<hi/\(cA x.n/\x.b.size<=maxLen)/\w.cell? ⟨b,a+k*2,none⟩=some (.int .i64 x.n)/\w.cell? ⟨b,a+k*2+1,none⟩=some (.string x.b):=by
 obtain⟨b,a,l,rfl,i,f,j,⟨rfl,d⟩,e⟩:=h.1.at_ g;exact⟨b,a,rfl,i,f,d,by simpa using e 0 _ rfl,e 1 _ rfl⟩
def eE.len_{xs:List Y}(h:eE e E Z w X hi xs [.slice A n c]):n=xs.length/\n<=c/\c<=maxLen:=h.1.len_
def pB(p:Pk):List Sp:=p.its.map λx=>⟨x.n,p.no⟩
def dc(l:List Pk):List Sp:=l.flatMap pB
def IOf(l:List Pk)(r:List Sp):Prop:=((∀s∈dc l,spP s)/\r=eh (dc l) [])\/((¬ ∀s∈dc l,spP s)/\r=[])
def alK{l:List Pk}{x:Pk}(h:l[k]?=some x):dc (l.take (k+1))=dc (l.take k)++pB x:=by
 rw[mx h];unfold dc;rw[rM];simp
def cK(l:List Pk)(k j:Nat):List Sp:=dc (l.take k)++((l[k]?.map λp=>(pB p).take j).getD [])
def ab1(l:List Pk)(k:Nat):cK l k 0=dc (l.take k):=by
 unfold cK;cases l[k]?<;>simp
def ahV{l:List Pk}{x:Pk}{y:It}(h:l[k]?=some x)(a:x.its[j]?=some y):cK l k (j+1)=cK l k j++[⟨y.n,x.no⟩]:=by
 unfold cK;rw[h];simp only[qh,qn];rw[tn]
 congr 1
 refine mx (k:=j) ?_;unfold pB;rw[qE,a];rfl
def ajo{l:List Pk}{x:Pk}(h:l[k]?=some x):cK l k x.its.length=dc (l.take (k+1)):=by
 rw[alK h];unfold cK;rw[h];simp only[qh,qn]
 congr 1
 unfold pB;exact qe (by rw[pe];exact am _)
def ajp{l:List Pk} :∀s∈cK l k j,s∈dc l:=λs a=>by
 unfold cK at a;rcases me.1 a with h|h
 .obtain⟨p,c,a⟩:=qg.1 h;exact qg.2 ⟨p,pu c,a⟩
 .cases b:l[k]? with
  |none=>rw[b] at h;cases h
  |some x=>
   rw[b] at h;exact qg.2 ⟨x,da b,pu h⟩
def ajq{l:List Pk}{x:Pk}(h:l[k]?=some x):(cK l k j).length<=(dc l).length:=by
 have a:dc l=dc (l.take k)++dc (l.drop k):=by
  unfold dc;rw[<-rM,tz]
 rw[a];unfold cK;rw[h,ap,ap];have:l.drop k=x::l.drop (k+1):=by
  rw[sP (aB h)]
  congr 1
  exact(li.1 h).2
 rw[this];unfold dc;rw[List.flatMap_cons,ap];simp only[qh,qn,fb];omega
def IOf.ix{l:List Pk}{r:List Sp}(h:IOf l r):ixP r:=by
 rcases h with⟨h,rfl⟩|⟨_,rfl⟩
 .exact ajm ar8 h
 .exact ar8
end
section
variable {β:Bool}
open Go.RowKit
section
variable {α:Type} {E:fV α} {T:List TypeId} {sz:Nat} {e:TypeId}
def Els(E:fV α)(sz:Nat)(w:World)(lo hi:Nat)(xs:List α)(cells:List Value):Prop:=
 cells.length=xs.length*sz/\(∀u∈cells,u.oneCell'=true)/\∃m:Nat->Nat,(∀i,m i<=m (i+1))/\lo<=m 0/\m xs.length<=hi/\
  ∀i x,xs[i]?=some x->∃a:List Value,a.length=sz/\E w (m i) (m (i+1)) x a/\∀j u,a[j]?=some u->cells[i*sz+j]?=some u
def dY{m:Nat->Nat}(h:∀i,m i<=m (i+1)){i:Nat}:∀{j:Nat},i<=j->m i<=m j
 |0,hj=>by obtain rfl:i=0:=by omega
           exact am _
 |j+1,hj=>by
  by_cases a:i=j+1
  .rw[a];exact am _
  .exact bd (dY h (show i<=j by omega)) (h j)
def Els.nil(h:Z<=hi):Els E sz w Z hi [] []:=⟨by simp,λ_ h=>(by cases h),λ_=>Z,λ_=>am _,am _,h,λi x h=>by simp at h⟩
def Els.le{xs:List α}(h:Els E sz w Z hi xs V):Z<=hi:=by
 obtain⟨_,_,m,b,a,c,_⟩:=h;exact bd a (bd (dY b (fa _)) c)
def Els.go(g:dO E T){xs:List α}(h:Els E sz w Z hi xs V)(k:∀b,Z<=b->b<hi->Typed w T b->w'.heap[b]?=w.heap[b]?)(t:jR<=Z)(r:hi<=hi'):Els E sz w' jR hi' xs V:=by
 obtain⟨a,b,m,c,q,s,o⟩:=h;refine⟨a,b,m,c,by omega,by omega,λi x hi=> ?_⟩;obtain⟨j,l,f,n⟩:=o i x hi;have d:=aB hi;have v:=dY c (fa i);have y:=dY c (show i+1<=xs.length by omega);exact⟨j,l,g.go (λb p u e=>k b (by omega) (by omega) e) (am _) (am _) f,n⟩
def Els.snoc{xs:List α}(h:Els E sz w Z X xs V){y:α}{es:List Value}(o:es.length=sz)(A:∀u∈es,u.oneCell'=true)(H:X<=hi)(B:E w X hi y es)(G:∀a b,a<=X->E w X hi y es->E w a b y es->True:=λ_ _ _ _ _=>trivial):Lcy E->Els E sz w Z hi (xs++[y]) (V++es):=by
 intro g;obtain⟨a,b,m,p,q,r,F⟩:=h;refine⟨by rw[ap,ap,a,o,oE,Nat.add_mul,Nat.one_mul],λu d=> ?_,λi=>if i<=xs.length then m i else hi,λi=> ?_, ?_, ?_,λi x c=> ?_⟩
 .rcases me.1 d with d|d
  .exact b u d
  .exact A u d
 .show(if i<=xs.length then m i else hi)<=(if i+1<=xs.length then m (i+1) else hi);by_cases l:i+1<=xs.length
  .rw[dl l,dl (by omega)];exact p i
  .rw[be l];by_cases k:i<=xs.length
   .rw[dl k];have:=dY p k;omega
   .rw[be k];exact am _
 .show Z<=(if 0<=xs.length then m 0 else hi);rw[dl (fa _)];exact q
 .show(if(xs++[y]).length<=xs.length then _ else hi)<=hi;rw[be (by rw[ap,oE];omega)];exact am _
 .rcases pa i xs.length with f|C
  .rw[qz f] at c;obtain⟨n,z,v,D⟩:=F i x c;refine⟨n,z, ?_,λj u d=> ?_⟩
   .show E w (if i<=xs.length then m i else hi) (if i+1<=xs.length then m (i+1) else hi) x n;rw[dl (by omega),dl (by omega)];exact v
   .have I:=aB d;have t:(i+1)*sz<=xs.length*sz:=rb _ f;rw[rz] at t;rw[qz (by omega)];exact D j u d
  .rw[qo C] at c;have s:i-xs.length=0:=by have:=aB c;simp at this;omega
   rw[s] at c;simp at c;subst c;have e:i=xs.length:=by omega
   refine⟨es,o, ?_,λj u d=> ?_⟩
   .show E w (if i<=xs.length then m i else hi) (if i+1<=xs.length then m (i+1) else hi) y es;rw[dl (by omega),be (by omega),e];exact g.wide B r (am _)
   .rw[e,qo (by omega),a,rJ];exact d
def Els.at_(K:dO E T){xs:List α}(h:Els E sz w Z hi xs V){x:α}(v:xs[i]?=some x) :
  ∃m l g,Z<=m/\m<=l/\l<=hi/\g.length=sz/\E w m l x g/\(∀j u,g[j]?=some u->V[i*sz+j]?=some u)/\
   ∀(n:World) (y:α) (d:List Value),d.length=sz->(∀u∈d,u.oneCell'=true)->(∀b,Z<=b->b<hi->Typed w T b->¬(m<=b/\b<l)->n.heap[b]?=w.heap[b]?)->E n m l y d->
    ∀c:List Value,c.length=V.length->(∀k,¬(i*sz<=k/\k<i*sz+sz)->c[k]?=V[k]?)->(∀j u,d[j]?=some u->c[i*sz+j]?=some u)->(∀u∈c,u.oneCell'=true)->Els E sz n Z hi (xs.set i y) c:=by
 obtain⟨a,b,m,e,B,C,A⟩:=h;have p:=aB v;obtain⟨g,P,J,Q⟩:=A i x v;have l1:=dY e (fa i);have l2:=dY e (show i+1<=xs.length by omega);refine⟨m i,m (i+1),g,by omega,e i,by omega,P,J,Q,λn y d L X N M c R r q s=>⟨by rw[R,a,qL],s,m,e,B,by rw[qL];exact C,λk z f=> ?_⟩⟩;by_cases o:i=k
 .subst o;rw[rj p] at f;cases f;exact⟨d,L,M,q⟩
 .rw[rG o] at f;obtain⟨G,I,H,O⟩:=A k z f;have D:=aB f;have S:=dY e (fa k);have k2:=dY e (show k+1<=xs.length by omega);refine⟨G,I,K.go (λb U Y F=>N b (by omega) (by omega) F λW=> ?_) (am _) (am _) H,λj u t=> ?_⟩
  .rcases Nat.lt_or_gt_of_ne o with h|h
   .have:=dY e (show i+1<=k by omega);omega
   .have:=dY e (show k+1<=i by omega);omega
  .rw[r _ (by
    have hj:=aB t;rcases Nat.lt_or_gt_of_ne o with h|h
    .have:(i+1)*sz<=k*sz:=rb _ h;rw[rz] at this;omega
    .have:(k+1)*sz<=i*sz:=rb _ h;rw[rz] at this;omega)]
   exact O j u t
def aZ(e:TypeId)(E:fV α)(sz:Nat):fV (List α):=λw b c a d=>
 ∃(v:Value) (cells:List Value),d=[v]/\w.ownsRow b e sz v a.length cells/\(∀g,v.ownBlock=some g->g<c)/\Els E sz w b c a cells
def aZ.form{xs:List α}(h:aZ e E sz w Z hi xs [v]):∃A c,v=.slice A xs.length c:=by
 obtain⟨b,cells,a,h,_⟩:=h;cases a;exact iH h
def aZ.av(o:dO E T):dO (aZ e E sz) (e::T):=by
 refine⟨?_⟩;intro w u B z x s y A k n j h;obtain⟨v,cells,rfl,i,l,f⟩:=h;refine⟨v,cells,rfl,⟨i.1, ?_⟩,λg a=>aE (l g a) j,f.go o (λb p q ⟨t,ht,hd⟩=>k b p q ⟨t,qS _ ht,hd⟩) n j⟩;rcases i.2 with r|⟨g,cap,c,rfl,m,a,d⟩
 .exact .inl r
 .refine .inr ⟨g,cap,c,rfl,bd n m, ?_,d⟩;rw[k g m (l g rfl) ⟨e,qR,c,a⟩];exact a
def aZ.sl{k:fV α}(d:Lcy k)(H:∀{w:World} {Z hi:Nat} {x:α} {b:List Value},E w Z hi x b->k w Z hi x b){xs:List α}(h:aZ e E sz w Z hi xs cs):cG k sz w Z hi xs cs:=by
 obtain⟨v,cells,rfl,z,t,a,_,m,o,J,K,I⟩:=h;obtain⟨_,q⟩:=z;rcases q with⟨rfl,r⟩|⟨g,cap,l,rfl,s,B,n,f,D,y⟩
 .exact⟨none,0,by rw[r],by omega,by unfold maxLen;omega,λL=>by omega⟩
 .refine⟨_,cap,rfl,n,f,λ_=>⟨g,0,rfl,s,t g rfl,λi x hi=> ?_⟩⟩;obtain⟨b,F,A,G⟩:=I i x hi;have p:=aB hi;have M:=dY o (fa i);have N:=dY o (show i+1<=xs.length by omega);refine⟨b,F,d.wide (H A) (by omega) (by omega),λj u C=> ?_⟩;have c:=G j u C;rw[<-y,rB] at c;split at c
  .rw[cell_of_row w g (0+i*sz+j) l _ (0,0) B,jt];simpa using c
  .cases c
def aZ.slT{f:fV α}(a:Lcy f)(o:∀{w:World} {Z hi:Nat} {x:α} {i:List Value},E w Z hi x i->f w Z hi x i){xs:List α}(h:aZ e E sz w Z hi xs cs):eE e f sz w Z hi xs cs:=by
 refine⟨h.sl a o,λq b l n c j=> ?_⟩;obtain⟨v,cells,rfl,p,r,_⟩:=h;simp only[qi,qm] at j;subst j;rcases p.2 with⟨d,_⟩|⟨g,cap,k,d,_,m,_⟩
 .cases d
 .cases d;exact⟨_,m⟩
def aZ.some_{xs:List α}(h:aZ e E sz w Z hi xs [v])(k:0<xs.length):∃g c,v=.slice (some ⟨g,0,none⟩) xs.length c/\Z<=g/\g<hi/\g<w.heap.size/\∃j,bW w g e j:=by
 obtain⟨l,cells,i,h,f,_⟩:=h;cases i;rcases h.2 with⟨_,m⟩|⟨g,cap,a,rfl,d,b,_⟩
 .omega
 .exact⟨g,cap,rfl,d,f g rfl,(show bW w g e a from b).lt,a,b⟩
def aZ.frozen{xs:List α}(h:aZ e E sz w Z hi xs [.slice (some ⟨g,0,none⟩) n c])(j:Nat):w.frozen? ⟨g,j,none⟩=false:=by
 obtain⟨d,cells,a,h,i,_⟩:=h;cases a;obtain⟨A,f,b⟩:=iH h;cases b;exact h.frozenAt j
def aZ.at_(P:dO E T)(B:e∉T){xs:List α}(h:aZ e E sz w Z hi xs [.slice (some ⟨g,0,none⟩) n c]){x:α}(I:xs[i]?=some x) :
  ∃m a f,Z<=m/\m<=a/\a<=hi/\f.length=sz/\E w m a x f/\(∀j u,f[j]?=some u->w.cell? ⟨g,i*sz+j,none⟩=some u)/\
   ∀(k:World) (y:α),bM (λb=>m<=b/\b<a/\Typed w T b) w k->E k m a y f->aZ e E sz k Z hi (xs.set i y) [.slice (some ⟨g,0,none⟩) n c]:=by
 obtain⟨V,cells,q,o,K,d⟩:=h;cases q;obtain⟨A,W,C⟩:=iH o;cases C;have r:=aB I;obtain⟨m,a,f,R,S,N,q,C,F,z⟩:=d.at_ P I;refine⟨m,a,f,R,S,N,q,C,λj u p=> ?_,λk y G Q=> ?_⟩
 .have J:=aB p;have l:(i+1)*sz<=xs.length*sz:=rb _ r;rw[rz] at l;rw[o.cellAt _ (by omega)];exact F j u p
 .have D:¬(m<=g/\g<a/\Typed w T g):=λ⟨_,_,t,s,M,hd⟩=>by
   rcases o.2 with⟨v,_⟩|⟨X,cap,O,v,_,L,_⟩
   .cases v
   .cases v;exact B (dC L hd▸s)
  refine⟨_,cells,rfl, ?_,K,z k y f q (λu p=> ?_) (λb U Y s l=> ?_) Q cells rfl (λ_ _=>rfl) F d.2.1⟩
  .rw[qL];exact adY o G λb l=>by cases l;exact D
  .obtain⟨j,J⟩:=qF p;exact d.2.1 u (da (F j u J))
  .obtain⟨t,_,M,hd⟩:=id s;exact G.block b hd.lt λH=>l ⟨H.1,H.2.1⟩
def aZ.put(Q:dO E T)(K:e∉T){xs:List α}(h:aZ e E sz w Z hi xs [.slice (some ⟨g,0,none⟩) n c]){x y:α}{u:Value}(N:xs[i]?=some x)(hj:j<sz)(U:u.oneCell'=true)(W:∀(O:World) (Z hi:Nat) (s:List Value),E O Z hi x s->E O Z hi y (s.set j u)) :
  aZ e E sz (w.setCell ⟨g,i*sz+j,none⟩ u) Z hi (xs.set i y) [.slice (some ⟨g,0,none⟩) n c]:=by
 obtain⟨v',cells,D,C,V,o⟩:=h;cases D;obtain⟨A,c',B⟩:=iH C;cases B;have F:=aB N;have I:=(C.stored (i*sz+j) u).1;obtain⟨m,m',s,l1,l2,l3,D,B,X,J⟩:=o.at_ Q N;have H:¬Typed w T g:=λ⟨t,l,ds,hd⟩=>by
  rcases C.2 with⟨G,_⟩|⟨Y,cap,S,G,_,P,_⟩
  .cases G
  .cases G;exact K (dC P hd▸l)
 have M:∀b,Typed w T b->(w.setCell ⟨g,i*sz+j,none⟩ u).heap[b]?=w.heap[b]?:=λb l=>qb _ _ _ _ (by rintro rfl;exact H l);have d:∀v∈cells.set (i*sz+j) u,v.oneCell'=true:=λv p=>by
  rcases sO p with p|rfl
  .exact o.2.1 v p
  .exact U
 have r:∀f z,(s.set j u)[f]?=some z->(cells.set (i*sz+j) u)[i*sz+f]?=some z:=λf z a=>by
  by_cases q:j=f
  .subst q;rw[rj (by omega)] at a;rw[rj (by
    have R:(i+1)*sz<=xs.length*sz:=rb _ F;rw[rz] at R;rw[o.1];omega)]
   exact a
  .rw[rG q] at a;rw[rG (by omega)];exact X f z a
 refine⟨_,cells.set (i*sz+j) u,rfl,by rw[qL];exact I,V,J _ y (s.set j u) (by rw[qL];exact D) (λv p=> ?_) (λb b1 b2 l _=>M b l) (W _ _ _ _ (Q.go (λb _ _ l=>M b l) (am _) (am _) B)) _ (by rw[qL]) (λk P=> ?_) r d⟩
 .obtain⟨f,L⟩:=qF p;exact d v (da (r f v L))
 .rw[rG (by omega)]
end
def aH.acP{base : Nat}{xs:List Y}(h:aH F e w base v xs)(b:∀x∈xs,F.good x)(c:base<=hi)(a:∀g,v.ownBlock=some g->g<hi):aZ e (cx F) F.sz w base hi xs [v]:=
 ⟨v,dm F xs,rfl,h,a,dJ F xs,pW F xs,λ_=>base,λ_=>am _,am _,c,λi x hi=>⟨F.cells x,F.len x,⟨rfl,b x (da hi)⟩,λ_ _ d=>dX F xs i _ x _ hi d⟩⟩
def aZ.flat{xs:List Y}(h:aZ e (cx F) F.sz w Z hi xs [v]):aH F e w Z v xs/\(∀x∈xs,F.good x)/\Z<=hi/\∀g,v.ownBlock=some g->g<hi:=by
 obtain⟨A,cells,y,j,p,a⟩:=h;cases y;have d:=a.le;obtain⟨D,C,m,E,z,B,o⟩:=a;have q:∀x∈xs,F.good x:=λx b=>by
  obtain⟨i,hi⟩:=qF b;obtain⟨u,_,t,_⟩:=o i x hi;exact t.2
 refine⟨?_,q,d,p⟩;have:cells=dm F xs:=by
  apply un;intro k;rcases pa k (xs.length*F.sz) with c|c
  .have hi:k / F.sz<xs.length:=wd (by rw[tw];exact c);have b:=iS hi;obtain⟨u,r,⟨rfl,_⟩,s⟩:=o _ _ b;have n:k % F.sz<(F.cells xs[k / F.sz]).length:=by rw[F.len];exact ud _ F.pos
   have l:=s (k % F.sz) _ (iS n);have f:=dX F xs (k / F.sz) (k % F.sz) _ _ b (iS n);rw[vD] at l f;rw[l,f]
  .rw[rx (by omega),rx (by rw[dJ];exact c)]
 rw[this] at j;exact j
end
section
variable {β:Bool}
open Go.RowKit
structure Ls where
 p:ByteArray
 ns:List Int
structure Sn where
 no:Int
 all:List Ls
structure Hd where
 b:Int
 s:Int
structure dS where
 pk:List Pk
 sn:List Sn
 lg:List Hd
def FHd:Flat Hd:=⟨2,λx=>[.int .i64 x.b,.int .i64 x.s],λx=>cA x.b/\cA x.s,λ_=>rfl,λx u a=>by simp at a;rcases a with rfl|rfl<;>rfl,by decide⟩
abbrev ae7:fV (List It):=cG (cx oL) 2
def apj:fV Pk:=λw a b x c=>∃v,c=[.int .i64 x.no,v]/\cA x.no/\ae7 w a b x.its [v]
abbrev kJ:fV (List Pk):=cG apj 2
def apk:fV Ls:=λw a b x c=>∃v,c=[.string x.p,v]/\x.p.size<=maxLen/\cG oZ 1 w a b x.ns [v]
abbrev oW:fV (List Ls):=cG apk 2
def apl:fV Sn:=λw a b x c=>∃v,c=[.int .i64 x.no,v]/\cA x.no/\oW w a b x.all [v]
abbrev jW:fV (List Sn):=cG apl 2
abbrev lN:fV (List Hd):=cG (cx FHd) 2
def ae7.loc:Lcy ae7:=cG.loc (cx.loc oL)
def apj.loc:Lcy apj:=⟨λh a b ⟨v,e,i,hr⟩=>⟨v,e,i,ae7.loc.go h a b hr⟩⟩
def kJ.loc:Lcy kJ:=cG.loc apj.loc
def aes.loc:Lcy (cG oZ 1):=cG.loc oZ.loc
def apk.loc:Lcy apk:=⟨λh a b ⟨v,e,i,hr⟩=>⟨v,e,i,aes.loc.go h a b hr⟩⟩
def oW.loc:Lcy oW:=cG.loc apk.loc
def apl.loc:Lcy apl:=⟨λh a b ⟨v,e,i,hr⟩=>⟨v,e,i,oW.loc.go h a b hr⟩⟩
def jW.loc:Lcy jW:=cG.loc apl.loc
def lN.loc:Lcy lN:=cG.loc (cx.loc FHd)
def cG.axF{g : fV Y}(t:∀{w:World} {X hi:Nat} {x:Y} {a:List Value},E w X hi x a->g w X hi x a){xs:List Y}(h:cG E Z w X hi xs cs):cG g Z w X hi xs cs:=by
 obtain⟨A,c,f,l,q,p⟩:=h;refine⟨A,c,f,l,q,λo=> ?_⟩;obtain⟨b,e,m,k,j,d⟩:=p o;refine⟨b,e,m,k,j,λi x hi=> ?_⟩;obtain⟨a,r,n,s⟩:=d i x hi;exact⟨a,r,t n,s⟩
abbrev adH:fV (List It):=aZ 48 (cx oL) 2
def OPk:fV Pk:=λw a b x c=>∃v,c=[.int .i64 x.no,v]/\cA x.no/\adH w a b x.its [v]
abbrev dG:fV (List Pk):=aZ 36 OPk 2
abbrev ae8:fV (List Int):=aZ 3 (cx fM) 1
def adH.av:dO adH [48]:=aZ.av (cx.av oL)
def OPk.av:dO OPk [48]:=⟨λh a b ⟨v,e,i,hr⟩=>⟨v,e,i,adH.av.go h a b hr⟩⟩
def dG.av:dO dG [36,48]:=aZ.av OPk.av
def ae8.av:dO ae8 [3]:=aZ.av (cx.av fM)
def adH.l{x:List It}(h:adH w Z hi x cs):ae7 w Z hi x cs:=aZ.sl (cx.loc oL) (λh=>h) h
def adH.t{x:List It}(h:adH w Z hi x cs):iM w Z hi x cs:=aZ.slT (cx.loc oL) (λh=>h) h
def OPk.l{x:Pk}(h:OPk w Z hi x cs):apj w Z hi x cs:=by
 obtain⟨v,e,i,a⟩:=h;exact⟨v,e,i,adH.l a⟩
def OPk.t{x:Pk}(h:OPk w Z hi x cs):RPk w Z hi x cs:=by
 obtain⟨v,e,i,a⟩:=h;exact⟨v,e,i,adH.t a⟩
def dG.l{x:List Pk}(h:dG w Z hi x cs):kJ w Z hi x cs:=aZ.sl apj.loc OPk.l h
def dG.t{x:List Pk}(h:dG w Z hi x cs):jM w Z hi x cs:=aZ.slT RPk.av.loc OPk.t h
def ae8.l{x:List Int}(h:ae8 w Z hi x cs):cG oZ 1 w Z hi x cs:=aZ.sl oZ.loc (λh=>h) h
def OLs:fV Ls:=λw a b x c=>∃v,c=[.string x.p,v]/\x.p.size<=maxLen/\ae8 w a b x.ns [v]
abbrev gq:fV (List Ls):=aZ 101 OLs 2
def OSn:fV Sn:=λw a b x c=>∃v,c=[.int .i64 x.no,v]/\cA x.no/\gq w a b x.all [v]
abbrev dH:fV (List Sn):=aZ 83 OSn 2
abbrev dD:fV (List Hd):=aZ 72 (cx FHd) 2
def OLs.av:dO OLs [3]:=⟨λh a b ⟨v,e,i,hr⟩=>⟨v,e,i,ae8.av.go h a b hr⟩⟩
def gq.av:dO gq [101,3]:=aZ.av OLs.av
def OSn.av:dO OSn [101,3]:=⟨λh a b ⟨v,e,i,hr⟩=>⟨v,e,i,gq.av.go h a b hr⟩⟩
def dH.av:dO dH [83,101,3]:=aZ.av OSn.av
def dD.av:dO dD [72]:=aZ.av (cx.av FHd)
def OLs.l{x:Ls}(h:OLs w Z hi x cs):apk w Z hi x cs:=by
 obtain⟨v,e,i,a⟩:=h;exact⟨v,e,i,ae8.l a⟩
def gq.l{x:List Ls}(h:gq w Z hi x cs):oW w Z hi x cs:=aZ.sl apk.loc OLs.l h
def OSn.l{x:Sn}(h:OSn w Z hi x cs):apl w Z hi x cs:=by
 obtain⟨v,e,i,a⟩:=h;exact⟨v,e,i,gq.l a⟩
def dH.l{x:List Sn}(h:dH w Z hi x cs):jW w Z hi x cs:=aZ.sl apl.loc OSn.l h
def dD.l{x:List Hd}(h:dD w Z hi x cs):lN w Z hi x cs:=aZ.sl (cx.loc FHd) (λh=>h) h
def dU{α:Type}(f:α->Nat)(l:List α):Nat:=l.length+(l.map f).sum
def aaf{a:Type}{f:a->Nat}:∀{l:List a} {x:a},x∈l->f x<=dU f l
 |[],_,h=>by cases h
 |y::l,x,h=>by
  have e:dU f (y::l)=dU f l+1+f y:=by unfold dU;simp only[ff,qP,uw];omega
  rcases mc.1 h with rfl|h
  .omega
  .have:=aaf (f:=f) h;omega
def fp{f:Y->Nat}{l:List Y}:l.length<=dU f l:=by unfold dU;omega
def bIt(x:It):Nat:=x.b.size
def bPk(x:Pk):Nat:=dU bIt x.its
def bLs(x:Ls):Nat:=x.p.size+x.ns.length
def bSn(x:Sn):Nat:=dU bLs x.all
def ab2{α:Type}(n:α->Nat)(l:List α)(j:Nat):Nat:=((l.take j).map n).sum
def afH{α:Type}(n:α->Nat)(l:List α):Nat:=(l.map n).sum
def alL{n:Y->Nat}{l:List Y}{x:Y}(h:l[j]?=some x):ab2 n l (j+1)=ab2 n l j+n x:=by
 unfold ab2;rw[mx h,qK,List.sum_append];simp
def apm(n:Y->Nat)(l:List Y):ab2 n l l.length=afH n l:=by unfold ab2 afH;rw[ge]
def ajr{n:Y->Nat}{l:List Y} :ab2 n l j<=afH n l:=by
 unfold ab2 afH;have h:l.map n=(l.take j).map n++(l.drop j).map n:=by rw[<-qK,tz]
 rw[h,List.sum_append];omega
def ab3{c:Type}:∀(l:List c) (j:Nat) (a b:c),(l.set j a).set j b=l.set j b
 |[],_,_,_=>rfl
 |_::_,0,_,_=>rfl
 |x::l,j+1,a,b=>by show x::(l.set j a).set j b=x::l.set j b;rw[ab3 l j a b]
def alM(h:bM S w w'){T U:List TypeId}(e:∀t∈T,t∈U)(i:b<hi)(j:hi<=w.heap.size)(d:S b->Typed w U b)(g:Typed w' T b):Typed w U b:=by
 by_cases a:S b
 .exact d a
 .obtain⟨t,f,c,hd⟩:=g;exact⟨t,e t f,c,(h.block b (by omega) a).symm.trans hd⟩
end
section
variable {β:Bool}
open Go.RowKit
def ahW(p:Prop)(e:Ending):Prop:=(e=.returned (.bool true)/\p)\/e=.returned (.bool false)
def ahW.of{q:Bool}{p:Prop}(h:q=true->p):ahW p (.returned (.bool q)):=by
 cases q
 .exact .inr rfl
 .exact .inl ⟨rfl,h rfl⟩
def nm(b:Nat):Bool:=decide (97<=b)&&decide (b<=101)
def gp(s:ByteArray):Bool:=if h:s.size=1 then nm (s[0]'(by omega)).toNat else if h:s.size=3 then nm (s[0]'(by omega)).toNat&&(decide ((s[1]'(by omega)).toNat=47)&&nm (s[2]'(by omega)).toNat) else false
def dE(s:ByteArray):Bool:=decide (s.size<=40)&&(bs s).all oJ
def kR(h:gp s=true):s.size=1\/s.size=3:=by
 unfold gp at h;split at h
 .exact .inl (by assumption)
 .split at h
  .exact .inr (by assumption)
  .cases h
def pC(b:Nat)(w:World) :
  Calls (ah β) 76 #[.int .u8 b] w λe f=>e=.returned (.bool (nm b))/\w=f:=by
 by_cases c:97<=b
 .by_cases a:b<=101
  .have e:nm b=true:=by unfold nm;rw[db c,db a];rfl
   rw[e];have d:=db (show(b:Int)<=101 by omega);go_enter xf,ntmps76;go_wp2;go_ret;exact⟨rfl,rfl⟩
  .have e:nm b=false:=by unfold nm;rw[bv a,Bool.and_false]
   rw[e];have d:=bv (show ¬((b:Int)<=101) by omega);go_enter xf,ntmps76;go_wp2;go_ret;exact⟨rfl,rfl⟩
 .have e:nm b=false:=by unfold nm;rw[bv c,uf]
  rw[e];go_enter xf,ntmps76;go_wp2;go_ret;exact⟨rfl,rfl⟩
def kS(s:ByteArray)(f:s.size<=maxLen)(w:World) :
  Calls (ah β) 52 #[.string s] w λe d=>e=.returned (.bool (dE s))/\w=d:=by
 by_cases b:s.size<=40
 .have a:(bs s).all oJ=dE s:=by unfold dE;rw[db b,uy]
  replace a:=ab a;have c:=db (show(s.size:Int)<=40 by omega);go_enter xz,ntmps52;go_wp2;refine(aaA s f w).mono ?_;rintro e g ⟨rfl,rfl⟩;rw[a.out];go_wp2;go_ret;exact⟨rfl,rfl⟩
 .have c:=bv (show ¬((s.size:Int)<=40) by omega);have e:dE s=false:=by unfold dE;rw[bv b,uf]
  rw[e];go_enter xz,ntmps52;go_wp2;go_ret;exact⟨rfl,rfl⟩
def ae9(s:ByteArray)(n:Nat)(H:s.size*n<=100)(G:s.size<=100)(j:n<=100)(w:World) :
  Calls (ah β) 54 #[.string s,.int .i64 n] w λe r=>(∃t:ByteArray,e=.returned (.string t)/\t.size<=100)/\w=r:=by
 go_enter yZ,ntmps54;go_wp2
 go_loop [0,1,5] (λa i o=>∃(x y:ByteArray) (k:Nat),a=.string x/\i=.int .i64 k/\o=.string y/\y.size+x.size*k<=100/\x.size<=200/\k<=100) (λ_ i _=>(intOf i).toNat)
 case atStart=>exact⟨s,⟨#[]⟩,n,rfl,rfl,rfl,by show 0+_<=_;omega,by omega,j⟩
 case round=>
  obtain⟨x,y,k,rfl,rfl,rfl,f,C,F⟩:=hrel;have d:(x++x).size=x.size+x.size:=by rw[<-aM,ik,ap,aM]
  have c:(y++x).size=y.size+x.size:=by rw[<-aM,ik,ap,aM,aM]
  by_cases v:k=0
  .subst v;go_wp2;go_ret;exact⟨⟨y,rfl,by omega⟩,rfl⟩
  .have A:x.size<=100:=by
    have:x.size*1<=x.size*k:=Nat.mul_le_mul_left _ (by omega);omega
   obtain⟨m,p⟩:∃m,m=k / 2:=⟨_,rfl⟩;have E:(k:Int) / 2=((m:Nat):Int):=by omega
   have D:0<(k:Int):=by omega
   have z:m<=100/\m<k:=by omega
   have u:y.size<=100:=by omega
   rcases uZ k with l|l
   .have q:(k:Int) % 2=0:=by omega
    have b:(x.size+x.size)*m=x.size*k:=by
     have:k=2*m:=by omega
     rw[this,<-Nat.two_mul,tw 2,Nat.mul_assoc]
    have g:=ab b;replace d:=ab d;replace f:=ab f;clear b c l p;go_wp2
    go_round
    case rel=>exact⟨x++x,y,m,rfl,rfl,rfl,by rw[d.out,g.out];exact f.out,by rw[d.out];omega,by omega⟩
    simp[intOf];omega
   .have q:(k:Int) % 2=1:=by omega
    have b:y.size+x.size+(x.size+x.size)*m=y.size+x.size*k:=by
     have:k=2*m+1:=by omega
     rw[this,Nat.mul_add,<-Nat.two_mul,tw 2,Nat.mul_assoc,tI];omega
    have g:=ab b;replace d:=ab d;replace c:=ab c;replace f:=ab f;clear b p;have B:(((k:Int) % 2) ==1)=true:=by rw[q];rfl
    go_wp2
    go_round
    case rel=>exact⟨x++x,y++x,m,rfl,rfl,rfl,by rw[d.out,c.out,g.out];exact f.out,by rw[d.out];omega,by omega⟩
    simp[intOf];omega
def jd(s:ByteArray)(p:s.size<=maxLen)(w:World) :
  Calls (ah β) 51 #[.string s] w λe o=>e=.returned (.bool (gp s))/\w=o:=by
 unfold maxLen at p;by_cases j:s.size=1
 .have m:((s.size:Int) ==1)=true:=by rw[j];rfl
  have a:0<s.size:=by omega
  have g:nm (s[0]'a).toNat=gp s:=by unfold gp;rw[tq j]
  have q:=ab g;have HC:=ab (pC (β:=β) (s[0]'a).toNat w);go_enter wH,ntmps51;go_wp2;refine HC.out.mono ?_;rintro e i ⟨rfl,rfl⟩;rw[q.out];go_wp2;go_ret;exact⟨rfl,rfl⟩
 .by_cases k:s.size=3
  .have m:((s.size:Int) ==1)=false:=dq.2 (by omega);have n:((s.size:Int) ==3)=true:=by rw[k];rfl
   have a:0<s.size:=by omega
   have b:1<s.size:=by omega
   have f:2<s.size:=by omega
   have g:gp s=(nm (s[0]'a).toNat&&(decide ((s[1]'b).toNat=47)&&nm (s[2]'f).toNat)):=by unfold gp;rw[dif_neg j,tq k]
   have HC:=ab (pC (β:=β) (s[0]'a).toNat w);have c:=ab (pC (β:=β) (s[2]'f).toNat w);rw[g];revert HC;revert c;generalize nm (s[0]'a).toNat=q0;generalize nm (s[2]'f).toNat=q2;intro c HC;cases q0
   .go_enter wH,ntmps51;go_wp2;refine HC.out.mono ?_;rintro e i ⟨rfl,rfl⟩;go_wp2;go_ret;exact⟨rfl,rfl⟩
   .by_cases d:(s[1]'b).toNat=47
    .rw[db d];have l:(((s[1]'b).toNat:Int) ==47)=true:=by rw[d];rfl
     go_enter wH,ntmps51;go_wp2;refine HC.out.mono ?_;rintro e i ⟨rfl,rfl⟩;go_wp2;refine c.out.mono ?_;rintro e i ⟨rfl,rfl⟩;go_wp2;go_ret;exact⟨by cases q2<;>rfl,rfl⟩
    .rw[bv d];have l:(((s[1]'b).toNat:Int) ==47)=false:=dq.2 (by omega);go_enter wH,ntmps51;go_wp2;refine HC.out.mono ?_;rintro e i ⟨rfl,rfl⟩;go_wp2;go_ret;exact⟨rfl,rfl⟩
  .have m:((s.size:Int) ==1)=false:=dq.2 (by omega);have n:((s.size:Int) ==3)=false:=dq.2 (by omega);have g:gp s=false:=by unfold gp;rw[dif_neg j,dif_neg k]
   rw[g];go_enter wH,ntmps51;go_wp2;go_ret;exact⟨rfl,rfl⟩
def je(s t:ByteArray):Bool:=if h:0<s.size/\0<t.size then(if s.size=t.size then false else((s[0]'h.1).toNat:Int) ==((t[0]'h.2).toNat:Int)) else false
def ahX(s t:ByteArray)(o:0<s.size/\s.size<=maxLen)(n:0<t.size/\t.size<=maxLen)(w:World) :
  Calls (ah β) 68 #[.string s,.string t] w λe l=>e=.returned (.bool (je s t))/\Below w.heap.size w l:=by
 obtain⟨a,j⟩:=o;obtain⟨b,k⟩:=n;by_cases i:s.size=t.size
 .have f:je s t=false:=by unfold je;rw[tq ⟨a,b⟩,dl i]
  rw[f];go_enter xw,ntmps68;go_wp2;refine aQ 12 [0,1,2,3,4,5,6,7,8,9,10,11] [] (h:= ?_);simp only[pick,List.map,mT,nf];repeat(go_big_quiet_step (fail))
  refine gt ?_;apply Exists.intro;refine bY ?_;intro p g m d c;dsimp only[gU] at c;try rw[d] at c
  simp only[List.drop];go_wp2;go_ret;exact⟨rfl,g⟩
 .have q:((s.size:Int) !=(t.size:Int))=true:=by simp;omega
  have f:je s t=(((s[0]'a).toNat:Int) ==((t[0]'b).toNat:Int)):=by unfold je;rw[tq ⟨a,b⟩,be i]
  rw[f];go_enter xw,ntmps68;go_wp2;refine aQ 12 [0,1,2,3,4,5,6,7,8,9,10,11] [] (h:= ?_);simp only[pick,List.map,mT,nf];repeat(go_big_quiet_step (fail))
  refine gt ?_;apply Exists.intro;refine bY ?_;intro p g m d c;dsimp only[gU] at c;try rw[d] at c
  simp only[List.drop];go_wp2;go_ret;exact⟨rfl,g⟩
def dig(x:Nat):Int:=((x:Int)-97) % 256
def pD(l:List Nat)(p:Nat):Bool:=(dig (l.getD (p-1) 0)+2*dig (l.getD (p-2) 0)+3*dig (l.getD (p-3) 0)) % 5 ==0
def aag(h:k<s.size):(bs s).getD k 0=(s[k]'h).toNat:=by rw[sK,pd h];rfl
def alN(s:ByteArray)(p:Nat)(v:3<=p/\p<s.size)(r:s.size<=maxLen)(w:World) :
  Calls (ah β) 171 #[.string s,.int .i64 p] w λe o=>e=.returned (.bool (pD (bs s) p))/\Below w.heap.size w o:=by
 unfold maxLen at r;obtain⟨a,l⟩:∃a,a=p-1:=⟨_,rfl⟩;obtain⟨b,j⟩:∃b,b=p-2:=⟨_,rfl⟩;obtain⟨c,n⟩:∃c,c=p-3:=⟨_,rfl⟩;have m:a<s.size:=by omega
 have f:b<s.size:=by omega
 have i:c<s.size:=by omega
 have y:(p:Int)-1=((a:Nat):Int):=by omega
 have x:(p:Int)-2=((b:Nat):Int):=by omega
 have z:(p:Int)-3=((c:Nat):Int):=by omega
 have t:(p:Int)<=9223372036854775807:=by omega
 have k:pD (bs s) p=((dig (s[a]'m).toNat+2*dig (s[b]'f).toNat+3*dig (s[c]'i).toNat) % 5 ==0):=by unfold pD;rw[<-l,<-j,<-n,aag m,aag f,aag i]
 rw[k];clear l j n k;go_enter xX,ntmps171;go_wp2;refine aQ 24 [0,1,2,3,4,5,6,7,8,9,10,11,12,13,14,15,16,17,18,19,20,21,22,23] [] (h:= ?_);simp only[pick,List.map,mT,nf];repeat(go_big_quiet_step (fail))
 refine gt ?_;apply Exists.intro;refine bY ?_;intro A u q g d;dsimp only[gU] at d;try rw[g] at d
 clear g q;simp only[List.drop];clear d;go_wp2;go_ret;exact⟨aC rfl,u⟩
end
section
variable {β:Bool}
open Go.RowKit
def gJ(key:Int)(x:It):Prop:=∃p,dF (bs x.b)=some p/\bA key p=x.n
def afQ{l p:List Nat}(h:dF l=some p):aU p/\fw p=l:=by
 unfold dF at h;split at h
 .rename_i a;have e:=ef h;rw[e] at a;exact a
 .cases h
def agz(x:Int)(w:World)(b:Bool)(c:b=true↔1<=x/\x<=99):Calls (ah β) 33 #[.int .i64 x] w λe a=>e=.returned (.bool b)/\w=a:=by
 go_enter zu,ntmps33;go_wp2;refine(gC _ _ _ _).mono ?_;rintro e d ⟨rfl,rfl⟩;go_wp2;go_ret;exact⟨aC (by rw[qj,c];simp),rfl⟩
def ajt(key:Int)(u:1<=key/\key<=99)(x:It)(y:x.b.size<=maxLen)(w:World)(b:Bool)(f:b=true↔gJ key x) :
  Calls (ah β) 34 #[.int .i64 key,.agg #[.int .i64 x.n,.string x.b]] w λe q=>e=.returned (.bool b)/\Below w.heap.size w q:=by
 replace f:=ab f;have B:x.b.size<=maxLen:=y;go_enter zt,ntmps34;go_wp2;generalize z:w.alloc (.cells #[.int .i64 x.n,.string x.b] 48)=w0 at *;obtain⟨o,G,E,n,D⟩:=gT z;refine(aiJ x.b B w0).mono ?_;rintro e C ⟨⟨t,F,rfl,c⟩,rfl⟩;rcases c with⟨rfl,c⟩|⟨rfl,c,_⟩
 .have d:=(afQ c).1;have j:b=(bA key (bs t) ==x.n):=by
   rw[qj,f.out,mp];unfold gJ;rw[c];constructor
   .rintro⟨p,g,r⟩;cases g;exact r
   .intro h;exact⟨_,rfl,h⟩
  have v:=ab d;have a:=ab j;have m:=ab (λw=>nz (β:=β) key t u d w);generalize bA key (bs t)=nm at *;go_wp2;have k:w0.cell? ⟨w.heap.size,0,none⟩=some (.int .i64 x.n):=n 0;have A:=aj k;refine aG (by kernel_rfl) (by kernel_rfl) ?_;repeat(go_big_quiet_step (first|(go_at_call 56;refine dv (m.out _))))
  refine gt ?_;intro s i;have l:=aN i;go_wp2;go_ret;exact⟨aC a.out.symm,ae o l⟩
 .have j:b=false:=by
   rw[<-lP,f.out];rintro⟨p,g,_⟩;rw[c] at g;cases g
  have a:=ab j;go_wp2;have k:w0.cell? ⟨w.heap.size,0,none⟩=some (.int .i64 x.n):=n 0;have A:=aj k;refine aG (by kernel_rfl) (by kernel_rfl) ?_;repeat(go_big_quiet_step (fail))
  refine gt ?_;intro s i;have l:=aN i;go_wp2;go_ret;exact⟨aC a.out.symm,ae o l⟩
def lK(key:Int)(p:Pk):Prop:=(1<=p.no/\p.no<=99)/\(1<=key/\key<=99)/\(1<=p.its.length/\p.its.length<=4)/\(∀x∈p.its,gJ key x)/\p.its.Pairwise λa b=>a.n<b.n
def adI(key:Int)(l:List It):Prop:=(∀x∈l,gJ key x)/\l.Pairwise λa b=>a.n<b.n
def acQ{xs:List It}{x:It}:adI key (xs++[x])↔adI key xs/\gJ key x/\∀y∈xs,y.n<x.n:=by
 unfold adI;rw[rR];constructor
 .intro⟨d,e,_,f⟩;exact⟨⟨λy c=>d y (by simp[c]),e⟩,d x (by simp),λy c=>f y c x (by simp)⟩
 .intro⟨⟨d,e⟩,f,i⟩;refine⟨λy c=> ?_,e,rK _ _,λa g b j=> ?_⟩
  .rcases me.1 c with c|c
   .exact d y c
   .rw[lc.1 c];exact f
  .rw[lc.1 j];exact i a g
def aju{xs:List It}{x:It}(b:xs[0]?=some x)(h:gJ key x):adI key (xs.take 1):=by
 rw[mx b];exact acQ.2 ⟨⟨λy a=>(by cases a),List.Pairwise.nil⟩,h,λy a=>(by cases a)⟩
def anP{xs:List It}{x y:It}(c:adI key (xs.take (j+1)))(d:xs[j]?=some y)(e:xs[j+1]?=some x)(h:gJ key x)(b:y.n<x.n):adI key (xs.take (j+1+1)):=by
 rw[mx e];refine acQ.2 ⟨c,h,λz a=> ?_⟩;rw[mx d] at a c;rcases me.1 a with a|a
 .have:=(acQ.1 c).2.2 z a;omega
 .rw[lc.1 a];exact b
def ayq{xs:List It}{x:It}(b:xs[k]?=some x)(h:¬gJ key x):¬adI key xs:=λa=>h (a.1 x (da b))
def anQ{xs:List It}{x y:It}(a:xs[j]?=some y)(c:xs[j+1]?=some x)(h:¬y.n<x.n):¬adI key xs:=λd=>by
 have b:=pZ.1 d.2 j (j+1) (aB a) (aB c) (by omega);rw[(li.1 a).2,(li.1 c).2] at b;exact h b
def ajv(key:Int):adI key []:=⟨λx h=>(by cases h),List.Pairwise.nil⟩
def lM(p:Prop):∃b:Bool,b=true↔p:=by
 by_cases h:p
 .exact⟨true,by simp[h]⟩
 .exact⟨false,by simp[h]⟩
def afa(key:Int)(p:Pk)(v:Value)(w:World)(lo hi:Nat)(bu:hi<=w.heap.size)(h:iM w lo hi p.its [v])(b:Bool)(s:b=true↔lK key p) :
  Calls (ah β) 15 #[.int .i64 key,.agg #[.int .i64 p.no,v]] w λe w'=>e=.returned (.bool b)/\Below w.heap.size w w':=by
 replace s:=ab s;obtain⟨A,c,rfl⟩:=h.form;obtain⟨_,hc,hx⟩:=h.len_;unfold maxLen at hx;go_enter zM,ntmps15;go_wp2;generalize hG:w.alloc (.cells #[.int .i64 p.no,.slice A p.its.length c] 36)=w0 at *;obtain⟨r,iv,k0,dP,fu⟩:=gT hG;clear hG;have h0:=iM.av.below h r bu;by_cases I:1<=p.no/\p.no<=99
 .refine(aeB p.no 1 99 I.1 I.2 w0).mono ?_;rintro e F ⟨rfl,rfl⟩;go_wp2;by_cases z:1<=key/\key<=99
  .refine(agz key w0 true (by simp only[uB];exact z)).mono ?_;rintro e F ⟨rfl,rfl⟩;go_wp2;by_cases Z:1<=p.its.length/\p.its.length<=4
   .refine(aeB p.its.length 1 4 (by omega) (by omega) w0).mono ?_;rintro e F ⟨rfl,rfl⟩;have m:b=true↔adI key p.its:=by rw[s.out];exact⟨λh=>⟨h.2.2.2.1,h.2.2.2.2⟩,λh=>⟨I,z,Z,h.1,h.2⟩⟩
    replace m:=ab m;clear s;go_wp2;go_loopw [5] (λi wr=>∃k:Nat,k<=p.its.length/\i=.int .i64 k/\adI key (p.its.take k)/\Below w0.heap.size w0 wr) (λi _=>p.its.length-(intOf i).toNat)
    case atStart=>exact⟨0,fa _,rfl,ajv key,gn _ _⟩
    case round=>
     obtain⟨k,hk,rfl,R,d⟩:=hrel;replace R:=ab R;have h1:=iM.av.below h0 d (bd bu r.size);have k1:=ak k0 d;have W:=k1.cell;by_cases U:k<p.its.length
     .obtain⟨x,t⟩:=ar U;obtain⟨b1,V,rfl,_,_,X,C,H⟩:=ae6 h1 t;replace t:=ab t;obtain⟨q,f⟩:=lM (gJ key x);have S:=ab f;clear f;have u:=λw=>ajt (β:=β) key z x X.2 w q S.out;replace u:=ab u;have P:wr.cell? ⟨w.heap.size,0,none⟩=some (.int .i64 p.no):=W 0;have L:wr.cell? ⟨w.heap.size,1,none⟩=some (.slice (some ⟨b1,V,none⟩) p.its.length c):=W 1;clear k1 W dP fu;cases q with
      |false=>
       have g:b=false:=by
        rw[<-lP,m.out];exact ayq t.out λh=>by have:=S.out.2 h;cases this
       have a:=ab g;clear g;go_wp2;have N:=aj P;have K:=aj L;have M:=aj C;have O:=aj H;refine aG (by kernel_rfl) (by kernel_rfl) ?_;repeat(go_big_quiet_step (first|(go_at_call 34;refine cY (u.out _))))
       refine gt ?_;intro T o;have f:=aN o;clear o N K M O;go_wp2;go_ret;exact⟨aC a.out.symm,ae r (ae d f)⟩
      |true=>
       have n:=S.out.1 rfl;replace n:=ab n;rcases oS k with E|E
       .subst E;simp only[tT,sU] at C H;have Q:=aju t.out n.out;have HK:=ab Q;clear Q;go_wp2;have N:=aj P;have K:=aj L;have M:=aj C;have O:=aj H;refine aG (by kernel_rfl) (by kernel_rfl) ?_;repeat(go_big_quiet_step (first|(go_at_call 34;refine cY (u.out _))))
        refine gt ?_;intro T o;have f:=aN o;go_wp2;go_roundw
        case rel=>first|exact⟨1,by omega,by go_num,HK.out,ae d f⟩|((repeat apply Exists.intro);refine⟨?_,rfl⟩;exact⟨1,by omega,by go_num,HK.out,ae d f⟩)
        simp[intOf];omega
       .obtain⟨j,rfl⟩:∃j,k=j+1:=⟨k-1,by omega⟩;have e1:((j+1:Nat):Int)-1=(j:Int):=by omega
        obtain⟨y,D⟩:=ar (l:=p.its) (k:=j) (by omega);obtain⟨b2,mE,G,_,_,a1,J,a0⟩:=ae6 h1 D;simp only[jp,qk,qm] at G;obtain⟨rfl,rfl⟩:=G;replace D:=ab D;by_cases B:y.n<x.n
        .have u1:=bv (show ¬(x.n<=y.n) by omega);have Q:=anP R.out D.out t.out n.out B;have HK:=ab Q;go_wp2;have N:=aj P;have K:=aj L;have M:=aj C;have O:=aj H;have Y:=aj J;refine aG (by kernel_rfl) (by kernel_rfl) ?_;repeat(go_big_quiet_step (first|(go_at_call 34;refine cY (u.out _))))
         refine gt ?_;intro T o;have f:=aN o;go_wp2;go_roundw
         case rel=>first|exact⟨j+1+1,by omega,by go_num,HK.out,ae d f⟩|((repeat apply Exists.intro);refine⟨?_,rfl⟩;exact⟨j+1+1,by omega,by go_num,HK.out,ae d f⟩)
         simp[intOf];omega
        .have u1:=db (show x.n<=y.n by omega);have g:b=false:=by
          rw[<-lP,m.out];exact anQ D.out t.out B
         have a:=ab g;go_wp2;have N:=aj P;have K:=aj L;have M:=aj C;have O:=aj H;have Y:=aj J;refine aG (by kernel_rfl) (by kernel_rfl) ?_;repeat(go_big_quiet_step (first|(go_at_call 34;refine cY (u.out _))))
         refine gt ?_;intro T o;have f:=aN o;go_wp2;go_ret;exact⟨aC a.out.symm,ae r (ae d f)⟩
     .obtain rfl:k=p.its.length:=by omega
      have g:b=true:=by
       have:=R.out;rw[ge] at this;exact m.out.2 this
      have a:=ab g;go_wp2;go_ret;exact⟨aC a.out.symm,ae r d⟩
   .have g:b=false:=by rw[<-lP,s.out];exact λh=>Z h.2.2.1
    have a:=ab g;refine(ahv p.its.length 1 4 (by omega) w0).mono ?_;rintro e F ⟨rfl,rfl⟩;go_wp2;go_ret;exact⟨aC a.out.symm,r⟩
  .have g:b=false:=by rw[<-lP,s.out];exact λh=>z h.2.1
   have a:=ab g;refine(agz key w0 false (by simp only[kw,false_iff];exact z)).mono ?_;rintro e F ⟨rfl,rfl⟩;go_wp2;go_ret;exact⟨aC a.out.symm,r⟩
 .have g:b=false:=by rw[<-lP,s.out];exact λh=>I h.1
  have a:=ab g;refine(ahv p.no 1 99 I w0).mono ?_;rintro e F ⟨rfl,rfl⟩;go_wp2;go_ret;exact⟨aC a.out.symm,r⟩
end
section
variable {β:Bool}
open Go.RowKit
def Rd(w:World)(lo hi g:Nat)(l:List Int)(p:Nat):Prop:=
 ∃A c,bW w g 58 #[.slice A l.length c,.int .i64 p]/\l.length<=2000/\cG jw 1 w lo hi l [.slice A l.length c]/\hi<=g
def ayr(n v:Int):Prop:=(n<1->v=0)/\(1<=n->0<=v/\v<n)
def asa(w:World)(lo hi g:Nat)(l:List Int)(p:Nat)(n:Int)(e:Ending)(w':World):Prop:=
 ∃v:Int,e=.returned (.int .i64 v)/\ayr n v/\Rd w' lo hi g l (p+1)/\bM (λb=>b=g) w w'
def Rd.fc{l:List Int}(h:Rd w Z hi g l p)(f:bM S w w')(e:∀b,b<hi\/b=g->¬S b):Rd w' Z hi g l p:=by
 obtain⟨A,c,d,i,k,m⟩:=h;have a:=d.lt;exact⟨A,c,(f.block g a (e g (.inr rfl))).trans d,i,(cG.loc jw.loc).go (λb _ j=>f.block b (by omega) (e b (.inl j))) (am _) (am _) k,m⟩
def Rd.lt{l:List Int}(h:Rd w Z hi g l p):g<w.heap.size:=by
 obtain⟨A,c,a,_⟩:=h;exact a.lt
def Rd.drew{l:List Int}(h:Rd w Z hi g l p):Rd w.drew Z hi g l p:=h.fc ((bM.refl (λ_=>False) _).drew) (λ_ _ h=>h)
def Rd.alloc{l:List Int}(h:Rd w Z hi g l p)(o:Obj):Rd (w.alloc o) Z hi g l p:=h.fc ((bM.refl (λ_=>False) _).alloc o) (λ_ _ h=>h)
def au7{l:List Int}(h:Rd w Z hi g l p)(n:Int)(j:n=(p:Int)+1):Rd (w.setCell ⟨g,1,none⟩ (.int .i64 n)) Z hi g l (p+1):=by
 obtain⟨A,c,f,a,d,e⟩:=h;refine⟨A,c, ?_,a, ?_,e⟩
 .have:=f.cf 1 (.int .i64 n);rw[j] at this ⊢;exact this
 .refine(cG.loc jw.loc).go (λb _ i=> ?_) (am _) (am _) d;exact qb _ _ _ _ (by show b≠g;omega)
def agA(a:Nat)(b:a<9223372036854775808):(BitVec.ofInt 64 (a:Int)).toNat=a:=by
 rw[BitVec.ofInt_natCast,BitVec.toNat_ofNat];exact Nat.mod_eq_of_lt (by omega)
def alO(a b:Int)(d:0<=a)(f:a<9223372036854775808)(e:0<=b)(c:b<9223372036854775808):0<=bits .xor .i64 a b:=by
 obtain⟨a,rfl⟩:=qr d;obtain⟨b,rfl⟩:=qr e;have g:a ^^^ b<2 ^ 63:=Nat.xor_lt_two_pow (by omega) (by omega);show 0<=IntKind.i64.wrap ((BitVec.ofInt 64 (a:Int) ^^^ BitVec.ofInt 64 (b:Int)).toNat:Int);rw[BitVec.toNat_xor,agA a (by omega),agA b (by omega),uF];omega
def cT(w:World)(B hi g:Nat)(l:List Int)(p:Nat)(n:Int)(h:Rd w B hi g l p)(S:p<=1099511627776) :
  Calls (ah β) 23 #[.pointer (some ⟨g,0,none⟩),.int .i64 n] w (asa w B hi g l p n):=by
 have a:=λn z=>au7 h n z;obtain⟨A,c,o,T,s,N⟩:=h;have I:=o.cell 0;have G:=o.cell 1;have O:=o.frozen 1;simp at I G;by_cases z:n<1
 .go_enter wQ,ntmps23;go_wp2;go_ret;exact⟨0,rfl,⟨λ_=>rfl,λh=>absurd h (by omega)⟩,a _ rfl,(bM.refl (λb=>b=g) _).setCell (p:=⟨g,1,none⟩) (.inl rfl) _⟩
 by_cases d:l.length=0
 .have f:((l.length:Int) ==0)=true:=by rw[mp];omega
  replace d:=ab d;go_enter wQ,ntmps23;go_wp2;go_ret;exact⟨0,rfl,⟨λ_=>rfl,λh=>⟨by omega,by omega⟩⟩,a _ rfl,(bM.refl (λb=>b=g) _).setCell (p:=⟨g,1,none⟩) (.inl rfl) _⟩
 by_cases E:p<l.length
 .obtain⟨x,i⟩:=ar E;obtain⟨b,r,rfl,u,t,j,q⟩:=s.aey i;have V:=ab i;have m:b≠g:=by omega
  have f:((l.length:Int) ==0)=false:=by rw[dq];omega
  go_enter wQ,ntmps23;go_wp2;go_ret;exact⟨x % n,rfl,⟨λh=>absurd h (by omega),λh=>⟨vK _ (by omega),uX _ (by omega)⟩⟩,a _ rfl,(bM.refl (λb=>b=g) _).setCell (p:=⟨g,1,none⟩) (.inl rfl) _⟩
 .have f:((l.length:Int) ==0)=false:=by rw[dq];omega
  obtain⟨x,i⟩:=ar (l:=l) (k:=p % l.length) (ud _ (by omega));obtain⟨y,H⟩:=ar (l:=l) (k:=(p*7+3) % l.length) (ud _ (by omega));obtain⟨b,r,rfl,u,t,j,C⟩:=s.aey i;obtain⟨M,v,e,_,_,D,F⟩:=s.aey H;simp only[jp,qk,qm] at e;obtain⟨rfl,rfl⟩:=e;have m:b≠g:=by omega
  have U:p % l.length<l.length:=ud _ (by omega);have L:(p*7+3) % l.length<l.length:=ud _ (by omega);have P:0<=((p:Int)*7+3) % (l.length:Int):=vK _ (by omega);have W:((p:Int)*7+3) % (l.length:Int)<(l.length:Int):=uX _ (by omega);have R:(((p:Int)*7+3) % (l.length:Int)).toNat=(p*7+3) % l.length:=by
   have:((p:Int)*7+3) % (l.length:Int)=(((p*7+3) % l.length:Nat):Int):=rfl;rw[this];rfl
  have Q:0<=(p:Int) / (l.length:Int):=Int.ediv_nonneg (by omega) (by omega);have K:(p:Int) / (l.length:Int)<=p:=Int.ediv_le_self _ (by omega);go_enter wQ,ntmps23;go_wp2;have J:=alO (x*131+y*1117+(p:Int)*29+(p:Int) / (l.length:Int)*53) ((x*131+y*1117+(p:Int)*29+(p:Int) / (l.length:Int)*53) / 64) (by omega) (by omega) (by omega) (by omega)
  go_quiet (fail)
  go_wp2;go_ret;exact⟨_,rfl,⟨λh=>absurd h (by omega),λh=>⟨vK _ (by omega),uX _ (by omega)⟩⟩,
   (a _ rfl).fc ((bM.refl (λ_=>False) _).drewN nq) (λ_ _ h=>h),((bM.refl (λb=>b=g) _).setCell (p:=⟨g,1,none⟩) (.inl rfl) _).drewN nq⟩
def asb(w:World)(lo hi:Nat)(l:List Int)(e:Ending)(w':World):Prop:=
 ∃g,e=.returned (.pointer (some ⟨g,0,none⟩))/\Rd w' lo hi g (l.take 2000) 0/\w.heap.size<=g/\Below w.heap.size w w'
def cG.cut{xs:List Y}(h:cG E Z w X hi xs [.slice A n c])(q:m<=n):cG E Z w X hi (xs.take m) [.slice A m c]:=by
 obtain⟨A',p,a,r,k,g⟩:=h;simp only[qi,pv,qm] at a;obtain⟨rfl,rfl,rfl⟩:=a;have f:(xs.take m).length=m:=by rw[fb];omega
 refine⟨A,c,by rw[f],by omega,k,λo=> ?_⟩;obtain⟨b,d,rfl,l,j,e⟩:=g (by omega);refine⟨b,d,rfl,l,j,λi x hi=>e i x ?_⟩;have:=aB hi;rw[sV (by omega)] at hi;exact hi
def ase(l:List Int)(A:Option Addr)(n c:Nat)(w:World)(f hi:Nat)(h:cG jw 1 w f hi l [.slice A n c])(d:hi<=w.heap.size) :
  Calls (ah β) 11 #[.slice A n c] w (asb w f hi l):=by
 obtain⟨rfl,j,g⟩:=h.len_;unfold maxLen at g;by_cases i:2000<l.length
 .have b:=h.cut (m:=2000) (by omega);have a:(l.take 2000).length=2000:=by rw[fb];omega
  go_enter xF,ntmps11;go_wp2;go_ret;refine⟨_,rfl,⟨A,c, ?_,by omega, ?_,d⟩,am _,(gn _ _).alloc (am _) _⟩
  .rw[a];exact bW.new _ _ _
  .rw[a];exact Lcy.below (cG.loc jw.loc) b ((gn _ _).alloc (am _) _) d
 .have a:l.take 2000=l:=qe (by omega);have e:=ab a;go_enter xF,ntmps11;go_wp2;go_ret;refine⟨_,rfl,⟨A,c, ?_,by rw[e.out];omega, ?_,d⟩,am _,(gn _ _).alloc (am _) _⟩
  .rw[e.out];exact bW.new _ _ _
  .rw[e.out];exact Lcy.below (cG.loc jw.loc) h ((gn _ _).alloc (am _) _) d
end
section
variable {β:Bool}
open Go.RowKit
structure asf (w:World) (lo hi g:Nat) (l:List Int) (N:Nat) where
 to:World
 q:Nat
 rd:Rd to lo hi g l q
 ok:bM (λb=>b=g) w to
 lim:q<=N
section
variable {w:World} {lo hi g:Nat} {l:List Int} {N:Nat}
instance aw0:aW (asf w lo hi g l N):=⟨λm x=>x.q+m<=N,λ_ _ h=>rV h,λ_ _=>True⟩
variable {P:Program}
variable {ops:Array Oper} {Qt:Act->World->Prop} {i:Nat} {o:Oper} {L:List (Nat×Oper)} {F:List (Nat×(asf w lo hi g l N->Prop))} {Rs:List (iI (asf w lo hi g l N))} {a:Act}
end
end
section
variable {β:Bool}
open Go.RowKit
def Rd.hi_{l:List Int}(h:Rd w Z hi g l p):hi<=g:=by
 obtain⟨A,c,_,_,_,a⟩:=h;exact a
structure aI (w:World) (lo hi g:Nat) (l:List Int) (N s ia ic bk:Nat) (fx:Bool) (ty:TypeId) (n:Nat) (S:Nat->Prop) (pre:List Nat) where
 to:World
 q:Nat
 box:Option Nat
 done:Bool
 res:Option Value
 rd:Rd to lo hi g l q
 ok:bM (λb=>b=g\/box=some b\/(done=true/\S b)) w to
 lim:q<=N
 bw:∀b,box=some b->b=bk\/w.heap.size<=b
 bf:fx=true->box=some bk
 sf:∀b,S b->b≠g/\hi<=b/\b≠bk/\b<w.heap.size
 bx:∀b,box=some b->b≠g/\hi<=b/\∃cs:Array Value,cs.size=n/\bW to b ty cs
section
variable {w:World} {lo hi g:Nat} {l:List Int} {N s ia ic bk:Nat} {fx:Bool} {ty:TypeId} {n:Nat} {S:Nat->Prop} {pre:List Nat}
instance aw1:aW (aI w lo hi g l N s ia ic bk fx ty n S pre):=⟨λm x=>x.q+m<=N,λ_ _ h=>rV h,λi x=>(i=s\/i∈pre->x.done=false)/\(i=ia->x.box=none)/\(i=ic->x.res=none)⟩
structure aI.le (x y:aI w lo hi g l N s ia ic bk fx ty n S pre):Prop where
 fc:bM (λb=>b=g\/(x.done=false/\(x.box=some b\/S b))) x.to y.to
 done:x.done=true->y.done=true
 box:∀b,x.box=some b->y.box=some b
 fresh:∀b,x.box=none->y.box=some b->x.to.heap.size<=b
 res:∀v,x.res=some v->y.res=some v
def aI.le_refl(x:aI w lo hi g l N s ia ic bk fx ty n S pre):aI.le x x:=⟨bM.refl _ _,id,λ_ h=>h,λb c a=>(by rw[c] at a;cases a),λ_ h=>h⟩
def aI.free(x:aI w lo hi g l N s ia ic bk fx ty n S pre)(b:Nat):Prop:=b<x.to.heap.size/\b≠g/\x.box≠some b/\¬S b
def aI.le.free{x y:aI w lo hi g l N s ia ic bk fx ty n S pre}(h:aI.le x y)(a:x.free b):y.free b:=by
 refine⟨aE a.1 h.fc.size,a.2.1,λe=> ?_,a.2.2.2⟩;cases d:x.box with
 |none=>have:=h.fresh b d e;have:=a.1;omega
 |some c=>
  have:=h.box c d;rw[e] at this;cases this;exact a.2.2.1 d
def aI.le.not{x y:aI w lo hi g l N s ia ic bk fx ty n S pre}(_:aI.le x y)(a:x.free b):¬(b=g\/(x.done=false/\(x.box=some b\/S b))):=by
 rintro(rfl|⟨_,h|h⟩)
 .exact a.2.1 rfl
 .exact a.2.2.1 h
 .exact a.2.2.2 h
def aI.le.full{x y:aI w lo hi g l N s ia ic bk fx ty n S pre}(h:aI.le x y){t:TypeId}{cs:Array Value}(a:x.done=true)(e:x.box=some b)(c:bW x.to b t cs):y.done=true/\y.box=some b/\bW y.to b t cs:=by
 refine⟨h.done a,h.box b e,(h.fc.block b c.lt ?_).trans c⟩;rintro(rfl|⟨d,_⟩)
 .exact(x.bx _ e).1 rfl
 .rw[a] at d;cases d
def aa9{p:Addr}(h:w.cell? p=some v){x:aI w lo hi g l N s ia ic bk fx ty n S pre}(c:p.block≠g)(b:p.block≠bk)(d:¬S p.block):x.to.cell? p=some v:=by
 have a:=ug w p h;have b:x.box≠some p.block:=λe=>by
  rcases x.bw _ e with h|h
  .exact b h
  .omega
 unfold World.cell? at h ⊢;rw[x.ok.block p.block a (by
  rintro(h|h|⟨_,h⟩)
  .exact c h
  .exact b h
  .exact d h)]
 exact h
def alP    {t:Act} (k q:Nat) (f d:List Nat) (v:P.follows .mixedOrders=true) (I:aiS T k f d=true) (y:aeF T.toArray k t.tmps.size=true)
  (E:Rd w lo hi g l q) (J:q+k<=N) (a:Option Nat) (B:∀b,a=some b->b=bk) (r:fx=true->a=some bk) (p:∀b,S b->b≠g/\hi<=b/\b≠bk/\b<w.heap.size) (o:∀b,a=some b->b≠g/\hi<=b/\∃c:Array Value,c.size=n/\bW w b ty c) (u:a=none\/k<=ia)
  (h:wpQuiet P T.toArray (λz=>∃x:aI w lo hi g l N s ia ic bk fx ty n S pre,z=x.to) (λH=>∃G:List (iI (aI w lo hi g l N s ia ic bk fx ty n S pre)),cI P T.toArray (aI.to (w:=w)) (aI.le (w:=w)) (wpList P T.toArray Q (T.drop k)) (pick T d) [] G H) ((pick T f).map (·.2)) t):(Code.region Z T.toArray true).wp P Q t w:=
 aa0 (aI.to (w:=w)) (aI.le (w:=w)) aI.le_refl k f d v I y
  ⟨w.drew,q,a,false,none,E.drew,(bM.refl _ _).drew,by omega,λb j=>.inl (B b j),r,p,λb j=>by
   obtain⟨D,A,c,F,C⟩:=o b j;exact⟨D,A,c,F,C⟩⟩ (λm v=>by show q+m<=N;omega) (λi hi=>And.intro (λ_=>rfl) (And.intro (λe=>by
   rcases u with h|h
   .exact h
   .omega) λ_=>rfl)) rfl h
def aI.on(x:aI w lo hi g l N s ia ic bk fx ty n S pre){w2:World}(hb:Below x.to.heap.size x.to w2):aI w lo hi g l N s ia ic bk fx ty n S pre:=
 ⟨w2,x.q,x.box,x.done,x.res,x.rd.fc (bM.bF (S:=λ_=>False) hb) (λ_ _ h=>h),x.ok.trans (bM.bF (S:=λb=>b=g\/x.box=some b\/(x.done=true/\S b)) hb) λ_ _ e=>e,x.lim,x.bw,x.bf,x.sf,λb h=>by
  obtain⟨f,a,d,i,c⟩:=x.bx b h;exact⟨f,a,d,i,ak c hb⟩⟩
def aI.told(x:aI w lo hi g l N s ia ic bk fx ty n S pre){w2:World}(hb:Below x.to.heap.size x.to w2)(v:Value):aI w lo hi g l N s ia ic bk fx ty n S pre:={x.on hb with res:=some v}
def aI.au8(x:aI w lo hi g l N s ia ic bk fx ty n S pre)(a:Below x.to.heap.size x.to w2)(v:Value)(d:x.res=none):aI.le x (x.told a v):=⟨bM.bF a,id,λ_ h=>h,λb e c=>(by
 have:x.box=some b:=c;rw[e] at this;cases this),λu h=>by rw[d] at h;cases h⟩
def aI.took(x:aI w lo hi g l N s ia ic bk fx ty n S pre){w2:World}(hr:Rd w2 lo hi g l (x.q+1))(hc:bM (λb=>b=g) x.to w2)(hl:x.q+1<=N):aI w lo hi g l N s ia ic bk fx ty n S pre:=
 ⟨w2,x.q+1,x.box,x.done,x.res,hr,x.ok.trans (hc.mono λb _ h=>.inl h) λ_ _ e=>e,hl,x.bw,x.bf,x.sf,λb h=>by
  obtain⟨a,c,f,i,d⟩:=x.bx b h;exact⟨a,c,f,i,bq d hc a⟩⟩
def aI.au9(x:aI w lo hi g l N s ia ic bk fx ty n S pre)(e:Rd w2 lo hi g l (x.q+1))(a:bM (λb=>b=g) x.to w2)(c:x.q+1<=N):aI.le x (x.took e a c):=⟨a.mono λb _ h=>.inl h,id,λ_ h=>h,λb f d=>(by
 have:x.box=some b:=d;rw[f] at this;cases this),λ_ h=>h⟩
def aI.made(x:aI w lo hi g l N s ia ic bk fx ty n S pre)(hx:x.box=none)(cs:Array Value)(hn:cs.size=n)(hg:hi<=x.to.heap.size):aI w lo hi g l N s ia ic bk fx ty n S pre:=
 ⟨x.to.alloc (.cells cs ty),x.q,some x.to.heap.size,x.done,x.res,x.rd.alloc _,(x.ok.mono λb _ h=>by rw[hx] at h;exact h.elim .inl λh=>h.elim (λh=>by cases h) λh=>.inr (.inr h)).alloc _,x.lim,λb h=>(by cases h;exact .inr x.ok.size),λh=>(by rw[x.bf h] at hx;cases hx),x.sf,λb h=>by
  cases h;exact⟨Nat.ne_of_gt x.rd.lt,hg,cs,hn,bW.new _ _ _⟩⟩
def aI.ava(x:aI w lo hi g l N s ia ic bk fx ty n S pre)(a:x.box=none)(cs:Array Value)(e:cs.size=n)(c:hi<=x.to.heap.size):aI.le x (x.made a cs e c):=⟨(bM.refl _ _).alloc _,id,λb h=>(by rw[a] at h;cases h),λb _ d=>(by
 have:some x.to.heap.size=some b:=d;cases this;exact am _),λ_ h=>h⟩
def aI.fill(x:aI w lo hi g l N s ia ic bk fx ty n S pre){b:Nat}(hx:x.box=some b){w2:World}(hc:bM (λc=>c=b) x.to w2){cs:Array Value}(hn:cs.size=n)(hk:bW w2 b ty cs):aI w lo hi g l N s ia ic bk fx ty n S pre:=
 ⟨w2,x.q,x.box,true,x.res,x.rd.fc hc (λc h e=>by
  obtain⟨a,d,_⟩:=x.bx b hx;rcases h with h|h
  .omega
  .exact a (e▸h)),(x.ok.mono (T:=λb=>b=g\/x.box=some b\/(true=true/\S b)) λc _ h=>h.elim .inl λh=>h.elim (λh=>.inr (.inl h)) λh=>.inr (.inr ⟨rfl,h.2⟩)).trans (hc.mono λc _ h=>.inr (.inl (by rw[hx,h]))) λ_ _ e=>e,x.lim,x.bw,x.bf,x.sf,λc h=>by
  rw[hx] at h;cases h;exact⟨(x.bx _ hx).1,(x.bx _ hx).2.1,cs,hn,hk⟩⟩
def aI.avb(x:aI w lo hi g l N s ia ic bk fx ty n S pre)(a:x.box=some b)(e:bM (λc=>c=b) x.to w2){cs:Array Value}(j:cs.size=n)(i:bW w2 b ty cs)(f:x.done=false):aI.le x (x.fill a e j i):=
 ⟨e.mono λc _ h=>.inr ⟨f,.inl (by rw[a,h])⟩,λ_=>rfl,λ_ h=>h,λc d k=>(by rw[a] at d;cases d),λ_ h=>h⟩
variable {P:Program} {ops:Array Oper} {Qt:Act->World->Prop} {i:Nat} {o:Oper} {L:List (Nat×Oper)} {F:List (Nat×(aI w lo hi g l N s ia ic bk fx ty n S pre->Prop))} {Rs:List (iI (aI w lo hi g l N s ia ic bk fx ty n S pre))} {a:Act}
def anR (R:Value->Prop) (c:o.dst.isSome=true)
  (j:∀x:aI w lo hi g l N s ia ic bk fx ty n S pre,aam F o x->∀b:Exit->Act->World->Prop,(∀v,R v->b .normal (a.put o.dst v) x.to)->wpList P ops b [o] a x.to)
  (e:∀v,cI P ops (aI.to (w:=w)) (aI.le (w:=w)) Qt L ((i,λ_=>R v)::F) Rs (a.put o.dst v)):cI P ops (aI.to (w:=w)) (aI.le (w:=w)) Qt ((i,o)::L) F (.any (λv _=>R v)::Rs) a:=
 ku (to:=aI.to (w:=w)) (le:=aI.le (w:=w)) (λv _=>R v) (.inl c) (λ_ _ _ h _=>h) (λx p m d q b k=>j x p b λv f=>
  k v x (aI.le_refl x) (rV d) (λ_ _ _ h=>h) f) e
def avc (R:Value->Prop) (j:o.dst.isSome=true)
  (z:∀x:aI w lo hi g l N s ia ic bk fx ty n S pre,aam F o x->x.q<N->∀c:Exit->Act->World->Prop,(∀v d,Rd d lo hi g l (x.q+1)->bM (λb=>b=g) x.to d->R v->c .normal (a.put o.dst v) d)->wpList P ops c [o] a x.to)
  (p:∀v,cI P ops (aI.to (w:=w)) (aI.le (w:=w)) Qt L ((i,λ_=>R v)::F) Rs (a.put o.dst v)):cI P ops (aI.to (w:=w)) (aI.le (w:=w)) Qt ((i,o)::L) F (.any (λv _=>R v)::Rs) a:=
 ku (to:=aI.to (w:=w)) (le:=aI.le (w:=w)) (λv _=>R v) (.inl j) (λv x y h _=>h) (λx r m t A c q=>by
  have k:x.q+(m+1)<=N:=t;exact z x r (by omega) c λv d e f u=>
   q v (x.took e f (by omega)) (x.au9 e f (by omega)) (by show x.q+1+m<=N;omega) (λ_ _ _ h=>h) u) p
def avd (R:Value->aI w lo hi g l N s ia ic bk fx ty n S pre->Prop) (p:o.dst.isSome=true) (hi':i=ic) (t:∀v x y,R v x->aI.le x y->R v y)
  (D:∀x:aI w lo hi g l N s ia ic bk fx ty n S pre,aam F o x->∀d:Exit->Act->World->Prop,(∀v f (c:Below x.to.heap.size x.to f),R v (x.told c v)->d .normal (a.put o.dst v) f)->wpList P ops d [o] a x.to)
  (r:∀v,cI P ops (aI.to (w:=w)) (aI.le (w:=w)) Qt L ((i,λx=>R v x/\x.res=some v)::F) Rs (a.put o.dst v)):cI P ops (aI.to (w:=w)) (aI.le (w:=w)) Qt ((i,o)::L) F (.any (λv x=>R v x/\x.res=some v)::Rs) a:=
 ku (to:=aI.to (w:=w)) (le:=aI.le (w:=w)) (λv x=>R v x/\x.res=some v) (.inl p) (λv x y h k=>⟨t v x y h.1 k,k.res v h.2⟩) (λx z m A q d u=>D x z d λv f c B=>
  u v (x.told c v) (x.au8 c v (q.2.2 hi')) (rV A) (λj C _ b=>⟨b.1,b.2.1,λe=>absurd (e.trans hi'.symm) C⟩) ⟨B,rfl⟩) r
def ahY (R:Value->Value->Prop) (c:o.dst.isSome=true)
  (q:∀x:aI w lo hi g l N s ia ic bk fx ty n S pre,aam F o x->∀b:Exit->Act->World->Prop,(∀v u,x.res=some u->R v u->b .normal (a.put o.dst v) x.to)->wpList P ops b [o] a x.to)
  (d:∀v,cI P ops (aI.to (w:=w)) (aI.le (w:=w)) Qt L ((i,λx=>∃u,x.res=some u/\R v u)::F) Rs (a.put o.dst v)):cI P ops (aI.to (w:=w)) (aI.le (w:=w)) Qt ((i,o)::L) F (.any (λv x=>∃u,x.res=some u/\R v u)::Rs) a:=
 ku (to:=aI.to (w:=w)) (le:=aI.le (w:=w)) (λv x=>∃u,x.res=some u/\R v u) (.inl c) (λ_ _ _ ⟨u,h,hr⟩ hl=>⟨u,hl.res u h,hr⟩) (λx j m k r b f=>q x j b λv u e p=>
  f v x (aI.le_refl x) (rV k) (λ_ _ _ h=>h) ⟨u,e,p⟩) d
def asg (q:o.dst.isSome=true) (hi':i=ia) (t:ia≠s) (z:hi<=w.heap.size) (cs:Array Value) (p:cs.size=n)
  (D:∀x:aI w lo hi g l N s ia ic bk fx ty n S pre,∀k:Exit->Act->World->Prop,(k .normal (a.put o.dst (.pointer (some ⟨x.to.heap.size,0,none⟩))) (x.to.alloc (.cells cs ty)))->wpList P ops k [o] a x.to)
  (u:∀v,cI P ops (aI.to (w:=w)) (aI.le (w:=w)) Qt L ((i,λx=>∃b,v=.pointer (some ⟨b,0,none⟩)/\w.heap.size<=b/\x.box=some b)::F) Rs (a.put o.dst v)):cI P ops (aI.to (w:=w)) (aI.le (w:=w)) Qt ((i,o)::L) F (.any (λv x=>∃b,v=.pointer (some ⟨b,0,none⟩)/\w.heap.size<=b/\x.box=some b)::Rs) a:=
 ku (to:=aI.to (w:=w)) (le:=aI.le (w:=w)) (λv x=>∃b,v=.pointer (some ⟨b,0,none⟩)/\w.heap.size<=b/\x.box=some b) (.inl q) (λv x y ⟨b,e,hb,h⟩ hle=>⟨b,e,hb,hle.box b h⟩) (λx E m B r k A=>by
  have d:=r.2.1 hi';have f:hi<=x.to.heap.size:=bd z x.ok.size;refine D x k (A _ (x.made d cs p f) (x.ava d cs p f) (rV B) (λj C _ c=>⟨c.1,λe=>absurd (e.trans hi'.symm) C,c.2.2⟩) ⟨_,rfl,x.ok.size,rfl⟩)) u
def ash (R:aI w lo hi g l N s ia ic bk fx ty n S pre->Prop) (hi':i=s) (t:∀j∈pre,Behind ops i j) (K:∀x y,R x->aI.le x y->R y)
  (I:∀x:aI w lo hi g l N s ia ic bk fx ty n S pre,aam F o x->x.done=false->∀k:Exit->Act->World->Prop,(∀b (A:x.box=some b) q (r:bM (λc=>c=b) x.to q) (u:Array Value) (p:u.size=n) (f:bW q b ty u),R (x.fill A r p f)->k .normal (a.put o.dst undef) q)->wpList P ops k [o] a x.to)
  (E:o.dst=none)
  (G:cI P ops (aI.to (w:=w)) (aI.le (w:=w)) Qt L ((i,λx=>R x)::F) Rs (a.put o.dst undef)):cI P ops (aI.to (w:=w)) (aI.le (w:=w)) Qt ((i,o)::L) F (.any (λ_ x=>R x)::Rs) a:=
 ku (to:=aI.to (w:=w)) (le:=aI.le (w:=w)) (λ_ x=>R x) (.inr λ_ _ _ h=>h) (λ_ x y h B=>K x y h B) (λx A m M D k H=>I x A (D.1 (.inl hi')) k λb d q r u p f J=>by
  exact H undef (x.fill d r p f) (x.avb d r p f (D.1 (.inl hi'))) (rV M) (λj O C z=>⟨λe=>e.elim (λe=>absurd (e.trans hi'.symm) O) λe=>absurd (t j e) C,z.2⟩) J) (λv=>by
  have e:a.put o.dst v=a.put o.dst undef:=by rw[E];rfl
  rw[e];exact G)
def ays(h:∀x:aI w lo hi g l N s ia ic bk fx ty n S pre,gU F x->Qt a x.to):cI P ops (aI.to (w:=w)) (aI.le (w:=w)) Qt [] F [] a:=ahB h
end
end
section
variable {β:Bool}
open Go.RowKit
def gZ:Flat ByteArray:=⟨1,λs=>[.string s],λs=>s.size<=maxLen,λ_=>rfl,λs u a=>by rw[lc.1 a];rfl,by decide⟩
abbrev dr:fV (List ByteArray):=eE 9 (cx gZ) 1
def dr.av:dO dr [9]:=eE.av (cx.av gZ)
def ab5:gD (ah β) 74 9 1 16:=gD.mk' yy (z:=.string ⟨#[]⟩) (by kernel_rfl) rfl (by decide) (by decide)
def kT(h:dr w Z hi xs [.slice A n c]){x:ByteArray}(f:xs[k]?=some x) :
  ∃b a,A=some ⟨b,a,none⟩/\Z<=b/\b<hi/\x.size<=maxLen/\w.cell? ⟨b,a+k,none⟩=some (.string x):=by
 obtain⟨b,a,l,rfl,g,e,j,⟨rfl,d⟩,i⟩:=h.1.at_ f;exact⟨b,a,rfl,g,e,d,by simpa using i 0 _ rfl⟩
def Rd.blk{l:List Int}(h:Rd w Z hi g l p):∃b,bW w g 58 b:=by
 obtain⟨A,c,a,_⟩:=h;exact⟨_,a⟩
def ave{l:List Int}(h:dr w jR hi' xs cs)(c:Rd w Z hi g l p)(d:bM (λb=>b=g) w w'):dr w' jR hi' xs cs:=
 dr.av.fc h d λb _ _ ⟨t,ht,ds,hd⟩ e=>by
  obtain⟨f,a⟩:=c.blk;subst e;have:=dC hd a;rw[lc.1 ht] at this;exact absurd this (by decide)
def ahZ(h:xs.all (λs=>decide (s.size<=9))=true):∀s∈xs,s.size<=9:=λs a=>sL (jn.1 h s a)
def nK(h:xs.all (λs=>decide (s.size<=9))=true):∀s∈xs,gZ.good s:=λs a=>by
 have:=ahZ h s a;show s.size<=maxLen;unfold maxLen;omega
def ayt(xs:List ByteArray)(w:World)(lo hi g:Nat)(l:List Int)(p:Nat)(e:Ending)(w':World):Prop:=∃s∈xs,e=.returned (.string s)/\Rd w' lo hi g l (p+1)/\bM (λb=>b=g) w w'
def ah0(xs:List ByteArray)(B:0<xs.length/\xs.length<=100)(v:Value)(l:List Int)(g p n hi jR hi':Nat)(w:World)(j:Rd w n hi g l p)(z:p<=1000000)(h:dr w jR hi' xs [v]) :
  Calls (ah β) 32 #[.pointer (some ⟨g,0,none⟩),v] w (ayt xs w n hi g l p):=by
 obtain⟨A,c,rfl⟩:=h.form;go_enter zv,ntmps32;go_wp2;refine(cT _ _ _ _ _ _ _ j (by omega)).mono ?_;rintro e x ⟨m,rfl,⟨_,u⟩,i,a⟩;obtain⟨o,C⟩:=u (by omega);obtain⟨k,rfl⟩:=qr o;obtain⟨s,d⟩:=ar (l:=xs) (k:=k) (by omega);have q:=ave h j a;obtain⟨b,t,rfl,_,_,r,f⟩:=kT q d;replace d:=ab d;have y:k<xs.length:=by omega
 go_wp2;go_ret;exact⟨s,da d.out,rfl,i,a⟩
def apn(w:World)(lo hi g:Nat)(l:List Int)(p:Nat)(e:Ending)(w':World):Prop:=∃s q,e=.returned (.string s)/\s.size<=9/\Rd w' lo hi g l q/\q<=p+3/\bM (λb=>b=g) w w'
def apo(xs:List ByteArray)(s:ByteArray)(v:Value)(w:World)(t hi:Nat)(h:dr w t hi xs [v])(b:Bool)(d:b=true↔s∈xs) :
  Calls (ah β) 71 #[v,.string s] w λe p=>e=.returned (.bool b)/\w=p:=by
 replace d:=ab d;obtain⟨A,c,rfl⟩:=h.form;obtain⟨_,z,r⟩:=h.len_;unfold maxLen at r;go_enter yO,ntmps71;go_wp2
 go_loop [5] (λi=>∃k:Nat,k<=xs.length/\i=.int .i64 k/\s∉xs.take k) (λi=>xs.length-(intOf i).toNat)
 case atStart=>exact⟨0,fa _,rfl,by simp⟩
 case round=>
  obtain⟨k,y,rfl,f⟩:=hrel;replace f:=ab f;by_cases g:k<xs.length
  .obtain⟨x,a⟩:=ar g;obtain⟨u,q,rfl,_,_,_,l⟩:=kT h a;replace a:=ab a;by_cases o:x=s
   .subst o;have n:=da a.out;have j:=ab n;go_wp2;go_ret;exact⟨aC (by rw[eq_comm,d.out];exact j.out),rfl⟩
   .have B:=acE o;have m:s∉xs.take (k+1):=by
     rw[mx a.out];simp[f.out,sD o]
    replace m:=ab m;go_wp2
    go_round
    case rel=>exact⟨k+1,by omega,by go_num,m.out⟩
    simp[intOf];omega
  .obtain rfl:k=xs.length:=by omega
   have n:s∉xs:=by have:=f.out;rwa [ge] at this
   have j:=ab n;go_wp2;go_ret;exact⟨aC (by rw[eq_comm,<-lP,d.out];exact j.out),rfl⟩
end
section
variable {β:Bool}
open Go.RowKit
def atF(l:List Nat)(a:Nat):Nat->Nat->Nat
 |0,_=>min (a+8) l.length
 |f+1,n=>if l.length<=a+n then l.length else if pD l (a+n)=true then a+n else atF l a f (n+1)
def oM(l:List Nat)(a:Nat):Nat:=atF l a 5 3
def afb{l:List Nat}{a:Nat}(b:a<l.length):∀(f n:Nat),0<n->n+f<=8->a<atF l a f n/\atF l a f n<=l.length/\atF l a f n<=a+8
 |0,n,_,_=>by show a<min _ _/\min _ _<=_/\min _ _<=_;omega
 |f+1,n,h0,h8=>by
  unfold atF;split
  .omega
  .split
   .omega
   .exact afb b f (n+1) (by omega) (by omega)
def eC{l:List Nat}{a:Nat}(b:a<l.length):a<oM l a/\oM l a<=l.length/\oM l a<=a+8:=afb b 5 3 (by omega) (by omega)
def dt(l:List Nat):Nat->List Int->Nat->Prop
 |a,[],b=>a=b
 |a,x::xs,b=>a<l.length/\x=(oM l a:Int)/\dt l (oM l a) xs b
def dt.snoc{l:List Nat}:∀{a:Nat} {c:List Int} {b:Nat},dt l a c b->b<l.length->dt l a (c++[(oM l b:Int)]) (oM l b)
 |a,[],b,h,h1=>by
  have h:a=b:=h;subst h;exact⟨h1,rfl,rfl⟩
 |a,x::c,b,⟨h2,h3,h4⟩,h1=>⟨h2,h3,h4.snoc h1⟩
def dt.len{l:List Nat}:∀{a:Nat} {c:List Int} {b:Nat},dt l a c b->a+c.length<=b
 |a,[],b,h=>by
  have h:a=b:=h;simp;omega
 |a,x::c,b,⟨h1,_,h⟩=>by
  have:=h.len;have:=(eC h1).1;simp only[ff];omega
def dt.at_{l:List Nat}:∀{a:Nat} {d:List Int} {b k m:Nat} {x:Int},dt l a d b->dt l a (d.take k) m->d[k]?=some x->x=(oM l m:Int)/\m<l.length/\dt l a (d.take (k+1)) (oM l m)
 |a,[],b,k,m,x,_,_,c=>by simp at c
 |a,y::d,b,0,m,x,⟨h1,e,h3⟩,f,c=>by
  have f:a=m:=f;subst f;have c:y=x:=by simpa using c
  subst c;exact⟨e,h1,h1,e,rfl⟩
 |a,y::d,b,k+1,m,x,⟨h1,e,h3⟩,⟨h1',e',f⟩,c=>by
  obtain⟨j,g,i⟩:=dt.at_ h3 f (by simpa using c);exact⟨j,g,h1,e,i⟩
def dt.aoA{l:List Nat}(f:l.length<=maxLen):∀{a:Nat} {d:List Int} {b:Nat},dt l a d b->∀x∈d,cA x
 |a,[],b,_,x,c=>by cases c
 |a,y::d,b,⟨h1,e,h⟩,x,c=>by
  have:=(eC h1).2.1;unfold maxLen at f;rcases mc.1 c with rfl|c
  .rw[e];unfold cA;omega
  .exact h.aoA f x c
def agB(l:List Nat):Nat->Nat->List Int
 |0,_=>[]
 |f+1,a=>if a<l.length then(oM l a:Int)::agB l f (oM l a) else[]
def dt.uniq{l:List Nat}:∀{a:Nat} {b:List Int} {f:Nat},dt l a b l.length->l.length-a<=f->b=agB l f a
 |a,[],f,h,_=>by
  have h:a=l.length:=h;cases f with
  |zero=>rfl
  |succ f=>show[]=if _ then _ else _;rw[be (by omega)]
 |a,x::b,f,⟨h1,e,h⟩,hf=>by
  have:=(eC h1).1;cases f with
  |zero=>omega
  |succ f=>
   show x::b=if _ then _ else _
   rw[dl h1,e,<-h.uniq (f:=f) (by omega)]
def ade{l:List Nat}:∀{f a:Nat},a<=l.length->l.length-a<=f->dt l a (agB l f a) l.length
 |0,a,h1,h2=>by show a=l.length;omega
 |f+1,a,h1,h2=>by
  show dt l a (if a<l.length then(oM l a:Int)::agB l f (oM l a) else[]) l.length;by_cases b:a<l.length
  .rw[dl b];have:=eC b;exact⟨b,rfl,ade (by omega) (by omega)⟩
  .rw[be b];show a=l.length;omega
def bU(s:ByteArray):Nat->List Int->List ByteArray
 |_,[]=>[]
 |a,x::xs=>s.extract a x.toNat::bU s x.toNat xs
def aaE{s:ByteArray}{l:List Nat}:∀{a:Nat} {b:List Int} {m q:Nat},dt l a b m->bU s a (b++[(q:Int)])=bU s a b++[s.extract m q]
 |a,[],m,q,h=>by
  have h:a=m:=h;subst h;rfl
 |a,x::b,m,q,⟨_,e,h⟩=>by
  show s.extract a x.toNat::bU s x.toNat (b++[(q:Int)])=s.extract a x.toNat::(bU s x.toNat b++_);rw[e,sN,aaE h]
def nL(s:ByteArray):∀(a:Nat) (b:List Int),(bU s a b).length=b.length
 |_,[]=>rfl
 |a,x::b=>by show(bU s x.toNat b).length+1=_;rw[nL];rfl
def aaF(s:ByteArray):∀(c:List Int) (a:Nat),∀x∈bU s a c,x.size<=s.size
 |[],_,x,b=>by cases b
 |z::c,a,x,b=>by
  have b:x∈s.extract a z.toNat::bU s z.toNat c:=b;rcases mc.1 b with rfl|b
  .rw[<-aM,cF,qc,fb,aM];omega
  .exact aaF s c _ x b
def gu(s:ByteArray):List ByteArray:=bU s 0 (agB (bs s) s.size 0)
def anS{xs:List Int}(h:dt (bs s) 0 xs s.size):bU s 0 xs=gu s:=by
 rw[<-aM] at h;unfold gu;rw[h.uniq (f:=s.size) (by rw[aM];omega)]
def asi{q : Nat}(a:(bs s).all oJ=true)(e:m<q)(d:q<=m+8)(f:q<=s.size):aU (bs (s.extract m q)):=by
 have b:(((bs s).take q).drop m).length=q-m:=by rw[qc,fb,aM];omega
 rw[cF];refine⟨⟨by omega,by omega⟩, ?_⟩;rw[jn] at a ⊢;exact λx c=>a x (pu (uM c))
def afc(s:ByteArray){q : Nat}(a:q<=s.size):(s.extract m q).size=q-m:=by
 rw[<-aM,cF,qc,fb,aM];omega
def pE{s:ByteArray}(g:(bs s).all oJ=true):∀{a:Nat} {d:List Int} {b:Nat},dt (bs s) a d b->∀x∈bU s a d,aU (bs x)
 |a,[],b,_,x,c=>by cases c
 |a,y::d,b,⟨h1,e,h⟩,x,c=>by
  obtain⟨i,f,j⟩:=eC h1;rw[aM] at f;have c:x∈s.extract a y.toNat::bU s y.toNat d:=c;rw[e,sN] at c;rcases mc.1 c with rfl|c
  .exact asi g i j f
  .exact pE g h x c
def afd(s:ByteArray):dt (bs s) 0 (agB (bs s) s.size 0) s.size:=by
 have:=ade (l:=bs s) (f:=s.size) (a:=0) (fa _) (by rw[aM];omega)
 rwa [aM] at this
def kU(a:(bs s).all oJ=true):∀x∈gu s,aU (bs x):=pE a (afd s)
def ab6(s:ByteArray):(gu s).length<=s.size:=by
 have:=(afd s).len;unfold gu;rw[nL];omega
def ir(l:List ByteArray):List Nat:=l.flatMap bs
def ab7{s:ByteArray}:∀{a:Nat} {c:List Int} {b:Nat},dt (bs s) a c b->ir (bU s a c)=((bs s).take b).drop a
 |a,[],b,h=>by
  have h:a=b:=h;subst h;show[]=_;rw[rm (by rw[fb];omega)]
 |a,x::c,b,⟨h1,e,h⟩=>by
  obtain⟨g,i,j⟩:=eC h1;have d:=h.len;show bs (s.extract a x.toNat)++ir (bU s x.toNat c)=_;rw[e,sN,ab7 h,cF];have f:((bs s).take b).drop a=(((bs s).take b).take (oM (bs s) a)).drop a++((bs s).take b).drop (oM (bs s) a):=by
   conv=>lhs;rw[<-tz (oM (bs s) a) ((bs s).take b)]
   rw[List.drop_append_of_le_length (by rw[fb,fb];omega)]
  rw[f,vT,qY (show oM (bs s) a<=b by omega)]
def apq(s:ByteArray):ir (gu s)=bs s:=by
 unfold gu;rw[ab7 (afd s),qX,<-aM,ge]
def asj(s:ByteArray)(p:Nat)(B:p<s.size)(D:s.size<=1000000)(w:World) :
  Calls (ah β) 152 #[.string s,.int .i64 p] w λe v=>e=.returned (.int .i64 (oM (bs s) p:Nat))/\Below w.heap.size w v:=by
 have q:s.size<=maxLen:=by unfold maxLen;omega
 go_enter yc,ntmps152;go_wp2;go_loopw [5] (λr wr=>∃k f:Nat,k+f=8/\3<=k/\r=.int .i64 k/\oM (bs s) p=atF (bs s) p f k/\Below w.heap.size w wr) (λr _=>8-(intOf r).toNat)
 case atStart=>exact⟨3,5,rfl,by omega,rfl,rfl,gn _ _⟩
 case round=>
  obtain⟨k,f,y,C,rfl,b,d⟩:=hrel;replace b:=ab b;by_cases A:k<8
  .obtain⟨g,rfl⟩:∃g,f=g+1:=⟨f-1,by omega⟩;have a:atF (bs s) p (g+1) k=if s.size<=p+k then s.size else if pD (bs s) (p+k)=true then p+k else atF (bs s) p g (k+1):=by
    show(if(bs s).length<=p+k then(bs s).length else _)=_;rw[aM]
   have HS:=ab a;clear a;by_cases n:s.size<=p+k
   .have l:=db (show(s.size:Int)<=(p:Int)+(k:Int) by omega);go_wp2;go_ret;exact⟨by rw[b.out,HS.out,dl n];rfl,d⟩
   .have l:=bv (show ¬((s.size:Int)<=(p:Int)+(k:Int)) by omega);rw[be n] at HS;obtain⟨i,u⟩:∃m,m=p+k:=⟨_,rfl⟩;have x:(p:Int)+(k:Int)=((i:Nat):Int):=by omega
    have o:3<=i/\i<s.size:=by omega
    rw[x] at l;rw[<-u] at HS;clear u;go_wp2;refine(alN s i o q wr).mono ?_;rintro e z ⟨rfl,t⟩;cases j:pD (bs s) i with
    |true=>
     have c:=ab (b.out.trans (HS.out.trans (dl j)));clear j;go_wp2;go_ret;exact⟨by rw[c.out];rfl,ae d t⟩
    |false=>
     have c:=ab (b.out.trans (HS.out.trans (be (by rw[j];exact qp))));clear j;go_wp2;go_roundw
     case rel=>exact⟨k+1,g,by omega,by omega,by go_num,c.out,ae d t⟩
     simp[intOf];omega
  .obtain rfl:k=8:=by omega
   obtain rfl:f=0:=by omega
   have a:atF (bs s) p 0 8=min (p+8) s.size:=by
    show min (p+8) (bs s).length=_;rw[aM]
   have c:=ab (b.out.trans a);clear a b;by_cases n:p+8<=s.size
   .have l:=db (show(p:Int)+8<=(s.size:Int) by omega);rw[qY n] at c;go_wp2;go_ret;exact⟨by rw[c.out];simp,d⟩
   .have l:=bv (show ¬((p:Int)+8<=(s.size:Int)) by omega);rw[Nat.min_eq_right (by omega)] at c;go_wp2;go_ret;exact⟨by rw[c.out];simp,d⟩
def asm(s:ByteArray)(w:World)(e:Ending)(w':World):Prop:=∃v a,e=.returned v/\aH fM 3 w' w.heap.size v a/\dt (bs s) 0 a s.size/\Below w.heap.size w w'
def alQ(s:ByteArray)(L:s.size<=100000)(w:World) :
  Calls (ah β) 111 #[.string s] w (asm s w):=by
 go_enter ym,ntmps111;go_wp2;have o:=aA w (.cells #[] 3);have m:aH fM 3 (w.alloc (.cells #[] 3)) w.heap.size (.slice (some ⟨w.heap.size,0,none⟩) 0 0) []:=(eJ.new w 3 (am _)).own 1;generalize w.alloc (.cells #[] 3)=w0 at *;go_loopw [3,4] (λB u wr=>∃(k:Nat) (g:List Int),k<=s.size/\u=.int .i64 k/\aH fM 3 wr w.heap.size B g/\dt (bs s) 0 g k/\Below w.heap.size w wr) (λ_ u _=>s.size-(intOf u).toNat)
 case atStart=>exact⟨0,[],fa _,rfl,m,rfl,o⟩
 case round=>
  obtain⟨k,g,G,rfl,p,n,y⟩:=hrel;obtain⟨A,c,rfl⟩:=p.form;by_cases d:k<s.size
  .go_wp2;refine(asj s k d (by omega) wr).mono ?_;rintro e E ⟨rfl,x⟩;have b:=eC (l:=bs s) (a:=k) (by rw[aM];exact d);rw[aM] at b;have J:=n.len;have j:=p.below x;have f:=ae y x;have HC:=ab (n.snoc (by rw[aM];exact d));revert HC b;generalize oM (bs s) k=q;intro b HC;go_wp2_with(at_builtin;refine bN (F:=fM) (v:=.slice A g.length c) rfl (.tmp 13) (.tmp 15) 30 rfl kO (q:Int) rfl j rfl rfl (by omega) f.size ?_;intro K H r t z;obtain⟨D,I,rfl⟩:=r.form;simp only[ap,ff,ls,jt] at r);go_roundw
   case rel=>exact⟨q,g++[(q:Int)],b.2.1,rfl,by simpa using r,HC.out,f.trans (t.below f.size λi M C=>by have:=(j.at_ C).1;omega)⟩
   simp[intOf];omega
  .obtain rfl:k=s.size:=by omega
   go_wp2;go_ret;exact⟨_,g,rfl,p,n,y⟩
def alR(s:ByteArray)(w:World)(e:Ending)(w':World):Prop:=∃v,e=.returned v/\aH gZ 9 w' w.heap.size v (gu s)/\Below w.heap.size w w'
def agC(s:ByteArray)(B:s.size<=100000)(w:World) :
  Calls (ah β) 69 #[.string s] w (alR s w):=by
 go_enter yQ,ntmps69;go_wp2;have J:=aA w (.cells #[] 9);have C:aH gZ 9 (w.alloc (.cells #[] 9)) w.heap.size (.slice (some ⟨w.heap.size,0,none⟩) 0 0) []:=(eJ.new w 9 (am _)).own 1;generalize w.alloc (.cells #[] 9)=w0 at *;refine(alQ s B w0).mono ?_;rintro e w1 ⟨ve,f,rfl,W,a,G⟩;obtain⟨Ae,ce,rfl⟩:=W.form;have j:=C.below G;have l:=ae J G;have z1:=G.size;have a2:=a.len;have H:=W.deep (a.aoA (by rw[aM];unfold maxLen;omega)) w0.heap.size;have D:=H.sl (am _);replace a:=ab a;replace j:=ab j;have O:=ab D;replace l:=ab l;clear C J G H D W;go_wp2;go_loopw [3,4,6] (λoo aa Z wr=>∃(k m:Nat),k<=f.length/\m<=s.size/\Z=.int .i64 k/\aa=.int .i64 m/\dt (bs s) 0 (f.take k) m/\aH gZ 9 wr w.heap.size oo (bU s 0 (f.take k))/\Below w.heap.size w wr/\eE 3 (cx fM) 1 wr w0.heap.size w1.heap.size f [.slice Ae f.length ce]) (λ_ _ Z _=>f.length-(intOf Z).toNat)
 case atStart=>exact⟨0,0,fa _,fa _,rfl,rfl,rfl,j.out,l.out,O.out⟩
 case round=>
  clear j l O;obtain⟨k,m,hk,lD,rfl,rfl,U,g,L,P⟩:=hrel;by_cases V:k<f.length
  .obtain⟨y,z⟩:=ar V;obtain⟨rfl,K,M⟩:=a.out.at_ U z;obtain⟨h1,E,h2⟩:=eC K;rw[aM] at E;have N:bU s 0 (f.take (k+1))=bU s 0 (f.take k)++[s.extract m (oM (bs s) m)]:=by rw[mx z,aaE U]
   have u:(bU s 0 (f.take k)).length=k:=by rw[nL,fb,qY hk]
   have n:∀x∈bU s 0 (f.take k),x.size<=maxLen:=λx p=>by
    have:=aaF s _ _ x p;unfold maxLen;omega
   revert N;revert M;revert E;revert h2;revert h1;revert z;generalize oM (bs s) m=q;generalize bU s 0 (f.take k)=xs at g u n ⊢;intro z h1 h2 E M N;obtain⟨A,c,rfl⟩:=g.form;obtain⟨b',X,cs,e0,a5,a7,_,⟨rfl,a0⟩,I⟩:=P.1.at_ z;subst e0;obtain⟨a4,T⟩:=P.2 (by omega) _ _ _ _ rfl;have R:wr.cell? ⟨b',X+k,none⟩=some (.int .i64 (q:Int)):=by simpa using I 0 _ rfl
   have HN:=ab N;have H4:=ab M;have O:=ab P;have HG:=ab n;have a8:(s.extract m q).size<=maxLen:=by rw[afc s E];unfold maxLen;omega
   have a3:=ab u;have a1:xs.length<=100000:=by omega
   clear I N M P U z u K n;have o:∀B:(Value.slice A xs.length c).ownBlock=some b',False:=λB=>by
    obtain⟨ds,hd⟩:=(aH.deep g (λx p=>HG.out x p) 0).blk B;exact absurd (dC T hd) (by decide)
   replace o:=ab o;have g1:¬((m:Int)<0):=by omega
   have g2:(m:Int)<=(q:Int):=by omega
   have g3:(q:Int)<=(s.size:Int):=by omega
   go_wp2_with(at_builtin;refine bN (F:=gZ) (v:=.slice A xs.length c) rfl (.tmp 16) (.tmp 24) 74 rfl ab5 (s.extract m q) rfl g rfl rfl (by omega) L.size ?_;intro va wa Y r a6;obtain⟨Aa,ca,rfl⟩:=Y.form;simp only[ap,ff,ls,jt] at Y;have a9:=iL R r o.out);go_roundw
   case rel=>
    refine⟨k+1,q,by omega,E,by go_num,rfl,H4.out,by rw[HN.out];simpa using Y,L.trans (r.below L.size λi hi p=>by have:=(g.at_ p).1;omega), ?_⟩;exact(eE.av (cx.av fM)).go (λb G b2 ht=>r.block b (by obtain⟨t,_,d,hd⟩:=ht;exact hd.lt) λB=>by
      obtain⟨ds,hd⟩:=(aH.deep g (λx p=>HG.out x p) 0).blk B;obtain⟨t,S,d2,Q⟩:=ht;have e1:=dC hd Q;rw[lc.1 S] at e1;exact absurd e1 (by decide)) (am _) (am _) O.out
   case measure=>simp[intOf];omega
  .obtain rfl:k=f.length:=by omega
   rw[ge,anS a.out] at g;obtain⟨A,c,rfl⟩:=g.form;go_wp2;go_ret;exact⟨_,rfl,g,L⟩
end
section
variable {β:Bool}
open Go.RowKit
structure Nd where
 p:ByteArray
 b:ByteArray
def pF:Flat Nd:=⟨2,λx=>[.string x.p,.string x.b],λx=>x.p.size<=maxLen/\x.b.size<=maxLen,λ_=>rfl,λx u a=>by simp at a;rcases a with rfl|rfl<;>rfl,by decide⟩
abbrev fC:fV (List Nd):=eE 89 (cx pF) 2
def fC.av:dO fC [89]:=eE.av (cx.av pF)
def nM:gD (ah β) 59 89 2 32:=gD.mk' yz (z:=.agg #[.string ⟨#[]⟩,.string ⟨#[]⟩]) (by kernel_rfl) rfl (by decide) (by decide)
def afR(x:Nd):Prop:=gp x.p=true/\dE x.b=true
def oh:∀{a b c:List UInt8},Op.bytesLess a b=true->Op.bytesLess b c=true->Op.bytesLess a c=true
 |_,[],_,h,_=>by simp[Op.bytesLess] at h
 |_,_::_,[],_,h=>by simp[Op.bytesLess] at h
 |[],_::_,_::_,_,_=>by simp[Op.bytesLess]
 |x::a,y::b,z::c,e,d=>by
  simp only[Op.bytesLess,qT,qH,fd,mp,rv,<-sA] at e d ⊢;rcases e with e|⟨e,g⟩
  .rcases d with d|⟨d,f⟩
   .exact .inl (by omega)
   .exact .inl (by omega)
  .rcases d with d|⟨d,f⟩
   .exact .inl (by omega)
   .exact .inr ⟨by omega,oh g f⟩
def anT(t:List Nd)(i:Nat)(x:Nd):Prop:=afR x/\(∀y,0<i->t[i-1]?=some y->Op.bytesLess y.p.toList x.p.toList=true)/\∀k y,k<i->t[k]?=some y->je y.p x.p=false
def ajw(t:List Nd):Prop:=t.length<=6/\∀i x,t[i]?=some x->anT t i x
def ad0{t:List Nd}(h:∀i x,t[i]?=some x->∀y,0<i->t[i-1]?=some y->Op.bytesLess y.p.toList x.p.toList=true):∀(d k:Nat) {x y:Nd},t[k+d+1]?=some x->t[k]?=some y->Op.bytesLess y.p.toList x.p.toList=true
 |0,k,x,y,hx,hy=>h (k+1) x hx y (by omega) hy
 |d+1,k,x,y,hx,hy=>by
  obtain⟨z,a⟩:∃z,t[k+d+1]?=some z:=ar (by have:=aB hx;omega);exact oh (ad0 h d k a hy) (h (k+(d+1)+1) x hx z (by omega) a)
def jU(xs:List Nd):Prop:=(∀x∈xs,afR x)/\xs.length<=6/\xs.Pairwise λa b=>Op.bytesLess a.p.toList b.p.toList=true/\je a.p b.p=false
def jU.nil:jU []:=⟨λy a=>(by cases a),fa _,.nil⟩
def jU.one{x:Nd}(h:afR x):jU [x]:=⟨λy a=>by rw[lc.1 a];exact h,by simp,rK _ _⟩
def jU.sub{xs ys:List Nd}(h:jU xs)(a:ys.Sublist xs):jU ys:=⟨λy b=>h.1 y (a.mem b),bd a.length_le h.2.1,h.2.2.sublist a⟩
def ajx{t:List Nd}:ajw t↔jU t:=by
 unfold jU ajw;rw[pZ];constructor
 .rintro⟨g,h⟩;refine⟨λx a=> ?_,g,λi j b m d=>⟨?_, ?_⟩⟩
  .obtain⟨i,b⟩:=qF a;exact(h i x b).1
  .exact ad0 (λi x a=>(h i x a).2.1) (j-i-1) i (by rw[show i+(j-i-1)+1=j by omega];exact iS m) (iS b)
  .exact(h j t[j] (iS m)).2.2 i t[i] d (iS b)
 .rintro⟨p,n,l⟩;refine⟨n,λi x a=>⟨p x (da a),λy g c=> ?_,λk y o c=> ?_⟩⟩
  .obtain⟨e,rfl⟩:=li.1 a;obtain⟨f,rfl⟩:=li.1 c;exact(l (i-1) i f e (by omega)).1
  .obtain⟨e,rfl⟩:=li.1 a;obtain⟨f,rfl⟩:=li.1 c;exact(l k i f e o).2
def kV{xs:List Nd}(h:fC w Z hi xs [.slice A n c]){x:Nd}(i:xs[k]?=some x) :
  ∃b a,A=some ⟨b,a,none⟩/\Z<=b/\b<hi/\pF.good x/\w.cell? ⟨b,a+k*2,none⟩=some (.string x.p)/\w.cell? ⟨b,a+k*2+1,none⟩=some (.string x.b):=by
 obtain⟨b,a,l,e,j,f,_,⟨rfl,g⟩,d⟩:=h.1.at_ i;exact⟨b,a,e,j,f,g,by simpa using d 0 _ rfl,by simpa using d 1 _ rfl⟩
def apr(xs:List Nd)(v:Value)(w:World)(lo hi:Nat)(h:fC w lo hi xs [v])(bu:hi<=w.heap.size)(q:Bool)(g:q=true↔ajw xs) :
  Calls (ah β) 45 #[v] w λe w'=>e=.returned (.bool q)/\Below w.heap.size w w':=by
 have N:=ab g;clear g;obtain⟨A,c,rfl⟩:=h.form;obtain⟨_,hc,Z⟩:=h.1.len_;unfold maxLen at Z;go_enter zi,ntmps45;go_wp2;go_loopw [3] (λii wr=>∃k:Nat,k<=xs.length/\ii=.int .i64 k/\(∀i x,i<k->xs[i]?=some x->anT xs i x)/\Below w.heap.size w wr) (λii _=>xs.length-(intOf ii).toNat)
 case atStart=>exact⟨0,fa _,rfl,λi x hi=>absurd hi (sE i),gn _ _⟩
 case round=>
  obtain⟨k,hk,rfl,p,G⟩:=hrel;replace p:=ab p;by_cases r:k<xs.length
  .obtain⟨x,E⟩:=ar r;obtain⟨b0,a7,rfl,_,a6,B,D,R⟩:=kV (fC.av.below h G bu) E;replace E:=ab E;cases a:gp x.p
   .replace a:=ab a;have f:q=false:=by
     rw[<-lP,N.out];rintro⟨-,h⟩;have h:=h k x E.out;have h:=h.1.1;rw[a.out] at h;cases h
    have s:=ab f;clear f;go_wp2;have o:=aj D;have n:=aj R;refine aG (by kernel_rfl) (by kernel_rfl) ?_;repeat(go_big_quiet_step (first|(go_at_call 51;refine dv (v:=.bool false) ?_;rw[<-a.out];exact jd x.p B.1 _)))
    refine gt ?_;intro O d;have g:=aN d;clear d o n;go_wp2;go_ret;exact⟨aC s.out.symm,ae G g⟩
   .replace a:=ab a;cases b:dE x.b
    .replace b:=ab b;have f:q=false:=by
      rw[<-lP,N.out];rintro⟨-,h⟩;have h:=h k x E.out;have h:=h.1.2;rw[b.out] at h;cases h
     have s:=ab f;clear f;go_wp2;have o:=aj D;have n:=aj R;refine aG (by kernel_rfl) (by kernel_rfl) ?_;repeat(go_big_quiet_step (first|(go_at_call 51;refine dv (v:=.bool true) ?_;rw[<-a.out];exact jd x.p B.1 _)|(go_at_call 52;refine dv (v:=.bool false) ?_;rw[<-b.out];exact kS x.b B.2 _)))
     refine gt ?_;intro O d;have g:=aN d;clear d o n;go_wp2;go_ret;exact⟨aC s.out.symm,ae G g⟩
    .replace b:=ab b;by_cases a4:k=0
     case' pos=>
      have Y:=bv (show ¬(0<k) by omega);have U:afR x/\∀y,0<k->xs[k-1]?=some y->Op.bytesLess y.p.toList x.p.toList=true:=⟨⟨a.out,b.out⟩,λy h0=>by omega⟩;have lB:=ab U;clear U;clear a4;go_wp2;have o:=aj D;have n:=aj R;refine aG (by kernel_rfl) (by kernel_rfl) ?_;repeat(go_big_quiet_step (first|(go_at_call 51;refine dv (v:=.bool true) ?_;rw[<-a.out];exact jd x.p B.1 _)|(go_at_call 52;refine dv (v:=.bool true) ?_;rw[<-b.out];exact kS x.b B.2 _)))
      refine gt ?_;intro O d;have g:=aN d;clear d o n
     case' neg=>
      obtain⟨k',S⟩:∃m,m=k-1:=⟨_,rfl⟩;have e1:(k:Int)-1=((k':Nat):Int):=by omega
      have a2:k'<xs.length:=by omega
      have Y:=db (show 0<k by omega);obtain⟨z,t⟩:=ar a2;obtain⟨b1,W,F,_,_,a8,P,_⟩:=kV (fC.av.below h G bu) t;simp only[jp,qk,qm] at F;obtain⟨rfl,rfl⟩:=F;replace t:=ab t;have T:=ab S;have a1:0<k:=by omega
      clear S;cases L:Op.bytesLess z.p.toList x.p.toList
      .have M:=ab L;have f:q=false:=by
        rw[<-lP,N.out];rintro⟨-,h⟩;have h:=h k x E.out;have h:=h.2.1 z a1 (by rw[<-T.out];exact t.out);rw[M.out] at h;cases h
       have s:=ab f;clear f;go_wp2;have o:=aj D;have n:=aj R;have bm:=aj P;refine aG (by kernel_rfl) (by kernel_rfl) ?_;repeat(go_big_quiet_step (first|(go_at_call 51;refine dv (v:=.bool true) ?_;rw[<-a.out];exact jd x.p B.1 _)|(go_at_call 52;refine dv (v:=.bool true) ?_;rw[<-b.out];exact kS x.b B.2 _)))
       refine gt ?_;intro O d;have g:=aN d;clear d o n bm;go_wp2;go_ret;exact⟨aC s.out.symm,ae G g⟩
      have M:=ab L;have U:afR x/\∀y,0<k->xs[k-1]?=some y->Op.bytesLess y.p.toList x.p.toList=true:=⟨⟨a.out,b.out⟩,λy h0 hy=>by
       rw[<-T.out,t.out] at hy;cases hy;exact M.out⟩
      have lB:=ab U;clear U;go_wp2;have o:=aj D;have n:=aj R;have bm:=aj P;refine aG (by kernel_rfl) (by kernel_rfl) ?_;repeat(go_big_quiet_step (first|(go_at_call 51;refine dv (v:=.bool true) ?_;rw[<-a.out];exact jd x.p B.1 _)|(go_at_call 52;refine dv (v:=.bool true) ?_;rw[<-b.out];exact kS x.b B.2 _)))
      refine gt ?_;intro O d;have g:=aN d;clear d o n bm;clear P L e1
     all_goals
      have X:=ae G g;clear D R Y;go_wp2;go_loopw [4] (λjj wr=>∃j:Nat,j<=k/\jj=.int .i64 j/\(∀i y,i<j->xs[i]?=some y->je y.p x.p=false)/\Below w.heap.size w wr) (λjj _=>k-(intOf jj).toNat)
      case atStart=>exact⟨0,fa _,rfl,λi y hi=>absurd hi (sE i),X⟩
      case round=>
       clear X g;obtain⟨j,hj,rfl,C,u⟩:=hrel;replace C:=ab C;by_cases V:j<k
       .obtain⟨y,Q⟩:=ar (l:=xs) (k:=j) (by omega);obtain⟨b1,W,F,_,_,a5,P,_⟩:=kV (fC.av.below h u bu) Q;simp only[jp,qk,qm] at F;obtain⟨rfl,rfl⟩:=F;obtain⟨b1,W,F,_,_,_,D,_⟩:=kV (fC.av.below h u bu) E.out;simp only[jp,qk,qm] at F;obtain⟨rfl,rfl⟩:=F;have a3:0<y.p.size:=by
         have:=kR (p.out j y V Q).1.1;omega
        have a0:0<x.p.size:=by have:=kR lB.out.1.1;omega
        have HC:=ab (λw':World=>ahX (β:=β) y.p x.p ⟨a3,a5.1⟩ ⟨a0,B.1⟩ w');replace Q:=ab Q;cases H:je y.p x.p
        .replace H:=ab H;have I:∀i z,i<j+1->xs[i]?=some z->je z.p x.p=false:=λi z hi J=>by
          rcases pa i j with r|nu
          .exact C.out i z r J
          .obtain rfl:i=j:=by omega
           rw[Q.out] at J;cases J;exact H.out
         replace I:=ab I;go_wp2;have o:=aj P;have n:=aj D;refine aG (by kernel_rfl) (by kernel_rfl) ?_;repeat(go_big_quiet_step (first|(go_at_call 68;refine cY (v:=.bool false) ?_;rw[<-H.out];exact HC.out _)))
         refine gt ?_;intro O d;have g:=aN d;clear d o n;go_wp2;go_roundw
         case rel=>exact⟨j+1,by omega,by go_num,I.out,ae u g⟩
         simp[intOf];omega
        .replace H:=ab H;have f:q=false:=by
          rw[<-lP,N.out];rintro⟨-,h⟩;have h:=h k x E.out;have h:=h.2.2 j y V Q.out;rw[H.out] at h;cases h
         have s:=ab f;clear f;go_wp2;have o:=aj P;have n:=aj D;refine aG (by kernel_rfl) (by kernel_rfl) ?_;repeat(go_big_quiet_step (first|(go_at_call 68;refine cY (v:=.bool true) ?_;rw[<-H.out];exact HC.out _)))
         refine gt ?_;intro O d;have g:=aN d;clear d o n;go_wp2;go_ret;exact⟨aC s.out.symm,ae u g⟩
       .obtain rfl:j=k:=by omega
        have K:∀i z,i<j+1->xs[i]?=some z->anT xs i z:=λi z hi J=>by
         rcases pa i j with r|nu
         .exact p.out i z r J
         .obtain rfl:i=j:=by omega
          rw[E.out] at J;cases J;exact⟨lB.out.1,lB.out.2,C.out⟩
        replace K:=ab K;go_wp2;go_roundw
        case rel=>exact⟨j+1,by omega,by go_num,K.out,u⟩
        simp[intOf];omega
  .obtain rfl:k=xs.length:=by omega
   by_cases h6:xs.length<=6
   .have Y:=db (show(xs.length:Int)<=6 by omega);have f:q=true:=N.out.2 ⟨h6,λi x Z=>p.out i x (aB Z) Z⟩;have s:=ab f;clear f;go_wp2;go_ret;exact⟨aC s.out.symm,G⟩
   .have Y:=bv (show ¬((xs.length:Int)<=6) by omega);have f:q=false:=by
     rw[<-lP,N.out];rintro⟨h, -⟩;exact h6 h
    have s:=ab f;clear f;go_wp2;go_ret;exact⟨aC s.out.symm,G⟩
open Classical in
def aba(xs:List Nd)(v:Value)(w:World)(b hi:Nat)(h:fC w b hi xs [v])(c:hi<=w.heap.size) :
  Calls (ah β) 45 #[v] w λe a=>ahW (jU xs) e/\Below w.heap.size w a:=
 (apr xs v w b hi h c (decide (jU xs)) (by rw[tR,ajx])).mono λe a ⟨he,hb⟩=>⟨he▸ahW.of λh=>sL h,hb⟩
end
end Go.Proofs.YtpbbcfocomejmaaGreatDoor