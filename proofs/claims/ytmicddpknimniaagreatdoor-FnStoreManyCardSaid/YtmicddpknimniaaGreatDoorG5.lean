/- A part. -/
import Derived.Test.YtmicddpknimniaaGreatDoorG4
import Derived.Laws.BytesString
import Derived.Lib.Builder
import Derived.Lib.Strings
import Derived.Lib.Slices
import Derived.Lib.AppendStr
import Derived.Lib.FrozenHead
import Derived.Lib.UnsafeStr
import Derived.Lib.MakeNoZero
import Derived.Shelf.RegionOpenPlain
import Derived.Laws.Externs
import Derived.Laws.IdiomCopy
import Derived.Laws.BitsLemmas
import Derived.Conc.CrowdRun
import Derived.Conc.Beside
set_option maxRecDepth 100000
set_option maxHeartbeats 8000000
set_option linter.all false
open Go Go.Conc Go.ConcN Go.RowKit Go.Proofs.Tryz Go.Proofs.YtmicddpknimniaaGreatDoor
variable {s:dK} {V B b g hi i k lo m' κ:Nat} {l:Loc} {U:Next} {Z Y X:Value} {W w:World} {pos:String} {t:List Nd} {T:Goroutine} {cs:Array Value} {es:Array Event} {Own:Nat→Loc→Prop} {e:Operand→Value}
namespace Go.Proofs.YtmicddpknimniaaGreatDoor
def lP:=@Go.Conc.mem_ofEvents
def qe:=@Go.ConcN.upd_same
def qu:=@Go.Conc.Goes.stop
def qB:=@Option.bind_some
def qI:=@Go.ConcN.upd_ne
def qO:=@Array.getElem?_push_size
def qT:=@Go.Lib.cell_of_heap
def rb:=@Go.Conc.Deaf_other
def rc:=@Go.Sem.runT_fst
def ru:=@Go.Conc.getElem?_append_cases
def rI:=@Go.Lib.byteCells_length
def rJ:=@Go.Conc.Goes.cases
def so:=@Go.Conc.Goes.running
def sA:=@Go.Result.ok.injEq
def sG:=@Go.Conc.aside_setCell
def sO:=@Go.ConcN.get_map_set
def sQ:=@Go.Conc.woken_quitsD
def sY:=@Go.Conc.runT_crowd_go
def tj:=@Go.Conc.Goes.rely
def tq:=@Go.Conc.goes_go
def tA:=@Go.ConcN.deafBehind_idle
def tY:=@Go.ConcN.RW.refl
def uf:=@List.size_toArray
def uh:=@Bool.not_eq_true'
def ul:=@Go.ConcN.cell_of_block
def ur:=@Go.ConcN.get_map_set_same
def uM:=@Go.Lib.frozen_of_heap
def uO:=@Prod.mk.injEq
def vH:=@Array.mem_iff_getElem?
def vW:=@Array.map_congr_left
section
variable {β:Bool}
open Go.RowKit
def lD(l:List Int)(g p lo hi:Nat)(w:World)(u:Rd w lo hi g l p)(x:p<=100000) :
  Calls (ah β) 35 #[.pointer (some ⟨g,0,none⟩)] w (aoN w lo hi g l p):=by
 go_enter zc,ntmps35;go_wp2;refine(dA _ _ _ _ _ _ 40 u (by omega)).mono ?_;rintro e a ⟨m,rfl,⟨_,v⟩,q,o⟩;clear v;by_cases r:m=0
 .have s:(m ==0)=true:=mw.2 r;clear r;go_wp2;have rl:df (a.alloc (.cells #[.string ⟨#[]⟩,.string ⟨#[102]⟩,.string ⟨#[97,47]⟩,.string ⟨#[97,98]⟩,.string ⟨#[97,47,98,47,99]⟩,.string ⟨#[47,97]⟩] 9)) a.heap.size (a.alloc (.cells #[.string ⟨#[]⟩,.string ⟨#[102]⟩,.string ⟨#[97,47]⟩,.string ⟨#[97,98]⟩,.string ⟨#[97,47,98,47,99]⟩,.string ⟨#[47,97]⟩] 9)).heap.size [⟨#[]⟩,⟨#[102]⟩,⟨#[97,47]⟩,⟨#[97,98]⟩,⟨#[97,47,98,47,99]⟩,⟨#[47,97]⟩] [.slice (some ⟨a.heap.size,0,none⟩) 6 6]:=
   (aF.deep (F:=iF) (adW (F:=iF) (bR.new a 9 #[.string ⟨#[]⟩,.string ⟨#[102]⟩,.string ⟨#[97,47]⟩,.string ⟨#[97,98]⟩,.string ⟨#[97,47,98,47,99]⟩,.string ⟨#[47,97]⟩]) rfl (am _) rfl (by simp[maxLen])) (aaS (by decide)) a.heap.size).sl (am _)
  have n:=(q).alloc (.cells #[.string ⟨#[]⟩,.string ⟨#[102]⟩,.string ⟨#[97,47]⟩,.string ⟨#[97,98]⟩,.string ⟨#[97,47,98,47,99]⟩,.string ⟨#[47,97]⟩] 9);have k:=(o).alloc (.cells #[.string ⟨#[]⟩,.string ⟨#[102]⟩,.string ⟨#[97,47]⟩,.string ⟨#[97,98]⟩,.string ⟨#[97,47,98,47,99]⟩,.string ⟨#[47,97]⟩] 9);generalize (a).alloc (.cells #[.string ⟨#[]⟩,.string ⟨#[102]⟩,.string ⟨#[97,47]⟩,.string ⟨#[97,98]⟩,.string ⟨#[97,47,98,47,99]⟩,.string ⟨#[47,97]⟩] 9)=w3 at *;refine(ak1 _ (by simp) _ _ _ _ _ _ _ _ w3 n (by omega) rl).mono ?_;rintro e t ⟨j,b,rfl,d,c⟩;have f:(j).size<=9:=ahx (by decide) j b;replace k:=(k).trans c λi _ e=>e;clear b rl;go_wp2;go_ret;exact⟨j,_,rfl,f,d,by omega,k⟩
 .have s:(m ==0)=false:=fa.2 r;clear r;go_wp2;have rl:df (a.alloc (.cells #[.string ⟨#[97]⟩,.string ⟨#[98]⟩,.string ⟨#[99,47,97]⟩,.string ⟨#[99,47,98]⟩,.string ⟨#[100,47,97]⟩,.string ⟨#[101]⟩,.string ⟨#[97,47,98]⟩,.string ⟨#[100]⟩] 9)) a.heap.size (a.alloc (.cells #[.string ⟨#[97]⟩,.string ⟨#[98]⟩,.string ⟨#[99,47,97]⟩,.string ⟨#[99,47,98]⟩,.string ⟨#[100,47,97]⟩,.string ⟨#[101]⟩,.string ⟨#[97,47,98]⟩,.string ⟨#[100]⟩] 9)).heap.size [⟨#[97]⟩,⟨#[98]⟩,⟨#[99,47,97]⟩,⟨#[99,47,98]⟩,⟨#[100,47,97]⟩,⟨#[101]⟩,⟨#[97,47,98]⟩,⟨#[100]⟩] [.slice (some ⟨a.heap.size,0,none⟩) 8 8]:=
   (aF.deep (F:=iF) (adW (F:=iF) (bR.new a 9 #[.string ⟨#[97]⟩,.string ⟨#[98]⟩,.string ⟨#[99,47,97]⟩,.string ⟨#[99,47,98]⟩,.string ⟨#[100,47,97]⟩,.string ⟨#[101]⟩,.string ⟨#[97,47,98]⟩,.string ⟨#[100]⟩]) rfl (am _) rfl (by simp[maxLen])) (aaS (by decide)) a.heap.size).sl (am _)
  have n:=(q).alloc (.cells #[.string ⟨#[97]⟩,.string ⟨#[98]⟩,.string ⟨#[99,47,97]⟩,.string ⟨#[99,47,98]⟩,.string ⟨#[100,47,97]⟩,.string ⟨#[101]⟩,.string ⟨#[97,47,98]⟩,.string ⟨#[100]⟩] 9);have k:=(o).alloc (.cells #[.string ⟨#[97]⟩,.string ⟨#[98]⟩,.string ⟨#[99,47,97]⟩,.string ⟨#[99,47,98]⟩,.string ⟨#[100,47,97]⟩,.string ⟨#[101]⟩,.string ⟨#[97,47,98]⟩,.string ⟨#[100]⟩] 9);generalize (a).alloc (.cells #[.string ⟨#[97]⟩,.string ⟨#[98]⟩,.string ⟨#[99,47,97]⟩,.string ⟨#[99,47,98]⟩,.string ⟨#[100,47,97]⟩,.string ⟨#[101]⟩,.string ⟨#[97,47,98]⟩,.string ⟨#[100]⟩] 9)=w3 at *;refine(ak1 _ (by simp) _ _ _ _ _ _ _ _ w3 n (by omega) rl).mono ?_;rintro e t ⟨j,b,rfl,d,c⟩;have f:(j).size<=9:=ahx (by decide) j b;replace k:=(k).trans c λi _ e=>e;clear b rl;go_wp2;go_ret;exact⟨j,_,rfl,f,d,by omega,k⟩
def arv(w:World)(lo hi g:Nat)(l:List Int)(p:Nat)(e:Ending)(w':World):Prop:=∃s q,e=.returned (.string s)/\s.size<=1000/\Rd w' lo hi g l q/\q<=p+30/\bq (λb=>b=g) w w'
def abR(a b:ByteArray):(a++b).size=a.size+b.size:=by rw[<-aK,gW,ap,aK,aK]
def arw(w:World)(n:Int):∃t:ByteArray,t.size=1/\Sem.run (ah β) (convert 22 9 (.slice (some ⟨w.heap.size,0,none⟩) 1 1)) (w.alloc (.cells #[.int .u8 n] 5))=.ok (.string t) (w.alloc (.cells #[.int .u8 n] 5)):=by
 refine⟨([n].foldl (λr n=>r.push (UInt8.ofNat n.toNat)) ByteArray.empty),rfl, ?_⟩;rw[run_convert_bytes_string _ _ _ 5 _ _ _ wA qU5 qU9];refine run_bytesToString _ _ 1 1 [n] ?_;have c:=(bR.new w 5 #[.int .u8 n]).cell 0;refine run_loadCells_list (a:=⟨w.heap.size,0,none⟩) (cs:=[.int .u8 n]) (w:=w.alloc (.cells #[.int .u8 n] 5)) (P:=(ah β)) (λj v b=> ?_)
 match j,b with
 |0,b=>
  cases b;exact c
def adi(l:List Int)(g p lo hi:Nat)(w:World)(hr:Rd w lo hi g l p)(hp:p<=100000) :
  Calls (ah β) 36 #[.pointer (some ⟨g,0,none⟩)] w (arv w lo hi g l p):=by
 go_enter yZ,ntmps36;go_wp2;refine(dA _ _ _ _ _ _ 5 hr (by omega)).mono ?_;rintro e w2 ⟨m,rfl,⟨_,hm⟩,R,T⟩;have af:=hm (by omega);obtain⟨mm,rfl⟩:=qG (show 0<=m by omega);clear hm;go_wp2;go_loopw [3,4] (λtt H wr=>∃(j q:Nat) (x:ByteArray),j<=4/\H=.int .i64 j/\tt=.string x/\x.size+9*j<=36/\Rd wr lo hi g l q/\q+j<=p+5/\bq (λb=>b=g) w wr) (λ_ H _=>(intOf H).toNat)
 case atStart=>exact⟨mm,_,⟨#[]⟩,by omega,rfl,rfl,by show 0+_<=_;omega,R,by omega,T⟩
 case round=>
  clear R T;obtain⟨j,q,x,hj,rfl,rfl,hx,rd,U⟩:=hrel;obtain⟨an,U⟩:=U;by_cases h0:j=0
  .subst h0;go_wp2;refine(dA _ _ _ _ _ _ 4 rd (by omega)).mono ?_;rintro e w3 ⟨m2,rfl,⟨_,a6⟩,r,A⟩;clear a6;have E:=U.trans A λi _ e=>e;have a2:x.size<=60:=by omega
   have a9:x.size<=36:=by omega
   clear rd A hx;by_cases W:m2=0
   .have t1:(m2 ==0)=true:=mw.2 W;clear W;go_wp2;refine(dA _ _ _ _ _ _ 12 r (by omega)).mono ?_;rintro e w5 ⟨m5,rfl,⟨_,O⟩,L,S⟩;have a8:=O (by omega);obtain⟨n5,rfl⟩:=qG (show 0<=m5 by omega);have K:=E.trans S λi _ e=>e;clear O S E r;go_wp2;go_loopw [3,5] (λtt H wr=>∃(j V:Nat) (y:ByteArray),j<=11/\H=.int .i64 j/\tt=.string y/\y.size+j<=47/\Rd wr lo hi g l V/\V+j<=p+18/\bq (λb=>b=g) w wr) (λ_ H _=>(intOf H).toNat)
    case atStart=>exact⟨n5,_,x,by omega,rfl,rfl,by omega,L,by omega,K⟩
    case round=>
     clear L K;obtain⟨j,V,y,f,rfl,rfl,hy,G,ax,C⟩:=hrel;by_cases P:j=0
     .subst P;have Z:y.size<=60:=by omega
      clear hy;have a3:V<=p+20:=by omega
      by_cases a5:40<(y).size
      case' pos=>
       have t4:=db (show(40:Int)<((y).size:Int) by omega);have g2:(40:Int)<=((y).size:Int):=by omega
       obtain⟨z,n,o⟩:∃z,z=(y).extract 0 40/\z.size=40:=⟨_,rfl,by rw[aeK _ (by omega)]⟩;have Q:=ab n;go_wp2;rw[<-Q.out];clear n Q
      case' neg=>
       have t4:=bv (show ¬((40:Int)<((y).size:Int)) by omega);go_wp2;have o:=Z;obtain⟨z,n⟩:∃z,z=y:=⟨_,rfl⟩;rw[<-n] at o ⊢;clear n
      all_goals
       refine(dA _ _ _ _ _ _ 60 G (by omega)).mono ?_;rintro e X ⟨d,rfl,⟨_,D⟩,a,s⟩;have c:=(C).trans s λi _ e=>e;clear D s;by_cases k:d=0
       .have t5:(d ==0)=true:=mw.2 k;clear k;go_wp2;go_ret;exact⟨_,_,rfl,by rw[abR];have:(⟨#[65]⟩:ByteArray).size=1:=rfl;omega,a,by omega,c⟩
       .have t5:(d ==0)=false:=fa.2 k;by_cases u:d=1
        .have t6:(d ==1)=true:=mw.2 u;clear k u;go_wp2;refine(aeB ⟨#[97,98,99,100,101]⟩ 9 (by decide) (by decide) (by decide) X).mono ?_;rintro e w5 ⟨⟨t,rfl,ht⟩,rfl⟩;go_wp2;go_ret;exact⟨t,_,rfl,by omega,a,by omega,c⟩
        .have t6:(d ==1)=false:=fa.2 u;clear k u;go_wp2;go_ret;exact⟨_,_,rfl,by omega,a,by omega,c⟩
     .have t7:=db (show(0:Int)<(j:Int) by omega);obtain⟨B,I⟩:∃y,y=j-1:=⟨_,rfl⟩;have e7:(j:Int)-1=((B:Nat):Int):=by omega
      have gK:0<(j:Int):=by omega
      have f:j=B+1:=by omega
      clear I P;have v:=ab f;clear f;go_wp2;refine(dA _ _ _ _ _ _ 26 G (by omega)).mono ?_;rintro e w7 ⟨m7,rfl,⟨_,M⟩,Y,N⟩;have ao:=M (by omega);have a7:=C.trans N λi _ e=>e;clear M N C G;have a4:=Y.alloc (.cells #[.int .u8 (97+m7)] 5);have a1:=a7.alloc (.cells #[.int .u8 (97+m7)] 5);obtain⟨t,ht,ad⟩:=arw (β:=β) w7 (97+m7);go_wp2;go_roundw
      case rel=>exact⟨B,_,y++t,by have:=v.out;omega,rfl,rfl,by rw[abR,ht];have:=v.out;omega,a4,by have:=v.out;omega,a1⟩
      simp[intOf];have:=v.out;omega
   .have t1:(m2 ==0)=false:=fa.2 W;clear W;have a3:q+1<=p+20:=by omega
    by_cases a5:40<(x).size
    case' pos=>
     have t4:=db (show(40:Int)<((x).size:Int) by omega);have g2:(40:Int)<=((x).size:Int):=by omega
     obtain⟨z,n,o⟩:∃z,z=(x).extract 0 40/\z.size=40:=⟨_,rfl,by rw[aeK _ (by omega)]⟩;have Q:=ab n;go_wp2;rw[<-Q.out];clear n Q
    case' neg=>
     have t4:=bv (show ¬((40:Int)<((x).size:Int)) by omega);go_wp2;have o:=a2;obtain⟨z,n⟩:∃z,z=x:=⟨_,rfl⟩;rw[<-n] at o ⊢;clear n
    all_goals
     refine(dA _ _ _ _ _ _ 60 r (by omega)).mono ?_;rintro e X ⟨d,rfl,⟨_,D⟩,a,s⟩;have c:=(E).trans s λi _ e=>e;clear D s;by_cases k:d=0
     .have t5:(d ==0)=true:=mw.2 k;clear k;go_wp2;go_ret;exact⟨_,_,rfl,by rw[abR];have:(⟨#[65]⟩:ByteArray).size=1:=rfl;omega,a,by omega,c⟩
     .have t5:(d ==0)=false:=fa.2 k;by_cases u:d=1
      .have t6:(d ==1)=true:=mw.2 u;clear k u;go_wp2;refine(aeB ⟨#[97,98,99,100,101]⟩ 9 (by decide) (by decide) (by decide) X).mono ?_;rintro e w5 ⟨⟨t,rfl,ht⟩,rfl⟩;go_wp2;go_ret;exact⟨t,_,rfl,by omega,a,by omega,c⟩
      .have t6:(d ==1)=false:=fa.2 u;clear k u;go_wp2;go_ret;exact⟨_,_,rfl,by omega,a,by omega,c⟩
  .have t1:=db (show(0:Int)<(j:Int) by omega);have al:x.size<=36:=by omega
   obtain⟨B,I⟩:∃y,y=j-1:=⟨_,rfl⟩;have u:(j:Int)-1=((B:Nat):Int):=by omega
   have gK:0<(j:Int):=by omega
   have f:j=B+1:=by omega
   clear I h0;have v:=ab f;clear f;go_wp2;have rl:df (wr.alloc (.cells #[.string ⟨#[97,98,99]⟩,.string ⟨#[104,101,108,108,111]⟩,.string ⟨#[119,111,114,108,100]⟩,.string ⟨#[97,97,97,97]⟩,.string ⟨#[107,101,101,112]⟩,.string ⟨#[122,122]⟩,.string ⟨#[98,97,99,107,117,112]⟩,.string ⟨#[113]⟩] 9)) wr.heap.size (wr.alloc (.cells #[.string ⟨#[97,98,99]⟩,.string ⟨#[104,101,108,108,111]⟩,.string ⟨#[119,111,114,108,100]⟩,.string ⟨#[97,97,97,97]⟩,.string ⟨#[107,101,101,112]⟩,.string ⟨#[122,122]⟩,.string ⟨#[98,97,99,107,117,112]⟩,.string ⟨#[113]⟩] 9)).heap.size [⟨#[97,98,99]⟩,⟨#[104,101,108,108,111]⟩,⟨#[119,111,114,108,100]⟩,⟨#[97,97,97,97]⟩,⟨#[107,101,101,112]⟩,⟨#[122,122]⟩,⟨#[98,97,99,107,117,112]⟩,⟨#[113]⟩] [.slice (some ⟨wr.heap.size,0,none⟩) 8 8]:=
    (aF.deep (F:=iF) (adW (F:=iF) (bR.new wr 9 #[.string ⟨#[97,98,99]⟩,.string ⟨#[104,101,108,108,111]⟩,.string ⟨#[119,111,114,108,100]⟩,.string ⟨#[97,97,97,97]⟩,.string ⟨#[107,101,101,112]⟩,.string ⟨#[122,122]⟩,.string ⟨#[98,97,99,107,117,112]⟩,.string ⟨#[113]⟩]) rfl (am _) rfl (by simp[maxLen])) (aaS (by decide)) wr.heap.size).sl (am _)
   have r:=(rd).alloc (.cells #[.string ⟨#[97,98,99]⟩,.string ⟨#[104,101,108,108,111]⟩,.string ⟨#[119,111,114,108,100]⟩,.string ⟨#[97,97,97,97]⟩,.string ⟨#[107,101,101,112]⟩,.string ⟨#[122,122]⟩,.string ⟨#[98,97,99,107,117,112]⟩,.string ⟨#[113]⟩] 9);have kK:=(U).alloc (.cells #[.string ⟨#[97,98,99]⟩,.string ⟨#[104,101,108,108,111]⟩,.string ⟨#[119,111,114,108,100]⟩,.string ⟨#[97,97,97,97]⟩,.string ⟨#[107,101,101,112]⟩,.string ⟨#[122,122]⟩,.string ⟨#[98,97,99,107,117,112]⟩,.string ⟨#[113]⟩] 9);generalize (wr).alloc (.cells #[.string ⟨#[97,98,99]⟩,.string ⟨#[104,101,108,108,111]⟩,.string ⟨#[119,111,114,108,100]⟩,.string ⟨#[97,97,97,97]⟩,.string ⟨#[107,101,101,112]⟩,.string ⟨#[122,122]⟩,.string ⟨#[98,97,99,107,117,112]⟩,.string ⟨#[113]⟩] 9)=w3 at *;refine(ak1 _ (by simp) _ _ _ _ _ _ _ _ w3 r (by omega) rl).mono ?_;rintro e v3 ⟨s3,J,rfl,a0,A⟩;have aa:(s3).size<=9:=ahx (by decide) s3 J;replace kK:=(kK).trans A λi _ e=>e;clear J rl;go_wp2;go_roundw
   case rel=>exact⟨B,_,x++s3,by have:=v.out;omega,rfl,rfl,by rw[abR];have:=v.out;omega,a0,by have:=v.out;omega,kK⟩
   simp[intOf];have:=v.out;omega
end
section
variable {β:Bool}
open Go.RowKit
def ao4(w:World)(lo hi g:Nat)(l:List Int)(p:Nat)(e:Ending)(w':World):Prop:=∃v a q,e=.returned v/\aF oQ 97 w' w.heap.size v a/\(∀y∈a,oQ.good y)/\a.length<=7/\Rd w' lo hi g l q/\q<=p+300/\bq (λb=>b=g) w w'
def ai7(l:List Int)(g p lo hi:Nat)(w:World)(hr:Rd w lo hi g l p)(hp:p<=50000) :
  Calls (ah β) 45 #[.pointer (some ⟨g,0,none⟩)] w (ao4 w lo hi g l p):=by
 have ax:=hr.lt;go_enter yT,ntmps45;go_wp2;have U:=hr.alloc (.cells #[] 97);have E:=(bq.refl (λb=>b=g) w).alloc (.cells #[] 97);have I:aF oQ 97 (w.alloc (.cells #[] 97)) w.heap.size (.slice (some ⟨w.heap.size,0,none⟩) 0 0) []:=(et.new w 97 (am _)).own 2;generalize w.alloc (.cells #[] 97)=w0 at *;refine(dA _ _ _ _ _ _ 6 U (by omega)).mono ?_;rintro e w1 ⟨m,rfl,⟨_,hm⟩,a2,H⟩;have ay:=hm (by omega);obtain⟨mm,rfl⟩:=qG (show 0<=m by omega);have X:=I.dQ H λb x e=>by have:=(I.at_ x).1;omega
 replace E:=E.trans H λi _ e=>e;clear hm U H I;go_wp2;go_loopw [3,4] (λtt jj wr=>∃(j q:Nat) (o:List Nd),j<=5/\jj=.int .i64 j/\aF oQ 97 wr w.heap.size tt o/\jM o/\Rd wr lo hi g l q/\q+40*j<=p+201/\bq (λb=>b=g) w wr) (λ_ jj _=>(intOf jj).toNat)
 case atStart=>exact⟨mm,_,[],by omega,rfl,X,jM.nil,a2,by omega,E⟩
 case round=>
  clear X a2 E;obtain⟨j,q,o,hj,rfl,K,L,rd,hq,R⟩:=hrel;obtain⟨A,c,rfl⟩:=K.form;replace L:=ab L;have ao:=R.size;by_cases h0:j=0
  .subst h0;have B:=ab (pL L.out);have af:o.length<=6:=L.out.2.1;go_wp2;refine(dA _ _ _ _ _ _ 40 rd (by omega)).mono ?_;rintro e N ⟨P,rfl,⟨_,a8⟩,a,n⟩;have r:=K.dQ n λb x e=>by have:=(K.at_ x).1;omega
   have d:=R.trans n λi _ e=>e;clear a8 rd K n R;by_cases Q:P=0
   .have t5:(P ==0)=true:=mw.2 Q;clear Q;go_wp2;refine(lD l g (q+1) lo hi N a (by omega)).mono ?_;rintro e w3 ⟨s,q3,rfl,a7,C,a6,z⟩;have k:=r.dQ z λb x e=>by have:=(r.at_ x).1;omega
    have O:=d.trans z λi _ e=>e;have J:=O.size;clear a r d;go_wp2_with(at_builtin;refine bU (F:=oQ) (v:=.slice A o.length c) rfl (.tmp 29) (.tmp 33) 66 rfl ni ⟨s,⟨#[97]⟩⟩ rfl k rfl rfl (by omega) J ?_;intro va wa oa a0 al;obtain⟨Aa,ca,rfl⟩:=oa.form;simp only[ap,eg,lw,mc] at oa);go_ret;refine⟨_,o++[⟨s,⟨#[97]⟩⟩],q3,rfl,by simpa using oa,λy M=> ?_,by simp;omega,C.dQ a0 λb x e=> ?_,by omega,O.trans a0 λb x e=> ?_⟩
    .rcases ge.1 M with M|M
     .exact B.out y M
     .rw[jn.1 M];exact⟨by show s.size<=maxLen;unfold maxLen;omega,by show(⟨#[97]⟩:ByteArray).size<=maxLen;decide⟩
    .have:=(k.at_ e).1;have:=C.hi_;omega
    .have:=(k.at_ e).1;omega
   .have t5:(P ==0)=false:=fa.2 Q;by_cases Z:P=1
    .have t6:(P ==1)=true:=mw.2 Z;clear Q Z;by_cases a1:o.length=0
     .have t7:=bv (show ¬(0<o.length) by omega);clear a1;go_wp2;go_ret;exact⟨_,o,q+1,rfl,r,B.out,by omega,a,by omega,d⟩
     .have t7:=db (show 0<o.length by omega);have gK:0<o.length:=by omega
      obtain⟨y0,Y⟩:=aq gK;obtain⟨W,c',e⟩:=aF.some_ r gK;simp only[pX] at e;obtain⟨rfl, -,rfl⟩:=e;have an:=(r.at_ rfl).1;have H:N.cell? ⟨W,1,none⟩=some (.string y0.b):=by
       have:=aF.cell r (j:=1) Y rfl;simpa using this
      have aJ:=aF.frozen r rfl 1;have D:=aF.put r (j:=1) (u:=.string ⟨#[65]⟩) (y:=⟨y0.p,⟨#[65]⟩⟩) Y (by decide) rfl;rw[uA,mc] at D;have HP:=ab D;have G:bq (λb=>b=W) N (N.setCell ⟨W,1,none⟩ (.string ⟨#[65]⟩)):=(bq.refl (λb=>b=W) N).setCell (p:=⟨W,1,none⟩) (.inl rfl) _;replace G:=ab G;replace Y:=ab Y;clear D a1;go_wp2;go_ret;refine⟨_,o.set 0 ⟨y0.p,⟨#[65]⟩⟩,q+1,rfl,HP.out,λy M=> ?_,by rw[qM];omega,a.dQ G.out λb x e=> ?_,by omega,d.trans G.out λb x e=> ?_⟩
      .rcases sL M with h1|rfl
       .exact B.out y h1
       .exact⟨(B.out y0 (da Y.out)).1,by show(⟨#[65]⟩:ByteArray).size<=maxLen;decide⟩
      .have:=a.hi_;omega
      .omega
    .have t6:(P ==1)=false:=fa.2 Z;clear Q Z;go_wp2;go_ret;exact⟨_,o,q+1,rfl,r,B.out,by omega,a,by omega,d⟩
  .have gK:0<(j:Int):=by omega
   obtain⟨j',aa⟩:∃y,y=j-1:=⟨_,rfl⟩;have Z:(j:Int)-1=((j':Nat):Int):=by omega
   have f:j=j'+1:=by omega
   replace f:=ab f;clear aa h0;go_wp2;refine(lD l g q lo hi wr rd (by omega)).mono ?_;rintro e N ⟨s,q2,rfl,a7,a,aM,n⟩;have r:=K.dQ n λb x e=>by have:=(K.at_ x).1;omega
   have d:=R.trans n λi _ e=>e;clear rd K n R;go_wp2;refine(adi l g q2 lo hi N a (by omega)).mono ?_;rintro e w3 ⟨t,q3,rfl,ht,C,a6,z⟩;have k:=r.dQ z λb x e=>by have:=(r.at_ x).1;omega
   have O:=d.trans z λi _ e=>e;have r3:=(k.deep (pL L.out) w.heap.size).sl (am _);clear a r z d;go_wp2;refine(adb o s t (by unfold maxLen;omega) (by unfold maxLen;omega) _ w3 w.heap.size w3.heap.size r3 (am _) (by have:=L.out.2.1;omega)).mono ?_;rintro e w4 ⟨v4,zs,a5,rfl,o4,a3,b4⟩;have J:=O.size;have a9:=o4.base J;have ad:=k.below b4;have V:=C.dQ (bq.aT (S:=λ_=>False) b4) λ_ _ h=>h;have T:=O.trans (bq.aT (S:=λ_=>False) b4) λ_ _ h=>h.elim;have a4:=ab a3;obtain⟨A4,c4,rfl⟩:=o4.form;clear a3 C O k o4 r3;cases a5
   .go_wp2;go_roundw
    case rel=>exact⟨j',q3,o,by have:=f.out;omega,rfl,ad,L.out,V,by have:=f.out;omega,T⟩
    simp[intOf];have:=f.out;omega
   .go_wp2;go_roundw
    case rel=>exact⟨j',q3,zs,by have:=f.out;omega,rfl,a9,a4.out,V,by have:=f.out;omega,T⟩
    simp[intOf];have:=f.out;omega
def arx(w:World)(lo hi g:Nat)(l:List Int)(p:Nat)(e:Ending)(w':World):Prop:=∃v a q,e=.returned v/\aF oQ 97 w' w.heap.size v a/\jM a/\Rd w' lo hi g l q/\q<=p+300/\bq (λb=>b=g) w w'
def ai8(l:List Int)(g p lo hi:Nat)(w:World)(y:Rd w lo hi g l p)(x:p<=50000) :
  Calls (ah β) 32 #[.pointer (some ⟨g,0,none⟩)] w (arx w lo hi g l p):=by
 go_enter zf,ntmps32;go_wp2;refine(ai7 l g p lo hi w y x).mono ?_;rintro e m ⟨C,r,q,rfl,k,f,u,j,n,b⟩;obtain⟨A,c,rfl⟩:=k.form;have B:=b.size;have s:=(k.deep f w.heap.size).sl (am _);clear f;go_wp2;refine(aaT r _ m w.heap.size m.heap.size s (am _)).mono ?_;rintro e z ⟨⟨rfl,o⟩|rfl,i⟩
 .have t:=ab o;have v:=k.below i;have d:=j.dQ (bq.aT (S:=λ_=>False) i) λ_ _ h=>h;have a:=b.trans (bq.aT (S:=λ_=>False) i) λ_ _ h=>h.elim;clear o;go_wp2;go_ret;exact⟨_,r,q,rfl,v,t.out,d,n,a⟩
 .have d:=j.dQ (bq.aT (S:=λ_=>False) i) λ_ _ h=>h;have a:=b.trans (bq.aT (S:=λ_=>False) i) λ_ _ h=>h.elim;go_wp2;go_ret;exact⟨_,[⟨⟨#[97]⟩,⟨#[104,101,108,108,111]⟩⟩],q,rfl,adW (F:=oQ) (bR.new z 97 #[.string ⟨#[97]⟩,.string ⟨#[104,101,108,108,111]⟩]) rfl a.size rfl (by simp[maxLen]),jM.one ⟨by decide,by decide⟩,d.alloc _,n,a.alloc _⟩
end
section
variable {β:Bool}
open Go.RowKit
def fQ.set(h:fQ w lo hi s Z Y X)(a:bR w g 27 cs)(i:Nat)(u:Value):fQ (w.setCell ⟨g,i,none⟩ u) lo hi s Z Y X:=
 ⟨cH fE.aw h.pk a (by decide) i u,cH gj.aw h.sn a (by decide) i u,cH fF.aw h.lg a (by decide) i u⟩
def fQ.wide{oG hi' : Nat}(h:fQ w lo hi s Z Y X)(b:oG<=lo)(a:hi<=hi'):fQ w oG hi' s Z Y X:=h.go (λ_ _ _=>rfl) b a
def fQ.form(h:fQ w lo hi s Z Y X):(∃A a,Z=.slice A s.pk.length a)/\(∃B b,Y=.slice B s.sn.length b)/\∃C c,X=.slice C s.lg.length c:=⟨h.pk.form,h.sn.form,h.lg.form⟩
def fQ.dQ{w' : World}(h:fQ w lo hi s Z Y X){S:Nat->Prop}(e:bq S w w')(c:∀b,lo<=b->b<hi->b<w.heap.size/\¬S b):fQ w' lo hi s Z Y X:=
 h.go (λb d a=>e.block b (c b d a).1 (c b d a).2) (am _) (am _)
def ary(h:cs.size=3):∃a b c,cs=#[a,b,c]:=by
 obtain⟨l⟩:=cs
 match l,h with
 |[a,b,c],_=>exact⟨a,b,c,rfl⟩
def eW(w:World)(g:Nat)(a b c:Value):bq (λx=>x=g) w (((w.setCell ⟨g,0,none⟩ a).setCell ⟨g,1,none⟩ b).setCell ⟨g,2,none⟩ c):=(((bq.refl (λx=>x=g) w).setCell (S:=λx=>x=g) (p:=⟨g,0,none⟩) (.inl rfl) a).setCell (S:=λx=>x=g) (p:=⟨g,1,none⟩) (.inl rfl) b).setCell (S:=λx=>x=g) (p:=⟨g,2,none⟩) (.inl rfl) c
section
variable {w:World} {lo hi g:Nat} {l:List Int} {N s ia ic bk:Nat} {fx:Bool} {ty:TypeId} {n:Nat} {S:Nat->Prop} {pre:List Nat}
def aaW(u:Value)(x:aH w lo hi g l N s ia ic bk fx ty n S pre):Prop:=
 ∃d c a q r L H,u=.tuple #[.agg #[d,c,a],.bool q]/\fQ x.to L H r d c a/\(∀b,L<=b->b<H->x.free b)/\w.heap.size<=L/\H<=x.to.heap.size/\(q=true->dH r)
def aaW.le{u:Value}{x y:aH w lo hi g l N s ia ic bk fx ty n S pre}(h:aaW u x)(a:aH.le x y):aaW u y:=by
 obtain⟨j,o,k,q,r,L,H,rfl,f,e,p,i,m⟩:=h;exact⟨j,o,k,q,r,L,H,rfl,f.go (λb d c=>a.dQ.block b (e b d c).1 (a.not (e b d c))) (am _) (am _),λb d c=>a.free (e b d c),p,bd i a.dQ.size,m⟩
def aaW.new{r:dK}{q:Bool}(x:aH w lo hi g l N s ia ic bk fx ty n S pre){w2:World}(d:Below x.to.heap.size x.to w2)(a:fQ w2 x.to.heap.size w2.heap.size r Z Y X)(j:q=true->dH r)(k:g<w.heap.size)(v:Value):aaW (.tuple #[.agg #[Z,Y,X],.bool q]) (x.told d v):=by
 have f:=x.ok.size;exact⟨Z,Y,X,q,r,_,_,rfl,a,λb o c=>⟨c,by omega,λe=>(by
  obtain⟨_,_,m,_,i⟩:=x.bx b e;have:=i.lt;omega),λe=>(by have:=x.sf b e;omega)⟩,f,am _,j⟩
def ahD(x:aH w lo hi g l N s ia ic bk fx ty n S pre):Prop:=
 x.done=true/\∃b d c a q,x.box=some b/\x.res=some (.tuple #[.agg #[d,c,a],.bool q])/\bR x.to b ty #[d,c,a]
def ahD.le{x y:aH w lo hi g l N s ia ic bk fx ty n S pre}(h:ahD x)(a:aH.le x y):ahD y:=by
 obtain⟨hd,b,d,m,k,q,i,e,j⟩:=h;obtain⟨o,c,f⟩:=a.full hd i j;exact⟨o,b,d,m,k,q,c,a.res _ e,f⟩
end
structure aeX (u va vb vc:Value) (q:Bool):Prop where
 eq:u=.tuple #[.agg #[va,vb,vc],.bool q]
 a:∃A m c,va=.slice A m c
 b:∃A m c,vb=.slice A m c
 c:∃A m c,vc=.slice A m c
def aeX.of{r:dK}{q:Bool}(h:fQ w lo hi r Z Y X):aeX (.tuple #[.agg #[Z,Y,X],.bool q]) Z Y X q:=by
 obtain⟨⟨A,a,rfl⟩,⟨B,b,rfl⟩,C,c,rfl⟩:=h.form;exact⟨rfl,⟨_,_,_,rfl⟩,⟨_,_,_,rfl⟩,⟨_,_,_,rfl⟩⟩
def ao5(w:World)(lo hi g:Nat)(l:List Int)(p:Nat)(e:Ending)(w':World):Prop:=
 ∃d c a s q,e=.returned (.agg #[d,c,a])/\fQ w' w.heap.size w'.heap.size s d c a/\dH s/\Rd w' lo hi g l q/\q<=p+700/\bq (λb=>b=g) w w'
structure ahE (w wr:World) (lo hi g:Nat) (l:List Int) (q gs:Nat) (va vb vc tt:Value) (s:dK) (t:List Nd):Prop where
 k0:bR wr w.heap.size 27 #[.slice none 0 0,.slice none 0 0,.slice none 0 0]
 ks:bR wr gs 27 #[va,vb,vc]
 os:fQ wr w.heap.size wr.heap.size s va vb vc
 sv:dH s
 ot:aF oQ 97 wr w.heap.size tt t
 ft:jM t
 rd:Rd wr lo hi g l q
 ch:bq (λb=>b=g) w wr
 gs1:w.heap.size<gs
 gw:g<w.heap.size
def ahE.dQ{wr w' : World}{l:List Int}{q gs : Nat}{c : Value}(h:ahE w wr lo hi g l q gs Z Y X c s t)(a:bq (λb=>b=g) wr w')(j:Rd w' lo hi g l V):ahE w w' lo hi g l V gs Z Y X c s t:=by
 have m:=h.gw;have d:=h.gs1;exact⟨bH h.k0 a (by omega),bH h.ks a (by omega),(h.os.dQ a λb d f=>⟨f,by omega⟩).wide (am _) a.size,h.sv,h.ot.dQ a λb k e=>by have:=(h.ot.at_ k).1;omega,h.ft,j,h.ch.trans a λi _ e=>e,d,m⟩
def ahE.tree{wr : World}{l:List Int}{q gs:Nat}{e a : Value}{b : List Nd}(h:ahE w wr lo hi g l q gs Z Y X e s t)(d:aF oQ 97 wr w.heap.size a b)(c:jM b):ahE w wr lo hi g l q gs Z Y X a s b:=
 ⟨h.k0,h.ks,h.os,h.sv,d,c,h.rd,h.ch,h.gs1,h.gw⟩
def abS(h:jM t):∀x∈t,oQ.good x:=pL h
def ahF(l:List Int)(g p lo hi:Nat)(w:World)(hr:Rd w lo hi g l p)(hp:p<=10000) :
  Calls (ah β) 20 #[.pointer (some ⟨g,0,none⟩)] w (ao5 w lo hi g l p):=by
 have cj:=hr.lt;have cp:=hr.hi_;go_enter zm,ntmps20;go_wp2;have aO:Below w.heap.size w (((((w.alloc (.cells #[.slice none 0 0,.slice none 0 0,.slice none 0 0] 27)).alloc (.cells #[] 32)).alloc (.cells #[] 65)).alloc (.cells #[] 71)).alloc (.cells #[.slice (some ⟨w.heap.size+1,0,none⟩) 0 0,.slice (some ⟨w.heap.size+1+1,0,none⟩) 0 0,.slice (some ⟨w.heap.size+1+1+1,0,none⟩) 0 0] 27)):=cM (cM (cM (cM (aA _ _) _) _) _) _;have k0:bR (((((w.alloc (.cells #[.slice none 0 0,.slice none 0 0,.slice none 0 0] 27)).alloc (.cells #[] 32)).alloc (.cells #[] 65)).alloc (.cells #[] 71)).alloc (.cells #[.slice (some ⟨w.heap.size+1,0,none⟩) 0 0,.slice (some ⟨w.heap.size+1+1,0,none⟩) 0 0,.slice (some ⟨w.heap.size+1+1+1,0,none⟩) 0 0] 27)) (w.heap.size) 27 #[.slice none 0 0,.slice none 0 0,.slice none 0 0]:=by
  have I:=bh (bh (bh (bh (bR.new w 27 #[.slice none 0 0,.slice none 0 0,.slice none 0 0]) (.cells #[] 32)) (.cells #[] 65)) (.cells #[] 71)) (.cells #[.slice (some ⟨w.heap.size+1,0,none⟩) 0 0,.slice (some ⟨w.heap.size+1+1,0,none⟩) 0 0,.slice (some ⟨w.heap.size+1+1+1,0,none⟩) 0 0] 27);exact I
 have k1:bR (((((w.alloc (.cells #[.slice none 0 0,.slice none 0 0,.slice none 0 0] 27)).alloc (.cells #[] 32)).alloc (.cells #[] 65)).alloc (.cells #[] 71)).alloc (.cells #[.slice (some ⟨w.heap.size+1,0,none⟩) 0 0,.slice (some ⟨w.heap.size+1+1,0,none⟩) 0 0,.slice (some ⟨w.heap.size+1+1+1,0,none⟩) 0 0] 27)) (w.heap.size+1) 32 #[]:=by
  have I:=bh (bh (bh (bR.new (w.alloc (.cells #[.slice none 0 0,.slice none 0 0,.slice none 0 0] 27)) 32 #[]) (.cells #[] 65)) (.cells #[] 71)) (.cells #[.slice (some ⟨w.heap.size+1,0,none⟩) 0 0,.slice (some ⟨w.heap.size+1+1,0,none⟩) 0 0,.slice (some ⟨w.heap.size+1+1+1,0,none⟩) 0 0] 27);simp only[me] at I;exact I
 have k2:bR (((((w.alloc (.cells #[.slice none 0 0,.slice none 0 0,.slice none 0 0] 27)).alloc (.cells #[] 32)).alloc (.cells #[] 65)).alloc (.cells #[] 71)).alloc (.cells #[.slice (some ⟨w.heap.size+1,0,none⟩) 0 0,.slice (some ⟨w.heap.size+1+1,0,none⟩) 0 0,.slice (some ⟨w.heap.size+1+1+1,0,none⟩) 0 0] 27)) (w.heap.size+1+1) 65 #[]:=by
  have I:=bh (bh (bR.new ((w.alloc (.cells #[.slice none 0 0,.slice none 0 0,.slice none 0 0] 27)).alloc (.cells #[] 32)) 65 #[]) (.cells #[] 71)) (.cells #[.slice (some ⟨w.heap.size+1,0,none⟩) 0 0,.slice (some ⟨w.heap.size+1+1,0,none⟩) 0 0,.slice (some ⟨w.heap.size+1+1+1,0,none⟩) 0 0] 27);simp only[me] at I;exact I
 have k3:bR (((((w.alloc (.cells #[.slice none 0 0,.slice none 0 0,.slice none 0 0] 27)).alloc (.cells #[] 32)).alloc (.cells #[] 65)).alloc (.cells #[] 71)).alloc (.cells #[.slice (some ⟨w.heap.size+1,0,none⟩) 0 0,.slice (some ⟨w.heap.size+1+1,0,none⟩) 0 0,.slice (some ⟨w.heap.size+1+1+1,0,none⟩) 0 0] 27)) (w.heap.size+1+1+1) 71 #[]:=by
  have I:=bh (bR.new (((w.alloc (.cells #[.slice none 0 0,.slice none 0 0,.slice none 0 0] 27)).alloc (.cells #[] 32)).alloc (.cells #[] 65)) 71 #[]) (.cells #[.slice (some ⟨w.heap.size+1,0,none⟩) 0 0,.slice (some ⟨w.heap.size+1+1,0,none⟩) 0 0,.slice (some ⟨w.heap.size+1+1+1,0,none⟩) 0 0] 27);simp only[me] at I;exact I
 have k4:bR (((((w.alloc (.cells #[.slice none 0 0,.slice none 0 0,.slice none 0 0] 27)).alloc (.cells #[] 32)).alloc (.cells #[] 65)).alloc (.cells #[] 71)).alloc (.cells #[.slice (some ⟨w.heap.size+1,0,none⟩) 0 0,.slice (some ⟨w.heap.size+1+1,0,none⟩) 0 0,.slice (some ⟨w.heap.size+1+1+1,0,none⟩) 0 0] 27)) (w.heap.size+1+1+1+1) 27 #[.slice (some ⟨w.heap.size+1,0,none⟩) 0 0,.slice (some ⟨w.heap.size+1+1,0,none⟩) 0 0,.slice (some ⟨w.heap.size+1+1+1,0,none⟩) 0 0]:=by
  have I:=bR.new ((((w.alloc (.cells #[.slice none 0 0,.slice none 0 0,.slice none 0 0] 27)).alloc (.cells #[] 32)).alloc (.cells #[] 65)).alloc (.cells #[] 71)) 27 #[.slice (some ⟨w.heap.size+1,0,none⟩) 0 0,.slice (some ⟨w.heap.size+1+1,0,none⟩) 0 0,.slice (some ⟨w.heap.size+1+1+1,0,none⟩) 0 0];simp only[me] at I;exact I
 have mo:w.heap.size+5<=(((((w.alloc (.cells #[.slice none 0 0,.slice none 0 0,.slice none 0 0] 27)).alloc (.cells #[] 32)).alloc (.cells #[] 65)).alloc (.cells #[] 71)).alloc (.cells #[.slice (some ⟨w.heap.size+1,0,none⟩) 0 0,.slice (some ⟨w.heap.size+1+1,0,none⟩) 0 0,.slice (some ⟨w.heap.size+1+1+1,0,none⟩) 0 0] 27)).heap.size:=by simp only[me];omega
 generalize (((((w.alloc (.cells #[.slice none 0 0,.slice none 0 0,.slice none 0 0] 27)).alloc (.cells #[] 32)).alloc (.cells #[] 65)).alloc (.cells #[] 71)).alloc (.cells #[.slice (some ⟨w.heap.size+1,0,none⟩) 0 0,.slice (some ⟨w.heap.size+1+1,0,none⟩) 0 0,.slice (some ⟨w.heap.size+1+1+1,0,none⟩) 0 0] 27))=w0 at *;have eJ:=k0.cell;have iw:=k0.frozen;have ch:=k1.cell;have c4:=k1.frozen;have bP:=k2.cell;have c7:=k2.frozen;have bA:=k3.cell;have c2:=k3.frozen;have a6:=k4.cell;have cn:=k4.frozen;have b5:fQ w0 w.heap.size w0.heap.size ⟨[],[],[]⟩ (.slice (some ⟨w.heap.size+1,0,none⟩) 0 0) (.slice (some ⟨w.heap.size+1+1,0,none⟩) 0 0) (.slice (some ⟨w.heap.size+1+1+1,0,none⟩) 0 0):=
  ⟨et.acJ ⟨_,rfl,by omega,k1⟩ (am _),et.acJ ⟨_,rfl,by omega,k2⟩ (am _),et.acJ ⟨_,rfl,by omega,k3⟩ (am _)⟩
 have ax:bq (λb=>b=g) w w0:=bq.aT aO;have bf:=hr.dQ (bq.aT (S:=λ_=>False) aO) λ_ _ h=>h;clear k1 k2 k3 eJ ch bP bA a6 iw c4 c7 c2 cn aO hr;refine(ai8 l g p lo hi w0 bf (by omega)).mono ?_;rintro e w1 ⟨vt,t0,q1,rfl,ot,bz,aZ,cS,J⟩;have k:ahE w w1 lo hi g l q1 (w.heap.size+1+1+1+1) (.slice (some ⟨w.heap.size+1,0,none⟩) 0 0) (.slice (some ⟨w.heap.size+1+1,0,none⟩) 0 0) (.slice (some ⟨w.heap.size+1+1+1,0,none⟩) 0 0) vt ⟨[],[],[]⟩ t0:=
  ⟨bH k0 J (by omega),bH k4 J (by omega),(b5.dQ J λb h1 h2=>⟨h2,by omega⟩).wide (am _) J.size,dH.nil,ot.base (by omega),bz,aZ,ax.trans J λi _ e=>e,by omega,cj⟩
 clear k0 k4 b5 ax ot bz J bf;obtain⟨o,b0⟩:∃o,o=w.heap.size+1+1+1+1:=⟨_,rfl⟩;rw[<-b0] at k ⊢;clear b0;go_wp2;refine(dA _ _ _ _ _ _ 5 k.rd (by omega)).mono ?_;rintro e w2 ⟨m,rfl,⟨_,hm⟩,bo,aS⟩;have cy:=hm (by omega);obtain⟨mm,rfl⟩:=qG (show 0<=m by omega);have b2:=ab (k.dQ aS bo);clear hm aZ bo aS k;go_wp2;go_loopw [4,5] (λtt jj wr=>∃(j q:Nat) (s:dK) (t:List Nd) (O P U:Value),j<=4/\jj=.int .i64 j/\ahE w wr lo hi g l q o O P U tt s t/\q+60*j<=p+600) (λ_ jj _=>(intOf jj).toNat)
 case atStart=>exact⟨mm,_,_,_,_,_,_,by omega,rfl,b2.out,by omega⟩
 case round=>
  clear b2;obtain⟨j,q,s,t,O,P,U,hj,rfl,k,hq⟩:=hrel;obtain⟨⟨A,a,rfl⟩,⟨B,b,rfl⟩,C,c,rfl⟩:=k.os.form;obtain⟨T,d,rfl⟩:=k.ot.form;have ba:wr.cell? ⟨o,0,none⟩=some (.slice A s.pk.length a):=k.ks.cell 0;have aa:wr.cell? ⟨o,1,none⟩=some (.slice B s.sn.length b):=k.ks.cell 1;have br:wr.cell? ⟨o,2,none⟩=some (.slice C s.lg.length c):=k.ks.cell 2;have c3:=k.gs1;have bL:=k.gw;have ct:=k.ks.lt;have zr:=k.ch.size;have HD:=ab k;by_cases h0:j=0
  .subst h0;have eJ:=k.k0.cell;have iw:=k.k0.frozen;clear k;go_wp2;have k4:=((HD.out.k0.bM 0 (.slice A s.pk.length a)).bM 1 (.slice B s.sn.length b)).bM 2 (.slice C s.lg.length c);simp only[dj,gt,gE] at k4;have a6:=k4.cell;refine pe (v:=.agg #[.slice A s.pk.length a,.slice B s.sn.length b,.slice C s.lg.length c]) (by simp[results,results20,go_sem,a6]) rfl ⟨_,_,_,s,q,rfl, ?_,HD.out.sv, ?_,by omega, ?_⟩
   .simp only[ef];exact((HD.out.os.set HD.out.k0 0 _).set (HD.out.k0.bM 0 _) 1 _).set ((HD.out.k0.bM 0 _).bM 1 _) 2 _
   .exact HD.out.rd.dQ (eW _ _ _ _ _) λb G e=>by have:=HD.out.gw;omega
   .exact HD.out.ch.trans (eW _ _ _ _ _) λi hi e=>by omega
  .have t0:=db (show 0<j by omega);clear k;have rd:=HD.out.rd;go_wp2;refine ak0 (N:=q+12) (s:=10) (ia:=9) (ic:=5) (bk:=wr.heap.size) (fx:=false) (ty:=27) (n:=3) (S:=λ_=>False) (pre:=[]) 12 q [1,4] [0,2,3,5,6,7,8,9,10,11] (by kernel_rfl) (by kernel_rfl) (by kernel_rfl) rd (am _) none (λb G=>by cases G) (λh=>by cases h) (λb G=>G.elim) (λb G=>by cases G) (.inl rfl) ?_;simp only[pick,List.map,pi,pm];repeat(go_big_quiet_step (fail))
   refine lE ?_;apply Exists.intro;apply anc (λv=>v=.agg #[.slice A s.pk.length a,.slice B s.sn.length b,.slice C s.lg.length c])
   .rfl
   .intro x _ Y f;replace f:=ab f;have ca:=aaR (x:=x) ba (by show o≠g;omega) (by show o≠_;omega) (λh=>h);have cb:=aaR (x:=x) aa (by show o≠g;omega) (by show o≠_;omega) (λh=>h);have cc:=aaR (x:=x) br (by show o≠g;omega) (by show o≠_;omega) (λh=>h);go_wp2;exact f.out _ rfl
   intro ux;simp only[Act.put,dj,gt,gE];apply aug (λv=>∃m:Int,v=.int .i64 m/\0<=m/\m<2)
   .rfl
   .intro x _ hN Y f;replace f:=ab f;go_wp2;refine(dA _ _ _ _ _ _ 2 x.rd (by omega)).mono ?_;rintro e wy ⟨m,rfl,⟨_,q1⟩,ck,bZ⟩;obtain⟨q2,q3⟩:=q1 (by omega);go_wp2;exact f.out _ _ ck bZ ⟨m,rfl,q2,q3⟩
   intro u2;apply anc (λv=>∃m:Int,v=.int .i64 m/\1<=m/\m<=2)
   .rfl
   .intro x z Y f;replace f:=ab f;obtain⟨m,rfl,q1,q2⟩:=z.1 (by kernel_rfl);go_wp2;exact f.out _ ⟨_,rfl,by omega,by omega⟩
   intro u3;apply auh (λv x=>aaW v x)
   .rfl
   .rfl
   .exact λv x y h hl=>h.le hl
   .intro x z Y f;replace f:=ab f;obtain⟨m3,rfl,i1,i2⟩:=z.1 (by kernel_rfl);cases z.2.2.1 (by kernel_rfl);clear z;have bl:∀b,w.heap.size<=b->b<wr.heap.size->b<wr.heap.size/\¬(b=g\/x.box=some b\/x.done=true/\False):=λb h1 h2=>⟨h2,λe=>by
     rcases e with e|e|e
     .have:=HD.out.gw;omega
     .rcases x.bw b e with e|e<;>omega
     .exact e.2⟩
    have ox:=HD.out.os.dQ x.ok bl;have tx:=HD.out.ot.dQ x.ok λb G=>(bl b (HD.out.ot.at_ G).1 (HD.out.ot.at_ G).2).2;have zx:=x.ok.size;have wf:=HD.out.sv.wf;have tr:=(tx.deep (abS HD.out.ft) 0).sl (fb _);go_wp2;refine(ai2 7 (by omega) s m3 (by unfold bF;omega) t (pQ HD.out.ft) (by have:=HD.out.ft.2.1;omega) wf.small wf.bE (by have:=wf.atz;omega) _ _ _ _ x.to _ _ 0 x.to.heap.size ox zx tr (am _)).mono ?_;rintro e wy ⟨v1,v2,v3,qq,r,rfl,oy,bO,aN⟩;go_wp2;exact f.out _ _ aN (aaW.new x aN oy (λc6=>by
     rcases bO with⟨_,h1,rfl⟩|⟨h1,_⟩
     .exact HD.out.sv.save (by omega) HD.out.ft h1
     .rw[c6] at h1;cases h1) (by have:=HD.out.gw;omega) _)
   intro u5;simp only[Act.put,dj,gt,gE];apply ahw (λv u=>v=u/\∃O P U q,aeX u O P U q)
   .rfl
   .intro x z Y f;replace f:=ab f;obtain⟨⟨v1,v2,v3,qq,r,L,H,rfl,ho,_⟩,K⟩:=z.1 (by kernel_rfl);clear z;go_wp2;exact f.out _ _ K ⟨rfl,_,_,_,_,aeX.of ho⟩
   intro u6;simp only[Act.put,dj,gt,gE];apply ahw (λv u=>∃O P U q,aeX u O P U q/\v=.agg #[O,P,U])
   .rfl
   .intro x z Y f;replace f:=ab f;obtain⟨u,K,rfl,v1,v2,v3,qq,E⟩:=z.1 (by kernel_rfl);have e:=E.eq;subst e;clear z;go_wp2;exact f.out _ _ K ⟨_,_,_,_,E,rfl⟩
   intro u7;simp only[Act.put,dj,gt,gE];apply ahw (λv u=>∃O P U q,aeX u O P U q/\v=.bool q)
   .rfl
   .intro x z Y f;replace f:=ab f;obtain⟨u,K,rfl,v1,v2,v3,qq,E⟩:=z.2.1 (by kernel_rfl);have e:=E.eq;subst e;clear z;go_wp2;exact f.out _ _ K ⟨_,_,_,_,E,rfl⟩
   intro u8;simp only[Act.put,dj,gt,gE];apply aq8 (cs:=#[.slice none 0 0,.slice none 0 0,.slice none 0 0])
   .rfl
   .rfl
   .decide
   .have:=HD.out.gw;omega
   .rfl
   .intro x Y f;replace f:=ab f;go_wp2;exact f.out
   intro u9;simp only[Act.put,dj,gt,gE];apply aq9 (λx=>ahD x)
   .rfl
   .exact λj hj=>(by cases hj)
   .exact λx y h hl=>h.le hl
   .intro x z aJ Y f;replace f:=ab f;obtain⟨b6,rfl,cr,a4⟩:=z.1 (by kernel_rfl);obtain⟨u,K,v1,v2,v3,qq,E,rfl⟩:=z.2.2.1 (by kernel_rfl);clear z;have e:=E.eq;subst e;obtain⟨A1,m1,c1,rfl⟩:=E.a;obtain⟨B1,k1,d1,rfl⟩:=E.b;obtain⟨C1,k2,d2,rfl⟩:=E.c;obtain⟨cC,d6,cs,c5,V⟩:=x.bx _ a4;obtain⟨ca,cb,cc,rfl⟩:=ary c5;have aa:=V.cell;have cw:=V.frozen;go_wp2;exact f.out _ a4 _ (eW _ _ _ _ _) _ rfl (((V.bM 0 _).bM 1 _).bM 2 _) ⟨rfl,_,_,_,_,_,a4,K,((V.bM 0 _).bM 1 _).bM 2 _⟩
   .rfl
   simp only[Act.put,dj,gt,gE];apply ahw (λv u=>∃O P U q,aeX u O P U q/\v=.bool q)
   .rfl
   .intro x z Y f;replace f:=ab f;obtain⟨u,K,v1,v2,v3,qq,E,rfl⟩:=z.2.2.1 (by kernel_rfl);clear z;go_wp2;exact f.out _ _ K ⟨_,_,_,_,E,rfl⟩
   intro cW;simp only[Act.put,dj,gt,gE];refine axC λx z=> ?_;simp only[js] at z;obtain⟨⟨u,K,v1,v2,v3,qq,E,rfl⟩,⟨aJ,gy,cP,cq,d7,d8,bt,ao,ky⟩,⟨cB,rfl,cv,bi⟩, -, -, -,⟨⟨x1,x2,x3,dc,r,L,H,rfl,oy,fy,hL,hH,M⟩,b9⟩, -⟩:=z;have e:=E.eq;subst e;rw[K] at ao b9;cases ao;cases b9;rw[bt] at bi;cases bi;obtain⟨⟨A1,a1,rfl⟩,⟨B1,b1,rfl⟩,C1,c1,rfl⟩:=oy.form;have a0:bq (λb=>b=g) wr x.to:=x.ok.mono λb G e=>by
    rcases e with e|e|⟨_,e⟩
    .exact e
    .rcases x.bw b e with e|e<;>omega
    .exact e.elim
   have Q:=HD.out.dQ a0 x.rd;have ce:x.q<=q+12:=x.lim;have zx:=a0.size;simp only[List.drop];clear K E aJ bt fy HD rd ba aa br a0;revert zx;revert hH;revert oy;revert ky;revert ce;revert Q;generalize x.to=w4;generalize x.q=q4;clear x;intro Q cu ky oy hH zx;have HD:=ab Q;have d4:=Q.ks.lt;replace M:=ab M;clear Q;cases qq
   case' false=>
    clear ky oy M;go_wp2;revert HD;generalize w4=w5;intro HD
   case' true=>
    have c0:=ky.cell;have c9:=HD.out.ks.cell;have bS:=HD.out.ks.frozen;have a7:=((HD.out.ks.bM 0 (.slice A1 r.pk.length a1)).bM 1 (.slice B1 r.sn.length b1)).bM 2 (.slice C1 r.lg.length c1);simp only[dj,gt,gE] at a7;have R:=eW w4 o (.slice A1 r.pk.length a1) (.slice B1 r.sn.length b1) (.slice C1 r.lg.length c1);have bw:fQ (((w4.setCell ⟨o,0,none⟩ (.slice A1 r.pk.length a1)).setCell ⟨o,1,none⟩ (.slice B1 r.sn.length b1)).setCell ⟨o,2,none⟩ (.slice C1 r.lg.length c1)) L H r (.slice A1 r.pk.length a1) (.slice B1 r.sn.length b1) (.slice C1 r.lg.length c1):=((oy.set HD.out.ks 0 _).set (HD.out.ks.bM 0 _) 1 _).set ((HD.out.ks.bM 0 _).bM 1 _) 2 _
    have W:ahE w (((w4.setCell ⟨o,0,none⟩ (.slice A1 r.pk.length a1)).setCell ⟨o,1,none⟩ (.slice B1 r.sn.length b1)).setCell ⟨o,2,none⟩ (.slice C1 r.lg.length c1)) lo hi g l q4 o (.slice A1 r.pk.length a1) (.slice B1 r.sn.length b1) (.slice C1 r.lg.length c1) (.slice T t.length d) r t:=
     ⟨bH HD.out.k0 R (by omega),a7,by simp only[ef];exact fQ.wide bw (by omega) hH,M.out rfl,HD.out.ot.dQ R λb G e=>by
       have:=aF.deep HD.out.ot (abS HD.out.ft) 0;obtain⟨ds,k⟩:=this.blk G;have e':b=o:=e;subst e';exact absurd (eA HD.out.ks k) (by decide),HD.out.ft,HD.out.rd.dQ R λb G e=>by omega,HD.out.ch.trans R λi hi e=>by have e':i=o:=e;omega,c3,bL⟩
    replace W:=ab W;clear a7 R bw oy HD M;go_wp2;have HD:=W;clear W;revert HD;generalize ((w4.setCell ⟨o,0,none⟩ (.slice A1 r.pk.length a1)).setCell ⟨o,1,none⟩ (.slice B1 r.sn.length b1)).setCell ⟨o,2,none⟩ (.slice C1 r.lg.length c1)=w5;intro HD;clear c0 c9 bS ky
   all_goals
    refine(lD l g q4 lo hi w5 HD.out.rd (by omega)).mono ?_;rintro e w6 ⟨sp,q6,rfl,d5,aM,dd,b3⟩;have a3:=ab (HD.out.dQ b3 aM);clear aM b3 HD;go_wp2;refine(adi l g q6 lo hi w6 a3.out.rd (by omega)).mono ?_;rintro e w7 ⟨tx,q7,rfl,co,al,d0,ay⟩;have F:=ab (a3.out.dQ ay al);clear al ay a3;have r7:=((F.out.ot.deep (abS F.out.ft) 0).sl (fb _));replace r7:=ab r7;go_wp2;refine(adb t sp tx (by unfold maxLen;omega) (by unfold maxLen;omega) _ w7 0 w7.heap.size r7.out (am _) (by have:=F.out.ft.2.1;omega)).mono ?_;rintro e w8 ⟨v8,zs,put,rfl,o8,b4,b8⟩;have z7:=F.out.ch.size;have a2:=ab (F.out.dQ (bq.aT (S:=λb=>b=g) b8) (F.out.rd.dQ (bq.aT (S:=λ_=>False) b8) λ_ _ h=>h));have a5:=ab (And.intro (o8.base z7) b4);obtain⟨A8,c8,rfl⟩:=o8.form;clear F r7 o8 b4 b8;cases put
    case' false=>
     clear a5;have Z:=a2
    case' true=>have Z:=ab (a2.out.tree a5.out.1 a5.out.2)
    all_goals
     clear a2;go_wp2;refine(dA _ _ _ _ _ _ 3 (Z).out.rd (by omega)).mono ?_;rintro e cd ⟨a9,rfl,⟨_,bW⟩,bb,bx⟩;have X:=ab ((Z).out.dQ bx bb);clear bW bb bx Z;by_cases m0:a9=0
     .have t5:(a9 ==0)=true:=mw.2 m0;clear m0;go_wp2;refine(lD l g _ lo hi cd X.out.rd (by omega)).mono ?_;rintro e b7 ⟨ci,cl,rfl,cO,bp,cQ,af⟩;have D:=ab (X.out.dQ af bp);clear bp af X;have bn:=ab ((D.out.ot.deep (abS D.out.ft) 0).sl (fb _));go_wp2;refine(aiP _ ci _ b7 0 b7.heap.size bn.out (am _) (by have:=D.out.ft.2.1;omega)).mono ?_;rintro e d9 ⟨cX,ys,rfl,a8,an,ad⟩;have cm:=D.out.ch.size;have bT:=ab ((D.out.dQ (bq.aT (S:=λb=>b=g) ad) (D.out.rd.dQ (bq.aT (S:=λ_=>False) ad) λ_ _ h=>h)).tree (a8.base cm) (D.out.ft.sub an));obtain⟨d3,cz,rfl⟩:=a8.form;clear D bn a8 an ad;go_wp2;go_roundw
      case rel=>exact⟨j-1,cl,_,_,_,_,_,by omega,by go_num,bT.out,by omega⟩
      simp[intOf];omega
     .have t5:(a9 ==0)=false:=fa.2 m0;clear m0;go_wp2;go_roundw
      case rel=>exact⟨j-1,_,_,_,_,_,_,by omega,by go_num,X.out,by omega⟩
      simp[intOf];omega
end
section
variable {β:Bool}
open Go.RowKit
def ao6:List ByteArray:=[⟨#[122,122]⟩,⟨#[98,46]⟩,⟨#[97,98,99,46]⟩,⟨#[104,101,108,108,111,46,46,46]⟩,⟨#[]⟩]
structure aCi (L:abP) (nc:Nat):Prop where
 k:0<=L.k/\L.k<=5
 n:0<=L.n/\L.n<=20
 nl:L.k=2\/L.k=4->L.n<=nc
 m:0<=L.m/\L.m<=3
 b:L.b∈ao6
end
section
variable {β:Bool}
open Go.RowKit
structure SmS (s:dK):Prop where
 pl:s.pk.length<=20
 pn:∀p∈s.pk,p.its.length<=4/\∀x∈p.its,x.b.size<=8
 sl:s.sn.length<=9
 sn:∀x∈s.sn,x.all.length<=6/\∀y∈x.all,y.p.size<=3/\y.ns.length<=40
 ll:s.lg.length<=9
def WfS.sm(h:WfS s):SmS s:=⟨h.pl,λp a=>(h.pn p a).2,by have:=h.sl;have:=h.ll;omega,λx b=>(h.sn x b).2,h.ll⟩
def SmS.atz(h:SmS s):adB s<=10000:=by
 have e:dG bPk s.pk<=s.pk.length*(36+1):=iH λp b=>by
  have c:dG bIt p.its<=p.its.length*(8+1):=iH λx a=>(h.pn p b).2 x a;have:=(h.pn p b).1;show dG bIt p.its<=36;omega
 have f:dG bSn s.sn<=s.sn.length*(264+1):=iH λx a=>by
  have c:dG bLs x.all<=x.all.length*(43+1):=iH λy d=>by
   have:=(h.sn x a).2 y d;show y.p.size+y.ns.length<=43;omega
  have:=(h.sn x a).1;show dG bLs x.all<=264;omega
 have:=h.pl;have:=h.sl;have:=h.ll;unfold adB;omega
end
section
variable {β:Bool}
open Go.RowKit
def abT(x:Int)(w:World)(b:Bool)(a:b=true↔1<=x/\x<=99):Calls (ah β) 13 #[.int .i64 x] w λe c=>e=.returned (.bool b)/\w=c:=by
 replace a:=ab a;by_cases h:1<=x
 .go_enter xq,ntmps13;go_wp2;go_ret;exact⟨aC (by rw[qn,a.out];simp[h]),rfl⟩
 .go_enter xq,ntmps13;go_wp2;go_ret;exact⟨aC (by rw[qn,a.out];simp[h];omega),rfl⟩
def agd(s:ByteArray)(n:s.size<=maxLen)(w:World) :
  Calls (ah β) 127 #[.string s] w λe m=>e=.returned (.bool ((bs s).all oH))/\w=m:=by
 unfold maxLen at n;go_enter ya,ntmps127;go_wp2
 go_loop [6] (λi=>∃k:Nat,k<=s.size/\i=.int .i64 k/\((bs s).take k).all oH=true) (λi=>s.size-(intOf i).toNat)
 case atStart=>exact⟨0,fb _,rfl,rfl⟩
 case round=>
  obtain⟨k,p,rfl,f⟩:=hrel;replace f:=ab f;by_cases b:k<s.size
  .have d:=aaL b;replace d:=ab d;by_cases q:(s[k]'b).toNat<97
   .have l:=db (show((s[k]'b).toNat:Int)<97 by omega);have a:(bs s).all oH=false:=by
     rw[ug];exact⟨_,da d.out,by unfold oH;simp;omega⟩
    have c:=ab a;clear a;go_wp2;go_ret;exact⟨aC c.out.symm,rfl⟩
   .have l:=bv (show ¬(((s[k]'b).toNat:Int)<97) by omega);by_cases o:122<(s[k]'b).toNat
    .have j:=db (show 122<((s[k]'b).toNat:Int) by omega);have a:(bs s).all oH=false:=by
      rw[ug];exact⟨_,da d.out,by unfold oH;simp;omega⟩
     have c:=ab a;clear a;go_wp2;go_ret;exact⟨aC c.out.symm,rfl⟩
    .have j:=bv (show ¬(122<((s[k]'b).toNat:Int)) by omega);have g:((bs s).take (k+1)).all oH=true:=by
      rw[nF d.out,th,f.out];simp[oH];omega
     replace g:=ab g;go_wp2
     go_round
     case rel=>exact⟨k+1,by omega,by go_num,g.out⟩
     simp[intOf];omega
  .obtain rfl:k=s.size:=by omega
   have a:(bs s).all oH=true:=by
    have:=f.out
    rwa [qj (by rw[aK];exact am _)] at this
   have c:=ab a;clear a;go_wp2;go_ret;exact⟨aC c.out.symm,rfl⟩
def pR(s:ByteArray)(j:s.size<=maxLen)(w:World)(b:Bool)(g:b=true↔bg (bs s)) :
  Calls (ah β) 96 #[.string s] w λe l=>e=.returned (.bool b)/\w=l:=by
 replace g:=ab g;have HS:=j;unfold maxLen at j;have a:b=(decide (1<=(s.size:Int))&&decide ((s.size:Int)<=8)&&(bs s).all oH):=by
  rw[qn,g.out];unfold bg;rw[aK];simp only[fd,qH];exact⟨λ⟨⟨k,i⟩,f⟩=>⟨⟨by omega,by omega⟩,f⟩,λ⟨⟨k,i⟩,f⟩=>⟨⟨by omega,by omega⟩,f⟩⟩
 replace a:=ab a;by_cases k:1<=s.size
 .have c:=db (show 1<=(s.size:Int) by omega);by_cases i:s.size<=8
  .have d:=db (show(s.size:Int)<=8 by omega);go_enter wO,ntmps96;go_wp2;refine(agd s HS w).mono ?_;rintro e m ⟨rfl,rfl⟩;go_wp2;go_ret;exact⟨aC (by rw[a.out,c,d];simp),rfl⟩
  .have d:=bv (show ¬((s.size:Int)<=8) by omega);go_enter wO,ntmps96;go_wp2;go_ret;exact⟨aC (by rw[a.out,c,d];simp),rfl⟩
 .have c:=bv (show ¬(1<=(s.size:Int)) by omega);go_enter wO,ntmps96;go_wp2;go_ret;exact⟨aC (by rw[a.out,c];simp),rfl⟩
end
section
variable {β:Bool}
open Go.RowKit
def als{s:ByteArray}(h:k<s.size):code ((bs s).take (k+1))=27*code ((bs s).take k)+((s[k]'h).toNat-97)+1:=af2 (aaL h)
def aja{l:List Nat}(h:bg l)(k:Nat):code (l.take k)<282429536481:=by
 rcases pa k with a|a
 .subst a;simp[code,dL]
 .refine aby ⟨⟨?_, ?_⟩, ?_⟩
  .rw[ff];have:=h.1.1;omega
  .rw[ff];have:=h.1.2;omega
  .rw[jt];exact λx b=>jt.1 h.2 x (oS b)
def auv(key:Int)(s:ByteArray)(r:1<=key/\key<=99)(b:bg (bs s))(w:World) :
  Calls (ah β) 98 #[.int .i64 key,.string s] w λe q=>e=.returned (.tuple #[.int .i64 (bG key (bs s)),.nilIface])/\w=q:=by
 have u:1<=s.size/\s.size<=8:=by have:=b.1;rw[aK] at this;exact this
 have j:s.size<=maxLen:=by unfold maxLen;omega
 have n:=aby b;replace b:=ab b;replace j:=ab j;have l:bG key (bs s)=((code (bs s):Int)*(2*key+1)+7919*key) % 999999999989:=by unfold bG;rw[Int.mul_comm key 7919]
 have g:=ab l;clear l;go_enter yo,ntmps98;go_wp2;refine(abT key w true (by simp;exact r)).mono ?_;rintro e o ⟨rfl,rfl⟩;go_wp2;refine(pR s j.out w true (by simp only[tQ];exact b.out)).mono ?_;rintro e o ⟨rfl,rfl⟩;go_wp2
 go_loop [6,20] (λc i=>∃k:Nat,k<=s.size/\i=.int .i64 k/\c=.int .i64 (code ((bs s).take k))) (λ_ i=>s.size-(intOf i).toNat)
 case atStart=>exact⟨0,fb _,rfl,rfl⟩
 case round=>
  obtain⟨k,p,rfl,rfl⟩:=hrel;by_cases a:k<s.size
  .have d:=als a;have v:=aja b.out k;have t:=aja b.out (k+1);have A:97<=(s[k]'a).toNat/\(s[k]'a).toNat<=122:=by
    have:=jt.1 b.out.2 _ (da (aaL a));unfold oH at this;simpa using this
   replace d:=ab d;generalize f:code ((bs s).take k)=cd at *;replace f:=ab f;go_wp2
   go_round
   case rel=>exact⟨k+1,by omega,by go_num,by rw[d.out];congr 1;omega⟩
   simp[intOf];omega
  .obtain rfl:k=s.size:=by omega
   have m:(bs s).take s.size=bs s:=qj (by rw[aK];exact am _);rw[m];clear m;revert g;revert n;generalize code (bs s)=c;intro n g;have y:0<=(c:Int)*(2*key+1)/\(c:Int)*(2*key+1)<=282429536481*199:=by
    constructor
    .exact Int.mul_nonneg (by omega) (by omega)
    .exact Int.mul_le_mul (by omega) (by omega) (by omega) (by omega)
   have C:wrap64 (2*key)=2*key:=by unfold wrap64;omega
   have x:wrap64 (2*key+1)=2*key+1:=by unfold wrap64;omega
   have D:wrap64 ((c:Int)*(2*key+1))=(c:Int)*(2*key+1):=by unfold wrap64;omega
   have z:wrap64 (7919*key)=7919*key:=by unfold wrap64;omega
   have B:wrap64 ((c:Int)*(2*key+1)+7919*key)=(c:Int)*(2*key+1)+7919*key:=by unfold wrap64;omega
   have E:((c:Int)*(2*key+1)+7919*key).tmod 999999999989=((c:Int)*(2*key+1)+7919*key) % 999999999989:=uR (by omega);go_wp2;go_ret2;exact⟨by rw[g.out];rfl,rfl⟩
def arz(key:Int)(s:ByteArray)(nm:Int)(c:1<=key/\key<=99)(b:bg (bs s))(w:World) :
  Calls (ah β) 59 #[.int .i64 key,.string s,.int .i64 nm] w λe d=>e=.returned (.bool (decide (bG key (bs s)=nm)))/\w=d:=by
 replace b:=ab b;go_enter yH,ntmps59;go_wp2;refine(auv key s c b.out w).mono ?_;rintro e f ⟨rfl,rfl⟩;obtain⟨y,a⟩:∃y,y=bG key (bs s):=⟨_,rfl⟩;rw[<-a];replace a:=ab a;by_cases h:y=nm
 .subst h;go_wp2;go_ret;exact⟨aC (by rw[<-a.out];simp),rfl⟩
 .have g:(y ==nm)=false:=fa.2 h;go_wp2;go_ret;exact⟨aC (by rw[<-a.out];simp[h]),rfl⟩
end
section
variable {β:Bool}
open Go.RowKit
def ao7(n:Nat)(m:1<=n/\n<=8)(w:World) :
  Calls (ah β) 142 #[.int .i64 n] w λe f=>e=.returned (.int .i64 (cg n))/\w=f:=by
 have i:((1<=n/\n<=2)/\cg n=2)\/((3<=n/\n<=4)/\cg n=4)\/((5<=n/\n<=8)/\cg n=8):=by
  unfold cg;split<;>(try split)<;>(try split)<;>omega
 obtain⟨a,b⟩:∃a,a=cg n:=⟨_,rfl⟩;rw[<-b] at i ⊢;replace b:=ab b;have l:=bv (show ¬((n:Int)<1) by omega);have j:=bv (show ¬(8<(n:Int)) by omega);go_enter xT,ntmps142;go_wp2
 go_loop [3] (λv=>∃k:Nat,v=.int .i64 k/\(k=2\/k=4\/k=8)/\k<=a) (λv=>8-(intOf v).toNat)
 case atStart=>exact⟨2,rfl,.inl rfl,by omega⟩
 case round=>
  obtain⟨k,rfl,o,g⟩:=hrel;by_cases d:k<n
  .have c:=db (show(k:Int)<(n:Int) by omega);go_wp2
   go_round
   case rel=>exact⟨k*2,by go_num,by omega,by omega⟩
   simp[intOf];omega
  .have c:=bv (show ¬((k:Int)<(n:Int)) by omega);obtain rfl:k=a:=by omega
   go_wp2;go_ret;exact⟨rfl,rfl⟩
def alu(s:ByteArray)(r:s.size<=maxLen)(w:World) :
  Calls (ah β) 137 #[.string s,.int .u8 46] w λe q=>e=.returned (.string (s.extract 0 (ed (bs s) s.size)))/\w=q:=by
 unfold maxLen at r;go_enter xU,ntmps137;go_wp2
 go_loop [0] (λv=>∃(t:ByteArray) (k:Nat),v=.string t/\k<=s.size/\t=s.extract 0 k/\ed (bs s) s.size=ed (bs s) k) (λv=>match v with|.string t=>t.size|_=>0)
 case atStart=>exact⟨s,s.size,rfl,am _,by rw[ByteArray.extract_zero_size],rfl⟩
 case round=>
  obtain⟨t,k,rfl,x,c,a⟩:=hrel;have u:t.size=k:=by rw[c,vf x]
  replace c:=ab c;replace a:=ab a;rcases pa k with n|n
  .have p:=bv (show ¬(0<(t.size:Int)) by omega);go_wp2;go_ret;exact⟨by rw[a.out,c.out,n];rfl,rfl⟩
  .obtain⟨j,rfl⟩:∃j,k=j+1:=⟨k-1,by omega⟩;have p:=db (show 0<(t.size:Int) by omega);have y:((j+1:Nat):Int)-1=(j:Int):=by omega
   have f:j<t.size:=by omega
   have g:(bs s)[j]?=some (t[j]'f).toNat:=by
    rw[<-aaL f,c.out,cL,rh,sT (by omega)]
   replace g:=ab g;by_cases b:(t[j]'f).toNat=46
   .have o:(((t[j]'f).toNat:Int) ==46)=true:=mw.2 (by omega);have l:ed (bs s) s.size=ed (bs s) j:=by
     rw[a.out];show(if(bs s)[j]?=some 46 then ed (bs s) j else j+1)=_;rw[dk (by rw[g.out,b])]
    replace l:=ab l;clear b;have m:t.extract 0 j=s.extract 0 j:=by
     apply lO;rw[cL,cL,c.out,cL,rh,rh,rh,vJ]
     congr 1;omega
    have z:(t.extract 0 j).size=j:=vf (by omega);replace m:=ab m;go_wp2
    go_round
    case rel=>exact⟨_,j,rfl,by omega,m.out,l.out⟩
    case measure=>
     show(t.extract 0 j).size<t.size;omega
   .have o:(((t[j]'f).toNat:Int) ==46)=false:=fa.2 (by omega);have d:ed (bs s) (j+1)=j+1:=by
     show(if(bs s)[j]?=some 46 then ed (bs s) j else j+1)=_;rw[be (by rw[g.out];intro h;exact b (dq h))]
    replace d:=ab d;clear b;go_wp2;go_ret;have i:t=s.extract 0 (ed (bs s) s.size):=by rw[a.out,d.out];exact c.out
    exact⟨by rw[<-i];rfl,rfl⟩
def ajb(s:ByteArray)(b:s.size<=maxLen)(w:World) :
  Calls (ah β) 95 #[.string s,.string ⟨#[46]⟩] w λe c=>e=.returned (.string (s.extract 0 (ed (bs s) s.size)))/\w=c:=by
 by_cases d:s.size=0
 .have a:s=ByteArray.empty:=lO (by
   have:(bs s).length=0:=by rw[aK];exact d
   rw[rY this];rfl)
  subst a;go_enter xg,ntmps95;go_wp2;go_ret;exact⟨rfl,rfl⟩
 .have g:s.toList.isEmpty=false:=by
   rw[Bool.eq_false_iff];intro h;rw[List.isEmpty_iff,qP] at h;apply d;have:s.data=#[]:=uv.1 h;show s.data.size=0;rw[this];rfl
  have f:¬(128:Int)<=(((⟨#[46]⟩:ByteArray)[0]'Nat.zero_lt_one).toNat:Int):=by decide
  replace b:=ab b;go_enter xg,ntmps95;go_wp2_with(go_at_call 137;refine(alu s b.out w).mono ?_;rintro e c ⟨rfl,rfl⟩);go_ret;exact⟨rfl,rfl⟩
end
section
variable {β:Bool}
open Go.RowKit
def alv {P:Program} {a ty c t e:TypeId} {j:TypeInfo}  (l:P.underlying a=some (.pointer t)) (hi:P.info? t=some j) (m:j.bytes<18446744073709551616)
  (f:w.shape? b=some (e,V)) (g:liesAt P P.depth e (V / P.cellsOf e) 0 t 1=true) :
  (Builtin.unsafeSlice_ #[a,c] ty #[.pointer (some ⟨b,0,none⟩),.int .i64 1]).run P w=.ok (.slice (some ⟨b,0,none⟩) 1 1) w:=by
 have i:¬(18446744073709551616:Nat)<=j.bytes:=by omega
 unfold Builtin.unsafeSlice_;refine(qJ P (asInt (.int .i64 1)) _ w).trans ?_;have d:(asInt (.int .i64 1)).run P w=.ok 1 w:=by simp[asInt,asIntOf]
 rw[d];refine(qJ P (elemOf a) _ w).trans ?_;have k:(elemOf a).run P w=.ok t w:=by simp[elemOf,lm l]
 rw[k];simp only[Result.andThen];simp[variablesAt,f,g,typeInfo,hi,sizeOf,IntKind.max,IntKind.signed,IntKind.bits,i]
noncomputable def xCC:Func:=by
 apply(λ(x:Func) (_:{f151 with body:=some mM}=x)=>x)
 case x=>dsimp only[mM,oF,ag3,akC,gV,f151]
def anq:xCC.results=#[]:=results151
def alx:(ah β).funcs[151]?=some xCC:=acr β
@[go_sem] theorem az8(args:Array Value)(w:World):(callFunc 151 args).run (ah β) w=.ok (.enter 151 args) w:=by
 have a:=cF func151;exact kC alx a rfl args w
def auw:((ah β).info? 179).map (λi=>(i.bytes,i.size))=some (32,2):=by kernel_rfl
def auy:liesAt (ah β) (ah β).depth 179 (2 / (ah β).cellsOf 179) 0 179 1=true:=by kernel_rfl
def ajc(d:w.shape? b=some (179,2)):(Builtin.unsafeSlice_ #[177,3] 0 #[.pointer (some ⟨b,0,none⟩),.int .i64 1]).run (ah β) w=.ok (.slice (some ⟨b,0,none⟩) 1 1) w:=by
 obtain⟨j,c,a⟩:=io.1 (auw (β:=β));simp only[uO] at a;exact alv xw c (by omega) d auy
def ajd(b:Nat)(w:World)(g:w.cell? ⟨b,0,none⟩=some (.pointer none))(f:w.shape? b=some (179,2))(d:w.frozen? ⟨b,0,none⟩=false) :
  Calls (ah β) 151 #[.pointer (some ⟨b,0,none⟩)] w λe a=>e=.returned (.tuple #[])/\a=w.setCell ⟨b,0,none⟩ (.pointer (some ⟨b,0,none⟩)):=by
 have i:=ajc (β:=β) f;have c:xCC.ntmps=20:=ntmps151;go_enter alx,c;go_wp2;refine pe (results_none anq _ _ _) rfl ?_;exact⟨rfl,rfl⟩
def axV(B b:Nat)(bs:List Value)(w:World)(h:Lib.IsBuilderF 179 5 B b bs w) :
  Calls (ah β) 151 #[.pointer (some ⟨b,0,none⟩)] w λe a=>e=.returned (.tuple #[])/\(Lib.BuilderAtF 179 5 B b (.pointer (some ⟨b,0,none⟩)) bs a/\Below B w a):=by
 rcases h with h|h
 .refine(ajd b w h.cell0 h.shape h.frozen0).mono ?_;rintro e a ⟨rfl,rfl⟩;exact⟨rfl,h.used _,(gc B w).setCell (p:=⟨b,0,none⟩) h.1 _⟩
 .have j:=ajc (β:=β) h.shape;have g:xCC.ntmps=20:=ntmps151;have i:=h.cell0;have k:=h.frozen0;have c:=h.used (.pointer none);have f:=c.cell0;have d:=c.frozen0;go_enter alx,g;go_wp2;refine pe (results_none anq _ _ _) rfl ?_;refine⟨rfl,c.used _,((gc B w).setCell (p:=⟨b,0,none⟩) h.1 _).setCell (p:=⟨b,0,none⟩) h.1 _⟩
def aly(B b:Nat)(bs:List Value)(w:World)(h:Lib.IsBuilderF 179 5 B b bs w) :
  Calls (ah β) 161 #[.pointer (some ⟨b,0,none⟩)] w λe k=>e=.returned (.int .i64 bs.length)/\k=w:=by
 obtain⟨p,n,v,i,a,j⟩:∃p,Lib.BuilderAtF 179 5 B b p bs w:=by
  rcases h with h|h
  .exact⟨_,h⟩
  .exact⟨_,h⟩
 obtain⟨c,cap,rfl⟩:∃c cap,v=.slice c bs.length cap:=by
  rcases a.2 with⟨d,l⟩|⟨g,cap,f,m,d,_⟩
  .exact⟨none,0,by rw[d,l]⟩
  .exact⟨_,_,d⟩
 have o:w.cell? ⟨b,1,none⟩=some (.slice c bs.length cap):=by rw[qT i];rfl
 go_enter xN,ntmps161;go_wp2;go_ret;exact⟨rfl,rfl⟩
def auz:((ah β).info? 5).map (λi=>(i.zero,i.size,i.bytes))=some (some (.int .u8 0),1,1):=by kernel_rfl
def oV(B b:Nat)(bs:List Value)(s:ByteArray)(w:World)(h:Lib.IsBuilderF 179 5 B b bs w)(C:bs.length+s.size<=140737488355328)(J:B<=w.heap.size) :
  Calls (ah β) 125 #[.pointer (some ⟨b,0,none⟩),.string s] w λe z=>e=.returned (.tuple #[.int .i64 s.size,.nilIface])/\(Lib.BuilderAtF 179 5 B b (.pointer (some ⟨b,0,none⟩)) (bs++Lib.strCells s) z/\Below B w z):=by
 obtain⟨I,K,q,t,u⟩:=info_parts (auz (β:=β));go_enter yb,ntmps125;go_wp2_with(go_at_call 151;refine(axV B b bs _ h).mono ?_);rintro e l ⟨rfl,G,i⟩;obtain⟨D,v,j,f,o⟩:=G;have Q:l.cell? ⟨b,0,none⟩=some (.pointer (some ⟨b,0,none⟩)):=by rw[qT j];rfl
 have O:l.cell? ⟨b,1,none⟩=some v:=by rw[qT j];rfl
 go_wp2_with(at_builtin;refine Lib.wpList_append_own_stringF _ rfl _ _ 22 9 rfl B 5 I wA qU9 K q t u _ _ _ rfl f s rfl ?c3 ?c4 ?c5 ?_)
 case c3=>unfold maxLen;omega
 case c4=>omega
 case c5=>have:=i.size;omega
 intro E m a c _;have n:b<l.heap.size:=by
  rcases oR b l.heap.size with r|r
  .exact r
  .simp[pZ r] at j
 have d:m.heap[b]?=some (.cells #[.pointer (some ⟨b,0,none⟩),v] 179 (0,0)):=by
  rw[c.block b n (λe=>o e.symm)];exact j
 have P:m.cell? ⟨b,0,none⟩=some (.pointer (some ⟨b,0,none⟩)):=by rw[qT d];rfl
 have N:m.cell? ⟨b,1,none⟩=some v:=by rw[qT d];rfl
 have M:m.frozen? ⟨b,1,none⟩=false:=uM d 1;obtain⟨A,y,cap,rfl⟩:∃A y cap,E=.slice A y cap:=by
  rcases a.2 with⟨x,_⟩|⟨g,cap,H,L,x,_⟩
  .exact⟨_,_,_,x⟩
  .exact⟨_,_,_,x⟩
 go_wp2;go_ret2;refine⟨rfl, ?_, ?_⟩
 .exact Lib.BuilderAtF.put (T:=179) (e:=5) D d (bs':=bs++Lib.strCells s) (by simpa[Lib.strCells_length] using a) (by decide)
 .exact(i.grown c (by have:=i.size;omega) (λk F=>(f.lt k F).1)).setCell (p:=⟨b,1,none⟩) D _
end
section
variable {β:Bool}
open Go.RowKit
def ad0:((ah β)).follows .mixedOrders=true:=by kernel_rfl
def auA(B b n:Nat)(w:World)(q:B<=b)(d:w.heap[b]?=some (.cells #[.pointer (some ⟨b,0,none⟩),.slice none 0 0] 179 (0,0)))(i:B<=w.heap.size)(o:n<=281474976710656) :
  Calls (ah β) 152 #[.pointer (some ⟨b,0,none⟩),.int .i64 n] w λe m=>e=.returned (.tuple #[])/\(Lib.BuilderAt 179 5 B b (.pointer (some ⟨b,0,none⟩)) [] m/\Below B w m):=by
 obtain⟨cs,f,p,j⟩:=Lib.run_makeNoZero (P:=(ah β)) w.drew #[3] 22 5 wA n o;have l:IntKind.i64.wrap (IntKind.i64.wrap 0+(n:Int))=n:=by
  rw[tG,tG];omega
 have u:(callFunc 163 #[.int .i64 (IntKind.i64.wrap (IntKind.i64.wrap 0+(n:Int)))]).run (ah β) w.drew=.ok (.value (.slice (some ⟨w.drew.heap.size,0,none⟩) n cs.size)) (w.drew.drew.drew.alloc (.cells cs 5)):=by
  rw[l,run_callFunc_extern xM (by kernel_rfl) (by kernel_rfl) (by kernel_rfl) (e:=Extern.BytealgMakeNoZero.makeNoZero #[3] #[22]) (by kernel_rfl),f];rfl
 have v:w.drew.cell? ⟨b,1,none⟩=some (.slice none 0 0):=by
  have:w.drew.heap[b]?=_:=d;rw[qT this];rfl
 have s:(w.alloc (.cells cs 5)).cell? ⟨b,1,none⟩=some (.slice none 0 0):=by
  have a:b<w.heap.size:=by
   rcases oR b w.heap.size with c|c
   .exact c
   .simp[pZ c] at d
  have:(w.alloc (.cells cs 5)).heap[b]?=_:=(Lib.alloc_old w _ b a).trans d;rw[qT this];rfl
 have t:(w.alloc (.cells cs 5)).frozen? ⟨b,1,none⟩=false:=by
  have a:b<w.heap.size:=by
   rcases oR b w.heap.size with c|c
   .exact c
   .simp[pZ c] at d
  exact uM ((Lib.alloc_old w _ b a).trans d) 1
 have r:∀W:World,(Builtin.copy_ #[22,22] 3 #[.slice (some ⟨w.heap.size,0,none⟩) 0 cs.size,.slice none 0 0]).run (ah β) W=.ok (goInt 0) W:=
  λW=>run_copy_none W 22 22 3 5 _ _ 0 cs.size 0 0 wA (by kernel_rfl) rfl
 clear l;have k:=ad0 (β:=β);go_enter xR,ntmps152;go_wp2;have g:=Lib.grown_fresh (T:=179) (e:=5) (cs:=cs) q d i (j (by unfold maxLen;omega)) (by decide)
 go_region_o
 all_goals(go_wp2;go_end0;exact⟨rfl,g⟩)
def anr(B b n:Nat)(w:World)(j:B<=b)(d:w.heap[b]?=some (.cells #[.pointer none,.slice none 0 0] 179 (0,0)))(g:B<=w.heap.size)(m:n<=281474976710656) :
  Calls (ah β) 124 #[.pointer (some ⟨b,0,none⟩),.int .i64 n] w λe f=>e=.returned (.tuple #[])/\(Lib.BuilderAt 179 5 B b (.pointer (some ⟨b,0,none⟩)) [] f/\Below B w f):=by
 have a:(w.setCell ⟨b,0,none⟩ (.pointer (some ⟨b,0,none⟩))).heap[b]?=some (.cells #[.pointer (some ⟨b,0,none⟩),.slice none 0 0] 179 (0,0)):=by
  simp[World.setCell,oE,d]
 have r:(w.setCell ⟨b,0,none⟩ (.pointer (some ⟨b,0,none⟩))).cell? ⟨b,1,none⟩=some (.slice none 0 0):=by rw[qT a];rfl
 have c:Below B w (w.setCell ⟨b,0,none⟩ (.pointer (some ⟨b,0,none⟩))):=(gc B w).setCell (p:=⟨b,0,none⟩) j _;have i:=ad0 (β:=β);go_enter yc,ntmps124;have q:Lib.BuilderAt 179 5 B b (.pointer (some ⟨b,0,none⟩)) [] (w.setCell ⟨b,0,none⟩ (.pointer (some ⟨b,0,none⟩))):=⟨j,.slice none 0 0,a,uV _ _ _ _,by simp[Value.ownBlock]⟩;have l:(w.setCell ⟨b,0,none⟩ (.pointer (some ⟨b,0,none⟩))).drew.cell? ⟨b,1,none⟩=some (.slice none 0 0):=r;go_wp2_with(go_at_call 151;refine(ajd b w (by rw[qT d];rfl) (by simp[World.shape?,d]) (uM d 0)).mono ?_;rintro e f ⟨rfl,rfl⟩)
 go_region_o
 all_goals go_wp2_with(go_at_call 152;refine(auA B b n (w.setCell ⟨b,0,none⟩ (.pointer (some ⟨b,0,none⟩))).drew j a (by simpa[World.setCell,World.drew, -World.drew_eq] using g) m).mono ?_;rintro e f ⟨rfl,o,k⟩)
 all_goals first
  |(go_end0;exact⟨rfl,o,c.drew.trans k⟩)
  |(go_end0;exact⟨rfl,q.drew,c.drew⟩)
end
section
variable {β:Bool}
open Go.RowKit
def auB:Code->Code
 |.seq a b=>.seq (auB a) (auB b)
 |.region i ⟨ops⟩ d=>.region i (ops.map λo=>{o with type:=match o.op with|.call ⟨.builtin .unsafeSliceData,_,_⟩=>3|_=>o.type}).toArray d
 |.ret=>.ret
 |_=>.skip
noncomputable def xSt:Func:=by
 apply(λ(x:Func) (_:{f126 with body:=f126.body.map auB}=x)=>x)
 case x=>dsimp only[auB,f126,Option.map,List.map]
def arA:f126.body.map gP=xSt.body:=by unfold gP;kernel_rfl
def arB:(ah β).funcs[126]?=some xSt:=by
 refine(akD β (by decide) (by decide)).trans ?_;have e:Option.map pf (prog.funcs[126]?)=Option.map pf (some f126):=fi _ func126;rw[e,qf];unfold pf;rw[arA];rfl
@[go_sem] theorem az9(args:Array Value)(w:World):(callFunc 126 args).run (ah β) w=.ok (.enter 126 args) w:=by
 have a:=cF func126;exact kC arB a rfl args w
def acM(B b:Nat)(l:List UInt8)(w:World)(h:Lib.IsBuilderF 179 5 B b (Lib.byteCells l) w)(y:l≠[]) :
  Calls (ah β) 126 #[.pointer (some ⟨b,0,none⟩)] w λe u=>e=.returned (.string ⟨l.toArray⟩)/\(Lib.IsBuilderF 179 5 B b (Lib.byteCells l) u/\Below B w u):=by
 obtain⟨p,F,s⟩:∃p,(p=.pointer none\/p=.pointer (some ⟨b,0,none⟩))/\Lib.BuilderAtF 179 5 B b p (Lib.byteCells l) w:=by
  rcases h with h|h
  .exact⟨_,.inl rfl,h⟩
  .exact⟨_,.inr rfl,h⟩
 obtain⟨O,v,t,c,f⟩:=s;have i:l.length≠0:=by simpa using y
 rw[rI] at c;obtain⟨g,cap,a,d,rfl,o,A,P,H,k,J,Q⟩:∃g cap a d,v=.slice (some ⟨g,0,none⟩) l.length cap/\B<=g/\w.heap[g]?=some (.cells a 5 d)/\d.2<=l.length*1/\l.length<=cap/\cap<=maxLen/\a.size=cap*1/\a.toList.take (l.length*1)=Lib.byteCells l:=by
  rcases c.2 with⟨_,G⟩|⟨g,cap,a,d,M,r⟩
  .exact absurd G i
  .exact⟨g,cap,a,d,M,r⟩
 have D:w.drew.cell? ⟨b,1,none⟩=some (.slice (some ⟨g,0,none⟩) l.length cap):=by
  have:w.drew.heap[b]?=some (.cells #[p,.slice (some ⟨g,0,none⟩) l.length cap] 179 (0,0)):=t;rw[qT this];rfl
 have E:(Builtin.unsafeSliceData_ #[22] 3 #[.slice (some ⟨g,0,none⟩) l.length cap]).run (ah β) w.drew=.ok (.pointer (some ⟨g,0,none⟩)) w.drew:=
  Lib.run_unsafeSliceData_row _ _ _ _ _ _ (by omega)
 have z:(Builtin.unsafeString_ #[209,3] 9 #[.pointer (some ⟨g,0,none⟩),.int .i64 l.length]).run (ah β) w.drew=.ok (.string ⟨l.toArray⟩) (w.drew.freeze ⟨g,0,none⟩ l.length):=by
  refine Lib.run_unsafeString_row w.drew 209 3 9 5 xu (by kernel_rfl) g a.size (by have N:w.drew.heap[g]?=some (.cells a 5 d):=A;simp[World.shape?,N]) l y (by omega) (by unfold maxLen at k;omega) ?_;intro j x K;have:=c.cells (g:=g) rfl j (.int .u8 x.toNat) (by simp[Lib.byteCells,K]);exact this
 have q:Lib.IsBuilderF 179 5 B b (Lib.byteCells l) (w.drew.freeze ⟨g,0,none⟩ l.length):=by
  have C:Lib.BuilderAtF 179 5 B b p (Lib.byteCells l) w.drew:=⟨O,_,t,by rw[rI];exact c,f⟩;have n:=C.froze (g:=g) (cap:=cap) (by rw[rI];exact D);rw[rI] at n;rcases F with rfl|rfl
  .exact .inl n
  .exact .inr n
 have m:=ad0 (β:=β);have L:xSt.ntmps=14:=ntmps126;have I:xSt.results=#[.tmp 2]:=results126;go_enter arB,L;go_wp2
 go_region_o
 all_goals(go_wp2;refine pe (results_tmp I _ _ _) rfl ?_;exact⟨rfl,q,Lib.below_freeze (Below.drew (gc B w)) (p:=⟨g,0,none⟩) o _⟩)
end
section
variable {β:Bool}
open Go.RowKit
def auC(n:Nat)(c:n<=8)(w:World):Calls (ah β) 171 #[.int .u64 1,.int .u64 n] w λe a=>e=.returned (.tuple #[.int .u64 0,.int .u64 n])/\w=a:=by
 have b:n=0\/n=1\/n=2\/n=3\/n=4\/n=5\/n=6\/n=7\/n=8:=by omega
 clear c;rcases b with rfl|rfl|rfl|rfl|rfl|rfl|rfl|rfl|rfl
 all_goals
  go_enter xJ,ntmps171;go_wp2;go_ret2;exact⟨rfl,rfl⟩
def aAa(n:Nat)(b:n<=8)(w:World):Calls (ah β) 160 #[.int .u64 1,.int .u64 n] w λe a=>e=.returned (.tuple #[.int .u64 0,.int .u64 n])/\w=a:=by
 go_enter xO,ntmps160;go_wp2;refine(auC n b w).mono ?_;rintro e c ⟨rfl,rfl⟩;go_wp2;go_ret2;exact⟨rfl,rfl⟩
def alz(b:Nat)(w:World):Nat:=match w.cell? ⟨b,1,none⟩ with|some (.slice _ l _)=>l|_=>0
def age{T e:TypeId}{l:List UInt8}(h:Lib.IsBuilderF T e B b (Lib.byteCells l) w):alz b w=l.length:=by
 replace h:∃p,Lib.BuilderAtF T e B b p (Lib.byteCells l) w:=by
  rcases h with h|h
  .exact⟨_,h⟩
  .exact⟨_,h⟩
 obtain⟨p,h⟩:=h;obtain⟨n,v,f,a,i⟩:=h;have k:w.cell? ⟨b,1,none⟩=some v:=by rw[qT f];rfl
 unfold alz;rw[k];rw[rI] at a;rcases a.2 with⟨c,j⟩|⟨g,cap,d,m,c,_⟩
 .rw[c,j]
 .rw[c]
def jZ(q:Nat):List UInt8:=List.replicate q 46
def arC(n:Nat)(R:n=2\/n=3)(w:World):Calls (ah β) 141 #[.string ⟨#[46]⟩,.int .i64 n] w λe G=>e=.returned (.string ⟨(jZ n).toArray⟩)/\Below w.heap.size w G:=by
 have B:((n:Int) ==0)=false:=fa.2 (by omega);have z:((n:Int) ==1)=false:=fa.2 (by omega);go_enter wD,ntmps141;go_wp2;refine(aAa n (by omega) w).mono ?_;rintro e P ⟨rfl,rfl⟩;go_wp2;generalize p:w.alloc (.cells #[.pointer none,.slice none 0 0] 179)=w0;have y:w0.heap[w.heap.size]?=some (.cells #[.pointer none,.slice none 0 0] 179 (0,0)):=by
  rw[<-p];show(w.heap.push _)[w.heap.size]?=_;rw[qO]
 have m:Below w.heap.size w w0:=by rw[<-p];exact(gc _ w).alloc (am _) _
 refine(anr w.heap.size w.heap.size n w0 (am _) y m.size (by omega)).mono ?_;rintro e N ⟨rfl,a,d⟩;replace d:=m.trans d;clear m y p;go_wp2;refine(oV w.heap.size w.heap.size [] ⟨#[46]⟩ N (.inr (.of a)) (by decide) d.size).mono ?_;rintro e Q ⟨rfl,l,k⟩;replace k:=d.trans k;clear d a;have C:([]:List Value)++Lib.strCells ⟨#[46]⟩=Lib.byteCells (jZ 1):=rfl;rw[C] at l;clear C;go_wp2;go_loopw [10] (λ_ wr=>∃q:Nat,1<=q/\q<=n/\Lib.IsBuilderF 179 5 w.heap.size w.heap.size (Lib.byteCells (jZ q)) wr/\Below w.heap.size w wr) (λ_ wr=>n-alz w.heap.size wr)
 case atStart=>exact⟨1,am _,by omega,.inr l,k⟩
 case round=>
  clear l k;obtain⟨q,F,M,a,i⟩:=hrel;have s:=age a;have b:(Lib.byteCells (jZ q)).length=q:=by rw[rI];exact qo ..
  have f:(jZ q).length=q:=qo ..;have g:jZ q≠[]:=by intro h;rw[h] at f;simp at f;omega
  go_wp2;refine(aly w.heap.size w.heap.size (Lib.byteCells (jZ q)) wr a).mono ?_;rintro e A ⟨rfl,rfl⟩;rw[b];by_cases E:q<n
  .have t:=db (show(q:Int)<(n:Int) by omega);go_wp2;refine(aly w.heap.size w.heap.size (Lib.byteCells (jZ q)) A a).mono ?_;rintro e D ⟨rfl,rfl⟩;rw[b];go_wp2;refine(aly w.heap.size w.heap.size (Lib.byteCells (jZ q)) D a).mono ?_;rintro e H ⟨rfl,rfl⟩;rw[b];have c:(n=2/\q=1)\/(n=3/\q=1)\/(n=3/\q=2):=by omega
   have x:∀W:World,(Builtin.min_ #[3,3,3] 3 #[.int .i64 ((n:Int)-(q:Int)),.int .i64 q,.int .i64 n]).run (ah β) W=.ok (.int .i64 1) W:=λW=>by
    clear a i b f g s t B z;rcases c with⟨rfl,rfl⟩|⟨rfl,rfl⟩|⟨rfl,rfl⟩<;>simp[Builtin.min_,Builtin.min2]
   have S:(⟨(jZ q).toArray⟩:ByteArray).extract 0 1=⟨#[46]⟩:=by
    clear x a i b f g s t B z;rcases c with⟨rfl,rfl⟩|⟨rfl,rfl⟩|⟨rfl,rfl⟩<;>rfl
   have K:(⟨(jZ q).toArray⟩:ByteArray).size=q:=by show(jZ q).toArray.size=q;rw[uf];exact f
   replace c:=ab c;go_wp2;refine(acM w.heap.size w.heap.size (jZ q) H a g).mono ?_;rintro e I ⟨rfl,u,j⟩;replace j:=i.trans j;go_wp2;refine(oV w.heap.size w.heap.size (Lib.byteCells (jZ q)) ⟨#[46]⟩ I u (by rw[b];have:=c.out;show q+1<=_;omega) j.size).mono ?_;rintro e T ⟨rfl,r,o⟩;replace o:=j.trans o;have L:Lib.byteCells (jZ q)++Lib.strCells ⟨#[46]⟩=Lib.byteCells (jZ (q+1)):=by
    have:jZ (q+1)=jZ q++[46]:=vR;rw[this];simp[Lib.byteCells,Lib.strCells]
   rw[L] at r;have J:=age (.inr r);have O:(jZ (q+1)).length=q+1:=qo ..;go_wp2;go_roundw
   case rel=>exact⟨q+1,by omega,by omega,.inr r,o⟩
   omega
  .obtain rfl:q=n:=by omega
   have t:=bv (show ¬((q:Int)<(q:Int)) by omega);go_wp2;refine(acM w.heap.size w.heap.size (jZ q) A a g).mono ?_;rintro e D ⟨rfl, -,v⟩;go_wp2;go_ret;exact⟨rfl,i.trans v⟩
end
section
variable {β:Bool}
open Go.RowKit
def alB(n:Nat)(d:n<=3)(w:World):Calls (ah β) 141 #[.string ⟨#[46]⟩,.int .i64 n] w λe c=>e=.returned (.string ⟨(jZ n).toArray⟩)/\Below w.heap.size w c:=by
 by_cases b:n=0
 .subst b;go_enter wD,ntmps141;go_wp2;go_ret;exact⟨rfl,gc _ _⟩
 .by_cases a:n=1
  .subst a;go_enter wD,ntmps141;go_wp2;go_ret;exact⟨rfl,gc _ _⟩
  .exact arC n (by omega) w
def auD(n:Nat):bs ⟨(jZ n).toArray⟩=List.replicate n 46:=by
 unfold bs jZ;simp[List.map_replicate]
def auE(s:ByteArray)(a:bg (bs s))(w:World) :
  Calls (ah β) 97 #[.string s] w λe g=>∃t:ByteArray,e=.returned (.string t)/\bs t=fN (bs s)/\Below w.heap.size w g:=by
 have c:1<=s.size/\s.size<=8:=by have:=a.1;rw[aK] at this;exact this
 have b:s.size<=maxLen:=by unfold maxLen;omega
 have i:s.size<=cg s.size/\cg s.size-s.size<=3:=by
  unfold cg;split<;>(try split)<;>(try split)<;>omega
 replace a:=ab a;replace b:=ab b;go_enter yp,ntmps97;go_wp2;refine(pR s b.out w true (by simp only[tQ];exact a.out)).mono ?_;rintro e d ⟨rfl,rfl⟩;go_wp2;refine(ao7 s.size c w).mono ?_;rintro e d ⟨rfl,rfl⟩;have f:((cg s.size:Nat):Int)-(s.size:Int)=((cg s.size-s.size:Nat):Int):=by omega
 go_wp2;try rw[f]
 refine(alB (cg s.size-s.size) i.2 w).mono ?_;rintro e d ⟨rfl,j⟩;have hd:(jZ (cg s.size-s.size)).length=cg s.size-s.size:=qo ..;go_wp2;go_ret;refine⟨_,rfl, ?_,j⟩;rw[gW,auD];unfold fN;rw[aK]
def afD(s:ByteArray):ByteArray:=s.extract 0 (ed (bs s) s.size)
def ahG(s:ByteArray):bs (afD s)=uX (bs s):=by
 unfold afD uX;rw[cL,rh,aK]
open Classical in
noncomputable def eP(s:ByteArray):ByteArray×Bool:=if bg (bs (afD s))/\fN (bs (afD s))=bs s then(afD s,true) else(⟨#[]⟩,false)
def ao8(s:ByteArray)(k:s.size<=maxLen)(w:World) :
  Calls (ah β) 58 #[.string s] w λe o=>e=.returned (.tuple #[.string (eP s).1,.bool (eP s).2])/\Below w.heap.size w o:=by
 have a:(afD s).size<=maxLen:=by
  unfold afD;rw[vf (acy _ _)];exact bd (acy _ _) k
 replace k:=ab k;replace a:=ab a;have g:s.extract 0 (ed (bs s) s.size)=afD s:=rfl;replace g:=ab g;go_enter yI,ntmps58;go_wp2;refine(ajb s k.out w).mono ?_;rintro e l ⟨rfl,rfl⟩;rw[g.out];obtain⟨p,d⟩:∃p,p=afD s:=⟨_,rfl⟩;have b:eP s=eP s:=rfl;by_cases c:bg (bs (afD s))
 .replace c:=ab c;rw[<-d] at a c ⊢;replace d:=ab d;clear b;go_wp2;refine(pR p a.out w true (by simp only[tQ];exact c.out)).mono ?_;rintro e l ⟨rfl,rfl⟩;go_wp2;refine(auE p c.out w).mono ?_;rintro e l ⟨t,rfl,j,n⟩;by_cases f:t=s
  .subst f;replace j:=ab j;go_wp2;go_ret2;have i:eP t=(p,true):=by
    unfold eP;rw[<-d.out,dk ⟨c.out,j.out.symm⟩]
   rw[i];exact⟨rfl,n⟩
  .have q:=ag9 f;have i:eP s=(⟨#[]⟩,false):=by
    unfold eP;rw[<-d.out,be λh=>f (lO (j.trans h.2))]
   have m:=ab i;clear i j;go_wp2;go_ret2;rw[m.out];exact⟨rfl,n⟩
 .have i:eP s=(⟨#[]⟩,false):=by
   unfold eP;rw[be λh=>c h.1]
  have m:=ab i;clear i;replace c:=ab c;rw[<-d] at a c ⊢;clear d b;go_wp2;refine(pR p a.out w false (by simp only[kw,false_iff];exact c.out)).mono ?_;rintro e l ⟨rfl,rfl⟩;go_wp2;go_ret2;rw[m.out];exact⟨rfl,gc _ _⟩
end
section
variable {β:Bool}
open Go.RowKit
open Classical in
noncomputable def eZ(key:Int)(x:Int×ByteArray):ByteArray×Bool:=if(eP x.2).2=true/\bG key (bs (eP x.2).1)=x.1 then((eP x.2).1,true) else(⟨#[]⟩,false)
def agf{s:ByteArray}(h:(eP s).2=true):bg (bs (eP s).1):=by
 unfold eP at h ⊢;split
 .rename_i a;exact a.1
 .rename_i a;rw[be a] at h;cases h
def ans(key:Int)(x:Int×ByteArray)(u:1<=key/\key<=99)(i:x.2.size<=maxLen)(w:World) :
  Calls (ah β) 38 #[.agg #[.int .i64 x.1,.string x.2],.int .i64 key] w λe r=>e=.returned (.tuple #[.string (eZ key x).1,.bool (eZ key x).2])/\Below w.heap.size w r:=by
 obtain⟨n,s⟩:=x;dsimp only at i ⊢;replace i:=ab i;go_enter yX,ntmps38;go_wp2;generalize l:w.alloc (.cells #[.int .i64 n,.string s] 49)=w0 at *;obtain⟨y,z,j,v,o⟩:=iN l;clear l;refine(ao8 s i.out w0).mono ?_;rintro e m ⟨rfl,d⟩;replace j:=av j d;replace v:=j.cell;replace o:=j.frozen;replace d:=ae y d;cases b:eP s with
 |mk p q=>
  cases q with
  |false=>
   have f:eZ key (n,s)=(⟨#[]⟩,false):=by
    unfold eZ;rw[be];intro h;have:=h.1;rw[show(eP (n,s).2).2=false by rw[show eP (n,s).2=_ from b]] at this;cases this
   have HC:=ab f;clear f;replace b:=ab b;go_wp2;go_ret2;rw[HC.out];exact⟨rfl,d⟩
  |true=>
   have k:bg (bs p):=by
    have:=agf (s:=s) (by rw[b]);rw[b] at this;exact this
   have f:eZ key (n,s)=if bG key (bs p)=n then(p,true) else(⟨#[]⟩,false):=by
    unfold eZ;rw[show eP (n,s).2=(p,true) from b];by_cases h:bG key (bs p)=n
    .rw[dk ⟨rfl,h⟩,dk h]
    .rw[be λt=>h t.2,be h]
   have HC:=ab f;clear f;replace b:=ab b;replace k:=ab k;go_wp2;refine(arz key p n u k.out m).mono ?_;rintro e A ⟨rfl,rfl⟩;by_cases h:bG key (bs p)=n
   .have a:=HC.out;rw[dk h] at a;have c:=ab a;clear a HC;have g:decide (bG key (bs p)=n)=true:=db h;rw[g];clear h g;go_wp2;go_ret2;rw[c.out];exact⟨rfl,d⟩
   .have a:=HC.out;rw[be h] at a;have c:=ab a;clear a HC;have g:decide (bG key (bs p)=n)=false:=bv h;rw[g];clear h g;go_wp2;go_ret2;rw[c.out];exact⟨rfl,d⟩
end
section
def opJ(J:Nat->Bool):Operand->Bool
 |.tmp t=>!J t
 |_=>true
def jw:Op->Bool
 |.move _|.assign _|.load .. | .binOp .. | .unOp .. | .alloc _|.store .. | .fieldAddr .. | .indexAddr .. | .buildSlice .. =>true
 |.call c=>match c.callee with
  |.builtin .len|.builtin .append=>true
  |_=>false
 |_=>false
def ant(J:Nat->Bool)(o:Oper):Bool:=o.guard.isNone&&(jw o.op&&o.op.operands.toList.all (opJ J))
def jR(J:Nat->Bool):Code->Bool
 |.skip|.ret|.exit _=>true
 |.region _ d draw=>!draw&&d.toList.all (ant J)
 |.seq a b=>jR J a&&jR J b
 |.cond c a b=>opJ J c&&(jR J a&&jR J b)
 |.block _ a|.loop a=>jR J a
 |_=>false
def lF(J:Nat->Bool):Item->Bool
 |.code c|.inLoop c=>jR J c
 |.inBlock _=>true
 |.inRegion a _=>a.toList.all (ant J)
 |_=>false
structure JR (J:Nat->Bool) (fr cB:Frame):Prop where
 fn:cB.fn=fr.fn
 todo:cB.todo=fr.todo
 defers:fr.defers=[]/\cB.defers=[]
 mode:cB.mode=fr.mode
 kind:fr.kind=.normal/\cB.kind=.normal
 round:fr.roundOf=none/\cB.roundOf=none
 size:cB.tmps.size=fr.tmps.size
 agree:∀i,J i=false->cB.tmps[i]?=fr.tmps[i]?
 items:fr.todo.all (lF J)=true
section
variable {P:Program} {J:Nat->Bool} {fr cB:Frame}
def JR.eval(h:JR J fr cB){x:Operand}(a:opJ J x=true):cB.eval x=fr.eval x:=by
 cases x with
 |tmp t=>
  have:=h.agree t (by simpa[opJ] using a);show cB.tmps.getD t undef=fr.tmps.getD t undef;rw[ga,ga,this]
 |_=>rfl
def alC{e' : Operand->Value}{o:Oper}(j:jw o.op=true)(h:∀x∈o.op.operands.toList,e x=e' x):execOp e o=execOp e' o:=by
 obtain⟨dst,op,m,q,after,l⟩:=o;dsimp only at j h;have parts:∀(g:Array (Nat×Operand)),(∀x∈(g.toList.map (·.2)),e x=e' x)->(g.map λ(i,x)=>(i,e x))=g.map λ(i,x)=>(i,e' x):=λg p=>by
  apply vW;rintro⟨i,x⟩ k;have:=p x (mT.2 ⟨(i,x),by simpa using k,rfl⟩);simp only[this]
 cases op with
 |move x=>simp only[execOp];rw[h x (by simp[Op.operands])]
 |assign x=>simp only[execOp];rw[h x (by simp[Op.operands])]
 |load t a=>simp only[execOp];rw[h a (by simp[Op.operands])]
 |unOp op t x=>simp only[execOp];rw[h x (by simp[Op.operands])]
 |alloc t=>rfl
 |fieldAddr t x f=>simp only[execOp];rw[h x (by simp[Op.operands])]
 |store t a x=>simp only[execOp];rw[h a (by simp[Op.operands]),h x (by simp[Op.operands])]
 |binOp op t x y u=>simp only[execOp];rw[h x (by simp[Op.operands]),h y (by simp[Op.operands])]
 |indexAddr t x i=>simp only[execOp];rw[h x (by simp[Op.operands]),h i (by simp[Op.operands])]
 |buildSlice t n g=>simp only[execOp];rw[parts g (by simpa[Op.operands] using h)]
 |call c=>
  obtain⟨d,args,s⟩:=c;cases d with
  |builtin b=>
   have r:args.map e=args.map e':=vW λx k=>h x (by simp[Op.operands,Call.operands];exact k);simp only[execOp,resolve,r]
  |_=>simp[jw] at j
 |_=>simp[jw] at j
def fH{s:Sem Value}(h:(s.bind λa=>Sem.pure (Next.value a)).run P w=.ok U W):∃v,U=.value v:=by
 have e:=qJ P s (λa=>Sem.pure (Next.value a)) w;rw[e] at h;cases b:s.run P w with
 |ok a c=>rw[b] at h;simp only[Result.andThen,Sem.run,sA] at h;exact⟨a,h.1.symm⟩
 |halt q c=>rw[b] at h;simp only[Result.andThen] at h;cases h
def ao9{s:Sem Unit}(h:(s.bind λ_=>Sem.pure Next.skip).run P w=.ok U W):U=.skip:=by
 have e:=qJ P s (λ_=>Sem.pure Next.skip) w;rw[e] at h;cases b:s.run P w with
 |ok a c=>rw[b] at h;simp only[Result.andThen,Sem.run,sA] at h;exact h.1.symm
 |halt q c=>rw[b] at h;simp only[Result.andThen] at h;cases h
def aje{o:Oper}(g:jw o.op=true)(h:(execOp e o).run P w=.ok U W):(∃v,U=.value v)\/U=.skip:=by
 obtain⟨dst,op,k,l,after,j⟩:=o;dsimp only at g;cases op with
 |move x=>simp only[execOp] at h;cases h;exact .inl ⟨_,rfl⟩
 |assign x=>simp only[execOp] at h;cases h;exact .inl ⟨_,rfl⟩
 |load t a=>exact .inl (fH h)
 |unOp op t x=>exact .inl (fH h)
 |alloc t=>exact .inl (fH h)
 |fieldAddr t x f=>exact .inl (fH h)
 |store t a x=>exact .inr (ao9 h)
 |binOp op t x y q=>exact .inl (fH h)
 |indexAddr t x i=>exact .inl (fH h)
 |buildSlice t n m=>exact .inl (fH h)
 |call c=>
  obtain⟨d,args,p⟩:=c;cases d with
  |builtin b=>cases b<;>first|exact .inl (fH h)|simp[jw] at g
  |_=>simp[jw] at g
 |_=>simp[jw] at g
def JR.set(h:JR J fr cB)(d:Nat)(v:Value):(cB.tmps.setIfInBounds d v).size=(fr.tmps.setIfInBounds d v).size/\∀i,J i=false->(cB.tmps.setIfInBounds d v)[i]?=(fr.tmps.setIfInBounds d v)[i]?:=by
 refine⟨by simpa using h.size,λi a=> ?_⟩;rw[qd,qd,h.size];split
 .rfl
 .exact h.agree i a
def aaX:∀{k l:List Item} {id:Nat},exitTo id k=some l->k.all (lF J)=true->l.all (lF J)=true
 |[],_,_,h,_=>by cases h
 |x::k,l,id,h,hk=>by
  simp only[qr,fd] at hk;unfold exitTo at h;split at h
  .rename_i a b e;cases e;split at h
   .cases h;exact hk.2
   .exact aaX h hk.2
  .rename_i e;cases e;exact aaX h hk.2
  .rename_i e;cases e
def alD{fr:Frame}{cs:List Frame}(h:early P fr cs none g w=.go T W es) :
  T.frame.kind=.early\/(T=⟨fr,cs,.running,none,none⟩/\∀(cB:Frame) (a:List Frame),cB.kind=fr.kind->early P cB a none g w=.go ⟨cB,a,.running,none,none⟩ W es):=by
 have d:∀{w W:World} {T:Goroutine} {es:Array Event},(match w.heap[g]? with
   |some (.pending c b)=>GStep.go ⟨fr,cs,.running,none,none⟩ {w with heap:=w.heap.setIfInBounds g (.cells c b)}
   |_=>.ended (.stuck "early: the variable does not wait" (fr.pos P)) w)=.go T W es->T=⟨fr,cs,.running,none,none⟩/\∀(cB:Frame) (a:List Frame),(match w.heap[g]? with
   |some (.pending c b)=>GStep.go ⟨cB,a,.running,none,none⟩ {w with heap:=w.heap.setIfInBounds g (.cells c b)}
   |_=>.ended (.stuck "early: the variable does not wait" (cB.pos P)) w)=.go ⟨cB,a,.running,none,none⟩ W es:=λ{w W T es} h=>by
  split at h
  .rename_i c b e;injection h with k j o
   subst k j o;exact⟨rfl,λcB a=>rfl⟩
  .cases h
 unfold early at h ⊢;dsimp only at h ⊢;by_cases k:(!P.follows .staticDataAhead)=true
 .simp only[k,pb] at h ⊢;exact .inr ⟨(d h).1,λcB a _=>(d h).2 cB a⟩
 .simp only[k,qA,kw] at h ⊢;cases j:P.stepOf g with
  |none=>simp only[j] at h;cases h
  |some f=>
   simp only[j] at h ⊢;by_cases o:((P.code? f).any P.atRunTime)=true
   .simp only[o,pb] at h ⊢;exact .inr ⟨(d h).1,λcB a _=>(d h).2 cB a⟩
   .simp only[o,qA,kw] at h ⊢;by_cases s:(((P.code? f).bind λc=>(readies c).getLast?).bind w.shape?).isSome=true
    .simp only[s,pb] at h ⊢;exact .inr ⟨(d h).1,λcB a _=>(d h).2 cB a⟩
    .simp only[s,qA,kw] at h ⊢;have r:∀cB:Frame,cB.kind=fr.kind->(cB.kind ==CallKind.early)=(fr.kind ==CallKind.early):=λcB e=>by rw[e]
     cases u:P.found w P.funcs.size f<;>cases p:(fr.kind ==CallKind.early)<;>simp only[u,p] at h
     .cases h
     .cases h
     .exact .inr ⟨(d h).1,λcB a e=>by rw[r cB e,p];exact(d h).2 cB a⟩
     .cases h
     .by_cases l:((P.code? f).any P.plainData)=true
      .simp only[l,pb] at h;injection h with i;subst i;exact .inl rfl
      .simp only[l,qA,kw] at h;by_cases m:(!(P.code? f).any P.bareCopy)=true
       .simp only[m,pb] at h;exact .inr ⟨(d h).1,λcB a e=>by rw[r cB e,p];simp only[l,m,qA,pb,kw];exact(d h).2 cB a⟩
       .simp only[m,qA,kw] at h;cases t:(choose (.early g)).run P w with
        |ok n v=>
         rw[t] at h;cases n with
         |zero=>exact .inr ⟨(d h).1,λcB a e=>by rw[r cB e,p];simp only[l,m,qA,kw];exact(d h).2 cB a⟩
         |succ n=>injection h with i;subst i;exact .inl rfl
        |halt q v=>rw[t] at h;cases h
     .injection h with i;subst i;exact .inl rfl
theorem arD (h:JR J fr cB) (hm:fr.mode=.run) {cs X:List Frame} {main:Bool} {w w1:World} {es:Array Event} {B:Frame}
  (D:stepG P main ⟨fr,cs,.running,none,none⟩ w=.go ⟨B,X,.running,none,none⟩ w1 es) (K:B.mode=.run\/B.mode=.returning) (af:B.kind=.normal) :
  X=cs/\B.fn=fr.fn/\∃I,JR J B I/\∀C,stepG P main ⟨cB,C,.running,none,none⟩ w=.go ⟨I,C,.running,none,none⟩ w1 es:=by
 have h0:=h;obtain⟨fn,n,an,ds,md,kd,ro⟩:=fr;obtain⟨p,F,fe,ax,ao,aJ,ay⟩:=cB;obtain⟨E,e2,⟨e3,e4⟩,e5,⟨e6,e7⟩,⟨e8,e9⟩,hz,ha,hi⟩:=h;dsimp only at E e2 e3 e4 e5 e6 e7 e8 e9 hz ha hi hm;subst E e2 e3 e4 e5 e6 e7 e8 e9 hm;have G:∀{k:List Item},k.all (lF J)=true->JR J ⟨p,n,k,[],.run,.normal,none⟩ ⟨p,F,k,[],.run,.normal,none⟩:=λ{k} hk=>⟨rfl,rfl,⟨rfl,rfl⟩,rfl,⟨rfl,rfl⟩,⟨rfl,rfl⟩,hz,ha,hk⟩
 have ret:JR J ⟨p,n,fe,[],.returning,.normal,none⟩ ⟨p,F,fe,[],.returning,.normal,none⟩:=⟨rfl,rfl,⟨rfl,rfl⟩,rfl,⟨rfl,rfl⟩,⟨rfl,rfl⟩,hz,ha,hi⟩;have fin:∀{t:Array Value} {t':Array Value} {k:List Item},t'.size=t.size->(∀i,J i=false->t'[i]?=t[i]?)->k.all (lF J)=true->JR J ⟨p,t,k,[],.run,.normal,none⟩ ⟨p,t',k,[],.run,.normal,none⟩:=λa b hk=>⟨rfl,rfl,⟨rfl,rfl⟩,rfl,⟨rfl,rfl⟩,⟨rfl,rfl⟩,a,b,hk⟩;have still:∀{x x':Frame},stepG P main ⟨⟨p,n,fe,[],.run,.normal,none⟩,cs,.running,none,none⟩ w=.go ⟨x,cs,.running,none,none⟩ w->
   (∀C,stepG P main ⟨⟨p,F,fe,[],.run,.normal,none⟩,C,.running,none,none⟩ w=.go ⟨x',C,.running,none,none⟩ w)->JR J x x'->(S:x.fn=p:=by rfl)->
   X=cs/\B.fn=p/\∃I,JR J B I/\∀C,stepG P main ⟨⟨p,F,fe,[],.run,.normal,none⟩,C,.running,none,none⟩ w=.go ⟨I,C,.running,none,none⟩ w1 es:=λ{x x'} a b c S=>by
  rw[a] at D;injection D with V T g3
  injection V with Q Z
  subst T g3 Q Z;exact⟨rfl,S,x',c,b⟩
 cases fe with
 |nil=>exact still rfl (λ_=>rfl) ret
 |cons it k=>
  simp only[qr,fd] at hi;obtain⟨A,H⟩:=hi;cases it with
  |inBlock id=>exact still rfl (λ_=>rfl) (G H)
  |inLoop c=>exact still rfl (λ_=>rfl) (G (by simp only[qr,fd];exact⟨A,A,H⟩))
  |code c=>
   cases c with
   |skip=>exact still rfl (λ_=>rfl) (G H)
   |ret=>exact still rfl (λ_=>rfl) ret
   |seq a b=>
    simp only[lF,jR,fd] at A;exact still rfl (λ_=>rfl) (G (by simp only[qr,fd];exact⟨A.1,A.2,H⟩))
   |block id a=>exact still rfl (λ_=>rfl) (G (by simp only[qr,fd];exact⟨A,rfl,H⟩))
   |loop a=>exact still rfl (λ_=>rfl) (G (by simp only[qr,fd];exact⟨A,A,H⟩))
   |region id j draw=>
    simp only[lF,jR,fd,uh] at A;obtain⟨rfl,Y⟩:=A;exact still rfl (λ_=>rfl) (G (by simp only[qr,fd];exact⟨Y,H⟩))
   |exit id=>
    cases s:exitTo id k with
    |none=>exact absurd D (by
      have:stepG P main ⟨⟨p,n,.code (.exit id)::k,[],.run,.normal,none⟩,cs,.running,none,none⟩ w=.ended (.stuck "exit, goto: no such block or label" (Frame.pos P ⟨p,n,.code (.exit id)::k,[],.run,.normal,none⟩)) w:=by
       simp[stepG,stepG.exec,s]
      rw[this];intro e;cases e)
    |some l=>
     have E:∀(t:Array Value) (c:List Frame),stepG P main ⟨⟨p,t,.code (.exit id)::k,[],.run,.normal,none⟩,c,.running,none,none⟩ w=.go ⟨⟨p,t,l,[],.run,.normal,none⟩,c,.running,none,none⟩ w:=λt c=>by
      simp[stepG,stepG.exec,s]
     exact still (E _ _) (λ_=>E _ _) (G (aaX s H))
   |cond c a b=>
    simp only[lF,jR,fd] at A;have S:=h0.eval A.1;cases hv:Frame.eval ⟨p,n,.code (.cond c a b)::k,[],.run,.normal,none⟩ c with
    |bool q=>
     rw[hv] at S;have E:∀(t:Array Value) (cc:List Frame),Frame.eval ⟨p,t,.code (.cond c a b)::k,[],.run,.normal,none⟩ c=.bool q->stepG P main ⟨⟨p,t,.code (.cond c a b)::k,[],.run,.normal,none⟩,cc,.running,none,none⟩ w=.go ⟨⟨p,t,.code (if q then a else b)::k,[],.run,.normal,none⟩,cc,.running,none,none⟩ w:=λt cc ht=>by
      simp[stepG,stepG.exec,ht]
     exact still (E _ _ hv) (λ_=>E _ _ S) (G (by simp only[qr,fd];cases q<;>first|exact⟨A.2.1,H⟩|exact⟨A.2.2,H⟩))
    |_=>
     exfalso;have:∃o,stepG P main ⟨⟨p,n,.code (.cond c a b)::k,[],.run,.normal,none⟩,cs,.running,none,none⟩ w=.ended o w:=by
      simp[stepG,stepG.exec,hv]
     obtain⟨o,e⟩:=this;rw[e] at D;cases D
   |_=>cases A
  |inRegion j il=>
   cases il with
   |nil=>exact still rfl (λ_=>rfl) (G H)
   |cons i f=>
    have W:∀l,(Item.inRegion j l::k).all (lF J)=true:=λl=>by simp only[qr,fd];exact⟨A,H⟩
    cases ho:j[i]? with
    |none=>
     have E:∀(t:Array Value) (c:List Frame),stepG P main ⟨⟨p,t,.inRegion j (i::f)::k,[],.run,.normal,none⟩,c,.running,none,none⟩ w=.go ⟨⟨p,t,.inRegion j f::k,[],.run,.normal,none⟩,c,.running,none,none⟩ w:=λt c=>by
      simp[stepG,stepG.exec,ho,Frame.finish]
     exact still (E _ _) (λ_=>E _ _) (G (W _))
    |some o=>
     have a0:ant J o=true:=jt.1 A o (rS.2 (qw ho));simp only[ant,fd] at a0;obtain⟨hg,a5,Y⟩:=a0;have lv:o.guard=none:=by simpa using hg
     have hw:∀y,Region.wanted o y=true:=λy=>by unfold Region.wanted;rw[lv]
     have a8:execOp (Frame.eval ⟨p,F,.inRegion j (i::f)::k,[],.run,.normal,none⟩) o=execOp (Frame.eval ⟨p,n,.inRegion j (i::f)::k,[],.run,.normal,none⟩) o:=
      alC a5 λx s=>h0.eval (jt.1 Y x s)
     have E:∀(t:Array Value) (c:List Frame),stepG P main ⟨⟨p,t,.inRegion j (i::f)::k,[],.run,.normal,none⟩,c,.running,none,none⟩ w =
       stepG.apply P true ⟨p,t,.inRegion j (i::f)::k,[],.run,.normal,none⟩ c none (execOp (Frame.eval ⟨p,t,.inRegion j (i::f)::k,[],.run,.normal,none⟩) o) w:=λt c=>by
      simp[stepG,stepG.exec,stepG.oper,Frame.oper?,ho,hw]
     rw[E] at D;cases hr:(execOp (Frame.eval ⟨p,n,.inRegion j (i::f)::k,[],.run,.normal,none⟩) o).runT P w #[] with
     |mk r a3=>
      have a4:(execOp (Frame.eval ⟨p,n,.inRegion j (i::f)::k,[],.run,.normal,none⟩) o).run P w=r:=by rw[<-rc _ _ _ #[],hr]
      have a6:∀(v:Value),(Frame.finish ⟨p,n,.inRegion j (i::f)::k,[],.run,.normal,none⟩ v).fn=p:=λv=>by
       simp only[Frame.finish,ho,qB]
      have a2:∀(v:Value),JR J (Frame.finish ⟨p,n,.inRegion j (i::f)::k,[],.run,.normal,none⟩ v) (Frame.finish ⟨p,F,.inRegion j (i::f)::k,[],.run,.normal,none⟩ v):=λv=>by
       simp only[Frame.finish,ho,qB];cases o.dst with
       |none=>exact G (W _)
       |some d=>exact fin (h0.set d v).1 (h0.set d v).2 (W _)
      have e2:∀c,stepG.apply P true ⟨p,F,.inRegion j (i::f)::k,[],.run,.normal,none⟩ c none (execOp (Frame.eval ⟨p,F,.inRegion j (i::f)::k,[],.run,.normal,none⟩) o) w =
        stepG.apply P true ⟨p,F,.inRegion j (i::f)::k,[],.run,.normal,none⟩ c none (execOp (Frame.eval ⟨p,n,.inRegion j (i::f)::k,[],.run,.normal,none⟩) o) w:=λc=>by rw[a8]
      cases r with
      |ok nx w2=>
       have fX:(CallKind.normal ==CallKind.early)=false:=rfl;rcases aje a5 a4 with⟨v,rfl⟩|rfl
       .have a1:∀(t:Array Value) (c:List Frame),stepG.apply P true ⟨p,t,.inRegion j (i::f)::k,[],.run,.normal,none⟩ c none (execOp (Frame.eval ⟨p,n,.inRegion j (i::f)::k,[],.run,.normal,none⟩) o) w=.go ⟨Frame.finish ⟨p,t,.inRegion j (i::f)::k,[],.run,.normal,none⟩ v,c,.running,none,none⟩ w2 (seen P p a3):=λt c=>by
         unfold stepG.apply;simp only[hr,pb];simp[GStep.after,fX]
        rw[a1] at D;injection D with V T g3
        injection V with Q Z
        subst T g3 Q Z;exact⟨rfl,a6 v,_,a2 v,λc=>by rw[E,e2,a1]⟩
       .have a1:∀(t:Array Value) (c:List Frame),stepG.apply P true ⟨p,t,.inRegion j (i::f)::k,[],.run,.normal,none⟩ c none (execOp (Frame.eval ⟨p,n,.inRegion j (i::f)::k,[],.run,.normal,none⟩) o) w=.go ⟨Frame.finish ⟨p,t,.inRegion j (i::f)::k,[],.run,.normal,none⟩ undef,c,.running,none,none⟩ w2 (seen P p a3):=λt c=>by
         unfold stepG.apply;simp only[hr,pb];simp[GStep.after,fX]
        rw[a1] at D;injection D with V T g3
        injection V with Q Z
        subst T g3 Q Z;exact⟨rfl,a6 undef,_,a2 undef,λc=>by rw[E,e2,a1]⟩
      |halt q w2=>
       have hq:∀(t:Array Value) (c:List Frame),∃u,(q=.unsupported (.initOrder u)/\stepG.apply P true ⟨p,t,.inRegion j (i::f)::k,[],.run,.normal,none⟩ c none (execOp (Frame.eval ⟨p,n,.inRegion j (i::f)::k,[],.run,.normal,none⟩) o) w=GStep.after (seen P p #[]) (early P ⟨p,t,.inRegion j (i::f)::k,[],.run,.normal,none⟩ c none u w2))\/
         (∀(R:Goroutine) ww ee,stepG.apply P true ⟨p,t,.inRegion j (i::f)::k,[],.run,.normal,none⟩ c none (execOp (Frame.eval ⟨p,n,.inRegion j (i::f)::k,[],.run,.normal,none⟩) o) w=.go R ww ee->R.status=.running->R.dying=none->R.frame.mode ≠ .run/\R.frame.mode ≠ .returning):=λt c=>by
        have M:(CallKind.normal ==CallKind.early)=false:=rfl;by_cases a7:∃u,q=.unsupported (.initOrder u)
        .obtain⟨u,rfl⟩:=a7;refine⟨u,.inl ⟨rfl, ?_⟩⟩;unfold stepG.apply;simp only[hr,pb];simp[M]
        .refine⟨0,.inr λR ww ee s h1 h2=> ?_⟩;unfold stepG.apply at s;simp only[hr,pb] at s;cases q with
         |unsupported u=>
          cases u with
          |initOrder g=>exact absurd ⟨g,rfl⟩ a7
          |_=>simp[GStep.after] at s
         |panic v=>simp[GStep.after] at s;obtain⟨rfl, -⟩:=s;exact⟨by simp[Frame.raise],by simp[Frame.raise]⟩
         |goexit=>simp[GStep.after] at s;obtain⟨rfl, -⟩:=s;exact⟨by simp[Frame.raise],by simp[Frame.raise]⟩
         |blocked=>simp[GStep.after] at s;obtain⟨rfl, -⟩:=s;cases h1
         |waiting=>simp[GStep.after] at s;obtain⟨rfl, -⟩:=s;cases h1
         |exit c=>simp[GStep.after] at s
         |stuck c=>simp[GStep.after] at s
         |throw m=>simp[GStep.after,endThrow,dieOf] at s;obtain⟨rfl, -⟩:=s;cases h2
         |fatal m=>
          exfalso;dsimp only at s;unfold endFatal at s;dsimp only at s;generalize Sem.run P _ w2=z at s;cases z with
          |ok z1 z2=>simp[GStep.after,dieOf] at s;obtain⟨rfl, -⟩:=s;cases h2
          |halt z1 z2=>cases z1<;>simp[GStep.after] at s
       obtain⟨u,N⟩:=hq n cs;rcases N with⟨rfl,S⟩|ad
       .rw[S] at D;cases O:early P ⟨p,n,.inRegion j (i::f)::k,[],.run,.normal,none⟩ cs none u w2 with
        |go R ww ee=>
         rw[O] at D;simp only[GStep.after] at D;injection D with V T g3
         subst V T g3;rcases alD O with U|⟨aa,L⟩
         .dsimp only at U;rw[af] at U;cases U
         .injection aa with Q Z
          subst Q Z;refine⟨rfl,rfl,_,h0,λc=> ?_⟩;rw[E,e2];obtain⟨u',N⟩:=hq F c;rcases N with⟨hu,a9⟩|al
          .cases hu;rw[a9,L ⟨p,F,.inRegion j (i::f)::k,[],.run,.normal,none⟩ c rfl];rfl
          .exfalso;have:=hq F c;obtain⟨u2,h2⟩:=this;have M:(CallKind.normal ==CallKind.early)=false:=rfl;have s:stepG.apply P true ⟨p,F,.inRegion j (i::f)::k,[],.run,.normal,none⟩ c none (execOp (Frame.eval ⟨p,n,.inRegion j (i::f)::k,[],.run,.normal,none⟩) o) w=GStep.after (seen P p #[]) (early P ⟨p,F,.inRegion j (i::f)::k,[],.run,.normal,none⟩ c none u w2):=by
            unfold stepG.apply;simp only[hr,pb];simp[M]
           rw[L ⟨p,F,.inRegion j (i::f)::k,[],.run,.normal,none⟩ c rfl] at s;exact(al _ _ _ s rfl rfl).1 rfl
        |_=>rw[O] at D;cases D
       .exfalso;have:=ad _ _ _ D rfl rfl;rcases K with K|K
        .exact this.1 K
        .exact this.2 K
  |_=>cases A
def arE(h:JR J fr cB)(m:fr.mode=.returning)(b:∃fn,P.funcs[fr.fn]?=some fn/\results fn cB.tmps=results fn fr.tmps){c:Frame}{cs:List Frame}{main:Bool} :
  stepG P main ⟨cB,c::cs,.running,none,none⟩ w=stepG P main ⟨fr,c::cs,.running,none,none⟩ w:=by
 obtain⟨fn,a,s,K,I,H,G⟩:=fr;obtain⟨j,C,i,x,u,E,B⟩:=cB;obtain⟨n,k,⟨o,p⟩,d,⟨g,e⟩,⟨l,f⟩,y,F,D⟩:=h;dsimp only at n k o p d g e l f y F D m b;subst n k o p d g e l f m;show unwind P main ⟨j,C,i,[],.returning,.normal,none⟩ (c::cs) none w=unwind P main ⟨j,a,i,[],.returning,.normal,none⟩ (c::cs) none w;unfold unwind;dsimp only;obtain⟨fn,A,b⟩:=b;rw[A];dsimp only;rw[b];generalize (results fn a).runT P w #[]=z;obtain⟨r,L⟩:=z;cases r with
 |ok v t=>rfl
 |halt q t=>cases q<;>rfl
end
end
section
open Go.Conc Go.ConcN
open Go.ConcR (KK wgBlock WgAt stA smA rd wr mk Payload DC0 Bk g_of_ofEvents ofEvent_mk)
abbrev ak:=Nat->Prop
def In(S:ak):Loc->Prop
 |.cell a=>S a.block
 |.obj r=>S r
 |_=>False
inductive jg where
 |leaf
 |node (f:World->jg)
def jg.Lt(a b:jg):Prop:=∃f w,b=.node f/\a=f w
def jg.wf:WellFounded jg.Lt:=⟨λt=>by
 induction t with
 |leaf=>exact⟨_,by rintro _ ⟨g,w,e,rfl⟩;cases e⟩
 |node f a=>exact⟨_,by rintro _ ⟨g,w,e,rfl⟩;cases e;exact a w⟩⟩
def VLt(N:Nat)(f g:Nat->jg):Prop:=∃i,i<N/\jg.Lt (f i) (g i)/\∀k,k≠i->f k=g k
def anu:∀(N:Nat) (g:Nat->jg),Acc (VLt N) g
 |0,g=>⟨_,λf ⟨i,hi,_⟩=>absurd hi (rR i)⟩
 |N+1,g=>by
  have a:∀t:jg,∀g:Nat->jg,g N=t->Acc (VLt (N+1)) g:=by
   intro t
   induction t using jg.wf.induction with
   |_ t d=>
    intro g
    induction anu N g with
    |intro g _ b=>
     intro c;refine⟨_,λf ⟨i,hi,hlt,hk⟩=> ?_⟩;by_cases e:i=N
     .subst e;exact d (f i) (c▸hlt) f rfl
     .exact b f ⟨i,by omega,hlt,hk⟩ ((hk N (sP e)).trans c)
  exact a _ g rfl
abbrev Mu:=Nat×((Nat->jg)×Nat)
def aaY(N:Nat):Mu->Mu->Prop:=Prod.Lex (· < ·) (Prod.Lex (VLt N) (· < ·))
def auF(N:Nat):WellFounded (aaY N):=(Prod.lex Nat.lt_wfRel ⟨_,(Prod.lex ⟨_,⟨anu N⟩⟩ Nat.lt_wfRel).wf⟩).wf
section
variable (P:Program) (main:Bool) (Rl:ak->World->World->Prop) (Gr:ak->ak->World->World->Array Event->Prop) (Stop:ak->Goroutine->World->Prop)
def pT:jg->ak->Goroutine->World->Prop
 |.leaf,S,g,w=>∀a,Rl S w a->Stop S g a
 |.node f,S,g,w=>(∀a,Rl S w a->Stop S g a)\/(g.status=.running/\∀a,Rl S w a->∃e b d c,stepG P main g a=.go e b d/\Gr S c a b d/\pT (f a) c e b)
def bD(S:ak)(g:Goroutine)(w:World):Prop:=∃T,pT P main Rl Gr Stop T S g w
end
section
variable {P:Program} {main:Bool} {Rl:ak->World->World->Prop} {Gr:ak->ak->World->World->Array Event->Prop} {Stop aeY:ak->Goroutine->World->Prop} {S:ak} {g:Goroutine} {w w₁:World}
def pT.cases{T:jg}(h:pT P main Rl Gr Stop T S g w):(∀w₁,Rl S w w₁->Stop S g w₁)\/∃f,T=.node f/\g.status=.running/\∀w₁,Rl S w w₁->∃d a c b,stepG P main g w₁=.go d a c/\Gr S b w₁ a c/\pT P main Rl Gr Stop (f w₁) b d a:=by
 cases T with
 |leaf=>exact .inl h
 |node f=>exact Or.imp id (λx=>⟨f,rfl,x⟩) h
def bD.stop(h:∀w₁,Rl S w w₁->Stop S g w₁):bD P main Rl Gr Stop S g w:=⟨.leaf,h⟩
def bD.step(l:g.status=.running)(h:∀w₁,Rl S w w₁->∃d a c b,stepG P main g w₁=.go d a c/\Gr S b w₁ a c/\bD P main Rl Gr Stop b d a):bD P main Rl Gr Stop S g w:=by
 classical
 have f:∀w₁,∃T,Rl S w w₁->∃d a c b,stepG P main g w₁=.go d a c/\Gr S b w₁ a c/\pT P main Rl Gr Stop T b d a:=λw₁=>by
  by_cases e:Rl S w w₁
  .obtain⟨d,a,c,b,j,i,T,k⟩:=h w₁ e;exact⟨T,λ_=>⟨d,a,c,b,j,i,k⟩⟩
  .exact⟨.leaf,λx=>absurd x e⟩
 exact⟨.node λw₁=>(f w₁).choose,.inr ⟨l,λw₁ e=>(f w₁).choose_spec e⟩⟩
def pT.rely(i:∀S a b c,Rl S a b->Rl S b c->Rl S a c){T:jg}(h:pT P main Rl Gr Stop T S g w)(j:Rl S w w₁):pT P main Rl Gr Stop T S g w₁:=by
 cases T with
 |leaf=>exact λe d=>h e (i _ _ _ _ j d)
 |node f=>exact Or.imp (λh e d=>h e (i _ _ _ _ j d)) (λx=>⟨x.1,λe d=>x.2 e (i _ _ _ _ j d)⟩) h
def bD.bind(d:∀S w,Rl S w w)(e:∀S a b c,Rl S a b->Rl S b c->Rl S a c)(h:bD P main Rl Gr Stop S g w)(i:∀S g w,Stop S g w->bD P main Rl Gr aeY S g w):bD P main Rl Gr aeY S g w:=by
 obtain⟨T,h⟩:=h
 induction T generalizing S g w with
 |leaf=>exact i _ _ _ (h w (d _ _))
 |node f q=>
  rcases h with h|⟨o,h⟩
  .exact i _ _ _ (h w (d _ _))
  .exact bD.step o λw₁ l=>let⟨s,j,m,p,r,k,n⟩:=h w₁ l;⟨s,j,m,p,r,k,q w₁ n⟩
def bD.abU{R:World->World->Prop}{D:World->World->Array Event->Prop}{St:Goroutine->World->Prop}(d:∀w w₁,Rl S w w₁->R w w₁)(i:∀w b c,D w b c->Gr S S w b c)(e:∀g w,St g w->Stop S g w) :
  ∀{n:Nat} {g:Goroutine} {w:World},Goes P main R D St n g w->bD P main Rl Gr Stop S g w
 |0,_,_,h=>.stop λw₁ a=>e _ _ (h w₁ (d _ _ a))
 |n+1,g,w,h=>by
  rcases h with h|⟨j,h⟩
  .exact .stop λw₁ a=>e _ _ (h w₁ (d _ _ a))
  .refine .step j λw₁ a=> ?_;have:=h w₁ (d _ _ a);cases f:stepG P main g w₁ with
   |go k b c=>
    rw[f,tq] at this;exact⟨k,b,c,S,rfl,i _ _ _ this.1,bD.abU d i e this.2⟩
   |_=>rw[f] at this;exact this.elim
def pT.running(b:∀S g w,Stop S g w->g.status=.running)(a:∀S w,Rl S w w){T:jg}(h:pT P main Rl Gr Stop T S g w):g.status=.running:=by
 rcases h.cases with h|⟨_,_,h,_⟩
 .exact b _ _ _ (h w (a _ _))
 .exact h
end
section
variable [Payload] (ty:TypeId) (Wg C N:Nat)
structure jz (R cl S:ak) (w w₁:World):Prop where
 keep:∀b,S b\/R b->w₁.heap[b]?=w.heap[b]?
 size:w.heap.size<=w₁.heap.size
 os:w₁.ou=w.ou
 live:WgLive ty Wg w->WgLive ty Wg w₁
 pay:PayAt C N w->PayAt C N w₁
 cell:∀i,cl i->w₁.cell? ⟨C,i,none⟩=w.cell? ⟨C,i,none⟩
structure EvP (R cl S:ak) (B:Nat) (e:Event):Prop where
 touch:∀x,(MemAct.ofEvent e).touch?=some x->In S x.loc\/(∃a,x.loc=.cell a/\a.block=C/\cl a.off)\/(In R x.loc/\x.write=false)
 dis:e.loc ≠ .mark .disable
 en:e.loc ≠ .mark .enable
 rel:e.loc ≠ .mark (.release (stA Wg))
 low:(MemAct.ofEvent e).low B
structure Gua (R cl S S':ak) (w w':World) (es:Array Event):Prop where
 keep:∀b,b<w.heap.size->¬S b->b≠C->w'.heap[b]?=w.heap[b]?
 size:w.heap.size<=w'.heap.size
 os:w'.ou=w.ou
 pay:PayAt C N w->PayAt C N w'
 cell:∀i,¬cl i->w'.cell? ⟨C,i,none⟩=w.cell? ⟨C,i,none⟩
 mono:∀b,S b->S' b
 new:∀b,S' b->S b\/(w.heap.size<=b/\b<w'.heap.size)
 ev:∀e∈es,EvP Wg C R cl S' w'.heap.size e
end
section
variable [Payload] {ty:TypeId} {Wg C N:Nat} {R cl S S' auG arF auH:ak} {w w₁ w₂ w':World} {es:Array Event}
def jz.refl(R cl S:ak)(w:World):jz ty Wg C N R cl S w w:=⟨λ_ _=>rfl,am _,rfl,id,id,λ_ _=>rfl⟩
def jz.trans(h:jz ty Wg C N R cl S w w₁)(k:jz ty Wg C N R cl S w₁ w₂):jz ty Wg C N R cl S w w₂:=
 ⟨λb a=>(k.keep b a).trans (h.keep b a),bd h.size k.size,k.os.trans h.os,k.live∘h.live,k.pay∘h.pay,λi c=>(k.cell i c).trans (h.cell i c)⟩
def jz.at(R cl S:ak)(w:World)(d:Nat):jz ty Wg C N R cl S w (w.at d):=⟨λ_ _=>rfl,am _,rfl,id,id,λ_ _=>rfl⟩
def jz.alF(h:Gua Wg C N R cl S S' w w' es)(a:∀b,auH b\/auG b->b<w.heap.size/\¬S b/\b≠C)(g:∀i,arF i->¬cl i)(c:Wg<w.heap.size/\¬S Wg/\Wg≠C):jz ty Wg C N auG arF auH w w':=
 ⟨λb d=>h.keep b (a b d).1 (a b d).2.1 (a b d).2.2,h.size,h.os,λ⟨st,sm,e⟩=>⟨st,sm,e.of_block (h.keep Wg c.1 c.2.1 c.2.2)⟩,h.pay,λi f=>h.cell i (g i f)⟩
def jz.of_wg(h:Aside Wg w w')(d:WgLive ty Wg w')(c:∀b,auH b\/auG b->b≠Wg)(a:C≠Wg):jz ty Wg C N auG arF auH w w':=
 ⟨λb g=>h.block b (c b g),mu h.size.symm,ay0 h.os h.output,λ_=>d,λ⟨e,j,f⟩=>⟨e,(h.block C a).trans j,f⟩,λi _=>ul (h.block C a) i⟩
def jz.rw(h:jz ty Wg C N R cl S w w')(hi:cl i):RW ty Wg C N 0 i w w':=⟨λb a=>absurd a (rR b),h.live,h.pay,h.cell i hi⟩
end
section
variable {Sh:Loc->Prop} {Own Rd axZ Rd':Nat->Loc->Prop} {t:Trace} {j:Nat}
def agh(h:CT Sh Own Rd t j)(n:∀k,1<=k->k<=j->∀l,axZ k l->Own k l\/∀i a,touchAt t i=some a->a.loc≠l)(m:∀k,1<=k->k<=j->∀l,Own k l->axZ k l)(g:∀k,1<=k->k<=j->∀l,Rd' k l↔Rd k l):CT Sh axZ Rd' t j:=
 ⟨h.quiet,λk b c l d=>(n k b c l d).elim (h.own k b c l) λo i a p e=>absurd e (o i a p),λk b c l d=>h.rd k b c l ((g k b c l).1 d),
  λl f d=>h.free l f λk b c=>⟨λx=>(d k b c).1 (m k b c l x),λx=>(d k b c).2 ((g k b c l).2 x)⟩,λl f d=>h.mine l f λk b c x=>d k b c (m k b c l x),h.nr,h.gs⟩
end
variable [Payload]
def dB(κ:Nat):ak:=λi=>i / 2=κ
def noC:ak:=λ_=>False
abbrev FF:Nat->Loc->Prop:=λ_ _=>False
section
variable (P:Program) (ty:TypeId) (Wg C n K0:Nat) (val:Nat->Value) (aS:ak)
def agi(κ:Nat):ak->Goroutine->World->Prop:=λ_ g w=>AtR0 P ty Wg C (2*n) 0 (2*κ+1) (val (2*κ)) g w/\Has C (2*κ+1) (val (2*κ+1)) w
abbrev GW(κ:Nat)(R:ak):jg->ak->Goroutine->World->Prop:=pT P false (jz ty Wg C (2*n) R (dB κ)) (Gua Wg C (2*n) R (dB κ)) (agi P ty Wg C n val κ)
inductive WK (κ:Nat) (R:ak):Nat->Nat->Nat->jg->ak->Goroutine->World->Prop
 |work {T:jg} {S:ak} {g:Goroutine} {w:World}:GW P ty Wg C n val κ R T S g w->WK κ R 7 0 0 T S g w
 |rest {s m d:Nat} {T:jg} {S:ak} {g:Goroutine} {w:World}:s<=6->WSit P ty Wg C (2*n) FF FF 0 (2*κ+1) (val (2*κ)) s m d g w->WK κ R s m d T S g w
abbrev RM(R S:ak):World->World->Prop:=jz ty Wg C (2*n) R noC S
def aaZ(e:Event):Prop:=∃a:Addr,a.block=Wg/\(e=mk (.read a)\/e=mk (.write a))
def DSd(w w':World)(es:Array Event):Prop:=w'=w/\∀e∈es,aaZ Wg e
section
variable (R S:ak) (aM Fin:ak->ak->Goroutine->World->Prop)
abbrev GP(St:Goroutine->World->Prop)(m:Nat)(g:Goroutine)(w:World):Prop:=Goes P true (RM ty Wg C n R S) (DSd Wg) St m g w
def ax0(g:Goroutine)(w:World):Prop:=g.status=.running/\∃a,stepG P true g w=.go a w #[mk (.acquire (stA Wg))]/\Fin R S a w
def MKe(g:Goroutine)(w:World):Prop:=g.status=.running/\∃a,stepG P true g w=.go a w #[mk .enable]/\∃m,GP P ty Wg C n R S (ax0 P Wg R S Fin) m a w
def MW4(g:Goroutine)(w:World):Prop:=g.status=.running/\(WgAt ty Wg w 0 0->∃a,stepG P true g w=.go a w #[rd (stA Wg)]/\∃m,GP P ty Wg C n R S (MKe P ty Wg C n R S Fin) m a w)
def MW3(g:Goroutine)(w:World):Prop:=g.status=.running/\g.offers=none/\
  ((∃st,WgAt ty Wg w st 0)->stepG P true g w=.go {g with status:=.blocked} w #[])/\
  (WgAt ty Wg w 0 1->∃a,stepG P true g w=.go a (w.setCell (smA Wg) (.int .u32 0)) (semEvents (smA Wg))/\∃m,GP P ty Wg C n R S (MW4 P ty Wg C n R S Fin) m a (w.setCell (smA Wg) (.int .u32 0)))
def MW2(vs:Nat)(g:Goroutine)(w:World):Prop:=g.status=.running/\∀v:Nat,v<2147483648->WgAt ty Wg w (v*KK) 0->
  (v=vs->∃a,stepG P true g w=.go a (w.setCell (stA Wg) (.int .u64 (v*KK+1))) #[rd (stA Wg),wr (stA Wg)]/\∃m,GP P ty Wg C n R S (MW3 P ty Wg C n R S Fin) m a (w.setCell (stA Wg) (.int .u64 (v*KK+1))))/\
  (v≠vs->∃a,stepG P true g w=.go a w #[rd (stA Wg)]/\∃m,GP P ty Wg C n R S (aM R S) m a w)
def MW1(g:Goroutine)(w:World):Prop:=g.status=.running/\∀v:Nat,v<2147483648->WgAt ty Wg w (v*KK) 0->∃a,stepG P true g w=.go a w #[rd (stA Wg)]/\
  (v=0->∃m,GP P ty Wg C n R S (MKe P ty Wg C n R S Fin) m a w)/\(v≠0->∃m,GP P ty Wg C n R S (MW2 P ty Wg C n R S aM Fin v) m a w)
def MKd(g:Goroutine)(w:World):Prop:=g.status=.running/\∃a,stepG P true g w=.go a w #[mk .disable]/\∃m,GP P ty Wg C n R S (aM R S) m a w
end
abbrev GM(R:ak)(St:ak->Goroutine->World->Prop):jg->ak->Goroutine->World->Prop:=pT P true (jz ty Wg C (2*n) R noC) (Gua Wg C (2*n) R noC) St
section
variable (j:Nat) (Next:ak->Goroutine->World->Prop) (R S:ak)
def MGo(S:ak)(g:Goroutine)(w:World):Prop:=g.status=.running/\∃d a c,stepG P true g w=.spawn d a w #[]/\(∀b,c b->S b\/R b)/\
  (PayAt C (2*n) w->WgLive ty Wg w->∃T,GW P ty Wg C n val j c T (λ_=>False) a w)/\Next (λb=>S b\/R b) d w
def ax1(g:Goroutine)(w:World):Prop:=g.status=.running/\∃a,stepG P true g w=.go a w #[mk .enable]/\∃T,GM P ty Wg C n R (MGo P ty Wg C n val j Next R) T S a w
def MA1(g:Goroutine)(w:World):Prop:=g.status=.running/\∀v:Nat,v<2147483647->WgAt ty Wg w (v*KK) 0->
  ∃a,stepG P true g w=.go a (w.setCell (stA Wg) (.int .u64 ((v+1)*KK))) #[rd (stA Wg),wr (stA Wg)]/\∃m,GP P ty Wg C n R S (ax1 P ty Wg C n val j Next R S) m a (w.setCell (stA Wg) (.int .u64 ((v+1)*KK)))
def arG(g:Goroutine)(w:World):Prop:=g.status=.running/\∃a,stepG P true g w=.go a w #[mk .disable]/\∃m,GP P ty Wg C n R S (MA1 P ty Wg C n val j Next R S) m a w
end
variable (aM Fin:ak->ak->Goroutine->World->Prop)
def tI:Nat->ak->Goroutine->World->Prop
 |0,R,g,w=>∃T,GM P ty Wg C n R (λS g w=>MKd P ty Wg C n R S aM g w) T (λ_=>False) g w
 |r+1,R,g,w=>∃T,GM P ty Wg C n R (λS g w=>arG P ty Wg C n val (n-(r+1)) (tI r) R S g w) T (λ_=>False) g w
inductive eQ:CTag->Nat->ak->ak->jg->Nat->Nat->Goroutine->World->Prop
 |skd {r:Nat} {R S:ak} {T:jg} {g:Goroutine} {w:World}:r<n->GM P ty Wg C n R (λS g w=>arG P ty Wg C n val (n-(r+1)) (tI P ty Wg C n val aM r) R S g w) T S g w->eQ (.sp r 5) (n-(r+1)) R S T 0 0 g w
 |sa1 {r m:Nat} {R S:ak} {T:jg} {g:Goroutine} {w:World}:r<n->GP P ty Wg C n R S (MA1 P ty Wg C n val (n-(r+1)) (tI P ty Wg C n val aM r) R S) m g w->eQ (.sp r 4) (n-(r+1)) R S T m 1 g w
 |ske {r m:Nat} {R S:ak} {T:jg} {g:Goroutine} {w:World}:r<n->GP P ty Wg C n R S (ax1 P ty Wg C n val (n-(r+1)) (tI P ty Wg C n val aM r) R S) m g w->eQ (.sp r 3) (n-(r+1)) R S T m 1 g w
 |sgo {r:Nat} {R S:ak} {T:jg} {g:Goroutine} {w:World}:r<n->GM P ty Wg C n R (MGo P ty Wg C n val (n-(r+1)) (tI P ty Wg C n val aM r) R) T S g w->eQ (.sp r 2) (n-(r+1)) R S T 0 0 g w
 |kd {R S:ak} {T:jg} {g:Goroutine} {w:World}:GM P ty Wg C n R (λS g w=>MKd P ty Wg C n R S aM g w) T S g w->eQ .kd n R S T 0 0 g w
 |anch {m:Nat} {R S:ak} {T:jg} {g:Goroutine} {w:World}:GP P ty Wg C n R S (aM R S) m g w->eQ .anch n R S T m 1 g w
 |w1 {m:Nat} {R S:ak} {T:jg} {g:Goroutine} {w:World}:GP P ty Wg C n R S (MW1 P ty Wg C n R S aM Fin) m g w->eQ .w1 n R S T m 1 g w
 |w2 {vs m:Nat} {R S:ak} {T:jg} {g:Goroutine} {w:World}:GP P ty Wg C n R S (MW2 P ty Wg C n R S aM Fin vs) m g w->eQ (.w2 vs) n R S T m 1 g w
 |w3 {m:Nat} {R S:ak} {T:jg} {g:Goroutine} {w:World}:GP P ty Wg C n R S (MW3 P ty Wg C n R S Fin) m g w->eQ .w3 n R S T (m+1) 1 g w
 |blk {R S:ak} {T:jg} {g:Goroutine} {w:World}:(∀w₁,RM ty Wg C n R S w w₁->MW3 P ty Wg C n R S Fin g w₁)->eQ .blk n R S T 0 1 {g with status:=.blocked} w
 |w4 {m:Nat} {R S:ak} {T:jg} {g:Goroutine} {w:World}:GP P ty Wg C n R S (MW4 P ty Wg C n R S Fin) m g w->eQ .w4 n R S T m 1 g w
 |ke {m:Nat} {R S:ak} {T:jg} {g:Goroutine} {w:World}:GP P ty Wg C n R S (MKe P ty Wg C n R S Fin) m g w->eQ .ke n R S T m 1 g w
 |acq {m:Nat} {R S:ak} {T:jg} {g:Goroutine} {w:World}:GP P ty Wg C n R S (ax0 P Wg R S Fin) m g w->eQ .acq n R S T m 0 g w
def Shr(Wg:Nat)(aS:ak)(l:Loc):Prop:=∃a,l=.cell a/\(a.block=Wg\/aS a.block)
def aa0(C K0:Nat)(O:Nat->ak)(k:Nat)(l:Loc):Prop:=∃b,k=K0+1+b/\(In (O b) l\/∃a,l=.cell a/\a.block=C/\a.off / 2=b)
def RdL(K0:Nat)(Rk:Nat->ak)(k:Nat)(l:Loc):Prop:=∃a,k=K0+1+a/\In (Rk a) l
structure Sets (w:World) (R S:ak) (O Rk:Nat->ak):Prop where
 rlt:∀b,R b->b<w.heap.size
 slt:∀b,S b->b<w.heap.size
 olt:∀κ b,O κ b->b<w.heap.size
 rk:∀κ b,Rk κ b->R b
 rs:∀b,R b->¬S b
 orr:∀κ b,O κ b->¬R b
 os:∀κ b,O κ b->¬S b
 oo:∀κ fY b,O κ b->O fY b->κ=fY
 wlt:Wg<w.heap.size
 clt:C<w.heap.size
 cw:C≠Wg
 wr:¬R Wg
 ws:¬S Wg
 wo:∀κ,¬O κ Wg
 cr:¬R C
 cs:¬S C
 co:∀κ,¬O κ C
 shr:∀b,aS b->¬R b
 shs:∀b,aS b->¬S b
 sho:∀κ b,aS b->¬O κ b
 shc:¬aS C
 ajf:∀b,aS b->b<w.heap.size
end
section
variable {Wg C K0:Nat} {aS R S:ak} {w w':World} {O Rk:Nat->ak}
omit [Payload] in
def In.mono{S a:ak}(h:∀b,S b->a b)(x:In S l):In a l:=by
 cases l<;>first|exact h _ x|exact x.elim
omit [Payload] in
def In.no{S a:ak}(h:∀b,S b->¬a b)(x:In S l):¬In a l:=by
 cases l<;>first|exact h _ x|exact x.elim
omit [Payload] in
def In.block{S:ak}(x:In S l){a:Addr}(e:l=.cell a):S a.block:=by subst e;exact x
omit [Payload] in
def Sets.apart(h:Sets Wg C aS w R S O Rk):Apart (Shr Wg aS) (aa0 C K0 O) (RdL K0 Rk) where
 own:=by
  rintro k m l ⟨f,rfl,d⟩ ⟨i,rfl,c⟩;have:f=i:=by
   rcases d with d|⟨a,rfl,g,o⟩<;>rcases c with c|⟨b,e,j,n⟩
   .cases l<;>first|exact h.oo _ _ _ d c|exact d.elim
   .subst e;exact absurd (j▸d) (h.co f)
   .exact absurd (g▸c) (h.co i)
   .cases e;omega
  rw[this]
 ownRd:=by
  rintro k m l ⟨f,rfl,d⟩ ⟨i,rfl,c⟩;rcases d with d|⟨a,rfl,g, -⟩
  .cases l<;>first|exact h.orr _ _ d (h.rk _ _ c)|exact d.elim
  .exact h.cr (g▸h.rk _ _ c)
 ownSh:=by
  rintro k l ⟨f,rfl,d⟩ ⟨a,rfl,c⟩;rcases d with d|⟨b,e,g, -⟩
  .rcases c with c|c
   .exact h.wo f (c▸d)
   .exact h.sho f _ c d
  .cases e;rcases c with c|c
   .exact h.cw (g.symm.trans c)
   .exact h.shc (g▸c)
 rdSh:=by
  rintro k l ⟨f,rfl,d⟩ ⟨a,rfl,c⟩;rcases c with c|c
  .exact h.wr (c▸h.rk _ _ d)
  .exact h.shr _ c (h.rk _ _ d)
omit [Payload] in
def Sets.at(h:Sets Wg C aS w R S O Rk)(d:Nat):Sets Wg C aS (w.at d) R S O Rk:=⟨h.rlt,h.slt,h.olt,h.rk,h.rs,h.orr,h.os,h.oo,h.wlt,h.clt,h.cw,h.wr,h.ws,h.wo,h.cr,h.cs,h.co,h.shr,h.shs,h.sho,h.shc,h.ajf⟩
omit [Payload] in
def Sets.size(h:Sets Wg C aS w R S O Rk)(a:w.heap.size<=w'.heap.size):Sets Wg C aS w' R S O Rk:=
 ⟨λb x=>aE (h.rlt b x) a,λb x=>aE (h.slt b x) a,λc b x=>aE (h.olt c b x) a,h.rk,h.rs,h.orr,h.os,h.oo,aE h.wlt a,aE h.clt a,h.cw,h.wr,h.ws,h.wo,h.cr,h.cs,h.co,h.shr,h.shs,h.sho,h.shc,λb x=>aE (h.ajf b x) a⟩
omit [Payload] in
def Sets.aAe(h:Sets Wg C aS w R S O Rk)(o:w.heap.size<=w'.heap.size){g:ak}(k:∀b,g b->O κ b\/(w.heap.size<=b/\b<w'.heap.size)):Sets Wg C aS w' R S (upd O κ g) Rk:=by
 have a:∀{c:Nat} {b:Nat},upd O κ g c b->O c b\/(c=κ/\w.heap.size<=b/\b<w'.heap.size):=λ{c b} x=>by
  by_cases e:c=κ
  .subst e;rw[qe] at x;exact(k b x).imp id λy=>⟨rfl,y⟩
  .rw[qI O _ e] at x;exact .inl x
 have d:=h.size o;refine⟨d.rlt,d.slt,λc b x=> ?_,h.rk,h.rs,λc b x=> ?_,λc b x=> ?_,λj m b x y=> ?_,d.wlt,d.clt,h.cw,h.wr,h.ws,λc x=> ?_,h.cr,h.cs,λc x=> ?_,h.shr,h.shs,λc b i x=> ?_,h.shc,d.ajf⟩
 .rcases a x with x|⟨-, -,x⟩
  .exact d.olt _ _ x
  .exact x
 .rcases a x with x|⟨-,x, -⟩
  .exact h.orr _ _ x
  .intro f;have:=h.rlt b f;omega
 .rcases a x with x|⟨-,x, -⟩
  .exact h.os _ _ x
  .intro f;have:=h.slt b f;omega
 .rcases a x with x|⟨l,x, -⟩<;>rcases a y with y|⟨n,y, -⟩
  .exact h.oo _ _ _ x y
  .have:=h.olt _ _ x;omega
  .have:=h.olt _ _ y;omega
  .rw[l,n]
 .rcases a x with x|⟨-,x, -⟩
  .exact h.wo _ x
  .have:=h.wlt;omega
 .rcases a x with x|⟨-,x, -⟩
  .exact h.co _ x
  .have:=h.clt;omega
 .rcases a x with x|⟨-,x, -⟩
  .exact h.sho _ _ i x
  .have:=h.ajf b i;omega
omit [Payload] in
def Sets.awt(h:Sets Wg C aS w R S O Rk)(j:w.heap.size<=w'.heap.size){d:ak}(c:∀b,d b->S b\/(w.heap.size<=b/\b<w'.heap.size)):Sets Wg C aS w' R d O Rk:=by
 have a:=h.size j;refine⟨a.rlt,λb x=> ?_,a.olt,h.rk,λb f x=> ?_,h.orr,λi b e x=> ?_,h.oo,a.wlt,a.clt,h.cw,h.wr,λx=> ?_,h.wo,h.cr,λx=> ?_,h.co,h.shr,λb g x=> ?_,h.sho,h.shc,a.ajf⟩
 .rcases c b x with x|x
  .exact a.slt b x
  .exact x.2
 .rcases c b x with x|x
  .exact h.rs b f x
  .have:=h.rlt b f;omega
 .rcases c b x with x|x
  .exact h.os i b e x
  .have:=h.olt i b e;omega
 .rcases c _ x with x|x
  .exact h.ws x
  .have:=h.wlt;omega
 .rcases c _ x with x|x
  .exact h.cs x
  .have:=h.clt;omega
 .rcases c _ x with x|x
  .exact h.shs b g x
  .have:=h.ajf b g;omega
omit [Payload] in
def Sets.hand(h:Sets Wg C aS w R S O Rk)(κ:Nat){X:ak}(d:∀b,X b->S b\/R b):Sets Wg C aS w (λb=>S b\/R b) (λ_=>False) O (upd Rk κ X):=by
 refine⟨λb x=>x.elim (h.slt b) (h.rlt b),λb x=>x.elim,h.olt,λa b x=> ?_,λb _ x=>x,λa b x y=>y.elim (h.os a b x) (h.orr a b x),λa b _ x=>x,h.oo,h.wlt,h.clt,h.cw,λx=>x.elim h.ws h.wr,id,h.wo,λx=>x.elim h.cs h.cr,id,h.co,λb c x=>x.elim (h.shs b c) (h.shr b c),λb _ x=>x,h.sho,h.shc,h.ajf⟩;by_cases e:a=κ
 .subst e;rw[qe] at x;exact d b x
 .rw[qI Rk _ e] at x;exact .inr (h.rk a b x)
end
end
section
open Go.Conc Go.ConcN
open Go.ConcR (KK wgBlock WgAt stA smA rd wr mk Payload DC0 Bk g_of_ofEvents ofEvent_mk ofEvent_loc_mark loc_of_ofEvent)
def ShL(aS:ak)(l:Loc):Prop:=∃a,l=.cell a/\aS a.block
structure eD (aS:ak) (K B:Nat) (t:Trace):Prop where
 clean:∀said,¬Race said t
 known:∀(i:Nat) (op:MemOp) (x:Touch),t[i]?=some op->op.act.touch?=some x->¬ShL aS x.loc->Knows t 0 i
 quiet:Quiet (ShL aS) t
 over:t.HandedOver
 hears:Deaf t 0=0
 seen:∀op∈t,op.act.low B
 gs:∀op∈t,op.g<=K
def nt(Wg:Nat)(aS:ak)(t:Trace)(k r:Nat):Prop:=∀(i:Nat) (op:MemOp) (x:Touch),r<i->t[i]?=some op->op.g=k->op.act.touch?=some x->Shr Wg aS x.loc
def nt.app{Wg:Nat}{aS:ak}{t u:Trace}{r : Nat}(h:nt Wg aS t k r)(e:∀op∈u,op.g=k->∀x,op.act.touch?=some x->Shr Wg aS x.loc):nt Wg aS (t++u) k r:=λi op x g d b c=>by
 rcases ru d with⟨_,f⟩|⟨_,a⟩
 .exact h i op x g f b c
 .exact e op a b x c
structure TI (Wg C K0:Nat) (aS:ak) (j:Nat) (t:Trace) (D:Nat->WD) (O Rk:Nat->ak) (d0 B:Nat):Prop where
 ct:CT (Shr Wg aS) (aa0 C K0 O) (RdL K0 Rk) t (K0+j)
 norel:NoRelease (stA Wg) t
 deaf0:Deaf t 0=d0
 deafW:∀κ,κ<j->Deaf t (K0+1+κ)=(D κ).deaf
 rel:∀κ,κ<j->(D κ).stage<=6->∃r,RelBy (stA Wg) t (K0+1+κ) r/\nt Wg aS t (K0+1+κ) r
 seen:∀op∈t,op.act.low B
 over:∀(i g:Nat),t.g? i=some g->g≠0->g<=K0->t.counts i->∃p,t.g? p=some 0/\HappensBefore t i p
 known:∀(i:Nat) (op:MemOp) (x:Touch),t[i]?=some op->op.g<=K0->op.act.touch?=some x->¬Shr Wg aS x.loc->Knows t 0 i
section
variable {Wg C K0:Nat} {aS:ak} {j:Nat} {t u:Trace} {D:Nat->WD} {O Rk:Nat->ak} {d0 B B':Nat}
def abV(h:∀(i g:Nat),t.g? i=some g->g≠0->g<=K0->t.counts i->∃p,t.g? p=some 0/\HappensBefore t i p)(o:∀op∈u,op.g=0\/K0<op.g\/op.act.touch?=none) :
  ∀(i g:Nat),(t++u).g? i=some g->g≠0->g<=K0->(t++u).counts i->∃p,(t++u).g? p=some 0/\HappensBefore (t++u) i p:=by
 intro i g l d k n;obtain⟨x,s,y,A⟩:=id n;obtain⟨op,a,b⟩:=touch_of s;have v:op.g=g:=by simpa[Trace.g?,a] using l
 rcases ru a with⟨m,r⟩|⟨_,j⟩
 .obtain⟨p,c,q⟩:=h i g (by rw[<-g?_old (u:=u) m];exact l) d k ((counts_old m).1 n);have e:p<t.size:=by
   unfold Trace.g? at c;obtain⟨z,w,_⟩:=io.1 c;exact lt_size_of_getElem? w
  exact⟨p,by rw[g?_old e];exact c,hb_app u q⟩
 .rcases o op j with f|f|f
  .omega
  .omega
  .rw[f] at b;cases b
def pU(h:∀(i:Nat) (op:MemOp) (x:Touch),t[i]?=some op->op.g<=K0->op.act.touch?=some x->¬Shr Wg aS x.loc->Knows t 0 i)(f:∀op∈u,op.g=0\/K0<op.g\/op.act.touch?=none) :
  ∀(i:Nat) (op:MemOp) (x:Touch),(t++u)[i]?=some op->op.g<=K0->op.act.touch?=some x->¬Shr Wg aS x.loc->Knows (t++u) 0 i:=by
 intro i op x d e c j;rcases ru d with⟨_,g⟩|⟨_,b⟩
 .exact(h i op x g e c j).app u
 .rcases f op b with a|a|a
  .have:=knows_own d;rwa [a] at this
  .omega
  .rw[a] at c;cases c
def acN(h:∀op∈t,op.act.low B)(b:B<=B'):∀op∈t,op.act.low B':=λop a=>MemAct.low_mono b (h op a)
def agj{x:Touch}(h:∀op∈t,op.act.low B)(n:touchAt t i=some x){S:ak}(k:∀b,S b->B<=b)(d:In S x.loc):False:=by
 obtain⟨op,l,a⟩:=touch_of n;have c:=h op (qw l);obtain⟨g,fn,o,f⟩:=op;cases f with
 |access e=>
  simp only[MemAct.touch?,mt] at a;subst a;obtain⟨loc,wr,p⟩:=e;cases loc<;>first|exact d.elim|(have j:=k _ d;exact absurd c (Nat.not_lt.2 j))
 |mark m=>
  cases m<;>simp only[MemAct.touch?,mt,reduceCtorEq] at a<;>(subst a;have j:=k _ d;exact absurd c (Nat.not_lt.2 j))
 |_=>simp[MemAct.touch?] at a
def TI.appW (h:TI Wg C K0 aS j t D O Rk d0 B) (H:B<=B') (I:κ<j) {o:ak} {s' : Nat} {fn:FuncId}  
  (A:Apart (Shr Wg aS) (aa0 C K0 (upd O κ o)) (RdL K0 Rk))
  (E:∀b,O κ b->o b) (u:∀b,o b->O κ b\/B<=b)
  (v:∀op∈MemOp.ofEvents (K0+1+κ) fn pos es,OkW (Shr Wg aS) (aa0 C K0 (upd O κ o)) (RdL K0 Rk) (K0+1+κ) op) (q:∀e∈es,e.loc ≠ .mark (.release (stA Wg)))
  (y:deafBehind (D κ).deaf es=V) (w:∀op∈MemOp.ofEvents (K0+1+κ) fn pos es,op.act.low B')
  (hrel:s'<=6->∃r,RelBy (stA Wg) (t++MemOp.ofEvents (K0+1+κ) fn pos es) (K0+1+κ) r/\nt Wg aS (t++MemOp.ofEvents (K0+1+κ) fn pos es) (K0+1+κ) r) :
  TI Wg C K0 aS j (t++MemOp.ofEvents (K0+1+κ) fn pos es) (upd D κ ⟨s',m',V⟩) (upd O κ o) Rk d0 B':=by
 have n:∀op∈MemOp.ofEvents (K0+1+κ) fn pos es,op.g=K0+1+κ:=g_of_ofEvents;have s:CT (Shr Wg aS) (aa0 C K0 (upd O κ o)) (RdL K0 Rk) t (K0+j):=agh h.ct (λk _ _ l c=>by
   obtain⟨d,rfl,c⟩:=c;by_cases e:d=κ
   .subst e;rw[qe] at c;rcases c with c|c
    .have:In (O d) l\/In (λb=>B<=b) l:=by
      cases l<;>first|exact u _ c|exact c.elim
     rcases this with x|x
     .exact .inl ⟨d,rfl,.inl x⟩
     .exact .inr λi a G e=>agj h.seen G (λb p=>p) (e▸x)
    .exact .inl ⟨d,rfl,.inr c⟩
   .rw[qI O _ e] at c;exact .inl ⟨d,rfl,c⟩) (λk _ _ l c=>by
   obtain⟨d,rfl,c⟩:=c;refine⟨d,rfl, ?_⟩;by_cases e:d=κ
   .subst e;rw[qe];exact c.imp (In.mono E) id
   .rw[qI O _ e];exact c) (λ_ _ _ _=>Iff.rfl)
 refine⟨s.appW A (by omega) (by omega) v,h.norel.app (norel_of q),by rw[rb t (by omega) _ n,h.deaf0],λd m=> ?_,λd m g=> ?_,seen_app (acN h.seen H) w,
  abV h.over λop f=>.inr (.inl (by rw[n op f];omega)),pU h.known λop f=>.inr (.inl (by rw[n op f];omega))⟩
 .by_cases e:d=κ
  .subst e;rw[Deaf_own,h.deafW d m,qe];exact y
  .rw[rb t (by omega) _ n,h.deafW d m,qI D _ e]
 .by_cases e:d=κ
  .subst e;rw[qe] at g;exact hrel g
  .rw[qI D _ e] at g;obtain⟨r,F,p⟩:=h.rel d m g;exact⟨r,F.appOther n (by omega),p.app λop f z=>by rw[n op f] at z;omega⟩
def TI.app0 (h:TI Wg C K0 aS j t D O Rk d0 B) (n:B<=B') (A:Apart (Shr Wg aS) (aa0 C K0 O) (RdL K0 Rk)) {fn:FuncId}  
  (g:∀op∈MemOp.ofEvents 0 fn pos es,Ok0 (Shr Wg aS) (aa0 C K0 O) (RdL K0 Rk) (K0+j) op) (i:∀e∈es,e.loc ≠ .mark (.release (stA Wg))) (k:∀op∈MemOp.ofEvents 0 fn pos es,op.act.low B') :
  TI Wg C K0 aS j (t++MemOp.ofEvents 0 fn pos es) D O Rk (deafBehind d0 es) B':=by
 have b:∀op∈MemOp.ofEvents 0 fn pos es,op.g=0:=g_of_ofEvents;refine⟨h.ct.app0 A g,h.norel.app (norel_of i),by rw[Deaf_own,h.deaf0],λd c=>by rw[rb t (by omega) _ b,h.deafW d c],λd c f=> ?_,seen_app (acN h.seen n) k,
  abV h.over λop a=>.inl (b op a),pU h.known λop a=>.inl (b op a)⟩
 obtain⟨r,l,m⟩:=h.rel d c f;exact⟨r,l.appOther b (by omega),m.app λop a o=>by rw[b op a] at o;omega⟩
def TI.ax2(h:TI Wg C K0 aS j t D O Rk d0 B)(R:i≠0)(hi:i<=K0){fn:FuncId}(I:∀e∈es,e.mute=true) :
  TI Wg C K0 aS j (t++MemOp.ofEvents i fn pos es) D O Rk d0 B:=by
 have n:∀op∈MemOp.ofEvents i fn pos es,op.g=i:=g_of_ofEvents;have u:∀op∈MemOp.ofEvents i fn pos es,op.act.touch?=none:=λop c=>by obtain⟨e,p,rfl⟩:=lP c;exact touch_mute (I e p)
 have g:∀op∈MemOp.ofEvents i fn pos es,op.act.low B:=λop c=>by obtain⟨e,p,rfl⟩:=lP c;exact low_mute (I e p) B
 have old:∀{q:Nat} {a:Touch},touchAt (t++MemOp.ofEvents i fn pos es) q=some a->touchAt t q=some a:=λ{q a} Q=>by
  obtain⟨z,L,m⟩:=touch_of Q;rcases ru L with⟨_,J⟩|⟨_,G⟩
  .rw[touchAt_of J];exact m
  .rw[u z G] at m;cases m
 have f:∀op∈MemOp.ofEvents i fn pos es,∀b,op.act.touch?=some b->False:=λop c b d=>by rw[u op c] at d;cases d
 refine⟨⟨h.ct.quiet.app λop c x P _=>(f op c x P).elim,λk v F l g=>(h.ct.own k v F l g).app λop c b d _=>(f op c b d).elim,λk v F l g=>(h.ct.rd k v F l g).app λop c b d _ _=>(f op c b d).elim,
   λl H g=>(h.ct.free l H g).app λop c b d _=>(f op c b d).elim,λl H g=>(h.ct.mine l H g).app λop c b d _ _=>(f op c b d).elim,λo=>noRace_append (h.ct.nr o) n λ_ _ _ op c b d _=>(f op c b d).elim,λq op M=> ?_⟩,
  h.norel.app λop c e=> ?_,by rw[rb t (by omega) _ n,h.deaf0],λA y=>by rw[rb t (by omega) _ n,h.deafW A y],λA y E=> ?_,seen_app h.seen g,abV h.over λop c=>.inr (.inr (u op c)),pU h.known λop c=>.inr (.inr (u op c))⟩
 .rcases ru M with⟨_,K⟩|⟨_,w⟩
  .exact h.ct.gs q op K
  .rw[n op w];omega
 .obtain⟨s,p,rfl⟩:=lP c;have g:=loc_of_ofEvent e;have:=I s p;obtain⟨loc,wr,S⟩:=s;dsimp only at g;subst g;simp[Event.mute] at this
 .obtain⟨r,N,d⟩:=h.rel A y E;exact⟨r,N.appOther n (by omega),d.app λop c s=>by rw[n op c] at s;omega⟩
def TI.fork(h:TI Wg C K0 aS j t D O Rk 0 B){X:ak}(A:Apart (Shr Wg aS) (aa0 C K0 O) (RdL K0 (upd Rk j X))){x y:MemOp}(i:x.g=0/\x.act=.go (K0+j+1))(g:y.g=K0+j+1/\y.act=.start) :
  TI Wg C K0 aS (j+1) (t++#[x,y]) (upd D j ⟨7,m',0⟩) O (upd Rk j X) 0 B:=by
 have n:∀op∈#[x,y],op=x\/op=y:=by intro op b;simpa using b
 have m:∀op∈#[x,y],op.act ≠ .mark .disable/\op.act ≠ .mark .enable:=by
  intro op b;rcases n op b with rfl|rfl
  .rw[i.2];exact⟨by simp,by simp⟩
  .rw[g.2];exact⟨by simp,by simp⟩
 have q:∀op∈#[x,y],op.act.touch?=none:=by
  intro op b;rcases n op b with rfl|rfl
  .rw[i.2];rfl
  .rw[g.2];rfl
 have p:CT (Shr Wg aS) (aa0 C K0 O) (RdL K0 (upd Rk j X)) t (K0+j):=agh h.ct (λ_ _ _ _ d=>.inl d) (λ_ _ _ _ d=>d) (λk _ G l=>by
  constructor
  .rintro⟨c,rfl,d⟩;rw[qI Rk _ (by omega)] at d;exact⟨c,rfl,d⟩
  .rintro⟨c,rfl,d⟩;exact⟨c,rfl,by rw[qI Rk _ (by omega)];exact d⟩)
 refine⟨?_,h.norel.app λop b=> ?_,by rw[Deaf_still t 0 _ m,h.deaf0],λc u=> ?_,λc u o=> ?_,seen_app h.seen λop b=> ?_,abV h.over λop b=>.inr (.inr (q op b)),pU h.known λop b=>.inr (.inr (q op b))⟩
 .have:=p.fork A i g h.deaf0
  rwa [uQ] at this
 .rcases n op b with rfl|rfl
  .rw[i.2];simp
  .rw[g.2];simp
 .rw[Deaf_still t _ _ m];rcases oR c j with f|w
  .rw[h.deafW c f,qI D _ (by omega)]
  .obtain rfl:c=j:=by omega
   rw[qe];exact Deaf_absent λa op F e=>by have:=h.ct.gs a op F;omega
 .rcases oR c j with f|w
  .rw[qI D _ (by omega)] at o;obtain⟨r,E,v⟩:=h.rel c f o;refine⟨r,E.appNot λop b=> ?_,v.app λop b H z s=>by rw[q op b] at s;cases s⟩;rcases n op b with rfl|rfl
   .rw[i.1];omega
   .rw[g.1];omega
  .obtain rfl:c=j:=by omega
   rw[qe] at o;simp at o
 .rcases n op b with rfl|rfl
  .rw[i.2];trivial
  .rw[g.2];trivial
def TI.join(h:TI Wg C K0 aS j t D O Rk 0 B)(P:∀d,d<j->(D d).stage<=6)(A:Apart (Shr Wg aS) (aa0 C K0 O) (RdL K0 Rk))(fn:FuncId)(pos:String)(N:Wg<B) :
  eD (λb=>b=Wg\/aS b) (K0+j) B (t++MemOp.ofEvents 0 fn pos #[Go.ConcR.mk (.acquire (stA Wg))]):=by
 have I:MemOp.ofEvents 0 fn pos #[Go.ConcR.mk (.acquire (stA Wg))]=#[{g:=0,fn,pos,act:=.mark (.acquire (stA Wg))}]:=by rw[ofEvents_eq];simp[ofEvent_mk]
 have E:(t++#[({g:=0,fn,pos,act:=.mark (.acquire (stA Wg))}:MemOp)])[t.size]?=some {g:=0,fn,pos,act:=.mark (.acquire (stA Wg))}:=by simp
 have f:=h.app0 (am B) A (fn:=fn) (pos:=pos) (es:=#[Go.ConcR.mk (.acquire (stA Wg))]) (λop a=>by
   rw[I] at a;simp at a;subst a;exact⟨rfl,λx v=>by simp[MemAct.touch?] at v⟩) (by intro e l;simp at l;subst l;simp[Go.ConcR.mk]) (λop a=>by
   rw[I] at a;simp at a;subst a;exact N)
 rw[I] at f ⊢;have F:(t++#[({g:=0,fn,pos,act:=.mark (.acquire (stA Wg))}:MemOp)]).act? t.size=some (.mark (.acquire (stA Wg))):=by rw[act?_of E]
 have n:(t++#[({g:=0,fn,pos,act:=.mark (.acquire (stA Wg))}:MemOp)]).g? t.size=some 0:=by simp[Trace.g?]
 have H:(t++#[({g:=0,fn,pos,act:=.mark (.acquire (stA Wg))}:MemOp)]).heard t.size:=⟨0,n,by rw[deaf_old (am _)];exact h.deaf0⟩;have q:∀d,d<j->∃r,RelBy (stA Wg) (t++#[({g:=0,fn,pos,act:=.mark (.acquire (stA Wg))}:MemOp)]) (K0+1+d) r/\nt Wg aS (t++#[({g:=0,fn,pos,act:=.mark (.acquire (stA Wg))}:MemOp)]) (K0+1+d) r/\
   HappensBefore (t++#[({g:=0,fn,pos,act:=.mark (.acquire (stA Wg))}:MemOp)]) r t.size:=λd J=>by
  obtain⟨r,o,s⟩:=h.rel d J (P d J);have G:=lt_of_act? o.act;have m:RelBy (stA Wg) (t++#[({g:=0,fn,pos,act:=.mark (.acquire (stA Wg))}:MemOp)]) (K0+1+d) r:=o.appNot λop a=>by simp at a;subst a;show 0≠_;omega
  exact⟨r,m,s.app λop a e=>by simp at a;subst a;have:(0:Nat)=K0+1+d:=e;omega,.single (.inr ⟨.marked G (.inr m.act) F (λk _ _=>f.norel k),m.heard,H⟩)⟩
 refine⟨f.ct.nr,λi op x p v L=> ?_,f.ct.quiet,λi g u y M=> ?_,by rw[f.deaf0];rfl,f.seen,λop a=> ?_⟩
 .rcases oR K0 op.g with w|z
  .obtain⟨d,K⟩:∃d,op.g=K0+1+d:=⟨op.g-(K0+1),by omega⟩;have:=f.ct.gs i op p;obtain⟨r,o,s,l⟩:=q d (by omega);rcases tn r i with c|c|c
   .exact absurd (s i op x c p K v) L
   .subst c;exact⟨t.size,_,E,rfl,.inr l⟩
   .exact⟨t.size,_,E,rfl,.inr (.trans (.single (.inl ⟨c,_,by simp only[Trace.g?,p,qf];rw[K],o.g⟩)) l)⟩
  .exact f.known i op x p z v L
 .rcases oR K0 g with w|z
  .obtain⟨d,rfl⟩:∃d,g=K0+1+d:=⟨g-(K0+1),by omega⟩;obtain⟨op,p,R⟩:=io.1 u;have:=f.ct.gs i op p;obtain⟨r,o,s,l⟩:=q d (by omega);rcases tn r i with c|c|c
   .exact absurd M (o.after i c u)
   .subst c;exact⟨t.size,n,l⟩
   .exact⟨t.size,n,.trans (.single (.inl ⟨c,_,u,o.g⟩)) l⟩
  .exact f.over i g u y z M
 .obtain⟨i,Q⟩:=vH.1 a;exact f.ct.gs i op Q
def TI.begin(h:eD aS K0 B t)(A:∀(i:Nat) (x:Touch),touchAt t i=some x->∀a,x.loc=.cell a->a.block≠Wg)(z:NoRelease (stA Wg) t):TI Wg C K0 aS 0 t D O Rk 0 B:=by
 have j:∀k,k<=K0->∀l,¬aa0 C K0 O k l:=λk H l ⟨q,e,_⟩=>by omega
 have G:∀(i:Nat) (x:Touch),touchAt t i=some x->Shr Wg aS x.loc->ShL aS x.loc:=λi x f ⟨a,e,h⟩=>⟨a,e,h.resolve_left (A i x f a e)⟩;have s:∀l,¬Shr Wg aS l->Perm t 0 l:=λl n i a E e=>by
  obtain⟨op,d,r⟩:=touch_of E;exact h.known i op a d r λ⟨b,p,c⟩=>n (e▸⟨b,p,.inr c⟩)
 refine⟨⟨λi op x d f c=>h.quiet i op x d f (G i x (by rw[touchAt_of d];exact f) c),λk v u l n=>absurd n (j k u l),λk v u l ⟨q,e,_⟩=>by omega,λl c _=>s l c,λl c _=>.of (s l c),h.clean,λi op d=>h.gs op (qw d)⟩,
  z,h.hears,λq w=>by omega,λq w=>by omega,h.seen,λi g y m _ F=>h.over i g y m F,λi op x d _ f c=>h.known i op x d f λ⟨b,p,o⟩=>c ⟨b,p,.inr o⟩⟩
end
end
section
open Go.Conc Go.ConcN
open Go.ConcR (KK wgBlock WgAt stA smA rd wr mk Payload DC0 Bk g_of_ofEvents ofEvent_mk ofEvent_loc_mark loc_of_ofEvent bk_of_mute again_blocked)
variable [Payload]
section
variable {P:Program} {ty:TypeId} {Wg C n:Nat} {val:Nat->Value} {κ s m d:Nat} {R S:ak} {T:jg} {g:Goroutine} {w w':World}
def WK.rely(h:WK P ty Wg C n val κ R s m d T S g w)(b:jz ty Wg C (2*n) R (dB κ) S w w'):WK P ty Wg C n val κ R s m d T S g w':=by
 cases h with
 |work h=>
  have a:∀S x y z,jz ty Wg C (2*n) R (dB κ) S x y->jz ty Wg C (2*n) R (dB κ) S y z->jz ty Wg C (2*n) R (dB κ) S x z:=λ_ _ _ _ e c=>e.trans c;exact .work (pT.rely a h b)
 |rest f h=>exact .rest f (h.rely (by rw[Nat.add_sub_cancel];exact b.rw (i:=2*κ) (by unfold dB;omega)))
def WK.status(h:WK P ty Wg C n val κ R s m d T S g w):g.status=.running\/g.status=.finished:=by
 cases h with
 |work h=>exact .inl (pT.running (λ_ _ _ x=>x.1.1) (λ_ _=>jz.refl _ _ _ _) h)
 |rest a h=>exact h.status
def WK.woken(h:WK P ty Wg C n val κ R s m d T S g w)(a b:Goroutine)(w':World):woken P a b w' g=g:=by
 unfold Go.Conc.woken;split
 .exact again_running _ h.status
 .rfl
def WK.running_of(h:WK P ty Wg C n val κ R s m d T S g w)(a:s≠1):g.status=.running:=by
 cases h with
 |work h=>exact pT.running (λ_ _ _ x=>x.1.1) (λ_ _=>jz.refl _ _ _ _) h
 |rest _ h=>exact h.running_of a
end
section
variable {P:Program} {ty:TypeId} {Wg C n:Nat} {val:Nat->Value} {aM Fin:ak->ak->Goroutine->World->Prop} {tag:CTag} {j f d:Nat} {R S:ak} {T:jg} {a:Goroutine} {w w':World}
def eQ.rely(h:eQ P ty Wg C n val aM Fin tag j R S T f d a w)(b:RM ty Wg C n R S w w'):eQ P ty Wg C n val aM Fin tag j R S T f d a w':=by
 have c:∀x y z,RM ty Wg C n R S x y->RM ty Wg C n R S y z->RM ty Wg C n R S x z:=λ_ _ _ m l=>m.trans l;have e:∀S x y z,jz ty Wg C (2*n) R noC S x y->jz ty Wg C (2*n) R noC S y z->jz ty Wg C (2*n) R noC S x z:=λ_ _ _ _ m l=>m.trans l;cases h with
 |skd g h=>exact .skd g (pT.rely e h b)
 |sa1 g h=>exact .sa1 g (tj c h b)
 |ske g h=>exact .ske g (tj c h b)
 |sgo g h=>exact .sgo g (pT.rely e h b)
 |kd h=>exact .kd (pT.rely e h b)
 |anch h=>exact .anch (tj c h b)
 |w1 h=>exact .w1 (tj c h b)
 |w2 h=>exact .w2 (tj c h b)
 |w3 h=>exact .w3 (tj c h b)
 |blk h=>exact .blk (λk i=>h k (b.trans i))
 |w4 h=>exact .w4 (tj c h b)
 |ke h=>exact .ke (tj c h b)
 |acq h=>exact .acq (tj c h b)
def eQ.status(c:∀R S g w,aM R S g w->g.status=.running)(h:eQ P ty Wg C n val aM Fin tag j R S T f d a w):(a.status=.running/\tag ≠ .blk)\/(a.status=.blocked/\tag=.blk):=by
 have b:RM ty Wg C n R S w w:=.refl _ _ _ _;cases h with
 |skd _ h=>exact .inl ⟨pT.running (λ_ _ _ x=>x.1) (λ_ _=>jz.refl _ _ _ _) h,by simp⟩
 |sa1 _ h=>exact .inl ⟨so (λ_ _ x=>x.1) w b h,by simp⟩
 |ske _ h=>exact .inl ⟨so (λ_ _ x=>x.1) w b h,by simp⟩
 |sgo _ h=>exact .inl ⟨pT.running (λ_ _ _ x=>x.1) (λ_ _=>jz.refl _ _ _ _) h,by simp⟩
 |kd h=>exact .inl ⟨pT.running (λ_ _ _ x=>x.1) (λ_ _=>jz.refl _ _ _ _) h,by simp⟩
 |anch h=>exact .inl ⟨so (c _ _) w b h,by simp⟩
 |w1 h=>exact .inl ⟨so (λ_ _ x=>x.1) w b h,by simp⟩
 |w2 h=>exact .inl ⟨so (λ_ _ x=>x.1) w b h,by simp⟩
 |w3 h=>exact .inl ⟨so (λ_ _ x=>x.1) w b h,by simp⟩
 |blk h=>exact .inr ⟨rfl,rfl⟩
 |w4 h=>exact .inl ⟨so (λ_ _ x=>x.1) w b h,by simp⟩
 |ke h=>exact .inl ⟨so (λ_ _ x=>x.1) w b h,by simp⟩
 |acq h=>exact .inl ⟨so (λ_ _ x=>x.1) w b h,by simp⟩
def eQ.wokenBy(i:∀R S g w,aM R S g w->g.status=.running)(h:eQ P ty Wg C n val aM Fin tag j R S T f d a w)(p:RM ty Wg C n R S w w')(g g':Goroutine) :
  ∃b k,eQ P ty Wg C n val aM Fin b j R S T k d (woken P g g' w' a) w'/\k<=f+1/\(b=tag\/(tag=.blk/\b=.w3))/\(mayWake P g=true->g'.status=.running->b ≠ .blk):=by
 have c:=h.rely p;unfold Go.Conc.woken;split
 .rcases c.status i with⟨q,e⟩|⟨_,rfl⟩
  .exact⟨tag,f,by rw[again_running _ (.inl q)];exact c,by omega,.inl rfl,λ_ _=>e⟩
  .cases c with
   |blk m=>
    rename_i t;have l:=m w' (.refl _ _ _ _);exact⟨.w3,0+1,by rw[again_blocked l.1 l.2.1];exact .w3 (qu m),by omega,.inr ⟨rfl,rfl⟩,λ_ _=>by simp⟩
 .rename_i s;exact⟨tag,f,c,by omega,.inl rfl,λr o=>absurd (by simp[r,o]) s⟩
def eQ.bound(h:eQ P ty Wg C n val aM Fin tag j R S T f d a w):j+pend tag<=n:=by
 cases h<;>simp only[pend]<;>(try simp)<;>omega
end
section
variable (P:Program) (ty:TypeId) (Wg C n K0:Nat) (val:Nat->Value) (aS:ak) (aM Fin:ak->ak->Goroutine->World->Prop)
structure MI (j:Nat) (gs:Array Goroutine) (w:World) (t:Trace) (D:Nat->WD) (TV:Nat->jg) (R S:ak) (O Rk:Nat->ak) (q:Nat->Nat) (d0:Nat):Prop where
 size:gs.size=K0+1+j
 old:∀i g,0<i->i<=K0->gs[i]?=some g->QuitsD P (q i) (Deaf t i) g
 wk:∀κ,κ<j->∃g,gs[K0+1+κ]?=some g/\WK P ty Wg C n val κ (Rk κ) (D κ).stage (D κ).fuel (D κ).deaf (TV (κ+1)) (O κ) g w
 ti:TI Wg C K0 aS j t D O Rk d0 w.heap.size
 cj:Sets Wg C aS w R S O Rk
 has:∀κ,κ<j->(D κ).stage<=6->Has C (2*κ) (val (2*κ)) w/\Has C (2*κ+1) (val (2*κ+1)) w
 pay:PayAt C (2*n) w
 unO:∀κ,j<=κ->O κ=λ_=>False
def aae(μ:Mu)(m:Machine)(t:Trace):Prop:=
 ∃(d:Array Goroutine) (w:World) (sl:Option (Nat×Nat)) (j:Nat) (D:Nat->WD) (c:Nat->jg) (R S:ak) (O g:Nat->ak) (q:Nat->Nat) (b:CTag) (f e:Nat) (a:Goroutine) (st sm:Int),
  m=crowd d w sl/\d[0]?=some a/\eQ P ty Wg C n val aM Fin b j R S (c 0) f e a w/\MI P ty Wg C n K0 val aS j d w t D c R S O g q e/\WgAt ty Wg w st sm/\ConcN.Mode j D b st sm/\
  μ=(phi n (Vc j D) b+Ssum j D,(c,f+2*Fsum j D+2*sumTo (K0+1) q))
def anv(m:Machine)(t:Trace):Prop:=
 ∃(d:Array Goroutine) (w:World) (sl:Option (Nat×Nat)) (a:Goroutine) (q:Nat->Nat) (R S:ak),
  m=crowd d w sl/\d[0]?=some a/\d.size=K0+1+n/\Fin R S a w/\Leavers P t d q/\eD (λb=>b=Wg\/aS b) (K0+n) w.heap.size t/\PayAt C (2*n) w/\(∀c,c<n->Has C (2*c) (val (2*c)) w/\Has C (2*c+1) (val (2*c+1)) w)/\WgLive ty Wg w/\
  (∀b,aS b\/b=Wg->¬R b/\¬S b/\b≠C/\b<w.heap.size)
end
section
variable {P:Program} {ty:TypeId} {Wg C n K0:Nat} {val:Nat->Value} {aS:ak} {aM Fin:ak->ak->Goroutine->World->Prop}
 {gs:Array Goroutine} {w w':World} {sl:Option (Nat×Nat)} {j:Nat} {D:Nat->WD} {TV:Nat->jg} {R S:ak} {O Rk:Nat->ak} {q:Nat->Nat} {tag:CTag} {f0 d0:Nat} {a:Goroutine} {t:Trace} {st sm:Int}
omit [Payload] in
def ajg{a:Type}(f:Nat->a)(i:Nat):upd f i (f i)=f:=by
 funext x
 by_cases e:x=i
 .subst e;rw[qe]
 .rw[qI f _ e]
def MI.at(h:MI P ty Wg C n K0 val aS j gs w t D TV R S O Rk q d0)(d:Nat):MI P ty Wg C n K0 val aS j gs (w.at d) t D TV R S O Rk q d0:=
 ⟨h.size,h.old,λc a=>let⟨g,b,e⟩:=h.wk c a;⟨g,b,e.rely (.at _ _ _ w d)⟩,h.ti,h.cj.at d,h.has,h.pay,h.unO⟩
def oW (a4:∀R S g w,aM R S g w->g.status=.running) (ha:gs[0]?=some a) (lh:eQ P ty Wg C n val aM Fin tag j R S (TV 0) f0 d0 a w) (o:MI P ty Wg C n K0 val aS j gs w t D TV R S O Rk q d0)
  (N:κ<j) {g g':Goroutine} {s' : Nat} {T':jg} {G:ak} {A u:Int} (hg:gs[K0+1+κ]?=some g) (a5:stepG P false g w=.go g' w' es)
  (p:RM ty Wg C n R S w w') (H:∀c,c<j->c≠κ->jz ty Wg C (2*n) (Rk c) (dB c) (O c) w w')
  (T:WK P ty Wg C n val κ (Rk κ) s' m' V T' G g' w') (hO:∀b,O κ b->G b) (J:∀b,G b->O κ b\/(w.heap.size<=b/\b<w'.heap.size))
  (Y:∀op∈MemOp.ofEvents (K0+1+κ) g.frame.fn g.frame.place es,OkW (Shr Wg aS) (aa0 C K0 (upd O κ G)) (RdL K0 Rk) (K0+1+κ) op) (W:∀e∈es,e.loc ≠ .mark (.release (stA Wg)))
  (a0:deafBehind (D κ).deaf es=V) (Z:∀op∈MemOp.ofEvents (K0+1+κ) g.frame.fn g.frame.place es,op.act.low w'.heap.size)
  (hrel:s'<=6->∃r,RelBy (stA Wg) (t++MemOp.ofEvents (K0+1+κ) g.frame.fn g.frame.place es) (K0+1+κ) r/\nt Wg aS (t++MemOp.ofEvents (K0+1+κ) g.frame.fn g.frame.place es) (K0+1+κ) r)
  (a3:s'<=6->Has C (2*κ) (val (2*κ)) w'/\Has C (2*κ+1) (val (2*κ+1)) w') (a1:PayAt C (2*n) w') (eO:WgAt ty Wg w' A u)
  (aZ:∀l,(l=tag\/(tag=.blk/\l=.w3))->(mayWake P g=true->g'.status=.running->l ≠ .blk)->ConcN.Mode j (upd D κ ⟨s',m',V⟩) l A u)
  (a2:(s'<(D κ).stage/\cnt ⟨s',m',V⟩<=cnt (D κ))\/(s'=(D κ).stage/\jg.Lt T' (TV (κ+1)))\/(s'=(D κ).stage/\T'=TV (κ+1)/\m'+1=(D κ).fuel)) :
  ∃m I lS,runT P (crowd gs w sl) (K0+1+κ)=(.next m,I)/\aaY (n+1) lS (phi n (Vc j D) tag+Ssum j D,(TV,f0+2*Fsum j D+2*sumTo (K0+1) q))/\aae P ty Wg C n K0 val aS aM Fin lS m (t++I):=by
 obtain⟨l,f',oX,a6,B,X⟩:=lh.wokenBy a4 p g g';have s:(K0+1+κ ==0)=false:=by simp
 have F:=sY (P:=P) (sl:=sl) (i:=K0+1+κ) hg (by rw[s];exact a5);have e1:=sumTo_upd D (⟨s',m',V⟩:WD) cnt N;have e2:=sumTo_upd D (⟨s',m',V⟩:WD) WD.stage N;have e3:=sumTo_upd D (⟨s',m',V⟩:WD) WD.fuel N;have hb:=lh.bound;have E:=o.cj.aAe (w':=w') p.size J;refine⟨_,_,(phi n (Vc j (upd D κ ⟨s',m',V⟩)) l+Ssum j (upd D κ ⟨s',m',V⟩),(upd TV (κ+1) T',f'+2*Fsum j (upd D κ ⟨s',m',V⟩)+2*sumTo (K0+1) q)),F, ?_,
  _,w',sl,j,upd D κ ⟨s',m',V⟩,upd TV (κ+1) T',R,S,upd O κ G,Rk,q,l,f',d0,woken P g g' w' a,A,u,rfl,by rw[sO _ _ _ _ (by omega),ha];rfl,by rw[qI TV _ (by omega)];exact oX, ?_,eO,aZ l B X,rfl⟩
 .rw[phi_retag n _ B];simp only[Vc,Ssum,Fsum] at *;rcases a2 with⟨Q,L⟩|⟨Q,L⟩|⟨Q,L,h3⟩
  .refine Prod.Lex.left _ _ ?_;have:=phi_mono n (v':=sumTo j λa=>cnt (upd D κ ⟨s',m',V⟩ a)) (v:=sumTo j λa=>cnt (D a)) (by omega) tag;omega
  .have ec:cnt (⟨s',m',V⟩:WD)=cnt (D κ):=by simp only[cnt,Q]
   have U:(sumTo j λa=>cnt (upd D κ ⟨s',m',V⟩ a))=sumTo j λa=>cnt (D a):=by omega
   have z:(sumTo j λa=>(upd D κ ⟨s',m',V⟩ a).stage)=sumTo j λa=>(D a).stage:=by omega
   rw[U,z];refine Prod.Lex.right _ (Prod.Lex.left _ _ ⟨κ+1,by omega,by rw[qe];exact L,λk hk=>qI TV _ hk⟩)
  .have ec:cnt (⟨s',m',V⟩:WD)=cnt (D κ):=by simp only[cnt,Q]
   have U:(sumTo j λa=>cnt (upd D κ ⟨s',m',V⟩ a))=sumTo j λa=>cnt (D a):=by omega
   have z:(sumTo j λa=>(upd D κ ⟨s',m',V⟩ a).stage)=sumTo j λa=>(D a).stage:=by omega
   rw[U,z,L,ajg];refine Prod.Lex.right _ (Prod.Lex.right _ ?_);omega
 .refine⟨by simp[o.size],λi x s hi M=> ?_,λc d=> ?_,o.ti.appW p.size N E.apart hO (λb x=>(J b x).imp id (·.1)) Y W a0 Z hrel,E,λc d f=> ?_,a1,λc d=>by rw[qI O _ (by omega)];exact o.unO c d⟩
  .rw[sO _ _ _ _ (by omega)] at M;obtain⟨y,hy,rfl⟩:=io.1 M;have hq:=o.old i y s hi hy;rw[sQ hq,rb t (by omega) _ g_of_ofEvents];exact hq
  .by_cases e:c=κ
   .subst e;exact⟨g',ur _ _ _ (by rw[o.size];omega),by rw[qe,qe,qe];exact T⟩
   .obtain⟨x,M,K⟩:=o.wk c d;refine⟨x,by rw[sO _ _ _ _ (by omega),M,qf,K.woken], ?_⟩;rw[qI D _ e,qI TV _ (by omega),qI O _ e];exact K.rely (H c d e)
  .by_cases e:c=κ
   .subst e;rw[qe] at f;exact a3 f
   .rw[qI D _ e] at f;have hh:=o.has c d f;have hr:=H c d e;exact⟨(hr.cell (2*c) (by unfold dB;omega)).trans hh.1,(hr.cell (2*c+1) (by unfold dB;omega)).trans hh.2⟩
def jA (ha:gs[0]?=some a) (d:MI P ty Wg C n K0 val aS j gs w t D TV R S O Rk q d0)
  {dF:CTag} {f':Nat} {T':jg} {G:ak} {l g:Int} (F:stepG P true a w=.go T w' es)
  (Q:w.heap.size<=w'.heap.size) (o:∀c,c<j->jz ty Wg C (2*n) (Rk c) (dB c) (O c) w w') (E:∀b,G b->S b\/(w.heap.size<=b/\b<w'.heap.size))
  (H:∀op∈MemOp.ofEvents 0 a.frame.fn a.frame.place es,Ok0 (Shr Wg aS) (aa0 C K0 O) (RdL K0 Rk) (K0+j) op) (B:∀e∈es,e.loc ≠ .mark (.release (stA Wg))) (I:∀op∈MemOp.ofEvents 0 a.frame.fn a.frame.place es,op.act.low w'.heap.size)
  (J:PayAt C (2*n) w') (oX:eQ P ty Wg C n val aM Fin dF j R G T' f' (deafBehind d0 es) T w') (Y:WgAt ty Wg w' l g) (aZ:ConcN.Mode j D dF l g)
  (v:phi n (Vc j D) dF<phi n (Vc j D) tag\/(phi n (Vc j D) dF=phi n (Vc j D) tag/\(jg.Lt T' (TV 0)\/(T'=TV 0/\f'<f0)))) :
  ∃f p M,runT P (crowd gs w sl) 0=(.next f,p)/\aaY (n+1) M (phi n (Vc j D) tag+Ssum j D,(TV,f0+2*Fsum j D+2*sumTo (K0+1) q))/\aae P ty Wg C n K0 val aS aM Fin M f (t++p):=by
 have r:=sY (P:=P) (sl:=sl) (i:=0) ha (by simpa using F);have z:=d.cj.awt (w':=w') Q E;refine⟨_,_,(phi n (Vc j D) dF+Ssum j D,(upd TV 0 T',f'+2*Fsum j D+2*sumTo (K0+1) q)),r, ?_,
  _,w',sl,j,D,upd TV 0 T',R,G,O,Rk,q,dF,f',deafBehind d0 es,T,l,g,rfl,ur _ _ _ (by rw[d.size];omega),by rw[qe];exact oX, ?_,Y,aZ,rfl⟩
 .rcases v with h|⟨N,h|⟨W,h3⟩⟩
  .exact Prod.Lex.left _ _ (by omega)
  .rw[N];exact Prod.Lex.right _ (Prod.Lex.left _ _ ⟨0,by omega,by rw[qe];exact h,λk X=>qI TV _ X⟩)
  .rw[N,W,ajg];exact Prod.Lex.right _ (Prod.Lex.right _ (by omega))
 .refine⟨by simp[d.size],λi x K hi u=> ?_,λc m=> ?_,d.ti.app0 Q d.cj.apart H B I,z,λc m A=> ?_,J,d.unO⟩
  .rw[sO _ _ _ _ (by omega)] at u;obtain⟨y,Z,rfl⟩:=io.1 u;have L:=d.old i y K hi Z;rw[sQ L,rb t (by omega) _ g_of_ofEvents];exact L
  .obtain⟨x,u,s⟩:=d.wk c m;refine⟨x,by rw[sO _ _ _ _ (by omega),u,qf,s.woken], ?_⟩;rw[qI TV _ (by omega)];exact s.rely (o c m)
  .have U:=d.has c m A;have V:=o c m;exact⟨(V.cell (2*c) (by unfold dB;omega)).trans U.1,(V.cell (2*c+1) (by unfold dB;omega)).trans U.2⟩
def arI (z:∀R S g w,aM R S g w->g.status=.running) (ha:gs[0]?=some a) (Y:eQ P ty Wg C n val aM Fin tag j R S (TV 0) f0 d0 a w) (c:MI P ty Wg C n K0 val aS j gs w t D TV R S O Rk q d0) (Q:WgAt ty Wg w st sm) (aZ:ConcN.Mode j D tag st sm)
  (l:0<i) (hi:i<=K0) {g:Goroutine} (G:gs[i]?=some g) (b:g.status=.running) :
  ∃d p H,runT P (crowd gs w sl) i=(.next d,p)/\aaY (n+1) H (phi n (Vc j D) tag+Ssum j D,(TV,f0+2*Fsum j D+2*sumTo (K0+1) q))/\aae P ty Wg C n K0 val aS aM Fin H d (t++p):=by
 have u:=c.old i g l hi G;cases f:q i with
 |zero=>rw[f] at u;rw[u.1] at b;cases b
 |succ k=>
  rw[f] at u;rcases u with⟨U,_⟩|⟨_,I,es,Z,v,E⟩
  .rw[U] at b;cases b
  have B:(i ==0)=false:=by simp;omega
  have F:=sY (P:=P) (sl:=sl) (i:=i) G (by rw[B];exact v w);obtain⟨J,K,oX,T,o,V⟩:=Y.wokenBy z (.refl _ _ _ w) g I;have X:sumTo (K0+1) (upd q i k)+(k+1)=sumTo (K0+1) q+k:=by
   have:=sumTo_upd q k id (show i<K0+1 by omega);simpa[f] using this
  refine⟨_,_,(phi n (Vc j D) J+Ssum j D,(TV,K+2*Fsum j D+2*sumTo (K0+1) (upd q i k))),F, ?_,
   _,w,sl,j,D,TV,R,S,O,Rk,upd q i k,J,K,d0,woken P g I w a,st,sm,rfl,by rw[sO _ _ _ _ (by omega),ha];rfl,oX, ?_,Q,aZ.retag o,rfl⟩
  .rw[phi_retag n _ o];exact Prod.Lex.right _ (Prod.Lex.right _ (by omega))
  .refine⟨by simp[c.size],λL x l A m=> ?_,λN M=> ?_,c.ti.ax2 (by omega) hi Z,c.cj,c.has,c.pay,c.unO⟩
   .by_cases e:i=L
    .subst e;rw[ur _ _ _ (by rw[c.size];omega)] at m;obtain rfl:=dq m;rw[qe,Deaf_own];exact E
    .rw[sO _ _ _ _ e] at m;obtain⟨y,W,rfl⟩:=io.1 m;have r:=c.old L y l A W;rw[sQ r,qI q k (sP e),rb t e _ g_of_ofEvents];exact r
   .obtain⟨x,m,s⟩:=c.wk N M;exact⟨x,by rw[sO _ _ _ _ (by omega),m,qf,s.woken],s⟩
end
end
section
open Go.Conc Go.ConcN
open Go.ConcR (KK wgBlock WgAt stA smA rd wr mk Payload DC0 Bk g_of_ofEvents ofEvent_mk ofEvent_loc_mark loc_of_ofEvent bk_of_mute again_blocked)
section
variable {Wg C K0:Nat} {aS:ak}
def alI(h:ShN Wg l):Shr Wg aS l:=let⟨a,e,h⟩:=h;⟨a,e,.inl h⟩
def ajh{e:Event}(h:Bk Wg e){x:Touch}(b:(MemAct.ofEvent e).touch?=some x):Shr Wg aS x.loc:=by
 rcases h with h|h|⟨a,wr,rfl,c⟩
 .rw[ofEvent_loc_mark h] at b;cases b
 .rw[ofEvent_loc_mark h] at b;cases b
 .simp[MemAct.ofEvent,MemAct.touch?] at b;subst b;exact⟨a,rfl,.inl c⟩
def ax4{e:Event}(h:Bk Wg e)(b:Wg<B):(MemAct.ofEvent e).low B:=by
 rcases h with h|h|⟨a,wr,rfl,c⟩
 .rw[ofEvent_loc_mark h];trivial
 .rw[ofEvent_loc_mark h];trivial
 .show a.block<B;omega
def ax5{Rd : Nat->Loc->Prop}{fn:FuncId}(h:∀e∈es,Bk Wg e):∀op∈MemOp.ofEvents k fn pos es,OkW (Shr Wg aS) Own Rd k op:=λop c=>
 let⟨g,d⟩:=okW_of_Bk (Own:=Own) (Rd:=Rd) h op c;⟨g,λx f=>(d x f).imp (λ⟨a,b⟩=>⟨alI a,b⟩) id⟩
def arJ{Rd : Nat->Loc->Prop}{j:Nat}{fn:FuncId}(h:∀e∈es,Bk Wg e):∀op∈MemOp.ofEvents 0 fn pos es,Ok0 (Shr Wg aS) Own Rd j op:=λop c=>by
 obtain⟨e,d,rfl⟩:=lP c;exact⟨rfl,λx b=>.inl ⟨ajh (h e d) b,by
  rcases h e d with h|h|⟨a,wr,rfl,f⟩
  .simp only[ofEvent_loc_mark h] at b;cases b
  .simp only[ofEvent_loc_mark h] at b;cases b
  .simp[MemAct.ofEvent,MemAct.touch?] at b;subst b;simp⟩⟩
def auI{R d:ak}{O c:Nat->ak}{fn:FuncId}(k:O κ=d)(j:c κ=R)(h:∀e∈es,EvP Wg C R (dB κ) d B e) :
  ∀op∈MemOp.ofEvents (K0+1+κ) fn pos es,OkW (Shr Wg aS) (aa0 C K0 O) (RdL K0 c) (K0+1+κ) op:=λop b=>by
 obtain⟨e,i,rfl⟩:=lP b;refine⟨rfl,λx g=> ?_⟩;rcases(h e i).touch x g with a|a|⟨a,f⟩
 .exact .inr (.inl ⟨κ,rfl,.inl (k▸a)⟩)
 .exact .inr (.inl ⟨κ,rfl,.inr a⟩)
 .exact .inr (.inr ⟨⟨κ,rfl,j▸a⟩,f⟩)
def anw{R c b:ak}{fn:FuncId}(h:∀e∈es,EvP Wg C R c b B e):∀op∈MemOp.ofEvents g fn pos es,op.act.low B:=λop a=>by
 obtain⟨e,d,rfl⟩:=lP a;exact(h e d).low
def ahH(b:Wg<B){fn:FuncId}(h:∀e∈es,Bk Wg e):∀op∈MemOp.ofEvents g fn pos es,op.act.low B:=λop a=>by
 obtain⟨e,c,rfl⟩:=lP a;exact ax4 (h e c) b
end
section
variable [Payload] {P:Program} {ty:TypeId} {Wg C n K0:Nat} {val:Nat->Value} {aS:ak} {aM Fin:ak->ak->Goroutine->World->Prop}
 {gs:Array Goroutine} {w w':World} {sl:Option (Nat×Nat)} {j:Nat} {D:Nat->WD} {TV:Nat->jg} {R S:ak} {O Rk:Nat->ak} {q:Nat->Nat} {tag:CTag} {f0 d0:Nat} {a:Goroutine} {t:Trace} {st sm:Int}
def MI.wgO(h:MI P ty Wg C n K0 val aS j gs w t D TV R S O Rk q d0)(d:Aside Wg w w')(a:WgLive ty Wg w')(κ:Nat):jz ty Wg C (2*n) (Rk κ) (dB κ) (O κ) w w':=
 .of_wg d a (λb c e=>by subst e;exact c.elim (h.cj.wo κ) λx=>h.cj.wr (h.cj.rk κ _ x)) h.cj.cw
def MI.wgM(h:MI P ty Wg C n K0 val aS j gs w t D TV R S O Rk q d0)(c:Aside Wg w w')(d:WgLive ty Wg w'):RM ty Wg C n R S w w':=
 .of_wg c d (λb a e=>by subst e;exact a.elim h.cj.ws h.cj.wr) h.cj.cw
def aji (hn:n<2147483648) (al:∀R S g w,aM R S g w->g.status=.running) (N:gs[0]?=some a) (lh:eQ P ty Wg C n val aM Fin tag j R S (TV 0) f0 d0 a w) (p:MI P ty Wg C n K0 val aS j gs w t D TV R S O Rk q d0) (G:WgAt ty Wg w st sm) (aZ:ConcN.Mode j D tag st sm)
  (F:κ<j) {g:Goroutine} (hg:gs[K0+1+κ]?=some g) (U:g.status=.running) :
  ∃l E lS,runT P (crowd gs w sl) (K0+1+κ)=(.next l,E)/\aaY (n+1) lS (phi n (Vc j D) tag+Ssum j D,(TV,f0+2*Fsum j D+2*sumTo (K0+1) q))/\aae P ty Wg C n K0 val aS aM Fin lS l (t++E):=by
 obtain⟨aO,aN,hs⟩:=p.wk κ F;obtain rfl:g=aO:=by rw[hg] at aN;exact dq aN
 have hb:=lh.bound;have bl:=Vc_le j D;have a8:=p.ti.deafW κ F;have hW:=p.cj.wlt;generalize A:(D κ).stage=s at hs;generalize b8:(D κ).fuel=m at hs;generalize a4:(D κ).deaf=dd at hs;rw[a4] at a8;cases hs with
 |work h=>
  rcases h.cases with bW|⟨f,hT,_,d⟩
  .obtain⟨⟨_,a2,u,c,B,hk⟩,b1⟩:=bW w (.refl _ _ _ w);rw[Nat.add_sub_cancel] at a2;have e1:MemOp.ofEvents (K0+1+κ) g.frame.fn g.frame.place #[mk (.releaseMerge (stA Wg))]=#[{g:=K0+1+κ,fn:=g.frame.fn,pos:=g.frame.place,act:=.mark (.releaseMerge (stA Wg))}]:=by rw[ofEvents_eq];simp[ofEvent_mk]
   refine oW (T':=TV (κ+1)) al N lh p F hg c (.refl _ _ _ w) (λ_ _ _=>.refl _ _ _ w) (.rest (by omega) (.k1 hk)) (λ_ x=>x) (λ_ x=>.inl x) (λop J=> ?_) (by intro e k;simp at k;subst k;simp[mk]) (by rw[a4];rfl) (λop J=> ?_)
    (λ_=>⟨t.size,RelBy.new a8 _ _,λi op x hi ho _ _=> ?_⟩) (λ_=>⟨a2,b1⟩) p.pay G (λ_ ht _=>(aZ.counted F (by omega) (.inl rfl) _ _).retag ht) (.inl ⟨by omega,by simp[cnt,A]⟩)
   .rw[e1] at J;simp at J;subst J;exact⟨rfl,λx hx=>by simp[MemAct.touch?] at hx⟩
   .rw[e1] at J;simp at J;subst J;exact hW
   .have:=lt_size_of_getElem? ho;rw[e1] at this;simp at this;omega
  .obtain⟨u,w',es,S',c,hG,b9⟩:=d w (.refl _ _ _ w);have Z:Wg<w.heap.size/\¬O κ Wg/\Wg≠C:=⟨hW,p.cj.wo κ,λe=>p.cj.cw e.symm⟩;have b4:WgAt ty Wg w' st sm:=G.of_block (hG.keep Wg Z.1 Z.2.1 Z.2.2);refine oW al N lh p F hg c
    (.alF hG (λb hb=>hb.elim (λx=>⟨p.cj.slt b x,λy=>p.cj.os κ b y x,λe=>p.cj.cs (e▸x)⟩) λx=>⟨p.cj.rlt b x,λy=>p.cj.orr κ b y x,λe=>p.cj.cr (e▸x)⟩) (λi x=>x.elim) Z)
    (λfY _ ao=>.alF hG (λb hb=>hb.elim (λx=>⟨p.cj.olt fY b x,λy=>ao (p.cj.oo fY κ b x y),λe=>p.cj.co fY (e▸x)⟩) λx=>⟨p.cj.rlt b (p.cj.rk fY b x),λy=>p.cj.orr κ b y (p.cj.rk fY b x),λe=>p.cj.cr (e▸p.cj.rk fY b x)⟩) (λi x y=>ao (x.symm.trans y)) Z)
    (.work b9) hG.mono hG.new (auI (by rw[qe]) rfl hG.ev) (λe k=>(hG.ev e k).rel) (by rw[a4];exact tA (λe k=>⟨(hG.ev e k).dis,(hG.ev e k).en⟩) 0) (anw hG.ev)
    (λh=>by omega) (λh=>by omega) (hG.pay p.pay) b4 (λ_ ht _=>ConcN.Mode.retag (by have:=aZ.same (i:=κ) 0 0;rwa [A] at this) ht) (.inr (.inl ⟨A.symm,by rw[hT];exact⟨f,w,rfl,rfl⟩⟩))
 |rest h6 h=>
  have b0:∀{u:Goroutine} {w':World} {es:Array Event} {V I H:Nat} {W Y:Int},stepG P false g w=.go u w' es->Aside Wg w w'->WgAt ty Wg w' W Y->(∀e∈es,Bk Wg e)->
    (∀jx e,es[jx]?=some e->(MemAct.ofEvent e).touch?=none\/0<deafBehind dd (es.extract 0 jx))->WSit P ty Wg C (2*n) FF FF 0 (2*κ+1) (val (2*κ)) V I H u w'->deafBehind dd es=H->V<=6->
    (∀dF,(dF=tag\/(tag=.blk/\dF=.w3))->(mayWake P g=true->u.status=.running->dF ≠ .blk)->ConcN.Mode j (upd D κ ⟨V,I,H⟩) dF W Y)->((V<s/\cnt ⟨V,I,H⟩<=cnt (D κ))\/(V=s/\I+1=m))->
    ∃l E lS,runT P (crowd gs w sl) (K0+1+κ)=(.next l,E)/\aaY (n+1) lS (phi n (Vc j D) tag+Ssum j D,(TV,f0+2*Fsum j D+2*sumTo (K0+1) q))/\aae P ty Wg C n K0 val aS aM Fin lS l (t++E):=by
   intro u w' es V I H W Y c Q a3 jL hd a0 ad bb an a9;obtain⟨cs,b5,b7⟩:=p.pay;have hl:WgLive ty Wg w':=⟨_,_,a3⟩;have a2:=p.has κ F (by omega);have ec:∀o,w'.cell? ⟨C,o,none⟩=w.cell? ⟨C,o,none⟩:=ul (Q.block C p.cj.cw);exact oW al N lh p F hg c (p.wgM Q hl) (λfY _ _=>p.wgO Q hl fY) (.rest bb a0) (λ_ x=>x) (λ_ x=>.inl x) (ax5 jL) (norel_of_Bk jL) (by rw[a4];exact ad) (ahH (by rw[Q.size];exact hW) jL)
    (λ_=>let⟨r,hr,ba⟩:=p.ti.rel κ F (by omega);⟨r,hr.book a8 _ _ jL hd,ba.app λop J _ x hx=>by obtain⟨e,k,rfl⟩:=lP J;exact ajh (jL e k) hx⟩)
    (λ_=>⟨(ec _).trans a2.1,(ec _).trans a2.2⟩) ⟨cs,(Q.block C p.cj.cw).trans b5,b7⟩ a3 an
    (by rw[A,b8];exact a9.imp id λx=>.inr ⟨x.1,rfl,x.2⟩)
  have z:∀{u:Goroutine} {w':World} {es:Array Event} {V I H:Nat} {W Y:Int},stepG P false g w=.go u w' es->Aside Wg w w'->WgAt ty Wg w' W Y->(∀e∈es,Bk Wg e)->
    (∀jx e,es[jx]?=some e->(MemAct.ofEvent e).touch?=none\/0<deafBehind dd (es.extract 0 jx))->WSit P ty Wg C (2*n) FF FF 0 (2*κ+1) (val (2*κ)) V I H u w'->deafBehind dd es=H->V<=6->
    ConcN.Mode j (upd D κ ⟨V,I,H⟩) tag W Y->((V<s/\cnt ⟨V,I,H⟩<=cnt (D κ))\/(V=s/\I+1=m))->
    ∃l E lS,runT P (crowd gs w sl) (K0+1+κ)=(.next l,E)/\aaY (n+1) lS (phi n (Vc j D) tag+Ssum j D,(TV,f0+2*Fsum j D+2*sumTo (K0+1) q))/\aae P ty Wg C n K0 val aS aM Fin lS l (t++E):=
   λc Q a3 jL hd a0 ad h6 an a9=>b0 c Q a3 jL hd a0 ad h6 (λ_ ht _=>an.retag ht) a9
  have K:∀{u:Goroutine} {I:Nat},stepG P false g w=.go u w #[]->WSit P ty Wg C (2*n) FF FF 0 (2*κ+1) (val (2*κ)) s I dd u w->I+1=m->
    ∃l E lS,runT P (crowd gs w sl) (K0+1+κ)=(.next l,E)/\aaY (n+1) lS (phi n (Vc j D) tag+Ssum j D,(TV,f0+2*Fsum j D+2*sumTo (K0+1) q))/\aae P ty Wg C n K0 val aS aM Fin lS l (t++E):=by
   intro u I c a0 hm;exact z c (.refl Wg w) G (by simp) (by simp) a0 rfl h6 (by have:=aZ.same (i:=κ) I dd;rwa [A] at this) (.inr ⟨rfl,hm⟩)
  cases h with
  |r0 h=>omega
  |k1 h=>
   rcases rJ h with bW|⟨I,rfl,d⟩
   .obtain⟨_,u,c,B,hk⟩:=bW w (tY w);exact z c (.refl Wg w) G (by intro e k;simp at k;subst k;exact .inl rfl) (by intro jx e k;exact .inl (by have:=qw k;simp at this;subst this;rfl)) (.d1 hk) rfl (by omega)
     (aZ.counted F (by omega) (.inr rfl) _ _) (.inl ⟨by omega,by simp[cnt,A]⟩)
   .obtain⟨u,w',es,c,⟨rfl,rfl⟩,lv⟩:=d w (tY w);exact K c (.k1 lv) rfl
  |d1 h=>
   rcases rJ h with bW|⟨I,rfl,d⟩
   .obtain⟨_,a5⟩:=bW w (tY w);have bi:cnt (D κ)=1:=by simp[cnt,A]
    have bk:1<=Vc j D:=by have:=le_sumTo (f:=λx=>cnt (D x)) F;simp only[Vc];omega
    have a6:∀e∈#[rd (stA Wg),wr (stA Wg)],Bk Wg e:=by intro e k;simp at k;rcases k with rfl|rfl<;>exact ConcN.bk_cell _ _ rfl
    have aa:∀jx e,(#[rd (stA Wg),wr (stA Wg)]:Array Event)[jx]?=some e->(MemAct.ofEvent e).touch?=none\/0<deafBehind 1 ((#[rd (stA Wg),wr (stA Wg)]:Array Event).extract 0 jx):=by
     intro jx e k
     match jx,k with
     |0,_=>exact .inr (by simp[deafBehind])
     |1,_=>exact .inr (by simp[deafBehind,rd])
     |jx+2,k=>simp at k
    have ay:∀q,cnt (⟨1,q,1⟩:WD)=0:=λ_=>rfl;have aJ:∀q,OpenSt j D->OpenSt j (upd D κ ⟨1,q,1⟩):=λq h a N=>by
     by_cases e:a=κ
     .subst e;rw[qe];simp
     .rw[qI D _ e];exact h a N
    cases aZ with
    |opn h1 h2 h3=>
     obtain⟨v,hv⟩:∃v,Vc j D+pend tag=v+1:=⟨Vc j D+pend tag-1,by omega⟩;rw[hv] at G;have cu:WgAt ty Wg w (((v:Nat)+1)*KK+((0:Nat):Int)) 0:=by simpa using G
     obtain⟨u,c,_,X⟩:=a5 v 0 (by omega) (by omega) cu;obtain⟨M,X⟩:=X (by omega);have af:Vc j (upd D κ ⟨1,M,1⟩)+pend tag=v:=by have:=Vc_upd D (⟨1,M,1⟩:WD) F;have:=ay M;omega
     refine z c (sG w (stA Wg) _) (G.setSt _) a6 aa (.quit X) rfl (by omega) ?_ (.inl ⟨by omega,by simp[cnt]⟩);have e:((v:Nat):Int)*KK+((0:Nat):Int)=((Vc j (upd D κ ⟨1,M,1⟩)+pend tag:Nat):Int)*KK:=by rw[af];simp
     rw[e];exact .opn h1 (aJ M h2) (λvs ev=>by have:=h3 vs ev;omega)
    |reg h1 h2 h3=>
     obtain⟨v,hv⟩:∃v,Vc j D=v+1:=⟨Vc j D-1,by omega⟩;rw[hv] at G;have hp:pend tag=0:=by cases tag<;>first|rfl|exact h1.elim
     have cu:WgAt ty Wg w (((v:Nat)+1)*KK+((1:Nat):Int)) 0:=by simpa using G
     obtain⟨u,c,hl,X⟩:=a5 v 1 (by omega) (by omega) cu;by_cases bf:v=0
     .subst bf;obtain⟨B,hk⟩:=hl ⟨rfl,rfl⟩;refine z c (sG w (stA Wg) _) (G.setSt _) a6 aa (.d2 hk) rfl (by omega) ?_ (.inl ⟨by omega,by simp[cnt]⟩);have T:∀a,a<j->a≠κ->(D a).stage=1:=λa N e=>by
       have c0:=others_uncounted F hv bi a N e;have:=h2 a N;simp only[cnt] at c0;split at c0<;>omega
      have:=ConcN.Mode.last (j:=j) (D:=upd D κ ⟨4,B,1⟩) (tag:=tag) κ h1 F (by rw[qe];simp) (λa N e=>by rw[qI D _ e];exact T a N e);rw[qe] at this;simpa using this
     .obtain⟨M,X⟩:=X (by omega);have af:Vc j (upd D κ ⟨1,M,1⟩)=v:=by have:=Vc_upd D (⟨1,M,1⟩:WD) F;have:=ay M;omega
      refine z c (sG w (stA Wg) _) (G.setSt _) a6 aa (.quit X) rfl (by omega) ?_ (.inl ⟨by omega,by simp[cnt]⟩);have e:((v:Nat):Int)*KK+((1:Nat):Int)=((Vc j (upd D κ ⟨1,M,1⟩):Nat):Int)*KK+1:=by rw[af];simp
      rw[e];exact .reg h1 (aJ M h2) (by omega)
    |last L _ h2 h3 h4=>
     by_cases e:κ=L
     .subst e;omega
     .have:=h4 κ F e;omega
    |sema h2=>have:=h2 κ F;omega
    |fin _ h2=>have:=h2 κ F;omega
   .obtain⟨u,w',es,c,⟨rfl,rfl⟩,lv⟩:=d w (tY w);exact K c (.d1 lv) rfl
  |d2 h=>
   rcases rJ h with bW|⟨I,rfl,d⟩
   .obtain⟨_,hx⟩:=bW w (tY w);obtain⟨a1,T,rfl,rfl⟩:=aZ.isLast F (by omega);simp only[A] at G;obtain⟨u,c,B,hk⟩:=hx (by simpa using G);refine z c (.refl Wg w) G (by intro e k;simp at k;subst k;exact ConcN.bk_cell _ _ rfl) (by intro jx e k;match jx,k with|0,_=>exact .inr (by simp[deafBehind])|jx+1,k=>simp at k) (.d3 hk) rfl (by omega) ?_ (.inl ⟨by omega,by simp[cnt]⟩);have:=ConcN.Mode.last (j:=j) (D:=upd D κ ⟨3,B,1⟩) (tag:=tag) κ a1 F (by rw[qe];simp) (λa N e=>by rw[qI D _ e];exact T a N e);rw[qe] at this;simpa using this
   .obtain⟨u,w',es,c,⟨rfl,rfl⟩,lv⟩:=d w (tY w);exact K c (.d2 lv) rfl
  |d3 h=>
   rcases rJ h with bW|⟨I,rfl,d⟩
   .obtain⟨_,hx⟩:=bW w (tY w);obtain⟨a1,T,rfl,rfl⟩:=aZ.isLast F (by omega);simp only[A] at G;obtain⟨u,c,B,hk⟩:=hx (by simpa using G);refine z c (sG w (stA Wg) _) (G.setSt 0) (by intro e k;simp at k;subst k;exact ConcN.bk_cell _ _ rfl) (by intro jx e k;match jx,k with|0,_=>exact .inr (by simp[deafBehind])|jx+1,k=>simp at k) (.d4 hk) rfl (by omega) ?_ (.inl ⟨by omega,by simp[cnt]⟩);have:=ConcN.Mode.last (j:=j) (D:=upd D κ ⟨2,B,1⟩) (tag:=tag) κ a1 F (by rw[qe];simp) (λa N e=>by rw[qI D _ e];exact T a N e);rw[qe] at this;simpa using this
   .obtain⟨u,w',es,c,⟨rfl,rfl⟩,lv⟩:=d w (tY w);exact K c (.d3 lv) rfl
  |d4 h=>
   rcases rJ h with bW|⟨I,rfl,d⟩
   .obtain⟨_,b2,hx⟩:=bW w (tY w);obtain⟨a1,T,rfl,rfl⟩:=aZ.isLast F (by omega);simp only[A] at G;obtain⟨u,c,M,X⟩:=hx (by simpa using G);have a7:u.status=.running:=by
     cases M with
     |zero=>exact absurd X.2 (by decide)
     |succ M=>exact X.elim (λx=>absurd x.2 (by decide)) (λx=>x.1)
    refine b0 c (sG w (smA Wg) _) (G.setSm 1) (es:=semEvents (smA Wg)) ?_ ?_ (.quit X) (by simp[deafBehind,semEvents]) (by omega) ?_ (.inl ⟨by omega,by simp[cnt]⟩)
    .exact bk_sem
    .intro jx e k
     match jx,k with
     |0,k=>simp[semEvents] at k;subst k;exact .inl rfl
     |1,_=>exact .inr (by simp[deafBehind,semEvents])
     |2,_=>exact .inr (by simp[deafBehind,semEvents])
     |3,k=>simp[semEvents] at k;subst k;exact .inl rfl
     |jx+4,k=>simp[semEvents] at k
    .intro dF ht hw;have b6:=hw b2 a7;have e3:dF=.w3:=by
      rcases ht with rfl|⟨_,rfl⟩
      .cases dF<;>first|rfl|exact a1.elim|exact absurd rfl b6
      .rfl
     subst e3;simp only[pb];exact .sema λa N=>by
      by_cases e:a=κ
      .subst e;rw[qe]
      .rw[qI D _ e];exact T a N e
   .obtain⟨u,w',es,c,⟨rfl,rfl⟩,lv⟩:=d w (tY w);exact K c (.d4 lv) rfl
  |quit h=>
   cases m with
   |zero=>rw[h.1] at U;cases U
   |succ M=>
    rcases h with⟨hf,_⟩|⟨_,u,es,ax,d,X⟩
    .rw[hf] at U;cases U
    .have jL:∀e∈es,Bk Wg e:=λe k=>bk_of_mute (ax e k);have b3:∀jx e,es[jx]?=some e->(MemAct.ofEvent e).touch?=none\/0<deafBehind dd (es.extract 0 jx):=λjx e k=>.inl (touch_mute (ax e (qw k)));exact z (d w) (.refl Wg w) G jL b3 (.quit X) rfl (by omega) (by have:=aZ.same (i:=κ) M (deafBehind dd es);rwa [A] at this) (.inr ⟨rfl,rfl⟩)
end
end
end Go.Proofs.YtmicddpknimniaaGreatDoor