/- A part. -/
import Derived.Test.YtblbaiejjagdoaaGreatDoorG4
import Derived.Orders
import Derived.Conc.AppendWalk
import Derived.DuoClaim
import Derived.Conc.LeavingOf
set_option maxRecDepth 100000
set_option maxHeartbeats 8000000
set_option linter.all false
open Go Go.Conc Go.ConcN Go.RowKit Go.Proofs.Tryz Go.Proofs.YtblbaiejjagdoaaGreatDoor
variable {Q aW:aw} {Y R b c g0 i j m n:Nat} {key:Int} {T:Type} {a:Addr} {o:Oper} {U w w':World} {fr:Frame} {f:FuncId} {t ty:TypeId} {P:Program} {d:TypeDesc} {rest:List Nat} {g:Goroutine} {k:List Item} {V:Array Oper} {af:Array Edge} {listed:Array Bool} {xs:List Frame} {X:Array Value} {S A:Option Addr} {es:Array Event} {e:Operand→Value} {gd:Option (Nat × Bool)} {W St:Goroutine→World→Prop} {Stop:aw→Goroutine→World→Prop} {Z:Int→List gz→Int→ByteArray × Bool}
namespace Go.Proofs.YtblbaiejjagdoaaGreatDoor
def ga:=@List.mem_singleton
def kw:=@beq_eq_false_iff_ne
def lc:=@List.length_take
def nq:=@List.take_of_length_le
def pI:=@List.length_eq_zero_iff
def pJ:=@List.take_append_drop
def pU:=@List.length_drop
def qr:=@List.drop_zero
def qB:=@List.getElem?_take
def rQ:=@List.mem_filter
def sx:=@List.getElem?_cons_zero
def uq:=@Int.le_refl
def ur:=@List.getElem?_drop
def uN:=@Go.IntKind.wrap_i64
def uT:=@List.toArray_replicate
def vi:=@Bool.and_eq_false_iff
def vj:=@Bool.and_assoc
def vz:=@Bool.or_eq_false_iff
section
open Go.Conc Go.ConcN Go.RowKit Go.Conc.Lib Go.ConcR.Gen Go.ConcN.Gen
open Go.ConcR (KK wgBlock WgAt stA smA rd wr mk Aside2 DC0)
section
variable (P:Program) (R:World->World->Prop) (ty:TypeId) (Wg:Nat) (ak7 S:Goroutine->World->Prop)
abbrev WKe:Goroutine->World->Prop:=ng P R .enable 12 (ng P R (.acquire (stA Wg)) 20 S)
def WW4(g:Goroutine)(w:World):Prop:=g.status=.running/\(WgAt ty Wg w 0 0->∃a,stepG P true g w=.go a w #[rd (stA Wg)]/\Goes P true R DC0 (WKe P R Wg S) 40 a w)
def WW3(g:Goroutine)(w:World):Prop:=g.status=.running/\g.offers=none/\
  ((∃b,WgAt ty Wg w b 0)->stepG P true g w=.go {g with status:=.blocked} w #[])/\
  (WgAt ty Wg w 0 1->∃a,stepG P true g w=.go a (w.setCell (smA Wg) (.int .u32 0)) (semEvents (smA Wg))/\Goes P true R DC0 (WW4 P R ty Wg S) 40 a (w.setCell (smA Wg) (.int .u32 0)))
def WW2(vs:Nat)(g:Goroutine)(w:World):Prop:=g.status=.running/\∀v:Nat,v<2147483648->WgAt ty Wg w (v*KK) 0->
  (v=vs->∃a,stepG P true g w=.go a (w.setCell (stA Wg) (.int .u64 (v*KK+1))) #[rd (stA Wg),wr (stA Wg)]/\Goes P true R DC0 (ng P R (.write ⟨Wg,1,none⟩) 60 (WW3 P R ty Wg S)) 120 a (w.setCell (stA Wg) (.int .u64 (v*KK+1))))/\
  (v≠vs->∃a,stepG P true g w=.go a w #[rd (stA Wg)]/\Goes P true R DC0 ak7 60 a w)
def WW1(g:Goroutine)(w:World):Prop:=g.status=.running/\∀v:Nat,v<2147483648->WgAt ty Wg w (v*KK) 0->∃a,stepG P true g w=.go a w #[rd (stA Wg)]/\
  (v=0->Goes P true R DC0 (WKe P R Wg S) 60 a w)/\(v≠0->Goes P true R DC0 (WW2 P R ty Wg ak7 S v) 120 a w)
end
def ai5(L:WgLink)(Wg:Nat)(c:Frame)(cs:List Frame)(g:Goroutine)(w:World):Prop:=
 ∃T:Array Value,g=G ((base L.wait).at ⟨T,[]⟩ [.code (L7 L),.inLoop (L7 L),.inBlock 0]) (c::cs)/\T.size=84/\T[0]?=some (.pointer (some ⟨Wg,0,none⟩))/\WgLive L.tWg Wg w
section
variable {P:Program} {L:WgLink} {R:World->World->Prop} {Wg:Nat} {S:Goroutine->World->Prop}
 {b₀:Frame} {a₀:Act} {ops₀:Array Oper} {i₀:Nat} {rest₀:List Nat} {k₀:List Item} {cs:List Frame}
def ak8(H:WgLib P L)(d:∀w a,WgLive L.tWg Wg w->R w a->WgLive L.tWg Wg a)(w:World)(b:WgLive L.tWg Wg w) :
  Goes P true R DC0 (ng P R .disable 3 (ai5 L Wg (b₀.at a₀ (.inRegion ops₀ (i₀::rest₀)::k₀)) cs)) 3
   (G ((base L.wait).at ⟨#[.pointer (some ⟨Wg,0,none⟩)]++(List.replicate 83 undef).toArray,[]⟩ [.code (body_wait L)]) (b₀.at a₀ (.inRegion ops₀ (i₀::rest₀)::k₀)::cs)) w:=by
 lib_facts
 simp only[body_wait,waitFn,pS]
 u_c iS (d _ _) b
 u_cond true (d _ _) b
 u_reg (d _ _) b
 refine pW (λa c=> ?_);replace b:=d _ _ b c;clear c;refine⟨rfl,_,uo .disable (by simp) rfl rfl (by k_ne) rfl H.f_disable (x_disable_n L) (x_disable_b L) (x_disable_x L) (x_disable_f L), ?_⟩
 walk_nrm
 u_c eg (d _ _) b
 u_c stepG_block (d _ _) b
 u_c stepG_loop (d _ _) b
 exact pW (λf e=>⟨_,rfl,by simp,by simp,d _ _ b e⟩)
def ak9 (H:WgLib P L) (b:∀w i,WgLive L.tWg Wg w->R w i->WgLive L.tWg Wg i)
  (x:∀w,WgLive L.tWg Wg w->S (G (b₀.at (a₀.put ((ops₀[i₀]?).bind (·.dst)) (.tuple #[])) (.inRegion ops₀ rest₀::k₀)) cs) w)
  (g:Goroutine) (w:World) (h:ai5 L Wg (b₀.at a₀ (.inRegion ops₀ (i₀::rest₀)::k₀)) cs g w) :
  Goes P true R DC0 (WW1 P R L.tWg Wg (ai5 L Wg (b₀.at a₀ (.inRegion ops₀ (i₀::rest₀)::k₀)) cs) S) 30 g w:=by
 lib_facts
 obtain⟨T,rfl,q,t,a⟩:=h;obtain⟨v0,v1,v2,v3,v4,v5,v6,v7,v8,v9,aM,O,bj,z,b8,C,K,ao,bL,a8,a2,A,bx,bT,J,bq,bf,a4,bt,aa,Y,aT,y,bG,a0,N,bR,bD,bb,X,U,W,bn,a7,aO,Q,D,bl,b7,ba,aH,bi,aD,af,E,b4,bg,b3,a5,bw,a3,bO,ax,b0,b5,B,I,M,b9,b6,br,aR,bo,bS,a6,ay,bX,a9,F,aW,bk,an,al,Z,rfl⟩:=array84 T q;simp only[List.getElem?_toArray,sx,lw] at t;subst t;simp only[L7,body_wait,waitFn,pS]
 u_c stepG_block (b _ _) a
 u_c iS (b _ _) a
 u_reg (b _ _) a
 u_op (b _ _) a
 u_op (b _ _) a
 u_op (b _ _) a
 u_call H.f_uLoad (nm_uLoad L) uLoadFn (b _ _) a
 u_c iS (b _ _) a
 u_reg (b _ _) a
 u_op (b _ _) a
 u_c eg (b _ _) a
 u_c iS (b _ _) a
 u_reg (b _ _) a
 u_op (b _ _) a
 u_op (b _ _) a
 u_op (b _ _) a
 refine pW (λi c=> ?_);replace a:=b _ _ a c;clear c;refine⟨rfl,λv hv f=> ?_⟩;rcases mu v with rfl|av
 .replace f:WgAt L.tWg Wg i 0 0:=by simpa using f
  refine⟨_,stepG_load_atomic (v:=0) rfl rfl (by k_ne) rfl H.f_loadU64 (x_loadU64_n L) (x_loadU64_b L) (x_loadU64_x L) .u64 (x_loadU64_f L) rfl f.cellSt,λ_=> ?_,λh=>absurd rfl h⟩;clear f
  walk_nrm
  u_op (b _ _) a
  u_c eg (b _ _) a
  u_c rI (b _ _) a
  u_leave1 H.f_uLoad (b _ _) a
  u_op (b _ _) a
  u_c eg (b _ _) a
  u_c iS (b _ _) a
  u_reg (b _ _) a
  u_op (b _ _) a
  u_op (b _ _) a
  u_op (b _ _) a
  u_op (b _ _) a
  u_c eg (b _ _) a
  u_c iS (b _ _) a
  u_reg (b _ _) a
  u_op (b _ _) a
  u_op (b _ _) a
  u_op (b _ _) a
  u_op (b _ _) a
  u_c eg (b _ _) a
  u_c iS (b _ _) a
  u_c iS (b _ _) a
  u_reg (b _ _) a
  u_op (b _ _) a
  u_op (b _ _) a
  u_c eg (b _ _) a
  u_cond true (b _ _) a
  u_c iS (b _ _) a
  u_cond true (b _ _) a
  u_c iS (b _ _) a
  u_reg (b _ _) a
  refine pW (λi c=> ?_);replace a:=b _ _ a c;clear c;refine⟨rfl,_,uo .enable (by simp) rfl rfl (by k_ne) rfl H.f_enable (x_enable_n L) (x_enable_b L) (x_enable_x L) (x_enable_f L), ?_⟩
  walk_nrm
  u_c eg (b _ _) a
  u_reg (b _ _) a
  u_op (b _ _) a
  u_conv H.underlying_tWgP H.room_tWg (WgLive.cell0 a).choose_spec (b _ _) a
  refine pW (λi c=> ?_);replace a:=b _ _ a c;clear c;refine⟨rfl,_,ua .acquire (by simp) rfl rfl (by k_ne) rfl H.f_acquire (x_acquire_n L) (x_acquire_b L) (x_acquire_x L) (x_acquire_f L) (by simp[Act.eval,stA]), ?_⟩
  walk_nrm
  u_c eg (b _ _) a
  u_c iS (b _ _) a
  u_c iS (b _ _) a
  u_reg (b _ _) a
  u_op (b _ _) a
  u_op (b _ _) a
  u_op (b _ _) a
  u_op (b _ _) a
  u_op (b _ _) a
  u_op (b _ _) a
  u_op (b _ _) a
  u_op (b _ _) a
  u_skip (b _ _) a
  u_skip (b _ _) a
  u_op (b _ _) a
  u_c eg (b _ _) a
  u_cond false (b _ _) a
  u_c qS (b _ _) a
  u_c rI (b _ _) a
  u_leave0 H.f_wait (b _ _) a
  exact pW λl j=>x _ (b _ _ a j)
 .obtain⟨V,p⟩:∃V:Int,(v:Int)*KK=V:=⟨_,rfl⟩;have a1:V / 4294967296=(v:Int):=by rw[<-p];simp only[KK];omega
  have b1:bits .and .u64 V 2147483648=0:=by rw[<-p];have:=st_flag v 0 (by omega) (by omega);simpa[KK] using this
  have b2:bits .and .u64 V 2147483647=0:=by rw[<-p];have:=st_waiters v 0 (by omega) (by omega);simpa[KK] using this
  have c1:IntKind.i32.wrap (v:Int)=(v:Int):=by rw[IntKind.wrap_i32];omega
  have w1:IntKind.u64.wrap (V+1)=V+1:=by rw[IntKind.wrap_u64,<-p];simp only[KK];omega
  have q3:=da (show ¬((v:Int)<0) by omega);have q4:=dq (show 0<(v:Int) by omega);have q5:((v:Int) ==0)=false:=by simp;omega
  have q6:=da (show ¬((v:Int)=0) by omega);rw[p] at f;refine⟨_,stepG_load_atomic (v:=V) rfl rfl (by k_ne) rfl H.f_loadU64 (x_loadU64_n L) (x_loadU64_b L) (x_loadU64_x L) .u64 (x_loadU64_f L) rfl f.cellSt,λh0=>absurd h0 (by omega),λ_=> ?_⟩;clear f
  walk_nrm
  u_op (b _ _) a
  u_c eg (b _ _) a
  u_c rI (b _ _) a
  u_leave1 H.f_uLoad (b _ _) a
  u_op (b _ _) a
  u_c eg (b _ _) a
  u_c iS (b _ _) a
  u_reg (b _ _) a
  u_op (b _ _) a
  u_op (b _ _) a
  u_op (b _ _) a
  u_op (b _ _) a
  u_c eg (b _ _) a
  u_c iS (b _ _) a
  u_reg (b _ _) a
  u_op (b _ _) a
  u_op (b _ _) a
  u_op (b _ _) a
  u_op (b _ _) a
  u_c eg (b _ _) a
  u_c iS (b _ _) a
  u_c iS (b _ _) a
  u_reg (b _ _) a
  u_op (b _ _) a
  u_op (b _ _) a
  u_c eg (b _ _) a
  u_cnd false (b _ _) a
  u_c qS (b _ _) a
  u_c iS (b _ _) a
  u_reg (b _ _) a
  u_op (b _ _) a
  u_op (b _ _) a
  u_op (b _ _) a
  u_op (b _ _) a
  u_op (b _ _) a
  u_op (b _ _) a
  u_call H.f_uCas (nm_uCas L) uCasFn (b _ _) a
  u_c iS (b _ _) a
  u_reg (b _ _) a
  u_op (b _ _) a
  u_c eg (b _ _) a
  u_c iS (b _ _) a
  u_reg (b _ _) a
  u_op (b _ _) a
  u_op (b _ _) a
  u_op (b _ _) a
  u_op (b _ _) a
  u_op (b _ _) a
  refine pW (λl j=> ?_);replace a:=b _ _ a j;clear j;refine⟨rfl,λv' bp f=>⟨λe=> ?_,λe=> ?_⟩⟩
  .subst e;rw[p] at f ⊢;refine⟨_,stepG_cas_hit (v:=V) (n:=V+1) rfl rfl (by k_ne) rfl H.f_casU64 (x_casU64_n L) (x_casU64_b L) (x_casU64_x L) .u64 (x_casU64_f L) rfl rfl rfl f.cellSt (f.thaw 0), ?_⟩;replace a:WgLive L.tWg Wg (l.setCell (stA Wg) (.int .u64 (V+1))):=⟨_,_,f.setSt _⟩;clear f
   walk_nrm
   u_op (b _ _) a
   u_c eg (b _ _) a
   u_c rI (b _ _) a
   u_leave1 H.f_uCas (b _ _) a
   u_c eg (b _ _) a
   u_cond true (b _ _) a
   u_c iS (b _ _) a
   u_c iS (b _ _) a
   u_reg (b _ _) a
   u_op (b _ _) a
   u_op (b _ _) a
   u_op (b _ _) a
   u_op (b _ _) a
   u_c eg (b _ _) a
   u_cond true (b _ _) a
   u_reg (b _ _) a
   u_op (b _ _) a
   u_op (b _ _) a
   u_op (b _ _) a
   u_conv H.underlying_tPU32 H.room_tU32 (WgLive.cell1 a).choose_spec (b _ _) a
   refine pW (λm d=> ?_);replace a:=b _ _ a d;clear d;refine⟨rfl,_,ua .write (by simp) rfl rfl (by k_ne) rfl H.f_raceWrite (x_raceWrite_n L) (x_raceWrite_b L) (x_raceWrite_x L) (x_raceWrite_f L) (ad:=⟨Wg,1,none⟩) (by simp[Act.eval]), ?_⟩
   walk_nrm
   u_c eg (b _ _) a
   u_c iS (b _ _) a
   u_reg (b _ _) a
   u_op (b _ _) a
   u_c eg (b _ _) a
   u_c iS (b _ _) a
   u_c iS (b _ _) a
   u_reg (b _ _) a
   u_op (b _ _) a
   u_op (b _ _) a
   u_op (b _ _) a
   u_op (b _ _) a
   u_skip (b _ _) a
   u_op (b _ _) a
   u_c eg (b _ _) a
   u_cond false (b _ _) a
   u_c qS (b _ _) a
   u_c iS (b _ _) a
   u_reg (b _ _) a
   u_op (b _ _) a
   u_op (b _ _) a
   u_op (b _ _) a
   u_op (b _ _) a
   refine pW (λm d=> ?_);replace a:=b _ _ a d;clear d;refine⟨rfl,rfl,λ⟨st,f⟩=>stepG_semacquire_wait rfl rfl rfl H.f_semacquire (x_semacquire_n L) (x_semacquire_b L) (x_semacquire_x L) (x_semacquire_f L) (by simp[Act.eval,smA]) f.cellSm,λs=> ?_⟩;refine⟨_,(stepG_semacquire (n:=1) rfl rfl (by k_ne) rfl H.f_semacquire (x_semacquire_n L) (x_semacquire_b L) (x_semacquire_x L) (x_semacquire_f L) (by simp[Act.eval,smA]) s.cellSm (by decide) (s.thaw 1)).trans rfl, ?_⟩;replace a:WgLive L.tWg Wg (m.setCell (smA Wg) (.int .u32 0)):=⟨_,_,s.setSm 0⟩;clear s
   walk_nrm
   u_c eg (b _ _) a
   u_c iS (b _ _) a
   u_reg (b _ _) a
   u_op (b _ _) a
   u_op (b _ _) a
   u_op (b _ _) a
   u_call H.f_uLoad (nm_uLoad L) uLoadFn (b _ _) a
   u_c iS (b _ _) a
   u_reg (b _ _) a
   u_op (b _ _) a
   u_c eg (b _ _) a
   u_c iS (b _ _) a
   u_reg (b _ _) a
   u_op (b _ _) a
   u_op (b _ _) a
   u_op (b _ _) a
   refine pW (λu o=> ?_);replace a:=b _ _ a o;clear o;refine⟨rfl,λf=>⟨_,stepG_load_atomic (v:=0) rfl rfl (by k_ne) rfl H.f_loadU64 (x_loadU64_n L) (x_loadU64_b L) (x_loadU64_x L) .u64 (x_loadU64_f L) rfl f.cellSt, ?_⟩⟩;clear f
   walk_nrm
   u_op (b _ _) a
   u_c eg (b _ _) a
   u_c rI (b _ _) a
   u_leave1 H.f_uLoad (b _ _) a
   u_op (b _ _) a
   u_op (b _ _) a
   u_c eg (b _ _) a
   u_c iS (b _ _) a
   u_cond true (b _ _) a
   u_c iS (b _ _) a
   u_reg (b _ _) a
   refine pW (λr k=> ?_);replace a:=b _ _ a k;clear k;refine⟨rfl,_,uo .enable (by simp) rfl rfl (by k_ne) rfl H.f_enable (x_enable_n L) (x_enable_b L) (x_enable_x L) (x_enable_f L), ?_⟩
   walk_nrm
   u_c eg (b _ _) a
   u_reg (b _ _) a
   u_op (b _ _) a
   u_conv H.underlying_tWgP H.room_tWg (WgLive.cell0 a).choose_spec (b _ _) a
   refine pW (λr k=> ?_);replace a:=b _ _ a k;clear k;refine⟨rfl,_,ua .acquire (by simp) rfl rfl (by k_ne) rfl H.f_acquire (x_acquire_n L) (x_acquire_b L) (x_acquire_x L) (x_acquire_f L) (by simp[Act.eval,stA]), ?_⟩
   walk_nrm
   u_c eg (b _ _) a
   u_c iS (b _ _) a
   u_c iS (b _ _) a
   u_reg (b _ _) a
   u_op (b _ _) a
   u_c eg (b _ _) a
   u_cond false (b _ _) a
   u_c qS (b _ _) a
   u_c rI (b _ _) a
   u_leave0 H.f_wait (b _ _) a
   exact pW λl j=>x _ (b _ _ a j)
  .refine⟨_,stepG_cas_miss (v:=(v':Int)*KK) (old:=V) (n:=V+1) rfl rfl (by k_ne) rfl H.f_casU64 (x_casU64_n L) (x_casU64_b L) (x_casU64_x L) .u64 (x_casU64_f L) rfl rfl rfl f.cellSt (f.thaw 0) (by rw[<-p];simp only[KK];omega), ?_⟩;clear f
   walk_nrm
   u_op (b _ _) a
   u_c eg (b _ _) a
   u_c rI (b _ _) a
   u_leave1 H.f_uCas (b _ _) a
   u_c eg (b _ _) a
   u_cond false (b _ _) a
   u_c qS (b _ _) a
   u_c stepG_inBlock (b _ _) a
   u_c stepG_inLoop (b _ _) a
   exact pW λm d=>⟨_,rfl,by simp,by simp,b _ _ a d⟩
end
end
section
open Go.Conc Go.ConcN Go.RowKit Go.Conc.Lib Go.ConcR.Gen Go.ConcN.Gen
open Go.ConcR (KK wgBlock WgAt stA smA rd wr mk Payload DC0)
section
variable {P:Program} {R:World->World->Prop} {Wg:Nat}
def aoA:aaI Wg (mk (.read ⟨Wg,1,none⟩)):=⟨_,rfl,.inl rfl⟩
def ala:aaI Wg (mk (.write ⟨Wg,1,none⟩)):=⟨_,rfl,.inr rfl⟩
def mz{D i:World->World->Array Event->Prop}{St c:Goroutine->World->Prop}{main:Bool}(k:∀w d e,D w d e->i w d e)(f:∀g w,St g w->c g w) :
  ∀{n:Nat} {g:Goroutine} {w:World},Goes P main R D St n g w->Goes P main R i c n g w
 |0,_,_,h=>λa b=>f _ _ (h a b)
 |n+1,g,w,h=>by
  rcases h with h|⟨l,h⟩
  .exact .inl λa b=>f _ _ (h a b)
  .refine .inr ⟨l,λa b=> ?_⟩;have:=h a b;cases j:stepG P main g a with
   |go m d e=>
    rw[j,sT] at this;rw[sT];exact⟨k _ _ _ this.1,mz k f this.2⟩
   |_=>rw[j] at this;exact this.elim
def atW{D:World->World->Array Event->Prop}{main:Bool}(b:n<=Y)(h:Goes P main R D St n g w):Goes P main R D St Y g w:=by
 induction b with
 |refl=>exact h
 |step _ a=>exact a.more
def dsd(h:DC0 w w' es):DSd Wg w w' es:=⟨h.1,by rw[h.2];simp⟩
def agh{e:Mark}(q:aaI Wg (mk e))(s:∀g w,St g w->W g w)(k:∀w,R w w)(l:∀a b c,R a b->R b c->R a c) :
  ∀{n:Nat} {g:Goroutine} {w:World},Goes P true R DC0 (ng P R e m St) n g w->Goes P true R (DSd Wg) W (n+(m+1)) g w:=by
 have stop:∀{g:Goroutine} {w:World},(∀d,R w d->ng P R e m St g d)->Goes P true R (DSd Wg) W (m+1) g w:=λ{g w} h=>by
  refine .inr ⟨(h w (k w)).1,λd i=> ?_⟩;obtain⟨-,p,f,j⟩:=h d i;rw[f,sT];exact⟨⟨rfl,by simp;exact q⟩,mz (λ_ _ _ x=>dsd x) s j⟩
 intro n
 induction n with
 |zero=>intro g w h;rw[ph];exact stop h
 |succ n r=>
  intro g w h;rcases h with h|⟨o,h⟩
  .exact atW (by omega) (stop h)
  .rw[Nat.succ_add];refine .inr ⟨o,λd i=> ?_⟩;have:=h d i;cases f:stepG P true g d with
   |go p t u=>
    rw[f,sT] at this;rw[sT];exact⟨dsd this.1,r this.2⟩
   |_=>rw[f] at this;exact this.elim
end
section
variable [Payload] {P:Program} {ty:TypeId} {Wg C n:Nat} {R S:aw}
def aan(a:∀g w,St g w->W g w)(h:Goes P true (RM ty Wg C n R S) DC0 St m g w):GP P ty Wg C n R S W m g w:=mz (λ_ _ _ x=>dsd x) a h
def aw0{F:aw->aw->Goroutine->World->Prop}(a:∀g w,Goes P true (RM ty Wg C n R S) DC0 St m g w->F R S g w)(h:ng P (RM ty Wg C n R S) (.acquire (stA Wg)) m St g w):awA P Wg R S F g w:=
 ⟨h.1,let⟨b,e,k⟩:=h.2;⟨b,e,a _ _ k⟩⟩
section
variable {St:Goroutine->World->Prop} {F A:aw->aw->Goroutine->World->Prop} {ak7:Goroutine->World->Prop} (hF:∀g w,Goes P true (RM ty Wg C n R S) DC0 St 20 g w->F R S g w) (hA:∀g w,ak7 g w->A R S g w)
include hF in
theorem avL(h:WKe P (RM ty Wg C n R S) Wg St g w):MKe P ty Wg C n R S F g w:=
 ⟨h.1,let⟨a,e,k⟩:=h.2;⟨a,e,_,aan (λ_ _ x=>aw0 hF x) k⟩⟩
include hF in
theorem ayT(h:WW4 P (RM ty Wg C n R S) ty Wg St g w):MW4 P ty Wg C n R S F g w:=
 ⟨h.1,λa=>let⟨b,e,k⟩:=h.2 a;⟨b,e,_,aan (λ_ _ x=>avL hF x) k⟩⟩
include hF in
theorem ayU(h:WW3 P (RM ty Wg C n R S) ty Wg St g w):MW3 P ty Wg C n R S F g w:=
 ⟨h.1,h.2.1,h.2.2.1,λa=>let⟨b,e,k⟩:=h.2.2.2 a;⟨b,e,_,aan (λ_ _ x=>ayT hF x) k⟩⟩
include hF hA in
theorem ayV{v:Nat}(h:WW2 P (RM ty Wg C n R S) ty Wg ak7 St v g w):MW2 P ty Wg C n R S A F v g w:=
 ⟨h.1,λd f c=>⟨λe=>let⟨b,a,k⟩:=(h.2 d f c).1 e;⟨b,a,_,agh ala (λ_ _ x=>ayU hF x) (ji.refl _ _ _) (λ_ _ _=>ji.trans) k⟩,
  λe=>let⟨b,a,k⟩:=(h.2 d f c).2 e;⟨b,a,_,aan hA k⟩⟩⟩
include hF hA in
theorem ayW(h:WW1 P (RM ty Wg C n R S) ty Wg ak7 St g w):MW1 P ty Wg C n R S A F g w:=
 ⟨h.1,λv c b=>let⟨f,e,d,a⟩:=h.2 v c b;⟨f,e,λe=>⟨_,aan (λ_ _ x=>avL hF x) (d e)⟩,λe=>⟨_,aan (λ_ _ x=>ayV hF hA x) (a e)⟩⟩⟩
include hA in
theorem ayX(h:ng P (RM ty Wg C n R S) .disable m ak7 g w):MKd P ty Wg C n R S A g w:=
 ⟨h.1,let⟨a,e,k⟩:=h.2;⟨a,e,_,aan hA k⟩⟩
end
section
variable {val:Nat->Value} {j:Nat} {Next:aw->Goroutine->World->Prop} {St:Goroutine->World->Prop}
def aq9(a:∀g w,Goes P true (RM ty Wg C n R S) DC0 St m g w->∃T,GM P ty Wg C n R (MGo P ty Wg C n val j Next R) T S g w)(h:ng P (RM ty Wg C n R S) .enable m St g w):awB P ty Wg C n val j Next R S g w:=
 ⟨h.1,let⟨b,e,k⟩:=h.2;⟨b,e,a _ _ k⟩⟩
def ayY(b:∀g w,Goes P true (RM ty Wg C n R S) DC0 St 3 g w->∃T,GM P ty Wg C n R (MGo P ty Wg C n val j Next R) T S g w)(h:ai4 P (RM ty Wg C n R S) ty Wg St g w):MA1 P ty Wg C n val j Next R S g w:=
 ⟨h.1,λv f d=>by
  obtain⟨k,e,i,c⟩:=h.2 v f d;refine⟨k,e, ?_⟩;by_cases a:v=0
  .exact⟨_,agh aoA (λ_ _ x=>aq9 b x) (ji.refl _ _ _) (λ_ _ _=>ji.trans) (i a)⟩
  .exact⟨_,aan (λ_ _ x=>aq9 b x) (c a)⟩⟩
def aw1(a:∀g w,Goes P true (RM ty Wg C n R S) DC0 St 3 g w->∃T,GM P ty Wg C n R (MGo P ty Wg C n val j Next R) T S g w)(h:ng P (RM ty Wg C n R S) .disable m (ai4 P (RM ty Wg C n R S) ty Wg St) g w):aqp P ty Wg C n val j Next R S g w:=
 ⟨h.1,let⟨b,e,k⟩:=h.2;⟨b,e,_,aan (λ_ _ x=>ayY a x) k⟩⟩
end
end
end
section
open Go.Conc Go.ConcN Go.RowKit Go.Conc.Lib Go.ConcR.Gen Go.ConcN.Gen
open Go.ConcR (KK wgBlock WgAt stA smA rd wr mk Payload Aside2 DC0)
section
variable (P:Program) (R:World->World->Prop) (Wg:Nat)
def ara(g:Goroutine)(w:World):Prop:=∃a,stepG P false g w=.go a w #[mk .disable]
def aw2(m:Nat)(g:Goroutine)(w:World):Prop:=∃a,stepG P false g w=.go a w #[mk (.releaseMerge (stA Wg))]/\Goes P false R DC0 (ara P) m a w
end
section
variable {P:Program} {L:WgLink} {R:World->World->Prop} {Wg:Nat} {c:Frame} {cs:List Frame}
def aoB(H:WgLib P L)(b:∀w e,WgLive L.tWg Wg w->R w e->WgLive L.tWg Wg e)(w:World)(a:WgLive L.tWg Wg w) :
  Goes P false R DC0 (aw2 P R Wg 10) 23 (G ((baseD L.done).at ⟨#[.pointer (some ⟨Wg,0,none⟩),undef,undef,undef],[]⟩ [.code (body_done L)]) (c::cs)) w:=by
 lib_facts
 simp only[body_done,body_add,doneFn,addFn,pS]
 u_reg (b _ _) a
 u_op (b _ _) a
 u_in (b _ _) a
 refine goes_call rfl rfl (by k_ne) rfl H.f_add (nm_add L) rfl ⟨by u_nil, ?_⟩
 walk_nrmf addFn
 u_c iS (b _ _) a
 u_cond true (b _ _) a
 u_c iS (b _ _) a
 u_c iS (b _ _) a
 u_reg (b _ _) a
 u_op (b _ _) a
 u_op (b _ _) a
 u_c eg (b _ _) a
 u_cond true (b _ _) a
 u_reg (b _ _) a
 u_op (b _ _) a
 u_conv H.underlying_tWgP H.room_tWg (WgLive.cell0 a).choose_spec (b _ _) a
 refine pW (λe d=> ?_);replace a:=b _ _ a d;clear d;refine⟨_,ua .releaseMerge (by simp) rfl rfl (by k_ne) rfl H.f_relMerge (x_relMerge_n L) (x_relMerge_b L) (x_relMerge_x L) (x_relMerge_f L) (by simp[Act.eval,stA]), ?_⟩
 walk_nrm
 u_c eg (b _ _) a
 u_c iS (b _ _) a
 u_reg (b _ _) a
 refine pW (λe d=> ?_);replace a:=b _ _ a d;clear d;exact⟨_,uo .disable (by simp) rfl rfl (by k_ne) rfl H.f_disable (x_disable_n L) (x_disable_b L) (x_disable_x L) (x_disable_f L)⟩
end
section
variable [Payload] {P:Program} {ty:TypeId} {Wg C n k:Nat} {R:World->World->Prop} {v:Value}
def arb(c:∀w,R w w)(q:∀g w,St g w->∃p,stepG P false g w=.go p w #[mk (.releaseMerge (stA Wg))]) :
  ∀{m f:Nat} {g:Goroutine} {w:World},Goes P false R DC0 (ara P) m g w->¬Goes P false R (DWs Wg FF FF C n k) St f g w:=by
 have i:∀{f:Nat} {g:Goroutine} {w:World},(∀a,R w a->ara P g a)->¬Goes P false R (DWs Wg FF FF C n k) St f g w:=λ{f g w} d b=>by
  obtain⟨p,e⟩:=d w (c w);have l:¬ ∀a,R w a->St g a:=λh=>by
   obtain⟨s,o⟩:=q _ _ (h w (c w));rw[e] at o;cases o
  cases f with
  |zero=>exact l b
  |succ f=>
   rcases b with b|⟨-,b⟩
   .exact l b
   .have:=b w (c w);rw[e,sT] at this;exact(this.1.2 (mk .disable) (by simp)).2.1 rfl
 intro m
 induction m with
 |zero=>intro f g w d b;exact i d b
 |succ m t=>
  intro f g w d b;rcases d with d|⟨-,d⟩
  .exact i d b
  .have d:=d w (c w);obtain⟨p,j,u,e,⟨rfl,rfl⟩,r⟩:=goes_elim d;have l:¬ ∀a,R j a->St g a:=λh=>by
    obtain⟨s,o⟩:=q _ _ (h j (c j));rw[e] at o;cases o
   cases f with
   |zero=>exact l b
   |succ f=>
    rcases b with b|⟨-,b⟩
    .exact l b
    .have:=b j (c j);rw[e,sT] at this;exact t r this.2
def alb(j:∀w,R w w)(r:∀a b c,R a b->R b c->R a c)(y:∀g w,St g w->∃t,stepG P false g w=.go t w #[mk (.releaseMerge (stA Wg))]) :
  ∀{m o i:Nat} {g:Goroutine} {w:World},Goes P false R DC0 (aw2 P R Wg o) m g w->Goes P false R (DWs Wg FF FF C n k) St i g w->Goes P false R DC0 St m g w:=by
 have p:∀{m o i:Nat} {g:Goroutine} {w:World},(∀d,R w d->aw2 P R Wg o g d)->Goes P false R (DWs Wg FF FF C n k) St i g w->Goes P false R DC0 St m g w:=λ{m o i g w} l f=>by
  refine pW λd q=> ?_;have f:=sK r f q;cases i with
  |zero=>exact f d (j _)
  |succ i=>
   rcases f with f|⟨-,f⟩
   .exact f d (j _)
   .obtain⟨t,e,s⟩:=l d q;have:=f d (j _);rw[e,sT] at this;exact absurd this.2 (arb j y s)
 intro m
 induction m with
 |zero=>intro o i g w l f;exact p l f
 |succ m x=>
  intro o i g w l f;rcases l with l|⟨u,l⟩
  .exact p l f
  .cases i with
   |zero=>exact .inl f
   |succ i=>
    rcases f with f|⟨-,f⟩
    .exact .inl f
    .refine .inr ⟨u,λd q=> ?_⟩;obtain⟨t,z,A,e,hd,v⟩:=goes_elim (l d q);have:=f d q;rw[e,sT] at this ⊢;exact⟨hd,x v this.2⟩
end
section
variable [Payload] {P:Program} {L:WgLink} {Wg C n κ:Nat} {val:Nat->Value} {R S:aw} {c:Frame} {cs:List Frame} {qt:Nat}
def aoC(H:WgLib P L)(q:c.mode=.returning)(D:QuitsD P qt 0 (G c cs))(w:World)(v:WgLive L.tWg Wg w)(B:Has C (2*κ) (val (2*κ)) w)(o:Has C (2*κ+1) (val (2*κ+1)) w) :
  bH P false (ji L.tWg Wg C (2*n) R (dz κ)) (Gua Wg C (2*n) R (dz κ)) (af9 P L.tWg Wg C n val κ) S (G ((baseD L.done).at ⟨#[.pointer (some ⟨Wg,0,none⟩),undef,undef,undef],[]⟩ [.code (body_done L)]) (c::cs)) w:=by
 have J:=doneN H (Own:=FF) (Rd:=FF) (Wg:=Wg) (C:=C) (n:=2*n) (Low:=0) (k:=2*κ+1) (val:=val (2*κ)) q D w ⟨v,B⟩;have K:=aoB (Wg:=Wg) (R:=RW L.tWg Wg C (2*n) 0 (2*κ+1-1)) (c:=c) (cs:=cs) H (λ_ _ h r=>r.live h) w v;have E:=alb (St:=AtR0 P L.tWg Wg C (2*n) 0 (2*κ+1) (val (2*κ))) (λw=>⟨λ_ _ _ _=>rfl,id,id,rfl⟩) (λa b c x y=>⟨λb o u z=>(y.low b o u z).trans (x.low b o u z),y.live∘x.live,y.pay∘x.pay,y.cell.trans x.cell⟩)
  (λg w h=>let⟨_,_,s,e,_⟩:=h;⟨s,e⟩) K J
 have t:∀{m:Nat} {g:Goroutine} {w:World},Has C (2*κ+1) (val (2*κ+1)) w->Goes P false (RW L.tWg Wg C (2*n) 0 (2*κ+1-1)) DC0 (AtR0 P L.tWg Wg C (2*n) 0 (2*κ+1) (val (2*κ))) m g w->
   bH P false (ji L.tWg Wg C (2*n) R (dz κ)) (Gua Wg C (2*n) R (dz κ)) (af9 P L.tWg Wg C n val κ) S g w:=by
  have j:∀{w d:World},ji L.tWg Wg C (2*n) R (dz κ) S w d->RW L.tWg Wg C (2*n) 0 (2*κ+1-1) w d:=λf=>ji.rw (i:=2*κ) f (by show 2*κ / 2=κ;omega);have l:∀{w d:World},Has C (2*κ+1) (val (2*κ+1)) w->ji L.tWg Wg C (2*n) R (dz κ) S w d->Has C (2*κ+1) (val (2*κ+1)) d:=λh f=>(f.cell (2*κ+1) (by show(2*κ+1) / 2=κ;omega)).trans h;intro m
  induction m with
  |zero=>intro g w p h;exact .stop λd f=>⟨h d (j f),l p f⟩
  |succ m M=>
   intro g w p h;rcases h with h|⟨F,h⟩
   .exact .stop λd f=>⟨h d (j f),l p f⟩
   .refine .step F λd f=> ?_;obtain⟨s,A,N,e,⟨rfl,rfl⟩,I⟩:=goes_elim (h d (j f));exact⟨s,A,#[],S,e,⟨λ_ _ _ _=>rfl,am _,rfl,id,λ_ _=>rfl,λ_ h=>h,λ_ h=>.inl h,by simp⟩,M (l p f) I⟩
 exact t o E
end
end
section
open Go.Conc Go.ConcN Go.RowKit
open Go.ConcR (KK wgBlock WgAt stA smA rd wr mk Payload DC0)
instance aCc:Payload:=⟨216⟩
structure Wx where
 w0:World
 Wg:Nat
 C:Nat
 n2:Nat
 κ:Nat
 R:aw
 Rg:Nat->Prop
 key:Int
 A:Option Addr
 n:Nat
 c:Nat
 l:List gz
 nm:Int
 bk:Nat
 bp:Nat
 bn:Nat
 ba:Nat
 bi:Nat
 tWg:TypeId
structure Wx.Ok (X:Wx):Prop where
 hN:gN<=X.w0.heap.size
 gl:∀g∈gL,X.Rg g
 gr:∀g∈gL,dx X.w0 g
 k1:1<=X.key
 k2:X.key<=99
 hl:X.l.length=X.n
 hc:X.n<=X.c
 hcm:(X.c:Int)<=9223372036854775807
 rd:RdP X.w0 X.A 0 X.l
 rgp:RgP X.Rg X.w0 X.A X.l
 al:∀a,X.A=some a->0<X.l.length->X.Rg a.block
 nm:In_ X.nm
 kn:X.κ<X.n2
 rows:∀b,X.Rg b->X.R b
 rk:X.R X.bk/\X.w0.cell? ⟨X.bk,0,none⟩=some (.int .i64 X.key)
 rp:X.R X.bp/\X.w0.cell? ⟨X.bp,0,none⟩=some (.slice X.A X.n X.c)
 rn:X.R X.bn/\X.w0.cell? ⟨X.bn,0,none⟩=some (.int .i64 X.nm)
 ra:X.R X.ba/\X.w0.cell? ⟨X.ba,0,none⟩=some (.slice (some ⟨X.C,0,none⟩) X.n2 X.n2)
 ri:X.R X.bi/\X.w0.cell? ⟨X.bi,0,none⟩=some (.int .i64 X.κ)
 rlt:∀b,X.R b->b<X.w0.heap.size
 rC:¬X.R X.C
 rW:¬X.R X.Wg
 cW:X.C≠X.Wg
abbrev Wx.Rl(X:Wx):aw->World->World->Prop:=ji X.tWg X.Wg X.C (2*X.n2) X.R (dz X.κ)
abbrev Wx.Gr(X:Wx):aw->aw->World->World->Array Event->Prop:=Gua X.Wg X.C (2*X.n2) X.R (dz X.κ)
def Wx.lV(X:Wx):nO X.Rl X.R:=⟨λS w=>ji.refl _ _ _ _,λ_ _ _ _=>ji.trans,λ_ _ _ h=>⟨h.keep,h.size,h.os⟩⟩
structure Wx.Inv (X:Wx) (S:aw) (w:World):Prop where
 r:∀b,X.R b->w.heap[b]?=X.w0.heap[b]?
 s:∀b,S b->¬X.R b/\b≠X.C/\b≠X.Wg
 c:X.C<w.heap.size
 wg:X.Wg<w.heap.size
 sz:X.w0.heap.size<=w.heap.size
 live:WgLive X.tWg X.Wg w
 pay:PayAt X.C (2*X.n2) w
 os:w.ou=X.w0.ou
section
variable {X:Wx} {S S':aw} {w w' w1:World} {es:Array Event}
def Wx.Inv.rely(h:X.Inv S w)(a:X.Rl S w w1):X.Inv S w1:=
 ⟨λb c=>(a.keep b (.inr c)).trans (h.r b c),h.s,aE h.c a.size,aE h.wg a.size,ap h.sz a.size,a.live h.live,a.pay h.pay,a.os.trans h.os⟩
def Wx.step(t:X.Ok)(h:X.Inv S w)(g:nN X.R S S' w w' es):X.Gr S S' w w' es/\X.Inv S' w':=by
 obtain⟨l,k,q,rfl,C⟩:=g;have m:w'.heap[X.C]?=w.heap[X.C]?:=l _ h.c λd=>(h.s _ d).2.1 rfl;have s:w'.heap[X.Wg]?=w.heap[X.Wg]?:=l _ h.wg λd=>(h.s _ d).2.2 rfl;refine⟨⟨λb c B _=>l b c B,k,q,λ⟨n,a,b⟩=>⟨n,m.trans a,b⟩,λi _=>tO m i,λb c=>.inl c,λb c=>c,λe F=> ?_⟩, ?_⟩
 .obtain⟨D,o,E⟩:=C e F;refine⟨λx z=>(D x z).elim .inl λy=>.inr (.inr y),λj=> ?_,λj=> ?_,λj=> ?_,E⟩
  .rcases o _ j with⟨f,e⟩|e<;>cases e
  .rcases o _ j with⟨f,e⟩|e<;>cases e
  .rcases o _ j with⟨f,e⟩|e<;>cases e
 .have p:∀b,X.R b->b<w.heap.size:=λb c=>aE (t.rlt b c) h.sz;refine⟨λb c=>(l b (p b c) λd=>(h.s b d).1 c).trans (h.r b c),λb c=> ?_,aE h.c k,aE h.wg k,ap h.sz k, ?_, ?_,q.trans h.os⟩
  .rcases c with c|⟨c,_⟩
   .exact h.s b c
   .refine⟨λv=> ?_,λe=> ?_,λe=> ?_⟩
    .have:=p b v;omega
    .have:=h.c;omega
    .have:=h.wg;omega
  .obtain⟨A,r,u⟩:=h.live;exact⟨A,r,s.trans u⟩
  .obtain⟨n,a,b⟩:=h.pay;exact⟨n,m.trans a,b⟩
def Wx.lift(c:X.Ok)(h:bH prog false X.Rl (nN X.R) Stop S g w)(d:X.Inv S w):bH prog false X.Rl X.Gr (λS g w=>Stop S g w/\X.Inv S w) S g w:=
 bH.inv (Rl:=X.Rl) (Gr:=nN X.R) (Gr2:=X.Gr) (Stop:=Stop) (Inv:=X.Inv) (λ_ _ _ a b=>a.rely b) (λ_ _ _ _ _ a b=>Wx.step c a b) (λ_ _ _ a b=>⟨a,b⟩) h d
def Wx.Inv.cell(h:X.Inv S w){v:Value}(a:X.R b)(c:X.w0.cell? ⟨b,i,none⟩=some v):w.cell? ⟨b,i,none⟩=some v:=(tO (h.r b a) i).trans c
end
abbrev nCl:FuncId:=147
def kh:Code->Code
 |.seq a _=>a
 |c=>c
def tN:Code->Array Oper
 |.region _ o _=>o
 |_=>#[]
noncomputable def ank:Code:=f147.body.getD .skip
noncomputable def mV:Array Oper:=tN (kh ank)
noncomputable def aV:Array Oper:=tN (bW ank)
def arc:ank=.seq (.region 0 mV false) (.region 1 aV true):=rfl
def anl:aV.size=8:=rfl
def ayZ:∃p,aV[0]?=some ⟨some 6,.load 205 (.tmp 4),205,p,#[],none⟩:=⟨_,rfl⟩
def ay0:∃p,aV[1]?=some ⟨some 7,.load 3 (.tmp 5),3,p,#[],none⟩:=⟨_,rfl⟩
def ay1:∃p,aV[2]?=some ⟨some 8,.load 3 (.tmp 1),3,p,#[],none⟩:=⟨_,rfl⟩
def ay2:∃p,aV[3]?=some ⟨some 9,.load 32 (.tmp 2),32,p,#[],none⟩:=⟨_,rfl⟩
def ay3:∃p,aV[4]?=some ⟨some 10,.load 3 (.tmp 3),3,p,#[],none⟩:=⟨_,rfl⟩
def ay4:∃p,aV[5]?=some ⟨some 11,.call ⟨.value (.func 149),#[.tmp 8,.tmp 9,.tmp 10],#[3,32,3]⟩,216,p,#[⟨2,.data⟩,⟨3,.data⟩,⟨4,.data⟩],none⟩:=⟨_,rfl⟩
def ay5:∃p,aV[6]?=some ⟨some 12,.indexAddr 205 (.tmp 6) (.tmp 7),0,p,#[⟨0,.data⟩,⟨1,.data⟩,⟨0,.phase⟩,⟨1,.phase⟩,⟨2,.phase⟩,⟨3,.phase⟩,⟨4,.phase⟩,⟨5,.phase⟩],none⟩:=⟨_,rfl⟩
def ay6:∃p,aV[7]?=some ⟨none,.store 216 (.tmp 12) (.tmp 11),0,p,#[⟨6,.data⟩,⟨5,.data⟩,⟨5,.chain⟩,⟨0,.phase⟩,⟨1,.phase⟩,⟨2,.phase⟩,⟨3,.phase⟩,⟨4,.phase⟩,⟨5,.phase⟩],none⟩:=⟨_,rfl⟩
def jl(L:Nat->Bool):Nat->Bool
 |5=>L 2&&L 3&&L 4
 |6=>L 0&&L 1&&L 2&&L 3&&L 4&&L 5
 |7=>L 6&&L 5&&L 0&&L 1&&L 2&&L 3&&L 4
 |_=>true
def anm(L:Nat->Bool)(a:i<8):((aV[i]?).map (λo:Oper=>o.after.all λe=>!Region.binds .any e||L e.on)).getD false=jl L i:=by
 have:i=0\/i=1\/i=2\/i=3\/i=4\/i=5\/i=6\/i=7:=by omega
 rcases this with rfl|rfl|rfl|rfl|rfl|rfl|rfl|rfl
 .obtain⟨p,e⟩:=ayZ;rw[e];simp[jl]
 .obtain⟨p,e⟩:=ay0;rw[e];simp[jl]
 .obtain⟨p,e⟩:=ay1;rw[e];simp[jl]
 .obtain⟨p,e⟩:=ay2;rw[e];simp[jl]
 .obtain⟨p,e⟩:=ay3;rw[e];simp[jl]
 .obtain⟨p,e⟩:=ay4;rw[e];simp[Region.binds,jl,vj]
 .obtain⟨p,e⟩:=ay5;rw[e];simp[Region.binds,jl];cases L 0<;>cases L 1<;>simp[vj]
 .obtain⟨p,e⟩:=ay6;rw[e];simp[Region.binds,jl];cases L 5<;>cases L 6<;>simp[vj]
def aeG(d:listed.size=8) :i∈Region.ready .any aV listed↔i<8/\listed.getD i false=false/\jl (λj=>listed.getD j false) i=true:=by
 unfold Region.ready;rw[rQ,pm,anl];constructor
 .rintro⟨b,a⟩;rw[anm (λj=>listed.getD j false) b] at a;simp only[fb,tL] at a;refine⟨b, ?_,a.2⟩;have:=a.1;rw[gc,fi (by omega)] at this ⊢;exact this
 .rintro⟨b,a,c⟩;refine⟨b, ?_⟩;rw[anm (λj=>listed.getD j false) b,c];rw[gc,fi (by omega)] at a ⊢;simp only[pS] at a ⊢;rw[a];rfl
def unW(listed:Array Bool):Nat:=(List.range 8).countP λi=>!listed.getD i false
def agi{p q:Nat->Bool}:∀{l:List Nat} {x:Nat},(∀y,q y=true->p y=true)->x∈l->p x=true->q x=false->l.countP q<l.countP p
 |[],x,_,b,_,_=>by cases b
 |a::l,x,h,b,hp,hq=>by
  rw[List.countP_cons,List.countP_cons];have e:l.countP q<=l.countP p:=List.countP_mono_left λy _=>h y;rcases lE.1 b with rfl|b
  .rw[hp,hq];simp;omega
  .have:=agi h b hp hq;have f:=h a;cases d:q a<;>cases c:p a<;>simp_all<;>omega
def gS(a:i<listed.size):(listed.setIfInBounds i true).getD j false=if j=i then true else listed.getD j false:=by
 rw[gc,gc,pe];by_cases e:i=j
 .subst e;simp[a]
 .rw[bd e,bd (λx=>e x.symm)]
def atX(c:listed.size=8)(b:i<8)(h:listed.getD i false=false):unW (listed.setIfInBounds i true)<unW listed:=by
 refine agi (x:=i) (λy a=> ?_) (pm.2 b) (by rw[h];rfl) (by rw[gS (by omega)];simp);rw[gS (by omega)] at a;by_cases e:y=i
 .simp[e] at a
 .simpa[e] using a
def ay7(m:listed.size=8)(h:Region.ready .any aV listed=[]\/unW listed=0):∀i,i<8->listed.getD i false=true:=by
 rcases h with h|h
 .have a:∀i,i<8->jl (λj=>listed.getD j false) i=true->listed.getD i false=true:=λi b hd=>by
   cases e:listed.getD i false with
   |true=>rfl
   |false=>
    have:i∈Region.ready .any aV listed:=(aeG m).2 ⟨b,e,hd⟩;rw[h] at this;cases this
  have g:=a 0 (by omega) rfl;have k:=a 1 (by omega) rfl;have c:=a 2 (by omega) rfl;have d:=a 3 (by omega) rfl;have f:=a 4 (by omega) rfl;have l:=a 5 (by omega) (by simp only[jl,c,d,f];rfl);have n:=a 6 (by omega) (by simp only[jl,g,k,c,d,f,l];rfl);have o:=a 7 (by omega) (by simp only[jl,g,k,c,d,f,l,n];rfl);intro i b;have:i=0\/i=1\/i=2\/i=3\/i=4\/i=5\/i=6\/i=7:=by omega
  rcases this with rfl|rfl|rfl|rfl|rfl|rfl|rfl|rfl<;>assumption
 .intro i b;have:=List.countP_eq_zero.1 h i (pm.2 b);simpa using this
def Wx.cap(X:Wx):Nat->Value
 |1=>.pointer (some ⟨X.bk,0,none⟩)
 |2=>.pointer (some ⟨X.bp,0,none⟩)
 |3=>.pointer (some ⟨X.bn,0,none⟩)
 |4=>.pointer (some ⟨X.ba,0,none⟩)
 |_=>.pointer (some ⟨X.bi,0,none⟩)
def Wx.val(X:Wx)(v:ByteArray×Bool):Nat->Value
 |0=>.slice (some ⟨X.C,0,none⟩) X.n2 X.n2
 |1=>.int .i64 X.κ
 |2=>.int .i64 X.key
 |3=>.slice X.A X.n X.c
 |4=>.int .i64 X.nm
 |5=>.agg #[.string v.1,.bool v.2]
 |_=>.pointer (some ⟨X.C,2*X.κ,none⟩)
abbrev FW(dd:Deferred)(T:Array Value)(k:List Item):Frame:=⟨nCl,T,k,[dd],.run,.deferred,none⟩
structure RI (X:Wx) (v:ByteArray×Bool) (listed:Array Bool) (T:Array Value) (S:aw) (w:World):Prop where
 sz:T.size=13
 cap:∀t,1<=t->t<=5->T.getD t undef=X.cap t
 done:∀j,j<7->listed.getD j false=true->T.getD (6+j) undef=X.val v j
 st:listed.getD 7 false=true->Has X.C (2*X.κ) (.string v.1) w/\Has X.C (2*X.κ+1) (.bool v.2) w
 ord:listed.getD 7 false=true->∀j,j<7->listed.getD j false=true
 inv:X.Inv S w
section
variable {P:Program} {m:Bool} {fr:Frame} {xs base:List Frame} {ops:Array Oper} {i:Nat} {rest:List Nat} {k:List Item} {o:Oper} {w w2:World} {es:Array Event} {v:Value}
def ard (g:fr.mode=.run) (j:(fr.kind ==.early)=false) (b:fr.roundOf=none) (f:fr.todo=.inRegion ops (i::rest)::k) (p:ops[i]?=some o) (r:o.guard=none)
  (q:(execOp fr.eval o).runT P w #[]=(.ok (.value v) w2,es)):stepG P m (Gl (fr::xs) base) w=.go (Gl (fr.finish v::xs) base) w2 (seen P fr.fn es):=by
 obtain⟨c,a,l,e,u,d,t⟩:=fr;dsimp only at g j b f;subst g b f;have n:∀y,Region.wanted o y=true:=λy=>by unfold Region.wanted;rw[r]
 have s:stepG P m (Gl (⟨c,a,.inRegion ops (i::rest)::k,e,.run,d,none⟩::xs) base) w =
   stepG.apply P true ⟨c,a,.inRegion ops (i::rest)::k,e,.run,d,none⟩ (xs++base) none (execOp (Frame.eval ⟨c,a,.inRegion ops (i::rest)::k,e,.run,d,none⟩) o) w:=by
  simp[Gl,stepG,stepG.exec,stepG.oper,Frame.oper?,p,n]
 rw[s];unfold stepG.apply;simp only[q,mT];simp[GStep.after,j,Gl]
def ai6 (g:fr.mode=.run) (j:(fr.kind ==.early)=false) (b:fr.roundOf=none) (f:fr.todo=.inRegion ops (i::rest)::k) (p:ops[i]?=some o) (r:o.guard=none)
  (q:(execOp fr.eval o).runT P w #[]=(.ok .skip w2,es)):stepG P m (Gl (fr::xs) base) w=.go (Gl (fr.finish undef::xs) base) w2 (seen P fr.fn es):=by
 obtain⟨c,a,l,e,u,d,t⟩:=fr;dsimp only at g j b f;subst g b f;have n:∀y,Region.wanted o y=true:=λy=>by unfold Region.wanted;rw[r]
 have s:stepG P m (Gl (⟨c,a,.inRegion ops (i::rest)::k,e,.run,d,none⟩::xs) base) w =
   stepG.apply P true ⟨c,a,.inRegion ops (i::rest)::k,e,.run,d,none⟩ (xs++base) none (execOp (Frame.eval ⟨c,a,.inRegion ops (i::rest)::k,e,.run,d,none⟩) o) w:=by
  simp[Gl,stepG,stepG.exec,stepG.oper,Frame.oper?,p,n]
 rw[s];unfold stepG.apply;simp only[q,mT];simp[GStep.after,j,Gl]
end
noncomputable def eK:Frame:={(default:Frame) with fn:=prog.funcs.size,defers:=[],mode:=.panicking [goexitEntry]}
section
variable {X:Wx} {v:ByteArray×Bool} {listed:Array Bool} {T T':Array Value} {S:aw} {w w1:World} {dd:Deferred} {k:List Item} {rest:List Nat}
def abx(h:Has X.C (2*X.κ) (.string v.1) w/\Has X.C (2*X.κ+1) (.bool v.2) w)(a:X.Rl S w w1):Has X.C (2*X.κ) (.string v.1) w1/\Has X.C (2*X.κ+1) (.bool v.2) w1:=
 ⟨(a.cell (2*X.κ) (by show 2*X.κ / 2=X.κ;omega)).trans h.1,(a.cell (2*X.κ+1) (by show(2*X.κ+1) / 2=X.κ;omega)).trans h.2⟩
def RI.rely(h:RI X v listed T S w)(a:X.Rl S w w1):RI X v listed T S w1:=⟨h.sz,h.cap,h.done,λe=>abx (h.st e) a,h.ord,h.inv.rely a⟩
def RI.put(h:RI X v listed T S w)(k:listed.size=8)(l:i<7)(b:Tm [6+i] T T')(d:T'.getD (6+i) undef=X.val v i):RI X v (listed.setIfInBounds i true) T' S w:=by
 refine⟨b.size.trans h.sz,λt f g=>(b.same t (by simp;omega)).trans (h.cap t f g),λj c e=> ?_,λe=> ?_,λe j c=> ?_,h.inv⟩
 .by_cases a:j=i
  .subst a;exact d
  .rw[gS (by omega),bd a] at e;exact(b.same (6+j) (by simp;omega)).trans (h.done j c e)
 .rw[gS (by omega),bd (by omega)] at e;exact h.st e
 .rw[gS (by omega),bd (by omega)] at e;rw[gS (by omega)];by_cases a:j=i
  .rw[dl a]
  .rw[bd a];exact h.ord e j c
def arf(j:X.Inv S w)(g:X.Ok)(c:X.R b):X.Gr S S w w (seen prog f #[⟨.cell ⟨b,0,none⟩,false,false⟩]):=by
 refine⟨λ_ _ _ _=>rfl,am _,rfl,id,λ_ _=>rfl,λ_ h=>h,λ_ h=>.inl h,λe i=> ?_⟩;have a:=sg i;simp only[rG,lE,rc,tT] at a;subst a;refine⟨λx d=>.inr (.inr ?_),(λe=>by cases e),(λe=>by cases e),(λe=>by cases e), ?_⟩
 .simp[MemAct.ofEvent,MemAct.touch?] at d;rw[<-d];exact⟨c,rfl⟩
 .exact aE (g.rlt b c) j.sz
def ai7 :X.Gr S S w w (seen prog f #[]):=
 ⟨λ_ _ _ _=>rfl,am _,rfl,id,λ_ _=>rfl,λ_ h=>h,λ_ h=>.inl h,λe a=>by cases(by simpa using sg a:False)⟩
def ai8{x:Operand}{A:Addr}{u:Value}{dst:Option Tmp}{pos:String}(b:P.underlying t=some d)(a:aiS d=true)(c:e x=.pointer (some A))(f:w.cell? A=some u) :
  (execOp e ⟨dst,.load t x,ty,pos,af,gd⟩).runT P w #[]=(.ok (.value u) w,#[⟨.cell A,false,false⟩]):=by
 cases d<;>first|(cases a;done)|simp[execOp,c,Instr.loadAt,Instr.sureAddr,loadVar,isAgg,lm b,f]
def aby (n:X.Ok) (h:RI X v listed T S w) {t ty : Nat}  (r:i<5) (a:∃p,aV[i]?=some ⟨some (6+i),.load ty (.tmp t),ty,p,#[],none⟩) (q:prog.underlying ty=some d) (l:aiS d=true)
  (c:T.getD t undef=.pointer (some ⟨b,0,none⟩)) (e:X.R b/\X.w0.cell? ⟨b,0,none⟩=some (X.val v i))
  (K:∀T' g,RI X v listed T S g->Tm [6+i] T T'->T'.getD (6+i) undef=X.val v i->bH prog false X.Rl X.Gr Stop S (Gl [FW dd T' (.inRegion aV rest::k)] [eK]) g) :
  bH prog false X.Rl X.Gr Stop S (Gl [FW dd T (.inRegion aV (i::rest)::k)] [eK]) w:=by
 obtain⟨p,a⟩:=a;refine .step rfl λw1 o=> ?_;have f:=h.rely o;refine⟨_,w1,_,S,ard (xs:=[]) (base:=[eK]) rfl rfl rfl rfl a rfl (ai8 q l (x:=.tmp t) (A:=⟨b,0,none⟩) c (f.inv.cell e.1 e.2)),arf f.inv n e.1, ?_⟩;have m:Frame.finish (FW dd T (.inRegion aV (i::rest)::k)) (X.val v i)=FW dd (T.setIfInBounds (6+i) (X.val v i)) (.inRegion aV rest::k):=by
  simp only[Frame.finish,a,qd]
 rw[m];have j:6+i<T.size:=by rw[h.sz];omega
 exact K _ w1 f (.one (by simp) λt c=>by rw[aG j,bd c]) (by rw[aG j,dl rfl])
def arh(F:FaT P){x y:Operand}{dst:Option Tmp}{pos:String}(f:e x=.slice (some a) n c)(b:e y=.int .i64 j)(g:j<n) :
  (execOp e ⟨dst,.indexAddr 205 x y,ty,pos,af,gd⟩).runT P w #[]=(.ok (.value (.pointer (some (a.add (j*2))))) w,#[]):=by
 obtain⟨i,d,k, -⟩:=F.i258;simp[execOp,f,b,Instr.indexAt,asIntOf,lm F.ahr,g,sizeOf,typeInfo,d,k]
def ari (e:X.Ok) (h:RI X v listed T S w) (g:listed.getD 0 false=true) (l:listed.getD 1 false=true)
  (K:∀T' b,RI X v listed T S b->Tm [6+6] T T'->T'.getD (6+6) undef=X.val v 6->bH prog false X.Rl X.Gr Stop S (Gl [FW dd T' (.inRegion aV rest::k)] [eK]) b) :
  bH prog false X.Rl X.Gr Stop S (Gl [FW dd T (.inRegion aV (6::rest)::k)] [eK]) w:=by
 obtain⟨p,a⟩:=ay5;refine .step rfl λw1 f=> ?_;refine⟨_,w1,_,S,ard (xs:=[]) (base:=[eK]) rfl rfl rfl rfl a rfl (arh faT (x:=.tmp 6) (y:=.tmp 7) (h.done 0 (by omega) g) (h.done 1 (by omega) l) e.kn),ai7, ?_⟩;have j:(⟨X.C,0,none⟩:Addr).add (X.κ*2)=⟨X.C,2*X.κ,none⟩:=by rw[ir,ph,uK]
 rw[j];have d:Frame.finish (FW dd T (.inRegion aV (6::rest)::k)) (X.val v 6)=FW dd (T.setIfInBounds 12 (X.val v 6)) (.inRegion aV rest::k):=by
  simp only[Frame.finish,a,qd]
 have c:12<T.size:=by rw[h.sz];omega
 have:=K (T.setIfInBounds 12 (X.val v 6)) w1 (h.rely f) (.one (by simp) λt i=>by rw[aG c,bd i]) (by rw[aG c,dl rfl]);rw[<-d] at this;exact this
end
def ahy{args:Array Value} :(callFunc 149 args).runT prog w #[]=(.ok (.enter 149 args) w,#[]):=by
 have a:=cA func149;have c:¬f149.name= "runtime.NumGoroutine" :=by simpa using a
 have b:¬f149.body=none:=λe=>by have:=aeE;rw[e] at this;cases this
 unfold callFunc;simp[func149,c,b]
def ai9 {m:Bool} {base : List Frame}     {w2 : World}  {args:Array Value} (l:fr.mode=.run) (n:(fr.kind ==.early)=false) (b:fr.roundOf=none) (j:fr.todo=.inRegion V (i::rest)::k) (q:V[i]?=some o) (s:o.guard=none)
  (r:(execOp fr.eval o).runT P w #[]=(.ok (.enter f args) w2,es)):stepG P m (Gl (fr::xs) base) w=.go (Gl (Frame.enter P f args .normal::fr::xs) base) w2 (seen P fr.fn es):=by
 obtain⟨c,a,g,e,v,d,u⟩:=fr;dsimp only at l n b j;subst l b j;have p:∀y,Region.wanted o y=true:=λy=>by unfold Region.wanted;rw[s]
 have t:stepG P m (Gl (⟨c,a,.inRegion V (i::rest)::k,e,.run,d,none⟩::xs) base) w =
   stepG.apply P true ⟨c,a,.inRegion V (i::rest)::k,e,.run,d,none⟩ (xs++base) none (execOp (Frame.eval ⟨c,a,.inRegion V (i::rest)::k,e,.run,d,none⟩) o) w:=by
  simp[Gl,stepG,stepG.exec,stepG.oper,Frame.oper?,q,p]
 rw[t];unfold stepG.apply;simp only[r,mT];simp[GStep.after,n,Gl]
section
variable {X:Wx} {v:ByteArray×Bool} {listed:Array Bool} {T T':Array Value} {S:aw} {w w1:World} {dd:Deferred} {k:List Item} {rest:List Nat}
def atY(a:X.Ok)(r:dX Z)(k:∀f nm,Z f [] nm=(⟨#[]⟩,false))(d:X.Inv S w){cfr:Frame} :
  bH prog false X.Rl X.Gr (λo g w1=>g=⟨cfr.finish (.agg #[.string (Z X.key X.l X.nm).1,.bool (Z X.key X.l X.nm).2]),[eK],.running,none,none⟩/\X.Inv o w1) S
   (Gl (Frame.enter prog 149 #[.int .i64 X.key,.slice X.A X.n X.c,.int .i64 X.nm] .normal::[]) [cfr,eK]) w:=by
 by_cases l:X.n=0
 .have m:X.l=[]:=by have:=a.hl;rw[l] at this;exact pI.1 this
  rw[m,k,l];exact Wx.lift a (atV X.lV) d
 .have n:∀(A:Addr) (u:Value),X.w0.cell? A=some u->X.Rg A.block->plV (λb=>X.Rg b/\dx X.w0 b) u->w.cell? A=some u:=λA u p q _=>(fF (d.r _ (a.rows _ q))).trans p;exact Wx.lift a (aq2 (Rg:=X.Rg) r (ap a.hN d.sz) (λg j=>by
   obtain⟨c,t,z,e⟩:=a.gr g j;exact⟨a.gl g j,c,t,z,(d.r g (a.rows g (a.gl g j))).trans e⟩) a.k1 a.k2 a.hl a.hc a.hcm (a.rd.mask a.rgp a.al n) (a.rgp.move a.al λb i=>d.r b (a.rows b i)) a.al (by omega) a.nm X.lV (λb i=>a.rows b i.1)) d
def arj (B:X.Ok) (x:dX Z) (a:∀b nm,Z b [] nm=(⟨#[]⟩,false)) (h:RI X (Z X.key X.l X.nm) listed T S w) (f:listed.getD 5 false=false) (n:listed.getD 2 false=true) (D:listed.getD 3 false=true) (q:listed.getD 4 false=true)
  (K:∀T' l d,RI X (Z X.key X.l X.nm) listed T l d->Tm [6+5] T T'->T'.getD (6+5) undef=X.val (Z X.key X.l X.nm) 5->bH prog false X.Rl X.Gr Stop l (Gl [FW dd T' (.inRegion aV rest::k)] [eK]) d) :
  bH prog false X.Rl X.Gr Stop S (Gl [FW dd T (.inRegion aV (5::rest)::k)] [eK]) w:=by
 obtain⟨p,j⟩:=ay4;refine .step rfl λw1 C=> ?_;have r:=h.rely C;have m:∀w,(execOp (Frame.eval (FW dd T (.inRegion aV (5::rest)::k))) ⟨some 11,.call ⟨.value (.func 149),#[.tmp 8,.tmp 9,.tmp 10],#[3,32,3]⟩,216,p,#[⟨2,.data⟩,⟨3,.data⟩,⟨4,.data⟩],none⟩).runT prog w #[]=(.ok (.enter 149 #[.int .i64 X.key,.slice X.A X.n X.c,.int .i64 X.nm]) w,#[]):=λw=>by
  have E:Array.map (Frame.eval (FW dd T (.inRegion aV (5::rest)::k))) #[.tmp 8,.tmp 9,.tmp 10]=#[.int .i64 X.key,.slice X.A X.n X.c,.int .i64 X.nm]:=by
   have G:T.getD 8 undef=.int .i64 X.key:=h.done 2 (by omega) n;have v:T.getD 9 undef=.slice X.A X.n X.c:=h.done 3 (by omega) D;have y:T.getD 10 undef=.int .i64 X.nm:=h.done 4 (by omega) q;rw[<-G,<-v,<-y];simp[Frame.eval]
  have F:execOp (Frame.eval (FW dd T (.inRegion aV (5::rest)::k))) ⟨some 11,.call ⟨.value (.func 149),#[.tmp 8,.tmp 9,.tmp 10],#[3,32,3]⟩,216,p,#[⟨2,.data⟩,⟨3,.data⟩,⟨4,.data⟩],none⟩=callFunc 149 #[.int .i64 X.key,.slice X.A X.n X.c,.int .i64 X.nm]:=by
   simp only[execOp,resolve];rw[E];simp[Deferred.ofValue,invoke,Frame.eval];try rfl
  exact(fa (λs=>Sem.runT prog s w #[]) F).trans ahy
 refine⟨_,w1,_,S,ai9 (xs:=[]) (base:=[eK]) rfl rfl rfl rfl j rfl (m w1),ai7, ?_⟩;refine bH.bind X.lV.fg X.lV.tr (atY B x a r.inv (cfr:=FW dd T (.inRegion aV (5::rest)::k))) λz g H ⟨hg,fU⟩=> ?_;subst hg;have i:11<T.size:=by rw[h.sz];omega
 have A:Frame.finish (FW dd T (.inRegion aV (5::rest)::k)) (X.val (Z X.key X.l X.nm) 5)=FW dd (T.setIfInBounds 11 (X.val (Z X.key X.l X.nm) 5)) (.inRegion aV rest::k):=by
  simp only[Frame.finish,j,qd]
 have u:listed.getD 7 false=false:=by
  cases e:listed.getD 7 false with
  |false=>rfl
  |true=>rw[h.ord e 5 (by omega)] at f;cases f
 have:=K (T.setIfInBounds 11 (X.val (Z X.key X.l X.nm) 5)) z H ⟨h.sz,h.cap,h.done,λe=>(by rw[u] at e;cases e),h.ord,fU⟩ (.one (by simp) λt o=>by rw[aG i,bd o]) (by rw[aG i,dl rfl]);rw[<-A] at this;exact this
end
section
variable {X:Wx} {v:ByteArray×Bool} {listed:Array Bool} {T T':Array Value} {S:aw} {w w1:World} {dd:Deferred} {k:List Item} {rest:List Nat}
def aoD (B:X.Ok) (h:RI X v listed T S w) (N:listed.getD 5 false=true) (V:listed.getD 6 false=true)
  (K:∀s,X.Inv S s->(Has X.C (2*X.κ) (.string v.1) s/\Has X.C (2*X.κ+1) (.bool v.2) s)->bH prog false X.Rl X.Gr Stop S (Gl [FW dd T (.inRegion aV rest::k)] [eK]) s) :
  bH prog false X.Rl X.Gr Stop S (Gl [FW dd T (.inRegion aV (7::rest)::k)] [eK]) w:=by
 obtain⟨p,F⟩:=ay6;refine .step rfl λw1 R=> ?_;have E:=h.rely R;obtain⟨t,g,H⟩:=E.inv.pay;have g:w1.heap[X.C]?=some (.cells t 216 (0,0)):=g;have L:=B.kn;obtain⟨u0,C⟩:∃u,t[2*X.κ]?=some u:=⟨_,fi (by omega)⟩;obtain⟨u1,z⟩:∃u,t[2*X.κ+1]?=some u:=⟨_,fi (by omega)⟩;have D:(⟨X.C,2*X.κ,none⟩:Addr).add 1=⟨X.C,2*X.κ+1,none⟩:=ir _ _ _;have q:=agf faT (w:=w1) (e:=Frame.eval (FW dd T (.inRegion aV (7::rest)::k))) (x:=.tmp 12) (y:=.tmp 11) (dst:=none) (ty:=0) (pos:=p) (af:=#[⟨6,.data⟩,⟨5,.data⟩,⟨5,.chain⟩,⟨0,.phase⟩,⟨1,.phase⟩,⟨2,.phase⟩,⟨3,.phase⟩,⟨4,.phase⟩,⟨5,.phase⟩]) (gd:=none) (A:=⟨X.C,2*X.κ,none⟩) (u0:=.string v.1) (u1:=.bool v.2) rfl rfl
  (h.done 6 (by omega) V) (h.done 5 (by omega) N) ((ep g).trans C) (gC g) (by rw[D];exact(ep g).trans z) (by rw[D];exact gC g)
 rw[D] at q;have a:((w1.setCell ⟨X.C,2*X.κ,none⟩ (.string v.1)).setCell ⟨X.C,2*X.κ+1,none⟩ (.bool v.2)).heap[X.C]?=some (.cells ((t.setIfInBounds (2*X.κ) (.string v.1)).setIfInBounds (2*X.κ+1) (.bool v.2)) 216 (0,0)):=uI (uI g);have c:((w1.setCell ⟨X.C,2*X.κ,none⟩ (.string v.1)).setCell ⟨X.C,2*X.κ+1,none⟩ (.bool v.2)).heap.size=w1.heap.size:=by rw[gE,gE]
 have d:∀b,b≠X.C->((w1.setCell ⟨X.C,2*X.κ,none⟩ (.string v.1)).setCell ⟨X.C,2*X.κ+1,none⟩ (.bool v.2)).heap[b]?=w1.heap[b]?:=λb j=>by
  rw[bm _ _ _ (λe=>j e.symm),bm _ _ _ (λe=>j e.symm)]
 have n:((w1.setCell ⟨X.C,2*X.κ,none⟩ (.string v.1)).setCell ⟨X.C,2*X.κ+1,none⟩ (.bool v.2)).ou=w1.ou:=rfl;have l:=ai6 (m:=false) (xs:=[]) (base:=[eK]) (k:=k) (fr:=FW dd T (.inRegion aV (7::rest)::k)) rfl rfl rfl rfl F rfl q;generalize ((w1.setCell ⟨X.C,2*X.κ,none⟩ (.string v.1)).setCell ⟨X.C,2*X.κ+1,none⟩ (.bool v.2))=w2 at a c d n l;have P:Frame.finish (FW dd T (.inRegion aV (7::rest)::k)) undef=FW dd T (.inRegion aV rest::k):=by
  simp only[Frame.finish,F,qd]
 rw[P] at l;have f:=E.inv;have o:X.Inv S w2:=by
  refine⟨λb j=>(d b (λe=>B.rC (e▸j))).trans (f.r b j),f.s,by rw[c];exact f.c,by rw[c];exact f.wg,by rw[c];exact f.sz, ?_,⟨_,a,by simpa using H⟩,n.trans f.os⟩;obtain⟨U,M,Q⟩:=f.live;exact⟨U,M,(d X.Wg (λe=>B.cW e.symm)).trans Q⟩
 refine⟨_,w2,_,S,l,⟨λb _ _ j=>d b j,me c.symm,n,λ_=>⟨_,a,by simpa using H⟩,λi I=> ?_,λ_ h=>h,λ_ h=>.inl h,λe W=> ?_⟩,K w2 o ⟨?_, ?_⟩⟩
 .have O:i≠2*X.κ:=λe=>I (by show i / 2=X.κ;omega);have Y:i≠2*X.κ+1:=λe=>I (by show i / 2=X.κ;omega);rw[ep a,ep g,ip (λe=>Y e.symm),ip (λe=>O e.symm)]
 .have G:=sg W;simp only[rG,lE,rc,tT] at G;have J:X.C<w2.heap.size:=by rw[c];exact f.c
  rcases G with rfl|rfl
  .refine⟨λx r=>.inr (.inl ⟨⟨X.C,2*X.κ,none⟩, ?_,rfl, ?_⟩),(λe=>by cases e),(λe=>by cases e),(λe=>by cases e),J⟩
   .simp[MemAct.ofEvent,MemAct.touch?] at r;rw[<-r]
   .show 2*X.κ / 2=X.κ;omega
  .refine⟨λx r=>.inr (.inl ⟨⟨X.C,2*X.κ+1,none⟩, ?_,rfl, ?_⟩),(λe=>by cases e),(λe=>by cases e),(λe=>by cases e),J⟩
   .simp[MemAct.ofEvent,MemAct.touch?] at r;rw[<-r]
   .show(2*X.κ+1) / 2=X.κ;omega
 .show w2.cell? ⟨X.C,2*X.κ,none⟩=_;rw[ep a,ip (by omega),oE (by omega)]
 .show w2.cell? ⟨X.C,2*X.κ+1,none⟩=_;rw[ep a,oE (by simp;omega)]
def avM(X:Wx)(v:ByteArray×Bool)(dd:Deferred)(k:List Item):aw->Goroutine->World->Prop:=λS g w=>∃T,g=Gl [FW dd T (.inRegion aV []::k)] [eK]/\T.size=13/\X.Inv S w/\Has X.C (2*X.κ) (.string v.1) w/\Has X.C (2*X.κ+1) (.bool v.2) w
def agj(c:X.Ok){o:Int->List gz->Int->ByteArray×Bool}(B:dX o)(p:∀y nm,o y [] nm=(⟨#[]⟩,false)):∀(fuel t:Nat) (listed:Array Bool) (T:Array Value) (S:aw) (w:World),listed.size=8->unW listed<=fuel->RI X (o X.key X.l X.nm) listed T S w->
  bH prog false X.Rl X.Gr (avM X (o X.key X.l X.nm) dd k) S (Gl [FW dd T (.inRegion aV (Region.linearise.go .any aV fuel t listed [])::k)] [eK]) w
 |0,t,listed,T,S,w,d,hf,h=>by
  have l:=ay7 d (.inr (by omega));exact .stop λw1 m=>⟨T,rfl,h.sz,h.inv.rely m,abx (h.st (l 7 (by omega))) m⟩
 |fuel+1,t,listed,T,S,w,d,hf,h=>by
  simp only[Region.linearise.go];change bH _ _ _ _ _ S (Gl [FW dd T (.inRegion aV (match(Region.ready .any aV listed)[t % (Region.ready .any aV listed).length]? with
   |some i=>Region.linearise.go .any aV fuel (t / (Region.ready .any aV listed).length) (listed.setIfInBounds i true) [i]
   |none=>[].reverse)::k)] [eK]) w
  cases A:(Region.ready .any aV listed)[t % (Region.ready .any aV listed).length]? with
  |none=>
   have q:Region.ready .any aV listed=[]:=by
    cases m:Region.ready .any aV listed with
    |nil=>rfl
    |cons x D=>
     rw[m] at A;have r:t % (x::D).length<(x::D).length:=Nat.mod_lt _ (by simp);simp at A;simp at r;omega
   have l:=ay7 d (.inl q);exact .stop λw1 m=>⟨T,rfl,h.sz,h.inv.rely m,abx (h.st (l 7 (by omega))) m⟩
  |some i=>
   simp only[];rw[linearise_go_acc,List.reverse_singleton,List.singleton_append];obtain⟨z,C,hd⟩:=(aeG d).1 (be A);have F:=atX d z C;have s:(listed.setIfInBounds i true).size=8:=by simpa using d
   have next:∀T' n a,RI X (o X.key X.l X.nm) (listed.setIfInBounds i true) T' n a->bH prog false X.Rl X.Gr (avM X (o X.key X.l X.nm) dd k) n (Gl [FW dd T' (.inRegion aV (Region.linearise.go .any aV fuel (t / (Region.ready .any aV listed).length) (listed.setIfInBounds i true) [])::k)] [eK]) a:=
    λT' n a b=>agj c B p fuel _ _ T' n a s (by omega) b
   generalize Region.linearise.go .any aV fuel (t / (Region.ready .any aV listed).length) (listed.setIfInBounds i true) []=rest at next ⊢
   have:i=0\/i=1\/i=2\/i=3\/i=4\/i=5\/i=6\/i=7:=by omega
   rcases this with rfl|rfl|rfl|rfl|rfl|rfl|rfl|rfl
   .exact aby c h (by omega) ayZ faT.ahr rfl (h.cap 4 (by omega) (by omega)) c.ra λT' a b f g=>next T' S a (b.put d (by omega) f g)
   .exact aby c h (by omega) ay0 faT.u3 rfl (h.cap 5 (by omega) (by omega)) c.ri λT' a b f g=>next T' S a (b.put d (by omega) f g)
   .exact aby c h (by omega) ay1 faT.u3 rfl (h.cap 1 (by omega) (by omega)) c.rk λT' a b f g=>next T' S a (b.put d (by omega) f g)
   .exact aby c h (by omega) ay2 faT.u23 rfl (h.cap 2 (by omega) (by omega)) c.rp λT' a b f g=>next T' S a (b.put d (by omega) f g)
   .exact aby c h (by omega) ay3 faT.u3 rfl (h.cap 3 (by omega) (by omega)) c.rn λT' a b f g=>next T' S a (b.put d (by omega) f g)
   .simp only[jl,fb] at hd;exact arj c B p h C hd.1.1 hd.1.2 hd.2 λT' n a b f g=>next T' n a (b.put d (by omega) f g)
   .simp only[jl,fb] at hd;exact ari c h hd.1.1.1.1.1 hd.1.1.1.1.2 λT' a b f g=>next T' S a (b.put d (by omega) f g)
   .simp only[jl,fb] at hd;refine aoD c h hd.1.1.1.1.1.2 hd.1.1.1.1.1.1 λa u v=>next T S a ⟨h.sz,h.cap,λj E e=> ?_,λ_=>v,λ_ j E=> ?_,u⟩
    .rw[gS (by omega),bd (by omega)] at e;exact h.done j E e
    .rw[gS (by omega),bd (by omega)];have:j=0\/j=1\/j=2\/j=3\/j=4\/j=5\/j=6:=by omega
     rcases this with rfl|rfl|rfl|rfl|rfl|rfl|rfl
     .exact hd.1.1.1.1.2
     .exact hd.1.1.1.2
     .exact hd.1.1.2
     .exact hd.1.2
     .exact hd.2
     .exact hd.1.1.1.1.1.2
     .exact hd.1.1.1.1.1.1
end
end
section
open Go.Conc Go.ConcN Go.RowKit Go.Conc.Lib Go.ConcR.Gen Go.ConcN.Gen
open Go.ConcR (KK wgBlock WgAt stA smA rd wr mk Payload DC0)
section
variable {X:Wx} {v:ByteArray×Bool} {T:Array Value} {S:aw} {w w1:World} {dd:Deferred} {k:List Item} {Stop:aw->Goroutine->World->Prop}
def abz {fr2 : Frame} {es:World->Array Event} {g:World->World} (s:X.Inv S w) (p:∀w,X.Inv S w->stepG prog false (Gl [fr] [eK]) w=.go (Gl [fr2] [eK]) (g w) (es w)) (q:∀w,(g w).heap=w.heap/\(g w).ou=w.ou) (u:∀w,X.Inv S w->∀e∈es w,False)
  (K:∀k,X.Inv S k->bH prog false X.Rl X.Gr Stop S (Gl [fr2] [eK]) k):bH prog false X.Rl X.Gr Stop S (Gl [fr] [eK]) w:=by
 refine .step rfl λw1 n=> ?_;have d:=s.rely n;obtain⟨c,l⟩:=q w1;have f:∀a,(g w1).cell? a=w1.cell? a:=λa=>by unfold World.cell?;rw[c]
 refine⟨_,g w1,_,S,p w1 d,⟨λb _ _ _=>by rw[c],me (by rw[c]),l,λ⟨j,a,b⟩=>⟨j,by rw[c];exact a,b⟩,λi _=>f _,λ_ h=>h,λ_ h=>.inl h,λe h=>(u w1 d e h).elim⟩,K _ ⟨λb o=>by rw[c];exact d.r b o,d.s,by rw[c];exact d.c,by rw[c];exact d.wg,by rw[c];exact d.sz, ?_, ?_,l.trans d.os⟩⟩
 .obtain⟨t,r,m⟩:=d.live;exact⟨t,r,by unfold WgAt;rw[c];exact m⟩
 .obtain⟨j,a,b⟩:=d.pay;exact⟨j,by rw[c];exact a,b⟩
abbrev ddW(Wg:Nat):Deferred:=⟨.fn (.func dY.done) #[],#[.pointer (some ⟨Wg,0,none⟩)]⟩
def aAJ:∃p,mV[0]?=some ⟨none,.defer ⟨.value (.func dY.done),#[.tmp 0],#[213]⟩,0,p,#[],none⟩:=⟨_,rfl⟩
def atZ(T:Array Value):QuitsD prog 2 0 (G ⟨nCl,T,[],[],.returning,.deferred,none⟩ [eK]):=by
 refine QuitsD.ctl (g':=G eK []) rfl (λw=> ?_) ?_
 .have a:(results f147 T).runT prog w #[]=(.ok (.tuple #[]) w,#[]):=by
   have:f147.results=#[]:=rfl;simp[results,this]
  simp only[G,stepG,unwind,func147,a];simp[doReturn,GStep.after,seen,eK,goexitEntry]
 refine QuitsD.ctl (g':={G eK [] with status:=.finished}) rfl (λw=> ?_) ⟨rfl,rfl⟩;simp[G,stepG,unwind,eK,goexitEntry,Frame.catches];rfl
def acu {fr2 : Frame} {cs cs2:List Frame} (g:X.Inv S w) (c:Has X.C (2*X.κ) (.string v.1) w/\Has X.C (2*X.κ+1) (.bool v.2) w) {es:World->Array Event} (f:∀w,stepG prog false (G fr cs) w=.go (G fr2 cs2) w (es w)) (d:∀w,∀e∈es w,False)
  (K:∀a,X.Inv S a->Has X.C (2*X.κ) (.string v.1) a/\Has X.C (2*X.κ+1) (.bool v.2) a->bH prog false X.Rl X.Gr Stop S (G fr2 cs2) a):bH prog false X.Rl X.Gr Stop S (G fr cs) w:=by
 refine .step rfl λw1 b=> ?_;exact⟨_,w1,_,S,f w1,⟨λ_ _ _ _=>rfl,am _,rfl,id,λ_ _=>rfl,λ_ h=>h,λ_ h=>.inl h,λe h=>(d w1 e h).elim⟩,K w1 (g.rely b) (abx c b)⟩
def abA  :∀e∈seen P f #[],False:=λe h=>by simpa using sg h
def aja{args:Array Value} :(callFunc dY.done args).runT prog w #[]=(.ok (.enter dY.done args) w,#[]):=by
 have h:=aam.f_done;have b:¬(doneFn dY).name= "runtime.NumGoroutine" :=by decide
 have a:¬(doneFn dY).body=none:=λe=>by cases e
 unfold callFunc;simp[h,b,a]
def aw3(s:X.Ok)(k:X.tWg=dY.tWg){val:Nat->Value}(r:val (2*X.κ)=.string v.1)(q:val (2*X.κ+1)=.bool v.2)(m:X.Inv S w)(p:Has X.C (2*X.κ) (.string v.1) w/\Has X.C (2*X.κ+1) (.bool v.2) w) :
  bH prog false X.Rl X.Gr (af9 prog X.tWg X.Wg X.C X.n2 val X.κ) S (G (FW (ddW X.Wg) T [.inRegion aV []]) [eK]) w:=by
 refine acu (fr2:=FW (ddW X.Wg) T []) (cs2:=[eK]) m p (es:=λ_=>#[]) (λw=>by simp[G,stepG,stepG.exec]) (λ_ e h=>by simpa using h) λu o f=> ?_;refine acu (fr2:=⟨nCl,T,[],[ddW X.Wg],.returning,.deferred,none⟩) (cs2:=[eK]) o f (es:=λ_=>#[]) (λw=>by simp[G,stepG,stepG.exec]) (λ_ e h=>by simpa using h) λt g d=> ?_;have j:Frame.enter prog dY.done #[.pointer (some ⟨X.Wg,0,none⟩)] .deferred=(baseD dY.done).at ⟨#[.pointer (some ⟨X.Wg,0,none⟩),undef,undef,undef],[]⟩ [.code (body_done dY)]:=by
  unfold Frame.enter;rw[aam.f_done];rfl
 refine acu (fr2:=(baseD dY.done).at ⟨#[.pointer (some ⟨X.Wg,0,none⟩),undef,undef,undef],[]⟩ [.code (body_done dY)]) (cs2:=[⟨nCl,T,[],[],.returning,.deferred,none⟩,eK]) g d (es:=λw=>seen prog nCl #[]) (λw=> ?_) (λ_=>abA) λl i b=> ?_
 .have a:(invoke (ddW X.Wg).target (ddW X.Wg).args).runT prog w #[]=(.ok (.enter dY.done #[.pointer (some ⟨X.Wg,0,none⟩)]) w,#[]):=aja;simp only[G,stepG,unwind,callDeferred,a,j];simp[GStep.after]
 .have:=aoC (κ:=X.κ) (n:=X.n2) (R:=X.R) (S:=S) (val:=val) (c:=⟨nCl,T,[],[],.returning,.deferred,none⟩) (cs:=[eK]) aam rfl (atZ T) l (k▸i.live) (by rw[r];exact b.1) (by rw[q];exact b.2);rw[<-k] at this;exact this
end
abbrev Wx.iM(X:Wx):Array Value:=#[.pointer (some ⟨X.Wg,0,none⟩),.pointer (some ⟨X.bk,0,none⟩),.pointer (some ⟨X.bp,0,none⟩),.pointer (some ⟨X.bn,0,none⟩),.pointer (some ⟨X.ba,0,none⟩),.pointer (some ⟨X.bi,0,none⟩)]
abbrev FD(T:Array Value)(k:List Item):Frame:=⟨nCl,T,k,[],.run,.deferred,none⟩
def at0{a:Array Value}:Frame.enter prog nCl a .deferred=FD (a++Array.replicate (13-a.size) undef) [.code ank]:=by
 unfold Frame.enter;rw[func147];rfl
def aw4:prog.follows .mixedOrders=true:=by kernel_rfl
section
variable {X:Wx} {S:aw} {w:World}
def ajb(ok:X.Ok)(hF:dX Z)(v:∀E nm,Z E [] nm=(⟨#[]⟩,false))(N:X.tWg=dY.tWg){val:Nat->Value}(v0:val (2*X.κ)=.string (Z X.key X.l X.nm).1)(R:val (2*X.κ+1)=.bool (Z X.key X.l X.nm).2)(hi:X.Inv S w) :
  bH prog false X.Rl X.Gr (af9 prog X.tWg X.Wg X.C X.n2 val X.κ) S (G (Frame.enter prog nCl X.iM .deferred) [eK]) w:=by
 rw[at0];obtain⟨T,K,U,g0,C⟩:∃T:Array Value,T=X.iM++Array.replicate (13-X.iM.size) undef/\T.size=13/\T.getD 0 undef=.pointer (some ⟨X.Wg,0,none⟩)/\∀t,1<=t->t<=5->T.getD t undef=X.cap t:=by
  refine⟨_,rfl,by simp, ?_,λt L m=> ?_⟩
  .rw[gc,rb (by simp)];rfl
  .rw[gc,rb (by simp;omega)];have:t=1\/t=2\/t=3\/t=4\/t=5:=by omega
   rcases this with rfl|rfl|rfl|rfl|rfl<;>rfl
 rw[<-K];clear K;rw[arc];refine abz (fr:=FD T [.code (.seq (.region 0 mV false) (.region 1 aV true))]) (fr2:=FD T [.code (.region 0 mV false),.code (.region 1 aV true)]) (g:=id) (es:=λ_=>#[]) hi (λw _=>by simp[Gl,stepG,stepG.exec]) (λ_=>⟨rfl,rfl⟩) (λ_ _ e h=>by simpa using h) λw1 L=> ?_;have z:List.range mV.size=[0]:=rfl;refine abz (fr2:=FD T [.inRegion mV [0],.code (.region 1 aV true)]) (g:=id) (es:=λ_=>#[]) L (λw _=>by simp[Gl,stepG,stepG.exec,z]) (λ_=>⟨rfl,rfl⟩) (λ_ _ e h=>by simpa using h) λw2 M=> ?_;obtain⟨p,I⟩:=aAJ;refine abz (fr2:=FW (ddW X.Wg) T [.inRegion mV [],.code (.region 1 aV true)]) (g:=id) (es:=λ_=>seen prog nCl #[]) M (λw _=> ?_) (λ_=>⟨rfl,rfl⟩) (λ_ _=>abA) λw3 Y=> ?_
 .have H:(execOp (Frame.eval (FD T [.inRegion mV [0],.code (.region 1 aV true)])) ⟨none,.defer ⟨.value (.func dY.done),#[.tmp 0],#[213]⟩,0,p,#[],none⟩).runT prog w #[]=(.ok (.defer (ddW X.Wg)) w,#[]):=by
   have hm:Array.map (Frame.eval (FD T [.inRegion mV [0],.code (.region 1 aV true)])) #[.tmp 0]=#[.pointer (some ⟨X.Wg,0,none⟩)]:=by
    rw[<-g0];simp[Frame.eval]
   simp only[execOp,resolve];rw[hm];simp[Deferred.ofValue,Frame.eval]
  have V:∀y,Region.wanted ⟨none,.defer ⟨.value (.func dY.done),#[.tmp 0],#[213]⟩,0,p,#[],none⟩ y=true:=λy=>rfl;have e1:stepG prog false (Gl [FD T [.inRegion mV [0],.code (.region 1 aV true)]] [eK]) w =
    stepG.apply prog true (FD T [.inRegion mV [0],.code (.region 1 aV true)]) [eK] none (execOp (Frame.eval (FD T [.inRegion mV [0],.code (.region 1 aV true)])) ⟨none,.defer ⟨.value (.func dY.done),#[.tmp 0],#[213]⟩,0,p,#[],none⟩) w:=by
   simp[Gl,stepG,stepG.exec,stepG.oper,Frame.oper?,I,V]
  rw[e1];unfold stepG.apply;simp only[H,mT];have D:(CallKind.deferred ==CallKind.early)=false:=rfl;simp[GStep.after,D,Gl,Frame.finish,I]
 refine abz (fr2:=FW (ddW X.Wg) T [.code (.region 1 aV true)]) (g:=id) (es:=λ_=>#[]) Y (λw _=>by simp[Gl,stepG,stepG.exec]) (λ_=>⟨rfl,rfl⟩) (λ_ _ e h=>by simpa using h) λw4 Q=> ?_;refine .step rfl λr s=> ?_;have m:=Q.rely s;have u:∃(t:Nat) (f:World),f.heap=r.heap/\f.ou=r.ou/\stepG prog false (Gl [FW (ddW X.Wg) T [.code (.region 1 aV true)]] [eK]) r=.go (Gl [FW (ddW X.Wg) T [.inRegion aV (Region.linearise.go .any aV 8 t (Array.replicate 8 false) [])]] [eK]) f #[]:=by
  have B:∀t,Region.schedule (prog.follows .mixedOrders) aV t=Region.linearise.go .any aV 8 t (Array.replicate 8 false) []:=λt=>by
   simp only[Region.schedule,aw4,Bool.true_or,mT,Region.linearise,anl]
  simp only[Gl,stepG,stepG.exec,B,uw,fd,qc];cases d:(choose (.order nCl 1)).run prog r with
  |ok t f=>
   refine⟨t,f, ?_⟩;have:f.heap=r.heap/\f.ou=r.ou:=by
    unfold choose at d;rw[Sem.run] at d;split at d
    .cases d;exact⟨rfl,rfl⟩
    .cases d;exact⟨rfl,rfl⟩
   exact⟨this.1,this.2,rfl⟩
  |halt q f=>
   exfalso;unfold choose at d;rw[Sem.run] at d;split at d<;>cases d
 obtain⟨t,f,l,J,F⟩:=u;have o:∀a,f.cell? a=r.cell? a:=λa=>by unfold World.cell?;rw[l]
 have h6:X.Inv S f:=by
  refine⟨λb O=>by rw[l];exact m.r b O,m.s,by rw[l];exact m.c,by rw[l];exact m.wg,by rw[l];exact m.sz, ?_, ?_,J.trans m.os⟩
  .obtain⟨st,P,W⟩:=m.live;exact⟨st,P,by unfold WgAt;rw[l];exact W⟩
  .obtain⟨x,a,b⟩:=m.pay;exact⟨x,by rw[l];exact a,b⟩
 have n:∀j,(Array.replicate 8 false).getD j false=false:=λj=>by
  rw[gc,tu];split<;>rfl
 refine⟨_,f,_,S,F,⟨λb _ _ _=>by rw[l],me (by rw[l]),J,λ⟨x,a,b⟩=>⟨x,by rw[l];exact a,b⟩,λi _=>o _,λ_ h=>h,λ_ h=>.inl h,λe h=>by simp at h⟩, ?_⟩;have A:=agj (dd:=ddW X.Wg) (k:=[]) ok hF v 8 t (Array.replicate 8 false) T S f (by simp) (List.countP_le_length) ⟨U,C,λj _ e=>(by rw[n] at e;cases e),λe=>(by rw[n] at e;cases e),λe=>(by rw[n] at e;cases e),h6⟩;refine bH.bind X.lV.fg X.lV.tr A λS2 g w7 ⟨T2,hg,_,hi7,hv0,hv1⟩=> ?_;subst hg;exact aw3 ok N v0 R hi7 ⟨hv0,hv1⟩
def aoE{args:Array Value} :(callFunc nCl args).runT prog w #[]=(.ok (.enter nCl args) w,#[]):=by
 have a:=cA func147;have c:¬f147.name= "runtime.NumGoroutine" :=by simpa using a
 have b:¬f147.body=none:=λe=>by cases e
 unfold callFunc;simp[func147,c,b]
def ajc(i:X.Ok)(o:dX Z)(g:∀d nm,Z d [] nm=(⟨#[]⟩,false))(k:X.tWg=dY.tWg){val:Nat->Value}(n:val (2*X.κ)=.string (Z X.key X.l X.nm).1)(m:val (2*X.κ+1)=.bool (Z X.key X.l X.nm).2)(l:X.Inv S w) :
  bH prog false X.Rl X.Gr (af9 prog X.tWg X.Wg X.C X.n2 val X.κ) S (born prog ⟨.fn (.func nCl) X.iM,#[]⟩) w:=by
 refine .step rfl λa j=> ?_;have b:(invoke (Target.fn (.func nCl) X.iM) #[]).runT prog a #[]=(.ok (.enter nCl X.iM) a,#[]):=aoE;have f:stepG prog false (born prog ⟨.fn (.func nCl) X.iM,#[]⟩) a=.go (G (Frame.enter prog nCl X.iM .deferred) [eK]) a (seen prog prog.funcs.size #[]):=by
  simp only[born,stepG,unwind,callDeferred,b];simp[GStep.after,G,eK]
 exact⟨_,a,_,S,f,⟨λ_ _ _ _=>rfl,am _,rfl,id,λ_ _=>rfl,λ_ h=>h,λ_ h=>.inl h,λe h=>(abA e h).elim⟩,ajb i o g k n m (l.rely j)⟩
end
section
variable {P:Program} {R:World->World->Prop} {Q:World->Prop} {St:Goroutine->World->Prop}
def et{main:Bool}(c:∀w d,Q w->R w d->Q d) :
  ∀{n:Nat} {g:Goroutine} {w:World},Q w->Goes P main R DC0 St n g w->Goes P main R DC0 (λg w=>St g w/\Q w) n g w
 |0,_,_,hq,h=>λa b=>⟨h a b,c _ _ hq b⟩
 |n+1,g,w,hq,h=>by
  rcases h with h|⟨f,h⟩
  .exact .inl λa b=>⟨h a b,c _ _ hq b⟩
  .refine .inr ⟨f,λa b=> ?_⟩;have:=h a b;cases e:stepG P main g a with
   |go k i j=>
    rw[e,sT] at this;rw[sT];exact⟨this.1,et c (this.1.1▸c _ _ hq b) this.2⟩
   |_=>rw[e] at this;exact this.elim
def eP{main:Bool}(a:∀g w,St g w->W g w)(h:Goes P main R DC0 St n g w):Goes P main R DC0 W n g w:=mz (λ_ _ _ x=>x) a h
def jm(c:∀w a,Q w->R w a->Q a){e:Mark}(b:Q w)(h:ng P R e m St g w):ng P R e m (λg w=>St g w/\Q w) g w:=
 ⟨h.1,let⟨f,d,k⟩:=h.2;⟨f,d,et c b k⟩⟩
def abB(b:∀g w,St g w->W g w){e:Mark}(h:ng P R e m St g w):ng P R e m W g w:=
 ⟨h.1,let⟨c,a,k⟩:=h.2;⟨c,a,eP b k⟩⟩
def aoF{Wg:Nat}(a:∀w d,Q w->R w d->Q d)(k:∀w v i,Q w->WgAt ty Wg w v 0->Q (w.setCell (stA Wg) (.int .u64 i)))(l:Q w)(h:ai4 P R ty Wg St g w):ai4 P R ty Wg (λg w=>St g w/\Q w) g w:=
 ⟨h.1,λv m c=>by
  obtain⟨p,e,n,f⟩:=h.2 v m c;have b:=k w _ ((v+1)*KK) l c;exact⟨p,e,λj=>eP (λg w x=>abB (λg w x=>jm a x.2 x.1) (jm a x.2 x.1)) (et a b (n j)),λo=>eP (λg w x=>jm a x.2 x.1) (et a b (f o))⟩⟩
end
section
variable [Payload] {P:Program} {L:WgLink} {Wg C n:Nat} {R S:aw}
 {b₀:Frame} {a₀:Act} {ops₀:Array Oper} {i₀:Nat} {rest₀:List Nat} {k₀:List Item} {cs:List Frame}
def aw7(h:DC0 w w' es):Gua Wg C n R Q S S w w' es:=by
 obtain⟨rfl,rfl⟩:=h;exact⟨λ_ _ _ _=>rfl,am _,rfl,id,λ_ _=>rfl,λ_ h=>h,λ_ h=>.inl h,by simp⟩
omit [Payload] in
def aoG:(#[.pointer (some ⟨Wg,0,none⟩),.int .i64 1]:Array Value)++(List.replicate 115 undef).toArray=#[.pointer (some ⟨Wg,0,none⟩),.int .i64 1,undef,undef,undef,undef,undef,undef,undef,undef,undef,undef,undef,undef,undef,undef,undef,undef,undef,undef,undef,undef,undef,undef,undef,undef,undef,undef,undef,undef,undef,undef,undef,undef,undef,undef,undef,undef,undef,undef,undef,undef,undef,undef,undef,undef,undef,undef,undef,undef,undef,undef,undef,undef,undef,undef,undef,undef,undef,undef,undef,undef,undef,undef,undef,undef,undef,undef,undef,undef,undef,undef,undef,undef,undef,undef,undef,undef,undef,undef,undef,undef,undef,undef,undef,undef,undef,undef,undef,undef,undef,undef,undef,undef,undef,undef,undef,undef,undef,undef,undef,undef,undef,undef,undef,undef,undef,undef,undef,undef,undef,undef,undef,undef,undef,undef,undef]:=by
 simp[List.replicate]
def aoH (H:WgLib P L) {val:Nat->Value} {d:aw->Goroutine->World->Prop} {Q:World->Prop} (e:∀w i,Q w->RM L.tWg Wg C n R S w i->Q i) (q:∀w v l,Q w->WgAt L.tWg Wg w v 0->Q (w.setCell (stA Wg) (.int .u64 l)))
  (s:∀w,WgLive L.tWg Wg w->Q w->bH P true (ji L.tWg Wg C (2*n) R noC) (Gua Wg C (2*n) R noC) (MGo P L.tWg Wg C n val j d R) S (G (b₀.at (a₀.put ((ops₀[i₀]?).bind (·.dst)) (.tuple #[])) (.inRegion ops₀ rest₀::k₀)) cs) w)
  (w:World) (u:WgLive L.tWg Wg w) (f:Q w) :
  bH P true (ji L.tWg Wg C (2*n) R noC) (Gua Wg C (2*n) R noC) (λS g w=>aqp P L.tWg Wg C n val j d R S g w) S
   (G ((base L.add).at ⟨#[.pointer (some ⟨Wg,0,none⟩),.int .i64 1]++(List.replicate 115 undef).toArray,[]⟩ [.code (body_add L)]) (b₀.at a₀ (.inRegion ops₀ (i₀::rest₀)::k₀)::cs)) w:=by
 rw[aoG];have t:=aq8 (b₀:=b₀) (a₀:=a₀) (ops₀:=ops₀) (i₀:=i₀) (rest₀:=rest₀) (k₀:=k₀) (cs:=cs) (R:=RM L.tWg Wg C n R S) (S:=λg w=>g=G (b₀.at (a₀.put ((ops₀[i₀]?).bind (·.dst)) (.tuple #[])) (.inRegion ops₀ rest₀::k₀)) cs/\WgLive L.tWg Wg w) H (λ_ _ h r=>r.live h) (λ_ h=>⟨rfl,h⟩) w u;have m:=eP (λg w x=>abB (λg w x=>aoF e q x.2 x.1) (jm e x.2 x.1)) (et (Q:=Q) e f t);refine bH.abn (R:=RM L.tWg Wg C n R S) (λ_ _ h=>h) (λ_ _ _ h=>aw7 h) (λ_ _ h=>aw1 (λg w p=> ?_) h) m;refine bH.bind (λS w=>ji.refl R noC S w) (λS a b c=>ji.trans) (bH.abn (S:=S) (R:=RM L.tWg Wg C n R S) (Stop:=λk g w=>k=S/\(g=G (b₀.at (a₀.put ((ops₀[i₀]?).bind (·.dst)) (.tuple #[])) (.inRegion ops₀ rest₀::k₀)) cs/\WgLive L.tWg Wg w)/\Q w) (λ_ _ h=>h) (λ_ _ _ h=>aw7 h) (λ_ _ h=>⟨rfl,h⟩) p) ?_;rintro k g w ⟨rfl,⟨rfl,o⟩,f⟩;exact s w o f
end
end
section
open Go.Conc Go.ConcN Go.RowKit
open Go.ConcR (KK wgBlock WgAt stA smA rd wr mk Payload DC0)
noncomputable def abC:Code:=f112.body.getD .skip
noncomputable def agk:Array Oper:=tN (kh abC)
noncomputable def ac4:Array Oper:=tN (kh (bW abC))
noncomputable def mW:Array Oper:=tN (kh (bW (bW abC)))
noncomputable def avN:Code:=kh (bW (bW (bW abC)))
noncomputable def agl:Array Oper:=tN (kh avN)
def aw8:Code->Code
 |.block _ (.loop c)=>c
 |c=>c
def at1:Code->Code
 |.block _ c=>c
 |c=>c
noncomputable def iN:Code:=aw8 (bW avN)
noncomputable def ark:Array Oper:=tN (kh iN)
noncomputable def alc:Code:=at1 (kh (bW (bW iN)))
noncomputable def abD:Array Oper:=tN (kh alc)
noncomputable def aao:Array Oper:=tN (kh (bW alc))
noncomputable def kV:Array Oper:=tN (bW (bW alc))
noncomputable def ajd:Array Oper:=tN (bW (bW (bW iN)))
noncomputable def jo:Array Oper:=tN (kh (bW (bW (bW (bW abC)))))
def arl:abC=.seq (.region 0 agk false) (.seq (.region 1 ac4 false) (.seq (.region 2 mW false) (.seq (.seq (.region 3 agl false) (.block 0 (.loop iN))) (.seq (.region 9 jo false) cF)))):=rfl
def agm:iN=.seq (.region 4 ark false) (.seq (.cond (.tmp 21) .skip (.exit 0)) (.seq (.block 1 (.seq (.region 5 abD false) (.seq (.region 6 aao false) (.region 7 kV false)))) (.region 8 ajd false))):=rfl
def aAL:∃p a,agk[0]?=some ⟨some 3,.box 3 (.tmp 0),0,p,a,none⟩:=⟨_,_,rfl⟩
def aAM:∃p a,agk[1]?=some ⟨some 4,.box 32 (.tmp 1),0,p,a,none⟩:=⟨_,_,rfl⟩
def aAN:∃p a,agk[2]?=some ⟨some 6,.assign (.const (.slice none 0 0)),163,p,a,none⟩:=⟨_,_,rfl⟩
def aAO:∃p a,agk[3]?=some ⟨some 7,.assign (.const (.bool false)),4,p,a,none⟩:=⟨_,_,rfl⟩
def aAP:∃p a,ac4[0]?=some ⟨some 15,.move (.tmp 2),27,p,a,none⟩:=⟨_,_,rfl⟩
def aAQ:∃p a,ac4[1]?=some ⟨some 16,.call ⟨.builtin .len,#[.tmp 15],#[27]⟩,3,p,a,none⟩:=⟨_,_,rfl⟩
def aAR:∃p a,ac4[2]?=some ⟨some 17,.makeSlice 205 (.tmp 16) (.tmp 16),205,p,a,none⟩:=⟨_,_,rfl⟩
def aAS:∃p a,ac4[3]?=some ⟨some 8,.alloc 205,0,p,a,none⟩:=⟨_,_,rfl⟩
def aAT:∃p a,ac4[4]?=some ⟨none,.store 205 (.tmp 8) (.tmp 17),0,p,a,none⟩:=⟨_,_,rfl⟩
def aAU:∃p a,mW[0]?=some ⟨some 9,.alloc dY.tWg,0,p,a,none⟩:=⟨_,_,rfl⟩
def aAV:∃p a,agl[0]?=some ⟨some 18,.move (.tmp 2),27,p,a,none⟩:=⟨_,_,rfl⟩
def aAW:∃p a,agl[1]?=some ⟨some 19,.call ⟨.builtin .len,#[.tmp 18],#[27]⟩,3,p,a,none⟩:=⟨_,_,rfl⟩
def aAX:∃p a,agl[2]?=some ⟨some 20,.move (.const (.int .i64 0)),3,p,a,none⟩:=⟨_,_,rfl⟩
def aAY:∃p a,ark[0]?=some ⟨some 21,.binOp .lss 3 (.tmp 20) (.tmp 19) 3,0,p,a,none⟩:=⟨_,_,rfl⟩
def aAZ:∃p a,abD[0]?=some ⟨some 22,.move (.tmp 20),3,p,a,none⟩:=⟨_,_,rfl⟩
def aA0:∃p a,abD[1]?=some ⟨some 23,.indexAddr 27 (.tmp 18) (.tmp 20),0,p,a,none⟩:=⟨_,_,rfl⟩
def aA1:∃p a,abD[2]?=some ⟨some 24,.load 3 (.tmp 23),3,p,a,none⟩:=⟨_,_,rfl⟩
def aA2:∃p a,abD[3]?=some ⟨some 10,.alloc 3,0,p,a,none⟩:=⟨_,_,rfl⟩
def aA3:∃p a,abD[4]?=some ⟨some 11,.alloc 3,0,p,a,none⟩:=⟨_,_,rfl⟩
def aA4:∃p a,abD[5]?=some ⟨none,.store 3 (.tmp 10) (.tmp 22),0,p,a,none⟩:=⟨_,_,rfl⟩
def aA5:∃p a,abD[6]?=some ⟨none,.store 3 (.tmp 11) (.tmp 24),0,p,a,none⟩:=⟨_,_,rfl⟩
def ay9:∃p a,aao[0]?=some ⟨some 25,.call ⟨.value (.func dY.add),#[.tmp 9,.const (.int .i64 1)],#[dY.tWg,3]⟩,0,p,a,none⟩:=⟨_,_,rfl⟩
def aA6:∃p a,kV[0]?=some ⟨some 26,.makeFunc (.func nCl) #[] #[.tmp 9,.tmp 3,.tmp 4,.tmp 11,.tmp 8,.tmp 10],1,p,a,none⟩:=⟨_,_,rfl⟩
def aA7:∃p a,kV[1]?=some ⟨none,.go ⟨.value (.tmp 26),#[],#[]⟩,0,p,a,none⟩:=⟨_,_,rfl⟩
def aA8:∃p a,ajd[0]?=some ⟨some 27,.binOp .add 3 (.tmp 20) (.const (.int .i64 1)) 3,3,p,a,none⟩:=⟨_,_,rfl⟩
def aA9:∃p a,ajd[1]?=some ⟨some 20,.move (.tmp 27),3,p,a,none⟩:=⟨_,_,rfl⟩
def aza:∃p a,jo[0]?=some ⟨some 28,.call ⟨.value (.func dY.wait),#[.tmp 9],#[dY.tWg]⟩,0,p,a,none⟩:=⟨_,_,rfl⟩
def vM  :seen P f #[]=#[]:=by
 rw[Array.eq_empty_iff_size_eq_zero];rcases h:(seen P f #[]).size with _|n
 .rfl
 .exact(abA _ (Array.getElem_mem (xs:=seen P f #[]) (i:=0) (by omega))).elim
def at2{T:Array Value}{base : List Frame}(h:T.getD 26 undef=.func (.func nCl) #[] X) :
  stepG prog true (Gl (FQ cf T (.inRegion kV [1]::k)::xs) base) w=.spawn (Gl (FQ cf T (.inRegion kV []::k)::xs) base) (born prog ⟨.fn (.func nCl) X,#[]⟩) w #[]:=by
 obtain⟨p,a,e⟩:=aA7;have b:(execOp (Frame.eval (FQ cf T (.inRegion kV [1]::k))) ⟨none,.go ⟨.value (.tmp 26),#[],#[]⟩,0,p,a,none⟩).runT prog w #[]=(.ok (.spawn ⟨.fn (.func nCl) X,#[]⟩) w,#[]):=by
  have i:Frame.eval (FQ cf T (.inRegion kV [1]::k)) (.tmp 26)=.func (.func nCl) #[] X:=h;simp only[execOp,resolve,i];simp[Deferred.ofValue]
 have f:∀y,Region.wanted ⟨none,.go ⟨.value (.tmp 26),#[],#[]⟩,0,p,a,none⟩ y=true:=λy=>rfl;have g:stepG prog true (Gl (FQ cf T (.inRegion kV [1]::k)::xs) base) w =
   stepG.apply prog true (FQ cf T (.inRegion kV [1]::k)) (xs++base) none (execOp (Frame.eval (FQ cf T (.inRegion kV [1]::k))) ⟨none,.go ⟨.value (.tmp 26),#[],#[]⟩,0,p,a,none⟩) w:=by
  simp[Gl,stepG,stepG.exec,stepG.oper,Frame.oper?,e,f]
 rw[g];unfold stepG.apply;simp only[b,mT];have d:(CallKind.normal ==CallKind.early)=false:=rfl;simp[GStep.after,d,Gl,Frame.finish,e,born,vM]
section
variable {P:Program} {w:World} {e:Operand->Value} {x y:Operand} {v:Value} {dst:Option Tmp} {t ty:TypeId} {pos:String} {af:Array Edge} {gd:Option (Nat×Bool)}
def arn(h:e x=v)(a:v.cells=#[v]):(execOp e ⟨dst,.box t x,ty,pos,af,gd⟩).runT P w #[]=(.ok (.value (.pointer (some ⟨w.heap.size,0,none⟩))) (w.alloc (.cells #[v] t)),#[]):=by
 simp[execOp,Instr.box,newVar,newRow,h,a]
def agn(h:e x=v):(execOp e ⟨dst,.assign x,ty,pos,af,gd⟩).runT P w #[]=(.ok (.value v) w,#[]):=by
 simp[execOp,h]
def oK{i:TypeInfo}(a:P.info? t=some i)(b:i.zero=some v):(execOp e ⟨dst,.alloc t,ty,pos,af,gd⟩).runT P w #[]=(.ok (.value (.pointer (some ⟨w.heap.size,0,none⟩))) (w.alloc (.cells v.cells t)),#[]):=by
 simp[execOp,Instr.alloc,zeroValue,typeInfo,a,b,newVar,newRow]
def ago{i:TypeInfo}{A:Addr}{u:Value}(m:P.info? t=some i)(o:i.size=1)(k:ak1 v=true)(a:v.cells=#[v])(n:e x=.pointer (some A))(j:e y=v)(l:w.cell? A=some u)(d:w.frozen? A=false) :
  (execOp e ⟨dst,.store t x y,ty,pos,af,gd⟩).runT P w #[]=(.ok .skip (w.setCell A v),#[⟨.cell A,true,false⟩]):=by
 have b:(storeCells A [v] 0).runT P w #[]=(.ok () (w.setCell A v),#[⟨.cell A,true,false⟩]):=by
  show(Sem.store .plain (A.add 0) v (Sem.pure ())).runT P w #[]=_;have f:A.add 0=A:=by unfold Addr.add;simp
  rw[f,aaO k l d];rfl
 have c:(storeCells A [v] 0).run P w=.ok () (w.setCell A v):=by
  rw[<-qE _ _ _ #[]];exact fa Prod.fst b
 have g:(storeCells A [v] 0).events P w #[]=#[⟨.cell A,true,false⟩]:=fa Prod.snd b;simp[execOp,n,j,Instr.storeAt,Instr.sureAddr,storeVar,sizeOf,typeInfo,m,o,a,c,g]
def aje(F:FaT P){s:Tmp}(h:e (.tmp s)=.slice A n c):(execOp e ⟨dst,.call ⟨.builtin .len,#[.tmp s],#[27]⟩,ty,pos,af,gd⟩).runT P w #[]=(.ok (.value (.int .i64 n)) w,#[]):=by
 rw[nK (s:=λv=>Builtin.len_ #[27] ty #[v]) λ_ v=>rfl,h];change Sem.runT P (Builtin.len_ #[27] ty #[.slice A n c] >>=λu=>pure (Next.value u)) w #[]=_;simp[Builtin.len_,lm F.u31,goInt]
def ajf{fn:Fn}{a:Array Operand}(h:a.map e=X):(execOp e ⟨dst,.makeFunc fn #[] a,ty,pos,af,gd⟩).runT P w #[]=(.ok (.value (.func fn #[] X)) w,#[]):=by
 simp[execOp,Instr.makeFunc,h]
def at4(F:FaT P)(m:(n:Int)<=2147483647)(b:e x=.int .i64 n):∃c:Array Value,c.size=2*n/\(execOp e ⟨dst,.makeSlice 205 x x,ty,pos,af,gd⟩).runT P w #[]=(.ok (.value (.slice (some ⟨w.heap.size,0,none⟩) n n)) (w.alloc (.cells c 216)),#[]):=by
 obtain⟨c,k,g⟩:=anf F (w:=w) (dst:=dst) (ty:=ty) (pos:=pos) (af:=af) (gd:=gd) m b;refine⟨c,k,Prod.ext ((qE _ _ _ _).trans g) ?_⟩;obtain⟨i,l,o,a,f⟩:=F.i258;have d:=events_make w 205 216 i _ F.ahr l f .i64 .i64 n n (by omega) (uq _) (by rw[a];omega) (by omega) (by rw[a];omega) #[];show(execOp e ⟨dst,.makeSlice 205 x x,ty,pos,af,gd⟩).events P w #[]=#[];have j:execOp e ⟨dst,.makeSlice 205 x x,ty,pos,af,gd⟩=(Instr.makeSlice 205 (e x) (e x)).bind λv=>Sem.pure (.value v):=rfl;rw[j,b,Sem.events_bind',d];cases(Instr.makeSlice 205 (.int .i64 n) (.int .i64 n)).run P w<;>rfl
def at5{a:Int}{y:Operand}(d:e x=.int .i64 a)(c:e y=.int .i64 1)(g:0<=a)(f:a<2147483647):(execOp e ⟨dst,.binOp .add 3 x y 3,ty,pos,af,gd⟩).runT P w #[]=(.ok (.value (.int .i64 (a+1))) w,#[]):=by
 have:execOp e ⟨dst,.binOp .add 3 x y 3,ty,pos,af,gd⟩=(binOp .add 3 (e x) (e y)).bind λv=>Sem.pure (.value v):=rfl;rw[this,d,c];have b:IntKind.i64.wrap (a+1)=a+1:=by rw[uN];omega
 show(Result.ok (Next.value (.int .i64 (IntKind.i64.wrap (a+1)))) w,#[])=_;rw[b]
end
end
section
open Go.Conc Go.ConcN Go.RowKit
section
variable {Rl:aw->World->World->Prop} {St:aw->Goroutine->World->Prop} {S Rr:aw} {w0:World} {T:Array Value} {k:List Item} {xs base:List Frame}
structure Kp (S Rr:aw) (w0:World) (S':aw) (w':World):Prop where
 keep:∀b,b<w0.heap.size->S b\/Rr b->w'.heap[b]?=w0.heap[b]?
 size:w0.heap.size<=w'.heap.size
 os:w'.ou=w0.ou
 mono:∀b,S b->S' b
 new:∀b,S' b->S b\/(w0.heap.size<=b/\b<w'.heap.size)
def Kp.rl(H:nO Rl Rr)(h:Rl S w0 U):Kp S Rr w0 S U:=let⟨a,b,c⟩:=H.rl _ _ _ h;⟨λx _ d=>a x d,b,c,λ_ h=>h,λ_ h=>.inl h⟩
def Kp.alloc(S Rr:aw)(w:World)(ob:Obj):Kp S Rr w (SN S w (w.alloc ob)) (w.alloc ob):=
 ⟨λb a _=>rH w _ b a,by rw[pa];omega,rfl,λ_ h=>.inl h,λ_ h=>h⟩
def Kp.trans{w2 : World}(a:Kp S Rr w0 Q U)(b:Kp Q Rr U aW w2):Kp S Rr w0 aW w2:=
 ⟨λx c h=>(b.keep x (aE c a.size) (h.imp (a.mono x) id)).trans (a.keep x c h),ap a.size b.size,b.os.trans a.os,λx h=>b.mono x (a.mono x h),λx h=>(b.new x h).elim (λh=>(a.new x h).imp id λh=>⟨h.1,aE h.2 b.size⟩) λh=>.inr ⟨ap a.size h.1,h.2⟩⟩
def jO(w:World)(ob:Obj):(w.alloc ob).heap[w.heap.size]?=some ob:=by
 show(w.heap.push _)[_]?=_;rw[qn]
def ki(S:aw)(w:World)(ob:Obj):SN S w (w.alloc ob) w.heap.size:=.inr ⟨am _,by rw[pa];omega⟩
def at6 (H:nO Rl Rr) (hZ:45<=Y) (hz:T.size=Y)   (N:T.getD 0 undef=.int .i64 key) (P:T.getD 1 undef=.slice A n c)
  (K:∀(T':Array Value) (i:aw) (e:World) (f g:Nat),T'.size=Y->(∀t,t≠3->t≠4->t≠6->t≠7->T'.getD t undef=T.getD t undef)->T'.getD 3 undef=.pointer (some ⟨f,0,none⟩)->T'.getD 4 undef=.pointer (some ⟨g,0,none⟩)->
   T'.getD 6 undef=.slice none 0 0->T'.getD 7 undef=.bool false->Kp S Rr w0 i e->i f->i g->w0.heap.size<=f->f<g->e.heap[f]?=some (.cells #[.int .i64 key] 3)->e.heap[g]?=some (.cells #[.slice A n c] 32)->bH prog true Rl (nN Rr) St i (Gl (FQ cf T' k::xs) base) e) :
  bH prog true Rl (nN Rr) St S (Gl (FQ cf T (.inRegion agk [0,1,2,3]::k)::xs) base) w0:=by
 obtain⟨p0,a0,y⟩:=aAL;obtain⟨p1,a1,G⟩:=aAM;obtain⟨X,a2,D⟩:=aAN;obtain⟨W,a3,V⟩:=aAO;refine lU H (d:=3) (ob:=.cells #[.int .i64 key] 3) (by show(3:Nat)<_;omega) y rfl rfl (λw=>arn (x:=.tmp 0) N rfl) (λa I T1 z1 B s=> ?_) w0 (H.fg _ _);refine lU H (d:=4) (ob:=.cells #[.slice A n c] 32) (by show(4:Nat)<_;omega) G rfl rfl (λw=>arn (x:=.tmp 1) ((s 1 (by decide)).trans P) rfl) (λb z T2 z2 F u=> ?_);refine bK H.cmp (d:=6) (v:=.slice none 0 0) (es:=#[]) (by show(6:Nat)<_;omega) D rfl rfl (λw _=>agn rfl) (λw _=>bu _) (λT3 z3 M l=> ?_);refine bK H.cmp (d:=7) (v:=.bool false) (es:=#[]) (by show(7:Nat)<_;omega) V rfl rfl (λw _=>agn rfl) (λw _=>bu _) (λE Z U j=> ?_);refine gu H.cmp λe m=> ?_;have r:=Kp.rl H I;have J:=Kp.alloc S Rr a (.cells #[.int .i64 key] 3);have q:=Kp.rl H z;have p:=Kp.alloc (SN S a (a.alloc (.cells #[.int .i64 key] 3))) Rr b (.cells #[.slice A n c] 32);have o:=Kp.rl H m;have s1:(a.alloc (.cells #[.int .i64 key] 3)).heap.size=a.heap.size+1:=pa _ _;have s2:(b.alloc (.cells #[.slice A n c] 32)).heap.size=b.heap.size+1:=pa _ _;have Q:=r.size;have g2:=q.size;refine K E _ e a.heap.size b.heap.size (by omega) (λt O L C R=> ?_) ?_ ?_ ?_ U ((((r.trans J).trans q).trans p).trans o) (p.mono _ (ki S a _)) (ki _ b _) Q (by omega) ?_ ?_
 .rw[j t R,l t C,u t L,s t O]
 .rw[j 3 (by decide),l 3 (by decide),u 3 (by decide),B]
 .rw[j 4 (by decide),l 4 (by decide),F]
 .rw[j 6 (by decide),M]
 .rw[((q.trans p).trans o).keep a.heap.size (by omega) (.inl (ki S a _)),jO]
 .rw[o.keep b.heap.size (by omega) (.inl (ki _ b _)),jO]
end
section
variable {P:Program} {main:Bool} {Rl:aw->World->World->Prop} {St:aw->Goroutine->World->Prop} {S Rr:aw} {w0:World} {f:FuncId} {T:Array Value} {k:List Item} {xs base:List Frame}
def aw9 (H:nO Rl Rr)    {d:Tmp} {Q:Value->Obj->World->Prop} (m:d<T.size) (n:V[i]?=some o) (x:o.guard=none) (j:o.dst=some d)
  (r:∀w,∃v a,Q v a w/\(execOp (FQ f T (.inRegion V (i::rest)::k)).eval o).runT P w #[]=(.ok (.value v) (w.alloc a),#[]))
  (y:∀w,Rl S w0 w->∀v a,Q v a w->∀T':Array Value,T'.size=T.size->T'.getD d undef=v->(∀t,t≠d->T'.getD t undef=T.getD t undef)->∀c,Rl (SN S w (w.alloc a)) (w.alloc a) c->bH P main Rl (nN Rr) St (SN S w (w.alloc a)) (Gl (FQ f T' (.inRegion V rest::k)::xs) base) c) :
  ∀w,Rl S w0 w->bH P main Rl (nN Rr) St S (Gl (FQ f T (.inRegion V (i::rest)::k)::xs) base) w:=λw p=>by
 refine .step rfl λc l=> ?_;have q:=H.tr _ _ _ _ p l;obtain⟨v,a,z,g⟩:=r c;refine⟨_,_,_,_,ana rfl rfl rfl rfl n x g,⟨λb u _=>rH c _ b u,by rw[pa];omega,rfl,rfl,λe A=>by cases(by simpa using sg A:False)⟩, ?_⟩;have:Frame.finish (FQ f T (.inRegion V (i::rest)::k)) v=FQ f (T.setIfInBounds d v) (.inRegion V rest::k):=by
  simp only[Frame.finish,n,qd,j]
 rw[this];exact y c q _ _ z _ (by simp) (by rw[aG m,dl rfl]) (λt s=>by rw[aG m,bd s]) _ (H.fg _ _)
end
section
variable {w:World} {b:Nat} {u v:Value} {t:TypeId}
def sW(h:w.heap[b]?=some (.cells #[u] t)):w.cell? ⟨b,0,none⟩=some u/\w.frozen? ⟨b,0,none⟩=false:=by
 constructor
 .simp[World.cell?,h]
 .simp[World.frozen?,h]
def vL(h:w.heap[b]?=some (.cells #[u] t)):(w.setCell ⟨b,0,none⟩ v).heap[b]?=some (.cells #[v] t):=by
 simp[World.setCell,mw,h]
end
section
variable {Rl:aw->World->World->Prop} {St:aw->Goroutine->World->Prop} {S Rr:aw} {w0:World} {T:Array Value} {k:List Item} {xs base:List Frame}
def at7 (H:nO Rl Rr) (hZ:45<=Y) (hz:T.size=Y)  (hn:(n:Int)<=2147483647) (h2:T.getD 2 undef=.slice A n c)
  (K:∀(T':Array Value) (p:aw) (l:World) (C B:Nat) (g:Array Value),T'.size=Y->(∀t,t≠15->t≠16->t≠17->t≠8->T'.getD t undef=T.getD t undef)->T'.getD 8 undef=.pointer (some ⟨B,0,none⟩)->T'.getD 17 undef=.slice (some ⟨C,0,none⟩) n n->
   Kp S Rr w0 p l->p C->p B->w0.heap.size<=C->C<B->g.size=2*n->l.heap[C]?=some (.cells g 216)->l.heap[B]?=some (.cells #[.slice (some ⟨C,0,none⟩) n n] 205)->bH prog true Rl (nN Rr) St p (Gl (FQ cf T' k::xs) base) l) :
  bH prog true Rl (nN Rr) St S (Gl (FQ cf T (.inRegion ac4 [0,1,2,3,4]::k)::xs) base) w0:=by
 obtain⟨p0,a0,W⟩:=aAP;obtain⟨p1,a1,e1⟩:=aAQ;obtain⟨p2,a2,e2⟩:=aAR;obtain⟨p3,a3,e3⟩:=aAS;obtain⟨p4,a4,e4⟩:=aAT;obtain⟨R,P,F,L⟩:=faT.i247;refine bK H.cmp (d:=15) (v:=.slice A n c) (es:=#[]) (by show(15:Nat)<_;omega) W rfl rfl (λw _=>eO (x:=.tmp 2) h2) (λw _=>bu _) (λT1 z1 v1 r1=> ?_) w0 (H.fg _ _);refine bK H.cmp (d:=16) (v:=.int .i64 n) (es:=#[]) (by show(16:Nat)<_;omega) e1 rfl rfl (λw _=>aje faT (s:=15) v1) (λw _=>bu _) (λT2 z2 v2 r2=> ?_);refine aw9 H (d:=17) (Q:=λv ob w=>v=.slice (some ⟨w.heap.size,0,none⟩) n n/\∃g:Array Value,g.size=2*n/\ob=.cells g 216) (by show(17:Nat)<_;omega) e2 rfl rfl (λw=> ?_) (λa ha vv ob hq T3 z3 v3 r3=> ?_)
 .obtain⟨g,q,hr⟩:=at4 faT (w:=w) (x:=.tmp 16) (e:=Frame.eval (FQ cf T2 (.inRegion ac4 [2,3,4]::k))) hn v2;exact⟨_,_,⟨rfl,g,q,rfl⟩,hr⟩
 obtain⟨rfl,g,J,rfl⟩:=hq;refine lU H (d:=8) (ob:=.cells #[.slice none 0 0] 205) (by show(8:Nat)<_;omega) e3 rfl rfl (λw=>oK P L) (λf D O z4 V U=> ?_);have o:O.getD 17 undef=.slice (some ⟨a.heap.size,0,none⟩) n n:=by rw[U 17 (by decide),v3]
 have s1:(a.alloc (.cells g 216)).heap.size=a.heap.size+1:=pa _ _;have s2:(f.alloc (.cells #[.slice none 0 0] 205)).heap.size=f.heap.size+1:=pa _ _;have N:=Kp.rl H ha;have kb:=Kp.alloc S Rr a (.cells g 216);have M:=Kp.rl H D;have r:=Kp.alloc (SN S a (a.alloc (.cells g 216))) Rr f (.cells #[.slice none 0 0] 205);have g1:=N.size;have g2:=M.size;have i:=ki (SN S a (a.alloc (.cells g 216))) f (.cells #[.slice none 0 0] 205);have I:∀{w},Rl (SN (SN S a (a.alloc (.cells g 216))) f (f.alloc (.cells #[.slice none 0 0] 205))) (f.alloc (.cells #[.slice none 0 0] 205)) w->w.heap[f.heap.size]?=some (.cells #[.slice none 0 0] 205):=λ{w} h=>by
  rw[(Kp.rl H h).keep f.heap.size (by omega) (.inl i),jO]
 refine aeA H.cmp (A:=⟨f.heap.size,0,none⟩) (u:=.slice (some ⟨a.heap.size,0,none⟩) n n) e4 rfl rfl (λw h=>ago (x:=.tmp 8) (y:=.tmp 17) P F rfl rfl V o (sW (I h)).1 (sW (I h)).2) i (λw h=>abu i (by have:=(Kp.rl H h).size;show f.heap.size<_;omega)) (λz q w1 Z=> ?_);refine gu H.cmp (λl E=> ?_) w1 Z;have G:=Kp.rl H q;have m:=Kp.rl H E;have g3:=G.size;have X:(z.setCell ⟨f.heap.size,0,none⟩ (.slice (some ⟨a.heap.size,0,none⟩) n n)).heap.size=z.heap.size:=gE _ _ _;have other:∀b,b≠f.heap.size->(z.setCell ⟨f.heap.size,0,none⟩ (.slice (some ⟨a.heap.size,0,none⟩) n n)).heap[b]?=z.heap[b]?:=λb h=>bm _ _ _ (λe=>h e.symm);have j:=((N.trans kb).trans M).trans (r.trans G);have g4:=m.size;refine K O _ l a.heap.size f.heap.size g (by omega) (λt q1 q2 q3 q4=> ?_) V o ⟨λb D h=> ?_,by have:=j.size;omega, ?_,j.mono,λb h=>(j.new b h).imp id λh=>⟨h.1,by omega⟩⟩ (r.mono _ (ki S a _)) i g1 (by omega) J ?_ ?_
 .rw[U t q4,r3 t q3,r2 t q2,r1 t q1]
 .exact(m.keep b (by have:=j.size;omega) (h.imp (j.mono b) id)).trans ((other b (by omega)).trans (j.keep b D h))
 .exact m.os.trans j.os
 .exact(m.keep a.heap.size (by omega) (.inl (r.mono _ (ki S a _)))).trans ((other _ (by omega)).trans (((M.trans (r.trans G)).keep a.heap.size (by omega) (.inl (ki S a _))).trans (jO a _)))
 .exact(m.keep f.heap.size (by omega) (.inl i)).trans (vL (I q))
end
end
section
open Go.Conc Go.ConcN Go.RowKit
open Go.ConcR (KK wgBlock WgAt stA smA rd wr mk Payload DC0)
def aro:(prog.info? dY.tWg).map (λi=>i.zero.map (·.cells))=some (some #[.int .u64 0,.int .u32 0]):=by kernel_rfl
def aub:∃i z,prog.info? dY.tWg=some i/\i.zero=some z/\z.cells=#[.int .u64 0,.int .u32 0]:=by
 have h:=aro;cases b:prog.info? dY.tWg with
 |none=>rw[b] at h;cases h
 |some i=>
  rw[b] at h;cases a:i.zero with
  |none=>simp[a] at h
  |some z=>
   simp only[pZ,a,lw] at h;exact⟨i,z,rfl,a,h⟩
def iO{o:Obj}(h:w.heap[b]?=some o):b<w.heap.size:=(de.1 h).1
noncomputable def fO:Code:=.seq (.seq (.region 3 agl false) (.block 0 (.loop iN))) (.seq (.region 9 jo false) cF)
section
variable {Rl:aw->World->World->Prop} {St:aw->Goroutine->World->Prop} {S Rr:aw} {w0:World} {T:Array Value} {k:List Item} {xs base:List Frame}
def ald (H:nO Rl Rr) (D:45<=Y) (N:T.size=Y) {A2 : Option Addr} (hn:(R:Int)<=2147483647) (h0:T.getD 0 undef=.int .i64 key) (h1:T.getD 1 undef=.slice A n c) (E:T.getD 2 undef=.slice A2 R b)
  (K:∀(T':Array Value) (w:aw) (g:World) (e d C i:Nat) (m:Array Value),T'.size=Y->(∀t,(t<3\/aal t=true)->T'.getD t undef=T.getD t undef)->
   T'.getD 3 undef=.pointer (some ⟨e,0,none⟩)/\T'.getD 4 undef=.pointer (some ⟨d,0,none⟩)/\T'.getD 6 undef=.slice none 0 0/\T'.getD 7 undef=.bool false/\T'.getD 8 undef=.pointer (some ⟨i,0,none⟩)/\T'.getD 17 undef=.slice (some ⟨C,0,none⟩) R R->
   Kp S Rr w0 w g->w0.heap.size<=e/\e<d/\d<C/\C<i->g.heap[e]?=some (.cells #[.int .i64 key] 3)->g.heap[d]?=some (.cells #[.slice A n c] 32)->m.size=2*R->g.heap[C]?=some (.cells m 216)->g.heap[i]?=some (.cells #[.slice (some ⟨C,0,none⟩) R R] 205)->
   bH prog true Rl (nN Rr) St w (Gl (FQ cf T' (.code (.region 2 mW false) :: .code fO::k)::xs) base) g) :
  bH prog true Rl (nN Rr) St S (Gl (FQ cf T (.code abC::k)::xs) base) w0:=by
 rw[arl];refine dR H.cmp (fw H.cmp (l:=[0,1,2,3]) rfl λwa Q=>at6 H D N h0 h1 λT1 S1 w1 e d L z t3 F I G k1 J sp lk M ck x=> ?_) w0 (H.fg _ _);refine dR H.cmp (fw H.cmp (l:=[0,1,2,3,4]) rfl λwb v=>at7 H D L hn ((z 2 (by decide) (by decide) (by decide) (by decide)).trans E) λZ S2 w2 C i m z2 j t8 p O U P lC la s W B=> ?_) w1 (H.fg _ _);refine dR H.cmp (λwc X=> ?_) w2 (H.fg _ _);have y:=Kp.rl H Q;have r:=(Kp.rl H v).trans O;have f:=Kp.rl H X;have a1:=iO x;have a0:=iO B;have g1:=y.size;have g2:=(Kp.rl H v).size;have g3:=f.size;refine K Z S2 wc e d C i m z2 (λt a=> ?_) ⟨?_, ?_, ?_, ?_,t8,p⟩ (((y.trans k1).trans r).trans f) ⟨by omega,M,by omega,la⟩ ?_ ?_ s ?_ ?_
 .have o:t≠15:=by rintro rfl;exact absurd a (by decide)
  have q:t≠16:=by rintro rfl;exact absurd a (by decide)
  have u:t≠17:=by rintro rfl;exact absurd a (by decide)
  have e8:t≠8:=by rintro rfl;exact absurd a (by decide)
  have e3:t≠3:=by rintro rfl;exact absurd a (by decide)
  have V:t≠4:=by rintro rfl;exact absurd a (by decide)
  have e6:t≠6:=by rintro rfl;exact absurd a (by decide)
  have e7:t≠7:=by rintro rfl;exact absurd a (by decide)
  rw[j t o q u e8,z t e3 V e6 e7]
 .rw[j 3 (by decide) (by decide) (by decide) (by decide),t3]
 .rw[j 4 (by decide) (by decide) (by decide) (by decide),F]
 .rw[j 6 (by decide) (by decide) (by decide) (by decide),I]
 .rw[j 7 (by decide) (by decide) (by decide) (by decide),G]
 .rw[(r.trans f).keep e (by omega) (.inl J),ck]
 .rw[(r.trans f).keep d (by omega) (.inl sp),x]
 .rw[f.keep C (by omega) (.inl U),W]
 .rw[f.keep i (by omega) (.inl P),B]
end
end
section
open Go.Conc Go.ConcN Go.RowKit
section
variable {Rl:aw->World->World->Prop} {St:aw->Goroutine->World->Prop} {S Rr:aw} {w0:World} {T:Array Value} {k:List Item} {xs base:List Frame}
def auc (H:nO Rl Rr) (G:45<=Y) (E:T.size=Y)  (i:T.getD 2 undef=.slice A n c)
  (K:∀T':Array Value,T'.size=Y->(∀t,t≠18->t≠19->t≠20->T'.getD t undef=T.getD t undef)->T'.getD 18 undef=.slice A n c->T'.getD 19 undef=.int .i64 n->T'.getD 20 undef=.int .i64 0->
   ∀b,Rl S w0 b->bH prog true Rl (nN Rr) St S (Gl (FQ cf T' k::xs) base) b) :
  bH prog true Rl (nN Rr) St S (Gl (FQ cf T (.inRegion agl [0,1,2]::k)::xs) base) w0:=by
 obtain⟨L,J,g⟩:=aAV;obtain⟨F,M,u⟩:=aAW;obtain⟨z,N,q⟩:=aAX;refine bK H.cmp (d:=18) (v:=.slice A n c) (es:=#[]) (by show(18:Nat)<_;omega) g rfl rfl (λw _=>eO (x:=.tmp 2) i) (λw _=>bu _) (λB D e j=> ?_) w0 (H.fg _ _);refine bK H.cmp (d:=19) (v:=.int .i64 n) (es:=#[]) (by show(19:Nat)<_;omega) u rfl rfl (λw _=>aje faT (s:=18) e) (λw _=>bu _) (λO C r f=> ?_);refine bK H.cmp (d:=20) (v:=.int .i64 0) (es:=#[]) (by show(20:Nat)<_;omega) q rfl rfl (λw _=>eO rfl) (λw _=>bu _) (λm I l a=> ?_);refine gu H.cmp (K m (by omega) (λt o y p=>by rw[a t p,f t y,j t o]) (by rw[a 18 (by decide),f 18 (by decide),e]) (by rw[a 19 (by decide),r]) l)
def ann (H:nO Rl Rr) (l:45<=Y) (q:T.size=Y) (a:T.getD 20 undef=.int .i64 i) (b:T.getD 19 undef=.int .i64 n)
  (K:∀T':Array Value,T'.size=Y->(∀t,t≠21->T'.getD t undef=T.getD t undef)->T'.getD 21 undef=.bool (decide (i<n))->
   ∀c,Rl S w0 c->bH prog true Rl (nN Rr) St S (Gl (FQ cf T' k::xs) base) c) :
  bH prog true Rl (nN Rr) St S (Gl (FQ cf T (.inRegion ark [0]::k)::xs) base) w0:=by
 obtain⟨o,m,e⟩:=aAY;refine bK H.cmp (d:=21) (v:=.bool (decide ((i:Int)<n))) (es:=#[]) (by show(21:Nat)<_;omega) e rfl rfl (λw _=>aq5 (x:=.tmp 20) (y:=.tmp 19) a b) (λw _=>bu _) (λg p j f=> ?_) w0 (H.fg _ _);exact gu H.cmp (K g (by omega) f (by rw[j];congr 1;exact sY.2 (by omega)))
end
def aoI:(prog.info? 3).map (λi=>(i.size,i.zero))=some (1,some (.int .i64 0)):=by kernel_rfl
def ajg:∃i,prog.info? 3=some i/\i.size=1/\i.zero=some (.int .i64 0):=by
 have h:=aoI;cases a:prog.info? 3 with
 |none=>rw[a] at h;cases h
 |some i=>
  rw[a] at h;simp only[pZ,lw,Prod.mk.injEq] at h;exact⟨i,rfl,h⟩
section
variable {P:Program} {w:World} {e:Operand->Value} {x y:Operand} {dst:Option Tmp} {ty:TypeId} {pos:String} {af:Array Edge} {gd:Option (Nat×Bool)}
def ale{i:TypeInfo}(g:P.underlying 27=some (.slice 3))(k:P.info? 3=some i)(f:i.size=1)(l:e x=.slice (some a) n c)(d:e y=.int .i64 j)(b:j<n) :
  (execOp e ⟨dst,.indexAddr 27 x y,ty,pos,af,gd⟩).runT P w #[]=(.ok (.value (.pointer (some (a.add j)))) w,#[]):=by
 simp[execOp,l,d,Instr.indexAt,asIntOf,lm g,b,sizeOf,typeInfo,k,f]
end
section
variable {Rl:aw->World->World->Prop} {St:aw->Goroutine->World->Prop} {S Rr:aw} {w0:World} {T:Array Value} {k:List Item} {xs base:List Frame}
def arp (H:nO Rl Rr)   {p:String} {d s:Tmp} {u v:Int} (F:V[i]?=some ⟨none,.store 3 (.tmp d) (.tmp s),0,p,af,none⟩) (t:T.getD d undef=.pointer (some ⟨b,0,none⟩)) (G:T.getD s undef=.int .i64 v)
  (n:S b) (q:w0.heap[b]?=some (.cells #[.int .i64 u] 3))
  (K:∀a,Kp S Rr (w0.setCell ⟨b,0,none⟩ (.int .i64 v)) S a->(∀x,x≠b->S x\/Rr x->a.heap[x]?=w0.heap[x]?)->w0.heap.size<=a.heap.size->a.ou=w0.ou->a.heap[b]?=some (.cells #[.int .i64 v] 3)->bH prog true Rl (nN Rr) St S (Gl (FQ cf T (.inRegion V rest::k)::xs) base) a) :
  bH prog true Rl (nN Rr) St S (Gl (FQ cf T (.inRegion V (i::rest)::k)::xs) base) w0:=by
 obtain⟨M,I,E, -⟩:=ajg;have D:=iO q;have l:∀{w},Rl S w0 w->w.heap[b]?=some (.cells #[.int .i64 u] 3):=λ{w} h=>by rw[(Kp.rl H h).keep b D (.inl n),q]
 refine aeA H.cmp (A:=⟨b,0,none⟩) (u:=.int .i64 v) F rfl rfl (λw h=>ago (x:=.tmp d) (y:=.tmp s) I E rfl rfl t G (sW (l h)).1 (sW (l h)).2) n (λw h=>abu n (iO (l h))) (λj f o B=> ?_) w0 (H.fg _ _);have g:=H.rl _ _ _ f;have c:=H.rl _ _ _ B;have z:(j.setCell ⟨b,0,none⟩ (.int .i64 v)).heap.size=j.heap.size:=gE _ _ _;have other:∀x,x≠b->(j.setCell ⟨b,0,none⟩ (.int .i64 v)).heap[x]?=j.heap[x]?:=λx h=>bm _ _ _ (λe=>h e.symm);have r:o.heap[b]?=some (.cells #[.int .i64 v] 3):=(c.1 b (.inl n)).trans (vL (l f));have same:∀x,x≠b->S x\/Rr x->o.heap[x]?=w0.heap[x]?:=λx h m=>(c.1 x m).trans ((other x h).trans (g.1 x m));have C:(w0.setCell ⟨b,0,none⟩ (.int .i64 v)).heap.size=w0.heap.size:=gE _ _ _;have L:=g.2.1;have J:=c.2.1;refine K o ⟨λx _ m=> ?_,by omega,(c.2.2.trans g.2.2),λ_ h=>h,λ_ h=>.inl h⟩ same (by omega) (c.2.2.trans g.2.2) r;by_cases e:x=b
 .rw[e,r,vL q]
 .rw[same x e m,bm _ _ _ (λh=>e h.symm)]
end
section
variable {P:Program} {S Rr:aw}
def aud{A:Addr}{B:Nat}(d:Rr A.block)(g:A.block<B):∀e∈seen P f #[⟨.cell A,false,false⟩],lT S Rr B e:=λe c=>by
 have h:=sg c;simp only[rG,lE,rc,tT] at h;subst h;refine⟨λx a=>.inr ?_,λm b=>(by cases b),g⟩;simp[MemAct.ofEvent,MemAct.touch?] at a;rw[<-a];exact⟨d,rfl⟩
end
section
variable {Rl:aw->World->World->Prop} {St:aw->Goroutine->World->Prop} {S Rr:aw} {w0:World} {T:Array Value} {k:List Item} {xs base:List Frame}
def aue (H:nO Rl Rr) (hZ:45<=Y) (hz:T.size=Y)  {nm:Int} (V:T.getD 18 undef=.slice A n c) (z:T.getD 20 undef=.int .i64 j) (hj:j<n) (U:aiX w0 A j nm) (hR:∀a,A=some a->Rr a.block)
  (K:∀(T':Array Value) (F:aw) (G:World) (s E:Nat),T'.size=Y->(∀t,t≠22->t≠23->t≠24->t≠10->t≠11->T'.getD t undef=T.getD t undef)->T'.getD 10 undef=.pointer (some ⟨s,0,none⟩)->T'.getD 11 undef=.pointer (some ⟨E,0,none⟩)->
   Kp S Rr w0 F G->F s->F E->w0.heap.size<=s->s<E->G.heap[s]?=some (.cells #[.int .i64 j] 3)->G.heap[E]?=some (.cells #[.int .i64 nm] 3)->bH prog true Rl (nN Rr) St F (Gl (FQ cf T' k::xs) base) G) :
  bH prog true Rl (nN Rr) St S (Gl (FQ cf T (.inRegion abD [0,1,2,3,4,5,6]::k)::xs) base) w0:=by
 obtain⟨p0,a0,e0⟩:=aAZ;obtain⟨p1,a1,e1⟩:=aA0;obtain⟨p2,a2,e2⟩:=aA1;obtain⟨p3,a3,e3⟩:=aA2;obtain⟨p4,a4,e4⟩:=aA3;obtain⟨p5,a5,e5⟩:=aA4;obtain⟨p6,a6,e6⟩:=aA5;obtain⟨a,rfl,g,aa⟩:=U;obtain⟨i3,o,Q,r⟩:=ajg;have C:=hR a rfl;have m:(a.add j).block=a.block:=qw a j;have a7:=eW g;have iI:∀{w},Rl S w0 w->w.cell? (a.add j)=some (.int .i64 nm):=λ{w} h=>(fF (by rw[m];exact(H.rl _ _ _ h).1 a.block (.inr C))).trans g
 refine bK H.cmp (d:=22) (v:=.int .i64 j) (es:=#[]) (by show(22:Nat)<_;omega) e0 rfl rfl (λw _=>eO (x:=.tmp 20) z) (λw _=>bu _) (λT1 z1 v1 r1=> ?_) w0 (H.fg _ _);refine bK H.cmp (d:=23) (v:=.pointer (some (a.add j))) (es:=#[]) (by show(23:Nat)<_;omega) e1 rfl rfl (λw _=>ale faT.u31 o Q (x:=.tmp 18) (y:=.tmp 20) ((r1 18 (by decide)).trans V) ((r1 20 (by decide)).trans z) hj) (λw _=>bu _) (λT2 z2 v2 r2=> ?_);refine bK H.cmp (d:=24) (v:=.int .i64 nm) (es:=#[⟨.cell (a.add j),false,false⟩]) (by show(24:Nat)<_;omega) e2 rfl rfl (λw P=>ai8 underlying3 rfl (x:=.tmp 23) v2 (iI P)) (λw P=>aud (by rw[m];exact C) (aE a7 (H.rl _ _ _ P).2.1)) (λT3 z3 v3 r3=> ?_);refine lU H (d:=10) (ob:=.cells #[.int .i64 0] 3) (by show(10:Nat)<_;omega) e3 rfl rfl (λw=>oK o r) (λe ha T4 z4 v4 r4=> ?_);refine lU H (d:=11) (ob:=.cells #[.int .i64 0] 3) (by show(11:Nat)<_;omega) e4 rfl rfl (λw=>oK o r) (λl hb J z5 v5 L w1 aT=> ?_);have s1:(e.alloc (.cells #[.int .i64 0] 3)).heap.size=e.heap.size+1:=pa _ _;have s2:(l.alloc (.cells #[.int .i64 0] 3)).heap.size=l.heap.size+1:=pa _ _;have ka:=(Kp.rl H ha).trans (Kp.alloc S Rr e (.cells #[.int .i64 0] 3));have W:=Kp.rl H hb;have kc:=Kp.alloc (SN S e (e.alloc (.cells #[.int .i64 0] 3))) Rr l (.cells #[.int .i64 0] 3);have I:=Kp.rl H aT;have g0:=(Kp.rl H ha).size;have g1:=W.size;have g2:=I.size;have i:=kc.mono _ (ki S e (.cells #[.int .i64 0] 3));have f:=ki (SN S e (e.alloc (.cells #[.int .i64 0] 3))) l (.cells #[.int .i64 0] 3);have ci:w1.heap[e.heap.size]?=some (.cells #[.int .i64 0] 3):=by
  rw[((W.trans kc).trans I).keep e.heap.size (by omega) (.inl (ki S e _)),jO]
 have cn:w1.heap[l.heap.size]?=some (.cells #[.int .i64 0] 3):=by
  rw[I.keep l.heap.size (by omega) (.inl f),jO]
 have D:J.getD 10 undef=.pointer (some ⟨e.heap.size,0,none⟩):=by rw[L 10 (by decide),v4]
 have M:J.getD 22 undef=.int .i64 j:=by rw[L 22 (by decide),r4 22 (by decide),r3 22 (by decide),r2 22 (by decide),v1]
 have R:J.getD 24 undef=.int .i64 nm:=by rw[L 24 (by decide),r4 24 (by decide),v3]
 refine arp H e5 D M i ci (λw2 _ u z6 o6 Z=> ?_);have oL:w2.heap[l.heap.size]?=some (.cells #[.int .i64 0] 3):=(u _ (by omega) (.inl f)).trans cn;refine arp H e6 v5 R f oL (λw3 _ B z7 o7 X=> ?_);refine gu H.cmp (λw4 N=> ?_) w3 (H.fg _ _);have q:=Kp.rl H N;have p:=((ka.trans W).trans kc).trans I;have a9:=p.size;refine K J _ w4 e.heap.size l.heap.size (by omega) (λt q1 q2 q3 q4 q5=> ?_) D v5 ⟨λb a8 h=> ?_, ?_, ?_,p.mono,λb h=>(p.new b h).imp id λh=>⟨h.1, ?_⟩⟩ i f g0 (by omega) ?_ ?_
 .rw[L t q5,r4 t q4,r3 t q3,r2 t q2,r1 t q1]
 .have O:=h.imp (p.mono b) id;rw[q.keep b (by omega) O,B b (by omega) O,u b (by omega) O,p.keep b a8 h]
 .have:=q.size;omega
 .rw[q.os,o7,o6,p.os]
 .have:=q.size;omega
 .rw[q.keep _ (by omega) (.inl i),B _ (by omega) (.inl i),Z]
 .rw[q.keep _ (by omega) (.inl f),X]
end
end
section
open Go.Conc Go.ConcN Go.RowKit
open Go.ConcR (KK wgBlock WgAt stA smA rd wr mk Payload DC0)
structure Mx where
 wE:World
 Wg:Nat
 C:Nat
 n2:Nat
 Rg:Nat->Prop
 key:Int
 A:Option Addr
 n:Nat
 c:Nat
 l:List gz
 A2:Option Addr
 c2:Nat
 di:List Int
 bk:Nat
 bp:Nat
 ba:Nat
 sv:Nat->Value
 Z:Nat
 V:aw
structure Mx.Ok (X:Mx):Prop where
 hN:gN<=X.wE.heap.size
 gl:∀g∈gL,X.Rg g
 k1:1<=X.key
 k2:X.key<=99
 hl:X.l.length=X.n
 hc:X.n<=X.c
 hcm:(X.c:Int)<=9223372036854775807
 gr:∀g∈gL,dx X.wE g
 rd:RdP X.wE X.A 0 X.l
 rgp:RgP X.Rg X.wE X.A X.l
 al:∀a,X.A=some a->0<X.l.length->X.Rg a.block
 al2:∀a,X.A2=some a->0<X.n2->X.Rg a.block
 nm:∀i nm,X.di[i]?=some nm->aiX X.wE X.A2 i nm
 nn:X.di.length=X.n2
 n2m:(X.n2:Int)<=2147483647
 cW:X.C≠X.Wg
 vr:∀b,X.Rg b->X.V b
structure Mx.At (X:Mx) (R:aw) (w:World):Prop where
 keep:∀b,X.V b->w.heap[b]?=X.wE.heap[b]?
 sz:X.wE.heap.size<=w.heap.size
 os:w.ou=X.wE.ou
 rows:∀b,X.V b->R b
 rk:R X.bk/\w.heap[X.bk]?=some (.cells #[.int .i64 X.key] 3)
 rp:R X.bp/\w.heap[X.bp]?=some (.cells #[.slice X.A X.n X.c] 32)
 ra:R X.ba/\w.heap[X.ba]?=some (.cells #[.slice (some ⟨X.C,0,none⟩) X.n2 X.n2] 205)
 rlt:∀b,R b->b<w.heap.size
 rC:¬R X.C
 rW:¬R X.Wg
 ltC:X.C<w.heap.size
 ltW:X.Wg<w.heap.size
section
variable {X:Mx} {R S S':aw} {w w':World} {es:Array Event}
def Mx.At.move(h:X.At R w)(a:∀b,R b->w'.heap[b]?=w.heap[b]?)(d:w.heap.size<=w'.heap.size)(e:w'.ou=w.ou):X.At R w':=
 ⟨λb c=>(a b (h.rows b c)).trans (h.keep b c),ap h.sz d,e.trans h.os,h.rows,⟨h.rk.1,(a _ h.rk.1).trans h.rk.2⟩,⟨h.rp.1,(a _ h.rp.1).trans h.rp.2⟩,⟨h.ra.1,(a _ h.ra.1).trans h.ra.2⟩,
  λb c=>aE (h.rlt b c) d,h.rC,h.rW,aE h.ltC d,aE h.ltW d⟩
def Mx.At.grow(h:X.At R w)(c:∀b,S b->b<w.heap.size/\b≠X.C/\b≠X.Wg):X.At (λb=>S b\/R b) w:=
 ⟨h.keep,h.sz,h.os,λb a=>.inr (h.rows b a),⟨.inr h.rk.1,h.rk.2⟩,⟨.inr h.rp.1,h.rp.2⟩,⟨.inr h.ra.1,h.ra.2⟩,λb a=>a.elim (λx=>(c b x).1) (h.rlt b),
  λa=>a.elim (λx=>(c _ x).2.1 rfl) h.rC,λa=>a.elim (λx=>(c _ x).2.2 rfl) h.rW,h.ltC,h.ltW⟩
def Mx.At.rgp(a:X.Ok)(h:X.At R w):RgP X.Rg w X.A X.l:=a.rgp.move a.al λb c=>h.keep b (a.vr b c)
def Mx.At.gr(a:X.Ok)(h:X.At R w):∀g∈gL,dx w g:=λg b=>by
 obtain⟨c,t,z,e⟩:=a.gr g b;exact⟨c,t,z,(h.keep g (a.vr g (a.gl g b))).trans e⟩
def Mx.At.rd(a:X.Ok)(h:X.At R w):RdP w X.A 0 X.l:=a.rd.mask a.rgp a.al λ_ _ c b _=>(fF (h.keep _ (a.vr _ b))).trans c
def Mx.At.nm(b:X.Ok)(h:X.At R w){nm:Int}(d:X.di[i]?=some nm):aiX w X.A2 i nm:=by
 obtain⟨a,e,f,c⟩:=b.nm i nm d;exact⟨a,e,(fF (by rw[qw];exact h.keep _ (b.vr _ (b.al2 a e (by have:=(jt.1 d).1;have:=b.nn;omega))))).trans f,c⟩
abbrev Mx.Rl(X:Mx)(R:aw):aw->World->World->Prop:=ji dY.tWg X.Wg X.C (2*X.n2) R noC
abbrev Mx.Gr(X:Mx)(R:aw):aw->aw->World->World->Array Event->Prop:=Gua X.Wg X.C (2*X.n2) R noC
def Mx.lV(X:Mx)(R:aw):nO (X.Rl R) R:=⟨λS w=>ji.refl _ _ _ _,λ_ _ _ _=>ji.trans,λ_ _ _ h=>⟨h.keep,h.size,h.os⟩⟩
structure Mx.Inv (X:Mx) (R S:aw) (w:World):Prop where
 s:∀b,S b->b<w.heap.size/\b≠X.C/\b≠X.Wg
 at_:X.At R w
 live:WgLive dY.tWg X.Wg w
 sr:∀b,R b->¬S b
def Mx.Inv.rely(h:X.Inv R S w)(a:X.Rl R S w w'):X.Inv R S w':=
 ⟨λb c=>⟨aE (h.s b c).1 a.size,(h.s b c).2⟩,h.at_.move (λb c=>a.keep b (.inr c)) a.size a.os,a.live h.live,h.sr⟩
def Mx.step(h:X.Inv R S w)(g:nN R S S' w w' es):X.Gr R S S' w w' es/\X.Inv R S' w':=by
 obtain⟨k,l,p,rfl,A⟩:=g;have o:w'.heap[X.C]?=w.heap[X.C]?:=k _ h.at_.ltC λd=>(h.s _ d).2.1 rfl;have r:w'.heap[X.Wg]?=w.heap[X.Wg]?:=k _ h.at_.ltW λd=>(h.s _ d).2.2 rfl;refine⟨⟨λb c z _=>k b c z,l,p,λ⟨s,a,b⟩=>⟨s,o.trans a,b⟩,λi _=>tO o i,λb c=>.inl c,λb c=>c,λe D=> ?_⟩, ?_⟩
 .obtain⟨B,m,C⟩:=A e D;refine⟨λx u=>(B x u).elim .inl λy=>.inr (.inr y),λj=> ?_,λj=> ?_,λj=> ?_,C⟩
  .rcases m _ j with⟨f,e⟩|e<;>cases e
  .rcases m _ j with⟨f,e⟩|e<;>cases e
  .rcases m _ j with⟨f,e⟩|e<;>cases e
 .refine⟨λb c=> ?_,h.at_.move (λb c=>k b (h.at_.rlt b c) (h.sr b c)) l p, ?_,λb c d=> ?_⟩
  .rcases c with c|⟨c,n⟩
   .exact⟨aE (h.s b c).1 l,(h.s b c).2⟩
   .have F:=h.at_.ltC;have E:=h.at_.ltW;exact⟨n,by omega,by omega⟩
  .obtain⟨v,q,t⟩:=h.live;exact⟨v,q,r.trans t⟩
  .rcases d with d|⟨d,_⟩
   .exact h.sr b c d
   .have:=h.at_.rlt b c;omega
def Mx.lift(h:bH prog true (X.Rl R) (nN R) Stop S g w)(c:X.Inv R S w):bH prog true (X.Rl R) (X.Gr R) (λS g w=>Stop S g w/\X.Inv R S w) S g w:=
 bH.inv (Rl:=X.Rl R) (Gr:=nN R) (Gr2:=X.Gr R) (Stop:=Stop) (Inv:=X.Inv R) (λ_ _ _ a b=>a.rely b) (λ_ _ _ _ _ a b=>Mx.step a b) (λ_ _ _ a b=>⟨a,b⟩) h c
def alf(t:Nat):Bool:=t ==0||t ==1||t ==2||t ==6||t ==7||t ==17||aal t
structure Mx.Sl (X:Mx) (T:Array Value) (j:Nat):Prop where
 z:T.size=X.Z
 zz:45<=X.Z
 s3:T.getD 3 undef=.pointer (some ⟨X.bk,0,none⟩)
 s4:T.getD 4 undef=.pointer (some ⟨X.bp,0,none⟩)
 s8:T.getD 8 undef=.pointer (some ⟨X.ba,0,none⟩)
 s9:T.getD 9 undef=.pointer (some ⟨X.Wg,0,none⟩)
 s18:T.getD 18 undef=.slice X.A2 X.n2 X.c2
 s19:T.getD 19 undef=.int .i64 X.n2
 gv:T.getD 20 undef=.int .i64 j
 sv:∀t,alf t=true->T.getD t undef=X.sv t
def wrM(t:Nat):Bool:=t ==10||t ==11||(21<=t&&t<=28)
def axa{t:Nat}(h:alf t=true):wrM t=false:=by
 simp only[alf,aal,qs,mx,qq] at h;simp only[wrM,vz,kw,vi,decide_eq_false_iff_not];omega
def Mx.Sl.keep{T T':Array Value}(h:X.Sl T j)(c:T'.size=X.Z)(a:∀t,wrM t=false->T'.getD t undef=T.getD t undef):X.Sl T' j:=
 ⟨c,h.zz,(a 3 rfl).trans h.s3,(a 4 rfl).trans h.s4,(a 8 rfl).trans h.s8,(a 9 rfl).trans h.s9,(a 18 rfl).trans h.s18,(a 19 rfl).trans h.s19,(a 20 rfl).trans h.gv,λt b=>(a t (axa b)).trans (h.sv t b)⟩
end
section
variable {P:Program} {main:Bool} {Rl:aw->World->World->Prop} {Gr:aw->aw->World->World->Array Event->Prop} {St:aw->Goroutine->World->Prop} {S Rr:aw} {w0:World} {f h:FuncId} {T:Array Value} {k:List Item} {xs bs:List Frame}
def ajh (C:Cmp Rl Gr Rr)    {args:Array Value} (a:V[i]?=some o) (c:o.guard=none)
  (b:∀w,(execOp (FQ f T (.inRegion V (i::rest)::k)).eval o).runT P w #[]=(.ok (.enter h args) w,#[]))
  (d:∀w,Rl S w0 w->bH P main Rl Gr St S (Gl (Frame.enter P h args .normal::FQ f T (.inRegion V (i::rest)::k)::xs) bs) w):∀w,Rl S w0 w->bH P main Rl Gr St S (Gl (FQ f T (.inRegion V (i::rest)::k)::xs) bs) w:=
 bH.still C (l2:=Frame.enter P h args .normal::FQ f T (.inRegion V (i::rest)::k)::xs) (es:=λ_=>seen P f #[]) (λw _=>ai9 rfl rfl rfl rfl a c (b w)) (λw _=>bu _) d
end
def alg{args:Array Value} :(callFunc dY.add args).runT prog w #[]=(.ok (.enter dY.add args) w,#[]):=by
 have h:=aam.f_add;have b:¬(Go.Conc.Lib.addFn dY).name= "runtime.NumGoroutine" :=by decide
 have a:¬(Go.Conc.Lib.addFn dY).body=none:=λe=>by cases e
 unfold callFunc;simp[h,b,a]
def aji{args:Array Value} :(callFunc dY.wait args).runT prog w #[]=(.ok (.enter dY.wait args) w,#[]):=by
 have h:=aam.f_wait;have b:¬(Go.Conc.Lib.waitFn dY).name= "runtime.NumGoroutine" :=by decide
 have a:¬(Go.Conc.Lib.waitFn dY).body=none:=λe=>by cases e
 unfold callFunc;simp[h,b,a]
noncomputable abbrev kM:List Item:=[.code (.seq (.region 9 jo false) cF)]
noncomputable abbrev kB:List Item:=.inLoop iN :: .inBlock 0::kM
noncomputable abbrev kA:List Item:=.code (.region 7 kV false) :: .inBlock 1 :: .code (.region 8 ajd false)::kB
section
variable {X:Mx} {R:aw} {w:World} {T:Array Value} {j:Nat} {xs bs:List Frame}
def StA(X:Mx)(j:Nat)(xs bs:List Frame)(S:aw)(g:Goroutine)(w:World):Prop:=
 ∃(T':Array Value) (b a:Nat) (nm:Int),X.di[j]?=some nm/\X.Sl T' j/\T'.getD 10 undef=.pointer (some ⟨b,0,none⟩)/\T'.getD 11 undef=.pointer (some ⟨a,0,none⟩)/\S b/\S a/\w.heap[b]?=some (.cells #[.int .i64 j] 3)/\w.heap[a]?=some (.cells #[.int .i64 nm] 3)/\
  g=Gl (Frame.enter prog dY.add #[.pointer (some ⟨X.Wg,0,none⟩),.int .i64 1] .normal::FQ cf T' (.inRegion aao [0]::kA)::xs) bs
def StW(X:Mx)(xs bs:List Frame)(S:aw)(g:Goroutine)(_:World):Prop:=
 ∃T':Array Value,X.Sl T' X.n2/\S=(λ_=>False)/\g=Gl (Frame.enter prog dY.wait #[.pointer (some ⟨X.Wg,0,none⟩)] .normal::FQ cf T' (.inRegion jo [0]::[.code cF])::xs) bs
def aoJ(n:X.Ok)(g:X.Sl T j)(v:j<X.n2)(r:X.At R w):bH prog true (X.Rl R) (nN R) (StA X j xs bs) (λ_=>False) (Gl (FQ cf T (.code iN::kB)::xs) bs) w:=by
 have H:=X.lV R;obtain⟨nm,m⟩:∃nm,X.di[j]?=some nm:=⟨_,jn (by rw[n.nn];exact v)⟩;rw[agm];refine dR H.cmp (fw H.cmp (l:=[0]) rfl λwa x=>ann H g.zz g.z g.gv g.s19 λM D K i=> ?_) w (H.fg _ _);rw[dq v] at i;refine dR H.cmp (abt H.cmp i (anb H.cmp (dR H.cmp (aey H.cmp (dR H.cmp (fw H.cmp (l:=[0,1,2,3,4,5,6]) rfl λP q=> ?_))))));have f:X.Sl M j:=g.keep D λt d=>K t (by rintro rfl;cases d);have I:X.At R P:=(r.move (λb e=>x.keep b (.inr e)) x.size x.os).move (λb e=>q.keep b (.inr e)) q.size q.os;refine aue H g.zz D f.s18 f.gv v (I.nm n m) (λa A=>I.rows _ (n.vr _ (n.al2 a A (by omega)))) λo S2 Z G B N V z u kp C F lb J S Q=> ?_;have k:X.Sl o j:=f.keep N λt d=>V t (by rintro rfl;cases d) (by rintro rfl;cases d) (by rintro rfl;cases d) (by rintro rfl;cases d) (by rintro rfl;cases d);obtain⟨L,U,O⟩:=ay9;refine dR H.cmp (fw H.cmp (l:=[0]) rfl (ajh H.cmp (h:=dY.add) (args:=#[.pointer (some ⟨X.Wg,0,none⟩),.int .i64 1]) O rfl (λw=> ?_) λw5 y=>.stop λw6 p=> ?_)) Z (H.fg _ _)
 .have W:Array.map (Frame.eval (FQ cf o (.inRegion aao [0]::kA))) #[.tmp 9,.const (.int .i64 1)]=#[.pointer (some ⟨X.Wg,0,none⟩),.int .i64 1]:=by
   rw[<-k.s9];simp[Frame.eval]
  have Y:execOp (Frame.eval (FQ cf o (.inRegion aao [0]::kA))) ⟨some 25,.call ⟨.value (.func dY.add),#[.tmp 9,.const (.int .i64 1)],#[dY.tWg,3]⟩,0,L,U,none⟩=callFunc dY.add #[.pointer (some ⟨X.Wg,0,none⟩),.int .i64 1]:=by
   simp only[execOp,resolve];rw[W];simp[Deferred.ofValue,invoke,Frame.eval];try rfl
  exact(fa (λs=>Sem.runT prog s w #[]) Y).trans alg
 .have E:=H.tr _ _ _ _ y p;exact⟨o,G,B,nm,m,k,z,u,C,F,(E.keep G (.inl C)).trans S,(E.keep B (.inl F)).trans Q,rfl⟩
def aoL(b:X.Sl T X.n2):bH prog true (X.Rl R) (nN R) (StW X xs bs) (λ_=>False) (Gl (FQ cf T (.code iN::kB)::xs) bs) w:=by
 have H:=X.lV R;rw[agm];refine dR H.cmp (fw H.cmp (l:=[0]) rfl λv u=>ann H b.zz b.z b.gv b.s19 λe p f a=> ?_) w (H.fg _ _);rw[da (sB _)] at a;have d:X.Sl e X.n2:=b.keep p λt j=>f t (by rintro rfl;cases j);obtain⟨n,i,k⟩:=aza;refine dR H.cmp (abt H.cmp a (ane H.cmp (k2:=kM) rfl (dR H.cmp (fw H.cmp (l:=[0]) rfl (ajh H.cmp (h:=dY.wait) (args:=#[.pointer (some ⟨X.Wg,0,none⟩)]) k rfl (λw=> ?_) λx q=>.stop λr g=>⟨e,d,rfl,rfl⟩)))));have m:Array.map (Frame.eval (FQ cf e (.inRegion jo [0]::[.code cF]))) #[.tmp 9]=#[.pointer (some ⟨X.Wg,0,none⟩)]:=by
  rw[<-d.s9];simp[Frame.eval]
 have o:execOp (Frame.eval (FQ cf e (.inRegion jo [0]::[.code cF]))) ⟨some 28,.call ⟨.value (.func dY.wait),#[.tmp 9],#[dY.tWg]⟩,0,n,i,none⟩=callFunc dY.wait #[.pointer (some ⟨X.Wg,0,none⟩)]:=by
  simp only[execOp,resolve];rw[m];simp[Deferred.ofValue,invoke,Frame.eval];try rfl
 exact(fa (λs=>Sem.runT prog s w #[]) o).trans aji
end
end
section
open Go.Conc Go.ConcN Go.RowKit Go.Conc.Lib Go.ConcR.Gen Go.ConcN.Gen
open Go.ConcR (KK wgBlock WgAt stA smA rd wr mk Payload DC0)
section
variable {P:Program} {R:World->World->Prop} {Q:World->Prop} {St A:Goroutine->World->Prop} {ty:TypeId} {Wg:Nat}
 (hQ:∀w w1,Q w->R w w1->Q w1) (hW:∀(w:World) (a:Addr) v,a.block=Wg->Q w->Q (w.setCell a v))
include hQ
theorem ano(a:Q w)(h:WKe P R Wg St g w):WKe P R Wg (λg w=>St g w/\Q w) g w:=abB (λ_ _ x=>jm hQ x.2 x.1) (jm hQ a h)
theorem auf(b:Q w)(h:WW4 P R ty Wg St g w):WW4 P R ty Wg (λg w=>St g w/\Q w) g w:=
 ⟨h.1,λa=>let⟨c,e,k⟩:=h.2 a;⟨c,e,eP (λ_ _ x=>ano hQ x.2 x.1) (et hQ b k)⟩⟩
include hW
theorem aug(b:Q w)(h:WW3 P R ty Wg St g w):WW3 P R ty Wg (λg w=>St g w/\Q w) g w:=
 ⟨h.1,h.2.1,h.2.2.1,λa=>let⟨c,e,k⟩:=h.2.2.2 a;⟨c,e,eP (λ_ _ x=>auf hQ x.2 x.1) (et hQ (hW _ _ _ rfl b) k)⟩⟩
theorem auh{v:Nat}(d:Q w)(h:WW2 P R ty Wg A St v g w):WW2 P R ty Wg (λg w=>A g w/\Q w) (λg w=>St g w/\Q w) v g w:=
 ⟨h.1,λf i c=>⟨λe=>let⟨b,a,k⟩:=(h.2 f i c).1 e;⟨b,a,eP (λ_ _ x=>abB (λ_ _ x=>aug hQ hW x.2 x.1) (jm hQ x.2 x.1)) (et hQ (hW _ _ _ rfl d) k)⟩,
  λe=>let⟨b,a,k⟩:=(h.2 f i c).2 e;⟨b,a,et hQ d k⟩⟩⟩
theorem aui(a:Q w)(h:WW1 P R ty Wg A St g w):WW1 P R ty Wg (λg w=>A g w/\Q w) (λg w=>St g w/\Q w) g w:=
 ⟨h.1,λv d c=>let⟨i,e,f,b⟩:=h.2 v d c;⟨i,e,λe=>eP (λ_ _ x=>ano hQ x.2 x.1) (et hQ a (f e)),λe=>eP (λ_ _ x=>auh hQ hW x.2 x.1) (et hQ a (b e))⟩⟩
end
section
variable (X:Mx) (xs bs:List Frame)
noncomputable abbrev frW(T:Array Value):Frame:=(FQ cf #[] []).at ⟨T,[]⟩ (.inRegion jo [0]::[.code cF])
def ac5(R _S:aw)(g:Goroutine)(w:World):Prop:=X.At R w/\∃T,X.Sl T X.n2/\ai5 dY X.Wg (frW T) (xs++bs) g w
def azc(R S:aw)(g:Goroutine)(w:World):Prop:=
 ∃T,X.Sl T X.n2/\Goes prog true (RM dY.tWg X.Wg X.C X.n2 R S) DC0 (λg w=>(g=Gl (FQ cf T (.inRegion jo []::[.code cF])::xs) bs/\WgLive dY.tWg X.Wg w)/\X.At R w) 20 g w
end
section
variable {X:Mx} {xs bs:List Frame} {R S:aw} {w w1:World} {T:Array Value}
def Mx.At.rely(h:X.At R w)(a:ji dY.tWg X.Wg X.C (2*X.n2) R noC S w w1):X.At R w1:=h.move (λb c=>a.keep b (.inr c)) a.size a.os
def Mx.At.wg(h:X.At R w)(a:Addr)(v:Value)(d:a.block=X.Wg):X.At R (w.setCell a v):=
 h.move (λb c=>bm _ _ _ (λe=>h.rW (by rw[<-d,e];exact c))) (me (gE _ _ _).symm) rfl
def auj(a:X.Sl T X.n2):∃T',X.Sl T' X.n2/\G ((FQ cf #[] []).at ((⟨T,[]⟩:Act).put ((jo[0]?).bind (·.dst)) (.tuple #[])) (.inRegion jo []::[.code cF])) (xs++bs)=Gl (FQ cf T' (.inRegion jo []::[.code cF])::xs) bs:=by
 obtain⟨d,e,c⟩:=aza;refine⟨T.setIfInBounds 28 (.tuple #[]),a.keep (by simpa using a.z) λt b=> ?_,by rw[c];rfl⟩;rw[aG (by rw[a.z];exact aE (by decide) a.zz),bd (by rintro rfl;cases b)]
def auk(h:ac5 X xs bs R S g w):∃m,GP prog dY.tWg X.Wg X.C X.n2 R S (MW1 prog dY.tWg X.Wg X.C X.n2 R S (ac5 X xs bs) (azc X xs bs)) m g w:=by
 obtain⟨c,T,d,i⟩:=h;have j:=ak9 (R:=RM dY.tWg X.Wg X.C X.n2 R S) (S:=λg w=>g=G ((FQ cf #[] []).at ((⟨T,[]⟩:Act).put ((jo[0]?).bind (·.dst)) (.tuple #[])) (.inRegion jo []::[.code cF])) (xs++bs)/\WgLive dY.tWg X.Wg w) aam (λ_ _ h r=>r.live h) (λ_ h=>⟨rfl,h⟩) g w i;have f:=eP (λg w x=>aui (Q:=X.At R) (λ_ _ h r=>h.rely r) (λ_ a v e h=>h.wg a v e) x.2 x.1) (et (Q:=X.At R) (λ_ _ h r=>h.rely r) c j);obtain⟨T',b,k⟩:=auj (xs:=xs) (bs:=bs) d;refine⟨30,aan (λ_ _ x=>ayW (λg w y=>⟨T',b,eP (λg w z=>⟨⟨z.1.1.trans k,z.1.2⟩,z.2⟩) y⟩) (λg w y=>⟨y.2,T,d,y.1⟩) x) f⟩
def alh:Frame.enter prog dY.wait #[.pointer (some ⟨X.Wg,0,none⟩)] .normal=(base dY.wait).at ⟨#[.pointer (some ⟨X.Wg,0,none⟩)]++(List.replicate 83 undef).toArray,[]⟩ [.code (body_wait dY)]:=by
 rw[uT];have h:=enter_at (c:=body_wait dY) #[.pointer (some ⟨X.Wg,0,none⟩)] aam.f_wait rfl;have e:(Go.Conc.Lib.waitFn dY).ntmps-(#[.pointer (some ⟨X.Wg,0,none⟩)]:Array Value).size=83:=rfl;rw[e] at h;exact h
def aoM:Frame.enter prog dY.add #[.pointer (some ⟨X.Wg,0,none⟩),.int .i64 1] .normal=(base dY.add).at ⟨#[.pointer (some ⟨X.Wg,0,none⟩),.int .i64 1]++(List.replicate 115 undef).toArray,[]⟩ [.code (body_add dY)]:=by
 rw[uT];have h:=enter_at (c:=body_add dY) #[.pointer (some ⟨X.Wg,0,none⟩),.int .i64 1] aam.f_add rfl;have e:(Go.Conc.Lib.addFn dY).ntmps-(#[.pointer (some ⟨X.Wg,0,none⟩),.int .i64 1]:Array Value).size=115:=rfl;rw[e] at h;exact h
def ahz(e:X.Sl T X.n2)(a:X.Inv R S w) :
  bH prog true (X.Rl R) (X.Gr R) (λS g w=>MKd prog dY.tWg X.Wg X.C X.n2 R S (ac5 X xs bs) g w) S (Gl (Frame.enter prog dY.wait #[.pointer (some ⟨X.Wg,0,none⟩)] .normal::FQ cf T (.inRegion jo [0]::[.code cF])::xs) bs) w:=by
 rw[alh];have d:=ak8 (b₀:=FQ cf #[] []) (a₀:=⟨T,[]⟩) (ops₀:=jo) (i₀:=0) (rest₀:=[]) (k₀:=[.code cF]) (cs:=xs++bs) (R:=RM dY.tWg X.Wg X.C X.n2 R S) aam (λ_ _ h r=>r.live h) w a.live;have c:=eP (λg w x=>jm (Q:=X.At R) (λ_ _ h r=>h.rely r) x.2 x.1) (et (Q:=X.At R) (λ_ _ h r=>h.rely r) a.at_ d);have b:∀g w,(ai5 dY X.Wg (frW T) (xs++bs) g w/\X.At R w)->ac5 X xs bs R S g w:=λg w y=>⟨y.2,T,e,y.1⟩;exact bH.abn (R:=RM dY.tWg X.Wg X.C X.n2 R S) (λ_ _ h=>h) (λ_ _ _ h=>aw7 h) (λ_ _ h=>ayX b h) c
end
end
section
open Go.Conc Go.ConcN Go.RowKit
open Go.ConcR (KK wgBlock WgAt stA smA rd wr mk Payload DC0)
section
variable {X:Mx} {R S:aw} {w:World} {T:Array Value} {j:Nat} {xs bs:List Frame} {bi bn:Nat} {nm:Int}
noncomputable abbrev kG:List Item:=.inBlock 1 :: .code (.region 8 ajd false)::kB
abbrev Mx.iM(X:Mx)(bi bn:Nat):Array Value:=#[.pointer (some ⟨X.Wg,0,none⟩),.pointer (some ⟨X.bk,0,none⟩),.pointer (some ⟨X.bp,0,none⟩),.pointer (some ⟨bn,0,none⟩),.pointer (some ⟨X.ba,0,none⟩),.pointer (some ⟨bi,0,none⟩)]
def aoN(b:X.Sl T j)(k:T.getD 10 undef=.pointer (some ⟨bi,0,none⟩))(m:T.getD 11 undef=.pointer (some ⟨bn,0,none⟩))(z:S bi)(q:S bn)(u:w.heap[bi]?=some (.cells #[.int .i64 j] 3))(o:w.heap[bn]?=some (.cells #[.int .i64 nm] 3)) :
  bH prog true (X.Rl R) (nN R) (λA g f=>A=S/\f.heap[bi]?=some (.cells #[.int .i64 j] 3)/\f.heap[bn]?=some (.cells #[.int .i64 nm] 3)/\∃T',X.Sl T' j/\T'.getD 26 undef=.func (.func nCl) #[] (X.iM bi bn)/\g=Gl (FQ cf T' (.inRegion kV [1]::kG)::xs) bs) S
   (Gl (FQ cf T (.inRegion aao []::kA)::xs) bs) w:=by
 have H:=X.lV R;obtain⟨p,a,e⟩:=aA6;refine gu H.cmp (fw H.cmp (l:=[0,1]) rfl (bK H.cmp (d:=26) (v:=.func (.func nCl) #[] (X.iM bi bn)) (es:=#[]) (by rw[b.z];exact aE (by decide) b.zz) e rfl rfl (λw _=>ajf ?_) (λw _=>bu _) λy B C s f r=>.stop λD i=> ?_)) w (H.fg _ _)
 .have:∀T:Array Value,Array.map (Frame.eval (FQ cf T (.inRegion kV [0,1]::kG))) #[.tmp 9,.tmp 3,.tmp 4,.tmp 11,.tmp 8,.tmp 10]=#[T.getD 9 undef,T.getD 3 undef,T.getD 4 undef,T.getD 11 undef,T.getD 8 undef,T.getD 10 undef]:=λT=>by simp[Frame.eval]
  rw[this,b.s9,b.s3,b.s4,b.s8,k,m]
 .have n:=H.tr _ _ _ _ r i;exact⟨rfl,(n.keep bi (.inl z)).trans u,(n.keep bn (.inl q)).trans o,y,b.keep (B.trans b.z) λt x=>s t (by rintro rfl;cases x),C,rfl⟩
def aoO(k:X.Ok)(b:X.Sl T j)(F:j<X.n2) :
  bH prog true (X.Rl R) (nN R) (λu g _=>u=S/\∃T',X.Sl T' (j+1)/\g=Gl (FQ cf T' (.code iN::kB)::xs) bs) S
   (Gl (FQ cf T (.inRegion kV []::kG)::xs) bs) w:=by
 have H:=X.lV R;obtain⟨E,D,i⟩:=aA8;obtain⟨C,G,s⟩:=aA9;have p:=k.n2m;refine gu H.cmp (aiQ H.cmp (fw H.cmp (l:=[0,1]) rfl (bK H.cmp (d:=27) (v:=.int .i64 ((j:Int)+1)) (es:=#[]) (by rw[b.z];exact aE (by decide) b.zz) i rfl rfl (λw _=>at5 (x:=.tmp 20) b.gv rfl (by omega) (by omega)) (λw _=>bu _) λo f y m=>
  bK H.cmp (d:=20) (v:=.int .i64 ((j:Int)+1)) (es:=#[]) (by rw[f,b.z];exact aE (by decide) b.zz) s rfl rfl (λw _=>eO (x:=.tmp 27) y) (λw _=>bu _) λz r n c=>
   gu H.cmp (aqG H.cmp λA B=>.stop λI q=>⟨rfl,z, ?_,rfl⟩)))) w (H.fg _ _)
 have a:=b.keep (T':=o) (f.trans b.z) λt e=>m t (by rintro rfl;cases e);refine⟨r.trans a.z,a.zz,(c 3 (by decide)).trans a.s3,(c 4 (by decide)).trans a.s4,(c 8 (by decide)).trans a.s8,(c 9 (by decide)).trans a.s9,(c 18 (by decide)).trans a.s18,(c 19 (by decide)).trans a.s19,by rw[n];rfl,λt e=>(c t (by rintro rfl;cases e)).trans (a.sv t e)⟩
def aeH{val:Nat->Value}{A:aw->aw->Goroutine->World->Prop}{r:Nat}(h:bH prog true (X.Rl R) (X.Gr R) (λS g w=>(S=λ_=>False)/\ta prog dY.tWg X.Wg X.C X.n2 val A r R g w) (λ_=>False) g w):ta prog dY.tWg X.Wg X.C X.n2 val A r R g w:=by
 cases r with
 |zero=>exact bH.bind (X.lV _).fg (X.lV _).tr h λS g w ⟨hS,h⟩=>by subst hS;exact h
 |succ r=>exact bH.bind (X.lV _).fg (X.lV _).tr h λS g w ⟨hS,h⟩=>by subst hS;exact h
def ac6(f:X.Ok){x:Int->List gz->Int->ByteArray×Bool}(O:dX x)(u:∀k nm,x k [] nm=(⟨#[]⟩,false)){val:Nat->Value}(i:∀B nm,X.di[B]?=some nm->val (2*B)=.string (x X.key X.l nm).1/\val (2*B+1)=.bool (x X.key X.l nm).2) :
  ∀(r j:Nat) (R:aw) (T:Array Value) (w:World),j+r=X.n2->X.At R w->WgLive dY.tWg X.Wg w->X.Sl T j->ta prog dY.tWg X.Wg X.C X.n2 val (ac5 X xs bs) r R (Gl (FQ cf T (.code iN::kB)::xs) bs) w
 |0,j,R,T,w,hj,hat,o,hs=>by
  obtain rfl:j=X.n2:=hj;have M:X.Inv R (λ_=>False) w:=⟨λb h=>h.elim,hat,o,λb _ h=>h⟩;exact bH.bind (X.lV R).fg (X.lV R).tr (Mx.lift (aoL hs) M) λS g w ⟨⟨T',c,hS,hg⟩,d⟩=>by
   rw[hg];exact ahz c d
 |r+1,j,R,T,w,hj,hat,o,hs=>by
  have l:j<X.n2:=by omega
  have M:X.Inv R (λ_=>False) w:=⟨λb h=>h.elim,hat,o,λb _ h=>h⟩;have F:X.n2-(r+1)=j:=by omega
  show bH prog true (X.Rl R) (X.Gr R) (λS g w=>aqp prog dY.tWg X.Wg X.C X.n2 val (X.n2-(r+1)) (ta prog dY.tWg X.Wg X.C X.n2 val (ac5 X xs bs) r) R S g w) (λ_=>False) _ w;rw[F];refine bH.bind (X.lV R).fg (X.lV R).tr (Mx.lift (aoJ f hs l hat) M) λS g w ⟨⟨T',bi,bn,nm,hnm,c,d10,d11,si,sn,ci,cn,hg⟩,d⟩=> ?_;rw[hg,aoM];have hI:=d.at_.nm f hnm;obtain⟨-, -, -,E⟩:=hI;refine aoH (b₀:=FQ cf #[] []) (a₀:=⟨T',[]⟩) (ops₀:=aao) (i₀:=0) (rest₀:=[]) (k₀:=kA) (cs:=xs++bs) aam (Q:=λw=>X.Inv R S w/\w.heap[bi]?=some (.cells #[.int .i64 j] 3)/\w.heap[bn]?=some (.cells #[.int .i64 nm] 3))
   (λw q h I=>⟨h.1.rely I,(I.keep bi (.inl si)).trans h.2.1,(I.keep bn (.inl sn)).trans h.2.2⟩) (λw v z h Z=> ?_) (λw o h=> ?_) w d.live ⟨d,ci,cn⟩
  .have s:∀b,S b->(w.setCell (stA X.Wg) (.int .u64 z)).heap[b]?=w.heap[b]?:=λb n=>bm _ _ _ λe=>(h.1.s b n).2.2 e.symm;refine⟨⟨λb n=>⟨by rw[gE];exact(h.1.s b n).1,(h.1.s b n).2⟩,h.1.at_.wg _ _ rfl, ?_,h.1.sr⟩,(s bi si).trans h.2.1,(s bn sn).trans h.2.2⟩;exact⟨z,0,Z.setSt z⟩
  .obtain⟨p6,a6,V⟩:=ay9;have P:G ((FQ cf #[] []).at ((⟨T',[]⟩:Act).put ((aao[0]?).bind (·.dst)) (.tuple #[])) (.inRegion aao []::kA)) (xs++bs)=Gl (FQ cf (T'.setIfInBounds 25 (.tuple #[])) (.inRegion aao []::kA)::xs) bs:=by rw[V];rfl
   rw[P];have m:∀t,t≠25->(T'.setIfInBounds 25 (.tuple #[])).getD t undef=T'.getD t undef:=λt A=>by rw[aG (by rw[c.z];exact aE (by decide) c.zz),bd A]
   have J:X.Sl (T'.setIfInBounds 25 (.tuple #[])) j:=c.keep (by simpa using c.z) λt A=>m t (by rintro rfl;cases A);refine bH.weak (λ_ _ _ h=>h) (λ_ _ _ _ _ h=>h) (λp g q h=> ?_) (Mx.lift (aoN (nm:=nm) J ((m 10 (by decide)).trans d10) ((m 11 (by decide)).trans d11) si sn h.2.1 h.2.2) h.1);obtain⟨⟨rfl,D,K,T2,y,H,rfl⟩,N⟩:=h;have a:X.At (λb=>p b\/R b) q:=N.at_.grow N.s;refine⟨rfl,_,_,λb=>p b\/R b,at2 H,λ_ h=>h,λhp o=> ?_, ?_⟩
   .obtain⟨v0,W⟩:=i j nm hnm
    let Y:Wx:=⟨q,X.Wg,X.C,X.n2,j,λb=>p b\/R b,X.Rg,X.key,X.A,X.n,X.c,X.l,nm,X.bk,X.bp,bn,X.ba,bi,dY.tWg⟩
    have C:Y.Ok:=⟨ap f.hN a.sz,f.gl,a.gr f,f.k1,f.k2,f.hl,f.hc,f.hcm,a.rd f,a.rgp f,f.al,E,l,λb n=>a.rows b (f.vr b n),⟨a.rk.1,(sW a.rk.2).1⟩,⟨a.rp.1,(sW a.rp.2).1⟩,⟨.inl sn,(sW K).1⟩,⟨a.ra.1,(sW a.ra.2).1⟩,⟨.inl si,(sW D).1⟩,a.rlt,a.rC,a.rW,f.cW⟩;have L:Y.Inv (λ_=>False) q:=⟨λ_ _=>rfl,λb h=>h.elim,a.ltC,a.ltW,am _,o,hp,rfl⟩;exact ajc (X:=Y) C O u rfl v0 W L
   .-- the rounds that are left
    have U:X.Inv (λb=>p b\/R b) (λ_=>False) q:=⟨λb h=>h.elim,a,N.live,λb _ h=>h⟩;have hx:=Mx.lift (aoO (S:=λ_=>False) (xs:=xs) (bs:=bs) f y l) U;have k:∀(g:Goroutine) (w:World) (S:aw),((S=λ_=>False)/\∃T',X.Sl T' (j+1)/\g=Gl (FQ cf T' (.code iN::kB)::xs) bs)/\X.Inv (λb=>p b\/R b) S w->S=(λ_=>False)/\ta prog dY.tWg X.Wg X.C X.n2 val (ac5 X xs bs) r (λb=>p b\/R b) g w:=by
     rintro g w S ⟨⟨rfl,T',c,rfl⟩,d⟩;exact⟨rfl,ac6 f O u i r (j+1) _ T' w (by omega) d.at_ d.live c⟩
    exact aeH (bH.weak (λ_ _ _ h=>h) (λ_ _ _ _ _ h=>h) (λS g w h=>k g w S h) hx)
end
def ali(Rr:aw):nO RlB Rr:=⟨λ_ w=>atRel_refl w,λ_ a b c h k=>atRel_trans a b c h k,λ_ w f ⟨d,e⟩=>by subst e;exact⟨λ_ _=>rfl,am _,rfl⟩⟩
def alj(aW S:aw)(w:World):Prop:=(∀b,S b->¬aW b)/\∀b,aW b->b<w.heap.size
def alj.rely{S : aw}(h:alj aW S w)(c:RlB S w U):alj aW S U:=⟨h.1,λb a=>aE (h.2 b a) ((ali S).rl _ _ _ c).2.1⟩
def arq{Rr S : aw}(s:∀b,Rr b->¬aW b)(i:alj aW S w)(g:nN Rr S Q w w' es):GrB aW S Q w w' es/\alj aW Q w':=by
 obtain⟨t,l,u,rfl,o⟩:=g;have m:∀b,S b\/(w.heap.size<=b/\b<w'.heap.size)->¬aW b:=λb c d=>by
  rcases c with c|c
  .exact i.1 b c d
  .have:=i.2 b d;omega
 refine⟨⟨l,λe r=> ?_⟩,m,λb c=>aE (i.2 b c) l⟩;obtain⟨p,k,q⟩:=o e r;refine⟨λx n ⟨a,hl,d⟩=> ?_,λj=> ?_,λj=> ?_,q⟩
 .rcases p x n with h|⟨h, -⟩
  .rw[hl] at h;exact m _ h d
  .rw[hl] at h;exact s _ h d
 .rcases k _ j with⟨f,e⟩|e<;>cases e
 .rcases k _ j with⟨f,e⟩|e<;>cases e
section
variable {gs:Array Goroutine} {w:World} {sl:Option (Nat×Nat)} {t:Trace} {q:Nat->Nat} {aW V:aw} {T:Array Value} {xs:List Frame}
def aBb (I:gs[0]?=some (Gl (FQ cf X [.code abC]::xs) [])) (U:45<=X.size) {A2 : Option Addr} (Z:(Y:Int)<=2147483647) (L:X.getD 0 undef=.int .i64 key) (s1:X.getD 1 undef=.slice A n c) (K:X.getD 2 undef=.slice A2 Y R)
  (O:Leavers prog t gs q) (hP:eh aW (gs.size-1) w.heap.size t) (v:∀b,aW b->b<w.heap.size) (H:∀b,V b->b<w.heap.size/\¬aW b) :
  ∃(N:Nat) (j:Array Goroutine) (f:World) (p:Option (Nat×Nat)) (r:Trace) (x:Nat->Nat) (T:Array Value) (l i C m:Nat) (o:Array Value),runNT prog N (crowd gs w sl) t=(.next (crowd j f p),r)/\j.size=gs.size/\
   j[0]?=some (Gl (FQ cf T [.code (.region 2 mW false),.code fO]::xs) [])/\Leavers prog r j x/\eh aW (gs.size-1) f.heap.size r/\T.size=X.size/\(∀t,(t<3\/aal t=true)->T.getD t undef=X.getD t undef)/\
   (T.getD 3 undef=.pointer (some ⟨l,0,none⟩)/\T.getD 4 undef=.pointer (some ⟨i,0,none⟩)/\T.getD 6 undef=.slice none 0 0/\T.getD 7 undef=.bool false/\T.getD 8 undef=.pointer (some ⟨m,0,none⟩)/\T.getD 17 undef=.slice (some ⟨C,0,none⟩) Y Y)/\
   ((∀b,V b->f.heap[b]?=w.heap[b]?)/\w.heap.size<=f.heap.size/\f.ou=w.ou)/\(w.heap.size<=l/\l<i/\i<C/\C<m)/\f.heap[l]?=some (.cells #[.int .i64 key] 3)/\f.heap[i]?=some (.cells #[.slice A n c] 32)/\o.size=2*Y/\f.heap[C]?=some (.cells o 216)/\f.heap[m]?=some (.cells #[.slice (some ⟨C,0,none⟩) Y Y] 205):=by
 have W:=ald (xs:=xs) (base:=[]) (k:=[]) (S:=λ_=>False) (w0:=w) (Rr:=V)
  (St:=λ_ g f=>∃(T:Array Value) (l i C m:Nat) (o:Array Value),g=Gl (FQ cf T [.code (.region 2 mW false),.code fO]::xs) []/\T.size=X.size/\(∀t,(t<3\/aal t=true)->T.getD t undef=X.getD t undef)/\
   (T.getD 3 undef=.pointer (some ⟨l,0,none⟩)/\T.getD 4 undef=.pointer (some ⟨i,0,none⟩)/\T.getD 6 undef=.slice none 0 0/\T.getD 7 undef=.bool false/\T.getD 8 undef=.pointer (some ⟨m,0,none⟩)/\T.getD 17 undef=.slice (some ⟨C,0,none⟩) Y Y)/\
   ((∀b,V b->f.heap[b]?=w.heap[b]?)/\w.heap.size<=f.heap.size/\f.ou=w.ou)/\(w.heap.size<=l/\l<i/\i<C/\C<m)/\f.heap[l]?=some (.cells #[.int .i64 key] 3)/\f.heap[i]?=some (.cells #[.slice A n c] 32)/\o.size=2*Y/\f.heap[C]?=some (.cells o 216)/\f.heap[m]?=some (.cells #[.slice (some ⟨C,0,none⟩) Y Y] 205))
  (ali V) U rfl Z L s1 K λT S' f l i C m o z J E u Q P cp D cC M=>.stop λw1 ⟨d,e⟩=>by
   subst e;exact⟨T,l,i,C,m,o,rfl,z,J,E,⟨λb s=>u.keep b (H b s).1 (.inr s),u.size,u.os⟩,Q,P,cp,D,cC,M⟩
 have G:=bH.inv (Gr2:=GrB aW) (Inv:=alj aW) (age:=λ_ g f=>_) (λ_ _ _ h B=>h.rely B) (λ_ _ _ _ _ h g=>arq (λb s=>(H b s).2) h g) (λ_ _ _ h _=>h) W ⟨λ_ h=>h.elim,v⟩;obtain⟨N,j,a,f,p,r,x,S',B,z,ha,⟨T,l,i,C,m,o,rfl,E⟩,F,y⟩:=oI (sl:=sl) aaM I O hP G;exact⟨N,j,f,p,r,x,T,l,i,C,m,o,B,z,ha,F,y,E⟩
def GrE(_ _:aw)(w w':World)(es:Array Event):Prop:=es=#[]/\w.heap.size<=w'.heap.size
def afF{B0:Nat}:awH GrE (λK B t=>eh aW K B t/\∀op∈t,op.act.low B0) where
 own:=λ{K t S m w l i} f c ⟨b,hz⟩ ⟨hP,hl⟩=>by
  subst b;refine⟨hP.own hz λe h=>by simp at h,λop a=> ?_⟩;rcases uO.1 a with h|h
  .exact hl op h
  .obtain⟨e,b, -⟩:=li h;simp at b
 mute:=λ{K B t g i} f c j k d ⟨hP,hl⟩=>by
  refine⟨hP.mute j k d,seen_app hl λop a=> ?_⟩;obtain⟨e,b,rfl⟩:=li a;exact low_mute (d e b) B0
def aBc(C:gs[0]?=some (Gl (FQ cf T [.code (.region 2 mW false),.code fO]::xs) []))(v:45<=T.size)(F:Leavers prog t gs q)(x:eh aW (gs.size-1) w.heap.size t) :
  ∃(N:Nat) (b:Array Goroutine) (c:World) (d:Option (Nat×Nat)) (e:Trace) (s:Nat->Nat) (T':Array Value),runNT prog N (crowd gs w sl) t=(.next (crowd b c d),e)/\b.size=gs.size/\b[0]?=some (Gl (FQ cf T' [.code fO]::xs) [])/\Leavers prog e b s/\
   eh aW (gs.size-1) c.heap.size e/\(∀op∈e,op.act.low w.heap.size)/\T'.size=T.size/\T'.getD 9 undef=.pointer (some ⟨w.heap.size,0,none⟩)/\(∀t,t≠9->T'.getD t undef=T.getD t undef)/\c.heap=w.heap.push (wgBlock dY.tWg 0 0)/\c.ou=w.ou:=by
 obtain⟨R,Q,u⟩:=aAU;obtain⟨i,z,J,l,M⟩:=aub;have o:List.range mW.size=[0]:=rfl;have K:bH prog true RlB GrE (λ_ g c=>g=Gl (FQ cf (T.setIfInBounds 9 (.pointer (some ⟨w.heap.size,0,none⟩))) [.code fO]::xs) []/\c.heap=w.heap.push (wgBlock dY.tWg 0 0)/\c.ou=w.ou) (λ_=>False) (Gl (FQ cf T [.code (.region 2 mW false),.code fO]::xs) []) w:=by
  refine .step rfl λy ⟨d1,e1⟩=>⟨Gl (FQ cf T [.inRegion mW [0],.code fO]::xs) [],y,#[],λ_=>False,by simp[Gl,stepG,stepG.exec,o],⟨rfl,am _⟩, ?_⟩;refine .step rfl λj ⟨d2,e2⟩=> ?_;have f:=ana (m:=true) (fr:=FQ cf T [.inRegion mW [0],.code fO]) (xs:=xs) (base:=[]) (w:=j) rfl rfl rfl rfl u rfl (oK (w:=j) J l);rw[vM,M] at f;refine⟨_,_,#[],λ_=>False,f,⟨rfl,by rw[pa];omega⟩, ?_⟩;have k:j.heap.size=w.heap.size:=by rw[e2,e1];rfl
  have H:Frame.finish (FQ cf T [.inRegion mW [0],.code fO]) (.pointer (some ⟨j.heap.size,0,none⟩))=FQ cf (T.setIfInBounds 9 (.pointer (some ⟨w.heap.size,0,none⟩))) [.inRegion mW [],.code fO]:=by
   simp only[Frame.finish,u,qd,k]
  rw[H];refine .step rfl λB ⟨d3,e3⟩=>⟨Gl (FQ cf (T.setIfInBounds 9 (.pointer (some ⟨w.heap.size,0,none⟩))) [.code fO]::xs) [],B,#[],λ_=>False,by simp[Gl,stepG,stepG.exec],⟨rfl,am _⟩,.stop λO ⟨d4,e4⟩=>⟨rfl, ?_, ?_⟩⟩
  .rw[e4,e3,e2,e1];rfl
  .rw[e4,e3,e2,e1];rfl
 obtain⟨N,b,a,c,d,e,s,P,I,G,L,⟨rfl,E,A⟩,r,n,p⟩:=oI (sl:=sl) (afF (aW:=aW) (B0:=w.heap.size)) C F ⟨x,x.seen⟩ K;exact⟨N,b,c,d,e,s,_,I,G,L,r,n,p,by simp,by rw[aG (aE (by decide) v),dl rfl],λt D=>by rw[aG (aE (by decide) v),bd D],E,A⟩
end
def km{m m':Machine}{t a:Trace}{r:Stepped×Trace}(h:runNT P Y m t=(.next m',a))(b:runNT P R m' a=r):runNT P (Y+R) m t=r:=by
 rw[runNT_add,h];exact b
section
variable {X:Mx} {R:aw} {T:Array Value} {w:World} {xs bs:List Frame}
structure Mx.Pre (X:Mx) (T:Array Value):Prop where
 z:T.size=X.Z
 zz:45<=X.Z
 s2:T.getD 2 undef=.slice X.A2 X.n2 X.c2
 s3:T.getD 3 undef=.pointer (some ⟨X.bk,0,none⟩)
 s4:T.getD 4 undef=.pointer (some ⟨X.bp,0,none⟩)
 s8:T.getD 8 undef=.pointer (some ⟨X.ba,0,none⟩)
 s9:T.getD 9 undef=.pointer (some ⟨X.Wg,0,none⟩)
 sv:∀t,alf t=true->T.getD t undef=X.sv t
def ajj(a:X.Pre T):bH prog true (X.Rl R) (nN R) (λS g _=>(S=λ_=>False)/\∃c,X.Sl c 0/\g=Gl (FQ cf c (.code iN::kB)::xs) bs) (λ_=>False) (Gl (FQ cf T [.code fO]::xs) bs) w:=by
 have H:=X.lV R;unfold fO;refine dR H.cmp (dR H.cmp (fw H.cmp (l:=[0,1,2]) rfl λq o=>auc H a.zz a.z a.s2 λc k b e d f=>aey H.cmp (anc H.cmp λm n=>.stop λp j=>⟨rfl,c, ?_,rfl⟩))) w (H.fg _ _);refine⟨k,a.zz,(b 3 (by decide) (by decide) (by decide)).trans a.s3,(b 4 (by decide) (by decide) (by decide)).trans a.s4,(b 8 (by decide) (by decide) (by decide)).trans a.s8,(b 9 (by decide) (by decide) (by decide)).trans a.s9,e,d,f,λt i=>(b t ?_ ?_ ?_).trans (a.sv t i)⟩<;>(rintro rfl;cases i)
end
def afG{t:Trace}(h:∀op∈t,op.act.low a.block):NoRelease a t:=λi d=>by
 unfold Trace.act? at d;obtain⟨op,e,b⟩:=io.1 d;have c:=h op (pX e);rw[b] at c;exact sB _ c
section
variable {X:Mx} {R:aw} {gs:Array Goroutine} {w:World} {sl:Option (Nat×Nat)} {t:Trace} {q:Nat->Nat} {aW:aw} {T:Array Value} {xs:List Frame}
def aBd (C:X.Ok) (hF:dX Z) (K:∀a3 nm,Z a3 [] nm=(⟨#[]⟩,false)) (h0:gs[0]?=some (Gl (FQ cf T [.code fO]::xs) [])) (hs:X.Pre T)
  (hL:Leavers prog t gs q) (hP:eh aW (gs.size-1) w.heap.size t) (B:∀op∈t,op.act.low X.Wg) (eM:WgAt dY.tWg X.Wg w 0 0) (Y:PayAt X.C (2*X.n2) w) (j:X.At R w) (s:∀b,aW b->¬R b/\b≠X.C/\b<w.heap.size) :
  ∃(N:Nat) (n:Array Goroutine) (m:World) (al:Option (Nat×Nat)) (F:Trace) (q':Nat->Nat) (T':Array Value) (R':aw),runNT prog N (crowd gs w sl) t=(.next (crowd n m al),F)/\
   n[0]?=some (Gl (FQ cf T' [.code cF]::xs) [])/\Leavers prog F n q'/\eh (λb=>b=X.Wg\/aW b) (n.size-1) m.heap.size F/\X.Sl T' X.n2/\X.At R' m/\PayAt X.C (2*X.n2) m/\
   (∀f nm,X.di[f]?=some nm->Has X.C (2*f) (.string (Z X.key X.l nm).1) m/\Has X.C (2*f+1) (.bool (Z X.key X.l nm).2) m)/\(∀b,b=X.Wg\/aW b->b<m.heap.size):=by
 have lD:0<gs.size:=(de.1 h0).1
 let val:Nat->Value:=λi=>if i % 2=0 then .string (Z X.key X.l (X.di.getD (i / 2) 0)).1 else .bool (Z X.key X.l (X.di.getD (i / 2) 0)).2
 have o:∀f nm,X.di[f]?=some nm->val (2*f)=.string (Z X.key X.l nm).1/\val (2*f+1)=.bool (Z X.key X.l nm).2:=λf nm h=>by
  have e1:2*f % 2=0:=by omega
  have L:(2*f+1) % 2≠0:=by omega
  have e3:2*f / 2=f:=by omega
  have e4:(2*f+1) / 2=f:=by omega
  have e5:X.di.getD f 0=nm:=by rw[tc,h];rfl
  exact⟨by simp only[val,e1,e3,e5,mT],by simp only[val,bd L,e4,e5]⟩
 have hi:X.Inv R (λ_=>False) w:=⟨λb h=>h.elim,j,⟨_,_,eM⟩,λb _ h=>h⟩;have P:ta prog dY.tWg X.Wg X.C X.n2 val (ac5 X xs []) X.n2 R (Gl (FQ cf T [.code fO]::xs) []) w:=
  aeH (bH.weak (λ_ _ _ h=>h) (λ_ _ _ _ _ h=>h) (λS g w h=>by
   obtain⟨⟨rfl,r,p,rfl⟩,u⟩:=h;exact⟨rfl,ac6 C hF K o X.n2 0 R r w (by omega) u.at_ u.live p⟩) (Mx.lift (ajj hs) hi))
 have a0:Sets X.Wg X.C aW w R (λ_=>False) (λ_ _=>False) (λ_ _=>False):=
  ⟨j.rlt,λb h=>h.elim,λ_ b h=>h.elim,λ_ b h=>h.elim,λb _ h=>h,λ_ b h=>h.elim,λ_ b h=>h.elim,λ_ _ b h=>h.elim,j.ltW,j.ltC,C.cW,j.rW,λh=>h,λ_ h=>h,j.rC,λh=>h,λ_ h=>h,λb h=>(s b h).1,λ_ _ h=>h,λ_ _ _ h=>h,λh=>(s _ h).2.1 rfl,λb h=>(s b h).2.2⟩
 have av:=C.n2m;obtain⟨N,m',t1,O,U,z,a9,a,q1,v,S1,rfl,Q,ao,⟨r,p,a5⟩,W,J,an,M, -,a8⟩:=
  aiJ (sl:=sl) (K0:=gs.size-1) (Fin:=azc X xs []) (by omega) (λR S g w ⟨_,T,_,T2,e,_⟩=>by rw[e];rfl) (λR S g w h=>auk h) h0 (by omega) hL hP P eM Y
   (λi x hx a Q e=>aga (S:=λb=>b=X.Wg) B hx (λb G=>me G.symm) (by rw[Q];exact e)) (afG B) a0
 have hG:bH prog true RlB (λS S' w m es=>m=w/\es=#[]/\S'=S) (λ_ g w=>(g=Gl (FQ cf r [.code cF]::xs) []/\X.At v w)) (λ_=>False) a z:=by
  refine bH.bind (λ_ w=>atRel_refl w) (λ_ a b c h k=>atRel_trans a b c h k) (bH.abn (R:=RM dY.tWg X.Wg X.C X.n2 v S1) (Stop:=λS g w=>S=(λ_=>False)/\(g=Gl (FQ cf r (.inRegion jo []::[.code cF])::xs) []/\WgLive dY.tWg X.Wg w)/\X.At v w) (λw z ⟨d,e⟩=>e▸ji.at _ _ _ _ _) (λw m es h=>⟨h.1,h.2,rfl⟩) (λg w h=>⟨rfl,h⟩) a5) ?_;rintro S g w ⟨rfl,⟨rfl, -⟩,j⟩;exact .step rfl λD ⟨d2,L⟩=>⟨Gl (FQ cf r [.code cF]::xs) [],D,#[],λ_=>False,by simp[Gl,stepG,stepG.exec],⟨rfl,rfl,rfl⟩,.stop λw3 ⟨d3,e3⟩=>⟨rfl,by rw[e3,L];exact j.move (λ_ _=>rfl) (am _) rfl⟩⟩
 have aa:=bH.inv (Gr2:=GrB λb=>b=X.Wg\/aW b) (Inv:=λ_ w=>w.heap=z.heap) (age:=λS g w=>(g=Gl (FQ cf r [.code cF]::xs) []/\X.At v w)/\w.heap=z.heap) (λ_ _ _ h ⟨d,e⟩=>by rw[e];exact h) (λ_ _ _ _ _ h g=>by
  obtain⟨rfl,rfl,rfl⟩:=g;exact⟨⟨am _,λe h=>by simp at h⟩,h⟩) (λ_ _ _ h k=>⟨h,k⟩) hG rfl
 have V:U.size-1=gs.size-1+X.n2:=by omega
 obtain⟨N2,a4,a2,D,a7,t2,q2,S2,E,ad,a6,⟨⟨rfl,I⟩,H⟩,af,a1⟩:=oI (sl:=a9) (aaM (aW:=λb=>b=X.Wg\/aW b)) Q W (by rw[V];exact J) aa;refine⟨N+N2,a4,D,a7,t2,q2,r,v, ?_,a6,af,by rw[ad];exact a1,p,I, ?_,λf nm y=> ?_,λb G=> ?_⟩
 .exact km O E
 .obtain⟨cs,h1,h2⟩:=an;exact⟨cs,by rw[H];exact h1,h2⟩
 .obtain⟨v0,v1⟩:=o f nm y;have fV:f<X.n2:=by rw[<-C.nn];exact(jt.1 y).1
  obtain⟨g0,g1⟩:=M f fV;rw[v0] at g0;rw[v1] at g1;have l:∀A,D.cell? A=z.cell? A:=λA=>fF (by rw[H]);exact⟨(l _).trans g0,(l _).trans g1⟩
 .rw[H];exact(a8 b (G.elim .inr .inl)).2.2.2
end
def JW(t:Nat):Bool:=t ==3||t ==4||t ==5||t ==9||t ==10||t ==11||t ==13||t ==15||t ==16||(decide (18<=t)&&decide (t<=28))
def aul:jF JW cF=true:=by kernel_rfl
def azf:jF JW (f219.body.getD .skip)=false:=by kernel_rfl
def azg:jF JW (f112.body.getD .skip)=false:=by kernel_rfl
def axc :Frame.enter prog cf X .normal=FQ cf (T0F X) [.code abC]:=by
 have a:prog.funcs[cf]?=some f112:=func112;unfold Frame.enter;rw[a];rfl
def alk{t : Array Value}(_:X.size=t.size)(h:∀i,JW i=false->X[i]?=t[i]?):results f112 X=results f112 t:=by
 have e:∀i,JW i=false->X.getD i undef=t.getD i undef:=λi c=>by rw[gc,gc,h i c]
 have a:=e 6 rfl;have b:=e 7 rfl;simp only[gc] at a b;simp[results,results112,a,b]
section
variable {gs:Array Goroutine} {w:World} {sl:Option (Nat×Nat)} {t:Trace} {q:Nat->Nat} {aW:aw}
def ars (hF:dX Z) (af:∀v nm,Z v [] nm=(⟨#[]⟩,false)) {R:List Frame->World->Prop} {c:Cfg} {ρ:Ren} {a M:Array Value} {m m':List Frame}
  (bt:cQ ρ a M) (W:gZ (ah true) ρ m m') (hc:c.l=Frame.enter (ah true) cf a .normal::m) (hw:WR ρ c.w w) (hg:GlR ρ) (hW:jy (ah true) R c)
  (O:gs[0]?=some (Gl (Frame.enter prog cf M .normal::m') [])) (hL:Leavers prog t gs q) (hP:eh aW (gs.size-1) w.heap.size t) (Y:∀b,aW b->b<w.heap.size) (bT:∀b f,ρ.r b f->¬aW f) :
  ∃(N:Nat) (B:Array Goroutine) (E:World) (c5:Option (Nat×Nat)) (t':Trace) (q':Nat->Nat) (Wg:Nat) (J:Cfg) (x:Ren) (l1 lR:List Frame),runNT prog N (crowd gs w sl) t=(.next (crowd B E c5),t')/\
   B[0]?=some (Gl lR [])/\Leavers prog t' B q'/\eh (λb=>b=Wg\/aW b) (B.size-1) E.heap.size t'/\w.heap.size<=Wg/\(∀b,b=Wg\/aW b->b<E.heap.size)/\
   gQ (ah true) J c/\ρ.Le x/\gZ (ah true) x J.l l1/\WR x J.w E/\jy (ah true) R J/\(∀b f,x.r b f->ρ.r b f\/(w.heap.size<=f/\f≠Wg))/\Rt prog JW l1 lR/\(∀b,b<w.heap.size->¬aW b->E.heap[b]?=w.heap[b]?)/\E.ou=w.ou/\w.heap.size<=E.heap.size/\PkG ρ c.w w J.w E:=by
 obtain⟨v,A,n,cc,l,A2,n2,c2,di,J,j,ax,bn,a1,b0,a7⟩:=aox hF bt W hc hw hg hW;have S:45<=(T0F M).size:=by simp only[T0F,rA,rY];omega
 rw[axc] at O
 let V:aw:=λb=>b<w.heap.size/\¬aW b
 obtain⟨N1,c6,p,ba,t1,q1,T,bk,Q,C,P,cs,ay,aa,a8,b3,a3,U,r,⟨u3,u4,u6,u7,u8,bq⟩,⟨bO,a5,bx⟩,⟨lk,lp,lC,la⟩,ck,cp,b4,cC,ca⟩:=aBb (sl:=sl) (V:=V) O S j.n2m j.s0 j.s1 j.s2 hL hP Y λb d=>d;rw[<-aa] at a3;obtain⟨N2,c7,w2,c1,t2,q2,T',a9,c4,c3,bj,a6,bG,br,u9,bp,pA,bi⟩:=aBc (sl:=ba) a8 (by rw[U];exact S) b3 a3;rw[<-c4] at a6;have c0:=iO cC;have aM:=iO ca;have nP:∀b,b<p.heap.size->w2.heap[b]?=p.heap[b]?:=λb d=>by rw[pA,pY,bd (by omega)]
 have c8:w2.heap.size=p.heap.size+1:=by rw[pA,Array.size_push]
 let X:Mx:=⟨w,p.heap.size,C,n2,λb=>∃a,ρ.r a b,v,A,n,cc,l,A2,c2,di,bk,Q,P,λt=>T'.getD t undef,T'.size,V⟩
 have D:∀b,(∃a,ρ.r a b)->V b:=λb ⟨a,hab⟩=>⟨(hw.lt hab).2,bT a b hab⟩;have ok:X.Ok:=⟨hw.jc.2,λg bl=>⟨g,hg g bl⟩,j.k1,j.k2,j.ln,j.nc,j.cm,j.gl,j.rd,j.rg,(λa e O=>j.al a e (by have h1:=j.ln;have h2:=j.nc;have h3:0<l.length:=O;omega)),(λa e O=>j.al2 a e (by have h1:=j.n2c;have h2:0<n2:=O;omega)),j.nm,j.nn,j.n2m,(by show C≠p.heap.size;omega),D⟩
 let R0:aw:=λb=>V b\/b=bk\/b=Q\/b=P
 have bS:X.At R0 w2:=by
  refine⟨λb d=>(nP b (aE d.1 a5)).trans (bO b d), ?_,bi.trans bx,λb d=>.inl d,⟨.inr (.inl rfl),(nP bk (by omega)).trans ck⟩,⟨.inr (.inr (.inl rfl)),(nP Q (by omega)).trans cp⟩,⟨.inr (.inr (.inr rfl)),(nP P aM).trans ca⟩,λb d=> ?_,λd=> ?_,λd=> ?_, ?_, ?_⟩
  .show w.heap.size<=w2.heap.size;omega
  .rcases d with d|rfl|rfl|rfl
   .have:=d.1;omega
   all_goals omega
  .rcases d with d|d|d|d
   .have:C<w.heap.size:=d.1;omega
   .have:C=bk:=d;omega
   .have:C=Q:=d;omega
   .have:C=P:=d;omega
  .rcases d with d|d|d|d
   .have:p.heap.size<w.heap.size:=d.1;omega
   .have:p.heap.size=bk:=d;omega
   .have:p.heap.size=Q:=d;omega
   .have:p.heap.size=P:=d;omega
  .show C<_;omega
  .show p.heap.size<_;omega
 have s:∀t,t≠9->T'.getD t undef=T.getD t undef:=bp;have bR:X.Pre T':=⟨rfl,by show 45<=T'.size;omega,(s 2 (by decide)).trans ((r 2 (.inl (by decide))).trans j.s2),(s 3 (by decide)).trans u3,(s 4 (by decide)).trans u4,(s 8 (by decide)).trans u8,u9,λt ht=>rfl⟩;obtain⟨N3,b5,w3,ad,t3,q3,H,R3,b9,aT,av,bo,G,k,⟨L,K,bb⟩,a4,b8⟩:=aBd (X:=X) (sl:=c1) ok hF af c3 bR bj a6 bG
  (by show w2.heap[p.heap.size]?=_;rw[pA,qn]) ⟨cs,(nP C c0).trans cC,b4⟩ bS λb d=>by
   have c9:=Y b d;refine⟨λh=> ?_,(by show b≠C;omega),by omega⟩;rcases h with h|h|h|h
   .exact h.2 d
   all_goals omega
 have a0:w.heap.size<=w3.heap.size:=k.sz;have aH:∀F nm,di[F]?=some nm->L[2*F]?=some (.string (Z v l nm).1)/\L[2*F+1]?=some (.bool (Z v l nm).2):=λF nm h=>
  ⟨ai1 (A:=⟨C,2*F,none⟩) (z:=(0,0)) (t:=216) K (a4 F nm h).1,ai1 (A:=⟨C,2*F+1,none⟩) (z:=(0,0)) (t:=216) K (a4 F nm h).2⟩
 obtain⟨b2,T2,bg,ao,bD,b7,aD,I,t6,t7,t8,b1,bw⟩:=a7 w3 C P L (λb f d=>k.keep f (D f ⟨b,d⟩)) k.os a0 (by omega) (by omega) (by omega) K bb aH k.ra.2;obtain⟨_,_,y,ys,e1,aR⟩:=W.ne';have al:H.size=(T0F M).size:=G.z.trans (br.trans U);have bZ:∀i,i<(T0F M).size->H.getD i undef=T2.getD i undef->H[i]?=T2[i]?:=λi hi h=>by
  rw[uH (by omega),uH (by omega),h]
 refine⟨N1+(N2+N3),b5,w3,ad,t3,q3,p.heap.size,J,b2,FQ cf T2 [.code cF]::m',FQ cf H [.code cF]::m',km ay (km a9 b9),aT,av,bo,a5,b8,ax,bg,ao,bD,bn,λb f d=> ?_, ?_,λb d hn=>k.keep b ⟨d,hn⟩,k.os,a0,⟨λb f d a2=>⟨(a1 b f d a2).1,λi u hu bL=>⟨(a1 b f d a2).2 i u hu bL,iD (k.keep f (D f ⟨b,d⟩))⟩⟩,λb f d bX bf=>⟨b0 b f d bX bf,k.keep f (D f ⟨b,d⟩)⟩⟩⟩
 .rcases b7 b f d with h|rfl|rfl
  .exact .inl h
  .exact .inr ⟨by omega,by omega⟩
  .exact .inr ⟨by omega,by omega⟩
 .refine .inr ⟨FQ cf T2 [.code cF],FQ cf H [.code cF],m',rfl,rfl,by rw[aR];simp,⟨rfl,rfl,⟨rfl,rfl⟩,rfl,⟨rfl,rfl⟩,⟨rfl,rfl⟩,al.trans aD.symm,λi hi=> ?_, ?_⟩,_,func112,λt t' hz h=>alk hz h⟩
  .refine(nf i (T0F M).size).elim (λaO=> ?_) λfT=> ?_
   case refine_2=> 
    show H[i]?=T2[i]?;rw[pH (by omega),pH (by omega)]
   have an:i=0\/i=1\/i=2\/i=6\/i=7\/i=8\/i=17\/aal i=true:=by
    simp only[JW,vz,kw,vi,decide_eq_false_iff_not] at hi;simp only[aal,qs,mx,qq];omega
   refine bZ i aO ?_;have o:∀t,alf t=true->H.getD t undef=T'.getD t undef:=G.sv;rcases an with rfl|rfl|rfl|rfl|rfl|rfl|rfl|hid
   .rw[o 0 rfl,s 0 (by decide),r 0 (.inl (by decide)),I 0 (by decide)]
   .rw[o 1 rfl,s 1 (by decide),r 1 (.inl (by decide)),I 1 (by decide)]
   .rw[o 2 rfl,s 2 (by decide),r 2 (.inl (by decide)),I 2 (by decide)]
   .rw[o 6 rfl,s 6 (by decide),u6,t6]
   .rw[o 7 rfl,s 7 (by decide),u7,t7]
   .rw[G.s8,t8]
   .rw[o 17 rfl,s 17 (by decide),bq,b1]
   .have b6:alf i=true:=by simp only[alf,hid,Bool.or_true]
    rw[o i b6,s i (by rintro rfl;cases hid),r i (.inr hid),bw i hid]
  .simp only[pQ,uM,tS,kT];exact aul
end
structure anp (R:List Frame->World->Prop) (W:World) (S0:aw) (aW:aw) (ρ:Ren) (c:Cfg) (w:World):Prop where
 wr:WR ρ c.w w
 gl:GlR ρ
 will:jy (ah true) R c
 rng:∀b b',ρ.r b b'->S0 b'\/(W.heap.size<=b'/\¬aW b')
 sh:∀b,aW b->W.heap.size<=b/\b<w.heap.size
 s0:∀b,S0 b->b<W.heap.size
 keep:∀b,b<W.heap.size->¬S0 b->w.heap[b]?=W.heap[b]?
 os:w.ou=W.ou
 sz:W.heap.size<=w.heap.size
structure alm (W:World) (S0 aW S:aw) (w:World):Prop where
 s:∀b,S b->S0 b\/(W.heap.size<=b/\¬aW b)
 sh:∀b,aW b->b<w.heap.size
 keep:∀b,b<W.heap.size->¬S0 b->w.heap[b]?=W.heap[b]?
 os:w.ou=W.ou
 sz:W.heap.size<=w.heap.size
section
variable {W:World} {S0 aW S S':aw} {w w':World} {es:Array Event}
def alm.rely(h:alm W S0 aW S w)(a:RlB S w w'):alm W S0 aW S w':=by
 obtain⟨d,rfl⟩:=a;exact⟨h.s,h.sh,h.keep,h.os,h.sz⟩
def alm.step(f:∀b,S0 b->b<W.heap.size)(i:∀b,aW b->W.heap.size<=b)(h:alm W S0 aW S w)(g:nN (λ_=>False) S S' w w' es):GrB aW S S' w w' es/\alm W S0 aW S' w':=by
 have k:alj aW S w:=⟨λb a c=>(h.s b a).elim (λx=>by have:=f b x;have:=i b c;omega) λx=>x.2 c,h.sh⟩;obtain⟨m,e⟩:=arq (λ_ h=>h.elim) k g;obtain⟨j,l,n,rfl,o⟩:=g;refine⟨m,λb a=> ?_,e.2,λb a d=> ?_,n.trans h.os,ap h.sz l⟩
 .rcases a with a|a
  .exact h.s b a
  .exact .inr ⟨ap h.sz a.1,λc=>by have:=h.sh b c;omega⟩
 .rw[j b (aE a h.sz) λc=> ?_]
  .exact h.keep b a d
  .rcases h.s b c with x|x
   .exact d x
   .omega
end
theorem aru{fv:Int->List gz->Int->ByteArray×Bool}(hF:dX fv)(hF0:∀key nm,fv key [] nm=(⟨#[]⟩,false)){R:List Frame->World->Prop}{W:World}{S0:aw}{c:Cfg}(akT:Acc (gQ (ah true)) c) :
  ∀{ρ:Ren} {aW:aw} {l' lR:List Frame} {w:World} {gs:Array Goroutine} {sl:Option (Nat×Nat)} {t:Trace} {q:Nat->Nat},anp R W S0 aW ρ c w->gZ (ah true) ρ c.l l'->Rt prog JW l' lR->gs[0]?=some (Gl lR [])->Leavers prog t gs q->eh aW (gs.size-1) w.heap.size t->
   ∃(N:Nat) (gs':Array Goroutine) (w':World) (sl':Option (Nat×Nat)) (t':Trace) (q':Nat->Nat) (azk:aw) (c1:Cfg) (ρ1:Ren) (l1:List Frame),runNT prog N (crowd gs w sl) t=(.next (crowd gs' w' sl'),t')/\
    gs'[0]?=some (Gl l1 [])/\Leavers prog t' gs' q'/\eh azk (gs'.size-1) w'.heap.size t'/\anp R W S0 azk ρ1 c1 w'/\nE c1.l/\gZ (ah true) ρ1 c1.l l1/\ρ.Le ρ1/\PkG ρ c.w w c1.w w':=by
 induction akT with
 |intro c _ ih=>
  intro ρ aW l' lR w gs sl t q h hst hR h0 hL hP;have akT:Acc (gQ (ah true)) c:=h.will.acc.transGen;have Hb:=ali (λ_=>False);have awZ:aiL (ah true) R (λ_=>False) (λb=>S0 b\/(W.heap.size<=b/\¬aW b)) ρ c l' w:=⟨hst,h.wr,h.gl,h.will,λb b' hb=>.inl (h.rng b b' hb)⟩;have aq3:=aiN (kR true) (avv true) Hb.fg Hb.tr Hb.rl Hb.cmp.gr (avK azf azg) (agb Hb.cmp) (main:=true) (base:=[]) akT awZ hR;have hG:=bH.inv (Gr2:=GrB aW) (Inv:=alm W S0 aW) (λ_ _ _ a b=>a.rely b) (λ_ _ _ _ _ a b=>a.step h.s0 (λb hb=>(h.sh b hb).1) b) (λ_ _ _ a b=>And.intro a b) aq3 ⟨λb hb=>hb,λb hb=>(h.sh b hb).2,h.keep,h.os,h.sz⟩;obtain⟨N,gs1,a1,w1,sl1,t1,q1,S1,hr1,hz1,ha1,⟨⟨c1,ρ1,l1,hor,hle, -,rfl,aT,hg1,hW1,nJ,aum,hend⟩,lL⟩,hL1,hP1⟩:=oI (sl:=sl) aaM h0 hL hP hG;rw[<-hz1] at hP1;have ahq:∀b b',ρ1.r b b'->S0 b'\/(W.heap.size<=b'/\¬aW b'):=λb b' hb=>(nJ b b' hb).elim (lL.s b') λx=>x.1.elim;rcases hend with⟨hf,aoP⟩|⟨a,a',m,m',hva,aBm,hc1,hl1⟩
  .exact⟨N,gs1,w1,sl1,t1,q1,aW,c1,ρ1,l1,hr1,ha1,hL1,hP1,⟨aT,hg1,hW1,ahq,λb hb=>⟨(h.sh b hb).1,lL.sh b hb⟩,h.s0,lL.keep,lL.os,lL.sz⟩,hf,aoP,hle,aum⟩
  .rw[hl1] at ha1;have hns:∀b b',ρ1.r b b'->¬aW b':=λb b' hb hs=>(ahq b b' hb).elim (λx=>by have:=h.s0 _ x;have:=(h.sh _ hs).1;omega) λx=>x.2 hs;obtain⟨N2,gs2,w2,sl2,t2,q2,Wg,c2,ρ2,l2,lR2,hr2,ha2,hL2,hP2,hWg,aBn,avR,ahA,aln,hw2,hW2,azl,hR2,hk2,ho2,hz2,arv⟩:=ars (sl:=sl1) hF hF0 hva aBm hc1 aT hg1 hW1 ha1 hL1 hP1 lL.sh hns;have aqN:gQ (ah true) c2 c:=by
    rcases hor with e|e
    .rw[<-e];exact avR
    .exact sq avR e
   have hS2:anp R W S0 (λb=>b=Wg\/aW b) ρ2 c2 w2:=by
    refine⟨hw2,hg1.mono ahA,hW2,λb b' hb=> ?_,λb hb=>⟨?_,aBn b hb⟩,h.s0,λb hb hn=> ?_,ho2.trans lL.os,ap lL.sz hz2⟩
    .rcases azl b b' hb with hb|⟨h1,h2⟩
     .rcases ahq b b' hb with x|⟨x,y⟩
      .exact .inl x
      .refine .inr ⟨x,λe=>e.elim (λe=> ?_) y⟩;have:=(aT.lt hb).2;omega
     .exact .inr ⟨ap lL.sz h1,λe=>e.elim h2 λhs=>by have:=lL.sh _ hs;omega⟩
    .rcases hb with rfl|hb
     .exact ap lL.sz hWg
     .exact(h.sh b hb).1
    .rw[hk2 b (aE hb lL.sz) λhs=>by have:=(h.sh b hs).1;omega];exact lL.keep b hb hn
   obtain⟨N3,gs3,w3,sl3,t3,q3,aBo,c3,ρ3,l3,hr3,ha3,hL3,hP3,hS3,hf3,axe,aBp,aBq⟩:=ih c2 aqN hS2 aln hR2 ha2 hL2 hP2;exact⟨N+(N2+N3),gs3,w3,sl3,t3,q3,aBo,c3,ρ3,l3,km hr1 (km hr2 hr3),ha3,hL3,hP3,hS3,hf3,axe,(hle.trans ahA).trans aBp,aum.trans hle (arv.trans ahA aBq)⟩
end
section
open Go.Conc Go.ConcN Go.RowKit
open Go.ConcR (DC0)
mutual
inductive ClV (V:Nat->Prop):Value->Prop
 |bool (b:Bool):ClV V (.bool b)
 |int (k:IntKind) (n:Int):ClV V (.int k n)
 |string (s:ByteArray):ClV V (.string s)
 |nilPtr:ClV V (.pointer none)
 |pointer {a:Addr} (h:V a.block):ClV V (.pointer (some a))
 |abE (l c:Nat):ClV V (.slice none l c)
 |slice {a:Addr} (h:V a.block) (l c:Nat):ClV V (.slice (some a) l c)
 |nilFunc:ClV V .nilFunc
 |iface (t:TypeId) {v:Value} (h:ClV V v):ClV V (.iface t v)
 |nilIface:ClV V .nilIface
 |agg {c:Array Value} (h:lW V c.toList):ClV V (.agg c)
inductive lW (V:Nat->Prop):List Value->Prop
 |nil:lW V []
 |cons {v:Value} {l:List Value} (h:ClV V v) (hl:lW V l):lW V (v::l)
end
mutual
def ClV.mono{V U:Nat->Prop}(h:∀b,V b->U b):∀{v:Value},ClV V v->ClV U v
 |_,.bool b=>.bool b
 |_,.int k n=>.int k n
 |_,.string s=>.string s
 |_,.nilPtr=>.nilPtr
 |_,.pointer h'=>.pointer (h _ h')
 |_,.abE l c=>.abE l c
 |_,.slice h' l c=>.slice (h _ h') l c
 |_,.nilFunc=>.nilFunc
 |_,.iface t h'=>.iface t (ClV.mono h h')
 |_,.nilIface=>.nilIface
 |_,.agg h'=>.agg (lW.mono h h')
def lW.mono{V U:Nat->Prop}(h:∀b,V b->U b):∀{l:List Value},lW V l->lW U l
 |_,.nil=>.nil
 |_,.cons h1 h2=>.cons (ClV.mono h h1) (lW.mono h h2)
end
def lW.of{V:Nat->Prop}:∀{l:List Value},(∀v∈l,ClV V v)->lW V l
 |[],_=>.nil
 |v::l,h=>.cons (h v (qA ..)) (lW.of λx a=>h x (qk _ a))
section
variable {V:Nat->Prop} {ρ:Ren} (hV:∀b,V b->ρ.r b b)
include hV
theorem anq(h:V a.block):AR ρ a a:=by
 obtain⟨b,o,s⟩:=a;exact .mk (hV _ h) o s
mutual
theorem ClV.self:∀{v:Value},ClV V v->VR ρ v v
 |_,.bool b=>.bool b
 |_,.int k n=>.int k n
 |_,.string s=>.string s
 |_,.nilPtr=>.pointer .none
 |_,.pointer h=>.pointer (.some (anq hV h))
 |_,.abE l c=>.slice .none l c
 |_,.slice h l c=>.slice (.some (anq hV h)) l c
 |_,.nilFunc=>.nilFunc
 |_,.iface t h=>.iface t (ClV.self h)
 |_,.nilIface=>.nilIface
 |_,.agg h=>.agg (lW.self h)
theorem lW.self:∀{l:List Value},lW V l->bN ρ l l
 |_,.nil=>.nil
 |_,.cons h1 h2=>.cons (ClV.self h1) (lW.self h2)
end
end
def eh.past{B : Nat}{t:Trace}(h:eh aW Y B t):Past (ShL aW) B t:=by
 refine⟨h.clean,λi a j _=> ?_,h.over,h.hears,h.seen⟩;obtain⟨op,c,b⟩:=touch_of j;by_cases d:ShL aW a.loc
 .obtain⟨k,f⟩:=h.quiet i op a c b d;cases e:a.kind with
  |plain=>exact absurd e k
  |atomic=>exact .inr ⟨d,rfl⟩
  |said=>
   have g:=f e;have:=knows_own (t:=t) c;rw[g] at this;exact .inl this
 .exact .inl (h.known i op a c b d)
def ahB(W:World)(v:Value)(w':World):Prop:=v=.bool true/\Below W.heap.size W {w' with tape:=W.tape}
def plX(V:Nat->Prop):Value->Prop
 |.int k _=>k ≠ .u8
 |.string _=>True
 |.slice none _ _=>True
 |.slice (some a) l c=>V a.block\/(l=0/\c=0)
 |_=>False
def LX(g0:Nat)(u v:Value):Prop:=u=v\/∃a,v=.slice (some a) 0 0/\u=.slice (some ⟨g0,0,none⟩) 0 0
structure abF (W:World) (V:aw) (g0:Nat) (WL:World):Prop where
 size:WL.heap.size=W.heap.size
 row:∀b,V b->∃(c c':Array Value) (t:TypeId) (z z':Nat×Nat),W.heap[b]?=some (.cells c t z)/\WL.heap[b]?=some (.cells c' t z')/\c'.size=c.size
 cell:∀A v,W.cell? A=some v->V A.block->plX V v->∃u,WL.cell? A=some u/\LX g0 u v
def azm{V:Nat->Prop}(hV:∀b,V b->dx w b)(W:∀g∈gL,V g)(hN:gN<=w.heap.size)(U:g0∈gL)(M:g0<gN) :
  ∃C:World,WR (Ren.rows V true (fN w)) C w/\C.ou=w.ou/\abF w V g0 C/\(∀b,V b->bB C b/\NoB C b):=by
 classical
 have m:∀b,V b->∃(c:Array Value) (t:TypeId) (z:Nat×Nat) (d:List Value),w.heap[b]?=some (.cells c t z)/\bN (Ren.rows V true (fN w)) d c.toList/\∀(i:Nat) v,c.toList[i]?=some v->∃u,d[i]?=some u/\((∀k,u ≠ .int .u8 k)/\(plX V v->LX g0 u v)):=λb f=>by
  obtain⟨c,t,z,B⟩:=hV b f;obtain⟨d,D,H⟩:=ak5 (ρ:=Ren.rows V true (fN w)) (Q:=λ_ u v=>(∀k,u ≠ .int .u8 k)/\(plX V v->LX g0 u v)) c.toList 0 λi v O=>by
   by_cases y:plX V v
   .cases v with
    |int k n=>exact⟨_,.int k n,(λk' e=>by cases e;exact y rfl),λ_=>.inl rfl⟩
    |string s=>exact⟨_,.string s,(λk e=>by cases e),λ_=>.inl rfl⟩
    |slice a l c=>cases a with
     |none=>exact⟨_,.slice .none l c,(λk e=>by cases e),λ_=>.inl rfl⟩
     |some a=>
      rcases y with y|⟨rfl,rfl⟩
      .obtain⟨b,o,s⟩:=a;have N:(Ren.rows V true (fN w)).r b b:=⟨rfl,y⟩;exact⟨_,.slice (.some (.mk N o s)) l c,(λk e=>by cases e),λ_=>.inl rfl⟩
      .have N:(Ren.rows V true (fN w)).r g0 g0:=⟨rfl,W g0 U⟩;exact⟨_,.empty (a:=⟨g0,0,none⟩) N M a,(λk e=>by cases e),λ_=>.inr ⟨a,rfl,rfl⟩⟩
    |_=>exact y.elim
   .obtain⟨u,D,H, -⟩:=awW (ρ:=Ren.rows V true (fN w)) rfl v λx hx=>ai0 (agd B (i:=i) (by rw[<-ef];exact O) hx);exact⟨u,D,H,λh=>absurd h y⟩
  exact⟨c,t,z,d,B,D,H⟩
 let F:∀b,V b->Obj:=λb f=>.cells ⟨(m b f).choose_spec.choose_spec.choose_spec.choose⟩ (m b f).choose_spec.choose (0,max ((m b f).choose.size+1) (m b f).choose_spec.choose_spec.choose.2)
 have Z:∀b (f:V b),∃(c:Array Value) (t:TypeId) (z:Nat×Nat) (d:List Value),w.heap[b]?=some (.cells c t z)/\bN (Ren.rows V true (fN w)) d c.toList/\(∀(i:Nat) v,c.toList[i]?=some v->∃u,d[i]?=some u/\((∀k,u ≠ .int .u8 k)/\(plX V v->LX g0 u v)))/\F b f=.cells ⟨d⟩ t (0,max (c.size+1) z.2):=λb f=>
  let h:=(m b f).choose_spec.choose_spec.choose_spec.choose_spec
  ⟨_,_,_,_,h.1,h.2.1,h.2.2,rfl⟩
 obtain⟨heap,hs,D,H⟩:=avJ w F;have I:∀b,V b->∃(c:Array Value) (t:TypeId) (z:Nat×Nat) (d:List Value),w.heap[b]?=some (.cells c t z)/\heap[b]?=some (.cells ⟨d⟩ t (0,max (c.size+1) z.2))/\bN (Ren.rows V true (fN w)) d c.toList/\∀(i:Nat) v,c.toList[i]?=some v->∃u,d[i]?=some u/\((∀k,u ≠ .int .u8 k)/\(plX V v->LX g0 u v)):=λb f=>by
  obtain⟨c,t,z,d,q,p,r,G⟩:=Z b f;exact⟨c,t,z,d,q,(D b f (de.1 q).1).trans (fa some G),p,r⟩
 refine⟨{w with heap},⟨λ{b b'} f=> ?_,rfl,by show gN<=heap.size;omega,hN⟩,rfl,⟨hs,λb f=> ?_,λA v B Y y=> ?_⟩,λb f=> ?_⟩
 .obtain⟨rfl,f⟩:=f;obtain⟨c,t,z,d,q,p,r, -⟩:=I b f;have j:=r.length;refine⟨_,_,p,q,.cells r t (.inr ⟨rfl,rfl, ?_,.inr ?_⟩)⟩
  .show d.length<max _ _;simp at j;omega
  .show z.2<=max _ _;omega
 .obtain⟨c,t,z,d,q,p,r, -⟩:=I b f;exact⟨c,⟨d⟩,t,z,_,q,p,by have:=r.length;simpa using this⟩
 .obtain⟨c,t,z,d,q,p,r,G⟩:=I A.block Y;have J:({w with heap}:World).heap[A.block]?=some (.cells ⟨d⟩ t (0,max (c.size+1) z.2)):=p;unfold World.cell? at B ⊢;rw[J];rw[q] at B;cases E:A.spot with
  |some s=>simp[E] at B
  |none=>
   simp[E] at B ⊢;obtain⟨u,L, -,P⟩:=G A.off v (by rw[ef];exact B);exact⟨u,L,P y⟩
 .obtain⟨c,t,z,d,q,p,r,G⟩:=I b f;have j:=r.length;simp at j;refine⟨⟨_,_,_,p,rfl, ?_, ?_⟩,λS T X K i k e=> ?_⟩
  .show d.length<=max _ _;omega
  .show 0<max _ _;omega
  .have:heap[b]?=some (.cells S T X):=K;rw[p] at this;cases this;have O:i<c.toList.length:=by
    have:=(de.1 e).1;simp at this ⊢;omega
   obtain⟨u,L,P, -⟩:=G i _ (jn O);have R:d[i]?=some (.int .u8 k):=by simpa using e
   rw[L] at R;exact P k (dj R)
theorem aoQ {fv:Int->List gz->Int->ByteArray×Bool} (hF:dX fv) (hF0:∀key nm,fv key [] nm=(⟨#[]⟩,false)) {W:World} {S0:aw} {f:FuncId} {fn:Func} {k:Tmp} {args:Array Value} {g0:Nat} (h0:g0∈gL) (h0N:g0<gN)
  (hrow:∀b,S0 b->dx W b) (hgl:∀g∈gL,S0 g) (hgN:gN<=W.heap.size) (aaf:lW S0 args.toList)
  (hf:gH f=false) (hfn:prog.funcs[f]?=some fn) (hq:(ah true).funcs[f]?=some fn) (hres:fn.results=#[.tmp k]) (hni:prog.inits.idxOf? f=none)
  (dt:∀WL:World,abF W S0 g0 WL->∀t:Tape,Calls (ah true) f args (WL.tap t) λe w'=>∃v,e=.returned v/\v=.bool true) :
  ∃N last o w' t',runNT prog (N+1) (solo (G (Frame.enter prog f args .normal) []) W) #[]=(.ended o w',t')/\runN prog N (solo (G (Frame.enter prog f args .normal) []) W)=.next last/\step prog last=.ended o w'/\Go.Conc.Good prog (ahB W) last o w' t':=by
 obtain⟨WL,hwr,hou,azn,azo⟩:=azm hrow hgl hgN h0 h0N;have hid:∀b,S0 b->(Ren.rows S0 true (fN W)).r b b:=λb hb=>⟨rfl,hb⟩;have hs0:∀b,S0 b->b<W.heap.size:=λb hb=>let⟨_,_,_,h⟩:=hrow b hb;iO h
 have hW:jy (ah true) (λl w'=>∃fr v,l=[fr]/\fr.fn=f/\fr.leaving (ah true) w' (.returned v)/\v=.bool true) ⟨[Frame.enter (ah true) f args .normal],WL,λ_ _=>0⟩:=
  aah (Post:=λv _=>v=.bool true) λt _=>dt WL azn t
 have hst:gZ (ah true) (Ren.rows S0 true (fN W)) [Frame.enter (ah true) f args .normal] [Frame.enter prog f args .normal]:=.one (aha (kR true) hf (lW.self hid aaf)) ac3;have hS:anp _ W S0 (λ_=>False) (Ren.rows S0 true (fN W)) ⟨[Frame.enter (ah true) f args .normal],WL,λ_ _=>0⟩ W:=⟨hwr,λg hg=>hid g (hgl g hg),hW,λb b' hb=>.inl (hb.1▸hb.2),λ_ h=>h.elim,hs0,λ_ _ _=>rfl,rfl,am _⟩;obtain⟨N1,gs1,w1,sl1,t1,q1,aW,c1,ρ1,l1,hr1,ha1,hL1,hP1,hS1,hf1,aoP,aCd,aum⟩:=aru hF hF0 hW.acc.transGen (gs:=#[G (Frame.enter prog f args .normal) []]) (sl:=none) (t:=#[]) (q:=λ_=>0) hS hst (.inl rfl) rfl (leavers_one _ _) (eh.nil _);obtain⟨fr,v,hl,ly,hlv,hv⟩:=hS1.will.fin hf1 acn c1.t λ_ _ _=>rfl;obtain⟨x,xs,y,ys, -,hy⟩:=aoP.ne';have e4:=aoP.lone hl hy;subst e4 hy;rw[hl] at aoP;have azp:=aoP.head;obtain⟨-, -, -,fn1,att,hrv⟩:=hlv;rw[ly,hq] at att;cases att;have hv1:v=fr.tmps.getD k undef:=by
  have e:(results fn fr.tmps).run (ah true) (c1.w.tap c1.t)=.ok (fr.tmps.getD k undef) (c1.w.tap c1.t):=by simp[results,hres]
  rw[e] at hrv;cases hrv;rfl
 have hy1:y.tmps.getD k undef=.bool true:=by
  rw[hv] at hv1;have hk:fr.tmps[k]?=some (.bool true):=by
   rw[gc] at hv1;cases h:fr.tmps[k]? with
   |none=>rw[h] at hv1;cases hv1
   |some u=>rw[h] at hv1;exact fa some hv1.symm
  obtain⟨u,hu,hr⟩:=bN.get azp.tmps (i:=k) (v:=.bool true) (by rw[ef];exact hk);rw[ef] at hu;rw[anh hu];cases hr;rfl
 have azq:∀w1:World,stepG prog true (Gl [y] []) w1=.ended (.done (.bool true)) w1 (seen prog y.fn #[]):=λw1=>by
  have hr:(results fn y.tmps).runT prog w1 #[]=(.ok (.bool true) w1,#[]):=by
   have e:(results fn y.tmps).runT prog w1 #[]=(.ok (y.tmps.getD k undef) w1,#[]):=by simp[results,hres]
   rw[e,hy1]
  obtain⟨g0,hg0,gm,gd,gk⟩:=hf1;rw[hl] at hg0;cases hg0;obtain⟨f',tm',eU,d',md',kd',r'⟩:=y;obtain⟨f0,tm0,aB1,d0,md0,kd0,r0⟩:=fr;obtain⟨h1,h2,h3,h4,h5,h6,h7⟩:=azp;dsimp only at h1 h2 h3 h4 h5 h6 h7 gm gd gk ly hr;subst h1 gm gd gk ly;obtain rfl:md'=.returning:=by
   rcases h5 with h5|h5
   .cases h5.1
   .exact h5.2
  obtain⟨-,rfl⟩:=h6;obtain rfl:d'=[]:=by cases h4;rfl
  have e:doReturn prog true ⟨f0,tm',eU,[],.returning,.normal,r'⟩ [] none (.bool true) w1=.ended (.done (.bool true)) w1:=by
   unfold doReturn;dsimp only;rw[hni];rfl
  simp only[Gl,stepG,unwind,hfn,hr,qY,e];simp[GStep.after]
 have hblk:∀b,b<W.heap.size->w1.heap[b]?=W.heap[b]?:=λb hbl=>by
  by_cases h0:S0 b
  .exact(aum.2 b b (hid b h0) (azo b h0).1 (azo b h0).2).2
  .exact hS1.keep b hbl h0
 have hend:∀w2,Go.Conc.AtRel w1 w2->AtEnd prog (ShL aW) w1.heap.size (ahB W) (Gl [y] []) w2:=λw2 ⟨d,e⟩=>by
  subst e;exact⟨rfl,_,_,azq _,λe he=>(abA e he).elim,rfl,axT hS1.os,rfl,awb hS1.os,hS1.sz,hblk⟩
 obtain⟨N2,last,o,w2,t2,hr2,hn2,hs2,hg2⟩:=beside_ends (D:=DC0) (Shun:=ShL aW) (B:=w1.heap.size) (Post:=ahB W) (sl:=sl1) (n:=0) (λw w' es h e he=>by rw[h.2] at he;simp at he) ha1 hL1 hP1.past (pW hend);refine⟨N1+N2,last,o,w2,t2, ?_, ?_,hs2,hg2⟩
 .rw[tP,runNT_add,show runNT prog N1 (solo (G (Frame.enter prog f args .normal) []) W) #[]=_ from hr1];exact hr2
 .have hn1:runN prog N1 (solo (G (Frame.enter prog f args .normal) []) W)=.next (crowd gs1 w1 sl1):=by
   rw[<-runNT_fst _ _ _ #[],show runNT prog N1 (solo (G (Frame.enter prog f args .normal) []) W) #[]=_ from hr1]
  rw[runN_add,hn1];exact hn2
end
section
open Go Go.RowKit Go.ChangeShapes Go.WideShapes Go.ChangeAt Go.Deep
def LXs(g0:Nat)(es' es:List Value):Prop:=es'.length=es.length/\∀(j:Nat) u v,es'[j]?=some u->es[j]?=some v->LX g0 u v
def adV{a:List Value}{v:Value}(h:LXs g0 a [v]):∃u,a=[u]/\LX g0 u v:=by
 obtain⟨b,c⟩:=h
 match a,b with
 |[u],_=>exact⟨u,rfl,c 0 u v rfl rfl⟩
def LXs.take{a b:List Value}(h:LXs g0 a b)(n:Nat):LXs g0 (a.take n) (b.take n):=by
 refine⟨by rw[lc,lc,h.1],λj u v c d=> ?_⟩;rw[qB] at c d;split at c
 .rename_i e;rw[dl e] at d;exact h.2 j u v c d
 .cases c
def LXs.drop{a b:List Value}(h:LXs g0 a b)(n:Nat):LXs g0 (a.drop n) (b.drop n):=by
 refine⟨by rw[pU,pU,h.1],λj u v d c=> ?_⟩;rw[ur] at d c;exact h.2 _ u v d c
def arw{g0:Nat}{WL:World}:∀{es:List Value} {a:Addr} {i:Nat},(∀(j:Nat) v,es[j]?=some v->∃u,WL.cell? (a.add (i+j))=some u/\LX g0 u v)->∃c:List Value,LXs g0 c es/\∀(j:Nat) u,c[j]?=some u->WL.cell? (a.add (i+j))=some u
 |[],_,_,_=>⟨[],⟨rfl,λj u v e=>by simp at e⟩,λj u e=>by simp at e⟩
 |v::es,a,i,h=>by
  obtain⟨u,l,f⟩:=h 0 v rfl;obtain⟨c,⟨g,k⟩,m⟩:=arw (es:=es) (a:=a) (i:=i+1) λj x b=>by
   rw[show i+1+j=i+(j+1) by omega];exact h (j+1) x (by simpa using b)
  refine⟨u::c,⟨by rw[mp,mp,g],λj x y b d=> ?_⟩,λj x b=> ?_⟩
  .cases j with
   |zero=>
    simp at b d;subst b d;exact f
   |succ j=>exact k j x y (by simpa using b) (by simpa using d)
  .cases j with
   |zero=>simp at b;subst b;exact l
   |succ j=>
    have:=m j x (by simpa using b)
    rwa [show i+1+j=i+(j+1) by omega] at this
def cG{H:Type}(enc:TypeId×Value->H)(P:Program)(w wL:World)(g0:Nat)(t:TypeId){α:Type}(E:fq α):Prop:=
 ∀(base:Nat) (d:Bool) (b:Nat) (e:List Value) (x:DataW H×List MemPlace),DataW.trod enc P w base (λ_=>true) d b t e=some x->(∀p∈x.2,p.block<w.heap.size)->
  (∀v∈e,plX (dx w) v)/\∀c,LXs g0 c e->∃a:α,E wL 0 wL.heap.size a c
section
variable {H:Type} {enc:TypeId×Value->H} {P:Program} {w wL:World} {g0:Nat}
def gF(i:P.underlying t=some (.int .i64)):cG enc P w wL g0 t bz:=by
 intro base b c l x h _;obtain⟨n,rfl,_,d⟩:=DataW.trod_int i h;refine⟨λv j=> ?_,λf k=> ?_⟩
 .rw[ga.1 j];show IntKind.i64 ≠ .u8
  decide
 .obtain⟨u,rfl,g⟩:=adV k;rcases g with rfl|⟨a,e,_⟩
  .exact⟨n,rfl,vJ d⟩
  .cases e
def aeI(i:P.underlying t=some .string):cG enc P w wL g0 t aww:=by
 intro base b c l x h _;obtain⟨s,rfl,_,d⟩:=DataW.trod_string i h;refine⟨λv j=> ?_,λf k=> ?_⟩
 .rw[ga.1 j];trivial
 .obtain⟨u,rfl,g⟩:=adV k;rcases g with rfl|⟨a,e,_⟩
  .exact⟨s,rfl,d⟩
  .cases e
def cG.map{β : Type}{E:fq T}{g:fq β}(h:cG enc P w wL g0 t E)(f:T->β)(j:∀a e,E wL 0 wL.heap.size a e->g wL 0 wL.heap.size (f a) e):cG enc P w wL g0 t g:=by
 intro base c d e x l i;obtain⟨n,k⟩:=h base c d e x l i;refine⟨n,λb o=> ?_⟩;obtain⟨a,m⟩:=k b o;exact⟨f a,j a b m⟩
def eL(hV:abF w (dx w) g0 wL){e : TypeId}{E:fq T}(ht:P.underlying t=some (.slice e))(hc:P.cellsOf e=Y)(a6:0<Y)(hE:cG enc P w wL g0 e E):cG enc P w wL g0 t (aY E Y):=by
 intro base o a5 cs x h hp;rcases open_slice ht h with⟨rfl,rfl⟩|⟨a,len,cap,m,n,D,Pl,rfl,hb,hl,hm,X,rfl,hi⟩
 .refine⟨λv B=> ?_,λd f=> ?_⟩
  .rw[ga.1 B];trivial
  .obtain⟨u,rfl,g⟩:=adV f;rcases g with rfl|⟨a,e,_⟩
   .exact⟨[],none,0,rfl,am _,by unfold maxLen;omega,λh=>absurd h (by simp)⟩
   .cases e
 .have a9:m=cap:=by rw[X];rfl
  have Q:∀i,i<m->∃d,d.length=Y/\DataW.trod enc P w base (λ_=>true) o n e d=some (D i,Pl i)/\∀j u,d[j]?=some u->w.cell? ((a.add (i*Y)).add j)=some u:=λi K=>by
   obtain⟨d,f,U⟩:=hi i K;rw[hc] at f;obtain⟨_,Q,Z⟩:=World.cells?_some f;exact⟨d,Q,U,λj u g=>by rw[Z j (by have:=aI g;omega)];exact g⟩
  have H:0<m->dx w a.block:=λO=>by
   obtain⟨es,C,_,r⟩:=Q 0 O;obtain⟨u,g⟩:=aq (l:=es) (k:=0) (by omega);have:=gD (r 0 u g)
   rwa [qw,qw] at this
  refine⟨λv B=> ?_,λd f=> ?_⟩
  .rw[ga.1 B];rcases mu cap with O|O
   .exact .inr ⟨by omega,O⟩
   .exact .inl (H (by omega))
  .obtain⟨u,rfl,g⟩:=adV f;rcases g with rfl|⟨a',e',rfl⟩
   .have S:∀i,i<len->∃(y:T) (es:List Value),es.length=Y/\E wL 0 wL.heap.size y es/\∀j u,es[j]?=some u->wL.cell? ((a.add (i*Y)).add j)=some u:=by
     intro i K;obtain⟨es,C,F,r⟩:=Q i (by omega);obtain⟨g1,g2⟩:=hE base o n es _ F (λp a0=>hp p (by
      refine qM _ (pb.2 ⟨i,pm.2 (by omega),a0⟩)))
     obtain⟨I,k1,k2⟩:=arw (WL:=wL) (g0:=g0) (es:=es) (a:=a.add (i*Y)) (i:=0) λj v B=>by
      rw[ph];have M:=r j v B;exact hV.cell _ v M (gD M) (g1 v (be B))
     obtain⟨y,J⟩:=g2 I k1;exact⟨y,I,k1.1.trans C,J,λj u g=>by have:=k2 j u g;rwa [ph] at this⟩
    have L:∀k,k<=len->∃s:List T,s.length=k/\∀i y,s[i]?=some y->∃es:List Value,es.length=Y/\E wL 0 wL.heap.size y es/\∀j u,es[j]?=some u->wL.cell? ((a.add (i*Y)).add j)=some u:=by
     intro k
     induction k with
     |zero=>intro _;exact⟨[],rfl,λi y J=>by simp at J⟩
     |succ k ih=>
      intro hk;obtain⟨s,c,N⟩:=ih (by omega);obtain⟨y,es,C,F,r⟩:=S k (by omega);refine⟨s++[y],by simp[c],λi z A=> ?_⟩;by_cases a8:i<k
      .rw[qa (by omega)] at A;exact N i z A
      .have W:=aI A;simp[c] at W;obtain rfl:i=k:=by omega
       rw[pL (by omega),c] at A;simp at A;subst A;exact⟨es,C,F,r⟩
    obtain⟨s,c,N⟩:=L len (am _);refine⟨s,some a,cap,by rw[c],by omega,hm,λa3=> ?_⟩;rw[c] at a3;obtain⟨y0,V⟩:=aq (l:=s) (k:=0) (by omega);obtain⟨a2,a7,_,R⟩:=N 0 y0 V;obtain⟨u0,a4⟩:=aq (l:=a2) (k:=0) (by omega);have ko:=R 0 u0 a4;obtain⟨b,a1,G⟩:=a;have q:G=none:=by simpa[Addr.add] using World.cell?_spot ko
    subst q;refine⟨b,a1,rfl,du _, ?_,λi y J=> ?_⟩
    .have:=eW ko;simpa[Addr.add] using this
    .obtain⟨es,C,F,r⟩:=N i y J;refine⟨es,C,F,λj u g=> ?_⟩;have:=r j u g;simpa[add_plain,tP] using this
   .cases e';exact⟨[],some ⟨g0,0,none⟩,0,rfl,am _,by unfold maxLen;omega,λh=>absurd h (by simp)⟩
def fy {j k:Field} {β : Type} {A:fq T} {B:fq β} (c r:Nat) (F:P.underlying t=some (.struct #[j,k])) (D:P.cellsOf t=c+r) (N:j.offset=0) (c0:P.cellsOf j.type=c) (K:k.offset=c) (c1:P.cellsOf k.type=r)
  (G:cG enc P w wL g0 j.type A) (I:cG enc P w wL g0 k.type B):cG enc P w wL g0 t (R2 A c B):=by
 intro base d z q x h u;obtain⟨M,n,_,rfl,f,o,y⟩:=DataW.trod_struct F h
 match M,o with
 |[y0,y1],_=>
  have s:=y 0 j rfl;have m:=y 1 k rfl;rw[N,c0,qr] at s;rw[K,c1] at m;have e:(q.drop c).take r=q.drop c:=nq (by rw[pU,f,D];omega);rw[e] at m;obtain⟨O,E⟩:=G base d n _ y0 s (λp g=>u p (by simp[g]));obtain⟨L,J⟩:=I base d n _ y1 m (λp g=>u p (by simp[g]));refine⟨λv C=> ?_,λl i=> ?_⟩
  .rw[<-pJ c q] at C;exact(gt.1 C).elim (O v) (L v)
  .obtain⟨a,Q⟩:=E _ (i.take c);obtain⟨b,H⟩:=J _ (i.drop c);exact⟨(a,b),l.take c,l.drop c,(pJ _ _).symm,by rw[lc,i.1,f,D];omega,Q,H⟩
theorem nQ {t:TypeId} {f0 f1 f2:Field} {α β γ:Type} {A:fq α} {B:fq β} {C:fq γ} (n0 n1 n2:Nat) (ht:P.underlying t=some (.struct #[f0,f1,f2])) (hc:P.cellsOf t=n0+n1+n2) (o0:f0.offset=0) (c0:P.cellsOf f0.type=n0) (o1:f1.offset=n0) (c1:P.cellsOf f1.type=n1) (o2:f2.offset=n0+n1) (c2:P.cellsOf f2.type=n2)
  (h0:cG enc P w wL g0 f0.type A) (h1:cG enc P w wL g0 f1.type B) (h2:cG enc P w wL g0 f2.type C):cG enc P w wL g0 t (R3 A n0 B n1 C):=by
 intro base held fuel cs x h hp
 obtain ⟨xs,n,_,rfl,hlen,hxl,hf⟩:=DataW.trod_struct ht h
 match xs,hxl with
 | [y0,y1,y2],_=>
  have k0:=hf 0 f0 rfl
  have k1:=hf 1 f1 rfl
  have k2:=hf 2 f2 rfl
  rw [o0,c0,qr] at k0
  rw [o1,c1] at k1
  rw [o2,c2] at k2
  have e:(cs.drop (n0+n1)).take n2=(cs.drop n0).drop n1:=by rw [List.drop_drop];exact nq (by rw [pU,hlen,hc];omega)
  rw [e] at k2
  obtain ⟨p0,q0⟩:=h0 base held n _ y0 k0 (fun p hpp=>hp p (by simp [hpp]))
  obtain ⟨p1,q1⟩:=h1 base held n _ y1 k1 (fun p hpp=>hp p (by simp [hpp]))
  obtain ⟨p2,q2⟩:=h2 base held n _ y2 k2 (fun p hpp=>hp p (by simp [hpp]))
  refine ⟨fun v hv=> ?_,fun cs' hcs=> ?_⟩
  .rw [←pJ n0 cs] at hv
   rcases gt.1 hv with hv | hv
   .exact p0 v hv
   .rw [←pJ n1 (cs.drop n0)] at hv
    exact (gt.1 hv).elim (p1 v) (p2 v)
  .obtain ⟨a,ha⟩:=q0 _ (hcs.take n0)
   obtain ⟨b,hb⟩:=q1 _ ((hcs.drop n0).take n1)
   obtain ⟨c,hcc⟩:=q2 _ ((hcs.drop n0).drop n1)
   exact ⟨(a,b,c),cs'.take n0,(cs'.drop n0).take n1,(cs'.drop n0).drop n1,by rw [pJ,pJ],by rw [lc,hcs.1,hlen,hc];omega,by rw [lc,pU,hcs.1,hlen,hc];omega,ha,hb,hcc⟩
end
end
end Go.Proofs.YtblbaiejjagdoaaGreatDoor