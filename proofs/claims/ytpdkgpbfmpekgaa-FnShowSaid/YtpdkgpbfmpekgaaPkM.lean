


/- Packs made of pieces, by the reference. -/
import Derived.Test.YtpdkgpbfmpekgaaPkS
import Derived.Test.YtpdkgpbfmpekgaaDrP
namespace Go.Proofs.Ytpdkgpbfmpekgaa
open Go.RowKit

/-- Items with one more, by name. -/
def putI (x : It) : List It → List It
  | [] => [x]
  | y :: l => if x.n < y.n then x :: y :: l else y :: putI x l
theorem putI_none {x : It} : ∀ {a : List It}, (∀ y ∈ a, ¬ x.n < y.n) → putI x a = a ++ [x]
  | [], _ => rfl
  | y :: a, h => by
    show (if x.n < y.n then _ else _) = _
    rw [if_neg (h y (by simp)), putI_none fun z hz => h z (by simp [hz])]; rfl
theorem putI_new {x z : It} : ∀ {a : List It}, (∀ y ∈ a, ¬ x.n < y.n) → x.n < z.n → putI x (a ++ [z]) = a ++ [x] ++ [z]
  | [], _, hz => by show (if x.n < z.n then _ else _) = _; rw [if_pos hz]; rfl
  | y :: a, h, hz => by
    show (if x.n < y.n then _ else _) = _
    rw [if_neg (h y (by simp))]
    show y :: putI x (a ++ [z]) = _
    rw [putI_new (fun z hz => h z (by simp [hz])) hz]; rfl
theorem putI_hit {x z : It} : ∀ {a : List It}, (∃ y ∈ a, x.n < y.n) → putI x (a ++ [z]) = putI x a ++ [z]
  | [], h => by obtain ⟨y, hy, _⟩ := h; cases hy
  | y :: a, h => by
    show (if x.n < y.n then _ else _) = (if x.n < y.n then _ else _) ++ _
    by_cases hy : x.n < y.n
    · rw [if_pos hy, if_pos hy]; rfl
    · rw [if_neg hy, if_neg hy]
      show y :: putI x (a ++ [z]) = y :: (putI x a ++ [z])
      rw [putI_hit]
      obtain ⟨u, hu, hxu⟩ := h
      rcases List.mem_cons.1 hu with rfl | hu
      · exact absurd hxu hy
      · exact ⟨u, hu, hxu⟩
theorem putI_len (x : It) : ∀ l : List It, (putI x l).length = l.length + 1
  | [] => rfl
  | y :: l => by
    show (if x.n < y.n then _ else _ : List It).length = _
    split
    · rfl
    · show (putI x l).length + 1 = _; rw [putI_len x l]; rfl
theorem putI_mem {x z : It} : ∀ {l : List It}, z ∈ putI x l ↔ z = x ∨ z ∈ l
  | [] => by show z ∈ [x] ↔ _; simp
  | y :: l => by
    show z ∈ (if x.n < y.n then _ else _) ↔ _
    split
    · simp
    · rw [List.mem_cons, putI_mem, List.mem_cons]
      constructor
      · rintro (h | h | h) <;> simp [h]
      · rintro (h | h | h) <;> simp [h]
/-- How far a walk through items has come. -/
def putIs (x : It) (a : List It) (b : Bool) (o : List It) : Prop := (b = false ∧ o = a ∧ ∀ y ∈ a, ¬ x.n < y.n) ∨ (b = true ∧ o = putI x a ∧ ∃ y ∈ a, x.n < y.n)
theorem putIs_len {x : It} {a o : List It} {b : Bool} (h : putIs x a b o) : o.length ≤ a.length + 1 := by
  rcases h with ⟨_, rfl, _⟩ | ⟨_, rfl, _⟩
  · omega
  · rw [putI_len]; exact Nat.le_refl _
theorem putIs_new {x z : It} {a o : List It} (h : putIs x a false o) (hz : x.n < z.n) : putIs x (a ++ [z]) true (o ++ [x] ++ [z]) := by
  rcases h with ⟨_, rfl, h⟩ | ⟨h, _⟩
  · exact .inr ⟨rfl, (putI_new h hz).symm, z, by simp, hz⟩
  · cases h
theorem putIs_go {x z : It} {a o : List It} (h : putIs x a false o) (hz : ¬ x.n < z.n) : putIs x (a ++ [z]) false (o ++ [z]) := by
  rcases h with ⟨_, rfl, h⟩ | ⟨h, _⟩
  · exact .inl ⟨rfl, rfl, fun y hy => by
      rcases List.mem_append.1 hy with hy | hy
      · exact h y hy
      · rw [List.mem_singleton.1 hy]; exact hz⟩
  · cases h
theorem putIs_past {x z : It} {a o : List It} (h : putIs x a true o) : putIs x (a ++ [z]) true (o ++ [z]) := by
  rcases h with ⟨h, _⟩ | ⟨_, rfl, y, hy, hxy⟩
  · cases h
  · exact .inr ⟨rfl, (putI_hit ⟨y, hy, hxy⟩).symm, y, by simp [hy], hxy⟩
theorem putIs_end {x : It} {a o : List It} {b : Bool} (h : putIs x a b o) : (b = false ∧ putI x a = o ++ [x]) ∨ (b = true ∧ putI x a = o) := by
  rcases h with ⟨hb, rfl, h⟩ | ⟨hb, rfl, _⟩
  · exact .inl ⟨hb, putI_none h⟩
  · exact .inr ⟨hb, rfl⟩
def NewIt (w : World) (ys : List It) (e : Ending) (w' : World) : Prop := ∃ v, e = .returned v ∧ OwnF FIt 57 w' w.heap.size v ys ∧ Below w.heap.size w w'
set_option maxHeartbeats 8000000 in
theorem l3Put_any (x : It) (hx64 : FIt.good x) (xs : List It) (v : Value) (w : World) (lo hi : Nat) (hhi : hi ≤ w.heap.size) (h : RIts w lo hi xs [v]) (hl : xs.length ≤ 1000000) :
    Calls Try.prog 74 #[v, .agg #[.int .i64 x.n, .string x.b]] w (NewIt w (putI x xs)) := by
  obtain ⟨A, c, rfl⟩ := h.form
  obtain ⟨_, hc, hx⟩ := h.len_
  unfold maxLen at hx
  go_enter Try.func74, Try.ntmps74
  go_wp2_with fail
  have hbw0 : Below w.heap.size w ((w.alloc (.cells #[.int .i64 x.n, .string x.b] 57)).alloc (.cells #[] 57)) := below_alloc' (below_alloc _ _) _
  have k0 : Blk ((w.alloc (.cells #[.int .i64 x.n, .string x.b] 57)).alloc (.cells #[] 57)) (w.heap.size) 57 #[.int .i64 x.n, .string x.b] := by
    have hk := blk_alloc (Blk.new w 57 #[.int .i64 x.n, .string x.b]) (.cells #[] 57)
    exact hk
  have k1 : Blk ((w.alloc (.cells #[.int .i64 x.n, .string x.b] 57)).alloc (.cells #[] 57)) (w.heap.size + 1) 57 #[] := by
    have hk := Blk.new (w.alloc (.cells #[.int .i64 x.n, .string x.b] 57)) 57 #[]
    simp only [World.size_alloc] at hk
    exact hk
  have hsw0 : w.heap.size + 2 ≤ ((w.alloc (.cells #[.int .i64 x.n, .string x.b] 57)).alloc (.cells #[] 57)).heap.size := by simp only [World.size_alloc]; omega
  generalize ((w.alloc (.cells #[.int .i64 x.n, .string x.b] 57)).alloc (.cells #[] 57)) = w0 at *
  have ck0 := k0.cell
  have fk0 := k0.frozen
  have ck1 := k1.cell
  have fk1 := k1.frozen
  have hsw0' : w.heap.size + 1 ≤ w0.heap.size := by omega
  have g0 := RIts.tloc.below h hbw0 hhi
  have o0 : OwnF FIt 57 w0 (w.heap.size + 1) (.slice (some ⟨w.heap.size + 1, 0, none⟩) 0 0) [] := OwnF.lit0 ⟨_, rfl, Nat.le_refl _, k1⟩
  go_loopw [5, 6, 7] (fun oo pp ii wr => ∃ (k : Nat) (b : Bool) (o : List It), k ≤ xs.length ∧ pp = .bool b ∧ ii = .int .i64 k ∧ OwnF FIt 57 wr (w.heap.size + 1) oo o ∧ putIs x (xs.take k) b o ∧ Chg (fun b => w.heap.size + 1 ≤ b) w0 wr) (fun _ _ ii _ => xs.length - (intOf ii).toNat)
  case atStart => exact ⟨0, false, [], Nat.zero_le _, rfl, rfl, o0, .inl ⟨rfl, rfl, fun y hy => (by cases hy)⟩, Chg.refl _ _⟩
  case round =>
    clear o0 k1 ck1 fk1
    obtain ⟨k, b, o, hk, rfl, rfl, ho, hst, hcr⟩ := hrel
    have HO := Lib.hid hst; clear hst
    obtain ⟨A0, c0, rfl⟩ := ho.form
    have hol := putIs_len HO.out
    rw [List.length_take] at hol
    have g1 : RIts wr lo hi xs [.slice A xs.length c] := RIts.tloc.chg g0 hcr fun b _ h2 _ h3 => by omega
    have k1 := blk_chg k0 hcr (by omega)
    have ck1 := k1.cell
    have fk1 := k1.frozen
    by_cases hlt : k < xs.length
    · obtain ⟨z, hzk⟩ := some_of_lt hlt
      obtain ⟨b1, off, rfl, hb1, hb2, hz64, cn, cb⟩ := it_at g1 hzk
      have HZ := Lib.hid hzk; clear hzk
      have HT := Lib.hid (take_succ HZ.out)
      cases b with
      | true =>
        have HN := Lib.hid (putIs_past (z := z) HO.out)
        go_wp2_with fail
        go_quiet (fail)
        have ho2 : OwnF FIt 57 (wr.drewN nq) (w.heap.size + 1) (.slice A0 o.length c0) o := ho
        go_wp2_with (at_builtin; refine app_flat (F := FIt) (v := .slice A0 o.length c0) rfl (.tmp 31) (.tmp 36) 35 rfl elem_it z rfl ho2 rfl rfl (by first | omega | (simp only [List.length_append, List.length_cons, List.length_nil]; omega)) (Nat.le_trans hsw0' (hcr.drewN nq).size) ?_; intro v3 w3 o3 ch3 at3; obtain ⟨A3, c3, rfl⟩ := o3.form; simp only [List.length_append, List.length_cons, List.length_nil, Nat.zero_add] at o3; skip)
        have hc3 : Chg (fun b => w.heap.size + 1 ≤ b) w0 w3 := (hcr.drewN nq).trans ch3 fun b hb e => (ho2.at_ e).1
        go_roundw
        case rel => exact ⟨k + 1, true, o ++ [z], by omega, rfl, by go_num, o3, by rw [HT.out]; exact HN.out, hc3⟩
        case measure => simp [intOf]; omega
      | false =>
        by_cases hxz : x.n < z.n
        · have t1 : decide (x.n < z.n) = true := decide_eq_true hxz
          have HN := Lib.hid (putIs_new HO.out hxz)
          clear hxz
          go_wp2_with fail
          go_quiet (fail)
          have ho2 : OwnF FIt 57 (wr.drewN nq) (w.heap.size + 1) (.slice A0 o.length c0) o := ho
          have ck2 : ∀ i, (wr.drewN nq).cell? ⟨w.heap.size, i, none⟩ = _ := ck1
          go_wp2_with (first | (at_builtin; refine app_flat (F := FIt) (v := .slice A0 o.length c0) rfl (.tmp 27) (.tmp 29) 35 rfl elem_it x rfl ho2 rfl rfl (by first | omega | (simp only [List.length_append, List.length_cons, List.length_nil]; omega)) (Nat.le_trans hsw0' (hcr.drewN nq).size) ?_; intro v3 w3 o3 ch3 at3; obtain ⟨A3, c3, rfl⟩ := o3.form; simp only [List.length_append, List.length_cons, List.length_nil, Nat.zero_add] at o3; have hc3 : Chg (fun b => w.heap.size + 1 ≤ b) w0 w3 := (hcr.drewN nq).trans ch3 fun b hb e => (ho2.at_ e).1; have cn3 := cell_chg (w := wr.drewN nq) cn ch3 (fun hs => by have := (ho2.at_ hs).1; dsimp only at this; omega); have cb3 := cell_chg (w := wr.drewN nq) cb ch3 (fun hs => by have := (ho2.at_ hs).1; dsimp only at this; omega)) | (at_builtin; refine app_flat (F := FIt) (v := .slice A3 (o.length + 1) c3) rfl (.tmp 31) (.tmp 36) 35 rfl elem_it z rfl o3 rfl rfl (by first | omega | (simp only [List.length_append, List.length_cons, List.length_nil]; omega)) (Nat.le_trans hsw0' hc3.size) ?_; intro v4 w4 o4 ch4 at4; obtain ⟨A4, c4, rfl⟩ := o4.form; simp only [List.length_append, List.length_cons, List.length_nil, Nat.zero_add] at o4; have hc4 : Chg (fun b => w.heap.size + 1 ≤ b) w0 w4 := hc3.trans ch4 fun b hb e => (o3.at_ e).1))
          go_roundw
          case rel => exact ⟨k + 1, true, o ++ [x] ++ [z], by omega, rfl, by go_num, o4, by rw [HT.out]; exact HN.out, hc4⟩
          case measure => simp [intOf]; omega
        · have t1 : decide (x.n < z.n) = false := decide_eq_false hxz
          have HN := Lib.hid (putIs_go HO.out hxz)
          clear hxz
          go_wp2_with fail
          go_quiet (fail)
          have ho2 : OwnF FIt 57 (wr.drewN nq) (w.heap.size + 1) (.slice A0 o.length c0) o := ho
          go_wp2_with (at_builtin; refine app_flat (F := FIt) (v := .slice A0 o.length c0) rfl (.tmp 31) (.tmp 36) 35 rfl elem_it z rfl ho2 rfl rfl (by first | omega | (simp only [List.length_append, List.length_cons, List.length_nil]; omega)) (Nat.le_trans hsw0' (hcr.drewN nq).size) ?_; intro v3 w3 o3 ch3 at3; obtain ⟨A3, c3, rfl⟩ := o3.form; simp only [List.length_append, List.length_cons, List.length_nil, Nat.zero_add] at o3; skip)
          have hc3 : Chg (fun b => w.heap.size + 1 ≤ b) w0 w3 := (hcr.drewN nq).trans ch3 fun b hb e => (ho2.at_ e).1
          go_roundw
          case rel => exact ⟨k + 1, false, o ++ [z], by omega, rfl, by go_num, o3, by rw [HT.out]; exact HN.out, hc3⟩
          case measure => simp [intOf]; omega
    · obtain rfl : k = xs.length := by omega
      have hend := putIs_end HO.out
      rw [List.take_length] at hend
      have HE := Lib.hid hend; clear hend
      have hbw : Below w.heap.size w wr := hbw0.trans (hcr.below hbw0.size fun i hi hs => by omega)
      cases b with
      | true =>
        have he : putI x xs = o := by
          rcases HE.out with ⟨h, _⟩ | ⟨_, h⟩
          · cases h
          · exact h
        rw [he]
        go_wp2_with fail
        go_ret
        exact ⟨_, rfl, ho.base (by omega), hbw⟩
      | false =>
        have he : putI x xs = o ++ [x] := by
          rcases HE.out with ⟨_, h⟩ | ⟨h, _⟩
          · exact h
          · cases h
        rw [he]
        go_wp2_with (at_builtin; refine app_flat (F := FIt) (v := .slice A0 o.length c0) rfl (.tmp 40) (.tmp 42) 35 rfl elem_it x rfl ho rfl rfl (by first | omega | (simp only [List.length_append, List.length_cons, List.length_nil]; omega)) (Nat.le_trans hsw0' hcr.size) ?_; intro v3 w3 o3 ch3 at3; obtain ⟨A3, c3, rfl⟩ := o3.form; simp only [List.length_append, List.length_cons, List.length_nil, Nat.zero_add] at o3; skip)
        have hc3 : Chg (fun b => w.heap.size + 1 ≤ b) w0 w3 := hcr.trans ch3 fun b hb e => (ho.at_ e).1
        go_ret
        exact ⟨.slice A3 (o.length + 1) c3, rfl, by have := o3.base (base' := w.heap.size) (by omega); simpa using this, hbw0.trans (hc3.below hbw0.size fun i hi hs => by omega)⟩
/-- The item of a piece. -/
def itemOf (key : Int) (s : ByteArray) : It := ⟨nameL key (bs s), mkStr (padL (bs s))⟩
def makeI (key : Int) (l : List ByteArray) : List It := l.foldl (fun a s => putI (itemOf key s) a) []
theorem makeI_snoc (key : Int) (l : List ByteArray) (s : ByteArray) : makeI key (l ++ [s]) = putI (itemOf key s) (makeI key l) := by
  unfold makeI; rw [List.foldl_append]; rfl
theorem makeI_len (key : Int) (l : List ByteArray) : (makeI key l).length = l.length := by
  induction l using snocInd with
  | h0 => rfl
  | h1 l s ih => rw [makeI_snoc, putI_len, ih, List.length_append]; rfl
theorem makeI_mem {key : Int} {x : It} {l : List ByteArray} : x ∈ makeI key l ↔ ∃ s ∈ l, x = itemOf key s := by
  induction l using snocInd with
  | h0 => simp [makeI]
  | h1 l s ih =>
    rw [makeI_snoc, putI_mem, ih]
    constructor
    · rintro (h | ⟨t, ht, h⟩)
      · exact ⟨s, by simp, h⟩
      · exact ⟨t, by simp [ht], h⟩
    · rintro ⟨t, ht, h⟩
      rcases List.mem_append.1 ht with ht | ht
      · exact .inr ⟨t, ht, h⟩
      · rw [List.mem_singleton.1 ht] at h; exact .inl h
theorem itemOf_good (key : Int) {s : ByteArray} (hs : pieceP (bs s)) : FIt.good (itemOf key s) := by
  have h1 := nameL_range (key := key) (l := bs s)
  show In64 (nameL key (bs s)) ∧ (mkStr (padL (bs s))).size ≤ maxLen
  refine ⟨by unfold In64; omega, ?_⟩
  rw [← bs_len, bs_pad, padL_len hs]
  have := (classL_le (n := (bs s).length)).1
  unfold maxLen; omega
theorem makeI_good {key : Int} {l : List ByteArray} (h : ∀ s ∈ l, pieceP (bs s)) : ∀ x ∈ makeI key l, FIt.good x := fun x hx => by
  obtain ⟨s, hs, rfl⟩ := makeI_mem.1 hx
  exact itemOf_good key (h s hs)
def NewPk (no : Int) (w : World) (ys : List It) (e : Ending) (w' : World) : Prop := ∃ v, e = .returned (.agg #[.int .i64 no, v]) ∧ OwnF FIt 57 w' w.heap.size v ys ∧ Below w.heap.size w w'
set_option maxHeartbeats 8000000 in
theorem l3Make_any (no key : Int) (hk : 1 ≤ key ∧ key ≤ 99) (xs : List ByteArray) (hp : ∀ s ∈ xs, pieceP (bs s)) (hl : xs.length ≤ 100) (v : Value) (w : World) (lo hi : Nat) (hhi : hi ≤ w.heap.size) (h : RStrs w lo hi xs [v]) :
    Calls Try.prog 55 #[.int .i64 no, .int .i64 key, v] w (NewPk no w (makeI key xs)) := by
  have HP := Lib.hid hp; clear hp
  obtain ⟨A, c, rfl⟩ := h.form
  go_enter Try.func55, Try.ntmps55
  go_wp2_with fail
  have hbw0 : Below w.heap.size w (((w.alloc (.cells #[.int .i64 0, .slice none 0 0] 37)).alloc (.cells #[] 57)).alloc (.cells #[.int .i64 no, .slice (some ⟨w.heap.size + 1, 0, none⟩) 0 0] 37)) := below_alloc' (below_alloc' (below_alloc _ _) _) _
  have k0 : Blk (((w.alloc (.cells #[.int .i64 0, .slice none 0 0] 37)).alloc (.cells #[] 57)).alloc (.cells #[.int .i64 no, .slice (some ⟨w.heap.size + 1, 0, none⟩) 0 0] 37)) (w.heap.size) 37 #[.int .i64 0, .slice none 0 0] := by
    have hk := blk_alloc (blk_alloc (Blk.new w 37 #[.int .i64 0, .slice none 0 0]) (.cells #[] 57)) (.cells #[.int .i64 no, .slice (some ⟨w.heap.size + 1, 0, none⟩) 0 0] 37)
    exact hk
  have k1 : Blk (((w.alloc (.cells #[.int .i64 0, .slice none 0 0] 37)).alloc (.cells #[] 57)).alloc (.cells #[.int .i64 no, .slice (some ⟨w.heap.size + 1, 0, none⟩) 0 0] 37)) (w.heap.size + 1) 57 #[] := by
    have hk := blk_alloc (Blk.new (w.alloc (.cells #[.int .i64 0, .slice none 0 0] 37)) 57 #[]) (.cells #[.int .i64 no, .slice (some ⟨w.heap.size + 1, 0, none⟩) 0 0] 37)
    simp only [World.size_alloc] at hk
    exact hk
  have k2 : Blk (((w.alloc (.cells #[.int .i64 0, .slice none 0 0] 37)).alloc (.cells #[] 57)).alloc (.cells #[.int .i64 no, .slice (some ⟨w.heap.size + 1, 0, none⟩) 0 0] 37)) (w.heap.size + 1 + 1) 37 #[.int .i64 no, .slice (some ⟨w.heap.size + 1, 0, none⟩) 0 0] := by
    have hk := Blk.new ((w.alloc (.cells #[.int .i64 0, .slice none 0 0] 37)).alloc (.cells #[] 57)) 37 #[.int .i64 no, .slice (some ⟨w.heap.size + 1, 0, none⟩) 0 0]
    simp only [World.size_alloc] at hk
    exact hk
  have hsw0 : w.heap.size + 3 ≤ (((w.alloc (.cells #[.int .i64 0, .slice none 0 0] 37)).alloc (.cells #[] 57)).alloc (.cells #[.int .i64 no, .slice (some ⟨w.heap.size + 1, 0, none⟩) 0 0] 37)).heap.size := by simp only [World.size_alloc]; omega
  generalize (((w.alloc (.cells #[.int .i64 0, .slice none 0 0] 37)).alloc (.cells #[] 57)).alloc (.cells #[.int .i64 no, .slice (some ⟨w.heap.size + 1, 0, none⟩) 0 0] 37)) = w0 at *
  have ck0 := k0.cell
  have fk0 := k0.frozen
  have ck1 := k1.cell
  have fk1 := k1.frozen
  have ck2 := k2.cell
  have fk2 := k2.frozen
  have o0 : OwnF FIt 57 w0 (w.heap.size + 1) (.slice (some ⟨w.heap.size + 1, 0, none⟩) 0 0) [] := OwnF.lit0 ⟨_, rfl, Nat.le_refl _, k1⟩
  go_loopw [8] (fun ii wr => ∃ (k : Nat) (vv : Value), k ≤ xs.length ∧ ii = .int .i64 k ∧ OwnF FIt 57 wr (w.heap.size + 1) vv (makeI key (xs.take k)) ∧ Blk wr w.heap.size 37 #[.int .i64 0, .slice none 0 0] ∧ Blk wr (w.heap.size + 1 + 1) 37 #[.int .i64 no, vv] ∧ Below w.heap.size w wr) (fun ii _ => xs.length - (intOf ii).toNat)
  case atStart => exact ⟨0, _, Nat.zero_le _, rfl, o0, k0, k2, hbw0⟩
  case round =>
    clear o0 k0 k1 k2 ck0 ck1 ck2 fk0 fk1 fk2
    obtain ⟨k, vv, hkl, rfl, ho, k0, k2, hbr⟩ := hrel
    obtain ⟨A0, c0, rfl⟩ := ho.form
    have h1 := RStrs.tloc.below h hbr hhi
    have ck0 := k0.cell
    have fk0 := k0.frozen
    have ck2 := k2.cell
    have fk2 := k2.frozen
    have hmk : Hid (∀ x ∈ makeI key (xs.take k), FIt.good x) := Lib.hid (makeI_good fun s hs => HP.out s (List.mem_of_mem_take hs))
    have hml : (makeI key (xs.take k)).length ≤ 100 := by rw [makeI_len, List.length_take]; omega
    by_cases hlt : k < xs.length
    · obtain ⟨s, hsk⟩ := some_of_lt hlt
      obtain ⟨b1, off, rfl, _, _, hsz, hcell⟩ := str_at h1 hsk
      have hps := HP.out s (List.mem_of_getElem? hsk)
      have hstep : makeI key (xs.take (k + 1)) = putI (itemOf key s) (makeI key (xs.take k)) := by rw [take_succ hsk, makeI_snoc]
      have HST := Lib.hid hstep; clear hstep hsk
      have HGI := Lib.hid (itemOf_good key hps)
      have HC1 := Lib.hid (fun w => l2Name_any key s hk hps w)
      have HC2 := Lib.hid (fun w => l2Pad_any s hsz w)
      have hit : itemOf key s = ⟨nameL key (bs s), mkStr (padL (bs s))⟩ := rfl
      have HIT := Lib.hid hit
      have HBP := Lib.hid (bs_pad s)
      clear hps hit
      have r0 := ho.deep hmk.out (w.heap.size + 1) |>.sl (Nat.le_refl _)
      have f1 : wr.cell? ⟨w.heap.size + 1 + 1, 1, none⟩ = some (.slice A0 (makeI key (xs.take k)).length c0) := ck2 1
      have HOP := Lib.hid (fun g hg => ho.at_ (g := g) hg)
      have hsz2 : w.heap.size + 1 + 1 < wr.heap.size := k2.lt
      revert HST; revert hml; revert f1; revert r0; revert hmk; revert HOP; revert ho; revert ck2; revert k2
      generalize makeI key (xs.take k) = L
      intro k2 ck2 ho HOP hmk r0 f1 hml HST
      go_wp2_with fail
      have past0 := past_cell f1
      have past1 := past_cell hcell
      refine region_pastT 15 [0, 1, 2, 3, 4, 5, 6, 8, 9, 10, 11] [7, 12, 13, 14] (by kernel_rfl) (by kernel_rfl) (by kernel_rfl) ?_
      simp only [pick, List.map, List.getD_cons_zero, List.getD_cons_succ]
      repeat (go_big_quiet_step (fail))
      refine wpQuiet_nil ?_
      clear past0 past1
      apply Exists.intro
      apply past_fix (.int .i64 (nameL key (bs s)))
      · intro y hF Qx hQ'
        have hQ := Lib.hid hQ'; clear hQ' hF
        go_wp2_with fail
        refine (HC1.out y.to).mono ?_
        rintro e wy ⟨rfl, rfl⟩
        go_wp2_with fail
        exact hQ.out _ (Below.refl _ _)
      simp only [Act.put, List.setIfInBounds_toArray, List.set_cons_zero, List.set_cons_succ]
      apply past_fix (.string (mkStr (padL (bs s))))
      · intro y hF Qx hQ'
        have hQ := Lib.hid hQ'; clear hQ' hF
        go_wp2_with fail
        refine (HC2.out y.to).mono ?_
        rintro e wy ⟨⟨t, rfl, ht⟩, rfl⟩
        have ht2 : t = mkStr (padL (bs s)) := bs_inj (ht.trans HBP.out.symm)
        subst ht2
        go_wp2_with fail
        exact hQ.out _ (Below.refl _ _)
      simp only [Act.put, List.setIfInBounds_toArray, List.set_cons_zero, List.set_cons_succ]
      apply past_fix (.agg #[.int .i64 (nameL key (bs s)), .string (mkStr (padL (bs s)))])
      · intro y hF Qx hQ'
        have hQ := Lib.hid hQ'; clear hQ' hF
        go_wp2_with fail
        exact hQ.out _ (Below.refl _ _)
      simp only [Act.put, List.setIfInBounds_toArray, List.set_cons_zero, List.set_cons_succ]
      apply past_any (fun v w' => OwnF FIt 57 w' wr.heap.size v (putI (itemOf key s) L))
      · rfl
      · exact fun v x y h hle => h.below hle
      · intro y hF Qx hQ'
        have hQ := Lib.hid hQ'; clear hQ' hF
        have r1 := RIts.tloc.below r0 y.ok (Nat.le_refl _)
        go_wp2_with fail
        refine (l3Put_any (itemOf key s) HGI.out L _ y.to _ _ y.ok.size r1 (by omega)).mono ?_
        rintro e wy ⟨vy, rfl, oy, by_⟩
        go_wp2_with fail
        exact hQ.out _ _ by_ (oy.base y.ok.size)
      intro u32
      simp only [Act.put, List.setIfInBounds_toArray, List.set_cons_zero, List.set_cons_succ]
      refine past_end ?_
      intro w2 hb2 xx hxx hF
      dsimp only [allF] at hF
      try rw [hxx] at hF
      clear hxx xx
      obtain ⟨A5, c5, rfl⟩ := hF.1.form
      have o5 := hF.1
      clear hF r0
      simp only [List.drop]
      replace k0 := blk_keep k0 hb2
      replace ck0 := k0.cell
      replace fk0 := k0.frozen
      replace k2 := blk_keep k2 hb2
      replace ck2 := k2.cell
      replace fk2 := k2.frozen
      replace hbr := below_below hbr hb2
      go_wp2_with fail
      have k2' := k2.set_ 1 (.slice A5 (putI (itemOf key s) L).length c5)
      simp only [List.setIfInBounds_toArray, List.set_cons_zero, List.set_cons_succ] at k2'
      go_roundw
      case rel => exact ⟨k + 1, _, by omega, by go_num, by rw [HST.out]; exact (o5.set_ _ (by dsimp only; omega)).base (by omega), blk_ne k0 _ (by dsimp only; omega), k2', hbr.setCell (by dsimp only; omega) _⟩
      case measure => simp [intOf]; omega
    · obtain rfl : k = xs.length := by omega
      rw [List.take_length] at ho ck2 k2
      obtain ⟨L, hL⟩ : ∃ L, L = makeI key xs := ⟨_, rfl⟩
      rw [← hL] at ho ck2 k2 ⊢
      have HL := Lib.hid hL; clear hL
      go_wp2_with fail
      have k4 := (k0.set_ 0 (.int .i64 no)).set_ 1 (.slice A0 L.length c0)
      simp only [List.setIfInBounds_toArray, List.set_cons_zero, List.set_cons_succ] at k4
      have ck4 := k4.cell
      exact bodyPost_ret (v := .agg #[.int .i64 no, .slice A0 L.length c0]) (by simp [results, Try.results55, go_sem, ck4]) rfl ⟨_, rfl, by rw [← HL.out]; exact OwnF.base (base := w.heap.size + 1) ((ho.set_ (p := ⟨w.heap.size, 0, none⟩) _ (by dsimp only; omega)).set_ (p := ⟨w.heap.size, 1, none⟩) _ (by dsimp only; omega)) (by omega), (hbr.setCell (by simp) _).setCell (by simp) _⟩
/-- What PackMake gives: some pack, right; or none. -/
def MkPost (key : Int) (w : World) (e : Ending) (w' : World) : Prop := ∃ (p : Pk) (v : Value) (b : Bool), e = .returned (.tuple #[.agg #[.int .i64 p.no, v], .bool b]) ∧ (b = true → packP key p) ∧ OwnF FIt 57 w' w.heap.size v p.its ∧ (∀ x ∈ p.its, FIt.good x) ∧ In64 p.no ∧ Below w.heap.size w w'
end Go.Proofs.Ytpdkgpbfmpekgaa
