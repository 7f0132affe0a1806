/- Cut, Tree, TreeP. -/
import Derived.Test.YtpdkgpbfmpekgaaTxt
import Derived.Test.YtpdkgpbfmpekgaaDrP
import Derived.Laws.Cover1



/- How the reference cuts a text. -/
namespace Go.Proofs.Ytpdkgpbfmpekgaa
open Go.RowKit

/-! ### The plain law -/
/-- Where the piece ends that begins at a. -/
def atF (l : List Nat) (a : Nat) : Nat → Nat → Nat
  | 0, _ => min (a + 8) l.length
  | f + 1, n => if l.length ≤ a + n then l.length else if turnL l (a + n) = true then a + n else atF l a f (n + 1)
def atL (l : List Nat) (a : Nat) : Nat := atF l a 5 3
theorem atF_bounds {l : List Nat} {a : Nat} (ha : a < l.length) : ∀ (f n : Nat), 0 < n → n + f ≤ 8 → a < atF l a f n ∧ atF l a f n ≤ l.length ∧ atF l a f n ≤ a + 8
  | 0, n, _, _ => by show a < min _ _ ∧ min _ _ ≤ _ ∧ min _ _ ≤ _; omega
  | f + 1, n, h0, h8 => by
    unfold atF
    split
    · omega
    · split
      · omega
      · exact atF_bounds ha f (n + 1) (by omega) (by omega)
theorem atL_bounds {l : List Nat} {a : Nat} (ha : a < l.length) : a < atL l a ∧ atL l a ≤ l.length ∧ atL l a ≤ a + 8 := atF_bounds ha 5 3 (by omega) (by omega)
/-- Ends of pieces, from a on up to b. -/
def EndsTo (l : List Nat) : Nat → List Int → Nat → Prop
  | a, [], b => a = b
  | a, x :: xs, b => a < l.length ∧ x = (atL l a : Int) ∧ EndsTo l (atL l a) xs b
theorem EndsTo.snoc {l : List Nat} : ∀ {a : Nat} {xs : List Int} {b : Nat}, EndsTo l a xs b → b < l.length → EndsTo l a (xs ++ [(atL l b : Int)]) (atL l b)
  | a, [], b, h, h1 => by
    have h : a = b := h
    subst h
    exact ⟨h1, rfl, rfl⟩
  | a, x :: xs, b, ⟨h2, h3, h4⟩, h1 => ⟨h2, h3, h4.snoc h1⟩
theorem EndsTo.len {l : List Nat} : ∀ {a : Nat} {xs : List Int} {b : Nat}, EndsTo l a xs b → a + xs.length ≤ b
  | a, [], b, h => by
    have h : a = b := h
    simp; omega
  | a, x :: xs, b, ⟨h1, _, h⟩ => by
    have := h.len
    have := (atL_bounds h1).1
    simp only [List.length_cons]
    omega
theorem EndsTo.le {l : List Nat} : ∀ {a : Nat} {xs : List Int} {b : Nat}, EndsTo l a xs b → a ≤ l.length → b ≤ l.length
  | a, [], b, h, ha => by
    have h : a = b := h
    omega
  | a, x :: xs, b, ⟨h1, _, h⟩, ha => h.le (atL_bounds h1).2.1
theorem EndsTo.at_ {l : List Nat} : ∀ {a : Nat} {xs : List Int} {b k m : Nat} {x : Int}, EndsTo l a xs b → EndsTo l a (xs.take k) m → xs[k]? = some x → x = (atL l m : Int) ∧ m < l.length ∧ EndsTo l a (xs.take (k + 1)) (atL l m)
  | a, [], b, k, m, x, _, _, hx => by simp at hx
  | a, y :: xs, b, 0, m, x, ⟨h1, e, h3⟩, hm, hx => by
    have hm : a = m := hm
    subst hm
    have hx : y = x := by simpa using hx
    subst hx
    exact ⟨e, h1, h1, e, rfl⟩
  | a, y :: xs, b, k + 1, m, x, ⟨h1, e, h3⟩, ⟨h1', e', hm⟩, hx => by
    obtain ⟨er, h4, h7⟩ := EndsTo.at_ h3 hm (by simpa using hx)
    exact ⟨er, h4, h1, e, h7⟩
theorem EndsTo.in64 {l : List Nat} (hl : l.length ≤ maxLen) : ∀ {a : Nat} {xs : List Int} {b : Nat}, EndsTo l a xs b → ∀ x ∈ xs, In64 x
  | a, [], b, _, x, hx => by cases hx
  | a, y :: xs, b, ⟨h1, e, h⟩, x, hx => by
    have := (atL_bounds h1).2.1
    unfold maxLen at hl
    rcases List.mem_cons.1 hx with rfl | hx
    · rw [e]; unfold In64; omega
    · exact h.in64 hl x hx
def endsF (l : List Nat) : Nat → Nat → List Int
  | 0, _ => []
  | f + 1, a => if a < l.length then (atL l a : Int) :: endsF l f (atL l a) else []
theorem EndsTo.uniq {l : List Nat} : ∀ {a : Nat} {xs : List Int} {f : Nat}, EndsTo l a xs l.length → l.length - a ≤ f → xs = endsF l f a
  | a, [], f, h, _ => by
    have h : a = l.length := h
    cases f with
    | zero => rfl
    | succ f => show [] = if _ then _ else _; rw [if_neg (by omega)]
  | a, x :: xs, f, ⟨h1, e, h⟩, hf => by
    have := (atL_bounds h1).1
    cases f with
    | zero => omega
    | succ f =>
      show x :: xs = if _ then _ else _
      rw [if_pos h1, e, ← h.uniq (f := f) (by omega)]
theorem endsTo_ends {l : List Nat} : ∀ {f a : Nat}, a ≤ l.length → l.length - a ≤ f → EndsTo l a (endsF l f a) l.length
  | 0, a, h1, h2 => by show a = l.length; omega
  | f + 1, a, h1, h2 => by
    show EndsTo l a (if a < l.length then (atL l a : Int) :: endsF l f (atL l a) else []) l.length
    by_cases ha : a < l.length
    · rw [if_pos ha]
      have := atL_bounds ha
      exact ⟨ha, rfl, endsTo_ends (by omega) (by omega)⟩
    · rw [if_neg ha]
      show a = l.length; omega
/-- Pieces between such ends. -/
def piecesTo (s : ByteArray) : Nat → List Int → List ByteArray
  | _, [] => []
  | a, x :: xs => s.extract a x.toNat :: piecesTo s x.toNat xs
theorem piecesTo_snoc {s : ByteArray} {l : List Nat} : ∀ {a : Nat} {xs : List Int} {m q : Nat}, EndsTo l a xs m → piecesTo s a (xs ++ [(q : Int)]) = piecesTo s a xs ++ [s.extract m q]
  | a, [], m, q, h => by
    have h : a = m := h
    subst h; rfl
  | a, x :: xs, m, q, ⟨_, e, h⟩ => by
    show s.extract a x.toNat :: piecesTo s x.toNat (xs ++ [(q : Int)]) = s.extract a x.toNat :: (piecesTo s x.toNat xs ++ _)
    rw [e, Int.toNat_natCast, piecesTo_snoc h]
theorem piecesTo_len (s : ByteArray) : ∀ (a : Nat) (xs : List Int), (piecesTo s a xs).length = xs.length
  | _, [] => rfl
  | a, x :: xs => by show (piecesTo s x.toNat xs).length + 1 = _; rw [piecesTo_len]; rfl
theorem piecesTo_size (s : ByteArray) : ∀ (xs : List Int) (a : Nat), ∀ x ∈ piecesTo s a xs, x.size ≤ s.size
  | [], _, x, hx => by cases hx
  | z :: xs, a, x, hx => by
    have hx : x ∈ s.extract a z.toNat :: piecesTo s z.toNat xs := hx
    rcases List.mem_cons.1 hx with rfl | hx
    · rw [← bs_len, bs_extract, List.length_drop, List.length_take, bs_len]; omega
    · exact piecesTo_size s xs _ x hx
/-- Pieces of a text. -/
def cutS (s : ByteArray) : List ByteArray := piecesTo s 0 (endsF (bs s) s.size 0)
theorem cutS_of {s : ByteArray} {xs : List Int} (h : EndsTo (bs s) 0 xs s.size) : piecesTo s 0 xs = cutS s := by
  rw [← bs_len] at h
  unfold cutS
  rw [h.uniq (f := s.size) (by rw [bs_len]; omega)]
theorem piece_of {s : ByteArray} {m q : Nat} (hl : (bs s).all isL = true) (h1 : m < q) (h2 : q ≤ m + 8) (h3 : q ≤ s.size) : pieceP (bs (s.extract m q)) := by
  have hlen : (((bs s).take q).drop m).length = q - m := by rw [List.length_drop, List.length_take, bs_len]; omega
  rw [bs_extract]
  refine ⟨⟨by omega, by omega⟩, ?_⟩
  rw [List.all_eq_true] at hl ⊢
  exact fun x hx => hl x (List.mem_of_mem_take (List.mem_of_mem_drop hx))
theorem ext_size (s : ByteArray) {m q : Nat} (h3 : q ≤ s.size) : (s.extract m q).size = q - m := by
  rw [← bs_len, bs_extract, List.length_drop, List.length_take, bs_len]; omega
theorem piecesTo_piece {s : ByteArray} (hl : (bs s).all isL = true) : ∀ {a : Nat} {xs : List Int} {b : Nat}, EndsTo (bs s) a xs b → ∀ x ∈ piecesTo s a xs, pieceP (bs x)
  | a, [], b, _, x, hx => by cases hx
  | a, y :: xs, b, ⟨h1, e, h⟩, x, hx => by
    obtain ⟨k1, k2, k3⟩ := atL_bounds h1
    rw [bs_len] at k2
    have hx : x ∈ s.extract a y.toNat :: piecesTo s y.toNat xs := hx
    rw [e, Int.toNat_natCast] at hx
    rcases List.mem_cons.1 hx with rfl | hx
    · exact piece_of hl k1 k3 k2
    · exact piecesTo_piece hl h x hx
theorem ends_cut (s : ByteArray) : EndsTo (bs s) 0 (endsF (bs s) s.size 0) s.size := by
  have := endsTo_ends (l := bs s) (f := s.size) (a := 0) (Nat.zero_le _) (by rw [bs_len]; omega)
  rwa [bs_len] at this
theorem cutS_piece {s : ByteArray} (hl : (bs s).all isL = true) : ∀ x ∈ cutS s, pieceP (bs x) := piecesTo_piece hl (ends_cut s)
theorem cutS_len (s : ByteArray) : (cutS s).length ≤ s.size := by
  have := (ends_cut s).len
  unfold cutS
  rw [piecesTo_len]; omega
/-- Pieces of a text are the text. -/
def joinB (l : List ByteArray) : List Nat := l.flatMap bs
theorem joinB_pieces {s : ByteArray} : ∀ {a : Nat} {xs : List Int} {b : Nat}, EndsTo (bs s) a xs b → joinB (piecesTo s a xs) = ((bs s).take b).drop a
  | a, [], b, h => by
    have h : a = b := h
    subst h
    show [] = _
    rw [List.drop_eq_nil_of_le (by rw [List.length_take]; omega)]
  | a, x :: xs, b, ⟨h1, e, h⟩ => by
    obtain ⟨k1, k2, k3⟩ := atL_bounds h1
    have hle := h.len
    show bs (s.extract a x.toNat) ++ joinB (piecesTo s x.toNat xs) = _
    rw [e, Int.toNat_natCast, joinB_pieces h, bs_extract]
    have e2 : ((bs s).take b).drop a = (((bs s).take b).take (atL (bs s) a)).drop a ++ ((bs s).take b).drop (atL (bs s) a) := by
      conv => lhs; rw [← List.take_append_drop (atL (bs s) a) ((bs s).take b)]
      rw [List.drop_append_of_le_length (by rw [List.length_take, List.length_take]; omega)]
    rw [e2, List.take_take, Nat.min_eq_left (show atL (bs s) a ≤ b by omega)]
theorem joinB_cut (s : ByteArray) : joinB (cutS s) = bs s := by
  unfold cutS
  rw [joinB_pieces (ends_cut s), List.drop_zero, ← bs_len, List.take_length]

set_option maxHeartbeats 1000000 in
theorem l1At_any (s : ByteArray) (p : Nat) (hp : p < s.size) (hs : s.size ≤ 1000000) (w : World) :
    Calls Try.prog 81 #[.string s, .int .i64 p] w fun e w' => e = .returned (.int .i64 (atL (bs s) p : Nat)) ∧ Below w.heap.size w w' := by
  have hs0 : s.size ≤ maxLen := by unfold maxLen; omega
  go_enter Try.func81, Try.ntmps81
  go_wp2_with fail
  go_loopw [5] (fun ii wr => ∃ k f : Nat, k + f = 8 ∧ 3 ≤ k ∧ ii = .int .i64 k ∧ atL (bs s) p = atF (bs s) p f k ∧ Below w.heap.size w wr) (fun ii _ => 8 - (intOf ii).toNat)
  case atStart => exact ⟨3, 5, rfl, by omega, rfl, rfl, Below.refl _ _⟩
  case round =>
    obtain ⟨k, f, hkf, h3, rfl, hat, hb⟩ := hrel
    have HA := Lib.hid hat
    clear hat
    by_cases hk : k < 8
    · obtain ⟨f', rfl⟩ : ∃ f', f = f' + 1 := ⟨f - 1, by omega⟩
      have hstep : atF (bs s) p (f' + 1) k = if s.size ≤ p + k then s.size else if turnL (bs s) (p + k) = true then p + k else atF (bs s) p f' (k + 1) := by
        show (if (bs s).length ≤ p + k then (bs s).length else _) = _
        rw [bs_len]
      have HS := Lib.hid hstep; clear hstep
      by_cases hge : s.size ≤ p + k
      · have t1 : decide ((s.size : Int) ≤ (p : Int) + (k : Int)) = true := decide_eq_true (by omega)
        go_wp2_with fail
        go_ret
        exact ⟨by rw [HA.out, HS.out, if_pos hge]; rfl, hb⟩
      · have t1 : decide ((s.size : Int) ≤ (p : Int) + (k : Int)) = false := decide_eq_false (by omega)
        rw [if_neg hge] at HS
        obtain ⟨pk, hpk⟩ : ∃ m, m = p + k := ⟨_, rfl⟩
        have e1 : (p : Int) + (k : Int) = ((pk : Nat) : Int) := by omega
        have hpk2 : 3 ≤ pk ∧ pk < s.size := by omega
        rw [e1] at t1
        rw [← hpk] at HS
        clear hpk
        go_wp2_with fail
        refine (l1Turn_any s pk hpk2 hs0 wr).mono ?_
        rintro e w1 ⟨rfl, b1⟩
        cases ht : turnL (bs s) pk with
        | true =>
          have HE := Lib.hid (HA.out.trans (HS.out.trans (if_pos ht)))
          clear ht
          go_wp2_with fail
          go_ret
          exact ⟨by rw [HE.out]; rfl, below_below hb b1⟩
        | false =>
          have HE := Lib.hid (HA.out.trans (HS.out.trans (if_neg (by rw [ht]; exact Bool.false_ne_true))))
          clear ht
          go_wp2_with fail
          go_roundw
          case rel => exact ⟨k + 1, f', by omega, by omega, by go_num, HE.out, below_below hb b1⟩
          case measure => simp [intOf]; omega
    · obtain rfl : k = 8 := by omega
      obtain rfl : f = 0 := by omega
      have hstep : atF (bs s) p 0 8 = min (p + 8) s.size := by
        show min (p + 8) (bs s).length = _
        rw [bs_len]
      have HE := Lib.hid (HA.out.trans hstep)
      clear hstep HA
      by_cases hge : p + 8 ≤ s.size
      · have t1 : decide ((p : Int) + 8 ≤ (s.size : Int)) = true := decide_eq_true (by omega)
        rw [Nat.min_eq_left hge] at HE
        go_wp2_with fail
        go_ret
        exact ⟨by rw [HE.out]; simp, hb⟩
      · have t1 : decide ((p : Int) + 8 ≤ (s.size : Int)) = false := decide_eq_false (by omega)
        rw [Nat.min_eq_right (by omega)] at HE
        go_wp2_with fail
        go_ret
        exact ⟨by rw [HE.out]; simp, hb⟩
def EndsPost (s : ByteArray) (w : World) (e : Ending) (w' : World) : Prop := ∃ v xs, e = .returned v ∧ OwnF FInt 3 w' w.heap.size v xs ∧ EndsTo (bs s) 0 xs s.size ∧ Below w.heap.size w w'
set_option maxHeartbeats 1000000 in
theorem l1Ends_any (s : ByteArray) (hs : s.size ≤ 100000) (w : World) :
    Calls Try.prog 78 #[.string s] w (EndsPost s w) := by
  go_enter Try.func78, Try.ntmps78
  go_wp2_with fail
  have hb0 := below_alloc w (.cells #[] 3)
  have ho0 : OwnF FInt 3 (w.alloc (.cells #[] 3)) w.heap.size (.slice (some ⟨w.heap.size, 0, none⟩) 0 0) [] := (Lit0.new w 3 (Nat.le_refl _)).own 1
  generalize w.alloc (.cells #[] 3) = w0 at *
  go_loopw [3, 4] (fun oo ii wr => ∃ (k : Nat) (xs : List Int), k ≤ s.size ∧ ii = .int .i64 k ∧ OwnF FInt 3 wr w.heap.size oo xs ∧ EndsTo (bs s) 0 xs k ∧ Below w.heap.size w wr) (fun _ ii _ => s.size - (intOf ii).toNat)
  case atStart => exact ⟨0, [], Nat.zero_le _, rfl, ho0, rfl, hb0⟩
  case round =>
    clear ho0 hb0
    obtain ⟨k, xs, hk, rfl, ho, hc, hb⟩ := hrel
    obtain ⟨A, c, rfl⟩ := ho.form
    by_cases hlt : k < s.size
    · go_wp2_with fail
      refine (l1At_any s k hlt (by omega) wr).mono ?_
      rintro e w1 ⟨rfl, b1⟩
      have hbd := atL_bounds (l := bs s) (a := k) (by rw [bs_len]; exact hlt)
      rw [bs_len] at hbd
      have hl := hc.len
      have ho1 := ho.below b1
      have hb1 := below_below hb b1
      have HC := Lib.hid (hc.snoc (by rw [bs_len]; exact hlt))
      revert HC hbd
      generalize atL (bs s) k = q
      intro hbd HC
      clear ho hb hc
      go_wp2_with (at_builtin; refine app_flat (F := FInt) (v := .slice A xs.length c) rfl (.tmp 13) (.tmp 15) 87 rfl elem_int (q : Int) rfl ho1 rfl rfl (by omega) hb1.size ?_; intro va wa oa cha ata; obtain ⟨Aa, ca, rfl⟩ := oa.form; simp only [List.length_append, List.length_cons, List.length_nil, Nat.zero_add] at oa)
      go_roundw
      case rel => exact ⟨q, xs ++ [(q : Int)], hbd.2.1, rfl, by simpa using oa, HC.out, hb1.trans (cha.below hb1.size fun i hi hx => by have := (ho1.at_ hx).1; omega)⟩
      case measure => simp [intOf]; omega
    · obtain rfl : k = s.size := by omega
      go_wp2_with fail
      go_ret
      exact ⟨_, xs, rfl, ho, hc, hb⟩
def PiecesPost (s : ByteArray) (w : World) (e : Ending) (w' : World) : Prop := ∃ v, e = .returned v ∧ OwnF FStr 9 w' w.heap.size v (cutS s) ∧ Below w.heap.size w w'
set_option maxRecDepth 8000 in
set_option maxHeartbeats 2000000 in
theorem l1All_any (s : ByteArray) (hs : s.size ≤ 100000) (w : World) :
    Calls Try.prog 68 #[.string s] w (PiecesPost s w) := by
  go_enter Try.func68, Try.ntmps68
  go_wp2_with fail
  have hb0 := below_alloc w (.cells #[] 9)
  have ho0 : OwnF FStr 9 (w.alloc (.cells #[] 9)) w.heap.size (.slice (some ⟨w.heap.size, 0, none⟩) 0 0) [] := (Lit0.new w 9 (Nat.le_refl _)).own 1
  generalize w.alloc (.cells #[] 9) = w0 at *
  refine (l1Ends_any s hs w0).mono ?_
  rintro e w1 ⟨ve, es, rfl, oe, hce, b1⟩
  obtain ⟨Ae, ce, rfl⟩ := oe.form
  have ho1 := ho0.below b1
  have hb1 := below_below hb0 b1
  have z1 := b1.size
  have hel := hce.len
  have oer := oe.deep (hce.in64 (by rw [bs_len]; unfold maxLen; omega)) w0.heap.size
  have her := oer.sl (Nat.le_refl _)
  have HE := Lib.hid hce; have HO := Lib.hid ho1; have HR := Lib.hid her; have HB := Lib.hid hb1
  clear ho0 hb0 b1 hce ho1 hb1 oer her oe
  go_wp2_with fail
  go_loopw [3, 4, 6] (fun oo aa ii wr => ∃ (k m : Nat), k ≤ es.length ∧ m ≤ s.size ∧ ii = .int .i64 k ∧ aa = .int .i64 m ∧ EndsTo (bs s) 0 (es.take k) m ∧ OwnF FStr 9 wr w.heap.size oo (piecesTo s 0 (es.take k)) ∧ Below w.heap.size w wr ∧ RSlT 3 (RFlat FInt) 1 wr w0.heap.size w1.heap.size es [.slice Ae es.length ce]) (fun _ _ ii _ => es.length - (intOf ii).toNat)
  case atStart => exact ⟨0, 0, Nat.zero_le _, Nat.zero_le _, rfl, rfl, rfl, HO.out, HB.out, HR.out⟩
  case round =>
    clear HO HB HR
    obtain ⟨k, m, hk, hms, rfl, rfl, hc, ho, hb, hr⟩ := hrel
    by_cases hlt : k < es.length
    · obtain ⟨y, hyk⟩ := some_of_lt hlt
      obtain ⟨rfl, hml, h4⟩ := HE.out.at_ hc hyk
      obtain ⟨h1, h3, h2⟩ := atL_bounds hml
      rw [bs_len] at h3
      have hnx : piecesTo s 0 (es.take (k + 1)) = piecesTo s 0 (es.take k) ++ [s.extract m (atL (bs s) m)] := by rw [take_succ hyk, piecesTo_snoc hc]
      have hxl : (piecesTo s 0 (es.take k)).length = k := by rw [piecesTo_len, List.length_take, Nat.min_eq_left hk]
      have hgd : ∀ x ∈ piecesTo s 0 (es.take k), x.size ≤ maxLen := fun x hx => by
        have := piecesTo_size s _ _ x hx
        unfold maxLen; omega
      revert hnx; revert h4; revert h3; revert h2; revert h1; revert hyk
      generalize atL (bs s) m = q
      generalize piecesTo s 0 (es.take k) = xs at ho hxl hgd ⊢
      intro hyk h1 h2 h3 h4 hnx
      obtain ⟨A, c, rfl⟩ := ho.form
      obtain ⟨b', off, cs, e0, hb'1, hb'2, _, ⟨rfl, hgd0⟩, hcc⟩ := hr.1.at_ hyk
      subst e0
      obtain ⟨dsb, hkb⟩ := hr.2 (by omega) _ _ _ _ rfl
      have hc0 : wr.cell? ⟨b', off + k, none⟩ = some (.int .i64 (q : Int)) := by simpa using hcc 0 _ rfl
      have HN := Lib.hid hnx; have H4 := Lib.hid h4; have HR := Lib.hid hr; have HG := Lib.hid hgd
      have hps : (s.extract m q).size ≤ maxLen := by rw [ext_size s h3]; unfold maxLen; omega
      have HXL := Lib.hid hxl
      have hxl2 : xs.length ≤ 100000 := by omega
      clear hcc hnx h4 hr hc hyk hxl hml hgd
      have hne : ∀ hs : (Value.slice A xs.length c).ownBlock = some b', False := fun hs => by
        obtain ⟨ds, hd⟩ := (OwnF.deep ho (fun x hx => HG.out x hx) 0).blk hs
        exact absurd (blk_type hkb hd) (by decide)
      have HNE := Lib.hid hne; clear hne
      have g1 : ¬ ((m : Int) < 0) := by omega
      have g2 : (m : Int) ≤ (q : Int) := by omega
      have g3 : (q : Int) ≤ (s.size : Int) := by omega
      go_wp2_with (at_builtin; refine app_flat (F := FStr) (v := .slice A xs.length c) rfl (.tmp 16) (.tmp 24) 77 rfl elem_str (s.extract m q) rfl ho rfl rfl (by omega) hb.size ?_; intro va wa oa cha ata; obtain ⟨Aa, ca, rfl⟩ := oa.form; simp only [List.length_append, List.length_cons, List.length_nil, Nat.zero_add] at oa; have hc1 := cell_chg hc0 cha HNE.out)
      go_roundw
      case rel =>
        refine ⟨k + 1, q, by omega, h3, by go_num, rfl, H4.out, by rw [HN.out]; simpa using oa, hb.trans (cha.below hb.size fun i hi hx => by have := (ho.at_ hx).1; omega), ?_⟩
        exact (RSlT.tloc (RFlat.tloc FInt)).go (fun b b1 b2 ht => cha.block b (by obtain ⟨t, _, d, hd⟩ := ht; exact hd.lt) fun hs => by
            obtain ⟨ds, hd⟩ := (OwnF.deep ho (fun x hx => HG.out x hx) 0).blk hs
            obtain ⟨t, ht1, d2, hd2⟩ := ht
            have e1 := blk_type hd hd2
            rw [List.mem_singleton.1 ht1] at e1
            exact absurd e1 (by decide)) (Nat.le_refl _) (Nat.le_refl _) HR.out
      case measure => simp [intOf]; omega
    · obtain rfl : k = es.length := by omega
      rw [List.take_length, cutS_of HE.out] at ho
      obtain ⟨A, c, rfl⟩ := ho.form
      go_wp2_with fail
      go_ret
      exact ⟨_, rfl, ho, hb⟩
end Go.Proofs.Ytpdkgpbfmpekgaa




/- Trees of the reference: lists of files. -/
namespace Go.Proofs.Ytpdkgpbfmpekgaa
open Go.RowKit

structure Nd where
  p : ByteArray
  b : ByteArray
def FNd : Flat Nd := ⟨2, fun x => [.string x.p, .string x.b], fun x => x.p.size ≤ maxLen ∧ x.b.size ≤ maxLen, fun _ => rfl, fun x u hu => by simp at hu; rcases hu with rfl | rfl <;> rfl, by decide⟩
abbrev RNds : Rep (List Nd) := RSlT 96 (RFlat FNd) 2
theorem RNds.tloc : TLoc RNds [96] := RSlT.tloc (RFlat.tloc FNd)
theorem elem_nd : Elem Try.prog 67 96 2 32 := Elem.mk' Try.underlying67 (z := .agg #[.string ⟨#[]⟩, .string ⟨#[]⟩]) (by kernel_rfl) rfl (by decide) (by decide)
/-- A file that stands. -/
def okNd (x : Nd) : Prop := pathB x.p = true ∧ textB x.b = true
def Fine (xs : List Nd) : Prop := (∀ x ∈ xs, okNd x) ∧ xs.length ≤ 6
theorem nd_at {w : World} {lo hi : Nat} {xs : List Nd} {A : Option Addr} {n c : Nat} (h : RNds w lo hi xs [.slice A n c]) {k : Nat} {x : Nd} (hk : xs[k]? = some x) :
    ∃ b off, A = some ⟨b, off, none⟩ ∧ lo ≤ b ∧ b < hi ∧ FNd.good x ∧ w.cell? ⟨b, off + k * 2, none⟩ = some (.string x.p) ∧ w.cell? ⟨b, off + k * 2 + 1, none⟩ = some (.string x.b) := by
  obtain ⟨b, off, es, e0, h1, h2, _, ⟨rfl, hg⟩, hcc⟩ := h.1.at_ hk
  exact ⟨b, off, e0, h1, h2, hg, by simpa using hcc 0 _ rfl, by simpa using hcc 1 _ rfl⟩
set_option maxRecDepth 8000 in
set_option maxHeartbeats 4000000 in
theorem TreeOk_any (xs : List Nd) (v : Value) (w : World) (lo hi : Nat) (h : RNds w lo hi xs [v]) (hhi : hi ≤ w.heap.size) :
    Calls Try.prog 51 #[v] w fun e w' => BoolIf (Fine xs) e ∧ Below w.heap.size w w' := by
  obtain ⟨A, c, rfl⟩ := h.form
  obtain ⟨_, hc, hx⟩ := h.1.len_
  unfold maxLen at hx
  go_enter Try.func51, Try.ntmps51
  go_wp2_with fail
  go_loopw [3] (fun ii wr => ∃ k : Nat, k ≤ xs.length ∧ ii = .int .i64 k ∧ (∀ x ∈ xs.take k, okNd x) ∧ Below w.heap.size w wr) (fun ii _ => xs.length - (intOf ii).toNat)
  case atStart => exact ⟨0, Nat.zero_le _, rfl, by simp, Below.refl _ _⟩
  case round =>
    obtain ⟨k, hk, rfl, hok, hb⟩ := hrel
    have HOK := Lib.hid hok; clear hok
    by_cases hlt : k < xs.length
    · obtain ⟨x, hxk⟩ := some_of_lt hlt
      obtain ⟨b0, off, rfl, _, hb0, hg, c0, c1⟩ := nd_at (RNds.tloc.below h hb hhi) hxk
      have HX := Lib.hid hxk; clear hxk
      cases hqp : pathB x.p
      · have HQP := Lib.hid hqp; clear hqp
        go_wp2_with fail
        have past0 := past_cell c0
        have past1 := past_cell c1
        refine region_past (by kernel_rfl) (by kernel_rfl) ?_
        repeat (go_big_quiet_step (first | (go_at_call 57; refine past_same (v := .bool false) ?_; rw [← HQP.out]; exact PathOk_any x.p hg.1 _)))
        refine wpQuiet_nil ?_
        intro wq hw1
        have hq := past_out hw1
        clear hw1 past0 past1
        go_wp2_with fail
        go_ret
        exact ⟨.inr rfl, below_below hb hq⟩
      · have HQP := Lib.hid hqp; clear hqp
        cases hqt : textB x.b
        · have HQT := Lib.hid hqt; clear hqt
          go_wp2_with fail
          have past0 := past_cell c0
          have past1 := past_cell c1
          refine region_past (by kernel_rfl) (by kernel_rfl) ?_
          repeat (go_big_quiet_step (first | (go_at_call 57; refine past_same (v := .bool true) ?_; rw [← HQP.out]; exact PathOk_any x.p hg.1 _) | (go_at_call 58; refine past_same (v := .bool false) ?_; rw [← HQT.out]; exact TextOk_any x.b hg.2 _)))
          refine wpQuiet_nil ?_
          intro wq hw1
          have hq := past_out hw1
          clear hw1 past0 past1
          go_wp2_with fail
          go_ret
          exact ⟨.inr rfl, below_below hb hq⟩
        · have HQT := Lib.hid hqt; clear hqt
          have hok2 : ∀ y ∈ xs.take (k + 1), okNd y := fun y hy => by
            rw [take_succ HX.out, List.mem_append] at hy
            rcases hy with hy | hy
            · exact HOK.out y hy
            · rw [List.mem_singleton.1 hy]; exact ⟨HQP.out, HQT.out⟩
          have HOK2 := Lib.hid hok2; clear hok2
          by_cases hk0 : k = 0
          · have t1 : decide (0 < k) = false := decide_eq_false (by omega)
            clear hk0
            go_wp2_with fail
            have past0 := past_cell c0
            have past1 := past_cell c1
            refine region_past (by kernel_rfl) (by kernel_rfl) ?_
            repeat (go_big_quiet_step (first | (go_at_call 57; refine past_same (v := .bool true) ?_; rw [← HQP.out]; exact PathOk_any x.p hg.1 _) | (go_at_call 58; refine past_same (v := .bool true) ?_; rw [← HQT.out]; exact TextOk_any x.b hg.2 _)))
            refine wpQuiet_nil ?_
            intro wq hw1
            have hq := past_out hw1
            clear hw1 past0 past1
            have hb2 := below_below hb hq
            clear c0 c1 t1
            go_wp2_with fail
            go_loopw [4] (fun jj wr => ∃ j : Nat, j ≤ k ∧ jj = .int .i64 j ∧ Below w.heap.size w wr) (fun jj _ => k - (intOf jj).toNat)
            case atStart => exact ⟨0, Nat.zero_le _, rfl, hb2⟩
            case round =>
              clear hb2 hq
              obtain ⟨j, hj, rfl, hb3⟩ := hrel
              by_cases hjk : j < k
              · obtain ⟨y, hyk⟩ := some_of_lt (l := xs) (k := j) (by omega)
                obtain ⟨b1, off1, e0, _, _, hgy, d0, _⟩ := nd_at (RNds.tloc.below h hb3 hhi) hyk
                simp only [Option.some.injEq, Addr.mk.injEq, and_true] at e0
                obtain ⟨rfl, rfl⟩ := e0
                obtain ⟨b1, off1, e0, _, _, _, c0, _⟩ := nd_at (RNds.tloc.below h hb3 hhi) HX.out
                simp only [Option.some.injEq, Addr.mk.injEq, and_true] at e0
                obtain ⟨rfl, rfl⟩ := e0
                have hyp : 0 < y.p.size := by
                  have hm : y ∈ xs.take k := by
                    have : (xs.take k)[j]? = some y := by rw [List.getElem?_take, if_pos hjk]; exact hyk
                    exact List.mem_of_getElem? this
                  have := pathB_size (HOK.out y hm).1
                  omega
                have hxp : 0 < x.p.size := by have := pathB_size HQP.out; omega
                have HC := Lib.hid (fun w' : World => l11Clash_any y.p x.p ⟨hyp, hgy.1⟩ ⟨hxp, hg.1⟩ w')
                clear hyk
                cases hcl : clashB y.p x.p
                · have HCL := Lib.hid hcl; clear hcl
                  go_wp2_with fail
                  have past0 := past_cell d0
                  have past1 := past_cell c0
                  refine region_past (by kernel_rfl) (by kernel_rfl) ?_
                  repeat (go_big_quiet_step (first | (go_at_call 67; refine past_call (v := .bool false) ?_; rw [← HCL.out]; exact HC.out _)))
                  refine wpQuiet_nil ?_
                  intro wq hw1
                  have hq := past_out hw1
                  clear hw1 past0 past1
                  go_wp2_with fail
                  go_roundw
                  case rel => exact ⟨j + 1, by omega, by go_num, below_below hb3 hq⟩
                  case measure => simp [intOf]; omega
                · have HCL := Lib.hid hcl; clear hcl
                  go_wp2_with fail
                  have past0 := past_cell d0
                  have past1 := past_cell c0
                  refine region_past (by kernel_rfl) (by kernel_rfl) ?_
                  repeat (go_big_quiet_step (first | (go_at_call 67; refine past_call (v := .bool true) ?_; rw [← HCL.out]; exact HC.out _)))
                  refine wpQuiet_nil ?_
                  intro wq hw1
                  have hq := past_out hw1
                  clear hw1 past0 past1
                  go_wp2_with fail
                  go_ret
                  exact ⟨.inr rfl, below_below hb3 hq⟩
              · obtain rfl : j = k := by omega
                go_wp2_with fail
                go_roundw
                case rel => exact ⟨j + 1, by omega, by go_num, HOK2.out, hb3⟩
                case measure => simp [intOf]; omega
          · obtain ⟨k', hk'⟩ : ∃ m, m = k - 1 := ⟨_, rfl⟩
            have e1 : (k : Int) - 1 = ((k' : Nat) : Int) := by omega
            have hk2 : k' < xs.length := by omega
            have t1 : decide (0 < k) = true := decide_eq_true (by omega)
            obtain ⟨z, hzk⟩ := some_of_lt hk2
            obtain ⟨b1, off1, e0, _, _, hgz, d0, _⟩ := nd_at (RNds.tloc.below h hb hhi) hzk
            simp only [Option.some.injEq, Addr.mk.injEq, and_true] at e0
            obtain ⟨rfl, rfl⟩ := e0
            have HZ := Lib.hid hzk; clear hzk
            clear hk'
            cases hcmp : Op.bytesLess z.p.toList x.p.toList
            · go_wp2_with fail
              have past0 := past_cell c0
              have past1 := past_cell c1
              have past2 := past_cell d0
              refine region_past (by kernel_rfl) (by kernel_rfl) ?_
              repeat (go_big_quiet_step (first | (go_at_call 57; refine past_same (v := .bool true) ?_; rw [← HQP.out]; exact PathOk_any x.p hg.1 _) | (go_at_call 58; refine past_same (v := .bool true) ?_; rw [← HQT.out]; exact TextOk_any x.b hg.2 _)))
              refine wpQuiet_nil ?_
              intro wq hw1
              have hq := past_out hw1
              clear hw1 past0 past1 past2
              go_wp2_with fail
              go_ret
              exact ⟨.inr rfl, below_below hb hq⟩
            · go_wp2_with fail
              have past0 := past_cell c0
              have past1 := past_cell c1
              have past2 := past_cell d0
              refine region_past (by kernel_rfl) (by kernel_rfl) ?_
              repeat (go_big_quiet_step (first | (go_at_call 57; refine past_same (v := .bool true) ?_; rw [← HQP.out]; exact PathOk_any x.p hg.1 _) | (go_at_call 58; refine past_same (v := .bool true) ?_; rw [← HQT.out]; exact TextOk_any x.b hg.2 _)))
              refine wpQuiet_nil ?_
              intro wq hw1
              have hq := past_out hw1
              clear hw1 past0 past1 past2
              clear d0 hcmp e1
              have hb2 := below_below hb hq
              clear c0 c1 t1
              go_wp2_with fail
              go_loopw [4] (fun jj wr => ∃ j : Nat, j ≤ k ∧ jj = .int .i64 j ∧ Below w.heap.size w wr) (fun jj _ => k - (intOf jj).toNat)
              case atStart => exact ⟨0, Nat.zero_le _, rfl, hb2⟩
              case round =>
                clear hb2 hq
                obtain ⟨j, hj, rfl, hb3⟩ := hrel
                by_cases hjk : j < k
                · obtain ⟨y, hyk⟩ := some_of_lt (l := xs) (k := j) (by omega)
                  obtain ⟨b1, off1, e0, _, _, hgy, d0, _⟩ := nd_at (RNds.tloc.below h hb3 hhi) hyk
                  simp only [Option.some.injEq, Addr.mk.injEq, and_true] at e0
                  obtain ⟨rfl, rfl⟩ := e0
                  obtain ⟨b1, off1, e0, _, _, _, c0, _⟩ := nd_at (RNds.tloc.below h hb3 hhi) HX.out
                  simp only [Option.some.injEq, Addr.mk.injEq, and_true] at e0
                  obtain ⟨rfl, rfl⟩ := e0
                  have hyp : 0 < y.p.size := by
                    have hm : y ∈ xs.take k := by
                      have : (xs.take k)[j]? = some y := by rw [List.getElem?_take, if_pos hjk]; exact hyk
                      exact List.mem_of_getElem? this
                    have := pathB_size (HOK.out y hm).1
                    omega
                  have hxp : 0 < x.p.size := by have := pathB_size HQP.out; omega
                  have HC := Lib.hid (fun w' : World => l11Clash_any y.p x.p ⟨hyp, hgy.1⟩ ⟨hxp, hg.1⟩ w')
                  clear hyk
                  cases hcl : clashB y.p x.p
                  · have HCL := Lib.hid hcl; clear hcl
                    go_wp2_with fail
                    have past0 := past_cell d0
                    have past1 := past_cell c0
                    refine region_past (by kernel_rfl) (by kernel_rfl) ?_
                    repeat (go_big_quiet_step (first | (go_at_call 67; refine past_call (v := .bool false) ?_; rw [← HCL.out]; exact HC.out _)))
                    refine wpQuiet_nil ?_
                    intro wq hw1
                    have hq := past_out hw1
                    clear hw1 past0 past1
                    go_wp2_with fail
                    go_roundw
                    case rel => exact ⟨j + 1, by omega, by go_num, below_below hb3 hq⟩
                    case measure => simp [intOf]; omega
                  · have HCL := Lib.hid hcl; clear hcl
                    go_wp2_with fail
                    have past0 := past_cell d0
                    have past1 := past_cell c0
                    refine region_past (by kernel_rfl) (by kernel_rfl) ?_
                    repeat (go_big_quiet_step (first | (go_at_call 67; refine past_call (v := .bool true) ?_; rw [← HCL.out]; exact HC.out _)))
                    refine wpQuiet_nil ?_
                    intro wq hw1
                    have hq := past_out hw1
                    clear hw1 past0 past1
                    go_wp2_with fail
                    go_ret
                    exact ⟨.inr rfl, below_below hb3 hq⟩
                · obtain rfl : j = k := by omega
                  go_wp2_with fail
                  go_roundw
                  case rel => exact ⟨j + 1, by omega, by go_num, HOK2.out, hb3⟩
                  case measure => simp [intOf]; omega
    · obtain rfl : k = xs.length := by omega
      by_cases h6 : xs.length ≤ 6
      · have t1 : decide ((xs.length : Int) ≤ 6) = true := decide_eq_true (by omega)
        go_wp2_with fail
        go_ret
        exact ⟨.inl ⟨rfl, by have := HOK.out; rwa [List.take_length] at this, h6⟩, hb⟩
      · have t1 : decide ((xs.length : Int) ≤ 6) = false := decide_eq_false (by omega)
        go_wp2_with fail
        go_ret
        exact ⟨.inr rfl, hb⟩
end Go.Proofs.Ytpdkgpbfmpekgaa




/- Files put into trees and taken out, by the reference. -/
namespace Go.Proofs.Ytpdkgpbfmpekgaa
open Go.RowKit

def NdsPost (p : List Nd → Prop) (w : World) (e : Ending) (w' : World) : Prop := ∃ v ys, e = .returned v ∧ OwnF FNd 96 w' w.heap.size v ys ∧ p ys ∧ Below w.heap.size w w'
set_option maxHeartbeats 2000000 in
theorem l11Drop_any (xs : List Nd) (s : ByteArray) (v : Value) (w : World) (lo hi : Nat) (h : RNds w lo hi xs [v]) (hhi : hi ≤ w.heap.size) (hl : xs.length ≤ 1000) :
    Calls Try.prog 30 #[v, .string s] w (NdsPost (fun ys => (∀ y ∈ ys, y ∈ xs) ∧ ys.length ≤ xs.length) w) := by
  obtain ⟨A, c, rfl⟩ := h.form
  go_enter Try.func30, Try.ntmps30
  go_wp2_with fail
  have hb0 := below_alloc w (.cells #[] 96)
  have ho0 : OwnF FNd 96 (w.alloc (.cells #[] 96)) w.heap.size (.slice (some ⟨w.heap.size, 0, none⟩) 0 0) [] := (Lit0.new w 96 (Nat.le_refl _)).own 2
  generalize w.alloc (.cells #[] 96) = w0 at *
  go_loopw [5, 6] (fun oo ii wr => ∃ (k : Nat) (ys : List Nd), k ≤ xs.length ∧ ii = .int .i64 k ∧ OwnF FNd 96 wr w.heap.size oo ys ∧ (∀ y ∈ ys, y ∈ xs) ∧ ys.length ≤ k ∧ Below w.heap.size w wr) (fun _ ii _ => xs.length - (intOf ii).toNat)
  case atStart => exact ⟨0, [], Nat.zero_le _, rfl, ho0, fun y hy => (by cases hy), Nat.le_refl _, hb0⟩
  case round =>
    clear ho0 hb0
    obtain ⟨k, ys, hk, rfl, ho, hy, hyl, hb⟩ := hrel
    obtain ⟨Ao, co, rfl⟩ := ho.form
    by_cases hlt : k < xs.length
    · obtain ⟨x, hxk⟩ := some_of_lt hlt
      obtain ⟨b1, off, rfl, _, hb1, hg, c0, c1⟩ := nd_at (RNds.tloc.below h hb hhi) hxk
      have HX := Lib.hid (List.mem_of_getElem? hxk)
      have HY := Lib.hid hy
      clear hxk hy
      cases hq : (x.p.toList == s.toList)
      · go_wp2_with (at_builtin; refine app_flat (F := FNd) (v := .slice Ao ys.length co) rfl (.tmp 21) (.tmp 26) 67 rfl elem_nd x rfl ho rfl rfl (by omega) hb.size ?_; intro va wa oa cha ata; obtain ⟨Aa, ca, rfl⟩ := oa.form; simp only [List.length_append, List.length_cons, List.length_nil, Nat.zero_add] at oa)
        go_roundw
        case rel =>
          refine ⟨k + 1, ys ++ [x], by omega, by go_num, by simpa using oa, fun y hy => ?_, by simp; omega, hb.trans (cha.below hb.size fun i hi hx => by have := (ho.at_ hx).1; omega)⟩
          rcases List.mem_append.1 hy with hy | hy
          · exact HY.out y hy
          · rw [List.mem_singleton.1 hy]; exact HX.out
        case measure => simp [intOf]; omega
      · go_wp2_with fail
        go_roundw
        case rel => exact ⟨k + 1, ys, by omega, by go_num, ho, HY.out, by omega, hb⟩
        case measure => simp [intOf]; omega
    · obtain rfl : k = xs.length := by omega
      go_wp2_with fail
      go_ret
      exact ⟨_, ys, rfl, ho, ⟨hy, hyl⟩, hb⟩
set_option maxRecDepth 8000 in
set_option maxHeartbeats 4000000 in
theorem l11Put_any (xs : List Nd) (f : Nd) (hf : FNd.good f) (v : Value) (w : World) (lo hi : Nat) (h : RNds w lo hi xs [v]) (hhi : hi ≤ w.heap.size) (hl : xs.length ≤ 1000) :
    Calls Try.prog 59 #[v, .agg #[.string f.p, .string f.b]] w (NdsPost (fun ys => (∀ y ∈ ys, y ∈ xs ∨ y = f) ∧ ys.length ≤ xs.length + 1) w) := by
  obtain ⟨A, c, rfl⟩ := h.form
  go_enter Try.func59, Try.ntmps59
  go_wp2_with fail
  have hbw0 : Below w.heap.size w ((w.alloc (.cells #[.string f.p, .string f.b] 96)).alloc (.cells #[] 96)) := below_alloc' (below_alloc _ _) _
  have k0 : Blk ((w.alloc (.cells #[.string f.p, .string f.b] 96)).alloc (.cells #[] 96)) (w.heap.size) 96 #[.string f.p, .string f.b] := by
    have hk := blk_alloc (Blk.new w 96 #[.string f.p, .string f.b]) (.cells #[] 96)
    exact hk
  have k1 : Blk ((w.alloc (.cells #[.string f.p, .string f.b] 96)).alloc (.cells #[] 96)) (w.heap.size + 1) 96 #[] := by
    have hk := Blk.new (w.alloc (.cells #[.string f.p, .string f.b] 96)) 96 #[]
    simp only [World.size_alloc] at hk
    exact hk
  have hsw0 : w.heap.size + 2 ≤ ((w.alloc (.cells #[.string f.p, .string f.b] 96)).alloc (.cells #[] 96)).heap.size := by simp only [World.size_alloc]; omega
  generalize ((w.alloc (.cells #[.string f.p, .string f.b] 96)).alloc (.cells #[] 96)) = w0 at *
  have ck0 := k0.cell
  have fk0 := k0.frozen
  have ck1 := k1.cell
  have fk1 := k1.frozen
  have ho0 : OwnF FNd 96 w0 (w.heap.size + 1) (.slice (some ⟨w.heap.size + 1, 0, none⟩) 0 0) [] := Lit0.own ⟨_, rfl, Nat.le_refl _, k1⟩ 2
  clear k1 ck1 fk1 ck0 fk0
  go_loopw [5, 6, 7] (fun oo dd ii wr => ∃ (k : Nat) (d : Bool) (ys : List Nd), k ≤ xs.length ∧ ii = .int .i64 k ∧ dd = .bool d ∧ OwnF FNd 96 wr (w.heap.size + 1) oo ys ∧ (∀ y ∈ ys, y ∈ xs ∨ y = f) ∧ ys.length ≤ k + (if d then 1 else 0) ∧ Below (w.heap.size + 1) w0 wr) (fun _ _ ii _ => xs.length - (intOf ii).toNat)
  case atStart => exact ⟨0, false, [], Nat.zero_le _, rfl, rfl, ho0, fun y hy => (by cases hy), Nat.le_refl _, Below.refl _ _⟩
  case round =>
    clear ho0
    obtain ⟨k, d, ys, hk, rfl, rfl, ho, hy, hyl, hb⟩ := hrel
    obtain ⟨Ao, co, rfl⟩ := ho.form
    have kb : Blk wr w.heap.size 96 #[.string f.p, .string f.b] := (hb.block _ (by omega)).trans k0
    have cf0 : wr.cell? ⟨w.heap.size, 0, none⟩ = some (.string f.p) := kb.cell 0
    have cf1 : wr.cell? ⟨w.heap.size, 1, none⟩ = some (.string f.b) := kb.cell 1
    have hbw : Below w.heap.size w wr := hbw0.trans (hb.mono (by omega))
    have HY := Lib.hid hy
    clear hy
    by_cases hlt : k < xs.length
    · obtain ⟨x, hxk⟩ := some_of_lt hlt
      obtain ⟨b1, off, rfl, _, hb1, hg, c0, c1⟩ := nd_at (RNds.tloc.below h hbw hhi) hxk
      have HX := Lib.hid (List.mem_of_getElem? hxk)
      have HXK := Lib.hid hxk
      clear hxk
      clear c0 c1
      cases d
      · cases hcmp : Op.bytesLess x.p.toList f.p.toList
        · obtain ⟨b2, off2, e0, _, _, _, c0, _⟩ := nd_at (RNds.tloc.below h hbw hhi) HXK.out
          simp only [Option.some.injEq, Addr.mk.injEq, and_true] at e0
          obtain ⟨rfl, rfl⟩ := e0
          go_wp2_with fail
          have past0 := past_cell c0
          have past1 := past_cell cf0
          refine region_past (by kernel_rfl) (by kernel_rfl) ?_
          repeat (go_big_quiet_step (fail))
          refine wpQuiet_nil ?_
          intro wq hw1
          have hq := past_out hw1
          clear hw1 past0 past1
          have hbq := hb.trans (hq.mono (by have := hb.size; omega))
          have hoq := ho.below hq
          have cg0 := cell_keep hq cf0
          have cg1 := cell_keep hq cf1
          have hyl0 : ys.length ≤ k := by simpa using hyl
          clear ho c0 cf0 cf1 hcmp
          go_wp2_with (at_builtin; refine app_flat (F := FNd) (v := .slice Ao ys.length co) rfl (.tmp 27) (.tmp 29) 67 rfl elem_nd f rfl hoq rfl rfl (by omega) (by have := hbq.size; omega) ?_; intro va wa oa cha ata; obtain ⟨Aa, ca, rfl⟩ := oa.form; simp only [List.length_append, List.length_cons, List.length_nil, Nat.zero_add] at oa)
          have oa' : OwnF FNd 96 wa (w.heap.size + 1) (.slice Aa (ys ++ [f]).length ca) (ys ++ [f]) := by simpa using oa
          have hba : Below (w.heap.size + 1) w0 wa := hbq.trans (cha.below (by have := hbq.size; omega) fun i hi hx => by have := (hoq.at_ hx).1; omega)
          have HYA : Hid (∀ y ∈ ys ++ [f], y ∈ xs ∨ y = f) := Lib.hid fun y hy => by
            rcases List.mem_append.1 hy with hy | hy
            · exact HY.out y hy
            · exact .inr (List.mem_singleton.1 hy)
          have hla : (ys ++ [f]).length ≤ k + (if true then 1 else 0) := by simp; omega
          have hlen : (ys ++ [f]).length = ys.length + 1 := by simp
          rw [← hlen]
          clear hlen oa hoq hbq hb hbw kb hyl cg0 cg1
          have kbv : Blk wa w.heap.size 96 #[.string f.p, .string f.b] := ((hba).block _ (by omega)).trans k0
          have cv0 : (wa).cell? ⟨w.heap.size, 0, none⟩ = some (.string f.p) := kbv.cell 0
          have hbwv : Below w.heap.size w wa := hbw0.trans ((hba).mono (by omega))
          obtain ⟨b3, off3, e0, _, _, _, d0, d1⟩ := nd_at (RNds.tloc.below h hbwv hhi) HXK.out
          simp only [Option.some.injEq, Addr.mk.injEq, and_true] at e0
          obtain ⟨rfl, rfl⟩ := e0
          cases heq : (x.p.toList == f.p.toList)
          · have past0 := past_cell d0
            have past1 := past_cell cv0
            refine region_past (by kernel_rfl) (by kernel_rfl) ?_
            repeat (go_big_quiet_step (fail))
            refine wpQuiet_nil ?_
            intro wq hw1
            have hq := past_out hw1
            clear hw1 past0 past1
            have hbz := (hba).trans (hq.mono (by have := (hba).size; omega))
            have hoz := (oa').below hq
            have d0z := cell_keep hq d0
            have d1z := cell_keep hq d1
            have hl2 : ((ys ++ [f])).length ≤ k + 1 := Nat.le_trans hla (by simp)
            have HL := Lib.hid hla
            clear d0 d1 cv0 heq hbwv kbv
            go_wp2_with (at_builtin; refine app_flat (F := FNd) (v := .slice Aa ((ys ++ [f])).length ca) rfl (.tmp 39) (.tmp 44) 67 rfl elem_nd x rfl hoz rfl rfl (by omega) (by have := hbz.size; omega) ?_; intro vb wb ob chb atb; obtain ⟨Ab, cb, rfl⟩ := ob.form)
            go_roundw
            case rel =>
              refine ⟨k + 1, true, (ys ++ [f]) ++ [x], by omega, by go_num, rfl, by simpa using ob, fun y hy => ?_, by have := HL.out; rw [List.length_append]; simp at this ⊢; omega, hbz.trans (chb.below (by have := hbz.size; omega) fun i hi hx => by have := (hoz.at_ hx).1; omega)⟩
              rcases List.mem_append.1 hy with hy | hy
              · exact (HYA).out y hy
              · rw [List.mem_singleton.1 hy]; exact .inl HX.out
            case measure => simp [intOf]; omega
          · have past0 := past_cell d0
            have past1 := past_cell cv0
            refine region_past (by kernel_rfl) (by kernel_rfl) ?_
            repeat (go_big_quiet_step (fail))
            refine wpQuiet_nil ?_
            intro wq hw1
            have hq := past_out hw1
            clear hw1 past0 past1
            have hbz := (hba).trans (hq.mono (by have := (hba).size; omega))
            have hoz := (oa').below hq
            have HL := Lib.hid hla
            clear d0 d1 cv0 heq hbwv kbv
            go_wp2_with fail
            go_roundw
            case rel => exact ⟨k + 1, true, (ys ++ [f]), by omega, by go_num, rfl, hoz, (HYA).out, by have := HL.out; simp at this ⊢; omega, hbz⟩
            case measure => simp [intOf]; omega
        · obtain ⟨b2, off2, e0, _, _, _, c0, _⟩ := nd_at (RNds.tloc.below h hbw hhi) HXK.out
          simp only [Option.some.injEq, Addr.mk.injEq, and_true] at e0
          obtain ⟨rfl, rfl⟩ := e0
          go_wp2_with fail
          have past0 := past_cell c0
          have past1 := past_cell cf0
          refine region_past (by kernel_rfl) (by kernel_rfl) ?_
          repeat (go_big_quiet_step (fail))
          refine wpQuiet_nil ?_
          intro wq hw1
          have hq := past_out hw1
          clear hw1 past0 past1
          have hbq := hb.trans (hq.mono (by have := hb.size; omega))
          have hoq := ho.below hq
          clear ho c0 cf0 cf1 hcmp hb hbw kb
          go_wp2_with fail
          have kbv : Blk wq w.heap.size 96 #[.string f.p, .string f.b] := ((hbq).block _ (by omega)).trans k0
          have cv0 : (wq).cell? ⟨w.heap.size, 0, none⟩ = some (.string f.p) := kbv.cell 0
          have hbwv : Below w.heap.size w wq := hbw0.trans ((hbq).mono (by omega))
          obtain ⟨b3, off3, e0, _, _, _, d0, d1⟩ := nd_at (RNds.tloc.below h hbwv hhi) HXK.out
          simp only [Option.some.injEq, Addr.mk.injEq, and_true] at e0
          obtain ⟨rfl, rfl⟩ := e0
          cases heq : (x.p.toList == f.p.toList)
          · have past0 := past_cell d0
            have past1 := past_cell cv0
            refine region_past (by kernel_rfl) (by kernel_rfl) ?_
            repeat (go_big_quiet_step (fail))
            refine wpQuiet_nil ?_
            intro wq hw1
            have hq := past_out hw1
            clear hw1 past0 past1
            have hbz := (hbq).trans (hq.mono (by have := (hbq).size; omega))
            have hoz := (hoq).below hq
            have d0z := cell_keep hq d0
            have d1z := cell_keep hq d1
            have hl2 : (ys).length ≤ k + 1 := Nat.le_trans hyl (by simp)
            have HL := Lib.hid hyl
            clear d0 d1 cv0 heq hbwv kbv
            go_wp2_with (at_builtin; refine app_flat (F := FNd) (v := .slice Ao (ys).length co) rfl (.tmp 39) (.tmp 44) 67 rfl elem_nd x rfl hoz rfl rfl (by omega) (by have := hbz.size; omega) ?_; intro vb wb ob chb atb; obtain ⟨Ab, cb, rfl⟩ := ob.form)
            go_roundw
            case rel =>
              refine ⟨k + 1, false, ys ++ [x], by omega, by go_num, rfl, by simpa using ob, fun y hy => ?_, by have := HL.out; rw [List.length_append]; simp at this ⊢; omega, hbz.trans (chb.below (by have := hbz.size; omega) fun i hi hx => by have := (hoz.at_ hx).1; omega)⟩
              rcases List.mem_append.1 hy with hy | hy
              · exact (HY).out y hy
              · rw [List.mem_singleton.1 hy]; exact .inl HX.out
            case measure => simp [intOf]; omega
          · have past0 := past_cell d0
            have past1 := past_cell cv0
            refine region_past (by kernel_rfl) (by kernel_rfl) ?_
            repeat (go_big_quiet_step (fail))
            refine wpQuiet_nil ?_
            intro wq hw1
            have hq := past_out hw1
            clear hw1 past0 past1
            have hbz := (hbq).trans (hq.mono (by have := (hbq).size; omega))
            have hoz := (hoq).below hq
            have HL := Lib.hid hyl
            clear d0 d1 cv0 heq hbwv kbv
            go_wp2_with fail
            go_roundw
            case rel => exact ⟨k + 1, false, ys, by omega, by go_num, rfl, hoz, (HY).out, by have := HL.out; simp at this ⊢; omega, hbz⟩
            case measure => simp [intOf]; omega
      · go_wp2_with fail
        have past0 := past_cell cf0
        refine region_past (by kernel_rfl) (by kernel_rfl) ?_
        repeat (go_big_quiet_step (fail))
        refine wpQuiet_nil ?_
        intro wq hw1
        have hq := past_out hw1
        clear hw1 past0
        have hbq := hb.trans (hq.mono (by have := hb.size; omega))
        have hoq := ho.below hq
        clear ho cf0 cf1 hb hbw kb
        go_wp2_with fail
        have kbv : Blk wq w.heap.size 96 #[.string f.p, .string f.b] := ((hbq).block _ (by omega)).trans k0
        have cv0 : (wq).cell? ⟨w.heap.size, 0, none⟩ = some (.string f.p) := kbv.cell 0
        have hbwv : Below w.heap.size w wq := hbw0.trans ((hbq).mono (by omega))
        obtain ⟨b3, off3, e0, _, _, _, d0, d1⟩ := nd_at (RNds.tloc.below h hbwv hhi) HXK.out
        simp only [Option.some.injEq, Addr.mk.injEq, and_true] at e0
        obtain ⟨rfl, rfl⟩ := e0
        cases heq : (x.p.toList == f.p.toList)
        · have past0 := past_cell d0
          have past1 := past_cell cv0
          refine region_past (by kernel_rfl) (by kernel_rfl) ?_
          repeat (go_big_quiet_step (fail))
          refine wpQuiet_nil ?_
          intro wq hw1
          have hq := past_out hw1
          clear hw1 past0 past1
          have hbz := (hbq).trans (hq.mono (by have := (hbq).size; omega))
          have hoz := (hoq).below hq
          have d0z := cell_keep hq d0
          have d1z := cell_keep hq d1
          have hl2 : (ys).length ≤ k + 1 := Nat.le_trans hyl (by simp)
          have HL := Lib.hid hyl
          clear d0 d1 cv0 heq hbwv kbv
          go_wp2_with (at_builtin; refine app_flat (F := FNd) (v := .slice Ao (ys).length co) rfl (.tmp 39) (.tmp 44) 67 rfl elem_nd x rfl hoz rfl rfl (by omega) (by have := hbz.size; omega) ?_; intro vb wb ob chb atb; obtain ⟨Ab, cb, rfl⟩ := ob.form)
          go_roundw
          case rel =>
            refine ⟨k + 1, true, ys ++ [x], by omega, by go_num, rfl, by simpa using ob, fun y hy => ?_, by have := HL.out; rw [List.length_append]; simp at this ⊢; omega, hbz.trans (chb.below (by have := hbz.size; omega) fun i hi hx => by have := (hoz.at_ hx).1; omega)⟩
            rcases List.mem_append.1 hy with hy | hy
            · exact (HY).out y hy
            · rw [List.mem_singleton.1 hy]; exact .inl HX.out
          case measure => simp [intOf]; omega
        · have past0 := past_cell d0
          have past1 := past_cell cv0
          refine region_past (by kernel_rfl) (by kernel_rfl) ?_
          repeat (go_big_quiet_step (fail))
          refine wpQuiet_nil ?_
          intro wq hw1
          have hq := past_out hw1
          clear hw1 past0 past1
          have hbz := (hbq).trans (hq.mono (by have := (hbq).size; omega))
          have hoz := (hoq).below hq
          have HL := Lib.hid hyl
          clear d0 d1 cv0 heq hbwv kbv
          go_wp2_with fail
          go_roundw
          case rel => exact ⟨k + 1, true, ys, by omega, by go_num, rfl, hoz, (HY).out, by have := HL.out; simp at this ⊢; omega, hbz⟩
          case measure => simp [intOf]; omega
    · obtain rfl : k = xs.length := by omega
      cases d
      · go_wp2_with (at_builtin; refine app_flat (F := FNd) (v := .slice Ao ys.length co) rfl (.tmp 48) (.tmp 50) 67 rfl elem_nd f rfl ho rfl rfl (by simp at hyl; omega) (by have := hb.size; omega) ?_; intro va wa oa cha ata; obtain ⟨Aa, ca, rfl⟩ := oa.form; simp only [List.length_append, List.length_cons, List.length_nil, Nat.zero_add] at oa)
        go_ret
        refine ⟨_, ys ++ [f], rfl, (by simpa using oa : OwnF FNd 96 wa (w.heap.size + 1) (.slice Aa (ys.length + 1) ca) (ys ++ [f])).base (by omega), ⟨fun y hy => ?_, by simp at hyl ⊢; omega⟩, hbw.trans (cha.below hbw.size fun i hi hx => by have := (ho.at_ hx).1; omega)⟩
        rcases List.mem_append.1 hy with hy | hy
        · exact HY.out y hy
        · exact .inr (List.mem_singleton.1 hy)
      · go_wp2_with fail
        go_ret
        exact ⟨_, ys, rfl, ho.base (by omega), ⟨HY.out, by simpa using hyl⟩, hbw⟩
def TreePost (w : World) (e : Ending) (w' : World) : Prop := ∃ v ys q, e = .returned (.tuple #[v, .bool q]) ∧ OwnF FNd 96 w' w.heap.size v ys ∧ Fine ys ∧ Below w.heap.size w w'
theorem fine_good {ys : List Nd} (h : Fine ys) : ∀ y ∈ ys, FNd.good y := fun y hy => by
  have h1 := pathB_size (h.1 y hy).1
  have h2 := (h.1 y hy).2
  unfold textB at h2
  rw [Bool.and_eq_true] at h2
  have h3 := of_decide_eq_true h2.1
  exact ⟨by unfold maxLen; omega, by unfold maxLen; omega⟩
set_option maxRecDepth 8000 in
set_option maxHeartbeats 4000000 in
theorem TreePut_any (xs : List Nd) (p b : ByteArray) (hp : p.size ≤ maxLen) (hb : b.size ≤ maxLen) (v : Value) (w : World) (lo hi : Nat) (h : RNds w lo hi xs [v]) (hhi : hi ≤ w.heap.size) (hl : xs.length ≤ 1000) :
    Calls Try.prog 27 #[v, .string p, .string b] w (TreePost w) := by
  obtain ⟨A, c, rfl⟩ := h.form
  go_enter Try.func27, Try.ntmps27
  go_wp2_with fail
  refine (TreeOk_any xs _ w lo hi h hhi).mono ?_
  rintro e w1 ⟨⟨rfl, hfine⟩ | rfl, b1⟩
  · have HF := Lib.hid hfine; clear hfine
    go_wp2_with fail
    refine (PathOk_any p hp w1).mono ?_
    rintro e w2 ⟨rfl, rfl⟩
    cases hqp : pathB p
    · go_wp2_with fail
      exact bodyPost_ret (v := .tuple #[.slice (some ⟨(w1).heap.size, 0, none⟩) 0 0, .bool false]) (by simp [results, Try.results27, go_sem]) rfl ⟨_, [], false, rfl, (Lit0.new w1 96 (b1).size).own 2, ⟨fun y hy => (by cases hy), Nat.zero_le _⟩, (b1).alloc (b1).size _⟩
    · go_wp2_with fail
      refine (TextOk_any b hb w1).mono ?_
      rintro e w2 ⟨rfl, rfl⟩
      cases hqt : textB b
      · go_wp2_with fail
        exact bodyPost_ret (v := .tuple #[.slice (some ⟨(w1).heap.size, 0, none⟩) 0 0, .bool false]) (by simp [results, Try.results27, go_sem]) rfl ⟨_, [], false, rfl, (Lit0.new w1 96 (b1).size).own 2, ⟨fun y hy => (by cases hy), Nat.zero_le _⟩, (b1).alloc (b1).size _⟩
      · go_wp2_with fail
        refine (l11Put_any xs ⟨p, b⟩ ⟨hp, hb⟩ _ w1 lo hi (RNds.tloc.below h b1 hhi) (Nat.le_trans hhi b1.size) hl).mono ?_
        rintro e w2 ⟨v2, ys, rfl, o2, ⟨hmem, hyl⟩, b2⟩
        obtain ⟨A2, c2, rfl⟩ := o2.form
        have hgy : ∀ y ∈ ys, FNd.good y := fun y hy => by
          rcases hmem y hy with h1 | rfl
          · exact fine_good HF.out y h1
          · exact ⟨hp, hb⟩
        have z2 := b2.size
        have r2 := (o2.deep hgy w1.heap.size).sl (Nat.le_refl _)
        go_wp2_with fail
        refine (TreeOk_any ys _ w2 w1.heap.size w2.heap.size r2 (Nat.le_refl _)).mono ?_
        rintro e w3 ⟨⟨rfl, hfy⟩ | rfl, b3⟩
        · have HFY := Lib.hid hfy
          have hb3 := below_below (below_below b1 b2) b3
          have o3 := (o2.below b3).base b1.size
          clear hfy
          go_wp2_with fail
          exact bodyPost_ret (v := .tuple #[.slice A2 ys.length c2, .bool true]) (by simp [results, Try.results27, go_sem]) rfl ⟨_, ys, true, rfl, o3, HFY.out, hb3⟩
        · have hb3 := below_below (below_below b1 b2) b3
          have hsrc := src_flat (F := FNd) (RNds.tloc.below h hb3 hhi).1 (Nat.le_trans hhi hb3.size)
          have SRC := Lib.hid hsrc
          have hbA := below_alloc w3 (.cells #[] 96)
          have hlit := Lib.hid (Lit0.new w3 96 (Nat.le_refl _))
          clear hsrc
          go_wp2_with (at_builtin; refine app_copy (F := FNd) (xs := xs) hbA rfl (.tmp 31) (.tmp 32) 67 rfl elem_nd (Nat.le_refl _) rfl rfl hlit.out SRC.out (by omega) ?_; intro v' w' hb' ho'; obtain ⟨A', c', rfl⟩ := ho'.form)
          exact bodyPost_ret (v := .tuple #[.slice A' xs.length c', .bool false]) (by simp [results, Try.results27, go_sem]) rfl ⟨_, xs, false, rfl, ho'.base hb3.size, HF.out, below_below hb3 (below_below hbA hb')⟩
  · go_wp2_with fail
    exact bodyPost_ret (v := .tuple #[.slice (some ⟨(w1).heap.size, 0, none⟩) 0 0, .bool false]) (by simp [results, Try.results27, go_sem]) rfl ⟨_, [], false, rfl, (Lit0.new w1 96 (b1).size).own 2, ⟨fun y hy => (by cases hy), Nat.zero_le _⟩, (b1).alloc (b1).size _⟩
end Go.Proofs.Ytpdkgpbfmpekgaa

