/-
  The events of a name, and the version of a stream: what the reference's and the program's functions return, for every slice of entries. No condition beyond what the rows list.
-/
import Derived.Test.YtopifljjadmjjaaDoorStoreF
namespace Go.Proofs.YtopifljjadmjjaaDoor
open Go.ChangeShapes Go.WideShapes Go.ChangeAt Go.RowKit Go.Maps

/-- What the walks ask of a slice of entries and of a name. -/
structure StOk (xs : List EnT) : Prop where
  small : ∀ x ∈ xs, enS x
  ints : ∀ x ∈ xs, eventOk x.2
theorem StOk.names {xs : List EnT} (h : StOk xs) : ∀ x ∈ xs, x.1.size ≤ maxLen := fun x hx => by have := (h.small x hx).1; unfold maxLen; omega
theorem StOk.evs {xs : List EnT} (h : StOk xs) (s : ByteArray) : ∀ y ∈ evOf s xs, eventOk y := fun _ hy => h.ints _ (evOf_mem hy)
theorem StOk.evSmall {xs : List EnT} (h : StOk xs) (s : ByteArray) : ∀ y ∈ evOf s xs, y.2.1.size ≤ 1048576 := fun _ hy => (h.small _ (evOf_mem hy)).2
theorem evOf_take_succ {s : ByteArray} {xs : List EnT} {k : Nat} {x : EnT} (h : xs[k]? = some x) : evOf s (xs.take (k + 1)) = evOf s (xs.take k) ++ (if x.1 = s then [x.2] else []) := by
  rw [take_succ_of h, evOf_snoc]

set_option maxHeartbeats 3200000 in
theorem l4Events_any (A : Option Addr) (n c : Nat) (xs : List EnT) (s : ByteArray) (hn : n ≤ 1048576) (hx : xs.length = n) (w : World) (hL : Lies w 4 A n (xs.flatMap entryCells)) :
    Calls Tryd.prog 26 #[.slice A n c, .string s] w fun e w' => ∃ g m c', e = .returned (.slice (some ⟨g, 0, none⟩) m c') ∧ (evOf s xs).length = m ∧ w'.ownsRow w.heap.size 39 3 (.slice (some ⟨g, 0, none⟩) m c') m ((evOf s xs).flatMap eventCells) ∧ Below w.heap.size w w' := by
  have HX := Lib.hid hx
  have HL := Lib.hid hL
  clear hx hL
  go_enter Tryd.func26, Tryd.ntmps26
  go_wp2
  go_loopw [5, 6] (fun l i wr => ∃ (k g m c : Nat), k ≤ n ∧ i = .int .i64 k ∧ l = .slice (some ⟨g, 0, none⟩) m c ∧ m ≤ k ∧ Hid ((evOf s (xs.take k)).length = m) ∧ Hid (wr.ownsRow w.heap.size 39 3 (.slice (some ⟨g, 0, none⟩) m c) m ((evOf s (xs.take k)).flatMap eventCells)) ∧ Below w.heap.size w wr) (fun _ i _ => n - (intOf i).toNat)
  case atStart => exact ⟨0, w.heap.size, 0, 0, Nat.zero_le _, rfl, rfl, Nat.le_refl _, Lib.hid rfl, Lib.hid (owns_nil' _ _ rfl (Nat.le_refl _)), below_alloc (Below.refl _ _) _⟩
  case round =>
    obtain ⟨k, g, m, c, hk, rfl, rfl, hmk, hlen, hO, hB⟩ := hrel
    have hgl := (owns_lt hO.out).1
    by_cases hlt : k < n
    · obtain ⟨b, o, rfl, hb, hc⟩ := (HL.out.below hB).row (fun _ => rfl) (by omega)
      obtain ⟨⟨x0, x1, x2, x3⟩, hxk⟩ := get_lt HX.out hlt
      have c0 : wr.cell? ⟨b, o + k * 4, none⟩ = some (.string x0) := hc k _ hxk 0 _ rfl
      have c1 : wr.cell? ⟨b, o + k * 4 + 1, none⟩ = some (.int .i64 x1) := hc k _ hxk 1 _ rfl
      have c2 : wr.cell? ⟨b, o + k * 4 + 2, none⟩ = some (.string x2) := hc k _ hxk 2 _ rfl
      have c3 : wr.cell? ⟨b, o + k * 4 + 3, none⟩ = some (.int .i64 x3) := hc k _ hxk 3 _ rfl
      have HFS := Lib.hid (evOf_take_succ (s := s) hxk)
      clear hxk hc
      by_cases he : x0 = s
      · have E : (x0.toList == s.toList) = true := by simp [he]
        have HFE := Lib.hid (show evOf s (xs.take (k + 1)) = evOf s (xs.take k) ++ [(x1, x2, x3)] by rw [HFS.out, if_pos he])
        clear he
        go_wp2_with (at_builtin; refine wpList_app1 rfl _ _ 47 39 3 32 rowEvent rfl w.heap.size g m c _ hO.out rfl rfl rfl rfl (by unfold maxLen; omega) (by omega) hB.size ?_; intro g4 c4 w4 ho4 hg4 hz4; have HO4 := Lib.hid ho4; have HB4 := Lib.hid (below_grown hB hg4 hgl hB.size); clear ho4 hg4)
        go_roundw
        case rel => exact ⟨k + 1, g4, m + 1, c4, by omega, by go_num, rfl, by omega, Lib.hid (by rw [HFE.out, List.length_append, hlen.out]; rfl), Lib.hid (by rw [HFE.out, List.flatMap_append]; exact HO4.out), HB4.out⟩
        case measure => simp [intOf]; omega
      · have E : (x0.toList == s.toList) = false := str_ne he
        have HFE := Lib.hid (show evOf s (xs.take (k + 1)) = evOf s (xs.take k) by rw [HFS.out, if_neg he, List.append_nil])
        clear he
        go_wp2
        go_roundw
        case rel => exact ⟨k + 1, g, m, c, by omega, by go_num, rfl, by omega, by rw [HFE.out]; exact hlen, by rw [HFE.out]; exact hO, hB⟩
        case measure => simp [intOf]; omega
    · have HFT := Lib.hid (show xs.take k = xs from List.take_of_length_le (by have := HX.out; omega))
      go_wp2
      go_ret
      exact ⟨g, m, c, rfl, by rw [← HFT.out]; exact hlen.out, by rw [← HFT.out]; exact hO.out, hB⟩

def storeVer (xs : List EnT) (s : ByteArray) : Int := if storeB xs && nameB s then ((evOf s xs).length : Int) - 1 else -2
theorem ver_no {xs : List EnT} {s : ByteArray} (h : (storeB xs && nameB s) = false) : storeVer xs s = -2 := by unfold storeVer; rw [h]; rfl
theorem ver_yes {xs : List EnT} {s : ByteArray} (h1 : storeB xs = true) (h2 : nameB s = true) : storeVer xs s = ((evOf s xs).length : Int) - 1 := by unfold storeVer; rw [h1, h2]; rfl

set_option maxHeartbeats 3200000 in
theorem specVer_any (A : Option Addr) (n c : Nat) (xs : List EnT) (s : ByteArray) (hn : n ≤ 1048576) (hx : xs.length = n) (hok : StOk xs) (hs : s.size ≤ 1048576) (w : World) (hL : Lies w 4 A n (xs.flatMap entryCells)) :
    Calls Tryd.prog 12 #[.slice A n c, .string s] w fun e w' => e = .returned (.int .i64 (storeVer xs s)) ∧ Below w.heap.size w w' := by
  have HX := Lib.hid hx
  have HL := Lib.hid hL
  clear hx hL
  cases E1 : storeB xs
  · have HE := Lib.hid (ver_no (xs := xs) (s := s) (by rw [E1]; rfl))
    go_enter Tryd.func12, Tryd.ntmps12
    go_wp2_with fail
    refine (specStore_any A n c xs hn HX.out hok.small _ HL.out).mono ?_
    rintro e1 w1 ⟨rfl, hb1⟩
    rw [E1]
    go_wp2
    go_ret
    exact ⟨by rw [HE.out]; rfl, (by repeat' (first | (with_reducible exact Below.refl _ _) | (with_reducible assumption) | (with_reducible refine below_step (by assumption) ?_) | (with_reducible refine below_alloc ?_ _) | (with_reducible refine Below.drew ?_) | (with_reducible refine below_drewN ?_ _) | (with_reducible refine Below.setCell ?_ ?_ _) | go_size))⟩
  cases E2 : nameB s
  · have HE := Lib.hid (ver_no (xs := xs) (s := s) (by rw [E1, E2]; rfl))
    go_enter Tryd.func12, Tryd.ntmps12
    go_wp2_with fail
    refine (specStore_any A n c xs hn HX.out hok.small _ HL.out).mono ?_
    rintro e1 w1 ⟨rfl, hb1⟩
    rw [E1]
    go_wp2_with fail
    refine (specNameValid_any s hs _).mono ?_
    rintro e2 w2 ⟨rfl, hb2⟩
    rw [E2]
    go_wp2
    go_ret
    exact ⟨by rw [HE.out]; rfl, (by repeat' (first | (with_reducible exact Below.refl _ _) | (with_reducible assumption) | (with_reducible refine below_step (by assumption) ?_) | (with_reducible refine below_alloc ?_ _) | (with_reducible refine Below.drew ?_) | (with_reducible refine below_drewN ?_ _) | (with_reducible refine Below.setCell ?_ ?_ _) | go_size))⟩
  · have HE := Lib.hid (ver_yes (xs := xs) (s := s) E1 E2)
    go_enter Tryd.func12, Tryd.ntmps12
    go_wp2_with fail
    refine (specStore_any A n c xs hn HX.out hok.small _ HL.out).mono ?_
    rintro e1 w1 ⟨rfl, hb1⟩
    rw [E1]
    go_wp2_with fail
    refine (specNameValid_any s hs _).mono ?_
    rintro e2 w2 ⟨rfl, hb2⟩
    rw [E2]
    have HL2 := Lib.hid ((HL.out.below hb1).below hb2)
    go_wp2_with fail
    refine (l4Events_any A n c xs s hn HX.out _ HL2.out).mono ?_
    rintro e3 w3 ⟨g, m, c', rfl, hm, _, hb3⟩
    have HM := Lib.hid hm
    have hm2 : m ≤ 1048576 := by have := evOf_length s xs; have := HX.out; omega
    clear hm
    go_wp2
    go_ret
    exact ⟨by rw [HE.out, HM.out]; first | rfl | (simp; done) | (simp; omega), (by repeat' (first | (with_reducible exact Below.refl _ _) | (with_reducible assumption) | (with_reducible refine below_step (by assumption) ?_) | (with_reducible refine below_alloc ?_ _) | (with_reducible refine Below.drew ?_) | (with_reducible refine below_drewN ?_ _) | (with_reducible refine Below.setCell ?_ ?_ _) | go_size))⟩

/-- What a look-up in the program's map gives, its shape written out. -/
theorem Streams.form {w : World} {b : Nat} {xs : List EnT} {D : DataW Unit} {V : ByteArray → Value} (h : Streams w b xs D V) (s : ByteArray) : ∃ A c, V s = .slice A (evOf s xs).length c ∧ (evOf s xs).length ≤ c ∧ (c ≤ maxLen) ∧ w.ownsRow (b + 1) 39 3 (.slice A (evOf s xs).length c) (evOf s xs).length ((evOf s xs).flatMap eventCells) := by
  have hr := h.rows s
  rcases hr.2 with ⟨hv, h0⟩ | ⟨g, c, cur, hv, hb, hh, hn, hc, r⟩
  · exact ⟨none, 0, by rw [hv, h0], by omega, by unfold maxLen; omega, by rw [h0] at hr ⊢; rw [hv] at hr; exact hr⟩
  · exact ⟨some ⟨g, 0, none⟩, c, hv, hn, hc, by rw [hv] at hr; exact hr⟩

set_option maxHeartbeats 3200000 in
theorem implVer_any (A : Option Addr) (n c : Nat) (xs : List EnT) (s : ByteArray) (hn : n ≤ 1048576) (hx : xs.length = n) (hok : StOk xs) (hs : s.size ≤ 1048576) (w : World) (a : Addr) (hS : Sent a w) (hM : MaxL w) (hL : Lies w 4 A n (xs.flatMap entryCells)) :
    Calls Tryd.prog 13 #[.slice A n c, .string s] w fun e w' => e = .returned (.int .i64 (storeVer xs s)) ∧ Below w.heap.size w w' := by
  have HX := Lib.hid hx
  have HL := Lib.hid hL
  clear hx hL
  cases E1 : storeB xs
  · have HE := Lib.hid (ver_no (xs := xs) (s := s) (by rw [E1]; rfl))
    go_enter Tryd.func13, Tryd.ntmps13
    go_wp2_with fail
    refine (implStore_any A n c xs hn HX.out hok.small hok.ints _ a hS hM HL.out).mono ?_
    rintro e1 w1 ⟨rfl, hb1⟩
    rw [E1]
    go_wp2
    go_ret
    exact ⟨by rw [HE.out]; rfl, (by repeat' (first | (with_reducible exact Below.refl _ _) | (with_reducible assumption) | (with_reducible refine below_step (by assumption) ?_) | (with_reducible refine below_alloc ?_ _) | (with_reducible refine Below.drew ?_) | (with_reducible refine below_drewN ?_ _) | (with_reducible refine Below.setCell ?_ ?_ _) | go_size))⟩
  cases E2 : nameB s
  · have HE := Lib.hid (ver_no (xs := xs) (s := s) (by rw [E1, E2]; rfl))
    go_enter Tryd.func13, Tryd.ntmps13
    go_wp2_with fail
    refine (implStore_any A n c xs hn HX.out hok.small hok.ints _ a hS hM HL.out).mono ?_
    rintro e1 w1 ⟨rfl, hb1⟩
    rw [E1]
    go_wp2_with fail
    refine (implNameValid_any s hs a _ (hS.below hb1 (Nat.le_refl _)) (hM.below hb1)).mono ?_
    rintro e2 w2 ⟨rfl, hb2⟩
    rw [E2]
    go_wp2
    go_ret
    exact ⟨by rw [HE.out]; rfl, (by repeat' (first | (with_reducible exact Below.refl _ _) | (with_reducible assumption) | (with_reducible refine below_step (by assumption) ?_) | (with_reducible refine below_alloc ?_ _) | (with_reducible refine Below.drew ?_) | (with_reducible refine below_drewN ?_ _) | (with_reducible refine Below.setCell ?_ ?_ _) | go_size))⟩
  · have HE := Lib.hid (ver_yes (xs := xs) (s := s) E1 E2)
    go_enter Tryd.func13, Tryd.ntmps13
    go_wp2_with fail
    refine (implStore_any A n c xs hn HX.out hok.small hok.ints _ a hS hM HL.out).mono ?_
    rintro e1 w1 ⟨rfl, hb1⟩
    rw [E1]
    go_wp2_with fail
    refine (implNameValid_any s hs a _ (hS.below hb1 (Nat.le_refl _)) (hM.below hb1)).mono ?_
    rintro e2 w2 ⟨rfl, hb2⟩
    rw [E2]
    have HL2 := Lib.hid ((HL.out.below hb1).below hb2)
    go_wp2_with fail
    refine (streamsOf_any A n c xs hn HX.out hok.names _ HL2.out).mono ?_
    rintro e3 w3 ⟨b, D, V, rfl, hSt, _, hb3⟩
    obtain ⟨A4, c4, hV, _, _, _⟩ := hSt.form s
    have hlk := hSt.look (s := s) (by unfold maxLen; omega)
    rw [hV] at hlk
    obtain ⟨m, hm⟩ : ∃ m, m = (evOf s xs).length := ⟨_, rfl⟩
    rw [← hm] at hlk
    have HM := Lib.hid hm
    have hm2 : m ≤ 1048576 := by have := evOf_length s xs; have := HX.out; omega
    clear hV hm hSt
    go_wp2
    go_ret
    exact ⟨by rw [HE.out, ← HM.out]; first | rfl | (simp; done) | (simp; omega), (by repeat' (first | (with_reducible exact Below.refl _ _) | (with_reducible assumption) | (with_reducible refine below_step (by assumption) ?_) | (with_reducible refine below_alloc ?_ _) | (with_reducible refine Below.drew ?_) | (with_reducible refine below_drewN ?_ _) | (with_reducible refine Below.setCell ?_ ?_ _) | go_size))⟩

theorem specVer_at (lo hi : Nat) (v : Value) (xs : List EnT) (s : ByteArray) (hok : StOk xs) (hs : s.size ≤ 1048576) (w : World) (h : entrySAt w lo hi v xs) :
    Calls Tryd.prog 12 #[v, .string s] w fun e w' => e = .returned (.int .i64 (storeVer xs s)) ∧ Below w.heap.size w w' := by
  obtain ⟨g, m, c, rfl, hx, hb, _, _, ho⟩ := h.open
  exact specVer_any _ _ _ xs s hb hx hok hs w (lies_of_own ho)
theorem implVer_at (lo hi : Nat) (v : Value) (xs : List EnT) (s : ByteArray) (hok : StOk xs) (hs : s.size ≤ 1048576) (w : World) (a : Addr) (hS : Sent a w) (hM : MaxL w) (h : entrySAt w lo hi v xs) :
    Calls Tryd.prog 13 #[v, .string s] w fun e w' => e = .returned (.int .i64 (storeVer xs s)) ∧ Below w.heap.size w w' := by
  obtain ⟨g, m, c, rfl, hx, hb, _, _, ho⟩ := h.open
  exact implVer_any _ _ _ xs s hb hx hok hs w a hS hM (lies_of_own ho)
end Go.Proofs.YtopifljjadmjjaaDoor
