/-
  The events of a name, and the version of a stream: what the reference's and the program's functions return, for every slice of entries. No condition beyond what the rows list.
-/
import Derived.Test.YtmkdmafffblmaaaDoorStoreF
namespace Go.Proofs.YtmkdmafffblmaaaDoor
open Go.ChangeShapes Go.WideShapes Go.ChangeAt Go.RowKit Go.Maps

/-- What the walks ask of a slice of entries and of a name. -/
structure StOk (xs : List EnT) : Prop where
  small : ∀ x ∈ xs, enS x
  ints : ∀ x ∈ xs, eventOk x.2
theorem StOk.names {xs : List EnT} (h : StOk xs) : ∀ x ∈ xs, x.1.size ≤ maxLen := fun x hx => by have := (h.small x hx).1; unfold maxLen; omega
theorem StOk.evs {xs : List EnT} (h : StOk xs) (s : ByteArray) : ∀ y ∈ evOf s xs, eventOk y := fun _ hy => h.ints _ (evOf_mem hy)
theorem StOk.evSmall {xs : List EnT} (h : StOk xs) (s : ByteArray) : ∀ y ∈ evOf s xs, y.2.1.size ≤ 1048576 := fun _ hy => (h.small _ (evOf_mem hy)).2
theorem evOf_take_succ {s : ByteArray} {xs : List EnT} {k : Nat} {x : EnT} (h : xs[k]? = some x) : evOf s (xs.take (k + 1)) = evOf s (xs.take k) ++ (if x.1 = s then [x.2] else []) := by
  rw [take_succ_of h, evOf_snoc]

set_option maxHeartbeats 3200000 in
theorem l4Events_any (A : Option Addr) (n c : Nat) (xs : List EnT) (s : ByteArray) (hn : n ≤ 1048576) (hx : xs.length = n) (w : World) (hL : Lies w 4 A n (xs.flatMap entryCells)) :
    Calls Tryd.prog 34 #[.slice A n c, .string s] w fun e w' => ∃ g m c', e = .returned (.slice (some ⟨g, 0, none⟩) m c') ∧ (evOf s xs).length = m ∧ w'.ownsRow w.heap.size 50 3 (.slice (some ⟨g, 0, none⟩) m c') m ((evOf s xs).flatMap eventCells) ∧ Below w.heap.size w w' := by
  have HX := Lib.hid hx
  have HL := Lib.hid hL
  clear hx hL
  go_enter Tryd.func34, Tryd.ntmps34
  go_wp2
  go_loopw [5, 6] (fun l i wr => ∃ (k g m c : Nat), k ≤ n ∧ i = .int .i64 k ∧ l = .slice (some ⟨g, 0, none⟩) m c ∧ m ≤ k ∧ Hid ((evOf s (xs.take k)).length = m) ∧ Hid (wr.ownsRow w.heap.size 50 3 (.slice (some ⟨g, 0, none⟩) m c) m ((evOf s (xs.take k)).flatMap eventCells)) ∧ Below w.heap.size w wr) (fun _ i _ => n - (intOf i).toNat)
  case atStart => exact ⟨0, w.heap.size, 0, 0, Nat.zero_le _, rfl, rfl, Nat.le_refl _, Lib.hid rfl, Lib.hid (owns_nil' _ _ rfl (Nat.le_refl _)), below_alloc (Below.refl _ _) _⟩
  case round =>
    obtain ⟨k, g, m, c, hk, rfl, rfl, hmk, hlen, hO, hB⟩ := hrel
    have hgl := (owns_lt hO.out).1
    by_cases hlt : k < n
    · obtain ⟨b, o, rfl, hb, hc⟩ := (HL.out.below hB).row (fun _ => rfl) (by omega)
      obtain ⟨⟨x0, x1, x2, x3⟩, hxk⟩ := get_lt HX.out hlt
      have c0 : wr.cell? ⟨b, o + k * 4, none⟩ = some (.string x0) := hc k _ hxk 0 _ rfl
      have c1 : wr.cell? ⟨b, o + k * 4 + 1, none⟩ = some (.int .i64 x1) := hc k _ hxk 1 _ rfl
      have c2 : wr.cell? ⟨b, o + k * 4 + 2, none⟩ = some (.string x2) := hc k _ hxk 2 _ rfl
      have c3 : wr.cell? ⟨b, o + k * 4 + 3, none⟩ = some (.int .i64 x3) := hc k _ hxk 3 _ rfl
      have HFS := Lib.hid (evOf_take_succ (s := s) hxk)
      clear hxk hc
      by_cases he : x0 = s
      · have E : (x0.toList == s.toList) = true := by simp [he]
        have HFE := Lib.hid (show evOf s (xs.take (k + 1)) = evOf s (xs.take k) ++ [(x1, x2, x3)] by rw [HFS.out, if_pos he])
        clear he
        go_wp2_with (at_builtin; refine wpList_app1 rfl _ _ 30 50 3 32 rowEvent rfl w.heap.size g m c _ hO.out rfl rfl rfl rfl (by unfold maxLen; omega) (by omega) hB.size ?_; intro g4 c4 w4 ho4 hg4 hz4; have HO4 := Lib.hid ho4; have HB4 := Lib.hid (below_grown hB hg4 hgl hB.size); clear ho4 hg4)
        go_roundw
        case rel => exact ⟨k + 1, g4, m + 1, c4, by omega, by go_num, rfl, by omega, Lib.hid (by rw [HFE.out, List.length_append, hlen.out]; rfl), Lib.hid (by rw [HFE.out, List.flatMap_append]; exact HO4.out), HB4.out⟩
        case measure => simp [intOf]; omega
      · have E : (x0.toList == s.toList) = false := str_ne he
        have HFE := Lib.hid (show evOf s (xs.take (k + 1)) = evOf s (xs.take k) by rw [HFS.out, if_neg he, List.append_nil])
        clear he
        go_wp2
        go_roundw
        case rel => exact ⟨k + 1, g, m, c, by omega, by go_num, rfl, by omega, by rw [HFE.out]; exact hlen, by rw [HFE.out]; exact hO, hB⟩
        case measure => simp [intOf]; omega
    · have HFT := Lib.hid (show xs.take k = xs from List.take_of_length_le (by have := HX.out; omega))
      go_wp2
      go_ret
      exact ⟨g, m, c, rfl, by rw [← HFT.out]; exact hlen.out, by rw [← HFT.out]; exact hO.out, hB⟩

def storeVer (xs : List EnT) (s : ByteArray) : Int := if storeB xs && nameB s then ((evOf s xs).length : Int) - 1 else -2
theorem ver_no {xs : List EnT} {s : ByteArray} (h : (storeB xs && nameB s) = false) : storeVer xs s = -2 := by unfold storeVer; rw [h]; rfl
theorem ver_yes {xs : List EnT} {s : ByteArray} (h1 : storeB xs = true) (h2 : nameB s = true) : storeVer xs s = ((evOf s xs).length : Int) - 1 := by unfold storeVer; rw [h1, h2]; rfl

/-- What a look-up in the program's map gives, its shape written out. -/
theorem Streams.form {w : World} {b : Nat} {xs : List EnT} {D : DataW Unit} {V : ByteArray → Value} (h : Streams w b xs D V) (s : ByteArray) : ∃ A c, V s = .slice A (evOf s xs).length c ∧ (evOf s xs).length ≤ c ∧ (c ≤ maxLen) ∧ w.ownsRow (b + 1) 50 3 (.slice A (evOf s xs).length c) (evOf s xs).length ((evOf s xs).flatMap eventCells) := by
  have hr := h.rows s
  rcases hr.2 with ⟨hv, h0⟩ | ⟨g, c, cur, hv, hb, hh, hn, hc, r⟩
  · exact ⟨none, 0, by rw [hv, h0], by omega, by unfold maxLen; omega, by rw [h0] at hr ⊢; rw [hv] at hr; exact hr⟩
  · exact ⟨some ⟨g, 0, none⟩, c, hv, hn, hc, by rw [hv] at hr; exact hr⟩

end Go.Proofs.YtmkdmafffblmaaaDoor
