/-
  Valid stores: what the program's function returns, for every slice of entries. No condition beyond what the rows list.
-/
import Derived.Test.YtmkdmafffblmaaaDoorStoreP
import Derived.Test.YtmkdmafffblmaaaDoorStreamsW
namespace Go.Proofs.YtmkdmafffblmaaaDoor
open Go.ChangeShapes Go.WideShapes Go.ChangeAt Go.RowKit Go.Maps

set_option maxHeartbeats 3200000 in
theorem entryValid_any (x0 : ByteArray) (x1 : Int) (x2 : ByteArray) (x3 : Int) (hs : x0.size ≤ 1048576) (ht : x2.size ≤ 1048576) (a : Addr) (w : World) (hS : Sent a w) (hM : MaxL w) :
    Calls Tryd.prog 49 #[.agg #[.string x0, .int .i64 x1, .string x2, .int .i64 x3]] w fun e w' => e = .returned (.bool (entB (x0, x1, x2, x3))) ∧ Below w.heap.size w w' := by
  have BA : Below w.heap.size w (w.alloc (.cells #[.string x0, .int .i64 x1, .string x2, .int .i64 x3] 52)) := below_alloc (Below.refl _ _) _
  have hS1 := hS.below BA (Nat.le_refl _)
  have hM1 := hM.below BA
  cases E0 : nameB x0
  · have HE := Lib.hid (show entB (x0, x1, x2, x3) = false by unfold entB; simp only [E0]; rfl)
    go_enter Tryd.func49, Tryd.ntmps49
    go_wp2_with fail
    refine (implNameValid_any x0 hs a _ hS1 hM1).mono ?_
    rintro e w1 ⟨rfl, hb1⟩
    rw [E0]
    go_wp2
    go_ret
    exact ⟨ret_bool HE.out.symm, (by repeat' (first | (with_reducible exact Below.refl _ _) | (with_reducible assumption) | (with_reducible refine below_step (by assumption) ?_) | (with_reducible refine below_alloc ?_ _) | (with_reducible refine Below.drew ?_) | (with_reducible refine below_drewN ?_ _) | (with_reducible refine Below.setCell ?_ ?_ _) | go_size))⟩
  · cases E1 : eventB x1 x2 x3
    all_goals
      have HE := Lib.hid (show entB (x0, x1, x2, x3) = _ from show (nameB x0 && eventB x1 x2 x3) = _ by rw [E0, E1]; try rfl)
      go_enter Tryd.func49, Tryd.ntmps49
      go_wp2_with fail
      refine (implNameValid_any x0 hs a _ hS1 hM1).mono ?_
      rintro e w1 ⟨rfl, hb1⟩
      rw [E0]
      have m1 := box_cell hb1 (b := w.heap.size) (o := 1) (u := .int .i64 x1) (by go_cell)
      have m2 := box_cell hb1 (b := w.heap.size) (o := 2) (u := .string x2) (by go_cell)
      have m3 := box_cell hb1 (b := w.heap.size) (o := 3) (u := .int .i64 x3) (by go_cell)
      go_wp2_with fail
      refine (eventValid_any x1 x2 x3 (by unfold StrOk maxLen; omega) _).mono ?_
      rintro e2 w2 ⟨rfl, hb2⟩
      rw [E1]
      go_wp2
      go_ret
      exact ⟨ret_bool HE.out.symm, (by repeat' (first | (with_reducible exact Below.refl _ _) | (with_reducible assumption) | (with_reducible refine below_step (by assumption) ?_) | (with_reducible refine below_alloc ?_ _) | (with_reducible refine Below.drew ?_) | (with_reducible refine below_drewN ?_ _) | (with_reducible refine Below.setCell ?_ ?_ _) | go_size))⟩

/-- EventsValid at a slice that the call owns, nil too. -/
theorem implEvents_row {w : World} {B n : Nat} {v : Value} {ys : List EvT} (h : w.ownsRow B 50 3 v n (ys.flatMap eventCells)) (hl : ys.length = n) (hn : n ≤ 1048576) (hok : ∀ y ∈ ys, eventOk y) :
    Calls Tryd.prog 50 #[v] w fun e w' => e = .returned (.bool (eventsB ys)) ∧ Below w.heap.size w w' := by
  rcases h.2 with ⟨rfl, h0⟩ | ⟨g, c, _, rfl, _, _, _⟩
  · subst h0
    exact implEvents_any none 0 0 ys (by omega) (Nat.le_refl _) hl hok w (lies_of_own h)
  · exact implEvents_any _ _ _ ys hn (owns_cap h).2 hl hok w (lies_of_own h)

theorem keyOf_string_inv {key : Value} {kl : Lit} (h : keyOf Tryd.prog 9 key = some kl) : ∃ s : ByteArray, key = .string s ∧ kl = keyL s ∧ s.size ≤ maxLen := by
  have hk := Tryd.underlying9
  cases key <;> simp [keyOf, hk, mapKey] at h
  obtain ⟨h1, rfl⟩ := h
  exact ⟨_, rfl, rfl, h1⟩

/-- The step of a range over such a map. -/
theorem wpList_next_streams {w : World} {ops : Array Oper} {rest : List Oper} {o : Oper} {a : Act} {Q : Exit → Act → World → Prop} (hg : o.guard = none) (it : Operand) (hop : o.op = Op.next it false) (b r : Nat) (xs : List EnT) (D : DataW Unit) (V : ByteArray → Value) (left : Lit → Bool) (cnt : Nat)
    (hit : a.eval it = .pointer (some ⟨r, 0, none⟩)) (hS : Streams w b xs D V) (h : w.ranges Tryd.prog 9 encV b r xs.length D left cnt)
    (hDone : cnt = 0 → (∀ kl, left kl = false) → wpList Tryd.prog ops Q rest (a.put o.dst (.tuple #[.bool false])) w)
    (hMore : ∀ (s : ByteArray) (w' : World) (cnt' : Nat), s.size ≤ maxLen → left (keyL s) = true → w'.ranges Tryd.prog 9 encV b r xs.length D (fun z => left z && !z.sameKey (keyL s)) cnt' → cnt' < cnt → w.grownBy w' (some r) → w'.heap.size = w.heap.size →
      (Instr.entry (.pointer (some ⟨r, 0, none⟩))).run Tryd.prog w' = .ok (.tuple #[.string s, V s]) w' → wpList Tryd.prog ops Q rest (a.put o.dst (.tuple #[.bool true, .string s, V s])) w') :
    wpList Tryd.prog ops Q (o :: rest) a w := by
  refine wpList_plain hg fun K' hK' => ?_
  unfold Oper.wp
  rcases h.next keyed o.type with ⟨h0, hl, hrun⟩ | ⟨key, v, kl, y, w', cnt', hkey, hlk, hv, hat, hrun, hrg, hlt, hgr, hsz, hen⟩
  · simp [execOp, hop, hit, hrun, Result.andThen]
    exact hK' _ _ (hDone h0 hl)
  · obtain ⟨s, rfl, rfl, hs⟩ := keyOf_string_inv hkey
    obtain ⟨ps, hV⟩ := hS.tells s
    obtain rfl : v = V s := encV_inj hv hV (hat .nil).symm
    simp [execOp, hop, hit, hrun, Result.andThen]
    exact hK' _ _ (hMore s w' cnt' hs hlk hrg hlt hgr hsz hen)

/-- A name that has events is a key. -/
theorem Streams.has {w : World} {b : Nat} {xs : List EnT} {D : DataW Unit} {V : ByteArray → Value} (h : Streams w b xs D V) {s : ByteArray} (hne : evOf s xs ≠ []) : Maps.has D (keyL s) = true := by
  cases e : Maps.has D (keyL s)
  · exfalso
    obtain ⟨ps, hV⟩ := h.tells s
    rw [atKey_of_not_has e] at hV
    have hv : V s = .slice none 0 0 := encV_inj hV encV_nil rfl
    have hr := h.rows s
    rw [hv] at hr
    rcases hr.2 with ⟨_, h0⟩ | ⟨g, c, _, hv', _⟩
    · exact hne (List.length_eq_zero_iff.1 h0)
    · cases hv'
  · rfl

set_option maxRecDepth 8000 in
set_option maxHeartbeats 12800000 in
theorem implStore_any (A : Option Addr) (n c : Nat) (xs : List EnT) (hn : n ≤ 1048576) (hx : xs.length = n) (hok : ∀ x ∈ xs, enS x) (hint : ∀ x ∈ xs, eventOk x.2) (w : World) (a : Addr) (hS : Sent a w) (hM : MaxL w) (hL : Lies w 4 A n (xs.flatMap entryCells)) :
    Calls Tryd.prog 28 #[.slice A n c] w fun e w' => e = .returned (.bool (storeB xs)) ∧ Below w.heap.size w w' := by
  by_cases hlim : 24 < n
  · have HE : Hid (storeB xs = false) := Lib.hid (by unfold storeB; rw [hx]; simp; omega)
    clear hL hx
    go_enter Tryd.func28, Tryd.ntmps28
    go_wp2
    go_ret
    exact ⟨ret_bool HE.out.symm, Below.refl _ _⟩
  have HX := Lib.hid hx
  have HK := Lib.hid hok
  have HI := Lib.hid hint
  clear hx hok hint
  go_enter Tryd.func28, Tryd.ntmps28
  go_wp2
  go_loopw [12] (fun i wr => ∃ k : Nat, k ≤ n ∧ i = .int .i64 k ∧ Hid (∀ x ∈ xs.take k, entB x = true) ∧ Below w.heap.size w wr) (fun i _ => n - (intOf i).toNat)
  case atStart => exact ⟨0, Nat.zero_le _, rfl, Lib.hid (by simp), Below.refl _ _⟩
  case round =>
    obtain ⟨k, hk, rfl, hT, hB⟩ := hrel
    by_cases hlt : k < n
    · obtain ⟨b, o, rfl, hb, hc⟩ := (hL.below hB).row (fun _ => rfl) (by omega)
      obtain ⟨⟨x0, x1, x2, x3⟩, hxk⟩ := get_lt HX.out hlt
      have c0 : wr.cell? ⟨b, o + k * 4, none⟩ = some (.string x0) := hc k _ hxk 0 _ rfl
      have c1 : wr.cell? ⟨b, o + k * 4 + 1, none⟩ = some (.int .i64 x1) := hc k _ hxk 1 _ rfl
      have c2 : wr.cell? ⟨b, o + k * 4 + 2, none⟩ = some (.string x2) := hc k _ hxk 2 _ rfl
      have c3 : wr.cell? ⟨b, o + k * 4 + 3, none⟩ = some (.int .i64 x3) := hc k _ hxk 3 _ rfl
      have HZ := Lib.hid (HK.out _ (List.mem_of_getElem? hxk))
      have HXK := Lib.hid hxk
      clear hxk hc
      have BWB : Below w.heap.size w (wr.alloc (.cells #[.string x0, .int .i64 x1, .string x2, .int .i64 x3] 52)) := below_alloc hB _
      cases E0 : entB (x0, x1, x2, x3)
      · have HE : Hid (storeB xs = false) := Lib.hid (by
          rw [Bool.eq_false_iff]
          intro h
          have := ((store_iff xs).1 h).2.1 _ (List.mem_of_getElem? HXK.out)
          rw [E0] at this; cases this)
        go_wp2_with fail
        refine (entryValid_any x0 x1 x2 x3 HZ.out.1 HZ.out.2 a _ (hS.below BWB (Nat.le_refl _)) (hM.below BWB)).mono ?_
        rintro e1 w1 ⟨rfl, hb1⟩
        rw [E0]
        go_wp2
        go_ret
        exact ⟨ret_bool HE.out.symm, (by repeat' (first | (with_reducible exact Below.refl _ _) | (with_reducible assumption) | (with_reducible refine below_step (by assumption) ?_) | (with_reducible refine below_alloc ?_ _) | (with_reducible refine Below.drew ?_) | (with_reducible refine below_drewN ?_ _) | (with_reducible refine Below.setCell ?_ ?_ _) | go_size))⟩
      · have HE := Lib.hid (show ∀ x ∈ xs.take (k + 1), entB x = true by
          rw [take_succ_of HXK.out]
          intro y hy
          rcases List.mem_append.1 hy with h | h
          · exact hT.out y h
          · obtain rfl := List.mem_singleton.1 h
            exact E0)
        go_wp2_with fail
        refine (entryValid_any x0 x1 x2 x3 HZ.out.1 HZ.out.2 a _ (hS.below BWB (Nat.le_refl _)) (hM.below BWB)).mono ?_
        rintro e1 w1 ⟨rfl, hb1⟩
        rw [E0]
        go_wp2
        go_roundw
        case rel => exact ⟨k + 1, by omega, by go_num, HE, (by repeat' (first | (with_reducible exact Below.refl _ _) | (with_reducible assumption) | (with_reducible refine below_step (by assumption) ?_) | (with_reducible refine below_alloc ?_ _) | (with_reducible refine Below.drew ?_) | (with_reducible refine below_drewN ?_ _) | (with_reducible refine Below.setCell ?_ ?_ _) | go_size))⟩
        case measure => simp [intOf]; omega
    · have HALL := Lib.hid (show ∀ x ∈ xs, entB x = true by
        have h := hT.out
        rwa [List.take_of_length_le (by have := HX.out; omega)] at h)
      obtain ⟨wo, rfl⟩ : ∃ wo : World, wo = wr := ⟨_, rfl⟩
      go_wp2_with fail
      refine (streamsOf_any A n c xs hn HX.out (fun x hx => by have := (HK.out x hx).1; unfold maxLen; omega) _ (hL.below hB)).mono ?_
      rintro e2 w2 ⟨b, D, V, rfl, hSt, hbl, hb2⟩
      have HSt := Lib.hid hSt
      have HB2 := Lib.hid (below_step hb2 hB)
      clear hSt hb2
      go_wp2_with (at_range; refine wpList_range_own _ rfl _ 60 rfl 9 30 keyed Tryd.underlying60 encV b xs.length D rfl HSt.out.owns ?_; intro w0 hrg0 hg0 hs0)
      go_frame
      have hb0 : Below w2.heap.size w2 w0 := ⟨hg0.os, hg0.tape, hg0.output, hg0.size, fun i hi => hg0.block i hi (by simp)⟩
      have HRG := Lib.hid hrg0
      have HB0 := Lib.hid hb0
      clear hrg0 hg0 hs0 hb0
      go_loopw [6] (fun _ wr => ∃ (left : Lit → Bool) (cnt : Nat), Hid (wr.ranges Tryd.prog 9 encV b w2.heap.size xs.length D left cnt) ∧ Hid (∀ s, Maps.has D (keyL s) = true → left (keyL s) = false → eventsB (evOf s xs) = true) ∧ Hid (Below w2.heap.size w2 wr)) (fun _ wr => wr.rangeLeft b w2.heap.size)
      case atStart => exact ⟨_, _, HRG, Lib.hid (fun s h1 h2 => by rw [h1] at h2; cases h2), HB0⟩
      case round =>
        obtain ⟨left, cnt, hrg, hDone, hB3⟩ := hrel
        have hS3 := Lib.hid (HSt.out.kept hB3.out)
        go_wp2_with (at_next; refine wpList_next_streams rfl _ rfl b w2.heap.size xs D V left cnt rfl hS3.out hrg.out ?_ ?_)
        · intro _ hl0
          have HE : Hid (storeB xs = true) := Lib.hid (store_yes (by have := HX.out; omega) HALL.out (fun s hne => hDone.out s (HSt.out.has hne) (hl0 _)))
          have HBR := Lib.hid (HB2.out.trans (hB3.out.mono HB2.out.size))
          clear hl0
          go_wp2
          go_ret
          exact ⟨ret_bool HE.out.symm, HBR.out⟩
        · intro s w4 cnt1 hs hlk hrg1 hlt1 hg1 hsz1 hen
          have hB4 : Below w2.heap.size w2 w4 := below_grown hB3.out hg1 (Nat.le_refl _) hB3.out.size
          have HB4 := Lib.hid hB4
          have HROW := Lib.hid ((HSt.out.kept hB4).rows s)
          have HRG1 := Lib.hid hrg1
          have HLT := Lib.hid hlt1
          have hl5 := evOf_length s xs
          have hl6 : (evOf s xs).length ≤ 1048576 := by have := HX.out; omega
          clear hrg1 hg1 hsz1 hlk hB4 hlt1
          cases E5 : eventsB (evOf s xs)
          · have HE : Hid (storeB xs = false) := Lib.hid (store_stream E5)
            go_wp2_with (go_at_call 50; refine (implEvents_row HROW.out rfl hl6 (fun y hy => HI.out _ (evOf_mem hy))).mono ?_; rintro e5 w5 ⟨rfl, hb5⟩; rw [E5])
            go_ret
            exact ⟨ret_bool HE.out.symm, below_step hb5 (HB2.out.trans (HB4.out.mono HB2.out.size))⟩
          · have HE5 := Lib.hid E5
            clear E5
            go_wp2_with (go_at_call 50; refine (implEvents_row HROW.out rfl hl6 (fun y hy => HI.out _ (evOf_mem hy))).mono ?_; rintro e5 w5 ⟨rfl, hb5⟩; rw [HE5.out])
            have hgn : w4.grownBy w5 none := ⟨hb5.os, hb5.tape, hb5.output, hb5.size, fun i hi _ => hb5.block i hi⟩
            have HRG5 := Lib.hid (HRG1.out.kept hgn (by simp) (by simp))
            go_roundw
            case rel =>
              refine ⟨_, cnt1, HRG5, Lib.hid (fun t ht hl => ?_), Lib.hid (HB4.out.trans (hb5.mono HB4.out.size))⟩
              simp only [Bool.and_eq_false_iff, Bool.not_eq_false'] at hl
              rcases hl with hl | hl
              · exact hDone.out t ht hl
              · by_cases e : keyL t = keyL s
                · rw [keyL_inj e]; exact HE5.out
                · rw [sameKey_ne e] at hl; cases hl
            case measure =>
              rw [HRG5.out.left_eq, hrg.out.left_eq]
              exact HLT.out
end Go.Proofs.YtmkdmafffblmaaaDoor
