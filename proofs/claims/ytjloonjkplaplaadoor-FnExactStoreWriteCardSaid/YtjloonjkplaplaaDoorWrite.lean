/-
  StoreWrite of the reference and of the program. No condition beyond what the rows list.
-/
import Derived.Test.YtjloonjkplaplaaDoorWasW
namespace Go.Proofs.YtjloonjkplaplaaDoor
open Go.ChangeShapes Go.WideShapes Go.ChangeAt Go.RowKit Go.Maps

/-- What StoreWrite answers. -/
def writeR (xs : List EnT) (s : ByteArray) (e : Int) (ys : List EvT) : List EnT × Int := if storeWas xs s e ys then (xs, 3) else appR xs s e ys
theorem write_was {xs : List EnT} {s : ByteArray} {e : Int} {ys : List EvT} (h : storeWas xs s e ys = true) : writeR xs s e ys = (xs, 3) := by unfold writeR; rw [if_pos h]
theorem write_app {xs : List EnT} {s : ByteArray} {e : Int} {ys : List EvT} (h : storeWas xs s e ys = false) : writeR xs s e ys = appR xs s e ys := by unfold writeR; rw [if_neg (by simp [h])]
theorem write_len (xs : List EnT) (s : ByteArray) (e : Int) (ys : List EvT) (hx : xs.length ≤ 1048576) : (writeR xs s e ys).1.length ≤ 1048576 := by
  unfold writeR
  split
  · exact hx
  · exact appR_len xs s e ys hx

set_option maxHeartbeats 6400000 in
theorem specWrite_any (gA oA n c : Nat) (xs : List EnT) (s : ByteArray) (e0 : Int) (B : Option Addr) (m d : Nat) (ys : List EvT) (hn : n ≤ 1048576) (hx : xs.length = n) (hok : StOk xs) (hs : s.size ≤ 1048576) (hm : m ≤ 1048576) (hmd : m ≤ d) (hy : ys.length = m) (hey : ∀ y ∈ ys, eventOk y ∧ y.2.1.size ≤ 1048576) (w : World) (hL : Lies w 4 (some ⟨gA, oA, none⟩) n (xs.flatMap entryCells)) (hM : Lies w 3 B m (ys.flatMap eventCells)) :
    Calls Tryd.prog 20 #[.slice (some ⟨gA, oA, none⟩) n c, .string s, .int .i64 e0, .slice B m d] w fun e w' => ∃ g k cap, e = .returned (.tuple #[.slice (some ⟨g, 0, none⟩) k cap, .int .i64 (writeR xs s e0 ys).2]) ∧ ((writeR xs s e0 ys).1).length = k ∧ w'.ownsRow w.heap.size 57 4 (.slice (some ⟨g, 0, none⟩) k cap) k (((writeR xs s e0 ys).1).flatMap entryCells) ∧ Below w.heap.size w w' := by
  have HX := Lib.hid hx
  have HY := Lib.hid hy
  have HL := Lib.hid hL
  have HM := Lib.hid hM
  clear hx hy hL hM
  cases E0 : storeWas xs s e0 ys
  · have HE := Lib.hid (write_app E0)
    go_enter Tryd.func20, Tryd.ntmps20
    go_wp2_with fail
    refine (specWas_any _ n c xs s e0 B m d ys hn HX.out hok hs hm hmd HY.out hey _ HL.out HM.out).mono ?_
    rintro e1 w1 ⟨rfl, hb1⟩
    rw [E0]
    have HL1 := Lib.hid (HL.out.below hb1)
    have HM1 := Lib.hid (HM.out.below hb1)
    go_wp2_with fail
    refine (specApp_any gA oA n c xs s e0 B m d ys hn HX.out hok hs hm hmd HY.out hey _ HL1.out HM1.out).mono ?_
    rintro e1 w2 ⟨g, k, cap, rfl, hl, ho, hb2⟩
    have HO := Lib.hid (ownsRow_base ho hb1.size)
    have HK := Lib.hid hl
    clear hl ho
    go_wp2
    go_ret2
    exact ⟨g, k, cap, by rw [HE.out]; rfl, by rw [HE.out]; exact HK.out, by rw [HE.out]; exact HO.out, below_step hb2 hb1⟩
  · have HE := Lib.hid (write_was E0)
    have hn24 : n ≤ 24 := by
      have h := E0
      unfold storeWas at h
      rw [Bool.and_eq_true] at h
      have := ((store_iff xs).1 (wasB_parts h.1).1).1
      have := HX.out
      omega
    go_enter Tryd.func20, Tryd.ntmps20
    go_wp2_with fail
    refine (specWas_any _ n c xs s e0 B m d ys hn HX.out hok hs hm hmd HY.out hey _ HL.out HM.out).mono ?_
    rintro e1 w1 ⟨rfl, hb1⟩
    rw [E0]
    have HL1 := Lib.hid (HL.out.below hb1)
    have hz1 := hb1.size
    have BZ : Below w.heap.size w (w1.alloc (.cells #[] 57)) := below_alloc hb1 _
    go_wp2_with (at_builtin; refine wpList_appS rfl _ _ 27 57 4 48 rowEntry rfl w.heap.size w1.heap.size 0 0 [] (ownsRow_base (owns_nil w1 _ _) hz1) rfl gA oA n c _ rfl (HL.out.below BZ) (entry_one xs) (by unfold maxLen; omega) (by omega) (by simp; omega) ?_; intro g7 c7 w7 ho7 hg7; have HO7 := Lib.hid ho7; have hB7 := below_grown BZ hg7 hz1 BZ.size; clear ho7 hg7)
    simp only [Nat.zero_add, List.nil_append] at HO7
    go_ret2
    exact ⟨g7, n, c7, by rw [HE.out]; simp, by rw [HE.out]; exact HX.out, by rw [HE.out]; exact HO7.out, hB7⟩

set_option maxHeartbeats 6400000 in
theorem implWriteS_any (gA oA n c : Nat) (xs : List EnT) (s : ByteArray) (e0 : Int) (B : Option Addr) (m d : Nat) (ys : List EvT) (hn : n ≤ 1048576) (hx : xs.length = n) (hok : StOk xs) (hs : s.size ≤ 1048576) (hm : m ≤ 1048576) (hmd : m ≤ d) (hy : ys.length = m) (hey : ∀ y ∈ ys, eventOk y ∧ y.2.1.size ≤ 1048576) (w : World) (a : Addr) (hS : Sent a w) (hM0 : MaxL w) (hL : Lies w 4 (some ⟨gA, oA, none⟩) n (xs.flatMap entryCells)) (hM : Lies w 3 B m (ys.flatMap eventCells)) :
    Calls Tryd.prog 21 #[.slice (some ⟨gA, oA, none⟩) n c, .string s, .int .i64 e0, .slice B m d] w fun e w' => ∃ g k cap, e = .returned (.tuple #[.slice (some ⟨g, 0, none⟩) k cap, .int .i64 (writeR xs s e0 ys).2]) ∧ ((writeR xs s e0 ys).1).length = k ∧ w'.ownsRow w.heap.size 57 4 (.slice (some ⟨g, 0, none⟩) k cap) k (((writeR xs s e0 ys).1).flatMap entryCells) ∧ Below w.heap.size w w' := by
  have HX := Lib.hid hx
  have HY := Lib.hid hy
  have HL := Lib.hid hL
  have HM := Lib.hid hM
  clear hx hy hL hM
  cases E0 : storeWas xs s e0 ys
  · have HE := Lib.hid (write_app E0)
    go_enter Tryd.func21, Tryd.ntmps21
    go_wp2_with fail
    refine (implWas_any _ n c xs s e0 B m d ys hn HX.out hok hs hm hmd HY.out hey _ a hS hM0 HL.out HM.out).mono ?_
    rintro e1 w1 ⟨rfl, hb1⟩
    rw [E0]
    have HL1 := Lib.hid (HL.out.below hb1)
    have HM1 := Lib.hid (HM.out.below hb1)
    go_wp2_with fail
    refine (implApp_any gA oA n c xs s e0 B m d ys hn HX.out hok hs hm hmd HY.out hey _ a (hS.below hb1 (Nat.le_refl _)) (hM0.below hb1) HL1.out HM1.out).mono ?_
    rintro e1 w2 ⟨g, k, cap, rfl, hl, ho, hb2⟩
    have HO := Lib.hid (ownsRow_base ho hb1.size)
    have HK := Lib.hid hl
    clear hl ho
    go_wp2
    go_ret2
    exact ⟨g, k, cap, by rw [HE.out]; rfl, by rw [HE.out]; exact HK.out, by rw [HE.out]; exact HO.out, below_step hb2 hb1⟩
  · have HE := Lib.hid (write_was E0)
    have hn24 : n ≤ 24 := by
      have h := E0
      unfold storeWas at h
      rw [Bool.and_eq_true] at h
      have := ((store_iff xs).1 (wasB_parts h.1).1).1
      have := HX.out
      omega
    go_enter Tryd.func21, Tryd.ntmps21
    go_wp2_with fail
    refine (implWas_any _ n c xs s e0 B m d ys hn HX.out hok hs hm hmd HY.out hey _ a hS hM0 HL.out HM.out).mono ?_
    rintro e1 w1 ⟨rfl, hb1⟩
    rw [E0]
    have HL1 := Lib.hid (HL.out.below hb1)
    have hz1 := hb1.size
    go_wp2_with fail
    refine (with_any gA oA n c xs s none 0 0 [] hn HX.out (by omega) rfl _ HL1.out ⟨rfl, fun h => absurd h (by omega)⟩).mono ?_
    rintro e1 w7 ⟨g7, k7, c7, rfl, hl7, ho7, hb7⟩
    rw [appE_nil] at hl7 ho7
    have HO7 := Lib.hid (ownsRow_base ho7 hz1)
    have HK7 := Lib.hid hl7
    clear ho7 hl7
    go_wp2
    go_ret2
    exact ⟨g7, k7, c7, by rw [HE.out]; rfl, by rw [HE.out]; exact HK7.out, by rw [HE.out]; exact HO7.out, below_step hb7 hb1⟩

theorem specWrite_at (lo hi : Nat) (v : Value) (lo' hi' : Nat) (v' : Value) (xs : List EnT) (s : ByteArray) (e0 : Int) (ys : List EvT) (hok : StOk xs) (hs : s.size ≤ 1048576) (hey : ∀ y ∈ ys, eventOk y ∧ y.2.1.size ≤ 1048576) (w : World) (h : entrySAt w lo hi v xs) (h' : eventSAt w lo' hi' v' ys) :
    Calls Tryd.prog 20 #[v, .string s, .int .i64 e0, v'] w fun e w' => ∃ u, e = .returned (.tuple #[u, .int .i64 (writeR xs s e0 ys).2]) ∧ entrySAt w' w.heap.size w'.heap.size u (writeR xs s e0 ys).1 ∧ Below w.heap.size w w' := by
  obtain ⟨g, m, c, rfl, hx, hb, _, _, ho⟩ := h.open
  obtain ⟨g', m', c', rfl, hx', hb', _, _, ho'⟩ := h'.open
  exact (specWrite_any _ _ _ _ xs s e0 _ _ _ ys hb hx hok hs hb' (owns_cap ho').2 hx' hey w (lies_of_own ho) (lies_of_own ho')).mono fun _ _ ⟨_, _, _, he, hl, hw, hB⟩ => ⟨_, he, entrySAt.made hl (by have := write_len xs s e0 ys (by omega); omega) hw, hB⟩
theorem implWrite_at (lo hi : Nat) (v : Value) (lo' hi' : Nat) (v' : Value) (xs : List EnT) (s : ByteArray) (e0 : Int) (ys : List EvT) (hok : StOk xs) (hs : s.size ≤ 1048576) (hey : ∀ y ∈ ys, eventOk y ∧ y.2.1.size ≤ 1048576) (w : World) (a : Addr) (hS : Sent a w) (hM0 : MaxL w) (h : entrySAt w lo hi v xs) (h' : eventSAt w lo' hi' v' ys) :
    Calls Tryd.prog 21 #[v, .string s, .int .i64 e0, v'] w fun e w' => ∃ u, e = .returned (.tuple #[u, .int .i64 (writeR xs s e0 ys).2]) ∧ entrySAt w' w.heap.size w'.heap.size u (writeR xs s e0 ys).1 ∧ Below w.heap.size w w' := by
  obtain ⟨g, m, c, rfl, hx, hb, _, _, ho⟩ := h.open
  obtain ⟨g', m', c', rfl, hx', hb', _, _, ho'⟩ := h'.open
  exact (implWriteS_any _ _ _ _ xs s e0 _ _ _ ys hb hx hok hs hb' (owns_cap ho').2 hx' hey w a hS hM0 (lies_of_own ho) (lies_of_own ho')).mono fun _ _ ⟨_, _, _, he, hl, hw, hB⟩ => ⟨_, he, entrySAt.made hl (by have := write_len xs s e0 ys (by omega); omega) hw, hB⟩
end Go.Proofs.YtjloonjkplaplaaDoor
