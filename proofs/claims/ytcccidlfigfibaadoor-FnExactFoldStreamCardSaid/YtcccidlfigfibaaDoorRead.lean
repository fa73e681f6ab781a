/-
  StoreRead of the reference and of the program. No condition beyond what the rows list.
-/
import Derived.Test.YtcccidlfigfibaaDoorPieceI
import Derived.Deep.AppendLies
namespace Go.Proofs.YtcccidlfigfibaaDoor
open Go.ChangeShapes Go.WideShapes Go.ChangeAt Go.RowKit

/-- append(xs, x) in a plain region, and where the new row lies. -/
theorem wpList_app1y {P : Program} {ops : Array Oper} {rest : List Oper} {o : Oper} {a : Act} {Q : Exit → Act → World → Prop} (hgd : o.guard = none) (s x : Operand) (t e : TypeId) (size bytes : Nat) (R : RowTy P t e size bytes) (ho : o.op = .call { callee := .builtin .append, args := #[s, x], argTypes := #[t, t] })
    {wr : World} {us : Array Value} (B g n c : Nat) (xs : List Value) (hown : wr.ownsRow B e size (.slice (some ⟨g, 0, none⟩) n c) n xs)
    (hs : a.eval s = .slice (some ⟨g, 0, none⟩) n c) (hx : a.eval x = .slice (some ⟨wr.heap.size, 0, none⟩) 1 1)
    (hu : us.size = size) (h1 : us.toList.all Value.oneCell' = true) (hn : n + 1 ≤ maxLen) (hby : (n + 1) * bytes ≤ 140737488355328) (hB : B ≤ wr.heap.size)
    (h : ∀ g' c' w', w'.ownsRow B e size (.slice (some ⟨g', 0, none⟩) (n + 1) c') (n + 1) (xs ++ us.toList) → wr.grownBy w' (some g) → (g' = g ∨ wr.heap.size < g') → wpList P ops Q rest (a.put o.dst (.slice (some ⟨g', 0, none⟩) (n + 1) c')) w') :
    wpList P ops Q (o :: rest) a (wr.alloc (.cells us e)) := by
  obtain ⟨ht, i, z, k1, k2, k3, k4, k5, k6⟩ := R
  refine wpList_append_lies _ hgd s x t ho B e i z size bytes ht k1 k2 k3 k4 k5 k6 _ n xs hs (hown.alloc _) ⟨wr.heap.size, 0, none⟩ 1 1 us.toList hx (by simp [hu]) (World.news_of_block (heap_alloc_new _ _)) (fun u hu' => List.all_eq_true.1 h1 u hu') (by omega) hn hby (by simp; omega) _ rfl ?_
  intro g' cap w' o1 g1 hat _
  have g2 : (wr.alloc (.cells us e)).grownBy w' (some g) := g1
  refine h g' cap w' o1 ⟨g2.os, g2.tape, g2.output, Nat.le_trans (by simp) g2.size, fun k hk hne => (g2.block k (by simp; omega) hne).trans (heap_alloc_old _ _ hk)⟩ ?_
  rcases hat with hat | hat
  · exact .inl (by have : some g = some g' := hat; injection this with e; exact e.symm)
  · exact .inr (by rw [hat, World.size_alloc]; omega)

def readL (xs : List EnT) (s : ByteArray) (f q : Int) : List (Int × ByteArray × Int) := if storeB xs && nameB s && inB f 0 99 && inB q 0 99 then pieceL f q (evOf s xs) else []
theorem readL_le (xs : List EnT) (s : ByteArray) (f q : Int) : (readL xs s f q).length ≤ xs.length := by
  unfold readL
  split
  · exact Nat.le_trans (pieceL_le _ _ _) (evOf_length s xs)
  · simp
theorem read_yes {xs : List EnT} {s : ByteArray} {f q : Int} (h1 : storeB xs = true) (h0 : nameB s = true) (h2 : inB f 0 99 = true) (h3 : inB q 0 99 = true) : readL xs s f q = pieceL f q (evOf s xs) := by unfold readL; rw [h1, h0, h2, h3]; rfl

set_option maxHeartbeats 6400000 in
theorem implRead_any (A : Option Addr) (n c : Nat) (xs : List EnT) (s : ByteArray) (fr ma : Int) (hn : n ≤ 1048576) (hx : xs.length = n) (hok : StOk xs) (hs : s.size ≤ 1048576) (w : World) (a : Addr) (hS : Sent a w) (hM : MaxL w) (hL : Lies w 4 A n (xs.flatMap entryCells)) :
    Calls Tryd.prog 53 #[.slice A n c, .string s, .int .i64 fr, .int .i64 ma] w fun e w' => ∃ g m c', e = .returned (.slice (some ⟨g, 0, none⟩) m c') ∧ (readL xs s fr ma).length = m ∧ w'.ownsRow w.heap.size 70 3 (.slice (some ⟨g, 0, none⟩) m c') m ((readL xs s fr ma).flatMap eventCells) ∧ Below w.heap.size w w' := by
  have HX := Lib.hid hx
  have HL := Lib.hid hL
  clear hx hL
  cases E1 : storeB xs
  · have HE := Lib.hid (show readL xs s fr ma = [] by unfold readL; rw [E1]; rfl)
    go_enter Tryd.func53, Tryd.ntmps53
    go_wp2_with fail
    refine (implStore_any A n c xs hn HX.out hok.small hok.ints _ a hS hM HL.out).mono ?_
    rintro e1 w1 ⟨rfl, hb1⟩
    rw [E1]
    go_wp2
    go_ret
    exact ⟨_, 0, 0, rfl, by rw [HE.out]; rfl, by rw [HE.out]; exact owns_nil' _ _ rfl (by exact hb1.size), (by repeat' (first | (with_reducible exact Below.refl _ _) | (with_reducible assumption) | (with_reducible refine below_step (by assumption) ?_) | (with_reducible refine below_alloc ?_ _) | (with_reducible refine Below.drew ?_) | (with_reducible refine below_drewN ?_ _) | (with_reducible refine Below.setCell ?_ ?_ _) | go_size))⟩
  cases E2 : nameB s
  · have HE := Lib.hid (show readL xs s fr ma = [] by unfold readL; rw [E1, E2]; rfl)
    go_enter Tryd.func53, Tryd.ntmps53
    go_wp2_with fail
    refine (implStore_any A n c xs hn HX.out hok.small hok.ints _ a hS hM HL.out).mono ?_
    rintro e1 w1 ⟨rfl, hb1⟩
    rw [E1]
    go_wp2_with fail
    refine (implNameValid_any s hs a _ (hS.below hb1 (Nat.le_refl _)) (hM.below hb1)).mono ?_
    rintro e2 w2 ⟨rfl, hb2⟩
    rw [E2]
    go_wp2
    go_ret
    exact ⟨_, 0, 0, rfl, by rw [HE.out]; rfl, by rw [HE.out]; exact owns_nil' _ _ rfl (by have := hb1.size; have := hb2.size; omega), (by repeat' (first | (with_reducible exact Below.refl _ _) | (with_reducible assumption) | (with_reducible refine below_step (by assumption) ?_) | (with_reducible refine below_alloc ?_ _) | (with_reducible refine Below.drew ?_) | (with_reducible refine below_drewN ?_ _) | (with_reducible refine Below.setCell ?_ ?_ _) | go_size))⟩
  cases E3 : (inB fr 0 99 && inB ma 0 99)
  · have HE := Lib.hid (show readL xs s fr ma = [] by unfold readL; rw [Bool.and_assoc, E1, E2, E3]; rfl)
    go_enter Tryd.func53, Tryd.ntmps53
    go_wp2_with fail
    refine (implStore_any A n c xs hn HX.out hok.small hok.ints _ a hS hM HL.out).mono ?_
    rintro e1 w1 ⟨rfl, hb1⟩
    rw [E1]
    go_wp2_with fail
    refine (implNameValid_any s hs a _ (hS.below hb1 (Nat.le_refl _)) (hM.below hb1)).mono ?_
    rintro e2 w2 ⟨rfl, hb2⟩
    rw [E2]
    go_wp2_with fail
    refine (implReadable_any _ _ _).mono ?_
    rintro e3 w3 ⟨rfl, rfl⟩
    rw [E3]
    go_wp2
    go_ret
    exact ⟨_, 0, 0, rfl, by rw [HE.out]; rfl, by rw [HE.out]; exact owns_nil' _ _ rfl (by have := hb1.size; have := hb2.size; omega), (by repeat' (first | (with_reducible exact Below.refl _ _) | (with_reducible assumption) | (with_reducible refine below_step (by assumption) ?_) | (with_reducible refine below_alloc ?_ _) | (with_reducible refine Below.drew ?_) | (with_reducible refine below_drewN ?_ _) | (with_reducible refine Below.setCell ?_ ?_ _) | go_size))⟩
  obtain ⟨E4, E5⟩ := (Bool.and_eq_true _ _).mp E3
  have HE0 := Lib.hid (read_yes E1 E2 E4 E5)
  obtain ⟨hf0, hf1⟩ := inB_iff.1 E4
  obtain ⟨hq0, hq1⟩ := inB_iff.1 E5
  obtain ⟨f, rfl⟩ := Int.eq_ofNat_of_zero_le hf0
  obtain ⟨q, rfl⟩ := Int.eq_ofNat_of_zero_le hq0
  have HE := Lib.hid (show readL xs s (f : Int) (q : Int) = pieceL (f : Int) (q : Int) (evOf s xs) from HE0.out)
  clear HE0 E4 E5
  go_enter Tryd.func53, Tryd.ntmps53
  go_wp2_with fail
  refine (implStore_any A n c xs hn HX.out hok.small hok.ints _ a hS hM HL.out).mono ?_
  rintro e1 w1 ⟨rfl, hb1⟩
  rw [E1]
  go_wp2_with fail
  refine (implNameValid_any s hs a _ (hS.below hb1 (Nat.le_refl _)) (hM.below hb1)).mono ?_
  rintro e2 w2 ⟨rfl, hb2⟩
  rw [E2]
  go_wp2_with fail
  refine (implReadable_any _ _ _).mono ?_
  rintro e3 w3 ⟨rfl, rfl⟩
  rw [show (inB (f : Int) 0 99 && inB (q : Int) 0 99) = true from E3]
  have HL2 := Lib.hid ((HL.out.below hb1).below hb2)
  go_wp2_with fail
  refine (streamsOf_any A n c xs hn HX.out hok.names _ HL2.out).mono ?_
  rintro e4 w4 ⟨b, D, V, rfl, hSt, _, hb4⟩
  have hlk := hSt.look (s := s) (by unfold maxLen; omega)
  have hl := evOf_length s xs
  have hr := hSt.rows s
  have B4 : Below w.heap.size w w4 := (by repeat' (first | (with_reducible exact Below.refl _ _) | (with_reducible assumption) | (with_reducible refine below_step (by assumption) ?_) | (with_reducible refine below_alloc ?_ _) | (with_reducible refine Below.drew ?_) | (with_reducible refine below_drewN ?_ _) | (with_reducible refine Below.setCell ?_ ?_ _) | go_size))
  rcases hr.2 with ⟨hv, h0⟩ | ⟨g, c4, cur, hv, hb, hh, hc1, hc2, r⟩
  · have hnil : evOf s xs = [] := by
      have := hr.1
      cases hz : evOf s xs with
      | nil => rfl
      | cons x l => rw [hz] at h0; simp at h0
    have HN := Lib.hid hnil
    rw [hv] at hlk
    clear hv hSt hr h0 hnil
    go_wp2_with fail
    refine (pieceEv0_any f q (by omega) (by omega) _).mono ?_
    rintro e5 w5 ⟨g, m, c', rfl, hl5, ho5, hb5⟩
    have HLn := Lib.hid hl5
    have HO := Lib.hid ho5
    clear hl5 ho5
    go_wp2
    go_ret
    exact ⟨g, m, c', rfl, by rw [HE.out, HN.out]; exact HLn.out, by rw [HE.out, HN.out]; exact ownsRow_base HO.out B4.size, (by repeat' (first | (with_reducible exact Below.refl _ _) | (with_reducible assumption) | (with_reducible refine below_step (by assumption) ?_) | (with_reducible refine below_alloc ?_ _) | (with_reducible refine Below.drew ?_) | (with_reducible refine below_drewN ?_ _) | (with_reducible refine Below.setCell ?_ ?_ _) | go_size))⟩
  · have hLs := lies_of_own (hv ▸ hr)
    rw [hv] at hlk
    obtain ⟨m4, hm4⟩ : ∃ m4, m4 = (evOf s xs).length := ⟨_, rfl⟩
    rw [← hm4] at hlk hLs hc1
    have HLs := Lib.hid hLs
    have HM := Lib.hid hm4
    have hmb : m4 ≤ 1048576 := by have := HX.out; omega
    clear hv hSt hr hLs hm4 r hh
    go_wp2_with fail
    refine (pieceEv_any g 0 m4 c4 (evOf s xs) f q hmb HM.out.symm (by omega) (by omega) (by omega) _ HLs.out).mono ?_
    rintro e5 w5 ⟨g, m, c', rfl, hl5, ho5, hb5⟩
    have HLn := Lib.hid hl5
    have HO := Lib.hid ho5
    clear hl5 ho5
    go_wp2
    go_ret
    exact ⟨g, m, c', rfl, by rw [HE.out]; exact HLn.out, by rw [HE.out]; exact ownsRow_base HO.out B4.size, (by repeat' (first | (with_reducible exact Below.refl _ _) | (with_reducible assumption) | (with_reducible refine below_step (by assumption) ?_) | (with_reducible refine below_alloc ?_ _) | (with_reducible refine Below.drew ?_) | (with_reducible refine below_drewN ?_ _) | (with_reducible refine Below.setCell ?_ ?_ _) | go_size))⟩

theorem implRead_at (lo hi : Nat) (v : Value) (xs : List EnT) (s : ByteArray) (fr ma : Int) (hok : StOk xs) (hs : s.size ≤ 1048576) (w : World) (a : Addr) (hS : Sent a w) (hM : MaxL w) (h : entrySAt w lo hi v xs) :
    Calls Tryd.prog 53 #[v, .string s, .int .i64 fr, .int .i64 ma] w fun e w' => ∃ v', e = .returned v' ∧ eventSAt w' w.heap.size w'.heap.size v' (readL xs s fr ma) ∧ Below w.heap.size w w' := by
  obtain ⟨g, m, c, rfl, hx, hb, _, _, ho⟩ := h.open
  exact (implRead_any _ _ _ xs s fr ma hb hx hok hs w a hS hM (lies_of_own ho)).mono fun _ _ ⟨_, _, _, he, hl, ho', hb'⟩ => ⟨_, he, eventSAt.made hl (by have := readL_le xs s fr ma; omega) ho', hb'⟩
end Go.Proofs.YtcccidlfigfibaaDoor
