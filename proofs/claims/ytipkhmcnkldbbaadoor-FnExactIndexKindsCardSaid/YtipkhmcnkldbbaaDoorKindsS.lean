/-
  IndexKinds of the reference; of both, over copies. No condition beyond what the rows list.
-/
import Derived.Test.YtipkhmcnkldbbaaDoorAddS
namespace Go.Proofs.YtipkhmcnkldbbaaDoor
open Go.ChangeShapes Go.WideShapes Go.ChangeAt Go.RowKit

theorem kindsT_asc (xs : List EnT) : ∀ k, AscR (kindsT xs k).rows
  | 0 => by simp [kindsT, RT.rows, AscR]
  | k + 1 => by
    rw [kindsT]
    split
    · exact RT.ins_asc _ _ _ (kindsT_asc xs k)
    · exact kindsT_asc xs k

set_option maxHeartbeats 6400000 in
theorem specKinds_any (A : Option Addr) (n c : Nat) (xs : List EnT) (hn : n ≤ 1048576) (hx : xs.length = n) (hok : StOk xs) (w : World) (hL : Lies w 4 A n (xs.flatMap entryCells)) :
    Calls Tryd.prog 25 #[.slice A n c] w fun e w' => ∃ (hs : List RowX) (S : List Nat) (g m cap : Nat), e = .returned (.slice (some ⟨g, 0, none⟩) m cap) ∧ hs.map rowVal = kindsR xs ∧ Fresh w' w.heap.size g m cap hs S ∧ Below w.heap.size w w' := by
  have HX := Lib.hid hx
  have HL := Lib.hid hL
  clear hx hL
  cases E1 : storeB xs
  · have HE := Lib.hid (show kindsR xs = [] by unfold kindsR; rw [E1]; rfl)
    go_enter Tryd.func25, Tryd.ntmps25
    go_wp2
    go_loopw [3, 4] (fun l i wr => i = .int .i64 0 ∧ l = .slice (some ⟨w.heap.size, 0, none⟩) 0 0 ∧ Hid (Fresh wr w.heap.size w.heap.size 0 0 [] []) ∧ Below w.heap.size w wr) (fun _ i _ => n - (intOf i).toNat)
    case atStart => exact ⟨rfl, rfl, Lib.hid (Fresh.nil w _ (Nat.le_refl _)), below_alloc (Below.refl _ _) _⟩
    case round =>
      obtain ⟨rfl, rfl, hF, hB⟩ := hrel
      by_cases hlt : 0 < n
      · go_wp2_with fail
        refine (specStore_any _ n c xs hn HX.out hok.small _ (HL.out.below hB)).mono ?_
        rintro e1 w1 ⟨rfl, hb1⟩
        rw [E1]
        have F1 := Lib.hid (hF.out.below hb1)
        go_wp2
        go_ret
        exact ⟨[], [], _, 0, 0, rfl, HE.out.symm, F1.out, below_step hb1 hB⟩
      · obtain rfl : n = 0 := by omega
        go_wp2
        go_ret
        exact ⟨[], [], _, 0, 0, rfl, HE.out.symm, hF.out, hB⟩
  have h24 : n ≤ 24 := by have := ((store_iff xs).1 E1).1; have := HX.out; omega
  have HE := Lib.hid (show kindsR xs = (kindsT xs n).rows by unfold kindsR; rw [E1, HX.out]; rfl)
  go_enter Tryd.func25, Tryd.ntmps25
  go_wp2
  go_loopw [3, 4] (fun l i wr => ∃ (k : Nat) (hs : List RowX) (S : List Nat) (g m cap : Nat), k ≤ n ∧ i = .int .i64 k ∧ l = .slice (some ⟨g, 0, none⟩) m cap ∧ Hid (hs.map rowVal = (kindsT xs k).rows) ∧ Hid (Fresh wr w.heap.size g m cap hs S) ∧ Below w.heap.size w wr) (fun _ i _ => n - (intOf i).toNat)
  case atStart => exact ⟨0, [], [], w.heap.size, 0, 0, Nat.zero_le _, rfl, rfl, Lib.hid rfl, Lib.hid (Fresh.nil w _ (Nat.le_refl _)), below_alloc (Below.refl _ _) _⟩
  case round =>
    obtain ⟨k, hs, S, g, m, cap, hk, rfl, rfl, hT, hF, hB⟩ := hrel
    by_cases hlt : k < n
    · obtain ⟨b, o, rfl, hbl, hc⟩ := (HL.out.below hB).row (fun _ => rfl) (by omega)
      obtain ⟨⟨x0, x1, x2, x3⟩, hxk⟩ := get_lt HX.out hlt
      have c2 : wr.cell? ⟨b, o + k * 4 + 2, none⟩ = some (.string x2) := hc k _ hxk 2 _ rfl
      have HK := Lib.hid (kindsT_succ hxk)
      have hm : m ≤ k := by
        have h1 := congrArg List.length hT.out
        rw [List.length_map, hF.out.len] at h1
        have h2 := kindsT_rows xs k
        omega
      have HN := Lib.hid (show ∀ v ∈ hs.map rowVal, v.2.length ≤ 1000 from fun v hv => by
        rw [hT.out] at hv
        have := RT.small_rows (kindsT_small xs k) v hv
        omega)
      clear hc hxk
      go_wp2_with fail
      refine (specStore_any _ n c xs hn HX.out hok.small _ (HL.out.below hB)).mono ?_
      rintro e1 w1 ⟨rfl, hb1⟩
      rw [E1]
      have hB1 := below_step hb1 hB
      have d2 := box_cell hb1 c2
      have F1 := Lib.hid (hF.out.below hb1)
      go_wp2_with fail
      refine (l22Add_any x2 (k : Int) g m cap hs (by omega) F1.out.len _ (F1.out.rows HN.out) (lies_of_own F1.out.own)).mono ?_
      rintro e2 w2 ⟨hs2, S2, g2, m2, c2', rfl, hv2, hf2, _, hb2⟩
      have HV2 : Hid (hs2.map rowVal = (kindsT xs (k + 1)).rows) := Lib.hid (by rw [hv2, hT.out, HK.out]; exact addR_ins _ _ _ (kindsT_asc xs k))
      have F2 := Lib.hid (hf2.base hB1.size)
      clear hf2 hv2
      go_wp2
      go_roundw
      case rel => exact ⟨k + 1, hs2, S2, g2, m2, c2', by omega, by go_num, rfl, HV2, F2, below_step hb2 hB1⟩
      case measure => simp [intOf]; omega
    · obtain rfl : k = n := by omega
      have HF := Lib.hid (hT.out.trans HE.out.symm)
      go_wp2
      go_ret
      exact ⟨hs, S, g, m, cap, rfl, HF.out, hF.out, hB⟩
end Go.Proofs.YtipkhmcnkldbbaaDoor
