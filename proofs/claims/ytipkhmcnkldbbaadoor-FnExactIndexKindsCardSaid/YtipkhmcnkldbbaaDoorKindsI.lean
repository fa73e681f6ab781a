/-
  IndexKinds of the program: what it returns, and where it lies. No condition beyond the sentinel and the library's int.
-/
import Derived.Test.YtipkhmcnkldbbaaDoorRBehind
import Derived.Test.YtipkhmcnkldbbaaDoorBunS
namespace Go.Proofs.YtipkhmcnkldbbaaDoor
open Go.ChangeShapes Go.WideShapes Go.ChangeAt Go.RowKit

/-- The tree behind the first k entries. -/
def kindsT (xs : List EnT) : Nat → RT
  | 0 => .leaf
  | k + 1 => match xs[k]? with
    | some x => (kindsT xs k).ins x.2.2.1 (k : Int)
    | none => kindsT xs k
def kindsR (xs : List EnT) : List (ByteArray × List Int) := if storeB xs then (kindsT xs xs.length).rows else []
theorem kindsT_succ {xs : List EnT} {k : Nat} {x : EnT} (h : xs[k]? = some x) : kindsT xs (k + 1) = (kindsT xs k).ins x.2.2.1 (k : Int) := by
  rw [kindsT, h]
theorem RT.small_mono {N M : Nat} (h : N ≤ M) : ∀ {t : RT}, t.small N → t.small M
  | .leaf, _ => trivial
  | .node _ _ _ _, ⟨h1, h2, h3⟩ => ⟨Nat.le_trans h1 h, RT.small_mono h h2, RT.small_mono h h3⟩
theorem RT.small_ins {N : Nat} (key : ByteArray) (p : Int) : ∀ {t : RT}, t.small N → (t.ins key p).small (N + 1)
  | .leaf, _ => ⟨by simp, trivial, trivial⟩
  | .node l k a r, ⟨h1, h2, h3⟩ => by
    rw [RT.ins]
    split
    · exact ⟨by omega, RT.small_ins key p h2, RT.small_mono (Nat.le_succ N) h3⟩
    · split
      · exact ⟨by omega, RT.small_mono (Nat.le_succ N) h2, RT.small_ins key p h3⟩
      · exact ⟨by simp; omega, RT.small_mono (Nat.le_succ N) h2, RT.small_mono (Nat.le_succ N) h3⟩
theorem RT.rows_ins (key : ByteArray) (p : Int) : ∀ (t : RT), (t.ins key p).rows.length ≤ t.rows.length + 1
  | .leaf => by simp [RT.ins, RT.rows]
  | .node l k a r => by
    have hl := RT.rows_ins key p l
    have hr := RT.rows_ins key p r
    rw [RT.ins]
    split
    · simp only [RT.rows, List.length_append, List.length_cons]; omega
    · split
      · simp only [RT.rows, List.length_append, List.length_cons]; omega
      · simp only [RT.rows, List.length_append, List.length_cons]; omega
theorem kindsT_small (xs : List EnT) : ∀ k, (kindsT xs k).small k
  | 0 => trivial
  | k + 1 => by
    rw [kindsT]
    split
    · exact RT.small_ins _ _ (kindsT_small xs k)
    · exact RT.small_mono (Nat.le_succ k) (kindsT_small xs k)
theorem kindsT_rows (xs : List EnT) : ∀ k, (kindsT xs k).rows.length ≤ k
  | 0 => by simp [kindsT, RT.rows]
  | k + 1 => by
    have ih := kindsT_rows xs k
    rw [kindsT]
    split
    · have := RT.rows_ins (by assumption : EnT).2.2.1 (k : Int) (kindsT xs k); omega
    · omega
theorem Turns.below {w0 w w' : World} {S : List Nat} {B : Nat} (h : Turns w w' S) (hS : ∀ b ∈ S, B ≤ b) (hB : Below B w0 w) (hw : B ≤ w.heap.size) : Below B w0 w' :=
  hB.trans ⟨h.os, h.tape, h.output, h.size, fun k hk => h.block k (by omega) (fun hks => by have := hS k hks; omega)⟩

set_option maxHeartbeats 6400000 in
theorem implKinds_any (A : Option Addr) (n c : Nat) (xs : List EnT) (hn : n ≤ 1048576) (hx : xs.length = n) (hok : StOk xs) (w : World) (a : Addr) (hS : Sent a w) (hM : MaxL w) (hL : Lies w 4 A n (xs.flatMap entryCells)) :
    Calls Tryd.prog 26 #[.slice A n c] w fun e w' => ∃ (hs : List RowX) (S : List Nat) (g m cap : Nat), e = .returned (.slice (some ⟨g, 0, none⟩) m cap) ∧ hs.length = m ∧ hs.map rowVal = kindsR xs ∧ w'.ownsRow w.heap.size 82 2 (.slice (some ⟨g, 0, none⟩) m cap) m (hs.flatMap rowCells) ∧ (∀ h ∈ hs, HeadIn w' S h) ∧ (hs.map (·.A)).Nodup ∧ (∀ b ∈ S, w.heap.size ≤ b ∧ b ≠ g) ∧ Below w.heap.size w w' := by
  have HX := Lib.hid hx
  have HL := Lib.hid hL
  clear hx hL
  cases E1 : storeB xs
  · have HE := Lib.hid (show kindsR xs = [] by unfold kindsR; rw [E1]; rfl)
    go_enter Tryd.func26, Tryd.ntmps26
    go_wp2_with fail
    refine (implStore_any A n c xs hn HX.out hok.small hok.ints _ a hS hM HL.out).mono ?_
    rintro e1 w1 ⟨rfl, hb1⟩
    rw [E1]
    go_wp2
    go_ret
    exact ⟨[], [], w1.heap.size, 0, 0, rfl, rfl, HE.out.symm, owns_nil' _ _ rfl hb1.size, by simp, by simp, by simp, below_alloc hb1 _⟩
  have h24 : n ≤ 24 := by have := ((store_iff xs).1 E1).1; have := HX.out; omega
  have HE := Lib.hid (show kindsR xs = (kindsT xs n).rows by unfold kindsR; rw [E1, HX.out]; rfl)
  go_enter Tryd.func26, Tryd.ntmps26
  go_wp2_with fail
  refine (implStore_any A n c xs hn HX.out hok.small hok.ints _ a hS hM HL.out).mono ?_
  rintro e1 w1 ⟨rfl, hb1⟩
  rw [E1]
  go_wp2
  go_loopw [3, 12] (fun t i wr => ∃ (k : Nat) (S : List Nat) (q : Option Addr), k ≤ n ∧ i = .int .i64 k ∧ t = .pointer q ∧ Hid (Tree wr S q (kindsT xs k)) ∧ Hid (∀ b ∈ S, w.heap.size ≤ b) ∧ Below w.heap.size w wr) (fun _ i _ => n - (intOf i).toNat)
  case atStart => exact ⟨0, [], none, Nat.zero_le _, rfl, rfl, Lib.hid ⟨rfl, rfl⟩, Lib.hid (by simp), hb1⟩
  case round =>
    obtain ⟨k, S, q, hk, rfl, rfl, hT, hSb, hB⟩ := hrel
    by_cases hlt : k < n
    · obtain ⟨b, o, rfl, hbl, hc⟩ := (HL.out.below hB).row (fun _ => rfl) (by omega)
      obtain ⟨⟨x0, x1, x2, x3⟩, hxk⟩ := get_lt HX.out hlt
      have c0 : wr.cell? ⟨b, o + k * 4, none⟩ = some (.string x0) := hc k _ hxk 0 _ rfl
      have c1 : wr.cell? ⟨b, o + k * 4 + 1, none⟩ = some (.int .i64 x1) := hc k _ hxk 1 _ rfl
      have c2 : wr.cell? ⟨b, o + k * 4 + 2, none⟩ = some (.string x2) := hc k _ hxk 2 _ rfl
      have c3 : wr.cell? ⟨b, o + k * 4 + 3, none⟩ = some (.int .i64 x3) := hc k _ hxk 3 _ rfl
      have HK := Lib.hid (kindsT_succ hxk)
      have BA := below_alloc hB (.cells #[.string x0, .int .i64 x1, .string x2, .int .i64 x3] 39)
      have TA : Tree (wr.alloc (.cells #[.string x0, .int .i64 x1, .string x2, .int .i64 x3] 39)) S q (kindsT xs k) := hT.out.keep (fun x hx => heap_alloc_old _ _ (hT.out.lt x hx))
      clear hc hxk
      go_wp2_with fail
      refine (with_tree k (by omega) x2 (k : Int) (kindsT xs k) S q _ TA (kindsT_small xs k)).mono ?_
      rintro e2 w2 ⟨q2, S2, rfl, t2, _, m2, k2⟩
      have HT2 : Hid (Tree w2 S2 q2 (kindsT xs (k + 1))) := Lib.hid (by rw [HK.out]; exact t2)
      have HS2 : Hid (∀ b ∈ S2, w.heap.size ≤ b) := Lib.hid (fun x hx => by
        rcases m2 x hx with h | h
        · exact hSb.out x h
        · have := BA.size; omega)
      have hB2 := k2.below hSb.out BA BA.size
      clear t2 m2 k2 TA
      go_wp2
      go_roundw
      case rel => exact ⟨k + 1, S2, q2, by omega, by go_num, rfl, HT2, HS2, hB2⟩
      case measure => simp [intOf]; omega
    · obtain rfl : k = n := by omega
      have BA := below_alloc hB (.cells #[] 82)
      have TA : Tree (wr.alloc (.cells #[] 82)) S q (kindsT xs k) := hT.out.keep (fun x hx => heap_alloc_old _ _ (hT.out.lt x hx))
      have hgS : wr.heap.size ∉ S := fun h => by have := hT.out.lt _ h; omega
      have hrl := kindsT_rows xs k
      go_wp2_with fail
      refine (behind_tree w.heap.size (kindsT xs k) S q _ [] wr.heap.size 0 0 TA (owns_nil' _ _ rfl hB.size) rfl hgS BA.size (by omega)).mono ?_
      rintro e2 w2 ⟨hs, g2, m2, c2, rfl, hl2, hv2, hh2, hn2, ho2, hat2, k2⟩
      have HH := Lib.hid hh2
      have HO2 := Lib.hid ho2
      have HL2 := Lib.hid hl2
      have HAT := Lib.hid hat2
      clear ho2 hl2 hh2 hat2
      go_wp2
      go_ret
      have hsz : (wr.alloc (.cells #[] 82)).heap.size = wr.heap.size + 1 := by simp
      have hat : g2 = wr.heap.size ∨ wr.heap.size + 1 ≤ g2 := by have := HAT.out; rw [hsz] at this; exact this
      refine ⟨hs, S, g2, m2, c2, rfl, by simpa using HL2.out, by rw [hv2, HE.out], by simpa using HO2.out, fun h hh => (HH.out h hh).keep (fun _ hb => hb) (fun x hx => k2.block x (by have := hT.out.lt x hx; omega) (by simp; have := hT.out.lt x hx; omega)), hn2, fun x hx => ⟨hSb.out x hx, by have := hT.out.lt x hx; omega⟩, k2.below (fun x hx => by simp at hx; have := hB.size; omega) BA BA.size⟩
end Go.Proofs.YtipkhmcnkldbbaaDoor
