/-
  The total of a category: what the reference's and the program's functions return, for every slice of totals. No condition.
-/
import Derived.Test.YtfbnpnajpkhkdaaTotalsS
namespace Go.Proofs.Ytfbnpnajpkhkdaa
open Go.ChangeShapes Go.WideShapes Go.ChangeAt Go.RowKit

abbrev Tot := ByteArray × Int × Int
def isCat (c : ByteArray) (x : Tot) : Bool := decide (x.1 = c)
def totZero : Tot := (ByteArray.empty, 0, 0)
def totalFind (xs : List Tot) (c : ByteArray) : Tot × Bool := if totalsB xs = true then (match xs.find? (isCat c) with | some x => (x, true) | none => (totZero, false)) else (totZero, false)
def totV (r : Tot × Bool) : Value := .tuple #[.agg #[.string r.1.1, .int .i64 r.1.2.1, .int .i64 r.1.2.2], .bool r.2]
theorem find_hit {xs : List Tot} {k : Nat} {x : Tot} {c : ByteArray} (hx : xs[k]? = some x) (h : xs.find? (isCat c) = (xs.drop k).find? (isCat c)) (e : x.1 = c) : xs.find? (isCat c) = some x := by
  rw [h, drop_of hx, List.find?_cons_of_pos (by simp [isCat, e])]
theorem find_on {xs : List Tot} {k : Nat} {x : Tot} {c : ByteArray} (hx : xs[k]? = some x) (h : xs.find? (isCat c) = (xs.drop k).find? (isCat c)) (e : ¬ x.1 = c) : xs.find? (isCat c) = (xs.drop (k + 1)).find? (isCat c) := by
  rw [h, drop_of hx, List.find?_cons_of_neg (by simp [isCat, e])]

set_option maxHeartbeats 6400000 in
theorem specTFind_any (A : Option Addr) (n c : Nat) (xs : List Tot) (cat : ByteArray) (hn : n ≤ 1048576) (hx : xs.length = n) (hok : ∀ x ∈ xs, totalOk x) (w : World) (hL : Lies w 3 A n (xs.flatMap totalCells)) :
    Calls Try.prog 59 #[.slice A n c, .string cat] w fun e w' => e = .returned (totV (totalFind xs cat)) ∧ Below w.heap.size w w' := by
  have HX := Lib.hid hx
  have HK := Lib.hid hok
  clear hx hok
  obtain ⟨w0, hw0⟩ : ∃ w0, w0 = w.alloc (.cells #[.string ByteArray.empty, .int .i64 0, .int .i64 0] 78) := ⟨_, rfl⟩
  have B0 : Below w.heap.size w w0 := by rw [hw0]; exact below_alloc (Below.refl _ _) _
  have p0 : w0.cell? ⟨w.heap.size, 0, none⟩ = some (.string ByteArray.empty) := by rw [hw0]; go_cell
  have p1 : w0.cell? ⟨w.heap.size, 1, none⟩ = some (.int .i64 0) := by rw [hw0]; go_cell
  have p2 : w0.cell? ⟨w.heap.size, 2, none⟩ = some (.int .i64 0) := by rw [hw0]; go_cell
  have z0 : w0.frozen? ⟨w.heap.size, 0, none⟩ = false := by rw [hw0]; simp [go_sem]
  have z1 : w0.frozen? ⟨w.heap.size, 1, none⟩ = false := by rw [hw0]; simp [go_sem]
  have z2 : w0.frozen? ⟨w.heap.size, 2, none⟩ = false := by rw [hw0]; simp [go_sem]
  have s0 : w.heap.size < w0.heap.size := by rw [hw0]; simp
  have HW0 := Lib.hid hw0
  have hL0 := hL.below B0
  clear hw0 hL
  go_enter Try.func59, Try.ntmps59
  go_wp2
  rw [show w.alloc (.cells #[.string ⟨#[]⟩, .int .i64 0, .int .i64 0] 78) = w0 from HW0.out.symm]
  go_loopw [6] (fun i wr => ∃ k : Nat, k ≤ n ∧ i = .int .i64 k ∧ Hid (0 < k → totalsB xs = true) ∧ Hid (xs.find? (isCat cat) = (xs.drop k).find? (isCat cat)) ∧ Below w0.heap.size w0 wr) (fun i _ => n - (intOf i).toNat)
  case atStart => exact ⟨0, Nat.zero_le _, rfl, Lib.hid (by omega), Lib.hid rfl, Below.refl _ _⟩
  case round =>
    obtain ⟨k, hk, rfl, hV, hT, hB⟩ := hrel
    obtain ⟨wo, rfl⟩ : ∃ wo : World, wo = wr := ⟨_, rfl⟩
    have r0 := box_cell hB p0
    have r1 := box_cell hB p1
    have r2 := box_cell hB p2
    have g0 := (hB.frozen (p := ⟨w.heap.size, 0, none⟩) s0).trans z0
    have g1 := (hB.frozen (p := ⟨w.heap.size, 1, none⟩) s0).trans z1
    have g2 := (hB.frozen (p := ⟨w.heap.size, 2, none⟩) s0).trans z2
    have hBw : Below w.heap.size w wo := below_step hB B0
    by_cases hlt : k < n
    · obtain ⟨b, o, rfl, hb, hc⟩ := (hL0.below hB).row (fun _ => rfl) (by omega)
      obtain ⟨⟨x0, x1, x2⟩, hxk⟩ := get_lt HX.out hlt
      have c0 : wo.cell? ⟨b, o + k * 3, none⟩ = some (.string x0) := hc k _ hxk 0 _ rfl
      have c1 : wo.cell? ⟨b, o + k * 3 + 1, none⟩ = some (.int .i64 x1) := hc k _ hxk 1 _ rfl
      have c2 : wo.cell? ⟨b, o + k * 3 + 2, none⟩ = some (.int .i64 x2) := hc k _ hxk 2 _ rfl
      have HXK := Lib.hid hxk
      have HLo := Lib.hid (hL0.below hB)
      clear hxk hc
      cases EV : totalsB xs
      · have HE : Hid (totalFind xs cat = (totZero, false)) := Lib.hid (by unfold totalFind; rw [EV]; rfl)
        go_wp2_with fail
        refine (specTotals_any _ _ _ xs hn HX.out HK.out _ HLo.out).mono ?_
        rintro e1 w1 ⟨rfl, hb1⟩
        rw [EV]
        have a0 := box_cell hb1 r0
        have a1 := box_cell hb1 r1
        have a2 := box_cell hb1 r2
        have lt0 := World.block_lt_of_cell? _ _ r0
        have f0 := (hb1.frozen (p := ⟨w.heap.size, 0, none⟩) lt0).trans g0
        have f1 := (hb1.frozen (p := ⟨w.heap.size, 1, none⟩) lt0).trans g1
        have f2 := (hb1.frozen (p := ⟨w.heap.size, 2, none⟩) lt0).trans g2
        go_wp2
        refine bodyPost_ret (v := totV (totalFind xs cat)) (by rw [HE.out]; simp [results, Try.results59, go_sem, totV, totZero, *]; rfl) rfl ⟨rfl, ?_⟩
        exact (by repeat' (first | (with_reducible exact Below.refl _ _) | (with_reducible assumption) | (with_reducible refine below_step (by assumption) ?_) | (with_reducible refine below_alloc ?_ _) | (with_reducible refine Below.drew ?_) | (with_reducible refine below_drewN ?_ _) | (with_reducible refine Below.setCell ?_ ?_ _) | go_size))
      · by_cases he : x0 = cat
        · have HE : Hid (totalFind xs cat = ((x0, x1, x2), true)) := Lib.hid (by unfold totalFind; rw [EV, if_pos rfl, find_hit HXK.out hT.out he])
          have E : (x0.toList == cat.toList) = true := by simp [he]
          have HEV := Lib.hid EV
          clear he
          go_wp2_with fail
          refine (specTotals_any _ _ _ xs hn HX.out HK.out _ HLo.out).mono ?_
          rintro e1 w1 ⟨rfl, hb1⟩
          rw [EV]
          have a0 := box_cell hb1 r0
          have a1 := box_cell hb1 r1
          have a2 := box_cell hb1 r2
          have d0 := box_cell hb1 c0
          have d1 := box_cell hb1 c1
          have d2 := box_cell hb1 c2
          have lt0 := World.block_lt_of_cell? _ _ r0
          have f0 := (hb1.frozen (p := ⟨w.heap.size, 0, none⟩) lt0).trans g0
          have f1 := (hb1.frozen (p := ⟨w.heap.size, 1, none⟩) lt0).trans g1
          have f2 := (hb1.frozen (p := ⟨w.heap.size, 2, none⟩) lt0).trans g2
          go_wp2
          refine bodyPost_ret (v := totV (totalFind xs cat)) (by rw [HE.out]; simp [results, Try.results59, go_sem, totV, *]) rfl ⟨rfl, ?_⟩
          exact (by repeat' (first | (with_reducible exact Below.refl _ _) | (with_reducible assumption) | (with_reducible refine below_step (by assumption) ?_) | (with_reducible refine below_alloc ?_ _) | (with_reducible refine Below.drew ?_) | (with_reducible refine below_drewN ?_ _) | (with_reducible refine Below.setCell ?_ ?_ _) | go_size))
        · have HE := Lib.hid (find_on HXK.out hT.out he)
          have E : (x0.toList == cat.toList) = false := str_ne he
          have HEV := Lib.hid EV
          clear he
          go_wp2_with fail
          refine (specTotals_any _ _ _ xs hn HX.out HK.out _ HLo.out).mono ?_
          rintro e1 w1 ⟨rfl, hb1⟩
          rw [EV]
          have a0 := box_cell hb1 r0
          have a1 := box_cell hb1 r1
          have a2 := box_cell hb1 r2
          have d0 := box_cell hb1 c0
          have d1 := box_cell hb1 c1
          have d2 := box_cell hb1 c2
          have lt0 := World.block_lt_of_cell? _ _ r0
          have f0 := (hb1.frozen (p := ⟨w.heap.size, 0, none⟩) lt0).trans g0
          have f1 := (hb1.frozen (p := ⟨w.heap.size, 1, none⟩) lt0).trans g1
          have f2 := (hb1.frozen (p := ⟨w.heap.size, 2, none⟩) lt0).trans g2
          go_wp2
          go_roundw
          case rel => exact ⟨k + 1, by omega, by go_num, Lib.hid (fun _ => by first | trivial | rfl | exact HEV.out), HE, (by repeat' (first | (with_reducible exact Below.refl _ _) | (with_reducible assumption) | (with_reducible refine below_step (by assumption) ?_) | (with_reducible refine below_alloc ?_ _) | (with_reducible refine Below.drew ?_) | (with_reducible refine below_drewN ?_ _) | (with_reducible refine Below.setCell ?_ ?_ _) | go_size))⟩
          case measure => simp [intOf]; omega
    · have HE : Hid (totalFind xs cat = (totZero, false)) := Lib.hid (by
        unfold totalFind
        rw [hT.out, List.drop_of_length_le (by rw [HX.out]; omega)]
        split <;> rfl)
      go_wp2
      refine bodyPost_ret (v := totV (totalFind xs cat)) (by rw [HE.out]; simp [results, Try.results59, go_sem, totV, totZero, *]; rfl) rfl ⟨rfl, ?_⟩
      exact (by repeat' (first | (with_reducible exact Below.refl _ _) | (with_reducible assumption) | (with_reducible refine below_step (by assumption) ?_) | (with_reducible refine below_alloc ?_ _) | (with_reducible refine Below.drew ?_) | (with_reducible refine below_drewN ?_ _) | (with_reducible refine Below.setCell ?_ ?_ _) | go_size))

set_option maxHeartbeats 6400000 in
theorem implTFind_any (A : Option Addr) (n c : Nat) (xs : List Tot) (cat : ByteArray) (hn : n ≤ 1048576) (hx : xs.length = n) (hok : ∀ x ∈ xs, totalOk x) (w : World) (hL : Lies w 3 A n (xs.flatMap totalCells)) :
    Calls Try.prog 61 #[.slice A n c, .string cat] w fun e w' => e = .returned (totV (totalFind xs cat)) ∧ Below w.heap.size w w' := by
  have HX := Lib.hid hx
  have HK := Lib.hid hok
  clear hx hok
  obtain ⟨w0, hw0⟩ : ∃ w0, w0 = w.alloc (.cells #[.string ByteArray.empty, .int .i64 0, .int .i64 0] 78) := ⟨_, rfl⟩
  have B0 : Below w.heap.size w w0 := by rw [hw0]; exact below_alloc (Below.refl _ _) _
  have p0 : w0.cell? ⟨w.heap.size, 0, none⟩ = some (.string ByteArray.empty) := by rw [hw0]; go_cell
  have p1 : w0.cell? ⟨w.heap.size, 1, none⟩ = some (.int .i64 0) := by rw [hw0]; go_cell
  have p2 : w0.cell? ⟨w.heap.size, 2, none⟩ = some (.int .i64 0) := by rw [hw0]; go_cell
  have z0 : w0.frozen? ⟨w.heap.size, 0, none⟩ = false := by rw [hw0]; simp [go_sem]
  have z1 : w0.frozen? ⟨w.heap.size, 1, none⟩ = false := by rw [hw0]; simp [go_sem]
  have z2 : w0.frozen? ⟨w.heap.size, 2, none⟩ = false := by rw [hw0]; simp [go_sem]
  have s0 : w.heap.size < w0.heap.size := by rw [hw0]; simp
  have HW0 := Lib.hid hw0
  have hL0 := Lib.hid (hL.below B0)
  clear hw0 hL
  cases EV : totalsB xs
  all_goals
    go_enter Try.func61, Try.ntmps61
    go_wp2_with fail
    rw [show w.alloc (.cells #[.string ⟨#[]⟩, .int .i64 0, .int .i64 0] 78) = w0 from HW0.out.symm]
    refine (implTotals_any _ _ _ xs hn HX.out HK.out _ hL0.out).mono ?_
    rintro e1 w1 ⟨rfl, hb1⟩
    rw [EV]
    have a0 := box_cell hb1 p0
    have a1 := box_cell hb1 p1
    have a2 := box_cell hb1 p2
    have f0 := (hb1.frozen (p := ⟨w.heap.size, 0, none⟩) s0).trans z0
    have f1 := (hb1.frozen (p := ⟨w.heap.size, 1, none⟩) s0).trans z1
    have f2 := (hb1.frozen (p := ⟨w.heap.size, 2, none⟩) s0).trans z2
    have hBw : Below w.heap.size w w1 := below_step hb1 B0
    have hL1 := Lib.hid (hL0.out.below hb1)
  · have HE : Hid (totalFind xs cat = (totZero, false)) := Lib.hid (by unfold totalFind; rw [EV]; rfl)
    go_wp2
    refine bodyPost_ret (v := totV (totalFind xs cat)) (by rw [HE.out]; simp [results, Try.results61, go_sem, totV, totZero, *]; rfl) rfl ⟨rfl, ?_⟩
    exact (by repeat' (first | (with_reducible exact Below.refl _ _) | (with_reducible assumption) | (with_reducible refine below_step (by assumption) ?_) | (with_reducible refine below_alloc ?_ _) | (with_reducible refine Below.drew ?_) | (with_reducible refine below_drewN ?_ _) | (with_reducible refine Below.setCell ?_ ?_ _) | go_size))
  have HEV := Lib.hid EV
  have s1 : w.heap.size < w1.heap.size := Nat.lt_of_lt_of_le s0 hb1.size
  clear p0 p1 p2 z0 z1 z2 EV
  go_wp2
  go_loopw [14] (fun i wr => ∃ k : Nat, k ≤ n ∧ i = .int .i64 k ∧ Hid (xs.find? (isCat cat) = (xs.drop k).find? (isCat cat)) ∧ Below w1.heap.size w1 wr) (fun i _ => n - (intOf i).toNat)
  case atStart => exact ⟨0, Nat.zero_le _, rfl, Lib.hid rfl, Below.refl _ _⟩
  case round =>
    obtain ⟨k, hk, rfl, hT, hB⟩ := hrel
    have r0 := box_cell hB a0
    have r1 := box_cell hB a1
    have r2 := box_cell hB a2
    have g0 := (hB.frozen (p := ⟨w.heap.size, 0, none⟩) s1).trans f0
    have g1 := (hB.frozen (p := ⟨w.heap.size, 1, none⟩) s1).trans f1
    have g2 := (hB.frozen (p := ⟨w.heap.size, 2, none⟩) s1).trans f2
    have hBr : Below w.heap.size w wr := below_step hB hBw
    by_cases hlt : k < n
    · obtain ⟨b, o, rfl, hb, hc⟩ := (hL1.out.below hB).row (fun _ => rfl) (by omega)
      obtain ⟨⟨x0, x1, x2⟩, hxk⟩ := get_lt HX.out hlt
      have c0 : wr.cell? ⟨b, o + k * 3, none⟩ = some (.string x0) := hc k _ hxk 0 _ rfl
      have c1 : wr.cell? ⟨b, o + k * 3 + 1, none⟩ = some (.int .i64 x1) := hc k _ hxk 1 _ rfl
      have c2 : wr.cell? ⟨b, o + k * 3 + 2, none⟩ = some (.int .i64 x2) := hc k _ hxk 2 _ rfl
      have HXK := Lib.hid hxk
      have lt0 := World.block_lt_of_cell? _ _ r0
      have ne0 : ¬ w.heap.size = wr.heap.size := Nat.ne_of_lt lt0
      have e0 : (wr.alloc (.cells #[.string x0, .int .i64 x1, .int .i64 x2] 78)).cell? ⟨w.heap.size, 0, none⟩ = some (.string ByteArray.empty) := box_cell (below_alloc (Below.refl _ _) _) r0
      have e1 : (wr.alloc (.cells #[.string x0, .int .i64 x1, .int .i64 x2] 78)).cell? ⟨w.heap.size, 1, none⟩ = some (.int .i64 0) := box_cell (below_alloc (Below.refl _ _) _) r1
      have e2 : (wr.alloc (.cells #[.string x0, .int .i64 x1, .int .i64 x2] 78)).cell? ⟨w.heap.size, 2, none⟩ = some (.int .i64 0) := box_cell (below_alloc (Below.refl _ _) _) r2
      have h0 : (wr.alloc (.cells #[.string x0, .int .i64 x1, .int .i64 x2] 78)).frozen? ⟨w.heap.size, 0, none⟩ = false := ((below_alloc (Below.refl _ wr) _).frozen (p := ⟨w.heap.size, 0, none⟩) lt0).trans g0
      have h1 : (wr.alloc (.cells #[.string x0, .int .i64 x1, .int .i64 x2] 78)).frozen? ⟨w.heap.size, 1, none⟩ = false := ((below_alloc (Below.refl _ wr) _).frozen (p := ⟨w.heap.size, 1, none⟩) lt0).trans g1
      have h2 : (wr.alloc (.cells #[.string x0, .int .i64 x1, .int .i64 x2] 78)).frozen? ⟨w.heap.size, 2, none⟩ = false := ((below_alloc (Below.refl _ wr) _).frozen (p := ⟨w.heap.size, 2, none⟩) lt0).trans g2
      clear hxk hc lt0
      by_cases he : x0 = cat
      · have HE : Hid (totalFind xs cat = ((x0, x1, x2), true)) := Lib.hid (by unfold totalFind; rw [HEV.out, if_pos rfl, find_hit HXK.out hT.out he])
        have E : (x0.toList == cat.toList) = true := by simp [he]
        clear he
        go_wp2
        refine bodyPost_ret (v := totV (totalFind xs cat)) (by rw [HE.out]; simp [results, Try.results61, go_sem, totV, *]) rfl ⟨rfl, ?_⟩
        exact (by repeat' (first | (with_reducible exact Below.refl _ _) | (with_reducible assumption) | (with_reducible refine below_step (by assumption) ?_) | (with_reducible refine below_alloc ?_ _) | (with_reducible refine Below.drew ?_) | (with_reducible refine below_drewN ?_ _) | (with_reducible refine Below.setCell ?_ ?_ _) | go_size))
      · have HE := Lib.hid (find_on HXK.out hT.out he)
        have E : (x0.toList == cat.toList) = false := str_ne he
        clear he
        go_wp2
        go_roundw
        case rel => exact ⟨k + 1, by omega, by go_num, HE, (by repeat' (first | (with_reducible exact Below.refl _ _) | (with_reducible assumption) | (with_reducible refine below_step (by assumption) ?_) | (with_reducible refine below_alloc ?_ _) | (with_reducible refine Below.drew ?_) | (with_reducible refine below_drewN ?_ _) | (with_reducible refine Below.setCell ?_ ?_ _) | go_size))⟩
        case measure => simp [intOf]; omega
    · have HE : Hid (totalFind xs cat = (totZero, false)) := Lib.hid (by
        unfold totalFind
        rw [hT.out, List.drop_of_length_le (by rw [HX.out]; omega)]
        split <;> rfl)
      go_wp2
      refine bodyPost_ret (v := totV (totalFind xs cat)) (by rw [HE.out]; simp [results, Try.results61, go_sem, totV, totZero, *]; rfl) rfl ⟨rfl, ?_⟩
      exact (by repeat' (first | (with_reducible exact Below.refl _ _) | (with_reducible assumption) | (with_reducible refine below_step (by assumption) ?_) | (with_reducible refine below_alloc ?_ _) | (with_reducible refine Below.drew ?_) | (with_reducible refine below_drewN ?_ _) | (with_reducible refine Below.setCell ?_ ?_ _) | go_size))
end Go.Proofs.Ytfbnpnajpkhkdaa
