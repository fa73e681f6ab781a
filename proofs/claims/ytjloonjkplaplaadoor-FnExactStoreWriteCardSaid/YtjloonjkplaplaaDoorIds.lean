/-
  The ids of events as a set of bits: what the program's functions return, for every valid events. No condition.
-/
import Derived.Test.YtjloonjkplaplaaDoorIdsP
import Derived.Deep.MidRow
import Derived.Laws.Rows
namespace Go.Proofs.YtjloonjkplaplaaDoor
open Go.ChangeShapes Go.WideShapes Go.ChangeAt Go.RowKit

theorem ids_range {w : World} {b : Nat} {t : TypeId} {vs : List Value} (h : RowIs w b t vs) : w.rangeAt b 0 vs := fun j v hv => by rw [Nat.zero_add]; exact h.cell hv
theorem ids_there {w : World} {b : Nat} {t : TypeId} {vs : List Value} (h : RowIs w b t vs) {n : Nat} (hn : vs.length = n) : w.there b 0 n := fun j hj => by
  rw [Nat.zero_add]
  exact ⟨by rw [h.cell (List.getElem?_eq_getElem (by omega))]; rfl, h.frozen j⟩
theorem infoIds : (Tryd.prog.info? 64).map (·.size) = some 157 := by kernel_rfl
theorem isRowIds : ∃ d, Tryd.prog.underlying 64 = some d ∧ d.isRow = true := by
  cases e : Tryd.prog.underlying 64 with
  | none => exact absurd e (by rw [Tryd.underlying64]; simp)
  | some d => exact ⟨d, rfl, by rw [Tryd.underlying64] at e; cases e; rfl⟩
/-- A whole set written over a block of the same length. -/
theorem row_over {w : World} {b : Nat} {t : TypeId} : ∀ (us pre vs : List Value), RowIs w b t (pre ++ vs) → us.length = vs.length → RowIs (w.setCells b pre.length us) b t (pre ++ us) := by
  intro us
  induction us generalizing w with
  | nil => intro pre vs h hl; have : vs = [] := List.length_eq_zero_iff.1 hl.symm; subst this; exact h
  | cons u us ih =>
    intro pre vs h hl
    cases vs with
    | nil => simp at hl
    | cons v vs =>
      rw [World.setCells]
      have h1 := h.set pre.length u
      rw [List.set_append_right _ _ (Nat.le_refl _), Nat.sub_self, List.set_cons_zero] at h1
      have h2 := ih (pre ++ [u]) vs (by simpa using h1) (by simpa using hl)
      simpa using h2
theorem below_cells {w a : World} {b : Nat} : ∀ (us : List Value) (o : Nat), a.heap.size ≤ b → Below a.heap.size a w → Below a.heap.size a (w.setCells b o us) := by
  intro us
  induction us generalizing w with
  | nil => intro o _ h; exact h
  | cons u us ih => intro o hb h; rw [World.setCells]; exact ih (o + 1) hb (h.setCell (p := ⟨b, o, none⟩) hb u)

set_option maxRecDepth 16000 in
set_option maxHeartbeats 12800000 in
theorem idsOf_any (A : Option Addr) (n c : Nat) (ys : List EvT) (hn : n ≤ 1048576) (hy : ys.length = n) (hk : ∀ y ∈ ys, evOk y = true) (w : World) (hL : Lies w 3 A n (ys.flatMap eventCells)) :
    Calls Tryd.prog 40 #[.slice A n c] w fun e w' => e = .returned (.agg (idsV (idsN ys)).toArray) ∧ Below w.heap.size w w' := by
  have HY := Lib.hid hy
  have HL := Lib.hid hL
  have HK := Lib.hid hk
  clear hy hL hk
  go_enter Tryd.func40, Tryd.ntmps40
  go_wp2
  go_loopw [8] (fun i wr => ∃ k : Nat, k ≤ n ∧ i = .int .i64 k ∧ Hid (RowIs wr (w.heap.size + 1) 64 (idsV (idsN (ys.take k)))) ∧ Hid (RowIs wr w.heap.size 64 (idsV [])) ∧ Below w.heap.size w wr) (fun i _ => n - (intOf i).toNat)
  case atStart =>
    have h : ∀ (o : Obj) (cs : Array Value) (t : TypeId), RowIs ((w.alloc o).alloc (.cells cs t)) (w.heap.size + 1) t cs.toList := fun o cs t => by
      have h := RowIs.new (w.alloc o) cs t
      rwa [show (w.alloc o).heap.size = w.heap.size + 1 by simp] at h
    exact ⟨0, Nat.zero_le _, rfl, Lib.hid (h _ _ _), Lib.hid (RowIs.alloc (RowIs.new _ _ _) _), (by repeat' (first | (with_reducible exact Below.refl _ _) | (with_reducible assumption) | (with_reducible refine below_step (by assumption) ?_) | (with_reducible refine below_alloc ?_ _) | (with_reducible refine Below.drew ?_) | (with_reducible refine below_drewN ?_ _) | (with_reducible refine Below.setCell ?_ ?_ _) | go_size))⟩
  case round =>
    obtain ⟨k, hk, rfl, hR, hZ, hB⟩ := hrel
    by_cases hlt : k < n
    · obtain ⟨b, o, rfl, hb, hc⟩ := (HL.out.below hB).row (fun _ => rfl) (by omega)
      obtain ⟨⟨y0, y1, y2⟩, hyk⟩ := get_lt HY.out hlt
      have hid := ev_id (HK.out _ (List.mem_of_getElem? hyk))
      simp only at hid
      obtain ⟨z, rfl⟩ := Int.eq_ofNat_of_zero_le (show (0 : Int) ≤ y0 by omega)
      have c0 : wr.cell? ⟨b, o + k * 3, none⟩ = some (.int .i64 (z : Int)) := hc k _ hyk 0 _ rfl
      have c1 : wr.cell? ⟨b, o + k * 3 + 1, none⟩ = some (.string y1) := hc k _ hyk 1 _ rfl
      have c2 : wr.cell? ⟨b, o + k * 3 + 2, none⟩ = some (.int .i64 y2) := hc k _ hyk 2 _ rfl
      have HSU := Lib.hid (show idsN (ys.take (k + 1)) = idsN (ys.take k) ++ [z] by rw [idsN_succ hyk]; rfl)
      clear hyk hc
      obtain ⟨ids, hids⟩ : ∃ ids, ids = idsN (ys.take k) := ⟨_, rfl⟩
      rw [← hids] at hR HSU
      have HID := Lib.hid hids
      obtain ⟨q, hq⟩ : ∃ q, q = z / 64 := ⟨_, rfl⟩
      obtain ⟨r, hr⟩ : ∃ r, r = z % 64 := ⟨_, rfl⟩
      obtain ⟨p, hp⟩ : ∃ p, p = 2 ^ r := ⟨_, rfl⟩
      obtain ⟨u, hu⟩ : ∃ u, u = bitW ids q := ⟨_, rfl⟩
      obtain ⟨x, hx⟩ : ∃ x, x = u ||| p := ⟨_, rfl⟩
      have hp64 : p < 18446744073709551616 := by rw [hp, hr]; exact two_lt z
      have hu64 : u < 18446744073709551616 := by rw [hu]; exact bitW_lt ids q
      have b1 : bits .or .u64 (u : Int) (p : Int) = (x : Int) := by rw [bits_or_u64_nat u p hu64 hp64, hx]
      have s1 : IntKind.u64.wrap ((2 : Int) ^ r) = (p : Int) := by
        have e : ((2 : Int) ^ r) = ((p : Nat) : Int) := by rw [hp]; push_cast; rfl
        rw [e]
        exact IntWalk.u64_in _ ⟨by omega, by omega⟩
      have d1 : ((z : Nat) : Int).tdiv 64 = (q : Int) := by rw [Int.tdiv_eq_ediv_of_nonneg (by omega)]; omega
      have d2 : ((z : Nat) : Int).tmod 64 = (r : Int) := by rw [Int.tmod_eq_emod_of_nonneg (by omega)]; omega
      have d3 : IntKind.i64.wrap (q : Int) = (q : Int) := IntWalk.i64_in _ ⟨by omega, by omega⟩
      have d4 : IntKind.i64.wrap (r : Int) = (r : Int) := IntWalk.i64_in _ ⟨by omega, by omega⟩
      have q1 : q < 157 := by omega
      have q2 : (q : Int) < 157 := by omega
      have q3 : (0 : Int) ≤ (q : Int) := by omega
      have r1 : (0 : Int) ≤ (r : Int) := by omega
      have r2 : (r : Int) ≤ 64 := by omega
      have r3 : r < 64 := by omega
      have HXS := Lib.hid (show idsV (ids ++ [z]) = (idsV ids).set q (.int .u64 (x : Int)) by rw [idsV_snoc, hx, hu, hp, hr, hq])
      have u0 : wr.cell? ⟨w.heap.size + 1, q, none⟩ = some (.int .u64 (u : Int)) := hR.out.cell (by rw [idsV_get _ q1, hu])
      have f0 := hR.out.frozen q
      have hlt3 := hR.out.lt
      obtain ⟨wb, hwb⟩ : ∃ wb, wb = wr.alloc (.cells #[.int .i64 (z : Int), .string y1, .int .i64 y2] 55) := ⟨_, rfl⟩
      have HWB := Lib.hid hwb
      have BOB : Below wr.heap.size wr wb := by rw [hwb]; exact below_alloc (Below.refl _ _) _
      have e0 : wb.cell? ⟨wr.heap.size, 0, none⟩ = some (.int .i64 (z : Int)) := by rw [hwb]; go_cell
      have u1 := box_cell BOB u0
      have HRB := Lib.hid (hR.out.below BOB)
      have HZB := Lib.hid (hZ.out.below BOB)
      have f1 := HRB.out.frozen q
      have BB : Below w.heap.size w wb := below_step BOB hB
      clear hids hq hr hp hu hx hwb
      go_wp2_with fail
      rw [← HWB.out]
      go_region
      all_goals
        go_wp2
        go_roundw
        case rel => exact ⟨k + 1, by omega, by go_num, by rw [HSU.out, HXS.out]; exact Lib.hid (HRB.out.set q _), Lib.hid (HZB.out.other (by simp) _), (by repeat' (first | (with_reducible exact Below.refl _ _) | (with_reducible assumption) | (with_reducible refine below_step (by assumption) ?_) | (with_reducible refine below_alloc ?_ _) | (with_reducible refine Below.drew ?_) | (with_reducible refine below_drewN ?_ _) | (with_reducible refine Below.setCell ?_ ?_ _) | go_size))⟩
        case measure => simp [intOf]; omega
    · have HT := Lib.hid (show ys.take k = ys from List.take_of_length_le (by have := HY.out; omega))
      rw [HT.out] at hR
      obtain ⟨L, hLL⟩ : ∃ L, L = idsV (idsN ys) := ⟨_, rfl⟩
      rw [← hLL] at hR
      have HLL := Lib.hid hLL
      have hl1 : L.length = 157 := by rw [hLL]; exact idsV_length _
      have hone : ∀ v ∈ L, v.oneCell' = true := by rw [hLL]; exact idsV_one _
      obtain ⟨d, hd1, hd2⟩ := isRowIds
      have hinf : (Tryd.prog.info? 64).map (·.size) = some L.length := by rw [hl1]; exact infoIds
      have hinf2 : (Tryd.prog.info? 64).map (·.size) = some L.toArray.size := by simpa using hinf
      have hrng := Lib.hid (ids_range hR.out)
      have hth := Lib.hid (ids_there (n := L.toArray.size) hZ.out (by simp [idsV_length, hl1]))
      have hone2 := Lib.hid (all_oneCell_toArray hone)
      have HRN := Lib.hid (show RowIs (wr.setCells w.heap.size 0 L.toArray.toList) w.heap.size 64 L by simpa using row_over L [] (idsV []) hZ.out (by rw [hl1, idsV_length]))
      have HBN := Lib.hid (below_cells (b := w.heap.size) L.toArray.toList 0 (Nat.le_refl _) hB)
      have HI := Lib.hid hinf
      have HI2 := Lib.hid hinf2
      have HD1 := Lib.hid hd1
      have HD2 := Lib.hid hd2
      clear hinf hinf2 hone hl1 hd1 hd2 hLL
      go_wp2_with (first | (refine wpList_load_mid rfl 64 _ rfl (w.heap.size + 1) 0 rfl L d hrng.out HD1.out HD2.out HI.out ?_) | (refine wpList_store_mid rfl 64 _ _ rfl w.heap.size 0 L.toArray rfl rfl hth.out HI2.out hone2.out ?_))
      exact bodyPost_ret (results_cell_row rfl _ _ w.heap.size 64 L.toArray (0, 0) _ rfl HRN.out Tryd.underlying64 rfl HI2.out) rfl ⟨by rw [HLL.out], HBN.out⟩
end Go.Proofs.YtjloonjkplaplaaDoor
