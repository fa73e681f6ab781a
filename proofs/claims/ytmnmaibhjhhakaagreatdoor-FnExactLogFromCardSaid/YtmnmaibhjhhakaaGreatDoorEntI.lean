/-
  EntryFrom of the program: what it returns, for every text. No condition beyond what the row lists.
-/
import Derived.Test.YtmnmaibhjhhakaaGreatDoorEntP
import Derived.Test.YtmnmaibhjhhakaaGreatDoorAsErr
import Derived.Test.YtmnmaibhjhhakaaGreatDoorFrameAll
namespace Go.Proofs.YtmnmaibhjhhakaaGreatDoor
open Go.ChangeShapes Go.WideShapes Go.ChangeAt Go.RowKit

theorem cutB_any (s : ByteArray) (hs : s.size ≤ 1048576) (w : World) (hM : MaxL w) :
    Calls Tryz.prog 25 #[.string s, .string ⟨#[32]⟩] w fun e w' => ∃ f : Bool, e = .returned (.tuple #[.string (nameC s), .string (behC s), .bool f]) ∧ Below w.heap.size w w' := by
  obtain ⟨m, hm⟩ := hM
  refine (Tryz.strings_Cut s ⟨#[32]⟩ m w (by omega) hm).mono fun e w' ⟨he, n, hw⟩ => ?_
  subst hw
  exact ⟨_, he, below_drewN (Below.refl _ _) n⟩
theorem lastB_any (s : ByteArray) (hs : s.size ≤ 1048576) (w : World) :
    Calls Tryz.prog 26 #[.string s, .int .u8 32] w fun e w' => e = .returned (.int .i64 (Lib.lastIndexByte s 32)) ∧ w = w' :=
  (Tryz.strings_LastIndexByte s 32 (by omega) w).mono fun _ _ ⟨he, hw⟩ => ⟨he, hw.symm⟩
theorem evR_ok {s d1 : ByteArray} {d0 d2 : Int} (h : evR s = ((d0, d1, d2), true)) : eventB d0 d1 d2 = true := by
  by_cases h3 : (wordsB s).length = 3
  · obtain ⟨a, b, c, habc⟩ := three_of h3
    rw [evR_three habc] at h
    split at h
    · rename_i hc
      simp only [Bool.and_eq_true] at hc
      simp only [Prod.mk.injEq, and_true] at h
      obtain ⟨rfl, rfl, rfl⟩ := h
      exact hc.2.2
    · simp at h
  · rw [evR_not h3] at h
    simp at h
def enV (x : EnT) : Value := .agg #[.string x.1, .int .i64 x.2.1, .string x.2.2.1, .int .i64 x.2.2.2]

set_option maxRecDepth 8000 in
set_option maxHeartbeats 6400000 in
theorem readLine_any (s : ByteArray) (hs : s.size ≤ 1048576) (w : World) (a : Addr) (hS : Sent a w) (hM : MaxL w) (HT : HasTab w) :
    Calls Tryz.prog 13 #[.string s] w fun e w' => ∃ ev, e = .returned (.tuple #[enV (entR s).1, ev]) ∧ (((entR s).2 = true ∧ ev = .nilIface) ∨ ((entR s).2 = false ∧ ∃ b, ev = .iface 53 (.pointer (some ⟨b, 0, none⟩)))) ∧ Below w.heap.size w w' := by
  have n1 := nameC_size s
  have n2 := behC_size s
  obtain ⟨L, hL⟩ : ∃ L, Lib.lastIndexByte (behC s) 32 = L := ⟨_, rfl⟩
  obtain ⟨p, hp⟩ : ∃ p, nameC s = p := ⟨_, rfl⟩
  obtain ⟨r, hr⟩ : ∃ r, behC s = r := ⟨_, rfl⟩
  rw [hp] at n1
  rw [hr] at n2
  have hp1 : p.size ≤ 1048576 := by omega
  have hr1 : r.size ≤ 1048576 := by omega
  have HP := Lib.hid hp
  have HR := Lib.hid hr
  have HLL := Lib.hid hL
  have hQS := Lib.hid hS
  clear hp hr n1 n2 hL hS
  rcases (show L < 0 ∨ ∃ i : Nat, L = (i : Int) from by
    by_cases h : L < 0
    · exact .inl h
    · exact .inr ⟨L.toNat, by omega⟩) with hneg | ⟨i, rfl⟩
  · have HF := Lib.hid (ent_few (s := s) (by rw [HLL.out]; exact hneg))
    go_enter Tryz.func13, Tryz.ntmps13
    go_wp2_with fail
    refine (cutB_any s hs _ (hM.below (below_alloc (Below.refl _ _) _))).mono ?_
    rintro e1 w1 ⟨f, rfl, hb1⟩
    rw [HP.out, HR.out]
    have R0 := Lib.hid ((RowIs.new w #[.string ⟨#[]⟩, .int .i64 0, .string ⟨#[]⟩, .int .i64 0] 32).below hb1)
    have hB := below_step hb1 (below_alloc (Below.refl _ _) _)
    have z0 := R0.out.cell (j := 0) rfl
    have z1 := R0.out.cell (j := 1) rfl
    have z2 := R0.out.cell (j := 2) rfl
    have z3 := R0.out.cell (j := 3) rfl
    have fz0 := R0.out.frozen 0
    have fz1 := R0.out.frozen 1
    have fz2 := R0.out.frozen 2
    have fz3 := R0.out.frozen 3
    have hwz : w.heap.size < w1.heap.size := R0.out.lt
    go_wp2_with (go_at_call 26; refine (lastB_any r hr1 _).mono ?_; rintro e2 w2 ⟨rfl, rfl⟩; rw [← HR.out, HLL.out])
    refine bodyPost_ret (v := .tuple #[enV (entR s).1, .iface 53 (.pointer (some ⟨w1.heap.size, 0, none⟩))]) (by rw [HF.out]; simp [results, Tryz.results13, go_sem, enV, zE, *]) rfl ⟨_, rfl, .inr ⟨by rw [HF.out], _, rfl⟩, ?_⟩
    first
      | (refine Below.setCell (Below.setCell (Below.setCell (Below.setCell (below_alloc hB _) ?_ _) ?_ _) ?_ _) ?_ _ <;> exact Nat.le_refl _)
      | (refine below_alloc (Below.setCell (Below.setCell (Below.setCell (Below.setCell hB ?_ _) ?_ _) ?_ _) ?_ _) _ <;> exact Nat.le_refl _)
  · obtain ⟨hi, he⟩ := ent_prog (s := s) HLL.out
    rw [HP.out, HR.out] at he
    rw [HR.out] at hi
    obtain ⟨⟨d0, d1, d2⟩, bb, hev⟩ : ∃ x b, evR (r.extract 0 i) = (x, b) := ⟨_, _, rfl⟩
    rw [hev] at he
    have HE := Lib.hid he
    have HEV := Lib.hid hev
    have j0 : (0 : Int) ≤ (i : Int) := by omega
    have j1 : (i : Int) ≤ (r.size : Int) := by omega
    have hmz : (r.extract 0 i).size ≤ 1048576 := by rw [ByteArray.size_extract]; omega
    obtain ⟨mm, hmm⟩ : ∃ mm, r.extract 0 i = mm := ⟨_, rfl⟩
    rw [hmm] at hmz HEV
    clear he hev
    go_enter Tryz.func13, Tryz.ntmps13
    go_wp2_with fail
    refine (cutB_any s hs _ (hM.below (below_alloc (Below.refl _ _) _))).mono ?_
    rintro e1 w1 ⟨f, rfl, hb1⟩
    rw [HP.out, HR.out]
    have R0 := Lib.hid ((RowIs.new w #[.string ⟨#[]⟩, .int .i64 0, .string ⟨#[]⟩, .int .i64 0] 32).below hb1)
    have hB := below_step hb1 (below_alloc (Below.refl _ _) _)
    go_wp2_with fail
    refine (lastB_any r hr1 _).mono ?_
    rintro e2 w2 ⟨rfl, rfl⟩
    rw [← HR.out, HLL.out, HR.out]
    go_wp2_with fail
    refine (implEvFrom_as mm d0 d1 d2 bb HEV.out hmz _ (hM.below hB)).mono ?_
    rintro e3 w3 ⟨rfl, hb3⟩
    have R3 := Lib.hid (R0.out.below hb3)
    have hB3 := below_step hb3 hB
    have hwz : w.heap.size < w3.heap.size := R3.out.lt
    clear R0
    cases bb
    · have HF := Lib.hid (show entR s = (zE, false) from HE.out)
      have z0 := R3.out.cell (j := 0) rfl
      have z1 := R3.out.cell (j := 1) rfl
      have z2 := R3.out.cell (j := 2) rfl
      have z3 := R3.out.cell (j := 3) rfl
      have fz0 := R3.out.frozen 0
      have fz1 := R3.out.frozen 1
      have fz2 := R3.out.frozen 2
      have fz3 := R3.out.frozen 3
      have hwz1 : w.heap.size < w3.heap.size + 1 := by omega
      have hwz2 : w.heap.size < w3.heap.size + 1 + 1 := by omega
      clear HE
      go_wp2
      refine bodyPost_ret (v := .tuple #[enV (entR s).1, .iface 53 (.pointer (some ⟨w3.heap.size + 1 + 1, 0, none⟩))]) (by rw [HF.out]; simp [results, Tryz.results13, go_sem, enV, zE, *]) rfl ⟨_, rfl, .inr ⟨by rw [HF.out], _, rfl⟩, ?_⟩
      first
        | (refine Below.setCell (Below.setCell (Below.setCell (Below.setCell (below_alloc (below_alloc (below_alloc hB3 _) _) _) ?_ _) ?_ _) ?_ _) ?_ _ <;> exact Nat.le_refl _)
        | (refine below_alloc (below_alloc (below_alloc (Below.setCell (Below.setCell (Below.setCell (Below.setCell hB3 ?_ _) ?_ _) ?_ _) ?_ _) _) _) _ <;> exact Nat.le_refl _)
        | ((repeat' (first | (with_reducible exact Below.refl _ _) | (with_reducible assumption) | (with_reducible refine below_step (by assumption) ?_) | (with_reducible refine below_alloc ?_ _) | (with_reducible refine Below.drew ?_) | (with_reducible refine below_drewN ?_ _) | (with_reducible refine Below.setCell ?_ ?_ _) | go_size)); done)
    have hok := evR_ok HEV.out
    have hdz := (ev_parts hok).2.2.1
    have BA := below_alloc (below_alloc hB3 (.cells #[.int .i64 d0, .string d1, .int .i64 d2] 30)) (.cells #[.string p, .int .i64 d0, .string d1, .int .i64 d2] 32)
    have RA := Lib.hid ((R3.out.below (below_alloc (Below.refl _ _) (.cells #[.int .i64 d0, .string d1, .int .i64 d2] 30))).below (below_alloc (Below.refl _ _) (.cells #[.string p, .int .i64 d0, .string d1, .int .i64 d2] 32)))
    go_wp2_with fail
    refine (entryValid_any p d0 d1 d2 hp1 (by omega) a _ (hQS.out.below BA (Nat.le_refl _)) (hM.below BA)).mono ?_
    rintro e4 w4 ⟨rfl, hb4⟩
    have y0 := box_cell hb4 (b := w3.heap.size + 1) (o := 0) (u := .string p) (by go_cell)
    have y1 := box_cell hb4 (b := w3.heap.size + 1) (o := 1) (u := .int .i64 d0) (by go_cell)
    have y2 := box_cell hb4 (b := w3.heap.size + 1) (o := 2) (u := .string d1) (by go_cell)
    have y3 := box_cell hb4 (b := w3.heap.size + 1) (o := 3) (u := .int .i64 d2) (by go_cell)
    have R4 := Lib.hid (RA.out.below hb4)
    have hB4 := below_step hb4 BA
    have hwz4 : w.heap.size < w4.heap.size := R4.out.lt
    clear R3 RA
    cases eb : entB (p, d0, d1, d2)
    · have HF := Lib.hid (show entR s = (zE, false) by rw [HE.out, eb]; rfl)
      have z0 := R4.out.cell (j := 0) rfl
      have z1 := R4.out.cell (j := 1) rfl
      have z2 := R4.out.cell (j := 2) rfl
      have z3 := R4.out.cell (j := 3) rfl
      have fz0 := R4.out.frozen 0
      have fz1 := R4.out.frozen 1
      have fz2 := R4.out.frozen 2
      have fz3 := R4.out.frozen 3
      clear HE y0 y1 y2 y3
      go_wp2
      refine bodyPost_ret (v := .tuple #[enV (entR s).1, .iface 53 (.pointer (some ⟨w4.heap.size, 0, none⟩))]) (by rw [HF.out]; simp [results, Tryz.results13, go_sem, enV, zE, *]) rfl ⟨_, rfl, .inr ⟨by rw [HF.out], _, rfl⟩, ?_⟩
      first
        | (refine Below.setCell (Below.setCell (Below.setCell (Below.setCell (below_alloc hB4 _) ?_ _) ?_ _) ?_ _) ?_ _ <;> exact Nat.le_refl _)
        | (refine below_alloc (Below.setCell (Below.setCell (Below.setCell (Below.setCell hB4 ?_ _) ?_ _) ?_ _) ?_ _) _ <;> exact Nat.le_refl _)
    go_wp2_with fail
    refine (lineOf_any p d0 d1 d2 hp1 hok _ (HT.below hB4 (Nat.le_refl _))).mono ?_
    rintro e5 w5 ⟨rfl, hb5⟩
    have y0 := box_cell hb5 y0
    have y1 := box_cell hb5 y1
    have y2 := box_cell hb5 y2
    have y3 := box_cell hb5 y3
    have R5 := Lib.hid (R4.out.below hb5)
    have hB5 := below_step hb5 hB4
    have hwz5 : w.heap.size < w5.heap.size := R5.out.lt
    have z0 := R5.out.cell (j := 0) rfl
    have z1 := R5.out.cell (j := 1) rfl
    have z2 := R5.out.cell (j := 2) rfl
    have z3 := R5.out.cell (j := 3) rfl
    have fz0 := R5.out.frozen 0
    have fz1 := R5.out.frozen 1
    have fz2 := R5.out.frozen 2
    have fz3 := R5.out.frozen 3
    obtain ⟨T, hT⟩ : ∃ T, lineS (p, d0, d1, d2) = T := ⟨_, rfl⟩
    rw [hT]
    have HE2 := Lib.hid (show entR s = if T = s then ((p, d0, d1, d2), true) else (zE, false) by
      rw [HE.out, eb, hT]
      by_cases h : T = s
      · rw [if_pos h, decide_eq_true h]; rfl
      · rw [if_neg h, decide_eq_false h]; rfl)
    clear HE hT R4
    by_cases hTs : T = s
    · have HF := Lib.hid (show entR s = ((p, d0, d1, d2), true) by rw [HE2.out, if_pos hTs])
      have g1 : (T.toList == s.toList) = true := beq_toList' hTs
      have g2 : (T.toList != s.toList) = false := by unfold bne; rw [g1]; rfl
      clear HE2 hTs
      go_wp2
      refine bodyPost_ret (v := .tuple #[enV (entR s).1, .nilIface]) (by rw [HF.out]; simp [results, Tryz.results13, go_sem, enV, *]) rfl ⟨_, rfl, .inl ⟨by rw [HF.out], rfl⟩, ?_⟩
      refine Below.setCell (Below.setCell (Below.setCell (Below.setCell hB5 ?_ _) ?_ _) ?_ _) ?_ _ <;> exact Nat.le_refl _
    · have HF := Lib.hid (show entR s = (zE, false) by rw [HE2.out, if_neg hTs])
      have g1 : (T.toList == s.toList) = false := str_ne hTs
      have g2 : (T.toList != s.toList) = true := by unfold bne; rw [g1]; rfl
      clear HE2 hTs y0 y1 y2 y3
      go_wp2
      refine bodyPost_ret (v := .tuple #[enV (entR s).1, .iface 53 (.pointer (some ⟨w5.heap.size, 0, none⟩))]) (by rw [HF.out]; simp [results, Tryz.results13, go_sem, enV, zE, *]) rfl ⟨_, rfl, .inr ⟨by rw [HF.out], _, rfl⟩, ?_⟩
      first
        | (refine Below.setCell (Below.setCell (Below.setCell (Below.setCell (below_alloc hB5 _) ?_ _) ?_ _) ?_ _) ?_ _ <;> exact Nat.le_refl _)
        | (refine below_alloc (Below.setCell (Below.setCell (Below.setCell (Below.setCell hB5 ?_ _) ?_ _) ?_ _) ?_ _) _ <;> exact Nat.le_refl _)

theorem unread_nil (w : World) : Calls Tryz.prog 14 #[.nilIface] w fun e w' => e = .returned (.bool false) ∧ Below w.heap.size w w' := by
  go_enter Tryz.func14, Tryz.ntmps14
  go_wp2_with (go_at_call 30; refine (as_nil _ _).mono ?_; rintro e1 w1 ⟨rfl, rfl⟩)
  go_ret
  exact ⟨rfl, below_alloc (Below.refl _ _) _⟩
theorem unread_hit (b : Nat) (w : World) (hE : HandE w) : Calls Tryz.prog 14 #[.iface 53 (.pointer (some ⟨b, 0, none⟩))] w fun e w' => e = .returned (.bool true) ∧ Below w.heap.size w w' := by
  have hE1 := hE.below (below_alloc (Below.refl _ w) (.cells #[.pointer none] 53))
  have ht : (w.alloc (.cells #[.pointer none] 53)).cell? ⟨w.heap.size, 0, none⟩ = some (.pointer none) := by simp
  have hf : (w.alloc (.cells #[.pointer none] 53)).frozen? ⟨w.heap.size, 0, none⟩ = false := by simp
  go_enter Tryz.func14, Tryz.ntmps14
  go_wp2_with (go_at_call 30; refine (as_hit _ _ (.pointer none) _ hE1 ht hf).mono ?_; rintro e1 w1 ⟨rfl, hw1⟩; have hB1 : Below w.heap.size w w1 := (by rw [hw1]; exact (below_alloc (below_alloc (below_alloc (below_alloc (below_alloc (Below.refl _ _) _) _) _) _) _).setCell (Nat.le_refl _) _); clear hw1)
  go_ret
  exact ⟨rfl, hB1⟩
end Go.Proofs.YtmnmaibhjhhakaaGreatDoor
