/-
  EventFrom of the reference and of the program: what each returns, for every text. No condition beyond the library's int.
-/
import Derived.Test.YtmnmaibhjhhakaaGreatDoorCutX
import Derived.Test.YtmnmaibhjhhakaaGreatDoorEvText
import Derived.Test.YtmnmaibhjhhakaaGreatDoorBunN
import Derived.Deep.Cut
namespace Go.Proofs.YtmnmaibhjhhakaaGreatDoor
open Go.ChangeShapes Go.WideShapes Go.ChangeAt Go.RowKit

abbrev EvR := (Int × ByteArray × Int) × Bool
def evWs : List ByteArray → EvR
  | [a, b, c] => if (numB a 9999 && (numB c 999 && eventB (numV a 9999) b (numV c 999))) = true then ((numV a 9999, b, numV c 999), true) else ((0, ⟨#[]⟩, 0), false)
  | _ => ((0, ⟨#[]⟩, 0), false)
def evR (s : ByteArray) : EvR := evWs (wordsB s)
def evV (r : EvR) : Value := .tuple #[.agg #[.int .i64 r.1.1, .string r.1.2.1, .int .i64 r.1.2.2], .bool r.2]
theorem evR_three {s a b c : ByteArray} (h : wordsB s = [a, b, c]) : evR s = if (numB a 9999 && (numB c 999 && eventB (numV a 9999) b (numV c 999))) = true then ((numV a 9999, b, numV c 999), true) else ((0, ⟨#[]⟩, 0), false) := by
  unfold evR; rw [h]; rfl
theorem evR_not {s : ByteArray} (h : (wordsB s).length ≠ 3) : evR s = ((0, ⟨#[]⟩, 0), false) := by
  unfold evR
  match hw : wordsB s with
  | [] => rfl
  | [_] => rfl
  | [_, _] => rfl
  | [_, _, _] => rw [hw] at h; simp at h
  | _ :: _ :: _ :: _ :: _ => rfl
theorem three_of {α : Type} {l : List α} (h : l.length = 3) : ∃ a b c, l = [a, b, c] := by
  match l, h with
  | [a, b, c], _ => exact ⟨a, b, c, rfl⟩
theorem words_data {s : ByteArray} {ws : List ByteArray} (h : wordsB s = ws) : cutF [] s.data.toList = ws.map (fun x : ByteArray => x.data.toList) := by
  subst h
  unfold wordsB
  rw [List.map_map]
  conv => lhs; rw [← List.map_id (cutF [] s.data.toList)]
  apply List.map_congr_left
  intro l _
  simp
theorem bytes_eq {a b : ByteArray} (h : a.data.toList = b.data.toList) : a = b := ByteArray.ext (Array.toList_inj.1 h)
theorem words_three {s a b c : ByteArray} (h : wordsB s = [a, b, c]) : (32 : UInt8) ∉ a.data.toList ∧ (32 : UInt8) ∉ b.data.toList ∧ (32 : UInt8) ∉ c.data.toList ∧ s.data.toList = a.data.toList ++ 32 :: (b.data.toList ++ 32 :: c.data.toList) := by
  have h1 := words_data h
  simp only [List.map_cons, List.map_nil] at h1
  obtain ⟨l, r, hl, e1, e2, h2⟩ := cutF_cons h1
  obtain ⟨l2, r2, hl2, e3, e4, h3⟩ := cutF_cons h2
  obtain ⟨h5, e5⟩ := cutF_one h3
  simp only [List.nil_append] at e2 e4 e5
  rw [e2, e4, e5]
  exact ⟨hl, hl2, h5, by rw [e1, e3]⟩
theorem dec_blank (n : Int) : (32 : UInt8) ∉ (decS n).data.toList := by
  intro h
  unfold decS at h
  have hc := (canon_parts (dec_canon n.toNat)).2.2
  have := List.all_eq_true.1 hc 32 (by simpa using h)
  exact absurd this (by decide)
theorem text_data (id : Int) (k : ByteArray) (d : Int) : (textE id k d).data.toList = (decS id).data.toList ++ 32 :: (k.data.toList ++ 32 :: (decS d).data.toList) := by
  unfold textE
  simp [ByteArray.data_append, Array.toList_append]
theorem ev_parts {id : Int} {k : ByteArray} {d : Int} (h : eventB id k d = true) : 1 ≤ id ∧ id ≤ 9999 ∧ k.size ≤ 6 ∧ 0 ≤ d ∧ d ≤ 999 := by
  unfold eventB at h
  simp only [Bool.and_eq_true] at h
  obtain ⟨⟨h1, h2⟩, h3⟩ := h
  rw [inB_iff] at h1 h3
  have h4 : inB (k.size : Int) 1 6 = true := by
    unfold wordB at h2
    simp only [Bool.and_eq_true] at h2
    first | exact h2.1 | exact h2.2
  rw [inB_iff] at h4
  omega
/-- What the reference asks of the three words. -/
def evT (id : Int) (k : ByteArray) (d : Int) : ByteArray := if eventB id k d = true then textE id k d else ⟨#[]⟩
theorem ev_same {s a b c : ByteArray} (h : wordsB s = [a, b, c]) : evR s = if evT (fiveV a) b (fiveV c) = s then ((fiveV a, b, fiveV c), true) else ((0, ⟨#[]⟩, 0), false) := by
  obtain ⟨ha, hb, hc, hs⟩ := words_three h
  rw [evR_three h]
  by_cases e : evT (fiveV a) b (fiveV c) = s
  · rw [if_pos e]
    unfold evT at e
    cases he : eventB (fiveV a) b (fiveV c)
    · rw [he, if_neg (by simp)] at e
      rw [← e] at hs
      simp at hs
    · rw [he, if_pos rfl] at e
      obtain ⟨p1, p2, p3, p4, p5⟩ := ev_parts he
      rw [← e, text_data] at hs
      obtain ⟨q1, q2⟩ := split_first (dec_blank _) ha hs
      have q3 := List.append_cancel_left q2
      simp only [List.cons.injEq, true_and] at q3
      have n1 := (num_five (s := a) (most := 9999) (by omega) (by omega)).2 ⟨by omega, p2, bytes_eq q1⟩
      have n2 := (num_five (s := c) (most := 999) (by omega) (by omega)).2 ⟨p4, p5, bytes_eq q3⟩
      rw [num_val (by omega) (by omega) n1, num_val (by omega) (by omega) n2, n1, n2, he]
      rfl
  · rw [if_neg e, if_neg]
    intro hh
    simp only [Bool.and_eq_true] at hh
    obtain ⟨n1, n2, n3⟩ := hh
    rw [num_val (by omega) (by omega) n1, num_val (by omega) (by omega) n2] at n3
    apply e
    unfold evT
    rw [if_pos n3]
    apply bytes_eq
    rw [text_data, hs, ((num_five (s := a) (most := 9999) (by omega) (by omega)).1 n1).2.2, ((num_five (s := c) (most := 999) (by omega) (by omega)).1 n2).2.2]
theorem words_size {s a b c : ByteArray} (h : wordsB s = [a, b, c]) : a.size + b.size + c.size + 2 = s.size := by
  obtain ⟨_, _, _, hs⟩ := words_three h
  have := congrArg List.length hs
  simp at this
  omega

theorem beq_toList' {a b : ByteArray} (h : a = b) : (a.toList == b.toList) = true := by simp [h]
theorem word_cells {w : World} {g m : Nat} {ws : List ByteArray} (h : RowIs w g 9 (ws.map Value.string)) {j : Nat} {x : ByteArray} (hx : ws[j]? = some x) (_hm : ws.length = m) : w.cell? ⟨g, j, none⟩ = some (.string x) :=
  h.cell (j := j) (by rw [List.getElem?_map, hx]; rfl)

set_option maxRecDepth 8000 in
set_option maxHeartbeats 6400000 in
theorem implEvFrom_any (s : ByteArray) (hs : s.size ≤ 1048576) (w : World) (hM : MaxL w) :
    Calls Tryz.prog 27 #[.string s] w fun e w' => e = .returned (evV (evR s)) ∧ Below w.heap.size w w' := by
  by_cases h3 : (wordsB s).length = 3
  · obtain ⟨a, b, c, habc⟩ := three_of h3
    have hz := words_size habc
    have ha : a.size ≤ maxLen := by unfold maxLen; omega
    have hb : StrOk b := by unfold StrOk maxLen; omega
    have hc : c.size ≤ maxLen := by unfold maxLen; omega
    have HE := Lib.hid (evR_three habc)
    have HW := Lib.hid habc
    clear h3 habc hz
    obtain ⟨va, hva⟩ : ∃ va, numV a 9999 = va := ⟨_, rfl⟩
    obtain ⟨vc, hvc⟩ : ∃ vc, numV c 999 = vc := ⟨_, rfl⟩
    obtain ⟨na, hna⟩ : ∃ na, numB a 9999 = na := ⟨_, rfl⟩
    obtain ⟨nc, hnc⟩ : ∃ nc, numB c 999 = nc := ⟨_, rfl⟩
    rw [hva, hvc, hna, hnc] at HE
    have HVA := Lib.hid hva
    have HVC := Lib.hid hvc
    have HNA := Lib.hid hna
    have HNC := Lib.hid hnc
    clear hva hvc hna hnc
    go_enter Tryz.func27, Tryz.ntmps27
    go_wp2_with fail
    refine (split_any s hs _ (hM.below (below_alloc (Below.refl _ _) _))).mono ?_
    rintro e1 w1 ⟨g, m, rfl, hl, hR, hb1⟩
    rw [HW.out] at hl hR
    obtain rfl : 3 = m := hl
    have R0 := Lib.hid ((RowIs.new w #[.int .i64 0, .string ⟨#[]⟩, .int .i64 0] 30).below hb1)
    have x0 := hR.cell (j := 0) rfl
    have x1 := hR.cell (j := 1) rfl
    have x2 := hR.cell (j := 2) rfl
    have hB := below_step hb1 (below_alloc (Below.refl _ _) _)
    have hwz : w.heap.size < w1.heap.size := R0.out.lt
    have hgz : g < w1.heap.size := hR.lt
    clear hR hM
    cases na
    · have HF := Lib.hid (show evR s = ((0, ⟨#[]⟩, 0), false) by rw [HE.out]; rfl)
      have z0 := R0.out.cell (j := 0) rfl
      have z1 := R0.out.cell (j := 1) rfl
      have z2 := R0.out.cell (j := 2) rfl
      have fz0 := R0.out.frozen 0
      have fz1 := R0.out.frozen 1
      have fz2 := R0.out.frozen 2
      clear HE
      go_wp2_with (first
        | (go_at_call_of 42 (Value.string a); refine (numberFrom_any a ha 9999 (by omega) (by omega) _).mono ?_; rintro e1 w2 ⟨rfl, rfl⟩; rw [HNA.out, HVA.out])
        | (go_at_call_of 42 (Value.string c); refine (numberFrom_any c hc 999 (by omega) (by omega) _).mono ?_; rintro e1 w2 ⟨rfl, rfl⟩; rw [HNC.out, HVC.out]))
      refine bodyPost_ret (v := evV (evR s)) (by rw [HF.out]; simp [results, Tryz.results27, go_sem, evV, *]) rfl ⟨rfl, ?_⟩
      first
        | (refine below_alloc (Below.setCell (Below.setCell (Below.setCell hB ?_ _) ?_ _) ?_ _) _ <;> exact Nat.le_refl _)
        | ((repeat' (first | (with_reducible exact Below.refl _ _) | (with_reducible assumption) | (with_reducible refine below_step (by assumption) ?_) | (with_reducible refine below_alloc ?_ _) | (with_reducible refine Below.drew ?_) | (with_reducible refine below_drewN ?_ _) | (with_reducible refine Below.setCell ?_ ?_ _) | go_size)); done)
    cases nc
    · have HF := Lib.hid (show evR s = ((0, ⟨#[]⟩, 0), false) by rw [HE.out]; simp)
      have z0 := R0.out.cell (j := 0) rfl
      have z1 := R0.out.cell (j := 1) rfl
      have z2 := R0.out.cell (j := 2) rfl
      have fz0 := R0.out.frozen 0
      have fz1 := R0.out.frozen 1
      have fz2 := R0.out.frozen 2
      clear HE
      go_wp2_with (first
        | (go_at_call_of 42 (Value.string a); refine (numberFrom_any a ha 9999 (by omega) (by omega) _).mono ?_; rintro e1 w2 ⟨rfl, rfl⟩; rw [HNA.out, HVA.out])
        | (go_at_call_of 42 (Value.string c); refine (numberFrom_any c hc 999 (by omega) (by omega) _).mono ?_; rintro e1 w2 ⟨rfl, rfl⟩; rw [HNC.out, HVC.out]))
      refine bodyPost_ret (v := evV (evR s)) (by rw [HF.out]; simp [results, Tryz.results27, go_sem, evV, *]) rfl ⟨rfl, ?_⟩
      first
        | (refine below_alloc (Below.setCell (Below.setCell (Below.setCell hB ?_ _) ?_ _) ?_ _) _ <;> exact Nat.le_refl _)
        | ((repeat' (first | (with_reducible exact Below.refl _ _) | (with_reducible assumption) | (with_reducible refine below_step (by assumption) ?_) | (with_reducible refine below_alloc ?_ _) | (with_reducible refine Below.drew ?_) | (with_reducible refine below_drewN ?_ _) | (with_reducible refine Below.setCell ?_ ?_ _) | go_size)); done)
    go_wp2_with (first
      | (go_at_call_of 42 (Value.string a); refine (numberFrom_any a ha 9999 (by omega) (by omega) _).mono ?_; rintro e1 w2 ⟨rfl, rfl⟩; rw [HNA.out, HVA.out])
      | (go_at_call_of 42 (Value.string c); refine (numberFrom_any c hc 999 (by omega) (by omega) _).mono ?_; rintro e1 w2 ⟨rfl, rfl⟩; rw [HNC.out, HVC.out]))
    refine (eventValid_any _ _ _ hb _).mono ?_
    rintro e3 w3 ⟨rfl, hb3⟩
    have R3 := Lib.hid ((R0.out.below (below_alloc (Below.refl _ _) (.cells #[.int .i64 va, .string b, .int .i64 vc] 30))).below hb3)
    have Y3 := Lib.hid ((RowIs.new w1 #[.int .i64 va, .string b, .int .i64 vc] 30).below hb3)
    have hB3 := below_step hb3 (below_alloc hB (.cells #[.int .i64 va, .string b, .int .i64 vc] 30))
    have z0 := R3.out.cell (j := 0) rfl
    have z1 := R3.out.cell (j := 1) rfl
    have z2 := R3.out.cell (j := 2) rfl
    have fz0 := R3.out.frozen 0
    have fz1 := R3.out.frozen 1
    have fz2 := R3.out.frozen 2
    have y0 := Y3.out.cell (j := 0) rfl
    have y1 := Y3.out.cell (j := 1) rfl
    have y2 := Y3.out.cell (j := 2) rfl
    clear x0 x1 x2
    cases ne : eventB va b vc
    · have HF := Lib.hid (show evR s = ((0, ⟨#[]⟩, 0), false) by rw [HE.out, ne]; rfl)
      clear HE y0 y1 y2
      go_wp2
      refine bodyPost_ret (v := evV (evR s)) (by rw [HF.out]; simp [results, Tryz.results27, go_sem, evV, *]) rfl ⟨rfl, ?_⟩
      refine Below.setCell (Below.setCell (Below.setCell hB3 ?_ _) ?_ _) ?_ _ <;> exact Nat.le_refl _
    · have HF := Lib.hid (show evR s = ((va, b, vc), true) by rw [HE.out, ne]; rfl)
      clear HE
      go_wp2
      refine bodyPost_ret (v := evV (evR s)) (by rw [HF.out]; simp [results, Tryz.results27, go_sem, evV, *]) rfl ⟨rfl, ?_⟩
      refine Below.setCell (Below.setCell (Below.setCell hB3 ?_ _) ?_ _) ?_ _ <;> exact Nat.le_refl _
  · have HE := Lib.hid (evR_not h3)
    have H3 := Lib.hid h3
    clear h3
    go_enter Tryz.func27, Tryz.ntmps27
    go_wp2_with fail
    refine (split_any s hs _ (hM.below (below_alloc (Below.refl _ _) _))).mono ?_
    rintro e1 w1 ⟨g, m, rfl, hl, hR, hb1⟩
    have hm : m ≠ 3 := by rw [← hl]; exact H3.out
    have g1 : ((m : Int) == 3) = false := by simp; omega
    have g2 : ((m : Int) != 3) = true := by unfold bne; rw [g1]; rfl
    have z0 := box_cell hb1 (b := w.heap.size) (o := 0) (u := .int .i64 0) (by go_cell)
    have z1 := box_cell hb1 (b := w.heap.size) (o := 1) (u := .string ⟨#[]⟩) (by go_cell)
    have z2 := box_cell hb1 (b := w.heap.size) (o := 2) (u := .int .i64 0) (by go_cell)
    have fz0 : w1.frozen? ⟨w.heap.size, 0, none⟩ = false := (hb1.frozen (p := ⟨w.heap.size, 0, none⟩) (by simp)).trans (by simp [go_sem])
    have fz1 : w1.frozen? ⟨w.heap.size, 1, none⟩ = false := (hb1.frozen (p := ⟨w.heap.size, 1, none⟩) (by simp)).trans (by simp [go_sem])
    have fz2 : w1.frozen? ⟨w.heap.size, 2, none⟩ = false := (hb1.frozen (p := ⟨w.heap.size, 2, none⟩) (by simp)).trans (by simp [go_sem])
    have hB := below_step hb1 (below_alloc (Below.refl _ _) _)
    clear hR hl
    go_wp2
    refine bodyPost_ret (v := evV (evR s)) (by rw [HE.out]; simp [results, Tryz.results27, go_sem, evV, *]) rfl ⟨rfl, ?_⟩
    refine Below.setCell (Below.setCell (Below.setCell hB ?_ _) ?_ _) ?_ _ <;> exact Nat.le_refl _

theorem implEvFrom_as (s : ByteArray) (d0 : Int) (d1 : ByteArray) (d2 : Int) (bb : Bool) (h : evR s = ((d0, d1, d2), bb)) (hs : s.size ≤ 1048576) (w : World) (hM : MaxL w) :
    Calls Tryz.prog 27 #[.string s] w fun e w' => e = .returned (.tuple #[.agg #[.int .i64 d0, .string d1, .int .i64 d2], .bool bb]) ∧ Below w.heap.size w w' :=
  (implEvFrom_any s hs w hM).mono fun _ _ ⟨he, hb⟩ => ⟨by rw [he, h]; rfl, hb⟩
end Go.Proofs.YtmnmaibhjhhakaaGreatDoor
