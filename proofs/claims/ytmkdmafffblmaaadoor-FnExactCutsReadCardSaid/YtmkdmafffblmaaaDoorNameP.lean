/-
  NameParts and NameValid, of the reference and of the program, for every text. No condition beyond what the rows list.
-/
import Derived.Test.YtmkdmafffblmaaaDoorNameC
namespace Go.Proofs.YtmkdmafffblmaaaDoor
open Go.ChangeShapes Go.WideShapes Go.ChangeAt Go.RowKit

theorem fiveV_le' (s : ByteArray) : -1 ≤ fiveV s ∧ fiveV s ≤ 99999 := by
  unfold fiveV
  split
  · rename_i h
    simp only [Bool.and_eq_true, decide_eq_true_eq] at h
    have h1 := dval_lt _ h.2
    have hsz : s.data.toList.length = s.size := by simp
    have h2 : s.data.toList.length ≤ 5 := by omega
    have h3 := Nat.pow_le_pow_right (show 1 ≤ 10 by omega) h2
    omega
  · omega

/-- What NameParts answers. -/
def partsV (s : ByteArray) : Value := if nameB s then .tuple #[.string (catS s), .int .i64 (nthS s), .bool true] else .tuple #[.string ⟨#[]⟩, .int .i64 0, .bool false]
theorem partsV_t {s : ByteArray} (h : nameB s = true) : partsV s = .tuple #[.string (catS s), .int .i64 (nthS s), .bool true] := by unfold partsV; rw [if_pos h]
theorem partsV_f {s : ByteArray} (h : nameB s = false) : partsV s = .tuple #[.string ⟨#[]⟩, .int .i64 0, .bool false] := by unfold partsV; rw [if_neg (by simp [h])]

set_option maxHeartbeats 3200000 in
theorem specParts_any (s : ByteArray) (hs : s.size ≤ 1048576) (w : World) :
    Calls Tryd.prog 51 #[.string s] w fun e w' => e = .returned (partsV s) ∧ Below w.heap.size w w' := by
  have hs' : s.size ≤ maxLen := by unfold maxLen; omega
  by_cases hh : 0 ≤ hyp s
  · have hroom := hyp_room hh
    have HI : hyp s = ((hyp s).toNat : Int) := by omega
    have HC : catS s = s.extract 0 (hyp s).toNat := rfl
    have HR : restS s = s.extract ((hyp s).toNat + 1) s.size := rfl
    have HN := name_spec hh
    have k1 := catS_size s
    have k2 := restS_size s
    have hC1 : StrOk (catS s) := by unfold StrOk maxLen; omega
    have hC2 : (restS s).size ≤ maxLen := by unfold maxLen; omega
    have hb := fiveV_le' (restS s)
    have HF : nameB s = true → nthS s = fiveV (restS s) := fun h => by
      unfold nameB at h
      simp only [Bool.and_eq_true] at h
      exact num_val (by omega) (by omega) h.2
    generalize hi : (hyp s).toNat = i at *
    generalize hc : catS s = c at *
    generalize hr : restS s = r at *
    replace HI := Lib.hid HI
    replace HC := Lib.hid HC
    replace HR := Lib.hid HR
    have HCC := Lib.hid hc
    clear hi hr hh hc
    by_cases hneg : fiveV r < 0
    · have hn : nameB s = false := by rw [Bool.eq_false_iff]; intro h; have := (HN.1 h).1; omega
      have HE := Lib.hid (partsV_f hn)
      clear hn HN HF
      go_enter Tryd.func51, Tryd.ntmps51
      go_wp2_with fail
      refine (l2At_any s hs' _).mono ?_
      rintro e1 w1 ⟨rfl, rfl⟩
      rw [HI.out]
      go_wp2_with fail
      rw [← HR.out]
      refine (l1Number_any r hC2 _).mono ?_
      rintro e1 w1 ⟨rfl, rfl⟩
      go_wp2
      go_ret3
      exact ⟨by rw [HE.out]; rfl, (by repeat' (first | (with_reducible exact Below.refl _ _) | (with_reducible assumption) | (with_reducible refine below_step (by assumption) ?_) | (with_reducible refine below_alloc ?_ _) | (with_reducible refine Below.drew ?_) | (with_reducible refine below_drewN ?_ _) | (with_reducible refine Below.setCell ?_ ?_ _) | go_size))⟩
    · by_cases he : nameOfS c (fiveV r) = s
      · have hn : nameB s = true := HN.2 ⟨by omega, he⟩
        have HE := Lib.hid (show partsV s = .tuple #[.string c, .int .i64 (fiveV r), .bool true] by rw [partsV_t hn, HCC.out, HF hn])
        have HH := Lib.hid he
        clear hn HN HF he
        go_enter Tryd.func51, Tryd.ntmps51
        go_wp2_with fail
        refine (l2At_any s hs' _).mono ?_
        rintro e1 w1 ⟨rfl, rfl⟩
        rw [HI.out]
        go_wp2_with fail
        rw [← HR.out]
        refine (l1Number_any r hC2 _).mono ?_
        rintro e1 w1 ⟨rfl, rfl⟩
        go_wp2_with fail
        rw [← HC.out]
        refine (specNameOf_any c hC1 (fiveV r) _).mono ?_
        rintro e2 w2 ⟨rfl, hb2⟩
        rw [HH.out]
        go_wp2
        go_ret3
        exact ⟨by rw [HE.out, HC.out]; rfl, (by repeat' (first | (with_reducible exact Below.refl _ _) | (with_reducible assumption) | (with_reducible refine below_step (by assumption) ?_) | (with_reducible refine below_alloc ?_ _) | (with_reducible refine Below.drew ?_) | (with_reducible refine below_drewN ?_ _) | (with_reducible refine Below.setCell ?_ ?_ _) | go_size))⟩
      · have hn : nameB s = false := by rw [Bool.eq_false_iff]; intro h; exact he (HN.1 h).2
        have HE := Lib.hid (partsV_f hn)
        obtain ⟨T, hT⟩ : ∃ T, nameOfS c (fiveV r) = T := ⟨_, rfl⟩
        rw [hT] at he
        have F1 : (T.toList == s.toList) = false := str_ne he
        have F2 : (T.toList != s.toList) = true := by unfold bne; rw [F1]; rfl
        have HH := Lib.hid hT
        clear hn HN HF he hT
        go_enter Tryd.func51, Tryd.ntmps51
        go_wp2_with fail
        refine (l2At_any s hs' _).mono ?_
        rintro e1 w1 ⟨rfl, rfl⟩
        rw [HI.out]
        go_wp2_with fail
        rw [← HR.out]
        refine (l1Number_any r hC2 _).mono ?_
        rintro e1 w1 ⟨rfl, rfl⟩
        go_wp2_with fail
        rw [← HC.out]
        refine (specNameOf_any c hC1 (fiveV r) _).mono ?_
        rintro e2 w2 ⟨rfl, hb2⟩
        rw [HH.out]
        go_wp2
        go_ret3
        exact ⟨by rw [HE.out]; rfl, (by repeat' (first | (with_reducible exact Below.refl _ _) | (with_reducible assumption) | (with_reducible refine below_step (by assumption) ?_) | (with_reducible refine below_alloc ?_ _) | (with_reducible refine Below.drew ?_) | (with_reducible refine below_drewN ?_ _) | (with_reducible refine Below.setCell ?_ ?_ _) | go_size))⟩
  · have HE := Lib.hid (partsV_f (name_f1 hh))
    have HI := Lib.hid (show hyp s = -1 by have := hyp_ge s; omega)
    clear hh
    go_enter Tryd.func51, Tryd.ntmps51
    go_wp2_with fail
    refine (l2At_any s hs' _).mono ?_
    rintro e1 w1 ⟨rfl, rfl⟩
    rw [HI.out]
    go_wp2
    go_ret3
    exact ⟨by rw [HE.out]; rfl, (by repeat' (first | (with_reducible exact Below.refl _ _) | (with_reducible assumption) | (with_reducible refine below_step (by assumption) ?_) | (with_reducible refine below_alloc ?_ _) | (with_reducible refine Below.drew ?_) | (with_reducible refine below_drewN ?_ _) | (with_reducible refine Below.setCell ?_ ?_ _) | go_size))⟩

end Go.Proofs.YtmkdmafffblmaaaDoor
