/-
  The stripe of a name, of the reference and of the program, for every text. No condition beyond what the rows list.
-/
import Derived.Test.YtipkhmcnkldbbaaDoorBunN
namespace Go.Proofs.YtipkhmcnkldbbaaDoor
open Go.ChangeShapes Go.WideShapes Go.ChangeAt Go.RowKit

def hashI (l : List UInt8) : Int := l.foldl (fun n c => (31 * n + (c.toNat : Int)) % 9973) 5
theorem hashI_snoc (l : List UInt8) (c : UInt8) : hashI (l ++ [c]) = (31 * hashI l + (c.toNat : Int)) % 9973 := by unfold hashI; rw [List.foldl_append]; rfl
theorem take_hash {s : ByteArray} {k : Nat} (h : k < s.size) : hashI (s.data.toList.take (k + 1)) = (31 * hashI (s.data.toList.take k) + (s[k].toNat : Int)) % 9973 := by
  rw [← hashI_snoc]
  congr 1
  rw [List.take_add_one, List.getElem?_eq_getElem (by simpa using h)]
  rfl
/-- What NameStripe answers. -/
def stripeV (s : ByteArray) (st : Int) : Int := if nameB s && inB st 1 8 then hashI s.data.toList % st else -1

theorem stripes_any (n : Int) (w : World) : Calls Tryd.prog 33 #[.int .i64 n] w fun e w' => e = .returned (.bool (inB n 1 8)) ∧ w = w' := by
  rcases (show n < 1 ∨ 8 < n ∨ (1 ≤ n ∧ n ≤ 8) from by omega) with h | h | ⟨h, h'⟩
  · have e := Lib.hid (show inB n 1 8 = false from inB_f (by omega))
    have d1 : decide ((1:Int) ≤ n) = false := decide_eq_false (by omega)
    go_enter Tryd.func33, Tryd.ntmps33
    go_wp2
    go_ret
    exact ⟨ret_bool (by first | exact e.out.symm | (rw [e.out]; simp; omega)), rfl⟩
  · have e := Lib.hid (show inB n 1 8 = false from inB_f (by omega))
    have d1 : decide ((1:Int) ≤ n) = true := decide_eq_true (by omega)
    have d2 : decide (n ≤ (8:Int)) = false := decide_eq_false (by omega)
    go_enter Tryd.func33, Tryd.ntmps33
    go_wp2
    go_ret
    exact ⟨ret_bool (by first | exact e.out.symm | (rw [e.out]; simp; omega)), rfl⟩
  · have e := Lib.hid (show inB n 1 8 = true from inB_t (by omega))
    have d1 : decide ((1:Int) ≤ n) = true := decide_eq_true (by omega)
    have d2 : decide (n ≤ (8:Int)) = true := decide_eq_true (by omega)
    go_enter Tryd.func33, Tryd.ntmps33
    go_wp2
    go_ret
    exact ⟨ret_bool (by first | exact e.out.symm | (rw [e.out]; simp; omega)), rfl⟩

theorem round_facts (v : Int) (c : UInt8) (h0 : 0 ≤ v) (h1 : v ≤ 9973) : IntKind.i64.wrap (31 * v) = 31 * v ∧ IntKind.i64.wrap (c.toNat : Int) = c.toNat ∧ IntKind.i64.wrap (31 * v + (c.toNat : Int)) = 31 * v + c.toNat ∧ (31 * v + (c.toNat : Int)).tmod 9973 = (31 * v + (c.toNat : Int)) % 9973 ∧ IntKind.i64.wrap ((31 * v + (c.toNat : Int)) % 9973) = (31 * v + (c.toNat : Int)) % 9973 ∧ 0 ≤ (31 * v + (c.toNat : Int)) % 9973 ∧ (31 * v + (c.toNat : Int)) % 9973 ≤ 9973 := by
  have hc := c.toNat_lt
  refine ⟨IntWalk.i64_in _ ⟨by omega, by omega⟩, IntWalk.i64_in _ ⟨by omega, by omega⟩, IntWalk.i64_in _ ⟨by omega, by omega⟩, Int.tmod_eq_emod_of_nonneg (by omega), IntWalk.i64_in _ ⟨by omega, by omega⟩, by omega, by omega⟩
theorem last_facts (v st : Int) (h0 : 0 ≤ v) (s0 : 1 ≤ st) (s1 : st ≤ 8) : v.tmod st = v % st ∧ IntKind.i64.wrap (v % st) = v % st ∧ (st == 0) = false := by
  have a := Int.emod_nonneg v (show st ≠ 0 by omega)
  have b := Int.emod_lt_of_pos v (show 0 < st by omega)
  refine ⟨Int.tmod_eq_emod_of_nonneg h0, IntWalk.i64_in _ ⟨by omega, by omega⟩, by rw [beq_eq_false_iff_ne]; omega⟩

set_option maxHeartbeats 1600000 in
theorem l2Stripe_any (s : ByteArray) (hs : s.size ≤ 1048576) (st : Int) (s0 : 1 ≤ st) (s1 : st ≤ 8) (w : World) :
    Calls Tryd.prog 54 #[.string s, .int .i64 st] w fun e w' => e = .returned (.int .i64 (hashI s.data.toList % st)) ∧ w = w' := by
  go_enter Tryd.func54, Tryd.ntmps54
  go_wp2
  go_loop [5, 6] (fun n i => ∃ (k : Nat) (v : Int), k ≤ s.size ∧ i = .int .i64 k ∧ n = .int .i64 v ∧ 0 ≤ v ∧ v ≤ 9973 ∧ Hid (hashI (s.data.toList.take k) = v)) (fun _ i => s.size - (intOf i).toNat)
  case atStart => exact ⟨0, 5, Nat.zero_le _, rfl, rfl, by omega, by omega, Lib.hid (by simp [hashI])⟩
  case round =>
    obtain ⟨k, v, hk, rfl, rfl, hv0, hv1, hd⟩ := hrel
    by_cases hlt : k < s.size
    · have HD := Lib.hid ((take_hash hlt).trans (by rw [hd.out]))
      obtain ⟨f1, f2, f3, f4, f5, f6, f7⟩ := round_facts v s[k] hv0 hv1
      go_wp2
      go_round
      case rel => exact ⟨k + 1, (31 * v + (s[k].toNat : Int)) % 9973, by omega, by go_num, rfl, f6, f7, HD⟩
      case measure => simp [intOf]; omega
    · have ht : s.data.toList.take k = s.data.toList := List.take_of_length_le (by simp; omega)
      rw [ht] at hd
      clear ht
      obtain ⟨f1, f2, f3⟩ := last_facts v st hv0 s0 s1
      go_wp2
      go_ret
      exact ⟨by rw [hd.out]; rfl, rfl⟩

theorem stripe_f1 {s : ByteArray} {st : Int} (h : nameB s = false) : stripeV s st = -1 := by unfold stripeV; rw [h]; rfl
theorem stripe_f2 {s : ByteArray} {st : Int} (h : inB st 1 8 = false) : stripeV s st = -1 := by unfold stripeV; rw [h]; simp
theorem stripe_t {s : ByteArray} {st : Int} (h : nameB s = true) (h2 : inB st 1 8 = true) : stripeV s st = hashI s.data.toList % st := by unfold stripeV; rw [h, h2]; rfl

set_option maxHeartbeats 1600000 in
theorem specStripe_any (s : ByteArray) (hs : s.size ≤ 1048576) (st : Int) (w : World) :
    Calls Tryd.prog 31 #[.string s, .int .i64 st] w fun e w' => e = .returned (.int .i64 (stripeV s st)) ∧ Below w.heap.size w w' := by
  cases E : nameB s
  · have HE := Lib.hid (stripe_f1 (st := st) E)
    go_enter Tryd.func31, Tryd.ntmps31
    go_wp2_with (go_at_call 37; refine (specNameValid_any s hs _).mono ?_; rintro e1 w1 ⟨rfl, hb1⟩; rw [E])
    go_ret
    exact ⟨by rw [HE.out]; rfl, (by repeat' (first | (with_reducible exact Below.refl _ _) | (with_reducible assumption) | (with_reducible refine below_step (by assumption) ?_) | (with_reducible refine below_alloc ?_ _) | (with_reducible refine Below.drew ?_) | (with_reducible refine below_drewN ?_ _) | (with_reducible refine Below.setCell ?_ ?_ _) | go_size))⟩
  cases F : inB st 1 8
  · have HE := Lib.hid (stripe_f2 (s := s) F)
    go_enter Tryd.func31, Tryd.ntmps31
    go_wp2_with (first | (go_at_call 37; refine (specNameValid_any s hs _).mono ?_; rintro e1 w1 ⟨rfl, hb1⟩; rw [E]) | (go_at_call 53; refine (l6In_any _ _ _ _).mono ?_; rintro e1 w2 ⟨rfl, rfl⟩; rw [F]))
    go_ret
    exact ⟨by rw [HE.out]; rfl, (by repeat' (first | (with_reducible exact Below.refl _ _) | (with_reducible assumption) | (with_reducible refine below_step (by assumption) ?_) | (with_reducible refine below_alloc ?_ _) | (with_reducible refine Below.drew ?_) | (with_reducible refine below_drewN ?_ _) | (with_reducible refine Below.setCell ?_ ?_ _) | go_size))⟩
  · have HE := Lib.hid (stripe_t E F)
    have g := inB_iff.1 F
    go_enter Tryd.func31, Tryd.ntmps31
    go_wp2_with (first | (go_at_call 37; refine (specNameValid_any s hs _).mono ?_; rintro e1 w1 ⟨rfl, hb1⟩; rw [E]) | (go_at_call 53; refine (l6In_any _ _ _ _).mono ?_; rintro e1 w2 ⟨rfl, rfl⟩; rw [F]) | (go_at_call 54; refine (l2Stripe_any s hs st g.1 g.2 _).mono ?_; rintro e1 w3 ⟨rfl, rfl⟩))
    go_ret
    exact ⟨by rw [HE.out]; rfl, (by repeat' (first | (with_reducible exact Below.refl _ _) | (with_reducible assumption) | (with_reducible refine below_step (by assumption) ?_) | (with_reducible refine below_alloc ?_ _) | (with_reducible refine Below.drew ?_) | (with_reducible refine below_drewN ?_ _) | (with_reducible refine Below.setCell ?_ ?_ _) | go_size))⟩

set_option maxHeartbeats 1600000 in
theorem implStripe_any (s : ByteArray) (hs : s.size ≤ 1048576) (st : Int) (a : Addr) (w : World) (hS : Sent a w) (hM : MaxL w) :
    Calls Tryd.prog 34 #[.string s, .int .i64 st] w fun e w' => e = .returned (.int .i64 (stripeV s st)) ∧ Below w.heap.size w w' := by
  cases E : nameB s
  · have HE := Lib.hid (stripe_f1 (st := st) E)
    go_enter Tryd.func34, Tryd.ntmps34
    go_wp2_with (go_at_call 55; refine (implNameValid_any s hs a _ hS hM).mono ?_; rintro e1 w1 ⟨rfl, hb1⟩; rw [E])
    go_ret
    exact ⟨by rw [HE.out]; rfl, (by repeat' (first | (with_reducible exact Below.refl _ _) | (with_reducible assumption) | (with_reducible refine below_step (by assumption) ?_) | (with_reducible refine below_alloc ?_ _) | (with_reducible refine Below.drew ?_) | (with_reducible refine below_drewN ?_ _) | (with_reducible refine Below.setCell ?_ ?_ _) | go_size))⟩
  cases F : inB st 1 8
  · have HE := Lib.hid (stripe_f2 (s := s) F)
    go_enter Tryd.func34, Tryd.ntmps34
    go_wp2_with (first | (go_at_call 55; refine (implNameValid_any s hs a _ hS hM).mono ?_; rintro e1 w1 ⟨rfl, hb1⟩; rw [E]) | (go_at_call 33; refine (stripes_any _ _).mono ?_; rintro e1 w2 ⟨rfl, rfl⟩; rw [F]))
    go_ret
    exact ⟨by rw [HE.out]; rfl, (by repeat' (first | (with_reducible exact Below.refl _ _) | (with_reducible assumption) | (with_reducible refine below_step (by assumption) ?_) | (with_reducible refine below_alloc ?_ _) | (with_reducible refine Below.drew ?_) | (with_reducible refine below_drewN ?_ _) | (with_reducible refine Below.setCell ?_ ?_ _) | go_size))⟩
  · have HE := Lib.hid (stripe_t E F)
    obtain ⟨s0, s1⟩ := inB_iff.1 F
    go_enter Tryd.func34, Tryd.ntmps34
    go_wp2_with (first | (go_at_call 55; refine (implNameValid_any s hs a _ hS hM).mono ?_; rintro e1 w1 ⟨rfl, hb1⟩; rw [E]) | (go_at_call 33; refine (stripes_any _ _).mono ?_; rintro e1 w2 ⟨rfl, rfl⟩; rw [F]))
    go_loop [5, 6] (fun n i => ∃ (k : Nat) (v : Int), k ≤ s.size ∧ i = .int .i64 k ∧ n = .int .i64 v ∧ 0 ≤ v ∧ v ≤ 9973 ∧ Hid (hashI (s.data.toList.take k) = v)) (fun _ i => s.size - (intOf i).toNat)
    case atStart => exact ⟨0, 5, Nat.zero_le _, rfl, rfl, by omega, by omega, Lib.hid (by simp [hashI])⟩
    case round =>
      obtain ⟨k, v, hk, rfl, rfl, hv0, hv1, hd⟩ := hrel
      by_cases hlt : k < s.size
      · have HD := Lib.hid ((take_hash hlt).trans (by rw [hd.out]))
        obtain ⟨f1, f2, f3, f4, f5, f6, f7⟩ := round_facts v s[k] hv0 hv1
        go_wp2
        go_round
        case rel => exact ⟨k + 1, (31 * v + (s[k].toNat : Int)) % 9973, by omega, by go_num, rfl, f6, f7, HD⟩
        case measure => simp [intOf]; omega
      · have ht : s.data.toList.take k = s.data.toList := List.take_of_length_le (by simp; omega)
        rw [ht] at hd
        clear ht
        obtain ⟨f1, f2, f3⟩ := last_facts v st hv0 s0 s1
        go_wp2
        go_ret
        exact ⟨by rw [HE.out, hd.out]; rfl, (by repeat' (first | (with_reducible exact Below.refl _ _) | (with_reducible assumption) | (with_reducible refine below_step (by assumption) ?_) | (with_reducible refine below_alloc ?_ _) | (with_reducible refine Below.drew ?_) | (with_reducible refine below_drewN ?_ _) | (with_reducible refine Below.setCell ?_ ?_ _) | go_size))⟩
end Go.Proofs.YtipkhmcnkldbbaaDoor
