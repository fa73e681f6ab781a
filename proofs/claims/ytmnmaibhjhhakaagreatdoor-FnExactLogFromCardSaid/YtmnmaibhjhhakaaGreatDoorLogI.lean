/-
  LogFrom of the program: what it returns, for every text. No condition beyond what the row lists.
-/
import Derived.Test.YtmnmaibhjhhakaaGreatDoorLogP
import Derived.Test.YtmnmaibhjhhakaaGreatDoorAppI
import Derived.Test.YtmnmaibhjhhakaaGreatDoorBunS
namespace Go.Proofs.YtmnmaibhjhhakaaGreatDoor
open Go.ChangeShapes Go.WideShapes Go.ChangeAt Go.RowKit

theorem lies_new (w : World) (cs : Array Value) (t : TypeId) (size : Nat) (h : cs.size = size) : Lies (w.alloc (.cells cs t)) size (some ⟨w.heap.size, 0, none⟩) 1 cs.toList := by
  refine ⟨by simp [h], fun _ => ⟨w.heap.size, 0, rfl, by simp, fun j u hj => ?_⟩⟩
  rw [Nat.zero_add, cell_of_row _ _ j cs t (0, 0) (heap_alloc_new _ _)]
  simpa using hj

theorem indexB_any (s : ByteArray) (w : World) :
    Calls Tryz.prog 12 #[.string s, .int .u8 10] w fun e w' => e = .returned (.int .i64 (nlI s.data.toList)) ∧ w = w' :=
  (Tryz.strings_IndexByte s 10 w).mono fun _ _ ⟨he, hw⟩ => ⟨he, hw.symm⟩
theorem drop_data (s : ByteArray) (p : Nat) : (s.extract p s.size).data.toList = s.data.toList.drop p := by
  rw [piece_data, List.take_of_length_le (by simp)]

set_option maxRecDepth 8000 in
set_option maxHeartbeats 6400000 in
theorem implLogF_any (s : ByteArray) (hs : s.size ≤ 1048576) (w : World) (a : Addr) (hS : Sent a w) (hM : MaxL w) (HT : HasTab w) (hE : HandE w) :
    Calls Tryz.prog 5 #[.string s] w fun e w' => ∃ g m c, e = .returned (.tuple #[.slice (some ⟨g, 0, none⟩) m c, .int .i64 ((logR s).2.1 : Nat), .int .i64 (logR s).2.2]) ∧ (logR s).1.length = m ∧ m ≤ 24 ∧ w'.ownsRow w.heap.size 32 4 (.slice (some ⟨g, 0, none⟩) m c) m ((logR s).1.flatMap entryCells) ∧ Below w.heap.size w w' := by
  have HSX := Lib.hid hS
  have HTX := Lib.hid HT
  have HEX := Lib.hid hE
  clear hS HT hE
  go_enter Tryz.func5, Tryz.ntmps5
  go_wp2
  go_loopw [5, 6] (fun l q wr => ∃ (p f g m c : Nat) (xs : List EnT), p ≤ s.size ∧ q = .int .i64 p ∧ l = .slice (some ⟨g, 0, none⟩) m c ∧ m ≤ 24 ∧ s.size < f + p ∧ Hid (xs.length = m) ∧ Hid (logR s = logF s f xs p) ∧ Hid (∀ x ∈ xs, enS x ∧ eventOk x.2) ∧ Hid (wr.ownsRow w.heap.size 32 4 (.slice (some ⟨g, 0, none⟩) m c) m (xs.flatMap entryCells)) ∧ Below w.heap.size w wr) (fun _ q _ => s.size - (intOf q).toNat)
  case atStart => exact ⟨0, s.size + 1, w.heap.size, 0, 0, [], Nat.zero_le _, rfl, rfl, by omega, by omega, Lib.hid rfl, Lib.hid rfl, Lib.hid (by simp), Lib.hid (owns_nil' _ _ rfl (Nat.le_refl _)), below_alloc (Below.refl _ _) _⟩
  case round =>
    obtain ⟨p, f, g, m, c, xs, hp, rfl, rfl, hm, hf, hX, hL, hK, hO, hB⟩ := hrel
    have j0 : (0 : Int) ≤ (p : Int) := by omega
    have j1 : (p : Int) ≤ (s.size : Int) := by omega
    have hgl := owns_lt hO.out
    have hgl2 := hgl.2
    have hgl1 := hgl.1
    have hwz := hB.size
    clear hgl
    by_cases hlt : p < s.size
    · have hdd := drop_data s p
      rcases end_cases s p with he | ⟨e, he, hpe, hes⟩
      · have HR := Lib.hid (hL.out.trans (log_torn hf hlt he))
        have hneg : nlI (s.data.toList.drop p) < 0 := end_many.2 he
        obtain ⟨n, hn⟩ : ∃ n, nlI (s.data.toList.drop p) = n := ⟨_, rfl⟩
        rw [hn] at hneg
        have HN := Lib.hid (show nlI (s.extract p s.size).data.toList = n by rw [hdd, hn])
        clear hn hdd he
        go_wp2_with (go_at_call 12; refine (indexB_any _ _).mono ?_; rintro e1 w1 ⟨rfl, rfl⟩; rw [HN.out])
        go_ret3
        exact ⟨g, m, c, by rw [HR.out]; rfl, by rw [HR.out]; exact hX.out, hm, by rw [HR.out]; exact hO.out, hB⟩
      · have hne : ¬ nlI (s.data.toList.drop p) < 0 := fun h => by have := end_many.1 h; omega
        obtain ⟨n, hn⟩ : ∃ n : Nat, nlI (s.data.toList.drop p) = (n : Int) := ⟨(nlI (s.data.toList.drop p)).toNat, by omega⟩
        have hpn : p + n = e := by
          unfold endI at he
          rw [if_neg hne, hn] at he; omega
        have HN := Lib.hid (show nlI (s.extract p s.size).data.toList = (n : Int) by rw [hdd, hn])
        obtain ⟨⟨x0, x1, x2, x3⟩, bb, hent⟩ : ∃ x b, entR (s.extract p e) = (x, b) := ⟨_, _, rfl⟩
        have HEN := Lib.hid hent
        have HED := Lib.hid he
        have hz : (s.extract p e).size ≤ 1048576 := by rw [ByteArray.size_extract]; omega
        obtain ⟨t, ht⟩ : ∃ t, s.extract p e = t := ⟨_, rfl⟩
        have HTT := Lib.hid ht
        have k1 : IntKind.i64.wrap ((p : Int) + (n : Int)) = (e : Int) := by rw [← hpn]; exact IntWalk.i64_in _ ⟨by omega, by omega⟩
        have k2 : (p : Int) ≤ (e : Int) := by omega
        have k3 : (e : Int) ≤ (s.size : Int) := by omega
        have k4 : (0 : Int) ≤ (e : Int) := by omega
        rw [ht] at hz
        have HPN := Lib.hid hpn
        clear hn hdd he hne hent hpn
        have hEN : entR t = ((x0, x1, x2, x3), bb) := by rw [← HTT.out]; exact HEN.out
        have HEN2 := Lib.hid hEN
        clear hEN
        go_wp2_with fail
        refine (indexB_any _ _).mono ?_
        rintro e1 w1 ⟨rfl, rfl⟩
        rw [HN.out]
        go_wp2_with fail
        refine (readLine_any t hz _ a (HSX.out.below hB (by omega)) (hM.below hB) (HTX.out.below hB (by omega))).mono ?_
        rintro e2 w2 ⟨ev, rfl, hev, hb2⟩
        rw [HEN2.out] at hev ⊢
        have e9 : enV ((x0, x1, x2, x3), bb).1 = .agg #[.string x0, .int .i64 x1, .string x2, .int .i64 x3] := rfl
        rw [e9]
        have hB2 := below_step hb2 hB
        have HO2 := Lib.hid (owns_below hO.out hb2)
        have BA := below_alloc hB2 (.cells #[.string x0, .int .i64 x1, .string x2, .int .i64 x3] 32)
        have HO3 := Lib.hid (World.ownsRow.alloc HO2.out (.cells #[.string x0, .int .i64 x1, .string x2, .int .i64 x3] 32))
        have hg2 : g < w2.heap.size := (owns_lt HO2.out).2
        clear hO
        rcases hev with ⟨hbt, rfl⟩ | ⟨hbf, b, rfl⟩
        · obtain rfl : bb = true := hbt
          have hok := ent_ok HEN2.out hz
          have hK2 := Lib.hid (show ∀ x ∈ xs ++ [(x0, x1, x2, x3)], enS x ∧ eventOk x.2 from fun x hx => by
            rcases List.mem_append.1 hx with h | h
            · exact hK.out x h
            · obtain rfl := List.mem_singleton.1 h
              exact hok)
          clear hok
          go_wp2_with fail
          refine (unread_nil _).mono ?_
          rintro e3 w3 ⟨rfl, hb3⟩
          have y0 := box_cell hb3 (b := w2.heap.size) (o := 0) (u := .string x0) (by go_cell)
          have y1 := box_cell hb3 (b := w2.heap.size) (o := 1) (u := .int .i64 x1) (by go_cell)
          have y2 := box_cell hb3 (b := w2.heap.size) (o := 2) (u := .string x2) (by go_cell)
          have y3 := box_cell hb3 (b := w2.heap.size) (o := 3) (u := .int .i64 x3) (by go_cell)
          have hB3 := below_step hb3 BA
          have HO4 := Lib.hid (owns_below HO3.out hb3)
          have HL5 := Lib.hid ((lies_of_own HO4.out).below (below_alloc (Below.refl _ _) (.cells #[.int .i64 x1, .string x2, .int .i64 x3] 30)))
          have HE5 := Lib.hid (show Lies (w3.alloc (.cells #[.int .i64 x1, .string x2, .int .i64 x3] 30)) 3 (some ⟨w3.heap.size, 0, none⟩) 1 ([(x1, x2, x3)].flatMap eventCells) from lies_new w3 #[.int .i64 x1, .string x2, .int .i64 x3] _ 3 rfl)
          go_wp2_with fail
          refine (with_any g 0 m c xs x0 _ 1 1 [(x1, x2, x3)] (by omega) hX.out (by omega) rfl _ HL5.out HE5.out).mono ?_
          rintro e5 w5 ⟨g5, m5, c5, rfl, hl5, ho5, hb5⟩
          have hap : appE xs x0 [(x1, x2, x3)] = xs ++ [(x0, x1, x2, x3)] := rfl
          rw [hap] at hl5 ho5
          obtain rfl : m5 = m + 1 := by rw [← hl5, List.length_append, hX.out]; rfl
          have HL6 := Lib.hid hl5
          have BB := below_alloc hB3 (.cells #[.int .i64 x1, .string x2, .int .i64 x3] 30)
          have HO6 := Lib.hid (ownsRow_base ho5 BB.size)
          have hB5 := below_step hb5 BB
          have HO4b := Lib.hid (owns_below (World.ownsRow.alloc HO4.out (.cells #[.int .i64 x1, .string x2, .int .i64 x3] 30)) hb5)
          clear ho5 hl5 y0 y1 y2 y3 hap
          go_wp2_with fail
          refine (implStore_any _ (m + 1) c5 (xs ++ [(x0, x1, x2, x3)]) (by omega) HL6.out (fun x hx => (hK2.out x hx).1) (fun x hx => (hK2.out x hx).2) _ a (HSX.out.below hB5 (Nat.le_refl _)) (hM.below hB5) (lies_of_own HO6.out)).mono ?_
          rintro e6 w6 ⟨rfl, hb6⟩
          have hB6 := below_step hb6 hB5
          have HO7 := Lib.hid (owns_below HO6.out hb6)
          have HO4c := Lib.hid (owns_below HO4b.out hb6)
          clear HO6 HO4b
          cases hst : storeB (xs ++ [(x0, x1, x2, x3)])
          · have HR := Lib.hid (hL.out.trans (log_bad hf hlt HED.out HEN.out (by rw [hst]; rfl)))
            go_wp2
            go_ret3
            exact ⟨g, m, c, by rw [HR.out]; rfl, by rw [HR.out]; exact hX.out, hm, by rw [HR.out]; exact HO4c.out, hB6⟩
          · have HR := Lib.hid (hL.out.trans (log_next hf hlt HED.out HEN.out (by rw [hst]; rfl)))
            have hm24 : m + 1 ≤ 24 := by rw [← HL6.out]; exact ((store_iff _).1 hst).1
            have k5 : IntKind.i64.wrap ((n : Int) + 1) = (n : Int) + 1 := by
              have h9 := HPN.out
              exact IntWalk.i64_in _ ⟨by omega, by omega⟩
            have k6 : IntKind.i64.wrap ((p : Int) + ((n : Int) + 1)) = ((e + 1 : Nat) : Int) := by
              have h9 := HPN.out
              rw [show ((e + 1 : Nat) : Int) = (p : Int) + ((n : Int) + 1) by omega]
              exact IntWalk.i64_in _ ⟨by omega, by omega⟩
            go_wp2
            go_roundw
            case rel => exact ⟨e + 1, f - 1, g5, m + 1, c5, xs ++ [(x0, x1, x2, x3)], by omega, by go_num, rfl, hm24, by omega, HL6, HR, hK2, HO7, hB6⟩
            case measure => simp [intOf]; omega
        · obtain rfl : bb = false := hbf
          have HR := Lib.hid (hL.out.trans (log_bad hf hlt HED.out HEN.out rfl))
          go_wp2_with fail
          refine (unread_hit b _ (HEX.out.below BA)).mono ?_
          rintro e3 w3 ⟨rfl, hb3⟩
          have hB3 := below_step hb3 BA
          have HO4 := Lib.hid (owns_below HO3.out hb3)
          go_wp2
          go_ret3
          exact ⟨g, m, c, by rw [HR.out]; rfl, by rw [HR.out]; exact hX.out, hm, by rw [HR.out]; exact HO4.out, hB3⟩
    · have HR := Lib.hid (hL.out.trans (log_done hf hp hlt))
      go_wp2
      go_ret3
      exact ⟨g, m, c, by rw [HR.out]; rfl, by rw [HR.out]; exact hX.out, hm, by rw [HR.out]; exact hO.out, hB⟩
end Go.Proofs.YtmnmaibhjhhakaaGreatDoor
