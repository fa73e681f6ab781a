/-
  Entries out of a log's text: what both answer, as values; the reference's search for the next newline. No condition.
-/
import Derived.Test.YtmnmaibhjhhakaaGreatDoorEntS
import Derived.Test.YtmnmaibhjhhakaaGreatDoorBunS
import Derived.Lib.IndexLaws
namespace Go.Proofs.YtmnmaibhjhhakaaGreatDoor
open Go.ChangeShapes Go.WideShapes Go.ChangeAt Go.RowKit

def nlI (l : List UInt8) : Int := Lib.indexByte l 10
/-- The place of the next newline, or -1. -/
def endI (s : ByteArray) (p : Nat) : Int := if nlI (s.data.toList.drop p) < 0 then -1 else (p : Int) + nlI (s.data.toList.drop p)
theorem nl_cases (l : List UInt8) : (nlI l = -1 ∧ ∀ k : Nat, l[k]? ≠ some 10) ∨ ∃ o : Nat, nlI l = (o : Int) ∧ l[o]? = some 10 ∧ ∀ k : Nat, k < o → l[k]? ≠ some 10 := by
  unfold nlI
  have hge := Lib.indexByte_ge l 10
  by_cases h : Lib.indexByte l 10 = -1
  · exact .inl ⟨h, Lib.indexByte_none h⟩
  · obtain ⟨o, ho⟩ : ∃ o : Nat, Lib.indexByte l 10 = (o : Int) := ⟨(Lib.indexByte l 10).toNat, by omega⟩
    exact .inr ⟨o, ho, Lib.indexByte_some ho⟩
theorem end_hit {s : ByteArray} {p k : Nat} (hp : p ≤ k) (hk : s.data.toList[k]? = some 10) (hn : ∀ j : Nat, p ≤ j → j < k → s.data.toList[j]? ≠ some 10) : endI s p = (k : Int) := by
  rcases nl_cases (s.data.toList.drop p) with ⟨_, h2⟩ | ⟨o, h1, h2, h3⟩
  · exact absurd (by rw [List.getElem?_drop, Nat.add_sub_cancel' hp]; exact hk) (h2 (k - p))
  · unfold endI
    rw [h1, if_neg (by omega)]
    rw [List.getElem?_drop] at h2
    rcases Nat.lt_trichotomy (p + o) k with h | h | h
    · exact absurd h2 (hn (p + o) (by omega) h)
    · omega
    · exact absurd (by rw [List.getElem?_drop, Nat.add_sub_cancel' hp]; exact hk) (h3 (k - p) (by omega))
theorem end_none {s : ByteArray} {p : Nat} (hn : ∀ j : Nat, p ≤ j → s.data.toList[j]? ≠ some 10) : endI s p = -1 := by
  rcases nl_cases (s.data.toList.drop p) with ⟨h1, _⟩ | ⟨o, _, h2, _⟩
  · unfold endI
    rw [h1]; rfl
  · rw [List.getElem?_drop] at h2
    exact absurd h2 (hn (p + o) (by omega))
theorem end_cases (s : ByteArray) (p : Nat) : endI s p = -1 ∨ ∃ e : Nat, endI s p = (e : Int) ∧ p ≤ e ∧ e < s.size := by
  rcases nl_cases (s.data.toList.drop p) with ⟨h1, _⟩ | ⟨o, h1, h2, _⟩
  · left; unfold endI; rw [h1]; rfl
  · right
    refine ⟨p + o, ?_, by omega, ?_⟩
    · unfold endI
      rw [h1, if_neg (by omega)]; omega
    · rw [List.getElem?_drop] at h2
      have := (List.getElem?_eq_some_iff.1 h2).1
      simpa using this
theorem end_many {s : ByteArray} {p : Nat} : nlI (s.data.toList.drop p) < 0 ↔ endI s p = -1 := by
  rcases nl_cases (s.data.toList.drop p) with ⟨h1, _⟩ | ⟨o, h1, _, _⟩
  · unfold endI; rw [h1]; simp
  · unfold endI
    rw [h1, if_neg (by omega)]
    constructor <;> intro h <;> omega

/-- What is read from p on, at most f lines. -/
def logF (s : ByteArray) : Nat → List EnT → Nat → List EnT × Nat × Int
  | 0, xs, p => (xs, p, 0)
  | f + 1, xs, p => if p < s.size then
      if endI s p < 0 then (xs, p, 1)
      else if ((entR (s.extract p (endI s p).toNat)).2 && storeB (xs ++ [(entR (s.extract p (endI s p).toNat)).1])) = true then logF s f (xs ++ [(entR (s.extract p (endI s p).toNat)).1]) ((endI s p).toNat + 1)
      else (xs, p, 2)
    else (xs, p, 0)
def logR (s : ByteArray) : List EnT × Nat × Int := logF s (s.size + 1) [] 0
theorem log_done {s : ByteArray} {f p : Nat} {xs : List EnT} (hf : s.size < f + p) (hp : p ≤ s.size) (h : ¬ p < s.size) : logF s f xs p = (xs, p, 0) := by
  obtain ⟨f', rfl⟩ : ∃ f', f = f' + 1 := ⟨f - 1, by omega⟩
  rw [logF, if_neg h]
theorem log_torn {s : ByteArray} {f p : Nat} {xs : List EnT} (hf : s.size < f + p) (h : p < s.size) (he : endI s p = -1) : logF s f xs p = (xs, p, 1) := by
  obtain ⟨f', rfl⟩ : ∃ f', f = f' + 1 := ⟨f - 1, by omega⟩
  rw [logF, if_pos h, he, if_pos (by omega)]
theorem log_bad {s : ByteArray} {f p e : Nat} {xs : List EnT} {x : EnT} {b : Bool} (hf : s.size < f + p) (h : p < s.size) (he : endI s p = (e : Int)) (hx : entR (s.extract p e) = (x, b)) (hb : (b && storeB (xs ++ [x])) = false) : logF s f xs p = (xs, p, 2) := by
  obtain ⟨f', rfl⟩ : ∃ f', f = f' + 1 := ⟨f - 1, by omega⟩
  rw [logF, if_pos h, he, if_neg (by omega), Int.toNat_natCast, hx]
  show (if (b && storeB (xs ++ [x])) = true then _ else _) = _
  rw [hb]; rfl
theorem log_next {s : ByteArray} {f p e : Nat} {xs : List EnT} {x : EnT} {b : Bool} (hf : s.size < f + p) (h : p < s.size) (he : endI s p = (e : Int)) (hx : entR (s.extract p e) = (x, b)) (hb : (b && storeB (xs ++ [x])) = true) : logF s f xs p = logF s (f - 1) (xs ++ [x]) (e + 1) := by
  obtain ⟨f', rfl⟩ : ∃ f', f = f' + 1 := ⟨f - 1, by omega⟩
  rw [logF, if_pos h, he, if_neg (by omega), Int.toNat_natCast, hx, Nat.add_sub_cancel]
  show (if (b && storeB (xs ++ [x])) = true then _ else _) = _
  rw [hb]; rfl
/-- A line that is read is of an entry of fit size. -/
theorem ent_ok {s : ByteArray} {x : EnT} (h : entR s = (x, true)) (hs : s.size ≤ 1048576) : enS x ∧ eventOk x.2 := by
  by_cases h5 : (wordsB s).length = 5
  · obtain ⟨n, i, k, d, c, habc⟩ := five_of h5
    obtain ⟨q1, q2, q3, q4⟩ := words_five habc
    rw [entR_five habc] at h
    split at h
    · rename_i hc
      simp only [Prod.mk.injEq, and_true] at h
      subst h
      have hb : entB (n, fiveV i, k, fiveV d) = true := by
        cases hb : entB (n, fiveV i, k, fiveV d)
        · unfold outL at hc
          rw [hb] at hc
          have h2 := words_data habc
          rw [← hc] at h2
          have h3 : cutF [] ((⟨#[]⟩ : ByteArray).data.toList) = [[]] := rfl
          simp only [Bool.false_eq_true, if_false] at h2
          rw [h3] at h2
          simp at h2
        · rfl
      unfold entB evOk at hb
      rw [Bool.and_eq_true] at hb
      obtain ⟨p1, p2, p3, p4, p5⟩ := ev_parts hb.2
      have e1 : 1 ≤ fiveV i := p1
      have e2 : fiveV i ≤ 9999 := p2
      have e3 : k.size ≤ 6 := p3
      have e4 : 0 ≤ fiveV d := p4
      have e5 : fiveV d ≤ 999 := p5
      refine ⟨⟨by show n.size ≤ 1048576; omega, by show k.size ≤ 1048576; omega⟩, ?_⟩
      refine ⟨?_, ?_, ?_⟩
      · show IntOk (fiveV i); unfold IntOk; omega
      · show StrOk k; unfold StrOk maxLen; omega
      · show IntOk (fiveV d); unfold IntOk; omega
    · simp at h
  · rw [entR_not h5] at h
    simp at h

set_option maxHeartbeats 1600000 in
theorem l31End_any (s : ByteArray) (hs : s.size ≤ 1048576) (p : Nat) (hp : p ≤ s.size) (w : World) :
    Calls Tryz.prog 9 #[.string s, .int .i64 p] w fun e w' => e = .returned (.int .i64 (endI s p)) ∧ w = w' := by
  go_enter Tryz.func9, Tryz.ntmps9
  go_wp2
  go_loop [5] (fun i => ∃ k : Nat, p ≤ k ∧ k ≤ s.size ∧ i = .int .i64 k ∧ Hid (∀ j : Nat, p ≤ j → j < k → s.data.toList[j]? ≠ some 10)) (fun i => s.size - (intOf i).toNat)
  case atStart => exact ⟨p, Nat.le_refl _, hp, rfl, Lib.hid (fun j h1 h2 => by omega)⟩
  case round =>
    obtain ⟨k, hk0, hk, rfl, hN⟩ := hrel
    by_cases hlt : k < s.size
    · have hk2 : k < s.data.toList.length := by simpa using hlt
      have hget : s.data.toList[k]? = some s[k] := by rw [List.getElem?_eq_getElem hk2]; rfl
      by_cases hc : s[k].toNat = 10
      · have HE := Lib.hid (end_hit hk0 (by rw [hget]; exact congrArg some (UInt8.toNat_inj.1 hc)) hN.out)
        have e2 : ((s[k].toNat : Int) == 10) = true := by simp; omega
        clear hc hget
        go_wp2
        go_ret
        exact ⟨by rw [HE.out]; rfl, rfl⟩
      · have HE := Lib.hid (show ∀ j : Nat, p ≤ j → j < k + 1 → s.data.toList[j]? ≠ some 10 from fun j h1 h2 => by
          rcases Nat.lt_or_ge j k with h | h
          · exact hN.out j h1 h
          · obtain rfl : j = k := by omega
            rw [hget]
            intro h9
            exact hc (by rw [Option.some.inj h9]; rfl))
        have e2 : ((s[k].toNat : Int) == 10) = false := by simp; omega
        clear hc hget
        go_wp2
        go_round
        case rel => exact ⟨k + 1, by omega, by omega, by go_num, HE⟩
        case measure => simp [intOf]; omega
    · have HE := Lib.hid (end_none (s := s) (p := p) (fun j h1 => by
        rcases Nat.lt_or_ge j k with h | h
        · exact hN.out j h1 h
        · rw [List.getElem?_eq_none (by simp; omega)]; simp))
      go_wp2
      go_ret
      exact ⟨by rw [HE.out]; rfl, rfl⟩
end Go.Proofs.YtmnmaibhjhhakaaGreatDoor
