/-
  Linked lists of places: what placesOf makes, for every slice of ints. No condition.
-/
import Derived.Test.YtfbnpnajpkhkdaaTInt
import Derived.Deep.LoopGhost
namespace Go.Proofs.Ytfbnpnajpkhkdaa
open Go.ChangeShapes Go.WideShapes Go.ChangeAt Go.RowKit

/-- A linked list of places: each with its block and its number. -/
def Chain (w : World) : List (Nat × Int) → Value → Prop
  | [], p => p = .pointer none
  | (g, z) :: l, p => p = .pointer (some ⟨g, 0, none⟩) ∧ ∃ q, w.heap[g]? = some (.cells #[.int .i64 z, q] 126 (0, 0)) ∧ Chain w l q

theorem Chain.pointer {w : World} : ∀ {l : List (Nat × Int)} {p : Value}, Chain w l p → ∃ u, p = .pointer u
  | [], _, h => ⟨none, h⟩
  | _ :: _, _, h => ⟨_, h.1⟩
/-- Where the list's blocks are as they were it is there. -/
theorem Chain.kept {w w' : World} : ∀ {l : List (Nat × Int)} {p : Value}, Chain w l p → (∀ x ∈ l, w'.heap[x.1]? = w.heap[x.1]?) → Chain w' l p
  | [], _, h, _ => h
  | (g, z) :: l, _, ⟨h1, q, h2, h3⟩, hk => ⟨h1, q, (hk (g, z) (by simp)).trans h2, h3.kept (fun x hx => hk x (by simp [hx]))⟩
theorem Chain.lt {w : World} : ∀ {l : List (Nat × Int)} {p : Value}, Chain w l p → ∀ x ∈ l, x.1 < w.heap.size
  | (g, z) :: l, _, ⟨_, q, h2, h3⟩, x, hx => by
    rcases List.mem_cons.1 hx with rfl | hx
    · exact (Array.getElem?_eq_some_iff.1 h2).1
    · exact h3.lt x hx
theorem Chain.below {w w' : World} {l : List (Nat × Int)} {p : Value} (h : Chain w l p) (hb : Below w.heap.size w w') : Chain w' l p := h.kept (fun x hx => hb.block _ (h.lt x hx))
theorem Chain.new {w : World} {l : List (Nat × Int)} {p : Value} (h : Chain w l p) (z : Int) : Chain (w.alloc (.cells #[.int .i64 z, p] 126)) ((w.heap.size, z) :: l) (.pointer (some ⟨w.heap.size, 0, none⟩)) :=
  ⟨rfl, p, heap_alloc_new w _, h.below (below_alloc (Below.refl _ _) _)⟩

/-- What placesOf leaves: a linked list of the numbers, in new blocks, no two of them one. -/
def PlacesPost (B : Nat) (w : World) (zs : List Int) (p : Value) (w' : World) : Prop :=
  ∃ l : List (Nat × Int), l.map (·.2) = zs ∧ Chain w' l p ∧ (∀ x ∈ l, B ≤ x.1) ∧ (l.map (·.1)).Nodup ∧ Below w.heap.size w w'

set_option maxHeartbeats 1600000 in
theorem placesOf_any (A : Option Addr) (n c : Nat) (zs : List Int) (hn : n ≤ 1048576) (hx : zs.length = n) (w : World) (hL : Lies w 1 A n (zs.flatMap intCells)) :
    Calls Try.prog 97 #[.slice A n c] w fun e w' => ∃ u, e = .returned (.pointer u) ∧ PlacesPost w.heap.size w zs (.pointer u) w' := by
  go_enter Try.func97, Try.ntmps97
  go_wp2
  go_loopw [3, 4] (fun p i wr => ∃ (k : Nat) (u : Option Addr), k ≤ n ∧ i = .int .i64 ((k : Int) - 1) ∧ p = .pointer u ∧ PlacesPost w.heap.size w (zs.drop k) (.pointer u) wr) (fun _ i _ => (intOf i + 1).toNat)
  case atStart => exact ⟨n, none, Nat.le_refl _, rfl, rfl, [], by rw [List.drop_of_length_le (by omega)]; rfl, rfl, by simp, by simp, Below.refl _ _⟩
  case round =>
    obtain ⟨k, u, hk, rfl, rfl, hP⟩ := hrel
    by_cases hlt : k = 0
    · subst hlt
      go_wp2
      go_ret
      exact ⟨u, rfl, hP⟩
    · obtain ⟨l, h1, h2, h3, h4, hB⟩ := hP
      obtain ⟨b, o, rfl, hb, hc⟩ := (hL.below hB).row (fun _ => rfl) (by omega)
      obtain ⟨x0, hxk⟩ := get_lt hx (show k - 1 < n by omega)
      have c0 : wr.cell? ⟨b, o + (k - 1), none⟩ = some (.int .i64 x0) := by simpa using hc (k - 1) _ hxk 0 _ rfl
      have HX := Lib.hid hxk
      have k1 : 1 ≤ k := by omega
      have H := Lib.hid h1
      have H2 := Lib.hid h2
      have H3 := Lib.hid h3
      have H4 := Lib.hid h4
      clear hxk hc hlt h1 h2 h3 h4
      go_wp2
      go_roundw
      case rel =>
        refine ⟨k - 1, _, by omega, by go_num, rfl, (wr.heap.size, x0) :: l, ?_, H2.out.new x0, ?_, ?_, below_alloc hB _⟩
        · rw [List.map_cons, H.out, drop_of HX.out, show k - 1 + 1 = k from by omega]
        · intro x hx'
          rcases List.mem_cons.1 hx' with rfl | hx'
          · exact hB.size
          · exact H3.out x hx'
        · rw [List.map_cons, List.nodup_cons]
          refine ⟨?_, H4.out⟩
          intro hm
          obtain ⟨x, hxm, he⟩ := List.mem_map.1 hm
          have := H2.out.lt x hxm
          omega
      case measure => simp [intOf]; omega
end Go.Proofs.Ytfbnpnajpkhkdaa
