/-
  A position handled: the linked list with a further place, and its list; told plainly and walked. No condition.
-/
import Derived.Test.YtfbnpnajpkhkdaaMissing
import Derived.Test.YtfbnpnajpkhkdaaPut11
import Derived.Test.YtfbnpnajpkhkdaaKIntR
namespace Go.Proofs.Ytfbnpnajpkhkdaa
open Go.ChangeShapes Go.WideShapes Go.ChangeAt Go.RowKit

/-- A number put into a list, ahead of the first greater one. -/
def putI (p : Int) : List Int → List Int
  | [] => [p]
  | z :: zs => if p < z then p :: z :: zs else z :: putI p zs
theorem putI_length (p : Int) : ∀ zs : List Int, (putI p zs).length = zs.length + 1
  | [] => rfl
  | z :: zs => by rw [putI]; split <;> simp [putI_length p zs]
theorem insL_putI (p : Int) : ∀ {zs : List Int}, p ∉ zs → insL (inGe p) (inEq p) p zs = putI p zs
  | [], _ => rfl
  | z :: zs, h => by
    have h1 : z ≠ p := fun e => h (by simp [e])
    have h2 : p ∉ zs := fun e => h (by simp [e])
    rw [insL, putI, insL_putI p h2]
    rcases (show z < p ∨ p < z by omega) with h | h
    · rw [if_neg (by simp; omega), if_neg (by omega)]
    · rw [if_pos (by simp; omega), if_neg (by simpa using h1), if_pos h]
theorem insOk_asc (p : Int) : ∀ {zs : List Int} {L hi : Int}, ascTo L hi zs = true → InsOk (inGe p) (inEq p) zs
  | [], _, _, _ => trivial
  | z :: zs, L, hi, h => by
    obtain ⟨h1, h2, h3⟩ := asc_cons h
    refine ⟨by simp; omega, fun hg y hy => ?_, insOk_asc p h3⟩
    have := asc_mem h3 y hy
    simp only [decide_eq_true_eq] at hg
    simp; omega
/-- As far as all is handled. -/
def adv (d : Int) : List Int → Int × List Int
  | [] => (d, [])
  | z :: zs => if z = d then adv (d + 1) zs else (d, z :: zs)
theorem adv_len : ∀ (zs : List Int) (d : Int), (adv d zs).2.length ≤ zs.length
  | [], _ => Nat.le_refl _
  | z :: zs, d => by
    rw [adv]
    split
    · have := adv_len zs (d + 1); simp; omega
    · exact Nat.le_refl _
def markB (done : Int) (zs : List Int) (p : Int) : Bool := checkB done zs && inB p 0 99 && !hasB done zs p && checkB (adv done (putI p zs)).1 (adv done (putI p zs)).2
def markD (done : Int) (zs : List Int) (p : Int) : Int := if markB done zs p then (adv done (putI p zs)).1 else 0
def markL (done : Int) (zs : List Int) (p : Int) : List Int := if markB done zs p then (adv done (putI p zs)).2 else []
theorem mark_no {done : Int} {zs : List Int} {p : Int} (h : markB done zs p = false) : markD done zs p = 0 ∧ markL done zs p = [] := by unfold markD markL; rw [h]; exact ⟨rfl, rfl⟩
theorem mark_yes {done : Int} {zs : List Int} {p : Int} (h : markB done zs p = true) : markD done zs p = (adv done (putI p zs)).1 ∧ markL done zs p = (adv done (putI p zs)).2 := by unfold markD markL; rw [h]; exact ⟨rfl, rfl⟩

/-- The world behind a change of the places of a list. -/
def NodesPost (w : World) (l : List (Nat × Int)) (zs : List Int) (p : Value) (w' : World) : Prop :=
  ∃ l' : List (Nat × Int), l'.map (·.2) = zs ∧ Chain w' l' p ∧ (∀ x ∈ l', x.1 ∈ l.map (·.1) ∨ w.heap.size ≤ x.1) ∧ (l'.map (·.1)).Nodup ∧ (w'.os = w.os ∧ w'.tape = w.tape ∧ w'.output = w.output ∧ w.heap.size ≤ w'.heap.size ∧ ∀ b, b < w.heap.size → b ∉ l.map (·.1) → w'.heap[b]? = w.heap[b]?)

theorem Chain.setOther {w : World} {l : List (Nat × Int)} {p : Value} (h : Chain w l p) {g : Nat} (hg : g ∉ l.map (·.1)) (o : Nat) (u : Value) : Chain (w.setCell ⟨g, o, none⟩ u) l p :=
  h.kept (fun x hx => heap_setCell_other w ⟨g, o, none⟩ x.1 u (fun e => hg (by show g ∈ _; have : x.1 = g := e; rw [← this]; exact List.mem_map_of_mem hx)))

set_option maxHeartbeats 3200000 in
theorem placeWith_any : ∀ (l : List (Nat × Int)) (u : Option Addr) (p : Int) (w : World), Chain w l (.pointer u) → (l.map (·.1)).Nodup →
    Calls Try.prog 101 #[.pointer u, .int .i64 p] w fun e w' => ∃ u', e = .returned (.pointer u') ∧ NodesPost w l (putI p (l.map (·.2))) (.pointer u') w' := by
  intro l
  induction l with
  | nil =>
    intro u p w hC hN
    obtain rfl : u = none := by simpa [Chain] using hC
    go_enter Try.func101, Try.ntmps101
    go_wp2
    go_ret
    refine ⟨_, rfl, [(w.heap.size, p)], rfl, Chain.new (l := []) rfl p, fun x hx => ?_, by simp, rfl, rfl, rfl, by simp, fun b hb _ => heap_alloc_old _ _ hb⟩
    simp at hx; subst hx; exact .inr (Nat.le_refl _)
  | cons y l ih =>
    intro u p w hC hN
    obtain ⟨g, z⟩ := y
    have hC0 := Lib.hid hC
    obtain ⟨hp, q, hq, hC'⟩ := hC
    obtain rfl : u = some ⟨g, 0, none⟩ := by injection hp
    obtain ⟨u2, rfl⟩ := hC'.pointer
    have e0 := cell_of_row w g 0 _ _ (0, 0) hq
    have e1 := cell_of_row w g 1 _ _ (0, 0) hq
    simp at e0 e1
    rw [List.map_cons, List.nodup_cons] at hN
    obtain ⟨hg, hN'⟩ := hN
    have HG := Lib.hid hg
    have HN := Lib.hid hN'
    have HQ := Lib.hid hq
    have HC := Lib.hid hC'
    have IH := Lib.hid ih
    clear hg hN' hq hC' hp ih
    by_cases hlt : p < z
    · clear IH
      go_enter Try.func101, Try.ntmps101
      go_wp2
      go_ret
      refine ⟨_, rfl, (w.heap.size, p) :: (g, z) :: l, ?_, Chain.new hC0.out p, fun x hx => ?_, ?_, rfl, rfl, rfl, by simp, fun b hb _ => heap_alloc_old _ _ hb⟩
      · show p :: z :: l.map (·.2) = putI p (z :: l.map (·.2)); rw [putI, if_pos hlt]
      · rcases List.mem_cons.1 hx with rfl | hx
        · exact .inr (Nat.le_refl _)
        · exact .inl (List.mem_map_of_mem hx)
      · rw [List.map_cons, List.nodup_cons]
        refine ⟨fun hm => ?_, by rw [List.map_cons, List.nodup_cons]; exact ⟨HG.out, HN.out⟩⟩
        obtain ⟨x, hx, e⟩ := List.mem_map.1 hm
        have := hC0.out.lt x hx
        omega
    · go_enter Try.func101, Try.ntmps101
      go_wp2_with fail
      refine (IH.out u2 p _ HC.out HN.out).mono ?_
      rintro e w1 ⟨u3, rfl, hP⟩
      have HP := Lib.hid hP
      have hq1 : w1.heap[g]? = some (.cells #[.int .i64 z, .pointer u2] 126 (0, 0)) := by
        obtain ⟨l', _, _, _, _, _, _, _, _, hk⟩ := hP
        exact (hk g (lt_of_block HQ.out) HG.out).trans HQ.out
      have d1 := cell_of_row w1 g 1 _ _ (0, 0) hq1
      simp at d1
      have f1 := frozen_of_row w1 g 1 _ _ hq1
      have HQ1 := Lib.hid hq1
      clear hP hq1
      go_wp2
      go_ret
      obtain ⟨l', h1, h2, h3, h4, h5, h6, h7, h8, h9⟩ := HP.out
      have hgl : g ∉ l'.map (·.1) := fun hm => by
        obtain ⟨x, hx, e⟩ := List.mem_map.1 hm
        rcases h3 x hx with h | h
        · exact HG.out (by rw [← e]; exact h)
        · have := lt_of_block HQ.out; omega
      refine ⟨_, rfl, (g, z) :: l', ?_, ⟨rfl, .pointer u3, ?_, h2.setOther hgl 1 _⟩, fun x hx => ?_, by rw [List.map_cons, List.nodup_cons]; exact ⟨hgl, h4⟩, h5, h6, h7, by simpa [World.setCell] using h8, fun b hb hne => ?_⟩
      · rw [List.map_cons, h1]; show z :: putI p (l.map (·.2)) = putI p (z :: l.map (·.2)); rw [putI, if_neg (by omega)]
      · have := heap_setCell_same w1 g 1 _ _ (.pointer u3) HQ1.out
        rw [this]; rfl
      · rcases List.mem_cons.1 hx with rfl | hx
        · exact .inl (by simp)
        · rcases h3 x hx with h | h
          · exact .inl (by rw [List.map_cons]; exact List.mem_cons_of_mem _ h)
          · exact .inr h
      · rw [List.map_cons, List.mem_cons] at hne
        exact (heap_setCell_other w1 ⟨g, 1, none⟩ b _ (fun e => hne (.inl e))).trans (h9 b hb (fun h => hne (.inr h)))

set_option maxHeartbeats 3200000 in
theorem placeList_any (l : List (Nat × Int)) (u : Option Addr) (w : World) (hC : Chain w l (.pointer u)) (hl : l.length ≤ 1048576) :
    Calls Try.prog 102 #[.pointer u] w fun e w' => ∃ g m c, e = .returned (.slice (some ⟨g, 0, none⟩) m c) ∧ l.length = m ∧ w'.ownsRow w.heap.size 3 1 (.slice (some ⟨g, 0, none⟩) m c) m ((l.map (·.2)).flatMap intCells) ∧ Below w.heap.size w w' := by
  have HC := Lib.hid hC
  clear hC
  go_enter Try.func102, Try.ntmps102
  go_wp2_with fail
  go_loopg [0, 3] l.length (fun k p r wr => ∃ (pre suf : List (Nat × Int)) (u : Option Addr) (g m c : Nat), l = pre ++ suf ∧ k = suf.length ∧ p = .pointer u ∧ r = .slice (some ⟨g, 0, none⟩) m c ∧ Hid (pre.length = m) ∧ Chain wr suf (.pointer u) ∧ wr.ownsRow w.heap.size 3 1 (.slice (some ⟨g, 0, none⟩) m c) m ((pre.map (·.2)).flatMap intCells) ∧ Below w.heap.size w wr)
  case atStart => exact ⟨[], l, u, _, 0, 0, rfl, rfl, rfl, rfl, Lib.hid rfl, HC.out.below (below_alloc (Below.refl _ _) _), owns_nil' _ _ rfl (Nat.le_refl _), (by repeat' (first | (with_reducible exact Below.refl _ _) | (with_reducible assumption) | (with_reducible refine below_step (by assumption) ?_) | (with_reducible refine below_alloc ?_ _) | (with_reducible refine Below.drew ?_) | (with_reducible refine below_drewN ?_ _) | (with_reducible refine Below.setCell ?_ ?_ _) | go_size))⟩
  case round =>
    obtain ⟨pre, suf, u', g, m, c, hl', hk, rfl, rfl, hlen, hC, ho, hB⟩ := hrel
    have HLl := Lib.hid hl'
    have HK := Lib.hid hk
    have HO := Lib.hid ho
    clear hl' hk ho
    cases suf with
    | nil =>
      obtain rfl : u' = none := by simpa [Chain] using hC
      clear hC
      go_wp2
      go_ret
      have e1 := HLl.out
      rw [List.append_nil] at e1
      exact ⟨g, m, c, rfl, by rw [e1]; exact hlen.out, by rw [e1]; exact HO.out, hB⟩
    | cons y suf =>
      obtain ⟨gy, z⟩ := y
      have HC0 := Lib.hid hC
      obtain ⟨hp, q, hq, hC'⟩ := hC
      obtain rfl : u' = some ⟨gy, 0, none⟩ := by injection hp
      obtain ⟨u2, rfl⟩ := hC'.pointer
      have e0 := cell_of_row wr gy 0 _ _ (0, 0) hq
      have e1 := cell_of_row wr gy 1 _ _ (0, 0) hq
      simp at e0 e1
      have hm : m ≤ 1048576 := by have h1 := hlen.out; have h2 := congrArg List.length HLl.out; rw [List.length_append] at h2; omega
      clear hC' hq hp
      go_wp2_with (at_builtin; refine wpList_app1 rfl _ _ 47 3 1 8 rowInt rfl w.heap.size g m c _ HO.out rfl rfl rfl rfl (by unfold maxLen; omega) (by omega) hB.size ?_; intro g3 c3 w3 ho3 hg3 hz3; have HO3 := Lib.hid ho3; have hgl := (owns_lt HO.out).1; clear ho3; have hC3 := HC0.out.grown HO.out hg3; obtain ⟨_, q3, hq3, hC4⟩ := hC3; have HQ3 := Lib.hid hq3; clear hq3; obtain ⟨u4, rfl⟩ := hC4.pointer; have HC4 := Lib.hid hC4; clear hC4; have d1 := cell_of_row w3 gy 1 _ _ (0, 0) HQ3.out; simp at d1)
      go_roundg suf.length
      case measure => have := HK.out; simp at this; omega
      case rel => exact ⟨pre ++ [(gy, z)], suf, u4, g3, m + 1, c3, by rw [HLl.out]; simp, rfl, rfl, rfl, Lib.hid (by rw [List.length_append, hlen.out]; rfl), HC4.out, by rw [List.map_append, List.flatMap_append]; exact HO3.out, below_grown hB hg3 hgl hB.size⟩
end Go.Proofs.Ytfbnpnajpkhkdaa
