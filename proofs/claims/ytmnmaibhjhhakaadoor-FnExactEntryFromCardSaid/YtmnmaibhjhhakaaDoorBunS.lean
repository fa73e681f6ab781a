/-
  The texts StoreP StoreS StoreI StoreF StoreVer as one. No condition beyond what the rows list.
-/
import Derived.Test.YtmnmaibhjhhakaaDoorStreams
import Derived.Test.YtmnmaibhjhhakaaDoorBunN
import Derived.Test.YtmnmaibhjhhakaaDoorStreamsW
import Derived.Test.YtmnmaibhjhhakaaDoorBunT
/-
  Valid stores, told plainly: each entry valid, and no stream has an id twice; the same told stream by stream. No condition.
-/
namespace Go.Proofs.YtmnmaibhjhhakaaDoor
open Go.RowKit

/-- A valid entry. -/
def entB (x : EnT) : Bool := nameB x.1 && evOk x.2
def idOf (x : EnT) : ByteArray × Int := (x.1, x.2.1)
def freshB (pre : List EnT) (x : EnT) : Bool := pre.all (fun y => decide (idOf y ≠ idOf x))
theorem fresh_iff {pre : List EnT} {x : EnT} : freshB pre x = true ↔ idOf x ∉ pre.map idOf := by
  unfold freshB
  rw [List.all_eq_true]
  simp only [decide_eq_true_eq, List.mem_map, not_exists, not_and]
/-- Valid entries, none of the stream and the id of one before. -/
def stFrom (pre : List EnT) : List EnT → Bool
  | [] => true
  | x :: xs => entB x && freshB pre x && stFrom (pre ++ [x]) xs
def storeB (xs : List EnT) : Bool := decide (xs.length ≤ 24) && stFrom [] xs
theorem st_step {xs : List EnT} {k : Nat} {x : EnT} (hx : xs[k]? = some x) (h : stFrom [] xs = stFrom (xs.take k) (xs.drop k)) :
    stFrom [] xs = (entB x && freshB (xs.take k) x && stFrom (xs.take (k + 1)) (xs.drop (k + 1))) := by
  rw [h, drop_of hx, stFrom, take_succ_of hx]
theorem st_bad {xs : List EnT} {k : Nat} {x : EnT} (hx : xs[k]? = some x) (h : stFrom [] xs = stFrom (xs.take k) (xs.drop k)) (hb : entB x = false) : stFrom [] xs = false := by
  rw [st_step hx h, hb]; rfl
theorem st_twice {xs : List EnT} {k j : Nat} {x y : EnT} (hx : xs[k]? = some x) (h : stFrom [] xs = stFrom (xs.take k) (xs.drop k)) (hy : xs[j]? = some y) (hj : j < k) (he : idOf y = idOf x) : stFrom [] xs = false := by
  rw [st_step hx h]
  have hm : idOf x ∈ (xs.take k).map idOf := by
    rw [← he]
    exact List.mem_map_of_mem (List.mem_of_getElem? (by rw [List.getElem?_take, if_pos hj]; exact hy))
  rw [show freshB (xs.take k) x = false from by rw [Bool.eq_false_iff]; intro hf; exact fresh_iff.1 hf hm]; simp
theorem st_on {xs : List EnT} {k : Nat} {x : EnT} (hx : xs[k]? = some x) (h : stFrom [] xs = stFrom (xs.take k) (xs.drop k)) (hb : entB x = true) (hn : idOf x ∉ (xs.take k).map idOf) : stFrom [] xs = stFrom (xs.take (k + 1)) (xs.drop (k + 1)) := by
  rw [st_step hx h, hb, fresh_iff.2 hn]; rfl
theorem store_no {xs : List EnT} (h : stFrom [] xs = false) : storeB xs = false := by unfold storeB; rw [h]; simp
theorem not_id_succ {xs : List EnT} {j : Nat} {y : EnT} {v : ByteArray × Int} (hy : xs[j]? = some y) (h : v ∉ (xs.take j).map idOf) (hne : idOf y ≠ v) : v ∉ (xs.take (j + 1)).map idOf := by
  rw [take_succ_of hy, List.map_append, List.mem_append]
  rintro (g | g)
  · exact h g
  · simp at g; exact hne g.symm

theorem st_iff : ∀ (xs pre : List EnT), stFrom pre xs = true ↔ (∀ x ∈ xs, entB x = true) ∧ (∀ x ∈ xs, idOf x ∉ pre.map idOf) ∧ xs.Pairwise (fun x y => idOf x ≠ idOf y)
  | [], pre => by simp [stFrom]
  | x :: xs, pre => by
    rw [stFrom, Bool.and_eq_true, Bool.and_eq_true, st_iff xs (pre ++ [x]), fresh_iff, List.pairwise_cons]
    have hm : ∀ v, v ∈ (pre ++ [x]).map idOf ↔ v ∈ pre.map idOf ∨ v = idOf x := fun v => by rw [List.map_append, List.mem_append]; simp
    constructor
    · rintro ⟨⟨h1, h2⟩, h3, h4, h5⟩
      refine ⟨fun y hy => ?_, fun y hy => ?_, fun y hy e => h4 y hy ((hm _).2 (.inr e.symm)), h5⟩
      · rcases List.mem_cons.1 hy with rfl | hy
        · exact h1
        · exact h3 y hy
      · rcases List.mem_cons.1 hy with rfl | hy
        · exact h2
        · exact fun h => h4 y hy ((hm _).2 (.inl h))
    · rintro ⟨h1, h2, h6, h5⟩
      refine ⟨⟨h1 x (by simp), h2 x (by simp)⟩, fun y hy => h1 y (by simp [hy]), fun y hy h => ?_, h5⟩
      rcases (hm _).1 h with h | h
      · exact h2 y (by simp [hy]) h
      · exact h6 y hy h.symm
theorem evs_iff : ∀ (xs pre : List EvT), evs pre xs = true ↔ (∀ x ∈ xs, evOk x = true) ∧ (∀ x ∈ xs, x.1 ∉ pre.map (·.1)) ∧ xs.Pairwise (fun x y => x.1 ≠ y.1)
  | [], pre => by simp [evs]
  | x :: xs, pre => by
    rw [evs, Bool.and_eq_true, Bool.and_eq_true, evs_iff xs (pre ++ [x]), decide_eq_true_eq, List.pairwise_cons]
    have hm : ∀ v, v ∈ (pre ++ [x]).map (·.1) ↔ v ∈ pre.map (·.1) ∨ v = x.1 := fun v => by rw [List.map_append, List.mem_append]; simp
    constructor
    · rintro ⟨⟨h1, h2⟩, h3, h4, h5⟩
      refine ⟨fun y hy => ?_, fun y hy => ?_, fun y hy e => h4 y hy ((hm _).2 (.inr e.symm)), h5⟩
      · rcases List.mem_cons.1 hy with rfl | hy
        · exact h1
        · exact h3 y hy
      · rcases List.mem_cons.1 hy with rfl | hy
        · exact h2
        · exact fun h => h4 y hy ((hm _).2 (.inl h))
    · rintro ⟨h1, h2, h6, h5⟩
      refine ⟨⟨h1 x (by simp), h2 x (by simp)⟩, fun y hy => h1 y (by simp [hy]), fun y hy h => ?_, h5⟩
      rcases (hm _).1 h with h | h
      · exact h2 y (by simp [hy]) h
      · exact h6 y hy h.symm
theorem events_iff (ys : List EvT) : eventsB ys = true ↔ ys.length ≤ 24 ∧ (∀ x ∈ ys, evOk x = true) ∧ ys.Pairwise (fun x y => x.1 ≠ y.1) := by
  unfold eventsB
  rw [Bool.and_eq_true, decide_eq_true_eq, evs_iff]
  simp
theorem store_iff (xs : List EnT) : storeB xs = true ↔ xs.length ≤ 24 ∧ (∀ x ∈ xs, entB x = true) ∧ xs.Pairwise (fun x y => idOf x ≠ idOf y) := by
  unfold storeB
  rw [Bool.and_eq_true, decide_eq_true_eq, st_iff]
  simp
/-- Ids are told apart stream by stream. -/
theorem apart_iff : ∀ xs : List EnT, xs.Pairwise (fun x y => idOf x ≠ idOf y) ↔ ∀ s, (evOf s xs).Pairwise (fun x y => x.1 ≠ y.1)
  | [] => by simp [evOf]
  | x :: xs => by
    have cons : ∀ s, evOf s (x :: xs) = (if x.1 = s then [x.2] else []) ++ evOf s xs := by
      intro s
      unfold evOf
      by_cases h : x.1 = s <;> simp [h]
    have mem : ∀ s (e : EvT), e ∈ evOf s xs ↔ (s, e) ∈ xs := by
      intro s e
      unfold evOf
      simp only [List.mem_map, List.mem_filter, decide_eq_true_eq]
      constructor
      · rintro ⟨⟨a, b⟩, ⟨h1, h2⟩, h3⟩
        simp at h2 h3; subst h2; subst h3; exact h1
      · intro h; exact ⟨(s, e), ⟨h, rfl⟩, rfl⟩
    rw [List.pairwise_cons, apart_iff xs]
    constructor
    · rintro ⟨h1, h2⟩ s
      rw [cons]
      by_cases h : x.1 = s
      · rw [if_pos h, List.singleton_append, List.pairwise_cons]
        refine ⟨fun e he hh => ?_, h2 s⟩
        exact h1 (s, e) ((mem s e).1 he) (by unfold idOf; rw [h, hh])
      · rw [if_neg h, List.nil_append]; exact h2 s
    · intro h
      refine ⟨fun y hy hh => ?_, fun s => ?_⟩
      · have h1 := h x.1
        rw [cons, if_pos rfl, List.singleton_append, List.pairwise_cons] at h1
        unfold idOf at hh
        simp only [Prod.mk.injEq] at hh
        exact h1.1 y.2 ((mem x.1 y.2).2 (by rw [hh.1]; exact hy)) hh.2
      · have h1 := h s
        rw [cons] at h1
        exact (List.pairwise_append.1 h1).2.1
theorem evOf_mem {s : ByteArray} {xs : List EnT} {e : EvT} (h : e ∈ evOf s xs) : (s, e) ∈ xs := by
  unfold evOf at h
  simp only [List.mem_map, List.mem_filter, decide_eq_true_eq] at h
  obtain ⟨⟨a, b⟩, ⟨h1, h2⟩, h3⟩ := h
  simp at h2 h3; subst h2; subst h3; exact h1
/-- A stream that is not valid: nor is the store. -/
theorem store_stream {xs : List EnT} {s : ByteArray} (h : eventsB (evOf s xs) = false) : storeB xs = false := by
  rw [Bool.eq_false_iff]
  intro hs
  obtain ⟨h1, h2, h3⟩ := (store_iff xs).1 hs
  rw [Bool.eq_false_iff] at h
  refine h ((events_iff _).2 ⟨Nat.le_trans (evOf_length s xs) h1, fun e he => ?_, (apart_iff xs).1 h3 s⟩)
  have := h2 _ (evOf_mem he)
  unfold entB at this
  simp only [Bool.and_eq_true] at this
  exact this.2
theorem store_yes {xs : List EnT} (h1 : xs.length ≤ 24) (h2 : ∀ x ∈ xs, entB x = true) (h3 : ∀ s, evOf s xs ≠ [] → eventsB (evOf s xs) = true) : storeB xs = true := by
  refine (store_iff xs).2 ⟨h1, h2, (apart_iff xs).2 (fun s => ?_)⟩
  by_cases h : evOf s xs = []
  · rw [h]; exact List.Pairwise.nil
  · exact ((events_iff _).1 (h3 s h)).2.2
/-- What the walks ask of an entry: its texts are short. -/
def enS (x : EnT) : Prop := x.1.size ≤ 1048576 ∧ x.2.2.1.size ≤ 1048576
end Go.Proofs.YtmnmaibhjhhakaaDoor

/-
  Valid stores: what the reference's function returns, for every slice of entries. No condition.
-/
namespace Go.Proofs.YtmnmaibhjhhakaaDoor
open Go.ChangeShapes Go.WideShapes Go.ChangeAt Go.RowKit

end Go.Proofs.YtmnmaibhjhhakaaDoor

/-
  Valid stores: what the program's function returns, for every slice of entries. No condition beyond what the rows list.
-/
namespace Go.Proofs.YtmnmaibhjhhakaaDoor
open Go.ChangeShapes Go.WideShapes Go.ChangeAt Go.RowKit Go.Maps

set_option maxHeartbeats 3200000 in
theorem entryValid_any (x0 : ByteArray) (x1 : Int) (x2 : ByteArray) (x3 : Int) (hs : x0.size ≤ 1048576) (ht : x2.size ≤ 1048576) (a : Addr) (w : World) (hS : Sent a w) (hM : MaxL w) :
    Calls Tryd.prog 29 #[.agg #[.string x0, .int .i64 x1, .string x2, .int .i64 x3]] w fun e w' => e = .returned (.bool (entB (x0, x1, x2, x3))) ∧ Below w.heap.size w w' := by
  have BA : Below w.heap.size w (w.alloc (.cells #[.string x0, .int .i64 x1, .string x2, .int .i64 x3] 29)) := below_alloc (Below.refl _ _) _
  have hS1 := hS.below BA (Nat.le_refl _)
  have hM1 := hM.below BA
  cases E0 : nameB x0
  · have HE := Lib.hid (show entB (x0, x1, x2, x3) = false by unfold entB; simp only [E0]; rfl)
    go_enter Tryd.func29, Tryd.ntmps29
    go_wp2_with fail
    refine (implNameValid_any x0 hs a _ hS1 hM1).mono ?_
    rintro e w1 ⟨rfl, hb1⟩
    rw [E0]
    go_wp2
    go_ret
    exact ⟨ret_bool HE.out.symm, (by repeat' (first | (with_reducible exact Below.refl _ _) | (with_reducible assumption) | (with_reducible refine below_step (by assumption) ?_) | (with_reducible refine below_alloc ?_ _) | (with_reducible refine Below.drew ?_) | (with_reducible refine below_drewN ?_ _) | (with_reducible refine Below.setCell ?_ ?_ _) | go_size))⟩
  · cases E1 : eventB x1 x2 x3
    all_goals
      have HE := Lib.hid (show entB (x0, x1, x2, x3) = _ from show (nameB x0 && eventB x1 x2 x3) = _ by rw [E0, E1]; try rfl)
      go_enter Tryd.func29, Tryd.ntmps29
      go_wp2_with fail
      refine (implNameValid_any x0 hs a _ hS1 hM1).mono ?_
      rintro e w1 ⟨rfl, hb1⟩
      rw [E0]
      have m1 := box_cell hb1 (b := w.heap.size) (o := 1) (u := .int .i64 x1) (by go_cell)
      have m2 := box_cell hb1 (b := w.heap.size) (o := 2) (u := .string x2) (by go_cell)
      have m3 := box_cell hb1 (b := w.heap.size) (o := 3) (u := .int .i64 x3) (by go_cell)
      go_wp2_with fail
      refine (eventValid_any x1 x2 x3 (by unfold StrOk maxLen; omega) _).mono ?_
      rintro e2 w2 ⟨rfl, hb2⟩
      rw [E1]
      go_wp2
      go_ret
      exact ⟨ret_bool HE.out.symm, (by repeat' (first | (with_reducible exact Below.refl _ _) | (with_reducible assumption) | (with_reducible refine below_step (by assumption) ?_) | (with_reducible refine below_alloc ?_ _) | (with_reducible refine Below.drew ?_) | (with_reducible refine below_drewN ?_ _) | (with_reducible refine Below.setCell ?_ ?_ _) | go_size))⟩

theorem keyOf_string_inv {key : Value} {kl : Lit} (h : keyOf Tryd.prog 9 key = some kl) : ∃ s : ByteArray, key = .string s ∧ kl = keyL s ∧ s.size ≤ maxLen := by
  have hk := Tryd.underlying9
  cases key <;> simp [keyOf, hk, mapKey] at h
  obtain ⟨h1, rfl⟩ := h
  exact ⟨_, rfl, rfl, h1⟩

/-- The step of a range over such a map. -/
theorem wpList_next_streams {w : World} {ops : Array Oper} {rest : List Oper} {o : Oper} {a : Act} {Q : Exit → Act → World → Prop} (hg : o.guard = none) (it : Operand) (hop : o.op = Op.next it false) (b r : Nat) (xs : List EnT) (D : DataW Unit) (V : ByteArray → Value) (left : Lit → Bool) (cnt : Nat)
    (hit : a.eval it = .pointer (some ⟨r, 0, none⟩)) (hS : Streams w b xs D V) (h : w.ranges Tryd.prog 9 encV b r xs.length D left cnt)
    (hDone : cnt = 0 → (∀ kl, left kl = false) → wpList Tryd.prog ops Q rest (a.put o.dst (.tuple #[.bool false])) w)
    (hMore : ∀ (s : ByteArray) (w' : World) (cnt' : Nat), s.size ≤ maxLen → left (keyL s) = true → w'.ranges Tryd.prog 9 encV b r xs.length D (fun z => left z && !z.sameKey (keyL s)) cnt' → cnt' < cnt → w.grownBy w' (some r) → w'.heap.size = w.heap.size →
      (Instr.entry (.pointer (some ⟨r, 0, none⟩))).run Tryd.prog w' = .ok (.tuple #[.string s, V s]) w' → wpList Tryd.prog ops Q rest (a.put o.dst (.tuple #[.bool true, .string s, V s])) w') :
    wpList Tryd.prog ops Q (o :: rest) a w := by
  refine wpList_plain hg fun K' hK' => ?_
  unfold Oper.wp
  rcases h.next keyed o.type with ⟨h0, hl, hrun⟩ | ⟨key, v, kl, y, w', cnt', hkey, hlk, hv, hat, hrun, hrg, hlt, hgr, hsz, hen⟩
  · simp [execOp, hop, hit, hrun, Result.andThen]
    exact hK' _ _ (hDone h0 hl)
  · obtain ⟨s, rfl, rfl, hs⟩ := keyOf_string_inv hkey
    obtain ⟨ps, hV⟩ := hS.tells s
    obtain rfl : v = V s := encV_inj hv hV (hat .nil).symm
    simp [execOp, hop, hit, hrun, Result.andThen]
    exact hK' _ _ (hMore s w' cnt' hs hlk hrg hlt hgr hsz hen)

/-- A name that has events is a key. -/
theorem Streams.has {w : World} {b : Nat} {xs : List EnT} {D : DataW Unit} {V : ByteArray → Value} (h : Streams w b xs D V) {s : ByteArray} (hne : evOf s xs ≠ []) : Maps.has D (keyL s) = true := by
  cases e : Maps.has D (keyL s)
  · exfalso
    obtain ⟨ps, hV⟩ := h.tells s
    rw [atKey_of_not_has e] at hV
    have hv : V s = .slice none 0 0 := encV_inj hV encV_nil rfl
    have hr := h.rows s
    rw [hv] at hr
    rcases hr.2 with ⟨_, h0⟩ | ⟨g, c, _, hv', _⟩
    · exact hne (List.length_eq_zero_iff.1 h0)
    · cases hv'
  · rfl

end Go.Proofs.YtmnmaibhjhhakaaDoor

/-
  Entries whose texts' sizes the laws let pass. No condition.
-/
namespace Go.Proofs.YtmnmaibhjhhakaaDoor
open Go.ChangeShapes Go.WideShapes Go.ChangeAt Go.RowKit

theorem enS_ok {left : Int} {n : Nat} {xs : List EnT} (hl : left ≤ 1048576) (h : 0 ≤ szR left n (xs.flatMap entryTexts)) : ∀ x ∈ xs, enS x := fun x hx => by
  unfold szR at h
  split at h
  · omega
  · have hm := szT_all (by omega) h
    have h1 := hm x.1 (List.mem_flatMap.2 ⟨x, hx, by simp [entryTexts]⟩)
    have h2 := hm x.2.2.1 (List.mem_flatMap.2 ⟨x, hx, by simp [entryTexts]⟩)
    exact ⟨by omega, by omega⟩
theorem enE_ok {xs : List EnT} (h : ∀ x ∈ xs, entryOk x) : ∀ x ∈ xs, eventOk x.2 := fun x hx => by
  obtain ⟨_, h1, h2, h3⟩ := h x hx
  exact ⟨h1, h2, h3⟩
end Go.Proofs.YtmnmaibhjhhakaaDoor

/-
  The events of a name, and the version of a stream: what the reference's and the program's functions return, for every slice of entries. No condition beyond what the rows list.
-/
namespace Go.Proofs.YtmnmaibhjhhakaaDoor
open Go.ChangeShapes Go.WideShapes Go.ChangeAt Go.RowKit Go.Maps

/-- What the walks ask of a slice of entries and of a name. -/
structure StOk (xs : List EnT) : Prop where
  small : ∀ x ∈ xs, enS x
  ints : ∀ x ∈ xs, eventOk x.2
theorem StOk.names {xs : List EnT} (h : StOk xs) : ∀ x ∈ xs, x.1.size ≤ maxLen := fun x hx => by have := (h.small x hx).1; unfold maxLen; omega
theorem StOk.evs {xs : List EnT} (h : StOk xs) (s : ByteArray) : ∀ y ∈ evOf s xs, eventOk y := fun _ hy => h.ints _ (evOf_mem hy)
theorem StOk.evSmall {xs : List EnT} (h : StOk xs) (s : ByteArray) : ∀ y ∈ evOf s xs, y.2.1.size ≤ 1048576 := fun _ hy => (h.small _ (evOf_mem hy)).2
theorem evOf_take_succ {s : ByteArray} {xs : List EnT} {k : Nat} {x : EnT} (h : xs[k]? = some x) : evOf s (xs.take (k + 1)) = evOf s (xs.take k) ++ (if x.1 = s then [x.2] else []) := by
  rw [take_succ_of h, evOf_snoc]

def storeVer (xs : List EnT) (s : ByteArray) : Int := if storeB xs && nameB s then ((evOf s xs).length : Int) - 1 else -2
theorem ver_no {xs : List EnT} {s : ByteArray} (h : (storeB xs && nameB s) = false) : storeVer xs s = -2 := by unfold storeVer; rw [h]; rfl
theorem ver_yes {xs : List EnT} {s : ByteArray} (h1 : storeB xs = true) (h2 : nameB s = true) : storeVer xs s = ((evOf s xs).length : Int) - 1 := by unfold storeVer; rw [h1, h2]; rfl

/-- What a look-up in the program's map gives, its shape written out. -/
theorem Streams.form {w : World} {b : Nat} {xs : List EnT} {D : DataW Unit} {V : ByteArray → Value} (h : Streams w b xs D V) (s : ByteArray) : ∃ A c, V s = .slice A (evOf s xs).length c ∧ (evOf s xs).length ≤ c ∧ (c ≤ maxLen) ∧ w.ownsRow (b + 1) 23 3 (.slice A (evOf s xs).length c) (evOf s xs).length ((evOf s xs).flatMap eventCells) := by
  have hr := h.rows s
  rcases hr.2 with ⟨hv, h0⟩ | ⟨g, c, cur, hv, hb, hh, hn, hc, r⟩
  · exact ⟨none, 0, by rw [hv, h0], by omega, by unfold maxLen; omega, by rw [h0] at hr ⊢; rw [hv] at hr; exact hr⟩
  · exact ⟨some ⟨g, 0, none⟩, c, hv, hn, hc, by rw [hv] at hr; exact hr⟩

end Go.Proofs.YtmnmaibhjhhakaaDoor
