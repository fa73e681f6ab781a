/-
  How the arguments of this seat's laws lie in memory: ints, strings, structs by value, slices of such. For every readable argument. No condition.
-/
import Derived.Test.YtmnmaibhjhhakaaGreatDoorFrame
import Derived.Deep.Slices
namespace Go.Proofs.YtmnmaibhjhhakaaGreatDoor
open Go.ChangeShapes Go.WideShapes Go.ChangeAt Go.RowKit Go.Deep

/-- n elements of 'size' cells each lie behind A: the cells xs. -/
def Lies (w : World) (size : Nat) (A : Option Addr) (n : Nat) (xs : List Value) : Prop :=
  xs.length = n * size ∧ (0 < n → ∃ b o, A = some ⟨b, o, none⟩ ∧ b < w.heap.size ∧ ∀ j u, xs[j]? = some u → w.cell? ⟨b, o + j, none⟩ = some u)

theorem add_plain (b o j : Nat) : (⟨b, o, none⟩ : Addr).add j = ⟨b, o + j, none⟩ := by
  unfold Addr.add
  by_cases h : j = 0 <;> simp [h]

def IntOk (n : Int) : Prop := -9223372036854775808 ≤ n ∧ n ≤ 9223372036854775807
def StrOk (s : ByteArray) : Prop := s.size ≤ maxLen

/-- One cell, by its kind: 0 an int, 1 a string, 2 a bool, else a slice of ints. -/
def CellIs (w : World) (c : Nat) (v : Value) : Prop :=
  match c with
  | 0 => ∃ n : Int, v = .int .i64 n ∧ IntOk n
  | 1 => ∃ s : ByteArray, v = .string s ∧ StrOk s
  | 2 => ∃ b, v = .bool b
  | _ => ∃ (A : Option Addr) (n c : Nat) (zs : List Int), v = .slice A n c ∧ n ≤ c ∧ c ≤ maxLen ∧ zs.length = n ∧ Lies w 1 A n (zs.map (.int .i64)) ∧ ∀ z ∈ zs, IntOk z
def CellsAre (w : World) : List Nat → List Value → Prop
  | [], [] => True
  | k :: ks, v :: vs => CellIs w k v ∧ CellsAre w ks vs
  | _, _ => False

theorem CellsAre.length {w : World} : ∀ {ks : List Nat} {vs : List Value}, CellsAre w ks vs → ks.length = vs.length
  | [], [], _ => rfl
  | _ :: _, _ :: _, h => by simp [CellsAre.length h.2]
theorem CellsAre.append {w : World} : ∀ {ks ks' : List Nat} {vs vs' : List Value}, CellsAre w ks vs → CellsAre w ks' vs' → CellsAre w (ks ++ ks') (vs ++ vs')
  | [], _, [], _, _, h => h
  | _ :: _, _, _ :: _, _, h, h' => ⟨h.1, CellsAre.append h.2 h'⟩

/-- The kinds of a type's cells. -/
def kindsOf (P : Program) : Nat → TypeId → Option (List Nat)
  | 0, _ => none
  | m + 1, t =>
    match P.underlying t with
    | some (.int .i64) => some [0]
    | some .string => some [1]
    | some .bool => some [2]
    | some (.slice e) =>
      match P.underlying e with
      | some (.int .i64) => if P.cellsOf e = 1 then some [3] else none
      | _ => none
    | some (.struct fs) =>
      (fs.toList.foldl (fun (acc : Option (List Nat)) f =>
        match acc with
        | none => none
        | some ks =>
          match kindsOf P m f.type with
          | none => none
          | some ks' => if f.offset = ks.length ∧ ks'.length = P.cellsOf f.type then some (ks ++ ks') else none) (some [])).bind fun ks => if ks.length = P.cellsOf t then some ks else none
    | _ => none

section
variable {H : Type} {enc : TypeId × Value → H} {P : Program} {w : World}

theorem spot_none {a : Addr} {v : Value} (h : w.cell? a = some v) : a = ⟨a.block, a.off, none⟩ ∧ a.block < w.heap.size := by
  have hb := World.block_lt_of_cell? w a h
  refine ⟨?_, hb⟩
  unfold World.cell? at h
  split at h
  · split at h
    · cases h
    · rename_i hs
      obtain ⟨b, o, s⟩ := a
      cases s with
      | none => rfl
      | some x => simp at hs
  · cases h

/-- A family of rows by their index is one list. -/
theorem rows_of {α : Type} {Q : Nat → α → Prop} : ∀ (n : Nat), (∀ i, i < n → ∃ x, Q i x) → ∃ L : List α, L.length = n ∧ ∀ i x, L[i]? = some x → Q i x
  | 0, _ => ⟨[], rfl, fun i x h => by simp at h⟩
  | n + 1, h => by
    obtain ⟨L, hl, hq⟩ := rows_of n (fun i hi => h i (by omega))
    obtain ⟨x, hx⟩ := h n (by omega)
    refine ⟨L ++ [x], by simp [hl], fun i y hy => ?_⟩
    rcases Nat.lt_or_ge i n with hi | hi
    · rw [List.getElem?_append_left (by omega)] at hy
      exact hq i y hy
    · rw [List.getElem?_append_right (by omega), hl] at hy
      have : i - n = 0 := by
        rcases Nat.eq_zero_or_pos (i - n) with h0 | h0
        · exact h0
        · rw [List.getElem?_eq_none (by simp; omega)] at hy; cases hy
      rw [this] at hy
      simp at hy
      have : i = n := by omega
      subst this; subst hy
      exact hx

/-- Element k, cell j of rows of one length. -/
theorem flat_get {α : Type} (f : α → List Value) (size : Nat) (hl : ∀ x, (f x).length = size) : ∀ (L : List α) (k j : Nat) (x : α), L[k]? = some x → j < size → (L.flatMap f)[k * size + j]? = (f x)[j]?
  | [], k, j, x, h, _ => by simp at h
  | y :: L, 0, j, x, h, hj => by
    simp at h; subst h
    rw [List.flatMap_cons, Nat.zero_mul, Nat.zero_add, List.getElem?_append_left (by rw [hl]; exact hj)]
  | y :: L, k + 1, j, x, h, hj => by
    simp at h
    rw [List.flatMap_cons, Nat.succ_mul, List.getElem?_append_right (by rw [hl]; omega), hl]
    have : k * size + size + j - size = k * size + j := by omega
    rw [this]
    exact flat_get f size hl L k j x h hj
theorem flat_len {α : Type} (f : α → List Value) (size : Nat) (hl : ∀ x, (f x).length = size) (L : List α) : (L.flatMap f).length = L.length * size := by
  induction L with
  | nil => simp
  | cons x L ih => rw [List.flatMap_cons, List.length_append, ih, hl, List.length_cons, Nat.succ_mul]; omega

theorem Lies.below {w' : World} {size : Nat} {A : Option Addr} {n : Nat} {xs : List Value} (h : Lies w size A n xs) (hb : Below w.heap.size w w') : Lies w' size A n xs :=
  ⟨h.1, fun hn => by
    obtain ⟨b, o, e, hlt, hc⟩ := h.2 hn
    exact ⟨b, o, e, Nat.lt_of_lt_of_le hlt hb.size, fun j u hu => (hb.cell (p := ⟨b, o + j, none⟩) hlt).trans (hc j u hu)⟩⟩

/-- Ints behind a slice, out of the reading of one cell. -/
theorem ints_cell {t e : TypeId} {m : Nat} {cs : List Value} {x : DataW H × List MemPlace} (ht : P.underlying t = some (.slice e)) (he : P.underlying e = some (.int .i64)) (hC : P.cellsOf e = 1)
    (h : DataW.trod enc P w 0 (fun _ => true) true m t cs = some x) : CellsAre w [3] cs := by
  rcases open_slice ht h with ⟨rfl, _⟩ | ⟨a, len, cap, m', n, D, Pl, rfl, _, hl, hm, hmm, _, hi⟩
  · exact ⟨⟨none, 0, 0, [], rfl, Nat.le_refl _, by unfold maxLen; omega, rfl, ⟨rfl, fun h => absurd h (by omega)⟩, fun z hz => by simp at hz⟩, trivial⟩
  · simp only [if_true] at hmm
    have hrow : ∀ i, i < len → ∃ z : Int, w.cell? (a.add i) = some (.int .i64 z) ∧ IntOk z := by
      intro i hil
      obtain ⟨cs', hc, ht'⟩ := hi i (by omega)
      rw [hC, Nat.mul_one] at hc
      obtain ⟨_, hcl, hat⟩ := World.cells?_some hc
      obtain ⟨k, rfl, _, hw⟩ := DataW.trod_int he ht'
      have h0 := hat 0 (by omega)
      have b0 := bounds_i64 hw
      exact ⟨k, by simpa [Addr.add] using h0, b0.1, b0.2⟩
    obtain ⟨zs, hzl, hz⟩ := rows_of len hrow
    refine ⟨⟨some a, len, cap, zs, rfl, hl, hm, hzl, ⟨by simp [hzl], fun hn => ?_⟩, fun z hzm => ?_⟩, trivial⟩
    · have hlt0 : 0 < zs.length := by omega
      have h0 := (hz 0 _ (List.getElem?_eq_getElem hlt0)).1
      have e0 : a.add 0 = a := by simp [Addr.add]
      rw [e0] at h0
      obtain ⟨ea, hb⟩ := spot_none h0
      refine ⟨a.block, a.off, by rw [← ea], hb, fun j u hu => ?_⟩
      rw [List.getElem?_map] at hu
      cases hzj : zs[j]? with
      | none => rw [hzj] at hu; simp at hu
      | some z =>
        rw [hzj] at hu
        simp at hu
        subst hu
        have h1 := (hz j z hzj).1
        have e2 : a.add j = ⟨a.block, a.off + j, none⟩ := (congrArg (fun q => Addr.add q j) ea).trans (add_plain _ _ _)
        rw [← e2]; exact h1
    · obtain ⟨i, hil, hi'⟩ := List.getElem_of_mem hzm
      exact (hz i z (by rw [List.getElem?_eq_getElem hil, hi'])).2

theorem cells_of : ∀ (m : Nat) (fuel : Nat) (t : TypeId) (cs : List Value) (x : DataW H × List MemPlace) (ks : List Nat), kindsOf P m t = some ks → DataW.trod enc P w 0 (fun _ => true) true fuel t cs = some x → CellsAre w ks cs
  | 0, _, _, _, _, _, hk, _ => by simp [kindsOf] at hk
  | m + 1, fuel, t, cs, x, ks, hk, h => by
    unfold kindsOf at hk
    split at hk
    · rename_i hu
      injection hk with hk; subst hk
      obtain ⟨k, rfl, _, hw⟩ := DataW.trod_int hu h
      have b0 := bounds_i64 hw
      exact ⟨⟨k, rfl, b0⟩, trivial⟩
    · rename_i hu
      injection hk with hk; subst hk
      obtain ⟨s, rfl, _, hs⟩ := DataW.trod_string hu h
      exact ⟨⟨s, rfl, hs⟩, trivial⟩
    · rename_i hu
      injection hk with hk; subst hk
      obtain ⟨b, rfl, _⟩ := DataW.trod_bool hu h
      exact ⟨⟨b, rfl⟩, trivial⟩
    · rename_i e hu
      split at hk
      · rename_i hue
        split at hk
        · rename_i hC
          injection hk with hk; subst hk
          exact ints_cell hu hue hC h
        · cases hk
      · cases hk
    · rename_i fs hu
      obtain ⟨xs, n, rfl, _, hlen, hxl, hf⟩ := DataW.trod_struct hu h
      have hf' : ∀ f ∈ fs.toList, ∃ y, DataW.trod enc P w 0 (fun _ => true) true n f.type ((cs.drop f.offset).take (P.cellsOf f.type)) = some y := by
        intro f hfm
        obtain ⟨i, hi, he⟩ := List.getElem_of_mem hfm
        have hi' : fs[i]? = some f := by
          rw [← he]; simp at hi ⊢
        have := hf i f hi'
        have hix : i < xs.length := by simp at hi; omega
        exact ⟨xs[i], this.trans (List.getElem?_eq_getElem hix)⟩
      have key : ∀ (fl : List Field) (acc ks0 : List Nat), (∀ f ∈ fl, ∃ y, DataW.trod enc P w 0 (fun _ => true) true n f.type ((cs.drop f.offset).take (P.cellsOf f.type)) = some y) →
          CellsAre w acc (cs.take acc.length) →
          fl.foldl (fun (acc : Option (List Nat)) f =>
            match acc with
            | none => none
            | some ks =>
              match kindsOf P m f.type with
              | none => none
              | some ks' => if f.offset = ks.length ∧ ks'.length = P.cellsOf f.type then some (ks ++ ks') else none) (some acc) = some ks0 → CellsAre w ks0 (cs.take ks0.length) := by
        intro fl
        induction fl with
        | nil =>
          intro acc ks0 _ ha he
          simp at he
          subst he
          exact ha
        | cons f fl ih =>
          intro acc ks0 hfs ha he
          rw [List.foldl_cons] at he
          have none_stays : ∀ fl : List Field, fl.foldl (fun (acc : Option (List Nat)) f =>
            match acc with
            | none => none
            | some ks =>
              match kindsOf P m f.type with
              | none => none
              | some ks' => if f.offset = ks.length ∧ ks'.length = P.cellsOf f.type then some (ks ++ ks') else none) none = none := by
            intro fl; induction fl with
            | nil => rfl
            | cons g fl ih2 => rw [List.foldl_cons]; exact ih2
          cases hkf : kindsOf P m f.type with
          | none => simp only [hkf] at he; rw [none_stays] at he; cases he
          | some kf =>
            simp only [hkf] at he
            split at he
            · rename_i hc
              obtain ⟨y, hy⟩ := hfs f (by simp)
              have hcf := cells_of m n f.type _ _ kf hkf hy
              refine ih (acc ++ kf) ks0 (fun g hg => hfs g (by simp [hg])) ?_ he
              have hl2 := hcf.length
              rw [List.length_append, List.take_add]
              refine ha.append ?_
              rw [hc.2, ← hc.1]
              exact hcf
            · rw [none_stays] at he; cases he
      cases hfo : fs.toList.foldl (fun (acc : Option (List Nat)) f =>
            match acc with
            | none => none
            | some ks =>
              match kindsOf P m f.type with
              | none => none
              | some ks' => if f.offset = ks.length ∧ ks'.length = P.cellsOf f.type then some (ks ++ ks') else none) (some []) with
      | none => rw [hfo] at hk; simp at hk
      | some k0 =>
        rw [hfo] at hk
        simp only [Option.bind_some] at hk
        split at hk
        · rename_i hc
          injection hk with hk; subst hk
          have := key fs.toList [] k0 hf' trivial hfo
          rw [hc, ← hlen, List.take_length] at this
          exact this
        · cases hk
    · cases hk

/-- AN ARGUMENT THAT IS A STRUCT BY VALUE. -/
theorem open_cells {r : Reach} {b0 : Nat} {t : TypeId} {fs : Array Field} {ks : List Nat} {v : Value} {d : DataW H} {p : List MemPlace} (hs : P.underlying t = some (.struct fs)) (hk : kindsOf P 4 t = some ks)
    (hv : Value.okWide P w r b0 t v) (h : DataW.Trod enc P w 0 (fun _ => true) true t v d p) : ∃ cs : List Value, v = .agg cs.toArray ∧ CellsAre w ks cs := by
  obtain ⟨cs, rfl, hsz⟩ := okWide_struct hs hv
  obtain ⟨fuel, hf⟩ := h
  refine ⟨cs.toList, by simp, ?_⟩
  have := cells_of 4 fuel t _ _ ks hk hf
  simpa [Value.cells] using this

/-- AN ARGUMENT THAT IS A SLICE OF SUCH ELEMENTS. -/
theorem open_rows {α : Type} {r : Reach} {b0 : Nat} {t e : TypeId} {ks : List Nat} (cells : α → List Value) (ok : α → Prop) (hdec : ∀ row, CellsAre w ks row → ∃ x, row = cells x ∧ ok x)
    {v : Value} {d : DataW H} {p : List MemPlace} (ht : P.underlying t = some (.slice e)) (hk : kindsOf P 4 e = some ks) (hC : P.cellsOf e = ks.length) (hpos : 0 < ks.length) (hcl : ∀ x, (cells x).length = ks.length)
    (hv : Value.okWide P w r b0 t v) (h : DataW.Trod enc P w 0 (fun _ => true) true t v d p) :
    ∃ (A : Option Addr) (n c : Nat) (xs : List α), v = .slice A n c ∧ n ≤ c ∧ c ≤ maxLen ∧ xs.length = n ∧ Lies w ks.length A n (xs.flatMap cells) ∧ ∀ x ∈ xs, ok x := by
  obtain ⟨a0, len0, cap0, rfl⟩ := okWide_slice ht hv
  obtain ⟨fuel, hf⟩ := h
  rcases open_slice ht hf with ⟨h0, _⟩ | ⟨a, len, cap, m', n, D, Pl, hcs, _, hl, hm, hmm, _, hi⟩
  · simp [Value.cells] at h0
    obtain ⟨rfl, rfl, rfl⟩ := h0
    exact ⟨none, 0, 0, [], rfl, Nat.le_refl _, by unfold maxLen; omega, rfl, ⟨by simp, fun h => absurd h (by omega)⟩, fun z hz => by simp at hz⟩
  · simp [Value.cells] at hcs
    obtain ⟨rfl, rfl, rfl⟩ := hcs
    simp only [if_true] at hmm
    have hrow : ∀ i, i < len0 → ∃ x : α, (∀ j u, (cells x)[j]? = some u → w.cell? ((a.add (i * ks.length)).add j) = some u) ∧ ok x := by
      intro i hil
      obtain ⟨cs', hc, ht'⟩ := hi i (by omega)
      rw [hC] at hc
      obtain ⟨_, hcl', hat⟩ := World.cells?_some hc
      obtain ⟨x, rfl, hx⟩ := hdec cs' (cells_of 4 n e _ _ ks hk ht')
      refine ⟨x, fun j u hu => ?_, hx⟩
      have hj : j < ks.length := by
        have := (List.getElem?_eq_some_iff.1 hu).1
        rw [hcl] at this; exact this
      rw [hat j hj]; exact hu
    obtain ⟨xs, hzl, hz⟩ := rows_of len0 hrow
    refine ⟨some a, len0, cap0, xs, rfl, hl, hm, hzl, ⟨by rw [flat_len cells ks.length hcl, hzl], fun hn => ?_⟩, fun z hzm => ?_⟩
    · have hlt0 : 0 < xs.length := by omega
      have h0 := (hz 0 _ (List.getElem?_eq_getElem hlt0)).1 0
      have hpos' : 0 < (cells xs[0]).length := by rw [hcl]; exact hpos
      have h1 := h0 _ (List.getElem?_eq_getElem hpos')
      have e0 : (a.add (0 * ks.length)).add 0 = a := by simp [Addr.add]
      rw [e0] at h1
      obtain ⟨ea, hb⟩ := spot_none h1
      refine ⟨a.block, a.off, by rw [← ea], hb, fun j u hu => ?_⟩
      have hjl : j < len0 * ks.length := by
        have := (List.getElem?_eq_some_iff.1 hu).1
        rw [flat_len cells ks.length hcl, hzl] at this; exact this
      have hk1 : j / ks.length < len0 := (Nat.div_lt_iff_lt_mul hpos).2 hjl
      have hk2 : j % ks.length < ks.length := Nat.mod_lt _ hpos
      have hjj : j / ks.length * ks.length + j % ks.length = j := by rw [Nat.mul_comm]; exact Nat.div_add_mod j ks.length
      have hx := List.getElem?_eq_getElem (l := xs) (i := j / ks.length) (by omega)
      have hg := flat_get cells ks.length hcl xs _ _ _ hx hk2
      rw [hjj] at hg
      have h2 := (hz _ _ hx).1 _ u (hg.symm.trans hu)
      have e2 : (a.add (j / ks.length * ks.length)).add (j % ks.length) = ⟨a.block, a.off + j, none⟩ := by
        rw [Go.Deep.add_add, hjj]
        exact (congrArg (fun q => Addr.add q j) ea).trans (add_plain _ _ _)
      rw [← e2]; exact h2
    · obtain ⟨i, hil, hi'⟩ := List.getElem_of_mem hzm
      exact (hz i z (by rw [List.getElem?_eq_getElem hil, hi'])).2
end
end Go.Proofs.YtmnmaibhjhhakaaGreatDoor
