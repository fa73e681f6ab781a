/-
  The keys of the program's map, sorted, are the names of the store. No condition.
-/
import Derived.Test.YtjloonjkplaplaaDoorNamesS
import Derived.Sort.KeysCollected
namespace Go.Proofs.YtjloonjkplaplaaDoor
open Go.ChangeShapes Go.WideShapes Go.ChangeAt Go.RowKit Go.Maps Go.Sort

def ofBytes (l : List UInt8) : ByteArray := ⟨l.toArray⟩
theorem ofBytes_inj {a b : List UInt8} (h : ofBytes a = ofBytes b) : a = b := by
  have := congrArg (fun x : ByteArray => x.data.toList) h
  simpa [ofBytes] using this
theorem ofBytes_toList (s : ByteArray) : ofBytes s.data.toList = s := by cases s; simp [ofBytes]
theorem ascS_of : ∀ {l : List ByteArray}, l.Pairwise (fun a b => ltS a b = true) → AscS none l
  | [], _ => trivial
  | x :: l, h => by
    rw [List.pairwise_cons] at h
    refine ⟨rfl, ?_⟩
    have key : ∀ (l : List ByteArray) (x : ByteArray), (∀ y ∈ l, ltS x y = true) → l.Pairwise (fun a b => ltS a b = true) → AscS (some x) l := by
      intro l
      induction l with
      | nil => intro _ _ _; trivial
      | cons y l ih =>
        intro x hx hp
        rw [List.pairwise_cons] at hp
        exact ⟨hx y (by simp), ih y hp.1 hp.2⟩
    exact key l x h.1 h.2
theorem sorted_asc {ss : List (List UInt8)} (hn : ss.Nodup) : AscS none ((ss.mergeSort (fun x y => decide (x ≤ y))).map ofBytes) := by
  refine ascS_of ?_
  rw [List.pairwise_map]
  have hs : (ss.mergeSort (fun x y => decide (x ≤ y))).Pairwise (fun a b => decide (a ≤ b) = true) :=
    List.pairwise_mergeSort (fun a b c h1 h2 => by simp only [decide_eq_true_eq] at *; exact List.le_trans h1 h2) (fun a b => by simp only [Bool.or_eq_true, decide_eq_true_eq]; exact List.le_total a b) ss
  have hd : (ss.mergeSort (fun x y => decide (x ≤ y))).Nodup := (List.mergeSort_perm ss _).nodup_iff.2 hn
  refine (hs.and hd).imp (fun {a b} h => ?_)
  obtain ⟨h1, h2⟩ := h
  simp only [decide_eq_true_eq] at h1
  have ht : ∀ l : List UInt8, (ofBytes l).toList = l := fun l => by rw [ByteArray.toList_eq]; simp [ofBytes]
  have hf : ltS (ofBytes b) (ofBytes a) = false := by
    rw [Bool.eq_false_iff]
    intro g
    rw [ltS_iff, ht, ht] at g
    exact absurd g (List.not_lt.2 h1)
  cases e : ltS (ofBytes a) (ofBytes b)
  · exact absurd (ofBytes_inj (ltS_tri e hf)) h2
  · rfl

theorem evOf_any {s : ByteArray} {xs : List EnT} : evOf s xs ≠ [] ↔ s ∈ xs.map (·.1) := by
  constructor
  · intro h
    obtain ⟨e, he⟩ := List.exists_mem_of_ne_nil _ h
    exact List.mem_map.2 ⟨_, evOf_mem he, rfl⟩
  · intro h e
    obtain ⟨x, hx, rfl⟩ := List.mem_map.1 h
    have : x.2 ∈ evOf x.1 xs := by
      unfold evOf
      exact List.mem_map.2 ⟨x, List.mem_filter.2 ⟨hx, by simp⟩, rfl⟩
    rw [e] at this
    cases this
/-- The map's keys, sorted, are the names. -/
theorem keys_names {w : World} {b : Nat} {xs : List EnT} {D : DataW Unit} {V : ByteArray → Value} (h : Streams w b xs D V) {ss : List (List UInt8)} (hS : ss.Perm (strKeys D)) :
    (ss.mergeSort (fun x y => decide (x ≤ y))).map ofBytes = namesOf (xs.map (·.1)) := by
  obtain ⟨hasc, hmem⟩ := namesOf_asc (xs.map (·.1))
  have hnd : ss.Nodup ∧ ∀ x, x ∈ ss ↔ has D (.string x) = true := by
    obtain ⟨es, hD, hpw, _⟩ := h.owns.entries keyed
    obtain ⟨es', hD', hko⟩ := h.owns.keysOf
    obtain rfl : es = es' := by rw [hD] at hD'; simpa using hD'
    subst hD
    have hk : ∀ p ∈ es, ∃ x, p.1 = .string x := fun p hp => by
      obtain ⟨v, hv⟩ := hko p hp
      obtain ⟨x, _, hx, _⟩ := Maps.keyOf_str Tryd.underlying9 hv
      exact ⟨x, hx⟩
    refine ⟨hS.nodup_iff.2 ?_, fun x => ?_⟩
    · show (es.map fun p => strOf p.1).Nodup
      refine List.pairwise_map.2 (hpw.imp_of_mem fun {p q} hp' hq' hne e => hne ?_)
      obtain ⟨a, ha⟩ := hk p hp'
      obtain ⟨c, hc⟩ := hk q hq'
      rw [ha, hc] at e ⊢
      exact congrArg _ e
    · rw [hS.mem_iff, has_eq, List.any_eq_true]
      show x ∈ es.map (fun p => strOf p.1) ↔ _
      rw [List.mem_map]
      constructor
      · rintro ⟨p, hp', rfl⟩
        obtain ⟨a, ha⟩ := hk p hp'
        exact ⟨p, hp', by rw [ha]; simp [Lit.sameKey, strOf]⟩
      · rintro ⟨p, hp', hs⟩
        obtain ⟨a, ha⟩ := hk p hp'
        rw [ha] at hs
        exact ⟨p, hp', by rw [ha]; simpa [Lit.sameKey, strOf] using hs⟩
  refine ascS_ext (sorted_asc hnd.1) hasc (fun t => ?_)
  rw [hmem t, ← evOf_any]
  constructor
  · intro ht
    obtain ⟨l, hl, rfl⟩ := List.mem_map.1 ht
    have h1 : l ∈ ss := (List.mergeSort_perm ss _).mem_iff.1 hl
    refine h.keys (ofBytes l) ?_
    have : keyL (ofBytes l) = .string l := by unfold keyL ofBytes; simp
    rw [this]
    exact (hnd.2 l).1 h1
  · intro ht
    have h1 := h.has ht
    refine List.mem_map.2 ⟨t.data.toList, (List.mergeSort_perm ss _).mem_iff.2 ((hnd.2 _).2 h1), ofBytes_toList t⟩
end Go.Proofs.YtjloonjkplaplaaDoor
