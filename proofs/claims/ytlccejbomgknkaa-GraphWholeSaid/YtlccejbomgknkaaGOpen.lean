/- What comes in, opened: rows of pairs, rows of texts. -/
import Derived.Test.YtlccejbomgknkaaGPath
import Derived.SliceStrings
import Derived.Deep.SlicePairs
namespace Go.Proofs.Ytlccejbomgknkaa
set_option linter.unusedVariables false
set_option linter.unusedSimpArgs false
open Go.RowKit Go.Maps Go.Proofs.YtlccejbomgknkaaW.PrintWords Go.Proofs.YtlccejbomgknkaaW.PrintLast
open Go.ChangeShapes Go.WideShapes

theorem pairs_of {w : World} {a : Addr} {n : Nat} (hn : n ≤ 9223372036854775807) (h : ∀ i, i < n → ∃ s t : ByteArray, w.cell? (a.add (i * 2)) = some (.string s) ∧ w.cell? (a.add (i * 2 + 1)) = some (.string t) ∧ s.size ≤ maxLen ∧ t.size ≤ maxLen) :
    ∃ l : List (ByteArray × ByteArray), n = l.length ∧ Kd.C kE w (some a) l.length l ∧ ∀ e ∈ l, e.1.size ≤ maxLen ∧ e.2.size ≤ maxLen := by
  have h' : ∀ i, ∃ p : ByteArray × ByteArray, i < n → w.cell? (a.add (i * 2)) = some (.string p.1) ∧ w.cell? (a.add (i * 2 + 1)) = some (.string p.2) ∧ p.1.size ≤ maxLen ∧ p.2.size ≤ maxLen := by
    intro i
    by_cases hi : i < n
    · obtain ⟨s, t, h1⟩ := h i hi
      exact ⟨(s, t), fun _ => h1⟩
    · exact ⟨(ByteArray.empty, ByteArray.empty), fun h => absurd h hi⟩
  obtain ⟨F, hF⟩ := Classical.axiomOfChoice h'
  have hlen : ((List.range n).map F).length = n := by simp
  refine ⟨(List.range n).map F, hlen.symm, ⟨rfl, by rw [hlen]; exact hn, fun _ => ⟨a, rfl, fun j p hj => ?_⟩⟩, fun e he => ?_⟩
  · rw [List.getElem?_map] at hj
    obtain ⟨j', hj', rfl⟩ := Option.map_eq_some_iff.1 hj
    have hjn : j < n := by have := (List.getElem?_eq_some_iff.1 hj').1; simpa using this
    rw [List.getElem?_range hjn] at hj'
    injection hj' with hj'
    subst hj'
    obtain ⟨c1, c2, _, _⟩ := hF j hjn
    refine ⟨[.string (F j).1, .string (F j).2], rfl, ⟨[.string (F j).1], [.string (F j).2], rfl, rfl, rfl⟩, fun i u hu => ?_⟩
    match i, hu with
    | 0, hu => injection hu with hu; rw [← hu]; exact c1
    | 1, hu => injection hu with hu; rw [← hu]; exact c2
  · obtain ⟨j, hj, rfl⟩ := List.mem_map.1 he
    exact (hF j (List.mem_range.1 hj)).2.2

theorem texts_of {w : World} {a : Addr} {n : Nat} {ss : List ByteArray} (hn : n ≤ 9223372036854775807) (hl : n ≤ ss.length) (hc : ∀ i, i < ss.length → w.cell? (a.add i) = some (.string (ss.getD i ByteArray.empty))) (hs : ∀ s ∈ ss, s.size ≤ maxLen) :
    ∃ l : List ByteArray, n = l.length ∧ Kd.C Kd.string w (some a) l.length l ∧ ∀ x ∈ l, x.size ≤ maxLen := by
  have hlen : (ss.take n).length = n := by rw [List.length_take]; omega
  refine ⟨ss.take n, hlen.symm, ⟨rfl, by rw [hlen]; exact hn, fun _ => ⟨a, rfl, fun j p hj => ?_⟩⟩, fun x hx => hs x (List.mem_of_mem_take hx)⟩
  rw [List.getElem?_take] at hj
  split at hj
  · have hjl := (List.getElem?_eq_some_iff.1 hj).1
    refine ⟨[.string p], rfl, rfl, fun i u hu => ?_⟩
    have hi0 : i = 0 := by have := (List.getElem?_eq_some_iff.1 hu).1; simpa using this
    subst hi0
    simp only [List.getElem?_cons_zero, Option.some.injEq] at hu
    subst hu
    have := hc j hjl
    rw [List.getD_eq_getElem?_getD, hj] at this
    simpa [show Kd.string.sz = 1 from rfl] using this
  · cases hj

section
variable {H : Type} {enc : TypeId × Value → H} {W : World} {A : Option Addr} {n c : Nat} {d : DataW H} {p : List MemPlace}
theorem edges_in (h : DataW.Trod enc Try.prog W 0 (fun _ => true) true 22 (.slice A n c) d p) : ∃ l : List (ByteArray × ByteArray), n = l.length ∧ Kd.C kE W A l.length l ∧ ∀ e ∈ l, e.1.size ≤ maxLen ∧ e.2.size ≤ maxLen := by
  obtain ⟨fuel, hf⟩ := h
  rcases Go.Deep.open_slice_pairs Try.underlying22 Try.underlying45 (by kernel_rfl) rfl rfl (by kernel_rfl) (by kernel_rfl) hf with ⟨hcs, _⟩ | ⟨x, l, k, m, q, V0, V1, D0, D1, P0, P1, hcs, _, hl, hm, hmm, _, hx⟩
  · simp [Value.cells] at hcs
    obtain ⟨rfl, rfl, rfl⟩ := hcs
    exact ⟨[], rfl, kE_empty _ _, by simp⟩
  · simp [Value.cells] at hcs
    obtain ⟨rfl, rfl, rfl⟩ := hcs
    simp only [if_true] at hmm
    refine pairs_of (by unfold maxLen at hm; omega) fun i hi => ?_
    obtain ⟨h1, h2, h3, h4⟩ := hx i (by omega)
    obtain ⟨s, e1, _, s1⟩ := DataW.trod_string Try.underlying9 h3
    obtain ⟨t, e2, _, s2⟩ := DataW.trod_string Try.underlying9 h4
    injection e1 with e1
    injection e2 with e2
    exact ⟨s, t, by rw [h1, e1], by rw [h2, e2], s1, s2⟩
theorem texts_in (h : DataW.Trod enc Try.prog W 0 (fun _ => true) true 23 (.slice A n c) d p) : ∃ l : List ByteArray, n = l.length ∧ Kd.C Kd.string W A l.length l ∧ ∀ x ∈ l, x.size ≤ maxLen := by
  obtain ⟨fuel, hf⟩ := h
  rcases open_strings Try.underlying23 Try.underlying9 (by kernel_rfl) hf with ⟨hcs, _⟩ | ⟨x, l, k, ss, hcs, _, hl, hm, hz, _, hcell, hsz⟩
  · simp [Value.cells] at hcs
    obtain ⟨rfl, rfl, rfl⟩ := hcs
    exact ⟨[], rfl, C_empty _ _, by simp⟩
  · simp [Value.cells] at hcs
    obtain ⟨rfl, rfl, rfl⟩ := hcs
    simp only [if_true] at hz
    exact texts_of (by unfold maxLen at hm; omega) (by omega) hcell hsz
end
end Go.Proofs.Ytlccejbomgknkaa
