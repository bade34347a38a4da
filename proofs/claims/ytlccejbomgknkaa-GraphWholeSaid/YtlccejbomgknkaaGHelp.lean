/- Small contracts in plain words: Contains, Equal, Clone, Below, Above, Way. -/
import Derived.Test.YtlccejbomgknkaaGOrder
import Derived.Test.YtlccejbomgknkaaGBelow
import Derived.Test.YtlccejbomgknkaaGLink
import Derived.Test.YtlccejbomgknkaaShelf
import Derived.Test.YtlccejbomgknkaaPGraphWaysx7
namespace Go.Proofs.Ytlccejbomgknkaa
set_option linter.unusedVariables false
set_option linter.unusedSimpArgs false
open Go.RowKit Go.Maps Go.Proofs.YtlccejbomgknkaaW.PrintWords Go.Proofs.YtlccejbomgknkaaW.PrintLast

theorem C_form {w : World} {A : Option Addr} {xs : List ByteArray} (h : Kd.C Kd.string w A xs.length xs) (hn : 0 < xs.length) :
    ∃ b off, A = some ⟨b, off, none⟩ ∧ ∀ j, j < xs.length → w.cell? ⟨b, off + j, none⟩ = some (.string (xs.getD j ByteArray.empty)) := by
  obtain ⟨ad, hA, h0⟩ := Kd.at_string h (0 : Int) (by omega) (by omega)
  have hs := World.cell?_spot h0
  obtain ⟨b, off, sp⟩ := ad
  have hs' : sp = none := hs
  subst hs'
  refine ⟨b, off, hA, fun j hj => ?_⟩
  obtain ⟨ad', hA', hc⟩ := Kd.at_string h (j : Int) (by omega) (by omega)
  rw [hA] at hA'
  injection hA' with hA'
  subst hA'
  rw [Addr.add_lit] at hc
  simp only [Int.toNat_natCast] at hc
  exact hc

theorem C_empty (w : World) (A : Option Addr) : Kd.C Kd.string w A 0 [] := ⟨rfl, by omega, fun h => absurd h (by omega)⟩
theorem kE_empty (w : World) (A : Option Addr) : Kd.C kE w A 0 [] := ⟨rfl, by omega, fun h => absurd h (by omega)⟩

theorem Contains_any {w : World} (A : Option Addr) (c : Nat) (l : List ByteArray) (x : ByteArray) (h : Kd.C Kd.string w A l.length l) :
    Calls Try.prog 21 #[.slice A l.length c, .string x] w fun e w' => e = .returned (.bool (Lib.containsS l x)) ∧ w' = w := by
  by_cases hn : 0 < l.length
  · obtain ⟨b, off, rfl, hc⟩ := C_form h hn
    refine (Try.slices_Contains_string b off l.length c l x w (Nat.le_refl _) h.2.1 hc).mono ?_
    rintro e w' ⟨rfl, rfl⟩
    exact ⟨by rw [List.take_length], rfl⟩
  · have h0 : l = [] := List.eq_nil_of_length_eq_zero (by omega)
    subst h0
    refine (Try.slices_Contains_string_empty A c x w).mono ?_
    rintro e w' ⟨rfl, rfl⟩
    exact ⟨by rw [show Lib.containsS [] x = false from by rw [Bool.eq_false_iff, ne_eq, Lib.containsS_iff]; simp], rfl⟩

theorem Equal_any {w : World} (A1 A2 : Option Addr) (c1 c2 : Nat) (xs ys : List ByteArray) (h1 : Kd.C Kd.string w A1 xs.length xs) (h2 : Kd.C Kd.string w A2 ys.length ys) :
    Calls Try.prog 14 #[.slice A1 xs.length c1, .slice A2 ys.length c2] w fun e w' => e = .returned (.bool (decide (xs = ys))) ∧ ∃ q, w' = w.drewN q := by
  by_cases hl : xs.length = ys.length
  · by_cases hn : 0 < xs.length
    · obtain ⟨b, off, rfl, hc⟩ := C_form h1 hn
      obtain ⟨b2, off2, rfl, hc2⟩ := C_form h2 (by omega)
      refine (Try.slices_Equal_string b off xs.length c1 b2 off2 ys.length c2 xs ys w (Nat.le_refl _) (Nat.le_refl _) h1.2.1 h2.2.1 hc hc2).mono ?_
      rintro e w' ⟨rfl, q, rfl⟩
      exact ⟨by rw [List.take_length, List.take_length], q, rfl⟩
    · have h0 : xs = [] := List.eq_nil_of_length_eq_zero (by omega)
      subst h0
      have h0 : ys = [] := List.eq_nil_of_length_eq_zero (by rw [← hl]; rfl)
      subst h0
      refine (Try.slices_Equal_string_empty A1 A2 c1 0 c2 w (by omega)).mono ?_
      rintro e w' ⟨rfl, rfl⟩
      exact ⟨by simp, 0, rfl⟩
  · refine (Try.slices_Equal_string_lens A1 A2 xs.length c1 ys.length c2 w hl).mono ?_
    rintro e w' ⟨rfl, rfl⟩
    refine ⟨?_, 0, rfl⟩
    have : xs ≠ ys := fun e => hl (by rw [e])
    simp [this]

theorem Clone_any {w : World} (A : Option Addr) (c : Nat) (l : List ByteArray) (h : Kd.C Kd.string w A l.length l) (hl : l.length ≤ 1000000) :
    Calls Try.prog 16 #[.slice A l.length c] w fun e w' => ∃ (A' : Option Addr) (c' : Nat), e = .returned (.slice A' l.length c') ∧ Kd.C Kd.string w' A' l.length l ∧ Below w.heap.size w w' := by
  by_cases hn : 0 < l.length
  · obtain ⟨b, off, rfl, hc⟩ := C_form h hn
    refine (Try.slices_Clone_string b off l.length c l w (Nat.le_refl _) (by omega) hc).mono ?_
    rintro e w' ⟨v', rfl, hown, _, hb⟩
    rw [List.take_length] at hown
    have hR : Kd.R Kd.string 9 w' w.heap.size (fun _ => True) v' l := Kd.R_of_own (enc := Value.string) (h1 := fun _ => rfl) hown (fun _ _ => trivial)
    obtain ⟨A', c', rfl⟩ := Kd.R_slice hR
    exact ⟨A', c', rfl, (Kd.R_reads' hR).2.2, hb⟩
  · have h0 : l = [] := List.eq_nil_of_length_eq_zero (by omega)
    subst h0
    cases A with
    | none =>
      refine (Try.slices_Clone_string_nil 0 c w).mono ?_
      rintro e w' ⟨rfl, rfl⟩
      exact ⟨none, 0, rfl, C_empty _ _, Below.refl _ _⟩
    | some a =>
      refine (Try.slices_Clone_string_zero a c w).mono ?_
      rintro e w' ⟨v', rfl, hown, _, hb⟩
      have hR : Kd.R Kd.string 9 w' w.heap.size (fun _ => True) v' [] := Kd.R_of_own (enc := Value.string) (h1 := fun _ => rfl) hown (fun _ _ => trivial)
      obtain ⟨A', c', rfl⟩ := Kd.R_slice hR
      exact ⟨A', c', rfl, (Kd.R_reads' hR).2.2, hb⟩

theorem pair_form {w : World} {A : Option Addr} {l : List (ByteArray × ByteArray)} (h : Kd.C kE w A l.length l) (hn : 0 < l.length) :
    ∃ b off, A = some ⟨b, off, none⟩ ∧ ∀ j p, l[j]? = some p → w.cell? ⟨b, off + j * 2, none⟩ = some (.string p.1) ∧ w.cell? ⟨b, off + j * 2 + 1, none⟩ = some (.string p.2) := by
  obtain ⟨ad, p0, _, hA, h0, _⟩ := at_pair h 0 hn
  have hs := World.cell?_spot h0
  obtain ⟨b, off, sp⟩ := ad
  have hs' : sp = none := hs
  subst hs'
  refine ⟨b, off, hA, fun j p hj => ?_⟩
  have hjl := (List.getElem?_eq_some_iff.1 hj).1
  obtain ⟨ad', p', hp', hA', hc1, hc2⟩ := at_pair h j hjl
  rw [hA] at hA'
  injection hA' with hA'
  subst hA'
  rw [hj] at hp'
  injection hp' with hp'
  subst hp'
  rw [Addr.add_lit] at hc1 hc2
  exact ⟨hc1, hc2⟩

theorem pair_back {w : World} {b off : Nat} {l : List (ByteArray × ByteArray)} (hl : l.length ≤ 1000000) (h : ∀ j p, l[j]? = some p → w.cell? ⟨b, off + j * 2, none⟩ = some (.string p.1) ∧ w.cell? ⟨b, off + j * 2 + 1, none⟩ = some (.string p.2)) :
    Kd.C kE w (some ⟨b, off, none⟩) l.length l := by
  refine ⟨rfl, by omega, fun _ => ⟨_, rfl, fun j p hj => ⟨[.string p.1, .string p.2], rfl, ⟨[.string p.1], [.string p.2], rfl, rfl, rfl⟩, fun i u hu => ?_⟩⟩⟩
  obtain ⟨h1, h2⟩ := h j p hj
  match i, hu with
  | 0, hu => injection hu with hu; rw [← hu, Addr.add_lit]; exact h1
  | 1, hu => injection hu with hu; rw [← hu, Addr.add_lit]; exact h2

theorem infoE : (Try.prog.info? 45).map (fun i => (i.zero, i.size, i.bytes)) = some (some (.agg #[(.string ⟨#[]⟩), (.string ⟨#[]⟩)]), 2, 32) := by kernel_rfl

/-- The cells of a row of pairs. -/
def flat2 (l : List (ByteArray × ByteArray)) : List Value := l.flatMap (fun p => [.string p.1, .string p.2])
theorem flat2_len (l : List (ByteArray × ByteArray)) : (flat2 l).length = l.length * 2 := by
  induction l with
  | nil => rfl
  | cons p l ih => simp only [flat2, List.flatMap_cons, List.length_append, List.length_cons, List.length_nil] at ih ⊢; omega
theorem flat2_get : ∀ (l : List (ByteArray × ByteArray)) (j : Nat) (u : Value), (flat2 l)[j]? = some u → ∃ i p, l[i]? = some p ∧ ((j = i * 2 ∧ u = .string p.1) ∨ (j = i * 2 + 1 ∧ u = .string p.2))
  | [], j, u, h => by simp [flat2] at h
  | p :: l, 0, u, h => ⟨0, p, rfl, .inl ⟨rfl, by simp [flat2] at h; exact h.symm⟩⟩
  | p :: l, 1, u, h => ⟨0, p, rfl, .inr ⟨rfl, by simp [flat2] at h; exact h.symm⟩⟩
  | p :: l, j + 2, u, h => by
    have h' : (flat2 l)[j]? = some u := by simpa [flat2] using h
    obtain ⟨i, q, hq, hh⟩ := flat2_get l j u h'
    refine ⟨i + 1, q, by simpa using hq, ?_⟩
    rcases hh with ⟨e, hu⟩ | ⟨e, hu⟩
    · exact .inl ⟨by omega, hu⟩
    · exact .inr ⟨by omega, hu⟩
theorem flat2_at : ∀ (l : List (ByteArray × ByteArray)) (i : Nat) (p : ByteArray × ByteArray), l[i]? = some p → (flat2 l)[i * 2]? = some (.string p.1) ∧ (flat2 l)[i * 2 + 1]? = some (.string p.2)
  | [], i, p, h => by simp at h
  | q :: l, 0, p, h => by simp at h; subst h; simp [flat2]
  | q :: l, i + 1, p, h => by
    have := flat2_at l i p (by simpa using h)
    rw [show (i + 1) * 2 = i * 2 + 2 from by omega, show i * 2 + 2 + 1 = (i * 2 + 1) + 2 from by omega]
    simpa [flat2] using this
end Go.Proofs.Ytlccejbomgknkaa
