/- Rising lists of texts. -/
import Derived.Test.YtpmeefdegcllkaaTBase
import Derived.Test.YtpmeefdegcllkaaWWords
namespace Go.Proofs.Ytpmeefdegcllkaa
open Go.RowKit Go.Maps Go.Proofs.YtpmeefdegcllkaaW.PrintWords

def bs (s : ByteArray) : List UInt8 := s.data.toList
theorem bs_inj {a b : ByteArray} (h : bs a = bs b) : a = b := Go.WideShapes.bytes_inj h
/-- Texts in rising order, each once. -/
def Rise (r : List ByteArray) : Prop := r.Pairwise (fun a b => bs a < bs b)

theorem rise_nodup {r : List ByteArray} (h : Rise r) : r.Nodup := by
  refine List.Pairwise.imp ?_ h
  intro a b hab e
  rw [e] at hab
  exact List.lt_irrefl _ hab

theorem rise_ext {r s : List ByteArray} (hr : Rise r) (hs : Rise s) (h : ∀ x, x ∈ r ↔ x ∈ s) : r = s := by
  have hp : r.Perm s := (List.perm_ext_iff_of_nodup (rise_nodup hr) (rise_nodup hs)).2 h
  refine hp.eq_of_pairwise (le := fun a b => bs a < bs b) ?_ hr hs
  intro a b _ _ h1 h2
  exact absurd (List.lt_trans h1 h2) (List.lt_irrefl _)

theorem nodup_len {α : Type} : ∀ {s N : List α}, s.Nodup → (∀ x, x ∈ s → x ∈ N) → s.length ≤ N.length
  | [], N, _, _ => by simp
  | a :: t, N, hn, hs => by
    rw [List.nodup_cons] at hn
    obtain ⟨l1, l2, rfl⟩ := List.append_of_mem (hs a (by simp))
    have := nodup_len (N := l1 ++ l2) hn.2 (fun x hx => by
      have h1 := hs x (by simp [hx])
      simp only [List.mem_append, List.mem_cons] at h1 ⊢
      rcases h1 with h1 | rfl | h1
      · exact .inl h1
      · exact absurd hx hn.1
      · exact .inr h1)
    simp only [List.length_append, List.length_cons] at this ⊢
    omega
/-- The sorted list of different texts rises. -/
theorem rise_of_sort {ss : List (List UInt8)} (hn : ss.Nodup) : Rise ((ss.mergeSort (fun x y => decide (x ≤ y))).map (fun x => (⟨x.toArray⟩ : ByteArray))) := by
  have hp : (ss.mergeSort (fun x y => decide (x ≤ y))).Pairwise (fun a b => decide (a ≤ b) = true) := by
    refine List.pairwise_mergeSort (le := fun x y : List UInt8 => decide (x ≤ y)) ?_ ?_ ss
    · intro a b c h1 h2
      simp only [decide_eq_true_eq] at *
      exact List.le_trans h1 h2
    · intro a b
      simp only [Bool.or_eq_true, decide_eq_true_eq]
      exact List.le_total a b
  have hn' : (ss.mergeSort (fun x y => decide (x ≤ y))).Nodup := (List.mergeSort_perm ss _).nodup_iff.2 hn
  unfold Rise
  rw [List.pairwise_map]
  refine (hp.and hn').imp ?_
  rintro a b ⟨h1, h2⟩
  simp only [decide_eq_true_eq] at h1
  simp only [bs]
  rcases List.le_total b a with h3 | h3
  · exact absurd (List.le_antisymm h1 h3) h2
  · exact Decidable.byContradiction fun hlt => h2 (List.le_antisymm h1 (List.not_lt.1 hlt))
end Go.Proofs.Ytpmeefdegcllkaa
