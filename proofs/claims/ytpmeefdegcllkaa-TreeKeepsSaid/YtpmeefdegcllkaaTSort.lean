/- A row of the call's own: sorted. -/
import Derived.Test.YtpmeefdegcllkaaTOwn
import Derived.Test.YtpmeefdegcllkaaShelf
import Derived.Sort.OwnSorted
namespace Go.Proofs.Ytpmeefdegcllkaa
set_option linter.unusedVariables false
set_option linter.unusedSimpArgs false
open Go.RowKit Go.Maps Go.Proofs.YtpmeefdegcllkaaW.PrintWords Go.Proofs.YtpmeefdegcllkaaW.PrintLast
open Go.Sort

theorem bs_back (s : ByteArray) : (⟨(bs s).toArray⟩ : ByteArray) = s := by
  cases s
  simp [bs]
theorem encStr_bs (s : ByteArray) : encStr (bs s) = Value.string s := by
  show Value.string ⟨(bs s).toArray⟩ = _
  rw [bs_back]

theorem Sort_own {w : World} {base : Nat} (A : Option Addr) (c : Nat) (xs : List ByteArray) (h : OwnS w base A c xs) (hl : xs.length ≤ 1000000) (hn : xs.Nodup) :
    Calls Try.prog 20 #[.slice A xs.length c] w fun e w' => e = .returned (.tuple #[]) ∧ ∃ r, Rise r ∧ (∀ x, x ∈ r ↔ x ∈ xs) ∧ r.length = xs.length ∧ OwnS w' base A c r ∧ Below base w w' := by
  by_cases hp : xs.length = 0
  · have h0 : xs = [] := List.eq_nil_of_length_eq_zero hp
    subst h0
    refine (Try.slices_Sort_string_none A c w).mono ?_
    rintro e w' ⟨rfl, rfl⟩
    exact ⟨rfl, [], List.Pairwise.nil, fun x => Iff.rfl, rfl, h, Below.refl _ _⟩
  · have hown : w.ownsRow base 9 1 (.slice A xs.length c) xs.length (encs Value.string xs) := h
    rcases hown.2 with ⟨_, h0⟩ | ⟨g, cap, cur, e0, hbase, hb, h1, h2, h3, h4⟩
    · exact absurd h0 hp
    · injection e0 with e1 e2 e3
      subst e1
      subst e3
      have hlen : (xs.map bs).length = xs.length := by simp
      have htk : cur.toList.take (xs.map bs).length = (xs.map bs).map encStr := by
        rw [hlen, List.map_map]
        rw [Nat.mul_one] at h4
        rw [h4]
        unfold encs
        refine List.map_congr_left fun s _ => ?_
        exact (encStr_bs s).symm
      have hS := Try.slices_Sort_string g 0 c (xs.map bs) w (holds_of_block hb htk) (Array.getElem?_eq_some_iff.1 hb).1 (by rw [hlen]; omega)
      rw [hlen] at hS
      refine hS.mono ?_
      rintro e w' ⟨rfl, n, os, rfl⟩
      have hms : ((xs.map bs).mergeSort (fun x y => decide (x ≤ y))).length = (xs.map bs).length := by simp
      have hrow := ownsRow_sorted (w := w) (n := n) (os := os) hms hbase hb (by rw [hlen]; exact h1) h2 h3
      rw [hlen] at hrow
      have hnb : (xs.map bs).Nodup := List.Pairwise.map bs (fun a b hab e => hab (bs_inj e)) hn
      refine ⟨rfl, ((xs.map bs).mergeSort (fun x y => decide (x ≤ y))).map (fun x => (⟨x.toArray⟩ : ByteArray)), rise_of_sort hnb, fun x => ?_, by simp, ?_, ?_⟩
      · rw [List.mem_map]
        constructor
        · rintro ⟨b, hb', rfl⟩
          obtain ⟨s, hs, rfl⟩ := List.mem_map.1 (List.mem_mergeSort.1 hb')
          rw [bs_back]; exact hs
        · intro hx
          exact ⟨bs x, List.mem_mergeSort.2 (List.mem_map.2 ⟨x, hx, rfl⟩), bs_back x⟩
      · have hlr : (((xs.map bs).mergeSort (fun x y => decide (x ≤ y))).map (fun x => (⟨x.toArray⟩ : ByteArray))).length = xs.length := by simp
        unfold OwnS
        rw [hlr]
        have he : encs Value.string (((xs.map bs).mergeSort (fun x y => decide (x ≤ y))).map (fun x => (⟨x.toArray⟩ : ByteArray))) = ((xs.map bs).mergeSort (fun x y => decide (x ≤ y))).map encStr := by
          unfold encs
          rw [List.map_map]
          rfl
        rw [he]
        exact hrow
      · have hg := grownBy_sorted (w := w) (g := g) (n := n) (os := os) ((xs.map bs).mergeSort (fun x y => decide (x ≤ y))).toArray
        exact (Below.refl base w).grown hg (by have := (Array.getElem?_eq_some_iff.1 hb).1; omega) (fun k e => by injection e with e; omega)
end Go.Proofs.Ytpmeefdegcllkaa
