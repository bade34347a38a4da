/- What comes in, opened: a script (a slice of calls); when it is too long. -/
import Derived.Test.YtpmeefdegcllkaaTWorks
import Derived.Test.YtpmeefdegcllkaaPTreeListsx9
import Derived.Deep.Slices
import Derived.ChangeSame
namespace Go.Proofs.Ytpmeefdegcllkaa
set_option linter.unusedVariables false
set_option linter.unusedSimpArgs false
open Go.RowKit Go.Maps Go.Proofs.YtpmeefdegcllkaaW.PrintWords Go.Proofs.YtpmeefdegcllkaaW.PrintLast
open Go.ChangeShapes Go.WideShapes
open PTreeLists

theorem ops_of {w : World} {a : Addr} {n : Nat} (hn : n ≤ 9223372036854775807) (h : ∀ i, i < n → ∃ p : S28, w.cell? (a.add (i * 4)) = some (.int .i64 p.f0) ∧ w.cell? (a.add (i * 4 + 1)) = some (.string p.f1) ∧ w.cell? (a.add (i * 4 + 2)) = some (.string p.f2) ∧ w.cell? (a.add (i * 4 + 3)) = some (.int .i64 p.f3) ∧ p.f1.size ≤ maxLen ∧ p.f2.size ≤ maxLen) :
    ∃ l : List S28, n = l.length ∧ Kd.C k28 w (some a) l.length l ∧ ∀ e ∈ l, e.f1.size ≤ maxLen ∧ e.f2.size ≤ maxLen := by
  have h' : ∀ i, ∃ p : S28, i < n → w.cell? (a.add (i * 4)) = some (.int .i64 p.f0) ∧ w.cell? (a.add (i * 4 + 1)) = some (.string p.f1) ∧ w.cell? (a.add (i * 4 + 2)) = some (.string p.f2) ∧ w.cell? (a.add (i * 4 + 3)) = some (.int .i64 p.f3) ∧ p.f1.size ≤ maxLen ∧ p.f2.size ≤ maxLen := by
    intro i
    by_cases hi : i < n
    · obtain ⟨p, h1⟩ := h i hi
      exact ⟨p, fun _ => h1⟩
    · exact ⟨z28, fun h => absurd h hi⟩
  obtain ⟨F, hF⟩ := Classical.axiomOfChoice h'
  have hlen : ((List.range n).map F).length = n := by simp
  refine ⟨(List.range n).map F, hlen.symm, ⟨rfl, by rw [hlen]; exact hn, fun _ => ⟨a, rfl, fun j p hj => ?_⟩⟩, fun e he => ?_⟩
  · rw [List.getElem?_map] at hj
    obtain ⟨j', hj', rfl⟩ := Option.map_eq_some_iff.1 hj
    have hjn : j < n := by have := (List.getElem?_eq_some_iff.1 hj').1; simpa using this
    rw [List.getElem?_range hjn] at hj'
    injection hj' with hj'
    subst hj'
    obtain ⟨c1, c2, c3, c4, _, _⟩ := hF j hjn
    refine ⟨_, rfl, k28_mk w (F j), fun i u hu => ?_⟩
    match i, hu with
    | 0, hu => injection hu with hu; rw [← hu]; exact c1
    | 1, hu => injection hu with hu; rw [← hu]; exact c2
    | 2, hu => injection hu with hu; rw [← hu]; exact c3
    | 3, hu => injection hu with hu; rw [← hu]; exact c4
  · obtain ⟨j, hj, rfl⟩ := List.mem_map.1 he
    exact (hF j (List.mem_range.1 hj)).2.2.2.2
theorem kOps_empty (w : World) (A : Option Addr) : Kd.C k28 w A 0 [] := ⟨rfl, by simp, fun h => absurd h (by simp)⟩

section
variable {H : Type} {enc : TypeId × Value → H} {W : World} {A : Option Addr} {n c : Nat} {d : DataW H} {p : List MemPlace}
set_option maxRecDepth 100000 in
theorem ops_in (h : DataW.Trod enc Try.prog W 0 (fun _ => true) true 22 (.slice A n c) d p) : ∃ l : List S28, n = l.length ∧ l.length ≤ c ∧ Kd.C k28 W A l.length l ∧ ∀ e ∈ l, e.f1.size ≤ maxLen ∧ e.f2.size ≤ maxLen := by
  obtain ⟨fuel, hf⟩ := h
  have ce : Try.prog.cellsOf 28 = 4 := by kernel_rfl
  have c3 : Try.prog.cellsOf 3 = 1 := by kernel_rfl
  have c9 : Try.prog.cellsOf 9 = 1 := by kernel_rfl
  rcases Go.Deep.open_slice Try.underlying22 hf with ⟨hcs, _⟩ | ⟨a, len, cap, m, k, D, Pl, hcs, hb, hl, hm, hmm, _, hx⟩
  · simp [Value.cells] at hcs
    obtain ⟨rfl, rfl, rfl⟩ := hcs
    exact ⟨[], rfl, Nat.zero_le _, kOps_empty _ _, by simp⟩
  · simp [Value.cells] at hcs
    obtain ⟨rfl, rfl, rfl⟩ := hcs
    simp only [if_true] at hmm
    have := ops_of (w := W) (a := a) (n := n) (by unfold maxLen at hm; omega) fun i hi => by
      obtain ⟨cs', h1, h2⟩ := hx i (by omega)
      rw [ce] at h1
      obtain ⟨_, hlen, hcell⟩ := World.cells?_some h1
      obtain ⟨xs, k', hk, hxy, _, hxl, hg⟩ := DataW.trod_struct Try.underlying28 h2
      match xs, hxl, cs', hlen with
      | [y0, y1, y2, y3], _, [v0, v1, v2, v3], _ =>
        have g0 := hg 0 _ rfl
        have g1 := hg 1 _ rfl
        have g2 := hg 2 _ rfl
        have g3 := hg 3 _ rfl
        simp [c3, c9] at g0 g1 g2 g3
        obtain ⟨q0, e0, _, _⟩ := DataW.trod_int Try.underlying3 g0
        obtain ⟨s1, e1, _, z1⟩ := DataW.trod_string Try.underlying9 g1
        obtain ⟨s2, e2, _, z2⟩ := DataW.trod_string Try.underlying9 g2
        obtain ⟨q3, e3, _, _⟩ := DataW.trod_int Try.underlying3 g3
        have d0 := hcell 0 (by omega)
        have d1 := hcell 1 (by omega)
        have d2 := hcell 2 (by omega)
        have d3 := hcell 3 (by omega)
        rw [Go.Deep.add_add] at d0 d1 d2 d3
        injection e0 with e0
        injection e1 with e1
        injection e2 with e2
        injection e3 with e3
        subst e0
        subst e1
        subst e2
        subst e3
        exact ⟨⟨q0, s1, s2, q3⟩, by simpa using d0, by simpa using d1, by simpa using d2, by simpa using d3, z1, z2⟩
    obtain ⟨l, rfl, h2, h3⟩ := this
    exact ⟨l, rfl, hl, h2, h3⟩
end

/-! ### long -/
theorem long_l0 (l : List S28) (hl : l.length ≤ 9223372036854775807) : ∀ (m i : Nat) (n : Int), l.length ≤ i + m → i ≤ l.length → ∃ k r, brickyardlaw10_long.l0 k l n (i : Int) = some r := by
  have hend : ∀ (i : Nat) (n : Int), ¬ ((i : Int) < (l.length : Int) ∧ n < 1048576) → ∃ k r, brickyardlaw10_long.l0 k l n (i : Int) = some r := by
    intro i n h
    have h0 : ∃ r, (if n ≥ 1048576 then (some true) else (some (decide ((l.length : Int) > 2000)))) = some r := by
      split
      · exact ⟨_, rfl⟩
      · exact ⟨_, rfl⟩
    obtain ⟨r, hr⟩ := h0
    refine ⟨1, r, ?_⟩
    simp only [brickyardlaw10_long.l0]
    by_cases h1 : (i : Int) < (l.length : Int)
    · rw [if_pos h1, if_neg (by omega)]
      exact hr
    · rw [if_neg h1]
      exact hr
  intro m
  induction m with
  | zero => intro i n h1 h2; exact hend i n (by omega)
  | succ m ih =>
    intro i n h1 h2
    by_cases h : (i : Int) < (l.length : Int) ∧ n < 1048576
    · obtain ⟨k, r, hk⟩ := ih (i + 1) (wrap64 (n + (wrap64 ((wrap64 ((((rd_T28 l (i : Int)).f1).size : Int) + (((rd_T28 l (i : Int)).f2).size : Int))) + 1)))) (by omega) (by omega)
      refine ⟨k + 1, r, ?_⟩
      simp only [brickyardlaw10_long.l0]
      rw [if_pos h.1, if_pos h.2, if_pos (by omega), ← hk]
      congr 1
      unfold wrap64
      omega
    · exact hend i n h
theorem long_any {w : World} {A : Option Addr} {c : Nat} {l : List S28} (hC : Kd.C k28 w A l.length l) (hc : l.length ≤ c) :
    ∃ r : Bool, Calls Try.prog 6 #[.slice A l.length c] w fun e w' => e = .returned (.bool r) ∧ Below w.heap.size w w' := by
  obtain ⟨k, r, hk⟩ := long_l0 l hC.2.1 l.length 0 0 (by omega) (by omega)
  refine ⟨r, (brickyardlaw10_long.calls k A c l r w hC hc hk).mono ?_⟩
  rintro e w' ⟨rfl, hd⟩
  exact ⟨rfl, hd.below⟩
theorem texts_l0 (a : List ByteArray) (ha : a.length ≤ 1000000) : ∀ (m i : Nat), a.length ≤ i + m → i ≤ a.length → ∃ k, brickyardlaw10_texts.l0 k a a (i : Int) = some true := by
  intro m
  induction m with
  | zero =>
    intro i h1 h2
    refine ⟨1, ?_⟩
    simp only [brickyardlaw10_texts.l0]
    rw [if_neg (by omega)]
  | succ m ih =>
    intro i h1 h2
    by_cases h : (i : Int) < (a.length : Int)
    · obtain ⟨k, hk⟩ := ih (i + 1) (by omega) (by omega)
      refine ⟨k + 1, ?_⟩
      simp only [brickyardlaw10_texts.l0]
      rw [if_pos h, if_pos (by omega), if_pos h, if_pos trivial, ← hk]
      congr 1
      unfold wrap64
      omega
    · refine ⟨1, ?_⟩
      simp only [brickyardlaw10_texts.l0]
      rw [if_neg h]
theorem texts_same {w : World} {A B : Option Addr} {c d : Nat} {l : List ByteArray} (hl : l.length ≤ 1000000) (h1 : Kd.C Kd.string w A l.length l) (h2 : l.length ≤ c) (h3 : Kd.C Kd.string w B l.length l) (h4 : l.length ≤ d) :
    Calls Try.prog 13 #[.slice A l.length c, .slice B l.length d] w fun e w' => e = .returned (.bool true) ∧ Below w.heap.size w w' := by
  obtain ⟨k, hk⟩ := texts_l0 l hl l.length 0 (by omega) (by omega)
  refine (brickyardlaw10_texts.calls k A c l B d l true w h1 h2 h3 h4 (by unfold brickyardlaw10_texts.f; rw [if_pos rfl]; exact hk)).mono ?_
  rintro e w' ⟨rfl, hd⟩
  exact ⟨rfl, hd.below⟩
end Go.Proofs.Ytpmeefdegcllkaa
