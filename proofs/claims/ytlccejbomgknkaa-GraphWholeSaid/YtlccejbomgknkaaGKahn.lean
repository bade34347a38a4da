/- The plain law of Order: the least name first of those whose names are all there. -/
import Derived.Test.YtlccejbomgknkaaGWay
namespace Go.Proofs.Ytlccejbomgknkaa
set_option linter.unusedVariables false
set_option linter.unusedSimpArgs false
open Go.RowKit Go.Maps Go.Proofs.YtlccejbomgknkaaW.PrintWords Go.Proofs.YtlccejbomgknkaaW.PrintLast
open Classical

/-- How many of the names that x asks are not in out. -/
noncomputable def cntO (N : List ByteArray) (E : Rel) (out : List ByteArray) (x : ByteArray) : Nat := (N.filter (fun y => decide (E x y ∧ y ∉ out))).length

/-- A row that is built so: each next name is the least of those that are not there and ask only what is there. -/
inductive Kahn (N : List ByteArray) (E : Rel) : List ByteArray → Prop
  | nil : Kahn N E []
  | snoc {out : List ByteArray} {x : ByteArray} (h : Kahn N E out) (hN : x ∈ N) (hx : x ∉ out) (hall : ∀ y, E x y → y ∈ out) (hleast : ∀ z ∈ N, z ∉ out → (∀ y, E z y → y ∈ out) → z = x ∨ bs x < bs z) : Kahn N E (out ++ [x])

theorem nodup_same {s t : List ByteArray} (hs : s.Nodup) (ht : t.Nodup) (h : ∀ x, x ∈ s ↔ x ∈ t) : s.length = t.length :=
  Nat.le_antisymm (nodup_len hs fun x hx => (h x).1 hx) (nodup_len ht fun x hx => (h x).2 hx)

theorem cnt_start {N s : List ByteArray} {E : Rel} {x : ByteArray} (hN : N.Nodup) (hE : ∀ x y, E x y → x ∈ N ∧ y ∈ N) (hs : s.Nodup) (h : ∀ y, y ∈ s ↔ E x y) : s.length = cntO N E [] x := by
  refine nodup_same hs (hN.filter _) fun y => ?_
  rw [h y, List.mem_filter]
  simp only [List.not_mem_nil, not_false_iff, and_true, decide_eq_true_eq]
  exact ⟨fun h => ⟨(hE _ _ h).2, h⟩, fun h => h.2⟩

theorem cnt_yes {N out : List ByteArray} {E : Rel} {x n : ByteArray} (hN : N.Nodup) (hE : ∀ x y, E x y → x ∈ N ∧ y ∈ N) (hn : n ∉ out) (h : E x n) : cntO N E out x = cntO N E (out ++ [n]) x + 1 := by
  show _ = (n :: N.filter (fun y => decide (E x y ∧ y ∉ out ++ [n]))).length
  refine nodup_same (hN.filter _) (List.nodup_cons.2 ⟨fun hm => ?_, hN.filter _⟩) fun y => ?_
  · have := (List.mem_filter.1 hm).2
    simp at this
  · rw [List.mem_cons, List.mem_filter, List.mem_filter]
    simp only [decide_eq_true_eq, List.mem_append, List.mem_singleton, not_or]
    constructor
    · rintro ⟨h1, h2, h3⟩
      by_cases e : y = n
      · exact .inl e
      · exact .inr ⟨h1, h2, h3, e⟩
    · rintro (rfl | ⟨h1, h2, h3, h4⟩)
      · exact ⟨(hE _ _ h).2, h, hn⟩
      · exact ⟨h1, h2, h3⟩

theorem cnt_no {N out : List ByteArray} {E : Rel} {x n : ByteArray} (h : ¬ E x n) : cntO N E out x = cntO N E (out ++ [n]) x := by
  unfold cntO
  congr 2
  funext y
  by_cases e : y = n
  · subst e
    simp [h]
  · simp [e]

theorem cnt_zero {N out : List ByteArray} {E : Rel} {x : ByteArray} (hE : ∀ x y, E x y → x ∈ N ∧ y ∈ N) : cntO N E out x = 0 ↔ ∀ y, E x y → y ∈ out := by
  unfold cntO
  rw [List.length_eq_zero_iff, List.filter_eq_nil_iff]
  simp only [decide_eq_true_eq, not_and, Classical.not_not]
  exact ⟨fun h y hy => h y (hE _ _ hy).2 hy, fun h y _ hy => h y hy⟩

theorem cnt_le {N out : List ByteArray} {E : Rel} {x : ByteArray} : cntO N E out x ≤ N.length := List.length_filter_le _ _

theorem Kahn.nodup {N : List ByteArray} {E : Rel} {out : List ByteArray} (h : Kahn N E out) : out.Nodup ∧ ∀ x ∈ out, x ∈ N := by
  induction h with
  | nil => exact ⟨List.nodup_nil, fun x h => absurd h List.not_mem_nil⟩
  | snoc h hN hx hall hleast ih =>
    refine ⟨List.nodup_append.2 ⟨ih.1, List.nodup_cons.2 ⟨List.not_mem_nil, List.nodup_nil⟩, fun a ha b hb => ?_⟩, fun y hy => ?_⟩
    · rw [List.mem_singleton] at hb
      subst hb
      intro e; subst e; exact hx ha
    · rcases List.mem_append.1 hy with h | h
      · exact ih.2 y h
      · rw [List.mem_singleton] at h; subst h; exact hN

/-- The map of what is left. -/
structure LeftAt (L : List (ByteArray × Nat)) (N out : List ByteArray) (f : ByteArray → Nat) : Prop where
  keys : ∀ x, (∃ c, (x, c) ∈ L) ↔ x ∈ N ∧ x ∉ out
  val : ∀ x c, (x, c) ∈ L → c = f x

theorem LeftAt.mem {L : List (ByteArray × Nat)} {N out : List ByteArray} {f : ByteArray → Nat} (h : LeftAt L N out f) {x : ByteArray} (hx : x ∈ N) (ho : x ∉ out) : (x, f x) ∈ L := by
  obtain ⟨c, hc⟩ := (h.keys x).2 ⟨hx, ho⟩
  have := h.val x c hc
  subst this; exact hc

/-- A new count at a name that is there. -/
theorem putE_encF_old {F : List (ByteArray × Nat)} {x : ByteArray} {d c : Nat} (h : (x, c) ∈ F) :
    ∃ F', putE (encF F) x (.int .i64 (d : Nat)) = encF F' ∧ F'.length = F.length ∧ ∀ p, p ∈ F' ↔ p = (x, d) ∨ (p ∈ F ∧ p.1 ≠ x) := by
  refine ⟨F.map (fun p => if p.1 = x then (x, d) else p), ?_, by simp, fun p => ?_⟩
  · unfold putE
    rw [if_pos]
    · unfold encF
      rw [List.map_map, List.map_map]
      refine List.map_congr_left fun p hp => ?_
      simp only [Function.comp]
      by_cases e : p.1 = x
      · simp [e]
      · simp [e]
    · rw [List.any_eq_true]
      exact ⟨(x, .int .i64 (c : Nat)), List.mem_map.2 ⟨(x, c), h, rfl⟩, by simp⟩
  · rw [List.mem_map]
    constructor
    · rintro ⟨q, hq, rfl⟩
      by_cases e : q.1 = x
      · simp [e]
      · simp [e, hq]
    · rintro (rfl | ⟨h1, h2⟩)
      · exact ⟨(x, c), h, by simp⟩
      · exact ⟨p, h1, by simp [h2]⟩

theorem delE_encF (F : List (ByteArray × Nat)) (x : ByteArray) : delE (encF F) x = encF (F.filter (fun p => decide (p.1 ≠ x))) := by
  unfold delE encF
  rw [List.filter_map]
  rfl

theorem LeftAt.del {L : List (ByteArray × Nat)} {N out : List ByteArray} {f : ByteArray → Nat} (h : LeftAt L N out f) {n : ByteArray} : LeftAt (L.filter (fun p => decide (p.1 ≠ n))) N (out ++ [n]) f := by
  refine ⟨fun x => ?_, fun x c hm => h.val x c (List.mem_filter.1 hm).1⟩
  constructor
  · rintro ⟨c, hc⟩
    obtain ⟨h1, h2⟩ := List.mem_filter.1 hc
    have h3 := (h.keys x).1 ⟨c, h1⟩
    simp only [ne_eq, decide_not, Bool.not_eq_eq_eq_not, Bool.not_true, decide_eq_false_iff_not] at h2
    exact ⟨h3.1, by simp [h3.2, h2]⟩
  · rintro ⟨h1, h2⟩
    simp only [List.mem_append, List.mem_singleton, not_or] at h2
    obtain ⟨c, hc⟩ := (h.keys x).2 ⟨h1, h2.1⟩
    exact ⟨c, List.mem_filter.2 ⟨hc, by simp [h2.2]⟩⟩

theorem LeftAt.put {L F' : List (ByteArray × Nat)} {N out : List ByteArray} {f f' : ByteArray → Nat} (h : LeftAt L N out f) {n : ByteArray} (hn : n ∈ N) (ho : n ∉ out) {d : Nat} (hF : ∀ p, p ∈ F' ↔ p = (n, d) ∨ (p ∈ L ∧ p.1 ≠ n)) (hd : f' n = d) (hf : ∀ x, x ≠ n → f' x = f x) : LeftAt F' N out f' := by
  refine ⟨fun x => ?_, fun x c hm => ?_⟩
  · constructor
    · rintro ⟨c, hc⟩
      rcases (hF _).1 hc with e | ⟨h1, h2⟩
      · injection e with e1 e2
        subst e1; exact ⟨hn, ho⟩
      · exact (h.keys x).1 ⟨c, h1⟩
    · intro hx
      by_cases e : x = n
      · subst e
        exact ⟨d, (hF _).2 (.inl rfl)⟩
      · obtain ⟨c, hc⟩ := (h.keys x).2 hx
        exact ⟨c, (hF _).2 (.inr ⟨hc, e⟩)⟩
  · rcases (hF _).1 hm with e | ⟨h1, h2⟩
    · injection e with e1 e2
      subst e1; subst e2; exact hd.symm
    · rw [hf x h2]; exact h.val x c h1

theorem LeftAt.congr {L : List (ByteArray × Nat)} {N out : List ByteArray} {f f' : ByteArray → Nat} (h : LeftAt L N out f) (hf : ∀ x, x ∈ N → x ∉ out → f x = f' x) : LeftAt L N out f' :=
  ⟨h.keys, fun x c hm => (h.val x c hm).trans (hf x ((h.keys x).1 ⟨c, hm⟩).1 ((h.keys x).1 ⟨c, hm⟩).2)⟩
theorem Kahn.closed {N : List ByteArray} {E : Rel} {out : List ByteArray} (h : Kahn N E out) : ∀ {x y : ByteArray}, x ∈ out → E x y → y ∈ out := by
  induction h with
  | nil => intro x y hx; exact absurd hx List.not_mem_nil
  | snoc h hN hx hall hleast ih =>
    intro x y hm hE
    rcases List.mem_append.1 hm with h | h
    · exact List.mem_append_left _ (ih h hE)
    · rw [List.mem_singleton] at h; subst h
      exact List.mem_append_left _ (hall y hE)

theorem LeftAt.new {L : List (ByteArray × Nat)} {N : List ByteArray} {left : Ents} {f : ByteArray → Nat} (h : LeftAt L N (left.map Prod.fst) f) {x : ByteArray} {v : Value} (hx : (x, v) ∈ left) (hN : x ∈ N) : LeftAt (L ++ [(x, f x)]) N ((delE left x).map Prod.fst) f := by
  refine ⟨fun y => ?_, fun y c hm => ?_⟩
  · have hk : y ∈ (delE left x).map Prod.fst ↔ y ∈ left.map Prod.fst ∧ y ≠ x := by
      constructor
      · intro hm
        obtain ⟨p, hp, rfl⟩ := List.mem_map.1 hm
        have := mem_delE.1 hp
        exact ⟨List.mem_map.2 ⟨p, this.1, rfl⟩, this.2⟩
      · rintro ⟨hm, hne⟩
        obtain ⟨p, hp, rfl⟩ := List.mem_map.1 hm
        exact List.mem_map.2 ⟨p, mem_delE.2 ⟨hp, hne⟩, rfl⟩
    rw [hk]
    constructor
    · rintro ⟨c, hc⟩
      rcases List.mem_append.1 hc with h1 | h1
      · have := (h.keys y).1 ⟨c, h1⟩
        exact ⟨this.1, fun h2 => this.2 h2.1⟩
      · rw [List.mem_singleton] at h1
        injection h1 with e1 e2
        subst e1; exact ⟨hN, fun h2 => h2.2 rfl⟩
    · rintro ⟨h1, h2⟩
      by_cases e : y = x
      · subst e; exact ⟨_, List.mem_append_right _ (List.mem_singleton.2 rfl)⟩
      · obtain ⟨c, hc⟩ := (h.keys y).2 ⟨h1, fun h3 => h2 ⟨h3, e⟩⟩
        exact ⟨c, List.mem_append_left _ hc⟩
  · rcases List.mem_append.1 hm with h1 | h1
    · exact h.val y c h1
    · rw [List.mem_singleton] at h1
      injection h1 with e1 e2
      subst e1; exact e2

theorem LeftAt.size {L : List (ByteArray × Nat)} {N out : List ByteArray} {f : ByteArray → Nat} (h : LeftAt L N out f) (hn : (L.map Prod.fst).Nodup) : L.length ≤ N.length := by
  have := nodup_len (s := L.map Prod.fst) (N := N) hn (fun x hx => by
    obtain ⟨p, hp, rfl⟩ := List.mem_map.1 hx
    exact ((h.keys p.1).1 ⟨p.2, hp⟩).1)
  simpa using this

/-- While what n asked for is told. -/
noncomputable def fMid (N : List ByteArray) (E : Rel) (out : List ByteArray) (n : ByteArray) (left : Ents) (x : ByteArray) : Nat :=
  if (x, Value.bool true) ∈ left then cntO N E out x else cntO N E (out ++ [n]) x
end Go.Proofs.Ytlccejbomgknkaa
