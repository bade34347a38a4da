/- Distances: how many edges lead from a name to another one, at least. Plain: no program, no memory. -/
import Derived.Test.YtlccejbomgknkaaGVisit
namespace Go.Proofs.Ytlccejbomgknkaa
set_option linter.unusedVariables false
set_option linter.unusedSimpArgs false

/-- A way of just n edges. -/
def WalkN (E : Rel) : Nat → ByteArray → ByteArray → Prop
  | 0, x, y => x = y
  | n + 1, x, y => ∃ z, E x z ∧ WalkN E n z y
/-- The least number of edges. -/
def Dist (E : Rel) (x y : ByteArray) (n : Nat) : Prop := WalkN E n x y ∧ ∀ m, m < n → ¬ WalkN E m x y

theorem dist_unique {E : Rel} {x y : ByteArray} {m n : Nat} (h : Dist E x y m) (k : Dist E x y n) : m = n := by
  rcases Nat.lt_trichotomy m n with h1 | h1 | h1
  · exact absurd h.1 (k.2 m h1)
  · exact h1
  · exact absurd k.1 (h.2 n h1)
theorem dist_of_walk {E : Rel} {x y : ByteArray} {n : Nat} (h : WalkN E n x y) : ∃ m, m ≤ n ∧ Dist E x y m := by
  induction n using Nat.strongRecOn with
  | _ n ih =>
    by_cases hm : ∃ m, m < n ∧ WalkN E m x y
    · obtain ⟨m, hlt, hw⟩ := hm
      obtain ⟨k, hk, hd⟩ := ih m hlt hw
      exact ⟨k, by omega, hd⟩
    · exact ⟨n, Nat.le_refl _, h, fun m hlt hw => hm ⟨m, hlt, hw⟩⟩
theorem dist_zero {E : Rel} {x y : ByteArray} : Dist E x y 0 ↔ x = y := ⟨fun h => h.1, fun h => ⟨h, fun m hm => absurd hm (by omega)⟩⟩
theorem dist_next {E : Rel} {x y : ByteArray} {n : Nat} (h : Dist E x y (n + 1)) : ∃ z, E x z ∧ Dist E z y n := by
  obtain ⟨⟨z, h1, h2⟩, h3⟩ := h
  refine ⟨z, h1, h2, fun m hm hw => h3 (m + 1) (by omega) ⟨z, h1, hw⟩⟩
theorem dist_down {E : Rel} {y : ByteArray} {n : Nat} : ∀ {d : Nat} {x : ByteArray}, Dist E x y d → n ≤ d → ∃ x', Dist E x' y n
  | 0, x, h, hn => by
    obtain rfl : n = 0 := by omega
    exact ⟨x, h⟩
  | d + 1, x, h, hn => by
    by_cases e : n = d + 1
    · subst e; exact ⟨x, h⟩
    · obtain ⟨z, _, hz⟩ := dist_next h
      exact dist_down hz (by omega)
open Classical in
theorem dist_lt {N : List ByteArray} {E : Rel} (hE : ∀ x y, E x y → x ∈ N ∧ y ∈ N) {x y : ByteArray} (hy : y ∈ N) {d : Nat} (h : Dist E x y d) : d < N.length := by
  have hex : ∀ j, ∃ z, j ≤ d → Dist E z y j := by
    intro j
    by_cases hj : j ≤ d
    · obtain ⟨z, hz⟩ := dist_down h hj
      exact ⟨z, fun _ => hz⟩
    · exact ⟨x, fun h => absurd h hj⟩
  have hf : ∃ f : Nat → ByteArray, ∀ j, j ≤ d → Dist E (f j) y j := ⟨fun j => Classical.choose (hex j), fun j => Classical.choose_spec (hex j)⟩
  obtain ⟨f, hf⟩ := hf
  have := nodup_len (s := (List.range (d + 1)).map f) (N := N) (by
    rw [List.Nodup, List.pairwise_map]
    refine (List.nodup_range (n := d + 1)).imp_of_mem ?_
    intro a b ha hb hne e
    have h1 := hf a (by have := List.mem_range.1 ha; omega)
    have h2 := hf b (by have := List.mem_range.1 hb; omega)
    rw [e] at h1
    exact hne (dist_unique h1 h2)) (fun z hz => by
    obtain ⟨j, hj, rfl⟩ := List.mem_map.1 hz
    have h1 := hf j (by have := List.mem_range.1 hj; omega)
    cases j with
    | zero => rw [dist_zero.1 h1]; exact hy
    | succ j => obtain ⟨u, hu, _⟩ := dist_next h1; exact (hE _ _ hu).1)
  simp only [List.length_map, List.length_range] at this
  omega
theorem walk_reach {E : Rel} {n : Nat} : ∀ {x y : ByteArray}, WalkN E n x y → Reach E x y := by
  induction n with
  | zero => intro x y h; rw [show x = y from h]; exact .refl _
  | succ n ih => rintro x y ⟨z, h1, h2⟩; exact .head h1 (ih h2)
theorem reach_walk {E : Rel} {x y : ByteArray} (h : Reach E x y) : ∃ n, WalkN E n x y := by
  induction h with
  | refl x => exact ⟨0, rfl⟩
  | head h1 _ ih => obtain ⟨n, hn⟩ := ih; exact ⟨n + 1, _, h1, hn⟩
theorem reach_dist {E : Rel} {x y : ByteArray} : Reach E x y ↔ ∃ n, Dist E x y n := by
  constructor
  · intro h
    obtain ⟨n, hn⟩ := reach_walk h
    obtain ⟨m, _, hm⟩ := dist_of_walk hn
    exact ⟨m, hm⟩
  · rintro ⟨n, h⟩
    exact walk_reach h.1

/-- The waves: F holds what is nearer than n; wave what is at n - 1. -/
structure Bfs (E : Rel) (to_ : ByteArray) (n : Nat) (F : List (ByteArray × Nat)) (wave : List ByteArray) : Prop where
  pos : 0 < n
  far : ∀ x d, (x, d) ∈ F ↔ Dist E x to_ d ∧ d < n
  wav : ∀ x, x ∈ wave ↔ Dist E x to_ (n - 1)
/-- In the midst of a wave: the names 'done' have been gone through, of the name 'cur' those of 'seen' that lead to it. -/
structure BfsMid (E : Rel) (to_ : ByteArray) (n : Nat) (F0 : List (ByteArray × Nat)) (wave : List ByteArray) (P : ByteArray → ByteArray → Prop) (F : List (ByteArray × Nat)) (next : List ByteArray) : Prop where
  st : Bfs E to_ n F0 wave
  fr : ∀ x d, (x, d) ∈ F ↔ (x, d) ∈ F0 ∨ (d = n ∧ x ∈ next)
  nx : ∀ x, x ∈ next ↔ Dist E x to_ n ∧ ∃ y, P x y
  pw : ∀ x y, P x y → E x y ∧ y ∈ wave

section
variable {E : Rel} {to_ : ByteArray} {n : Nat} {F F0 : List (ByteArray × Nat)} {wave next : List ByteArray} {P : ByteArray → ByteArray → Prop}
theorem bfs_start : Bfs E to_ 1 [(to_, 0)] [to_] := by
  refine ⟨by omega, fun x d => ?_, fun x => ?_⟩
  · rw [List.mem_singleton]
    constructor
    · intro h
      injection h with h1 h2
      rw [h1, h2]
      exact ⟨dist_zero.2 rfl, by omega⟩
    · rintro ⟨h1, h2⟩
      obtain rfl : d = 0 := by omega
      rw [dist_zero.1 h1]
  · rw [List.mem_singleton]
    exact dist_zero.symm
theorem Bfs.mid (h : Bfs E to_ n F wave) : BfsMid E to_ n F wave (fun _ _ => False) F [] :=
  ⟨h, fun x d => by simp, fun x => by simp, fun _ _ h => h.elim⟩
theorem BfsMid.congr (h : BfsMid E to_ n F0 wave P F next) {P' : ByteArray → ByteArray → Prop} (hp : ∀ x y, P x y ↔ P' x y) : BfsMid E to_ n F0 wave P' F next := by
  have : P = P' := by funext x y; exact propext (hp x y)
  rw [← this]; exact h
/-- A name that stands in far already. -/
theorem BfsMid.skip (h : BfsMid E to_ n F0 wave P F next) {x y : ByteArray} (hy : y ∈ wave) (hE : E x y) {d : Nat} (hx : (x, d) ∈ F) : BfsMid E to_ n F0 wave (fun a b => P a b ∨ (a = x ∧ b = y)) F next := by
  refine ⟨h.st, h.fr, fun z => ?_, ?_⟩
  · rw [h.nx z]
    constructor
    · rintro ⟨h1, b, h2⟩
      exact ⟨h1, b, .inl h2⟩
    · rintro ⟨h1, b, h2 | ⟨rfl, rfl⟩⟩
      · exact ⟨h1, b, h2⟩
      · rcases (h.fr _ _).1 hx with h3 | ⟨rfl, h3⟩
        · have := (h.st.far _ _).1 h3
          have := dist_unique h1 this.1
          omega
        · exact (h.nx _).1 h3
  · rintro a b (h1 | ⟨rfl, rfl⟩)
    · exact h.pw a b h1
    · exact ⟨hE, hy⟩
/-- A name that is new. -/
theorem BfsMid.take (h : BfsMid E to_ n F0 wave P F next) {x y : ByteArray} (hy : y ∈ wave) (hE : E x y) (hx : ∀ d, (x, d) ∉ F) : BfsMid E to_ n F0 wave (fun a b => P a b ∨ (a = x ∧ b = y)) (F ++ [(x, n)]) (next ++ [x]) ∧ Dist E x to_ n := by
  have hpos := h.st.pos
  have hd : Dist E x to_ n := by
    have hy' := (h.st.wav y).1 hy
    refine ⟨?_, fun m hm hw => ?_⟩
    · obtain ⟨k, rfl⟩ : ∃ k, n = k + 1 := ⟨n - 1, by omega⟩
      exact ⟨y, hE, hy'.1⟩
    · obtain ⟨j, hj, hdj⟩ := dist_of_walk hw
      exact hx j ((h.fr x j).2 (.inl ((h.st.far x j).2 ⟨hdj, by omega⟩)))
  refine ⟨⟨h.st, fun z d => ?_, fun z => ?_, ?_⟩, hd⟩
  · rw [List.mem_append, h.fr z d, List.mem_singleton, List.mem_append, List.mem_singleton]
    constructor
    · rintro ((h1 | h1) | h1)
      · exact .inl h1
      · exact .inr ⟨h1.1, .inl h1.2⟩
      · injection h1 with e1 e2
        exact .inr ⟨e2, .inr e1⟩
    · rintro (h1 | ⟨rfl, h1 | rfl⟩)
      · exact .inl (.inl h1)
      · exact .inl (.inr ⟨rfl, h1⟩)
      · exact .inr rfl
  · rw [List.mem_append, h.nx z, List.mem_singleton]
    constructor
    · rintro (⟨h1, b, h2⟩ | rfl)
      · exact ⟨h1, b, .inl h2⟩
      · exact ⟨hd, y, .inr ⟨rfl, rfl⟩⟩
    · rintro ⟨h1, b, h2 | ⟨rfl, rfl⟩⟩
      · exact .inl ⟨h1, b, h2⟩
      · exact .inr rfl
  · rintro a b (h1 | ⟨rfl, rfl⟩)
    · exact h.pw a b h1
    · exact ⟨hE, hy⟩
/-- The wave is through. -/
theorem BfsMid.through (h : BfsMid E to_ n F0 wave P F next) (hall : ∀ x y, y ∈ wave → E x y → P x y) : Bfs E to_ (n + 1) F next := by
  have hpos := h.st.pos
  have hn : ∀ x, x ∈ next ↔ Dist E x to_ n := by
    intro x
    rw [h.nx x]
    refine ⟨fun h1 => h1.1, fun h1 => ⟨h1, ?_⟩⟩
    obtain ⟨k, rfl⟩ : ∃ k, n = k + 1 := ⟨n - 1, by omega⟩
    obtain ⟨z, hz, hdz⟩ := dist_next h1
    exact ⟨z, hall x z ((h.st.wav z).2 hdz) hz⟩
  refine ⟨by omega, fun x d => ?_, fun x => by rw [hn x]; rfl⟩
  rw [h.fr x d, h.st.far x d, hn x]
  constructor
  · rintro (⟨h1, h2⟩ | ⟨rfl, h1⟩)
    · exact ⟨h1, by omega⟩
    · exact ⟨h1, by omega⟩
  · rintro ⟨h1, h2⟩
    by_cases e : d = n
    · exact .inr ⟨e, e ▸ h1⟩
    · exact .inl ⟨h1, by omega⟩
/-- Nothing is left. -/
theorem Bfs.done (h : Bfs E to_ (n + 1) F []) : ∀ x d, (x, d) ∈ F ↔ Dist E x to_ d := by
  intro x d
  rw [h.far x d]
  refine ⟨fun h1 => h1.1, fun h1 => ⟨h1, ?_⟩⟩
  rcases Nat.lt_or_ge d (n + 1) with h2 | h2
  · exact h2
  · obtain ⟨x', hx'⟩ := dist_down (n := n) h1 (by omega)
    have := (h.wav x').2 hx'
    cases this
end
end Go.Proofs.Ytlccejbomgknkaa
