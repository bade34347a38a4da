/- The plain law of Cycle: the least of the shortest cycles; and of an order beside it. -/
import Derived.Test.YtlccejbomgknkaaGPath
namespace Go.Proofs.Ytlccejbomgknkaa
set_option linter.unusedVariables false
set_option linter.unusedSimpArgs false
open Go.RowKit Go.Maps Go.Proofs.YtlccejbomgknkaaW.PrintWords Go.Proofs.YtlccejbomgknkaaW.PrintLast

def lexlt : List ByteArray → List ByteArray → Prop
  | [], [] => False
  | [], _ :: _ => True
  | _ :: _, [] => False
  | x :: a, y :: b => bs x < bs y ∨ (x = y ∧ lexlt a b)
theorem lexlt_trans : ∀ {a b c : List ByteArray}, lexlt a b → lexlt b c → lexlt a c
  | [], [], c, h, k => h.elim
  | [], y :: b, [], h, k => k.elim
  | [], y :: b, z :: c, h, k => trivial
  | x :: a, [], c, h, k => h.elim
  | x :: a, y :: b, [], h, k => k.elim
  | x :: a, y :: b, z :: c, h, k => by
    rcases h with h | ⟨rfl, h⟩
    · rcases k with k | ⟨rfl, k⟩
      · exact .inl (List.lt_trans h k)
      · exact .inl h
    · rcases k with k | ⟨rfl, k⟩
      · exact .inl k
      · exact .inr ⟨rfl, lexlt_trans h k⟩
/-- Shorter, or as short and less. -/
def better (c b : List ByteArray) : Prop := c.length < b.length ∨ (c.length = b.length ∧ lexlt c b)
theorem better_trans {a b c : List ByteArray} (h : better a b) (k : better b c) : better a c := by
  rcases h with h | ⟨h1, h2⟩
  · rcases k with k | ⟨k1, k2⟩
    · exact .inl (Nat.lt_trans h k)
    · exact .inl (by omega)
  · rcases k with k | ⟨k1, k2⟩
    · exact .inl (by omega)
    · exact .inr ⟨h1.trans k1, lexlt_trans h2 k2⟩
/-- The cycle that the edge from x to y closes. -/
def CandAt (E : Rel) (x y : ByteArray) (c : List ByteArray) : Prop := E x y ∧ ∃ d w, Dist E y x d ∧ GW E x d y w ∧ c = x :: w.dropLast
/-- c is the least of the shortest cycles. -/
structure IsCyc (E : Rel) (c : List ByteArray) : Prop where
  cand : ∃ x y, CandAt E x y c
  least : ∀ x y, E x y → Reach E y x → ∃ c', CandAt E x y c' ∧ ¬ better c' c

theorem CandAt.len {E : Rel} {x y : ByteArray} {c : List ByteArray} (h : CandAt E x y c) : ∃ d, Dist E y x d ∧ c.length = d + 1 ∧ c[0]? = some x := by
  obtain ⟨hE, d, w, hD, hG, rfl⟩ := h
  have hw := GW.way d hD hG
  exact ⟨d, hD, by rw [List.length_cons, List.length_dropLast, hw.len]; rfl, rfl⟩

theorem walk_add {E : Rel} {b c : ByteArray} {n : Nat} : ∀ {m : Nat} {a : ByteArray}, WalkN E m a b → WalkN E n b c → WalkN E (m + n) a c
  | 0, a, h, k => by
    have h' : a = b := h
    subst h'
    rw [Nat.zero_add]; exact k
  | m + 1, a, h, k => by
    obtain ⟨z, hz, h'⟩ := h
    rw [show m + 1 + n = (m + n) + 1 from by omega]
    exact ⟨z, hz, walk_add h' k⟩

/-- A row each of whose names leads to the next. -/
theorem walk_along {E : Rel} {c : List ByteArray} (hs : ∀ i u v, c[i]? = some u → c[i + 1]? = some v → E u v) : ∀ (k i : Nat) {u v : ByteArray}, c[i]? = some u → c[i + k]? = some v → WalkN E k u v
  | 0, i, u, v, hu, hv => by
    rw [Nat.add_zero, hu] at hv
    injection hv
  | k + 1, i, u, v, hu, hv => by
    have hl := (List.getElem?_eq_some_iff.1 hv).1
    have hz : c[i + 1]? = some (c[i + 1]'(by omega)) := List.getElem?_eq_getElem (by omega)
    exact ⟨_, hs i u _ hu hz, walk_along hs k (i + 1) hz (by rw [show i + 1 + k = i + (k + 1) from by omega]; exact hv)⟩

/-- What a least cycle is. -/
structure CycAt (E : Rel) (c : List ByteArray) (d : Nat) : Prop where
  len : c.length = d + 1
  step : ∀ i u v, c[i]? = some u → c[i + 1]? = some v → E u v
  back : ∀ u v, c[d]? = some u → c[0]? = some v → E u v
  short : ∀ x y m, E x y → WalkN E m y x → d ≤ m
  first : ∀ x y m z, E x y → WalkN E m y x → m ≤ d → c[0]? = some z → ¬ bs x < bs z

theorem IsCyc.at {E : Rel} {c : List ByteArray} (h : IsCyc E c) : ∃ d, CycAt E c d := by
  obtain ⟨⟨x, y, hE, d, w, hD, hG, rfl⟩, hleast⟩ := h
  have hw := GW.way d hD hG
  have hlen : (x :: w.dropLast).length = d + 1 := by rw [List.length_cons, List.length_dropLast, hw.len]; rfl
  have hdl : ∀ i u, w.dropLast[i]? = some u → w[i]? = some u ∧ i < d := by
    intro i u hu
    have hi := (List.getElem?_eq_some_iff.1 hu).1
    rw [List.length_dropLast, hw.len] at hi
    rw [List.getElem?_dropLast] at hu
    split at hu
    · exact ⟨hu, by omega⟩
    · cases hu
  have hshort : ∀ x' y' m, E x' y' → WalkN E m y' x' → d ≤ m := by
    intro x' y' m hE' hwk
    obtain ⟨c', hc', hb⟩ := hleast x' y' hE' (walk_reach hwk)
    obtain ⟨d', hD', hl', _⟩ := hc'.len
    obtain ⟨m', hm', hDm⟩ := dist_of_walk hwk
    have := dist_unique hD' hDm
    have h1 : ¬ c'.length < (x :: w.dropLast).length := fun h => hb (.inl h)
    omega
  refine ⟨d, hlen, fun i u v hu hv => ?_, fun u v hu hv => ?_, hshort, fun x' y' m z hE' hwk hm hz hlt => ?_⟩
  · have hv' : w.dropLast[i]? = some v := by simpa using hv
    obtain ⟨h1, h2⟩ := hdl i v hv'
    cases i with
    | zero =>
      simp at hu; subst hu
      rw [hw.first] at h1
      injection h1 with h1
      subst h1; exact hE
    | succ i =>
      have hu' : w.dropLast[i]? = some u := by simpa using hu
      exact hw.step i u v (hdl i u hu').1 h1
  · simp at hv; subst hv
    cases d with
    | zero =>
      simp at hu; subst hu
      have e := dist_zero.1 hD
      subst e; exact hE
    | succ d =>
      have hu' : w.dropLast[d]? = some u := by simpa using hu
      exact hw.step d u x (hdl d u hu').1 hw.last
  · obtain ⟨c', hc', hb⟩ := hleast x' y' hE' (walk_reach hwk)
    obtain ⟨d', hD', hl', h0'⟩ := hc'.len
    obtain ⟨m', hm', hDm⟩ := dist_of_walk hwk
    have := dist_unique hD' hDm
    have hd := hshort x' y' m hE' hwk
    have h1 : ¬ c'.length < (x :: w.dropLast).length := fun h => hb (.inl h)
    simp at hz; subst hz
    refine hb (.inr ⟨by omega, ?_⟩)
    cases c' with
    | nil => simp at h0'
    | cons a c' =>
      simp at h0'; subst h0'
      exact .inl hlt

section
variable {E : Rel} {c : List ByteArray} {d : Nat} (h : CycAt E c d)
include h
/-- Once round, from a step to itself. -/
theorem CycAt.round {i j : Nat} {u v : ByteArray} (hu : c[i]? = some u) (hv : c[j]? = some v) : ∃ m, WalkN E m u v ∧ (i ≤ j → m = j - i) ∧ (j < i → m = d + 1 - i + j) := by
  have hi := (List.getElem?_eq_some_iff.1 hu).1
  have hj := (List.getElem?_eq_some_iff.1 hv).1
  have hl := h.len
  by_cases hij : i ≤ j
  · refine ⟨j - i, walk_along h.step (j - i) i hu (by rw [show i + (j - i) = j from by omega]; exact hv), fun _ => rfl, fun hh => by omega⟩
  · have hd : c[d]? = some (c[d]'(by omega)) := List.getElem?_eq_getElem (by omega)
    have h0 : c[0]? = some (c[0]'(by omega)) := List.getElem?_eq_getElem (by omega)
    have w1 := walk_along h.step (d - i) i hu (by rw [show i + (d - i) = d from by omega]; exact hd)
    have w2 : WalkN E 1 (c[d]'(by omega)) (c[0]'(by omega)) := ⟨_, h.back _ _ hd h0, rfl⟩
    have w3 := walk_along h.step j 0 h0 (by rw [Nat.zero_add]; exact hv)
    exact ⟨d - i + 1 + j, walk_add (walk_add w1 w2) w3, fun hh => absurd hh hij, fun _ => by omega⟩
/-- The next one. -/
theorem CycAt.next {i : Nat} {u v : ByteArray} (hu : c[i]? = some u) (hv : c[(i + 1) % c.length]? = some v) : E u v := by
  have hi := (List.getElem?_eq_some_iff.1 hu).1
  have hl := h.len
  by_cases e : i = d
  · subst e
    rw [hl, Nat.mod_self] at hv
    exact h.back u v hu hv
  · rw [Nat.mod_eq_of_lt (by omega)] at hv
    exact h.step i u v hu hv
/-- An edge between two of its names leads to the next one. -/
theorem CycAt.plain {i j : Nat} {u v : ByteArray} (hu : c[i]? = some u) (hv : c[j]? = some v) (hE : E u v) : j = (i + 1) % c.length := by
  have hi := (List.getElem?_eq_some_iff.1 hu).1
  have hj := (List.getElem?_eq_some_iff.1 hv).1
  have hl := h.len
  obtain ⟨m, hw, h1, h2⟩ := h.round hv hu
  have hs := h.short u v m hE hw
  rcases Nat.lt_or_ge i j with hij | hij
  · have := h2 hij
    have hji : j = i + 1 := by omega
    rw [hji, Nat.mod_eq_of_lt (by omega)]
  · have := h1 hij
    have e : i = d ∧ j = 0 := by omega
    rw [e.1, e.2, hl, Nat.mod_self]
/-- No name comes twice. -/
theorem CycAt.once {i j : Nat} {u : ByteArray} (hu : c[i]? = some u) (hv : c[j]? = some u) : i = j := by
  have key : ∀ {i j : Nat}, i < j → c[i]? = some u → c[j]? = some u → False := by
    intro i j hij hu hv
    have hj := (List.getElem?_eq_some_iff.1 hv).1
    have hl := h.len
    have hz : c[i + 1]? = some (c[i + 1]'(by omega)) := List.getElem?_eq_getElem (by omega)
    obtain ⟨m, hw, h1, _⟩ := h.round hz hv
    have := h1 (by omega)
    have hs := h.short _ _ m (h.step i _ _ hu hz) hw
    omega
  rcases Nat.lt_trichotomy i j with hij | hij | hij
  · exact absurd (key hij hu hv) (fun h => h)
  · exact hij
  · exact absurd (key hij hv hu) (fun h => h)
/-- The first is the least. -/
theorem CycAt.low {i : Nat} {u z : ByteArray} (hu : c[i]? = some u) (h0 : c[0]? = some z) : ¬ bs u < bs z := by
  have hi := (List.getElem?_eq_some_iff.1 hu).1
  have hl := h.len
  by_cases e : i = d
  · subst e
    have hE := h.back u z hu h0
    obtain ⟨m, hw, h1, _⟩ := h.round h0 hu
    have := h1 (by omega)
    exact h.first u z m z hE hw (by omega) h0
  · have hz : c[i + 1]? = some (c[i + 1]'(by omega)) := List.getElem?_eq_getElem (by omega)
    obtain ⟨m, hw, _, h2⟩ := h.round hz hu
    have := h2 (by omega)
    exact h.first u _ m z (h.step i u _ hu hz) hw (by omega) h0
end

/-! ### an order beside it -/
theorem Kahn.reach {N : List ByteArray} {E : Rel} {out : List ByteArray} (h : Kahn N E out) {x y : ByteArray} (hx : x ∈ out) (hr : Reach E x y) : y ∈ out := by
  induction hr with
  | refl _ => exact hx
  | head hE _ ih => exact ih (h.closed hx hE)
theorem Kahn.acyclic {N : List ByteArray} {E : Rel} {out : List ByteArray} (h : Kahn N E out) : ∀ {x y : ByteArray}, x ∈ out → E x y → ¬ Reach E y x := by
  induction h with
  | nil => intro x y hx; exact absurd hx List.not_mem_nil
  | snoc h hN hx hall hleast ih =>
    intro x y hm hE hr
    rcases List.mem_append.1 hm with h1 | h1
    · exact ih h1 hE hr
    · rw [List.mem_singleton] at h1
      subst h1
      exact hx (h.reach (hall y hE) hr)
theorem Kahn.at {N : List ByteArray} {E : Rel} {out : List ByteArray} (h : Kahn N E out) : ∀ {i : Nat} {x y : ByteArray}, out[i]? = some x → E x y → y ∈ out.take i := by
  induction h with
  | nil => intro i x y hx; simp at hx
  | @snoc out x0 h hN hx hall hleast ih =>
    intro i x y hi hE
    by_cases hil : i < out.length
    · rw [List.getElem?_append_left hil] at hi
      have := ih hi hE
      rw [List.take_append_of_le_length (by omega)]
      exact this
    · have hl := (List.getElem?_eq_some_iff.1 hi).1
      rw [List.length_append, List.length_singleton] at hl
      have e : i = out.length := by omega
      subst e
      rw [List.getElem?_append_right (Nat.le_refl _)] at hi
      simp at hi; subst hi
      rw [List.take_append_of_le_length (Nat.le_refl _), List.take_length]
      exact hall y hE

/-- A row of names each of which leads on. -/
def iter (f : ByteArray → ByteArray) : Nat → ByteArray → ByteArray
  | 0, x => x
  | n + 1, x => iter f n (f x)
theorem iter_succ (f : ByteArray → ByteArray) : ∀ (n : Nat) (x : ByteArray), iter f (n + 1) x = f (iter f n x)
  | 0, x => rfl
  | n + 1, x => iter_succ f n (f x)
theorem not_nodup {s : List ByteArray} (h : ¬ s.Nodup) : ∃ i j : Nat, i < j ∧ ∃ x, s[i]? = some x ∧ s[j]? = some x := by
  induction s with
  | nil => exact absurd List.nodup_nil h
  | cons a s ih =>
    by_cases hm : a ∈ s
    · obtain ⟨j, hj⟩ := List.getElem?_of_mem hm
      exact ⟨0, j + 1, by omega, a, rfl, by simpa using hj⟩
    · obtain ⟨i, j, hij, x, h1, h2⟩ := ih (fun hn => h (List.nodup_cons.2 ⟨hm, hn⟩))
      exact ⟨i + 1, j + 1, by omega, x, by simpa using h1, by simpa using h2⟩
/-- Where each of some names leads to one of them, there is a cycle. -/
theorem stuck_cycle {N : List ByteArray} {E : Rel} {S : ByteArray → Prop} (hS : ∀ x, S x → x ∈ N) (hs : ∀ x, S x → ∃ y, E x y ∧ S y) {z : ByteArray} (hz : S z) : ∃ x y, E x y ∧ Reach E y x := by
  have hc : ∀ x, ∃ y, S x → E x y ∧ S y := by
    intro x
    by_cases hx : S x
    · obtain ⟨y, hy⟩ := hs x hx
      exact ⟨y, fun _ => hy⟩
    · exact ⟨x, fun h => absurd h hx⟩
  obtain ⟨f, hf⟩ := Classical.axiomOfChoice hc
  have hSi : ∀ n, S (iter f n z) := by
    intro n
    induction n with
    | zero => exact hz
    | succ n ih => rw [iter_succ]; exact (hf _ ih).2
  have hEi : ∀ n, E (iter f n z) (iter f (n + 1) z) := by
    intro n
    rw [iter_succ]
    exact (hf _ (hSi n)).1
  have hre : ∀ k n, Reach E (iter f n z) (iter f (n + k) z) := by
    intro k
    induction k with
    | zero => intro n; exact .refl _
    | succ k ih => intro n; exact .head (hEi n) (by rw [show n + (k + 1) = n + 1 + k from by omega]; exact ih (n + 1))
  have hnn : ¬ ((List.range (N.length + 1)).map (fun n => iter f n z)).Nodup := by
    intro hn
    have := nodup_len hn (N := N) (fun x hx => by
      obtain ⟨n, _, rfl⟩ := List.mem_map.1 hx
      exact hS _ (hSi n))
    simp at this
    omega
  obtain ⟨i, j, hij, x, h1, h2⟩ := not_nodup hnn
  rw [List.getElem?_map] at h1 h2
  obtain ⟨i', hi', rfl⟩ := Option.map_eq_some_iff.1 h1
  obtain ⟨j', hj', e⟩ := Option.map_eq_some_iff.1 h2
  have hil := (List.getElem?_eq_some_iff.1 hi').1
  have hjl := (List.getElem?_eq_some_iff.1 hj').1
  rw [List.length_range] at hil hjl
  rw [List.getElem?_range hil] at hi'
  rw [List.getElem?_range hjl] at hj'
  injection hi' with hi'
  injection hj' with hj'
  subst hi'
  subst hj'
  refine ⟨iter f i z, iter f (i + 1) z, hEi i, ?_⟩
  rw [← e]
  have := hre (j - (i + 1)) (i + 1)
  rw [show i + 1 + (j - (i + 1)) = j from by omega] at this
  exact this
end Go.Proofs.Ytlccejbomgknkaa
