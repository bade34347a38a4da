/- The plain law of a way: no name twice, each step an edge, no edge past two of its steps. -/
import Derived.Test.YtlccejbomgknkaaGWorks
namespace Go.Proofs.Ytlccejbomgknkaa
set_option linter.unusedVariables false
set_option linter.unusedSimpArgs false
open Go.RowKit Go.Maps Go.Proofs.YtlccejbomgknkaaW.PrintWords Go.Proofs.YtlccejbomgknkaaW.PrintLast

/-- What a way is. -/
structure IsWay (E : Rel) (x y : ByteArray) (d : Nat) (p : List ByteArray) : Prop where
  len : p.length = d + 1
  first : p[0]? = some x
  last : p[d]? = some y
  dist : ∀ i z, p[i]? = some z → Dist E z y (d - i)
  step : ∀ i u v, p[i]? = some u → p[i + 1]? = some v → E u v

theorem GW.way {E : Rel} {y : ByteArray} : ∀ (d : Nat) {x : ByteArray} {p : List ByteArray}, Dist E x y d → GW E y d x p → IsWay E x y d p
  | 0, x, p, hD, h => by
    have h' : p = [x] := h
    subst h'
    have e := dist_zero.1 hD
    subst e
    refine ⟨rfl, rfl, rfl, fun i z hz => ?_, fun i u v hu hv => by simp at hv⟩
    cases i with
    | zero => simp at hz; subst hz; exact hD
    | succ i => simp at hz
  | d + 1, x, p, hD, h => by
    obtain ⟨z, q, rfl, hq, hE, hz, _⟩ := h
    have ih := GW.way d hz hq
    refine ⟨by rw [List.length_cons, ih.len], rfl, by simpa using ih.last, fun i u hu => ?_, fun i u v hu hv => ?_⟩
    · cases i with
      | zero => simp at hu; subst hu; exact hD
      | succ i =>
        have := ih.dist i u (by simpa using hu)
        rw [show d + 1 - (i + 1) = d - i from by omega]; exact this
    · cases i with
      | zero =>
        simp at hu; subst hu
        have hv' : q[0]? = some v := by simpa using hv
        rw [ih.first] at hv'
        injection hv' with hv'
        subst hv'; exact hE
      | succ i => exact ih.step i u v (by simpa using hu) (by simpa using hv)

section
variable {E : Rel} {x y : ByteArray} {d : Nat} {p : List ByteArray} (h : IsWay E x y d p)
include h
theorem IsWay.once {i : Nat} {z : ByteArray} (hz : p[i]? = some z) : z ∉ p.take i := by
  intro hm
  obtain ⟨j, hj⟩ := List.getElem?_of_mem hm
  rw [List.getElem?_take] at hj
  split at hj
  · rename_i hji
    have h1 := h.dist i z hz
    have h2 := h.dist j z hj
    have := dist_unique h1 h2
    have hil := (List.getElem?_eq_some_iff.1 hz).1
    have := h.len
    omega
  · cases hj
theorem IsWay.plain {i j : Nat} {u v : ByteArray} (hu : p[i]? = some u) (hv : p[j]? = some v) (hij : i + 2 ≤ j) : ¬ E u v := by
  intro hE
  have h1 := h.dist i u hu
  have h2 := h.dist j v hv
  have hjl := (List.getElem?_eq_some_iff.1 hv).1
  have := h.len
  have hw : WalkN E (d - j + 1) u y := ⟨v, hE, h2.1⟩
  exact h1.2 (d - j + 1) (by omega) hw
end

theorem C_take {w : World} {A : Option Addr} {n : Nat} {xs : List ByteArray} (h : Kd.C Kd.string w A xs.length xs) (hn : n ≤ xs.length) : Kd.C Kd.string w A (xs.take n).length (xs.take n) := by
  refine ⟨rfl, by have := h.2.1; rw [List.length_take]; omega, fun hl => ?_⟩
  obtain ⟨ad, hA, hc⟩ := h.2.2 (by rw [List.length_take] at hl; omega)
  refine ⟨ad, hA, fun j p hj => hc j p ?_⟩
  rw [List.getElem?_take] at hj
  split at hj
  · exact hj
  · cases hj

theorem has_at {xs : List ByteArray} {k : Nat} (hk : k < xs.length) : xs[k]? = some (rdOf ByteArray.empty xs (k : Int)) := by
  unfold rdOf
  rw [Int.toNat_natCast, List.getD_eq_getElem?_getD, List.getElem?_eq_getElem hk]
  rfl

theorem contains_yes {l : List ByteArray} {x : ByteArray} (h : x ∈ l) : Lib.containsS l x = true := (Lib.containsS_iff l x).2 h
theorem contains_no {l : List ByteArray} {x : ByteArray} (h : x ∉ l) : Lib.containsS l x = false := by
  rw [Bool.eq_false_iff]
  exact fun e => h ((Lib.containsS_iff l x).1 e)

set_option maxRecDepth 100000 in
theorem long_any (w : World) (A A2 : Option Addr) (n c m c2 : Nat) : Calls Try.prog 9 #[.slice A n c, .slice A2 m c2] w fun e w' => e = .returned (.bool (decide ((40 : Int) < n) || decide ((20 : Int) < m))) ∧ w' = w := by
  by_cases h1 : n ≤ 40
  · go_enter Try.func9, Try.ntmps9
    go_wp2
    go_ret
    exact ⟨rfl, rfl⟩
  · go_enter Try.func9, Try.ntmps9
    go_wp2
    go_ret
    exact ⟨rfl, rfl⟩
theorem long_no (w : World) (A A2 : Option Addr) (n c m c2 : Nat) (h1 : n ≤ 40) (h2 : m ≤ 20) : Calls Try.prog 9 #[.slice A n c, .slice A2 m c2] w fun e w' => e = .returned (.bool false) ∧ w' = w := by
  have e : (decide ((40 : Int) < n) || decide ((20 : Int) < m)) = false := by
    rw [Bool.or_eq_false_iff]
    exact ⟨decide_eq_false (by omega), decide_eq_false (by omega)⟩
  rw [← e]; exact long_any w A A2 n c m c2
theorem long_yes (w : World) (A A2 : Option Addr) (n c m c2 : Nat) (h : ¬ (n ≤ 40 ∧ m ≤ 20)) : Calls Try.prog 9 #[.slice A n c, .slice A2 m c2] w fun e w' => e = .returned (.bool true) ∧ w' = w := by
  have e : (decide ((40 : Int) < n) || decide ((20 : Int) < m)) = true := by
    rw [Bool.or_eq_true]
    by_cases h1 : n ≤ 40
    · exact .inr (decide_eq_true (by omega))
    · exact .inl (decide_eq_true (by omega))
  rw [← e]; exact long_any w A A2 n c m c2
end Go.Proofs.Ytlccejbomgknkaa
