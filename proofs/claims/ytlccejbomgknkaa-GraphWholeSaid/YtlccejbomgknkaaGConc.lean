/- The statement's own little graph: its way and its order. -/
import Derived.Test.YtlccejbomgknkaaGMade
namespace Go.Proofs.Ytlccejbomgknkaa
set_option linter.unusedVariables false
set_option linter.unusedSimpArgs false
open Go.RowKit Go.Maps Go.Proofs.YtlccejbomgknkaaW.PrintWords Go.Proofs.YtlccejbomgknkaaW.PrintLast

theorem Kahn.eq_nil {N : List ByteArray} {E : Rel} {out : List ByteArray} (h : Kahn N E out) (hl : out.length = 0) : out = [] := List.eq_nil_of_length_eq_zero hl
theorem Kahn.cut {N : List ByteArray} {E : Rel} {out : List ByteArray} {n : Nat} (h : Kahn N E out) (hl : out.length = n + 1) :
    ∃ o x, out = o ++ [x] ∧ o.length = n ∧ Kahn N E o ∧ x ∈ N ∧ x ∉ o ∧ (∀ y, E x y → y ∈ o) ∧ (∀ z ∈ N, z ∉ o → (∀ y, E z y → y ∈ o) → z = x ∨ bs x < bs z) := by
  cases h with
  | nil => simp at hl
  | snoc h hN hx hall hleast => exact ⟨_, _, rfl, by simpa using hl, h, hN, hx, hall, hleast⟩
theorem bs_irrefl (x y : ByteArray) (h1 : bs x < bs y) (h2 : bs y < bs x) : False := List.lt_irrefl _ (List.lt_trans h1 h2)
/-- There is one such row of each length. -/
theorem kahn_unique {N : List ByteArray} {E : Rel} : ∀ (n : Nat) {o p : List ByteArray}, Kahn N E o → Kahn N E p → o.length = n → p.length = n → o = p
  | 0, o, p, ho, hp, h1, h2 => by rw [ho.eq_nil h1, hp.eq_nil h2]
  | n + 1, o, p, ho, hp, h1, h2 => by
    obtain ⟨o', x, rfl, l1, k1, a1, b1, c1, d1⟩ := ho.cut h1
    obtain ⟨p', y, rfl, l2, k2, a2, b2, c2, d2⟩ := hp.cut h2
    obtain rfl := kahn_unique n k1 k2 l1 l2
    rcases d1 y a2 b2 c2 with h | h
    · rw [h]
    · rcases d2 x a1 b1 c1 with h' | h'
      · rw [h']
      · exact absurd (bs_irrefl _ _ h h') (fun h => h)

def na : ByteArray := ⟨#[97]⟩
def nb : ByteArray := ⟨#[98]⟩
def nc : ByteArray := ⟨#[99]⟩
def nd : ByteArray := ⟨#[100]⟩
/-- The statement's own edges. -/
def el : List (ByteArray × ByteArray) := [(na, nb), (na, nc), (nb, nd), (nc, nd)]
def eE : Rel := fun x y => (x, y) ∈ el
theorem eE_iff (x y : ByteArray) : eE x y ↔ (x = na ∧ y = nb) ∨ (x = na ∧ y = nc) ∨ (x = nb ∧ y = nd) ∨ (x = nc ∧ y = nd) := by
  unfold eE el
  simp only [List.mem_cons, Prod.mk.injEq, List.not_mem_nil, or_false]
theorem ab : na ≠ nb := by decide
theorem ac : na ≠ nc := by decide
theorem ad_ : na ≠ nd := by decide
theorem bc : nb ≠ nc := by decide
theorem bd : nb ≠ nd := by decide
theorem cd : nc ≠ nd := by decide
theorem lbc : bs nb < bs nc := by decide
theorem lab : bs na < bs nb := by decide

theorem dist_bd : Dist eE nb nd 1 := ⟨⟨nd, (eE_iff _ _).2 (.inr (.inr (.inl ⟨rfl, rfl⟩))), rfl⟩, fun m hm => by
  obtain rfl : m = 0 := by omega
  exact bd⟩
theorem dist_cd : Dist eE nc nd 1 := ⟨⟨nd, (eE_iff _ _).2 (.inr (.inr (.inr ⟨rfl, rfl⟩))), rfl⟩, fun m hm => by
  obtain rfl : m = 0 := by omega
  exact cd⟩
theorem dist_ad : Dist eE na nd 2 := ⟨⟨nb, (eE_iff _ _).2 (.inl ⟨rfl, rfl⟩), nd, (eE_iff _ _).2 (.inr (.inr (.inl ⟨rfl, rfl⟩))), rfl⟩, fun m hm => by
  match m, hm with
  | 0, _ => exact ad_
  | 1, _ =>
    rintro ⟨z, hz, rfl⟩
    rcases (eE_iff _ _).1 hz with ⟨_, h⟩ | ⟨_, h⟩ | ⟨h, _⟩ | ⟨h, _⟩
    · exact bd h.symm
    · exact cd h.symm
    · exact ab h
    · exact ac h⟩
/-- The way from a to d. -/
theorem way_ad {n : Nat} {p : List ByteArray} (hd : Dist eE na nd n) (h : GW eE nd n na p) : p = [na, nb, nd] := by
  obtain rfl := dist_unique hd dist_ad
  obtain ⟨y, q, rfl, ⟨y2, q2, rfl, hq2, hE2, _, _⟩, hE, hD, hleast⟩ := h
  have hq2' : q2 = [y2] := hq2
  subst hq2'
  have hy : y = nb := by
    rcases (eE_iff _ _).1 hE with ⟨_, h⟩ | ⟨_, h⟩ | ⟨h, _⟩ | ⟨h, _⟩
    · exact h
    · subst h
      rcases hleast nb ((eE_iff _ _).2 (.inl ⟨rfl, rfl⟩)) dist_bd with h | h
      · exact absurd h bc
      · exact absurd (bs_irrefl _ _ lbc h) (fun h => h)
    · exact absurd h ab
    · exact absurd h ac
  subst hy
  have hy2 : y2 = nd := by
    rcases (eE_iff _ _).1 hE2 with ⟨h, _⟩ | ⟨h, _⟩ | ⟨_, h⟩ | ⟨h, _⟩
    · exact absurd h.symm ab
    · exact absurd h.symm ab
    · exact h
    · exact absurd h bc
  rw [hy2]

theorem out_a {y : ByteArray} (h : eE na y) : y = nb ∨ y = nc := by
  rcases (eE_iff _ _).1 h with ⟨_, h⟩ | ⟨_, h⟩ | ⟨h, _⟩ | ⟨h, _⟩
  · exact .inl h
  · exact .inr h
  · exact absurd h ab
  · exact absurd h ac
theorem out_b {y : ByteArray} (h : eE nb y) : y = nd := by
  rcases (eE_iff _ _).1 h with ⟨h, _⟩ | ⟨h, _⟩ | ⟨_, h⟩ | ⟨h, _⟩
  · exact absurd h.symm ab
  · exact absurd h.symm ab
  · exact h
  · exact absurd h bc
theorem out_c {y : ByteArray} (h : eE nc y) : y = nd := by
  rcases (eE_iff _ _).1 h with ⟨h, _⟩ | ⟨h, _⟩ | ⟨h, _⟩ | ⟨_, h⟩
  · exact absurd h.symm ac
  · exact absurd h.symm ac
  · exact absurd h.symm bc
  · exact h
theorem out_d {y : ByteArray} (h : eE nd y) : False := by
  rcases (eE_iff _ _).1 h with ⟨h, _⟩ | ⟨h, _⟩ | ⟨h, _⟩ | ⟨h, _⟩
  · exact ad_ h.symm
  · exact ad_ h.symm
  · exact bd h.symm
  · exact cd h.symm

section
variable {N : List ByteArray} (hN : ∀ z, z ∈ N ↔ ∃ e ∈ el, e.1 = z ∨ e.2 = z)
include hN
theorem inN4 (z : ByteArray) : z ∈ N ↔ z ∈ [na, nb, nc, nd] := by
  rw [hN z]
  unfold el
  simp only [List.mem_cons, List.not_mem_nil, or_false, exists_eq_or_imp, exists_eq_left]
  constructor
  · rintro ((h | h) | (h | h) | (h | h) | (h | h)) <;> simp [h.symm]
  · rintro (h | h | h | h) <;> simp [h.symm]
theorem kahn4 : Kahn N eE [nd, nb, nc, na] := by
  have hm := inN4 hN
  have k1 : Kahn N eE ([] ++ [nd]) := .snoc .nil ((hm nd).2 (by simp)) (by simp) (fun y h => absurd (out_d h) (fun h => h)) (fun z hz _ hall => by
    rcases List.mem_cons.1 ((hm z).1 hz) with rfl | hz
    · exact absurd (hall nb ((eE_iff _ _).2 (.inl ⟨rfl, rfl⟩))) List.not_mem_nil
    · rcases List.mem_cons.1 hz with rfl | hz
      · exact absurd (hall nd ((eE_iff _ _).2 (.inr (.inr (.inl ⟨rfl, rfl⟩))))) List.not_mem_nil
      · rcases List.mem_cons.1 hz with rfl | hz
        · exact absurd (hall nd ((eE_iff _ _).2 (.inr (.inr (.inr ⟨rfl, rfl⟩))))) List.not_mem_nil
        · rw [List.mem_singleton] at hz; exact .inl hz)
  have k2 : Kahn N eE ([nd] ++ [nb]) := .snoc k1 ((hm nb).2 (by simp)) (by simpa using bd) (fun y h => by rw [out_b h]; simp) (fun z hz ho hall => by
    rcases List.mem_cons.1 ((hm z).1 hz) with rfl | hz
    · have := hall nb ((eE_iff _ _).2 (.inl ⟨rfl, rfl⟩))
      simp at this
      exact absurd this bd
    · rcases List.mem_cons.1 hz with rfl | hz
      · exact .inl rfl
      · rcases List.mem_cons.1 hz with rfl | hz
        · exact .inr lbc
        · rw [List.mem_singleton] at hz; subst hz; simp at ho)
  have k3 : Kahn N eE ([nd, nb] ++ [nc]) := .snoc k2 ((hm nc).2 (by simp)) (by simpa using ⟨cd, Ne.symm bc⟩) (fun y h => by rw [out_c h]; simp) (fun z hz ho hall => by
    rcases List.mem_cons.1 ((hm z).1 hz) with rfl | hz
    · have := hall nc ((eE_iff _ _).2 (.inr (.inl ⟨rfl, rfl⟩)))
      simp at this
      rcases this with h | h
      · exact absurd h cd
      · exact absurd h.symm bc
    · rcases List.mem_cons.1 hz with rfl | hz
      · simp at ho
      · rcases List.mem_cons.1 hz with rfl | hz
        · exact .inl rfl
        · rw [List.mem_singleton] at hz; subst hz; simp at ho)
  exact .snoc k3 ((hm na).2 (by simp)) (by simpa using ⟨ad_, ab, ac⟩) (fun y h => by rcases out_a h with rfl | rfl <;> simp) (fun z hz ho hall => by
    rcases List.mem_cons.1 ((hm z).1 hz) with rfl | hz
    · exact .inl rfl
    · rcases List.mem_cons.1 hz with rfl | hz
      · simp at ho
      · rcases List.mem_cons.1 hz with rfl | hz
        · simp at ho
        · rw [List.mem_singleton] at hz; subst hz; simp at ho)
/-- The order of the little graph. -/
theorem order4 {out : List ByteArray} (h : Kahn N eE out) (hall : ∀ x ∈ N, x ∈ out) : out = [nd, nb, nc, na] := by
  have hn : out.length = 4 := by
    refine nodup_same (t := [nd, nb, nc, na]) h.nodup.1 (kahn4 hN).nodup.1 fun x => ?_
    have h1 : x ∈ out ↔ x ∈ N := ⟨h.nodup.2 x, hall x⟩
    rw [h1, inN4 hN]
    simp only [List.mem_cons, List.not_mem_nil, or_false]
    constructor
    · rintro (h | h | h | h) <;> simp [h]
    · rintro (h | h | h | h) <;> simp [h]
  exact kahn_unique 4 h (kahn4 hN) hn rfl
/-- It is not stuck. -/
theorem order4_ok {out : List ByteArray} (h1 : ∃ x ∈ N, x ∉ out) (h2 : ∀ z ∈ N, z ∉ out → ∃ y, eE z y ∧ y ∉ out) : False := by
  have hm := inN4 hN
  have d1 : nd ∈ out := Classical.byContradiction fun hn => by
    obtain ⟨y, hy, _⟩ := h2 nd ((hm nd).2 (by simp)) hn
    exact out_d hy
  have b1 : nb ∈ out := Classical.byContradiction fun hn => by
    obtain ⟨y, hy, ho⟩ := h2 nb ((hm nb).2 (by simp)) hn
    rw [out_b hy] at ho; exact ho d1
  have c1 : nc ∈ out := Classical.byContradiction fun hn => by
    obtain ⟨y, hy, ho⟩ := h2 nc ((hm nc).2 (by simp)) hn
    rw [out_c hy] at ho; exact ho d1
  have a1 : na ∈ out := Classical.byContradiction fun hn => by
    obtain ⟨y, hy, ho⟩ := h2 na ((hm na).2 (by simp)) hn
    rcases out_a hy with rfl | rfl
    · exact ho b1
    · exact ho c1
  obtain ⟨x, hx, ho⟩ := h1
  have := (hm x).1 hx
  simp only [List.mem_cons, List.not_mem_nil, or_false] at this
  rcases this with rfl | rfl | rfl | rfl
  · exact ho a1
  · exact ho b1
  · exact ho c1
  · exact ho d1
end
end Go.Proofs.Ytlccejbomgknkaa
