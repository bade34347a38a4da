/- TreeKeeps: the tree, its copy and what it listed, in one state. -/
import Derived.Test.YtpmeefdegcllkaaTKeepA
namespace Go.Proofs.Ytpmeefdegcllkaa
set_option linter.unusedVariables false
set_option linter.unusedSimpArgs false
open Go.RowKit Go.Shelf Go.Maps Go.Proofs.YtpmeefdegcllkaaW.PrintWords Go.Proofs.YtpmeefdegcllkaaW.PrintLast
open PTreeLists

structure K2 (w W : World) (t b n : Nat) (F : List Pr) (B2 t2 b2 n0 : Nat) (F0 : List Pr) : Prop where
  k : K1 w W t b n F
  c : TreeAt W B2 t2 b2 n0 F0
  lt : t < B2 ∧ b < B2
structure K3 (w W : World) (t b n : Nat) (F : List Pr) (B2 t2 b2 n0 : Nat) (F0 : List Pr) (A2 : Option Addr) (c2 : Nat) (r : List ByteArray) : Prop where
  q : K2 w W t b n F B2 t2 b2 n0 F0
  own : OwnS W w.heap.size A2 c2 r
section
variable {w W W' : World} {t b n : Nat} {F : List Pr} {B2 t2 b2 n0 : Nat} {F0 : List Pr} {A2 : Option Addr} {c2 : Nat} {r : List ByteArray}
theorem K2.below (h : K2 w W t b n F B2 t2 b2 n0 F0) (hb : Below W.heap.size W W') : K2 w W' t b n F B2 t2 b2 n0 F0 := ⟨h.k.below hb, h.c.below hb, h.lt⟩
theorem K3.below (h : K3 w W t b n F B2 t2 b2 n0 F0 A2 c2 r) (hb : Below W.heap.size W W') : K3 w W' t b n F B2 t2 b2 n0 F0 A2 c2 r := ⟨h.q.below hb, OwnS.below h.own hb⟩
theorem K3.mov (h : K3 w W t b n F B2 t2 b2 n0 F0 A2 c2 r) {n' : Nat} {F' : List Pr} (h' : K1 w W' t b n' F') (hm : Moved t b W W') : K3 w W' t b n' F' B2 t2 b2 n0 F0 A2 c2 r :=
  ⟨⟨h', h.q.c.apart hm h.q.lt.1 h.q.lt.2, h.q.lt⟩, OwnS.mov h.own h.q.k.T hm⟩
theorem K1.copy (h : K1 w W t b n F) : Calls Try.prog 14 #[.pointer (some ⟨t, 0, none⟩)] W fun e W' => ∃ t2 b2, e = .returned (.pointer (some ⟨t2, 0, none⟩)) ∧ K2 w W' t b n F W.heap.size t2 b2 n F := by
  refine (copy_any h.T).mono ?_
  rintro e W' ⟨t2, b2, rfl, h2, hb⟩
  exact ⟨t2, b2, rfl, h.below hb, h2, h.T.lt⟩
theorem K2.listed (h : K2 w W t b n F B2 t2 b2 n0 F0) : Calls Try.prog 9 #[.pointer (some ⟨t, 0, none⟩), .string ⟨#[]⟩] W fun e W' =>
    ∃ A c r, e = .returned (.tuple #[.slice A r.length c, .bool true]) ∧ K3 w W' t b n F B2 t2 b2 n0 F0 A c r ∧ Rise r ∧ (∀ x, x ∈ r ↔ x ∈ F.map Prod.fst) ∧ r.length = F.length := by
  refine (listed_any h.k.T h.k.hF ⟨#[]⟩).mono ?_
  rintro e W' ⟨A, c, r, rfl, ho, hr, hm, hb⟩
  exact ⟨A, c, r, rfl, ⟨h.below hb, OwnS.lower ho h.k.bl.size⟩, hr, fun x => by rw [hm x]; simp [pre_nil], listed_len h.k.T hr hm⟩
theorem K3.listed (h : K3 w W t b n F B2 t2 b2 n0 F0 A2 c2 r) (hr : Rise r) (hm : ∀ x, x ∈ r ↔ x ∈ F.map Prod.fst) : Calls Try.prog 9 #[.pointer (some ⟨t, 0, none⟩), .string ⟨#[]⟩] W fun e W' =>
    ∃ A c, e = .returned (.tuple #[.slice A r.length c, .bool true]) ∧ K3 w W' t b n F B2 t2 b2 n0 F0 A2 c2 r ∧ OwnS W' w.heap.size A c r := by
  refine (listed_any h.q.k.T h.q.k.hF ⟨#[]⟩).mono ?_
  rintro e W' ⟨A, c, r', rfl, ho, hr', hm', hb⟩
  obtain rfl : r' = r := rise_ext hr' hr (fun x => by rw [hm' x, hm x]; simp [pre_nil])
  exact ⟨A, c, rfl, h.below hb, OwnS.lower ho h.q.k.bl.size⟩
theorem K3.write (h : K3 w W t b n F B2 t2 b2 n0 F0 A2 c2 r) (hn : n ≤ 100000) (p s : ByteArray) :
    Calls Try.prog 8 #[.pointer (some ⟨t, 0, none⟩), .string p, .string s] W fun e W' => ∃ (c : Int) (n' : Nat) (F' : List Pr), e = .returned (.int .i64 c) ∧ WriteIs p s n F c n' F' ∧ K3 w W' t b n' F' B2 t2 b2 n0 F0 A2 c2 r := by
  refine (h.q.k.write hn p s).mono ?_
  rintro e W' ⟨c, n', F', rfl, hw, h1, _, hm⟩
  exact ⟨c, n', F', rfl, hw, h.mov h1 hm⟩
theorem K3.remove (h : K3 w W t b n F B2 t2 b2 n0 F0 A2 c2 r) (hn : n ≤ 100000) (p : ByteArray) :
    Calls Try.prog 12 #[.pointer (some ⟨t, 0, none⟩), .string p] W fun e W' => ∃ (c : Int) (n' : Nat) (F' : List Pr), e = .returned (.int .i64 c) ∧ RemIs p n F c n' F' ∧ K3 w W' t b n' F' B2 t2 b2 n0 F0 A2 c2 r := by
  refine (h.q.k.remove hn p).mono ?_
  rintro e W' ⟨c, n', F', rfl, hw, h1, _, hm⟩
  exact ⟨c, n', F', rfl, hw, h.mov h1 hm⟩
theorem K3.read (h : K3 w W t b n F B2 t2 b2 n0 F0 A2 c2 r) (q : ByteArray) : Calls Try.prog 17 #[.pointer (some ⟨t, 0, none⟩), .string q] W fun e W' => e = .returned (.tuple #[.string (rdF F q).1, .int .i64 (rdF F q).2]) ∧ K3 w W' t b n F B2 t2 b2 n0 F0 A2 c2 r := by
  refine (read_any h.q.k.T q).mono ?_
  rintro e W' ⟨rfl, m, rfl⟩
  exact ⟨rfl, h.below (pw_below_drewN (Below.refl _ _) m)⟩
theorem K3.readC (h : K3 w W t b n F B2 t2 b2 n0 F0 A2 c2 r) (q : ByteArray) : Calls Try.prog 17 #[.pointer (some ⟨t2, 0, none⟩), .string q] W fun e W' => e = .returned (.tuple #[.string (rdF F0 q).1, .int .i64 (rdF F0 q).2]) ∧ K3 w W' t b n F B2 t2 b2 n0 F0 A2 c2 r := by
  refine (read_any h.q.c q).mono ?_
  rintro e W' ⟨rfl, m, rfl⟩
  exact ⟨rfl, h.below (pw_below_drewN (Below.refl _ _) m)⟩
theorem K3.mark (h : K3 w W t b n F B2 t2 b2 n0 F0 A2 c2 r) : Calls Try.prog 15 #[.pointer (some ⟨t, 0, none⟩)] W fun e W' => e = .returned (.int .i64 n) ∧ W' = W := mark_any h.q.k.T
/-- What a write that went well leaves. -/
theorem WriteIs.ok {p s : ByteArray} {n' : Nat} {F' : List Pr} (h : WriteIs p s n F 0 n' F') :
    isP p = true ∧ s.size ≤ 4096 ∧ rdF F' p = (s, 0) ∧ (∀ q, q ≠ p → rdF F' q = rdF F q) ∧ ((rdF F p = (s, 0) ∧ n' = n) ∨ (rdF F p ≠ (s, 0) ∧ n' = n + 1)) ∧ n' ≤ n + 1 ∧ (∀ q, q ∈ F.map Prod.fst → q ∈ F'.map Prod.fst) := by
  cases h with
  | same hp hl hg =>
    have : rdF F p = (s, 0) := by unfold rdF; rw [if_pos hp, hg]
    exact ⟨hp, hl, this, fun _ _ => rfl, .inl ⟨this, rfl⟩, by omega, fun _ h => h⟩
  | new hp hl hg hf =>
    have : rdF F p = (⟨#[]⟩, 4) := by unfold rdF; rw [if_pos hp, hg]
    refine ⟨hp, hl, by rw [rdF_put F hp, if_pos rfl], fun q hq => by rw [rdF_put F hp, if_neg hq], .inr ⟨by rw [this]; simp, rfl⟩, by omega, fun q h => ?_⟩
    obtain ⟨u, hu⟩ := mem_getF.1 h
    rw [mem_getF, getF_put]
    by_cases e : q = p
    · exact ⟨s, if_pos e⟩
    · exact ⟨u, by rw [if_neg e]; exact hu⟩
  | other u hp hl hg hu =>
    have : rdF F p = (u, 0) := by unfold rdF; rw [if_pos hp, hg]
    refine ⟨hp, hl, by rw [rdF_put F hp, if_pos rfl], fun q hq => by rw [rdF_put F hp, if_neg hq], .inr ⟨by rw [this]; simp [hu], rfl⟩, by omega, fun q h => ?_⟩
    obtain ⟨u, hu⟩ := mem_getF.1 h
    rw [mem_getF, getF_put]
    by_cases e : q = p
    · exact ⟨s, if_pos e⟩
    · exact ⟨u, by rw [if_neg e]; exact hu⟩
/-- A write of what stands there. -/
theorem WriteIs.again {p s : ByteArray} {c : Int} {n' : Nat} {F' : List Pr} (h : WriteIs p s n F c n' F') (hp : isP p = true) (hl : s.size ≤ 4096) (hr : rdF F p = (s, 0)) : c = 0 ∧ n' = n ∧ F' = F := by
  have hg : getF F p = some s := by
    unfold rdF at hr
    rw [if_pos hp] at hr
    cases hg : getF F p with
    | none => rw [hg] at hr; simp at hr
    | some u => rw [hg] at hr; simp at hr; rw [hr]
  cases h with
  | arg h => rw [hp] at h; cases h
  | long h h2 => omega
  | same => exact ⟨rfl, rfl, rfl⟩
  | full h h2 h3 => rw [hg] at h3; cases h3
  | new h h2 h3 => rw [hg] at h3; cases h3
  | other u h h2 h3 h4 => rw [hg] at h3; injection h3 with h3; exact absurd h3.symm h4
/-- A write that did not go well. -/
theorem WriteIs.bad {p s : ByteArray} {c : Int} {n' : Nat} {F' : List Pr} (h : WriteIs p s n F c n' F') (hc : c ≠ 0) :
    n' = n ∧ F' = F ∧ ((c = 2 ∧ isP p = false) ∨ (c = 3 ∧ isP p = true ∧ 4096 < s.size) ∨ (c = 8 ∧ isP p = true ∧ F.length = 256)) := by
  cases h with
  | arg h => exact ⟨rfl, rfl, .inl ⟨rfl, h⟩⟩
  | long h h2 => exact ⟨rfl, rfl, .inr (.inl ⟨rfl, h, h2⟩)⟩
  | same => exact absurd rfl hc
  | full h h2 h3 h4 => exact ⟨rfl, rfl, .inr (.inr ⟨rfl, h, h4⟩)⟩
  | new => exact absurd rfl hc
  | other => exact absurd rfl hc
theorem RemIs.ok {p : ByteArray} {c : Int} {n' : Nat} {F' : List Pr} (h : RemIs p n F c n' F') (hp : isP p = true) (hr : (rdF F p).2 = 0) : c = 0 ∧ n' = n + 1 ∧ rdF F' p = (⟨#[]⟩, 4) := by
  cases h with
  | no h1 => exact absurd hr h1
  | yes h1 => exact ⟨rfl, rfl, rdF_del F hp⟩
theorem RemIs.none {p : ByteArray} {c : Int} {n' : Nat} {F' : List Pr} (h : RemIs p n F c n' F') (hr : rdF F p = (⟨#[]⟩, 4)) : c = 4 ∧ n' = n ∧ F' = F := by
  cases h with
  | no h1 => exact ⟨by rw [hr], rfl, rfl⟩
  | yes h1 => rw [hr] at h1; cases h1
end
end Go.Proofs.Ytpmeefdegcllkaa
