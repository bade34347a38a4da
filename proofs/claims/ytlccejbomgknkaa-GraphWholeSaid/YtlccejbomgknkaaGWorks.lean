/- works: the statement's own little graph answers. -/
import Derived.Test.YtlccejbomgknkaaGConc
namespace Go.Proofs.Ytlccejbomgknkaa
set_option linter.unusedVariables false
set_option linter.unusedSimpArgs false
open Go.RowKit Go.Maps Go.Proofs.YtlccejbomgknkaaW.PrintWords Go.Proofs.YtlccejbomgknkaaW.PrintLast

/-- A row that is written out. -/
theorem C_lit (w : World) (xs : List ByteArray) (hx : xs.length ≤ 1000000) : Kd.C Kd.string (w.alloc (.cells (xs.map Value.string).toArray 9)) (some ⟨w.heap.size, 0, none⟩) xs.length xs := by
  refine ⟨rfl, by omega, fun _ => ⟨_, rfl, fun j p hj => ?_⟩⟩
  have hc : (w.alloc (.cells (xs.map Value.string).toArray 9)).heap[w.heap.size]? = some (.cells (xs.map Value.string).toArray 9 (0, 0)) := (MapKept.heap_alloc w _).1
  refine ⟨[.string p], rfl, rfl, fun i u hi => ?_⟩
  have hi0 : i = 0 := by have := (List.getElem?_eq_some_iff.1 hi).1; simpa using this
  subst hi0
  simp only [List.getElem?_cons_zero, Option.some.injEq] at hi
  subst hi
  rw [Addr.add_lit]
  simp only [World.cell?, hc]
  simp [Kd.string, hj, show (Kd.scalar Value.string (fun _ => rfl)).sz = 1 from rfl]

theorem C_of_k45 {w : World} {A : Option Addr} {n : Nat} {xs : List PGraphWays.S45} (h : Kd.C PGraphWays.k45 w A n xs) : Kd.C kE w A n (xs.map (fun x => (x.f0, x.f1))) := by
  obtain ⟨h1, h2, h3⟩ := h
  refine ⟨by rw [List.length_map]; exact h1, h2, fun hn => ?_⟩
  obtain ⟨ad, hA, hc⟩ := h3 hn
  refine ⟨ad, hA, fun j p hj => ?_⟩
  rw [List.getElem?_map] at hj
  obtain ⟨x, hx, rfl⟩ := Option.map_eq_some_iff.1 hj
  exact hc j x hx

theorem edges8 {w : World} (A : Option Addr) (c : Nat) (hc : 8 ≤ c) (h : Kd.C Kd.string w A 8 [na, nb, na, nc, nb, nd, nc, nd]) :
    Calls Try.prog 36 #[.slice A 8 c] w fun e w' => ∃ (A' : Option Addr) (c' : Nat), e = .returned (.slice A' 4 c') ∧ Kd.C kE w' A' 4 el ∧ Below w.heap.size w w' := by
  refine (PGraphWays.brickyardlaw19_edges.calls 10 A c [na, nb, na, nc, nb, nd, nc, nd] [⟨na, nb⟩, ⟨na, nc⟩, ⟨nb, nd⟩, ⟨nc, nd⟩] w h hc (by kernel_rfl)).mono ?_
  rintro e w' ⟨v, rfl, hR, hb⟩
  obtain ⟨A', c', rfl⟩ := Kd.R_slice hR
  exact ⟨A', c', rfl, C_of_k45 (Kd.R_reads' hR).2.2, hb⟩

set_option maxRecDepth 100000 in
set_option maxHeartbeats 1000000 in
theorem works_any (w : World) : Calls Try.prog 8 #[] w fun e w' => e = .returned (.bool true) ∧ Below w.heap.size w w' := by
  have H1 : Hid (Calls Try.prog 36 #[.slice (some ⟨w.heap.size, 0, none⟩) 8 8] (w.alloc (.cells #[.string na, .string nb, .string na, .string nc, .string nb, .string nd, .string nc, .string nd] 9)) fun e w' => ∃ (A' : Option Addr) (c' : Nat), e = .returned (.slice A' 4 c') ∧ Kd.C kE w' A' 4 el ∧ Below w.heap.size w w') := by
    refine (edges8 (some ⟨w.heap.size, 0, none⟩) 8 (Nat.le_refl _) (C_lit w [na, nb, na, nc, nb, nd, nc, nd] (by decide))).mono ?_
    rintro e w' ⟨A', c', rfl, hC, hb⟩
    exact ⟨A', c', rfl, hC, ((Below.refl _ w).alloc (Nat.le_refl _) _).trans (hb.mono (by simp))⟩
  go_enter Try.func8, Try.ntmps8
  go_wp2_with fail
  refine H1.out.mono ?_
  rintro e w1 ⟨A1, c1, rfl, hC1, hb1⟩
  have H2 : Hid (Calls Try.prog 35 #[.slice A1 4 c1] w1 fun e w' => ∃ g N, e = .returned (.pointer (some ⟨g, 0, none⟩)) ∧ GraphAt w' w.heap.size g N eE ∧ (∀ z, z ∈ N ↔ ∃ e ∈ el, e.1 = z ∨ e.2 = z) ∧ N.length ≤ 8 ∧ Below w.heap.size w w') := by
    refine (New_any A1 c1 el hC1 (by decide)).mono ?_
    rintro e w2 ⟨rfl, N, hG, hm, hln, hK⟩
    exact ⟨_, N, rfl, hG.base hb1.size, hm, hln, hb1.trans (hK.below.mono hb1.size)⟩
  clear hC1 hb1 H1
  go_wp2_with fail
  refine H2.out.mono ?_
  rintro e w2 ⟨g, N, rfl, hG, hm, hln, hb2⟩
  have H3 : Hid (Calls Try.prog 12 #[.pointer (some ⟨g, 0, none⟩), .string na, .string nd] w2 fun e w' => ∃ (A : Option Addr) (c : Nat), e = .returned (.tuple #[.slice A 3 c, .bool true]) ∧ Kd.C Kd.string w' A 3 [na, nb, nd] ∧ Below w2.heap.size w2 w') := by
    refine (Way_any hG (by omega) na nd).mono ?_
    rintro e w3 ⟨hb, ⟨A, c, p, d, rfl, _, _, hD, hW, hO⟩ | ⟨_, hn⟩⟩
    · obtain rfl := way_ad hD hW
      exact ⟨A, c, rfl, hO.reads, hb⟩
    · exact absurd ⟨(inN4 hm na).2 (by simp), (inN4 hm nd).2 (by simp), reach_dist.2 ⟨2, dist_ad⟩⟩ hn
  have X := Lib.hid (And.intro hG (And.intro hm (And.intro hln hb2)))
  clear hG hm hln hb2 H2
  go_wp2_with fail
  refine H3.out.mono ?_
  rintro e w3 ⟨A3, c3, rfl, hC3, hb3⟩
  have H4 : Hid (Calls Try.prog 30 #[.pointer (some ⟨g, 0, none⟩)] w3 fun e w' => ∃ (A : Option Addr) (c : Nat), e = .returned (.tuple #[.slice A 4 c, .bool true]) ∧ Kd.C Kd.string w' A 4 [nd, nb, nc, na] ∧ Below w3.heap.size w3 w') := by
    obtain ⟨hG, hm, hln, hb2⟩ := X.out
    refine (Order_any (hG.below hb3) (by omega)).mono ?_
    rintro e w4 ⟨hb, ⟨A, c, out, rfl, hk, hall, hO⟩ | ⟨_, out, _, h1, h2⟩⟩
    · obtain rfl := order4 hm hk hall
      exact ⟨A, c, rfl, hO.reads, hb⟩
    · exact absurd (order4_ok hm h1 h2) (fun h => h)
  have Y := Lib.hid (And.intro hC3 hb3)
  clear hC3 hb3 H3
  go_wp2_with fail
  refine H4.out.mono ?_
  rintro e w4 ⟨A4, c4, rfl, hC4, hb4⟩
  have Z := Lib.hid (And.intro hC4 hb4)
  have hB4 : Hid (Below w.heap.size w w4) := by
    obtain ⟨hG, hm, hln, hb2⟩ := X.out
    exact (hb2.trans (Y.out.2.mono hb2.size)).trans (hb4.mono (Nat.le_trans hb2.size Y.out.2.size))
  clear hC4 hb4 H4
  have H5 : Hid (Calls Try.prog 14 #[.slice A3 3 c3, .slice (some ⟨w4.heap.size, 0, none⟩) 3 3] (w4.alloc (.cells #[.string na, .string nb, .string nd] 9)) fun e w' => e = .returned (.bool true) ∧ ∃ q, w' = (w4.alloc (.cells #[.string na, .string nb, .string nd] 9)).drewN q) := by
    have hs : w3.heap.size ≤ w4.heap.size := Z.out.2.size
    have h1 : Kd.C Kd.string (w4.alloc (.cells #[.string na, .string nb, .string nd] 9)) A3 3 [na, nb, nd] := Kd.C_below (Y.out.1) (Z.out.2.trans (((Below.refl _ w4).alloc (Nat.le_refl _) _).mono hs))
    refine (Equal_any A3 (some ⟨w4.heap.size, 0, none⟩) c3 3 [na, nb, nd] [na, nb, nd] h1 (C_lit w4 [na, nb, nd] (by decide))).mono ?_
    rintro e w5 ⟨rfl, hq⟩
    exact ⟨by simp, hq⟩
  go_wp2_with fail
  refine H5.out.mono ?_
  rintro e w5 ⟨rfl, q, rfl⟩
  obtain ⟨w5, hw5⟩ : ∃ w5, w5 = (w4.alloc (.cells #[.string na, .string nb, .string nd] 9)).drewN q := ⟨_, rfl⟩
  have hb5 : Hid (Below w4.heap.size w4 w5) := by
    rw [hw5]
    exact pw_below_drewN ((Below.refl _ w4).alloc (Nat.le_refl _) _) q
  rw [← hw5]
  clear H5 hw5
  have H6 : Hid (Calls Try.prog 14 #[.slice A4 4 c4, .slice (some ⟨w5.heap.size, 0, none⟩) 4 4] (w5.alloc (.cells #[.string nd, .string nb, .string nc, .string na] 9)) fun e w' => e = .returned (.bool true) ∧ ∃ q, w' = (w5.alloc (.cells #[.string nd, .string nb, .string nc, .string na] 9)).drewN q) := by
    have h1 : Kd.C Kd.string (w5.alloc (.cells #[.string nd, .string nb, .string nc, .string na] 9)) A4 4 [nd, nb, nc, na] := Kd.C_below (Z.out.1) (hb5.out.trans (((Below.refl _ w5).alloc (Nat.le_refl _) _).mono hb5.out.size))
    refine (Equal_any A4 (some ⟨w5.heap.size, 0, none⟩) c4 4 [nd, nb, nc, na] [nd, nb, nc, na] h1 (C_lit w5 [nd, nb, nc, na] (by decide))).mono ?_
    rintro e w6 ⟨rfl, hq⟩
    exact ⟨by simp, hq⟩
  go_wp2_with fail
  refine H6.out.mono ?_
  rintro e w6 ⟨rfl, q6, rfl⟩
  have hb6 : Hid (Below w.heap.size w ((w5.alloc (.cells #[.string nd, .string nb, .string nc, .string na] 9)).drewN q6)) :=
    hB4.out.trans ((hb5.out.trans ((pw_below_drewN ((Below.refl _ w5).alloc (Nat.le_refl _) _) q6).mono hb5.out.size)).mono hB4.out.size)
  clear H6
  go_wp2_with fail
  go_ret
  exact ⟨rfl, hb6.out⟩
end Go.Proofs.Ytlccejbomgknkaa
