/- made: the program's graph of edges and names. -/
import Derived.Test.YtlccejbomgknkaaGHelp
namespace Go.Proofs.Ytlccejbomgknkaa
set_option linter.unusedVariables false
set_option linter.unusedSimpArgs false
open Go.RowKit Go.Maps Go.Proofs.YtlccejbomgknkaaW.PrintWords Go.Proofs.YtlccejbomgknkaaW.PrintLast

set_option maxRecDepth 100000 in
set_option maxHeartbeats 2000000 in
theorem CloneE_any {w : World} (A : Option Addr) (c : Nat) (l : List (ByteArray × ByteArray)) (h : Kd.C kE w A l.length l) (hl : l.length ≤ 1000000) :
    Calls Try.prog 37 #[.slice A l.length c] w fun e w' => ∃ (A' : Option Addr) (c' : Nat), e = .returned (.slice A' l.length c') ∧ Kd.C kE w' A' l.length l ∧ Below w.heap.size w w' := by
  have q22 : ∀ (w : World) (a : Option Addr) (n c n' c' : Nat), (binOp .eql 22 (.slice a n c) (.slice none n' c')).run Try.prog w = .ok (.bool a.isNone) w := fun w a n c n' c' => Lib.run_eql_slice_nil w _ _ a n c n' c' Try.underlying22
  obtain ⟨i0, hi, hz0, hz1, hz2⟩ := info_parts infoE
  cases A with
  | none =>
    have h0 : l = [] := by
      refine List.eq_nil_of_length_eq_zero (Nat.le_antisymm (Nat.le_of_not_lt fun hn => ?_) (Nat.zero_le _))
      obtain ⟨_, hA, _⟩ := h.2.2 hn
      cases hA
    subst h0
    clear h
    go_enter Try.func37, Try.ntmps37
    go_wp2
    go_ret
    exact ⟨none, 0, rfl, kE_empty _ _, Below.refl _ _⟩
  | some ad =>
    have H := Lib.hid h
    have hc : Hid (∀ j u, (flat2 l)[j]? = some u → (w.alloc (.cells #[] 45)).cell? (ad.add j) = some u) := by
      intro j u hj
      obtain ⟨i, p, hp, hh⟩ := flat2_get l j u hj
      have hn : 0 < l.length := by have := (List.getElem?_eq_some_iff.1 hp).1; omega
      obtain ⟨b, off, hA, hcc⟩ := pair_form h hn
      injection hA with hA
      subst hA
      obtain ⟨c1, c2⟩ := hcc i p hp
      rw [Addr.add_lit]
      refine Lib.cell?_alloc_some _ ?_
      rcases hh with ⟨rfl, rfl⟩ | ⟨rfl, rfl⟩
      · exact c1
      · rw [← Nat.add_assoc]; exact c2
    clear h
    go_enter Try.func37, Try.ntmps37
    go_wp2_with (at_builtin; refine wpList_append_own _ rfl _ _ 22 rfl w.heap.size 45 i0 (.agg #[(.string ⟨#[]⟩), (.string ⟨#[]⟩)]) 2 32 Try.underlying22 hi hz0 hz1 hz2 rfl (by decide) _ _ _ rfl (World.ownsRow_made w #[] 0 (Nat.le_refl _) (Nat.zero_le _) rfl) ad l.length c (flat2 l) rfl ?qc1 ?qc2 ?qc3 ?qc4 ?qc5 ?qc6 ?_)
    case qc1 => exact flat2_len l
    case qc2 => exact hc.out
    case qc3 =>
      intro u hu
      obtain ⟨p, _, hp⟩ := List.mem_flatMap.1 hu
      simp only [List.mem_cons, List.not_mem_nil, or_false] at hp
      rcases hp with rfl | rfl <;> rfl
    case qc4 => unfold maxLen; omega
    case qc5 => omega
    case qc6 => simp
    intro v' w1 hown hgrow hnil
    have Z := Lib.hid (And.intro hown hgrow)
    clear hown hgrow hnil hc
    go_wp2
    go_ret
    obtain ⟨hown, hgrow⟩ := Z.out
    have hb : Below w.heap.size w w1 := ((Below.refl _ w).alloc (Nat.le_refl _) _).grown hgrow (by simp) (by intro k hk; simp [Value.ownBlock] at hk; omega)
    rcases hown.2 with ⟨rfl, h0⟩ | ⟨g, cap, cur, rfl, _, hg, _, _, hsz, htk⟩
    · have h0' : l = [] := List.eq_nil_of_length_eq_zero h0
      subst h0'
      exact ⟨none, 0, rfl, kE_empty _ _, hb⟩
    · have hcell : ∀ j u, (flat2 l)[j]? = some u → w1.cell? ⟨g, j, none⟩ = some u := by
        intro j u hj
        have hcg : w1.cell? ⟨g, j, none⟩ = cur[j]? := by simp [World.cell?, hg]
        rw [hcg, ← Array.getElem?_toList]
        rw [show flat2 l = cur.toList.take (l.length * 2) from by simpa using htk.symm] at hj
        rw [List.getElem?_take] at hj
        split at hj
        · exact hj
        · cases hj
      refine ⟨some ⟨g, 0, none⟩, cap, rfl, pair_back hl fun j p hp => ?_, hb⟩
      obtain ⟨f1, f2⟩ := flat2_at l j p hp
      exact ⟨by rw [Nat.zero_add]; exact hcell _ _ f1, by rw [Nat.zero_add]; exact hcell _ _ f2⟩

theorem Way_any {w : World} {B g : Nat} {N : List ByteArray} {E : Rel} (hG : GraphAt w B g N E) (hN : N.length ≤ 1000000) (x y : ByteArray) :
    Calls Try.prog 12 #[.pointer (some ⟨g, 0, none⟩), .string x, .string y] w (Wayed w N E x y) := by
  by_cases h : x ∈ N ∧ y ∈ N
  · exact way_in hG hN x y h.1 h.2
  · exact way_out hG x y h

set_option maxRecDepth 100000 in
set_option maxHeartbeats 2000000 in
theorem Below_any {w : World} {B g : Nat} {N : List ByteArray} {E : Rel} (hG : GraphAt w B g N E) (hN : N.length ≤ 1000000) (A : Option Addr) (c : Nat) (l : List ByteArray) (hl : Kd.C Kd.string w A l.length l) :
    Calls Try.prog 15 #[.pointer (some ⟨g, 0, none⟩), .slice A l.length c] w (Listed w (fun x => ∃ a ∈ l, a ∈ N ∧ Reach E a x)) := by
  have hc : ∃ bo lo, w.cell? ⟨g, 0, none⟩ = some (.map (some bo)) ∧ Calls Try.prog 43 #[.pointer (some ⟨g, 0, none⟩), .map (some bo), .slice A l.length c] w (Listed w (fun x => ∃ a ∈ l, a ∈ N ∧ Reach E a x)) ∧ lo = 0 := by
    obtain ⟨bo, bi, lo, li, hGr⟩ := hG
    exact ⟨bo, 0, hGr.cell0, closed_any ⟨bo, bi, lo, li, hGr⟩ hGr.mo hGr.no hGr.so hGr.inN hN A c l hl, rfl⟩
  obtain ⟨bo, _, h0, hC, _⟩ := hc
  have HC := Lib.hid hC
  clear hC hl
  go_enter Try.func15, Try.ntmps15
  go_wp2_with fail
  refine HC.out.mono ?_
  rintro e w1 ⟨v, r, rfl, hL⟩
  have HL := Lib.hid hL
  clear hL
  go_wp2_with fail
  go_ret
  exact ⟨_, r, rfl, HL.out⟩

set_option maxRecDepth 100000 in
set_option maxHeartbeats 2000000 in
theorem Above_any {w : World} {B g : Nat} {N : List ByteArray} {E : Rel} (hG : GraphAt w B g N E) (hN : N.length ≤ 1000000) (A : Option Addr) (c : Nat) (l : List ByteArray) (hl : Kd.C Kd.string w A l.length l) :
    Calls Try.prog 18 #[.pointer (some ⟨g, 0, none⟩), .slice A l.length c] w (Listed w (fun x => ∃ a ∈ l, a ∈ N ∧ Reach (fun x y => E y x) a x)) := by
  have hc : ∃ bi, w.cell? ⟨g, 1, none⟩ = some (.map (some bi)) ∧ Calls Try.prog 43 #[.pointer (some ⟨g, 0, none⟩), .map (some bi), .slice A l.length c] w (Listed w (fun x => ∃ a ∈ l, a ∈ N ∧ Reach (fun x y => E y x) a x)) := by
    obtain ⟨bo, bi, lo, li, hGr⟩ := hG
    exact ⟨bi, hGr.cell1, closed_any ⟨bo, bi, lo, li, hGr⟩ hGr.mi hGr.ni hGr.si (fun x y h => ⟨(hGr.inN _ _ h).2, (hGr.inN _ _ h).1⟩) hN A c l hl⟩
  obtain ⟨bi, h0, hC⟩ := hc
  have HC := Lib.hid hC
  clear hC hl
  go_enter Try.func18, Try.ntmps18
  go_wp2_with fail
  refine HC.out.mono ?_
  rintro e w1 ⟨v, r, rfl, hL⟩
  have HL := Lib.hid hL
  clear hL
  go_wp2_with fail
  go_ret
  exact ⟨_, r, rfl, HL.out⟩

theorem GraphAt.base {w : World} {B B' g : Nat} {N : List ByteArray} {E : Rel} (h : GraphAt w B g N E) (hB : B' ≤ B) : GraphAt w B' g N E := by
  obtain ⟨bo, bi, lo, li, hG⟩ := h
  exact ⟨bo, bi, lo, li, { hG with base := fun k hk => Nat.le_trans hB (hG.base k hk) }⟩

/-- What made hands back. -/
def Maked (w : World) (l : List (ByteArray × ByteArray)) (names : List ByteArray) (e : Ending) (w' : World) : Prop :=
  ∃ g N, e = .returned (.pointer (some ⟨g, 0, none⟩)) ∧ GraphAt w' w.heap.size g N (fun x y => (x, y) ∈ l) ∧ (∀ z, z ∈ N ↔ z ∈ names ∨ ∃ e ∈ l, e.1 = z ∨ e.2 = z) ∧ N.length ≤ 2 * l.length + names.length ∧ Below w.heap.size w w'

set_option maxRecDepth 100000 in
set_option maxHeartbeats 2000000 in
theorem made_any {w : World} (A : Option Addr) (c : Nat) (l : List (ByteArray × ByteArray)) (A2 : Option Addr) (c2 : Nat) (names : List ByteArray) (hl : Kd.C kE w A l.length l) (hn : Kd.C Kd.string w A2 names.length names)
    (h1 : l.length ≤ 1000) (h2 : names.length ≤ 1000) (hz1 : ∀ e ∈ l, e.1.size ≤ maxLen ∧ e.2.size ≤ maxLen) (hz2 : ∀ x ∈ names, x.size ≤ maxLen) :
    Calls Try.prog 10 #[.slice A l.length c, .slice A2 names.length c2] w (Maked w l names) := by
  have H1 := Lib.hid (CloneE_any A c l hl (by omega))
  have X := Lib.hid (And.intro hn (And.intro hz1 hz2))
  clear hl hn hz1 hz2
  go_enter Try.func10, Try.ntmps10
  go_wp2_with fail
  refine H1.out.mono ?_
  rintro e w1 ⟨A3, c3, rfl, hc3, hb3⟩
  have H2 := Lib.hid (New_any A3 c3 l hc3 X.out.2.1)
  have B1 := Lib.hid hb3
  clear hc3 hb3 H1
  go_wp2_with fail
  refine H2.out.mono ?_
  rintro e w2 ⟨rfl, hNew⟩
  have N2 := Lib.hid hNew
  clear H2 hNew
  go_wp2_with fail
  have H3 : Hid (Calls Try.prog 16 #[.slice A2 names.length c2] w2 fun e w' => ∃ (A' : Option Addr) (c' : Nat), e = .returned (.slice A' names.length c') ∧ Kd.C Kd.string w' A' names.length names ∧ Below w2.heap.size w2 w') := by
    obtain ⟨N, hG, hm, hln, hK⟩ := N2.out
    exact Clone_any A2 c2 names (Kd.C_below X.out.1 (B1.out.trans (hK.below.mono B1.out.size))) (by omega)
  refine H3.out.mono ?_
  rintro e w3 ⟨A4, c4, rfl, hc4, hb4⟩
  have H4 : Hid (Calls Try.prog 38 #[.pointer (some ⟨w1.heap.size + 1 + 1, 0, none⟩), .slice A4 names.length c4] w3 fun e w' => e = .returned (.int .i64 0) ∧ Maked w l names (.returned (.pointer (some ⟨w1.heap.size + 1 + 1, 0, none⟩))) w') := by
    obtain ⟨N, hG, hm, hln, hK⟩ := N2.out
    have hs : w.heap.size ≤ w2.heap.size := Nat.le_trans B1.out.size hK.below.size
    refine (Add_any ((hG.base B1.out.size).below hb4) (Nat.le_trans hs hb4.size) A4 c4 names hc4 X.out.2.2).mono ?_
    rintro e w4 ⟨rfl, N', hG', hm', hln', hK'⟩
    refine ⟨rfl, _, N', rfl, hG', fun z => ?_, by omega, ?_⟩
    · rw [hm' z, hm z]
      exact ⟨fun h => h.symm, fun h => h.symm⟩
    · exact ((B1.out.trans (hK.below.mono B1.out.size)).trans (hb4.mono hs)).trans hK'.below
  clear H3 hc4 hb4
  go_wp2_with fail
  refine H4.out.mono ?_
  rintro e w4 ⟨rfl, hM⟩
  have HM := Lib.hid hM
  clear H4 hM
  go_wp2_with fail
  go_ret
  exact HM.out
end Go.Proofs.Ytlccejbomgknkaa
