/- GraphWays, walked: it returns true whatever comes in. -/
import Derived.Test.YtlccejbomgknkaaGPath
namespace Go.Proofs.Ytlccejbomgknkaa
set_option linter.unusedVariables false
set_option linter.unusedSimpArgs false
open Go.RowKit Go.Maps Go.Proofs.YtlccejbomgknkaaW.PrintWords Go.Proofs.YtlccejbomgknkaaW.PrintLast
attribute [local go_sem] Go.Proofs.YtlccejbomgknkaaW.PrintMore.max2_int Go.Proofs.YtlccejbomgknkaaW.PrintMore.min2_int

/-- The graph, its names and what lies below, behind made. -/
structure WG (w w2 : World) (g : Nat) (N : List ByteArray) (E : Rel) : Prop where
  gr : GraphAt w2 w.heap.size g N E
  nl : N.length ≤ 1000000
  bl : Below w.heap.size w w2

set_option maxRecDepth 100000 in
set_option maxHeartbeats 8000000 in
theorem ways_walk {w : World} (A : Option Addr) (c : Nat) (l : List (ByteArray × ByteArray)) (A2 : Option Addr) (c2 : Nat) (names : List ByteArray) (f : ByteArray) (hl : Kd.C kE w A l.length l) (hn : Kd.C Kd.string w A2 names.length names)
    (hz1 : ∀ e ∈ l, e.1.size ≤ maxLen ∧ e.2.size ≤ maxLen) (hz2 : ∀ x ∈ names, x.size ≤ maxLen) :
    Calls Try.prog 4 #[.slice A l.length c, .slice A2 names.length c2, .string f] w fun e w' => e = .returned (.bool true) ∧ Below w.heap.size w w' := by
  have X := Lib.hid (And.intro hl (And.intro hn (And.intro hz1 hz2)))
  clear hl hn hz1 hz2
  go_enter Try.func4, Try.ntmps4
  go_wp2_with fail
  refine (works_any w).mono ?_
  rintro e w1 ⟨rfl, hb1⟩
  have B1 := Lib.hid hb1
  clear hb1
  by_cases hlong : l.length ≤ 40 ∧ names.length ≤ 20
  · have HL := Lib.hid (long_no w1 A A2 l.length c names.length c2 hlong.1 hlong.2)
    obtain ⟨hl40, hn20⟩ := hlong
    go_wp2_with fail
    refine HL.out.mono ?_
    rintro e w1' ⟨rfl, hw⟩
    obtain rfl : w1 = w1' := hw.symm
    clear HL
    have HM : Hid (Calls Try.prog 10 #[.slice A l.length c, .slice A2 names.length c2] w1 fun e w' => ∃ g N, e = .returned (.pointer (some ⟨g, 0, none⟩)) ∧ WG w w' g N (fun x y => (x, y) ∈ l)) := by
      obtain ⟨hl, hn, hz1, hz2⟩ := X.out
      refine (made_any A c l A2 c2 names (Kd.C_below hl B1.out) (Kd.C_below hn B1.out) (by omega) (by omega) hz1 hz2).mono ?_
      rintro e w2 ⟨g, N, rfl, hG, _, hln, hb⟩
      exact ⟨g, N, rfl, hG.base B1.out.size, by omega, B1.out.trans (hb.mono B1.out.size)⟩
    go_wp2_with fail
    refine HM.out.mono ?_
    rintro e w2 ⟨g, N, rfl, hW⟩
    have G := Lib.hid hW
    clear hW HM
    obtain ⟨E, hE⟩ : ∃ E : Rel, E = fun x y => (x, y) ∈ l := ⟨_, rfl⟩
    rw [← hE] at G
    clear hE
    have HB : Hid (Calls Try.prog 15 #[.pointer (some ⟨g, 0, none⟩), .slice (some ⟨w2.heap.size, 0, none⟩) 1 1] (w2.alloc (.cells #[.string f] 9)) fun e w' => ∃ (A : Option Addr) (c : Nat) (r : List ByteArray), e = .returned (.slice A r.length c) ∧ (∀ x, x ∈ r ↔ f ∈ N ∧ Reach E f x) ∧ Kd.C Kd.string w' A r.length r ∧ WG w w' g N E) := by
      obtain ⟨hG, hN, hb⟩ := G.out
      refine (Below_any (hG.alloc _) hN (some ⟨w2.heap.size, 0, none⟩) 1 [f] (C_lit w2 [f] (by simp))).mono ?_
      rintro e w3 ⟨v, r, rfl, _, hm, hR, hb3⟩
      obtain ⟨Ar, cr, rfl⟩ := Kd.R_slice hR
      refine ⟨Ar, cr, r, rfl, fun x => ?_, (Kd.R_reads' hR).2.2, (hG.alloc _).below hb3, hN, ?_⟩
      · rw [hm x]
        constructor
        · rintro ⟨a, ha, h1, h2⟩
          rw [List.mem_singleton] at ha
          subst ha; exact ⟨h1, h2⟩
        · rintro ⟨h1, h2⟩
          exact ⟨f, List.mem_singleton.2 rfl, h1, h2⟩
      · exact (hb.trans (((Below.refl _ w2).alloc (Nat.le_refl _) _).mono hb.size)).trans (hb3.mono (Nat.le_trans hb.size (by simp)))
    go_wp2_with fail
    refine HB.out.mono ?_
    rintro e w3 ⟨Ab, cb, rb, rfl, hmb, hCb, hW3⟩
    have HN : Hid (Calls Try.prog 20 #[.pointer (some ⟨g, 0, none⟩)] w3 fun e w' => ∃ (A : Option Addr) (c : Nat) (r : List ByteArray), e = .returned (.slice A r.length c) ∧ (∀ x, x ∈ r ↔ x ∈ N) ∧ r.length ≤ 1000000 ∧ Kd.C Kd.string w' A r.length r ∧ Kd.C Kd.string w' Ab rb.length rb ∧ WG w w' g N E) := by
      obtain ⟨hG, hN, hb⟩ := hW3
      refine (Names_any hG hN).mono ?_
      rintro e w4 ⟨v, r, rfl, hrise, hm, hR, hb4⟩
      obtain ⟨Ar, cr, rfl⟩ := Kd.R_slice hR
      have hrl := nodup_len (s := r) (N := N) (rise_nodup hrise) (fun z hz => (hm z).1 hz)
      exact ⟨Ar, cr, r, rfl, hm, by omega, (Kd.R_reads' hR).2.2, Kd.C_below hCb hb4, hG.below hb4, hN, hb.trans (hb4.mono hb.size)⟩
    have M := Lib.hid hmb
    clear hmb hCb hW3 HB G
    go_wp2_with fail
    refine HN.out.mono ?_
    rintro e w4 ⟨An, cn, rn, rfl, hmn, hrn, hCn, hCb, hW4⟩
    have Y := Lib.hid (And.intro hmn (And.intro hCn (And.intro hCb hW4)))
    clear hmn hCn hCb hW4 HN
    go_wp2_with fail
    go_loopg [34] (rn.length + 1) (fun q v34 wr => ∃ k : Nat, v34 = .int .i64 k ∧ k ≤ rn.length ∧ q + k = rn.length + 1 ∧ Hid (Below w4.heap.size w4 wr))
    case atStart => exact ⟨0, rfl, by omega, by omega, Below.refl _ _⟩
    case round =>
      obtain ⟨k, rfl, hk, hq, HR⟩ := hrel
      obtain ⟨W1, rfl⟩ : ∃ W1 : World, W1 = wr := ⟨_, rfl⟩
      obtain ⟨q0, rfl⟩ : ∃ q0 : Nat, q0 = gk := ⟨_, rfl⟩
      by_cases hlt : k < rn.length
      · obtain ⟨ad, hA, hcell⟩ := Kd.at_string (Kd.C_below Y.out.2.1 HR.out) (k : Int) (by omega) (by omega)
        subst hA
        obtain ⟨to_, hto⟩ : ∃ nm, nm = rdOf ByteArray.empty rn (k : Int) := ⟨_, rfl⟩
        rw [← hto] at hcell
        simp only [Int.toNat_natCast] at hcell
        have hin : Hid (to_ ∈ N) := (Y.out.1 to_).1 (take_at hlt hto)
        clear hto
        have HWy := Lib.hid (Way_any (Y.out.2.2.2.gr.below HR.out) Y.out.2.2.2.nl f to_)
        go_wp2_with fail
        refine HWy.out.mono ?_
        rintro e W2 ⟨hb2, ⟨Ap, cp, p, d, rfl, hfN, _, hD, hGW, hO⟩ | ⟨rfl, hno⟩⟩
        · have hway := GW.way d hD hGW
          have hCp := hO.reads
          have hcp := (Kd.R_reads' hO.kd).2.1
          obtain ⟨ap, hAp, _⟩ := Kd.at_string hCp (0 : Int) (by omega) (by rw [hway.len]; omega)
          have hpos : 0 < p.length := by rw [hway.len]; omega
          subst hAp
          have hpl : p.length ≤ 1000000 := by
            obtain ⟨bo, bi, lo, li, hGr⟩ := Y.out.2.2.2.gr
            have := dist_lt hGr.inN hin.out hD
            have := Y.out.2.2.2.nl
            have := hway.len
            omega
          have hb4 : Below w4.heap.size w4 W2 := HR.out.trans (hb2.mono HR.out.size)
          have HCt : Hid (Calls Try.prog 21 #[.slice Ab rb.length cb, .string to_] W2 fun e w' => e = .returned (.bool true) ∧ w' = W2) := by
            have := Contains_any (w := W2) Ab cb rb to_ (Kd.C_below Y.out.2.2.1 hb4)
            rw [contains_yes ((M.out to_).2 ⟨hfN, reach_dist.2 ⟨d, hD⟩⟩)] at this
            exact this
          have P := Lib.hid (And.intro hway (And.intro hCp hb4))
          have P2 := Lib.hid hb2
          clear hway hCp hb4 hO hD hGW hfN hb2 HWy
          go_wp2_with fail
          refine HCt.out.mono ?_
          rintro e W2' ⟨rfl, hw⟩
          obtain rfl : W2 = W2' := hw.symm
          clear HCt
          go_wp2_with fail
          go_loopg [59] (p.length + 1) (fun q2 v59 wr => ∃ i : Nat, v59 = .int .i64 i ∧ i ≤ p.length ∧ q2 + i = p.length + 1 ∧ Hid (Below W2.heap.size W2 wr))
          case atStart => exact ⟨0, rfl, by omega, by omega, Below.refl _ _⟩
          case round =>
            obtain ⟨i, rfl, hi, hq2, HS⟩ := hrel
            obtain ⟨W3, rfl⟩ : ∃ W3 : World, W3 = wr := ⟨_, rfl⟩
            obtain ⟨q1, rfl⟩ : ∃ q1 : Nat, q1 = gk := ⟨_, rfl⟩
            by_cases hilt : i < p.length
            · obtain ⟨_, hA2, hcell2⟩ := Kd.at_string (Kd.C_below P.out.2.1 HS.out) (i : Int) (by omega) (by omega)
              injection hA2 with hA2
              subst hA2
              have hpi := has_at hilt
              obtain ⟨nm, hnm⟩ : ∃ nm, nm = rdOf ByteArray.empty p (i : Int) := ⟨_, rfl⟩
              rw [← hnm] at hcell2 hpi
              simp only [Int.toNat_natCast] at hcell2
              clear hnm
              have HC1 : Hid (Calls Try.prog 21 #[.slice (some ap) i cp, .string nm] W3 fun e w' => e = .returned (.bool false) ∧ w' = W3) := by
                have := Contains_any (w := W3) (some ap) cp (p.take i) nm (C_take (Kd.C_below P.out.2.1 HS.out) hi)
                rw [contains_no (P.out.1.once hpi), List.length_take, Nat.min_eq_left hi] at this
                exact this
              have HPi := Lib.hid hpi
              clear hpi
              go_wp2_with fail
              refine HC1.out.mono ?_
              rintro e W3' ⟨rfl, hw⟩
              obtain rfl : W3 = W3' := hw.symm
              clear HC1
              obtain ⟨lo, hlo⟩ : ∃ lo, lo = min (i + 2) p.length := ⟨_, rfl⟩
              by_cases hi0 : i = 0
              · subst hi0
                have hmin : min (2 : Int) (p.length : Int) = (lo : Int) := by omega
                have hlol : lo ≤ p.length := by omega
                have hloc : lo ≤ cp := by omega
                have HLO := Lib.hid hlo
                clear hlo
                by_cases hce : lo = cp
                · go_wp2_with fail
                  go_loopg [93] (p.length - cp + 1) (fun q3 v93 wr => ∃ k3 : Nat, v93 = .int .i64 k3 ∧ k3 ≤ p.length - cp ∧ q3 + k3 = p.length - cp + 1 ∧ Hid (Below W3.heap.size W3 wr))
                  case atStart => exact ⟨0, rfl, by omega, by omega, Below.refl _ _⟩
                  case round =>
                    obtain ⟨k3, rfl, hk3, hq3, HT⟩ := hrel
                    obtain ⟨W5, rfl⟩ : ∃ W5 : World, W5 = wr := ⟨_, rfl⟩
                    obtain ⟨q2, rfl⟩ : ∃ q2 : Nat, q2 = gk := ⟨_, rfl⟩
                    by_cases hkl : k3 < p.length - cp
                    · exact absurd hkl (by omega)
                    · go_wp2_with fail
                      go_roundg (p.length - 0)
                      case measure => omega
                      case rel => exact ⟨0 + 1, by go_num, by omega, by omega, HS.out.trans (HT.out.mono HS.out.size)⟩
                · go_wp2_with fail
                  go_loopg [93] (p.length - lo + 1) (fun q3 v93 wr => ∃ k3 : Nat, v93 = .int .i64 k3 ∧ k3 ≤ p.length - lo ∧ q3 + k3 = p.length - lo + 1 ∧ Hid (Below W3.heap.size W3 wr))
                  case atStart => exact ⟨0, rfl, by omega, by omega, Below.refl _ _⟩
                  case round =>
                    obtain ⟨k3, rfl, hk3, hq3, HT⟩ := hrel
                    obtain ⟨W5, rfl⟩ : ∃ W5 : World, W5 = wr := ⟨_, rfl⟩
                    obtain ⟨q2, rfl⟩ : ∃ q2 : Nat, q2 = gk := ⟨_, rfl⟩
                    by_cases hkl : k3 < p.length - lo
                    · have hlk : lo + k3 < p.length := by omega
                      obtain ⟨_, hA2, hcellm⟩ := Kd.at_string (Kd.C_below P.out.2.1 (HS.out.trans (HT.out.mono HS.out.size))) ((lo + k3 : Nat) : Int) (by omega) (by omega)
                      injection hA2 with hA2
                      subst hA2
                      have hpm := has_at hlk
                      obtain ⟨mv, hmv⟩ : ∃ nm, nm = rdOf ByteArray.empty p ((lo + k3 : Nat) : Int) := ⟨_, rfl⟩
                      rw [← hmv] at hcellm hpm
                      simp only [Int.toNat_natCast] at hcellm
                      rw [← Addr.add_add] at hcellm
                      clear hmv
                      have HO := Lib.hid (Out_any (Y.out.2.2.2.gr.below (P.out.2.2.trans ((HS.out.trans (HT.out.mono HS.out.size)).mono P.out.2.2.size))) Y.out.2.2.2.nl nm)
                      have hplain : Hid (¬ E nm mv) := P.out.1.plain HPi.out hpm (by have := HLO.out; omega)
                      clear hpm
                      go_wp2_with fail
                      refine HO.out.mono ?_
                      rintro e W6 ⟨v, r, rfl, _, hmem, hR, hb6⟩
                      obtain ⟨Ar, cr, rfl⟩ := Kd.R_slice hR
                      have HC2 : Hid (Calls Try.prog 21 #[.slice Ar r.length cr, .string mv] W6 fun e w' => e = .returned (.bool false) ∧ w' = W6) := by
                        have := Contains_any (w := W6) Ar cr r mv (Kd.R_reads' hR).2.2
                        rw [contains_no (fun h => hplain.out ((hmem mv).1 h))] at this
                        exact this
                      have HB6 := Lib.hid hb6
                      clear hmem hR hb6 HO
                      go_wp2_with fail
                      refine HC2.out.mono ?_
                      rintro e W6' ⟨rfl, hw⟩
                      obtain rfl : W6 = W6' := hw.symm
                      clear HC2
                      go_wp2_with fail
                      go_roundg (p.length - lo - k3)
                      case measure => omega
                      case rel => exact ⟨k3 + 1, by go_num, by omega, by omega, HT.out.trans (HB6.out.mono HT.out.size)⟩
                    · go_wp2_with fail
                      go_roundg (p.length - 0)
                      case measure => omega
                      case rel => exact ⟨0 + 1, by go_num, by omega, by omega, HS.out.trans (HT.out.mono HS.out.size)⟩
              · obtain ⟨j, rfl⟩ : ∃ j, i = j + 1 := ⟨i - 1, by omega⟩
                clear hi0
                have hjp : 0 < (j : Int) + 1 := by omega
                have hjl : j < p.length := by omega
                have hmin : min ((j : Int) + 1 + 2) (p.length : Int) = (lo : Int) := by omega
                obtain ⟨_, hA2, hcellj⟩ := Kd.at_string (Kd.C_below P.out.2.1 HS.out) (j : Int) (by omega) (by omega)
                injection hA2 with hA2
                subst hA2
                have hpj := has_at hjl
                obtain ⟨pv, hpv⟩ : ∃ nm, nm = rdOf ByteArray.empty p (j : Int) := ⟨_, rfl⟩
                rw [← hpv] at hcellj hpj
                simp only [Int.toNat_natCast] at hcellj
                clear hpv
                have HO := Lib.hid (Out_any (Y.out.2.2.2.gr.below (P.out.2.2.trans (HS.out.mono P.out.2.2.size))) Y.out.2.2.2.nl pv)
                have hstep : Hid (E pv nm) := P.out.1.step j pv nm hpj HPi.out
                clear hpj
                go_wp2_with fail
                refine HO.out.mono ?_
                rintro e WY ⟨v, r, rfl, _, hmem, hR, hby⟩
                obtain ⟨Ar, cr, rfl⟩ := Kd.R_slice hR
                have HC3 : Hid (Calls Try.prog 21 #[.slice Ar r.length cr, .string nm] WY fun e w' => e = .returned (.bool true) ∧ w' = WY) := by
                  have := Contains_any (w := WY) Ar cr r nm (Kd.R_reads' hR).2.2
                  rw [contains_yes ((hmem nm).2 hstep.out)] at this
                  exact this
                have HY := Lib.hid (HS.out.trans (hby.mono HS.out.size))
                clear hmem hR hby HO
                go_wp2_with fail
                refine HC3.out.mono ?_
                rintro e WY' ⟨rfl, hw⟩
                obtain rfl : WY = WY' := hw.symm
                clear HC3
                have hlol : lo ≤ p.length := by omega
                have hloc : lo ≤ cp := by omega
                have HLO := Lib.hid hlo
                clear hlo
                by_cases hce : lo = cp
                · go_wp2_with fail
                  go_loopg [93] (p.length - cp + 1) (fun q3 v93 wr => ∃ k3 : Nat, v93 = .int .i64 k3 ∧ k3 ≤ p.length - cp ∧ q3 + k3 = p.length - cp + 1 ∧ Hid (Below WY.heap.size WY wr))
                  case atStart => exact ⟨0, rfl, by omega, by omega, Below.refl _ _⟩
                  case round =>
                    obtain ⟨k3, rfl, hk3, hq3, HT⟩ := hrel
                    obtain ⟨W5, rfl⟩ : ∃ W5 : World, W5 = wr := ⟨_, rfl⟩
                    obtain ⟨q2, rfl⟩ : ∃ q2 : Nat, q2 = gk := ⟨_, rfl⟩
                    by_cases hkl : k3 < p.length - cp
                    · exact absurd hkl (by omega)
                    · go_wp2_with fail
                      go_roundg (p.length - (j + 1))
                      case measure => omega
                      case rel => exact ⟨(j + 1) + 1, by go_num, by omega, by omega, HY.out.trans (HT.out.mono HY.out.size)⟩
                · go_wp2_with fail
                  go_loopg [93] (p.length - lo + 1) (fun q3 v93 wr => ∃ k3 : Nat, v93 = .int .i64 k3 ∧ k3 ≤ p.length - lo ∧ q3 + k3 = p.length - lo + 1 ∧ Hid (Below WY.heap.size WY wr))
                  case atStart => exact ⟨0, rfl, by omega, by omega, Below.refl _ _⟩
                  case round =>
                    obtain ⟨k3, rfl, hk3, hq3, HT⟩ := hrel
                    obtain ⟨W5, rfl⟩ : ∃ W5 : World, W5 = wr := ⟨_, rfl⟩
                    obtain ⟨q2, rfl⟩ : ∃ q2 : Nat, q2 = gk := ⟨_, rfl⟩
                    by_cases hkl : k3 < p.length - lo
                    · have hlk : lo + k3 < p.length := by omega
                      obtain ⟨_, hA2, hcellm⟩ := Kd.at_string (Kd.C_below P.out.2.1 (HY.out.trans (HT.out.mono HY.out.size))) ((lo + k3 : Nat) : Int) (by omega) (by omega)
                      injection hA2 with hA2
                      subst hA2
                      have hpm := has_at hlk
                      obtain ⟨mv, hmv⟩ : ∃ nm, nm = rdOf ByteArray.empty p ((lo + k3 : Nat) : Int) := ⟨_, rfl⟩
                      rw [← hmv] at hcellm hpm
                      simp only [Int.toNat_natCast] at hcellm
                      rw [← Addr.add_add] at hcellm
                      clear hmv
                      have HO := Lib.hid (Out_any (Y.out.2.2.2.gr.below (P.out.2.2.trans ((HY.out.trans (HT.out.mono HY.out.size)).mono P.out.2.2.size))) Y.out.2.2.2.nl nm)
                      have hplain : Hid (¬ E nm mv) := P.out.1.plain HPi.out hpm (by have := HLO.out; omega)
                      clear hpm
                      go_wp2_with fail
                      refine HO.out.mono ?_
                      rintro e W6 ⟨v, r, rfl, _, hmem, hR, hb6⟩
                      obtain ⟨Ar, cr, rfl⟩ := Kd.R_slice hR
                      have HC2 : Hid (Calls Try.prog 21 #[.slice Ar r.length cr, .string mv] W6 fun e w' => e = .returned (.bool false) ∧ w' = W6) := by
                        have := Contains_any (w := W6) Ar cr r mv (Kd.R_reads' hR).2.2
                        rw [contains_no (fun h => hplain.out ((hmem mv).1 h))] at this
                        exact this
                      have HB6 := Lib.hid hb6
                      clear hmem hR hb6 HO
                      go_wp2_with fail
                      refine HC2.out.mono ?_
                      rintro e W6' ⟨rfl, hw⟩
                      obtain rfl : W6 = W6' := hw.symm
                      clear HC2
                      go_wp2_with fail
                      go_roundg (p.length - lo - k3)
                      case measure => omega
                      case rel => exact ⟨k3 + 1, by go_num, by omega, by omega, HT.out.trans (HB6.out.mono HT.out.size)⟩
                    · go_wp2_with fail
                      go_roundg (p.length - (j + 1))
                      case measure => omega
                      case rel => exact ⟨(j + 1) + 1, by go_num, by omega, by omega, HY.out.trans (HT.out.mono HY.out.size)⟩
            · have hil : i = p.length := by omega
              subst hil
              obtain ⟨_, hA2, hcz⟩ := Kd.at_string (Kd.C_below P.out.2.1 HS.out) (0 : Int) (by omega) (by omega)
              injection hA2 with hA2
              subst hA2
              have hlen := P.out.1.len
              obtain ⟨_, hA3, hcd⟩ := Kd.at_string (Kd.C_below P.out.2.1 HS.out) (d : Int) (by omega) (by omega)
              injection hA3 with hA3
              subst hA3
              have e0 : rdOf ByteArray.empty p 0 = f := by
                have h1 := has_at hpos
                have h2 := P.out.1.first
                rw [h2] at h1
                injection h1 with h1
                exact h1.symm
              have e1 : rdOf ByteArray.empty p (d : Int) = to_ := by
                have h1 := has_at (show d < p.length by omega)
                have h2 := P.out.1.last
                rw [h2] at h1
                injection h1 with h1
                exact h1.symm
              rw [e0] at hcz
              rw [e1] at hcd
              clear e0 e1
              have hc0 : W3.cell? ap = some (.string f) := by simpa [Addr.add] using hcz
              simp only [Int.toNat_natCast] at hcd
              clear hcz
              have hdp : 0 < (d : Int) + 1 := by omega
              have hd1 : (d : Int) ≤ 1000000 := by omega
              go_wp2_with fail
              go_roundg (rn.length - k)
              case measure => omega
              case rel => exact ⟨k + 1, by go_num, by omega, by omega, HR.out.trans ((P2.out.trans (HS.out.mono P2.out.size)).mono HR.out.size)⟩
        · have HCt : Hid (Calls Try.prog 21 #[.slice Ab rb.length cb, .string to_] W2 fun e w' => e = .returned (.bool false) ∧ w' = W2) := by
            have := Contains_any (w := W2) Ab cb rb to_ (Kd.C_below Y.out.2.2.1 (HR.out.trans (hb2.mono HR.out.size)))
            rw [contains_no (fun h => hno ⟨((M.out to_).1 h).1, hin.out, ((M.out to_).1 h).2⟩)] at this
            exact this
          have P2 := Lib.hid hb2
          clear hb2 hno HWy
          go_wp2_with fail
          refine HCt.out.mono ?_
          rintro e W2' ⟨rfl, hw⟩
          obtain rfl : W2 = W2' := hw.symm
          clear HCt
          go_wp2_with fail
          go_loopg [59] 1 (fun q2 v59 wr => v59 = .int .i64 0 ∧ wr = W2)
          case atStart => exact ⟨rfl, rfl⟩
          case round =>
            obtain ⟨rfl, rfl⟩ := hrel
            go_wp2_with fail
            go_roundg (rn.length - k)
            case measure => omega
            case rel => exact ⟨k + 1, by go_num, by omega, by omega, HR.out.trans (P2.out.mono HR.out.size)⟩
      · go_wp2_with fail
        go_ret
        obtain ⟨_, _, _, hW4⟩ := Y.out
        exact ⟨rfl, hW4.bl.trans (HR.out.mono hW4.bl.size)⟩
  · have HL := Lib.hid (long_yes w1 A A2 l.length c names.length c2 hlong)
    go_wp2_with fail
    refine HL.out.mono ?_
    rintro e w1' ⟨rfl, hw⟩
    obtain rfl : w1 = w1' := hw.symm
    clear HL
    go_wp2_with fail
    go_ret
    exact ⟨rfl, B1.out⟩
end Go.Proofs.Ytlccejbomgknkaa
