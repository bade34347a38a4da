/- GraphWhole, walked: it returns true whatever comes in. -/
import Derived.Test.YtlccejbomgknkaaGSort
namespace Go.Proofs.Ytlccejbomgknkaa
set_option linter.unusedVariables false
set_option linter.unusedSimpArgs false
open Go.RowKit Go.Maps Go.Proofs.YtlccejbomgknkaaW.PrintWords Go.Proofs.YtlccejbomgknkaaW.PrintLast

/-- The graph behind made. -/
structure WG2 (w w2 : World) (g : Nat) (N : List ByteArray) (E : Rel) : Prop where
  gr : GraphAt w2 w.heap.size g N E
  nl : N.length ≤ 1000000
  bl : Below w.heap.size w w2
theorem WG2.inN {w w2 : World} {g : Nat} {N : List ByteArray} {E : Rel} (h : WG2 w w2 g N E) : ∀ x y, E x y → x ∈ N ∧ y ∈ N := by
  obtain ⟨⟨bo, bi, lo, li, hGr⟩, _, _⟩ := h
  exact hGr.inN

/-- An order and a cycle exclude each other. -/
theorem order_no_cycle {N : List ByteArray} {E : Rel} {o : List ByteArray} (hE : ∀ x y, E x y → x ∈ N ∧ y ∈ N) (hk : Kahn N E o) (hall : ∀ x ∈ N, x ∈ o) {b : List ByteArray} (hc : IsCyc E b) : False := by
  obtain ⟨x, y, hE1, d, w, hD, _⟩ := hc.cand
  exact hk.acyclic (hall x (hE x y hE1).1) hE1 (walk_reach hD.1)
theorem stuck_has_cycle {N : List ByteArray} {E : Rel} {o : List ByteArray} (hE : ∀ x y, E x y → x ∈ N ∧ y ∈ N) (h1 : ∃ x ∈ N, x ∉ o) (h2 : ∀ z ∈ N, z ∉ o → ∃ y, E z y ∧ y ∉ o) (hno : ∀ x y, E x y → ¬ Reach E y x) : False := by
  obtain ⟨z, hz, ho⟩ := h1
  obtain ⟨x, y, hxy, hr⟩ := stuck_cycle (N := N) (E := E) (S := fun x => x ∈ N ∧ x ∉ o) (fun x h => h.1) (fun x h => by
    obtain ⟨y, hy, hyo⟩ := h2 x h.1 h.2
    exact ⟨y, hy, (hE _ _ hy).2, hyo⟩) ⟨hz, ho⟩
  exact hno x y hxy hr

set_option maxRecDepth 100000 in
set_option maxHeartbeats 8000000 in
theorem whole_walk {w : World} (A : Option Addr) (c : Nat) (l : List (ByteArray × ByteArray)) (A2 : Option Addr) (c2 : Nat) (names : List ByteArray) (hl : Kd.C kE w A l.length l) (hn : Kd.C Kd.string w A2 names.length names)
    (hz1 : ∀ e ∈ l, e.1.size ≤ maxLen ∧ e.2.size ≤ maxLen) (hz2 : ∀ x ∈ names, x.size ≤ maxLen) :
    Calls Try.prog 7 #[.slice A l.length c, .slice A2 names.length c2] w fun e w' => e = .returned (.bool true) ∧ Below w.heap.size w w' := by
  have X := Lib.hid (And.intro hl (And.intro hn (And.intro hz1 hz2)))
  clear hl hn hz1 hz2
  go_enter Try.func7, Try.ntmps7
  go_wp2_with fail
  refine (works_any w).mono ?_
  rintro e w1 ⟨rfl, hb1⟩
  have B1 := Lib.hid hb1
  clear hb1
  by_cases hlong : l.length ≤ 40 ∧ names.length ≤ 20
  · have HL := Lib.hid (long_no w1 A A2 l.length c names.length c2 hlong.1 hlong.2)
    obtain ⟨hl40, hn20⟩ := hlong
    go_wp2_with fail
    refine HL.out.mono ?_
    rintro e w1' ⟨rfl, hw⟩
    obtain rfl : w1 = w1' := hw.symm
    clear HL
    have HM : Hid (Calls Try.prog 10 #[.slice A l.length c, .slice A2 names.length c2] w1 fun e w' => ∃ g N, e = .returned (.pointer (some ⟨g, 0, none⟩)) ∧ WG2 w w' g N (fun x y => (x, y) ∈ l)) := by
      obtain ⟨hl, hn, hz1, hz2⟩ := X.out
      refine (made_any A c l A2 c2 names (Kd.C_below hl B1.out) (Kd.C_below hn B1.out) (by omega) (by omega) hz1 hz2).mono ?_
      rintro e w2 ⟨g, N, rfl, hG, _, hln, hb⟩
      exact ⟨g, N, rfl, hG.base B1.out.size, by omega, B1.out.trans (hb.mono B1.out.size)⟩
    go_wp2_with fail
    refine HM.out.mono ?_
    rintro e w2 ⟨g, N, rfl, hW⟩
    have G := Lib.hid hW
    clear hW HM
    obtain ⟨E, hE⟩ : ∃ E : Rel, E = fun x y => (x, y) ∈ l := ⟨_, rfl⟩
    rw [← hE] at G
    clear hE
    have HO := Lib.hid (Order_any G.out.gr G.out.nl)
    go_wp2_with fail
    refine HO.out.mono ?_
    rintro e w3 ⟨hb3, hres⟩
    have HCy := Lib.hid (Cycle_any (G.out.gr.below hb3) G.out.nl)
    have P3 := Lib.hid hb3
    clear hb3 HO
    rcases hres with ⟨Ao, co, o, rfl, hk, hall, hown⟩ | ⟨rfl, o, hk, h1, h2⟩
    · have Q := Lib.hid (And.intro hk (And.intro hall hown))
      clear hk hall hown
      go_wp2_with fail
      refine HCy.out.mono ?_
      rintro e w4 ⟨hb4, ⟨Ac, cc, b, rfl, hcyc, _⟩ | ⟨rfl, hno⟩⟩
      · exact absurd (order_no_cycle G.out.inN Q.out.1 Q.out.2.1 hcyc) (fun h => h)
      · have hB4 : Below w.heap.size w w4 := (G.out.bl.trans (P3.out.mono G.out.bl.size)).trans (hb4.mono (Nat.le_trans G.out.bl.size P3.out.size))
        have hol : o.length ≤ 1000000 := by
          have := nodup_len Q.out.1.nodup.1 Q.out.1.nodup.2
          have := G.out.nl
          omega
        have Y : Hid (GraphAt w4 w.heap.size g N E ∧ Kd.C Kd.string w4 Ao o.length o ∧ Below w.heap.size w w4 ∧ Kahn N E o ∧ (∀ x ∈ N, x ∈ o) ∧ N.length ≤ 1000000) :=
          ⟨(G.out.gr.below P3.out).below hb4, Kd.C_below Q.out.2.2.reads hb4, hB4, Q.out.1, Q.out.2.1, G.out.nl⟩
        have hco := (Kd.R_reads' Q.out.2.2.kd).2.1
        clear hB4 hb4 hno HCy Q G P3 B1 X
        have HNm := Lib.hid (Names_any Y.out.1 Y.out.2.2.2.2.2)
        go_wp2_with fail
        refine HNm.out.mono ?_
        rintro e w5 ⟨v, rn, rfl, hrise, hmem, hR, hb5⟩
        obtain ⟨An, cn, rfl⟩ := Kd.R_slice hR
        have hrl : rn.length = o.length := nodup_same (rise_nodup hrise) Y.out.2.2.2.1.nodup.1 (fun x => ⟨fun h => Y.out.2.2.2.2.1 x ((hmem x).1 h), fun h => (hmem x).2 (Y.out.2.2.2.1.nodup.2 x h)⟩)
        have Z : Hid (GraphAt w5 w.heap.size g N E ∧ Kd.C Kd.string w5 Ao o.length o ∧ Below w.heap.size w w5) := ⟨Y.out.1.below hb5, Kd.C_below Y.out.2.1 hb5, Y.out.2.2.1.trans (hb5.mono Y.out.2.2.1.size)⟩
        have Y2 : Hid (Kahn N E o ∧ (∀ x ∈ N, x ∈ o) ∧ N.length ≤ 1000000) := ⟨Y.out.2.2.2.1, Y.out.2.2.2.2.1, Y.out.2.2.2.2.2⟩
        clear hrise hmem hR hb5 HNm Y
        go_wp2_with fail
        go_loopg [65] (o.length + 1) (fun q v65 wr => ∃ k : Nat, v65 = .int .i64 k ∧ k ≤ o.length ∧ q + k = o.length + 1 ∧ Hid (Below w5.heap.size w5 wr))
        case atStart => exact ⟨0, rfl, by omega, by omega, Below.refl _ _⟩
        case round =>
          obtain ⟨k, rfl, hk, hq, HR⟩ := hrel
          obtain ⟨W1, rfl⟩ : ∃ W1 : World, W1 = wr := ⟨_, rfl⟩
          obtain ⟨q0, rfl⟩ : ∃ q0 : Nat, q0 = gk := ⟨_, rfl⟩
          by_cases hlt : k < o.length
          · obtain ⟨ao, hA, hcell⟩ := Kd.at_string (Kd.C_below Z.out.2.1 HR.out) (k : Int) (by omega) (by omega)
            subst hA
            have hpk := has_at hlt
            obtain ⟨nm, hnm⟩ : ∃ nm, nm = rdOf ByteArray.empty o (k : Int) := ⟨_, rfl⟩
            rw [← hnm] at hcell hpk
            simp only [Int.toNat_natCast] at hcell
            have HPK := Lib.hid hpk
            clear hnm hpk
            have HO := Lib.hid (Out_any (Z.out.1.below HR.out) Y2.out.2.2 nm)
            go_wp2_with fail
            refine HO.out.mono ?_
            rintro e W2 ⟨v, r, rfl, hrise, hmem, hR, hb2⟩
            obtain ⟨Ar, cr, rfl⟩ := Kd.R_slice hR
            have hrr : r.length ≤ 1000000 := by
              obtain ⟨bo, bi, lo, li, hGr⟩ := Z.out.1
              have := nodup_len (N := N) (rise_nodup hrise) (fun z hz => (hGr.inN _ _ ((hmem z).1 hz)).2)
              have := Y2.out.2.2
              omega
            have P2 := Lib.hid (And.intro hmem (And.intro (Kd.R_reads' hR).2.2 (HR.out.trans (hb2.mono HR.out.size))))
            clear hrise hmem hR hb2 HO
            go_wp2_with fail
            go_loopg [74] (r.length + 1) (fun q2 v74 wr => wr = W2 ∧ ∃ j : Nat, v74 = .int .i64 j ∧ j ≤ r.length ∧ q2 + j = r.length + 1)
            case atStart => exact ⟨rfl, 0, rfl, by omega, by omega⟩
            case round =>
              obtain ⟨rfl, j, rfl, hj, hq2⟩ := hrel
              by_cases hjl : j < r.length
              · obtain ⟨ar, hA, hcell2⟩ := Kd.at_string P2.out.2.1 (j : Int) (by omega) (by omega)
                subst hA
                have hpj := has_at hjl
                obtain ⟨mv, hmv⟩ : ∃ nm, nm = rdOf ByteArray.empty r (j : Int) := ⟨_, rfl⟩
                rw [← hmv] at hcell2 hpj
                simp only [Int.toNat_natCast] at hcell2
                have HC1 : Hid (Calls Try.prog 21 #[.slice (some ao) k co, .string mv] wr fun e w' => e = .returned (.bool true) ∧ w' = wr) := by
                  have := Contains_any (w := wr) (some ao) co (o.take k) mv (C_take (Kd.C_below Z.out.2.1 P2.out.2.2) hk)
                  rw [contains_yes (Y2.out.1.at HPK.out ((P2.out.1 mv).1 (List.mem_of_getElem? hpj))), List.length_take, Nat.min_eq_left hk] at this
                  exact this
                clear hmv hpj
                go_wp2_with fail
                refine HC1.out.mono ?_
                rintro e W3 ⟨rfl, hw⟩
                obtain rfl : wr = W3 := hw.symm
                clear HC1
                go_wp2_with fail
                go_roundg (r.length - j)
                case measure => omega
                case rel => exact ⟨rfl, j + 1, by go_num, by omega, by omega⟩
              · go_wp2_with fail
                go_roundg (o.length - k)
                case measure => omega
                case rel => exact ⟨k + 1, by go_num, by omega, by omega, P2.out.2.2⟩
          · have HCl := Lib.hid (Clone_own Ao co o (Kd.C_below Z.out.2.1 HR.out) hol)
            go_wp2_with fail
            refine HCl.out.mono ?_
            rintro e W2 ⟨As, cs, rfl, hown, hb2⟩
            have HSo := Lib.hid (Sort_own As cs o hown hol Y2.out.1.nodup.1)
            have PB2 := Lib.hid hb2
            clear hown hb2 HCl
            go_wp2_with fail
            refine HSo.out.mono ?_
            rintro e W3 ⟨rfl, s, hrs, hms, hls, hown, hb3⟩
            have HNm : Hid (Calls Try.prog 20 #[.pointer (some ⟨g, 0, none⟩)] W3 fun e w' => ∃ (A : Option Addr) (c : Nat), e = .returned (.slice A s.length c) ∧ Kd.C Kd.string w' A s.length s ∧ Kd.C Kd.string w' As s.length s ∧ Below w.heap.size w w') := by
              have hb13 : Below W1.heap.size W1 W3 := PB2.out.trans hb3
              refine (Names_any ((Z.out.1.below HR.out).below hb13) Y2.out.2.2).mono ?_
              rintro e W4 ⟨v, rn2, rfl, hrise, hmem, hR, hb4⟩
              have e : rn2 = s := rise_ext hrise hrs (fun x => by
                rw [hmem x, hms x]
                exact ⟨fun h => Y2.out.2.1 x h, fun h => Y2.out.1.nodup.2 x h⟩)
              subst e
              obtain ⟨An2, cn2, rfl⟩ := Kd.R_slice hR
              exact ⟨An2, cn2, rfl, (Kd.R_reads' hR).2.2, Kd.C_below hown.reads hb4, ((Z.out.2.2.trans (HR.out.mono Z.out.2.2.size)).trans (hb13.mono (Nat.le_trans Z.out.2.2.size HR.out.size))).trans (hb4.mono (Nat.le_trans (Nat.le_trans Z.out.2.2.size HR.out.size) hb13.size))⟩
            rw [← hls]
            clear hrs hms hls hown hb3 HSo
            go_wp2_with fail
            refine HNm.out.mono ?_
            rintro e W4 ⟨A4, c4, rfl, hC4, hC5, hb4⟩
            have HEq : Hid (Calls Try.prog 14 #[.slice As s.length cs, .slice A4 s.length c4] W4 fun e w' => e = .returned (.bool true) ∧ Below w.heap.size w w') := by
              refine (Equal_any As A4 cs c4 s s hC5 hC4).mono ?_
              rintro e W5 ⟨rfl, q, rfl⟩
              exact ⟨by simp, pw_below_drewN hb4 q⟩
            clear hC4 hC5 hb4 HNm
            go_wp2_with fail
            refine HEq.out.mono ?_
            rintro e W5 ⟨rfl, hb5⟩
            have HB5 := Lib.hid hb5
            clear hb5 HEq
            go_wp2_with fail
            go_loopg [100] 1 (fun q2 v100 wr => v100 = .int .i64 0 ∧ wr = W5)
            case atStart => exact ⟨rfl, rfl⟩
            case round =>
              obtain ⟨rfl, rfl⟩ := hrel
              go_wp2_with fail
              go_ret
              exact ⟨rfl, HB5.out⟩
    · have Q := Lib.hid (And.intro h1 h2)
      clear hk h1 h2
      go_wp2_with fail
      refine HCy.out.mono ?_
      rintro e w4 ⟨hb4, ⟨Ac, cc, b, rfl, hcyc, hown⟩ | ⟨rfl, hno⟩⟩
      · obtain ⟨d, hat⟩ := hcyc.at
        have hbl : b.length = d + 1 := hat.len
        have hCb := hown.reads
        have hcc := (Kd.R_reads' hown.kd).2.1
        obtain ⟨ab, hA, _⟩ := Kd.at_string hCb (0 : Int) (by omega) (by omega)
        subst hA
        have hdN : b.length ≤ 1000000 := by
          have hin : ∀ x ∈ b, x ∈ N := by
            intro x hx
            obtain ⟨i, hi⟩ := List.getElem?_of_mem hx
            have hil := (List.getElem?_eq_some_iff.1 hi).1
            have hz : b[(i + 1) % b.length]? = some (b[(i + 1) % b.length]'(Nat.mod_lt _ (by omega))) := List.getElem?_eq_getElem _
            exact (G.out.inN _ _ (hat.next hi hz)).1
          have hnd : b.Nodup := Classical.byContradiction fun hn => by
            obtain ⟨i, j, hij, x, h1, h2⟩ := not_nodup hn
            have := hat.once h1 h2
            omega
          have := nodup_len hnd hin
          have := G.out.nl
          omega
        have hB4 : Below w.heap.size w w4 := (G.out.bl.trans (P3.out.mono G.out.bl.size)).trans (hb4.mono (Nat.le_trans G.out.bl.size P3.out.size))
        have Y : Hid (GraphAt w4 w.heap.size g N E ∧ Kd.C Kd.string w4 (some ab) b.length b ∧ Below w.heap.size w w4 ∧ CycAt E b d ∧ N.length ≤ 1000000) :=
          ⟨(G.out.gr.below P3.out).below hb4, hCb, hB4, hat, G.out.nl⟩
        have hne : Hid (N.length ≠ 0) := by
          obtain ⟨x, hx, _⟩ := Q.out.1
          intro e
          rw [List.eq_nil_of_length_eq_zero e] at hx
          exact absurd hx List.not_mem_nil
        clear hB4 hb4 HCy Q G P3 B1 X hat hCb hown hcyc hbl
        have hbp : 0 < b.length := by have := Y.out.2.2.2.1.len; omega
        have HNm := Lib.hid (Names_any Y.out.1 Y.out.2.2.2.2)
        go_wp2_with fail
        refine HNm.out.mono ?_
        rintro e w5 ⟨v, rn, rfl, hrise, hmem, hR, hb5⟩
        obtain ⟨An, cn, rfl⟩ := Kd.R_slice hR
        have hrp : 0 < rn.length := by
          have h1 := hne.out
          refine Nat.pos_of_ne_zero fun e => h1 ?_
          have h2 := List.eq_nil_of_length_eq_zero e
          rw [h2] at hmem
          cases hN : N with
          | nil => rfl
          | cons x t => exact absurd ((hmem x).2 (by rw [hN]; exact List.mem_cons_self ..)) List.not_mem_nil
        have hrne : ((0 : Int) == (rn.length : Int)) = false := by
          simp only [beq_eq_false_iff_ne, ne_eq]
          omega
        have Z : Hid (GraphAt w5 w.heap.size g N E ∧ Kd.C Kd.string w5 (some ab) b.length b ∧ Below w.heap.size w w5) := ⟨Y.out.1.below hb5, Kd.C_below Y.out.2.1 hb5, Y.out.2.2.1.trans (hb5.mono Y.out.2.2.1.size)⟩
        have Y2 : Hid (CycAt E b d ∧ N.length ≤ 1000000) := ⟨Y.out.2.2.2.1, Y.out.2.2.2.2⟩
        clear hrise hmem hR hb5 HNm Y hne
        go_wp2_with fail
        go_loopg [65] 1 (fun q v65 wr => v65 = .int .i64 0 ∧ wr = w5)
        case atStart => exact ⟨rfl, rfl⟩
        case round =>
          obtain ⟨rfl, rfl⟩ := hrel
          have HCl := Lib.hid (Clone_own (w := wr) none 0 [] (C_empty _ _) (by simp))
          go_wp2_with fail
          refine HCl.out.mono ?_
          rintro e W2 ⟨As, cs, rfl, hown, hb2⟩
          have HSo := Lib.hid (Sort_own As cs [] hown (by simp) List.nodup_nil)
          have PB2 := Lib.hid hb2
          clear hown hb2 HCl
          go_wp2_with fail
          refine HSo.out.mono ?_
          rintro e W3 ⟨rfl, s, _, _, _, _, hb3⟩
          have V : Hid (GraphAt W3 w.heap.size g N E ∧ Kd.C Kd.string W3 (some ab) b.length b ∧ Below w.heap.size w W3) := by
            have hb13 := PB2.out.trans hb3
            exact ⟨Z.out.1.below hb13, Kd.C_below Z.out.2.1 hb13, Z.out.2.2.trans (hb13.mono Z.out.2.2.size)⟩
          clear hb3 HSo PB2 Z
          go_wp2_with fail
          go_loopg [100] (b.length + 1) (fun q v100 wr => ∃ i : Nat, v100 = .int .i64 i ∧ i ≤ b.length ∧ q + i = b.length + 1 ∧ Hid (Below W3.heap.size W3 wr))
          case atStart => exact ⟨0, rfl, by omega, by omega, Below.refl _ _⟩
          case round =>
            obtain ⟨i, rfl, hi, hq, HS⟩ := hrel
            obtain ⟨W4, rfl⟩ : ∃ W4 : World, W4 = wr := ⟨_, rfl⟩
            obtain ⟨q1, rfl⟩ : ∃ q1 : Nat, q1 = gk := ⟨_, rfl⟩
            by_cases hilt : i < b.length
            · have hCW := Kd.C_below V.out.2.1 HS.out
              obtain ⟨_, hA2, hcell⟩ := Kd.at_string hCW (i : Int) (by omega) (by omega)
              injection hA2 with hA2
              subst hA2
              obtain ⟨nx, hnx⟩ : ∃ nx, nx = (i + 1) % b.length := ⟨_, rfl⟩
              have hnl : nx < b.length := by rw [hnx]; exact Nat.mod_lt _ hbp
              obtain ⟨_, hA2, hcelln⟩ := Kd.at_string hCW (nx : Int) (by omega) (by omega)
              injection hA2 with hA2
              subst hA2
              obtain ⟨_, hA2, hcz⟩ := Kd.at_string hCW (0 : Int) (by omega) (by omega)
              injection hA2 with hA2
              subst hA2
              have hmod : Int.tmod ((i : Int) + 1) (b.length : Int) = (nx : Int) := by
                rw [hnx]
                norm_cast
              have hpi := has_at hilt
              have hpn := has_at hnl
              have hp0 := has_at hbp
              obtain ⟨nm, hnm⟩ : ∃ nm, nm = rdOf ByteArray.empty b (i : Int) := ⟨_, rfl⟩
              obtain ⟨nv, hnv⟩ : ∃ nm, nm = rdOf ByteArray.empty b (nx : Int) := ⟨_, rfl⟩
              obtain ⟨z0, hz0⟩ : ∃ nm, nm = rdOf ByteArray.empty b (0 : Int) := ⟨_, rfl⟩
              rw [← hnm] at hcell hpi
              rw [← hnv] at hcelln hpn
              rw [show ((0 : Nat) : Int) = 0 from rfl, ← hz0] at hp0
              rw [← hz0] at hcz
              have hc0 : W4.cell? ab = some (.string z0) := by simpa [Addr.add] using hcz
              simp only [Int.toNat_natCast] at hcell hcelln
              have hlow : Op.bytesLess nm.toList z0.toList = false := by
                rw [less_bs]
                exact decide_eq_false (Y2.out.1.low hpi hp0)
              have U : Hid (b[i]? = some nm ∧ b[nx]? = some nv ∧ nx = (i + 1) % b.length) := ⟨hpi, hpn, hnx⟩
              have HC1 : Hid (Calls Try.prog 21 #[.slice (some ab) i cc, .string nm] W4 fun e w' => e = .returned (.bool false) ∧ w' = W4) := by
                have := Contains_any (w := W4) (some ab) cc (b.take i) nm (C_take hCW hi)
                rw [contains_no (fun hm => by
                  obtain ⟨j, hj⟩ := List.getElem?_of_mem hm
                  rw [List.getElem?_take] at hj
                  split at hj
                  · have := Y2.out.1.once hj hpi
                    omega
                  · cases hj), List.length_take, Nat.min_eq_left hi] at this
                exact this
              have HO := Lib.hid (Out_any (V.out.1.below HS.out) Y2.out.2 nm)
              clear hnm hnv hz0 hpi hpn hp0 hcz hCW hnx
              go_wp2_with fail
              refine HC1.out.mono ?_
              rintro e W4' ⟨rfl, hw⟩
              obtain rfl : W4 = W4' := hw.symm
              clear HC1
              go_wp2_with fail
              refine HO.out.mono ?_
              rintro e W5 ⟨v, r, rfl, _, hmem, hR, hb5⟩
              obtain ⟨Ar, cr, rfl⟩ := Kd.R_slice hR
              have HC2 : Hid (Calls Try.prog 21 #[.slice Ar r.length cr, .string nv] W5 fun e w' => e = .returned (.bool true) ∧ w' = W5) := by
                have := Contains_any (w := W5) Ar cr r nv (Kd.R_reads' hR).2.2
                rw [contains_yes ((hmem nv).2 (Y2.out.1.next U.out.1 (by rw [← U.out.2.2]; exact U.out.2.1)))] at this
                exact this
              have HS5 := Lib.hid (HS.out.trans (hb5.mono HS.out.size))
              clear hmem hR hb5 HO
              have hc05 : W5.cell? ab = some (.string z0) := by
                obtain ⟨_, hA2, hcz⟩ := Kd.at_string (Kd.C_below V.out.2.1 HS5.out) (0 : Int) (by omega) (by omega)
                injection hA2 with hA2
                subst hA2
                obtain ⟨_, hA3, hcy⟩ := Kd.at_string (Kd.C_below V.out.2.1 HS.out) (0 : Int) (by omega) (by omega)
                injection hA3 with hA3
                subst hA3
                have e1 : ab.add (Int.toNat 0) = ab := by simp [Addr.add]
                rw [e1] at hcz hcy
                rw [hc0] at hcy
                rw [hcz, ← hcy]
              go_wp2_with fail
              refine HC2.out.mono ?_
              rintro e W5' ⟨rfl, hw⟩
              obtain rfl : W5 = W5' := hw.symm
              clear HC2
              have HO2 := Lib.hid (Out_any (V.out.1.below HS5.out) Y2.out.2 nm)
              go_wp2_with fail
              refine HO2.out.mono ?_
              rintro e W6 ⟨v, r2, rfl, hrise, hmem, hR, hb6⟩
              obtain ⟨Ar2, cr2, rfl⟩ := Kd.R_slice hR
              have hrr : r2.length ≤ 1000000 := by
                obtain ⟨bo, bi, lo, li, hGr⟩ := V.out.1
                have := nodup_len (N := N) (rise_nodup hrise) (fun z hz => (hGr.inN _ _ ((hmem z).1 hz)).2)
                have := Y2.out.2
                omega
              have R2 : Hid ((∀ x, x ∈ r2 ↔ E nm x) ∧ Kd.C Kd.string W6 Ar2 r2.length r2 ∧ Below W3.heap.size W3 W6) := ⟨hmem, (Kd.R_reads' hR).2.2, HS5.out.trans (hb6.mono HS5.out.size)⟩
              clear hrise hmem hR hb6 HO2 hc05 hc0
              go_wp2_with fail
              go_loopg [137] (r2.length + 1) (fun q3 v137 wr => wr = W6 ∧ ∃ j : Nat, v137 = .int .i64 j ∧ j ≤ r2.length ∧ q3 + j = r2.length + 1)
              case atStart => exact ⟨rfl, 0, rfl, by omega, by omega⟩
              case round =>
                obtain ⟨rfl, j, rfl, hj, hq3⟩ := hrel
                by_cases hjl : j < r2.length
                · obtain ⟨ar, hA, hcellm⟩ := Kd.at_string R2.out.2.1 (j : Int) (by omega) (by omega)
                  subst hA
                  have hpj := has_at hjl
                  obtain ⟨mv, hmv⟩ : ∃ nm, nm = rdOf ByteArray.empty r2 (j : Int) := ⟨_, rfl⟩
                  rw [← hmv] at hcellm hpj
                  simp only [Int.toNat_natCast] at hcellm
                  have hEm : Hid (E nm mv) := (R2.out.1 mv).1 (List.mem_of_getElem? hpj)
                  clear hmv hpj
                  by_cases hmn : mv = nv
                  · subst hmn
                    go_wp2_with fail
                    go_roundg (r2.length - j)
                    case measure => omega
                    case rel => exact ⟨rfl, j + 1, by go_num, by omega, by omega⟩
                  · have HC3 : Hid (Calls Try.prog 21 #[.slice (some ab) b.length cc, .string mv] wr fun e w' => e = .returned (.bool false) ∧ w' = wr) := by
                      have := Contains_any (w := wr) (some ab) cc b mv (Kd.C_below V.out.2.1 R2.out.2.2)
                      rw [contains_no (fun hm => hmn (by
                        obtain ⟨j', hj'⟩ := List.getElem?_of_mem hm
                        have e := Y2.out.1.plain U.out.1 hj' hEm.out
                        rw [← U.out.2.2] at e
                        subst e
                        have h1 := U.out.2.1
                        rw [hj'] at h1
                        injection h1))] at this
                      exact this
                    have hmt : ¬ mv.toList = nv.toList := fun e => hmn (bs_inj (by rw [ByteArray.toList_eq, ByteArray.toList_eq] at e; exact e))
                    clear hmn
                    go_wp2_with fail
                    refine HC3.out.mono ?_
                    rintro e W7 ⟨rfl, hw⟩
                    obtain rfl : wr = W7 := hw.symm
                    clear HC3
                    go_wp2_with fail
                    go_roundg (r2.length - j)
                    case measure => omega
                    case rel => exact ⟨rfl, j + 1, by go_num, by omega, by omega⟩
                · go_wp2_with fail
                  go_roundg (b.length - i)
                  case measure => omega
                  case rel => exact ⟨i + 1, by go_num, by omega, by omega, R2.out.2.2⟩
            · go_wp2_with fail
              go_ret
              exact ⟨rfl, V.out.2.2.trans (HS.out.mono V.out.2.2.size)⟩
      · exact absurd (stuck_has_cycle G.out.inN Q.out.1 Q.out.2 hno) (fun h => h)
  · have HL := Lib.hid (long_yes w1 A A2 l.length c names.length c2 hlong)
    go_wp2_with fail
    refine HL.out.mono ?_
    rintro e w1' ⟨rfl, hw⟩
    obtain rfl : w1 = w1' := hw.symm
    clear HL
    go_wp2_with fail
    go_ret
    exact ⟨rfl, B1.out⟩
end Go.Proofs.Ytlccejbomgknkaa
