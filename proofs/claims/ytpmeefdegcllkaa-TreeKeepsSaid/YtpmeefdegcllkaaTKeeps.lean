/- TreeKeeps, walked. -/
import Derived.Test.YtpmeefdegcllkaaTKeepB
namespace Go.Proofs.Ytpmeefdegcllkaa
set_option linter.unusedVariables false
set_option linter.unusedSimpArgs false
open Go.RowKit Go.Shelf Go.Maps Go.Proofs.YtpmeefdegcllkaaW.PrintWords Go.Proofs.YtpmeefdegcllkaaW.PrintLast
open PTreeLists

set_option maxRecDepth 100000 in
set_option maxHeartbeats 8000000 in
theorem keeps_walk {w : World} (A : Option Addr) (c : Nat) (l : List S28) (p s : ByteArray) (hC : Kd.C k28 w A l.length l) (hc : l.length ≤ c) (hp : p.size ≤ maxLen) (hs : s.size ≤ maxLen) :
    Calls Try.prog 4 #[.slice A l.length c, .string p, .string s] w fun e w' => e = .returned (.bool true) ∧ Below w.heap.size w w' := by
  have hCl := hC.2.1
  have X := Lib.hid (And.intro hC hc)
  have HW := Lib.hid (works_any w)
  unfold maxLen at hp hs
  clear hC hc
  go_enter Try.func4, Try.ntmps4
  go_wp2_with fail
  refine HW.out.mono ?_
  rintro e w1 ⟨rfl, hb1⟩
  have HL : ∃ r : Bool, Hid (Calls Try.prog 6 #[.slice A l.length c] w1 fun e w' => e = .returned (.bool r) ∧ Below w.heap.size w w') := by
    obtain ⟨r, hr⟩ := long_any (Kd.C_below X.out.1 hb1) X.out.2
    refine ⟨r, hr.mono ?_⟩
    rintro e w2 ⟨rfl, hb⟩
    exact ⟨rfl, hb1.trans (hb.mono hb1.size)⟩
  obtain ⟨r, HL⟩ := HL
  clear HW hb1
  by_cases hr : r = true ∨ 400 < l.length ∨ 1048576 < s.size
  · have fin : ∀ w2 : World, Below w.heap.size w w2 → Below w.heap.size w w2 := fun _ h => h
    cases r with
    | true =>
      clear hr
      go_wp2_with fail
      refine HL.out.mono ?_
      rintro e w2 ⟨rfl, h2⟩
      go_wp2_with fail
      go_ret
      exact ⟨rfl, h2⟩
    | false =>
      by_cases hl : 400 < l.length
      · have hlb : decide ((400 : Int) < (l.length : Int)) = true := decide_eq_true (by omega)
        clear hr
        go_wp2_with fail
        refine HL.out.mono ?_
        rintro e w2 ⟨rfl, h2⟩
        go_wp2_with fail
        go_ret
        exact ⟨rfl, h2⟩
      · have hlb : decide ((400 : Int) < (l.length : Int)) = false := decide_eq_false (by omega)
        have hsz : 1048576 < s.size := by
          rcases hr with hr | hr | hr
          · cases hr
          · exact absurd hr hl
          · exact hr
        have hsb : decide ((1048576 : Int) < (s.size : Int)) = true := decide_eq_true (by omega)
        clear hr
        go_wp2_with fail
        refine HL.out.mono ?_
        rintro e w2 ⟨rfl, h2⟩
        go_wp2_with fail
        go_ret
        exact ⟨rfl, h2⟩
  · obtain ⟨hr, hl⟩ := not_or.1 hr
    obtain ⟨hl, hsz⟩ := not_or.1 hl
    have hr : r = false := by cases r with | true => exact absurd rfl hr | false => rfl
    subst hr
    have hlb : decide ((400 : Int) < (l.length : Int)) = false := decide_eq_false (by omega)
    have hsb : decide ((1048576 : Int) < (s.size : Int)) = false := decide_eq_false (by omega)
    go_wp2_with fail
    refine HL.out.mono ?_
    rintro e w2 ⟨rfl, h2⟩
    have HN : Hid (Calls Try.prog 7 #[] w2 fun e w' => ∃ t b, e = .returned (.pointer (some ⟨t, 0, none⟩)) ∧ K1 w w' t b 0 []) := by
      refine (new_any w2).mono ?_
      rintro e w3 ⟨t, b, rfl, hT, hb⟩
      exact ⟨t, b, rfl, ⟨hT.blk, hT.mo, Nat.le_trans h2.size hT.bt, Nat.le_trans h2.size hT.bb⟩, by simp, fun x hx => by simp at hx, h2.trans (hb.mono h2.size)⟩
    clear HL h2
    go_wp2_with fail
    refine HN.out.mono ?_
    rintro e w3 ⟨t, b, rfl, h3⟩
    have H3 := Lib.hid h3
    clear h3 HN hlb hsb
    go_wp2_with fail
    go_loopg [45] (l.length + 1) (fun q v45 wr => ∃ (i n : Nat) (F : List Pr), v45 = .int .i64 i ∧ i ≤ l.length ∧ l.length - i < q ∧ n ≤ i ∧ Hid (K1 w wr t b n F))
    case atStart => exact ⟨0, 0, [], rfl, by omega, by omega, by omega, H3⟩
    case round =>
      obtain ⟨i, n, F, rfl, hil, hq, hni, HS⟩ := hrel
      clear H3
      by_cases hlt : i < l.length
      · obtain ⟨ad, hA, c0, c1, c2, c3⟩ := at_T28 (Kd.C_below X.out.1 HS.out.bl) (i : Int) (by omega) (by omega)
        subst hA
        rw [Int.toNat_natCast] at c0 c1 c2 c3
        obtain ⟨o, ho⟩ : ∃ o, o = rd_T28 l (i : Int) := ⟨_, rfl⟩
        rw [← ho] at c0 c1 c2 c3
        clear ho
        have hlt2 : i + 1 ≤ l.length := hlt
        have HS2 := Lib.hid (HS.out.below ((Below.refl _ wr).alloc (Nat.le_refl _) (.cells #[.int .i64 o.f0, .string o.f1, .string o.f2, .int .i64 o.f3] 28)))
        by_cases hz : o.f0 = 0
        · have hzb : (o.f0 == 0) = true := by rw [hz]; rfl
          have HW : Hid (Calls Try.prog 8 #[.pointer (some ⟨t, 0, none⟩), .string o.f1, .string o.f2] (wr.alloc (.cells #[.int .i64 o.f0, .string o.f1, .string o.f2, .int .i64 o.f3] 28)) fun e W' => ∃ (c : Int) (n' : Nat) (F' : List Pr), e = .returned (.int .i64 c) ∧ n' ≤ n + 1 ∧ Hid (K1 w W' t b n' F')) := by
            refine (HS2.out.write (by omega) o.f1 o.f2).mono ?_
            rintro e W' ⟨c, n', F', rfl, _, h1, h2, _⟩
            exact ⟨c, n', F', rfl, h2, Lib.hid h1⟩
          clear HS HS2 hz
          go_wp2_with fail
          refine HW.out.mono ?_
          rintro e W' ⟨c9, n', F', rfl, hn', HS'⟩
          go_wp2_with fail
          go_roundg (l.length - (i + 1) + 1)
          case rel => exact ⟨i + 1, n', F', by first | rfl | (simp), hlt2, by omega, by omega, HS'⟩
          case measure => omega
        · have hzb : (o.f0 == 0) = false := by rw [beq_eq_false_iff_ne]; exact hz
          by_cases hz1 : o.f0 = 1
          · have hzb1 : (o.f0 == 1) = true := by rw [hz1]; rfl
            have HW : Hid (Calls Try.prog 12 #[.pointer (some ⟨t, 0, none⟩), .string o.f1] (wr.alloc (.cells #[.int .i64 o.f0, .string o.f1, .string o.f2, .int .i64 o.f3] 28)) fun e W' => ∃ (c : Int) (n' : Nat) (F' : List Pr), e = .returned (.int .i64 c) ∧ n' ≤ n + 1 ∧ Hid (K1 w W' t b n' F')) := by
              refine (HS2.out.remove (by omega) o.f1).mono ?_
              rintro e W' ⟨c, n', F', rfl, _, h1, h2, _⟩
              exact ⟨c, n', F', rfl, h2, Lib.hid h1⟩
            clear HS HS2 hz hz1
            go_wp2_with fail
            refine HW.out.mono ?_
            rintro e W' ⟨c9, n', F', rfl, hn', HS'⟩
            go_wp2_with fail
            go_roundg (l.length - (i + 1) + 1)
            case rel => exact ⟨i + 1, n', F', by first | rfl | (simp), hlt2, by omega, by omega, HS'⟩
            case measure => omega
          · have hzb1 : (o.f0 == 1) = false := by rw [beq_eq_false_iff_ne]; exact hz1
            clear HS hz hz1
            go_wp2_with fail
            go_roundg (l.length - (i + 1) + 1)
            case rel => exact ⟨i + 1, n, F, by first | rfl | (simp), hlt2, by omega, by omega, HS2⟩
            case measure => omega
      · obtain rfl : i = l.length := by omega
        have hn400 : n ≤ 400 := by omega
        have HC := Lib.hid HS.out.copy
        clear HS
        go_wp2_with fail
        refine HC.out.mono ?_
        rintro e w4 ⟨t2, b2, rfl, h4⟩
        obtain ⟨B2, hB2⟩ : ∃ B2, B2 = wr.heap.size := ⟨_, rfl⟩
        rw [← hB2] at h4
        have HD := Lib.hid h4.listed
        clear h4 HC hB2
        go_wp2_with fail
        refine HD.out.mono ?_
        rintro e w5 ⟨A2, c2, r, rfl, h5, hri, hrm, hrl⟩
        have HM := Lib.hid h5.mark
        have R := Lib.hid (And.intro hri (And.intro hrm (And.intro hrl h5)))
        clear HD h5 hri hrm hrl
        go_wp2_with fail
        refine HM.out.mono ?_
        rintro e w6 ⟨rfl, hw⟩
        obtain rfl : w5 = w6 := hw.symm
        have HWr := Lib.hid (R.out.2.2.2.write (by omega) p s)
        clear HM hw
        go_wp2_with fail
        refine HWr.out.mono ?_
        rintro e w7 ⟨c7, n7, F7, rfl, hw7, h7⟩
        have hq := eqnilp t2 w7
        have Z := Lib.hid (And.intro hw7 h7)
        clear hw7 h7 HWr
        by_cases hc7 : c7 = 0
        · subst hc7
          obtain ⟨hpp, hsl, hr7, hoth, hsame, hn7, hsub⟩ := Z.out.1.ok
          obtain ⟨u, hu⟩ : ∃ u, u = (rdF F p).1 := ⟨_, rfl⟩
          obtain ⟨cd, hcd⟩ : ∃ cd, cd = (rdF F p).2 := ⟨_, rfl⟩
          have HRc := Lib.hid (Z.out.2.readC p)
          rw [← hu, ← hcd] at HRc
          have H3 : ((cd == 0) = true ∧ (u.toList == s.toList) = true ∧ ((n7 : Int) != (n : Int)) = false ∧ ((n7 : Int) != (n : Int) + 1) = true) ∨ ((cd == 0) = false ∧ ((n7 : Int) != (n : Int)) = true ∧ ((n7 : Int) != (n : Int) + 1) = false) ∨ ((cd == 0) = true ∧ (u.toList == s.toList) = false ∧ ((n7 : Int) != (n : Int)) = true ∧ ((n7 : Int) != (n : Int) + 1) = false) := by
            rcases hsame with ⟨h1, h2⟩ | ⟨h1, h2⟩
            · rw [h1] at hu hcd
              exact .inl ⟨by rw [hcd]; rfl, by rw [hu]; simp, by rw [h2]; simp, by rw [h2, bne_iff_ne]; omega⟩
            · have e1 : ((n7 : Int) != (n : Int)) = true := by rw [h2, bne_iff_ne]; omega
              have e2 : ((n7 : Int) != (n : Int) + 1) = false := by rw [h2]; simp
              by_cases h0 : cd = 0
              · refine .inr (.inr ⟨by rw [h0]; rfl, ?_, e1, e2⟩)
                rw [beq_eq_false_iff_ne]
                intro h3
                rw [toL] at h3
                exact h1 (Prod.ext (by rw [← hu]; exact h3) (by rw [← hcd]; exact h0))
              · exact .inr (.inl ⟨by rw [beq_eq_false_iff_ne]; exact h0, e1, e2⟩)
          have Y := Lib.hid (And.intro hpp (And.intro hsl (And.intro hr7 (And.intro hoth hsub))))
          have hn7' : n7 ≤ 401 := by omega
          have hw1 : wrap64 ((n : Int) + 1) = (n : Int) + 1 := by unfold wrap64; omega
          have hw2 : wrap64 ((n7 : Int) + 1) = (n7 : Int) + 1 := by unfold wrap64; omega
          have hrl : r.length ≤ 256 := by rw [R.out.2.2.1]; exact R.out.2.2.2.q.k.hF
          clear hpp hsl hr7 hoth hsame hsub hu hcd Z hn7
          go_wp2_with fail
          refine HRc.out.mono ?_
          rintro e w8 ⟨rfl, h8⟩
          have HRt : Hid (Calls Try.prog 17 #[.pointer (some ⟨t, 0, none⟩), .string p] w8 fun e W' => e = .returned (.tuple #[.string s, .int .i64 0]) ∧ K3 w W' t b n7 F7 B2 t2 b2 n F A2 c2 r) := by
            have := h8.read p
            rw [Y.out.2.2.1] at this
            exact this
          clear h8 HRc
          rcases H3 with ⟨hcd, hus, hm1, hm2⟩ | ⟨hcd, hm1, hm2⟩ | ⟨hcd, hus, hm1, hm2⟩ <;> (
            go_wp2_with fail
            refine HRt.out.mono ?_
            rintro e w9 ⟨rfl, h9⟩
            have HM := Lib.hid h9.mark
            have H9 := Lib.hid h9
            clear h9
            have hss : (s.toList == s.toList) = true := by simp
            go_wp2_with fail
            refine HM.out.mono ?_
            rintro e w10 ⟨rfl, hw⟩
            obtain rfl : w9 = w10 := hw.symm
            clear hw
            go_wp2_with fail
            refine HM.out.mono ?_
            rintro e w10 ⟨rfl, hw⟩
            obtain rfl : w9 = w10 := hw.symm
            clear hw
            go_wp2_with fail
            refine HM.out.mono ?_
            rintro e w10 ⟨rfl, hw⟩
            obtain rfl : w9 = w10 := hw.symm
            clear hw HM
            have HWr : Hid (Calls Try.prog 8 #[.pointer (some ⟨t, 0, none⟩), .string p, .string s] w9 fun e W' => e = .returned (.int .i64 0) ∧ K3 w W' t b n7 F7 B2 t2 b2 n F A2 c2 r) := by
              refine (H9.out.write (by omega) p s).mono ?_
              rintro e W ⟨c', n', F', rfl, hw, h⟩
              obtain ⟨rfl, rfl, rfl⟩ := hw.again Y.out.1 Y.out.2.1 Y.out.2.2.1
              exact ⟨rfl, h⟩
            go_wp2_with fail
            refine HWr.out.mono ?_
            rintro e w11 ⟨rfl, h11⟩
            have HM := Lib.hid h11.mark
            have H11 := Lib.hid h11
            clear h11 HWr H9
            have hnn : ((n7 : Int) != (n7 : Int)) = false := by simp
            go_wp2_with fail
            refine HM.out.mono ?_
            rintro e w10 ⟨rfl, hw⟩
            obtain rfl : w11 = w10 := hw.symm
            clear hw HM
            go_wp2_with fail
            go_loopg [195] (r.length + 1) (fun q v195 wr2 => ∃ k : Nat, v195 = .int .i64 k ∧ k ≤ r.length ∧ r.length - k < q ∧ Hid (K3 w wr2 t b n7 F7 B2 t2 b2 n F A2 c2 r))
            case atStart => exact ⟨0, rfl, by omega, by omega, H11⟩
            case round =>
              obtain ⟨k, rfl, hk, hq2, HK⟩ := hrel
              clear H11
              by_cases hlt2 : k < r.length
              · obtain ⟨ad, hA, hcell⟩ := Kd.at_string (OwnS.reads HK.out.own) (k : Int) (by omega) (by omega)
                rw [Int.toNat_natCast] at hcell
                obtain ⟨x, hx⟩ : ∃ x, x = rdOf ByteArray.empty r (k : Int) := ⟨_, rfl⟩
                rw [← hx] at hcell
                have hxr : x ∈ r := by
                  rw [hx]
                  unfold rdOf
                  rw [Int.toNat_natCast, List.getD_eq_getElem?_getD, List.getElem?_eq_getElem hlt2]
                  exact List.getElem_mem _
                have hxF := (R.out.2.1 x).1 hxr
                have e0 : (rdF F x).2 = 0 := rdF_mem R.out.2.2.2.q.k.pf hxF
                have e7 : (rdF F7 x).2 = 0 := rdF_mem HK.out.q.k.pf (Y.out.2.2.2.2 x hxF)
                obtain ⟨a1, ha1⟩ : ∃ a1, a1 = (rdF F x).1 := ⟨_, rfl⟩
                obtain ⟨b1, hb1⟩ : ∃ b1, b1 = (rdF F7 x).1 := ⟨_, rfl⟩
                have hcase : ((x.toList == p.toList) = true ∧ True) ∨ ((x.toList == p.toList) = false ∧ (a1.toList == b1.toList) = true) := by
                  by_cases hxp : x = p
                  · exact .inl ⟨by rw [hxp]; simp, trivial⟩
                  · refine .inr ⟨by rw [beq_eq_false_iff_ne]; exact fun h => hxp (toL.1 h), ?_⟩
                    rw [ha1, hb1, Y.out.2.2.2.1 x hxp]
                    simp
                have HRc : Hid (Calls Try.prog 17 #[.pointer (some ⟨t2, 0, none⟩), .string x] wr fun e W' => e = .returned (.tuple #[.string a1, .int .i64 0]) ∧ K3 w W' t b n7 F7 B2 t2 b2 n F A2 c2 r) := by
                  have := HK.out.readC x
                  rw [e0, ← ha1] at this
                  exact this
                have HRt : ∀ W, K3 w W t b n7 F7 B2 t2 b2 n F A2 c2 r → Hid (Calls Try.prog 17 #[.pointer (some ⟨t, 0, none⟩), .string x] W fun e W' => e = .returned (.tuple #[.string b1, .int .i64 0]) ∧ K3 w W' t b n7 F7 B2 t2 b2 n F A2 c2 r) := by
                  intro W h
                  have := h.read x
                  rw [e7, ← hb1] at this
                  exact this
                subst hA
                have hlt3 : k + 1 ≤ r.length := hlt2
                clear e0 e7 ha1 hb1 hxF hxr hx HK
                go_wp2_with fail
                refine HRc.out.mono ?_
                rintro e w12 ⟨rfl, h12⟩
                have HRt2 := HRt _ h12
                clear h12 HRc HRt
                go_wp2_with fail
                refine HRt2.out.mono ?_
                rintro e w13 ⟨rfl, h13⟩
                have H13 := Lib.hid h13
                clear h13 HRt2
                rcases hcase with ⟨hxb, -⟩ | ⟨hxb, hab⟩ <;> (
                  go_wp2_with fail
                  go_roundg (r.length - (k + 1) + 1)
                  case rel => exact ⟨k + 1, by first | rfl | (simp), hlt3, by omega, H13⟩
                  case measure => omega)
              · obtain rfl : k = r.length := by omega
                have HRm : Hid (Calls Try.prog 12 #[.pointer (some ⟨t, 0, none⟩), .string p] wr fun e W' => e = .returned (.int .i64 0) ∧ ∃ F8, rdF F8 p = (⟨#[]⟩, 4) ∧ K3 w W' t b (n7 + 1) F8 B2 t2 b2 n F A2 c2 r) := by
                  refine (HK.out.remove (by omega) p).mono ?_
                  rintro e W ⟨c', n', F', rfl, hw, h⟩
                  obtain ⟨rfl, rfl, h3⟩ := hw.ok Y.out.1 (by rw [Y.out.2.2.1])
                  exact ⟨rfl, F', h3, h⟩
                clear HK
                go_wp2_with fail
                refine HRm.out.mono ?_
                rintro e w12 ⟨rfl, F8, h8, h12⟩
                have HRm2 : Hid (Calls Try.prog 12 #[.pointer (some ⟨t, 0, none⟩), .string p] w12 fun e W' => e = .returned (.int .i64 4) ∧ K3 w W' t b (n7 + 1) F8 B2 t2 b2 n F A2 c2 r) := by
                  refine (h12.remove (by omega) p).mono ?_
                  rintro e W ⟨c', n', F', rfl, hw, h⟩
                  obtain ⟨rfl, rfl, rfl⟩ := hw.none h8
                  exact ⟨rfl, h⟩
                have H8 := Lib.hid h8
                clear h12 h8 HRm
                go_wp2_with fail
                refine HRm2.out.mono ?_
                rintro e w13 ⟨rfl, h13⟩
                have HM := Lib.hid h13.mark
                have HRt : Hid (Calls Try.prog 17 #[.pointer (some ⟨t, 0, none⟩), .string p] w13 fun e W' => e = .returned (.tuple #[.string ⟨#[]⟩, .int .i64 4]) ∧ K3 w W' t b (n7 + 1) F8 B2 t2 b2 n F A2 c2 r) := by
                  have := h13.read p
                  rw [H8.out] at this
                  exact this
                clear h13 HRm2
                have hn8 : (((n7 + 1 : Nat) : Int) != (n7 : Int) + 1) = false := by simp
                go_wp2_with fail
                refine HM.out.mono ?_
                rintro e w10 ⟨rfl, hw⟩
                obtain rfl : w13 = w10 := hw.symm
                clear hw HM
                go_wp2_with fail
                refine HRt.out.mono ?_
                rintro e w14 ⟨rfl, h14⟩
                have hbl := Lib.hid h14.q.k.bl
                clear h14 HRt
                go_wp2_with fail
                go_ret
                exact ⟨rfl, hbl.out⟩)
        · have hcb : (c7 != 0) = true := by rw [bne_iff_ne]; exact hc7
          obtain ⟨hn7, hF7, hcase⟩ := Z.out.1.bad hc7
          obtain ⟨h7, hL7⟩ : ∃ h7 : K3 w w7 t b n F B2 t2 b2 n F A2 c2 r, True := ⟨by have := Z.out.2; rw [hn7, hF7] at this; exact this, trivial⟩
          have HD := Lib.hid (h7.listed R.out.1 R.out.2.1)
          have HCs := Lib.hid hcase
          clear hn7 hF7 hcase h7 hL7 Z
          go_wp2_with fail
          refine HD.out.mono ?_
          rintro e w8 ⟨A8, c8, rfl, h8, ho8⟩
          have HM8 := Lib.hid h8.mark
          have hrl8 : r.length ≤ 1000000 := by have := h8.q.k.hF; have := R.out.2.2.1; omega
          have HT8 := Lib.hid (texts_same hrl8 h8.own.reads (slice_cap h8.own) ho8.reads (slice_cap ho8))
          have H8 := Lib.hid h8
          clear h8 ho8 HD hrl8
          have hnn : ((n : Int) == (n : Int)) = true := by simp
          go_wp2_with fail
          refine HM8.out.mono ?_
          rintro e w9 ⟨rfl, hw⟩
          obtain rfl : w8 = w9 := hw.symm
          clear hw HM8
          go_wp2_with fail
          refine HT8.out.mono ?_
          rintro e w10 ⟨rfl, hb10⟩
          have HI := Lib.hid (is_any p w10)
          have HB := Lib.hid (H8.out.below hb10)
          clear hb10 HT8
          have HRL : Hid (r.length = F.length) := R.out.2.2.1
          rcases HCs.out with ⟨rfl, hpi⟩ | ⟨rfl, hpi, hl2⟩ | ⟨rfl, hpi, hl2⟩
          · rw [hpi] at HI
            clear hpi HCs
            go_wp2_with fail
            refine HI.out.mono ?_
            rintro e w11 ⟨rfl, m, rfl⟩
            go_wp2_with fail
            go_ret
            exact ⟨rfl, pw_below_drewN HB.out.q.k.bl m⟩
          · rw [hpi] at HI
            have hld : decide ((4096 : Int) < (s.size : Int)) = true := decide_eq_true (by omega)
            clear hpi HCs
            go_wp2_with fail
            refine HI.out.mono ?_
            rintro e w11 ⟨rfl, m, rfl⟩
            go_wp2_with fail
            go_ret
            exact ⟨rfl, pw_below_drewN HB.out.q.k.bl m⟩
          · rw [hpi] at HI
            have hrb : ((r.length : Int) == 256) = true := by rw [HRL.out, hl2]; rfl
            clear hpi HCs hl2
            go_wp2_with fail
            refine HI.out.mono ?_
            rintro e w11 ⟨rfl, m, rfl⟩
            go_wp2_with fail
            go_ret
            exact ⟨rfl, pw_below_drewN HB.out.q.k.bl m⟩
end Go.Proofs.Ytpmeefdegcllkaa
