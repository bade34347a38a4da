/- TreeLists, walked. -/
import Derived.Test.YtpmeefdegcllkaaTTwo
import Derived.Stop.RegionWithIn
import Derived.Lib.MinMax
namespace Go.Proofs.Ytpmeefdegcllkaa
set_option linter.unusedVariables false
set_option linter.unusedSimpArgs false
open Go.RowKit Go.Shelf Go.Maps Go.Proofs.YtpmeefdegcllkaaW.PrintWords Go.Proofs.YtpmeefdegcllkaaW.PrintLast
open PTreeLists
attribute [local go_sem] Oper.semAt_some

def tl32T : Bool × List (List Nat × List Nat) := (true, [([], []), ([], []), ([], []), ([2], [2]), ([3], [3]), ([1, 4], [1, 4]), ([5], [5]), ([0, 6], [0, 6])])
def tl32B : List Nat := [0, 0, 0, 4, 12, 30, 62, 127]
theorem tl32_tab : rtab .any (opsOf Try.f3 32) = tl32T := by kernel_rfl
theorem tl32_bits : waitsOk tl32T.2 tl32B = true := by kernel_rfl
set_option maxRecDepth 100000 in
set_option maxHeartbeats 8000000 in
theorem lists_walk {w : World} (A : Option Addr) (c : Nat) (l : List S28) (px : ByteArray) (left : Int) (hC : Kd.C k28 w A l.length l) (hc : l.length ≤ c) (hpx : px.size ≤ maxLen) :
    Calls Try.prog 3 #[.slice A l.length c, .string px, .int .i64 left] w fun e w' => e = .returned (.bool true) ∧ Below w.heap.size w w' := by
  refine (callsIn_wide (n := 8)).1 ?_
  refine callsIn_of_wp_marks (F := Fence.wide) Try.func3 rfl trivial ?_ rfl
  simp only [Try.ntmps3, List.size_toArray, List.length_cons, List.length_nil, Nat.reduceAdd, Nat.reduceSub, Array.replicate_succ, Array.replicate_zero, List.push_toArray, List.append_toArray, List.nil_append, List.cons_append]
  refine wpIn_wide.2 ?_
  have hCl := hC.2.1
  have X := Lib.hid (And.intro hC (And.intro hc hpx))
  obtain ⟨w0, hw0⟩ : ∃ w0, w0 = (((w.alloc (.cells #[.string px] 9)).alloc (.cells #[.int .i64 left] 3)).alloc (.cells #[.bool false] 4)) := ⟨_, rfl⟩
  have h0 := LS.start w px left
  rw [← hw0] at h0
  have HW : Hid (Calls Try.prog 5 #[] (((w.alloc (.cells #[.string px] 9)).alloc (.cells #[.int .i64 left] 3)).alloc (.cells #[.bool false] 4)) fun e w' => e = .returned (.bool true) ∧ LS w w' px left) := by
    rw [← hw0]
    refine (works_any w0).mono ?_
    rintro e w1 ⟨rfl, hb⟩
    exact ⟨rfl, h0.step (hb.mono h0.sz)⟩
  clear hC hc hpx hw0 h0
  go_wp2_with fail
  refine HW.out.mono ?_
  rintro e w1 ⟨rfl, h1⟩
  have HL : ∃ r : Bool, Hid (Calls Try.prog 6 #[.slice A l.length c] w1 fun e w' => e = .returned (.bool r) ∧ LS w w' px left) := by
    obtain ⟨r, hr⟩ := long_any (Kd.C_below X.out.1 h1.bl) X.out.2.1
    refine ⟨r, hr.mono ?_⟩
    rintro e w2 ⟨rfl, hb⟩
    exact ⟨rfl, h1.step (hb.mono h1.sz)⟩
  obtain ⟨r, HL⟩ := HL
  clear HW h1
  by_cases hr : r = true ∨ 400 < l.length
  · have hlb : r = false → decide ((400 : Int) < (l.length : Int)) = true := by
      intro h
      rcases hr with hr | hr
      · rw [h] at hr; cases hr
      · exact decide_eq_true (by omega)
    clear hr
    have fin : ∀ w2 : World, LS w w2 px left → Boxed (w2.setCell ⟨w.heap.size + 2, 0, none⟩ (.bool true)) (w.heap.size + 2) 4 (.bool true) ∧ Below w.heap.size w (w2.setCell ⟨w.heap.size + 2, 0, none⟩ (.bool true)) := fun w2 h => ⟨Boxed.set _ h.rs, h.bl.setCell (p := ⟨w.heap.size + 2, 0, none⟩) (by simp) _⟩
    cases r with
    | true =>
      go_wp2_with fail
      refine HL.out.mono ?_
      rintro e w2 ⟨rfl, h2⟩
      have hc := h2.rs.cell
      have hf := h2.rs.frozen
      have F := Lib.hid (fin w2 h2)
      clear fin h2 HL
      go_wp2_with fail
      have hk := F.out.1.cell
      exact ⟨_, by simp [results, loadVar, go_sem, hk], rfl, F.out.2⟩
    | false =>
      have hlb := hlb rfl
      go_wp2_with fail
      refine HL.out.mono ?_
      rintro e w2 ⟨rfl, h2⟩
      have hc := h2.rs.cell
      have hf := h2.rs.frozen
      have F := Lib.hid (fin w2 h2)
      clear fin h2 HL
      go_wp2_with fail
      have hk := F.out.1.cell
      exact ⟨_, by simp [results, loadVar, go_sem, hk], rfl, F.out.2⟩
  · obtain ⟨hr, hl⟩ := not_or.1 hr
    have hr : r = false := by cases r with | true => exact absurd rfl hr | false => rfl
    subst hr
    have hlb : decide ((400 : Int) < (l.length : Int)) = false := decide_eq_false (by omega)
    go_wp2_with fail
    refine HL.out.mono ?_
    rintro e w2 ⟨rfl, h2⟩
    have HN : Hid (Calls Try.prog 7 #[] w2 fun e w' => ∃ t b, e = .returned (.pointer (some ⟨t, 0, none⟩)) ∧ S1 w (w'.alloc (.cells #[.pointer (some ⟨t, 0, none⟩)] 25)) px left t b w'.heap.size 0 []) := by
      refine (new_any w2).mono ?_
      rintro e w3 ⟨t, b, rfl, hT, hb⟩
      refine ⟨t, b, rfl, (h2.step (hb.mono h2.sz)).step ((Below.refl _ _).alloc (h2.step (hb.mono h2.sz)).sz _), ?_, Boxed.new _ _ _, by simp⟩
      have := hT.below ((Below.refl w3.heap.size w3).alloc (Nat.le_refl _) (.cells #[.pointer (some ⟨t, 0, none⟩)] 25))
      exact ⟨this.blk, this.mo, Nat.le_trans h2.sz this.bt, Nat.le_trans h2.sz this.bb⟩
    clear HL h2
    go_wp2_with fail
    refine HN.out.mono ?_
    rintro e w3 ⟨t, b, rfl, h3⟩
    have H3 := Lib.hid h3
    clear h3 HN
    go_wp2_with fail
    obtain ⟨bt, hbt⟩ : ∃ bt, bt = w3.heap.size := ⟨_, rfl⟩
    obtain ⟨W4, hW4⟩ : ∃ W4, W4 = w3.alloc (.cells #[.pointer (some ⟨t, 0, none⟩)] 25) := ⟨_, rfl⟩
    rw [← hW4, ← hbt] at H3 ⊢
    clear hW4 hbt hlb
    go_loopg [31] (l.length + 1) (fun q v31 wr => ∃ (i n : Nat) (F : List Pr), v31 = .int .i64 i ∧ i ≤ l.length ∧ l.length - i < q ∧ n ≤ i ∧ Hid (S1 w wr px left t b bt n F))
    case atStart => exact ⟨0, 0, [], rfl, by omega, by omega, by omega, H3⟩
    case round =>
      obtain ⟨i, n, F, rfl, hil, hq, hni, HS⟩ := hrel
      clear H3
      by_cases hlt : i < l.length
      · obtain ⟨ad, hA, c0, c1, c2, c3⟩ := at_T28 (Kd.C_below X.out.1 HS.out.ls.bl) (i : Int) (by omega) (by omega)
        subst hA
        rw [Int.toNat_natCast] at c0 c1 c2 c3
        obtain ⟨o, ho⟩ : ∃ o, o = rd_T28 l (i : Int) := ⟨_, rfl⟩
        rw [← ho] at c0 c1 c2 c3
        clear ho
        have hlt2 : i + 1 ≤ l.length := hlt
        have HS2 := Lib.hid (HS.out.below ((Below.refl _ wr).alloc (Nat.le_refl _) (.cells #[.int .i64 o.f0, .string o.f1, .string o.f2, .int .i64 o.f3] 28)))
        by_cases hz : o.f0 = 0
        · have hzb : (o.f0 == 0) = true := by rw [hz]; rfl
          have hcb := HS2.out.bx.cell
          have HW : Hid (Calls Try.prog 8 #[.pointer (some ⟨t, 0, none⟩), .string o.f1, .string o.f2] (wr.alloc (.cells #[.int .i64 o.f0, .string o.f1, .string o.f2, .int .i64 o.f3] 28)) fun e W' => ∃ (c : Int) (n' : Nat) (F' : List Pr), e = .returned (.int .i64 c) ∧ n' ≤ n + 1 ∧ Hid (S1 w W' px left t b bt n' F')) := by
            refine (HS2.out.write (by omega) o.f1 o.f2).mono ?_
            rintro e W' ⟨c, n', F', rfl, h1, h2, _⟩
            exact ⟨c, n', F', rfl, h2, Lib.hid h1⟩
          clear HS HS2 hz
          go_wp2_with fail
          refine HW.out.mono ?_
          rintro e W' ⟨c9, n', F', rfl, hn', HS'⟩
          go_wp2_with fail
          go_roundg (l.length - (i + 1) + 1)
          case rel => exact ⟨i + 1, n', F', by first | rfl | (simp), hlt2, by omega, by omega, HS'⟩
          case measure => omega
        · have hzb : (o.f0 == 0) = false := by rw [beq_eq_false_iff_ne]; exact hz
          clear HS
          go_wp2_with fail
          go_roundg (l.length - (i + 1) + 1)
          case rel => exact ⟨i + 1, n, F, by first | rfl | (simp), hlt2, by omega, by omega, HS2⟩
          case measure => omega
      · obtain rfl : i = l.length := by omega
        have hcb := HS.out.bx.cell
        have HD : Hid (Calls Try.prog 9 #[.pointer (some ⟨t, 0, none⟩), .string ⟨#[]⟩] wr fun e W' => ∃ A c r, e = .returned (.tuple #[.slice A r.length c, .bool true]) ∧ r.length = F.length ∧ Rise r ∧ (∀ x, x ∈ r ↔ x ∈ F.map Prod.fst) ∧ S2 w (W'.alloc (.cells #[.slice A r.length c] 31)) px left t b bt n F W'.heap.size A c r) := HS.out.listed
        clear HS
        go_wp2_with fail
        refine HD.out.mono ?_
        rintro e w5 ⟨A2, c2, r, rfl, hrl, hri, hrm, HS⟩
        have hcb := HS.s.bx.cell
        have hpx0 := HS.s.ls.px.cell
        have HLs := Lib.hid (HS.list hri hrm)
        have R := Lib.hid (And.intro hri hrm)
        have HRL := Lib.hid hrl
        clear hri hrm HD HS hrl
        go_wp2_with fail
        obtain ⟨ba, hba⟩ : ∃ ba, ba = w5.heap.size := ⟨_, rfl⟩
        rw [← hba] at HLs ⊢
        refine HLs.out.mono ?_
        rintro e w6 ⟨B, Bs, rfl, HS, HQ⟩
        have hcb := HS.s.bx.cell
        have hca := HS.ba.cell
        have HN : ∀ nq, Calls Try.prog 11 #[.pointer (some ⟨t, 0, none⟩)] (w6.drewN nq) fun e w' => e = .returned (.int .i64 r.length) ∧ w' = w6.drewN nq := by
          intro nq
          rw [HRL.out]
          exact len_any (HS.s.T.below (pw_below_drewN (Below.refl _ _) nq))
        have HN := Lib.hid HN
        have H6 := Lib.hid (And.intro HS HQ)
        have hq := fun w => eqnil #[.pointer (some ⟨Bs, 0, none⟩)] w
        have hnb : ((r.length : Int) != (r.length : Int)) = false := by simp
        clear HS HQ HLs hba hpx0
        go_wp2_with fail
        go_quiet (exact Calls.quiet_of_same (HN.out _))
        have H7 : Hid (S2 w (w6.drewN nq) px left t b bt n F ba A2 c2 r ∧ SeqAt (w6.drewN nq) B Bs (r.filter (fun x => pre x px)) ∧ t < B ∧ b < B ∧ ba < B ∧ bt < B ∧ w.heap.size + 3 ≤ B ∧ B ≤ (w6.drewN nq).heap.size) := by
          obtain ⟨h1, h2, h3⟩ := H6.out
          have hb := pw_below_drewN (Below.refl w6.heap.size w6) nq
          exact ⟨h1.below hb, h2.below hb, h3.1, h3.2.1, h3.2.2.1, h3.2.2.2.1, h3.2.2.2.2.1, Nat.le_trans h3.2.2.2.2.2 hb.size⟩
        clear HN H6 hcb hca hnb
        obtain ⟨W0, hW0⟩ : ∃ W0, W0 = w6.drewN nq := ⟨_, rfl⟩
        rw [← hW0] at H7 ⊢
        clear hW0
        have hca := H7.out.1.ba.cell
        have hrl : r.length ≤ 256 := by rw [HRL.out]; exact H7.out.1.s.hF
        go_wp2_with fail
        go_loopg [13, 68] (r.length + 1) (fun q v13 v68 wr => ∃ (k c3 : Nat) (A3 : Option Addr), v13 = .slice A3 ((r.take k).filter (fun x => pre x px)).length c3 ∧ v68 = .int .i64 k ∧ k ≤ r.length ∧ r.length - k < q ∧ Hid (OwnS wr W0.heap.size A3 c3 ((r.take k).filter (fun x => pre x px)) ∧ Below W0.heap.size W0 wr))
        case atStart => exact ⟨0, 0, none, by simp, rfl, by omega, by omega, OwnS.nil _ _, Below.refl _ _⟩
        case round =>
          obtain ⟨k, c3, A3, rfl, rfl, hk, hq2, HO⟩ := hrel
          by_cases hlt2 : k < r.length
          · have hS := H7.out.1.below HO.out.2
            have hpx0 := hS.s.ls.px.cell
            have hca := hS.ba.cell
            obtain ⟨ad, hA, hcell⟩ := Kd.at_string (OwnS.reads hS.own) (k : Int) (by omega) (by omega)
            obtain ⟨x, hx⟩ : ∃ x, x = rdOf ByteArray.empty r (k : Int) := ⟨_, rfl⟩
            rw [← hx, Int.toNat_natCast] at hcell
            subst hA
            have hprev : 0 < k → ∃ y, wr.cell? (ad.add (k - 1)) = some (.string y) ∧ bs y < bs x := by
              intro h0
              obtain ⟨ad', hA', hc'⟩ := Kd.at_string (OwnS.reads hS.own) ((k : Int) - 1) (by omega) (by omega)
              injection hA' with hA'
              subst hA'
              rw [show ((k : Int) - 1).toNat = k - 1 from by omega] at hc'
              refine ⟨_, hc', ?_⟩
              rw [hx]
              have hp := List.pairwise_iff_getElem.1 R.out.1 (k - 1) k (by omega) hlt2 (by omega)
              unfold rdOf
              rw [Int.toNat_natCast, List.getD_eq_getElem?_getD, List.getD_eq_getElem?_getD, show ((k : Int) - 1).toNat = k - 1 from by omega, List.getElem?_eq_getElem (by omega), List.getElem?_eq_getElem hlt2]
              exact hp
            have HX : Hid (r[k]? = some x) := by
              show r[k]? = some x
              rw [hx]; unfold rdOf; rw [Int.toNat_natCast, List.getD_eq_getElem?_getD, List.getElem?_eq_getElem hlt2]; rfl
            clear hS hx
            have hlt3 : k + 1 ≤ r.length := hlt2
            have hk0 : (∃ y, 0 < k ∧ wr.cell? (ad.add (k - 1)) = some (.string y) ∧ Op.bytesLess y.toList x.toList = true ∧ decide ((0 : Int) < (k : Int)) = true) ∨ (¬ 0 < k ∧ decide ((0 : Int) < (k : Int)) = false) := by
              by_cases h0 : 0 < k
              · obtain ⟨y, hcy, hyx⟩ := hprev h0
                exact .inl ⟨y, h0, hcy, by rw [less_bs]; exact decide_eq_true hyx, decide_eq_true (by omega)⟩
              · exact .inr ⟨h0, decide_eq_false (by omega)⟩
            clear hprev
            have hwl : ((r.take k).filter (fun x => pre x px)).length ≤ 256 := Nat.le_trans (List.length_filter_le _ _) (by rw [List.length_take]; omega)
            have hbase : W0.heap.size ≤ wr.heap.size := HO.out.2.size
            have hpl := X.out.2.2
            unfold maxLen at hpl
            rcases hk0 with ⟨y, h0, hcy, hgt, hkd⟩ | ⟨h0, hkd⟩ <;> (
              go_wp2_with fail
              by_cases hsz : px.size ≤ x.size
              · have hsd : decide ((px.size : Int) ≤ (x.size : Int)) = true := decide_eq_true (by omega)
                by_cases heq : (x.extract 0 px.size).toList = px.toList
                · have heb : ((x.extract 0 px.size).toList == px.toList) = true := beq_iff_eq.2 heq
                  have hpre : pre x px = true := by rw [pre_raw, heb]; simp [hsz]
                  have HPre := Lib.hid hpre
                  clear hpre heq
                  go_quiet (fail)
                  have hO := OwnS.below HO.out.1 (pw_below_drewN (Below.refl wr.heap.size wr) nq)
                  have HB := Lib.hid (HO.out.2.trans ((pw_below_drewN (Below.refl wr.heap.size wr) nq).mono hbase))
                  have hbase2 : W0.heap.size ≤ (wr.drewN nq).heap.size := HB.out.size
                  go_wp2_with (at_builtin; refine wpList_pushS rfl (.tmp 97) (.tmp 99) rfl W0.heap.size c3 A3 _ hO rfl x rfl (by omega) hbase2 ?_)
                  intro A6 c6 W6 h6 g6
                  have HB6 := Lib.hid (HB.out.grown g6 HB.out.size (fun i e => (OwnS.lt hO e).1))
                  have H6' := Lib.hid h6
                  clear h6 g6 hO HB
                  go_wp2_with fail
                  go_roundg (r.length - (k + 1) + 1)
                  case rel =>
                    refine ⟨k + 1, c6, A6, by rw [filt_hit HX.out HPre.out, List.length_append]; rfl, by first | rfl | (simp), hlt3, by omega, ?_⟩
                    refine Lib.hid ⟨?_, HB6.out⟩
                    rw [filt_hit HX.out HPre.out]
                    exact H6'.out
                  case measure => omega
                · have heb : ((x.extract 0 px.size).toList == px.toList) = false := by rw [beq_eq_false_iff_ne]; exact heq
                  have hpre : pre x px = false := by rw [pre_raw, heb]; simp
                  have HPre := Lib.hid hpre
                  clear hpre heq
                  go_quiet (fail)
                  have HB : Hid (OwnS (wr.drewN nq) W0.heap.size A3 c3 ((r.take k).filter (fun x => pre x px)) ∧ Below W0.heap.size W0 (wr.drewN nq)) :=
                    ⟨OwnS.below HO.out.1 (pw_below_drewN (Below.refl wr.heap.size wr) nq), HO.out.2.trans ((pw_below_drewN (Below.refl wr.heap.size wr) nq).mono hbase)⟩
                  go_wp2_with fail
                  go_roundg (r.length - (k + 1) + 1)
                  case rel => exact ⟨k + 1, c3, A3, by rw [filt_miss HX.out HPre.out], by first | rfl | (simp), hlt3, by omega, by rw [filt_miss HX.out HPre.out]; exact HB⟩
                  case measure => omega
              · have hsd : decide ((px.size : Int) ≤ (x.size : Int)) = false := decide_eq_false (by omega)
                have hpre : pre x px = false := by rw [pre_raw]; simp [hsz]
                have HPre := Lib.hid hpre
                clear hpre
                go_quiet (fail)
                have HB : Hid (OwnS (wr.drewN nq) W0.heap.size A3 c3 ((r.take k).filter (fun x => pre x px)) ∧ Below W0.heap.size W0 (wr.drewN nq)) :=
                  ⟨OwnS.below HO.out.1 (pw_below_drewN (Below.refl wr.heap.size wr) nq), HO.out.2.trans ((pw_below_drewN (Below.refl wr.heap.size wr) nq).mono hbase)⟩
                go_wp2_with fail
                go_roundg (r.length - (k + 1) + 1)
                case rel => exact ⟨k + 1, c3, A3, by rw [filt_miss HX.out HPre.out], by first | rfl | (simp), hlt3, by omega, by rw [filt_miss HX.out HPre.out]; exact HB⟩
                case measure => omega)
          · obtain rfl : k = r.length := by omega
            rw [List.take_length] at HO ⊢
            obtain ⟨zs, hzs⟩ : ∃ zs, zs = r.filter (fun x => pre x px) := ⟨_, rfl⟩
            rw [← hzs] at HO H7 ⊢
            have hzl : zs.length ≤ r.length := by rw [hzs]; exact List.length_filter_le _ _
            clear hzs
            go_wp2_with fail
            obtain ⟨bn, hbn⟩ : ∃ bn, bn = wr.heap.size := ⟨_, rfl⟩
            obtain ⟨W1, hW1⟩ : ∃ W1, W1 = wr.alloc (.cells #[.int .i64 0] 3) := ⟨_, rfl⟩
            have hn0 : W0.heap.size ≤ bn := by rw [hbn]; exact HO.out.2.size
            have hB1 : Below W0.heap.size W0 W1 := by rw [hW1]; exact HO.out.2.alloc HO.out.2.size _
            have hb1 : Boxed W1 bn 3 (.int .i64 0) := by rw [hW1, hbn]; exact Boxed.new _ _ _
            have hs1 : W1.heap.size = bn + 1 := by rw [hW1, hbn]; simp
            have Z0 : Hid (S2 w wr px left t b bt n F ba A2 c2 r ∧ SeqAt wr B Bs zs ∧ OwnS wr W0.heap.size A3 c3 zs ∧ Below wr.heap.size wr W1 ∧ wr.heap.size = bn) :=
              ⟨H7.out.1.below HO.out.2, H7.out.2.1.below HO.out.2, HO.out.1, by rw [hW1]; exact (Below.refl _ _).alloc (Nat.le_refl _) _, hbn.symm⟩
            have Z : Hid (S2 w W1 px left t b bt n F ba A2 c2 r ∧ SeqAt W1 B Bs zs ∧ OwnS W1 W0.heap.size A3 c3 zs) :=
              ⟨H7.out.1.below hB1, H7.out.2.1.below hB1, by rw [hW1]; exact OwnS.alloc HO.out.1 _⟩
            have hlow : ∀ a l c, W1.cell? ⟨Bs, 0, none⟩ = some (.slice (some a) l c) → a.block < W0.heap.size := by
              intro a l c h
              refine H7.out.2.1.low a l c ?_
              rw [← World.cell?_of_block (a := ⟨Bs, 0, none⟩) (hB1.block _ H7.out.2.1.lt)]
              exact h
            have htB := H7.out.2.2.1
            have hbB := H7.out.2.2.2.1
            rw [← hW1, ← hbn]
            have hlf := Z.out.1.s.ls.lf
            have hszl := Z.out.1.s.ls.sz
            have hzl2 : zs.length ≤ 256 := by omega
            clear hW1 hbn
            refine wp_range_once 4 (gf := 28) (lb := #[.pointer (some ⟨Bs, 0, none⟩)]) rfl (enters_of Try.func28 (by kernel_rfl) rfl)
              (values_stops Fence.wide 7 trivial rfl (by omega) (by omega : zs.length ≤ 1000000) Z.out.2.1 (n₀ := W0.heap.size) (t := t) (b := b) htB hbB hlow) (fun h k => Kp.trans h k)
              (fun W l o o' h1 h2 h3 h4 => fun k hk _ _ => World.putObj_heap_other (by omega)) (Below.refl _ _) (fun _ => rfl)
              (fun pre W => Boxed W bn 3 (.int .i64 pre.length) ∧ Below bn W1 W)
              (OwnFrom.and (Own.from (boxed_own bn 3 (fun pre : List ByteArray => .int .i64 pre.length)) _) (ownFrom_below (by omega) (by omega)))
              ⟨hb1, Below.refl _ _⟩ ?a1 ?assign ?body (fun a W h => h) ?hend
            case assign =>
              intro l x W K hK
              gi_wp2
              exact hK
            case body =>
              rintro l' pre' x W ⟨hn, hB⟩ hlt'
              have hlf' := (Boxed.low hlf hB (by omega)).cell
              have hnc := hn.cell
              have hnf := hn.frozen
              have hln : (((pre' ++ [x]).length : Nat) : Int) = (pre'.length : Int) + 1 := by simp
              have hbs := Boxed.set (.int .i64 ((pre'.length : Int) + 1)) hn
              rw [← hln] at hbs
              have F4 := Lib.hid (And.intro hln (And.intro hbs (hB.setCell (p := ⟨bn, 0, none⟩) (Nat.le_refl _) (.int .i64 ((pre'.length : Int) + 1)))))
              clear hln hbs
              gi_wp2
              · refine ⟨(KeepsOthers.setCell _ _ _).from _, rfl, ?_, F4.out.2.2⟩
                rw [← F4.out.1]
                exact F4.out.2.1
              · refine ⟨(KeepsOthers.setCell _ _ _).from _, fun k hk h1 h2 => Below.heap_setCell _ _ _ _ (by show k ≠ bn; omega), ?_, F4.out.2.2⟩
                rw [← F4.out.1]
                exact F4.out.2.1
            case hend =>
              rintro D xs W hD hS ⟨hn, hB⟩ hK
              have hm : xs.length ≤ zs.length := by
                rcases hS with rfl | h
                · exact Nat.le_refl _
                · exact h.length_le
              obtain ⟨m, hm'⟩ : ∃ m, m = xs.length := ⟨_, rfl⟩
              rw [← hm'] at hn hm
              have hnc := hn.cell
              have hBw : Below wr.heap.size wr W := Z0.out.2.2.2.1.trans (by rw [Z0.out.2.2.2.2]; exact hB)
              have ZW : Hid (S2 w W px left t b bt n F ba A2 c2 r ∧ SeqAt W B Bs zs ∧ OwnS W W0.heap.size A3 c3 zs ∧ W.heap[D]? = some (.deferred (some [])) ∧ W1.heap.size ≤ W.heap.size) :=
                ⟨Z0.out.1.below hBw, Z0.out.2.1.below hBw, OwnS.below Z0.out.2.2.1 hBw, hK, hB.size⟩
              have hcb := ZW.out.1.s.bx.cell
              clear hm' hS hBw hK hn hB Z Z0 hb1 hB1 hlf
              by_cases hz0 : 0 < zs.length
              · obtain ⟨ad3, hA3, hcell3⟩ := Kd.at_string (OwnS.reads ZW.out.2.2.1) ((zs.length : Int) - 1) (by omega) (by omega)
                obtain ⟨j, hj⟩ : ∃ j, j = zs.length - 1 := ⟨_, rfl⟩
                rw [show ((zs.length : Int) - 1).toNat = j from by omega] at hcell3
                have hwz : wrap64 ((zs.length : Int) - 1) = (j : Int) := by unfold wrap64; omega
                have hbd : (j : Int) < (zs.length : Int) := by omega
                subst hA3
                have HC3 : ∀ w', OwnS w' W0.heap.size (some ad3) c3 zs → w'.cell? (ad3.add j) = some (.string (rdOf ByteArray.empty zs ((zs.length : Int) - 1))) := by
                  intro w' h
                  obtain ⟨ad4, hA4, h4⟩ := Kd.at_string (OwnS.reads h) ((zs.length : Int) - 1) (by omega) (by omega)
                  injection hA4 with hA4
                  subst hA4
                  rw [show ((zs.length : Int) - 1).toNat = j from by omega] at h4
                  exact h4
                have HC3 := Lib.hid HC3
                obtain ⟨x, hx⟩ : ∃ x, x = rdOf ByteArray.empty zs ((zs.length : Int) - 1) := ⟨_, rfl⟩
                rw [← hx] at hcell3 HC3
                clear hx hj
                go_wp2_with fail
                have HR : Hid (Calls Try.prog 12 #[.pointer (some ⟨t, 0, none⟩), .string x] (W.drewN 1) fun e w' => ∃ (c : Int) (n' : Nat) (F' : List Pr), e = .returned (.int .i64 c) ∧ S2 w w' px left t b bt n' F' ba A2 c2 r ∧ n' ≤ n + 1 ∧ Moved t b W w' ∧ OwnS w' W0.heap.size (some ad3) c3 zs ∧ w'.cell? (ad3.add j) = some (.string x)) := by
                  have hd : Below W.heap.size W (W.drewN 1) := pw_below_drewN (Below.refl _ W) 1
                  refine ((ZW.out.1.s.below hd).remove (by omega) x).mono ?_
                  rintro e w' ⟨c, n', F', rfl, h1, h2, h3⟩
                  exact ⟨c, n', F', rfl, (ZW.out.1.below hd).mov h1 h3, h2, (Moved.of_below hd).trans h3, OwnS.mov ZW.out.2.2.1 ZW.out.1.s.T ((Moved.of_below hd).trans h3), HC3.out _ (OwnS.mov ZW.out.2.2.1 ZW.out.1.s.T ((Moved.of_below hd).trans h3))⟩
                refine wp_nopanic ?_
                refine start_ (n := 8) (S := fun w' => w'.cell? ⟨bt, 0, none⟩ = some (.pointer (some ⟨t, 0, none⟩)) ∧ w'.cell? (ad3.add j) = some (.string x)) (ds := []) #[false, false, false, false, false, false, false, false] (by kernel_rfl) rfl rfl (⟨hcb, hcell3⟩) (fun hHeld => ?_); refine with_tabW tl32_tab tl32_bits (fun HT_ HW_ => ?_)
                refine take_ (i := 0) (N := some 116) (v := ?_) (a' := ?_) #[true, false, false, false, false, false, false, false] rfl rfl (take_ofW HT_.out HW_.out (by kernel_rfl)) (fun _ _ _ h => h) (Or.inl ⟨by rfl, ?_⟩) hHeld ?_ ?_
                rotate_left
                · rintro w' ⟨s0, s1⟩
                  go_simp
                  with_reducible rfl
                rotate_left
                · simp only [Act.put, List.setIfInBounds_toArray, List.set_cons_zero, List.set_cons_succ, i64_w, i32_w]
                  rfl
                refine pure_ (i := 1) (N := some 117) (v := ?_) (a' := ?_) #[true, true, false, false, false, false, false, false] rfl rfl (any_of HT_.out (by kernel_rfl)) (fun _ _ _ h => h) (Or.inl ⟨by rfl, ?_⟩) ?_ ?_
                rotate_left
                · intro w'
                  go_simp
                  with_reducible rfl
                rotate_left
                · simp only [Act.put, List.setIfInBounds_toArray, List.set_cons_zero, List.set_cons_succ, i64_w, i32_w]
                  rfl
                refine pure_ (i := 2) (N := some 118) (v := ?_) (a' := ?_) #[true, true, true, false, false, false, false, false] rfl rfl (any_of HT_.out (by kernel_rfl)) (fun _ _ _ h => h) (Or.inl ⟨by rfl, ?_⟩) ?_ ?_
                rotate_left
                · intro w'
                  go_simp
                  with_reducible rfl
                rotate_left
                · simp only [Act.put, List.setIfInBounds_toArray, List.set_cons_zero, List.set_cons_succ, i64_w, i32_w]
                  rfl
                refine pure_ (i := 3) (N := some 119) (v := ?_) (a' := ?_) #[true, true, true, true, false, false, false, false] rfl rfl (any_of HT_.out (by kernel_rfl)) (fun _ _ _ h => h) (Or.inl ⟨by rfl, ?_⟩) ?_ ?_
                rotate_left
                · intro w'
                  go_simp
                  with_reducible rfl
                rotate_left
                · simp only [Act.put, List.setIfInBounds_toArray, List.set_cons_zero, List.set_cons_succ, i64_w, i32_w]
                  rfl
                refine pure_ (i := 4) (N := some 120) (v := ?_) (a' := ?_) #[true, true, true, true, true, false, false, false] rfl rfl (any_of HT_.out (by kernel_rfl)) (fun _ _ _ h => h) (Or.inl ⟨by rfl, ?_⟩) ?_ ?_
                rotate_left
                · intro w'
                  go_simp
                  with_reducible rfl
                rotate_left
                · simp only [Act.put, List.setIfInBounds_toArray, List.set_cons_zero, List.set_cons_succ, i64_w, i32_w]
                  rfl
                refine pure_ (i := 5) (N := some 121) (v := ?_) (a' := ?_) #[true, true, true, true, true, true, false, false] rfl rfl (any_of HT_.out (by kernel_rfl)) (fun _ _ _ h => h) (Or.inl ⟨by rfl, ?_⟩) ?_ ?_
                rotate_left
                · intro w'
                  go_simp
                  with_reducible rfl
                rotate_left
                · simp only [Act.put, List.setIfInBounds_toArray, List.set_cons_zero, List.set_cons_succ, i64_w, i32_w]
                  rfl
                refine take_ (i := 6) (N := some 122) (v := ?_) (a' := ?_) #[true, true, true, true, true, true, true, false] rfl rfl (take_ofW HT_.out HW_.out (by kernel_rfl)) (fun _ _ _ h => h) (Or.inl ⟨by rfl, ?_⟩) hHeld ?_ ?_
                rotate_left
                · rintro w' ⟨s0, s1⟩
                  go_simp
                  with_reducible rfl
                rotate_left
                · simp only [Act.put, List.setIfInBounds_toArray, List.set_cons_zero, List.set_cons_succ, i64_w, i32_w]
                  rfl
                refine one_ (i := 7) (N := some 123) #[true, true, true, true, true, true, true, true] rfl rfl (one_of HT_.out (by kernel_rfl)) (by decide) (fun K hK => ?_)
                refine goes_ Try.func12 (by kernel_rfl) rfl #[.pointer (some ⟨t, 0, none⟩), .string x] (by rfl) rfl rfl (by (try simp only [List.map_toArray, List.map_cons, List.map_nil]); first | done | rfl) ?_
                refine HR.out.mono ?_
                rintro e w7 ⟨c7, n7, F7, rfl, h7, hn7, hm7, ho7, hc7⟩
                refine ⟨_, rfl, ?_⟩
                have Y7 := Lib.hid (And.intro h7 (And.intro hn7 (And.intro hm7 (And.intro ho7 (And.intro h7.s.bx.cell hc7)))))
                clear h7 hn7 hm7 ho7 hc7
                refine hK.out _ _ Y7.out.2.2.2.2 (fun hHeld => ?_)
                clear hK K
                refine norm_ (a' := ?_) ?_ ?_
                rotate_left
                · show Act.put _ (some 123) _ = _
                  simp only [Act.put, List.setIfInBounds_toArray, List.set_cons_zero, List.set_cons_succ, i64_w, i32_w]
                  rfl
                refine done_ (done_of HT_.out (by kernel_rfl)) ?_
                have Z2 : Hid (S2 w w7 px left t b bt n7 F7 ba A2 c2 r ∧ n7 ≤ 500 ∧ SeqAt w7 B Bs zs ∧ OwnS w7 W0.heap.size (some ad3) c3 zs ∧ w7.heap[D]? = some (.deferred (some [])) ∧ W0.heap.size ≤ w7.heap.size ∧ D < w7.heap.size) := by
                  obtain ⟨h1, h2, h3, h4, h5⟩ := ZW.out
                  obtain ⟨g1, g2, g3, g4, g5⟩ := Y7.out
                  have hBW := H7.out.2.2.2.2.2.2.2
                  have hDl := (Array.getElem?_eq_some_iff.1 h4).1
                  have h6 := g3.size
                  exact ⟨g1, by omega, h2.moved g3 htB hbB, g4, (g3.block D hDl (by omega) (by omega)).trans h4, by omega, by omega⟩
                go_wp2_with fail
                obtain ⟨V, hV⟩ : ∃ V, V = w7 := ⟨_, rfl⟩
                obtain ⟨A3q, hA3q⟩ : ∃ A3q, A3q = some ad3 := ⟨_, rfl⟩
                rw [← hV, ← hA3q] at Z2
                rw [← hV, ← hA3q]
                clear ZW Y7 hV hA3q hcb HR HC3 hcell3 hnc
                obtain ⟨bg, hbg⟩ : ∃ bg, bg = V.heap.size := ⟨_, rfl⟩
                obtain ⟨V1, hV1⟩ : ∃ V1, V1 = V.alloc (.cells #[.slice none 0 0] 31) := ⟨_, rfl⟩
                have hBV : Below V.heap.size V V1 := by rw [hV1]; exact (Below.refl _ _).alloc (Nat.le_refl _) _
                have hbB1 : Boxed V1 bg 31 (.slice none 0 0) := by rw [hV1, hbg]; exact Boxed.new _ _ _
                have hsV : V1.heap.size = bg + 1 := by rw [hV1, hbg]; simp
                have hSq := Z2.out.2.2.1.below hBV
                have hlowV : ∀ a l c, V1.cell? ⟨Bs, 0, none⟩ = some (.slice (some a) l c) → a.block < bg := by
                  intro a l c h
                  rw [hbg]
                  refine Z2.out.2.2.1.low a l c ?_
                  rw [← World.cell?_of_block (a := ⟨Bs, 0, none⟩) (hBV.block _ Z2.out.2.2.1.lt)]
                  exact h
                have hL2 : L2 w V1 px left t b bt ba A2 c2 r bg W0.heap.size A3q c3 zs D 500 := by
                  obtain ⟨hS, hn7, _, hO, hD7, hl0, hl1⟩ := Z2.out
                  have hls := hS.s.ls.sz
                  have hTl := hS.s.T.lt
                  have hbl := hS.s.bx.lt
                  have hbal := hS.ba.lt
                  exact ⟨⟨n7, F7, hS.below hBV, by omega⟩, OwnS.below hO hBV, (hBV.block D hl1).trans hD7, by omega, ⟨by omega, by omega, by omega, by omega, by omega, by omega⟩, fun k e => by have := (OwnS.lt hS.own e).2; omega, fun k e => by have := (OwnS.lt hO e).2; omega⟩
                have hbd2 : t < bg ∧ b < bg ∧ D < bg ∧ w.heap.size + 3 ≤ bg := ⟨hL2.lt.2.1, hL2.lt.2.2.1, hL2.lt.2.2.2.2.2, hL2.lt.1⟩
                obtain ⟨ht2, hb2, hD2, hw2⟩ := hbd2
                have I0 := Lib.hid hL2
                rw [← hV1, ← hbg]
                obtain ⟨i0, hi, hz0', hz1', hz2'⟩ := info_parts infoStr
                clear hV1 hbg Z2 hL2 hBV
                refine wpIn_wide.1 (wpIn_rangeFunc_ownG (n := 8) rfl (by omega) (gf := 28) (lb := #[.pointer (some ⟨Bs, 0, none⟩)]) rfl trivial (enters_of Try.func28 (by kernel_rfl) rfl)
                  (values_stops Fence.wide 7 trivial rfl (by omega) (by omega : zs.length ≤ 1000000) hSq (n₀ := bg) (t := t) (b := b) htB hbB hlowV) (fun h k => Kp.trans h k)
                  (fun W l o o' h1 h2 h3 h4 => fun k hk _ _ => World.putObj_heap_other (by omega)) (Below.refl _ _) (fun _ => rfl)
                  (fun pre W => (∃ v, Boxed W bg 31 v ∧ W.ownsRow V1.heap.size 9 1 v pre.length (pre.map Value.string) ∧ True) ∧ L2 w W px left t b bt ba A2 c2 r bg W0.heap.size A3q c3 zs D (500 + 2 * pre.length) ∧ V1.heap.size ≤ W.heap.size)
                  (fun _ _ _ => False)
                  (OwnFrom.and (Own.from (holdsRow_own V1.heap.size bg 31 9 1 (fun pre : List ByteArray => pre.length) (fun pre => pre.map Value.string) (fun _ _ => True)) _) (OwnFrom.and (L2.from _ (by omega) (fun pre => 500 + 2 * pre.length)) (fun _ _ _ _ hs hg _ => Nat.le_trans hs hg.size)))
                  (fun _ _ _ _ _ hs _ _ => hs)
                  ⟨⟨_, hbB1, World.ownsRow_nil _ _ _ _, trivial⟩, I0.out, Nat.le_refl _⟩ ?a2_1 ?assign2_1 ?body2_1 ?done2_1 ?stop2_1)
                case assign2_1 =>
                  intro l x W K hK
                  gi_wp2
                  exact hK
                case body2_1 =>
                  rintro l' pre' x W ⟨⟨v, hv, hrow, _⟩, hL, hsz⟩ hlt'
                  first | (exfalso; omega) | skip
                  all_goals (
                    have hc := hv.cell
                    have HLq := Lib.hid hL
                    clear hL
                    gi_wp2_with (gi_at_builtin; refine wpListIn_append_own _ rfl _ _ 31 rfl V1.heap.size 9 i0 (.string ⟨#[]⟩) 1 16 Try.underlying31 hi hz0' hz1' hz2' rfl (by decide) _ _ _ rfl (hrow.alloc _) ⟨W.heap.size, 0, none⟩ 1 1 [.string x] rfl rfl (cell_one_new _ _ _) (by simp [Value.oneCell']) (by unfold maxLen; omega) (by omega) (by simp; omega) ?_; intro v' w3 hown' hgrow _; obtain ⟨g', cap', rfl⟩ := ownsRow_succ hown'; obtain ⟨hv1, hv2, hr2, hk2, hb2'⟩ := appendedK hv (by decide) hrow hsz hown' hgrow; have hc1 := hv1.cell; have hf1 := hv1.frozen; have hc2 := hv2.cell; have hbt2 := (HLq.out.low (hb2'.below (Nat.le_refl _) (by omega) HLq.out.sz)).bx.1.cell; have hm2 := Lib.hid (And.intro hv2 (And.intro hr2 (And.intro hk2 hb2'))); clear hv1 hr2 hk2 hb2' hv2)
                    obtain ⟨W3, hW3⟩ : ∃ W3, W3 = w3.setCell ⟨bg, 0, none⟩ (.slice (some ⟨g', 0, none⟩) (pre'.length + 1) cap') := ⟨_, rfl⟩
                    rw [← hW3] at hm2 ⊢
                    have HL3 := Lib.hid (HLq.out.low (hm2.out.2.2.2.below (Nat.le_refl _) (by omega) HLq.out.sz))
                    clear hW3 hgrow hown' hbt2 hc2 hc1 hf1
                    refine ⟨trivial, (CallsIn.inRound l' (callsIn_wide.2 (HL3.out.remove (by omega) x))).mono ?_⟩
                    rintro e w4 ⟨c4, rfl, hL4, hm4⟩
                    have hpx4 := hL4.ls.px.cell
                    have hbt4 := hL4.bx.1.cell
                    have HL4 := Lib.hid (And.intro hL4 hm4)
                    clear hL4 hm4
                    gi_wp2_with fail
                    have HG3 : Hid (Boxed W3 bg 31 (.slice (some ⟨g', 0, none⟩) (pre'.length + 1) cap') ∧ W3.ownsRow V1.heap.size 9 1 (.slice (some ⟨g', 0, none⟩) (pre'.length + 1) cap') (pre' ++ [x]).length ((pre' ++ [x]).map Value.string)) :=
                      ⟨hm2.out.1, by rw [List.length_append, List.map_append]; exact hm2.out.2.1⟩
                    have hmn1 : 0 ≤ min (px.size : Int) 9 := by omega
                    have hmn2 : min (px.size : Int) 9 ≤ (px.size : Int) := by omega
                    have hdr : Below bg w4 w4.drew := (Below.refl _ w4).drew
                    have HWr : Hid (CallsIn (Fence.wide.inRound l') 5 Try.prog 8 #[.pointer (some ⟨t, 0, none⟩), .string ⟨#[122, 122, 47, 110, 101, 119]⟩, .string (px.extract 0 (min (px.size : Int) 9).toNat)] w4.drew fun e w' => ∃ c : Int, e = .returned (.int .i64 c) ∧ L2 w w' px left t b bt ba A2 c2 r bg W0.heap.size A3q c3 zs D (500 + 2 * (pre'.length + 1)) ∧ Moved t b W3 w') := by
                      refine (CallsIn.inRound l' (callsIn_wide.2 ((HL4.out.1.low hdr).write (by omega) _ _))).mono ?_
                      rintro e w' ⟨c, rfl, h1, h2⟩
                      exact ⟨c, rfl, h1, (HL4.out.2.trans (Moved.of_below ((Below.refl _ w4).drew))).trans h2⟩
                    gi_region_with (refine ⟨trivial, ?_⟩; gi_at_call 8; refine HWr.out.mono ?_; rintro e w5 ⟨c5, rfl, hL5, hm5⟩)
                    all_goals (
                      have hgot := got_moved hm5 HG3.out ht2 hb2 (by omega)
                      have hca5 := hL5.bx.2.cell
                      have hcg5 := hgot.1.cell
                      have H5 := Lib.hid (And.intro hL5 (And.intro hm5 hgot))
                      clear hL5 hm5 hgot
                      gi_wp2_with fail
                      exact ⟨(hm2.out.2.2.1.from _).trans (H5.out.2.1.keepsFrom (by omega) (by omega)), (fun k hk h1 h2 => ((H5.out.2.1.kp (n₀ := bg) (by have := HL3.out.sz; omega)) k hk h1 h2).trans (hm2.out.2.2.2.blk k (by omega) (by omega) (by omega))), ⟨_, H5.out.2.2.1, H5.out.2.2.2, trivial⟩, by rw [List.length_append]; exact H5.out.1, Nat.le_trans hsz (Nat.le_trans hm2.out.2.2.2.size H5.out.2.1.size)⟩))
                case done2_1 =>
                  rintro D2 ys W hD5 rfl ⟨⟨v, hv, hrow, _⟩, hL, hsz⟩ hK
                  obtain ⟨A9, c9, rfl⟩ := row_slice hrow
                  have hO9 : OwnS W V1.heap.size A9 c9 ys := hrow
                  have hcg := hv.cell
                  have hrs := hL.ls.rs.cell
                  have hrf := hL.ls.rs.frozen
                  have HT := Lib.hid (texts_same (by omega : ys.length ≤ 1000000) hO9.reads (slice_cap hO9) hL.ow.reads (slice_cap hL.ow))
                  have HL9 := Lib.hid (And.intro hL (And.intro hsz hK))
                  clear hL hsz hK hv hrow hO9
                  go_wp2_with fail
                  refine HT.out.mono ?_
                  rintro e w9 ⟨rfl, hb9⟩
                  have hrs9 := (Boxed.low HL9.out.1.ls.rs (hb9.mono (Nat.le_trans hw2 HL9.out.1.sz)) (by omega))
                  have hrc9 := hrs9.cell
                  have hrf9 := hrs9.frozen
                  have hD2l : D2 < W.heap.size := (Array.getElem?_eq_some_iff.1 HL9.out.2.2).1
                  have hDl : D < W.heap.size := by have := HL9.out.1.sz; omega
                  have hkD2 := (hb9.block D2 hD2l).trans HL9.out.2.2
                  have hkD := (hb9.block D hDl).trans HL9.out.1.df
                  have hbw := HL9.out.1.ls.bl.trans (hb9.mono HL9.out.1.ls.bl.size)
                  have H9 := Lib.hid (And.intro hrs9 (And.intro hkD2 (And.intro hkD hbw)))
                  clear hrs9 hkD2 hkD hbw hb9 HT
                  go_wp2_with fail
                  obtain ⟨W9, hW9⟩ : ∃ W9, W9 = w9.setCell ⟨w.heap.size + 2, 0, none⟩ (.bool true) := ⟨_, rfl⟩
                  have k0 : Boxed W9 (w.heap.size + 2) 4 (.bool true) := by rw [hW9]; exact Boxed.set _ H9.out.1
                  have k1 : W9.heap[D2]? = some (.deferred (some [])) := by rw [hW9]; exact (KeepsOthers.setCell _ _ _).same D2 _ H9.out.2.1 rfl
                  have k2 : W9.heap[D]? = some (.deferred (some [])) := by rw [hW9]; exact (KeepsOthers.setCell _ _ _).same D _ H9.out.2.2.1 rfl
                  have k3 : Below w.heap.size w W9 := by rw [hW9]; exact H9.out.2.2.2.setCell (p := ⟨w.heap.size + 2, 0, none⟩) (by simp) _
                  have k4 : (W9.putObj D2 (.deferred none)).heap[D]? = some (.deferred (some [])) := (World.putObj_heap_other (by omega)).trans k2
                  have k5 := ((k0.kept (grownBy_putObj' W9 D2 (.deferred none)) (by simp; omega)).kept (grownBy_putObj' _ D (.deferred none)) (by simp; omega)).cell
                  have k6 : Below w.heap.size w ((W9.putObj D2 (.deferred none)).putObj D (.deferred none)) :=
                    (k3.trans (belowK_b (w := w) (Nat.le_refl _) W9 D2 _ _ (by omega) k1 rfl rfl)).trans (belowK_b (w := w) (Nat.le_refl _) _ D _ _ (by omega) k4 rfl rfl)
                  refine ⟨by simp, .inl ⟨_, _, rfl, run_takeDeferred (by rw [← hW9]; exact k1), ⟨by simp, .inl ⟨_, _, rfl, run_takeDeferred (by rw [← hW9]; exact k4), ?_⟩⟩⟩⟩
                  rw [← hW9]
                  exact ⟨_, by simp [results, loadVar, go_sem, k5], rfl, k6⟩
                case stop2_1 =>
                  rintro D2 c' pre' W _ _ h _
                  exact h.elim
              · have Z2 : Hid (S2 w W px left t b bt n F ba A2 c2 r ∧ n ≤ 500 ∧ SeqAt W B Bs zs ∧ OwnS W W0.heap.size A3 c3 zs ∧ W.heap[D]? = some (.deferred (some [])) ∧ W0.heap.size ≤ W.heap.size ∧ D < W.heap.size) := by
                  obtain ⟨h1, h2, h3, h4, h5⟩ := ZW.out
                  exact ⟨h1, by omega, h2, h3, h4, by omega, (Array.getElem?_eq_some_iff.1 h4).1⟩
                go_wp2_with fail
                obtain ⟨V, hV⟩ : ∃ V, V = W := ⟨_, rfl⟩
                obtain ⟨n7, hn7⟩ : ∃ n7, n7 = n := ⟨_, rfl⟩
                obtain ⟨F7, hF7⟩ : ∃ F7, F7 = F := ⟨_, rfl⟩
                obtain ⟨A3q, hA3q⟩ : ∃ A3q, A3q = A3 := ⟨_, rfl⟩
                rw [← hV, ← hn7, ← hF7, ← hA3q] at Z2
                rw [← hV, ← hA3q]
                clear ZW hV hn7 hF7 hA3q hcb
                obtain ⟨bg, hbg⟩ : ∃ bg, bg = V.heap.size := ⟨_, rfl⟩
                obtain ⟨V1, hV1⟩ : ∃ V1, V1 = V.alloc (.cells #[.slice none 0 0] 31) := ⟨_, rfl⟩
                have hBV : Below V.heap.size V V1 := by rw [hV1]; exact (Below.refl _ _).alloc (Nat.le_refl _) _
                have hbB1 : Boxed V1 bg 31 (.slice none 0 0) := by rw [hV1, hbg]; exact Boxed.new _ _ _
                have hsV : V1.heap.size = bg + 1 := by rw [hV1, hbg]; simp
                have hSq := Z2.out.2.2.1.below hBV
                have hlowV : ∀ a l c, V1.cell? ⟨Bs, 0, none⟩ = some (.slice (some a) l c) → a.block < bg := by
                  intro a l c h
                  rw [hbg]
                  refine Z2.out.2.2.1.low a l c ?_
                  rw [← World.cell?_of_block (a := ⟨Bs, 0, none⟩) (hBV.block _ Z2.out.2.2.1.lt)]
                  exact h
                have hL2 : L2 w V1 px left t b bt ba A2 c2 r bg W0.heap.size A3q c3 zs D 500 := by
                  obtain ⟨hS, hn7, _, hO, hD7, hl0, hl1⟩ := Z2.out
                  have hls := hS.s.ls.sz
                  have hTl := hS.s.T.lt
                  have hbl := hS.s.bx.lt
                  have hbal := hS.ba.lt
                  exact ⟨⟨n7, F7, hS.below hBV, by omega⟩, OwnS.below hO hBV, (hBV.block D hl1).trans hD7, by omega, ⟨by omega, by omega, by omega, by omega, by omega, by omega⟩, fun k e => by have := (OwnS.lt hS.own e).2; omega, fun k e => by have := (OwnS.lt hO e).2; omega⟩
                have hbd2 : t < bg ∧ b < bg ∧ D < bg ∧ w.heap.size + 3 ≤ bg := ⟨hL2.lt.2.1, hL2.lt.2.2.1, hL2.lt.2.2.2.2.2, hL2.lt.1⟩
                obtain ⟨ht2, hb2, hD2, hw2⟩ := hbd2
                have I0 := Lib.hid hL2
                rw [← hV1, ← hbg]
                obtain ⟨i0, hi, hz0', hz1', hz2'⟩ := info_parts infoStr
                clear hV1 hbg Z2 hL2 hBV
                refine wpIn_wide.1 (wpIn_rangeFunc_ownG (n := 8) rfl (by omega) (gf := 28) (lb := #[.pointer (some ⟨Bs, 0, none⟩)]) rfl trivial (enters_of Try.func28 (by kernel_rfl) rfl)
                  (values_stops Fence.wide 7 trivial rfl (by omega) (by omega : zs.length ≤ 1000000) hSq (n₀ := bg) (t := t) (b := b) htB hbB hlowV) (fun h k => Kp.trans h k)
                  (fun W l o o' h1 h2 h3 h4 => fun k hk _ _ => World.putObj_heap_other (by omega)) (Below.refl _ _) (fun _ => rfl)
                  (fun pre W => (∃ v, Boxed W bg 31 v ∧ W.ownsRow V1.heap.size 9 1 v pre.length (pre.map Value.string) ∧ True) ∧ L2 w W px left t b bt ba A2 c2 r bg W0.heap.size A3q c3 zs D (500 + 2 * pre.length) ∧ V1.heap.size ≤ W.heap.size)
                  (fun _ _ _ => False)
                  (OwnFrom.and (Own.from (holdsRow_own V1.heap.size bg 31 9 1 (fun pre : List ByteArray => pre.length) (fun pre => pre.map Value.string) (fun _ _ => True)) _) (OwnFrom.and (L2.from _ (by omega) (fun pre => 500 + 2 * pre.length)) (fun _ _ _ _ hs hg _ => Nat.le_trans hs hg.size)))
                  (fun _ _ _ _ _ hs _ _ => hs)
                  ⟨⟨_, hbB1, World.ownsRow_nil _ _ _ _, trivial⟩, I0.out, Nat.le_refl _⟩ ?a2_2 ?assign2_2 ?body2_2 ?done2_2 ?stop2_2)
                case assign2_2 =>
                  intro l x W K hK
                  gi_wp2
                  exact hK
                case body2_2 =>
                  rintro l' pre' x W ⟨⟨v, hv, hrow, _⟩, hL, hsz⟩ hlt'
                  first | (exfalso; omega) | skip
                  all_goals (
                    have hc := hv.cell
                    have HLq := Lib.hid hL
                    clear hL
                    gi_wp2_with (gi_at_builtin; refine wpListIn_append_own _ rfl _ _ 31 rfl V1.heap.size 9 i0 (.string ⟨#[]⟩) 1 16 Try.underlying31 hi hz0' hz1' hz2' rfl (by decide) _ _ _ rfl (hrow.alloc _) ⟨W.heap.size, 0, none⟩ 1 1 [.string x] rfl rfl (cell_one_new _ _ _) (by simp [Value.oneCell']) (by unfold maxLen; omega) (by omega) (by simp; omega) ?_; intro v' w3 hown' hgrow _; obtain ⟨g', cap', rfl⟩ := ownsRow_succ hown'; obtain ⟨hv1, hv2, hr2, hk2, hb2'⟩ := appendedK hv (by decide) hrow hsz hown' hgrow; have hc1 := hv1.cell; have hf1 := hv1.frozen; have hc2 := hv2.cell; have hbt2 := (HLq.out.low (hb2'.below (Nat.le_refl _) (by omega) HLq.out.sz)).bx.1.cell; have hm2 := Lib.hid (And.intro hv2 (And.intro hr2 (And.intro hk2 hb2'))); clear hv1 hr2 hk2 hb2' hv2)
                    obtain ⟨W3, hW3⟩ : ∃ W3, W3 = w3.setCell ⟨bg, 0, none⟩ (.slice (some ⟨g', 0, none⟩) (pre'.length + 1) cap') := ⟨_, rfl⟩
                    rw [← hW3] at hm2 ⊢
                    have HL3 := Lib.hid (HLq.out.low (hm2.out.2.2.2.below (Nat.le_refl _) (by omega) HLq.out.sz))
                    clear hW3 hgrow hown' hbt2 hc2 hc1 hf1
                    refine ⟨trivial, (CallsIn.inRound l' (callsIn_wide.2 (HL3.out.remove (by omega) x))).mono ?_⟩
                    rintro e w4 ⟨c4, rfl, hL4, hm4⟩
                    have hpx4 := hL4.ls.px.cell
                    have hbt4 := hL4.bx.1.cell
                    have HL4 := Lib.hid (And.intro hL4 hm4)
                    clear hL4 hm4
                    gi_wp2_with fail
                    have HG3 : Hid (Boxed W3 bg 31 (.slice (some ⟨g', 0, none⟩) (pre'.length + 1) cap') ∧ W3.ownsRow V1.heap.size 9 1 (.slice (some ⟨g', 0, none⟩) (pre'.length + 1) cap') (pre' ++ [x]).length ((pre' ++ [x]).map Value.string)) :=
                      ⟨hm2.out.1, by rw [List.length_append, List.map_append]; exact hm2.out.2.1⟩
                    have hmn1 : 0 ≤ min (px.size : Int) 9 := by omega
                    have hmn2 : min (px.size : Int) 9 ≤ (px.size : Int) := by omega
                    have hdr : Below bg w4 w4.drew := (Below.refl _ w4).drew
                    have HWr : Hid (CallsIn (Fence.wide.inRound l') 5 Try.prog 8 #[.pointer (some ⟨t, 0, none⟩), .string ⟨#[122, 122, 47, 110, 101, 119]⟩, .string (px.extract 0 (min (px.size : Int) 9).toNat)] w4.drew fun e w' => ∃ c : Int, e = .returned (.int .i64 c) ∧ L2 w w' px left t b bt ba A2 c2 r bg W0.heap.size A3q c3 zs D (500 + 2 * (pre'.length + 1)) ∧ Moved t b W3 w') := by
                      refine (CallsIn.inRound l' (callsIn_wide.2 ((HL4.out.1.low hdr).write (by omega) _ _))).mono ?_
                      rintro e w' ⟨c, rfl, h1, h2⟩
                      exact ⟨c, rfl, h1, (HL4.out.2.trans (Moved.of_below ((Below.refl _ w4).drew))).trans h2⟩
                    gi_region_with (refine ⟨trivial, ?_⟩; gi_at_call 8; refine HWr.out.mono ?_; rintro e w5 ⟨c5, rfl, hL5, hm5⟩)
                    all_goals (
                      have hgot := got_moved hm5 HG3.out ht2 hb2 (by omega)
                      have hca5 := hL5.bx.2.cell
                      have hcg5 := hgot.1.cell
                      have H5 := Lib.hid (And.intro hL5 (And.intro hm5 hgot))
                      clear hL5 hm5 hgot
                      gi_wp2_with fail
                      exact ⟨(hm2.out.2.2.1.from _).trans (H5.out.2.1.keepsFrom (by omega) (by omega)), (fun k hk h1 h2 => ((H5.out.2.1.kp (n₀ := bg) (by have := HL3.out.sz; omega)) k hk h1 h2).trans (hm2.out.2.2.2.blk k (by omega) (by omega) (by omega))), ⟨_, H5.out.2.2.1, H5.out.2.2.2, trivial⟩, by rw [List.length_append]; exact H5.out.1, Nat.le_trans hsz (Nat.le_trans hm2.out.2.2.2.size H5.out.2.1.size)⟩))
                case done2_2 =>
                  rintro D2 ys W hD5 rfl ⟨⟨v, hv, hrow, _⟩, hL, hsz⟩ hK
                  obtain ⟨A9, c9, rfl⟩ := row_slice hrow
                  have hO9 : OwnS W V1.heap.size A9 c9 ys := hrow
                  have hcg := hv.cell
                  have hrs := hL.ls.rs.cell
                  have hrf := hL.ls.rs.frozen
                  have HT := Lib.hid (texts_same (by omega : ys.length ≤ 1000000) hO9.reads (slice_cap hO9) hL.ow.reads (slice_cap hL.ow))
                  have HL9 := Lib.hid (And.intro hL (And.intro hsz hK))
                  clear hL hsz hK hv hrow hO9
                  go_wp2_with fail
                  refine HT.out.mono ?_
                  rintro e w9 ⟨rfl, hb9⟩
                  have hrs9 := (Boxed.low HL9.out.1.ls.rs (hb9.mono (Nat.le_trans hw2 HL9.out.1.sz)) (by omega))
                  have hrc9 := hrs9.cell
                  have hrf9 := hrs9.frozen
                  have hD2l : D2 < W.heap.size := (Array.getElem?_eq_some_iff.1 HL9.out.2.2).1
                  have hDl : D < W.heap.size := by have := HL9.out.1.sz; omega
                  have hkD2 := (hb9.block D2 hD2l).trans HL9.out.2.2
                  have hkD := (hb9.block D hDl).trans HL9.out.1.df
                  have hbw := HL9.out.1.ls.bl.trans (hb9.mono HL9.out.1.ls.bl.size)
                  have H9 := Lib.hid (And.intro hrs9 (And.intro hkD2 (And.intro hkD hbw)))
                  clear hrs9 hkD2 hkD hbw hb9 HT
                  go_wp2_with fail
                  obtain ⟨W9, hW9⟩ : ∃ W9, W9 = w9.setCell ⟨w.heap.size + 2, 0, none⟩ (.bool true) := ⟨_, rfl⟩
                  have k0 : Boxed W9 (w.heap.size + 2) 4 (.bool true) := by rw [hW9]; exact Boxed.set _ H9.out.1
                  have k1 : W9.heap[D2]? = some (.deferred (some [])) := by rw [hW9]; exact (KeepsOthers.setCell _ _ _).same D2 _ H9.out.2.1 rfl
                  have k2 : W9.heap[D]? = some (.deferred (some [])) := by rw [hW9]; exact (KeepsOthers.setCell _ _ _).same D _ H9.out.2.2.1 rfl
                  have k3 : Below w.heap.size w W9 := by rw [hW9]; exact H9.out.2.2.2.setCell (p := ⟨w.heap.size + 2, 0, none⟩) (by simp) _
                  have k4 : (W9.putObj D2 (.deferred none)).heap[D]? = some (.deferred (some [])) := (World.putObj_heap_other (by omega)).trans k2
                  have k5 := ((k0.kept (grownBy_putObj' W9 D2 (.deferred none)) (by simp; omega)).kept (grownBy_putObj' _ D (.deferred none)) (by simp; omega)).cell
                  have k6 : Below w.heap.size w ((W9.putObj D2 (.deferred none)).putObj D (.deferred none)) :=
                    (k3.trans (belowK_b (w := w) (Nat.le_refl _) W9 D2 _ _ (by omega) k1 rfl rfl)).trans (belowK_b (w := w) (Nat.le_refl _) _ D _ _ (by omega) k4 rfl rfl)
                  refine ⟨by simp, .inl ⟨_, _, rfl, run_takeDeferred (by rw [← hW9]; exact k1), ⟨by simp, .inl ⟨_, _, rfl, run_takeDeferred (by rw [← hW9]; exact k4), ?_⟩⟩⟩⟩
                  rw [← hW9]
                  exact ⟨_, by simp [results, loadVar, go_sem, k5], rfl, k6⟩
                case stop2_2 =>
                  rintro D2 c' pre' W _ _ h _
                  exact h.elim
end Go.Proofs.Ytpmeefdegcllkaa
