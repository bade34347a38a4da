/- Texts of this claim, merged; of each text just what the theorem uses: RefBelow, GRefD, GOpen, GRefG, GFinds, RefOrder, RefLess, GCycle, GRefE, GRefF, GOrders -/
import Derived.Test.YtlccejbomgknkaaQO4
import Derived.SliceStrings
import Derived.Deep.SlicePairs
import Derived.Laws.Cover3
namespace Go.Proofs.Ytlccejbomgknkaa.PGraphFinds
open Go.RowKit Go.Proofs.YtlccejbomgknkaaW.PrintWords Go.Proofs.YtlccejbomgknkaaW.PrintLast Go.Proofs.YtlccejbomgknkaaW.PrintMore
set_option linter.unusedVariables false
set_option linter.unusedSimpArgs false
mutual
def brickyardref19_Below.l0 : Nat → List ByteArray → List ByteArray → Int → List ByteArray → List (S45) → Option (List ByteArray)
  | 0, _, _, _, _, _ => none
  | k + 1, x1, x5, x6, x361000, x361001 => if x6 < (x1.length : Int) then (if 0 ≤ x6 then ((brickyardref19_has.f k x361000 (rdOf ByteArray.empty x1 x6)).bind fun t362 => (if t362 = true then (if x5.length < 8796093022208 then (brickyardref19_Below.l0 k x1 (x5 ++ [rdOf ByteArray.empty x1 x6]) (wrap64 (x6 + 1)) x361000 x361001) else (none)) else (brickyardref19_Below.l0 k x1 x5 (wrap64 (x6 + 1)) x361000 x361001))) else (none)) else (brickyardref19_Below.l1 k x5 0 x361000 x361001)
def brickyardref19_Below.l1 : Nat → List ByteArray → Int → List ByteArray → List (S45) → Option (List ByteArray)
  | 0, _, _, _, _ => none
  | k + 1, x5, x7, x361000, x361001 => if x7 < (x5.length : Int) then (if 0 ≤ x7 then ((brickyardref19_Out.f k x361000 x361001 (rdOf ByteArray.empty x5 x7)).bind fun t371 => (brickyardref19_Below.l2 k x5 x7 t371 0 x361000 x361001)) else (none)) else ((brickyardref19_Sorted.f k x5).bind fun t367 => (some t367))
def brickyardref19_Below.l2 : Nat → List ByteArray → Int → List ByteArray → Int → List ByteArray → List (S45) → Option (List ByteArray)
  | 0, _, _, _, _, _, _ => none
  | k + 1, x5, x7, x8, x9, x361000, x361001 => if x9 < (x8.length : Int) then (if 0 ≤ x9 then ((brickyardref19_has.f k x5 (rdOf ByteArray.empty x8 x9)).bind fun t375 => (if t375 = true then (brickyardref19_Below.l2 k x5 x7 x8 (wrap64 (x9 + 1)) x361000 x361001) else (if x5.length < 8796093022208 then (brickyardref19_Below.l2 k (x5 ++ [rdOf ByteArray.empty x8 x9]) x7 x8 (wrap64 (x9 + 1)) x361000 x361001) else (none)))) else (none)) else (brickyardref19_Below.l1 k x5 (wrap64 (x7 + 1)) x361000 x361001)
end
def brickyardref19_Below.f (k : Nat) (l0_0 : List ByteArray) (l0_1 : List (S45)) (l1 : List ByteArray) : Option (List ByteArray) := brickyardref19_Below.l0 k l1 ([] : List ByteArray) 0 l0_0 l0_1
theorem brickyardref19_Below.mono_l : ∀ k, (∀ y0 y1 y2 y3 y4, LeO (brickyardref19_Below.l0 k y0 y1 y2 y3 y4) (brickyardref19_Below.l0 (k + 1) y0 y1 y2 y3 y4)) ∧ (∀ y0 y1 y2 y3, LeO (brickyardref19_Below.l1 k y0 y1 y2 y3) (brickyardref19_Below.l1 (k + 1) y0 y1 y2 y3)) ∧ (∀ y0 y1 y2 y3 y4 y5, LeO (brickyardref19_Below.l2 k y0 y1 y2 y3 y4 y5) (brickyardref19_Below.l2 (k + 1) y0 y1 y2 y3 y4 y5))
  | 0 => ⟨fun _ _ _ _ _ r h => by simp [brickyardref19_Below.l0] at h, fun _ _ _ _ r h => by simp [brickyardref19_Below.l1] at h, fun _ _ _ _ _ _ r h => by simp [brickyardref19_Below.l2] at h⟩
  | k + 1 => by
    obtain ⟨ih0, ih1, ih2⟩ := brickyardref19_Below.mono_l k
    refine ⟨?_, ?_, ?_⟩
    · intro y0 y1 y2 y3 y4
      unfold brickyardref19_Below.l0
      repeat' first
      | (with_reducible exact ih0 _ _ _ _ _)
      | (with_reducible exact ih1 _ _ _ _)
      | (with_reducible exact ih2 _ _ _ _ _ _)
      | (with_reducible exact brickyardref19_Out.mono _ _ _ _)
      | (with_reducible exact brickyardref19_Sorted.mono _ _)
      | (with_reducible exact brickyardref19_has.mono _ _ _)
      | (with_reducible exact LeO.refl _)
      | (with_reducible exact LeO.none _)
      | (with_reducible refine LeO.ite ?_ ?_)
      | (with_reducible refine LeO.bind ?_ (fun _ => ?_))
      | exact ih0 _ _ _ _ _
      | exact ih1 _ _ _ _
      | exact ih2 _ _ _ _ _ _
      | exact brickyardref19_Out.mono _ _ _ _
      | exact brickyardref19_Sorted.mono _ _
      | exact brickyardref19_has.mono _ _ _
      | exact LeO.none _
      | refine LeO.ite ?_ ?_
      | refine LeO.bind ?_ (fun _ => ?_)
    · intro y0 y1 y2 y3
      unfold brickyardref19_Below.l1
      repeat' first
      | (with_reducible exact ih0 _ _ _ _ _)
      | (with_reducible exact ih1 _ _ _ _)
      | (with_reducible exact ih2 _ _ _ _ _ _)
      | (with_reducible exact brickyardref19_Out.mono _ _ _ _)
      | (with_reducible exact brickyardref19_Sorted.mono _ _)
      | (with_reducible exact brickyardref19_has.mono _ _ _)
      | (with_reducible exact LeO.refl _)
      | (with_reducible exact LeO.none _)
      | (with_reducible refine LeO.ite ?_ ?_)
      | (with_reducible refine LeO.bind ?_ (fun _ => ?_))
      | exact ih0 _ _ _ _ _
      | exact ih1 _ _ _ _
      | exact ih2 _ _ _ _ _ _
      | exact brickyardref19_Out.mono _ _ _ _
      | exact brickyardref19_Sorted.mono _ _
      | exact brickyardref19_has.mono _ _ _
      | exact LeO.none _
      | refine LeO.ite ?_ ?_
      | refine LeO.bind ?_ (fun _ => ?_)
    · intro y0 y1 y2 y3 y4 y5
      unfold brickyardref19_Below.l2
      repeat' first
      | (with_reducible exact ih0 _ _ _ _ _)
      | (with_reducible exact ih1 _ _ _ _)
      | (with_reducible exact ih2 _ _ _ _ _ _)
      | (with_reducible exact brickyardref19_Out.mono _ _ _ _)
      | (with_reducible exact brickyardref19_Sorted.mono _ _)
      | (with_reducible exact brickyardref19_has.mono _ _ _)
      | (with_reducible exact LeO.refl _)
      | (with_reducible exact LeO.none _)
      | (with_reducible refine LeO.ite ?_ ?_)
      | (with_reducible refine LeO.bind ?_ (fun _ => ?_))
      | exact ih0 _ _ _ _ _
      | exact ih1 _ _ _ _
      | exact ih2 _ _ _ _ _ _
      | exact brickyardref19_Out.mono _ _ _ _
      | exact brickyardref19_Sorted.mono _ _
      | exact brickyardref19_has.mono _ _ _
      | exact LeO.none _
      | refine LeO.ite ?_ ?_
      | refine LeO.bind ?_ (fun _ => ?_)
theorem brickyardref19_Below.mono : ∀ a0 a1 a2 k, LeO (brickyardref19_Below.f k a0 a1 a2) (brickyardref19_Below.f (k + 1) a0 a1 a2) := by
  intro a0 a1 a2 k
  obtain ⟨ih0, ih1, ih2⟩ := brickyardref19_Below.mono_l k
  unfold brickyardref19_Below.f
  repeat' first
      | (with_reducible exact ih0 _ _ _ _ _)
      | (with_reducible exact ih1 _ _ _ _)
      | (with_reducible exact ih2 _ _ _ _ _ _)
      | (with_reducible exact brickyardref19_Out.mono _ _ _ _)
      | (with_reducible exact brickyardref19_Sorted.mono _ _)
      | (with_reducible exact brickyardref19_has.mono _ _ _)
      | (with_reducible exact LeO.refl _)
      | (with_reducible exact LeO.none _)
      | (with_reducible refine LeO.ite ?_ ?_)
      | (with_reducible refine LeO.bind ?_ (fun _ => ?_))
      | exact ih0 _ _ _ _ _
      | exact ih1 _ _ _ _
      | exact ih2 _ _ _ _ _ _
      | exact brickyardref19_Out.mono _ _ _ _
      | exact brickyardref19_Sorted.mono _ _
      | exact brickyardref19_has.mono _ _ _
      | exact LeO.none _
      | refine LeO.ite ?_ ?_
      | refine LeO.bind ?_ (fun _ => ?_)
set_option maxHeartbeats 8000000 in
set_option maxRecDepth 100000 in
theorem brickyardref19_Below.calls (k : Nat) (A0_0 : Option Addr) (c0_0 : Nat) (l0_0 : List ByteArray) (A0_1 : Option Addr) (c0_1 : Nat) (l0_1 : List (S45)) (A1 : Option Addr) (c1 : Nat) (l1 : List ByteArray) (r : List ByteArray) (w : World) (hr0_0 : Kd.C Kd.string w A0_0 l0_0.length l0_0) (hc0_0 : l0_0.length ≤ c0_0) (hr0_1 : Kd.C k45 w A0_1 l0_1.length l0_1) (hc0_1 : l0_1.length ≤ c0_1) (hr1 : Kd.C Kd.string w A1 l1.length l1) (hc1 : l1.length ≤ c1) (h : brickyardref19_Below.f k l0_0 l0_1 l1 = some r) :
    Calls Try.prog 17 #[.agg #[.slice A0_0 l0_0.length c0_0, .slice A0_1 l0_1.length c0_1], .slice A1 l1.length c1] w fun e w' => ∃ v0_ : Value, e = .returned (v0_) ∧ Kd.R Kd.string 9 w' w.heap.size (fun _ => True) v0_ r ∧ Below w.heap.size w w' := by
  have hu29 := Try.underlying29
  have HR0_0 := Aside0.mk hr0_0
  have HC0_0 := Aside0.mk hc0_0
  clear hr0_0 hc0_0
  have HR0_1 := Aside0.mk hr0_1
  have HC0_1 := Aside0.mk hc0_1
  clear hr0_1 hc0_1
  have HR1 := Aside0.mk hr1
  have HC1 := Aside0.mk hc1
  clear hr1 hc1
  have HB := Aside0.mk (Below.refl w.heap.size w)
  have H : (brickyardref19_Below.l0 k l1 ([] : List ByteArray) 0 l0_0 l0_1) = some r := h
  clear h
  have H' := Aside0.mk H
  clear H
  go_enter Try.func17, Try.ntmps17
  go_wp2_with (first | ((with_reducible refine gate_dst (N := 2) rfl ?_); refine box_event ?hg (N := 2) ?hd (cs := #[.slice A0_0 l0_0.length c0_0, .slice A0_1 l0_1.length c0_1]) (t := 29) ?hr ?_; (case hd => rfl); (case hg => rfl); (case hr => first | (go_simp; done) | (go_simp; rfl)); intro gb360 hg w3 hbox hb; have n0_ := Aside0.mk (below_step (by repeat (first | (with_reducible first | exact HB.out | apply below_alloc | apply pw_below_drewN | apply below_drew1) | exact HB.out)) hb); have n1_ := Aside0.mk (hbox); have n2_ := Aside0.mk ((by rw [hg]; exact (below_size (by repeat (first | (with_reducible first | exact HB.out | apply below_alloc | apply pw_below_drewN | apply below_drew1) | exact HB.out))) : w.heap.size ≤ gb360)); have n3_ := Aside0.mk ((by rw [hg]; exact (below_size (by repeat (first | (with_reducible first | exact HB.out | apply below_alloc | apply pw_below_drewN | apply below_drew1) | exact HB.out))) : w.heap.size ≤ gb360)); clear HB; have HB := n0_; have BK360 := n1_; have GW360 := n2_; have GE360 := n3_; clear n0_ n1_ n2_ n3_; clear hb hbox hg))
  go_loopg [5, 6] k (fun kq v5 v6 w' => ∃ (x5_1 : List ByteArray) (x6_1 : Int), v6 = .int .i64 x6_1 ∧ Aside0 (brickyardref19_Below.l0 kq l1 x5_1 x6_1 l0_0 l0_1 = some r) ∧ Aside0 (kq ≤ k) ∧ Aside0 (Kd.R Kd.string 9 w' w.heap.size (fun _ => True) v5 x5_1) ∧ Aside0 (w'.heap[gb360]? = some (.cells #[(.slice A0_0 l0_0.length c0_0), (.slice A0_1 l0_1.length c0_1)] 29 (0, 0))) ∧ Aside0 (Below w.heap.size w w'))
  case atStart => exact ⟨(([] : List ByteArray)), (0), (by first | rfl | (simp; done) | (simp [*]; done)), H', ⟨Nat.le_refl _⟩, ⟨by first | exact Kd.R_nil _ _ _ _ _ | exact Kd.N_nil _ _ _ _ _ | exact Kd.V_nil _ _ _ _ _ | exact Kd.Q_nil _ _ _ _ _ | exact Kd.S_nil _ _ _ _ _⟩, ⟨by (with_reducible repeat (first | refine blk_drewN ?_ _ | refine blk_drew ?_ | refine blk_alloc ?_ _)); exact BK360.out⟩, ⟨by repeat (first | (with_reducible first | exact HB.out | apply below_alloc | apply pw_below_drewN | apply below_drew1 | refine below_set ?_ GE360.out) | exact HB.out)⟩⟩
  case round =>
    clear H'
    try clear c1
    try clear p2
    obtain ⟨x5_1, x6_1, rfl, HA, HK1, HO_5, BK360, HB⟩ := hrel
    cases gk with
    | zero => exact absurd HA.out (by simp [brickyardref19_Below.l0])
    | succ k1 =>
      have H := HA.out
      clear HA
      simp only [brickyardref19_Below.l0] at H
      by_cases c4 : x6_1 < (l1.length : Int)
      · rw [if_pos c4] at H
        have c4b0 : decide (x6_1 < (l1.length : Int)) = true := decide_eq_true c4
        clear c4
        by_cases c5 : 0 ≤ x6_1
        · rw [if_pos c5] at H
          have c5b0 : decide (0 ≤ x6_1) = true := decide_eq_true c5
          clear c5
          replace H := Option.bind_eq_some_iff.mp H
          obtain ⟨t362, A60, H⟩ := H
          replace H : (if t362 = true then (if x5_1.length < 8796093022208 then (brickyardref19_Below.l0 k1 l1 (x5_1 ++ [rdOf ByteArray.empty l1 x6_1]) (wrap64 (x6_1 + 1)) l0_0 l0_1) else (none)) else (brickyardref19_Below.l0 k1 l1 x5_1 (wrap64 (x6_1 + 1)) l0_0 l0_1)) = some r := H
          have A6 := Aside0.mk A60
          clear A60
          by_cases c7 : t362 = true
          · subst c7
            have H1 : (if x5_1.length < 8796093022208 then (brickyardref19_Below.l0 k1 l1 (x5_1 ++ [rdOf ByteArray.empty l1 x6_1]) (wrap64 (x6_1 + 1)) l0_0 l0_1) else (none)) = some r := by rw [if_pos rfl] at H; exact H
            clear H
            have H := H1
            clear H1
            by_cases c8 : x5_1.length < 8796093022208
            · rw [if_pos c8] at H
              have LMc8 := Aside0.mk c8
              clear c8
              obtain ⟨y364, hy364⟩ : ∃ y_ : List ByteArray, y_ = (x5_1 ++ [rdOf ByteArray.empty l1 x6_1]) := ⟨_, rfl⟩
              replace H : (brickyardref19_Below.l0 k1 l1 y364 (wrap64 (x6_1 + 1)) l0_0 l0_1) = some r := by first | (rw [hy364]; with_reducible exact H) | (have H2_ := (Option.bind_some _ _).symm.trans H; rw [hy364]; with_reducible exact H2_) | (have H2_ := (Option.bind_some _ _).symm.trans H; with_reducible exact H2_) | with_reducible exact H | (rw [hy364]; exact H) | exact H
              have Ny364 := Aside0.mk hy364
              clear hy364
              have H' := Aside0.mk H
              clear H
              try go_wp2
              have n0_ := Aside0.mk (Kd.R_drew HO_5.out)
              have n1_ := Aside0.mk (blk_drew BK360.out)
              have n2_ := Aside0.mk (below_drew1 HB.out)
              clear HO_5
              clear BK360
              clear HB
              have HO_5 := n0_
              have BK360 := n1_
              have HB := n2_
              clear n0_ n1_ n2_
              have p361 : 0 ≤ (x6_1 : Int) := of_decide_eq_true (by first | (with_reducible assumption) | assumption)
              have q361 : x6_1 < (l1.length : Int) := of_decide_eq_true (by first | (with_reducible assumption) | assumption)
              obtain ⟨ad361, e361, hx361_0⟩ := Kd.at_string HR1.out x6_1 p361 q361
              have hw361_0 := hx361_0
              cases e361
              replace hx361_0 := (HB.out.cell (World.block_lt_of_cell? w _ hx361_0)).trans hx361_0
              replace p361 := eq_true p361
              replace q361 := eq_true q361
              refine start_ (n := 7) (S := fun w' => w'.cell? ⟨gb360, 0, none⟩ = some (.slice A0_0 l0_0.length c0_0) ∧ w'.cell? ⟨gb360, 1, none⟩ = some (.slice A0_1 l0_1.length c0_1) ∧ w'.cell? (ad361.add (x6_1).toNat) = some (.string (rdOf ByteArray.empty l1 x6_1))) (ds := []) #[false, false, false, false, false, false, false] (by kernel_rfl) rfl rfl ⟨(blk_cell BK360.out 0).trans rfl, (blk_cell BK360.out 1).trans rfl, ((HB.out.cell (World.block_lt_of_cell? w _ hw361_0)).trans hw361_0)⟩ (fun hHeld => ?_)
              generalize wr.drew = w9 at HO_5 BK360 HB hx361_0 hHeld ⊢
              refine pure_ (i := 0) (N := some 16) (v := ?_) (a' := ?_) #[true, false, false, false, false, false, false] rfl rfl (by kernel_rfl) (fun _ _ _ h => h) (Or.inl ⟨by rfl, ?_⟩) ?_ ?_
              rotate_left
              · intro w'
                go_simp
                with_reducible rfl
              rotate_left
              · simp only [Act.put, List.setIfInBounds_toArray, List.set_cons_zero, List.set_cons_succ, i64_w, i32_w]
                rfl
              refine pure_ (i := 2) (N := some 18) (v := ?_) (a' := ?_) #[true, false, true, false, false, false, false] rfl rfl (by kernel_rfl) (fun _ _ _ h => h) (Or.inl ⟨by rfl, ?_⟩) ?_ ?_
              rotate_left
              · intro w'
                go_simp
                with_reducible rfl
              rotate_left
              · simp only [Act.put, List.setIfInBounds_toArray, List.set_cons_zero, List.set_cons_succ, i64_w, i32_w]
                rfl
              refine pure_ (i := 3) (N := some 19) (v := ?_) (a' := ?_) #[true, false, true, true, false, false, false] rfl rfl (by kernel_rfl) (fun _ _ _ h => h) (Or.inl ⟨by rfl, ?_⟩) ?_ ?_
              rotate_left
              · intro w'
                go_simp
                with_reducible rfl
              rotate_left
              · simp only [Act.put, List.setIfInBounds_toArray, List.set_cons_zero, List.set_cons_succ, i64_w, i32_w]
                rfl
              refine pure_ (i := 4) (N := some 20) (v := ?_) (a' := ?_) #[true, false, true, true, true, false, false] rfl rfl (by kernel_rfl) (fun _ _ _ h => h) (Or.inl ⟨by rfl, ?_⟩) ?_ ?_
              rotate_left
              · intro w'
                go_simp
                with_reducible rfl
              rotate_left
              · simp only [Act.put, List.setIfInBounds_toArray, List.set_cons_zero, List.set_cons_succ, i64_w, i32_w]
                rfl
              refine take_ (i := 1) (N := some 17) (v := ?_) (a' := ?_) #[true, true, true, true, true, false, false] rfl rfl (by kernel_rfl) (fun _ _ _ h => h) (Or.inl ⟨by rfl, ?_⟩) hHeld ?_ ?_
              rotate_left
              · rintro w' ⟨s0, s1, s2⟩
                go_simp
                with_reducible rfl
              rotate_left
              · simp only [Act.put, List.setIfInBounds_toArray, List.set_cons_zero, List.set_cons_succ, i64_w, i32_w]
                rfl
              refine take_ (i := 5) (N := some 21) (v := ?_) (a' := ?_) #[true, true, true, true, true, true, false] rfl rfl (by kernel_rfl) (fun _ _ _ h => h) (Or.inl ⟨by rfl, ?_⟩) hHeld ?_ ?_
              rotate_left
              · rintro w' ⟨s0, s1, s2⟩
                go_simp
                with_reducible rfl
              rotate_left
              · simp only [Act.put, List.setIfInBounds_toArray, List.set_cons_zero, List.set_cons_succ, i64_w, i32_w]
                rfl
              refine one_ (i := 6) (N := some 22) #[true, true, true, true, true, true, true] rfl rfl (by kernel_rfl) (by decide) (fun K hK => ?_)
              refine goes_ Try.func41 (by kernel_rfl) rfl #[.slice A0_0 l0_0.length c0_0, .string (rdOf ByteArray.empty l1 x6_1)] (by rfl) rfl rfl (by (try simp only [List.map_toArray, List.map_cons, List.map_nil]); first | done | rfl | (simp only [List.length_drop, List.length_take]; rfl)) ?_
              with_reducible refine (brickyardref19_has.calls k1 _ _ l0_0 (rdOf ByteArray.empty l1 x6_1) true _ ?side1 ?side2 A6.out).mono ?_
              (case side1 => repeat (first | exact (Kd.C_below HR0_0.out HB.out) | (with_reducible refine Kd.C_alloc ?_ _) | (with_reducible refine Kd.C_drewN ?_ _) | (with_reducible refine Kd.C_drew ?_)))
              (case side2 => exact HC0_0.out)
              rintro e w' ⟨rfl, ⟨nd, rfl⟩⟩
              refine ⟨_, rfl, ?_⟩
              refine hK.out _ _ ⟨(blk_cell BK360.out 0).trans rfl, (blk_cell BK360.out 1).trans rfl, ((HB.out.cell (World.block_lt_of_cell? w _ hw361_0)).trans hw361_0)⟩ (fun hHeld => ?_)
              clear hK K
              refine norm_ (a' := ?_) ?_ ?_
              rotate_left
              · show Act.put _ (some 22) _ = _
                simp only [Act.put, List.setIfInBounds_toArray, List.set_cons_zero, List.set_cons_succ, i64_w, i32_w]
                rfl
              refine done_ (by kernel_rfl) ?_
              have p363 : 0 ≤ (x6_1 : Int) := of_decide_eq_true (by first | (with_reducible assumption) | assumption)
              have q363 : x6_1 < (l1.length : Int) := of_decide_eq_true (by first | (with_reducible assumption) | assumption)
              obtain ⟨ad363, e363, hx363_0⟩ := Kd.at_string HR1.out x6_1 p363 q363
              obtain rfl : ad361 = ad363 := (by injection e363)
              replace hx363_0 := (HB.out.cell (World.block_lt_of_cell? w _ hx363_0)).trans hx363_0
              replace p363 := eq_true p363
              replace q363 := eq_true q363
              try go_wp2_with (first | ((with_reducible refine gate_builtin (b := .append) (xs := #[.tmp 23, .tmp 28]) rfl ?_); at_builtin; refine Kd.R_append Kd.string (w0 := w) w.heap.size rfl (.tmp 23) (.tmp 28) 23 9 (.string ⟨#[]⟩) 16 rfl Try.underlying23 info9 rfl (by decide) (by omega) u5 x5_1 (rdOf ByteArray.empty l1 x6_1) [.string (rdOf ByteArray.empty l1 x6_1)] (fun _ => True) (fun _ => False) rfl rfl ?aP (fun _ hk => hk.elim) ?aF ?aO ?aB ?aS ?aL ?_; (case aP => exact rfl); (case aB => exact (by repeat (first | (with_reducible first | exact HB.out | apply below_alloc | apply pw_below_drewN | apply below_drew1 | refine below_set ?_ GE360.out) | exact HB.out))); (case aF => exact (fun _ _ => trivial)); (case aO => exact (by (with_reducible repeat (first | apply Kd.R_alloc | apply Kd.R_drewN | apply Kd.R_drew)); exact HO_5.out)); (case aS => exact (below_size (by repeat (first | (with_reducible first | exact HB.out | apply below_alloc | apply pw_below_drewN | apply below_drew1 | refine below_set ?_ GE360.out) | exact HB.out)))); (case aL => have := LMc8.out; omega); intro v365 w10 ho hb hg hat; rw [← Ny364.out] at ho; have n0_ := Aside0.mk (blk_grown (g := gb360) (o := .cells #[.slice A0_0 l0_0.length c0_0, .slice A0_1 l0_1.length c0_1] 29 (0, 0)) (by (with_reducible repeat (first | refine blk_drewN ?_ _ | refine blk_drew ?_ | refine blk_alloc ?_ _)); exact BK360.out) hg (Kd.R_ne HO_5.out BK360.out (by decide))); have n1_ := Aside0.mk (hb); have n2_ := Aside0.mk (ho); clear BK360; clear HB; clear HO_5; have BK360 := n0_; have HB := n1_; have HO366 := n2_; clear n0_ n1_ n2_; clear ho hb hg hat))
              go_roundg k1
              case measure => have := HK1.out; omega
              case rel => exact ⟨(y364), (wrap64 (x6_1 + 1)), (by first | rfl | (simp; done) | (simp [*]; done)), H', ⟨by have := HK1.out; omega⟩, ⟨by (with_reducible repeat (first | apply Kd.R_alloc | apply Kd.R_drewN | apply Kd.R_drew)); exact HO366.out⟩, ⟨by (with_reducible repeat (first | refine blk_drewN ?_ _ | refine blk_drew ?_ | refine blk_alloc ?_ _)); exact BK360.out⟩, ⟨by repeat (first | (with_reducible first | exact HB.out | apply below_alloc | apply pw_below_drewN | apply below_drew1 | refine below_set ?_ GE360.out) | exact HB.out)⟩⟩
            · rw [if_neg c8] at H
              exact absurd H (by simp)
          · replace c7 := Bool.eq_false_iff.mpr c7
            subst c7
            have H1 : (brickyardref19_Below.l0 k1 l1 x5_1 (wrap64 (x6_1 + 1)) l0_0 l0_1) = some r := by rw [if_neg (show ¬ (false = true) by decide)] at H; exact H
            clear H
            have H := H1
            clear H1
            have H' := Aside0.mk H
            clear H
            try go_wp2
            have n0_ := Aside0.mk (Kd.R_drew HO_5.out)
            have n1_ := Aside0.mk (blk_drew BK360.out)
            have n2_ := Aside0.mk (below_drew1 HB.out)
            clear HO_5
            clear BK360
            clear HB
            have HO_5 := n0_
            have BK360 := n1_
            have HB := n2_
            clear n0_ n1_ n2_
            have p361 : 0 ≤ (x6_1 : Int) := of_decide_eq_true (by first | (with_reducible assumption) | assumption)
            have q361 : x6_1 < (l1.length : Int) := of_decide_eq_true (by first | (with_reducible assumption) | assumption)
            obtain ⟨ad361, e361, hx361_0⟩ := Kd.at_string HR1.out x6_1 p361 q361
            have hw361_0 := hx361_0
            cases e361
            replace hx361_0 := (HB.out.cell (World.block_lt_of_cell? w _ hx361_0)).trans hx361_0
            replace p361 := eq_true p361
            replace q361 := eq_true q361
            refine start_ (n := 7) (S := fun w' => w'.cell? ⟨gb360, 0, none⟩ = some (.slice A0_0 l0_0.length c0_0) ∧ w'.cell? ⟨gb360, 1, none⟩ = some (.slice A0_1 l0_1.length c0_1) ∧ w'.cell? (ad361.add (x6_1).toNat) = some (.string (rdOf ByteArray.empty l1 x6_1))) (ds := []) #[false, false, false, false, false, false, false] (by kernel_rfl) rfl rfl ⟨(blk_cell BK360.out 0).trans rfl, (blk_cell BK360.out 1).trans rfl, ((HB.out.cell (World.block_lt_of_cell? w _ hw361_0)).trans hw361_0)⟩ (fun hHeld => ?_)
            generalize wr.drew = w11 at HO_5 BK360 HB hx361_0 hHeld ⊢
            refine pure_ (i := 0) (N := some 16) (v := ?_) (a' := ?_) #[true, false, false, false, false, false, false] rfl rfl (by kernel_rfl) (fun _ _ _ h => h) (Or.inl ⟨by rfl, ?_⟩) ?_ ?_
            rotate_left
            · intro w'
              go_simp
              with_reducible rfl
            rotate_left
            · simp only [Act.put, List.setIfInBounds_toArray, List.set_cons_zero, List.set_cons_succ, i64_w, i32_w]
              rfl
            refine pure_ (i := 2) (N := some 18) (v := ?_) (a' := ?_) #[true, false, true, false, false, false, false] rfl rfl (by kernel_rfl) (fun _ _ _ h => h) (Or.inl ⟨by rfl, ?_⟩) ?_ ?_
            rotate_left
            · intro w'
              go_simp
              with_reducible rfl
            rotate_left
            · simp only [Act.put, List.setIfInBounds_toArray, List.set_cons_zero, List.set_cons_succ, i64_w, i32_w]
              rfl
            refine pure_ (i := 3) (N := some 19) (v := ?_) (a' := ?_) #[true, false, true, true, false, false, false] rfl rfl (by kernel_rfl) (fun _ _ _ h => h) (Or.inl ⟨by rfl, ?_⟩) ?_ ?_
            rotate_left
            · intro w'
              go_simp
              with_reducible rfl
            rotate_left
            · simp only [Act.put, List.setIfInBounds_toArray, List.set_cons_zero, List.set_cons_succ, i64_w, i32_w]
              rfl
            refine pure_ (i := 4) (N := some 20) (v := ?_) (a' := ?_) #[true, false, true, true, true, false, false] rfl rfl (by kernel_rfl) (fun _ _ _ h => h) (Or.inl ⟨by rfl, ?_⟩) ?_ ?_
            rotate_left
            · intro w'
              go_simp
              with_reducible rfl
            rotate_left
            · simp only [Act.put, List.setIfInBounds_toArray, List.set_cons_zero, List.set_cons_succ, i64_w, i32_w]
              rfl
            refine take_ (i := 1) (N := some 17) (v := ?_) (a' := ?_) #[true, true, true, true, true, false, false] rfl rfl (by kernel_rfl) (fun _ _ _ h => h) (Or.inl ⟨by rfl, ?_⟩) hHeld ?_ ?_
            rotate_left
            · rintro w' ⟨s0, s1, s2⟩
              go_simp
              with_reducible rfl
            rotate_left
            · simp only [Act.put, List.setIfInBounds_toArray, List.set_cons_zero, List.set_cons_succ, i64_w, i32_w]
              rfl
            refine take_ (i := 5) (N := some 21) (v := ?_) (a' := ?_) #[true, true, true, true, true, true, false] rfl rfl (by kernel_rfl) (fun _ _ _ h => h) (Or.inl ⟨by rfl, ?_⟩) hHeld ?_ ?_
            rotate_left
            · rintro w' ⟨s0, s1, s2⟩
              go_simp
              with_reducible rfl
            rotate_left
            · simp only [Act.put, List.setIfInBounds_toArray, List.set_cons_zero, List.set_cons_succ, i64_w, i32_w]
              rfl
            refine one_ (i := 6) (N := some 22) #[true, true, true, true, true, true, true] rfl rfl (by kernel_rfl) (by decide) (fun K hK => ?_)
            refine goes_ Try.func41 (by kernel_rfl) rfl #[.slice A0_0 l0_0.length c0_0, .string (rdOf ByteArray.empty l1 x6_1)] (by rfl) rfl rfl (by (try simp only [List.map_toArray, List.map_cons, List.map_nil]); first | done | rfl | (simp only [List.length_drop, List.length_take]; rfl)) ?_
            with_reducible refine (brickyardref19_has.calls k1 _ _ l0_0 (rdOf ByteArray.empty l1 x6_1) false _ ?side1 ?side2 A6.out).mono ?_
            (case side1 => repeat (first | exact (Kd.C_below HR0_0.out HB.out) | (with_reducible refine Kd.C_alloc ?_ _) | (with_reducible refine Kd.C_drewN ?_ _) | (with_reducible refine Kd.C_drew ?_)))
            (case side2 => exact HC0_0.out)
            rintro e w' ⟨rfl, ⟨nd, rfl⟩⟩
            refine ⟨_, rfl, ?_⟩
            refine hK.out _ _ ⟨(blk_cell BK360.out 0).trans rfl, (blk_cell BK360.out 1).trans rfl, ((HB.out.cell (World.block_lt_of_cell? w _ hw361_0)).trans hw361_0)⟩ (fun hHeld => ?_)
            clear hK K
            refine norm_ (a' := ?_) ?_ ?_
            rotate_left
            · show Act.put _ (some 22) _ = _
              simp only [Act.put, List.setIfInBounds_toArray, List.set_cons_zero, List.set_cons_succ, i64_w, i32_w]
              rfl
            refine done_ (by kernel_rfl) ?_
            try go_wp2
            go_roundg k1
            case measure => have := HK1.out; omega
            case rel => exact ⟨(x5_1), (wrap64 (x6_1 + 1)), (by first | rfl | (simp; done) | (simp [*]; done)), H', ⟨by have := HK1.out; omega⟩, ⟨by (with_reducible repeat (first | apply Kd.R_alloc | apply Kd.R_drewN | apply Kd.R_drew)); exact HO_5.out⟩, ⟨by (with_reducible repeat (first | refine blk_drewN ?_ _ | refine blk_drew ?_ | refine blk_alloc ?_ _)); exact BK360.out⟩, ⟨by repeat (first | (with_reducible first | exact HB.out | apply below_alloc | apply pw_below_drewN | apply below_drew1 | refine below_set ?_ GE360.out) | exact HB.out)⟩⟩
        · rw [if_neg c5] at H
          exact absurd H (by simp)
      · rw [if_neg c4] at H
        have c4b0 : decide (x6_1 < (l1.length : Int)) = false := decide_eq_false c4
        clear c4
        have H' := Aside0.mk H
        clear H
        go_wp2
        go_loopg [5, 7] k1 (fun kq v5 v7 w' => ∃ (x5_2 : List ByteArray) (x7_2 : Int), v7 = .int .i64 x7_2 ∧ Aside0 (brickyardref19_Below.l1 kq x5_2 x7_2 l0_0 l0_1 = some r) ∧ Aside0 (kq ≤ k1) ∧ Aside0 (Kd.R Kd.string 9 w' w.heap.size (fun _ => True) v5 x5_2) ∧ Aside0 (w'.heap[gb360]? = some (.cells #[(.slice A0_0 l0_0.length c0_0), (.slice A0_1 l0_1.length c0_1)] 29 (0, 0))) ∧ Aside0 (Below w.heap.size w w'))
        case atStart => exact ⟨(x5_1), (0), (by first | rfl | (simp; done) | (simp [*]; done)), H', ⟨Nat.le_refl _⟩, ⟨by (with_reducible repeat (first | apply Kd.R_alloc | apply Kd.R_drewN | apply Kd.R_drew)); exact HO_5.out⟩, ⟨by (with_reducible repeat (first | refine blk_drewN ?_ _ | refine blk_drew ?_ | refine blk_alloc ?_ _)); exact BK360.out⟩, ⟨by repeat (first | (with_reducible first | exact HB.out | apply below_alloc | apply pw_below_drewN | apply below_drew1 | refine below_set ?_ GE360.out) | exact HB.out)⟩⟩
        case round =>
          clear H'
          try clear c1
          try clear p2
          try clear p3
          try clear q3
          try clear hx3
          try clear c4
          try clear c4b0
          try clear c5
          try clear c5b0
          try clear p6
          try clear c7
          try clear c8
          try clear hx361_0
          try clear hx363_0
          try clear p2
          try clear p361
          try clear p363
          try clear q361
          try clear q363
          obtain ⟨x5_2, x7_2, rfl, HA, HK2, HO_5, BK360, HB⟩ := hrel
          cases gk with
          | zero => exact absurd HA.out (by simp [brickyardref19_Below.l1])
          | succ k2 =>
            have H := HA.out
            clear HA
            simp only [brickyardref19_Below.l1] at H
            by_cases c12 : x7_2 < (x5_2.length : Int)
            · rw [if_pos c12] at H
              have c12b0 : decide (x7_2 < (x5_2.length : Int)) = true := decide_eq_true c12
              clear c12
              by_cases c13 : 0 ≤ x7_2
              · rw [if_pos c13] at H
                have c13b0 : decide (0 ≤ x7_2) = true := decide_eq_true c13
                clear c13
                replace H := Option.bind_eq_some_iff.mp H
                obtain ⟨t371, A140, H⟩ := H
                replace H : (brickyardref19_Below.l2 k2 x5_2 x7_2 t371 0 l0_0 l0_1) = some r := H
                have A14 := Aside0.mk A140
                clear A140
                have H' := Aside0.mk H
                clear H
                obtain ⟨Ao15, co15, eo15⟩ := Kd.R_slice HO_5.out
                subst eo15
                try go_wp2
                have n0_ := Aside0.mk (Kd.R_drew HO_5.out)
                have n1_ := Aside0.mk (blk_drew BK360.out)
                have n2_ := Aside0.mk (below_drew1 HB.out)
                clear HO_5
                clear BK360
                clear HB
                have HO_5 := n0_
                have BK360 := n1_
                have HB := n2_
                clear n0_ n1_ n2_
                have p370 : 0 ≤ (x7_2 : Int) := of_decide_eq_true (by first | (with_reducible assumption) | assumption)
                have q370 : x7_2 < (x5_2.length : Int) := of_decide_eq_true (by first | (with_reducible assumption) | assumption)
                obtain ⟨ad370, e370, hx370_0⟩ := Kd.at_string (Kd.R_reads' HO_5.out).2.2 x7_2 p370 q370
                cases e370
                replace p370 := eq_true p370
                replace q370 := eq_true q370
                refine start_ (n := 7) (S := fun w' => w'.cell? ⟨gb360, 0, none⟩ = some (.slice A0_0 l0_0.length c0_0) ∧ w'.cell? ⟨gb360, 1, none⟩ = some (.slice A0_1 l0_1.length c0_1) ∧ w'.cell? (ad370.add (x7_2).toNat) = some (.string (rdOf ByteArray.empty x5_2 x7_2))) (ds := []) #[false, false, false, false, false, false, false] (by kernel_rfl) rfl rfl ⟨(blk_cell BK360.out 0).trans rfl, (blk_cell BK360.out 1).trans rfl, hx370_0⟩ (fun hHeld => ?_)
                generalize wr.drew = w16 at HO_5 BK360 HB hx370_0 hHeld ⊢
                refine pure_ (i := 1) (N := some 37) (v := ?_) (a' := ?_) #[false, true, false, false, false, false, false] rfl rfl (by kernel_rfl) (fun _ _ _ h => h) (Or.inl ⟨by rfl, ?_⟩) ?_ ?_
                rotate_left
                · intro w'
                  go_simp
                  with_reducible rfl
                rotate_left
                · simp only [Act.put, List.setIfInBounds_toArray, List.set_cons_zero, List.set_cons_succ, i64_w, i32_w]
                  rfl
                refine pure_ (i := 2) (N := some 38) (v := ?_) (a' := ?_) #[false, true, true, false, false, false, false] rfl rfl (by kernel_rfl) (fun _ _ _ h => h) (Or.inl ⟨by rfl, ?_⟩) ?_ ?_
                rotate_left
                · intro w'
                  go_simp
                  with_reducible rfl
                rotate_left
                · simp only [Act.put, List.setIfInBounds_toArray, List.set_cons_zero, List.set_cons_succ, i64_w, i32_w]
                  rfl
                refine pure_ (i := 3) (N := some 39) (v := ?_) (a' := ?_) #[false, true, true, true, false, false, false] rfl rfl (by kernel_rfl) (fun _ _ _ h => h) (Or.inl ⟨by rfl, ?_⟩) ?_ ?_
                rotate_left
                · intro w'
                  go_simp
                  with_reducible rfl
                rotate_left
                · simp only [Act.put, List.setIfInBounds_toArray, List.set_cons_zero, List.set_cons_succ, i64_w, i32_w]
                  rfl
                refine take_ (i := 0) (N := some 36) (v := ?_) (a' := ?_) #[true, true, true, true, false, false, false] rfl rfl (by kernel_rfl) (fun _ _ _ h => h) (Or.inl ⟨by rfl, ?_⟩) hHeld ?_ ?_
                rotate_left
                · rintro w' ⟨s0, s1, s2⟩
                  go_simp
                  with_reducible rfl
                rotate_left
                · simp only [Act.put, List.setIfInBounds_toArray, List.set_cons_zero, List.set_cons_succ, i64_w, i32_w]
                  rfl
                refine take_ (i := 4) (N := some 40) (v := ?_) (a' := ?_) #[true, true, true, true, true, false, false] rfl rfl (by kernel_rfl) (fun _ _ _ h => h) (Or.inl ⟨by rfl, ?_⟩) hHeld ?_ ?_
                rotate_left
                · rintro w' ⟨s0, s1, s2⟩
                  go_simp
                  with_reducible rfl
                rotate_left
                · simp only [Act.put, List.setIfInBounds_toArray, List.set_cons_zero, List.set_cons_succ, i64_w, i32_w]
                  rfl
                refine one_ (i := 5) (N := some 41) #[true, true, true, true, true, true, false] rfl rfl (by kernel_rfl) (by decide) (fun K hK => ?_)
                refine goes_ Try.func28 (by kernel_rfl) rfl #[.agg #[.slice A0_0 l0_0.length c0_0, .slice A0_1 l0_1.length c0_1], .string (rdOf ByteArray.empty x5_2 x7_2)] (by rfl) rfl rfl (by (try simp only [List.map_toArray, List.map_cons, List.map_nil]); first | done | rfl | (simp only [List.length_drop, List.length_take]; rfl)) ?_
                with_reducible refine (brickyardref19_Out.calls k2 _ _ l0_0 _ _ l0_1 (rdOf ByteArray.empty x5_2 x7_2) t371 _ ?side1 ?side2 ?side3 ?side4 A14.out).mono ?_
                (case side1 => repeat (first | exact (Kd.C_below HR0_0.out HB.out) | (with_reducible refine Kd.C_alloc ?_ _) | (with_reducible refine Kd.C_drewN ?_ _) | (with_reducible refine Kd.C_drew ?_)))
                (case side2 => exact HC0_0.out)
                (case side3 => repeat (first | exact (Kd.C_below HR0_1.out HB.out) | (with_reducible refine Kd.C_alloc ?_ _) | (with_reducible refine Kd.C_drewN ?_ _) | (with_reducible refine Kd.C_drew ?_)))
                (case side4 => exact HC0_1.out)
                rintro e w17 ⟨v372, rfl, ho0, hb⟩
                have HS2_ := (hb.cell (World.block_lt_of_cell? _ _ (hHeld.2.2))).trans (hHeld.2.2)
                refine ⟨_, rfl, ?_⟩
                have n0_ := Aside0.mk (Kd.R_elder' (by (with_reducible repeat (first | apply Kd.R_alloc | apply Kd.R_drewN | apply Kd.R_drew)); exact HO_5.out) (Kd.R_base ho0) hb)
                have n1_ := Aside0.mk (Kd.R_lower (Kd.R_new' ho0 (Kd.R_lt (by (with_reducible repeat (first | apply Kd.R_alloc | apply Kd.R_drewN | apply Kd.R_drew)); exact HO_5.out))) (below_size (by repeat (first | (with_reducible first | exact HB.out | apply below_alloc | apply pw_below_drewN | apply below_drew1 | refine below_set ?_ GE360.out) | exact HB.out))))
                have n2_ := Aside0.mk (blk_below (g := gb360) (o := .cells #[.slice A0_0 l0_0.length c0_0, .slice A0_1 l0_1.length c0_1] 29 (0, 0)) (by (with_reducible repeat (first | refine blk_drewN ?_ _ | refine blk_drew ?_ | refine blk_alloc ?_ _)); exact BK360.out) hb)
                have n3_ := Aside0.mk (below_step (by repeat (first | (with_reducible first | exact HB.out | apply below_alloc | apply pw_below_drewN | apply below_drew1 | refine below_set ?_ GE360.out) | exact HB.out)) hb)
                clear HO_5
                clear BK360
                clear HB
                have HO_5 := n0_
                have HO373 := n1_
                have BK360 := n2_
                have HB := n3_
                clear n0_ n1_ n2_ n3_
                (try clear hb)
                (try clear hb2)
                (try clear hk)
                (try clear hi)
                (try clear ho0)
                refine hK.out _ _ ⟨(blk_cell BK360.out 0).trans rfl, (blk_cell BK360.out 1).trans rfl, HS2_⟩ (fun hHeld => ?_)
                clear hK K
                refine norm_ (a' := ?_) ?_ ?_
                rotate_left
                · show Act.put _ (some 41) _ = _
                  simp only [Act.put, List.setIfInBounds_toArray, List.set_cons_zero, List.set_cons_succ, i64_w, i32_w]
                  rfl
                refine pure_ (i := 6) (N := some 8) (v := ?_) (a' := ?_) #[true, true, true, true, true, true, true] rfl rfl (by kernel_rfl) (fun _ _ _ h => h) (Or.inl ⟨by rfl, ?_⟩) ?_ ?_
                rotate_left
                · intro w'
                  go_simp
                  with_reducible rfl
                rotate_left
                · simp only [Act.put, List.setIfInBounds_toArray, List.set_cons_zero, List.set_cons_succ, i64_w, i32_w]
                  rfl
                refine done_ (by kernel_rfl) ?_
                try go_wp2
                go_loopg [5, 9] k2 (fun kq v5 v9 w' => ∃ (x5_3 : List ByteArray) (x9_3 : Int), v9 = .int .i64 x9_3 ∧ Aside0 (brickyardref19_Below.l2 kq x5_3 x7_2 t371 x9_3 l0_0 l0_1 = some r) ∧ Aside0 (kq ≤ k2) ∧ Aside0 (Kd.R Kd.string 9 w' w.heap.size (fun k_ => some k_ ≠ (v372 : Value).ownBlock) v5 x5_3) ∧ Aside0 (Kd.R Kd.string 9 w' w.heap.size (fun k_ => some k_ ≠ (v5 : Value).ownBlock) v372 t371) ∧ Aside0 (w'.heap[gb360]? = some (.cells #[(.slice A0_0 l0_0.length c0_0), (.slice A0_1 l0_1.length c0_1)] 29 (0, 0))) ∧ Aside0 (Below w.heap.size w w'))
                case atStart => exact ⟨(x5_2), (0), (by first | rfl | (simp; done) | (simp [*]; done)), H', ⟨Nat.le_refl _⟩, ⟨by (with_reducible repeat (first | apply Kd.R_alloc | apply Kd.R_drewN | apply Kd.R_drew)); exact Kd.R_mono HO_5.out (fun _ hk => hk.2)⟩, ⟨by (with_reducible repeat (first | apply Kd.R_alloc | apply Kd.R_drewN | apply Kd.R_drew)); exact Kd.R_mono HO373.out (fun _ hk => hk.2)⟩, ⟨by (with_reducible repeat (first | refine blk_drewN ?_ _ | refine blk_drew ?_ | refine blk_alloc ?_ _)); exact BK360.out⟩, ⟨by repeat (first | (with_reducible first | exact HB.out | apply below_alloc | apply pw_below_drewN | apply below_drew1 | refine below_set ?_ GE360.out) | exact HB.out)⟩⟩
                case round =>
                  clear H'
                  try clear c1
                  try clear c2
                  try clear p2
                  try clear p3
                  try clear q3
                  try clear hx3
                  try clear c4
                  try clear c4b0
                  try clear c5
                  try clear c5b0
                  try clear p6
                  try clear c7
                  try clear c8
                  try clear c12
                  try clear c12b0
                  try clear c13
                  try clear c13b0
                  try clear c17
                  try clear hx361_0
                  try clear hx363_0
                  try clear hx370_0
                  try clear p2
                  try clear p3
                  try clear p361
                  try clear p363
                  try clear p370
                  try clear p6
                  try clear q3
                  try clear q361
                  try clear q363
                  try clear q370
                  obtain ⟨x5_3, x9_3, rfl, HA, HK3, HO_5, HO_8, BK360, HB⟩ := hrel
                  cases gk with
                  | zero => exact absurd HA.out (by simp [brickyardref19_Below.l2])
                  | succ k3 =>
                    have H := HA.out
                    clear HA
                    simp only [brickyardref19_Below.l2] at H
                    by_cases c18 : x9_3 < (t371.length : Int)
                    · rw [if_pos c18] at H
                      have c18b0 : decide (x9_3 < (t371.length : Int)) = true := decide_eq_true c18
                      clear c18
                      by_cases c19 : 0 ≤ x9_3
                      · rw [if_pos c19] at H
                        have c19b0 : decide (0 ≤ x9_3) = true := decide_eq_true c19
                        clear c19
                        replace H := Option.bind_eq_some_iff.mp H
                        obtain ⟨t375, A200, H⟩ := H
                        replace H : (if t375 = true then (brickyardref19_Below.l2 k3 x5_3 x7_2 t371 (wrap64 (x9_3 + 1)) l0_0 l0_1) else (if x5_3.length < 8796093022208 then (brickyardref19_Below.l2 k3 (x5_3 ++ [rdOf ByteArray.empty t371 x9_3]) x7_2 t371 (wrap64 (x9_3 + 1)) l0_0 l0_1) else (none))) = some r := H
                        have A20 := Aside0.mk A200
                        clear A200
                        by_cases c21 : t375 = true
                        · subst c21
                          have H1 : (brickyardref19_Below.l2 k3 x5_3 x7_2 t371 (wrap64 (x9_3 + 1)) l0_0 l0_1) = some r := by rw [if_pos rfl] at H; exact H
                          clear H
                          have H := H1
                          clear H1
                          have H' := Aside0.mk H
                          clear H
                          obtain ⟨Ao22, co22, eo22⟩ := Kd.R_slice HO_8.out
                          subst eo22
                          have p374 : 0 ≤ (x9_3 : Int) := of_decide_eq_true (by first | (with_reducible assumption) | assumption)
                          have q374 : x9_3 < (t371.length : Int) := of_decide_eq_true (by first | (with_reducible assumption) | assumption)
                          obtain ⟨ad374, e374, hx374_0⟩ := Kd.at_string (Kd.R_reads' HO_8.out).2.2 x9_3 p374 q374
                          cases e374
                          replace p374 := eq_true p374
                          replace q374 := eq_true q374
                          obtain ⟨Ao23, co23, eo23⟩ := Kd.R_slice HO_5.out
                          subst eo23
                          go_wp2_with (first | ((with_reducible refine gate_callee (f := 41) rfl ?_); refine goesL_ (some 53) rfl rfl Try.func41 (by kernel_rfl) rfl #[.slice Ao23 x5_3.length co23, .string (rdOf ByteArray.empty t371 x9_3)] rfl (by (try simp only [List.map_toArray, List.map_cons, List.map_nil]); first | done | rfl | (simp only [List.length_drop, List.length_take]; rfl)) ?_; (with_reducible refine (brickyardref19_has.calls k3 _ _ x5_3 (rdOf ByteArray.empty t371 x9_3) true _ ?side1 ?side2 A20.out).mono ?_); (case side1 => repeat (first | exact (Kd.R_reads' HO_5.out).2.2 | (with_reducible refine Kd.C_alloc ?_ _) | (with_reducible refine Kd.C_drewN ?_ _) | (with_reducible refine Kd.C_drew ?_))); (case side2 => exact (Kd.R_reads' HO_5.out).2.1); rintro e w' ⟨rfl, ⟨nd, rfl⟩⟩; refine ⟨_, rfl, ?_⟩))
                          go_roundg k3
                          case measure => have := HK1.out; have := HK2.out; have := HK3.out; omega
                          case rel => exact ⟨(x5_3), (wrap64 (x9_3 + 1)), (by first | rfl | (simp; done) | (simp [*]; done)), H', ⟨by have := HK1.out; have := HK2.out; have := HK3.out; omega⟩, ⟨by (with_reducible repeat (first | apply Kd.R_alloc | apply Kd.R_drewN | apply Kd.R_drew)); exact HO_5.out⟩, ⟨by (with_reducible repeat (first | apply Kd.R_alloc | apply Kd.R_drewN | apply Kd.R_drew)); exact HO_8.out⟩, ⟨by (with_reducible repeat (first | refine blk_drewN ?_ _ | refine blk_drew ?_ | refine blk_alloc ?_ _)); exact BK360.out⟩, ⟨by repeat (first | (with_reducible first | exact HB.out | apply below_alloc | apply pw_below_drewN | apply below_drew1 | refine below_set ?_ GE360.out) | exact HB.out)⟩⟩
                        · replace c21 := Bool.eq_false_iff.mpr c21
                          subst c21
                          have H1 : (if x5_3.length < 8796093022208 then (brickyardref19_Below.l2 k3 (x5_3 ++ [rdOf ByteArray.empty t371 x9_3]) x7_2 t371 (wrap64 (x9_3 + 1)) l0_0 l0_1) else (none)) = some r := by rw [if_neg (show ¬ (false = true) by decide)] at H; exact H
                          clear H
                          have H := H1
                          clear H1
                          by_cases c24 : x5_3.length < 8796093022208
                          · rw [if_pos c24] at H
                            have LMc24 := Aside0.mk c24
                            clear c24
                            obtain ⟨y377, hy377⟩ : ∃ y_ : List ByteArray, y_ = (x5_3 ++ [rdOf ByteArray.empty t371 x9_3]) := ⟨_, rfl⟩
                            replace H : (brickyardref19_Below.l2 k3 y377 x7_2 t371 (wrap64 (x9_3 + 1)) l0_0 l0_1) = some r := by first | (rw [hy377]; with_reducible exact H) | (have H2_ := (Option.bind_some _ _).symm.trans H; rw [hy377]; with_reducible exact H2_) | (have H2_ := (Option.bind_some _ _).symm.trans H; with_reducible exact H2_) | with_reducible exact H | (rw [hy377]; exact H) | exact H
                            have Ny377 := Aside0.mk hy377
                            clear hy377
                            have H' := Aside0.mk H
                            clear H
                            obtain ⟨Ao25, co25, eo25⟩ := Kd.R_slice HO_8.out
                            subst eo25
                            have p374 : 0 ≤ (x9_3 : Int) := of_decide_eq_true (by first | (with_reducible assumption) | assumption)
                            have q374 : x9_3 < (t371.length : Int) := of_decide_eq_true (by first | (with_reducible assumption) | assumption)
                            obtain ⟨ad374, e374, hx374_0⟩ := Kd.at_string (Kd.R_reads' HO_8.out).2.2 x9_3 p374 q374
                            cases e374
                            replace p374 := eq_true p374
                            replace q374 := eq_true q374
                            obtain ⟨Ao26, co26, eo26⟩ := Kd.R_slice HO_5.out
                            subst eo26
                            go_wp2_with (first | ((with_reducible refine gate_callee (f := 41) rfl ?_); refine goesL_ (some 53) rfl rfl Try.func41 (by kernel_rfl) rfl #[.slice Ao26 x5_3.length co26, .string (rdOf ByteArray.empty t371 x9_3)] rfl (by (try simp only [List.map_toArray, List.map_cons, List.map_nil]); first | done | rfl | (simp only [List.length_drop, List.length_take]; rfl)) ?_; (with_reducible refine (brickyardref19_has.calls k3 _ _ x5_3 (rdOf ByteArray.empty t371 x9_3) false _ ?side1 ?side2 A20.out).mono ?_); (case side1 => repeat (first | exact (Kd.R_reads' HO_5.out).2.2 | (with_reducible refine Kd.C_alloc ?_ _) | (with_reducible refine Kd.C_drewN ?_ _) | (with_reducible refine Kd.C_drew ?_))); (case side2 => exact (Kd.R_reads' HO_5.out).2.1); rintro e w' ⟨rfl, ⟨nd, rfl⟩⟩; refine ⟨_, rfl, ?_⟩; have p376 : 0 ≤ (x9_3 : Int) := of_decide_eq_true (by first | (with_reducible assumption) | assumption); have q376 : x9_3 < (t371.length : Int) := of_decide_eq_true (by first | (with_reducible assumption) | assumption); obtain ⟨ad376, e376, hx376_0⟩ := Kd.at_string (Kd.R_reads' HO_8.out).2.2 x9_3 p376 q376; obtain rfl : ad374 = ad376 := (by injection e376); replace p376 := eq_true p376; replace q376 := eq_true q376) | ((with_reducible refine gate_builtin (b := .append) (xs := #[.tmp 55, .tmp 60]) rfl ?_); at_builtin; refine Kd.R_append Kd.string (w0 := w) w.heap.size rfl (.tmp 55) (.tmp 60) 23 9 (.string ⟨#[]⟩) 16 rfl Try.underlying23 info9 rfl (by decide) (by omega) (.slice Ao26 x5_3.length co26) x5_3 (rdOf ByteArray.empty t371 x9_3) [.string (rdOf ByteArray.empty t371 x9_3)] (fun k_ => some k_ ≠ (.slice (some ad374) t371.length co25 : Value).ownBlock) (fun _ => False) rfl rfl ?aP (fun _ hk => hk.elim) ?aF ?aO ?aB ?aS ?aL ?_; (case aP => exact rfl); (case aB => exact (by repeat (first | (with_reducible first | exact HB.out | apply below_alloc | apply pw_below_drewN | apply below_drew1 | refine below_set ?_ GE360.out) | exact HB.out))); (case aF => exact (fun k_ hk => Kd.fresh' (Kd.R_lt (by (with_reducible repeat (first | apply Kd.R_alloc | apply Kd.R_drewN | apply Kd.R_drew)); exact HO_8.out)) k_ hk)); (case aO => exact (by (with_reducible repeat (first | apply Kd.R_alloc | apply Kd.R_drewN | apply Kd.R_drew)); exact HO_5.out)); (case aS => exact (below_size (by repeat (first | (with_reducible first | exact HB.out | apply below_alloc | apply pw_below_drewN | apply below_drew1 | refine below_set ?_ GE360.out) | exact HB.out)))); (case aL => have := LMc24.out; omega); intro v378 w27 ho hb hg hat; rw [← Ny377.out] at ho; have n0_ := Aside0.mk (Kd.R_after (ok := (fun _ => True)) (by (with_reducible repeat (first | apply Kd.R_alloc | apply Kd.R_drewN | apply Kd.R_drew)); exact Kd.R_mono HO_8.out (fun _ hk => ⟨trivial, hk⟩)) hg hat); have n1_ := Aside0.mk (blk_grown (g := gb360) (o := .cells #[.slice A0_0 l0_0.length c0_0, .slice A0_1 l0_1.length c0_1] 29 (0, 0)) (by (with_reducible repeat (first | refine blk_drewN ?_ _ | refine blk_drew ?_ | refine blk_alloc ?_ _)); exact BK360.out) hg (Kd.R_ne HO_5.out BK360.out (by decide))); have n2_ := Aside0.mk (hb); have n3_ := Aside0.mk (ho); clear HO_8; clear BK360; clear HB; clear HO_5; have HO_8 := n0_; have BK360 := n1_; have HB := n2_; have HO379 := n3_; clear n0_ n1_ n2_ n3_; clear ho hb hg hat))
                            go_roundg k3
                            case measure => have := HK1.out; have := HK2.out; have := HK3.out; omega
                            case rel => exact ⟨(y377), (wrap64 (x9_3 + 1)), (by first | rfl | (simp; done) | (simp [*]; done)), H', ⟨by have := HK1.out; have := HK2.out; have := HK3.out; omega⟩, ⟨by (with_reducible repeat (first | apply Kd.R_alloc | apply Kd.R_drewN | apply Kd.R_drew)); exact HO379.out⟩, ⟨by (with_reducible repeat (first | apply Kd.R_alloc | apply Kd.R_drewN | apply Kd.R_drew)); exact Kd.R_mono HO_8.out (fun _ hk => hk.2)⟩, ⟨by (with_reducible repeat (first | refine blk_drewN ?_ _ | refine blk_drew ?_ | refine blk_alloc ?_ _)); exact BK360.out⟩, ⟨by repeat (first | (with_reducible first | exact HB.out | apply below_alloc | apply pw_below_drewN | apply below_drew1 | refine below_set ?_ GE360.out) | exact HB.out)⟩⟩
                          · rw [if_neg c24] at H
                            exact absurd H (by simp)
                      · rw [if_neg c19] at H
                        exact absurd H (by simp)
                    · rw [if_neg c18] at H
                      have c18b0 : decide (x9_3 < (t371.length : Int)) = false := decide_eq_false c18
                      clear c18
                      have H' := Aside0.mk H
                      clear H
                      obtain ⟨Ao28, co28, eo28⟩ := Kd.R_slice HO_8.out
                      subst eo28
                      go_wp2
                      go_roundg k3
                      case measure => have := HK1.out; have := HK2.out; have := HK3.out; omega
                      case rel => exact ⟨(x5_3), (wrap64 (x7_2 + 1)), (by first | rfl | (simp; done) | (simp [*]; done)), H', ⟨by have := HK1.out; have := HK2.out; have := HK3.out; omega⟩, ⟨by (with_reducible repeat (first | apply Kd.R_alloc | apply Kd.R_drewN | apply Kd.R_drew)); exact Kd.R_mono HO_5.out (fun _ hk => trivial)⟩, ⟨by (with_reducible repeat (first | refine blk_drewN ?_ _ | refine blk_drew ?_ | refine blk_alloc ?_ _)); exact BK360.out⟩, ⟨by repeat (first | (with_reducible first | exact HB.out | apply below_alloc | apply pw_below_drewN | apply below_drew1 | refine below_set ?_ GE360.out) | exact HB.out)⟩⟩
              · rw [if_neg c13] at H
                exact absurd H (by simp)
            · rw [if_neg c12] at H
              have c12b0 : decide (x7_2 < (x5_2.length : Int)) = false := decide_eq_false c12
              clear c12
              replace H := Option.bind_eq_some_iff.mp H
              obtain ⟨t367, A290, H⟩ := H
              replace H : (some t367) = some r := H
              have A29 := Aside0.mk A290
              clear A290
              obtain rfl := Option.some.inj H
              obtain ⟨Ao30, co30, eo30⟩ := Kd.R_slice HO_5.out
              subst eo30
              go_wp2_with (first | ((with_reducible refine gate_callee (f := 39) rfl ?_); refine goesL_ (some 63) rfl rfl Try.func39 (by kernel_rfl) rfl #[.slice Ao30 x5_2.length co30] rfl (by (try simp only [List.map_toArray, List.map_cons, List.map_nil]); first | done | rfl | (simp only [List.length_drop, List.length_take]; rfl)) ?_; (with_reducible refine (brickyardref19_Sorted.calls k2 _ _ x5_2 t367 _ ?side1 ?side2 A29.out).mono ?_); (case side1 => repeat (first | exact (Kd.R_reads' HO_5.out).2.2 | (with_reducible refine Kd.C_alloc ?_ _) | (with_reducible refine Kd.C_drewN ?_ _) | (with_reducible refine Kd.C_drew ?_))); (case side2 => exact (Kd.R_reads' HO_5.out).2.1); rintro e w31 ⟨v368, rfl, ho0, hb⟩; refine ⟨_, rfl, ?_⟩; have n0_ := Aside0.mk (Kd.R_elder' (by (with_reducible repeat (first | apply Kd.R_alloc | apply Kd.R_drewN | apply Kd.R_drew)); exact HO_5.out) (Kd.R_base ho0) hb); have n1_ := Aside0.mk (Kd.R_lower (Kd.R_new' ho0 (Kd.R_lt (by (with_reducible repeat (first | apply Kd.R_alloc | apply Kd.R_drewN | apply Kd.R_drew)); exact HO_5.out))) (below_size (by repeat (first | (with_reducible first | exact HB.out | apply below_alloc | apply pw_below_drewN | apply below_drew1 | refine below_set ?_ GE360.out) | exact HB.out)))); have n2_ := Aside0.mk (blk_below (g := gb360) (o := .cells #[.slice A0_0 l0_0.length c0_0, .slice A0_1 l0_1.length c0_1] 29 (0, 0)) (by (with_reducible repeat (first | refine blk_drewN ?_ _ | refine blk_drew ?_ | refine blk_alloc ?_ _)); exact BK360.out) hb); have n3_ := Aside0.mk (below_step (by repeat (first | (with_reducible first | exact HB.out | apply below_alloc | apply pw_below_drewN | apply below_drew1 | refine below_set ?_ GE360.out) | exact HB.out)) hb); clear HO_5; clear BK360; clear HB; have HO_5 := n0_; have HO369 := n1_; have BK360 := n2_; have HB := n3_; clear n0_ n1_ n2_ n3_; (try clear hb); (try clear hb2); (try clear hk); (try clear hi); (try clear ho0)))
              go_ret
              exact ⟨_, by first | rfl | (simp [errW_none, errW_some] <;> rfl) | (simp [*, errW_none, errW_some] <;> rfl), by (with_reducible repeat (first | apply Kd.R_alloc | apply Kd.R_drewN | apply Kd.R_drew)); exact Kd.R_mono HO369.out (fun _ hk => trivial), by repeat (first | (with_reducible first | exact HB.out | apply below_alloc | apply pw_below_drewN | apply below_drew1 | refine below_set ?_ GE360.out) | exact HB.out)⟩
end Go.Proofs.Ytlccejbomgknkaa.PGraphFinds
namespace Go.Proofs.Ytlccejbomgknkaa
set_option linter.unusedVariables false
set_option linter.unusedSimpArgs false
set_option linter.unusedSectionVars false
open Go.RowKit Go.Maps Go.Proofs.YtlccejbomgknkaaW.PrintWords Go.Proofs.YtlccejbomgknkaaW.PrintLast
open PGraphFinds
structure BelowAt (gn asked : List ByteArray) (E : Rel) (o0 nw : List ByteArray) (i : Nat) (P : ByteArray → Prop) : Prop where
  l0 : o0.length ≤ asked.length
  nd : nw.Nodup
  ng : ∀ z ∈ nw, z ∈ gn
  sound : ∀ z ∈ o0 ++ nw, ∃ a ∈ asked, a ∈ gn ∧ Reach E a z
  all : ∀ a ∈ asked, a ∈ gn → a ∈ o0 ++ nw
  closed : ∀ j z, j < i → (o0 ++ nw)[j]? = some z → ∀ y, E z y → y ∈ o0 ++ nw
  part : ∀ y, P y → y ∈ o0 ++ nw
section
variable {gn asked : List ByteArray} {l : List S45} (hb : l.length ≤ 1000) (hg : gn.length ≤ 100000) (ha : asked.length ≤ 100000) (hE : ∀ x y, edg l x y → x ∈ gn ∧ y ∈ gn)
include hb hg ha hE
theorem BelowAt.len {o0 nw : List ByteArray} {i : Nat} {P : ByteArray → Prop} (h : BelowAt gn asked (edg l) o0 nw i P) : (o0 ++ nw).length ≤ asked.length + gn.length := by
  have h1 := nodup_len h.nd h.ng
  have h2 := h.l0
  rw [List.length_append]
  omega
end
end Go.Proofs.Ytlccejbomgknkaa
namespace Go.Proofs.Ytlccejbomgknkaa
set_option linter.unusedVariables false
set_option linter.unusedSimpArgs false
open Go.RowKit Go.Maps Go.Proofs.YtlccejbomgknkaaW.PrintWords Go.Proofs.YtlccejbomgknkaaW.PrintLast
open Go.ChangeShapes Go.WideShapes
theorem pairs_of {w : World} {a : Addr} {n : Nat} (hn : n ≤ 9223372036854775807) (h : ∀ i, i < n → ∃ s t : ByteArray, w.cell? (a.add (i * 2)) = some (.string s) ∧ w.cell? (a.add (i * 2 + 1)) = some (.string t) ∧ s.size ≤ maxLen ∧ t.size ≤ maxLen) :
    ∃ l : List (ByteArray × ByteArray), n = l.length ∧ Kd.C kE w (some a) l.length l ∧ ∀ e ∈ l, e.1.size ≤ maxLen ∧ e.2.size ≤ maxLen := by
  have h' : ∀ i, ∃ p : ByteArray × ByteArray, i < n → w.cell? (a.add (i * 2)) = some (.string p.1) ∧ w.cell? (a.add (i * 2 + 1)) = some (.string p.2) ∧ p.1.size ≤ maxLen ∧ p.2.size ≤ maxLen := by
    intro i
    by_cases hi : i < n
    · obtain ⟨s, t, h1⟩ := h i hi
      exact ⟨(s, t), fun _ => h1⟩
    · exact ⟨(ByteArray.empty, ByteArray.empty), fun h => absurd h hi⟩
  obtain ⟨F, hF⟩ := Classical.axiomOfChoice h'
  have hlen : ((List.range n).map F).length = n := by simp
  refine ⟨(List.range n).map F, hlen.symm, ⟨rfl, by rw [hlen]; exact hn, fun _ => ⟨a, rfl, fun j p hj => ?_⟩⟩, fun e he => ?_⟩
  · rw [List.getElem?_map] at hj
    obtain ⟨j', hj', rfl⟩ := Option.map_eq_some_iff.1 hj
    have hjn : j < n := by have := (List.getElem?_eq_some_iff.1 hj').1; simpa using this
    rw [List.getElem?_range hjn] at hj'
    injection hj' with hj'
    subst hj'
    obtain ⟨c1, c2, _, _⟩ := hF j hjn
    refine ⟨[.string (F j).1, .string (F j).2], rfl, ⟨[.string (F j).1], [.string (F j).2], rfl, rfl, rfl⟩, fun i u hu => ?_⟩
    match i, hu with
    | 0, hu => injection hu with hu; rw [← hu]; exact c1
    | 1, hu => injection hu with hu; rw [← hu]; exact c2
  · obtain ⟨j, hj, rfl⟩ := List.mem_map.1 he
    exact (hF j (List.mem_range.1 hj)).2.2
theorem texts_of {w : World} {a : Addr} {n : Nat} {ss : List ByteArray} (hn : n ≤ 9223372036854775807) (hl : n ≤ ss.length) (hc : ∀ i, i < ss.length → w.cell? (a.add i) = some (.string (ss.getD i ByteArray.empty))) (hs : ∀ s ∈ ss, s.size ≤ maxLen) :
    ∃ l : List ByteArray, n = l.length ∧ Kd.C Kd.string w (some a) l.length l ∧ ∀ x ∈ l, x.size ≤ maxLen := by
  have hlen : (ss.take n).length = n := by rw [List.length_take]; omega
  refine ⟨ss.take n, hlen.symm, ⟨rfl, by rw [hlen]; exact hn, fun _ => ⟨a, rfl, fun j p hj => ?_⟩⟩, fun x hx => hs x (List.mem_of_mem_take hx)⟩
  rw [List.getElem?_take] at hj
  split at hj
  · have hjl := (List.getElem?_eq_some_iff.1 hj).1
    refine ⟨[.string p], rfl, rfl, fun i u hu => ?_⟩
    have hi0 : i = 0 := by have := (List.getElem?_eq_some_iff.1 hu).1; simpa using this
    subst hi0
    simp only [List.getElem?_cons_zero, Option.some.injEq] at hu
    subst hu
    have := hc j hjl
    rw [List.getD_eq_getElem?_getD, hj] at this
    simpa [show Kd.string.sz = 1 from rfl] using this
  · cases hj
section
variable {H : Type} {enc : TypeId × Value → H} {W : World} {A : Option Addr} {n c : Nat} {d : DataW H} {p : List MemPlace}
theorem edges_in (h : DataW.Trod enc Try.prog W 0 (fun _ => true) true 22 (.slice A n c) d p) : ∃ l : List (ByteArray × ByteArray), n = l.length ∧ Kd.C kE W A l.length l ∧ ∀ e ∈ l, e.1.size ≤ maxLen ∧ e.2.size ≤ maxLen := by
  obtain ⟨fuel, hf⟩ := h
  rcases Go.Deep.open_slice_pairs Try.underlying22 Try.underlying45 (by kernel_rfl) rfl rfl (by kernel_rfl) (by kernel_rfl) hf with ⟨hcs, _⟩ | ⟨x, l, k, m, q, V0, V1, D0, D1, P0, P1, hcs, _, hl, hm, hmm, _, hx⟩
  · simp [Value.cells] at hcs
    obtain ⟨rfl, rfl, rfl⟩ := hcs
    exact ⟨[], rfl, kE_empty _ _, by simp⟩
  · simp [Value.cells] at hcs
    obtain ⟨rfl, rfl, rfl⟩ := hcs
    simp only [if_true] at hmm
    refine pairs_of (by unfold maxLen at hm; omega) fun i hi => ?_
    obtain ⟨h1, h2, h3, h4⟩ := hx i (by omega)
    obtain ⟨s, e1, _, s1⟩ := DataW.trod_string Try.underlying9 h3
    obtain ⟨t, e2, _, s2⟩ := DataW.trod_string Try.underlying9 h4
    injection e1 with e1
    injection e2 with e2
    exact ⟨s, t, by rw [h1, e1], by rw [h2, e2], s1, s2⟩
end
end Go.Proofs.Ytlccejbomgknkaa
namespace Go.Proofs.Ytlccejbomgknkaa
set_option linter.unusedVariables false
set_option linter.unusedSimpArgs false
open Go.RowKit Go.Maps Go.Proofs.YtlccejbomgknkaaW.PrintWords Go.Proofs.YtlccejbomgknkaaW.PrintLast
open Go.ChangeShapes Go.WideShapes
section
variable {H : Type} {enc : TypeId × Value → H} {W : World} {A : Option Addr} {n c : Nat} {d : DataW H} {p : List MemPlace}
theorem texts_in2 (h : DataW.Trod enc Try.prog W 0 (fun _ => true) true 23 (.slice A n c) d p) : ∃ l : List ByteArray, n = l.length ∧ (Kd.C Kd.string W A l.length l ∧ l.length ≤ c ∧ (A = none → c = 0)) ∧ ∀ x ∈ l, x.size ≤ maxLen := by
  obtain ⟨fuel, hf⟩ := h
  rcases open_strings Try.underlying23 Try.underlying9 (by kernel_rfl) hf with ⟨hcs, _⟩ | ⟨x, l, k, ss, hcs, _, hl, hm, hz, _, hcell, hsz⟩
  · simp [Value.cells] at hcs
    obtain ⟨rfl, rfl, rfl⟩ := hcs
    exact ⟨[], rfl, ⟨C_empty _ _, by simp, fun _ => rfl⟩, by simp⟩
  · simp [Value.cells] at hcs
    obtain ⟨rfl, rfl, rfl⟩ := hcs
    simp only [if_true] at hz
    obtain ⟨l', e, hC, hS⟩ := texts_of (n := n) (by unfold maxLen at hm; omega) (by omega) hcell hsz
    exact ⟨l', e, ⟨hC, by omega, fun h => by cases h⟩, hS⟩
end
def toS (p : Pr) : PGraphFinds.S45 := ⟨p.1, p.2⟩
theorem C_to_k45 {w : World} {A : Option Addr} {n : Nat} {xs : List Pr} (h : Kd.C kE w A n xs) : Kd.C PGraphFinds.k45 w A n (xs.map toS) := by
  obtain ⟨h1, h2, h3⟩ := h
  refine ⟨by rw [List.length_map]; exact h1, h2, fun hn => ?_⟩
  obtain ⟨ad, hA, hc⟩ := h3 hn
  refine ⟨ad, hA, fun j p hj => ?_⟩
  rw [List.getElem?_map] at hj
  obtain ⟨x, hx, rfl⟩ := Option.map_eq_some_iff.1 hj
  exact hc j x hx
theorem edg_toS (xs : List Pr) : edg (xs.map toS) = fun x y => (x, y) ∈ xs := by
  funext x y
  unfold edg
  refine propext ⟨?_, fun h => ⟨toS (x, y), List.mem_map.2 ⟨_, h, rfl⟩, rfl, rfl⟩⟩
  rintro ⟨e, he, rfl, rfl⟩
  obtain ⟨p, hp, rfl⟩ := List.mem_map.1 he
  exact hp
structure RefAt (w : World) (An : Option Addr) (cn : Nat) (rn : List ByteArray) (Ae : Option Addr) (ce : Nat) (re : List Pr) : Prop where
  n : Kd.C Kd.string w An rn.length rn
  nc : rn.length ≤ cn
  nn : An = none → cn = 0
  e : Kd.C kE w Ae re.length re
  ec : re.length ≤ ce
  ln : rn.length ≤ 1000
  le : re.length ≤ 1000
  inN : ∀ x y, (x, y) ∈ re → x ∈ rn ∧ y ∈ rn
section
variable {w w' : World} {An Ae : Option Addr} {cn ce : Nat} {rn : List ByteArray} {re : List Pr}
theorem RefAt.below (h : RefAt w An cn rn Ae ce re) (hb : Below w.heap.size w w') : RefAt w' An cn rn Ae ce re :=
  ⟨Kd.C_below h.n hb, h.nc, h.nn, Kd.C_below h.e hb, h.ec, h.ln, h.le, h.inN⟩
theorem RefAt.inE (h : RefAt w An cn rn Ae ce re) : ∀ x y, edg (re.map toS) x y → x ∈ rn ∧ y ∈ rn := by
  rw [edg_toS]; exact h.inN
abbrev memb (re : List Pr) : Rel := fun x y => (x, y) ∈ re
theorem refOut_any (h : RefAt w An cn rn Ae ce re) (a : ByteArray) :
    Calls Try.prog 28 #[.agg #[.slice An rn.length cn, .slice Ae re.length ce], .string a] w fun e w' => ∃ (A : Option Addr) (c : Nat) (r : List ByteArray), e = .returned (.slice A r.length c) ∧ Rise r ∧ (∀ z, z ∈ r ↔ (a, z) ∈ re) ∧ Kd.C Kd.string w' A r.length r ∧ Below w.heap.size w w' := by
  have hll : (re.map toS).length = re.length := List.length_map _
  obtain ⟨r, ⟨k, hk⟩, hw1, hw2⟩ := out_ev rn (l := re.map toS) (by rw [hll]; have := h.le; omega) a
  have hc := PGraphFinds.brickyardref19_Out.calls k An cn rn Ae ce (re.map toS) a r w h.n h.nc (by rw [hll]; exact C_to_k45 h.e) (by rw [hll]; exact h.ec) (hk k (Nat.le_refl _))
  rw [hll] at hc
  rw [edg_toS] at hw2
  refine hc.mono ?_
  rintro e w' ⟨v, rfl, hR, hb⟩
  obtain ⟨A, c, rfl⟩ := Kd.R_slice hR
  exact ⟨A, c, r, rfl, hw1, hw2, (Kd.R_reads' hR).2.2, hb⟩
end
theorem OfIs.ref {w w' : World} {l : List Pr} {names : List ByteArray} {e : Ending} (h : OfIs w l names e w') (h1 : l.length ≤ 300) (h2 : names.length ≤ 300) :
    ∃ (An : Option Addr) (cn : Nat) (rn : List ByteArray) (Ae : Option Addr) (ce : Nat) (re : List Pr), e = .returned (.agg #[.slice An rn.length cn, .slice Ae re.length ce]) ∧ RefAt w' An cn rn Ae ce re ∧ Rise rn ∧ (∀ z, z ∈ rn ↔ z ∈ names ∨ ∃ e ∈ l, e.1 = z ∨ e.2 = z) ∧ RiseP re ∧ (∀ p, p ∈ re ↔ p ∈ l) ∧ Below w.heap.size w w' := by
  obtain ⟨An, cn, rn, Ae, ce, re, rfl, hR, hE, g1, g2, g3, g4, hb⟩ := h
  have hle : re.length ≤ l.length := nodup_lenP (riseP_nodup g3) (fun p hp => (g4 p).1 hp)
  have hln : rn.length ≤ (names ++ flatN l).length := nodup_len (rise_nodup g1) (fun z hz => by
    rw [List.mem_append, flatN_mem]
    exact (g2 z).1 hz)
  rw [List.length_append, flatN_len] at hln
  refine ⟨An, cn, rn, Ae, ce, re, rfl, ⟨(Kd.R_reads' hR).2.2, (Kd.R_reads' hR).2.1, R_none hR, hE.reads (by omega), hE.cap, by omega, by omega, fun x y h => ?_⟩, g1, g2, g3, g4, hb⟩
  exact ⟨(g2 x).2 (.inr ⟨(x, y), (g4 _).1 h, .inl rfl⟩), (g2 y).2 (.inr ⟨(x, y), (g4 _).1 h, .inr rfl⟩)⟩
theorem gw_one {E : Rel} {b : ByteArray} : ∀ (d : Nat) {x : ByteArray} {p q : List ByteArray}, GW E b d x p → GW E b d x q → p = q := by
  intro d
  induction d with
  | zero => intro x p q h1 h2; rw [show p = [x] from h1, show q = [x] from h2]
  | succ d ih =>
    rintro x p q ⟨y, q1, rfl, hg, hE, hD, hm⟩ ⟨y2, q2, rfl, hg2, hE2, hD2, hm2⟩
    have e : y2 = y := by
      rcases hm y2 hE2 hD2 with e | h
      · exact e
      · rcases hm2 y hE hD with e | h'
        · exact e.symm
        · exact absurd (List.lt_trans h h') (List.lt_irrefl _)
    subst e
    rw [ih hg hg2]
end Go.Proofs.Ytlccejbomgknkaa
namespace Go.Proofs.Ytlccejbomgknkaa
set_option linter.unusedVariables false
set_option linter.unusedSimpArgs false
open Go.RowKit Go.Maps Go.Proofs.YtlccejbomgknkaaW.PrintWords Go.Proofs.YtlccejbomgknkaaW.PrintLast Go.Proofs.YtlccejbomgknkaaW.PrintMore
structure Both (w w2 : World) (g : Nat) (N : List ByteArray) (l : List Pr) (An : Option Addr) (cn : Nat) (rn : List ByteArray) (Ae : Option Addr) (ce : Nat) (re : List Pr) : Prop where
  gr : GraphAt w2 w.heap.size g N (memb l)
  nl : N.length ≤ 1000000
  bl : Below w.heap.size w w2
  rf : RefAt w2 An cn rn Ae ce re
  rise : Rise rn
  riseE : RiseP re
  eN : ∀ z, z ∈ rn ↔ z ∈ N
  eE : ∀ p, p ∈ re ↔ p ∈ l
  le : re.length ≤ 300
  ln : rn.length ≤ 300
theorem Both.below {w w2 w3 : World} {g : Nat} {N : List ByteArray} {l : List Pr} {An : Option Addr} {cn : Nat} {rn : List ByteArray} {Ae : Option Addr} {ce : Nat} {re : List Pr} (h : Both w w2 g N l An cn rn Ae ce re) (hb : Below w2.heap.size w2 w3) : Both w w3 g N l An cn rn Ae ce re :=
  { h with gr := h.gr.below hb, bl := h.bl.trans (hb.mono h.bl.size), rf := h.rf.below hb }
theorem Both.same {w w2 : World} {g : Nat} {N : List ByteArray} {l : List Pr} {An : Option Addr} {cn : Nat} {rn : List ByteArray} {Ae : Option Addr} {ce : Nat} {re : List Pr} (h : Both w w2 g N l An cn rn Ae ce re) : memb re = memb l := by
  funext x y
  exact propext (h.eE (x, y))
theorem both_of {w w2 w3 : World} {g : Nat} {N : List ByteArray} {l : List Pr} {names : List ByteArray} {e : Ending} (hG : GraphAt w2 w.heap.size g N (fun x y => (x, y) ∈ l)) (hN : ∀ z, z ∈ N ↔ z ∈ names ∨ ∃ e ∈ l, e.1 = z ∨ e.2 = z) (hln : N.length ≤ 1000000) (hb : Below w.heap.size w w2) (h1 : l.length ≤ 40) (h2 : names.length ≤ 20) (ho : OfIs w2 l names e w3) :
    ∃ (An : Option Addr) (cn : Nat) (rn : List ByteArray) (Ae : Option Addr) (ce : Nat) (re : List Pr), e = .returned (.agg #[.slice An rn.length cn, .slice Ae re.length ce]) ∧ Both w w3 g N l An cn rn Ae ce re := by
  obtain ⟨An, cn, rn, Ae, ce, re, rfl, hA, g1, g2, g3, g4, hb3⟩ := ho.ref (by omega) (by omega)
  have hle : re.length ≤ l.length := nodup_lenP (riseP_nodup g3) (fun p hp => (g4 p).1 hp)
  have hln : rn.length ≤ (names ++ flatN l).length := nodup_len (rise_nodup g1) (fun z hz => by
    rw [List.mem_append, flatN_mem]
    exact (g2 z).1 hz)
  rw [List.length_append, flatN_len] at hln
  exact ⟨An, cn, rn, Ae, ce, re, rfl, hG.below hb3, by assumption, hb.trans (hb3.mono hb.size), hA, g1, g3, fun z => by rw [g2 z, hN z], g4, by omega, by omega⟩
structure FS (w wr : World) (b12 g : Nat) (N : List ByteArray) (l : List Pr) (An : Option Addr) (cn : Nat) (rn : List ByteArray) (Ae : Option Addr) (ce : Nat) (re : List Pr) : Prop where
  both : Both w wr g N l An cn rn Ae ce re
  blk : wr.heap[b12]? = some (.cells #[.slice An rn.length cn, .slice Ae re.length ce] 29 (0, 0))
section
variable {w wr w' : World} {b12 g : Nat} {N : List ByteArray} {l : List Pr} {An : Option Addr} {cn : Nat} {rn : List ByteArray} {Ae : Option Addr} {ce : Nat} {re : List Pr}
theorem FS.below (h : FS w wr b12 g N l An cn rn Ae ce re) (hb : Below wr.heap.size wr w') : FS w w' b12 g N l An cn rn Ae ce re :=
  ⟨h.both.below hb, (hb.block _ (Array.getElem?_eq_some_iff.1 h.blk).1).trans h.blk⟩
theorem FS.cells (h : FS w wr b12 g N l An cn rn Ae ce re) : wr.cell? ⟨b12, 0, none⟩ = some (.slice An rn.length cn) ∧ wr.cell? ⟨b12, 1, none⟩ = some (.slice Ae re.length ce) := by
  constructor <;> simp [World.cell?, h.blk]
theorem FS.way (h : FS w wr b12 g N l An cn rn Ae ce re) (x y : ByteArray) :
    Calls Try.prog 12 #[.pointer (some ⟨g, 0, none⟩), .string x, .string y] wr fun e w' => ∃ (A : Option Addr) (c : Nat) (p : List ByteArray) (ok : Bool), e = .returned (.tuple #[.slice A p.length c, .bool ok]) ∧ ((ok = true ∧ ∃ d, x ∈ N ∧ y ∈ N ∧ Dist (memb l) x y d ∧ GW (memb l) y d x p) ∨ (ok = false ∧ p = [] ∧ ¬ (x ∈ N ∧ y ∈ N ∧ Reach (memb l) x y))) ∧ Kd.C Kd.string w' A p.length p ∧ FS w w' b12 g N l An cn rn Ae ce re := by
  refine (Way_any h.both.gr h.both.nl x y).mono ?_
  rintro e w' ⟨hb, ⟨A, c, p, d, rfl, hx, hy, hd, hg, ho⟩ | ⟨rfl, hno⟩⟩
  · exact ⟨A, c, p, true, rfl, .inl ⟨rfl, d, hx, hy, hd, hg⟩, ho.reads, h.below hb⟩
  · exact ⟨none, 0, [], false, rfl, .inr ⟨rfl, rfl, hno⟩, C_empty _ _, h.below hb⟩
end
end Go.Proofs.Ytlccejbomgknkaa
namespace Go.Proofs.Ytlccejbomgknkaa.PGraphFinds
open Go.RowKit Go.Proofs.YtlccejbomgknkaaW.PrintWords Go.Proofs.YtlccejbomgknkaaW.PrintLast Go.Proofs.YtlccejbomgknkaaW.PrintMore
set_option linter.unusedVariables false
set_option linter.unusedSimpArgs false
mutual
def brickyardref19_Order.l0 : Nat → List ByteArray → List ByteArray → List (S45) → Option (List ByteArray × Bool)
  | 0, _, _, _ => none
  | k + 1, x4, x319000, x319001 => if (x4.length : Int) < (x319000.length : Int) then (brickyardref19_Order.l1 k x4 false 0 x319000 x319001) else (some (x4, true))
def brickyardref19_Order.l1 : Nat → List ByteArray → Bool → Int → List ByteArray → List (S45) → Option (List ByteArray × Bool)
  | 0, _, _, _, _, _ => none
  | k + 1, x4, x5, x6, x319000, x319001 => if x6 < (x319000.length : Int) then (brickyardref19_Order.j2 k x4 x5 x6 (!x5) x319000 x319001) else (brickyardref19_Order.j2 k x4 x5 x6 false x319000 x319001)
def brickyardref19_Order.j2 : Nat → List ByteArray → Bool → Int → Bool → List ByteArray → List (S45) → Option (List ByteArray × Bool)
  | 0, _, _, _, _, _, _ => none
  | k + 1, x4, x5, x6, x24, x319000, x319001 => if x24 = true then (if 0 ≤ x6 then (if x6 < (x319000.length : Int) then ((brickyardref19_has.f k x4 (rdOf ByteArray.empty x319000 x6)).bind fun t320 => (if t320 = true then (brickyardref19_Order.l1 k x4 x5 (wrap64 (x6 + 1)) x319000 x319001) else ((brickyardref19_Out.f k x319000 x319001 (rdOf ByteArray.empty x319000 x6)).bind fun t322 => (brickyardref19_Order.l2 k x4 x5 x6 true t322 0 x319000 x319001)))) else (none)) else (none)) else (if x5 = true then (brickyardref19_Order.l0 k x4 x319000 x319001) else (some (([] : List ByteArray), false)))
def brickyardref19_Order.l2 : Nat → List ByteArray → Bool → Int → Bool → List ByteArray → Int → List ByteArray → List (S45) → Option (List ByteArray × Bool)
  | 0, _, _, _, _, _, _, _, _ => none
  | k + 1, x4, x5, x6, x7, x8, x9, x319000, x319001 => if x9 < (x8.length : Int) then (if x7 = true then (if 0 ≤ x9 then ((brickyardref19_has.f k x4 (rdOf ByteArray.empty x8 x9)).bind fun t326 => (brickyardref19_Order.l2 k x4 x5 x6 t326 x8 (wrap64 (x9 + 1)) x319000 x319001)) else (none)) else (brickyardref19_Order.l2 k x4 x5 x6 false x8 (wrap64 (x9 + 1)) x319000 x319001)) else (if x7 = true then (if 0 ≤ x6 then (if x6 < (x319000.length : Int) then (if x4.length < 8796093022208 then (brickyardref19_Order.l1 k (x4 ++ [rdOf ByteArray.empty x319000 x6]) true (wrap64 (x6 + 1)) x319000 x319001) else (none)) else (none)) else (none)) else (brickyardref19_Order.l1 k x4 x5 (wrap64 (x6 + 1)) x319000 x319001))
end
def brickyardref19_Order.f (k : Nat) (l0_0 : List ByteArray) (l0_1 : List (S45)) : Option (List ByteArray × Bool) := brickyardref19_Order.l0 k ([] : List ByteArray) l0_0 l0_1
theorem brickyardref19_Order.mono_l : ∀ k, (∀ y0 y1 y2, LeO (brickyardref19_Order.l0 k y0 y1 y2) (brickyardref19_Order.l0 (k + 1) y0 y1 y2)) ∧ (∀ y0 y1 y2 y3 y4, LeO (brickyardref19_Order.l1 k y0 y1 y2 y3 y4) (brickyardref19_Order.l1 (k + 1) y0 y1 y2 y3 y4)) ∧ (∀ y0 y1 y2 y3 y4 y5, LeO (brickyardref19_Order.j2 k y0 y1 y2 y3 y4 y5) (brickyardref19_Order.j2 (k + 1) y0 y1 y2 y3 y4 y5)) ∧ (∀ y0 y1 y2 y3 y4 y5 y6 y7, LeO (brickyardref19_Order.l2 k y0 y1 y2 y3 y4 y5 y6 y7) (brickyardref19_Order.l2 (k + 1) y0 y1 y2 y3 y4 y5 y6 y7))
  | 0 => ⟨fun _ _ _ r h => by simp [brickyardref19_Order.l0] at h, fun _ _ _ _ _ r h => by simp [brickyardref19_Order.l1] at h, fun _ _ _ _ _ _ r h => by simp [brickyardref19_Order.j2] at h, fun _ _ _ _ _ _ _ _ r h => by simp [brickyardref19_Order.l2] at h⟩
  | k + 1 => by
    obtain ⟨ih0, ih1, ih2, ih3⟩ := brickyardref19_Order.mono_l k
    refine ⟨?_, ?_, ?_, ?_⟩
    · intro y0 y1 y2
      unfold brickyardref19_Order.l0
      repeat' first
      | (with_reducible exact ih0 _ _ _)
      | (with_reducible exact ih1 _ _ _ _ _)
      | (with_reducible exact ih2 _ _ _ _ _ _)
      | (with_reducible exact ih3 _ _ _ _ _ _ _ _)
      | (with_reducible exact brickyardref19_Out.mono _ _ _ _)
      | (with_reducible exact brickyardref19_has.mono _ _ _)
      | (with_reducible exact LeO.refl _)
      | (with_reducible exact LeO.none _)
      | (with_reducible refine LeO.ite ?_ ?_)
      | (with_reducible refine LeO.bind ?_ (fun _ => ?_))
      | exact ih0 _ _ _
      | exact ih1 _ _ _ _ _
      | exact ih2 _ _ _ _ _ _
      | exact ih3 _ _ _ _ _ _ _ _
      | exact brickyardref19_Out.mono _ _ _ _
      | exact brickyardref19_has.mono _ _ _
      | exact LeO.none _
      | refine LeO.ite ?_ ?_
      | refine LeO.bind ?_ (fun _ => ?_)
    · intro y0 y1 y2 y3 y4
      unfold brickyardref19_Order.l1
      repeat' first
      | (with_reducible exact ih0 _ _ _)
      | (with_reducible exact ih1 _ _ _ _ _)
      | (with_reducible exact ih2 _ _ _ _ _ _)
      | (with_reducible exact ih3 _ _ _ _ _ _ _ _)
      | (with_reducible exact brickyardref19_Out.mono _ _ _ _)
      | (with_reducible exact brickyardref19_has.mono _ _ _)
      | (with_reducible exact LeO.refl _)
      | (with_reducible exact LeO.none _)
      | (with_reducible refine LeO.ite ?_ ?_)
      | (with_reducible refine LeO.bind ?_ (fun _ => ?_))
      | exact ih0 _ _ _
      | exact ih1 _ _ _ _ _
      | exact ih2 _ _ _ _ _ _
      | exact ih3 _ _ _ _ _ _ _ _
      | exact brickyardref19_Out.mono _ _ _ _
      | exact brickyardref19_has.mono _ _ _
      | exact LeO.none _
      | refine LeO.ite ?_ ?_
      | refine LeO.bind ?_ (fun _ => ?_)
    · intro y0 y1 y2 y3 y4 y5
      unfold brickyardref19_Order.j2
      repeat' first
      | (with_reducible exact ih0 _ _ _)
      | (with_reducible exact ih1 _ _ _ _ _)
      | (with_reducible exact ih2 _ _ _ _ _ _)
      | (with_reducible exact ih3 _ _ _ _ _ _ _ _)
      | (with_reducible exact brickyardref19_Out.mono _ _ _ _)
      | (with_reducible exact brickyardref19_has.mono _ _ _)
      | (with_reducible exact LeO.refl _)
      | (with_reducible exact LeO.none _)
      | (with_reducible refine LeO.ite ?_ ?_)
      | (with_reducible refine LeO.bind ?_ (fun _ => ?_))
      | exact ih0 _ _ _
      | exact ih1 _ _ _ _ _
      | exact ih2 _ _ _ _ _ _
      | exact ih3 _ _ _ _ _ _ _ _
      | exact brickyardref19_Out.mono _ _ _ _
      | exact brickyardref19_has.mono _ _ _
      | exact LeO.none _
      | refine LeO.ite ?_ ?_
      | refine LeO.bind ?_ (fun _ => ?_)
    · intro y0 y1 y2 y3 y4 y5 y6 y7
      unfold brickyardref19_Order.l2
      repeat' first
      | (with_reducible exact ih0 _ _ _)
      | (with_reducible exact ih1 _ _ _ _ _)
      | (with_reducible exact ih2 _ _ _ _ _ _)
      | (with_reducible exact ih3 _ _ _ _ _ _ _ _)
      | (with_reducible exact brickyardref19_Out.mono _ _ _ _)
      | (with_reducible exact brickyardref19_has.mono _ _ _)
      | (with_reducible exact LeO.refl _)
      | (with_reducible exact LeO.none _)
      | (with_reducible refine LeO.ite ?_ ?_)
      | (with_reducible refine LeO.bind ?_ (fun _ => ?_))
      | exact ih0 _ _ _
      | exact ih1 _ _ _ _ _
      | exact ih2 _ _ _ _ _ _
      | exact ih3 _ _ _ _ _ _ _ _
      | exact brickyardref19_Out.mono _ _ _ _
      | exact brickyardref19_has.mono _ _ _
      | exact LeO.none _
      | refine LeO.ite ?_ ?_
      | refine LeO.bind ?_ (fun _ => ?_)
theorem brickyardref19_Order.mono : ∀ a0 a1 k, LeO (brickyardref19_Order.f k a0 a1) (brickyardref19_Order.f (k + 1) a0 a1) := by
  intro a0 a1 k
  obtain ⟨ih0, ih1, ih2, ih3⟩ := brickyardref19_Order.mono_l k
  unfold brickyardref19_Order.f
  repeat' first
      | (with_reducible exact ih0 _ _ _)
      | (with_reducible exact ih1 _ _ _ _ _)
      | (with_reducible exact ih2 _ _ _ _ _ _)
      | (with_reducible exact ih3 _ _ _ _ _ _ _ _)
      | (with_reducible exact brickyardref19_Out.mono _ _ _ _)
      | (with_reducible exact brickyardref19_has.mono _ _ _)
      | (with_reducible exact LeO.refl _)
      | (with_reducible exact LeO.none _)
      | (with_reducible refine LeO.ite ?_ ?_)
      | (with_reducible refine LeO.bind ?_ (fun _ => ?_))
      | exact ih0 _ _ _
      | exact ih1 _ _ _ _ _
      | exact ih2 _ _ _ _ _ _
      | exact ih3 _ _ _ _ _ _ _ _
      | exact brickyardref19_Out.mono _ _ _ _
      | exact brickyardref19_has.mono _ _ _
      | exact LeO.none _
      | refine LeO.ite ?_ ?_
      | refine LeO.bind ?_ (fun _ => ?_)
def brickyardref19_Order.T9 : Bool × List (List Nat × List Nat) := (true, [([], []), ([], []), ([1], [1]), ([], []), ([2, 3], [2, 3]), ([4], [4]), ([0, 5], [0, 5]), ([6, 6, 0, 1, 2, 3, 4, 5, 6], [6])])
def brickyardref19_Order.B9 : List Nat := [0, 0, 2, 0, 14, 30, 63, 127]
theorem brickyardref19_Order.tab9 : rtab .any (opsOf Try.f31 9) = brickyardref19_Order.T9 := by kernel_rfl
theorem brickyardref19_Order.bits9 : waitsOk brickyardref19_Order.T9.2 brickyardref19_Order.B9 = true := by kernel_rfl
set_option maxHeartbeats 8000000 in
set_option maxRecDepth 100000 in
theorem brickyardref19_Order.calls (k : Nat) (A0_0 : Option Addr) (c0_0 : Nat) (l0_0 : List ByteArray) (A0_1 : Option Addr) (c0_1 : Nat) (l0_1 : List (S45)) (r1 : List ByteArray) (r2 : Bool) (w : World) (hr0_0 : Kd.C Kd.string w A0_0 l0_0.length l0_0) (hc0_0 : l0_0.length ≤ c0_0) (hr0_1 : Kd.C k45 w A0_1 l0_1.length l0_1) (hc0_1 : l0_1.length ≤ c0_1) (h : brickyardref19_Order.f k l0_0 l0_1 = some (r1, r2)) :
    Calls Try.prog 31 #[.agg #[.slice A0_0 l0_0.length c0_0, .slice A0_1 l0_1.length c0_1]] w fun e w' => ∃ v0_ : Value, e = .returned (.tuple #[v0_, .bool r2]) ∧ Kd.R Kd.string 9 w' w.heap.size (fun _ => True) v0_ r1 ∧ Below w.heap.size w w' := by
  have hu29 := Try.underlying29
  have HR0_0 := Aside0.mk hr0_0
  have HC0_0 := Aside0.mk hc0_0
  clear hr0_0 hc0_0
  have HR0_1 := Aside0.mk hr0_1
  have HC0_1 := Aside0.mk hc0_1
  clear hr0_1 hc0_1
  have HB := Aside0.mk (Below.refl w.heap.size w)
  have H : (brickyardref19_Order.l0 k ([] : List ByteArray) l0_0 l0_1) = some (r1, r2) := h
  clear h
  have H' := Aside0.mk H
  clear H
  go_enter Try.func31, Try.ntmps31
  go_wp2_with (first | ((with_reducible refine gate_dst (N := 1) rfl ?_); refine box_event ?hg (N := 1) ?hd (cs := #[.slice A0_0 l0_0.length c0_0, .slice A0_1 l0_1.length c0_1]) (t := 29) ?hr ?_; (case hd => rfl); (case hg => rfl); (case hr => first | (go_simp; done) | (go_simp; rfl)); intro gb318 hg w2 hbox hb; have n0_ := Aside0.mk (below_step (by repeat (first | (with_reducible first | exact HB.out | apply below_alloc | apply pw_below_drewN | apply below_drew1) | exact HB.out)) hb); have n1_ := Aside0.mk (hbox); have n2_ := Aside0.mk ((by rw [hg]; exact (below_size (by repeat (first | (with_reducible first | exact HB.out | apply below_alloc | apply pw_below_drewN | apply below_drew1) | exact HB.out))) : w.heap.size ≤ gb318)); have n3_ := Aside0.mk ((by rw [hg]; exact (below_size (by repeat (first | (with_reducible first | exact HB.out | apply below_alloc | apply pw_below_drewN | apply below_drew1) | exact HB.out))) : w.heap.size ≤ gb318)); clear HB; have HB := n0_; have BK318 := n1_; have GW318 := n2_; have GE318 := n3_; clear n0_ n1_ n2_ n3_; clear hb hbox hg))
  go_loopg [4] k (fun kq v4 w' => ∃ (x4_1 : List ByteArray), Aside0 (brickyardref19_Order.l0 kq x4_1 l0_0 l0_1 = some (r1, r2)) ∧ Aside0 (kq ≤ k) ∧ Aside0 (Kd.R Kd.string 9 w' w.heap.size (fun _ => True) v4 x4_1) ∧ Aside0 (w'.heap[gb318]? = some (.cells #[(.slice A0_0 l0_0.length c0_0), (.slice A0_1 l0_1.length c0_1)] 29 (0, 0))) ∧ Aside0 (Below w.heap.size w w'))
  case atStart => exact ⟨(([] : List ByteArray)), H', ⟨Nat.le_refl _⟩, ⟨by first | exact Kd.R_nil _ _ _ _ _ | exact Kd.N_nil _ _ _ _ _ | exact Kd.V_nil _ _ _ _ _ | exact Kd.Q_nil _ _ _ _ _ | exact Kd.S_nil _ _ _ _ _⟩, ⟨by (with_reducible repeat (first | refine blk_drewN ?_ _ | refine blk_drew ?_ | refine blk_alloc ?_ _)); exact BK318.out⟩, ⟨by repeat (first | (with_reducible first | exact HB.out | apply below_alloc | apply pw_below_drewN | apply below_drew1 | refine below_set ?_ GE318.out) | exact HB.out)⟩⟩
  case round =>
    clear H'
    try clear p2
    obtain ⟨x4_1, HA, HK1, HO_4, BK318, HB⟩ := hrel
    cases gk with
    | zero => exact absurd HA.out (by simp [brickyardref19_Order.l0])
    | succ k1 =>
      have H := HA.out
      clear HA
      simp only [brickyardref19_Order.l0] at H
      by_cases c3 : (x4_1.length : Int) < (l0_0.length : Int)
      · rw [if_pos c3] at H
        have c3b0 : decide ((x4_1.length : Int) < (l0_0.length : Int)) = true := decide_eq_true c3
        have c3b1 : decide (x4_1.length < l0_0.length) = true := decide_eq_true (Int.ofNat_lt.mp c3)
        clear c3
        have H' := Aside0.mk H
        clear H
        obtain ⟨Ao4, co4, eo4⟩ := Kd.R_slice HO_4.out
        subst eo4
        have hcz5_0 : wr.cell? ⟨gb318, 0, none⟩ = some (.slice A0_0 l0_0.length c0_0) := (blk_cell BK318.out 0).trans rfl
        have hcz5_1 : wr.cell? ⟨gb318, 1, none⟩ = some (.slice A0_1 l0_1.length c0_1) := (blk_cell BK318.out 1).trans rfl
        have hfz5_0 := blk_frozen BK318.out 0
        have hfz5_1 := blk_frozen BK318.out 1
        go_wp2
        go_loopg [4, 5, 6] k1 (fun kq v4 v5 v6 w' => ∃ (x4_2 : List ByteArray) (x5_2 : Bool) (x6_2 : Int), v5 = .bool x5_2 ∧ v6 = .int .i64 x6_2 ∧ Aside0 (brickyardref19_Order.l1 kq x4_2 x5_2 x6_2 l0_0 l0_1 = some (r1, r2)) ∧ Aside0 (kq ≤ k1) ∧ Aside0 (Kd.R Kd.string 9 w' w.heap.size (fun _ => True) v4 x4_2) ∧ Aside0 (w'.heap[gb318]? = some (.cells #[(.slice A0_0 l0_0.length c0_0), (.slice A0_1 l0_1.length c0_1)] 29 (0, 0))) ∧ Aside0 (Below w.heap.size w w'))
        case atStart => exact ⟨(x4_1), (false), (0), (by first | rfl | (simp; done) | (simp [*]; done)), (by first | rfl | (simp; done) | (simp [*]; done)), H', ⟨Nat.le_refl _⟩, ⟨by (with_reducible repeat (first | apply Kd.R_alloc | apply Kd.R_drewN | apply Kd.R_drew)); exact HO_4.out⟩, ⟨by (with_reducible repeat (first | refine blk_drewN ?_ _ | refine blk_drew ?_ | refine blk_alloc ?_ _)); exact BK318.out⟩, ⟨by repeat (first | (with_reducible first | exact HB.out | apply below_alloc | apply pw_below_drewN | apply below_drew1 | refine below_set ?_ GE318.out) | exact HB.out)⟩⟩
        case round =>
          clear H'
          try clear p2
          try clear c3
          try clear c3b0
          try clear c3b1
          try clear hcz5_0
          try clear hcz5_1
          try clear hfz5_0
          try clear hfz5_1
          try clear p2
          obtain ⟨x4_2, x5_2, x6_2, rfl, rfl, HA, HK2, HO_4, BK318, HB⟩ := hrel
          cases gk with
          | zero => exact absurd HA.out (by simp [brickyardref19_Order.l1])
          | succ k2 =>
            have H := HA.out
            clear HA
            simp only [brickyardref19_Order.l1] at H
            have HC6 := Aside0.mk H
            clear H
            go_upto_region 5 with (fail)
            go_cut [24] (fun v24 wc => ∃ (kq : Nat) (x24_5 : Bool), v24 = .bool x24_5 ∧ Aside0 (brickyardref19_Order.j2 kq x4_2 x5_2 x6_2 x24_5 l0_0 l0_1 = some (r1, r2)) ∧ Aside0 (kq ≤ k2) ∧ Aside0 (Kd.R Kd.string 9 wc w.heap.size (fun _ => True) u4 x4_2) ∧ Aside0 (wc.heap[gb318]? = some (.cells #[(.slice A0_0 l0_0.length c0_0), (.slice A0_1 l0_1.length c0_1)] 29 (0, 0))) ∧ Aside0 (Below w.heap.size w wc))
            case first =>
              have H := HC6.out
              clear HC6
              by_cases c7 : x6_2 < (l0_0.length : Int)
              · rw [if_pos c7] at H
                have c7b0 : decide (x6_2 < (l0_0.length : Int)) = true := decide_eq_true c7
                clear c7
                (first | rw [c7b0] | (simp only [i64_w, i32_w]; rw [c7b0]) | skip)
                have H' := Aside0.mk H
                clear H
                have hcz8_0 : wr.cell? ⟨gb318, 0, none⟩ = some (.slice A0_0 l0_0.length c0_0) := (blk_cell BK318.out 0).trans rfl
                have hcz8_1 : wr.cell? ⟨gb318, 1, none⟩ = some (.slice A0_1 l0_1.length c0_1) := (blk_cell BK318.out 1).trans rfl
                have hfz8_0 := blk_frozen BK318.out 0
                have hfz8_1 := blk_frozen BK318.out 1
                go_wp2
                go_meet
                case rel => exact ⟨_, (!x5_2), (by first | rfl | (simp; done) | (simp [*]; done)), H', ⟨by have := HK1.out; have := HK2.out; first | omega | exact Nat.le_refl _⟩, ⟨by (with_reducible repeat (first | apply Kd.R_alloc | apply Kd.R_drewN | apply Kd.R_drew)); exact HO_4.out⟩, ⟨by (with_reducible repeat (first | refine blk_drewN ?_ _ | refine blk_drew ?_ | refine blk_alloc ?_ _)); exact BK318.out⟩, ⟨by repeat (first | (with_reducible first | exact HB.out | apply below_alloc | apply pw_below_drewN | apply below_drew1 | refine below_set ?_ GE318.out) | exact HB.out)⟩⟩
              · rw [if_neg c7] at H
                have c7b0 : decide (x6_2 < (l0_0.length : Int)) = false := decide_eq_false c7
                clear c7
                (first | rw [c7b0] | (simp only [i64_w, i32_w]; rw [c7b0]) | skip)
                have H' := Aside0.mk H
                clear H
                have hcz9_0 : wr.cell? ⟨gb318, 0, none⟩ = some (.slice A0_0 l0_0.length c0_0) := (blk_cell BK318.out 0).trans rfl
                have hcz9_1 : wr.cell? ⟨gb318, 1, none⟩ = some (.slice A0_1 l0_1.length c0_1) := (blk_cell BK318.out 1).trans rfl
                have hfz9_0 := blk_frozen BK318.out 0
                have hfz9_1 := blk_frozen BK318.out 1
                go_wp2
                go_meet
                case rel => exact ⟨_, (false), (by first | rfl | (simp; done) | (simp [*]; done)), H', ⟨by have := HK1.out; have := HK2.out; first | omega | exact Nat.le_refl _⟩, ⟨by (with_reducible repeat (first | apply Kd.R_alloc | apply Kd.R_drewN | apply Kd.R_drew)); exact HO_4.out⟩, ⟨by (with_reducible repeat (first | refine blk_drewN ?_ _ | refine blk_drew ?_ | refine blk_alloc ?_ _)); exact BK318.out⟩, ⟨by repeat (first | (with_reducible first | exact HB.out | apply below_alloc | apply pw_below_drewN | apply below_drew1 | refine below_set ?_ GE318.out) | exact HB.out)⟩⟩
            case rest =>
              clear HC6
              try clear p2
              try clear c3
              try clear c3b0
              try clear c3b1
              try clear c7
              try clear c7b0
              try clear hcz5_0
              try clear hcz5_1
              try clear hcz8_0
              try clear hcz8_1
              try clear hcz9_0
              try clear hcz9_1
              try clear hfz5_0
              try clear hfz5_1
              try clear hfz8_0
              try clear hfz8_1
              try clear hfz9_0
              try clear hfz9_1
              try clear p2
              obtain ⟨kq, x24_5, rfl, HA, HJ5, HO_4, BK318, HB⟩ := hcut
              cases kq with
              | zero => exact absurd HA.out (by simp [brickyardref19_Order.j2])
              | succ kj5 =>
                have H := HA.out
                clear HA
                simp only [brickyardref19_Order.j2] at H
                by_cases c10 : x24_5 = true
                · subst c10
                  have H1 : (if 0 ≤ x6_2 then (if x6_2 < (l0_0.length : Int) then ((brickyardref19_has.f kj5 x4_2 (rdOf ByteArray.empty l0_0 x6_2)).bind fun t320 => (if t320 = true then (brickyardref19_Order.l1 kj5 x4_2 x5_2 (wrap64 (x6_2 + 1)) l0_0 l0_1) else ((brickyardref19_Out.f kj5 l0_0 l0_1 (rdOf ByteArray.empty l0_0 x6_2)).bind fun t322 => (brickyardref19_Order.l2 kj5 x4_2 x5_2 x6_2 true t322 0 l0_0 l0_1)))) else (none)) else (none)) = some (r1, r2) := by rw [if_pos rfl] at H; exact H
                  clear H
                  have H := H1
                  clear H1
                  by_cases c11 : 0 ≤ x6_2
                  · rw [if_pos c11] at H
                    have c11b0 : decide (0 ≤ x6_2) = true := decide_eq_true c11
                    clear c11
                    by_cases c12 : x6_2 < (l0_0.length : Int)
                    · rw [if_pos c12] at H
                      have c12b0 : decide (x6_2 < (l0_0.length : Int)) = true := decide_eq_true c12
                      clear c12
                      replace H := Option.bind_eq_some_iff.mp H
                      obtain ⟨t320, A130, H⟩ := H
                      replace H : (if t320 = true then (brickyardref19_Order.l1 kj5 x4_2 x5_2 (wrap64 (x6_2 + 1)) l0_0 l0_1) else ((brickyardref19_Out.f kj5 l0_0 l0_1 (rdOf ByteArray.empty l0_0 x6_2)).bind fun t322 => (brickyardref19_Order.l2 kj5 x4_2 x5_2 x6_2 true t322 0 l0_0 l0_1))) = some (r1, r2) := H
                      have A13 := Aside0.mk A130
                      clear A130
                      by_cases c14 : t320 = true
                      · subst c14
                        have H1 : (brickyardref19_Order.l1 kj5 x4_2 x5_2 (wrap64 (x6_2 + 1)) l0_0 l0_1) = some (r1, r2) := by rw [if_pos rfl] at H; exact H
                        clear H
                        have H := H1
                        clear H1
                        have H' := Aside0.mk H
                        clear H
                        have hcz15_0 : wc.cell? ⟨gb318, 0, none⟩ = some (.slice A0_0 l0_0.length c0_0) := (blk_cell BK318.out 0).trans rfl
                        have hcz15_1 : wc.cell? ⟨gb318, 1, none⟩ = some (.slice A0_1 l0_1.length c0_1) := (blk_cell BK318.out 1).trans rfl
                        have hfz15_0 := blk_frozen BK318.out 0
                        have hfz15_1 := blk_frozen BK318.out 1
                        have p319 : 0 ≤ (x6_2 : Int) := of_decide_eq_true (by first | (with_reducible assumption) | assumption)
                        have q319 : x6_2 < (l0_0.length : Int) := of_decide_eq_true (by first | (with_reducible assumption) | assumption)
                        obtain ⟨ad319, e319, hx319_0⟩ := Kd.at_string HR0_0.out x6_2 p319 q319
                        cases e319
                        replace hx319_0 := (HB.out.cell (World.block_lt_of_cell? w _ hx319_0)).trans hx319_0
                        replace p319 := eq_true p319
                        replace q319 := eq_true q319
                        obtain ⟨Ao16, co16, eo16⟩ := Kd.R_slice HO_4.out
                        subst eo16
                        go_wp2_with (first | ((with_reducible refine gate_callee (f := 41) rfl ?_); refine goesL_ (some 33) rfl rfl Try.func41 (by kernel_rfl) rfl #[.slice Ao16 x4_2.length co16, .string (rdOf ByteArray.empty l0_0 x6_2)] rfl (by (try simp only [List.map_toArray, List.map_cons, List.map_nil]); first | done | rfl | (simp only [List.length_drop, List.length_take]; rfl)) ?_; (with_reducible refine (brickyardref19_has.calls kj5 _ _ x4_2 (rdOf ByteArray.empty l0_0 x6_2) true _ ?side1 ?side2 A13.out).mono ?_); (case side1 => repeat (first | exact (Kd.R_reads' HO_4.out).2.2 | (with_reducible refine Kd.C_alloc ?_ _) | (with_reducible refine Kd.C_drewN ?_ _) | (with_reducible refine Kd.C_drew ?_))); (case side2 => exact (Kd.R_reads' HO_4.out).2.1); rintro e w' ⟨rfl, ⟨nd, rfl⟩⟩; refine ⟨_, rfl, ?_⟩))
                        go_roundg kj5
                        case measure => have := HK1.out; have := HK2.out; have := HJ5.out; omega
                        case rel => exact ⟨(x4_2), (x5_2), (wrap64 (x6_2 + 1)), (by first | rfl | (simp; done) | (simp [*]; done)), (by first | rfl | (simp; done) | (simp [*]; done)), H', ⟨by have := HK1.out; have := HK2.out; have := HJ5.out; omega⟩, ⟨by (with_reducible repeat (first | apply Kd.R_alloc | apply Kd.R_drewN | apply Kd.R_drew)); exact HO_4.out⟩, ⟨by (with_reducible repeat (first | refine blk_drewN ?_ _ | refine blk_drew ?_ | refine blk_alloc ?_ _)); exact BK318.out⟩, ⟨by repeat (first | (with_reducible first | exact HB.out | apply below_alloc | apply pw_below_drewN | apply below_drew1 | refine below_set ?_ GE318.out) | exact HB.out)⟩⟩
                      · replace c14 := Bool.eq_false_iff.mpr c14
                        subst c14
                        have H1 : ((brickyardref19_Out.f kj5 l0_0 l0_1 (rdOf ByteArray.empty l0_0 x6_2)).bind fun t322 => (brickyardref19_Order.l2 kj5 x4_2 x5_2 x6_2 true t322 0 l0_0 l0_1)) = some (r1, r2) := by rw [if_neg (show ¬ (false = true) by decide)] at H; exact H
                        clear H
                        have H := H1
                        clear H1
                        replace H := Option.bind_eq_some_iff.mp H
                        obtain ⟨t322, A170, H⟩ := H
                        replace H : (brickyardref19_Order.l2 kj5 x4_2 x5_2 x6_2 true t322 0 l0_0 l0_1) = some (r1, r2) := H
                        have A17 := Aside0.mk A170
                        clear A170
                        have H' := Aside0.mk H
                        clear H
                        have hcz18_0 : wc.cell? ⟨gb318, 0, none⟩ = some (.slice A0_0 l0_0.length c0_0) := (blk_cell BK318.out 0).trans rfl
                        have hcz18_1 : wc.cell? ⟨gb318, 1, none⟩ = some (.slice A0_1 l0_1.length c0_1) := (blk_cell BK318.out 1).trans rfl
                        have hfz18_0 := blk_frozen BK318.out 0
                        have hfz18_1 := blk_frozen BK318.out 1
                        have p319 : 0 ≤ (x6_2 : Int) := of_decide_eq_true (by first | (with_reducible assumption) | assumption)
                        have q319 : x6_2 < (l0_0.length : Int) := of_decide_eq_true (by first | (with_reducible assumption) | assumption)
                        obtain ⟨ad319, e319, hx319_0⟩ := Kd.at_string HR0_0.out x6_2 p319 q319
                        cases e319
                        replace hx319_0 := (HB.out.cell (World.block_lt_of_cell? w _ hx319_0)).trans hx319_0
                        replace p319 := eq_true p319
                        replace q319 := eq_true q319
                        obtain ⟨Ao19, co19, eo19⟩ := Kd.R_slice HO_4.out
                        subst eo19
                        try go_wp2_with (first | ((with_reducible refine gate_callee (f := 41) rfl ?_); refine goesL_ (some 33) rfl rfl Try.func41 (by kernel_rfl) rfl #[.slice Ao19 x4_2.length co19, .string (rdOf ByteArray.empty l0_0 x6_2)] rfl (by (try simp only [List.map_toArray, List.map_cons, List.map_nil]); first | done | rfl | (simp only [List.length_drop, List.length_take]; rfl)) ?_; (with_reducible refine (brickyardref19_has.calls kj5 _ _ x4_2 (rdOf ByteArray.empty l0_0 x6_2) false _ ?side1 ?side2 A13.out).mono ?_); (case side1 => repeat (first | exact (Kd.R_reads' HO_4.out).2.2 | (with_reducible refine Kd.C_alloc ?_ _) | (with_reducible refine Kd.C_drewN ?_ _) | (with_reducible refine Kd.C_drew ?_))); (case side2 => exact (Kd.R_reads' HO_4.out).2.1); rintro e w' ⟨rfl, ⟨nd, rfl⟩⟩; refine ⟨_, rfl, ?_⟩))
                        (try (rw [drewN_self wc]; generalize hq_ : World.drewN wc _ = wc; have n0_ : Aside0 (Kd.R Kd.string 9 wc w.heap.size (fun _ => True) (.slice Ao19 x4_2.length co19) x4_2) := ⟨by rw [← hq_]; exact (by (with_reducible repeat (first | apply Kd.R_alloc | apply Kd.R_drewN | apply Kd.R_drew)); exact HO_4.out)⟩; have n1_ : Aside0 (wc.heap[gb318]? = some (.cells #[.slice (some ad319) l0_0.length c0_0, .slice A0_1 l0_1.length c0_1] 29 (0, 0))) := ⟨by rw [← hq_]; exact (by (with_reducible repeat (first | refine blk_drewN ?_ _ | refine blk_drew ?_ | refine blk_alloc ?_ _)); exact BK318.out)⟩; have n2_ : Aside0 (Below w.heap.size w wc) := ⟨by rw [← hq_]; exact (by repeat (first | (with_reducible first | exact HB.out | apply below_alloc | apply pw_below_drewN | apply below_drew1 | refine below_set ?_ GE318.out) | exact HB.out))⟩; clear HO_4 BK318 HB hq_; have HO_4 := n0_; have BK318 := n1_; have HB := n2_; clear n0_ n1_ n2_))
                        have n0_ := Aside0.mk (Kd.R_drew HO_4.out)
                        have n1_ := Aside0.mk (blk_drew BK318.out)
                        have n2_ := Aside0.mk (below_drew1 HB.out)
                        clear HO_4
                        clear BK318
                        clear HB
                        have HO_4 := n0_
                        have BK318 := n1_
                        have HB := n2_
                        clear n0_ n1_ n2_
                        have p321 : 0 ≤ (x6_2 : Int) := of_decide_eq_true (by first | (with_reducible assumption) | assumption)
                        have q321 : x6_2 < (l0_0.length : Int) := of_decide_eq_true (by first | (with_reducible assumption) | assumption)
                        obtain ⟨ad321, e321, hx321_0⟩ := Kd.at_string HR0_0.out x6_2 p321 q321
                        have hw321_0 := hx321_0
                        obtain rfl : ad319 = ad321 := (by injection e321)
                        replace hx321_0 := (HB.out.cell (World.block_lt_of_cell? w _ hx321_0)).trans hx321_0
                        replace p321 := eq_true p321
                        replace q321 := eq_true q321
                        refine start_ (n := 8) (S := fun w' => w'.cell? ⟨gb318, 0, none⟩ = some (.slice (some ad319) l0_0.length c0_0) ∧ w'.cell? ⟨gb318, 1, none⟩ = some (.slice A0_1 l0_1.length c0_1) ∧ w'.cell? (ad319.add (x6_2).toNat) = some (.string (rdOf ByteArray.empty l0_0 x6_2))) (ds := []) #[false, false, false, false, false, false, false, false] (by kernel_rfl) rfl rfl ⟨(blk_cell BK318.out 0).trans rfl, (blk_cell BK318.out 1).trans rfl, ((HB.out.cell (World.block_lt_of_cell? w _ hw321_0)).trans hw321_0)⟩ (fun hHeld => ?_); refine with_tabW brickyardref19_Order.tab9 brickyardref19_Order.bits9 (fun HT_ HW_ => ?_)
                        generalize wc.drew = w20 at HO_4 BK318 HB hx321_0 hHeld ⊢
                        refine pure_ (i := 1) (N := some 35) (v := ?_) (a' := ?_) #[false, true, false, false, false, false, false, false] rfl rfl (any_of HT_.out (by kernel_rfl)) (fun _ _ _ h => h) (Or.inl ⟨by rfl, ?_⟩) ?_ ?_
                        rotate_left
                        · intro w'
                          go_simp
                          with_reducible rfl
                        rotate_left
                        · simp only [Act.put, List.setIfInBounds_toArray, List.set_cons_zero, List.set_cons_succ, i64_w, i32_w]
                          rfl
                        refine pure_ (i := 3) (N := some 37) (v := ?_) (a' := ?_) #[false, true, false, true, false, false, false, false] rfl rfl (any_of HT_.out (by kernel_rfl)) (fun _ _ _ h => h) (Or.inl ⟨by rfl, ?_⟩) ?_ ?_
                        rotate_left
                        · intro w'
                          go_simp
                          with_reducible rfl
                        rotate_left
                        · simp only [Act.put, List.setIfInBounds_toArray, List.set_cons_zero, List.set_cons_succ, i64_w, i32_w]
                          rfl
                        refine take_ (i := 0) (N := some 34) (v := ?_) (a' := ?_) #[true, true, false, true, false, false, false, false] rfl rfl (take_ofW HT_.out HW_.out (by kernel_rfl)) (fun _ _ _ h => h) (Or.inl ⟨by rfl, ?_⟩) hHeld ?_ ?_
                        rotate_left
                        · rintro w' ⟨s0, s1, s2⟩
                          go_simp
                          with_reducible rfl
                        rotate_left
                        · simp only [Act.put, List.setIfInBounds_toArray, List.set_cons_zero, List.set_cons_succ, i64_w, i32_w]
                          rfl
                        refine take_ (i := 2) (N := some 36) (v := ?_) (a' := ?_) #[true, true, true, true, false, false, false, false] rfl rfl (take_ofW HT_.out HW_.out (by kernel_rfl)) (fun _ _ _ h => h) (Or.inl ⟨by rfl, ?_⟩) hHeld ?_ ?_
                        rotate_left
                        · rintro w' ⟨s0, s1, s2⟩
                          go_simp
                          with_reducible rfl
                        rotate_left
                        · simp only [Act.put, List.setIfInBounds_toArray, List.set_cons_zero, List.set_cons_succ, i64_w, i32_w]
                          rfl
                        refine pure_ (i := 4) (N := some 38) (v := ?_) (a' := ?_) #[true, true, true, true, true, false, false, false] rfl rfl (any_of HT_.out (by kernel_rfl)) (fun _ _ _ h => h) (Or.inl ⟨by rfl, ?_⟩) ?_ ?_
                        rotate_left
                        · intro w'
                          go_simp
                          with_reducible rfl
                        rotate_left
                        · simp only [Act.put, List.setIfInBounds_toArray, List.set_cons_zero, List.set_cons_succ, i64_w, i32_w]
                          rfl
                        refine take_ (i := 5) (N := some 39) (v := ?_) (a' := ?_) #[true, true, true, true, true, true, false, false] rfl rfl (take_ofW HT_.out HW_.out (by kernel_rfl)) (fun _ _ _ h => h) (Or.inl ⟨by rfl, ?_⟩) hHeld ?_ ?_
                        rotate_left
                        · rintro w' ⟨s0, s1, s2⟩
                          go_simp
                          with_reducible rfl
                        rotate_left
                        · simp only [Act.put, List.setIfInBounds_toArray, List.set_cons_zero, List.set_cons_succ, i64_w, i32_w]
                          rfl
                        refine one_ (i := 6) (N := some 40) #[true, true, true, true, true, true, true, false] rfl rfl (one_of HT_.out (by kernel_rfl)) (by decide) (fun K hK => ?_)
                        refine goes_ Try.func28 (by kernel_rfl) rfl #[.agg #[.slice (some ad319) l0_0.length c0_0, .slice A0_1 l0_1.length c0_1], .string (rdOf ByteArray.empty l0_0 x6_2)] (by rfl) rfl rfl (by (try simp only [List.map_toArray, List.map_cons, List.map_nil]); first | done | rfl | (simp only [List.length_drop, List.length_take]; rfl)) ?_
                        with_reducible refine (brickyardref19_Out.calls kj5 _ _ l0_0 _ _ l0_1 (rdOf ByteArray.empty l0_0 x6_2) t322 _ ?side1 ?side2 ?side3 ?side4 A17.out).mono ?_
                        (case side1 => repeat (first | exact (Kd.C_below HR0_0.out HB.out) | (with_reducible refine Kd.C_alloc ?_ _) | (with_reducible refine Kd.C_drewN ?_ _) | (with_reducible refine Kd.C_drew ?_)))
                        (case side2 => exact HC0_0.out)
                        (case side3 => repeat (first | exact (Kd.C_below HR0_1.out HB.out) | (with_reducible refine Kd.C_alloc ?_ _) | (with_reducible refine Kd.C_drewN ?_ _) | (with_reducible refine Kd.C_drew ?_)))
                        (case side4 => exact HC0_1.out)
                        rintro e w21 ⟨v323, rfl, ho0, hb⟩
                        refine ⟨_, rfl, ?_⟩
                        have n0_ := Aside0.mk (Kd.R_elder' (by (with_reducible repeat (first | apply Kd.R_alloc | apply Kd.R_drewN | apply Kd.R_drew)); exact HO_4.out) (Kd.R_base ho0) hb)
                        have n1_ := Aside0.mk (Kd.R_lower (Kd.R_new' ho0 (Kd.R_lt (by (with_reducible repeat (first | apply Kd.R_alloc | apply Kd.R_drewN | apply Kd.R_drew)); exact HO_4.out))) (below_size (by repeat (first | (with_reducible first | exact HB.out | apply below_alloc | apply pw_below_drewN | apply below_drew1 | refine below_set ?_ GE318.out) | exact HB.out))))
                        have n2_ := Aside0.mk (blk_below (g := gb318) (o := .cells #[.slice (some ad319) l0_0.length c0_0, .slice A0_1 l0_1.length c0_1] 29 (0, 0)) (by (with_reducible repeat (first | refine blk_drewN ?_ _ | refine blk_drew ?_ | refine blk_alloc ?_ _)); exact BK318.out) hb)
                        have n3_ := Aside0.mk (below_step (by repeat (first | (with_reducible first | exact HB.out | apply below_alloc | apply pw_below_drewN | apply below_drew1 | refine below_set ?_ GE318.out) | exact HB.out)) hb)
                        clear HO_4
                        clear BK318
                        clear HB
                        have HO_4 := n0_
                        have HO324 := n1_
                        have BK318 := n2_
                        have HB := n3_
                        clear n0_ n1_ n2_ n3_
                        (try clear hb)
                        (try clear hb2)
                        (try clear hk)
                        (try clear hi)
                        (try clear ho0)
                        refine hK.out _ _ ⟨(blk_cell BK318.out 0).trans rfl, (blk_cell BK318.out 1).trans rfl, ((HB.out.cell (World.block_lt_of_cell? w _ hw321_0)).trans hw321_0)⟩ (fun hHeld => ?_)
                        clear hK K
                        refine norm_ (a' := ?_) ?_ ?_
                        rotate_left
                        · show Act.put _ (some 40) _ = _
                          simp only [Act.put, List.setIfInBounds_toArray, List.set_cons_zero, List.set_cons_succ, i64_w, i32_w]
                          rfl
                        refine pure_ (i := 7) (N := some 8) (v := ?_) (a' := ?_) #[true, true, true, true, true, true, true, true] rfl rfl (any_of HT_.out (by kernel_rfl)) (fun _ _ _ h => h) (Or.inl ⟨by rfl, ?_⟩) ?_ ?_
                        rotate_left
                        · intro w'
                          go_simp
                          with_reducible rfl
                        rotate_left
                        · simp only [Act.put, List.setIfInBounds_toArray, List.set_cons_zero, List.set_cons_succ, i64_w, i32_w]
                          rfl
                        refine done_ (done_of HT_.out (by kernel_rfl)) ?_
                        try go_wp2
                        go_loopg [7, 9] kj5 (fun kq v7 v9 w' => ∃ (x7_4 : Bool) (x9_4 : Int), v7 = .bool x7_4 ∧ v9 = .int .i64 x9_4 ∧ Aside0 (brickyardref19_Order.l2 kq x4_2 x5_2 x6_2 x7_4 t322 x9_4 l0_0 l0_1 = some (r1, r2)) ∧ Aside0 (kq ≤ kj5) ∧ Aside0 (Kd.R Kd.string 9 w' w.heap.size (fun k_ => some k_ ≠ (v323 : Value).ownBlock) (.slice Ao19 x4_2.length co19) x4_2) ∧ Aside0 (Kd.R Kd.string 9 w' w.heap.size (fun k_ => some k_ ≠ ((.slice Ao19 x4_2.length co19) : Value).ownBlock) v323 t322) ∧ Aside0 (w'.heap[gb318]? = some (.cells #[(.slice (some ad319) l0_0.length c0_0), (.slice A0_1 l0_1.length c0_1)] 29 (0, 0))) ∧ Aside0 (Below w.heap.size w w'))
                        case atStart => exact ⟨(true), (0), (by first | rfl | (simp; done) | (simp [*]; done)), (by first | rfl | (simp; done) | (simp [*]; done)), H', ⟨Nat.le_refl _⟩, ⟨by (with_reducible repeat (first | apply Kd.R_alloc | apply Kd.R_drewN | apply Kd.R_drew)); exact Kd.R_mono HO_4.out (fun _ hk => hk.2)⟩, ⟨by (with_reducible repeat (first | apply Kd.R_alloc | apply Kd.R_drewN | apply Kd.R_drew)); exact Kd.R_mono HO324.out (fun _ hk => hk.2)⟩, ⟨by (with_reducible repeat (first | refine blk_drewN ?_ _ | refine blk_drew ?_ | refine blk_alloc ?_ _)); exact BK318.out⟩, ⟨by repeat (first | (with_reducible first | exact HB.out | apply below_alloc | apply pw_below_drewN | apply below_drew1 | refine below_set ?_ GE318.out) | exact HB.out)⟩⟩
                        case round =>
                          clear H'
                          try clear c1
                          try clear c2
                          try clear p2
                          try clear c3
                          try clear c3b0
                          try clear c3b1
                          try clear p3
                          try clear q3
                          try clear hx3
                          try clear c4
                          try clear p6
                          try clear c7
                          try clear c7b0
                          try clear c10
                          try clear c11
                          try clear c11b0
                          try clear c12
                          try clear c12b0
                          try clear c14
                          try clear hcz15_0
                          try clear hcz15_1
                          try clear hcz18_0
                          try clear hcz18_1
                          try clear hcz5_0
                          try clear hcz5_1
                          try clear hcz8_0
                          try clear hcz8_1
                          try clear hcz9_0
                          try clear hcz9_1
                          try clear hfz15_0
                          try clear hfz15_1
                          try clear hfz18_0
                          try clear hfz18_1
                          try clear hfz5_0
                          try clear hfz5_1
                          try clear hfz8_0
                          try clear hfz8_1
                          try clear hfz9_0
                          try clear hfz9_1
                          try clear hx319_0
                          try clear hx321_0
                          try clear p2
                          try clear p319
                          try clear p321
                          try clear q319
                          try clear q321
                          obtain ⟨x7_4, x9_4, rfl, rfl, HA, HK4, HO_4, HO_8, BK318, HB⟩ := hrel
                          cases gk with
                          | zero => exact absurd HA.out (by simp [brickyardref19_Order.l2])
                          | succ k4 =>
                            have H := HA.out
                            clear HA
                            simp only [brickyardref19_Order.l2] at H
                            by_cases c22 : x9_4 < (t322.length : Int)
                            · rw [if_pos c22] at H
                              have c22b0 : decide (x9_4 < (t322.length : Int)) = true := decide_eq_true c22
                              clear c22
                              by_cases c23 : x7_4 = true
                              · subst c23
                                have H1 : (if 0 ≤ x9_4 then ((brickyardref19_has.f k4 x4_2 (rdOf ByteArray.empty t322 x9_4)).bind fun t326 => (brickyardref19_Order.l2 k4 x4_2 x5_2 x6_2 t326 t322 (wrap64 (x9_4 + 1)) l0_0 l0_1)) else (none)) = some (r1, r2) := by rw [if_pos rfl] at H; exact H
                                clear H
                                have H := H1
                                clear H1
                                by_cases c24 : 0 ≤ x9_4
                                · rw [if_pos c24] at H
                                  have c24b0 : decide (0 ≤ x9_4) = true := decide_eq_true c24
                                  clear c24
                                  replace H := Option.bind_eq_some_iff.mp H
                                  obtain ⟨t326, A250, H⟩ := H
                                  replace H : (brickyardref19_Order.l2 k4 x4_2 x5_2 x6_2 t326 t322 (wrap64 (x9_4 + 1)) l0_0 l0_1) = some (r1, r2) := H
                                  have A25 := Aside0.mk A250
                                  clear A250
                                  have H' := Aside0.mk H
                                  clear H
                                  obtain ⟨Ao26, co26, eo26⟩ := Kd.R_slice HO_8.out
                                  subst eo26
                                  have p325 : 0 ≤ (x9_4 : Int) := of_decide_eq_true (by first | (with_reducible assumption) | assumption)
                                  have q325 : x9_4 < (t322.length : Int) := of_decide_eq_true (by first | (with_reducible assumption) | assumption)
                                  obtain ⟨ad325, e325, hx325_0⟩ := Kd.at_string (Kd.R_reads' HO_8.out).2.2 x9_4 p325 q325
                                  cases e325
                                  replace p325 := eq_true p325
                                  replace q325 := eq_true q325
                                  go_wp2_with (first | (go_at_call 41; (with_reducible refine (brickyardref19_has.calls k4 _ _ x4_2 (rdOf ByteArray.empty t322 x9_4) t326 _ ?side1 ?side2 A25.out).mono ?_); (case side1 => repeat (first | exact (Kd.R_reads' HO_4.out).2.2 | (with_reducible refine Kd.C_alloc ?_ _) | (with_reducible refine Kd.C_drewN ?_ _) | (with_reducible refine Kd.C_drew ?_))); (case side2 => exact (Kd.R_reads' HO_4.out).2.1); rintro e w' ⟨rfl, ⟨nd, rfl⟩⟩))
                                  go_roundg k4
                                  case measure => have := HK1.out; have := HK2.out; have := HJ5.out; have := HK4.out; omega
                                  case rel => exact ⟨(t326), (wrap64 (x9_4 + 1)), (by first | rfl | (simp; done) | (simp [*]; done)), (by first | rfl | (simp; done) | (simp [*]; done)), H', ⟨by have := HK1.out; have := HK2.out; have := HJ5.out; have := HK4.out; omega⟩, ⟨by (with_reducible repeat (first | apply Kd.R_alloc | apply Kd.R_drewN | apply Kd.R_drew)); exact HO_4.out⟩, ⟨by (with_reducible repeat (first | apply Kd.R_alloc | apply Kd.R_drewN | apply Kd.R_drew)); exact HO_8.out⟩, ⟨by (with_reducible repeat (first | refine blk_drewN ?_ _ | refine blk_drew ?_ | refine blk_alloc ?_ _)); exact BK318.out⟩, ⟨by repeat (first | (with_reducible first | exact HB.out | apply below_alloc | apply pw_below_drewN | apply below_drew1 | refine below_set ?_ GE318.out) | exact HB.out)⟩⟩
                                · rw [if_neg c24] at H
                                  exact absurd H (by simp)
                              · replace c23 := Bool.eq_false_iff.mpr c23
                                subst c23
                                have H1 : (brickyardref19_Order.l2 k4 x4_2 x5_2 x6_2 false t322 (wrap64 (x9_4 + 1)) l0_0 l0_1) = some (r1, r2) := by rw [if_neg (show ¬ (false = true) by decide)] at H; exact H
                                clear H
                                have H := H1
                                clear H1
                                have H' := Aside0.mk H
                                clear H
                                obtain ⟨Ao27, co27, eo27⟩ := Kd.R_slice HO_8.out
                                subst eo27
                                go_wp2
                                go_roundg k4
                                case measure => have := HK1.out; have := HK2.out; have := HJ5.out; have := HK4.out; omega
                                case rel => exact ⟨(false), (wrap64 (x9_4 + 1)), (by first | rfl | (simp; done) | (simp [*]; done)), (by first | rfl | (simp; done) | (simp [*]; done)), H', ⟨by have := HK1.out; have := HK2.out; have := HJ5.out; have := HK4.out; omega⟩, ⟨by (with_reducible repeat (first | apply Kd.R_alloc | apply Kd.R_drewN | apply Kd.R_drew)); exact HO_4.out⟩, ⟨by (with_reducible repeat (first | apply Kd.R_alloc | apply Kd.R_drewN | apply Kd.R_drew)); exact HO_8.out⟩, ⟨by (with_reducible repeat (first | refine blk_drewN ?_ _ | refine blk_drew ?_ | refine blk_alloc ?_ _)); exact BK318.out⟩, ⟨by repeat (first | (with_reducible first | exact HB.out | apply below_alloc | apply pw_below_drewN | apply below_drew1 | refine below_set ?_ GE318.out) | exact HB.out)⟩⟩
                            · rw [if_neg c22] at H
                              have c22b0 : decide (x9_4 < (t322.length : Int)) = false := decide_eq_false c22
                              clear c22
                              by_cases c28 : x7_4 = true
                              · subst c28
                                have H1 : (if 0 ≤ x6_2 then (if x6_2 < (l0_0.length : Int) then (if x4_2.length < 8796093022208 then (brickyardref19_Order.l1 k4 (x4_2 ++ [rdOf ByteArray.empty l0_0 x6_2]) true (wrap64 (x6_2 + 1)) l0_0 l0_1) else (none)) else (none)) else (none)) = some (r1, r2) := by rw [if_pos rfl] at H; exact H
                                clear H
                                have H := H1
                                clear H1
                                by_cases c29 : 0 ≤ x6_2
                                · rw [if_pos c29] at H
                                  have c29b0 : decide (0 ≤ x6_2) = true := decide_eq_true c29
                                  clear c29
                                  by_cases c30 : x6_2 < (l0_0.length : Int)
                                  · rw [if_pos c30] at H
                                    have c30b0 : decide (x6_2 < (l0_0.length : Int)) = true := decide_eq_true c30
                                    clear c30
                                    by_cases c31 : x4_2.length < 8796093022208
                                    · rw [if_pos c31] at H
                                      have LMc31 := Aside0.mk c31
                                      clear c31
                                      obtain ⟨y328, hy328⟩ : ∃ y_ : List ByteArray, y_ = (x4_2 ++ [rdOf ByteArray.empty l0_0 x6_2]) := ⟨_, rfl⟩
                                      replace H : (brickyardref19_Order.l1 k4 y328 true (wrap64 (x6_2 + 1)) l0_0 l0_1) = some (r1, r2) := by first | (rw [hy328]; with_reducible exact H) | (have H2_ := (Option.bind_some _ _).symm.trans H; rw [hy328]; with_reducible exact H2_) | (have H2_ := (Option.bind_some _ _).symm.trans H; with_reducible exact H2_) | with_reducible exact H | (rw [hy328]; exact H) | exact H
                                      have Ny328 := Aside0.mk hy328
                                      clear hy328
                                      have H' := Aside0.mk H
                                      clear H
                                      obtain ⟨Ao32, co32, eo32⟩ := Kd.R_slice HO_8.out
                                      subst eo32
                                      have hcz33_0 : wr.cell? ⟨gb318, 0, none⟩ = some (.slice (some ad319) l0_0.length c0_0) := (blk_cell BK318.out 0).trans rfl
                                      have hcz33_1 : wr.cell? ⟨gb318, 1, none⟩ = some (.slice A0_1 l0_1.length c0_1) := (blk_cell BK318.out 1).trans rfl
                                      have hfz33_0 := blk_frozen BK318.out 0
                                      have hfz33_1 := blk_frozen BK318.out 1
                                      have p327 : 0 ≤ (x6_2 : Int) := of_decide_eq_true (by first | (with_reducible assumption) | assumption)
                                      have q327 : x6_2 < (l0_0.length : Int) := of_decide_eq_true (by first | (with_reducible assumption) | assumption)
                                      obtain ⟨ad327, e327, hx327_0⟩ := Kd.at_string HR0_0.out x6_2 p327 q327
                                      obtain rfl : ad319 = ad327 := (by injection e327)
                                      replace hx327_0 := (HB.out.cell (World.block_lt_of_cell? w _ hx327_0)).trans hx327_0
                                      replace p327 := eq_true p327
                                      replace q327 := eq_true q327
                                      go_wp2_with (first | ((with_reducible refine gate_builtin (b := .append) (xs := #[.tmp 57, .tmp 63]) rfl ?_); at_builtin; refine Kd.R_append Kd.string (w0 := w) w.heap.size rfl (.tmp 57) (.tmp 63) 23 9 (.string ⟨#[]⟩) 16 rfl Try.underlying23 info9 rfl (by decide) (by omega) (.slice Ao19 x4_2.length co19) x4_2 (rdOf ByteArray.empty l0_0 x6_2) [.string (rdOf ByteArray.empty l0_0 x6_2)] (fun k_ => some k_ ≠ (.slice Ao32 t322.length co32 : Value).ownBlock) (fun _ => False) rfl rfl ?aP (fun _ hk => hk.elim) ?aF ?aO ?aB ?aS ?aL ?_; (case aP => exact rfl); (case aB => exact (by repeat (first | (with_reducible first | exact HB.out | apply below_alloc | apply pw_below_drewN | apply below_drew1 | refine below_set ?_ GE318.out) | exact HB.out))); (case aF => exact (fun k_ hk => Kd.fresh' (Kd.R_lt (by (with_reducible repeat (first | apply Kd.R_alloc | apply Kd.R_drewN | apply Kd.R_drew)); exact HO_8.out)) k_ hk)); (case aO => exact (by (with_reducible repeat (first | apply Kd.R_alloc | apply Kd.R_drewN | apply Kd.R_drew)); exact HO_4.out)); (case aS => exact (below_size (by repeat (first | (with_reducible first | exact HB.out | apply below_alloc | apply pw_below_drewN | apply below_drew1 | refine below_set ?_ GE318.out) | exact HB.out)))); (case aL => have := LMc31.out; omega); intro v329 w34 ho hb hg hat; rw [← Ny328.out] at ho; have n0_ := Aside0.mk (Kd.R_after (ok := (fun _ => True)) (by (with_reducible repeat (first | apply Kd.R_alloc | apply Kd.R_drewN | apply Kd.R_drew)); exact Kd.R_mono HO_8.out (fun _ hk => ⟨trivial, hk⟩)) hg hat); have n1_ := Aside0.mk (blk_grown (g := gb318) (o := .cells #[.slice (some ad319) l0_0.length c0_0, .slice A0_1 l0_1.length c0_1] 29 (0, 0)) (by (with_reducible repeat (first | refine blk_drewN ?_ _ | refine blk_drew ?_ | refine blk_alloc ?_ _)); exact BK318.out) hg (Kd.R_ne HO_4.out BK318.out (by decide))); have n2_ := Aside0.mk (hb); have n3_ := Aside0.mk (ho); clear HO_8; clear BK318; clear HB; clear HO_4; have HO_8 := n0_; have BK318 := n1_; have HB := n2_; have HO330 := n3_; clear n0_ n1_ n2_ n3_; clear ho hb hg hat))
                                      go_roundg k4
                                      case measure => have := HK1.out; have := HK2.out; have := HJ5.out; have := HK4.out; omega
                                      case rel => exact ⟨(y328), (true), (wrap64 (x6_2 + 1)), (by first | rfl | (simp; done) | (simp [*]; done)), (by first | rfl | (simp; done) | (simp [*]; done)), H', ⟨by have := HK1.out; have := HK2.out; have := HJ5.out; have := HK4.out; omega⟩, ⟨by (with_reducible repeat (first | apply Kd.R_alloc | apply Kd.R_drewN | apply Kd.R_drew)); exact Kd.R_mono HO330.out (fun _ hk => trivial)⟩, ⟨by (with_reducible repeat (first | refine blk_drewN ?_ _ | refine blk_drew ?_ | refine blk_alloc ?_ _)); exact BK318.out⟩, ⟨by repeat (first | (with_reducible first | exact HB.out | apply below_alloc | apply pw_below_drewN | apply below_drew1 | refine below_set ?_ GE318.out) | exact HB.out)⟩⟩
                                    · rw [if_neg c31] at H
                                      exact absurd H (by simp)
                                  · rw [if_neg c30] at H
                                    exact absurd H (by simp)
                                · rw [if_neg c29] at H
                                  exact absurd H (by simp)
                              · replace c28 := Bool.eq_false_iff.mpr c28
                                subst c28
                                have H1 : (brickyardref19_Order.l1 k4 x4_2 x5_2 (wrap64 (x6_2 + 1)) l0_0 l0_1) = some (r1, r2) := by rw [if_neg (show ¬ (false = true) by decide)] at H; exact H
                                clear H
                                have H := H1
                                clear H1
                                have H' := Aside0.mk H
                                clear H
                                obtain ⟨Ao35, co35, eo35⟩ := Kd.R_slice HO_8.out
                                subst eo35
                                go_wp2
                                go_roundg k4
                                case measure => have := HK1.out; have := HK2.out; have := HJ5.out; have := HK4.out; omega
                                case rel => exact ⟨(x4_2), (x5_2), (wrap64 (x6_2 + 1)), (by first | rfl | (simp; done) | (simp [*]; done)), (by first | rfl | (simp; done) | (simp [*]; done)), H', ⟨by have := HK1.out; have := HK2.out; have := HJ5.out; have := HK4.out; omega⟩, ⟨by (with_reducible repeat (first | apply Kd.R_alloc | apply Kd.R_drewN | apply Kd.R_drew)); exact Kd.R_mono HO_4.out (fun _ hk => trivial)⟩, ⟨by (with_reducible repeat (first | refine blk_drewN ?_ _ | refine blk_drew ?_ | refine blk_alloc ?_ _)); exact BK318.out⟩, ⟨by repeat (first | (with_reducible first | exact HB.out | apply below_alloc | apply pw_below_drewN | apply below_drew1 | refine below_set ?_ GE318.out) | exact HB.out)⟩⟩
                    · rw [if_neg c12] at H
                      exact absurd H (by simp)
                  · rw [if_neg c11] at H
                    exact absurd H (by simp)
                · replace c10 := Bool.eq_false_iff.mpr c10
                  subst c10
                  have H1 : (if x5_2 = true then (brickyardref19_Order.l0 kj5 x4_2 l0_0 l0_1) else (some (([] : List ByteArray), false))) = some (r1, r2) := by rw [if_neg (show ¬ (false = true) by decide)] at H; exact H
                  clear H
                  have H := H1
                  clear H1
                  by_cases c36 : x5_2 = true
                  · subst c36
                    have H1 : (brickyardref19_Order.l0 kj5 x4_2 l0_0 l0_1) = some (r1, r2) := by rw [if_pos rfl] at H; exact H
                    clear H
                    have H := H1
                    clear H1
                    have H' := Aside0.mk H
                    clear H
                    go_wp2
                    go_roundg kj5
                    case measure => have := HK1.out; have := HK2.out; have := HJ5.out; omega
                    case rel => exact ⟨(x4_2), H', ⟨by have := HK1.out; have := HK2.out; have := HJ5.out; omega⟩, ⟨by (with_reducible repeat (first | apply Kd.R_alloc | apply Kd.R_drewN | apply Kd.R_drew)); exact HO_4.out⟩, ⟨by (with_reducible repeat (first | refine blk_drewN ?_ _ | refine blk_drew ?_ | refine blk_alloc ?_ _)); exact BK318.out⟩, ⟨by repeat (first | (with_reducible first | exact HB.out | apply below_alloc | apply pw_below_drewN | apply below_drew1 | refine below_set ?_ GE318.out) | exact HB.out)⟩⟩
                  · replace c36 := Bool.eq_false_iff.mpr c36
                    subst c36
                    have H1 : (some (([] : List ByteArray), false)) = some (r1, r2) := by rw [if_neg (show ¬ (false = true) by decide)] at H; exact H
                    clear H
                    have H := H1
                    clear H1
                    simp only [Option.some.injEq, Prod.mk.injEq] at H
                    obtain ⟨rfl, rfl⟩ := H
                    go_wp2
                    go_ret2
                    exact ⟨_, by first | rfl | (simp [errW_none, errW_some] <;> rfl) | (simp [*, errW_none, errW_some] <;> rfl), by first | exact Kd.R_nil _ _ _ _ _ | exact Kd.N_nil _ _ _ _ _ | exact Kd.V_nil _ _ _ _ _ | exact Kd.Q_nil _ _ _ _ _ | exact Kd.S_nil _ _ _ _ _, by repeat (first | (with_reducible first | exact HB.out | apply below_alloc | apply pw_below_drewN | apply below_drew1 | refine below_set ?_ GE318.out) | exact HB.out)⟩
      · rw [if_neg c3] at H
        have c3b0 : decide ((x4_1.length : Int) < (l0_0.length : Int)) = false := decide_eq_false c3
        have c3b1 : decide (x4_1.length < l0_0.length) = false := decide_eq_false (fun h => c3 (Int.ofNat_lt.mpr h))
        clear c3
        simp only [Option.some.injEq, Prod.mk.injEq] at H
        obtain ⟨rfl, rfl⟩ := H
        obtain ⟨Ao37, co37, eo37⟩ := Kd.R_slice HO_4.out
        subst eo37
        have hcz38_0 : wr.cell? ⟨gb318, 0, none⟩ = some (.slice A0_0 l0_0.length c0_0) := (blk_cell BK318.out 0).trans rfl
        have hcz38_1 : wr.cell? ⟨gb318, 1, none⟩ = some (.slice A0_1 l0_1.length c0_1) := (blk_cell BK318.out 1).trans rfl
        have hfz38_0 := blk_frozen BK318.out 0
        have hfz38_1 := blk_frozen BK318.out 1
        go_wp2
        go_ret2
        exact ⟨_, by first | rfl | (simp [errW_none, errW_some] <;> rfl) | (simp [*, errW_none, errW_some] <;> rfl), by (with_reducible repeat (first | apply Kd.R_alloc | apply Kd.R_drewN | apply Kd.R_drew)); exact HO_4.out, by repeat (first | (with_reducible first | exact HB.out | apply below_alloc | apply pw_below_drewN | apply below_drew1 | refine below_set ?_ GE318.out) | exact HB.out)⟩
end Go.Proofs.Ytlccejbomgknkaa.PGraphFinds
namespace Go.Proofs.Ytlccejbomgknkaa.PGraphFinds
open Go.RowKit Go.Proofs.YtlccejbomgknkaaW.PrintWords Go.Proofs.YtlccejbomgknkaaW.PrintLast Go.Proofs.YtlccejbomgknkaaW.PrintMore
set_option linter.unusedVariables false
set_option linter.unusedSimpArgs false
mutual
def brickyardref19_less.l0 : Nat → List ByteArray → List ByteArray → Int → Option (Bool)
  | 0, _, _, _ => none
  | k + 1, x0, x1, x5 => if x5 < (x0.length : Int) then (brickyardref19_less.j1 k x0 x1 x5 (decide (x5 < (x1.length : Int)))) else (brickyardref19_less.j1 k x0 x1 x5 false)
def brickyardref19_less.j1 : Nat → List ByteArray → List ByteArray → Int → Bool → Option (Bool)
  | 0, _, _, _, _ => none
  | k + 1, x0, x1, x5, x15 => if x15 = true then (if 0 ≤ x5 then (if x5 < (x0.length : Int) then (if x5 < (x1.length : Int) then (if (rdOf ByteArray.empty x0 x5).toList = (rdOf ByteArray.empty x1 x5).toList then (brickyardref19_less.l0 k x0 x1 (wrap64 (x5 + 1))) else (some (Op.bytesLess ((rdOf ByteArray.empty x0 x5).toList) ((rdOf ByteArray.empty x1 x5).toList)))) else (none)) else (none)) else (none)) else (some (decide ((x0.length : Int) < (x1.length : Int))))
end
def brickyardref19_less.f (k : Nat) (l0 : List ByteArray) (l1 : List ByteArray) : Option (Bool) := brickyardref19_less.l0 k l0 l1 0
theorem brickyardref19_less.mono_l : ∀ k, (∀ y0 y1 y2, LeO (brickyardref19_less.l0 k y0 y1 y2) (brickyardref19_less.l0 (k + 1) y0 y1 y2)) ∧ (∀ y0 y1 y2 y3, LeO (brickyardref19_less.j1 k y0 y1 y2 y3) (brickyardref19_less.j1 (k + 1) y0 y1 y2 y3))
  | 0 => ⟨fun _ _ _ r h => by simp [brickyardref19_less.l0] at h, fun _ _ _ _ r h => by simp [brickyardref19_less.j1] at h⟩
  | k + 1 => by
    obtain ⟨ih0, ih1⟩ := brickyardref19_less.mono_l k
    refine ⟨?_, ?_⟩
    · intro y0 y1 y2
      unfold brickyardref19_less.l0
      repeat' first
      | (with_reducible exact ih0 _ _ _)
      | (with_reducible exact ih1 _ _ _ _)
      | (with_reducible exact LeO.refl _)
      | (with_reducible exact LeO.none _)
      | (with_reducible refine LeO.ite ?_ ?_)
      | (with_reducible refine LeO.bind ?_ (fun _ => ?_))
      | exact ih0 _ _ _
      | exact ih1 _ _ _ _
      | exact LeO.none _
      | refine LeO.ite ?_ ?_
      | refine LeO.bind ?_ (fun _ => ?_)
    · intro y0 y1 y2 y3
      unfold brickyardref19_less.j1
      repeat' first
      | (with_reducible exact ih0 _ _ _)
      | (with_reducible exact ih1 _ _ _ _)
      | (with_reducible exact LeO.refl _)
      | (with_reducible exact LeO.none _)
      | (with_reducible refine LeO.ite ?_ ?_)
      | (with_reducible refine LeO.bind ?_ (fun _ => ?_))
      | exact ih0 _ _ _
      | exact ih1 _ _ _ _
      | exact LeO.none _
      | refine LeO.ite ?_ ?_
      | refine LeO.bind ?_ (fun _ => ?_)
theorem brickyardref19_less.mono : ∀ a0 a1 k, LeO (brickyardref19_less.f k a0 a1) (brickyardref19_less.f (k + 1) a0 a1) := by
  intro a0 a1 k
  obtain ⟨ih0, ih1⟩ := brickyardref19_less.mono_l k
  unfold brickyardref19_less.f
  repeat' first
      | (with_reducible exact ih0 _ _ _)
      | (with_reducible exact ih1 _ _ _ _)
      | (with_reducible exact LeO.refl _)
      | (with_reducible exact LeO.none _)
      | (with_reducible refine LeO.ite ?_ ?_)
      | (with_reducible refine LeO.bind ?_ (fun _ => ?_))
      | exact ih0 _ _ _
      | exact ih1 _ _ _ _
      | exact LeO.none _
      | refine LeO.ite ?_ ?_
      | refine LeO.bind ?_ (fun _ => ?_)
set_option maxHeartbeats 8000000 in
set_option maxRecDepth 100000 in
theorem brickyardref19_less.calls (k : Nat) (A0 : Option Addr) (c0 : Nat) (l0 : List ByteArray) (A1 : Option Addr) (c1 : Nat) (l1 : List ByteArray) (r : Bool) (w : World) (hr0 : Kd.C Kd.string w A0 l0.length l0) (hc0 : l0.length ≤ c0) (hr1 : Kd.C Kd.string w A1 l1.length l1) (hc1 : l1.length ≤ c1) (h : brickyardref19_less.f k l0 l1 = some r) :
    Calls Try.prog 49 #[.slice A0 l0.length c0, .slice A1 l1.length c1] w fun e w' => e = .returned (.bool r) ∧ Drawn0 w w' := by
  have HR0 := Aside0.mk hr0
  have HC0 := Aside0.mk hc0
  clear hr0 hc0
  have HR1 := Aside0.mk hr1
  have HC1 := Aside0.mk hc1
  clear hr1 hc1
  have H : (brickyardref19_less.l0 k l0 l1 0) = some r := h
  clear h
  have H' := Aside0.mk H
  clear H
  go_enter Try.func49, Try.ntmps49
  go_wp2
  repeat (go_quiet (fail); try go_wp2)
  go_loopg [5] k (fun kq v5 w' => ∃ (x5_1 : Int), v5 = .int .i64 x5_1 ∧ Aside0 (brickyardref19_less.l0 kq l0 l1 x5_1 = some r) ∧ Aside0 (kq ≤ k) ∧ Drawn0 w w')
  case atStart => exact ⟨(0), (by first | rfl | (simp; done) | (simp [*]; done)), H', ⟨Nat.le_refl _⟩, by repeat (first | exact Drawn0.refl _ | apply Drawn0.step)⟩
  case round =>
    clear H'
    try clear c1
    try clear p2
    obtain ⟨x5_1, rfl, HA, HK1, ⟨m1, rfl⟩⟩ := hrel
    cases gk with
    | zero => exact absurd HA.out (by simp [brickyardref19_less.l0])
    | succ k1 =>
      have H := HA.out
      clear HA
      simp only [brickyardref19_less.l0] at H
      have HC3 := Aside0.mk H
      clear H
      go_upto_region 2 with (fail)
      repeat (go_quiet (fail); go_upto_region 2 with (fail))
      go_cut [15] (fun v15 wc => ∃ (kq : Nat) (x15_2 : Bool), v15 = .bool x15_2 ∧ Aside0 (brickyardref19_less.j1 kq l0 l1 x5_1 x15_2 = some r) ∧ Aside0 (kq ≤ k1) ∧ Drawn0 w wc)
      case first =>
        have H := HC3.out
        clear HC3
        by_cases c4 : x5_1 < (l0.length : Int)
        · rw [if_pos c4] at H
          have c4b0 : decide (x5_1 < (l0.length : Int)) = true := decide_eq_true c4
          clear c4
          (first | rw [c4b0] | (simp only [i64_w, i32_w]; rw [c4b0]) | skip)
          have H' := Aside0.mk H
          clear H
          go_wp2
          repeat (go_quiet (fail); try go_wp2)
          go_meet
          case rel => exact ⟨_, (decide (x5_1 < (l1.length : Int))), (by first | rfl | (simp; done) | (simp [*]; done)), H', ⟨by have := HK1.out; first | omega | exact Nat.le_refl _⟩, by repeat (first | exact Drawn0.refl _ | apply Drawn0.step)⟩
        · rw [if_neg c4] at H
          have c4b0 : decide (x5_1 < (l0.length : Int)) = false := decide_eq_false c4
          clear c4
          (first | rw [c4b0] | (simp only [i64_w, i32_w]; rw [c4b0]) | skip)
          have H' := Aside0.mk H
          clear H
          go_wp2
          repeat (go_quiet (fail); try go_wp2)
          go_meet
          case rel => exact ⟨_, (false), (by first | rfl | (simp; done) | (simp [*]; done)), H', ⟨by have := HK1.out; first | omega | exact Nat.le_refl _⟩, by repeat (first | exact Drawn0.refl _ | apply Drawn0.step)⟩
      case rest =>
        clear HC3
        try clear c1
        try clear p2
        try clear c4
        try clear c4b0
        try clear p2
        obtain ⟨kq, x15_2, rfl, HA, HJ2, ⟨mc2, rfl⟩⟩ := hcut
        cases kq with
        | zero => exact absurd HA.out (by simp [brickyardref19_less.j1])
        | succ kj2 =>
          have H := HA.out
          clear HA
          simp only [brickyardref19_less.j1] at H
          by_cases c5 : x15_2 = true
          · subst c5
            have H1 : (if 0 ≤ x5_1 then (if x5_1 < (l0.length : Int) then (if x5_1 < (l1.length : Int) then (if (rdOf ByteArray.empty l0 x5_1).toList = (rdOf ByteArray.empty l1 x5_1).toList then (brickyardref19_less.l0 kj2 l0 l1 (wrap64 (x5_1 + 1))) else (some (Op.bytesLess ((rdOf ByteArray.empty l0 x5_1).toList) ((rdOf ByteArray.empty l1 x5_1).toList)))) else (none)) else (none)) else (none)) = some r := by rw [if_pos rfl] at H; exact H
            clear H
            have H := H1
            clear H1
            by_cases c6 : 0 ≤ x5_1
            · rw [if_pos c6] at H
              have c6b0 : decide (0 ≤ x5_1) = true := decide_eq_true c6
              clear c6
              by_cases c7 : x5_1 < (l0.length : Int)
              · rw [if_pos c7] at H
                have c7b0 : decide (x5_1 < (l0.length : Int)) = true := decide_eq_true c7
                clear c7
                by_cases c8 : x5_1 < (l1.length : Int)
                · rw [if_pos c8] at H
                  have c8b0 : decide (x5_1 < (l1.length : Int)) = true := decide_eq_true c8
                  clear c8
                  by_cases c9 : (rdOf ByteArray.empty l0 x5_1).toList = (rdOf ByteArray.empty l1 x5_1).toList
                  · rw [if_pos c9] at H
                    have c9b0 : ((rdOf ByteArray.empty l0 x5_1).toList == (rdOf ByteArray.empty l1 x5_1).toList) = true := beq_iff_eq.mpr c9
                    have c9b1 : ((rdOf ByteArray.empty l0 x5_1).toList != (rdOf ByteArray.empty l1 x5_1).toList) = false := bne_eq_false_iff_eq.mpr c9
                    clear c9
                    have H' := Aside0.mk H
                    clear H
                    have p378 : 0 ≤ (x5_1 : Int) := of_decide_eq_true (by first | (with_reducible assumption) | assumption)
                    have q378 : x5_1 < (l0.length : Int) := of_decide_eq_true (by first | (with_reducible assumption) | assumption)
                    obtain ⟨ad378, e378, hx378_0⟩ := Kd.at_string HR0.out x5_1 p378 q378
                    cases e378
                    replace p378 := eq_true p378
                    replace q378 := eq_true q378
                    have p379 : 0 ≤ (x5_1 : Int) := of_decide_eq_true (by first | (with_reducible assumption) | assumption)
                    have q379 : x5_1 < (l1.length : Int) := of_decide_eq_true (by first | (with_reducible assumption) | assumption)
                    obtain ⟨ad379, e379, hx379_0⟩ := Kd.at_string HR1.out x5_1 p379 q379
                    cases e379
                    replace p379 := eq_true p379
                    replace q379 := eq_true q379
                    go_wp2
                    repeat (go_quiet (fail); try go_wp2)
                    go_roundg kj2
                    case measure => have := HK1.out; have := HJ2.out; omega
                    case rel => exact ⟨(wrap64 (x5_1 + 1)), (by first | rfl | (simp; done) | (simp [*]; done)), H', ⟨by have := HK1.out; have := HJ2.out; omega⟩, by repeat (first | exact Drawn0.refl _ | apply Drawn0.step)⟩
                  · rw [if_neg c9] at H
                    have c9b0 : ((rdOf ByteArray.empty l0 x5_1).toList == (rdOf ByteArray.empty l1 x5_1).toList) = false := beq_eq_false_iff_ne.mpr c9
                    have c9b1 : ((rdOf ByteArray.empty l0 x5_1).toList != (rdOf ByteArray.empty l1 x5_1).toList) = true := bne_iff_ne.mpr c9
                    obtain rfl := Option.some.inj H
                    have p378 : 0 ≤ (x5_1 : Int) := of_decide_eq_true (by first | (with_reducible assumption) | assumption)
                    have q378 : x5_1 < (l0.length : Int) := of_decide_eq_true (by first | (with_reducible assumption) | assumption)
                    obtain ⟨ad378, e378, hx378_0⟩ := Kd.at_string HR0.out x5_1 p378 q378
                    cases e378
                    replace p378 := eq_true p378
                    replace q378 := eq_true q378
                    have p379 : 0 ≤ (x5_1 : Int) := of_decide_eq_true (by first | (with_reducible assumption) | assumption)
                    have q379 : x5_1 < (l1.length : Int) := of_decide_eq_true (by first | (with_reducible assumption) | assumption)
                    obtain ⟨ad379, e379, hx379_0⟩ := Kd.at_string HR1.out x5_1 p379 q379
                    cases e379
                    replace p379 := eq_true p379
                    replace q379 := eq_true q379
                    have p380 : 0 ≤ (x5_1 : Int) := of_decide_eq_true (by first | (with_reducible assumption) | assumption)
                    have q380 : x5_1 < (l0.length : Int) := of_decide_eq_true (by first | (with_reducible assumption) | assumption)
                    obtain ⟨ad380, e380, hx380_0⟩ := Kd.at_string HR0.out x5_1 p380 q380
                    obtain rfl : ad378 = ad380 := (by injection e380)
                    replace p380 := eq_true p380
                    replace q380 := eq_true q380
                    have p381 : 0 ≤ (x5_1 : Int) := of_decide_eq_true (by first | (with_reducible assumption) | assumption)
                    have q381 : x5_1 < (l1.length : Int) := of_decide_eq_true (by first | (with_reducible assumption) | assumption)
                    obtain ⟨ad381, e381, hx381_0⟩ := Kd.at_string HR1.out x5_1 p381 q381
                    obtain rfl : ad379 = ad381 := (by injection e381)
                    replace p381 := eq_true p381
                    replace q381 := eq_true q381
                    go_wp2
                    repeat (go_quiet (fail); try go_wp2)
                    go_ret
                    exact ⟨by first | rfl | (simp; done) | (simp [*]; done), by repeat (first | exact Drawn0.refl _ | apply Drawn0.step)⟩
                · rw [if_neg c8] at H
                  exact absurd H (by simp)
              · rw [if_neg c7] at H
                exact absurd H (by simp)
            · rw [if_neg c6] at H
              exact absurd H (by simp)
          · replace c5 := Bool.eq_false_iff.mpr c5
            subst c5
            have H1 : (some (decide ((l0.length : Int) < (l1.length : Int)))) = some r := by rw [if_neg (show ¬ (false = true) by decide)] at H; exact H
            clear H
            have H := H1
            clear H1
            obtain rfl := Option.some.inj H
            go_wp2
            repeat (go_quiet (fail); try go_wp2)
            go_ret
            exact ⟨by first | rfl | (simp; done) | (simp [*]; done), by repeat (first | exact Drawn0.refl _ | apply Drawn0.step)⟩
end Go.Proofs.Ytlccejbomgknkaa.PGraphFinds
namespace Go.Proofs.Ytlccejbomgknkaa
set_option linter.unusedVariables false
set_option linter.unusedSimpArgs false
open Go.RowKit Go.Maps Go.Proofs.YtlccejbomgknkaaW.PrintWords Go.Proofs.YtlccejbomgknkaaW.PrintLast
def Best (E : Rel) (P : ByteArray → ByteArray → Prop) : Option (List ByteArray) → Prop
  | none => ∀ x y, P x y → E x y → ¬ Reach E y x
  | some b => (∃ x y, CandAt E x y b) ∧ ∀ x y, P x y → E x y → Reach E y x → ∃ c', CandAt E x y c' ∧ ¬ better c' b
theorem Best.congr {E : Rel} {P P' : ByteArray → ByteArray → Prop} {b : Option (List ByteArray)} (h : Best E P b) (hp : ∀ x y, E x y → P' x y → P x y) : Best E P' b := by
  cases b with
  | none => exact fun x y hP hE => h x y (hp x y hE hP) hE
  | some b => exact ⟨h.1, fun x y hP hE => h.2 x y (hp x y hE hP) hE⟩
theorem Best.skip {E : Rel} {P : ByteArray → ByteArray → Prop} {b : Option (List ByteArray)} (h : Best E P b) {x y : ByteArray} (hn : ¬ Reach E y x) : Best E (fun a c => P a c ∨ (a = x ∧ c = y)) b := by
  cases b with
  | none =>
    rintro a c (hP | ⟨rfl, rfl⟩) hE
    · exact h a c hP hE
    · exact hn
  | some b =>
    refine ⟨h.1, ?_⟩
    rintro a c (hP | ⟨rfl, rfl⟩) hE hr
    · exact h.2 a c hP hE hr
    · exact absurd hr hn
theorem better_irrefl (c : List ByteArray) : ¬ better c c := by
  have hl : ∀ l : List ByteArray, ¬ lexlt l l := by
    intro l
    induction l with
    | nil => exact fun h => h
    | cons x l ih => exact fun h => h.elim (fun h => List.lt_irrefl _ h) (fun h => ih h.2)
  rintro (h | ⟨_, h⟩)
  · omega
  · exact hl c h
theorem Best.take {E : Rel} {P : ByteArray → ByteArray → Prop} {b : Option (List ByteArray)} (h : Best E P b) {x y : ByteArray} {c : List ByteArray} (hc : CandAt E x y c) (hb : ∀ b', b = some b' → better c b') : Best E (fun a c => P a c ∨ (a = x ∧ c = y)) (some c) := by
  refine ⟨⟨x, y, hc⟩, ?_⟩
  rintro u v (hP | ⟨rfl, rfl⟩) hE hr
  · cases b with
    | none => exact absurd hr (h u v hP hE)
    | some b =>
      obtain ⟨c', hc', hn⟩ := h.2 u v hP hE hr
      exact ⟨c', hc', fun hh => hn (better_trans hh (hb b rfl))⟩
  · exact ⟨c, hc, better_irrefl c⟩
theorem Best.keep {E : Rel} {P : ByteArray → ByteArray → Prop} {b : List ByteArray} (h : Best E P (some b)) {x y : ByteArray} {c : List ByteArray} (hc : CandAt E x y c) (hb : ¬ better c b) : Best E (fun a c => P a c ∨ (a = x ∧ c = y)) (some b) := by
  refine ⟨h.1, ?_⟩
  rintro u v (hP | ⟨rfl, rfl⟩) hE hr
  · exact h.2 u v hP hE hr
  · exact ⟨c, hc, hb⟩
def BestV (w : World) (base : Nat) (v : Value) : Option (List ByteArray) → Prop
  | none => v = .slice none 0 0
  | some b => ∃ ap c, v = .slice (some ap) b.length c ∧ OwnS w base (some ap) c b
theorem BestV.below {w w' : World} {base : Nat} {v : Value} {b : Option (List ByteArray)} (h : BestV w base v b) (hb : Below w.heap.size w w') : BestV w' base v b := by
  cases b with
  | none => exact h
  | some b =>
    obtain ⟨ap, c, e, ho⟩ := h
    exact ⟨ap, c, e, OwnS.below ho hb⟩
def Cycled (w : World) (E : Rel) (e : Ending) (w' : World) : Prop :=
  Below w.heap.size w w' ∧ ((∃ (A : Option Addr) (c : Nat) (b : List ByteArray), e = .returned (.tuple #[.slice A b.length c, .bool true]) ∧ IsCyc E b ∧ OwnS w' w.heap.size A c b) ∨
    (e = .returned (.tuple #[.slice none 0 0, .bool false]) ∧ ∀ x y, E x y → ¬ Reach E y x))
structure CB (w wr : World) (E : Rel) (P : ByteArray → ByteArray → Prop) (v : Value) (b : Option (List ByteArray)) : Prop where
  bl : Below w.heap.size w wr
  bv : BestV wr w.heap.size v b
  be : Best E P b
section
variable {w : World} {ops : Array Oper} {rest : List Oper} {o : Oper} {a : Act} {Q : Exit → Act → World → Prop}
set_option maxRecDepth 100000 in
theorem wpList_consS (hgd : o.guard = none) (s x : Operand) (ho : o.op = .call { callee := .builtin .append, args := #[s, x], argTypes := #[23, 23] })
    (base : Nat) (nm : ByteArray) (W : World) (hw : w = W.alloc (.cells #[.string nm] 9)) (hs : a.eval s = .slice (some ⟨W.heap.size, 0, none⟩) 1 1) (ap : Addr) (ys : List ByteArray) (n c : Nat) (hx : a.eval x = .slice (some ap) n c) (hn : n = ys.length) (hy : Kd.C Kd.string W (some ap) ys.length ys)
    (hl : ys.length ≤ 1000000) (hbase : base ≤ W.heap.size)
    (h : ∀ (A' : Addr) (c' : Nat) (w' : World), OwnS w' base (some A') c' (nm :: ys) → Below W.heap.size W w' → wpList Try.prog ops Q rest (a.put o.dst (.slice (some A') (n + 1) c')) w') : wpList Try.prog ops Q (o :: rest) a w := by
  obtain ⟨i0, hi, hz0, hz1, hz2⟩ := info_parts infoStr
  subst hw
  have hown : OwnS (W.alloc (.cells #[.string nm] 9)) base (some ⟨W.heap.size, 0, none⟩) 1 [nm] := OwnS.one W base hbase nm
  refine wpList_append_own _ hgd s x 23 ho base 9 i0 (.string ⟨#[]⟩) 1 16 Try.underlying23 hi hz0 hz1 hz2 rfl (by decide) _ 1 (encs Value.string [nm]) hs hown ap n c (encs Value.string ys) hx (by rw [encs_length, Nat.mul_one, hn]) ?_ ?_ ?a63 ?aby ?aba ?_
  case a63 => simp only [maxLen]; omega
  case aby => rw [hn]; omega
  case aba => exact Nat.le_trans hbase (by simp)
  · intro j u hj
    have hjl : j < ys.length := by have := (List.getElem?_eq_some_iff.1 hj).1; rwa [encs_length] at this
    obtain ⟨ad, hA, hc⟩ := Kd.at_string hy (j : Int) (by omega) (by omega)
    injection hA with hA
    subst hA
    simp only [Int.toNat_natCast] at hc
    refine Lib.cell?_alloc_some _ ?_
    rw [hc]
    unfold encs at hj
    rw [List.getElem?_map, has_at hjl] at hj
    injection hj with hj
    rw [← hj]
  · intro u hu
    obtain ⟨y, _, rfl⟩ := List.mem_map.1 hu
    rfl
  · intro v' w' h1 h2 h3
    rw [Nat.add_comm, hn] at h1
    obtain ⟨g', cap', rfl⟩ := Go.ownsRow_succ h1
    rw [← hn]
    refine h ⟨g', 0, none⟩ cap' w' ?_ (((Below.refl _ W).alloc (Nat.le_refl _) _).grown h2 (by simp) (fun k e => by simp [Value.ownBlock] at e; omega))
    show w'.ownsRow base 9 1 _ (ys.length + 1) (encs Value.string (nm :: ys))
    exact h1
end
set_option maxRecDepth 100000 in
set_option maxHeartbeats 8000000 in
theorem Cycle_any {w : World} {B g : Nat} {N : List ByteArray} {E : Rel} (hG : GraphAt w B g N E) (hN : N.length ≤ 1000000) :
    Calls Try.prog 32 #[.pointer (some ⟨g, 0, none⟩)] w (Cycled w E) := by
  have q23 : ∀ (w : World) (a : Option Addr) (n c n' c' : Nat), (binOp .eql 23 (.slice a n c) (.slice none n' c')).run Try.prog w = .ok (.bool a.isNone) w := fun w a n c n' c' => Lib.run_eql_slice_nil w _ _ a n c n' c' Try.underlying23
  have n23 : ∀ (w : World) (a : Option Addr) (n c : Nat), (binOp .neq 23 (.slice a n c) (.slice none 0 0)).run Try.prog w = .ok (.bool (!a.isNone)) w := fun w a n c => run_neq_slice_nil w 23 9 a n c Try.underlying23
  have HNm := Lib.hid (Names_any hG hN)
  have X := Lib.hid (And.intro hG hN)
  clear hG hN
  go_enter Try.func32, Try.ntmps32
  go_wp2_with fail
  refine HNm.out.mono ?_
  rintro e W1 ⟨v, rn, rfl, hrise, hmem, hR, hb1⟩
  obtain ⟨An, cn, rfl⟩ := Kd.R_slice hR
  have hrn : rn.length ≤ 1000000 := by
    have := nodup_len (s := rn) (N := N) (rise_nodup hrise) (fun z hz => (hmem z).1 hz)
    have := X.out.2
    omega
  have Y := Lib.hid (And.intro hmem (And.intro (Kd.R_reads' hR).2.2 hb1))
  have h0 : CB w W1 E (fun a c => ∃ i, i < 0 ∧ rn[i]? = some a) (.slice none 0 0) none := ⟨hb1, rfl, fun x y h => by obtain ⟨i, hi, _⟩ := h; omega⟩
  have H0 := Lib.hid h0
  clear h0 hrise hmem hR hb1 HNm
  go_wp2_with fail
  go_loopg [4, 15] (rn.length + 1) (fun q v4 v15 wr => ∃ (k : Nat) (b : Option (List ByteArray)), v15 = .int .i64 k ∧ k ≤ rn.length ∧ q + k = rn.length + 1 ∧ Hid (CB w wr E (fun a c => ∃ i, i < k ∧ rn[i]? = some a) v4 b) ∧ Hid (Below W1.heap.size W1 wr))
  case atStart => exact ⟨0, none, rfl, by omega, by omega, H0, Below.refl _ _⟩
  case round =>
    obtain ⟨k, b, rfl, hk, hq, HA, HB1⟩ := hrel
    clear H0
    obtain ⟨W2, rfl⟩ : ∃ W2 : World, W2 = wr := ⟨_, rfl⟩
    obtain ⟨q0, rfl⟩ : ∃ q0 : Nat, q0 = gk := ⟨_, rfl⟩
    by_cases hlt : k < rn.length
    · obtain ⟨ad, hA, hcell⟩ := Kd.at_string (Kd.C_below Y.out.2.1 HB1.out) (k : Int) (by omega) (by omega)
      subst hA
      have hrk := has_at hlt
      obtain ⟨nm, hnm⟩ : ∃ nm, nm = rdOf ByteArray.empty rn (k : Int) := ⟨_, rfl⟩
      rw [← hnm] at hcell hrk
      simp only [Int.toNat_natCast] at hcell
      have HO := Lib.hid (Out_any (X.out.1.below HA.out.bl) X.out.2 nm)
      have HRK := Lib.hid hrk
      clear hnm hrk
      go_wp2_with fail
      refine HO.out.mono ?_
      rintro e W3 ⟨v, r, rfl, hrise, hmem, hR, hb3⟩
      obtain ⟨Ar, cr, rfl⟩ := Kd.R_slice hR
      have hrl : r.length ≤ 1000000 := by
        obtain ⟨⟨bo, bi, lo, li, hGr⟩, hN⟩ := X.out
        have := nodup_len (N := N) (rise_nodup hrise) (fun z hz => (hGr.inN _ _ ((hmem z).1 hz)).2)
        omega
      have h0 : CB w W3 E (fun a c => (∃ i, i < k ∧ rn[i]? = some a) ∨ (a = nm ∧ ∃ j, j < 0 ∧ r[j]? = some c)) u4 b :=
        ⟨HA.out.bl.trans (hb3.mono HA.out.bl.size), HA.out.bv.below hb3, HA.out.be.congr fun x y _ h => h.elim id (fun h => by obtain ⟨_, j, hj, _⟩ := h; omega)⟩
      have H1 := Lib.hid h0
      have HB3 := Lib.hid (HB1.out.trans (hb3.mono HB1.out.size))
      have Z := Lib.hid (And.intro hmem (Kd.R_reads' hR).2.2)
      clear h0 hrise hmem hR hb3 HO HA HB1
      go_wp2_with fail
      go_loopg [4, 23] (r.length + 1) (fun q2 v4 v23 wr => ∃ (j : Nat) (b : Option (List ByteArray)), v23 = .int .i64 j ∧ j ≤ r.length ∧ q2 + j = r.length + 1 ∧ Hid (CB w wr E (fun a c => (∃ i, i < k ∧ rn[i]? = some a) ∨ (a = nm ∧ ∃ i, i < j ∧ r[i]? = some c)) v4 b) ∧ Hid (Below W3.heap.size W3 wr))
      case atStart => exact ⟨0, b, rfl, by omega, by omega, H1, Below.refl _ _⟩
      case round =>
        obtain ⟨j, b, rfl, hj, hq2, HI, HB4⟩ := hrel
        clear H1
        obtain ⟨W4, rfl⟩ : ∃ W4 : World, W4 = wr := ⟨_, rfl⟩
        obtain ⟨q1, rfl⟩ : ∃ q1 : Nat, q1 = gk := ⟨_, rfl⟩
        by_cases hjl : j < r.length
        · obtain ⟨a2, hA2, hcell2⟩ := Kd.at_string (Kd.C_below Z.out.2 HB4.out) (j : Int) (by omega) (by omega)
          subst hA2
          have hrj := has_at hjl
          obtain ⟨mv, hmv⟩ : ∃ nm, nm = rdOf ByteArray.empty r (j : Int) := ⟨_, rfl⟩
          rw [← hmv] at hcell2 hrj
          simp only [Int.toNat_natCast] at hcell2
          have hE : Hid (E nm mv) := (Z.out.1 mv).1 (List.mem_of_getElem? hrj)
          have HWy := Lib.hid (Way_any (X.out.1.below HI.out.bl) X.out.2 mv nm)
          have HRJ := Lib.hid hrj
          clear hmv hrj
          have hstep : ∀ (b' : Option (List ByteArray)), Best E (fun a c => ((∃ i, i < k ∧ rn[i]? = some a) ∨ (a = nm ∧ ∃ i, i < j ∧ r[i]? = some c)) ∨ (a = nm ∧ c = mv)) b' → Best E (fun a c => (∃ i, i < k ∧ rn[i]? = some a) ∨ (a = nm ∧ ∃ i, i < j + 1 ∧ r[i]? = some c)) b' := by
            intro b' hb
            refine hb.congr fun x y _ h => ?_
            rcases h with h | ⟨rfl, i, hi, hy⟩
            · exact .inl (.inl h)
            · by_cases e : i = j
              · subst e
                rw [HRJ.out] at hy
                injection hy with hy
                exact .inr ⟨rfl, hy.symm⟩
              · exact .inl (.inr ⟨rfl, i, by omega, hy⟩)
          have HST := Lib.hid hstep
          clear hstep
          go_wp2_with fail
          refine HWy.out.mono ?_
          rintro e W5 ⟨hb5, ⟨Ap, cp, p, d, rfl, _, _, hD, hGW, hO⟩ | ⟨rfl, hno⟩⟩
          · have hway := GW.way d hD hGW
            have hplen := hway.len
            have hpN : d ≤ 1000000 := by
              obtain ⟨⟨bo, bi, lo, li, hGr⟩, hN⟩ := X.out
              have := dist_lt hGr.inN (hGr.inN _ _ hE.out).1 hD
              omega
            have hCp := hO.reads
            have hcp := (Kd.R_reads' hO.kd).2.1
            obtain ⟨ap, hAp, _⟩ := Kd.at_string hCp (0 : Int) (by omega) (by rw [hplen]; omega)
            subst hAp
            rw [hplen] at hcp
            have htk : Kd.C Kd.string W5 (some ap) (p.take d).length (p.take d) := C_take hCp (by omega)
            have hdl : p.take d = p.dropLast := by rw [List.dropLast_eq_take, hplen]; rfl
            have htl : (p.take d).length = d := by rw [List.length_take]; omega
            have hcand : CandAt E nm mv (nm :: p.take d) := ⟨hE.out, d, p, hD, hGW, by rw [hdl]⟩
            have P5 := Lib.hid (And.intro hb5 (And.intro htk (And.intro htl hcand)))
            have HPL := Lib.hid hplen
            have hdp : 0 < (d : Int) + 1 := by omega
            have hbs : w.heap.size ≤ W5.heap.size := Nat.le_trans HI.out.bl.size hb5.size
            rw [hplen]
            clear hb5 htk htl hcand hdl hCp hO hway hD hGW HWy hplen
            go_wp2_with (at_builtin; refine wpList_consS rfl (.tmp 37) (.tmp 42) rfl w.heap.size nm W5 rfl rfl ap (p.take d) d cp rfl (P5.out.2.2.1).symm P5.out.2.1 (by rw [P5.out.2.2.1]; exact hpN) hbs ?_)
            intro ac cc W6 hown hb6
            have Z6 := Lib.hid (And.intro hown (And.intro hb6 (P5.out.1.trans (hb6.mono P5.out.1.size))))
            clear hown hb6
            have hbt : ∀ (v : Value) (bb : Option (List ByteArray)), BestV W6 w.heap.size v bb → Best E (fun a c => ((∃ i, i < k ∧ rn[i]? = some a) ∨ (a = nm ∧ ∃ i, i < j ∧ r[i]? = some c)) ∨ (a = nm ∧ c = mv)) bb → CB w W6 E (fun a c => (∃ i, i < k ∧ rn[i]? = some a) ∨ (a = nm ∧ ∃ i, i < j + 1 ∧ r[i]? = some c)) v bb ∧ Below W3.heap.size W3 W6 := fun v bb h1 h2 => ⟨⟨HI.out.bl.trans (Z6.out.2.2.mono HI.out.bl.size), h1, HST.out _ h2⟩, HB4.out.trans (Z6.out.2.2.mono HB4.out.size)⟩
            have HBT := Lib.hid hbt
            have htv : Hid (BestV W6 w.heap.size (.slice (some ac) (d + 1) cc) (some (nm :: p.take d))) := by
              refine ⟨ac, cc, ?_, Z6.out.1⟩
              rw [List.length_cons, P5.out.2.2.1]
            clear hbt
            cases b with
            | none =>
              have e : u4 = .slice none 0 0 := HI.out.bv
              subst e
              have HBn : Hid (Best E (fun a c => ((∃ i, i < k ∧ rn[i]? = some a) ∨ (a = nm ∧ ∃ i, i < j ∧ r[i]? = some c)) ∨ (a = nm ∧ c = mv)) (some (nm :: p.take d))) := HI.out.be.take P5.out.2.2.2 (fun b' h => by cases h)
              go_wp2_with fail
              go_roundg (r.length - j)
              case measure => omega
              case rel =>
                obtain ⟨h1, h2⟩ := HBT.out _ _ htv.out HBn.out
                exact ⟨j + 1, _, by go_num, by omega, by omega, h1, h2⟩
            | some b =>
              obtain ⟨ab, cb, e, ho⟩ := HI.out.bv
              subst e
              have hkv : Hid (OwnS W6 w.heap.size (some ab) cb b) := OwnS.below ho Z6.out.2.2
              clear ho
              have hbe := Lib.hid HI.out.be
              clear HI
              rcases Nat.lt_trichotomy (d + 1) b.length with hlb | hlb | hlb
              · have HBn : Hid (Best E (fun a c => ((∃ i, i < k ∧ rn[i]? = some a) ∨ (a = nm ∧ ∃ i, i < j ∧ r[i]? = some c)) ∨ (a = nm ∧ c = mv)) (some (nm :: p.take d))) := hbe.out.take P5.out.2.2.2 (fun b' h => by
                  injection h with h
                  subst h
                  exact .inl (by rw [List.length_cons, P5.out.2.2.1]; exact hlb))
                go_wp2_with fail
                go_roundg (r.length - j)
                case measure => omega
                case rel =>
                  obtain ⟨h1, h2⟩ := HBT.out _ _ htv.out HBn.out
                  exact ⟨j + 1, _, by go_num, by omega, by omega, h1, h2⟩
              · have hbl : b.length = d + 1 := hlb.symm
                clear hlb
                have HCm : Hid (Calls Try.prog 48 #[.slice (some ac) (d + 1) cc, .slice (some ab) (d + 1) cb] W6 fun e w' => e = .returned (.int .i64 (cmpL (nm :: p.take d) b)) ∧ w' = W6) := by
                  have := Compare_any (w := W6) (some ac) (some ab) cc cb (nm :: p.take d) b Z6.out.1.reads hkv.out.reads (by rw [List.length_cons, P5.out.2.2.1, hbl])
                  rw [List.length_cons, P5.out.2.2.1] at this
                  exact this
                obtain ⟨cv, hcv⟩ : ∃ cv, cv = cmpL (nm :: p.take d) b := ⟨_, rfl⟩
                rw [← hcv] at HCm
                have hcn : Hid (cv < 0 ↔ lexlt (nm :: p.take d) b) := by rw [hcv]; exact cmpL_neg
                clear hcv
                by_cases hneg : cv < 0
                · have HBn : Hid (Best E (fun a c => ((∃ i, i < k ∧ rn[i]? = some a) ∨ (a = nm ∧ ∃ i, i < j ∧ r[i]? = some c)) ∨ (a = nm ∧ c = mv)) (some (nm :: p.take d))) := hbe.out.take P5.out.2.2.2 (fun b' h => by
                    injection h with h
                    subst h
                    exact .inr ⟨by rw [List.length_cons, P5.out.2.2.1, hbl], hcn.out.1 hneg⟩)
                  go_wp2_with fail
                  refine HCm.out.mono ?_
                  rintro e W6' ⟨rfl, hw⟩
                  obtain rfl : W6 = W6' := hw.symm
                  go_wp2_with fail
                  go_roundg (r.length - j)
                  case measure => omega
                  case rel =>
                    obtain ⟨h1, h2⟩ := HBT.out _ _ htv.out HBn.out
                    exact ⟨j + 1, _, by go_num, by omega, by omega, h1, h2⟩
                · have HBn : Hid (Best E (fun a c => ((∃ i, i < k ∧ rn[i]? = some a) ∨ (a = nm ∧ ∃ i, i < j ∧ r[i]? = some c)) ∨ (a = nm ∧ c = mv)) (some b)) := hbe.out.keep P5.out.2.2.2 (by
                    rintro (h | ⟨_, h⟩)
                    · rw [List.length_cons, P5.out.2.2.1, hbl] at h
                      omega
                    · exact hneg (hcn.out.2 h))
                  go_wp2_with fail
                  refine HCm.out.mono ?_
                  rintro e W6' ⟨rfl, hw⟩
                  obtain rfl : W6 = W6' := hw.symm
                  go_wp2_with fail
                  go_roundg (r.length - j)
                  case measure => omega
                  case rel =>
                    obtain ⟨h1, h2⟩ := HBT.out (.slice (some ab) b.length cb) (some b) ⟨ab, cb, rfl, hkv.out⟩ HBn.out
                    rw [hbl] at h1
                    exact ⟨j + 1, _, by go_num, by omega, by omega, h1, h2⟩
              · have HBn : Hid (Best E (fun a c => ((∃ i, i < k ∧ rn[i]? = some a) ∨ (a = nm ∧ ∃ i, i < j ∧ r[i]? = some c)) ∨ (a = nm ∧ c = mv)) (some b)) := hbe.out.keep P5.out.2.2.2 (by
                  rintro (h | ⟨h, _⟩)
                  · rw [List.length_cons, P5.out.2.2.1] at h
                    omega
                  · rw [List.length_cons, P5.out.2.2.1] at h
                    omega)
                have hne : ((d : Int) + 1 == (b.length : Int)) = false := by
                  simp only [beq_eq_false_iff_ne, ne_eq]
                  omega
                go_wp2_with fail
                go_roundg (r.length - j)
                case measure => omega
                case rel =>
                  obtain ⟨h1, h2⟩ := HBT.out (.slice (some ab) b.length cb) (some b) ⟨ab, cb, rfl, hkv.out⟩ HBn.out
                  exact ⟨j + 1, _, by go_num, by omega, by omega, h1, h2⟩
          · have hnr : Hid (¬ Reach E mv nm) := fun hr => by
              obtain ⟨⟨bo, bi, lo, li, hGr⟩, hN⟩ := X.out
              have hh := hGr.inN _ _ hE.out
              exact hno ⟨hh.2, hh.1, hr⟩
            have P5 := Lib.hid hb5
            clear hb5 hno HWy
            go_wp2_with fail
            go_roundg (r.length - j)
            case measure => omega
            case rel =>
              exact ⟨j + 1, b, by go_num, by omega, by omega, ⟨HI.out.bl.trans (P5.out.mono HI.out.bl.size), HI.out.bv.below P5.out, HST.out _ (HI.out.be.skip hnr.out)⟩, HB4.out.trans (P5.out.mono HB4.out.size)⟩
        · go_wp2_with fail
          go_roundg (rn.length - k)
          case measure => omega
          case rel =>
            refine ⟨k + 1, b, by go_num, by omega, by omega, ⟨HI.out.bl, HI.out.bv, HI.out.be.congr fun x y hE h => ?_⟩, HB3.out.trans (HB4.out.mono HB3.out.size)⟩
            obtain ⟨i, hi, hx⟩ := h
            by_cases e : i = k
            · subst e
              rw [HRK.out] at hx
              injection hx with hx
              subst hx
              obtain ⟨i2, hi2⟩ := List.getElem?_of_mem ((Z.out.1 y).2 hE)
              have := (List.getElem?_eq_some_iff.1 hi2).1
              exact .inr ⟨rfl, i2, by omega, hi2⟩
            · exact .inl ⟨i, by omega, hx⟩
    · have hall : Best E (fun _ _ => True) b := HA.out.be.congr fun x y hE _ => by
        obtain ⟨⟨bo, bi, lo, li, hGr⟩, hN⟩ := X.out
        obtain ⟨i, hi⟩ := List.getElem?_of_mem ((Y.out.1 x).2 (hGr.inN _ _ hE).1)
        have := (List.getElem?_eq_some_iff.1 hi).1
        exact ⟨i, by omega, hi⟩
      have hbv := HA.out.bv
      have HBL := Lib.hid HA.out.bl
      have HAL := Lib.hid hall
      clear hall HA
      cases b with
      | none =>
        have e : u4 = .slice none 0 0 := hbv
        subst e
        clear hbv
        go_wp2_with fail
        go_ret2
        exact ⟨HBL.out, .inr ⟨rfl, fun x y hE => HAL.out x y trivial hE⟩⟩
      | some b =>
        obtain ⟨ap, c, e, ho⟩ := hbv
        subst e
        have HO := Lib.hid ho
        clear ho
        go_wp2_with fail
        go_ret2
        exact ⟨HBL.out, .inl ⟨some ap, c, b, rfl, ⟨HAL.out.1, fun x y hE hr => HAL.out.2 x y trivial hE hr⟩, HO.out⟩⟩
end Go.Proofs.Ytlccejbomgknkaa
namespace Go.Proofs.Ytlccejbomgknkaa
set_option linter.unusedVariables false
set_option linter.unusedSimpArgs false
open Go.RowKit Go.Maps Go.Proofs.YtlccejbomgknkaaW.PrintWords Go.Proofs.YtlccejbomgknkaaW.PrintLast
open PGraphFinds
theorem less_ev {xs ys : List ByteArray} (hl : xs.length = ys.length) (hb : xs.length ≤ 1000000) : ∃ v, Ev (fun k => brickyardref19_less.f k xs ys) v ∧ (v = true ↔ lexlt xs ys) := by
  have key : ∀ (m i : Nat), i ≤ xs.length → xs.length ≤ m + i → ∃ v, Ev (fun k => brickyardref19_less.l0 k xs ys (i : Int)) v ∧ (v = true ↔ lexlt (xs.drop i) (ys.drop i)) := by
    have hend : ∀ i, i ≤ xs.length → xs.length ≤ i → ∃ v, Ev (fun k => brickyardref19_less.l0 k xs ys (i : Int)) v ∧ (v = true ↔ lexlt (xs.drop i) (ys.drop i)) := by
      intro i h1 h2
      refine ⟨false, ⟨2, fun k hk => ?_⟩, ?_⟩
      · obtain ⟨j, rfl⟩ : ∃ j, k = j + 1 + 1 := ⟨k - 2, by omega⟩
        simp only [brickyardref19_less.l0, brickyardref19_less.j1]
        rw [if_neg (by omega), if_neg (by simp), decide_eq_false (by omega)]
      · rw [List.drop_eq_nil_of_le (by omega), List.drop_eq_nil_of_le (by omega)]
        simp [lexlt]
    intro m
    induction m with
    | zero => intro i h1 h2; exact hend i h1 (by omega)
    | succ m ih =>
      intro i h1 h2
      by_cases hil : i < xs.length
      · have hx := has_at hil
        have hy := has_at (xs := ys) (k := i) (by omega)
        have dx : xs.drop i = rdOf ByteArray.empty xs (i : Int) :: xs.drop (i + 1) := by
          obtain ⟨h, e⟩ := List.getElem?_eq_some_iff.1 hx
          rw [List.drop_eq_getElem_cons h, e]
        have dy : ys.drop i = rdOf ByteArray.empty ys (i : Int) :: ys.drop (i + 1) := by
          obtain ⟨h, e⟩ := List.getElem?_eq_some_iff.1 hy
          rw [List.drop_eq_getElem_cons h, e]
        by_cases he : rdOf ByteArray.empty xs (i : Int) = rdOf ByteArray.empty ys (i : Int)
        · obtain ⟨v, ⟨k0, hk0⟩, hv⟩ := ih (i + 1) (by omega) (by omega)
          refine ⟨v, ⟨k0 + 2, fun k hk => ?_⟩, ?_⟩
          · obtain ⟨j, rfl⟩ : ∃ j, k = j + 1 + 1 := ⟨k - 2, by omega⟩
            simp only [brickyardref19_less.l0, brickyardref19_less.j1]
            rw [if_pos (by omega), if_pos (by simp; omega), if_pos (by omega), if_pos (by omega), if_pos (by omega), if_pos (toL.2 he), w64 (by omega)]
            exact hk0 j (by omega)
          · rw [dx, dy, hv]
            simp only [lexlt]
            constructor
            · exact fun h => .inr ⟨he, h⟩
            · rintro (h | ⟨_, h⟩)
              · rw [he] at h; exact absurd h (List.lt_irrefl _)
              · exact h
        · refine ⟨decide (bs (rdOf ByteArray.empty xs (i : Int)) < bs (rdOf ByteArray.empty ys (i : Int))), ⟨2, fun k hk => ?_⟩, ?_⟩
          · obtain ⟨j, rfl⟩ : ∃ j, k = j + 1 + 1 := ⟨k - 2, by omega⟩
            simp only [brickyardref19_less.l0, brickyardref19_less.j1]
            rw [if_pos (by omega), if_pos (by simp; omega), if_pos (by omega), if_pos (by omega), if_pos (by omega), if_neg (fun h => he (toL.1 h)), less_bs]
          · rw [dx, dy]
            simp only [lexlt, decide_eq_true_eq]
            exact ⟨fun h => .inl h, fun h => h.elim id (fun h => absurd h.1 he)⟩
      · exact hend i h1 (by omega)
  obtain ⟨v, h1, h2⟩ := key xs.length 0 (by omega) (by omega)
  exact ⟨v, h1, h2⟩
theorem less_any {w : World} (A1 A2 : Option Addr) (c1 c2 : Nat) (xs ys : List ByteArray) (h1 : Kd.C Kd.string w A1 xs.length xs) (h2 : Kd.C Kd.string w A2 ys.length ys) (g1 : xs.length ≤ c1) (g2 : ys.length ≤ c2) (hl : xs.length = ys.length) (hb : xs.length ≤ 1000000) :
    Calls Try.prog 49 #[.slice A1 xs.length c1, .slice A2 ys.length c2] w fun e w' => ∃ v, e = .returned (.bool v) ∧ (v = true ↔ lexlt xs ys) ∧ ∃ q, w' = w.drewN q := by
  obtain ⟨v, ⟨k, hk⟩, hv⟩ := less_ev hl hb
  refine (brickyardref19_less.calls k A1 c1 xs A2 c2 ys v w h1 g1 h2 g2 (hk k (Nat.le_refl _))).mono ?_
  rintro e w' ⟨rfl, q, rfl⟩
  exact ⟨v, rfl, hv, q, rfl⟩
def OrderIs (N : List ByteArray) (E : Rel) (v : List ByteArray × Bool) : Prop :=
  (v.2 = true ∧ Kahn N E v.1 ∧ ∀ x ∈ N, x ∈ v.1) ∨ (v.2 = false ∧ v.1 = [] ∧ ∃ out, Kahn N E out ∧ (∃ x ∈ N, x ∉ out) ∧ ∀ z ∈ N, z ∉ out → ∃ y, E z y ∧ y ∉ out)
theorem order_l2 {gn : List ByteArray} {l : List S45} (hg : gn.length ≤ 100000) {out : List ByteArray} (ho : out.length ≤ 1000000) {f : Bool} {i : Nat} (hi : i < gn.length) {r : List ByteArray} (hrl : r.length ≤ 1000000) {v : List ByteArray × Bool}
    (hy : (∀ z ∈ r, z ∈ out) → Ev (fun k => brickyardref19_Order.l1 k (out ++ [rdOf ByteArray.empty gn (i : Int)]) true (i + 1 : Nat) gn l) v) (hn : ¬ (∀ z ∈ r, z ∈ out) → Ev (fun k => brickyardref19_Order.l1 k out f (i + 1 : Nat) gn l) v) :
    ∀ (m j : Nat) (b : Bool), j ≤ r.length → r.length ≤ m + j → (b = true ↔ ∀ z ∈ r.take j, z ∈ out) → Ev (fun k => brickyardref19_Order.l2 k out f (i : Int) b r (j : Int) gn l) v := by
  have hend : ∀ (j : Nat) (b : Bool), r.length ≤ j → (b = true ↔ ∀ z ∈ r.take j, z ∈ out) → Ev (fun k => brickyardref19_Order.l2 k out f (i : Int) b r (j : Int) gn l) v := by
    intro j b hj hbb
    rw [List.take_of_length_le hj] at hbb
    by_cases h : ∀ z ∈ r, z ∈ out
    · refine (hy h).step ⟨0, fun k _ => ?_⟩
      simp only [brickyardref19_Order.l2]
      rw [if_neg (by omega), if_pos (hbb.2 h), if_pos (by omega), if_pos (by omega), if_pos (by omega), w64 (by omega)]
    · refine (hn h).step ⟨0, fun k _ => ?_⟩
      simp only [brickyardref19_Order.l2]
      rw [if_neg (by omega), if_neg (fun hh => h (hbb.1 hh)), w64 (by omega)]
  intro m
  induction m with
  | zero => intro j b h1 h2 h3; exact hend j b (by omega) h3
  | succ m ih =>
    intro j b h1 h2 h3
    by_cases hjl : j < r.length
    · have hat := has_at hjl
      have hnx : ∀ z, z ∈ r.take (j + 1) ↔ z ∈ r.take j ∨ z = rdOf ByteArray.empty r (j : Int) := take_mem hjl rfl
      by_cases hbt : b = true
      · obtain ⟨kh, hkh⟩ : ∃ kh, ∀ k, kh ≤ k → brickyardref19_has.f k out (rdOf ByteArray.empty r (j : Int)) = some (Lib.containsS out (rdOf ByteArray.empty r (j : Int))) := has_ev (x0 := out) ho (rdOf ByteArray.empty r (j : Int))
        refine (ih (j + 1) (Lib.containsS out (rdOf ByteArray.empty r (j : Int))) (by omega) (by omega) ?_).step ⟨kh, fun k hk => ?_⟩
        · rw [Lib.containsS_iff]
          constructor
          · intro h z hz
            rcases (hnx z).1 hz with hz | rfl
            · exact h3.1 hbt z hz
            · exact h
          · exact fun h => h _ ((hnx _).2 (.inr rfl))
        · simp only [brickyardref19_Order.l2]
          rw [if_pos (by omega), if_pos hbt, if_pos (by omega), hkh k hk]
          simp only [Option.bind_some]
          rw [w64 (by omega)]
      · refine (ih (j + 1) false (by omega) (by omega) ?_).step ⟨0, fun k _ => ?_⟩
        · constructor
          · intro h; cases h
          · intro h
            exact absurd (h3.2 (fun z hz => h z ((hnx z).2 (.inl hz)))) hbt
        · simp only [brickyardref19_Order.l2]
          rw [if_pos (by omega), if_neg hbt, w64 (by omega)]
    · exact hend j b (by omega) h3
theorem order_found {gn : List ByteArray} {l : List S45} {out : List ByteArray} {i : Nat} {v : List ByteArray × Bool} (h : Ev (fun k => brickyardref19_Order.l0 k out gn l) v) : Ev (fun k => brickyardref19_Order.l1 k out true (i : Int) gn l) v := by
  obtain ⟨k0, hk0⟩ := h
  refine ⟨k0 + 2, fun k hk => ?_⟩
  obtain ⟨j, rfl⟩ : ∃ j, k = j + 1 + 1 := ⟨k - 2, by omega⟩
  simp only [brickyardref19_Order.l1, brickyardref19_Order.j2, Bool.not_true]
  by_cases h : (i : Int) < (gn.length : Int)
  · rw [if_pos h, if_neg (by simp), if_pos trivial]
    exact hk0 j (by omega)
  · rw [if_neg h, if_neg (by simp), if_pos trivial]
    exact hk0 j (by omega)
section
variable {gn : List ByteArray} {l : List S45} (hb : l.length ≤ 1000) (hg : gn.length ≤ 100000) (hr : Rise gn) (hE : ∀ x y, edg l x y → x ∈ gn ∧ y ∈ gn)
include hb hg hr hE
theorem order_l0 : ∀ (m : Nat) (out : List ByteArray), gn.length ≤ m + out.length → Kahn gn (edg l) out → ∃ v, Ev (fun k => brickyardref19_Order.l0 k out gn l) v ∧ OrderIs gn (edg l) v := by
  have hend : ∀ (out : List ByteArray), gn.length ≤ out.length → Kahn gn (edg l) out → ∃ v, Ev (fun k => brickyardref19_Order.l0 k out gn l) v ∧ OrderIs gn (edg l) v := by
    intro out ho hk
    refine ⟨(out, true), ⟨1, fun k hk => ?_⟩, .inl ⟨rfl, hk, fun x hx => ?_⟩⟩
    · obtain ⟨j, rfl⟩ : ∃ j, k = j + 1 := ⟨k - 1, by omega⟩
      simp only [brickyardref19_Order.l0]
      rw [if_neg (by omega)]
    · refine Classical.byContradiction fun hn => ?_
      have := nodup_len (s := x :: out) (N := gn) (List.nodup_cons.2 ⟨hn, hk.nodup.1⟩) (fun z hz => by
        rcases List.mem_cons.1 hz with rfl | hz
        · exact hx
        · exact hk.nodup.2 z hz)
      rw [List.length_cons] at this
      omega
  intro m
  induction m with
  | zero => intro out ho hk; exact hend out (by omega) hk
  | succ m ih =>
    intro out ho hk
    by_cases hlt : out.length < gn.length
    · have hol : out.length ≤ 1000000 := by omega
      have scan : ∀ (q i : Nat), i ≤ gn.length → gn.length ≤ q + i → (∀ j z, j < i → gn[j]? = some z → z ∈ out ∨ ∃ y, edg l z y ∧ y ∉ out) → ∃ v, Ev (fun k => brickyardref19_Order.l1 k out false (i : Int) gn l) v ∧ OrderIs gn (edg l) v := by
        have send : ∀ i, i ≤ gn.length → gn.length ≤ i → (∀ j z, j < i → gn[j]? = some z → z ∈ out ∨ ∃ y, edg l z y ∧ y ∉ out) → ∃ v, Ev (fun k => brickyardref19_Order.l1 k out false (i : Int) gn l) v ∧ OrderIs gn (edg l) v := by
          intro i h1 h2 h3
          refine ⟨([], false), ⟨2, fun k hk => ?_⟩, .inr ⟨rfl, rfl, out, hk, ?_, ?_⟩⟩
          · obtain ⟨j, rfl⟩ : ∃ j, k = j + 1 + 1 := ⟨k - 2, by omega⟩
            simp only [brickyardref19_Order.l1, brickyardref19_Order.j2]
            rw [if_neg (by omega), if_neg (by simp), if_neg (by simp)]
          · refine Classical.byContradiction fun hn => ?_
            have := nodup_len (s := gn) (N := out) (rise_nodup hr) (fun z hz => Classical.byContradiction fun h => hn ⟨z, hz, h⟩)
            omega
          · intro z hz hzo
            obtain ⟨j, hj⟩ := List.getElem?_of_mem hz
            have := (List.getElem?_eq_some_iff.1 hj).1
            exact (h3 j z (by omega) hj).elim (fun h => absurd h hzo) id
        intro q
        induction q with
        | zero => intro i h1 h2 h3; exact send i h1 (by omega) h3
        | succ q ihq =>
          intro i h1 h2 h3
          by_cases hil : i < gn.length
          · have hat := has_at hil
            have hcn : rdOf ByteArray.empty gn (i : Int) ∈ gn := List.mem_of_getElem? hat
            obtain ⟨kh, hkh⟩ : ∃ kh, ∀ k, kh ≤ k → brickyardref19_has.f k out (rdOf ByteArray.empty gn (i : Int)) = some (Lib.containsS out (rdOf ByteArray.empty gn (i : Int))) := has_ev (x0 := out) hol (rdOf ByteArray.empty gn (i : Int))
            by_cases hin : rdOf ByteArray.empty gn (i : Int) ∈ out
            · obtain ⟨v, hv, hs⟩ := ihq (i + 1) (by omega) (by omega) (fun j z hj hz => by
                by_cases e : j = i
                · subst e
                  rw [hat] at hz
                  injection hz with hz
                  subst hz
                  exact .inl hin
                · exact h3 j z (by omega) hz)
              obtain ⟨k0, hk0⟩ := hv
              refine ⟨v, ⟨k0 + kh + 2, fun k hk => ?_⟩, hs⟩
              obtain ⟨j, rfl⟩ : ∃ j, k = j + 1 + 1 := ⟨k - 2, by omega⟩
              simp only [brickyardref19_Order.l1, brickyardref19_Order.j2, Bool.not_false]
              rw [if_pos (by omega), if_pos trivial, if_pos (by omega), if_pos (by omega), hkh j (by omega), contains_yes hin]
              simp only [Option.bind_some, if_true]
              rw [w64 (by omega)]
              exact hk0 j (by omega)
            · obtain ⟨r, hre, h5, hrm⟩ := out_ev gn (l := l) (by omega) (rdOf ByteArray.empty gn (i : Int))
              obtain ⟨kr, hkr⟩ : ∃ kr, ∀ k, kr ≤ k → brickyardref19_Out.f k gn l (rdOf ByteArray.empty gn (i : Int)) = some r := hre
              have hrl : r.length ≤ 1000000 := by
                have := nodup_len (rise_nodup h5) (N := gn) (fun z hz => (hE _ _ ((hrm z).1 hz)).2)
                omega
              have back : ∀ v, Ev (fun k => brickyardref19_Order.l2 k out false (i : Int) true r 0 gn l) v → Ev (fun k => brickyardref19_Order.l1 k out false (i : Int) gn l) v := by
                rintro v ⟨k0, hk0⟩
                refine ⟨k0 + kh + kr + 2, fun k hk => ?_⟩
                obtain ⟨j, rfl⟩ : ∃ j, k = j + 1 + 1 := ⟨k - 2, by omega⟩
                simp only [brickyardref19_Order.l1, brickyardref19_Order.j2, Bool.not_false]
                rw [if_pos (by omega), if_pos trivial, if_pos (by omega), if_pos (by omega), hkh j (by omega), contains_no hin]
                simp only [Option.bind_some, Bool.false_eq_true, if_false]
                rw [hkr j (by omega)]
                exact hk0 j (by omega)
              by_cases hall : ∀ z ∈ r, z ∈ out
              · have hk2 : Kahn gn (edg l) (out ++ [rdOf ByteArray.empty gn (i : Int)]) := by
                  refine .snoc hk hcn hin (fun y hy => hall y ((hrm y).2 hy)) (fun z hz hzo hzf => ?_)
                  obtain ⟨j, hj⟩ := List.getElem?_of_mem hz
                  rcases Nat.lt_trichotomy j i with h | h | h
                  · rcases h3 j z h hj with h' | ⟨y, hy, hyo⟩
                    · exact absurd h' hzo
                    · exact absurd (hzf y hy) hyo
                  · subst h
                    rw [hat] at hj
                    injection hj with hj
                    exact .inl hj.symm
                  · refine .inr ?_
                    obtain ⟨g1, e1⟩ := List.getElem?_eq_some_iff.1 hat
                    obtain ⟨g2, e2⟩ := List.getElem?_eq_some_iff.1 hj
                    have := List.pairwise_iff_getElem.1 hr i j g1 g2 h
                    rw [e1, e2] at this
                    exact this
                obtain ⟨v, hv, hs⟩ := ih (out ++ [rdOf ByteArray.empty gn (i : Int)]) (by rw [List.length_append, List.length_singleton]; omega) hk2
                refine ⟨v, back v ?_, hs⟩
                exact order_l2 hg hol hil hrl (fun _ => order_found hv) (fun hn => absurd hall hn) r.length 0 true (by omega) (by omega) (by simp)
              · obtain ⟨v, hv, hs⟩ := ihq (i + 1) (by omega) (by omega) (fun j z hj hz => by
                  by_cases e : j = i
                  · subst e
                    rw [hat] at hz
                    injection hz with hz
                    subst hz
                    refine .inr (Classical.byContradiction fun hn => hall fun y hy => Classical.byContradiction fun hyo => hn ⟨y, (hrm y).1 hy, hyo⟩)
                  · exact h3 j z (by omega) hz)
                refine ⟨v, back v ?_, hs⟩
                exact order_l2 hg hol hil hrl (fun h => absurd h hall) (fun _ => hv) r.length 0 true (by omega) (by omega) (by simp)
          · exact send i h1 (by omega) h3
      obtain ⟨v, hv, hs⟩ := scan gn.length 0 (by omega) (by omega) (fun j z hj => by omega)
      refine ⟨v, hv.step ⟨0, fun k _ => ?_⟩, hs⟩
      simp only [brickyardref19_Order.l0]
      rw [if_pos (by omega)]
      rfl
    · exact hend out (by omega) hk
theorem order_ev : ∃ v, Ev (fun k => brickyardref19_Order.f k gn l) v ∧ OrderIs gn (edg l) v := order_l0 hb hg hr hE gn.length [] (by simp) .nil
end
theorem refOrder_any {w : World} {An Ae : Option Addr} {cn ce : Nat} {rn : List ByteArray} {re : List Pr} (h : RefAt w An cn rn Ae ce re) (hr : Rise rn) :
    Calls Try.prog 31 #[.agg #[.slice An rn.length cn, .slice Ae re.length ce]] w fun e w' => ∃ (A : Option Addr) (c : Nat) (r1 : List ByteArray) (r2 : Bool), e = .returned (.tuple #[.slice A r1.length c, .bool r2]) ∧ OrderIs rn (memb re) (r1, r2) ∧ Kd.C Kd.string w' A r1.length r1 ∧ Below w.heap.size w w' := by
  have hl : (re.map toS).length = re.length := List.length_map _
  obtain ⟨⟨r1, r2⟩, ⟨k, hk⟩, hw⟩ := order_ev (gn := rn) (l := re.map toS) (by rw [hl]; exact h.le) (by have := h.ln; omega) hr h.inE
  have hc := PGraphFinds.brickyardref19_Order.calls k An cn rn Ae ce (re.map toS) r1 r2 w h.n h.nc (by rw [hl]; exact C_to_k45 h.e) (by rw [hl]; exact h.ec) (hk k (Nat.le_refl _))
  rw [hl] at hc
  rw [edg_toS] at hw
  refine hc.mono ?_
  rintro e w' ⟨v, rfl, hR, hb⟩
  obtain ⟨A, c, rfl⟩ := Kd.R_slice hR
  exact ⟨A, c, r1, r2, rfl, hw, (Kd.R_reads' hR).2.2, hb⟩
theorem Kahn.congr {N N' : List ByteArray} {E : Rel} {o : List ByteArray} (h : Kahn N E o) (hN : ∀ z, z ∈ N ↔ z ∈ N') : Kahn N' E o := by
  induction h with
  | nil => exact .nil
  | snoc h hN0 hx hall hleast ih => exact .snoc ih ((hN _).1 hN0) hx hall (fun z hz => hleast z ((hN z).2 hz))
theorem Kahn.last {N : List ByteArray} {E : Rel} {o p : List ByteArray} {x : ByteArray} (h : Kahn N E p) (e : p = o ++ [x]) : Kahn N E o ∧ x ∈ N ∧ x ∉ o ∧ (∀ y, E x y → y ∈ o) ∧ ∀ z ∈ N, z ∉ o → (∀ y, E z y → y ∈ o) → z = x ∨ bs x < bs z := by
  cases h with
  | nil => simp at e
  | snoc h hN hx hall hleast =>
    obtain ⟨e1, e2⟩ := List.append_inj' e rfl
    injection e2 with e2
    subst e1
    subst e2
    exact ⟨h, hN, hx, hall, hleast⟩
theorem Kahn.pre {N : List ByteArray} {E : Rel} : ∀ {p o : List ByteArray}, Kahn N E (o ++ p) → Kahn N E o := by
  intro p
  induction p with
  | nil => intro o h; rwa [List.append_nil] at h
  | cons x p ih =>
    intro o h
    rw [show o ++ x :: p = (o ++ [x]) ++ p from by simp] at h
    exact (Kahn.last (ih h) rfl).1
theorem kahn_pre {N : List ByteArray} {E : Rel} {a : List ByteArray} (ha : Kahn N E a) : ∀ {b : List ByteArray}, Kahn N E b → a.length ≤ b.length → ∃ p, b = a ++ p := by
  induction ha with
  | nil => intro b _ _; exact ⟨b, rfl⟩
  | @snoc out x h hN hx hall hleast ih =>
    intro b hb hl
    rw [List.length_append, List.length_singleton] at hl
    obtain ⟨p, rfl⟩ := ih hb (by omega)
    cases p with
    | nil => rw [List.append_nil] at hl; omega
    | cons y p =>
      have hb2 : Kahn N E (out ++ [y]) := by
        rw [show out ++ y :: p = (out ++ [y]) ++ p from by simp] at hb
        exact hb.pre
      obtain ⟨_, yN, yo, yall, yleast⟩ := hb2.last rfl
      have e : y = x := by
        rcases hleast y yN yo yall with e | h1
        · exact e
        · rcases yleast x hN hx hall with e | h2
          · exact e.symm
          · exact absurd (List.lt_trans h1 h2) (List.lt_irrefl _)
      subst e
      exact ⟨p, by simp⟩
theorem kahn_one {N : List ByteArray} {E : Rel} {a b : List ByteArray} (ha : Kahn N E a) (hb : Kahn N E b) (ca : ∀ x ∈ N, x ∈ a) (cb : ∀ x ∈ N, x ∈ b) : a = b := by
  have hl : a.length = b.length := nodup_same ha.nodup.1 hb.nodup.1 (fun x => ⟨fun h => cb x (ha.nodup.2 x h), fun h => ca x (hb.nodup.2 x h)⟩)
  obtain ⟨p, rfl⟩ := kahn_pre ha hb (by omega)
  have : p = [] := List.eq_nil_of_length_eq_zero (by rw [List.length_append] at hl; omega)
  rw [this, List.append_nil]
theorem kahn_stuck {N : List ByteArray} {E : Rel} (hE : ∀ x y, E x y → x ∈ N ∧ y ∈ N) {a out : List ByteArray} (ha : Kahn N E a) (ca : ∀ x ∈ N, x ∈ a) (h1 : ∃ x ∈ N, x ∉ out) (h2 : ∀ z ∈ N, z ∉ out → ∃ y, E z y ∧ y ∉ out) : False := by
  obtain ⟨z, hz, ho⟩ := h1
  obtain ⟨x, y, hxy, hr⟩ := stuck_cycle (N := N) (E := E) (S := fun x => x ∈ N ∧ x ∉ out) (fun x h => h.1) (fun x h => by
    obtain ⟨y, hy, hyo⟩ := h2 x h.1 h.2
    exact ⟨y, hy, (hE _ _ hy).2, hyo⟩) ⟨hz, ho⟩
  exact ha.acyclic (ca x (hE _ _ hxy).1) hxy hr
theorem lexlt_total : ∀ {a b : List ByteArray}, a.length = b.length → ¬ lexlt a b → ¬ lexlt b a → a = b
  | [], [], _, _, _ => rfl
  | [], _ :: _, h, _, _ => by simp at h
  | _ :: _, [], h, _, _ => by simp at h
  | x :: a, y :: b, h, h1, h2 => by
    simp only [lexlt, not_or, not_and] at h1 h2
    have e : x = y := bs_inj (List.le_antisymm (List.not_lt.1 h2.1) (List.not_lt.1 h1.1))
    subst e
    rw [lexlt_total (by simpa using h) (h1.2 rfl) (h2.2 rfl)]
theorem cand_one {E : Rel} {x y : ByteArray} {c c' : List ByteArray} (h : CandAt E x y c) (h' : CandAt E x y c') : c = c' := by
  obtain ⟨_, d, p, hD, hG, rfl⟩ := h
  obtain ⟨_, d', p', hD', hG', rfl⟩ := h'
  have := dist_unique hD hD'
  subst this
  rw [gw_one d hG hG']
theorem cyc_one {E : Rel} {a b : List ByteArray} (ha : IsCyc E a) (hb : IsCyc E b) : a = b := by
  have key : ∀ {a b : List ByteArray}, IsCyc E a → IsCyc E b → ¬ better a b := by
    intro a b ha hb
    obtain ⟨x, y, hc⟩ := ha.cand
    have hr : Reach E y x := by obtain ⟨_, d, p, hD, _⟩ := hc; exact walk_reach hD.1
    obtain ⟨c', hc', hn⟩ := hb.least x y hc.1 hr
    rw [cand_one hc' hc] at hn
    exact hn
  have h1 := key ha hb
  have h2 := key hb ha
  unfold better at h1 h2
  simp only [not_or, not_and] at h1 h2
  have hl : a.length = b.length := by omega
  exact lexlt_total hl (h1.2 hl) (h2.2 hl.symm)
end Go.Proofs.Ytlccejbomgknkaa
namespace Go.Proofs.Ytlccejbomgknkaa
set_option linter.unusedVariables false
set_option linter.unusedSimpArgs false
open Go.RowKit Go.Maps Go.Proofs.YtlccejbomgknkaaW.PrintWords Go.Proofs.YtlccejbomgknkaaW.PrintLast Go.Proofs.YtlccejbomgknkaaW.PrintMore
def rc5T : Bool × List (List Nat × List Nat) := (true, [([], []), ([], []), ([1], [1]), ([], []), ([2, 3], [2, 3]), ([4], [4]), ([0, 5], [0, 5]), ([6, 6, 0, 1, 2, 3, 4, 5, 6], [6])])
def rc5B : List Nat := [0, 0, 2, 0, 14, 30, 63, 127]
theorem rc5_tab : rtab .any (opsOf Try.f33 5) = rc5T := by kernel_rfl
theorem rc5_bits : waitsOk rc5T.2 rc5B = true := by kernel_rfl
def rc9T : Bool × List (List Nat × List Nat) := (true, [([], []), ([], []), ([], []), ([1, 2], [1, 2]), ([3], [3]), ([], []), ([5], [5]), ([], []), ([6, 7], [6, 7]), ([8], [8]), ([0, 4, 9], [0, 4, 9]), ([10], [10]), ([11], [11]), ([11], [11]), ([12, 10, 0, 1, 2, 3, 4, 5, 6, 7, 8, 9, 10, 11, 12], [12]), ([13, 14, 0, 1, 2, 3, 4, 5, 6, 7, 8, 9, 10, 11, 12, 13, 14], [13])])
def rc9B : List Nat := [0, 0, 0, 6, 14, 0, 32, 0, 224, 480, 1023, 2047, 4095, 4095, 8191, 32767]
theorem rc9_tab : rtab .any (opsOf Try.f33 9) = rc9T := by kernel_rfl
theorem rc9_bits : waitsOk rc9T.2 rc9B = true := by kernel_rfl
def rc11T : Bool × List (List Nat × List Nat) := (true, [([], []), ([0], [0]), ([], []), ([1, 2], [1, 2]), ([3], [3]), ([4], [4]), ([], []), ([], []), ([7], [7]), ([8], [8]), ([6, 9], [6, 9]), ([5, 10], [5, 10]), ([11, 11, 0, 1, 2, 3, 4, 5, 6, 7, 8, 9, 10, 11], [11])])
def rc11B : List Nat := [0, 1, 0, 7, 15, 31, 0, 0, 128, 384, 960, 2047, 4095]
theorem rc11_tab : rtab .any (opsOf Try.f33 11) = rc11T := by kernel_rfl
theorem rc11_bits : waitsOk rc11T.2 rc11B = true := by kernel_rfl
set_option maxRecDepth 100000 in
theorem consS_step {W : World} {ops : Array Oper} {oi : Oper} {N : Option Tmp} {a : Act} {K : Act → World → Prop} {Q : Exit → Act → World → Prop} (hw : Region.wanted oi (yielded ops a.tmps) = true) (s x : Operand)
    (ho : oi.op = .call { callee := .builtin .append, args := #[s, x], argTypes := #[23, 23] }) (hN : oi.dst = N) (base : Nat) (nm : ByteArray) (hs : a.eval s = .slice (some ⟨W.heap.size, 0, none⟩) 1 1) (ap : Addr) (ys : List ByteArray) (n c : Nat)
    (hx : a.eval x = .slice (some ap) n c) (hn : n = ys.length) (hy : Kd.C Kd.string W (some ap) ys.length ys) (hl : ys.length ≤ 1000000) (hbase : base ≤ W.heap.size)
    (h : ∀ (A' : Addr) (c' : Nat) (w' : World), OwnS w' base (some A') c' (nm :: ys) → Below W.heap.size W w' → K (a.put N (.slice (some A') (n + 1) c')) w') :
    if Region.wanted oi (yielded ops a.tmps) = true then Oper.wp Try.prog oi a (W.alloc (.cells #[.string nm] 9)) K Q else K (a.put N undef) (W.alloc (.cells #[.string nm] 9)) := by
  rw [if_pos hw]
  subst hN
  obtain ⟨i0, hi, hz0, hz1, hz2⟩ := info_parts infoStr
  have hown : OwnS (W.alloc (.cells #[.string nm] 9)) base (some ⟨W.heap.size, 0, none⟩) 1 [nm] := OwnS.one W base hbase nm
  refine wp_append_own _ s x 23 ho base 9 i0 (.string ⟨#[]⟩) 1 16 Try.underlying23 hi hz0 hz1 hz2 rfl (by decide) _ 1 (encs Value.string [nm]) hs hown ap n c (encs Value.string ys) hx (by rw [encs_length, Nat.mul_one, hn]) ?_ ?_ ?a63 ?aby ?aba ?_
  case a63 => simp only [maxLen]; omega
  case aby => rw [hn]; omega
  case aba => exact Nat.le_trans hbase (by simp)
  · intro j u hj
    have hjl : j < ys.length := by have := (List.getElem?_eq_some_iff.1 hj).1; rwa [encs_length] at this
    obtain ⟨ad, hA, hc⟩ := Kd.at_string hy (j : Int) (by omega) (by omega)
    injection hA with hA
    subst hA
    simp only [Int.toNat_natCast] at hc
    refine Lib.cell?_alloc_some _ ?_
    rw [hc]
    unfold encs at hj
    rw [List.getElem?_map, has_at hjl] at hj
    injection hj with hj
    rw [← hj]
  · intro u hu
    obtain ⟨y, _, rfl⟩ := List.mem_map.1 hu
    rfl
  · intro v' w' h1 h2 h3
    rw [Nat.add_comm, hn] at h1
    obtain ⟨g', cap', rfl⟩ := Go.ownsRow_succ h1
    rw [← hn]
    refine h ⟨g', 0, none⟩ cap' w' ?_ (((Below.refl _ W).alloc (Nat.le_refl _) _).grown h2 (by simp) (fun k e => by simp [Value.ownBlock] at e; omega))
    show w'.ownsRow base 9 1 _ (ys.length + 1) (encs Value.string (nm :: ys))
    exact h1
structure Box (w wr : World) (An : Option Addr) (cn : Nat) (rn : List ByteArray) (Ae : Option Addr) (ce : Nat) (re : List Pr) : Prop where
  rf : RefAt wr An cn rn Ae ce re
  blk : wr.heap[w.heap.size]? = some (.cells #[.slice An rn.length cn, .slice Ae re.length ce] 29 (0, 0))
section
variable {w wr w' : World} {An Ae : Option Addr} {cn ce : Nat} {rn : List ByteArray} {re : List Pr}
theorem Box.below (h : Box w wr An cn rn Ae ce re) (hb : Below wr.heap.size wr w') : Box w w' An cn rn Ae ce re := ⟨h.rf.below hb, (hb.block _ (Array.getElem?_eq_some_iff.1 h.blk).1).trans h.blk⟩
theorem Box.cells (h : Box w wr An cn rn Ae ce re) : wr.cell? ⟨w.heap.size, 0, none⟩ = some (.slice An rn.length cn) ∧ wr.cell? ⟨w.heap.size, 1, none⟩ = some (.slice Ae re.length ce) := by
  constructor <;> simp [World.cell?, h.blk]
end
theorem refWay_two {w : World} {An Ae : Option Addr} {cn ce : Nat} {rn : List ByteArray} {re : List Pr} (h : RefAt w An cn rn Ae ce re) {a b : ByteArray} (ha : a ∈ rn) (hb : b ∈ rn) :
    Calls Try.prog 13 #[.agg #[.slice An rn.length cn, .slice Ae re.length ce], .string a, .string b] w fun e w' => ∃ (A : Option Addr) (n c : Nat) (ok : Bool), e = .returned (.tuple #[.slice A n c, .bool ok]) ∧
      ((ok = true ∧ ∃ (p : List ByteArray) (d : Nat) (ap : Addr), A = some ap ∧ n = d + 1 ∧ p.length = d + 1 ∧ d + 1 ≤ c ∧ d ≤ 1000 ∧ Dist (memb re) a b d ∧ GW (memb re) b d a p ∧ Kd.C Kd.string w' (some ap) p.length p) ∨ (ok = false ∧ ¬ Reach (memb re) a b)) ∧ Below w.heap.size w w' := by
  have hl : (re.map toS).length = re.length := List.length_map _
  obtain ⟨⟨r1, r2⟩, ⟨k, hk⟩, hw⟩ := way_ev (gn := rn) (l := re.map toS) (a := a) (b := b) (by rw [hl]; exact h.le) (by have := h.ln; omega) h.inE
  have hc := PGraphFinds.brickyardref19_Way.calls k An cn rn Ae ce (re.map toS) a b r1 r2 w h.n h.nc (by rw [hl]; exact C_to_k45 h.e) (by rw [hl]; exact h.ec) (hk k (Nat.le_refl _))
  rw [hl] at hc
  rw [edg_toS] at hw
  refine hc.mono ?_
  rintro e w' ⟨v, rfl, hR, hbl⟩
  obtain ⟨A, c, rfl⟩ := Kd.R_slice hR
  refine ⟨A, r1.length, c, r2, rfl, ?_, hbl⟩
  rcases hw with ⟨e2, _, _, d, hd, hg⟩ | ⟨e2, _, hno⟩
  · have hlen := (GW.way d hd hg).len
    have hdl := dist_lt h.inN hb hd
    have hln := h.ln
    have hC := (Kd.R_reads' hR).2.2
    have hcap := (Kd.R_reads' hR).2.1
    obtain ⟨ap, hAp, _⟩ := Kd.at_string hC (0 : Int) (by omega) (by simp only at hlen; rw [hlen]; omega)
    subst hAp
    refine .inl ⟨e2, r1, d, ap, rfl, hlen, hlen, ?_, by omega, hd, hg, hC⟩
    simp only at hlen
    omega
  · exact .inr ⟨e2, fun hr => hno ⟨ha, hb, hr⟩⟩
set_option maxRecDepth 100000 in
set_option maxHeartbeats 8000000 in
theorem refCycle_any {w : World} {An Ae : Option Addr} {cn ce : Nat} {rn : List ByteArray} {re : List Pr} (h : RefAt w An cn rn Ae ce re) :
    Calls Try.prog 33 #[.agg #[.slice An rn.length cn, .slice Ae re.length ce]] w (Cycled w (memb re)) := by
  have q23 : ∀ (w : World) (a : Option Addr) (n c n' c' : Nat), (binOp .eql 23 (.slice a n c) (.slice none n' c')).run Try.prog w = .ok (.bool a.isNone) w := fun w a n c n' c' => Lib.run_eql_slice_nil w _ _ a n c n' c' Try.underlying23
  have n23 : ∀ (w : World) (a : Option Addr) (n c : Nat), (binOp .neq 23 (.slice a n c) (.slice none 0 0)).run Try.prog w = .ok (.bool (!a.isNone)) w := fun w a n c => run_neq_slice_nil w 23 9 a n c Try.underlying23
  have hrn := h.ln
  obtain ⟨E, hEE⟩ : ∃ E : Rel, E = memb re := ⟨_, rfl⟩
  rw [← hEE]
  have X : Hid ((∀ x y, E x y → x ∈ rn ∧ y ∈ rn) ∧ E = memb re) := ⟨by rw [hEE]; exact h.inN, hEE⟩
  have H0 : Hid (Box w (w.alloc (.cells #[.slice An rn.length cn, .slice Ae re.length ce] 29)) An cn rn Ae ce re ∧ CB w (w.alloc (.cells #[.slice An rn.length cn, .slice Ae re.length ce] 29)) E (fun a c => ∃ i, i < 0 ∧ rn[i]? = some a) (.slice none 0 0) none) :=
    ⟨⟨h.below ((Below.refl _ w).alloc (Nat.le_refl _) _), (MapKept.heap_alloc w _).1⟩, (Below.refl _ w).alloc (Nat.le_refl _) _, rfl, fun x y h => by obtain ⟨i, hi, _⟩ := h; omega⟩
  clear h hEE
  go_enter Try.func33, Try.ntmps33
  go_wp2_with fail
  go_loopg [4, 5] (rn.length + 1) (fun q v4 v5 wr => ∃ (k : Nat) (b : Option (List ByteArray)), v5 = .int .i64 k ∧ k ≤ rn.length ∧ q + k = rn.length + 1 ∧ Hid (Box w wr An cn rn Ae ce re ∧ CB w wr E (fun a c => ∃ i, i < k ∧ rn[i]? = some a) v4 b))
  case atStart => exact ⟨0, none, rfl, by omega, by omega, H0.out⟩
  case round =>
    obtain ⟨k, b, rfl, hk, hq, HA⟩ := hrel
    clear H0
    obtain ⟨W2, rfl⟩ : ∃ W2 : World, W2 = wr := ⟨_, rfl⟩
    obtain ⟨q0, rfl⟩ : ∃ q0 : Nat, q0 = gk := ⟨_, rfl⟩
    have hx0 := HA.out.1.cells.1
    by_cases hlt : k < rn.length
    · obtain ⟨ad, hA, hcell⟩ := Kd.at_string HA.out.1.rf.n (k : Int) (by omega) (by omega)
      subst hA
      have hrk := has_at hlt
      obtain ⟨nm, hnm⟩ : ∃ nm, nm = rdOf ByteArray.empty rn (k : Int) := ⟨_, rfl⟩
      rw [← hnm] at hcell hrk
      simp only [Int.toNat_natCast] at hcell
      have HRK := Lib.hid hrk
      have HD : Hid (Box w W2.drew (some ad) cn rn Ae ce re ∧ CB w W2.drew E (fun a c => ∃ i, i < k ∧ rn[i]? = some a) u4 b ∧ W2.drew.cell? (ad.add k) = some (.string nm)) :=
        ⟨HA.out.1.below (pw_below_drewN (Below.refl _ W2) 1), ⟨pw_below_drewN HA.out.2.bl 1, HA.out.2.bv.below (pw_below_drewN (Below.refl _ W2) 1), HA.out.2.be⟩, hcell⟩
      clear hnm hrk HA
      go_wp2_with fail
      refine start_ (n := 8) (S := fun w' => w'.cell? ⟨w.heap.size, 0, none⟩ = some (.slice (some ad) rn.length cn) ∧ w'.cell? ⟨w.heap.size, 1, none⟩ = some (.slice Ae re.length ce) ∧ w'.cell? (ad.add k) = some (.string nm)) (ds := []) #[false, false, false, false, false, false, false, false] (by kernel_rfl) rfl rfl (⟨HD.out.1.cells.1, HD.out.1.cells.2, HD.out.2.2⟩) (fun hHeld => ?_); refine with_tabW rc5_tab rc5_bits (fun HT_ HW_ => ?_)
      refine take_ (i := 0) (N := some 18) (v := ?_) (a' := ?_) #[true, false, false, false, false, false, false, false] rfl rfl (take_ofW HT_.out HW_.out (by kernel_rfl)) (fun _ _ _ h => h) (Or.inl ⟨by rfl, ?_⟩) hHeld ?_ ?_
      rotate_left
      · rintro w' ⟨s0, s1, s2⟩
        go_simp
        with_reducible rfl
      rotate_left
      · simp only [Act.put, List.setIfInBounds_toArray, List.set_cons_zero, List.set_cons_succ, i64_w, i32_w]
        rfl
      refine pure_ (i := 1) (N := some 19) (v := ?_) (a' := ?_) #[true, true, false, false, false, false, false, false] rfl rfl (any_of HT_.out (by kernel_rfl)) (fun _ _ _ h => h) (Or.inl ⟨by rfl, ?_⟩) ?_ ?_
      rotate_left
      · intro w'
        go_simp
        with_reducible rfl
      rotate_left
      · simp only [Act.put, List.setIfInBounds_toArray, List.set_cons_zero, List.set_cons_succ, i64_w, i32_w]
        rfl
      refine take_ (i := 2) (N := some 20) (v := ?_) (a' := ?_) #[true, true, true, false, false, false, false, false] rfl rfl (take_ofW HT_.out HW_.out (by kernel_rfl)) (fun _ _ _ h => h) (Or.inl ⟨by rfl, ?_⟩) hHeld ?_ ?_
      rotate_left
      · rintro w' ⟨s0, s1, s2⟩
        go_simp
        with_reducible rfl
      rotate_left
      · simp only [Act.put, List.setIfInBounds_toArray, List.set_cons_zero, List.set_cons_succ, i64_w, i32_w]
        rfl
      refine pure_ (i := 3) (N := some 21) (v := ?_) (a' := ?_) #[true, true, true, true, false, false, false, false] rfl rfl (any_of HT_.out (by kernel_rfl)) (fun _ _ _ h => h) (Or.inl ⟨by rfl, ?_⟩) ?_ ?_
      rotate_left
      · intro w'
        go_simp
        with_reducible rfl
      rotate_left
      · simp only [Act.put, List.setIfInBounds_toArray, List.set_cons_zero, List.set_cons_succ, i64_w, i32_w]
        rfl
      refine pure_ (i := 4) (N := some 22) (v := ?_) (a' := ?_) #[true, true, true, true, true, false, false, false] rfl rfl (any_of HT_.out (by kernel_rfl)) (fun _ _ _ h => h) (Or.inl ⟨by rfl, ?_⟩) ?_ ?_
      rotate_left
      · intro w'
        go_simp
        with_reducible rfl
      rotate_left
      · simp only [Act.put, List.setIfInBounds_toArray, List.set_cons_zero, List.set_cons_succ, i64_w, i32_w]
        rfl
      refine take_ (i := 5) (N := some 23) (v := ?_) (a' := ?_) #[true, true, true, true, true, true, false, false] rfl rfl (take_ofW HT_.out HW_.out (by kernel_rfl)) (fun _ _ _ h => h) (Or.inl ⟨by rfl, ?_⟩) hHeld ?_ ?_
      rotate_left
      · rintro w' ⟨s0, s1, s2⟩
        go_simp
        with_reducible rfl
      rotate_left
      · simp only [Act.put, List.setIfInBounds_toArray, List.set_cons_zero, List.set_cons_succ, i64_w, i32_w]
        rfl
      refine one_ (i := 6) (N := some 24) #[true, true, true, true, true, true, true, false] rfl rfl (one_of HT_.out (by kernel_rfl)) (by decide) (fun K hK => ?_)
      refine goes_ Try.func28 (by kernel_rfl) rfl #[.agg #[.slice (some ad) rn.length cn, .slice Ae re.length ce], .string nm] (by rfl) rfl rfl (by (try simp only [List.map_toArray, List.map_cons, List.map_nil]); first | done | rfl) ?_
      refine (refOut_any HD.out.1.rf nm).mono ?_
      rintro e W3 ⟨Ar, cr, r, rfl, hrise, hmem, hC, hb3⟩
      refine ⟨_, rfl, ?_⟩
      have hrl : r.length ≤ 1000 := Nat.le_trans (nodup_len (N := rn) (rise_nodup hrise) (fun z hz => (X.out.1 nm z (by rw [X.out.2]; exact (hmem z).1 hz)).2)) hrn
      have Z : Hid (∀ z, z ∈ r ↔ E nm z) := fun z => by rw [X.out.2]; exact hmem z
      have H1 : Hid (Box w W3 (some ad) cn rn Ae ce re ∧ CB w W3 E (fun a c => (∃ i, i < k ∧ rn[i]? = some a) ∨ (a = nm ∧ ∃ j, j < 0 ∧ r[j]? = some c)) u4 b ∧ W3.cell? (ad.add k) = some (.string nm) ∧ Kd.C Kd.string W3 Ar r.length r) := ⟨HD.out.1.below hb3, ⟨HD.out.2.1.bl.trans (hb3.mono HD.out.2.1.bl.size), HD.out.2.1.bv.below hb3, HD.out.2.1.be.congr fun x y _ h => h.elim id (fun h => by obtain ⟨_, j, hj, _⟩ := h; omega)⟩, cell_below hb3 HD.out.2.2, hC⟩
      clear hrise hmem hC hb3
      refine hK.out _ _ (⟨H1.out.1.cells.1, H1.out.1.cells.2, H1.out.2.2.1⟩) (fun hHeld => ?_)
      clear hK K
      refine norm_ (a' := ?_) ?_ ?_
      rotate_left
      · show Act.put _ (some 24) _ = _
        simp only [Act.put, List.setIfInBounds_toArray, List.set_cons_zero, List.set_cons_succ, i64_w, i32_w]
        rfl
      refine pure_ (i := 7) (N := some 6) (v := ?_) (a' := ?_) #[true, true, true, true, true, true, true, true] rfl rfl (any_of HT_.out (by kernel_rfl)) (fun _ _ _ h => h) (Or.inl ⟨by rfl, ?_⟩) ?_ ?_
      rotate_left
      · intro w'
        go_simp
        with_reducible rfl
      rotate_left
      · simp only [Act.put, List.setIfInBounds_toArray, List.set_cons_zero, List.set_cons_succ, i64_w, i32_w]
        rfl
      refine done_ (done_of HT_.out (by kernel_rfl)) ?_
      clear hcell hx0 HD
      go_wp2_with fail
      go_loopg [4, 7] (r.length + 1) (fun q2 v4 v7 wr => ∃ (j : Nat) (b : Option (List ByteArray)), v7 = .int .i64 j ∧ j ≤ r.length ∧ q2 + j = r.length + 1 ∧ Hid (Box w wr (some ad) cn rn Ae ce re ∧ CB w wr E (fun a c => (∃ i, i < k ∧ rn[i]? = some a) ∨ (a = nm ∧ ∃ i, i < j ∧ r[i]? = some c)) v4 b ∧ wr.cell? (ad.add k) = some (.string nm) ∧ Kd.C Kd.string wr Ar r.length r))
      case atStart => exact ⟨0, b, rfl, by omega, by omega, H1.out⟩
      case round =>
        obtain ⟨j, b, rfl, hj, hq2, HI⟩ := hrel
        clear H1
        obtain ⟨W4, rfl⟩ : ∃ W4 : World, W4 = wr := ⟨_, rfl⟩
        obtain ⟨q1, rfl⟩ : ∃ q1 : Nat, q1 = gk := ⟨_, rfl⟩
        by_cases hjl : j < r.length
        · obtain ⟨a2, hA2, hcell2⟩ := Kd.at_string HI.out.2.2.2 (j : Int) (by omega) (by omega)
          subst hA2
          have hrj := has_at hjl
          obtain ⟨mv, hmv⟩ : ∃ nm, nm = rdOf ByteArray.empty r (j : Int) := ⟨_, rfl⟩
          rw [← hmv] at hcell2 hrj
          simp only [Int.toNat_natCast] at hcell2
          have hE : Hid (E nm mv) := (Z.out mv).1 (List.mem_of_getElem? hrj)
          have HRJ := Lib.hid hrj
          clear hmv hrj
          have hstep : ∀ (b' : Option (List ByteArray)), Best E (fun a c => ((∃ i, i < k ∧ rn[i]? = some a) ∨ (a = nm ∧ ∃ i, i < j ∧ r[i]? = some c)) ∨ (a = nm ∧ c = mv)) b' → Best E (fun a c => (∃ i, i < k ∧ rn[i]? = some a) ∨ (a = nm ∧ ∃ i, i < j + 1 ∧ r[i]? = some c)) b' := by
            intro b' hb
            refine hb.congr fun x y _ h => ?_
            rcases h with h | ⟨rfl, i, hi, hy⟩
            · exact .inl (.inl h)
            · by_cases e : i = j
              · subst e
                rw [HRJ.out] at hy
                injection hy with hy
                exact .inr ⟨rfl, hy.symm⟩
              · exact .inl (.inr ⟨rfl, i, by omega, hy⟩)
          have HST := Lib.hid hstep
          clear hstep
          have HB0 : Below W4.heap.size W4 W4.drew := pw_below_drewN (Below.refl _ W4) 1
          have HJ : Hid (Box w W4.drew (some ad) cn rn Ae ce re ∧ CB w W4.drew E (fun a c => (∃ i, i < k ∧ rn[i]? = some a) ∨ (a = nm ∧ ∃ i, i < j ∧ r[i]? = some c)) u4 b ∧ W4.drew.cell? (ad.add k) = some (.string nm) ∧ W4.drew.cell? (a2.add j) = some (.string mv) ∧ Kd.C Kd.string W4.drew (some a2) r.length r) :=
            ⟨HI.out.1.below HB0, ⟨HI.out.2.1.bl.trans (HB0.mono HI.out.2.1.bl.size), HI.out.2.1.bv.below HB0, HI.out.2.1.be⟩, cell_below HB0 HI.out.2.2.1, cell_below HB0 hcell2, Kd.C_below HI.out.2.2.2 HB0⟩
          clear HB0 HI hcell2
          go_wp2_with fail
          refine start_ (n := 16) (S := fun w' => w'.cell? ⟨w.heap.size, 0, none⟩ = some (.slice (some ad) rn.length cn) ∧ w'.cell? ⟨w.heap.size, 1, none⟩ = some (.slice Ae re.length ce) ∧ w'.cell? (ad.add k) = some (.string nm) ∧ w'.cell? (a2.add j) = some (.string mv)) (ds := []) #[false, false, false, false, false, false, false, false, false, false, false, false, false, false, false, false] (by kernel_rfl) rfl rfl (⟨HJ.out.1.cells.1, HJ.out.1.cells.2, HJ.out.2.2.1, HJ.out.2.2.2.1⟩) (fun hHeld => ?_); refine with_tabW rc9_tab rc9_bits (fun HT_ HW_ => ?_)
          refine take_ (i := 0) (N := some 32) (v := ?_) (a' := ?_) #[true, false, false, false, false, false, false, false, false, false, false, false, false, false, false, false] rfl rfl (take_ofW HT_.out HW_.out (by kernel_rfl)) (fun _ _ _ h => h) (Or.inl ⟨by rfl, ?_⟩) hHeld ?_ ?_
          rotate_left
          · rintro w' ⟨s0, s1, s2, s3⟩
            go_simp
            with_reducible rfl
          rotate_left
          · simp only [Act.put, List.setIfInBounds_toArray, List.set_cons_zero, List.set_cons_succ, i64_w, i32_w]
            rfl
          refine pure_ (i := 1) (N := some 33) (v := ?_) (a' := ?_) #[true, true, false, false, false, false, false, false, false, false, false, false, false, false, false, false] rfl rfl (any_of HT_.out (by kernel_rfl)) (fun _ _ _ h => h) (Or.inl ⟨by rfl, ?_⟩) ?_ ?_
          rotate_left
          · intro w'
            go_simp
            with_reducible rfl
          rotate_left
          · simp only [Act.put, List.setIfInBounds_toArray, List.set_cons_zero, List.set_cons_succ, i64_w, i32_w]
            rfl
          refine pure_ (i := 2) (N := some 34) (v := ?_) (a' := ?_) #[true, true, true, false, false, false, false, false, false, false, false, false, false, false, false, false] rfl rfl (any_of HT_.out (by kernel_rfl)) (fun _ _ _ h => h) (Or.inl ⟨by rfl, ?_⟩) ?_ ?_
          rotate_left
          · intro w'
            go_simp
            with_reducible rfl
          rotate_left
          · simp only [Act.put, List.setIfInBounds_toArray, List.set_cons_zero, List.set_cons_succ, i64_w, i32_w]
            rfl
          refine pure_ (i := 3) (N := some 35) (v := ?_) (a' := ?_) #[true, true, true, true, false, false, false, false, false, false, false, false, false, false, false, false] rfl rfl (any_of HT_.out (by kernel_rfl)) (fun _ _ _ h => h) (Or.inl ⟨by rfl, ?_⟩) ?_ ?_
          rotate_left
          · intro w'
            go_simp
            with_reducible rfl
          rotate_left
          · simp only [Act.put, List.setIfInBounds_toArray, List.set_cons_zero, List.set_cons_succ, i64_w, i32_w]
            rfl
          refine take_ (i := 4) (N := some 36) (v := ?_) (a' := ?_) #[true, true, true, true, true, false, false, false, false, false, false, false, false, false, false, false] rfl rfl (take_ofW HT_.out HW_.out (by kernel_rfl)) (fun _ _ _ h => h) (Or.inl ⟨by rfl, ?_⟩) hHeld ?_ ?_
          rotate_left
          · rintro w' ⟨s0, s1, s2, s3⟩
            go_simp
            with_reducible rfl
          rotate_left
          · simp only [Act.put, List.setIfInBounds_toArray, List.set_cons_zero, List.set_cons_succ, i64_w, i32_w]
            rfl
          refine pure_ (i := 5) (N := some 37) (v := ?_) (a' := ?_) #[true, true, true, true, true, true, false, false, false, false, false, false, false, false, false, false] rfl rfl (any_of HT_.out (by kernel_rfl)) (fun _ _ _ h => h) (Or.inl ⟨by rfl, ?_⟩) ?_ ?_
          rotate_left
          · intro w'
            go_simp
            with_reducible rfl
          rotate_left
          · simp only [Act.put, List.setIfInBounds_toArray, List.set_cons_zero, List.set_cons_succ, i64_w, i32_w]
            rfl
          refine take_ (i := 6) (N := some 38) (v := ?_) (a' := ?_) #[true, true, true, true, true, true, true, false, false, false, false, false, false, false, false, false] rfl rfl (take_ofW HT_.out HW_.out (by kernel_rfl)) (fun _ _ _ h => h) (Or.inl ⟨by rfl, ?_⟩) hHeld ?_ ?_
          rotate_left
          · rintro w' ⟨s0, s1, s2, s3⟩
            go_simp
            with_reducible rfl
          rotate_left
          · simp only [Act.put, List.setIfInBounds_toArray, List.set_cons_zero, List.set_cons_succ, i64_w, i32_w]
            rfl
          refine pure_ (i := 7) (N := some 39) (v := ?_) (a' := ?_) #[true, true, true, true, true, true, true, true, false, false, false, false, false, false, false, false] rfl rfl (any_of HT_.out (by kernel_rfl)) (fun _ _ _ h => h) (Or.inl ⟨by rfl, ?_⟩) ?_ ?_
          rotate_left
          · intro w'
            go_simp
            with_reducible rfl
          rotate_left
          · simp only [Act.put, List.setIfInBounds_toArray, List.set_cons_zero, List.set_cons_succ, i64_w, i32_w]
            rfl
          refine pure_ (i := 8) (N := some 40) (v := ?_) (a' := ?_) #[true, true, true, true, true, true, true, true, true, false, false, false, false, false, false, false] rfl rfl (any_of HT_.out (by kernel_rfl)) (fun _ _ _ h => h) (Or.inl ⟨by rfl, ?_⟩) ?_ ?_
          rotate_left
          · intro w'
            go_simp
            with_reducible rfl
          rotate_left
          · simp only [Act.put, List.setIfInBounds_toArray, List.set_cons_zero, List.set_cons_succ, i64_w, i32_w]
            rfl
          refine take_ (i := 9) (N := some 41) (v := ?_) (a' := ?_) #[true, true, true, true, true, true, true, true, true, true, false, false, false, false, false, false] rfl rfl (take_ofW HT_.out HW_.out (by kernel_rfl)) (fun _ _ _ h => h) (Or.inl ⟨by rfl, ?_⟩) hHeld ?_ ?_
          rotate_left
          · rintro w' ⟨s0, s1, s2, s3⟩
            go_simp
            with_reducible rfl
          rotate_left
          · simp only [Act.put, List.setIfInBounds_toArray, List.set_cons_zero, List.set_cons_succ, i64_w, i32_w]
            rfl
          refine one_ (i := 10) (N := some 42) #[true, true, true, true, true, true, true, true, true, true, true, false, false, false, false, false] rfl rfl (one_of HT_.out (by kernel_rfl)) (by decide) (fun K hK => ?_)
          refine goes_ Try.func13 (by kernel_rfl) rfl #[.agg #[.slice (some ad) rn.length cn, .slice Ae re.length ce], .string mv, .string nm] (by rfl) rfl rfl (by (try simp only [List.map_toArray, List.map_cons, List.map_nil]); first | done | rfl) ?_
          refine (refWay_two HJ.out.1.rf (X.out.1 _ _ hE.out).2 (X.out.1 _ _ hE.out).1).mono ?_
          rintro e W5 ⟨Ap, n5, cp, ok, rfl, hres, hb5⟩
          refine ⟨_, rfl, ?_⟩
          rw [← X.out.2] at hres
          have RS := Lib.hid hres
          have H5 : Hid (Box w W5 (some ad) cn rn Ae ce re ∧ CB w W5 E (fun a c => (∃ i, i < k ∧ rn[i]? = some a) ∨ (a = nm ∧ ∃ i, i < j ∧ r[i]? = some c)) u4 b ∧ W5.cell? (ad.add k) = some (.string nm) ∧ W5.cell? (a2.add j) = some (.string mv) ∧ Kd.C Kd.string W5 (some a2) r.length r) := ⟨HJ.out.1.below hb5, ⟨HJ.out.2.1.bl.trans (hb5.mono HJ.out.2.1.bl.size), HJ.out.2.1.bv.below hb5, HJ.out.2.1.be⟩, cell_below hb5 HJ.out.2.2.1, cell_below hb5 HJ.out.2.2.2.1, Kd.C_below HJ.out.2.2.2.2 hb5⟩
          clear hres hb5
          refine hK.out _ _ (⟨H5.out.1.cells.1, H5.out.1.cells.2, H5.out.2.2.1, H5.out.2.2.2.1⟩) (fun hHeld => ?_)
          clear hK K
          refine norm_ (a' := ?_) ?_ ?_
          rotate_left
          · show Act.put _ (some 42) _ = _
            simp only [Act.put, List.setIfInBounds_toArray, List.set_cons_zero, List.set_cons_succ, i64_w, i32_w]
            rfl
          refine pure_ (i := 11) (N := some 31) (v := ?_) (a' := ?_) #[true, true, true, true, true, true, true, true, true, true, true, true, false, false, false, false] rfl rfl (any_of HT_.out (by kernel_rfl)) (fun _ _ _ h => h) (Or.inl ⟨by rfl, ?_⟩) ?_ ?_
          rotate_left
          · intro w'
            go_simp
            with_reducible rfl
          rotate_left
          · simp only [Act.put, List.setIfInBounds_toArray, List.set_cons_zero, List.set_cons_succ, i64_w, i32_w]
            rfl
          refine pure_ (i := 12) (N := some 43) (v := ?_) (a' := ?_) #[true, true, true, true, true, true, true, true, true, true, true, true, true, false, false, false] rfl rfl (any_of HT_.out (by kernel_rfl)) (fun _ _ _ h => h) (Or.inl ⟨by rfl, ?_⟩) ?_ ?_
          rotate_left
          · intro w'
            go_simp
            with_reducible rfl
          rotate_left
          · simp only [Act.put, List.setIfInBounds_toArray, List.set_cons_zero, List.set_cons_succ, i64_w, i32_w]
            rfl
          refine pure_ (i := 13) (N := some 44) (v := ?_) (a' := ?_) #[true, true, true, true, true, true, true, true, true, true, true, true, true, true, false, false] rfl rfl (any_of HT_.out (by kernel_rfl)) (fun _ _ _ h => h) (Or.inl ⟨by rfl, ?_⟩) ?_ ?_
          rotate_left
          · intro w'
            go_simp
            with_reducible rfl
          rotate_left
          · simp only [Act.put, List.setIfInBounds_toArray, List.set_cons_zero, List.set_cons_succ, i64_w, i32_w]
            rfl
          refine pure_ (i := 14) (N := some 8) (v := ?_) (a' := ?_) #[true, true, true, true, true, true, true, true, true, true, true, true, true, true, true, false] rfl rfl (any_of HT_.out (by kernel_rfl)) (fun _ _ _ h => h) (Or.inl ⟨by rfl, ?_⟩) ?_ ?_
          rotate_left
          · intro w'
            go_simp
            with_reducible rfl
          rotate_left
          · simp only [Act.put, List.setIfInBounds_toArray, List.set_cons_zero, List.set_cons_succ, i64_w, i32_w]
            rfl
          refine pure_ (i := 15) (N := some 9) (v := ?_) (a' := ?_) #[true, true, true, true, true, true, true, true, true, true, true, true, true, true, true, true] rfl rfl (any_of HT_.out (by kernel_rfl)) (fun _ _ _ h => h) (Or.inl ⟨by rfl, ?_⟩) ?_ ?_
          rotate_left
          · intro w'
            go_simp
            with_reducible rfl
          rotate_left
          · simp only [Act.put, List.setIfInBounds_toArray, List.set_cons_zero, List.set_cons_succ, i64_w, i32_w]
            rfl
          refine done_ (done_of HT_.out (by kernel_rfl)) ?_
          clear HJ
          have RS2 := RS.out
          clear RS
          rcases RS2 with ⟨rfl, p, d, ap, rfl, rfl, hpl, hdc, hd10, hD, hGW, hCp⟩ | ⟨rfl, hno⟩
          · have HB0 : Below W5.heap.size W5 W5.drew := pw_below_drewN (Below.refl _ W5) 1
            have H6 : Hid (Box w W5.drew (some ad) cn rn Ae ce re ∧ CB w W5.drew E (fun a c => (∃ i, i < k ∧ rn[i]? = some a) ∨ (a = nm ∧ ∃ i, i < j ∧ r[i]? = some c)) u4 b ∧ W5.drew.cell? (ad.add k) = some (.string nm) ∧ Kd.C Kd.string W5.drew (some a2) r.length r) :=
              ⟨H5.out.1.below HB0, ⟨H5.out.2.1.bl.trans (HB0.mono H5.out.2.1.bl.size), H5.out.2.1.bv.below HB0, H5.out.2.1.be⟩, cell_below HB0 H5.out.2.2.1, Kd.C_below H5.out.2.2.2.2 HB0⟩
            have hdl : p.take d = p.dropLast := by rw [List.dropLast_eq_take, hpl]; rfl
            have htl : (p.take d).length = d := by rw [List.length_take]; omega
            have P5 : Hid (Kd.C Kd.string W5.drew (some ap) (p.take d).length (p.take d) ∧ (p.take d).length = d ∧ CandAt E nm mv (nm :: p.take d)) := ⟨C_take (Kd.C_below hCp HB0) (by omega), htl, hE.out, d, p, hD, hGW, by rw [hdl]⟩
            have hdcI : (d : Int) ≤ (cp : Int) := by omega
            have hd0 : (0 : Int) ≤ (d : Int) := by omega
            have hwd : wrap64 (d : Int) = (d : Int) := by unfold wrap64; omega
            have hbs : w.heap.size ≤ W5.drew.heap.size := H6.out.2.1.bl.size
            clear HB0 H5 hdl htl hD hGW hCp hpl
            go_wp2_with fail
            refine start_ (n := 13) (S := fun w' => w'.cell? ⟨w.heap.size, 0, none⟩ = some (.slice (some ad) rn.length cn) ∧ w'.cell? (ad.add k) = some (.string nm)) (ds := []) #[false, false, false, false, false, false, false, false, false, false, false, false, false] (by kernel_rfl) rfl rfl (⟨H6.out.1.cells.1, H6.out.2.2.1⟩) (fun hHeld => ?_); refine with_tabW rc11_tab rc11_bits (fun HT_ HW_ => ?_)
            refine pure_ (i := 0) (N := some 47) (v := ?_) (a' := ?_) #[true, false, false, false, false, false, false, false, false, false, false, false, false] rfl rfl (any_of HT_.out (by kernel_rfl)) (fun _ _ _ h => h) (Or.inl ⟨by rfl, ?_⟩) ?_ ?_
            rotate_left
            · intro w'
              go_simp
              with_reducible rfl
            rotate_left
            · simp only [Act.put, List.setIfInBounds_toArray, List.set_cons_zero, List.set_cons_succ, i64_w, i32_w]
              rfl
            refine take_ (i := 1) (N := some 48) (v := ?_) (a' := ?_) #[true, true, false, false, false, false, false, false, false, false, false, false, false] rfl rfl (take_ofW HT_.out HW_.out (by kernel_rfl)) (fun _ _ _ h => h) (Or.inl ⟨by rfl, ?_⟩) hHeld ?_ ?_
            rotate_left
            · rintro w' ⟨s0, s1⟩
              go_simp
              with_reducible rfl
            rotate_left
            · simp only [Act.put, List.setIfInBounds_toArray, List.set_cons_zero, List.set_cons_succ, i64_w, i32_w]
              rfl
            refine pure_ (i := 2) (N := some 49) (v := ?_) (a' := ?_) #[true, true, true, false, false, false, false, false, false, false, false, false, false] rfl rfl (any_of HT_.out (by kernel_rfl)) (fun _ _ _ h => h) (Or.inl ⟨by rfl, ?_⟩) ?_ ?_
            rotate_left
            · intro w'
              go_simp
              with_reducible rfl
            rotate_left
            · simp only [Act.put, List.setIfInBounds_toArray, List.set_cons_zero, List.set_cons_succ, i64_w, i32_w]
              rfl
            refine pure_ (i := 3) (N := some 50) (v := ?_) (a' := ?_) #[true, true, true, true, false, false, false, false, false, false, false, false, false] rfl rfl (any_of HT_.out (by kernel_rfl)) (fun _ _ _ h => h) (Or.inl ⟨by rfl, ?_⟩) ?_ ?_
            rotate_left
            · intro w'
              go_simp
              with_reducible rfl
            rotate_left
            · simp only [Act.put, List.setIfInBounds_toArray, List.set_cons_zero, List.set_cons_succ, i64_w, i32_w]
              rfl
            refine take_ (i := 4) (N := some 51) (v := ?_) (a' := ?_) #[true, true, true, true, true, false, false, false, false, false, false, false, false] rfl rfl (take_ofW HT_.out HW_.out (by kernel_rfl)) (fun _ _ _ h => h) (Or.inl ⟨by rfl, ?_⟩) hHeld ?_ ?_
            rotate_left
            · rintro w' ⟨s0, s1⟩
              go_simp
              with_reducible rfl
            rotate_left
            · simp only [Act.put, List.setIfInBounds_toArray, List.set_cons_zero, List.set_cons_succ, i64_w, i32_w]
              rfl
            refine pure_ (i := 6) (N := some 53) (v := ?_) (a' := ?_) #[true, true, true, true, true, false, true, false, false, false, false, false, false] rfl rfl (any_of HT_.out (by kernel_rfl)) (fun _ _ _ h => h) (Or.inl ⟨by rfl, ?_⟩) ?_ ?_
            rotate_left
            · intro w'
              go_simp
              with_reducible rfl
            rotate_left
            · simp only [Act.put, List.setIfInBounds_toArray, List.set_cons_zero, List.set_cons_succ, i64_w, i32_w]
              rfl
            refine pure_ (i := 7) (N := some 54) (v := ?_) (a' := ?_) #[true, true, true, true, true, false, true, true, false, false, false, false, false] rfl rfl (any_of HT_.out (by kernel_rfl)) (fun _ _ _ h => h) (Or.inl ⟨by rfl, ?_⟩) ?_ ?_
            rotate_left
            · intro w'
              go_simp
              with_reducible rfl
            rotate_left
            · simp only [Act.put, List.setIfInBounds_toArray, List.set_cons_zero, List.set_cons_succ, i64_w, i32_w]
              rfl
            refine pure_ (i := 8) (N := some 55) (v := ?_) (a' := ?_) #[true, true, true, true, true, false, true, true, true, false, false, false, false] rfl rfl (any_of HT_.out (by kernel_rfl)) (fun _ _ _ h => h) (Or.inl ⟨by rfl, ?_⟩) ?_ ?_
            rotate_left
            · intro w'
              go_simp
              with_reducible rfl
            rotate_left
            · simp only [Act.put, List.setIfInBounds_toArray, List.set_cons_zero, List.set_cons_succ, i64_w, i32_w]
              rfl
            refine pure_ (i := 9) (N := some 56) (v := ?_) (a' := ?_) #[true, true, true, true, true, false, true, true, true, true, false, false, false] rfl rfl (any_of HT_.out (by kernel_rfl)) (fun _ _ _ h => h) (Or.inl ⟨by rfl, ?_⟩) ?_ ?_
            rotate_left
            · intro w'
              go_simp
              with_reducible rfl
            rotate_left
            · simp only [Act.put, List.setIfInBounds_toArray, List.set_cons_zero, List.set_cons_succ, i64_w, i32_w]
              rfl
            refine pure_ (i := 10) (N := some 57) (v := ?_) (a' := ?_) #[true, true, true, true, true, false, true, true, true, true, true, false, false] rfl rfl (any_of HT_.out (by kernel_rfl)) (fun _ _ _ h => h) (Or.inl ⟨by rfl, ?_⟩) ?_ ?_
            rotate_left
            · intro w'
              go_simp
              with_reducible rfl
            rotate_left
            · simp only [Act.put, List.setIfInBounds_toArray, List.set_cons_zero, List.set_cons_succ, i64_w, i32_w]
              rfl
            refine one_ (i := 5) (N := some 52) #[true, true, true, true, true, true, true, true, true, true, true, false, false] rfl rfl (one_of HT_.out (by kernel_rfl)) (by decide) (fun K hK => ?_)
            refine value_ (w1 := ?_) (v := ?_) (by rfl) rfl ?_ ?_
            rotate_left 2
            · go_simp
              constructor
              · rfl
              · rfl
            refine hK.out _ _ (⟨alloc_cell hHeld.1, alloc_cell hHeld.2⟩) (fun hHeld => ?_)
            clear hK K
            refine norm_ (a' := ?_) ?_ ?_
            rotate_left
            · show Act.put _ (some 52) _ = _
              simp only [Act.put, List.setIfInBounds_toArray, List.set_cons_zero, List.set_cons_succ, i64_w, i32_w]
              rfl
            refine one_ (i := 11) (N := some 58) #[true, true, true, true, true, true, true, true, true, true, true, true, false] rfl rfl (one_of HT_.out (by kernel_rfl)) (by decide) (fun K hK => ?_)
            refine consS_step (W := W5.drew) (by rfl) (.tmp 52) (.tmp 57) rfl rfl w.heap.size nm rfl ap (p.take d) d cp rfl (P5.out.2.1).symm P5.out.1 (by rw [P5.out.2.1]; omega) hbs ?_
            intro ac cc W6 hown hb6
            have Z6 : Hid (OwnS W6 w.heap.size (some ac) cc (nm :: p.take d) ∧ Below W5.drew.heap.size W5.drew W6) := ⟨hown, hb6⟩
            clear hown hb6
            refine hK.out _ _ (⟨(H6.out.1.below Z6.out.2).cells.1, cell_below Z6.out.2 H6.out.2.2.1⟩) (fun hHeld => ?_)
            clear hK K
            refine norm_ (a' := ?_) ?_ ?_
            rotate_left
            · show Act.put _ (some 58) _ = _
              simp only [Act.put, List.setIfInBounds_toArray, List.set_cons_zero, List.set_cons_succ, i64_w, i32_w]
              rfl
            refine pure_ (i := 12) (N := some 10) (v := ?_) (a' := ?_) #[true, true, true, true, true, true, true, true, true, true, true, true, true] rfl rfl (any_of HT_.out (by kernel_rfl)) (fun _ _ _ h => h) (Or.inl ⟨by rfl, ?_⟩) ?_ ?_
            rotate_left
            · intro w'
              go_simp
              with_reducible rfl
            rotate_left
            · simp only [Act.put, List.setIfInBounds_toArray, List.set_cons_zero, List.set_cons_succ, i64_w, i32_w]
              rfl
            refine done_ (done_of HT_.out (by kernel_rfl)) ?_
            clear hwd
            have hbt : ∀ (W : World) (v : Value) (bb : Option (List ByteArray)), Below W6.heap.size W6 W → BestV W w.heap.size v bb → Best E (fun a c => ((∃ i, i < k ∧ rn[i]? = some a) ∨ (a = nm ∧ ∃ i, i < j ∧ r[i]? = some c)) ∨ (a = nm ∧ c = mv)) bb → Hid (Box w W (some ad) cn rn Ae ce re ∧ CB w W E (fun a c => (∃ i, i < k ∧ rn[i]? = some a) ∨ (a = nm ∧ ∃ i, i < j + 1 ∧ r[i]? = some c)) v bb ∧ W.cell? (ad.add k) = some (.string nm) ∧ Kd.C Kd.string W (some a2) r.length r) := fun W v bb hb h1 h2 => by
              have hb2 : Below W5.drew.heap.size W5.drew W := Z6.out.2.trans (hb.mono Z6.out.2.size)
              exact ⟨H6.out.1.below hb2, ⟨H6.out.2.1.bl.trans (hb2.mono H6.out.2.1.bl.size), h1, HST.out _ h2⟩, cell_below hb2 H6.out.2.2.1, Kd.C_below H6.out.2.2.2 hb2⟩
            have HBT := Lib.hid hbt
            have htv : ∀ W, Below W6.heap.size W6 W → BestV W w.heap.size (.slice (some ac) (d + 1) cc) (some (nm :: p.take d)) := fun W hb => by
              refine ⟨ac, cc, ?_, OwnS.below Z6.out.1 hb⟩
              rw [List.length_cons, P5.out.2.1]
            have HTV := Lib.hid htv
            clear hbt htv
            cases b with
            | none =>
              have e : u4 = .slice none 0 0 := H6.out.2.1.bv
              subst e
              have HBn : Hid (Best E (fun a c => ((∃ i, i < k ∧ rn[i]? = some a) ∨ (a = nm ∧ ∃ i, i < j ∧ r[i]? = some c)) ∨ (a = nm ∧ c = mv)) (some (nm :: p.take d))) := H6.out.2.1.be.take P5.out.2.2 (fun b' h => by cases h)
              go_wp2_with fail
              go_roundg (r.length - j)
              case measure => omega
              case rel => exact ⟨j + 1, _, by go_num, by omega, by omega, (HBT.out _ _ _ (Below.refl _ _) (HTV.out _ (Below.refl _ _)) HBn.out).out⟩
            | some b =>
              obtain ⟨ab, cb, e, ho⟩ := H6.out.2.1.bv
              subst e
              have hkv : Hid (OwnS W6 w.heap.size (some ab) cb b) := OwnS.below ho Z6.out.2
              have hbe := Lib.hid H6.out.2.1.be
              clear ho
              rcases Nat.lt_trichotomy (d + 1) b.length with hlb | hlb | hlb
              · have HBn : Hid (Best E (fun a c => ((∃ i, i < k ∧ rn[i]? = some a) ∨ (a = nm ∧ ∃ i, i < j ∧ r[i]? = some c)) ∨ (a = nm ∧ c = mv)) (some (nm :: p.take d))) := hbe.out.take P5.out.2.2 (fun b' h => by
                  injection h with h
                  subst h
                  exact .inl (by rw [List.length_cons, P5.out.2.1]; exact hlb))
                go_wp2_with fail
                go_roundg (r.length - j)
                case measure => omega
                case rel => exact ⟨j + 1, _, by go_num, by omega, by omega, (HBT.out _ _ _ (Below.refl _ _) (HTV.out _ (Below.refl _ _)) HBn.out).out⟩
              · have hbl : b.length = d + 1 := hlb.symm
                clear hlb
                have HCm : Hid (Calls Try.prog 49 #[.slice (some ac) (d + 1) cc, .slice (some ab) (d + 1) cb] W6 fun e w' => ∃ v, e = .returned (.bool v) ∧ (v = true ↔ lexlt (nm :: p.take d) b) ∧ Below W6.heap.size W6 w') := by
                  have hk1 := Z6.out.1.kd
                  have hk2 := hkv.out.kd
                  have := less_any (w := W6) (some ac) (some ab) cc cb (nm :: p.take d) b Z6.out.1.reads hkv.out.reads (Kd.R_reads' hk1).2.1 (Kd.R_reads' hk2).2.1 (by rw [List.length_cons, P5.out.2.1, hbl]) (by rw [List.length_cons, P5.out.2.1]; omega)
                  rw [List.length_cons, P5.out.2.1, hbl] at this
                  refine this.mono ?_
                  rintro e w' ⟨v, rfl, hv, q, rfl⟩
                  exact ⟨v, rfl, hv, pw_below_drewN (Below.refl _ _) q⟩
                have HBL2 := Lib.hid hbl
                rw [hbl]
                have heq : ((d : Int) + 1 == (d : Int) + 1) = true := beq_self_eq_true _
                clear hbl
                go_wp2_with fail
                refine HCm.out.mono ?_
                rintro e W7 ⟨v, rfl, hv, hb7⟩
                have P7 := Lib.hid (And.intro hv hb7)
                clear hv hb7 HCm
                cases v with
                | true =>
                  have HBn : Hid (Best E (fun a c => ((∃ i, i < k ∧ rn[i]? = some a) ∨ (a = nm ∧ ∃ i, i < j ∧ r[i]? = some c)) ∨ (a = nm ∧ c = mv)) (some (nm :: p.take d))) := hbe.out.take P5.out.2.2 (fun b' h => by
                    injection h with h
                    subst h
                    exact .inr ⟨by rw [List.length_cons, P5.out.2.1, HBL2.out], P7.out.1.1 rfl⟩)
                  go_wp2_with fail
                  go_roundg (r.length - j)
                  case measure => omega
                  case rel => exact ⟨j + 1, _, by go_num, by omega, by omega, (HBT.out _ _ _ P7.out.2 (HTV.out _ P7.out.2) HBn.out).out⟩
                | false =>
                  have HBn : Hid (Best E (fun a c => ((∃ i, i < k ∧ rn[i]? = some a) ∨ (a = nm ∧ ∃ i, i < j ∧ r[i]? = some c)) ∨ (a = nm ∧ c = mv)) (some b)) := hbe.out.keep P5.out.2.2 (by
                    rintro (h | ⟨_, h⟩)
                    · rw [List.length_cons, P5.out.2.1, HBL2.out] at h
                      omega
                    · have := P7.out.1.2 h
                      cases this)
                  have hkw : Hid (BestV W7 w.heap.size (.slice (some ab) (d + 1) cb) (some b)) := ⟨ab, cb, by rw [HBL2.out], OwnS.below hkv.out P7.out.2⟩
                  go_wp2_with fail
                  go_roundg (r.length - j)
                  case measure => omega
                  case rel => exact ⟨j + 1, _, by go_num, by omega, by omega, (HBT.out _ _ _ P7.out.2 hkw.out HBn.out).out⟩
              · have HBn : Hid (Best E (fun a c => ((∃ i, i < k ∧ rn[i]? = some a) ∨ (a = nm ∧ ∃ i, i < j ∧ r[i]? = some c)) ∨ (a = nm ∧ c = mv)) (some b)) := hbe.out.keep P5.out.2.2 (by
                  rintro (h | ⟨h, _⟩)
                  · rw [List.length_cons, P5.out.2.1] at h
                    omega
                  · rw [List.length_cons, P5.out.2.1] at h
                    omega)
                have hne : ((d : Int) + 1 == (b.length : Int)) = false := by
                  simp only [beq_eq_false_iff_ne, ne_eq]
                  omega
                have hkw : Hid (BestV W6 w.heap.size (.slice (some ab) b.length cb) (some b)) := ⟨ab, cb, rfl, hkv.out⟩
                go_wp2_with fail
                go_roundg (r.length - j)
                case measure => omega
                case rel => exact ⟨j + 1, _, by go_num, by omega, by omega, (HBT.out _ _ _ (Below.refl _ _) hkw.out HBn.out).out⟩
          · have HN := Lib.hid hno
            clear hno
            go_wp2_with fail
            go_roundg (r.length - j)
            case measure => omega
            case rel => exact ⟨j + 1, b, by go_num, by omega, by omega, H5.out.1, ⟨H5.out.2.1.bl, H5.out.2.1.bv, HST.out _ (H5.out.2.1.be.skip HN.out)⟩, H5.out.2.2.1, H5.out.2.2.2.2⟩
        · go_wp2_with fail
          go_roundg (rn.length - k)
          case measure => omega
          case rel =>
            refine ⟨k + 1, b, by go_num, by omega, by omega, HI.out.1, HI.out.2.1.bl, HI.out.2.1.bv, HI.out.2.1.be.congr fun x y hE h => ?_⟩
            obtain ⟨i, hi, hx⟩ := h
            by_cases e : i = k
            · subst e
              rw [HRK.out] at hx
              injection hx with hx
              subst hx
              obtain ⟨i2, hi2⟩ := List.getElem?_of_mem ((Z.out y).2 hE)
              have := (List.getElem?_eq_some_iff.1 hi2).1
              exact .inr ⟨rfl, i2, by omega, hi2⟩
            · exact .inl ⟨i, by omega, hx⟩
    · have hall : Best E (fun _ _ => True) b := HA.out.2.be.congr fun x y hE _ => by
        obtain ⟨i, hi⟩ := List.getElem?_of_mem (X.out.1 _ _ hE).1
        have := (List.getElem?_eq_some_iff.1 hi).1
        exact ⟨i, by omega, hi⟩
      have hbv := HA.out.2.bv
      have HBL := Lib.hid HA.out.2.bl
      have HAL := Lib.hid hall
      clear hall HA
      cases b with
      | none =>
        have e : u4 = .slice none 0 0 := hbv
        subst e
        clear hbv
        go_wp2_with fail
        go_ret2
        exact ⟨HBL.out, .inr ⟨rfl, fun x y hE => HAL.out x y trivial hE⟩⟩
      | some b =>
        obtain ⟨ap, c, e, ho⟩ := hbv
        subst e
        have HO := Lib.hid ho
        clear ho
        go_wp2_with fail
        go_ret2
        exact ⟨HBL.out, .inl ⟨some ap, c, b, rfl, ⟨HAL.out.1, fun x y hE hr => HAL.out.2 x y trivial hE hr⟩, HO.out⟩⟩
end Go.Proofs.Ytlccejbomgknkaa
namespace Go.Proofs.Ytlccejbomgknkaa
set_option linter.unusedVariables false
set_option linter.unusedSimpArgs false
open Go.RowKit Go.Maps Go.Proofs.YtlccejbomgknkaaW.PrintWords Go.Proofs.YtlccejbomgknkaaW.PrintLast Go.Proofs.YtlccejbomgknkaaW.PrintMore
def CycP (E : Rel) (b : List ByteArray) (ok : Bool) : Prop := (ok = true ∧ IsCyc E b) ∨ (ok = false ∧ b = [] ∧ ∀ x y, E x y → ¬ Reach E y x)
section
variable {w wr w' : World} {b12 g : Nat} {N : List ByteArray} {l : List Pr} {An : Option Addr} {cn : Nat} {rn : List ByteArray} {Ae : Option Addr} {ce : Nat} {re : List Pr}
theorem FS.order (h : FS w wr b12 g N l An cn rn Ae ce re) :
    Calls Try.prog 30 #[.pointer (some ⟨g, 0, none⟩)] wr fun e w' => ∃ (A : Option Addr) (c : Nat) (r : List ByteArray) (ok : Bool), e = .returned (.tuple #[.slice A r.length c, .bool ok]) ∧ OrderIs N (memb l) (r, ok) ∧ Kd.C Kd.string w' A r.length r ∧ FS w w' b12 g N l An cn rn Ae ce re := by
  refine (Order_any h.both.gr h.both.nl).mono ?_
  rintro e w' ⟨hb, ⟨A, c, out, rfl, h1, h2, ho⟩ | ⟨rfl, hs⟩⟩
  · exact ⟨A, c, out, true, rfl, .inl ⟨rfl, h1, h2⟩, ho.reads, h.below hb⟩
  · exact ⟨none, 0, [], false, rfl, .inr ⟨rfl, rfl, hs⟩, C_empty _ _, h.below hb⟩
theorem FS.reforder (h : FS w wr b12 g N l An cn rn Ae ce re) {p : List ByteArray} {ok : Bool} (hp : OrderIs N (memb l) (p, ok)) {A0 : Option Addr} (hC : Kd.C Kd.string wr A0 p.length p) :
    Calls Try.prog 31 #[.agg #[.slice An rn.length cn, .slice Ae re.length ce]] wr fun e w' => ∃ (A : Option Addr) (c : Nat), e = .returned (.tuple #[.slice A p.length c, .bool ok]) ∧ Kd.C Kd.string w' A p.length p ∧ Kd.C Kd.string w' A0 p.length p ∧ FS w w' b12 g N l An cn rn Ae ce re := by
  refine (refOrder_any h.both.rf h.both.rise).mono ?_
  rintro e w' ⟨A, c, r1, r2, rfl, hw, hC2, hb⟩
  rw [h.both.same] at hw
  have hin := h.both.gr
  have hE : ∀ x y, memb l x y → x ∈ N ∧ y ∈ N := by
    obtain ⟨bo, bi, lo, li, hG⟩ := hin
    exact hG.inN
  have key : r1 = p ∧ r2 = ok := by
    rcases hw with ⟨e1, k1, c1⟩ | ⟨e1, e2, o1, k1, s1, t1⟩ <;> rcases hp with ⟨e3, k2, c2⟩ | ⟨e3, e4, o2, k2, s2, t2⟩
    · exact ⟨kahn_one (k1.congr h.both.eN) k2 (fun x hx => c1 x ((h.both.eN x).2 hx)) c2, by simp only at e1 e3; rw [e1, e3]⟩
    · exact absurd (kahn_stuck hE (k1.congr h.both.eN) (fun x hx => c1 x ((h.both.eN x).2 hx)) s2 t2) id
    · refine absurd (kahn_stuck hE k2 c2 (out := o1) ?_ (fun z hz => t1 z ((h.both.eN z).2 hz))) id
      obtain ⟨z, hz, hzo⟩ := s1
      exact ⟨z, (h.both.eN z).1 hz, hzo⟩
    · exact ⟨by simp only at e2 e4; rw [e2, e4], by simp only at e1 e3; rw [e1, e3]⟩
  obtain ⟨rfl, rfl⟩ := key
  exact ⟨A, c, rfl, hC2, Kd.C_below hC hb, h.below hb⟩
theorem FS.cycle (h : FS w wr b12 g N l An cn rn Ae ce re) {p : List ByteArray} {A1 A2 : Option Addr} (hC1 : Kd.C Kd.string wr A1 p.length p) (hC2 : Kd.C Kd.string wr A2 p.length p) :
    Calls Try.prog 32 #[.pointer (some ⟨g, 0, none⟩)] wr fun e w' => ∃ (A : Option Addr) (c : Nat) (b : List ByteArray) (ok : Bool), e = .returned (.tuple #[.slice A b.length c, .bool ok]) ∧ CycP (memb l) b ok ∧ Kd.C Kd.string w' A b.length b ∧ (Kd.C Kd.string w' A1 p.length p ∧ Kd.C Kd.string w' A2 p.length p) ∧ FS w w' b12 g N l An cn rn Ae ce re := by
  refine (Cycle_any h.both.gr h.both.nl).mono ?_
  rintro e w' ⟨hb, ⟨A, c, b, rfl, h1, ho⟩ | ⟨rfl, hs⟩⟩
  · exact ⟨A, c, b, true, rfl, .inl ⟨rfl, h1⟩, ho.reads, ⟨Kd.C_below hC1 hb, Kd.C_below hC2 hb⟩, h.below hb⟩
  · exact ⟨none, 0, [], false, rfl, .inr ⟨rfl, rfl, hs⟩, C_empty _ _, ⟨Kd.C_below hC1 hb, Kd.C_below hC2 hb⟩, h.below hb⟩
theorem FS.refcycle (h : FS w wr b12 g N l An cn rn Ae ce re) {p : List ByteArray} {A1 A2 : Option Addr} (hC1 : Kd.C Kd.string wr A1 p.length p) (hC2 : Kd.C Kd.string wr A2 p.length p) {q : List ByteArray} {ok : Bool} (hq : CycP (memb l) q ok) {A0 : Option Addr} (hC : Kd.C Kd.string wr A0 q.length q) :
    Calls Try.prog 33 #[.agg #[.slice An rn.length cn, .slice Ae re.length ce]] wr fun e w' => ∃ (A : Option Addr) (c : Nat), e = .returned (.tuple #[.slice A q.length c, .bool ok]) ∧ (Kd.C Kd.string w' A q.length q ∧ Kd.C Kd.string w' A0 q.length q) ∧ (Kd.C Kd.string w' A1 p.length p ∧ Kd.C Kd.string w' A2 p.length p) ∧ FS w w' b12 g N l An cn rn Ae ce re := by
  refine (refCycle_any h.both.rf).mono ?_
  rintro e w' ⟨hb, hcc⟩
  rw [h.both.same] at hcc
  have hold : Kd.C Kd.string w' A1 p.length p ∧ Kd.C Kd.string w' A2 p.length p := ⟨Kd.C_below hC1 hb, Kd.C_below hC2 hb⟩
  rcases hcc with ⟨A, c, b, rfl, h1, ho⟩ | ⟨rfl, hs⟩
  · rcases hq with ⟨rfl, h2⟩ | ⟨_, _, hno⟩
    · have e := cyc_one h1 h2
      subst e
      exact ⟨A, c, rfl, ⟨ho.reads, Kd.C_below hC hb⟩, hold, h.below hb⟩
    · obtain ⟨x, y, hE, d, pw, hD, _⟩ := h1.cand
      exact absurd (walk_reach hD.1) (hno x y hE)
  · rcases hq with ⟨_, h2⟩ | ⟨rfl, rfl, _⟩
    · obtain ⟨x, y, hE, d, pw, hD, _⟩ := h2.cand
      exact absurd (walk_reach hD.1) (hs x y hE)
    · exact ⟨none, 0, rfl, ⟨C_empty _ _, Kd.C_below hC hb⟩, hold, h.below hb⟩
end
set_option maxRecDepth 100000 in
set_option maxHeartbeats 8000000 in
theorem orders_walk {w : World} (A : Option Addr) (c : Nat) (l : List Pr) (A2 : Option Addr) (c2 : Nat) (names : List ByteArray) (hl : Kd.C kE w A l.length l) (hn : Kd.C Kd.string w A2 names.length names ∧ names.length ≤ c2 ∧ (A2 = none → c2 = 0))
    (hz1 : ∀ e ∈ l, e.1.size ≤ maxLen ∧ e.2.size ≤ maxLen) (hz2 : ∀ x ∈ names, x.size ≤ maxLen) :
    Calls Try.prog 6 #[.slice A l.length c, .slice A2 names.length c2] w fun e w' => e = .returned (.bool true) ∧ Below w.heap.size w w' := by
  have X := Lib.hid (And.intro hl (And.intro hn (And.intro hz1 hz2)))
  clear hl hn hz1 hz2
  go_enter Try.func6, Try.ntmps6
  go_wp2_with fail
  refine (works_any w).mono ?_
  rintro e w1 ⟨rfl, hb1⟩
  have B1 := Lib.hid hb1
  clear hb1
  by_cases hlong : l.length ≤ 40 ∧ names.length ≤ 20
  · have HL := Lib.hid (long_no w1 A A2 l.length c names.length c2 hlong.1 hlong.2)
    obtain ⟨hl40, hn20⟩ := hlong
    by_cases h20 : l.length ≤ 20
    · have h20d : decide ((20 : Int) < (l.length : Int)) = false := decide_eq_false (by omega)
      have h20n : ¬ ((20 : Int) < (l.length : Int)) := by omega
      go_wp2_with fail
      refine HL.out.mono ?_
      rintro e w1' ⟨rfl, hw⟩
      obtain rfl : w1 = w1' := hw.symm
      clear HL
      have HM : Hid (Calls Try.prog 10 #[.slice A l.length c, .slice A2 names.length c2] w1 fun e w' => ∃ g N, e = .returned (.pointer (some ⟨g, 0, none⟩)) ∧ GraphAt w' w.heap.size g N (fun x y => (x, y) ∈ l) ∧ (∀ z, z ∈ N ↔ z ∈ names ∨ ∃ e ∈ l, e.1 = z ∨ e.2 = z) ∧ N.length ≤ 1000000 ∧ Below w.heap.size w w') := by
        obtain ⟨hl, hn, hz1, hz2⟩ := X.out
        refine (made_any A c l A2 c2 names (Kd.C_below hl B1.out) (Kd.C_below hn.1 B1.out) (by omega) (by omega) hz1 hz2).mono ?_
        rintro e w2 ⟨g, N, rfl, hG, hN, hln, hb⟩
        exact ⟨g, N, rfl, hG.base B1.out.size, hN, by omega, B1.out.trans (hb.mono B1.out.size)⟩
      go_wp2_with fail
      refine HM.out.mono ?_
      rintro e w2 ⟨g, N, rfl, hG, hN, hln, hb2⟩
      have HO : Hid (Calls Try.prog 11 #[.slice A l.length c, .slice A2 names.length c2] w2 fun e w' => ∃ (An : Option Addr) (cn : Nat) (rn : List ByteArray) (Ae : Option Addr) (ce : Nat) (re : List Pr), e = .returned (.agg #[.slice An rn.length cn, .slice Ae re.length ce]) ∧ Both w w' g N l An cn rn Ae ce re) := by
        obtain ⟨hl, hn, hz1, hz2⟩ := X.out
        refine (Of_any A c l A2 c2 names (Kd.C_below hl hb2) (Kd.C_below hn.1 hb2) hn.2.2 (by omega) (by omega)).mono ?_
        intro e w3 ho
        exact both_of hG hN hln hb2 hl40 hn20 ho
      clear hG hN hln hb2 HM
      go_wp2_with fail
      refine HO.out.mono ?_
      rintro e w3 ⟨An, cn, rn, Ae, ce, re, rfl, hB3⟩
      have P3 := Lib.hid hB3
      clear hB3 HO
      go_wp2_with fail
      have Y4 : Hid (FS w (w3.alloc (.cells #[.slice An rn.length cn, .slice Ae re.length ce] 29)) w3.heap.size g N l An cn rn Ae ce re) :=
        ⟨P3.out.below ((Below.refl _ w3).alloc (Nat.le_refl _) _), (MapKept.heap_alloc w3 _).1⟩
      clear P3
      obtain ⟨b12, hb12⟩ : ∃ b12, b12 = w3.heap.size := ⟨_, rfl⟩
      rw [← hb12] at Y4
      rw [← hb12]
      clear hb12
      refine (Y4.out.order).mono ?_
      rintro e w4 ⟨Aw, cw, p, ok, rfl, hp, hC, hF⟩
      have HP := Lib.hid hp
      have Z4 := Lib.hid (And.intro hC hF)
      clear hp hC hF Y4
      have hc0 := Z4.out.2.cells.1
      have hc1 := Z4.out.2.cells.2
      go_wp2_with fail
      refine (Z4.out.2.reforder HP.out Z4.out.1).mono ?_
      rintro e w5 ⟨Ar, cr, rfl, hC, hC2, hF⟩
      have Z5 := Lib.hid (And.intro hC (And.intro hC2 hF))
      clear hC hC2 hF Z4 HP hc0 hc1
      go_wp2_with fail
      refine (Z5.out.2.2.cycle Z5.out.1 Z5.out.2.1).mono ?_
      rintro e w6 ⟨Ax, cx, q, is, rfl, hq, hC, hold, hF⟩
      have Z6 := Lib.hid (And.intro hq (And.intro hC (And.intro hold hF)))
      clear hq hC hold hF Z5
      have hc0 := Z6.out.2.2.2.cells.1
      have hc1 := Z6.out.2.2.2.cells.2
      go_wp2_with fail
      refine (Z6.out.2.2.2.refcycle Z6.out.2.2.1.1 Z6.out.2.2.1.2 Z6.out.1 Z6.out.2.1).mono ?_
      rintro e w7 ⟨Ay, cy, rfl, hC, hold, hF⟩
      have Z7 := Lib.hid (And.intro hC (And.intro hold hF))
      clear hC hold hF Z6 hc0 hc1
      have hok : (ok == ok) = true := beq_self_eq_true _
      have his : (is == is) = true := beq_self_eq_true _
      go_wp2_with fail
      refine (Equal_any Aw Ar cw cr p p Z7.out.2.1.2 Z7.out.2.1.1).mono ?_
      rintro e w8 ⟨rfl, q8, rfl⟩
      have Z8 : Hid (Kd.C Kd.string (w7.drewN q8) Ay q.length q ∧ Kd.C Kd.string (w7.drewN q8) Ax q.length q ∧ Below w.heap.size w (w7.drewN q8)) :=
        ⟨Kd.C_below Z7.out.1.1 (pw_below_drewN (Below.refl _ _) q8), Kd.C_below Z7.out.1.2 (pw_below_drewN (Below.refl _ _) q8), pw_below_drewN Z7.out.2.2.both.bl q8⟩
      clear Z7
      have hpp : decide (p = p) = true := decide_eq_true rfl
      have hqq : decide (q = q) = true := decide_eq_true rfl
      generalize w7.drewN q8 = W8 at Z8 ⊢
      go_wp2_with fail
      refine (Equal_any Ax Ay cx cy q q Z8.out.2.1 Z8.out.1).mono ?_
      rintro e w9 ⟨rfl, q9, rfl⟩
      have Z9 : Hid (Below w.heap.size w (W8.drewN q9)) := pw_below_drewN Z8.out.2.2 q9
      generalize W8.drewN q9 = W9 at Z9 ⊢
      go_wp2_with fail
      go_ret
      exact ⟨by simp, Z9.out⟩
    · have h20d : decide ((20 : Int) < (l.length : Int)) = true := decide_eq_true (by omega)
      have h20n : ((20 : Int) < (l.length : Int)) := by omega
      go_wp2_with fail
      refine HL.out.mono ?_
      rintro e w1' ⟨rfl, hw⟩
      obtain rfl : w1 = w1' := hw.symm
      clear HL
      go_wp2_with fail
      go_ret
      exact ⟨rfl, B1.out⟩
  · have HL := Lib.hid (long_yes w1 A A2 l.length c names.length c2 hlong)
    go_wp2_with fail
    refine HL.out.mono ?_
    rintro e w1' ⟨rfl, hw⟩
    obtain rfl : w1 = w1' := hw.symm
    clear HL
    go_wp2_with fail
    go_ret
    exact ⟨rfl, B1.out⟩
end Go.Proofs.Ytlccejbomgknkaa
