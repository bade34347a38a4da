/- Texts of this claim, merged; of each text just what the theorem uses: RefBelow, GRefD, GOpen, GRefG, GFinds -/
import Derived.Test.YtlccejbomgknkaaQF4
import Derived.SliceStrings
import Derived.Deep.SlicePairs
namespace Go.Proofs.Ytlccejbomgknkaa.PGraphFinds
open Go.RowKit Go.Proofs.YtlccejbomgknkaaW.PrintWords Go.Proofs.YtlccejbomgknkaaW.PrintLast Go.Proofs.YtlccejbomgknkaaW.PrintMore
set_option linter.unusedVariables false
set_option linter.unusedSimpArgs false
mutual
def brickyardref19_Below.l0 : Nat → List ByteArray → List ByteArray → Int → List ByteArray → List (S45) → Option (List ByteArray)
  | 0, _, _, _, _, _ => none
  | k + 1, x1, x5, x6, x361000, x361001 => if x6 < (x1.length : Int) then (if 0 ≤ x6 then ((brickyardref19_has.f k x361000 (rdOf ByteArray.empty x1 x6)).bind fun t362 => (if t362 = true then (if x5.length < 8796093022208 then (brickyardref19_Below.l0 k x1 (x5 ++ [rdOf ByteArray.empty x1 x6]) (wrap64 (x6 + 1)) x361000 x361001) else (none)) else (brickyardref19_Below.l0 k x1 x5 (wrap64 (x6 + 1)) x361000 x361001))) else (none)) else (brickyardref19_Below.l1 k x5 0 x361000 x361001)
def brickyardref19_Below.l1 : Nat → List ByteArray → Int → List ByteArray → List (S45) → Option (List ByteArray)
  | 0, _, _, _, _ => none
  | k + 1, x5, x7, x361000, x361001 => if x7 < (x5.length : Int) then (if 0 ≤ x7 then ((brickyardref19_Out.f k x361000 x361001 (rdOf ByteArray.empty x5 x7)).bind fun t371 => (brickyardref19_Below.l2 k x5 x7 t371 0 x361000 x361001)) else (none)) else ((brickyardref19_Sorted.f k x5).bind fun t367 => (some t367))
def brickyardref19_Below.l2 : Nat → List ByteArray → Int → List ByteArray → Int → List ByteArray → List (S45) → Option (List ByteArray)
  | 0, _, _, _, _, _, _ => none
  | k + 1, x5, x7, x8, x9, x361000, x361001 => if x9 < (x8.length : Int) then (if 0 ≤ x9 then ((brickyardref19_has.f k x5 (rdOf ByteArray.empty x8 x9)).bind fun t375 => (if t375 = true then (brickyardref19_Below.l2 k x5 x7 x8 (wrap64 (x9 + 1)) x361000 x361001) else (if x5.length < 8796093022208 then (brickyardref19_Below.l2 k (x5 ++ [rdOf ByteArray.empty x8 x9]) x7 x8 (wrap64 (x9 + 1)) x361000 x361001) else (none)))) else (none)) else (brickyardref19_Below.l1 k x5 (wrap64 (x7 + 1)) x361000 x361001)
end
def brickyardref19_Below.f (k : Nat) (l0_0 : List ByteArray) (l0_1 : List (S45)) (l1 : List ByteArray) : Option (List ByteArray) := brickyardref19_Below.l0 k l1 ([] : List ByteArray) 0 l0_0 l0_1
theorem brickyardref19_Below.mono_l : ∀ k, (∀ y0 y1 y2 y3 y4, LeO (brickyardref19_Below.l0 k y0 y1 y2 y3 y4) (brickyardref19_Below.l0 (k + 1) y0 y1 y2 y3 y4)) ∧ (∀ y0 y1 y2 y3, LeO (brickyardref19_Below.l1 k y0 y1 y2 y3) (brickyardref19_Below.l1 (k + 1) y0 y1 y2 y3)) ∧ (∀ y0 y1 y2 y3 y4 y5, LeO (brickyardref19_Below.l2 k y0 y1 y2 y3 y4 y5) (brickyardref19_Below.l2 (k + 1) y0 y1 y2 y3 y4 y5))
  | 0 => ⟨fun _ _ _ _ _ r h => by simp [brickyardref19_Below.l0] at h, fun _ _ _ _ r h => by simp [brickyardref19_Below.l1] at h, fun _ _ _ _ _ _ r h => by simp [brickyardref19_Below.l2] at h⟩
  | k + 1 => by
    obtain ⟨ih0, ih1, ih2⟩ := brickyardref19_Below.mono_l k
    refine ⟨?_, ?_, ?_⟩
    · intro y0 y1 y2 y3 y4
      unfold brickyardref19_Below.l0
      repeat' first
      | (with_reducible exact ih0 _ _ _ _ _)
      | (with_reducible exact ih1 _ _ _ _)
      | (with_reducible exact ih2 _ _ _ _ _ _)
      | (with_reducible exact brickyardref19_Out.mono _ _ _ _)
      | (with_reducible exact brickyardref19_Sorted.mono _ _)
      | (with_reducible exact brickyardref19_has.mono _ _ _)
      | (with_reducible exact LeO.refl _)
      | (with_reducible exact LeO.none _)
      | (with_reducible refine LeO.ite ?_ ?_)
      | (with_reducible refine LeO.bind ?_ (fun _ => ?_))
      | exact ih0 _ _ _ _ _
      | exact ih1 _ _ _ _
      | exact ih2 _ _ _ _ _ _
      | exact brickyardref19_Out.mono _ _ _ _
      | exact brickyardref19_Sorted.mono _ _
      | exact brickyardref19_has.mono _ _ _
      | exact LeO.none _
      | refine LeO.ite ?_ ?_
      | refine LeO.bind ?_ (fun _ => ?_)
    · intro y0 y1 y2 y3
      unfold brickyardref19_Below.l1
      repeat' first
      | (with_reducible exact ih0 _ _ _ _ _)
      | (with_reducible exact ih1 _ _ _ _)
      | (with_reducible exact ih2 _ _ _ _ _ _)
      | (with_reducible exact brickyardref19_Out.mono _ _ _ _)
      | (with_reducible exact brickyardref19_Sorted.mono _ _)
      | (with_reducible exact brickyardref19_has.mono _ _ _)
      | (with_reducible exact LeO.refl _)
      | (with_reducible exact LeO.none _)
      | (with_reducible refine LeO.ite ?_ ?_)
      | (with_reducible refine LeO.bind ?_ (fun _ => ?_))
      | exact ih0 _ _ _ _ _
      | exact ih1 _ _ _ _
      | exact ih2 _ _ _ _ _ _
      | exact brickyardref19_Out.mono _ _ _ _
      | exact brickyardref19_Sorted.mono _ _
      | exact brickyardref19_has.mono _ _ _
      | exact LeO.none _
      | refine LeO.ite ?_ ?_
      | refine LeO.bind ?_ (fun _ => ?_)
    · intro y0 y1 y2 y3 y4 y5
      unfold brickyardref19_Below.l2
      repeat' first
      | (with_reducible exact ih0 _ _ _ _ _)
      | (with_reducible exact ih1 _ _ _ _)
      | (with_reducible exact ih2 _ _ _ _ _ _)
      | (with_reducible exact brickyardref19_Out.mono _ _ _ _)
      | (with_reducible exact brickyardref19_Sorted.mono _ _)
      | (with_reducible exact brickyardref19_has.mono _ _ _)
      | (with_reducible exact LeO.refl _)
      | (with_reducible exact LeO.none _)
      | (with_reducible refine LeO.ite ?_ ?_)
      | (with_reducible refine LeO.bind ?_ (fun _ => ?_))
      | exact ih0 _ _ _ _ _
      | exact ih1 _ _ _ _
      | exact ih2 _ _ _ _ _ _
      | exact brickyardref19_Out.mono _ _ _ _
      | exact brickyardref19_Sorted.mono _ _
      | exact brickyardref19_has.mono _ _ _
      | exact LeO.none _
      | refine LeO.ite ?_ ?_
      | refine LeO.bind ?_ (fun _ => ?_)
theorem brickyardref19_Below.mono : ∀ a0 a1 a2 k, LeO (brickyardref19_Below.f k a0 a1 a2) (brickyardref19_Below.f (k + 1) a0 a1 a2) := by
  intro a0 a1 a2 k
  obtain ⟨ih0, ih1, ih2⟩ := brickyardref19_Below.mono_l k
  unfold brickyardref19_Below.f
  repeat' first
      | (with_reducible exact ih0 _ _ _ _ _)
      | (with_reducible exact ih1 _ _ _ _)
      | (with_reducible exact ih2 _ _ _ _ _ _)
      | (with_reducible exact brickyardref19_Out.mono _ _ _ _)
      | (with_reducible exact brickyardref19_Sorted.mono _ _)
      | (with_reducible exact brickyardref19_has.mono _ _ _)
      | (with_reducible exact LeO.refl _)
      | (with_reducible exact LeO.none _)
      | (with_reducible refine LeO.ite ?_ ?_)
      | (with_reducible refine LeO.bind ?_ (fun _ => ?_))
      | exact ih0 _ _ _ _ _
      | exact ih1 _ _ _ _
      | exact ih2 _ _ _ _ _ _
      | exact brickyardref19_Out.mono _ _ _ _
      | exact brickyardref19_Sorted.mono _ _
      | exact brickyardref19_has.mono _ _ _
      | exact LeO.none _
      | refine LeO.ite ?_ ?_
      | refine LeO.bind ?_ (fun _ => ?_)
set_option maxHeartbeats 8000000 in
set_option maxRecDepth 100000 in
theorem brickyardref19_Below.calls (k : Nat) (A0_0 : Option Addr) (c0_0 : Nat) (l0_0 : List ByteArray) (A0_1 : Option Addr) (c0_1 : Nat) (l0_1 : List (S45)) (A1 : Option Addr) (c1 : Nat) (l1 : List ByteArray) (r : List ByteArray) (w : World) (hr0_0 : Kd.C Kd.string w A0_0 l0_0.length l0_0) (hc0_0 : l0_0.length ≤ c0_0) (hr0_1 : Kd.C k45 w A0_1 l0_1.length l0_1) (hc0_1 : l0_1.length ≤ c0_1) (hr1 : Kd.C Kd.string w A1 l1.length l1) (hc1 : l1.length ≤ c1) (h : brickyardref19_Below.f k l0_0 l0_1 l1 = some r) :
    Calls Try.prog 17 #[.agg #[.slice A0_0 l0_0.length c0_0, .slice A0_1 l0_1.length c0_1], .slice A1 l1.length c1] w fun e w' => ∃ v0_ : Value, e = .returned (v0_) ∧ Kd.R Kd.string 9 w' w.heap.size (fun _ => True) v0_ r ∧ Below w.heap.size w w' := by
  have hu29 := Try.underlying29
  have HR0_0 := Aside0.mk hr0_0
  have HC0_0 := Aside0.mk hc0_0
  clear hr0_0 hc0_0
  have HR0_1 := Aside0.mk hr0_1
  have HC0_1 := Aside0.mk hc0_1
  clear hr0_1 hc0_1
  have HR1 := Aside0.mk hr1
  have HC1 := Aside0.mk hc1
  clear hr1 hc1
  have HB := Aside0.mk (Below.refl w.heap.size w)
  have H : (brickyardref19_Below.l0 k l1 ([] : List ByteArray) 0 l0_0 l0_1) = some r := h
  clear h
  have H' := Aside0.mk H
  clear H
  go_enter Try.func17, Try.ntmps17
  go_wp2_with (first | ((with_reducible refine gate_dst (N := 2) rfl ?_); refine box_event ?hg (N := 2) ?hd (cs := #[.slice A0_0 l0_0.length c0_0, .slice A0_1 l0_1.length c0_1]) (t := 29) ?hr ?_; (case hd => rfl); (case hg => rfl); (case hr => first | (go_simp; done) | (go_simp; rfl)); intro gb360 hg w3 hbox hb; have n0_ := Aside0.mk (below_step (by repeat (first | (with_reducible first | exact HB.out | apply below_alloc | apply pw_below_drewN | apply below_drew1) | exact HB.out)) hb); have n1_ := Aside0.mk (hbox); have n2_ := Aside0.mk ((by rw [hg]; exact (below_size (by repeat (first | (with_reducible first | exact HB.out | apply below_alloc | apply pw_below_drewN | apply below_drew1) | exact HB.out))) : w.heap.size ≤ gb360)); have n3_ := Aside0.mk ((by rw [hg]; exact (below_size (by repeat (first | (with_reducible first | exact HB.out | apply below_alloc | apply pw_below_drewN | apply below_drew1) | exact HB.out))) : w.heap.size ≤ gb360)); clear HB; have HB := n0_; have BK360 := n1_; have GW360 := n2_; have GE360 := n3_; clear n0_ n1_ n2_ n3_; clear hb hbox hg))
  go_loopg [5, 6] k (fun kq v5 v6 w' => ∃ (x5_1 : List ByteArray) (x6_1 : Int), v6 = .int .i64 x6_1 ∧ Aside0 (brickyardref19_Below.l0 kq l1 x5_1 x6_1 l0_0 l0_1 = some r) ∧ Aside0 (kq ≤ k) ∧ Aside0 (Kd.R Kd.string 9 w' w.heap.size (fun _ => True) v5 x5_1) ∧ Aside0 (w'.heap[gb360]? = some (.cells #[(.slice A0_0 l0_0.length c0_0), (.slice A0_1 l0_1.length c0_1)] 29 (0, 0))) ∧ Aside0 (Below w.heap.size w w'))
  case atStart => exact ⟨(([] : List ByteArray)), (0), (by first | rfl | (simp; done) | (simp [*]; done)), H', ⟨Nat.le_refl _⟩, ⟨by first | exact Kd.R_nil _ _ _ _ _ | exact Kd.N_nil _ _ _ _ _ | exact Kd.V_nil _ _ _ _ _ | exact Kd.Q_nil _ _ _ _ _ | exact Kd.S_nil _ _ _ _ _⟩, ⟨by (with_reducible repeat (first | refine blk_drewN ?_ _ | refine blk_drew ?_ | refine blk_alloc ?_ _)); exact BK360.out⟩, ⟨by repeat (first | (with_reducible first | exact HB.out | apply below_alloc | apply pw_below_drewN | apply below_drew1 | refine below_set ?_ GE360.out) | exact HB.out)⟩⟩
  case round =>
    clear H'
    try clear c1
    try clear p2
    obtain ⟨x5_1, x6_1, rfl, HA, HK1, HO_5, BK360, HB⟩ := hrel
    cases gk with
    | zero => exact absurd HA.out (by simp [brickyardref19_Below.l0])
    | succ k1 =>
      have H := HA.out
      clear HA
      simp only [brickyardref19_Below.l0] at H
      by_cases c4 : x6_1 < (l1.length : Int)
      · rw [if_pos c4] at H
        have c4b0 : decide (x6_1 < (l1.length : Int)) = true := decide_eq_true c4
        clear c4
        by_cases c5 : 0 ≤ x6_1
        · rw [if_pos c5] at H
          have c5b0 : decide (0 ≤ x6_1) = true := decide_eq_true c5
          clear c5
          replace H := Option.bind_eq_some_iff.mp H
          obtain ⟨t362, A60, H⟩ := H
          replace H : (if t362 = true then (if x5_1.length < 8796093022208 then (brickyardref19_Below.l0 k1 l1 (x5_1 ++ [rdOf ByteArray.empty l1 x6_1]) (wrap64 (x6_1 + 1)) l0_0 l0_1) else (none)) else (brickyardref19_Below.l0 k1 l1 x5_1 (wrap64 (x6_1 + 1)) l0_0 l0_1)) = some r := H
          have A6 := Aside0.mk A60
          clear A60
          by_cases c7 : t362 = true
          · subst c7
            have H1 : (if x5_1.length < 8796093022208 then (brickyardref19_Below.l0 k1 l1 (x5_1 ++ [rdOf ByteArray.empty l1 x6_1]) (wrap64 (x6_1 + 1)) l0_0 l0_1) else (none)) = some r := by rw [if_pos rfl] at H; exact H
            clear H
            have H := H1
            clear H1
            by_cases c8 : x5_1.length < 8796093022208
            · rw [if_pos c8] at H
              have LMc8 := Aside0.mk c8
              clear c8
              obtain ⟨y364, hy364⟩ : ∃ y_ : List ByteArray, y_ = (x5_1 ++ [rdOf ByteArray.empty l1 x6_1]) := ⟨_, rfl⟩
              replace H : (brickyardref19_Below.l0 k1 l1 y364 (wrap64 (x6_1 + 1)) l0_0 l0_1) = some r := by first | (rw [hy364]; with_reducible exact H) | (have H2_ := (Option.bind_some _ _).symm.trans H; rw [hy364]; with_reducible exact H2_) | (have H2_ := (Option.bind_some _ _).symm.trans H; with_reducible exact H2_) | with_reducible exact H | (rw [hy364]; exact H) | exact H
              have Ny364 := Aside0.mk hy364
              clear hy364
              have H' := Aside0.mk H
              clear H
              try go_wp2
              have n0_ := Aside0.mk (Kd.R_drew HO_5.out)
              have n1_ := Aside0.mk (blk_drew BK360.out)
              have n2_ := Aside0.mk (below_drew1 HB.out)
              clear HO_5
              clear BK360
              clear HB
              have HO_5 := n0_
              have BK360 := n1_
              have HB := n2_
              clear n0_ n1_ n2_
              have p361 : 0 ≤ (x6_1 : Int) := of_decide_eq_true (by first | (with_reducible assumption) | assumption)
              have q361 : x6_1 < (l1.length : Int) := of_decide_eq_true (by first | (with_reducible assumption) | assumption)
              obtain ⟨ad361, e361, hx361_0⟩ := Kd.at_string HR1.out x6_1 p361 q361
              have hw361_0 := hx361_0
              cases e361
              replace hx361_0 := (HB.out.cell (World.block_lt_of_cell? w _ hx361_0)).trans hx361_0
              replace p361 := eq_true p361
              replace q361 := eq_true q361
              refine start_ (n := 7) (S := fun w' => w'.cell? ⟨gb360, 0, none⟩ = some (.slice A0_0 l0_0.length c0_0) ∧ w'.cell? ⟨gb360, 1, none⟩ = some (.slice A0_1 l0_1.length c0_1) ∧ w'.cell? (ad361.add (x6_1).toNat) = some (.string (rdOf ByteArray.empty l1 x6_1))) (ds := []) #[false, false, false, false, false, false, false] (by kernel_rfl) rfl rfl ⟨(blk_cell BK360.out 0).trans rfl, (blk_cell BK360.out 1).trans rfl, ((HB.out.cell (World.block_lt_of_cell? w _ hw361_0)).trans hw361_0)⟩ (fun hHeld => ?_)
              generalize wr.drew = w9 at HO_5 BK360 HB hx361_0 hHeld ⊢
              refine pure_ (i := 0) (N := some 16) (v := ?_) (a' := ?_) #[true, false, false, false, false, false, false] rfl rfl (by kernel_rfl) (fun _ _ _ h => h) (Or.inl ⟨by rfl, ?_⟩) ?_ ?_
              rotate_left
              · intro w'
                go_simp
                with_reducible rfl
              rotate_left
              · simp only [Act.put, List.setIfInBounds_toArray, List.set_cons_zero, List.set_cons_succ, i64_w, i32_w]
                rfl
              refine pure_ (i := 2) (N := some 18) (v := ?_) (a' := ?_) #[true, false, true, false, false, false, false] rfl rfl (by kernel_rfl) (fun _ _ _ h => h) (Or.inl ⟨by rfl, ?_⟩) ?_ ?_
              rotate_left
              · intro w'
                go_simp
                with_reducible rfl
              rotate_left
              · simp only [Act.put, List.setIfInBounds_toArray, List.set_cons_zero, List.set_cons_succ, i64_w, i32_w]
                rfl
              refine pure_ (i := 3) (N := some 19) (v := ?_) (a' := ?_) #[true, false, true, true, false, false, false] rfl rfl (by kernel_rfl) (fun _ _ _ h => h) (Or.inl ⟨by rfl, ?_⟩) ?_ ?_
              rotate_left
              · intro w'
                go_simp
                with_reducible rfl
              rotate_left
              · simp only [Act.put, List.setIfInBounds_toArray, List.set_cons_zero, List.set_cons_succ, i64_w, i32_w]
                rfl
              refine pure_ (i := 4) (N := some 20) (v := ?_) (a' := ?_) #[true, false, true, true, true, false, false] rfl rfl (by kernel_rfl) (fun _ _ _ h => h) (Or.inl ⟨by rfl, ?_⟩) ?_ ?_
              rotate_left
              · intro w'
                go_simp
                with_reducible rfl
              rotate_left
              · simp only [Act.put, List.setIfInBounds_toArray, List.set_cons_zero, List.set_cons_succ, i64_w, i32_w]
                rfl
              refine take_ (i := 1) (N := some 17) (v := ?_) (a' := ?_) #[true, true, true, true, true, false, false] rfl rfl (by kernel_rfl) (fun _ _ _ h => h) (Or.inl ⟨by rfl, ?_⟩) hHeld ?_ ?_
              rotate_left
              · rintro w' ⟨s0, s1, s2⟩
                go_simp
                with_reducible rfl
              rotate_left
              · simp only [Act.put, List.setIfInBounds_toArray, List.set_cons_zero, List.set_cons_succ, i64_w, i32_w]
                rfl
              refine take_ (i := 5) (N := some 21) (v := ?_) (a' := ?_) #[true, true, true, true, true, true, false] rfl rfl (by kernel_rfl) (fun _ _ _ h => h) (Or.inl ⟨by rfl, ?_⟩) hHeld ?_ ?_
              rotate_left
              · rintro w' ⟨s0, s1, s2⟩
                go_simp
                with_reducible rfl
              rotate_left
              · simp only [Act.put, List.setIfInBounds_toArray, List.set_cons_zero, List.set_cons_succ, i64_w, i32_w]
                rfl
              refine one_ (i := 6) (N := some 22) #[true, true, true, true, true, true, true] rfl rfl (by kernel_rfl) (by decide) (fun K hK => ?_)
              refine goes_ Try.func41 (by kernel_rfl) rfl #[.slice A0_0 l0_0.length c0_0, .string (rdOf ByteArray.empty l1 x6_1)] (by rfl) rfl rfl (by (try simp only [List.map_toArray, List.map_cons, List.map_nil]); first | done | rfl | (simp only [List.length_drop, List.length_take]; rfl)) ?_
              with_reducible refine (brickyardref19_has.calls k1 _ _ l0_0 (rdOf ByteArray.empty l1 x6_1) true _ ?side1 ?side2 A6.out).mono ?_
              (case side1 => repeat (first | exact (Kd.C_below HR0_0.out HB.out) | (with_reducible refine Kd.C_alloc ?_ _) | (with_reducible refine Kd.C_drewN ?_ _) | (with_reducible refine Kd.C_drew ?_)))
              (case side2 => exact HC0_0.out)
              rintro e w' ⟨rfl, ⟨nd, rfl⟩⟩
              refine ⟨_, rfl, ?_⟩
              refine hK.out _ _ ⟨(blk_cell BK360.out 0).trans rfl, (blk_cell BK360.out 1).trans rfl, ((HB.out.cell (World.block_lt_of_cell? w _ hw361_0)).trans hw361_0)⟩ (fun hHeld => ?_)
              clear hK K
              refine norm_ (a' := ?_) ?_ ?_
              rotate_left
              · show Act.put _ (some 22) _ = _
                simp only [Act.put, List.setIfInBounds_toArray, List.set_cons_zero, List.set_cons_succ, i64_w, i32_w]
                rfl
              refine done_ (by kernel_rfl) ?_
              have p363 : 0 ≤ (x6_1 : Int) := of_decide_eq_true (by first | (with_reducible assumption) | assumption)
              have q363 : x6_1 < (l1.length : Int) := of_decide_eq_true (by first | (with_reducible assumption) | assumption)
              obtain ⟨ad363, e363, hx363_0⟩ := Kd.at_string HR1.out x6_1 p363 q363
              obtain rfl : ad361 = ad363 := (by injection e363)
              replace hx363_0 := (HB.out.cell (World.block_lt_of_cell? w _ hx363_0)).trans hx363_0
              replace p363 := eq_true p363
              replace q363 := eq_true q363
              try go_wp2_with (first | ((with_reducible refine gate_builtin (b := .append) (xs := #[.tmp 23, .tmp 28]) rfl ?_); at_builtin; refine Kd.R_append Kd.string (w0 := w) w.heap.size rfl (.tmp 23) (.tmp 28) 23 9 (.string ⟨#[]⟩) 16 rfl Try.underlying23 info9 rfl (by decide) (by omega) u5 x5_1 (rdOf ByteArray.empty l1 x6_1) [.string (rdOf ByteArray.empty l1 x6_1)] (fun _ => True) (fun _ => False) rfl rfl ?aP (fun _ hk => hk.elim) ?aF ?aO ?aB ?aS ?aL ?_; (case aP => exact rfl); (case aB => exact (by repeat (first | (with_reducible first | exact HB.out | apply below_alloc | apply pw_below_drewN | apply below_drew1 | refine below_set ?_ GE360.out) | exact HB.out))); (case aF => exact (fun _ _ => trivial)); (case aO => exact (by (with_reducible repeat (first | apply Kd.R_alloc | apply Kd.R_drewN | apply Kd.R_drew)); exact HO_5.out)); (case aS => exact (below_size (by repeat (first | (with_reducible first | exact HB.out | apply below_alloc | apply pw_below_drewN | apply below_drew1 | refine below_set ?_ GE360.out) | exact HB.out)))); (case aL => have := LMc8.out; omega); intro v365 w10 ho hb hg hat; rw [← Ny364.out] at ho; have n0_ := Aside0.mk (blk_grown (g := gb360) (o := .cells #[.slice A0_0 l0_0.length c0_0, .slice A0_1 l0_1.length c0_1] 29 (0, 0)) (by (with_reducible repeat (first | refine blk_drewN ?_ _ | refine blk_drew ?_ | refine blk_alloc ?_ _)); exact BK360.out) hg (Kd.R_ne HO_5.out BK360.out (by decide))); have n1_ := Aside0.mk (hb); have n2_ := Aside0.mk (ho); clear BK360; clear HB; clear HO_5; have BK360 := n0_; have HB := n1_; have HO366 := n2_; clear n0_ n1_ n2_; clear ho hb hg hat))
              go_roundg k1
              case measure => have := HK1.out; omega
              case rel => exact ⟨(y364), (wrap64 (x6_1 + 1)), (by first | rfl | (simp; done) | (simp [*]; done)), H', ⟨by have := HK1.out; omega⟩, ⟨by (with_reducible repeat (first | apply Kd.R_alloc | apply Kd.R_drewN | apply Kd.R_drew)); exact HO366.out⟩, ⟨by (with_reducible repeat (first | refine blk_drewN ?_ _ | refine blk_drew ?_ | refine blk_alloc ?_ _)); exact BK360.out⟩, ⟨by repeat (first | (with_reducible first | exact HB.out | apply below_alloc | apply pw_below_drewN | apply below_drew1 | refine below_set ?_ GE360.out) | exact HB.out)⟩⟩
            · rw [if_neg c8] at H
              exact absurd H (by simp)
          · replace c7 := Bool.eq_false_iff.mpr c7
            subst c7
            have H1 : (brickyardref19_Below.l0 k1 l1 x5_1 (wrap64 (x6_1 + 1)) l0_0 l0_1) = some r := by rw [if_neg (show ¬ (false = true) by decide)] at H; exact H
            clear H
            have H := H1
            clear H1
            have H' := Aside0.mk H
            clear H
            try go_wp2
            have n0_ := Aside0.mk (Kd.R_drew HO_5.out)
            have n1_ := Aside0.mk (blk_drew BK360.out)
            have n2_ := Aside0.mk (below_drew1 HB.out)
            clear HO_5
            clear BK360
            clear HB
            have HO_5 := n0_
            have BK360 := n1_
            have HB := n2_
            clear n0_ n1_ n2_
            have p361 : 0 ≤ (x6_1 : Int) := of_decide_eq_true (by first | (with_reducible assumption) | assumption)
            have q361 : x6_1 < (l1.length : Int) := of_decide_eq_true (by first | (with_reducible assumption) | assumption)
            obtain ⟨ad361, e361, hx361_0⟩ := Kd.at_string HR1.out x6_1 p361 q361
            have hw361_0 := hx361_0
            cases e361
            replace hx361_0 := (HB.out.cell (World.block_lt_of_cell? w _ hx361_0)).trans hx361_0
            replace p361 := eq_true p361
            replace q361 := eq_true q361
            refine start_ (n := 7) (S := fun w' => w'.cell? ⟨gb360, 0, none⟩ = some (.slice A0_0 l0_0.length c0_0) ∧ w'.cell? ⟨gb360, 1, none⟩ = some (.slice A0_1 l0_1.length c0_1) ∧ w'.cell? (ad361.add (x6_1).toNat) = some (.string (rdOf ByteArray.empty l1 x6_1))) (ds := []) #[false, false, false, false, false, false, false] (by kernel_rfl) rfl rfl ⟨(blk_cell BK360.out 0).trans rfl, (blk_cell BK360.out 1).trans rfl, ((HB.out.cell (World.block_lt_of_cell? w _ hw361_0)).trans hw361_0)⟩ (fun hHeld => ?_)
            generalize wr.drew = w11 at HO_5 BK360 HB hx361_0 hHeld ⊢
            refine pure_ (i := 0) (N := some 16) (v := ?_) (a' := ?_) #[true, false, false, false, false, false, false] rfl rfl (by kernel_rfl) (fun _ _ _ h => h) (Or.inl ⟨by rfl, ?_⟩) ?_ ?_
            rotate_left
            · intro w'
              go_simp
              with_reducible rfl
            rotate_left
            · simp only [Act.put, List.setIfInBounds_toArray, List.set_cons_zero, List.set_cons_succ, i64_w, i32_w]
              rfl
            refine pure_ (i := 2) (N := some 18) (v := ?_) (a' := ?_) #[true, false, true, false, false, false, false] rfl rfl (by kernel_rfl) (fun _ _ _ h => h) (Or.inl ⟨by rfl, ?_⟩) ?_ ?_
            rotate_left
            · intro w'
              go_simp
              with_reducible rfl
            rotate_left
            · simp only [Act.put, List.setIfInBounds_toArray, List.set_cons_zero, List.set_cons_succ, i64_w, i32_w]
              rfl
            refine pure_ (i := 3) (N := some 19) (v := ?_) (a' := ?_) #[true, false, true, true, false, false, false] rfl rfl (by kernel_rfl) (fun _ _ _ h => h) (Or.inl ⟨by rfl, ?_⟩) ?_ ?_
            rotate_left
            · intro w'
              go_simp
              with_reducible rfl
            rotate_left
            · simp only [Act.put, List.setIfInBounds_toArray, List.set_cons_zero, List.set_cons_succ, i64_w, i32_w]
              rfl
            refine pure_ (i := 4) (N := some 20) (v := ?_) (a' := ?_) #[true, false, true, true, true, false, false] rfl rfl (by kernel_rfl) (fun _ _ _ h => h) (Or.inl ⟨by rfl, ?_⟩) ?_ ?_
            rotate_left
            · intro w'
              go_simp
              with_reducible rfl
            rotate_left
            · simp only [Act.put, List.setIfInBounds_toArray, List.set_cons_zero, List.set_cons_succ, i64_w, i32_w]
              rfl
            refine take_ (i := 1) (N := some 17) (v := ?_) (a' := ?_) #[true, true, true, true, true, false, false] rfl rfl (by kernel_rfl) (fun _ _ _ h => h) (Or.inl ⟨by rfl, ?_⟩) hHeld ?_ ?_
            rotate_left
            · rintro w' ⟨s0, s1, s2⟩
              go_simp
              with_reducible rfl
            rotate_left
            · simp only [Act.put, List.setIfInBounds_toArray, List.set_cons_zero, List.set_cons_succ, i64_w, i32_w]
              rfl
            refine take_ (i := 5) (N := some 21) (v := ?_) (a' := ?_) #[true, true, true, true, true, true, false] rfl rfl (by kernel_rfl) (fun _ _ _ h => h) (Or.inl ⟨by rfl, ?_⟩) hHeld ?_ ?_
            rotate_left
            · rintro w' ⟨s0, s1, s2⟩
              go_simp
              with_reducible rfl
            rotate_left
            · simp only [Act.put, List.setIfInBounds_toArray, List.set_cons_zero, List.set_cons_succ, i64_w, i32_w]
              rfl
            refine one_ (i := 6) (N := some 22) #[true, true, true, true, true, true, true] rfl rfl (by kernel_rfl) (by decide) (fun K hK => ?_)
            refine goes_ Try.func41 (by kernel_rfl) rfl #[.slice A0_0 l0_0.length c0_0, .string (rdOf ByteArray.empty l1 x6_1)] (by rfl) rfl rfl (by (try simp only [List.map_toArray, List.map_cons, List.map_nil]); first | done | rfl | (simp only [List.length_drop, List.length_take]; rfl)) ?_
            with_reducible refine (brickyardref19_has.calls k1 _ _ l0_0 (rdOf ByteArray.empty l1 x6_1) false _ ?side1 ?side2 A6.out).mono ?_
            (case side1 => repeat (first | exact (Kd.C_below HR0_0.out HB.out) | (with_reducible refine Kd.C_alloc ?_ _) | (with_reducible refine Kd.C_drewN ?_ _) | (with_reducible refine Kd.C_drew ?_)))
            (case side2 => exact HC0_0.out)
            rintro e w' ⟨rfl, ⟨nd, rfl⟩⟩
            refine ⟨_, rfl, ?_⟩
            refine hK.out _ _ ⟨(blk_cell BK360.out 0).trans rfl, (blk_cell BK360.out 1).trans rfl, ((HB.out.cell (World.block_lt_of_cell? w _ hw361_0)).trans hw361_0)⟩ (fun hHeld => ?_)
            clear hK K
            refine norm_ (a' := ?_) ?_ ?_
            rotate_left
            · show Act.put _ (some 22) _ = _
              simp only [Act.put, List.setIfInBounds_toArray, List.set_cons_zero, List.set_cons_succ, i64_w, i32_w]
              rfl
            refine done_ (by kernel_rfl) ?_
            try go_wp2
            go_roundg k1
            case measure => have := HK1.out; omega
            case rel => exact ⟨(x5_1), (wrap64 (x6_1 + 1)), (by first | rfl | (simp; done) | (simp [*]; done)), H', ⟨by have := HK1.out; omega⟩, ⟨by (with_reducible repeat (first | apply Kd.R_alloc | apply Kd.R_drewN | apply Kd.R_drew)); exact HO_5.out⟩, ⟨by (with_reducible repeat (first | refine blk_drewN ?_ _ | refine blk_drew ?_ | refine blk_alloc ?_ _)); exact BK360.out⟩, ⟨by repeat (first | (with_reducible first | exact HB.out | apply below_alloc | apply pw_below_drewN | apply below_drew1 | refine below_set ?_ GE360.out) | exact HB.out)⟩⟩
        · rw [if_neg c5] at H
          exact absurd H (by simp)
      · rw [if_neg c4] at H
        have c4b0 : decide (x6_1 < (l1.length : Int)) = false := decide_eq_false c4
        clear c4
        have H' := Aside0.mk H
        clear H
        go_wp2
        go_loopg [5, 7] k1 (fun kq v5 v7 w' => ∃ (x5_2 : List ByteArray) (x7_2 : Int), v7 = .int .i64 x7_2 ∧ Aside0 (brickyardref19_Below.l1 kq x5_2 x7_2 l0_0 l0_1 = some r) ∧ Aside0 (kq ≤ k1) ∧ Aside0 (Kd.R Kd.string 9 w' w.heap.size (fun _ => True) v5 x5_2) ∧ Aside0 (w'.heap[gb360]? = some (.cells #[(.slice A0_0 l0_0.length c0_0), (.slice A0_1 l0_1.length c0_1)] 29 (0, 0))) ∧ Aside0 (Below w.heap.size w w'))
        case atStart => exact ⟨(x5_1), (0), (by first | rfl | (simp; done) | (simp [*]; done)), H', ⟨Nat.le_refl _⟩, ⟨by (with_reducible repeat (first | apply Kd.R_alloc | apply Kd.R_drewN | apply Kd.R_drew)); exact HO_5.out⟩, ⟨by (with_reducible repeat (first | refine blk_drewN ?_ _ | refine blk_drew ?_ | refine blk_alloc ?_ _)); exact BK360.out⟩, ⟨by repeat (first | (with_reducible first | exact HB.out | apply below_alloc | apply pw_below_drewN | apply below_drew1 | refine below_set ?_ GE360.out) | exact HB.out)⟩⟩
        case round =>
          clear H'
          try clear c1
          try clear p2
          try clear p3
          try clear q3
          try clear hx3
          try clear c4
          try clear c4b0
          try clear c5
          try clear c5b0
          try clear p6
          try clear c7
          try clear c8
          try clear hx361_0
          try clear hx363_0
          try clear p2
          try clear p361
          try clear p363
          try clear q361
          try clear q363
          obtain ⟨x5_2, x7_2, rfl, HA, HK2, HO_5, BK360, HB⟩ := hrel
          cases gk with
          | zero => exact absurd HA.out (by simp [brickyardref19_Below.l1])
          | succ k2 =>
            have H := HA.out
            clear HA
            simp only [brickyardref19_Below.l1] at H
            by_cases c12 : x7_2 < (x5_2.length : Int)
            · rw [if_pos c12] at H
              have c12b0 : decide (x7_2 < (x5_2.length : Int)) = true := decide_eq_true c12
              clear c12
              by_cases c13 : 0 ≤ x7_2
              · rw [if_pos c13] at H
                have c13b0 : decide (0 ≤ x7_2) = true := decide_eq_true c13
                clear c13
                replace H := Option.bind_eq_some_iff.mp H
                obtain ⟨t371, A140, H⟩ := H
                replace H : (brickyardref19_Below.l2 k2 x5_2 x7_2 t371 0 l0_0 l0_1) = some r := H
                have A14 := Aside0.mk A140
                clear A140
                have H' := Aside0.mk H
                clear H
                obtain ⟨Ao15, co15, eo15⟩ := Kd.R_slice HO_5.out
                subst eo15
                try go_wp2
                have n0_ := Aside0.mk (Kd.R_drew HO_5.out)
                have n1_ := Aside0.mk (blk_drew BK360.out)
                have n2_ := Aside0.mk (below_drew1 HB.out)
                clear HO_5
                clear BK360
                clear HB
                have HO_5 := n0_
                have BK360 := n1_
                have HB := n2_
                clear n0_ n1_ n2_
                have p370 : 0 ≤ (x7_2 : Int) := of_decide_eq_true (by first | (with_reducible assumption) | assumption)
                have q370 : x7_2 < (x5_2.length : Int) := of_decide_eq_true (by first | (with_reducible assumption) | assumption)
                obtain ⟨ad370, e370, hx370_0⟩ := Kd.at_string (Kd.R_reads' HO_5.out).2.2 x7_2 p370 q370
                cases e370
                replace p370 := eq_true p370
                replace q370 := eq_true q370
                refine start_ (n := 7) (S := fun w' => w'.cell? ⟨gb360, 0, none⟩ = some (.slice A0_0 l0_0.length c0_0) ∧ w'.cell? ⟨gb360, 1, none⟩ = some (.slice A0_1 l0_1.length c0_1) ∧ w'.cell? (ad370.add (x7_2).toNat) = some (.string (rdOf ByteArray.empty x5_2 x7_2))) (ds := []) #[false, false, false, false, false, false, false] (by kernel_rfl) rfl rfl ⟨(blk_cell BK360.out 0).trans rfl, (blk_cell BK360.out 1).trans rfl, hx370_0⟩ (fun hHeld => ?_)
                generalize wr.drew = w16 at HO_5 BK360 HB hx370_0 hHeld ⊢
                refine pure_ (i := 1) (N := some 37) (v := ?_) (a' := ?_) #[false, true, false, false, false, false, false] rfl rfl (by kernel_rfl) (fun _ _ _ h => h) (Or.inl ⟨by rfl, ?_⟩) ?_ ?_
                rotate_left
                · intro w'
                  go_simp
                  with_reducible rfl
                rotate_left
                · simp only [Act.put, List.setIfInBounds_toArray, List.set_cons_zero, List.set_cons_succ, i64_w, i32_w]
                  rfl
                refine pure_ (i := 2) (N := some 38) (v := ?_) (a' := ?_) #[false, true, true, false, false, false, false] rfl rfl (by kernel_rfl) (fun _ _ _ h => h) (Or.inl ⟨by rfl, ?_⟩) ?_ ?_
                rotate_left
                · intro w'
                  go_simp
                  with_reducible rfl
                rotate_left
                · simp only [Act.put, List.setIfInBounds_toArray, List.set_cons_zero, List.set_cons_succ, i64_w, i32_w]
                  rfl
                refine pure_ (i := 3) (N := some 39) (v := ?_) (a' := ?_) #[false, true, true, true, false, false, false] rfl rfl (by kernel_rfl) (fun _ _ _ h => h) (Or.inl ⟨by rfl, ?_⟩) ?_ ?_
                rotate_left
                · intro w'
                  go_simp
                  with_reducible rfl
                rotate_left
                · simp only [Act.put, List.setIfInBounds_toArray, List.set_cons_zero, List.set_cons_succ, i64_w, i32_w]
                  rfl
                refine take_ (i := 0) (N := some 36) (v := ?_) (a' := ?_) #[true, true, true, true, false, false, false] rfl rfl (by kernel_rfl) (fun _ _ _ h => h) (Or.inl ⟨by rfl, ?_⟩) hHeld ?_ ?_
                rotate_left
                · rintro w' ⟨s0, s1, s2⟩
                  go_simp
                  with_reducible rfl
                rotate_left
                · simp only [Act.put, List.setIfInBounds_toArray, List.set_cons_zero, List.set_cons_succ, i64_w, i32_w]
                  rfl
                refine take_ (i := 4) (N := some 40) (v := ?_) (a' := ?_) #[true, true, true, true, true, false, false] rfl rfl (by kernel_rfl) (fun _ _ _ h => h) (Or.inl ⟨by rfl, ?_⟩) hHeld ?_ ?_
                rotate_left
                · rintro w' ⟨s0, s1, s2⟩
                  go_simp
                  with_reducible rfl
                rotate_left
                · simp only [Act.put, List.setIfInBounds_toArray, List.set_cons_zero, List.set_cons_succ, i64_w, i32_w]
                  rfl
                refine one_ (i := 5) (N := some 41) #[true, true, true, true, true, true, false] rfl rfl (by kernel_rfl) (by decide) (fun K hK => ?_)
                refine goes_ Try.func28 (by kernel_rfl) rfl #[.agg #[.slice A0_0 l0_0.length c0_0, .slice A0_1 l0_1.length c0_1], .string (rdOf ByteArray.empty x5_2 x7_2)] (by rfl) rfl rfl (by (try simp only [List.map_toArray, List.map_cons, List.map_nil]); first | done | rfl | (simp only [List.length_drop, List.length_take]; rfl)) ?_
                with_reducible refine (brickyardref19_Out.calls k2 _ _ l0_0 _ _ l0_1 (rdOf ByteArray.empty x5_2 x7_2) t371 _ ?side1 ?side2 ?side3 ?side4 A14.out).mono ?_
                (case side1 => repeat (first | exact (Kd.C_below HR0_0.out HB.out) | (with_reducible refine Kd.C_alloc ?_ _) | (with_reducible refine Kd.C_drewN ?_ _) | (with_reducible refine Kd.C_drew ?_)))
                (case side2 => exact HC0_0.out)
                (case side3 => repeat (first | exact (Kd.C_below HR0_1.out HB.out) | (with_reducible refine Kd.C_alloc ?_ _) | (with_reducible refine Kd.C_drewN ?_ _) | (with_reducible refine Kd.C_drew ?_)))
                (case side4 => exact HC0_1.out)
                rintro e w17 ⟨v372, rfl, ho0, hb⟩
                have HS2_ := (hb.cell (World.block_lt_of_cell? _ _ (hHeld.2.2))).trans (hHeld.2.2)
                refine ⟨_, rfl, ?_⟩
                have n0_ := Aside0.mk (Kd.R_elder' (by (with_reducible repeat (first | apply Kd.R_alloc | apply Kd.R_drewN | apply Kd.R_drew)); exact HO_5.out) (Kd.R_base ho0) hb)
                have n1_ := Aside0.mk (Kd.R_lower (Kd.R_new' ho0 (Kd.R_lt (by (with_reducible repeat (first | apply Kd.R_alloc | apply Kd.R_drewN | apply Kd.R_drew)); exact HO_5.out))) (below_size (by repeat (first | (with_reducible first | exact HB.out | apply below_alloc | apply pw_below_drewN | apply below_drew1 | refine below_set ?_ GE360.out) | exact HB.out))))
                have n2_ := Aside0.mk (blk_below (g := gb360) (o := .cells #[.slice A0_0 l0_0.length c0_0, .slice A0_1 l0_1.length c0_1] 29 (0, 0)) (by (with_reducible repeat (first | refine blk_drewN ?_ _ | refine blk_drew ?_ | refine blk_alloc ?_ _)); exact BK360.out) hb)
                have n3_ := Aside0.mk (below_step (by repeat (first | (with_reducible first | exact HB.out | apply below_alloc | apply pw_below_drewN | apply below_drew1 | refine below_set ?_ GE360.out) | exact HB.out)) hb)
                clear HO_5
                clear BK360
                clear HB
                have HO_5 := n0_
                have HO373 := n1_
                have BK360 := n2_
                have HB := n3_
                clear n0_ n1_ n2_ n3_
                (try clear hb)
                (try clear hb2)
                (try clear hk)
                (try clear hi)
                (try clear ho0)
                refine hK.out _ _ ⟨(blk_cell BK360.out 0).trans rfl, (blk_cell BK360.out 1).trans rfl, HS2_⟩ (fun hHeld => ?_)
                clear hK K
                refine norm_ (a' := ?_) ?_ ?_
                rotate_left
                · show Act.put _ (some 41) _ = _
                  simp only [Act.put, List.setIfInBounds_toArray, List.set_cons_zero, List.set_cons_succ, i64_w, i32_w]
                  rfl
                refine pure_ (i := 6) (N := some 8) (v := ?_) (a' := ?_) #[true, true, true, true, true, true, true] rfl rfl (by kernel_rfl) (fun _ _ _ h => h) (Or.inl ⟨by rfl, ?_⟩) ?_ ?_
                rotate_left
                · intro w'
                  go_simp
                  with_reducible rfl
                rotate_left
                · simp only [Act.put, List.setIfInBounds_toArray, List.set_cons_zero, List.set_cons_succ, i64_w, i32_w]
                  rfl
                refine done_ (by kernel_rfl) ?_
                try go_wp2
                go_loopg [5, 9] k2 (fun kq v5 v9 w' => ∃ (x5_3 : List ByteArray) (x9_3 : Int), v9 = .int .i64 x9_3 ∧ Aside0 (brickyardref19_Below.l2 kq x5_3 x7_2 t371 x9_3 l0_0 l0_1 = some r) ∧ Aside0 (kq ≤ k2) ∧ Aside0 (Kd.R Kd.string 9 w' w.heap.size (fun k_ => some k_ ≠ (v372 : Value).ownBlock) v5 x5_3) ∧ Aside0 (Kd.R Kd.string 9 w' w.heap.size (fun k_ => some k_ ≠ (v5 : Value).ownBlock) v372 t371) ∧ Aside0 (w'.heap[gb360]? = some (.cells #[(.slice A0_0 l0_0.length c0_0), (.slice A0_1 l0_1.length c0_1)] 29 (0, 0))) ∧ Aside0 (Below w.heap.size w w'))
                case atStart => exact ⟨(x5_2), (0), (by first | rfl | (simp; done) | (simp [*]; done)), H', ⟨Nat.le_refl _⟩, ⟨by (with_reducible repeat (first | apply Kd.R_alloc | apply Kd.R_drewN | apply Kd.R_drew)); exact Kd.R_mono HO_5.out (fun _ hk => hk.2)⟩, ⟨by (with_reducible repeat (first | apply Kd.R_alloc | apply Kd.R_drewN | apply Kd.R_drew)); exact Kd.R_mono HO373.out (fun _ hk => hk.2)⟩, ⟨by (with_reducible repeat (first | refine blk_drewN ?_ _ | refine blk_drew ?_ | refine blk_alloc ?_ _)); exact BK360.out⟩, ⟨by repeat (first | (with_reducible first | exact HB.out | apply below_alloc | apply pw_below_drewN | apply below_drew1 | refine below_set ?_ GE360.out) | exact HB.out)⟩⟩
                case round =>
                  clear H'
                  try clear c1
                  try clear c2
                  try clear p2
                  try clear p3
                  try clear q3
                  try clear hx3
                  try clear c4
                  try clear c4b0
                  try clear c5
                  try clear c5b0
                  try clear p6
                  try clear c7
                  try clear c8
                  try clear c12
                  try clear c12b0
                  try clear c13
                  try clear c13b0
                  try clear c17
                  try clear hx361_0
                  try clear hx363_0
                  try clear hx370_0
                  try clear p2
                  try clear p3
                  try clear p361
                  try clear p363
                  try clear p370
                  try clear p6
                  try clear q3
                  try clear q361
                  try clear q363
                  try clear q370
                  obtain ⟨x5_3, x9_3, rfl, HA, HK3, HO_5, HO_8, BK360, HB⟩ := hrel
                  cases gk with
                  | zero => exact absurd HA.out (by simp [brickyardref19_Below.l2])
                  | succ k3 =>
                    have H := HA.out
                    clear HA
                    simp only [brickyardref19_Below.l2] at H
                    by_cases c18 : x9_3 < (t371.length : Int)
                    · rw [if_pos c18] at H
                      have c18b0 : decide (x9_3 < (t371.length : Int)) = true := decide_eq_true c18
                      clear c18
                      by_cases c19 : 0 ≤ x9_3
                      · rw [if_pos c19] at H
                        have c19b0 : decide (0 ≤ x9_3) = true := decide_eq_true c19
                        clear c19
                        replace H := Option.bind_eq_some_iff.mp H
                        obtain ⟨t375, A200, H⟩ := H
                        replace H : (if t375 = true then (brickyardref19_Below.l2 k3 x5_3 x7_2 t371 (wrap64 (x9_3 + 1)) l0_0 l0_1) else (if x5_3.length < 8796093022208 then (brickyardref19_Below.l2 k3 (x5_3 ++ [rdOf ByteArray.empty t371 x9_3]) x7_2 t371 (wrap64 (x9_3 + 1)) l0_0 l0_1) else (none))) = some r := H
                        have A20 := Aside0.mk A200
                        clear A200
                        by_cases c21 : t375 = true
                        · subst c21
                          have H1 : (brickyardref19_Below.l2 k3 x5_3 x7_2 t371 (wrap64 (x9_3 + 1)) l0_0 l0_1) = some r := by rw [if_pos rfl] at H; exact H
                          clear H
                          have H := H1
                          clear H1
                          have H' := Aside0.mk H
                          clear H
                          obtain ⟨Ao22, co22, eo22⟩ := Kd.R_slice HO_8.out
                          subst eo22
                          have p374 : 0 ≤ (x9_3 : Int) := of_decide_eq_true (by first | (with_reducible assumption) | assumption)
                          have q374 : x9_3 < (t371.length : Int) := of_decide_eq_true (by first | (with_reducible assumption) | assumption)
                          obtain ⟨ad374, e374, hx374_0⟩ := Kd.at_string (Kd.R_reads' HO_8.out).2.2 x9_3 p374 q374
                          cases e374
                          replace p374 := eq_true p374
                          replace q374 := eq_true q374
                          obtain ⟨Ao23, co23, eo23⟩ := Kd.R_slice HO_5.out
                          subst eo23
                          go_wp2_with (first | ((with_reducible refine gate_callee (f := 41) rfl ?_); refine goesL_ (some 53) rfl rfl Try.func41 (by kernel_rfl) rfl #[.slice Ao23 x5_3.length co23, .string (rdOf ByteArray.empty t371 x9_3)] rfl (by (try simp only [List.map_toArray, List.map_cons, List.map_nil]); first | done | rfl | (simp only [List.length_drop, List.length_take]; rfl)) ?_; (with_reducible refine (brickyardref19_has.calls k3 _ _ x5_3 (rdOf ByteArray.empty t371 x9_3) true _ ?side1 ?side2 A20.out).mono ?_); (case side1 => repeat (first | exact (Kd.R_reads' HO_5.out).2.2 | (with_reducible refine Kd.C_alloc ?_ _) | (with_reducible refine Kd.C_drewN ?_ _) | (with_reducible refine Kd.C_drew ?_))); (case side2 => exact (Kd.R_reads' HO_5.out).2.1); rintro e w' ⟨rfl, ⟨nd, rfl⟩⟩; refine ⟨_, rfl, ?_⟩))
                          go_roundg k3
                          case measure => have := HK1.out; have := HK2.out; have := HK3.out; omega
                          case rel => exact ⟨(x5_3), (wrap64 (x9_3 + 1)), (by first | rfl | (simp; done) | (simp [*]; done)), H', ⟨by have := HK1.out; have := HK2.out; have := HK3.out; omega⟩, ⟨by (with_reducible repeat (first | apply Kd.R_alloc | apply Kd.R_drewN | apply Kd.R_drew)); exact HO_5.out⟩, ⟨by (with_reducible repeat (first | apply Kd.R_alloc | apply Kd.R_drewN | apply Kd.R_drew)); exact HO_8.out⟩, ⟨by (with_reducible repeat (first | refine blk_drewN ?_ _ | refine blk_drew ?_ | refine blk_alloc ?_ _)); exact BK360.out⟩, ⟨by repeat (first | (with_reducible first | exact HB.out | apply below_alloc | apply pw_below_drewN | apply below_drew1 | refine below_set ?_ GE360.out) | exact HB.out)⟩⟩
                        · replace c21 := Bool.eq_false_iff.mpr c21
                          subst c21
                          have H1 : (if x5_3.length < 8796093022208 then (brickyardref19_Below.l2 k3 (x5_3 ++ [rdOf ByteArray.empty t371 x9_3]) x7_2 t371 (wrap64 (x9_3 + 1)) l0_0 l0_1) else (none)) = some r := by rw [if_neg (show ¬ (false = true) by decide)] at H; exact H
                          clear H
                          have H := H1
                          clear H1
                          by_cases c24 : x5_3.length < 8796093022208
                          · rw [if_pos c24] at H
                            have LMc24 := Aside0.mk c24
                            clear c24
                            obtain ⟨y377, hy377⟩ : ∃ y_ : List ByteArray, y_ = (x5_3 ++ [rdOf ByteArray.empty t371 x9_3]) := ⟨_, rfl⟩
                            replace H : (brickyardref19_Below.l2 k3 y377 x7_2 t371 (wrap64 (x9_3 + 1)) l0_0 l0_1) = some r := by first | (rw [hy377]; with_reducible exact H) | (have H2_ := (Option.bind_some _ _).symm.trans H; rw [hy377]; with_reducible exact H2_) | (have H2_ := (Option.bind_some _ _).symm.trans H; with_reducible exact H2_) | with_reducible exact H | (rw [hy377]; exact H) | exact H
                            have Ny377 := Aside0.mk hy377
                            clear hy377
                            have H' := Aside0.mk H
                            clear H
                            obtain ⟨Ao25, co25, eo25⟩ := Kd.R_slice HO_8.out
                            subst eo25
                            have p374 : 0 ≤ (x9_3 : Int) := of_decide_eq_true (by first | (with_reducible assumption) | assumption)
                            have q374 : x9_3 < (t371.length : Int) := of_decide_eq_true (by first | (with_reducible assumption) | assumption)
                            obtain ⟨ad374, e374, hx374_0⟩ := Kd.at_string (Kd.R_reads' HO_8.out).2.2 x9_3 p374 q374
                            cases e374
                            replace p374 := eq_true p374
                            replace q374 := eq_true q374
                            obtain ⟨Ao26, co26, eo26⟩ := Kd.R_slice HO_5.out
                            subst eo26
                            go_wp2_with (first | ((with_reducible refine gate_callee (f := 41) rfl ?_); refine goesL_ (some 53) rfl rfl Try.func41 (by kernel_rfl) rfl #[.slice Ao26 x5_3.length co26, .string (rdOf ByteArray.empty t371 x9_3)] rfl (by (try simp only [List.map_toArray, List.map_cons, List.map_nil]); first | done | rfl | (simp only [List.length_drop, List.length_take]; rfl)) ?_; (with_reducible refine (brickyardref19_has.calls k3 _ _ x5_3 (rdOf ByteArray.empty t371 x9_3) false _ ?side1 ?side2 A20.out).mono ?_); (case side1 => repeat (first | exact (Kd.R_reads' HO_5.out).2.2 | (with_reducible refine Kd.C_alloc ?_ _) | (with_reducible refine Kd.C_drewN ?_ _) | (with_reducible refine Kd.C_drew ?_))); (case side2 => exact (Kd.R_reads' HO_5.out).2.1); rintro e w' ⟨rfl, ⟨nd, rfl⟩⟩; refine ⟨_, rfl, ?_⟩; have p376 : 0 ≤ (x9_3 : Int) := of_decide_eq_true (by first | (with_reducible assumption) | assumption); have q376 : x9_3 < (t371.length : Int) := of_decide_eq_true (by first | (with_reducible assumption) | assumption); obtain ⟨ad376, e376, hx376_0⟩ := Kd.at_string (Kd.R_reads' HO_8.out).2.2 x9_3 p376 q376; obtain rfl : ad374 = ad376 := (by injection e376); replace p376 := eq_true p376; replace q376 := eq_true q376) | ((with_reducible refine gate_builtin (b := .append) (xs := #[.tmp 55, .tmp 60]) rfl ?_); at_builtin; refine Kd.R_append Kd.string (w0 := w) w.heap.size rfl (.tmp 55) (.tmp 60) 23 9 (.string ⟨#[]⟩) 16 rfl Try.underlying23 info9 rfl (by decide) (by omega) (.slice Ao26 x5_3.length co26) x5_3 (rdOf ByteArray.empty t371 x9_3) [.string (rdOf ByteArray.empty t371 x9_3)] (fun k_ => some k_ ≠ (.slice (some ad374) t371.length co25 : Value).ownBlock) (fun _ => False) rfl rfl ?aP (fun _ hk => hk.elim) ?aF ?aO ?aB ?aS ?aL ?_; (case aP => exact rfl); (case aB => exact (by repeat (first | (with_reducible first | exact HB.out | apply below_alloc | apply pw_below_drewN | apply below_drew1 | refine below_set ?_ GE360.out) | exact HB.out))); (case aF => exact (fun k_ hk => Kd.fresh' (Kd.R_lt (by (with_reducible repeat (first | apply Kd.R_alloc | apply Kd.R_drewN | apply Kd.R_drew)); exact HO_8.out)) k_ hk)); (case aO => exact (by (with_reducible repeat (first | apply Kd.R_alloc | apply Kd.R_drewN | apply Kd.R_drew)); exact HO_5.out)); (case aS => exact (below_size (by repeat (first | (with_reducible first | exact HB.out | apply below_alloc | apply pw_below_drewN | apply below_drew1 | refine below_set ?_ GE360.out) | exact HB.out)))); (case aL => have := LMc24.out; omega); intro v378 w27 ho hb hg hat; rw [← Ny377.out] at ho; have n0_ := Aside0.mk (Kd.R_after (ok := (fun _ => True)) (by (with_reducible repeat (first | apply Kd.R_alloc | apply Kd.R_drewN | apply Kd.R_drew)); exact Kd.R_mono HO_8.out (fun _ hk => ⟨trivial, hk⟩)) hg hat); have n1_ := Aside0.mk (blk_grown (g := gb360) (o := .cells #[.slice A0_0 l0_0.length c0_0, .slice A0_1 l0_1.length c0_1] 29 (0, 0)) (by (with_reducible repeat (first | refine blk_drewN ?_ _ | refine blk_drew ?_ | refine blk_alloc ?_ _)); exact BK360.out) hg (Kd.R_ne HO_5.out BK360.out (by decide))); have n2_ := Aside0.mk (hb); have n3_ := Aside0.mk (ho); clear HO_8; clear BK360; clear HB; clear HO_5; have HO_8 := n0_; have BK360 := n1_; have HB := n2_; have HO379 := n3_; clear n0_ n1_ n2_ n3_; clear ho hb hg hat))
                            go_roundg k3
                            case measure => have := HK1.out; have := HK2.out; have := HK3.out; omega
                            case rel => exact ⟨(y377), (wrap64 (x9_3 + 1)), (by first | rfl | (simp; done) | (simp [*]; done)), H', ⟨by have := HK1.out; have := HK2.out; have := HK3.out; omega⟩, ⟨by (with_reducible repeat (first | apply Kd.R_alloc | apply Kd.R_drewN | apply Kd.R_drew)); exact HO379.out⟩, ⟨by (with_reducible repeat (first | apply Kd.R_alloc | apply Kd.R_drewN | apply Kd.R_drew)); exact Kd.R_mono HO_8.out (fun _ hk => hk.2)⟩, ⟨by (with_reducible repeat (first | refine blk_drewN ?_ _ | refine blk_drew ?_ | refine blk_alloc ?_ _)); exact BK360.out⟩, ⟨by repeat (first | (with_reducible first | exact HB.out | apply below_alloc | apply pw_below_drewN | apply below_drew1 | refine below_set ?_ GE360.out) | exact HB.out)⟩⟩
                          · rw [if_neg c24] at H
                            exact absurd H (by simp)
                      · rw [if_neg c19] at H
                        exact absurd H (by simp)
                    · rw [if_neg c18] at H
                      have c18b0 : decide (x9_3 < (t371.length : Int)) = false := decide_eq_false c18
                      clear c18
                      have H' := Aside0.mk H
                      clear H
                      obtain ⟨Ao28, co28, eo28⟩ := Kd.R_slice HO_8.out
                      subst eo28
                      go_wp2
                      go_roundg k3
                      case measure => have := HK1.out; have := HK2.out; have := HK3.out; omega
                      case rel => exact ⟨(x5_3), (wrap64 (x7_2 + 1)), (by first | rfl | (simp; done) | (simp [*]; done)), H', ⟨by have := HK1.out; have := HK2.out; have := HK3.out; omega⟩, ⟨by (with_reducible repeat (first | apply Kd.R_alloc | apply Kd.R_drewN | apply Kd.R_drew)); exact Kd.R_mono HO_5.out (fun _ hk => trivial)⟩, ⟨by (with_reducible repeat (first | refine blk_drewN ?_ _ | refine blk_drew ?_ | refine blk_alloc ?_ _)); exact BK360.out⟩, ⟨by repeat (first | (with_reducible first | exact HB.out | apply below_alloc | apply pw_below_drewN | apply below_drew1 | refine below_set ?_ GE360.out) | exact HB.out)⟩⟩
              · rw [if_neg c13] at H
                exact absurd H (by simp)
            · rw [if_neg c12] at H
              have c12b0 : decide (x7_2 < (x5_2.length : Int)) = false := decide_eq_false c12
              clear c12
              replace H := Option.bind_eq_some_iff.mp H
              obtain ⟨t367, A290, H⟩ := H
              replace H : (some t367) = some r := H
              have A29 := Aside0.mk A290
              clear A290
              obtain rfl := Option.some.inj H
              obtain ⟨Ao30, co30, eo30⟩ := Kd.R_slice HO_5.out
              subst eo30
              go_wp2_with (first | ((with_reducible refine gate_callee (f := 39) rfl ?_); refine goesL_ (some 63) rfl rfl Try.func39 (by kernel_rfl) rfl #[.slice Ao30 x5_2.length co30] rfl (by (try simp only [List.map_toArray, List.map_cons, List.map_nil]); first | done | rfl | (simp only [List.length_drop, List.length_take]; rfl)) ?_; (with_reducible refine (brickyardref19_Sorted.calls k2 _ _ x5_2 t367 _ ?side1 ?side2 A29.out).mono ?_); (case side1 => repeat (first | exact (Kd.R_reads' HO_5.out).2.2 | (with_reducible refine Kd.C_alloc ?_ _) | (with_reducible refine Kd.C_drewN ?_ _) | (with_reducible refine Kd.C_drew ?_))); (case side2 => exact (Kd.R_reads' HO_5.out).2.1); rintro e w31 ⟨v368, rfl, ho0, hb⟩; refine ⟨_, rfl, ?_⟩; have n0_ := Aside0.mk (Kd.R_elder' (by (with_reducible repeat (first | apply Kd.R_alloc | apply Kd.R_drewN | apply Kd.R_drew)); exact HO_5.out) (Kd.R_base ho0) hb); have n1_ := Aside0.mk (Kd.R_lower (Kd.R_new' ho0 (Kd.R_lt (by (with_reducible repeat (first | apply Kd.R_alloc | apply Kd.R_drewN | apply Kd.R_drew)); exact HO_5.out))) (below_size (by repeat (first | (with_reducible first | exact HB.out | apply below_alloc | apply pw_below_drewN | apply below_drew1 | refine below_set ?_ GE360.out) | exact HB.out)))); have n2_ := Aside0.mk (blk_below (g := gb360) (o := .cells #[.slice A0_0 l0_0.length c0_0, .slice A0_1 l0_1.length c0_1] 29 (0, 0)) (by (with_reducible repeat (first | refine blk_drewN ?_ _ | refine blk_drew ?_ | refine blk_alloc ?_ _)); exact BK360.out) hb); have n3_ := Aside0.mk (below_step (by repeat (first | (with_reducible first | exact HB.out | apply below_alloc | apply pw_below_drewN | apply below_drew1 | refine below_set ?_ GE360.out) | exact HB.out)) hb); clear HO_5; clear BK360; clear HB; have HO_5 := n0_; have HO369 := n1_; have BK360 := n2_; have HB := n3_; clear n0_ n1_ n2_ n3_; (try clear hb); (try clear hb2); (try clear hk); (try clear hi); (try clear ho0)))
              go_ret
              exact ⟨_, by first | rfl | (simp [errW_none, errW_some] <;> rfl) | (simp [*, errW_none, errW_some] <;> rfl), by (with_reducible repeat (first | apply Kd.R_alloc | apply Kd.R_drewN | apply Kd.R_drew)); exact Kd.R_mono HO369.out (fun _ hk => trivial), by repeat (first | (with_reducible first | exact HB.out | apply below_alloc | apply pw_below_drewN | apply below_drew1 | refine below_set ?_ GE360.out) | exact HB.out)⟩
end Go.Proofs.Ytlccejbomgknkaa.PGraphFinds
namespace Go.Proofs.Ytlccejbomgknkaa
set_option linter.unusedVariables false
set_option linter.unusedSimpArgs false
set_option linter.unusedSectionVars false
open Go.RowKit Go.Maps Go.Proofs.YtlccejbomgknkaaW.PrintWords Go.Proofs.YtlccejbomgknkaaW.PrintLast
open PGraphFinds
structure BelowAt (gn asked : List ByteArray) (E : Rel) (o0 nw : List ByteArray) (i : Nat) (P : ByteArray → Prop) : Prop where
  l0 : o0.length ≤ asked.length
  nd : nw.Nodup
  ng : ∀ z ∈ nw, z ∈ gn
  sound : ∀ z ∈ o0 ++ nw, ∃ a ∈ asked, a ∈ gn ∧ Reach E a z
  all : ∀ a ∈ asked, a ∈ gn → a ∈ o0 ++ nw
  closed : ∀ j z, j < i → (o0 ++ nw)[j]? = some z → ∀ y, E z y → y ∈ o0 ++ nw
  part : ∀ y, P y → y ∈ o0 ++ nw
section
variable {gn asked : List ByteArray} {l : List S45} (hb : l.length ≤ 1000) (hg : gn.length ≤ 100000) (ha : asked.length ≤ 100000) (hE : ∀ x y, edg l x y → x ∈ gn ∧ y ∈ gn)
include hb hg ha hE
theorem BelowAt.len {o0 nw : List ByteArray} {i : Nat} {P : ByteArray → Prop} (h : BelowAt gn asked (edg l) o0 nw i P) : (o0 ++ nw).length ≤ asked.length + gn.length := by
  have h1 := nodup_len h.nd h.ng
  have h2 := h.l0
  rw [List.length_append]
  omega
def BelowIs (gn asked : List ByteArray) (E : Rel) (r : List ByteArray) : Prop := Rise r ∧ ∀ z, z ∈ r ↔ ∃ a ∈ asked, a ∈ gn ∧ Reach E a z
theorem below_l2 {o0 nw0 : List ByteArray} {i : Nat} {cur : ByteArray} (hcur : (o0 ++ nw0)[i]? = some cur) (hi : i ≤ 1000000) {r : List ByteArray} (hr : ∀ z, z ∈ r ↔ edg l cur z) (hrl : r.length ≤ 1000000)
    (hs0 : ∃ a ∈ asked, a ∈ gn ∧ Reach (edg l) a cur)
    (K : ∀ nw, (o0 ++ nw)[i]? = some cur → BelowAt gn asked (edg l) o0 nw i (fun y => y ∈ r) → ∃ v, Ev (fun k => brickyardref19_Below.l1 k (o0 ++ nw) (i + 1 : Nat) gn l) v ∧ BelowIs gn asked (edg l) v) :
    ∀ (m j : Nat), j ≤ r.length → r.length ≤ m + j → ∀ nw, (o0 ++ nw)[i]? = some cur → BelowAt gn asked (edg l) o0 nw i (fun y => y ∈ r.take j) → ∃ v, Ev (fun k => brickyardref19_Below.l2 k (o0 ++ nw) (i : Int) r (j : Int) gn l) v ∧ BelowIs gn asked (edg l) v := by
  have hend : ∀ j, r.length ≤ j → ∀ nw, (o0 ++ nw)[i]? = some cur → BelowAt gn asked (edg l) o0 nw i (fun y => y ∈ r.take j) → ∃ v, Ev (fun k => brickyardref19_Below.l2 k (o0 ++ nw) (i : Int) r (j : Int) gn l) v ∧ BelowIs gn asked (edg l) v := by
    intro j hj nw hc h
    rw [List.take_of_length_le hj] at h
    obtain ⟨v, hv, hs⟩ := K nw hc h
    refine ⟨v, hv.step ⟨0, fun k _ => ?_⟩, hs⟩
    simp only [brickyardref19_Below.l2]
    rw [if_neg (by omega), w64 (by omega)]
  intro m
  induction m with
  | zero => intro j hj hm; exact hend j (by omega)
  | succ m ih =>
    intro j hj hm nw hc h
    by_cases hjl : j < r.length
    · obtain ⟨t, ht⟩ : ∃ t, t = rdOf ByteArray.empty r (j : Int) := ⟨_, rfl⟩
      have htr : t ∈ r := by rw [ht]; exact List.mem_of_getElem? (has_at hjl)
      have hEt : edg l cur t := (hr t).1 htr
      have hln := h.len hb hg ha hE
      obtain ⟨kh, hkh⟩ : ∃ kh, ∀ k, kh ≤ k → brickyardref19_has.f k (o0 ++ nw) t = some (Lib.containsS (o0 ++ nw) t) := has_ev (x0 := o0 ++ nw) (by omega) t
      by_cases hin : t ∈ o0 ++ nw
      · obtain ⟨v, hv, hs⟩ := ih (j + 1) (by omega) (by omega) nw hc { h with part := fun y hy => ((take_mem hjl ht y).1 hy).elim (h.part y) (fun e => by rw [e]; exact hin) }
        refine ⟨v, hv.step ⟨kh, fun k hk => ?_⟩, hs⟩
        simp only [brickyardref19_Below.l2]
        rw [if_pos (by omega), if_pos (by omega), ← ht, hkh k hk, contains_yes hin, w64 (by omega)]
        rfl
      · have hmono : ∀ y, y ∈ o0 ++ nw → y ∈ o0 ++ (nw ++ [t]) := fun y hy => by rw [← List.append_assoc]; exact List.mem_append_left _ hy
        have hnew : BelowAt gn asked (edg l) o0 (nw ++ [t]) i (fun y => y ∈ r.take (j + 1)) := by
          refine ⟨h.l0, ?_, ?_, ?_, fun a h1 h2 => hmono a (h.all a h1 h2), ?_, ?_⟩
          · rw [List.nodup_append]
            refine ⟨h.nd, List.nodup_cons.2 ⟨List.not_mem_nil, List.nodup_nil⟩, fun x hx y hy e => ?_⟩
            rw [List.mem_singleton] at hy
            subst e; subst hy
            exact hin (List.mem_append_right _ hx)
          · intro z hz
            rcases List.mem_append.1 hz with hz | hz
            · exact h.ng z hz
            · rw [List.mem_singleton] at hz
              subst hz
              exact (hE _ _ hEt).2
          · intro z hz
            rw [← List.append_assoc] at hz
            rcases List.mem_append.1 hz with hz | hz
            · exact h.sound z hz
            · rw [List.mem_singleton] at hz
              subst hz
              obtain ⟨a, h1, h2, h3⟩ := hs0
              exact ⟨a, h1, h2, h3.snoc hEt⟩
          · intro j' z hj' hz y hy
            rw [← List.append_assoc] at hz
            have hil := (List.getElem?_eq_some_iff.1 hc).1
            rw [List.getElem?_append_left (by omega)] at hz
            exact hmono y (h.closed j' z hj' hz y hy)
          · intro y hy
            rcases (take_mem hjl ht y).1 hy with h1 | h1
            · exact hmono y (h.part y h1)
            · subst h1
              rw [← List.append_assoc]
              exact List.mem_append_right _ (List.mem_singleton.2 rfl)
        have hc' : (o0 ++ (nw ++ [t]))[i]? = some cur := by
          have hil := (List.getElem?_eq_some_iff.1 hc).1
          rw [← List.append_assoc, List.getElem?_append_left hil]
          exact hc
        obtain ⟨v, hv, hs⟩ := ih (j + 1) (by omega) (by omega) (nw ++ [t]) hc' hnew
        refine ⟨v, hv.step ⟨kh, fun k hk => ?_⟩, hs⟩
        simp only [brickyardref19_Below.l2]
        rw [if_pos (by omega), if_pos (by omega), ← ht, hkh k hk, contains_no hin, w64 (by omega)]
        simp only [Option.bind_some, Bool.false_eq_true, if_false]
        rw [if_pos (by omega), List.append_assoc]
    · exact hend j (by omega) nw hc h
theorem below_l1 {o0 : List ByteArray} : ∀ (m i : Nat) (nw : List ByteArray), asked.length + gn.length ≤ m + i → i ≤ (o0 ++ nw).length → BelowAt gn asked (edg l) o0 nw i (fun _ => False) → ∃ v, Ev (fun k => brickyardref19_Below.l1 k (o0 ++ nw) (i : Int) gn l) v ∧ BelowIs gn asked (edg l) v := by
  have hend : ∀ (i : Nat) (nw : List ByteArray), (o0 ++ nw).length ≤ i → BelowAt gn asked (edg l) o0 nw i (fun _ => False) → ∃ v, Ev (fun k => brickyardref19_Below.l1 k (o0 ++ nw) (i : Int) gn l) v ∧ BelowIs gn asked (edg l) v := by
    intro i nw hi h
    have hln := h.len hb hg ha hE
    obtain ⟨r, hre, hrise, hmem⟩ := sorted_ev (x0 := o0 ++ nw) (by omega)
    obtain ⟨kr, hkr⟩ : ∃ kr, ∀ k, kr ≤ k → brickyardref19_Sorted.f k (o0 ++ nw) = some r := hre
    refine ⟨r, ⟨kr + 1, fun k hk => ?_⟩, hrise, fun z => ?_⟩
    · obtain ⟨j, rfl⟩ : ∃ j, k = j + 1 := ⟨k - 1, by omega⟩
      simp only [brickyardref19_Below.l1]
      rw [if_neg (by omega), hkr j (by omega)]
      rfl
    · rw [hmem z]
      refine ⟨h.sound z, ?_⟩
      rintro ⟨a, h1, h2, h3⟩
      have hcl : ∀ {x y : ByteArray}, Reach (edg l) x y → x ∈ o0 ++ nw → y ∈ o0 ++ nw := by
        intro x y hr
        induction hr with
        | refl _ => exact fun h => h
        | head hxy _ ih =>
          intro hx
          obtain ⟨j, hj⟩ := List.getElem?_of_mem hx
          have := (List.getElem?_eq_some_iff.1 hj).1
          exact ih (h.closed j _ (by omega) hj _ hxy)
      exact hcl h3 (h.all a h1 h2)
  intro m
  induction m with
  | zero =>
    intro i nw hm hi h
    have hln := h.len hb hg ha hE
    exact hend i nw (by omega) h
  | succ m ih =>
    intro i nw hm hi h
    have hln := h.len hb hg ha hE
    by_cases hil : i < (o0 ++ nw).length
    · have hat := has_at hil
      obtain ⟨cur, hcur⟩ : ∃ cur, cur = rdOf ByteArray.empty (o0 ++ nw) (i : Int) := ⟨_, rfl⟩
      rw [← hcur] at hat
      obtain ⟨r, hre, hrise, hmem⟩ := out_ev gn (l := l) (by omega) cur
      obtain ⟨ko, hko⟩ : ∃ ko, ∀ k, ko ≤ k → brickyardref19_Out.f k gn l cur = some r := hre
      have hrl : r.length ≤ 1000000 := by
        have := nodup_len (rise_nodup hrise) (N := gn) (fun z hz => (hE _ _ ((hmem z).1 hz)).2)
        omega
      obtain ⟨v, hv, hs⟩ := below_l2 hb hg ha hE hat (by omega) hmem hrl (h.sound cur (List.mem_of_getElem? hat)) (fun nw' hc' h' => ih (i + 1) nw' (by omega) (by have := (List.getElem?_eq_some_iff.1 hc').1; omega) { h' with
          closed := fun j z hj hz y hy => by
            by_cases e : j = i
            · subst e
              rw [hc'] at hz
              injection hz with hz
              subst hz
              exact h'.part y ((hmem y).2 hy)
            · exact h'.closed j z (by omega) hz y hy
          part := fun y hy => hy.elim }) r.length 0 (by omega) (by omega) nw hat { h with part := fun y hy => by simp at hy }
      refine ⟨v, hv.step ⟨ko, fun k hk => ?_⟩, hs⟩
      simp only [brickyardref19_Below.l1]
      rw [if_pos (by omega), if_pos (by omega), ← hcur, hko k hk]
      rfl
    · exact hend i nw (by omega) h
theorem below_ev : ∃ v, Ev (fun k => brickyardref19_Below.f k gn l asked) v ∧ BelowIs gn asked (edg l) v := by
  have key : ∀ (m i : Nat), i ≤ asked.length → asked.length ≤ m + i → ∀ o : List ByteArray, o.length ≤ i → (∀ z, z ∈ o ↔ z ∈ asked.take i ∧ z ∈ gn) → ∃ v, Ev (fun k => brickyardref19_Below.l0 k asked o (i : Int) gn l) v ∧ BelowIs gn asked (edg l) v := by
    have hend : ∀ i, asked.length ≤ i → ∀ o : List ByteArray, o.length ≤ asked.length → (∀ z, z ∈ o ↔ z ∈ asked.take i ∧ z ∈ gn) → ∃ v, Ev (fun k => brickyardref19_Below.l0 k asked o (i : Int) gn l) v ∧ BelowIs gn asked (edg l) v := by
      intro i hi o ho hm
      rw [List.take_of_length_le hi] at hm
      obtain ⟨v, hv, hs⟩ := below_l1 hb hg ha hE (o0 := o) (asked.length + gn.length) 0 [] (by omega) (by omega) ⟨ho, List.nodup_nil, fun z hz => absurd hz List.not_mem_nil, fun z hz => by
        rw [List.append_nil] at hz
        exact ⟨z, ((hm z).1 hz).1, ((hm z).1 hz).2, .refl _⟩, fun a h1 h2 => by rw [List.append_nil]; exact (hm a).2 ⟨h1, h2⟩, fun j z hj => by omega, fun y hy => hy.elim⟩
      rw [List.append_nil] at hv
      refine ⟨v, hv.step ⟨0, fun k _ => ?_⟩, hs⟩
      simp only [brickyardref19_Below.l0]
      rw [if_neg (by omega)]
      rfl
    intro m
    induction m with
    | zero => intro i hi hm o ho hmem; exact hend i (by omega) o (by omega) hmem
    | succ m ih =>
      intro i hi hm o ho hmem
      by_cases hil : i < asked.length
      · obtain ⟨t, ht⟩ : ∃ t, t = rdOf ByteArray.empty asked (i : Int) := ⟨_, rfl⟩
        obtain ⟨kh, hkh⟩ : ∃ kh, ∀ k, kh ≤ k → brickyardref19_has.f k gn t = some (Lib.containsS gn t) := has_ev (x0 := gn) (by omega) t
        by_cases hin : t ∈ gn
        · obtain ⟨v, hv, hs⟩ := ih (i + 1) (by omega) (by omega) (o ++ [t]) (by rw [List.length_append, List.length_singleton]; omega) (fun z => by
            rw [take_mem hil ht z, List.mem_append, hmem z, List.mem_singleton]
            constructor
            · rintro (⟨h1, h2⟩ | rfl)
              · exact ⟨.inl h1, h2⟩
              · exact ⟨.inr rfl, hin⟩
            · rintro ⟨h1 | h1, h2⟩
              · exact .inl ⟨h1, h2⟩
              · exact .inr h1)
          refine ⟨v, hv.step ⟨kh, fun k hk => ?_⟩, hs⟩
          simp only [brickyardref19_Below.l0]
          rw [if_pos (by omega), if_pos (by omega), ← ht, hkh k hk, contains_yes hin, w64 (by omega)]
          simp only [Option.bind_some, if_true]
          rw [if_pos (by omega)]
        · obtain ⟨v, hv, hs⟩ := ih (i + 1) (by omega) (by omega) o (by omega) (fun z => by
            rw [take_mem hil ht z, hmem z]
            constructor
            · rintro ⟨h1, h2⟩
              exact ⟨.inl h1, h2⟩
            · rintro ⟨h1 | h1, h2⟩
              · exact ⟨h1, h2⟩
              · subst h1
                exact absurd h2 hin)
          refine ⟨v, hv.step ⟨kh, fun k hk => ?_⟩, hs⟩
          simp only [brickyardref19_Below.l0]
          rw [if_pos (by omega), if_pos (by omega), ← ht, hkh k hk, contains_no hin, w64 (by omega)]
          rfl
      · exact hend i (by omega) o (by omega) hmem
  obtain ⟨v, hv, hs⟩ := key asked.length 0 (by omega) (by omega) [] (by simp) (fun z => by simp)
  exact ⟨v, hv, hs⟩
end
end Go.Proofs.Ytlccejbomgknkaa
namespace Go.Proofs.Ytlccejbomgknkaa
set_option linter.unusedVariables false
set_option linter.unusedSimpArgs false
open Go.RowKit Go.Maps Go.Proofs.YtlccejbomgknkaaW.PrintWords Go.Proofs.YtlccejbomgknkaaW.PrintLast
open Go.ChangeShapes Go.WideShapes
theorem pairs_of {w : World} {a : Addr} {n : Nat} (hn : n ≤ 9223372036854775807) (h : ∀ i, i < n → ∃ s t : ByteArray, w.cell? (a.add (i * 2)) = some (.string s) ∧ w.cell? (a.add (i * 2 + 1)) = some (.string t) ∧ s.size ≤ maxLen ∧ t.size ≤ maxLen) :
    ∃ l : List (ByteArray × ByteArray), n = l.length ∧ Kd.C kE w (some a) l.length l ∧ ∀ e ∈ l, e.1.size ≤ maxLen ∧ e.2.size ≤ maxLen := by
  have h' : ∀ i, ∃ p : ByteArray × ByteArray, i < n → w.cell? (a.add (i * 2)) = some (.string p.1) ∧ w.cell? (a.add (i * 2 + 1)) = some (.string p.2) ∧ p.1.size ≤ maxLen ∧ p.2.size ≤ maxLen := by
    intro i
    by_cases hi : i < n
    · obtain ⟨s, t, h1⟩ := h i hi
      exact ⟨(s, t), fun _ => h1⟩
    · exact ⟨(ByteArray.empty, ByteArray.empty), fun h => absurd h hi⟩
  obtain ⟨F, hF⟩ := Classical.axiomOfChoice h'
  have hlen : ((List.range n).map F).length = n := by simp
  refine ⟨(List.range n).map F, hlen.symm, ⟨rfl, by rw [hlen]; exact hn, fun _ => ⟨a, rfl, fun j p hj => ?_⟩⟩, fun e he => ?_⟩
  · rw [List.getElem?_map] at hj
    obtain ⟨j', hj', rfl⟩ := Option.map_eq_some_iff.1 hj
    have hjn : j < n := by have := (List.getElem?_eq_some_iff.1 hj').1; simpa using this
    rw [List.getElem?_range hjn] at hj'
    injection hj' with hj'
    subst hj'
    obtain ⟨c1, c2, _, _⟩ := hF j hjn
    refine ⟨[.string (F j).1, .string (F j).2], rfl, ⟨[.string (F j).1], [.string (F j).2], rfl, rfl, rfl⟩, fun i u hu => ?_⟩
    match i, hu with
    | 0, hu => injection hu with hu; rw [← hu]; exact c1
    | 1, hu => injection hu with hu; rw [← hu]; exact c2
  · obtain ⟨j, hj, rfl⟩ := List.mem_map.1 he
    exact (hF j (List.mem_range.1 hj)).2.2
theorem texts_of {w : World} {a : Addr} {n : Nat} {ss : List ByteArray} (hn : n ≤ 9223372036854775807) (hl : n ≤ ss.length) (hc : ∀ i, i < ss.length → w.cell? (a.add i) = some (.string (ss.getD i ByteArray.empty))) (hs : ∀ s ∈ ss, s.size ≤ maxLen) :
    ∃ l : List ByteArray, n = l.length ∧ Kd.C Kd.string w (some a) l.length l ∧ ∀ x ∈ l, x.size ≤ maxLen := by
  have hlen : (ss.take n).length = n := by rw [List.length_take]; omega
  refine ⟨ss.take n, hlen.symm, ⟨rfl, by rw [hlen]; exact hn, fun _ => ⟨a, rfl, fun j p hj => ?_⟩⟩, fun x hx => hs x (List.mem_of_mem_take hx)⟩
  rw [List.getElem?_take] at hj
  split at hj
  · have hjl := (List.getElem?_eq_some_iff.1 hj).1
    refine ⟨[.string p], rfl, rfl, fun i u hu => ?_⟩
    have hi0 : i = 0 := by have := (List.getElem?_eq_some_iff.1 hu).1; simpa using this
    subst hi0
    simp only [List.getElem?_cons_zero, Option.some.injEq] at hu
    subst hu
    have := hc j hjl
    rw [List.getD_eq_getElem?_getD, hj] at this
    simpa [show Kd.string.sz = 1 from rfl] using this
  · cases hj
section
variable {H : Type} {enc : TypeId × Value → H} {W : World} {A : Option Addr} {n c : Nat} {d : DataW H} {p : List MemPlace}
theorem edges_in (h : DataW.Trod enc Try.prog W 0 (fun _ => true) true 22 (.slice A n c) d p) : ∃ l : List (ByteArray × ByteArray), n = l.length ∧ Kd.C kE W A l.length l ∧ ∀ e ∈ l, e.1.size ≤ maxLen ∧ e.2.size ≤ maxLen := by
  obtain ⟨fuel, hf⟩ := h
  rcases Go.Deep.open_slice_pairs Try.underlying22 Try.underlying45 (by kernel_rfl) rfl rfl (by kernel_rfl) (by kernel_rfl) hf with ⟨hcs, _⟩ | ⟨x, l, k, m, q, V0, V1, D0, D1, P0, P1, hcs, _, hl, hm, hmm, _, hx⟩
  · simp [Value.cells] at hcs
    obtain ⟨rfl, rfl, rfl⟩ := hcs
    exact ⟨[], rfl, kE_empty _ _, by simp⟩
  · simp [Value.cells] at hcs
    obtain ⟨rfl, rfl, rfl⟩ := hcs
    simp only [if_true] at hmm
    refine pairs_of (by unfold maxLen at hm; omega) fun i hi => ?_
    obtain ⟨h1, h2, h3, h4⟩ := hx i (by omega)
    obtain ⟨s, e1, _, s1⟩ := DataW.trod_string Try.underlying9 h3
    obtain ⟨t, e2, _, s2⟩ := DataW.trod_string Try.underlying9 h4
    injection e1 with e1
    injection e2 with e2
    exact ⟨s, t, by rw [h1, e1], by rw [h2, e2], s1, s2⟩
end
end Go.Proofs.Ytlccejbomgknkaa
namespace Go.Proofs.Ytlccejbomgknkaa
set_option linter.unusedVariables false
set_option linter.unusedSimpArgs false
open Go.RowKit Go.Maps Go.Proofs.YtlccejbomgknkaaW.PrintWords Go.Proofs.YtlccejbomgknkaaW.PrintLast
open Go.ChangeShapes Go.WideShapes
section
variable {H : Type} {enc : TypeId × Value → H} {W : World} {A : Option Addr} {n c : Nat} {d : DataW H} {p : List MemPlace}
theorem texts_in2 (h : DataW.Trod enc Try.prog W 0 (fun _ => true) true 23 (.slice A n c) d p) : ∃ l : List ByteArray, n = l.length ∧ (Kd.C Kd.string W A l.length l ∧ l.length ≤ c ∧ (A = none → c = 0)) ∧ ∀ x ∈ l, x.size ≤ maxLen := by
  obtain ⟨fuel, hf⟩ := h
  rcases open_strings Try.underlying23 Try.underlying9 (by kernel_rfl) hf with ⟨hcs, _⟩ | ⟨x, l, k, ss, hcs, _, hl, hm, hz, _, hcell, hsz⟩
  · simp [Value.cells] at hcs
    obtain ⟨rfl, rfl, rfl⟩ := hcs
    exact ⟨[], rfl, ⟨C_empty _ _, by simp, fun _ => rfl⟩, by simp⟩
  · simp [Value.cells] at hcs
    obtain ⟨rfl, rfl, rfl⟩ := hcs
    simp only [if_true] at hz
    obtain ⟨l', e, hC, hS⟩ := texts_of (n := n) (by unfold maxLen at hm; omega) (by omega) hcell hsz
    exact ⟨l', e, ⟨hC, by omega, fun h => by cases h⟩, hS⟩
end
def toS (p : Pr) : PGraphFinds.S45 := ⟨p.1, p.2⟩
theorem C_to_k45 {w : World} {A : Option Addr} {n : Nat} {xs : List Pr} (h : Kd.C kE w A n xs) : Kd.C PGraphFinds.k45 w A n (xs.map toS) := by
  obtain ⟨h1, h2, h3⟩ := h
  refine ⟨by rw [List.length_map]; exact h1, h2, fun hn => ?_⟩
  obtain ⟨ad, hA, hc⟩ := h3 hn
  refine ⟨ad, hA, fun j p hj => ?_⟩
  rw [List.getElem?_map] at hj
  obtain ⟨x, hx, rfl⟩ := Option.map_eq_some_iff.1 hj
  exact hc j x hx
theorem edg_toS (xs : List Pr) : edg (xs.map toS) = fun x y => (x, y) ∈ xs := by
  funext x y
  unfold edg
  refine propext ⟨?_, fun h => ⟨toS (x, y), List.mem_map.2 ⟨_, h, rfl⟩, rfl, rfl⟩⟩
  rintro ⟨e, he, rfl, rfl⟩
  obtain ⟨p, hp, rfl⟩ := List.mem_map.1 he
  exact hp
structure RefAt (w : World) (An : Option Addr) (cn : Nat) (rn : List ByteArray) (Ae : Option Addr) (ce : Nat) (re : List Pr) : Prop where
  n : Kd.C Kd.string w An rn.length rn
  nc : rn.length ≤ cn
  nn : An = none → cn = 0
  e : Kd.C kE w Ae re.length re
  ec : re.length ≤ ce
  ln : rn.length ≤ 1000
  le : re.length ≤ 1000
  inN : ∀ x y, (x, y) ∈ re → x ∈ rn ∧ y ∈ rn
section
variable {w w' : World} {An Ae : Option Addr} {cn ce : Nat} {rn : List ByteArray} {re : List Pr}
theorem RefAt.below (h : RefAt w An cn rn Ae ce re) (hb : Below w.heap.size w w') : RefAt w' An cn rn Ae ce re :=
  ⟨Kd.C_below h.n hb, h.nc, h.nn, Kd.C_below h.e hb, h.ec, h.ln, h.le, h.inN⟩
theorem RefAt.inE (h : RefAt w An cn rn Ae ce re) : ∀ x y, edg (re.map toS) x y → x ∈ rn ∧ y ∈ rn := by
  rw [edg_toS]; exact h.inN
abbrev memb (re : List Pr) : Rel := fun x y => (x, y) ∈ re
theorem refWay_any (h : RefAt w An cn rn Ae ce re) (a b : ByteArray) :
    Calls Try.prog 13 #[.agg #[.slice An rn.length cn, .slice Ae re.length ce], .string a, .string b] w fun e w' => ∃ (A : Option Addr) (c : Nat) (r1 : List ByteArray) (r2 : Bool), e = .returned (.tuple #[.slice A r1.length c, .bool r2]) ∧ WayIs rn (memb re) a b (r1, r2) ∧ Kd.C Kd.string w' A r1.length r1 ∧ Below w.heap.size w w' := by
  have hl : (re.map toS).length = re.length := List.length_map _
  obtain ⟨⟨r1, r2⟩, ⟨k, hk⟩, hw⟩ := way_ev (gn := rn) (l := re.map toS) (a := a) (b := b) (by rw [hl]; exact h.le) (by have := h.ln; omega) h.inE
  have hc := PGraphFinds.brickyardref19_Way.calls k An cn rn Ae ce (re.map toS) a b r1 r2 w h.n h.nc (by rw [hl]; exact C_to_k45 h.e) (by rw [hl]; exact h.ec) (hk k (Nat.le_refl _))
  rw [hl] at hc
  rw [edg_toS] at hw
  refine hc.mono ?_
  rintro e w' ⟨v, rfl, hR, hb⟩
  obtain ⟨A, c, rfl⟩ := Kd.R_slice hR
  exact ⟨A, c, r1, r2, rfl, hw, (Kd.R_reads' hR).2.2, hb⟩
theorem refBelow_any (h : RefAt w An cn rn Ae ce re) (A : Option Addr) (c : Nat) (l : List ByteArray) (hl : Kd.C Kd.string w A l.length l) (hc : l.length ≤ c) (hb : l.length ≤ 1000) :
    Calls Try.prog 17 #[.agg #[.slice An rn.length cn, .slice Ae re.length ce], .slice A l.length c] w fun e w' => ∃ (A : Option Addr) (c : Nat) (r : List ByteArray), e = .returned (.slice A r.length c) ∧ Rise r ∧ (∀ z, z ∈ r ↔ ∃ a ∈ l, a ∈ rn ∧ Reach (memb re) a z) ∧ Kd.C Kd.string w' A r.length r ∧ Below w.heap.size w w' := by
  have hll : (re.map toS).length = re.length := List.length_map _
  obtain ⟨r, ⟨k, hk⟩, hw1, hw2⟩ := below_ev (gn := rn) (l := re.map toS) (asked := l) (by rw [hll]; exact h.le) (by have := h.ln; omega) (by omega) h.inE
  have hc := PGraphFinds.brickyardref19_Below.calls k An cn rn Ae ce (re.map toS) A c l r w h.n h.nc (by rw [hll]; exact C_to_k45 h.e) (by rw [hll]; exact h.ec) hl hc (hk k (Nat.le_refl _))
  rw [hll] at hc
  rw [edg_toS] at hw2
  refine hc.mono ?_
  rintro e w' ⟨v, rfl, hR, hb⟩
  obtain ⟨A, c, rfl⟩ := Kd.R_slice hR
  exact ⟨A, c, r, rfl, hw1, hw2, (Kd.R_reads' hR).2.2, hb⟩
end
theorem OfIs.ref {w w' : World} {l : List Pr} {names : List ByteArray} {e : Ending} (h : OfIs w l names e w') (h1 : l.length ≤ 300) (h2 : names.length ≤ 300) :
    ∃ (An : Option Addr) (cn : Nat) (rn : List ByteArray) (Ae : Option Addr) (ce : Nat) (re : List Pr), e = .returned (.agg #[.slice An rn.length cn, .slice Ae re.length ce]) ∧ RefAt w' An cn rn Ae ce re ∧ Rise rn ∧ (∀ z, z ∈ rn ↔ z ∈ names ∨ ∃ e ∈ l, e.1 = z ∨ e.2 = z) ∧ RiseP re ∧ (∀ p, p ∈ re ↔ p ∈ l) ∧ Below w.heap.size w w' := by
  obtain ⟨An, cn, rn, Ae, ce, re, rfl, hR, hE, g1, g2, g3, g4, hb⟩ := h
  have hle : re.length ≤ l.length := nodup_lenP (riseP_nodup g3) (fun p hp => (g4 p).1 hp)
  have hln : rn.length ≤ (names ++ flatN l).length := nodup_len (rise_nodup g1) (fun z hz => by
    rw [List.mem_append, flatN_mem]
    exact (g2 z).1 hz)
  rw [List.length_append, flatN_len] at hln
  refine ⟨An, cn, rn, Ae, ce, re, rfl, ⟨(Kd.R_reads' hR).2.2, (Kd.R_reads' hR).2.1, R_none hR, hE.reads (by omega), hE.cap, by omega, by omega, fun x y h => ?_⟩, g1, g2, g3, g4, hb⟩
  exact ⟨(g2 x).2 (.inr ⟨(x, y), (g4 _).1 h, .inl rfl⟩), (g2 y).2 (.inr ⟨(x, y), (g4 _).1 h, .inr rfl⟩)⟩
theorem refTurn_any {w : World} {An Ae : Option Addr} {cn ce : Nat} {rn : List ByteArray} {re : List Pr} (h : RefAt w An cn rn Ae ce re) (hr : Rise rn) (h1 : re.length ≤ 300) (h2 : rn.length ≤ 300) :
    Calls Try.prog 19 #[.agg #[.slice An rn.length cn, .slice Ae re.length ce]] w fun e w' => ∃ (Am : Option Addr) (cm : Nat) (Af : Option Addr) (cf : Nat) (rf : List Pr), e = .returned (.agg #[.slice Am rn.length cm, .slice Af rf.length cf]) ∧ RefAt w' Am cm rn Af cf rf ∧ RiseP rf ∧ (∀ x y, (x, y) ∈ rf ↔ (y, x) ∈ re) ∧ Below w.heap.size w w' := by
  refine (Turn_any An cn rn Ae ce re h.n h.nn h.e (by omega) (by omega)).mono ?_
  intro e w' hof
  obtain ⟨Am, cm, rm, Af, cf, rf, rfl, hA, g1, g2, g3, g4, hb⟩ := hof.ref (by rw [List.length_map]; exact h1) h2
  have e : rm = rn := rise_ext g1 hr (fun z => by
    rw [g2 z]
    refine ⟨fun h0 => h0.elim id ?_, fun h0 => .inl h0⟩
    rintro ⟨q, hq, hz⟩
    obtain ⟨p, hp, rfl⟩ := List.mem_map.1 hq
    have := h.inN p.1 p.2 hp
    rcases hz with rfl | rfl
    · exact this.2
    · exact this.1)
  subst e
  refine ⟨Am, cm, Af, cf, rf, rfl, hA, g3, fun x y => ?_, hb⟩
  rw [g4 (x, y), List.mem_map]
  constructor
  · rintro ⟨p, hp, he⟩
    injection he with h3 h4
    rw [← h3, ← h4]
    exact hp
  · exact fun hp => ⟨(y, x), hp, rfl⟩
theorem gw_one {E : Rel} {b : ByteArray} : ∀ (d : Nat) {x : ByteArray} {p q : List ByteArray}, GW E b d x p → GW E b d x q → p = q := by
  intro d
  induction d with
  | zero => intro x p q h1 h2; rw [show p = [x] from h1, show q = [x] from h2]
  | succ d ih =>
    rintro x p q ⟨y, q1, rfl, hg, hE, hD, hm⟩ ⟨y2, q2, rfl, hg2, hE2, hD2, hm2⟩
    have e : y2 = y := by
      rcases hm y2 hE2 hD2 with e | h
      · exact e
      · rcases hm2 y hE hD with e | h'
        · exact e.symm
        · exact absurd (List.lt_trans h h') (List.lt_irrefl _)
    subst e
    rw [ih hg hg2]
end Go.Proofs.Ytlccejbomgknkaa
namespace Go.Proofs.Ytlccejbomgknkaa
set_option linter.unusedVariables false
set_option linter.unusedSimpArgs false
open Go.RowKit Go.Maps Go.Proofs.YtlccejbomgknkaaW.PrintWords Go.Proofs.YtlccejbomgknkaaW.PrintLast Go.Proofs.YtlccejbomgknkaaW.PrintMore
def fi10T : Bool × List (List Nat × List Nat) := (true, [([], []), ([], []), ([0, 1], [0, 1]), ([2, 2], [2]), ([3], [3]), ([3], [3]), ([4, 5, 3], [3, 4, 5]), ([3, 6], [3, 6]), ([7, 3], [7]), ([8], [8]), ([8], [8]), ([10, 8, 8], [8, 10]), ([9, 11, 11, 8], [8, 9, 11]), ([8], [8]), ([8], [8]), ([13, 14, 12, 8], [8, 13, 14]), ([12, 15, 15, 8], [8, 12, 15]), ([8, 16], [8, 16]), ([17, 16], [17]), ([18], [18]), ([18], [18]), ([20, 18, 18], [18, 20]), ([19, 21, 21, 18], [18, 19, 21]), ([18], [18]), ([23, 22, 18], [18, 23]), ([18], [18]), ([24, 25, 24, 18], [18, 24, 25]), ([22, 26, 26, 18], [18, 22, 26]), ([18, 27], [18, 27]), ([28, 27, 0, 1, 2, 3, 4, 5, 6, 7, 8, 9, 10, 11, 12, 13, 14, 15, 16, 17, 18, 19, 20, 21, 22, 23, 24, 25, 26, 27, 28], [28])])
def fi10B : List Nat := [0, 0, 3, 7, 15, 15, 63, 127, 255, 511, 511, 1535, 4095, 511, 511, 32767, 65535, 131071, 262143, 524287, 524287, 1572863, 4194303, 524287, 16777215, 524287, 67108863, 134217727, 268435455, 536870911]
theorem fi10_tab : rtab .any (opsOf Try.f3 10) = fi10T := by kernel_rfl
theorem fi10_bits : waitsOk fi10T.2 fi10B = true := by kernel_rfl
structure Both (w w2 : World) (g : Nat) (N : List ByteArray) (l : List Pr) (An : Option Addr) (cn : Nat) (rn : List ByteArray) (Ae : Option Addr) (ce : Nat) (re : List Pr) : Prop where
  gr : GraphAt w2 w.heap.size g N (memb l)
  nl : N.length ≤ 1000000
  bl : Below w.heap.size w w2
  rf : RefAt w2 An cn rn Ae ce re
  rise : Rise rn
  riseE : RiseP re
  eN : ∀ z, z ∈ rn ↔ z ∈ N
  eE : ∀ p, p ∈ re ↔ p ∈ l
  le : re.length ≤ 300
  ln : rn.length ≤ 300
theorem Both.below {w w2 w3 : World} {g : Nat} {N : List ByteArray} {l : List Pr} {An : Option Addr} {cn : Nat} {rn : List ByteArray} {Ae : Option Addr} {ce : Nat} {re : List Pr} (h : Both w w2 g N l An cn rn Ae ce re) (hb : Below w2.heap.size w2 w3) : Both w w3 g N l An cn rn Ae ce re :=
  { h with gr := h.gr.below hb, bl := h.bl.trans (hb.mono h.bl.size), rf := h.rf.below hb }
theorem Both.same {w w2 : World} {g : Nat} {N : List ByteArray} {l : List Pr} {An : Option Addr} {cn : Nat} {rn : List ByteArray} {Ae : Option Addr} {ce : Nat} {re : List Pr} (h : Both w w2 g N l An cn rn Ae ce re) : memb re = memb l := by
  funext x y
  exact propext (h.eE (x, y))
theorem both_of {w w2 w3 : World} {g : Nat} {N : List ByteArray} {l : List Pr} {names : List ByteArray} {e : Ending} (hG : GraphAt w2 w.heap.size g N (fun x y => (x, y) ∈ l)) (hN : ∀ z, z ∈ N ↔ z ∈ names ∨ ∃ e ∈ l, e.1 = z ∨ e.2 = z) (hln : N.length ≤ 1000000) (hb : Below w.heap.size w w2) (h1 : l.length ≤ 40) (h2 : names.length ≤ 20) (ho : OfIs w2 l names e w3) :
    ∃ (An : Option Addr) (cn : Nat) (rn : List ByteArray) (Ae : Option Addr) (ce : Nat) (re : List Pr), e = .returned (.agg #[.slice An rn.length cn, .slice Ae re.length ce]) ∧ Both w w3 g N l An cn rn Ae ce re := by
  obtain ⟨An, cn, rn, Ae, ce, re, rfl, hA, g1, g2, g3, g4, hb3⟩ := ho.ref (by omega) (by omega)
  have hle : re.length ≤ l.length := nodup_lenP (riseP_nodup g3) (fun p hp => (g4 p).1 hp)
  have hln : rn.length ≤ (names ++ flatN l).length := nodup_len (rise_nodup g1) (fun z hz => by
    rw [List.mem_append, flatN_mem]
    exact (g2 z).1 hz)
  rw [List.length_append, flatN_len] at hln
  exact ⟨An, cn, rn, Ae, ce, re, rfl, hG.below hb3, by assumption, hb.trans (hb3.mono hb.size), hA, g1, g3, fun z => by rw [g2 z, hN z], g4, by omega, by omega⟩
theorem way_two {w w2 : World} {g : Nat} {N : List ByteArray} {l : List Pr} {An : Option Addr} {cn : Nat} {rn : List ByteArray} {Ae : Option Addr} {ce : Nat} {re : List Pr} (h : Both w w2 g N l An cn rn Ae ce re) {x y : ByteArray} {r1 : List ByteArray} {r2 : Bool} (hw : WayIs rn (memb re) x y (r1, r2)) {p : List ByteArray} {ok : Bool}
    (hp : (ok = true ∧ ∃ d, x ∈ N ∧ y ∈ N ∧ Dist (memb l) x y d ∧ GW (memb l) y d x p) ∨ (ok = false ∧ p = [] ∧ ¬ (x ∈ N ∧ y ∈ N ∧ Reach (memb l) x y))) : p = r1 ∧ ok = r2 := by
  rw [h.same] at hw
  rcases hw with ⟨e2, ha, hb, d, hd, hg⟩ | ⟨e2, e1, hno⟩
  · rcases hp with ⟨e3, d', _, _, hd', hg'⟩ | ⟨e3, _, hno⟩
    · have hdd := dist_unique hd hd'
      subst hdd
      exact ⟨gw_one d hg' hg, by rw [e3]; exact e2.symm⟩
    · exact absurd ⟨(h.eN x).1 ha, (h.eN y).1 hb, walk_reach hd.1⟩ hno
  · rcases hp with ⟨e3, d', hx, hy, hd', hg'⟩ | ⟨e3, e4, _⟩
    · exact absurd ⟨(h.eN x).2 hx, (h.eN y).2 hy, walk_reach hd'.1⟩ hno
    · exact ⟨by rw [e4]; exact e1.symm, by rw [e3]; exact e2.symm⟩
structure FS (w wr : World) (b12 g : Nat) (N : List ByteArray) (l : List Pr) (An : Option Addr) (cn : Nat) (rn : List ByteArray) (Ae : Option Addr) (ce : Nat) (re : List Pr) : Prop where
  both : Both w wr g N l An cn rn Ae ce re
  blk : wr.heap[b12]? = some (.cells #[.slice An rn.length cn, .slice Ae re.length ce] 29 (0, 0))
section
variable {w wr w' : World} {b12 g : Nat} {N : List ByteArray} {l : List Pr} {An : Option Addr} {cn : Nat} {rn : List ByteArray} {Ae : Option Addr} {ce : Nat} {re : List Pr}
theorem FS.below (h : FS w wr b12 g N l An cn rn Ae ce re) (hb : Below wr.heap.size wr w') : FS w w' b12 g N l An cn rn Ae ce re :=
  ⟨h.both.below hb, (hb.block _ (Array.getElem?_eq_some_iff.1 h.blk).1).trans h.blk⟩
theorem FS.cells (h : FS w wr b12 g N l An cn rn Ae ce re) : wr.cell? ⟨b12, 0, none⟩ = some (.slice An rn.length cn) ∧ wr.cell? ⟨b12, 1, none⟩ = some (.slice Ae re.length ce) := by
  constructor <;> simp [World.cell?, h.blk]
theorem FS.text (h : FS w wr b12 g N l An cn rn Ae ce re) {A : Option Addr} {n : Nat} {xs : List ByteArray} (hx : Kd.C Kd.string w A n xs) : Kd.C Kd.string wr A n xs := Kd.C_below hx h.both.bl
theorem FS.way (h : FS w wr b12 g N l An cn rn Ae ce re) (x y : ByteArray) :
    Calls Try.prog 12 #[.pointer (some ⟨g, 0, none⟩), .string x, .string y] wr fun e w' => ∃ (A : Option Addr) (c : Nat) (p : List ByteArray) (ok : Bool), e = .returned (.tuple #[.slice A p.length c, .bool ok]) ∧ ((ok = true ∧ ∃ d, x ∈ N ∧ y ∈ N ∧ Dist (memb l) x y d ∧ GW (memb l) y d x p) ∨ (ok = false ∧ p = [] ∧ ¬ (x ∈ N ∧ y ∈ N ∧ Reach (memb l) x y))) ∧ Kd.C Kd.string w' A p.length p ∧ FS w w' b12 g N l An cn rn Ae ce re := by
  refine (Way_any h.both.gr h.both.nl x y).mono ?_
  rintro e w' ⟨hb, ⟨A, c, p, d, rfl, hx, hy, hd, hg, ho⟩ | ⟨rfl, hno⟩⟩
  · exact ⟨A, c, p, true, rfl, .inl ⟨rfl, d, hx, hy, hd, hg⟩, ho.reads, h.below hb⟩
  · exact ⟨none, 0, [], false, rfl, .inr ⟨rfl, rfl, hno⟩, C_empty _ _, h.below hb⟩
theorem FS.refway (h : FS w wr b12 g N l An cn rn Ae ce re) (x y : ByteArray) {p : List ByteArray} {ok : Bool} {A0 : Option Addr} (hp : (ok = true ∧ ∃ d, x ∈ N ∧ y ∈ N ∧ Dist (memb l) x y d ∧ GW (memb l) y d x p) ∨ (ok = false ∧ p = [] ∧ ¬ (x ∈ N ∧ y ∈ N ∧ Reach (memb l) x y))) (hC : Kd.C Kd.string wr A0 p.length p) :
    Calls Try.prog 13 #[.agg #[.slice An rn.length cn, .slice Ae re.length ce], .string x, .string y] wr fun e w' => ∃ (A : Option Addr) (c : Nat), e = .returned (.tuple #[.slice A p.length c, .bool ok]) ∧ Kd.C Kd.string w' A p.length p ∧ Kd.C Kd.string w' A0 p.length p ∧ FS w w' b12 g N l An cn rn Ae ce re := by
  refine (refWay_any h.both.rf x y).mono ?_
  rintro e w' ⟨A, c, r1, r2, rfl, hw, hC2, hb⟩
  obtain ⟨rfl, rfl⟩ := way_two h.both hw hp
  exact ⟨A, c, rfl, hC2, Kd.C_below hC hb, h.below hb⟩
theorem FS.clone (h : FS w wr b12 g N l An cn rn Ae ce re) (A : Option Addr) (c : Nat) (xs : List ByteArray) (hx : Kd.C Kd.string w A xs.length xs) (hl : xs.length ≤ 1000) :
    Calls Try.prog 16 #[.slice A xs.length c] wr fun e w' => ∃ (A' : Option Addr) (c' : Nat), e = .returned (.slice A' xs.length c') ∧ Kd.C Kd.string w' A' xs.length xs ∧ FS w w' b12 g N l An cn rn Ae ce re := by
  refine (Clone_any A c xs (h.text hx) (by omega)).mono ?_
  rintro e w' ⟨A', c', rfl, hC, hb⟩
  exact ⟨A', c', rfl, hC, h.below hb⟩
theorem FS.below_ (h : FS w wr b12 g N l An cn rn Ae ce re) (A : Option Addr) (c : Nat) (xs : List ByteArray) (hx : Kd.C Kd.string wr A xs.length xs) :
    Calls Try.prog 15 #[.pointer (some ⟨g, 0, none⟩), .slice A xs.length c] wr fun e w' => ∃ (A' : Option Addr) (c' : Nat) (r : List ByteArray), e = .returned (.slice A' r.length c') ∧ (Rise r ∧ ∀ z, z ∈ r ↔ ∃ a ∈ xs, a ∈ N ∧ Reach (memb l) a z) ∧ Kd.C Kd.string w' A' r.length r ∧ FS w w' b12 g N l An cn rn Ae ce re := by
  refine (Below_any h.both.gr h.both.nl A c xs hx).mono ?_
  rintro e w' ⟨v, r, rfl, h1, h2, hR, hb⟩
  obtain ⟨A', c', rfl⟩ := Kd.R_slice hR
  exact ⟨A', c', r, rfl, ⟨h1, h2⟩, (Kd.R_reads' hR).2.2, h.below hb⟩
theorem FS.above_ (h : FS w wr b12 g N l An cn rn Ae ce re) (A : Option Addr) (c : Nat) (xs : List ByteArray) (hx : Kd.C Kd.string wr A xs.length xs) :
    Calls Try.prog 18 #[.pointer (some ⟨g, 0, none⟩), .slice A xs.length c] wr fun e w' => ∃ (A' : Option Addr) (c' : Nat) (r : List ByteArray), e = .returned (.slice A' r.length c') ∧ (Rise r ∧ ∀ z, z ∈ r ↔ ∃ a ∈ xs, a ∈ N ∧ Reach (fun x y => memb l y x) a z) ∧ Kd.C Kd.string w' A' r.length r ∧ FS w w' b12 g N l An cn rn Ae ce re := by
  refine (Above_any h.both.gr h.both.nl A c xs hx).mono ?_
  rintro e w' ⟨v, r, rfl, h1, h2, hR, hb⟩
  obtain ⟨A', c', rfl⟩ := Kd.R_slice hR
  exact ⟨A', c', r, rfl, ⟨h1, h2⟩, (Kd.R_reads' hR).2.2, h.below hb⟩
theorem FS.refbelow (h : FS w wr b12 g N l An cn rn Ae ce re) (A : Option Addr) (c : Nat) (xs : List ByteArray) (hx : Kd.C Kd.string w A xs.length xs) (hc : xs.length ≤ c) (hl : xs.length ≤ 1000) {r : List ByteArray} (hr : Rise r ∧ ∀ z, z ∈ r ↔ ∃ a ∈ xs, a ∈ N ∧ Reach (memb l) a z) {A0 : Option Addr} (hC : Kd.C Kd.string wr A0 r.length r) :
    Calls Try.prog 17 #[.agg #[.slice An rn.length cn, .slice Ae re.length ce], .slice A xs.length c] wr fun e w' => ∃ (A' : Option Addr) (c' : Nat), e = .returned (.slice A' r.length c') ∧ Kd.C Kd.string w' A' r.length r ∧ Kd.C Kd.string w' A0 r.length r ∧ FS w w' b12 g N l An cn rn Ae ce re := by
  refine (refBelow_any h.both.rf A c xs (h.text hx) hc hl).mono ?_
  rintro e w' ⟨A', c', r', rfl, h1, h2, hC2, hb⟩
  have e : r' = r := rise_ext h1 hr.1 (fun z => by
    rw [h2 z, hr.2 z, h.both.same]
    constructor
    · rintro ⟨a, ha, hn, hR⟩; exact ⟨a, ha, (h.both.eN a).1 hn, hR⟩
    · rintro ⟨a, ha, hn, hR⟩; exact ⟨a, ha, (h.both.eN a).2 hn, hR⟩)
  subst e
  exact ⟨A', c', rfl, hC2, Kd.C_below hC hb, h.below hb⟩
theorem FS.turn (h : FS w wr b12 g N l An cn rn Ae ce re) {r : List ByteArray} {A0 : Option Addr} (hC : Kd.C Kd.string wr A0 r.length r) :
    Calls Try.prog 19 #[.agg #[.slice An rn.length cn, .slice Ae re.length ce]] wr fun e w' => ∃ (Am : Option Addr) (cm : Nat) (Af : Option Addr) (cf : Nat) (rf : List Pr), e = .returned (.agg #[.slice Am rn.length cm, .slice Af rf.length cf]) ∧ (RefAt w' Am cm rn Af cf rf ∧ ∀ x y, (x, y) ∈ rf ↔ (y, x) ∈ re) ∧ Kd.C Kd.string w' A0 r.length r ∧ FS w w' b12 g N l An cn rn Ae ce re := by
  refine (refTurn_any h.both.rf h.both.rise h.both.le h.both.ln).mono ?_
  rintro e w' ⟨Am, cm, Af, cf, rf, rfl, hA, _, hm, hb⟩
  exact ⟨Am, cm, Af, cf, rf, rfl, ⟨hA, hm⟩, Kd.C_below hC hb, h.below hb⟩
theorem FS.refabove (h : FS w wr b12 g N l An cn rn Ae ce re) {Am Af : Option Addr} {cm cf : Nat} {rf : List Pr} (hT : RefAt wr Am cm rn Af cf rf ∧ ∀ x y, (x, y) ∈ rf ↔ (y, x) ∈ re) (A : Option Addr) (c : Nat) (xs : List ByteArray) (hx : Kd.C Kd.string w A xs.length xs) (hc : xs.length ≤ c) (hl : xs.length ≤ 1000) {r : List ByteArray} (hr : Rise r ∧ ∀ z, z ∈ r ↔ ∃ a ∈ xs, a ∈ N ∧ Reach (fun x y => memb l y x) a z) {A0 : Option Addr} (hC : Kd.C Kd.string wr A0 r.length r) :
    Calls Try.prog 17 #[.agg #[.slice Am rn.length cm, .slice Af rf.length cf], .slice A xs.length c] wr fun e w' => ∃ (A' : Option Addr) (c' : Nat), e = .returned (.slice A' r.length c') ∧ Kd.C Kd.string w' A' r.length r ∧ Kd.C Kd.string w' A0 r.length r ∧ FS w w' b12 g N l An cn rn Ae ce re := by
  refine (refBelow_any hT.1 A c xs (h.text hx) hc hl).mono ?_
  rintro e w' ⟨A', c', r', rfl, h1, h2, hC2, hb⟩
  have hm : memb rf = fun x y => memb l y x := by
    funext x y
    exact propext ((hT.2 x y).trans (h.both.eE (y, x)))
  rw [hm] at h2
  have e : r' = r := rise_ext h1 hr.1 (fun z => by
    rw [h2 z, hr.2 z]
    constructor
    · rintro ⟨a, ha, hn, hR⟩; exact ⟨a, ha, (h.both.eN a).1 hn, hR⟩
    · rintro ⟨a, ha, hn, hR⟩; exact ⟨a, ha, (h.both.eN a).2 hn, hR⟩)
  subst e
  exact ⟨A', c', rfl, hC2, Kd.C_below hC hb, h.below hb⟩
theorem FS.equal (h : FS w wr b12 g N l An cn rn Ae ce re) (A1 A2 : Option Addr) (c1 c2 : Nat) (xs : List ByteArray) (h1 : Kd.C Kd.string wr A1 xs.length xs) (h2 : Kd.C Kd.string wr A2 xs.length xs) :
    Calls Try.prog 14 #[.slice A1 xs.length c1, .slice A2 xs.length c2] wr fun e w' => e = .returned (.bool true) ∧ FS w w' b12 g N l An cn rn Ae ce re := by
  refine (Equal_any A1 A2 c1 c2 xs xs h1 h2).mono ?_
  rintro e w' ⟨rfl, q, rfl⟩
  exact ⟨by simp, h.below (pw_below_drewN (Below.refl _ _) q)⟩
end
set_option maxRecDepth 100000 in
set_option maxHeartbeats 8000000 in
theorem finds_walk {w : World} (A : Option Addr) (c : Nat) (l : List Pr) (A2 : Option Addr) (c2 : Nat) (names : List ByteArray) (A3 : Option Addr) (c3 : Nat) (asked : List ByteArray) (x y : ByteArray) (hl : Kd.C kE w A l.length l) (hn : Kd.C Kd.string w A2 names.length names ∧ names.length ≤ c2 ∧ (A2 = none → c2 = 0)) (ha : Kd.C Kd.string w A3 asked.length asked ∧ asked.length ≤ c3 ∧ (A3 = none → c3 = 0))
    (hz1 : ∀ e ∈ l, e.1.size ≤ maxLen ∧ e.2.size ≤ maxLen) (hz2 : ∀ x ∈ names, x.size ≤ maxLen) (hz3 : ∀ x ∈ asked, x.size ≤ maxLen) :
    Calls Try.prog 3 #[.slice A l.length c, .slice A2 names.length c2, .slice A3 asked.length c3, .string x, .string y] w fun e w' => e = .returned (.bool true) ∧ Below w.heap.size w w' := by
  have X := Lib.hid (And.intro hl (And.intro hn (And.intro ha (And.intro hz1 hz2))))
  clear hl hn ha hz1 hz2 hz3
  go_enter Try.func3, Try.ntmps3
  go_wp2_with fail
  refine (works_any w).mono ?_
  rintro e w1 ⟨rfl, hb1⟩
  have B1 := Lib.hid hb1
  clear hb1
  by_cases hlong : l.length ≤ 40 ∧ names.length ≤ 20
  · have HL := Lib.hid (long_no w1 A A2 l.length c names.length c2 hlong.1 hlong.2)
    obtain ⟨hl40, hn20⟩ := hlong
    by_cases h10 : asked.length ≤ 10
    · have h10d : decide ((10 : Int) < (asked.length : Int)) = false := decide_eq_false (by omega)
      have h10n : ¬ ((10 : Int) < (asked.length : Int)) := by omega
      go_wp2_with fail
      refine HL.out.mono ?_
      rintro e w1' ⟨rfl, hw⟩
      obtain rfl : w1 = w1' := hw.symm
      clear HL
      have HM : Hid (Calls Try.prog 10 #[.slice A l.length c, .slice A2 names.length c2] w1 fun e w' => ∃ g N, e = .returned (.pointer (some ⟨g, 0, none⟩)) ∧ GraphAt w' w.heap.size g N (fun x y => (x, y) ∈ l) ∧ (∀ z, z ∈ N ↔ z ∈ names ∨ ∃ e ∈ l, e.1 = z ∨ e.2 = z) ∧ N.length ≤ 1000000 ∧ Below w.heap.size w w') := by
        obtain ⟨hl, hn, ha, hz1, hz2⟩ := X.out
        refine (made_any A c l A2 c2 names (Kd.C_below hl B1.out) (Kd.C_below hn.1 B1.out) (by omega) (by omega) hz1 hz2).mono ?_
        rintro e w2 ⟨g, N, rfl, hG, hN, hln, hb⟩
        exact ⟨g, N, rfl, hG.base B1.out.size, hN, by omega, B1.out.trans (hb.mono B1.out.size)⟩
      go_wp2_with fail
      refine HM.out.mono ?_
      rintro e w2 ⟨g, N, rfl, hG, hN, hln, hb2⟩
      have HO : Hid (Calls Try.prog 11 #[.slice A l.length c, .slice A2 names.length c2] w2 fun e w' => ∃ (An : Option Addr) (cn : Nat) (rn : List ByteArray) (Ae : Option Addr) (ce : Nat) (re : List Pr), e = .returned (.agg #[.slice An rn.length cn, .slice Ae re.length ce]) ∧ Both w w' g N l An cn rn Ae ce re) := by
        obtain ⟨hl, hn, ha, hz1, hz2⟩ := X.out
        refine (Of_any A c l A2 c2 names (Kd.C_below hl hb2) (Kd.C_below hn.1 hb2) hn.2.2 (by omega) (by omega)).mono ?_
        intro e w3 ho
        exact both_of hG hN hln hb2 hl40 hn20 ho
      clear hG hN hln hb2 HM
      go_wp2_with fail
      refine HO.out.mono ?_
      rintro e w3 ⟨An, cn, rn, Ae, ce, re, rfl, hB3⟩
      have P3 := Lib.hid hB3
      clear hB3 HO
      go_wp2_with fail
      have Y4 : Hid (FS w (w3.alloc (.cells #[.slice An rn.length cn, .slice Ae re.length ce] 29)) w3.heap.size g N l An cn rn Ae ce re) :=
        ⟨P3.out.below ((Below.refl _ w3).alloc (Nat.le_refl _) _), (MapKept.heap_alloc w3 _).1⟩
      clear P3
      obtain ⟨b12, hb12⟩ : ∃ b12, b12 = w3.heap.size := ⟨_, rfl⟩
      rw [← hb12] at Y4
      rw [← hb12]
      clear hb12
      refine (Y4.out.way x y).mono ?_
      rintro e w4 ⟨Aw, cw, p, ok, rfl, hp, hC, hF⟩
      have HP := Lib.hid hp
      have Z4 := Lib.hid (And.intro hC hF)
      clear hp hC hF Y4
      have hc0 := Z4.out.2.cells.1
      have hc1 := Z4.out.2.cells.2
      go_wp2_with fail
      refine (Z4.out.2.refway x y HP.out Z4.out.1).mono ?_
      rintro e w5 ⟨Ar, cr, rfl, hC, hC2, hF⟩
      have Z5 : Hid (Kd.C Kd.string w5.drew Ar p.length p ∧ Kd.C Kd.string w5.drew Aw p.length p ∧ FS w w5.drew b12 g N l An cn rn Ae ce re) :=
        ⟨Kd.C_below hC (pw_below_drewN (Below.refl _ w5) 1), Kd.C_below hC2 (pw_below_drewN (Below.refl _ w5) 1), hF.below (pw_below_drewN (Below.refl _ w5) 1)⟩
      clear hC hC2 hF Z4 HP hc0 hc1
      have hok : (ok == ok) = true := beq_self_eq_true _
      go_wp2_with fail
      refine start_ (n := 30) (S := fun w' => w'.cell? ⟨b12, 0, none⟩ = some (.slice An rn.length cn) ∧ w'.cell? ⟨b12, 1, none⟩ = some (.slice Ae re.length ce)) (ds := []) #[false, false, false, false, false, false, false, false, false, false, false, false, false, false, false, false, false, false, false, false, false, false, false, false, false, false, false, false, false, false] (by kernel_rfl) rfl rfl (Z5.out.2.2.cells) (fun hHeld => ?_); refine with_tabW fi10_tab fi10_bits (fun HT_ HW_ => ?_)
      refine pure_ (i := 0) (N := some 49) (v := ?_) (a' := ?_) #[true, false, false, false, false, false, false, false, false, false, false, false, false, false, false, false, false, false, false, false, false, false, false, false, false, false, false, false, false, false] rfl rfl (any_of HT_.out (by kernel_rfl)) (fun _ _ _ h => h) (Or.inl ⟨by rfl, ?_⟩) ?_ ?_
      rotate_left
      · intro w'
        go_simp
        with_reducible rfl
      rotate_left
      · simp only [Act.put, List.setIfInBounds_toArray, List.set_cons_zero, List.set_cons_succ, i64_w, i32_w]
        rfl
      refine pure_ (i := 1) (N := some 50) (v := ?_) (a' := ?_) #[true, true, false, false, false, false, false, false, false, false, false, false, false, false, false, false, false, false, false, false, false, false, false, false, false, false, false, false, false, false] rfl rfl (any_of HT_.out (by kernel_rfl)) (fun _ _ _ h => h) (Or.inl ⟨by rfl, ?_⟩) ?_ ?_
      rotate_left
      · intro w'
        go_simp
        with_reducible rfl
      rotate_left
      · simp only [Act.put, List.setIfInBounds_toArray, List.set_cons_zero, List.set_cons_succ, i64_w, i32_w]
        rfl
      refine one_ (i := 2) (N := some 51) #[true, true, true, false, false, false, false, false, false, false, false, false, false, false, false, false, false, false, false, false, false, false, false, false, false, false, false, false, false, false] rfl rfl (one_of HT_.out (by kernel_rfl)) (by decide) (fun K hK => ?_)
      refine goes_ Try.func14 (by kernel_rfl) rfl #[.slice Aw p.length cw, .slice Ar p.length cr] (by rfl) rfl rfl (by (try simp only [List.map_toArray, List.map_cons, List.map_nil]); first | done | rfl) ?_
      refine (Z5.out.2.2.equal Aw Ar cw cr p Z5.out.2.1 Z5.out.1).mono ?_
      rintro e v2 ⟨rfl, hF⟩
      refine ⟨_, rfl, ?_⟩
      have Y2 := Lib.hid hF
      clear hF
      refine hK.out _ _ Y2.out.cells (fun hHeld => ?_)
      clear hK K
      refine norm_ (a' := ?_) ?_ ?_
      rotate_left
      · show Act.put _ (some 51) _ = _
        simp only [Act.put, List.setIfInBounds_toArray, List.set_cons_zero, List.set_cons_succ, i64_w, i32_w]
        rfl
      refine pure_ (i := 3) (N := some 52) (v := ?_) (a' := ?_) #[true, true, true, true, false, false, false, false, false, false, false, false, false, false, false, false, false, false, false, false, false, false, false, false, false, false, false, false, false, false] rfl rfl (any_of HT_.out (by kernel_rfl)) (fun _ _ _ h => h) (Or.inl ⟨by rfl, ?_⟩) ?_ ?_
      rotate_left
      · intro w'
        go_simp
        with_reducible rfl
      rotate_left
      · simp only [Act.put, List.setIfInBounds_toArray, List.set_cons_zero, List.set_cons_succ, i64_w, i32_w]
        rfl
      refine pure_ (i := 4) (N := some 53) (v := ?_) (a' := ?_) #[true, true, true, true, true, false, false, false, false, false, false, false, false, false, false, false, false, false, false, false, false, false, false, false, false, false, false, false, false, false] rfl rfl (any_of HT_.out (by kernel_rfl)) (fun _ _ _ h => h) (Or.inl ⟨by rfl, ?_⟩) ?_ ?_
      rotate_left
      · intro w'
        go_simp
        with_reducible rfl
      rotate_left
      · simp only [Act.put, List.setIfInBounds_toArray, List.set_cons_zero, List.set_cons_succ, i64_w, i32_w]
        rfl
      refine pure_ (i := 5) (N := some 54) (v := ?_) (a' := ?_) #[true, true, true, true, true, true, false, false, false, false, false, false, false, false, false, false, false, false, false, false, false, false, false, false, false, false, false, false, false, false] rfl rfl (any_of HT_.out (by kernel_rfl)) (fun _ _ _ h => h) (Or.inl ⟨by rfl, ?_⟩) ?_ ?_
      rotate_left
      · intro w'
        go_simp
        with_reducible rfl
      rotate_left
      · simp only [Act.put, List.setIfInBounds_toArray, List.set_cons_zero, List.set_cons_succ, i64_w, i32_w]
        rfl
      refine pure_ (i := 6) (N := some 55) (v := ?_) (a' := ?_) #[true, true, true, true, true, true, true, false, false, false, false, false, false, false, false, false, false, false, false, false, false, false, false, false, false, false, false, false, false, false] rfl rfl (any_of HT_.out (by kernel_rfl)) (fun _ _ _ h => h) (Or.inl ⟨by rfl, ?_⟩) ?_ ?_
      rotate_left
      · intro w'
        go_simp
        with_reducible rfl
      rotate_left
      · simp only [Act.put, List.setIfInBounds_toArray, List.set_cons_zero, List.set_cons_succ, i64_w, i32_w]
        rfl
      refine pure_ (i := 7) (N := some 56) (v := ?_) (a' := ?_) #[true, true, true, true, true, true, true, true, false, false, false, false, false, false, false, false, false, false, false, false, false, false, false, false, false, false, false, false, false, false] rfl rfl (any_of HT_.out (by kernel_rfl)) (fun _ _ _ h => h) (Or.inl ⟨by rfl, ?_⟩) ?_ ?_
      rotate_left
      · intro w'
        go_simp
        with_reducible rfl
      rotate_left
      · simp only [Act.put, List.setIfInBounds_toArray, List.set_cons_zero, List.set_cons_succ, i64_w, i32_w]
        rfl
      refine pure_ (i := 8) (N := some 57) (v := ?_) (a' := ?_) #[true, true, true, true, true, true, true, true, true, false, false, false, false, false, false, false, false, false, false, false, false, false, false, false, false, false, false, false, false, false] rfl rfl (any_of HT_.out (by kernel_rfl)) (fun _ _ _ h => h) (Or.inl ⟨by rfl, ?_⟩) ?_ ?_
      rotate_left
      · intro w'
        go_simp
        with_reducible rfl
      rotate_left
      · simp only [Act.put, List.setIfInBounds_toArray, List.set_cons_zero, List.set_cons_succ, i64_w, i32_w]
        rfl
      refine pure_ (i := 9) (N := some 58) (v := ?_) (a' := ?_) #[true, true, true, true, true, true, true, true, true, true, false, false, false, false, false, false, false, false, false, false, false, false, false, false, false, false, false, false, false, false] rfl rfl (any_of HT_.out (by kernel_rfl)) (fun _ _ _ h => h) (Or.inl ⟨by rfl, ?_⟩) ?_ ?_
      rotate_left
      · intro w'
        go_simp
        with_reducible rfl
      rotate_left
      · simp only [Act.put, List.setIfInBounds_toArray, List.set_cons_zero, List.set_cons_succ, i64_w, i32_w]
        rfl
      refine pure_ (i := 10) (N := some 59) (v := ?_) (a' := ?_) #[true, true, true, true, true, true, true, true, true, true, true, false, false, false, false, false, false, false, false, false, false, false, false, false, false, false, false, false, false, false] rfl rfl (any_of HT_.out (by kernel_rfl)) (fun _ _ _ h => h) (Or.inl ⟨by rfl, ?_⟩) ?_ ?_
      rotate_left
      · intro w'
        go_simp
        with_reducible rfl
      rotate_left
      · simp only [Act.put, List.setIfInBounds_toArray, List.set_cons_zero, List.set_cons_succ, i64_w, i32_w]
        rfl
      refine take_ (i := 13) (N := some 62) (v := ?_) (a' := ?_) #[true, true, true, true, true, true, true, true, true, true, true, false, false, true, false, false, false, false, false, false, false, false, false, false, false, false, false, false, false, false] rfl rfl (take_ofW HT_.out HW_.out (by kernel_rfl)) (fun _ _ _ h => h) (Or.inl ⟨by rfl, ?_⟩) hHeld ?_ ?_
      rotate_left
      · rintro w' ⟨s0, s1⟩
        go_simp
        with_reducible rfl
      rotate_left
      · simp only [Act.put, List.setIfInBounds_toArray, List.set_cons_zero, List.set_cons_succ, i64_w, i32_w]
        rfl
      refine pure_ (i := 14) (N := some 63) (v := ?_) (a' := ?_) #[true, true, true, true, true, true, true, true, true, true, true, false, false, true, true, false, false, false, false, false, false, false, false, false, false, false, false, false, false, false] rfl rfl (any_of HT_.out (by kernel_rfl)) (fun _ _ _ h => h) (Or.inl ⟨by rfl, ?_⟩) ?_ ?_
      rotate_left
      · intro w'
        go_simp
        with_reducible rfl
      rotate_left
      · simp only [Act.put, List.setIfInBounds_toArray, List.set_cons_zero, List.set_cons_succ, i64_w, i32_w]
        rfl
      refine one_ (i := 11) (N := some 60) #[true, true, true, true, true, true, true, true, true, true, true, true, false, true, true, false, false, false, false, false, false, false, false, false, false, false, false, false, false, false] rfl rfl (one_of HT_.out (by kernel_rfl)) (by decide) (fun K hK => ?_)
      refine goes_ Try.func16 (by kernel_rfl) rfl #[.slice A3 asked.length c3] (by rfl) rfl rfl (by (try simp only [List.map_toArray, List.map_cons, List.map_nil]); first | done | rfl) ?_
      refine (Y2.out.clone A3 c3 asked X.out.2.2.1.1 (by omega)).mono ?_
      rintro e v11 ⟨Ak, ck, rfl, hC, hF⟩
      refine ⟨_, rfl, ?_⟩
      have Y11 := Lib.hid hF
      have C11 := Lib.hid hC
      clear hF hC
      refine hK.out _ _ Y11.out.cells (fun hHeld => ?_)
      clear hK K
      refine norm_ (a' := ?_) ?_ ?_
      rotate_left
      · show Act.put _ (some 60) _ = _
        simp only [Act.put, List.setIfInBounds_toArray, List.set_cons_zero, List.set_cons_succ, i64_w, i32_w]
        rfl
      refine one_ (i := 12) (N := some 61) #[true, true, true, true, true, true, true, true, true, true, true, true, true, true, true, false, false, false, false, false, false, false, false, false, false, false, false, false, false, false] rfl rfl (one_of HT_.out (by kernel_rfl)) (by decide) (fun K hK => ?_)
      refine goes_ Try.func15 (by kernel_rfl) rfl #[.pointer (some ⟨g, 0, none⟩), .slice Ak asked.length ck] (by rfl) rfl rfl (by (try simp only [List.map_toArray, List.map_cons, List.map_nil]); first | done | rfl) ?_
      refine (Y11.out.below_ Ak ck asked C11.out).mono ?_
      rintro e v12 ⟨Ab, cb, rb, rfl, hr, hC, hF⟩
      refine ⟨_, rfl, ?_⟩
      have Y12 := Lib.hid hF
      have C12 := Lib.hid (And.intro hr hC)
      clear hF hC hr
      refine hK.out _ _ Y12.out.cells (fun hHeld => ?_)
      clear hK K
      refine norm_ (a' := ?_) ?_ ?_
      rotate_left
      · show Act.put _ (some 61) _ = _
        simp only [Act.put, List.setIfInBounds_toArray, List.set_cons_zero, List.set_cons_succ, i64_w, i32_w]
        rfl
      refine one_ (i := 15) (N := some 64) #[true, true, true, true, true, true, true, true, true, true, true, true, true, true, true, true, false, false, false, false, false, false, false, false, false, false, false, false, false, false] rfl rfl (one_of HT_.out (by kernel_rfl)) (by decide) (fun K hK => ?_)
      refine goes_ Try.func17 (by kernel_rfl) rfl #[.agg #[.slice An rn.length cn, .slice Ae re.length ce], .slice A3 asked.length c3] (by rfl) rfl rfl (by (try simp only [List.map_toArray, List.map_cons, List.map_nil]); first | done | rfl) ?_
      refine (Y12.out.refbelow A3 c3 asked X.out.2.2.1.1 X.out.2.2.1.2.1 (by omega) C12.out.1 C12.out.2).mono ?_
      rintro e v15 ⟨Ac, cc, rfl, hC, hC2, hF⟩
      refine ⟨_, rfl, ?_⟩
      have Y15 := Lib.hid hF
      have C15 := Lib.hid (And.intro hC hC2)
      clear hF hC hC2
      refine hK.out _ _ Y15.out.cells (fun hHeld => ?_)
      clear hK K
      refine norm_ (a' := ?_) ?_ ?_
      rotate_left
      · show Act.put _ (some 64) _ = _
        simp only [Act.put, List.setIfInBounds_toArray, List.set_cons_zero, List.set_cons_succ, i64_w, i32_w]
        rfl
      refine one_ (i := 16) (N := some 65) #[true, true, true, true, true, true, true, true, true, true, true, true, true, true, true, true, true, false, false, false, false, false, false, false, false, false, false, false, false, false] rfl rfl (one_of HT_.out (by kernel_rfl)) (by decide) (fun K hK => ?_)
      refine goes_ Try.func14 (by kernel_rfl) rfl #[.slice Ab rb.length cb, .slice Ac rb.length cc] (by rfl) rfl rfl (by (try simp only [List.map_toArray, List.map_cons, List.map_nil]); first | done | rfl) ?_
      refine (Y15.out.equal Ab Ac cb cc rb C15.out.2 C15.out.1).mono ?_
      rintro e v16 ⟨rfl, hF⟩
      refine ⟨_, rfl, ?_⟩
      have Y16 := Lib.hid hF
      clear hF
      refine hK.out _ _ Y16.out.cells (fun hHeld => ?_)
      clear hK K
      refine norm_ (a' := ?_) ?_ ?_
      rotate_left
      · show Act.put _ (some 65) _ = _
        simp only [Act.put, List.setIfInBounds_toArray, List.set_cons_zero, List.set_cons_succ, i64_w, i32_w]
        rfl
      refine pure_ (i := 17) (N := some 66) (v := ?_) (a' := ?_) #[true, true, true, true, true, true, true, true, true, true, true, true, true, true, true, true, true, true, false, false, false, false, false, false, false, false, false, false, false, false] rfl rfl (any_of HT_.out (by kernel_rfl)) (fun _ _ _ h => h) (Or.inl ⟨by rfl, ?_⟩) ?_ ?_
      rotate_left
      · intro w'
        go_simp
        with_reducible rfl
      rotate_left
      · simp only [Act.put, List.setIfInBounds_toArray, List.set_cons_zero, List.set_cons_succ, i64_w, i32_w]
        rfl
      refine pure_ (i := 18) (N := some 67) (v := ?_) (a' := ?_) #[true, true, true, true, true, true, true, true, true, true, true, true, true, true, true, true, true, true, true, false, false, false, false, false, false, false, false, false, false, false] rfl rfl (any_of HT_.out (by kernel_rfl)) (fun _ _ _ h => h) (Or.inl ⟨by rfl, ?_⟩) ?_ ?_
      rotate_left
      · intro w'
        go_simp
        with_reducible rfl
      rotate_left
      · simp only [Act.put, List.setIfInBounds_toArray, List.set_cons_zero, List.set_cons_succ, i64_w, i32_w]
        rfl
      refine pure_ (i := 19) (N := some 68) (v := ?_) (a' := ?_) #[true, true, true, true, true, true, true, true, true, true, true, true, true, true, true, true, true, true, true, true, false, false, false, false, false, false, false, false, false, false] rfl rfl (any_of HT_.out (by kernel_rfl)) (fun _ _ _ h => h) (Or.inl ⟨by rfl, ?_⟩) ?_ ?_
      rotate_left
      · intro w'
        go_simp
        with_reducible rfl
      rotate_left
      · simp only [Act.put, List.setIfInBounds_toArray, List.set_cons_zero, List.set_cons_succ, i64_w, i32_w]
        rfl
      refine pure_ (i := 20) (N := some 69) (v := ?_) (a' := ?_) #[true, true, true, true, true, true, true, true, true, true, true, true, true, true, true, true, true, true, true, true, true, false, false, false, false, false, false, false, false, false] rfl rfl (any_of HT_.out (by kernel_rfl)) (fun _ _ _ h => h) (Or.inl ⟨by rfl, ?_⟩) ?_ ?_
      rotate_left
      · intro w'
        go_simp
        with_reducible rfl
      rotate_left
      · simp only [Act.put, List.setIfInBounds_toArray, List.set_cons_zero, List.set_cons_succ, i64_w, i32_w]
        rfl
      refine take_ (i := 23) (N := some 72) (v := ?_) (a' := ?_) #[true, true, true, true, true, true, true, true, true, true, true, true, true, true, true, true, true, true, true, true, true, false, false, true, false, false, false, false, false, false] rfl rfl (take_ofW HT_.out HW_.out (by kernel_rfl)) (fun _ _ _ h => h) (Or.inl ⟨by rfl, ?_⟩) hHeld ?_ ?_
      rotate_left
      · rintro w' ⟨s0, s1⟩
        go_simp
        with_reducible rfl
      rotate_left
      · simp only [Act.put, List.setIfInBounds_toArray, List.set_cons_zero, List.set_cons_succ, i64_w, i32_w]
        rfl
      refine pure_ (i := 25) (N := some 74) (v := ?_) (a' := ?_) #[true, true, true, true, true, true, true, true, true, true, true, true, true, true, true, true, true, true, true, true, true, false, false, true, false, true, false, false, false, false] rfl rfl (any_of HT_.out (by kernel_rfl)) (fun _ _ _ h => h) (Or.inl ⟨by rfl, ?_⟩) ?_ ?_
      rotate_left
      · intro w'
        go_simp
        with_reducible rfl
      rotate_left
      · simp only [Act.put, List.setIfInBounds_toArray, List.set_cons_zero, List.set_cons_succ, i64_w, i32_w]
        rfl
      refine one_ (i := 21) (N := some 70) #[true, true, true, true, true, true, true, true, true, true, true, true, true, true, true, true, true, true, true, true, true, true, false, true, false, true, false, false, false, false] rfl rfl (one_of HT_.out (by kernel_rfl)) (by decide) (fun K hK => ?_)
      refine goes_ Try.func16 (by kernel_rfl) rfl #[.slice A3 asked.length c3] (by rfl) rfl rfl (by (try simp only [List.map_toArray, List.map_cons, List.map_nil]); first | done | rfl) ?_
      refine (Y16.out.clone A3 c3 asked X.out.2.2.1.1 (by omega)).mono ?_
      rintro e v21 ⟨Ak2, ck2, rfl, hC, hF⟩
      refine ⟨_, rfl, ?_⟩
      have Y21 := Lib.hid hF
      have C21 := Lib.hid hC
      clear hF hC
      refine hK.out _ _ Y21.out.cells (fun hHeld => ?_)
      clear hK K
      refine norm_ (a' := ?_) ?_ ?_
      rotate_left
      · show Act.put _ (some 70) _ = _
        simp only [Act.put, List.setIfInBounds_toArray, List.set_cons_zero, List.set_cons_succ, i64_w, i32_w]
        rfl
      refine one_ (i := 22) (N := some 71) #[true, true, true, true, true, true, true, true, true, true, true, true, true, true, true, true, true, true, true, true, true, true, true, true, false, true, false, false, false, false] rfl rfl (one_of HT_.out (by kernel_rfl)) (by decide) (fun K hK => ?_)
      refine goes_ Try.func18 (by kernel_rfl) rfl #[.pointer (some ⟨g, 0, none⟩), .slice Ak2 asked.length ck2] (by rfl) rfl rfl (by (try simp only [List.map_toArray, List.map_cons, List.map_nil]); first | done | rfl) ?_
      refine (Y21.out.above_ Ak2 ck2 asked C21.out).mono ?_
      rintro e v22 ⟨Ad, cd, rd, rfl, hr, hC, hF⟩
      refine ⟨_, rfl, ?_⟩
      have Y22 := Lib.hid hF
      have R22 := Lib.hid hr
      have C22 := Lib.hid hC
      clear hF hC hr
      refine hK.out _ _ Y22.out.cells (fun hHeld => ?_)
      clear hK K
      refine norm_ (a' := ?_) ?_ ?_
      rotate_left
      · show Act.put _ (some 71) _ = _
        simp only [Act.put, List.setIfInBounds_toArray, List.set_cons_zero, List.set_cons_succ, i64_w, i32_w]
        rfl
      refine one_ (i := 24) (N := some 73) #[true, true, true, true, true, true, true, true, true, true, true, true, true, true, true, true, true, true, true, true, true, true, true, true, true, true, false, false, false, false] rfl rfl (one_of HT_.out (by kernel_rfl)) (by decide) (fun K hK => ?_)
      refine goes_ Try.func19 (by kernel_rfl) rfl #[.agg #[.slice An rn.length cn, .slice Ae re.length ce]] (by rfl) rfl rfl (by (try simp only [List.map_toArray, List.map_cons, List.map_nil]); first | done | rfl) ?_
      refine (Y22.out.turn C22.out).mono ?_
      rintro e v24 ⟨Am, cm, Af, cf, rf, rfl, hT, hC, hF⟩
      refine ⟨_, rfl, ?_⟩
      have Y24 := Lib.hid hF
      have T24 := Lib.hid hT
      have C24 := Lib.hid hC
      clear hF hC hT
      refine hK.out _ _ Y24.out.cells (fun hHeld => ?_)
      clear hK K
      refine norm_ (a' := ?_) ?_ ?_
      rotate_left
      · show Act.put _ (some 73) _ = _
        simp only [Act.put, List.setIfInBounds_toArray, List.set_cons_zero, List.set_cons_succ, i64_w, i32_w]
        rfl
      refine one_ (i := 26) (N := some 75) #[true, true, true, true, true, true, true, true, true, true, true, true, true, true, true, true, true, true, true, true, true, true, true, true, true, true, true, false, false, false] rfl rfl (one_of HT_.out (by kernel_rfl)) (by decide) (fun K hK => ?_)
      refine goes_ Try.func17 (by kernel_rfl) rfl #[.agg #[.slice Am rn.length cm, .slice Af rf.length cf], .slice A3 asked.length c3] (by rfl) rfl rfl (by (try simp only [List.map_toArray, List.map_cons, List.map_nil]); first | done | rfl) ?_
      refine (Y24.out.refabove T24.out A3 c3 asked X.out.2.2.1.1 X.out.2.2.1.2.1 (by omega) R22.out C24.out).mono ?_
      rintro e v26 ⟨Ag, cg, rfl, hC, hC2, hF⟩
      refine ⟨_, rfl, ?_⟩
      have Y26 := Lib.hid hF
      have C26 := Lib.hid (And.intro hC hC2)
      clear hF hC hC2
      refine hK.out _ _ Y26.out.cells (fun hHeld => ?_)
      clear hK K
      refine norm_ (a' := ?_) ?_ ?_
      rotate_left
      · show Act.put _ (some 75) _ = _
        simp only [Act.put, List.setIfInBounds_toArray, List.set_cons_zero, List.set_cons_succ, i64_w, i32_w]
        rfl
      refine one_ (i := 27) (N := some 76) #[true, true, true, true, true, true, true, true, true, true, true, true, true, true, true, true, true, true, true, true, true, true, true, true, true, true, true, true, false, false] rfl rfl (one_of HT_.out (by kernel_rfl)) (by decide) (fun K hK => ?_)
      refine goes_ Try.func14 (by kernel_rfl) rfl #[.slice Ad rd.length cd, .slice Ag rd.length cg] (by rfl) rfl rfl (by (try simp only [List.map_toArray, List.map_cons, List.map_nil]); first | done | rfl) ?_
      refine (Y26.out.equal Ad Ag cd cg rd C26.out.2 C26.out.1).mono ?_
      rintro e v27 ⟨rfl, hF⟩
      refine ⟨_, rfl, ?_⟩
      have Y27 := Lib.hid hF
      clear hF
      refine hK.out _ _ Y27.out.cells (fun hHeld => ?_)
      clear hK K
      refine norm_ (a' := ?_) ?_ ?_
      rotate_left
      · show Act.put _ (some 76) _ = _
        simp only [Act.put, List.setIfInBounds_toArray, List.set_cons_zero, List.set_cons_succ, i64_w, i32_w]
        rfl
      refine pure_ (i := 28) (N := some 77) (v := ?_) (a' := ?_) #[true, true, true, true, true, true, true, true, true, true, true, true, true, true, true, true, true, true, true, true, true, true, true, true, true, true, true, true, true, false] rfl rfl (any_of HT_.out (by kernel_rfl)) (fun _ _ _ h => h) (Or.inl ⟨by rfl, ?_⟩) ?_ ?_
      rotate_left
      · intro w'
        go_simp
        with_reducible rfl
      rotate_left
      · simp only [Act.put, List.setIfInBounds_toArray, List.set_cons_zero, List.set_cons_succ, i64_w, i32_w]
        rfl
      refine pure_ (i := 29) (N := some 10) (v := ?_) (a' := ?_) #[true, true, true, true, true, true, true, true, true, true, true, true, true, true, true, true, true, true, true, true, true, true, true, true, true, true, true, true, true, true] rfl rfl (any_of HT_.out (by kernel_rfl)) (fun _ _ _ h => h) (Or.inl ⟨by rfl, ?_⟩) ?_ ?_
      rotate_left
      · intro w'
        go_simp
        with_reducible rfl
      rotate_left
      · simp only [Act.put, List.setIfInBounds_toArray, List.set_cons_zero, List.set_cons_succ, i64_w, i32_w]
        rfl
      refine done_ (done_of HT_.out (by kernel_rfl)) ?_
      go_wp2_with fail
      go_ret
      exact ⟨rfl, Y27.out.both.bl⟩
    · have h10d : decide ((10 : Int) < (asked.length : Int)) = true := decide_eq_true (by omega)
      have h10n : ((10 : Int) < (asked.length : Int)) := by omega
      go_wp2_with fail
      refine HL.out.mono ?_
      rintro e w1' ⟨rfl, hw⟩
      obtain rfl : w1 = w1' := hw.symm
      clear HL
      go_wp2_with fail
      go_ret
      exact ⟨rfl, B1.out⟩
  · have HL := Lib.hid (long_yes w1 A A2 l.length c names.length c2 hlong)
    go_wp2_with fail
    refine HL.out.mono ?_
    rintro e w1' ⟨rfl, hw⟩
    obtain rfl : w1 = w1' := hw.symm
    clear HL
    go_wp2_with fail
    go_ret
    exact ⟨rfl, B1.out⟩
end Go.Proofs.Ytlccejbomgknkaa
