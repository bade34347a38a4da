/- The tree's Copy: another tree with the same files. -/
import Derived.Test.YtpmeefdegcllkaaTSt
import Derived.Shelf.SlMaps.Clone
import Derived.Ground.SlmcProg
import Derived.Shelf.Lay
namespace Go.Proofs
open Go.Shelf
shelf_lay_g SlLaysW.n5 Slmc 5 at Try 22 as Try.cloneT
end Go.Proofs
namespace Go.Proofs.Ytpmeefdegcllkaa
set_option linter.unusedVariables false
set_option linter.unusedSimpArgs false
open Go.RowKit Go.Shelf Go.Maps Go.Proofs.YtpmeefdegcllkaaW.PrintWords Go.Proofs.YtpmeefdegcllkaaW.PrintLast
open PTreeLists

def jl (f : Nat → ByteArray) (n : Nat) : List Value := (List.range 32).map (fun j => Value.string (f j)) ++ [Value.int .i64 n]
theorem jl_len (f : Nat → ByteArray) (n : Nat) : (jl f n).length = 33 := by simp [jl]
theorem clone_any {w : World} {b : Nat} {l : Ents} (h : MapAt w b l) : Calls Try.prog 22 #[.map (some b)] w fun e w' => ∃ b', e = .returned (.map (some b')) ∧ MapAt w' b' l ∧ w.heap.size ≤ b' ∧ Below w.heap.size w w' := by
  obtain ⟨es, clock, hb, h2⟩ := h
  refine (AnyW.maps_Clone Try.cloneT b es clock w hb).mono ?_
  rintro e w' ⟨rfl, rfl⟩
  exact ⟨_, rfl, ⟨es, clock, World.alloc_heap_new w _, h2⟩, Nat.le_refl _, (Below.refl _ w).alloc (Nat.le_refl _) _⟩
theorem TreeAt.cells {w : World} {B t b n : Nat} {F : List Pr} (h : TreeAt w B t b n F) : ∃ f : Nat → ByteArray, w.heap[t]? = some (.cells (jl f n ++ [Value.map (some b)]).toArray 50 (0, 0)) := by
  obtain ⟨⟨cs, hc, hs, h32, h33, hj⟩, _⟩ := h
  obtain ⟨f, hf⟩ := Classical.axiomOfChoice (fun j : Nat => show ∃ s : ByteArray, j < 32 → cs[j]? = some (.string s) from by
    by_cases h : j < 32
    · obtain ⟨s, h1⟩ := hj j h
      exact ⟨s, fun _ => h1⟩
    · exact ⟨ByteArray.empty, fun h' => absurd h' h⟩)
  refine ⟨f, ?_⟩
  rw [hc]
  congr 2
  apply Array.ext'
  apply List.ext_getElem?
  intro j
  rw [Array.getElem?_toList]
  by_cases h : j < 32
  · rw [hf j h]
    unfold jl
    rw [List.append_assoc, List.getElem?_append_left (by simp; exact h)]
    simp [h]
  · by_cases e1 : j = 32
    · subst e1
      rw [h32]
      simp [jl]
    · by_cases e2 : j = 33
      · subst e2
        rw [h33]
        simp [jl]
      · rw [Array.getElem?_eq_none (by omega), List.getElem?_eq_none (by simp [jl]; omega)]
theorem isAgg48 (w : World) : (isAgg 48).run Try.prog w = .ok true w := by kernel_rfl
theorem sizeOf48 (w : World) : (sizeOf 48).run Try.prog w = .ok 33 w := by kernel_rfl
theorem load48 {w : World} {t b : Nat} {l : List Value} (h : w.heap[t]? = some (.cells (l ++ [Value.map (some b)]).toArray 50 (0, 0))) (hl : l.length = 33) : (loadVar 48 ⟨t, 0, none⟩).run Try.prog w = .ok (.agg l.toArray) w := by
  have hc : (loadCells ⟨t, 0, none⟩ l.length).run Try.prog w = .ok l.toArray w := run_loadCells_list (P := Try.prog) w ⟨t, 0, none⟩ l (fun j v hv => by
    have hadd : (⟨t, 0, none⟩ : Addr).add j = ⟨t, j, none⟩ := by unfold Addr.add; split <;> simp_all
    rw [hadd, cell_of_row w t j _ _ _ h]
    have hj := (List.getElem?_eq_some_iff.1 hv).1
    rw [List.getElem?_toArray, List.getElem?_append_left hj]
    exact hv)
  rw [hl] at hc
  unfold loadVar
  simp [Sem.run_bind, isAgg48, sizeOf48, Result.andThen, hc]
theorem build50 (f : Nat → ByteArray) (n b : Nat) (w : World) : (Instr.build 50 #[(0, .agg (jl f n).toArray), (1, .map (some b))]).run Try.prog w = .ok (.agg (jl f n ++ [Value.map (some b)]).toArray) w := by
  kernel_rfl
theorem load_run {ev : Operand → Value} {o : Oper} {x : Operand} {w : World} {t b : Nat} {l : List Value} (ho : o.op = .load 48 x) (hx : ev x = .pointer (some ⟨t, 0, none⟩)) (h : w.heap[t]? = some (.cells (l ++ [Value.map (some b)]).toArray 50 (0, 0))) (hl : l.length = 33) : (execOp ev o).run Try.prog w = .ok (.value (.agg l.toArray)) w := by
  unfold execOp
  simp only [ho, hx, Instr.loadAt, Instr.sureAddr, Sem.run_bind, Sem.run_pure, Result.andThen_ok, load48 h hl]
theorem build_run {ev : Operand → Value} {o : Oper} {x y : Operand} {w : World} {f : Nat → ByteArray} {n b : Nat} (ho : o.op = .build 50 #[(0, x), (1, y)]) (hx : ev x = .agg (jl f n).toArray) (hy : ev y = .map (some b)) : (execOp ev o).run Try.prog w = .ok (.value (.agg (jl f n ++ [Value.map (some b)]).toArray)) w := by
  unfold execOp
  simp [ho, hx, hy, build50, Result.andThen]
def co3T : Bool × List (List Nat × List Nat) := (true, [([], []), ([0], [0]), ([1], [1]), ([2], [2]), ([], []), ([4], [4]), ([5], [5]), ([6], [6]), ([7], [7]), ([3, 8], [3, 8]), ([9], [9]), ([10, 8, 0, 1, 2, 3, 4, 5, 6, 7, 8, 9, 10], [10])])
def co3B : List Nat := [0, 1, 3, 7, 0, 16, 48, 112, 240, 511, 1023, 2047]
theorem co3_tab : rtab .any (opsOf Try.f14 3) = co3T := by kernel_rfl
theorem co3_bits : waitsOk co3T.2 co3B = true := by kernel_rfl
set_option maxRecDepth 100000 in
set_option maxHeartbeats 4000000 in
theorem copy_any {w : World} {B t b n : Nat} {F : List Pr} (h : TreeAt w B t b n F) :
    Calls Try.prog 14 #[.pointer (some ⟨t, 0, none⟩)] w fun e w' => ∃ t' b', e = .returned (.pointer (some ⟨t', 0, none⟩)) ∧ TreeAt w' w.heap.size t' b' n F ∧ Below w.heap.size w w' := by
  obtain ⟨f, hf⟩ := h.cells
  have hc33 := h.c33
  have HK := Lib.hid (clone_any (w := w.drewN 1) (h.mo.same (w' := w.drewN 1) rfl))
  have X := Lib.hid (And.intro h hf)
  clear h hf
  go_enter Try.func14, Try.ntmps14
  go_wp2_with fail
  refine start_ (n := 12) (S := fun w' => w'.heap[t]? = some (.cells (jl f n ++ [Value.map (some b)]).toArray 50 (0, 0)) ∧ w'.cell? ⟨t, 33, none⟩ = some (.map (some b))) (ds := []) #[false, false, false, false, false, false, false, false, false, false, false, false] (by kernel_rfl) rfl rfl (⟨X.out.2, hc33⟩) (fun hHeld => ?_); refine with_tabW co3_tab co3_bits (fun HT_ HW_ => ?_)
  refine pure_ (i := 0) (N := some 5) (v := ?_) (a' := ?_) #[true, false, false, false, false, false, false, false, false, false, false, false] rfl rfl (any_of HT_.out (by kernel_rfl)) (fun _ _ _ h => h) (Or.inl ⟨by rfl, ?_⟩) ?_ ?_
  rotate_left
  · intro w'
    go_simp
    with_reducible rfl
  rotate_left
  · simp only [Act.put, List.setIfInBounds_toArray, List.set_cons_zero, List.set_cons_succ, i64_w, i32_w]
    rfl
  refine pure_ (i := 1) (N := some 6) (v := ?_) (a' := ?_) #[true, true, false, false, false, false, false, false, false, false, false, false] rfl rfl (any_of HT_.out (by kernel_rfl)) (fun _ _ _ h => h) (Or.inl ⟨by rfl, ?_⟩) ?_ ?_
  rotate_left
  · intro w'
    go_simp
    with_reducible rfl
  rotate_left
  · simp only [Act.put, List.setIfInBounds_toArray, List.set_cons_zero, List.set_cons_succ, i64_w, i32_w]
    rfl
  refine pure_ (i := 2) (N := some 7) (v := ?_) (a' := ?_) #[true, true, true, false, false, false, false, false, false, false, false, false] rfl rfl (any_of HT_.out (by kernel_rfl)) (fun _ _ _ h => h) (Or.inl ⟨by rfl, ?_⟩) ?_ ?_
  rotate_left
  · intro w'
    go_simp
    with_reducible rfl
  rotate_left
  · simp only [Act.put, List.setIfInBounds_toArray, List.set_cons_zero, List.set_cons_succ, i64_w, i32_w]
    rfl
  refine take_ (i := 3) (N := some 8) (v := ?_) (a' := ?_) #[true, true, true, true, false, false, false, false, false, false, false, false] rfl rfl (take_ofW HT_.out HW_.out (by kernel_rfl)) (fun _ _ _ h => h) (Or.inl ⟨by rfl, ?_⟩) hHeld ?_ ?_
  rotate_left
  · rintro w' ⟨s0, s1⟩
    refine load_run (x := .tmp 7) ?_ ?_ s0 (jl_len f n)
    · rfl
    · rfl
  rotate_left
  · simp only [Act.put, List.setIfInBounds_toArray, List.set_cons_zero, List.set_cons_succ, i64_w, i32_w]
    rfl
  refine pure_ (i := 4) (N := some 9) (v := ?_) (a' := ?_) #[true, true, true, true, true, false, false, false, false, false, false, false] rfl rfl (any_of HT_.out (by kernel_rfl)) (fun _ _ _ h => h) (Or.inl ⟨by rfl, ?_⟩) ?_ ?_
  rotate_left
  · intro w'
    go_simp
    with_reducible rfl
  rotate_left
  · simp only [Act.put, List.setIfInBounds_toArray, List.set_cons_zero, List.set_cons_succ, i64_w, i32_w]
    rfl
  refine pure_ (i := 5) (N := some 10) (v := ?_) (a' := ?_) #[true, true, true, true, true, true, false, false, false, false, false, false] rfl rfl (any_of HT_.out (by kernel_rfl)) (fun _ _ _ h => h) (Or.inl ⟨by rfl, ?_⟩) ?_ ?_
  rotate_left
  · intro w'
    go_simp
    with_reducible rfl
  rotate_left
  · simp only [Act.put, List.setIfInBounds_toArray, List.set_cons_zero, List.set_cons_succ, i64_w, i32_w]
    rfl
  refine pure_ (i := 6) (N := some 11) (v := ?_) (a' := ?_) #[true, true, true, true, true, true, true, false, false, false, false, false] rfl rfl (any_of HT_.out (by kernel_rfl)) (fun _ _ _ h => h) (Or.inl ⟨by rfl, ?_⟩) ?_ ?_
  rotate_left
  · intro w'
    go_simp
    with_reducible rfl
  rotate_left
  · simp only [Act.put, List.setIfInBounds_toArray, List.set_cons_zero, List.set_cons_succ, i64_w, i32_w]
    rfl
  refine take_ (i := 7) (N := some 12) (v := ?_) (a' := ?_) #[true, true, true, true, true, true, true, true, false, false, false, false] rfl rfl (take_ofW HT_.out HW_.out (by kernel_rfl)) (fun _ _ _ h => h) (Or.inl ⟨by rfl, ?_⟩) hHeld ?_ ?_
  rotate_left
  · rintro w' ⟨s0, s1⟩
    go_simp
    with_reducible rfl
  rotate_left
  · simp only [Act.put, List.setIfInBounds_toArray, List.set_cons_zero, List.set_cons_succ, i64_w, i32_w]
    rfl
  refine one_ (i := 8) (N := some 13) #[true, true, true, true, true, true, true, true, true, false, false, false] rfl rfl (one_of HT_.out (by kernel_rfl)) (by decide) (fun K hK => ?_)
  refine goes_ Try.func22 (by kernel_rfl) rfl #[.map (some b)] (by rfl) rfl rfl (by (try simp only [List.map_toArray, List.map_cons, List.map_nil]); first | done | rfl) ?_
  refine HK.out.mono ?_
  rintro e w8 ⟨b8, rfl, h8, hb8, hl8⟩
  refine ⟨_, rfl, ?_⟩
  have Y8 := Lib.hid (And.intro h8 (And.intro hb8 ((pw_below_drewN (Below.refl _ w) 1).trans hl8)))
  clear h8 hb8 hl8
  refine hK.out _ _ ⟨(Y8.out.2.2.block t X.out.1.lt.1).trans X.out.2, (X.out.1.below Y8.out.2.2).c33⟩ (fun hHeld => ?_)
  clear hK K
  refine norm_ (a' := ?_) ?_ ?_
  rotate_left
  · show Act.put _ (some 13) _ = _
    simp only [Act.put, List.setIfInBounds_toArray, List.set_cons_zero, List.set_cons_succ, i64_w, i32_w]
    rfl
  refine one_ (i := 9) (N := some 14) #[true, true, true, true, true, true, true, true, true, true, false, false] rfl rfl (one_of HT_.out (by kernel_rfl)) (by decide) (fun K hK => ?_)
  refine value_ (w1 := ?_) (v := ?_) (by rfl) rfl ?_ ?_
  rotate_left 2
  · refine build_run (b := b8) (x := .tmp 8) (y := .tmp 13) (f := f) (n := n) ?_ ?_ ?_
    · rfl
    · rfl
    · rfl
  refine hK.out _ _ ⟨(Y8.out.2.2.block t X.out.1.lt.1).trans X.out.2, (X.out.1.below Y8.out.2.2).c33⟩ (fun hHeld => ?_)
  clear hK K
  refine norm_ (a' := ?_) ?_ ?_
  rotate_left
  · show Act.put _ (some 14) _ = _
    simp only [Act.put, List.setIfInBounds_toArray, List.set_cons_zero, List.set_cons_succ, i64_w, i32_w]
    rfl
  refine one_ (i := 10) (N := some 15) #[true, true, true, true, true, true, true, true, true, true, true, false] rfl rfl (one_of HT_.out (by kernel_rfl)) (by decide) (fun K hK => ?_)
  refine value_ (w1 := ?_) (v := ?_) (by rfl) rfl ?_ ?_
  rotate_left 2
  · go_simp
    constructor
    · rfl
    · rfl
  refine hK.out _ _ ⟨((Y8.out.2.2.trans (((Below.refl w8.heap.size w8).alloc (Nat.le_refl _) (.cells (jl f n ++ [Value.map (some b8)]).toArray 50)).mono Y8.out.2.2.size)).block t X.out.1.lt.1).trans X.out.2, (X.out.1.below (Y8.out.2.2.trans (((Below.refl w8.heap.size w8).alloc (Nat.le_refl _) (.cells (jl f n ++ [Value.map (some b8)]).toArray 50)).mono Y8.out.2.2.size))).c33⟩ (fun hHeld => ?_)
  clear hK K
  refine norm_ (a' := ?_) ?_ ?_
  rotate_left
  · show Act.put _ (some 15) _ = _
    simp only [Act.put, List.setIfInBounds_toArray, List.set_cons_zero, List.set_cons_succ, i64_w, i32_w]
    rfl
  refine pure_ (i := 11) (N := some 2) (v := ?_) (a' := ?_) #[true, true, true, true, true, true, true, true, true, true, true, true] rfl rfl (any_of HT_.out (by kernel_rfl)) (fun _ _ _ h => h) (Or.inl ⟨by rfl, ?_⟩) ?_ ?_
  rotate_left
  · intro w'
    go_simp
    with_reducible rfl
  rotate_left
  · simp only [Act.put, List.setIfInBounds_toArray, List.set_cons_zero, List.set_cons_succ, i64_w, i32_w]
    rfl
  refine done_ (done_of HT_.out (by kernel_rfl)) ?_
  go_wp2_with fail
  go_ret
  obtain ⟨h1, h2, h3⟩ := Y8.out
  have h4 := (Below.refl w8.heap.size w8).alloc (Nat.le_refl _) (.cells (jl f n ++ [Value.map (some b8)]).toArray 50)
  refine ⟨_, b8, rfl, ⟨⟨_, World.alloc_heap_new w8 _, by simp [jl], by simp [jl], by simp [jl], fun j hj => ⟨f j, ?_⟩⟩, h1.same (h4.block b8 h1.lt), h3.size, h2⟩, h3.trans (h4.mono h3.size)⟩
  rw [List.getElem?_toArray]
  unfold jl
  rw [List.append_assoc, List.getElem?_append_left (by simp; exact hj)]
  simp [hj]
end Go.Proofs.Ytpmeefdegcllkaa
