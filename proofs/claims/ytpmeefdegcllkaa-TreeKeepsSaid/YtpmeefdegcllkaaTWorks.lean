/- works: the statement's own little tree answers. -/
import Derived.Test.YtpmeefdegcllkaaTListed
namespace Go.Proofs.Ytpmeefdegcllkaa
set_option linter.unusedVariables false
set_option linter.unusedSimpArgs false
open Go.RowKit Go.Shelf Go.Maps Go.Proofs.YtpmeefdegcllkaaW.PrintWords Go.Proofs.YtpmeefdegcllkaaW.PrintLast
open PTreeLists

def ta : ByteArray := ⟨#[97]⟩
def tx : ByteArray := ⟨#[120]⟩
theorem seg_ta (k : Nat) (b : Bool) (h : path_segment.f k ta = some b) : b = true := by
  match k, h with
  | 0, h => have e : path_segment.f 0 ta = none := by kernel_rfl
            rw [e] at h; cases h
  | 1, h => have e : path_segment.f 1 ta = none := by kernel_rfl
            rw [e] at h; cases h
  | 2, h => have e : path_segment.f 2 ta = none := by kernel_rfl
            rw [e] at h; cases h
  | k + 3, h => have e : path_segment.f (k + 3) ta = some true := by kernel_rfl
                rw [e] at h; injection h with h; exact h.symm
theorem isP_ta : isP ta = true := by
  have hi : cutI ta = -1 := by kernel_rfl
  have hA : cutA ta = ta := by unfold cutA; rw [hi]; rfl
  have hM : cutM ta = false := by unfold cutM; rw [hi]; rfl
  obtain ⟨k, hk⟩ := segB_spec ta (by decide)
  have hs := seg_ta k _ hk
  unfold isP
  rw [if_pos (by decide)]
  unfold isF
  rw [hA, if_pos hs, if_neg (by rw [hM]; simp)]
theorem eqnilp (t : Nat) (w : World) : (binOp .eql 25 (.pointer (some ⟨t, 0, none⟩)) (.pointer none)).run Try.prog w = .ok (.bool false) w := by kernel_rfl
set_option maxRecDepth 100000 in
set_option maxHeartbeats 2000000 in
theorem works_any (w : World) : Calls Try.prog 5 #[] w fun e w' => e = .returned (.bool true) ∧ Below w.heap.size w w' := by
  have HN := Lib.hid (new_any w)
  go_enter Try.func5, Try.ntmps5
  go_wp2_with fail
  refine HN.out.mono ?_
  rintro e w1 ⟨t, b, rfl, hT, hb1⟩
  have HW : Hid (Calls Try.prog 8 #[.pointer (some ⟨t, 0, none⟩), .string ta, .string tx] w1 fun e w' => e = .returned (.int .i64 0) ∧ TreeAt w' w.heap.size t b 1 [(ta, tx)] ∧ Below w.heap.size w w') := by
    refine (write_any hT (by omega) (by simp) ta tx).mono ?_
    rintro e w2 ⟨c, n', F', rfl, hw, hT2, hm⟩
    have hb2 := hb1.trans (hm.below hb1.size hT.bt hT.bb)
    cases hw with
    | arg h => rw [isP_ta] at h; cases h
    | long h hl => exact absurd hl (by decide)
    | same h hl hg => cases hg
    | full h hl hg hf => cases hf
    | new h hl hg hf => exact ⟨rfl, hT2, hb2⟩
    | other u h hl hg hu => cases hg
  clear hT hb1 HN
  have e1 := eqnilp t w1
  go_wp2_with fail
  refine HW.out.mono ?_
  rintro e w2 ⟨rfl, hT, hb2⟩
  have HL : Hid (Calls Try.prog 10 #[.pointer (some ⟨t, 0, none⟩), .string ⟨#[]⟩] w2 fun e w' => ∃ Bs, e = .returned (.func (.func 28) #[] #[.pointer (some ⟨Bs, 0, none⟩)]) ∧ TreeAt w' w.heap.size t b 1 [(ta, tx)] ∧ Below w.heap.size w w') := by
    refine (list_any hT (by simp) ⟨#[]⟩).mono ?_
    rintro e w3 ⟨Bs, r, rfl, _, _, _, hb3⟩
    exact ⟨Bs, rfl, hT.below hb3, hb2.trans (hb3.mono hb2.size)⟩
  clear hT hb2 HW
  go_wp2_with fail
  refine HL.out.mono ?_
  rintro e w3 ⟨Bs, rfl, hT, hb3⟩
  have e3 := eqnil #[.pointer (some ⟨Bs, 0, none⟩)] w3
  have HR : Hid (Calls Try.prog 17 #[.pointer (some ⟨t, 0, none⟩), .string ta] w3 fun e w' => e = .returned (.tuple #[.string tx, .int .i64 0]) ∧ TreeAt w' w.heap.size t b 1 [(ta, tx)] ∧ Below w.heap.size w w') := by
    refine (read_any hT ta).mono ?_
    rintro e w4 ⟨rfl, q, rfl⟩
    have hr : rdF [(ta, tx)] ta = (tx, 0) := by unfold rdF; rw [if_pos isP_ta]; rfl
    refine ⟨by rw [hr], hT.below (pw_below_drewN (Below.refl _ _) q), pw_below_drewN hb3 q⟩
  clear hT hb3 HL
  go_wp2_with fail
  refine HR.out.mono ?_
  rintro e w4 ⟨rfl, hT, hb4⟩
  have HM : Hid (Calls Try.prog 15 #[.pointer (some ⟨t, 0, none⟩)] w4 fun e w' => e = .returned (.int .i64 1) ∧ w' = w4) := mark_any hT
  have Z := Lib.hid hb4
  clear hT hb4 HR
  have htx : (tx.toList == [120]) = true := by rw [ByteArray.toList_eq]; rfl
  go_wp2_with fail

  refine HM.out.mono ?_
  rintro e w5 ⟨rfl, rfl⟩
  go_wp2_with fail
  go_ret
  exact ⟨rfl, Z.out⟩
end Go.Proofs.Ytpmeefdegcllkaa
