/- path.Is: its contract: some function of the text, nothing turned. -/
import Derived.Test.YtpmeefdegcllkaaPathSeg
import Derived.Test.YtpmeefdegcllkaaShelf
import Derived.Test.YtpmeefdegcllkaaTRise
import Derived.Deep.QuietTactic
import Derived.BigQuiet
namespace Go.Proofs.Ytpmeefdegcllkaa
set_option linter.unusedVariables false
set_option linter.unusedSimpArgs false
open Go.RowKit Go.Maps Go.Proofs.YtpmeefdegcllkaaW.PrintWords Go.Proofs.YtpmeefdegcllkaaW.PrintLast
open PTreeLists

theorem may_some (c : Int) : ∃ k b, ∀ j, k ≤ j → path_may.f j c = some b := by
  have h1 : ∀ b, ∃ r, ∀ j, 1 ≤ j → path_may.j1 j c b = some r := by
    intro b
    cases b with
    | true =>
      refine ⟨true, fun j hj => ?_⟩
      obtain ⟨j, rfl⟩ : ∃ m, j = m + 1 := ⟨j - 1, by omega⟩
      simp [path_may.j1]
    | false =>
      by_cases c1 : c = 95
      · refine ⟨true, fun j hj => ?_⟩
        obtain ⟨j, rfl⟩ : ∃ m, j = m + 1 := ⟨j - 1, by omega⟩
        simp [path_may.j1, c1]
      · by_cases c2 : c = 46
        · refine ⟨true, fun j hj => ?_⟩
          obtain ⟨j, rfl⟩ : ∃ m, j = m + 1 := ⟨j - 1, by omega⟩
          simp [path_may.j1, c2]
        · by_cases c3 : c = 45
          · refine ⟨true, fun j hj => ?_⟩
            obtain ⟨j, rfl⟩ : ∃ m, j = m + 1 := ⟨j - 1, by omega⟩
            simp [path_may.j1, c3]
          · refine ⟨false, fun j hj => ?_⟩
            obtain ⟨j, rfl⟩ : ∃ m, j = m + 1 := ⟨j - 1, by omega⟩
            simp [path_may.j1, c1, c2, c3]
  have h0 : ∀ b, ∃ r, ∀ j, 2 ≤ j → path_may.j0 j c b = some r := by
    intro b
    cases b with
    | true =>
      refine ⟨true, fun j hj => ?_⟩
      obtain ⟨j, rfl⟩ : ∃ m, j = m + 1 := ⟨j - 1, by omega⟩
      simp [path_may.j0]
    | false =>
      by_cases c1 : c ≥ 48
      · obtain ⟨r, hr⟩ := h1 (decide (c ≤ 57))
        refine ⟨r, fun j hj => ?_⟩
        obtain ⟨j, rfl⟩ : ∃ m, j = m + 1 := ⟨j - 1, by omega⟩
        simp only [path_may.j0]
        rw [if_neg (by simp), if_pos c1]
        exact hr j (by omega)
      · obtain ⟨r, hr⟩ := h1 false
        refine ⟨r, fun j hj => ?_⟩
        obtain ⟨j, rfl⟩ : ∃ m, j = m + 1 := ⟨j - 1, by omega⟩
        simp only [path_may.j0]
        rw [if_neg (by simp), if_neg c1]
        exact hr j (by omega)
  by_cases c1 : c ≥ 97
  · obtain ⟨r, hr⟩ := h0 (decide (c ≤ 122))
    refine ⟨2, r, fun j hj => ?_⟩
    unfold path_may.f
    rw [if_pos c1]
    exact hr j hj
  · obtain ⟨r, hr⟩ := h0 false
    refine ⟨2, r, fun j hj => ?_⟩
    unfold path_may.f
    rw [if_neg c1]
    exact hr j hj
theorem seg_l0 (s : ByteArray) (hs : s.size ≤ 1000) : ∀ (m i : Nat), i ≤ s.size → s.size ≤ m + i → ∃ k b, ∀ j, k ≤ j → path_segment.l0 j s (s.size : Int) (i : Int) = some b := by
  have hend : ∀ i : Nat, s.size ≤ i → ∃ k b, ∀ j, k ≤ j → path_segment.l0 j s (s.size : Int) (i : Int) = some b := by
    intro i hi
    refine ⟨1, true, fun j hj => ?_⟩
    obtain ⟨j, rfl⟩ : ∃ m, j = m + 1 := ⟨j - 1, by omega⟩
    simp only [path_segment.l0]
    rw [if_neg (by omega)]
  intro m
  induction m with
  | zero => intro i h1 h2; exact hend i (by omega)
  | succ m ih =>
    intro i h1 h2
    by_cases hil : i < s.size
    · obtain ⟨kb, b, hb⟩ := may_some (bt s (i : Int))
      cases b with
      | false =>
        refine ⟨kb + 1, false, fun j hj => ?_⟩
        obtain ⟨j, rfl⟩ : ∃ m, j = m + 1 := ⟨j - 1, by omega⟩
        simp only [path_segment.l0]
        rw [if_pos (by omega), if_pos (by omega), if_pos (by omega), hb j (by omega)]
        rfl
      | true =>
        obtain ⟨kr, r, hr⟩ := ih (i + 1) (by omega) (by omega)
        refine ⟨kb + kr + 1, r, fun j hj => ?_⟩
        obtain ⟨j, rfl⟩ : ∃ m, j = m + 1 := ⟨j - 1, by omega⟩
        simp only [path_segment.l0]
        rw [if_pos (by omega), if_pos (by omega), if_pos (by omega), hb j (by omega)]
        simp only [Option.bind_some, if_true]
        rw [show wrap64 ((i : Int) + 1) = ((i + 1 : Nat) : Int) from by unfold wrap64; omega]
        exact hr j (by omega)
    · exact hend i (by omega)
theorem seg_some (s : ByteArray) (hs : s.size ≤ 1000) : ∃ b k, path_segment.f k s = some b := by
  have h0 : ∀ x, ∃ b k, path_segment.j0 k s x = some b := by
    intro x
    cases x with
    | true => exact ⟨false, 1, by simp [path_segment.j0]⟩
    | false =>
      obtain ⟨k, b, hb⟩ := seg_l0 s hs s.size 0 (by omega) (by omega)
      refine ⟨b, k + 1, ?_⟩
      simp only [path_segment.j0]
      rw [if_neg (by simp)]
      exact hb k (Nat.le_refl _)
  obtain ⟨b1, k1, h1⟩ := h0 true
  obtain ⟨b2, k2, h2⟩ := h0 (s.toList == ([46, 46] : List UInt8))
  by_cases c1 : s.toList = ([] : List UInt8)
  · exact ⟨b1, k1, by unfold path_segment.f; rw [if_pos c1]; exact h1⟩
  · by_cases c2 : (s.size : Int) > 32
    · exact ⟨b1, k1, by unfold path_segment.f; rw [if_neg c1, if_pos c2]; exact h1⟩
    · by_cases c3 : s.toList = ([46] : List UInt8)
      · exact ⟨b1, k1, by unfold path_segment.f; rw [if_neg c1, if_neg c2, if_pos c3]; exact h1⟩
      · exact ⟨b2, k2, by unfold path_segment.f; rw [if_neg c1, if_neg c2, if_neg c3]; exact h2⟩
open Classical in
/-- Is a text a segment? -/
noncomputable def segB (s : ByteArray) : Bool := if h : ∃ b k, path_segment.f k s = some b then Classical.choose h else false
theorem segB_spec (s : ByteArray) (hs : s.size ≤ 1000) : ∃ k, path_segment.f k s = some (segB s) := by
  have h := seg_some s hs
  unfold segB
  rw [dif_pos h]
  exact Classical.choose_spec h
theorem seg_any (s : ByteArray) (hs : s.size ≤ 1000) (w : World) : Calls Try.prog 24 #[.string s] w fun e w' => e = .returned (.bool (segB s)) ∧ ∃ q, w' = w.drewN q := by
  obtain ⟨k, hk⟩ := segB_spec s hs
  refine (path_segment.calls k s (segB s) w hk).mono ?_
  rintro e w' ⟨rfl, q, rfl⟩
  exact ⟨rfl, q, rfl⟩

/-! ### Cut at a slash -/
def slash : ByteArray := ⟨#[47]⟩
def cutI (s : ByteArray) : Int := Lib.indexByte s.data.toList 47
def cutM (s : ByteArray) : Bool := decide (0 ≤ cutI s)
def cutA (s : ByteArray) : ByteArray := if 0 ≤ cutI s then s.extract 0 (cutI s).toNat else s
def cutB (s : ByteArray) : ByteArray := if 0 ≤ cutI s then s.extract ((cutI s).toNat + 1) s.size else ⟨#[]⟩
theorem cutI_lt {s : ByteArray} (h : 0 ≤ cutI s) : (cutI s).toNat < s.size := by
  obtain ⟨h1, _⟩ := Lib.indexByte_some (l := s.data.toList) (c := 47) (o := (cutI s).toNat) (by unfold cutI at h ⊢; omega)
  have := (List.getElem?_eq_some_iff.1 h1).1
  simpa using this
theorem cutA_size (s : ByteArray) : (cutA s).size ≤ s.size := by
  unfold cutA
  by_cases h : 0 ≤ cutI s
  · rw [if_pos h, ByteArray.size_extract]
    omega
  · rw [if_neg h]
    exact Nat.le_refl _
theorem cutB_size {s : ByteArray} (h : cutM s = true) : (cutB s).size < s.size := by
  unfold cutM at h
  have h := of_decide_eq_true h
  have hl := cutI_lt h
  unfold cutB
  rw [if_pos h, ByteArray.size_extract]
  omega
set_option maxRecDepth 100000 in
set_option maxHeartbeats 2000000 in
theorem cut30 (s : ByteArray) (hs : s.size ≤ 1000) (w : World) : Calls Try.prog 30 #[.string s, .string slash] w fun e w' => e = .returned (.tuple #[.string (cutA s), .string (cutB s), .bool (cutM s)]) ∧ ∃ q, w' = w.drewN q := by
  have H1 : Hid (Calls Try.prog 43 #[.string s, .string slash] w fun e w' => e = .returned (.int .i64 (cutI s)) ∧ w' = w) := Try.stringslite_Index_one s 47 w
  by_cases h : 0 ≤ cutI s
  · obtain ⟨n, hn⟩ : ∃ n : Nat, cutI s = n := ⟨(cutI s).toNat, by omega⟩
    have hlt : n < s.size := by have := cutI_lt h; omega
    have F : Hid (cutA s = s.extract 0 n ∧ cutB s = s.extract (n + 1) s.size ∧ cutM s = true) := by
      refine ⟨?_, ?_, decide_eq_true h⟩
      · unfold cutA; rw [if_pos h, hn]; rfl
      · unfold cutB; rw [if_pos h, hn]; rfl
    rw [hn] at H1
    clear h hn
    have hn0 : (0 : Int) ≤ (n : Int) := by omega
    have hnl : (n : Int) ≤ (s.size : Int) := by omega
    have hnl1 : (n : Int) + 1 ≤ (s.size : Int) := by omega
    have hnd : decide ((0 : Int) ≤ (n : Int)) = true := decide_eq_true hn0
    have hss : slash.size = 1 := rfl
    go_enter Try.func30, Try.ntmps30
    go_wp2_with fail
    refine H1.out.mono ?_
    rintro e w1 ⟨rfl, hw⟩
    obtain rfl : w = w1 := hw.symm
    clear H1
    go_wp2_with fail
    go_region
    all_goals
      go_wp2_with fail
      go_ret3
      exact ⟨by rw [F.out.1, F.out.2.1, F.out.2.2]; rfl, 1, rfl⟩
  · have F : Hid (cutA s = s ∧ cutB s = ⟨#[]⟩ ∧ cutM s = false) := by
      refine ⟨?_, ?_, decide_eq_false h⟩
      · unfold cutA; rw [if_neg h]
      · unfold cutB; rw [if_neg h]
    obtain ⟨i, hi⟩ : ∃ i, i = cutI s := ⟨_, rfl⟩
    rw [← hi] at H1 h
    have hid : decide ((0 : Int) ≤ i) = false := decide_eq_false h
    clear hi
    go_enter Try.func30, Try.ntmps30
    go_wp2_with fail
    refine H1.out.mono ?_
    rintro e w1 ⟨rfl, hw⟩
    obtain rfl : w = w1 := hw.symm
    clear H1
    go_wp2_with fail
    go_ret3
    exact ⟨by rw [F.out.1, F.out.2.1, F.out.2.2]; rfl, 0, rfl⟩
set_option maxRecDepth 100000 in
set_option maxHeartbeats 2000000 in
theorem cut_any (s : ByteArray) (hs : s.size ≤ 1000) (w : World) : Calls Try.prog 23 #[.string s, .string slash] w fun e w' => e = .returned (.tuple #[.string (cutA s), .string (cutB s), .bool (cutM s)]) ∧ ∃ q, w' = w.drewN q := by
  have H1 := Lib.hid (cut30 s hs w)
  go_enter Try.func23, Try.ntmps23
  go_wp2_with fail
  refine H1.out.mono ?_
  rintro e w1 ⟨rfl, q, rfl⟩
  go_wp2_with fail
  go_ret3
  exact ⟨rfl, q, rfl⟩

/-! ### Is -/
noncomputable def isF : Nat → ByteArray → Bool
  | 0, _ => false
  | n + 1, s => if segB (cutA s) = true then (if cutM s = true then isF n (cutB s) else true) else false
/-- Is a text a path? -/
noncomputable def isP (s : ByteArray) : Bool := if s.size ≤ 60 then isF 61 s else false
set_option maxRecDepth 100000 in
set_option maxHeartbeats 4000000 in
theorem is_any (s : ByteArray) (w : World) : Calls Try.prog 16 #[.string s] w fun e w' => e = .returned (.bool (isP s)) ∧ ∃ q, w' = w.drewN q := by
  by_cases hs : s.size ≤ 60
  · have F : Hid (isP s = isF 61 s) := by show isP s = isF 61 s; unfold isP; rw [if_pos hs]
    have hsd : decide ((60 : Int) < (s.size : Int)) = false := decide_eq_false (by omega)
    have hsn : ¬ ((60 : Int) < (s.size : Int)) := by omega
    go_enter Try.func16, Try.ntmps16
    go_wp2_with fail
    go_loopg [0, 3, 4, 5] 61 (fun q v0 v3 v4 v5 wr => ∃ (x : ByteArray) (n : Nat), v0 = .string x ∧ x.size < q ∧ q ≤ 61 ∧ wr = w.drewN n ∧ Hid (isF q x = isF 61 s))
    case atStart => exact ⟨s, 0, rfl, by omega, by omega, rfl, rfl⟩
    case round =>
      obtain ⟨x, n, rfl, hx, hq, rfl, HX⟩ := hrel
      obtain ⟨q0, hq0⟩ : ∃ q0, gk = q0 + 1 := ⟨gk - 1, by omega⟩
      have HC : Hid (Calls Try.prog 23 #[.string x, .string ⟨#[47]⟩] (w.drewN n) fun e w' => e = .returned (.tuple #[.string (cutA x), .string (cutB x), .bool (cutM x)]) ∧ ∃ q, w' = (w.drewN n).drewN q) := cut_any x (by omega) _
      have hA := cutA_size x
      obtain ⟨xa, hxa⟩ : ∃ xa, xa = cutA x := ⟨_, rfl⟩
      obtain ⟨xb, hxb⟩ : ∃ xb, xb = cutB x := ⟨_, rfl⟩
      obtain ⟨xm, hxm⟩ : ∃ xm, xm = cutM x := ⟨_, rfl⟩
      obtain ⟨sb, hsb⟩ : ∃ sb, sb = segB xa := ⟨_, rfl⟩
      rw [← hxa] at hA
      rw [← hxa, ← hxb, ← hxm] at HC
      have HB : Hid ((xm = true → xb.size < x.size) ∧ isF 61 s = if sb = true then (if xm = true then isF q0 xb else true) else false) := by
        refine ⟨fun h => ?_, ?_⟩
        · rw [hxb]; rw [hxm] at h; exact cutB_size h
        · rw [← HX.out, hq0, hsb, hxm, hxa, hxb]; rfl
      have HS : ∀ k, Hid (Calls Try.prog 24 #[.string xa] (w.drewN k) fun e w' => e = .returned (.bool sb) ∧ ∃ q, w' = (w.drewN k).drewN q) := fun k => by
        rw [hsb]; exact seg_any xa (by omega) _
      have HS2 := Lib.hid HS
      clear hxa hxb hxm hsb HS HX
      go_wp2_with fail
      refine HC.out.mono ?_
      rintro e w1 ⟨rfl, q1, rfl⟩
      clear HC
      rw [World.drewN_drewN]
      go_wp2_with fail
      refine (HS2.out _).out.mono ?_
      rintro e w1 ⟨rfl, q2, rfl⟩
      rw [World.drewN_drewN]
      cases sb with
      | false =>
        go_wp2_with fail
        go_ret
        exact ⟨by rw [F.out, HB.out.2]; rfl, _, rfl⟩
      | true =>
        cases xm with
        | false =>
          go_wp2_with fail
          go_ret
          exact ⟨by rw [F.out, HB.out.2]; rfl, _, rfl⟩
        | true =>
          have hlt := HB.out.1 rfl
          have HE : Hid (isF q0 xb = isF 61 s) := by rw [HB.out.2]; rfl
          clear HB
          go_wp2_with fail
          go_roundg q0
          case measure => omega
          case rel => exact ⟨xb, _, rfl, by omega, by omega, rfl, HE⟩
  · have F : Hid (isP s = false) := by show isP s = false; unfold isP; rw [if_neg hs]
    have hsd : decide ((60 : Int) < (s.size : Int)) = true := decide_eq_true (by omega)
    have hsn : ((60 : Int) < (s.size : Int)) := by omega
    go_enter Try.func16, Try.ntmps16
    go_wp2_with fail
    go_ret
    exact ⟨by rw [F.out]; rfl, 0, rfl⟩
end Go.Proofs.Ytpmeefdegcllkaa
