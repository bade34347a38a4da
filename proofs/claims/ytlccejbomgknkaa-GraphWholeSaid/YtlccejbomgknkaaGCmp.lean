/- slices.Compare of two rows of texts of one length: below zero just if the first is less. -/
import Derived.Test.YtlccejbomgknkaaGCyc
import Derived.Sort.Walk0
import Derived.Laws.Cover1
namespace Go.Proofs.Ytlccejbomgknkaa
set_option linter.unusedVariables false
set_option linter.unusedSimpArgs false
open Go.RowKit Go.Maps Go.Proofs.YtlccejbomgknkaaW.PrintWords Go.Proofs.YtlccejbomgknkaaW.PrintLast

theorem less_bs (a b : ByteArray) : Op.bytesLess a.toList b.toList = decide (bs a < bs b) := by
  rw [Go.Proofs.bytesLess_eq, ByteArray.toList_eq, ByteArray.toList_eq]
  rfl

set_option maxRecDepth 100000 in
theorem isNaN_any (w : World) (a : ByteArray) : Calls Try.prog 73 #[.string a] w fun e w' => e = .returned (.bool false) ∧ w' = w := by
  go_enter Try.func73, Try.ntmps73
  go_wp2
  go_ret
  exact ⟨by simp, rfl⟩

def cmpI (a b : ByteArray) : Int := if bs a < bs b then -1 else if bs b < bs a then 1 else 0
set_option maxRecDepth 100000 in
theorem cmp_any (w : World) (a b : ByteArray) : Calls Try.prog 57 #[.string a, .string b] w fun e w' => e = .returned (.int .i64 (cmpI a b)) ∧ w' = w := by
  have H := Lib.hid (isNaN_any w)
  have hab := less_bs a b
  have hba := less_bs b a
  unfold cmpI
  by_cases h1 : bs a < bs b
  · rw [if_pos h1]
    rw [decide_eq_true h1] at hab
    clear h1 hba
    go_enter Try.func57, Try.ntmps57
    go_wp2_with fail
    refine (H.out a).mono ?_
    rintro e w1 ⟨rfl, hw⟩
    obtain rfl : w = w1 := hw.symm
    go_wp2_with fail
    refine (H.out b).mono ?_
    rintro e w1 ⟨rfl, hw⟩
    obtain rfl : w = w1 := hw.symm
    go_wp2_with fail
    go_ret
    exact ⟨rfl, rfl⟩
  · rw [if_neg h1]
    rw [decide_eq_false h1] at hab
    by_cases h2 : bs b < bs a
    · rw [if_pos h2]
      rw [decide_eq_true h2] at hba
      have he : (a.toList == b.toList) = false := by
        rw [ByteArray.toList_eq, ByteArray.toList_eq]
        refine beq_eq_false_iff_ne.2 fun e => ?_
        have e' : bs a = bs b := e
        rw [e'] at h2
        exact List.lt_irrefl _ h2
      clear h1 h2
      go_enter Try.func57, Try.ntmps57
      go_wp2_with fail
      refine (H.out a).mono ?_
      rintro e w1 ⟨rfl, hw⟩
      obtain rfl : w = w1 := hw.symm
      go_wp2_with fail
      refine (H.out b).mono ?_
      rintro e w1 ⟨rfl, hw⟩
      obtain rfl : w = w1 := hw.symm
      go_wp2_with fail
      go_ret
      exact ⟨rfl, rfl⟩
    · rw [if_neg h2]
      rw [decide_eq_false h2] at hba
      have he : (a.toList == b.toList) = true := by
        rw [ByteArray.toList_eq, ByteArray.toList_eq]
        exact beq_iff_eq.2 (List.le_antisymm (List.not_lt.1 h2) (List.not_lt.1 h1))
      clear h1 h2
      go_enter Try.func57, Try.ntmps57
      go_wp2_with fail
      refine (H.out a).mono ?_
      rintro e w1 ⟨rfl, hw⟩
      obtain rfl : w = w1 := hw.symm
      go_wp2_with fail
      refine (H.out b).mono ?_
      rintro e w1 ⟨rfl, hw⟩
      obtain rfl : w = w1 := hw.symm
      go_wp2_with fail
      go_ret
      exact ⟨rfl, rfl⟩

theorem cmpI_zero {a b : ByteArray} : cmpI a b = 0 ↔ a = b := by
  unfold cmpI
  by_cases h1 : bs a < bs b
  · rw [if_pos h1]
    exact ⟨fun h => by omega, fun h => by subst h; exact absurd h1 (List.lt_irrefl _)⟩
  · rw [if_neg h1]
    by_cases h2 : bs b < bs a
    · rw [if_pos h2]
      exact ⟨fun h => by omega, fun h => by subst h; exact absurd h2 (List.lt_irrefl _)⟩
    · rw [if_neg h2]
      exact ⟨fun _ => bs_inj (List.le_antisymm (List.not_lt.1 h2) (List.not_lt.1 h1)), fun _ => rfl⟩
theorem cmpI_neg {a b : ByteArray} : cmpI a b < 0 ↔ bs a < bs b := by
  unfold cmpI
  by_cases h1 : bs a < bs b
  · rw [if_pos h1]
    exact ⟨fun _ => h1, fun _ => by omega⟩
  · rw [if_neg h1]
    by_cases h2 : bs b < bs a
    · rw [if_pos h2]
      exact ⟨fun h => by omega, fun h => absurd h h1⟩
    · rw [if_neg h2]
      exact ⟨fun h => by omega, fun h => absurd h h1⟩

/-- The sign of two rows. -/
def cmpL : List ByteArray → List ByteArray → Int
  | [], [] => 0
  | [], _ :: _ => -1
  | _ :: _, [] => 1
  | x :: a, y :: b => if cmpI x y = 0 then cmpL a b else cmpI x y
theorem cmpL_neg : ∀ {a b : List ByteArray}, cmpL a b < 0 ↔ lexlt a b
  | [], [] => ⟨fun h => by simp [cmpL] at h, fun h => h.elim⟩
  | [], y :: b => ⟨fun _ => trivial, fun _ => by simp [cmpL]⟩
  | x :: a, [] => ⟨fun h => by simp [cmpL] at h, fun h => h.elim⟩
  | x :: a, y :: b => by
    show (if cmpI x y = 0 then cmpL a b else cmpI x y) < 0 ↔ bs x < bs y ∨ (x = y ∧ lexlt a b)
    by_cases h : cmpI x y = 0
    · rw [if_pos h, cmpL_neg]
      have e := cmpI_zero.1 h
      subst e
      exact ⟨fun h => .inr ⟨rfl, h⟩, fun h => h.elim (fun h => absurd h (List.lt_irrefl _)) (fun h => h.2)⟩
    · rw [if_neg h, cmpI_neg]
      exact ⟨fun h => .inl h, fun hh => hh.elim id (fun hh => absurd (cmpI_zero.2 hh.1) h)⟩
theorem cmpL_range : ∀ (a b : List ByteArray), -1 ≤ cmpL a b ∧ cmpL a b ≤ 1
  | [], [] => by simp [cmpL]
  | [], y :: b => by simp [cmpL]
  | x :: a, [] => by simp [cmpL]
  | x :: a, y :: b => by
    show -1 ≤ (if cmpI x y = 0 then cmpL a b else cmpI x y) ∧ (if cmpI x y = 0 then cmpL a b else cmpI x y) ≤ 1
    by_cases h : cmpI x y = 0
    · rw [if_pos h]; exact cmpL_range a b
    · rw [if_neg h]
      unfold cmpI
      split
      · omega
      · split <;> omega
theorem cmpL_drop {a b : List ByteArray} {k : Nat} {x y : ByteArray} (ha : a[k]? = some x) (hb : b[k]? = some y) : cmpL (a.drop k) (b.drop k) = if cmpI x y = 0 then cmpL (a.drop (k + 1)) (b.drop (k + 1)) else cmpI x y := by
  have h1 := (List.getElem?_eq_some_iff.1 ha)
  have h2 := (List.getElem?_eq_some_iff.1 hb)
  rw [List.drop_eq_getElem_cons h1.1, List.drop_eq_getElem_cons h2.1, h1.2, h2.2]
  rfl

set_option maxRecDepth 100000 in
set_option maxHeartbeats 4000000 in
theorem Compare_any {w : World} (A1 A2 : Option Addr) (c1 c2 : Nat) (xs ys : List ByteArray) (h1 : Kd.C Kd.string w A1 xs.length xs) (h2 : Kd.C Kd.string w A2 ys.length ys) (hl : xs.length = ys.length) :
    Calls Try.prog 48 #[.slice A1 xs.length c1, .slice A2 xs.length c2] w fun e w' => e = .returned (.int .i64 (cmpL xs ys)) ∧ w' = w := by
  have hlen := h1.2.1
  rw [← hl] at h2
  have X := Lib.hid (And.intro h1 h2)
  have HL := Lib.hid hl
  have C := Lib.hid (cmp_any w)
  clear h1 h2 hl
  go_enter Try.func48, Try.ntmps48
  go_wp2_with fail
  go_loopg [11] (xs.length + 1) (fun q v wr => wr = w ∧ ∃ k : Nat, v = .int .i64 k ∧ k ≤ xs.length ∧ q + k = xs.length + 1 ∧ Hid (cmpL xs ys = cmpL (xs.drop k) (ys.drop k)))
  case atStart => exact ⟨rfl, 0, rfl, by omega, by omega, rfl⟩
  case round =>
    obtain ⟨rfl, k, rfl, hk, hq, HR⟩ := hrel
    by_cases hlt : k < xs.length
    · obtain ⟨a1, hA1, hc1⟩ := Kd.at_string X.out.1 (k : Int) (by omega) (by omega)
      have hy : Kd.C Kd.string wr A2 ys.length ys := by have := X.out.2; rw [HL.out] at this; exact this
      obtain ⟨a2, hA2, hc2⟩ := Kd.at_string hy (k : Int) (by omega) (by have := HL.out; omega)
      subst hA1
      subst hA2
      have hx1 := has_at hlt
      have hx2 := has_at (show k < ys.length by have := HL.out; omega)
      obtain ⟨x, hx⟩ : ∃ nm, nm = rdOf ByteArray.empty xs (k : Int) := ⟨_, rfl⟩
      obtain ⟨y, hyy⟩ : ∃ nm, nm = rdOf ByteArray.empty ys (k : Int) := ⟨_, rfl⟩
      rw [← hx] at hc1 hx1
      rw [← hyy] at hc2 hx2
      simp only [Int.toNat_natCast] at hc1 hc2
      have HD : Hid (cmpL xs ys = if cmpI x y = 0 then cmpL (xs.drop (k + 1)) (ys.drop (k + 1)) else cmpI x y) := HR.out.trans (cmpL_drop hx1 hx2)
      clear hx hyy hx1 hx2 hy
      go_wp2_with fail
      refine (C.out x y).mono ?_
      rintro e w1 ⟨rfl, hw⟩
      obtain rfl : wr = w1 := hw.symm
      by_cases hz : cmpI x y = 0
      · have HD2 : Hid (cmpL xs ys = cmpL (xs.drop (k + 1)) (ys.drop (k + 1))) := by
          have := HD.out
          rw [if_pos hz] at this; exact this
        go_wp2_with fail
        go_roundg (xs.length - k)
        case measure => omega
        case rel => exact ⟨rfl, k + 1, by go_num, by omega, by omega, HD2⟩
      · have HD2 : Hid (cmpL xs ys = cmpI x y) := by
          have := HD.out
          rw [if_neg hz] at this; exact this
        have hzb : (cmpI x y == 0) = false := beq_eq_false_iff_ne.2 hz
        go_wp2_with fail
        go_ret
        exact ⟨by rw [HD2.out]; rfl, rfl⟩
    · have hk' : k = xs.length := by omega
      subst hk'
      have HD : Hid (cmpL xs ys = 0) := by
        have := HR.out
        rw [List.drop_length, HL.out, List.drop_length] at this
        exact this
      go_wp2_with fail
      go_ret
      exact ⟨by rw [HD.out]; rfl, rfl⟩
end Go.Proofs.Ytlccejbomgknkaa
