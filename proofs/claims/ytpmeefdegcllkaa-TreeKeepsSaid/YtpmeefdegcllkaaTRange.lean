/- slices.Values at texts: what its closure hands on, whatever the loop's body does that keeps the slice. -/
import Derived.Test.YtpmeefdegcllkaaTTreeB
import Derived.RangeFuncNested
import Derived.RangeFuncBound
import Derived.RangeFuncCalls
import Derived.RangeFuncLeaves
import Derived.Shelf.Abstract
import Derived.Shelf.RegionOpen
import Derived.WalkKit
import Derived.OwnWalkIn
import Derived.TacticsInMore
import Derived.LoopNIn
import Derived.LoopIn
namespace Go.Proofs.Ytpmeefdegcllkaa
set_option linter.unusedVariables false
set_option linter.unusedSimpArgs false
open Go.RowKit Go.Shelf Go.Maps Go.Proofs.YtpmeefdegcllkaaW.PrintWords Go.Proofs.YtpmeefdegcllkaaW.PrintLast
attribute [local go_sem] Oper.semAt_some

/-- What a round keeps: all below n₀ but the tree's two blocks. -/
def Kp (n₀ t b : Nat) (W W' : World) : Prop := ∀ k, k < n₀ → k ≠ t → k ≠ b → W'.heap[k]? = W.heap[k]?
theorem Kp.refl {n₀ t b : Nat} (W : World) : Kp n₀ t b W W := fun _ _ _ _ => rfl
theorem Kp.trans {n₀ t b : Nat} {X Y Z : World} (h : Kp n₀ t b X Y) (k : Kp n₀ t b Y Z) : Kp n₀ t b X Z := fun i h1 h2 h3 => (k i h1 h2 h3).trans (h i h1 h2 h3)
theorem Kp.cell {n₀ t b : Nat} {W W' : World} (h : Kp n₀ t b W W') {p : Addr} (h1 : p.block < n₀) (h2 : p.block ≠ t) (h3 : p.block ≠ b) : W'.cell? p = W.cell? p :=
  World.cell?_of_block (h p.block h1 h2 h3)
def upto {α : Type} (f : Nat → α) (k : Nat) : List α := (List.range k).map f
theorem upto_succ {α : Type} (f : Nat → α) (k : Nat) : upto f (k + 1) = upto f k ++ [f k] := by simp [upto, List.range_succ]
theorem upto_length {α : Type} (f : Nat → α) (k : Nat) : (upto f k).length = k := by simp [upto]
theorem upto_all (zs : List ByteArray) : upto (fun j => zs[j]?.getD ByteArray.empty) zs.length = zs := by
  apply List.ext_getElem
  · simp [upto]
  · intro i h1 h2
    simp [upto, h2]
theorem upto_take (zs : List ByteArray) {k : Nat} (hk : k ≤ zs.length) : upto (fun j => zs[j]?.getD ByteArray.empty) k = zs.take k := by
  apply List.ext_getElem
  · simp [upto, hk]
  · intro i h1 h2
    have : i < zs.length := by simp [upto] at h1; omega
    simp [upto, this]

set_option maxRecDepth 100000 in
set_option maxHeartbeats 2000000 in
theorem values1_in (F : Fence) (n : Nat) (h7 : F.fn 28) (hro : F.round = none) (hn : 1 ≤ n) (l Bs n₀ t b g off len cap : Nat) (zs : List ByteArray) (hreach : len ≤ 1000000) (hb : g < n₀) (hb2 : g ≠ t) (hb3 : g ≠ b) (J Jx : List ByteArray → World → Prop)
    (hY : ∀ pre x W, J pre W → pre.length < len → YieldAt F (n - 1) Try.prog l #[.string x] W fun e W' =>
      (e = .returned (.bool true) ∧ J (pre ++ [x]) W' ∧ Kp n₀ t b W W') ∨ (e = .returned (.bool false) ∧ Jx (pre ++ [x]) W'))
    (W : World) (hBs : W.cell? ⟨Bs, 0, none⟩ = some (.slice (some ⟨g, off, none⟩) len cap)) (hc : ∀ j, j < len → W.cell? ⟨g, off + j, none⟩ = some (.string (zs[j]?.getD ByteArray.empty))) (h0 : J [] W) :
    CallsIn F n Try.prog 28 #[.func (.yield l) #[] #[], .pointer (some ⟨Bs, 0, none⟩)] W fun e W' => (∃ v, e = .returned v) ∧
      ((∃ ys, ys = upto (fun j => zs[j]?.getD ByteArray.empty) len ∧ J ys W') ∨ (∃ pre, (∃ k, k ≤ len ∧ pre = upto (fun j => zs[j]?.getD ByteArray.empty) k) ∧ Jx pre W')) := by
  refine callsIn_of_wp Try.func28 rfl h7 ?_ hro
  simp only [Try.ntmps28, List.size_toArray, List.length_cons, List.length_nil, Nat.reduceAdd, Nat.reduceSub, Array.replicate_succ, Array.replicate_zero, List.push_toArray, List.append_toArray, List.nil_append, List.cons_append]
  gi_wp2
  gi_loopw [7] (fun i wr => ∃ k : Nat, k ≤ len ∧ i = .int .i64 k ∧ J (upto (fun j => zs[j]?.getD ByteArray.empty) k) wr ∧ Kp n₀ t b W wr)
    (fun i _ => len - (intOf i).toNat)
  case atStart => exact ⟨0, Nat.zero_le _, rfl, h0, Kp.refl _⟩
  case round =>
    obtain ⟨k, hk, rfl, hJs, hnx⟩ := hrel
    have hcx : k < len → wr.cell? ⟨g, off + k, none⟩ = some (.string (zs[k]?.getD ByteArray.empty)) := fun h => (hnx.cell (p := ⟨g, off + k, none⟩) hb hb2 hb3).trans (hc k h)
    by_cases hlt : k < len
    · obtain ⟨fn, tmps, assign, body, hy, hR⟩ := hY _ (zs[k]?.getD ByteArray.empty) wr hJs (by rw [upto_length]; exact hlt)
      have hcx' := hcx hlt
      gi_wp2
      refine hR.mono ?_
      rintro e W3 (⟨rfl, hJ3, hk3⟩ | ⟨rfl, hJx3⟩)
      · gi_wp2
        go_roundw
        case rel => exact ⟨k + 1, by omega, by simp, by rw [upto_succ]; exact hJ3, hnx.trans hk3⟩
        case measure => simp [intOf]; omega
      · gi_wp2
        refine bodyPost_ret (results_none rfl _ _ _) rfl ?_
        exact ⟨⟨_, rfl⟩, .inr ⟨_, ⟨k + 1, by omega, (upto_succ _ _).symm⟩, hJx3⟩⟩
    · obtain rfl : k = len := by omega
      gi_wp2
      go_end0
      exact ⟨⟨_, rfl⟩, .inl ⟨_, rfl, hJs⟩⟩

set_option maxRecDepth 100000 in
set_option maxHeartbeats 1000000 in
theorem values1_nil_in (F : Fence) (n : Nat) (h7 : F.fn 28) (hro : F.round = none) (l Bs : Nat) (J : List ByteArray → World → Prop) (W : World) (hBs : W.cell? ⟨Bs, 0, none⟩ = some (.slice none 0 0)) (h0 : J [] W) :
    CallsIn F n Try.prog 28 #[.func (.yield l) #[] #[], .pointer (some ⟨Bs, 0, none⟩)] W fun e W' => (∃ v, e = .returned v) ∧ J [] W' := by
  refine callsIn_of_wp Try.func28 rfl h7 ?_ hro
  simp only [Try.ntmps28, List.size_toArray, List.length_cons, List.length_nil, Nat.reduceAdd, Nat.reduceSub, Array.replicate_succ, Array.replicate_zero, List.push_toArray, List.append_toArray, List.nil_append, List.cons_append]
  gi_wp2
  gi_loopw [7] (fun i wr => i = .int .i64 0 ∧ J [] wr) (fun _ _ => 0)
  case atStart => exact ⟨rfl, h0⟩
  case round =>
    obtain ⟨rfl, hJs⟩ := hrel
    gi_wp2
    go_end0
    exact ⟨⟨_, rfl⟩, hJs⟩

/-- An iterator over texts, ranged over. -/
theorem values_stops (F : Fence) (n : Nat) (h7 : F.fn 28) (hro : F.round = none) (hn : 1 ≤ n) {B Bs n₀ t b : Nat} {zs : List ByteArray} (hl : zs.length ≤ 1000000) {w : World} (h : SeqAt w B Bs zs) (ht : t < B) (hb : b < B) (hlow : ∀ a l c, w.cell? ⟨Bs, 0, none⟩ = some (.slice (some a) l c) → a.block < n₀) :
    SeqStopsK F n Try.prog 28 #[.pointer (some ⟨Bs, 0, none⟩)] (fun x : ByteArray => #[Value.string x]) (Kp n₀ t b) (fun ys => ys = zs) (fun pre => pre <+: zs) zs.length w := fun l J Jx W hW _ _ hY h0 => by
  obtain ⟨⟨A, c, h1, h2⟩, h3⟩ := h.below hW
  have hc' : W.cell? ⟨Bs, 0, none⟩ = some (.slice A zs.length c) := by simp [World.cell?, h1]
  cases A with
  | none =>
    have e : zs = [] ∧ c = 0 := by
      rcases h2.2 with ⟨e, e2⟩ | ⟨g, cap, cur, e, _⟩
      · injection e with _ _ e3
        exact ⟨List.eq_nil_of_length_eq_zero e2, e3⟩
      · cases e
    obtain ⟨rfl, rfl⟩ := e
    exact (values1_nil_in F n h7 hro l Bs J W hc' h0).mono fun e W' ⟨he, hj⟩ => ⟨he, .inl ⟨_, rfl, hj⟩⟩
  | some ap =>
    have hlt := OwnS.lt h2 (k := ap.block) rfl
    have hlt0 : ap.block < n₀ := by
      refine hlow ap zs.length c ?_
      obtain ⟨⟨A0, c0, g1, g2⟩, _⟩ := h
      rw [← World.cell?_of_block (a := ⟨Bs, 0, none⟩) (hW.block _ (Array.getElem?_eq_some_iff.1 g1).1)]
      exact hc'
    rcases h2.2 with ⟨e, _⟩ | ⟨g, cap, cur, e, hge, hg, hle, hm, hsz, htk⟩
    · cases e
    · injection e with e1 e2 e3
      injection e1 with e1
      subst e1
      subst e3
      have hcs : ∀ j, j < zs.length → W.cell? ⟨g, 0 + j, none⟩ = some (.string (zs[j]?.getD ByteArray.empty)) := by
        intro j hj
        have hr := OwnS.reads h2
        obtain ⟨ad, hA, hcell⟩ := Kd.at_string hr (j : Int) (by omega) (by omega)
        injection hA with hA
        subst hA
        rw [Addr.add_lit] at hcell
        simp only [Int.toNat_natCast] at hcell
        rw [hcell]
        unfold rdOf
        rw [Int.toNat_natCast, List.getD_eq_getElem?_getD]
      refine (values1_in F n h7 hro hn l Bs n₀ t b g 0 zs.length c zs hl hlt0 (by simp only at hlt; omega) (by simp only at hlt; omega) J Jx hY W hc' hcs h0).mono ?_
      rintro e W' ⟨he, ⟨ys, rfl, hj⟩ | ⟨pre, ⟨k, hk, rfl⟩, hj⟩⟩
      · exact ⟨he, .inl ⟨_, upto_all zs, hj⟩⟩
      · exact ⟨he, .inr ⟨_, by rw [upto_take zs hk]; exact List.take_prefix _ _, hj⟩⟩
/-- Where the row lies. -/
theorem SeqAt.low {B Bs : Nat} {zs : List ByteArray} {w : World} (h : SeqAt w B Bs zs) : ∀ a l c, w.cell? ⟨Bs, 0, none⟩ = some (.slice (some a) l c) → a.block < w.heap.size := by
  intro a l c hc
  obtain ⟨⟨A, c', h1, h2⟩, _⟩ := h
  have hc' : w.cell? ⟨Bs, 0, none⟩ = some (.slice A zs.length c') := by simp [World.cell?, h1]
  rw [hc'] at hc
  injection hc with hc
  injection hc with e1 e2 e3
  exact (OwnS.lt h2 (k := a.block) (by rw [e1]; rfl)).2
theorem SeqAt.lt {B Bs : Nat} {zs : List ByteArray} {w : World} (h : SeqAt w B Bs zs) : Bs < w.heap.size := by
  obtain ⟨⟨A, c', h1, h2⟩, _⟩ := h
  exact (Array.getElem?_eq_some_iff.1 h1).1
end Go.Proofs.Ytpmeefdegcllkaa
