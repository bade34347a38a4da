/- listed: what a tree's List hands on, collected. -/
import Derived.Test.YtpmeefdegcllkaaTRange
import Derived.RangeFuncWrites
namespace Go.Proofs.Ytpmeefdegcllkaa
set_option linter.unusedVariables false
set_option linter.unusedSimpArgs false
open Go.RowKit Go.Shelf Go.Maps Go.Proofs.YtpmeefdegcllkaaW.PrintWords Go.Proofs.YtpmeefdegcllkaaW.PrintLast
attribute [local go_sem] Oper.semAt_some

structure Lst (w w' : World) (F : List Pr) (px : ByteArray) (A : Option Addr) (c : Nat) (r : List ByteArray) : Prop where
  own : OwnS w' w.heap.size A c r
  ri : Rise r
  mem : ∀ x, x ∈ r ↔ x ∈ F.map Prod.fst ∧ pre x px = true
  bl : Below w.heap.size w w'

/-- What a round leaves: the box B has turned, nothing else below n₀. -/
structure KpM (n₀ B : Nat) (W W' : World) : Prop where
  os : W'.os = W.os
  tape : W'.tape = W.tape
  output : W'.output = W.output
  size : W.heap.size ≤ W'.heap.size
  blk : Kp n₀ B B W W'
theorem KpM.below {n₀ B base : Nat} {W W' : World} (h : KpM n₀ B W W') (h1 : base ≤ B) (h2 : base ≤ n₀) (h3 : base ≤ W.heap.size) : Below base W W' :=
  ⟨h.os, h.tape, h.output, h.size, fun k hk => h.blk k (by omega) (by omega) (by omega)⟩

/-- 'out = append(out, ..)' where the box lies below the row. -/
theorem appendedK {W w1 : World} {n₀ B : Nat} {t e : TypeId} {size : Nat} {v v' : Value} {k m : Nat} {xs ys : List Value} {tmp : Obj}
    (hv : Boxed W B t v) (hte : t ≠ e) (hrow : W.ownsRow n₀ e size v k xs) (hn₀ : n₀ ≤ W.heap.size)
    (hown' : w1.ownsRow n₀ e size v' m ys) (hgrow : (W.alloc tmp).grownBy w1 v.ownBlock) :
    Boxed w1 B t v ∧ Boxed (w1.setCell ⟨B, 0, none⟩ v') B t v' ∧ (w1.setCell ⟨B, 0, none⟩ v').ownsRow n₀ e size v' m ys ∧ KeepsOthers W (w1.setCell ⟨B, 0, none⟩ v') ∧ KpM n₀ B W (w1.setCell ⟨B, 0, none⟩ v') := by
  have hv1 : Boxed w1 B t v := (hv.alloc tmp).kept hgrow (hv.not_row hte hrow)
  have hlt : ∀ j, v.ownBlock = some j → n₀ ≤ j := by
    intro j ej
    rcases hrow.2 with ⟨rfl, _⟩ | ⟨g, cap, cur, rfl, hb, _, _⟩
    · simp [Value.ownBlock] at ej
    · obtain rfl : g = j := by simpa [Value.ownBlock] using ej
      exact hb
  refine ⟨hv1, hv1.set v', hown'.kept (grownBy_setCell' w1 B v') (.inr (hv1.not_row hte hown').symm), ?_, ?_⟩
  · refine ((KeepsOthers.alloc W tmp).trans (KeepsOthers.of_grownBy hgrow fun j o ej hj => ?_)).trans (KeepsOthers.setCell _ _ _)
    rcases (hrow.alloc tmp).2 with ⟨rfl, _⟩ | ⟨g, cap, cur, rfl, _, hgb, _⟩
    · simp [Value.ownBlock] at ej
    · obtain rfl : g = j := by simpa [Value.ownBlock] using ej
      rw [hgb] at hj; cases hj; rfl
  · have s1 := hgrow.size
    refine ⟨hgrow.os, hgrow.tape, hgrow.output, ?_, fun k hk h1 _ => ?_⟩
    · simp at s1 ⊢; omega
    · rw [Below.heap_setCell _ _ _ _ h1, hgrow.block k (by simp; omega) (fun e => by have := hlt k e.symm; omega), Below.heap_alloc _ _ _ (by omega)]

theorem Boxed.below {W W' : World} {B : Nat} {t : TypeId} {v : Value} (h : Boxed W B t v) (hb : Below W.heap.size W W') : Boxed W' B t v := (hb.block B h.lt).trans h
theorem Boxed.below2 {W W' : World} {n₀ B C : Nat} {t : TypeId} {v : Value} (h : Boxed W C t v) (hb : KpM n₀ B W W') (h1 : C < n₀) (h2 : C ≠ B) : Boxed W' C t v := (hb.blk C h1 h2 h2).trans h
theorem OwnS.lower {w : World} {base base' c : Nat} {A : Option Addr} {xs : List ByteArray} (h : OwnS w base A c xs) (hb : base' ≤ base) : OwnS w base' A c xs := by
  refine ⟨h.1, h.2.imp id ?_⟩
  rintro ⟨g, cap, cur, e, hge, r⟩
  exact ⟨g, cap, cur, e, Nat.le_trans hb hge, r⟩
theorem row_slice {W : World} {base size k : Nat} {e : TypeId} {v : Value} {xs : List Value} (h : W.ownsRow base e size v k xs) : ∃ A c, v = .slice A k c := by
  rcases h.2 with ⟨rfl, h0⟩ | ⟨g, cap, _, rfl, _⟩
  · exact ⟨none, 0, by rw [h0]⟩
  · exact ⟨_, cap, rfl⟩
theorem eqnil (lb : Array Value) (w : World) : (binOp .eql 35 (.func (.func 28) #[] lb) .nilFunc).run Try.prog w = .ok (.bool false) w := by kernel_rfl

set_option maxRecDepth 100000 in
set_option maxHeartbeats 4000000 in
theorem listed_any {w : World} {B t b n : Nat} {F : List Pr} (h : TreeAt w B t b n F) (hF : F.length ≤ 256) (px : ByteArray) :
    Calls Try.prog 9 #[.pointer (some ⟨t, 0, none⟩), .string px] w fun e w' => ∃ A c r, e = .returned (.tuple #[.slice A r.length c, .bool true]) ∧ Lst w w' F px A c r := by
  refine (callsIn_wide (n := 8)).1 ?_
  refine callsIn_of_wp_marks (F := Fence.wide) Try.func9 rfl trivial ?_ rfl
  simp only [Try.ntmps9, List.size_toArray, List.length_cons, List.length_nil, Nat.reduceAdd, Nat.reduceSub, Array.replicate_succ, Array.replicate_zero, List.push_toArray, List.append_toArray, List.nil_append, List.cons_append]
  have ht := h.lt
  obtain ⟨i0, hi, hz0, hz1, hz2⟩ := info_parts infoStr
  obtain ⟨w1, hw1⟩ : ∃ w1, w1 = ((w.alloc (.cells #[.slice none 0 0] 31)).alloc (.cells #[.bool false] 4)).alloc (.cells #[.slice none 0 0] 31) := ⟨_, rfl⟩
  have hB1 : Below w.heap.size w w1 := by rw [hw1]; exact (((Below.refl _ w).alloc (Nat.le_refl _) _).alloc (by simp) _).alloc (by simp; omega) _
  have hL := list_any (h.below hB1) (by omega : F.length ≤ 1000000) px
  have b0 : Boxed w1 w.heap.size 31 (.slice none 0 0) := by rw [hw1]; exact ((Boxed.new w 31 _).alloc _).alloc _
  have b1 : Boxed w1 (w.heap.size + 1) 4 (.bool false) := by
    have := (Boxed.new (w.alloc (.cells #[.slice none 0 0] 31)) 4 (.bool false)).alloc (.cells #[.slice none 0 0] 31)
    rw [World.size_alloc] at this
    rw [hw1]; exact this
  have b2 : Boxed w1 (w.heap.size + 2) 31 (.slice none 0 0) := by
    have := Boxed.new ((w.alloc (.cells #[.slice none 0 0] 31)).alloc (.cells #[.bool false] 4)) 31 (.slice none 0 0)
    rw [World.size_alloc, World.size_alloc] at this
    rw [hw1]; exact this
  have hs1 : w1.heap.size = w.heap.size + 3 := by rw [hw1]; simp
  have Z := Lib.hid (And.intro h (And.intro hB1 (And.intro b0 (And.intro b1 (And.intro b2 hs1)))))
  rw [hw1] at hL
  have HL := Lib.hid hL
  have Hw := Lib.hid hw1
  clear h hB1 b0 b1 b2 hs1 hL hw1 ht
  gi_wp2
  refine ⟨trivial, (callsIn_wide.2 HL.out).mono ?_⟩
  rintro e w2 ⟨Bs, r, rfl, hsq, hri, hmem, hbl⟩
  rw [← Hw.out] at hsq hbl
  have hlen : r.length ≤ 256 := by
    have := nodup_len (rise_nodup hri) (N := F.map Prod.fst) (fun x hx => ((hmem x).1 hx).1)
    rw [List.length_map] at this
    omega
  obtain ⟨h, hB1, b0, b1, b2, hs1⟩ := Z.out
  clear Z
  have c0 := Boxed.below b0 hbl
  have c1 := Boxed.below b1 hbl
  have c2 := Boxed.below b2 hbl
  have hs2 := hbl.size
  have hB2 : Below w.heap.size w w2 := hB1.trans (hbl.mono (by omega))
  clear HL Hw b0 b1 b2 hbl
  have hq := eqnil #[.pointer (some ⟨Bs, 0, none⟩)] w2
  have hlow := hsq.low
  gi_wp2
  refine wpIn_rangeFunc_ownG (n := 8) rfl (by omega) (gf := 28) (lb := #[.pointer (some ⟨Bs, 0, none⟩)]) rfl trivial (enters_of Try.func28 (by kernel_rfl) rfl)
    (values_stops Fence.wide 7 trivial rfl (by omega) (by omega : r.length ≤ 1000000) hsq (n₀ := w2.heap.size) (t := w.heap.size + 2) (b := w.heap.size + 2) (by omega) (by omega) hlow) (fun h k => Kp.trans h k)
    (fun W l o o' h1 h2 h3 h4 => fun k hk _ _ => World.putObj_heap_other (by omega)) (Below.refl _ _) (fun _ => rfl)
    (fun pre W => (∃ v, Boxed W (w.heap.size + 2) 31 v ∧ W.ownsRow w2.heap.size 9 1 v pre.length (pre.map Value.string) ∧ True) ∧ (Boxed W w.heap.size 31 (.slice none 0 0) ∧ (Boxed W (w.heap.size + 1) 4 (.bool false) ∧ (w2.heap.size ≤ W.heap.size ∧ Below w.heap.size w W))))
    (fun _ _ _ => False)
    (OwnFrom.and (Own.from (holdsRow_own w2.heap.size (w.heap.size + 2) 31 9 1 (fun pre : List ByteArray => pre.length) (fun pre => pre.map Value.string) (fun _ _ => True)) _) (OwnFrom.and (Own.from (boxed_own _ _ _) _) (OwnFrom.and (Own.from (boxed_own _ _ _) _) (OwnFrom.and (fun _ _ _ _ hs hg _ => Nat.le_trans hs hg.size) (ownFrom_below (Nat.le_refl _) (by omega))))))
    (fun _ _ _ _ _ hs _ _ => hs)
    ⟨⟨_, c2, World.ownsRow_nil _ _ _ _, trivial⟩, c0, c1, Nat.le_refl _, hB2⟩
    (fun x => { tmps := #[.pointer (some ⟨t, 0, none⟩), .string px, undef, undef, .pointer (some ⟨w.heap.size, 0, none⟩), .pointer (some ⟨w.heap.size + 1, 0, none⟩), .pointer (some ⟨w.heap.size + 2, 0, none⟩), .func (.func 28) #[] #[.pointer (some ⟨Bs, 0, none⟩)], .string x, .pointer (some ⟨t, 0, none⟩), .string px, .func (.func 28) #[] #[.pointer (some ⟨Bs, 0, none⟩)], .func (.func 28) #[] #[.pointer (some ⟨Bs, 0, none⟩)], .bool false, .func (.func 28) #[] #[.pointer (some ⟨Bs, 0, none⟩)], .string x, undef, undef, undef, undef, undef, undef, undef, undef, undef], defers := [] }) ?assign ?body ?done ?stop
  case assign =>
    intro l x W K hK
    gi_wp2
    exact hK
  case body =>
    rintro l pre x W ⟨⟨v, hv, hrow, _⟩, g0, g1, hsz, hB⟩ hlt
    have hc := hv.cell
    gi_wp2_with (gi_at_builtin; refine wpListIn_append_own _ rfl _ _ 31 rfl w2.heap.size 9 i0 (.string ⟨#[]⟩) 1 16 Try.underlying31 hi hz0 hz1 hz2 rfl (by decide) _ _ _ rfl (hrow.alloc _) ⟨W.heap.size, 0, none⟩ 1 1 [.string x] rfl rfl (cell_one_new _ _ _) (by simp [Value.oneCell']) (by unfold maxLen; omega) (by omega) (by simp; omega) ?_; intro v' w3 hown' hgrow _; obtain ⟨g', cap', rfl⟩ := ownsRow_succ hown'; obtain ⟨hv1, hv2, hr2, hk2, hb2⟩ := appendedK hv (by decide) hrow hsz hown' hgrow; have hc1 := hv1.cell; have hf1 := hv1.frozen; have hc2 := hv2.cell)
    exact ⟨hk2.from _, hb2.blk, ⟨_, hv2, by rw [List.length_append, List.map_append]; exact hr2, trivial⟩, Boxed.below2 g0 hb2 (by omega) (by omega), Boxed.below2 g1 hb2 (by omega) (by omega), Nat.le_trans hsz hb2.size, hB.trans (hb2.below (by omega) (by omega) (by omega))⟩
  case done =>
    rintro D ys W hD rfl ⟨⟨v, hv, hrow, _⟩, g0, g1, hsz, hB⟩ hK
    obtain ⟨A, c, rfl⟩ := row_slice hrow
    have hc := hv.cell
    have f0 := g0.frozen
    have f1 := g1.frozen
    have d0 := g0.cell
    have d1 := g1.cell
    gi_wp2
    refine ⟨by simp, .inl ⟨_, _, rfl, run_takeDeferred (((KeepsOthers.setCell _ _ _).trans (KeepsOthers.setCell _ _ _)).same D _ hK rfl), ?_⟩⟩
    obtain ⟨W2, hW2⟩ : ∃ W2, W2 = ((W.setCell ⟨w.heap.size, 0, none⟩ (.slice A ys.length c)).setCell ⟨w.heap.size + 1, 0, none⟩ (.bool true)) := ⟨_, rfl⟩
    have k0 : Boxed W2 w.heap.size 31 (.slice A ys.length c) := by rw [hW2]; exact (g0.set _).other (by omega) _
    have k1 : Boxed W2 (w.heap.size + 1) 4 (.bool true) := by rw [hW2]; exact (g1.other (by omega) _).set _
    have hK2 : W2.heap[D]? = some (Obj.deferred (some [])) := by rw [hW2]; exact ((KeepsOthers.setCell _ _ _).trans (KeepsOthers.setCell _ _ _)).same D _ hK rfl
    have o2 : OwnS W2 w2.heap.size A c ys := by
      have q1 := World.ownsRow.kept hrow (grownBy_setCell' W w.heap.size (.slice A ys.length c)) (.inr (fun e => (g0.not_row (by decide) hrow) e.symm))
      have q2 := q1.kept (grownBy_setCell' _ (w.heap.size + 1) (.bool true)) (.inr (fun e => ((Boxed.other g1 (by omega) (.slice A ys.length c)).not_row (by decide) q1) e.symm))
      rw [hW2]
      exact q2
    have hB3 : Below w.heap.size w W2 := by rw [hW2]; exact (hB.setCell (p := ⟨w.heap.size, 0, none⟩) (Nat.le_refl _) _).setCell (p := ⟨w.heap.size + 1, 0, none⟩) (by simp) _
    rw [← hW2]
    have k0' := (k0.kept (grownBy_putObj' W2 D (.deferred none)) (by simp; omega)).cell
    have k1' := (k1.kept (grownBy_putObj' W2 D (.deferred none)) (by simp; omega)).cell
    exact ⟨_, by simp [results, loadVar, go_sem, k0', k1'], A, c, ys, rfl, OwnS.lower (ownsRow_putObj o2 _ hK2 rfl) hB2.size, hri, hmem, hB3.trans (belowK_b (w := w) (Nat.le_refl _) W2 D _ _ (by omega) hK2 rfl rfl)⟩
  case stop =>
    rintro D c pre W _ _ h _
    exact h.elim
end Go.Proofs.Ytpmeefdegcllkaa
