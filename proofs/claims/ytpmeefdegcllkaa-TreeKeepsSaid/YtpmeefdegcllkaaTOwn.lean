/- A slice of texts that the call itself makes: one text more; how it is read. -/
import Derived.Test.YtpmeefdegcllkaaTRise
import Derived.Test.YtpmeefdegcllkaaWLast
import Derived.Test.YtpmeefdegcllkaaWInvWords
import Derived.Maps.AppendAt
import Derived.RangeFuncBox
namespace Go.Proofs.Ytpmeefdegcllkaa
set_option linter.unusedVariables false
set_option linter.unusedSimpArgs false
open Go.RowKit Go.Maps Go.Proofs.YtpmeefdegcllkaaW.PrintWords Go.Proofs.YtpmeefdegcllkaaW.PrintLast

theorem infoStr : (Try.prog.info? 9).map (fun i => (i.zero, i.size, i.bytes)) = some (some (.string ⟨#[]⟩), 1, 16) := by kernel_rfl

/-- The slice of address A and capacity c is the call's own, its row beyond base, and holds xs. -/
def OwnS (w : World) (base : Nat) (A : Option Addr) (c : Nat) (xs : List ByteArray) : Prop := w.ownsRow base 9 1 (.slice A xs.length c) xs.length (encs Value.string xs)

theorem OwnS.kd {w : World} {base c : Nat} {A : Option Addr} {xs : List ByteArray} (h : OwnS w base A c xs) : Kd.R Kd.string 9 w base (fun _ => True) (.slice A xs.length c) xs :=
  Kd.R_of_own (enc := Value.string) (h1 := fun _ => rfl) h (fun _ _ => trivial)
theorem OwnS.reads {w : World} {base c : Nat} {A : Option Addr} {xs : List ByteArray} (h : OwnS w base A c xs) : Kd.C Kd.string w A xs.length xs := (Kd.R_reads' h.kd).2.2
theorem OwnS.nil (w : World) (base : Nat) : OwnS w base none 0 [] := World.ownsRow_nil w base 9 1
theorem OwnS.one (w : World) (base : Nat) (hb : base ≤ w.heap.size) (x : ByteArray) : OwnS (w.alloc (.cells #[.string x] 9)) base (some ⟨w.heap.size, 0, none⟩) 1 [x] :=
  ⟨by simp [encs], .inr ⟨w.heap.size, 1, #[.string x], rfl, hb, heap_alloc_new w _, Nat.le_refl _, by unfold maxLen; omega, by simp, rfl⟩⟩
theorem OwnS.below {w w' : World} {base c : Nat} {A : Option Addr} {xs : List ByteArray} (h : OwnS w base A c xs) (hb : Below w.heap.size w w') : OwnS w' base A c xs :=
  h.kept (row := none) ⟨hb.os, hb.tape, hb.output, hb.size, fun k hk _ => hb.block k hk⟩ (by
    cases hv : (Value.slice A xs.length c).ownBlock with
    | none => exact .inl rfl
    | some k => exact .inr (by simp))
theorem OwnS.grown {w w' : World} {base c b : Nat} {A : Option Addr} {xs : List ByteArray} {l : Ents} (h : OwnS w base A c xs) (hm : MapAt w b l) (hg : w.grownBy w' (some b)) : OwnS w' base A c xs := by
  refine h.kept hg ?_
  by_cases hn : (Value.slice A xs.length c).ownBlock = none
  · exact .inl hn
  · refine .inr (fun e => ?_)
    obtain ⟨cells, hc⟩ := own_typed h b e
    obtain ⟨es, clock, hb, _⟩ := hm
    rw [hc] at hb
    cases hb
/-- The iterator's block is no row. -/
theorem OwnS.step {w w' : World} {base c b r : Nat} {A : Option Addr} {xs : List ByteArray} {l left : Ents} (h : OwnS w base A c xs) (hm : IterAt w b r l left) (hg : w.grownBy w' (some r)) : OwnS w' base A c xs := by
  refine h.kept hg ?_
  by_cases hn : (Value.slice A xs.length c).ownBlock = none
  · exact .inl hn
  · refine .inr (fun e => ?_)
    obtain ⟨cells, hc⟩ := own_typed h r e
    obtain ⟨es, clock, since, seen, c0, _, _, _, _, hri, _⟩ := hm
    rw [hc] at hri
    cases hri
theorem OwnS.lt {w : World} {base c : Nat} {A : Option Addr} {xs : List ByteArray} (h : OwnS w base A c xs) {k : Nat} (hk : (Value.slice A xs.length c).ownBlock = some k) : base ≤ k ∧ k < w.heap.size := World.ownsRow.lt h k hk

theorem MapAt.push {w w' : World} {base c b : Nat} {A : Option Addr} {xs : List ByteArray} {l : Ents} (h : MapAt w b l) (ho : OwnS w base A c xs) (hg : w.grownBy w' (Value.slice A xs.length c).ownBlock) : MapAt w' b l := by
  refine h.same (hg.block b h.lt (fun e => ?_))
  obtain ⟨cells, hc⟩ := own_typed ho b e.symm
  obtain ⟨es, clock, hb, _⟩ := h
  rw [hc] at hb
  cases hb
theorem IterAt.push {w w' : World} {base c b r : Nat} {A : Option Addr} {xs : List ByteArray} {l left : Ents} (h : IterAt w b r l left) (ho : OwnS w base A c xs) (hg : w.grownBy w' (Value.slice A xs.length c).ownBlock) : IterAt w' b r l left := by
  refine h.same (hg.block b h.map.lt (fun e => ?_)) (hg.block r h.lt (fun e => ?_))
  · obtain ⟨cells, hc⟩ := own_typed ho b e.symm
    obtain ⟨es, clock, hb, _⟩ := h.map
    rw [hc] at hb
    cases hb
  · obtain ⟨cells, hc⟩ := own_typed ho r e.symm
    obtain ⟨es, clock, since, seen, c0, _, _, _, _, hri, _⟩ := h
    rw [hc] at hri
    cases hri
theorem IterAt.put {w w' : World} {b r b' : Nat} {l left l' : Ents} (h : IterAt w b r l left) (hm : MapAt w b' l') (hne : b ≠ b') (hg : w.grownBy w' (some b')) : IterAt w' b r l left := by
  refine h.same (hg.block b h.map.lt (fun e => hne (by injection e))) (hg.block r h.lt (fun e => ?_))
  injection e with e
  subst e
  obtain ⟨es, clock, since, seen, c0, _, _, _, _, hri, _⟩ := h
  obtain ⟨es', clock', hb, _⟩ := hm
  rw [hri] at hb
  cases hb
theorem MapAt.step {w w' : World} {b r b' : Nat} {l left l' : Ents} (h : MapAt w b' l') (hi : IterAt w b r l left) (hg : w.grownBy w' (some r)) : MapAt w' b' l' := by
  refine h.same (hg.block b' h.lt (fun e => ?_))
  injection e with e
  subst e
  obtain ⟨es, clock, since, seen, c0, _, _, _, _, hri, _⟩ := hi
  obtain ⟨es', clock', hb, _⟩ := h
  rw [hri] at hb
  cases hb
theorem OwnS.alloc {w : World} {base c : Nat} {A : Option Addr} {xs : List ByteArray} (h : OwnS w base A c xs) (o : Obj) : OwnS (w.alloc o) base A c xs := World.ownsRow.alloc h o

section
variable {ops : Array Oper} {rest : List Oper} {o : Oper} {a : Act} {Q : Exit → Act → World → Prop}
/-- 'xs = append(xs, y)'. -/
theorem wpList_pushS {w : World} (hg : o.guard = none) (s x : Operand) (hop : o.op = .call { callee := .builtin .append, args := #[s, x], argTypes := #[31, 31] })
    (base c : Nat) (A : Option Addr) (xs : List ByteArray) (hown : OwnS w base A c xs) (hs : a.eval s = .slice A xs.length c) (y : ByteArray) (hx : a.eval x = .slice (some ⟨w.heap.size, 0, none⟩) 1 1) (hlen : xs.length < 1000000000) (hbase : base ≤ w.heap.size)
    (hK : ∀ (A' : Option Addr) (c' : Nat) (w' : World), OwnS w' base A' c' (xs ++ [y]) → w.grownBy w' (Value.slice A xs.length c).ownBlock → wpList Try.prog ops Q rest (a.put o.dst (.slice A' (xs.length + 1) c')) w') :
    wpList Try.prog ops Q (o :: rest) a (w.alloc (.cells #[.string y] 9)) := by
  obtain ⟨i0, hi, hz0, hz1, hz2⟩ := info_parts infoStr
  refine wpList_append_own _ hg s x 31 hop base 9 i0 (.string ⟨#[]⟩) 1 16 Try.underlying31 hi hz0 hz1 hz2 rfl (by decide) _ xs.length (encs Value.string xs) hs (World.ownsRow.alloc hown _) ⟨w.heap.size, 0, none⟩ 1 1 [.string y] hx rfl (cell_one_new _ _ _) (by simp [Value.oneCell']) (by unfold maxLen; omega) (by omega) (by simp; omega) ?_
  intro v' w' h1 h2 h3
  obtain ⟨g', cap', rfl⟩ := Go.ownsRow_succ h1
  refine hK (some ⟨g', 0, none⟩) cap' w' ?_ ((World.grownBy_alloc w _ _).trans h2)
  unfold OwnS
  rw [List.length_append, encs_append]
  exact h1
end
end Go.Proofs.Ytpmeefdegcllkaa
