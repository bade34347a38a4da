/- What each operation on a map leaves, for the walk. -/
import Derived.Test.YtpmeefdegcllkaaTMap
import Derived.Test.YtpmeefdegcllkaaProg
import Derived.KernelRfl
import Derived.WalkSpells
import Derived.Lib.Hide
import Derived.Deep.LoopGhost
namespace Go.Proofs.Ytpmeefdegcllkaa
open Go.RowKit Go.Maps
open Go.ChangeMaps (setBlock)

section
variable {P : Program} (w : World) {ops : Array Oper} {rest : List Oper} {o : Oper} {a : Act} {Q : Exit → Act → World → Prop}

/-- 'm[k]'. -/
theorem wpList_lookAt (hg : o.guard = none) (m x : Operand) (t : TypeId) (hop : o.op = Op.lookup t m x false) (K E : TypeId) (ht : P.underlying t = some (.map K E)) (hK : P.underlying K = some .string) (z : Value) (hz : ∀ w, (zeroValue E).run P w = .ok z w)
    (b : Nat) (l : Ents) (h : MapAt w b l) (hm : a.eval m = .map (some b)) (k : ByteArray) (hx : a.eval x = .string k) (v : Value) (hv : (getE l k).getD z = v)
    (hN : wpList P ops Q rest (a.put o.dst v) w) : wpList P ops Q (o :: rest) a w := by
  refine wpList_plain hg fun K' hK' => ?_
  have hrun := h.lookup ht hK (hz w) k false
  unfold Oper.wp
  simp only [Bool.false_eq_true, if_false] at hrun
  simp [execOp, hop, hm, hx, hrun, hv, Result.andThen]
  exact hK' _ _ hN
/-- 'v, ok := m[k]'. -/
theorem wpList_lookAtOk (hg : o.guard = none) (m x : Operand) (t : TypeId) (hop : o.op = Op.lookup t m x true) (K E : TypeId) (ht : P.underlying t = some (.map K E)) (hK : P.underlying K = some .string) (z : Value) (hz : ∀ w, (zeroValue E).run P w = .ok z w)
    (b : Nat) (l : Ents) (h : MapAt w b l) (hm : a.eval m = .map (some b)) (k : ByteArray) (hx : a.eval x = .string k) (v : Value) (r : Bool) (hv : (getE l k).getD z = v) (hr : (getE l k).isSome = r)
    (hN : wpList P ops Q rest (a.put o.dst (.tuple #[v, .bool r])) w) : wpList P ops Q (o :: rest) a w := by
  refine wpList_plain hg fun K' hK' => ?_
  have hrun := h.lookup ht hK (hz w) k true
  unfold Oper.wp
  simp only [if_true] at hrun
  simp [execOp, hop, hm, hx, hrun, hv, hr, Result.andThen]
  exact hK' _ _ hN
/-- 'm[k] = v'. -/
theorem wpList_putAt (hg : o.guard = none) (m x v : Operand) (t : TypeId) (hop : o.op = Op.mapUpdate t m x v) (K E : TypeId) (ht : P.underlying t = some (.map K E)) (hK : P.underlying K = some .string)
    (b : Nat) (l : Ents) (h : MapAt w b l) (hm : a.eval m = .map (some b)) (k : ByteArray) (hx : a.eval x = .string k) (hk : k.size ≤ maxLen) (u : Value) (hv : a.eval v = u)
    (hN : ∀ w', MapAt w' b (putE l k u) → w.grownBy w' (some b) → w'.heap.size = w.heap.size → wpList P ops Q rest (a.put o.dst undef) w') : wpList P ops Q (o :: rest) a w := by
  refine wpList_plain hg fun K' hK' => ?_
  obtain ⟨w', hrun, r1, r2, r3⟩ := h.update ht hK k hk u
  unfold Oper.wp
  simp [execOp, hop, hm, hx, hv, hrun, Result.andThen]
  exact hK' _ _ (hN w' r1 r2 r3)
/-- 'delete(m, k)'. -/
theorem wpList_delAt (hg : o.guard = none) (m x : Operand) (t K : TypeId) (hop : o.op = Op.call { callee := Callee.builtin Builtin.delete, args := #[m, x], argTypes := #[t, K] }) (E : TypeId) (ht : P.underlying t = some (.map K E)) (hK : P.underlying K = some .string)
    (b : Nat) (l : Ents) (h : MapAt w b l) (hm : a.eval m = .map (some b)) (k : ByteArray) (hx : a.eval x = .string k)
    (hN : ∀ w', MapAt w' b (delE l k) → w.grownBy w' (some b) → w'.heap.size = w.heap.size → wpList P ops Q rest (a.put o.dst (.tuple #[])) w') : wpList P ops Q (o :: rest) a w := by
  refine wpList_plain hg fun K' hK' => ?_
  obtain ⟨w', hrun, r1, r2, r3⟩ := h.delete ht hK k o.type
  unfold Oper.wp
  simp [execOp, hop, resolve, invoke, builtin, hm, hx, hrun, Result.andThen]
  exact hK' _ _ (hN w' r1 r2 r3)
/-- 'len(m)'. -/
theorem wpList_lenAt (hg : o.guard = none) (m : Operand) (t : TypeId) (hop : o.op = Op.call { callee := Callee.builtin Builtin.len, args := #[m], argTypes := #[t] }) (K E : TypeId) (ht : P.underlying t = some (.map K E))
    (b : Nat) (l : Ents) (h : MapAt w b l) (hm : a.eval m = .map (some b)) (n : Nat) (hn : l.length = n)
    (hN : wpList P ops Q rest (a.put o.dst (.int .i64 n)) w) : wpList P ops Q (o :: rest) a w := by
  refine wpList_plain hg fun K' hK' => ?_
  have hrun := h.len ht o.type
  unfold Oper.wp
  simp [execOp, hop, resolve, invoke, builtin, hm, hrun, Result.andThen]
  rw [hn]
  exact hK' _ _ hN
/-- 'range m'. -/
theorem wpList_rangeAt (hg : o.guard = none) (m : Operand) (t : TypeId) (hop : o.op = Op.range t m) (K E : TypeId) (ht : P.underlying t = some (.map K E)) (b : Nat) (l : Ents) (h : MapAt w b l) (hm : a.eval m = .map (some b))
    (hN : ∀ w', IterAt w' b w.heap.size l l → w.grownBy w' none → w'.heap.size = w.heap.size + 1 → wpList P ops Q rest (a.put o.dst (.pointer (some ⟨w.heap.size, 0, none⟩))) w') : wpList P ops Q (o :: rest) a w := by
  refine wpList_plain hg fun K' hK' => ?_
  obtain ⟨w', hrun, r1, r2, r3⟩ := h.range ht
  unfold Oper.wp
  simp [execOp, hop, hm, hrun, Result.andThen]
  exact hK' _ _ (hN w' r1 r2 r3)
/-- The step. -/
theorem wpList_nextAt (hg : o.guard = none) (it : Operand) (hop : o.op = Op.next it false) (b r : Nat) (l left : Ents) (h : IterAt w b r l left) (hit : a.eval it = .pointer (some ⟨r, 0, none⟩))
    (hDone : left = [] → wpList P ops Q rest (a.put o.dst (.tuple #[.bool false])) w)
    (hMore : ∀ (k : ByteArray) (v : Value) (w' : World), (k, v) ∈ left → IterAt w' b r l (delE left k) → w.grownBy w' (some r) → w'.heap.size = w.heap.size → (Instr.entry (.pointer (some ⟨r, 0, none⟩))).run P w' = .ok (.tuple #[.string k, v]) w' →
      wpList P ops Q rest (a.put o.dst (.tuple #[.bool true, .string k, v])) w') : wpList P ops Q (o :: rest) a w := by
  refine wpList_plain hg fun K' hK' => ?_
  unfold Oper.wp
  rcases h.next (P := P) o.type with ⟨h0, hrun⟩ | ⟨p, w', hp, hrun, hi, hgr, hsz, hen⟩
  · simp [execOp, hop, hit, hrun, Result.andThen]
    exact hK' _ _ (hDone h0)
  · simp [execOp, hop, hit, hrun, Result.andThen]
    exact hK' _ _ (hMore p.1 p.2 w' hp hi hgr hsz hen)
end

theorem zero9 (w : World) : (zeroValue 9).run Try.prog w = .ok (.string ⟨#[]⟩) w := by kernel_rfl
/-- Texts by texts. -/
def encT (F : List (ByteArray × ByteArray)) : Ents := F.map (fun p => (p.1, .string p.2))
end Go.Proofs.Ytpmeefdegcllkaa
