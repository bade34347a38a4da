/- The program's graph in memory: two maps of maps; what each operation on a map leaves, for the walk. -/
import Derived.Test.YtlccejbomgknkaaGMap
import Derived.Test.YtlccejbomgknkaaProg
import Derived.KernelRfl
import Derived.WalkSpells
import Derived.Lib.Hide
import Derived.Deep.LoopGhost
namespace Go.Proofs.Ytlccejbomgknkaa
open Go.RowKit Go.Maps
open Go.ChangeMaps (setBlock)

section
variable {P : Program} (w : World) {ops : Array Oper} {rest : List Oper} {o : Oper} {a : Act} {Q : Exit → Act → World → Prop}

/-- 'm[k]'. -/
theorem wpList_lookAt (hg : o.guard = none) (m x : Operand) (t : TypeId) (hop : o.op = Op.lookup t m x false) (K E : TypeId) (ht : P.underlying t = some (.map K E)) (hK : P.underlying K = some .string) (z : Value) (hz : ∀ w, (zeroValue E).run P w = .ok z w)
    (b : Nat) (l : Ents) (h : MapAt w b l) (hm : a.eval m = .map (some b)) (k : ByteArray) (hx : a.eval x = .string k) (v : Value) (hv : (getE l k).getD z = v)
    (hN : wpList P ops Q rest (a.put o.dst v) w) : wpList P ops Q (o :: rest) a w := by
  refine wpList_plain hg fun K' hK' => ?_
  have hrun := h.lookup ht hK (hz w) k false
  unfold Oper.wp
  simp only [Bool.false_eq_true, if_false] at hrun
  simp [execOp, hop, hm, hx, hrun, hv, Result.andThen]
  exact hK' _ _ hN
/-- 'v, ok := m[k]'. -/
theorem wpList_lookAtOk (hg : o.guard = none) (m x : Operand) (t : TypeId) (hop : o.op = Op.lookup t m x true) (K E : TypeId) (ht : P.underlying t = some (.map K E)) (hK : P.underlying K = some .string) (z : Value) (hz : ∀ w, (zeroValue E).run P w = .ok z w)
    (b : Nat) (l : Ents) (h : MapAt w b l) (hm : a.eval m = .map (some b)) (k : ByteArray) (hx : a.eval x = .string k) (v : Value) (r : Bool) (hv : (getE l k).getD z = v) (hr : (getE l k).isSome = r)
    (hN : wpList P ops Q rest (a.put o.dst (.tuple #[v, .bool r])) w) : wpList P ops Q (o :: rest) a w := by
  refine wpList_plain hg fun K' hK' => ?_
  have hrun := h.lookup ht hK (hz w) k true
  unfold Oper.wp
  simp only [if_true] at hrun
  simp [execOp, hop, hm, hx, hrun, hv, hr, Result.andThen]
  exact hK' _ _ hN
/-- 'm[k] = v'. -/
theorem wpList_putAt (hg : o.guard = none) (m x v : Operand) (t : TypeId) (hop : o.op = Op.mapUpdate t m x v) (K E : TypeId) (ht : P.underlying t = some (.map K E)) (hK : P.underlying K = some .string)
    (b : Nat) (l : Ents) (h : MapAt w b l) (hm : a.eval m = .map (some b)) (k : ByteArray) (hx : a.eval x = .string k) (hk : k.size ≤ maxLen) (u : Value) (hv : a.eval v = u)
    (hN : ∀ w', MapAt w' b (putE l k u) → w.grownBy w' (some b) → w'.heap.size = w.heap.size → wpList P ops Q rest (a.put o.dst undef) w') : wpList P ops Q (o :: rest) a w := by
  refine wpList_plain hg fun K' hK' => ?_
  obtain ⟨w', hrun, r1, r2, r3⟩ := h.update ht hK k hk u
  unfold Oper.wp
  simp [execOp, hop, hm, hx, hv, hrun, Result.andThen]
  exact hK' _ _ (hN w' r1 r2 r3)
/-- 'delete(m, k)'. -/
theorem wpList_delAt (hg : o.guard = none) (m x : Operand) (t K : TypeId) (hop : o.op = Op.call { callee := Callee.builtin Builtin.delete, args := #[m, x], argTypes := #[t, K] }) (E : TypeId) (ht : P.underlying t = some (.map K E)) (hK : P.underlying K = some .string)
    (b : Nat) (l : Ents) (h : MapAt w b l) (hm : a.eval m = .map (some b)) (k : ByteArray) (hx : a.eval x = .string k)
    (hN : ∀ w', MapAt w' b (delE l k) → w.grownBy w' (some b) → w'.heap.size = w.heap.size → wpList P ops Q rest (a.put o.dst (.tuple #[])) w') : wpList P ops Q (o :: rest) a w := by
  refine wpList_plain hg fun K' hK' => ?_
  obtain ⟨w', hrun, r1, r2, r3⟩ := h.delete ht hK k o.type
  unfold Oper.wp
  simp [execOp, hop, resolve, invoke, builtin, hm, hx, hrun, Result.andThen]
  exact hK' _ _ (hN w' r1 r2 r3)
/-- 'len(m)'. -/
theorem wpList_lenAt (hg : o.guard = none) (m : Operand) (t : TypeId) (hop : o.op = Op.call { callee := Callee.builtin Builtin.len, args := #[m], argTypes := #[t] }) (K E : TypeId) (ht : P.underlying t = some (.map K E))
    (b : Nat) (l : Ents) (h : MapAt w b l) (hm : a.eval m = .map (some b)) (n : Nat) (hn : l.length = n)
    (hN : wpList P ops Q rest (a.put o.dst (.int .i64 n)) w) : wpList P ops Q (o :: rest) a w := by
  refine wpList_plain hg fun K' hK' => ?_
  have hrun := h.len ht o.type
  unfold Oper.wp
  simp [execOp, hop, resolve, invoke, builtin, hm, hrun, Result.andThen]
  rw [hn]
  exact hK' _ _ hN
/-- 'range m'. -/
theorem wpList_rangeAt (hg : o.guard = none) (m : Operand) (t : TypeId) (hop : o.op = Op.range t m) (K E : TypeId) (ht : P.underlying t = some (.map K E)) (b : Nat) (l : Ents) (h : MapAt w b l) (hm : a.eval m = .map (some b))
    (hN : ∀ w', IterAt w' b w.heap.size l l → w.grownBy w' none → w'.heap.size = w.heap.size + 1 → wpList P ops Q rest (a.put o.dst (.pointer (some ⟨w.heap.size, 0, none⟩))) w') : wpList P ops Q (o :: rest) a w := by
  refine wpList_plain hg fun K' hK' => ?_
  obtain ⟨w', hrun, r1, r2, r3⟩ := h.range ht
  unfold Oper.wp
  simp [execOp, hop, hm, hrun, Result.andThen]
  exact hK' _ _ (hN w' r1 r2 r3)
/-- The step. -/
theorem wpList_nextAt (hg : o.guard = none) (it : Operand) (hop : o.op = Op.next it false) (b r : Nat) (l left : Ents) (h : IterAt w b r l left) (hit : a.eval it = .pointer (some ⟨r, 0, none⟩))
    (hDone : left = [] → wpList P ops Q rest (a.put o.dst (.tuple #[.bool false])) w)
    (hMore : ∀ (k : ByteArray) (v : Value) (w' : World), (k, v) ∈ left → IterAt w' b r l (delE left k) → w.grownBy w' (some r) → w'.heap.size = w.heap.size → (Instr.entry (.pointer (some ⟨r, 0, none⟩))).run P w' = .ok (.tuple #[.string k, v]) w' →
      wpList P ops Q rest (a.put o.dst (.tuple #[.bool true, .string k, v])) w') : wpList P ops Q (o :: rest) a w := by
  refine wpList_plain hg fun K' hK' => ?_
  unfold Oper.wp
  rcases h.next (P := P) o.type with ⟨h0, hrun⟩ | ⟨p, w', hp, hrun, hi, hgr, hsz, hen⟩
  · simp [execOp, hop, hit, hrun, Result.andThen]
    exact hK' _ _ (hDone h0)
  · simp [execOp, hop, hit, hrun, Result.andThen]
    exact hK' _ _ (hMore p.1 p.2 w' hp hi hgr hsz hen)
end

/-! ### the graph -/
def encM (l : List (ByteArray × Nat)) : Ents := l.map (fun p => (p.1, .map (some p.2)))
def encS (s : List ByteArray) : Ents := s.map (fun x => (x, .bool true))
/-- Block b is a set of just the texts of which S holds. -/
def SetAt (w : World) (b : Nat) (S : ByteArray → Prop) : Prop := ∃ s, MapAt w b (encS s) ∧ ∀ x, x ∈ s ↔ S x
abbrev Rel := ByteArray → ByteArray → Prop

structure Gr (w : World) (B g : Nat) (N : List ByteArray) (E : Rel) (bo bi : Nat) (lo li : List (ByteArray × Nat)) : Prop where
  cells : w.heap[g]? = some (.cells #[.map (some bo), .map (some bi)] 67 (0, 0))
  mo : MapAt w bo (encM lo)
  mi : MapAt w bi (encM li)
  no : lo.map Prod.fst = N
  ni : li.map Prod.fst = N
  so : ∀ p ∈ lo, SetAt w p.2 (E p.1)
  si : ∀ p ∈ li, SetAt w p.2 (fun x => E x p.1)
  apart : (bo :: bi :: (lo.map Prod.snd ++ li.map Prod.snd)).Nodup
  base : ∀ k ∈ g :: bo :: bi :: (lo.map Prod.snd ++ li.map Prod.snd), B ≤ k
  inN : ∀ x y, E x y → x ∈ N ∧ y ∈ N
/-- At block g lies a graph of the names N and the edges E, all of it from block B on. -/
def GraphAt (w : World) (B g : Nat) (N : List ByteArray) (E : Rel) : Prop := ∃ bo bi lo li, Gr w B g N E bo bi lo li

theorem Gr.cell0 {w : World} {B g bo bi : Nat} {N : List ByteArray} {E : Rel} {lo li : List (ByteArray × Nat)} (h : Gr w B g N E bo bi lo li) : w.cell? ⟨g, 0, none⟩ = some (.map (some bo)) := by
  simp [World.cell?, h.cells]
theorem Gr.cell1 {w : World} {B g bo bi : Nat} {N : List ByteArray} {E : Rel} {lo li : List (ByteArray × Nat)} (h : Gr w B g N E bo bi lo li) : w.cell? ⟨g, 1, none⟩ = some (.map (some bi)) := by
  simp [World.cell?, h.cells]

theorem zero70 (w : World) : (zeroValue 70).run Try.prog w = .ok (.map none) w := by kernel_rfl
theorem zero4 (w : World) : (zeroValue 4).run Try.prog w = .ok (.bool false) w := by kernel_rfl
theorem zero3 (w : World) : (zeroValue 3).run Try.prog w = .ok (.int .i64 0) w := by kernel_rfl

theorem getE_encM {l : List (ByteArray × Nat)} {k : ByteArray} {b : Nat} (hn : (l.map Prod.fst).Nodup) (h : (k, b) ∈ l) : getE (encM l) k = some (.map (some b)) := by
  refine (getE_mem ?_).2 (List.mem_map.2 ⟨_, h, rfl⟩)
  unfold encM
  rw [List.map_map]
  exact hn
theorem getE_encM_none {l : List (ByteArray × Nat)} {k : ByteArray} (h : k ∉ l.map Prod.fst) : getE (encM l) k = none := by
  refine getE_isNone.2 ?_
  unfold encM
  rw [List.map_map]
  exact h
theorem Gr.nodup {w : World} {B g bo bi : Nat} {N : List ByteArray} {E : Rel} {lo li : List (ByteArray × Nat)} (h : Gr w B g N E bo bi lo li) : N.Nodup := by
  have := h.mo.nodup
  unfold encM at this
  rw [List.map_map] at this
  rw [← h.no]
  exact this
theorem Gr.outOf {w : World} {B g bo bi : Nat} {N : List ByteArray} {E : Rel} {lo li : List (ByteArray × Nat)} (h : Gr w B g N E bo bi lo li) {k : ByteArray} (hk : k ∈ N) : ∃ b, (k, b) ∈ lo ∧ getE (encM lo) k = some (.map (some b)) ∧ SetAt w b (E k) := by
  rw [← h.no] at hk
  obtain ⟨p, hp, rfl⟩ := List.mem_map.1 hk
  exact ⟨p.2, hp, getE_encM (by rw [h.no]; exact h.nodup) hp, h.so p hp⟩
theorem Gr.inOf {w : World} {B g bo bi : Nat} {N : List ByteArray} {E : Rel} {lo li : List (ByteArray × Nat)} (h : Gr w B g N E bo bi lo li) {k : ByteArray} (hk : k ∈ N) : ∃ b, (k, b) ∈ li ∧ getE (encM li) k = some (.map (some b)) ∧ SetAt w b (fun x => E x k) := by
  rw [← h.ni] at hk
  obtain ⟨p, hp, rfl⟩ := List.mem_map.1 hk
  exact ⟨p.2, hp, getE_encM (by rw [h.ni]; exact h.nodup) hp, h.si p hp⟩

set_option maxRecDepth 100000 in
set_option maxHeartbeats 400000 in
theorem has_yes {w : World} {B g : Nat} {N : List ByteArray} {E : Rel} (h : GraphAt w B g N E) (nm : ByteArray) (hn : nm ∈ N) :
    Calls Try.prog 27 #[.pointer (some ⟨g, 0, none⟩), .string nm] w fun e w' => e = .returned (.bool true) ∧ w' = w := by
  obtain ⟨bo, bi, lo, li, hG⟩ := h
  have c0 := hG.cell0
  obtain ⟨b, _, hget, _⟩ := hG.outOf hn
  have hrun := hG.mo.lookup Try.underlying65 Try.underlying9 (zero70 w) nm false
  rw [hget] at hrun
  simp only [Bool.false_eq_true, if_false, Option.getD_some] at hrun
  clear hget hG
  have qm := fun (w : World) (r : Option Nat) => Go.run_neq_map_nil (P := Try.prog) w 70 9 4 r Try.underlying70
  go_enter Try.func27, Try.ntmps27
  go_wp2
  go_ret
  exact ⟨rfl, rfl⟩
set_option maxRecDepth 100000 in
set_option maxHeartbeats 400000 in
theorem has_no {w : World} {B g : Nat} {N : List ByteArray} {E : Rel} (h : GraphAt w B g N E) (nm : ByteArray) (hn : nm ∉ N) :
    Calls Try.prog 27 #[.pointer (some ⟨g, 0, none⟩), .string nm] w fun e w' => e = .returned (.bool false) ∧ w' = w := by
  obtain ⟨bo, bi, lo, li, hG⟩ := h
  have c0 := hG.cell0
  have hget : getE (encM lo) nm = none := getE_encM_none (by rw [hG.no]; exact hn)
  have hrun := hG.mo.lookup Try.underlying65 Try.underlying9 (zero70 w) nm false
  rw [hget] at hrun
  simp only [Bool.false_eq_true, if_false, Option.getD_none] at hrun
  clear hget hG hn
  have qm := fun (w : World) (r : Option Nat) => Go.run_neq_map_nil (P := Try.prog) w 70 9 4 r Try.underlying70
  go_enter Try.func27, Try.ntmps27
  go_wp2
  go_ret
  exact ⟨rfl, rfl⟩
end Go.Proofs.Ytlccejbomgknkaa
