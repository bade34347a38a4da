/- 'm[k] = v' of a statement with several left sides: the entry is laid first, its element stored later. -/
import Derived.Test.YtlccejbomgknkaaGRise
namespace Go.Proofs.Ytlccejbomgknkaa
set_option linter.unusedVariables false
set_option linter.unusedSimpArgs false
open Go.RowKit Go.Maps
open Go.MapKept (Stamped stamped_iff stamped_push stamped_modify run_checkKey)
open Go.ChangeMaps (setBlock)

/-- The entries are l, and behind them one at k, of stamp st, with element z, that waits for its element. -/
def MidAt (w : World) (b : Nat) (l : Ents) (k : ByteArray) (z : Value) (st : Nat) : Prop :=
  ∃ (es : Array MapEntry) (clock : Nat), w.heap[b]? = some (.map (es.push ⟨.string k, z, st⟩) clock) ∧ Stamped (es.push ⟨.string k, z, st⟩) clock ∧ es.toList.map kvE = l.map encE ∧ (∀ p ∈ l, p.1.size ≤ maxLen) ∧ k.size ≤ maxLen

theorem MidAt.same {w w' : World} {b : Nat} {l : Ents} {k : ByteArray} {z : Value} {st : Nat} (h : MidAt w b l k z st) (he : w'.heap[b]? = w.heap[b]?) : MidAt w' b l k z st := by
  obtain ⟨es, clock, hb, r⟩ := h
  exact ⟨es, clock, he.trans hb, r⟩
theorem MidAt.lt {w : World} {b : Nat} {l : Ents} {k : ByteArray} {z : Value} {st : Nat} (h : MidAt w b l k z st) : b < w.heap.size := by
  obtain ⟨es, clock, hb, r⟩ := h
  exact (Array.getElem?_eq_some_iff.1 hb).1

section
variable {P : Program} {w : World} {b : Nat} {l : Ents} {t K E : TypeId}
theorem MapAt.entryNew (h : MapAt w b l) (ht : P.underlying t = some (.map K E)) (hK : P.underlying K = some .string) {z : Value} (hz : (zeroValue E).run P w = .ok z w) (k : ByteArray) (hk : k.size ≤ maxLen) (hnew : k ∉ l.map Prod.fst) :
    ∃ st w', (Instr.mapEntry t (.map (some b)) (.string k)).run P w = .ok (.tuple #[z, .int .i64 (st : Nat)]) w' ∧ MidAt w' b l k z st ∧ w.grownBy w' (some b) ∧ w'.heap.size = w.heap.size := by
  have hlt := h.lt
  obtain ⟨es, clock, hb, hs, hkv, hsz⟩ := h
  rcases find_cases hK w hkv k with ⟨h1, h2⟩ | ⟨j, e, p, h1, he, hp, hpk, hek, hev⟩
  · refine ⟨clock, setBlock w b (.map (es.push ⟨.string k, z, clock⟩) (clock + 1)), ?_, ⟨es, clock + 1, heap_setBlock _ _ _ hlt, stamped_push hs (fun x hx => ?_), hkv, hsz, hk⟩, grown_setBlock _ _ _, size_setBlock _ _ _⟩
    · simp [Instr.mapEntry, run_underlying ht, MapKept.run_getObj_map hb, run_checkKey (k := .string k) hK trivial, h1, hz, MapKept.run_setObj_map _ hb, Result.andThen, setBlock, goInt]
    · obtain ⟨p, hp, hpk, _⟩ := kv_mem' hkv hx
      rw [hpk]
      intro e
      injection e with e
      exact h2 p hp e
  · exact absurd (List.mem_map.2 ⟨p, List.mem_of_getElem? hp, hpk⟩) hnew
theorem MidAt.store {k : ByteArray} {z : Value} {st : Nat} (h : MidAt w b l k z st) (v : Value) :
    ∃ w', (Instr.entryStore t (.map (some b)) (.int .i64 (st : Nat)) v).run P w = .ok () w' ∧ MapAt w' b (l ++ [(k, v)]) ∧ w.grownBy w' (some b) ∧ w'.heap.size = w.heap.size := by
  have hlt := h.lt
  obtain ⟨es, clock, hb, hs, hkv, hsz, hk⟩ := h
  have hst := (stamped_iff _ _).1 hs
  have hfind : (es.push ⟨.string k, z, st⟩).findIdx? (fun e => (e.born : Int) == (st : Int)) = some es.size := by
    rw [Array.findIdx?_push]
    have hnone : es.findIdx? (fun e => (e.born : Int) == (st : Int)) = none := by
      rw [Array.findIdx?_eq_none_iff]
      intro x hx
      have h2 := hst.2.1
      simp only [Array.toList_push, List.map_append, List.map_cons, List.map_nil] at h2
      have h3 := (List.nodup_append.1 h2).2.2 x.born (List.mem_map.2 ⟨x, by simpa using hx, rfl⟩) st (by simp)
      simp
      omega
    rw [hnone]
    simp
  refine ⟨setBlock w b (.map ((es.push ⟨.string k, z, st⟩).modify es.size (fun e => { e with val := v })) clock), ?_, ⟨_, clock, heap_setBlock _ _ _ hlt, stamped_modify hs _ _ (fun _ _ => rfl) (fun _ _ _ => rfl), ?_, ?_⟩, grown_setBlock _ _ _, size_setBlock _ _ _⟩
  · simp only [Instr.entryStore, asInt, Sem.run_bind, MapKept.run_getObj_map hb, Result.andThen]
    simp [asIntOf, hfind, MapKept.run_setObj_map _ hb, setBlock]
  · rw [Array.toList_modify, Go.ChangeMaps.modify_eq_set _ _ _ ⟨.string k, z, st⟩ (by simp)]
    simp only [Array.toList_push, List.map_append, List.map_cons, List.map_nil, List.map_set]
    rw [← Array.length_toList, List.set_append_right _ _ (by simp)]
    simp [hkv, kvE, encE, kv_len hkv]
  · intro p hp
    rcases List.mem_append.1 hp with hp | hp
    · exact hsz p hp
    · rw [List.mem_singleton.1 hp]; exact hk
end

/-- Below B nothing has turned, and no row of cells has anywhere. -/
structure KeptW (B : Nat) (w w' : World) : Prop where
  below : Below B w w'
  cells : ∀ (k : Nat) (c : Array Value) (e : TypeId) (f : Nat × Nat), w.heap[k]? = some (.cells c e f) → w'.heap[k]? = some (.cells c e f)
theorem KeptW.refl (B : Nat) (w : World) : KeptW B w w := ⟨Below.refl _ _, fun _ _ _ _ h => h⟩
theorem KeptW.trans {B : Nat} {a b c : World} (h : KeptW B a b) (k : KeptW B b c) : KeptW B a c := ⟨h.below.trans k.below, fun _ _ _ _ h1 => k.cells _ _ _ _ (h.cells _ _ _ _ h1)⟩
theorem KeptW.mono {B B' : Nat} {w w' : World} (h : KeptW B w w') (hB : B' ≤ B) : KeptW B' w w' := ⟨h.below.mono hB, h.cells⟩
theorem KeptW.of_below {w w' : World} (h : Below w.heap.size w w') : KeptW w.heap.size w w' := ⟨h, fun k c e f hk => (h.block k (Array.getElem?_eq_some_iff.1 hk).1).trans hk⟩
theorem KeptW.of_map {w w' : World} {b B : Nat} {l : Ents} (h : MapAt w b l) (hg : w.grownBy w' (some b)) (hB : B ≤ b) : KeptW B w w' := by
  refine ⟨⟨hg.os, hg.tape, hg.output, hg.size, fun k hk => hg.block k (by have := h.lt; omega) (fun e => by injection e with e; omega)⟩, fun k c e f hk => ?_⟩
  refine (hg.block k (Array.getElem?_eq_some_iff.1 hk).1 (fun e1 => ?_)).trans hk
  injection e1 with e1
  obtain ⟨es, clock, hb, _⟩ := h
  rw [e1, hb] at hk
  cases hk
theorem KeptW.cell {B : Nat} {w w' : World} (h : KeptW B w w') {p : Addr} {v : Value} (hc : w.cell? p = some v) : w'.cell? p = some v := by
  unfold World.cell? at hc ⊢
  split at hc
  · rename_i c e f hh
    rw [h.cells _ _ _ _ hh]
    exact hc
  · cases hc
end Go.Proofs.Ytlccejbomgknkaa
