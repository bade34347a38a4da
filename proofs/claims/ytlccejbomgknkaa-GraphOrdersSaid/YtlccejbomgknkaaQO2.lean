/- Texts of this claim, merged; of each text just what the theorem uses: GMap, GBase, Iter, GRise, GEntry, GSeven, GAdd, GLink, GVisit, GOwn, GDist, GFar, GWay, GKahn, GOrder, Shelf, PGraphWaysx0, PGraphWaysx7, GHelp, GMade -/
import Derived.Test.YtlccejbomgknkaaQO1
import Derived.Maps.RangeWalk
import Derived.WalkKit
import Derived.Test.YtlccejbomgknkaaProg
import Derived.KernelRfl
import Derived.WalkSpells
import Derived.Lib.Hide
import Derived.Deep.LoopGhost
import Derived.Shelf.SlIter.Nil
import Derived.Shelf.SortM.Plain
import Derived.Shelf.SortM.SortNone
import Derived.Ground.GgzProg
import Derived.Ground.SlgmProg
import Derived.Deep.RegionHeld
import Derived.Laws.EntriesVeiled
import Derived.Maps.AppendAt
import Derived.RangeFuncBox
import Derived.Shelf.Sort.Plain
import Derived.Shelf.Slices.Turned
import Derived.Shelf.Slices.Equal
import Derived.Ground.Names2Prog
import Derived.Shelf.Slices.Clone
import Derived.Shelf.Slices.In.SortNone
import Derived.Shelf.Slices.Empties2
import Derived.Below
import Derived.Deep.Draws
import Derived.Deep.AppendLies
import Derived.OwnWalk
import Derived.Laws.BytesArg
import Derived.Laws.MakeOwn
import Derived.Laws.OwnMore
import Derived.Deep.OwnRows
import Derived.Tactics
import Derived.Lib.ConvBytes
import Derived.Laws.Slices
import Derived.RowKit3
import Derived.Deep.QuietTactic
import Derived.BigQuiet
import Derived.WideLaws
import Derived.Deep.DeepCutAuto
import Derived.Deep.CutBlock
import Derived.Deep.RegionHeld3
import Derived.Laws.Rows
import Derived.Lib.AppendStr
import Derived.ArgAppend
import Derived.Laws.IdiomCopy
import Derived.OrdersHeld
import Derived.Laws.BitsLemmas
import Derived.RowKit
namespace Go.Proofs.Ytlccejbomgknkaa
open Go.RowKit Go.Maps
open Go.MapKept (Stamped stamped_iff stamped_push stamped_modify stamped_erase run_findKey run_checkKey run_keyThatStays findNow_spec IsKey)
open Go.ChangeMaps (setBlock)
abbrev Ents := List (ByteArray × Value)
def encE (p : ByteArray × Value) : Value × Value := (Value.string p.1, p.2)
def kvE (e : MapEntry) : Value × Value := (e.key, e.val)
def MapAt (w : World) (b : Nat) (l : Ents) : Prop :=
  ∃ es clock, w.heap[b]? = some (.map es clock) ∧ Stamped es clock ∧ es.toList.map kvE = l.map encE ∧ ∀ p ∈ l, p.1.size ≤ maxLen
def getE (l : Ents) (k : ByteArray) : Option Value := (l.find? (fun p => decide (p.1 = k))).map (·.2)
def putE (l : Ents) (k : ByteArray) (v : Value) : Ents :=
  if l.any (fun p => decide (p.1 = k)) then l.map (fun p => if p.1 = k then (k, v) else p) else l ++ [(k, v)]
def delE (l : Ents) (k : ByteArray) : Ents := l.filter (fun p => decide (p.1 ≠ k))
theorem kv_len {es : Array MapEntry} {l : Ents} (h : es.toList.map kvE = l.map encE) : es.size = l.length := by
  have := congrArg List.length h
  simpa using this
theorem kv_get {es : Array MapEntry} {l : Ents} (h : es.toList.map kvE = l.map encE) {j : Nat} {e : MapEntry} (he : es[j]? = some e) : ∃ p, l[j]? = some p ∧ e.key = .string p.1 ∧ e.val = p.2 := by
  have h1 := congrArg (fun x => x[j]?) h
  simp only [List.getElem?_map] at h1
  rw [show es.toList[j]? = some e from by simpa using he] at h1
  cases hl : l[j]? with
  | none => rw [hl] at h1; cases h1
  | some p =>
    rw [hl] at h1
    simp only [Option.map_some, Option.some.injEq, kvE, encE, Prod.mk.injEq] at h1
    exact ⟨p, rfl, h1.1, h1.2⟩
theorem kv_mem {es : Array MapEntry} {l : Ents} (h : es.toList.map kvE = l.map encE) {p : ByteArray × Value} (hp : p ∈ l) : ∃ e ∈ es.toList, e.key = .string p.1 ∧ e.val = p.2 := by
  have : encE p ∈ es.toList.map kvE := by rw [h]; exact List.mem_map.2 ⟨p, hp, rfl⟩
  obtain ⟨e, he, hx⟩ := List.mem_map.1 this
  simp only [kvE, encE, Prod.mk.injEq] at hx
  exact ⟨e, he, hx.1, hx.2⟩
theorem kv_mem' {es : Array MapEntry} {l : Ents} (h : es.toList.map kvE = l.map encE) {e : MapEntry} (he : e ∈ es.toList) : ∃ p ∈ l, e.key = .string p.1 ∧ e.val = p.2 := by
  have : kvE e ∈ l.map encE := by rw [← h]; exact List.mem_map.2 ⟨e, he, rfl⟩
  obtain ⟨p, hp, hx⟩ := List.mem_map.1 this
  simp only [kvE, encE, Prod.mk.injEq] at hx
  exact ⟨p, hp, hx.1.symm, hx.2.symm⟩
theorem kv_nodup {es : Array MapEntry} {l : Ents} (h : es.toList.map kvE = l.map encE) (hs : es.toList.Pairwise (fun x y => x.key ≠ y.key)) : (l.map Prod.fst).Nodup := by
  have h1 : es.toList.map (·.key) = l.map (fun p => Value.string p.1) := by
    have := congrArg (List.map Prod.fst) h
    simpa [List.map_map, Function.comp_def, kvE, encE] using this
  have h2 : (es.toList.map (·.key)).Pairwise (· ≠ ·) := List.pairwise_map.2 hs
  rw [h1, List.pairwise_map] at h2
  rw [List.Nodup, List.pairwise_map]
  exact h2.imp (fun h e => h (by rw [e]))
theorem MapAt.nodup {w : World} {b : Nat} {l : Ents} (h : MapAt w b l) : (l.map Prod.fst).Nodup := by
  obtain ⟨es, clock, _, hs, hkv, _⟩ := h
  exact kv_nodup hkv ((stamped_iff es clock).1 hs).2.2
theorem MapAt.lt {w : World} {b : Nat} {l : Ents} (h : MapAt w b l) : b < w.heap.size := by
  obtain ⟨es, clock, hb, _⟩ := h
  exact (Array.getElem?_eq_some_iff.1 hb).1
theorem MapAt.same {w w' : World} {b : Nat} {l : Ents} (h : MapAt w b l) (he : w'.heap[b]? = w.heap[b]?) : MapAt w' b l := by
  obtain ⟨es, clock, hb, r⟩ := h
  exact ⟨es, clock, he.trans hb, r⟩
theorem MapAt.below {w w' : World} {b B : Nat} {l : Ents} (h : MapAt w b l) (hb : Below B w w') (hlt : b < B) : MapAt w' b l := h.same (hb.block b hlt)
theorem MapAt.alloc {w : World} {b : Nat} {l : Ents} (h : MapAt w b l) (o : Obj) : MapAt (w.alloc o) b l := h.same (Below.heap_alloc w o b h.lt)
theorem getE_none {l : Ents} {k : ByteArray} (h : ∀ p ∈ l, p.1 ≠ k) : getE l k = none := by
  unfold getE
  rw [List.find?_eq_none.2 (fun p hp => by simpa using h p hp)]
  rfl
theorem getE_some {l : Ents} {k : ByteArray} {j : Nat} {p : ByteArray × Value} (hn : (l.map Prod.fst).Nodup) (hj : l[j]? = some p) (hk : p.1 = k) : getE l k = some p.2 := by
  unfold getE
  have hm : p ∈ l := List.mem_of_getElem? hj
  cases hf : l.find? (fun p => decide (p.1 = k)) with
  | none => exact absurd (by simpa using List.find?_eq_none.1 hf p hm) (by simpa using hk)
  | some q =>
    have hq := List.find?_some hf
    have hqm := List.mem_of_find?_eq_some hf
    have : q = p := by
      have hinj : ∀ {l : Ents}, (l.map Prod.fst).Nodup → ∀ {x y}, x ∈ l → y ∈ l → x.1 = y.1 → x = y := by
        intro l
        induction l with
        | nil => intro _ x y hx; simp at hx
        | cons a r ih =>
          intro hn x y hx hy hxy
          rw [List.map_cons, List.nodup_cons] at hn
          rcases List.mem_cons.1 hx with ex | hx
          · rcases List.mem_cons.1 hy with ey | hy
            · rw [ex, ey]
            · exact absurd (List.mem_map.2 ⟨y, hy, by rw [← hxy, ex]⟩) hn.1
          · rcases List.mem_cons.1 hy with ey | hy
            · exact absurd (List.mem_map.2 ⟨x, hx, by rw [hxy, ey]⟩) hn.1
            · exact ih hn.2 hx hy hxy
      exact hinj hn hqm hm (by rw [hk]; simpa using hq)
    rw [this]
    rfl
theorem getE_mem {l : Ents} {k : ByteArray} {v : Value} (hn : (l.map Prod.fst).Nodup) : getE l k = some v ↔ (k, v) ∈ l := by
  constructor
  · intro h
    unfold getE at h
    cases hf : l.find? (fun p => decide (p.1 = k)) with
    | none => rw [hf] at h; cases h
    | some q =>
      rw [hf] at h
      have hq := List.find?_some hf
      have hqm := List.mem_of_find?_eq_some hf
      simp only [Option.map_some, Option.some.injEq] at h
      have e : q.1 = k := by simpa using hq
      rw [← e, ← h]
      exact hqm
  · intro h
    obtain ⟨j, hj⟩ := List.getElem?_of_mem h
    exact getE_some hn hj rfl
theorem getE_isNone {l : Ents} {k : ByteArray} : getE l k = none ↔ k ∉ l.map Prod.fst := by
  unfold getE
  simp only [Option.map_eq_none_iff, List.find?_eq_none, List.mem_map, not_exists, not_and]
  constructor
  · intro h p hp e
    exact h p hp (by simpa using e)
  · intro h p hp e
    exact h p hp (by simpa using e)
theorem putE_new {l : Ents} {k : ByteArray} (v : Value) (h : ∀ p ∈ l, p.1 ≠ k) : putE l k v = l ++ [(k, v)] := by
  unfold putE
  rw [if_neg]
  intro ha
  obtain ⟨p, hp, hk⟩ := List.any_eq_true.1 ha
  exact h p hp (by simpa using hk)
theorem putE_old {l : Ents} {k : ByteArray} (v : Value) {j : Nat} {p : ByteArray × Value} (hn : (l.map Prod.fst).Nodup) (hj : l[j]? = some p) (hk : p.1 = k) : putE l k v = l.set j (k, v) := by
  unfold putE
  have hm : p ∈ l := List.mem_of_getElem? hj
  rw [if_pos (List.any_eq_true.2 ⟨p, hm, by simpa using hk⟩)]
  refine List.ext_getElem? (fun i => ?_)
  rw [List.getElem?_map, List.getElem?_set]
  by_cases hi : j = i
  · subst hi
    have hlt : j < l.length := (List.getElem?_eq_some_iff.1 hj).1
    rw [hj, if_pos rfl, if_pos hlt]
    simp [hk]
  · rw [if_neg hi]
    cases hl : l[i]? with
    | none => rfl
    | some q =>
      have hne : q.1 ≠ k := by
        intro e
        have hli : i < l.length := (List.getElem?_eq_some_iff.1 hl).1
        have hlj : j < l.length := (List.getElem?_eq_some_iff.1 hj).1
        have h1 : (l.map Prod.fst)[i]? = (l.map Prod.fst)[j]? := by
          rw [List.getElem?_map, List.getElem?_map, hl, hj]
          simp [e, hk]
        exact hi ((List.getElem?_inj (by simpa using hli) hn).1 h1).symm
      simp [hne]
theorem mem_delE {l : Ents} {k : ByteArray} {p : ByteArray × Value} : p ∈ delE l k ↔ p ∈ l ∧ p.1 ≠ k := by
  simp [delE]
section
variable {P : Program} {w : World} {b : Nat} {l : Ents} {t K E : TypeId}
theorem size_setBlock (w : World) (b : Nat) (o : Obj) : (setBlock w b o).heap.size = w.heap.size := by simp [setBlock]
theorem heap_setBlock (w : World) (b : Nat) (o : Obj) (h : b < w.heap.size) : (setBlock w b o).heap[b]? = some o := by simp [setBlock, h]
theorem heap_setBlock_ne (w : World) {b k : Nat} (o : Obj) (h : k ≠ b) : (setBlock w b o).heap[k]? = w.heap[k]? := by
  simp [setBlock, Array.getElem?_setIfInBounds_ne (Ne.symm h)]
theorem grown_setBlock (w : World) (b : Nat) (o : Obj) : w.grownBy (setBlock w b o) (some b) :=
  ⟨rfl, rfl, rfl, by simp [setBlock], fun k _ hne => heap_setBlock_ne w o (fun e => hne (by rw [e]))⟩
theorem find_cases (hK : P.underlying K = some .string) (w : World) {es : Array MapEntry} (hkv : es.toList.map kvE = l.map encE) (k : ByteArray) :
    ((Instr.findKey K (.string k) es.toList).run P w = .ok none w ∧ ∀ p ∈ l, p.1 ≠ k) ∨ ∃ j e p, (Instr.findKey K (.string k) es.toList).run P w = .ok (some (j, e.val)) w ∧ es[j]? = some e ∧ l[j]? = some p ∧ p.1 = k ∧ e.key = .string k ∧ e.val = p.2 := by
  have hks : ∀ y ∈ es.toList, IsKey .string y.key := fun y hy => by
    obtain ⟨p, _, hp, _⟩ := kv_mem' hkv hy
    rw [hp]
    exact trivial
  rcases findNow_spec (d := .string) (k := .string k) trivial es.toList 0 hks with ⟨h1, h2⟩ | ⟨j, e0, h1, h2, h3⟩
  · refine .inl ⟨run_findKey hK h1, fun p hp e => ?_⟩
    obtain ⟨y, hy, hyk, _⟩ := kv_mem hkv hp
    exact h2 y hy (by rw [hyk, e])
  · have he : es[j]? = some e0 := by simpa using h2
    obtain ⟨p, hp, hpk, hpv⟩ := kv_get hkv he
    refine .inr ⟨j, e0, p, by simpa using run_findKey hK h1, he, hp, ?_, h3, hpv⟩
    rw [hpk] at h3
    injection h3
theorem MapAt.lookup (h : MapAt w b l) (ht : P.underlying t = some (.map K E)) (hK : P.underlying K = some .string) {z : Value} (hz : (zeroValue E).run P w = .ok z w) (k : ByteArray) (c : Bool) :
    (Instr.lookup t (.map (some b)) (.string k) c).run P w = .ok (if c then .tuple #[(getE l k).getD z, .bool (getE l k).isSome] else (getE l k).getD z) w := by
  have hn := h.nodup
  obtain ⟨es, clock, hb, hs, hkv, _⟩ := h
  rcases find_cases hK w hkv k with ⟨h1, h2⟩ | ⟨j, e, p, h1, he, hp, hpk, hek, hev⟩
  · rw [getE_none h2]
    simp [Instr.lookup, run_underlying ht, MapKept.run_getObj_map hb, run_checkKey (k := .string k) hK trivial, h1, hz, Result.andThen]
  · rw [getE_some hn hp hpk]
    simp [Instr.lookup, run_underlying ht, MapKept.run_getObj_map hb, run_checkKey (k := .string k) hK trivial, h1, hev, Result.andThen]
theorem MapAt.update (h : MapAt w b l) (ht : P.underlying t = some (.map K E)) (hK : P.underlying K = some .string) (k : ByteArray) (hk : k.size ≤ maxLen) (v : Value) :
    ∃ w', (Instr.mapUpdate t (.map (some b)) (.string k) v).run P w = .ok () w' ∧ MapAt w' b (putE l k v) ∧ w.grownBy w' (some b) ∧ w'.heap.size = w.heap.size := by
  have hn := h.nodup
  have hlt := h.lt
  obtain ⟨es, clock, hb, hs, hkv, hsz⟩ := h
  rcases find_cases hK w hkv k with ⟨h1, h2⟩ | ⟨j, e, p, h1, he, hp, hpk, hek, hev⟩
  · refine ⟨setBlock w b (.map (es.push ⟨.string k, v, clock⟩) (clock + 1)), ?_, ⟨_, _, heap_setBlock _ _ _ hlt, stamped_push hs (fun x hx => ?_), ?_, ?_⟩, grown_setBlock _ _ _, size_setBlock _ _ _⟩
    · simp [Instr.mapUpdate, run_underlying ht, MapKept.run_getObj_map hb, run_checkKey (k := .string k) hK trivial, h1, MapKept.run_setObj_map _ hb, Result.andThen, setBlock]
    · obtain ⟨p, hp, hpk, _⟩ := kv_mem' hkv hx
      rw [hpk]
      intro e
      injection e with e
      exact h2 p hp e
    · rw [putE_new v h2]
      simp [hkv, kvE, encE]
    · rw [putE_new v h2]
      intro p hp
      rcases List.mem_append.1 hp with hp | hp
      · exact hsz p hp
      · rw [List.mem_singleton.1 hp]; exact hk
  · have hjl : j < es.toList.length := by simpa using (Array.getElem?_eq_some_iff.1 he).1
    have hlist : (es.modify j (fun e' => { e' with key := .string k, val := v })).toList = es.toList.set j { e with key := .string k, val := v } := by
      rw [Array.toList_modify, Go.ChangeMaps.modify_eq_set _ _ _ _ (by simpa using he)]
    refine ⟨setBlock w b (.map (es.modify j (fun e' => { e' with key := .string k, val := v })) clock), ?_, ⟨_, _, heap_setBlock _ _ _ hlt, stamped_modify hs _ _ (fun _ _ => rfl) (fun e' _ he' => ?_), ?_, ?_⟩, grown_setBlock _ _ _, size_setBlock _ _ _⟩
    · simp [Instr.mapUpdate, run_underlying ht, MapKept.run_getObj_map hb, run_checkKey (k := .string k) hK trivial, h1, he, hek, run_keyThatStays (d := .string) (k := .string k) trivial, MapKept.run_setObj_map _ hb, Result.andThen, setBlock]
    · rw [he] at he'; cases he'; exact hek.symm
    · rw [putE_old v hn hp hpk, hlist, List.map_set, hkv, List.map_set]
      rfl
    · rw [putE_old v hn hp hpk]
      intro q hq
      rcases List.mem_or_eq_of_mem_set hq with hq | rfl
      · exact hsz q hq
      · exact hk
theorem MapAt.delete (h : MapAt w b l) (ht : P.underlying t = some (.map K E)) (hK : P.underlying K = some .string) (k : ByteArray) (ty : TypeId) :
    ∃ w', (Builtin.delete_ #[t, K] ty #[.map (some b), .string k]).run P w = .ok (.tuple #[]) w' ∧ MapAt w' b (delE l k) ∧ w.grownBy w' (some b) ∧ w'.heap.size = w.heap.size := by
  have hn := h.nodup
  have hlt := h.lt
  obtain ⟨es, clock, hb, hs, hkv, hsz⟩ := h
  rcases find_cases hK w hkv k with ⟨h1, h2⟩ | ⟨j, e, p, h1, he, hp, hpk, hek, hev⟩
  · have hd : delE l k = l := List.filter_eq_self.2 (fun p hp => by simpa using h2 p hp)
    refine ⟨setBlock w b (.map es clock), ?_, ⟨_, _, heap_setBlock _ _ _ hlt, hs, by rw [hd]; exact hkv, by rw [hd]; exact hsz⟩, grown_setBlock _ _ _, size_setBlock _ _ _⟩
    simp [Builtin.delete_, run_underlying ht, MapKept.run_getObj_map hb, run_checkKey (k := .string k) hK trivial, h1, MapKept.run_setObj_map _ hb, Result.andThen, setBlock]
  · have hd0 := Go.ChangeMaps.filter_eq_eraseIdx (fun q : ByteArray × Value => decide (q.1 = k)) l j p hp (by simpa using hpk) (by
      have h1 : l.Pairwise (fun a b => a.1 ≠ b.1) := List.pairwise_map.1 hn
      exact h1.imp (fun h ⟨h2, h3⟩ => h ((of_decide_eq_true h2).trans (of_decide_eq_true h3).symm)))
    have hd : delE l k = l.eraseIdx j := by
      rw [← hd0]
      unfold delE
      exact List.filter_congr (fun x _ => by simp)
    have hjs : j < es.size := (Array.getElem?_eq_some_iff.1 he).1
    have hsub : (es.eraseIdxIfInBounds j).toList = es.toList.eraseIdx j := by
      unfold Array.eraseIdxIfInBounds
      rw [dif_pos hjs]
      simp
    refine ⟨setBlock w b (.map (es.eraseIdxIfInBounds j) clock), ?_, ⟨_, _, heap_setBlock _ _ _ hlt, stamped_erase hs j, ?_, fun q hq => hsz q (mem_delE.1 hq).1⟩, grown_setBlock _ _ _, size_setBlock _ _ _⟩
    · simp [Builtin.delete_, run_underlying ht, MapKept.run_getObj_map hb, run_checkKey (k := .string k) hK trivial, h1, MapKept.run_setObj_map _ hb, Result.andThen, setBlock]
    · rw [hd, hsub, Go.ChangeMaps.map_eraseIdx, Go.ChangeMaps.map_eraseIdx, hkv]
theorem MapAt.len (h : MapAt w b l) (ht : P.underlying t = some (.map K E)) (ty : TypeId) : (Builtin.len_ #[t] ty #[.map (some b)]).run P w = .ok (.int .i64 l.length) w := by
  obtain ⟨es, clock, hb, hs, hkv, hsz⟩ := h
  simp [Builtin.len_, run_underlying ht, MapKept.run_getObj_map hb, Result.andThen, goInt, kv_len hkv]
theorem MapAt.made (w : World) : MapAt (w.alloc (.map #[] 0)) w.heap.size [] :=
  ⟨#[], 0, (MapKept.heap_alloc w _).1, (stamped_iff _ _).2 ⟨by simp, by simp, by simp⟩, rfl, by simp⟩
end
def IterAt (w : World) (b r : Nat) (l left : Ents) : Prop :=
  ∃ es clock since seen c0, w.heap[b]? = some (.map es clock) ∧ Stamped es clock ∧ es.toList.map kvE = l.map encE ∧ (∀ p ∈ l, p.1.size ≤ maxLen) ∧
    w.heap[r]? = some (.mapIter (some b) since seen c0) ∧ (∀ x ∈ es.toList, x.born < since) ∧ since ≤ c0 ∧ since ≤ clock ∧ (leftOf es seen).toList.map kvE = left.map encE
theorem IterAt.map {w : World} {b r : Nat} {l left : Ents} (h : IterAt w b r l left) : MapAt w b l := by
  obtain ⟨es, clock, since, seen, c0, hb, hs, hkv, hsz, _⟩ := h
  exact ⟨es, clock, hb, hs, hkv, hsz⟩
theorem IterAt.ne {w : World} {b r : Nat} {l left : Ents} (h : IterAt w b r l left) : r ≠ b := by
  obtain ⟨es, clock, since, seen, c0, hb, _, _, _, hr, _⟩ := h
  intro e
  rw [e, hb] at hr
  cases hr
theorem IterAt.lt {w : World} {b r : Nat} {l left : Ents} (h : IterAt w b r l left) : r < w.heap.size := by
  obtain ⟨es, clock, since, seen, c0, hb, _, _, _, hr, _⟩ := h
  exact (Array.getElem?_eq_some_iff.1 hr).1
theorem IterAt.same {w w' : World} {b r : Nat} {l left : Ents} (h : IterAt w b r l left) (hb' : w'.heap[b]? = w.heap[b]?) (hr' : w'.heap[r]? = w.heap[r]?) : IterAt w' b r l left := by
  obtain ⟨es, clock, since, seen, c0, hb, hs, hkv, hsz, hr, rest⟩ := h
  exact ⟨es, clock, since, seen, c0, hb'.trans hb, hs, hkv, hsz, hr'.trans hr, rest⟩
theorem IterAt.sub {w : World} {b r : Nat} {l left : Ents} (h : IterAt w b r l left) {p : ByteArray × Value} (hp : p ∈ left) : p ∈ l := by
  obtain ⟨es, clock, since, seen, c0, hb, hs, hkv, hsz, hr, h1, h2, h3, hl⟩ := h
  obtain ⟨e, he, hk, hv⟩ := kv_mem hl hp
  have hm : e ∈ es.toList := by unfold leftOf at he; simp at he ⊢; exact he.1
  obtain ⟨q, hq, hqk, hqv⟩ := kv_mem' hkv hm
  have : q = p := by
    refine Prod.ext ?_ ?_
    · rw [hqk] at hk; injection hk
    · rw [← hqv, hv]
  exact this ▸ hq
section
variable {P : Program} {w : World} {b r : Nat} {l left : Ents} {t K E : TypeId}
theorem MapAt.range (h : MapAt w b l) (ht : P.underlying t = some (.map K E)) :
    ∃ w', (Instr.range t (.map (some b))).run P w = .ok (.pointer (some ⟨w.heap.size, 0, none⟩)) w' ∧ IterAt w' b w.heap.size l l ∧ w.grownBy w' none ∧ w'.heap.size = w.heap.size + 1 := by
  have hlt := h.lt
  obtain ⟨es, clock, hb, hs, hkv, hsz⟩ := h
  refine ⟨_, run_range_map w t K E b es clock ht hb, ⟨es, clock, clock, #[], clock, ((MapKept.heap_alloc w _).2 b hlt).trans hb, hs, hkv, hsz, (MapKept.heap_alloc w _).1, ((stamped_iff es clock).1 hs).1, Nat.le_refl _, Nat.le_refl _, ?_⟩, World.grownBy_alloc w _ none, by simp⟩
  have : leftOf es #[] = es := by unfold leftOf; simp
  rw [this]
  exact hkv
def keyNe (k : ByteArray) : Value → Bool
  | .string s => decide (s ≠ k)
  | _ => true
theorem leftOf_push (es : Array MapEntry) (seen : Array Nat) (e : MapEntry) : (leftOf es (seen.push e.born)).toList = (leftOf es seen).toList.filter (fun x => decide (x.born ≠ e.born)) := by
  unfold leftOf
  simp only [Array.toList_filter, List.filter_filter]
  refine List.filter_congr (fun x _ => ?_)
  rw [contains_push]
  cases seen.contains x.born <;> by_cases hb : x.born = e.born <;> simp [hb]
theorem IterAt.next (h : IterAt w b r l left) (ty : TypeId) :
    (left = [] ∧ (Instr.next (.pointer (some ⟨r, 0, none⟩)) false ty).run P w = .ok (.tuple #[.bool false]) w) ∨
    ∃ p w', p ∈ left ∧ (Instr.next (.pointer (some ⟨r, 0, none⟩)) false ty).run P w = .ok (.tuple #[.bool true, .string p.1, p.2]) w' ∧
      IterAt w' b r l (delE left p.1) ∧ w.grownBy w' (some r) ∧ w'.heap.size = w.heap.size ∧ (Instr.entry (.pointer (some ⟨r, 0, none⟩))).run P w' = .ok (.tuple #[.string p.1, p.2]) w' := by
  have hne := h.ne
  obtain ⟨es, clock, since, seen, c0, hb, hs, hkv, hsz, hr, hold, hsc, hsk, hl⟩ := h
  have hst := (stamped_iff es clock).1 hs
  rcases run_next_at (P := P) w ty r b since c0 seen es clock hr hb hold hsc with ⟨h0, hrun⟩ | ⟨e, he, w1, hal, hrun⟩
  · refine .inl ⟨?_, hrun⟩
    have := kv_len hl
    rw [h0] at this
    exact List.eq_nil_of_length_eq_zero this.symm
  · obtain ⟨hem, hes⟩ := mem_left he
    obtain ⟨p, hp, hpk, hpv⟩ := kv_mem' hl he
    have hr1 : w1.heap[r]? = some (.mapIter (some b) since seen c0) := by rcases hal with rfl | rfl <;> exact hr
    have hb1 : w1.heap[b]? = some (.map es clock) := by rcases hal with rfl | rfl <;> exact hb
    have hset := MapKept.heap_set (o' := .mapIter (some b) since (seen.push e.born) clock) hr1
    have hb' : (setBlock w1 r (.mapIter (some b) since (seen.push e.born) clock)).heap[b]? = some (.map es clock) := (hset.2 b (fun e1 => hne e1.symm)).trans hb1
    have hent := run_entry_at (P := P) _ r b since seen es clock e hset.1 hb' hem hst.2.1
    rw [hpk, hpv] at hrun hent
    refine .inr ⟨p, _, hp, hrun, ⟨es, clock, since, seen.push e.born, clock, hb', hs, hkv, hsz, hset.1, hold, hsk, hsk, ?_⟩, ?_, ?_, hent⟩
    · rw [leftOf_push]
      have hkk : ∀ x ∈ (leftOf es seen).toList, decide (x.born ≠ e.born) = keyNe p.1 x.key := by
        intro x hx
        have hxm := (mem_left hx).1
        obtain ⟨q, _, hqk, _⟩ := kv_mem' hl hx
        rw [hqk]
        unfold keyNe
        by_cases hbe : x.born = e.born
        · have := born_inj hst.2.1 hxm hem hbe
          rw [this, hpk] at hqk
          injection hqk with hq
          simp [hbe, hq]
        · have : q.1 ≠ p.1 := fun e1 => hbe (congrArg MapEntry.born (entry_eq_of_key hst.2.2 hxm hem (by rw [hqk, hpk, e1])))
          simp [hbe, this]
      rw [List.filter_congr hkk]
      have h3 : (List.filter (fun x => keyNe p.1 x.key) (leftOf es seen).toList).map kvE = ((leftOf es seen).toList.map kvE).filter (fun y => keyNe p.1 y.1) := by
        rw [List.filter_map]
        rfl
      rw [h3, hl, List.filter_map]
      rfl
    · rcases hal with rfl | rfl <;> exact ⟨rfl, rfl, rfl, by simp [setBlock], fun i _ hi => hset.2 i (fun e1 => hi (by rw [e1]))⟩
    · rcases hal with rfl | rfl <;> simp [setBlock]
end
end Go.Proofs.Ytlccejbomgknkaa
namespace Go.Proofs.Ytlccejbomgknkaa
open Go.RowKit Go.Maps
open Go.ChangeMaps (setBlock)
section
variable {P : Program} (w : World) {ops : Array Oper} {rest : List Oper} {o : Oper} {a : Act} {Q : Exit → Act → World → Prop}
theorem wpList_lookAt (hg : o.guard = none) (m x : Operand) (t : TypeId) (hop : o.op = Op.lookup t m x false) (K E : TypeId) (ht : P.underlying t = some (.map K E)) (hK : P.underlying K = some .string) (z : Value) (hz : ∀ w, (zeroValue E).run P w = .ok z w)
    (b : Nat) (l : Ents) (h : MapAt w b l) (hm : a.eval m = .map (some b)) (k : ByteArray) (hx : a.eval x = .string k) (v : Value) (hv : (getE l k).getD z = v)
    (hN : wpList P ops Q rest (a.put o.dst v) w) : wpList P ops Q (o :: rest) a w := by
  refine wpList_plain hg fun K' hK' => ?_
  have hrun := h.lookup ht hK (hz w) k false
  unfold Oper.wp
  simp only [Bool.false_eq_true, if_false] at hrun
  simp [execOp, hop, hm, hx, hrun, hv, Result.andThen]
  exact hK' _ _ hN
theorem wpList_lookAtOk (hg : o.guard = none) (m x : Operand) (t : TypeId) (hop : o.op = Op.lookup t m x true) (K E : TypeId) (ht : P.underlying t = some (.map K E)) (hK : P.underlying K = some .string) (z : Value) (hz : ∀ w, (zeroValue E).run P w = .ok z w)
    (b : Nat) (l : Ents) (h : MapAt w b l) (hm : a.eval m = .map (some b)) (k : ByteArray) (hx : a.eval x = .string k) (v : Value) (r : Bool) (hv : (getE l k).getD z = v) (hr : (getE l k).isSome = r)
    (hN : wpList P ops Q rest (a.put o.dst (.tuple #[v, .bool r])) w) : wpList P ops Q (o :: rest) a w := by
  refine wpList_plain hg fun K' hK' => ?_
  have hrun := h.lookup ht hK (hz w) k true
  unfold Oper.wp
  simp only [if_true] at hrun
  simp [execOp, hop, hm, hx, hrun, hv, hr, Result.andThen]
  exact hK' _ _ hN
theorem wpList_putAt (hg : o.guard = none) (m x v : Operand) (t : TypeId) (hop : o.op = Op.mapUpdate t m x v) (K E : TypeId) (ht : P.underlying t = some (.map K E)) (hK : P.underlying K = some .string)
    (b : Nat) (l : Ents) (h : MapAt w b l) (hm : a.eval m = .map (some b)) (k : ByteArray) (hx : a.eval x = .string k) (hk : k.size ≤ maxLen) (u : Value) (hv : a.eval v = u)
    (hN : ∀ w', MapAt w' b (putE l k u) → w.grownBy w' (some b) → w'.heap.size = w.heap.size → wpList P ops Q rest (a.put o.dst undef) w') : wpList P ops Q (o :: rest) a w := by
  refine wpList_plain hg fun K' hK' => ?_
  obtain ⟨w', hrun, r1, r2, r3⟩ := h.update ht hK k hk u
  unfold Oper.wp
  simp [execOp, hop, hm, hx, hv, hrun, Result.andThen]
  exact hK' _ _ (hN w' r1 r2 r3)
theorem wpList_rangeAt (hg : o.guard = none) (m : Operand) (t : TypeId) (hop : o.op = Op.range t m) (K E : TypeId) (ht : P.underlying t = some (.map K E)) (b : Nat) (l : Ents) (h : MapAt w b l) (hm : a.eval m = .map (some b))
    (hN : ∀ w', IterAt w' b w.heap.size l l → w.grownBy w' none → w'.heap.size = w.heap.size + 1 → wpList P ops Q rest (a.put o.dst (.pointer (some ⟨w.heap.size, 0, none⟩))) w') : wpList P ops Q (o :: rest) a w := by
  refine wpList_plain hg fun K' hK' => ?_
  obtain ⟨w', hrun, r1, r2, r3⟩ := h.range ht
  unfold Oper.wp
  simp [execOp, hop, hm, hrun, Result.andThen]
  exact hK' _ _ (hN w' r1 r2 r3)
theorem wpList_nextAt (hg : o.guard = none) (it : Operand) (hop : o.op = Op.next it false) (b r : Nat) (l left : Ents) (h : IterAt w b r l left) (hit : a.eval it = .pointer (some ⟨r, 0, none⟩))
    (hDone : left = [] → wpList P ops Q rest (a.put o.dst (.tuple #[.bool false])) w)
    (hMore : ∀ (k : ByteArray) (v : Value) (w' : World), (k, v) ∈ left → IterAt w' b r l (delE left k) → w.grownBy w' (some r) → w'.heap.size = w.heap.size → (Instr.entry (.pointer (some ⟨r, 0, none⟩))).run P w' = .ok (.tuple #[.string k, v]) w' →
      wpList P ops Q rest (a.put o.dst (.tuple #[.bool true, .string k, v])) w') : wpList P ops Q (o :: rest) a w := by
  refine wpList_plain hg fun K' hK' => ?_
  unfold Oper.wp
  rcases h.next (P := P) o.type with ⟨h0, hrun⟩ | ⟨p, w', hp, hrun, hi, hgr, hsz, hen⟩
  · simp [execOp, hop, hit, hrun, Result.andThen]
    exact hK' _ _ (hDone h0)
  · simp [execOp, hop, hit, hrun, Result.andThen]
    exact hK' _ _ (hMore p.1 p.2 w' hp hi hgr hsz hen)
end
def encM (l : List (ByteArray × Nat)) : Ents := l.map (fun p => (p.1, .map (some p.2)))
def encS (s : List ByteArray) : Ents := s.map (fun x => (x, .bool true))
def SetAt (w : World) (b : Nat) (S : ByteArray → Prop) : Prop := ∃ s, MapAt w b (encS s) ∧ ∀ x, x ∈ s ↔ S x
abbrev Rel := ByteArray → ByteArray → Prop
structure Gr (w : World) (B g : Nat) (N : List ByteArray) (E : Rel) (bo bi : Nat) (lo li : List (ByteArray × Nat)) : Prop where
  cells : w.heap[g]? = some (.cells #[.map (some bo), .map (some bi)] 67 (0, 0))
  mo : MapAt w bo (encM lo)
  mi : MapAt w bi (encM li)
  no : lo.map Prod.fst = N
  ni : li.map Prod.fst = N
  so : ∀ p ∈ lo, SetAt w p.2 (E p.1)
  si : ∀ p ∈ li, SetAt w p.2 (fun x => E x p.1)
  apart : (bo :: bi :: (lo.map Prod.snd ++ li.map Prod.snd)).Nodup
  base : ∀ k ∈ g :: bo :: bi :: (lo.map Prod.snd ++ li.map Prod.snd), B ≤ k
  inN : ∀ x y, E x y → x ∈ N ∧ y ∈ N
def GraphAt (w : World) (B g : Nat) (N : List ByteArray) (E : Rel) : Prop := ∃ bo bi lo li, Gr w B g N E bo bi lo li
theorem Gr.cell0 {w : World} {B g bo bi : Nat} {N : List ByteArray} {E : Rel} {lo li : List (ByteArray × Nat)} (h : Gr w B g N E bo bi lo li) : w.cell? ⟨g, 0, none⟩ = some (.map (some bo)) := by
  simp [World.cell?, h.cells]
theorem Gr.cell1 {w : World} {B g bo bi : Nat} {N : List ByteArray} {E : Rel} {lo li : List (ByteArray × Nat)} (h : Gr w B g N E bo bi lo li) : w.cell? ⟨g, 1, none⟩ = some (.map (some bi)) := by
  simp [World.cell?, h.cells]
theorem zero70 (w : World) : (zeroValue 70).run Try.prog w = .ok (.map none) w := by kernel_rfl
theorem zero3 (w : World) : (zeroValue 3).run Try.prog w = .ok (.int .i64 0) w := by kernel_rfl
theorem getE_encM {l : List (ByteArray × Nat)} {k : ByteArray} {b : Nat} (hn : (l.map Prod.fst).Nodup) (h : (k, b) ∈ l) : getE (encM l) k = some (.map (some b)) := by
  refine (getE_mem ?_).2 (List.mem_map.2 ⟨_, h, rfl⟩)
  unfold encM
  rw [List.map_map]
  exact hn
theorem getE_encM_none {l : List (ByteArray × Nat)} {k : ByteArray} (h : k ∉ l.map Prod.fst) : getE (encM l) k = none := by
  refine getE_isNone.2 ?_
  unfold encM
  rw [List.map_map]
  exact h
theorem Gr.nodup {w : World} {B g bo bi : Nat} {N : List ByteArray} {E : Rel} {lo li : List (ByteArray × Nat)} (h : Gr w B g N E bo bi lo li) : N.Nodup := by
  have := h.mo.nodup
  unfold encM at this
  rw [List.map_map] at this
  rw [← h.no]
  exact this
theorem Gr.outOf {w : World} {B g bo bi : Nat} {N : List ByteArray} {E : Rel} {lo li : List (ByteArray × Nat)} (h : Gr w B g N E bo bi lo li) {k : ByteArray} (hk : k ∈ N) : ∃ b, (k, b) ∈ lo ∧ getE (encM lo) k = some (.map (some b)) ∧ SetAt w b (E k) := by
  rw [← h.no] at hk
  obtain ⟨p, hp, rfl⟩ := List.mem_map.1 hk
  exact ⟨p.2, hp, getE_encM (by rw [h.no]; exact h.nodup) hp, h.so p hp⟩
theorem Gr.inOf {w : World} {B g bo bi : Nat} {N : List ByteArray} {E : Rel} {lo li : List (ByteArray × Nat)} (h : Gr w B g N E bo bi lo li) {k : ByteArray} (hk : k ∈ N) : ∃ b, (k, b) ∈ li ∧ getE (encM li) k = some (.map (some b)) ∧ SetAt w b (fun x => E x k) := by
  rw [← h.ni] at hk
  obtain ⟨p, hp, rfl⟩ := List.mem_map.1 hk
  exact ⟨p.2, hp, getE_encM (by rw [h.ni]; exact h.nodup) hp, h.si p hp⟩
set_option maxRecDepth 100000 in
set_option maxHeartbeats 400000 in
theorem has_yes {w : World} {B g : Nat} {N : List ByteArray} {E : Rel} (h : GraphAt w B g N E) (nm : ByteArray) (hn : nm ∈ N) :
    Calls Try.prog 27 #[.pointer (some ⟨g, 0, none⟩), .string nm] w fun e w' => e = .returned (.bool true) ∧ w' = w := by
  obtain ⟨bo, bi, lo, li, hG⟩ := h
  have c0 := hG.cell0
  obtain ⟨b, _, hget, _⟩ := hG.outOf hn
  have hrun := hG.mo.lookup Try.underlying65 Try.underlying9 (zero70 w) nm false
  rw [hget] at hrun
  simp only [Bool.false_eq_true, if_false, Option.getD_some] at hrun
  clear hget hG
  have qm := fun (w : World) (r : Option Nat) => Go.run_neq_map_nil (P := Try.prog) w 70 9 4 r Try.underlying70
  go_enter Try.func27, Try.ntmps27
  go_wp2
  go_ret
  exact ⟨rfl, rfl⟩
set_option maxRecDepth 100000 in
set_option maxHeartbeats 400000 in
theorem has_no {w : World} {B g : Nat} {N : List ByteArray} {E : Rel} (h : GraphAt w B g N E) (nm : ByteArray) (hn : nm ∉ N) :
    Calls Try.prog 27 #[.pointer (some ⟨g, 0, none⟩), .string nm] w fun e w' => e = .returned (.bool false) ∧ w' = w := by
  obtain ⟨bo, bi, lo, li, hG⟩ := h
  have c0 := hG.cell0
  have hget : getE (encM lo) nm = none := getE_encM_none (by rw [hG.no]; exact hn)
  have hrun := hG.mo.lookup Try.underlying65 Try.underlying9 (zero70 w) nm false
  rw [hget] at hrun
  simp only [Bool.false_eq_true, if_false, Option.getD_none] at hrun
  clear hget hG hn
  have qm := fun (w : World) (r : Option Nat) => Go.run_neq_map_nil (P := Try.prog) w 70 9 4 r Try.underlying70
  go_enter Try.func27, Try.ntmps27
  go_wp2
  go_ret
  exact ⟨rfl, rfl⟩
end Go.Proofs.Ytlccejbomgknkaa
namespace Go.Proofs
open Go.Shelf
def Try.keys54_ren : Go.Shelf.Ren := ⟨fun | 7 => 54 | 10 => 70 | n => n, fun | 23 => 65 | 26 => 9 | 3 => 70 | 28 => 81 | 0 => 0 | 27 => 80 | 33 => 51 | 4 => 4 | n => n, fun | n => n⟩
theorem Try.keys54 : Go.Proofs.SlLaysZ.n7 Try.prog Try.keys54_ren := {
  mixed := by kernel_rfl
  f7 := ⟨Try.f54.name, by decide, Try.func54.trans (congrArg some (by kernel_rfl))⟩
  f10 := ⟨Try.f70.name, by decide, Try.func70.trans (congrArg some (by kernel_rfl))⟩
  t0 := Try.underlying0
  a0 := Try.isAgg0
  z0 := Try.sizeOf0
  v0 := Try.zeroValue0
  t4 := Try.underlying4
  a4 := Try.isAgg4
  z4 := Try.sizeOf4
  v4 := Try.zeroValue4
  t23 := Try.underlying65
  a23 := Try.isAgg65
  z23 := Try.sizeOf65
  v23 := Try.zeroValue65
  t26 := Try.underlying9
  a26 := Try.isAgg9
  z26 := Try.sizeOf9
  v26 := Try.zeroValue9
  t27 := Try.underlying80
  a27 := Try.isAgg80
  z27 := Try.sizeOf80
  v27 := Try.zeroValue80
  t28 := Try.underlying81
  a28 := Try.isAgg81
  z28 := Try.sizeOf81
  v28 := Try.zeroValue81
  t33 := Try.underlying51
  a33 := Try.isAgg51
  z33 := Try.sizeOf51
  v33 := Try.zeroValue51 }
def Try.sorted53_ren : Go.Shelf.Ren := ⟨fun | 6 => 53 | 8 => 69 | 9 => 34 | 11 => 79 | 13 => 51 | 12 => 50 | 23 => 67 | 24 => 68 | 14 => 58 | 15 => 59 | 16 => 60 | 17 => 61 | 18 => 62 | 19 => 63 | 20 => 64 | 21 => 65 | 22 => 66 | 25 => 74 | 26 => 75 | 27 => 76 | 28 => 77 | 29 => 78 | 30 => 73 | 31 => 80 | n => n, fun | 26 => 9 | 28 => 81 | 24 => 23 | 0 => 0 | 3 => 3 | 37 => 77 | 48 => 95 | 50 => 97 | 4 => 4 | 40 => 88 | 39 => 87 | 45 => 62 | 5 => 5 | 9 => 9 | 51 => 98 | 55 => 102 | 57 => 105 | 58 => 106 | 33 => 51 | n => n, fun | n => n⟩
theorem Try.sorted53 : Go.Proofs.SlLaysZ.n6 Try.prog Try.sorted53_ren := {
  mixed := by kernel_rfl
  f6 := ⟨Try.f53.name, by decide, Try.func53.trans (congrArg some (by kernel_rfl))⟩
  f8 := ⟨Try.f69.name, by decide, Try.func69.trans (congrArg some (by kernel_rfl))⟩
  f11 := ⟨Try.f79.name, by decide, Try.func79.trans (congrArg some (by kernel_rfl))⟩
  t0 := Try.underlying0
  a0 := Try.isAgg0
  z0 := Try.sizeOf0
  v0 := Try.zeroValue0
  t24 := Try.underlying23
  a24 := Try.isAgg23
  z24 := Try.sizeOf23
  v24 := Try.zeroValue23
  t26 := Try.underlying9
  a26 := Try.isAgg9
  z26 := Try.sizeOf9
  v26 := Try.zeroValue9
  t28 := Try.underlying81
  a28 := Try.isAgg81
  z28 := Try.sizeOf81
  v28 := Try.zeroValue81
  i26 := by kernel_rfl }
def Try.sort34_ren : Go.Shelf.Ren := ⟨fun | 6 => 34 | 8 => 51 | 9 => 50 | 19 => 67 | 20 => 68 | 21 => 58 | 22 => 59 | 23 => 60 | 24 => 61 | 25 => 62 | 26 => 63 | 27 => 64 | 28 => 65 | 29 => 66 | 36 => 74 | 31 => 75 | 32 => 76 | 37 => 77 | 38 => 78 | 39 => 73 | 41 => 80 | n => n, fun | 27 => 23 | 29 => 9 | 3 => 3 | 32 => 77 | 26 => 23 | 0 => 0 | 44 => 95 | 46 => 97 | 4 => 4 | 36 => 88 | 35 => 87 | 41 => 62 | 5 => 5 | 9 => 9 | 53 => 98 | 57 => 102 | 63 => 105 | 64 => 106 | n => n, fun | n => n⟩
theorem Try.sort34 : Go.Proofs.SlLaysM.n6 Try.prog Try.sort34_ren := {
  mixed := by kernel_rfl
  f6 := ⟨Try.f34.name, by decide, Try.func34.trans (congrArg some (by kernel_rfl))⟩
  f8 := Try.func51.trans (congrArg some (by kernel_rfl))
  f9 := ⟨Try.f50.name, by decide, Try.func50.trans (congrArg some (by kernel_rfl))⟩
  f19 := Try.func67.trans (congrArg some (by kernel_rfl))
  f20 := Try.func68.trans (congrArg some (by kernel_rfl))
  f21 := ⟨Try.f58.name, by decide, Try.func58.trans (congrArg some (by kernel_rfl))⟩
  f22 := ⟨Try.f59.name, by decide, Try.func59.trans (congrArg some (by kernel_rfl))⟩
  f23 := ⟨Try.f60.name, by decide, Try.func60.trans (congrArg some (by kernel_rfl))⟩
  f24 := ⟨Try.f61.name, by decide, Try.func61.trans (congrArg some (by kernel_rfl))⟩
  f25 := ⟨Try.f62.name, by decide, Try.func62.trans (congrArg some (by kernel_rfl))⟩
  f26 := ⟨Try.f63.name, by decide, Try.func63.trans (congrArg some (by kernel_rfl))⟩
  f27 := ⟨Try.f64.name, by decide, Try.func64.trans (congrArg some (by kernel_rfl))⟩
  f28 := ⟨Try.f65.name, by decide, Try.func65.trans (congrArg some (by kernel_rfl))⟩
  f29 := ⟨Try.f66.name, by decide, Try.func66.trans (congrArg some (by kernel_rfl))⟩
  f31 := Try.func75.trans (congrArg some (by kernel_rfl))
  f32 := Try.func76.trans (congrArg some (by kernel_rfl))
  f36 := ⟨Try.f74.name, by decide, Try.func74.trans (congrArg some (by kernel_rfl))⟩
  f37 := ⟨Try.f77.name, by decide, Try.func77.trans (congrArg some (by kernel_rfl))⟩
  f38 := ⟨Try.f78.name, by decide, Try.func78.trans (congrArg some (by kernel_rfl))⟩
  f39 := ⟨Try.f73.name, by decide, Try.func73.trans (congrArg some (by kernel_rfl))⟩
  f41 := ⟨Try.f80.name, by decide, Try.func80.trans (congrArg some (by kernel_rfl))⟩
  t0 := Try.underlying0
  a0 := Try.isAgg0
  z0 := Try.sizeOf0
  v0 := Try.zeroValue0
  t3 := Try.underlying3
  a3 := Try.isAgg3
  z3 := Try.sizeOf3
  v3 := Try.zeroValue3
  t4 := Try.underlying4
  a4 := Try.isAgg4
  z4 := Try.sizeOf4
  v4 := Try.zeroValue4
  t5 := Try.underlying5
  a5 := Try.isAgg5
  z5 := Try.sizeOf5
  v5 := Try.zeroValue5
  t9 := Try.underlying9
  a9 := Try.isAgg9
  z9 := Try.sizeOf9
  v9 := Try.zeroValue9
  t26 := Try.underlying23
  a26 := Try.isAgg23
  z26 := Try.sizeOf23
  v26 := Try.zeroValue23
  t27 := Try.underlying23
  a27 := Try.isAgg23
  z27 := Try.sizeOf23
  v27 := Try.zeroValue23
  t29 := Try.underlying9
  a29 := Try.isAgg9
  z29 := Try.sizeOf9
  v29 := Try.zeroValue9
  t32 := Try.underlying77
  a32 := Try.isAgg77
  z32 := Try.sizeOf77
  v32 := Try.zeroValue77
  t35 := Try.underlying87
  a35 := Try.isAgg87
  z35 := Try.sizeOf87
  v35 := Try.zeroValue87
  t36 := Try.underlying88
  a36 := Try.isAgg88
  z36 := Try.sizeOf88
  v36 := Try.zeroValue88
  t41 := Try.underlying62
  a41 := Try.isAgg62
  z41 := Try.sizeOf62
  v41 := Try.zeroValue62
  t44 := Try.underlying95
  a44 := Try.isAgg95
  z44 := Try.sizeOf95
  v44 := Try.zeroValue95
  t46 := Try.underlying97
  a46 := Try.isAgg97
  z46 := Try.sizeOf97
  v46 := Try.zeroValue97
  t53 := Try.underlying98
  a53 := Try.isAgg98
  z53 := Try.sizeOf98
  v53 := Try.zeroValue98
  t57 := Try.underlying102
  a57 := Try.isAgg102
  z57 := Try.sizeOf102
  v57 := Try.zeroValue102
  t63 := Try.underlying105
  a63 := Try.isAgg105
  z63 := Try.sizeOf105
  v63 := Try.zeroValue105
  t64 := Try.underlying106
  a64 := Try.isAgg106
  z64 := Try.sizeOf106
  v64 := Try.zeroValue106 }
def Try.keys55_ren : Go.Shelf.Ren := ⟨fun | 7 => 55 | 10 => 71 | n => n, fun | 23 => 69 | 26 => 9 | 3 => 4 | 28 => 81 | 0 => 0 | 27 => 80 | 33 => 51 | 4 => 4 | n => n, fun | n => n⟩
theorem Try.keys55 : Go.Proofs.SlLaysZ.n7 Try.prog Try.keys55_ren := {
  mixed := by kernel_rfl
  f7 := ⟨Try.f55.name, by decide, Try.func55.trans (congrArg some (by kernel_rfl))⟩
  f10 := ⟨Try.f71.name, by decide, Try.func71.trans (congrArg some (by kernel_rfl))⟩
  t0 := Try.underlying0
  a0 := Try.isAgg0
  z0 := Try.sizeOf0
  v0 := Try.zeroValue0
  t4 := Try.underlying4
  a4 := Try.isAgg4
  z4 := Try.sizeOf4
  v4 := Try.zeroValue4
  t23 := Try.underlying69
  a23 := Try.isAgg69
  z23 := Try.sizeOf69
  v23 := Try.zeroValue69
  t26 := Try.underlying9
  a26 := Try.isAgg9
  z26 := Try.sizeOf9
  v26 := Try.zeroValue9
  t27 := Try.underlying80
  a27 := Try.isAgg80
  z27 := Try.sizeOf80
  v27 := Try.zeroValue80
  t28 := Try.underlying81
  a28 := Try.isAgg81
  z28 := Try.sizeOf81
  v28 := Try.zeroValue81
  t33 := Try.underlying51
  a33 := Try.isAgg51
  z33 := Try.sizeOf51
  v33 := Try.zeroValue51 }
def Try.keys56_ren : Go.Shelf.Ren := ⟨fun | 7 => 56 | 10 => 72 | n => n, fun | 23 => 60 | 26 => 9 | 3 => 3 | 28 => 81 | 0 => 0 | 27 => 80 | 33 => 51 | 4 => 4 | n => n, fun | n => n⟩
theorem Try.keys56 : Go.Proofs.SlLaysZ.n7 Try.prog Try.keys56_ren := {
  mixed := by kernel_rfl
  f7 := ⟨Try.f56.name, by decide, Try.func56.trans (congrArg some (by kernel_rfl))⟩
  f10 := ⟨Try.f72.name, by decide, Try.func72.trans (congrArg some (by kernel_rfl))⟩
  t0 := Try.underlying0
  a0 := Try.isAgg0
  z0 := Try.sizeOf0
  v0 := Try.zeroValue0
  t4 := Try.underlying4
  a4 := Try.isAgg4
  z4 := Try.sizeOf4
  v4 := Try.zeroValue4
  t23 := Try.underlying60
  a23 := Try.isAgg60
  z23 := Try.sizeOf60
  v23 := Try.zeroValue60
  t26 := Try.underlying9
  a26 := Try.isAgg9
  z26 := Try.sizeOf9
  v26 := Try.zeroValue9
  t27 := Try.underlying80
  a27 := Try.isAgg80
  z27 := Try.sizeOf80
  v27 := Try.zeroValue80
  t28 := Try.underlying81
  a28 := Try.isAgg81
  z28 := Try.sizeOf81
  v28 := Try.zeroValue81
  t33 := Try.underlying51
  a33 := Try.isAgg51
  z33 := Try.sizeOf51
  v33 := Try.zeroValue51 }
open Go.RowKit Go.Maps Go.Sort Go.Shelf
theorem Try.sorts53 (m : Nat) : AnyZ.SortsIn Try.prog Try.sorted53_ren Fence.wide m :=
  ⟨fun blk off cap ss W hH hblk hsz => callsIn_wide.2 (AnyM.slices_Sort_string Try.sort34 blk off cap ss W hH hblk hsz),
   fun p cap W => callsIn_wide.2 (AnyM.slices_Sort_string_none Try.sort34 p cap W)⟩
theorem Try.maps_Keys_54 (mb : Option Nat) (W : World) : CallsIn Fence.wide 5 Try.prog 54 #[.map mb] W fun e w' => e = .returned (.func (.func 70) #[] #[.pointer (some ⟨W.heap.size, 0, none⟩)]) ∧ w' = W.alloc (.cells #[.map mb] 65) :=
  AnyZ.keys_in Try.keys54 Fence.wide 5 trivial rfl mb W
theorem Try.slices_Sorted_keys_53_54 {H : Type} (b nn : Nat) (D0 : DataW H) (R : Value → Option (DataW H × List MemPlace)) (w : World) (hown : w.ownsMap Try.prog 9 R b nn D0) (hmax : Maps.size D0 ≤ maxLen) (hbytes : Maps.size D0 * 16 ≤ 140737488355328) :
    CallsIn Fence.wide 5 Try.prog 53 #[.func (.func 70) #[] #[.pointer (some ⟨w.heap.size, 0, none⟩)]] (w.alloc (.cells #[.map (some b)] 65)) fun e w' => ∃ (v : Value) (ss : List (List UInt8)), e = .returned v ∧ ss.Perm (strKeys D0) ∧
      w'.ownsRow (w.alloc (.cells #[.map (some b)] 65)).heap.size 9 1 v ss.length ((ss.mergeSort (fun x y => decide (x ≤ y))).map encStr) ∧ (v = .slice none 0 0 ↔ ss = []) ∧ Below (w.alloc (.cells #[.map (some b)] 65)).heap.size (w.alloc (.cells #[.map (some b)] 65)) w' := by
  have hbl := hown.lt
  have hseq : SeqGives Fence.wide 2 Try.prog 70 #[.pointer (some ⟨w.heap.size, 0, none⟩)] encStr (fun ss => ss.Perm (strKeys D0)) (Maps.size D0) (w.alloc (.cells #[.map (some b)] 65)) :=
    AnyZ.keys_gives (ρ := Try.keys54_ren) { Try.keys54 with } Fence.wide _ trivial rfl (by omega) w.heap.size b nn D0 _ (by simp) (by simp) (by
      obtain ⟨es, clock, hb, Ft, hs, hD⟩ := hown
      exact ⟨es, clock, (Below.heap_alloc _ _ b hbl).trans hb, Ft, hs, hD⟩)
  exact AnyZ.sorted_in Try.sorted53 Fence.wide 5 trivial trivial trivial trivial rfl (by omega) (Try.sorts53 _) (enters_of Try.func34 (by kernel_rfl) rfl) 70 #[.pointer (some ⟨w.heap.size, 0, none⟩)] trivial (enters_of Try.func70 (by kernel_rfl) rfl) _ _ hmax hbytes _ hseq
theorem Try.maps_Keys_55 (mb : Option Nat) (W : World) : CallsIn Fence.wide 5 Try.prog 55 #[.map mb] W fun e w' => e = .returned (.func (.func 71) #[] #[.pointer (some ⟨W.heap.size, 0, none⟩)]) ∧ w' = W.alloc (.cells #[.map mb] 69) :=
  AnyZ.keys_in Try.keys55 Fence.wide 5 trivial rfl mb W
theorem Try.slices_Sorted_keys_53_55 {H : Type} (b nn : Nat) (D0 : DataW H) (R : Value → Option (DataW H × List MemPlace)) (w : World) (hown : w.ownsMap Try.prog 9 R b nn D0) (hmax : Maps.size D0 ≤ maxLen) (hbytes : Maps.size D0 * 16 ≤ 140737488355328) :
    CallsIn Fence.wide 5 Try.prog 53 #[.func (.func 71) #[] #[.pointer (some ⟨w.heap.size, 0, none⟩)]] (w.alloc (.cells #[.map (some b)] 69)) fun e w' => ∃ (v : Value) (ss : List (List UInt8)), e = .returned v ∧ ss.Perm (strKeys D0) ∧
      w'.ownsRow (w.alloc (.cells #[.map (some b)] 69)).heap.size 9 1 v ss.length ((ss.mergeSort (fun x y => decide (x ≤ y))).map encStr) ∧ (v = .slice none 0 0 ↔ ss = []) ∧ Below (w.alloc (.cells #[.map (some b)] 69)).heap.size (w.alloc (.cells #[.map (some b)] 69)) w' := by
  have hbl := hown.lt
  have hseq : SeqGives Fence.wide 2 Try.prog 71 #[.pointer (some ⟨w.heap.size, 0, none⟩)] encStr (fun ss => ss.Perm (strKeys D0)) (Maps.size D0) (w.alloc (.cells #[.map (some b)] 69)) :=
    AnyZ.keys_gives (ρ := Try.keys55_ren) { Try.keys55 with } Fence.wide _ trivial rfl (by omega) w.heap.size b nn D0 _ (by simp) (by simp) (by
      obtain ⟨es, clock, hb, Ft, hs, hD⟩ := hown
      exact ⟨es, clock, (Below.heap_alloc _ _ b hbl).trans hb, Ft, hs, hD⟩)
  exact AnyZ.sorted_in Try.sorted53 Fence.wide 5 trivial trivial trivial trivial rfl (by omega) (Try.sorts53 _) (enters_of Try.func34 (by kernel_rfl) rfl) 71 #[.pointer (some ⟨w.heap.size, 0, none⟩)] trivial (enters_of Try.func71 (by kernel_rfl) rfl) _ _ hmax hbytes _ hseq
theorem Try.slices_Sorted_keys_nil_53_55 (w : World) :
    CallsIn Fence.wide 5 Try.prog 53 #[.func (.func 71) #[] #[.pointer (some ⟨w.heap.size, 0, none⟩)]] (w.alloc (.cells #[.map none] 69)) fun e w' => ∃ (v : Value) (ss : List (List UInt8)), e = .returned v ∧ ss = [] ∧
      w'.ownsRow (w.alloc (.cells #[.map none] 69)).heap.size 9 1 v ss.length ((ss.mergeSort (fun x y => decide (x ≤ y))).map encStr) ∧ (v = .slice none 0 0 ↔ ss = []) ∧ Below (w.alloc (.cells #[.map none] 69)).heap.size (w.alloc (.cells #[.map none] 69)) w' := by
  have hseq : SeqGives Fence.wide 2 Try.prog 71 #[.pointer (some ⟨w.heap.size, 0, none⟩)] encStr (fun ss : List (List UInt8) => ss = []) 0 (w.alloc (.cells #[.map none] 69)) :=
    AnyZ.keys_gives_nil (ρ := Try.keys55_ren) { Try.keys55 with } Fence.wide _ trivial rfl w.heap.size _ (by simp) (by simp)
  exact AnyZ.sorted_in Try.sorted53 Fence.wide 5 trivial trivial trivial trivial rfl (by omega) (Try.sorts53 _) (enters_of Try.func34 (by kernel_rfl) rfl) 71 #[.pointer (some ⟨w.heap.size, 0, none⟩)] trivial (enters_of Try.func71 (by kernel_rfl) rfl) _ 0 (Nat.zero_le _) (by omega) _ hseq
theorem Try.maps_Keys_56 (mb : Option Nat) (W : World) : CallsIn Fence.wide 5 Try.prog 56 #[.map mb] W fun e w' => e = .returned (.func (.func 72) #[] #[.pointer (some ⟨W.heap.size, 0, none⟩)]) ∧ w' = W.alloc (.cells #[.map mb] 60) :=
  AnyZ.keys_in Try.keys56 Fence.wide 5 trivial rfl mb W
theorem Try.slices_Sorted_keys_53_56 {H : Type} (b nn : Nat) (D0 : DataW H) (R : Value → Option (DataW H × List MemPlace)) (w : World) (hown : w.ownsMap Try.prog 9 R b nn D0) (hmax : Maps.size D0 ≤ maxLen) (hbytes : Maps.size D0 * 16 ≤ 140737488355328) :
    CallsIn Fence.wide 5 Try.prog 53 #[.func (.func 72) #[] #[.pointer (some ⟨w.heap.size, 0, none⟩)]] (w.alloc (.cells #[.map (some b)] 60)) fun e w' => ∃ (v : Value) (ss : List (List UInt8)), e = .returned v ∧ ss.Perm (strKeys D0) ∧
      w'.ownsRow (w.alloc (.cells #[.map (some b)] 60)).heap.size 9 1 v ss.length ((ss.mergeSort (fun x y => decide (x ≤ y))).map encStr) ∧ (v = .slice none 0 0 ↔ ss = []) ∧ Below (w.alloc (.cells #[.map (some b)] 60)).heap.size (w.alloc (.cells #[.map (some b)] 60)) w' := by
  have hbl := hown.lt
  have hseq : SeqGives Fence.wide 2 Try.prog 72 #[.pointer (some ⟨w.heap.size, 0, none⟩)] encStr (fun ss => ss.Perm (strKeys D0)) (Maps.size D0) (w.alloc (.cells #[.map (some b)] 60)) :=
    AnyZ.keys_gives (ρ := Try.keys56_ren) { Try.keys56 with } Fence.wide _ trivial rfl (by omega) w.heap.size b nn D0 _ (by simp) (by simp) (by
      obtain ⟨es, clock, hb, Ft, hs, hD⟩ := hown
      exact ⟨es, clock, (Below.heap_alloc _ _ b hbl).trans hb, Ft, hs, hD⟩)
  exact AnyZ.sorted_in Try.sorted53 Fence.wide 5 trivial trivial trivial trivial rfl (by omega) (Try.sorts53 _) (enters_of Try.func34 (by kernel_rfl) rfl) 72 #[.pointer (some ⟨w.heap.size, 0, none⟩)] trivial (enters_of Try.func72 (by kernel_rfl) rfl) _ _ hmax hbytes _ hseq
end Go.Proofs
namespace Go.Proofs.Ytlccejbomgknkaa
open Go.RowKit Go.Maps Go.Proofs.YtlccejbomgknkaaW.PrintWords
open Go.WideElems (Fit rd rg rg_of rd_mk)
def bs (s : ByteArray) : List UInt8 := s.data.toList
theorem bs_inj {a b : ByteArray} (h : bs a = bs b) : a = b := Go.WideShapes.bytes_inj h
def Rise (r : List ByteArray) : Prop := r.Pairwise (fun a b => bs a < bs b)
theorem rise_nodup {r : List ByteArray} (h : Rise r) : r.Nodup := by
  refine List.Pairwise.imp ?_ h
  intro a b hab e
  rw [e] at hab
  exact List.lt_irrefl _ hab
theorem nodup_len {α : Type} : ∀ {s N : List α}, s.Nodup → (∀ x, x ∈ s → x ∈ N) → s.length ≤ N.length
  | [], N, _, _ => by simp
  | a :: t, N, hn, hs => by
    rw [List.nodup_cons] at hn
    obtain ⟨l1, l2, rfl⟩ := List.append_of_mem (hs a (by simp))
    have := nodup_len (N := l1 ++ l2) hn.2 (fun x hx => by
      have h1 := hs x (by simp [hx])
      simp only [List.mem_append, List.mem_cons] at h1 ⊢
      rcases h1 with h1 | rfl | h1
      · exact .inl h1
      · exact absurd hx hn.1
      · exact .inr h1)
    simp only [List.length_append, List.length_cons] at this ⊢
    omega
theorem rise_of_sort {ss : List (List UInt8)} (hn : ss.Nodup) : Rise ((ss.mergeSort (fun x y => decide (x ≤ y))).map (fun x => (⟨x.toArray⟩ : ByteArray))) := by
  have hp : (ss.mergeSort (fun x y => decide (x ≤ y))).Pairwise (fun a b => decide (a ≤ b) = true) := by
    refine List.pairwise_mergeSort (le := fun x y : List UInt8 => decide (x ≤ y)) ?_ ?_ ss
    · intro a b c h1 h2
      simp only [decide_eq_true_eq] at *
      exact List.le_trans h1 h2
    · intro a b
      simp only [Bool.or_eq_true, decide_eq_true_eq]
      exact List.le_total a b
  have hn' : (ss.mergeSort (fun x y => decide (x ≤ y))).Nodup := (List.mergeSort_perm ss _).nodup_iff.2 hn
  unfold Rise
  rw [List.pairwise_map]
  refine (hp.and hn').imp ?_
  rintro a b ⟨h1, h2⟩
  simp only [decide_eq_true_eq] at h1
  simp only [bs]
  rcases List.le_total b a with h3 | h3
  · exact absurd (List.le_antisymm h1 h3) h2
  · exact Decidable.byContradiction fun hlt => h2 (List.le_antisymm h1 (List.not_lt.1 hlt))
def rdNil (_ : Value) : Option (DataW Unit × List MemPlace) := some (.nil, [])
theorem ownsMap_of_at {w : World} {b : Nat} {l : Ents} (h : MapAt w b l) (hl : l.length ≤ maxLen) :
    ∃ D : DataW Unit, w.ownsMap Try.prog 9 rdNil b l.length D ∧ Maps.size D = l.length ∧ (strKeys D).Perm (l.map (fun p => bs p.1)) := by
  obtain ⟨es, clock, hb, hs, hkv, hsz⟩ := h
  have hlen := kv_len hkv
  have hrd : ∀ x ∈ es.toList, ∃ p ∈ l, x.key = .string p.1 ∧ rd Try.prog 9 rdNil x = some (.string (bs p.1), .nil) := by
    intro x hx
    obtain ⟨p, hp, hpk, _⟩ := kv_mem' hkv hx
    refine ⟨p, hp, hpk, ?_⟩
    have := rd_mk (P := Try.prog) (k := 9) (R := rdNil) (key := x.key) (val := x.val) (born := x.born) (by rw [hpk]; exact Go.WideMaps.keyOf_string_mk Try.underlying9 (hsz p hp)) rfl
    exact this
  refine ⟨_, ⟨es, clock, hb, ⟨by rw [hlen]; exact hl, hs, fun x hx => by obtain ⟨_, _, _, h⟩ := hrd x hx; exact ⟨_, h⟩⟩, by rw [hlen]; exact Nat.le_refl _, rfl⟩, ?_, ?_⟩
  · have hp := (Go.WideShapes.sorted_perm (es.toList.map (rg Try.prog 9 rdNil))).length_eq
    show List.length _ = _
    rw [hp, List.length_map, Array.length_toList, hlen]
  · have hp := (Go.WideShapes.sorted_perm (es.toList.map (rg Try.prog 9 rdNil))).map (fun p => strOf p.1)
    refine hp.trans ?_
    rw [List.map_map]
    have h1 : es.toList.map ((fun p => strOf p.1) ∘ rg Try.prog 9 rdNil) = es.toList.map (fun x => match x.key with | .string s => bs s | _ => []) := by
      refine List.map_congr_left (fun x hx => ?_)
      obtain ⟨p, _, hpk, hr⟩ := hrd x hx
      simp only [Function.comp, rg_of hr, strOf, hpk]
    have h2 : es.toList.map (fun x => match x.key with | .string s => bs s | _ => []) = l.map (fun p => bs p.1) := by
      have h3 := congrArg (List.map (fun (y : Value × Value) => match y.1 with | .string s => bs s | _ => [])) hkv
      rw [List.map_map, List.map_map] at h3
      exact h3
    rw [h1, h2]
theorem sorted_result {w' : World} {l : Ents} {D : DataW Unit} {v : Value} {ss : List (List UInt8)} {base : Nat} (hn : (l.map Prod.fst).Nodup) (hk : (strKeys D).Perm (l.map (fun p => bs p.1))) (hS : ss.Perm (strKeys D))
    (hrow : w'.ownsRow base 9 1 v ss.length ((ss.mergeSort (fun x y => decide (x ≤ y))).map encStr)) :
    ∃ r : List ByteArray, Rise r ∧ (∀ x, x ∈ r ↔ x ∈ l.map Prod.fst) ∧ Kd.R Kd.string 9 w' base (fun _ => True) v r := by
  have hp := hS.trans hk
  have hnd : ss.Nodup := by
    rw [hp.nodup_iff]
    have h1 : l.map (fun p => bs p.1) = (l.map Prod.fst).map bs := by rw [List.map_map]; rfl
    rw [h1, List.Nodup, List.pairwise_map]
    exact hn.imp (fun h e => h (bs_inj e))
  refine ⟨(ss.mergeSort (fun x y => decide (x ≤ y))).map (fun x => (⟨x.toArray⟩ : ByteArray)), rise_of_sort hnd, fun x => ?_, ?_⟩
  · rw [List.mem_map]
    constructor
    · rintro ⟨y, hy, rfl⟩
      have := hp.mem_iff.1 ((List.mergeSort_perm ss _).mem_iff.1 hy)
      obtain ⟨p, hp', hpe⟩ := List.mem_map.1 this
      refine List.mem_map.2 ⟨p, hp', bs_inj ?_⟩
      rw [hpe]
      simp [bs]
    · intro hx
      obtain ⟨p, hp', rfl⟩ := List.mem_map.1 hx
      refine ⟨bs p.1, (List.mergeSort_perm ss _).mem_iff.2 (hp.mem_iff.2 (List.mem_map.2 ⟨p, hp', rfl⟩)), bs_inj ?_⟩
      simp [bs]
  · refine Kd.R_of_own (enc := Value.string) (h1 := fun _ => rfl) ?_ (fun _ _ => trivial)
    have e1 : encs Value.string ((ss.mergeSort (fun x y => decide (x ≤ y))).map (fun x => (⟨x.toArray⟩ : ByteArray))) = (ss.mergeSort (fun x y => decide (x ≤ y))).map encStr := by
      unfold encs
      rw [List.map_map]
      rfl
    rw [e1, List.length_map, (List.mergeSort_perm ss _).length_eq]
    exact hrow
def Listed (w : World) (S : ByteArray → Prop) (e : Ending) (w' : World) : Prop :=
  ∃ (v : Value) (r : List ByteArray), e = .returned v ∧ Rise r ∧ (∀ x, x ∈ r ↔ S x) ∧ Kd.R Kd.string 9 w' w.heap.size (fun _ => True) v r ∧ Below w.heap.size w w'
open Go.Sort Go.Shelf in
set_option maxHeartbeats 1000000 in
theorem sorted44 {w : World} {b : Nat} {l : Ents} (h : MapAt w b l) (hl : l.length ≤ 1000000) :
    Calls Try.prog 44 #[.map (some b)] w (Listed w (fun x => x ∈ l.map Prod.fst)) := by
  obtain ⟨D0, hown, hsize, hkeys⟩ := ownsMap_of_at h (by unfold maxLen; omega)
  have hnd := h.nodup
  have hmax : Maps.size D0 ≤ maxLen := by rw [hsize]; unfold maxLen; omega
  have hbytes : Maps.size D0 * 16 ≤ 140737488355328 := by rw [hsize]; omega
  refine (callsIn_wide (n := 6)).1 ?_
  have hfK : Fence.wide.fn 54 := trivial
  have hfS : Fence.wide.fn 53 := trivial
  refine callsIn_of_wp Try.func44 rfl trivial ?_ rfl
  simp only [Try.ntmps44, List.size_toArray, List.length_cons, List.length_nil, Nat.reduceAdd, Nat.reduceSub, Array.replicate_succ, Array.replicate_zero, List.push_toArray, List.append_toArray, List.nil_append, List.cons_append]
  have H1 := Lib.hid hkeys
  have H2 := Lib.hid hnd
  clear hkeys hnd hsize
  gi_wp2_with (first
    | (gi_at_call 54; refine (Try.maps_Keys_54 _ _).mono ?_; rintro e w' ⟨rfl, rfl⟩)
    | (gi_at_call 53; refine (Try.slices_Sorted_keys_53_54 b l.length D0 rdNil w hown hmax hbytes).mono ?_; rintro e w' ⟨v, ss, rfl, hS, hrow, hnil, hb⟩))
  go_ret
  obtain ⟨r, r1, r2, r3⟩ := sorted_result H2.out H1.out hS (ownsRow_base_a hrow (base' := w.heap.size) (by simp))
  exact ⟨v, r, rfl, r1, r2, r3, ((Below.refl _ w).alloc (Nat.le_refl _) _).trans (hb.mono (by simp))⟩
open Go.Sort Go.Shelf in
set_option maxHeartbeats 1000000 in
theorem sorted46 {w : World} {b : Nat} {l : Ents} (h : MapAt w b l) (hl : l.length ≤ 1000000) :
    Calls Try.prog 46 #[.map (some b)] w (Listed w (fun x => x ∈ l.map Prod.fst)) := by
  obtain ⟨D0, hown, hsize, hkeys⟩ := ownsMap_of_at h (by unfold maxLen; omega)
  have hnd := h.nodup
  have hmax : Maps.size D0 ≤ maxLen := by rw [hsize]; unfold maxLen; omega
  have hbytes : Maps.size D0 * 16 ≤ 140737488355328 := by rw [hsize]; omega
  refine (callsIn_wide (n := 6)).1 ?_
  have hfK : Fence.wide.fn 55 := trivial
  have hfS : Fence.wide.fn 53 := trivial
  refine callsIn_of_wp Try.func46 rfl trivial ?_ rfl
  simp only [Try.ntmps46, List.size_toArray, List.length_cons, List.length_nil, Nat.reduceAdd, Nat.reduceSub, Array.replicate_succ, Array.replicate_zero, List.push_toArray, List.append_toArray, List.nil_append, List.cons_append]
  have H1 := Lib.hid hkeys
  have H2 := Lib.hid hnd
  clear hkeys hnd hsize
  gi_wp2_with (first
    | (gi_at_call 55; refine (Try.maps_Keys_55 _ _).mono ?_; rintro e w' ⟨rfl, rfl⟩)
    | (gi_at_call 53; refine (Try.slices_Sorted_keys_53_55 b l.length D0 rdNil w hown hmax hbytes).mono ?_; rintro e w' ⟨v, ss, rfl, hS, hrow, hnil, hb⟩))
  go_ret
  obtain ⟨r, r1, r2, r3⟩ := sorted_result H2.out H1.out hS (ownsRow_base_a hrow (base' := w.heap.size) (by simp))
  exact ⟨v, r, rfl, r1, r2, r3, ((Below.refl _ w).alloc (Nat.le_refl _) _).trans (hb.mono (by simp))⟩
open Go.Sort Go.Shelf in
set_option maxHeartbeats 1000000 in
theorem sorted47 {w : World} {b : Nat} {l : Ents} (h : MapAt w b l) (hl : l.length ≤ 1000000) :
    Calls Try.prog 47 #[.map (some b)] w (Listed w (fun x => x ∈ l.map Prod.fst)) := by
  obtain ⟨D0, hown, hsize, hkeys⟩ := ownsMap_of_at h (by unfold maxLen; omega)
  have hnd := h.nodup
  have hmax : Maps.size D0 ≤ maxLen := by rw [hsize]; unfold maxLen; omega
  have hbytes : Maps.size D0 * 16 ≤ 140737488355328 := by rw [hsize]; omega
  refine (callsIn_wide (n := 6)).1 ?_
  have hfK : Fence.wide.fn 56 := trivial
  have hfS : Fence.wide.fn 53 := trivial
  refine callsIn_of_wp Try.func47 rfl trivial ?_ rfl
  simp only [Try.ntmps47, List.size_toArray, List.length_cons, List.length_nil, Nat.reduceAdd, Nat.reduceSub, Array.replicate_succ, Array.replicate_zero, List.push_toArray, List.append_toArray, List.nil_append, List.cons_append]
  have H1 := Lib.hid hkeys
  have H2 := Lib.hid hnd
  clear hkeys hnd hsize
  gi_wp2_with (first
    | (gi_at_call 56; refine (Try.maps_Keys_56 _ _).mono ?_; rintro e w' ⟨rfl, rfl⟩)
    | (gi_at_call 53; refine (Try.slices_Sorted_keys_53_56 b l.length D0 rdNil w hown hmax hbytes).mono ?_; rintro e w' ⟨v, ss, rfl, hS, hrow, hnil, hb⟩))
  go_ret
  obtain ⟨r, r1, r2, r3⟩ := sorted_result H2.out H1.out hS (ownsRow_base_a hrow (base' := w.heap.size) (by simp))
  exact ⟨v, r, rfl, r1, r2, r3, ((Below.refl _ w).alloc (Nat.le_refl _) _).trans (hb.mono (by simp))⟩
open Go.Sort Go.Shelf in
set_option maxHeartbeats 1000000 in
theorem sorted46_nil (w : World) : Calls Try.prog 46 #[.map none] w (Listed w (fun _ => False)) := by
  refine (callsIn_wide (n := 6)).1 ?_
  have hfK : Fence.wide.fn 55 := trivial
  have hfS : Fence.wide.fn 53 := trivial
  refine callsIn_of_wp Try.func46 rfl trivial ?_ rfl
  simp only [Try.ntmps46, List.size_toArray, List.length_cons, List.length_nil, Nat.reduceAdd, Nat.reduceSub, Array.replicate_succ, Array.replicate_zero, List.push_toArray, List.append_toArray, List.nil_append, List.cons_append]
  gi_wp2_with (first
    | (gi_at_call 55; refine (Try.maps_Keys_55 _ _).mono ?_; rintro e w' ⟨rfl, rfl⟩)
    | (gi_at_call 53; refine (Try.slices_Sorted_keys_nil_53_55 w).mono ?_; rintro e w' ⟨v, ss, rfl, hS, hrow, hnil, hb⟩))
  go_ret
  obtain rfl := hnil.2 hS
  exact ⟨_, [], rfl, List.Pairwise.nil, fun x => by simp, Kd.R_nil _ _ _ _ _, ((Below.refl _ w).alloc (Nat.le_refl _) _).trans (hb.mono (by simp))⟩
theorem fst_encM (l : List (ByteArray × Nat)) : (encM l).map Prod.fst = l.map Prod.fst := by unfold encM; rw [List.map_map]; rfl
theorem fst_encS (l : List ByteArray) : (encS l).map Prod.fst = l := by unfold encS; rw [List.map_map]; exact List.map_id l
theorem listed_congr {w : World} {S S' : ByteArray → Prop} (h : ∀ x, S x ↔ S' x) {e : Ending} {w' : World} (hl : Listed w S e w') : Listed w S' e w' := by
  obtain ⟨v, r, h1, h2, h3, h4⟩ := hl
  exact ⟨v, r, h1, h2, fun x => (h3 x).trans (h x), h4⟩
theorem SetAt.len {w : World} {b : Nat} {S : ByteArray → Prop} {N : List ByteArray} (h : SetAt w b S) (hS : ∀ x, S x → x ∈ N) : ∃ s, MapAt w b (encS s) ∧ (∀ x, x ∈ s ↔ S x) ∧ s.length ≤ N.length := by
  obtain ⟨s, h1, h2⟩ := h
  refine ⟨s, h1, h2, ?_⟩
  have hn := h1.nodup
  rw [fst_encS] at hn
  exact nodup_len hn (fun x hx => hS x ((h2 x).1 hx))
theorem Names_any {w : World} {B g : Nat} {N : List ByteArray} {E : Rel} (h : GraphAt w B g N E) (hN : N.length ≤ 1000000) :
    Calls Try.prog 20 #[.pointer (some ⟨g, 0, none⟩)] w (Listed w (fun x => x ∈ N)) := by
  obtain ⟨bo, bi, lo, li, hG⟩ := h
  have c0 := hG.cell0
  have hc := sorted44 hG.mo (by rw [show (encM lo).length = N.length from by rw [← hG.no]; simp [encM]]; exact hN)
  rw [fst_encM, hG.no] at hc
  have HC := Lib.hid hc
  clear hc hG hN
  go_enter Try.func20, Try.ntmps20
  go_wp2_with (go_at_call 44; refine HC.out.mono ?_; rintro e w' ⟨v, r, rfl, hl⟩; have HL := Lib.hid hl; clear hl)
  go_ret
  exact ⟨v, r, rfl, HL.out⟩
theorem Out_yes {w : World} {B g : Nat} {N : List ByteArray} {E : Rel} (h : GraphAt w B g N E) (hN : N.length ≤ 1000000) (nm : ByteArray) (hn : nm ∈ N) :
    Calls Try.prog 22 #[.pointer (some ⟨g, 0, none⟩), .string nm] w (Listed w (E nm)) := by
  obtain ⟨bo, bi, lo, li, hG⟩ := h
  have c0 := hG.cell0
  obtain ⟨b, _, hget, hset⟩ := hG.outOf hn
  obtain ⟨s, hs, hsE, hsl⟩ := hset.len (fun x hx => (hG.inN _ _ hx).2)
  have hrun := hG.mo.lookup Try.underlying65 Try.underlying9 (zero70 w) nm false
  rw [hget] at hrun
  simp only [Bool.false_eq_true, if_false, Option.getD_some] at hrun
  have HC := Lib.hid (sorted46 hs (by simp only [encS, List.length_map]; omega))
  rw [fst_encS] at HC
  have HE := Lib.hid hsE
  clear hget hset hs hsE hsl hG hN
  go_enter Try.func22, Try.ntmps22
  go_wp2_with (go_at_call 46; refine HC.out.mono ?_; rintro e w' ⟨v, r, rfl, hl⟩; have HL := Lib.hid hl; clear hl)
  go_ret
  exact listed_congr HE.out ⟨v, r, rfl, HL.out⟩
theorem Out_no {w : World} {B g : Nat} {N : List ByteArray} {E : Rel} (h : GraphAt w B g N E) (nm : ByteArray) (hn : nm ∉ N) :
    Calls Try.prog 22 #[.pointer (some ⟨g, 0, none⟩), .string nm] w (Listed w (E nm)) := by
  obtain ⟨bo, bi, lo, li, hG⟩ := h
  have c0 := hG.cell0
  have hget : getE (encM lo) nm = none := getE_encM_none (by rw [hG.no]; exact hn)
  have hrun := hG.mo.lookup Try.underlying65 Try.underlying9 (zero70 w) nm false
  rw [hget] at hrun
  simp only [Bool.false_eq_true, if_false, Option.getD_none] at hrun
  have HE := Lib.hid (show ∀ x, False ↔ E nm x from fun x => ⟨False.elim, fun hx => hn (hG.inN _ _ hx).1⟩)
  clear hget hG hn
  go_enter Try.func22, Try.ntmps22
  go_wp2_with (go_at_call 46; refine (sorted46_nil _).mono ?_; rintro e w' ⟨v, r, rfl, hl⟩; have HL := Lib.hid hl; clear hl)
  go_ret
  exact listed_congr HE.out ⟨v, r, rfl, HL.out⟩
theorem Out_any {w : World} {B g : Nat} {N : List ByteArray} {E : Rel} (h : GraphAt w B g N E) (hN : N.length ≤ 1000000) (nm : ByteArray) :
    Calls Try.prog 22 #[.pointer (some ⟨g, 0, none⟩), .string nm] w (Listed w (E nm)) := by
  by_cases hn : nm ∈ N
  · exact Out_yes h hN nm hn
  · exact Out_no h nm hn
end Go.Proofs.Ytlccejbomgknkaa
namespace Go.Proofs.Ytlccejbomgknkaa
set_option linter.unusedVariables false
set_option linter.unusedSimpArgs false
open Go.RowKit Go.Maps
open Go.MapKept (Stamped stamped_iff stamped_push stamped_modify run_checkKey)
open Go.ChangeMaps (setBlock)
def MidAt (w : World) (b : Nat) (l : Ents) (k : ByteArray) (z : Value) (st : Nat) : Prop :=
  ∃ (es : Array MapEntry) (clock : Nat), w.heap[b]? = some (.map (es.push ⟨.string k, z, st⟩) clock) ∧ Stamped (es.push ⟨.string k, z, st⟩) clock ∧ es.toList.map kvE = l.map encE ∧ (∀ p ∈ l, p.1.size ≤ maxLen) ∧ k.size ≤ maxLen
theorem MidAt.same {w w' : World} {b : Nat} {l : Ents} {k : ByteArray} {z : Value} {st : Nat} (h : MidAt w b l k z st) (he : w'.heap[b]? = w.heap[b]?) : MidAt w' b l k z st := by
  obtain ⟨es, clock, hb, r⟩ := h
  exact ⟨es, clock, he.trans hb, r⟩
theorem MidAt.lt {w : World} {b : Nat} {l : Ents} {k : ByteArray} {z : Value} {st : Nat} (h : MidAt w b l k z st) : b < w.heap.size := by
  obtain ⟨es, clock, hb, r⟩ := h
  exact (Array.getElem?_eq_some_iff.1 hb).1
section
variable {P : Program} {w : World} {b : Nat} {l : Ents} {t K E : TypeId}
theorem MapAt.entryNew (h : MapAt w b l) (ht : P.underlying t = some (.map K E)) (hK : P.underlying K = some .string) {z : Value} (hz : (zeroValue E).run P w = .ok z w) (k : ByteArray) (hk : k.size ≤ maxLen) (hnew : k ∉ l.map Prod.fst) :
    ∃ st w', (Instr.mapEntry t (.map (some b)) (.string k)).run P w = .ok (.tuple #[z, .int .i64 (st : Nat)]) w' ∧ MidAt w' b l k z st ∧ w.grownBy w' (some b) ∧ w'.heap.size = w.heap.size := by
  have hlt := h.lt
  obtain ⟨es, clock, hb, hs, hkv, hsz⟩ := h
  rcases find_cases hK w hkv k with ⟨h1, h2⟩ | ⟨j, e, p, h1, he, hp, hpk, hek, hev⟩
  · refine ⟨clock, setBlock w b (.map (es.push ⟨.string k, z, clock⟩) (clock + 1)), ?_, ⟨es, clock + 1, heap_setBlock _ _ _ hlt, stamped_push hs (fun x hx => ?_), hkv, hsz, hk⟩, grown_setBlock _ _ _, size_setBlock _ _ _⟩
    · simp [Instr.mapEntry, run_underlying ht, MapKept.run_getObj_map hb, run_checkKey (k := .string k) hK trivial, h1, hz, MapKept.run_setObj_map _ hb, Result.andThen, setBlock, goInt]
    · obtain ⟨p, hp, hpk, _⟩ := kv_mem' hkv hx
      rw [hpk]
      intro e
      injection e with e
      exact h2 p hp e
  · exact absurd (List.mem_map.2 ⟨p, List.mem_of_getElem? hp, hpk⟩) hnew
theorem MidAt.store {k : ByteArray} {z : Value} {st : Nat} (h : MidAt w b l k z st) (v : Value) :
    ∃ w', (Instr.entryStore t (.map (some b)) (.int .i64 (st : Nat)) v).run P w = .ok () w' ∧ MapAt w' b (l ++ [(k, v)]) ∧ w.grownBy w' (some b) ∧ w'.heap.size = w.heap.size := by
  have hlt := h.lt
  obtain ⟨es, clock, hb, hs, hkv, hsz, hk⟩ := h
  have hst := (stamped_iff _ _).1 hs
  have hfind : (es.push ⟨.string k, z, st⟩).findIdx? (fun e => (e.born : Int) == (st : Int)) = some es.size := by
    rw [Array.findIdx?_push]
    have hnone : es.findIdx? (fun e => (e.born : Int) == (st : Int)) = none := by
      rw [Array.findIdx?_eq_none_iff]
      intro x hx
      have h2 := hst.2.1
      simp only [Array.toList_push, List.map_append, List.map_cons, List.map_nil] at h2
      have h3 := (List.nodup_append.1 h2).2.2 x.born (List.mem_map.2 ⟨x, by simpa using hx, rfl⟩) st (by simp)
      simp
      omega
    rw [hnone]
    simp
  refine ⟨setBlock w b (.map ((es.push ⟨.string k, z, st⟩).modify es.size (fun e => { e with val := v })) clock), ?_, ⟨_, clock, heap_setBlock _ _ _ hlt, stamped_modify hs _ _ (fun _ _ => rfl) (fun _ _ _ => rfl), ?_, ?_⟩, grown_setBlock _ _ _, size_setBlock _ _ _⟩
  · simp only [Instr.entryStore, asInt, Sem.run_bind, MapKept.run_getObj_map hb, Result.andThen]
    simp [asIntOf, hfind, MapKept.run_setObj_map _ hb, setBlock]
  · rw [Array.toList_modify, Go.ChangeMaps.modify_eq_set _ _ _ ⟨.string k, z, st⟩ (by simp)]
    simp only [Array.toList_push, List.map_append, List.map_cons, List.map_nil, List.map_set]
    rw [← Array.length_toList, List.set_append_right _ _ (by simp)]
    simp [hkv, kvE, encE, kv_len hkv]
  · intro p hp
    rcases List.mem_append.1 hp with hp | hp
    · exact hsz p hp
    · rw [List.mem_singleton.1 hp]; exact hk
end
structure KeptW (B : Nat) (w w' : World) : Prop where
  below : Below B w w'
  cells : ∀ (k : Nat) (c : Array Value) (e : TypeId) (f : Nat × Nat), w.heap[k]? = some (.cells c e f) → w'.heap[k]? = some (.cells c e f)
theorem KeptW.refl (B : Nat) (w : World) : KeptW B w w := ⟨Below.refl _ _, fun _ _ _ _ h => h⟩
theorem KeptW.trans {B : Nat} {a b c : World} (h : KeptW B a b) (k : KeptW B b c) : KeptW B a c := ⟨h.below.trans k.below, fun _ _ _ _ h1 => k.cells _ _ _ _ (h.cells _ _ _ _ h1)⟩
theorem KeptW.mono {B B' : Nat} {w w' : World} (h : KeptW B w w') (hB : B' ≤ B) : KeptW B' w w' := ⟨h.below.mono hB, h.cells⟩
theorem KeptW.of_below {w w' : World} (h : Below w.heap.size w w') : KeptW w.heap.size w w' := ⟨h, fun k c e f hk => (h.block k (Array.getElem?_eq_some_iff.1 hk).1).trans hk⟩
theorem KeptW.of_map {w w' : World} {b B : Nat} {l : Ents} (h : MapAt w b l) (hg : w.grownBy w' (some b)) (hB : B ≤ b) : KeptW B w w' := by
  refine ⟨⟨hg.os, hg.tape, hg.output, hg.size, fun k hk => hg.block k (by have := h.lt; omega) (fun e => by injection e with e; omega)⟩, fun k c e f hk => ?_⟩
  refine (hg.block k (Array.getElem?_eq_some_iff.1 hk).1 (fun e1 => ?_)).trans hk
  injection e1 with e1
  obtain ⟨es, clock, hb, _⟩ := h
  rw [e1, hb] at hk
  cases hk
theorem KeptW.cell {B : Nat} {w w' : World} (h : KeptW B w w') {p : Addr} {v : Value} (hc : w.cell? p = some v) : w'.cell? p = some v := by
  unfold World.cell? at hc ⊢
  split at hc
  · rename_i c e f hh
    rw [h.cells _ _ _ _ hh]
    exact hc
  · cases hc
end Go.Proofs.Ytlccejbomgknkaa
namespace Go.Proofs.Ytlccejbomgknkaa
set_option linter.unusedVariables false
set_option linter.unusedSimpArgs false
open Go.RowKit Go.Maps Go.Proofs.YtlccejbomgknkaaW.PrintWords Go.Proofs.YtlccejbomgknkaaW.PrintLast
def Stage (w : World) (b : Nat) (l : Ents) (k : ByteArray) (laid stored : Bool) (st m : Nat) : Prop :=
  if stored = true then MapAt w b (l ++ [(k, .map (some m))]) else if laid = true then MidAt w b l k (.map none) st else MapAt w b l
theorem Stage.same {w w' : World} {b : Nat} {l : Ents} {k : ByteArray} {x y : Bool} {st m : Nat} (h : Stage w b l k x y st m) (he : w'.heap[b]? = w.heap[b]?) : Stage w' b l k x y st m := by
  unfold Stage at h ⊢
  split
  · rename_i c; rw [if_pos c] at h; exact h.same he
  · rename_i c; rw [if_neg c] at h
    split
    · rename_i d; rw [if_pos d] at h; exact h.same he
    · rename_i d; rw [if_neg d] at h; exact h.same he
theorem Stage.lt {w : World} {b : Nat} {l : Ents} {k : ByteArray} {x y : Bool} {st m : Nat} (h : Stage w b l k x y st m) : b < w.heap.size := by
  unfold Stage at h
  split at h
  · exact h.lt
  · split at h
    · exact h.lt
    · exact h.lt
def Fresh (w : World) (n : Nat) (made : Bool) (m : Nat) : Prop := made = true → MapAt w m [] ∧ n ≤ m
structure R7 (W : World) (bo bi : Nat) (lo li : Ents) (nm : ByteArray) (b : Nat → Bool) (m1 m2 s1 s2 : Nat) (w : World) : Prop where
  os : w.os = W.os
  tape : w.tape = W.tape
  output : w.output = W.output
  size : W.heap.size ≤ w.heap.size
  kept : ∀ k, k < W.heap.size → k ≠ bo → k ≠ bi → w.heap[k]? = W.heap[k]?
  o : Stage w bo lo nm (b 12) (b 14) s1 m1
  i : Stage w bi li nm (b 15) (b 17) s2 m2
  f1 : Fresh w W.heap.size (b 10) m1
  f2 : Fresh w W.heap.size (b 11) m2
  ne : b 10 = true → b 11 = true → m1 ≠ m2
section
variable {W w : World} {bo bi : Nat} {lo li : Ents} {nm : ByteArray} {b : Nat → Bool} {m1 m2 s1 s2 : Nat}
theorem R7.quiet (h : R7 W bo bi lo li nm b m1 m2 s1 s2 w) (j : Nat) (hj : j ≠ 10 ∧ j ≠ 11 ∧ j ≠ 12 ∧ j ≠ 14 ∧ j ≠ 15 ∧ j ≠ 17) : R7 W bo bi lo li nm (up b j) m1 m2 s1 s2 w := by
  obtain ⟨h1, h2, h3, h4, h5, h6, h7, h8, h9, h10⟩ := h
  have e : ∀ n, n ≠ j → up b j n = b n := fun n hn => up_ne hn
  exact ⟨h1, h2, h3, h4, h5, by rw [e 12 (by omega), e 14 (by omega)]; exact h6, by rw [e 15 (by omega), e 17 (by omega)]; exact h7, by rw [e 10 (by omega)]; exact h8, by rw [e 11 (by omega)]; exact h9, by rw [e 10 (by omega), e 11 (by omega)]; exact h10⟩
theorem alloc_same (w : World) (o : Obj) {k : Nat} (h : k < w.heap.size) : (w.alloc o).heap[k]? = w.heap[k]? := Below.heap_alloc w o k h
theorem R7.make1 (h : R7 W bo bi lo li nm b m1 m2 s1 s2 w) (h10 : b 10 = false) (h14 : b 14 = false) : R7 W bo bi lo li nm (up b 10) w.heap.size m2 s1 s2 (w.alloc (.map #[] 0)) := by
  obtain ⟨k1, k2, k3, k4, k5, k6, k7, k8, k9, k10⟩ := h
  have e : ∀ n, n ≠ 10 → up b 10 n = b n := fun n hn => up_ne hn
  refine ⟨k1, k2, k3, by simp; omega, fun k hk hb hi => (alloc_same _ _ (by omega)).trans (k5 k hk hb hi), ?_, ?_, ?_, ?_, ?_⟩
  · rw [e 12 (by omega), e 14 (by omega)]
    have := k6.same (alloc_same w (.map #[] 0) k6.lt)
    unfold Stage at this ⊢
    rw [h14] at this ⊢
    simpa using this
  · rw [e 15 (by omega), e 17 (by omega)]
    exact k7.same (alloc_same _ _ k7.lt)
  · exact fun _ => ⟨MapAt.made w, k4⟩
  · rw [e 11 (by omega)]
    exact fun hm => ⟨(k9 hm).1.alloc _, (k9 hm).2⟩
  · rw [e 11 (by omega)]
    intro _ hm
    have := (k9 hm).1.lt
    omega
theorem R7.make2 (h : R7 W bo bi lo li nm b m1 m2 s1 s2 w) (h11 : b 11 = false) (h17 : b 17 = false) : R7 W bo bi lo li nm (up b 11) m1 w.heap.size s1 s2 (w.alloc (.map #[] 0)) := by
  obtain ⟨k1, k2, k3, k4, k5, k6, k7, k8, k9, k10⟩ := h
  have e : ∀ n, n ≠ 11 → up b 11 n = b n := fun n hn => up_ne hn
  refine ⟨k1, k2, k3, by simp; omega, fun k hk hb hi => (alloc_same _ _ (by omega)).trans (k5 k hk hb hi), ?_, ?_, ?_, ?_, ?_⟩
  · rw [e 12 (by omega), e 14 (by omega)]
    exact k6.same (alloc_same _ _ k6.lt)
  · rw [e 15 (by omega), e 17 (by omega)]
    have := k7.same (alloc_same w (.map #[] 0) k7.lt)
    unfold Stage at this ⊢
    rw [h17] at this ⊢
    simpa using this
  · rw [e 10 (by omega)]
    exact fun hm => ⟨(k8 hm).1.alloc _, (k8 hm).2⟩
  · exact fun _ => ⟨MapAt.made w, k4⟩
  · rw [e 10 (by omega)]
    intro hm _
    have := (k8 hm).1.lt
    omega
theorem fresh_grown {w w' : World} {n m x : Nat} {made : Bool} (h : Fresh w n made m) (hg : w.grownBy w' (some x)) (hx : x < n) : Fresh w' n made m := by
  intro hm
  obtain ⟨h1, h2⟩ := h hm
  exact ⟨h1.same (hg.block m h1.lt (by intro e; injection e with e; omega)), h2⟩
theorem R7.entry1 (h : R7 W bo bi lo li nm b m1 m2 s1 s2 w) (hne : bo ≠ bi) (hbo : bo < W.heap.size) (hk : nm.size ≤ maxLen) (hnew : nm ∉ lo.map Prod.fst) (h12 : b 12 = false) (h14 : b 14 = false) :
    ∃ st w', (Instr.mapEntry 65 (.map (some bo)) (.string nm)).run Try.prog w = .ok (.tuple #[.map none, .int .i64 (st : Nat)]) w' ∧ R7 W bo bi lo li nm (up b 12) m1 m2 st s2 w' := by
  obtain ⟨k1, k2, k3, k4, k5, k6, k7, k8, k9, k10⟩ := h
  have e : ∀ n, n ≠ 12 → up b 12 n = b n := fun n hn => up_ne hn
  have k6' : MapAt w bo lo := by unfold Stage at k6; simpa [h12, h14] using k6
  obtain ⟨st, w', r1, r2, r3, r4⟩ := k6'.entryNew Try.underlying65 Try.underlying9 (zero70 w) nm hk hnew
  refine ⟨st, w', r1, ⟨r3.os.trans k1, r3.tape.trans k2, r3.output.trans k3, by omega, fun k hk hb hi => (r3.block k (by omega) (by intro e; injection e with e; exact hb e)).trans (k5 k hk hb hi), ?_, ?_, ?_, ?_, ?_⟩⟩
  · rw [up_self, e 14 (by omega)]
    unfold Stage
    simpa [h14] using r2
  · rw [e 15 (by omega), e 17 (by omega)]
    exact k7.same (r3.block bi k7.lt (by intro e; injection e with e; exact hne e.symm))
  · rw [e 10 (by omega)]; exact fresh_grown k8 r3 hbo
  · rw [e 11 (by omega)]; exact fresh_grown k9 r3 hbo
  · rw [e 10 (by omega), e 11 (by omega)]; exact k10
theorem R7.entry2 (h : R7 W bo bi lo li nm b m1 m2 s1 s2 w) (hne : bo ≠ bi) (hbi : bi < W.heap.size) (hk : nm.size ≤ maxLen) (hnew : nm ∉ li.map Prod.fst) (h15 : b 15 = false) (h17 : b 17 = false) :
    ∃ st w', (Instr.mapEntry 65 (.map (some bi)) (.string nm)).run Try.prog w = .ok (.tuple #[.map none, .int .i64 (st : Nat)]) w' ∧ R7 W bo bi lo li nm (up b 15) m1 m2 s1 st w' := by
  obtain ⟨k1, k2, k3, k4, k5, k6, k7, k8, k9, k10⟩ := h
  have e : ∀ n, n ≠ 15 → up b 15 n = b n := fun n hn => up_ne hn
  have k7' : MapAt w bi li := by unfold Stage at k7; simpa [h15, h17] using k7
  obtain ⟨st, w', r1, r2, r3, r4⟩ := k7'.entryNew Try.underlying65 Try.underlying9 (zero70 w) nm hk hnew
  refine ⟨st, w', r1, ⟨r3.os.trans k1, r3.tape.trans k2, r3.output.trans k3, by omega, fun k hk hb hi => (r3.block k (by omega) (by intro e; injection e with e; exact hi e)).trans (k5 k hk hb hi), ?_, ?_, ?_, ?_, ?_⟩⟩
  · rw [e 12 (by omega), e 14 (by omega)]
    exact k6.same (r3.block bo k6.lt (by intro e; injection e with e; exact hne e))
  · rw [up_self, e 17 (by omega)]
    unfold Stage
    simpa [h17] using r2
  · rw [e 10 (by omega)]; exact fresh_grown k8 r3 hbi
  · rw [e 11 (by omega)]; exact fresh_grown k9 r3 hbi
  · rw [e 10 (by omega), e 11 (by omega)]; exact k10
theorem R7.store1 (h : R7 W bo bi lo li nm b m1 m2 s1 s2 w) (hne : bo ≠ bi) (hbo : bo < W.heap.size) (h12 : b 12 = true) (h14 : b 14 = false) :
    ∃ w', (Instr.entryStore 65 (.map (some bo)) (.int .i64 (s1 : Nat)) (.map (some m1))).run Try.prog w = .ok () w' ∧ R7 W bo bi lo li nm (up b 14) m1 m2 s1 s2 w' := by
  obtain ⟨k1, k2, k3, k4, k5, k6, k7, k8, k9, k10⟩ := h
  have e : ∀ n, n ≠ 14 → up b 14 n = b n := fun n hn => up_ne hn
  have k6' : MidAt w bo lo nm (.map none) s1 := by unfold Stage at k6; simpa [h12, h14] using k6
  obtain ⟨w', r1, r2, r3, r4⟩ := k6'.store (P := Try.prog) (t := 65) (.map (some m1))
  refine ⟨w', r1, ⟨r3.os.trans k1, r3.tape.trans k2, r3.output.trans k3, by omega, fun k hk hb hi => (r3.block k (by omega) (by intro e; injection e with e; exact hb e)).trans (k5 k hk hb hi), ?_, ?_, ?_, ?_, ?_⟩⟩
  · rw [up_self]
    unfold Stage
    simpa using r2
  · rw [e 15 (by omega), e 17 (by omega)]
    exact k7.same (r3.block bi k7.lt (by intro e; injection e with e; exact hne e.symm))
  · rw [e 10 (by omega)]; exact fresh_grown k8 r3 hbo
  · rw [e 11 (by omega)]; exact fresh_grown k9 r3 hbo
  · rw [e 10 (by omega), e 11 (by omega)]; exact k10
theorem R7.store2 (h : R7 W bo bi lo li nm b m1 m2 s1 s2 w) (hne : bo ≠ bi) (hbi : bi < W.heap.size) (h15 : b 15 = true) (h17 : b 17 = false) :
    ∃ w', (Instr.entryStore 65 (.map (some bi)) (.int .i64 (s2 : Nat)) (.map (some m2))).run Try.prog w = .ok () w' ∧ R7 W bo bi lo li nm (up b 17) m1 m2 s1 s2 w' := by
  obtain ⟨k1, k2, k3, k4, k5, k6, k7, k8, k9, k10⟩ := h
  have e : ∀ n, n ≠ 17 → up b 17 n = b n := fun n hn => up_ne hn
  have k7' : MidAt w bi li nm (.map none) s2 := by unfold Stage at k7; simpa [h15, h17] using k7
  obtain ⟨w', r1, r2, r3, r4⟩ := k7'.store (P := Try.prog) (t := 65) (.map (some m2))
  refine ⟨w', r1, ⟨r3.os.trans k1, r3.tape.trans k2, r3.output.trans k3, by omega, fun k hk hb hi => (r3.block k (by omega) (by intro e; injection e with e; exact hi e)).trans (k5 k hk hb hi), ?_, ?_, ?_, ?_, ?_⟩⟩
  · rw [e 12 (by omega), e 14 (by omega)]
    exact k6.same (r3.block bo k6.lt (by intro e; injection e with e; exact hne e))
  · rw [up_self]
    unfold Stage
    simpa using r2
  · rw [e 10 (by omega)]; exact fresh_grown k8 r3 hbi
  · rw [e 11 (by omega)]; exact fresh_grown k9 r3 hbi
  · rw [e 10 (by omega), e 11 (by omega)]; exact k10
end
theorem Gr.add {W w : World} {B g bo bi m1 m2 s1 s2 : Nat} {N : List ByteArray} {E : Rel} {lo li : List (ByteArray × Nat)} {nm : ByteArray} {b : Nat → Bool} (hG : Gr W B g N E bo bi lo li) (hB : B ≤ W.heap.size) (hnew : nm ∉ N)
    (h : R7 W bo bi (encM lo) (encM li) nm b m1 m2 s1 s2 w) (hb : ∀ j, 10 ≤ j → j ≤ 17 → b j = true) :
    GraphAt w B g (N ++ [nm]) E ∧ KeptW B W w := by
  obtain ⟨k1, k2, k3, k4, k5, k6, k7, k8, k9, k10⟩ := h
  have e14 := hb 14 (by omega) (by omega)
  have e17 := hb 17 (by omega) (by omega)
  have k6' : MapAt w bo (encM (lo ++ [(nm, m1)])) := by unfold Stage at k6; rw [if_pos e14] at k6; simpa [encM] using k6
  have k7' : MapAt w bi (encM (li ++ [(nm, m2)])) := by unfold Stage at k7; rw [if_pos e17] at k7; simpa [encM] using k7
  obtain ⟨n1, n2⟩ := k8 (hb 10 (by omega) (by omega))
  obtain ⟨n3, n4⟩ := k9 (hb 11 (by omega) (by omega))
  have n5 := k10 (hb 10 (by omega) (by omega)) (hb 11 (by omega) (by omega))
  have hap := hG.apart
  have hbase := hG.base
  have hgl : g < W.heap.size := (Array.getElem?_eq_some_iff.1 hG.cells).1
  have hbol := hG.mo.lt
  have hbil := hG.mi.lt
  have hsz : ∀ k ∈ lo.map Prod.snd ++ li.map Prod.snd, k < W.heap.size := by
    intro k hk
    rcases List.mem_append.1 hk with hk | hk
    · obtain ⟨p, hp, rfl⟩ := List.mem_map.1 hk
      obtain ⟨s, hs, _⟩ := hG.so p hp
      exact hs.lt
    · obtain ⟨p, hp, rfl⟩ := List.mem_map.1 hk
      obtain ⟨s, hs, _⟩ := hG.si p hp
      exact hs.lt
  have hgne : ∀ {x : Nat} {l : Ents}, MapAt W x l → g ≠ x := by
    intro x l hx e
    obtain ⟨es, clock, hb, _⟩ := hx
    rw [← e, hG.cells] at hb
    cases hb
  rw [List.nodup_cons, List.nodup_cons] at hap
  obtain ⟨ha1, ha2, ha3⟩ := hap
  have hset : ∀ {x : Nat} {S : ByteArray → Prop}, x ∈ lo.map Prod.snd ++ li.map Prod.snd → SetAt W x S → SetAt w x S := by
    rintro x S hx ⟨s, hs, hS⟩
    exact ⟨s, hs.same (k5 x (hsz x hx) (fun e => ha1 (by rw [← e]; exact List.mem_cons_of_mem _ hx)) (fun e => ha2 (by rw [← e]; exact hx))), hS⟩
  refine ⟨⟨bo, bi, lo ++ [(nm, m1)], li ++ [(nm, m2)], ⟨(k5 g hgl (hgne hG.mo) (hgne hG.mi)).trans hG.cells, k6', k7', by simp [hG.no], by simp [hG.ni], ?_, ?_, ?_, ?_, ?_⟩⟩, ?_⟩
  · intro p hp
    rcases List.mem_append.1 hp with hp | hp
    · exact hset (List.mem_append_left _ (List.mem_map.2 ⟨p, hp, rfl⟩)) (hG.so p hp)
    · obtain rfl := List.mem_singleton.1 hp
      exact ⟨[], n1, fun x => ⟨fun h => (by cases h), fun h => absurd (hG.inN _ _ h).1 hnew⟩⟩
  · intro p hp
    rcases List.mem_append.1 hp with hp | hp
    · exact hset (List.mem_append_right _ (List.mem_map.2 ⟨p, hp, rfl⟩)) (hG.si p hp)
    · obtain rfl := List.mem_singleton.1 hp
      exact ⟨[], n3, fun x => ⟨fun h => (by cases h), fun h => absurd (hG.inN _ _ h).2 hnew⟩⟩
  · have hp : (bo :: bi :: ((lo ++ [(nm, m1)]).map Prod.snd ++ (li ++ [(nm, m2)]).map Prod.snd)).Perm (m1 :: m2 :: bo :: bi :: (lo.map Prod.snd ++ li.map Prod.snd)) := by
      simp only [List.map_append, List.map_cons, List.map_nil]
      have e1 : (bo :: bi :: (lo.map Prod.snd ++ [m1] ++ (li.map Prod.snd ++ [m2]))).Perm ((bo :: bi :: (lo.map Prod.snd ++ li.map Prod.snd)) ++ [m1, m2]) := by
        simp only [List.cons_append, List.append_assoc]
        refine List.Perm.cons _ (List.Perm.cons _ (List.Perm.append_left _ ?_))
        simp only [List.nil_append]
        have : (m1 :: (li.map Prod.snd ++ [m2])).Perm (li.map Prod.snd ++ [m1, m2]) := by
          have := (List.perm_middle (a := m1) (l₁ := li.map Prod.snd) (l₂ := [m2])).symm
          simpa using this
        exact this
      exact e1.trans List.perm_append_comm
    rw [hp.nodup_iff, List.nodup_cons, List.nodup_cons, List.nodup_cons, List.nodup_cons]
    have hlt : ∀ x ∈ bo :: bi :: (lo.map Prod.snd ++ li.map Prod.snd), x < W.heap.size := by
      intro x hx
      rcases List.mem_cons.1 hx with rfl | hx
      · exact hbol
      · rcases List.mem_cons.1 hx with rfl | hx
        · exact hbil
        · exact hsz x hx
    refine ⟨fun hm => ?_, fun hm => ?_, ha1, ha2, ha3⟩
    · rcases List.mem_cons.1 hm with e | hm
      · exact n5 e
      · have := hlt _ hm; omega
    · have := hlt _ hm; omega
  · intro k hk
    simp only [List.map_append, List.map_cons, List.map_nil, List.mem_cons, List.mem_append, List.not_mem_nil, or_false] at hk
    rcases hk with rfl | rfl | rfl | (hk | rfl) | (hk | rfl)
    · exact hbase _ (by simp)
    · exact hbase _ (by simp)
    · exact hbase _ (by simp)
    · exact hbase _ (by simp only [List.mem_cons, List.mem_append]; exact .inr (.inr (.inr (.inl hk))))
    · omega
    · exact hbase _ (by simp only [List.mem_cons, List.mem_append]; exact .inr (.inr (.inr (.inr hk))))
    · omega
  · intro x y hxy
    exact ⟨List.mem_append_left _ (hG.inN x y hxy).1, List.mem_append_left _ (hG.inN x y hxy).2⟩
  · have hbo' := hbase bo (by simp)
    have hbi' := hbase bi (by simp)
    refine ⟨⟨k1, k2, k3, k4, fun k hk => k5 k (by omega) (by omega) (by omega)⟩, fun k c e f hk => (k5 k (Array.getElem?_eq_some_iff.1 hk).1 (fun e1 => ?_) (fun e1 => ?_)).trans hk⟩
    · obtain ⟨es, clock, hb, _⟩ := hG.mo
      rw [e1, hb] at hk; cases hk
    · obtain ⟨es, clock, hb, _⟩ := hG.mi
      rw [e1, hb] at hk; cases hk
end Go.Proofs.Ytlccejbomgknkaa
namespace Go.Proofs.Ytlccejbomgknkaa
set_option linter.unusedVariables false
set_option linter.unusedSimpArgs false
open Go.RowKit Go.Maps Go.Proofs.YtlccejbomgknkaaW.PrintWords Go.Proofs.YtlccejbomgknkaaW.PrintLast
theorem C_string_kept {w w' : World} {B : Nat} {A : Option Addr} {n : Nat} {xs : List ByteArray} (h : Kd.C Kd.string w A n xs) (hk : KeptW B w w') : Kd.C Kd.string w' A n xs := by
  obtain ⟨h1, h2, h3⟩ := h
  refine ⟨h1, h2, fun hn => ?_⟩
  obtain ⟨ad, hA, hc⟩ := h3 hn
  refine ⟨ad, hA, fun j p hj => ?_⟩
  obtain ⟨c, hl, hR, hcell⟩ := hc j p hj
  exact ⟨c, hl, hR, fun i u hi => hk.cell (hcell i u hi)⟩
theorem Gr.drew {w : World} {B g bo bi : Nat} {N : List ByteArray} {E : Rel} {lo li : List (ByteArray × Nat)} (h : Gr w B g N E bo bi lo li) : Gr w.drew B g N E bo bi lo li :=
  ⟨h.cells, h.mo, h.mi, h.no, h.ni, h.so, h.si, h.apart, h.base, h.inN⟩
structure Slots7 (bo bi : Nat) (b : Nat → Bool) (v25 v30 v32 v33 v34 v35 v36 v37 : Value) (m1 m2 s1 s2 : Nat) : Prop where
  h25 : b 3 = true → v25 = .map (some bo)
  h30 : b 8 = true → v30 = .map (some bi)
  h32 : b 10 = true → v32 = .map (some m1)
  h33 : b 11 = true → v33 = .map (some m2)
  h34 : b 12 = true → v34 = .tuple #[.map none, .int .i64 (s1 : Nat)]
  h35 : b 13 = true → v35 = .int .i64 (s1 : Nat)
  h36 : b 15 = true → v36 = .tuple #[.map none, .int .i64 (s2 : Nat)]
  h37 : b 16 = true → v37 = .int .i64 (s2 : Nat)
def Added (w : World) (B g : Nat) (N l : List ByteArray) (E : Rel) (w' : World) : Prop :=
  ∃ N', GraphAt w' B g N' E ∧ (∀ x, x ∈ N' ↔ x ∈ N ∨ x ∈ l) ∧ N'.length ≤ N.length + l.length ∧ KeptW B w w'
theorem take_mem {l : List ByteArray} {k : Nat} (hk : k < l.length) {nm : ByteArray} (hn : nm = rdOf ByteArray.empty l (k : Int)) (x : ByteArray) : x ∈ l.take (k + 1) ↔ x ∈ l.take k ∨ x = nm := by
  have : nm = l[k] := by
    rw [hn]
    unfold rdOf
    rw [Int.toNat_natCast, List.getD_eq_getElem?_getD, List.getElem?_eq_getElem hk]
    rfl
  rw [List.take_succ_eq_append_getElem hk, this, List.mem_append, List.mem_singleton]
theorem take_at {l : List ByteArray} {k : Nat} (hk : k < l.length) {nm : ByteArray} (hn : nm = rdOf ByteArray.empty l (k : Int)) : nm ∈ l := by
  have : nm = l[k] := by
    rw [hn]
    unfold rdOf
    rw [Int.toNat_natCast, List.getD_eq_getElem?_getD, List.getElem?_eq_getElem hk]
    rfl
  rw [this]
  exact List.getElem_mem hk
def T7 : Bool × List (List Nat × List Nat) := (true, [([], []), ([0], [0]), ([1], [1]), ([2], [2]), ([], []), ([], []), ([5], [5]), ([6], [6]), ([7], [7]), ([], []), ([], []), ([], []), ([3, 4, 8], [3, 4]), ([12], [12]), ([3, 13, 10, 12, 0, 1, 2, 3, 4, 8, 10, 12], [3, 10, 13]), ([8, 9, 14, 0, 1, 2, 3, 4, 8, 10, 12, 13, 14], [8, 9]), ([15], [15]), ([8, 16, 11, 15, 0, 1, 2, 3, 4, 5, 6, 7, 8, 9, 10, 11, 12, 13, 14, 15], [8, 11, 16])])
def B7 : List Nat := [0, 1, 3, 7, 0, 0, 32, 96, 224, 0, 0, 0, 511, 4607, 13823, 30719, 63487, 131071]
theorem tab7 : rtab .any (opsOf Try.f38 7) = T7 := by kernel_rfl
theorem bits7 : waitsOk T7.2 B7 = true := by kernel_rfl
set_option maxRecDepth 100000 in
set_option maxHeartbeats 4000000 in
theorem Add_any {w : World} {B g : Nat} {N : List ByteArray} {E : Rel} (h : GraphAt w B g N E) (hB : B ≤ w.heap.size) (A : Option Addr) (c : Nat) (l : List ByteArray) (hl : Kd.C Kd.string w A l.length l) (hsz : ∀ x ∈ l, x.size ≤ maxLen) :
    Calls Try.prog 38 #[.pointer (some ⟨g, 0, none⟩), .slice A l.length c] w fun e w' => e = .returned (.int .i64 0) ∧ Added w B g N l E w' := by
  have hlen := hl.2.1
  have h0 : Added w B g N (l.take 0) E w := ⟨N, h, by simp, by simp, KeptW.refl _ _⟩
  have H0 := Lib.hid h0
  have HL := Lib.hid hl
  have HS := Lib.hid hsz
  have qm := fun (w : World) (r : Option Nat) => Go.run_eql_map_nil (P := Try.prog) w 70 9 4 r Try.underlying70
  clear h0 hl hsz h
  go_enter Try.func38, Try.ntmps38
  go_wp2
  go_loopg [11] (l.length + 1) (fun q v wr => ∃ k : Nat, v = .int .i64 k ∧ k ≤ l.length ∧ q + k = l.length + 1 ∧ Hid (Added w B g N (l.take k) E wr))
  case atStart => exact ⟨0, rfl, by omega, by omega, H0⟩
  case round =>
    obtain ⟨k, rfl, hk, hq, HA⟩ := hrel
    clear H0
    by_cases hlt : k < l.length
    · obtain ⟨N', hG', hmem, hln, hK⟩ := HA.out
      have hl' := C_string_kept HL.out hK
      obtain ⟨ad, hA, hcell⟩ := Kd.at_string hl' (k : Int) (by omega) (by omega)
      subst hA
      obtain ⟨nm, hnm⟩ : ∃ nm, nm = rdOf ByteArray.empty l (k : Int) := ⟨_, rfl⟩
      rw [← hnm] at hcell
      simp only [Int.toNat_natCast] at hcell
      have HN := Lib.hid hnm
      obtain ⟨bo, bi, lo, li, hG⟩ := hG'
      have c0 := hG.cell0
      have c1 := hG.cell1
      by_cases hin : nm ∈ N'
      · obtain ⟨b, _, hget, _⟩ := hG.outOf hin
        have hrun := hG.mo.lookup Try.underlying65 Try.underlying9 (zero70 wr) nm false
        rw [hget] at hrun
        simp only [Bool.false_eq_true, if_false, Option.getD_some] at hrun
        have X := Lib.hid (And.intro hmem (And.intro hln (And.intro hK (And.intro hG hin))))
        clear hget hnm hl' hmem hln hK hG hin
        go_wp2
        go_roundg (l.length - k)
        case measure => omega
        case rel =>
          obtain ⟨hmem, hln, hK, hG, hin⟩ := X.out
          refine ⟨k + 1, by go_num, by omega, by omega, ⟨N', ⟨bo, bi, lo, li, hG⟩, fun x => ?_, ?_, hK⟩⟩
          · rw [take_mem hlt HN.out, hmem x]
            constructor
            · rintro (h1 | h1)
              · exact .inl h1
              · exact .inr (.inl h1)
            · rintro (h1 | h1 | h1)
              · exact .inl h1
              · exact .inr h1
              · exact (hmem x).1 (h1 ▸ hin)
          · rw [List.length_take] at hln ⊢
            omega
      · have hget : getE (encM lo) nm = none := getE_encM_none (by rw [hG.no]; exact hin)
        have hrun := hG.mo.lookup Try.underlying65 Try.underlying9 (zero70 wr) nm false
        rw [hget] at hrun
        simp only [Bool.false_eq_true, if_false, Option.getD_none] at hrun
        have X := Lib.hid (And.intro hmem (And.intro hln (And.intro hK (And.intro hG hin))))
        clear hget hnm hl' hmem hln hK hG hin
        go_wp2
        refine start_ (n := 18) (S := fun _ => True) (ds := []) #[false, false, false, false, false, false, false, false, false, false, false, false, false, false, false, false, false, false] (by kernel_rfl) rfl rfl trivial (fun _ => ?_)
        refine with_tabW tab7 bits7 (fun HT_ HW_ => ?_)
        refine pure_ (i := 0) (N := some 22) (v := ?_) (a' := ?_) #[true, false, false, false, false, false, false, false, false, false, false, false, false, false, false, false, false, false] rfl rfl (any_of HT_.out (by kernel_rfl)) (fun _ _ _ h => h) (Or.inl ⟨by rfl, ?_⟩) ?_ ?_
        rotate_left
        · intro w'
          go_simp
          with_reducible rfl
        rotate_left
        · simp only [Act.put, List.setIfInBounds_toArray, List.set_cons_zero, List.set_cons_succ]
          rfl
        refine pure_ (i := 1) (N := some 23) (v := ?_) (a' := ?_) #[true, true, false, false, false, false, false, false, false, false, false, false, false, false, false, false, false, false] rfl rfl (any_of HT_.out (by kernel_rfl)) (fun _ _ _ h => h) (Or.inl ⟨by rfl, ?_⟩) ?_ ?_
        rotate_left
        · intro w'
          go_simp
          with_reducible rfl
        rotate_left
        · simp only [Act.put, List.setIfInBounds_toArray, List.set_cons_zero, List.set_cons_succ]
          rfl
        refine pure_ (i := 2) (N := some 24) (v := ?_) (a' := ?_) #[true, true, true, false, false, false, false, false, false, false, false, false, false, false, false, false, false, false] rfl rfl (any_of HT_.out (by kernel_rfl)) (fun _ _ _ h => h) (Or.inl ⟨by rfl, ?_⟩) ?_ ?_
        rotate_left
        · intro w'
          go_simp
          with_reducible rfl
        rotate_left
        · simp only [Act.put, List.setIfInBounds_toArray, List.set_cons_zero, List.set_cons_succ]
          rfl
        refine pure_ (i := 4) (N := some 26) (v := ?_) (a' := ?_) #[true, true, true, false, true, false, false, false, false, false, false, false, false, false, false, false, false, false] rfl rfl (any_of HT_.out (by kernel_rfl)) (fun _ _ _ h => h) (Or.inl ⟨by rfl, ?_⟩) ?_ ?_
        rotate_left
        · intro w'
          go_simp
          with_reducible rfl
        rotate_left
        · simp only [Act.put, List.setIfInBounds_toArray, List.set_cons_zero, List.set_cons_succ]
          rfl
        refine pure_ (i := 5) (N := some 27) (v := ?_) (a' := ?_) #[true, true, true, false, true, true, false, false, false, false, false, false, false, false, false, false, false, false] rfl rfl (any_of HT_.out (by kernel_rfl)) (fun _ _ _ h => h) (Or.inl ⟨by rfl, ?_⟩) ?_ ?_
        rotate_left
        · intro w'
          go_simp
          with_reducible rfl
        rotate_left
        · simp only [Act.put, List.setIfInBounds_toArray, List.set_cons_zero, List.set_cons_succ]
          rfl
        refine pure_ (i := 6) (N := some 28) (v := ?_) (a' := ?_) #[true, true, true, false, true, true, true, false, false, false, false, false, false, false, false, false, false, false] rfl rfl (any_of HT_.out (by kernel_rfl)) (fun _ _ _ h => h) (Or.inl ⟨by rfl, ?_⟩) ?_ ?_
        rotate_left
        · intro w'
          go_simp
          with_reducible rfl
        rotate_left
        · simp only [Act.put, List.setIfInBounds_toArray, List.set_cons_zero, List.set_cons_succ]
          rfl
        refine pure_ (i := 7) (N := some 29) (v := ?_) (a' := ?_) #[true, true, true, false, true, true, true, true, false, false, false, false, false, false, false, false, false, false] rfl rfl (any_of HT_.out (by kernel_rfl)) (fun _ _ _ h => h) (Or.inl ⟨by rfl, ?_⟩) ?_ ?_
        rotate_left
        · intro w'
          go_simp
          with_reducible rfl
        rotate_left
        · simp only [Act.put, List.setIfInBounds_toArray, List.set_cons_zero, List.set_cons_succ]
          rfl
        refine pure_ (i := 9) (N := some 31) (v := ?_) (a' := ?_) #[true, true, true, false, true, true, true, true, false, true, false, false, false, false, false, false, false, false] rfl rfl (any_of HT_.out (by kernel_rfl)) (fun _ _ _ h => h) (Or.inl ⟨by rfl, ?_⟩) ?_ ?_
        rotate_left
        · intro w'
          go_simp
          with_reducible rfl
        rotate_left
        · simp only [Act.put, List.setIfInBounds_toArray, List.set_cons_zero, List.set_cons_succ]
          rfl
        obtain ⟨hmem, hln, hK, hG0, hin⟩ := X.out
        have hG := hG0.drew
        have hKd : KeptW B wr wr.drew := ⟨(Below.refl _ _).drew, fun _ _ _ _ h => h⟩
        have hnsz : nm.size ≤ maxLen := HS.out nm (take_at hlt HN.out)
        have hBw : B ≤ wr.heap.size := Nat.le_trans hB hK.below.size
        clear c0 c1 hrun hcell
        generalize wr.drew = W at hG hKd ⊢
        have hne : bo ≠ bi := by
          have := hG.apart
          rw [List.nodup_cons] at this
          intro e
          exact this.1 (by rw [e]; exact List.mem_cons_self)
        have hbo := hG.mo.lt
        have hbil := hG.mi.lt
        have hno : nm ∉ (encM lo).map Prod.fst := by rw [fst_encM, hG.no]; exact hin
        have hni : nm ∉ (encM li).map Prod.fst := by rw [fst_encM, hG.ni]; exact hin
        have hgl : g < W.heap.size := (Array.getElem?_eq_some_iff.1 hG.cells).1
        have hgo : g ≠ bo := by
          intro e
          obtain ⟨es, clock, hb, _⟩ := hG.mo
          rw [← e, hG.cells] at hb; cases hb
        have hgi : g ≠ bi := by
          intro e
          obtain ⟨es, clock, hb, _⟩ := hG.mi
          rw [← e, hG.cells] at hb; cases hb
        have hcg := hG.cells
        refine inv_ [3, 8, 10, 11, 12, 13, 14, 15, 16, 17] (fun b a w => ∃ (v25 v30 v32 v33 v34 v35 v36 v37 : Value) (m1 m2 s1 s2 : Nat), a = ⟨#[.pointer (some ⟨g, 0, none⟩), .slice (some ad) l.length c, undef, undef, .int .i64 0, undef, .string nm, .pointer (some ⟨g, 0, none⟩), .bool false, .slice (some ad) l.length c, .int .i64 l.length, .int .i64 k, .bool true, .pointer (some (ad.add k)), .string nm, .pointer (some ⟨g, 0, none⟩), .pointer (some ⟨g, 0, none⟩), .pointer (some ⟨g, 0, none⟩), .map (some bo), .string nm, .map none, .bool true, .pointer (some ⟨g, 0, none⟩), .pointer (some ⟨g, 0, none⟩), .pointer (some ⟨g, 0, none⟩), v25, .string nm, .pointer (some ⟨g, 0, none⟩), .pointer (some ⟨g, 0, none⟩), .pointer (some ⟨g, 1, none⟩), v30, .string nm, v32, v33, v34, v35, v36, v37, u38], []⟩ ∧ Slots7 bo bi b v25 v30 v32 v33 v34 v35 v36 v37 m1 m2 s1 s2 ∧ R7 W bo bi (encM lo) (encM li) nm b m1 m2 s1 s2 w) HT_.out HW_.out (by kernel_rfl) (by kernel_rfl) ?_ ?_ ?_
        · refine ⟨_, _, _, _, _, _, _, _, 0, 0, 0, 0, rfl, ⟨by simp, by simp, by simp, by simp, by simp, by simp, by simp, by simp⟩, ⟨rfl, rfl, rfl, Nat.le_refl _, fun _ _ _ _ => rfl, ?_, ?_, (by intro h; cases h), (by intro h; cases h), (by intro h; cases h)⟩⟩
          · unfold Stage; simpa using hG.mo
          · unfold Stage; simpa using hG.mi
        · refine steps_cons ?c3 <| steps_cons ?c8 <| steps_cons ?c10 <| steps_cons ?c11 <| steps_cons ?c12 <| steps_cons ?c13 <| steps_cons ?c14 <| steps_cons ?c15 <| steps_cons ?c16 <| steps_cons ?c17 <| steps_nil
          case c3 =>
            intro b a w hI hbi hwt hd
            obtain ⟨v25, v30, v32, v33, v34, v35, v36, v37, m1, m2, s1, s2, rfl, hS, hR⟩ := hI
            refine ⟨_, rfl, fun K hK => ?_⟩
            rw [if_pos (by rfl)]
            unfold Oper.wp
            have hc : w.cell? ⟨g, 0, none⟩ = some (.map (some bo)) := by simp [World.cell?, hR.kept g hgl hgo hgi, hcg]
            go_simp
            exact hK.out _ _ ⟨.map (some bo), v30, v32, v33, v34, v35, v36, v37, m1, m2, s1, s2, rfl, ⟨(fun _ => rfl), (fun h => hS.h30 (by rw [up_ne (by omega)] at h; exact h)), (fun h => hS.h32 (by rw [up_ne (by omega)] at h; exact h)), (fun h => hS.h33 (by rw [up_ne (by omega)] at h; exact h)), (fun h => hS.h34 (by rw [up_ne (by omega)] at h; exact h)), (fun h => hS.h35 (by rw [up_ne (by omega)] at h; exact h)), (fun h => hS.h36 (by rw [up_ne (by omega)] at h; exact h)), (fun h => hS.h37 (by rw [up_ne (by omega)] at h; exact h))⟩, hR.quiet 3 (by omega)⟩
          case c8 =>
            intro b a w hI hbi hwt hd
            obtain ⟨v25, v30, v32, v33, v34, v35, v36, v37, m1, m2, s1, s2, rfl, hS, hR⟩ := hI
            refine ⟨_, rfl, fun K hK => ?_⟩
            rw [if_pos (by rfl)]
            unfold Oper.wp
            have hc : w.cell? ⟨g, 1, none⟩ = some (.map (some bi)) := by simp [World.cell?, hR.kept g hgl hgo hgi, hcg]
            go_simp
            exact hK.out _ _ ⟨v25, .map (some bi), v32, v33, v34, v35, v36, v37, m1, m2, s1, s2, rfl, ⟨(fun h => hS.h25 (by rw [up_ne (by omega)] at h; exact h)), (fun _ => rfl), (fun h => hS.h32 (by rw [up_ne (by omega)] at h; exact h)), (fun h => hS.h33 (by rw [up_ne (by omega)] at h; exact h)), (fun h => hS.h34 (by rw [up_ne (by omega)] at h; exact h)), (fun h => hS.h35 (by rw [up_ne (by omega)] at h; exact h)), (fun h => hS.h36 (by rw [up_ne (by omega)] at h; exact h)), (fun h => hS.h37 (by rw [up_ne (by omega)] at h; exact h))⟩, hR.quiet 8 (by omega)⟩
          case c10 =>
            intro b a w hI hbi hwt hd
            obtain ⟨v25, v30, v32, v33, v34, v35, v36, v37, m1, m2, s1, s2, rfl, hS, hR⟩ := hI
            refine ⟨_, rfl, fun K hK => ?_⟩
            rw [if_pos (by rfl)]
            unfold Oper.wp
            have hmm := @run_makeMap Try.prog
            go_simp
            exact hK.out _ _ ⟨v25, v30, .map (some w.heap.size), v33, v34, v35, v36, v37, w.heap.size, m2, s1, s2, rfl, ⟨(fun h => hS.h25 (by rw [up_ne (by omega)] at h; exact h)), (fun h => hS.h30 (by rw [up_ne (by omega)] at h; exact h)), (fun _ => rfl), (fun h => hS.h33 (by rw [up_ne (by omega)] at h; exact h)), (fun h => hS.h34 (by rw [up_ne (by omega)] at h; exact h)), (fun h => hS.h35 (by rw [up_ne (by omega)] at h; exact h)), (fun h => hS.h36 (by rw [up_ne (by omega)] at h; exact h)), (fun h => hS.h37 (by rw [up_ne (by omega)] at h; exact h))⟩, hR.make1 hbi (hd 14 (by kernel_rfl))⟩
          case c11 =>
            intro b a w hI hbi hwt hd
            obtain ⟨v25, v30, v32, v33, v34, v35, v36, v37, m1, m2, s1, s2, rfl, hS, hR⟩ := hI
            refine ⟨_, rfl, fun K hK => ?_⟩
            rw [if_pos (by rfl)]
            unfold Oper.wp
            have hmm := @run_makeMap Try.prog
            go_simp
            exact hK.out _ _ ⟨v25, v30, v32, .map (some w.heap.size), v34, v35, v36, v37, m1, w.heap.size, s1, s2, rfl, ⟨(fun h => hS.h25 (by rw [up_ne (by omega)] at h; exact h)), (fun h => hS.h30 (by rw [up_ne (by omega)] at h; exact h)), (fun h => hS.h32 (by rw [up_ne (by omega)] at h; exact h)), (fun _ => rfl), (fun h => hS.h34 (by rw [up_ne (by omega)] at h; exact h)), (fun h => hS.h35 (by rw [up_ne (by omega)] at h; exact h)), (fun h => hS.h36 (by rw [up_ne (by omega)] at h; exact h)), (fun h => hS.h37 (by rw [up_ne (by omega)] at h; exact h))⟩, hR.make2 hbi (hd 17 (by kernel_rfl))⟩
          case c12 =>
            intro b a w hI hbi hwt hd
            obtain ⟨v25, v30, v32, v33, v34, v35, v36, v37, m1, m2, s1, s2, rfl, hS, hR⟩ := hI
            refine ⟨_, rfl, fun K hK => ?_⟩
            rw [if_pos (by rfl)]
            unfold Oper.wp
            obtain rfl := hS.h25 (hwt 3 (by kernel_rfl))
            obtain ⟨st, w', hrun, hR'⟩ := hR.entry1 hne hbo hnsz hno hbi (hd 14 (by kernel_rfl))
            go_simp
            exact hK.out _ _ ⟨.map (some bo), v30, v32, v33, .tuple #[.map none, .int .i64 (st : Nat)], v35, v36, v37, m1, m2, st, s2, rfl, ⟨(fun h => hS.h25 (by rw [up_ne (by omega)] at h; exact h)), (fun h => hS.h30 (by rw [up_ne (by omega)] at h; exact h)), (fun h => hS.h32 (by rw [up_ne (by omega)] at h; exact h)), (fun h => hS.h33 (by rw [up_ne (by omega)] at h; exact h)), (fun _ => rfl), (fun h => absurd h (by rw [up_ne (by omega), (hd 13 (by kernel_rfl))]; simp)), (fun h => hS.h36 (by rw [up_ne (by omega)] at h; exact h)), (fun h => hS.h37 (by rw [up_ne (by omega)] at h; exact h))⟩, hR'⟩
          case c13 =>
            intro b a w hI hbi hwt hd
            obtain ⟨v25, v30, v32, v33, v34, v35, v36, v37, m1, m2, s1, s2, rfl, hS, hR⟩ := hI
            refine ⟨_, rfl, fun K hK => ?_⟩
            rw [if_pos (by rfl)]
            unfold Oper.wp
            obtain rfl := hS.h34 (hwt 12 (by kernel_rfl))
            go_simp
            exact hK.out _ _ ⟨v25, v30, v32, v33, .tuple #[.map none, .int .i64 (s1 : Nat)], .int .i64 (s1 : Nat), v36, v37, m1, m2, s1, s2, rfl, ⟨(fun h => hS.h25 (by rw [up_ne (by omega)] at h; exact h)), (fun h => hS.h30 (by rw [up_ne (by omega)] at h; exact h)), (fun h => hS.h32 (by rw [up_ne (by omega)] at h; exact h)), (fun h => hS.h33 (by rw [up_ne (by omega)] at h; exact h)), (fun h => hS.h34 (by rw [up_ne (by omega)] at h; exact h)), (fun _ => rfl), (fun h => hS.h36 (by rw [up_ne (by omega)] at h; exact h)), (fun h => hS.h37 (by rw [up_ne (by omega)] at h; exact h))⟩, hR.quiet 13 (by omega)⟩
          case c14 =>
            intro b a w hI hbi hwt hd
            obtain ⟨v25, v30, v32, v33, v34, v35, v36, v37, m1, m2, s1, s2, rfl, hS, hR⟩ := hI
            refine ⟨_, rfl, fun K hK => ?_⟩
            rw [if_pos (by rfl)]
            unfold Oper.wp
            obtain rfl := hS.h25 (hwt 3 (by kernel_rfl))
            obtain rfl := hS.h35 (hwt 13 (by kernel_rfl))
            obtain rfl := hS.h32 (hwt 10 (by kernel_rfl))
            obtain ⟨w', hrun, hR'⟩ := hR.store1 hne hbo (hwt 12 (by kernel_rfl)) hbi
            go_simp
            exact hK.out _ _ ⟨.map (some bo), v30, .map (some m1), v33, v34, .int .i64 (s1 : Nat), v36, v37, m1, m2, s1, s2, rfl, ⟨(fun h => hS.h25 (by rw [up_ne (by omega)] at h; exact h)), (fun h => hS.h30 (by rw [up_ne (by omega)] at h; exact h)), (fun h => hS.h32 (by rw [up_ne (by omega)] at h; exact h)), (fun h => hS.h33 (by rw [up_ne (by omega)] at h; exact h)), (fun h => hS.h34 (by rw [up_ne (by omega)] at h; exact h)), (fun h => hS.h35 (by rw [up_ne (by omega)] at h; exact h)), (fun h => hS.h36 (by rw [up_ne (by omega)] at h; exact h)), (fun h => hS.h37 (by rw [up_ne (by omega)] at h; exact h))⟩, hR'⟩
          case c15 =>
            intro b a w hI hbi hwt hd
            obtain ⟨v25, v30, v32, v33, v34, v35, v36, v37, m1, m2, s1, s2, rfl, hS, hR⟩ := hI
            refine ⟨_, rfl, fun K hK => ?_⟩
            rw [if_pos (by rfl)]
            unfold Oper.wp
            obtain rfl := hS.h30 (hwt 8 (by kernel_rfl))
            obtain ⟨st, w', hrun, hR'⟩ := hR.entry2 hne hbil hnsz hni hbi (hd 17 (by kernel_rfl))
            go_simp
            exact hK.out _ _ ⟨v25, .map (some bi), v32, v33, v34, v35, .tuple #[.map none, .int .i64 (st : Nat)], v37, m1, m2, s1, st, rfl, ⟨(fun h => hS.h25 (by rw [up_ne (by omega)] at h; exact h)), (fun h => hS.h30 (by rw [up_ne (by omega)] at h; exact h)), (fun h => hS.h32 (by rw [up_ne (by omega)] at h; exact h)), (fun h => hS.h33 (by rw [up_ne (by omega)] at h; exact h)), (fun h => hS.h34 (by rw [up_ne (by omega)] at h; exact h)), (fun h => hS.h35 (by rw [up_ne (by omega)] at h; exact h)), (fun _ => rfl), (fun h => absurd h (by rw [up_ne (by omega), (hd 16 (by kernel_rfl))]; simp))⟩, hR'⟩
          case c16 =>
            intro b a w hI hbi hwt hd
            obtain ⟨v25, v30, v32, v33, v34, v35, v36, v37, m1, m2, s1, s2, rfl, hS, hR⟩ := hI
            refine ⟨_, rfl, fun K hK => ?_⟩
            rw [if_pos (by rfl)]
            unfold Oper.wp
            obtain rfl := hS.h36 (hwt 15 (by kernel_rfl))
            go_simp
            exact hK.out _ _ ⟨v25, v30, v32, v33, v34, v35, .tuple #[.map none, .int .i64 (s2 : Nat)], .int .i64 (s2 : Nat), m1, m2, s1, s2, rfl, ⟨(fun h => hS.h25 (by rw [up_ne (by omega)] at h; exact h)), (fun h => hS.h30 (by rw [up_ne (by omega)] at h; exact h)), (fun h => hS.h32 (by rw [up_ne (by omega)] at h; exact h)), (fun h => hS.h33 (by rw [up_ne (by omega)] at h; exact h)), (fun h => hS.h34 (by rw [up_ne (by omega)] at h; exact h)), (fun h => hS.h35 (by rw [up_ne (by omega)] at h; exact h)), (fun h => hS.h36 (by rw [up_ne (by omega)] at h; exact h)), (fun _ => rfl)⟩, hR.quiet 16 (by omega)⟩
          case c17 =>
            intro b a w hI hbi hwt hd
            obtain ⟨v25, v30, v32, v33, v34, v35, v36, v37, m1, m2, s1, s2, rfl, hS, hR⟩ := hI
            refine ⟨_, rfl, fun K hK => ?_⟩
            rw [if_pos (by rfl)]
            unfold Oper.wp
            obtain rfl := hS.h30 (hwt 8 (by kernel_rfl))
            obtain rfl := hS.h37 (hwt 16 (by kernel_rfl))
            obtain rfl := hS.h33 (hwt 11 (by kernel_rfl))
            obtain ⟨w', hrun, hR'⟩ := hR.store2 hne hbil (hwt 15 (by kernel_rfl)) hbi
            go_simp
            exact hK.out _ _ ⟨v25, .map (some bi), v32, .map (some m2), v34, v35, v36, .int .i64 (s2 : Nat), m1, m2, s1, s2, rfl, ⟨(fun h => hS.h25 (by rw [up_ne (by omega)] at h; exact h)), (fun h => hS.h30 (by rw [up_ne (by omega)] at h; exact h)), (fun h => hS.h32 (by rw [up_ne (by omega)] at h; exact h)), (fun h => hS.h33 (by rw [up_ne (by omega)] at h; exact h)), (fun h => hS.h34 (by rw [up_ne (by omega)] at h; exact h)), (fun h => hS.h35 (by rw [up_ne (by omega)] at h; exact h)), (fun h => hS.h36 (by rw [up_ne (by omega)] at h; exact h)), (fun h => hS.h37 (by rw [up_ne (by omega)] at h; exact h))⟩, hR'⟩
        · intro b a w hb hI
          obtain ⟨v25, v30, v32, v33, v34, v35, v36, v37, m1, m2, s1, s2, rfl, hS, hR⟩ := hI
          have hall : ∀ j, 10 ≤ j → j ≤ 17 → b j = true := by
            intro j h1 h2
            refine hb j ?_
            have : j = 10 ∨ j = 11 ∨ j = 12 ∨ j = 13 ∨ j = 14 ∨ j = 15 ∨ j = 16 ∨ j = 17 := by omega
            rcases this with rfl | rfl | rfl | rfl | rfl | rfl | rfl | rfl <;> rfl
          obtain ⟨hGA, hKA⟩ := hG.add (by rw [show W.heap.size = W.heap.size from rfl]; exact Nat.le_trans hBw hKd.below.size) hin hR hall
          have Y := Lib.hid (And.intro hmem (And.intro hln (And.intro hGA (hK.trans (hKd.trans hKA)))))
          clear hGA hKA hS hR hb hall hmem hln hK hG0 hin hG hKd hne hbo hbil hno hni hgl hgo hgi hcg hBw hnsz HT_ HW_
          go_wp2
          go_roundg (l.length - k)
          case measure => omega
          case rel =>
            obtain ⟨hmem, hln, hGA, hKA⟩ := Y.out
            refine ⟨k + 1, by go_num, by omega, by omega, ⟨N' ++ [nm], hGA, fun x => ?_, ?_, hKA⟩⟩
            · rw [take_mem hlt HN.out, List.mem_append, hmem x, List.mem_singleton, or_assoc]
            · rw [List.length_append, List.length_singleton]
              rw [List.length_take] at hln ⊢
              omega
    · have hkl : k = l.length := by omega
      rw [hkl, List.take_length] at HA
      clear hkl
      go_wp2
      go_ret
      exact ⟨rfl, HA.out⟩
end Go.Proofs.Ytlccejbomgknkaa
namespace Go.Proofs.Ytlccejbomgknkaa
set_option linter.unusedVariables false
set_option linter.unusedSimpArgs false
open Go.RowKit Go.Maps Go.Proofs.YtlccejbomgknkaaW.PrintWords Go.Proofs.YtlccejbomgknkaaW.PrintLast
theorem C_two (w : World) (x y : ByteArray) : Kd.C Kd.string (w.alloc (.cells #[.string x, .string y] 9)) (some ⟨w.heap.size, 0, none⟩) [x, y].length [x, y] := by
  refine ⟨rfl, by simp, fun _ => ⟨_, rfl, fun j p hj => ?_⟩⟩
  have hc : (w.alloc (.cells #[.string x, .string y] 9)).heap[w.heap.size]? = some (.cells #[.string x, .string y] 9 (0, 0)) := (MapKept.heap_alloc w _).1
  have hjl : j < 2 := by have := (List.getElem?_eq_some_iff.1 hj).1; simpa using this
  refine ⟨[.string p], rfl, rfl, fun i u hi => ?_⟩
  have hi0 : i = 0 := by have := (List.getElem?_eq_some_iff.1 hi).1; simpa using this
  subst hi0
  simp only [List.getElem?_cons_zero, Option.some.injEq] at hi
  subst hi
  have : j = 0 ∨ j = 1 := by omega
  rcases this with rfl | rfl
  · simp only [List.getElem?_cons_zero, Option.some.injEq] at hj
    subst hj
    show (w.alloc (.cells #[.string x, .string y] 9)).cell? ⟨w.heap.size, 0, none⟩ = _
    unfold World.cell?
    rw [hc]
    rfl
  · simp only [List.getElem?_cons_succ, List.getElem?_cons_zero, Option.some.injEq] at hj
    subst hj
    show (w.alloc (.cells #[.string x, .string y] 9)).cell? ⟨w.heap.size, 1, none⟩ = _
    unfold World.cell?
    rw [hc]
    rfl
theorem GraphAt.alloc {w : World} {B g : Nat} {N : List ByteArray} {E : Rel} (h : GraphAt w B g N E) (o : Obj) : GraphAt (w.alloc o) B g N E := by
  obtain ⟨bo, bi, lo, li, hG⟩ := h
  have hs : ∀ {b : Nat} {S : ByteArray → Prop}, SetAt w b S → SetAt (w.alloc o) b S := fun ⟨s, h1, h2⟩ => ⟨s, h1.alloc o, h2⟩
  exact ⟨bo, bi, lo, li, ⟨(alloc_same w o (Array.getElem?_eq_some_iff.1 hG.cells).1).trans hG.cells, hG.mo.alloc o, hG.mi.alloc o, hG.no, hG.ni, fun p hp => hs (hG.so p hp), fun p hp => hs (hG.si p hp), hG.apart, hG.base, hG.inN⟩⟩
theorem GraphAt.below {w w' : World} {B g : Nat} {N : List ByteArray} {E : Rel} (h : GraphAt w B g N E) (hb : Below w.heap.size w w') : GraphAt w' B g N E := by
  obtain ⟨bo, bi, lo, li, hG⟩ := h
  have hs : ∀ {b : Nat} {S : ByteArray → Prop}, SetAt w b S → SetAt w' b S := fun ⟨s, h1, h2⟩ => ⟨s, h1.below hb h1.lt, h2⟩
  exact ⟨bo, bi, lo, li, ⟨(hb.block _ (Array.getElem?_eq_some_iff.1 hG.cells).1).trans hG.cells, hG.mo.below hb hG.mo.lt, hG.mi.below hb hG.mi.lt, hG.no, hG.ni, fun p hp => hs (hG.so p hp), fun p hp => hs (hG.si p hp), hG.apart, hG.base, hG.inN⟩⟩
theorem set_put {w' : World} {b : Nat} {s : List ByteArray} {y : ByteArray} {S : ByteArray → Prop} (hS : ∀ x, x ∈ s ↔ S x) (h : MapAt w' b (putE (encS s) y (.bool true))) : SetAt w' b (fun x => S x ∨ x = y) := by
  by_cases hy : y ∈ s
  · refine ⟨s, ?_, fun x => ?_⟩
    · have : putE (encS s) y (.bool true) = encS s := by
        unfold putE
        split
        · refine (List.map_congr_left (fun p hp => ?_)).trans (List.map_id _)
          obtain ⟨z, _, rfl⟩ := List.mem_map.1 hp
          simp only [id]
          split
          · rename_i e; rw [e]
          · rfl
        · rename_i hn
          refine absurd (List.any_eq_true.2 ⟨(y, .bool true), List.mem_map.2 ⟨y, hy, rfl⟩, by simp⟩) hn
      rw [← this]; exact h
    · rw [hS x]
      constructor
      · exact .inl
      · rintro (h1 | rfl)
        · exact h1
        · exact (hS _).1 hy
  · refine ⟨s ++ [y], ?_, fun x => by rw [List.mem_append, hS x, List.mem_singleton]⟩
    have : putE (encS s) y (.bool true) = encS (s ++ [y]) := by
      rw [putE_new]
      · simp [encS]
      · intro p hp e
        obtain ⟨z, hz, rfl⟩ := List.mem_map.1 hp
        exact hy (e ▸ hz)
    rw [← this]; exact h
theorem Gr.link {w w1 w2 : World} {B g bo bi b1 b2 : Nat} {N s1 s2 : List ByteArray} {E : Rel} {lo li : List (ByteArray × Nat)} {x y : ByteArray} (hG : Gr w B g N E bo bi lo li) (hB : B ≤ w.heap.size)
    (m1 : (x, b1) ∈ lo) (m2 : (y, b2) ∈ li) (e1 : ∀ z, z ∈ s1 ↔ E x z) (e2 : ∀ z, z ∈ s2 ↔ E z y)
    (p1 : MapAt w b1 (encS s1)) (p2 : MapAt w1 b2 (encS s2))
    (h1 : MapAt w1 b1 (putE (encS s1) y (.bool true))) (g1 : w.grownBy w1 (some b1)) (h2 : MapAt w2 b2 (putE (encS s2) x (.bool true))) (g2 : w1.grownBy w2 (some b2)) :
    GraphAt w2 B g N (fun a b => E a b ∨ (a = x ∧ b = y)) ∧ KeptW B w w2 := by
  have hap := hG.apart
  rw [List.nodup_cons, List.nodup_cons, List.nodup_append] at hap
  obtain ⟨ha1, ha2, ha3, ha4, ha5⟩ := hap
  have i1 : b1 ∈ lo.map Prod.snd := List.mem_map.2 ⟨_, m1, rfl⟩
  have i2 : b2 ∈ li.map Prod.snd := List.mem_map.2 ⟨_, m2, rfl⟩
  have nbo1 : bo ≠ b1 := fun e => ha1 (by rw [e]; exact List.mem_cons_of_mem _ (List.mem_append_left _ i1))
  have nbo2 : bo ≠ b2 := fun e => ha1 (by rw [e]; exact List.mem_cons_of_mem _ (List.mem_append_right _ i2))
  have nbi1 : bi ≠ b1 := fun e => ha2 (by rw [e]; exact List.mem_append_left _ i1)
  have nbi2 : bi ≠ b2 := fun e => ha2 (by rw [e]; exact List.mem_append_right _ i2)
  have n12 : b1 ≠ b2 := ha5 b1 i1 b2 i2
  have gl : g < w.heap.size := (Array.getElem?_eq_some_iff.1 hG.cells).1
  have keep : ∀ k, k < w.heap.size → k ≠ b1 → k ≠ b2 → w2.heap[k]? = w.heap[k]? := fun k hk n1 n2 =>
    (g2.block k (Nat.lt_of_lt_of_le hk g1.size) (fun e => by injection e with e; exact n2 e)).trans (g1.block k hk (fun e => by injection e with e; exact n1 e))
  have gne : ∀ {b : Nat} {l : Ents}, MapAt w b l → g ≠ b := by
    intro b l hx e
    obtain ⟨es, clock, hb, _⟩ := hx
    rw [← e, hG.cells] at hb
    cases hb
  have p2w : MapAt w b2 (encS s2) := p2.same (g1.block b2 (by
    obtain ⟨s, hs, _⟩ := hG.si _ m2
    exact hs.lt) (fun e => by injection e with e; exact n12 e.symm)).symm
  have ino : ∀ p ∈ lo, p ∈ lo → p.2 = b1 → p.1 = x := by
    intro p hp _ e
    obtain ⟨i, hi, rfl⟩ := List.getElem_of_mem hp
    obtain ⟨j, hj, hje⟩ := List.getElem_of_mem m1
    have : (lo.map Prod.snd)[i]? = (lo.map Prod.snd)[j]? := by
      rw [List.getElem?_map, List.getElem?_map, List.getElem?_eq_getElem hi, List.getElem?_eq_getElem hj, hje]
      simp [e]
    have hij := (List.getElem?_inj (by simpa using hi) ha3).1 this
    subst hij
    rw [hje]
  have ini : ∀ p ∈ li, p.2 = b2 → p.1 = y := by
    intro p hp e
    obtain ⟨i, hi, rfl⟩ := List.getElem_of_mem hp
    obtain ⟨j, hj, hje⟩ := List.getElem_of_mem m2
    have : (li.map Prod.snd)[i]? = (li.map Prod.snd)[j]? := by
      rw [List.getElem?_map, List.getElem?_map, List.getElem?_eq_getElem hi, List.getElem?_eq_getElem hj, hje]
      simp [e]
    have hij := (List.getElem?_inj (by simpa using hi) ha4).1 this
    subst hij
    rw [hje]
  have ndo : (lo.map Prod.fst).Nodup := by rw [hG.no]; exact hG.nodup
  have ndi : (li.map Prod.fst).Nodup := by rw [hG.ni]; exact hG.nodup
  have one : ∀ {l : List (ByteArray × Nat)} {k : ByteArray} {a b : Nat}, (l.map Prod.fst).Nodup → (k, a) ∈ l → (k, b) ∈ l → a = b := by
    intro l k a b hn ha hb
    have e1 := getE_encM hn ha
    have e2 := getE_encM hn hb
    rw [e1] at e2
    injection e2 with e2; injection e2 with e2; injection e2
  have lt2 : ∀ p ∈ lo, p.2 < w.heap.size := fun p hp => by obtain ⟨s, hs, _⟩ := hG.so p hp; exact hs.lt
  have lt3 : ∀ p ∈ li, p.2 < w.heap.size := fun p hp => by obtain ⟨s, hs, _⟩ := hG.si p hp; exact hs.lt
  refine ⟨⟨bo, bi, lo, li, ⟨(keep g gl (gne p1) (gne p2w)).trans hG.cells, hG.mo.same (keep bo hG.mo.lt nbo1 nbo2), hG.mi.same (keep bi hG.mi.lt nbi1 nbi2), hG.no, hG.ni, ?_, ?_, hG.apart, hG.base, ?_⟩⟩, ?_⟩
  · intro p hp
    by_cases hpx : p.1 = x
    · have hb : p.2 = b1 := one ndo (by rw [← hpx] at m1 ⊢; exact hp) m1
      have h1' : MapAt w2 b1 (putE (encS s1) y (.bool true)) := h1.same (g2.block b1 h1.lt (fun e => by injection e with e; exact n12 e))
      obtain ⟨s, q1, q2⟩ := set_put e1 h1'
      refine ⟨s, by rw [hb]; exact q1, fun z => ?_⟩
      rw [q2 z, hpx]
      constructor
      · rintro (q | q)
        · exact .inl q
        · exact .inr ⟨rfl, q⟩
      · rintro (q | q)
        · exact .inl q
        · exact .inr q.2
    · obtain ⟨s, q1, q2⟩ := hG.so p hp
      have nb1 : p.2 ≠ b1 := fun e => hpx (ino p hp hp e)
      have nb2 : p.2 ≠ b2 := ha5 p.2 (List.mem_map.2 ⟨p, hp, rfl⟩) b2 i2
      refine ⟨s, q1.same (keep p.2 (lt2 p hp) nb1 nb2), fun z => ?_⟩
      rw [q2 z]
      constructor
      · exact .inl
      · rintro (q | q)
        · exact q
        · exact absurd q.1 hpx
  · intro p hp
    by_cases hpy : p.1 = y
    · have hb : p.2 = b2 := one ndi (by rw [← hpy] at m2 ⊢; exact hp) m2
      obtain ⟨s, q1, q2⟩ := set_put e2 h2
      refine ⟨s, by rw [hb]; exact q1, fun z => ?_⟩
      rw [q2 z, hpy]
      constructor
      · rintro (q | q)
        · exact .inl q
        · exact .inr ⟨q, rfl⟩
      · rintro (q | q)
        · exact .inl q
        · exact .inr q.1
    · obtain ⟨s, q1, q2⟩ := hG.si p hp
      have nb2 : p.2 ≠ b2 := fun e => hpy (ini p hp e)
      have nb1 : p.2 ≠ b1 := fun e => ha5 b1 i1 p.2 (List.mem_map.2 ⟨p, hp, rfl⟩) e.symm
      refine ⟨s, q1.same (keep p.2 (lt3 p hp) nb1 nb2), fun z => ?_⟩
      rw [q2 z]
      constructor
      · exact .inl
      · rintro (q | q)
        · exact q
        · exact absurd q.2 hpy
  · rintro a b (q | ⟨rfl, rfl⟩)
    · exact hG.inN a b q
    · exact ⟨by rw [← hG.no]; exact List.mem_map.2 ⟨_, m1, rfl⟩, by rw [← hG.ni]; exact List.mem_map.2 ⟨_, m2, rfl⟩⟩
  · have hb1 := hG.base b1 (by simp only [List.mem_cons, List.mem_append]; exact .inr (.inr (.inr (.inl i1))))
    have hb2 := hG.base b2 (by simp only [List.mem_cons, List.mem_append]; exact .inr (.inr (.inr (.inr i2))))
    exact (KeptW.of_map p1 g1 hb1).trans (KeptW.of_map p2 g2 hb2)
def Linked (w : World) (B g : Nat) (N : List ByteArray) (E : Rel) (x y : ByteArray) (w' : World) : Prop :=
  ∃ N', GraphAt w' B g N' (fun a b => E a b ∨ (a = x ∧ b = y)) ∧ (∀ z, z ∈ N' ↔ z ∈ N ∨ z = x ∨ z = y) ∧ N'.length ≤ N.length + 2 ∧ KeptW B w w'
theorem Add_two {w : World} {B g : Nat} {N : List ByteArray} {E : Rel} (h : GraphAt w B g N E) (hB : B ≤ w.heap.size) (x y : ByteArray) (hx : x.size ≤ maxLen) (hy : y.size ≤ maxLen) :
    Calls Try.prog 38 #[.pointer (some ⟨g, 0, none⟩), .slice (some ⟨w.heap.size, 0, none⟩) 2 2] (w.alloc (.cells #[.string x, .string y] 9)) fun e w' => e = .returned (.int .i64 0) ∧ Added w B g N [x, y] E w' := by
  have := Add_any (h.alloc (.cells #[.string x, .string y] 9)) (by simp; omega) (some ⟨w.heap.size, 0, none⟩) 2 [x, y] (C_two w x y) (by
    intro z hz
    simp only [List.mem_cons, List.not_mem_nil, or_false] at hz
    rcases hz with rfl | rfl
    · exact hx
    · exact hy)
  refine this.mono ?_
  rintro e w' ⟨h1, N', h2, h3, h4, h5⟩
  have hk : KeptW B w (w.alloc (.cells #[.string x, .string y] 9)) := ⟨(Below.refl _ _).alloc hB _, fun k c e f hk => (alloc_same w _ (Array.getElem?_eq_some_iff.1 hk).1).trans hk⟩
  exact ⟨h1, N', h2, h3, h4, hk.trans h5⟩
set_option maxRecDepth 100000 in
set_option maxHeartbeats 1000000 in
theorem Link_any {w : World} {B g : Nat} {N : List ByteArray} {E : Rel} (h : GraphAt w B g N E) (hB : B ≤ w.heap.size) (x y : ByteArray) (hx : x.size ≤ maxLen) (hy : y.size ≤ maxLen) :
    Calls Try.prog 23 #[.pointer (some ⟨g, 0, none⟩), .string x, .string y] w fun e w' => e = .returned (.int .i64 0) ∧ Linked w B g N E x y w' := by
  have HA := Lib.hid (Add_two h hB x y hx hy)
  have HX := Lib.hid (And.intro hx (And.intro hy hB))
  clear h hx hy hB
  go_enter Try.func23, Try.ntmps23
  go_wp2_with fail
  refine HA.out.mono ?_
  rintro e w1 ⟨rfl, N1, ⟨bo, bi, lo, li, hG⟩, hmem, hlen, hK⟩
  obtain ⟨b1, m1, v1, s1, p1, e1⟩ := hG.outOf (k := x) ((hmem x).2 (.inr (by simp)))
  obtain ⟨b2, m2, v2, s2, p2, e2⟩ := hG.inOf (k := y) ((hmem y).2 (.inr (by simp)))
  have c0 := hG.cell0
  have HG := Lib.hid (And.intro hG (And.intro hmem (And.intro hlen (And.intro hK (And.intro m1 (And.intro m2 (And.intro e1 (And.intro e2 (And.intro p1 p2)))))))))
  have HV := Lib.hid (And.intro v1 v2)
  clear hG hmem hlen hK m1 m2 e1 e2 p1 p2 v1 v2
  go_wp2_with (first | (at_lookup; refine wpList_lookAt _ rfl (.tmp 19) (.tmp 20) 65 rfl 9 70 Try.underlying65 Try.underlying9 (.map none) zero70 bo (encM lo) HG.out.1.mo rfl x rfl (.map (some b1)) (by rw [HV.out.1]; rfl) ?_) | (at_mapUpdate; refine wpList_putAt _ rfl (.tmp 21) (.tmp 22) (.const (.bool true)) 70 rfl 9 4 Try.underlying70 Try.underlying9 b1 (encS s1) HG.out.2.2.2.2.2.2.2.2.1 rfl y rfl HX.out.2.1 (.bool true) rfl ?_))
  intro w2 h1 g1 z1
  have nb : b1 ≠ bi ∧ b1 ≠ b2 := by
    obtain ⟨hG, _, _, _, m1, m2, _⟩ := HG.out
    have hap := hG.apart
    rw [List.nodup_cons, List.nodup_cons, List.nodup_append] at hap
    have i1 : b1 ∈ lo.map Prod.snd := List.mem_map.2 ⟨_, m1, rfl⟩
    exact ⟨fun e => hap.2.1 (by rw [← e]; exact List.mem_append_left _ i1), hap.2.2.2.2 b1 i1 b2 (List.mem_map.2 ⟨_, m2, rfl⟩)⟩
  have c1 : w2.cell? ⟨g, 1, none⟩ = some (.map (some bi)) := g1.cell HG.out.1.cell1 (by
    intro e
    injection e with e
    have e : g = b1 := e
    obtain ⟨es, clock, hb, _⟩ := HG.out.2.2.2.2.2.2.2.2.1
    have := HG.out.1.cells
    rw [e, hb] at this
    cases this)
  have hi2 : MapAt w2 bi (encM li) := HG.out.1.mi.same (g1.block bi HG.out.1.mi.lt (fun e => by injection e with e; exact nb.1 e.symm))
  have hb2 : MapAt w2 b2 (encS s2) := HG.out.2.2.2.2.2.2.2.2.2.same (g1.block b2 HG.out.2.2.2.2.2.2.2.2.2.lt (fun e => by injection e with e; exact nb.2 e.symm))
  have HH := Lib.hid (And.intro h1 (And.intro g1 (And.intro hi2 hb2)))
  clear h1 g1 z1 hi2 hb2 nb c0
  go_wp2_with (first | (at_lookup; refine wpList_lookAt _ rfl (.tmp 26) (.tmp 27) 65 rfl 9 70 Try.underlying65 Try.underlying9 (.map none) zero70 bi (encM li) HH.out.2.2.1 rfl y rfl (.map (some b2)) (by rw [HV.out.2]; rfl) ?_) | (at_mapUpdate; refine wpList_putAt _ rfl (.tmp 28) (.tmp 29) (.const (.bool true)) 70 rfl 9 4 Try.underlying70 Try.underlying9 b2 (encS s2) HH.out.2.2.2 rfl x rfl HX.out.1 (.bool true) rfl ?_))
  intro w3 h2 g2 z2
  have HZ := Lib.hid (And.intro h2 g2)
  clear h2 g2 z2 c1
  go_wp2
  go_ret
  obtain ⟨hG, hmem, hlen, hK, m1, m2, e1, e2, p1, p2⟩ := HG.out
  obtain ⟨h1, g1, hi2, hb2⟩ := HH.out
  obtain ⟨h2, g2⟩ := HZ.out
  obtain ⟨q1, q2⟩ := hG.link (Nat.le_trans HX.out.2.2 hK.below.size) m1 m2 e1 e2 p1 hb2 h1 g1 h2 g2
  refine ⟨rfl, N1, q1, fun z => ?_, hlen, hK.trans q2⟩
  rw [hmem z]
  simp
def kE : Kd (ByteArray × ByteArray) := Kd.pair Kd.string Kd.string
theorem C_pair_kept {w w' : World} {B : Nat} {A : Option Addr} {n : Nat} {xs : List (ByteArray × ByteArray)} (h : Kd.C kE w A n xs) (hk : KeptW B w w') : Kd.C kE w' A n xs := by
  obtain ⟨h1, h2, h3⟩ := h
  refine ⟨h1, h2, fun hn => ?_⟩
  obtain ⟨ad, hA, hc⟩ := h3 hn
  refine ⟨ad, hA, fun j p hj => ?_⟩
  obtain ⟨c, hl, hR, hcell⟩ := hc j p hj
  exact ⟨c, hl, hR, fun i u hi => hk.cell (hcell i u hi)⟩
theorem at_pair {w : World} {A : Option Addr} {n : Nat} {xs : List (ByteArray × ByteArray)} (h : Kd.C kE w A n xs) (k : Nat) (hk : k < n) : ∃ ad p, xs[k]? = some p ∧ A = some ad ∧ w.cell? (ad.add (k * 2)) = some (.string p.1) ∧ w.cell? ⟨(ad.add (k * 2)).block, (ad.add (k * 2)).off + 1, none⟩ = some (.string p.2) := by
  obtain ⟨h1, _, h3⟩ := h
  obtain ⟨ad, hA, hc⟩ := h3 (by omega)
  have hl : k < xs.length := by omega
  obtain ⟨c, hs, hR, hcell⟩ := hc k xs[k] (List.getElem?_eq_getElem hl)
  obtain ⟨c0, c1, rfl, rfl, rfl⟩ := hR
  refine ⟨ad, xs[k], List.getElem?_eq_getElem hl, hA, hcell 0 _ rfl, ?_⟩
  rw [← add_field _ _ 1 (by omega)]
  exact hcell 1 _ rfl
theorem graph_new (w : World) : GraphAt (((w.alloc (.map #[] 0)).alloc (.map #[] 0)).alloc (.cells #[.map (some w.heap.size), .map (some (w.heap.size + 1))] 67)) w.heap.size (w.heap.size + 1 + 1) [] (fun _ _ => False) := by
  refine ⟨w.heap.size, w.heap.size + 1, [], [], ⟨?_, ?_, ?_, rfl, rfl, fun p hp => (by cases hp), fun p hp => (by cases hp), ?_, ?_, fun _ _ h => False.elim h⟩⟩
  · have := (MapKept.heap_alloc ((w.alloc (.map #[] 0)).alloc (.map #[] 0)) (.cells #[.map (some w.heap.size), .map (some (w.heap.size + 1))] 67)).1
    simpa using this
  · exact ((MapAt.made w).alloc _).alloc _
  · have := (MapAt.made (w.alloc (.map #[] 0))).alloc (.cells #[.map (some w.heap.size), .map (some (w.heap.size + 1))] 67)
    simpa [encM] using this
  · simp
  · intro k hk
    simp only [List.map_nil, List.append_nil, List.mem_cons, List.not_mem_nil, or_false] at hk
    omega
def Newed (w : World) (g : Nat) (l : List (ByteArray × ByteArray)) (w' : World) : Prop :=
  ∃ N, GraphAt w' w.heap.size g N (fun x y => (x, y) ∈ l) ∧ (∀ z, z ∈ N ↔ ∃ e ∈ l, e.1 = z ∨ e.2 = z) ∧ N.length ≤ 2 * l.length ∧ KeptW w.heap.size w w'
set_option maxRecDepth 100000 in
set_option maxHeartbeats 1000000 in
theorem New_any {w : World} (A : Option Addr) (c : Nat) (l : List (ByteArray × ByteArray)) (hl : Kd.C kE w A l.length l) (hsz : ∀ e ∈ l, e.1.size ≤ maxLen ∧ e.2.size ≤ maxLen) :
    Calls Try.prog 35 #[.slice A l.length c] w fun e w' => e = .returned (.pointer (some ⟨w.heap.size + 1 + 1, 0, none⟩)) ∧ Newed w (w.heap.size + 1 + 1) l w' := by
  have hlen := hl.2.1
  have h0 : Newed w (w.heap.size + 1 + 1) (l.take 0) (((w.alloc (.map #[] 0)).alloc (.map #[] 0)).alloc (.cells #[.map (some w.heap.size), .map (some (w.heap.size + 1))] 67)) :=
    ⟨[], by simpa using graph_new w, by simp, by simp, ⟨(((Below.refl _ _).alloc (Nat.le_refl _) _).alloc (by simp) _).alloc (by simp; omega) _, fun k c e f hk => by
      have hlt := (Array.getElem?_eq_some_iff.1 hk).1
      exact (alloc_same _ _ (by simp; omega)).trans ((alloc_same _ _ (by simp; omega)).trans ((alloc_same _ _ hlt).trans hk))⟩⟩
  have H0 := Lib.hid h0
  have HL := Lib.hid hl
  have HS := Lib.hid hsz
  have hmm := @run_makeMap Try.prog
  clear h0 hl hsz
  go_enter Try.func35, Try.ntmps35
  go_wp2
  go_loopg [12] (l.length + 1) (fun q v wr => ∃ k : Nat, v = .int .i64 k ∧ k ≤ l.length ∧ q + k = l.length + 1 ∧ Hid (Newed w (w.heap.size + 1 + 1) (l.take k) wr))
  case atStart => exact ⟨0, rfl, by omega, by omega, H0⟩
  case round =>
    obtain ⟨k, rfl, hk, hq, HA⟩ := hrel
    clear H0
    by_cases hlt : k < l.length
    · obtain ⟨N', hG', hmem, hln, hK⟩ := HA.out
      obtain ⟨ad, p, hp, hA, hc0, hc1⟩ := at_pair (C_pair_kept HL.out hK) k hlt
      subst hA
      obtain ⟨x, y⟩ := p
      have HP := Lib.hid hp
      have hxy := HS.out _ (List.mem_of_getElem? hp)
      have HC := Lib.hid (Link_any (hG'.alloc (.cells #[.string x, .string y] 45)) (by have := hK.below.size; simp; omega) x y hxy.1 hxy.2)
      have HO := Lib.hid (And.intro hmem (And.intro hln hK))
      clear hG' hmem hln hK hp hxy
      go_wp2_with fail
      refine HC.out.mono ?_
      rintro e w2 ⟨rfl, hL⟩
      have HZ := Lib.hid hL
      clear hL
      go_wp2
      go_roundg (l.length - k)
      case measure => omega
      case rel =>
        obtain ⟨N1, q1, q2, q3, q4⟩ := HZ.out
        obtain ⟨hmem, hln, hK⟩ := HO.out
        have htk : l.take (k + 1) = l.take k ++ [(x, y)] := by
          rw [List.take_succ_eq_append_getElem hlt]
          have := HP.out
          rw [List.getElem?_eq_getElem hlt] at this
          rw [Option.some.inj this]
        refine ⟨k + 1, by go_num, by omega, by omega, ⟨N1, ?_, fun z => ?_, ?_, ?_⟩⟩
        · rw [htk]
          have : (fun a b => (a, b) ∈ l.take k ++ [(x, y)]) = (fun a b => (a, b) ∈ l.take k ∨ (a = x ∧ b = y)) := by
            funext a b
            simp
          rw [this]
          exact q1
        · rw [q2 z, hmem z, htk]
          constructor
          · rintro (⟨e, he, h⟩ | rfl | rfl)
            · exact ⟨e, List.mem_append_left _ he, h⟩
            · exact ⟨(z, y), by simp, .inl rfl⟩
            · exact ⟨(x, z), by simp, .inr rfl⟩
          · rintro ⟨e, he, h⟩
            rcases List.mem_append.1 he with he | he
            · exact .inl ⟨e, he, h⟩
            · rw [List.mem_singleton.1 he] at h
              rcases h with h | h
              · exact .inr (.inl h.symm)
              · exact .inr (.inr h.symm)
        · rw [List.length_take] at hln ⊢
          omega
        · have hal : KeptW w.heap.size wr (wr.alloc (.cells #[.string x, .string y] 45)) := ⟨(Below.refl _ _).alloc hK.below.size _, fun k c e f hk => (alloc_same _ _ (Array.getElem?_eq_some_iff.1 hk).1).trans hk⟩
          exact hK.trans (hal.trans q4)
    · have hkl : k = l.length := by omega
      rw [hkl, List.take_length] at HA
      clear hkl
      go_wp2
      go_ret
      exact ⟨rfl, HA.out⟩
end Go.Proofs.Ytlccejbomgknkaa
namespace Go.Proofs.Ytlccejbomgknkaa
set_option linter.unusedVariables false
set_option linter.unusedSimpArgs false
open Go.RowKit Go.Maps Go.Proofs.YtlccejbomgknkaaW.PrintWords Go.Proofs.YtlccejbomgknkaaW.PrintLast
inductive Reach (R : Rel) : ByteArray → ByteArray → Prop
  | refl (x : ByteArray) : Reach R x x
  | head {x y z : ByteArray} : R x y → Reach R y z → Reach R x z
theorem Reach.trans {R : Rel} {x y z : ByteArray} (h : Reach R x y) (k : Reach R y z) : Reach R x z := by
  induction h with
  | refl x => exact k
  | head h1 _ ih => exact .head h1 (ih k)
theorem Reach.snoc {R : Rel} {x y z : ByteArray} (h : Reach R x y) (k : R y z) : Reach R x z := h.trans (.head k (.refl z))
structure VC (w : World) (g bs be ps pg pe pv : Nat) : Prop where
  s : w.cell? ⟨ps, 0, none⟩ = some (.map (some bs))
  g : w.cell? ⟨pg, 0, none⟩ = some (.pointer (some ⟨g, 0, none⟩))
  e : w.cell? ⟨pe, 0, none⟩ = some (.map (some be))
  v : w.cell? ⟨pv, 0, none⟩ = some (.func (.func 52) #[] #[.pointer (some ⟨ps, 0, none⟩), .pointer (some ⟨pg, 0, none⟩), .pointer (some ⟨pe, 0, none⟩), .pointer (some ⟨pv, 0, none⟩)])
theorem cell_ne_map {w : World} {b p o : Nat} {l : Ents} {v : Value} (h : MapAt w b l) (hc : w.cell? ⟨p, o, none⟩ = some v) : p ≠ b := by
  rintro rfl
  obtain ⟨es, clock, hb, _⟩ := h
  unfold World.cell? at hc
  simp only [hb] at hc
  cases hc
theorem VC.grown {w w' : World} {g bs be ps pg pe pv : Nat} {l : Ents} (h : VC w g bs be ps pg pe pv) (hm : MapAt w bs l) (hg : w.grownBy w' (some bs)) : VC w' g bs be ps pg pe pv :=
  ⟨hg.cell h.s (fun e => cell_ne_map hm h.s (by injection e)), hg.cell h.g (fun e => cell_ne_map hm h.g (by injection e)), hg.cell h.e (fun e => cell_ne_map hm h.e (by injection e)), hg.cell h.v (fun e => cell_ne_map hm h.v (by injection e))⟩
theorem block_of_cell {w w' : World} {p o : Nat} {v : Value} (he : w'.heap[p]? = w.heap[p]?) (hc : w.cell? ⟨p, o, none⟩ = some v) : w'.cell? ⟨p, o, none⟩ = some v := by
  unfold World.cell? at hc ⊢
  simp only [he]
  exact hc
theorem cell_lt {w : World} {p o : Nat} {v : Value} (hc : w.cell? ⟨p, o, none⟩ = some v) : p < w.heap.size := by
  unfold World.cell? at hc
  split at hc
  · rename_i c e f hb
    exact (Array.getElem?_eq_some_iff.1 hb).1
  · cases hc
theorem VC.below {w w' : World} {g bs be ps pg pe pv : Nat} (h : VC w g bs be ps pg pe pv) (hb : Below w.heap.size w w') : VC w' g bs be ps pg pe pv :=
  ⟨block_of_cell (hb.block _ (cell_lt h.s)) h.s, block_of_cell (hb.block _ (cell_lt h.g)) h.g, block_of_cell (hb.block _ (cell_lt h.e)) h.e, block_of_cell (hb.block _ (cell_lt h.v)) h.v⟩
theorem MapAt.keys_nodup {w : World} {b : Nat} {s : List ByteArray} (h : MapAt w b (encS s)) : s.Nodup := by
  have := h.nodup
  rwa [fst_encS] at this
theorem Gr.size_le {w : World} {B g bo bi : Nat} {N : List ByteArray} {E : Rel} {lo li : List (ByteArray × Nat)} (h : Gr w B g N E bo bi lo li) {x : ByteArray} (hx : x ∈ N) : x.size ≤ maxLen := by
  obtain ⟨es, clock, _, _, _, hs⟩ := h.mo
  rw [← h.no] at hx
  obtain ⟨p, hp, rfl⟩ := List.mem_map.1 hx
  exact hs (p.1, .map (some p.2)) (List.mem_map.2 ⟨p, hp, rfl⟩)
theorem GraphAt.size_le {w : World} {B g : Nat} {N : List ByteArray} {E : Rel} (h : GraphAt w B g N E) {x : ByteArray} (hx : x ∈ N) : x.size ≤ maxLen := by
  obtain ⟨bo, bi, lo, li, hG⟩ := h
  exact hG.size_le hx
theorem length_delE_lt {l : Ents} {k : ByteArray} {v : Value} (h : (k, v) ∈ l) : (delE l k).length < l.length := by
  unfold delE
  rcases Nat.lt_or_ge ((l.filter (fun p => decide (p.1 ≠ k))).length) l.length with h1 | h1
  · exact h1
  · have h2 := List.length_filter_eq_length_iff.1 (Nat.le_antisymm (List.length_filter_le _ _) h1) _ h
    simp at h2
end Go.Proofs.Ytlccejbomgknkaa
namespace Go.Proofs.Ytlccejbomgknkaa
set_option linter.unusedVariables false
set_option linter.unusedSimpArgs false
open Go.RowKit Go.Maps Go.Proofs.YtlccejbomgknkaaW.PrintWords Go.Proofs.YtlccejbomgknkaaW.PrintLast
theorem infoStr : (Try.prog.info? 9).map (fun i => (i.zero, i.size, i.bytes)) = some (some (.string ⟨#[]⟩), 1, 16) := by kernel_rfl
def OwnS (w : World) (base : Nat) (A : Option Addr) (c : Nat) (xs : List ByteArray) : Prop := w.ownsRow base 9 1 (.slice A xs.length c) xs.length (encs Value.string xs)
theorem OwnS.kd {w : World} {base c : Nat} {A : Option Addr} {xs : List ByteArray} (h : OwnS w base A c xs) : Kd.R Kd.string 9 w base (fun _ => True) (.slice A xs.length c) xs :=
  Kd.R_of_own (enc := Value.string) (h1 := fun _ => rfl) h (fun _ _ => trivial)
theorem OwnS.reads {w : World} {base c : Nat} {A : Option Addr} {xs : List ByteArray} (h : OwnS w base A c xs) : Kd.C Kd.string w A xs.length xs := (Kd.R_reads' h.kd).2.2
theorem OwnS.nil (w : World) (base : Nat) : OwnS w base none 0 [] := World.ownsRow_nil w base 9 1
theorem OwnS.one (w : World) (base : Nat) (hb : base ≤ w.heap.size) (x : ByteArray) : OwnS (w.alloc (.cells #[.string x] 9)) base (some ⟨w.heap.size, 0, none⟩) 1 [x] :=
  ⟨by simp [encs], .inr ⟨w.heap.size, 1, #[.string x], rfl, hb, heap_alloc_new w _, Nat.le_refl _, by unfold maxLen; omega, by simp, rfl⟩⟩
theorem OwnS.below {w w' : World} {base c : Nat} {A : Option Addr} {xs : List ByteArray} (h : OwnS w base A c xs) (hb : Below w.heap.size w w') : OwnS w' base A c xs :=
  h.kept (row := none) ⟨hb.os, hb.tape, hb.output, hb.size, fun k hk _ => hb.block k hk⟩ (by
    cases hv : (Value.slice A xs.length c).ownBlock with
    | none => exact .inl rfl
    | some k => exact .inr (by simp))
theorem OwnS.grown {w w' : World} {base c b : Nat} {A : Option Addr} {xs : List ByteArray} {l : Ents} (h : OwnS w base A c xs) (hm : MapAt w b l) (hg : w.grownBy w' (some b)) : OwnS w' base A c xs := by
  refine h.kept hg ?_
  by_cases hn : (Value.slice A xs.length c).ownBlock = none
  · exact .inl hn
  · refine .inr (fun e => ?_)
    obtain ⟨cells, hc⟩ := own_typed h b e
    obtain ⟨es, clock, hb, _⟩ := hm
    rw [hc] at hb
    cases hb
theorem OwnS.step {w w' : World} {base c b r : Nat} {A : Option Addr} {xs : List ByteArray} {l left : Ents} (h : OwnS w base A c xs) (hm : IterAt w b r l left) (hg : w.grownBy w' (some r)) : OwnS w' base A c xs := by
  refine h.kept hg ?_
  by_cases hn : (Value.slice A xs.length c).ownBlock = none
  · exact .inl hn
  · refine .inr (fun e => ?_)
    obtain ⟨cells, hc⟩ := own_typed h r e
    obtain ⟨es, clock, since, seen, c0, _, _, _, _, hri, _⟩ := hm
    rw [hc] at hri
    cases hri
theorem OwnS.lt {w : World} {base c : Nat} {A : Option Addr} {xs : List ByteArray} (h : OwnS w base A c xs) {k : Nat} (hk : (Value.slice A xs.length c).ownBlock = some k) : base ≤ k ∧ k < w.heap.size := World.ownsRow.lt h k hk
theorem MapAt.push {w w' : World} {base c b : Nat} {A : Option Addr} {xs : List ByteArray} {l : Ents} (h : MapAt w b l) (ho : OwnS w base A c xs) (hg : w.grownBy w' (Value.slice A xs.length c).ownBlock) : MapAt w' b l := by
  refine h.same (hg.block b h.lt (fun e => ?_))
  obtain ⟨cells, hc⟩ := own_typed ho b e.symm
  obtain ⟨es, clock, hb, _⟩ := h
  rw [hc] at hb
  cases hb
theorem IterAt.push {w w' : World} {base c b r : Nat} {A : Option Addr} {xs : List ByteArray} {l left : Ents} (h : IterAt w b r l left) (ho : OwnS w base A c xs) (hg : w.grownBy w' (Value.slice A xs.length c).ownBlock) : IterAt w' b r l left := by
  refine h.same (hg.block b h.map.lt (fun e => ?_)) (hg.block r h.lt (fun e => ?_))
  · obtain ⟨cells, hc⟩ := own_typed ho b e.symm
    obtain ⟨es, clock, hb, _⟩ := h.map
    rw [hc] at hb
    cases hb
  · obtain ⟨cells, hc⟩ := own_typed ho r e.symm
    obtain ⟨es, clock, since, seen, c0, _, _, _, _, hri, _⟩ := h
    rw [hc] at hri
    cases hri
theorem IterAt.put {w w' : World} {b r b' : Nat} {l left l' : Ents} (h : IterAt w b r l left) (hm : MapAt w b' l') (hne : b ≠ b') (hg : w.grownBy w' (some b')) : IterAt w' b r l left := by
  refine h.same (hg.block b h.map.lt (fun e => hne (by injection e))) (hg.block r h.lt (fun e => ?_))
  injection e with e
  subst e
  obtain ⟨es, clock, since, seen, c0, _, _, _, _, hri, _⟩ := h
  obtain ⟨es', clock', hb, _⟩ := hm
  rw [hri] at hb
  cases hb
theorem MapAt.step {w w' : World} {b r b' : Nat} {l left l' : Ents} (h : MapAt w b' l') (hi : IterAt w b r l left) (hg : w.grownBy w' (some r)) : MapAt w' b' l' := by
  refine h.same (hg.block b' h.lt (fun e => ?_))
  injection e with e
  subst e
  obtain ⟨es, clock, since, seen, c0, _, _, _, _, hri, _⟩ := hi
  obtain ⟨es', clock', hb, _⟩ := h
  rw [hri] at hb
  cases hb
theorem OwnS.alloc {w : World} {base c : Nat} {A : Option Addr} {xs : List ByteArray} (h : OwnS w base A c xs) (o : Obj) : OwnS (w.alloc o) base A c xs := World.ownsRow.alloc h o
section
variable {ops : Array Oper} {rest : List Oper} {o : Oper} {a : Act} {Q : Exit → Act → World → Prop}
theorem wpList_pushS {w : World} (hg : o.guard = none) (s x : Operand) (hop : o.op = .call { callee := .builtin .append, args := #[s, x], argTypes := #[23, 23] })
    (base c : Nat) (A : Option Addr) (xs : List ByteArray) (hown : OwnS w base A c xs) (hs : a.eval s = .slice A xs.length c) (y : ByteArray) (hx : a.eval x = .slice (some ⟨w.heap.size, 0, none⟩) 1 1) (hlen : xs.length < 1000000000) (hbase : base ≤ w.heap.size)
    (hK : ∀ (A' : Option Addr) (c' : Nat) (w' : World), OwnS w' base A' c' (xs ++ [y]) → w.grownBy w' (Value.slice A xs.length c).ownBlock → wpList Try.prog ops Q rest (a.put o.dst (.slice A' (xs.length + 1) c')) w') :
    wpList Try.prog ops Q (o :: rest) a (w.alloc (.cells #[.string y] 9)) := by
  obtain ⟨i0, hi, hz0, hz1, hz2⟩ := info_parts infoStr
  refine wpList_append_own _ hg s x 23 hop base 9 i0 (.string ⟨#[]⟩) 1 16 Try.underlying23 hi hz0 hz1 hz2 rfl (by decide) _ xs.length (encs Value.string xs) hs (World.ownsRow.alloc hown _) ⟨w.heap.size, 0, none⟩ 1 1 [.string y] hx rfl (cell_one_new _ _ _) (by simp [Value.oneCell']) (by unfold maxLen; omega) (by omega) (by simp; omega) ?_
  intro v' w' h1 h2 h3
  obtain ⟨g', cap', rfl⟩ := Go.ownsRow_succ h1
  refine hK (some ⟨g', 0, none⟩) cap' w' ?_ ((World.grownBy_alloc w _ _).trans h2)
  unfold OwnS
  rw [List.length_append, encs_append]
  exact h1
end
end Go.Proofs.Ytlccejbomgknkaa
namespace Go.Proofs.Ytlccejbomgknkaa
set_option linter.unusedVariables false
set_option linter.unusedSimpArgs false
def WalkN (E : Rel) : Nat → ByteArray → ByteArray → Prop
  | 0, x, y => x = y
  | n + 1, x, y => ∃ z, E x z ∧ WalkN E n z y
def Dist (E : Rel) (x y : ByteArray) (n : Nat) : Prop := WalkN E n x y ∧ ∀ m, m < n → ¬ WalkN E m x y
theorem dist_unique {E : Rel} {x y : ByteArray} {m n : Nat} (h : Dist E x y m) (k : Dist E x y n) : m = n := by
  rcases Nat.lt_trichotomy m n with h1 | h1 | h1
  · exact absurd h.1 (k.2 m h1)
  · exact h1
  · exact absurd k.1 (h.2 n h1)
theorem dist_of_walk {E : Rel} {x y : ByteArray} {n : Nat} (h : WalkN E n x y) : ∃ m, m ≤ n ∧ Dist E x y m := by
  induction n using Nat.strongRecOn with
  | _ n ih =>
    by_cases hm : ∃ m, m < n ∧ WalkN E m x y
    · obtain ⟨m, hlt, hw⟩ := hm
      obtain ⟨k, hk, hd⟩ := ih m hlt hw
      exact ⟨k, by omega, hd⟩
    · exact ⟨n, Nat.le_refl _, h, fun m hlt hw => hm ⟨m, hlt, hw⟩⟩
theorem dist_zero {E : Rel} {x y : ByteArray} : Dist E x y 0 ↔ x = y := ⟨fun h => h.1, fun h => ⟨h, fun m hm => absurd hm (by omega)⟩⟩
theorem dist_next {E : Rel} {x y : ByteArray} {n : Nat} (h : Dist E x y (n + 1)) : ∃ z, E x z ∧ Dist E z y n := by
  obtain ⟨⟨z, h1, h2⟩, h3⟩ := h
  refine ⟨z, h1, h2, fun m hm hw => h3 (m + 1) (by omega) ⟨z, h1, hw⟩⟩
theorem dist_down {E : Rel} {y : ByteArray} {n : Nat} : ∀ {d : Nat} {x : ByteArray}, Dist E x y d → n ≤ d → ∃ x', Dist E x' y n
  | 0, x, h, hn => by
    obtain rfl : n = 0 := by omega
    exact ⟨x, h⟩
  | d + 1, x, h, hn => by
    by_cases e : n = d + 1
    · subst e; exact ⟨x, h⟩
    · obtain ⟨z, _, hz⟩ := dist_next h
      exact dist_down hz (by omega)
open Classical in
theorem dist_lt {N : List ByteArray} {E : Rel} (hE : ∀ x y, E x y → x ∈ N ∧ y ∈ N) {x y : ByteArray} (hy : y ∈ N) {d : Nat} (h : Dist E x y d) : d < N.length := by
  have hex : ∀ j, ∃ z, j ≤ d → Dist E z y j := by
    intro j
    by_cases hj : j ≤ d
    · obtain ⟨z, hz⟩ := dist_down h hj
      exact ⟨z, fun _ => hz⟩
    · exact ⟨x, fun h => absurd h hj⟩
  have hf : ∃ f : Nat → ByteArray, ∀ j, j ≤ d → Dist E (f j) y j := ⟨fun j => Classical.choose (hex j), fun j => Classical.choose_spec (hex j)⟩
  obtain ⟨f, hf⟩ := hf
  have := nodup_len (s := (List.range (d + 1)).map f) (N := N) (by
    rw [List.Nodup, List.pairwise_map]
    refine (List.nodup_range (n := d + 1)).imp_of_mem ?_
    intro a b ha hb hne e
    have h1 := hf a (by have := List.mem_range.1 ha; omega)
    have h2 := hf b (by have := List.mem_range.1 hb; omega)
    rw [e] at h1
    exact hne (dist_unique h1 h2)) (fun z hz => by
    obtain ⟨j, hj, rfl⟩ := List.mem_map.1 hz
    have h1 := hf j (by have := List.mem_range.1 hj; omega)
    cases j with
    | zero => rw [dist_zero.1 h1]; exact hy
    | succ j => obtain ⟨u, hu, _⟩ := dist_next h1; exact (hE _ _ hu).1)
  simp only [List.length_map, List.length_range] at this
  omega
theorem walk_reach {E : Rel} {n : Nat} : ∀ {x y : ByteArray}, WalkN E n x y → Reach E x y := by
  induction n with
  | zero => intro x y h; rw [show x = y from h]; exact .refl _
  | succ n ih => rintro x y ⟨z, h1, h2⟩; exact .head h1 (ih h2)
theorem reach_walk {E : Rel} {x y : ByteArray} (h : Reach E x y) : ∃ n, WalkN E n x y := by
  induction h with
  | refl x => exact ⟨0, rfl⟩
  | head h1 _ ih => obtain ⟨n, hn⟩ := ih; exact ⟨n + 1, _, h1, hn⟩
theorem reach_dist {E : Rel} {x y : ByteArray} : Reach E x y ↔ ∃ n, Dist E x y n := by
  constructor
  · intro h
    obtain ⟨n, hn⟩ := reach_walk h
    obtain ⟨m, _, hm⟩ := dist_of_walk hn
    exact ⟨m, hm⟩
  · rintro ⟨n, h⟩
    exact walk_reach h.1
structure Bfs (E : Rel) (to_ : ByteArray) (n : Nat) (F : List (ByteArray × Nat)) (wave : List ByteArray) : Prop where
  pos : 0 < n
  far : ∀ x d, (x, d) ∈ F ↔ Dist E x to_ d ∧ d < n
  wav : ∀ x, x ∈ wave ↔ Dist E x to_ (n - 1)
structure BfsMid (E : Rel) (to_ : ByteArray) (n : Nat) (F0 : List (ByteArray × Nat)) (wave : List ByteArray) (P : ByteArray → ByteArray → Prop) (F : List (ByteArray × Nat)) (next : List ByteArray) : Prop where
  st : Bfs E to_ n F0 wave
  fr : ∀ x d, (x, d) ∈ F ↔ (x, d) ∈ F0 ∨ (d = n ∧ x ∈ next)
  nx : ∀ x, x ∈ next ↔ Dist E x to_ n ∧ ∃ y, P x y
  pw : ∀ x y, P x y → E x y ∧ y ∈ wave
section
variable {E : Rel} {to_ : ByteArray} {n : Nat} {F F0 : List (ByteArray × Nat)} {wave next : List ByteArray} {P : ByteArray → ByteArray → Prop}
theorem bfs_start : Bfs E to_ 1 [(to_, 0)] [to_] := by
  refine ⟨by omega, fun x d => ?_, fun x => ?_⟩
  · rw [List.mem_singleton]
    constructor
    · intro h
      injection h with h1 h2
      rw [h1, h2]
      exact ⟨dist_zero.2 rfl, by omega⟩
    · rintro ⟨h1, h2⟩
      obtain rfl : d = 0 := by omega
      rw [dist_zero.1 h1]
  · rw [List.mem_singleton]
    exact dist_zero.symm
theorem Bfs.mid (h : Bfs E to_ n F wave) : BfsMid E to_ n F wave (fun _ _ => False) F [] :=
  ⟨h, fun x d => by simp, fun x => by simp, fun _ _ h => h.elim⟩
theorem BfsMid.congr (h : BfsMid E to_ n F0 wave P F next) {P' : ByteArray → ByteArray → Prop} (hp : ∀ x y, P x y ↔ P' x y) : BfsMid E to_ n F0 wave P' F next := by
  have : P = P' := by funext x y; exact propext (hp x y)
  rw [← this]; exact h
theorem BfsMid.skip (h : BfsMid E to_ n F0 wave P F next) {x y : ByteArray} (hy : y ∈ wave) (hE : E x y) {d : Nat} (hx : (x, d) ∈ F) : BfsMid E to_ n F0 wave (fun a b => P a b ∨ (a = x ∧ b = y)) F next := by
  refine ⟨h.st, h.fr, fun z => ?_, ?_⟩
  · rw [h.nx z]
    constructor
    · rintro ⟨h1, b, h2⟩
      exact ⟨h1, b, .inl h2⟩
    · rintro ⟨h1, b, h2 | ⟨rfl, rfl⟩⟩
      · exact ⟨h1, b, h2⟩
      · rcases (h.fr _ _).1 hx with h3 | ⟨rfl, h3⟩
        · have := (h.st.far _ _).1 h3
          have := dist_unique h1 this.1
          omega
        · exact (h.nx _).1 h3
  · rintro a b (h1 | ⟨rfl, rfl⟩)
    · exact h.pw a b h1
    · exact ⟨hE, hy⟩
theorem BfsMid.take (h : BfsMid E to_ n F0 wave P F next) {x y : ByteArray} (hy : y ∈ wave) (hE : E x y) (hx : ∀ d, (x, d) ∉ F) : BfsMid E to_ n F0 wave (fun a b => P a b ∨ (a = x ∧ b = y)) (F ++ [(x, n)]) (next ++ [x]) ∧ Dist E x to_ n := by
  have hpos := h.st.pos
  have hd : Dist E x to_ n := by
    have hy' := (h.st.wav y).1 hy
    refine ⟨?_, fun m hm hw => ?_⟩
    · obtain ⟨k, rfl⟩ : ∃ k, n = k + 1 := ⟨n - 1, by omega⟩
      exact ⟨y, hE, hy'.1⟩
    · obtain ⟨j, hj, hdj⟩ := dist_of_walk hw
      exact hx j ((h.fr x j).2 (.inl ((h.st.far x j).2 ⟨hdj, by omega⟩)))
  refine ⟨⟨h.st, fun z d => ?_, fun z => ?_, ?_⟩, hd⟩
  · rw [List.mem_append, h.fr z d, List.mem_singleton, List.mem_append, List.mem_singleton]
    constructor
    · rintro ((h1 | h1) | h1)
      · exact .inl h1
      · exact .inr ⟨h1.1, .inl h1.2⟩
      · injection h1 with e1 e2
        exact .inr ⟨e2, .inr e1⟩
    · rintro (h1 | ⟨rfl, h1 | rfl⟩)
      · exact .inl (.inl h1)
      · exact .inl (.inr ⟨rfl, h1⟩)
      · exact .inr rfl
  · rw [List.mem_append, h.nx z, List.mem_singleton]
    constructor
    · rintro (⟨h1, b, h2⟩ | rfl)
      · exact ⟨h1, b, .inl h2⟩
      · exact ⟨hd, y, .inr ⟨rfl, rfl⟩⟩
    · rintro ⟨h1, b, h2 | ⟨rfl, rfl⟩⟩
      · exact .inl ⟨h1, b, h2⟩
      · exact .inr rfl
  · rintro a b (h1 | ⟨rfl, rfl⟩)
    · exact h.pw a b h1
    · exact ⟨hE, hy⟩
theorem BfsMid.through (h : BfsMid E to_ n F0 wave P F next) (hall : ∀ x y, y ∈ wave → E x y → P x y) : Bfs E to_ (n + 1) F next := by
  have hpos := h.st.pos
  have hn : ∀ x, x ∈ next ↔ Dist E x to_ n := by
    intro x
    rw [h.nx x]
    refine ⟨fun h1 => h1.1, fun h1 => ⟨h1, ?_⟩⟩
    obtain ⟨k, rfl⟩ : ∃ k, n = k + 1 := ⟨n - 1, by omega⟩
    obtain ⟨z, hz, hdz⟩ := dist_next h1
    exact ⟨z, hall x z ((h.st.wav z).2 hdz) hz⟩
  refine ⟨by omega, fun x d => ?_, fun x => by rw [hn x]; rfl⟩
  rw [h.fr x d, h.st.far x d, hn x]
  constructor
  · rintro (⟨h1, h2⟩ | ⟨rfl, h1⟩)
    · exact ⟨h1, by omega⟩
    · exact ⟨h1, by omega⟩
  · rintro ⟨h1, h2⟩
    by_cases e : d = n
    · exact .inr ⟨e, e ▸ h1⟩
    · exact .inl ⟨h1, by omega⟩
theorem Bfs.done (h : Bfs E to_ (n + 1) F []) : ∀ x d, (x, d) ∈ F ↔ Dist E x to_ d := by
  intro x d
  rw [h.far x d]
  refine ⟨fun h1 => h1.1, fun h1 => ⟨h1, ?_⟩⟩
  rcases Nat.lt_or_ge d (n + 1) with h2 | h2
  · exact h2
  · obtain ⟨x', hx'⟩ := dist_down (n := n) h1 (by omega)
    have := (h.wav x').2 hx'
    cases this
end
end Go.Proofs.Ytlccejbomgknkaa
namespace Go.Proofs.Ytlccejbomgknkaa
set_option linter.unusedVariables false
set_option linter.unusedSimpArgs false
open Go.RowKit Go.Maps Go.Proofs.YtlccejbomgknkaaW.PrintWords Go.Proofs.YtlccejbomgknkaaW.PrintLast
section
variable {P : Program} (w : World) {ops : Array Oper} {rest : List Oper} {o : Oper} {a : Act} {Q : Exit → Act → World → Prop}
theorem wpList_insertAt (hg : o.guard = none) (m x v : Operand) (t : TypeId) (hop : o.op = Op.insert t m x v) (K E : TypeId) (ht : P.underlying t = some (.map K E)) (hK : P.underlying K = some .string)
    (b : Nat) (l : Ents) (h : MapAt w b l) (hm : a.eval m = .map (some b)) (k : ByteArray) (hx : a.eval x = .string k) (hk : k.size ≤ maxLen) (u : Value) (hv : a.eval v = u)
    (hN : ∀ w', MapAt w' b (putE l k u) → w.grownBy w' (some b) → w'.heap.size = w.heap.size → wpList P ops Q rest (a.put o.dst undef) w') : wpList P ops Q (o :: rest) a w := by
  refine wpList_plain hg fun K' hK' => ?_
  obtain ⟨w', hrun, r1, r2, r3⟩ := h.update ht hK k hk u
  unfold Oper.wp
  simp [execOp, hop, hm, hx, hv, hrun, Result.andThen]
  exact hK' _ _ (hN w' r1 r2 r3)
end
def encF (F : List (ByteArray × Nat)) : Ents := F.map (fun p => (p.1, .int .i64 (p.2 : Nat)))
theorem fst_encF (F : List (ByteArray × Nat)) : (encF F).map Prod.fst = F.map Prod.fst := by unfold encF; rw [List.map_map]; rfl
theorem getE_encF_yes {F : List (ByteArray × Nat)} {x : ByteArray} {d : Nat} (hn : (F.map Prod.fst).Nodup) (h : (x, d) ∈ F) : getE (encF F) x = some (.int .i64 (d : Nat)) :=
  (getE_mem (by rw [fst_encF]; exact hn)).2 (List.mem_map.2 ⟨_, h, rfl⟩)
theorem getE_encF_no {F : List (ByteArray × Nat)} {x : ByteArray} (h : ∀ d, (x, d) ∉ F) : getE (encF F) x = none := getE_isNone.2 (by
  rw [fst_encF]
  intro hm
  obtain ⟨p, hp, rfl⟩ := List.mem_map.1 hm
  exact h p.2 hp)
theorem putE_encF_new {F : List (ByteArray × Nat)} {x : ByteArray} {d : Nat} (h : ∀ d, (x, d) ∉ F) : putE (encF F) x (.int .i64 (d : Nat)) = encF (F ++ [(x, d)]) := by
  rw [putE_new]
  · simp [encF]
  · intro p hp e
    obtain ⟨q, hq, rfl⟩ := List.mem_map.1 hp
    exact h q.2 (by rw [← e]; exact hq)
theorem MapAt.keysF_nodup {w : World} {b : Nat} {F : List (ByteArray × Nat)} (h : MapAt w b (encF F)) : (F.map Prod.fst).Nodup := by
  have := h.nodup
  rwa [fst_encF] at this
def Fared (w : World) (N : List ByteArray) (E : Rel) (to_ : ByteArray) (e : Ending) (w' : World) : Prop :=
  ∃ (b : Nat) (F : List (ByteArray × Nat)), e = .returned (.map (some b)) ∧ MapAt w' b (encF F) ∧ (∀ x d, (x, d) ∈ F ↔ Dist E x to_ d) ∧ F.length ≤ N.length ∧ Below w.heap.size w w'
structure FO (w wr : World) (N : List ByteArray) (E : Rel) (to_ : ByteArray) (n : Nat) (F : List (ByteArray × Nat)) (A : Option Addr) (c : Nat) (wave : List ByteArray) : Prop where
  mp : MapAt wr w.heap.size (encF F)
  wv : OwnS wr w.heap.size A c wave
  bf : Bfs E to_ n F wave
  bl : Below w.heap.size w wr
  nF : n ≤ F.length
  FN : F.length ≤ N.length
  wl : wave.length ≤ F.length
structure FM (w W1 wr : World) (E : Rel) (to_ : ByteArray) (n : Nat) (F : List (ByteArray × Nat)) (wave : List ByteArray) (P : ByteArray → ByteArray → Prop) (F1 : List (ByteArray × Nat)) (A : Option Addr) (c : Nat) (nxt : List ByteArray) : Prop where
  mp : MapAt wr w.heap.size (encF F1)
  nx : OwnS wr W1.heap.size A c nxt
  bf : BfsMid E to_ n F wave P F1 nxt
  gr : W1.grownBy wr (some w.heap.size)
  ln : F1.length = F.length + nxt.length
structure FI (w W1 wr : World) (E : Rel) (to_ : ByteArray) (n : Nat) (F : List (ByteArray × Nat)) (wave : List ByteArray) (k : Nat) (cur : ByteArray) (b2 r : Nat) (s : List ByteArray) (left : Ents) (F1 : List (ByteArray × Nat)) (A : Option Addr) (c : Nat) (nxt : List ByteArray) : Prop where
  fm : FM w W1 wr E to_ n F wave (fun x y => (E x y ∧ y ∈ wave.take k) ∨ (y = cur ∧ x ∈ s ∧ (x, Value.bool true) ∉ left)) F1 A c nxt
  it : IterAt wr b2 r (encS s) left
theorem FM.le {w W1 wr : World} {N : List ByteArray} {E : Rel} {to_ : ByteArray} {n : Nat} {F : List (ByteArray × Nat)} {wave : List ByteArray} {P : ByteArray → ByteArray → Prop} {F1 : List (ByteArray × Nat)} {A : Option Addr} {c : Nat} {nxt : List ByteArray}
    (h : FM w W1 wr E to_ n F wave P F1 A c nxt) (hN : ∀ x d, Dist E x to_ d → x ∈ N) : F1.length ≤ N.length := by
  have := nodup_len (N := N) h.mp.keysF_nodup (fun x hx => by
    obtain ⟨p, hp, rfl⟩ := List.mem_map.1 hx
    rcases (h.bf.fr p.1 p.2).1 hp with h1 | ⟨_, h1⟩
    · exact hN _ _ ((h.bf.st.far _ _).1 h1).1
    · exact hN _ _ ((h.bf.nx _).1 h1).1)
  simpa using this
theorem dist_inN {N : List ByteArray} {E : Rel} {to_ : ByteArray} (hE : ∀ x y, E x y → x ∈ N ∧ y ∈ N) (hto : to_ ∈ N) {x : ByteArray} {d : Nat} (h : Dist E x to_ d) : x ∈ N := by
  cases d with
  | zero => rw [dist_zero.1 h]; exact hto
  | succ d => obtain ⟨z, h1, _⟩ := dist_next h; exact (hE _ _ h1).1
set_option maxRecDepth 100000 in
set_option maxHeartbeats 8000000 in
theorem far_any {w : World} {B g : Nat} {N : List ByteArray} {E : Rel} (hG : GraphAt w B g N E) (hN : N.length ≤ 1000000) (to_ : ByteArray) (hto : to_ ∈ N) :
    Calls Try.prog 40 #[.pointer (some ⟨g, 0, none⟩), .string to_] w (Fared w N E to_) := by
  have hmm := @run_makeMap Try.prog
  have hsz := hG.size_le hto
  obtain ⟨bo, bi, lo, li, hGr⟩ := hG
  have X := Lib.hid (And.intro hGr (And.intro hN hto))
  clear hGr hN hto
  go_enter Try.func40, Try.ntmps40
  go_wp2
  go_step3
  go_wp2_with (refine wpList_insertAt _ rfl (.tmp 14) (.tmp 15) (.const (.int .i64 0)) 60 rfl 9 3 Try.underlying60 Try.underlying9 w.heap.size [] (MapAt.made w) rfl to_ rfl hsz (.int .i64 0) rfl ?_)
  intro w1 h1 g1 z1
  have h0 : FO w (w1.alloc (.cells #[.string to_] 9)) N E to_ 1 [(to_, 0)] (some ⟨w.heap.size + 1, 0, none⟩) 1 [to_] := by
    obtain ⟨hGr, hN, hto⟩ := X.out
    have hb1 : Below w.heap.size w w1 := ((Below.refl w.heap.size w).alloc (Nat.le_refl _) _).grown g1 (by simp) (fun j e => by injection e with e; omega)
    have h1' : MapAt w1 w.heap.size (encF [(to_, 0)]) := by
      rw [show putE [] to_ (.int .i64 0) = encF [(to_, 0)] from by simp [putE, encF]] at h1
      exact h1
    refine ⟨h1'.alloc _, ?_, bfs_start, hb1.alloc hb1.size _, by simp, ?_, by simp⟩
    · have := OwnS.one w1 w.heap.size hb1.size to_
      rw [z1] at this
      exact this
    · have := List.length_pos_of_mem hto
      simp only [List.length_singleton]
      omega
  have H0 := Lib.hid h0
  clear h0 h1 g1
  go_wp2_with fail
  go_step3
  go_wp2_with fail
  go_loopg [6, 7] (N.length + 1) (fun q v6 v7 wr => ∃ (A : Option Addr) (c : Nat) (wave : List ByteArray) (n : Nat) (F : List (ByteArray × Nat)), v6 = .slice A wave.length c ∧ v7 = .int .i64 n ∧ q + F.length = N.length + 2 ∧ Hid (FO w wr N E to_ n F A c wave))
  case atStart => exact ⟨_, 1, [to_], 1, [(to_, 0)], rfl, rfl, by simp, H0⟩
  case round =>
    obtain ⟨A, c, wave, n, F, rfl, rfl, hq, HA⟩ := hrel
    clear H0
    obtain ⟨W1, rfl⟩ : ∃ W1 : World, W1 = wr := ⟨_, rfl⟩
    obtain ⟨q0, rfl⟩ : ∃ q0 : Nat, q0 = gk := ⟨_, rfl⟩
    have hnb : n ≤ 1000000 := Nat.le_trans (Nat.le_trans HA.out.nF HA.out.FN) X.out.2.1
    have hwl : wave.length ≤ 1000000 := Nat.le_trans (Nat.le_trans HA.out.wl HA.out.FN) X.out.2.1
    have h0 : FM w W1 W1 E to_ n F wave (fun x y => E x y ∧ y ∈ wave.take 0) F none 0 [] :=
      ⟨HA.out.mp, OwnS.nil _ _, HA.out.bf.mid.congr (fun x y => by simp), World.grownBy.refl _ _, by simp⟩
    have H1 := Lib.hid h0
    clear h0
    go_wp2_with fail
    go_loopg [8, 23] (wave.length + 1) (fun q2 v8 v23 wr => ∃ (k : Nat) (A2 : Option Addr) (c2 : Nat) (F1 : List (ByteArray × Nat)) (nxt : List ByteArray), v23 = .int .i64 k ∧ k ≤ wave.length ∧ q2 + k = wave.length + 1 ∧ v8 = .slice A2 nxt.length c2 ∧ Hid (FM w W1 wr E to_ n F wave (fun x y => E x y ∧ y ∈ wave.take k) F1 A2 c2 nxt))
    case atStart => exact ⟨0, none, 0, F, [], rfl, by omega, by omega, rfl, H1⟩
    case round =>
      obtain ⟨k, A2, c2, F1, nxt, rfl, hk, hq2, rfl, HM⟩ := hrel
      clear H1
      by_cases hlt : k < wave.length
      · obtain ⟨hGr, hN, hto⟩ := X.out
        obtain ⟨hmp, hwv, hbf, hbl, hnF, hFN, hwlF⟩ := HA.out
        have hgr := HM.out.gr
        have hble : Below w.heap.size w wr := hbl.grown hgr hbl.size (fun j e => by injection e with e; omega)
        obtain ⟨ad, hA, hcell⟩ := Kd.at_string (OwnS.grown hwv hmp hgr).reads (k : Int) (by omega) (by omega)
        subst hA
        obtain ⟨cur, hcur⟩ : ∃ cur, cur = rdOf ByteArray.empty wave (k : Int) := ⟨_, rfl⟩
        rw [← hcur] at hcell
        simp only [Int.toNat_natCast] at hcell
        have hcw : cur ∈ wave := take_at hlt hcur
        have hcN : cur ∈ N := dist_inN hGr.inN hto ((hbf.wav cur).1 hcw)
        obtain ⟨b2, hb2, hget, s, hs, hsE⟩ := hGr.inOf hcN
        have c1 : wr.cell? ⟨g, 1, none⟩ = some (.map (some bi)) := block_of_cell (hble.block g (Array.getElem?_eq_some_iff.1 hGr.cells).1) hGr.cell1
        have hmi := hGr.mi.below hble hGr.mi.lt
        have hs' := hs.below hble hs.lt
        have hb2l := hs.lt
        have Y := Lib.hid (And.intro hcur (And.intro hcw (And.intro hget (And.intro hsE (And.intro hmi (And.intro hs' hb2l))))))
        clear hGr hN hto hmp hwv hbf hbl hnF hFN hwlF hgr hble hcur hcw hcN hb2 hget hsE hmi hs' hs hb2l
        go_wp2_with (first | (at_lookup; refine wpList_lookAt _ rfl (.tmp 30) (.tmp 31) 65 rfl 9 70 Try.underlying65 Try.underlying9 (.map none) zero70 bi (encM li) Y.out.2.2.2.2.1 rfl cur rfl (.map (some b2)) (by rw [Y.out.2.2.1]; rfl) ?_) | (at_range; refine wpList_rangeAt _ rfl (.tmp 32) 70 rfl 9 4 Try.underlying70 b2 (encS s) Y.out.2.2.2.2.2.1 rfl ?_))
        intro W3 hI g3 z3
        obtain ⟨r, hr⟩ : ∃ r, r = wr.heap.size := ⟨_, rfl⟩
        rw [← hr] at hI ⊢
        have hrW : W1.heap.size ≤ r := by rw [hr]; exact HM.out.gr.size
        have h0 : FI w W1 W3 E to_ n F wave k cur b2 r s (encS s) F1 A2 c2 nxt := by
          obtain ⟨m1, m2, m3, m4, m5⟩ := HM.out
          have hb3 : Below wr.heap.size wr W3 := ⟨g3.os, g3.tape, g3.output, g3.size, fun k hk => g3.block k hk (by simp)⟩
          refine ⟨⟨m1.below hb3 m1.lt, OwnS.below m2 hb3, m3.congr (fun x y => ⟨.inl, ?_⟩), m4.andThen (g3.but _) (fun j e => .inr e), m5⟩, hI⟩
          rintro (h | ⟨_, h1, h2⟩)
          · exact h
          · exact absurd (List.mem_map.2 ⟨x, h1, rfl⟩) h2
        have H2 := Lib.hid h0
        have HR := Lib.hid hrW
        clear h0 hI g3 z3 hr hrW c1 hcell
        obtain ⟨q1, rfl⟩ : ∃ q1 : Nat, q1 = gk := ⟨_, rfl⟩
        clear HM
        go_wp2_with fail
        go_loopg [8] (s.length + 1) (fun q3 v8 wr => ∃ (A2 : Option Addr) (c2 : Nat) (F1 : List (ByteArray × Nat)) (nxt : List ByteArray) (left : Ents), v8 = .slice A2 nxt.length c2 ∧ left.length < q3 ∧ Hid (FI w W1 wr E to_ n F wave k cur b2 r s left F1 A2 c2 nxt))
        case atStart => exact ⟨_, _, _, _, encS s, rfl, by simp [encS], H2⟩
        case round =>
          obtain ⟨A3, c3, F3, nx3, left, rfl, hq3, HI⟩ := hrel
          clear H2
          go_wp2_with (at_next; refine wpList_nextAt _ rfl (.tmp 33) rfl b2 r (encS s) left HI.out.it rfl ?_ ?_)
          · intro hl
            have HL := Lib.hid hl
            clear hl
            go_wp2_with fail
            go_roundg (wave.length - k)
            case measure => omega
            case rel =>
              obtain ⟨hcur, hcw, hget, hsE, _⟩ := Y.out
              obtain ⟨⟨m1, m2, m3, m4, m5⟩, hI⟩ := HI.out
              refine ⟨k + 1, A3, c3, F3, nx3, by go_num, by omega, by omega, rfl, ⟨m1, m2, m3.congr (fun x y => ?_), m4, m5⟩⟩
              rw [take_mem hlt hcur y, HL.out]
              constructor
              · rintro (h | ⟨rfl, h1, _⟩)
                · exact ⟨h.1, .inl h.2⟩
                · exact ⟨(hsE x).1 h1, .inr rfl⟩
              · rintro ⟨h, h1 | rfl⟩
                · exact .inl ⟨h, h1⟩
                · exact .inr ⟨rfl, (hsE x).2 h, by simp⟩
          · intro x v W4 hx hI hg hz hen
            obtain ⟨hcur, hcw, hget, hsE, hmi, hs', hb2l⟩ := Y.out
            obtain ⟨⟨m1, m2, m3, m4, m5⟩, hI0⟩ := HI.out
            obtain ⟨x', hxs, hke⟩ := List.mem_map.1 (hI0.sub hx)
            injection hke with e1 e2
            subst e1
            subst e2
            have hxE : E x' cur := (hsE x').1 hxs
            have hxz : x'.size ≤ maxLen := X.out.1.size_le (X.out.1.inN _ _ hxE).1
            have n1 : MapAt W4 w.heap.size (encF F3) := m1.step hI0 hg
            have n2 : OwnS W4 W1.heap.size A3 c3 nx3 := OwnS.step m2 hI0 hg
            have n4 : W1.grownBy W4 (some w.heap.size) := m4.andThen hg (fun j e => by injection e with e; exact .inl (by rw [← e]; exact HR.out))
            have hnd := n1.keysF_nodup
            have hnl : nx3.length ≤ 1000000 := by
              have h1 := HI.out.fm.le (fun x d h => dist_inN X.out.1.inN X.out.2.2 h)
              have h2 := X.out.2.1
              omega
            have hleft := length_delE_lt hx
            have hPx : ∀ a b, ((E a b ∧ b ∈ wave.take k) ∨ (b = cur ∧ a ∈ s ∧ (a, Value.bool true) ∉ left)) ∨ (a = x' ∧ b = cur) ↔ ((E a b ∧ b ∈ wave.take k) ∨ (b = cur ∧ a ∈ s ∧ (a, Value.bool true) ∉ delE left x')) := by
              intro a b
              rw [mem_delE]
              constructor
              · rintro ((h | ⟨h1, h2, h3⟩) | ⟨rfl, rfl⟩)
                · exact .inl h
                · exact .inr ⟨h1, h2, fun h => h3 h.1⟩
                · exact .inr ⟨rfl, hxs, fun h => h.2 rfl⟩
              · rintro (h | ⟨h1, h2, h3⟩)
                · exact .inl (.inl h)
                · by_cases e : a = x'
                  · exact .inr ⟨e, h1⟩
                  · exact .inl (.inr ⟨h1, h2, fun h => h3 ⟨h, e⟩⟩)
            have Z := Lib.hid (And.intro hcur (And.intro hcw (And.intro hxE (And.intro hI (And.intro n1 (And.intro n2 (And.intro n4 (And.intro m3 (And.intro m5 (And.intro hPx hleft))))))))))
            by_cases hin : ∃ d, (x', d) ∈ F3
            · obtain ⟨d, hd⟩ := hin
              have HV := Lib.hid (And.intro (getE_encF_yes hnd hd) hd)
              clear hcur hcw hget hsE hmi hs' hb2l m1 m2 m3 m4 m5 hI0 hxs hxE hxz n1 n2 n4 hnd hnl hx hI hg hz hleft hPx hd
              go_wp2_with (at_lookup; refine wpList_lookAtOk _ rfl (.tmp 39) (.tmp 40) 60 rfl 9 3 Try.underlying60 Try.underlying9 (.int .i64 0) zero3 w.heap.size (encF F3) Z.out.2.2.2.2.1 rfl x' rfl (.int .i64 (d : Nat)) true (by rw [HV.out.1]; rfl) (by rw [HV.out.1]; rfl) ?_)
              obtain ⟨hcur, hcw, hxE, hI, n1, n2, n4, m3, m5, hPx, hleft⟩ := Z.out
              go_roundg left.length
              case measure => omega
              case rel =>
                exact ⟨A3, c3, F3, nx3, delE left x', rfl, hleft, ⟨⟨n1, n2, (m3.skip hcw hxE HV.out.2).congr hPx, n4, m5⟩, hI⟩⟩
            · have hno : ∀ d, (x', d) ∉ F3 := fun d h => hin ⟨d, h⟩
              have HV := Lib.hid (And.intro (getE_encF_no hno) hno)
              clear hcur hcw hget hsE hmi hs' hb2l m1 m2 m3 m4 m5 hI0 hxs hxE n1 n2 n4 hnd hx hI hg hz hleft hPx hno hin
              go_wp2_with (first | (at_lookup; refine wpList_lookAtOk _ rfl (.tmp 39) (.tmp 40) 60 rfl 9 3 Try.underlying60 Try.underlying9 (.int .i64 0) zero3 w.heap.size (encF F3) Z.out.2.2.2.2.1 rfl x' rfl (.int .i64 0) false (by rw [HV.out.1]; rfl) (by rw [HV.out.1]; rfl) ?_) | (at_mapUpdate; refine wpList_putAt _ rfl (.tmp 46) (.tmp 47) (.tmp 48) 60 rfl 9 3 Try.underlying60 Try.underlying9 w.heap.size (encF F3) Z.out.2.2.2.2.1 rfl x' rfl hxz (.int .i64 (n : Nat)) rfl ?_))
              intro W5 h5 g5 z5
              obtain ⟨hcur, hcw, hxE, hI, n1, n2, n4, m3, m5, hPx, hleft⟩ := Z.out
              obtain ⟨hcur', hcw', hget, hsE, hmi, hs', hb2l⟩ := Y.out
              have k1 : MapAt W5 w.heap.size (encF (F3 ++ [(x', n)])) := by rw [← putE_encF_new HV.out.2]; exact h5
              have k2 : OwnS W5 W1.heap.size A3 c3 nx3 := OwnS.grown n2 n1 g5
              have k4 : W1.grownBy W5 (some w.heap.size) := n4.andThen g5 (fun j e => .inr e)
              have kI : IterAt W5 b2 r (encS s) (delE left x') := hI.put n1 (by omega) g5
              have ZZ := Lib.hid (And.intro k1 (And.intro k2 (And.intro k4 kI)))
              clear hcur hcw hxE hI n1 n2 n4 m3 m5 hPx hleft hcur' hcw' hget hsE hmi hs' hb2l k1 k2 k4 kI h5 g5 z5
              go_wp2_with (at_builtin; refine wpList_pushS rfl (.tmp 49) (.tmp 51) rfl W1.heap.size c3 A3 nx3 ZZ.out.2.1 rfl x' rfl (by omega) ZZ.out.2.2.1.size ?_)
              intro A6 c6 W6 h6 g6
              have Z6 := Lib.hid (And.intro h6 g6)
              clear h6 g6
              go_wp2_with fail
              obtain ⟨hcur, hcw, hxE, hI, n1, n2, n4, m3, m5, hPx, hleft⟩ := Z.out
              obtain ⟨k1, k2, k4, kI⟩ := ZZ.out
              obtain ⟨h6, g6⟩ := Z6.out
              go_roundg left.length
              case measure => omega
              case rel =>
                refine ⟨A6, c6, F3 ++ [(x', n)], nx3 ++ [x'], delE left x', by rw [List.length_append]; rfl, hleft, ⟨⟨k1.push k2 g6, h6, (m3.take hcw hxE HV.out.2).1.congr hPx, k4.andThen g6 (fun j e => .inl (OwnS.lt k2 e).1), ?_⟩, kI.push k2 g6⟩⟩
                rw [List.length_append, List.length_append, m5]
                simp only [List.length_singleton]
                omega
      · have hkl : k = wave.length := by omega
        subst hkl
        by_cases hz : nxt.length = 0
        · have hzb : ((nxt.length : Int) == 0) = true := by simp [hz]
          have HZ := Lib.hid hz
          clear hz
          go_wp2_with fail
          rw [Exit.noGoto_ret]
          go_ret
          have hn0 : nxt = [] := List.eq_nil_of_length_eq_zero HZ.out
          subst hn0
          have hth := HM.out.bf.through (fun x y hy hE => ⟨hE, by rw [List.take_length]; exact hy⟩)
          refine ⟨w.heap.size, F1, rfl, HM.out.mp, hth.done, ?_, HA.out.bl.grown HM.out.gr HA.out.bl.size (fun j e => by injection e with e; omega)⟩
          obtain ⟨hGr, hN, hto⟩ := X.out
          exact HM.out.le (fun x d h => dist_inN hGr.inN hto h)
        · have hzb : ((nxt.length : Int) == 0) = false := by simp; exact fun e => hz (by rw [e]; rfl)
          have HZ := Lib.hid hz
          clear hz
          go_wp2_with fail
          obtain ⟨hGr, hN, hto⟩ := X.out
          have hle := HM.out.le (fun x d h => dist_inN hGr.inN hto h)
          have hln := HM.out.ln
          have hz := HZ.out
          go_roundg (q0 - nxt.length)
          case measure => omega
          case rel =>
            have hth := HM.out.bf.through (fun x y hy hE => ⟨hE, by rw [List.take_length]; exact hy⟩)
            exact ⟨A2, c2, nxt, n + 1, F1, rfl, by go_num, by omega, ⟨HM.out.mp, own_weaken HM.out.nx HA.out.bl.size, hth, HA.out.bl.grown HM.out.gr HA.out.bl.size (fun j e => by injection e with e; omega), by have := HA.out.nF; omega, hle, by omega⟩⟩
end Go.Proofs.Ytlccejbomgknkaa
namespace Go.Proofs.Ytlccejbomgknkaa
set_option linter.unusedVariables false
set_option linter.unusedSimpArgs false
open Go.RowKit Go.Maps Go.Proofs.YtlccejbomgknkaaW.PrintWords Go.Proofs.YtlccejbomgknkaaW.PrintLast
def GW (E : Rel) (to_ : ByteArray) : Nat → ByteArray → List ByteArray → Prop
  | 0, x, p => p = [x]
  | d + 1, x, p => ∃ y q, p = x :: q ∧ GW E to_ d y q ∧ E x y ∧ Dist E y to_ d ∧ ∀ z, E x z → Dist E z to_ d → z = y ∨ bs y < bs z
def Wayed (w : World) (N : List ByteArray) (E : Rel) (x y : ByteArray) (e : Ending) (w' : World) : Prop :=
  Below w.heap.size w w' ∧ ((∃ (A : Option Addr) (c : Nat) (p : List ByteArray) (d : Nat), e = .returned (.tuple #[.slice A p.length c, .bool true]) ∧ x ∈ N ∧ y ∈ N ∧ Dist E x y d ∧ GW E y d x p ∧ OwnS w' w.heap.size A c p) ∨
    (e = .returned (.tuple #[.slice none 0 0, .bool false]) ∧ ¬ (x ∈ N ∧ y ∈ N ∧ Reach E x y)))
set_option maxRecDepth 100000 in
set_option maxHeartbeats 8000000 in
theorem way_out {w : World} {B g : Nat} {N : List ByteArray} {E : Rel} (hG : GraphAt w B g N E) (x y : ByteArray) (h : ¬ (x ∈ N ∧ y ∈ N)) :
    Calls Try.prog 12 #[.pointer (some ⟨g, 0, none⟩), .string x, .string y] w (Wayed w N E x y) := by
  have HW : Hid (Wayed w N E x y (.returned (.tuple #[.slice none 0 0, .bool false])) w) := ⟨Below.refl _ _, .inr ⟨rfl, fun hh => h ⟨hh.1, hh.2.1⟩⟩⟩
  by_cases hx : x ∈ N
  · have hy : y ∉ N := fun hy => h ⟨hx, hy⟩
    have C1 := Lib.hid (has_yes hG x hx)
    have C2 := Lib.hid (has_no hG y hy)
    clear hx hy h hG
    go_enter Try.func12, Try.ntmps12
    go_wp2_with fail
    go_step3
    go_wp2_with fail
    refine C1.out.mono ?_
    rintro e w1 ⟨rfl, hw⟩
    obtain rfl : w = w1 := hw.symm
    go_wp2_with fail
    refine C2.out.mono ?_
    rintro e w1 ⟨rfl, hw⟩
    obtain rfl : w = w1 := hw.symm
    go_wp2_with fail
    rw [Exit.noGoto_ret]
    go_ret2
    exact HW.out
  · have C1 := Lib.hid (has_no hG x hx)
    clear hx h hG
    go_enter Try.func12, Try.ntmps12
    go_wp2_with fail
    go_step3
    go_wp2_with fail
    refine C1.out.mono ?_
    rintro e w1 ⟨rfl, hw⟩
    obtain rfl : w = w1 := hw.symm
    go_wp2_with fail
    rw [Exit.noGoto_ret]
    go_ret2
    exact HW.out
structure WS (W1 wr : World) (E : Rel) (x y : ByteArray) (D d : Nat) (cur : ByteArray) (A : Option Addr) (c : Nat) (out : List ByteArray) : Prop where
  bl : Below W1.heap.size W1 wr
  ow : OwnS wr W1.heap.size A c out
  ds : Dist E cur y d
  gw : ∃ pre, out = pre ++ [cur] ∧ ∀ q, GW E y d cur q → GW E y D x (pre ++ q)
  ln : out.length + d = D + 1
set_option maxRecDepth 100000 in
set_option maxHeartbeats 8000000 in
theorem way_in {w : World} {B g : Nat} {N : List ByteArray} {E : Rel} (hG : GraphAt w B g N E) (hN : N.length ≤ 1000000) (x y : ByteArray) (hx : x ∈ N) (hy : y ∈ N) :
    Calls Try.prog 12 #[.pointer (some ⟨g, 0, none⟩), .string x, .string y] w (Wayed w N E x y) := by
  have C1 := Lib.hid (has_yes hG x hx)
  have C2 := Lib.hid (has_yes hG y hy)
  have C3 := Lib.hid (far_any hG hN y hy)
  have X := Lib.hid (And.intro hG (And.intro hN (And.intro hx hy)))
  clear hG hN hx hy
  go_enter Try.func12, Try.ntmps12
  go_wp2_with fail
  go_step3
  go_wp2_with fail
  refine C1.out.mono ?_
  rintro e w1 ⟨rfl, hw⟩
  obtain rfl : w = w1 := hw.symm
  go_wp2_with fail
  refine C2.out.mono ?_
  rintro e w1 ⟨rfl, hw⟩
  obtain rfl : w = w1 := hw.symm
  go_wp2_with fail
  refine C3.out.mono ?_
  rintro e W1 ⟨b, F, rfl, hmp, hF, hFN, hbl⟩
  clear C1 C2 C3
  have Y := Lib.hid (And.intro hmp (And.intro hF (And.intro hFN hbl)))
  have hnd := hmp.keysF_nodup
  by_cases hin : ∃ d, Dist E x y d
  · obtain ⟨D, hD⟩ := hin
    have hv := getE_encF_yes hnd ((hF x D).2 hD)
    have HV := Lib.hid (And.intro hv hD)
    clear hv hD hnd hmp hF hFN hbl
    go_wp2_with (at_lookup; refine wpList_lookAtOk _ rfl (.tmp 30) (.tmp 31) 60 rfl 9 3 Try.underlying60 Try.underlying9 (.int .i64 0) zero3 b (encF F) Y.out.1 rfl x rfl (.int .i64 (D : Nat)) true (by rw [HV.out.1]; rfl) (by rw [HV.out.1]; rfl) ?_)
    have hDN : D ≤ 1000000 := by
      obtain ⟨⟨bo, bi, lo, li, hGr⟩, hN, hx, hy⟩ := X.out
      have := dist_lt hGr.inN hy HV.out.2
      omega
    have h0 : WS W1 (W1.alloc (.cells #[.string x] 9)) E x y D D x (some ⟨W1.heap.size, 0, none⟩) 1 [x] :=
      ⟨(Below.refl _ _).alloc (Nat.le_refl _) _, OwnS.one W1 _ (Nat.le_refl _) x, HV.out.2, ⟨[], rfl, fun q h => h⟩, by simp; omega⟩
    have H0 := Lib.hid h0
    clear h0
    go_step3
    go_wp2_with fail
    go_loopg [1, 9, 11] (D + 1) (fun q v1 v9 v11 wr => ∃ (cur : ByteArray) (d : Nat) (A : Option Addr) (c : Nat) (out : List ByteArray), v1 = .string cur ∧ v9 = .int .i64 d ∧ v11 = .slice A out.length c ∧ q = d + 1 ∧ d ≤ D ∧ Hid (WS W1 wr E x y D d cur A c out))
    case atStart => exact ⟨x, D, _, 1, [x], rfl, rfl, rfl, rfl, Nat.le_refl _, H0⟩
    case round =>
      obtain ⟨cur, d, A, c, out, rfl, rfl, rfl, hq, hdD, HA⟩ := hrel
      clear H0
      obtain ⟨q0, rfl⟩ : ∃ q0 : Nat, q0 = gk := ⟨_, rfl⟩
      by_cases hd0 : d = 0
      · subst hd0
        go_wp2_with fail
        rw [Exit.noGoto_ret]
        go_ret2
        obtain ⟨h1, h2, h3, ⟨pre, h4, h5⟩, h6⟩ := HA.out
        obtain ⟨hmp, hF, hFN, hbl⟩ := Y.out
        obtain ⟨hG, hN, hx, hy⟩ := X.out
        have hgw := h5 [cur] rfl
        rw [← h4] at hgw
        exact ⟨hbl.trans (h1.mono hbl.size), .inl ⟨A, c, out, D, rfl, hx, hy, HV.out.2, hgw, own_weaken h2 hbl.size⟩⟩
      · obtain ⟨d, rfl⟩ : ∃ d', d = d' + 1 := ⟨d - 1, by omega⟩
        clear hd0
        have hdp : 0 < (d : Int) + 1 := by omega
        obtain ⟨W2, rfl⟩ : ∃ W2 : World, W2 = wr := ⟨_, rfl⟩
        have HC := Lib.hid (Out_any (X.out.1.below (Y.out.2.2.2.trans (HA.out.bl.mono Y.out.2.2.2.size))) X.out.2.1 cur)
        go_wp2_with fail
        refine HC.out.mono ?_
        rintro e W3 ⟨v, r, rfl, hrise, hmem, hR, hbl3⟩
        obtain ⟨Ar, cr, rfl⟩ := Kd.R_slice hR
        have hrl : r.length ≤ 1000000 := by
          obtain ⟨⟨bo, bi, lo, li, hGr⟩, hN, hx, hy⟩ := X.out
          have := nodup_len (N := N) (rise_nodup hrise) (fun z hz => (hGr.inN _ _ ((hmem z).1 hz)).2)
          omega
        have Z := Lib.hid (And.intro hrise (And.intro hmem (And.intro (Kd.R_reads' hR).2.2 hbl3)))
        have hmp3 : MapAt W3 b (encF F) := (Y.out.1.below HA.out.bl Y.out.1.lt).below hbl3 (by have := HA.out.bl.size; have := Y.out.1.lt; omega)
        have HM := Lib.hid hmp3
        clear hrise hmem hR hbl3 HC hmp3
        have HK := Lib.hid (show ∀ (j : Nat) (z : ByteArray), j < 0 → r[j]? = some z → ¬ Dist E z y d from fun j z h => absurd h (by omega))
        go_wp2_with fail
        go_loopg [11, 47] (r.length + 1) (fun q2 v11 v47 wr => wr = W3 ∧ v11 = .slice A out.length c ∧ ∃ k : Nat, v47 = .int .i64 k ∧ k ≤ r.length ∧ q2 + k = r.length + 1 ∧ Hid (∀ (j : Nat) (z : ByteArray), j < k → r[j]? = some z → ¬ Dist E z y d))
        case atStart => exact ⟨rfl, rfl, 0, rfl, by omega, by omega, HK⟩
        case round =>
          obtain ⟨rfl, rfl, k, rfl, hk, hq2, HB⟩ := hrel
          clear HK
          by_cases hlt : k < r.length
          · obtain ⟨ad, hA, hcell⟩ := Kd.at_string Z.out.2.2.1 (k : Int) (by omega) (by omega)
            subst hA
            obtain ⟨nm, hnm⟩ : ∃ nm, nm = rdOf ByteArray.empty r (k : Int) := ⟨_, rfl⟩
            rw [← hnm] at hcell
            simp only [Int.toNat_natCast] at hcell
            have hrk : r[k]? = some nm := by
              rw [hnm]
              unfold rdOf
              rw [Int.toNat_natCast, List.getD_eq_getElem?_getD, List.getElem?_eq_getElem hlt]
              rfl
            have hin : nm ∈ r := List.mem_of_getElem? hrk
            have HN := Lib.hid (And.intro hrk hin)
            clear hnm hrk hin
            have hnd := HM.out.keysF_nodup
            by_cases hdist : Dist E nm y d
            · have HV2 := Lib.hid (And.intro (getE_encF_yes hnd ((Y.out.2.1 nm d).2 hdist)) hdist)
              clear hnd hdist
              have how : OwnS wr W1.heap.size A c out := OwnS.below HA.out.ow Z.out.2.2.2
              have hsz1 : W1.heap.size ≤ wr.heap.size := Nat.le_trans HA.out.bl.size Z.out.2.2.2.size
              have hol : out.length ≤ 1000000 := by have := HA.out.ln; omega
              have HO := Lib.hid (And.intro how hsz1)
              clear how hsz1
              go_wp2_with (first | (at_lookup; refine wpList_lookAtOk _ rfl (.tmp 52) (.tmp 53) 60 rfl 9 3 Try.underlying60 Try.underlying9 (.int .i64 0) zero3 b (encF F) HM.out rfl nm rfl (.int .i64 (d : Nat)) true (by rw [HV2.out.1]; rfl) (by rw [HV2.out.1]; rfl) ?_) | (at_builtin; refine wpList_pushS rfl (.tmp 65) (.tmp 67) rfl W1.heap.size c A out HO.out.1 rfl nm rfl (by omega) HO.out.2 ?_))
              intro A6 c6 W6 h6 g6
              have Z6 := Lib.hid (And.intro h6 g6)
              clear h6 g6
              go_wp2_with fail
              obtain ⟨h6, g6⟩ := Z6.out
              obtain ⟨o1, o2, o3, ⟨pre, o4, o5⟩, o6⟩ := HA.out
              obtain ⟨hrise, hmem, hC, hbl3⟩ := Z.out
              obtain ⟨hrk, hin⟩ := HN.out
              go_roundg (d + 1)
              case measure => omega
              case rel =>
                refine ⟨nm, d, A6, c6, out ++ [nm], rfl, by go_num, by rw [List.length_append]; rfl, rfl, by omega, ⟨?_, h6, HV2.out.2, ⟨pre ++ [cur], by rw [o4], fun q hq => ?_⟩, ?_⟩⟩
                · exact (o1.trans (hbl3.mono o1.size)).grown g6 HO.out.2 (fun j e => (OwnS.lt HO.out.1 e).1)
                · have := o5 (cur :: q) ⟨nm, q, rfl, hq, (hmem nm).1 hin, HV2.out.2, fun z hz hdz => ?_⟩
                  · simpa using this
                  · obtain ⟨j, hj⟩ := List.getElem?_of_mem ((hmem z).2 hz)
                    rcases Nat.lt_trichotomy j k with h1 | h1 | h1
                    · exact absurd hdz (HB.out j z h1 hj)
                    · subst h1
                      rw [hrk] at hj
                      injection hj with hj
                      exact .inl hj.symm
                    · have hjl := (List.getElem?_eq_some_iff.1 hj).1
                      have h2 := (List.pairwise_iff_getElem.1 hrise) k j hlt hjl h1
                      rw [List.getElem?_eq_getElem hjl] at hj
                      rw [List.getElem?_eq_getElem hlt] at hrk
                      injection hj with hj
                      injection hrk with hrk
                      rw [hj, hrk] at h2
                      exact .inr h2
                · rw [List.length_append, List.length_singleton]
                  omega
            · have HB2 : Hid (∀ (j : Nat) (z : ByteArray), j < k + 1 → r[j]? = some z → ¬ Dist E z y d) := by
                intro j z hj hz
                by_cases e : j = k
                · subst e
                  have := HN.out.1
                  rw [this] at hz
                  injection hz with hz
                  rw [← hz]; exact hdist
                · exact HB.out j z (by omega) hz
              by_cases hany : ∃ e, Dist E nm y e
              · obtain ⟨e, he⟩ := hany
                have hne : ((e : Int) == (d : Int)) = false := by
                  simp only [beq_eq_false_iff_ne, ne_eq]
                  intro h
                  exact hdist (by rw [show d = e from by omega]; exact he)
                have HV2 := Lib.hid (getE_encF_yes hnd ((Y.out.2.1 nm e).2 he))
                clear hnd hdist he
                go_wp2_with (first | (at_lookup; refine wpList_lookAtOk _ rfl (.tmp 52) (.tmp 53) 60 rfl 9 3 Try.underlying60 Try.underlying9 (.int .i64 0) zero3 b (encF F) HM.out rfl nm rfl (.int .i64 (e : Nat)) true (by rw [HV2.out]; rfl) (by rw [HV2.out]; rfl) ?_))
                go_roundg (r.length - k)
                case measure => omega
                case rel => exact ⟨rfl, rfl, k + 1, by go_num, by omega, by omega, HB2⟩
              · have HV2 := Lib.hid (getE_encF_no (F := F) (x := nm) (fun d h => hany ⟨d, (Y.out.2.1 nm d).1 h⟩))
                clear hnd hdist hany
                go_wp2_with (first | (at_lookup; refine wpList_lookAtOk _ rfl (.tmp 52) (.tmp 53) 60 rfl 9 3 Try.underlying60 Try.underlying9 (.int .i64 0) zero3 b (encF F) HM.out rfl nm rfl (.int .i64 0) false (by rw [HV2.out]; rfl) (by rw [HV2.out]; rfl) ?_))
                go_roundg (r.length - k)
                case measure => omega
                case rel => exact ⟨rfl, rfl, k + 1, by go_num, by omega, by omega, HB2⟩
          · exfalso
            obtain ⟨z, hz, hdz⟩ := dist_next HA.out.ds
            obtain ⟨j, hj⟩ := List.getElem?_of_mem ((Z.out.2.1 z).2 hz)
            have := (List.getElem?_eq_some_iff.1 hj).1
            exact HB.out j z (by omega) hj hdz
  · have hno : ∀ d, (x, d) ∉ F := fun d h => hin ⟨d, (hF x d).1 h⟩
    have hv := getE_encF_no hno
    have HV := Lib.hid (And.intro hv hin)
    clear hv hin hnd hno hmp hF hFN hbl
    go_wp2_with (at_lookup; refine wpList_lookAtOk _ rfl (.tmp 30) (.tmp 31) 60 rfl 9 3 Try.underlying60 Try.underlying9 (.int .i64 0) zero3 b (encF F) Y.out.1 rfl x rfl (.int .i64 0) false (by rw [HV.out.1]; rfl) (by rw [HV.out.1]; rfl) ?_)
    rw [Exit.noGoto_ret]
    go_ret2
    exact ⟨Y.out.2.2.2, .inr ⟨rfl, fun hh => HV.out.2 (reach_dist.1 hh.2.2)⟩⟩
end Go.Proofs.Ytlccejbomgknkaa
namespace Go.Proofs.Ytlccejbomgknkaa
set_option linter.unusedVariables false
set_option linter.unusedSimpArgs false
open Go.RowKit Go.Maps Go.Proofs.YtlccejbomgknkaaW.PrintWords Go.Proofs.YtlccejbomgknkaaW.PrintLast
open Classical
noncomputable def cntO (N : List ByteArray) (E : Rel) (out : List ByteArray) (x : ByteArray) : Nat := (N.filter (fun y => decide (E x y ∧ y ∉ out))).length
inductive Kahn (N : List ByteArray) (E : Rel) : List ByteArray → Prop
  | nil : Kahn N E []
  | snoc {out : List ByteArray} {x : ByteArray} (h : Kahn N E out) (hN : x ∈ N) (hx : x ∉ out) (hall : ∀ y, E x y → y ∈ out) (hleast : ∀ z ∈ N, z ∉ out → (∀ y, E z y → y ∈ out) → z = x ∨ bs x < bs z) : Kahn N E (out ++ [x])
theorem nodup_same {s t : List ByteArray} (hs : s.Nodup) (ht : t.Nodup) (h : ∀ x, x ∈ s ↔ x ∈ t) : s.length = t.length :=
  Nat.le_antisymm (nodup_len hs fun x hx => (h x).1 hx) (nodup_len ht fun x hx => (h x).2 hx)
theorem cnt_start {N s : List ByteArray} {E : Rel} {x : ByteArray} (hN : N.Nodup) (hE : ∀ x y, E x y → x ∈ N ∧ y ∈ N) (hs : s.Nodup) (h : ∀ y, y ∈ s ↔ E x y) : s.length = cntO N E [] x := by
  refine nodup_same hs (hN.filter _) fun y => ?_
  rw [h y, List.mem_filter]
  simp only [List.not_mem_nil, not_false_iff, and_true, decide_eq_true_eq]
  exact ⟨fun h => ⟨(hE _ _ h).2, h⟩, fun h => h.2⟩
theorem cnt_yes {N out : List ByteArray} {E : Rel} {x n : ByteArray} (hN : N.Nodup) (hE : ∀ x y, E x y → x ∈ N ∧ y ∈ N) (hn : n ∉ out) (h : E x n) : cntO N E out x = cntO N E (out ++ [n]) x + 1 := by
  show _ = (n :: N.filter (fun y => decide (E x y ∧ y ∉ out ++ [n]))).length
  refine nodup_same (hN.filter _) (List.nodup_cons.2 ⟨fun hm => ?_, hN.filter _⟩) fun y => ?_
  · have := (List.mem_filter.1 hm).2
    simp at this
  · rw [List.mem_cons, List.mem_filter, List.mem_filter]
    simp only [decide_eq_true_eq, List.mem_append, List.mem_singleton, not_or]
    constructor
    · rintro ⟨h1, h2, h3⟩
      by_cases e : y = n
      · exact .inl e
      · exact .inr ⟨h1, h2, h3, e⟩
    · rintro (rfl | ⟨h1, h2, h3, h4⟩)
      · exact ⟨(hE _ _ h).2, h, hn⟩
      · exact ⟨h1, h2, h3⟩
theorem cnt_no {N out : List ByteArray} {E : Rel} {x n : ByteArray} (h : ¬ E x n) : cntO N E out x = cntO N E (out ++ [n]) x := by
  unfold cntO
  congr 2
  funext y
  by_cases e : y = n
  · subst e
    simp [h]
  · simp [e]
theorem cnt_zero {N out : List ByteArray} {E : Rel} {x : ByteArray} (hE : ∀ x y, E x y → x ∈ N ∧ y ∈ N) : cntO N E out x = 0 ↔ ∀ y, E x y → y ∈ out := by
  unfold cntO
  rw [List.length_eq_zero_iff, List.filter_eq_nil_iff]
  simp only [decide_eq_true_eq, not_and, Classical.not_not]
  exact ⟨fun h y hy => h y (hE _ _ hy).2 hy, fun h y _ hy => h y hy⟩
theorem cnt_le {N out : List ByteArray} {E : Rel} {x : ByteArray} : cntO N E out x ≤ N.length := List.length_filter_le _ _
theorem Kahn.nodup {N : List ByteArray} {E : Rel} {out : List ByteArray} (h : Kahn N E out) : out.Nodup ∧ ∀ x ∈ out, x ∈ N := by
  induction h with
  | nil => exact ⟨List.nodup_nil, fun x h => absurd h List.not_mem_nil⟩
  | snoc h hN hx hall hleast ih =>
    refine ⟨List.nodup_append.2 ⟨ih.1, List.nodup_cons.2 ⟨List.not_mem_nil, List.nodup_nil⟩, fun a ha b hb => ?_⟩, fun y hy => ?_⟩
    · rw [List.mem_singleton] at hb
      subst hb
      intro e; subst e; exact hx ha
    · rcases List.mem_append.1 hy with h | h
      · exact ih.2 y h
      · rw [List.mem_singleton] at h; subst h; exact hN
structure LeftAt (L : List (ByteArray × Nat)) (N out : List ByteArray) (f : ByteArray → Nat) : Prop where
  keys : ∀ x, (∃ c, (x, c) ∈ L) ↔ x ∈ N ∧ x ∉ out
  val : ∀ x c, (x, c) ∈ L → c = f x
theorem LeftAt.mem {L : List (ByteArray × Nat)} {N out : List ByteArray} {f : ByteArray → Nat} (h : LeftAt L N out f) {x : ByteArray} (hx : x ∈ N) (ho : x ∉ out) : (x, f x) ∈ L := by
  obtain ⟨c, hc⟩ := (h.keys x).2 ⟨hx, ho⟩
  have := h.val x c hc
  subst this; exact hc
theorem putE_encF_old {F : List (ByteArray × Nat)} {x : ByteArray} {d c : Nat} (h : (x, c) ∈ F) :
    ∃ F', putE (encF F) x (.int .i64 (d : Nat)) = encF F' ∧ F'.length = F.length ∧ ∀ p, p ∈ F' ↔ p = (x, d) ∨ (p ∈ F ∧ p.1 ≠ x) := by
  refine ⟨F.map (fun p => if p.1 = x then (x, d) else p), ?_, by simp, fun p => ?_⟩
  · unfold putE
    rw [if_pos]
    · unfold encF
      rw [List.map_map, List.map_map]
      refine List.map_congr_left fun p hp => ?_
      simp only [Function.comp]
      by_cases e : p.1 = x
      · simp [e]
      · simp [e]
    · rw [List.any_eq_true]
      exact ⟨(x, .int .i64 (c : Nat)), List.mem_map.2 ⟨(x, c), h, rfl⟩, by simp⟩
  · rw [List.mem_map]
    constructor
    · rintro ⟨q, hq, rfl⟩
      by_cases e : q.1 = x
      · simp [e]
      · simp [e, hq]
    · rintro (rfl | ⟨h1, h2⟩)
      · exact ⟨(x, c), h, by simp⟩
      · exact ⟨p, h1, by simp [h2]⟩
theorem delE_encF (F : List (ByteArray × Nat)) (x : ByteArray) : delE (encF F) x = encF (F.filter (fun p => decide (p.1 ≠ x))) := by
  unfold delE encF
  rw [List.filter_map]
  rfl
theorem LeftAt.del {L : List (ByteArray × Nat)} {N out : List ByteArray} {f : ByteArray → Nat} (h : LeftAt L N out f) {n : ByteArray} : LeftAt (L.filter (fun p => decide (p.1 ≠ n))) N (out ++ [n]) f := by
  refine ⟨fun x => ?_, fun x c hm => h.val x c (List.mem_filter.1 hm).1⟩
  constructor
  · rintro ⟨c, hc⟩
    obtain ⟨h1, h2⟩ := List.mem_filter.1 hc
    have h3 := (h.keys x).1 ⟨c, h1⟩
    simp only [ne_eq, decide_not, Bool.not_eq_eq_eq_not, Bool.not_true, decide_eq_false_iff_not] at h2
    exact ⟨h3.1, by simp [h3.2, h2]⟩
  · rintro ⟨h1, h2⟩
    simp only [List.mem_append, List.mem_singleton, not_or] at h2
    obtain ⟨c, hc⟩ := (h.keys x).2 ⟨h1, h2.1⟩
    exact ⟨c, List.mem_filter.2 ⟨hc, by simp [h2.2]⟩⟩
theorem LeftAt.put {L F' : List (ByteArray × Nat)} {N out : List ByteArray} {f f' : ByteArray → Nat} (h : LeftAt L N out f) {n : ByteArray} (hn : n ∈ N) (ho : n ∉ out) {d : Nat} (hF : ∀ p, p ∈ F' ↔ p = (n, d) ∨ (p ∈ L ∧ p.1 ≠ n)) (hd : f' n = d) (hf : ∀ x, x ≠ n → f' x = f x) : LeftAt F' N out f' := by
  refine ⟨fun x => ?_, fun x c hm => ?_⟩
  · constructor
    · rintro ⟨c, hc⟩
      rcases (hF _).1 hc with e | ⟨h1, h2⟩
      · injection e with e1 e2
        subst e1; exact ⟨hn, ho⟩
      · exact (h.keys x).1 ⟨c, h1⟩
    · intro hx
      by_cases e : x = n
      · subst e
        exact ⟨d, (hF _).2 (.inl rfl)⟩
      · obtain ⟨c, hc⟩ := (h.keys x).2 hx
        exact ⟨c, (hF _).2 (.inr ⟨hc, e⟩)⟩
  · rcases (hF _).1 hm with e | ⟨h1, h2⟩
    · injection e with e1 e2
      subst e1; subst e2; exact hd.symm
    · rw [hf x h2]; exact h.val x c h1
theorem LeftAt.congr {L : List (ByteArray × Nat)} {N out : List ByteArray} {f f' : ByteArray → Nat} (h : LeftAt L N out f) (hf : ∀ x, x ∈ N → x ∉ out → f x = f' x) : LeftAt L N out f' :=
  ⟨h.keys, fun x c hm => (h.val x c hm).trans (hf x ((h.keys x).1 ⟨c, hm⟩).1 ((h.keys x).1 ⟨c, hm⟩).2)⟩
theorem Kahn.closed {N : List ByteArray} {E : Rel} {out : List ByteArray} (h : Kahn N E out) : ∀ {x y : ByteArray}, x ∈ out → E x y → y ∈ out := by
  induction h with
  | nil => intro x y hx; exact absurd hx List.not_mem_nil
  | snoc h hN hx hall hleast ih =>
    intro x y hm hE
    rcases List.mem_append.1 hm with h | h
    · exact List.mem_append_left _ (ih h hE)
    · rw [List.mem_singleton] at h; subst h
      exact List.mem_append_left _ (hall y hE)
theorem LeftAt.new {L : List (ByteArray × Nat)} {N : List ByteArray} {left : Ents} {f : ByteArray → Nat} (h : LeftAt L N (left.map Prod.fst) f) {x : ByteArray} {v : Value} (hx : (x, v) ∈ left) (hN : x ∈ N) : LeftAt (L ++ [(x, f x)]) N ((delE left x).map Prod.fst) f := by
  refine ⟨fun y => ?_, fun y c hm => ?_⟩
  · have hk : y ∈ (delE left x).map Prod.fst ↔ y ∈ left.map Prod.fst ∧ y ≠ x := by
      constructor
      · intro hm
        obtain ⟨p, hp, rfl⟩ := List.mem_map.1 hm
        have := mem_delE.1 hp
        exact ⟨List.mem_map.2 ⟨p, this.1, rfl⟩, this.2⟩
      · rintro ⟨hm, hne⟩
        obtain ⟨p, hp, rfl⟩ := List.mem_map.1 hm
        exact List.mem_map.2 ⟨p, mem_delE.2 ⟨hp, hne⟩, rfl⟩
    rw [hk]
    constructor
    · rintro ⟨c, hc⟩
      rcases List.mem_append.1 hc with h1 | h1
      · have := (h.keys y).1 ⟨c, h1⟩
        exact ⟨this.1, fun h2 => this.2 h2.1⟩
      · rw [List.mem_singleton] at h1
        injection h1 with e1 e2
        subst e1; exact ⟨hN, fun h2 => h2.2 rfl⟩
    · rintro ⟨h1, h2⟩
      by_cases e : y = x
      · subst e; exact ⟨_, List.mem_append_right _ (List.mem_singleton.2 rfl)⟩
      · obtain ⟨c, hc⟩ := (h.keys y).2 ⟨h1, fun h3 => h2 ⟨h3, e⟩⟩
        exact ⟨c, List.mem_append_left _ hc⟩
  · rcases List.mem_append.1 hm with h1 | h1
    · exact h.val y c h1
    · rw [List.mem_singleton] at h1
      injection h1 with e1 e2
      subst e1; exact e2
theorem LeftAt.size {L : List (ByteArray × Nat)} {N out : List ByteArray} {f : ByteArray → Nat} (h : LeftAt L N out f) (hn : (L.map Prod.fst).Nodup) : L.length ≤ N.length := by
  have := nodup_len (s := L.map Prod.fst) (N := N) hn (fun x hx => by
    obtain ⟨p, hp, rfl⟩ := List.mem_map.1 hx
    exact ((h.keys p.1).1 ⟨p.2, hp⟩).1)
  simpa using this
noncomputable def fMid (N : List ByteArray) (E : Rel) (out : List ByteArray) (n : ByteArray) (left : Ents) (x : ByteArray) : Nat :=
  if (x, Value.bool true) ∈ left then cntO N E out x else cntO N E (out ++ [n]) x
end Go.Proofs.Ytlccejbomgknkaa
namespace Go.Proofs.Ytlccejbomgknkaa
set_option linter.unusedVariables false
set_option linter.unusedSimpArgs false
open Go.RowKit Go.Maps Go.Proofs.YtlccejbomgknkaaW.PrintWords Go.Proofs.YtlccejbomgknkaaW.PrintLast
def Ordered (w : World) (N : List ByteArray) (E : Rel) (e : Ending) (w' : World) : Prop :=
  Below w.heap.size w w' ∧ ((∃ (A : Option Addr) (c : Nat) (out : List ByteArray), e = .returned (.tuple #[.slice A out.length c, .bool true]) ∧ Kahn N E out ∧ (∀ x ∈ N, x ∈ out) ∧ OwnS w' w.heap.size A c out) ∨
    (e = .returned (.tuple #[.slice none 0 0, .bool false]) ∧ ∃ out, Kahn N E out ∧ (∃ x ∈ N, x ∉ out) ∧ ∀ z ∈ N, z ∉ out → ∃ y, E z y ∧ y ∉ out))
structure OA (w wr : World) (bo r : Nat) (N : List ByteArray) (E : Rel) (lo : List (ByteArray × Nat)) (L : List (ByteArray × Nat)) (left : Ents) : Prop where
  mp : MapAt wr w.heap.size (encF L)
  it : IterAt wr bo r (encM lo) left
  bl : Below w.heap.size w wr
  lf : LeftAt L N (left.map Prod.fst) (cntO N E [])
structure OB (w wr : World) (N : List ByteArray) (E : Rel) (L : List (ByteArray × Nat)) (A : Option Addr) (c : Nat) (out : List ByteArray) : Prop where
  mp : MapAt wr w.heap.size (encF L)
  ow : OwnS wr w.heap.size A c out
  bl : Below w.heap.size w wr
  lf : LeftAt L N out (cntO N E out)
  kn : Kahn N E out
structure OC (w wr : World) (b2 r : Nat) (s : List ByteArray) (left : Ents) (N : List ByteArray) (E : Rel) (L : List (ByteArray × Nat)) (A : Option Addr) (c : Nat) (out : List ByteArray) (nm : ByteArray) : Prop where
  mp : MapAt wr w.heap.size (encF L)
  it : IterAt wr b2 r (encS s) left
  ow : OwnS wr w.heap.size A c (out ++ [nm])
  bl : Below w.heap.size w wr
  lf : LeftAt L N (out ++ [nm]) (fMid N E out nm left)
set_option maxRecDepth 100000 in
set_option maxHeartbeats 8000000 in
theorem Order_any {w : World} {B g : Nat} {N : List ByteArray} {E : Rel} (hG : GraphAt w B g N E) (hN : N.length ≤ 1000000) :
    Calls Try.prog 30 #[.pointer (some ⟨g, 0, none⟩)] w (Ordered w N E) := by
  have hmm := @run_makeMap Try.prog
  obtain ⟨bo, bi, lo, li, hGr⟩ := hG
  have X := Lib.hid (And.intro hGr hN)
  have hm1 : Hid (MapAt (w.alloc (.map #[] 0)) w.heap.size (encF []) ∧ MapAt (w.alloc (.map #[] 0)) bo (encM lo)) := ⟨MapAt.made w, hGr.mo.alloc _⟩
  have hc0 : (w.alloc (.map #[] 0)).cell? ⟨g, 0, none⟩ = some (.map (some bo)) := block_of_cell (Below.heap_alloc w _ g (Array.getElem?_eq_some_iff.1 hGr.cells).1) hGr.cell0
  clear hGr hN
  go_enter Try.func30, Try.ntmps30
  go_wp2_with fail
  go_step3
  go_wp2_with (at_range; refine wpList_rangeAt _ rfl (.tmp 17) 65 rfl 9 70 Try.underlying65 bo (encM lo) hm1.out.2 rfl ?_)
  intro w3 hI g3 z3
  obtain ⟨r, hr⟩ : ∃ r, r = w.heap.size + 1 := ⟨_, rfl⟩
  rw [← hr] at hI ⊢
  have h0 : OA w w3 bo r N E lo [] (encM lo) := by
    obtain ⟨m1, m2⟩ := hm1.out
    obtain ⟨hGr, hN⟩ := X.out
    have hb3 : Below (w.alloc (.map #[] 0)).heap.size (w.alloc (.map #[] 0)) w3 := ⟨g3.os, g3.tape, g3.output, g3.size, fun k hk => g3.block k hk (by simp)⟩
    refine ⟨m1.below hb3 m1.lt, hI, ((Below.refl w.heap.size w).alloc (Nat.le_refl _) _).trans (hb3.mono (by simp)), ⟨fun x => ?_, fun x c h => absurd h List.not_mem_nil⟩⟩
    rw [fst_encM, hGr.no]
    exact ⟨fun ⟨c, h⟩ => absurd h List.not_mem_nil, fun h => absurd h.1 h.2⟩
  have H0 := Lib.hid h0
  have hrw : w.heap.size ≤ r := by omega
  clear h0 hI g3 z3 hm1 hc0 hr
  go_wp2_with fail
  go_loopg [] (N.length + 1) (fun q wr => ∃ (L : List (ByteArray × Nat)) (left : Ents), left.length < q ∧ Hid (OA w wr bo r N E lo L left))
  case atStart => exact ⟨[], encM lo, by have := X.out.1.no; have := congrArg List.length this; simp [encM] at this ⊢; omega, H0⟩
  case round =>
    obtain ⟨L, left, hq, HI⟩ := hrel
    clear H0
    go_wp2_with (at_next; refine wpList_nextAt _ rfl (.tmp 18) rfl bo r (encM lo) left HI.out.it rfl ?_ ?_)
    · intro hl
      have h1 : OB w wr N E L none 0 [] := by
        obtain ⟨m1, m2, m3, m4⟩ := HI.out
        subst hl
        exact ⟨m1, OwnS.nil _ _, m3, m4, .nil⟩
      have H1 := Lib.hid h1
      clear h1 hl HI
      go_wp2_with fail
      go_step3
      go_wp2_with fail
      go_loopg [7] (N.length + 1) (fun q v7 wr => ∃ (L : List (ByteArray × Nat)) (A : Option Addr) (c : Nat) (out : List ByteArray), v7 = .slice A out.length c ∧ q + out.length = N.length + 1 ∧ Hid (OB w wr N E L A c out))
      case atStart => exact ⟨L, none, 0, [], rfl, by simp, H1⟩
      case round =>
        obtain ⟨L, A, c, out, rfl, hq, HB⟩ := hrel
        clear H1
        have hol : out.length ≤ N.length := nodup_len HB.out.kn.nodup.1 HB.out.kn.nodup.2
        have hLN : L.length ≤ N.length := HB.out.lf.size HB.out.mp.keysF_nodup
        have hN : N.length ≤ 1000000 := X.out.2
        have hlen := HB.out.mp.len (P := Try.prog) (t := 60) Try.underlying60 3
        rw [show (encF L).length = L.length from by simp [encF]] at hlen
        by_cases hz : L.length = 0
        · have HZ := Lib.hid hz
          go_wp2_with fail
          rw [Exit.noGoto_ret]
          go_ret2
          obtain ⟨m1, m2, m3, m4, m5⟩ := HB.out
          have hL0 : L = [] := List.eq_nil_of_length_eq_zero HZ.out
          subst hL0
          refine ⟨m3, .inl ⟨A, c, out, rfl, m5, fun x hx => ?_, m2⟩⟩
          exact Classical.byContradiction fun hn => by
            obtain ⟨c, hc⟩ := (m4.keys x).2 ⟨hx, hn⟩
            exact absurd hc List.not_mem_nil
        · have HZ := Lib.hid hz
          have HS := Lib.hid (sorted47 HB.out.mp (by simp [encF]; omega))
          obtain ⟨W1, rfl⟩ : ∃ W1 : World, W1 = wr := ⟨_, rfl⟩
          obtain ⟨q0, rfl⟩ : ∃ q0 : Nat, q0 = gk := ⟨_, rfl⟩
          go_wp2_with fail
          refine HS.out.mono ?_
          rintro e W2 ⟨v, rr, rfl, hrise, hmem, hR, hb2⟩
          obtain ⟨Ar, cr, rfl⟩ := Kd.R_slice hR
          have hrl : rr.length ≤ 1000000 := by
            have := nodup_len (s := rr) (N := N) (rise_nodup hrise) (fun z hz => by
              have h1 := (hmem z).1 hz
              rw [fst_encF] at h1
              obtain ⟨p, hp, rfl⟩ := List.mem_map.1 h1
              exact ((HB.out.lf.keys p.1).1 ⟨p.2, hp⟩).1)
            omega
          have hm' : ∀ z, z ∈ rr ↔ z ∈ N ∧ z ∉ out := by
            intro z
            rw [hmem z, fst_encF, ← HB.out.lf.keys z]
            constructor
            · intro h1
              obtain ⟨p, hp, rfl⟩ := List.mem_map.1 h1
              exact ⟨p.2, hp⟩
            · rintro ⟨c, hc⟩
              exact List.mem_map.2 ⟨(z, c), hc, rfl⟩
          have h0 : OB w W2 N E L A c out := by
            obtain ⟨m1, m2, m3, m4, m5⟩ := HB.out
            exact ⟨m1.below hb2 m1.lt, OwnS.below m2 hb2, m3.trans (hb2.mono m3.size), m4, m5⟩
          have HB2 := Lib.hid h0
          have Z := Lib.hid (And.intro hrise (And.intro hm' (Kd.R_reads' hR).2.2))
          clear HS HB h0 hrise hmem hR hb2 hm'
          have HK := Lib.hid (show ∀ (j : Nat) (z : ByteArray), j < 0 → rr[j]? = some z → cntO N E out z ≠ 0 from fun j z h => absurd h (by omega))
          go_wp2_with fail
          go_loopg [7, 34] (rr.length + 1) (fun q2 v7 v34 wr => wr = W2 ∧ v7 = .slice A out.length c ∧ ∃ k : Nat, v34 = .int .i64 k ∧ k ≤ rr.length ∧ q2 + k = rr.length + 1 ∧ Hid (∀ (j : Nat) (z : ByteArray), j < k → rr[j]? = some z → cntO N E out z ≠ 0))
          case atStart => exact ⟨rfl, rfl, 0, rfl, by omega, by omega, HK⟩
          case round =>
            obtain ⟨rfl, rfl, k, rfl, hk, hq2, HH⟩ := hrel
            clear HK
            by_cases hlt : k < rr.length
            · obtain ⟨ad, hA, hcell⟩ := Kd.at_string Z.out.2.2 (k : Int) (by omega) (by omega)
              subst hA
              obtain ⟨nm, hnm⟩ : ∃ nm, nm = rdOf ByteArray.empty rr (k : Int) := ⟨_, rfl⟩
              rw [← hnm] at hcell
              simp only [Int.toNat_natCast] at hcell
              have hrk : rr[k]? = some nm := by
                rw [hnm]
                unfold rdOf
                rw [Int.toNat_natCast, List.getD_eq_getElem?_getD, List.getElem?_eq_getElem hlt]
                rfl
              have hin := (Z.out.2.1 nm).1 (List.mem_of_getElem? hrk)
              have hget := getE_encF_yes HB2.out.mp.keysF_nodup (HB2.out.lf.mem hin.1 hin.2)
              have HN := Lib.hid (And.intro hrk (And.intro hin hget))
              clear hnm hrk hin hget
              obtain ⟨cn, hcn⟩ : ∃ cn, cn = cntO N E out nm := ⟨_, rfl⟩
              have hcl : cn ≤ N.length := by rw [hcn]; exact cnt_le
              rw [← hcn] at HN
              have HCN := Lib.hid hcn
              clear hcn
              by_cases hc0 : cn = 0
              · have HC0 := Lib.hid hc0
                go_wp2_with (first | (at_lookup; refine wpList_lookAt _ rfl (.tmp 38) (.tmp 39) 60 rfl 9 3 Try.underlying60 Try.underlying9 (.int .i64 0) zero3 w.heap.size (encF L) HB2.out.mp rfl nm rfl (.int .i64 (cn : Nat)) (by rw [HN.out.2.2]; rfl) ?_) | (at_builtin; refine wpList_pushS rfl (.tmp 42) (.tmp 44) rfl w.heap.size c A out HB2.out.ow rfl nm rfl (by omega) HB2.out.bl.size ?_))
                intro A6 c6 W6 h6 g6
                have hall : ∀ y, E nm y → y ∈ out := (cnt_zero X.out.1.inN).1 (by rw [← HCN.out]; exact HC0.out)
                obtain ⟨m1, m2, m3, m4, m5⟩ := HB2.out
                obtain ⟨hrk, hin, hget⟩ := HN.out
                have n1 := m1.push m2 g6
                have n3 : Below w.heap.size w W6 := m3.grown g6 m3.size (fun j e => (OwnS.lt m2 e).1)
                obtain ⟨W7, hdel, n1', g7, z7⟩ := n1.delete (P := Try.prog) (t := 60) Try.underlying60 Try.underlying9 nm 0
                have n6 : OwnS W7 w.heap.size A6 c6 (out ++ [nm]) := OwnS.grown h6 n1 g7
                have n7 : Below w.heap.size w W7 := n3.grown g7 n3.size (fun j e => by injection e with e; omega)
                rw [delE_encF] at n1'
                have hkn : Kahn N E (out ++ [nm]) := m5.snoc hin.1 hin.2 hall (fun z hz ho hza => by
                  obtain ⟨j, hj⟩ := List.getElem?_of_mem ((Z.out.2.1 z).2 ⟨hz, ho⟩)
                  have hz0 : cntO N E out z = 0 := (cnt_zero X.out.1.inN).2 hza
                  rcases Nat.lt_trichotomy j k with h1 | h1 | h1
                  · exact absurd hz0 (HH.out j z h1 hj)
                  · subst h1
                    rw [hrk] at hj
                    injection hj with hj
                    exact .inl hj.symm
                  · have hjl := (List.getElem?_eq_some_iff.1 hj).1
                    have h2 := (List.pairwise_iff_getElem.1 Z.out.1) k j hlt hjl h1
                    rw [List.getElem?_eq_getElem hjl] at hj
                    rw [List.getElem?_eq_getElem hlt] at hrk
                    injection hj with hj
                    injection hrk with hrk
                    rw [hj, hrk] at h2
                    exact .inr h2)
                obtain ⟨hGr, hN⟩ := X.out
                have hcc : W7.cell? ⟨g, 1, none⟩ = some (.map (some bi)) := block_of_cell (n7.block g (Array.getElem?_eq_some_iff.1 hGr.cells).1) hGr.cell1
                obtain ⟨b2, hb2, hgi, s, hs, hsE⟩ := hGr.inOf hin.1
                have hs' := hs.below n7 hs.lt
                have hmi := hGr.mi.below n7 hGr.mi.lt
                have hb2l := hs.lt
                have hnn : ¬ E nm nm := fun h => hin.2 (hall nm h)
                have Y := Lib.hid (And.intro hgi (And.intro hmi (And.intro hs' (And.intro hsE (And.intro n1' (And.intro n6 (And.intro n7 (And.intro hkn (And.intro hnn hb2l)))))))))
                clear h6 g6 hall m1 m2 m3 m4 m5 hrk hin hget n1 n3 n1' g7 z7 n6 n7 hkn hb2 hgi hs hsE hs' hmi hb2l hnn hGr
                go_wp2_with (first | (at_lookup; refine wpList_lookAt _ rfl (.tmp 51) (.tmp 52) 65 rfl 9 70 Try.underlying65 Try.underlying9 (.map none) zero70 bi (encM li) Y.out.2.1 rfl nm rfl (.map (some b2)) (by rw [Y.out.1]; rfl) ?_) | (at_range; refine wpList_rangeAt _ rfl (.tmp 53) 70 rfl 9 4 Try.underlying70 b2 (encS s) Y.out.2.2.1 rfl ?_))
                intro W8 hI g8 z8
                obtain ⟨r2, hr2⟩ : ∃ r2, r2 = W7.heap.size := ⟨_, rfl⟩
                rw [← hr2] at hI ⊢
                have h0 : OC w W8 b2 r2 s (encS s) N E (L.filter (fun p => decide (p.1 ≠ nm))) A6 c6 out nm := by
                  obtain ⟨hgi, hmi, hs', hsE, n1, n6, n7, hkn, hnn, hb2l⟩ := Y.out
                  have hb8 : Below W7.heap.size W7 W8 := ⟨g8.os, g8.tape, g8.output, g8.size, fun k hk => g8.block k hk (by simp)⟩
                  refine ⟨n1.below hb8 n1.lt, hI, OwnS.below n6 hb8, n7.trans (hb8.mono n7.size), HB2.out.lf.del.congr fun x _ _ => ?_⟩
                  unfold fMid
                  by_cases hx : x ∈ s
                  · have hxs : (x, Value.bool true) ∈ encS s := List.mem_map.2 ⟨x, hx, rfl⟩
                    rw [if_pos hxs]
                  · have hxs : (x, Value.bool true) ∉ encS s := fun h => hx (by obtain ⟨y, hy, e⟩ := List.mem_map.1 h; injection e with e; rw [← e]; exact hy)
                    rw [if_neg hxs]
                    exact cnt_no (fun h => hx ((hsE x).2 h))
                have H2 := Lib.hid h0
                have HR : w.heap.size ≤ r2 := by rw [hr2]; exact Y.out.2.2.2.2.2.2.1.size
                clear h0 hI g8 z8 hr2 hcc
                obtain ⟨q1, rfl⟩ : ∃ q1 : Nat, q1 = gk := ⟨_, rfl⟩
                go_wp2_with fail
                go_loopg [] (s.length + 1) (fun q3 wr => ∃ (L2 : List (ByteArray × Nat)) (left : Ents), left.length < q3 ∧ Hid (OC w wr b2 r2 s left N E L2 A6 c6 out nm))
                case atStart => exact ⟨_, encS s, by simp [encS], H2⟩
                case round =>
                  obtain ⟨L2, left, hq3, HI⟩ := hrel
                  clear H2
                  go_wp2_with (at_next; refine wpList_nextAt _ rfl (.tmp 54) rfl b2 r2 (encS s) left HI.out.it rfl ?_ ?_)
                  · intro hl
                    have HL := Lib.hid hl
                    clear hl
                    go_wp2_with fail
                    have hlen2 := nodup_len Y.out.2.2.2.2.2.2.2.1.nodup.1 Y.out.2.2.2.2.2.2.2.1.nodup.2
                    rw [List.length_append, List.length_singleton] at hlen2
                    go_roundg (N.length - out.length)
                    case measure => omega
                    case rel =>
                      obtain ⟨m1, m2, m3, m4, m5⟩ := HI.out
                      refine ⟨L2, A6, c6, out ++ [nm], by rw [List.length_append]; rfl, by rw [List.length_append, List.length_singleton]; omega, ⟨m1, m3, m4, m5.congr fun x _ _ => ?_, Y.out.2.2.2.2.2.2.2.1⟩⟩
                      unfold fMid
                      rw [if_neg (by rw [HL.out]; exact List.not_mem_nil)]
                  · intro x v W9 hx hI hg hz hen
                    obtain ⟨hgi, hmi, hs', hsE, n1, n6, n7, hkn, hnn, hb2l⟩ := Y.out
                    obtain ⟨m1, m2, m3, m4, m5⟩ := HI.out
                    obtain ⟨x', hxs, hke⟩ := List.mem_map.1 (m2.sub hx)
                    injection hke with e1 e2
                    subst e1
                    subst e2
                    have hxE : E x' nm := (hsE x').1 hxs
                    have hxN := (X.out.1.inN _ _ hxE).1
                    have hxz : x'.size ≤ maxLen := X.out.1.size_le hxN
                    have hxo : x' ∉ out ++ [nm] := by
                      intro h
                      rcases List.mem_append.1 h with h | h
                      · have h1 := HB2.out.kn.closed h hxE
                        exact (HN.out.2.1).2 h1
                      · rw [List.mem_singleton] at h
                        subst h; exact hnn hxE
                    have k1 : MapAt W9 w.heap.size (encF L2) := m1.step m2 hg
                    have k3 : OwnS W9 w.heap.size A6 c6 (out ++ [nm]) := OwnS.step m3 m2 hg
                    have k4 : Below w.heap.size w W9 := m4.grown hg m4.size (fun j e => by injection e with e; rw [← e]; exact HR)
                    obtain ⟨cx, hcx⟩ : ∃ cx, cx = cntO N E (out ++ [nm]) x' := ⟨_, rfl⟩
                    have hcl2 : cx ≤ N.length := by rw [hcx]; exact cnt_le
                    have hfx : fMid N E out nm left x' = cx + 1 := by
                      unfold fMid
                      rw [if_pos hx, hcx]
                      exact cnt_yes X.out.1.nodup X.out.1.inN (HN.out.2.1).2 hxE
                    have hmem := m5.mem hxN hxo
                    rw [hfx] at hmem
                    have hget := getE_encF_yes k1.keysF_nodup hmem
                    rw [show ((cx + 1 : Nat) : Int) = (cx : Int) + 1 from by omega] at hget
                    have hleft := length_delE_lt hx
                    have U := Lib.hid (And.intro k1 (And.intro k3 (And.intro k4 (And.intro hcx (And.intro hmem (And.intro hget (And.intro hI (And.intro hx (And.intro hxE (And.intro hxN hxo))))))))))
                    clear hgi hmi hs' hsE n1 n6 n7 hkn hnn hb2l m1 m2 m3 m4 m5 hxs hxE hxN hxo k1 k3 k4 hcx hfx hmem hget hx hI hg hz
                    go_wp2_with (first | (at_lookup; refine wpList_lookAt _ rfl (.tmp 59) (.tmp 60) 60 rfl 9 3 Try.underlying60 Try.underlying9 (.int .i64 0) zero3 w.heap.size (encF L2) U.out.1 rfl x' rfl (.int .i64 ((cx : Int) + 1)) (by rw [U.out.2.2.2.2.2.1]; rfl) ?_) | (at_mapUpdate; refine wpList_putAt _ rfl (.tmp 59) (.tmp 60) (.tmp 62) 60 rfl 9 3 Try.underlying60 Try.underlying9 w.heap.size (encF L2) U.out.1 rfl x' rfl hxz (.int .i64 (cx : Nat)) (by go_num) ?_))
                    intro W10 h10 g10 z10
                    have U2 := Lib.hid (And.intro h10 g10)
                    clear h10 g10 z10
                    go_wp2_with fail
                    obtain ⟨k1, k3, k4, hcx, hmem, hget, hI, hx, hxE, hxN, hxo⟩ := U.out
                    obtain ⟨h10, g10⟩ := U2.out
                    obtain ⟨F', hF, _, hF'⟩ := putE_encF_old (d := cx) hmem
                    rw [hF] at h10
                    go_roundg left.length
                    case measure => omega
                    case rel =>
                      refine ⟨F', delE left x', hleft, ⟨h10, hI.put k1 (by have := Y.out.2.2.2.2.2.2.2.2.2; omega) g10, OwnS.grown k3 k1 g10, k4.grown g10 k4.size (fun j e => by injection e with e; omega), HI.out.lf.put hxN hxo hF' ?_ (fun y hy => ?_)⟩⟩
                      · unfold fMid
                        have e : (x', Value.bool true) ∉ delE left x' := fun h => (mem_delE.1 h).2 rfl
                        rw [if_neg e, hcx]
                      · unfold fMid
                        by_cases hyl : (y, Value.bool true) ∈ left
                        · rw [if_pos hyl, if_pos (mem_delE.2 ⟨hyl, hy⟩)]
                        · have e : (y, Value.bool true) ∉ delE left x' := fun h => hyl (mem_delE.1 h).1
                          rw [if_neg hyl, if_neg e]
              · have HC0 := Lib.hid hc0
                go_wp2_with (at_lookup; refine wpList_lookAt _ rfl (.tmp 38) (.tmp 39) 60 rfl 9 3 Try.underlying60 Try.underlying9 (.int .i64 0) zero3 w.heap.size (encF L) HB2.out.mp rfl nm rfl (.int .i64 (cn : Nat)) (by rw [HN.out.2.2]; rfl) ?_)
                go_roundg (rr.length - k)
                case measure => omega
                case rel =>
                  refine ⟨rfl, rfl, k + 1, by go_num, by omega, by omega, fun j z hj hz => ?_⟩
                  by_cases e : j = k
                  · subst e
                    rw [HN.out.1] at hz
                    injection hz with hz
                    rw [← hz, ← HCN.out]; exact HC0.out
                  · exact HH.out j z (by omega) hz
            · go_wp2_with fail
              rw [Exit.noGoto_ret]
              go_ret2
              obtain ⟨m1, m2, m3, m4, m5⟩ := HB2.out
              refine ⟨m3, .inr ⟨rfl, out, m5, ?_, fun z hz ho => ?_⟩⟩
              · obtain ⟨p, hp⟩ := List.exists_mem_of_length_pos (by have := HZ.out; omega : 0 < L.length)
                exact ⟨p.1, ((m4.keys p.1).1 ⟨p.2, hp⟩)⟩
              · obtain ⟨j, hj⟩ := List.getElem?_of_mem ((Z.out.2.1 z).2 ⟨hz, ho⟩)
                have hjl := (List.getElem?_eq_some_iff.1 hj).1
                have h1 := HH.out j z (by omega) hj
                exact Classical.byContradiction fun hn => h1 ((cnt_zero X.out.1.inN).2 fun y hy => Classical.byContradiction fun ho => hn ⟨y, hy, ho⟩)
    · intro x v W4 hx hI hg hz hen
      obtain ⟨m1, m2, m3, m4⟩ := HI.out
      obtain ⟨hGr, hN⟩ := X.out
      obtain ⟨p, hp, hke⟩ := List.mem_map.1 (m2.sub hx)
      injection hke with e1 e2
      subst e1
      subst e2
      have hpN : p.1 ∈ N := by rw [← hGr.no]; exact List.mem_map.2 ⟨p, hp, rfl⟩
      have hsz := hGr.size_le hpN
      obtain ⟨s, hs, hsE⟩ := hGr.so p hp
      have hslt := hs.lt
      have n1 : MapAt W4 w.heap.size (encF L) := m1.step m2 hg
      have hbl4 : Below w.heap.size w W4 := m3.grown hg m3.size (fun j e => by injection e with e; rw [← e]; exact hrw)
      have n2 : MapAt W4 p.2 (encS s) := hs.below hbl4 hslt
      have hsl := cnt_start hGr.nodup hGr.inN hs.keys_nodup hsE
      have hbo := hGr.mo.lt
      have hleft := length_delE_lt hx
      have hno : ∀ d, (p.1, d) ∉ L := fun d h => ((m4.keys p.1).1 ⟨d, h⟩).2 (List.mem_map.2 ⟨_, hx, rfl⟩)
      have Z := Lib.hid (And.intro n1 (And.intro n2 (And.intro hbl4 (And.intro hsl (And.intro hI (And.intro (m4.new hx hpN) (And.intro hno hbo)))))))
      have hlen := n2.len (P := Try.prog) (t := 70) Try.underlying70 3
      rw [show (encS s).length = cntO N E [] p.1 from by rw [← hsl]; simp [encS]] at hlen
      clear m1 m2 m3 m4 hGr hp hs hsE n1 n2 hbl4 hsl hx hI hg hz hpN hno hbo
      go_wp2_with (first | (at_mapUpdate; refine wpList_putAt _ rfl (.tmp 24) (.tmp 25) (.tmp 27) 60 rfl 9 3 Try.underlying60 Try.underlying9 w.heap.size (encF L) Z.out.1 rfl p.1 rfl hsz (.int .i64 (cntO N E [] p.1 : Nat)) rfl ?_))
      intro W5 h5 g5 z5
      have Z5 := Lib.hid (And.intro h5 g5)
      clear h5 g5 z5
      go_wp2_with fail
      obtain ⟨h5, g5⟩ := Z5.out
      obtain ⟨n1, n2, hbl4, hsl, hI, hl, hno, hbo⟩ := Z.out
      go_roundg left.length
      case measure => omega
      case rel =>
        exact ⟨L ++ [(p.1, cntO N E [] p.1)], delE left p.1, hleft, ⟨by rw [← putE_encF_new hno]; exact h5, hI.put n1 (by omega) g5, hbl4.grown g5 hbl4.size (fun j e => by injection e with e; omega), hl⟩⟩
end Go.Proofs.Ytlccejbomgknkaa
namespace Go.Proofs
open Go.Shelf
def Try.lays190_ren : Go.Shelf.Ren := ⟨fun | 190 => 34 | 125 => 51 | 258 => 50 | 128 => 67 | 129 => 68 | 302 => 58 | 303 => 59 | 304 => 60 | 305 => 61 | 306 => 62 | 307 => 63 | 308 => 64 | 309 => 65 | 310 => 66 | 333 => 74 | 329 => 75 | 330 => 76 | 334 => 77 | 335 => 78 | 336 => 73 | 344 => 80 | n => n, fun | 31 => 23 | 9 => 9 | 3 => 3 | 46 => 77 | 0 => 0 | 51 => 95 | 53 => 97 | 4 => 4 | 183 => 88 | 182 => 87 | 131 => 62 | 5 => 5 | 218 => 98 | 222 => 102 | 228 => 105 | 229 => 106 | n => n, fun | n => n⟩
theorem Try.lays190 : Go.Proofs.Lays.n190 Try.prog Try.lays190_ren := {
  mixed := by kernel_rfl
  f125 := Try.func51.trans (congrArg some (by kernel_rfl))
  f128 := Try.func67.trans (congrArg some (by kernel_rfl))
  f129 := Try.func68.trans (congrArg some (by kernel_rfl))
  f190 := Try.func34.trans (congrArg some (by kernel_rfl))
  f258 := Try.func50.trans (congrArg some (by kernel_rfl))
  f302 := Try.func58.trans (congrArg some (by kernel_rfl))
  f303 := Try.func59.trans (congrArg some (by kernel_rfl))
  f304 := Try.func60.trans (congrArg some (by kernel_rfl))
  f305 := Try.func61.trans (congrArg some (by kernel_rfl))
  f306 := Try.func62.trans (congrArg some (by kernel_rfl))
  f307 := Try.func63.trans (congrArg some (by kernel_rfl))
  f308 := Try.func64.trans (congrArg some (by kernel_rfl))
  f309 := Try.func65.trans (congrArg some (by kernel_rfl))
  f310 := Try.func66.trans (congrArg some (by kernel_rfl))
  f329 := Try.func75.trans (congrArg some (by kernel_rfl))
  f330 := Try.func76.trans (congrArg some (by kernel_rfl))
  f333 := Try.func74.trans (congrArg some (by kernel_rfl))
  f334 := Try.func77.trans (congrArg some (by kernel_rfl))
  f335 := Try.func78.trans (congrArg some (by kernel_rfl))
  f336 := Try.func73.trans (congrArg some (by kernel_rfl))
  f344 := Try.func80.trans (congrArg some (by kernel_rfl))
  t0 := Try.underlying0
  a0 := Try.isAgg0
  z0 := Try.sizeOf0
  v0 := Try.zeroValue0
  t3 := Try.underlying3
  a3 := Try.isAgg3
  z3 := Try.sizeOf3
  v3 := Try.zeroValue3
  t4 := Try.underlying4
  a4 := Try.isAgg4
  z4 := Try.sizeOf4
  v4 := Try.zeroValue4
  t5 := Try.underlying5
  a5 := Try.isAgg5
  z5 := Try.sizeOf5
  v5 := Try.zeroValue5
  t9 := Try.underlying9
  a9 := Try.isAgg9
  z9 := Try.sizeOf9
  v9 := Try.zeroValue9
  t31 := Try.underlying23
  a31 := Try.isAgg23
  z31 := Try.sizeOf23
  v31 := Try.zeroValue23
  t46 := Try.underlying77
  a46 := Try.isAgg77
  z46 := Try.sizeOf77
  v46 := Try.zeroValue77
  t51 := Try.underlying95
  a51 := Try.isAgg95
  z51 := Try.sizeOf95
  v51 := Try.zeroValue95
  t53 := Try.underlying97
  a53 := Try.isAgg97
  z53 := Try.sizeOf97
  v53 := Try.zeroValue97
  t131 := Try.underlying62
  a131 := Try.isAgg62
  z131 := Try.sizeOf62
  v131 := Try.zeroValue62
  t182 := Try.underlying87
  a182 := Try.isAgg87
  z182 := Try.sizeOf87
  v182 := Try.zeroValue87
  t183 := Try.underlying88
  a183 := Try.isAgg88
  z183 := Try.sizeOf88
  v183 := Try.zeroValue88
  t218 := Try.underlying98
  a218 := Try.isAgg98
  z218 := Try.sizeOf98
  v218 := Try.zeroValue98
  t222 := Try.underlying102
  a222 := Try.isAgg102
  z222 := Try.sizeOf102
  v222 := Try.zeroValue102
  t228 := Try.underlying105
  a228 := Try.isAgg105
  z228 := Try.sizeOf105
  v228 := Try.zeroValue105
  t229 := Try.underlying106
  a229 := Try.isAgg106
  z229 := Try.sizeOf106
  v229 := Try.zeroValue106 }
open Go.Sort Go.RowKit in
theorem Try.slices_Sort_string (blk off cap : Nat) (ss : List (List UInt8)) (w : World) (hH : Holds encStr w blk off ss.toArray) (hblk : blk < w.heap.size) (hsz : ss.length < 4611686018427387904) :
    Calls Try.prog 34 #[.slice (some ⟨blk, off, none⟩) ss.length cap] w fun e w' =>
      e = .returned (.tuple #[]) ∧ ∃ n os, w' = grow (putRow encStr (Sort.ahead w n) blk off (ss.mergeSort fun x y => decide (x ≤ y)).toArray) os := Any.slices_Sort_string Try.lays190 blk off cap ss w hH hblk hsz
def Try.lays193_ren : Go.Shelf.Ren := ⟨fun | 193 => 14 | n => n, fun | 31 => 23 | 9 => 9 | 4 => 4 | 3 => 3 | 0 => 0 | n => n, fun | n => n⟩
theorem Try.lays193 : Go.Proofs.Lays.n193 Try.prog Try.lays193_ren := {
  mixed := by kernel_rfl
  f193 := Try.func14.trans (congrArg some (by kernel_rfl))
  t0 := Try.underlying0
  a0 := Try.isAgg0
  z0 := Try.sizeOf0
  v0 := Try.zeroValue0
  t3 := Try.underlying3
  a3 := Try.isAgg3
  z3 := Try.sizeOf3
  v3 := Try.zeroValue3
  t4 := Try.underlying4
  a4 := Try.isAgg4
  z4 := Try.sizeOf4
  v4 := Try.zeroValue4
  t9 := Try.underlying9
  a9 := Try.isAgg9
  z9 := Try.sizeOf9
  v9 := Try.zeroValue9
  t31 := Try.underlying23
  a31 := Try.isAgg23
  z31 := Try.sizeOf23
  v31 := Try.zeroValue23 }
open Go.RowKit Go.Lib in
theorem Try.slices_Equal_string (b1 o1 n c b2 o2 m d : Nat) (xs ys : List ByteArray) (w : World) (hx : n ≤ xs.length) (hy : m ≤ ys.length) (hbig : n ≤ 9223372036854775807) (hbig2 : m ≤ 9223372036854775807) (hc1 : ∀ j, j < xs.length → w.cell? ⟨b1, o1 + j, none⟩ = some (.string (xs.getD j ByteArray.empty))) (hc2 : ∀ j, j < ys.length → w.cell? ⟨b2, o2 + j, none⟩ = some (.string (ys.getD j ByteArray.empty))) :
    Calls Try.prog 14 #[.slice (some ⟨b1, o1, none⟩) n c, .slice (some ⟨b2, o2, none⟩) m d] w fun e w' => e = .returned (.bool (decide (xs.take n = ys.take m))) ∧ ∃ q, w' = w.drewN q := Any.slices_Equal_string Try.lays193 b1 o1 n c b2 o2 m d xs ys w hx hy hbig hbig2 hc1 hc2
open Go.RowKit Go.Lib in
theorem Try.slices_Equal_string_empty (a1 a2 : Option Addr) (c m d : Nat) (w : World) (hbig2 : m ≤ 9223372036854775807) :
    Calls Try.prog 14 #[.slice a1 0 c, .slice a2 m d] w fun e w' => e = .returned (.bool (decide (m = 0))) ∧ w' = w := Any.slices_Equal_string_empty Try.lays193 a1 a2 c m d w hbig2
def Try.laysNm216_ren : Go.Shelf.Ren := ⟨fun | 16 => 16 | n => n, fun | 24 => 23 | 9 => 9 | 4 => 4 | n => n, fun | n => n⟩
theorem Try.laysNm216 : Go.Proofs.Lays2.n16 Try.prog Try.laysNm216_ren := {
  mixed := by kernel_rfl
  f16 := Try.func16.trans (congrArg some (by kernel_rfl))
  t4 := Try.underlying4
  a4 := Try.isAgg4
  z4 := Try.sizeOf4
  v4 := Try.zeroValue4
  t9 := Try.underlying9
  a9 := Try.isAgg9
  z9 := Try.sizeOf9
  v9 := Try.zeroValue9
  t24 := Try.underlying23
  a24 := Try.isAgg23
  z24 := Try.sizeOf23
  v24 := Try.zeroValue23
  i9 := by kernel_rfl }
open Go.RowKit Go.Lib in
theorem Try.slices_Clone_string (b off n c : Nat) (zs : List ByteArray) (w : World) (hz : n ≤ zs.length) (hbig : n * 16 ≤ 140737488355328) (hc : ∀ j, j < zs.length → w.cell? ⟨b, off + j, none⟩ = some (.string (zs.getD j ByteArray.empty))) :
    Calls Try.prog 16 #[.slice (some ⟨b, off, none⟩) n c] w fun e w' => ∃ v', e = .returned v' ∧ w'.ownsRow w.heap.size 9 1 v' n ((zs.take n).map (Value.string)) ∧ v' ≠ .slice none 0 0 ∧ Below w.heap.size w w' := Any.slices_Clone_string Try.laysNm216 b off n c zs w hz hbig hc
open Go.RowKit Go.Lib in
theorem Try.slices_Clone_string_nil (n c : Nat) (w : World) :
    Calls Try.prog 16 #[.slice none n c] w fun e w' => e = .returned (.slice none 0 0) ∧ w' = w := Any.slices_Clone_string_nil Try.laysNm216 n c w
open Go.RowKit Go.Lib in
theorem Try.slices_Clone_string_zero (a : Addr) (c : Nat) (w : World) :
    Calls Try.prog 16 #[.slice (some a) 0 c] w fun e w' => ∃ v', e = .returned v' ∧ w'.ownsRow w.heap.size 9 1 v' 0 [] ∧ v' ≠ .slice none 0 0 ∧ Below w.heap.size w w' := Any.slices_Clone_string_zero Try.laysNm216 a c w
open Go.RowKit Go.Sort in
theorem Try.slices_Sort_string_none (p : Option Addr) (cap : Nat) (w : World) :
    Calls Try.prog 34 #[.slice p 0 cap] w fun e w' => e = .returned (.tuple #[]) ∧ w' = w := Any.slices_Sort_string_none Try.lays190 p cap w
open Go.RowKit Go.Lib in
theorem Try.slices_Equal_string_lens (a1 a2 : Option Addr) (n c m d : Nat) (w : World) (hnm : n ≠ m) :
    Calls Try.prog 14 #[.slice a1 n c, .slice a2 m d] w fun e w' => e = .returned (.bool false) ∧ w' = w := Any.slices_Equal_string_lens Try.lays193 a1 a2 n c m d w hnm
end Go.Proofs
namespace Go.Proofs.Ytlccejbomgknkaa.PGraphWays
open Go.RowKit Go.Proofs.YtlccejbomgknkaaW.PrintWords Go.Proofs.YtlccejbomgknkaaW.PrintLast Go.Proofs.YtlccejbomgknkaaW.PrintMore
set_option linter.unusedVariables false
set_option linter.unusedSimpArgs false
def errW : Option Int → Value
  | none => .nilIface
  | some c => .iface 0 (.int .i64 c)
theorem errW_none : errW none = .nilIface := rfl
theorem errW_some (c : Int) : errW (some c) = .iface 0 (.int .i64 c) := rfl
theorem info45 : (Try.prog.info? 45).map (fun i => (i.zero, i.size, i.bytes)) = some (some (.agg #[(.string ⟨#[]⟩), (.string ⟨#[]⟩)]), 2, 32) := by kernel_rfl
structure S45 where
  f0 : ByteArray
  f1 : ByteArray
def z45 : S45 := ⟨(⟨#[]⟩ : ByteArray), (⟨#[]⟩ : ByteArray)⟩
def k45 : Kd S45 := Kd.iso (Kd.pair Kd.string Kd.string) (fun x : S45 => (x.f0, x.f1))
theorem k45_open {w : World} {x : S45} {cs : List Value} (h : k45.K w x cs) : cs = [.string x.f0, .string x.f1] := by
  obtain ⟨_, _, rfl, rfl, rfl⟩ := h
  exact rfl
theorem k45_mkM (w : World) (base : Nat) (ok : Nat → Prop) (x : S45)  : k45.M w base ok x [.string x.f0, .string x.f1] := ⟨[.string x.f0], [.string x.f1], rfl, rfl, rfl⟩
def rd_T45 (xs : List S45) (i : Int) : S45 := xs.getD i.toNat z45
theorem at_T45 {w : World} {A : Option Addr} {n : Nat} {xs : List S45} (h : Kd.C k45 w A n xs) (i : Int) (h0 : 0 ≤ i) (h1 : i < n) : ∃ ad , A = some ad ∧ w.cell? (ad.add (i.toNat * 2)) = some (.string (rd_T45 xs i).f0) ∧ w.cell? ⟨(ad.add (i.toNat * 2)).block, (ad.add (i.toNat * 2)).off + 1, none⟩ = some (.string (rd_T45 xs i).f1) := by
  obtain ⟨ad, c, e, _, hK, hc0⟩ := Kd.C_get h z45 i h0 h1
  have hc : ∀ j u, c[j]? = some u → w.cell? (ad.add (i.toNat * 2 + j)) = some u := hc0
  obtain rfl := k45_open hK
  exact ⟨ad, e, hc 0 _ rfl, by rw [← add_field _ _ 1 (by omega)]; exact hc 1 _ rfl⟩
end Go.Proofs.Ytlccejbomgknkaa.PGraphWays
namespace Go.Proofs.Ytlccejbomgknkaa.PGraphWays
open Go.RowKit Go.Proofs.YtlccejbomgknkaaW.PrintWords Go.Proofs.YtlccejbomgknkaaW.PrintLast Go.Proofs.YtlccejbomgknkaaW.PrintMore
set_option linter.unusedVariables false
set_option linter.unusedSimpArgs false
def slices_Equal_string_string.l0 : Nat → List ByteArray → List ByteArray → Int → Int → Option (Bool)
  | 0, _, _, _, _ => none
  | k + 1, x0, x1, x12, x13 => if x13 < x12 then (if 0 ≤ x13 then (if x13 < (x0.length : Int) then (if x13 < (x1.length : Int) then (if (rdOf ByteArray.empty x0 x13).toList = (rdOf ByteArray.empty x1 x13).toList then (slices_Equal_string_string.l0 k x0 x1 x12 (wrap64 (x13 + 1))) else (some false)) else (none)) else (none)) else (none)) else (some true)
def slices_Equal_string_string.f (k : Nat) (l0 : List ByteArray) (l1 : List ByteArray) : Option (Bool) := if (l0.length : Int) = (l1.length : Int) then (slices_Equal_string_string.l0 k l0 l1 (l0.length : Int) 0) else (some false)
theorem slices_Equal_string_string.mono_l : ∀ k, (∀ y0 y1 y2 y3, LeO (slices_Equal_string_string.l0 k y0 y1 y2 y3) (slices_Equal_string_string.l0 (k + 1) y0 y1 y2 y3))
  | 0 => fun _ _ _ _ r h => by simp [slices_Equal_string_string.l0] at h
  | k + 1 => by
    have ih0 := slices_Equal_string_string.mono_l k
    · intro y0 y1 y2 y3
      unfold slices_Equal_string_string.l0
      repeat' first
      | (with_reducible exact ih0 _ _ _ _)
      | (with_reducible exact LeO.refl _)
      | (with_reducible exact LeO.none _)
      | (with_reducible refine LeO.ite ?_ ?_)
      | (with_reducible refine LeO.bind ?_ (fun _ => ?_))
      | exact ih0 _ _ _ _
      | exact LeO.none _
      | refine LeO.ite ?_ ?_
      | refine LeO.bind ?_ (fun _ => ?_)
theorem slices_Equal_string_string.mono : ∀ a0 a1 k, LeO (slices_Equal_string_string.f k a0 a1) (slices_Equal_string_string.f (k + 1) a0 a1) := by
  intro a0 a1 k
  have ih0 := slices_Equal_string_string.mono_l k
  unfold slices_Equal_string_string.f
  repeat' first
      | (with_reducible exact ih0 _ _ _ _)
      | (with_reducible exact LeO.refl _)
      | (with_reducible exact LeO.none _)
      | (with_reducible refine LeO.ite ?_ ?_)
      | (with_reducible refine LeO.bind ?_ (fun _ => ?_))
      | exact ih0 _ _ _ _
      | exact LeO.none _
      | refine LeO.ite ?_ ?_
      | refine LeO.bind ?_ (fun _ => ?_)
set_option maxHeartbeats 8000000 in
set_option maxRecDepth 100000 in
theorem slices_Equal_string_string.calls (k : Nat) (A0 : Option Addr) (c0 : Nat) (l0 : List ByteArray) (A1 : Option Addr) (c1 : Nat) (l1 : List ByteArray) (r : Bool) (w : World) (hr0 : Kd.C Kd.string w A0 l0.length l0) (hc0 : l0.length ≤ c0) (hr1 : Kd.C Kd.string w A1 l1.length l1) (hc1 : l1.length ≤ c1) (h : slices_Equal_string_string.f k l0 l1 = some r) :
    Calls Try.prog 14 #[.slice A0 l0.length c0, .slice A1 l1.length c1] w fun e w' => e = .returned (.bool r) ∧ Drawn0 w w' := by
  have HR0 := Aside0.mk hr0
  have HC0 := Aside0.mk hc0
  clear hr0 hc0
  have HR1 := Aside0.mk hr1
  have HC1 := Aside0.mk hc1
  clear hr1 hc1
  have H : (if (l0.length : Int) = (l1.length : Int) then (slices_Equal_string_string.l0 k l0 l1 (l0.length : Int) 0) else (some false)) = some r := h
  clear h
  by_cases c3 : (l0.length : Int) = (l1.length : Int)
  · rw [if_pos c3] at H
    have c3b0 : ((l0.length : Int) == (l1.length : Int)) = true := beq_iff_eq.mpr c3
    have c3b1 : ((l0.length : Int) != (l1.length : Int)) = false := bne_eq_false_iff_eq.mpr c3
    have c3b2 : (l0.length == l1.length) = true := by first | simpa using c3 | (simp at c3 ⊢; omega)
    clear c3
    have H' := Aside0.mk H
    clear H
    go_enter Try.func14, Try.ntmps14
    go_wp2
    repeat (go_quiet (fail); try go_wp2)
    go_loopg [13] k (fun kq v13 w' => ∃ (x13_1 : Int), v13 = .int .i64 x13_1 ∧ Aside0 (slices_Equal_string_string.l0 kq l0 l1 (l0.length : Int) x13_1 = some r) ∧ Aside0 (kq ≤ k) ∧ Drawn0 w w')
    case atStart => exact ⟨(0), (by first | rfl | (simp; done) | (simp [*]; done)), H', ⟨Nat.le_refl _⟩, by repeat (first | exact Drawn0.refl _ | apply Drawn0.step)⟩
    case round =>
      clear H'
      try clear c1
      try clear p2
      try clear c3
      try clear c3b0
      try clear c3b1
      try clear c3b2
      obtain ⟨x13_1, rfl, HA, HK1, ⟨m1, rfl⟩⟩ := hrel
      cases gk with
      | zero => exact absurd HA.out (by simp [slices_Equal_string_string.l0])
      | succ k1 =>
        have H := HA.out
        clear HA
        simp only [slices_Equal_string_string.l0] at H
        by_cases c4 : x13_1 < (l0.length : Int)
        · rw [if_pos c4] at H
          have c4b0 : decide (x13_1 < (l0.length : Int)) = true := decide_eq_true c4
          clear c4
          by_cases c5 : 0 ≤ x13_1
          · rw [if_pos c5] at H
            have c5b0 : decide (0 ≤ x13_1) = true := decide_eq_true c5
            clear c5
            by_cases c6 : x13_1 < (l0.length : Int)
            · rw [if_pos c6] at H
              have c6b0 : decide (x13_1 < (l0.length : Int)) = true := decide_eq_true c6
              clear c6
              by_cases c7 : x13_1 < (l1.length : Int)
              · rw [if_pos c7] at H
                have c7b0 : decide (x13_1 < (l1.length : Int)) = true := decide_eq_true c7
                clear c7
                by_cases c8 : (rdOf ByteArray.empty l0 x13_1).toList = (rdOf ByteArray.empty l1 x13_1).toList
                · rw [if_pos c8] at H
                  have c8b0 : ((rdOf ByteArray.empty l0 x13_1).toList == (rdOf ByteArray.empty l1 x13_1).toList) = true := beq_iff_eq.mpr c8
                  have c8b1 : ((rdOf ByteArray.empty l0 x13_1).toList != (rdOf ByteArray.empty l1 x13_1).toList) = false := bne_eq_false_iff_eq.mpr c8
                  clear c8
                  have H' := Aside0.mk H
                  clear H
                  have p221 : 0 ≤ (x13_1 : Int) := of_decide_eq_true (by first | (with_reducible assumption) | assumption)
                  have q221 : x13_1 < (l0.length : Int) := of_decide_eq_true (by first | (with_reducible assumption) | assumption)
                  obtain ⟨ad221, e221, hx221_0⟩ := Kd.at_string HR0.out x13_1 p221 q221
                  cases e221
                  replace p221 := eq_true p221
                  replace q221 := eq_true q221
                  have p222 : 0 ≤ (x13_1 : Int) := of_decide_eq_true (by first | (with_reducible assumption) | assumption)
                  have q222 : x13_1 < (l1.length : Int) := of_decide_eq_true (by first | (with_reducible assumption) | assumption)
                  obtain ⟨ad222, e222, hx222_0⟩ := Kd.at_string HR1.out x13_1 p222 q222
                  cases e222
                  replace p222 := eq_true p222
                  replace q222 := eq_true q222
                  go_wp2
                  repeat (go_quiet (fail); try go_wp2)
                  go_roundg k1
                  case measure => have := HK1.out; omega
                  case rel => exact ⟨(wrap64 (x13_1 + 1)), (by first | rfl | (simp; done) | (simp [*]; done)), H', ⟨by have := HK1.out; omega⟩, by repeat (first | exact Drawn0.refl _ | apply Drawn0.step)⟩
                · rw [if_neg c8] at H
                  have c8b0 : ((rdOf ByteArray.empty l0 x13_1).toList == (rdOf ByteArray.empty l1 x13_1).toList) = false := beq_eq_false_iff_ne.mpr c8
                  have c8b1 : ((rdOf ByteArray.empty l0 x13_1).toList != (rdOf ByteArray.empty l1 x13_1).toList) = true := bne_iff_ne.mpr c8
                  obtain rfl := Option.some.inj H
                  have p221 : 0 ≤ (x13_1 : Int) := of_decide_eq_true (by first | (with_reducible assumption) | assumption)
                  have q221 : x13_1 < (l0.length : Int) := of_decide_eq_true (by first | (with_reducible assumption) | assumption)
                  obtain ⟨ad221, e221, hx221_0⟩ := Kd.at_string HR0.out x13_1 p221 q221
                  cases e221
                  replace p221 := eq_true p221
                  replace q221 := eq_true q221
                  have p222 : 0 ≤ (x13_1 : Int) := of_decide_eq_true (by first | (with_reducible assumption) | assumption)
                  have q222 : x13_1 < (l1.length : Int) := of_decide_eq_true (by first | (with_reducible assumption) | assumption)
                  obtain ⟨ad222, e222, hx222_0⟩ := Kd.at_string HR1.out x13_1 p222 q222
                  cases e222
                  replace p222 := eq_true p222
                  replace q222 := eq_true q222
                  go_wp2
                  repeat (go_quiet (fail); try go_wp2)
                  go_ret
                  exact ⟨by first | rfl | (simp; done) | (simp [*]; done), by repeat (first | exact Drawn0.refl _ | apply Drawn0.step)⟩
              · rw [if_neg c7] at H
                exact absurd H (by simp)
            · rw [if_neg c6] at H
              exact absurd H (by simp)
          · rw [if_neg c5] at H
            exact absurd H (by simp)
        · rw [if_neg c4] at H
          have c4b0 : decide (x13_1 < (l0.length : Int)) = false := decide_eq_false c4
          clear c4
          obtain rfl := Option.some.inj H
          go_wp2
          repeat (go_quiet (fail); try go_wp2)
          go_ret
          exact ⟨by first | rfl | (simp; done) | (simp [*]; done), by repeat (first | exact Drawn0.refl _ | apply Drawn0.step)⟩
  · rw [if_neg c3] at H
    have c3b0 : ((l0.length : Int) == (l1.length : Int)) = false := beq_eq_false_iff_ne.mpr c3
    have c3b1 : ((l0.length : Int) != (l1.length : Int)) = true := bne_iff_ne.mpr c3
    have c3b2 : (l0.length == l1.length) = false := by first | simpa using c3 | (simp at c3 ⊢; omega)
    obtain rfl := Option.some.inj H
    go_enter Try.func14, Try.ntmps14
    go_wp2
    repeat (go_quiet (fail); try go_wp2)
    go_ret
    exact ⟨by first | rfl | (simp; done) | (simp [*]; done), by repeat (first | exact Drawn0.refl _ | apply Drawn0.step)⟩
def brickyardlaw19_edges.l0 : Nat → List ByteArray → List (S45) → Int → Option ((List (S45)))
  | 0, _, _, _ => none
  | k + 1, x0, x3, x4 => if (wrap64 (x4 + 1)) < (x0.length : Int) then (if 0 ≤ x4 then (if x4 < (x0.length : Int) then (if 0 ≤ (wrap64 (x4 + 1)) then (if x3.length < 4398046511104 then (brickyardlaw19_edges.l0 k x0 (x3 ++ [(⟨rdOf ByteArray.empty x0 x4, rdOf ByteArray.empty x0 (wrap64 (x4 + 1))⟩ : S45)]) (wrap64 (x4 + 2))) else (none)) else (none)) else (none)) else (none)) else (some x3)
def brickyardlaw19_edges.f (k : Nat) (l0 : List ByteArray) : Option ((List (S45))) := brickyardlaw19_edges.l0 k l0 ([] : List (S45)) 0
theorem brickyardlaw19_edges.mono_l : ∀ k, (∀ y0 y1 y2, LeO (brickyardlaw19_edges.l0 k y0 y1 y2) (brickyardlaw19_edges.l0 (k + 1) y0 y1 y2))
  | 0 => fun _ _ _ r h => by simp [brickyardlaw19_edges.l0] at h
  | k + 1 => by
    have ih0 := brickyardlaw19_edges.mono_l k
    · intro y0 y1 y2
      unfold brickyardlaw19_edges.l0
      repeat' first
      | (with_reducible exact ih0 _ _ _)
      | (with_reducible exact LeO.refl _)
      | (with_reducible exact LeO.none _)
      | (with_reducible refine LeO.ite ?_ ?_)
      | (with_reducible refine LeO.bind ?_ (fun _ => ?_))
      | exact ih0 _ _ _
      | exact LeO.none _
      | refine LeO.ite ?_ ?_
      | refine LeO.bind ?_ (fun _ => ?_)
theorem brickyardlaw19_edges.mono : ∀ a0 k, LeO (brickyardlaw19_edges.f k a0) (brickyardlaw19_edges.f (k + 1) a0) := by
  intro a0 k
  have ih0 := brickyardlaw19_edges.mono_l k
  unfold brickyardlaw19_edges.f
  repeat' first
      | (with_reducible exact ih0 _ _ _)
      | (with_reducible exact LeO.refl _)
      | (with_reducible exact LeO.none _)
      | (with_reducible refine LeO.ite ?_ ?_)
      | (with_reducible refine LeO.bind ?_ (fun _ => ?_))
      | exact ih0 _ _ _
      | exact LeO.none _
      | refine LeO.ite ?_ ?_
      | refine LeO.bind ?_ (fun _ => ?_)
def brickyardlaw19_edges.T5 : Bool × List (List Nat × List Nat) := (true, [([], []), ([], []), ([], []), ([1, 2], [1, 2]), ([3], [3]), ([], []), ([], []), ([6], [6]), ([5, 7], [5, 7]), ([8], [8]), ([4, 9], [4, 9]), ([10], [10]), ([0, 11], [0, 11]), ([12, 12, 0, 1, 2, 3, 4, 5, 6, 7, 8, 9, 10, 11, 12], [0, 12])])
def brickyardlaw19_edges.B5 : List Nat := [0, 0, 0, 6, 14, 0, 0, 64, 224, 480, 1022, 2046, 4095, 8191]
theorem brickyardlaw19_edges.tab5 : rtab .any (opsOf Try.f36 5) = brickyardlaw19_edges.T5 := by kernel_rfl
theorem brickyardlaw19_edges.bits5 : waitsOk brickyardlaw19_edges.T5.2 brickyardlaw19_edges.B5 = true := by kernel_rfl
set_option maxHeartbeats 8000000 in
set_option maxRecDepth 100000 in
theorem brickyardlaw19_edges.calls (k : Nat) (A0 : Option Addr) (c0 : Nat) (l0 : List ByteArray) (r : List (S45)) (w : World) (hr0 : Kd.C Kd.string w A0 l0.length l0) (hc0 : l0.length ≤ c0) (h : brickyardlaw19_edges.f k l0 = some r) :
    Calls Try.prog 36 #[.slice A0 l0.length c0] w fun e w' => ∃ v0_ : Value, e = .returned (v0_) ∧ Kd.R k45 45 w' w.heap.size (fun _ => True) v0_ r ∧ Below w.heap.size w w' := by
  have hu45 := Try.underlying45
  have HR0 := Aside0.mk hr0
  have HC0 := Aside0.mk hc0
  clear hr0 hc0
  have HB := Aside0.mk (Below.refl w.heap.size w)
  have H : (brickyardlaw19_edges.l0 k l0 ([] : List (S45)) 0) = some r := h
  clear h
  have H' := Aside0.mk H
  clear H
  go_enter Try.func36, Try.ntmps36
  go_wp2
  go_loopg [3, 4] k (fun kq v3 v4 w' => ∃ (x3_1 : List (S45)) (x4_1 : Int), v4 = .int .i64 x4_1 ∧ Aside0 (brickyardlaw19_edges.l0 kq l0 x3_1 x4_1 = some r) ∧ Aside0 (kq ≤ k) ∧ Aside0 (Kd.R k45 45 w' w.heap.size (fun _ => True) v3 x3_1) ∧ Aside0 (Below w.heap.size w w'))
  case atStart => exact ⟨(([] : List (S45))), (0), (by first | rfl | (simp; done) | (simp [*]; done)), H', ⟨Nat.le_refl _⟩, ⟨by first | exact Kd.R_nil _ _ _ _ _ | exact Kd.N_nil _ _ _ _ _ | exact Kd.V_nil _ _ _ _ _ | exact Kd.Q_nil _ _ _ _ _ | exact Kd.S_nil _ _ _ _ _⟩, ⟨by repeat (first | (with_reducible first | exact HB.out | apply below_alloc | apply pw_below_drewN | apply below_drew1) | exact HB.out)⟩⟩
  case round =>
    clear H'
    obtain ⟨x3_1, x4_1, rfl, HA, HK1, HO_3, HB⟩ := hrel
    cases gk with
    | zero => exact absurd HA.out (by simp [brickyardlaw19_edges.l0])
    | succ k1 =>
      have H := HA.out
      clear HA
      simp only [brickyardlaw19_edges.l0] at H
      by_cases c2 : (wrap64 (x4_1 + 1)) < (l0.length : Int)
      · rw [if_pos c2] at H
        have c2b0 : decide ((wrap64 (x4_1 + 1)) < (l0.length : Int)) = true := decide_eq_true c2
        clear c2
        by_cases c3 : 0 ≤ x4_1
        · rw [if_pos c3] at H
          have c3b0 : decide (0 ≤ x4_1) = true := decide_eq_true c3
          clear c3
          by_cases c4 : x4_1 < (l0.length : Int)
          · rw [if_pos c4] at H
            have c4b0 : decide (x4_1 < (l0.length : Int)) = true := decide_eq_true c4
            clear c4
            obtain ⟨ji5, hji5⟩ : ∃ j_ : Int, (wrap64 (x4_1 + 1)) = j_ := ⟨_, rfl⟩
            replace H : (if 0 ≤ (ji5) then (if x3_1.length < 4398046511104 then (brickyardlaw19_edges.l0 k1 l0 (x3_1 ++ [(⟨rdOf ByteArray.empty l0 x4_1, rdOf ByteArray.empty l0 (ji5)⟩ : S45)]) (wrap64 (x4_1 + 2))) else (none)) else (none)) = some r := by first | (rw [hji5] at H; exact H) | (simp only [hji5] at H ⊢; exact H)
            (try rw [hji5] at c2b0)
            have hji5w : (IntKind.i64.wrap (x4_1 + 1)) = ji5 := (i64_w _).trans hji5
            by_cases c6 : 0 ≤ (ji5)
            · rw [if_pos c6] at H
              have c6b0 : decide (0 ≤ (ji5)) = true := decide_eq_true c6
              clear c6
              by_cases c7 : x3_1.length < 4398046511104
              · rw [if_pos c7] at H
                have LMc7 := Aside0.mk c7
                clear c7
                obtain ⟨y225, hy225⟩ : ∃ y_ : List (S45), y_ = (x3_1 ++ [(⟨rdOf ByteArray.empty l0 x4_1, rdOf ByteArray.empty l0 (ji5)⟩ : S45)]) := ⟨_, rfl⟩
                replace H : (brickyardlaw19_edges.l0 k1 l0 y225 (wrap64 (x4_1 + 2))) = some r := by first | (rw [hy225]; with_reducible exact H) | (have H2_ := (Option.bind_some _ _).symm.trans H; rw [hy225]; with_reducible exact H2_) | (have H2_ := (Option.bind_some _ _).symm.trans H; with_reducible exact H2_) | with_reducible exact H | (rw [hy225]; exact H) | exact H
                have Ny225 := Aside0.mk hy225
                clear hy225
                have H' := Aside0.mk H
                clear H
                try go_wp2
                have n0_ := Aside0.mk (Kd.R_drew HO_3.out)
                have n1_ := Aside0.mk (below_drew1 HB.out)
                clear HO_3
                clear HB
                have HO_3 := n0_
                have HB := n1_
                clear n0_ n1_
                have p223 : 0 ≤ (x4_1 : Int) := of_decide_eq_true (by first | (with_reducible assumption) | assumption)
                have q223 : x4_1 < (l0.length : Int) := of_decide_eq_true (by first | (with_reducible assumption) | assumption)
                obtain ⟨ad223, e223, hx223_0⟩ := Kd.at_string HR0.out x4_1 p223 q223
                have hw223_0 := hx223_0
                cases e223
                replace hx223_0 := (HB.out.cell (World.block_lt_of_cell? w _ hx223_0)).trans hx223_0
                replace p223 := eq_true p223
                replace q223 := eq_true q223
                have p224 : 0 ≤ ((ji5) : Int) := of_decide_eq_true (by first | (with_reducible assumption) | assumption)
                have q224 : (ji5) < (l0.length : Int) := of_decide_eq_true (by first | (with_reducible assumption) | assumption)
                obtain ⟨ad224, e224, hx224_0⟩ := Kd.at_string HR0.out (ji5) p224 q224
                have hw224_0 := hx224_0
                obtain rfl : ad223 = ad224 := (by injection e224)
                replace hx224_0 := (HB.out.cell (World.block_lt_of_cell? w _ hx224_0)).trans hx224_0
                replace p224 := eq_true p224
                replace q224 := eq_true q224
                refine start_ (n := 14) (S := fun w' => w'.cell? (ad223.add (x4_1).toNat) = some (.string (rdOf ByteArray.empty l0 x4_1)) ∧ w'.cell? (ad223.add ((ji5)).toNat) = some (.string (rdOf ByteArray.empty l0 (ji5)))) (ds := []) #[false, false, false, false, false, false, false, false, false, false, false, false, false, false] (by kernel_rfl) rfl rfl ⟨((HB.out.cell (World.block_lt_of_cell? w _ hw223_0)).trans hw223_0), ((HB.out.cell (World.block_lt_of_cell? w _ hw224_0)).trans hw224_0)⟩ (fun hHeld => ?_); refine with_tabW brickyardlaw19_edges.tab5 brickyardlaw19_edges.bits5 (fun HT_ HW_ => ?_)
                generalize wr.drew = w8 at HO_3 HB hx223_0 hx224_0 hHeld ⊢
                refine pure_ (i := 0) (N := some 12) (v := ?_) (a' := ?_) #[true, false, false, false, false, false, false, false, false, false, false, false, false, false] rfl rfl (any_of HT_.out (by kernel_rfl)) (fun _ _ _ h => h) (Or.inl ⟨by rfl, ?_⟩) ?_ ?_
                rotate_left
                · intro w'
                  go_simp
                  with_reducible rfl
                rotate_left
                · simp only [Act.put, List.setIfInBounds_toArray, List.set_cons_zero, List.set_cons_succ, i64_w, i32_w]
                  rfl
                refine pure_ (i := 1) (N := some 13) (v := ?_) (a' := ?_) #[true, true, false, false, false, false, false, false, false, false, false, false, false, false] rfl rfl (any_of HT_.out (by kernel_rfl)) (fun _ _ _ h => h) (Or.inl ⟨by rfl, ?_⟩) ?_ ?_
                rotate_left
                · intro w'
                  go_simp
                  with_reducible rfl
                rotate_left
                · simp only [Act.put, List.setIfInBounds_toArray, List.set_cons_zero, List.set_cons_succ, i64_w, i32_w]
                  rfl
                refine pure_ (i := 2) (N := some 14) (v := ?_) (a' := ?_) #[true, true, true, false, false, false, false, false, false, false, false, false, false, false] rfl rfl (any_of HT_.out (by kernel_rfl)) (fun _ _ _ h => h) (Or.inl ⟨by rfl, ?_⟩) ?_ ?_
                rotate_left
                · intro w'
                  go_simp
                  with_reducible rfl
                rotate_left
                · simp only [Act.put, List.setIfInBounds_toArray, List.set_cons_zero, List.set_cons_succ, i64_w, i32_w]
                  rfl
                refine pure_ (i := 3) (N := some 15) (v := ?_) (a' := ?_) #[true, true, true, true, false, false, false, false, false, false, false, false, false, false] rfl rfl (any_of HT_.out (by kernel_rfl)) (fun _ _ _ h => h) (Or.inl ⟨by rfl, ?_⟩) ?_ ?_
                rotate_left
                · intro w'
                  go_simp
                  with_reducible rfl
                rotate_left
                · simp only [Act.put, List.setIfInBounds_toArray, List.set_cons_zero, List.set_cons_succ, i64_w, i32_w]
                  rfl
                refine pure_ (i := 5) (N := some 17) (v := ?_) (a' := ?_) #[true, true, true, true, false, true, false, false, false, false, false, false, false, false] rfl rfl (any_of HT_.out (by kernel_rfl)) (fun _ _ _ h => h) (Or.inl ⟨by rfl, ?_⟩) ?_ ?_
                rotate_left
                · intro w'
                  go_simp
                  with_reducible rfl
                rotate_left
                · simp only [Act.put, List.setIfInBounds_toArray, List.set_cons_zero, List.set_cons_succ, i64_w, i32_w]
                  rfl
                refine pure_ (i := 6) (N := some 18) (v := ?_) (a' := ?_) #[true, true, true, true, false, true, true, false, false, false, false, false, false, false] rfl rfl (any_of HT_.out (by kernel_rfl)) (fun _ _ _ h => h) (Or.inl ⟨by rfl, ?_⟩) ?_ ?_
                rotate_left
                · intro w'
                  go_simp
                  with_reducible rfl
                rotate_left
                · simp only [Act.put, List.setIfInBounds_toArray, List.set_cons_zero, List.set_cons_succ, i64_w, i32_w]
                  rfl
                refine pure_ (i := 7) (N := some 19) (v := ?_) (a' := ?_) #[true, true, true, true, false, true, true, true, false, false, false, false, false, false] rfl rfl (any_of HT_.out (by kernel_rfl)) (fun _ _ _ h => h) (Or.inl ⟨by rfl, ?_⟩) ?_ ?_
                rotate_left
                · intro w'
                  go_simp
                  with_reducible rfl
                rotate_left
                · simp only [Act.put, List.setIfInBounds_toArray, List.set_cons_zero, List.set_cons_succ, i64_w, i32_w]
                  rfl
                refine pure_ (i := 8) (N := some 20) (v := ?_) (a' := ?_) #[true, true, true, true, false, true, true, true, true, false, false, false, false, false] rfl rfl (any_of HT_.out (by kernel_rfl)) (fun _ _ _ h => h) (Or.inl ⟨by rfl, ?_⟩) ?_ ?_
                rotate_left
                · intro w'
                  go_simp
                  with_reducible rfl
                rotate_left
                · simp only [Act.put, List.setIfInBounds_toArray, List.set_cons_zero, List.set_cons_succ, i64_w, i32_w]
                  rfl
                refine take_ (i := 4) (N := some 16) (v := ?_) (a' := ?_) #[true, true, true, true, true, true, true, true, true, false, false, false, false, false] rfl rfl (take_ofW HT_.out HW_.out (by kernel_rfl)) (fun _ _ _ h => h) (Or.inl ⟨by rfl, ?_⟩) hHeld ?_ ?_
                rotate_left
                · rintro w' ⟨s0, s1⟩
                  go_simp
                  with_reducible rfl
                rotate_left
                · simp only [Act.put, List.setIfInBounds_toArray, List.set_cons_zero, List.set_cons_succ, i64_w, i32_w]
                  rfl
                refine take_ (i := 9) (N := some 21) (v := ?_) (a' := ?_) #[true, true, true, true, true, true, true, true, true, true, false, false, false, false] rfl rfl (take_ofW HT_.out HW_.out (by kernel_rfl)) (fun _ _ _ h => h) (Or.inl ⟨by rfl, ?_⟩) hHeld ?_ ?_
                rotate_left
                · rintro w' ⟨s0, s1⟩
                  go_simp
                  with_reducible rfl
                rotate_left
                · simp only [Act.put, List.setIfInBounds_toArray, List.set_cons_zero, List.set_cons_succ, i64_w, i32_w]
                  rfl
                refine pure_ (i := 10) (N := some 22) (v := ?_) (a' := ?_) #[true, true, true, true, true, true, true, true, true, true, true, false, false, false] rfl rfl (any_of HT_.out (by kernel_rfl)) (fun _ _ _ h => h) (Or.inl ⟨by rfl, ?_⟩) ?_ ?_
                rotate_left
                · intro w'
                  go_simp
                  with_reducible rfl
                rotate_left
                · simp only [Act.put, List.setIfInBounds_toArray, List.set_cons_zero, List.set_cons_succ, i64_w, i32_w]
                  rfl
                refine one_ (i := 11) (N := some 23) #[true, true, true, true, true, true, true, true, true, true, true, true, false, false] rfl rfl (one_of HT_.out (by kernel_rfl)) (by decide) (fun K hK => ?_)
                refine value_ (w1 := ?_) (v := ?_) (by rfl) rfl ?_ ?_
                rotate_left 2
                · go_simp
                  constructor
                  · rfl
                  · rfl
                refine hK.out _ _ ⟨(World.cell?_alloc_lt _ _ _ (World.block_lt_of_cell? _ _ (((HB.out.cell (World.block_lt_of_cell? w _ hw223_0)).trans hw223_0)))).trans (((HB.out.cell (World.block_lt_of_cell? w _ hw223_0)).trans hw223_0)), (World.cell?_alloc_lt _ _ _ (World.block_lt_of_cell? _ _ (((HB.out.cell (World.block_lt_of_cell? w _ hw224_0)).trans hw224_0)))).trans (((HB.out.cell (World.block_lt_of_cell? w _ hw224_0)).trans hw224_0))⟩ (fun hHeld => ?_)
                clear hK K
                refine norm_ (a' := ?_) ?_ ?_
                rotate_left
                · show Act.put _ (some 23) _ = _
                  simp only [Act.put, List.setIfInBounds_toArray, List.set_cons_zero, List.set_cons_succ, i64_w, i32_w]
                  rfl
                refine one_ (i := 12) (N := some 24) #[true, true, true, true, true, true, true, true, true, true, true, true, true, false] rfl rfl (one_of HT_.out (by kernel_rfl)) (by decide) (fun K hK => ?_)
                refine Kd.R_append_step k45 (w0 := w) w.heap.size (by rfl) (.tmp 12) (.tmp 23) 22 45 (.agg #[(.string ⟨#[]⟩), (.string ⟨#[]⟩)]) 32 rfl Try.underlying22 info45 rfl (by decide) (by omega) u3 x3_1 (⟨rdOf ByteArray.empty l0 x4_1, rdOf ByteArray.empty l0 (ji5)⟩ : S45) [.string (rdOf ByteArray.empty l0 x4_1), .string (rdOf ByteArray.empty l0 (ji5))] (fun _ => True) (fun _ => False) rfl rfl ?aP (fun _ hk => hk.elim) ?aF ?aO ?aB ?aS ?aL ?_
                (case aP => exact k45_mkM _ _ _ (⟨rdOf ByteArray.empty l0 x4_1, rdOf ByteArray.empty l0 (ji5)⟩ : S45))
                (case aB => exact (by repeat (first | (with_reducible first | exact HB.out | apply below_alloc | apply pw_below_drewN | apply below_drew1) | exact HB.out)))
                (case aF => exact (fun _ _ => trivial))
                (case aO => exact (by (with_reducible repeat (first | apply Kd.R_alloc | apply Kd.R_drewN | apply Kd.R_drew)); exact HO_3.out))
                (case aS => exact (below_size (by repeat (first | (with_reducible first | exact HB.out | apply below_alloc | apply pw_below_drewN | apply below_drew1) | exact HB.out))))
                (case aL => have := LMc7.out; omega)
                intro v226 w9 ho hb hg hat
                rw [← Ny225.out] at ho
                have n0_ := Aside0.mk (hb)
                have n1_ := Aside0.mk (ho)
                clear HB
                clear HO_3
                have HB := n0_
                have HO227 := n1_
                clear n0_ n1_
                clear ho hb hg hat
                refine hK.out _ _ ⟨((HB.out.cell (World.block_lt_of_cell? w _ hw223_0)).trans hw223_0), ((HB.out.cell (World.block_lt_of_cell? w _ hw224_0)).trans hw224_0)⟩ (fun hHeld => ?_)
                clear hK K
                refine norm_ (a' := ?_) ?_ ?_
                rotate_left
                · show Act.put _ (some 24) _ = _
                  simp only [Act.put, List.setIfInBounds_toArray, List.set_cons_zero, List.set_cons_succ, i64_w, i32_w]
                  rfl
                refine pure_ (i := 13) (N := some 3) (v := ?_) (a' := ?_) #[true, true, true, true, true, true, true, true, true, true, true, true, true, true] rfl rfl (any_of HT_.out (by kernel_rfl)) (fun _ _ _ h => h) (Or.inl ⟨by rfl, ?_⟩) ?_ ?_
                rotate_left
                · intro w'
                  go_simp
                  with_reducible rfl
                rotate_left
                · simp only [Act.put, List.setIfInBounds_toArray, List.set_cons_zero, List.set_cons_succ, i64_w, i32_w]
                  rfl
                refine done_ (done_of HT_.out (by kernel_rfl)) ?_
                try go_wp2
                go_roundg k1
                case measure => have := HK1.out; omega
                case rel => exact ⟨(y225), (wrap64 (x4_1 + 2)), (by first | rfl | (simp; done) | (simp [*]; done)), H', ⟨by have := HK1.out; omega⟩, ⟨by (with_reducible repeat (first | apply Kd.R_alloc | apply Kd.R_drewN | apply Kd.R_drew)); exact HO227.out⟩, ⟨by repeat (first | (with_reducible first | exact HB.out | apply below_alloc | apply pw_below_drewN | apply below_drew1) | exact HB.out)⟩⟩
              · rw [if_neg c7] at H
                exact absurd H (by simp)
            · rw [if_neg c6] at H
              exact absurd H (by simp)
          · rw [if_neg c4] at H
            exact absurd H (by simp)
        · rw [if_neg c3] at H
          exact absurd H (by simp)
      · rw [if_neg c2] at H
        have c2b0 : decide ((wrap64 (x4_1 + 1)) < (l0.length : Int)) = false := decide_eq_false c2
        clear c2
        obtain rfl := Option.some.inj H
        go_wp2
        go_ret
        exact ⟨_, by first | rfl | (simp [errW_none, errW_some] <;> rfl) | (simp [*, errW_none, errW_some] <;> rfl), by (with_reducible repeat (first | apply Kd.R_alloc | apply Kd.R_drewN | apply Kd.R_drew)); exact HO_3.out, by repeat (first | (with_reducible first | exact HB.out | apply below_alloc | apply pw_below_drewN | apply below_drew1) | exact HB.out)⟩
def brickyardlaw19_long.f (l0 : List (S45)) (l1 : List ByteArray) : Option (Bool) := if (l0.length : Int) > 40 then (some true) else (some (decide ((l1.length : Int) > 20)))
set_option maxHeartbeats 8000000 in
set_option maxRecDepth 100000 in
theorem brickyardlaw19_long.calls (A0 : Option Addr) (c0 : Nat) (l0 : List (S45)) (A1 : Option Addr) (c1 : Nat) (l1 : List ByteArray) (r : Bool) (w : World) (hr0 : Kd.C k45 w A0 l0.length l0) (hc0 : l0.length ≤ c0) (hr1 : Kd.C Kd.string w A1 l1.length l1) (hc1 : l1.length ≤ c1) (h : brickyardlaw19_long.f l0 l1 = some r) :
    Calls Try.prog 9 #[.slice A0 l0.length c0, .slice A1 l1.length c1] w fun e w' => e = .returned (.bool r) ∧ Drawn0 w w' := by
  have HR0 := Aside0.mk hr0
  have HC0 := Aside0.mk hc0
  clear hr0 hc0
  have HR1 := Aside0.mk hr1
  have HC1 := Aside0.mk hc1
  clear hr1 hc1
  have H : (if (l0.length : Int) > 40 then (some true) else (some (decide ((l1.length : Int) > 20)))) = some r := h
  clear h
  by_cases c3 : (l0.length : Int) > 40
  · rw [if_pos c3] at H
    have c3b0 : decide (40 < (l0.length : Int)) = true := decide_eq_true c3
    have c3b1 : decide (40 < l0.length) = true := decide_eq_true (by omega)
    clear c3
    obtain rfl := Option.some.inj H
    go_enter Try.func9, Try.ntmps9
    go_wp2
    go_ret
    exact ⟨by first | rfl | (simp; done) | (simp [*]; done), by repeat (first | exact Drawn0.refl _ | apply Drawn0.step)⟩
  · rw [if_neg c3] at H
    have c3b0 : decide (40 < (l0.length : Int)) = false := decide_eq_false c3
    have c3b1 : decide (40 < l0.length) = false := decide_eq_false (by omega)
    clear c3
    obtain rfl := Option.some.inj H
    go_enter Try.func9, Try.ntmps9
    go_wp2
    go_ret
    exact ⟨by first | rfl | (simp; done) | (simp [*]; done), by repeat (first | exact Drawn0.refl _ | apply Drawn0.step)⟩
def slices_Index_string_string.l0 : Nat → List ByteArray → ByteArray → Int → Int → Option (Int)
  | 0, _, _, _, _ => none
  | k + 1, x0, x1, x7, x8 => if x8 < x7 then (if 0 ≤ x8 then (if x8 < (x0.length : Int) then (if x1.toList = (rdOf ByteArray.empty x0 x8).toList then (some x8) else (slices_Index_string_string.l0 k x0 x1 x7 (wrap64 (x8 + 1)))) else (none)) else (none)) else (some (-1))
def slices_Index_string_string.f (k : Nat) (l0 : List ByteArray) (a1 : ByteArray) : Option (Int) := slices_Index_string_string.l0 k l0 a1 (l0.length : Int) 0
theorem slices_Index_string_string.mono_l : ∀ k, (∀ y0 y1 y2 y3, LeO (slices_Index_string_string.l0 k y0 y1 y2 y3) (slices_Index_string_string.l0 (k + 1) y0 y1 y2 y3))
  | 0 => fun _ _ _ _ r h => by simp [slices_Index_string_string.l0] at h
  | k + 1 => by
    have ih0 := slices_Index_string_string.mono_l k
    · intro y0 y1 y2 y3
      unfold slices_Index_string_string.l0
      repeat' first
      | (with_reducible exact ih0 _ _ _ _)
      | (with_reducible exact LeO.refl _)
      | (with_reducible exact LeO.none _)
      | (with_reducible refine LeO.ite ?_ ?_)
      | (with_reducible refine LeO.bind ?_ (fun _ => ?_))
      | exact ih0 _ _ _ _
      | exact LeO.none _
      | refine LeO.ite ?_ ?_
      | refine LeO.bind ?_ (fun _ => ?_)
theorem slices_Index_string_string.mono : ∀ a0 a1 k, LeO (slices_Index_string_string.f k a0 a1) (slices_Index_string_string.f (k + 1) a0 a1) := by
  intro a0 a1 k
  have ih0 := slices_Index_string_string.mono_l k
  unfold slices_Index_string_string.f
  repeat' first
      | (with_reducible exact ih0 _ _ _ _)
      | (with_reducible exact LeO.refl _)
      | (with_reducible exact LeO.none _)
      | (with_reducible refine LeO.ite ?_ ?_)
      | (with_reducible refine LeO.bind ?_ (fun _ => ?_))
      | exact ih0 _ _ _ _
      | exact LeO.none _
      | refine LeO.ite ?_ ?_
      | refine LeO.bind ?_ (fun _ => ?_)
set_option maxHeartbeats 8000000 in
set_option maxRecDepth 100000 in
theorem slices_Index_string_string.calls (k : Nat) (A0 : Option Addr) (c0 : Nat) (l0 : List ByteArray) (a1 : ByteArray) (r : Int) (w : World) (hr0 : Kd.C Kd.string w A0 l0.length l0) (hc0 : l0.length ≤ c0) (h : slices_Index_string_string.f k l0 a1 = some r) :
    Calls Try.prog 45 #[.slice A0 l0.length c0, .string a1] w fun e w' => e = .returned (.int .i64 r) ∧ Drawn0 w w' := by
  have HR0 := Aside0.mk hr0
  have HC0 := Aside0.mk hc0
  clear hr0 hc0
  have H : (slices_Index_string_string.l0 k l0 a1 (l0.length : Int) 0) = some r := h
  clear h
  have H' := Aside0.mk H
  clear H
  go_enter Try.func45, Try.ntmps45
  go_wp2
  go_loopg [8] k (fun kq v8 w' => ∃ (x8_1 : Int), v8 = .int .i64 x8_1 ∧ Aside0 (slices_Index_string_string.l0 kq l0 a1 (l0.length : Int) x8_1 = some r) ∧ Aside0 (kq ≤ k) ∧ Drawn0 w w')
  case atStart => exact ⟨(0), (by first | rfl | (simp; done) | (simp [*]; done)), H', ⟨Nat.le_refl _⟩, by repeat (first | exact Drawn0.refl _ | apply Drawn0.step)⟩
  case round =>
    clear H'
    try clear p2
    obtain ⟨x8_1, rfl, HA, HK1, ⟨m1, rfl⟩⟩ := hrel
    cases gk with
    | zero => exact absurd HA.out (by simp [slices_Index_string_string.l0])
    | succ k1 =>
      have H := HA.out
      clear HA
      simp only [slices_Index_string_string.l0] at H
      by_cases c3 : x8_1 < (l0.length : Int)
      · rw [if_pos c3] at H
        have c3b0 : decide (x8_1 < (l0.length : Int)) = true := decide_eq_true c3
        clear c3
        by_cases c4 : 0 ≤ x8_1
        · rw [if_pos c4] at H
          have c4b0 : decide (0 ≤ x8_1) = true := decide_eq_true c4
          clear c4
          by_cases c5 : x8_1 < (l0.length : Int)
          · rw [if_pos c5] at H
            have c5b0 : decide (x8_1 < (l0.length : Int)) = true := decide_eq_true c5
            clear c5
            by_cases c6 : a1.toList = (rdOf ByteArray.empty l0 x8_1).toList
            · rw [if_pos c6] at H
              have c6b0 : (a1.toList == (rdOf ByteArray.empty l0 x8_1).toList) = true := beq_iff_eq.mpr c6
              have c6b1 : (a1.toList != (rdOf ByteArray.empty l0 x8_1).toList) = false := bne_eq_false_iff_eq.mpr c6
              clear c6
              obtain rfl := Option.some.inj H
              have p234 : 0 ≤ (x8_1 : Int) := of_decide_eq_true (by first | (with_reducible assumption) | assumption)
              have q234 : x8_1 < (l0.length : Int) := of_decide_eq_true (by first | (with_reducible assumption) | assumption)
              obtain ⟨ad234, e234, hx234_0⟩ := Kd.at_string HR0.out x8_1 p234 q234
              cases e234
              replace p234 := eq_true p234
              replace q234 := eq_true q234
              go_wp2
              go_ret
              exact ⟨by first | rfl | (simp; done) | (simp [*]; done), by repeat (first | exact Drawn0.refl _ | apply Drawn0.step)⟩
            · rw [if_neg c6] at H
              have c6b0 : (a1.toList == (rdOf ByteArray.empty l0 x8_1).toList) = false := beq_eq_false_iff_ne.mpr c6
              have c6b1 : (a1.toList != (rdOf ByteArray.empty l0 x8_1).toList) = true := bne_iff_ne.mpr c6
              have H' := Aside0.mk H
              clear H
              have p234 : 0 ≤ (x8_1 : Int) := of_decide_eq_true (by first | (with_reducible assumption) | assumption)
              have q234 : x8_1 < (l0.length : Int) := of_decide_eq_true (by first | (with_reducible assumption) | assumption)
              obtain ⟨ad234, e234, hx234_0⟩ := Kd.at_string HR0.out x8_1 p234 q234
              cases e234
              replace p234 := eq_true p234
              replace q234 := eq_true q234
              go_wp2
              go_roundg k1
              case measure => have := HK1.out; omega
              case rel => exact ⟨(wrap64 (x8_1 + 1)), (by first | rfl | (simp; done) | (simp [*]; done)), H', ⟨by have := HK1.out; omega⟩, by repeat (first | exact Drawn0.refl _ | apply Drawn0.step)⟩
          · rw [if_neg c5] at H
            exact absurd H (by simp)
        · rw [if_neg c4] at H
          exact absurd H (by simp)
      · rw [if_neg c3] at H
        have c3b0 : decide (x8_1 < (l0.length : Int)) = false := decide_eq_false c3
        clear c3
        obtain rfl := Option.some.inj H
        go_wp2
        go_ret
        exact ⟨by first | rfl | (simp; done) | (simp [*]; done), by repeat (first | exact Drawn0.refl _ | apply Drawn0.step)⟩
def slices_Contains_string_string.f (k : Nat) (l0 : List ByteArray) (a1 : ByteArray) : Option (Bool) := (slices_Index_string_string.f k l0 a1).bind fun t235 => (some (decide (t235 ≥ 0)))
theorem slices_Contains_string_string.mono : ∀ a0 a1 k, LeO (slices_Contains_string_string.f k a0 a1) (slices_Contains_string_string.f (k + 1) a0 a1) := by
  intro a0 a1 k
  unfold slices_Contains_string_string.f
  repeat' first
      | (with_reducible exact slices_Index_string_string.mono _ _ _)
      | (with_reducible exact LeO.refl _)
      | (with_reducible exact LeO.none _)
      | (with_reducible refine LeO.ite ?_ ?_)
      | (with_reducible refine LeO.bind ?_ (fun _ => ?_))
      | exact slices_Index_string_string.mono _ _ _
      | exact LeO.none _
      | refine LeO.ite ?_ ?_
      | refine LeO.bind ?_ (fun _ => ?_)
set_option maxHeartbeats 8000000 in
set_option maxRecDepth 100000 in
theorem slices_Contains_string_string.calls (k : Nat) (A0 : Option Addr) (c0 : Nat) (l0 : List ByteArray) (a1 : ByteArray) (r : Bool) (w : World) (hr0 : Kd.C Kd.string w A0 l0.length l0) (hc0 : l0.length ≤ c0) (h : slices_Contains_string_string.f k l0 a1 = some r) :
    Calls Try.prog 21 #[.slice A0 l0.length c0, .string a1] w fun e w' => e = .returned (.bool r) ∧ Drawn0 w w' := by
  have HR0 := Aside0.mk hr0
  have HC0 := Aside0.mk hc0
  clear hr0 hc0
  have H : ((slices_Index_string_string.f k l0 a1).bind fun t235 => (some (decide (t235 ≥ 0)))) = some r := h
  clear h
  replace H := Option.bind_eq_some_iff.mp H
  obtain ⟨t235, A30, H⟩ := H
  replace H : (some (decide (t235 ≥ 0))) = some r := H
  have A3 := Aside0.mk A30
  clear A30
  obtain rfl := Option.some.inj H
  go_enter Try.func21, Try.ntmps21
  go_wp2_with (first | ((with_reducible refine gate_callee (f := 45) rfl ?_); refine goesL_ (some 7) rfl rfl Try.func45 (by kernel_rfl) rfl #[.slice A0 l0.length c0, .string a1] rfl (by (try simp only [List.map_toArray, List.map_cons, List.map_nil]); first | done | rfl | (simp only [List.length_drop, List.length_take]; rfl)) ?_; (with_reducible refine (slices_Index_string_string.calls k _ _ l0 a1 t235 _ ?side1 ?side2 A3.out).mono ?_); (case side1 => repeat (first | exact HR0.out | (with_reducible refine Kd.C_alloc ?_ _) | (with_reducible refine Kd.C_drewN ?_ _) | (with_reducible refine Kd.C_drew ?_))); (case side2 => exact HC0.out); rintro e w' ⟨rfl, ⟨nd, rfl⟩⟩; refine ⟨_, rfl, ?_⟩))
  go_ret
  exact ⟨by first | rfl | (simp; done) | (simp [*]; done), by repeat (first | exact Drawn0.refl _ | apply Drawn0.step)⟩
end Go.Proofs.Ytlccejbomgknkaa.PGraphWays
namespace Go.Proofs.Ytlccejbomgknkaa
set_option linter.unusedVariables false
set_option linter.unusedSimpArgs false
open Go.RowKit Go.Maps Go.Proofs.YtlccejbomgknkaaW.PrintWords Go.Proofs.YtlccejbomgknkaaW.PrintLast
theorem C_form {w : World} {A : Option Addr} {xs : List ByteArray} (h : Kd.C Kd.string w A xs.length xs) (hn : 0 < xs.length) :
    ∃ b off, A = some ⟨b, off, none⟩ ∧ ∀ j, j < xs.length → w.cell? ⟨b, off + j, none⟩ = some (.string (xs.getD j ByteArray.empty)) := by
  obtain ⟨ad, hA, h0⟩ := Kd.at_string h (0 : Int) (by omega) (by omega)
  have hs := World.cell?_spot h0
  obtain ⟨b, off, sp⟩ := ad
  have hs' : sp = none := hs
  subst hs'
  refine ⟨b, off, hA, fun j hj => ?_⟩
  obtain ⟨ad', hA', hc⟩ := Kd.at_string h (j : Int) (by omega) (by omega)
  rw [hA] at hA'
  injection hA' with hA'
  subst hA'
  rw [Addr.add_lit] at hc
  simp only [Int.toNat_natCast] at hc
  exact hc
theorem C_empty (w : World) (A : Option Addr) : Kd.C Kd.string w A 0 [] := ⟨rfl, by omega, fun h => absurd h (by omega)⟩
theorem kE_empty (w : World) (A : Option Addr) : Kd.C kE w A 0 [] := ⟨rfl, by omega, fun h => absurd h (by omega)⟩
theorem Equal_any {w : World} (A1 A2 : Option Addr) (c1 c2 : Nat) (xs ys : List ByteArray) (h1 : Kd.C Kd.string w A1 xs.length xs) (h2 : Kd.C Kd.string w A2 ys.length ys) :
    Calls Try.prog 14 #[.slice A1 xs.length c1, .slice A2 ys.length c2] w fun e w' => e = .returned (.bool (decide (xs = ys))) ∧ ∃ q, w' = w.drewN q := by
  by_cases hl : xs.length = ys.length
  · by_cases hn : 0 < xs.length
    · obtain ⟨b, off, rfl, hc⟩ := C_form h1 hn
      obtain ⟨b2, off2, rfl, hc2⟩ := C_form h2 (by omega)
      refine (Try.slices_Equal_string b off xs.length c1 b2 off2 ys.length c2 xs ys w (Nat.le_refl _) (Nat.le_refl _) h1.2.1 h2.2.1 hc hc2).mono ?_
      rintro e w' ⟨rfl, q, rfl⟩
      exact ⟨by rw [List.take_length, List.take_length], q, rfl⟩
    · have h0 : xs = [] := List.eq_nil_of_length_eq_zero (by omega)
      subst h0
      have h0 : ys = [] := List.eq_nil_of_length_eq_zero (by rw [← hl]; rfl)
      subst h0
      refine (Try.slices_Equal_string_empty A1 A2 c1 0 c2 w (by omega)).mono ?_
      rintro e w' ⟨rfl, rfl⟩
      exact ⟨by simp, 0, rfl⟩
  · refine (Try.slices_Equal_string_lens A1 A2 xs.length c1 ys.length c2 w hl).mono ?_
    rintro e w' ⟨rfl, rfl⟩
    refine ⟨?_, 0, rfl⟩
    have : xs ≠ ys := fun e => hl (by rw [e])
    simp [this]
theorem Clone_any {w : World} (A : Option Addr) (c : Nat) (l : List ByteArray) (h : Kd.C Kd.string w A l.length l) (hl : l.length ≤ 1000000) :
    Calls Try.prog 16 #[.slice A l.length c] w fun e w' => ∃ (A' : Option Addr) (c' : Nat), e = .returned (.slice A' l.length c') ∧ Kd.C Kd.string w' A' l.length l ∧ Below w.heap.size w w' := by
  by_cases hn : 0 < l.length
  · obtain ⟨b, off, rfl, hc⟩ := C_form h hn
    refine (Try.slices_Clone_string b off l.length c l w (Nat.le_refl _) (by omega) hc).mono ?_
    rintro e w' ⟨v', rfl, hown, _, hb⟩
    rw [List.take_length] at hown
    have hR : Kd.R Kd.string 9 w' w.heap.size (fun _ => True) v' l := Kd.R_of_own (enc := Value.string) (h1 := fun _ => rfl) hown (fun _ _ => trivial)
    obtain ⟨A', c', rfl⟩ := Kd.R_slice hR
    exact ⟨A', c', rfl, (Kd.R_reads' hR).2.2, hb⟩
  · have h0 : l = [] := List.eq_nil_of_length_eq_zero (by omega)
    subst h0
    cases A with
    | none =>
      refine (Try.slices_Clone_string_nil 0 c w).mono ?_
      rintro e w' ⟨rfl, rfl⟩
      exact ⟨none, 0, rfl, C_empty _ _, Below.refl _ _⟩
    | some a =>
      refine (Try.slices_Clone_string_zero a c w).mono ?_
      rintro e w' ⟨v', rfl, hown, _, hb⟩
      have hR : Kd.R Kd.string 9 w' w.heap.size (fun _ => True) v' [] := Kd.R_of_own (enc := Value.string) (h1 := fun _ => rfl) hown (fun _ _ => trivial)
      obtain ⟨A', c', rfl⟩ := Kd.R_slice hR
      exact ⟨A', c', rfl, (Kd.R_reads' hR).2.2, hb⟩
theorem pair_form {w : World} {A : Option Addr} {l : List (ByteArray × ByteArray)} (h : Kd.C kE w A l.length l) (hn : 0 < l.length) :
    ∃ b off, A = some ⟨b, off, none⟩ ∧ ∀ j p, l[j]? = some p → w.cell? ⟨b, off + j * 2, none⟩ = some (.string p.1) ∧ w.cell? ⟨b, off + j * 2 + 1, none⟩ = some (.string p.2) := by
  obtain ⟨ad, p0, _, hA, h0, _⟩ := at_pair h 0 hn
  have hs := World.cell?_spot h0
  obtain ⟨b, off, sp⟩ := ad
  have hs' : sp = none := hs
  subst hs'
  refine ⟨b, off, hA, fun j p hj => ?_⟩
  have hjl := (List.getElem?_eq_some_iff.1 hj).1
  obtain ⟨ad', p', hp', hA', hc1, hc2⟩ := at_pair h j hjl
  rw [hA] at hA'
  injection hA' with hA'
  subst hA'
  rw [hj] at hp'
  injection hp' with hp'
  subst hp'
  rw [Addr.add_lit] at hc1 hc2
  exact ⟨hc1, hc2⟩
theorem pair_back {w : World} {b off : Nat} {l : List (ByteArray × ByteArray)} (hl : l.length ≤ 1000000) (h : ∀ j p, l[j]? = some p → w.cell? ⟨b, off + j * 2, none⟩ = some (.string p.1) ∧ w.cell? ⟨b, off + j * 2 + 1, none⟩ = some (.string p.2)) :
    Kd.C kE w (some ⟨b, off, none⟩) l.length l := by
  refine ⟨rfl, by omega, fun _ => ⟨_, rfl, fun j p hj => ⟨[.string p.1, .string p.2], rfl, ⟨[.string p.1], [.string p.2], rfl, rfl, rfl⟩, fun i u hu => ?_⟩⟩⟩
  obtain ⟨h1, h2⟩ := h j p hj
  match i, hu with
  | 0, hu => injection hu with hu; rw [← hu, Addr.add_lit]; exact h1
  | 1, hu => injection hu with hu; rw [← hu, Addr.add_lit]; exact h2
theorem infoE : (Try.prog.info? 45).map (fun i => (i.zero, i.size, i.bytes)) = some (some (.agg #[(.string ⟨#[]⟩), (.string ⟨#[]⟩)]), 2, 32) := by kernel_rfl
def flat2 (l : List (ByteArray × ByteArray)) : List Value := l.flatMap (fun p => [.string p.1, .string p.2])
theorem flat2_len (l : List (ByteArray × ByteArray)) : (flat2 l).length = l.length * 2 := by
  induction l with
  | nil => rfl
  | cons p l ih => simp only [flat2, List.flatMap_cons, List.length_append, List.length_cons, List.length_nil] at ih ⊢; omega
theorem flat2_get : ∀ (l : List (ByteArray × ByteArray)) (j : Nat) (u : Value), (flat2 l)[j]? = some u → ∃ i p, l[i]? = some p ∧ ((j = i * 2 ∧ u = .string p.1) ∨ (j = i * 2 + 1 ∧ u = .string p.2))
  | [], j, u, h => by simp [flat2] at h
  | p :: l, 0, u, h => ⟨0, p, rfl, .inl ⟨rfl, by simp [flat2] at h; exact h.symm⟩⟩
  | p :: l, 1, u, h => ⟨0, p, rfl, .inr ⟨rfl, by simp [flat2] at h; exact h.symm⟩⟩
  | p :: l, j + 2, u, h => by
    have h' : (flat2 l)[j]? = some u := by simpa [flat2] using h
    obtain ⟨i, q, hq, hh⟩ := flat2_get l j u h'
    refine ⟨i + 1, q, by simpa using hq, ?_⟩
    rcases hh with ⟨e, hu⟩ | ⟨e, hu⟩
    · exact .inl ⟨by omega, hu⟩
    · exact .inr ⟨by omega, hu⟩
theorem flat2_at : ∀ (l : List (ByteArray × ByteArray)) (i : Nat) (p : ByteArray × ByteArray), l[i]? = some p → (flat2 l)[i * 2]? = some (.string p.1) ∧ (flat2 l)[i * 2 + 1]? = some (.string p.2)
  | [], i, p, h => by simp at h
  | q :: l, 0, p, h => by simp at h; subst h; simp [flat2]
  | q :: l, i + 1, p, h => by
    have := flat2_at l i p (by simpa using h)
    rw [show (i + 1) * 2 = i * 2 + 2 from by omega, show i * 2 + 2 + 1 = (i * 2 + 1) + 2 from by omega]
    simpa [flat2] using this
end Go.Proofs.Ytlccejbomgknkaa
namespace Go.Proofs.Ytlccejbomgknkaa
set_option linter.unusedVariables false
set_option linter.unusedSimpArgs false
open Go.RowKit Go.Maps Go.Proofs.YtlccejbomgknkaaW.PrintWords Go.Proofs.YtlccejbomgknkaaW.PrintLast
set_option maxRecDepth 100000 in
set_option maxHeartbeats 2000000 in
theorem CloneE_any {w : World} (A : Option Addr) (c : Nat) (l : List (ByteArray × ByteArray)) (h : Kd.C kE w A l.length l) (hl : l.length ≤ 1000000) :
    Calls Try.prog 37 #[.slice A l.length c] w fun e w' => ∃ (A' : Option Addr) (c' : Nat), e = .returned (.slice A' l.length c') ∧ Kd.C kE w' A' l.length l ∧ Below w.heap.size w w' := by
  have q22 : ∀ (w : World) (a : Option Addr) (n c n' c' : Nat), (binOp .eql 22 (.slice a n c) (.slice none n' c')).run Try.prog w = .ok (.bool a.isNone) w := fun w a n c n' c' => Lib.run_eql_slice_nil w _ _ a n c n' c' Try.underlying22
  obtain ⟨i0, hi, hz0, hz1, hz2⟩ := info_parts infoE
  cases A with
  | none =>
    have h0 : l = [] := by
      refine List.eq_nil_of_length_eq_zero (Nat.le_antisymm (Nat.le_of_not_lt fun hn => ?_) (Nat.zero_le _))
      obtain ⟨_, hA, _⟩ := h.2.2 hn
      cases hA
    subst h0
    clear h
    go_enter Try.func37, Try.ntmps37
    go_wp2
    go_ret
    exact ⟨none, 0, rfl, kE_empty _ _, Below.refl _ _⟩
  | some ad =>
    have H := Lib.hid h
    have hc : Hid (∀ j u, (flat2 l)[j]? = some u → (w.alloc (.cells #[] 45)).cell? (ad.add j) = some u) := by
      intro j u hj
      obtain ⟨i, p, hp, hh⟩ := flat2_get l j u hj
      have hn : 0 < l.length := by have := (List.getElem?_eq_some_iff.1 hp).1; omega
      obtain ⟨b, off, hA, hcc⟩ := pair_form h hn
      injection hA with hA
      subst hA
      obtain ⟨c1, c2⟩ := hcc i p hp
      rw [Addr.add_lit]
      refine Lib.cell?_alloc_some _ ?_
      rcases hh with ⟨rfl, rfl⟩ | ⟨rfl, rfl⟩
      · exact c1
      · rw [← Nat.add_assoc]; exact c2
    clear h
    go_enter Try.func37, Try.ntmps37
    go_wp2_with (at_builtin; refine wpList_append_own _ rfl _ _ 22 rfl w.heap.size 45 i0 (.agg #[(.string ⟨#[]⟩), (.string ⟨#[]⟩)]) 2 32 Try.underlying22 hi hz0 hz1 hz2 rfl (by decide) _ _ _ rfl (World.ownsRow_made w #[] 0 (Nat.le_refl _) (Nat.zero_le _) rfl) ad l.length c (flat2 l) rfl ?qc1 ?qc2 ?qc3 ?qc4 ?qc5 ?qc6 ?_)
    case qc1 => exact flat2_len l
    case qc2 => exact hc.out
    case qc3 =>
      intro u hu
      obtain ⟨p, _, hp⟩ := List.mem_flatMap.1 hu
      simp only [List.mem_cons, List.not_mem_nil, or_false] at hp
      rcases hp with rfl | rfl <;> rfl
    case qc4 => unfold maxLen; omega
    case qc5 => omega
    case qc6 => simp
    intro v' w1 hown hgrow hnil
    have Z := Lib.hid (And.intro hown hgrow)
    clear hown hgrow hnil hc
    go_wp2
    go_ret
    obtain ⟨hown, hgrow⟩ := Z.out
    have hb : Below w.heap.size w w1 := ((Below.refl _ w).alloc (Nat.le_refl _) _).grown hgrow (by simp) (by intro k hk; simp [Value.ownBlock] at hk; omega)
    rcases hown.2 with ⟨rfl, h0⟩ | ⟨g, cap, cur, rfl, _, hg, _, _, hsz, htk⟩
    · have h0' : l = [] := List.eq_nil_of_length_eq_zero h0
      subst h0'
      exact ⟨none, 0, rfl, kE_empty _ _, hb⟩
    · have hcell : ∀ j u, (flat2 l)[j]? = some u → w1.cell? ⟨g, j, none⟩ = some u := by
        intro j u hj
        have hcg : w1.cell? ⟨g, j, none⟩ = cur[j]? := by simp [World.cell?, hg]
        rw [hcg, ← Array.getElem?_toList]
        rw [show flat2 l = cur.toList.take (l.length * 2) from by simpa using htk.symm] at hj
        rw [List.getElem?_take] at hj
        split at hj
        · exact hj
        · cases hj
      refine ⟨some ⟨g, 0, none⟩, cap, rfl, pair_back hl fun j p hp => ?_, hb⟩
      obtain ⟨f1, f2⟩ := flat2_at l j p hp
      exact ⟨by rw [Nat.zero_add]; exact hcell _ _ f1, by rw [Nat.zero_add]; exact hcell _ _ f2⟩
theorem Way_any {w : World} {B g : Nat} {N : List ByteArray} {E : Rel} (hG : GraphAt w B g N E) (hN : N.length ≤ 1000000) (x y : ByteArray) :
    Calls Try.prog 12 #[.pointer (some ⟨g, 0, none⟩), .string x, .string y] w (Wayed w N E x y) := by
  by_cases h : x ∈ N ∧ y ∈ N
  · exact way_in hG hN x y h.1 h.2
  · exact way_out hG x y h
theorem GraphAt.base {w : World} {B B' g : Nat} {N : List ByteArray} {E : Rel} (h : GraphAt w B g N E) (hB : B' ≤ B) : GraphAt w B' g N E := by
  obtain ⟨bo, bi, lo, li, hG⟩ := h
  exact ⟨bo, bi, lo, li, { hG with base := fun k hk => Nat.le_trans hB (hG.base k hk) }⟩
def Maked (w : World) (l : List (ByteArray × ByteArray)) (names : List ByteArray) (e : Ending) (w' : World) : Prop :=
  ∃ g N, e = .returned (.pointer (some ⟨g, 0, none⟩)) ∧ GraphAt w' w.heap.size g N (fun x y => (x, y) ∈ l) ∧ (∀ z, z ∈ N ↔ z ∈ names ∨ ∃ e ∈ l, e.1 = z ∨ e.2 = z) ∧ N.length ≤ 2 * l.length + names.length ∧ Below w.heap.size w w'
set_option maxRecDepth 100000 in
set_option maxHeartbeats 2000000 in
theorem made_any {w : World} (A : Option Addr) (c : Nat) (l : List (ByteArray × ByteArray)) (A2 : Option Addr) (c2 : Nat) (names : List ByteArray) (hl : Kd.C kE w A l.length l) (hn : Kd.C Kd.string w A2 names.length names)
    (h1 : l.length ≤ 1000) (h2 : names.length ≤ 1000) (hz1 : ∀ e ∈ l, e.1.size ≤ maxLen ∧ e.2.size ≤ maxLen) (hz2 : ∀ x ∈ names, x.size ≤ maxLen) :
    Calls Try.prog 10 #[.slice A l.length c, .slice A2 names.length c2] w (Maked w l names) := by
  have H1 := Lib.hid (CloneE_any A c l hl (by omega))
  have X := Lib.hid (And.intro hn (And.intro hz1 hz2))
  clear hl hn hz1 hz2
  go_enter Try.func10, Try.ntmps10
  go_wp2_with fail
  refine H1.out.mono ?_
  rintro e w1 ⟨A3, c3, rfl, hc3, hb3⟩
  have H2 := Lib.hid (New_any A3 c3 l hc3 X.out.2.1)
  have B1 := Lib.hid hb3
  clear hc3 hb3 H1
  go_wp2_with fail
  refine H2.out.mono ?_
  rintro e w2 ⟨rfl, hNew⟩
  have N2 := Lib.hid hNew
  clear H2 hNew
  go_wp2_with fail
  have H3 : Hid (Calls Try.prog 16 #[.slice A2 names.length c2] w2 fun e w' => ∃ (A' : Option Addr) (c' : Nat), e = .returned (.slice A' names.length c') ∧ Kd.C Kd.string w' A' names.length names ∧ Below w2.heap.size w2 w') := by
    obtain ⟨N, hG, hm, hln, hK⟩ := N2.out
    exact Clone_any A2 c2 names (Kd.C_below X.out.1 (B1.out.trans (hK.below.mono B1.out.size))) (by omega)
  refine H3.out.mono ?_
  rintro e w3 ⟨A4, c4, rfl, hc4, hb4⟩
  have H4 : Hid (Calls Try.prog 38 #[.pointer (some ⟨w1.heap.size + 1 + 1, 0, none⟩), .slice A4 names.length c4] w3 fun e w' => e = .returned (.int .i64 0) ∧ Maked w l names (.returned (.pointer (some ⟨w1.heap.size + 1 + 1, 0, none⟩))) w') := by
    obtain ⟨N, hG, hm, hln, hK⟩ := N2.out
    have hs : w.heap.size ≤ w2.heap.size := Nat.le_trans B1.out.size hK.below.size
    refine (Add_any ((hG.base B1.out.size).below hb4) (Nat.le_trans hs hb4.size) A4 c4 names hc4 X.out.2.2).mono ?_
    rintro e w4 ⟨rfl, N', hG', hm', hln', hK'⟩
    refine ⟨rfl, _, N', rfl, hG', fun z => ?_, by omega, ?_⟩
    · rw [hm' z, hm z]
      exact ⟨fun h => h.symm, fun h => h.symm⟩
    · exact ((B1.out.trans (hK.below.mono B1.out.size)).trans (hb4.mono hs)).trans hK'.below
  clear H3 hc4 hb4
  go_wp2_with fail
  refine H4.out.mono ?_
  rintro e w4 ⟨rfl, hM⟩
  have HM := Lib.hid hM
  clear H4 hM
  go_wp2_with fail
  go_ret
  exact HM.out
end Go.Proofs.Ytlccejbomgknkaa
