/- Maps keyed by strings, told by the plain list of their entries: what each operation of the model does to such a map, at whatever program. -/
import Derived.Maps.RangeWalk
import Derived.WalkKit
namespace Go.Proofs.Ytpmeefdegcllkaa
open Go.RowKit Go.Maps
open Go.MapKept (Stamped stamped_iff stamped_push stamped_modify stamped_erase run_findKey run_checkKey run_keyThatStays findNow_spec IsKey)
open Go.ChangeMaps (setBlock)

abbrev Ents := List (ByteArray × Value)
def encE (p : ByteArray × Value) : Value × Value := (Value.string p.1, p.2)
def kvE (e : MapEntry) : Value × Value := (e.key, e.val)

/-- Block b is a map whose entries, in the order of their laying, are l. -/
def MapAt (w : World) (b : Nat) (l : Ents) : Prop :=
  ∃ es clock, w.heap[b]? = some (.map es clock) ∧ Stamped es clock ∧ es.toList.map kvE = l.map encE ∧ ∀ p ∈ l, p.1.size ≤ maxLen

def getE (l : Ents) (k : ByteArray) : Option Value := (l.find? (fun p => decide (p.1 = k))).map (·.2)
def putE (l : Ents) (k : ByteArray) (v : Value) : Ents :=
  if l.any (fun p => decide (p.1 = k)) then l.map (fun p => if p.1 = k then (k, v) else p) else l ++ [(k, v)]
def delE (l : Ents) (k : ByteArray) : Ents := l.filter (fun p => decide (p.1 ≠ k))

theorem kv_len {es : Array MapEntry} {l : Ents} (h : es.toList.map kvE = l.map encE) : es.size = l.length := by
  have := congrArg List.length h
  simpa using this

theorem kv_get {es : Array MapEntry} {l : Ents} (h : es.toList.map kvE = l.map encE) {j : Nat} {e : MapEntry} (he : es[j]? = some e) : ∃ p, l[j]? = some p ∧ e.key = .string p.1 ∧ e.val = p.2 := by
  have h1 := congrArg (fun x => x[j]?) h
  simp only [List.getElem?_map] at h1
  rw [show es.toList[j]? = some e from by simpa using he] at h1
  cases hl : l[j]? with
  | none => rw [hl] at h1; cases h1
  | some p =>
    rw [hl] at h1
    simp only [Option.map_some, Option.some.injEq, kvE, encE, Prod.mk.injEq] at h1
    exact ⟨p, rfl, h1.1, h1.2⟩

theorem kv_mem {es : Array MapEntry} {l : Ents} (h : es.toList.map kvE = l.map encE) {p : ByteArray × Value} (hp : p ∈ l) : ∃ e ∈ es.toList, e.key = .string p.1 ∧ e.val = p.2 := by
  have : encE p ∈ es.toList.map kvE := by rw [h]; exact List.mem_map.2 ⟨p, hp, rfl⟩
  obtain ⟨e, he, hx⟩ := List.mem_map.1 this
  simp only [kvE, encE, Prod.mk.injEq] at hx
  exact ⟨e, he, hx.1, hx.2⟩

theorem kv_mem' {es : Array MapEntry} {l : Ents} (h : es.toList.map kvE = l.map encE) {e : MapEntry} (he : e ∈ es.toList) : ∃ p ∈ l, e.key = .string p.1 ∧ e.val = p.2 := by
  have : kvE e ∈ l.map encE := by rw [← h]; exact List.mem_map.2 ⟨e, he, rfl⟩
  obtain ⟨p, hp, hx⟩ := List.mem_map.1 this
  simp only [kvE, encE, Prod.mk.injEq] at hx
  exact ⟨p, hp, hx.1.symm, hx.2.symm⟩

theorem kv_nodup {es : Array MapEntry} {l : Ents} (h : es.toList.map kvE = l.map encE) (hs : es.toList.Pairwise (fun x y => x.key ≠ y.key)) : (l.map Prod.fst).Nodup := by
  have h1 : es.toList.map (·.key) = l.map (fun p => Value.string p.1) := by
    have := congrArg (List.map Prod.fst) h
    simpa [List.map_map, Function.comp_def, kvE, encE] using this
  have h2 : (es.toList.map (·.key)).Pairwise (· ≠ ·) := List.pairwise_map.2 hs
  rw [h1, List.pairwise_map] at h2
  rw [List.Nodup, List.pairwise_map]
  exact h2.imp (fun h e => h (by rw [e]))

theorem MapAt.nodup {w : World} {b : Nat} {l : Ents} (h : MapAt w b l) : (l.map Prod.fst).Nodup := by
  obtain ⟨es, clock, _, hs, hkv, _⟩ := h
  exact kv_nodup hkv ((stamped_iff es clock).1 hs).2.2

theorem MapAt.lt {w : World} {b : Nat} {l : Ents} (h : MapAt w b l) : b < w.heap.size := by
  obtain ⟨es, clock, hb, _⟩ := h
  exact (Array.getElem?_eq_some_iff.1 hb).1

theorem MapAt.same {w w' : World} {b : Nat} {l : Ents} (h : MapAt w b l) (he : w'.heap[b]? = w.heap[b]?) : MapAt w' b l := by
  obtain ⟨es, clock, hb, r⟩ := h
  exact ⟨es, clock, he.trans hb, r⟩

theorem MapAt.below {w w' : World} {b B : Nat} {l : Ents} (h : MapAt w b l) (hb : Below B w w') (hlt : b < B) : MapAt w' b l := h.same (hb.block b hlt)

theorem MapAt.alloc {w : World} {b : Nat} {l : Ents} (h : MapAt w b l) (o : Obj) : MapAt (w.alloc o) b l := h.same (Below.heap_alloc w o b h.lt)

/-! ### plain lemmas on the entries -/
theorem getE_none {l : Ents} {k : ByteArray} (h : ∀ p ∈ l, p.1 ≠ k) : getE l k = none := by
  unfold getE
  rw [List.find?_eq_none.2 (fun p hp => by simpa using h p hp)]
  rfl

theorem getE_some {l : Ents} {k : ByteArray} {j : Nat} {p : ByteArray × Value} (hn : (l.map Prod.fst).Nodup) (hj : l[j]? = some p) (hk : p.1 = k) : getE l k = some p.2 := by
  unfold getE
  have hm : p ∈ l := List.mem_of_getElem? hj
  cases hf : l.find? (fun p => decide (p.1 = k)) with
  | none => exact absurd (by simpa using List.find?_eq_none.1 hf p hm) (by simpa using hk)
  | some q =>
    have hq := List.find?_some hf
    have hqm := List.mem_of_find?_eq_some hf
    have : q = p := by
      have hinj : ∀ {l : Ents}, (l.map Prod.fst).Nodup → ∀ {x y}, x ∈ l → y ∈ l → x.1 = y.1 → x = y := by
        intro l
        induction l with
        | nil => intro _ x y hx; simp at hx
        | cons a r ih =>
          intro hn x y hx hy hxy
          rw [List.map_cons, List.nodup_cons] at hn
          rcases List.mem_cons.1 hx with ex | hx
          · rcases List.mem_cons.1 hy with ey | hy
            · rw [ex, ey]
            · exact absurd (List.mem_map.2 ⟨y, hy, by rw [← hxy, ex]⟩) hn.1
          · rcases List.mem_cons.1 hy with ey | hy
            · exact absurd (List.mem_map.2 ⟨x, hx, by rw [hxy, ey]⟩) hn.1
            · exact ih hn.2 hx hy hxy
      exact hinj hn hqm hm (by rw [hk]; simpa using hq)
    rw [this]
    rfl

theorem getE_mem {l : Ents} {k : ByteArray} {v : Value} (hn : (l.map Prod.fst).Nodup) : getE l k = some v ↔ (k, v) ∈ l := by
  constructor
  · intro h
    unfold getE at h
    cases hf : l.find? (fun p => decide (p.1 = k)) with
    | none => rw [hf] at h; cases h
    | some q =>
      rw [hf] at h
      have hq := List.find?_some hf
      have hqm := List.mem_of_find?_eq_some hf
      simp only [Option.map_some, Option.some.injEq] at h
      have e : q.1 = k := by simpa using hq
      rw [← e, ← h]
      exact hqm
  · intro h
    obtain ⟨j, hj⟩ := List.getElem?_of_mem h
    exact getE_some hn hj rfl

theorem getE_isNone {l : Ents} {k : ByteArray} : getE l k = none ↔ k ∉ l.map Prod.fst := by
  unfold getE
  simp only [Option.map_eq_none_iff, List.find?_eq_none, List.mem_map, not_exists, not_and]
  constructor
  · intro h p hp e
    exact h p hp (by simpa using e)
  · intro h p hp e
    exact h p hp (by simpa using e)

theorem putE_new {l : Ents} {k : ByteArray} (v : Value) (h : ∀ p ∈ l, p.1 ≠ k) : putE l k v = l ++ [(k, v)] := by
  unfold putE
  rw [if_neg]
  intro ha
  obtain ⟨p, hp, hk⟩ := List.any_eq_true.1 ha
  exact h p hp (by simpa using hk)

theorem putE_old {l : Ents} {k : ByteArray} (v : Value) {j : Nat} {p : ByteArray × Value} (hn : (l.map Prod.fst).Nodup) (hj : l[j]? = some p) (hk : p.1 = k) : putE l k v = l.set j (k, v) := by
  unfold putE
  have hm : p ∈ l := List.mem_of_getElem? hj
  rw [if_pos (List.any_eq_true.2 ⟨p, hm, by simpa using hk⟩)]
  refine List.ext_getElem? (fun i => ?_)
  rw [List.getElem?_map, List.getElem?_set]
  by_cases hi : j = i
  · subst hi
    have hlt : j < l.length := (List.getElem?_eq_some_iff.1 hj).1
    rw [hj, if_pos rfl, if_pos hlt]
    simp [hk]
  · rw [if_neg hi]
    cases hl : l[i]? with
    | none => rfl
    | some q =>
      have hne : q.1 ≠ k := by
        intro e
        have hli : i < l.length := (List.getElem?_eq_some_iff.1 hl).1
        have hlj : j < l.length := (List.getElem?_eq_some_iff.1 hj).1
        have h1 : (l.map Prod.fst)[i]? = (l.map Prod.fst)[j]? := by
          rw [List.getElem?_map, List.getElem?_map, hl, hj]
          simp [e, hk]
        exact hi ((List.getElem?_inj (by simpa using hli) hn).1 h1).symm
      simp [hne]

theorem getE_put_same (l : Ents) (k : ByteArray) (v : Value) : getE (putE l k v) k = some v := by
  unfold putE
  split
  · rename_i h
    obtain ⟨p, hp, hk⟩ := List.any_eq_true.1 h
    induction l with
    | nil => simp at hp
    | cons a r ih =>
      by_cases ha : a.1 = k
      · simp [getE, ha]
      · rcases List.mem_cons.1 hp with rfl | hp'
        · exact absurd (by simpa using hk) ha
        · have h' : r.any (fun p => decide (p.1 = k)) = true := List.any_eq_true.2 ⟨p, hp', hk⟩
          have := ih h' hp'
          unfold getE at this ⊢
          rw [List.map_cons, if_neg ha, List.find?_cons_of_neg (by simpa using ha)]
          exact this
  · rename_i h
    have h' : ∀ x ∈ l, ¬ decide (x.1 = k) = true := fun x hx hd => h (List.any_eq_true.2 ⟨x, hx, hd⟩)
    unfold getE
    rw [List.find?_append, List.find?_eq_none.2 h']
    simp

theorem getE_put_other (l : Ents) {k j : ByteArray} (v : Value) (hne : j ≠ k) : getE (putE l k v) j = getE l j := by
  unfold putE
  split
  · unfold getE
    induction l with
    | nil => rfl
    | cons a r ih =>
      rw [List.map_cons]
      by_cases ha : a.1 = k
      · have haj : a.1 ≠ j := fun e => hne (e.symm.trans ha)
        rw [if_pos ha, List.find?_cons_of_neg (by simpa using Ne.symm hne), List.find?_cons_of_neg (by simpa using haj)]
        by_cases hr : r.any (fun p => decide (p.1 = k)) = true
        · exact ih hr
        · have : r.map (fun p => if p.1 = k then (k, v) else p) = r := by
            refine (List.map_congr_left (fun x hx => ?_)).trans (List.map_id r)
            have : ¬ x.1 = k := fun e => hr (List.any_eq_true.2 ⟨x, hx, by simpa using e⟩)
            simp [this]
          rw [this]
      · rename_i h
        rw [if_neg ha]
        by_cases haj : a.1 = j
        · rw [List.find?_cons_of_pos (by simpa using haj), List.find?_cons_of_pos (by simpa using haj)]
        · rw [List.find?_cons_of_neg (by simpa using haj), List.find?_cons_of_neg (by simpa using haj)]
          refine ih ?_
          simpa [ha] using h
  · unfold getE
    rw [List.find?_append]
    cases List.find? (fun p => decide (p.1 = j)) l with
    | some q => rfl
    | none => simp [Ne.symm hne]

theorem fst_putE_old {l : Ents} {k : ByteArray} (v : Value) (h : k ∈ l.map Prod.fst) : (putE l k v).map Prod.fst = l.map Prod.fst := by
  unfold putE
  rw [if_pos (by obtain ⟨p, hp, hk⟩ := List.mem_map.1 h; exact List.any_eq_true.2 ⟨p, hp, by simpa using hk⟩), List.map_map]
  refine List.map_congr_left (fun x _ => ?_)
  simp only [Function.comp]
  split
  · rename_i e; exact e.symm
  · rfl
theorem fst_putE_new {l : Ents} {k : ByteArray} (v : Value) (h : k ∉ l.map Prod.fst) : (putE l k v).map Prod.fst = l.map Prod.fst ++ [k] := by
  rw [putE_new v (fun p hp e => h (List.mem_map.2 ⟨p, hp, e⟩))]
  simp
theorem mem_fst_putE {l : Ents} {k j : ByteArray} {v : Value} : j ∈ (putE l k v).map Prod.fst ↔ j ∈ l.map Prod.fst ∨ j = k := by
  by_cases h : k ∈ l.map Prod.fst
  · rw [fst_putE_old v h]
    constructor
    · exact .inl
    · rintro (h1 | rfl)
      · exact h1
      · exact h
  · rw [fst_putE_new v h]
    simp

theorem length_putE_le (l : Ents) (k : ByteArray) (v : Value) : (putE l k v).length ≤ l.length + 1 := by
  unfold putE
  split <;> simp

theorem mem_delE {l : Ents} {k : ByteArray} {p : ByteArray × Value} : p ∈ delE l k ↔ p ∈ l ∧ p.1 ≠ k := by
  simp [delE]

/-! ### what the model's operations do -/
section
variable {P : Program} {w : World} {b : Nat} {l : Ents} {t K E : TypeId}

theorem size_setBlock (w : World) (b : Nat) (o : Obj) : (setBlock w b o).heap.size = w.heap.size := by simp [setBlock]
theorem heap_setBlock (w : World) (b : Nat) (o : Obj) (h : b < w.heap.size) : (setBlock w b o).heap[b]? = some o := by simp [setBlock, h]
theorem heap_setBlock_ne (w : World) {b k : Nat} (o : Obj) (h : k ≠ b) : (setBlock w b o).heap[k]? = w.heap[k]? := by
  simp [setBlock, Array.getElem?_setIfInBounds_ne (Ne.symm h)]

theorem grown_setBlock (w : World) (b : Nat) (o : Obj) : w.grownBy (setBlock w b o) (some b) :=
  ⟨rfl, rfl, rfl, by simp [setBlock], fun k _ hne => heap_setBlock_ne w o (fun e => hne (by rw [e]))⟩

theorem find_cases (hK : P.underlying K = some .string) (w : World) {es : Array MapEntry} (hkv : es.toList.map kvE = l.map encE) (k : ByteArray) :
    ((Instr.findKey K (.string k) es.toList).run P w = .ok none w ∧ ∀ p ∈ l, p.1 ≠ k) ∨ ∃ j e p, (Instr.findKey K (.string k) es.toList).run P w = .ok (some (j, e.val)) w ∧ es[j]? = some e ∧ l[j]? = some p ∧ p.1 = k ∧ e.key = .string k ∧ e.val = p.2 := by
  have hks : ∀ y ∈ es.toList, IsKey .string y.key := fun y hy => by
    obtain ⟨p, _, hp, _⟩ := kv_mem' hkv hy
    rw [hp]
    exact trivial
  rcases findNow_spec (d := .string) (k := .string k) trivial es.toList 0 hks with ⟨h1, h2⟩ | ⟨j, e0, h1, h2, h3⟩
  · refine .inl ⟨run_findKey hK h1, fun p hp e => ?_⟩
    obtain ⟨y, hy, hyk, _⟩ := kv_mem hkv hp
    exact h2 y hy (by rw [hyk, e])
  · have he : es[j]? = some e0 := by simpa using h2
    obtain ⟨p, hp, hpk, hpv⟩ := kv_get hkv he
    refine .inr ⟨j, e0, p, by simpa using run_findKey hK h1, he, hp, ?_, h3, hpv⟩
    rw [hpk] at h3
    injection h3

/-- 'm[k]', with ok and without. -/
theorem MapAt.lookup (h : MapAt w b l) (ht : P.underlying t = some (.map K E)) (hK : P.underlying K = some .string) {z : Value} (hz : (zeroValue E).run P w = .ok z w) (k : ByteArray) (c : Bool) :
    (Instr.lookup t (.map (some b)) (.string k) c).run P w = .ok (if c then .tuple #[(getE l k).getD z, .bool (getE l k).isSome] else (getE l k).getD z) w := by
  have hn := h.nodup
  obtain ⟨es, clock, hb, hs, hkv, _⟩ := h
  rcases find_cases hK w hkv k with ⟨h1, h2⟩ | ⟨j, e, p, h1, he, hp, hpk, hek, hev⟩
  · rw [getE_none h2]
    simp [Instr.lookup, run_underlying ht, MapKept.run_getObj_map hb, run_checkKey (k := .string k) hK trivial, h1, hz, Result.andThen]
  · rw [getE_some hn hp hpk]
    simp [Instr.lookup, run_underlying ht, MapKept.run_getObj_map hb, run_checkKey (k := .string k) hK trivial, h1, hev, Result.andThen]

/-- 'm[k] = v'. -/
theorem MapAt.update (h : MapAt w b l) (ht : P.underlying t = some (.map K E)) (hK : P.underlying K = some .string) (k : ByteArray) (hk : k.size ≤ maxLen) (v : Value) :
    ∃ w', (Instr.mapUpdate t (.map (some b)) (.string k) v).run P w = .ok () w' ∧ MapAt w' b (putE l k v) ∧ w.grownBy w' (some b) ∧ w'.heap.size = w.heap.size := by
  have hn := h.nodup
  have hlt := h.lt
  obtain ⟨es, clock, hb, hs, hkv, hsz⟩ := h
  rcases find_cases hK w hkv k with ⟨h1, h2⟩ | ⟨j, e, p, h1, he, hp, hpk, hek, hev⟩
  · refine ⟨setBlock w b (.map (es.push ⟨.string k, v, clock⟩) (clock + 1)), ?_, ⟨_, _, heap_setBlock _ _ _ hlt, stamped_push hs (fun x hx => ?_), ?_, ?_⟩, grown_setBlock _ _ _, size_setBlock _ _ _⟩
    · simp [Instr.mapUpdate, run_underlying ht, MapKept.run_getObj_map hb, run_checkKey (k := .string k) hK trivial, h1, MapKept.run_setObj_map _ hb, Result.andThen, setBlock]
    · obtain ⟨p, hp, hpk, _⟩ := kv_mem' hkv hx
      rw [hpk]
      intro e
      injection e with e
      exact h2 p hp e
    · rw [putE_new v h2]
      simp [hkv, kvE, encE]
    · rw [putE_new v h2]
      intro p hp
      rcases List.mem_append.1 hp with hp | hp
      · exact hsz p hp
      · rw [List.mem_singleton.1 hp]; exact hk
  · have hjl : j < es.toList.length := by simpa using (Array.getElem?_eq_some_iff.1 he).1
    have hlist : (es.modify j (fun e' => { e' with key := .string k, val := v })).toList = es.toList.set j { e with key := .string k, val := v } := by
      rw [Array.toList_modify, Go.ChangeMaps.modify_eq_set _ _ _ _ (by simpa using he)]
    refine ⟨setBlock w b (.map (es.modify j (fun e' => { e' with key := .string k, val := v })) clock), ?_, ⟨_, _, heap_setBlock _ _ _ hlt, stamped_modify hs _ _ (fun _ _ => rfl) (fun e' _ he' => ?_), ?_, ?_⟩, grown_setBlock _ _ _, size_setBlock _ _ _⟩
    · simp [Instr.mapUpdate, run_underlying ht, MapKept.run_getObj_map hb, run_checkKey (k := .string k) hK trivial, h1, he, hek, run_keyThatStays (d := .string) (k := .string k) trivial, MapKept.run_setObj_map _ hb, Result.andThen, setBlock]
    · rw [he] at he'; cases he'; exact hek.symm
    · rw [putE_old v hn hp hpk, hlist, List.map_set, hkv, List.map_set]
      rfl
    · rw [putE_old v hn hp hpk]
      intro q hq
      rcases List.mem_or_eq_of_mem_set hq with hq | rfl
      · exact hsz q hq
      · exact hk

/-- 'delete(m, k)'. -/
theorem MapAt.delete (h : MapAt w b l) (ht : P.underlying t = some (.map K E)) (hK : P.underlying K = some .string) (k : ByteArray) (ty : TypeId) :
    ∃ w', (Builtin.delete_ #[t, K] ty #[.map (some b), .string k]).run P w = .ok (.tuple #[]) w' ∧ MapAt w' b (delE l k) ∧ w.grownBy w' (some b) ∧ w'.heap.size = w.heap.size := by
  have hn := h.nodup
  have hlt := h.lt
  obtain ⟨es, clock, hb, hs, hkv, hsz⟩ := h
  rcases find_cases hK w hkv k with ⟨h1, h2⟩ | ⟨j, e, p, h1, he, hp, hpk, hek, hev⟩
  · have hd : delE l k = l := List.filter_eq_self.2 (fun p hp => by simpa using h2 p hp)
    refine ⟨setBlock w b (.map es clock), ?_, ⟨_, _, heap_setBlock _ _ _ hlt, hs, by rw [hd]; exact hkv, by rw [hd]; exact hsz⟩, grown_setBlock _ _ _, size_setBlock _ _ _⟩
    simp [Builtin.delete_, run_underlying ht, MapKept.run_getObj_map hb, run_checkKey (k := .string k) hK trivial, h1, MapKept.run_setObj_map _ hb, Result.andThen, setBlock]
  · have hd0 := Go.ChangeMaps.filter_eq_eraseIdx (fun q : ByteArray × Value => decide (q.1 = k)) l j p hp (by simpa using hpk) (by
      have h1 : l.Pairwise (fun a b => a.1 ≠ b.1) := List.pairwise_map.1 hn
      exact h1.imp (fun h ⟨h2, h3⟩ => h ((of_decide_eq_true h2).trans (of_decide_eq_true h3).symm)))
    have hd : delE l k = l.eraseIdx j := by
      rw [← hd0]
      unfold delE
      exact List.filter_congr (fun x _ => by simp)
    have hjs : j < es.size := (Array.getElem?_eq_some_iff.1 he).1
    have hsub : (es.eraseIdxIfInBounds j).toList = es.toList.eraseIdx j := by
      unfold Array.eraseIdxIfInBounds
      rw [dif_pos hjs]
      simp
    refine ⟨setBlock w b (.map (es.eraseIdxIfInBounds j) clock), ?_, ⟨_, _, heap_setBlock _ _ _ hlt, stamped_erase hs j, ?_, fun q hq => hsz q (mem_delE.1 hq).1⟩, grown_setBlock _ _ _, size_setBlock _ _ _⟩
    · simp [Builtin.delete_, run_underlying ht, MapKept.run_getObj_map hb, run_checkKey (k := .string k) hK trivial, h1, MapKept.run_setObj_map _ hb, Result.andThen, setBlock]
    · rw [hd, hsub, Go.ChangeMaps.map_eraseIdx, Go.ChangeMaps.map_eraseIdx, hkv]

/-- 'len(m)'. -/
theorem MapAt.len (h : MapAt w b l) (ht : P.underlying t = some (.map K E)) (ty : TypeId) : (Builtin.len_ #[t] ty #[.map (some b)]).run P w = .ok (.int .i64 l.length) w := by
  obtain ⟨es, clock, hb, hs, hkv, hsz⟩ := h
  simp [Builtin.len_, run_underlying ht, MapKept.run_getObj_map hb, Result.andThen, goInt, kv_len hkv]

/-- A map that has just been made. -/
theorem MapAt.made (w : World) : MapAt (w.alloc (.map #[] 0)) w.heap.size [] :=
  ⟨#[], 0, (MapKept.heap_alloc w _).1, (stamped_iff _ _).2 ⟨by simp, by simp, by simp⟩, rfl, by simp⟩
end

/-! ### ranging -/
/-- Block r is an iterator over the map of block b, whose entries are l; those of 'left' are still to come. -/
def IterAt (w : World) (b r : Nat) (l left : Ents) : Prop :=
  ∃ es clock since seen c0, w.heap[b]? = some (.map es clock) ∧ Stamped es clock ∧ es.toList.map kvE = l.map encE ∧ (∀ p ∈ l, p.1.size ≤ maxLen) ∧
    w.heap[r]? = some (.mapIter (some b) since seen c0) ∧ (∀ x ∈ es.toList, x.born < since) ∧ since ≤ c0 ∧ since ≤ clock ∧ (leftOf es seen).toList.map kvE = left.map encE

theorem IterAt.map {w : World} {b r : Nat} {l left : Ents} (h : IterAt w b r l left) : MapAt w b l := by
  obtain ⟨es, clock, since, seen, c0, hb, hs, hkv, hsz, _⟩ := h
  exact ⟨es, clock, hb, hs, hkv, hsz⟩
theorem IterAt.ne {w : World} {b r : Nat} {l left : Ents} (h : IterAt w b r l left) : r ≠ b := by
  obtain ⟨es, clock, since, seen, c0, hb, _, _, _, hr, _⟩ := h
  intro e
  rw [e, hb] at hr
  cases hr
theorem IterAt.lt {w : World} {b r : Nat} {l left : Ents} (h : IterAt w b r l left) : r < w.heap.size := by
  obtain ⟨es, clock, since, seen, c0, hb, _, _, _, hr, _⟩ := h
  exact (Array.getElem?_eq_some_iff.1 hr).1
theorem IterAt.same {w w' : World} {b r : Nat} {l left : Ents} (h : IterAt w b r l left) (hb' : w'.heap[b]? = w.heap[b]?) (hr' : w'.heap[r]? = w.heap[r]?) : IterAt w' b r l left := by
  obtain ⟨es, clock, since, seen, c0, hb, hs, hkv, hsz, hr, rest⟩ := h
  exact ⟨es, clock, since, seen, c0, hb'.trans hb, hs, hkv, hsz, hr'.trans hr, rest⟩
theorem IterAt.sub {w : World} {b r : Nat} {l left : Ents} (h : IterAt w b r l left) {p : ByteArray × Value} (hp : p ∈ left) : p ∈ l := by
  obtain ⟨es, clock, since, seen, c0, hb, hs, hkv, hsz, hr, h1, h2, h3, hl⟩ := h
  obtain ⟨e, he, hk, hv⟩ := kv_mem hl hp
  have hm : e ∈ es.toList := by unfold leftOf at he; simp at he ⊢; exact he.1
  obtain ⟨q, hq, hqk, hqv⟩ := kv_mem' hkv hm
  have : q = p := by
    refine Prod.ext ?_ ?_
    · rw [hqk] at hk; injection hk
    · rw [← hqv, hv]
  exact this ▸ hq

section
variable {P : Program} {w : World} {b r : Nat} {l left : Ents} {t K E : TypeId}

theorem MapAt.range (h : MapAt w b l) (ht : P.underlying t = some (.map K E)) :
    ∃ w', (Instr.range t (.map (some b))).run P w = .ok (.pointer (some ⟨w.heap.size, 0, none⟩)) w' ∧ IterAt w' b w.heap.size l l ∧ w.grownBy w' none ∧ w'.heap.size = w.heap.size + 1 := by
  have hlt := h.lt
  obtain ⟨es, clock, hb, hs, hkv, hsz⟩ := h
  refine ⟨_, run_range_map w t K E b es clock ht hb, ⟨es, clock, clock, #[], clock, ((MapKept.heap_alloc w _).2 b hlt).trans hb, hs, hkv, hsz, (MapKept.heap_alloc w _).1, ((stamped_iff es clock).1 hs).1, Nat.le_refl _, Nat.le_refl _, ?_⟩, World.grownBy_alloc w _ none, by simp⟩
  have : leftOf es #[] = es := by unfold leftOf; simp
  rw [this]
  exact hkv

def keyNe (k : ByteArray) : Value → Bool
  | .string s => decide (s ≠ k)
  | _ => true
theorem leftOf_push (es : Array MapEntry) (seen : Array Nat) (e : MapEntry) : (leftOf es (seen.push e.born)).toList = (leftOf es seen).toList.filter (fun x => decide (x.born ≠ e.born)) := by
  unfold leftOf
  simp only [Array.toList_filter, List.filter_filter]
  refine List.filter_congr (fun x _ => ?_)
  rw [contains_push]
  cases seen.contains x.born <;> by_cases hb : x.born = e.born <;> simp [hb]

/-- The step. -/
theorem IterAt.next (h : IterAt w b r l left) (ty : TypeId) :
    (left = [] ∧ (Instr.next (.pointer (some ⟨r, 0, none⟩)) false ty).run P w = .ok (.tuple #[.bool false]) w) ∨
    ∃ p w', p ∈ left ∧ (Instr.next (.pointer (some ⟨r, 0, none⟩)) false ty).run P w = .ok (.tuple #[.bool true, .string p.1, p.2]) w' ∧
      IterAt w' b r l (delE left p.1) ∧ w.grownBy w' (some r) ∧ w'.heap.size = w.heap.size ∧ (Instr.entry (.pointer (some ⟨r, 0, none⟩))).run P w' = .ok (.tuple #[.string p.1, p.2]) w' := by
  have hne := h.ne
  obtain ⟨es, clock, since, seen, c0, hb, hs, hkv, hsz, hr, hold, hsc, hsk, hl⟩ := h
  have hst := (stamped_iff es clock).1 hs
  rcases run_next_at (P := P) w ty r b since c0 seen es clock hr hb hold hsc with ⟨h0, hrun⟩ | ⟨e, he, w1, hal, hrun⟩
  · refine .inl ⟨?_, hrun⟩
    have := kv_len hl
    rw [h0] at this
    exact List.eq_nil_of_length_eq_zero this.symm
  · obtain ⟨hem, hes⟩ := mem_left he
    obtain ⟨p, hp, hpk, hpv⟩ := kv_mem' hl he
    have hr1 : w1.heap[r]? = some (.mapIter (some b) since seen c0) := by rcases hal with rfl | rfl <;> exact hr
    have hb1 : w1.heap[b]? = some (.map es clock) := by rcases hal with rfl | rfl <;> exact hb
    have hset := MapKept.heap_set (o' := .mapIter (some b) since (seen.push e.born) clock) hr1
    have hb' : (setBlock w1 r (.mapIter (some b) since (seen.push e.born) clock)).heap[b]? = some (.map es clock) := (hset.2 b (fun e1 => hne e1.symm)).trans hb1
    have hent := run_entry_at (P := P) _ r b since seen es clock e hset.1 hb' hem hst.2.1
    rw [hpk, hpv] at hrun hent
    refine .inr ⟨p, _, hp, hrun, ⟨es, clock, since, seen.push e.born, clock, hb', hs, hkv, hsz, hset.1, hold, hsk, hsk, ?_⟩, ?_, ?_, hent⟩
    · rw [leftOf_push]
      have hkk : ∀ x ∈ (leftOf es seen).toList, decide (x.born ≠ e.born) = keyNe p.1 x.key := by
        intro x hx
        have hxm := (mem_left hx).1
        obtain ⟨q, _, hqk, _⟩ := kv_mem' hl hx
        rw [hqk]
        unfold keyNe
        by_cases hbe : x.born = e.born
        · have := born_inj hst.2.1 hxm hem hbe
          rw [this, hpk] at hqk
          injection hqk with hq
          simp [hbe, hq]
        · have : q.1 ≠ p.1 := fun e1 => hbe (congrArg MapEntry.born (entry_eq_of_key hst.2.2 hxm hem (by rw [hqk, hpk, e1])))
          simp [hbe, this]
      rw [List.filter_congr hkk]
      have h3 : (List.filter (fun x => keyNe p.1 x.key) (leftOf es seen).toList).map kvE = ((leftOf es seen).toList.map kvE).filter (fun y => keyNe p.1 y.1) := by
        rw [List.filter_map]
        rfl
      rw [h3, hl, List.filter_map]
      rfl
    · rcases hal with rfl | rfl <;> exact ⟨rfl, rfl, rfl, by simp [setBlock], fun i _ hi => hset.2 i (fun e1 => hi (by rw [e1]))⟩
    · rcases hal with rfl | rfl <;> simp [setBlock]
end
end Go.Proofs.Ytpmeefdegcllkaa
