/- Rising lists of texts; the contract of the program's 'sorted' at each of its three instances: the keys of a map, rising. -/
import Derived.Test.YtlccejbomgknkaaGBase
import Derived.Test.YtlccejbomgknkaaIter
import Derived.Test.YtlccejbomgknkaaWWords
namespace Go.Proofs.Ytlccejbomgknkaa
open Go.RowKit Go.Maps Go.Proofs.YtlccejbomgknkaaW.PrintWords
open Go.WideElems (Fit rd rg rg_of rd_mk)

def bs (s : ByteArray) : List UInt8 := s.data.toList
theorem bs_inj {a b : ByteArray} (h : bs a = bs b) : a = b := Go.WideShapes.bytes_inj h
/-- Texts in rising order, each once. -/
def Rise (r : List ByteArray) : Prop := r.Pairwise (fun a b => bs a < bs b)

theorem rise_nodup {r : List ByteArray} (h : Rise r) : r.Nodup := by
  refine List.Pairwise.imp ?_ h
  intro a b hab e
  rw [e] at hab
  exact List.lt_irrefl _ hab

theorem rise_ext {r s : List ByteArray} (hr : Rise r) (hs : Rise s) (h : ∀ x, x ∈ r ↔ x ∈ s) : r = s := by
  have hp : r.Perm s := (List.perm_ext_iff_of_nodup (rise_nodup hr) (rise_nodup hs)).2 h
  refine hp.eq_of_pairwise (le := fun a b => bs a < bs b) ?_ hr hs
  intro a b _ _ h1 h2
  exact absurd (List.lt_trans h1 h2) (List.lt_irrefl _)

theorem nodup_len {α : Type} : ∀ {s N : List α}, s.Nodup → (∀ x, x ∈ s → x ∈ N) → s.length ≤ N.length
  | [], N, _, _ => by simp
  | a :: t, N, hn, hs => by
    rw [List.nodup_cons] at hn
    obtain ⟨l1, l2, rfl⟩ := List.append_of_mem (hs a (by simp))
    have := nodup_len (N := l1 ++ l2) hn.2 (fun x hx => by
      have h1 := hs x (by simp [hx])
      simp only [List.mem_append, List.mem_cons] at h1 ⊢
      rcases h1 with h1 | rfl | h1
      · exact .inl h1
      · exact absurd hx hn.1
      · exact .inr h1)
    simp only [List.length_append, List.length_cons] at this ⊢
    omega
/-- The sorted list of different texts rises. -/
theorem rise_of_sort {ss : List (List UInt8)} (hn : ss.Nodup) : Rise ((ss.mergeSort (fun x y => decide (x ≤ y))).map (fun x => (⟨x.toArray⟩ : ByteArray))) := by
  have hp : (ss.mergeSort (fun x y => decide (x ≤ y))).Pairwise (fun a b => decide (a ≤ b) = true) := by
    refine List.pairwise_mergeSort (le := fun x y : List UInt8 => decide (x ≤ y)) ?_ ?_ ss
    · intro a b c h1 h2
      simp only [decide_eq_true_eq] at *
      exact List.le_trans h1 h2
    · intro a b
      simp only [Bool.or_eq_true, decide_eq_true_eq]
      exact List.le_total a b
  have hn' : (ss.mergeSort (fun x y => decide (x ≤ y))).Nodup := (List.mergeSort_perm ss _).nodup_iff.2 hn
  unfold Rise
  rw [List.pairwise_map]
  refine (hp.and hn').imp ?_
  rintro a b ⟨h1, h2⟩
  simp only [decide_eq_true_eq] at h1
  simp only [bs]
  rcases List.le_total b a with h3 | h3
  · exact absurd (List.le_antisymm h1 h3) h2
  · exact Decidable.byContradiction fun hlt => h2 (List.le_antisymm h1 (List.not_lt.1 hlt))

/-- The keys of a map told by its entries, as the shelf's contract wants it: no word on what stands at them. -/
def rdNil (_ : Value) : Option (DataW Unit × List MemPlace) := some (.nil, [])
theorem ownsMap_of_at {w : World} {b : Nat} {l : Ents} (h : MapAt w b l) (hl : l.length ≤ maxLen) :
    ∃ D : DataW Unit, w.ownsMap Try.prog 9 rdNil b l.length D ∧ Maps.size D = l.length ∧ (strKeys D).Perm (l.map (fun p => bs p.1)) := by
  obtain ⟨es, clock, hb, hs, hkv, hsz⟩ := h
  have hlen := kv_len hkv
  have hrd : ∀ x ∈ es.toList, ∃ p ∈ l, x.key = .string p.1 ∧ rd Try.prog 9 rdNil x = some (.string (bs p.1), .nil) := by
    intro x hx
    obtain ⟨p, hp, hpk, _⟩ := kv_mem' hkv hx
    refine ⟨p, hp, hpk, ?_⟩
    have := rd_mk (P := Try.prog) (k := 9) (R := rdNil) (key := x.key) (val := x.val) (born := x.born) (by rw [hpk]; exact Go.WideMaps.keyOf_string_mk Try.underlying9 (hsz p hp)) rfl
    exact this
  refine ⟨_, ⟨es, clock, hb, ⟨by rw [hlen]; exact hl, hs, fun x hx => by obtain ⟨_, _, _, h⟩ := hrd x hx; exact ⟨_, h⟩⟩, by rw [hlen]; exact Nat.le_refl _, rfl⟩, ?_, ?_⟩
  · have hp := (Go.WideShapes.sorted_perm (es.toList.map (rg Try.prog 9 rdNil))).length_eq
    show List.length _ = _
    rw [hp, List.length_map, Array.length_toList, hlen]
  · have hp := (Go.WideShapes.sorted_perm (es.toList.map (rg Try.prog 9 rdNil))).map (fun p => strOf p.1)
    refine hp.trans ?_
    rw [List.map_map]
    have h1 : es.toList.map ((fun p => strOf p.1) ∘ rg Try.prog 9 rdNil) = es.toList.map (fun x => match x.key with | .string s => bs s | _ => []) := by
      refine List.map_congr_left (fun x hx => ?_)
      obtain ⟨p, _, hpk, hr⟩ := hrd x hx
      simp only [Function.comp, rg_of hr, strOf, hpk]
    have h2 : es.toList.map (fun x => match x.key with | .string s => bs s | _ => []) = l.map (fun p => bs p.1) := by
      have h3 := congrArg (List.map (fun (y : Value × Value) => match y.1 with | .string s => bs s | _ => [])) hkv
      rw [List.map_map, List.map_map] at h3
      exact h3
    rw [h1, h2]

theorem sorted_result {w' : World} {l : Ents} {D : DataW Unit} {v : Value} {ss : List (List UInt8)} {base : Nat} (hn : (l.map Prod.fst).Nodup) (hk : (strKeys D).Perm (l.map (fun p => bs p.1))) (hS : ss.Perm (strKeys D))
    (hrow : w'.ownsRow base 9 1 v ss.length ((ss.mergeSort (fun x y => decide (x ≤ y))).map encStr)) :
    ∃ r : List ByteArray, Rise r ∧ (∀ x, x ∈ r ↔ x ∈ l.map Prod.fst) ∧ Kd.R Kd.string 9 w' base (fun _ => True) v r := by
  have hp := hS.trans hk
  have hnd : ss.Nodup := by
    rw [hp.nodup_iff]
    have h1 : l.map (fun p => bs p.1) = (l.map Prod.fst).map bs := by rw [List.map_map]; rfl
    rw [h1, List.Nodup, List.pairwise_map]
    exact hn.imp (fun h e => h (bs_inj e))
  refine ⟨(ss.mergeSort (fun x y => decide (x ≤ y))).map (fun x => (⟨x.toArray⟩ : ByteArray)), rise_of_sort hnd, fun x => ?_, ?_⟩
  · rw [List.mem_map]
    constructor
    · rintro ⟨y, hy, rfl⟩
      have := hp.mem_iff.1 ((List.mergeSort_perm ss _).mem_iff.1 hy)
      obtain ⟨p, hp', hpe⟩ := List.mem_map.1 this
      refine List.mem_map.2 ⟨p, hp', bs_inj ?_⟩
      rw [hpe]
      simp [bs]
    · intro hx
      obtain ⟨p, hp', rfl⟩ := List.mem_map.1 hx
      refine ⟨bs p.1, (List.mergeSort_perm ss _).mem_iff.2 (hp.mem_iff.2 (List.mem_map.2 ⟨p, hp', rfl⟩)), bs_inj ?_⟩
      simp [bs]
  · refine Kd.R_of_own (enc := Value.string) (h1 := fun _ => rfl) ?_ (fun _ _ => trivial)
    have e1 : encs Value.string ((ss.mergeSort (fun x y => decide (x ≤ y))).map (fun x => (⟨x.toArray⟩ : ByteArray))) = (ss.mergeSort (fun x y => decide (x ≤ y))).map encStr := by
      unfold encs
      rw [List.map_map]
      rfl
    rw [e1, List.length_map, (List.mergeSort_perm ss _).length_eq]
    exact hrow

/-- What 'sorted' hands back: the keys, rising. -/
def Listed (w : World) (S : ByteArray → Prop) (e : Ending) (w' : World) : Prop :=
  ∃ (v : Value) (r : List ByteArray), e = .returned v ∧ Rise r ∧ (∀ x, x ∈ r ↔ S x) ∧ Kd.R Kd.string 9 w' w.heap.size (fun _ => True) v r ∧ Below w.heap.size w w'
open Go.Sort Go.Shelf in
set_option maxHeartbeats 1000000 in
theorem sorted44 {w : World} {b : Nat} {l : Ents} (h : MapAt w b l) (hl : l.length ≤ 1000000) :
    Calls Try.prog 44 #[.map (some b)] w (Listed w (fun x => x ∈ l.map Prod.fst)) := by
  obtain ⟨D0, hown, hsize, hkeys⟩ := ownsMap_of_at h (by unfold maxLen; omega)
  have hnd := h.nodup
  have hmax : Maps.size D0 ≤ maxLen := by rw [hsize]; unfold maxLen; omega
  have hbytes : Maps.size D0 * 16 ≤ 140737488355328 := by rw [hsize]; omega
  refine (callsIn_wide (n := 6)).1 ?_
  have hfK : Fence.wide.fn 54 := trivial
  have hfS : Fence.wide.fn 53 := trivial
  refine callsIn_of_wp Try.func44 rfl trivial ?_ rfl
  simp only [Try.ntmps44, List.size_toArray, List.length_cons, List.length_nil, Nat.reduceAdd, Nat.reduceSub, Array.replicate_succ, Array.replicate_zero, List.push_toArray, List.append_toArray, List.nil_append, List.cons_append]
  have H1 := Lib.hid hkeys
  have H2 := Lib.hid hnd
  clear hkeys hnd hsize
  gi_wp2_with (first
    | (gi_at_call 54; refine (Try.maps_Keys_54 _ _).mono ?_; rintro e w' ⟨rfl, rfl⟩)
    | (gi_at_call 53; refine (Try.slices_Sorted_keys_53_54 b l.length D0 rdNil w hown hmax hbytes).mono ?_; rintro e w' ⟨v, ss, rfl, hS, hrow, hnil, hb⟩))
  go_ret
  obtain ⟨r, r1, r2, r3⟩ := sorted_result H2.out H1.out hS (ownsRow_base_a hrow (base' := w.heap.size) (by simp))
  exact ⟨v, r, rfl, r1, r2, r3, ((Below.refl _ w).alloc (Nat.le_refl _) _).trans (hb.mono (by simp))⟩
open Go.Sort Go.Shelf in
set_option maxHeartbeats 1000000 in
theorem sorted46 {w : World} {b : Nat} {l : Ents} (h : MapAt w b l) (hl : l.length ≤ 1000000) :
    Calls Try.prog 46 #[.map (some b)] w (Listed w (fun x => x ∈ l.map Prod.fst)) := by
  obtain ⟨D0, hown, hsize, hkeys⟩ := ownsMap_of_at h (by unfold maxLen; omega)
  have hnd := h.nodup
  have hmax : Maps.size D0 ≤ maxLen := by rw [hsize]; unfold maxLen; omega
  have hbytes : Maps.size D0 * 16 ≤ 140737488355328 := by rw [hsize]; omega
  refine (callsIn_wide (n := 6)).1 ?_
  have hfK : Fence.wide.fn 55 := trivial
  have hfS : Fence.wide.fn 53 := trivial
  refine callsIn_of_wp Try.func46 rfl trivial ?_ rfl
  simp only [Try.ntmps46, List.size_toArray, List.length_cons, List.length_nil, Nat.reduceAdd, Nat.reduceSub, Array.replicate_succ, Array.replicate_zero, List.push_toArray, List.append_toArray, List.nil_append, List.cons_append]
  have H1 := Lib.hid hkeys
  have H2 := Lib.hid hnd
  clear hkeys hnd hsize
  gi_wp2_with (first
    | (gi_at_call 55; refine (Try.maps_Keys_55 _ _).mono ?_; rintro e w' ⟨rfl, rfl⟩)
    | (gi_at_call 53; refine (Try.slices_Sorted_keys_53_55 b l.length D0 rdNil w hown hmax hbytes).mono ?_; rintro e w' ⟨v, ss, rfl, hS, hrow, hnil, hb⟩))
  go_ret
  obtain ⟨r, r1, r2, r3⟩ := sorted_result H2.out H1.out hS (ownsRow_base_a hrow (base' := w.heap.size) (by simp))
  exact ⟨v, r, rfl, r1, r2, r3, ((Below.refl _ w).alloc (Nat.le_refl _) _).trans (hb.mono (by simp))⟩
open Go.Sort Go.Shelf in
set_option maxHeartbeats 1000000 in
theorem sorted47 {w : World} {b : Nat} {l : Ents} (h : MapAt w b l) (hl : l.length ≤ 1000000) :
    Calls Try.prog 47 #[.map (some b)] w (Listed w (fun x => x ∈ l.map Prod.fst)) := by
  obtain ⟨D0, hown, hsize, hkeys⟩ := ownsMap_of_at h (by unfold maxLen; omega)
  have hnd := h.nodup
  have hmax : Maps.size D0 ≤ maxLen := by rw [hsize]; unfold maxLen; omega
  have hbytes : Maps.size D0 * 16 ≤ 140737488355328 := by rw [hsize]; omega
  refine (callsIn_wide (n := 6)).1 ?_
  have hfK : Fence.wide.fn 56 := trivial
  have hfS : Fence.wide.fn 53 := trivial
  refine callsIn_of_wp Try.func47 rfl trivial ?_ rfl
  simp only [Try.ntmps47, List.size_toArray, List.length_cons, List.length_nil, Nat.reduceAdd, Nat.reduceSub, Array.replicate_succ, Array.replicate_zero, List.push_toArray, List.append_toArray, List.nil_append, List.cons_append]
  have H1 := Lib.hid hkeys
  have H2 := Lib.hid hnd
  clear hkeys hnd hsize
  gi_wp2_with (first
    | (gi_at_call 56; refine (Try.maps_Keys_56 _ _).mono ?_; rintro e w' ⟨rfl, rfl⟩)
    | (gi_at_call 53; refine (Try.slices_Sorted_keys_53_56 b l.length D0 rdNil w hown hmax hbytes).mono ?_; rintro e w' ⟨v, ss, rfl, hS, hrow, hnil, hb⟩))
  go_ret
  obtain ⟨r, r1, r2, r3⟩ := sorted_result H2.out H1.out hS (ownsRow_base_a hrow (base' := w.heap.size) (by simp))
  exact ⟨v, r, rfl, r1, r2, r3, ((Below.refl _ w).alloc (Nat.le_refl _) _).trans (hb.mono (by simp))⟩
open Go.Sort Go.Shelf in
set_option maxHeartbeats 1000000 in
theorem sorted46_nil (w : World) : Calls Try.prog 46 #[.map none] w (Listed w (fun _ => False)) := by
  refine (callsIn_wide (n := 6)).1 ?_
  have hfK : Fence.wide.fn 55 := trivial
  have hfS : Fence.wide.fn 53 := trivial
  refine callsIn_of_wp Try.func46 rfl trivial ?_ rfl
  simp only [Try.ntmps46, List.size_toArray, List.length_cons, List.length_nil, Nat.reduceAdd, Nat.reduceSub, Array.replicate_succ, Array.replicate_zero, List.push_toArray, List.append_toArray, List.nil_append, List.cons_append]
  gi_wp2_with (first
    | (gi_at_call 55; refine (Try.maps_Keys_55 _ _).mono ?_; rintro e w' ⟨rfl, rfl⟩)
    | (gi_at_call 53; refine (Try.slices_Sorted_keys_nil_53_55 w).mono ?_; rintro e w' ⟨v, ss, rfl, hS, hrow, hnil, hb⟩))
  go_ret
  obtain rfl := hnil.2 hS
  exact ⟨_, [], rfl, List.Pairwise.nil, fun x => by simp, Kd.R_nil _ _ _ _ _, ((Below.refl _ w).alloc (Nat.le_refl _) _).trans (hb.mono (by simp))⟩

/-! ### Names, Out, In -/
theorem fst_encM (l : List (ByteArray × Nat)) : (encM l).map Prod.fst = l.map Prod.fst := by unfold encM; rw [List.map_map]; rfl
theorem fst_encS (l : List ByteArray) : (encS l).map Prod.fst = l := by unfold encS; rw [List.map_map]; exact List.map_id l
theorem listed_congr {w : World} {S S' : ByteArray → Prop} (h : ∀ x, S x ↔ S' x) {e : Ending} {w' : World} (hl : Listed w S e w') : Listed w S' e w' := by
  obtain ⟨v, r, h1, h2, h3, h4⟩ := hl
  exact ⟨v, r, h1, h2, fun x => (h3 x).trans (h x), h4⟩
theorem SetAt.len {w : World} {b : Nat} {S : ByteArray → Prop} {N : List ByteArray} (h : SetAt w b S) (hS : ∀ x, S x → x ∈ N) : ∃ s, MapAt w b (encS s) ∧ (∀ x, x ∈ s ↔ S x) ∧ s.length ≤ N.length := by
  obtain ⟨s, h1, h2⟩ := h
  refine ⟨s, h1, h2, ?_⟩
  have hn := h1.nodup
  rw [fst_encS] at hn
  exact nodup_len hn (fun x hx => hS x ((h2 x).1 hx))

theorem Names_any {w : World} {B g : Nat} {N : List ByteArray} {E : Rel} (h : GraphAt w B g N E) (hN : N.length ≤ 1000000) :
    Calls Try.prog 20 #[.pointer (some ⟨g, 0, none⟩)] w (Listed w (fun x => x ∈ N)) := by
  obtain ⟨bo, bi, lo, li, hG⟩ := h
  have c0 := hG.cell0
  have hc := sorted44 hG.mo (by rw [show (encM lo).length = N.length from by rw [← hG.no]; simp [encM]]; exact hN)
  rw [fst_encM, hG.no] at hc
  have HC := Lib.hid hc
  clear hc hG hN
  go_enter Try.func20, Try.ntmps20
  go_wp2_with (go_at_call 44; refine HC.out.mono ?_; rintro e w' ⟨v, r, rfl, hl⟩; have HL := Lib.hid hl; clear hl)
  go_ret
  exact ⟨v, r, rfl, HL.out⟩
theorem Out_yes {w : World} {B g : Nat} {N : List ByteArray} {E : Rel} (h : GraphAt w B g N E) (hN : N.length ≤ 1000000) (nm : ByteArray) (hn : nm ∈ N) :
    Calls Try.prog 22 #[.pointer (some ⟨g, 0, none⟩), .string nm] w (Listed w (E nm)) := by
  obtain ⟨bo, bi, lo, li, hG⟩ := h
  have c0 := hG.cell0
  obtain ⟨b, _, hget, hset⟩ := hG.outOf hn
  obtain ⟨s, hs, hsE, hsl⟩ := hset.len (fun x hx => (hG.inN _ _ hx).2)
  have hrun := hG.mo.lookup Try.underlying65 Try.underlying9 (zero70 w) nm false
  rw [hget] at hrun
  simp only [Bool.false_eq_true, if_false, Option.getD_some] at hrun
  have HC := Lib.hid (sorted46 hs (by simp only [encS, List.length_map]; omega))
  rw [fst_encS] at HC
  have HE := Lib.hid hsE
  clear hget hset hs hsE hsl hG hN
  go_enter Try.func22, Try.ntmps22
  go_wp2_with (go_at_call 46; refine HC.out.mono ?_; rintro e w' ⟨v, r, rfl, hl⟩; have HL := Lib.hid hl; clear hl)
  go_ret
  exact listed_congr HE.out ⟨v, r, rfl, HL.out⟩
theorem Out_no {w : World} {B g : Nat} {N : List ByteArray} {E : Rel} (h : GraphAt w B g N E) (nm : ByteArray) (hn : nm ∉ N) :
    Calls Try.prog 22 #[.pointer (some ⟨g, 0, none⟩), .string nm] w (Listed w (E nm)) := by
  obtain ⟨bo, bi, lo, li, hG⟩ := h
  have c0 := hG.cell0
  have hget : getE (encM lo) nm = none := getE_encM_none (by rw [hG.no]; exact hn)
  have hrun := hG.mo.lookup Try.underlying65 Try.underlying9 (zero70 w) nm false
  rw [hget] at hrun
  simp only [Bool.false_eq_true, if_false, Option.getD_none] at hrun
  have HE := Lib.hid (show ∀ x, False ↔ E nm x from fun x => ⟨False.elim, fun hx => hn (hG.inN _ _ hx).1⟩)
  clear hget hG hn
  go_enter Try.func22, Try.ntmps22
  go_wp2_with (go_at_call 46; refine (sorted46_nil _).mono ?_; rintro e w' ⟨v, r, rfl, hl⟩; have HL := Lib.hid hl; clear hl)
  go_ret
  exact listed_congr HE.out ⟨v, r, rfl, HL.out⟩
theorem Out_any {w : World} {B g : Nat} {N : List ByteArray} {E : Rel} (h : GraphAt w B g N E) (hN : N.length ≤ 1000000) (nm : ByteArray) :
    Calls Try.prog 22 #[.pointer (some ⟨g, 0, none⟩), .string nm] w (Listed w (E nm)) := by
  by_cases hn : nm ∈ N
  · exact Out_yes h hN nm hn
  · exact Out_no h nm hn
theorem In_yes {w : World} {B g : Nat} {N : List ByteArray} {E : Rel} (h : GraphAt w B g N E) (hN : N.length ≤ 1000000) (nm : ByteArray) (hn : nm ∈ N) :
    Calls Try.prog 29 #[.pointer (some ⟨g, 0, none⟩), .string nm] w (Listed w (fun x => E x nm)) := by
  obtain ⟨bo, bi, lo, li, hG⟩ := h
  have c1 := hG.cell1
  obtain ⟨b, _, hget, hset⟩ := hG.inOf hn
  obtain ⟨s, hs, hsE, hsl⟩ := hset.len (fun x hx => (hG.inN _ _ hx).1)
  have hrun := hG.mi.lookup Try.underlying65 Try.underlying9 (zero70 w) nm false
  rw [hget] at hrun
  simp only [Bool.false_eq_true, if_false, Option.getD_some] at hrun
  have HC := Lib.hid (sorted46 hs (by simp only [encS, List.length_map]; omega))
  rw [fst_encS] at HC
  have HE := Lib.hid hsE
  clear hget hset hs hsE hsl hG hN
  go_enter Try.func29, Try.ntmps29
  go_wp2_with (go_at_call 46; refine HC.out.mono ?_; rintro e w' ⟨v, r, rfl, hl⟩; have HL := Lib.hid hl; clear hl)
  go_ret
  exact listed_congr HE.out ⟨v, r, rfl, HL.out⟩
theorem In_no {w : World} {B g : Nat} {N : List ByteArray} {E : Rel} (h : GraphAt w B g N E) (nm : ByteArray) (hn : nm ∉ N) :
    Calls Try.prog 29 #[.pointer (some ⟨g, 0, none⟩), .string nm] w (Listed w (fun x => E x nm)) := by
  obtain ⟨bo, bi, lo, li, hG⟩ := h
  have c1 := hG.cell1
  have hget : getE (encM li) nm = none := getE_encM_none (by rw [hG.ni]; exact hn)
  have hrun := hG.mi.lookup Try.underlying65 Try.underlying9 (zero70 w) nm false
  rw [hget] at hrun
  simp only [Bool.false_eq_true, if_false, Option.getD_none] at hrun
  have HE := Lib.hid (show ∀ x, False ↔ E x nm from fun x => ⟨False.elim, fun hx => hn (hG.inN _ _ hx).2⟩)
  clear hget hG hn
  go_enter Try.func29, Try.ntmps29
  go_wp2_with (go_at_call 46; refine (sorted46_nil _).mono ?_; rintro e w' ⟨v, r, rfl, hl⟩; have HL := Lib.hid hl; clear hl)
  go_ret
  exact listed_congr HE.out ⟨v, r, rfl, HL.out⟩
theorem In_any {w : World} {B g : Nat} {N : List ByteArray} {E : Rel} (h : GraphAt w B g N E) (hN : N.length ≤ 1000000) (nm : ByteArray) :
    Calls Try.prog 29 #[.pointer (some ⟨g, 0, none⟩), .string nm] w (Listed w (fun x => E x nm)) := by
  by_cases hn : nm ∈ N
  · exact In_yes h hN nm hn
  · exact In_no h nm hn
end Go.Proofs.Ytlccejbomgknkaa
